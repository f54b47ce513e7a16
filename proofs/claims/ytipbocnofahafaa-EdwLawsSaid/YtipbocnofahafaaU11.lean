/- Texts Ed3, Ed4, Ed5, Ed6, Ed7, EdK, Ed8, EdN, Eng29, Eng31, EdO, EdP, EdZ: what they show stands ahead of each. -/
import Derived.Test.YtipbocnofahafaaT10
import Derived.Test.YtipbocnofahafaaT5
import Derived.Deep.Slices
import Derived.WideKeyArgs
import Derived.Test.YtipbocnofahafaaT9
/- Points: the curve's number, the relations, what the sums keep. -/
namespace Go.Num
set_option linter.unusedVariables false
set_option linter.unusedSimpArgs false
open Go Go.Eng
set_option maxRecDepth 100000
def dNat : Nat := 37095705934669439343138083508754565189542113879843219016388785533085940283555
theorem d_bytes : leNat dBytes = dNat := by kernel_rfl
def dF : Fp := toF dNat
def iF : Fp := toF iNat
theorem i_sq : iNat * iNat % Pq = (Pq - 1 % Pq) % Pq := by kernel_rfl
theorem d_half : pwE Pq dNat (2 * mP) = Pq - 1 := by kernel_rfl
theorem d_ne : dNat % Pq ≠ 0 := by decide
theorem four_mP : 2 * (2 * mP) = Pq - 1 := by decide
theorem one_ne_P : ¬ (1 : Nat) = Pq - 1 := by decide
theorem toF_one : toF 1 = 1 := Fin.ext (Nat.mod_eq_of_lt (by decide))
theorem toF_nil : toF 0 = 0 := Fin.ext rfl
theorem pw_half (x : Nat) : pwE Pq x (2 * mP) = x ^ (2 * mP) % Pq := (pwE_val (by decide) (by kernel_rfl)).symm
theorem not_sq (a w n m : Nat) (hm : 2 * n = m) (hf : ∀ a, a % Pq ≠ 0 → a ^ m % Pq = 1) (hw : w * w % Pq = a % Pq) (ha : a % Pq ≠ 0) : a ^ n % Pq = 1 := by
  have h0 : w % Pq ≠ 0 := fun e => ha (by rw [← hw, Nat.mul_mod, e]; rfl)
  rw [← pow_congr hw, ← Nat.pow_two, ← Nat.pow_mul, hm]
  exact hf w h0
theorem crv : Crv dF iF := ⟨by
    show toF iNat * toF iNat = -1
    rw [← toF_mul, ← toF_one, ← toF_neg]
    exact toF_eq.2 i_sq, fun w hw => by
    have h1 : w.val * w.val % Pq = dNat % Pq := by
      have := congrArg Fin.val hw
      rw [Fin.val_mul] at this
      exact this
    have h2 := not_sq dNat w.val (2 * mP) (Pq - 1) four_mP (fun a ha => genP.fermat ha) h1 d_ne
    rw [← pw_half, d_half] at h2
    exact one_ne_P h2.symm⟩
/-! ### relations -/
def R4 {R S : Type} (r : R → S → Prop) (p : P4 R) (q : P4 S) : Prop := r p.x q.x ∧ r p.y q.y ∧ r p.z q.z ∧ r p.t q.t
theorem add_keeps {R S : Type} {o : Ops R} {o' : Ops S} {r : R → S → Prop} (k : Keeps o o' r) {p q : P4 R} {p' q' : P4 S} {d : R} {d' : S} (hd : r d d') (hp : R4 r p p') (hq : R4 r q q') : R4 r (addO o d p q) (addO o' d' p' q') := by
  have a := k.add (k.mul hp.1 hq.2.1) (k.mul hp.2.1 hq.1)
  have b := k.add (k.mul hp.2.1 hq.2.1) (k.mul hp.1 hq.1)
  have c := k.mul (k.mul hd hp.2.2.2) hq.2.2.2
  have e := k.mul hp.2.2.1 hq.2.2.1
  have f := k.sub e c
  have g := k.add e c
  exact ⟨k.mul a f, k.mul g b, k.mul f g, k.mul a b⟩
structure Re (a : E5) (f : Fp) : Prop where
  ok : a.ok
  val : toF a.val = f
theorem re_of {a : E5} {n : Nat} (h : Vm a n) : Re a (toF n) := ⟨h.ok, toF_eq.2 h.val⟩
theorem Re.vm {a : E5} {f : Fp} (h : Re a f) : Vm a a.val := ⟨h.ok, rfl⟩
theorem keeps_EF : Keeps opsE opsF Re where
  add := fun {a b x y} h k => by
    have := re_of (h.vm.add k.vm)
    rw [toF_add, h.val, k.val] at this
    exact this
  sub := fun {a b x y} h k => by
    have := re_of (h.vm.sub k.vm)
    rw [toF_sub, h.val, k.val] at this
    exact this
  mul := fun {a b x y} h k => by
    have := re_of (h.vm.mul k.vm)
    rw [toF_mul, h.val, k.val] at this
    exact this
  small := fun n => re_of (vm_small n)
  zero := re_of vm_zero
theorem re_neg {a : E5} {f : Fp} (h : Re a f) : Re (negE a) (-f) := by
  have := re_of h.vm.neg
  rw [toF_neg, h.val] at this
  exact this
theorem re_same {a b : E5} {f g : Fp} (h : Re a f) (k : Re b g) : sameE a b = decide (f = g) := by
  rw [h.vm.same k.vm, ← h.val, ← k.val]
  exact decide_eq_decide.2 toF_eq.symm
theorem re_zero : Re zeroE 0 := by have := re_of vm_zero; rw [toF_nil] at this; exact this
theorem re_one : Re (smallE 1) 1 := by
  have := re_of (vm_small 1)
  rw [show (1 : UInt32).toNat = 1 from rfl, toF_one] at this
  exact this
theorem re_inv {a : E5} {f : Fp} (h : Re a f) (hf : f ≠ 0) : Re (invE a) (invF f) := by
  have h1 := inv_one h.ok
  have h2 : a.val % Pq ≠ 0 := fun e => hf (by rw [← h.val]; exact toF_zero.2 e)
  rw [decide_eq_true h2] at h1
  have h3 := re_of (vm_inv h.vm)
  have h4 := keeps_EF.mul h h3
  rw [show opsE.mul a (invE a) = mulE a (invE a) from rfl] at h4
  rw [re_same h4 re_one] at h1
  have h5 : f * toF (a.val ^ (Pq - 2)) = 1 := of_decide_eq_true h1
  have h6 : toF (a.val ^ (Pq - 2)) = invF f := F_cancel hf (by rw [h5, invF_mul hf])
  rw [h6] at h3
  exact h3
theorem re_inv_one {a : E5} (h : Re a 1) : Re (invE a) 1 := by
  have e : invF (1 : Fp) = 1 := by have := invF_mul F_one; grind -lia -linarith (splits := 0)
  have := re_inv h F_one
  rw [e] at this
  exact this
/-- A point: the program's, the document's, the curve's. -/
structure PR (p : P4 E5) (q : P4 N16) (f : P4 Fp) : Prop where
  rel : R4 Rel p q
  val : R4 Re p f
  on : On dF f
theorem rel_d : Rel (curveφ realFe) (givenφ realFe) := rel_of (s := dBytes) (by kernel_rfl)
theorem re_d : Re (curveφ realFe) dF := by
  have h : Re (curveφ realFe) (toF (curveφ realFe).val) := ⟨ofEl_ok _, rfl⟩
  have e : toF (curveφ realFe).val = dF := toF_eq.2 (by
    have := ofEl_val (s := dBytes) (by kernel_rfl)
    rw [d_bytes] at this
    exact this)
  rw [e] at h
  exact h
theorem none_of {p : P4 E5} {f : P4 Fp} (h : R4 Re p f) (hz : f.z ≠ 0) : noneφ realFe p = false := by
  show sameE p.z zeroE = false
  rw [re_same h.2.2.1 re_zero]
  exact decide_eq_false hz
theorem PR.some {p : P4 E5} {q : P4 N16} {f : P4 Fp} (h : PR p q f) : noneφ realFe p = false := none_of h.val h.on.z
theorem add_eq (p q : P4 E5) (hp : noneφ realFe p = false) (hq : noneφ realFe q = false) : addφ realFe p q = addO opsE (curveφ realFe) p q := by
  unfold addφ
  rw [hp, hq, cond_false, cond_false]; rfl
theorem PR.add {p p' : P4 E5} {q q' : P4 N16} {f f' : P4 Fp} (h : PR p q f) (k : PR p' q' f') : PR (addφ realFe p p') (addψ realFe q q') (addO opsF dF f f') := by
  rw [add_eq p p' h.some k.some]
  exact ⟨add_keeps keeps_EN rel_d h.rel k.rel, add_keeps keeps_EF re_d h.val k.val, On.add crv h.on k.on⟩
theorem re_mul {a b : E5} {f g : Fp} (h : Re a f) (k : Re b g) : Re (mulE a b) (f * g) := keeps_EF.mul h k
theorem re_add {a b : E5} {f g : Fp} (h : Re a f) (k : Re b g) : Re (addE a b) (f + g) := keeps_EF.add h k
theorem re_sub {a b : E5} {f g : Fp} (h : Re a f) (k : Re b g) : Re (subE a b) (f - g) := keeps_EF.sub h k
theorem zero_phi : zeroφ realFe = ⟨zeroE, smallE 1, smallE 1, zeroE⟩ := by simp only [zeroφ, realFe]
theorem zero_psi : zeroψ realFe = ⟨zeroN, smallN 1, smallN 1, zeroN⟩ := by simp only [zeroψ, realFe]
theorem r4_mk {R S : Type} {r : R → S → Prop} {a b c d : R} {a' b' c' d' : S} (h1 : r a a') (h2 : r b b') (h3 : r c c') (h4 : r d d') : R4 r ⟨a, b, c, d⟩ ⟨a', b', c', d'⟩ := ⟨h1, h2, h3, h4⟩
theorem re_zero4 : R4 Re ⟨zeroE, smallE 1, smallE 1, zeroE⟩ zero4 := by
  have h0 := re_zero
  have h1 := re_one
  generalize zeroE = a at h0 ⊢
  generalize smallE 1 = b at h1 ⊢
  exact r4_mk h0 h1 h1 h0
theorem rel_zero4 : R4 Rel ⟨zeroE, smallE 1, smallE 1, zeroE⟩ ⟨zeroN, smallN 1, smallN 1, zeroN⟩ := r4_mk rel_zero (rel_small 1) (rel_small 1) rel_zero
theorem neg_phi (p : P4 E5) (h : noneφ realFe p = false) : negφ realFe p = ⟨negE p.x, p.y, p.z, negE p.t⟩ := by
  unfold negφ
  rw [h, cond_false]
  simp only [negO, realFe]
theorem neg_psi (q : P4 N16) : negψ realFe q = ⟨negP q.x, q.y, q.z, negP q.t⟩ := by simp only [negψ, negO, realFe]
theorem PR.neg {p : P4 E5} {q : P4 N16} {f : P4 Fp} (h : PR p q f) : PR (negφ realFe p) (negψ realFe q) (negO (fun a => -a) f) := by
  rw [neg_phi p h.some, neg_psi]
  have e : negO (fun a => -a) f = ⟨-f.x, f.y, f.z, -f.t⟩ := by simp only [negO]
  have o := h.on.neg
  rw [e] at o ⊢
  exact ⟨r4_mk (rel_neg h.rel.1) h.rel.2.1 h.rel.2.2.1 (rel_neg h.rel.2.2.2), r4_mk (re_neg h.val.1) h.val.2.1 h.val.2.2.1 (re_neg h.val.2.2.2), o⟩
theorem pr_zero : PR (zeroφ realFe) (zeroψ realFe) zero4 := by
  rw [zero_phi, zero_psi]
  exact ⟨rel_zero4, re_zero4, On.zero dF⟩
theorem PR.ok {p : P4 E5} {q : P4 N16} {f : P4 Fp} (h : PR p q f) : okQ0 realFe q = true := by
  unfold okQ0
  simp only [Bool.and_eq_true]
  exact ⟨okB_iff.2 h.rel.1.okP, okB_iff.2 h.rel.2.1.okP, okB_iff.2 h.rel.2.2.1.okP, okB_iff.2 h.rel.2.2.2.okP⟩
theorem PR.same {p p' : P4 E5} {q q' : P4 N16} {f f' : P4 Fp} (h : PR p q f) (k : PR p' q' f') : sameφ realFe p p' = sameψ realFe q q' := by
  unfold sameφ sameψ
  rw [h.some, k.some, cond_false, cond_false]
  show cond (sameE (mulE p.x p'.z) (mulE p'.x p.z)) (sameE (mulE p.y p'.z) (mulE p'.y p.z)) false = _
  rw [rel_same (rel_mul h.rel.1 k.rel.2.2.1) (rel_mul k.rel.1 h.rel.2.2.1), rel_same (rel_mul h.rel.2.1 k.rel.2.2.1) (rel_mul k.rel.2.1 h.rel.2.2.1)]
  rfl
theorem PR.same_iff {p p' : P4 E5} {q q' : P4 N16} {f f' : P4 Fp} (h : PR p q f) (k : PR p' q' f') : sameφ realFe p p' = true ↔ aff f = aff f' := by
  rw [← same_aff h.on k.on]
  unfold sameφ SameP
  rw [h.some, k.some, cond_false, cond_false]
  show cond (sameE (mulE p.x p'.z) (mulE p'.x p.z)) (sameE (mulE p.y p'.z) (mulE p'.y p.z)) false = true ↔ _
  rw [re_same (re_mul h.val.1 k.val.2.2.1) (re_mul k.val.1 h.val.2.2.1), re_same (re_mul h.val.2.1 k.val.2.2.1) (re_mul k.val.2.1 h.val.2.2.1)]
  generalize f.x * f'.z = a
  generalize f'.x * f.z = b
  generalize f.y * f'.z = c
  generalize f'.y * f.z = d
  by_cases h1 : a = b
  · rw [decide_eq_true h1, cond_true]
    exact Iff.intro (fun h2 => And.intro h1 (of_decide_eq_true h2)) (fun h2 => decide_eq_true h2.2)
  · rw [decide_eq_false h1, cond_false]
    exact Iff.intro (fun h2 => by cases h2) (fun h2 => absurd h2.1 h1)
theorem PR.small {p : P4 E5} {q : P4 N16} {f : P4 Fp} (h : PR p q f) : realFi.small p = realFi.smallQ q := by
  rw [small_eq, smallQ_eq]
  exact PR.same (((h.add h).add (h.add h)).add ((h.add h).add (h.add h))) pr_zero
end Go.Num

/- Points: bytes, what is read, multiples. -/
namespace Go.Num
set_option linter.unusedVariables false
set_option linter.unusedSimpArgs false
open Go Go.Eng
set_option maxRecDepth 100000
theorem byL_phi (a : E5) : byLφ realFe a = bytesE a := by simp only [byLφ, realFe, bytesE]
theorem byL_psi0 (x : N16) : ((List.range 32).map fun i => (shr_u64 (x.list.getD (i / 2) 0) (i % 2 * 8)).toUInt8) = bytesN x := by kernel_rfl
theorem rel_cond {b : Bool} {x y : E5} {x' y' : N16} (h : Rel x x') (k : Rel y y') : Rel (cond b x y) (cond b x' y') := by
  cases b
  · exact k
  · exact h
theorem ok_bool (c h z d : Bool) : cond c (cond h (cond d (!z) true) false) false = cond c (cond h (cond z (!d) true) false) false := by cases c <;> cases h <;> cases z <;> cases d <;> rfl
theorem not_t {b : Bool} (h : (!b) = true) : b = false := by cases b <;> first | rfl | cases h
theorem three_bool0 : ∀ c h d z : Bool, cond c (cond h (cond d (!z) true) false) false = true → c = true ∧ h = true ∧ (d = true → z = false) := by decide
theorem three_bool {c h d z : Bool} (k : cond c (cond h (cond d (!z) true) false) false = true) : c = true ∧ h = true ∧ (d = true → z = false) := three_bool0 c h d z k
theorem r_bool {c d : Bool} (h : (cond c (cond d (0 : Int) 40) 2) = 0) : c = true ∧ d = true := by cases c <;> cases d <;> first | exact ⟨rfl, rfl⟩ | exact absurd h (by decide)
theorem byL_psi (x : N16) : byLψ realFe x = bytesN x := by
  rw [← byL_psi0]
  simp only [byLψ, realFe]
theorem bytesN_len2 (x : N16) : (bytesN x).length = 32 := by rw [← byL_psi0, List.length_map, List.length_range]
theorem par (c : UInt64) : shl_u8 ((c &&& 1).toUInt8) 7 = cond ((c &&& 1) == 1) 128 0 := by
  have h := and_nat c 1 1 rfl
  rcases Nat.mod_two_eq_zero_or_one c.toNat with e | e
  · have : c &&& 1 = 0 := UInt64.toNat_inj.1 (by rw [h]; exact e)
    rw [this]; rfl
  · have : c &&& 1 = 1 := UInt64.toNat_inj.1 (by rw [h]; exact e)
    rw [this]; rfl
theorem set_self (l : List UInt8) (h : l.length = 32) : l.set 31 (l.getD 31 0 ||| 0) = l := by
  rw [List.getD_eq_getElem?_getD, List.getElem?_eq_getElem (by omega), Option.getD_some, UInt8.or_zero, List.set_getElem_self]
theorem bytes_gen (l : List UInt8) (hl : l.length = 32) (c : UInt64) : l.set 31 (l.getD 31 0 ||| shl_u8 ((c &&& 1).toUInt8) 7) = cond ((c &&& 1) == 1) (top128 l) l := by
  rw [par]
  cases (c &&& 1) == 1
  · rw [cond_false, cond_false, set_self l hl]
  · rfl
theorem bytes_phi (p : P4 E5) (h : noneφ realFe p = false) : bytesφ realFe p = cond (oddE (mulE p.x (invE p.z))) (top128 (bytesE (mulE p.y (invE p.z)))) (bytesE (mulE p.y (invE p.z))) := by
  unfold bytesφ
  rw [h, cond_false, byL_phi]
  simp only [realFe]
theorem bytes_psi (q : P4 N16) : bytesψ realFe q = cond (oddP (mulP q.x (invP q.z))) (top128 (bytesN (mulP q.y (invP q.z)))) (bytesN (mulP q.y (invP q.z))) := by
  unfold bytesψ
  rw [byL_psi, bytes_gen _ (bytesN_len2 _)]
  simp only [realFe, oddP]
theorem PR.bytes {p : P4 E5} {q : P4 N16} {f : P4 Fp} (h : PR p q f) : bytesφ realFe p = bytesψ realFe q := by
  have hi := rel_inv h.rel.2.2.1
  rw [bytes_phi p h.some, bytes_psi, rel_odd (rel_mul h.rel.1 hi), (rel_mul h.rel.2.1 hi).bytes]
/-! ### the curve's number -/
theorem dval {a b c : Nat} {x : N16} {e : E5} (h : Rel e x) (v : Vm e ((Pq - a % Pq) * b ^ (Pq - 2))) (k : (Pq - a % Pq) * pwE Pq b (Pq - 2) % Pq = c) : x.val = c := by
  rw [h.val, v.val, ← k, pw_inv, Nat.mul_mod_mod]
theorem d_comp : (Pq - 121665 % Pq) * pwE Pq 121666 (Pq - 2) % Pq = dNat % Pq := by kernel_rfl
theorem d_phi : dφ realFe = mulP (negP (smallN 121665)) (invP (smallN 121666)) := by simp only [dφ, realFe]
theorem given_phi : givenφ realFe = ofP dBytes := by simp only [givenφ, realFe]
theorem d_given : dφ realFe = givenφ realFe := by
  rw [d_phi, given_phi]
  have r := rel_mul (rel_neg (rel_small 121665)) (rel_inv (rel_small 121666))
  have v := Vm.mul (Vm.neg (vm_small 121665)) (vm_inv (vm_small 121666))
  rw [show (121665 : UInt32).toNat = 121665 from rfl, show (121666 : UInt32).toNat = 121666 from rfl] at v
  have e := dval r v d_comp
  have k := rel_of (s := dBytes) (by kernel_rfl)
  refine N16.ext_val r.okP k.okP ?_
  rw [e, k.val, ofEl_val (by kernel_rfl), d_bytes]
theorem samP_self (a : N16) : samP a a = true := by rw [samP_eq]; exact decide_eq_true rfl
theorem given_true : realFi.given = true := by
  rw [given_eq, ← d_given]
  exact samP_self _
/-! ### reading -/
theorem rel_y {s : List UInt8} (h : isLen s 32 = true) : Rel (yφ realFe s) (yψ realFe s) := rel_of (topL_len h)
theorem v_phi (s : List UInt8) : vφ realFe s = addE (mulE (curveφ realFe) (mulE (yφ realFe s) (yφ realFe s))) (smallE 1) := by simp only [vφ, realFe]
theorem v_psi (s : List UInt8) : vψ realFe s = addP (mulP (givenφ realFe) (mulP (yψ realFe s) (yψ realFe s))) (smallN 1) := by
  rw [← d_given]; simp only [vψ, realFe]
theorem u_phi (s : List UInt8) : uφ realFe s = mulE (subE (mulE (yφ realFe s) (yφ realFe s)) (smallE 1)) (invE (vφ realFe s)) := by simp only [uφ, realFe]
theorem u_psi (s : List UInt8) : uψ realFe s = mulP (subP (mulP (yψ realFe s) (yψ realFe s)) (smallN 1)) (invP (vψ realFe s)) := by simp only [uψ, realFe]
theorem rel_v {s : List UInt8} (h : isLen s 32 = true) : Rel (vφ realFe s) (vψ realFe s) := by
  rw [v_phi, v_psi]
  exact rel_add (rel_mul rel_d (rel_mul (rel_y h) (rel_y h))) (rel_small 1)
theorem rel_u {s : List UInt8} (h : isLen s 32 = true) : Rel (uφ realFe s) (uψ realFe s) := by
  rw [u_phi, u_psi]
  exact rel_mul (rel_sub (rel_mul (rel_y h) (rel_y h)) (rel_small 1)) (rel_inv (rel_v h))
theorem x_phi (s : List UInt8) : xφ realFe s = cond (decOdd s) (negE (rootE (uφ realFe s))) (rootE (uφ realFe s)) := by simp only [xφ, realFe]
theorem x_psi (s : List UInt8) : xψ realFe s = cond (decOdd s) (negP (rootP (uψ realFe s))) (rootP (uψ realFe s)) := by simp only [xψ, realFe]
theorem rel_x {s : List UInt8} (h : isLen s 32 = true) : Rel (xφ realFe s) (xψ realFe s) := by
  rw [x_phi, x_psi]
  exact rel_cond (rel_neg (rel_root (rel_u h))) (rel_root (rel_u h))
theorem ok_phi (s : List UInt8) : okφ realFe s = cond (canonE (topL s)) (cond (hasE (uφ realFe s)) (cond (decOdd s) (!sameE (rootE (uφ realFe s)) zeroE) true) false) false := by simp only [okφ, realFe]
theorem ok_psi (s : List UInt8) : okψ realFe s = cond (canonP (topL s)) (cond (hasP (uψ realFe s)) (cond (samP (rootP (uψ realFe s)) zeroN) (!decOdd s) true) false) false := by simp only [okψ, realFe]
theorem ok_gen {a b c c' h h' z z' d : Bool} (ha : a = cond c (cond h (cond d (!z) true) false) false) (hb : b = cond c' (cond h' (cond z' (!d) true) false) false) (e1 : c = c') (e2 : h = h') (e3 : z = z') : a = b := by
  subst e1 e2 e3
  rw [ha, hb]
  exact ok_bool c h z d
theorem zero_same {s : List UInt8} (h : isLen s 32 = true) : sameE (rootE (uφ realFe s)) zeroE = samP (rootP (uψ realFe s)) zeroN := rel_same (rel_root (rel_u h)) rel_zero
theorem has_same {s : List UInt8} (h : isLen s 32 = true) : hasE (uφ realFe s) = hasP (uψ realFe s) := rel_has (rel_u h)
theorem ok_same {s : List UInt8} (h : isLen s 32 = true) : okφ realFe s = okψ realFe s :=
  ok_gen (ok_phi s) (ok_psi s) (canonE_eq (topL s)) (has_same h) (zero_same h)
theorem r_gen {l a b : Bool} (h : l = true → a = b) : cond l (cond a (0 : Int) 40) 2 = cond l (cond b 0 40) 2 := by
  cases l
  · rfl
  · rw [h rfl]
theorem decR_same (s : List UInt8) : decRφ realFe s = decRψ realFe s := by
  unfold decRφ decRψ
  exact r_gen fun h => ok_same h
theorem decR_ok {s : List UInt8} (h : decRφ realFe s = 0) : isLen s 32 = true ∧ okφ realFe s = true := by
  unfold decRφ at h
  exact r_bool h
theorem e_bool {α : Type} {c d : Bool} (h : ¬ (cond c (cond d (0 : Int) 40) 2) = 0) (x e : α) : cond c (cond d x e) e = e := by cases c <;> cases d <;> first | rfl | exact absurd rfl h
theorem dec_none {s : List UInt8} (h : decRφ realFe s ≠ 0) : decφ realFe s = emptyE := by
  unfold decφ
  unfold decRφ at h
  exact e_bool h _ _
theorem dec_phi {s : List UInt8} (h : decRφ realFe s = 0) : decφ realFe s = ⟨xφ realFe s, yφ realFe s, smallE 1, mulE (xφ realFe s) (yφ realFe s)⟩ := by
  obtain ⟨h1, h2⟩ := decR_ok h
  unfold decφ
  rw [h1, h2, cond_true, cond_true]
  simp only [decPφ, realFe]
theorem dec_psi {s : List UInt8} (h : decRφ realFe s = 0) : decψ realFe s = ⟨xψ realFe s, yψ realFe s, smallN 1, mulP (xψ realFe s) (yψ realFe s)⟩ := by
  obtain ⟨h1, h2⟩ := decR_ok h
  unfold decψ
  rw [h1, ← ok_same h1, h2, cond_true, cond_true]
  simp only [ofXYψ, realFe]
theorem re_val {a : E5} (h : a.ok) : Re a (toF a.val) := ⟨h, rfl⟩
theorem ok_parts {s : List UInt8} (h : decRφ realFe s = 0) : canonE (topL s) = true ∧ hasE (uφ realFe s) = true ∧ (decOdd s = true → sameE (rootE (uφ realFe s)) zeroE = false) := by
  have h2 := (decR_ok h).2
  rw [ok_phi] at h2
  exact three_bool h2
theorem lit5 (y d : Fp) (h : d * (y * y) + 1 = 0) (i : Fp) (hi : i * i = -1) : d * (y * y) = i * i := by grind -lia -linarith (splits := 0)
theorem lit6 (d y o z : Fp) (hz : z = 0) (hy : y = z) (h : d * (y * y) + o = z) : o = z := by grind -lia -linarith (splits := 0)
theorem lit7 (d x y v w : Fp) (hv : v = d * (y * y) + 1) (hw : v * w = 1) (hx : x * x = (y * y - 1) * w) : y * y - x * x = 1 + d * (x * y) * (x * y) := by grind -lia -linarith (splits := 0)
theorem lit8 (r : Fp) : -r * -r = r * r := by grind -lia -linarith (splits := 0)
theorem pr_up {x y z t : E5} {x' y' z' t' : N16} {X Y Z : Fp} (rx : Rel x x') (ry : Rel y y') (rz : Rel z z') (rt : Rel t t') (ex : Re x X) (ey : Re y Y) (ez : Re z Z) (et : Re t (X * Y)) (hz : Z = 1) (ho : OnA dF (X, Y)) : PR ⟨x, y, z, t⟩ ⟨x', y', z', t'⟩ (up (X, Y)) := by
  subst hz
  exact ⟨⟨rx, ry, rz, rt⟩, ⟨ex, ey, ez, et⟩, on_up ho⟩
theorem re_flip {b : Bool} {r : E5} {R : Fp} (er : Re r R) : ∃ X, Re (cond b (negE r) r) X ∧ X * X = R * R := by
  cases b
  · exact ⟨R, er, rfl⟩
  · exact ⟨-R, re_neg er, lit8 R⟩
theorem on_parts {d X Y V W R U : Fp} (hV : V = d * (Y * Y) + 1) (hW : V * W = 1) (hU : U = (Y * Y - 1) * W) (hR : R * R = U) (hX : X * X = R * R) : OnA d (X, Y) := by
  show Y * Y - X * X = 1 + d * (X * Y) * (X * Y)
  exact lit7 d X Y V W hV hW (by rw [hX, hR, hU])
theorem v_ne {d Y : Fp} (c : Crv d iF) : d * (Y * Y) + 1 ≠ 0 := fun e => F_one (lit6 _ _ _ _ rfl (ns_zero c (lit5 _ _ e iF c.ii)) e)
theorem pr_dec {s : List UInt8} (h : decRφ realFe s = 0) : ∃ a : Fp × Fp, PR (decφ realFe s) (decψ realFe s) (up a) := by
  have h1 := (decR_ok h).1
  have hp := ok_parts h
  have rx := rel_x h1
  have ry := rel_y h1
  have ey := re_val ry.ok
  have hsq := root_sq (rel_u h1).ok hp.2.1
  have er := re_val (root_nat (rel_u h1).ok).1
  rw [dec_phi h, dec_psi h]
  obtain ⟨X, ex, hX⟩ := re_flip (b := decOdd s) er
  rw [← x_phi] at ex
  generalize toF (yφ realFe s).val = Y at ey
  generalize toF (rootE (uφ realFe s)).val = R at er hX
  have ev := re_add (re_mul re_d (re_mul ey ey)) re_one
  rw [← v_phi] at ev
  have hv := v_ne crv (Y := Y)
  have eu := re_mul (re_sub (re_mul ey ey) re_one) (re_inv ev hv)
  rw [← u_phi] at eu
  rw [re_same (re_mul er er) eu] at hsq
  exact ⟨(X, Y), pr_up rx ry (rel_small 1) (rel_mul rx ry) ex ey re_one (re_mul ex ey) rfl (on_parts rfl (invF_mul hv) rfl (of_decide_eq_true hsq) hX)⟩
end Go.Num

/- Points: the bytes of what was read; the curve; multiples. -/
namespace Go.Num
set_option linter.unusedVariables false
set_option linter.unusedSimpArgs false
open Go Go.Eng
set_option maxRecDepth 100000
theorem re_eq {a b : E5} {f : Fp} (h : Re a f) (k : Re b f) : a.val % Pq = b.val % Pq := toF_eq.1 (h.val.trans k.val.symm)
theorem re_odd {a b : E5} {f : Fp} (h : Re a f) (k : Re b f) : oddE a = oddE b := by rw [oddE_eq, oddE_eq, re_eq h k]
theorem re_bytes {a b : E5} {f : Fp} (h : Re a f) (k : Re b f) : bytesE a = bytesE b := bytesE_eq (re_eq h k)
theorem mul_one_re {a o : E5} {f : Fp} (h : Re a f) (k : Re o 1) : Re (mulE a (invE o)) f := by
  have := re_mul h (re_inv_one k)
  have e : f * 1 = f := by grind -lia -linarith (splits := 0)
  rw [e] at this
  exact this
theorem neg_odd {P y : Nat} (hP : P % 2 = 1) (hlt : y < P) (h0 : y ≠ 0) (hy : ¬ y % 2 = 1) : (P - y) % P % 2 = 1 := by
  rw [Nat.mod_eq_of_lt (by omega : P - y < P)]
  omega
theorem odd_neg {r : E5} (h : r.ok) (hr : oddE r = false) (h0 : sameE r zeroE = false) : oddE (negE r) = true := by
  rw [oddE_eq] at hr ⊢
  rw [sameE_eq, zeroE_val] at h0
  have h1 := of_decide_eq_false hr
  have h2 := of_decide_eq_false h0
  refine decide_eq_true ?_
  rw [(neg_nat h).2]
  have h3 := Nat.mod_lt r.val Pq_pos
  generalize r.val % Pq = y at h1 h2 h3 ⊢
  refine neg_odd P_odd h3 (fun e => h2 (by rw [e]; rfl)) h1
theorem odd_flip {d : Bool} {r : E5} (h : r.ok) (hr : oddE r = false) (h0 : d = true → sameE r zeroE = false) : oddE (cond d (negE r) r) = d := by
  cases d
  · exact hr
  · exact odd_neg h hr (h0 rfl)
theorem top_odd (b : UInt8) : (cond (shr_u8 b 7 == 1) ((b &&& 127) ||| 128) (b &&& 127)) = b := by
  have := all8 (f := fun b => (cond (shr_u8 b 7 == 1) ((b &&& 127) ||| 128) (b &&& 127)) == b) (by kernel_rfl) b
  exact eq_of_beq this
theorem set_get (s : List UInt8) (h : s.length = 32) (x : UInt8) : (s.set 31 x).getD 31 0 = x := by
  rw [List.getD_eq_getElem?_getD, List.getElem?_set]
  simp [h]
theorem set_back (s : List UInt8) (h : s.length = 32) : s.set 31 (s.getD 31 0) = s := by
  rw [List.getD_eq_getElem?_getD, List.getElem?_eq_getElem (by omega), Option.getD_some, List.set_getElem_self]
theorem top_back (s : List UInt8) (h : s.length = 32) : cond (decOdd s) (top128 (topL s)) (topL s) = s := by
  unfold top128 topL decOdd
  rw [set_get s h, List.set_set]
  have e := top_odd (s.getD 31 0)
  cases hb : (shr_u8 (s.getD 31 0) 7 == 1) <;> rw [hb] at e
  · rw [cond_false] at e ⊢
    rw [e, set_back s h]
  · rw [cond_true] at e ⊢
    rw [e, set_back s h]
theorem canon_bytes2 {s : List UInt8} (h : canonE s = true) : bytesE (ofEl s) = s := by
  unfold canonE at h
  exact eq_of_beq (Bool.and_eq_true_iff.1 h).2
theorem y_phi (s : List UInt8) : yφ realFe s = ofEl (topL s) := by simp only [yφ, realFe]
theorem bytes_parts {x y o : E5} {X Y : Fp} (hx : Re x X) (hy : Re y Y) (ho : Re o 1) {t : E5} {f : P4 Fp} {s : List UInt8} {d : Bool} (hn : noneφ realFe ⟨x, y, o, t⟩ = false) (hd : oddE x = d) (hb : bytesE y = topL s) (hs : cond d (top128 (topL s)) (topL s) = s) : bytesφ realFe ⟨x, y, o, t⟩ = s := by
  rw [bytes_phi _ hn, re_odd (mul_one_re hx ho) hx, re_bytes (mul_one_re hy ho) hy, hd, hb, hs]
theorem dec_bytes {s : List UInt8} (h : decRφ realFe s = 0) : bytesφ realFe (decφ realFe s) = s := by
  have h1 := (decR_ok h).1
  have hp := ok_parts h
  obtain ⟨a, pr⟩ := pr_dec h
  have hn := pr.some
  rw [dec_phi h] at hn ⊢
  have rx := re_val (rel_x h1).ok
  have ry := re_val (rel_y h1).ok
  have r0 := (root_nat (rel_u h1).ok).1
  have ho := odd_flip r0 (root_even (rel_u h1).ok) hp.2.2
  rw [← x_phi] at ho
  have hb := canon_bytes2 hp.1
  rw [← y_phi] at hb
  exact bytes_parts (f := zero4) rx ry re_one hn ho hb (top_back s (isLen_eq.1 h1))
/-! ### the curve -/
theorem on_eq {d x y z t : Fp} (hc : y * y - x * x = z * z + d * t * t) (hk : x * y = z * t) : (y * y - x * x) * (z * z) = (z * z) * (z * z) + (d * (x * x)) * (y * y) := by
  grind -lia -linarith (splits := 0)
theorem on_psi (q : P4 N16) : onψ realFe q = samP (mulP (subP (mulP q.y q.y) (mulP q.x q.x)) (mulP q.z q.z)) (addP (mulP (mulP q.z q.z) (mulP q.z q.z)) (mulP (mulP (givenφ realFe) (mulP q.x q.x)) (mulP q.y q.y))) := by simp only [onψ, realFe]
theorem PR.onQ {p : P4 E5} {q : P4 N16} {f : P4 Fp} (h : PR p q f) : onψ realFe q = true := by
  have xx := rel_mul h.rel.1 h.rel.1
  have yy := rel_mul h.rel.2.1 h.rel.2.1
  have zz := rel_mul h.rel.2.2.1 h.rel.2.2.1
  have exx := re_mul h.val.1 h.val.1
  have eyy := re_mul h.val.2.1 h.val.2.1
  have ezz := re_mul h.val.2.2.1 h.val.2.2.1
  have e := re_same (re_mul (re_sub eyy exx) ezz) (re_add (re_mul ezz ezz) (re_mul (re_mul re_d exx) eyy))
  rw [rel_same (rel_mul (rel_sub yy xx) zz) (rel_add (rel_mul zz zz) (rel_mul (rel_mul rel_d xx) yy))] at e
  rw [on_psi, e]
  exact decide_eq_true (on_eq h.on.c h.on.k)
/-! ### multiples -/
def bv (bit : Nat → Bool) : Nat → Nat
  | 0 => 0
  | j + 1 => 2 * bv bit j + cond (bit (255 - j)) 1 0
theorem bv_eq (bit : Nat → Bool) (V : Nat) (h : ∀ i, i < 256 → bit i = decide (V / 2 ^ i % 2 = 1)) (hV : V < 2 ^ 256) : ∀ j, j ≤ 256 → bv bit j = V / 2 ^ (256 - j)
  | 0, _ => by
    unfold bv
    rw [Nat.sub_zero, Nat.div_eq_of_lt hV]
  | j + 1, hj => by
    have ih := bv_eq bit V h hV j (by omega)
    unfold bv
    rw [ih, h (255 - j) (by omega)]
    have e1 : 256 - j = (255 - j) + 1 := by omega
    have e2 : 256 - (j + 1) = 255 - j := by omega
    rw [e1, e2, Nat.pow_succ, ← Nat.div_div_eq_div_mul]
    generalize V / 2 ^ (255 - j) = W
    rcases Nat.mod_two_eq_zero_or_one W with h0 | h0
    · rw [h0, decide_eq_false (by decide : ¬ (0 : Nat) = 1), cond_false]; omega
    · rw [h0, decide_eq_true (rfl : (1 : Nat) = 1), cond_true]; omega
theorem PR.iter {p : P4 E5} {q : P4 N16} {f : P4 Fp} (h : PR p q f) {b c : Nat → Bool} (hb : ∀ i, i < 256 → b i = c i) : ∀ j, j ≤ 256 → ∃ g, PR (iterG (addφ realFe) (zeroφ realFe) p b j) (iterG (addψ realFe) (zeroψ realFe) q c j) g ∧ aff g = mulA dF (aff f) (bv b j)
  | 0, _ => ⟨zero4, pr_zero, aff_zero⟩
  | j + 1, hj => by
    obtain ⟨g, hg, ag⟩ := PR.iter h hb j (by omega)
    have hm := on_aff h.on
    have h2 := hg.add hg
    have a2 : aff (addO opsF dF g g) = mulA dF (aff f) (bv b j + bv b j) := by rw [aff_add crv hg.on hg.on, ag, ← mulA_add crv hm]
    unfold iterG bv
    rw [← hb (255 - j) (by omega)]
    cases b (255 - j)
    · rw [cond_false, cond_false, cond_false, Nat.add_zero, Nat.two_mul]
      exact ⟨_, h2, a2⟩
    · rw [cond_true, cond_true, cond_true, Nat.two_mul]
      refine ⟨_, h2.add h, ?_⟩
      rw [aff_add crv h2.on h.on, a2]; rfl
theorem mod_div (W r : Nat) (hr : r < 8) : W % 256 / 2 ^ r % 2 = W / 2 ^ r % 2 := by
  have : r = 0 ∨ r = 1 ∨ r = 2 ∨ r = 3 ∨ r = 4 ∨ r = 5 ∨ r = 6 ∨ r = 7 := by omega
  rcases this with h | h | h | h | h | h | h | h <;> subst h <;> omega
theorem mod_div16 (W r : Nat) (hr : r < 16) : W % 65536 / 2 ^ r % 2 = W / 2 ^ r % 2 := by
  have : r = 0 ∨ r = 1 ∨ r = 2 ∨ r = 3 ∨ r = 4 ∨ r = 5 ∨ r = 6 ∨ r = 7 ∨ r = 8 ∨ r = 9 ∨ r = 10 ∨ r = 11 ∨ r = 12 ∨ r = 13 ∨ r = 14 ∨ r = 15 := by omega
  rcases this with h | h | h | h | h | h | h | h | h | h | h | h | h | h | h | h <;> subst h <;> omega
theorem bitK_val (l : List UInt8) (i : Nat) : bitK l i = decide (leNat l / 2 ^ i % 2 = 1) := by
  unfold bitK bitB
  have h := and8_nat (shr_u8 (l.getD (i / 8) 0) (i % 8)) 1 1 rfl
  rw [shr_u8_nat _ _ (Nat.mod_lt _ (by omega)), byte_at] at h
  have e1 : leNat l / 256 ^ (i / 8) % 256 / 2 ^ (i % 8) % 2 = leNat l / 2 ^ i % 2 := by
    rw [mod_div _ _ (Nat.mod_lt _ (by omega)), show (256 : Nat) = 2 ^ 8 from rfl, ← Nat.pow_mul, Nat.div_div_eq_div_mul, ← Nat.pow_add, Nat.div_add_mod]
  rw [Nat.pow_one, e1] at h
  rw [← h]
  generalize shr_u8 (l.getD (i / 8) 0) (i % 8) &&& 1 = x
  rw [Bool.eq_iff_iff, beq_iff_eq, decide_eq_true_iff]
  exact ⟨fun e => by rw [e]; rfl, fun e => UInt8.toNat_inj.1 e⟩
theorem part_at : ∀ (l : List UInt64) (k : Nat), ok16 l → (l.getD k 0).toNat = val16 l / 65536 ^ k % 65536
  | [], k, _ => by
    show (([] : List UInt64).getD k 0).toNat = 0 / 65536 ^ k % 65536
    rw [Nat.zero_div]; rfl
  | x :: l, 0, h => by
    have := h.1
    show x.toNat = (x.toNat + 65536 * val16 l) / 65536 ^ 0 % 65536
    rw [Nat.pow_zero]; omega
  | x :: l, k + 1, h => by
    have hx := h.1
    show (l.getD k 0).toNat = (x.toNat + 65536 * val16 l) / 65536 ^ (k + 1) % 65536
    rw [part_at l k h.2, Nat.pow_succ, Nat.mul_comm (65536 ^ k), ← Nat.div_div_eq_div_mul]
    have : (x.toNat + 65536 * val16 l) / 65536 = val16 l := by omega
    rw [this]
theorem bitN16_val (n : N16) (hn : n.ok) (i : Nat) : bitN16 n i = decide (n.val / 2 ^ i % 2 = 1) := by
  unfold bitN16 partN
  have h := and_nat (shr_u64 (n.list.getD (i / 16) 0) (i % 16)) 1 1 rfl
  rw [shr_u64_nat _ _ (by have := Nat.mod_lt i (show 16 > 0 by omega); omega), part_at _ _ hn] at h
  have e1 : val16 n.list / 65536 ^ (i / 16) % 65536 / 2 ^ (i % 16) % 2 = n.val / 2 ^ i % 2 := by
    rw [mod_div16 _ _ (Nat.mod_lt _ (by omega)), show (65536 : Nat) = 2 ^ 16 from rfl, ← Nat.pow_mul, Nat.div_div_eq_div_mul, ← Nat.pow_add, Nat.div_add_mod]; rfl
  rw [Nat.pow_one, e1] at h
  rw [← h]
  generalize shr_u64 (n.list.getD (i / 16) 0) (i % 16) &&& 1 = x
  rw [Bool.eq_iff_iff, beq_iff_eq, decide_eq_true_iff]
  exact ⟨fun e => by rw [e]; rfl, fun e => UInt64.toNat_inj.1 e⟩
theorem bits_same {a : W4} {n : N16} (hn : n.ok) (e : a.val = n.val) (i : Nat) : bitK (bytesW a) i = bitN16 n i := by
  rw [bitK_val, bitN16_val n hn, bytesW_val, e]
theorem mul_phi (p : P4 E5) (n : W4) (h : noneφ realFe p = false) : mulE4 p n = iterG (addφ realFe) (zeroφ realFe) p (bitK (bytesW n)) 256 := by
  unfold mulE4 mulG
  rw [h, cond_false]
theorem bv_bytes (a : W4) : bv (bitK (bytesW a)) 256 = a.val := by
  have h := bv_eq (bitK (bytesW a)) a.val (fun i _ => by rw [bitK_val, bytesW_val]) (Nat.lt_of_lt_of_le a.val_lt (by decide)) 256 (by omega)
  rw [h, Nat.sub_self, Nat.pow_zero, Nat.div_one]
theorem PR.mul {p : P4 E5} {q : P4 N16} {f : P4 Fp} (h : PR p q f) {a : W4} {n : N16} (hn : n.ok) (e : a.val = n.val) : ∃ g, PR (mulE4 p a) (mulN4 q n) g ∧ aff g = mulA dF (aff f) a.val := by
  obtain ⟨g, hg, ag⟩ := PR.iter h (b := bitK (bytesW a)) (c := bitN16 n) (fun i _ => bits_same hn e i) 256 (by omega)
  rw [bv_bytes] at ag
  rw [mul_phi p a h.some]
  exact ⟨g, hg, ag⟩
end Go.Num

/- Points: the base point, its order; no point; what `alive` asks. -/
namespace Go.Num
set_option linter.unusedVariables false
set_option linter.unusedSimpArgs false
open Go Go.Eng
set_option maxRecDepth 100000
def xB : Nat := 15112221349535400772501151409588531511454012693041857206046113283949847762202
def yB : Nat := 46316835694926478169428394003475163141307993866256225615783033603165251855960
def uB : Nat := 26187595835145689230469591415084376402084551887632582719101735842039498021991
theorem y_base : leNat (topL baseL) = yB := by kernel_rfl
theorem y_lt : decide (yB < Pq) = true := by decide
theorem len_base : isLen baseL 32 = true := by kernel_rfl
theorem odd_base : decOdd baseL = false := by kernel_rfl
theorem canon_base : canonE (topL baseL) = true := by
  rw [canonE_eq, canonP_eq, topL_len len_base, y_base, y_lt]; rfl
theorem uval {a b c n : Nat} {x : E5} (v : Vm x (a * b ^ (Pq - 2))) (hn : a * pwE Pq b (Pq - 2) % Pq = c) : x.val % Pq = c := by
  rw [v.val, ← hn, pw_inv, Nat.mul_mod_mod]
theorem u_comp : (yB * yB + (Pq - 1 % Pq)) * pwE Pq (dNat * (yB * yB) + 1) (Pq - 2) % Pq = uB := by kernel_rfl
theorem vm_d : Vm (curveφ realFe) dNat := ⟨ofEl_ok _, by
  have := ofEl_val (s := dBytes) (by kernel_rfl)
  rw [d_bytes] at this
  exact this⟩
theorem vm_yB : Vm (yφ realFe baseL) yB := ⟨(rel_y len_base).ok, by
  rw [y_phi, ofEl_val (topL_len len_base), y_base]⟩
theorem u_base : (uφ realFe baseL).val % Pq = uB := by
  have v1 := vm_small 1
  rw [show (1 : UInt32).toNat = 1 from rfl] at v1
  have vv := (vm_d.mul (vm_yB.mul vm_yB)).add v1
  rw [← v_phi] at vv
  have vu := ((vm_yB.mul vm_yB).sub v1).mul (vm_inv vv)
  rw [← u_phi] at vu
  exact uval (n := 0) vu u_comp
theorem nhas_base : nHas uB = true := by kernel_rfl
theorem nroot_base : nRoot uB = xB := by kernel_rfl
theorem has_base : hasE (uφ realFe baseL) = true := by rw [has_nat (rel_u len_base).ok, u_base, nhas_base]
theorem dec_base : decRφ realFe baseL = 0 := by
  have h : okφ realFe baseL = true := by rw [ok_phi, canon_base, has_base, odd_base]; rfl
  unfold decRφ
  rw [len_base, h]; rfl
theorem x_base : (xφ realFe baseL).val % Pq = xB := by
  rw [x_phi, odd_base, cond_false, (root_nat (rel_u len_base).ok).2, u_base, nroot_base]
theorem xB_mod : xB % Pq = xB := by kernel_rfl
def aB : Fp × Fp := (toF xB, toF yB)
theorem pr_base : PR (decφ realFe baseL) (decψ realFe baseL) (up aB) := by
  obtain ⟨⟨X, Y⟩, h⟩ := pr_dec dec_base
  have h1 := h.val.1.val
  have h2 := h.val.2.1.val
  rw [dec_phi dec_base] at h1 h2
  have e1 : toF (xφ realFe baseL).val = X := h1
  have e2 : toF (yφ realFe baseL).val = Y := h2
  have e3 : toF (xφ realFe baseL).val = toF xB := toF_eq.2 (x_base.trans xB_mod.symm)
  have e4 : toF (yφ realFe baseL).val = toF yB := toF_eq.2 vm_yB.val
  have e5 : (X, Y) = aB := by unfold aB; rw [← e1, ← e2, e3, e4]
  rw [← e5]
  exact h
/-! ### sums of whole numbers -/
structure Rm (n : Nat) (f : Fp) : Prop where
  lt : n < Pq
  val : toF n = f
theorem rm_mod {n : Nat} {f : Fp} (h : toF n = f) : Rm (n % Pq) f := ⟨Nat.mod_lt _ Pq_pos, by rw [← h]; exact toF_eq.2 (Nat.mod_mod _ _)⟩
theorem small_lt (n : UInt32) : n.toNat < Pq := Nat.lt_trans n.toNat_lt (by decide)
theorem keeps_MF : Keeps opsM opsF Rm where
  add := fun {a b x y} h k => rm_mod (by rw [toF_add, h.val, k.val]; rfl)
  sub := fun {a b x y} h k => rm_mod (by
    have e : Pq - b = Pq - b % Pq := by rw [Nat.mod_eq_of_lt k.lt]
    rw [e, toF_sub, h.val, k.val]; rfl)
  mul := fun {a b x y} h k => rm_mod (by rw [toF_mul, h.val, k.val]; rfl)
  small := fun n => ⟨small_lt n, rfl⟩
  zero := ⟨Pq_pos, toF_nil⟩
theorem iter_keeps {R S : Type} {o : Ops R} {o' : Ops S} {r : R → S → Prop} (k : Keeps o o' r) {p z : P4 R} {p' z' : P4 S} {d : R} {d' : S} (hd : r d d') (hp : R4 r p p') (hz : R4 r z z') (b : Nat → Bool) : ∀ j, R4 r (iterG (addO o d) z p b j) (iterG (addO o' d') z' p' b j)
  | 0 => hz
  | j + 1 => by
    have ih := iter_keeps k hd hp hz b j
    have h2 := add_keeps k hd ih ih
    unfold iterG
    cases b (255 - j)
    · exact h2
    · exact add_keeps k hd h2 hp
theorem iter_on {f : P4 Fp} (h : On dF f) (b : Nat → Bool) : ∀ j, On dF (iterG (addO opsF dF) zero4 f b j) ∧ aff (iterG (addO opsF dF) zero4 f b j) = mulA dF (aff f) (bv b j)
  | 0 => ⟨On.zero dF, aff_zero⟩
  | j + 1 => by
    obtain ⟨hg, ag⟩ := iter_on h b j
    have hm := on_aff h
    have h2 := hg.add crv hg
    have a2 : aff (addO opsF dF (iterG (addO opsF dF) zero4 f b j) (iterG (addO opsF dF) zero4 f b j)) = mulA dF (aff f) (bv b j + bv b j) := by rw [aff_add crv hg hg, ag, ← mulA_add crv hm]
    unfold iterG bv
    cases b (255 - j)
    · rw [cond_false, cond_false, Nat.add_zero, Nat.two_mul]
      exact ⟨h2, a2⟩
    · rw [cond_true, cond_true, Nat.two_mul]
      refine ⟨h2.add crv h, ?_⟩
      rw [aff_add crv h2 h, a2]; rfl
def zeroM : P4 Nat := ⟨0, 1, 1, 0⟩
def baseM : P4 Nat := ⟨xB, yB, 1, xB * yB % Pq⟩
theorem rm_zero : R4 Rm zeroM zero4 := r4_mk ⟨Pq_pos, toF_nil⟩ ⟨by decide, toF_one⟩ ⟨by decide, toF_one⟩ ⟨Pq_pos, toF_nil⟩
theorem rm_base : R4 Rm baseM (up aB) := r4_mk ⟨by decide, rfl⟩ ⟨by decide, rfl⟩ ⟨by decide, toF_one⟩ (rm_mod (toF_mul _ _))
theorem rm_d : Rm dNat dF := ⟨by decide, rfl⟩
def mulM (n : Nat) : P4 Nat := iterG (addO opsM dNat) zeroM baseM (fun i => Nat.testBit n i) 256
theorem order_M : ((mulM Lq).x == 0 && (mulM Lq).y == (mulM Lq).z) = true := by kernel_rfl
theorem eight_M : ((mulM 8).x == 0) = false := by kernel_rfl
end Go.Num

/- Points: the facts that the laws ask. -/
namespace Go.Num
set_option linter.unusedVariables false
set_option linter.unusedSimpArgs false
open Go Go.Eng
set_option maxRecDepth 100000
theorem bv_test (n : Nat) (h : n < 2 ^ 256) : bv (fun i => Nat.testBit n i) 256 = n := by
  rw [bv_eq (fun i => Nat.testBit n i) n (fun i _ => Nat.testBit_eq_decide_div_mod_eq) h 256 (by omega), Nat.sub_self, Nat.pow_zero, Nat.div_one]
theorem zero_iff {f : P4 Fp} (h : On dF f) : aff f = zeroA ↔ f.x = 0 ∧ f.y = f.z := by
  rw [← aff_zero, ← same_aff h (On.zero dF)]
  have h1 : f.x * (zero4).z = f.x := by show f.x * 1 = f.x; grind -lia -linarith (splits := 0)
  have h2 : (zero4).x * f.z = 0 := by show 0 * f.z = 0; grind -lia -linarith (splits := 0)
  have h3 : f.y * (zero4).z = f.y := by show f.y * 1 = f.y; grind -lia -linarith (splits := 0)
  have h4 : (zero4).y * f.z = f.z := by show 1 * f.z = f.z; grind -lia -linarith (splits := 0)
  unfold SameP
  rw [h1, h2, h3, h4]
theorem mulM_aff (n : Nat) (h : n < 2 ^ 256) : ∃ f, R4 Rm (mulM n) f ∧ On dF f ∧ aff f = mulA dF aB n := by
  have hk := iter_keeps keeps_MF rm_d rm_base rm_zero (fun i => Nat.testBit n i) 256
  have ho := iter_on pr_base.on (fun i => Nat.testBit n i) 256
  rw [bv_test n h, aff_up] at ho
  exact ⟨_, hk, ho.1, ho.2⟩
theorem order_lt : Lq < 2 ^ 256 := by decide
theorem eight_lt : 8 < 2 ^ 256 := by decide
theorem order_base : mulA dF aB Lq = zeroA := by
  obtain ⟨f, hr, ho, ha⟩ := mulM_aff Lq order_lt
  rw [← ha, zero_iff ho]
  have h := order_M
  generalize mulM Lq = m at h hr
  simp only [Bool.and_eq_true, beq_iff_eq] at h
  have h1 := hr.1.val
  have h2 := hr.2.1.val
  have h3 := hr.2.2.1.val
  rw [h.1, toF_nil] at h1
  rw [h.2] at h2
  exact ⟨h1.symm, h2.symm.trans h3⟩
theorem eight_base : ¬ mulA dF aB 8 = zeroA := by
  obtain ⟨f, hr, ho, ha⟩ := mulM_aff 8 eight_lt
  rw [← ha, zero_iff ho]
  intro hz
  have h := eight_M
  generalize mulM 8 = m at h hr
  have h1 := hr.1.val
  rw [hz.1, toF_zero, Nat.mod_eq_of_lt hr.1.lt] at h1
  rw [h1] at h
  cases h
theorem order_mod (n : Nat) : mulA dF aB (n % Lq) = mulA dF aB n := mulA_mod crv (by have := on_aff pr_base.on; rw [aff_up] at this; exact this) order_base n
/-! ### as the laws have them -/
theorem fi_add : realFi.add = addφ realFe := by simp only [realFi]
theorem fi_neg : realFi.neg = negφ realFe := by simp only [realFi]
theorem fi_same : realFi.same = sameφ realFe := by simp only [realFi]
theorem fi_zero : realFi.zero = zeroφ realFe := by simp only [realFi]
theorem fi_bytes : realFi.bytes = bytesφ realFe := by simp only [realFi]
theorem fi_dec : realFi.dec = decφ realFe := by simp only [realFi]
theorem fi_decR : realFi.decR = decRφ realFe := by simp only [realFi]
theorem fi_mul : realFi.mul = mulE4 := by simp only [realFi]
theorem fi_addQ : realFi.addQ = addψ realFe := by simp only [realFi]
theorem fi_negQ : realFi.negQ = negψ realFe := by simp only [realFi]
theorem fi_sameQ : realFi.sameQ = sameψ realFe := by simp only [realFi]
theorem fi_zeroQ : realFi.zeroQ = zeroψ realFe := by simp only [realFi]
theorem fi_bytesQ : realFi.bytesQ = bytesψ realFe := by simp only [realFi]
theorem fi_decQ : realFi.decQ = decψ realFe := by simp only [realFi]
theorem fi_decRQ : realFi.decRQ = decRψ realFe := by simp only [realFi]
theorem fi_mulQ : realFi.mulQ = mulN4 := by simp only [realFi]
theorem fi_onQ : realFi.onQ = onψ realFe := by simp only [realFi]
theorem fi_okQ : realFi.okQ = okQ0 realFe := by simp only [realFi]
/-- Points as the laws have them. -/
abbrev PI := PR
theorem pi_base : PI realFi.base realFi.baseQ (up aB) := by
  rw [base_eq, baseQ_eq, fi_dec, fi_decQ]; exact pr_base
theorem pi_zero : PI realFi.zero realFi.zeroQ zero4 := by rw [fi_zero, fi_zeroQ]; exact pr_zero
theorem pi_add {p p' : P4 E5} {q q' : P4 N16} {f f' : P4 Fp} (h : PI p q f) (k : PI p' q' f') : PI (realFi.add p p') (realFi.addQ q q') (addO opsF dF f f') := by rw [fi_add, fi_addQ]; exact h.add k
theorem pi_neg {p : P4 E5} {q : P4 N16} {f : P4 Fp} (h : PI p q f) : PI (realFi.neg p) (realFi.negQ q) (negO (fun a => -a) f) := by rw [fi_neg, fi_negQ]; exact h.neg
theorem pi_ok {p : P4 E5} {q : P4 N16} {f : P4 Fp} (h : PI p q f) : realFi.okQ q = true := by rw [fi_okQ]; exact h.ok
theorem pi_bytes {p : P4 E5} {q : P4 N16} {f : P4 Fp} (h : PI p q f) : realFi.bytes p = realFi.bytesQ q := by rw [fi_bytes, fi_bytesQ]; exact h.bytes
theorem pi_same {p p' : P4 E5} {q q' : P4 N16} {f f' : P4 Fp} (h : PI p q f) (k : PI p' q' f') : realFi.same p p' = realFi.sameQ q q' := by rw [fi_same, fi_sameQ]; exact h.same k
theorem pi_iff {p p' : P4 E5} {q q' : P4 N16} {f f' : P4 Fp} (h : PI p q f) (k : PI p' q' f') : realFi.same p p' = true ↔ aff f = aff f' := by rw [fi_same]; exact h.same_iff k
theorem pi_onQ {p : P4 E5} {q : P4 N16} {f : P4 Fp} (h : PI p q f) : realFi.onQ q = true := by rw [fi_onQ]; exact h.onQ
theorem pi_dec {s : List UInt8} (h : realFi.decR s = 0) : ∃ a : Fp × Fp, PI (realFi.dec s) (realFi.decQ s) (up a) := by
  rw [fi_decR] at h; rw [fi_dec, fi_decQ]; exact pr_dec h
theorem pi_mul {p : P4 E5} {q : P4 N16} {f : P4 Fp} (h : PI p q f) {a : W4} {n : N16} (hn : n.ok) (e : a.val = n.val) : ∃ g, PI (realFi.mul p a) (realFi.mulQ q n) g ∧ aff g = mulA dF (aff f) a.val := by rw [fi_mul, fi_mulQ]; exact h.mul hn e
theorem pi_mulW {p : P4 E5} {q : P4 N16} {f : P4 Fp} (h : PI p q f) (a : W4) : ∃ q' g, PI (realFi.mul p a) q' g ∧ aff g = mulA dF (aff f) a.val := by
  obtain ⟨o, e⟩ := partsN_val (bytesW a) (bytesW_len a)
  obtain ⟨g, hg, ag⟩ := pi_mul h (a := a) o (by rw [e, bytesW_val])
  exact ⟨_, g, hg, ag⟩
theorem pi_aff {p p' : P4 E5} {q q' : P4 N16} {f f' : P4 Fp} (h : PI p q f) (k : PI p' q' f') : aff (addO opsF dF f f') = addA dF (aff f) (aff f') := aff_add crv h.on k.on
theorem fi_bytesdec {s : List UInt8} (h : realFi.decR s = 0) : realFi.bytes (realFi.dec s) = s := by
  rw [fi_decR] at h; rw [fi_bytes, fi_dec]; exact dec_bytes h
theorem fi_decnone {s : List UInt8} (h : realFi.decR s ≠ 0) : realFi.dec s = emptyE := by
  rw [fi_decR] at h; rw [fi_dec]; exact dec_none h
theorem fi_rsame (s : List UInt8) : realFi.decR s = realFi.decRQ s := by rw [fi_decR, fi_decRQ]; exact decR_same s
/-! ### no point -/
theorem none_empty : noneφ realFe emptyE = true := by
  have h : noneφ realFe emptyE = sameE zeroE zeroE := by simp only [noneφ, realFe, emptyE]
  rw [h, sameE_eq]; exact decide_eq_true rfl
theorem e_bytes : realFi.bytes emptyE = [] := by
  rw [fi_bytes]; unfold bytesφ; rw [none_empty, cond_true]
theorem e_addl (p : P4 E5) : realFi.add emptyE p = emptyE := by
  rw [fi_add]; unfold addφ; rw [none_empty, cond_true]
theorem e_addr {p : P4 E5} (h : noneφ realFe p = false) : realFi.add p emptyE = emptyE := by
  rw [fi_add]; unfold addφ; rw [none_empty, h, cond_true, cond_false]
theorem e_neg : realFi.neg emptyE = emptyE := by
  rw [fi_neg]; unfold negφ; rw [none_empty, cond_true]
theorem e_mul (n : W4) : realFi.mul emptyE n = emptyE := by
  rw [fi_mul]; unfold mulE4 mulG; rw [none_empty, cond_true]
theorem e_samel (p : P4 E5) : realFi.same emptyE p = false := by
  rw [fi_same]; unfold sameφ; rw [none_empty, cond_true]
theorem e_samer {p : P4 E5} (h : noneφ realFe p = false) : realFi.same p emptyE = false := by
  rw [fi_same]; unfold sameφ; rw [none_empty, h, cond_true, cond_false]
theorem e_small : realFi.small emptyE = false := by
  rw [small_eq]; unfold smallG; simp only [e_addl, e_samel]
/-! ### what is fixed -/
theorem b_decR : realFi.decR baseL = 0 := by rw [fi_decR]; exact dec_base
theorem b_bytes : realFi.bytes realFi.base = baseL := by rw [base_eq]; exact fi_bytesdec b_decR
theorem self_same {p : P4 E5} {q : P4 N16} {f : P4 Fp} (h : PI p q f) : realFi.same p p = true := (pi_iff h h).2 rfl
theorem b_neg : realFi.same (realFi.add realFi.base (realFi.neg realFi.base)) realFi.zero = true := by
  have h := pi_base
  refine (pi_iff (pi_add h (pi_neg h)) pi_zero).2 ?_
  rw [pi_aff h (pi_neg h), aff_neg, aff_zero, addA_neg crv (on_aff h.on)]
theorem z_small : realFi.small realFi.zero = true := by
  have h := pi_zero
  rw [small_eq]
  unfold smallG
  have h2 := pi_add h h
  have h4 := pi_add h2 h2
  have h8 := pi_add h4 h4
  refine (pi_iff h8 h).2 ?_
  rw [pi_aff h4 h4, pi_aff h2 h2, pi_aff h h, aff_zero, addA_zero, addA_zero, addA_zero]
theorem b_small : realFi.small realFi.base = false := by
  have h := pi_base
  rw [small_eq]
  unfold smallG
  have h2 := pi_add h h
  have h4 := pi_add h2 h2
  have h8 := pi_add h4 h4
  have e := pi_iff h8 pi_zero
  rw [pi_aff h4 h4, pi_aff h2 h2, pi_aff h h, aff_zero, aff_up] at e
  have hm : OnA dF aB := by have := on_aff h.on; rw [aff_up] at this; exact this
  have e2 : addA dF aB aB = mulA dF aB 2 := by
    show _ = addA dF (mulA dF aB 1) aB
    rw [mulA_one]
  rw [e2, ← mulA_add crv hm, ← mulA_add crv hm] at e
  rw [Bool.eq_false_iff]
  exact fun h => eight_base (e.1 h)
theorem z_bytes : realFi.bytes realFi.zero = 1 :: List.replicate 31 0 := by
  rw [fi_bytes, fi_zero, bytes_phi _ pr_zero.some, zero_phi]
  have e1 : oddE (mulE zeroE (invE (smallE 1))) = false := by
    rw [re_odd (mul_one_re re_zero re_one) re_zero]; rfl
  have e2 : bytesE (mulE (smallE 1) (invE (smallE 1))) = bytesE (smallE 1) := re_bytes (mul_one_re re_one re_one) re_one
  show cond (oddE (mulE zeroE (invE (smallE 1)))) _ (bytesE (mulE (smallE 1) (invE (smallE 1)))) = _
  rw [e1, cond_false, e2]
  kernel_rfl
end Go.Num

/- Points: what is fixed. -/
namespace Go.Proofs.Ytipbocnofahafaa
set_option linter.unusedVariables false
set_option linter.unusedSimpArgs false
open Go Go.Eng Go.Num
set_option maxRecDepth 100000
set_option maxHeartbeats 1000000
set_option linter.unusedSimpArgs false
set_option linter.unusedVariables false
def shortL : List UInt8 := [115, 104, 111, 114, 116]
theorem wal (φ : Fi)  : ansO (run1O Try.prog (psnk φ) (nk φ) [21, 25, 29, 37, 42, 46, 47, 51, 56, 60, 66, 72, 73] [true, true, true, true, true, true, false, true, false, true, true] [] (mask 8) 200 8 [] [] Try.prog.globals.size) = some (.bool true, [((φ.bytes φ.base) == (φ.bytesQ φ.baseQ)), (φ.okQ φ.baseQ), ((φ.bytes emptyE) == []), !(φ.small emptyE), (φ.small φ.zero), !(φ.small φ.base), ((List.getD (φ.bytes φ.zero) (Int.toNat 0) 0) == (UInt8.ofNat (Int.toNat 1))), ((decide ((0 : Int) ≤ 0)) && (decide ((0 : Int) < ((List.length (φ.bytes φ.zero) : Nat) : Int)))), (((List.length (φ.bytes φ.zero) : Nat) : Int) == 32), (φ.same (φ.add φ.base (φ.neg φ.base)) φ.zero), ((φ.decR shortL) == 2), (φ.same (φ.dec (φ.bytes φ.base)) φ.base), ((φ.decR (φ.bytes φ.base)) == 0)]) := by kernel_rfl
theorem run8 : (run1 Try.prog (nk realFi) (mask 8) 200 8 [] [] Try.prog.globals.size).map (·.1) = some (.bool true) := by
  refine ansO_run (nk_ps _) (wal realFi) ?_
  have hb := pi_base
  have h1 := pi_bytes hb
  have h2 := pi_ok hb
  have h3 : realFi.decR shortL = 2 := by rw [fi_decR]; rfl
  have h4 : realFi.dec (realFi.bytes realFi.base) = realFi.base := by rw [b_bytes, base_eq]
  have h5 : realFi.decR (realFi.bytes realFi.base) = 0 := by rw [b_bytes, b_decR]
  have h6 := self_same hb
  rw [h1, h2, e_bytes, e_small, z_small, b_small, z_bytes, b_neg, h3, ← h1, h4, h5, h6]
  rfl
def g8 : List AVal → Option EffA
  | [] => some (.pure (.bool true))
  | _ => none
theorem g8_ok : CSOk Try.prog (csOne 8 g8) := csOne_ok fun args e he => by
  unfold g8 at he
  split at he
  · skip
    cases he
    exact callOk_val nk_ok hmix run8 rfl rfl
  · cases he
def nl (φ : Fi) : CS := csAlt (csOne 8 g8) (nk φ)
theorem nl_ok : CSOk Try.prog (nl realFi) := csAlt_ok g8_ok nk_ok
def psnl (φ : Fi) : PS := psnk φ
theorem nl_ps (φ : Fi) : PSOk (psnl φ) (nl φ) := fun f args e h => by
  have h1 := nk_ps φ f args e h
  unfold nl csAlt csOne
  cases hb : Nat.beq f 8 with
  | false => exact h1
  | true =>
    rw [Nat.eq_of_beq_eq_true hb] at h
    exact absurd h (by
      intro h2
      have : psnl φ 8 args = none := rfl
      rw [this] at h2
      cases h2)
end Go.Proofs.Ytipbocnofahafaa

/- Points: they are a group; scalars and points. -/
namespace Go.Num
set_option linter.unusedVariables false
set_option linter.unusedSimpArgs false
open Go Go.Eng
set_option maxRecDepth 100000
theorem l_comm {p p' : P4 E5} {q q' : P4 N16} {f f' : P4 Fp} (h : PI p q f) (k : PI p' q' f') : realFi.same (realFi.add p p') (realFi.add p' p) = true := by
  refine (pi_iff (pi_add h k) (pi_add k h)).2 ?_
  rw [pi_aff h k, pi_aff k h, addA_comm]
theorem l_assoc {p p' p2 : P4 E5} {q q' q2 : P4 N16} {f f' f2 : P4 Fp} (h : PI p q f) (k : PI p' q' f') (g : PI p2 q2 f2) : realFi.same (realFi.add (realFi.add p p') p2) (realFi.add p (realFi.add p' p2)) = true := by
  refine (pi_iff (pi_add (pi_add h k) g) (pi_add h (pi_add k g))).2 ?_
  rw [pi_aff (pi_add h k) g, pi_aff h (pi_add k g), pi_aff h k, pi_aff k g, addA_assoc crv (on_aff h.on) (on_aff k.on) (on_aff g.on)]
theorem l_neg {p : P4 E5} {q : P4 N16} {f : P4 Fp} (h : PI p q f) : realFi.same (realFi.add p (realFi.neg p)) realFi.zero = true := by
  refine (pi_iff (pi_add h (pi_neg h)) pi_zero).2 ?_
  rw [pi_aff h (pi_neg h), aff_neg, aff_zero, addA_neg crv (on_aff h.on)]
theorem l_zero {p : P4 E5} {q : P4 N16} {f : P4 Fp} (h : PI p q f) : realFi.same (realFi.add p realFi.zero) p = true := by
  refine (pi_iff (pi_add h pi_zero) h).2 ?_
  rw [pi_aff h pi_zero, aff_zero, addA_zero]
theorem on_aB : OnA dF aB := by have := on_aff pr_base.on; rw [aff_up] at this; exact this
theorem b_mul (a : W4) : ∃ q' g, PI (realFi.mul realFi.base a) q' g ∧ aff g = mulA dF aB a.val := by
  have := pi_mulW pi_base a
  rw [aff_up] at this
  exact this
theorem neg_mod {a l : Nat} (h : a < l) : (a + (l - a) % l) % l = 0 := by
  by_cases h0 : a = 0
  · subst h0; rw [Nat.sub_zero, Nat.mod_self]; rfl
  · rw [Nat.mod_eq_of_lt (by omega : l - a < l), show a + (l - a) = l by omega, Nat.mod_self]
theorem s_add {a b : W4} (ha : a.val < Lq) (hb : b.val < Lq) : realFi.same (realFi.add (realFi.mul realFi.base a) (realFi.mul realFi.base b)) (realFi.mul realFi.base (addW a b)) = true := by
  obtain ⟨_, f, hf, af⟩ := b_mul a
  obtain ⟨_, g, hg, ag⟩ := b_mul b
  obtain ⟨_, k, hk, ak⟩ := b_mul (addW a b)
  refine (pi_iff (pi_add hf hg) hk).2 ?_
  rw [pi_aff hf hg, af, ag, ak, addW_val a b ha hb, order_mod, mulA_add crv on_aB]
theorem s_comm (a b : W4) : realFi.same (realFi.mul (realFi.mul realFi.base a) b) (realFi.mul (realFi.mul realFi.base b) a) = true := by
  obtain ⟨_, f, hf, af⟩ := b_mul a
  obtain ⟨_, g, hg, ag⟩ := b_mul b
  obtain ⟨_, f2, hf2, af2⟩ := pi_mulW hf b
  obtain ⟨_, g2, hg2, ag2⟩ := pi_mulW hg a
  refine (pi_iff hf2 hg2).2 ?_
  rw [af2, ag2, af, ag, ← mulA_mul crv on_aB, ← mulA_mul crv on_aB, Nat.mul_comm]
theorem s_mul (a b : W4) : realFi.same (realFi.mul (realFi.mul realFi.base a) b) (realFi.mul realFi.base (mulW a b)) = true := by
  obtain ⟨_, f, hf, af⟩ := b_mul a
  obtain ⟨_, f2, hf2, af2⟩ := pi_mulW hf b
  obtain ⟨_, k, hk, ak⟩ := b_mul (mulW a b)
  refine (pi_iff hf2 hk).2 ?_
  rw [af2, af, ak, mulW_val, order_mod, mulA_mul crv on_aB]
theorem s_neg {a : W4} (ha : a.val < Lq) : realFi.same (realFi.add (realFi.mul realFi.base a) (realFi.mul realFi.base (negW a))) realFi.zero = true := by
  obtain ⟨_, f, hf, af⟩ := b_mul a
  obtain ⟨_, k, hk, ak⟩ := b_mul (negW a)
  refine (pi_iff (pi_add hf hk) pi_zero).2 ?_
  rw [pi_aff hf hk, af, ak, aff_zero, ← mulA_add crv on_aB, negW_val a ha, ← order_mod, neg_mod ha]; rfl
theorem sof_lt {n : List UInt8} (h : realFi.sofR n = 0) : (realFi.sof n).val < Lq := by
  have e1 : realFi.sofR n = oE n := by simp only [realFi]
  have e2 : realFi.sof n = oV n := by simp only [realFi]
  rw [e1] at h
  have hk : okL n = true := by rw [← oE_ok, h]; rfl
  rw [e2, oV_ok hk]
  exact ofW_lt n
theorem fi_sadd : realFi.sadd = addW := by simp only [realFi]
theorem fi_smul : realFi.smul = mulW := by simp only [realFi]
theorem fi_sneg : realFi.sneg = negW := by simp only [realFi]
end Go.Num

/- Points: the law that they are a group. -/
namespace Go.Proofs.Ytipbocnofahafaa
set_option linter.unusedVariables false
set_option linter.unusedSimpArgs false
open Go Go.Eng Go.Num
set_option maxRecDepth 100000
set_option maxHeartbeats 1000000
set_option linter.unusedSimpArgs false
set_option linter.unusedVariables false
theorem w700 (φ : Fi) (r s t m n : List UInt8) : ansO (run1O Try.prog (psnl φ) (nl φ) [40, 43, 47, 55, 68, 77, 85, 99, 102, 120, 128, 139, 149] [false, true] [] (mask 7) 200 7 [.str r, .str s, .str t, .str m, .str n] [] Try.prog.globals.size) = some (.bool true, [((φ.sofR m) != 0), !((φ.decR r) == 0)]) := by kernel_rfl
theorem w701 (φ : Fi) (r s t m n : List UInt8) : ansO (run1O Try.prog (psnl φ) (nl φ) [40, 43, 47, 55, 68, 77, 85, 99, 102, 120, 128, 139, 149] [false, false, true] [] (mask 7) 200 7 [.str r, .str s, .str t, .str m, .str n] [] Try.prog.globals.size) = some (.bool true, [((φ.sofR n) != 0), !((φ.sofR m) != 0), !((φ.decR r) == 0)]) := by kernel_rfl
theorem w702 (φ : Fi) (r s t m n : List UInt8) : ansO (run1O Try.prog (psnl φ) (nl φ) [40, 43, 47, 55, 68, 77, 85, 99, 102, 120, 128, 139, 149] [false, false, false, true, true, true, true] [] (mask 7) 200 7 [.str r, .str s, .str t, .str m, .str n] [] Try.prog.globals.size) = some (.bool true, [(φ.same (φ.add (φ.mul φ.base (φ.sof m)) (φ.mul φ.base (φ.sneg (φ.sof m)))) φ.zero), (φ.same (φ.mul (φ.mul φ.base (φ.sof m)) (φ.sof n)) (φ.mul φ.base (φ.smul (φ.sof m) (φ.sof n)))), (φ.same (φ.mul (φ.mul φ.base (φ.sof m)) (φ.sof n)) (φ.mul (φ.mul φ.base (φ.sof n)) (φ.sof m))), (φ.same (φ.add (φ.mul φ.base (φ.sof m)) (φ.mul φ.base (φ.sof n))) (φ.mul φ.base (φ.sadd (φ.sof m) (φ.sof n)))), !((φ.sofR n) != 0), !((φ.sofR m) != 0), !((φ.decR r) == 0)]) := by kernel_rfl
theorem w710 (φ : Fi) (r s t m n : List UInt8) : ansO (run1O Try.prog (psnl φ) (nl φ) [40, 43, 47, 55, 68, 77, 85, 99, 102, 120, 128, 139, 149] [true, false, true] [] (mask 7) 200 7 [.str r, .str s, .str t, .str m, .str n] [] Try.prog.globals.size) = some (.bool true, [((φ.sofR m) != 0), !((φ.decR s) == 0), ((φ.decR r) == 0)]) := by kernel_rfl
theorem w711 (φ : Fi) (r s t m n : List UInt8) : ansO (run1O Try.prog (psnl φ) (nl φ) [40, 43, 47, 55, 68, 77, 85, 99, 102, 120, 128, 139, 149] [true, false, false, true] [] (mask 7) 200 7 [.str r, .str s, .str t, .str m, .str n] [] Try.prog.globals.size) = some (.bool true, [((φ.sofR n) != 0), !((φ.sofR m) != 0), !((φ.decR s) == 0), ((φ.decR r) == 0)]) := by kernel_rfl
theorem w712 (φ : Fi) (r s t m n : List UInt8) : ansO (run1O Try.prog (psnl φ) (nl φ) [40, 43, 47, 55, 68, 77, 85, 99, 102, 120, 128, 139, 149] [true, false, false, false, true, true, true, true] [] (mask 7) 200 7 [.str r, .str s, .str t, .str m, .str n] [] Try.prog.globals.size) = some (.bool true, [(φ.same (φ.add (φ.mul φ.base (φ.sof m)) (φ.mul φ.base (φ.sneg (φ.sof m)))) φ.zero), (φ.same (φ.mul (φ.mul φ.base (φ.sof m)) (φ.sof n)) (φ.mul φ.base (φ.smul (φ.sof m) (φ.sof n)))), (φ.same (φ.mul (φ.mul φ.base (φ.sof m)) (φ.sof n)) (φ.mul (φ.mul φ.base (φ.sof n)) (φ.sof m))), (φ.same (φ.add (φ.mul φ.base (φ.sof m)) (φ.mul φ.base (φ.sof n))) (φ.mul φ.base (φ.sadd (φ.sof m) (φ.sof n)))), !((φ.sofR n) != 0), !((φ.sofR m) != 0), !((φ.decR s) == 0), ((φ.decR r) == 0)]) := by kernel_rfl
theorem w720 (φ : Fi) (r s t m n : List UInt8) : ansO (run1O Try.prog (psnl φ) (nl φ) [40, 43, 47, 55, 68, 77, 85, 99, 102, 120, 128, 139, 149] [true, true, false, true] [] (mask 7) 200 7 [.str r, .str s, .str t, .str m, .str n] [] Try.prog.globals.size) = some (.bool true, [((φ.sofR m) != 0), !((φ.decR t) == 0), ((φ.decR s) == 0), ((φ.decR r) == 0)]) := by kernel_rfl
theorem w721 (φ : Fi) (r s t m n : List UInt8) : ansO (run1O Try.prog (psnl φ) (nl φ) [40, 43, 47, 55, 68, 77, 85, 99, 102, 120, 128, 139, 149] [true, true, false, false, true] [] (mask 7) 200 7 [.str r, .str s, .str t, .str m, .str n] [] Try.prog.globals.size) = some (.bool true, [((φ.sofR n) != 0), !((φ.sofR m) != 0), !((φ.decR t) == 0), ((φ.decR s) == 0), ((φ.decR r) == 0)]) := by kernel_rfl
theorem w722 (φ : Fi) (r s t m n : List UInt8) : ansO (run1O Try.prog (psnl φ) (nl φ) [40, 43, 47, 55, 68, 77, 85, 99, 102, 120, 128, 139, 149] [true, true, false, false, false, true, true, true, true] [] (mask 7) 200 7 [.str r, .str s, .str t, .str m, .str n] [] Try.prog.globals.size) = some (.bool true, [(φ.same (φ.add (φ.mul φ.base (φ.sof m)) (φ.mul φ.base (φ.sneg (φ.sof m)))) φ.zero), (φ.same (φ.mul (φ.mul φ.base (φ.sof m)) (φ.sof n)) (φ.mul φ.base (φ.smul (φ.sof m) (φ.sof n)))), (φ.same (φ.mul (φ.mul φ.base (φ.sof m)) (φ.sof n)) (φ.mul (φ.mul φ.base (φ.sof n)) (φ.sof m))), (φ.same (φ.add (φ.mul φ.base (φ.sof m)) (φ.mul φ.base (φ.sof n))) (φ.mul φ.base (φ.sadd (φ.sof m) (φ.sof n)))), !((φ.sofR n) != 0), !((φ.sofR m) != 0), !((φ.decR t) == 0), ((φ.decR s) == 0), ((φ.decR r) == 0)]) := by kernel_rfl
theorem w730 (φ : Fi) (r s t m n : List UInt8) : ansO (run1O Try.prog (psnl φ) (nl φ) [40, 43, 47, 55, 68, 77, 85, 99, 102, 120, 128, 139, 149] [true, true, true, true, true, true, true, true] [] (mask 7) 200 7 [.str r, .str s, .str t, .str m, .str n] [] Try.prog.globals.size) = some (.bool true, [((φ.sofR m) != 0), (φ.same (φ.add (φ.dec r) φ.zero) (φ.dec r)), (φ.same (φ.add (φ.dec r) (φ.neg (φ.dec r))) φ.zero), (φ.same (φ.add (φ.add (φ.dec r) (φ.dec s)) (φ.dec t)) (φ.add (φ.dec r) (φ.add (φ.dec s) (φ.dec t)))), (φ.same (φ.add (φ.dec r) (φ.dec s)) (φ.add (φ.dec s) (φ.dec r))), ((φ.decR t) == 0), ((φ.decR s) == 0), ((φ.decR r) == 0)]) := by kernel_rfl
theorem w731 (φ : Fi) (r s t m n : List UInt8) : ansO (run1O Try.prog (psnl φ) (nl φ) [40, 43, 47, 55, 68, 77, 85, 99, 102, 120, 128, 139, 149] [true, true, true, true, true, true, true, false, true] [] (mask 7) 200 7 [.str r, .str s, .str t, .str m, .str n] [] Try.prog.globals.size) = some (.bool true, [((φ.sofR n) != 0), !((φ.sofR m) != 0), (φ.same (φ.add (φ.dec r) φ.zero) (φ.dec r)), (φ.same (φ.add (φ.dec r) (φ.neg (φ.dec r))) φ.zero), (φ.same (φ.add (φ.add (φ.dec r) (φ.dec s)) (φ.dec t)) (φ.add (φ.dec r) (φ.add (φ.dec s) (φ.dec t)))), (φ.same (φ.add (φ.dec r) (φ.dec s)) (φ.add (φ.dec s) (φ.dec r))), ((φ.decR t) == 0), ((φ.decR s) == 0), ((φ.decR r) == 0)]) := by kernel_rfl
theorem w732 (φ : Fi) (r s t m n : List UInt8) : ansO (run1O Try.prog (psnl φ) (nl φ) [40, 43, 47, 55, 68, 77, 85, 99, 102, 120, 128, 139, 149] [true, true, true, true, true, true, true, false, false, true, true, true, true] [] (mask 7) 200 7 [.str r, .str s, .str t, .str m, .str n] [] Try.prog.globals.size) = some (.bool true, [(φ.same (φ.add (φ.mul φ.base (φ.sof m)) (φ.mul φ.base (φ.sneg (φ.sof m)))) φ.zero), (φ.same (φ.mul (φ.mul φ.base (φ.sof m)) (φ.sof n)) (φ.mul φ.base (φ.smul (φ.sof m) (φ.sof n)))), (φ.same (φ.mul (φ.mul φ.base (φ.sof m)) (φ.sof n)) (φ.mul (φ.mul φ.base (φ.sof n)) (φ.sof m))), (φ.same (φ.add (φ.mul φ.base (φ.sof m)) (φ.mul φ.base (φ.sof n))) (φ.mul φ.base (φ.sadd (φ.sof m) (φ.sof n)))), !((φ.sofR n) != 0), !((φ.sofR m) != 0), (φ.same (φ.add (φ.dec r) φ.zero) (φ.dec r)), (φ.same (φ.add (φ.dec r) (φ.neg (φ.dec r))) φ.zero), (φ.same (φ.add (φ.add (φ.dec r) (φ.dec s)) (φ.dec t)) (φ.add (φ.dec r) (φ.add (φ.dec s) (φ.dec t)))), (φ.same (φ.add (φ.dec r) (φ.dec s)) (φ.add (φ.dec s) (φ.dec r))), ((φ.decR t) == 0), ((φ.decR s) == 0), ((φ.decR r) == 0)]) := by kernel_rfl
theorem run7 (r s t m n : List UInt8) : (run1 Try.prog (nl realFi) (mask 7) 200 7 [.str r, .str s, .str t, .str m, .str n] [] Try.prog.globals.size).map (·.1) = some (.bool true) := by
  by_cases h4 : realFi.sofR m = 0
  rotate_left
  · by_cases h1 : realFi.decR r = 0
    rotate_left
    · exact ansO_run (nl_ps _) (w700 realFi r s t m n) (by simp [allT, h1, h4])
    by_cases h2 : realFi.decR s = 0
    rotate_left
    · exact ansO_run (nl_ps _) (w710 realFi r s t m n) (by simp [allT, h1, h2, h4])
    by_cases h3 : realFi.decR t = 0
    rotate_left
    · exact ansO_run (nl_ps _) (w720 realFi r s t m n) (by simp [allT, h1, h2, h3, h4])
    obtain ⟨a, ha⟩ := pi_dec h1
    obtain ⟨b, hb⟩ := pi_dec h2
    obtain ⟨c, hc⟩ := pi_dec h3
    exact ansO_run (nl_ps _) (w730 realFi r s t m n) (by simp [allT, h1, h2, h3, h4, l_comm ha hb, l_assoc ha hb hc, l_neg ha, l_zero ha])
  by_cases h5 : realFi.sofR n = 0
  rotate_left
  · by_cases h1 : realFi.decR r = 0
    rotate_left
    · exact ansO_run (nl_ps _) (w701 realFi r s t m n) (by simp [allT, h1, h4, h5])
    by_cases h2 : realFi.decR s = 0
    rotate_left
    · exact ansO_run (nl_ps _) (w711 realFi r s t m n) (by simp [allT, h1, h2, h4, h5])
    by_cases h3 : realFi.decR t = 0
    rotate_left
    · exact ansO_run (nl_ps _) (w721 realFi r s t m n) (by simp [allT, h1, h2, h3, h4, h5])
    obtain ⟨a, ha⟩ := pi_dec h1
    obtain ⟨b, hb⟩ := pi_dec h2
    obtain ⟨c, hc⟩ := pi_dec h3
    exact ansO_run (nl_ps _) (w731 realFi r s t m n) (by simp [allT, h1, h2, h3, h4, h5, l_comm ha hb, l_assoc ha hb hc, l_neg ha, l_zero ha])
  have k1 := s_add (sof_lt h4) (sof_lt h5)
  have k2 := s_comm (realFi.sof m) (realFi.sof n)
  have k3 := s_mul (realFi.sof m) (realFi.sof n)
  have k4 := s_neg (sof_lt h4)
  rw [← fi_sadd] at k1
  rw [← fi_smul] at k3
  rw [← fi_sneg] at k4
  by_cases h1 : realFi.decR r = 0
  rotate_left
  · exact ansO_run (nl_ps _) (w702 realFi r s t m n) (by simp [allT, h1, h4, h5, k1, k2, k3, k4])
  by_cases h2 : realFi.decR s = 0
  rotate_left
  · exact ansO_run (nl_ps _) (w712 realFi r s t m n) (by simp [allT, h1, h2, h4, h5, k1, k2, k3, k4])
  by_cases h3 : realFi.decR t = 0
  rotate_left
  · exact ansO_run (nl_ps _) (w722 realFi r s t m n) (by simp [allT, h1, h2, h3, h4, h5, k1, k2, k3, k4])
  obtain ⟨a, ha⟩ := pi_dec h1
  obtain ⟨b, hb⟩ := pi_dec h2
  obtain ⟨c, hc⟩ := pi_dec h3
  exact ansO_run (nl_ps _) (w732 realFi r s t m n) (by simp [allT, h1, h2, h3, h4, h5, k1, k2, k3, k4, l_comm ha hb, l_assoc ha hb hc, l_neg ha, l_zero ha])
theorem law7 (r s t m n : List UInt8) : CallOk Try.prog 7 [.str r, .str s, .str t, .str m, .str n] (.pure (.bool true)) := callOk_val nl_ok hmix (run7 r s t m n) rfl rfl
end Go.Proofs.Ytipbocnofahafaa

/- Engine, part 29: laws whose arguments are rows: opened out of the given reading, shut again. -/
namespace Go.Eng
set_option linter.unusedVariables false
set_option linter.unusedSimpArgs false
open Go Go.WideShapes Go.ChangeShapes

/-! ### what a row's element is made of -/
inductive Kd where
  | bool
  | int (k : IntKind)
  | str
def HasK : Kd → Value → Prop
  | .bool, v => ∃ b, v = .bool b
  | .int k, v => ∃ n, v = .int k n ∧ (Lit.int k n).wf = true
  | .str, v => ∃ s : ByteArray, v = .string s ∧ s.size ≤ maxLen
def KindsP : List Kd → List Value → Prop
  | [], [] => True
  | k :: ks, v :: vs => HasK k v ∧ KindsP ks vs
  | _, _ => False
theorem KindsP.append : ∀ {ks ks' : List Kd} {vs vs' : List Value}, KindsP ks vs → KindsP ks' vs' → KindsP (ks ++ ks') (vs ++ vs')
  | [], _, [], _, _, h => h
  | k :: ks, _, v :: vs, _, h, h' => ⟨h.1, h.2.append h'⟩
def kindsFs (rec : TypeId → Option (List Kd)) (P : Program) : List Field → Nat → Option (List Kd)
  | [], _ => some []
  | f :: l, a => match rec f.type with
    | some ks => cond (Nat.beq f.offset a && Nat.beq ks.length (P.cellsOf f.type)) (match kindsFs rec P l (a + ks.length) with
      | some r => some (ks ++ r)
      | none => none) none
    | none => none
def kindsOf (P : Program) : Nat → TypeId → Option (List Kd)
  | 0, _ => none
  | n + 1, t => match P.underlying t with
    | some .bool => some [.bool]
    | some (.int k) => some [.int k]
    | some .string => some [.str]
    | some (.struct fs) => match kindsFs (kindsOf P n) P fs.toList 0 with
      | some ks => cond (Nat.beq ks.length (P.cellsOf t)) (some ks) none
      | none => none
    | _ => none
section
variable {H : Type} {enc : TypeId × Value → H} {P : Program} {w : World} {base : Nat} {spare : Nat → Bool} {held : Bool}
theorem kindsFs_ok {rec : TypeId → Option (List Kd)} {m : Nat} {cs : List Value} (hr : ∀ t ks cs' x, rec t = some ks → DataW.trod enc P w base spare held m t cs' = some x → KindsP ks cs') :
    ∀ (l : List Field) (a : Nat) (ks : List Kd), kindsFs rec P l a = some ks → a + ks.length ≤ cs.length → (∀ f ∈ l, ∃ x, DataW.trod enc P w base spare held m f.type ((cs.drop f.offset).take (P.cellsOf f.type)) = some x) → KindsP ks ((cs.drop a).take ks.length)
  | [], a, ks, h, _, _ => by
    cases h
    rw [List.length_nil, List.take_zero]; trivial
  | f :: l, a, ks, h, hle, hx => by
    unfold kindsFs at h
    split at h
    · rename_i k1 hk1
      cases hc : (Nat.beq f.offset a && Nat.beq k1.length (P.cellsOf f.type)) with
      | false => rw [hc] at h; cases h
      | true =>
        rw [hc, cond_true] at h
        simp only [Bool.and_eq_true] at hc
        have e1 := Nat.eq_of_beq_eq_true hc.1
        have e2 := Nat.eq_of_beq_eq_true hc.2
        split at h
        · rename_i r hr2
          cases h
          obtain ⟨x, hx1⟩ := hx f (List.mem_cons_self ..)
          have h1 := hr _ _ _ _ hk1 hx1
          rw [e1, ← e2] at h1
          rw [List.length_append] at hle
          have h2 := kindsFs_ok hr l (a + k1.length) r hr2 (by omega) (fun g hg => hx g (List.mem_cons_of_mem _ hg))
          have := h1.append h2
          rw [List.length_append, List.take_add]
          rw [List.drop_drop]
          exact this
        · cases h
    · cases h
theorem kindsOf_ok : ∀ (n : Nat) (t : TypeId) (ks : List Kd), kindsOf P n t = some ks → ∀ (m : Nat) (cs : List Value) (x : DataW H × List MemPlace), DataW.trod enc P w base spare held m t cs = some x → KindsP ks cs
  | 0, _, _, h, _, _, _, _ => by cases h
  | n + 1, t, ks, h, m, cs, x, hx => by
    unfold kindsOf at h
    split at h
    · rename_i ht
      cases h
      obtain ⟨b, rfl, _⟩ := DataW.trod_bool ht hx
      exact ⟨⟨b, rfl⟩, trivial⟩
    · rename_i k ht
      cases h
      obtain ⟨z, rfl, _, hz⟩ := DataW.trod_int ht hx
      exact ⟨⟨z, rfl, hz⟩, trivial⟩
    · rename_i ht
      cases h
      obtain ⟨s, rfl, _, hs⟩ := DataW.trod_string ht hx
      exact ⟨⟨s, rfl, hs⟩, trivial⟩
    · rename_i fs ht
      split at h
      · rename_i ks' hk
        cases hc : Nat.beq ks'.length (P.cellsOf t) with
        | false => rw [hc] at h; cases h
        | true =>
          rw [hc] at h
          cases h
          have e := Nat.eq_of_beq_eq_true hc
          obtain ⟨xs, m', rfl, _, hl, hxl, hf⟩ := DataW.trod_struct ht hx
          have := kindsFs_ok (cs := cs) (m := m') (fun t ks cs' x h1 h2 => kindsOf_ok n t ks h1 m' cs' x h2) fs.toList 0 _ hk (by omega) (fun f hmem => by
            obtain ⟨i, hi⟩ := List.getElem?_of_mem hmem
            have hi2 : fs[i]? = some f := by simpa using hi
            have := hf i f hi2
            have hlt : i < xs.length := by rw [hxl]; exact (Array.getElem?_eq_some_iff.1 hi2).1
            exact ⟨xs[i], by rw [this]; simp [hlt]⟩)
          rw [List.drop_zero, e, ← hl, List.take_length] at this
          exact this
      · cases h
    · cases h
end
/-! ### a slice of such elements -/
structure RowAt (W : World) (ks : List Kd) (b o len cap : Nat) (c : Array Value) (t : TypeId) (fz : Nat × Nat) : Prop where
  blk : W.heap[b]? = some (.cells c t fz)
  fits : o + cap * ks.length ≤ c.size
  el : ∀ i, i < len → ∃ cs', cs'.length = ks.length ∧ (∀ j, j < ks.length → c[o + i * ks.length + j]? = cs'[j]?) ∧ KindsP ks cs'
theorem cellAt29 {W : World} {a : Addr} {v : Value} (h : W.cell? a = some v) : a.spot = none ∧ ∃ c t fz, W.heap[a.block]? = some (.cells c t fz) ∧ c[a.off]? = some v := by
  unfold World.cell? at h
  split at h
  · rename_i c t fz hb
    cases hs : a.spot with
    | none => rw [hs] at h; exact ⟨rfl, c, t, fz, hb, by simpa using h⟩
    | some s => rw [hs] at h; simp at h
  · cases h
theorem add_off (a : Addr) (i : Nat) : (a.add i).block = a.block ∧ (a.add i).off = a.off + i ∧ (a.spot = none → (a.add i).spot = none) ∧ ((a.add i).spot = none → i = 0 → a.spot = none) := by
  unfold Addr.add
  by_cases h : i = 0
  · subst h; simp
  · simp [h]
theorem open_flat {H : Type} {enc : TypeId × Value → H} {P : Program} {W : World} {t e : TypeId} (ht : P.underlying t = some (.slice e)) {n : Nat} {ks : List Kd} (hk : kindsOf P n e = some ks) (hc : P.cellsOf e = ks.length) (hpos : 0 < ks.length) {v : Value} {d : DataW H} {p : List MemPlace} {b0 : Nat}
    (hval : Value.okWide P W .any b0 t v) (h : DataW.Trod enc P W 0 (fun _ => true) true t v d p) :
    v = .slice none 0 0 ∨ ∃ b o len cap, v = .slice (some ⟨b, o, none⟩) len cap ∧ len ≤ cap ∧ cap ≤ maxLen ∧ (0 < len → ∃ c t' fz, RowAt W ks b o len cap c t' fz) := by
  obtain ⟨fuel, hf⟩ := h
  have hv : v.cells.toList = [v] ∨ ∃ cs, v = .agg cs := by
    cases v <;> first | exact .inl rfl | exact .inr ⟨_, rfl⟩
  unfold Value.okWide at hval
  rw [ht] at hval
  unfold Cell.okWide at hval
  rw [ht] at hval
  rcases hv with hv | ⟨cs, rfl⟩
  · rw [hv] at hf
    rcases Go.Deep.open_slice ht hf with ⟨h1, _⟩ | ⟨a, len, cap, m, n', D, Pl, h1, hb, hl, hm, hmm, _, hel⟩
    · left; simpa using h1
    · right
      simp only [List.cons.injEq, and_true] at h1
      subst h1
      unfold Cell.ok at hval
      rw [ht] at hval
      have hsp : a.spot = none := hval.2.2.2.1
      obtain ⟨b, o, sp⟩ := a
      cases hsp
      refine ⟨b, o, len, cap, rfl, hl, hm, fun hlen => ?_⟩
      simp only [if_true] at hmm
      subst hmm
      have cellAt : ∀ i, i < m → ∃ cs', cs'.length = ks.length ∧ (∀ j, j < ks.length → W.cell? ⟨b, o + i * ks.length + j, none⟩ = cs'[j]?) ∧ KindsP ks cs' := fun i hi => by
        obtain ⟨cs', g1, g2⟩ := hel i hi
        obtain ⟨_, g3, g4⟩ := World.cells?_some g1
        rw [hc] at g3 g4
        refine ⟨cs', g3, fun j hj => ?_, kindsOf_ok n e ks hk _ _ _ g2⟩
        rw [← g4 j hj]
        congr 1
        unfold Addr.add
        by_cases h1 : i * ks.length = 0 <;> by_cases h2 : j = 0 <;> simp [h1, h2]
      have first : ∃ c t' fz, W.heap[b]? = some (.cells c t' fz) := by
        obtain ⟨cs', g1, g2, _⟩ := cellAt 0 (by omega)
        have : (cs'[0]?).isSome = true := by simp [g1, hpos]
        rw [← g2 0 hpos] at this
        obtain ⟨v, hv⟩ := Option.isSome_iff_exists.1 this
        obtain ⟨_, c, t', fz, h3, _⟩ := cellAt29 hv
        exact ⟨c, t', fz, h3⟩
      obtain ⟨c, t', fz, hblk⟩ := first
      have cellIn : ∀ k v, W.cell? ⟨b, k, none⟩ = some v → c[k]? = some v := fun k v hv => by
        obtain ⟨_, c2, t2, fz2, h3, h4⟩ := cellAt29 hv
        rw [hblk] at h3
        cases h3
        exact h4
      refine ⟨c, t', fz, hblk, ?_, fun i hi => ?_⟩
      · obtain ⟨cs', g1, g2, _⟩ := cellAt (m - 1) (by omega)
        have : (cs'[ks.length - 1]?).isSome = true := by simp [g1]; omega
        rw [← g2 (ks.length - 1) (by omega)] at this
        obtain ⟨v, hv⟩ := Option.isSome_iff_exists.1 this
        have := (Array.getElem?_eq_some_iff.1 (cellIn _ _ hv)).1
        have e1 : m * ks.length = (m - 1) * ks.length + ks.length := by
          rw [← Nat.succ_mul]; congr 1; omega
        omega
      · obtain ⟨cs', g1, g2, g3⟩ := cellAt i (by omega)
        refine ⟨cs', g1, fun j hj => ?_, g3⟩
        have hj2 : j < cs'.length := by omega
        have := g2 j hj
        rw [List.getElem?_eq_getElem hj2] at this ⊢
        exact cellIn _ _ this
  · simp [Cell.ok, ht] at hval
/-- The elements as data of a type of one's own. -/
theorem row_obj {W : World} {ks : List Kd} {b o len cap : Nat} {c : Array Value} {t : TypeId} {fz : Nat × Nat} (h : RowAt W ks b o len cap c t fz) {E : Type} [Inhabited E] {cellsE : E → List AVal} (hE : ∀ x, (cellsE x).length = ks.length)
    (hK : ∀ cs', KindsP ks cs' → ∃ x : E, ∀ (j : Nat) u v, (cellsE x)[j]? = some u → cs'[j]? = some v → ∀ σ, VR σ u v) :
    ∃ l : List E, l.length = len ∧ ∀ σ, ORel σ W ⟨b, o, c.size⟩ (.cells true (l.flatMap cellsE)) := by
  have h1 : ∀ i, i < len → ∃ x : E, ∀ j, j < ks.length → ∃ v, c[o + i * ks.length + j]? = some v ∧ ∀ u, (cellsE x)[j]? = some u → ∀ σ, VR σ u v := fun i hi => by
    obtain ⟨cs', g1, g2, g3⟩ := h.el i hi
    obtain ⟨x, hx⟩ := hK cs' g3
    refine ⟨x, fun j hj => ?_⟩
    have hj2 : j < cs'.length := by omega
    exact ⟨cs'[j], by rw [g2 j hj]; exact List.getElem?_eq_getElem hj2, fun u hu => hx j u _ hu (List.getElem?_eq_getElem hj2)⟩
  obtain ⟨f, hf⟩ := Go.Deep.choose_lt h1
  refine ⟨(List.range len).map f, by simp, fun σ => ⟨c, t, fz, h.blk, rfl, ?_, fun h => by cases h⟩⟩
  have key : ∀ (n : Nat), n ≤ len → ∀ (i : Nat) v, (((List.range n).map f).flatMap cellsE)[i]? = some v → ∃ v', c[o + i]? = some v' ∧ VR σ v v' := by
    intro n
    induction n with
    | zero => intro _ i v hi; simp at hi
    | succ n ih =>
      intro hn i v hi
      have hlen : (((List.range n).map f).flatMap cellsE).length = n * ks.length := by
        have : ∀ (l : List E), (l.flatMap cellsE).length = l.length * ks.length := fun l => by
          induction l with
          | nil => simp
          | cons x l ih => rw [List.flatMap_cons, List.length_append, ih, hE, List.length_cons, Nat.succ_mul]; omega
        rw [this]; simp
      rw [List.range_succ, List.map_append, List.flatMap_append, List.getElem?_append, hlen] at hi
      split at hi
      · exact ih (by omega) i v hi
      · rename_i hge
        simp only [List.map_cons, List.map_nil, List.flatMap_cons, List.flatMap_nil, List.append_nil] at hi
        have hj : i - n * ks.length < ks.length := by
          have := (List.getElem?_eq_some_iff.1 hi).1
          rwa [hE (f n)] at this
        obtain ⟨v', g1, g2⟩ := hf n (by omega) _ hj
        refine ⟨v', ?_, g2 v hi σ⟩
        rw [show o + i = o + n * ks.length + (i - n * ks.length) by omega]
        exact g1
  exact key len (Nat.le_refl _)
theorem KindsP.cons {k : Kd} {ks : List Kd} {cs : List Value} (h : KindsP (k :: ks) cs) : ∃ v vs, cs = v :: vs ∧ HasK k v ∧ KindsP ks vs := by
  cases cs with
  | nil => exact h.elim
  | cons v vs => exact ⟨v, vs, rfl, h.1, h.2⟩
theorem KindsP.none {cs : List Value} (h : KindsP [] cs) : cs = [] := by
  cases cs with
  | nil => rfl
  | cons v vs => exact h.elim
inductive VRs : List AVal → List Value → Prop where
  | nil : VRs [] []
  | cons {u v us vs} (h : ∀ σ, VR σ u v) (t : VRs us vs) : VRs (u :: us) (v :: vs)
theorem VRs.get {us : List AVal} {vs : List Value} (h : VRs us vs) : ∀ (j : Nat) u v, us[j]? = some u → vs[j]? = some v → ∀ σ, VR σ u v := by
  induction h with
  | nil => intro j u v hj; simp at hj
  | cons h t ih =>
    intro j u v h1 h2 σ
    cases j with
    | zero => simp at h1 h2; subst h1 h2; exact h σ
    | succ j => exact ih j u v (by simpa using h1) (by simpa using h2) σ
/-! ### the call -/
def Still (W w' : World) : Prop := ∀ b, b < W.heap.size → w'.heap[b]? = W.heap[b]?
theorem hrel_ro {σ : Sig} {H : Heap} {w : World} (h : ∀ n o, H n = some o → o.ro = true ∧ ∃ p, σ n = some p ∧ ORel σ w p o) : HRel σ H w :=
  ⟨fun n o hn => (h n o hn).2, fun n m o o' p q hn hm _ _ _ => .inr ⟨(h n o hn).1, (h m o' hm).1⟩⟩
theorem law_calls_H {P : Program} {cs : CS} (hcs : CSOk P cs) (hm : P.follows .mixedOrders = true) {nn F : Nat} {f : FuncId} {args : List AVal} {H : HL} {fr : Nat} (h : (run1 P cs nn F f args H fr).map (·.1) = some (.bool true))
    {σ : Sig} {args' : Array Value} {w : World} (hro : ∀ n o, aget H n = some o → o.ro = true ∧ ∃ p, σ n = some p ∧ ORel σ w p o) (hg : GRel P σ) (hfr : Fresh σ fr) (hl : LR σ args args') :
    Calls P f args' w fun r w' => r = .returned (.bool true) ∧ Grew w w' ∧ Still w w' := by
  obtain ⟨r, hr, hrv⟩ := optMap h
  obtain ⟨v, H', fr'⟩ := r
  obtain ⟨fn, c, hf, hb, hrun⟩ := run1_some hr
  refine (runF_ok hcs hm hf hb hrun hl (hrel_ro hro) hg hfr).mono fun r w' ⟨σ', v', h1, h2, _, h4, _⟩ => ?_
  have hv : v = .bool true := hrv
  subst hv
  cases h2
  have hs : Still w w' := fun b hb => (h4.old b hb (by
    rintro ⟨n, o, p, g1, g2, _⟩
    rw [(hro n o g1).1] at g2
    cases g2)).1
  exact ⟨h1, grew_of h4.os h4.output h4.size hs, hs⟩
theorem args_stay {H : Type} {enc : TypeId × Value → H} {P : Program} (hl : laidOutB P = true) {W W' : World} (hs : Still W W') :
    ∀ {ts : List TypeId} {vs : List Value} {ds : List (DataW H)} {ps : List MemPlace}, (ts.all fun t => P.readableRec t && decide (t < P.types.size)) = true → DataW.TrodAll enc P W 0 (fun _ => true) true ts vs ds ps → (∀ p ∈ ps, p.block < W.heap.size) →
    ∀ sp : Nat → Bool, (∀ p ∈ ps, sp p.block = true) → DataW.TrodAll enc P W' 0 sp true ts vs ds ps
  | [], [], [], _, _, h, _, _, _ => h
  | t :: ts, v :: vs, d :: ds, ps, ht, ⟨p, q, h1, h2, e⟩, hlt, sp, hsp => by
    simp only [List.all_cons, Bool.and_eq_true, decide_eq_true_eq] at ht
    subst e
    have same : ∀ x : MemPlace, x.block < W.heap.size → W.sameAt W' x := fun x hx => by
      cases x with
      | cell b off =>
        show W'.cell? _ = W.cell? _
        unfold World.cell?
        rw [show W'.heap[(⟨b, off, none⟩ : Addr).block]? = W.heap[b]? from hs b hx]
      | map b => exact hs b hx
    exact ⟨p, q, Go.WideElems.Trod_stays hl ht.1.1 ht.1.2 h1 (fun x hx => same x (hlt x (List.mem_append_left _ hx))) (fun x hx => hsp x (List.mem_append_left _ hx)),
      args_stay hl hs (by simpa using ht.2) h2 (fun x hx => hlt x (List.mem_append_right _ hx)) sp (fun x hx => hsp x (List.mem_append_right _ hx)), rfl⟩
theorem sig0_fresh (P : Program) : Fresh (sig0 P) P.globals.size := fun n hn => by
  unfold sig0
  rw [if_neg (by omega)]
theorem fresh_set {σ : Sig} {n : Nat} (h : Fresh σ n) (p : Place) : Fresh (σ.set n p) (n + 1) := fun m hm => by
  rw [Sig.set_other σ p (by omega)]
  exact h m (by omega)
theorem grel_set {P : Program} {σ : Sig} (h : GRel P σ) {n : Nat} (hn : P.globals.size ≤ n) (p : Place) : GRel P (σ.set n p) := fun g hg => by
  rw [Sig.set_other σ p (by omega)]
  exact h g hg
/-- A law with one row among its arguments. -/
theorem rows_calls {P : Program} {cs : CS} (hcs : CSOk P cs) (hm : P.follows .mixedOrders = true) {nn F : Nat} {f : FuncId} {ks : List Kd} {E : Type} [Inhabited E] {cellsE : E → List AVal} (hE : ∀ x, (cellsE x).length = ks.length)
    (hK : ∀ cs', KindsP ks cs' → ∃ x : E, ∀ (j : Nat) u v, (cellsE x)[j]? = some u → cs'[j]? = some v → ∀ σ, VR σ u v)
    {args : AVal → List AVal} {args' : Value → Array Value} (harg : ∀ σ u u', VR σ u u' → LR σ (args u) (args' u')) {G : Nat} (hG : P.globals.size = G)
    (hn : (run1 P cs nn F f (args .nilSlice) [] G).map (·.1) = some (.bool true))
    (he : (run1 P cs nn F f (args (.slice G 0 0 ks.length)) [] (G + 1)).map (·.1) = some (.bool true))
    (hl : ∀ l : List E, (run1 P cs nn F f (args (.slice G 0 l.length ks.length)) [(G, .cells true (l.flatMap cellsE))] (G + 1)).map (·.1) = some (.bool true))
    {W : World} {v : Value} (ho : v = .slice none 0 0 ∨ ∃ b o len cap, v = .slice (some ⟨b, o, none⟩) len cap ∧ len ≤ cap ∧ cap ≤ maxLen ∧ (0 < len → ∃ c t' fz, RowAt W ks b o len cap c t' fz)) :
    Calls P f (args' v) W fun r w' => r = .returned (.bool true) ∧ Grew W w' ∧ Still W w' := by
  subst hG
  rcases ho with rfl | ⟨b, o, len, cap, rfl, h1, h2, h3⟩
  · exact law_calls_H hcs hm hn (fun n o h => by simp [aget] at h) (sig0_g P) (sig0_fresh P) (harg _ _ _ .nilSlice)
  · by_cases h0 : len = 0
    · subst h0
      exact law_calls_H hcs hm he (σ := (sig0 P).set P.globals.size ⟨b, o, o + cap * ks.length⟩) (fun n o h => by simp [aget] at h) (grel_set (sig0_g P) (Nat.le_refl _) _) (fresh_set (sig0_fresh P) _)
        (harg _ _ _ (.slice (Sig.set_same _ _ _) (.inl rfl) h1 (Nat.le_refl _)))
    · obtain ⟨c, t', fz, hr⟩ := h3 (by omega)
      obtain ⟨l, hll, hobj⟩ := row_obj hr hE hK
      subst hll
      refine law_calls_H hcs hm (hl l) (σ := (sig0 P).set P.globals.size ⟨b, o, c.size⟩) (fun n ob h => ?_) (grel_set (sig0_g P) (Nat.le_refl _) _) (fresh_set (sig0_fresh P) _)
        (harg _ _ _ (.slice (Sig.set_same _ _ _) (.inr (by simp)) h1 hr.fits))
      rcases beq_cases P.globals.size n with ⟨e, hb⟩ | ⟨e, hb⟩
      · simp only [aget, hb, cond_true, Option.some.injEq] at h
        subst h
        exact ⟨rfl, _, by rw [← e]; exact Sig.set_same _ _ _, hobj _⟩
      · simp only [aget, hb, cond_false] at h
        cases h
end Go.Eng

/- Engine, part 31: a loop that is left by a return. -/
namespace Go.Eng
set_option linter.unusedVariables false
set_option linter.unusedSimpArgs false
open Go
theorem evS_loopR {P : Program} {cs : CS} {nt nn F bs : Nat} {l : List Code} {k id : Nat} {b : Code} (hk : l[k]? = some (.block id (.loop b))) (I : Nat → SA) (N : Nat) {s1 : SA} (hstep : ∀ k, k < N → roundA (evC P cs nt nn F bs b) (headA P bs (I 0)) (I k) = some (I (k + 1)))
    (hend : evC P cs nt nn F bs b (I N) = some (.ret, s1)) (hF : N < F) : evS P cs nt nn F bs (l.drop k) (I 0) = some (.ret, s1) := by
  have hlt := (List.getElem?_eq_some_iff.1 hk).1
  have e : l.drop k = .block id (.loop b) :: l.drop (k + 1) := by
    rw [List.drop_eq_getElem_cons hlt]
    rw [List.getElem?_eq_getElem hlt] at hk
    rw [Option.some.inj hk]
  rw [e]
  simp only [evS, evC_loop_ret I N (fun k h => roundA_some (hstep k h)) hend hF]
/-- A round that returns. -/
def retO (P : Program) (ps : PS) (cs : CS) (sy : List Nat) (fn : Func) (nn F bs : Nat) (b : Code) (s : SA) (q : OS) : Option (AVal × List Bool) :=
  match evT P ps cs sy fn.ntmps nn F bs b s q with
  | some (.ret, s1, q1) => match finV P fn (some (.ret, s1)) with
    | some v => some (v, q1.ob)
    | none => none
  | _ => none
theorem retO_ok {P : Program} {ps : PS} {cs : CS} (hps : PSOk ps cs) {sy : List Nat} {fn : Func} {nn F bs : Nat} {b : Code} {s : SA} {os : List Bool} {vs : List AVal} {v : AVal} {ob : List Bool} (h : retO P ps cs sy fn nn F bs b s ⟨os, vs, []⟩ = some (v, ob)) (ha : allT ob = true) :
    ∃ s1, evC P cs fn.ntmps nn F bs b s = some (.ret, s1) ∧ finV P fn (some (.ret, s1)) = some v := by
  unfold retO at h
  split at h
  · rename_i s1 q1 he
    split at h
    · rename_i u hu
      simp only [Option.some.injEq, Prod.mk.injEq] at h
      obtain ⟨rfl, rfl⟩ := h
      exact ⟨s1, (evT_ok hps b _ _ _ _ _ he ha).1, hu⟩
    · cases h
  · cases h
theorem run_loopR {P : Program} {ps : PS} {cs : CS} (hps : PSOk ps cs) {nn F : Nat} {f : FuncId} {fn : Func} {c : Code} {args : List AVal} {H : HL} {fr : Nat} (hf : P.funcs[f]? = some fn) (hb : fn.body = some c) (hn : Nat.ble args.length fn.ntmps = true)
    (k : Nat) {id : Nat} {b : Code} (hk : (pieces c)[k]? = some (.block id (.loop b))) (I : Nat → SA) (N : Nat) {sy0 sy1 : List Nat} {os0 os1 : List Bool} {vs0 vs1 : List AVal} {ob0 ob1 : List Bool}
    (hpre : segO (evSO P ps cs sy0 fn.ntmps nn F fr ((pieces c).take k) ⟨startT args 0, H, fr⟩ ⟨os0, vs0, []⟩) = some (I 0, ob0)) (ha0 : allT ob0 = true)
    (hstep : ∀ j, j < N → roundA (evC P cs fn.ntmps nn F fr b) (headA P fr (I 0)) (I j) = some (I (j + 1)))
    {v : AVal} (hend : retO P ps cs sy1 fn nn F fr b (I N) ⟨os1, vs1, []⟩ = some (v, ob1)) (ha1 : allT ob1 = true) (hF : N < F) : (run1 P cs nn F f args H fr).map (·.1) = some v := by
  obtain ⟨s1, h1, h2⟩ := retO_ok hps hend ha1
  rw [run1_val hf hb hn, ← h2]
  congr 1
  have e : pieces c = (pieces c).take k ++ (pieces c).drop k := (List.take_append_drop k (pieces c)).symm
  rw [e, evS_append (segO_pre hps hpre ha0), evS_loopR hk I N hstep h1 hF]
end Go.Eng

/- Points: rows of calls: the state. -/
namespace Go.Proofs.Ytipbocnofahafaa
set_option linter.unusedVariables false
set_option linter.unusedSimpArgs false
open Go Go.Eng Go.Num
set_option maxRecDepth 100000
set_option maxHeartbeats 1000000
set_option linter.unusedSimpArgs false
set_option linter.unusedVariables false
def S4 (s : List UInt8) (n : Nat) (c : List AVal) (p : P4 E5) (q : P4 N16) (r i : Int) : SA := ⟨[(0, .str s), (1, .slice 1 0 n 1), (4, .bool false), (5, .ptr 50 0), (6, .int .i64 r), (25, .bool false), (7, .ptr 170 0), (9, .int .i64 i)], [(1, .cells true c), (50, .cells false (pCells p)), (170, .cells false (qCells q))], 202⟩
noncomputable def p4 : List Code := pieces (bodyOf Try.f4)
noncomputable def b4 : Code := loopOf (p4.getD 6 .skip)
end Go.Proofs.Ytipbocnofahafaa

/- Points: the law on rows of calls. -/
namespace Go.Proofs.Ytipbocnofahafaa
set_option linter.unusedVariables false
set_option linter.unusedSimpArgs false
open Go Go.Eng Go.Num
set_option maxRecDepth 100000
set_option maxHeartbeats 1000000
set_option linter.unusedSimpArgs false
set_option linter.unusedVariables false
theorem r4a (φ : Fi) (s e : List UInt8) (n : Nat) (c : List AVal) (p p0 : P4 E5) (q q0 : P4 N16) (r i j : Int) : roundO2 Try.prog (psnl φ) (nl φ) [35, 40, 41, 43, 48, 49, 56, 57, 58, 64, 68, 69, 71, 75, 78, 82, 83, 92] [true, false, true] [.str e, .str e, .str e] Try.f4.ntmps (mask 4) 1000 2 b4 (S4 s n c p0 q0 r j) (S4 s n c p q r i) = some (S4 s n c (φ.add p p) (φ.addQ q q) r (IntKind.wrap .i64 (i + 1)), [((φ.okQ q) && (φ.okQ q)), (e == []), (isAt c (0 + ((Int.toNat i) * 1)) (AVal.str e)), ((decide ((0 : Int) ≤ i)) && (decide (i < (n : Int)))), (isAt c (0 + ((Int.toNat i) * 1)) (AVal.str e)), ((decide ((0 : Int) ≤ i)) && (decide (i < (n : Int)))), !(decide ((40 : Int) < ((List.length e : Nat) : Int))), (isAt c (0 + ((Int.toNat i) * 1)) (AVal.str e)), ((decide ((0 : Int) ≤ i)) && (decide (i < (n : Int)))), (decide (i < (n : Int)))]) := by kernel_rfl
theorem r4b (φ : Fi) (s e : List UInt8) (n : Nat) (c : List AVal) (p p0 : P4 E5) (q q0 : P4 N16) (r i j : Int) : roundO2 Try.prog (psnl φ) (nl φ) [35, 40, 41, 43, 48, 49, 56, 57, 58, 64, 68, 69, 71, 75, 78, 82, 83, 92] [true, false, false, true] [.str e, .str e, .str e, .str e] Try.f4.ntmps (mask 4) 1000 2 b4 (S4 s n c p0 q0 r j) (S4 s n c p q r i) = some (S4 s n c (φ.neg p) (φ.negQ q) r (IntKind.wrap .i64 (i + 1)), [(((List.length e : Nat) : Int) == 1), (isAt c (0 + ((Int.toNat i) * 1)) (AVal.str e)), ((decide ((0 : Int) ≤ i)) && (decide (i < (n : Int)))), !(e == []), (isAt c (0 + ((Int.toNat i) * 1)) (AVal.str e)), ((decide ((0 : Int) ≤ i)) && (decide (i < (n : Int)))), (isAt c (0 + ((Int.toNat i) * 1)) (AVal.str e)), ((decide ((0 : Int) ≤ i)) && (decide (i < (n : Int)))), !(decide ((40 : Int) < ((List.length e : Nat) : Int))), (isAt c (0 + ((Int.toNat i) * 1)) (AVal.str e)), ((decide ((0 : Int) ≤ i)) && (decide (i < (n : Int)))), (decide (i < (n : Int)))]) := by kernel_rfl
theorem r4c (φ : Fi) (s e : List UInt8) (n : Nat) (c : List AVal) (p p0 : P4 E5) (q q0 : P4 N16) (r i j : Int) : roundO2 Try.prog (psnl φ) (nl φ) [35, 40, 41, 43, 48, 49, 56, 57, 58, 64, 68, 69, 71, 75, 78, 82, 83, 92] [true, false, false, false, true] [.str e, .str e, .str e, .str e, .str e] Try.f4.ntmps (mask 4) 1000 2 b4 (S4 s n c p0 q0 r j) (S4 s n c p q r i) = some (S4 s n c (φ.add p (φ.dec e)) (φ.addQ q (φ.decQ e)) r (IntKind.wrap .i64 (i + 1)), [((φ.okQ q) && (φ.okQ (φ.decQ e))), (isAt c (0 + ((Int.toNat i) * 1)) (AVal.str e)), ((decide ((0 : Int) ≤ i)) && (decide (i < (n : Int)))), ((φ.decR e) == 0), !(((List.length e : Nat) : Int) == 1), (isAt c (0 + ((Int.toNat i) * 1)) (AVal.str e)), ((decide ((0 : Int) ≤ i)) && (decide (i < (n : Int)))), !(e == []), (isAt c (0 + ((Int.toNat i) * 1)) (AVal.str e)), ((decide ((0 : Int) ≤ i)) && (decide (i < (n : Int)))), (isAt c (0 + ((Int.toNat i) * 1)) (AVal.str e)), ((decide ((0 : Int) ≤ i)) && (decide (i < (n : Int)))), !(decide ((40 : Int) < ((List.length e : Nat) : Int))), (isAt c (0 + ((Int.toNat i) * 1)) (AVal.str e)), ((decide ((0 : Int) ≤ i)) && (decide (i < (n : Int)))), (decide (i < (n : Int)))]) := by kernel_rfl
theorem r4d (φ : Fi) (s e : List UInt8) (n : Nat) (c : List AVal) (p p0 : P4 E5) (q q0 : P4 N16) (r i j : Int) : roundO2 Try.prog (psnl φ) (nl φ) [35, 40, 41, 43, 48, 49, 56, 57, 58, 64, 68, 69, 71, 75, 78, 82, 83, 92] [true, false, false, false, false] [.str e, .str e, .str e, .str e] Try.f4.ntmps (mask 4) 1000 2 b4 (S4 s n c p0 q0 r j) (S4 s n c p q r i) = some (S4 s n c p q r (IntKind.wrap .i64 (i + 1)), [!((φ.decR e) == 0), !(((List.length e : Nat) : Int) == 1), (isAt c (0 + ((Int.toNat i) * 1)) (AVal.str e)), ((decide ((0 : Int) ≤ i)) && (decide (i < (n : Int)))), !(e == []), (isAt c (0 + ((Int.toNat i) * 1)) (AVal.str e)), ((decide ((0 : Int) ≤ i)) && (decide (i < (n : Int)))), (isAt c (0 + ((Int.toNat i) * 1)) (AVal.str e)), ((decide ((0 : Int) ≤ i)) && (decide (i < (n : Int)))), !(decide ((40 : Int) < ((List.length e : Nat) : Int))), (isAt c (0 + ((Int.toNat i) * 1)) (AVal.str e)), ((decide ((0 : Int) ≤ i)) && (decide (i < (n : Int)))), (decide (i < (n : Int)))]) := by kernel_rfl
theorem r4z (φ : Fi) (s e : List UInt8) (n : Nat) (c : List AVal) (p : P4 E5) (q : P4 N16) (r i : Int) : retO Try.prog (psnl φ) (nl φ) [35, 40, 41, 43, 48, 49, 56, 57, 58, 64, 68, 69, 71, 75, 78, 82, 83, 92] Try.f4 (mask 4) 1000 2 b4 (S4 s n c p q r i) ⟨[true, true], [.str e], []⟩ = some (.bool true, [(decide ((40 : Int) < ((List.length e : Nat) : Int))), (isAt c (0 + ((Int.toNat i) * 1)) (AVal.str e)), ((decide ((0 : Int) ≤ i)) && (decide (i < (n : Int)))), (decide (i < (n : Int)))]) := by kernel_rfl
theorem end4 (φ : Fi) (s : List UInt8) (n : Nat) (c : List AVal) (p : P4 E5) (q : P4 N16) (r i : Int) : endO Try.prog (psnl φ) (nl φ) [35, 95] Try.f4 (mask 4) 1000 2 0 b4 (p4.drop 7) (S4 s n c p q r i) ⟨[false, true], [], []⟩ = some (.bool true, [((φ.bytes p) == (φ.bytesQ q)), (φ.okQ q), !(decide (i < (n : Int)))]) := by kernel_rfl
theorem pre4 (φ : Fi) (s : List UInt8) (n : Nat) (c : List AVal) : segO (evSO Try.prog (psnl φ) (nl φ) [20, 24] Try.f4.ntmps (mask 4) 1000 2 (p4.take 6) ⟨startT [.str s, .slice 1 0 n 1] 0, [(1, .cells true c)], 2⟩ ⟨[false, false], [], []⟩) = some (S4 s n c (φ.dec s) (φ.decQ s) (φ.decR s) 0, [!(decide ((40 : Int) < (n : Int))), !((φ.decR s) != 0)]) := by kernel_rfl
theorem w4a (φ : Fi) (s : List UInt8) (n : Nat) (c : List AVal) : ansO (run1O Try.prog (psnl φ) (nl φ) [20, 24] [true] [] (mask 4) 1000 4 [.str s, .slice 1 0 n 1] [(1, .cells true c)] 2) = some (.bool true, [((φ.decR s) != 0)]) := by kernel_rfl
theorem w4b (φ : Fi) (s : List UInt8) (n : Nat) (c : List AVal) : ansO (run1O Try.prog (psnl φ) (nl φ) [20, 24] [false, true] [] (mask 4) 1000 4 [.str s, .slice 1 0 n 1] [(1, .cells true c)] 2) = some (.bool true, [(decide ((40 : Int) < (n : Int))), !((φ.decR s) != 0)]) := by kernel_rfl
theorem w4n1 (φ : Fi) (s : List UInt8) : ansO (run1O Try.prog (psnl φ) (nl φ) [20] [true] [] (mask 4) 1000 4 [.str s, .nilSlice] [] 1) = some (.bool true, [((φ.decR s) != 0)]) := by kernel_rfl
theorem w4n0 (φ : Fi) (s : List UInt8) : ansO (run1O Try.prog (psnl φ) (nl φ) [20, 95] [false, true] [] (mask 4) 1000 4 [.str s, .nilSlice] [] 1) = some (.bool true, [((φ.bytes (φ.dec s)) == (φ.bytesQ (φ.decQ s))), (φ.okQ (φ.decQ s)), !((φ.decR s) != 0)]) := by kernel_rfl
theorem run4n (s : List UInt8) : (run1 Try.prog (nl realFi) (mask 4) 1000 4 [.str s, .nilSlice] [] 1).map (·.1) = some (.bool true) := by
  by_cases h1 : realFi.decR s = 0
  · obtain ⟨a, ha⟩ := pi_dec h1
    have b1 := pi_bytes ha
    have b2 := pi_ok ha
    exact ansO_run (nl_ps _) (w4n0 realFi s) (by simp [allT, h1, b1, b2])
  · exact ansO_run (nl_ps _) (w4n1 realFi s) (by simp [allT, h1])
theorem w4e1 (φ : Fi) (s : List UInt8) : ansO (run1O Try.prog (psnl φ) (nl φ) [20] [true] [] (mask 4) 1000 4 [.str s, .slice 1 0 0 1] [] 2) = some (.bool true, [((φ.decR s) != 0)]) := by kernel_rfl
theorem w4e0 (φ : Fi) (s : List UInt8) : ansO (run1O Try.prog (psnl φ) (nl φ) [20, 95] [false, true] [] (mask 4) 1000 4 [.str s, .slice 1 0 0 1] [] 2) = some (.bool true, [((φ.bytes (φ.dec s)) == (φ.bytesQ (φ.decQ s))), (φ.okQ (φ.decQ s)), !((φ.decR s) != 0)]) := by kernel_rfl
theorem run4e (s : List UInt8) : (run1 Try.prog (nl realFi) (mask 4) 1000 4 [.str s, .slice 1 0 0 1] [] 2).map (·.1) = some (.bool true) := by
  by_cases h1 : realFi.decR s = 0
  · obtain ⟨a, ha⟩ := pi_dec h1
    have b1 := pi_bytes ha
    have b2 := pi_ok ha
    exact ansO_run (nl_ps _) (w4e0 realFi s) (by simp [allT, h1, b1, b2])
  · exact ansO_run (nl_ps _) (w4e1 realFi s) (by simp [allT, h1])
theorem gl4 : Try.prog.globals.size = 1 := by kernel_rfl
def rowC (e : List UInt8) : List AVal := [.str e]
theorem ok4 (s : List UInt8) (n : Nat) (l : List (List UInt8)) (p : P4 E5) (q : P4 N16) (r i : Int) : okS Try.prog (S4 s n (l.flatMap rowC) p q r i) = true := by
  have h : ∀ (m : Nat) (l : List (List UInt8)), ltL m (l.flatMap rowC) = true := fun m l => by
    induction l with
    | nil => rfl
    | cons y l ih => simp [List.flatMap_cons, rowC, ltL, ltS, ih]
  simp [okS, gl4, S4, ltT, ltH, ltV, ltS, ltL, h, pCells, qCells, nble]
def itP (e : List UInt8) (p : P4 E5) : P4 E5 := cond (e == []) (realFi.add p p) (cond (((e.length : Nat) : Int) == 1) (realFi.neg p) (cond (realFi.decR e == 0) (realFi.add p (realFi.dec e)) p))
def itQ (e : List UInt8) (q : P4 N16) : P4 N16 := cond (e == []) (realFi.addQ q q) (cond (((e.length : Nat) : Int) == 1) (realFi.negQ q) (cond (realFi.decR e == 0) (realFi.addQ q (realFi.decQ e)) q))
theorem sel2 {α β : Type} {F : α → β → Prop} {b1 b2 b3 : Bool} {p1 p2 p3 p4 : α} {q1 q2 q3 q4 : β} (h1 : b1 = true → F p1 q1) (h2 : b1 = false → b2 = true → F p2 q2) (h3 : b1 = false → b2 = false → b3 = true → F p3 q3) (h4 : b1 = false → b2 = false → b3 = false → F p4 q4) : F (cond b1 p1 (cond b2 p2 (cond b3 p3 p4))) (cond b1 q1 (cond b2 q2 (cond b3 q3 q4))) := by
  cases b1
  · cases b2
    · cases b3
      · exact h4 rfl rfl rfl
      · exact h3 rfl rfl rfl
    · exact h2 rfl rfl
  · exact h1 rfl
theorem it_pi {p : P4 E5} {q : P4 N16} (h : ∃ f, PI p q f) (e : List UInt8) : ∃ f, PI (itP e p) (itQ e q) f := by
  obtain ⟨f, h⟩ := h
  unfold itP itQ
  refine sel2 (F := fun p q => ∃ f, PI p q f) (fun _ => ⟨_, pi_add h h⟩) (fun _ _ => ⟨_, pi_neg h⟩) (fun _ _ h3 => ?_) (fun _ _ _ => ⟨f, h⟩)
  obtain ⟨a, ha⟩ := pi_dec (eq_of_beq h3)
  exact ⟨_, pi_add h ha⟩
theorem at4 {l : List (List UInt8)} {i : Nat} {e : List UInt8} (hy : l[i]? = some e) : isAt (l.flatMap rowC) (0 + Int.toNat (i : Int) * 1) (.str e) = true := isAt_of (by
    rw [Nat.zero_add]
    exact flatMap_at (k := 1) (j := 0) (fun _ => rfl) hy (by omega)) (by simp [eqS])
theorem rnd4 (s : List UInt8) (l : List (List UInt8)) (p p0 : P4 E5) (q q0 : P4 N16) (r j : Int) (i : Nat) (e : List UInt8) (h : ∃ f, PI p q f) (hy : l[i]? = some e) (hl : l.length ≤ 40) (he : ¬ (40 : Int) < (e.length : Int)) :
    roundA (evC Try.prog (nl realFi) Try.f4.ntmps (mask 4) 1000 2 b4) (headA Try.prog 2 (S4 s l.length (l.flatMap rowC) p0 q0 r j)) (S4 s l.length (l.flatMap rowC) p q r i) = some (S4 s l.length (l.flatMap rowC) (itP e p) (itQ e q) r ((i + 1 : Nat) : Int)) := by
  have hi : i < l.length := (List.getElem?_eq_some_iff.1 hy).1
  have hw : IntKind.wrap .i64 ((i : Int) + 1) = ((i + 1 : Nat) : Int) := wrapI _ (by omega) (by omega)
  have c1 := at4 hy
  have d0 : decide ((0 : Int) ≤ (i : Int)) = true := by rw [decide_eq_true_iff]; omega
  have d2 : decide ((i : Int) < (l.length : Int)) = true := by rw [decide_eq_true_iff]; omega
  have d3 : decide ((40 : Int) < ((e.length : Nat) : Int)) = false := by rw [decide_eq_false_iff_not]; exact he
  have ho : ∀ A X, okS Try.prog (S4 s l.length (l.flatMap rowC) A X r (IntKind.wrap .i64 ((i : Int) + 1))) = true := fun A X => ok4 _ _ _ _ _ _ _
  obtain ⟨f, h⟩ := h
  have o1 := pi_ok h
  rw [← hw]
  generalize l.flatMap rowC = c at c1 ho ⊢
  unfold itP itQ
  refine sel2 (F := fun A X => roundA (evC Try.prog (nl realFi) Try.f4.ntmps (mask 4) 1000 2 b4) (headA Try.prog 2 (S4 s l.length c p0 q0 r j)) (S4 s l.length c p q r i) = some (S4 s l.length c A X r (IntKind.wrap .i64 ((i : Int) + 1)))) (fun h1 => ?_) (fun h1 h2 => ?_) (fun h1 h2 h3 => ?_) (fun h1 h2 h3 => ?_)
  · refine roundO2_ok (nl_ps _) (r4a realFi s e l.length c p p0 q q0 r i j) ?_ (ho _ _)
    rw [c1, d0, d2, d3, h1, o1]; rfl
  · refine roundO2_ok (nl_ps _) (r4b realFi s e l.length c p p0 q q0 r i j) ?_ (ho _ _)
    rw [c1, d0, d2, d3, h1, h2]; rfl
  · obtain ⟨a, ha⟩ := pi_dec (eq_of_beq h3)
    have o2 := pi_ok ha
    refine roundO2_ok (nl_ps _) (r4c realFi s e l.length c p p0 q q0 r i j) ?_ (ho _ _)
    rw [c1, d0, d2, d3, h1, h2, h3, o1, o2]; rfl
  · refine roundO2_ok (nl_ps _) (r4d realFi s e l.length c p p0 q q0 r i j) ?_ (ho _ _)
    rw [c1, d0, d2, d3, h1, h2, h3]; rfl
def accP (p : P4 E5) (l : List (List UInt8)) : Nat → P4 E5
  | 0 => p
  | j + 1 => itP (l.getD j []) (accP p l j)
def accQ (q : P4 N16) (l : List (List UInt8)) : Nat → P4 N16
  | 0 => q
  | j + 1 => itQ (l.getD j []) (accQ q l j)
theorem acc_pi {p : P4 E5} {q : P4 N16} (h : ∃ f, PI p q f) (l : List (List UInt8)) : ∀ j, ∃ f, PI (accP p l j) (accQ q l j) f
  | 0 => h
  | j + 1 => it_pi (acc_pi h l j) _
theorem first_of (p : Nat → Prop) [DecidablePred p] : ∀ n, (∀ j, j < n → ¬ p j) ∨ ∃ N, N < n ∧ p N ∧ ∀ j, j < N → ¬ p j
  | 0 => .inl (fun j h => by omega)
  | n + 1 => by
    rcases first_of p n with h | ⟨N, h1, h2, h3⟩
    · by_cases hn : p n
      · exact .inr ⟨n, by omega, hn, h⟩
      · refine .inl (fun j hj => ?_)
        by_cases e : j = n
        · rw [e]; exact hn
        · exact h j (by omega)
    · exact .inr ⟨N, by omega, h2, h3⟩
theorem getD_at {l : List (List UInt8)} {j : Nat} (hj : j < l.length) : l[j]? = some (l.getD j []) := by
  rw [List.getD_eq_getElem?_getD, List.getElem?_eq_getElem hj]; rfl
theorem run4 (s : List UInt8) (l : List (List UInt8)) : (run1 Try.prog (nl realFi) (mask 4) 1000 4 [.str s, .slice 1 0 l.length 1] [(1, .cells true (l.flatMap rowC))] 2).map (·.1) = some (.bool true) := by
  by_cases h1 : realFi.decR s = 0
  rotate_left
  · exact ansO_run (nl_ps _) (w4a realFi s l.length _) (by simp [allT, h1])
  by_cases hl : l.length ≤ 40
  rotate_left
  · exact ansO_run (nl_ps _) (w4b realFi s l.length _) (by
      have : decide ((40 : Int) < (l.length : Int)) = true := by rw [decide_eq_true_iff]; omega
      simp [allT, h1, this])
  obtain ⟨a, ha⟩ := pi_dec h1
  have hp : ∃ f, PI (realFi.dec s) (realFi.decQ s) f := ⟨_, ha⟩
  have a0 : allT [!(decide ((40 : Int) < (l.length : Int))), !((realFi.decR s) != 0)] = true := by
    have : decide ((40 : Int) < (l.length : Int)) = false := by rw [decide_eq_false_iff_not]; omega
    simp [allT, h1, this]
  rcases first_of (fun j => (40 : Int) < ((l.getD j []).length : Int)) l.length with hs | ⟨N, hN, hlong, hs⟩
  · obtain ⟨g, hg⟩ := acc_pi hp l l.length
    refine run_loopO (nl_ps _) (fn := Try.f4) (c := bodyOf Try.f4) (by kernel_rfl) (by kernel_rfl) (by kernel_rfl) 6 (id := 0) (b := b4) (by kernel_rfl) (fun j => S4 s l.length (l.flatMap rowC) (accP (realFi.dec s) l j) (accQ (realFi.decQ s) l j) (realFi.decR s) j) l.length (pre4 realFi s l.length _) a0 (fun j hj => ?_) (end4 realFi s l.length _ _ _ _ _) ?_ (by omega)
    · exact rnd4 s l _ _ _ _ _ _ j _ (acc_pi hp l j) (getD_at hj) hl (hs j hj)
    · have d : decide ((l.length : Int) < (l.length : Int)) = false := by rw [decide_eq_false_iff_not]; omega
      rw [pi_bytes hg, pi_ok hg, d]
      simp [allT]
  · refine run_loopR (nl_ps _) (fn := Try.f4) (c := bodyOf Try.f4) (by kernel_rfl) (by kernel_rfl) (by kernel_rfl) 6 (id := 0) (b := b4) (by kernel_rfl) (fun j => S4 s l.length (l.flatMap rowC) (accP (realFi.dec s) l j) (accQ (realFi.decQ s) l j) (realFi.decR s) j) N (pre4 realFi s l.length _) a0 (fun j hj => ?_) (r4z realFi s (l.getD N []) l.length _ _ _ _ _) ?_ (by omega)
    · exact rnd4 s l _ _ _ _ _ _ j _ (acc_pi hp l j) (getD_at (by omega)) hl (hs j hj)
    · have c1 := at4 (getD_at hN)
      have d0 : decide ((0 : Int) ≤ (N : Int)) = true := by rw [decide_eq_true_iff]; omega
      have d2 : decide ((N : Int) < (l.length : Int)) = true := by rw [decide_eq_true_iff]; omega
      have d3 := decide_eq_true hlong
      rw [c1, d0, d2, d3]; rfl
end Go.Proofs.Ytipbocnofahafaa

/- The laws on points: the group, the rows. -/
