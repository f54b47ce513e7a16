/- Texts Ed3, Ed4, Ed5, Ed6, Ed7, EdK, EdL, EdM, EdY: what they show stands ahead of each. -/
import Derived.Test.YtipbocnofahafaaT10
/- Points: the curve's number, the relations, what the sums keep. -/
namespace Go.Num
set_option linter.unusedVariables false
set_option linter.unusedSimpArgs false
open Go Go.Eng
set_option maxRecDepth 100000
def dNat : Nat := 37095705934669439343138083508754565189542113879843219016388785533085940283555
theorem d_bytes : leNat dBytes = dNat := by kernel_rfl
def dF : Fp := toF dNat
def iF : Fp := toF iNat
theorem i_sq : iNat * iNat % Pq = (Pq - 1 % Pq) % Pq := by kernel_rfl
theorem d_half : pwE Pq dNat (2 * mP) = Pq - 1 := by kernel_rfl
theorem d_ne : dNat % Pq ≠ 0 := by decide
theorem four_mP : 2 * (2 * mP) = Pq - 1 := by decide
theorem one_ne_P : ¬ (1 : Nat) = Pq - 1 := by decide
theorem toF_one : toF 1 = 1 := Fin.ext (Nat.mod_eq_of_lt (by decide))
theorem toF_nil : toF 0 = 0 := Fin.ext rfl
theorem pw_half (x : Nat) : pwE Pq x (2 * mP) = x ^ (2 * mP) % Pq := (pwE_val (by decide) (by kernel_rfl)).symm
theorem not_sq (a w n m : Nat) (hm : 2 * n = m) (hf : ∀ a, a % Pq ≠ 0 → a ^ m % Pq = 1) (hw : w * w % Pq = a % Pq) (ha : a % Pq ≠ 0) : a ^ n % Pq = 1 := by
  have h0 : w % Pq ≠ 0 := fun e => ha (by rw [← hw, Nat.mul_mod, e]; rfl)
  rw [← pow_congr hw, ← Nat.pow_two, ← Nat.pow_mul, hm]
  exact hf w h0
theorem crv : Crv dF iF := ⟨by
    show toF iNat * toF iNat = -1
    rw [← toF_mul, ← toF_one, ← toF_neg]
    exact toF_eq.2 i_sq, fun w hw => by
    have h1 : w.val * w.val % Pq = dNat % Pq := by
      have := congrArg Fin.val hw
      rw [Fin.val_mul] at this
      exact this
    have h2 := not_sq dNat w.val (2 * mP) (Pq - 1) four_mP (fun a ha => genP.fermat ha) h1 d_ne
    rw [← pw_half, d_half] at h2
    exact one_ne_P h2.symm⟩
/-! ### relations -/
def R4 {R S : Type} (r : R → S → Prop) (p : P4 R) (q : P4 S) : Prop := r p.x q.x ∧ r p.y q.y ∧ r p.z q.z ∧ r p.t q.t
theorem add_keeps {R S : Type} {o : Ops R} {o' : Ops S} {r : R → S → Prop} (k : Keeps o o' r) {p q : P4 R} {p' q' : P4 S} {d : R} {d' : S} (hd : r d d') (hp : R4 r p p') (hq : R4 r q q') : R4 r (addO o d p q) (addO o' d' p' q') := by
  have a := k.add (k.mul hp.1 hq.2.1) (k.mul hp.2.1 hq.1)
  have b := k.add (k.mul hp.2.1 hq.2.1) (k.mul hp.1 hq.1)
  have c := k.mul (k.mul hd hp.2.2.2) hq.2.2.2
  have e := k.mul hp.2.2.1 hq.2.2.1
  have f := k.sub e c
  have g := k.add e c
  exact ⟨k.mul a f, k.mul g b, k.mul f g, k.mul a b⟩
structure Re (a : E5) (f : Fp) : Prop where
  ok : a.ok
  val : toF a.val = f
theorem re_of {a : E5} {n : Nat} (h : Vm a n) : Re a (toF n) := ⟨h.ok, toF_eq.2 h.val⟩
theorem Re.vm {a : E5} {f : Fp} (h : Re a f) : Vm a a.val := ⟨h.ok, rfl⟩
theorem keeps_EF : Keeps opsE opsF Re where
  add := fun {a b x y} h k => by
    have := re_of (h.vm.add k.vm)
    rw [toF_add, h.val, k.val] at this
    exact this
  sub := fun {a b x y} h k => by
    have := re_of (h.vm.sub k.vm)
    rw [toF_sub, h.val, k.val] at this
    exact this
  mul := fun {a b x y} h k => by
    have := re_of (h.vm.mul k.vm)
    rw [toF_mul, h.val, k.val] at this
    exact this
  small := fun n => re_of (vm_small n)
  zero := re_of vm_zero
theorem re_neg {a : E5} {f : Fp} (h : Re a f) : Re (negE a) (-f) := by
  have := re_of h.vm.neg
  rw [toF_neg, h.val] at this
  exact this
theorem re_same {a b : E5} {f g : Fp} (h : Re a f) (k : Re b g) : sameE a b = decide (f = g) := by
  rw [h.vm.same k.vm, ← h.val, ← k.val]
  exact decide_eq_decide.2 toF_eq.symm
theorem re_zero : Re zeroE 0 := by have := re_of vm_zero; rw [toF_nil] at this; exact this
theorem re_one : Re (smallE 1) 1 := by
  have := re_of (vm_small 1)
  rw [show (1 : UInt32).toNat = 1 from rfl, toF_one] at this
  exact this
theorem re_inv {a : E5} {f : Fp} (h : Re a f) (hf : f ≠ 0) : Re (invE a) (invF f) := by
  have h1 := inv_one h.ok
  have h2 : a.val % Pq ≠ 0 := fun e => hf (by rw [← h.val]; exact toF_zero.2 e)
  rw [decide_eq_true h2] at h1
  have h3 := re_of (vm_inv h.vm)
  have h4 := keeps_EF.mul h h3
  rw [show opsE.mul a (invE a) = mulE a (invE a) from rfl] at h4
  rw [re_same h4 re_one] at h1
  have h5 : f * toF (a.val ^ (Pq - 2)) = 1 := of_decide_eq_true h1
  have h6 : toF (a.val ^ (Pq - 2)) = invF f := F_cancel hf (by rw [h5, invF_mul hf])
  rw [h6] at h3
  exact h3
theorem re_inv_one {a : E5} (h : Re a 1) : Re (invE a) 1 := by
  have e : invF (1 : Fp) = 1 := by have := invF_mul F_one; grind -lia -linarith (splits := 0)
  have := re_inv h F_one
  rw [e] at this
  exact this
/-- A point: the program's, the document's, the curve's. -/
structure PR (p : P4 E5) (q : P4 N16) (f : P4 Fp) : Prop where
  rel : R4 Rel p q
  val : R4 Re p f
  on : On dF f
theorem rel_d : Rel (curveφ realFe) (givenφ realFe) := rel_of (s := dBytes) (by kernel_rfl)
theorem re_d : Re (curveφ realFe) dF := by
  have h : Re (curveφ realFe) (toF (curveφ realFe).val) := ⟨ofEl_ok _, rfl⟩
  have e : toF (curveφ realFe).val = dF := toF_eq.2 (by
    have := ofEl_val (s := dBytes) (by kernel_rfl)
    rw [d_bytes] at this
    exact this)
  rw [e] at h
  exact h
theorem none_of {p : P4 E5} {f : P4 Fp} (h : R4 Re p f) (hz : f.z ≠ 0) : noneφ realFe p = false := by
  show sameE p.z zeroE = false
  rw [re_same h.2.2.1 re_zero]
  exact decide_eq_false hz
theorem PR.some {p : P4 E5} {q : P4 N16} {f : P4 Fp} (h : PR p q f) : noneφ realFe p = false := none_of h.val h.on.z
theorem add_eq (p q : P4 E5) (hp : noneφ realFe p = false) (hq : noneφ realFe q = false) : addφ realFe p q = addO opsE (curveφ realFe) p q := by
  unfold addφ
  rw [hp, hq, cond_false, cond_false]; rfl
theorem PR.add {p p' : P4 E5} {q q' : P4 N16} {f f' : P4 Fp} (h : PR p q f) (k : PR p' q' f') : PR (addφ realFe p p') (addψ realFe q q') (addO opsF dF f f') := by
  rw [add_eq p p' h.some k.some]
  exact ⟨add_keeps keeps_EN rel_d h.rel k.rel, add_keeps keeps_EF re_d h.val k.val, On.add crv h.on k.on⟩
theorem re_mul {a b : E5} {f g : Fp} (h : Re a f) (k : Re b g) : Re (mulE a b) (f * g) := keeps_EF.mul h k
theorem re_add {a b : E5} {f g : Fp} (h : Re a f) (k : Re b g) : Re (addE a b) (f + g) := keeps_EF.add h k
theorem re_sub {a b : E5} {f g : Fp} (h : Re a f) (k : Re b g) : Re (subE a b) (f - g) := keeps_EF.sub h k
theorem zero_phi : zeroφ realFe = ⟨zeroE, smallE 1, smallE 1, zeroE⟩ := by simp only [zeroφ, realFe]
theorem zero_psi : zeroψ realFe = ⟨zeroN, smallN 1, smallN 1, zeroN⟩ := by simp only [zeroψ, realFe]
theorem r4_mk {R S : Type} {r : R → S → Prop} {a b c d : R} {a' b' c' d' : S} (h1 : r a a') (h2 : r b b') (h3 : r c c') (h4 : r d d') : R4 r ⟨a, b, c, d⟩ ⟨a', b', c', d'⟩ := ⟨h1, h2, h3, h4⟩
theorem re_zero4 : R4 Re ⟨zeroE, smallE 1, smallE 1, zeroE⟩ zero4 := by
  have h0 := re_zero
  have h1 := re_one
  generalize zeroE = a at h0 ⊢
  generalize smallE 1 = b at h1 ⊢
  exact r4_mk h0 h1 h1 h0
theorem rel_zero4 : R4 Rel ⟨zeroE, smallE 1, smallE 1, zeroE⟩ ⟨zeroN, smallN 1, smallN 1, zeroN⟩ := r4_mk rel_zero (rel_small 1) (rel_small 1) rel_zero
theorem neg_phi (p : P4 E5) (h : noneφ realFe p = false) : negφ realFe p = ⟨negE p.x, p.y, p.z, negE p.t⟩ := by
  unfold negφ
  rw [h, cond_false]
  simp only [negO, realFe]
theorem neg_psi (q : P4 N16) : negψ realFe q = ⟨negP q.x, q.y, q.z, negP q.t⟩ := by simp only [negψ, negO, realFe]
theorem PR.neg {p : P4 E5} {q : P4 N16} {f : P4 Fp} (h : PR p q f) : PR (negφ realFe p) (negψ realFe q) (negO (fun a => -a) f) := by
  rw [neg_phi p h.some, neg_psi]
  have e : negO (fun a => -a) f = ⟨-f.x, f.y, f.z, -f.t⟩ := by simp only [negO]
  have o := h.on.neg
  rw [e] at o ⊢
  exact ⟨r4_mk (rel_neg h.rel.1) h.rel.2.1 h.rel.2.2.1 (rel_neg h.rel.2.2.2), r4_mk (re_neg h.val.1) h.val.2.1 h.val.2.2.1 (re_neg h.val.2.2.2), o⟩
theorem pr_zero : PR (zeroφ realFe) (zeroψ realFe) zero4 := by
  rw [zero_phi, zero_psi]
  exact ⟨rel_zero4, re_zero4, On.zero dF⟩
theorem PR.ok {p : P4 E5} {q : P4 N16} {f : P4 Fp} (h : PR p q f) : okQ0 realFe q = true := by
  unfold okQ0
  simp only [Bool.and_eq_true]
  exact ⟨okB_iff.2 h.rel.1.okP, okB_iff.2 h.rel.2.1.okP, okB_iff.2 h.rel.2.2.1.okP, okB_iff.2 h.rel.2.2.2.okP⟩
theorem PR.same {p p' : P4 E5} {q q' : P4 N16} {f f' : P4 Fp} (h : PR p q f) (k : PR p' q' f') : sameφ realFe p p' = sameψ realFe q q' := by
  unfold sameφ sameψ
  rw [h.some, k.some, cond_false, cond_false]
  show cond (sameE (mulE p.x p'.z) (mulE p'.x p.z)) (sameE (mulE p.y p'.z) (mulE p'.y p.z)) false = _
  rw [rel_same (rel_mul h.rel.1 k.rel.2.2.1) (rel_mul k.rel.1 h.rel.2.2.1), rel_same (rel_mul h.rel.2.1 k.rel.2.2.1) (rel_mul k.rel.2.1 h.rel.2.2.1)]
  rfl
theorem PR.same_iff {p p' : P4 E5} {q q' : P4 N16} {f f' : P4 Fp} (h : PR p q f) (k : PR p' q' f') : sameφ realFe p p' = true ↔ aff f = aff f' := by
  rw [← same_aff h.on k.on]
  unfold sameφ SameP
  rw [h.some, k.some, cond_false, cond_false]
  show cond (sameE (mulE p.x p'.z) (mulE p'.x p.z)) (sameE (mulE p.y p'.z) (mulE p'.y p.z)) false = true ↔ _
  rw [re_same (re_mul h.val.1 k.val.2.2.1) (re_mul k.val.1 h.val.2.2.1), re_same (re_mul h.val.2.1 k.val.2.2.1) (re_mul k.val.2.1 h.val.2.2.1)]
  generalize f.x * f'.z = a
  generalize f'.x * f.z = b
  generalize f.y * f'.z = c
  generalize f'.y * f.z = d
  by_cases h1 : a = b
  · rw [decide_eq_true h1, cond_true]
    exact Iff.intro (fun h2 => And.intro h1 (of_decide_eq_true h2)) (fun h2 => decide_eq_true h2.2)
  · rw [decide_eq_false h1, cond_false]
    exact Iff.intro (fun h2 => by cases h2) (fun h2 => absurd h2.1 h1)
theorem PR.small {p : P4 E5} {q : P4 N16} {f : P4 Fp} (h : PR p q f) : realFi.small p = realFi.smallQ q := by
  rw [small_eq, smallQ_eq]
  exact PR.same (((h.add h).add (h.add h)).add ((h.add h).add (h.add h))) pr_zero
end Go.Num

/- Points: bytes, what is read, multiples. -/
namespace Go.Num
set_option linter.unusedVariables false
set_option linter.unusedSimpArgs false
open Go Go.Eng
set_option maxRecDepth 100000
theorem byL_phi (a : E5) : byLφ realFe a = bytesE a := by simp only [byLφ, realFe, bytesE]
theorem byL_psi0 (x : N16) : ((List.range 32).map fun i => (shr_u64 (x.list.getD (i / 2) 0) (i % 2 * 8)).toUInt8) = bytesN x := by kernel_rfl
theorem rel_cond {b : Bool} {x y : E5} {x' y' : N16} (h : Rel x x') (k : Rel y y') : Rel (cond b x y) (cond b x' y') := by
  cases b
  · exact k
  · exact h
theorem ok_bool (c h z d : Bool) : cond c (cond h (cond d (!z) true) false) false = cond c (cond h (cond z (!d) true) false) false := by cases c <;> cases h <;> cases z <;> cases d <;> rfl
theorem not_t {b : Bool} (h : (!b) = true) : b = false := by cases b <;> first | rfl | cases h
theorem three_bool0 : ∀ c h d z : Bool, cond c (cond h (cond d (!z) true) false) false = true → c = true ∧ h = true ∧ (d = true → z = false) := by decide
theorem three_bool {c h d z : Bool} (k : cond c (cond h (cond d (!z) true) false) false = true) : c = true ∧ h = true ∧ (d = true → z = false) := three_bool0 c h d z k
theorem r_bool {c d : Bool} (h : (cond c (cond d (0 : Int) 40) 2) = 0) : c = true ∧ d = true := by cases c <;> cases d <;> first | exact ⟨rfl, rfl⟩ | exact absurd h (by decide)
theorem byL_psi (x : N16) : byLψ realFe x = bytesN x := by
  rw [← byL_psi0]
  simp only [byLψ, realFe]
theorem bytesN_len2 (x : N16) : (bytesN x).length = 32 := by rw [← byL_psi0, List.length_map, List.length_range]
theorem par (c : UInt64) : shl_u8 ((c &&& 1).toUInt8) 7 = cond ((c &&& 1) == 1) 128 0 := by
  have h := and_nat c 1 1 rfl
  rcases Nat.mod_two_eq_zero_or_one c.toNat with e | e
  · have : c &&& 1 = 0 := UInt64.toNat_inj.1 (by rw [h]; exact e)
    rw [this]; rfl
  · have : c &&& 1 = 1 := UInt64.toNat_inj.1 (by rw [h]; exact e)
    rw [this]; rfl
theorem set_self (l : List UInt8) (h : l.length = 32) : l.set 31 (l.getD 31 0 ||| 0) = l := by
  rw [List.getD_eq_getElem?_getD, List.getElem?_eq_getElem (by omega), Option.getD_some, UInt8.or_zero, List.set_getElem_self]
theorem bytes_gen (l : List UInt8) (hl : l.length = 32) (c : UInt64) : l.set 31 (l.getD 31 0 ||| shl_u8 ((c &&& 1).toUInt8) 7) = cond ((c &&& 1) == 1) (top128 l) l := by
  rw [par]
  cases (c &&& 1) == 1
  · rw [cond_false, cond_false, set_self l hl]
  · rfl
theorem bytes_phi (p : P4 E5) (h : noneφ realFe p = false) : bytesφ realFe p = cond (oddE (mulE p.x (invE p.z))) (top128 (bytesE (mulE p.y (invE p.z)))) (bytesE (mulE p.y (invE p.z))) := by
  unfold bytesφ
  rw [h, cond_false, byL_phi]
  simp only [realFe]
theorem bytes_psi (q : P4 N16) : bytesψ realFe q = cond (oddP (mulP q.x (invP q.z))) (top128 (bytesN (mulP q.y (invP q.z)))) (bytesN (mulP q.y (invP q.z))) := by
  unfold bytesψ
  rw [byL_psi, bytes_gen _ (bytesN_len2 _)]
  simp only [realFe, oddP]
theorem PR.bytes {p : P4 E5} {q : P4 N16} {f : P4 Fp} (h : PR p q f) : bytesφ realFe p = bytesψ realFe q := by
  have hi := rel_inv h.rel.2.2.1
  rw [bytes_phi p h.some, bytes_psi, rel_odd (rel_mul h.rel.1 hi), (rel_mul h.rel.2.1 hi).bytes]
/-! ### the curve's number -/
theorem dval {a b c : Nat} {x : N16} {e : E5} (h : Rel e x) (v : Vm e ((Pq - a % Pq) * b ^ (Pq - 2))) (k : (Pq - a % Pq) * pwE Pq b (Pq - 2) % Pq = c) : x.val = c := by
  rw [h.val, v.val, ← k, pw_inv, Nat.mul_mod_mod]
theorem d_comp : (Pq - 121665 % Pq) * pwE Pq 121666 (Pq - 2) % Pq = dNat % Pq := by kernel_rfl
theorem d_phi : dφ realFe = mulP (negP (smallN 121665)) (invP (smallN 121666)) := by simp only [dφ, realFe]
theorem given_phi : givenφ realFe = ofP dBytes := by simp only [givenφ, realFe]
theorem d_given : dφ realFe = givenφ realFe := by
  rw [d_phi, given_phi]
  have r := rel_mul (rel_neg (rel_small 121665)) (rel_inv (rel_small 121666))
  have v := Vm.mul (Vm.neg (vm_small 121665)) (vm_inv (vm_small 121666))
  rw [show (121665 : UInt32).toNat = 121665 from rfl, show (121666 : UInt32).toNat = 121666 from rfl] at v
  have e := dval r v d_comp
  have k := rel_of (s := dBytes) (by kernel_rfl)
  refine N16.ext_val r.okP k.okP ?_
  rw [e, k.val, ofEl_val (by kernel_rfl), d_bytes]
theorem samP_self (a : N16) : samP a a = true := by rw [samP_eq]; exact decide_eq_true rfl
theorem given_true : realFi.given = true := by
  rw [given_eq, ← d_given]
  exact samP_self _
/-! ### reading -/
theorem rel_y {s : List UInt8} (h : isLen s 32 = true) : Rel (yφ realFe s) (yψ realFe s) := rel_of (topL_len h)
theorem v_phi (s : List UInt8) : vφ realFe s = addE (mulE (curveφ realFe) (mulE (yφ realFe s) (yφ realFe s))) (smallE 1) := by simp only [vφ, realFe]
theorem v_psi (s : List UInt8) : vψ realFe s = addP (mulP (givenφ realFe) (mulP (yψ realFe s) (yψ realFe s))) (smallN 1) := by
  rw [← d_given]; simp only [vψ, realFe]
theorem u_phi (s : List UInt8) : uφ realFe s = mulE (subE (mulE (yφ realFe s) (yφ realFe s)) (smallE 1)) (invE (vφ realFe s)) := by simp only [uφ, realFe]
theorem u_psi (s : List UInt8) : uψ realFe s = mulP (subP (mulP (yψ realFe s) (yψ realFe s)) (smallN 1)) (invP (vψ realFe s)) := by simp only [uψ, realFe]
theorem rel_v {s : List UInt8} (h : isLen s 32 = true) : Rel (vφ realFe s) (vψ realFe s) := by
  rw [v_phi, v_psi]
  exact rel_add (rel_mul rel_d (rel_mul (rel_y h) (rel_y h))) (rel_small 1)
theorem rel_u {s : List UInt8} (h : isLen s 32 = true) : Rel (uφ realFe s) (uψ realFe s) := by
  rw [u_phi, u_psi]
  exact rel_mul (rel_sub (rel_mul (rel_y h) (rel_y h)) (rel_small 1)) (rel_inv (rel_v h))
theorem x_phi (s : List UInt8) : xφ realFe s = cond (decOdd s) (negE (rootE (uφ realFe s))) (rootE (uφ realFe s)) := by simp only [xφ, realFe]
theorem x_psi (s : List UInt8) : xψ realFe s = cond (decOdd s) (negP (rootP (uψ realFe s))) (rootP (uψ realFe s)) := by simp only [xψ, realFe]
theorem rel_x {s : List UInt8} (h : isLen s 32 = true) : Rel (xφ realFe s) (xψ realFe s) := by
  rw [x_phi, x_psi]
  exact rel_cond (rel_neg (rel_root (rel_u h))) (rel_root (rel_u h))
theorem ok_phi (s : List UInt8) : okφ realFe s = cond (canonE (topL s)) (cond (hasE (uφ realFe s)) (cond (decOdd s) (!sameE (rootE (uφ realFe s)) zeroE) true) false) false := by simp only [okφ, realFe]
theorem ok_psi (s : List UInt8) : okψ realFe s = cond (canonP (topL s)) (cond (hasP (uψ realFe s)) (cond (samP (rootP (uψ realFe s)) zeroN) (!decOdd s) true) false) false := by simp only [okψ, realFe]
theorem ok_gen {a b c c' h h' z z' d : Bool} (ha : a = cond c (cond h (cond d (!z) true) false) false) (hb : b = cond c' (cond h' (cond z' (!d) true) false) false) (e1 : c = c') (e2 : h = h') (e3 : z = z') : a = b := by
  subst e1 e2 e3
  rw [ha, hb]
  exact ok_bool c h z d
theorem zero_same {s : List UInt8} (h : isLen s 32 = true) : sameE (rootE (uφ realFe s)) zeroE = samP (rootP (uψ realFe s)) zeroN := rel_same (rel_root (rel_u h)) rel_zero
theorem has_same {s : List UInt8} (h : isLen s 32 = true) : hasE (uφ realFe s) = hasP (uψ realFe s) := rel_has (rel_u h)
theorem ok_same {s : List UInt8} (h : isLen s 32 = true) : okφ realFe s = okψ realFe s :=
  ok_gen (ok_phi s) (ok_psi s) (canonE_eq (topL s)) (has_same h) (zero_same h)
theorem r_gen {l a b : Bool} (h : l = true → a = b) : cond l (cond a (0 : Int) 40) 2 = cond l (cond b 0 40) 2 := by
  cases l
  · rfl
  · rw [h rfl]
theorem decR_same (s : List UInt8) : decRφ realFe s = decRψ realFe s := by
  unfold decRφ decRψ
  exact r_gen fun h => ok_same h
theorem decR_ok {s : List UInt8} (h : decRφ realFe s = 0) : isLen s 32 = true ∧ okφ realFe s = true := by
  unfold decRφ at h
  exact r_bool h
theorem e_bool {α : Type} {c d : Bool} (h : ¬ (cond c (cond d (0 : Int) 40) 2) = 0) (x e : α) : cond c (cond d x e) e = e := by cases c <;> cases d <;> first | rfl | exact absurd rfl h
theorem dec_none {s : List UInt8} (h : decRφ realFe s ≠ 0) : decφ realFe s = emptyE := by
  unfold decφ
  unfold decRφ at h
  exact e_bool h _ _
theorem dec_phi {s : List UInt8} (h : decRφ realFe s = 0) : decφ realFe s = ⟨xφ realFe s, yφ realFe s, smallE 1, mulE (xφ realFe s) (yφ realFe s)⟩ := by
  obtain ⟨h1, h2⟩ := decR_ok h
  unfold decφ
  rw [h1, h2, cond_true, cond_true]
  simp only [decPφ, realFe]
theorem dec_psi {s : List UInt8} (h : decRφ realFe s = 0) : decψ realFe s = ⟨xψ realFe s, yψ realFe s, smallN 1, mulP (xψ realFe s) (yψ realFe s)⟩ := by
  obtain ⟨h1, h2⟩ := decR_ok h
  unfold decψ
  rw [h1, ← ok_same h1, h2, cond_true, cond_true]
  simp only [ofXYψ, realFe]
theorem re_val {a : E5} (h : a.ok) : Re a (toF a.val) := ⟨h, rfl⟩
theorem ok_parts {s : List UInt8} (h : decRφ realFe s = 0) : canonE (topL s) = true ∧ hasE (uφ realFe s) = true ∧ (decOdd s = true → sameE (rootE (uφ realFe s)) zeroE = false) := by
  have h2 := (decR_ok h).2
  rw [ok_phi] at h2
  exact three_bool h2
theorem lit5 (y d : Fp) (h : d * (y * y) + 1 = 0) (i : Fp) (hi : i * i = -1) : d * (y * y) = i * i := by grind -lia -linarith (splits := 0)
theorem lit6 (d y o z : Fp) (hz : z = 0) (hy : y = z) (h : d * (y * y) + o = z) : o = z := by grind -lia -linarith (splits := 0)
theorem lit7 (d x y v w : Fp) (hv : v = d * (y * y) + 1) (hw : v * w = 1) (hx : x * x = (y * y - 1) * w) : y * y - x * x = 1 + d * (x * y) * (x * y) := by grind -lia -linarith (splits := 0)
theorem lit8 (r : Fp) : -r * -r = r * r := by grind -lia -linarith (splits := 0)
theorem pr_up {x y z t : E5} {x' y' z' t' : N16} {X Y Z : Fp} (rx : Rel x x') (ry : Rel y y') (rz : Rel z z') (rt : Rel t t') (ex : Re x X) (ey : Re y Y) (ez : Re z Z) (et : Re t (X * Y)) (hz : Z = 1) (ho : OnA dF (X, Y)) : PR ⟨x, y, z, t⟩ ⟨x', y', z', t'⟩ (up (X, Y)) := by
  subst hz
  exact ⟨⟨rx, ry, rz, rt⟩, ⟨ex, ey, ez, et⟩, on_up ho⟩
theorem re_flip {b : Bool} {r : E5} {R : Fp} (er : Re r R) : ∃ X, Re (cond b (negE r) r) X ∧ X * X = R * R := by
  cases b
  · exact ⟨R, er, rfl⟩
  · exact ⟨-R, re_neg er, lit8 R⟩
theorem on_parts {d X Y V W R U : Fp} (hV : V = d * (Y * Y) + 1) (hW : V * W = 1) (hU : U = (Y * Y - 1) * W) (hR : R * R = U) (hX : X * X = R * R) : OnA d (X, Y) := by
  show Y * Y - X * X = 1 + d * (X * Y) * (X * Y)
  exact lit7 d X Y V W hV hW (by rw [hX, hR, hU])
theorem v_ne {d Y : Fp} (c : Crv d iF) : d * (Y * Y) + 1 ≠ 0 := fun e => F_one (lit6 _ _ _ _ rfl (ns_zero c (lit5 _ _ e iF c.ii)) e)
theorem pr_dec {s : List UInt8} (h : decRφ realFe s = 0) : ∃ a : Fp × Fp, PR (decφ realFe s) (decψ realFe s) (up a) := by
  have h1 := (decR_ok h).1
  have hp := ok_parts h
  have rx := rel_x h1
  have ry := rel_y h1
  have ey := re_val ry.ok
  have hsq := root_sq (rel_u h1).ok hp.2.1
  have er := re_val (root_nat (rel_u h1).ok).1
  rw [dec_phi h, dec_psi h]
  obtain ⟨X, ex, hX⟩ := re_flip (b := decOdd s) er
  rw [← x_phi] at ex
  generalize toF (yφ realFe s).val = Y at ey
  generalize toF (rootE (uφ realFe s)).val = R at er hX
  have ev := re_add (re_mul re_d (re_mul ey ey)) re_one
  rw [← v_phi] at ev
  have hv := v_ne crv (Y := Y)
  have eu := re_mul (re_sub (re_mul ey ey) re_one) (re_inv ev hv)
  rw [← u_phi] at eu
  rw [re_same (re_mul er er) eu] at hsq
  exact ⟨(X, Y), pr_up rx ry (rel_small 1) (rel_mul rx ry) ex ey re_one (re_mul ex ey) rfl (on_parts rfl (invF_mul hv) rfl (of_decide_eq_true hsq) hX)⟩
end Go.Num

/- Points: the bytes of what was read; the curve; multiples. -/
namespace Go.Num
set_option linter.unusedVariables false
set_option linter.unusedSimpArgs false
open Go Go.Eng
set_option maxRecDepth 100000
theorem re_eq {a b : E5} {f : Fp} (h : Re a f) (k : Re b f) : a.val % Pq = b.val % Pq := toF_eq.1 (h.val.trans k.val.symm)
theorem re_odd {a b : E5} {f : Fp} (h : Re a f) (k : Re b f) : oddE a = oddE b := by rw [oddE_eq, oddE_eq, re_eq h k]
theorem re_bytes {a b : E5} {f : Fp} (h : Re a f) (k : Re b f) : bytesE a = bytesE b := bytesE_eq (re_eq h k)
theorem mul_one_re {a o : E5} {f : Fp} (h : Re a f) (k : Re o 1) : Re (mulE a (invE o)) f := by
  have := re_mul h (re_inv_one k)
  have e : f * 1 = f := by grind -lia -linarith (splits := 0)
  rw [e] at this
  exact this
theorem neg_odd {P y : Nat} (hP : P % 2 = 1) (hlt : y < P) (h0 : y ≠ 0) (hy : ¬ y % 2 = 1) : (P - y) % P % 2 = 1 := by
  rw [Nat.mod_eq_of_lt (by omega : P - y < P)]
  omega
theorem odd_neg {r : E5} (h : r.ok) (hr : oddE r = false) (h0 : sameE r zeroE = false) : oddE (negE r) = true := by
  rw [oddE_eq] at hr ⊢
  rw [sameE_eq, zeroE_val] at h0
  have h1 := of_decide_eq_false hr
  have h2 := of_decide_eq_false h0
  refine decide_eq_true ?_
  rw [(neg_nat h).2]
  have h3 := Nat.mod_lt r.val Pq_pos
  generalize r.val % Pq = y at h1 h2 h3 ⊢
  refine neg_odd P_odd h3 (fun e => h2 (by rw [e]; rfl)) h1
theorem odd_flip {d : Bool} {r : E5} (h : r.ok) (hr : oddE r = false) (h0 : d = true → sameE r zeroE = false) : oddE (cond d (negE r) r) = d := by
  cases d
  · exact hr
  · exact odd_neg h hr (h0 rfl)
theorem top_odd (b : UInt8) : (cond (shr_u8 b 7 == 1) ((b &&& 127) ||| 128) (b &&& 127)) = b := by
  have := all8 (f := fun b => (cond (shr_u8 b 7 == 1) ((b &&& 127) ||| 128) (b &&& 127)) == b) (by kernel_rfl) b
  exact eq_of_beq this
theorem set_get (s : List UInt8) (h : s.length = 32) (x : UInt8) : (s.set 31 x).getD 31 0 = x := by
  rw [List.getD_eq_getElem?_getD, List.getElem?_set]
  simp [h]
theorem set_back (s : List UInt8) (h : s.length = 32) : s.set 31 (s.getD 31 0) = s := by
  rw [List.getD_eq_getElem?_getD, List.getElem?_eq_getElem (by omega), Option.getD_some, List.set_getElem_self]
theorem top_back (s : List UInt8) (h : s.length = 32) : cond (decOdd s) (top128 (topL s)) (topL s) = s := by
  unfold top128 topL decOdd
  rw [set_get s h, List.set_set]
  have e := top_odd (s.getD 31 0)
  cases hb : (shr_u8 (s.getD 31 0) 7 == 1) <;> rw [hb] at e
  · rw [cond_false] at e ⊢
    rw [e, set_back s h]
  · rw [cond_true] at e ⊢
    rw [e, set_back s h]
theorem canon_bytes2 {s : List UInt8} (h : canonE s = true) : bytesE (ofEl s) = s := by
  unfold canonE at h
  exact eq_of_beq (Bool.and_eq_true_iff.1 h).2
theorem y_phi (s : List UInt8) : yφ realFe s = ofEl (topL s) := by simp only [yφ, realFe]
theorem bytes_parts {x y o : E5} {X Y : Fp} (hx : Re x X) (hy : Re y Y) (ho : Re o 1) {t : E5} {f : P4 Fp} {s : List UInt8} {d : Bool} (hn : noneφ realFe ⟨x, y, o, t⟩ = false) (hd : oddE x = d) (hb : bytesE y = topL s) (hs : cond d (top128 (topL s)) (topL s) = s) : bytesφ realFe ⟨x, y, o, t⟩ = s := by
  rw [bytes_phi _ hn, re_odd (mul_one_re hx ho) hx, re_bytes (mul_one_re hy ho) hy, hd, hb, hs]
theorem dec_bytes {s : List UInt8} (h : decRφ realFe s = 0) : bytesφ realFe (decφ realFe s) = s := by
  have h1 := (decR_ok h).1
  have hp := ok_parts h
  obtain ⟨a, pr⟩ := pr_dec h
  have hn := pr.some
  rw [dec_phi h] at hn ⊢
  have rx := re_val (rel_x h1).ok
  have ry := re_val (rel_y h1).ok
  have r0 := (root_nat (rel_u h1).ok).1
  have ho := odd_flip r0 (root_even (rel_u h1).ok) hp.2.2
  rw [← x_phi] at ho
  have hb := canon_bytes2 hp.1
  rw [← y_phi] at hb
  exact bytes_parts (f := zero4) rx ry re_one hn ho hb (top_back s (isLen_eq.1 h1))
/-! ### the curve -/
theorem on_eq {d x y z t : Fp} (hc : y * y - x * x = z * z + d * t * t) (hk : x * y = z * t) : (y * y - x * x) * (z * z) = (z * z) * (z * z) + (d * (x * x)) * (y * y) := by
  grind -lia -linarith (splits := 0)
theorem on_psi (q : P4 N16) : onψ realFe q = samP (mulP (subP (mulP q.y q.y) (mulP q.x q.x)) (mulP q.z q.z)) (addP (mulP (mulP q.z q.z) (mulP q.z q.z)) (mulP (mulP (givenφ realFe) (mulP q.x q.x)) (mulP q.y q.y))) := by simp only [onψ, realFe]
theorem PR.onQ {p : P4 E5} {q : P4 N16} {f : P4 Fp} (h : PR p q f) : onψ realFe q = true := by
  have xx := rel_mul h.rel.1 h.rel.1
  have yy := rel_mul h.rel.2.1 h.rel.2.1
  have zz := rel_mul h.rel.2.2.1 h.rel.2.2.1
  have exx := re_mul h.val.1 h.val.1
  have eyy := re_mul h.val.2.1 h.val.2.1
  have ezz := re_mul h.val.2.2.1 h.val.2.2.1
  have e := re_same (re_mul (re_sub eyy exx) ezz) (re_add (re_mul ezz ezz) (re_mul (re_mul re_d exx) eyy))
  rw [rel_same (rel_mul (rel_sub yy xx) zz) (rel_add (rel_mul zz zz) (rel_mul (rel_mul rel_d xx) yy))] at e
  rw [on_psi, e]
  exact decide_eq_true (on_eq h.on.c h.on.k)
/-! ### multiples -/
def bv (bit : Nat → Bool) : Nat → Nat
  | 0 => 0
  | j + 1 => 2 * bv bit j + cond (bit (255 - j)) 1 0
theorem bv_eq (bit : Nat → Bool) (V : Nat) (h : ∀ i, i < 256 → bit i = decide (V / 2 ^ i % 2 = 1)) (hV : V < 2 ^ 256) : ∀ j, j ≤ 256 → bv bit j = V / 2 ^ (256 - j)
  | 0, _ => by
    unfold bv
    rw [Nat.sub_zero, Nat.div_eq_of_lt hV]
  | j + 1, hj => by
    have ih := bv_eq bit V h hV j (by omega)
    unfold bv
    rw [ih, h (255 - j) (by omega)]
    have e1 : 256 - j = (255 - j) + 1 := by omega
    have e2 : 256 - (j + 1) = 255 - j := by omega
    rw [e1, e2, Nat.pow_succ, ← Nat.div_div_eq_div_mul]
    generalize V / 2 ^ (255 - j) = W
    rcases Nat.mod_two_eq_zero_or_one W with h0 | h0
    · rw [h0, decide_eq_false (by decide : ¬ (0 : Nat) = 1), cond_false]; omega
    · rw [h0, decide_eq_true (rfl : (1 : Nat) = 1), cond_true]; omega
theorem PR.iter {p : P4 E5} {q : P4 N16} {f : P4 Fp} (h : PR p q f) {b c : Nat → Bool} (hb : ∀ i, i < 256 → b i = c i) : ∀ j, j ≤ 256 → ∃ g, PR (iterG (addφ realFe) (zeroφ realFe) p b j) (iterG (addψ realFe) (zeroψ realFe) q c j) g ∧ aff g = mulA dF (aff f) (bv b j)
  | 0, _ => ⟨zero4, pr_zero, aff_zero⟩
  | j + 1, hj => by
    obtain ⟨g, hg, ag⟩ := PR.iter h hb j (by omega)
    have hm := on_aff h.on
    have h2 := hg.add hg
    have a2 : aff (addO opsF dF g g) = mulA dF (aff f) (bv b j + bv b j) := by rw [aff_add crv hg.on hg.on, ag, ← mulA_add crv hm]
    unfold iterG bv
    rw [← hb (255 - j) (by omega)]
    cases b (255 - j)
    · rw [cond_false, cond_false, cond_false, Nat.add_zero, Nat.two_mul]
      exact ⟨_, h2, a2⟩
    · rw [cond_true, cond_true, cond_true, Nat.two_mul]
      refine ⟨_, h2.add h, ?_⟩
      rw [aff_add crv h2.on h.on, a2]; rfl
theorem mod_div (W r : Nat) (hr : r < 8) : W % 256 / 2 ^ r % 2 = W / 2 ^ r % 2 := by
  have : r = 0 ∨ r = 1 ∨ r = 2 ∨ r = 3 ∨ r = 4 ∨ r = 5 ∨ r = 6 ∨ r = 7 := by omega
  rcases this with h | h | h | h | h | h | h | h <;> subst h <;> omega
theorem mod_div16 (W r : Nat) (hr : r < 16) : W % 65536 / 2 ^ r % 2 = W / 2 ^ r % 2 := by
  have : r = 0 ∨ r = 1 ∨ r = 2 ∨ r = 3 ∨ r = 4 ∨ r = 5 ∨ r = 6 ∨ r = 7 ∨ r = 8 ∨ r = 9 ∨ r = 10 ∨ r = 11 ∨ r = 12 ∨ r = 13 ∨ r = 14 ∨ r = 15 := by omega
  rcases this with h | h | h | h | h | h | h | h | h | h | h | h | h | h | h | h <;> subst h <;> omega
theorem bitK_val (l : List UInt8) (i : Nat) : bitK l i = decide (leNat l / 2 ^ i % 2 = 1) := by
  unfold bitK bitB
  have h := and8_nat (shr_u8 (l.getD (i / 8) 0) (i % 8)) 1 1 rfl
  rw [shr_u8_nat _ _ (Nat.mod_lt _ (by omega)), byte_at] at h
  have e1 : leNat l / 256 ^ (i / 8) % 256 / 2 ^ (i % 8) % 2 = leNat l / 2 ^ i % 2 := by
    rw [mod_div _ _ (Nat.mod_lt _ (by omega)), show (256 : Nat) = 2 ^ 8 from rfl, ← Nat.pow_mul, Nat.div_div_eq_div_mul, ← Nat.pow_add, Nat.div_add_mod]
  rw [Nat.pow_one, e1] at h
  rw [← h]
  generalize shr_u8 (l.getD (i / 8) 0) (i % 8) &&& 1 = x
  rw [Bool.eq_iff_iff, beq_iff_eq, decide_eq_true_iff]
  exact ⟨fun e => by rw [e]; rfl, fun e => UInt8.toNat_inj.1 e⟩
theorem part_at : ∀ (l : List UInt64) (k : Nat), ok16 l → (l.getD k 0).toNat = val16 l / 65536 ^ k % 65536
  | [], k, _ => by
    show (([] : List UInt64).getD k 0).toNat = 0 / 65536 ^ k % 65536
    rw [Nat.zero_div]; rfl
  | x :: l, 0, h => by
    have := h.1
    show x.toNat = (x.toNat + 65536 * val16 l) / 65536 ^ 0 % 65536
    rw [Nat.pow_zero]; omega
  | x :: l, k + 1, h => by
    have hx := h.1
    show (l.getD k 0).toNat = (x.toNat + 65536 * val16 l) / 65536 ^ (k + 1) % 65536
    rw [part_at l k h.2, Nat.pow_succ, Nat.mul_comm (65536 ^ k), ← Nat.div_div_eq_div_mul]
    have : (x.toNat + 65536 * val16 l) / 65536 = val16 l := by omega
    rw [this]
theorem bitN16_val (n : N16) (hn : n.ok) (i : Nat) : bitN16 n i = decide (n.val / 2 ^ i % 2 = 1) := by
  unfold bitN16 partN
  have h := and_nat (shr_u64 (n.list.getD (i / 16) 0) (i % 16)) 1 1 rfl
  rw [shr_u64_nat _ _ (by have := Nat.mod_lt i (show 16 > 0 by omega); omega), part_at _ _ hn] at h
  have e1 : val16 n.list / 65536 ^ (i / 16) % 65536 / 2 ^ (i % 16) % 2 = n.val / 2 ^ i % 2 := by
    rw [mod_div16 _ _ (Nat.mod_lt _ (by omega)), show (65536 : Nat) = 2 ^ 16 from rfl, ← Nat.pow_mul, Nat.div_div_eq_div_mul, ← Nat.pow_add, Nat.div_add_mod]; rfl
  rw [Nat.pow_one, e1] at h
  rw [← h]
  generalize shr_u64 (n.list.getD (i / 16) 0) (i % 16) &&& 1 = x
  rw [Bool.eq_iff_iff, beq_iff_eq, decide_eq_true_iff]
  exact ⟨fun e => by rw [e]; rfl, fun e => UInt64.toNat_inj.1 e⟩
theorem bits_same {a : W4} {n : N16} (hn : n.ok) (e : a.val = n.val) (i : Nat) : bitK (bytesW a) i = bitN16 n i := by
  rw [bitK_val, bitN16_val n hn, bytesW_val, e]
theorem mul_phi (p : P4 E5) (n : W4) (h : noneφ realFe p = false) : mulE4 p n = iterG (addφ realFe) (zeroφ realFe) p (bitK (bytesW n)) 256 := by
  unfold mulE4 mulG
  rw [h, cond_false]
theorem bv_bytes (a : W4) : bv (bitK (bytesW a)) 256 = a.val := by
  have h := bv_eq (bitK (bytesW a)) a.val (fun i _ => by rw [bitK_val, bytesW_val]) (Nat.lt_of_lt_of_le a.val_lt (by decide)) 256 (by omega)
  rw [h, Nat.sub_self, Nat.pow_zero, Nat.div_one]
theorem PR.mul {p : P4 E5} {q : P4 N16} {f : P4 Fp} (h : PR p q f) {a : W4} {n : N16} (hn : n.ok) (e : a.val = n.val) : ∃ g, PR (mulE4 p a) (mulN4 q n) g ∧ aff g = mulA dF (aff f) a.val := by
  obtain ⟨g, hg, ag⟩ := PR.iter h (b := bitK (bytesW a)) (c := bitN16 n) (fun i _ => bits_same hn e i) 256 (by omega)
  rw [bv_bytes] at ag
  rw [mul_phi p a h.some]
  exact ⟨g, hg, ag⟩
end Go.Num

/- Points: the base point, its order; no point; what `alive` asks. -/
namespace Go.Num
set_option linter.unusedVariables false
set_option linter.unusedSimpArgs false
open Go Go.Eng
set_option maxRecDepth 100000
def xB : Nat := 15112221349535400772501151409588531511454012693041857206046113283949847762202
def yB : Nat := 46316835694926478169428394003475163141307993866256225615783033603165251855960
def uB : Nat := 26187595835145689230469591415084376402084551887632582719101735842039498021991
theorem y_base : leNat (topL baseL) = yB := by kernel_rfl
theorem y_lt : decide (yB < Pq) = true := by decide
theorem len_base : isLen baseL 32 = true := by kernel_rfl
theorem odd_base : decOdd baseL = false := by kernel_rfl
theorem canon_base : canonE (topL baseL) = true := by
  rw [canonE_eq, canonP_eq, topL_len len_base, y_base, y_lt]; rfl
theorem uval {a b c n : Nat} {x : E5} (v : Vm x (a * b ^ (Pq - 2))) (hn : a * pwE Pq b (Pq - 2) % Pq = c) : x.val % Pq = c := by
  rw [v.val, ← hn, pw_inv, Nat.mul_mod_mod]
theorem u_comp : (yB * yB + (Pq - 1 % Pq)) * pwE Pq (dNat * (yB * yB) + 1) (Pq - 2) % Pq = uB := by kernel_rfl
theorem vm_d : Vm (curveφ realFe) dNat := ⟨ofEl_ok _, by
  have := ofEl_val (s := dBytes) (by kernel_rfl)
  rw [d_bytes] at this
  exact this⟩
theorem vm_yB : Vm (yφ realFe baseL) yB := ⟨(rel_y len_base).ok, by
  rw [y_phi, ofEl_val (topL_len len_base), y_base]⟩
theorem u_base : (uφ realFe baseL).val % Pq = uB := by
  have v1 := vm_small 1
  rw [show (1 : UInt32).toNat = 1 from rfl] at v1
  have vv := (vm_d.mul (vm_yB.mul vm_yB)).add v1
  rw [← v_phi] at vv
  have vu := ((vm_yB.mul vm_yB).sub v1).mul (vm_inv vv)
  rw [← u_phi] at vu
  exact uval (n := 0) vu u_comp
theorem nhas_base : nHas uB = true := by kernel_rfl
theorem nroot_base : nRoot uB = xB := by kernel_rfl
theorem has_base : hasE (uφ realFe baseL) = true := by rw [has_nat (rel_u len_base).ok, u_base, nhas_base]
theorem dec_base : decRφ realFe baseL = 0 := by
  have h : okφ realFe baseL = true := by rw [ok_phi, canon_base, has_base, odd_base]; rfl
  unfold decRφ
  rw [len_base, h]; rfl
theorem x_base : (xφ realFe baseL).val % Pq = xB := by
  rw [x_phi, odd_base, cond_false, (root_nat (rel_u len_base).ok).2, u_base, nroot_base]
theorem xB_mod : xB % Pq = xB := by kernel_rfl
def aB : Fp × Fp := (toF xB, toF yB)
theorem pr_base : PR (decφ realFe baseL) (decψ realFe baseL) (up aB) := by
  obtain ⟨⟨X, Y⟩, h⟩ := pr_dec dec_base
  have h1 := h.val.1.val
  have h2 := h.val.2.1.val
  rw [dec_phi dec_base] at h1 h2
  have e1 : toF (xφ realFe baseL).val = X := h1
  have e2 : toF (yφ realFe baseL).val = Y := h2
  have e3 : toF (xφ realFe baseL).val = toF xB := toF_eq.2 (x_base.trans xB_mod.symm)
  have e4 : toF (yφ realFe baseL).val = toF yB := toF_eq.2 vm_yB.val
  have e5 : (X, Y) = aB := by unfold aB; rw [← e1, ← e2, e3, e4]
  rw [← e5]
  exact h
/-! ### sums of whole numbers -/
structure Rm (n : Nat) (f : Fp) : Prop where
  lt : n < Pq
  val : toF n = f
theorem rm_mod {n : Nat} {f : Fp} (h : toF n = f) : Rm (n % Pq) f := ⟨Nat.mod_lt _ Pq_pos, by rw [← h]; exact toF_eq.2 (Nat.mod_mod _ _)⟩
theorem small_lt (n : UInt32) : n.toNat < Pq := Nat.lt_trans n.toNat_lt (by decide)
theorem keeps_MF : Keeps opsM opsF Rm where
  add := fun {a b x y} h k => rm_mod (by rw [toF_add, h.val, k.val]; rfl)
  sub := fun {a b x y} h k => rm_mod (by
    have e : Pq - b = Pq - b % Pq := by rw [Nat.mod_eq_of_lt k.lt]
    rw [e, toF_sub, h.val, k.val]; rfl)
  mul := fun {a b x y} h k => rm_mod (by rw [toF_mul, h.val, k.val]; rfl)
  small := fun n => ⟨small_lt n, rfl⟩
  zero := ⟨Pq_pos, toF_nil⟩
theorem iter_keeps {R S : Type} {o : Ops R} {o' : Ops S} {r : R → S → Prop} (k : Keeps o o' r) {p z : P4 R} {p' z' : P4 S} {d : R} {d' : S} (hd : r d d') (hp : R4 r p p') (hz : R4 r z z') (b : Nat → Bool) : ∀ j, R4 r (iterG (addO o d) z p b j) (iterG (addO o' d') z' p' b j)
  | 0 => hz
  | j + 1 => by
    have ih := iter_keeps k hd hp hz b j
    have h2 := add_keeps k hd ih ih
    unfold iterG
    cases b (255 - j)
    · exact h2
    · exact add_keeps k hd h2 hp
theorem iter_on {f : P4 Fp} (h : On dF f) (b : Nat → Bool) : ∀ j, On dF (iterG (addO opsF dF) zero4 f b j) ∧ aff (iterG (addO opsF dF) zero4 f b j) = mulA dF (aff f) (bv b j)
  | 0 => ⟨On.zero dF, aff_zero⟩
  | j + 1 => by
    obtain ⟨hg, ag⟩ := iter_on h b j
    have hm := on_aff h
    have h2 := hg.add crv hg
    have a2 : aff (addO opsF dF (iterG (addO opsF dF) zero4 f b j) (iterG (addO opsF dF) zero4 f b j)) = mulA dF (aff f) (bv b j + bv b j) := by rw [aff_add crv hg hg, ag, ← mulA_add crv hm]
    unfold iterG bv
    cases b (255 - j)
    · rw [cond_false, cond_false, Nat.add_zero, Nat.two_mul]
      exact ⟨h2, a2⟩
    · rw [cond_true, cond_true, Nat.two_mul]
      refine ⟨h2.add crv h, ?_⟩
      rw [aff_add crv h2 h, a2]; rfl
def zeroM : P4 Nat := ⟨0, 1, 1, 0⟩
def baseM : P4 Nat := ⟨xB, yB, 1, xB * yB % Pq⟩
theorem rm_zero : R4 Rm zeroM zero4 := r4_mk ⟨Pq_pos, toF_nil⟩ ⟨by decide, toF_one⟩ ⟨by decide, toF_one⟩ ⟨Pq_pos, toF_nil⟩
theorem rm_base : R4 Rm baseM (up aB) := r4_mk ⟨by decide, rfl⟩ ⟨by decide, rfl⟩ ⟨by decide, toF_one⟩ (rm_mod (toF_mul _ _))
theorem rm_d : Rm dNat dF := ⟨by decide, rfl⟩
def mulM (n : Nat) : P4 Nat := iterG (addO opsM dNat) zeroM baseM (fun i => Nat.testBit n i) 256
theorem order_M : ((mulM Lq).x == 0 && (mulM Lq).y == (mulM Lq).z) = true := by kernel_rfl
theorem eight_M : ((mulM 8).x == 0) = false := by kernel_rfl
end Go.Num

/- Points: the facts that the laws ask. -/
namespace Go.Num
set_option linter.unusedVariables false
set_option linter.unusedSimpArgs false
open Go Go.Eng
set_option maxRecDepth 100000
theorem bv_test (n : Nat) (h : n < 2 ^ 256) : bv (fun i => Nat.testBit n i) 256 = n := by
  rw [bv_eq (fun i => Nat.testBit n i) n (fun i _ => Nat.testBit_eq_decide_div_mod_eq) h 256 (by omega), Nat.sub_self, Nat.pow_zero, Nat.div_one]
theorem zero_iff {f : P4 Fp} (h : On dF f) : aff f = zeroA ↔ f.x = 0 ∧ f.y = f.z := by
  rw [← aff_zero, ← same_aff h (On.zero dF)]
  have h1 : f.x * (zero4).z = f.x := by show f.x * 1 = f.x; grind -lia -linarith (splits := 0)
  have h2 : (zero4).x * f.z = 0 := by show 0 * f.z = 0; grind -lia -linarith (splits := 0)
  have h3 : f.y * (zero4).z = f.y := by show f.y * 1 = f.y; grind -lia -linarith (splits := 0)
  have h4 : (zero4).y * f.z = f.z := by show 1 * f.z = f.z; grind -lia -linarith (splits := 0)
  unfold SameP
  rw [h1, h2, h3, h4]
theorem mulM_aff (n : Nat) (h : n < 2 ^ 256) : ∃ f, R4 Rm (mulM n) f ∧ On dF f ∧ aff f = mulA dF aB n := by
  have hk := iter_keeps keeps_MF rm_d rm_base rm_zero (fun i => Nat.testBit n i) 256
  have ho := iter_on pr_base.on (fun i => Nat.testBit n i) 256
  rw [bv_test n h, aff_up] at ho
  exact ⟨_, hk, ho.1, ho.2⟩
theorem order_lt : Lq < 2 ^ 256 := by decide
theorem eight_lt : 8 < 2 ^ 256 := by decide
theorem order_base : mulA dF aB Lq = zeroA := by
  obtain ⟨f, hr, ho, ha⟩ := mulM_aff Lq order_lt
  rw [← ha, zero_iff ho]
  have h := order_M
  generalize mulM Lq = m at h hr
  simp only [Bool.and_eq_true, beq_iff_eq] at h
  have h1 := hr.1.val
  have h2 := hr.2.1.val
  have h3 := hr.2.2.1.val
  rw [h.1, toF_nil] at h1
  rw [h.2] at h2
  exact ⟨h1.symm, h2.symm.trans h3⟩
theorem eight_base : ¬ mulA dF aB 8 = zeroA := by
  obtain ⟨f, hr, ho, ha⟩ := mulM_aff 8 eight_lt
  rw [← ha, zero_iff ho]
  intro hz
  have h := eight_M
  generalize mulM 8 = m at h hr
  have h1 := hr.1.val
  rw [hz.1, toF_zero, Nat.mod_eq_of_lt hr.1.lt] at h1
  rw [h1] at h
  cases h
theorem order_mod (n : Nat) : mulA dF aB (n % Lq) = mulA dF aB n := mulA_mod crv (by have := on_aff pr_base.on; rw [aff_up] at this; exact this) order_base n
/-! ### as the laws have them -/
theorem fi_add : realFi.add = addφ realFe := by simp only [realFi]
theorem fi_neg : realFi.neg = negφ realFe := by simp only [realFi]
theorem fi_same : realFi.same = sameφ realFe := by simp only [realFi]
theorem fi_zero : realFi.zero = zeroφ realFe := by simp only [realFi]
theorem fi_bytes : realFi.bytes = bytesφ realFe := by simp only [realFi]
theorem fi_dec : realFi.dec = decφ realFe := by simp only [realFi]
theorem fi_decR : realFi.decR = decRφ realFe := by simp only [realFi]
theorem fi_mul : realFi.mul = mulE4 := by simp only [realFi]
theorem fi_addQ : realFi.addQ = addψ realFe := by simp only [realFi]
theorem fi_negQ : realFi.negQ = negψ realFe := by simp only [realFi]
theorem fi_sameQ : realFi.sameQ = sameψ realFe := by simp only [realFi]
theorem fi_zeroQ : realFi.zeroQ = zeroψ realFe := by simp only [realFi]
theorem fi_bytesQ : realFi.bytesQ = bytesψ realFe := by simp only [realFi]
theorem fi_decQ : realFi.decQ = decψ realFe := by simp only [realFi]
theorem fi_decRQ : realFi.decRQ = decRψ realFe := by simp only [realFi]
theorem fi_mulQ : realFi.mulQ = mulN4 := by simp only [realFi]
theorem fi_onQ : realFi.onQ = onψ realFe := by simp only [realFi]
theorem fi_okQ : realFi.okQ = okQ0 realFe := by simp only [realFi]
/-- Points as the laws have them. -/
abbrev PI := PR
theorem pi_base : PI realFi.base realFi.baseQ (up aB) := by
  rw [base_eq, baseQ_eq, fi_dec, fi_decQ]; exact pr_base
theorem pi_zero : PI realFi.zero realFi.zeroQ zero4 := by rw [fi_zero, fi_zeroQ]; exact pr_zero
theorem pi_add {p p' : P4 E5} {q q' : P4 N16} {f f' : P4 Fp} (h : PI p q f) (k : PI p' q' f') : PI (realFi.add p p') (realFi.addQ q q') (addO opsF dF f f') := by rw [fi_add, fi_addQ]; exact h.add k
theorem pi_neg {p : P4 E5} {q : P4 N16} {f : P4 Fp} (h : PI p q f) : PI (realFi.neg p) (realFi.negQ q) (negO (fun a => -a) f) := by rw [fi_neg, fi_negQ]; exact h.neg
theorem pi_ok {p : P4 E5} {q : P4 N16} {f : P4 Fp} (h : PI p q f) : realFi.okQ q = true := by rw [fi_okQ]; exact h.ok
theorem pi_bytes {p : P4 E5} {q : P4 N16} {f : P4 Fp} (h : PI p q f) : realFi.bytes p = realFi.bytesQ q := by rw [fi_bytes, fi_bytesQ]; exact h.bytes
theorem pi_same {p p' : P4 E5} {q q' : P4 N16} {f f' : P4 Fp} (h : PI p q f) (k : PI p' q' f') : realFi.same p p' = realFi.sameQ q q' := by rw [fi_same, fi_sameQ]; exact h.same k
theorem pi_iff {p p' : P4 E5} {q q' : P4 N16} {f f' : P4 Fp} (h : PI p q f) (k : PI p' q' f') : realFi.same p p' = true ↔ aff f = aff f' := by rw [fi_same]; exact h.same_iff k
theorem pi_onQ {p : P4 E5} {q : P4 N16} {f : P4 Fp} (h : PI p q f) : realFi.onQ q = true := by rw [fi_onQ]; exact h.onQ
theorem pi_dec {s : List UInt8} (h : realFi.decR s = 0) : ∃ a : Fp × Fp, PI (realFi.dec s) (realFi.decQ s) (up a) := by
  rw [fi_decR] at h; rw [fi_dec, fi_decQ]; exact pr_dec h
theorem pi_mul {p : P4 E5} {q : P4 N16} {f : P4 Fp} (h : PI p q f) {a : W4} {n : N16} (hn : n.ok) (e : a.val = n.val) : ∃ g, PI (realFi.mul p a) (realFi.mulQ q n) g ∧ aff g = mulA dF (aff f) a.val := by rw [fi_mul, fi_mulQ]; exact h.mul hn e
theorem pi_mulW {p : P4 E5} {q : P4 N16} {f : P4 Fp} (h : PI p q f) (a : W4) : ∃ q' g, PI (realFi.mul p a) q' g ∧ aff g = mulA dF (aff f) a.val := by
  obtain ⟨o, e⟩ := partsN_val (bytesW a) (bytesW_len a)
  obtain ⟨g, hg, ag⟩ := pi_mul h (a := a) o (by rw [e, bytesW_val])
  exact ⟨_, g, hg, ag⟩
theorem pi_aff {p p' : P4 E5} {q q' : P4 N16} {f f' : P4 Fp} (h : PI p q f) (k : PI p' q' f') : aff (addO opsF dF f f') = addA dF (aff f) (aff f') := aff_add crv h.on k.on
theorem fi_bytesdec {s : List UInt8} (h : realFi.decR s = 0) : realFi.bytes (realFi.dec s) = s := by
  rw [fi_decR] at h; rw [fi_bytes, fi_dec]; exact dec_bytes h
theorem fi_decnone {s : List UInt8} (h : realFi.decR s ≠ 0) : realFi.dec s = emptyE := by
  rw [fi_decR] at h; rw [fi_dec]; exact dec_none h
theorem fi_rsame (s : List UInt8) : realFi.decR s = realFi.decRQ s := by rw [fi_decR, fi_decRQ]; exact decR_same s
/-! ### no point -/
theorem none_empty : noneφ realFe emptyE = true := by
  have h : noneφ realFe emptyE = sameE zeroE zeroE := by simp only [noneφ, realFe, emptyE]
  rw [h, sameE_eq]; exact decide_eq_true rfl
theorem e_bytes : realFi.bytes emptyE = [] := by
  rw [fi_bytes]; unfold bytesφ; rw [none_empty, cond_true]
theorem e_addl (p : P4 E5) : realFi.add emptyE p = emptyE := by
  rw [fi_add]; unfold addφ; rw [none_empty, cond_true]
theorem e_addr {p : P4 E5} (h : noneφ realFe p = false) : realFi.add p emptyE = emptyE := by
  rw [fi_add]; unfold addφ; rw [none_empty, h, cond_true, cond_false]
theorem e_neg : realFi.neg emptyE = emptyE := by
  rw [fi_neg]; unfold negφ; rw [none_empty, cond_true]
theorem e_mul (n : W4) : realFi.mul emptyE n = emptyE := by
  rw [fi_mul]; unfold mulE4 mulG; rw [none_empty, cond_true]
theorem e_samel (p : P4 E5) : realFi.same emptyE p = false := by
  rw [fi_same]; unfold sameφ; rw [none_empty, cond_true]
theorem e_samer {p : P4 E5} (h : noneφ realFe p = false) : realFi.same p emptyE = false := by
  rw [fi_same]; unfold sameφ; rw [none_empty, h, cond_true, cond_false]
theorem e_small : realFi.small emptyE = false := by
  rw [small_eq]; unfold smallG; simp only [e_addl, e_samel]
/-! ### what is fixed -/
theorem b_decR : realFi.decR baseL = 0 := by rw [fi_decR]; exact dec_base
theorem b_bytes : realFi.bytes realFi.base = baseL := by rw [base_eq]; exact fi_bytesdec b_decR
theorem self_same {p : P4 E5} {q : P4 N16} {f : P4 Fp} (h : PI p q f) : realFi.same p p = true := (pi_iff h h).2 rfl
theorem b_neg : realFi.same (realFi.add realFi.base (realFi.neg realFi.base)) realFi.zero = true := by
  have h := pi_base
  refine (pi_iff (pi_add h (pi_neg h)) pi_zero).2 ?_
  rw [pi_aff h (pi_neg h), aff_neg, aff_zero, addA_neg crv (on_aff h.on)]
theorem z_small : realFi.small realFi.zero = true := by
  have h := pi_zero
  rw [small_eq]
  unfold smallG
  have h2 := pi_add h h
  have h4 := pi_add h2 h2
  have h8 := pi_add h4 h4
  refine (pi_iff h8 h).2 ?_
  rw [pi_aff h4 h4, pi_aff h2 h2, pi_aff h h, aff_zero, addA_zero, addA_zero, addA_zero]
theorem b_small : realFi.small realFi.base = false := by
  have h := pi_base
  rw [small_eq]
  unfold smallG
  have h2 := pi_add h h
  have h4 := pi_add h2 h2
  have h8 := pi_add h4 h4
  have e := pi_iff h8 pi_zero
  rw [pi_aff h4 h4, pi_aff h2 h2, pi_aff h h, aff_zero, aff_up] at e
  have hm : OnA dF aB := by have := on_aff h.on; rw [aff_up] at this; exact this
  have e2 : addA dF aB aB = mulA dF aB 2 := by
    show _ = addA dF (mulA dF aB 1) aB
    rw [mulA_one]
  rw [e2, ← mulA_add crv hm, ← mulA_add crv hm] at e
  rw [Bool.eq_false_iff]
  exact fun h => eight_base (e.1 h)
theorem z_bytes : realFi.bytes realFi.zero = 1 :: List.replicate 31 0 := by
  rw [fi_bytes, fi_zero, bytes_phi _ pr_zero.some, zero_phi]
  have e1 : oddE (mulE zeroE (invE (smallE 1))) = false := by
    rw [re_odd (mul_one_re re_zero re_one) re_zero]; rfl
  have e2 : bytesE (mulE (smallE 1) (invE (smallE 1))) = bytesE (smallE 1) := re_bytes (mul_one_re re_one re_one) re_one
  show cond (oddE (mulE zeroE (invE (smallE 1)))) _ (bytesE (mulE (smallE 1) (invE (smallE 1)))) = _
  rw [e1, cond_false, e2]
  kernel_rfl
end Go.Num

/- Points: what is fixed. -/
namespace Go.Proofs.Ytipbocnofahafaa
set_option linter.unusedVariables false
set_option linter.unusedSimpArgs false
open Go Go.Eng Go.Num
set_option maxRecDepth 100000
set_option maxHeartbeats 1000000
set_option linter.unusedSimpArgs false
set_option linter.unusedVariables false
def shortL : List UInt8 := [115, 104, 111, 114, 116]
theorem wal (φ : Fi)  : ansO (run1O Try.prog (psnk φ) (nk φ) [21, 25, 29, 37, 42, 46, 47, 51, 56, 60, 66, 72, 73] [true, true, true, true, true, true, false, true, false, true, true] [] (mask 8) 200 8 [] [] Try.prog.globals.size) = some (.bool true, [((φ.bytes φ.base) == (φ.bytesQ φ.baseQ)), (φ.okQ φ.baseQ), ((φ.bytes emptyE) == []), !(φ.small emptyE), (φ.small φ.zero), !(φ.small φ.base), ((List.getD (φ.bytes φ.zero) (Int.toNat 0) 0) == (UInt8.ofNat (Int.toNat 1))), ((decide ((0 : Int) ≤ 0)) && (decide ((0 : Int) < ((List.length (φ.bytes φ.zero) : Nat) : Int)))), (((List.length (φ.bytes φ.zero) : Nat) : Int) == 32), (φ.same (φ.add φ.base (φ.neg φ.base)) φ.zero), ((φ.decR shortL) == 2), (φ.same (φ.dec (φ.bytes φ.base)) φ.base), ((φ.decR (φ.bytes φ.base)) == 0)]) := by kernel_rfl
theorem run8 : (run1 Try.prog (nk realFi) (mask 8) 200 8 [] [] Try.prog.globals.size).map (·.1) = some (.bool true) := by
  refine ansO_run (nk_ps _) (wal realFi) ?_
  have hb := pi_base
  have h1 := pi_bytes hb
  have h2 := pi_ok hb
  have h3 : realFi.decR shortL = 2 := by rw [fi_decR]; rfl
  have h4 : realFi.dec (realFi.bytes realFi.base) = realFi.base := by rw [b_bytes, base_eq]
  have h5 : realFi.decR (realFi.bytes realFi.base) = 0 := by rw [b_bytes, b_decR]
  have h6 := self_same hb
  rw [h1, h2, e_bytes, e_small, z_small, b_small, z_bytes, b_neg, h3, ← h1, h4, h5, h6]
  rfl
def g8 : List AVal → Option EffA
  | [] => some (.pure (.bool true))
  | _ => none
theorem g8_ok : CSOk Try.prog (csOne 8 g8) := csOne_ok fun args e he => by
  unfold g8 at he
  split at he
  · skip
    cases he
    exact callOk_val nk_ok hmix run8 rfl rfl
  · cases he
def nl (φ : Fi) : CS := csAlt (csOne 8 g8) (nk φ)
theorem nl_ok : CSOk Try.prog (nl realFi) := csAlt_ok g8_ok nk_ok
def psnl (φ : Fi) : PS := psnk φ
theorem nl_ps (φ : Fi) : PSOk (psnl φ) (nl φ) := fun f args e h => by
  have h1 := nk_ps φ f args e h
  unfold nl csAlt csOne
  cases hb : Nat.beq f 8 with
  | false => exact h1
  | true =>
    rw [Nat.eq_of_beq_eq_true hb] at h
    exact absurd h (by
      intro h2
      have : psnl φ 8 args = none := rfl
      rw [this] at h2
      cases h2)
end Go.Proofs.Ytipbocnofahafaa

/- Points: the laws on reading, on no point. -/
namespace Go.Proofs.Ytipbocnofahafaa
set_option linter.unusedVariables false
set_option linter.unusedSimpArgs false
open Go Go.Eng Go.Num
set_option maxRecDepth 100000
set_option maxHeartbeats 1000000
set_option linter.unusedSimpArgs false
set_option linter.unusedVariables false
theorem w3a (φ : Fi) (s : List UInt8) : ansO (run1O Try.prog (psnl φ) (nl φ) [9, 10, 23, 25, 29, 32, 36, 40, 45, 49, 53, 55, 56, 60, 63] [true] [] (mask 3) 200 3 [.str s] [] Try.prog.globals.size) = some (.bool true, [(decide ((4096 : Int) < ↑(List.length s)))]) := by kernel_rfl
theorem w3b (φ : Fi) (s : List UInt8) : ansO (run1O Try.prog (psnl φ) (nl φ) [9, 10, 23, 25, 29, 32, 36, 40, 45, 49, 53, 55, 56, 60, 63] [false, false, true, true, true, false] [] (mask 3) 200 3 [.str s] [] Try.prog.globals.size) = some (.bool true, [!(φ.same (φ.dec s) (φ.dec s)), ((φ.bytes (φ.dec s)) == []), ((φ.decR s) != 0), φ.given, !((φ.decR s) != (φ.decRQ s)), !(decide ((4096 : Int) < ↑(List.length s)))]) := by kernel_rfl
theorem w3c (φ : Fi) (s : List UInt8) : ansO (run1O Try.prog (psnl φ) (nl φ) [9, 10, 23, 25, 29, 32, 36, 40, 45, 49, 53, 55, 56, 60, 63] [false, false, true, false, true, true, true, true, true, true] [] (mask 3) 200 3 [.str s] [] Try.prog.globals.size) = some (.bool true, [(φ.onQ (φ.decQ s)), (φ.okQ (φ.decQ s)), true, (φ.smallQ (φ.decQ s)), (φ.okQ (φ.decQ s)), (φ.small (φ.dec s)), ((φ.bytes (φ.dec s)) == (φ.bytesQ (φ.decQ s))), (φ.okQ (φ.decQ s)), ((φ.bytes (φ.dec s)) == s), !((φ.decR s) != 0), φ.given, !((φ.decR s) != (φ.decRQ s)), !(decide ((4096 : Int) < ↑(List.length s)))]) := by kernel_rfl
theorem w3d (φ : Fi) (s : List UInt8) : ansO (run1O Try.prog (psnl φ) (nl φ) [9, 10, 23, 25, 29, 32, 36, 40, 45, 49, 53, 55, 56, 60, 63] [false, false, true, false, true, true, false, false, true, true] [] (mask 3) 200 3 [.str s] [] Try.prog.globals.size) = some (.bool true, [(φ.onQ (φ.decQ s)), (φ.okQ (φ.decQ s)), true, !(φ.smallQ (φ.decQ s)), (φ.okQ (φ.decQ s)), !(φ.small (φ.dec s)), ((φ.bytes (φ.dec s)) == (φ.bytesQ (φ.decQ s))), (φ.okQ (φ.decQ s)), ((φ.bytes (φ.dec s)) == s), !((φ.decR s) != 0), φ.given, !((φ.decR s) != (φ.decRQ s)), !(decide ((4096 : Int) < ↑(List.length s)))]) := by kernel_rfl
theorem w6a (φ : Fi) (n : List UInt8) : ansO (run1O Try.prog (psnl φ) (nl φ) [13, 14, 19, 25, 32, 38, 45, 50, 56, 62, 66] [true] [] (mask 6) 200 6 [.str n] [] Try.prog.globals.size) = some (.bool true, [((φ.sofR n) != 0)]) := by kernel_rfl
theorem w6b (φ : Fi) (n : List UInt8) : ansO (run1O Try.prog (psnl φ) (nl φ) [13, 14, 19, 25, 32, 38, 45, 50, 56, 62, 66] [false, true, true, true, true, true, false, false, false] [] (mask 6) 200 6 [.str n] [] Try.prog.globals.size) = some (.bool true, [!(φ.same emptyE φ.base), !(φ.same φ.base emptyE), !(φ.same emptyE emptyE), ((φ.bytes (φ.mul emptyE (φ.sof n))) == []), ((φ.bytes (φ.neg emptyE)) == []), ((φ.bytes (φ.add emptyE φ.base)) == []), ((φ.bytes (φ.add φ.base emptyE)) == []), ((φ.bytes emptyE) == []), !((φ.sofR n) != 0)]) := by kernel_rfl
theorem run3 (s : List UInt8) : (run1 Try.prog (nl realFi) (mask 3) 200 3 [.str s] [] Try.prog.globals.size).map (·.1) = some (.bool true) := by
  by_cases h1 : (4096 : Int) < (s.length : Int)
  · exact ansO_run (nl_ps _) (w3a realFi s) (by simp [allT, h1])
  have e := fi_rsame s
  have g := given_true
  by_cases h2 : realFi.decR s = 0
  · obtain ⟨a, h⟩ := pi_dec h2
    have b1 := fi_bytesdec h2
    have b2 := pi_bytes h
    have b3 : realFi.small (realFi.dec s) = realFi.smallQ (realFi.decQ s) := h.small
    have b4 := pi_onQ h
    have b5 := pi_ok h
    cases b6 : realFi.small (realFi.dec s)
    · rw [b6] at b3
      exact ansO_run (nl_ps _) (w3d realFi s) (by simp [allT, h1, e ▸ h2, e, g, b1, ← b2, b6, ← b3, b4, b5])
    · rw [b6] at b3
      exact ansO_run (nl_ps _) (w3c realFi s) (by simp [allT, h1, e ▸ h2, e, g, b1, ← b2, b6, ← b3, b4, b5])
  · have n := fi_decnone h2
    have b1 := e_bytes
    have b2 := e_samel emptyE
    exact ansO_run (nl_ps _) (w3b realFi s) (by simp [allT, h1, h2, e ▸ h2, e, g, n, b1, b2])
theorem law3 (s : List UInt8) : CallOk Try.prog 3 [.str s] (.pure (.bool true)) := callOk_val nl_ok hmix (run3 s) rfl rfl
theorem run6 (n : List UInt8) : (run1 Try.prog (nl realFi) (mask 6) 200 6 [.str n] [] Try.prog.globals.size).map (·.1) = some (.bool true) := by
  by_cases h1 : realFi.sofR n = 0
  · have b1 := e_bytes
    have b2 := e_addl realFi.base
    have b3 := e_addr pi_base.some
    have b4 := e_neg
    have b5 := e_mul (realFi.sof n)
    have b6 := e_samel emptyE
    have b7 := e_samel realFi.base
    have b8 := e_samer pi_base.some
    exact ansO_run (nl_ps _) (w6b realFi n) (by simp [allT, h1, b1, b2, b3, b4, b5, b6, b7, b8])
  · exact ansO_run (nl_ps _) (w6a realFi n) (by simp [allT, h1])
theorem law6 (n : List UInt8) : CallOk Try.prog 6 [.str n] (.pure (.bool true)) := callOk_val nl_ok hmix (run6 n) rfl rfl
end Go.Proofs.Ytipbocnofahafaa

/- Points: the law on sums and multiples. -/
namespace Go.Proofs.Ytipbocnofahafaa
set_option linter.unusedVariables false
set_option linter.unusedSimpArgs false
open Go Go.Eng Go.Num
set_option maxRecDepth 100000
set_option maxHeartbeats 1000000
set_option linter.unusedSimpArgs false
set_option linter.unusedVariables false
theorem w5a (φ : Fi) (s t n : List UInt8) : ansO (run1O Try.prog (psnl φ) (nl φ) [34, 37, 41, 43, 55, 61, 62, 67, 68, 76, 77, 82, 85, 86, 89] [true] [] (mask 5) 200 5 [.str s, .str t, .str n] [] Try.prog.globals.size) = some (.bool true, [((φ.decR s) != 0)]) := by kernel_rfl
theorem w5b (φ : Fi) (s t n : List UInt8) : ansO (run1O Try.prog (psnl φ) (nl φ) [34, 37, 41, 43, 55, 61, 62, 67, 68, 76, 77, 82, 85, 86, 89] [false, true] [] (mask 5) 200 5 [.str s, .str t, .str n] [] Try.prog.globals.size) = some (.bool true, [((φ.decR t) != 0), !((φ.decR s) != 0)]) := by kernel_rfl
theorem w5c (φ : Fi) (s t n : List UInt8) : ansO (run1O Try.prog (psnl φ) (nl φ) [34, 37, 41, 43, 55, 61, 62, 67, 68, 76, 77, 82, 85, 86, 89] [false, false, true] [] (mask 5) 200 5 [.str s, .str t, .str n] [] Try.prog.globals.size) = some (.bool true, [((φ.sofR n) != 0), !((φ.decR t) != 0), !((φ.decR s) != 0)]) := by kernel_rfl
theorem w5d (φ : Fi) (s t n : List UInt8) : ansO (run1O Try.prog (psnl φ) (nl φ) [34, 37, 41, 43, 55, 61, 62, 67, 68, 76, 77, 82, 85, 86, 89] [false, false, false, true, true, true, true, true] [] (mask 5) 200 5 [.str s, .str t, .str n] [] Try.prog.globals.size) = some (.bool true, [(φ.sameQ (φ.decQ s) (φ.decQ t)), ((φ.okQ (φ.decQ s)) && (φ.okQ (φ.decQ t))), (φ.same (φ.dec s) (φ.dec t)), ((φ.bytes (φ.mul (φ.dec s) (φ.sof n))) == (φ.bytesQ (φ.mulQ (φ.decQ s) (φ.nof n)))), (φ.okQ (φ.mulQ (φ.decQ s) (φ.nof n))), (φ.okQ (φ.decQ s)), ((φ.bytes (φ.neg (φ.dec s))) == (φ.bytesQ (φ.negQ (φ.decQ s)))), (φ.okQ (φ.negQ (φ.decQ s))), ((φ.bytes (φ.add (φ.dec s) (φ.dec t))) == (φ.bytesQ (φ.addQ (φ.decQ s) (φ.decQ t)))), (φ.okQ (φ.addQ (φ.decQ s) (φ.decQ t))), ((φ.okQ (φ.decQ s)) && (φ.okQ (φ.decQ t))), (Nat.ble (List.length n) 100000), !((φ.sofR n) != 0), !((φ.decR t) != 0), !((φ.decR s) != 0)]) := by kernel_rfl
theorem w5e (φ : Fi) (s t n : List UInt8) : ansO (run1O Try.prog (psnl φ) (nl φ) [34, 37, 41, 43, 55, 61, 62, 67, 68, 76, 77, 82, 85, 86, 89] [false, false, false, true, true, true, false, false] [] (mask 5) 200 5 [.str s, .str t, .str n] [] Try.prog.globals.size) = some (.bool true, [!(φ.sameQ (φ.decQ s) (φ.decQ t)), ((φ.okQ (φ.decQ s)) && (φ.okQ (φ.decQ t))), !(φ.same (φ.dec s) (φ.dec t)), ((φ.bytes (φ.mul (φ.dec s) (φ.sof n))) == (φ.bytesQ (φ.mulQ (φ.decQ s) (φ.nof n)))), (φ.okQ (φ.mulQ (φ.decQ s) (φ.nof n))), (φ.okQ (φ.decQ s)), ((φ.bytes (φ.neg (φ.dec s))) == (φ.bytesQ (φ.negQ (φ.decQ s)))), (φ.okQ (φ.negQ (φ.decQ s))), ((φ.bytes (φ.add (φ.dec s) (φ.dec t))) == (φ.bytesQ (φ.addQ (φ.decQ s) (φ.decQ t)))), (φ.okQ (φ.addQ (φ.decQ s) (φ.decQ t))), ((φ.okQ (φ.decQ s)) && (φ.okQ (φ.decQ t))), (Nat.ble (List.length n) 100000), !((φ.sofR n) != 0), !((φ.decR t) != 0), !((φ.decR s) != 0)]) := by kernel_rfl
theorem sof_parts {n : List UInt8} (h : realFi.sofR n = 0) : Nat.ble n.length 100000 = true ∧ (realFi.nof n).ok ∧ (realFi.sof n).val = (realFi.nof n).val := by
  have e1 : realFi.sofR n = oE n := by simp only [realFi]
  have e2 : realFi.sof n = oV n := by simp only [realFi]
  have e3 : realFi.nof n = ofN n := by simp only [realFi]
  rw [e1] at h
  have hk : okL n = true := by rw [← oE_ok, h]; rfl
  rw [e2, e3, oV_ok hk]
  exact ⟨okL_ble hk, (ofN_val n).1, of_same n⟩
theorem run5 (s t n : List UInt8) : (run1 Try.prog (nl realFi) (mask 5) 200 5 [.str s, .str t, .str n] [] Try.prog.globals.size).map (·.1) = some (.bool true) := by
  by_cases h1 : realFi.decR s = 0
  rotate_left
  · exact ansO_run (nl_ps _) (w5a realFi s t n) (by simp [allT, h1])
  by_cases h2 : realFi.decR t = 0
  rotate_left
  · exact ansO_run (nl_ps _) (w5b realFi s t n) (by simp [allT, h1, h2])
  by_cases h3 : realFi.sofR n = 0
  rotate_left
  · exact ansO_run (nl_ps _) (w5c realFi s t n) (by simp [allT, h1, h2, h3])
  obtain ⟨a, ha⟩ := pi_dec h1
  obtain ⟨b, hb⟩ := pi_dec h2
  obtain ⟨k1, k2, k3⟩ := sof_parts h3
  obtain ⟨g, hg, _⟩ := pi_mul ha k2 k3
  have a1 := pi_add ha hb
  have a2 := pi_neg ha
  have b1 := pi_bytes a1
  have b2 := pi_bytes a2
  have b3 := pi_bytes hg
  have o1 := pi_ok a1
  have o2 := pi_ok a2
  have o3 := pi_ok hg
  have o4 := pi_ok ha
  have o5 := pi_ok hb
  have e := pi_same ha hb
  cases e2 : realFi.same (realFi.dec s) (realFi.dec t)
  · rw [e2] at e
    exact ansO_run (nl_ps _) (w5e realFi s t n) (by simp [allT, h1, h2, h3, k1, b1, b2, b3, o1, o2, o3, o4, o5, e2, ← e])
  · rw [e2] at e
    exact ansO_run (nl_ps _) (w5d realFi s t n) (by simp [allT, h1, h2, h3, k1, b1, b2, b3, o1, o2, o3, o4, o5, e2, ← e])
theorem law5 (s t n : List UInt8) : CallOk Try.prog 5 [.str s, .str t, .str n] (.pure (.bool true)) := callOk_val nl_ok hmix (run5 s t n) rfl rfl
end Go.Proofs.Ytipbocnofahafaa

/- The laws on points. -/
