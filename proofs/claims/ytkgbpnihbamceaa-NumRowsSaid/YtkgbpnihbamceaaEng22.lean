/- Engine, part 22: one step at a time. -/
import Derived.Test.YtkgbpnihbamceaaEng19
namespace Go.Eng
set_option linter.unusedVariables false
set_option linter.unusedSimpArgs false
open Go

theorem runA_nil {P : Program} {cs : CS} {nt : Nat} {ops : Array Oper} {b : Nat} {T : TL} {H : HL} : runA P cs nt ops [] b T H = some (T, H) := rfl
theorem runA_cons {P : Program} {cs : CS} {nt : Nat} {ops : Array Oper} {o : Oper} {l : List Oper} {b b1 : Nat} {T T1 : TL} {H H1 : HL} {r : Option (TL × HL)} (h : stepA P cs nt ops b o T H = some (T1, H1)) (hb : b + 8 = b1) (hr : runA P cs nt ops l b1 T1 H1 = r) : runA P cs nt ops (o :: l) b T H = r := by
  subst hb
  simp only [runA, h]
  exact hr
theorem stepA_one {P : Program} {cs : CS} {nt : Nat} {ops : Array Oper} {o : Oper} {b : Nat} {T T1 : TL} {H H1 : HL} {e : EffA} {v : AVal} (hw : wantA ops (aget T) o = some true) (he : effA P cs (opd P (aget T)) o = some e) (ha : e.app b H = some (v, H1)) (hp : putT nt T o.dst v = some T1) : stepA P cs nt ops b o T H = some (T1, H1) := by
  simp only [stepA, hw, he, ha, hp]
theorem stepA_not {P : Program} {cs : CS} {nt : Nat} {ops : Array Oper} {o : Oper} {b : Nat} {T T1 : TL} {H : HL} (hw : wantA ops (aget T) o = some false) (hp : putT nt T o.dst (.tup []) = some T1) : stepA P cs nt ops b o T H = some (T1, H) := by
  simp only [stepA, hw, hp]
theorem runK_nil {P : Program} {cs : CS} {nt : Nat} {ops : Array Oper} {fr : Nat} {tab : List Nat} {k : Nat} {T : TL} {H : HL} : runK P cs nt ops fr tab [] k T H = some (T, H, []) := rfl
theorem runK_one {P : Program} {cs : CS} {nt : Nat} {ops : Array Oper} {fr : Nat} {tab : List Nat} {o : Oper} {l : List Oper} {k : Nat} {T T1 T' : TL} {H H1 H' : HL} {e : EffA} {v : AVal} {cl : List Nat} (hw : wantA ops (aget T) o = some true) (he : effA P cs (opd P (aget T)) o = some e)
    (hs : sees fr (tab.getD k 0) e = true) (ha : e.app (fr + 8 * k) H = some (v, H1)) (hp : putT nt T o.dst v = some T1) (hr : runK P cs nt ops fr tab l (k + 1) T1 H1 = some (T', H', cl)) : runK P cs nt ops fr tab (o :: l) k T H = some (T', H', e.cls :: cl) := by
  simp only [runK, kindA, hw, he, seesO, hs, cond_true, stepE, ha, hp, hr, clsO]
theorem runK_not {P : Program} {cs : CS} {nt : Nat} {ops : Array Oper} {fr : Nat} {tab : List Nat} {o : Oper} {l : List Oper} {k : Nat} {T T1 T' : TL} {H H' : HL} {cl : List Nat} (hw : wantA ops (aget T) o = some false)
    (hp : putT nt T o.dst (.tup []) = some T1) (hr : runK P cs nt ops fr tab l (k + 1) T1 H = some (T', H', cl)) : runK P cs nt ops fr tab (o :: l) k T H = some (T', H', 0 :: cl) := by
  simp only [runK, kindA, hw, seesO, cond_true, stepE, hp, hr, clsO]
theorem evC_region {P : Program} {cs : CS} {nt nn F bs id : Nat} {ops : Array Oper} {s : SA} {T1 T2 : TL} {H1 : HL} {fr : Nat} (h : runA P cs nt ops ops.toList s.fr s.T s.H = some (T1, H1)) (hT : prune nn T1 = T2) (hf : s.fr + 8 * ops.size = fr) : evC P cs nt nn F bs (.region id ops false) s = some (.normal, ⟨T2, H1, fr⟩) := by
  subst hT; subst hf
  simp only [evC, regA, h]
theorem evC_draw {P : Program} {cs : CS} {nt nn F bs id : Nat} {ops : Array Oper} {tab : List Nat} {s : SA} {T1 T2 : TL} {H1 : HL} {fr : Nat} {cl : List Nat} (ht : befs ops.toList [] = tab) (h : runK P cs nt ops s.fr tab ops.toList 0 s.T s.H = some (T1, H1, cl)) (hp : pairsOk ops tab cl ops.toList 0 = true) (hT : prune nn T1 = T2) (hf : s.fr + 8 * ops.size = fr) :
    evC P cs nt nn F bs (.region id ops true) s = some (.normal, ⟨T2, H1, fr⟩) := by
  subst hT; subst hf; subst ht
  simp only [evC, regA, h, hp, cond_true]
theorem evC_seq {P : Program} {cs : CS} {nt nn F bs : Nat} {a b : Code} {s s1 : SA} {r : Option (XA × SA)} (h : evC P cs nt nn F bs a s = some (.normal, s1)) (hr : evC P cs nt nn F bs b s1 = r) : evC P cs nt nn F bs (.seq a b) s = r := by
  simp only [evC, h]; exact hr
theorem evC_seq_out {P : Program} {cs : CS} {nt nn F bs : Nat} {a b : Code} {s s1 : SA} {x : XA} (h : evC P cs nt nn F bs a s = some (x, s1)) (hx : x ≠ .normal) : evC P cs nt nn F bs (.seq a b) s = some (x, s1) := by
  cases x <;> first | exact absurd rfl hx | simp only [evC, h]
theorem evC_cond_t {P : Program} {cs : CS} {nt nn F bs : Nat} {c : Operand} {a b : Code} {s : SA} {r : Option (XA × SA)} (h : opd P (aget s.T) c = some (.bool true)) (hr : evC P cs nt nn F bs a s = r) : evC P cs nt nn F bs (.cond c a b) s = r := by
  simp only [evC, h, cond_true]; exact hr
theorem evC_cond_f {P : Program} {cs : CS} {nt nn F bs : Nat} {c : Operand} {a b : Code} {s : SA} {r : Option (XA × SA)} (h : opd P (aget s.T) c = some (.bool false)) (hr : evC P cs nt nn F bs b s = r) : evC P cs nt nn F bs (.cond c a b) s = r := by
  simp only [evC, h, cond_false]; exact hr
theorem evC_block {P : Program} {cs : CS} {nt nn F bs id : Nat} {b : Code} {s s1 : SA} (h : evC P cs nt nn F bs b s = some (.normal, s1)) : evC P cs nt nn F bs (.block id b) s = some (.normal, s1) := by
  simp only [evC, h]
theorem evC_block_exit {P : Program} {cs : CS} {nt nn F bs id : Nat} {b : Code} {s s1 : SA} (h : evC P cs nt nn F bs b s = some (.exit id, s1)) : evC P cs nt nn F bs (.block id b) s = some (.normal, s1) := by
  have : Nat.beq id id = true := Nat.beq_refl id
  simp only [evC, h, this, cond_true]
theorem evC_block_out {P : Program} {cs : CS} {nt nn F bs id id' : Nat} {b : Code} {s s1 : SA} (h : evC P cs nt nn F bs b s = some (.exit id', s1)) (hi : Nat.beq id' id = false) : evC P cs nt nn F bs (.block id b) s = some (.exit id', s1) := by
  simp only [evC, h, hi, cond_false]
theorem evC_block_ret {P : Program} {cs : CS} {nt nn F bs id : Nat} {b : Code} {s s1 : SA} (h : evC P cs nt nn F bs b s = some (.ret, s1)) : evC P cs nt nn F bs (.block id b) s = some (.ret, s1) := by
  simp only [evC, h]
theorem evC_skip {P : Program} {cs : CS} {nt nn F bs : Nat} {s : SA} : evC P cs nt nn F bs .skip s = some (.normal, s) := rfl
theorem evC_exit {P : Program} {cs : CS} {nt nn F bs id : Nat} {s : SA} : evC P cs nt nn F bs (.exit id) s = some (.exit id, s) := rfl
theorem evC_ret {P : Program} {cs : CS} {nt nn F bs : Nat} {s : SA} : evC P cs nt nn F bs .ret s = some (.ret, s) := rfl
theorem round_of {P : Program} {cs : CS} {nt nn F bs : Nat} {b : Code} {hd : SA → SA} {s s1 s2 : SA} (h : evC P cs nt nn F bs b s = some (.normal, s1)) (hh : hd s1 = s2) : roundA (evC P cs nt nn F bs b) hd s = some s2 := by
  simp only [roundA, h, hh]
/-! ### facts with conditions -/
theorem idx_of {x : Int} {n : Nat} (h1 : 0 ≤ x) (h2 : x < n) : idx x n = some x.toNat := by
  unfold idx
  rw [decide_eq_true h1, decide_eq_true h2]; rfl
theorem at_map {α : Type} (f : α → AVal) (w : List α) (d : α) (i : Nat) (h : i < w.length) : (w.map f)[i]? = some (f (w.getD i d)) := by
  rw [List.getElem?_map, List.getElem?_eq_getElem h, List.getD_eq_getElem?_getD, List.getElem?_eq_getElem h]; rfl
theorem putA_map {α : Type} (f : α → AVal) (w : List α) (i : Nat) (x : α) (h : i < w.length) : putA (w.map f) i [f x] = (w.set i x).map f := by
  unfold putA
  rw [List.set_eq_take_append_cons_drop, if_pos h]
  simp [List.map_take, List.map_drop]
theorem set_u64 (w : List UInt64) (i : Nat) (x : UInt64) : (w.map AVal.u64).set i (.u64 x) = (w.set i x).map .u64 := by rw [List.map_set]
theorem set_u32 (w : List UInt32) (i : Nat) (x : UInt32) : (w.map AVal.u32).set i (.u32 x) = (w.set i x).map .u32 := by rw [List.map_set]
theorem set_u8 (w : List UInt8) (i : Nat) (x : UInt8) : (w.map AVal.u8).set i (.u8 x) = (w.set i x).map .u8 := by rw [List.map_set]
end Go.Eng
