/- Texts Bt3, Bt4, Bt5, AChE, AChS, ACh0, ACh1, ACh2: what they show stands ahead of each. -/
import Derived.Test.YtifohjjmbohhnaaT6
import Derived.Shelf.RegionOpenPlain
import Derived.LoopN
import Derived.Test.YtifohjjmbohhnaaT4
import Derived.Test.YtifohjjmbohhnaaChecked
/- A builder's writing, walked. -/
namespace Go.Proofs.Ytifohjjmbohhnaa.Bld
set_option linter.unusedVariables false
set_option linter.unusedSimpArgs false
open Go Go.Bld Go.RowKit
set_option maxRecDepth 100000
set_option maxHeartbeats 2000000
set_option linter.unusedSimpArgs false
set_option linter.unusedVariables false
/-- A builder in block b, that holds the bytes bs. -/
structure BV (b : Nat) (p v : Value) (bs : List Value) (w : World) : Prop where
  blk : w.heap[b]? = some (.cells #[p, v] 66 (0, 0))
  self : p = .pointer none ∨ p = .pointer (some ⟨b, 0, none⟩)
  own : w.ownsRow 0 5 1 v bs.length bs
  ne : v.ownBlock ≠ some b
  nil : bs = [] → v = .slice none 0 0
/-- All but a builder's own lies as it lay. -/
structure Fr (b : Nat) (v : Value) (w w' : World) : Prop where
  os : w'.os = w.os
  output : w'.output = w.output
  tape : w'.tape = w.tape
  size : w.heap.size ≤ w'.heap.size
  block : ∀ k, k < w.heap.size → k ≠ b → v.ownBlock ≠ some k → w'.heap[k]? = w.heap[k]?
theorem BV.lt {b : Nat} {p v : Value} {bs : List Value} {w : World} (h : BV b p v bs w) : b < w.heap.size := (Array.getElem?_eq_some_iff.1 h.blk).1
theorem ents {f : FuncId} (hb : Eng.bodied Try.prog f = true) : ∀ args w, (callFunc f args).run Try.prog w = .ok (.enter f args) w := by
  obtain ⟨fn, hfn, hbody, hname⟩ := Eng.bodied_ok hb
  intro args w
  simp only [callFunc, Sem.run_bind, run_program, Result.andThen_ok, hfn, hname, hbody, Bool.false_eq_true, if_false, Sem.run_pure]
theorem e46 : ∀ args w, (callFunc 46 args).run Try.prog w = .ok (.enter 46 args) w := ents (by kernel_rfl)
theorem mixB : Try.prog.follows .mixedOrders = true := by kernel_rfl
theorem info5 : ∃ i, Try.prog.info? 5 = some i ∧ i.zero = some (.int .u8 0) ∧ i.size = 1 ∧ i.bytes = 1 := by
  have h : (Try.prog.info? 5).map (fun i => (i.zero, i.size, i.bytes)) = some (some (.int .u8 0), 1, 1) := by kernel_rfl
  obtain ⟨i, hi, he⟩ := Option.map_eq_some_iff.1 h
  simp only [Prod.mk.injEq] at he
  exact ⟨i, hi, he⟩
theorem set_size (w : World) (a : Addr) (u : Value) : (w.setCell a u).heap.size = w.heap.size := by simp [World.setCell]
theorem set0 {w : World} {b : Nat} {p v : Value} (h : w.heap[b]? = some (.cells #[p, v] 66 (0, 0))) (u : Value) : (w.setCell ⟨b, 0, none⟩ u).heap[b]? = some (.cells #[u, v] 66 (0, 0)) := by simp [World.setCell, Array.getElem?_modify, h]
theorem set1 {w : World} {b : Nat} {p v : Value} (h : w.heap[b]? = some (.cells #[p, v] 66 (0, 0))) (u : Value) : (w.setCell ⟨b, 1, none⟩ u).heap[b]? = some (.cells #[p, u] 66 (0, 0)) := by simp [World.setCell, Array.getElem?_modify, h]
theorem check {b : Nat} {p v : Value} {bs : List Value} {w : World} (h : BV b p v bs w) :
    Calls Try.prog 46 #[.pointer (some ⟨b, 0, none⟩)] w fun e w' => e = .returned (.tuple #[]) ∧ BV b (.pointer (some ⟨b, 0, none⟩)) v bs w' ∧ Fr b (.pointer none) w w' := by
  have c0 : w.cell? ⟨b, 0, none⟩ = some p := by rw [Lib.cell_of_heap h.blk]; rfl
  rcases h.self with rfl | rfl
  · refine (fresh b w c0 (by simp [World.shape?, h.blk]) (Lib.frozen_of_heap h.blk 0)).mono fun e w' ⟨he, hw⟩ => ?_
    subst hw
    exact ⟨he, ⟨set0 h.blk _, .inr rfl, ownsRow_setCell_other h.own h.ne _, h.ne, h.nil⟩, ⟨rfl, rfl, rfl, Nat.le_of_eq (set_size ..).symm, fun k _ hk _ => Below.heap_setCell _ _ _ _ hk⟩⟩
  · exact (used b w c0).mono fun e w' ⟨he, hw⟩ => by
      subst hw
      exact ⟨he, h, ⟨rfl, rfl, rfl, Nat.le_refl _, fun _ _ _ _ => rfl⟩⟩
theorem Fr.trans0 {b : Nat} {v : Value} {w w1 w2 : World} (h : Fr b (.pointer none) w w1) (k : Fr b v w1 w2) : Fr b v w w2 :=
  ⟨k.os.trans h.os, k.output.trans h.output, k.tape.trans h.tape, Nat.le_trans h.size k.size, fun i hi hb hv => (k.block i (Nat.lt_of_lt_of_le hi h.size) hb hv).trans (h.block i hi hb (by intro e; cases e))⟩
theorem Fr.of_grown {b : Nat} {v u : Value} {w w' : World} (h : w.grownBy w' v.ownBlock) : Fr b v w (w'.setCell ⟨b, 1, none⟩ u) :=
  ⟨h.os, h.output, h.tape, by rw [set_size]; exact h.size, fun k hk hb hv => (Below.heap_setCell _ _ _ _ hb).trans (h.block k hk fun e => hv e.symm)⟩
theorem Lies.of0 {w w1 : World} {v v' : Value} (h : Lies w1 v v') (hs : w.heap.size ≤ w1.heap.size) : Lies w v v' := fun g hg => (h g hg).imp id fun h => Nat.le_trans hs h
/-- A text is written. -/
theorem write {b : Nat} {p v : Value} {bs : List Value} {w : World} (h : BV b p v bs w) (s : ByteArray) (hl : bs.length + s.size ≤ 1000000000) :
    Calls Try.prog 36 #[.pointer (some ⟨b, 0, none⟩), .string s] w fun e w' => e = .returned (.tuple #[.int .i64 s.size, .nilIface]) ∧
      ∃ v', BV b (.pointer (some ⟨b, 0, none⟩)) v' (bs ++ Lib.strCells s) w' ∧ Lies w v v' ∧ Fr b v w w' := by
  obtain ⟨i0, hi, hz0, hz1, hz2⟩ := info5
  have e46 := e46
  go_enter Try.func36, Try.ntmps36
  go_wp2_with (go_at_call 46; refine (check h).mono ?_)
  rintro e w1 ⟨rfl, h1, f1⟩
  have c0 : w1.cell? ⟨b, 0, none⟩ = some (.pointer (some ⟨b, 0, none⟩)) := by rw [Lib.cell_of_heap h1.blk]; rfl
  have c1 : w1.cell? ⟨b, 1, none⟩ = some v := by rw [Lib.cell_of_heap h1.blk]; rfl
  have hown := h1.own
  go_wp2_with (at_builtin; refine wp_string rfl _ _ 32 9 rfl 0 5 i0 Try.underlying32 Try.underlying9 hi hz0 hz1 hz2 _ _ _ rfl hown s rfl ?c3 ?c4 ?c5 ?_)
  case c3 => unfold maxLen; omega
  case c4 => omega
  case c5 => exact Nat.zero_le _
  intro v' w2 hown' hgrow hlies hnil
  have hlt := h1.lt
  have hb2 : w2.heap[b]? = some (.cells #[.pointer (some ⟨b, 0, none⟩), v] 66 (0, 0)) := by
    rw [hgrow.block b hlt (fun e => h1.ne e.symm)]
    exact h1.blk
  have d0 : w2.cell? ⟨b, 0, none⟩ = some (.pointer (some ⟨b, 0, none⟩)) := by rw [Lib.cell_of_heap hb2]; rfl
  have d1 : w2.cell? ⟨b, 1, none⟩ = some v := by rw [Lib.cell_of_heap hb2]; rfl
  have f11 : w2.frozen? ⟨b, 1, none⟩ = false := Lib.frozen_of_heap hb2 1
  obtain ⟨ao, n', cap, rfl⟩ : ∃ ao n' cap, v' = .slice ao n' cap := by
    rcases hown'.2 with ⟨hv, _⟩ | ⟨g, cap, cur, hv, _⟩
    · exact ⟨_, _, _, hv⟩
    · exact ⟨_, _, _, hv⟩
  have hne' := Lib.ownBlock_ne hown' hb2 (by decide)
  go_wp2
  go_ret2
  refine ⟨rfl, _, ⟨set1 hb2 _, .inr rfl, ?_, hne', ?nl⟩, Lies.of0 hlies f1.size, f1.trans0 (Fr.of_grown hgrow)⟩
  case nl =>
    intro e
    have e1 := List.append_eq_nil_iff.1 e
    have hs0 : s.size = 0 := by rw [← Lib.strCells_length, e1.2]; rfl
    exact hnil (h1.nil e1.1) (by first | exact hs0 | simpa using hs0)
  have := ownsRow_setCell_other hown' (a := ⟨b, 1, none⟩) hne' (.slice ao n' cap)
  rwa [List.length_append, Lib.strCells_length]
/-- A row is written. -/
theorem writeR {b : Nat} {p v : Value} {bs : List Value} {w : World} (h : BV b p v bs w) (ad : Addr) (m c : Nat) (news : List Value) (hl : news.length = m) (hnews : ∀ j u, news[j]? = some u → w.cell? (ad.add j) = some u) (hone : ∀ u ∈ news, u.oneCell' = true)
    (hadb : ad.block ≠ b) (hadl : ad.block < w.heap.size) (hlen : bs.length + m ≤ 1000000000) :
    Calls Try.prog 37 #[.pointer (some ⟨b, 0, none⟩), .slice (some ad) m c] w fun e w' => e = .returned (.tuple #[.int .i64 m, .nilIface]) ∧
      ∃ v', BV b (.pointer (some ⟨b, 0, none⟩)) v' (bs ++ news) w' ∧ Lies w v v' ∧ Fr b v w w' := by
  obtain ⟨i0, hi, hz0, hz1, hz2⟩ := info5
  have e46 := e46
  go_enter Try.func37, Try.ntmps37
  go_wp2_with (go_at_call 46; refine (check h).mono ?_)
  rintro e w1 ⟨rfl, h1, f1⟩
  have c0 : w1.cell? ⟨b, 0, none⟩ = some (.pointer (some ⟨b, 0, none⟩)) := by rw [Lib.cell_of_heap h1.blk]; rfl
  have c1 : w1.cell? ⟨b, 1, none⟩ = some v := by rw [Lib.cell_of_heap h1.blk]; rfl
  have hown := h1.own
  have hnews1 : ∀ j u, news[j]? = some u → w1.cell? (ad.add j) = some u := fun j u hj => by
    have hblk : (ad.add j).block = ad.block := by unfold Addr.add; split <;> rfl
    have hk := f1.block ad.block hadl hadb (by intro e; cases e)
    have h0 := hnews j u hj
    unfold World.cell? at h0 ⊢
    rw [hblk] at h0 ⊢
    rw [hk]
    exact h0
  go_wp2_with (at_builtin; refine wp_row rfl _ _ 32 rfl 0 5 i0 Try.underlying32 hi hz0 hz1 hz2 _ _ _ rfl hown ad m c news rfl hl hnews1 hone ?c3 ?c4 ?c5 ?_)
  case c3 => unfold maxLen; omega
  case c4 => omega
  case c5 => exact Nat.zero_le _
  intro v' w2 hown' hgrow hlies hnil
  have hlt := h1.lt
  have hb2 : w2.heap[b]? = some (.cells #[.pointer (some ⟨b, 0, none⟩), v] 66 (0, 0)) := by
    rw [hgrow.block b hlt (fun e => h1.ne e.symm)]
    exact h1.blk
  have d0 : w2.cell? ⟨b, 0, none⟩ = some (.pointer (some ⟨b, 0, none⟩)) := by rw [Lib.cell_of_heap hb2]; rfl
  have d1 : w2.cell? ⟨b, 1, none⟩ = some v := by rw [Lib.cell_of_heap hb2]; rfl
  have f11 : w2.frozen? ⟨b, 1, none⟩ = false := Lib.frozen_of_heap hb2 1
  obtain ⟨ao, n', cap, rfl⟩ : ∃ ao n' cap, v' = .slice ao n' cap := by
    rcases hown'.2 with ⟨hv, _⟩ | ⟨g, cap, cur, hv, _⟩
    · exact ⟨_, _, _, hv⟩
    · exact ⟨_, _, _, hv⟩
  have hne' := Lib.ownBlock_ne hown' hb2 (by decide)
  go_wp2
  go_ret2
  refine ⟨rfl, _, ⟨set1 hb2 _, .inr rfl, ?_, hne', ?nl⟩, Lies.of0 hlies f1.size, f1.trans0 (Fr.of_grown hgrow)⟩
  case nl =>
    intro e
    have e1 := List.append_eq_nil_iff.1 e
    exact hnil (h1.nil e1.1) (by rw [← hl, e1.2]; rfl)
  have := ownsRow_setCell_other hown' (a := ⟨b, 1, none⟩) hne' (.slice ao n' cap)
  rwa [List.length_append, hl]
/-- All but the builder's row lies as it lay. -/
structure Fz (v : Value) (w w' : World) : Prop where
  os : w'.os = w.os
  output : w'.output = w.output
  tape : w'.tape = w.tape
  size : w.heap.size ≤ w'.heap.size
  block : ∀ k, k < w.heap.size → v.ownBlock ≠ some k → w'.heap[k]? = w.heap[k]?
theorem freeze_block (w : World) (g n k : Nat) (h : k ≠ g) : (w.freeze ⟨g, 0, none⟩ n).heap[k]? = w.heap[k]? := by
  unfold World.freeze
  split
  · rfl
  · show (w.heap.modify g _)[k]? = _
    rw [Array.getElem?_modify, if_neg (fun e => h e.symm)]
theorem freeze_size (w : World) (a : Addr) (n : Nat) : (w.freeze a n).heap.size = w.heap.size := by
  unfold World.freeze
  split
  · rfl
  · simp
theorem freeze_os (w : World) (a : Addr) (n : Nat) : (w.freeze a n).os = w.os ∧ (w.freeze a n).output = w.output ∧ (w.freeze a n).tape = w.tape := by
  unfold World.freeze
  split <;> exact ⟨rfl, rfl, rfl⟩
/-- A builder's text. -/
theorem text {b : Nat} {p v : Value} {l : List UInt8} {w : World} (h : BV b p v (Lib.byteCells l) w) :
    Calls Try.prog 38 #[.pointer (some ⟨b, 0, none⟩)] w fun e w' => e = .returned (.string ⟨l.toArray⟩) ∧ Fz v w w' := by
  by_cases h0 : l = []
  · subst h0
    have hv := h.nil rfl
    subst hv
    have hUS : ∀ (W : World) (q : Option Addr), (Builtin.unsafeString_ #[83, 3] 9 #[.pointer q, .int .i64 0]).run Try.prog W = .ok (.string .empty) W := fun W q => Lib.run_unsafeString_none W _ _ _ q
    have hSD : ∀ W : World, (Builtin.unsafeSliceData_ #[32] 83 #[.slice none 0 0]).run Try.prog W = .ok (.pointer none) W := fun W => rfl
    have c1 : w.drew.cell? ⟨b, 1, none⟩ = some (.slice none 0 0) := by
      have : w.drew.heap[b]? = some (.cells #[p, .slice none 0 0] 66 (0, 0)) := h.blk
      rw [Lib.cell_of_heap this]; rfl
    have mixed := mixB
    go_enter Try.func38, Try.ntmps38
    go_wp2
    go_region_o
    all_goals (go_wp2; go_ret; exact ⟨rfl, ⟨rfl, rfl, rfl, Nat.le_refl _, fun _ _ _ => rfl⟩⟩)
  · have hl0 : l.length ≠ 0 := by simpa using h0
    have hown := h.own
    rw [Lib.byteCells_length] at hown
    obtain ⟨g, cap, cur, rfl, _, hg, hnc, hcm, hcs, htake⟩ : ∃ g cap cur, v = .slice (some ⟨g, 0, none⟩) l.length cap ∧ 0 ≤ g ∧ w.heap[g]? = some (.cells cur 5 (0, 0)) ∧ l.length ≤ cap ∧ cap ≤ maxLen ∧ cur.size = cap * 1 ∧ cur.toList.take (l.length * 1) = Lib.byteCells l := by
      rcases hown.2 with ⟨_, hz⟩ | ⟨g, cap, cur, hv, r⟩
      · exact absurd hz hl0
      · exact ⟨g, cap, cur, hv, r⟩
    have c1 : w.drew.cell? ⟨b, 1, none⟩ = some (.slice (some ⟨g, 0, none⟩) l.length cap) := by
      have : w.drew.heap[b]? = some (.cells #[p, .slice (some ⟨g, 0, none⟩) l.length cap] 66 (0, 0)) := h.blk
      rw [Lib.cell_of_heap this]; rfl
    have t83 : Try.prog.underlying 83 = some (.pointer 5) := by kernel_rfl
    have hSD : (Builtin.unsafeSliceData_ #[32] 83 #[.slice (some ⟨g, 0, none⟩) l.length cap]).run Try.prog w.drew = .ok (.pointer (some ⟨g, 0, none⟩)) w.drew :=
      Lib.run_unsafeSliceData_row _ _ _ _ _ _ (by omega)
    have hUS : (Builtin.unsafeString_ #[83, 3] 9 #[.pointer (some ⟨g, 0, none⟩), .int .i64 l.length]).run Try.prog w.drew = .ok (.string ⟨l.toArray⟩) (w.drew.freeze ⟨g, 0, none⟩ l.length) := by
      refine Lib.run_unsafeString_row w.drew 83 3 9 5 t83 (by kernel_rfl) g cur.size (by have hg' : w.drew.heap[g]? = some (.cells cur 5 (0, 0)) := hg; simp [World.shape?, hg']) l h0 (by omega) (by unfold maxLen at hcm; omega) ?_
      intro j x hx
      exact hown.cells (g := g) rfl j (.int .u8 x.toNat) (by simp [Lib.byteCells, hx])
    have mixed := mixB
    go_enter Try.func38, Try.ntmps38
    go_wp2
    go_region_o
    all_goals (go_wp2; go_ret; exact ⟨rfl, ⟨(freeze_os w.drew _ _).1, (freeze_os w.drew _ _).2.1, (freeze_os w.drew _ _).2.2, Nat.le_of_eq (freeze_size w.drew _ _).symm, fun k _ hk => freeze_block w.drew g l.length k (fun e => hk (by simp [Value.ownBlock, e]))⟩⟩)
end Go.Proofs.Ytifohjjmbohhnaa.Bld

/- Texts with bytes 0 behind them, and their lengths: what is kept. -/
namespace Go.Proofs.Ytifohjjmbohhnaa.Bld
set_option linter.unusedVariables false
set_option linter.unusedSimpArgs false
open Go Go.Bld Go.RowKit
set_option maxRecDepth 100000
set_option maxHeartbeats 2000000
set_option linter.unusedSimpArgs false
set_option linter.unusedVariables false
def eightL (n : UInt64) : List UInt8 := (List.range 8).map fun i => (Eng.shr_u64 n (8 * i)).toUInt8
theorem run19 (n : UInt64) : (Eng.run1 Try.prog Eng.noCS (Pol.mask 19) 100 19 [.u64 n] [] Try.prog.globals.size).map (·.1) = some (.str (eightL n)) := by kernel_rfl
theorem eight_calls (n : UInt64) (w : World) : Calls Try.prog 19 #[.int .u64 n.toNat] w fun e w' => e = .returned (.string ⟨(eightL n).toArray⟩) ∧ Fz (.slice none 0 0) w w' := by
  have h := Eng.callOk_val (Eng.noCS_ok _) mixB (run19 n) rfl rfl
  have hH : Eng.HRel (Eng.sig0 Try.prog) (Eng.aget []) w := ⟨fun n o h => by simp [Eng.aget] at h, fun n m o o' p q h => by simp [Eng.aget] at h⟩
  refine (h (Eng.sig0 Try.prog) #[.int .u64 n.toNat] [] w Try.prog.globals.size (.str (eightL n)) [] (.cons (.u64 n) (.nil _)) (Eng.sig0_g _) hH rfl (fun j hj => by unfold Eng.sig0; rw [if_neg (by omega)])).mono fun e w' ⟨σ', v', he, hv, _, hf, _⟩ => ?_
  cases hv
  exact ⟨he, ⟨hf.os, hf.output, hf.tape, hf.size, fun k hk _ => (hf.old k hk (fun ⟨m, o, p, a, _⟩ => by simp [Eng.aget] at a)).1⟩⟩
theorem ownsRow_lt {w : World} {v : Value} {n : Nat} {bs : List Value} (h : w.ownsRow 0 5 1 v n bs) {g : Nat} (hg : v.ownBlock = some g) : g < w.heap.size := by
  rcases h.2 with ⟨rfl, _⟩ | ⟨g', cap, cur, rfl, _, hb, _⟩
  · cases hg
  · cases hg
    exact (Array.getElem?_eq_some_iff.1 hb).1
theorem ownsRow_keep {w w' : World} {v : Value} {n : Nat} {bs : List Value} (h : w.ownsRow 0 5 1 v n bs) (hk : ∀ g, v.ownBlock = some g → w'.heap[g]? = w.heap[g]?) : w'.ownsRow 0 5 1 v n bs := by
  refine ⟨h.1, ?_⟩
  rcases h.2 with h2 | ⟨g, cap, cur, rfl, hg, hb, r⟩
  · exact .inl h2
  · exact .inr ⟨g, cap, cur, rfl, hg, (hk g rfl).trans hb, r⟩
theorem BV.keep {b : Nat} {p v : Value} {bs : List Value} {w w' : World} (h : BV b p v bs w) (h1 : w'.heap[b]? = w.heap[b]?) (h2 : ∀ g, v.ownBlock = some g → w'.heap[g]? = w.heap[g]?) : BV b p v bs w' :=
  ⟨h1.trans h.blk, h.self, ownsRow_keep h.own h2, h.ne, h.nil⟩
/-- Two builders of one's own. -/
structure Two (w0 : World) (b c : Nat) (p q v u : Value) (bs cs : List Value) (w : World) : Prop where
  hb : BV b p v bs w
  hc : BV c q u cs w
  ne : b ≠ c
  vc : v.ownBlock ≠ some c
  ub : u.ownBlock ≠ some b
  vu : ∀ g, v.ownBlock = some g → u.ownBlock ≠ some g
  nb : w0.heap.size ≤ b
  nc : w0.heap.size ≤ c
  nv : ∀ g, v.ownBlock = some g → w0.heap.size ≤ g
  nu : ∀ g, u.ownBlock = some g → w0.heap.size ≤ g
  fr : Fz (.slice none 0 0) w0 w
theorem Two.swap {w0 : World} {b c : Nat} {p q v u : Value} {bs cs : List Value} {w : World} (h : Two w0 b c p q v u bs cs w) : Two w0 c b q p u v cs bs w :=
  ⟨h.hc, h.hb, h.ne.symm, h.ub, h.vc, fun g h1 h2 => h.vu g h2 h1, h.nc, h.nb, h.nu, h.nv, h.fr⟩
theorem Two.step {w0 : World} {b c : Nat} {p q v u p' v' : Value} {bs cs bs' : List Value} {w w' : World} (h : Two w0 b c p q v u bs cs w) (hb : BV b p' v' bs' w') (hl : Lies w v v') (hf : Fr b v w w') : Two w0 b c p' q v' u bs' cs w' := by
  have hcl := h.hc.lt
  have hs := h.fr.size
  refine ⟨hb, h.hc.keep (hf.block c hcl h.ne.symm h.vc) (fun g hg => hf.block g (ownsRow_lt h.hc.own hg) (fun e => h.ub (e ▸ hg)) (fun e => h.vu g e hg)), h.ne, ?_, h.ub, ?_, h.nb, h.nc, ?_, h.nu, ?_⟩
  · intro e
    rcases hl c e with e1 | e1
    · exact h.vc e1
    · omega
  · intro g hg hu
    rcases hl g hg with e1 | e1
    · exact h.vu g e1 hu
    · have := ownsRow_lt h.hc.own hu
      omega
  · intro g hg
    rcases hl g hg with e1 | e1
    · exact h.nv g e1
    · omega
  · exact ⟨hf.os.trans h.fr.os, hf.output.trans h.fr.output, hf.tape.trans h.fr.tape, Nat.le_trans hs hf.size, fun k hk _ =>
      (hf.block k (by omega) (by have := h.nb; omega) (fun e => by have := h.nv k e; omega)).trans (h.fr.block k hk (by intro e; cases e))⟩
/-- New blocks beside them, or the world as it was. -/
theorem Two.calm {w0 : World} {b c : Nat} {p q v u : Value} {bs cs : List Value} {w w' : World} (h : Two w0 b c p q v u bs cs w) (hf : Fz (.slice none 0 0) w w') : Two w0 b c p q v u bs cs w' := by
  have k : ∀ g, g < w.heap.size → w'.heap[g]? = w.heap[g]? := fun g hg => hf.block g hg (by intro e; cases e)
  refine ⟨h.hb.keep (k _ h.hb.lt) (fun g hg => k g (ownsRow_lt h.hb.own hg)), h.hc.keep (k _ h.hc.lt) (fun g hg => k g (ownsRow_lt h.hc.own hg)), h.ne, h.vc, h.ub, h.vu, h.nb, h.nc, h.nv, h.nu, ?_⟩
  exact ⟨hf.os.trans h.fr.os, hf.output.trans h.fr.output, hf.tape.trans h.fr.tape, Nat.le_trans h.fr.size hf.size, fun j hj _ =>
    (k j (Nat.lt_of_lt_of_le hj h.fr.size)).trans (h.fr.block j hj (by intro e; cases e))⟩
/-- Behind the first one's text. -/
theorem Two.read {w0 : World} {b c : Nat} {p q v u : Value} {bs cs : List Value} {w w' : World} (h : Two w0 b c p q v u bs cs w) (hf : Fz v w w') : BV c q u cs w' ∧ Fz (.slice none 0 0) w0 w' := by
  refine ⟨h.hc.keep (hf.block c h.hc.lt h.vc) (fun g hg => hf.block g (ownsRow_lt h.hc.own hg) (fun e => h.vu g e hg)), ?_⟩
  exact ⟨hf.os.trans h.fr.os, hf.output.trans h.fr.output, hf.tape.trans h.fr.tape, Nat.le_trans h.fr.size hf.size, fun j hj _ =>
    (hf.block j (Nat.lt_of_lt_of_le hj h.fr.size) (fun e => by have := h.nv j e; omega)).trans (h.fr.block j hj (by intro e; cases e))⟩
theorem Two.new (w : World) : Two w w.heap.size (w.heap.size + 1) (.pointer none) (.pointer none) (.slice none 0 0) (.slice none 0 0) [] [] ((w.alloc (.cells #[.pointer none, .slice none 0 0] 66)).alloc (.cells #[.pointer none, .slice none 0 0] 66)) := by
  have e0 : ((w.alloc (.cells #[.pointer none, .slice none 0 0] 66)).alloc (.cells #[.pointer none, .slice none 0 0] 66)).heap[w.heap.size]? = some (.cells #[.pointer none, .slice none 0 0] 66 (0, 0)) := by
    show ((w.heap.push _).push _)[w.heap.size]? = _
    rw [Array.getElem?_push, if_neg (by simp), Array.getElem?_push, if_pos rfl]
  have e1 : ((w.alloc (.cells #[.pointer none, .slice none 0 0] 66)).alloc (.cells #[.pointer none, .slice none 0 0] 66)).heap[w.heap.size + 1]? = some (.cells #[.pointer none, .slice none 0 0] 66 (0, 0)) := by
    show ((w.heap.push _).push _)[w.heap.size + 1]? = _
    rw [Array.getElem?_push, if_pos (by simp)]
  refine ⟨⟨e0, .inl rfl, World.ownsRow_nil _ 0 5 1, (by intro e; cases e), fun _ => rfl⟩, ⟨e1, .inl rfl, World.ownsRow_nil _ 0 5 1, (by intro e; cases e), fun _ => rfl⟩, by omega, by (intro e; cases e), by (intro e; cases e), (fun g e => by cases e), Nat.le_refl _, by omega, (fun g e => by cases e), (fun g e => by cases e), ⟨rfl, rfl, rfl, ?_, fun k hk _ => ?_⟩⟩
  · show w.heap.size ≤ ((w.heap.push _).push _).size
    simp
    omega
  · show ((w.heap.push _).push _)[k]? = _
    rw [Array.getElem?_push, if_neg (by simp; omega), Array.getElem?_push, if_neg (by omega)]
end Go.Proofs.Ytifohjjmbohhnaa.Bld

/- Texts with bytes 0 behind them, and their lengths: walked. -/
namespace Go.Proofs.Ytifohjjmbohhnaa.Bld
set_option linter.unusedVariables false
set_option linter.unusedSimpArgs false
open Go Go.Bld Go.RowKit
set_option maxRecDepth 100000
set_option maxHeartbeats 4000000
set_option linter.unusedSimpArgs false
set_option linter.unusedVariables false
theorem e36 : ∀ args w, (callFunc 36 args).run Try.prog w = .ok (.enter 36 args) w := ents (by kernel_rfl)
theorem e37 : ∀ args w, (callFunc 37 args).run Try.prog w = .ok (.enter 37 args) w := ents (by kernel_rfl)
theorem e38 : ∀ args w, (callFunc 38 args).run Try.prog w = .ok (.enter 38 args) w := ents (by kernel_rfl)
theorem e19 : ∀ args w, (callFunc 19 args).run Try.prog w = .ok (.enter 19 args) w := ents (by kernel_rfl)
theorem cell_fz {w w' : World} (h : Fz (.slice none 0 0) w w') {b o : Nat} (hb : b < w.heap.size) : w'.cell? ⟨b, o, none⟩ = w.cell? ⟨b, o, none⟩ := by
  unfold World.cell?
  show (match w'.heap[b]? with | _ => _) = _
  rw [h.block b hb (by intro e; cases e)]
theorem eightN (n : Nat) (hn : n < 18446744073709551616) (w : World) : Calls Try.prog 19 #[.int .u64 (n : Int)] w fun e w' => e = .returned (.string ⟨(eightL (UInt64.ofNat n)).toArray⟩) ∧ Fz (.slice none 0 0) w w' := by
  have h := eight_calls (UInt64.ofNat n) w
  have e : (UInt64.ofNat n).toNat = n := by rw [UInt64.toNat_ofNat']; exact Nat.mod_eq_of_lt hn
  rw [e] at h
  exact h
theorem eight_len (n : UInt64) : (eightL n).length = 8 := by unfold eightL; simp
theorem eight_size (n : UInt64) : ((⟨(eightL n).toArray⟩ : ByteArray)).size = 8 := by show (eightL n).toArray.size = 8; simp [eight_len]
theorem padI (n : Nat) : ∃ m : Nat, -((n : Int) % 16) % 16 = (m : Int) ∧ (16 - n % 16) % 16 = m ∧ m < 16 := ⟨(16 - n % 16) % 16, by omega, rfl, by omega⟩
theorem Fz.of_grown {w w' : World} (h : w.grownBy w' none) : Fz (.slice none 0 0) w w' := ⟨h.os, h.output, h.tape, h.size, fun k hk _ => h.block k hk (by intro e; cases e)⟩
def zrs (n : Nat) : List Value := Lib.byteCells (List.replicate n 0)
theorem zrs_len (n : Nat) : (zrs n).length = n := by unfold zrs; rw [Lib.byteCells_length, List.length_replicate]
theorem zrs_at {n j : Nat} {u : Value} (h : (zrs n)[j]? = some u) : j < n ∧ u = .int .u8 0 := by
  have hj : j < n := by rw [← zrs_len n]; exact (List.getElem?_eq_some_iff.1 h).1
  refine ⟨hj, ?_⟩
  unfold zrs Lib.byteCells at h
  rw [List.getElem?_map, List.getElem?_replicate, if_pos hj] at h
  exact (Option.some.inj h).symm
theorem made_zrs (n : Nat) : (madeCells (Value.int .u8 0).cells (n * 1)).toList = zrs n := by
  have e : (Value.int IntKind.u8 0).cells = #[.int .u8 0] := rfl
  rw [e, Nat.mul_one]
  apply List.ext_getElem
  · rw [zrs_len]; simp [madeCells]
  · intro i h1 h2
    have hu := zrs_at (List.getElem?_eq_getElem h2)
    rw [hu.2]
    simp [madeCells, Nat.mod_one]
/-- A row of bytes 0 that was made. -/
theorem made_row {w0 w w3 : World} {b c : Nat} {p q v u : Value} {bs cs : List Value} {n : Nat} (T : Two w0 b c p q v u bs cs w) (hg : w.grownBy w3 none) (ho : w3.ownsRow 0 5 1 (.slice (some ⟨w.heap.size, 0, none⟩) n n) n (zrs n)) (hl : bs.length + n ≤ 1000000000) :
    Two w0 b c p q v u bs cs w3 ∧ (Calls Try.prog 37 #[.pointer (some ⟨b, 0, none⟩), .slice (some ⟨w.heap.size, 0, none⟩) n n] w3 fun e w' => e = .returned (.tuple #[.int .i64 n, .nilIface]) ∧
      ∃ v', BV b (.pointer (some ⟨b, 0, none⟩)) v' (bs ++ zrs n) w' ∧ Lies w3 v v' ∧ Fr b v w3 w') := by
  have T2 := T.calm (Fz.of_grown hg)
  have hs : w.heap.size < w3.heap.size := ownsRow_lt ho (g := w.heap.size) rfl
  refine ⟨T2, writeR T2.hb ⟨w.heap.size, 0, none⟩ n n (zrs n) (zrs_len n) (fun j u hj => ho.cells (g := w.heap.size) rfl j u hj) (fun u hu => ?_) (fun e => ?_) hs hl⟩
  · obtain ⟨j, hj⟩ := List.mem_iff_getElem?.1 hu
    rw [(zrs_at hj).2]; rfl
  · have := T.hb.lt
    have e' : w.heap.size = b := e
    omega
def padL (n : Nat) : List UInt8 := List.replicate ((16 - n % 16) % 16) 0
def padT (a c : List UInt8) : List UInt8 := a ++ padL a.length ++ c ++ padL c.length ++ (eightL (UInt64.ofNat a.length) ++ eightL (UInt64.ofNat c.length))
theorem str_bytes (s : ByteArray) : Lib.strCells s = Lib.byteCells s.data.toList := rfl
theorem str_eight (n : UInt64) : Lib.strCells ⟨(eightL n).toArray⟩ = Lib.byteCells (eightL n) := rfl
theorem size_len (s : ByteArray) : s.data.toList.length = s.size := Array.length_toList
theorem padded_calls (a c : ByteArray) (ha : a.size ≤ 200000) (hc : c.size ≤ 200000) (sb so cap : Nat) (w : World) (h0 : w.cell? ⟨sb, so, none⟩ = some (.string a)) (h1 : w.cell? ⟨sb, so + 1, none⟩ = some (.string c)) (hsb : sb < w.heap.size) :
    Calls Try.prog 25 #[.slice (some ⟨sb, so, none⟩) 2 cap] w fun e w' => e = .returned (.string ⟨(padT a.data.toList c.data.toList).toArray⟩) ∧ Fz (.slice none 0 0) w w' := by
  have mixed := mixB
  have e36 := e36
  have e37 := e37
  have e38 := e38
  have e19 := e19
  obtain ⟨i0, hi, hz0, hz1, hz2⟩ := info5
  have T := Two.new w
  go_enter Try.func25, Try.ntmps25
  go_wp2
  obtain ⟨w1, hw1⟩ : ∃ w1, w1 = ((w.alloc (.cells #[.pointer none, .slice none 0 0] 66)).alloc (.cells #[.pointer none, .slice none 0 0] 66)) := ⟨_, rfl⟩
  rw [← hw1] at T ⊢
  clear hw1
  obtain ⟨b1, hb1⟩ : ∃ b1, b1 = w.heap.size := ⟨_, rfl⟩
  obtain ⟨b2, hb2⟩ : ∃ b2, b2 = w.heap.size + 1 := ⟨_, rfl⟩
  rw [← hb2] at T ⊢
  rw [← hb1] at T ⊢
  clear hb1 hb2
  have g0 : w1.cell? ⟨sb, so, none⟩ = some (.string a) := (cell_fz T.fr hsb).trans h0
  have g1 : w1.cell? ⟨sb, so + 1, none⟩ = some (.string c) := (cell_fz T.fr hsb).trans h1
  refine wp_loop_rounds 3 ?_
  rw [rounds_succ]
  go_wp2_with (go_at_call 36; refine (write T.hb a (by simp [zrs_len, Lib.strCells_length]; omega)).mono ?_)
  rintro e w12 ⟨rfl, v11, H11, L11, F11⟩
  have T11 := T.step H11 L11 F11
  go_wp2
  obtain ⟨n1, hn1, hm1, hl1⟩ := padI a.size
  rw [hn1]
  obtain ⟨w13, hk1, ho1, hg1⟩ := run_make_full w12 0 32 5 i0 (.int .u8 0) 1 Try.underlying32 hi hz0 hz1 .i64 .i64 n1 (by rw [hz2]; omega) (by unfold maxLen; omega) (Nat.zero_le _)
  rw [made_zrs] at ho1
  rw [hk1]
  simp only [Result.andThen]
  rw [Oper.upon_value]
  obtain ⟨T12, C12⟩ := made_row T11 hg1 ho1 (by simp [zrs_len, Lib.strCells_length]; omega)
  clear hk1 hg1 ho1 hn1
  have hm1' : Eng.AVal.int .i64 n1 = .int .i64 ((16 - a.size % 16) % 16 : Nat) := by rw [hm1]
  clear hm1
  go_wp2_with (go_at_call 37; refine C12.mono ?_)
  rintro e w14 ⟨rfl, v12, H12, L12, F12⟩
  have T13 := T12.step H12 L12 F12
  go_wp2_with (go_at_call 19; refine (eightN a.size (by omega) w14).mono ?_)
  rintro e w15 ⟨rfl, G1⟩
  have T14 := (T13.calm G1).swap
  go_wp2_with (go_at_call 36; refine (write T14.hb ⟨(eightL (UInt64.ofNat a.size)).toArray⟩ (by rw [eight_size]; simp [Lib.strCells_length, eight_size])).mono ?_)
  rintro e w16 ⟨rfl, u1, H13, L13, F13⟩
  have T15 := (T14.step H13 L13 F13).swap
  go_wp2
  have g2 : w16.cell? ⟨sb, so + 1, none⟩ = some (.string c) := (cell_fz T15.fr hsb).trans h1
  rw [rounds_succ]
  go_wp2_with (go_at_call 36; refine (write T15.hb c (by simp [zrs_len, Lib.strCells_length]; omega)).mono ?_)
  rintro e w22 ⟨rfl, v21, H21, L21, F21⟩
  have T21 := T15.step H21 L21 F21
  go_wp2
  obtain ⟨n2, hn2, hm2, hl2⟩ := padI c.size
  rw [hn2]
  obtain ⟨w23, hk2, ho2, hg2⟩ := run_make_full w22 0 32 5 i0 (.int .u8 0) 1 Try.underlying32 hi hz0 hz1 .i64 .i64 n2 (by rw [hz2]; omega) (by unfold maxLen; omega) (Nat.zero_le _)
  rw [made_zrs] at ho2
  rw [hk2]
  simp only [Result.andThen]
  rw [Oper.upon_value]
  obtain ⟨T22, C22⟩ := made_row T21 hg2 ho2 (by simp [zrs_len, Lib.strCells_length]; omega)
  clear hk2 hg2 ho2 hn2
  have hm2' : Eng.AVal.int .i64 n2 = .int .i64 ((16 - c.size % 16) % 16 : Nat) := by rw [hm2]
  clear hm2
  go_wp2_with (go_at_call 37; refine C22.mono ?_)
  rintro e w24 ⟨rfl, v22, H22, L22, F22⟩
  have T23 := T22.step H22 L22 F22
  go_wp2_with (go_at_call 19; refine (eightN c.size (by omega) w24).mono ?_)
  rintro e w25 ⟨rfl, G2⟩
  have T24 := (T23.calm G2).swap
  go_wp2_with (go_at_call 36; refine (write T24.hb ⟨(eightL (UInt64.ofNat c.size)).toArray⟩ (by rw [eight_size]; simp [Lib.strCells_length, eight_size])).mono ?_)
  rintro e w26 ⟨rfl, u2, H23, L23, F23⟩
  have T25 := (T24.step H23 L23 F23).swap
  go_wp2
  rw [rounds_succ]
  have E1 : [] ++ Lib.strCells a ++ zrs n1 ++ Lib.strCells c ++ zrs n2 = Lib.byteCells (a.data.toList ++ List.replicate n1 0 ++ c.data.toList ++ List.replicate n2 0) := by
    unfold zrs
    rw [str_bytes, str_bytes, List.nil_append, ← Lib.byteCells_append, ← Lib.byteCells_append, ← Lib.byteCells_append]
  have E2 : [] ++ Lib.strCells ⟨(eightL (UInt64.ofNat a.size)).toArray⟩ ++ Lib.strCells ⟨(eightL (UInt64.ofNat c.size)).toArray⟩ = Lib.byteCells (eightL (UInt64.ofNat a.size) ++ eightL (UInt64.ofNat c.size)) := by
    rw [str_eight, str_eight, List.nil_append, ← Lib.byteCells_append]
  rw [E1, E2] at T25
  go_wp2_with (go_at_call 38; refine (text T25.hb).mono ?_)
  rintro e w7 ⟨rfl, Z1⟩
  obtain ⟨Y2, Z2⟩ := T25.read Z1
  go_wp2_with (go_at_call 38; refine (text Y2).mono ?_)
  rintro e w8 ⟨rfl, Z3⟩
  go_wp2
  · rename_i hbig
    exfalso
    rw [eight_len, eight_len] at hbig
    omega
  have m1 : n1 = (16 - a.size % 16) % 16 := by injection hm1' with _ h; exact Int.ofNat_inj.1 h
  have m2 : n2 = (16 - c.size % 16) % 16 := by injection hm2' with _ h; exact Int.ofNat_inj.1 h
  have fin : Fz (.slice none 0 0) w w8 := ⟨Z3.os.trans Z2.os, Z3.output.trans Z2.output, Z3.tape.trans Z2.tape, Nat.le_trans Z2.size Z3.size, fun k hk hh =>
    (Z3.block k (Nat.lt_of_lt_of_le hk Z2.size) (fun e => by have := T25.nu k e; omega)).trans (Z2.block k hk hh)⟩
  go_ret
  refine ⟨?_, fin⟩
  show Ending.returned (Value.string _) = _
  congr 2
  apply ByteArray.ext
  unfold padT padL
  rw [size_len, size_len, ← m1, ← m2, ByteArray.data_append]
  simp
end Go.Proofs.Ytifohjjmbohhnaa.Bld

/- The engine over this seat's program. -/
namespace Go.Eng
set_option linter.unusedVariables false
set_option linter.unusedSimpArgs false
open Go
def bodyOf (f : Func) : Code := f.body.getD .skip
end Go.Eng

/- ChaCha20 on plain lists: the words, the rounds, the block. -/
namespace Go.Cha
set_option linter.unusedVariables false
set_option linter.unusedSimpArgs false
open Go Go.Eng
def rotl32 (x : UInt32) (k : Nat) : UInt32 := shl_u32 x k ||| shr_u32 x (32 - k)
def quarter (x : List UInt32) (a b c d : Nat) : List UInt32 :=
  let x := x.set a (x.getD a 0 + x.getD b 0)
  let x := x.set d (rotl32 (x.getD d 0 ^^^ x.getD a 0) 16)
  let x := x.set c (x.getD c 0 + x.getD d 0)
  let x := x.set b (rotl32 (x.getD b 0 ^^^ x.getD c 0) 12)
  let x := x.set a (x.getD a 0 + x.getD b 0)
  let x := x.set d (rotl32 (x.getD d 0 ^^^ x.getD a 0) 8)
  let x := x.set c (x.getD c 0 + x.getD d 0)
  x.set b (rotl32 (x.getD b 0 ^^^ x.getD c 0) 7)
theorem quarter_length (x : List UInt32) (a b c d : Nat) : (quarter x a b c d).length = x.length := by simp [quarter]
def dround (x : List UInt32) : List UInt32 :=
  let x := quarter x 0 4 8 12
  let x := quarter x 1 5 9 13
  let x := quarter x 2 6 10 14
  let x := quarter x 3 7 11 15
  let x := quarter x 0 5 10 15
  let x := quarter x 1 6 11 12
  let x := quarter x 2 7 8 13
  quarter x 3 4 9 14
theorem dround_length (x : List UInt32) : (dround x).length = x.length := by simp [dround, quarter_length]
def rounds (x : List UInt32) : Nat → List UInt32
  | 0 => x
  | n + 1 => dround (rounds x n)
theorem rounds_length (x : List UInt32) : ∀ n, (rounds x n).length = x.length
  | 0 => rfl
  | n + 1 => by rw [rounds, dround_length, rounds_length x n]
def word (a b c d : UInt8) : UInt32 := a.toUInt32 ||| shl_u32 b.toUInt32 8 ||| shl_u32 c.toUInt32 16 ||| shl_u32 d.toUInt32 24
def wordP (a b c d : UInt8) : UInt32 := 0 ||| shl_u32 a.toUInt32 0 ||| shl_u32 b.toUInt32 8 ||| shl_u32 c.toUInt32 16 ||| shl_u32 d.toUInt32 24
theorem wordP_eq (a b c d : UInt8) : wordP a b c d = word a b c d := by
  have h : shl_u32 a.toUInt32 0 = a.toUInt32 := by
    apply UInt32.toNat_inj.1
    simp [shl_u32, Nat.ble]
  simp only [wordP, word, h, UInt32.zero_or]
/-- Bytes as an array. -/
def bytesV (l : List UInt8) : AVal := .agg (l.map .u8)
def wordsOf : List UInt8 → List UInt32
  | a :: b :: c :: d :: l => word a b c d :: wordsOf l
  | _ => []
def le32 (n : UInt32) : List UInt8 := [n.toUInt8, (shr_u32 n 8).toUInt8, (shr_u32 n 16).toUInt8, (shr_u32 n 24).toUInt8]
def sigma : List UInt8 := [101, 120, 112, 97, 110, 100, 32, 51, 50, 45, 98, 121, 116, 101, 32, 107]
def seed (key nonce : List UInt8) (n : UInt32) : List UInt8 := sigma ++ key ++ le32 n ++ nonce
def outB (x y : List UInt32) : List UInt8 := (List.range 64).map fun i => (shr_u32 (x.getD (i / 4) 0 + y.getD (i / 4) 0) (8 * (i % 4))).toUInt8
def block (key nonce : List UInt8) (n : UInt32) : List UInt8 :=
  let x := wordsOf (seed key nonce n)
  outB x (rounds x 10)
/-- A list of sixteen, written out. -/
theorem sixteen {α : Type} {x : List α} (h : x.length = 16) : ∃ x0 x1 x2 x3 x4 x5 x6 x7 x8 x9 x10 x11 x12 x13 x14 x15, x = [x0, x1, x2, x3, x4, x5, x6, x7, x8, x9, x10, x11, x12, x13, x14, x15] := by
  match x, h with
  | [x0, x1, x2, x3, x4, x5, x6, x7, x8, x9, x10, x11, x12, x13, x14, x15], _ => exact ⟨_, _, _, _, _, _, _, _, _, _, _, _, _, _, _, _, rfl⟩
theorem twelve {α : Type} {x : List α} (h : x.length = 12) : ∃ x0 x1 x2 x3 x4 x5 x6 x7 x8 x9 x10 x11, x = [x0, x1, x2, x3, x4, x5, x6, x7, x8, x9, x10, x11] := by
  match x, h with
  | [x0, x1, x2, x3, x4, x5, x6, x7, x8, x9, x10, x11], _ => exact ⟨_, _, _, _, _, _, _, _, _, _, _, _, rfl⟩
theorem thirtytwo {α : Type} {x : List α} (h : x.length = 32) : ∃ x0 x1 x2 x3 x4 x5 x6 x7 x8 x9 x10 x11 x12 x13 x14 x15 x16 x17 x18 x19 x20 x21 x22 x23 x24 x25 x26 x27 x28 x29 x30 x31, x = [x0, x1, x2, x3, x4, x5, x6, x7, x8, x9, x10, x11, x12, x13, x14, x15, x16, x17, x18, x19, x20, x21, x22, x23, x24, x25, x26, x27, x28, x29, x30, x31] := by
  match x, h with
  | [x0, x1, x2, x3, x4, x5, x6, x7, x8, x9, x10, x11, x12, x13, x14, x15, x16, x17, x18, x19, x20, x21, x22, x23, x24, x25, x26, x27, x28, x29, x30, x31], _ => exact ⟨_, _, _, _, _, _, _, _, _, _, _, _, _, _, _, _, _, _, _, _, _, _, _, _, _, _, _, _, _, _, _, _, rfl⟩

end Go.Cha

/- The quarters of chacha: the reference's (a value) and the program's (through a pointer). -/
namespace Go.Proofs.Ytifohjjmbohhnaa.Cha
set_option linter.unusedVariables false
set_option linter.unusedSimpArgs false
open Go Go.Eng Go.Cha
set_option maxRecDepth 100000

def mask : FuncId → Nat := fun f => match f with | 2 => 0 | 3 => 1074265119 | 4 => 36893488147486456819 | 5 => 18889465931753467146303 | 6 => 1407 | 7 => 4303411983 | 8 => 8423183 | 9 => 144115222574037775 | 10 => 8796244086543 | 11 => 5 | 12 => 5 | 13 => 609885634319 | 14 => 528143 | 15 => 19 | 16 => 283602206479 | 17 => 783 | 18 => 14451 | 19 => 125 | 20 => 157 | 21 => 19 | 22 => 127 | 23 => 4551 | 24 => 309513344275821599845253107 | 25 => 2013 | 26 => 590296091842272313287 | 27 => 39614081552298092776981266419 | 28 => 5 | 29 => 269353199 | 30 => 928456800891898357834874823 | 31 => 281475043836915 | 32 => 95 | 33 => 511 | 34 => 4313087 | 35 => 34359787583 | 36 => 51 | 37 => 51 | 38 => 5 | 39 => 5 | 40 => 1087 | 41 => 9671406628976826459979775 | 42 => 4503599627442175 | 43 => 2147516543 | 44 => 116767 | 45 => 1073742391 | 46 => 524353 | 47 => 51 | _ => 0
theorem hmix : Try.prog.follows .mixedOrders = true := by kernel_rfl
noncomputable def cs0 : CS := inl Try.prog mask 100 noCS 3
theorem cs0_ok : CSOk Try.prog cs0 := inl_ok hmix (noCS_ok _) 3

theorem rq0 (x0 x1 x2 x3 x4 x5 x6 x7 x8 x9 x10 x11 x12 x13 x14 x15 : UInt32) : (run1 Try.prog cs0 (mask 40) 100 40 [.agg ([x0, x1, x2, x3, x4, x5, x6, x7, x8, x9, x10, x11, x12, x13, x14, x15].map .u32), .int .i64 0, .int .i64 4, .int .i64 8, .int .i64 12] [] Try.prog.globals.size).map (·.1) = some (.agg ((quarter [x0, x1, x2, x3, x4, x5, x6, x7, x8, x9, x10, x11, x12, x13, x14, x15] 0 4 8 12).map .u32)) := by kernel_rfl
theorem pq0 (x0 x1 x2 x3 x4 x5 x6 x7 x8 x9 x10 x11 x12 x13 x14 x15 : UInt32) : (run1 Try.prog cs0 (mask 44) 100 44 [.ptr Try.prog.globals.size 0, .int .i64 0, .int .i64 4, .int .i64 8, .int .i64 12] [(Try.prog.globals.size, .cells false ([x0, x1, x2, x3, x4, x5, x6, x7, x8, x9, x10, x11, x12, x13, x14, x15].map .u32))] (Try.prog.globals.size + 1)).map (fun r => (r.1, aget r.2.1 Try.prog.globals.size)) = some (.tup [], some (.cells false ((quarter [x0, x1, x2, x3, x4, x5, x6, x7, x8, x9, x10, x11, x12, x13, x14, x15] 0 4 8 12).map .u32))) := by kernel_rfl
theorem rq1 (x0 x1 x2 x3 x4 x5 x6 x7 x8 x9 x10 x11 x12 x13 x14 x15 : UInt32) : (run1 Try.prog cs0 (mask 40) 100 40 [.agg ([x0, x1, x2, x3, x4, x5, x6, x7, x8, x9, x10, x11, x12, x13, x14, x15].map .u32), .int .i64 1, .int .i64 5, .int .i64 9, .int .i64 13] [] Try.prog.globals.size).map (·.1) = some (.agg ((quarter [x0, x1, x2, x3, x4, x5, x6, x7, x8, x9, x10, x11, x12, x13, x14, x15] 1 5 9 13).map .u32)) := by kernel_rfl
theorem pq1 (x0 x1 x2 x3 x4 x5 x6 x7 x8 x9 x10 x11 x12 x13 x14 x15 : UInt32) : (run1 Try.prog cs0 (mask 44) 100 44 [.ptr Try.prog.globals.size 0, .int .i64 1, .int .i64 5, .int .i64 9, .int .i64 13] [(Try.prog.globals.size, .cells false ([x0, x1, x2, x3, x4, x5, x6, x7, x8, x9, x10, x11, x12, x13, x14, x15].map .u32))] (Try.prog.globals.size + 1)).map (fun r => (r.1, aget r.2.1 Try.prog.globals.size)) = some (.tup [], some (.cells false ((quarter [x0, x1, x2, x3, x4, x5, x6, x7, x8, x9, x10, x11, x12, x13, x14, x15] 1 5 9 13).map .u32))) := by kernel_rfl
theorem rq2 (x0 x1 x2 x3 x4 x5 x6 x7 x8 x9 x10 x11 x12 x13 x14 x15 : UInt32) : (run1 Try.prog cs0 (mask 40) 100 40 [.agg ([x0, x1, x2, x3, x4, x5, x6, x7, x8, x9, x10, x11, x12, x13, x14, x15].map .u32), .int .i64 2, .int .i64 6, .int .i64 10, .int .i64 14] [] Try.prog.globals.size).map (·.1) = some (.agg ((quarter [x0, x1, x2, x3, x4, x5, x6, x7, x8, x9, x10, x11, x12, x13, x14, x15] 2 6 10 14).map .u32)) := by kernel_rfl
theorem pq2 (x0 x1 x2 x3 x4 x5 x6 x7 x8 x9 x10 x11 x12 x13 x14 x15 : UInt32) : (run1 Try.prog cs0 (mask 44) 100 44 [.ptr Try.prog.globals.size 0, .int .i64 2, .int .i64 6, .int .i64 10, .int .i64 14] [(Try.prog.globals.size, .cells false ([x0, x1, x2, x3, x4, x5, x6, x7, x8, x9, x10, x11, x12, x13, x14, x15].map .u32))] (Try.prog.globals.size + 1)).map (fun r => (r.1, aget r.2.1 Try.prog.globals.size)) = some (.tup [], some (.cells false ((quarter [x0, x1, x2, x3, x4, x5, x6, x7, x8, x9, x10, x11, x12, x13, x14, x15] 2 6 10 14).map .u32))) := by kernel_rfl
theorem rq3 (x0 x1 x2 x3 x4 x5 x6 x7 x8 x9 x10 x11 x12 x13 x14 x15 : UInt32) : (run1 Try.prog cs0 (mask 40) 100 40 [.agg ([x0, x1, x2, x3, x4, x5, x6, x7, x8, x9, x10, x11, x12, x13, x14, x15].map .u32), .int .i64 3, .int .i64 7, .int .i64 11, .int .i64 15] [] Try.prog.globals.size).map (·.1) = some (.agg ((quarter [x0, x1, x2, x3, x4, x5, x6, x7, x8, x9, x10, x11, x12, x13, x14, x15] 3 7 11 15).map .u32)) := by kernel_rfl
theorem pq3 (x0 x1 x2 x3 x4 x5 x6 x7 x8 x9 x10 x11 x12 x13 x14 x15 : UInt32) : (run1 Try.prog cs0 (mask 44) 100 44 [.ptr Try.prog.globals.size 0, .int .i64 3, .int .i64 7, .int .i64 11, .int .i64 15] [(Try.prog.globals.size, .cells false ([x0, x1, x2, x3, x4, x5, x6, x7, x8, x9, x10, x11, x12, x13, x14, x15].map .u32))] (Try.prog.globals.size + 1)).map (fun r => (r.1, aget r.2.1 Try.prog.globals.size)) = some (.tup [], some (.cells false ((quarter [x0, x1, x2, x3, x4, x5, x6, x7, x8, x9, x10, x11, x12, x13, x14, x15] 3 7 11 15).map .u32))) := by kernel_rfl
theorem rq4 (x0 x1 x2 x3 x4 x5 x6 x7 x8 x9 x10 x11 x12 x13 x14 x15 : UInt32) : (run1 Try.prog cs0 (mask 40) 100 40 [.agg ([x0, x1, x2, x3, x4, x5, x6, x7, x8, x9, x10, x11, x12, x13, x14, x15].map .u32), .int .i64 0, .int .i64 5, .int .i64 10, .int .i64 15] [] Try.prog.globals.size).map (·.1) = some (.agg ((quarter [x0, x1, x2, x3, x4, x5, x6, x7, x8, x9, x10, x11, x12, x13, x14, x15] 0 5 10 15).map .u32)) := by kernel_rfl
theorem pq4 (x0 x1 x2 x3 x4 x5 x6 x7 x8 x9 x10 x11 x12 x13 x14 x15 : UInt32) : (run1 Try.prog cs0 (mask 44) 100 44 [.ptr Try.prog.globals.size 0, .int .i64 0, .int .i64 5, .int .i64 10, .int .i64 15] [(Try.prog.globals.size, .cells false ([x0, x1, x2, x3, x4, x5, x6, x7, x8, x9, x10, x11, x12, x13, x14, x15].map .u32))] (Try.prog.globals.size + 1)).map (fun r => (r.1, aget r.2.1 Try.prog.globals.size)) = some (.tup [], some (.cells false ((quarter [x0, x1, x2, x3, x4, x5, x6, x7, x8, x9, x10, x11, x12, x13, x14, x15] 0 5 10 15).map .u32))) := by kernel_rfl
theorem rq5 (x0 x1 x2 x3 x4 x5 x6 x7 x8 x9 x10 x11 x12 x13 x14 x15 : UInt32) : (run1 Try.prog cs0 (mask 40) 100 40 [.agg ([x0, x1, x2, x3, x4, x5, x6, x7, x8, x9, x10, x11, x12, x13, x14, x15].map .u32), .int .i64 1, .int .i64 6, .int .i64 11, .int .i64 12] [] Try.prog.globals.size).map (·.1) = some (.agg ((quarter [x0, x1, x2, x3, x4, x5, x6, x7, x8, x9, x10, x11, x12, x13, x14, x15] 1 6 11 12).map .u32)) := by kernel_rfl
theorem pq5 (x0 x1 x2 x3 x4 x5 x6 x7 x8 x9 x10 x11 x12 x13 x14 x15 : UInt32) : (run1 Try.prog cs0 (mask 44) 100 44 [.ptr Try.prog.globals.size 0, .int .i64 1, .int .i64 6, .int .i64 11, .int .i64 12] [(Try.prog.globals.size, .cells false ([x0, x1, x2, x3, x4, x5, x6, x7, x8, x9, x10, x11, x12, x13, x14, x15].map .u32))] (Try.prog.globals.size + 1)).map (fun r => (r.1, aget r.2.1 Try.prog.globals.size)) = some (.tup [], some (.cells false ((quarter [x0, x1, x2, x3, x4, x5, x6, x7, x8, x9, x10, x11, x12, x13, x14, x15] 1 6 11 12).map .u32))) := by kernel_rfl
theorem rq6 (x0 x1 x2 x3 x4 x5 x6 x7 x8 x9 x10 x11 x12 x13 x14 x15 : UInt32) : (run1 Try.prog cs0 (mask 40) 100 40 [.agg ([x0, x1, x2, x3, x4, x5, x6, x7, x8, x9, x10, x11, x12, x13, x14, x15].map .u32), .int .i64 2, .int .i64 7, .int .i64 8, .int .i64 13] [] Try.prog.globals.size).map (·.1) = some (.agg ((quarter [x0, x1, x2, x3, x4, x5, x6, x7, x8, x9, x10, x11, x12, x13, x14, x15] 2 7 8 13).map .u32)) := by kernel_rfl
theorem pq6 (x0 x1 x2 x3 x4 x5 x6 x7 x8 x9 x10 x11 x12 x13 x14 x15 : UInt32) : (run1 Try.prog cs0 (mask 44) 100 44 [.ptr Try.prog.globals.size 0, .int .i64 2, .int .i64 7, .int .i64 8, .int .i64 13] [(Try.prog.globals.size, .cells false ([x0, x1, x2, x3, x4, x5, x6, x7, x8, x9, x10, x11, x12, x13, x14, x15].map .u32))] (Try.prog.globals.size + 1)).map (fun r => (r.1, aget r.2.1 Try.prog.globals.size)) = some (.tup [], some (.cells false ((quarter [x0, x1, x2, x3, x4, x5, x6, x7, x8, x9, x10, x11, x12, x13, x14, x15] 2 7 8 13).map .u32))) := by kernel_rfl
theorem rq7 (x0 x1 x2 x3 x4 x5 x6 x7 x8 x9 x10 x11 x12 x13 x14 x15 : UInt32) : (run1 Try.prog cs0 (mask 40) 100 40 [.agg ([x0, x1, x2, x3, x4, x5, x6, x7, x8, x9, x10, x11, x12, x13, x14, x15].map .u32), .int .i64 3, .int .i64 4, .int .i64 9, .int .i64 14] [] Try.prog.globals.size).map (·.1) = some (.agg ((quarter [x0, x1, x2, x3, x4, x5, x6, x7, x8, x9, x10, x11, x12, x13, x14, x15] 3 4 9 14).map .u32)) := by kernel_rfl
theorem pq7 (x0 x1 x2 x3 x4 x5 x6 x7 x8 x9 x10 x11 x12 x13 x14 x15 : UInt32) : (run1 Try.prog cs0 (mask 44) 100 44 [.ptr Try.prog.globals.size 0, .int .i64 3, .int .i64 4, .int .i64 9, .int .i64 14] [(Try.prog.globals.size, .cells false ([x0, x1, x2, x3, x4, x5, x6, x7, x8, x9, x10, x11, x12, x13, x14, x15].map .u32))] (Try.prog.globals.size + 1)).map (fun r => (r.1, aget r.2.1 Try.prog.globals.size)) = some (.tup [], some (.cells false ((quarter [x0, x1, x2, x3, x4, x5, x6, x7, x8, x9, x10, x11, x12, x13, x14, x15] 3 4 9 14).map .u32))) := by kernel_rfl

/-- Which four words. -/
def okq : Int → Int → Int → Int → Bool
  | 0, 4, 8, 12 => true
  | 1, 5, 9, 13 => true
  | 2, 6, 10, 14 => true
  | 3, 7, 11, 15 => true
  | 0, 5, 10, 15 => true
  | 1, 6, 11, 12 => true
  | 2, 7, 8, 13 => true
  | 3, 4, 9, 14 => true
  | _, _, _, _ => false
theorem okq_cases {a b c d : Int} (h : okq a b c d = true) : (a = 0 ∧ b = 4 ∧ c = 8 ∧ d = 12) ∨ (a = 1 ∧ b = 5 ∧ c = 9 ∧ d = 13) ∨ (a = 2 ∧ b = 6 ∧ c = 10 ∧ d = 14) ∨ (a = 3 ∧ b = 7 ∧ c = 11 ∧ d = 15) ∨ (a = 0 ∧ b = 5 ∧ c = 10 ∧ d = 15) ∨ (a = 1 ∧ b = 6 ∧ c = 11 ∧ d = 12) ∨ (a = 2 ∧ b = 7 ∧ c = 8 ∧ d = 13) ∨ (a = 3 ∧ b = 4 ∧ c = 9 ∧ d = 14) := by
  unfold okq at h
  split at h <;> first | (cases h; done) | simp


theorem okMap {α β : Type} {x : Option α} {g : α → β} {y : β} (h : x.map g = some y) : ∃ r, x = some r ∧ g r = y := by
  cases x with
  | none => cases h
  | some r => exact ⟨r, rfl, Option.some.inj h⟩
theorem rq_any {x : List UInt32} (hx : x.length = 16) {a b c d : Int} (h : okq a b c d = true) : ∃ r, run1 Try.prog cs0 (mask 40) 100 40 [.agg (x.map .u32), .int .i64 a, .int .i64 b, .int .i64 c, .int .i64 d] [] Try.prog.globals.size = some r ∧ r.1 = .agg ((quarter x a.toNat b.toNat c.toNat d.toNat).map .u32) := by
  obtain ⟨x0, x1, x2, x3, x4, x5, x6, x7, x8, x9, x10, x11, x12, x13, x14, x15, rfl⟩ := sixteen hx
  rcases okq_cases h with ⟨rfl, rfl, rfl, rfl⟩ | ⟨rfl, rfl, rfl, rfl⟩ | ⟨rfl, rfl, rfl, rfl⟩ | ⟨rfl, rfl, rfl, rfl⟩ | ⟨rfl, rfl, rfl, rfl⟩ | ⟨rfl, rfl, rfl, rfl⟩ | ⟨rfl, rfl, rfl, rfl⟩ | ⟨rfl, rfl, rfl, rfl⟩
  · exact okMap (rq0 x0 x1 x2 x3 x4 x5 x6 x7 x8 x9 x10 x11 x12 x13 x14 x15)
  · exact okMap (rq1 x0 x1 x2 x3 x4 x5 x6 x7 x8 x9 x10 x11 x12 x13 x14 x15)
  · exact okMap (rq2 x0 x1 x2 x3 x4 x5 x6 x7 x8 x9 x10 x11 x12 x13 x14 x15)
  · exact okMap (rq3 x0 x1 x2 x3 x4 x5 x6 x7 x8 x9 x10 x11 x12 x13 x14 x15)
  · exact okMap (rq4 x0 x1 x2 x3 x4 x5 x6 x7 x8 x9 x10 x11 x12 x13 x14 x15)
  · exact okMap (rq5 x0 x1 x2 x3 x4 x5 x6 x7 x8 x9 x10 x11 x12 x13 x14 x15)
  · exact okMap (rq6 x0 x1 x2 x3 x4 x5 x6 x7 x8 x9 x10 x11 x12 x13 x14 x15)
  · exact okMap (rq7 x0 x1 x2 x3 x4 x5 x6 x7 x8 x9 x10 x11 x12 x13 x14 x15)
theorem pq_any {x : List UInt32} (hx : x.length = 16) {a b c d : Int} (h : okq a b c d = true) : ∃ r, run1 Try.prog cs0 (mask 44) 100 44 [.ptr Try.prog.globals.size 0, .int .i64 a, .int .i64 b, .int .i64 c, .int .i64 d] [(Try.prog.globals.size, .cells false (x.map .u32))] (Try.prog.globals.size + 1) = some r ∧ (r.1, aget r.2.1 Try.prog.globals.size) = (.tup [], some (.cells false ((quarter x a.toNat b.toNat c.toNat d.toNat).map .u32))) := by
  obtain ⟨x0, x1, x2, x3, x4, x5, x6, x7, x8, x9, x10, x11, x12, x13, x14, x15, rfl⟩ := sixteen hx
  rcases okq_cases h with ⟨rfl, rfl, rfl, rfl⟩ | ⟨rfl, rfl, rfl, rfl⟩ | ⟨rfl, rfl, rfl, rfl⟩ | ⟨rfl, rfl, rfl, rfl⟩ | ⟨rfl, rfl, rfl, rfl⟩ | ⟨rfl, rfl, rfl, rfl⟩ | ⟨rfl, rfl, rfl, rfl⟩ | ⟨rfl, rfl, rfl, rfl⟩
  · exact okMap (pq0 x0 x1 x2 x3 x4 x5 x6 x7 x8 x9 x10 x11 x12 x13 x14 x15)
  · exact okMap (pq1 x0 x1 x2 x3 x4 x5 x6 x7 x8 x9 x10 x11 x12 x13 x14 x15)
  · exact okMap (pq2 x0 x1 x2 x3 x4 x5 x6 x7 x8 x9 x10 x11 x12 x13 x14 x15)
  · exact okMap (pq3 x0 x1 x2 x3 x4 x5 x6 x7 x8 x9 x10 x11 x12 x13 x14 x15)
  · exact okMap (pq4 x0 x1 x2 x3 x4 x5 x6 x7 x8 x9 x10 x11 x12 x13 x14 x15)
  · exact okMap (pq5 x0 x1 x2 x3 x4 x5 x6 x7 x8 x9 x10 x11 x12 x13 x14 x15)
  · exact okMap (pq6 x0 x1 x2 x3 x4 x5 x6 x7 x8 x9 x10 x11 x12 x13 x14 x15)
  · exact okMap (pq7 x0 x1 x2 x3 x4 x5 x6 x7 x8 x9 x10 x11 x12 x13 x14 x15)

/-- What the two quarters do. -/
def q15 (c : List AVal) (a b c' d : Int) : Option EffA :=
  match words32 c with
  | some x => cond (Nat.beq x.length 16 && okq a b c' d) (some (.pure (.agg ((quarter x a.toNat b.toNat c'.toNat d.toNat).map .u32)))) none
  | none => none
def q17 (n : Nat) (a b c d : Int) : EffA :=
  .eff fun _ η => match η n with
    | some (.cells false cs) => match words32 cs with
      | some x => cond (Nat.beq x.length 16 && okq a b c d) (some (.tup [], [(n, some (.cells false ((quarter x a.toNat b.toNat c.toNat d.toNat).map .u32)))])) none
      | none => none
    | _ => none
def csQ : CS := fun f args => match Nat.beq f 40 with
  | true => match args with
    | [.agg c, .int .i64 a, .int .i64 b, .int .i64 c', .int .i64 d] => q15 c a b c' d
    | _ => none
  | false => match Nat.beq f 44 with
    | true => match args with
      | [.ptr n 0, .int .i64 a, .int .i64 b, .int .i64 c', .int .i64 d] => some (q17 n a b c' d)
      | _ => none
    | false => none
theorem csQ_ok : CSOk Try.prog csQ := by
  intro f args e h
  unfold csQ at h
  split at h
  · rename_i hf
    have hf := Nat.eq_of_beq_eq_true hf
    subst hf
    split at h
    · rename_i c a b c' d
      unfold q15 at h
      split at h
      · rename_i x hx
        cases hb : (Nat.beq x.length 16 && okq a b c' d) <;> rw [hb] at h <;> simp only [cond_true, cond_false, Option.some.injEq] at h
        · cases h
        · subst h
          simp only [Bool.and_eq_true] at hb
          have hl := Nat.eq_of_beq_eq_true hb.1
          rw [words32_eq hx]
          obtain ⟨r, h1, h2⟩ := rq_any hl hb.2
          rw [← h2]
          refine callOk_run cs0_ok hmix h1 ?_ ?_
          · simp only [allV, ltV, ltL_u32, ltS, cond_true]
          · rw [h2]; exact ltL_u32 0 _
      · cases h
    · cases h
  · split at h
    · rename_i hf
      have hf := Nat.eq_of_beq_eq_true hf
      subst hf
      split at h
      · rename_i n a b c d
        cases h
        refine (callOk_blk cs0_ok hmix (nn := mask 44) (F := 100) (f := 44) (n := n) (off := 0) (rest := [.int .i64 a, .int .i64 b, .int .i64 c, .int .i64 d]) rfl).less fun base H r hr => ?_
        simp only [q17, EffA.app] at hr
        cases hn : aget H n with
        | none => rw [hn] at hr; cases hr
        | some ob =>
          rw [hn] at hr
          cases ob with
          | cells ro cs =>
            cases ro with
            | true => cases hr
            | false =>
              simp only at hr
              cases hx : words32 cs with
              | none => rw [hx] at hr; cases hr
              | some x =>
                rw [hx] at hr
                simp only at hr
                cases hb : (Nat.beq x.length 16 && okq a b c d) <;> rw [hb] at hr <;> simp only [cond_true, cond_false, appU] at hr
                · cases hr
                · cases hr
                  simp only [Bool.and_eq_true] at hb
                  have hl := Nat.eq_of_beq_eq_true hb.1
                  obtain ⟨r, h1, h2⟩ := pq_any hl hb.2
                  rw [Prod.mk.injEq] at h2
                  have hcs := words32_eq hx
                  subst hcs
                  exact blkE_app hn (ltL_u32 0 x) h1 h2.1 h2.2 rfl (ltL_u32 0 _)
      · cases h
    · cases h
noncomputable def cs1 : CS := inl Try.prog mask 100 csQ 3
theorem cs1_ok : CSOk Try.prog cs1 := inl_ok hmix csQ_ok 3
end Go.Proofs.Ytifohjjmbohhnaa.Cha

/- The reference's block. -/
namespace Go.Proofs.Ytifohjjmbohhnaa.Cha
set_option linter.unusedVariables false
set_option linter.unusedSimpArgs false
open Go Go.Eng Go.Cha
set_option maxRecDepth 100000
noncomputable def p9 : List Code := pieces (bodyOf Try.f26)
noncomputable def b9 : Code := loopOf (p9.getD 7 .skip)

def I9 (key nonce all : List UInt8) (n : UInt32) (a0 a1 a2 a3 : UInt8) (x0 x1 x2 x3 x4 x5 x6 x7 x8 x9 x10 x11 x12 x13 x14 x15 : UInt32) (k : Nat) (y : List UInt32) : SA := ⟨[(0, .str key), (1, .str nonce), (2, .u32 n), (6, .str []), (7, .str all), (8, .ptr 160 0), (9, .int .i64 16), (33, .bool false), (10, .ptr 200 0), (11, .int .i64 k)], [(112, .cells false [.u8 a0, .u8 a1, .u8 a2, .u8 a3]), (160, .cells false ([x0, x1, x2, x3, x4, x5, x6, x7, x8, x9, x10, x11, x12, x13, x14, x15].map .u32)), (200, .cells false (y.map .u32))], 224⟩
def J9 (key nonce all : List UInt8) (n : UInt32) (a0 a1 a2 a3 : UInt8) (x0 x1 x2 x3 x4 x5 x6 x7 x8 x9 x10 x11 x12 x13 x14 x15 : UInt32) (y : List UInt32) : SA := ⟨[(0, .str key), (1, .str nonce), (2, .u32 n), (6, .str []), (7, .str all), (8, .ptr 160 0), (9, .int .i64 16), (33, .bool false), (10, .ptr 200 0), (11, .int .i64 10), (48, .bool false)], [(112, .cells false [.u8 a0, .u8 a1, .u8 a2, .u8 a3]), (160, .cells false ([x0, x1, x2, x3, x4, x5, x6, x7, x8, x9, x10, x11, x12, x13, x14, x15].map .u32)), (200, .cells false (y.map .u32))], 240⟩
theorem r9_0 (key nonce all : List UInt8) (n : UInt32) (a0 a1 a2 a3 : UInt8) (x0 x1 x2 x3 x4 x5 x6 x7 x8 x9 x10 x11 x12 x13 x14 x15 : UInt32) (y0 y1 y2 y3 y4 y5 y6 y7 y8 y9 y10 y11 y12 y13 y14 y15 : UInt32) : roundA (evC Try.prog cs1 Try.f26.ntmps (mask 26) 100 Try.prog.globals.size b9) (headA Try.prog Try.prog.globals.size (I9 key nonce all n a0 a1 a2 a3 x0 x1 x2 x3 x4 x5 x6 x7 x8 x9 x10 x11 x12 x13 x14 x15 0 (rounds [x0, x1, x2, x3, x4, x5, x6, x7, x8, x9, x10, x11, x12, x13, x14, x15] 0))) (I9 key nonce all n a0 a1 a2 a3 x0 x1 x2 x3 x4 x5 x6 x7 x8 x9 x10 x11 x12 x13 x14 x15 0 [y0, y1, y2, y3, y4, y5, y6, y7, y8, y9, y10, y11, y12, y13, y14, y15]) = some (I9 key nonce all n a0 a1 a2 a3 x0 x1 x2 x3 x4 x5 x6 x7 x8 x9 x10 x11 x12 x13 x14 x15 1 (dround [y0, y1, y2, y3, y4, y5, y6, y7, y8, y9, y10, y11, y12, y13, y14, y15])) := by kernel_rfl
theorem r9_1 (key nonce all : List UInt8) (n : UInt32) (a0 a1 a2 a3 : UInt8) (x0 x1 x2 x3 x4 x5 x6 x7 x8 x9 x10 x11 x12 x13 x14 x15 : UInt32) (y0 y1 y2 y3 y4 y5 y6 y7 y8 y9 y10 y11 y12 y13 y14 y15 : UInt32) : roundA (evC Try.prog cs1 Try.f26.ntmps (mask 26) 100 Try.prog.globals.size b9) (headA Try.prog Try.prog.globals.size (I9 key nonce all n a0 a1 a2 a3 x0 x1 x2 x3 x4 x5 x6 x7 x8 x9 x10 x11 x12 x13 x14 x15 0 (rounds [x0, x1, x2, x3, x4, x5, x6, x7, x8, x9, x10, x11, x12, x13, x14, x15] 0))) (I9 key nonce all n a0 a1 a2 a3 x0 x1 x2 x3 x4 x5 x6 x7 x8 x9 x10 x11 x12 x13 x14 x15 1 [y0, y1, y2, y3, y4, y5, y6, y7, y8, y9, y10, y11, y12, y13, y14, y15]) = some (I9 key nonce all n a0 a1 a2 a3 x0 x1 x2 x3 x4 x5 x6 x7 x8 x9 x10 x11 x12 x13 x14 x15 2 (dround [y0, y1, y2, y3, y4, y5, y6, y7, y8, y9, y10, y11, y12, y13, y14, y15])) := by kernel_rfl
theorem r9_2 (key nonce all : List UInt8) (n : UInt32) (a0 a1 a2 a3 : UInt8) (x0 x1 x2 x3 x4 x5 x6 x7 x8 x9 x10 x11 x12 x13 x14 x15 : UInt32) (y0 y1 y2 y3 y4 y5 y6 y7 y8 y9 y10 y11 y12 y13 y14 y15 : UInt32) : roundA (evC Try.prog cs1 Try.f26.ntmps (mask 26) 100 Try.prog.globals.size b9) (headA Try.prog Try.prog.globals.size (I9 key nonce all n a0 a1 a2 a3 x0 x1 x2 x3 x4 x5 x6 x7 x8 x9 x10 x11 x12 x13 x14 x15 0 (rounds [x0, x1, x2, x3, x4, x5, x6, x7, x8, x9, x10, x11, x12, x13, x14, x15] 0))) (I9 key nonce all n a0 a1 a2 a3 x0 x1 x2 x3 x4 x5 x6 x7 x8 x9 x10 x11 x12 x13 x14 x15 2 [y0, y1, y2, y3, y4, y5, y6, y7, y8, y9, y10, y11, y12, y13, y14, y15]) = some (I9 key nonce all n a0 a1 a2 a3 x0 x1 x2 x3 x4 x5 x6 x7 x8 x9 x10 x11 x12 x13 x14 x15 3 (dround [y0, y1, y2, y3, y4, y5, y6, y7, y8, y9, y10, y11, y12, y13, y14, y15])) := by kernel_rfl
theorem r9_3 (key nonce all : List UInt8) (n : UInt32) (a0 a1 a2 a3 : UInt8) (x0 x1 x2 x3 x4 x5 x6 x7 x8 x9 x10 x11 x12 x13 x14 x15 : UInt32) (y0 y1 y2 y3 y4 y5 y6 y7 y8 y9 y10 y11 y12 y13 y14 y15 : UInt32) : roundA (evC Try.prog cs1 Try.f26.ntmps (mask 26) 100 Try.prog.globals.size b9) (headA Try.prog Try.prog.globals.size (I9 key nonce all n a0 a1 a2 a3 x0 x1 x2 x3 x4 x5 x6 x7 x8 x9 x10 x11 x12 x13 x14 x15 0 (rounds [x0, x1, x2, x3, x4, x5, x6, x7, x8, x9, x10, x11, x12, x13, x14, x15] 0))) (I9 key nonce all n a0 a1 a2 a3 x0 x1 x2 x3 x4 x5 x6 x7 x8 x9 x10 x11 x12 x13 x14 x15 3 [y0, y1, y2, y3, y4, y5, y6, y7, y8, y9, y10, y11, y12, y13, y14, y15]) = some (I9 key nonce all n a0 a1 a2 a3 x0 x1 x2 x3 x4 x5 x6 x7 x8 x9 x10 x11 x12 x13 x14 x15 4 (dround [y0, y1, y2, y3, y4, y5, y6, y7, y8, y9, y10, y11, y12, y13, y14, y15])) := by kernel_rfl
theorem r9_4 (key nonce all : List UInt8) (n : UInt32) (a0 a1 a2 a3 : UInt8) (x0 x1 x2 x3 x4 x5 x6 x7 x8 x9 x10 x11 x12 x13 x14 x15 : UInt32) (y0 y1 y2 y3 y4 y5 y6 y7 y8 y9 y10 y11 y12 y13 y14 y15 : UInt32) : roundA (evC Try.prog cs1 Try.f26.ntmps (mask 26) 100 Try.prog.globals.size b9) (headA Try.prog Try.prog.globals.size (I9 key nonce all n a0 a1 a2 a3 x0 x1 x2 x3 x4 x5 x6 x7 x8 x9 x10 x11 x12 x13 x14 x15 0 (rounds [x0, x1, x2, x3, x4, x5, x6, x7, x8, x9, x10, x11, x12, x13, x14, x15] 0))) (I9 key nonce all n a0 a1 a2 a3 x0 x1 x2 x3 x4 x5 x6 x7 x8 x9 x10 x11 x12 x13 x14 x15 4 [y0, y1, y2, y3, y4, y5, y6, y7, y8, y9, y10, y11, y12, y13, y14, y15]) = some (I9 key nonce all n a0 a1 a2 a3 x0 x1 x2 x3 x4 x5 x6 x7 x8 x9 x10 x11 x12 x13 x14 x15 5 (dround [y0, y1, y2, y3, y4, y5, y6, y7, y8, y9, y10, y11, y12, y13, y14, y15])) := by kernel_rfl
theorem r9_5 (key nonce all : List UInt8) (n : UInt32) (a0 a1 a2 a3 : UInt8) (x0 x1 x2 x3 x4 x5 x6 x7 x8 x9 x10 x11 x12 x13 x14 x15 : UInt32) (y0 y1 y2 y3 y4 y5 y6 y7 y8 y9 y10 y11 y12 y13 y14 y15 : UInt32) : roundA (evC Try.prog cs1 Try.f26.ntmps (mask 26) 100 Try.prog.globals.size b9) (headA Try.prog Try.prog.globals.size (I9 key nonce all n a0 a1 a2 a3 x0 x1 x2 x3 x4 x5 x6 x7 x8 x9 x10 x11 x12 x13 x14 x15 0 (rounds [x0, x1, x2, x3, x4, x5, x6, x7, x8, x9, x10, x11, x12, x13, x14, x15] 0))) (I9 key nonce all n a0 a1 a2 a3 x0 x1 x2 x3 x4 x5 x6 x7 x8 x9 x10 x11 x12 x13 x14 x15 5 [y0, y1, y2, y3, y4, y5, y6, y7, y8, y9, y10, y11, y12, y13, y14, y15]) = some (I9 key nonce all n a0 a1 a2 a3 x0 x1 x2 x3 x4 x5 x6 x7 x8 x9 x10 x11 x12 x13 x14 x15 6 (dround [y0, y1, y2, y3, y4, y5, y6, y7, y8, y9, y10, y11, y12, y13, y14, y15])) := by kernel_rfl
theorem r9_6 (key nonce all : List UInt8) (n : UInt32) (a0 a1 a2 a3 : UInt8) (x0 x1 x2 x3 x4 x5 x6 x7 x8 x9 x10 x11 x12 x13 x14 x15 : UInt32) (y0 y1 y2 y3 y4 y5 y6 y7 y8 y9 y10 y11 y12 y13 y14 y15 : UInt32) : roundA (evC Try.prog cs1 Try.f26.ntmps (mask 26) 100 Try.prog.globals.size b9) (headA Try.prog Try.prog.globals.size (I9 key nonce all n a0 a1 a2 a3 x0 x1 x2 x3 x4 x5 x6 x7 x8 x9 x10 x11 x12 x13 x14 x15 0 (rounds [x0, x1, x2, x3, x4, x5, x6, x7, x8, x9, x10, x11, x12, x13, x14, x15] 0))) (I9 key nonce all n a0 a1 a2 a3 x0 x1 x2 x3 x4 x5 x6 x7 x8 x9 x10 x11 x12 x13 x14 x15 6 [y0, y1, y2, y3, y4, y5, y6, y7, y8, y9, y10, y11, y12, y13, y14, y15]) = some (I9 key nonce all n a0 a1 a2 a3 x0 x1 x2 x3 x4 x5 x6 x7 x8 x9 x10 x11 x12 x13 x14 x15 7 (dround [y0, y1, y2, y3, y4, y5, y6, y7, y8, y9, y10, y11, y12, y13, y14, y15])) := by kernel_rfl
theorem r9_7 (key nonce all : List UInt8) (n : UInt32) (a0 a1 a2 a3 : UInt8) (x0 x1 x2 x3 x4 x5 x6 x7 x8 x9 x10 x11 x12 x13 x14 x15 : UInt32) (y0 y1 y2 y3 y4 y5 y6 y7 y8 y9 y10 y11 y12 y13 y14 y15 : UInt32) : roundA (evC Try.prog cs1 Try.f26.ntmps (mask 26) 100 Try.prog.globals.size b9) (headA Try.prog Try.prog.globals.size (I9 key nonce all n a0 a1 a2 a3 x0 x1 x2 x3 x4 x5 x6 x7 x8 x9 x10 x11 x12 x13 x14 x15 0 (rounds [x0, x1, x2, x3, x4, x5, x6, x7, x8, x9, x10, x11, x12, x13, x14, x15] 0))) (I9 key nonce all n a0 a1 a2 a3 x0 x1 x2 x3 x4 x5 x6 x7 x8 x9 x10 x11 x12 x13 x14 x15 7 [y0, y1, y2, y3, y4, y5, y6, y7, y8, y9, y10, y11, y12, y13, y14, y15]) = some (I9 key nonce all n a0 a1 a2 a3 x0 x1 x2 x3 x4 x5 x6 x7 x8 x9 x10 x11 x12 x13 x14 x15 8 (dround [y0, y1, y2, y3, y4, y5, y6, y7, y8, y9, y10, y11, y12, y13, y14, y15])) := by kernel_rfl
theorem r9_8 (key nonce all : List UInt8) (n : UInt32) (a0 a1 a2 a3 : UInt8) (x0 x1 x2 x3 x4 x5 x6 x7 x8 x9 x10 x11 x12 x13 x14 x15 : UInt32) (y0 y1 y2 y3 y4 y5 y6 y7 y8 y9 y10 y11 y12 y13 y14 y15 : UInt32) : roundA (evC Try.prog cs1 Try.f26.ntmps (mask 26) 100 Try.prog.globals.size b9) (headA Try.prog Try.prog.globals.size (I9 key nonce all n a0 a1 a2 a3 x0 x1 x2 x3 x4 x5 x6 x7 x8 x9 x10 x11 x12 x13 x14 x15 0 (rounds [x0, x1, x2, x3, x4, x5, x6, x7, x8, x9, x10, x11, x12, x13, x14, x15] 0))) (I9 key nonce all n a0 a1 a2 a3 x0 x1 x2 x3 x4 x5 x6 x7 x8 x9 x10 x11 x12 x13 x14 x15 8 [y0, y1, y2, y3, y4, y5, y6, y7, y8, y9, y10, y11, y12, y13, y14, y15]) = some (I9 key nonce all n a0 a1 a2 a3 x0 x1 x2 x3 x4 x5 x6 x7 x8 x9 x10 x11 x12 x13 x14 x15 9 (dround [y0, y1, y2, y3, y4, y5, y6, y7, y8, y9, y10, y11, y12, y13, y14, y15])) := by kernel_rfl
theorem r9_9 (key nonce all : List UInt8) (n : UInt32) (a0 a1 a2 a3 : UInt8) (x0 x1 x2 x3 x4 x5 x6 x7 x8 x9 x10 x11 x12 x13 x14 x15 : UInt32) (y0 y1 y2 y3 y4 y5 y6 y7 y8 y9 y10 y11 y12 y13 y14 y15 : UInt32) : roundA (evC Try.prog cs1 Try.f26.ntmps (mask 26) 100 Try.prog.globals.size b9) (headA Try.prog Try.prog.globals.size (I9 key nonce all n a0 a1 a2 a3 x0 x1 x2 x3 x4 x5 x6 x7 x8 x9 x10 x11 x12 x13 x14 x15 0 (rounds [x0, x1, x2, x3, x4, x5, x6, x7, x8, x9, x10, x11, x12, x13, x14, x15] 0))) (I9 key nonce all n a0 a1 a2 a3 x0 x1 x2 x3 x4 x5 x6 x7 x8 x9 x10 x11 x12 x13 x14 x15 9 [y0, y1, y2, y3, y4, y5, y6, y7, y8, y9, y10, y11, y12, y13, y14, y15]) = some (I9 key nonce all n a0 a1 a2 a3 x0 x1 x2 x3 x4 x5 x6 x7 x8 x9 x10 x11 x12 x13 x14 x15 10 (dround [y0, y1, y2, y3, y4, y5, y6, y7, y8, y9, y10, y11, y12, y13, y14, y15])) := by kernel_rfl
theorem r9_end (key nonce all : List UInt8) (n : UInt32) (a0 a1 a2 a3 : UInt8) (x0 x1 x2 x3 x4 x5 x6 x7 x8 x9 x10 x11 x12 x13 x14 x15 : UInt32) (y0 y1 y2 y3 y4 y5 y6 y7 y8 y9 y10 y11 y12 y13 y14 y15 : UInt32) : evC Try.prog cs1 Try.f26.ntmps (mask 26) 100 Try.prog.globals.size b9 (I9 key nonce all n a0 a1 a2 a3 x0 x1 x2 x3 x4 x5 x6 x7 x8 x9 x10 x11 x12 x13 x14 x15 10 [y0, y1, y2, y3, y4, y5, y6, y7, y8, y9, y10, y11, y12, y13, y14, y15]) = some (.exit 2, J9 key nonce all n a0 a1 a2 a3 x0 x1 x2 x3 x4 x5 x6 x7 x8 x9 x10 x11 x12 x13 x14 x15 [y0, y1, y2, y3, y4, y5, y6, y7, y8, y9, y10, y11, y12, y13, y14, y15]) := by kernel_rfl
theorem s9_a (k0 k1 k2 k3 k4 k5 k6 k7 k8 k9 k10 k11 k12 k13 k14 k15 k16 k17 k18 k19 k20 k21 k22 k23 k24 k25 k26 k27 k28 k29 k30 k31 m0 m1 m2 m3 m4 m5 m6 m7 m8 m9 m10 m11 : UInt8) (n : UInt32) : evS Try.prog cs1 Try.f26.ntmps (mask 26) 100 Try.prog.globals.size ((p9.drop 0).take 7) ⟨startT [.str [k0, k1, k2, k3, k4, k5, k6, k7, k8, k9, k10, k11, k12, k13, k14, k15, k16, k17, k18, k19, k20, k21, k22, k23, k24, k25, k26, k27, k28, k29, k30, k31], .str [m0, m1, m2, m3, m4, m5, m6, m7, m8, m9, m10, m11], .u32 n] 0, [], 0⟩ = some (.normal, I9 [k0, k1, k2, k3, k4, k5, k6, k7, k8, k9, k10, k11, k12, k13, k14, k15, k16, k17, k18, k19, k20, k21, k22, k23, k24, k25, k26, k27, k28, k29, k30, k31] [m0, m1, m2, m3, m4, m5, m6, m7, m8, m9, m10, m11] (seed [k0, k1, k2, k3, k4, k5, k6, k7, k8, k9, k10, k11, k12, k13, k14, k15, k16, k17, k18, k19, k20, k21, k22, k23, k24, k25, k26, k27, k28, k29, k30, k31] [m0, m1, m2, m3, m4, m5, m6, m7, m8, m9, m10, m11] n) n n.toUInt8 (shr_u32 n 8).toUInt8 (shr_u32 n 16).toUInt8 (shr_u32 n 24).toUInt8 (word (101) (120) (112) (97)) (word (110) (100) (32) (51)) (word (50) (45) (98) (121)) (word (116) (101) (32) (107)) (word (k0) (k1) (k2) (k3)) (word (k4) (k5) (k6) (k7)) (word (k8) (k9) (k10) (k11)) (word (k12) (k13) (k14) (k15)) (word (k16) (k17) (k18) (k19)) (word (k20) (k21) (k22) (k23)) (word (k24) (k25) (k26) (k27)) (word (k28) (k29) (k30) (k31)) (word (n.toUInt8) ((shr_u32 n 8).toUInt8) ((shr_u32 n 16).toUInt8) ((shr_u32 n 24).toUInt8)) (word (m0) (m1) (m2) (m3)) (word (m4) (m5) (m6) (m7)) (word (m8) (m9) (m10) (m11)) 0 (rounds [(word (101) (120) (112) (97)), (word (110) (100) (32) (51)), (word (50) (45) (98) (121)), (word (116) (101) (32) (107)), (word (k0) (k1) (k2) (k3)), (word (k4) (k5) (k6) (k7)), (word (k8) (k9) (k10) (k11)), (word (k12) (k13) (k14) (k15)), (word (k16) (k17) (k18) (k19)), (word (k20) (k21) (k22) (k23)), (word (k24) (k25) (k26) (k27)), (word (k28) (k29) (k30) (k31)), (word (n.toUInt8) ((shr_u32 n 8).toUInt8) ((shr_u32 n 16).toUInt8) ((shr_u32 n 24).toUInt8)), (word (m0) (m1) (m2) (m3)), (word (m4) (m5) (m6) (m7)), (word (m8) (m9) (m10) (m11))] 0)) := by kernel_rfl
theorem s9_b (key nonce all : List UInt8) (n : UInt32) (a0 a1 a2 a3 : UInt8) (x0 x1 x2 x3 x4 x5 x6 x7 x8 x9 x10 x11 x12 x13 x14 x15 : UInt32) (y0 y1 y2 y3 y4 y5 y6 y7 y8 y9 y10 y11 y12 y13 y14 y15 : UInt32) : finV Try.prog Try.f26 (evS Try.prog cs1 Try.f26.ntmps (mask 26) 100 Try.prog.globals.size (p9.drop 8) (J9 key nonce all n a0 a1 a2 a3 x0 x1 x2 x3 x4 x5 x6 x7 x8 x9 x10 x11 x12 x13 x14 x15 [y0, y1, y2, y3, y4, y5, y6, y7, y8, y9, y10, y11, y12, y13, y14, y15])) = some (.str (outB [x0, x1, x2, x3, x4, x5, x6, x7, x8, x9, x10, x11, x12, x13, x14, x15] [y0, y1, y2, y3, y4, y5, y6, y7, y8, y9, y10, y11, y12, y13, y14, y15])) := by kernel_rfl
theorem step9 (key nonce all : List UInt8) (n : UInt32) (a0 a1 a2 a3 : UInt8) (x0 x1 x2 x3 x4 x5 x6 x7 x8 x9 x10 x11 x12 x13 x14 x15 : UInt32) (k : Nat) (hk : k < 10) (y : List UInt32) (hy : y.length = 16) : roundA (evC Try.prog cs1 Try.f26.ntmps (mask 26) 100 Try.prog.globals.size b9) (headA Try.prog Try.prog.globals.size (I9 key nonce all n a0 a1 a2 a3 x0 x1 x2 x3 x4 x5 x6 x7 x8 x9 x10 x11 x12 x13 x14 x15 0 (rounds [x0, x1, x2, x3, x4, x5, x6, x7, x8, x9, x10, x11, x12, x13, x14, x15] 0))) (I9 key nonce all n a0 a1 a2 a3 x0 x1 x2 x3 x4 x5 x6 x7 x8 x9 x10 x11 x12 x13 x14 x15 k y) = some (I9 key nonce all n a0 a1 a2 a3 x0 x1 x2 x3 x4 x5 x6 x7 x8 x9 x10 x11 x12 x13 x14 x15 (k + 1) (dround y)) := by
  obtain ⟨y0, y1, y2, y3, y4, y5, y6, y7, y8, y9, y10, y11, y12, y13, y14, y15, rfl⟩ := sixteen hy
  match k, hk with
  | 0, _ => exact r9_0 key nonce all n a0 a1 a2 a3 x0 x1 x2 x3 x4 x5 x6 x7 x8 x9 x10 x11 x12 x13 x14 x15 y0 y1 y2 y3 y4 y5 y6 y7 y8 y9 y10 y11 y12 y13 y14 y15
  | 1, _ => exact r9_1 key nonce all n a0 a1 a2 a3 x0 x1 x2 x3 x4 x5 x6 x7 x8 x9 x10 x11 x12 x13 x14 x15 y0 y1 y2 y3 y4 y5 y6 y7 y8 y9 y10 y11 y12 y13 y14 y15
  | 2, _ => exact r9_2 key nonce all n a0 a1 a2 a3 x0 x1 x2 x3 x4 x5 x6 x7 x8 x9 x10 x11 x12 x13 x14 x15 y0 y1 y2 y3 y4 y5 y6 y7 y8 y9 y10 y11 y12 y13 y14 y15
  | 3, _ => exact r9_3 key nonce all n a0 a1 a2 a3 x0 x1 x2 x3 x4 x5 x6 x7 x8 x9 x10 x11 x12 x13 x14 x15 y0 y1 y2 y3 y4 y5 y6 y7 y8 y9 y10 y11 y12 y13 y14 y15
  | 4, _ => exact r9_4 key nonce all n a0 a1 a2 a3 x0 x1 x2 x3 x4 x5 x6 x7 x8 x9 x10 x11 x12 x13 x14 x15 y0 y1 y2 y3 y4 y5 y6 y7 y8 y9 y10 y11 y12 y13 y14 y15
  | 5, _ => exact r9_5 key nonce all n a0 a1 a2 a3 x0 x1 x2 x3 x4 x5 x6 x7 x8 x9 x10 x11 x12 x13 x14 x15 y0 y1 y2 y3 y4 y5 y6 y7 y8 y9 y10 y11 y12 y13 y14 y15
  | 6, _ => exact r9_6 key nonce all n a0 a1 a2 a3 x0 x1 x2 x3 x4 x5 x6 x7 x8 x9 x10 x11 x12 x13 x14 x15 y0 y1 y2 y3 y4 y5 y6 y7 y8 y9 y10 y11 y12 y13 y14 y15
  | 7, _ => exact r9_7 key nonce all n a0 a1 a2 a3 x0 x1 x2 x3 x4 x5 x6 x7 x8 x9 x10 x11 x12 x13 x14 x15 y0 y1 y2 y3 y4 y5 y6 y7 y8 y9 y10 y11 y12 y13 y14 y15
  | 8, _ => exact r9_8 key nonce all n a0 a1 a2 a3 x0 x1 x2 x3 x4 x5 x6 x7 x8 x9 x10 x11 x12 x13 x14 x15 y0 y1 y2 y3 y4 y5 y6 y7 y8 y9 y10 y11 y12 y13 y14 y15
  | 9, _ => exact r9_9 key nonce all n a0 a1 a2 a3 x0 x1 x2 x3 x4 x5 x6 x7 x8 x9 x10 x11 x12 x13 x14 x15 y0 y1 y2 y3 y4 y5 y6 y7 y8 y9 y10 y11 y12 y13 y14 y15
  | k + 10, hk => omega
theorem end9 (key nonce all : List UInt8) (n : UInt32) (a0 a1 a2 a3 : UInt8) (x0 x1 x2 x3 x4 x5 x6 x7 x8 x9 x10 x11 x12 x13 x14 x15 : UInt32) (y : List UInt32) (hy : y.length = 16) : evC Try.prog cs1 Try.f26.ntmps (mask 26) 100 Try.prog.globals.size b9 (I9 key nonce all n a0 a1 a2 a3 x0 x1 x2 x3 x4 x5 x6 x7 x8 x9 x10 x11 x12 x13 x14 x15 10 y) = some (.exit 2, J9 key nonce all n a0 a1 a2 a3 x0 x1 x2 x3 x4 x5 x6 x7 x8 x9 x10 x11 x12 x13 x14 x15 y) := by
  obtain ⟨y0, y1, y2, y3, y4, y5, y6, y7, y8, y9, y10, y11, y12, y13, y14, y15, rfl⟩ := sixteen hy
  exact r9_end key nonce all n a0 a1 a2 a3 x0 x1 x2 x3 x4 x5 x6 x7 x8 x9 x10 x11 x12 x13 x14 x15 y0 y1 y2 y3 y4 y5 y6 y7 y8 y9 y10 y11 y12 y13 y14 y15
theorem p9_7 : p9[7]? = some (.block 2 (.loop b9)) := by kernel_rfl
theorem loop9 (key nonce all : List UInt8) (n : UInt32) (a0 a1 a2 a3 : UInt8) (x0 x1 x2 x3 x4 x5 x6 x7 x8 x9 x10 x11 x12 x13 x14 x15 : UInt32) : evS Try.prog cs1 Try.f26.ntmps (mask 26) 100 Try.prog.globals.size (p9.drop 7) (I9 key nonce all n a0 a1 a2 a3 x0 x1 x2 x3 x4 x5 x6 x7 x8 x9 x10 x11 x12 x13 x14 x15 0 (rounds [x0, x1, x2, x3, x4, x5, x6, x7, x8, x9, x10, x11, x12, x13, x14, x15] 0)) = evS Try.prog cs1 Try.f26.ntmps (mask 26) 100 Try.prog.globals.size (p9.drop 8) (J9 key nonce all n a0 a1 a2 a3 x0 x1 x2 x3 x4 x5 x6 x7 x8 x9 x10 x11 x12 x13 x14 x15 (rounds [x0, x1, x2, x3, x4, x5, x6, x7, x8, x9, x10, x11, x12, x13, x14, x15] 10)) :=
  evS_loop p9_7 (fun k => I9 key nonce all n a0 a1 a2 a3 x0 x1 x2 x3 x4 x5 x6 x7 x8 x9 x10 x11 x12 x13 x14 x15 k (rounds [x0, x1, x2, x3, x4, x5, x6, x7, x8, x9, x10, x11, x12, x13, x14, x15] k)) 10 (fun k hk => step9 key nonce all n a0 a1 a2 a3 x0 x1 x2 x3 x4 x5 x6 x7 x8 x9 x10 x11 x12 x13 x14 x15 k hk (rounds [x0, x1, x2, x3, x4, x5, x6, x7, x8, x9, x10, x11, x12, x13, x14, x15] k) (rounds_length _ k)) (end9 key nonce all n a0 a1 a2 a3 x0 x1 x2 x3 x4 x5 x6 x7 x8 x9 x10 x11 x12 x13 x14 x15 (rounds [x0, x1, x2, x3, x4, x5, x6, x7, x8, x9, x10, x11, x12, x13, x14, x15] 10) (rounds_length _ 10)) (by omega)
theorem fin9 (key nonce all : List UInt8) (n : UInt32) (a0 a1 a2 a3 : UInt8) (x0 x1 x2 x3 x4 x5 x6 x7 x8 x9 x10 x11 x12 x13 x14 x15 : UInt32) (y : List UInt32) (hy : y.length = 16) : finV Try.prog Try.f26 (evS Try.prog cs1 Try.f26.ntmps (mask 26) 100 Try.prog.globals.size (p9.drop 8) (J9 key nonce all n a0 a1 a2 a3 x0 x1 x2 x3 x4 x5 x6 x7 x8 x9 x10 x11 x12 x13 x14 x15 y)) = some (.str (outB [x0, x1, x2, x3, x4, x5, x6, x7, x8, x9, x10, x11, x12, x13, x14, x15] y)) := by
  obtain ⟨y0, y1, y2, y3, y4, y5, y6, y7, y8, y9, y10, y11, y12, y13, y14, y15, rfl⟩ := sixteen hy
  exact s9_b key nonce all n a0 a1 a2 a3 x0 x1 x2 x3 x4 x5 x6 x7 x8 x9 x10 x11 x12 x13 x14 x15 y0 y1 y2 y3 y4 y5 y6 y7 y8 y9 y10 y11 y12 y13 y14 y15
theorem blk9 {key nonce : List UInt8} (hk : key.length = 32) (hn : nonce.length = 12) (n : UInt32) : (run1 Try.prog cs1 (mask 26) 100 26 [.str key, .str nonce, .u32 n] [] Try.prog.globals.size).map (·.1) = some (.str (block key nonce n)) := by
  obtain ⟨k0, k1, k2, k3, k4, k5, k6, k7, k8, k9, k10, k11, k12, k13, k14, k15, k16, k17, k18, k19, k20, k21, k22, k23, k24, k25, k26, k27, k28, k29, k30, k31, rfl⟩ := thirtytwo hk
  obtain ⟨m0, m1, m2, m3, m4, m5, m6, m7, m8, m9, m10, m11, rfl⟩ := twelve hn
  refine (run1_val (fn := Try.f26) (c := bodyOf Try.f26) (by kernel_rfl) (by kernel_rfl) (by kernel_rfl)).trans ?_
  refine (congrArg (finV Try.prog Try.f26) (evS_seg (l := p9) (k := 0) (m := 7) (s9_a k0 k1 k2 k3 k4 k5 k6 k7 k8 k9 k10 k11 k12 k13 k14 k15 k16 k17 k18 k19 k20 k21 k22 k23 k24 k25 k26 k27 k28 k29 k30 k31 m0 m1 m2 m3 m4 m5 m6 m7 m8 m9 m10 m11 n))).trans ?_
  refine (congrArg (finV Try.prog Try.f26) (loop9 [k0, k1, k2, k3, k4, k5, k6, k7, k8, k9, k10, k11, k12, k13, k14, k15, k16, k17, k18, k19, k20, k21, k22, k23, k24, k25, k26, k27, k28, k29, k30, k31] [m0, m1, m2, m3, m4, m5, m6, m7, m8, m9, m10, m11] (seed [k0, k1, k2, k3, k4, k5, k6, k7, k8, k9, k10, k11, k12, k13, k14, k15, k16, k17, k18, k19, k20, k21, k22, k23, k24, k25, k26, k27, k28, k29, k30, k31] [m0, m1, m2, m3, m4, m5, m6, m7, m8, m9, m10, m11] n) n n.toUInt8 (shr_u32 n 8).toUInt8 (shr_u32 n 16).toUInt8 (shr_u32 n 24).toUInt8 (word (101) (120) (112) (97)) (word (110) (100) (32) (51)) (word (50) (45) (98) (121)) (word (116) (101) (32) (107)) (word (k0) (k1) (k2) (k3)) (word (k4) (k5) (k6) (k7)) (word (k8) (k9) (k10) (k11)) (word (k12) (k13) (k14) (k15)) (word (k16) (k17) (k18) (k19)) (word (k20) (k21) (k22) (k23)) (word (k24) (k25) (k26) (k27)) (word (k28) (k29) (k30) (k31)) (word (n.toUInt8) ((shr_u32 n 8).toUInt8) ((shr_u32 n 16).toUInt8) ((shr_u32 n 24).toUInt8)) (word (m0) (m1) (m2) (m3)) (word (m4) (m5) (m6) (m7)) (word (m8) (m9) (m10) (m11)))).trans ?_
  exact fin9 [k0, k1, k2, k3, k4, k5, k6, k7, k8, k9, k10, k11, k12, k13, k14, k15, k16, k17, k18, k19, k20, k21, k22, k23, k24, k25, k26, k27, k28, k29, k30, k31] [m0, m1, m2, m3, m4, m5, m6, m7, m8, m9, m10, m11] (seed [k0, k1, k2, k3, k4, k5, k6, k7, k8, k9, k10, k11, k12, k13, k14, k15, k16, k17, k18, k19, k20, k21, k22, k23, k24, k25, k26, k27, k28, k29, k30, k31] [m0, m1, m2, m3, m4, m5, m6, m7, m8, m9, m10, m11] n) n n.toUInt8 (shr_u32 n 8).toUInt8 (shr_u32 n 16).toUInt8 (shr_u32 n 24).toUInt8 (word (101) (120) (112) (97)) (word (110) (100) (32) (51)) (word (50) (45) (98) (121)) (word (116) (101) (32) (107)) (word (k0) (k1) (k2) (k3)) (word (k4) (k5) (k6) (k7)) (word (k8) (k9) (k10) (k11)) (word (k12) (k13) (k14) (k15)) (word (k16) (k17) (k18) (k19)) (word (k20) (k21) (k22) (k23)) (word (k24) (k25) (k26) (k27)) (word (k28) (k29) (k30) (k31)) (word (n.toUInt8) ((shr_u32 n 8).toUInt8) ((shr_u32 n 16).toUInt8) ((shr_u32 n 24).toUInt8)) (word (m0) (m1) (m2) (m3)) (word (m4) (m5) (m6) (m7)) (word (m8) (m9) (m10) (m11)) (rounds [(word (101) (120) (112) (97)), (word (110) (100) (32) (51)), (word (50) (45) (98) (121)), (word (116) (101) (32) (107)), (word (k0) (k1) (k2) (k3)), (word (k4) (k5) (k6) (k7)), (word (k8) (k9) (k10) (k11)), (word (k12) (k13) (k14) (k15)), (word (k16) (k17) (k18) (k19)), (word (k20) (k21) (k22) (k23)), (word (k24) (k25) (k26) (k27)), (word (k28) (k29) (k30) (k31)), (word (n.toUInt8) ((shr_u32 n 8).toUInt8) ((shr_u32 n 16).toUInt8) ((shr_u32 n 24).toUInt8)), (word (m0) (m1) (m2) (m3)), (word (m4) (m5) (m6) (m7)), (word (m8) (m9) (m10) (m11))] 10) (rounds_length _ 10)

end Go.Proofs.Ytifohjjmbohhnaa.Cha

/- The program's block. -/
namespace Go.Proofs.Ytifohjjmbohhnaa.Cha
set_option linter.unusedVariables false
set_option linter.unusedSimpArgs false
open Go Go.Eng Go.Cha
set_option maxRecDepth 100000
noncomputable def p13 : List Code := pieces (bodyOf Try.f30)
noncomputable def b13 : Code := loopOf (p13.getD 7 .skip)

def I13 (key nonce all : List UInt8) (n : UInt32) (a0 a1 a2 a3 : UInt8) (x0 x1 x2 x3 x4 x5 x6 x7 x8 x9 x10 x11 x12 x13 x14 x15 : UInt32) (k : Nat) (y : List UInt32) : SA := ⟨[(0, .str key), (1, .str nonce), (2, .u32 n), (6, .ptr 0 0), (7, .ptr 8 0), (8, .str all), (34, .int .i64 64), (35, .int .i64 64), (36, .bool false), (10, .ptr 208 0), (55, .int .i64 k)], [(0, .cells false (List.replicate 64 (.u8 0))), (8, .cells false ([x0, x1, x2, x3, x4, x5, x6, x7, x8, x9, x10, x11, x12, x13, x14, x15].map .u32)), (120, .cells false [.u8 a0, .u8 a1, .u8 a2, .u8 a3]), (208, .cells false (y.map .u32))], 232⟩
def J13 (key nonce all : List UInt8) (n : UInt32) (a0 a1 a2 a3 : UInt8) (x0 x1 x2 x3 x4 x5 x6 x7 x8 x9 x10 x11 x12 x13 x14 x15 : UInt32) (y : List UInt32) : SA := ⟨[(0, .str key), (1, .str nonce), (2, .u32 n), (6, .ptr 0 0), (7, .ptr 8 0), (8, .str all), (34, .int .i64 64), (35, .int .i64 64), (36, .bool false), (10, .ptr 208 0), (55, .int .i64 10), (56, .bool false)], [(0, .cells false (List.replicate 64 (.u8 0))), (8, .cells false ([x0, x1, x2, x3, x4, x5, x6, x7, x8, x9, x10, x11, x12, x13, x14, x15].map .u32)), (120, .cells false [.u8 a0, .u8 a1, .u8 a2, .u8 a3]), (208, .cells false (y.map .u32))], 240⟩
theorem r13_0 (key nonce all : List UInt8) (n : UInt32) (a0 a1 a2 a3 : UInt8) (x0 x1 x2 x3 x4 x5 x6 x7 x8 x9 x10 x11 x12 x13 x14 x15 : UInt32) (y0 y1 y2 y3 y4 y5 y6 y7 y8 y9 y10 y11 y12 y13 y14 y15 : UInt32) : roundA (evC Try.prog cs1 Try.f30.ntmps (mask 30) 100 Try.prog.globals.size b13) (headA Try.prog Try.prog.globals.size (I13 key nonce all n a0 a1 a2 a3 x0 x1 x2 x3 x4 x5 x6 x7 x8 x9 x10 x11 x12 x13 x14 x15 0 (rounds [x0, x1, x2, x3, x4, x5, x6, x7, x8, x9, x10, x11, x12, x13, x14, x15] 0))) (I13 key nonce all n a0 a1 a2 a3 x0 x1 x2 x3 x4 x5 x6 x7 x8 x9 x10 x11 x12 x13 x14 x15 0 [y0, y1, y2, y3, y4, y5, y6, y7, y8, y9, y10, y11, y12, y13, y14, y15]) = some (I13 key nonce all n a0 a1 a2 a3 x0 x1 x2 x3 x4 x5 x6 x7 x8 x9 x10 x11 x12 x13 x14 x15 1 (dround [y0, y1, y2, y3, y4, y5, y6, y7, y8, y9, y10, y11, y12, y13, y14, y15])) := by kernel_rfl
theorem r13_1 (key nonce all : List UInt8) (n : UInt32) (a0 a1 a2 a3 : UInt8) (x0 x1 x2 x3 x4 x5 x6 x7 x8 x9 x10 x11 x12 x13 x14 x15 : UInt32) (y0 y1 y2 y3 y4 y5 y6 y7 y8 y9 y10 y11 y12 y13 y14 y15 : UInt32) : roundA (evC Try.prog cs1 Try.f30.ntmps (mask 30) 100 Try.prog.globals.size b13) (headA Try.prog Try.prog.globals.size (I13 key nonce all n a0 a1 a2 a3 x0 x1 x2 x3 x4 x5 x6 x7 x8 x9 x10 x11 x12 x13 x14 x15 0 (rounds [x0, x1, x2, x3, x4, x5, x6, x7, x8, x9, x10, x11, x12, x13, x14, x15] 0))) (I13 key nonce all n a0 a1 a2 a3 x0 x1 x2 x3 x4 x5 x6 x7 x8 x9 x10 x11 x12 x13 x14 x15 1 [y0, y1, y2, y3, y4, y5, y6, y7, y8, y9, y10, y11, y12, y13, y14, y15]) = some (I13 key nonce all n a0 a1 a2 a3 x0 x1 x2 x3 x4 x5 x6 x7 x8 x9 x10 x11 x12 x13 x14 x15 2 (dround [y0, y1, y2, y3, y4, y5, y6, y7, y8, y9, y10, y11, y12, y13, y14, y15])) := by kernel_rfl
theorem r13_2 (key nonce all : List UInt8) (n : UInt32) (a0 a1 a2 a3 : UInt8) (x0 x1 x2 x3 x4 x5 x6 x7 x8 x9 x10 x11 x12 x13 x14 x15 : UInt32) (y0 y1 y2 y3 y4 y5 y6 y7 y8 y9 y10 y11 y12 y13 y14 y15 : UInt32) : roundA (evC Try.prog cs1 Try.f30.ntmps (mask 30) 100 Try.prog.globals.size b13) (headA Try.prog Try.prog.globals.size (I13 key nonce all n a0 a1 a2 a3 x0 x1 x2 x3 x4 x5 x6 x7 x8 x9 x10 x11 x12 x13 x14 x15 0 (rounds [x0, x1, x2, x3, x4, x5, x6, x7, x8, x9, x10, x11, x12, x13, x14, x15] 0))) (I13 key nonce all n a0 a1 a2 a3 x0 x1 x2 x3 x4 x5 x6 x7 x8 x9 x10 x11 x12 x13 x14 x15 2 [y0, y1, y2, y3, y4, y5, y6, y7, y8, y9, y10, y11, y12, y13, y14, y15]) = some (I13 key nonce all n a0 a1 a2 a3 x0 x1 x2 x3 x4 x5 x6 x7 x8 x9 x10 x11 x12 x13 x14 x15 3 (dround [y0, y1, y2, y3, y4, y5, y6, y7, y8, y9, y10, y11, y12, y13, y14, y15])) := by kernel_rfl
theorem r13_3 (key nonce all : List UInt8) (n : UInt32) (a0 a1 a2 a3 : UInt8) (x0 x1 x2 x3 x4 x5 x6 x7 x8 x9 x10 x11 x12 x13 x14 x15 : UInt32) (y0 y1 y2 y3 y4 y5 y6 y7 y8 y9 y10 y11 y12 y13 y14 y15 : UInt32) : roundA (evC Try.prog cs1 Try.f30.ntmps (mask 30) 100 Try.prog.globals.size b13) (headA Try.prog Try.prog.globals.size (I13 key nonce all n a0 a1 a2 a3 x0 x1 x2 x3 x4 x5 x6 x7 x8 x9 x10 x11 x12 x13 x14 x15 0 (rounds [x0, x1, x2, x3, x4, x5, x6, x7, x8, x9, x10, x11, x12, x13, x14, x15] 0))) (I13 key nonce all n a0 a1 a2 a3 x0 x1 x2 x3 x4 x5 x6 x7 x8 x9 x10 x11 x12 x13 x14 x15 3 [y0, y1, y2, y3, y4, y5, y6, y7, y8, y9, y10, y11, y12, y13, y14, y15]) = some (I13 key nonce all n a0 a1 a2 a3 x0 x1 x2 x3 x4 x5 x6 x7 x8 x9 x10 x11 x12 x13 x14 x15 4 (dround [y0, y1, y2, y3, y4, y5, y6, y7, y8, y9, y10, y11, y12, y13, y14, y15])) := by kernel_rfl
theorem r13_4 (key nonce all : List UInt8) (n : UInt32) (a0 a1 a2 a3 : UInt8) (x0 x1 x2 x3 x4 x5 x6 x7 x8 x9 x10 x11 x12 x13 x14 x15 : UInt32) (y0 y1 y2 y3 y4 y5 y6 y7 y8 y9 y10 y11 y12 y13 y14 y15 : UInt32) : roundA (evC Try.prog cs1 Try.f30.ntmps (mask 30) 100 Try.prog.globals.size b13) (headA Try.prog Try.prog.globals.size (I13 key nonce all n a0 a1 a2 a3 x0 x1 x2 x3 x4 x5 x6 x7 x8 x9 x10 x11 x12 x13 x14 x15 0 (rounds [x0, x1, x2, x3, x4, x5, x6, x7, x8, x9, x10, x11, x12, x13, x14, x15] 0))) (I13 key nonce all n a0 a1 a2 a3 x0 x1 x2 x3 x4 x5 x6 x7 x8 x9 x10 x11 x12 x13 x14 x15 4 [y0, y1, y2, y3, y4, y5, y6, y7, y8, y9, y10, y11, y12, y13, y14, y15]) = some (I13 key nonce all n a0 a1 a2 a3 x0 x1 x2 x3 x4 x5 x6 x7 x8 x9 x10 x11 x12 x13 x14 x15 5 (dround [y0, y1, y2, y3, y4, y5, y6, y7, y8, y9, y10, y11, y12, y13, y14, y15])) := by kernel_rfl
theorem r13_5 (key nonce all : List UInt8) (n : UInt32) (a0 a1 a2 a3 : UInt8) (x0 x1 x2 x3 x4 x5 x6 x7 x8 x9 x10 x11 x12 x13 x14 x15 : UInt32) (y0 y1 y2 y3 y4 y5 y6 y7 y8 y9 y10 y11 y12 y13 y14 y15 : UInt32) : roundA (evC Try.prog cs1 Try.f30.ntmps (mask 30) 100 Try.prog.globals.size b13) (headA Try.prog Try.prog.globals.size (I13 key nonce all n a0 a1 a2 a3 x0 x1 x2 x3 x4 x5 x6 x7 x8 x9 x10 x11 x12 x13 x14 x15 0 (rounds [x0, x1, x2, x3, x4, x5, x6, x7, x8, x9, x10, x11, x12, x13, x14, x15] 0))) (I13 key nonce all n a0 a1 a2 a3 x0 x1 x2 x3 x4 x5 x6 x7 x8 x9 x10 x11 x12 x13 x14 x15 5 [y0, y1, y2, y3, y4, y5, y6, y7, y8, y9, y10, y11, y12, y13, y14, y15]) = some (I13 key nonce all n a0 a1 a2 a3 x0 x1 x2 x3 x4 x5 x6 x7 x8 x9 x10 x11 x12 x13 x14 x15 6 (dround [y0, y1, y2, y3, y4, y5, y6, y7, y8, y9, y10, y11, y12, y13, y14, y15])) := by kernel_rfl
theorem r13_6 (key nonce all : List UInt8) (n : UInt32) (a0 a1 a2 a3 : UInt8) (x0 x1 x2 x3 x4 x5 x6 x7 x8 x9 x10 x11 x12 x13 x14 x15 : UInt32) (y0 y1 y2 y3 y4 y5 y6 y7 y8 y9 y10 y11 y12 y13 y14 y15 : UInt32) : roundA (evC Try.prog cs1 Try.f30.ntmps (mask 30) 100 Try.prog.globals.size b13) (headA Try.prog Try.prog.globals.size (I13 key nonce all n a0 a1 a2 a3 x0 x1 x2 x3 x4 x5 x6 x7 x8 x9 x10 x11 x12 x13 x14 x15 0 (rounds [x0, x1, x2, x3, x4, x5, x6, x7, x8, x9, x10, x11, x12, x13, x14, x15] 0))) (I13 key nonce all n a0 a1 a2 a3 x0 x1 x2 x3 x4 x5 x6 x7 x8 x9 x10 x11 x12 x13 x14 x15 6 [y0, y1, y2, y3, y4, y5, y6, y7, y8, y9, y10, y11, y12, y13, y14, y15]) = some (I13 key nonce all n a0 a1 a2 a3 x0 x1 x2 x3 x4 x5 x6 x7 x8 x9 x10 x11 x12 x13 x14 x15 7 (dround [y0, y1, y2, y3, y4, y5, y6, y7, y8, y9, y10, y11, y12, y13, y14, y15])) := by kernel_rfl
theorem r13_7 (key nonce all : List UInt8) (n : UInt32) (a0 a1 a2 a3 : UInt8) (x0 x1 x2 x3 x4 x5 x6 x7 x8 x9 x10 x11 x12 x13 x14 x15 : UInt32) (y0 y1 y2 y3 y4 y5 y6 y7 y8 y9 y10 y11 y12 y13 y14 y15 : UInt32) : roundA (evC Try.prog cs1 Try.f30.ntmps (mask 30) 100 Try.prog.globals.size b13) (headA Try.prog Try.prog.globals.size (I13 key nonce all n a0 a1 a2 a3 x0 x1 x2 x3 x4 x5 x6 x7 x8 x9 x10 x11 x12 x13 x14 x15 0 (rounds [x0, x1, x2, x3, x4, x5, x6, x7, x8, x9, x10, x11, x12, x13, x14, x15] 0))) (I13 key nonce all n a0 a1 a2 a3 x0 x1 x2 x3 x4 x5 x6 x7 x8 x9 x10 x11 x12 x13 x14 x15 7 [y0, y1, y2, y3, y4, y5, y6, y7, y8, y9, y10, y11, y12, y13, y14, y15]) = some (I13 key nonce all n a0 a1 a2 a3 x0 x1 x2 x3 x4 x5 x6 x7 x8 x9 x10 x11 x12 x13 x14 x15 8 (dround [y0, y1, y2, y3, y4, y5, y6, y7, y8, y9, y10, y11, y12, y13, y14, y15])) := by kernel_rfl
theorem r13_8 (key nonce all : List UInt8) (n : UInt32) (a0 a1 a2 a3 : UInt8) (x0 x1 x2 x3 x4 x5 x6 x7 x8 x9 x10 x11 x12 x13 x14 x15 : UInt32) (y0 y1 y2 y3 y4 y5 y6 y7 y8 y9 y10 y11 y12 y13 y14 y15 : UInt32) : roundA (evC Try.prog cs1 Try.f30.ntmps (mask 30) 100 Try.prog.globals.size b13) (headA Try.prog Try.prog.globals.size (I13 key nonce all n a0 a1 a2 a3 x0 x1 x2 x3 x4 x5 x6 x7 x8 x9 x10 x11 x12 x13 x14 x15 0 (rounds [x0, x1, x2, x3, x4, x5, x6, x7, x8, x9, x10, x11, x12, x13, x14, x15] 0))) (I13 key nonce all n a0 a1 a2 a3 x0 x1 x2 x3 x4 x5 x6 x7 x8 x9 x10 x11 x12 x13 x14 x15 8 [y0, y1, y2, y3, y4, y5, y6, y7, y8, y9, y10, y11, y12, y13, y14, y15]) = some (I13 key nonce all n a0 a1 a2 a3 x0 x1 x2 x3 x4 x5 x6 x7 x8 x9 x10 x11 x12 x13 x14 x15 9 (dround [y0, y1, y2, y3, y4, y5, y6, y7, y8, y9, y10, y11, y12, y13, y14, y15])) := by kernel_rfl
theorem r13_9 (key nonce all : List UInt8) (n : UInt32) (a0 a1 a2 a3 : UInt8) (x0 x1 x2 x3 x4 x5 x6 x7 x8 x9 x10 x11 x12 x13 x14 x15 : UInt32) (y0 y1 y2 y3 y4 y5 y6 y7 y8 y9 y10 y11 y12 y13 y14 y15 : UInt32) : roundA (evC Try.prog cs1 Try.f30.ntmps (mask 30) 100 Try.prog.globals.size b13) (headA Try.prog Try.prog.globals.size (I13 key nonce all n a0 a1 a2 a3 x0 x1 x2 x3 x4 x5 x6 x7 x8 x9 x10 x11 x12 x13 x14 x15 0 (rounds [x0, x1, x2, x3, x4, x5, x6, x7, x8, x9, x10, x11, x12, x13, x14, x15] 0))) (I13 key nonce all n a0 a1 a2 a3 x0 x1 x2 x3 x4 x5 x6 x7 x8 x9 x10 x11 x12 x13 x14 x15 9 [y0, y1, y2, y3, y4, y5, y6, y7, y8, y9, y10, y11, y12, y13, y14, y15]) = some (I13 key nonce all n a0 a1 a2 a3 x0 x1 x2 x3 x4 x5 x6 x7 x8 x9 x10 x11 x12 x13 x14 x15 10 (dround [y0, y1, y2, y3, y4, y5, y6, y7, y8, y9, y10, y11, y12, y13, y14, y15])) := by kernel_rfl
theorem r13_end (key nonce all : List UInt8) (n : UInt32) (a0 a1 a2 a3 : UInt8) (x0 x1 x2 x3 x4 x5 x6 x7 x8 x9 x10 x11 x12 x13 x14 x15 : UInt32) (y0 y1 y2 y3 y4 y5 y6 y7 y8 y9 y10 y11 y12 y13 y14 y15 : UInt32) : evC Try.prog cs1 Try.f30.ntmps (mask 30) 100 Try.prog.globals.size b13 (I13 key nonce all n a0 a1 a2 a3 x0 x1 x2 x3 x4 x5 x6 x7 x8 x9 x10 x11 x12 x13 x14 x15 10 [y0, y1, y2, y3, y4, y5, y6, y7, y8, y9, y10, y11, y12, y13, y14, y15]) = some (.exit 2, J13 key nonce all n a0 a1 a2 a3 x0 x1 x2 x3 x4 x5 x6 x7 x8 x9 x10 x11 x12 x13 x14 x15 [y0, y1, y2, y3, y4, y5, y6, y7, y8, y9, y10, y11, y12, y13, y14, y15]) := by kernel_rfl
theorem s13_a (k0 k1 k2 k3 k4 k5 k6 k7 k8 k9 k10 k11 k12 k13 k14 k15 k16 k17 k18 k19 k20 k21 k22 k23 k24 k25 k26 k27 k28 k29 k30 k31 m0 m1 m2 m3 m4 m5 m6 m7 m8 m9 m10 m11 : UInt8) (n : UInt32) : evS Try.prog cs1 Try.f30.ntmps (mask 30) 100 Try.prog.globals.size ((p13.drop 0).take 7) ⟨startT [.str [k0, k1, k2, k3, k4, k5, k6, k7, k8, k9, k10, k11, k12, k13, k14, k15, k16, k17, k18, k19, k20, k21, k22, k23, k24, k25, k26, k27, k28, k29, k30, k31], .str [m0, m1, m2, m3, m4, m5, m6, m7, m8, m9, m10, m11], .u32 n] 0, [], 0⟩ = some (.normal, I13 [k0, k1, k2, k3, k4, k5, k6, k7, k8, k9, k10, k11, k12, k13, k14, k15, k16, k17, k18, k19, k20, k21, k22, k23, k24, k25, k26, k27, k28, k29, k30, k31] [m0, m1, m2, m3, m4, m5, m6, m7, m8, m9, m10, m11] (seed [k0, k1, k2, k3, k4, k5, k6, k7, k8, k9, k10, k11, k12, k13, k14, k15, k16, k17, k18, k19, k20, k21, k22, k23, k24, k25, k26, k27, k28, k29, k30, k31] [m0, m1, m2, m3, m4, m5, m6, m7, m8, m9, m10, m11] n) n n.toUInt8 (shr_u32 n 8).toUInt8 (shr_u32 n 16).toUInt8 (shr_u32 n 24).toUInt8 (wordP (101) (120) (112) (97)) (wordP (110) (100) (32) (51)) (wordP (50) (45) (98) (121)) (wordP (116) (101) (32) (107)) (wordP (k0) (k1) (k2) (k3)) (wordP (k4) (k5) (k6) (k7)) (wordP (k8) (k9) (k10) (k11)) (wordP (k12) (k13) (k14) (k15)) (wordP (k16) (k17) (k18) (k19)) (wordP (k20) (k21) (k22) (k23)) (wordP (k24) (k25) (k26) (k27)) (wordP (k28) (k29) (k30) (k31)) (wordP (n.toUInt8) ((shr_u32 n 8).toUInt8) ((shr_u32 n 16).toUInt8) ((shr_u32 n 24).toUInt8)) (wordP (m0) (m1) (m2) (m3)) (wordP (m4) (m5) (m6) (m7)) (wordP (m8) (m9) (m10) (m11)) 0 (rounds [(wordP (101) (120) (112) (97)), (wordP (110) (100) (32) (51)), (wordP (50) (45) (98) (121)), (wordP (116) (101) (32) (107)), (wordP (k0) (k1) (k2) (k3)), (wordP (k4) (k5) (k6) (k7)), (wordP (k8) (k9) (k10) (k11)), (wordP (k12) (k13) (k14) (k15)), (wordP (k16) (k17) (k18) (k19)), (wordP (k20) (k21) (k22) (k23)), (wordP (k24) (k25) (k26) (k27)), (wordP (k28) (k29) (k30) (k31)), (wordP (n.toUInt8) ((shr_u32 n 8).toUInt8) ((shr_u32 n 16).toUInt8) ((shr_u32 n 24).toUInt8)), (wordP (m0) (m1) (m2) (m3)), (wordP (m4) (m5) (m6) (m7)), (wordP (m8) (m9) (m10) (m11))] 0)) := by kernel_rfl
theorem s13_b (key nonce all : List UInt8) (n : UInt32) (a0 a1 a2 a3 : UInt8) (x0 x1 x2 x3 x4 x5 x6 x7 x8 x9 x10 x11 x12 x13 x14 x15 : UInt32) (y0 y1 y2 y3 y4 y5 y6 y7 y8 y9 y10 y11 y12 y13 y14 y15 : UInt32) : finV Try.prog Try.f30 (evS Try.prog cs1 Try.f30.ntmps (mask 30) 100 Try.prog.globals.size (p13.drop 8) (J13 key nonce all n a0 a1 a2 a3 x0 x1 x2 x3 x4 x5 x6 x7 x8 x9 x10 x11 x12 x13 x14 x15 [y0, y1, y2, y3, y4, y5, y6, y7, y8, y9, y10, y11, y12, y13, y14, y15])) = some (bytesV (outB [x0, x1, x2, x3, x4, x5, x6, x7, x8, x9, x10, x11, x12, x13, x14, x15] [y0, y1, y2, y3, y4, y5, y6, y7, y8, y9, y10, y11, y12, y13, y14, y15])) := by kernel_rfl
theorem step13 (key nonce all : List UInt8) (n : UInt32) (a0 a1 a2 a3 : UInt8) (x0 x1 x2 x3 x4 x5 x6 x7 x8 x9 x10 x11 x12 x13 x14 x15 : UInt32) (k : Nat) (hk : k < 10) (y : List UInt32) (hy : y.length = 16) : roundA (evC Try.prog cs1 Try.f30.ntmps (mask 30) 100 Try.prog.globals.size b13) (headA Try.prog Try.prog.globals.size (I13 key nonce all n a0 a1 a2 a3 x0 x1 x2 x3 x4 x5 x6 x7 x8 x9 x10 x11 x12 x13 x14 x15 0 (rounds [x0, x1, x2, x3, x4, x5, x6, x7, x8, x9, x10, x11, x12, x13, x14, x15] 0))) (I13 key nonce all n a0 a1 a2 a3 x0 x1 x2 x3 x4 x5 x6 x7 x8 x9 x10 x11 x12 x13 x14 x15 k y) = some (I13 key nonce all n a0 a1 a2 a3 x0 x1 x2 x3 x4 x5 x6 x7 x8 x9 x10 x11 x12 x13 x14 x15 (k + 1) (dround y)) := by
  obtain ⟨y0, y1, y2, y3, y4, y5, y6, y7, y8, y9, y10, y11, y12, y13, y14, y15, rfl⟩ := sixteen hy
  match k, hk with
  | 0, _ => exact r13_0 key nonce all n a0 a1 a2 a3 x0 x1 x2 x3 x4 x5 x6 x7 x8 x9 x10 x11 x12 x13 x14 x15 y0 y1 y2 y3 y4 y5 y6 y7 y8 y9 y10 y11 y12 y13 y14 y15
  | 1, _ => exact r13_1 key nonce all n a0 a1 a2 a3 x0 x1 x2 x3 x4 x5 x6 x7 x8 x9 x10 x11 x12 x13 x14 x15 y0 y1 y2 y3 y4 y5 y6 y7 y8 y9 y10 y11 y12 y13 y14 y15
  | 2, _ => exact r13_2 key nonce all n a0 a1 a2 a3 x0 x1 x2 x3 x4 x5 x6 x7 x8 x9 x10 x11 x12 x13 x14 x15 y0 y1 y2 y3 y4 y5 y6 y7 y8 y9 y10 y11 y12 y13 y14 y15
  | 3, _ => exact r13_3 key nonce all n a0 a1 a2 a3 x0 x1 x2 x3 x4 x5 x6 x7 x8 x9 x10 x11 x12 x13 x14 x15 y0 y1 y2 y3 y4 y5 y6 y7 y8 y9 y10 y11 y12 y13 y14 y15
  | 4, _ => exact r13_4 key nonce all n a0 a1 a2 a3 x0 x1 x2 x3 x4 x5 x6 x7 x8 x9 x10 x11 x12 x13 x14 x15 y0 y1 y2 y3 y4 y5 y6 y7 y8 y9 y10 y11 y12 y13 y14 y15
  | 5, _ => exact r13_5 key nonce all n a0 a1 a2 a3 x0 x1 x2 x3 x4 x5 x6 x7 x8 x9 x10 x11 x12 x13 x14 x15 y0 y1 y2 y3 y4 y5 y6 y7 y8 y9 y10 y11 y12 y13 y14 y15
  | 6, _ => exact r13_6 key nonce all n a0 a1 a2 a3 x0 x1 x2 x3 x4 x5 x6 x7 x8 x9 x10 x11 x12 x13 x14 x15 y0 y1 y2 y3 y4 y5 y6 y7 y8 y9 y10 y11 y12 y13 y14 y15
  | 7, _ => exact r13_7 key nonce all n a0 a1 a2 a3 x0 x1 x2 x3 x4 x5 x6 x7 x8 x9 x10 x11 x12 x13 x14 x15 y0 y1 y2 y3 y4 y5 y6 y7 y8 y9 y10 y11 y12 y13 y14 y15
  | 8, _ => exact r13_8 key nonce all n a0 a1 a2 a3 x0 x1 x2 x3 x4 x5 x6 x7 x8 x9 x10 x11 x12 x13 x14 x15 y0 y1 y2 y3 y4 y5 y6 y7 y8 y9 y10 y11 y12 y13 y14 y15
  | 9, _ => exact r13_9 key nonce all n a0 a1 a2 a3 x0 x1 x2 x3 x4 x5 x6 x7 x8 x9 x10 x11 x12 x13 x14 x15 y0 y1 y2 y3 y4 y5 y6 y7 y8 y9 y10 y11 y12 y13 y14 y15
  | k + 10, hk => omega
theorem end13 (key nonce all : List UInt8) (n : UInt32) (a0 a1 a2 a3 : UInt8) (x0 x1 x2 x3 x4 x5 x6 x7 x8 x9 x10 x11 x12 x13 x14 x15 : UInt32) (y : List UInt32) (hy : y.length = 16) : evC Try.prog cs1 Try.f30.ntmps (mask 30) 100 Try.prog.globals.size b13 (I13 key nonce all n a0 a1 a2 a3 x0 x1 x2 x3 x4 x5 x6 x7 x8 x9 x10 x11 x12 x13 x14 x15 10 y) = some (.exit 2, J13 key nonce all n a0 a1 a2 a3 x0 x1 x2 x3 x4 x5 x6 x7 x8 x9 x10 x11 x12 x13 x14 x15 y) := by
  obtain ⟨y0, y1, y2, y3, y4, y5, y6, y7, y8, y9, y10, y11, y12, y13, y14, y15, rfl⟩ := sixteen hy
  exact r13_end key nonce all n a0 a1 a2 a3 x0 x1 x2 x3 x4 x5 x6 x7 x8 x9 x10 x11 x12 x13 x14 x15 y0 y1 y2 y3 y4 y5 y6 y7 y8 y9 y10 y11 y12 y13 y14 y15
theorem p13_7 : p13[7]? = some (.block 2 (.loop b13)) := by kernel_rfl
theorem loop13 (key nonce all : List UInt8) (n : UInt32) (a0 a1 a2 a3 : UInt8) (x0 x1 x2 x3 x4 x5 x6 x7 x8 x9 x10 x11 x12 x13 x14 x15 : UInt32) : evS Try.prog cs1 Try.f30.ntmps (mask 30) 100 Try.prog.globals.size (p13.drop 7) (I13 key nonce all n a0 a1 a2 a3 x0 x1 x2 x3 x4 x5 x6 x7 x8 x9 x10 x11 x12 x13 x14 x15 0 (rounds [x0, x1, x2, x3, x4, x5, x6, x7, x8, x9, x10, x11, x12, x13, x14, x15] 0)) = evS Try.prog cs1 Try.f30.ntmps (mask 30) 100 Try.prog.globals.size (p13.drop 8) (J13 key nonce all n a0 a1 a2 a3 x0 x1 x2 x3 x4 x5 x6 x7 x8 x9 x10 x11 x12 x13 x14 x15 (rounds [x0, x1, x2, x3, x4, x5, x6, x7, x8, x9, x10, x11, x12, x13, x14, x15] 10)) :=
  evS_loop p13_7 (fun k => I13 key nonce all n a0 a1 a2 a3 x0 x1 x2 x3 x4 x5 x6 x7 x8 x9 x10 x11 x12 x13 x14 x15 k (rounds [x0, x1, x2, x3, x4, x5, x6, x7, x8, x9, x10, x11, x12, x13, x14, x15] k)) 10 (fun k hk => step13 key nonce all n a0 a1 a2 a3 x0 x1 x2 x3 x4 x5 x6 x7 x8 x9 x10 x11 x12 x13 x14 x15 k hk (rounds [x0, x1, x2, x3, x4, x5, x6, x7, x8, x9, x10, x11, x12, x13, x14, x15] k) (rounds_length _ k)) (end13 key nonce all n a0 a1 a2 a3 x0 x1 x2 x3 x4 x5 x6 x7 x8 x9 x10 x11 x12 x13 x14 x15 (rounds [x0, x1, x2, x3, x4, x5, x6, x7, x8, x9, x10, x11, x12, x13, x14, x15] 10) (rounds_length _ 10)) (by omega)
theorem fin13 (key nonce all : List UInt8) (n : UInt32) (a0 a1 a2 a3 : UInt8) (x0 x1 x2 x3 x4 x5 x6 x7 x8 x9 x10 x11 x12 x13 x14 x15 : UInt32) (y : List UInt32) (hy : y.length = 16) : finV Try.prog Try.f30 (evS Try.prog cs1 Try.f30.ntmps (mask 30) 100 Try.prog.globals.size (p13.drop 8) (J13 key nonce all n a0 a1 a2 a3 x0 x1 x2 x3 x4 x5 x6 x7 x8 x9 x10 x11 x12 x13 x14 x15 y)) = some (bytesV (outB [x0, x1, x2, x3, x4, x5, x6, x7, x8, x9, x10, x11, x12, x13, x14, x15] y)) := by
  obtain ⟨y0, y1, y2, y3, y4, y5, y6, y7, y8, y9, y10, y11, y12, y13, y14, y15, rfl⟩ := sixteen hy
  exact s13_b key nonce all n a0 a1 a2 a3 x0 x1 x2 x3 x4 x5 x6 x7 x8 x9 x10 x11 x12 x13 x14 x15 y0 y1 y2 y3 y4 y5 y6 y7 y8 y9 y10 y11 y12 y13 y14 y15
theorem blk13 {key nonce : List UInt8} (hk : key.length = 32) (hn : nonce.length = 12) (n : UInt32) : (run1 Try.prog cs1 (mask 30) 100 30 [.str key, .str nonce, .u32 n] [] Try.prog.globals.size).map (·.1) = some (bytesV (block key nonce n)) := by
  obtain ⟨k0, k1, k2, k3, k4, k5, k6, k7, k8, k9, k10, k11, k12, k13, k14, k15, k16, k17, k18, k19, k20, k21, k22, k23, k24, k25, k26, k27, k28, k29, k30, k31, rfl⟩ := thirtytwo hk
  obtain ⟨m0, m1, m2, m3, m4, m5, m6, m7, m8, m9, m10, m11, rfl⟩ := twelve hn
  refine (run1_val (fn := Try.f30) (c := bodyOf Try.f30) (by kernel_rfl) (by kernel_rfl) (by kernel_rfl)).trans ?_
  refine (congrArg (finV Try.prog Try.f30) (evS_seg (l := p13) (k := 0) (m := 7) (s13_a k0 k1 k2 k3 k4 k5 k6 k7 k8 k9 k10 k11 k12 k13 k14 k15 k16 k17 k18 k19 k20 k21 k22 k23 k24 k25 k26 k27 k28 k29 k30 k31 m0 m1 m2 m3 m4 m5 m6 m7 m8 m9 m10 m11 n))).trans ?_
  refine (congrArg (finV Try.prog Try.f30) (loop13 [k0, k1, k2, k3, k4, k5, k6, k7, k8, k9, k10, k11, k12, k13, k14, k15, k16, k17, k18, k19, k20, k21, k22, k23, k24, k25, k26, k27, k28, k29, k30, k31] [m0, m1, m2, m3, m4, m5, m6, m7, m8, m9, m10, m11] (seed [k0, k1, k2, k3, k4, k5, k6, k7, k8, k9, k10, k11, k12, k13, k14, k15, k16, k17, k18, k19, k20, k21, k22, k23, k24, k25, k26, k27, k28, k29, k30, k31] [m0, m1, m2, m3, m4, m5, m6, m7, m8, m9, m10, m11] n) n n.toUInt8 (shr_u32 n 8).toUInt8 (shr_u32 n 16).toUInt8 (shr_u32 n 24).toUInt8 (wordP (101) (120) (112) (97)) (wordP (110) (100) (32) (51)) (wordP (50) (45) (98) (121)) (wordP (116) (101) (32) (107)) (wordP (k0) (k1) (k2) (k3)) (wordP (k4) (k5) (k6) (k7)) (wordP (k8) (k9) (k10) (k11)) (wordP (k12) (k13) (k14) (k15)) (wordP (k16) (k17) (k18) (k19)) (wordP (k20) (k21) (k22) (k23)) (wordP (k24) (k25) (k26) (k27)) (wordP (k28) (k29) (k30) (k31)) (wordP (n.toUInt8) ((shr_u32 n 8).toUInt8) ((shr_u32 n 16).toUInt8) ((shr_u32 n 24).toUInt8)) (wordP (m0) (m1) (m2) (m3)) (wordP (m4) (m5) (m6) (m7)) (wordP (m8) (m9) (m10) (m11)))).trans ?_
  refine (fin13 [k0, k1, k2, k3, k4, k5, k6, k7, k8, k9, k10, k11, k12, k13, k14, k15, k16, k17, k18, k19, k20, k21, k22, k23, k24, k25, k26, k27, k28, k29, k30, k31] [m0, m1, m2, m3, m4, m5, m6, m7, m8, m9, m10, m11] (seed [k0, k1, k2, k3, k4, k5, k6, k7, k8, k9, k10, k11, k12, k13, k14, k15, k16, k17, k18, k19, k20, k21, k22, k23, k24, k25, k26, k27, k28, k29, k30, k31] [m0, m1, m2, m3, m4, m5, m6, m7, m8, m9, m10, m11] n) n n.toUInt8 (shr_u32 n 8).toUInt8 (shr_u32 n 16).toUInt8 (shr_u32 n 24).toUInt8 (wordP (101) (120) (112) (97)) (wordP (110) (100) (32) (51)) (wordP (50) (45) (98) (121)) (wordP (116) (101) (32) (107)) (wordP (k0) (k1) (k2) (k3)) (wordP (k4) (k5) (k6) (k7)) (wordP (k8) (k9) (k10) (k11)) (wordP (k12) (k13) (k14) (k15)) (wordP (k16) (k17) (k18) (k19)) (wordP (k20) (k21) (k22) (k23)) (wordP (k24) (k25) (k26) (k27)) (wordP (k28) (k29) (k30) (k31)) (wordP (n.toUInt8) ((shr_u32 n 8).toUInt8) ((shr_u32 n 16).toUInt8) ((shr_u32 n 24).toUInt8)) (wordP (m0) (m1) (m2) (m3)) (wordP (m4) (m5) (m6) (m7)) (wordP (m8) (m9) (m10) (m11)) (rounds [(wordP (101) (120) (112) (97)), (wordP (110) (100) (32) (51)), (wordP (50) (45) (98) (121)), (wordP (116) (101) (32) (107)), (wordP (k0) (k1) (k2) (k3)), (wordP (k4) (k5) (k6) (k7)), (wordP (k8) (k9) (k10) (k11)), (wordP (k12) (k13) (k14) (k15)), (wordP (k16) (k17) (k18) (k19)), (wordP (k20) (k21) (k22) (k23)), (wordP (k24) (k25) (k26) (k27)), (wordP (k28) (k29) (k30) (k31)), (wordP (n.toUInt8) ((shr_u32 n 8).toUInt8) ((shr_u32 n 16).toUInt8) ((shr_u32 n 24).toUInt8)), (wordP (m0) (m1) (m2) (m3)), (wordP (m4) (m5) (m6) (m7)), (wordP (m8) (m9) (m10) (m11))] 10) (rounds_length _ 10)).trans ?_
  simp only [wordP_eq]
  rfl

end Go.Proofs.Ytifohjjmbohhnaa.Cha
