/- Engine, part 21 (it stands between 7 and 8): append and copy. -/
import Derived.Test.YtkgbpnihbamceaaEng7
import Derived.Laws.AppendOwn
import GoSem.Builtin.Copy
namespace Go.Eng
set_option linter.unusedVariables false
set_option linter.unusedSimpArgs false
open Go

theorem HRel.swap {σ : Sig} {H : Heap} {w w' : World} (h : HRel σ H w) {n base : Nat} {o o' : AObj} {p q : Place} (hn : H n = some o) (hro : o.ro = false) (hp : σ n = some p) (hb : σ base = none) (hq : q.blk = p.blk)
    (ho : ORel (σ.set base q) w' q o') (hw : ∀ b, b ≠ p.blk → w'.heap[b]? = w.heap[b]?) {H' : Heap} (hH : ∀ k, H' k = if base = k then some o' else if n = k then none else H k) : HRel (σ.set base q) H' w' := by
  have hne : ∀ k ob r, H k = some ob → σ k = some r → n ≠ k → r.blk ≠ p.blk := fun k ob r h1 h2 h3 he => by
    rcases h.inj n k o ob p r hn h1 hp h2 he.symm with e | ⟨e, _⟩
    · exact h3 e
    · rw [hro] at e; cases e
  have hold : ∀ k ob, H k = some ob → base ≠ k := fun k ob h1 e => by
    obtain ⟨r, hr, _⟩ := h.obj k ob h1
    rw [← e, hb] at hr; cases hr
  have get : ∀ k ob, H' k = some ob → (base = k ∧ ob = o') ∨ (base ≠ k ∧ n ≠ k ∧ H k = some ob) := fun k ob h1 => by
    rw [hH] at h1
    split at h1
    · rename_i e; cases h1; exact .inl ⟨e, rfl⟩
    · split at h1
      · cases h1
      · rename_i e1 e2; exact .inr ⟨e1, e2, h1⟩
  have sigo : ∀ k, base ≠ k → (σ.set base q) k = σ k := fun k hk => Sig.set_other σ _ (Ne.symm hk)
  refine ⟨fun k ob hk => ?_, fun k1 k2 o1 o2 q1 q2 h1 h2 hq1 hq2 he => ?_⟩
  · rcases get k ob hk with ⟨rfl, rfl⟩ | ⟨e1, e2, e3⟩
    · exact ⟨q, Sig.set_same σ base q, ho⟩
    · obtain ⟨r, hr, hor⟩ := h.obj k ob e3
      exact ⟨r, by rw [sigo k e1]; exact hr, hor.mono (Sig.le_set hb q) (hw _ (hne k ob r e3 hr e2))⟩
  · rcases get k1 o1 h1 with ⟨a1, a2⟩ | ⟨a1, a2, a3⟩ <;> rcases get k2 o2 h2 with ⟨b1, b2⟩ | ⟨b1, b2, b3⟩
    · exact .inl (a1.symm.trans b1)
    · subst a1
      rw [Sig.set_same] at hq1; cases hq1
      rw [sigo k2 b1] at hq2
      exact absurd (he.symm.trans hq) (hne k2 o2 q2 b3 hq2 b2)
    · subst b1
      rw [Sig.set_same] at hq2; cases hq2
      rw [sigo k1 a1] at hq1
      exact absurd (he.trans hq) (hne k1 o1 q1 a3 hq1 a2)
    · rw [sigo k1 a1] at hq1
      rw [sigo k2 b1] at hq2
      exact h.inj k1 k2 o1 o2 q1 q2 a3 b3 hq1 hq2 he
theorem Frm.swap {σ : Sig} {H : Heap} {w w' : World} {n base : Nat} {o o' : AObj} {p q : Place} (hn : H n = some o) (hro : o.ro = false) (hp : σ n = some p) (hb : σ base = none) (hq : q.blk = p.blk)
    (hw : ∀ b, b ≠ p.blk → w'.heap[b]? = w.heap[b]?) (hs : w'.heap.size = w.heap.size) (h2 : HeapTo w w') (hold : ∀ k ob, H k = some ob → ∃ r, σ k = some r) {H' : Heap} (hH : ∀ k, H' k = if base = k then some o' else if n = k then none else H k) : Frm σ H w (σ.set base q) H' w' := by
  have hown : Own σ H p.blk := ⟨n, o, p, hn, hro, hp, rfl⟩
  refine ⟨Sig.le_set hb q, by omega, h2.os, h2.output, h2.tape, fun b hb' hno => ⟨hw b fun e => hno (e ▸ hown), ?_⟩⟩
  rintro ⟨k, ob, r, g1, g2, g3, g4⟩
  rw [hH] at g1
  split at g1
  · rename_i e
    subst e
    rw [Sig.set_same] at g3; cases g3
    exact hno (by rw [← g4, hq]; exact hown)
  · split at g1
    · cases g1
    · rename_i e1 e2
      rw [Sig.set_other σ _ (Ne.symm e1)] at g3
      exact hno ⟨k, ob, r, g1, g2, g3, g4⟩

/-- The cells that 'append' and 'copy' take. -/
def srcA (H : Nat → Option AObj) (esz : Nat) : AVal → Option (List AVal × Nat)
  | .nilSlice => some ([], 0)
  | .str l => cond (Nat.beq esz 1) (some (l.map .u8, l.length)) none
  | .slice n off len sz => cond (Nat.beq sz esz) (match H n with
    | some (.cells _ c) => cond (Nat.ble (off + len * esz) c.length) (some ((c.drop off).take (len * esz), len)) none
    | none => none) none
  | _ => none
theorem srcA_ok {P : Program} {H : Nat → Option AObj} {esz : Nat} {x : AVal} {news : List AVal} {m : Nat} (h : srcA H esz x = some (news, m)) {σ : Sig} {x' : Value} (hx : VR σ x x') {w : World} (hr : HRel σ H w) :
    news.length = m * esz ∧ (∀ w1, (Builtin.lenOf x').run P w1 = .ok m w1) ∧ ∀ w1, w1.heap = w.heap → ∀ k, k ≤ m → ∃ news', (Builtin.firstCells esz k x').run P w1 = .ok news' w1 ∧ LR σ (news.take (k * esz)) news' := by
  unfold srcA at h
  split at h
  · cases h
    cases hx
    refine ⟨by simp, fun w1 => rfl, fun w1 hw k hk => ⟨#[], run_firstCells_none w1 esz k 0 0, by simp; exact LR.nil σ⟩⟩
  · rename_i l
    cases hb : Nat.beq esz 1 <;> rw [hb] at h <;> simp only [cond_true, cond_false] at h
    · cases h
    · have he := Nat.eq_of_beq_eq_true hb
      subst he
      cases h
      cases hx
      refine ⟨by simp, fun w1 => by simp [Builtin.lenOf, ByteArray.size], fun w1 hw k hk => ⟨((ByteArray.mk l.toArray).extract 0 k).data.map fun b => .int .u8 b.toNat, rfl, ?_⟩⟩
      have hd : ((ByteArray.mk l.toArray).extract 0 k).data = (l.take k).toArray := by simp [ByteArray.data_extract]
      rw [hd]
      refine ⟨by simp, fun i v v' g1 g2 => ?_⟩
      simp only [Nat.mul_one] at g1
      rw [← List.map_take, List.getElem?_map] at g1
      simp only [List.map_toArray, List.getElem?_toArray, List.getElem?_map] at g2
      cases hi : (l.take k)[i]? with
      | none => rw [hi] at g1; cases g1
      | some b => rw [hi] at g1 g2; cases g1; cases g2; exact .u8 b
  · rename_i n off len sz
    cases hb : Nat.beq sz esz <;> rw [hb] at h <;> simp only [cond_true, cond_false] at h
    · cases h
    · have he := Nat.eq_of_beq_eq_true hb
      subst he
      split at h
      · rename_i ro c hc
        cases hl : Nat.ble (off + len * sz) c.length <;> rw [hl] at h <;> simp only [cond_true, cond_false] at h
        · cases h
        · have hl := Nat.le_of_ble_eq_true hl
          cases h
          cases hx with
          | @slice _ _ _ _ p o cap hp ho hcap hs =>
            refine ⟨by rw [List.length_take, List.length_drop]; omega, fun w1 => rfl, fun w1 hw k hk => ?_⟩
            obtain ⟨q, hq, hor⟩ := hr.obj n _ hc
            rw [hp] at hq; cases hq
            have hor1 : ORel σ w1 p (.cells ro c) := hor.mono (Sig.le_refl σ) (by rw [hw])
            have hkl : k * sz ≤ m * sz := Nat.mul_le_mul_right _ hk
            have et : ((c.drop off).take (m * sz)).take (k * sz) = (c.drop off).take (k * sz) := by rw [List.take_take]; congr 1; omega
            rw [et]
            rcases ho with h0 | ho
            · subst h0
              have : k = 0 := by omega
              subst this
              refine ⟨#[], by simp [Builtin.firstCells, loadCells, loadCellsFrom], by simp; exact LR.nil σ⟩
            · subst ho
              obtain ⟨vs', g1, g2⟩ := loadRow (P := P) hor1 (off := off) (n := k * sz) (by omega)
              exact ⟨vs', g1, g2⟩
      · cases h
  · cases h

def notIntD : TypeDesc → Bool
  | .slice _ => true
  | .string => true
  | _ => false
def appendE (base : Nat) (H : Nat → Option AObj) (size bytes m : Nat) (news : List AVal) : AVal → Option (AVal × List (Nat × Option AObj))
  | .nilSlice => cond (Nat.beq m 0) (some (.nilSlice, [])) (cond (Nat.ble (m * bytes) 140737488355328 && Nat.ble m 140737488355328) (some (.slice base 0 m size, [(base, some (.cells false news))])) none)
  | .slice n off len sz => cond (Nat.beq sz size && Nat.ble ((len + m) * bytes) 140737488355328 && Nat.ble (len + m) 140737488355328 && news.all oneA) (match H n with
    | some (.cells false c) => cond (Nat.ble (off + len * sz) c.length) (some (.slice base 0 (len + m) sz, [(n, none), (base, some (.cells false ((c.drop off).take (len * sz) ++ news)))])) none
    | _ => none) none
  | _ => none
def appendA (P : Program) (ts : Array TypeId) (s x : AVal) : Option EffA :=
  match ts[0]?, ts[1]? with
  | some t, some u => match P.underlying t, P.underlying u with
    | some (.slice e), some d => match P.info? e, zeroA P e with
      | some i, some z => cond (notIntD d && Nat.ble 1 i.size && Nat.beq (cellsA z).length i.size) (some (.eff fun base H => match srcA H i.size x with
          | some (news, m) => appendE base H i.size i.bytes m news s
          | none => none)) none
      | _, _ => none
    | _, _ => none
  | _, _ => none

/-- A new row whose first cells are known. -/
theorem newPrefix_ok {σ : Sig} {H : List (Nat × AObj)} {w : World} {base : Nat} (hr : HRel σ (aget H) w) (hf : Free σ base) {c : List AVal} {c' : Array Value} (hc : ∀ (i : Nat) v, c[i]? = some v → ∃ v', c'[i]? = some v' ∧ VR σ v v') (t : TypeId) :
    HRel (σ.set base ⟨w.heap.size, 0, c'.size⟩) (aget (aset H base (.cells false c))) (w.alloc (.cells c' t)) ∧
      Frm σ (aget H) w (σ.set base ⟨w.heap.size, 0, c'.size⟩) (aget (aset H base (.cells false c))) (w.alloc (.cells c' t)) ∧ Only σ (σ.set base ⟨w.heap.size, 0, c'.size⟩) base := by
  have hn : σ base = none := hf 0 (by omega)
  refine ⟨?_, ?_, fun n hn => Sig.set_other σ _ (by omega)⟩
  · rw [aget_aset_fun]
    refine hr.alloc' hn rfl ?_
    refine ⟨c', t, (0, 0), by show (w.heap.push _)[w.heap.size]? = _; simp, rfl, fun i v hi => ?_, fun _ => .inr (by simp)⟩
    obtain ⟨v', h1, h2⟩ := hc i v hi
    exact ⟨v', by simpa using h1, h2.mono (Sig.le_set hn _)⟩
  · rw [aget_aset_fun]
    exact Frm.alloc' hr hn rfl ⟨rfl, rfl, rfl⟩
theorem aget_adel_fun {α : Type} (l : List (Nat × α)) (n m : Nat) (v : α) : ∀ k, aget (aset (adel l n) m v) k = if m = k then some v else if n = k then none else aget l k := fun k => by
  rw [aget_aset, aget_adel]
set_option maxHeartbeats 2000000
theorem run_app_room {P : Program} {w : World} {ts : Array TypeId} {t u : TypeId} (ty : TypeId) {e : TypeId} {d : TypeDesc} {i : TypeInfo} (h0 : ts[0]? = some t) (h1 : ts[1]? = some u) (ht : P.underlying t = some (.slice e)) (hu : P.underlying u = some d) (hd : notIntD d = true) (hi : P.info? e = some i)
    {a : Addr} {len cap m : Nat} {x' : Value} {news' : Array Value} (hL : (Builtin.lenOf x').run P w = .ok m w) (hF : (Builtin.firstCells i.size m x').run P w = .ok news' w) (hroom : len + m ≤ cap) {w' : World} (hS : (storeCells (a.add (len * i.size)) news'.toList 0).run P w = .ok () w') :
    (Builtin.append_ ts ty #[.slice (some a) len cap, x']).run P w = .ok (.slice (some a) (len + m) cap) w' := by
  cases d <;> first
    | (cases hd; done)
    | simp [Builtin.append_, h0, h1, run_underlying ht, run_underlying hu, sizeOf, typeInfo, hi, hL, hroom, hF, hS]
theorem run_app_nil0 {P : Program} {w : World} {ts : Array TypeId} {t u : TypeId} (ty : TypeId) {e : TypeId} {d : TypeDesc} {i : TypeInfo} (h0 : ts[0]? = some t) (h1 : ts[1]? = some u) (ht : P.underlying t = some (.slice e)) (hu : P.underlying u = some d) (hd : notIntD d = true) (hi : P.info? e = some i)
    {x' : Value} {news' : Array Value} (hL : (Builtin.lenOf x').run P w = .ok 0 w) (hF : (Builtin.firstCells i.size 0 x').run P w = .ok news' w) :
    (Builtin.append_ ts ty #[.slice none 0 0, x']).run P w = .ok (.slice none 0 0) w := by
  cases d <;> first
    | (cases hd; done)
    | simp [Builtin.append_, h0, h1, run_underlying ht, run_underlying hu, sizeOf, typeInfo, hi, hL, hF]
theorem run_app_grow {P : Program} {w : World} {ts : Array TypeId} {t u : TypeId} (ty : TypeId) {e : TypeId} {d : TypeDesc} {i : TypeInfo} {z : Value} (h0 : ts[0]? = some t) (h1 : ts[1]? = some u) (ht : P.underlying t = some (.slice e)) (hu : P.underlying u = some d) (hd : notIntD d = true) (hi : P.info? e = some i) (hz : i.zero = some z)
    {b : Option Addr} {len cap m : Nat} {x' : Value} {old news' : Array Value} (hL : (Builtin.lenOf x').run P w = .ok m w) (hO : (Builtin.firstCells i.size len (.slice b len cap)).run P w.drew = .ok old w.drew) (hF : (Builtin.firstCells i.size m x').run P w.drew = .ok news' w.drew) (hg : cap < len + m)
    (hb1 : (len + m) * i.bytes ≤ 140737488355328) (hb2 : len + m ≤ 140737488355328) :
    (Builtin.append_ ts ty #[.slice b len cap, x']).run P w = .ok (.slice (some ⟨w.heap.size, 0, none⟩) (len + m) (grownCap w (len + m) cap e)) (w.drew.alloc (.cells (old ++ news' ++ Builtin.zeroCells z.cells (grownCap w (len + m) cap e - (len + m))) e)) := by
  have hn : ¬ (len + m ≤ cap) := by omega
  have h63' : ¬ (9223372036854775807 < ((len : Int) + (m : Int))) := by omega
  have h48 := growslice_fits hg hb1
  have h48' : ¬ (281474976710656 < Builtin.nextslicecap (len + m) cap * i.bytes) := by omega
  cases d <;> first
    | (cases hd; done)
    | simp [Builtin.append_, h0, h1, run_underlying ht, run_underlying hu, sizeOf, typeInfo, zeroValue, hi, hz, hL, hn, h63', h48', Question.forced, hF, hO, newRow, grownCap]
theorem appendA_ok {P : Program} {ts : Array TypeId} {s x : AVal} {e : EffA} (h : appendA P ts s x = some e) {σ : Sig} {s' x' : Value} (hs : VR σ s s') (hx : VR σ x x') (ty : TypeId) {H H' : List (Nat × AObj)} {w : World} {base : Nat} {v : AVal}
    (hr : HRel σ (aget H) w) (ha : e.app base H = some (v, H')) (hf : Free σ base) :
    ∃ σ' v' w', (Builtin.append_ ts ty #[s', x']).run P w = .ok v' w' ∧ VR σ' v v' ∧ HRel σ' (aget H') w' ∧ Frm σ (aget H) w σ' (aget H') w' ∧ Only σ σ' base := by
  unfold appendA at h
  split at h
  · rename_i t u h0 h1
    split at h
    · rename_i el d ht hu
      split at h
      · rename_i i z hi hzero
        cases hb : (notIntD d && Nat.ble 1 i.size && Nat.beq (cellsA z).length i.size) <;> rw [hb] at h <;> simp only [cond_true, cond_false] at h
        · cases h
        · simp only [Bool.and_eq_true] at hb
          obtain ⟨⟨hd, hsz⟩, hzl⟩ := hb
          have hsz := Nat.le_of_ble_eq_true hsz
          have hzl := Nat.eq_of_beq_eq_true hzl
          cases h
          obtain ⟨z', hz1, hz2⟩ : ∃ z', i.zero = some z' ∧ VR σ z z' := by
            unfold zeroA at hzero
            rw [hi] at hzero
            simp only at hzero
            split at hzero
            · rename_i z0 hz0
              exact ⟨z0, hz0, cval_ok hzero σ⟩
            · cases hzero
          have hzc : z'.cells.size = i.size := by rw [← (cellsA_ok hz2).1]; exact hzl
          simp only [EffA.app] at ha
          cases hsrc : srcA (aget H) i.size x with
          | none => rw [hsrc] at ha; cases ha
          | some p =>
            obtain ⟨news, m⟩ := p
            rw [hsrc] at ha
            simp only at ha
            obtain ⟨hnl, hL, hFC⟩ := srcA_ok (P := P) hsrc hx hr
            have takem : news.take (m * i.size) = news := List.take_of_length_le (by omega)
            -- the new row, where it grew
            have grown : ∀ (old : List AVal) (old' news' : Array Value) (len cap : Nat) (ss : Value), LR σ old old' → LR σ news news' → old.length = len * i.size → cap < len + m →
                (Builtin.append_ ts ty #[ss, x']).run P w = .ok (.slice (some ⟨w.heap.size, 0, none⟩) (len + m) (grownCap w (len + m) cap el)) (w.drew.alloc (.cells (old' ++ news' ++ Builtin.zeroCells z'.cells (grownCap w (len + m) cap el - (len + m))) el)) →
                ∃ σ' v' w', (Builtin.append_ ts ty #[ss, x']).run P w = .ok v' w' ∧ VR σ' (.slice base 0 (len + m) i.size) v' ∧ HRel σ' (aget (aset H base (.cells false (old ++ news)))) w' ∧ Frm σ (aget H) w σ' (aget (aset H base (.cells false (old ++ news)))) w' ∧ Only σ σ' base := by
              intro old old' news' len cap ss ho hn hol hg hrun
              have hge := grownCap_ge w (len + m) cap el
              have hsize : (old' ++ news' ++ Builtin.zeroCells z'.cells (grownCap w (len + m) cap el - (len + m))).size = grownCap w (len + m) cap el * i.size := by
                simp only [Array.size_append, size_zeroCells, hzc, ← ho.1, ← hn.1, hol, hnl, ← Nat.add_mul]
                congr 1
                omega
              have hpre : ∀ (j : Nat) v, (old ++ news)[j]? = some v → ∃ v', (old' ++ news' ++ Builtin.zeroCells z'.cells (grownCap w (len + m) cap el - (len + m)))[j]? = some v' ∧ VR σ v v' := fun j v hj => by
                rw [List.getElem?_append] at hj
                split at hj
                · rename_i hlt
                  obtain ⟨v', g1, g2⟩ := ho.get hj
                  refine ⟨v', ?_, g2⟩
                  rw [Array.append_assoc, Array.getElem?_append_left (by rw [← ho.1]; exact hlt)]
                  exact g1
                · rename_i hlt
                  obtain ⟨v', g1, g2⟩ := hn.get hj
                  have hlt2 := (Array.getElem?_eq_some_iff.1 g1).1
                  refine ⟨v', ?_, g2⟩
                  rw [Array.append_assoc, Array.getElem?_append_right (by rw [← ho.1]; omega), Array.getElem?_append_left (by rw [← ho.1]; omega), ← ho.1]
                  exact g1
              have hr1 : HRel σ (aget H) w.drew := hr.drew rfl
              obtain ⟨g1, g2, g3⟩ := newPrefix_ok (c := old ++ news) (c' := old' ++ news' ++ Builtin.zeroCells z'.cells (grownCap w (len + m) cap el - (len + m))) hr1 hf hpre el
              refine ⟨_, _, _, hrun, ?_, g1, ⟨g2.ext, g2.size, g2.os, g2.output, g2.tape, g2.old⟩, g3⟩
              refine .slice (p := ⟨w.heap.size, 0, _⟩) (Sig.set_same σ base _) (.inr rfl) hge ?_
              show 0 + _ ≤ (_ : Nat)
              simp only [hsize]
              exact Nat.le_of_eq (Nat.zero_add _)
            cases hE : appendE base (aget H) i.size i.bytes m news s with
            | none => rw [hE] at ha; cases ha
            | some pr =>
            obtain ⟨v0, us⟩ := pr
            rw [hE] at ha
            simp only [Option.some.injEq, Prod.mk.injEq] at ha
            obtain ⟨rfl, rfl⟩ := ha
            unfold appendE at hE
            split at hE
            · -- onto nil
              cases hs
              cases hm : Nat.beq m 0 <;> rw [hm] at hE <;> simp only [cond_true, cond_false] at hE
              · cases hfit : (Nat.ble (m * i.bytes) 140737488355328 && Nat.ble m 140737488355328) <;> rw [hfit] at hE <;> simp only [cond_true, cond_false] at hE
                · cases hE
                · simp only [Bool.and_eq_true] at hfit
                  have hf1 := Nat.le_of_ble_eq_true hfit.1
                  have hf2 := Nat.le_of_ble_eq_true hfit.2
                  have hm0 : m ≠ 0 := fun e => by subst e; cases hm
                  cases hE
                  obtain ⟨news', g1, g2⟩ := hFC w.drew rfl m (Nat.le_refl m)
                  rw [takem] at g2
                  have := grown [] #[] news' 0 0 (.slice none 0 0) (LR.nil σ) g2 (by simp) (by omega) (by
                    exact run_app_grow ty h0 h1 ht hu hd hi hz1 (hL w) (run_firstCells_none w.drew i.size 0 0 0) g1 (by omega) (by rw [Nat.zero_add]; exact hf1) (by omega))
                  simpa only [Nat.zero_add, List.nil_append, appU] using this
              · have hm := Nat.eq_of_beq_eq_true hm
                subst hm
                cases hE
                obtain ⟨news', g1, g2⟩ := hFC w rfl 0 (Nat.le_refl 0)
                exact ⟨σ, _, w, run_app_nil0 ty h0 h1 ht hu hd hi (hL w) g1, .nilSlice, hr, Frm.refl _ _ _, Only.refl _ _⟩
            · -- onto a slice
              rename_i n off len sz
              cases hc : (Nat.beq sz i.size && Nat.ble ((len + m) * i.bytes) 140737488355328 && Nat.ble (len + m) 140737488355328 && news.all oneA) <;> rw [hc] at hE <;> simp only [cond_true, cond_false] at hE
              · cases hE
              · simp only [Bool.and_eq_true] at hc
                obtain ⟨⟨⟨hc1, hc2⟩, hc3⟩, hc4⟩ := hc
                have hc1 := Nat.eq_of_beq_eq_true hc1
                have hc2 := Nat.le_of_ble_eq_true hc2
                have hc3 := Nat.le_of_ble_eq_true hc3
                subst hc1
                split at hE
                · rename_i c hn
                  cases hfit : Nat.ble (off + len * i.size) c.length <;> rw [hfit] at hE <;> simp only [cond_true, cond_false] at hE
                  · cases hE
                  · have hfit := Nat.le_of_ble_eq_true hfit
                    cases hE
                    cases hs with
                    | @slice _ _ _ _ p o cap hp ho hcap hsz2 =>
                      obtain ⟨q, hq, hor⟩ := hr.obj n _ hn
                      rw [hp] at hq; cases hq
                      have hbn : σ base = none := hf 0 (by omega)
                      have hne : base ≠ n := fun e => by rw [e, hp] at hbn; cases hbn
                      have hol : ((c.drop off).take (len * i.size)).length = len * i.size := by rw [List.length_take, List.length_drop]; omega
                      have hload : ∀ w1 : World, w1.heap = w.heap → ∃ old', (loadCells ⟨p.blk, o, none⟩ (len * i.size)).run P w1 = .ok old' w1 ∧ LR σ ((c.drop off).take (len * i.size)) old' := fun w1 hw1 => by
                        rcases ho with h00 | h00
                        · subst h00
                          exact ⟨#[], by simp [loadCells, loadCellsFrom], by simp; exact LR.nil σ⟩
                        · subst h00
                          exact loadRow (P := P) (hor.mono (Sig.le_refl σ) (by rw [hw1])) (by omega)
                      by_cases hroom : len + m ≤ cap
                      · -- there is room
                        obtain ⟨news', g1, g2⟩ := hFC w rfl m (Nat.le_refl m)
                        rw [takem] at g2
                        obtain ⟨c', t', fz, e1, e2, e3, e4⟩ := hor
                        have hnl' : news'.toList.length = news.length := by simp [g2.1]
                        have hmul : (len + m) * i.size ≤ cap * i.size := Nat.mul_le_mul_right _ hroom
                        rw [Nat.add_mul] at hmul
                        obtain ⟨w', a1, a2, a3, a4, a5⟩ := storeRow (P := P) p.blk (o + len * i.size) t' fz news'.toList 0 c' w e1 (fun v hv' => by
                          obtain ⟨j, hj, rfl⟩ := List.mem_iff_getElem.1 hv'
                          have hj' : j < news.length := by omega
                          have k2 : news[j]? = some news[j] := List.getElem?_eq_getElem hj'
                          have k3 : news'[j]? = some news'.toList[j] := by simp at hj; simp [hj]
                          exact oneA_ok (g2.2 j _ _ k2 k3) (List.all_eq_true.1 hc4 _ (List.getElem_mem hj'))) (by omega) (by rw [e2]; exact e4 rfl)
                        have hput : ORel (σ.set base ⟨p.blk, o, p.sz⟩) w' ⟨p.blk, o, p.sz⟩ (.cells false ((c.drop off).take (len * i.size) ++ news)) := by
                          obtain ⟨k1, k2⟩ := foldset (o + len * i.size) news'.toList 0 c'
                          refine ⟨_, t', fz, a2, by rw [k2]; exact e2, fun j v hj => ?_, e4⟩
                          rw [k1]
                          rw [List.getElem?_append] at hj
                          split at hj
                          · rename_i hlt
                            rw [hol] at hlt
                            rw [if_neg (by show ¬ (o + len * i.size + 0 ≤ o + j ∧ _); omega)]
                            rcases ho with h00 | h00
                            · subst h00; omega
                            · subst h00
                              rw [List.getElem?_take, if_pos hlt, List.getElem?_drop] at hj
                              obtain ⟨v', b1, b2⟩ := e3 (off + j) v hj
                              refine ⟨v', ?_, b2.mono (Sig.le_set hbn _)⟩
                              rw [← b1]; congr 1; show p.sh + off + j = _; omega
                          · rename_i hlt
                            rw [hol] at hlt hj
                            have hj2 := (List.getElem?_eq_some_iff.1 hj).1
                            rw [if_pos (by refine ⟨?_, ?_, ?_⟩ <;> simp only [] <;> omega)]
                            obtain ⟨v', b1, b2⟩ := g2.get hj
                            refine ⟨v', ?_, b2.mono (Sig.le_set hbn _)⟩
                            have e : o + j - (o + len * i.size + 0) = j - len * i.size := by omega
                            show news'.toList[o + j - (o + len * i.size + 0)]? = _
                            rw [e]; simpa using b1
                        have hH : ∀ k, aget (appU H [(n, none), (base, some (.cells false ((c.drop off).take (len * i.size) ++ news)))]) k = if base = k then some (.cells false ((c.drop off).take (len * i.size) ++ news)) else if n = k then none else aget H k := fun k => by
                          simp only [appU]
                          exact aget_adel_fun H n base _ k
                        refine ⟨σ.set base ⟨p.blk, o, p.sz⟩, .slice (some ⟨p.blk, o, none⟩) (len + m) cap, w', ?_, ?_, ?_, ?_, fun k hk => Sig.set_other σ _ (by omega)⟩
                        · exact run_app_room ty h0 h1 ht hu hd hi (hL w) g1 hroom (by rw [add_mk]; exact a1)
                        · exact .slice (p := ⟨p.blk, o, p.sz⟩) (Sig.set_same σ base _) (.inr rfl) hroom hsz2
                        · exact hr.swap (o := .cells false c) (q := ⟨p.blk, o, p.sz⟩) hn rfl hp hbn rfl hput a3 hH
                        · exact Frm.swap (o := .cells false c) (q := ⟨p.blk, o, p.sz⟩) hn rfl hp hbn rfl a3 a4 a5 (fun k ob hk => (hr.obj k ob hk).imp fun _ h => h.1) hH
                      · -- it grows
                        obtain ⟨news', g1, g2⟩ := hFC w.drew rfl m (Nat.le_refl m)
                        rw [takem] at g2
                        obtain ⟨old', l1, l2⟩ := hload w.drew rfl
                        obtain ⟨σ', v', w', r1, r2, r3, r4, r5⟩ := grown ((c.drop off).take (len * i.size)) old' news' len cap (.slice (some ⟨p.blk, o, none⟩) len cap) l2 g2 hol (by omega) (by
                          exact run_app_grow ty h0 h1 ht hu hd hi hz1 (hL w) (by simp only [Builtin.firstCells]; exact l1) g1 (by omega) hc2 hc3)
                        have hsub : ∀ k ob, aget (appU H [(n, none), (base, some (.cells false ((c.drop off).take (len * i.size) ++ news)))]) k = some ob → aget (aset H base (.cells false ((c.drop off).take (len * i.size) ++ news))) k = some ob := fun k ob hk => by
                          simp only [appU] at hk
                          rw [aget_adel_fun] at hk
                          rw [aget_aset]
                          by_cases e1 : base = k
                          · rw [if_pos e1] at hk ⊢; exact hk
                          · rw [if_neg e1] at hk ⊢
                            by_cases e2 : n = k
                            · rw [if_pos e2] at hk; cases hk
                            · rw [if_neg e2] at hk; exact hk
                        refine ⟨σ', v', w', r1, r2, ⟨fun k ob hk => r3.obj k ob (hsub k ob hk), fun k1 k2 o1 o2 q1 q2 h1 h2 => r3.inj k1 k2 o1 o2 q1 q2 (hsub _ _ h1) (hsub _ _ h2)⟩, ⟨r4.ext, r4.size, r4.os, r4.output, r4.tape, fun b hb hno => ?_⟩, r5⟩
                        obtain ⟨y1, y2⟩ := r4.old b hb hno
                        exact ⟨y1, fun ⟨k, ob, r, z1, z2⟩ => y2 ⟨k, ob, r, hsub _ _ z1, z2⟩⟩
                · cases hE
            · cases hE
      · cases h
    · cases h
  · cases h

/-! ### copy -/
def copyE (H : Nat → Option AObj) (size m : Nat) (news : List AVal) : AVal → Option (AVal × List (Nat × Option AObj))
  | .nilSlice => some (.int .i64 0, [])
  | .slice n off len sz => cond (Nat.beq (Nat.min m len) 0) (some (.int .i64 0, [])) (cond (Nat.beq sz size && (news.take (Nat.min m len * sz)).all oneA) (match H n with
    | some (.cells false c) => cond (Nat.ble (off + Nat.min m len * sz) c.length) (some (.int .i64 (Nat.min m len), [(n, some (.cells false (putA c off (news.take (Nat.min m len * sz)))))])) none
    | _ => none) none)
  | _ => none
def copyA (P : Program) (ts : Array TypeId) (s x : AVal) : Option EffA :=
  match ts[0]? with
  | some t => match P.underlying t with
    | some (.slice e) => match szA P e with
      | some size => some (.eff fun _ H => match srcA H size x with
          | some (news, m) => copyE H size m news s
          | none => none)
      | none => none
    | _ => none
  | none => none
theorem copyA_ok {P : Program} {ts : Array TypeId} {s x : AVal} {e : EffA} (h : copyA P ts s x = some e) {σ : Sig} {s' x' : Value} (hs : VR σ s s') (hx : VR σ x x') (ty : TypeId) {H H' : List (Nat × AObj)} {w : World} {base : Nat} {v : AVal}
    (hr : HRel σ (aget H) w) (ha : e.app base H = some (v, H')) :
    ∃ v' w', (Builtin.copy_ ts ty #[s', x']).run P w = .ok v' w' ∧ VR σ v v' ∧ HRel σ (aget H') w' ∧ Frm σ (aget H) w σ (aget H') w' := by
  unfold copyA at h
  split at h
  · rename_i t h0
    split at h
    · rename_i el ht
      split at h
      · rename_i size hz
        cases h
        simp only [EffA.app] at ha
        cases hsrc : srcA (aget H) size x with
        | none => rw [hsrc] at ha; cases ha
        | some p =>
          obtain ⟨news, m⟩ := p
          rw [hsrc] at ha
          simp only at ha
          obtain ⟨hnl, hL, hFC⟩ := srcA_ok (P := P) hsrc hx hr
          cases hE : copyE (aget H) size m news s with
          | none => rw [hE] at ha; cases ha
          | some pr =>
          obtain ⟨v0, us⟩ := pr
          rw [hE] at ha
          simp only [Option.some.injEq, Prod.mk.injEq] at ha
          obtain ⟨rfl, rfl⟩ := ha
          unfold copyE at hE
          split at hE
          · cases hE
            cases hs
            obtain ⟨news', g1, g2⟩ := hFC w rfl 0 (Nat.zero_le m)
            refine ⟨_, w, ?_, .int .i64 0, hr, Frm.refl _ _ _⟩
            simp [Builtin.copy_, h0, run_underlying ht, hL, run_szA hz, g1, goInt]
          · rename_i n off len sz
            cases hs with
            | @slice _ _ _ _ p o cap hp ho hcap hs2 =>
              obtain ⟨news', g1, g2⟩ := hFC w rfl (Nat.min m len) (Nat.min_le_left m len)
              cases hk : Nat.beq (Nat.min m len) 0 <;> rw [hk] at hE <;> simp only [cond_true, cond_false] at hE
              · have hk0 : Nat.min m len ≠ 0 := fun e => by rw [e] at hk; cases hk
                have hlen0 : len ≠ 0 := fun e => hk0 (by rw [e]; exact Nat.min_zero m)
                have ho' : o = p.sh + off := ho.resolve_left hlen0
                subst ho'
                cases hc : (Nat.beq sz size && (news.take (Nat.min m len * sz)).all oneA) <;> rw [hc] at hE <;> simp only [cond_true, cond_false] at hE
                · cases hE
                · simp only [Bool.and_eq_true] at hc
                  have hc1 := Nat.eq_of_beq_eq_true hc.1
                  subst hc1
                  split at hE
                  · rename_i c hn
                    cases hfit : Nat.ble (off + Nat.min m len * sz) c.length <;> rw [hfit] at hE <;> simp only [cond_true, cond_false] at hE
                    · cases hE
                    · have hfit := Nat.le_of_ble_eq_true hfit
                      cases hE
                      obtain ⟨w', a1, a2, a3⟩ := writeRow (P := P) (off := off) hr hn hp g2 hc.2 (Nat.le_trans (Nat.add_le_add_left (List.length_take_le _ _) off) hfit)
                      refine ⟨_, w', ?_, .int .i64 _, a2, a3⟩
                      simp [Builtin.copy_, h0, run_underlying ht, hL, run_szA hz, g1, a1, goInt]
                  · cases hE
              · have hk := Nat.eq_of_beq_eq_true hk
                cases hE
                rw [hk] at g1 g2
                have hn0 : news' = #[] := by
                  have := g2.1
                  simp at this
                  exact Array.eq_empty_of_size_eq_zero this.symm
                subst hn0
                refine ⟨_, w, ?_, .int .i64 0, hr, Frm.refl _ _ _⟩
                simp [Builtin.copy_, h0, run_underlying ht, hL, run_szA hz, hk, g1, goInt, storeCells]
          · cases hE
      · cases h
    · cases h
  · cases h
end Go.Eng
