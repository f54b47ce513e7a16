/- Engine, part 7: strings and bytes; every operation by its kind. -/
import Derived.Test.YtkgbpnihbamceaaEng6
namespace Go.Eng
set_option linter.unusedVariables false
set_option linter.unusedSimpArgs false
open Go

/-! ### strings and bytes -/
def bytesA : List AVal → Option (List UInt8)
  | [] => some []
  | .u8 b :: l => match bytesA l with
    | some bs => some (b :: bs)
    | none => none
  | _ => none
theorem bytesA_ok {σ : Sig} : ∀ {l : List AVal} {bs : List UInt8} {l' : Array Value}, bytesA l = some bs → LR σ l l' → l'.toList = bs.map fun b => Value.int .u8 b.toNat := by
  intro l
  induction l with
  | nil => intro bs l' h hl; simp only [bytesA, Option.some.injEq] at h; subst h; have := hl.1; simp at this; simp; exact Array.eq_empty_of_size_eq_zero this.symm
  | cons v l ih =>
    intro bs l' h hl
    cases v <;> simp only [bytesA] at h <;> try (cases h; done)
    rename_i b
    split at h
    · rename_i bs' hb
      cases h
      cases hx : l'.toList with
      | nil => have := hl.1; simp [← Array.length_toList, hx] at this
      | cons x xs =>
        have hl' : l' = (x :: xs).toArray := by rw [← hx]
        subst hl'
        have h1 := hl.2 0 (.u8 b) x (by simp) (by simp)
        cases h1
        have h2 : LR σ l xs.toArray := ⟨by have := hl.1; simpa using this, fun i u u' g1 g2 => hl.2 (i + 1) u u' (by simpa using g1) (by simpa using g2)⟩
        have := ih hb h2
        simp only [List.map_cons, List.cons.injEq, true_and]
        simpa using this
    · cases h
theorem bytesA_map (bs : List UInt8) : bytesA (bs.map .u8) = some bs := by
  induction bs with
  | nil => rfl
  | cons b bs ih => simp [bytesA, ih]
theorem foldl_push (ns : List Int) (s : ByteArray) : ns.foldl (fun r n => r.push (UInt8.ofNat n.toNat)) s = ⟨(s.data.toList ++ ns.map fun n => UInt8.ofNat n.toNat).toArray⟩ := by
  induction ns generalizing s with
  | nil => cases s; simp
  | cons n ns ih =>
    rw [List.foldl_cons, ih]
    cases s
    simp [ByteArray.push]

def bytesStrA (P : Program) (src dst : TypeId) (x : AVal) : Option EffA :=
  match P.underlying src with
  | some (.slice e) => match P.underlying e, P.underlying dst with
    | some (.int .u8), some .string => match x with
      | .nilSlice => some (.pure (.str []))
      | .slice n off len esz => cond (Nat.beq esz 1) (some (.read n fun ob => match ob with
        | .cells _ c => cond (Nat.ble (off + len) c.length) (match bytesA ((c.drop off).take len) with
          | some bs => some (.str bs)
          | none => none) none)) none
      | _ => none
    | _, _ => none
  | _ => none
theorem bytesStrA_ok {P : Program} {src dst : TypeId} {x : AVal} {e : EffA} (h : bytesStrA P src dst x = some e) {σ : Sig} {x' : Value} (hx : VR σ x x') {H H' : List (Nat × AObj)} {w : World} {base : Nat} {v : AVal}
    (ha : e.app base H = some (v, H')) (hr : HRel σ (aget H) w) : H' = H ∧ ∃ v', (convert src dst x').run P w = .ok v' w ∧ VR σ v v' := by
  unfold bytesStrA at h
  split at h
  · rename_i el hs
    split at h
    · rename_i he hd
      split at h
      · cases h
        simp only [EffA.app, Option.some.injEq, Prod.mk.injEq] at ha
        obtain ⟨rfl, rfl⟩ := ha
        cases hx
        refine ⟨rfl, .string ⟨([] : List UInt8).toArray⟩, ?_, .str []⟩
        rw [run_convert_bytes_string w src dst el _ _ _ hs he hd]
        rfl
      · rename_i n off len esz
        rcases beq_cases esz 1 with ⟨hz, hbe⟩ | ⟨hz, hbe⟩ <;> rw [hbe] at h <;> simp only [cond_true, cond_false, Option.some.injEq] at h
        · subst h; subst hz
          simp only [EffA.app] at ha
          cases hb : aget H n with
          | none => rw [hb] at ha; cases ha
          | some ob =>
            rw [hb] at ha
            cases ob with
            | cells ro c =>
              simp only at ha
              cases hbl : Nat.ble (off + len) c.length <;> rw [hbl] at ha <;> simp only [cond_true, cond_false] at ha
              · cases ha
              · cases hby : bytesA ((c.drop off).take len) with
                | none => rw [hby] at ha; cases ha
                | some bs =>
                  rw [hby] at ha
                  simp only [Option.some.injEq, Prod.mk.injEq] at ha
                  obtain ⟨rfl, rfl⟩ := ha
                  refine ⟨rfl, ?_⟩
                  cases hx with
                  | @slice _ _ _ _ p o cap hp ho hc hsz =>
                    obtain ⟨q, hq, hob⟩ := hr.obj n _ hb
                    rw [hp] at hq; cases hq
                    have hle := Nat.le_of_ble_eq_true hbl
                    have hbl2 : bs.length = len := by
                      obtain ⟨vs', g1, g2⟩ := loadRow (P := P) hob (off := off) (n := len) hle
                      have := bytesA_ok hby g2
                      have h3 := congrArg List.length this
                      have h4 := g2.1
                      simp at h3 h4
                      omega
                    have hld : (loadCells ⟨p.blk, o, none⟩ len).run P w = .ok ((bs.map fun b => (b.toNat : Int)).map (Value.int .u8)).toArray w := by
                      rcases ho with h0 | h0
                      · subst h0
                        have : bs = [] := List.eq_nil_of_length_eq_zero hbl2
                        subst this
                        rfl
                      · subst h0
                        obtain ⟨vs', g1, g2⟩ := loadRow (P := P) hob (off := off) (n := len) hle
                        rw [g1]
                        have h5 := bytesA_ok hby g2
                        congr 1
                        apply Array.toList_inj.1
                        rw [h5]; simp [Function.comp_def]
                    refine ⟨.string ⟨bs.toArray⟩, ?_, .str bs⟩
                    rw [run_convert_bytes_string w src dst el _ _ _ hs he hd, run_bytesToString w _ len cap _ hld, foldl_push]
                    simp [Function.comp_def]
        · cases h
      · cases h
    · cases h
  · cases h

def strBytesA (P : Program) (src dst : TypeId) (x : AVal) : Option EffA :=
  match P.underlying src, P.underlying dst with
  | some .string, some (.slice e) => match P.underlying e, szA P e, x with
    | some (.int .u8), some 1, .str s => some (sliceRowA (s.map .u8) s.length 1)
    | _, _, _ => none
  | _, _ => none
theorem strBytesA_ok {P : Program} {src dst : TypeId} {x : AVal} {e : EffA} (h : strBytesA P src dst x = some e) {σ : Sig} {x' : Value} (hx : VR σ x x') {H H' : List (Nat × AObj)} {w : World} {base : Nat} {v : AVal}
    (ha : e.app base H = some (v, H')) (hr : HRel σ (aget H) w) (hf : Free σ base) :
    ∃ σ' v' w', (convert src dst x').run P w = .ok v' w' ∧ VR σ' v v' ∧ HRel σ' (aget H') w' ∧ Frm σ (aget H) w σ' (aget H') w' ∧ Only σ σ' base := by
  unfold strBytesA at h
  split at h
  · rename_i el hs hd
    split at h
    · rename_i s he hsz
      cases h
      simp only [sliceRowA, EffA.app, Option.some.injEq, Prod.mk.injEq] at ha
      obtain ⟨rfl, rfl⟩ := ha
      cases hx
      have hn : σ base = none := hf 0 (by omega)
      generalize hcap : (Question.appendCap s.length 0 el).cut (w.tape w.drawn (.appendCap s.length 0 el)) = cap
      have hcl : s.length ≤ cap := by rw [← hcap]; simp [Question.cut]
      let c' : Array Value := (s.map fun b => Value.int .u8 b.toNat).toArray ++ Array.replicate (cap - s.length) (.int .u8 0)
      have hc' : c'.size = cap := by simp [c']; omega
      have hrun : (convert src dst (.string ⟨s.toArray⟩)).run P w = .ok (.slice (some ⟨w.heap.size, 0, none⟩) s.length cap) { w with drawn := w.drawn + 1, heap := w.heap.push (.cells c' el (cap, cap + 1)) } := by
        have hq : (Question.appendCap s.length 0 el).forced = false := rfl
        simp only [convert, Sem.run_bind, run_underlying hs, run_underlying hd, Result.andThen_ok, run_underlying he, Conv.stringToBytes, size_mk, run_choose, hq, Bool.false_eq_true, if_false, hcap]
        have e1 : ((s.toArray.map fun b => Value.int .u8 (b.toNat : Int)) ++ Array.replicate (cap - s.length) (.int .u8 0)) = c' := by simp [c']
        rw [e1]
        have hsh : World.shape? { heap := w.heap.push (.cells c' el (0, 0)), tape := w.tape, drawn := w.drawn + 1, os := w.os, output := w.output } w.heap.size = some (el, cap) := by simp [World.shape?, hc']
        simp only [newRow, Sem.run_bind, run_newObj, Result.andThen_ok, Sem.run_pure, markStringish, run_shape, hsh, run_freeze]
        have hfz : ∀ (X : World), X.heap = w.heap.push (.cells c' el (0, 0)) → (X.freeze ⟨w.heap.size, cap, none⟩ 1).heap = w.heap.push (.cells c' el (cap, cap + 1)) := fun X hX => by
          simp only [World.freeze, hX]
          rw [if_neg (by omega)]
          apply Array.ext_getElem?
          intro i
          simp only [Array.getElem?_modify, Array.getElem?_push]
          by_cases hi : i = w.heap.size
          · subst hi; simp
          · simp [hi, Ne.symm hi]
        have h9 := hfz { w with drawn := w.drawn + 1, heap := w.heap.push (.cells c' el (0, 0)) } rfl
        have h10 : ∀ (X : World) (A : Array Obj), X.heap = A → X = { X with heap := A } := fun X A h => by subst h; rfl
        have h11 : ∀ (X : World) (a : Addr), (X.freeze a 1).tape = X.tape ∧ (X.freeze a 1).drawn = X.drawn ∧ (X.freeze a 1).os = X.os ∧ (X.freeze a 1).output = X.output := fun X a => by simp [World.freeze]
        have h12 := h11 { w with drawn := w.drawn + 1, heap := w.heap.push (.cells c' el (0, 0)) } ⟨w.heap.size, cap, none⟩
        have h13 := h10 _ _ h9
        rw [h12.1, h12.2.1, h12.2.2.1, h12.2.2.2] at h13
        rw [h13]
      refine ⟨σ.set base ⟨w.heap.size, 0, cap⟩, _, _, hrun, .slice (Sig.set_same σ base _) (.inr rfl) hcl (by simp), ?_, ?_, fun n hn => Sig.set_other σ _ (by omega)⟩
      · rw [aget_aset_fun]
        refine hr.alloc' hn rfl ⟨c', el, (cap, cap + 1), by simp, hc', fun i v hi => ?_, fun _ => .inl (Nat.le_refl _)⟩
        rw [List.getElem?_map] at hi
        cases hsi : s[i]? with
        | none => rw [hsi] at hi; cases hi
        | some b =>
          rw [hsi] at hi; cases hi
          refine ⟨.int .u8 b.toNat, ?_, .u8 b⟩
          have hlt := (List.getElem?_eq_some_iff.1 hsi).1
          simp only [c', Nat.zero_add]
          rw [Array.getElem?_append_left (by simpa using hlt)]
          simp [hsi]
      · rw [aget_aset_fun]
        exact Frm.alloc' hr hn rfl ⟨rfl, rfl, rfl⟩
    · cases h
  · cases h

/-! ### a slice of an array in memory -/
def sliceArrA (P : Program) (t : TypeId) (x : AVal) (low high : Option AVal) : Option EffA :=
  match P.underlying t with
  | some (.array n e) => match szA P e, x, boundsA low high n with
    | some sz, .ptr nm off, some (l, h) => some (.read nm fun ob => match ob with
      | .cells _ c => cond (Nat.ble (off + n * sz) c.length && Nat.ble 1 c.length) (some (.slice nm (off + l * sz) (h - l) sz)) none)
    | _, _, _ => none
  | _ => none
theorem sliceArrA_ok {P : Program} {t : TypeId} {x : AVal} {low high : Option AVal} {e : EffA} (h : sliceArrA P t x low high = some e) {σ : Sig} {x' : Value} {low' high' : Option Value} (hx : VR σ x x') (hl : OptVR σ low low') (hh : OptVR σ high high')
    {H H' : List (Nat × AObj)} {w : World} {base : Nat} {v : AVal} (ha : e.app base H = some (v, H')) (hr : HRel σ (aget H) w) :
    H' = H ∧ ∃ v', (Instr.sliceAt t x' low' high' none).run P w = .ok v' w ∧ VR σ v v' := by
  unfold sliceArrA at h
  split at h
  · rename_i n el hu
    split at h
    · rename_i sz nm off lo hi hz hb
      cases h
      simp only [EffA.app] at ha
      cases hbk : aget H nm with
      | none => rw [hbk] at ha; cases ha
      | some ob =>
        rw [hbk] at ha
        cases ob with
        | cells ro c =>
          simp only at ha
          cases hbl : (Nat.ble (off + n * sz) c.length && Nat.ble 1 c.length) <;> rw [hbl] at ha <;> simp only [cond_true, cond_false, Option.some.injEq, Prod.mk.injEq] at ha
          · cases ha
          · obtain ⟨rfl, rfl⟩ := ha
            refine ⟨rfl, ?_⟩
            simp only [Bool.and_eq_true] at hbl
            have hb1 := Nat.le_of_ble_eq_true hbl.1
            have hb2 := Nat.le_of_ble_eq_true hbl.2
            cases hx with
            | @ptr _ _ p hp =>
              obtain ⟨q, hq, c', t', fz, e1, e2, e3, e4⟩ := hr.obj nm _ hbk
              rw [hp] at hq; cases hq
              obtain ⟨u', g1, _⟩ := e3 (c.length - 1) c[c.length - 1] (List.getElem?_eq_getElem (by omega))
              have hlt := (Array.getElem?_eq_some_iff.1 g1).1
              obtain ⟨hrb, h1, h2⟩ := run_boundsA (P := P) (b := false) (cap := n) hb hl hh (Nat.le_refl _) w
              refine ⟨.slice (some (if n = lo then ⟨p.blk, p.sh + off, none⟩ else (⟨p.blk, p.sh + off, none⟩ : Addr).add (lo * sz))) (hi - lo) (n - lo), ?_, ?_⟩
              · unfold Instr.sliceAt
                simp only [Sem.run_bind, run_underlying hu, Result.andThen_ok, Instr.sureAddr, Sem.run_pure, hrb, run_szA hz]
              · rw [add_mk]
                by_cases hcl : n = lo
                · rw [if_pos hcl]
                  have : hi - lo = 0 := by omega
                  rw [this]
                  exact .slice hp (.inl rfl) (by omega) (by rw [hcl]; simp; omega)
                · rw [if_neg hcl]
                  have hm : lo * sz + (n - lo) * sz = n * sz := by rw [← Nat.add_mul]; congr 1; omega
                  exact .slice hp (.inr (by omega)) (by omega) (by omega)
    · cases h
  · cases h
end Go.Eng
