/- The quarters of chacha: the reference's (a value) and the program's (through a pointer). -/
import Derived.Test.YthnejkbldfcpiaaChaSpec
namespace Go.Proofs.Ythnejkbldfcpiaa
open Go Go.Eng Go.Cha
set_option maxRecDepth 100000

def mask : FuncId → Nat := fun f => match f with | 2 => 0 | 3 => 268501447 | 4 => 33562383 | 5 => 87112285931760285332250127179466641767455 | 6 => 351 | 7 => 4551 | 8 => 19 | 9 => 590296091842272313287 | 10 => 609885634319 | 11 => 283602206479 | 12 => 19 | 13 => 928456800891898357834874823 | 14 => 5 | 15 => 1087 | 16 => 127 | 17 => 116767 | 18 => 269353199 | 19 => 51 | _ => 0
theorem hmix : Try.prog.follows .mixedOrders = true := by kernel_rfl
noncomputable def cs0 : CS := inl Try.prog mask 100 noCS 3
theorem cs0_ok : CSOk Try.prog cs0 := inl_ok hmix (noCS_ok _) 3

theorem rq0 (x0 x1 x2 x3 x4 x5 x6 x7 x8 x9 x10 x11 x12 x13 x14 x15 : UInt32) : (run1 Try.prog cs0 (mask 15) 100 15 [.agg ([x0, x1, x2, x3, x4, x5, x6, x7, x8, x9, x10, x11, x12, x13, x14, x15].map .u32), .int .i64 0, .int .i64 4, .int .i64 8, .int .i64 12] [] Try.prog.globals.size).map (·.1) = some (.agg ((quarter [x0, x1, x2, x3, x4, x5, x6, x7, x8, x9, x10, x11, x12, x13, x14, x15] 0 4 8 12).map .u32)) := by kernel_rfl
theorem pq0 (x0 x1 x2 x3 x4 x5 x6 x7 x8 x9 x10 x11 x12 x13 x14 x15 : UInt32) : (run1 Try.prog cs0 (mask 17) 100 17 [.ptr Try.prog.globals.size 0, .int .i64 0, .int .i64 4, .int .i64 8, .int .i64 12] [(Try.prog.globals.size, .cells false ([x0, x1, x2, x3, x4, x5, x6, x7, x8, x9, x10, x11, x12, x13, x14, x15].map .u32))] (Try.prog.globals.size + 1)).map (fun r => (r.1, aget r.2.1 Try.prog.globals.size)) = some (.tup [], some (.cells false ((quarter [x0, x1, x2, x3, x4, x5, x6, x7, x8, x9, x10, x11, x12, x13, x14, x15] 0 4 8 12).map .u32))) := by kernel_rfl
theorem rq1 (x0 x1 x2 x3 x4 x5 x6 x7 x8 x9 x10 x11 x12 x13 x14 x15 : UInt32) : (run1 Try.prog cs0 (mask 15) 100 15 [.agg ([x0, x1, x2, x3, x4, x5, x6, x7, x8, x9, x10, x11, x12, x13, x14, x15].map .u32), .int .i64 1, .int .i64 5, .int .i64 9, .int .i64 13] [] Try.prog.globals.size).map (·.1) = some (.agg ((quarter [x0, x1, x2, x3, x4, x5, x6, x7, x8, x9, x10, x11, x12, x13, x14, x15] 1 5 9 13).map .u32)) := by kernel_rfl
theorem pq1 (x0 x1 x2 x3 x4 x5 x6 x7 x8 x9 x10 x11 x12 x13 x14 x15 : UInt32) : (run1 Try.prog cs0 (mask 17) 100 17 [.ptr Try.prog.globals.size 0, .int .i64 1, .int .i64 5, .int .i64 9, .int .i64 13] [(Try.prog.globals.size, .cells false ([x0, x1, x2, x3, x4, x5, x6, x7, x8, x9, x10, x11, x12, x13, x14, x15].map .u32))] (Try.prog.globals.size + 1)).map (fun r => (r.1, aget r.2.1 Try.prog.globals.size)) = some (.tup [], some (.cells false ((quarter [x0, x1, x2, x3, x4, x5, x6, x7, x8, x9, x10, x11, x12, x13, x14, x15] 1 5 9 13).map .u32))) := by kernel_rfl
theorem rq2 (x0 x1 x2 x3 x4 x5 x6 x7 x8 x9 x10 x11 x12 x13 x14 x15 : UInt32) : (run1 Try.prog cs0 (mask 15) 100 15 [.agg ([x0, x1, x2, x3, x4, x5, x6, x7, x8, x9, x10, x11, x12, x13, x14, x15].map .u32), .int .i64 2, .int .i64 6, .int .i64 10, .int .i64 14] [] Try.prog.globals.size).map (·.1) = some (.agg ((quarter [x0, x1, x2, x3, x4, x5, x6, x7, x8, x9, x10, x11, x12, x13, x14, x15] 2 6 10 14).map .u32)) := by kernel_rfl
theorem pq2 (x0 x1 x2 x3 x4 x5 x6 x7 x8 x9 x10 x11 x12 x13 x14 x15 : UInt32) : (run1 Try.prog cs0 (mask 17) 100 17 [.ptr Try.prog.globals.size 0, .int .i64 2, .int .i64 6, .int .i64 10, .int .i64 14] [(Try.prog.globals.size, .cells false ([x0, x1, x2, x3, x4, x5, x6, x7, x8, x9, x10, x11, x12, x13, x14, x15].map .u32))] (Try.prog.globals.size + 1)).map (fun r => (r.1, aget r.2.1 Try.prog.globals.size)) = some (.tup [], some (.cells false ((quarter [x0, x1, x2, x3, x4, x5, x6, x7, x8, x9, x10, x11, x12, x13, x14, x15] 2 6 10 14).map .u32))) := by kernel_rfl
theorem rq3 (x0 x1 x2 x3 x4 x5 x6 x7 x8 x9 x10 x11 x12 x13 x14 x15 : UInt32) : (run1 Try.prog cs0 (mask 15) 100 15 [.agg ([x0, x1, x2, x3, x4, x5, x6, x7, x8, x9, x10, x11, x12, x13, x14, x15].map .u32), .int .i64 3, .int .i64 7, .int .i64 11, .int .i64 15] [] Try.prog.globals.size).map (·.1) = some (.agg ((quarter [x0, x1, x2, x3, x4, x5, x6, x7, x8, x9, x10, x11, x12, x13, x14, x15] 3 7 11 15).map .u32)) := by kernel_rfl
theorem pq3 (x0 x1 x2 x3 x4 x5 x6 x7 x8 x9 x10 x11 x12 x13 x14 x15 : UInt32) : (run1 Try.prog cs0 (mask 17) 100 17 [.ptr Try.prog.globals.size 0, .int .i64 3, .int .i64 7, .int .i64 11, .int .i64 15] [(Try.prog.globals.size, .cells false ([x0, x1, x2, x3, x4, x5, x6, x7, x8, x9, x10, x11, x12, x13, x14, x15].map .u32))] (Try.prog.globals.size + 1)).map (fun r => (r.1, aget r.2.1 Try.prog.globals.size)) = some (.tup [], some (.cells false ((quarter [x0, x1, x2, x3, x4, x5, x6, x7, x8, x9, x10, x11, x12, x13, x14, x15] 3 7 11 15).map .u32))) := by kernel_rfl
theorem rq4 (x0 x1 x2 x3 x4 x5 x6 x7 x8 x9 x10 x11 x12 x13 x14 x15 : UInt32) : (run1 Try.prog cs0 (mask 15) 100 15 [.agg ([x0, x1, x2, x3, x4, x5, x6, x7, x8, x9, x10, x11, x12, x13, x14, x15].map .u32), .int .i64 0, .int .i64 5, .int .i64 10, .int .i64 15] [] Try.prog.globals.size).map (·.1) = some (.agg ((quarter [x0, x1, x2, x3, x4, x5, x6, x7, x8, x9, x10, x11, x12, x13, x14, x15] 0 5 10 15).map .u32)) := by kernel_rfl
theorem pq4 (x0 x1 x2 x3 x4 x5 x6 x7 x8 x9 x10 x11 x12 x13 x14 x15 : UInt32) : (run1 Try.prog cs0 (mask 17) 100 17 [.ptr Try.prog.globals.size 0, .int .i64 0, .int .i64 5, .int .i64 10, .int .i64 15] [(Try.prog.globals.size, .cells false ([x0, x1, x2, x3, x4, x5, x6, x7, x8, x9, x10, x11, x12, x13, x14, x15].map .u32))] (Try.prog.globals.size + 1)).map (fun r => (r.1, aget r.2.1 Try.prog.globals.size)) = some (.tup [], some (.cells false ((quarter [x0, x1, x2, x3, x4, x5, x6, x7, x8, x9, x10, x11, x12, x13, x14, x15] 0 5 10 15).map .u32))) := by kernel_rfl
theorem rq5 (x0 x1 x2 x3 x4 x5 x6 x7 x8 x9 x10 x11 x12 x13 x14 x15 : UInt32) : (run1 Try.prog cs0 (mask 15) 100 15 [.agg ([x0, x1, x2, x3, x4, x5, x6, x7, x8, x9, x10, x11, x12, x13, x14, x15].map .u32), .int .i64 1, .int .i64 6, .int .i64 11, .int .i64 12] [] Try.prog.globals.size).map (·.1) = some (.agg ((quarter [x0, x1, x2, x3, x4, x5, x6, x7, x8, x9, x10, x11, x12, x13, x14, x15] 1 6 11 12).map .u32)) := by kernel_rfl
theorem pq5 (x0 x1 x2 x3 x4 x5 x6 x7 x8 x9 x10 x11 x12 x13 x14 x15 : UInt32) : (run1 Try.prog cs0 (mask 17) 100 17 [.ptr Try.prog.globals.size 0, .int .i64 1, .int .i64 6, .int .i64 11, .int .i64 12] [(Try.prog.globals.size, .cells false ([x0, x1, x2, x3, x4, x5, x6, x7, x8, x9, x10, x11, x12, x13, x14, x15].map .u32))] (Try.prog.globals.size + 1)).map (fun r => (r.1, aget r.2.1 Try.prog.globals.size)) = some (.tup [], some (.cells false ((quarter [x0, x1, x2, x3, x4, x5, x6, x7, x8, x9, x10, x11, x12, x13, x14, x15] 1 6 11 12).map .u32))) := by kernel_rfl
theorem rq6 (x0 x1 x2 x3 x4 x5 x6 x7 x8 x9 x10 x11 x12 x13 x14 x15 : UInt32) : (run1 Try.prog cs0 (mask 15) 100 15 [.agg ([x0, x1, x2, x3, x4, x5, x6, x7, x8, x9, x10, x11, x12, x13, x14, x15].map .u32), .int .i64 2, .int .i64 7, .int .i64 8, .int .i64 13] [] Try.prog.globals.size).map (·.1) = some (.agg ((quarter [x0, x1, x2, x3, x4, x5, x6, x7, x8, x9, x10, x11, x12, x13, x14, x15] 2 7 8 13).map .u32)) := by kernel_rfl
theorem pq6 (x0 x1 x2 x3 x4 x5 x6 x7 x8 x9 x10 x11 x12 x13 x14 x15 : UInt32) : (run1 Try.prog cs0 (mask 17) 100 17 [.ptr Try.prog.globals.size 0, .int .i64 2, .int .i64 7, .int .i64 8, .int .i64 13] [(Try.prog.globals.size, .cells false ([x0, x1, x2, x3, x4, x5, x6, x7, x8, x9, x10, x11, x12, x13, x14, x15].map .u32))] (Try.prog.globals.size + 1)).map (fun r => (r.1, aget r.2.1 Try.prog.globals.size)) = some (.tup [], some (.cells false ((quarter [x0, x1, x2, x3, x4, x5, x6, x7, x8, x9, x10, x11, x12, x13, x14, x15] 2 7 8 13).map .u32))) := by kernel_rfl
theorem rq7 (x0 x1 x2 x3 x4 x5 x6 x7 x8 x9 x10 x11 x12 x13 x14 x15 : UInt32) : (run1 Try.prog cs0 (mask 15) 100 15 [.agg ([x0, x1, x2, x3, x4, x5, x6, x7, x8, x9, x10, x11, x12, x13, x14, x15].map .u32), .int .i64 3, .int .i64 4, .int .i64 9, .int .i64 14] [] Try.prog.globals.size).map (·.1) = some (.agg ((quarter [x0, x1, x2, x3, x4, x5, x6, x7, x8, x9, x10, x11, x12, x13, x14, x15] 3 4 9 14).map .u32)) := by kernel_rfl
theorem pq7 (x0 x1 x2 x3 x4 x5 x6 x7 x8 x9 x10 x11 x12 x13 x14 x15 : UInt32) : (run1 Try.prog cs0 (mask 17) 100 17 [.ptr Try.prog.globals.size 0, .int .i64 3, .int .i64 4, .int .i64 9, .int .i64 14] [(Try.prog.globals.size, .cells false ([x0, x1, x2, x3, x4, x5, x6, x7, x8, x9, x10, x11, x12, x13, x14, x15].map .u32))] (Try.prog.globals.size + 1)).map (fun r => (r.1, aget r.2.1 Try.prog.globals.size)) = some (.tup [], some (.cells false ((quarter [x0, x1, x2, x3, x4, x5, x6, x7, x8, x9, x10, x11, x12, x13, x14, x15] 3 4 9 14).map .u32))) := by kernel_rfl

/-- Which four words. -/
def okq : Int → Int → Int → Int → Bool
  | 0, 4, 8, 12 => true
  | 1, 5, 9, 13 => true
  | 2, 6, 10, 14 => true
  | 3, 7, 11, 15 => true
  | 0, 5, 10, 15 => true
  | 1, 6, 11, 12 => true
  | 2, 7, 8, 13 => true
  | 3, 4, 9, 14 => true
  | _, _, _, _ => false
theorem okq_cases {a b c d : Int} (h : okq a b c d = true) : (a = 0 ∧ b = 4 ∧ c = 8 ∧ d = 12) ∨ (a = 1 ∧ b = 5 ∧ c = 9 ∧ d = 13) ∨ (a = 2 ∧ b = 6 ∧ c = 10 ∧ d = 14) ∨ (a = 3 ∧ b = 7 ∧ c = 11 ∧ d = 15) ∨ (a = 0 ∧ b = 5 ∧ c = 10 ∧ d = 15) ∨ (a = 1 ∧ b = 6 ∧ c = 11 ∧ d = 12) ∨ (a = 2 ∧ b = 7 ∧ c = 8 ∧ d = 13) ∨ (a = 3 ∧ b = 4 ∧ c = 9 ∧ d = 14) := by
  unfold okq at h
  split at h <;> first | (cases h; done) | simp


theorem okMap {α β : Type} {x : Option α} {g : α → β} {y : β} (h : x.map g = some y) : ∃ r, x = some r ∧ g r = y := by
  cases x with
  | none => cases h
  | some r => exact ⟨r, rfl, Option.some.inj h⟩
theorem rq_any {x : List UInt32} (hx : x.length = 16) {a b c d : Int} (h : okq a b c d = true) : ∃ r, run1 Try.prog cs0 (mask 15) 100 15 [.agg (x.map .u32), .int .i64 a, .int .i64 b, .int .i64 c, .int .i64 d] [] Try.prog.globals.size = some r ∧ r.1 = .agg ((quarter x a.toNat b.toNat c.toNat d.toNat).map .u32) := by
  obtain ⟨x0, x1, x2, x3, x4, x5, x6, x7, x8, x9, x10, x11, x12, x13, x14, x15, rfl⟩ := sixteen hx
  rcases okq_cases h with ⟨rfl, rfl, rfl, rfl⟩ | ⟨rfl, rfl, rfl, rfl⟩ | ⟨rfl, rfl, rfl, rfl⟩ | ⟨rfl, rfl, rfl, rfl⟩ | ⟨rfl, rfl, rfl, rfl⟩ | ⟨rfl, rfl, rfl, rfl⟩ | ⟨rfl, rfl, rfl, rfl⟩ | ⟨rfl, rfl, rfl, rfl⟩
  · exact okMap (rq0 x0 x1 x2 x3 x4 x5 x6 x7 x8 x9 x10 x11 x12 x13 x14 x15)
  · exact okMap (rq1 x0 x1 x2 x3 x4 x5 x6 x7 x8 x9 x10 x11 x12 x13 x14 x15)
  · exact okMap (rq2 x0 x1 x2 x3 x4 x5 x6 x7 x8 x9 x10 x11 x12 x13 x14 x15)
  · exact okMap (rq3 x0 x1 x2 x3 x4 x5 x6 x7 x8 x9 x10 x11 x12 x13 x14 x15)
  · exact okMap (rq4 x0 x1 x2 x3 x4 x5 x6 x7 x8 x9 x10 x11 x12 x13 x14 x15)
  · exact okMap (rq5 x0 x1 x2 x3 x4 x5 x6 x7 x8 x9 x10 x11 x12 x13 x14 x15)
  · exact okMap (rq6 x0 x1 x2 x3 x4 x5 x6 x7 x8 x9 x10 x11 x12 x13 x14 x15)
  · exact okMap (rq7 x0 x1 x2 x3 x4 x5 x6 x7 x8 x9 x10 x11 x12 x13 x14 x15)
theorem pq_any {x : List UInt32} (hx : x.length = 16) {a b c d : Int} (h : okq a b c d = true) : ∃ r, run1 Try.prog cs0 (mask 17) 100 17 [.ptr Try.prog.globals.size 0, .int .i64 a, .int .i64 b, .int .i64 c, .int .i64 d] [(Try.prog.globals.size, .cells false (x.map .u32))] (Try.prog.globals.size + 1) = some r ∧ (r.1, aget r.2.1 Try.prog.globals.size) = (.tup [], some (.cells false ((quarter x a.toNat b.toNat c.toNat d.toNat).map .u32))) := by
  obtain ⟨x0, x1, x2, x3, x4, x5, x6, x7, x8, x9, x10, x11, x12, x13, x14, x15, rfl⟩ := sixteen hx
  rcases okq_cases h with ⟨rfl, rfl, rfl, rfl⟩ | ⟨rfl, rfl, rfl, rfl⟩ | ⟨rfl, rfl, rfl, rfl⟩ | ⟨rfl, rfl, rfl, rfl⟩ | ⟨rfl, rfl, rfl, rfl⟩ | ⟨rfl, rfl, rfl, rfl⟩ | ⟨rfl, rfl, rfl, rfl⟩ | ⟨rfl, rfl, rfl, rfl⟩
  · exact okMap (pq0 x0 x1 x2 x3 x4 x5 x6 x7 x8 x9 x10 x11 x12 x13 x14 x15)
  · exact okMap (pq1 x0 x1 x2 x3 x4 x5 x6 x7 x8 x9 x10 x11 x12 x13 x14 x15)
  · exact okMap (pq2 x0 x1 x2 x3 x4 x5 x6 x7 x8 x9 x10 x11 x12 x13 x14 x15)
  · exact okMap (pq3 x0 x1 x2 x3 x4 x5 x6 x7 x8 x9 x10 x11 x12 x13 x14 x15)
  · exact okMap (pq4 x0 x1 x2 x3 x4 x5 x6 x7 x8 x9 x10 x11 x12 x13 x14 x15)
  · exact okMap (pq5 x0 x1 x2 x3 x4 x5 x6 x7 x8 x9 x10 x11 x12 x13 x14 x15)
  · exact okMap (pq6 x0 x1 x2 x3 x4 x5 x6 x7 x8 x9 x10 x11 x12 x13 x14 x15)
  · exact okMap (pq7 x0 x1 x2 x3 x4 x5 x6 x7 x8 x9 x10 x11 x12 x13 x14 x15)

/-- What the two quarters do. -/
def q15 (c : List AVal) (a b c' d : Int) : Option EffA :=
  match words32 c with
  | some x => cond (Nat.beq x.length 16 && okq a b c' d) (some (.pure (.agg ((quarter x a.toNat b.toNat c'.toNat d.toNat).map .u32)))) none
  | none => none
def q17 (n : Nat) (a b c d : Int) : EffA :=
  .eff fun _ η => match η n with
    | some (.cells false cs) => match words32 cs with
      | some x => cond (Nat.beq x.length 16 && okq a b c d) (some (.tup [], [(n, some (.cells false ((quarter x a.toNat b.toNat c.toNat d.toNat).map .u32)))])) none
      | none => none
    | _ => none
def csQ : CS := fun f args => match Nat.beq f 15 with
  | true => match args with
    | [.agg c, .int .i64 a, .int .i64 b, .int .i64 c', .int .i64 d] => q15 c a b c' d
    | _ => none
  | false => match Nat.beq f 17 with
    | true => match args with
      | [.ptr n 0, .int .i64 a, .int .i64 b, .int .i64 c', .int .i64 d] => some (q17 n a b c' d)
      | _ => none
    | false => none
theorem csQ_ok : CSOk Try.prog csQ := by
  intro f args e h
  unfold csQ at h
  split at h
  · rename_i hf
    have hf := Nat.eq_of_beq_eq_true hf
    subst hf
    split at h
    · rename_i c a b c' d
      unfold q15 at h
      split at h
      · rename_i x hx
        cases hb : (Nat.beq x.length 16 && okq a b c' d) <;> rw [hb] at h <;> simp only [cond_true, cond_false, Option.some.injEq] at h
        · cases h
        · subst h
          simp only [Bool.and_eq_true] at hb
          have hl := Nat.eq_of_beq_eq_true hb.1
          rw [words32_eq hx]
          obtain ⟨r, h1, h2⟩ := rq_any hl hb.2
          rw [← h2]
          refine callOk_run cs0_ok hmix h1 ?_ ?_
          · simp only [allV, ltV, ltL_u32, ltS, cond_true]
          · rw [h2]; exact ltL_u32 0 _
      · cases h
    · cases h
  · split at h
    · rename_i hf
      have hf := Nat.eq_of_beq_eq_true hf
      subst hf
      split at h
      · rename_i n a b c d
        cases h
        refine (callOk_blk cs0_ok hmix (nn := mask 17) (F := 100) (f := 17) (n := n) (off := 0) (rest := [.int .i64 a, .int .i64 b, .int .i64 c, .int .i64 d]) rfl).less fun base H r hr => ?_
        simp only [q17, EffA.app] at hr
        cases hn : aget H n with
        | none => rw [hn] at hr; cases hr
        | some ob =>
          rw [hn] at hr
          cases ob with
          | cells ro cs =>
            cases ro with
            | true => cases hr
            | false =>
              simp only at hr
              cases hx : words32 cs with
              | none => rw [hx] at hr; cases hr
              | some x =>
                rw [hx] at hr
                simp only at hr
                cases hb : (Nat.beq x.length 16 && okq a b c d) <;> rw [hb] at hr <;> simp only [cond_true, cond_false, appU] at hr
                · cases hr
                · cases hr
                  simp only [Bool.and_eq_true] at hb
                  have hl := Nat.eq_of_beq_eq_true hb.1
                  obtain ⟨r, h1, h2⟩ := pq_any hl hb.2
                  rw [Prod.mk.injEq] at h2
                  have hcs := words32_eq hx
                  subst hcs
                  exact blkE_app hn (ltL_u32 0 x) h1 h2.1 h2.2 rfl (ltL_u32 0 _)
      · cases h
    · cases h
noncomputable def cs1 : CS := inl Try.prog mask 100 csQ 3
theorem cs1_ok : CSOk Try.prog cs1 := inl_ok hmix csQ_ok 3
end Go.Proofs.Ythnejkbldfcpiaa
