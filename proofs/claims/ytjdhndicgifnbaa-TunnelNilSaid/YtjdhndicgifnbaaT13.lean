/- Texts Tt6, Eng50, Eng51, Tt7, Tt8, Eng52, Td1, Td2, Td3, Eng53, Td4: what they show stands ahead of each. -/
import Derived.Test.YtjdhndicgifnbaaT12
import Derived.Test.YtjdhndicgifnbaaT6
import Derived.Test.YtjdhndicgifnbaaT7
/- Tunnels: a text is sealed, opened. -/
namespace Go.Proofs.Ytjdhndicgifnbaa.Tun
set_option linter.unusedVariables false
set_option linter.unusedSimpArgs false
open Go Go.Eng Go.Proofs.Ytjdhndicgifnbaa
set_option maxRecDepth 100000
set_option maxHeartbeats 1000000
set_option linter.unusedSimpArgs false
set_option linter.unusedVariables false
def csS (φ : Ae.Fn) : CS := csAlt (csP (Ae.psn φ)) (csAlt (csOne 12 g12) (csAlt (csOne 36 g36) (csAlt (csOne 40 g40) (csAlt (csOne 42 g42) (Ae.nb φ)))))
theorem csS_ok : CSOk Try.prog (csS Ae.realFn) := csAlt_ok Ae.psn_ok (csAlt_ok g12_ok (csAlt_ok g36_ok (csAlt_ok g40_ok (csAlt_ok g42_ok Ae.nb_ok))))
section
variable (φ : Ae.Fn) (s : Tn) (now n : UInt64) (x : List UInt8) (e r : Int) (w2 : Wn)
def sy19 : List Nat := [300011, 300015, 26, 33, 49]
theorem w19a : ansM [0, 1, 2, 3] (run1O Try.prog noPS (csS φ) sy19 [] [.bool false, .tup (bkT s), .bool true, .tup (bkT s)] (mask 19) 100 19 [.ptr 0 0, .u64 now, .str x] (hT 0 1 2 3 s) 4) = some (.tup [.u64 0, .str [], .int .i64 180], oT 1 2 3 s, [o12 68 now s true, o36 36 s]) := by kernel_rfl
theorem w19b : ansM [0, 1, 2, 3] (run1O Try.prog noPS (csS φ) sy19 [true] [.bool false, .tup (bkT s), .bool false, .tup (bkT s)] (mask 19) 100 19 [.ptr 0 0, .u64 now, .str x] (hT 0 1 2 3 s) 4) = some (.tup [.u64 0, .str [], .int .i64 180], oT 1 2 3 s, [decide (s.ct ≤ s.next), o12 68 now s false, o36 36 s]) := by kernel_rfl
theorem w19c : ansM [0, 1, 2, 3] (run1O Try.prog noPS (csS φ) sy19 [false, true] [.bool false, .tup (bkT s), .bool false, .tup (bkT s)] (mask 19) 100 19 [.ptr 0 0, .u64 now, .str x] (hT 0 1 2 3 s) 4) = some (.tup [.u64 0, .str [], .int .i64 3], oT 1 2 3 s, [!s.sure, !decide (s.ct ≤ s.next), o12 68 now s false, o36 36 s]) := by kernel_rfl
theorem w19d : ansM [0, 1, 2, 3] (run1O Try.prog noPS (csS φ) sy19 [false, false, true] [.bool false, .tup (bkT s), .bool false, .tup (bkT s)] (mask 19) 100 19 [.ptr 0 0, .u64 now, .str x] (hT 0 1 2 3 s) 4) = some (.tup [.u64 0, .str [], .int .i64 (φ.sr s.send (Ae.nonL s.next) [] x)], oT 1 2 3 s, [φ.sr s.send (Ae.nonL s.next) [] x != 0, !!s.sure, !decide (s.ct ≤ s.next), o12 68 now s false, o36 36 s]) := by kernel_rfl
theorem w19e : ansM [0, 1, 2, 3] (run1O Try.prog noPS (csS φ) sy19 [false, false, false] [.bool false, .tup (bkT s), .bool false, .tup (bkT s)] (mask 19) 100 19 [.ptr 0 0, .u64 now, .str x] (hT 0 1 2 3 s) 4) = some (.tup [.u64 (s.next + 1 - 1), .str (φ.sv s.send (Ae.nonL s.next) [] x), .int .i64 0], oT 1 2 3 { s with next := s.next + 1 }, [!(φ.sr s.send (Ae.nonL s.next) [] x != 0), !!s.sure, !decide (s.ct ≤ s.next), o12 68 now s false, o36 36 s]) := by kernel_rfl
theorem w19n : (run1 Try.prog (csS φ) (mask 19) 100 19 [.nilPtr, .u64 now, .str x] [] Try.prog.globals.size).map (·.1) = some (.tup [.u64 0, .str [], .int .i64 1]) := by kernel_rfl
end
/-- One more is sent. -/
def incT (s : Tn) : Tn := { s with next := s.next + 1 }
/-- What is opened is marked. -/
def opnT (n : UInt64) (s : Tn) : Tn := { s with w := markW n s.w, sure := true }
/-- Does a text go, and as what? -/
def sealG (now : UInt64) (x : List UInt8) (s : Tn) : Bool := !overT now s && (!decide (s.ct ≤ s.next) && (s.sure && !((Ae.seF s.send (Ae.nonL s.next) [] x).2 != 0)))
def sealE (now : UInt64) (x : List UInt8) (s : Tn) : Int := cond (overT now s) 180 (cond (decide (s.ct ≤ s.next)) 180 (cond s.sure (Ae.seF s.send (Ae.nonL s.next) [] x).2 3))
def sealV (now : UInt64) (x : List UInt8) (s : Tn) : AVal := cond (sealG now x s) (.tup [.u64 s.next, .str (Ae.seF s.send (Ae.nonL s.next) [] x).1, .int .i64 0]) (.tup [.u64 0, .str [], .int .i64 (sealE now x s)])
def sealN (now : UInt64) (x : List UInt8) (s : Tn) : Tn := cond (sealG now x s) (incT s) s
def g19 : List AVal → Option EffA
  | [.ptr t 0, .u64 now, .str x] => some (methE clsT clsT srcT t (fun _ s => sealV now x s) (sealN now x) fun _ => true)
  | [.nilPtr, .u64 now, .str x] => some (.pure (.tup [.u64 0, .str [], .int .i64 1]))
  | _ => none
theorem lt_sealV (now : UInt64) (x : List UInt8) (s : Tn) : ltV 0 (sealV now x s) = true := by
  unfold sealV
  cases sealG now x s <;> rfl
theorem add_sub_one (n : UInt64) : n + 1 - 1 = n := by simp
theorem run19 (now : UInt64) (x : List UInt8) (s : Tn) : MethRun Try.prog (csS Ae.realFn) 19 clsT clsT srcT [.u64 now, .str x] s (fun _ => sealV now x s) (sealN now x s) := by
  have n68 : nodupB [68, 0, 1, 2, 3] = true := rfl
  have h6 := o36_ok (show nodupB [36, 0, 1, 2, 3] = true from rfl) s
  unfold sealV sealN sealG sealE
  cases h0 : overT now s with
  | true => exact methRun_of (noPS_ok _) gl 4 (w19a _ s now x) (by simp only [allT, o12_ok n68 h0, h6, cond_true]) rfl
  | false =>
    simp only [Bool.not_false, Bool.true_and, cond_false]
    cases h1 : decide (s.ct ≤ s.next) with
    | true =>
      simp only [Bool.not_true, Bool.false_and, cond_false, cond_true]
      exact methRun_of (noPS_ok _) gl 4 (w19b _ s now x) (by simp only [allT, o12_ok n68 h0, h6, h1, cond_true]) rfl
    | false =>
      simp only [Bool.not_false, Bool.true_and, cond_false]
      cases h2 : s.sure with
      | false =>
        simp only [Bool.false_and, cond_false]
        exact methRun_of (noPS_ok _) gl 4 (w19c _ s now x) (by simp only [allT, o12_ok n68 h0, h6, h1, h2, Bool.not_false, cond_true]) rfl
      | true =>
        simp only [Bool.true_and, cond_true]
        have hd := w19d Ae.realFn s now x
        have he := w19e Ae.realFn s now x
        rw [add_sub_one] at he
        cases h3 : ((Ae.seF s.send (Ae.nonL s.next) [] x).2 != 0) with
        | true =>
          simp only [Bool.not_true, cond_false]
          have h3' : (Ae.realFn.sr s.send (Ae.nonL s.next) [] x != 0) = true := h3
          exact methRun_of (noPS_ok _) gl 4 hd (by simp only [allT, o12_ok n68 h0, h6, h1, h2, h3', Bool.not_false, Bool.not_true, cond_true]) rfl
        | false =>
          simp only [Bool.not_false, cond_true]
          have h3' : (Ae.realFn.sr s.send (Ae.nonL s.next) [] x != 0) = false := h3
          exact methRun_of (noPS_ok _) gl 4 he (by simp only [allT, o12_ok n68 h0, h6, h1, h2, h3', Bool.not_false, Bool.not_true, cond_true]) rfl
theorem g19_ok : CSOk Try.prog (csOne 19 g19) := csOne_ok fun args e he => by
  unfold g19 at he
  split at he
  · cases he
    exact meth_ok csS_ok hmix rfl (by decide) (by decide) srcT_lt rfl fun s hs => ⟨relT s, relT _, .plain (lt_sealV _ _ s), run19 _ _ s⟩
  · cases he
    exact callOk_val csS_ok hmix (w19n Ae.realFn _ _) rfl rfl
  · cases he
/-! ### open -/
theorem mWin {val : List Nat → Wn → AVal} {next : Wn → Wn} {ok : Wn → Bool} {s : Tn} {base : Nat} (hb : nodupB [base, 1, 2] = true) (ho : ok s.w = true) : mOb (methE clsW clsW srcW 1 val next ok) base (hT 0 1 2 3 s) (val [1, 2] s.w) (hT 0 1 2 3 { s with w := next s.w }) = true := by
  refine decP_of ?_
  rw [methE_app (C := clsW) (C2 := clsW) (ns := [1, 2]) (s := s.w) (wFind_at (w := 1) (b := 2) rfl rfl) hb ho]
  rfl
noncomputable def o40t (base : Nat) (n : UInt64) (s : Tn) (e : Int) : Bool := mOb (methE clsW clsW srcW 1 (fun _ s => .int .i64 (mayW n s)) id okW) base (hT 0 1 2 3 s) (.int .i64 e) (hT 0 1 2 3 s)
noncomputable def o42t (base : Nat) (n : UInt64) (s : Tn) (e : Int) (w2 : Wn) : Bool := mOb (methE clsW clsW srcW 1 (fun _ s => .int .i64 (mayW n s)) (markW n) okW) base (hT 0 1 2 3 s) (.int .i64 e) (hT 0 1 2 3 { s with w := w2 })
theorem o40t_ok {base : Nat} (hb : nodupB [base, 1, 2] = true) {n : UInt64} {s : Tn} (h : okW s.w = true) : o40t base n s (mayW n s.w) = true := mWin (val := fun _ s => .int .i64 (mayW n s)) (next := id) (ok := okW) (s := s) hb h
theorem o42t_ok {base : Nat} (hb : nodupB [base, 1, 2] = true) {n : UInt64} {s : Tn} (h : okW s.w = true) : o42t base n s (mayW n s.w) (markW n s.w) = true := mWin (val := fun _ s => .int .i64 (mayW n s)) (next := markW n) (ok := okW) (s := s) hb h
def sy20 : List Nat := [300015, 300019, 27, 300034, 36, 46, 50, 300057]
section
variable (φ : Ae.Fn) (s : Tn) (now n : UInt64) (c : List UInt8) (e r : Int) (w2 : Wn)
theorem w20a : ansM [0, 1, 2, 3] (run1O Try.prog (Ae.psn φ) (csS φ) sy20 [] [.bool false, .tup (bkT s), .bool true, .tup (bkT s)] (mask 20) 100 20 [.ptr 0 0, .u64 now, .u64 n, .str c] (hT 0 1 2 3 s) 4) = some (.tup [.str [], .int .i64 180], oT 1 2 3 s, [o12 60 now s true, o36 28 s]) := by kernel_rfl
theorem w20b : ansM [0, 1, 2, 3] (run1O Try.prog (Ae.psn φ) (csS φ) sy20 [true] [.bool false, .tup (bkT s), .bool false, .tup (bkT s)] (mask 20) 100 20 [.ptr 0 0, .u64 now, .u64 n, .str c] (hT 0 1 2 3 s) 4) = some (.tup [.str [], .int .i64 180], oT 1 2 3 s, [decide (s.ct ≤ n), o12 60 now s false, o36 28 s]) := by kernel_rfl
theorem w20c : ansM [0, 1, 2, 3] (run1O Try.prog (Ae.psn φ) (csS φ) sy20 [false, true] [.bool false, .tup (bkT s), .bool false, .tup (bkT s), .int .i64 e, .tup (bkT s)] (mask 20) 100 20 [.ptr 0 0, .u64 now, .u64 n, .str c] (hT 0 1 2 3 s) 4) = some (.tup [.str [], .int .i64 e], oT 1 2 3 s, [e != 0, o40t 188 n s e, !decide (s.ct ≤ n), o12 60 now s false, o36 28 s]) := by kernel_rfl
theorem w20d : ansM [0, 1, 2, 3] (run1O Try.prog (Ae.psn φ) (csS φ) sy20 [false, false, true] [.bool false, .tup (bkT s), .bool false, .tup (bkT s), .int .i64 e, .tup (bkT s)] (mask 20) 100 20 [.ptr 0 0, .u64 now, .u64 n, .str c] (hT 0 1 2 3 s) 4) = some (.tup [.str [], .int .i64 (φ.wr s.recv (Ae.nonL n) [] c)], oT 1 2 3 s, [φ.wr s.recv (Ae.nonL n) [] c != 0, φ.sl c, !(e != 0), o40t 188 n s e, !decide (s.ct ≤ n), o12 60 now s false, o36 28 s]) := by kernel_rfl
theorem w20e : ansM [0, 1, 2, 3] (run1O Try.prog (Ae.psn φ) (csS φ) sy20 [false, false, false] [.bool false, .tup (bkT s), .bool false, .tup (bkT s), .int .i64 e, .tup (bkT s), .int .i64 r, .tup (bkT { s with w := w2 })] (mask 20) 100 20 [.ptr 0 0, .u64 now, .u64 n, .str c] (hT 0 1 2 3 s) 4) = some (.tup [.str (φ.ov s.recv (Ae.nonL n) [] c), .int .i64 0], oT 1 2 3 { s with w := w2, sure := true }, [o42t 380 n s r w2, !(φ.wr s.recv (Ae.nonL n) [] c != 0), φ.sl c, !(e != 0), o40t 188 n s e, !decide (s.ct ≤ n), o12 60 now s false, o36 28 s]) := by kernel_rfl
theorem w20n : (run1 Try.prog (csS φ) (mask 20) 100 20 [.nilPtr, .u64 now, .u64 n, .str c] [] Try.prog.globals.size).map (·.1) = some (.tup [.str [], .int .i64 1]) := by kernel_rfl
end
def openG (now n : UInt64) (c : List UInt8) (s : Tn) : Bool := !overT now s && (!decide (s.ct ≤ n) && (!(mayW n s.w != 0) && !((Ae.opF s.recv (Ae.nonL n) [] c).2 != 0)))
def openE (now n : UInt64) (c : List UInt8) (s : Tn) : Int := cond (overT now s) 180 (cond (decide (s.ct ≤ n)) 180 (cond (mayW n s.w != 0) (mayW n s.w) (Ae.opF s.recv (Ae.nonL n) [] c).2))
def openV (now n : UInt64) (c : List UInt8) (s : Tn) : AVal := cond (openG now n c s) (.tup [.str (Ae.opF s.recv (Ae.nonL n) [] c).1, .int .i64 0]) (.tup [.str [], .int .i64 (openE now n c s)])
def openN (now n : UInt64) (c : List UInt8) (s : Tn) : Tn := cond (openG now n c s) (opnT n s) s
theorem lt_openV (now n : UInt64) (c : List UInt8) (s : Tn) : ltV 0 (openV now n c s) = true := by
  unfold openV
  cases openG now n c s <;> rfl
theorem run20 (now n : UInt64) (c : List UInt8) (hc : Ae.slR c = true) (s : Tn) (hs : okW s.w = true) : MethRun Try.prog (csS Ae.realFn) 20 clsT clsT srcT [.u64 now, .u64 n, .str c] s (fun _ => openV now n c s) (openN now n c s) := by
  have n60 : nodupB [60, 0, 1, 2, 3] = true := rfl
  have h6 := o36_ok (show nodupB [28, 0, 1, 2, 3] = true from rfl) s
  have h4 := o40t_ok (show nodupB [188, 1, 2] = true from rfl) (n := n) hs
  have h42 := o42t_ok (show nodupB [380, 1, 2] = true from rfl) (n := n) hs
  have hc' : Ae.realFn.sl c = true := hc
  have hps : PSOk (Ae.psn Ae.realFn) (csS Ae.realFn) := csP_ok
  unfold openV openN openG openE
  cases h0 : overT now s with
  | true => exact methRun_of hps gl 4 (w20a _ s now n c) (by simp only [allT, o12_ok n60 h0, h6, cond_true]) rfl
  | false =>
    simp only [Bool.not_false, Bool.true_and, cond_false]
    cases h1 : decide (s.ct ≤ n) with
    | true =>
      simp only [Bool.not_true, Bool.false_and, cond_false, cond_true]
      exact methRun_of hps gl 4 (w20b _ s now n c) (by simp only [allT, o12_ok n60 h0, h6, h1, cond_true]) rfl
    | false =>
      simp only [Bool.not_false, Bool.true_and, cond_false]
      cases h2 : (mayW n s.w != 0) with
      | true =>
        simp only [Bool.not_true, Bool.false_and, cond_false, cond_true]
        exact methRun_of hps gl 4 (w20c _ s now n c _) (by simp only [allT, o12_ok n60 h0, h6, h1, h2, h4, Bool.not_false, cond_true]) rfl
      | false =>
        simp only [Bool.not_false, Bool.true_and, cond_false]
        cases h3 : ((Ae.opF s.recv (Ae.nonL n) [] c).2 != 0) with
        | true =>
          simp only [Bool.not_true, cond_false]
          have h3' : (Ae.realFn.wr s.recv (Ae.nonL n) [] c != 0) = true := h3
          exact methRun_of hps gl 4 (w20d Ae.realFn s now n c (mayW n s.w)) (by simp only [allT, o12_ok n60 h0, h6, h1, h2, h3', h4, hc', Bool.not_false, Bool.not_true, cond_true]) rfl
        | false =>
          simp only [Bool.not_false, cond_true]
          have h3' : (Ae.realFn.wr s.recv (Ae.nonL n) [] c != 0) = false := h3
          exact methRun_of hps gl 4 (w20e Ae.realFn s now n c (mayW n s.w) (mayW n s.w) (markW n s.w)) (by simp only [allT, o12_ok n60 h0, h6, h1, h2, h3', h4, h42, hc', Bool.not_false, Bool.not_true, cond_true]) rfl
def g20 : List AVal → Option EffA
  | [.ptr t 0, .u64 now, .u64 n, .str c] => cond (Ae.slR c) (some (methE clsT clsT srcT t (fun _ s => openV now n c s) (openN now n c) fun s => okW s.w)) none
  | [.nilPtr, .u64 now, .u64 n, .str c] => some (.pure (.tup [.str [], .int .i64 1]))
  | _ => none
theorem g20_ok : CSOk Try.prog (csOne 20 g20) := csOne_ok fun args e he => by
  unfold g20 at he
  split at he
  · rename_i t now n c
    cases hc : Ae.slR c <;> rw [hc] at he <;> simp only [cond_true, cond_false] at he
    · cases he
    · cases he
      exact meth_ok csS_ok hmix rfl (by decide) (by decide) srcT_lt rfl fun s hs => ⟨relT s, relT _, .plain (lt_openV _ _ _ s), run20 _ _ _ hc s hs⟩
  · cases he
    exact callOk_val csS_ok hmix (w20n Ae.realFn _ _ _) rfl rfl
  · cases he
end Go.Proofs.Ytjdhndicgifnbaa.Tun

/- Engine, part 50: objects whose number of blocks hangs on what they are; some names may stand for blocks that are not shown. -/
namespace Go.Eng
set_option linter.unusedVariables false
set_option linter.unusedSimpArgs false
set_option maxRecDepth 100000
set_option linter.unusedVariables false
set_option linter.unusedSimpArgs false
/-- A kind of objects: their names, and the cells of the first ones of them. -/
structure Ob (S : Type) where
  k : S → Nat
  place : List Nat → S → List (List AVal)
  m : S → Nat
  len : ∀ ns s, (place ns s).length = m s
  le : ∀ s, m s ≤ k s
def Ob.Rel {S : Type} (C : Ob S) (s : S) : Prop := ∀ (ρ : Nat → Nat → Prop) (ns ns' : List Nat), ns.length = C.k s → ns'.length = C.k s → (∀ (i n n' : Nat), ns[i]? = some n → ns'[i]? = some n' → ρ n n') →
  ∀ (i : Nat) (c c' : List AVal), (C.place ns s)[i]? = some c → (C.place ns' s)[i]? = some c' → RL ρ c c'
def NameL (k : Nat) (v : List Nat → List AVal) : Prop := ∀ (ρ : Nat → Nat → Prop) (ns ns' : List Nat), ns.length = k → ns'.length = k → (∀ (i n n' : Nat), ns[i]? = some n → ns'[i]? = some n' → ρ n n') → RL ρ (v ns) (v ns')
theorem NameL.plain {k : Nat} {v : List AVal} (h : ltL 0 v = true) : NameL k fun _ => v := fun ρ ns ns' _ _ _ => .same h
theorem getD_at {ns : List Nat} {i : Nat} (h : i < ns.length) : ns[i]? = some (ns.getD i 0) := by
  rw [List.getD_eq_getElem?_getD, List.getElem?_eq_getElem h]; rfl
theorem NameL.recv {k i o : Nat} {xs : List AVal} (hi : i < k) (h : ltL 0 xs = true) : NameL k fun ns => .ptr (ns.getD i 0) o :: xs := fun ρ ns ns' h1 h2 hρ =>
  .cons (.ptr (hρ i _ _ (getD_at (by rw [h1]; exact hi)) (getD_at (by rw [h2]; exact hi)))) (.same h)
/-- Names behind a call: old ones by their place, then new ones. -/
def nmC2 (G k : Nat) (kks : List Nat) (j : Nat) : Nat := cond (Nat.blt j k) (G + j) (kks.getD (j - k) 0)
def nmU2 (ns : List Nat) (base : Nat) (j : Nat) : Nat := cond (Nat.blt j ns.length) (ns.getD j 0) (base + (j - ns.length))
def frN (base : Nat) : Nat → List Nat
  | 0 => []
  | m + 1 => frN base m ++ [base + m]
theorem frN_mem {base m x : Nat} (h : base ≤ x) (h2 : x < base + m) : x ∈ frN base m := by
  induction m with
  | zero => omega
  | succ m ih =>
    unfold frN
    rw [List.mem_append]
    by_cases c : x < base + m
    · exact .inl (ih c)
    · exact .inr (by simp; omega)
def goneF (m : Nat) (src : List Nat) : List Nat := (List.range m).filter fun j => !src.contains j
def upF2 (ns : List Nat) (base : Nat) (m : Nat) (src : List Nat) (cs : List (List AVal)) : List (Nat × Option AObj) :=
  putC (src.map (nmU2 ns base)) cs ++ (goneF m (src.take cs.length)).map fun j => (ns.getD j 0, none)
def effF {S S2 : Type} (O : Ob S) (O2 : Ob S2) (find : (Nat → Option AObj) → Option (List Nat × S)) (w : Nat) (src : S → List Nat) (val : List Nat → S → AVal) (next : S → S2) (ok : S → Bool) : EffA := .eff fun base η =>
  match find η with
  | some (ns, s) => cond (nodupB (frN base w ++ ns) && ok s) (some (val ((src s).map (nmU2 ns base)) s, upF2 ns base (O.m s) (src s) (O2.place ((src s).map (nmU2 ns base)) (next s)))) none
  | none => none
/-- What a call's run under the names from G on must show. -/
def RunF {S S2 : Type} (P : Program) (cs : CS) (f : FuncId) (O : Ob S) (O2 : Ob S2) (w : Nat) (src : List Nat) (A : List Nat → List AVal) (s : S) (v : List Nat → AVal) (s2 : S2) : Prop :=
  ∃ nn F H' fr fr' kks, kks.length = w ∧ kks.Nodup ∧ P.globals.size + O.k s ≤ fr ∧ (∀ q, q ∈ kks → fr ≤ q) ∧
    run1 P cs nn F f (A (canB P.globals.size (O.k s))) (heapOf (canB P.globals.size (O.k s)) (O.place (canB P.globals.size (O.k s)) s)) fr = some (v (src.map (nmC2 P.globals.size (O.k s) kks)), H', fr') ∧
    ∀ (i m : Nat) (c : List AVal), (src.map (nmC2 P.globals.size (O.k s) kks))[i]? = some m → (O2.place (src.map (nmC2 P.globals.size (O.k s) kks)) s2)[i]? = some c → aget H' m = some (.cells false c)
theorem putC_keys : ∀ {ns : List Nat} {cs : List (List AVal)}, ∃ j, (putC ns cs).map (·.1) = ns.take j
  | [], cs => ⟨0, by cases cs <;> rfl⟩
  | n :: ns, [] => ⟨0, rfl⟩
  | n :: ns, c :: cs => by
    obtain ⟨j, hj⟩ := putC_keys (ns := ns) (cs := cs)
    refine ⟨j + 1, ?_⟩
    unfold putC
    rw [List.map_cons, hj]
    rfl
theorem putC_key : ∀ {ns : List Nat} {cs : List (List AVal)} {m : Nat}, m ∈ (putC ns cs).map (·.1) → ∃ i : Nat, ns[i]? = some m ∧ i < cs.length := fun {ns cs m} h => by
  rw [List.mem_map] at h
  obtain ⟨⟨a, x⟩, h1, rfl⟩ := h
  obtain ⟨i, c, e1, e2, _⟩ := putC_mem h1
  exact ⟨i, e1, (List.getElem?_eq_some_iff.1 e2).1⟩
theorem effF_ok {S S2 : Type} {P : Program} {cs : CS} (hcs : CSOk P cs) (hm : P.follows .mixedOrders = true) {f : FuncId} {O : Ob S} {O2 : Ob S2} {find : (Nat → Option AObj) → Option (List Nat × S)} {w : Nat} {src : S → List Nat} {args : List AVal} {A : S → List Nat → List AVal} {val : List Nat → S → AVal} {next : S → S2} {ok : S → Bool} (hw : w ≤ 8)
    (hfind : ∀ {η : Nat → Option AObj} {ns : List Nat} {s : S}, find η = some (ns, s) → ns.length = O.k s ∧ (∀ n, n ∈ ns → Known η args n) ∧ (∀ (i n : Nat) (c : List AVal), ns[i]? = some n → (O.place ns s)[i]? = some c → η n = some (.cells false c)) ∧ args = A s ns)
    (h : ∀ s, ok s = true → O.Rel s ∧ O2.Rel (next s) ∧ NameV (O2.k (next s)) (fun ns => val ns s) ∧ NameL (O.k s) (A s) ∧ (src s).length = O2.k (next s) ∧ (src s).Nodup ∧ (∀ j, j ∈ src s → j < O.k s + w) ∧ (∀ (i j : Nat), (src s)[i]? = some j → i < O2.m (next s) → j < O.m s ∨ O.k s ≤ j) ∧ RunF P cs f O O2 w (src s) (A s) s (fun ns => val ns s) (next s)) : CallOk P f args (effF O O2 find w src val next ok) := by
  unfold effF
  refine callOk_deep hcs hm fun base η v us hK => ?_
  cases hf : find η with
  | none => rw [hf] at hK; cases hK
  | some p =>
  obtain ⟨ns, s⟩ := p
  rw [hf] at hK
  simp only at hK
  cases hc : (nodupB (frN base w ++ ns) && ok s) <;> rw [hc] at hK <;> simp only [cond_true, cond_false] at hK
  · cases hK
  simp only [Option.some.injEq, Prod.mk.injEq] at hK
  obtain ⟨rfl, rfl⟩ := hK
  rw [Bool.and_eq_true] at hc
  obtain ⟨hn, hok⟩ := hc
  have hnb := nodupB_ok hn
  rw [List.nodup_append] at hnb
  obtain ⟨_, hns, hdis⟩ := hnb
  have hbn : ∀ j, j < w → base + j ∉ ns := fun j hj hm => hdis _ (frN_mem (Nat.le_add_right _ _) (by omega)) _ hm rfl
  obtain ⟨f1, f0, f3, rfl⟩ := hfind hf
  obtain ⟨hR, hR2, hv, hA, hsl, hnd, hjw, hjs, nn, F, H', fr, fr', kks, hkl, hkn, hfr, hkk, hrun, hback⟩ := h s hok
  have hρ0 : ∀ (i n n' : Nat), (canB P.globals.size (O.k s))[i]? = some n → ns[i]? = some n' → ρ0 P.globals.size ns n n' := fun i n n' h1 h2 => by
    obtain ⟨hi, rfl⟩ := canB_get h1
    exact .inr ⟨i, rfl, h2⟩
  -- what a name stands for
  have hcase : ∀ j, j ∈ src s → (j < O.k s ∧ nmC2 P.globals.size (O.k s) kks j = P.globals.size + j ∧ nmU2 ns base j = ns.getD j 0 ∧ ns[j]? = some (nmU2 ns base j)) ∨ (O.k s ≤ j ∧ ∃ k, kks[j - O.k s]? = some k ∧ nmC2 P.globals.size (O.k s) kks j = k ∧ nmU2 ns base j = base + (j - O.k s) ∧ j - O.k s < w) := fun j hj => by
    by_cases c : j < O.k s
    · have b1 : Nat.blt j (O.k s) = true := by simpa [Nat.blt_eq] using c
      have b2 : Nat.blt j ns.length = true := by rw [f1]; exact b1
      have e1 : nmU2 ns base j = ns.getD j 0 := by unfold nmU2; rw [b2]; rfl
      exact .inl ⟨c, by unfold nmC2; rw [b1]; rfl, e1, by rw [e1]; exact getD_at (by rw [f1]; exact c)⟩
    · have b1 : Nat.blt j (O.k s) = false := by
        cases hb : Nat.blt j (O.k s) with
        | false => rfl
        | true => exact absurd (by simpa [Nat.blt_eq] using hb) c
      have b2 : Nat.blt j ns.length = false := by rw [f1]; exact b1
      have := hjw j hj
      have e3 : j - O.k s < kks.length := by omega
      refine .inr ⟨by omega, kks.getD (j - O.k s) 0, getD_at e3, by unfold nmC2; rw [b1]; rfl, ?_, by omega⟩
      unfold nmU2
      rw [b2, f1]
      rfl
  have hname : ∀ (i m m' : Nat), ((src s).map (nmC2 P.globals.size (O.k s) kks))[i]? = some m → ((src s).map (nmU2 ns base))[i]? = some m' → ρ1 P.globals.size ns kks base m m' := fun i m m' h1 h2 => by
    rw [List.getElem?_map] at h1 h2
    cases hs : (src s)[i]? with
    | none => rw [hs] at h1; simp at h1
    | some j =>
      rw [hs] at h1 h2
      simp only [Option.map_some, Option.some.injEq] at h1 h2
      subst h1 h2
      rcases hcase j (List.mem_of_getElem? hs) with ⟨_, g1, _, g3⟩ | ⟨_, k, g1, g2, g3, _⟩
      · exact .inl (.inr ⟨j, g1, g3⟩)
      · exact .inr ⟨_, by rw [g2]; exact g1, g3⟩
  have hinj : ∀ j j', j ∈ src s → j' ∈ src s → nmU2 ns base j = nmU2 ns base j' → j = j' := fun j j' h1 h2 e => by
    rcases hcase j h1 with ⟨c1, _, _, g1⟩ | ⟨c1, k1, _, _, g1, l1⟩ <;> rcases hcase j' h2 with ⟨c2, _, _, g2⟩ | ⟨c2, k2, _, _, g2, l2⟩
    · rw [e] at g1; exact inj_of_nodup hns g1 g2
    · rw [e, g2] at g1; exact absurd (List.mem_of_getElem? g1) (hbn _ l2)
    · rw [← e, g1] at g2; exact absurd (List.mem_of_getElem? g2) (hbn _ l1)
    · rw [g1, g2] at e; omega
  have hnd1 : ((src s).map (nmU2 ns base)).Nodup := by
    have := List.Pairwise.and_mem.1 hnd
    exact List.pairwise_map.2 (this.imp fun ⟨h1, h2, h3⟩ e => h3 (hinj _ _ h1 h2 e))
  have hlc : (O2.place ((src s).map (nmU2 ns base)) (next s)).length = O2.m (next s) := O2.len _ _
  have hlm : O2.m (next s) ≤ (src s).length := by rw [hsl]; exact O2.le _
  have hgone : ∀ j, j ∈ goneF (O.m s) ((src s).take (O2.m (next s))) → j < O.m s ∧ j ∉ (src s).take (O2.m (next s)) := fun j hjm => by
    unfold goneF at hjm
    rw [List.mem_filter] at hjm
    refine ⟨List.mem_range.1 hjm.1, fun hm => ?_⟩
    have := hjm.2
    simp [hm] at this
  have hmk := O.le s
  have hgoneN : ∀ j, j < O.m s → ns[j]? = some (ns.getD j 0) := fun j e1 => getD_at (by rw [f1]; omega)
  refine ⟨⟨nn, F, ns, kks, A s (canB P.globals.size (O.k s)), _, fr, val ((src s).map (nmC2 P.globals.size (O.k s) kks)) s, H', fr', hns, f0, ?_, ?_, ?_, hrun, hkn, by omega, ?_, hv _ _ _ (by rw [List.length_map, hsl]) (by rw [List.length_map, hsl]) hname, ?_, ?_, ?_⟩⟩
  · exact hA _ _ _ (canB_len _ _) f1 hρ0
  · intro k o ho
    obtain ⟨i, c, h1, h2, rfl⟩ := heapOf_get ho
    obtain ⟨hi, rfl⟩ := canB_get h1
    have e1 : i < ns.length := by rw [f1]; exact hi
    have e2 : i < (O.place ns s).length := by
      have := (List.getElem?_eq_some_iff.1 h2).1
      rw [O.len] at this ⊢
      exact this
    refine ⟨i, _, _, rfl, List.getElem?_eq_getElem e1, f3 _ _ _ (List.getElem?_eq_getElem e1) (List.getElem?_eq_getElem e2), false, c, _, rfl, rfl, hR _ _ _ (canB_len _ _) f1 hρ0 i c _ h2 (List.getElem?_eq_getElem e2)⟩
  · rw [f1]; exact hfr
  · exact hkk
  · unfold upF2
    rw [List.map_append, List.map_map]
    obtain ⟨q, hq⟩ := putC_keys (ns := (src s).map (nmU2 ns base)) (cs := O2.place ((src s).map (nmU2 ns base)) (next s))
    refine List.nodup_append.2 ⟨by rw [hq]; exact List.Nodup.sublist (List.take_sublist _ _) hnd1, ?_, ?_⟩
    · have hg : (goneF (O.m s) ((src s).take (O2.place ((src s).map (nmU2 ns base)) (next s)).length)).Nodup := by unfold goneF; exact List.Pairwise.filter _ List.nodup_range
      rw [hlc] at hg ⊢
      have := List.Pairwise.and_mem.1 hg
      refine List.pairwise_map.2 (this.imp fun ⟨h1, h2, h3⟩ e => h3 ?_)
      have e1 := hgoneN _ (hgone _ h1).1
      have e2 := hgoneN _ (hgone _ h2).1
      simp only [Function.comp] at e
      rw [e] at e1
      exact inj_of_nodup hns e1 e2
    · intro a ha b hb e
      subst e
      obtain ⟨i, hi, hil⟩ := putC_key ha
      rw [List.mem_map] at hb
      obtain ⟨j, hjm, hje⟩ := hb
      rw [hlc] at hjm hil
      obtain ⟨g1, g2⟩ := hgone j hjm
      have e1 := hgoneN j g1
      simp only [Function.comp] at hje
      rw [hje] at e1
      rw [List.getElem?_map] at hi
      cases hs : (src s)[i]? with
      | none => rw [hs] at hi; simp at hi
      | some j' =>
        rw [hs] at hi
        simp only [Option.map_some, Option.some.injEq] at hi
        have hin : j' ∈ (src s).take (O2.m (next s)) := List.mem_iff_getElem?.2 ⟨i, by rw [List.getElem?_take, if_pos hil, hs]⟩
        rcases hcase j' (List.mem_of_getElem? hs) with ⟨c1, _, _, q1⟩ | ⟨c1, k1, _, _, q1, l1⟩
        · rw [hi] at q1
          rw [inj_of_nodup hns e1 q1] at g2
          exact g2 hin
        · rw [q1] at hi
          rw [← hi] at e1
          exact hbn _ l1 (List.mem_of_getElem? e1)
  · intro m x hmx
    unfold upF2 at hmx
    rcases List.mem_append.1 hmx with hmx | hmx
    · obtain ⟨i, c, h1, h2, rfl⟩ := putC_mem hmx
      have hi : i < O2.m (next s) := by
        have := (List.getElem?_eq_some_iff.1 h2).1
        rwa [hlc] at this
      have e1 : i < ((src s).map (nmC2 P.globals.size (O.k s) kks)).length := by rw [List.length_map]; omega
      have e2 : i < (O2.place ((src s).map (nmC2 P.globals.size (O.k s) kks)) (next s)).length := by rw [O2.len]; exact hi
      have hb := hback i _ _ (List.getElem?_eq_getElem e1) (List.getElem?_eq_getElem e2)
      have hRO : RO (ρ1 P.globals.size ns kks base) (.cells false (O2.place ((src s).map (nmC2 P.globals.size (O.k s) kks)) (next s))[i]) (.cells false c) :=
        ⟨false, _, _, rfl, rfl, hR2 _ _ _ (by rw [List.length_map, hsl]) (by rw [List.length_map, hsl]) hname i _ _ (List.getElem?_eq_getElem e2) h2⟩
      have e3 : i < (src s).length := by omega
      rw [List.getElem?_map, List.getElem?_eq_getElem e3] at h1
      simp only [Option.map_some, Option.some.injEq] at h1
      rw [List.getElem_map] at hb
      rcases hcase _ (List.getElem_mem e3) with ⟨c1, q1, _, q3⟩ | ⟨c1, k1, q1, q2, q3, l1⟩
      · rw [h1] at q3
        rw [q1] at hb
        exact .inl ⟨_, q3, .inr ⟨_, _, rfl, hb, rfl, hRO⟩⟩
      · rw [q2] at hb
        exact .inr ⟨_, k1, _, _, by rw [← h1, q3], q1, rfl, hb, rfl, hRO⟩
    · rw [List.mem_map] at hmx
      obtain ⟨j, hjm, he⟩ := hmx
      rw [hlc] at hjm
      simp only [Prod.mk.injEq] at he
      obtain ⟨rfl, rfl⟩ := he
      exact .inl ⟨j, hgoneN j (hgone j hjm).1, .inl rfl⟩
  · intro i n o hi ho hro
    obtain ⟨i', c', hh1, hh2, rfl⟩ := heapOf_get ho
    obtain ⟨hik, hie⟩ := canB_get hh1
    have : i' = i := by omega
    subst this
    have him : i' < O.m s := by
      have := (List.getElem?_eq_some_iff.1 hh2).1
      rwa [O.len] at this
    unfold upF2
    rw [hlc]
    by_cases hin : i' ∈ (src s).take (O2.m (next s))
    · obtain ⟨q, hq, hqe⟩ := List.getElem_of_mem hin
      rw [List.length_take] at hq
      rw [List.getElem_take] at hqe
      have e2 : q < (O2.place ((src s).map (nmU2 ns base)) (next s)).length := by rw [hlc]; omega
      have e3 : q < (src s).length := by omega
      refine ⟨_, List.mem_append.2 (.inl (putC_of (i := q) ?_ (List.getElem?_eq_getElem e2)))⟩
      rw [List.getElem?_map, List.getElem?_eq_getElem e3, hqe]
      rcases hcase i' (by rw [← hqe]; exact List.getElem_mem e3) with ⟨_, _, _, q3⟩ | ⟨c1, _⟩
      · rw [hi] at q3
        simp only [Option.map_some, Option.some.injEq] at q3 ⊢
        exact q3.symm
      · omega
    · refine ⟨none, List.mem_append.2 (.inr (List.mem_map.2 ⟨i', ?_, ?_⟩))⟩
      · unfold goneF
        rw [List.mem_filter]
        exact ⟨List.mem_range.2 him, by simp [hin]⟩
      · have := hgoneN i' him
        rw [hi] at this
        simp only [Option.some.injEq] at this
        rw [← this]
theorem effF_app {S S2 : Type} {O : Ob S} {O2 : Ob S2} {find : (Nat → Option AObj) → Option (List Nat × S)} {w : Nat} {src : S → List Nat} {val : List Nat → S → AVal} {next : S → S2} {ok : S → Bool} {H : HL} {base : Nat} {ns : List Nat} {s : S}
    (hf : find (aget H) = some (ns, s)) (hn : nodupB (frN base w ++ ns) = true) (ho : ok s = true) :
    (effF O O2 find w src val next ok).app base H = some (val ((src s).map (nmU2 ns base)) s, appU H (upF2 ns base (O.m s) (src s) (O2.place ((src s).map (nmU2 ns base)) (next s)))) := by
  unfold effF
  simp only [EffA.app, hf, hn, ho, Bool.and_self, cond_true]
theorem runF_of {S S2 : Type} {P : Program} {ps : PS} {cs : CS} (hps : PSOk ps cs) {G : Nat} (hG : P.globals.size = G) {f : FuncId} {O : Ob S} {O2 : Ob S2} {w : Nat} {src : List Nat} {A : List Nat → List AVal} {s : S} {v : List Nat → AVal} {s2 : S2}
    {sy : List Nat} {os : List Bool} {vs : List AVal} {nn F fr : Nat} {ob : List Bool} (kks : List Nat)
    (h : ansM ((src.map (nmC2 G (O.k s) kks)).take (O2.m s2)) (run1O P ps cs sy os vs nn F f (A (canB G (O.k s))) (heapOf (canB G (O.k s)) (O.place (canB G (O.k s)) s)) fr) = some (v (src.map (nmC2 G (O.k s) kks)), (O2.place (src.map (nmC2 G (O.k s) kks)) s2).map fun c => some (.cells false c), ob))
    (ha : allT ob = true) (hkl : kks.length = w) (hkn : nodupB kks = true) (hfr : Nat.ble (G + O.k s) fr = true) (hkk : kks.all (fun q => Nat.ble fr q) = true) : RunF P cs f O O2 w src A s v s2 := by
  subst hG
  unfold ansM at h
  split at h
  · rename_i v' H' fr' ob' hr
    simp only [Option.some.injEq, Prod.mk.injEq] at h
    obtain ⟨rfl, h2, rfl⟩ := h
    refine ⟨nn, F, H', fr, fr', kks, hkl, nodupB_ok hkn, Nat.le_of_ble_eq_true hfr, fun q hq => Nat.le_of_ble_eq_true (List.all_eq_true.1 hkk q hq), run1O_ok hps hr ha, fun i m c h1 h3 => ?_⟩
    have e := congrArg (fun l => l[i]?) h2
    simp only [List.getElem?_map] at e
    have him : i < O2.m s2 := by
      have := (List.getElem?_eq_some_iff.1 h3).1
      rwa [O2.len] at this
    rw [List.getElem?_take, if_pos him, h1, h3] at e
    simp only [Option.map_some, Option.some.injEq] at e
    exact e
  · cases h
end Go.Eng

/- Engine, part 51: calls that make objects of several blocks. -/
namespace Go.Eng
set_option linter.unusedVariables false
set_option linter.unusedSimpArgs false
set_option maxRecDepth 100000
set_option linter.unusedVariables false
set_option linter.unusedSimpArgs false
def nonO : Ob Unit := ⟨fun _ => 0, fun _ _ => [], fun _ => 0, fun _ _ => rfl, fun _ => Nat.le_refl _⟩
theorem RL.all {ρ : Nat → Nat → Prop} : ∀ {l : List AVal}, allV l = true → RL ρ l l
  | [], _ => .nil _
  | v :: l, h => by
    simp only [allV] at h
    cases hv : ltV 0 v <;> rw [hv] at h <;> simp only [cond_true, cond_false] at h
    · cases h
    · exact .cons (.same hv) (RL.all h)
theorem NameL.all {k : Nat} {v : List AVal} (h : allV v = true) : NameL k fun _ => v := fun ρ ns ns' _ _ _ => RL.all h
def newE {S2 : Type} (O2 : Ob S2) (w : Nat) (src : List Nat) (val : List Nat → AVal) (s2 : S2) : EffA := effF nonO O2 (fun _ => some ([], ())) w (fun _ => src) (fun ns _ => val ns) (fun _ => s2) fun _ => true
theorem newE_ok {S2 : Type} {P : Program} {cs : CS} (hcs : CSOk P cs) (hm : P.follows .mixedOrders = true) {f : FuncId} {O2 : Ob S2} {w : Nat} {src : List Nat} {args : List AVal} {val : List Nat → AVal} {s2 : S2} (hw : w ≤ 8) (hx : allV args = true)
    (hR : O2.Rel s2) (hv : NameV (O2.k s2) val) (hl : src.length = O2.k s2) (hn : src.Nodup) (hj : ∀ j, j ∈ src → j < w) (hr : RunF P cs f nonO O2 w src (fun _ => args) () val s2) : CallOk P f args (newE O2 w src val s2) := by
  unfold newE
  refine effF_ok hcs hm hw (A := fun _ _ => args) (fun {η ns s} h => ?_) fun s _ => ⟨fun ρ ns ns' _ _ _ i c c' h _ => by simp [nonO] at h, hR, hv, .all hx, hl, hn, fun j h => by show j < 0 + w; have := hj j h; omega, fun i j _ _ => .inr (Nat.zero_le _), hr⟩
  simp only [Option.some.injEq, Prod.mk.injEq] at h
  obtain ⟨rfl, _⟩ := h
  exact ⟨rfl, fun n h => by simp at h, fun i n c h => by simp at h, rfl⟩
theorem newE_app {S2 : Type} {O2 : Ob S2} {w : Nat} {src : List Nat} {val : List Nat → AVal} {s2 : S2} {H : HL} {base : Nat} (hn : nodupB (frN base w ++ []) = true) :
    (newE O2 w src val s2).app base H = some (val (src.map (nmU2 [] base)), appU H (upF2 [] base 0 src (O2.place (src.map (nmU2 [] base)) s2))) := effF_app (O := nonO) (ok := fun _ => true) (s := ()) rfl hn rfl
/-- A call that answers by a plain value, out of a run with foretold tests. -/
theorem callOk_ans {P : Program} {ps : PS} {cs : CS} (hcs : CSOk P cs) (hps : PSOk ps cs) (hm : P.follows .mixedOrders = true) {G : Nat} (hG : P.globals.size = G) {sy : List Nat} {os : List Bool} {vs : List AVal} {nn F : Nat} {f : FuncId} {args : List AVal} {v : AVal} {ob : List Bool}
    (h : ansO (run1O P ps cs sy os vs nn F f args [] G) = some (v, ob)) (ha : allT ob = true) (hx : allV args = true) (hv : ltV 0 v = true) : CallOk P f args (.pure v) := by
  subst hG
  exact callOk_val hcs hm (ansO_run hps h ha) hx hv
end Go.Eng

/- Tunnels: which limits may be; a window, a tunnel is made. -/
namespace Go.Proofs.Ytjdhndicgifnbaa.Tun
set_option linter.unusedVariables false
set_option linter.unusedSimpArgs false
open Go Go.Eng Go.Proofs.Ytjdhndicgifnbaa
set_option maxRecDepth 100000
set_option maxHeartbeats 1000000
set_option linter.unusedSimpArgs false
set_option linter.unusedVariables false
theorem w310 (rc ct rk lf : UInt64) (sz : Int) : ansO (run1O Try.prog noPS noCS [5,11,16,21,28] [true, true, true, true, true] [] (mask 31) 100 31 [.agg [.u64 rc, .u64 ct, .u64 rk, .u64 lf, .int .i64 sz]] [] 0) = some ((AVal.bool (decide (lf ≤ 1152921504606846976))), [decide (rk ≤ lf), decide (1 ≤ rk), decide (ct ≤ 1152921504606846976), decide (rc ≤ ct), decide (1 ≤ rc)]) := by kernel_rfl
theorem w311 (rc ct rk lf : UInt64) (sz : Int) : ansO (run1O Try.prog noPS noCS [5,11,16,21,28] [true, true, true, true, false] [] (mask 31) 100 31 [.agg [.u64 rc, .u64 ct, .u64 rk, .u64 lf, .int .i64 sz]] [] 0) = some ((AVal.bool false), [!(decide (rk ≤ lf)), decide (1 ≤ rk), decide (ct ≤ 1152921504606846976), decide (rc ≤ ct), decide (1 ≤ rc)]) := by kernel_rfl
theorem w312 (rc ct rk lf : UInt64) (sz : Int) : ansO (run1O Try.prog noPS noCS [5,11,16,21,28] [true, true, true, false] [] (mask 31) 100 31 [.agg [.u64 rc, .u64 ct, .u64 rk, .u64 lf, .int .i64 sz]] [] 0) = some ((AVal.bool false), [!(decide (1 ≤ rk)), decide (ct ≤ 1152921504606846976), decide (rc ≤ ct), decide (1 ≤ rc)]) := by kernel_rfl
theorem w313 (rc ct rk lf : UInt64) (sz : Int) : ansO (run1O Try.prog noPS noCS [5,11,16,21,28] [true, true, false] [] (mask 31) 100 31 [.agg [.u64 rc, .u64 ct, .u64 rk, .u64 lf, .int .i64 sz]] [] 0) = some ((AVal.bool false), [!(decide (ct ≤ 1152921504606846976)), decide (rc ≤ ct), decide (1 ≤ rc)]) := by kernel_rfl
theorem w314 (rc ct rk lf : UInt64) (sz : Int) : ansO (run1O Try.prog noPS noCS [5,11,16,21,28] [true, false] [] (mask 31) 100 31 [.agg [.u64 rc, .u64 ct, .u64 rk, .u64 lf, .int .i64 sz]] [] 0) = some ((AVal.bool false), [!(decide (rc ≤ ct)), decide (1 ≤ rc)]) := by kernel_rfl
theorem w315 (rc ct rk lf : UInt64) (sz : Int) : ansO (run1O Try.prog noPS noCS [5,11,16,21,28] [false] [] (mask 31) 100 31 [.agg [.u64 rc, .u64 ct, .u64 rk, .u64 lf, .int .i64 sz]] [] 0) = some ((AVal.bool false), [!(decide (1 ≤ rc))]) := by kernel_rfl
def may31 (rc ct rk lf : UInt64) (sz : Int) : AVal := cond (decide (1 ≤ rc)) (cond (decide (rc ≤ ct)) (cond (decide (ct ≤ 1152921504606846976)) (cond (decide (1 ≤ rk)) (cond (decide (rk ≤ lf)) ((AVal.bool (decide (lf ≤ 1152921504606846976)))) ((AVal.bool false))) ((AVal.bool false))) ((AVal.bool false))) ((AVal.bool false))) ((AVal.bool false))
theorem run31 (rc ct rk lf : UInt64) (sz : Int) : (run1 Try.prog noCS (mask 31) 100 31 [.agg [.u64 rc, .u64 ct, .u64 rk, .u64 lf, .int .i64 sz]] [] Try.prog.globals.size).map (·.1) = some (may31 rc ct rk lf sz) := by
  rw [gl]
  unfold may31
  cases h0 : (decide (1 ≤ rc)) with
  | true =>
    simp only [cond_true]
    cases h1 : (decide (rc ≤ ct)) with
    | true =>
      simp only [cond_true]
      cases h2 : (decide (ct ≤ 1152921504606846976)) with
      | true =>
        simp only [cond_true]
        cases h3 : (decide (1 ≤ rk)) with
        | true =>
          simp only [cond_true]
          cases h4 : (decide (rk ≤ lf)) with
          | true =>
            simp only [cond_true]
            exact ansO_run (noPS_ok _) (w310 rc ct rk lf sz) (by simp only [allT, h0, h1, h2, h3, h4, Bool.not_true, Bool.not_false, cond_true])
          | false =>
            simp only [cond_false]
            exact ansO_run (noPS_ok _) (w311 rc ct rk lf sz) (by simp only [allT, h0, h1, h2, h3, h4, Bool.not_true, Bool.not_false, cond_true])
        | false =>
          simp only [cond_false]
          exact ansO_run (noPS_ok _) (w312 rc ct rk lf sz) (by simp only [allT, h0, h1, h2, h3, Bool.not_true, Bool.not_false, cond_true])
      | false =>
        simp only [cond_false]
        exact ansO_run (noPS_ok _) (w313 rc ct rk lf sz) (by simp only [allT, h0, h1, h2, Bool.not_true, Bool.not_false, cond_true])
    | false =>
      simp only [cond_false]
      exact ansO_run (noPS_ok _) (w314 rc ct rk lf sz) (by simp only [allT, h0, h1, Bool.not_true, Bool.not_false, cond_true])
  | false =>
    simp only [cond_false]
    exact ansO_run (noPS_ok _) (w315 rc ct rk lf sz) (by simp only [allT, h0, Bool.not_true, Bool.not_false, cond_true])

theorem w330 (rc ct rk lf : UInt64) (sz : Int) : ansO (run1O Try.prog noPS noCS [5,11,16,21,28,33,38] [true, true, true, true, true, true, true] [] (mask 33) 100 33 [.agg [.u64 rc, .u64 ct, .u64 rk, .u64 lf, .int .i64 sz]] [] 0) = some ((AVal.bool (decide (sz ≤ 4096))), [decide (1 ≤ sz), decide (lf ≤ 1152921504606846976), decide (rk ≤ lf), decide (1 ≤ rk), decide (ct ≤ 1152921504606846976), decide (rc ≤ ct), decide (1 ≤ rc)]) := by kernel_rfl
theorem w331 (rc ct rk lf : UInt64) (sz : Int) : ansO (run1O Try.prog noPS noCS [5,11,16,21,28,33,38] [true, true, true, true, true, true, false] [] (mask 33) 100 33 [.agg [.u64 rc, .u64 ct, .u64 rk, .u64 lf, .int .i64 sz]] [] 0) = some ((AVal.bool false), [!(decide (1 ≤ sz)), decide (lf ≤ 1152921504606846976), decide (rk ≤ lf), decide (1 ≤ rk), decide (ct ≤ 1152921504606846976), decide (rc ≤ ct), decide (1 ≤ rc)]) := by kernel_rfl
theorem w332 (rc ct rk lf : UInt64) (sz : Int) : ansO (run1O Try.prog noPS noCS [5,11,16,21,28,33,38] [true, true, true, true, true, false] [] (mask 33) 100 33 [.agg [.u64 rc, .u64 ct, .u64 rk, .u64 lf, .int .i64 sz]] [] 0) = some ((AVal.bool false), [!(decide (lf ≤ 1152921504606846976)), decide (rk ≤ lf), decide (1 ≤ rk), decide (ct ≤ 1152921504606846976), decide (rc ≤ ct), decide (1 ≤ rc)]) := by kernel_rfl
theorem w333 (rc ct rk lf : UInt64) (sz : Int) : ansO (run1O Try.prog noPS noCS [5,11,16,21,28,33,38] [true, true, true, true, false] [] (mask 33) 100 33 [.agg [.u64 rc, .u64 ct, .u64 rk, .u64 lf, .int .i64 sz]] [] 0) = some ((AVal.bool false), [!(decide (rk ≤ lf)), decide (1 ≤ rk), decide (ct ≤ 1152921504606846976), decide (rc ≤ ct), decide (1 ≤ rc)]) := by kernel_rfl
theorem w334 (rc ct rk lf : UInt64) (sz : Int) : ansO (run1O Try.prog noPS noCS [5,11,16,21,28,33,38] [true, true, true, false] [] (mask 33) 100 33 [.agg [.u64 rc, .u64 ct, .u64 rk, .u64 lf, .int .i64 sz]] [] 0) = some ((AVal.bool false), [!(decide (1 ≤ rk)), decide (ct ≤ 1152921504606846976), decide (rc ≤ ct), decide (1 ≤ rc)]) := by kernel_rfl
theorem w335 (rc ct rk lf : UInt64) (sz : Int) : ansO (run1O Try.prog noPS noCS [5,11,16,21,28,33,38] [true, true, false] [] (mask 33) 100 33 [.agg [.u64 rc, .u64 ct, .u64 rk, .u64 lf, .int .i64 sz]] [] 0) = some ((AVal.bool false), [!(decide (ct ≤ 1152921504606846976)), decide (rc ≤ ct), decide (1 ≤ rc)]) := by kernel_rfl
theorem w336 (rc ct rk lf : UInt64) (sz : Int) : ansO (run1O Try.prog noPS noCS [5,11,16,21,28,33,38] [true, false] [] (mask 33) 100 33 [.agg [.u64 rc, .u64 ct, .u64 rk, .u64 lf, .int .i64 sz]] [] 0) = some ((AVal.bool false), [!(decide (rc ≤ ct)), decide (1 ≤ rc)]) := by kernel_rfl
theorem w337 (rc ct rk lf : UInt64) (sz : Int) : ansO (run1O Try.prog noPS noCS [5,11,16,21,28,33,38] [false] [] (mask 33) 100 33 [.agg [.u64 rc, .u64 ct, .u64 rk, .u64 lf, .int .i64 sz]] [] 0) = some ((AVal.bool false), [!(decide (1 ≤ rc))]) := by kernel_rfl
def may33 (rc ct rk lf : UInt64) (sz : Int) : AVal := cond (decide (1 ≤ rc)) (cond (decide (rc ≤ ct)) (cond (decide (ct ≤ 1152921504606846976)) (cond (decide (1 ≤ rk)) (cond (decide (rk ≤ lf)) (cond (decide (lf ≤ 1152921504606846976)) (cond (decide (1 ≤ sz)) ((AVal.bool (decide (sz ≤ 4096)))) ((AVal.bool false))) ((AVal.bool false))) ((AVal.bool false))) ((AVal.bool false))) ((AVal.bool false))) ((AVal.bool false))) ((AVal.bool false))
theorem run33 (rc ct rk lf : UInt64) (sz : Int) : (run1 Try.prog noCS (mask 33) 100 33 [.agg [.u64 rc, .u64 ct, .u64 rk, .u64 lf, .int .i64 sz]] [] Try.prog.globals.size).map (·.1) = some (may33 rc ct rk lf sz) := by
  rw [gl]
  unfold may33
  cases h0 : (decide (1 ≤ rc)) with
  | true =>
    simp only [cond_true]
    cases h1 : (decide (rc ≤ ct)) with
    | true =>
      simp only [cond_true]
      cases h2 : (decide (ct ≤ 1152921504606846976)) with
      | true =>
        simp only [cond_true]
        cases h3 : (decide (1 ≤ rk)) with
        | true =>
          simp only [cond_true]
          cases h4 : (decide (rk ≤ lf)) with
          | true =>
            simp only [cond_true]
            cases h5 : (decide (lf ≤ 1152921504606846976)) with
            | true =>
              simp only [cond_true]
              cases h6 : (decide (1 ≤ sz)) with
              | true =>
                simp only [cond_true]
                exact ansO_run (noPS_ok _) (w330 rc ct rk lf sz) (by simp only [allT, h0, h1, h2, h3, h4, h5, h6, Bool.not_true, Bool.not_false, cond_true])
              | false =>
                simp only [cond_false]
                exact ansO_run (noPS_ok _) (w331 rc ct rk lf sz) (by simp only [allT, h0, h1, h2, h3, h4, h5, h6, Bool.not_true, Bool.not_false, cond_true])
            | false =>
              simp only [cond_false]
              exact ansO_run (noPS_ok _) (w332 rc ct rk lf sz) (by simp only [allT, h0, h1, h2, h3, h4, h5, Bool.not_true, Bool.not_false, cond_true])
          | false =>
            simp only [cond_false]
            exact ansO_run (noPS_ok _) (w333 rc ct rk lf sz) (by simp only [allT, h0, h1, h2, h3, h4, Bool.not_true, Bool.not_false, cond_true])
        | false =>
          simp only [cond_false]
          exact ansO_run (noPS_ok _) (w334 rc ct rk lf sz) (by simp only [allT, h0, h1, h2, h3, Bool.not_true, Bool.not_false, cond_true])
      | false =>
        simp only [cond_false]
        exact ansO_run (noPS_ok _) (w335 rc ct rk lf sz) (by simp only [allT, h0, h1, h2, Bool.not_true, Bool.not_false, cond_true])
    | false =>
      simp only [cond_false]
      exact ansO_run (noPS_ok _) (w336 rc ct rk lf sz) (by simp only [allT, h0, h1, Bool.not_true, Bool.not_false, cond_true])
  | false =>
    simp only [cond_false]
    exact ansO_run (noPS_ok _) (w337 rc ct rk lf sz) (by simp only [allT, h0, Bool.not_true, Bool.not_false, cond_true])


def mayL (rc ct rk lf : UInt64) : Bool := decide (1 ≤ rc) && (decide (rc ≤ ct) && (decide (ct ≤ 1152921504606846976) && (decide (1 ≤ rk) && (decide (rk ≤ lf) && decide (lf ≤ 1152921504606846976)))))
def mayD (rc ct rk lf : UInt64) (sz : Int) : Bool := mayL rc ct rk lf && (decide (1 ≤ sz) && decide (sz ≤ 4096))
theorem may31_eq (rc ct rk lf : UInt64) (sz : Int) : may31 rc ct rk lf sz = .bool (mayL rc ct rk lf) := by
  unfold may31 mayL
  cases decide (1 ≤ rc) <;> cases decide (rc ≤ ct) <;> cases decide (ct ≤ 1152921504606846976) <;> cases decide (1 ≤ rk) <;> cases decide (rk ≤ lf) <;> simp
theorem may33_eq (rc ct rk lf : UInt64) (sz : Int) : may33 rc ct rk lf sz = .bool (mayD rc ct rk lf sz) := by
  unfold may33 mayD mayL
  cases decide (1 ≤ rc) <;> cases decide (rc ≤ ct) <;> cases decide (ct ≤ 1152921504606846976) <;> cases decide (1 ≤ rk) <;> cases decide (rk ≤ lf) <;> cases decide (lf ≤ 1152921504606846976) <;> cases decide (1 ≤ sz) <;> simp
def g31 : List AVal → Option EffA
  | [.agg [.u64 rc, .u64 ct, .u64 rk, .u64 lf, .int .i64 sz]] => some (.pure (.bool (mayL rc ct rk lf)))
  | _ => none
def g33 : List AVal → Option EffA
  | [.agg [.u64 rc, .u64 ct, .u64 rk, .u64 lf, .int .i64 sz]] => some (.pure (.bool (mayD rc ct rk lf sz)))
  | _ => none
theorem g31_ok : CSOk Try.prog (csOne 31 g31) := csOne_ok fun args e he => by
  unfold g31 at he
  split at he
  · rename_i rc ct rk lf sz
    cases he
    have r := run31 rc ct rk lf sz
    rw [may31_eq] at r
    exact callOk_val (noCS_ok _) hmix r rfl rfl
  · cases he
theorem g33_ok : CSOk Try.prog (csOne 33 g33) := csOne_ok fun args e he => by
  unfold g33 at he
  split at he
  · rename_i rc ct rk lf sz
    cases he
    have r := run33 rc ct rk lf sz
    rw [may33_eq] at r
    exact callOk_val (noCS_ok _) hmix r rfl rfl
  · cases he
/-! ### a window -/
def obW : Ob Wn := ⟨fun _ => 2, wPlace, fun _ => 2, fun _ _ => rfl, fun _ => Nat.le_refl _⟩
theorem relOW (s : Wn) : obW.Rel s := fun ρ ns ns' h1 h2 hρ => relW s ρ ns ns' h1 h2 hρ
def newW (sz : Int) (m : Nat) : Wn := ⟨UInt64.ofInt sz, List.replicate m 0, 0, false⟩
def winV (ns : List Nat) : AVal := .tup [.ptr (ns.getD 0 0) 0, .int .i64 0]
theorem w30a (sz : Int) : ansO (run1O Try.prog noPS noCS [5,8,9,15,200014] [true] [] (mask 30) 100 30 [.int .i64 sz] [] 0) = some (.tup [.nilPtr, .int .i64 2], [decide (sz < 1)]) := by kernel_rfl
theorem w30b (sz : Int) : ansO (run1O Try.prog noPS noCS [5,8,9,15,200014] [false, true] [] (mask 30) 100 30 [.int .i64 sz] [] 0) = some (.tup [.nilPtr, .int .i64 2], [decide (4096 < sz), !decide (sz < 1)]) := by kernel_rfl
theorem w30c (sz : Int) (m : Nat) : ansM [120, 104] (run1O Try.prog noPS noCS [5,8,9,15,200014] [false, false] [.int .i64 (m : Int)] (mask 30) 100 30 [.int .i64 sz] [] 0) = some (.tup [.ptr 120 0, .int .i64 0], [some (.cells false [.u64 (UInt64.ofInt sz), .slice 104 0 (Int.toNat (m : Int)) 1, .u64 0, .bool false]), some (.cells false (List.replicate (Int.toNat (m : Int) * 1) (.u64 0)))],
  [decide (0 ≤ (m : Int)) && decide ((m : Int) ≤ (m : Int)) && decide ((8 : Int) * (m : Int) ≤ 281474976710656) && decide ((m : Int) ≤ 281474976710656), eqS (.int .i64 (IntKind.wrap .i64 (Int.tdiv (IntKind.wrap .i64 (sz + 63)) 64))) (.int .i64 (m : Int)), !decide (4096 < sz), !decide (sz < 1)]) := by kernel_rfl

theorem wrap_small {z : Int} (h1 : -9223372036854775808 ≤ z) (h2 : z < 9223372036854775808) : IntKind.wrap .i64 z = z := by
  simp only [IntKind.wrap, IntKind.bits, IntKind.signed]
  simp
  omega
theorem rows_len (sz : Int) (h1 : 1 ≤ sz) (h2 : sz ≤ 4096) : IntKind.wrap .i64 (Int.tdiv (IntKind.wrap .i64 (sz + 63)) 64) = (((sz.toNat + 63) / 64 : Nat) : Int) := by
  obtain ⟨k, rfl⟩ : ∃ k : Nat, sz = (k : Int) := ⟨sz.toNat, by omega⟩
  rw [wrap_small (z := (k : Int) + 63) (by omega) (by omega)]
  have e : ((k : Int) + 63).tdiv 64 = (((k + 63) / 64 : Nat) : Int) := by
    rw [Int.tdiv_eq_ediv_of_nonneg (by omega)]
    omega
  rw [e, Int.toNat_natCast, wrap_small (by omega) (by omega)]
def g30 : List AVal → Option EffA
  | [.int .i64 sz] => some (cond (decide (1 ≤ sz) && decide (sz ≤ 4096)) (newE obW 2 [0, 1] winV (newW sz ((sz.toNat + 63) / 64))) (.pure (.tup [.nilPtr, .int .i64 2])))
  | _ => none
theorem g30_ok : CSOk Try.prog (csOne 30 g30) := csOne_ok fun args e he => by
  unfold g30 at he
  split at he
  · rename_i sz
    cases he
    by_cases h1 : sz < 1
    · have : (decide (1 ≤ sz) && decide (sz ≤ 4096)) = false := by simp; omega
      rw [this, cond_false]
      refine callOk_ans (noCS_ok _) (noPS_ok _) hmix gl (w30a sz) ?_ rfl rfl
      · simp only [allT, decide_eq_true h1, cond_true]
    by_cases h2 : 4096 < sz
    · have : (decide (1 ≤ sz) && decide (sz ≤ 4096)) = false := by simp; omega
      rw [this, cond_false]
      refine callOk_ans (noCS_ok _) (noPS_ok _) hmix gl (w30b sz) ?_ rfl rfl
      · simp only [allT, decide_eq_true h2, decide_eq_false h1, Bool.not_false, cond_true]
    have : (decide (1 ≤ sz) && decide (sz ≤ 4096)) = true := by simp; omega
    rw [this, cond_true]
    have hm : (sz.toNat + 63) / 64 ≤ 65 := by omega
    have hlen := rows_len sz (by omega) (by omega)
    generalize hmm : (sz.toNat + 63) / 64 = m at hm hlen
    have r := w30c sz m
    have e1 : Int.toNat (m : Int) = m := Int.toNat_natCast m
    rw [e1, Nat.mul_one] at r
    refine newE_ok (noCS_ok _) hmix (by decide) rfl (relOW _) ?_ rfl (by decide) (by decide) ?_
    · intro ρ ns ns' l1 l2 hρ
      exact .tupL (.cons (.ptr (hρ 0 _ _ (at1 (by rw [l1]; exact Nat.two_pos)) (at1 (by rw [l2]; exact Nat.two_pos)))) (.cons (.same rfl) (.nil _)))
    · have e2 : (obW.place [120, 104] (newW sz m)) = [[.u64 (UInt64.ofInt sz), .slice 104 0 m 1, .u64 0, .bool false], List.replicate m (.u64 0)] := by
        show [[AVal.u64 (UInt64.ofInt sz), .slice 104 0 (List.replicate m (0 : UInt64)).length 1, .u64 0, .bool false], (List.replicate m (0 : UInt64)).map AVal.u64] = _
        rw [List.length_replicate, List.map_replicate]
      have q : eqS (.int .i64 (IntKind.wrap .i64 (Int.tdiv (IntKind.wrap .i64 (sz + 63)) 64))) (.int .i64 (m : Int)) = true := by rw [hlen]; simp [eqS]
      have q2 : (decide (0 ≤ (m : Int)) && decide ((m : Int) ≤ (m : Int)) && decide ((8 : Int) * (m : Int) ≤ 281474976710656) && decide ((m : Int) ≤ 281474976710656)) = true := by simp; omega
      have r2 := r.trans (b := some (AVal.tup [.ptr 120 0, .int .i64 0], [some (AObj.cells false [.u64 (UInt64.ofInt sz), .slice 104 0 m 1, .u64 0, .bool false]), some (AObj.cells false (List.replicate m (.u64 0)))], _)) (c := some (winV [120, 104], (obW.place [120, 104] (newW sz m)).map (fun c => some (.cells false c)), _)) (by rw [e2]; rfl)
      exact runF_of (noPS_ok _) gl [120, 104] r2 (by simp only [allT, q, q2, decide_eq_false h1, decide_eq_false h2, Bool.not_false, cond_true]) rfl rfl rfl rfl
  · cases he
end Go.Proofs.Ytjdhndicgifnbaa.Tun

/- Tunnels: one is made. -/
namespace Go.Proofs.Ytjdhndicgifnbaa.Tun
set_option linter.unusedVariables false
set_option linter.unusedSimpArgs false
open Go Go.Eng Go.Proofs.Ytjdhndicgifnbaa
set_option maxRecDepth 100000
set_option maxHeartbeats 1000000
set_option linter.unusedSimpArgs false
set_option linter.unusedVariables false
def obT : Ob Tn := ⟨fun _ => 4, tPlace, fun _ => 4, fun _ _ => rfl, fun _ => Nat.le_refl _⟩
theorem relOT (s : Tn) : obT.Rel s := fun ρ ns ns' h1 h2 hρ => relT s ρ ns ns' h1 h2 hρ
def csN : CS := csAlt (csOne 31 g31) (csOne 30 g30)
theorem csN_ok : CSOk Try.prog csN := csAlt_ok g31_ok g30_ok
def gotA (g1 g2 g3 g4 g5 : List UInt8) : AVal := .agg [.str g1, .str g2, .str g3, .str g4, .str g5]
def limA (rc ct rk lf : UInt64) (sz : Int) : AVal := .agg [.u64 rc, .u64 ct, .u64 rk, .u64 lf, .int .i64 sz]
section
variable (g1 g2 g3 g4 g5 : List UInt8) (first : Bool) (now rc ct rk lf : UInt64) (sz : Int) (w : Wn)
def h9 : HL := [(0, .cells false [.str g1, .str g2, .str g3, .str g4, .str g5]), (8, .cells false [.u64 now]), (16, .cells false [.u64 rc, .u64 ct, .u64 rk, .u64 lf, .int .i64 sz])]
noncomputable def o30n : Bool := mOb ((g30 [.int .i64 sz]).getD (.pure (.tup []))) 56 (h9 g1 g2 g3 g4 g5 now rc ct rk lf sz) (.tup [.nilPtr, .int .i64 2]) (h9 g1 g2 g3 g4 g5 now rc ct rk lf sz)
noncomputable def o30w : Bool := mOb ((g30 [.int .i64 sz]).getD (.pure (.tup []))) 56 (h9 g1 g2 g3 g4 g5 now rc ct rk lf sz) (.tup [.ptr 56 0, .int .i64 0]) (h9 g1 g2 g3 g4 g5 now rc ct rk lf sz ++ [(56, .cells false (cW 57 w)), (57, .cells false (w.L.map .u64))])
def sy9 : List Nat := [300016, 22, 27, 31, 36]
def bkN : AVal := .tup [.ptr 56 0, .agg (cW 57 w), .ptr 57 0, .agg (w.L.map .u64)]
def v30n : AVal := .tup [.nilPtr, .int .i64 2]
def v30w : AVal := .tup [.ptr 56 0, .int .i64 0]
theorem w9n1 : ansO (run1O Try.prog noPS csN sy9 [true] [v30n, .tup []] (mask 9) 100 9 [gotA g1 g2 g3 g4 g5, .bool first, .u64 now, limA rc ct rk lf sz] [] 0) = some (.tup [.nilPtr, .int .i64 2], [(g3.length : Int) != 32, o30n g1 g2 g3 g4 g5 now rc ct rk lf sz]) := by kernel_rfl
theorem w9n2 : ansO (run1O Try.prog noPS csN sy9 [false, true] [v30n, .tup []] (mask 9) 100 9 [gotA g1 g2 g3 g4 g5, .bool first, .u64 now, limA rc ct rk lf sz] [] 0) = some (.tup [.nilPtr, .int .i64 2], [(g4.length : Int) != 32, !((g3.length : Int) != 32), o30n g1 g2 g3 g4 g5 now rc ct rk lf sz]) := by kernel_rfl
theorem w9n3 : ansO (run1O Try.prog noPS csN sy9 [false, false, true] [v30n, .tup []] (mask 9) 100 9 [gotA g1 g2 g3 g4 g5, .bool first, .u64 now, limA rc ct rk lf sz] [] 0) = some (.tup [.nilPtr, .int .i64 2], [mayL rc ct rk lf, !((g4.length : Int) != 32), !((g3.length : Int) != 32), o30n g1 g2 g3 g4 g5 now rc ct rk lf sz]) := by kernel_rfl
theorem w9n4 : ansO (run1O Try.prog noPS csN sy9 [false, false, false] [v30n, .tup []] (mask 9) 100 9 [gotA g1 g2 g3 g4 g5, .bool first, .u64 now, limA rc ct rk lf sz] [] 0) = some (.tup [.nilPtr, .int .i64 2], [!mayL rc ct rk lf, !((g4.length : Int) != 32), !((g3.length : Int) != 32), o30n g1 g2 g3 g4 g5 now rc ct rk lf sz]) := by kernel_rfl
theorem w9w1 : ansO (run1O Try.prog noPS csN sy9 [true] [v30w, bkN w] (mask 9) 100 9 [gotA g1 g2 g3 g4 g5, .bool first, .u64 now, limA rc ct rk lf sz] [] 0) = some (.tup [.nilPtr, .int .i64 2], [(g3.length : Int) != 32, o30w g1 g2 g3 g4 g5 now rc ct rk lf sz w]) := by kernel_rfl
theorem w9w2 : ansO (run1O Try.prog noPS csN sy9 [false, true] [v30w, bkN w] (mask 9) 100 9 [gotA g1 g2 g3 g4 g5, .bool first, .u64 now, limA rc ct rk lf sz] [] 0) = some (.tup [.nilPtr, .int .i64 2], [(g4.length : Int) != 32, !((g3.length : Int) != 32), o30w g1 g2 g3 g4 g5 now rc ct rk lf sz w]) := by kernel_rfl
theorem w9w3 : ansM [352, 56, 57, 8] (run1O Try.prog noPS csN sy9 [false, false, true] [v30w, bkN w] (mask 9) 100 9 [gotA g1 g2 g3 g4 g5, .bool first, .u64 now, limA rc ct rk lf sz] [] 0) = some (.tup [.ptr 352 0, .int .i64 0], oT 56 57 8 ⟨w, g3, g4, first, first, rc, ct, rk, lf, sz, 0, now⟩, [mayL rc ct rk lf, !((g4.length : Int) != 32), !((g3.length : Int) != 32), o30w g1 g2 g3 g4 g5 now rc ct rk lf sz w]) := by kernel_rfl
theorem w9w4 : ansO (run1O Try.prog noPS csN sy9 [false, false, false] [v30w, bkN w] (mask 9) 100 9 [gotA g1 g2 g3 g4 g5, .bool first, .u64 now, limA rc ct rk lf sz] [] 0) = some (.tup [.nilPtr, .int .i64 2], [!mayL rc ct rk lf, !((g4.length : Int) != 32), !((g3.length : Int) != 32), o30w g1 g2 g3 g4 g5 now rc ct rk lf sz w]) := by kernel_rfl
theorem o30n_ok (h : (decide (1 ≤ sz) && decide (sz ≤ 4096)) = false) : o30n g1 g2 g3 g4 g5 now rc ct rk lf sz = true := by
  refine decP_of ?_
  simp only [g30, Option.getD_some, h, cond_false]
  rfl
theorem o30w_ok (h : (decide (1 ≤ sz) && decide (sz ≤ 4096)) = true) : o30w g1 g2 g3 g4 g5 now rc ct rk lf sz (newW sz ((sz.toNat + 63) / 64)) = true := by
  refine decP_of ?_
  simp only [g30, Option.getD_some, h, cond_true]
  rw [newE_app (O2 := obW) (by decide)]
  rfl
end
/-- May a tunnel be? -/
def newG (g3 g4 : List UInt8) (rc ct rk lf : UInt64) (sz : Int) : Bool := !((g3.length : Int) != 32) && (!((g4.length : Int) != 32) && mayD rc ct rk lf sz)
def newT (g3 g4 : List UInt8) (first : Bool) (now rc ct rk lf : UInt64) (sz : Int) : Tn := ⟨newW sz ((sz.toNat + 63) / 64), g3, g4, first, first, rc, ct, rk, lf, sz, 0, now⟩
def g9 : List AVal → Option EffA
  | [.agg [.str g1, .str g2, .str g3, .str g4, .str g5], .bool first, .u64 now, .agg [.u64 rc, .u64 ct, .u64 rk, .u64 lf, .int .i64 sz]] => some (cond (newG g3 g4 rc ct rk lf sz) (newE obT 4 [0, 1, 2, 3] winV (newT g3 g4 first now rc ct rk lf sz)) (.pure (.tup [.nilPtr, .int .i64 2])))
  | _ => none
theorem nameWin {k : Nat} (hk : 0 < k) : NameV k winV := fun ρ ns ns' l1 l2 hρ => .tupL (.cons (.ptr (hρ 0 _ _ (at1 (by omega)) (at1 (by omega)))) (.cons (.same rfl) (.nil _)))
theorem g9_ok : CSOk Try.prog (csOne 9 g9) := csOne_ok fun args e he => by
  unfold g9 at he
  split at he
  · rename_i g1 g2 g3 g4 g5 first now rc ct rk lf sz
    cases he
    unfold newG mayD
    cases hw : (decide (1 ≤ sz) && decide (sz ≤ 4096)) with
    | false =>
      simp only [Bool.and_false, cond_false]
      have ho := o30n_ok g1 g2 g3 g4 g5 now rc ct rk lf sz hw
      cases h1 : ((g3.length : Int) != 32) with
      | true => exact callOk_ans csN_ok (noPS_ok _) hmix gl (w9n1 g1 g2 g3 g4 g5 first now rc ct rk lf sz) (by simp only [allT, h1, ho, cond_true]) rfl rfl
      | false =>
        cases h2 : ((g4.length : Int) != 32) with
        | true => exact callOk_ans csN_ok (noPS_ok _) hmix gl (w9n2 g1 g2 g3 g4 g5 first now rc ct rk lf sz) (by simp only [allT, h1, h2, ho, Bool.not_false, cond_true]) rfl rfl
        | false =>
          cases h3 : mayL rc ct rk lf with
          | true => exact callOk_ans csN_ok (noPS_ok _) hmix gl (w9n3 g1 g2 g3 g4 g5 first now rc ct rk lf sz) (by simp only [allT, h1, h2, h3, ho, Bool.not_false, cond_true]) rfl rfl
          | false => exact callOk_ans csN_ok (noPS_ok _) hmix gl (w9n4 g1 g2 g3 g4 g5 first now rc ct rk lf sz) (by simp only [allT, h1, h2, h3, ho, Bool.not_false, cond_true]) rfl rfl
    | true =>
      simp only [Bool.and_true]
      have ho := o30w_ok g1 g2 g3 g4 g5 now rc ct rk lf sz hw
      cases h1 : ((g3.length : Int) != 32) with
      | true =>
        simp only [Bool.not_true, Bool.false_and, cond_false]
        exact callOk_ans csN_ok (noPS_ok _) hmix gl (w9w1 g1 g2 g3 g4 g5 first now rc ct rk lf sz (newW sz ((sz.toNat + 63) / 64))) (by simp only [allT, h1, ho, cond_true]) rfl rfl
      | false =>
        cases h2 : ((g4.length : Int) != 32) with
        | true =>
          simp only [Bool.not_true, Bool.not_false, Bool.true_and, Bool.false_and, cond_false]
          exact callOk_ans csN_ok (noPS_ok _) hmix gl (w9w2 g1 g2 g3 g4 g5 first now rc ct rk lf sz (newW sz ((sz.toNat + 63) / 64))) (by simp only [allT, h1, h2, ho, Bool.not_false, cond_true]) rfl rfl
        | false =>
          cases h3 : mayL rc ct rk lf with
          | true =>
            simp only [Bool.not_false, Bool.true_and, cond_true]
            exact newE_ok csN_ok hmix (by decide) rfl (relOT _) (nameWin (show 0 < 4 by decide)) rfl (by decide) (by decide) (runF_of (noPS_ok _) gl [352, 56, 57, 8] (w9w3 g1 g2 g3 g4 g5 first now rc ct rk lf sz (newW sz ((sz.toNat + 63) / 64))) (by simp only [allT, h1, h2, h3, ho, Bool.not_false, cond_true]) rfl rfl rfl rfl)
          | false =>
            simp only [Bool.not_false, Bool.true_and, cond_false]
            exact callOk_ans csN_ok (noPS_ok _) hmix gl (w9w4 g1 g2 g3 g4 g5 first now rc ct rk lf sz (newW sz ((sz.toNat + 63) / 64))) (by simp only [allT, h1, h2, h3, ho, Bool.not_false, cond_true]) rfl rfl
  · cases he
end Go.Proofs.Ytjdhndicgifnbaa.Tun

/- Engine, part 52: methods that only read an object's first block. -/
namespace Go.Eng
set_option linter.unusedVariables false
set_option linter.unusedSimpArgs false
set_option maxRecDepth 100000
set_option linter.unusedVariables false
set_option linter.unusedSimpArgs false
theorem callOk_same2 {P : Program} {f : FuncId} {args : List AVal} {e e' : EffA} (h : CallOk P f args e) (hx : ∀ base H v H', e'.app base H = some (v, H') → ∃ H2, e.app base H = some (v, H2) ∧ aget H2 = aget H') : CallOk P f args e' := by
  intro σ args' H w base v H' hl hg hH happ hfree
  obtain ⟨H2, h1, h2⟩ := hx base H v H' happ
  have r := h σ args' H w base v H2 hl hg hH h1 hfree
  rw [h2] at r
  exact r
def rdF {S : Type} (dec : AObj → Option (List Nat × S)) (val : S → AVal) (ok : S → Bool) (o : AObj) : Option AVal :=
  match dec o with
  | some (ns, s) => cond (nodupB ns && ok s) (some (val s)) none
  | none => none
def rdE {S : Type} (t : Nat) (dec : AObj → Option (List Nat × S)) (val : S → AVal) (ok : S → Bool) : EffA := .read t (rdF dec val ok)
def atF {S : Type} (t : Nat) (dec : AObj → Option (List Nat × S)) (η : Nat → Option AObj) : Option (List Nat × S) :=
  match η t with
  | some o => dec o
  | none => none
/-- What a decoder of a first block must show. -/
def DecOk {S : Type} (O : Ob S) (t : Nat) (dec : AObj → Option (List Nat × S)) : Prop := ∀ o ns s, dec o = some (ns, s) → ns.length = O.k s ∧ ns[0]? = some t ∧ (∀ c, (O.place ns s)[0]? = some c → o = .cells false c) ∧
  ∀ n, n ∈ ns → n = t ∨ ∃ (fz : Bool) (c : List AVal) (i : Nat), o = .cells fz c ∧ ((∃ off len esz, c[i]? = some (AVal.slice n off len esz)) ∨ ∃ off, c[i]? = some (AVal.ptr n off))
theorem decOk_find {S : Type} {O : Ob S} {t : Nat} {dec : AObj → Option (List Nat × S)} (hd : DecOk O t dec) (hm1 : ∀ s, O.m s = 1) {args : List AVal} {A : S → List Nat → List AVal} (hA : ∀ s ns, ns.length = O.k s → ns[0]? = some t → args = A s ns) {η : Nat → Option AObj} {ns : List Nat} {s : S} (h : atF t dec η = some (ns, s)) :
    ns.length = O.k s ∧ (∀ n, n ∈ ns → Known η args n) ∧ (∀ (i n : Nat) (c : List AVal), ns[i]? = some n → (O.place ns s)[i]? = some c → η n = some (.cells false c)) ∧ args = A s ns := by
  unfold atF at h
  split at h
  · rename_i o ho
    obtain ⟨h1, h2, h3, h4⟩ := hd o ns s h
    refine ⟨h1, fun n hn => ?_, fun i n c e1 e2 => ?_, hA s ns h1 h2⟩
    · rcases h4 n hn with rfl | ⟨fz, c, i, rfl, hc⟩
      · exact .inl ⟨o, ho⟩
      · exact .inr (.inl ⟨t, fz, c, i, ho, hc⟩)
    · have hi : i < 1 := by
        have := (List.getElem?_eq_some_iff.1 e2).1
        rwa [O.len, hm1] at this
      have : i = 0 := by omega
      subst this
      rw [h2] at e1
      cases e1
      rw [ho, h3 c e2]
  · cases h
theorem range_at {k i j : Nat} (h : (List.range k)[i]? = some j) : i < k ∧ j = i := by
  obtain ⟨h1, h2⟩ := List.getElem?_eq_some_iff.1 h
  rw [List.getElem_range] at h2
  exact ⟨by simpa using h1, h2.symm⟩
theorem map_nmU2 {ns : List Nat} {base k : Nat} (h : ns.length = k) : (List.range k).map (nmU2 ns base) = ns := by
  apply List.ext_getElem?
  intro i
  rw [List.getElem?_map]
  by_cases c : i < k
  · rw [List.getElem?_range c, Option.map_some, getD_at (by omega)]
    unfold nmU2
    have : Nat.blt i ns.length = true := by rw [h]; simpa [Nat.blt_eq] using c
    rw [this]; rfl
  · rw [List.getElem?_eq_none (by simp; omega), List.getElem?_eq_none (by omega)]; rfl
theorem rdE_ok {S : Type} {P : Program} {cs : CS} (hcs : CSOk P cs) (hm : P.follows .mixedOrders = true) {f : FuncId} {O : Ob S} {t : Nat} {dec : AObj → Option (List Nat × S)} {args : List AVal} {A : S → List Nat → List AVal} {val : S → AVal} {ok : S → Bool} (hd : DecOk O t dec) (hm1 : ∀ s, O.m s = 1)
    (hA : ∀ s ns, ns.length = O.k s → ns[0]? = some t → args = A s ns)
    (h : ∀ s, ok s = true → O.Rel s ∧ ltV 0 (val s) = true ∧ NameL (O.k s) (A s) ∧ RunF P cs f O O 0 (List.range (O.k s)) (A s) s (fun _ => val s) s) : CallOk P f args (rdE t dec val ok) := by
  have h0 : CallOk P f args (effF O O (atF t dec) 0 (fun s => List.range (O.k s)) (fun _ s => val s) id ok) :=
    effF_ok hcs hm (by decide) (A := A) (fun {η ns s} hf => decOk_find hd hm1 hA hf) fun s hs => by
      obtain ⟨a, b, c, d⟩ := h s hs
      refine ⟨a, a, .plain b, c, by rw [List.length_range]; rfl, List.nodup_range, fun j hj => by have := List.mem_range.1 hj; omega, fun i j e1 e2 => .inl ?_, d⟩
      obtain ⟨_, rfl⟩ := range_at e1
      exact e2
  refine callOk_same2 h0 fun base H v H' happ => ?_
  unfold rdE at happ
  simp only [EffA.app] at happ
  cases hn : aget H t with
  | none => rw [hn] at happ; cases happ
  | some o =>
    rw [hn] at happ
    simp only at happ
    cases hr : rdF dec val ok o with
    | none => rw [hr] at happ; cases happ
    | some u =>
      rw [hr] at happ
      cases happ
      unfold rdF at hr
      split at hr
      · rename_i ns s hdec
        cases hc : (nodupB ns && ok s) <;> rw [hc] at hr <;> simp only [cond_true, cond_false] at hr
        · cases hr
        · cases hr
          rw [Bool.and_eq_true] at hc
          obtain ⟨h1, h2, h3, h4⟩ := hd o ns s hdec
          have hat : atF t dec (aget H) = some (ns, s) := by unfold atF; rw [hn]; exact hdec
          refine ⟨_, effF_app (O := O) (O2 := O) (src := fun s => List.range (O.k s)) (val := fun _ s => val s) (next := id) hat hc.1 hc.2, ?_⟩
          have hpl : (O.place ns s).length = 1 := by rw [O.len, hm1]
          obtain ⟨c, hpc⟩ : ∃ c, O.place ns s = [c] := List.length_eq_one_iff.1 hpl
          obtain ⟨tl, rfl⟩ : ∃ tl, ns = t :: tl := by
            cases ns with
            | nil => simp at h2
            | cons a tl => simp at h2; subst h2; exact ⟨tl, rfl⟩
          have ho := h3 c (by rw [hpc]; rfl)
          rw [map_nmU2 h1]
          have hk : 1 ≤ O.k s := by rw [← h1]; simp
          have hg : goneF (O.m s) ((List.range (O.k s)).take (O.place (t :: tl) (id s)).length) = [] := by
            show goneF (O.m s) ((List.range (O.k s)).take (O.place (t :: tl) s).length) = []
            rw [hpl, hm1]
            unfold goneF
            rw [show List.range 1 = [0] from rfl]
            have : (List.range (O.k s)).take 1 = [0] := by
              obtain ⟨q, hq⟩ : ∃ q, O.k s = q + 1 := ⟨O.k s - 1, by omega⟩
              rw [hq, List.range_succ_eq_map]; rfl
            rw [this]; rfl
          have hu : upF2 (t :: tl) base (O.m s) (List.range (O.k s)) (O.place (t :: tl) (id s)) = [(t, some (.cells false c))] := by
            unfold upF2
            rw [map_nmU2 h1, hg]
            show putC (t :: tl) (O.place (t :: tl) s) ++ [] = _
            rw [hpc]
            cases tl <;> rfl
          rw [hu]
          funext m
          show aget (aset H t (.cells false c)) m = aget H m
          rw [aget_aset]
          split
          · rename_i e; subst e; rw [hn, ho]
          · rfl
      · cases hr
end Go.Eng

/- Tunnels of the document: what lies where. -/
namespace Go.Proofs.Ytjdhndicgifnbaa.Tun
set_option linter.unusedVariables false
set_option linter.unusedSimpArgs false
open Go Go.Eng Go.Proofs.Ytjdhndicgifnbaa
set_option maxRecDepth 100000
set_option maxHeartbeats 1000000
set_option linter.unusedSimpArgs false
set_option linter.unusedVariables false
structure Dc where
  send : List UInt8
  recv : List UInt8
  first : Bool
  made : UInt64
  rc : UInt64
  ct : UInt64
  rk : UInt64
  lf : UInt64
  wn : Int
  next : UInt64
  size : Int
  sure : Bool
  gone : Bool
def cD (sl : AVal) (s : Dc) : List AVal := [.str s.send, .str s.recv, .bool s.first, .u64 s.made, .u64 s.rc, .u64 s.ct, .u64 s.rk, .u64 s.lf, .int .i64 s.wn, .u64 s.next, .int .i64 s.size, sl, .bool s.sure, .bool s.gone]
def slQ (m : Nat) : Option Nat → AVal
  | none => .nilSlice
  | some q => .slice m 0 q 1
def kQ : Option Nat → Nat
  | none => 1
  | some _ => 2
theorem kQ_pos (q : Option Nat) : 1 ≤ kQ q := by cases q <;> simp [kQ]
/-- The first block alone. -/
def obD1 : Ob (Dc × Option Nat) := ⟨fun s => kQ s.2, fun ns s => [cD (slQ (ns.getD 1 0) s.2) s.1], fun _ => 1, fun _ _ => rfl, fun s => kQ_pos s.2⟩
theorem relcD {ρ : Nat → Nat → Prop} {a b : AVal} (s s' : Dc) (e : s = s') (h : RL ρ [a] [b]) : RL ρ (cD a s) (cD b s') := by
  subst e
  have h1 : RN ρ a b := h.2 0 a b rfl rfl
  exact .cons (.same rfl) (.cons (.same rfl) (.cons (.same rfl) (.cons (.same rfl) (.cons (.same rfl) (.cons (.same rfl) (.cons (.same rfl) (.cons (.same rfl) (.cons (.same rfl) (.cons (.same rfl) (.cons (.same rfl) (.cons h1 (.same rfl))))))))))))
theorem relQ {ρ : Nat → Nat → Prop} {ns ns' : List Nat} {q : Option Nat} (h1 : ns.length = kQ q) (h2 : ns'.length = kQ q) (hρ : ∀ (i n n' : Nat), ns[i]? = some n → ns'[i]? = some n' → ρ n n') : RL ρ [slQ (ns.getD 1 0) q] [slQ (ns'.getD 1 0) q] := by
  cases q with
  | none => exact .same rfl
  | some q => exact .cons (.slice (hρ 1 _ _ (at1 (by rw [h1]; exact Nat.one_lt_two)) (at1 (by rw [h2]; exact Nat.one_lt_two)))) (.nil _)
theorem relD1 (s : Dc × Option Nat) : obD1.Rel s := fun ρ ns ns' h1 h2 hρ i c c' e1 e2 => by
  match i, e1, e2 with
  | 0, e1, e2 => cases e1; cases e2; exact relcD _ _ rfl (relQ h1 h2 hρ)
  | i + 1, e1, e2 => simp [obD1] at e1
def decS : AVal → Option (List Nat × Option Nat)
  | .nilSlice => some ([], none)
  | .slice m 0 q 1 => some ([m], some q)
  | _ => none
def decD (t : Nat) : AObj → Option (List Nat × (Dc × Option Nat))
  | .cells false [.str send, .str recv, .bool first, .u64 made, .u64 rc, .u64 ct, .u64 rk, .u64 lf, .int .i64 wn, .u64 next, .int .i64 size, sl, .bool sure, .bool gone] => match decS sl with
    | some (ns, q) => some (t :: ns, (⟨send, recv, first, made, rc, ct, rk, lf, wn, next, size, sure, gone⟩, q))
    | none => none
  | _ => none
theorem decS_ok {sl : AVal} {ns : List Nat} {q : Option Nat} (h : decS sl = some (ns, q)) (t : Nat) : sl = slQ ((t :: ns).getD 1 0) q ∧ (t :: ns).length = kQ q ∧ ∀ n, n ∈ ns → ∃ off len esz, sl = .slice n off len esz := by
  unfold decS at h
  split at h
  · cases h; exact ⟨rfl, rfl, fun n h => by simp at h⟩
  · cases h; exact ⟨rfl, rfl, fun n h => by simp at h; subst h; exact ⟨_, _, _, rfl⟩⟩
  · cases h
theorem decD_ok (t : Nat) : DecOk obD1 t (decD t) := fun o ns s h => by
  unfold decD at h
  split at h
  · rename_i send recv first made rc ct rk lf wn next size sl sure gone
    split at h
    · rename_i ns' q hq
      cases h
      obtain ⟨h1, h2, h3⟩ := decS_ok hq t
      refine ⟨h2, rfl, fun c hc => ?_, fun n hn => ?_⟩
      · have : c = cD (slQ ((t :: ns').getD 1 0) q) ⟨send, recv, first, made, rc, ct, rk, lf, wn, next, size, sure, gone⟩ := by simpa [obD1] using hc.symm
        rw [this, ← h1]; rfl
      · rcases List.mem_cons.1 hn with rfl | hn
        · exact .inl rfl
        · obtain ⟨off, len, esz, e⟩ := h3 n hn
          exact .inr ⟨_, _, 11, rfl, .inl ⟨off, len, esz, by rw [e]; rfl⟩⟩
    · cases h
  · cases h
theorem decD_at (t m : Nat) (s : Dc) (q : Option Nat) : decD t (.cells false (cD (slQ m q) s)) = some (match q with | none => [t] | some _ => [t, m], (s, q)) := by
  cases q <;> rfl
section
variable (sl : AVal) (s : Dc) (now : UInt64)
def hD : HL := [(0, .cells false (cD sl s))]
def oD : List (Option AObj) := [some (.cells false (cD sl s))]
end
/-- A run with the first block alone shown, whatever the marks are. -/
theorem runD1 {P : Program} {ps : PS} {cs : CS} (hps : PSOk ps cs) (hG : P.globals.size = 0) {f : FuncId} {o : Nat} {xs : List AVal} {s s2 : Dc} {q : Option Nat} {v : AVal}
    {sy : List Nat} {os : List Bool} {vs : List AVal} {nn F : Nat} {ob : List Bool}
    (h : ansM [0] (run1O P ps cs sy os vs nn F f (.ptr 0 o :: xs) (hD (slQ 1 q) s) 8) = some (v, oD (slQ 1 q) s2, ob)) (ha : allT ob = true) : RunF P cs f obD1 obD1 0 (List.range (obD1.k (s, q))) (fun ns => .ptr (ns.getD 0 0) o :: xs) (s, q) (fun _ => v) (s2, q) := by
  cases q with
  | none => exact runF_of hps hG [] h ha rfl rfl rfl rfl
  | some q => exact runF_of hps hG [] h ha rfl rfl rfl rfl
end Go.Proofs.Ytjdhndicgifnbaa.Tun

/- Tunnels of the document: age, over, wants. -/
namespace Go.Proofs.Ytjdhndicgifnbaa.Tun
set_option linter.unusedVariables false
set_option linter.unusedSimpArgs false
open Go Go.Eng Go.Proofs.Ytjdhndicgifnbaa
set_option maxRecDepth 100000
set_option maxHeartbeats 1000000
set_option linter.unusedSimpArgs false
set_option linter.unusedVariables false
section
variable (q : Option Nat) (s : Dc) (now : UInt64)
theorem w37a : ansM [0] (run1O Try.prog noPS noCS [10] [true] [] (mask 37) 100 37 [.ptr 0 0, .u64 now] (hD (slQ 1 q) s) 8) = some (.u64 0, oD (slQ 1 q) s, [decide (now < s.made)]) := by cases q <;> kernel_rfl
theorem w37b : ansM [0] (run1O Try.prog noPS noCS [10] [false] [] (mask 37) 100 37 [.ptr 0 0, .u64 now] (hD (slQ 1 q) s) 8) = some (.u64 (now - s.made), oD (slQ 1 q) s, [!decide (now < s.made)]) := by cases q <;> kernel_rfl
end
theorem nameP0 (q : Option Nat) {o : Nat} {xs : List AVal} (h : ltL 0 xs = true) : NameL (kQ q) fun ns => .ptr (ns.getD 0 0) o :: xs := .recv (kQ_pos q) h
theorem argP0 {t o : Nat} {xs ns : List AVal} {l : List Nat} (h : l[0]? = some t) : (.ptr t o :: xs : List AVal) = .ptr (l.getD 0 0) o :: xs := by
  rw [List.getD_eq_getElem?_getD, h]; rfl
theorem ageU_lt {now made : UInt64} (h : now < made) : ageU now made = 0 := by
  unfold ageU; rw [if_pos h]; simp
theorem ageU_ge {now made : UInt64} (h : ¬ now < made) : ageU now made = now - made := by
  unfold ageU; rw [if_neg h]
theorem readD {cs : CS} (hcs : CSOk Try.prog cs) {f : FuncId} {t o : Nat} {xs : List AVal} (hx : ltL 0 xs = true) {val : Dc → AVal} (hv : ∀ s, ltV 0 (val s) = true)
    (h : ∀ s q, RunF Try.prog cs f obD1 obD1 0 (List.range (obD1.k (s, q))) (fun ns => .ptr (ns.getD 0 0) o :: xs) (s, q) (fun _ => val s) (s, q)) : CallOk Try.prog f (.ptr t o :: xs) (rdE t (decD t) (fun s => val s.1) fun _ => true) :=
  rdE_ok hcs hmix (O := obD1) (A := fun _ ns => .ptr (ns.getD 0 0) o :: xs) (decD_ok t) (fun _ => rfl) (fun s ns _ h0 => argP0 (ns := []) h0) fun ⟨s, q⟩ _ => ⟨relD1 _, hv s, nameP0 q hx, h s q⟩
def g37 : List AVal → Option EffA
  | [.ptr t 0, .u64 now] => some (rdE t (decD t) (fun s => .u64 (ageU now s.1.made)) fun _ => true)
  | _ => none
theorem g37_ok : CSOk Try.prog (csOne 37 g37) := csOne_ok fun args e he => by
  unfold g37 at he
  split at he
  · rename_i t now
    cases he
    refine readD (val := fun s => .u64 (ageU now s.made)) (noCS_ok _) rfl (fun _ => rfl) fun s q => ?_
    by_cases h : now < s.made
    · simp only [ageU_lt h]
      exact runD1 (noPS_ok _) gl (w37a q s now) (by simp only [allT, decide_eq_true h, cond_true])
    · simp only [ageU_ge h]
      exact runD1 (noPS_ok _) gl (w37b q s now) (by simp only [allT, decide_eq_false h, Bool.not_false, cond_true])
  · cases he
def overD (now : UInt64) (s : Dc) : Bool := cond s.gone true (decide (s.lf ≤ ageU now s.made))
section
variable (q : Option Nat) (s : Dc) (now : UInt64)
theorem w13a : ansM [0] (run1O Try.prog noPS (csOne 37 g37) [9] [true] [] (mask 13) 100 13 [.ptr 0 0, .u64 now] (hD (slQ 1 q) s) 8) = some (.bool true, oD (slQ 1 q) s, [s.gone]) := by cases q <;> kernel_rfl
theorem w13b : ansM [0] (run1O Try.prog noPS (csOne 37 g37) [9] [false] [] (mask 13) 100 13 [.ptr 0 0, .u64 now] (hD (slQ 1 q) s) 8) = some (.bool (decide (s.lf ≤ ageU now s.made)), oD (slQ 1 q) s, [!s.gone]) := by cases q <;> kernel_rfl
end
def g13 : List AVal → Option EffA
  | [.ptr t 0, .u64 now] => some (rdE t (decD t) (fun s => .bool (overD now s.1)) fun _ => true)
  | _ => none
theorem g13_ok : CSOk Try.prog (csOne 13 g13) := csOne_ok fun args e he => by
  unfold g13 at he
  split at he
  · rename_i t now
    cases he
    refine readD (val := fun s => .bool (overD now s)) g37_ok rfl (fun _ => rfl) fun s q => ?_
    unfold overD
    cases h : s.gone with
    | true => exact runD1 (noPS_ok _) gl (w13a q s now) (by simp only [allT, h, cond_true])
    | false => exact runD1 (noPS_ok _) gl (w13b q s now) (by simp only [allT, h, Bool.not_false, cond_true])
  · cases he
end Go.Proofs.Ytjdhndicgifnbaa.Tun

/- Tunnels of the document: wants, sealed. -/
namespace Go.Proofs.Ytjdhndicgifnbaa.Tun
set_option linter.unusedVariables false
set_option linter.unusedSimpArgs false
open Go Go.Eng Go.Proofs.Ytjdhndicgifnbaa
set_option maxRecDepth 100000
set_option maxHeartbeats 1000000
set_option linter.unusedSimpArgs false
set_option linter.unusedVariables false
def csD (φ : Ae.Fn) : CS := csAlt (csP (Ae.psn φ)) (csAlt (csOne 13 g13) (csAlt (csOne 37 g37) (Ae.nb φ)))
theorem csD_ok : CSOk Try.prog (csD Ae.realFn) := csAlt_ok Ae.psn_ok (csAlt_ok g13_ok (csAlt_ok g37_ok Ae.nb_ok))
def wantsD (now : UInt64) (s : Dc) : Bool := cond s.first (cond (overD now s) false (cond (decide (s.rc ≤ s.next)) true (decide (s.rk ≤ ageU now s.made)))) false
section
variable (φ : Ae.Fn) (q : Option Nat) (s : Dc) (now : UInt64) (x : List UInt8)
theorem w15a : ansM [0] (run1O Try.prog noPS (csD φ) [9,13,26] [true, true, true] [] (mask 15) 100 15 [.ptr 0 0, .u64 now] (hD (slQ 1 q) s) 8) = some (.bool true, oD (slQ 1 q) s, [decide (s.rc ≤ s.next), !overD now s, s.first]) := by cases q <;> kernel_rfl
theorem w15b : ansM [0] (run1O Try.prog noPS (csD φ) [9,13,26] [true, true, false] [] (mask 15) 100 15 [.ptr 0 0, .u64 now] (hD (slQ 1 q) s) 8) = some (.bool (decide (s.rk ≤ ageU now s.made)), oD (slQ 1 q) s, [!decide (s.rc ≤ s.next), !overD now s, s.first]) := by cases q <;> kernel_rfl
theorem w15c : ansM [0] (run1O Try.prog noPS (csD φ) [9,13,26] [true, false] [] (mask 15) 100 15 [.ptr 0 0, .u64 now] (hD (slQ 1 q) s) 8) = some (.bool false, oD (slQ 1 q) s, [!!overD now s, s.first]) := by cases q <;> kernel_rfl
theorem w15d : ansM [0] (run1O Try.prog noPS (csD φ) [9,13,26] [false] [] (mask 15) 100 15 [.ptr 0 0, .u64 now] (hD (slQ 1 q) s) 8) = some (.bool false, oD (slQ 1 q) s, [!s.first]) := by cases q <;> kernel_rfl
def sy34 : List Nat := [13,24,30,46]
def incD (s : Dc) : Dc := { s with next := s.next + 1 }
theorem w34a : ansM [0] (run1O Try.prog noPS (csD φ) sy34 [true] [] (mask 34) 100 34 [.ptr 0 0, .u64 now, .str x] (hD (slQ 1 q) s) 8) = some (.tup [.u64 0, .str [], .int .i64 180], oD (slQ 1 q) s, [overD now s]) := by cases q <;> kernel_rfl
theorem w34b : ansM [0] (run1O Try.prog noPS (csD φ) sy34 [false, true] [] (mask 34) 100 34 [.ptr 0 0, .u64 now, .str x] (hD (slQ 1 q) s) 8) = some (.tup [.u64 0, .str [], .int .i64 180], oD (slQ 1 q) s, [decide (s.ct ≤ s.next), !overD now s]) := by cases q <;> kernel_rfl
theorem w34c : ansM [0] (run1O Try.prog noPS (csD φ) sy34 [false, false, true] [] (mask 34) 100 34 [.ptr 0 0, .u64 now, .str x] (hD (slQ 1 q) s) 8) = some (.tup [.u64 0, .str [], .int .i64 3], oD (slQ 1 q) s, [!s.sure, !decide (s.ct ≤ s.next), !overD now s]) := by cases q <;> kernel_rfl
theorem w34d : ansM [0] (run1O Try.prog noPS (csD φ) sy34 [false, false, false, true] [] (mask 34) 100 34 [.ptr 0 0, .u64 now, .str x] (hD (slQ 1 q) s) 8) = some (.tup [.u64 0, .str [], .int .i64 (φ.sr s.send (Ae.nonL s.next) [] x)], oD (slQ 1 q) s, [φ.sr s.send (Ae.nonL s.next) [] x != 0, !!s.sure, !decide (s.ct ≤ s.next), !overD now s]) := by cases q <;> kernel_rfl
theorem w34e : ansM [0] (run1O Try.prog noPS (csD φ) sy34 [false, false, false, false] [] (mask 34) 100 34 [.ptr 0 0, .u64 now, .str x] (hD (slQ 1 q) s) 8) = some (.tup [.u64 (s.next + 1 - 1), .str (φ.sv s.send (Ae.nonL s.next) [] x), .int .i64 0], oD (slQ 1 q) (incD s), [!(φ.sr s.send (Ae.nonL s.next) [] x != 0), !!s.sure, !decide (s.ct ≤ s.next), !overD now s]) := by cases q <;> kernel_rfl
end
def g15 : List AVal → Option EffA
  | [.ptr t 0, .u64 now] => some (rdE t (decD t) (fun s => .bool (wantsD now s.1)) fun _ => true)
  | _ => none
theorem g15_ok : CSOk Try.prog (csOne 15 g15) := csOne_ok fun args e he => by
  unfold g15 at he
  split at he
  · rename_i t now
    cases he
    refine readD (val := fun s => .bool (wantsD now s)) csD_ok rfl (fun _ => rfl) fun s q => ?_
    unfold wantsD
    cases h : s.first with
    | false => exact runD1 (noPS_ok _) gl (w15d _ q s now) (by simp only [allT, h, Bool.not_false, cond_true])
    | true =>
      simp only [cond_true]
      cases h1 : overD now s with
      | true => exact runD1 (noPS_ok _) gl (w15c _ q s now) (by simp only [allT, h, h1, Bool.not_false, Bool.not_true, cond_true])
      | false =>
        simp only [cond_false]
        cases h2 : decide (s.rc ≤ s.next) with
        | true => exact runD1 (noPS_ok _) gl (w15a _ q s now) (by simp only [allT, h, h1, h2, Bool.not_false, cond_true])
        | false => exact runD1 (noPS_ok _) gl (w15b _ q s now) (by simp only [allT, h, h1, h2, Bool.not_false, cond_true])
  · cases he
/-- A method that changes the first block alone. -/
def meD (t : Nat) (val : Dc → AVal) (next : Dc → Dc) : EffA := effF obD1 obD1 (atF t (decD t)) 0 (fun s => List.range (kQ s.2)) (fun _ s => val s.1) (fun s => (next s.1, s.2)) fun _ => true
theorem meD_ok {cs : CS} (hcs : CSOk Try.prog cs) {f : FuncId} {t o : Nat} {xs : List AVal} (hx : ltL 0 xs = true) {val : Dc → AVal} {next : Dc → Dc} (hv : ∀ s, ltV 0 (val s) = true)
    (h : ∀ s q, RunF Try.prog cs f obD1 obD1 0 (List.range (obD1.k (s, q))) (fun ns => .ptr (ns.getD 0 0) o :: xs) (s, q) (fun _ => val s) (next s, q)) : CallOk Try.prog f (.ptr t o :: xs) (meD t val next) :=
  effF_ok hcs hmix (by decide) (O := obD1) (O2 := obD1) (A := fun _ ns => .ptr (ns.getD 0 0) o :: xs) (fun {η ns s} hf => decOk_find (decD_ok t) (fun _ => rfl) (fun s ns _ h0 => argP0 (ns := []) h0) hf) fun ⟨s, q⟩ _ =>
    ⟨relD1 _, relD1 _, .plain (hv s), nameP0 q hx, by rw [List.length_range]; rfl, List.nodup_range, fun j hj => by have := List.mem_range.1 hj; exact this, fun i j e1 e2 => .inl (by obtain ⟨_, rfl⟩ := range_at e1; exact e2), h s q⟩
/-- Does a text go, and as what? -/
def sealDG (now : UInt64) (x : List UInt8) (s : Dc) : Bool := !overD now s && (!decide (s.ct ≤ s.next) && (s.sure && !((Ae.seF s.send (Ae.nonL s.next) [] x).2 != 0)))
def sealDE (now : UInt64) (x : List UInt8) (s : Dc) : Int := cond (overD now s) 180 (cond (decide (s.ct ≤ s.next)) 180 (cond s.sure (Ae.seF s.send (Ae.nonL s.next) [] x).2 3))
def sealDV (now : UInt64) (x : List UInt8) (s : Dc) : AVal := cond (sealDG now x s) (.tup [.u64 s.next, .str (Ae.seF s.send (Ae.nonL s.next) [] x).1, .int .i64 0]) (.tup [.u64 0, .str [], .int .i64 (sealDE now x s)])
def sealDN (now : UInt64) (x : List UInt8) (s : Dc) : Dc := cond (sealDG now x s) (incD s) s
theorem lt_sealDV (now : UInt64) (x : List UInt8) (s : Dc) : ltV 0 (sealDV now x s) = true := by
  unfold sealDV
  cases sealDG now x s <;> rfl
def g34 : List AVal → Option EffA
  | [.ptr t 0, .u64 now, .str x] => some (meD t (sealDV now x) (sealDN now x))
  | _ => none
theorem g34_ok : CSOk Try.prog (csOne 34 g34) := csOne_ok fun args e he => by
  unfold g34 at he
  split at he
  · rename_i t now x
    cases he
    refine meD_ok csD_ok rfl (lt_sealDV now x) fun s q => ?_
    unfold sealDV sealDN sealDG sealDE
    cases h0 : overD now s with
    | true => exact runD1 (noPS_ok _) gl (w34a _ q s now x) (by simp only [allT, h0, cond_true])
    | false =>
      simp only [Bool.not_false, Bool.true_and, cond_false]
      cases h1 : decide (s.ct ≤ s.next) with
      | true =>
        simp only [Bool.not_true, Bool.false_and, cond_false, cond_true]
        exact runD1 (noPS_ok _) gl (w34b _ q s now x) (by simp only [allT, h0, h1, Bool.not_false, cond_true])
      | false =>
        simp only [Bool.not_false, Bool.true_and, cond_false]
        cases h2 : s.sure with
        | false =>
          simp only [Bool.false_and, cond_false]
          exact runD1 (noPS_ok _) gl (w34c _ q s now x) (by simp only [allT, h0, h1, h2, Bool.not_false, cond_true])
        | true =>
          simp only [Bool.true_and, cond_true]
          have hd := w34d Ae.realFn q s now x
          have he := w34e Ae.realFn q s now x
          rw [add_sub_one] at he
          cases h3 : ((Ae.seF s.send (Ae.nonL s.next) [] x).2 != 0) with
          | true =>
            simp only [Bool.not_true, cond_false]
            have h3' : (Ae.realFn.sr s.send (Ae.nonL s.next) [] x != 0) = true := h3
            exact runD1 (noPS_ok _) gl hd (by simp only [allT, h0, h1, h2, h3', Bool.not_false, Bool.not_true, cond_true])
          | false =>
            simp only [Bool.not_false, cond_true]
            have h3' : (Ae.realFn.sr s.send (Ae.nonL s.next) [] x != 0) = false := h3
            exact runD1 (noPS_ok _) gl he (by simp only [allT, h0, h1, h2, h3', Bool.not_false, Bool.not_true, cond_true])
  · cases he
end Go.Proofs.Ytjdhndicgifnbaa.Tun

/- Engine, part 53: functions with loops: the answer and the blocks behind it. -/
namespace Go.Eng
set_option linter.unusedVariables false
set_option linter.unusedSimpArgs false
set_option maxRecDepth 100000
set_option linter.unusedVariables false
set_option linter.unusedSimpArgs false
theorem allT_c {b : Bool} {l : List Bool} (h : b = true) (t : allT l = true) : allT (b :: l) = true := by subst h; exact t
def finM (P : Program) (fn : Func) (ns : List Nat) : Option (XA × SA) → Option (AVal × List (Option AObj))
  | none => none
  | some (.exit _, _) => none
  | some (_, s) => match resA P s.T s.H fn.results.toList with
    | none => none
    | some [v] => some (v, ns.map (aget s.H))
    | some vs => some (.tup vs, ns.map (aget s.H))
def ansR (ns : List Nat) (x : Option (AVal × HL × Nat)) : Option (AVal × List (Option AObj)) :=
  match x with
  | some (v, H, _) => some (v, ns.map (aget H))
  | none => none
theorem run1_M {P : Program} {cs : CS} {nn F : Nat} {f : FuncId} {fn : Func} {c : Code} {args : List AVal} {H : HL} {fr : Nat} (ns : List Nat) (hf : P.funcs[f]? = some fn) (hb : fn.body = some c) (hn : Nat.ble args.length fn.ntmps = true) :
    ansR ns (run1 P cs nn F f args H fr) = finM P fn ns (evS P cs fn.ntmps nn F fr (pieces c) ⟨startT args 0, H, fr⟩) := by
  unfold run1
  simp only [hf, hb]
  unfold runF
  rw [hn, evC_pieces]
  cases evS P cs fn.ntmps nn F fr (pieces c) ⟨startT args 0, H, fr⟩ with
  | none => rfl
  | some p =>
    obtain ⟨x, s⟩ := p
    cases x with
    | exit id => rfl
    | normal =>
      simp only [cond_true, finM]
      cases resA P s.T s.H fn.results.toList with
      | none => rfl
      | some vs => match vs with
        | [] => rfl
        | [_] => rfl
        | _ :: _ :: _ => rfl
    | ret =>
      simp only [cond_true, finM]
      cases resA P s.T s.H fn.results.toList with
      | none => rfl
      | some vs => match vs with
        | [] => rfl
        | [_] => rfl
        | _ :: _ :: _ => rfl
def ansG (P : Program) (fn : Func) (ns : List Nat) (x : Option (XA × SA × OS)) : Option (AVal × List (Option AObj) × List Bool) :=
  match x with
  | some (x, s, q) => match finM P fn ns (some (x, s)) with
    | some (v, h) => some (v, h, q.ob)
    | none => none
  | none => none
theorem ansG_some {P : Program} {fn : Func} {ns : List Nat} {x : XA} {s : SA} {q : OS} {v : AVal} {h : List (Option AObj)} {ob : List Bool} (e : ansG P fn ns (some (x, s, q)) = some (v, h, ob)) : finM P fn ns (some (x, s)) = some (v, h) ∧ q.ob = ob := by
  unfold ansG at e
  simp only at e
  cases hv : finM P fn ns (some (x, s)) with
  | none => simp only [hv] at e; cases e
  | some u =>
    obtain ⟨u1, u2⟩ := u
    simp only [hv, Option.some.injEq, Prod.mk.injEq] at e
    obtain ⟨rfl, rfl, rfl⟩ := e
    exact ⟨rfl, rfl⟩
/-- The last pieces. -/
theorem ansG_ok {P : Program} {ps : PS} {cs : CS} (hps : PSOk ps cs) {sy : List Nat} {fn : Func} {ns : List Nat} {nt nn F bs : Nat} {l : List Code} {s : SA} {q : OS} {v : AVal} {h : List (Option AObj)} {ob : List Bool} (e : ansG P fn ns (evSO P ps cs sy nt nn F bs l s q) = some (v, h, ob)) (ha : allT ob = true) : finM P fn ns (evS P cs nt nn F bs l s) = some (v, h) ∧ allT q.ob = true := by
  cases hx : evSO P ps cs sy nt nn F bs l s q with
  | none => rw [hx] at e; cases e
  | some r =>
    obtain ⟨x, s', q'⟩ := r
    rw [hx] at e
    obtain ⟨h1, h2⟩ := ansG_some e
    have h3 := evSO_ok hps l s q x s' q' hx (by rw [h2]; exact ha)
    exact ⟨by rw [h3.1]; exact h1, h3.2⟩
/-- A loop's end and what stands behind it; a round that hands back. -/
noncomputable def endM (P : Program) (ps : PS) (cs : CS) (sy : List Nat) (fn : Func) (ns : List Nat) (nn F bs id : Nat) (b : Code) (l : List Code) (s : SA) (q : OS) : Option (AVal × List (Option AObj) × List Bool) :=
  match evT P ps cs sy fn.ntmps nn F bs b s q with
  | some (.exit id', s1, q1) => cond (Nat.beq id' id) (ansG P fn ns (evSO P ps cs sy fn.ntmps nn F bs l s1 q1)) none
  | some (.ret, s1, q1) => ansG P fn ns (some (.ret, s1, q1))
  | _ => none
theorem endM_ok {P : Program} {ps : PS} {cs : CS} (hps : PSOk ps cs) {sy : List Nat} {fn : Func} {ns : List Nat} {nn F bs id : Nat} {b : Code} {l : List Code} {s : SA} {os : List Bool} {vs : List AVal} {v : AVal} {hc : List (Option AObj)} {ob : List Bool} (h : endM P ps cs sy fn ns nn F bs id b l s ⟨os, vs, []⟩ = some (v, hc, ob)) (ha : allT ob = true) :
    (∃ s1, evC P cs fn.ntmps nn F bs b s = some (.exit id, s1) ∧ finM P fn ns (evS P cs fn.ntmps nn F bs l s1) = some (v, hc)) ∨ ∃ s1, evC P cs fn.ntmps nn F bs b s = some (.ret, s1) ∧ finM P fn ns (some (.ret, s1)) = some (v, hc) := by
  unfold endM at h
  split at h
  · rename_i id' s1 q1 he
    cases hb : Nat.beq id' id with
    | false => rw [hb] at h; cases h
    | true =>
      rw [hb, cond_true] at h
      have := Nat.eq_of_beq_eq_true hb
      subst this
      obtain ⟨h1, h2⟩ := ansG_ok hps h ha
      exact .inl ⟨s1, (evT_ok hps b _ _ _ _ _ he h2).1, h1⟩
  · rename_i s1 q1 he
    obtain ⟨h1, h2⟩ := ansG_some h
    exact .inr ⟨s1, (evT_ok hps b _ _ _ _ _ he (by rw [h2]; exact ha)).1, h1⟩
  · cases h
/-- A loop among the pieces, to the end. -/
theorem loopM {P : Program} {ps : PS} {cs : CS} (hps : PSOk ps cs) {nn F bs : Nat} {fn : Func} {c : Code} {ns : List Nat}
    (k : Nat) {id : Nat} {b : Code} (hk : (pieces c)[k]? = some (.block id (.loop b))) (I : Nat → SA) (N : Nat) {sy1 : List Nat} {os1 : List Bool} {vs1 : List AVal} {ob1 : List Bool}
    (hstep : ∀ j, j < N → roundA (evC P cs fn.ntmps nn F bs b) (headA P bs (I 0)) (I j) = some (I (j + 1)))
    {v : AVal} {hc : List (Option AObj)} (hend : endM P ps cs sy1 fn ns nn F bs id b ((pieces c).drop (k + 1)) (I N) ⟨os1, vs1, []⟩ = some (v, hc, ob1)) (ha1 : allT ob1 = true) (hF : N < F) :
    finM P fn ns (evS P cs fn.ntmps nn F bs ((pieces c).drop k) (I 0)) = some (v, hc) := by
  rcases endM_ok hps hend ha1 with ⟨s1, h1, h2⟩ | ⟨s1, h1, h2⟩
  · rw [evS_loop hk I N hstep h1 hF]; exact h2
  · rw [evS_loopR hk I N hstep h1 hF]; exact h2
theorem preM {P : Program} {ps : PS} {cs : CS} (hps : PSOk ps cs) {nn F : Nat} {f : FuncId} {fn : Func} {c : Code} {args : List AVal} {H : HL} {fr : Nat} {ns : List Nat} (hf : P.funcs[f]? = some fn) (hb : fn.body = some c) (hn : Nat.ble args.length fn.ntmps = true)
    (k : Nat) {s : SA} {sy0 : List Nat} {os0 : List Bool} {vs0 : List AVal} {ob0 : List Bool}
    (hpre : segO (evSO P ps cs sy0 fn.ntmps nn F fr ((pieces c).take k) ⟨startT args 0, H, fr⟩ ⟨os0, vs0, []⟩) = some (s, ob0)) (ha0 : allT ob0 = true)
    {v : AVal} {hc : List (Option AObj)} (h : finM P fn ns (evS P cs fn.ntmps nn F fr ((pieces c).drop k) s) = some (v, hc)) : ansR ns (run1 P cs nn F f args H fr) = some (v, hc) := by
  rw [run1_M ns hf hb hn]
  have e : pieces c = (pieces c).take k ++ (pieces c).drop k := (List.take_append_drop k (pieces c)).symm
  rw [e, evS_append (segO_pre hps hpre ha0)]
  exact h
theorem run_loopM {P : Program} {ps : PS} {cs : CS} (hps : PSOk ps cs) {nn F : Nat} {f : FuncId} {fn : Func} {c : Code} {args : List AVal} {H : HL} {fr : Nat} {ns : List Nat} (hf : P.funcs[f]? = some fn) (hb : fn.body = some c) (hn : Nat.ble args.length fn.ntmps = true)
    (k : Nat) {id : Nat} {b : Code} (hk : (pieces c)[k]? = some (.block id (.loop b))) (I : Nat → SA) (N : Nat) {sy0 sy1 : List Nat} {os0 os1 : List Bool} {vs0 vs1 : List AVal} {ob0 ob1 : List Bool}
    (hpre : segO (evSO P ps cs sy0 fn.ntmps nn F fr ((pieces c).take k) ⟨startT args 0, H, fr⟩ ⟨os0, vs0, []⟩) = some (I 0, ob0)) (ha0 : allT ob0 = true)
    (hstep : ∀ j, j < N → roundA (evC P cs fn.ntmps nn F fr b) (headA P fr (I 0)) (I j) = some (I (j + 1)))
    {v : AVal} {hc : List (Option AObj)} (hend : endM P ps cs sy1 fn ns nn F fr id b ((pieces c).drop (k + 1)) (I N) ⟨os1, vs1, []⟩ = some (v, hc, ob1)) (ha1 : allT ob1 = true) (hF : N < F) : ansR ns (run1 P cs nn F f args H fr) = some (v, hc) :=
  preM hps hf hb hn k hpre ha0 (loopM hps k hk I N hstep hend ha1 hF)
/-- From a run to what a call must show. -/
theorem runF_ofR {S S2 : Type} {P : Program} {cs : CS} {G : Nat} (hG : P.globals.size = G) {f : FuncId} {O : Ob S} {O2 : Ob S2} {w : Nat} {src : List Nat} {A : List Nat → List AVal} {s : S} {v : List Nat → AVal} {s2 : S2} {nn F fr : Nat} (kks : List Nat)
    (h : ansR ((src.map (nmC2 G (O.k s) kks)).take (O2.m s2)) (run1 P cs nn F f (A (canB G (O.k s))) (heapOf (canB G (O.k s)) (O.place (canB G (O.k s)) s)) fr) = some (v (src.map (nmC2 G (O.k s) kks)), (O2.place (src.map (nmC2 G (O.k s) kks)) s2).map fun c => some (.cells false c)))
    (hkl : kks.length = w) (hkn : nodupB kks = true) (hfr : Nat.ble (G + O.k s) fr = true) (hkk : kks.all (fun q => Nat.ble fr q) = true) : RunF P cs f O O2 w src A s v s2 := by
  subst hG
  unfold ansR at h
  split at h
  · rename_i v' H' fr' hr
    simp only [Option.some.injEq, Prod.mk.injEq] at h
    obtain ⟨rfl, h2⟩ := h
    refine ⟨nn, F, H', fr, fr', kks, hkl, nodupB_ok hkn, Nat.le_of_ble_eq_true hfr, fun q hq => Nat.le_of_ble_eq_true (List.all_eq_true.1 hkk q hq), hr, fun i m c h1 h3 => ?_⟩
    have e := congrArg (fun l => l[i]?) h2
    simp only [List.getElem?_map] at e
    have him : i < O2.m s2 := by
      have := (List.getElem?_eq_some_iff.1 h3).1
      rwa [O2.len] at this
    rw [List.getElem?_take, if_pos him, h1, h3] at e
    simp only [Option.map_some, Option.some.injEq] at e
    exact e
  · cases h
end Go.Eng

/- Tunnels of the document: windows: the highest number. -/
namespace Go.Proofs.Ytjdhndicgifnbaa.Tun
set_option linter.unusedVariables false
set_option linter.unusedSimpArgs false
open Go Go.Eng Go.Proofs.Ytjdhndicgifnbaa Go.Proofs.Ytjdhndicgifnbaa.Pol
set_option maxRecDepth 100000
set_option maxHeartbeats 1000000
set_option linter.unusedSimpArgs false
set_option linter.unusedVariables false
abbrev Dn := Dc × List UInt64
def qL : List UInt64 → Option Nat
  | [] => none
  | a :: l => some (a :: l).length
def mkL : List UInt64 → List (List AVal)
  | [] => []
  | a :: l => [(a :: l).map .u64]
def dPlace (ns : List Nat) (s : Dn) : List (List AVal) := cD (slQ (ns.getD 1 0) (qL s.2)) s.1 :: mkL s.2
theorem dPlace_len (ns : List Nat) (s : Dn) : (dPlace ns s).length = kQ (qL s.2) := by
  obtain ⟨c, L⟩ := s
  cases L <;> rfl
def obD : Ob Dn := ⟨fun s => kQ (qL s.2), dPlace, fun s => kQ (qL s.2), dPlace_len, fun _ => Nat.le_refl _⟩
theorem relD (s : Dn) : obD.Rel s := fun ρ ns ns' h1 h2 hρ i c c' e1 e2 => by
  obtain ⟨d, L⟩ := s
  match i, e1, e2 with
  | 0, e1, e2 => cases e1; cases e2; exact relcD _ _ rfl (relQ h1 h2 hρ)
  | 1, e1, e2 =>
    cases L with
    | nil => simp [obD, dPlace, mkL] at e1
    | cons a l =>
      have e1' : some ((a :: l).map AVal.u64) = some c := e1
      have e2' : some ((a :: l).map AVal.u64) = some c' := e2
      cases e1'; cases e2'
      exact .same (ltL_u64 0 _)
  | i + 2, e1, e2 => cases L <;> simp [obD, dPlace, mkL] at e1
def findM (η : Nat → Option AObj) : List Nat → Option Nat → Option (List UInt64)
  | _, none => some []
  | ns, some q => match η (ns.getD 1 0) with
    | some (.cells false l) => match unU l with
      | some (a :: L) => cond (Nat.beq q (a :: L).length) (some (a :: L)) none
      | _ => none
    | _ => none
def findD (t : Nat) (η : Nat → Option AObj) : Option (List Nat × Dn) :=
  match atF t (decD t) η with
  | some (ns, (s, q)) => match findM η ns q with
    | some L => some (ns, (s, L))
    | none => none
  | none => none
theorem findM_ok {η : Nat → Option AObj} {ns : List Nat} {q : Option Nat} {L : List UInt64} (h : findM η ns q = some L) : qL L = q ∧ ∀ a l, L = a :: l → η (ns.getD 1 0) = some (.cells false ((a :: l).map .u64)) := by
  unfold findM at h
  split at h
  · cases h; exact ⟨rfl, fun a l e => by cases e⟩
  · rename_i ns1 q'
    split at h
    · rename_i l hη
      split at h
      · rename_i a L' hu
        cases hq : Nat.beq q' (a :: L').length <;> rw [hq] at h <;> simp only [cond_true, cond_false] at h
        · cases h
        · cases h
          refine ⟨?_, fun a l e => ?_⟩
          · rw [Nat.eq_of_beq_eq_true hq]; rfl
          · cases e
            rw [hη, unU_some hu]
      · cases h
    · cases h
theorem findD_ok {t : Nat} {args : List AVal} {A : List Nat → List AVal} (hA : ∀ ns : List Nat, ns[0]? = some t → args = A ns) {η : Nat → Option AObj} {ns : List Nat} {s : Dn} (h : findD t η = some (ns, s)) :
    ns.length = obD.k s ∧ (∀ n, n ∈ ns → Known η args n) ∧ (∀ (i n : Nat) (c : List AVal), ns[i]? = some n → (obD.place ns s)[i]? = some c → η n = some (.cells false c)) ∧ args = A ns := by
  unfold findD at h
  split at h
  · rename_i ns' s' q h0
    split at h
    · rename_i L hL
      cases h
      obtain ⟨e1, e2⟩ := findM_ok hL
      subst e1
      obtain ⟨a1, a2, a3, a4⟩ := decOk_find (O := obD1) (args := args) (A := fun _ => A) (decD_ok t) (fun _ => rfl) (fun s ns _ h => hA ns h) h0
      refine ⟨a1, a2, fun i n c g1 g2 => ?_, a4⟩
      match i, g1, g2 with
      | 0, g1, g2 => exact a3 0 n c g1 g2
      | 1, g1, g2 =>
        cases L with
        | nil => simp [obD, dPlace, mkL] at g2
        | cons a l =>
          have g2' : some ((a :: l).map AVal.u64) = some c := g2
          cases g2'
          rw [← e2 a l rfl, List.getD_eq_getElem?_getD, g1]; rfl
      | i + 2, g1, g2 => cases L <;> simp [obD, dPlace, mkL] at g2
    · cases h
  · cases h
def dNs (t m : Nat) : List UInt64 → List Nat
  | [] => [t]
  | _ :: _ => [t, m]
theorem findD_at {H : HL} {t m : Nat} {c : Dc} {L : List UInt64} (h0 : aget H t = some (.cells false (cD (slQ m (qL L)) c))) (h1 : ∀ a l, L = a :: l → aget H m = some (.cells false ((a :: l).map .u64))) : findD t (aget H) = some (dNs t m L, (c, L)) := by
  unfold findD atF
  rw [h0]
  simp only [decD_at]
  cases L with
  | nil => rfl
  | cons a l =>
    simp only [qL, findM, List.getD_cons_succ, List.getD_cons_zero, h1 a l rfl, unU_map]
    have : Nat.beq (a :: l).length (a :: l).length = true := Nat.beq_refl _
    rw [this]
    rfl
/-! ### a method of the window -/
/-- A method that reads both blocks. -/
def roD (t : Nat) (val : Dn → AVal) (ok : Dn → Bool) : EffA := effF obD obD (findD t) 0 (fun s => List.range (kQ (qL s.2))) (fun _ s => val s) id ok
def hM (c : Dc) (L : List UInt64) : HL := [(0, .cells false (cD (.slice 1 0 L.length 1) c)), (1, .cells false (L.map .u64))]
def oM (c : Dc) (L : List UInt64) : List (Option AObj) := [some (.cells false (cD (.slice 1 0 L.length 1) c)), some (.cells false (L.map .u64))]
def hN (c : Dc) : HL := [(0, .cells false (cD .nilSlice c))]
def oN (c : Dc) : List (Option AObj) := [some (.cells false (cD .nilSlice c))]
theorem roD_ok {cs : CS} (hcs : CSOk Try.prog cs) {f : FuncId} {t o : Nat} {xs : List AVal} (hx : ltL 0 xs = true) {val : Dn → AVal} {ok : Dn → Bool} (hv : ∀ s, ltV 0 (val s) = true)
    (h0 : ∀ c, ok (c, []) = true → ∃ nn F, ansR [0] (run1 Try.prog cs nn F f (.ptr 0 o :: xs) (hN c) 8) = some (val (c, []), oN c))
    (h1 : ∀ c L, L ≠ [] → ok (c, L) = true → ∃ nn F, ansR [0, 1] (run1 Try.prog cs nn F f (.ptr 0 o :: xs) (hM c L) 8) = some (val (c, L), oM c L)) : CallOk Try.prog f (.ptr t o :: xs) (roD t val ok) :=
  effF_ok hcs hmix (by decide) (O := obD) (O2 := obD) (A := fun _ ns => .ptr (ns.getD 0 0) o :: xs) (fun {η ns s} hf => findD_ok (A := fun ns => .ptr (ns.getD 0 0) o :: xs) (fun ns h => argP0 (ns := []) h) hf) fun ⟨c, L⟩ hok =>
    ⟨relD _, relD _, .plain (hv _), nameP0 _ hx, by rw [List.length_range]; rfl, List.nodup_range, fun j hj => by have := List.mem_range.1 hj; exact this, fun i j e1 e2 => .inl (by obtain ⟨_, rfl⟩ := range_at e1; exact e2), by
      cases L with
      | nil =>
        obtain ⟨nn, F, h⟩ := h0 c hok
        exact runF_ofR (nn := nn) (F := F) (fr := 8) gl [] h rfl rfl rfl rfl
      | cons a l =>
        obtain ⟨nn, F, h⟩ := h1 c (a :: l) (by simp) hok
        exact runF_ofR (nn := nn) (F := F) (fr := 8) gl [] h rfl rfl rfl rfl⟩
/-! ### the highest number -/
noncomputable def L73 : Code := loopOf ((pieces (bodyOf Try.f73)).getD 3 .skip)
def S73 (c : Dc) (L : List UInt64) (x : UInt64) (i : Nat) : SA := ⟨[(0, .ptr 0 10), (2, .u64 0), (3, .bool false), (4, .u64 x), (5, .int .i64 (i : Int))], hM c L, 40⟩
section
variable (c : Dc) (L : List UInt64) (x y : UInt64) (i j F : Nat)
theorem p73_3 : (pieces (bodyOf Try.f73))[3]? = some (.block 0 (.loop L73)) := by kernel_rfl
theorem w73n : ansM [0] (run1O Try.prog noPS noCS [] [] [] (mask 73) 100 73 [.ptr 0 10] (hN c) 8) = some (.tup [.u64 0, .bool false], oN c, []) := by kernel_rfl
theorem w73p : segO (evSO Try.prog noPS noCS [] Try.f73.ntmps (mask 73) (F + 100) 8 ((pieces (bodyOf Try.f73)).take 3) ⟨startT [.ptr 0 10] 0, hM c L, 8⟩ ⟨[], [], []⟩) = some (S73 c L 0 0, []) := by kernel_rfl
theorem w73r : roundO2 Try.prog noPS noCS [12,21,22,200014] [true] [.u64 y, .int .i64 (j : Int)] Try.f73.ntmps (mask 73) F 8 L73 (S73 c L 0 0) (S73 c L x i) = some (S73 c L (if x < y then y else x) j, [eqS (.int .i64 (IntKind.wrap .i64 ((i : Int) + 1))) (.int .i64 (j : Int)), isAt (L.map .u64) (0 + (Int.toNat (i : Int)) * 1) (.u64 y), decide (0 ≤ (i : Int)) && decide ((i : Int) < (L.length : Int)), decide ((i : Int) < (L.length : Int))]) := by kernel_rfl
theorem w73e : endM Try.prog noPS noCS [12] Try.f73 [0, 1] (mask 73) F 8 0 L73 ((pieces (bodyOf Try.f73)).drop 4) (S73 c L x i) ⟨[false], [], []⟩ = some (.tup [.u64 x, .bool (decide (0 < (L.length : Int)))], oM c L, [!decide ((i : Int) < (L.length : Int))]) := by kernel_rfl
theorem okM {T : TL} {fr : Nat} (c : Dc) (L : List UInt64) (h1 : Nat.ble Try.prog.globals.size fr = true) (h2 : Nat.ble 2 fr = true) (h3 : ltT fr T = true) : okS Try.prog ⟨T, hM c L, fr⟩ = true := by
  have e2 : ltL fr (L.map AVal.u64) = true := ltL_u64 fr L
  have e3 : ltH fr (hM c L) = true := by
    simp only [hM, ltH, e2, cD, ltL, ltS, h2, cond_true]
    have : Nat.ble (1 + 1) fr = true := h2
    simp [this]
    have := Nat.le_of_ble_eq_true h2
    omega
  unfold okS
  simp only [h1, h3, e3]
  rfl
theorem ok73 : okS Try.prog (S73 c L x i) = true := okM c L (by kernel_rfl) rfl rfl
end
/-- The greatest number. -/
def maxU (L : List UInt64) : UInt64 := L.foldl (fun x y => if x < y then y else x) 0
theorem maxU_take {L : List UInt64} {i : Nat} (h : i < L.length) : maxU (L.take (i + 1)) = (if maxU (L.take i) < L.getD i 0 then L.getD i 0 else maxU (L.take i)) := by
  unfold maxU
  rw [List.take_add_one, List.foldl_append, List.getElem?_eq_getElem h, List.getD_eq_getElem?_getD, List.getElem?_eq_getElem h]
  rfl
theorem isAt_u64 {L : List UInt64} {i : Nat} (h : i < L.length) : isAt (L.map .u64) (0 + (Int.toNat (i : Int)) * 1) (.u64 (L.getD i 0)) = true := by
  refine isAt_of (v := .u64 (L.getD i 0)) ?_ (by simp [eqS])
  rw [Int.toNat_natCast, show 0 + i * 1 = i by omega, List.getElem?_map, List.getD_eq_getElem?_getD, List.getElem?_eq_getElem h]
  rfl
theorem eqI1 {i : Nat} (h : i < 1000000000000) : eqS (.int .i64 (IntKind.wrap .i64 ((i : Int) + 1))) (.int .i64 ((i + 1 : Nat) : Int)) = true := by
  rw [wrapI _ (by omega) (by omega)]
  simp [eqS]
theorem inI {i n : Nat} (h : i < n) : (decide (0 ≤ (i : Int)) && decide ((i : Int) < (n : Int))) = true := by
  simp; omega
theorem ltI {i n : Nat} (h : i < n) : decide ((i : Int) < (n : Int)) = true := by simp; omega
theorem run73 (c : Dc) (L : List UInt64) (hL : L ≠ []) (hl : L.length < 1000000000) : ansR [0, 1] (run1 Try.prog noCS (mask 73) (L.length + 100 + 100) 73 [.ptr 0 10] (hM c L) 8) = some (.tup [.u64 (maxU L), .bool true], oM c L) := by
  have he := w73e c L (maxU (L.take L.length)) L.length (L.length + 100 + 100)
  have e0 : decide (0 < (L.length : Int)) = true := by
    have : 0 < L.length := List.length_pos_iff.2 hL
    simp; omega
  rw [e0, List.take_length] at he
  refine run_loopM (fn := Try.f73) (noPS_ok _) (by kernel_rfl) (c := bodyOf Try.f73) (by kernel_rfl) (by kernel_rfl) 3 p73_3 (fun i => S73 c L (maxU (L.take i)) i) L.length (w73p c L (L.length + 100)) rfl (fun i hi => ?_) (by rw [List.take_length]; exact he) ?_ (by omega)
  · have r := w73r c L (maxU (L.take i)) (L.getD i 0) i (i + 1) (L.length + 100 + 100)
    rw [← maxU_take hi] at r
    exact roundO2_ok (noPS_ok _) r (allT_c (eqI1 (by omega)) (allT_c (isAt_u64 hi) (allT_c (inI hi) (allT_c (ltI hi) rfl)))) (ok73 c L _ _)
  · have : decide ((L.length : Int) < (L.length : Int)) = false := by simp
    simp only [allT, this, Bool.not_false, cond_true]
def lenOk (s : Dn) : Bool := Nat.blt s.2.length 1000000000
theorem lenOk_lt {s : Dn} (h : lenOk s = true) : s.2.length < 1000000000 := by unfold lenOk at h; simpa [Nat.blt_eq] using h
def highD : Dn → AVal
  | (_, []) => .tup [.u64 0, .bool false]
  | (_, L) => .tup [.u64 (maxU L), .bool true]
theorem ansR_of {P : Program} {ps : PS} {cs : CS} (hps : PSOk ps cs) {sy : List Nat} {os : List Bool} {vs : List AVal} {nn F : Nat} {f : FuncId} {args : List AVal} {H : HL} {fr : Nat} {ns : List Nat} {v : AVal} {hc : List (Option AObj)} {ob : List Bool}
    (h : ansM ns (run1O P ps cs sy os vs nn F f args H fr) = some (v, hc, ob)) (ha : allT ob = true) : ansR ns (run1 P cs nn F f args H fr) = some (v, hc) := by
  unfold ansM at h
  split at h
  · rename_i v' H' fr' ob' hr
    simp only [Option.some.injEq, Prod.mk.injEq] at h
    obtain ⟨rfl, rfl, rfl⟩ := h
    rw [run1O_ok hps hr ha]
    rfl
  · cases h
def g73 : List AVal → Option EffA
  | [.ptr t 10] => some (roD t highD lenOk)
  | _ => none
theorem g73_ok : CSOk Try.prog (csOne 73 g73) := csOne_ok fun args e he => by
  unfold g73 at he
  split at he
  · cases he
    refine roD_ok (noCS_ok _) rfl (fun s => ?_) (fun c h => ⟨mask 73, 100, ansR_of (noPS_ok _) (w73n c) rfl⟩) fun c L hL h => ⟨mask 73, L.length + 100 + 100, ?_⟩
    · obtain ⟨c, L⟩ := s
      cases L <;> rfl
    · have := run73 c L hL (lenOk_lt h)
      cases L with
      | nil => exact absurd rfl hL
      | cons a l => exact this
  · cases he
end Go.Proofs.Ytjdhndicgifnbaa.Tun
