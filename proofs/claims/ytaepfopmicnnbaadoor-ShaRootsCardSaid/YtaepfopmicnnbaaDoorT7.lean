/- Texts Sh4, Eng39, Sh5, Sh6, Sh7, Sh8, Sh9, Eng27, Eng28, Eng40, Sh10, Sh11, Sh12, Sd0: what they show stands ahead of each. -/
import Derived.Test.YtaepfopmicnnbaaDoorT6
import Derived.Test.YtaepfopmicnnbaaDoorT5
/- A piece is taken: what is made of it. -/
namespace Go.Proofs.YtaepfopmicnnbaaDoor
set_option linter.unusedVariables false
set_option linter.unusedSimpArgs false
open Go Go.Eng
set_option maxRecDepth 1000000
set_option linter.unusedSimpArgs false
set_option linter.unusedVariables false
theorem allT_of {l : List Bool} (h : ∀ b, b ∈ l → b = true) : allT l = true := by
  induction l with
  | nil => rfl
  | cons b l ih =>
    have := h b (List.mem_cons_self ..)
    subst this
    exact ih fun c hc => h c (List.mem_cons_of_mem _ hc)
theorem hashC_len {h : Nat → UInt64} {b : Nat → UInt8} {n : UInt64} : (hashC h b n).length = 138 := by simp [hashC, cellsU_len, cellsB_len]
theorem hashC_h {h : Nat → UInt64} {b : Nat → UInt8} {n : UInt64} {i : Nat} (hi : i < 8) : (hashC h b n)[i]? = some (.u64 (h i)) := by
  unfold hashC
  rw [List.append_assoc, List.getElem?_append_left (by rw [cellsU_len]; exact hi), cellsU_at h hi]
theorem hashC_set {h : Nat → UInt64} {b : Nat → UInt8} {n v : UInt64} {i : Nat} (hi : i < 8) : (hashC h b n).set i (.u64 v) = hashC (updF h i v) b n := by
  unfold hashC
  rw [List.append_assoc, List.set_append_left _ _ (by rw [cellsU_len]; exact hi), set_cellsU h v hi, ← List.append_assoc]
theorem in_rng {i n : Nat} {k : Int} (h : i < n) (e : (n : Int) = k := by rfl) : (decide (0 ≤ (i : Int)) && decide ((i : Int) < k)) = true := by subst e; simp; omega
theorem plus1 {i : Nat} (h : i < 1000) : eqS (.int .i64 (IntKind.wrap .i64 ((i : Int) + 1))) (.int .i64 ((i + 1 : Nat) : Int)) = true := eqS_i64 (by rw [wrapI _ (by omega) (by omega)]; omega)
theorem minus {i k d : Nat} (h : i = k + d) (hi : i < 1000) : eqS (.int .i64 (IntKind.wrap .i64 ((i : Int) - (d : Int)))) (.int .i64 (k : Int)) = true := eqS_i64 (by rw [wrapI _ (by omega) (by omega)]; omega)
theorem quo8 {i : Nat} (h : i < 1000) : eqS (.int .i64 (IntKind.wrap .i64 (Int.tdiv (i : Int) 8))) (.int .i64 ((i / 8 : Nat) : Int)) = true := eqS_i64 (by
  have : Int.tdiv (i : Int) 8 = ((i / 8 : Nat) : Int) := rfl
  rw [this, wrapI _ (by omega) (by omega)])
theorem like_b {n i : Nat} {b : Nat → UInt8} (h : i < n) : likeA ((cellsB n b).getD 0 (.bool false)) ((cellsB n b).getD ((i : Int).toNat * 1) (.bool false)) = .u8 (b i) := by
  have e : (i : Int).toNat * 1 = i := by simp
  rw [e, getD_cellsB b h, getD_cellsB b (by omega : 0 < n)]; rfl
theorem like_u {n i : Nat} {x : Nat → UInt64} (h : i < n) : likeA ((cellsU n x).getD 0 (.bool false)) ((cellsU n x).getD ((i : Int).toNat * 1) (.bool false)) = .u64 (x i) := by
  have e : (i : Int).toNat * 1 = i := by simp
  rw [e, getD_cellsU x h, getD_cellsU x (by omega : 0 < n)]; rfl
theorem blt_i {i k : Nat} (h : i < k) : Nat.blt ((i : Int).toNat * 1) k = true := by simp [h]
theorem ble_i {i k : Nat} (h : i < k) : Nat.ble (0 + (i : Int).toNat * 1 + 1) k = true := by simp; omega
theorem lt_i {i n : Nat} {k : Int} (h : i < n) (e : (n : Int) = k := by rfl) : decide ((i : Int) < k) = true := by subst e; simp; omega
theorem okS_of {s : SA} (h : okS Tryd.prog s = true) : okS Tryd.prog s = true := h
theorem gl : Tryd.prog.globals.size = 1 := by kernel_rfl
theorem ltL_U (n k : Nat) (f : Nat → UInt64) : ltL k (cellsU n f) = true := by
  have : cellsU n f = ((List.range n).map f).map .u64 := by simp [cellsU]
  rw [this]; exact ltL_u64 ..
theorem ltL_B (n k : Nat) (f : Nat → UInt8) : ltL k (cellsB n f) = true := by
  have : cellsB n f = ((List.range n).map f).map .u8 := by simp [cellsB]
  rw [this]; exact ltL_u8 ..
theorem ok1 (g h w : Nat → UInt64) (b : Nat → UInt8) (n : UInt64) (i : Nat) : okS Tryd.prog (S1 g h b n w i) = true := by kernel_rfl
theorem ok2 (g h w : Nat → UInt64) (b : Nat → UInt8) (n : UInt64) (i : Nat) : okS Tryd.prog (S2 g h b n w i) = true := by kernel_rfl
theorem ok3 (g h w x : Nat → UInt64) (b : Nat → UInt8) (n : UInt64) (i : Nat) : okS Tryd.prog (S3 g h b n w x i) = true := by kernel_rfl
theorem ok4 (g h w x : Nat → UInt64) (b : Nat → UInt8) (n : UInt64) (i : Nat) : okS Tryd.prog (S4 g h b n w x i) = true := by kernel_rfl
theorem st1 (φ : Fr) (g h : Nat → UInt64) (b : Nat → UInt8) (n : UInt64) (F i : Nat) (hi : i < 128) : roundA (evC Tryd.prog (nr φ) Tryd.f22.ntmps (mask 22) F 2 b1) (headA Tryd.prog 2 (S1 g h b n (W1 b 0) 0)) (S1 g h b n (W1 b i) i) = some (S1 g h b n (W1 b (i + 1)) (i + 1)) := by
  have hk : i / 8 < 80 := by omega
  have e : putA (cellsU 80 (W1 b i)) (0 + ((i / 8 : Nat) : Int).toNat * 1) (cellsA (.u64 (shlW (W1 b i (i / 8)) (b i)))) = cellsU 80 (W1 b (i + 1)) := putA_cellsU _ _ hk
  have r := r22a φ g h (W1 b i) (W1 b 0) b n i (i / 8) (i + 1) F
  rw [e] at r
  refine roundO2_ok (noPS_ok _) r ?_ (ok1 g h (W1 b (i + 1)) b n (i + 1))
  simp only [allT, plus1 (show i < 1000 by omega), cellsU_len, cellsB_len, ble_i hk, in_rng (k := 80) hk, isAt_cellsU (W1 b i) hk, quo8 (show i < 1000 by omega), like_b hi, eqS_u8, cond_true, blt_i hi]
  have e0 : ((i : Int).toNat * 1) = i := by simp
  have d0 : decide (0 ≤ (i : Int)) = true := by simp
  rw [e0, getD_cellsB b hi, eqS_u8, lt_i (k := 128) hi, d0]; rfl
theorem st2 (φ : Fr) (g h w : Nat → UInt64) (b : Nat → UInt8) (n : UInt64) (F i : Nat) (hi : i < 64) : roundA (evC Tryd.prog (nr φ) Tryd.f22.ntmps (mask 22) F 2 b2) (headA Tryd.prog 2 (S2 g h b n (W2 φ w 0) (0 + 16))) (S2 g h b n (W2 φ w i) (i + 16)) = some (S2 g h b n (W2 φ w (i + 1)) (i + 1 + 16)) := by
  have h1 : i + 1 < 80 := by omega
  have h14 : i + 14 < 80 := by omega
  have h0 : i < 80 := by omega
  have h9 : i + 9 < 80 := by omega
  have h16 : i + 16 < 80 := by omega
  have e : putA (cellsU 80 (W2 φ w i)) (0 + ((i + 16 : Nat) : Int).toNat * 1) (cellsA (.u64 (sched φ (W2 φ w i i) (W2 φ w i (i + 1)) (W2 φ w i (i + 9)) (W2 φ w i (i + 14))))) = cellsU 80 (W2 φ w (i + 1)) := putA_cellsU _ _ h16
  have r := r22b φ g h (W2 φ w i) (W2 φ w 0) b n (0 + 16) (i + 16) (i + 1) (i + 14) i (i + 9) (i + 1 + 16) F
  rw [e] at r
  refine roundO2_ok (noPS_ok _) r ?_ (ok2 g h (W2 φ w (i + 1)) b n (i + 1 + 16))
  have q : eqS (.int .i64 (IntKind.wrap .i64 (((i + 16 : Nat) : Int) + 1))) (.int .i64 ((i + 1 + 16 : Nat) : Int)) = true := by
    have := plus1 (show i + 16 < 1000 by omega)
    rwa [show i + 1 + 16 = i + 16 + 1 by omega]
  have m7 : eqS (.int .i64 (IntKind.wrap .i64 (((i + 16 : Nat) : Int) - 7))) (.int .i64 ((i + 9 : Nat) : Int)) = true := minus (d := 7) (by omega) (by omega)
  have m16 : eqS (.int .i64 (IntKind.wrap .i64 (((i + 16 : Nat) : Int) - 16))) (.int .i64 ((i : Nat) : Int)) = true := minus (d := 16) (by omega) (by omega)
  have m2 : eqS (.int .i64 (IntKind.wrap .i64 (((i + 16 : Nat) : Int) - 2))) (.int .i64 ((i + 14 : Nat) : Int)) = true := minus (d := 2) (by omega) (by omega)
  have m15 : eqS (.int .i64 (IntKind.wrap .i64 (((i + 16 : Nat) : Int) - 15))) (.int .i64 ((i + 1 : Nat) : Int)) = true := minus (d := 15) (by omega) (by omega)
  simp only [allT, q, m7, m16, m2, m15, cellsU_len, ble_i h16, in_rng (k := 80) h16, in_rng (k := 80) h1, in_rng (k := 80) h14, in_rng (k := 80) h0, in_rng (k := 80) h9, isAt_cellsU (W2 φ w i) h1, isAt_cellsU (W2 φ w i) h14, isAt_cellsU (W2 φ w i) h0, isAt_cellsU (W2 φ w i) h9, cond_true]
  rw [lt_i (k := 80) h16]; rfl
theorem st3 (φ : Fr) (g h w : Nat → UInt64) (b : Nat → UInt8) (n : UInt64) (F i : Nat) (hi : i < 80) : roundA (evC Tryd.prog (nr φ) Tryd.f22.ntmps (mask 22) F 2 b3) (headA Tryd.prog 2 (S3 g h b n w (X3 φ g w h 0) 0)) (S3 g h b n w (X3 φ g w h i) i) = some (S3 g h b n w (X3 φ g w h (i + 1)) (i + 1)) := by
  have r := r22c φ g h w (X3 φ g w h i) (X3 φ g w h 0) b n i (i + 1) F
  refine roundO2_ok (noPS_ok _) r ?_ (ok3 g h w (X3 φ g w h (i + 1)) b n (i + 1))
  simp only [allT, plus1 (show i < 1000 by omega), isAt_cellsU w hi, isAt_cellsU g hi, cond_true]
  rw [in_rng (k := 80) hi, lt_i (k := 80) hi]; rfl
theorem st4 (φ : Fr) (g h w x : Nat → UInt64) (b : Nat → UInt8) (n : UInt64) (F i : Nat) (hi : i < 8) : roundA (evC Tryd.prog (nr φ) Tryd.f22.ntmps (mask 22) F 2 b4) (headA Tryd.prog 2 (S4 g (A4 h x 0) b n w x 0)) (S4 g (A4 h x i) b n w x i) = some (S4 g (A4 h x (i + 1)) b n w x (i + 1)) := by
  have e : putA (hashC (A4 h x i) b n) (0 + (i : Int).toNat * 1) (cellsA (.u64 (A4 h x i i + x i))) = hashC (A4 h x (i + 1)) b n := by
    rw [off_nat, putA_set _ rfl (by rw [hashC_len]; omega), hashC_set hi]; rfl
  have r := r22d φ g (A4 h x i) (A4 h x 0) w x b n i (i + 1) F
  rw [e] at r
  refine roundO2_ok (noPS_ok _) r ?_ (ok4 g (A4 h x (i + 1)) w x b n (i + 1))
  have e0 : ((i : Int).toNat * 1) = i := by simp
  have d0 : decide (0 ≤ (i : Int)) = true := by simp
  simp only [allT, plus1 (show i < 1000 by omega), hashC_len, cellsU_len, ble_i (show i < 138 by omega), isAt_get (hashC_h (h := A4 h x i) (b := b) (n := n) hi), like_u hi, eqS_u64, blt_i hi, cond_true]
  rw [in_rng (k := 8) hi, e0, getD_cellsU x hi, eqS_u64, lt_i (k := 8) hi, d0]; rfl
theorem end_of {φ : Fr} {sy : List Nat} {F : Nat} {b : Code} {s s' : SA} {id : Nat} {c : Bool} (h : evSO Tryd.prog noPS (nr φ) sy Tryd.f22.ntmps (mask 22) F 2 [b] s ⟨[false], [], []⟩ = some (.exit id, s', ⟨[], [], [!c]⟩)) (hc : c = false) : evC Tryd.prog (nr φ) Tryd.f22.ntmps (mask 22) F 2 b s = some (.exit id, s') := by
  have := (evSO_ok (noPS_ok _) _ _ _ _ _ _ h (by rw [hc]; rfl)).1
  rwa [evS_one] at this
/-- What a piece makes of the words. -/
theorem ev22 (φ : Fr) (g h : Nat → UInt64) (b : Nat → UInt8) (n : UInt64) (F : Nat) (hF : 128 < F) : ∃ T' fr', evS Tryd.prog (nr φ) Tryd.f22.ntmps (mask 22) F 2 p22 ⟨startT [.ptr 1 0] 0, [(0, .cells true (cellsU 80 g)), (1, .cells false (hashC h b n))], 2⟩ =
    some (.normal, ⟨T', H4 g (takeF φ g h b) b n (W2 φ (W1 b 128) 64) (X3 φ g (W2 φ (W1 b 128) 64) h 80), fr'⟩) := by
  have a1 := segO_ok (noPS_ok _) (s22a φ g h b n F) rfl
  rw [List.drop_zero] at a1
  have l1 := evS_loop p22_2 (fun i => S1 g h b n (W1 b i) i) 128 (fun i hi => st1 φ g h b n F i hi) (end_of (x22a φ g h (W1 b 128) b n 128 F) (by decide)) hF
  have a2 := segO_ok (noPS_ok _) (s22b φ g h (W1 b 128) b n F) rfl
  have l2 := evS_loop p22_5 (fun i => S2 g h b n (W2 φ (W1 b 128) i) (i + 16)) 64 (fun i hi => st2 φ g h (W1 b 128) b n F i hi) (end_of (x22b φ g h (W2 φ (W1 b 128) 64) b n (64 + 16) F) (by decide)) (by omega)
  have a3 := segO_ok (noPS_ok _) (s22c φ g h (W2 φ (W1 b 128) 64) b n F) rfl
  have l3 := evS_loop p22_8 (fun i => S3 g h b n (W2 φ (W1 b 128) 64) (X3 φ g (W2 φ (W1 b 128) 64) h i) i) 80 (fun i hi => st3 φ g h (W2 φ (W1 b 128) 64) b n F i hi) (end_of (x22c φ g h (W2 φ (W1 b 128) 64) (X3 φ g (W2 φ (W1 b 128) 64) h 80) b n 80 F) (by decide)) (by omega)
  have a4 := segO_ok (noPS_ok _) (s22d φ g h (W2 φ (W1 b 128) 64) (X3 φ g (W2 φ (W1 b 128) 64) h 80) b n F) rfl
  have l4 := evS_loop p22_10 (fun i => S4 g (A4 h (X3 φ g (W2 φ (W1 b 128) 64) h 80) i) b n (W2 φ (W1 b 128) 64) (X3 φ g (W2 φ (W1 b 128) 64) h 80) i) 8 (fun i hi => st4 φ g h (W2 φ (W1 b 128) 64) (X3 φ g (W2 φ (W1 b 128) 64) h 80) b n F i hi) (end_of (x22d φ g (A4 h (X3 φ g (W2 φ (W1 b 128) 64) h 80) 8) (W2 φ (W1 b 128) 64) (X3 φ g (W2 φ (W1 b 128) 64) h 80) b n 8 F) (by decide)) (by omega)
  refine ⟨T4 b (X3 φ g (W2 φ (W1 b 128) 64) h 80) 8 ++ [(166, .bool false)], 178, ?_⟩
  rw [a1]
  refine l1.trans ?_
  rw [a2]
  refine l2.trans ?_
  rw [a3]
  refine l3.trans ?_
  rw [a4]
  refine l4.trans ?_
  rw [p22_11]; rfl
end Go.Proofs.YtaepfopmicnnbaaDoor

/- Engine, part 39: calls on one block, whose form is looked at; words and bytes of a block. -/
namespace Go.Eng
set_option linter.unusedVariables false
set_option linter.unusedSimpArgs false
open Go
/-- What a call does with the one block that it is handed. -/
def oneE (n : Nat) (k : (Nat → Option AObj) → List AVal → Option (AVal × List AVal)) : EffA :=
  .eff fun _ η => match η n with
    | some (.cells false c) => match k η c with
      | some (v, c') => some (v, [(n, some (.cells false c'))])
      | none => none
    | _ => none
theorem callOk_one {P : Program} {cs : CS} (hcs : CSOk P cs) (hm : P.follows .mixedOrders = true) {f : FuncId} {args cargs : List AVal} {n : Nat} (hcan : canL P.globals.size [] args = some (cargs, [n])) {k : (Nat → Option AObj) → List AVal → Option (AVal × List AVal)}
    (h : ∀ η c v c', k η c = some (v, c') → ltL 0 c = true ∧ ltL 0 c' = true ∧ ltV 0 v = true ∧ ∃ F nn H' fr', run1 P cs nn F f cargs (globA η P.globals.size 0 ++ [(P.globals.size, .cells false c)]) (P.globals.size + 1) = some (v, H', fr') ∧ aget H' P.globals.size = some (.cells false c')) : CallOk P f args (oneE n k) := by
  intro σ args' H w base v0 H0 hl hg hH happ hfree
  unfold oneE EffA.app at happ
  simp only at happ
  cases hn : aget H n with
  | none => rw [hn] at happ; cases happ
  | some ob =>
    obtain ⟨ro, c⟩ := ob
    rw [hn] at happ
    cases ro with
    | true => cases happ
    | false =>
      simp only at happ
      cases hk : k (aget H) c with
      | none => rw [hk] at happ; cases happ
      | some r =>
        obtain ⟨v, c'⟩ := r
        rw [hk] at happ
        simp only [Option.some.injEq, Prod.mk.injEq] at happ
        obtain ⟨rfl, rfl⟩ := happ
        obtain ⟨h1, h2, h3, F, nn, H', fr', h4, h5⟩ := h (aget H) c v c' hk
        refine callOk_view hcs hm (nn := nn) (F := F) hcan σ args' H w base v _ hl hg hH ?_ hfree
        unfold viewE EffA.app
        simp only [objsA, hn, h1, cond_true]
        have h4' : run1 P cs nn F f cargs (globA (aget H) P.globals.size 0 ++ [(P.globals.size, .cells false c)]) (P.globals.size + [n].length) = some (v, H', fr') := h4
        rw [h4']
        simp only [backA, hn, h5, h2, cond_true, h3, nodupB, List.all_nil, Bool.and_self]
/-- What a function with one result hands back. -/
theorem run1_fin1 {P : Program} {cs : CS} {nn F : Nat} {f : FuncId} {fn : Func} {c : Code} {args : List AVal} {H : HL} {fr : Nat} (hf : P.funcs[f]? = some fn) (hb : fn.body = some c) (hn : Nat.ble args.length fn.ntmps = true)
    {x : XA} {s : SA} (he : evS P cs fn.ntmps nn F fr (pieces c) ⟨startT args 0, H, fr⟩ = some (x, s)) (hx : x = .normal ∨ x = .ret) {v : AVal} (hr : resA P s.T s.H fn.results.toList = some [v]) : run1 P cs nn F f args H fr = some (v, s.H, s.fr) := by
  unfold run1
  simp only [hf, hb]
  unfold runF
  rw [hn, evC_pieces, he]
  rcases hx with rfl | rfl
  all_goals simp only [cond_true, hr]
theorem psOne_ok {P : Program} {f : FuncId} {g : List AVal → Option (EffA × Bool)} (h : ∀ args e, g args = some (e, true) → CallOk P f args e) : CSOk P (csP (psOne f g)) := by
  intro f' args e he
  unfold csP psOne at he
  cases hf : Nat.beq f' f with
  | false => rw [hf] at he; cases he
  | true =>
    rw [hf] at he
    have hf := Nat.eq_of_beq_eq_true hf
    subst hf
    simp only at he
    cases hg : g args with
    | none => rw [hg] at he; cases he
    | some r =>
      obtain ⟨e', c⟩ := r
      rw [hg] at he
      cases c with
      | false => cases he
      | true => cases he; exact h args _ hg
/-! ### words and bytes of a block -/
def gU (c : List AVal) (j : Nat) : UInt64 := match c[j]? with
  | some (.u64 x) => x
  | _ => 0
def gB (c : List AVal) (j : Nat) : UInt8 := match c[j]? with
  | some (.u8 x) => x
  | _ => 0
def shU : Nat → List AVal → Option (List AVal)
  | 0, c => some c
  | n + 1, .u64 _ :: c => shU n c
  | _ + 1, _ => none
def shB : Nat → List AVal → Option (List AVal)
  | 0, c => some c
  | n + 1, .u8 _ :: c => shB n c
  | _ + 1, _ => none
theorem cellsU_succ (n : Nat) (f : Nat → UInt64) : cellsU (n + 1) f = .u64 (f 0) :: cellsU n fun j => f (j + 1) := by
  unfold cellsU
  rw [List.range_succ_eq_map, List.map_cons, List.map_map]; rfl
theorem cellsB_succ (n : Nat) (f : Nat → UInt8) : cellsB (n + 1) f = .u8 (f 0) :: cellsB n fun j => f (j + 1) := by
  unfold cellsB
  rw [List.range_succ_eq_map, List.map_cons, List.map_map]; rfl
theorem shU_ok : ∀ {n : Nat} {c r : List AVal}, shU n c = some r → c = cellsU n (gU c) ++ r
  | 0, c, r, h => by cases h; rfl
  | n + 1, [], r, h => by cases h
  | n + 1, .u64 x :: c, r, h => by
    have := shU_ok (n := n) (c := c) h
    rw [cellsU_succ]
    have e : cellsU n (fun j => gU (.u64 x :: c) (j + 1)) = cellsU n (gU c) := cellsU_congr fun i _ => by unfold gU; simp
    rw [e]
    show AVal.u64 x :: c = AVal.u64 x :: (cellsU n (gU c) ++ r)
    rw [← this]
  | n + 1, .bool _ :: c, r, h | n + 1, .u8 _ :: c, r, h | n + 1, .u32 _ :: c, r, h | n + 1, .b64 _ :: c, r, h | n + 1, .int _ _ :: c, r, h | n + 1, .str _ :: c, r, h | n + 1, .nilPtr :: c, r, h | n + 1, .ptr _ _ :: c, r, h | n + 1, .nilSlice :: c, r, h
  | n + 1, .slice _ _ _ _ :: c, r, h | n + 1, .nilMap :: c, r, h | n + 1, .map _ :: c, r, h | n + 1, .nilFunc :: c, r, h | n + 1, .fn _ _ :: c, r, h | n + 1, .nilIface :: c, r, h | n + 1, .iface _ _ :: c, r, h | n + 1, .agg _ :: c, r, h | n + 1, .tup _ :: c, r, h => by cases h
theorem shB_ok : ∀ {n : Nat} {c r : List AVal}, shB n c = some r → c = cellsB n (gB c) ++ r
  | 0, c, r, h => by cases h; rfl
  | n + 1, [], r, h => by cases h
  | n + 1, .u8 x :: c, r, h => by
    have := shB_ok (n := n) (c := c) h
    rw [cellsB_succ]
    have e : cellsB n (fun j => gB (.u8 x :: c) (j + 1)) = cellsB n (gB c) := cellsB_congr fun i _ => by unfold gB; simp
    rw [e]
    show AVal.u8 x :: c = AVal.u8 x :: (cellsB n (gB c) ++ r)
    rw [← this]
  | n + 1, .bool _ :: c, r, h | n + 1, .u64 _ :: c, r, h | n + 1, .u32 _ :: c, r, h | n + 1, .b64 _ :: c, r, h | n + 1, .int _ _ :: c, r, h | n + 1, .str _ :: c, r, h | n + 1, .nilPtr :: c, r, h | n + 1, .ptr _ _ :: c, r, h | n + 1, .nilSlice :: c, r, h
  | n + 1, .slice _ _ _ _ :: c, r, h | n + 1, .nilMap :: c, r, h | n + 1, .map _ :: c, r, h | n + 1, .nilFunc :: c, r, h | n + 1, .fn _ _ :: c, r, h | n + 1, .nilIface :: c, r, h | n + 1, .iface _ _ :: c, r, h | n + 1, .agg _ :: c, r, h | n + 1, .tup _ :: c, r, h => by cases h
/-- A function, of the first places alone. -/
def nU (k : Nat) (f : Nat → UInt64) : Nat → UInt64 := fun j => if j < k then f j else 0
def nB (k : Nat) (f : Nat → UInt8) : Nat → UInt8 := fun j => if j < k then f j else 0
theorem gU_cellsU (k : Nat) (f : Nat → UInt64) : gU (cellsU k f) = nU k f := by
  funext j
  unfold gU nU
  by_cases h : j < k
  · rw [cellsU_at f h, if_pos h]
  · rw [List.getElem?_eq_none (by rw [cellsU_len]; omega), if_neg h]
theorem gB_cellsB (k : Nat) (f : Nat → UInt8) : gB (cellsB k f) = nB k f := by
  funext j
  unfold gB nB
  by_cases h : j < k
  · rw [cellsB_at f h, if_pos h]
  · rw [List.getElem?_eq_none (by rw [cellsB_len]; omega), if_neg h]
theorem nU_nU (k : Nat) (f : Nat → UInt64) : nU k (nU k f) = nU k f := by
  funext j
  unfold nU
  by_cases h : j < k <;> simp [h]
theorem nB_nB (k : Nat) (f : Nat → UInt8) : nB k (nB k f) = nB k f := by
  funext j
  unfold nB
  by_cases h : j < k <;> simp [h]
theorem cellsU_nU (k : Nat) (f : Nat → UInt64) : cellsU k (nU k f) = cellsU k f := cellsU_congr fun i h => by unfold nU; rw [if_pos h]
theorem cellsB_nB (k : Nat) (f : Nat → UInt8) : cellsB k (nB k f) = cellsB k f := cellsB_congr fun i h => by unfold nB; rw [if_pos h]
end Go.Eng

/- The hash as a block; what take does with it. -/
namespace Go.Proofs.YtaepfopmicnnbaaDoor
set_option linter.unusedVariables false
set_option linter.unusedSimpArgs false
open Go Go.Eng
set_option maxRecDepth 1000000
structure St where
  h : Nat → UInt64
  b : Nat → UInt8
  n : UInt64
def stC (s : St) : List AVal := hashC s.h s.b s.n
def shH (c : List AVal) : Bool := match shU 8 c with
  | some c1 => match shB 128 c1 with
    | some [.u64 _, .bool true] => true
    | _ => false
  | none => false
def shG (c : List AVal) : Bool := match shU 80 c with
  | some [] => true
  | _ => false
def hst (c : List AVal) : St := ⟨nU 8 (gU c), nB 128 (gB (c.drop 8)), gU (c.drop 136) 0⟩
theorem shG_ok {c : List AVal} (h : shG c = true) : c = cellsU 80 (gU c) := by
  unfold shG at h
  split at h
  · rename_i hs
    have := shU_ok hs
    rwa [List.append_nil] at this
  · cases h
theorem shH_ok {c : List AVal} (h : shH c = true) : c = stC (hst c) := by
  unfold shH at h
  split at h
  · rename_i c1 h1
    split at h
    · rename_i x h2
      have e1 := shU_ok h1
      have e2 := shB_ok h2
      have l8 : (cellsU 8 (gU c)).length = 8 := cellsU_len
      have d8 : c.drop 8 = c1 := by
        rw [e1, List.drop_append_of_le_length (by rw [l8]; exact Nat.le_refl 8), List.drop_of_length_le (by rw [l8]; exact Nat.le_refl 8), List.nil_append]
      have l128 : (cellsB 128 (gB c1)).length = 128 := cellsB_len
      have d136 : c.drop 136 = [.u64 x, .bool true] := by
        rw [show (136 : Nat) = 8 + 128 by rfl, ← List.drop_drop, d8, e2, List.drop_append_of_le_length (by rw [l128]; exact Nat.le_refl 128), List.drop_of_length_le (by rw [l128]; exact Nat.le_refl 128), List.nil_append]
      unfold stC hashC hst
      simp only
      rw [cellsU_nU, cellsB_nB, d8, d136]
      have e3 : gU [AVal.u64 x, .bool true] 0 = x := rfl
      rw [e3, List.append_assoc, ← e2]
      exact e1
    · cases h
  · cases h
theorem hst_stC (s : St) : hst (stC s) = ⟨nU 8 s.h, nB 128 s.b, s.n⟩ := by
  unfold hst stC hashC
  have l8 : (cellsU 8 s.h).length = 8 := cellsU_len
  have l128 : (cellsB 128 s.b).length = 128 := cellsB_len
  have d8 : (cellsU 8 s.h ++ cellsB 128 s.b ++ [AVal.u64 s.n, .bool true]).drop 8 = cellsB 128 s.b ++ [AVal.u64 s.n, .bool true] := by
    rw [List.append_assoc, List.drop_append_of_le_length (by rw [l8]; exact Nat.le_refl 8), List.drop_of_length_le (by rw [l8]; exact Nat.le_refl 8), List.nil_append]
  have d136 : (cellsU 8 s.h ++ cellsB 128 s.b ++ [AVal.u64 s.n, .bool true]).drop 136 = [AVal.u64 s.n, .bool true] := by
    rw [show (136 : Nat) = 8 + 128 by rfl, ← List.drop_drop, d8, List.drop_append_of_le_length (by rw [l128]; exact Nat.le_refl 128), List.drop_of_length_le (by rw [l128]; exact Nat.le_refl 128), List.nil_append]
  rw [d8, d136]
  congr 1
  · funext j
    unfold nU gU
    by_cases hj : j < 8
    · rw [if_pos hj, if_pos hj, List.append_assoc, List.getElem?_append_left (by rw [l8]; exact hj), cellsU_at _ hj]
    · rw [if_neg hj, if_neg hj]
  · funext j
    unfold nB gB
    by_cases hj : j < 128
    · rw [if_pos hj, if_pos hj, List.getElem?_append_left (by rw [l128]; exact hj), cellsB_at _ hj]
    · rw [if_neg hj, if_neg hj]
def nS (s : St) : St := ⟨nU 8 s.h, nB 128 s.b, s.n⟩
theorem stC_nS (s : St) : stC (nS s) = stC s := by unfold stC nS hashC; simp only [cellsU_nU, cellsB_nB]
theorem nS_nS (s : St) : nS (nS s) = nS s := by unfold nS; simp only [nU_nU, nB_nB]
/-- What a call does with a hash: its answer, and the hash behind it. -/
def hashK (v : (Nat → UInt64) → St → AVal) (t : (Nat → UInt64) → St → St) (η : Nat → Option AObj) (c : List AVal) : Option (AVal × List AVal) := match η 0 with
  | some (.cells true g) => cond (shG g && shH c) (some (v (gU g) (hst c), stC (t (gU g) (hst c)))) none
  | _ => none
theorem ltH_stC (s : St) (k : Nat) : ltL k (stC s) = true := by
  unfold stC hashC
  have a : ∀ (l m : List AVal), ltL k l = true → ltL k m = true → ltL k (l ++ m) = true := fun l m h1 h2 => by
    induction l with
    | nil => exact h2
    | cons x l ih =>
      simp only [ltL] at h1
      cases hx : ltS k x <;> rw [hx] at h1 <;> simp only [cond_true, cond_false] at h1
      · cases h1
      · simp only [List.cons_append, ltL, hx, ih h1, cond_true]
  exact a _ _ (a _ _ (ltL_U ..) (ltL_B ..)) rfl
/-- A function that has one hash is shown on a hash as it is laid out. -/
theorem callOk_hash {cs : CS} (hcs : CSOk Tryd.prog cs) {f : FuncId} {args cargs : List AVal} {m : Nat} (hcan : canL 1 [] args = some (cargs, [m])) {v : (Nat → UInt64) → St → AVal} {t : (Nat → UInt64) → St → St}
    (hv : ∀ g s, ltV 0 (v g s) = true)
    (h : ∀ g s, nU 80 g = g → nS s = s → ∃ F nn H' fr', run1 Tryd.prog cs nn F f cargs [(0, .cells true (cellsU 80 g)), (1, .cells false (stC s))] 2 = some (v g s, H', fr') ∧ aget H' 1 = some (.cells false (stC (t g s)))) : CallOk Tryd.prog f args (oneE m (hashK v t)) := by
  have e1 : Tryd.prog.globals.size = 1 := gl
  refine callOk_one hcs (by kernel_rfl) (by rw [e1]; exact hcan) fun η c w c' hk => ?_
  unfold hashK at hk
  split at hk
  · rename_i g0 h0
    cases hb : (shG g0 && shH c) <;> rw [hb] at hk <;> simp only [cond_true, cond_false] at hk
    · cases hk
    · rw [Bool.and_eq_true] at hb
      simp only [Option.some.injEq, Prod.mk.injEq] at hk
      obtain ⟨rfl, rfl⟩ := hk
      have ec := shH_ok hb.2
      have eg := shG_ok hb.1
      have en : nU 80 (gU g0) = gU g0 := by
        have : gU g0 = gU (cellsU 80 (gU g0)) := congrArg gU eg
        rw [gU_cellsU] at this
        exact this.symm
      have es : nS (hst c) = hst c := by
        have : hst c = hst (stC (hst c)) := congrArg hst ec
        rw [hst_stC] at this
        exact this.symm
      refine ⟨by rw [ec]; exact ltH_stC .., ltH_stC .., hv .., ?_⟩
      obtain ⟨F, nn, H', fr', h1, h2⟩ := h (gU g0) (hst c) en es
      refine ⟨F, nn, H', fr', ?_, by rw [e1]; exact h2⟩
      rw [e1]
      have hg : globA η 1 0 = [(0, .cells true (cellsU 80 (gU g0)))] := by
        have : ltL 0 g0 = true := by rw [eg]; exact ltL_U ..
        simp only [globA, h0, this, cond_true]
        rw [← eg]
      rw [hg, ec]
      rw [← ec]
      rw [← ec] at h1
      exact h1
  · cases hk
def takeS (φ : Fr) (g : Nat → UInt64) (s : St) : St := nS ⟨takeF φ g s.h s.b, s.b, s.n⟩
def k22 (φ : Fr) : List AVal → Option EffA
  | [.ptr m 0] => some (oneE m (hashK (fun _ _ => .tup []) (takeS φ)))
  | _ => none
theorem f22_at : Tryd.prog.funcs[22]? = some Tryd.f22 := by kernel_rfl
theorem f22_body : Tryd.f22.body = some (bodyOf Tryd.f22) := by kernel_rfl
theorem callOk22 (φ : Fr) (hcs : CSOk Tryd.prog (nr φ)) : CSOk Tryd.prog (csOne 22 (k22 φ)) := by
  refine csOne_ok fun args e h => ?_
  unfold k22 at h
  split at h
  · rename_i m
    cases h
    refine callOk_hash (cargs := [.ptr 1 0]) hcs rfl (fun _ _ => rfl) fun g s hg hs => ?_
    obtain ⟨T', fr', he⟩ := ev22 φ g s.h s.b s.n 200 (by omega)
    exact ⟨200, mask 22, _, fr', run1_fin f22_at f22_body (by kernel_rfl) he (.inl rfl) rfl (by decide), by unfold takeS; rw [stC_nS]; rfl⟩
  · cases h
end Go.Proofs.YtaepfopmicnnbaaDoor

/- A byte is added. -/
namespace Go.Proofs.YtaepfopmicnnbaaDoor
set_option linter.unusedVariables false
set_option linter.unusedSimpArgs false
open Go Go.Eng
set_option maxRecDepth 1000000
set_option linter.unusedSimpArgs false
set_option linter.unusedVariables false
def n18 (φ : Fr) : CS := csAlt (nr φ) (csOne 22 (k22 φ))
noncomputable def p18 : List Code := pieces (bodyOf Tryd.f18)
def HS (g : Nat → UInt64) (c : List AVal) : HL := [(0, .cells true (cellsU 80 g)), (1, .cells false c)]
theorem s18a (φ : Fr) (g h : Nat → UInt64) (b : Nat → UInt8) (n : UInt64) (x : UInt8) (F : Nat) : segO (evSO Tryd.prog noPS (n18 φ) [13,100013] Tryd.f18.ntmps (mask 18) F 2 ((p18.drop 0).take 1) ⟨startT [.ptr 1 0, .u8 x] 0, HS g (hashC h b n), 2⟩ ⟨[], [], []⟩) =
    some (⟨[(0, .ptr 1 0), (1, .u8 x)], HS g (putA (hashC h b n) ((0 + 8) + ((n % 128).toNat : Int).toNat * 1) (cellsA (.u8 x))), 90⟩, [Nat.ble (((0 + 8) + ((n % 128).toNat : Int).toNat * 1) + (cellsA (.u8 x)).length) (hashC h b n).length, decide (0 ≤ ((n % 128).toNat : Int)) && decide (((n % 128).toNat : Int) < 128)]) := by kernel_rfl
theorem s18b (φ : Fr) (g h : Nat → UInt64) (b : Nat → UInt8) (n : UInt64) (x : UInt8) (F : Nat) : evSO Tryd.prog noPS (n18 φ) [26] Tryd.f18.ntmps (mask 18) F 2 (p18.drop 1) ⟨[(0, .ptr 1 0), (1, .u8 x)], HS g (hashC h b n), 90⟩ ⟨[true], [], []⟩ =
    some (.normal, ⟨[(0, .ptr 1 0), (1, .u8 x), (26, .bool true)], HS g (stC (takeS φ (gU (cellsU 80 g)) (hst (hashC h b (n + 1))))), 218⟩, ⟨[], [], [((n + 1) % 128) == 0]⟩) := by kernel_rfl
theorem s18c (φ : Fr) (g h : Nat → UInt64) (b : Nat → UInt8) (n : UInt64) (x : UInt8) (F : Nat) : evSO Tryd.prog noPS (n18 φ) [26] Tryd.f18.ntmps (mask 18) F 2 (p18.drop 1) ⟨[(0, .ptr 1 0), (1, .u8 x)], HS g (hashC h b n), 90⟩ ⟨[false], [], []⟩ =
    some (.normal, ⟨[(0, .ptr 1 0), (1, .u8 x), (26, .bool false)], HS g (hashC h b (n + 1)), 202⟩, ⟨[], [], [!(((n + 1) % 128) == 0)]⟩) := by kernel_rfl
theorem hashC_b {h : Nat → UInt64} {b : Nat → UInt8} {n : UInt64} {x : UInt8} {i : Nat} (hi : i < 128) : (hashC h b n).set (8 + i) (.u8 x) = hashC h (updF b i x) n := by
  unfold hashC
  have l8 : (cellsU 8 h).length = 8 := cellsU_len
  have l128 : (cellsB 128 b).length = 128 := cellsB_len
  rw [List.append_assoc, List.set_append_right _ _ (by omega), l8, show 8 + i - 8 = i by omega, List.set_append_left _ _ (by rw [l128]; exact hi), set_cellsB b x hi, ← List.append_assoc]
/-- A byte is added. -/
def add0 (s : St) (x : UInt8) : St := nS ⟨s.h, updF s.b (s.n % 128).toNat x, s.n + 1⟩
def addS (φ : Fr) (g : Nat → UInt64) (s : St) (x : UInt8) : St := cond ((s.n + 1) % 128 == 0) (takeS φ g (add0 s x)) (add0 s x)
def k18 (φ : Fr) : List AVal → Option EffA
  | [.ptr m 0, .u8 x] => some (oneE m (hashK (fun _ _ => .tup []) (fun g s => addS φ g s x)))
  | _ => none
theorem f18_at : Tryd.prog.funcs[18]? = some Tryd.f18 := by kernel_rfl
theorem f18_body : Tryd.f18.body = some (bodyOf Tryd.f18) := by kernel_rfl
theorem n18_ok {φ : Fr} (hcs : CSOk Tryd.prog (nr φ)) : CSOk Tryd.prog (n18 φ) := csAlt_ok hcs (callOk22 φ hcs)
theorem mod128 (n : UInt64) : (n % 128).toNat < 128 := by rw [UInt64.toNat_mod]; exact Nat.mod_lt _ (by decide)
theorem stC_eq {s t : St} (h : nS s = nS t) : stC s = stC t := by rw [← stC_nS s, h, stC_nS t]
theorem nS_add0 (s : St) (x : UInt8) : nS (add0 s x) = add0 s x := nS_nS _
theorem nS_takeS (φ : Fr) (g : Nat → UInt64) (s : St) : nS (takeS φ g s) = takeS φ g s := nS_nS _
theorem nS_addS (φ : Fr) (g : Nat → UInt64) (s : St) (x : UInt8) : nS (addS φ g s x) = addS φ g s x := by
  unfold addS
  cases ((s.n + 1) % 128 == 0) with
  | true => exact nS_takeS ..
  | false => exact nS_add0 ..
theorem callOk18 (φ : Fr) (hcs : CSOk Tryd.prog (nr φ)) : CSOk Tryd.prog (csOne 18 (k18 φ)) := by
  refine csOne_ok fun args e h => ?_
  unfold k18 at h
  split at h
  · rename_i m x
    cases h
    refine callOk_hash (cargs := [.ptr 1 0, .u8 x]) (n18_ok hcs) rfl (fun _ _ => rfl) fun g s hg hs => ?_
    have e8 : 0 + 8 + (((s.n % 128).toNat : Int).toNat * 1) = 8 + (s.n % 128).toNat := by
      rw [Int.toNat_natCast]; omega
    have h128 := mod128 s.n
    have e1 : putA (hashC s.h s.b s.n) (0 + 8 + (((s.n % 128).toNat : Int).toNat * 1)) (cellsA (.u8 x)) = hashC s.h (updF s.b (s.n % 128).toNat x) s.n := by
      rw [e8, putA_set _ rfl (by rw [hashC_len]; omega), hashC_b h128]
    have r := segO_ok (noPS_ok _) (s18a φ g s.h s.b s.n x 200) (by
      have a1 : (decide (0 ≤ ((s.n % 128).toNat : Int)) && decide (((s.n % 128).toNat : Int) < 128)) = true := by
        rw [Bool.and_eq_true, decide_eq_true_eq, decide_eq_true_eq]; omega
      have a2 : Nat.ble (0 + 8 + (((s.n % 128).toNat : Int).toNat * 1) + (cellsA (.u8 x)).length) (hashC s.h s.b s.n).length = true := by
        rw [e8, hashC_len]; simp [cellsA]; omega
      simp only [allT, a1, a2, cond_true])
    rw [List.drop_zero, e1] at r
    have hn0 : stC ⟨s.h, updF s.b (s.n % 128).toNat x, s.n + 1⟩ = stC (add0 s x) := stC_eq (nS_nS _).symm
    cases hz : ((s.n + 1) % 128 == 0) with
    | true =>
      have q := (evSO_ok (noPS_ok _) _ _ _ _ _ _ (s18b φ g s.h (updF s.b (s.n % 128).toNat x) s.n x 200) (by simp only [allT, hz, cond_true])).1
      have ev := r.trans q
      refine ⟨200, mask 18, _, _, run1_fin f18_at f18_body (by kernel_rfl) ev (.inl rfl) rfl (by decide), ?_⟩
      have : gU (cellsU 80 g) = g := by rw [gU_cellsU, hg]
      have e2 : hst (hashC s.h (updF s.b (s.n % 128).toNat x) (s.n + 1)) = add0 s x := hst_stC ⟨s.h, updF s.b (s.n % 128).toNat x, s.n + 1⟩
      show some (AObj.cells false (stC (takeS φ (gU (cellsU 80 g)) (hst (hashC s.h (updF s.b (s.n % 128).toNat x) (s.n + 1)))))) = _
      rw [this, e2]
      unfold addS
      rw [hz]; rfl
    | false =>
      have q := (evSO_ok (noPS_ok _) _ _ _ _ _ _ (s18c φ g s.h (updF s.b (s.n % 128).toNat x) s.n x 200) (by simp only [allT, hz, Bool.not_false, cond_true])).1
      have ev := r.trans q
      refine ⟨200, mask 18, _, _, run1_fin f18_at f18_body (by kernel_rfl) ev (.inl rfl) rfl (by decide), ?_⟩
      show some (AObj.cells false (stC ⟨s.h, updF s.b (s.n % 128).toNat x, s.n + 1⟩)) = _
      unfold addS
      rw [hz, hn0]; rfl
  · cases h
end Go.Proofs.YtaepfopmicnnbaaDoor

/- A text is added. -/
namespace Go.Proofs.YtaepfopmicnnbaaDoor
set_option linter.unusedVariables false
set_option linter.unusedSimpArgs false
open Go Go.Eng
set_option maxRecDepth 1000000
set_option linter.unusedSimpArgs false
set_option linter.unusedVariables false
def n14 (φ : Fr) : CS := csAlt (nr φ) (csOne 18 (k18 φ))
theorem n14_ok {φ : Fr} (hcs : CSOk Tryd.prog (nr φ)) : CSOk Tryd.prog (n14 φ) := csAlt_ok hcs (callOk18 φ hcs)
noncomputable def p14 : List Code := pieces (bodyOf Tryd.f14)
def loopOf : Code → Code
  | .block _ (.loop b) => b
  | c => c
noncomputable def b14 : Code := loopOf (p14.getD 4 .skip)
def S14 (g : Nat → UInt64) (s : St) (l : List UInt8) (fr : Nat) (t : TL) (i : Nat) : SA := ⟨[(0, .ptr 1 0), (1, .str l)] ++ t ++ [(16, .int .i64 (l.length : Int)), (17, .int .i64 (i : Int))], HS g (stC s), fr⟩
theorem p14_4 : p14[4]? = some (.block 0 (.loop b14)) := by kernel_rfl
theorem s14a (φ : Fr) (g : Nat → UInt64) (s : St) (l : List UInt8) (F : Nat) : segO (evSO Tryd.prog noPS (n14 φ) [] Tryd.f14.ntmps (mask 14) F 2 ((p14.drop 0).take 4) ⟨startT [.ptr 1 0, .str l] 0, HS g (stC s), 2⟩ ⟨[], [], []⟩) =
    some (S14 g s l 106 [(4, .int .i64 0), (14, .bool false)] 0, []) := by kernel_rfl
theorem r14 (φ : Fr) (g : Nat → UInt64) (s s0 : St) (l : List UInt8) (i j F : Nat) : roundO2 Tryd.prog noPS (n14 φ) [18,23,200025] [true] [.int .i64 (j : Int)] Tryd.f14.ntmps (mask 14) F 2 b14 (S14 g s0 l 106 [(4, .int .i64 0), (14, .bool false)] 0) (S14 g s l 106 [(4, .int .i64 0), (14, .bool false)] i) =
    some (S14 g (addS φ (gU (cellsU 80 g)) (hst (stC s)) (l.getD (Int.toNat (i : Int)) 0)) l 106 [(4, .int .i64 0), (14, .bool false)] j, [eqS (.int .i64 (IntKind.wrap .i64 ((i : Int) + 1))) (.int .i64 (j : Int)), decide (0 ≤ (i : Int)) && decide ((i : Int) < (l.length : Int)), decide ((i : Int) < (l.length : Int))]) := by kernel_rfl
theorem x14 (φ : Fr) (g : Nat → UInt64) (s : St) (l : List UInt8) (i F : Nat) : evSO Tryd.prog noPS (n14 φ) [18] Tryd.f14.ntmps (mask 14) F 2 [b14] (S14 g s l 106 [(4, .int .i64 0), (14, .bool false)] i) ⟨[false], [], []⟩ =
    some (.exit 0, ⟨(S14 g s l 106 [(4, .int .i64 0), (14, .bool false)] i).T ++ [(18, .bool false)], HS g (stC s), 114⟩, ⟨[], [], [!(decide ((i : Int) < (l.length : Int)))]⟩) := by kernel_rfl
theorem ok14 (g : Nat → UInt64) (s : St) (l : List UInt8) (i : Nat) : okS Tryd.prog (S14 g s l 106 [(4, .int .i64 0), (14, .bool false)] i) = true := by kernel_rfl
theorem z14 (φ : Fr) (g : Nat → UInt64) (s : St) (l : List UInt8) (i F : Nat) : evS Tryd.prog (n14 φ) Tryd.f14.ntmps (mask 14) F 2 (p14.drop 5) ⟨(S14 g s l 106 [(4, .int .i64 0), (14, .bool false)] i).T ++ [(18, .bool false)], HS g (stC s), 114⟩ =
    some (.ret, ⟨[(0, .ptr 1 0), (1, .str l), (4, .int .i64 0), (14, .bool false), (16, .int .i64 (l.length : Int)), (17, .int .i64 (i : Int)), (18, .bool false)], HS g (stC s), 122⟩) := by kernel_rfl
end Go.Proofs.YtaepfopmicnnbaaDoor

/- The sum of a hash: the walk's pieces. -/
namespace Go.Proofs.YtaepfopmicnnbaaDoor
set_option linter.unusedVariables false
set_option linter.unusedSimpArgs false
open Go Go.Eng
set_option maxRecDepth 1000000
set_option linter.unusedSimpArgs false
set_option linter.unusedVariables false
noncomputable def p15 : List Code := pieces (bodyOf Tryd.f15)
noncomputable def b15 (k : Nat) : Code := loopOf (p15.getD k .skip)
def T15 (x : UInt64) : TL := [(0, .ptr 1 0), (2, .str []), (16, .bool false), (3, .ptr 106 0), (4, .u64 x)]
def H15 (g : Nat → UInt64) (s c : St) : HL := [(0, .cells true (cellsU 80 g)), (1, .cells false (stC s)), (106, .cells false (stC c))]
def H15o (g : Nat → UInt64) (s c : St) (o : Nat → UInt8) : HL := [(0, .cells true (cellsU 80 g)), (1, .cells false (stC s)), (106, .cells false (stC c)), (226, .cells false (cellsB 64 o))]
def S15A (g : Nat → UInt64) (s c : St) (x : UInt64) : SA := ⟨T15 x, H15 g s c, 154⟩
def S15B (g : Nat → UInt64) (s c : St) (x : UInt64) (i : Nat) : SA := ⟨T15 x ++ [(26, .bool false), (28, .int .i64 (i : Int))], H15 g s c, 194⟩
def S15C (g : Nat → UInt64) (s c : St) (x : UInt64) (i : Nat) : SA := ⟨T15 x ++ [(26, .bool false), (28, .int .i64 ((8 : Nat) : Int)), (29, .bool false), (32, .int .i64 (i : Int))], H15 g s c, 210⟩
def T15D (x : UInt64) (i : Nat) : TL := T15 x ++ [(26, .bool false), (28, .int .i64 ((8 : Nat) : Int)), (29, .bool false), (32, .int .i64 ((8 : Nat) : Int)), (33, .bool false), (6, .ptr 218 0), (45, .int .i64 (i : Int))]
def H15d (g : Nat → UInt64) (s c : St) (o : List AVal) : HL := [(0, .cells true (cellsU 80 g)), (1, .cells false (stC s)), (106, .cells false (stC c)), (218, .cells false o)]
def S15D (g : Nat → UInt64) (s c : St) (x : UInt64) (o : List AVal) (i : Nat) : SA := ⟨T15D x i, H15d g s c o, 234⟩
theorem p15_6 : p15[6]? = some (.block 0 (.loop (b15 6))) := by kernel_rfl
theorem p15_8 : p15[8]? = some (.block 2 (.loop (b15 8))) := by kernel_rfl
theorem p15_10 : p15[10]? = some (.block 4 (.loop (b15 10))) := by kernel_rfl
theorem p15_13 : p15[13]? = some (.block 6 (.loop (b15 13))) := by kernel_rfl
section
variable (φ : Fr) (g : Nat → UInt64) (s c c0 : St) (x y : UInt64) (o : Nat → UInt8) (i j p F : Nat)
theorem s15a : segO (evSO Tryd.prog noPS (n14 φ) [] Tryd.f15.ntmps (mask 15) F 2 ((p15.drop 0).take 6) ⟨startT [.ptr 1 0] 0, HS g (stC s), 2⟩ ⟨[], [], []⟩) = some (S15A g s (addS φ (gU (cellsU 80 g)) (hst (stC s)) 128) s.n, []) := by kernel_rfl
theorem r15A : roundO2 Tryd.prog noPS (n14 φ) [26] [true] [] Tryd.f15.ntmps (mask 15) F 2 (b15 6) (S15A g s c0 x) (S15A g s c x) = some (S15A g s (addS φ (gU (cellsU 80 g)) (hst (stC c)) 0) x, [c.n % 128 != 112]) := by kernel_rfl
theorem x15A : evSO Tryd.prog noPS (n14 φ) [26] Tryd.f15.ntmps (mask 15) F 2 [b15 6] (S15A g s c x) ⟨[false], [], []⟩ = some (.exit 0, ⟨T15 x ++ [(26, .bool false)], H15 g s c, 186⟩, ⟨[], [], [!(c.n % 128 != 112)]⟩) := by kernel_rfl
theorem s15b : segO (evSO Tryd.prog noPS (n14 φ) [] Tryd.f15.ntmps (mask 15) F 2 ((p15.drop 7).take 1) ⟨T15 x ++ [(26, .bool false)], H15 g s c, 186⟩ ⟨[], [], []⟩) = some (S15B g s c x 0, []) := by kernel_rfl
theorem r15B : roundO2 Tryd.prog noPS (n14 φ) [29,200031] [true] [.int .i64 (j : Int)] Tryd.f15.ntmps (mask 15) F 2 (b15 8) (S15B g s c0 x 0) (S15B g s c x i) = some (S15B g s (addS φ (gU (cellsU 80 g)) (hst (stC c)) 0) x j, [eqS (.int .i64 (IntKind.wrap .i64 ((i : Int) + 1))) (.int .i64 (j : Int)), decide ((i : Int) < 8)]) := by kernel_rfl
theorem x15B : evSO Tryd.prog noPS (n14 φ) [29] Tryd.f15.ntmps (mask 15) F 2 [b15 8] (S15B g s c x i) ⟨[false], [], []⟩ = some (.exit 2, ⟨T15 x ++ [(26, .bool false), (28, .int .i64 (i : Int)), (29, .bool false)], H15 g s c, 202⟩, ⟨[], [], [!(decide ((i : Int) < 8))]⟩) := by kernel_rfl
theorem s15c : segO (evSO Tryd.prog noPS (n14 φ) [] Tryd.f15.ntmps (mask 15) F 2 ((p15.drop 9).take 1) ⟨T15 x ++ [(26, .bool false), (28, .int .i64 ((8 : Nat) : Int)), (29, .bool false)], H15 g s c, 202⟩ ⟨[], [], []⟩) = some (S15C g s c x 0, []) := by kernel_rfl
theorem r15C : roundO2 Tryd.prog noPS (n14 φ) [33,200040,200044] [true] [.u64 y, .int .i64 (j : Int)] Tryd.f15.ntmps (mask 15) F 2 (b15 10) (S15C g s c0 x 0) (S15C g s c x i) =
    some (S15C g s (addS φ (gU (cellsU 80 g)) (hst (stC c)) (shr_u64 (8 * x) y.toNat).toUInt8) x j, [eqS (.int .i64 (IntKind.wrap .i64 ((i : Int) + 1))) (.int .i64 (j : Int)), eqS (.u64 (UInt64.ofInt (IntKind.wrap .i64 (56 - IntKind.wrap .i64 (8 * (i : Int)))))) (.u64 y), decide ((i : Int) < 8)]) := by kernel_rfl
theorem x15C : evSO Tryd.prog noPS (n14 φ) [33] Tryd.f15.ntmps (mask 15) F 2 [b15 10] (S15C g s c x i) ⟨[false], [], []⟩ = some (.exit 4, ⟨T15 x ++ [(26, .bool false), (28, .int .i64 ((8 : Nat) : Int)), (29, .bool false), (32, .int .i64 (i : Int)), (33, .bool false)], H15 g s c, 218⟩, ⟨[], [], [!(decide ((i : Int) < 8))]⟩) := by kernel_rfl
theorem s15d : segO (evSO Tryd.prog noPS (n14 φ) [] Tryd.f15.ntmps (mask 15) F 2 ((p15.drop 11).take 2) ⟨T15 x ++ [(26, .bool false), (28, .int .i64 ((8 : Nat) : Int)), (29, .bool false), (32, .int .i64 ((8 : Nat) : Int)), (33, .bool false)], H15 g s c, 218⟩ ⟨[], [], []⟩) = some (S15D g s c x (cellsB 64 fun _ => 0) 0, []) := by kernel_rfl
theorem r15D (o0 : Nat → UInt8) : roundO2 Tryd.prog noPS (n14 φ) [46,200050,52,53,200058,61,100061,200062] [true] [.int .i64 (p : Int), .u64 (c.h p), .u64 y, .int .i64 (j : Int)] Tryd.f15.ntmps (mask 15) F 2 (b15 13) (S15D g s c x (cellsB 64 o0) 0) (S15D g s c x (cellsB 64 o) i) =
    some (S15D g s c x (putA (cellsB 64 o) (0 + (i : Int).toNat * 1) (cellsA (.u8 (shr_u64 (c.h p) y.toNat).toUInt8))) j,
      [eqS (.int .i64 (IntKind.wrap .i64 ((i : Int) + 1))) (.int .i64 (j : Int)), Nat.ble (0 + (i : Int).toNat * 1 + (cellsA (.u8 (shr_u64 (c.h p) y.toNat).toUInt8)).length) (cellsB 64 o).length, decide (0 ≤ (i : Int)) && decide ((i : Int) < 64),
        eqS (.u64 (UInt64.ofInt (IntKind.wrap .i64 (56 - IntKind.wrap .i64 (Int.tmod (i : Int) 8 * 8))))) (.u64 y), isAt (stC c) (0 + 0 + (p : Int).toNat * 1) (.u64 (c.h p)), decide (0 ≤ (p : Int)) && decide ((p : Int) < 8), eqS (.int .i64 (IntKind.wrap .i64 (Int.tdiv (i : Int) 8))) (.int .i64 (p : Int)), decide ((i : Int) < 64)]) := by kernel_rfl
theorem x15D : evSO Tryd.prog noPS (n14 φ) [46] Tryd.f15.ntmps (mask 15) F 2 [b15 13] (S15D g s c x (cellsB 64 o) i) ⟨[false], [], []⟩ = some (.exit 6, ⟨T15D x i ++ [(46, .bool false)], H15d g s c (cellsB 64 o), 242⟩, ⟨[], [], [!(decide ((i : Int) < 64))]⟩) := by kernel_rfl
theorem z15 : evS Tryd.prog (n14 φ) Tryd.f15.ntmps (mask 15) F 2 (p15.drop 14) ⟨T15D x 64 ++ [(46, .bool false)], H15d g s c (cellsB 64 o), 242⟩ =
    some (.ret, ⟨(0, .ptr 1 0) :: (2, .str ((List.range 64).map o)) :: ((T15D x 64).drop 2 ++ [(46, .bool false)]), H15d g s c (cellsB 64 o), 266⟩) := by kernel_rfl
theorem ok15A : okS Tryd.prog (S15A g s c x) = true := by kernel_rfl
theorem ok15B : okS Tryd.prog (S15B g s c x i) = true := by kernel_rfl
theorem ok15C : okS Tryd.prog (S15C g s c x i) = true := by kernel_rfl
theorem ok15D : okS Tryd.prog (S15D g s c x (cellsB 64 o) i) = true := by kernel_rfl
end
end Go.Proofs.YtaepfopmicnnbaaDoor

/- A text is added; the sum: what they make. -/
namespace Go.Proofs.YtaepfopmicnnbaaDoor
set_option linter.unusedVariables false
set_option linter.unusedSimpArgs false
open Go Go.Eng
set_option maxRecDepth 1000000
set_option linter.unusedSimpArgs false
set_option linter.unusedVariables false
theorem gUg {g : Nat → UInt64} (hg : nU 80 g = g) : gU (cellsU 80 g) = g := by rw [gU_cellsU, hg]
theorem hstS {s : St} (hs : nS s = s) : hst (stC s) = s := by rw [hst_stC]; exact hs
theorem plusL {i : Nat} (h : i < 1000000000) : eqS (.int .i64 (IntKind.wrap .i64 ((i : Int) + 1))) (.int .i64 ((i + 1 : Nat) : Int)) = true := eqS_i64 (by rw [wrapI _ (by omega) (by omega)]; omega)
/-! ### Add -/
def addsN (φ : Fr) (g : Nat → UInt64) (s : St) (l : List UInt8) : Nat → St
  | 0 => s
  | i + 1 => addS φ g (addsN φ g s l i) (l.getD i 0)
def addsS (φ : Fr) (g : Nat → UInt64) (s : St) (l : List UInt8) : St := addsN φ g s l l.length
theorem nS_addsN {φ : Fr} {g : Nat → UInt64} {s : St} {l : List UInt8} (hs : nS s = s) : ∀ i, nS (addsN φ g s l i) = addsN φ g s l i
  | 0 => hs
  | i + 1 => nS_addS ..
theorem end14 {φ : Fr} {sy : List Nat} {F : Nat} {b : Code} {fn : Func} {nn : Nat} {s s' : SA} {id : Nat} {c : Bool} (h : evSO Tryd.prog noPS (n14 φ) sy fn.ntmps nn F 2 [b] s ⟨[false], [], []⟩ = some (.exit id, s', ⟨[], [], [!c]⟩)) (hc : c = false) : evC Tryd.prog (n14 φ) fn.ntmps nn F 2 b s = some (.exit id, s') := by
  have := (evSO_ok (noPS_ok _) _ _ _ _ _ _ h (by rw [hc]; rfl)).1
  rwa [evS_one] at this
theorem d_false {i n : Nat} {k : Int} (h : n ≤ i) (e : (n : Int) = k := by rfl) : decide ((i : Int) < k) = false := by subst e; simp; omega
def k14 (φ : Fr) : List AVal → Option (EffA × Bool)
  | [.ptr m 0, .str l] => some (oneE m (hashK (fun _ _ => .int .i64 0) (fun g s => addsS φ g s l)), Nat.ble l.length 100000000)
  | _ => none
theorem f14_at : Tryd.prog.funcs[14]? = some Tryd.f14 := by kernel_rfl
theorem f14_body : Tryd.f14.body = some (bodyOf Tryd.f14) := by kernel_rfl
theorem ev14 (φ : Fr) (g : Nat → UInt64) (s : St) (l : List UInt8) (hg : nU 80 g = g) (hs : nS s = s) (hl : l.length ≤ 100000000) : evS Tryd.prog (n14 φ) Tryd.f14.ntmps (mask 14) (l.length + 1) 2 p14 ⟨startT [.ptr 1 0, .str l] 0, HS g (stC s), 2⟩ =
    some (.ret, ⟨[(0, .ptr 1 0), (1, .str l), (4, .int .i64 0), (14, .bool false), (16, .int .i64 (l.length : Int)), (17, .int .i64 (l.length : Int)), (18, .bool false)], HS g (stC (addsS φ g s l)), 122⟩) := by
  have a1 := segO_ok (noPS_ok _) (s14a φ g s l (l.length + 1)) rfl
  rw [List.drop_zero] at a1
  rw [a1]
  refine (evS_loop p14_4 (fun i => S14 g (addsN φ g s l i) l 106 [(4, .int .i64 0), (14, .bool false)] i) l.length (fun i hi => ?_) (end14 (x14 φ g (addsN φ g s l l.length) l l.length (l.length + 1)) (d_false (Nat.le_refl _))) (by omega)).trans (z14 φ g _ l _ _)
  have r := r14 φ g (addsN φ g s l i) s l i (i + 1) (l.length + 1)
  rw [gUg hg, hstS (nS_addsN hs i)] at r
  refine roundO2_ok (noPS_ok _) r ?_ (ok14 ..)
  have h1 : decide ((i : Int) < (l.length : Int)) = true := lt_i hi
  have h0 : decide (0 ≤ (i : Int)) = true := by simp
  simp only [allT, plusL (show i < 1000000000 by omega), h1, h0, Bool.and_self, cond_true]
theorem callOk14 (φ : Fr) (hcs : CSOk Tryd.prog (nr φ)) : CSOk Tryd.prog (csP (psOne 14 (k14 φ))) := by
  refine psOne_ok fun args e h => ?_
  unfold k14 at h
  split at h
  · rename_i m l
    simp only [Option.some.injEq, Prod.mk.injEq] at h
    obtain ⟨rfl, hc⟩ := h
    have hl := Nat.le_of_ble_eq_true hc
    refine callOk_hash (cargs := [.ptr 1 0, .str l]) (n14_ok hcs) rfl (fun _ _ => rfl) fun g s hg hs => ?_
    exact ⟨l.length + 1, mask 14, _, _, run1_fin1 f14_at f14_body (by kernel_rfl) (ev14 φ g s l hg hs hl) (.inr rfl) rfl, rfl⟩
  · cases h
/-! ### Sum -/
def zer (φ : Fr) (g : Nat → UInt64) (c : St) : Nat → St
  | 0 => c
  | i + 1 => addS φ g (zer φ g c i) 0
def lenB (x : UInt64) (i : Nat) : UInt8 := (shr_u64 (8 * x) (UInt64.ofNat (56 - 8 * i)).toNat).toUInt8
def lenA (φ : Fr) (g : Nat → UInt64) (x : UInt64) (c : St) : Nat → St
  | 0 => c
  | i + 1 => addS φ g (lenA φ g x c i) (lenB x i)
def outB (h : Nat → UInt64) (i : Nat) : UInt8 := (shr_u64 (h (i / 8)) (UInt64.ofNat (56 - i % 8 * 8)).toNat).toUInt8
def outF (h : Nat → UInt64) : Nat → Nat → UInt8
  | 0 => fun _ => 0
  | i + 1 => updF (outF h i) i (outB h i)
def padK (n : UInt64) : Nat := (239 - n.toNat % 128) % 128
def sumSt (φ : Fr) (g : Nat → UInt64) (s : St) : St := lenA φ g s.n (zer φ g (zer φ g (addS φ g s 128) (padK s.n)) 8) 8
def sumS (φ : Fr) (g : Nat → UInt64) (s : St) : List UInt8 := (List.range 64).map (outF (sumSt φ g s).h 64)
theorem nS_zer {φ : Fr} {g : Nat → UInt64} {s : St} (hs : nS s = s) : ∀ i, nS (zer φ g s i) = zer φ g s i
  | 0 => hs
  | i + 1 => nS_addS ..
theorem nS_lenA {φ : Fr} {g : Nat → UInt64} {x : UInt64} {s : St} (hs : nS s = s) : ∀ i, nS (lenA φ g x s i) = lenA φ g x s i
  | 0 => hs
  | i + 1 => nS_addS ..
theorem addS_n (φ : Fr) (g : Nat → UInt64) (s : St) (x : UInt8) : (addS φ g s x).n = s.n + 1 := by
  unfold addS
  cases ((s.n + 1) % 128 == 0) <;> rfl
theorem zer_n (φ : Fr) (g : Nat → UInt64) (s : St) : ∀ k, (zer φ g s k).n = s.n + UInt64.ofNat k
  | 0 => by show s.n = _; simp
  | k + 1 => by
    show (addS φ g (zer φ g s k) 0).n = _
    rw [addS_n, zer_n φ g s k, UInt64.add_assoc]
    congr 1
    apply UInt64.toNat_inj.1
    rw [UInt64.toNat_add, UInt64.toNat_ofNat', UInt64.toNat_ofNat']
    have h1 : (1 : UInt64).toNat = 1 := rfl
    rw [h1]
    omega
theorem bne_of {a b : UInt64} : (a != b) = decide (a.toNat ≠ b.toNat) := by
  by_cases h : a = b
  · subst h; simp
  · have : a.toNat ≠ b.toNat := fun e => h (UInt64.toNat_inj.1 e)
    simp [h, this]
theorem pad_step (n : UInt64) (k : Nat) (hk : k ≤ padK n) : ((n + 1 + UInt64.ofNat k) % 128 != 112) = decide (k < padK n) := by
  rw [bne_of]
  have e : ((n + 1 + UInt64.ofNat k) % 128).toNat = (n.toNat + 1 + k) % 128 := by
    have hp : padK n < 128 := Nat.mod_lt _ (by decide)
    rw [UInt64.toNat_mod, UInt64.toNat_add, UInt64.toNat_add, UInt64.toNat_ofNat']
    have h1 : (1 : UInt64).toNat = 1 := rfl
    have h2 : (128 : UInt64).toNat = 128 := rfl
    rw [h1, h2]
    omega
  rw [e]
  have h3 : (112 : UInt64).toNat = 112 := rfl
  rw [h3]
  unfold padK at hk ⊢
  apply decide_eq_decide.2
  omega
theorem sh8 : ∀ i : Nat, i < 8 → eqS (.u64 (UInt64.ofInt (IntKind.wrap .i64 (56 - IntKind.wrap .i64 (8 * (i : Int)))))) (.u64 (UInt64.ofNat (56 - 8 * i))) = true := by decide
theorem sh64 : ∀ i : Nat, i < 64 → eqS (.u64 (UInt64.ofInt (IntKind.wrap .i64 (56 - IntKind.wrap .i64 (Int.tmod (i : Int) 8 * 8))))) (.u64 (UInt64.ofNat (56 - i % 8 * 8))) = true := by decide
theorem f15_at : Tryd.prog.funcs[15]? = some Tryd.f15 := by kernel_rfl
theorem f15_body : Tryd.f15.body = some (bodyOf Tryd.f15) := by kernel_rfl
theorem stC_h {s : St} {p : Nat} (h : p < 8) : isAt (stC s) (0 + 0 + (p : Int).toNat * 1) (.u64 (s.h p)) = true := isAt_get (hashC_h h)
theorem d_true {i n : Nat} {k : Int} (h : i < n) (e : (n : Int) = k := by rfl) : decide ((i : Int) < k) = true := lt_i h e
theorem nat0 (i : Nat) : decide (0 ≤ (i : Int)) = true := by simp
/-- What is written: the words, byte by byte. -/
theorem ev15D (φ : Fr) (g : Nat → UInt64) (s c : St) (x : UInt64) : evS Tryd.prog (n14 φ) Tryd.f15.ntmps (mask 15) 200 2 (p15.drop 13) (S15D g s c x (cellsB 64 fun _ => 0) 0) =
    some (.ret, ⟨(0, .ptr 1 0) :: (2, .str ((List.range 64).map (outF c.h 64))) :: ((T15D x 64).drop 2 ++ [(46, .bool false)]), H15d g s c (cellsB 64 (outF c.h 64)), 266⟩) := by
  refine (evS_loop p15_13 (fun i => S15D g s c x (cellsB 64 (outF c.h i)) i) 64 (fun i hi => ?_) (end14 (x15D φ g s c x (outF c.h 64) 64 200) (by decide)) (by omega)).trans (z15 φ g s c x (outF c.h 64) 200)
  have hp : i / 8 < 8 := by omega
  have r := r15D φ g s c x (UInt64.ofNat (56 - i % 8 * 8)) (outF c.h i) i (i + 1) (i / 8) 200 (fun _ => 0)
  have e : putA (cellsB 64 (outF c.h i)) (0 + (i : Int).toNat * 1) (cellsA (.u8 (shr_u64 (c.h (i / 8)) (UInt64.ofNat (56 - i % 8 * 8)).toNat).toUInt8)) = cellsB 64 (outF c.h (i + 1)) := by
    rw [off_nat, putA_set _ rfl (by rw [cellsB_len]; exact hi), set_cellsB _ _ hi]; rfl
  rw [e] at r
  refine roundO2_ok (noPS_ok _) r ?_ (ok15D ..)
  have b1 : Nat.ble (0 + (i : Int).toNat * 1 + (cellsA (.u8 (shr_u64 (c.h (i / 8)) (UInt64.ofNat (56 - i % 8 * 8)).toNat).toUInt8)).length) (cellsB 64 (outF c.h i)).length = true := by
    rw [cellsB_len]; exact ble_i hi
  have h0 : decide (0 ≤ (i : Int)) = true := by simp
  have h6 : decide ((i : Int) < 64) = true := d_true hi
  simp only [allT, plusL (show i < 1000000000 by omega), b1, h0, h6, sh64 i hi, stC_h hp, in_rng (k := 8) hp, quo8 (show i < 1000 by omega), Bool.and_self, cond_true]
theorem ev15C (φ : Fr) (g : Nat → UInt64) (s c : St) (x : UInt64) (hg : nU 80 g = g) (hc : nS c = c) : evS Tryd.prog (n14 φ) Tryd.f15.ntmps (mask 15) 200 2 (p15.drop 10) (S15C g s c x 0) =
    some (.ret, ⟨(0, .ptr 1 0) :: (2, .str ((List.range 64).map (outF (lenA φ g x c 8).h 64))) :: ((T15D x 64).drop 2 ++ [(46, .bool false)]), H15d g s (lenA φ g x c 8) (cellsB 64 (outF (lenA φ g x c 8).h 64)), 266⟩) := by
  refine (evS_loop p15_10 (fun i => S15C g s (lenA φ g x c i) x i) 8 (fun i hi => ?_) (end14 (x15C φ g s (lenA φ g x c 8) x 8 200) (by decide)) (by omega)).trans ?_
  · have r := r15C φ g s (lenA φ g x c i) c x (UInt64.ofNat (56 - 8 * i)) i (i + 1) 200
    rw [gUg hg, hstS (nS_lenA hc i)] at r
    refine roundO2_ok (noPS_ok _) r ?_ (ok15C ..)
    simp only [allT, plusL (show i < 1000000000 by omega), sh8 i hi, d_true (k := 8) hi, cond_true]
  · exact (segO_ok (noPS_ok _) (s15d φ g s (lenA φ g x c 8) x 200) rfl).trans (ev15D φ g s (lenA φ g x c 8) x)
theorem ev15B (φ : Fr) (g : Nat → UInt64) (s c : St) (x : UInt64) (hg : nU 80 g = g) (hc : nS c = c) : evS Tryd.prog (n14 φ) Tryd.f15.ntmps (mask 15) 200 2 (p15.drop 8) (S15B g s c x 0) =
    some (.ret, ⟨(0, .ptr 1 0) :: (2, .str ((List.range 64).map (outF (lenA φ g x (zer φ g c 8) 8).h 64))) :: ((T15D x 64).drop 2 ++ [(46, .bool false)]), H15d g s (lenA φ g x (zer φ g c 8) 8) (cellsB 64 (outF (lenA φ g x (zer φ g c 8) 8).h 64)), 266⟩) := by
  refine (evS_loop p15_8 (fun i => S15B g s (zer φ g c i) x i) 8 (fun i hi => ?_) (end14 (x15B φ g s (zer φ g c 8) x 8 200) (by decide)) (by omega)).trans ?_
  · have r := r15B φ g s (zer φ g c i) c x i (i + 1) 200
    rw [gUg hg, hstS (nS_zer hc i)] at r
    refine roundO2_ok (noPS_ok _) r ?_ (ok15B ..)
    simp only [allT, plusL (show i < 1000000000 by omega), d_true (k := 8) hi, cond_true]
  · exact (segO_ok (noPS_ok _) (s15c φ g s (zer φ g c 8) x 200) rfl).trans (ev15C φ g s (zer φ g c 8) x hg (nS_zer hc 8))
theorem ev15 (φ : Fr) (g : Nat → UInt64) (s : St) (hg : nU 80 g = g) (hs : nS s = s) : evS Tryd.prog (n14 φ) Tryd.f15.ntmps (mask 15) 200 2 p15 ⟨startT [.ptr 1 0] 0, HS g (stC s), 2⟩ =
    some (.ret, ⟨(0, .ptr 1 0) :: (2, .str (sumS φ g s)) :: ((T15D s.n 64).drop 2 ++ [(46, .bool false)]), H15d g s (sumSt φ g s) (cellsB 64 (outF (sumSt φ g s).h 64)), 266⟩) := by
  have a1 := segO_ok (noPS_ok _) (s15a φ g s 200) rfl
  rw [List.drop_zero, gUg hg, hstS hs] at a1
  refine a1.trans ?_
  have n0 : nS (addS φ g s 128) = addS φ g s 128 := nS_addS ..
  refine (evS_loop p15_6 (fun i => S15A g s (zer φ g (addS φ g s 128) i) s.n) (padK s.n) (fun i hi => ?_) (end14 (x15A φ g s (zer φ g (addS φ g s 128) (padK s.n)) s.n 200) (by
    rw [zer_n, addS_n, pad_step _ _ (Nat.le_refl _)]; simp)) (by
    have : padK s.n < 128 := Nat.mod_lt _ (by decide)
    omega)).trans ?_
  · have r := r15A φ g s (zer φ g (addS φ g s 128) i) (addS φ g s 128) s.n 200
    rw [gUg hg, hstS (nS_zer n0 i)] at r
    refine roundO2_ok (noPS_ok _) r ?_ (ok15A ..)
    have : ((zer φ g (addS φ g s 128) i).n % 128 != 112) = true := by rw [zer_n, addS_n, pad_step _ _ (by omega)]; simp [hi]
    simp only [allT, this, cond_true]
  · exact (segO_ok (noPS_ok _) (s15b φ g s (zer φ g (addS φ g s 128) (padK s.n)) s.n 200) rfl).trans (ev15B φ g s _ s.n hg (nS_zer n0 _))
def k15 (φ : Fr) : List AVal → Option EffA
  | [.ptr m 0] => some (oneE m (hashK (fun g s => .str (sumS φ g s)) (fun _ s => s)))
  | _ => none
theorem callOk15 (φ : Fr) (hcs : CSOk Tryd.prog (nr φ)) : CSOk Tryd.prog (csOne 15 (k15 φ)) := by
  refine csOne_ok fun args e h => ?_
  unfold k15 at h
  split at h
  · rename_i m
    cases h
    refine callOk_hash (cargs := [.ptr 1 0]) (n14_ok hcs) rfl (fun _ _ => rfl) fun g s hg hs => ?_
    exact ⟨200, mask 15, _, _, run1_fin1 f15_at f15_body (by kernel_rfl) (ev15 φ g s hg hs) (.inr rfl) rfl, rfl⟩
  · cases h
end Go.Proofs.YtaepfopmicnnbaaDoor

/- Engine, part 27: calls on blocks of plain data that look at no globals. -/
namespace Go.Eng
set_option linter.unusedVariables false
set_option linter.unusedSimpArgs false
open Go
/-- A call on blocks of plain data that the arguments point to. -/
def viewE0 (P : Program) (cs : CS) (nn F : Nat) (f : FuncId) (ns : List Nat) (cargs : List AVal) : EffA :=
  .eff fun _ η => match objsA η ns P.globals.size with
    | none => none
    | some Ho => match run1 P cs nn F f cargs Ho (P.globals.size + ns.length) with
      | none => none
      | some (v, H', _) => match backA η H' ns P.globals.size with
        | none => none
        | some us => cond (ltV 0 v && nodupB ns) (some (v, us)) none
theorem callOk_view0 {P : Program} {cs : CS} (hcs : CSOk P cs) (hm : P.follows .mixedOrders = true) {nn F : Nat} {f : FuncId} {args cargs : List AVal} {ns : List Nat} (hcan : canL P.globals.size [] args = some (cargs, ns)) : CallOk P f args (viewE0 P cs nn F f ns cargs) := by
  intro σ args' H w base v0 H0 hl hg hH happ hfree
  simp only [viewE0, EffA.app] at happ
  cases hobj : objsA (aget H) ns P.globals.size with
  | none => rw [hobj] at happ; cases happ
  | some Ho =>
  rw [hobj] at happ
  simp only at happ
  cases hrun : run1 P cs nn F f cargs (Ho) (P.globals.size + ns.length) with
  | none => rw [hrun] at happ; cases happ
  | some r =>
  obtain ⟨v, H', fr'⟩ := r
  rw [hrun] at happ
  simp only at happ
  cases hback : backA (aget H) H' ns P.globals.size with
  | none => rw [hback] at happ; cases happ
  | some us =>
  rw [hback] at happ
  simp only at happ
  cases hcond : (ltV 0 v && nodupB ns) with
  | false => rw [hcond] at happ; cases happ
  | true =>
  rw [hcond] at happ
  simp only [cond_true, Option.some.injEq, Prod.mk.injEq] at happ
  obtain ⟨rfl, rfl⟩ := happ
  simp only [Bool.and_eq_true] at hcond
  obtain ⟨hv, hnd⟩ := hcond
  have hnd := nodupB_ok hnd
  obtain ⟨fn, body, hf, hb, hrunF⟩ := run1_some hrun
  obtain ⟨u1, u2⟩ := backA_mem hback
  have husome : ∀ m x, (m, x) ∈ us → x.isSome = true := fun m x hx => by
    obtain ⟨c, i, c0, e, _⟩ := u1 m x hx
    rw [e]; rfl
  -- what the callee sees
  have heap : ∀ m o, aget (Ho) m = some o → ∃ n ro c, aget H n = some o ∧ o = .cells ro c ∧ ltL 0 c = true ∧ sigC P.globals.size ns σ m = σ n ∧ ((m < P.globals.size ∧ n = m ∧ ro = true) ∨ ∃ i, m = P.globals.size + i ∧ ns[i]? = some n) := fun m o hmo => by
    obtain ⟨a1, n, a2, a3, ro, c, a4, a5⟩ := objsA_get hobj m o hmo
    have e : m = P.globals.size + (m - P.globals.size) := by omega
    refine ⟨n, ro, c, a3, a4, a5, ?_, .inr ⟨m - P.globals.size, e, a2⟩⟩
    rw [e]
    exact sigC_at a2
  have hgc : GRel P (sigC P.globals.size ns σ) := fun g hgl => by
    obtain ⟨sz, hs⟩ := hg g hgl
    exact ⟨sz, by unfold sigC; rw [if_pos hgl]; exact hs⟩
  have hfr : Fresh (sigC P.globals.size ns σ) (P.globals.size + ns.length) := fun m hm' => by
    unfold sigC
    rw [if_neg (by omega), List.getElem?_eq_none (by omega)]
  obtain ⟨_, hlen, hcv⟩ := canL_ok hcan
  have hlc : LR (sigC P.globals.size ns σ) cargs args' := by
    refine ⟨by rw [hlen]; exact hl.1, fun i u u' h1 h2 => ?_⟩
    have := hcv [] σ i u u' h1 fun x hx => hl.2 i x u' hx h2
    rwa [List.append_nil] at this
  have hHc : HRel (sigC P.globals.size ns σ) (aget (Ho)) w := by
    refine ⟨fun m o hmo => ?_, fun m m' o o' q q' h1 h2 hq hq' he => ?_⟩
    · obtain ⟨n, ro, c, a1, rfl, a3, a4, _⟩ := heap m o hmo
      obtain ⟨p, hp, hor⟩ := hH.obj n _ a1
      exact ⟨p, by rw [a4]; exact hp, hor.plain a3⟩
    · obtain ⟨n, ro, c, a1, rfl, a3, a4, a5⟩ := heap m o h1
      obtain ⟨n', ro', c', b1, rfl, b3, b4, b5⟩ := heap m' o' h2
      rw [a4] at hq
      rw [b4] at hq'
      rcases hH.inj n n' _ _ q q' a1 b1 hq hq' he with e | e
      · subst e
        rw [a1] at b1
        cases b1
        rcases a5 with ⟨x1, x2, x3⟩ | ⟨i, x1, x2⟩ <;> rcases b5 with ⟨y1, y2, y3⟩ | ⟨j, y1, y2⟩
        · exact .inl (by omega)
        · subst x3; exact .inr ⟨rfl, rfl⟩
        · subst y3; exact .inr ⟨rfl, rfl⟩
        · left
          have h3 := (List.getElem?_eq_some_iff.1 x2)
          have h4 := (List.getElem?_eq_some_iff.1 y2)
          obtain ⟨hi, ei⟩ := h3
          obtain ⟨hj, ej⟩ := h4
          have : i = j := (List.getElem_inj hnd).1 (ei.trans ej.symm)
          omega
      · exact .inr e
  refine (runF_ok hcs hm hf hb hrunF hlc hHc hgc hfr).mono fun r w' hrw => ?_
  obtain ⟨σ', v', rfl, g1, g2, g3, g4⟩ := hrw
  -- what the callee may write, the caller may
  have hown : ∀ b, Own (sigC P.globals.size ns σ) (aget (Ho)) b → ∃ n c p, n ∈ ns ∧ aget H n = some (.cells false c) ∧ σ n = some p ∧ p.blk = b := fun b ⟨m, o, p, a1, a2, a3, a4⟩ => by
    obtain ⟨n, ro, c, b1, rfl, b3, b4, b5⟩ := heap m o a1
    have hro : ro = false := a2
    subst hro
    rw [b4] at a3
    rcases b5 with ⟨_, _, x⟩ | ⟨i, _, x⟩
    · cases x
    · exact ⟨n, c, p, List.mem_of_getElem? x, b1, a3, a4⟩
  have hold : ∀ b, b < w.heap.size → (∀ n c p, n ∈ ns → aget H n = some (.cells false c) → σ n = some p → p.blk ≠ b) → w'.heap[b]? = w.heap[b]? := fun b hb hne =>
    (g3.old b hb fun ho => by
      obtain ⟨n, c, p, a1, a2, a3, a4⟩ := hown b ho
      exact hne n c p a1 a2 a3 a4).1
  have orig : ∀ m ob, aget (appU H us) m = some ob → ∃ ob0, aget H m = some ob0 ∧ ob0.ro = ob.ro := fun m ob hmo => by
    rcases appU_get husome (H := H) m with ⟨o, a1, a2⟩ | ⟨_, a2⟩
    · obtain ⟨c, i, c0, e1, _, _, _, e5⟩ := u1 m _ a1
      rw [hmo] at a2
      cases a2
      cases e1
      exact ⟨_, e5, rfl⟩
    · exact ⟨ob, by rw [← a2]; exact hmo, rfl⟩
  refine ⟨σ, v', rfl, g1.cut0 hv σ, ⟨fun m ob hmo => ?_, fun m1 m2 o1 o2 q1 q2 h1 h2 hq1 hq2 he => ?_⟩, ⟨Sig.le_refl σ, g3.size, g3.os, g3.output, g3.tape, fun b hb hno => ⟨hold b hb fun n c p k1 k2 k3 k4 => hno ⟨n, _, p, k2, rfl, k3, k4⟩, ?_⟩⟩, Only.refl σ base⟩
  · rcases appU_get husome (H := H) m with ⟨o, a1, a2⟩ | ⟨a1, a2⟩
    · obtain ⟨c, i, c0, e1, e2, e3, e4, e5⟩ := u1 m _ a1
      rw [hmo] at a2
      cases a2
      cases e1
      obtain ⟨p, hp, _⟩ := hH.obj m _ e5
      refine ⟨p, hp, ?_⟩
      obtain ⟨q, hq, hor⟩ := g2.obj _ _ e4
      have : q = p := Option.some.inj (hq.symm.trans (g3.ext _ _ (by rw [sigC_at e3]; exact hp)))
      subst this
      exact hor.plain e2
    · rw [a2] at hmo
      obtain ⟨p, hp, hor⟩ := hH.obj m ob hmo
      refine ⟨p, hp, hor.mono (Sig.le_refl σ) (hold _ hor.lt fun n c q k1 k2 k3 k4 => ?_)⟩
      rcases hH.inj n m _ ob q p k2 hmo k3 hp k4 with e | ⟨e, _⟩
      · subst e
        obtain ⟨x, hx⟩ := u2 n c k1 k2
        exact a1 x hx
      · cases e
  · obtain ⟨x1, y1, z1⟩ := orig m1 o1 h1
    obtain ⟨x2, y2, z2⟩ := orig m2 o2 h2
    rcases hH.inj m1 m2 x1 x2 q1 q2 y1 y2 hq1 hq2 he with e | ⟨e1, e2⟩
    · exact .inl e
    · exact .inr ⟨z1 ▸ e1, z2 ▸ e2⟩
  · rintro ⟨m, o, q, k1, k2, k3, k4⟩
    obtain ⟨x1, y1, z1⟩ := orig m o k1
    exact hno ⟨m, x1, q, y1, by rw [z1]; exact k2, k3, k4⟩
/-- Calls carried out in place, of plain data, or on blocks. -/
theorem asetH_same {α : Type} : ∀ {T : List (Nat × α)} {d : Nat} {v : α}, aget T d = some v → aset T d v = T
  | [], d, v, h => by simp [aget] at h
  | (k, u) :: l, d, v, h => by
    simp only [aget] at h
    rcases beq_cases k d with ⟨he, hb⟩ | ⟨he, hb⟩ <;> rw [hb] at h <;> simp only [cond_true, cond_false] at h
    · subst he; cases h
      simp [aset, hb]
    · simp only [aset, hb, cond_false, asetH_same h]
/-- A call on one slice, from its block's first cell on, that only reads it. -/
theorem callOk_slice {P : Program} {cs : CS} (hcs : CSOk P cs) (hm : P.follows .mixedOrders = true) {nn F : Nat} {f : FuncId} {a : AVal} {n off len esz : Nat} {g : List AVal → Option AVal}
    (ha : ltV 0 a = true) (hc : ∀ s, canV P.globals.size s a = some (a, s))
    (hrun : ∀ ro c v, g c = some v → ltV 0 v = true → ltL 0 c = true → ∃ r, run1 P cs nn F f [a, .slice P.globals.size off len esz] [(P.globals.size, .cells ro c)] (P.globals.size + 1) = some r ∧ r.1 = v ∧ aget r.2.1 P.globals.size = some (.cells ro c)) :
    CallOk P f [a, .slice n off len esz] (.read n fun ob => match ob with | .cells _ c => cond (ltL 0 c) (match g c with | some v => cond (ltV 0 v) (some v) none | none => none) none) := by
  have hcan : canL P.globals.size [] [a, .slice n off len esz] = some ([a, .slice P.globals.size off len esz], [n]) := by
    simp only [canL, hc]
    simp only [canV, canN, posN, List.length_nil, Nat.add_zero, List.nil_append]
  refine (callOk_view0 hcs hm (nn := nn) (F := F) (f := f) hcan).less fun base H r hr => ?_
  simp only [EffA.app] at hr
  cases hn : aget H n with
  | none => rw [hn] at hr; cases hr
  | some ob =>
    rw [hn] at hr
    cases ob with
    | cells ro c =>
      simp only at hr
      cases hl : ltL 0 c with
      | false => rw [hl] at hr; cases hr
      | true =>
        rw [hl] at hr
        simp only [cond_true] at hr
        cases hg : g c with
        | none => rw [hg] at hr; cases hr
        | some v =>
          rw [hg] at hr
          simp only at hr
          cases hv : ltV 0 v with
          | false => rw [hv] at hr; cases hr
          | true =>
            rw [hv] at hr
            simp only [cond_true, Option.some.injEq] at hr
            subst hr
            obtain ⟨⟨v', H', fr'⟩, h1, h2, h3⟩ := hrun ro c v hg hv hl
            simp only at h2 h3
            subst h2
            cases ro with
            | true =>
              simp only [viewE0, EffA.app, objsA, hn, hl, cond_true, List.length_cons, List.length_nil, Nat.zero_add, h1, backA, hv, nodupB, List.all_nil, Bool.and_self, appU]
            | false =>
              have e : aset H n (.cells false c) = H := asetH_same hn
              simp only [viewE0, EffA.app, objsA, hn, hl, cond_true, List.length_cons, List.length_nil, Nat.zero_add, h1, backA, h3, hv, nodupB, List.all_nil, Bool.and_self, appU, e]
end Go.Eng

/- Engine, part 28: calls that hand back a new block and look at no globals. -/
namespace Go.Eng
set_option linter.unusedVariables false
set_option linter.unusedSimpArgs false
open Go
def viewN0 (P : Program) (cs : CS) (nn F : Nat) (f : FuncId) (ns : List Nat) (cargs : List AVal) : EffA :=
  .eff fun base η => match objsA η ns P.globals.size with
    | none => none
    | some Ho => match run1 P cs nn F f cargs (Ho) (P.globals.size + ns.length) with
      | none => none
      | some (v, H', _) => match backA η H' ns P.globals.size with
        | none => none
        | some us => match newN v with
          | none => none
          | some k => match aget H' k with
            | some (.cells false c) => match renV k 0 v with
              | none => none
              | some v1 => match renV 0 base v1 with
                | none => none
                | some v2 => cond (ltV 1 v1 && ltL 0 c && nodupB ns && Nat.ble (P.globals.size + ns.length) k) (some (v2, us ++ [(base, some (.cells false c))])) none
            | _ => none
theorem callOk_viewN0 {P : Program} {cs : CS} (hcs : CSOk P cs) (hm : P.follows .mixedOrders = true) {nn F : Nat} {f : FuncId} {args cargs : List AVal} {ns : List Nat} (hcan : canL P.globals.size [] args = some (cargs, ns)) : CallOk P f args (viewN0 P cs nn F f ns cargs) := by
  intro σ args' H w base v0 H0 hl hg hH happ hfree
  simp only [viewN0, EffA.app] at happ
  cases hobj : objsA (aget H) ns P.globals.size with
  | none => rw [hobj] at happ; cases happ
  | some Ho =>
  rw [hobj] at happ
  simp only at happ
  cases hrun : run1 P cs nn F f cargs (Ho) (P.globals.size + ns.length) with
  | none => rw [hrun] at happ; cases happ
  | some r =>
  obtain ⟨v, H', fr'⟩ := r
  rw [hrun] at happ
  simp only at happ
  cases hback : backA (aget H) H' ns P.globals.size with
  | none => rw [hback] at happ; cases happ
  | some us =>
  rw [hback] at happ
  simp only at happ
  cases hnew : newN v with
  | none => rw [hnew] at happ; cases happ
  | some k =>
  rw [hnew] at happ
  simp only at happ
  cases hblk : aget H' k with
  | none => rw [hblk] at happ; cases happ
  | some obk =>
  obtain ⟨rok, ck⟩ := obk
  cases rok with
  | true => rw [hblk] at happ; cases happ
  | false =>
  rw [hblk] at happ
  simp only at happ
  cases hr0 : renV k 0 v with
  | none => rw [hr0] at happ; cases happ
  | some v1 =>
  rw [hr0] at happ
  simp only at happ
  cases hr1 : renV 0 base v1 with
  | none => rw [hr1] at happ; cases happ
  | some v2 =>
  rw [hr1] at happ
  simp only at happ
  cases hcond : (ltV 1 v1 && ltL 0 ck && nodupB ns && Nat.ble (P.globals.size + ns.length) k) with
  | false => rw [hcond] at happ; cases happ
  | true =>
  rw [hcond] at happ
  simp only [cond_true, Option.some.injEq, Prod.mk.injEq] at happ
  obtain ⟨rfl, rfl⟩ := happ
  simp only [Bool.and_eq_true] at hcond
  obtain ⟨⟨⟨hv1, hck⟩, hnd⟩, hkk⟩ := hcond
  have hkk := Nat.le_of_ble_eq_true hkk
  have hnd := nodupB_ok hnd
  obtain ⟨fn, body, hf, hb, hrunF⟩ := run1_some hrun
  obtain ⟨u1, u2⟩ := backA_mem hback
  have husome : ∀ m x, (m, x) ∈ us → x.isSome = true := fun m x hx => by
    obtain ⟨c, i, c0, e, _⟩ := u1 m x hx
    rw [e]; rfl
  -- what the callee sees
  have heap : ∀ m o, aget (Ho) m = some o → ∃ n ro c, aget H n = some o ∧ o = .cells ro c ∧ ltL 0 c = true ∧ sigC P.globals.size ns σ m = σ n ∧ ((m < P.globals.size ∧ n = m ∧ ro = true) ∨ ∃ i, m = P.globals.size + i ∧ ns[i]? = some n) := fun m o hmo => by
    obtain ⟨a1, n, a2, a3, ro, c, a4, a5⟩ := objsA_get hobj m o hmo
    have e : m = P.globals.size + (m - P.globals.size) := by omega
    refine ⟨n, ro, c, a3, a4, a5, ?_, .inr ⟨m - P.globals.size, e, a2⟩⟩
    rw [e]
    exact sigC_at a2
  have hgc : GRel P (sigC P.globals.size ns σ) := fun g hgl => by
    obtain ⟨sz, hs⟩ := hg g hgl
    exact ⟨sz, by unfold sigC; rw [if_pos hgl]; exact hs⟩
  have hfr : Fresh (sigC P.globals.size ns σ) (P.globals.size + ns.length) := fun m hm' => by
    unfold sigC
    rw [if_neg (by omega), List.getElem?_eq_none (by omega)]
  obtain ⟨_, hlen, hcv⟩ := canL_ok hcan
  have hlc : LR (sigC P.globals.size ns σ) cargs args' := by
    refine ⟨by rw [hlen]; exact hl.1, fun i u u' h1 h2 => ?_⟩
    have := hcv [] σ i u u' h1 fun x hx => hl.2 i x u' hx h2
    rwa [List.append_nil] at this
  have hHc : HRel (sigC P.globals.size ns σ) (aget (Ho)) w := by
    refine ⟨fun m o hmo => ?_, fun m m' o o' q q' h1 h2 hq hq' he => ?_⟩
    · obtain ⟨n, ro, c, a1, rfl, a3, a4, _⟩ := heap m o hmo
      obtain ⟨p, hp, hor⟩ := hH.obj n _ a1
      exact ⟨p, by rw [a4]; exact hp, hor.plain a3⟩
    · obtain ⟨n, ro, c, a1, rfl, a3, a4, a5⟩ := heap m o h1
      obtain ⟨n', ro', c', b1, rfl, b3, b4, b5⟩ := heap m' o' h2
      rw [a4] at hq
      rw [b4] at hq'
      rcases hH.inj n n' _ _ q q' a1 b1 hq hq' he with e | e
      · subst e
        rw [a1] at b1
        cases b1
        rcases a5 with ⟨x1, x2, x3⟩ | ⟨i, x1, x2⟩ <;> rcases b5 with ⟨y1, y2, y3⟩ | ⟨j, y1, y2⟩
        · exact .inl (by omega)
        · subst x3; exact .inr ⟨rfl, rfl⟩
        · subst y3; exact .inr ⟨rfl, rfl⟩
        · left
          have h3 := (List.getElem?_eq_some_iff.1 x2)
          have h4 := (List.getElem?_eq_some_iff.1 y2)
          obtain ⟨hi, ei⟩ := h3
          obtain ⟨hj, ej⟩ := h4
          have : i = j := (List.getElem_inj hnd).1 (ei.trans ej.symm)
          omega
      · exact .inr e
  refine (runF_ok hcs hm hf hb hrunF hlc hHc hgc hfr).mono fun r w' hrw => ?_
  obtain ⟨σ', v', rfl, g1, g2, g3, g4⟩ := hrw
  -- what the callee may write, the caller may
  have hown : ∀ b, Own (sigC P.globals.size ns σ) (aget (Ho)) b → ∃ n c p, n ∈ ns ∧ aget H n = some (.cells false c) ∧ σ n = some p ∧ p.blk = b := fun b ⟨m, o, p, a1, a2, a3, a4⟩ => by
    obtain ⟨n, ro, c, b1, rfl, b3, b4, b5⟩ := heap m o a1
    have hro : ro = false := a2
    subst hro
    rw [b4] at a3
    rcases b5 with ⟨_, _, x⟩ | ⟨i, _, x⟩
    · cases x
    · exact ⟨n, c, p, List.mem_of_getElem? x, b1, a3, a4⟩
  have hold : ∀ b, b < w.heap.size → (∀ n c p, n ∈ ns → aget H n = some (.cells false c) → σ n = some p → p.blk ≠ b) → w'.heap[b]? = w.heap[b]? := fun b hb hne =>
    (g3.old b hb fun ho => by
      obtain ⟨n, c, p, a1, a2, a3, a4⟩ := hown b ho
      exact hne n c p a1 a2 a3 a4).1
  have orig : ∀ m ob, aget (appU H us) m = some ob → ∃ ob0, aget H m = some ob0 ∧ ob0.ro = ob.ro := fun m ob hmo => by
    rcases appU_get husome (H := H) m with ⟨o, a1, a2⟩ | ⟨_, a2⟩
    · obtain ⟨c, i, c0, e1, _, _, _, e5⟩ := u1 m _ a1
      rw [hmo] at a2
      cases a2
      cases e1
      exact ⟨_, e5, rfl⟩
    · exact ⟨ob, by rw [← a2]; exact hmo, rfl⟩
  have hbn : σ base = none := hfree 0 (by omega)
  obtain ⟨pk, hpk, hork⟩ := g2.obj k _ hblk
  have ownk : Own σ' (aget H') pk.blk := ⟨k, _, pk, hblk, rfl, hpk, rfl⟩
  -- the new block is none of the caller's
  have fresh : ∀ m ob q, aget H m = some ob → σ m = some q → q.blk ≠ pk.blk := fun m ob q hmo hq he => by
    obtain ⟨q', hq', hor⟩ := hH.obj m ob hmo
    rw [hq] at hq'; cases hq'
    by_cases hin : ∃ c, m ∈ ns ∧ ob = .cells false c
    · obtain ⟨c, h1, rfl⟩ := hin
      obtain ⟨x, hx⟩ := u2 m c h1 hmo
      obtain ⟨c1, i, c0, e1, e2, e3, e4, e5⟩ := u1 m x hx
      have hq2 : σ' (P.globals.size + i) = some q := g3.ext _ _ (by rw [sigC_at e3]; exact hq)
      rcases g2.inj _ _ _ _ _ _ e4 hblk hq2 hpk he with e | ⟨e, _⟩
      · have := (List.getElem?_eq_some_iff.1 e3).1
        omega
      · cases e
    · refine (g3.old q.blk hor.lt fun ho => ?_).2 (he ▸ ownk)
      obtain ⟨n, c, p, a1, a2, a3, a4⟩ := hown _ ho
      rcases hH.inj n m _ ob p q a2 hmo a3 hq a4 with e | ⟨e, _⟩
      · subst e
        rw [a2] at hmo
        cases hmo
        exact hin ⟨c, a1, rfl⟩
      · cases e
  have hbase : aget (appU H us) base = none := by
    cases hb : aget (appU H us) base with
    | none => rfl
    | some ob =>
      obtain ⟨ob0, h1, _⟩ := orig base ob hb
      obtain ⟨p, hp, _⟩ := hH.obj base ob0 h1
      rw [hbn] at hp; cases hp
  have app : ∀ m, aget (appU H (us ++ [(base, some (.cells false ck))])) m = if base = m then some (.cells false ck) else aget (appU H us) m := fun m => by
    rw [appU_append husome]
    simp only [appU]
    rw [aget_aset]
  have vr : VR (σ.set base pk) v2 v' := by
    have h1 := ltV_ok hv1 (renV_ok hr0 g1)
    refine (renV_ok hr1 h1).mono fun n p hp => ?_
    unfold Sig.ren at hp
    split at hp
    · rename_i e
      subst e
      have hp1 := cut_le 1 (Sig.ren k 0 σ') 0 p hp
      have hp2 : σ' k = some p := by simpa [Sig.ren] using hp1
      rw [hpk] at hp2; cases hp2
      exact Sig.set_same σ n _
    · split at hp
      · cases hp
      · rename_i e1 e2
        simp only [Go.Eng.cut] at hp
        rw [if_neg (by omega)] at hp
        cases hp
  have base0 : HRel σ (aget (appU H us)) w' := by
    refine ⟨fun m ob hmo => ?_, fun m1 m2 o1 o2 q1 q2 h1 h2 hq1 hq2 he => ?_⟩
    · rcases appU_get husome (H := H) m with ⟨o, a1, a2⟩ | ⟨a1, a2⟩
      · obtain ⟨c, i, c0, e1, e2, e3, e4, e5⟩ := u1 m _ a1
        rw [hmo] at a2
        cases a2
        cases e1
        obtain ⟨p, hp, _⟩ := hH.obj m _ e5
        refine ⟨p, hp, ?_⟩
        obtain ⟨q, hq, hor⟩ := g2.obj _ _ e4
        have : q = p := Option.some.inj (hq.symm.trans (g3.ext _ _ (by rw [sigC_at e3]; exact hp)))
        subst this
        exact hor.plain e2
      · rw [a2] at hmo
        obtain ⟨p, hp, hor⟩ := hH.obj m ob hmo
        refine ⟨p, hp, hor.mono (Sig.le_refl σ) (hold _ hor.lt fun n c q k1 k2 k3 k4 => ?_)⟩
        rcases hH.inj n m _ ob q p k2 hmo k3 hp k4 with e | ⟨e, _⟩
        · subst e
          obtain ⟨x, hx⟩ := u2 n c k1 k2
          exact a1 x hx
        · cases e
    · obtain ⟨x1, y1, z1⟩ := orig m1 o1 h1
      obtain ⟨x2, y2, z2⟩ := orig m2 o2 h2
      rcases hH.inj m1 m2 x1 x2 q1 q2 y1 y2 hq1 hq2 he with e | ⟨e1, e2⟩
      · exact .inl e
      · exact .inr ⟨z1 ▸ e1, z2 ▸ e2⟩
  refine ⟨σ.set base pk, v', rfl, vr, ⟨fun m ob hmo => ?_, fun m1 m2 o1 o2 q1 q2 h1 h2 hq1 hq2 he => ?_⟩, ⟨Sig.le_set hbn pk, g3.size, g3.os, g3.output, g3.tape, fun b hb hno => ⟨hold b hb fun n c p k1 k2 k3 k4 => hno ⟨n, _, p, k2, rfl, k3, k4⟩, ?_⟩⟩, fun n hn => Sig.set_other σ _ (by omega)⟩
  · rw [app] at hmo
    split at hmo
    · rename_i e
      subst e
      cases hmo
      exact ⟨pk, Sig.set_same σ base pk, hork.plain hck⟩
    · rename_i e
      obtain ⟨p, hp, hor⟩ := base0.obj m ob hmo
      exact ⟨p, by rw [Sig.set_other σ _ (Ne.symm e)]; exact hp, hor.mono (Sig.le_set hbn pk) rfl⟩
  · rw [app] at h1 h2
    split at h1 <;> split at h2
    · rename_i e1 e2; exact .inl (e1.symm.trans e2)
    · rename_i e1 e2
      subst e1
      rw [Sig.set_same] at hq1; cases hq1
      rw [Sig.set_other σ _ (Ne.symm e2)] at hq2
      obtain ⟨x2, y2, _⟩ := orig m2 o2 h2
      exact absurd he.symm (fresh m2 x2 q2 y2 hq2)
    · rename_i e1 e2
      subst e2
      rw [Sig.set_same] at hq2; cases hq2
      rw [Sig.set_other σ _ (Ne.symm e1)] at hq1
      obtain ⟨x1, y1, _⟩ := orig m1 o1 h1
      exact absurd he (fresh m1 x1 q1 y1 hq1)
    · rename_i e1 e2
      rw [Sig.set_other σ _ (Ne.symm e1)] at hq1
      rw [Sig.set_other σ _ (Ne.symm e2)] at hq2
      exact base0.inj m1 m2 o1 o2 q1 q2 h1 h2 hq1 hq2 he
  · rintro ⟨m, o, q, k1, k2, k3, k4⟩
    rw [app] at k1
    split at k1
    · rename_i e
      subst e
      rw [Sig.set_same] at k3; cases k3
      refine (g3.old b hb fun ho => ?_).2 (k4 ▸ ownk)
      obtain ⟨n, c, p, a1, a2, a3, a4⟩ := hown b ho
      exact hno ⟨n, _, p, a2, rfl, a3, a4⟩
    · rename_i e
      rw [Sig.set_other σ _ (Ne.symm e)] at k3
      obtain ⟨x1, y1, z1⟩ := orig m o k1
      exact hno ⟨m, x1, q, y1, by rw [z1]; exact k2, k3, k4⟩

/-- A call of plain data that hands back a slice of a new block. -/
theorem callOk_new {P : Program} {cs : CS} (hcs : CSOk P cs) (hm : P.follows .mixedOrders = true) {nn F : Nat} {f : FuncId} {args : List AVal} {k len esz fr : Nat} {H' : HL} {c : List AVal} (hcan : canL P.globals.size [] args = some (args, []))
    (hrun : run1 P cs nn F f args [] P.globals.size = some (.slice k 0 len esz, H', fr)) (hk : aget H' k = some (.cells false c)) (hc : ltL 0 c = true) (hg : Nat.ble P.globals.size k = true) : CallOk P f args (.alloc (.cells false c) fun b => .slice b 0 len esz) := by
  refine (callOk_viewN0 hcs hm (nn := nn) (F := F) (f := f) hcan).less fun base H r hr => ?_
  simp only [EffA.app, Option.some.injEq] at hr
  subst hr
  have e1 : renV k 0 (.slice k 0 len esz) = some (.slice 0 0 len esz) := by
    simp only [renV, renS, renN, Nat.beq_refl, cond_true]
  have e2 : renV 0 base (.slice 0 0 len esz) = some (.slice base 0 len esz) := by
    simp only [renV, renS, renN, Nat.beq_refl, cond_true]
  have e3 : ltV 1 (.slice 0 0 len esz) = true := rfl
  simp only [viewN0, EffA.app, objsA, List.length_nil, Nat.add_zero, hrun, backA, newN, hk, e1, e2, e3, hc, nodupB, hg, Bool.and_self, cond_true, List.nil_append, appU]
end Go.Eng
namespace Go.Eng
set_option linter.unusedVariables false
set_option linter.unusedSimpArgs false
open Go
/-- The new block that a call hands back. -/
def newR (x : Option (AVal × HL × Nat)) : Option (Nat × Nat × Nat × List AVal) :=
  match x with
  | some (.slice k 0 len esz, H', _) => match aget H' k with
    | some (.cells false c) => some (k, len, esz, c)
    | _ => none
  | _ => none
theorem callOk_new2 {P : Program} {cs : CS} (hcs : CSOk P cs) (hm : P.follows .mixedOrders = true) {nn F : Nat} {f : FuncId} {args : List AVal} {k len esz : Nat} {c : List AVal} (hcan : canL P.globals.size [] args = some (args, []))
    (hrun : newR (run1 P cs nn F f args [] P.globals.size) = some (k, len, esz, c)) (hc : ltL 0 c = true) (hg : Nat.ble P.globals.size k = true) : CallOk P f args (.alloc (.cells false c) fun b => .slice b 0 len esz) := by
  unfold newR at hrun
  split at hrun
  · rename_i k' len' esz' H' fr hr
    split at hrun
    · rename_i c' hk
      simp only [Option.some.injEq, Prod.mk.injEq] at hrun
      obtain ⟨rfl, rfl, rfl, rfl⟩ := hrun
      exact callOk_new hcs hm hcan hr hk hc hg
    · cases hrun
  · cases hrun
end Go.Eng

/- Engine, part 40: calls that hand back a new block by a pointer; calls that look at the tables alone. -/
namespace Go.Eng
set_option linter.unusedVariables false
set_option linter.unusedSimpArgs false
open Go
/-- The new block that a call hands back. -/
def newP (x : Option (AVal × HL × Nat)) : Option (Nat × List AVal) :=
  match x with
  | some (.ptr k 0, H', _) => match aget H' k with
    | some (.cells false c) => some (k, c)
    | _ => none
  | _ => none
theorem callOk_newP {P : Program} {cs : CS} (hcs : CSOk P cs) (hm : P.follows .mixedOrders = true) {nn F : Nat} {f : FuncId} {args : List AVal} {k : Nat} {c : List AVal} (hcan : canL P.globals.size [] args = some (args, []))
    (hrun : newP (run1 P cs nn F f args [] P.globals.size) = some (k, c)) (hc : ltL 0 c = true) (hg : Nat.ble P.globals.size k = true) : CallOk P f args (.alloc (.cells false c) fun b => .ptr b 0) := by
  unfold newP at hrun
  split at hrun
  · rename_i k' H' fr hr
    split at hrun
    · rename_i c' hk
      simp only [Option.some.injEq, Prod.mk.injEq] at hrun
      obtain ⟨rfl, rfl⟩ := hrun
      refine (callOk_viewN0 hcs hm (nn := nn) (F := F) (f := f) hcan).less fun base H r hr2 => ?_
      simp only [EffA.app, Option.some.injEq] at hr2
      subst hr2
      have e1 : renV k' 0 (.ptr k' 0) = some (.ptr 0 0) := by
        simp only [renV, renS, renN, Nat.beq_refl, cond_true]
      have e2 : renV 0 base (.ptr 0 0) = some (.ptr base 0) := by
        simp only [renV, renS, renN, Nat.beq_refl, cond_true]
      have e3 : ltV 1 (.ptr 0 0) = true := rfl
      simp only [viewN0, EffA.app, objsA, List.length_nil, Nat.add_zero, hr, backA, newN, hk, e1, e2, e3, hc, nodupB, hg, Bool.and_self, cond_true, List.nil_append, appU]
    · cases hrun
  · cases hrun
/-- What a call makes of the tables alone. -/
def tabE (k : (Nat → Option AObj) → Option AVal) : EffA :=
  .eff fun _ η => match k η with
    | some v => some (v, [])
    | none => none
theorem callOk_tab {P : Program} {cs : CS} (hcs : CSOk P cs) (hm : P.follows .mixedOrders = true) {f : FuncId} {args : List AVal} (hcan : canL P.globals.size [] args = some (args, [])) {k : (Nat → Option AObj) → Option AVal}
    (h : ∀ η v, k η = some v → ltV 0 v = true ∧ ∃ F nn H' fr', run1 P cs nn F f args (globA η P.globals.size 0) P.globals.size = some (v, H', fr')) : CallOk P f args (tabE k) := by
  intro σ args' H w base v0 H0 hl hg hH happ hfree
  unfold tabE EffA.app at happ
  simp only at happ
  cases hk : k (aget H) with
  | none => rw [hk] at happ; cases happ
  | some v =>
    rw [hk] at happ
    simp only [Option.some.injEq, Prod.mk.injEq] at happ
    obtain ⟨rfl, rfl⟩ := happ
    obtain ⟨h3, F, nn, H', fr', h4⟩ := h (aget H) v hk
    refine callOk_view hcs hm (nn := nn) (F := F) hcan σ args' H w base v _ hl hg hH ?_ hfree
    unfold viewE EffA.app
    simp only [objsA, List.append_nil]
    have h4' : run1 P cs nn F f args (globA (aget H) P.globals.size 0) (P.globals.size + ([] : List Nat).length) = some (v, H', fr') := h4
    rw [h4']
    simp only [backA, h3, nodupB, cond_true, Bool.and_self]
end Go.Eng
namespace Go.Eng
set_option linter.unusedVariables false
set_option linter.unusedSimpArgs false
open Go
/-- A call on one block, without the tables. -/
theorem callOk_one0 {P : Program} {cs : CS} (hcs : CSOk P cs) (hm : P.follows .mixedOrders = true) {f : FuncId} {args cargs : List AVal} {n : Nat} (hcan : canL P.globals.size [] args = some (cargs, [n])) {k : List AVal → Option (AVal × List AVal)}
    (h : ∀ c v c', k c = some (v, c') → ltL 0 c = true ∧ ltL 0 c' = true ∧ ltV 0 v = true ∧ ∃ F nn H' fr', run1 P cs nn F f cargs [(P.globals.size, .cells false c)] (P.globals.size + 1) = some (v, H', fr') ∧ aget H' P.globals.size = some (.cells false c')) : CallOk P f args (oneE n fun _ => k) := by
  intro σ args' H w base v0 H0 hl hg hH happ hfree
  unfold oneE EffA.app at happ
  simp only at happ
  cases hn : aget H n with
  | none => rw [hn] at happ; cases happ
  | some ob =>
    obtain ⟨ro, c⟩ := ob
    rw [hn] at happ
    cases ro with
    | true => cases happ
    | false =>
      simp only at happ
      cases hk : k c with
      | none => rw [hk] at happ; cases happ
      | some r =>
        obtain ⟨v, c'⟩ := r
        rw [hk] at happ
        simp only [Option.some.injEq, Prod.mk.injEq] at happ
        obtain ⟨rfl, rfl⟩ := happ
        obtain ⟨h1, h2, h3, F, nn, H', fr', h4, h5⟩ := h c v c' hk
        refine callOk_view0 hcs hm (nn := nn) (F := F) hcan σ args' H w base v _ hl hg hH ?_ hfree
        unfold viewE0 EffA.app
        simp only [objsA, hn, h1, cond_true]
        have h4' : run1 P cs nn F f cargs [(P.globals.size, .cells false c)] (P.globals.size + [n].length) = some (v, H', fr') := h4
        rw [h4']
        simp only [backA, hn, h5, h2, cond_true, h3, nodupB, List.all_nil, Bool.and_self]
end Go.Eng

/- A new hash; a hash that is not there; the digest of a text. -/
namespace Go.Proofs.YtaepfopmicnnbaaDoor
set_option linter.unusedVariables false
set_option linter.unusedSimpArgs false
open Go Go.Eng
set_option maxRecDepth 1000000
set_option linter.unusedSimpArgs false
set_option linter.unusedVariables false
def bS : St := ⟨fun i => beginL.getD i 0, fun _ => 0, 0⟩
theorem nS_bS : nS bS = bS := by
  unfold nS
  have e1 : nU 8 bS.h = bS.h := by
    funext j
    unfold nU
    by_cases hj : j < 8
    · rw [if_pos hj]
    · rw [if_neg hj]
      show (0 : UInt64) = beginL.getD j 0
      simp only [List.getD, List.getElem?_eq_none (show beginL.length ≤ j by simp only [beginL, List.length_cons, List.length_nil]; omega), Option.getD_none]
  have e2 : nB 128 bS.b = bS.b := by
    funext j
    unfold nB
    by_cases hj : j < 128
    · rw [if_pos hj]
    · rw [if_neg hj]; rfl
  rw [e1, e2]
def k13 : List AVal → Option EffA
  | [] => some (.alloc (.cells false (stC bS)) fun b => .ptr b 0)
  | _ => none
theorem run13 (φ : Fr) : newP (run1 Tryd.prog (nr φ) (mask 13) 200 13 [] [] Tryd.prog.globals.size) = some (25, stC bS) := by kernel_rfl
theorem callOk13 (φ : Fr) (hcs : CSOk Tryd.prog (nr φ)) : CSOk Tryd.prog (csOne 13 k13) := by
  refine csOne_ok fun args e h => ?_
  unfold k13 at h
  split at h
  · cases h
    exact callOk_newP hcs hmix (by kernel_rfl) (run13 φ) (ltH_stC ..) (by kernel_rfl)
  · cases h
def kn14 : List AVal → Option EffA
  | [.nilPtr, .str _] => some (.pure (.int .i64 1))
  | _ => none
def kn15 : List AVal → Option EffA
  | [.nilPtr] => some (.pure (.str []))
  | _ => none
theorem callOkn14 (φ : Fr) (hcs : CSOk Tryd.prog (nr φ)) : CSOk Tryd.prog (csOne 14 kn14) := by
  refine csOne_ok fun args e h => ?_
  unfold kn14 at h
  split at h
  · rename_i l
    cases h
    have r : (run1 Tryd.prog (nr φ) (mask 14) 50 14 [.nilPtr, .str l] [] Tryd.prog.globals.size).map (·.1) = some (.int .i64 1) := by kernel_rfl
    exact callOk_val hcs hmix r rfl rfl
  · cases h
theorem callOkn15 (φ : Fr) (hcs : CSOk Tryd.prog (nr φ)) : CSOk Tryd.prog (csOne 15 kn15) := by
  refine csOne_ok fun args e h => ?_
  unfold kn15 at h
  split at h
  · cases h
    have r : (run1 Tryd.prog (nr φ) (mask 15) 50 15 [.nilPtr] [] Tryd.prog.globals.size).map (·.1) = some (.str []) := by kernel_rfl
    exact callOk_val hcs hmix r rfl rfl
  · cases h
/-- What a call makes of the table of the rounds' numbers. -/
def tabK (v : (Nat → UInt64) → Option AVal) (η : Nat → Option AObj) : Option AVal := match η 0 with
  | some (.cells true g) => cond (shG g) (v (gU g)) none
  | _ => none
theorem callOk_tabK {cs : CS} (hcs : CSOk Tryd.prog cs) {f : FuncId} {args : List AVal} (hcan : canL Tryd.prog.globals.size [] args = some (args, [])) {v : (Nat → UInt64) → Option AVal}
    (h : ∀ g x, nU 80 g = g → v g = some x → ltV 0 x = true ∧ ∃ F nn H' fr', run1 Tryd.prog cs nn F f args [(0, .cells true (cellsU 80 g))] 1 = some (x, H', fr')) : CallOk Tryd.prog f args (tabE (tabK v)) := by
  have e1 : Tryd.prog.globals.size = 1 := gl
  refine callOk_tab hcs (by kernel_rfl) hcan fun η x hk => ?_
  unfold tabK at hk
  split at hk
  · rename_i g0 h0
    cases hb : shG g0 <;> rw [hb] at hk <;> simp only [cond_true, cond_false] at hk
    · cases hk
    · have eg := shG_ok hb
      have en : nU 80 (gU g0) = gU g0 := by
        have : gU g0 = gU (cellsU 80 (gU g0)) := congrArg gU eg
        rw [gU_cellsU] at this
        exact this.symm
      obtain ⟨hx, F, nn, H', fr', hr⟩ := h (gU g0) x en hk
      refine ⟨hx, F, nn, H', fr', ?_⟩
      rw [e1]
      have hg : globA η 1 0 = [(0, .cells true (cellsU 80 (gU g0)))] := by
        have : ltL 0 g0 = true := by rw [eg]; exact ltL_U ..
        simp only [globA, h0, this, cond_true]
        rw [← eg]
      rw [hg]
      exact hr
  · cases hk
/-! ### the layers -/
def n13 (φ : Fr) : CS := csAlt (csOne 13 k13) (csAlt (csOne 15 (k15 φ)) (nr φ))
def ps14 (φ : Fr) : PS := psOne 14 (k14 φ)
def n8 (φ : Fr) : CS := csAlt (csP (ps14 φ)) (n13 φ)
end Go.Proofs.YtaepfopmicnnbaaDoor

/- The digest of a text: what it makes; the layer of functions. -/
namespace Go.Proofs.YtaepfopmicnnbaaDoor
set_option linter.unusedVariables false
set_option linter.unusedSimpArgs false
open Go Go.Eng
set_option maxRecDepth 1000000
set_option linter.unusedSimpArgs false
set_option linter.unusedVariables false
theorem n8_ps (φ : Fr) : PSOk (ps14 φ) (n8 φ) := csP_ok
theorem n8_ok {φ : Fr} (hcs : CSOk Tryd.prog (nr φ)) : CSOk Tryd.prog (n8 φ) := csAlt_ok (callOk14 φ hcs) (csAlt_ok (callOk13 φ hcs) (csAlt_ok (callOk15 φ hcs) hcs))
def ofS (φ : Fr) (g : Nat → UInt64) (l : List UInt8) : List UInt8 := sumS φ g (addsS φ g bS l)
theorem run8 (φ : Fr) (g : Nat → UInt64) (l : List UInt8) : ansO (run1O Tryd.prog (ps14 φ) (n8 φ) [7] [] [] (mask 8) 100 8 [.str l] [(0, .cells true (cellsU 80 g))] 1) =
    some (.str (sumS φ (gU (cellsU 80 g)) (hst (stC (addsS φ (gU (cellsU 80 g)) (hst (stC bS)) l)))), [Nat.ble l.length 100000000]) := by kernel_rfl
def k8 (φ : Fr) : List AVal → Option (EffA × Bool)
  | [.str l] => some (tabE (tabK fun g => some (.str (ofS φ g l))), Nat.ble l.length 100000000)
  | _ => none
theorem run_of {x : Option (AVal × HL × Nat)} {v : AVal} (h : x.map (·.1) = some v) : ∃ H' fr', x = some (v, H', fr') := by
  cases x with
  | none => cases h
  | some r =>
    obtain ⟨a, b, c⟩ := r
    simp only [Option.map_some, Option.some.injEq] at h
    subst h
    exact ⟨b, c, rfl⟩
theorem callOk8 (φ : Fr) (hcs : CSOk Tryd.prog (nr φ)) : CSOk Tryd.prog (csP (psOne 8 (k8 φ))) := by
  refine psOne_ok fun args e h => ?_
  unfold k8 at h
  split at h
  · rename_i l
    simp only [Option.some.injEq, Prod.mk.injEq] at h
    obtain ⟨rfl, hc⟩ := h
    refine callOk_tabK (n8_ok hcs) rfl fun g x hg hx => ?_
    cases hx
    have e := run8 φ g l
    rw [gUg hg, hstS nS_bS, hstS (show nS (addsS φ g bS l) = _ from nS_addsN nS_bS _)] at e
    obtain ⟨H', fr', hr⟩ := run_of (ansO_run (n8_ps φ) e (by simp only [allT, hc, cond_true]))
    exact ⟨rfl, _, _, H', fr', hr⟩
  · cases h
/-! ### the layer of functions -/
structure Fw where
  add : (Nat → UInt64) → St → List UInt8 → St
  sum : (Nat → UInt64) → St → List UInt8
  of : (Nat → UInt64) → List UInt8 → List UInt8
  doc : List UInt8 → List UInt8
  new : St
def w14 (ω : Fw) : List AVal → Option (EffA × Bool)
  | [.ptr m 0, .str l] => some (oneE m (hashK (fun _ _ => .int .i64 0) (fun g s => ω.add g s l)), Nat.ble l.length 100000000)
  | _ => none
def w8 (ω : Fw) : List AVal → Option (EffA × Bool)
  | [.str l] => some (tabE (tabK fun g => some (.str (ω.of g l))), Nat.ble l.length 100000000)
  | _ => none
def w9 (ω : Fw) : List AVal → Option (EffA × Bool)
  | [.str l] => some (.pure (.str (ω.doc l)), Nat.ble l.length 100000000)
  | _ => none
def w15 (ω : Fw) : List AVal → Option EffA
  | [.ptr m 0] => some (oneE m (hashK (fun g s => .str (ω.sum g s)) (fun _ s => s)))
  | _ => none
def w13 (ω : Fw) : List AVal → Option EffA
  | [] => some (.alloc (.cells false (stC ω.new)) fun b => .ptr b 0)
  | _ => none
def psW (ω : Fw) : PS := psAlt (psOne 8 (w8 ω)) (psAlt (psOne 14 (w14 ω)) (psOne 9 (w9 ω)))
def csW (ω : Fw) : CS := csAlt (csOne 13 (w13 ω)) (csAlt (csOne 15 (w15 ω)) (csAlt (csOne 14 kn14) (csOne 15 kn15)))
def nW (ω : Fw) : CS := csAlt (csP (psW ω)) (csW ω)
theorem nW_ps (ω : Fw) : PSOk (psW ω) (nW ω) := csP_ok
/-- The functions that the code's layer below makes. -/
def wOf (φ : Fr) (doc : List UInt8 → List UInt8) : Fw := ⟨addsS φ, sumS φ, ofS φ, doc, bS⟩
theorem nW_ok {φ : Fr} (hcs : CSOk Tryd.prog (nr φ)) {doc : List UInt8 → List UInt8} (h9 : CSOk Tryd.prog (csP (psOne 9 (w9 (wOf φ doc))))) : CSOk Tryd.prog (nW (wOf φ doc)) :=
  csAlt_ok (csP_alt (callOk8 φ hcs) (csP_alt (callOk14 φ hcs) h9)) (csAlt_ok (callOk13 φ hcs) (csAlt_ok (callOk15 φ hcs) (csAlt_ok (callOkn14 φ hcs) (callOkn15 φ hcs))))
end Go.Proofs.YtaepfopmicnnbaaDoor

/- Turning words. -/
namespace Go.Proofs.YtaepfopmicnnbaaDoor
set_option linter.unusedVariables false
set_option linter.unusedSimpArgs false
open Go Go.Eng
set_option maxRecDepth 1000000
set_option linter.unusedSimpArgs false
set_option linter.unusedVariables false
def rotlF (x : UInt64) (n : Int) : UInt64 := shl_u64 x (UInt64.ofInt n &&& 63).toNat ||| shr_u64 x (64 - (UInt64.ofInt n &&& 63)).toNat
def rotdF (x y : UInt64) : UInt64 := shr_u64 x y.toNat ||| shl_u64 x (64 - y).toNat
theorem run24 (x : UInt64) (n : Int) : (run1 Tryd.prog noCS (mask 24) 100 24 [.u64 x, .int .i64 n] [] Tryd.prog.globals.size).map (·.1) = some (.u64 (rotlF x n)) := by kernel_rfl
theorem run19 (x y : UInt64) : (run1 Tryd.prog noCS (mask 19) 100 19 [.u64 x, .u64 y] [] Tryd.prog.globals.size).map (·.1) = some (.u64 (rotdF x y)) := by kernel_rfl
def k24 (ρ : UInt64 → Int → UInt64) : List AVal → Option EffA
  | [.u64 x, .int .i64 n] => some (.pure (.u64 (ρ x n)))
  | _ => none
theorem callOk24 : CSOk Tryd.prog (csOne 24 (k24 rotlF)) := by
  refine csOne_ok fun args e h => ?_
  unfold k24 at h
  split at h
  · rename_i x n
    cases h
    exact callOk_val (noCS_ok _) hmix (run24 x n) rfl rfl
  · cases h
theorem run23 (ρ : UInt64 → Int → UInt64) (x : UInt64) (n : Int) : (run1 Tryd.prog (csOne 24 (k24 ρ)) (mask 23) 100 23 [.u64 x, .int .i64 n] [] Tryd.prog.globals.size).map (·.1) = some (.u64 (ρ x (IntKind.wrap .i64 (0 - n)))) := by kernel_rfl
def φr : Fr := ⟨fun x n => rotlF x (IntKind.wrap .i64 (0 - n)), rotdF⟩
theorem nr_ok : CSOk Tryd.prog (nr φr) := by
  refine csAlt_ok (csOne_ok fun args e h => ?_) (csOne_ok fun args e h => ?_)
  · unfold k23 at h
    split at h
    · rename_i x n
      cases h
      exact callOk_val callOk24 hmix (run23 rotlF x n) rfl rfl
    · cases h
  · unfold k19 at h
    split at h
    · rename_i x n
      cases h
      exact callOk_val (noCS_ok _) hmix (run19 x n) rfl rfl
    · cases h
end Go.Proofs.YtaepfopmicnnbaaDoor

/- The document's digest: the numbers of the rounds, the words to begin with. -/
namespace Go.Proofs.YtaepfopmicnnbaaDoor
set_option linter.unusedVariables false
set_option linter.unusedSimpArgs false
open Go Go.Eng
set_option maxRecDepth 1000000
set_option linter.unusedSimpArgs false
set_option linter.unusedVariables false
def kF : Nat → UInt64 := fun i => roundsL.getD i 0
def hF : Nat → UInt64 := fun i => beginL.getD i 0
def d10 (κ : Nat → UInt64) : List AVal → Option EffA
  | [] => some (.pure (.agg (cellsU 80 κ)))
  | _ => none
def d11 (η : Nat → UInt64) : List AVal → Option EffA
  | [] => some (.pure (.agg (cellsU 8 η)))
  | _ => none
theorem run10 : (run1 Tryd.prog noCS (mask 10) 100 10 [] [] Tryd.prog.globals.size).map (·.1) = some (.agg (cellsU 80 kF)) := by kernel_rfl
theorem run11 : (run1 Tryd.prog noCS (mask 11) 100 11 [] [] Tryd.prog.globals.size).map (·.1) = some (.agg (cellsU 8 hF)) := by kernel_rfl
theorem callOk10 : CSOk Tryd.prog (csOne 10 (d10 kF)) := by
  refine csOne_ok fun args e h => ?_
  unfold d10 at h
  split at h
  · cases h
    exact callOk_val (noCS_ok _) hmix run10 rfl (by kernel_rfl)
  · cases h
theorem callOk11 : CSOk Tryd.prog (csOne 11 (d11 hF)) := by
  refine csOne_ok fun args e h => ?_
  unfold d11 at h
  split at h
  · cases h
    exact callOk_val (noCS_ok _) hmix run11 rfl (by kernel_rfl)
  · cases h
def n16 (φ : Fr) (κ : Nat → UInt64) : CS := csAlt (csOne 19 (k19 φ)) (csOne 10 (d10 κ))
noncomputable def p16 : List Code := pieces (bodyOf Tryd.f16)
noncomputable def b16 (k : Nat) : Code := loopOf (p16.getD k .skip)
end Go.Proofs.YtaepfopmicnnbaaDoor
