/- Texts Rp2, Rp3, Rp4, Eng71, Rk1, Rk2, Eng29, Eng42, RJ, Rk3: what they show that this claim uses. -/
import Derived.Test.YtlchjbidkdokmaaGreatDoorP9
import Derived.RangeFuncGives
import Derived.Maps.AppendAt
import Derived.TacticsInMore
import Derived.RegionIn
import Derived.LoopIn
import Derived.OwnWalkIn
import Derived.Lib.Builder
import Derived.Test.YtlchjbidkdokmaaGreatDoorP3
import Derived.LoopNIn
import Derived.Test.YtlchjbidkdokmaaGreatDoorP7
import Derived.Test.YtlchjbidkdokmaaGreatDoorP6
import Derived.Deep.Slices
import Derived.WideKeyArgs
import Derived.OpenShut
import Derived.Test.YtlchjbidkdokmaaGreatDoorRows
import Derived.WalkKit
import Derived.ProofKit
import Derived.LaidMore
import Derived.ShutString
import Derived.Stop.Joined
set_option maxRecDepth 100000
set_option maxHeartbeats 1000000
set_option linter.unusedVariables false
set_option linter.unusedSimpArgs false
namespace Go.Proofs.YtlchjbidkdokmaaGreatDoor
open Go Go.RowKit Go.Maps
set_option maxRecDepth 1000000
set_option maxHeartbeats 2000000
theorem next_over (w:World) (ty:TypeId) (r bm clk:Nat) (x:MapEntry) (hr:w.heap[r]? = some (.mapIter (some bm) clk #[x.born] clk)) (hb:w.heap[bm]? = some (.map #[x] clk)) (hx:x.born < clk) :
  (Instr.next (.pointer (some ⟨r,0,none⟩)) false ty).run Tryz.prog w=.ok (.tuple #[.bool false]) w:=by
 simp only [Instr.next,getObj,Sem.run_bind,Sem.run,hr,hb,Result.andThen]
 have h1:¬ clk≤x.born:=by omega
 simp [h1,choose,Sem.run,Question.forced]
theorem iter83 (Bm Bo bm clk:Nat) (x:MapEntry) (hx:x.born < clk) (l m:Nat) (J:World→Prop) (W:World) (hm:W.cell? ⟨Bm,Bo,none⟩=some (.map (some bm))) (hb:W.heap[bm]? = some (.map #[x] clk))
  (hY:∀ W1:World,(∃ w2:World,w2.Alike W∧w2.tape=W.tape∧W1=w2.alloc (.mapIter (some bm) clk #[x.born] clk))→YieldAt Fence.wide m Tryz.prog l #[x.key] W1 fun e W2=>e=.returned (.bool true)∧J W2∧W2.heap[W.heap.size]? = some (.mapIter (some bm) clk #[x.born] clk)∧W2.heap[bm]? = some (.map #[x] clk)) :
  CallsIn Fence.wide (m+1) Tryz.prog 83 #[.func (.yield l) #[] #[],.pointer (some ⟨Bm,Bo,none⟩)] W fun e W2=>(∃ v,e=.returned v)∧J W2:=by
 have hrg:=run_range_map (P:=Tryz.prog) W 82 _ _ bm #[x] clk Tryz.underlying82 hb
 refine callsIn_of_wp Tryz.func83 rfl trivial ?_ rfl
 simp only [Tryz.ntmps83,List.size_toArray,List.length_cons,List.length_nil,Nat.reduceAdd,Nat.reduceSub,Array.replicate_succ,Array.replicate_zero,List.push_toArray,List.append_toArray,List.nil_append,List.cons_append]
 gi_wp2
 have law:=run_next_map (P:=Tryz.prog) W 0 bm clk clk #[] #[x] clk hb (by simpa using hx) (Nat.le_refl _)
 have hleft:(leftOf #[x] #[]) = #[x]:=by simp [leftOf]
 rw [hleft] at law
 rcases law with ⟨h0,_⟩ | ⟨e,he,w2,hal,hrun⟩
 ·simp at h0
 obtain rfl:e=x:=by simpa using he
 have hsz2:w2.heap.size=W.heap.size:=by rw [hal.1]
 have hb2:w2.heap[bm]? = some (.map #[e] clk):=by rw [hal.1]; exact hb
 have hpu:(#[]:Array Nat).push e.born = #[e.born]:=rfl
 rw [hpu] at hrun
 have hnx:∀ ty,(Instr.next (.pointer (some ⟨W.heap.size,0,none⟩)) false ty).run Tryz.prog (W.alloc (.mapIter (some bm) clk #[] clk))=_:=fun _=>hrun
 have hen:=run_entry_map (P:=Tryz.prog) w2 bm clk #[] #[e] clk e hb2 (by simp) (by simp)
 rw [hsz2,hpu] at hen
 obtain ⟨fn,tmps,assign,body,hy,hR⟩:=hY _ ⟨w2,hal,(by have:=next_tape hrun; exact this),rfl⟩
 refine wpIn_loop_rounds 2 ?_
 rw [roundsIn_succ]
 gi_wp2
 refine hR.mono ?_
 rintro r W2 ⟨rfl,hJ,hi2,hm2⟩
 have hnx2:∀ ty,(Instr.next (.pointer (some ⟨W.heap.size,0,none⟩)) false ty).run Tryz.prog W2=_:=fun ty=>next_over W2 ty _ bm clk e hi2 hm2 hx
 gi_wp2
 rw [roundsIn_succ]
 gi_wp2
 go_end0
 exact ⟨⟨_,rfl⟩,hJ⟩
theorem info40:∃ i,Tryz.prog.info? 40=some i∧i.zero=some (.int .u32 0)∧i.size=1∧i.bytes=4:=by
 have h:(Tryz.prog.info? 40).map (fun i=>(i.zero,i.size,i.bytes))=some (some (.int .u32 0),1,4):=by kernel_rfl
 obtain ⟨i,hi,he⟩:=Option.map_eq_some_iff.1 h
 simp only [Prod.mk.injEq] at he
 exact ⟨i,hi,he⟩
def apA : Code := (Code.region 2 #[{ dst := some 5, op := Op.assign (Operand.tmp 7), type := 40, pos := "iter.go:51", after := #[], guard := none }] false)
def apB : Code := (Code.block 1 (Code.region 3 #[{ dst := some 8, op := Op.load 73 (Operand.tmp 2), type := 73, pos := "iter.go:52", after := #[], guard := none }, { dst := some 9, op := Op.move (Operand.tmp 5), type := 40, pos := "iter.go:52", after := #[], guard := none }, { dst := some 10, op := Op.buildSlice 73 1 #[(0, Operand.tmp 9)], type := 73, pos := "iter.go:52", after := #[{ on := 1, ground := Ground.data }], guard := none }, { dst := some 11, op := Op.call { callee := Callee.builtin Builtin.append, args := #[Operand.tmp 8, Operand.tmp 10], argTypes := #[73, 73] }, type := 73, pos := "iter.go:52", after := #[{ on := 0, ground := Ground.data }, { on := 2, ground := Ground.data }], guard := none }, { dst := none, op := Op.store 73 (Operand.tmp 2) (Operand.tmp 11), type := 0, pos := "iter.go:52", after := #[{ on := 3, ground := Ground.data }, { on := 3, ground := Ground.chain }, { on := 0, ground := Ground.phase }, { on := 1, ground := Ground.phase }, { on := 2, ground := Ground.phase }, { on := 3, ground := Ground.phase }], guard := none }] false))
def apR (fn:FuncId) (sv:Value) (Bs D:Nat) (st:LoopState):Loop:=
 { state:=st,pending:=none,fn,tmps:=#[.slice none 0 0,sv,.pointer (some ⟨Bs,0,none⟩),undef,.slice none 0 0,undef,sv,undef,undef,undef,undef,undef,undef],params:=#[7],assign:=apA,body:=apB,defers:=D }
theorem round121 (fn:FuncId) (sv:Value) (k:Int) (Bs l D m:Nat) (hBl:Bs ≠ l) (hDl:D ≠ l) (hDB:D ≠ Bs) (W:World) (hbox:W.heap[Bs]? = some (.cells #[.slice none 0 0] 73 (0,0))) (hL:W.heap[l]? = some (.loop (apR fn sv Bs D .ready))) (hK:W.heap[D]? = some (.deferred (some []))) :
  YieldAt Fence.wide m Tryz.prog l #[.int .u32 k] W fun e W'=>e=.returned (.bool true)∧(∃ g cap cur,W'.heap[Bs]? = some (.cells #[.slice (some ⟨g,0,none⟩) 1 cap] 73 (0,0))∧W.heap.size≤g∧W'.heap[g]? = some (.cells cur 40 (0,0))∧1≤cap∧cur.size=cap∧cur[0]? = some (.int .u32 k)) ∧
   W'.heap[l]? = some (.loop (apR fn sv Bs D .ready))∧W'.heap[D]? = some (.deferred (some []))∧(∀ b,b < W.heap.size→b ≠ Bs→b ≠ l→W'.heap[b]? = W.heap[b]?)∧W.heap.size≤W'.heap.size∧W'.os=W.os∧W'.output=W.output∧W'.tape=W.tape:=by
 refine ⟨fn,#[.slice none 0 0,sv,.pointer (some ⟨Bs,0,none⟩),undef,.slice none 0 0,undef,sv,.int .u32 k,undef,undef,undef,undef,undef],apA,apB,by simpa [apR] using run_yield (P:=Tryz.prog) (args:=#[.int .u32 k]) hL rfl,roundIn_of_wpIn trivial ?_⟩
 have hbr:=run_beginRound (P:=Tryz.prog) hL rfl
 obtain ⟨W2,hW2⟩:∃ W2,W.putObj l (.loop { apR fn sv Bs D .ready with state:=.busy })=W2:=⟨_,rfl⟩
 rw [hW2] at hbr
 have hv2:W2.heap[Bs]? = some (.cells #[.slice none 0 0] 73 (0,0)):=by rw [← hW2]; exact (World.putObj_heap_other hBl).trans hbox
 have hL2:W2.heap[l]? = some (.loop { apR fn sv Bs D .ready with state:=.busy }):=by rw [← hW2]; exact World.putObj_heap_same (Array.getElem?_eq_some_iff.1 hL).1
 have hK2:W2.heap[D]? = some (.deferred (some [])):=by rw [← hW2]; exact (World.putObj_heap_other hDl).trans hK
 have hs2:W2.heap.size=W.heap.size:=by rw [← hW2]; simp
 have hBlt:Bs < W.heap.size:=(Array.getElem?_eq_some_iff.1 hbox).1
 have hllt:l < W.heap.size:=(Array.getElem?_eq_some_iff.1 hL).1
 have hDlt:D < W.heap.size:=(Array.getElem?_eq_some_iff.1 hK).1
 have hc2:W2.cell? ⟨Bs,0,none⟩=some (.slice none 0 0):=by rw [Lib.cell_of_heap hv2]; rfl
 obtain ⟨i0,hi,hz0,hz1,hz2⟩:=info40
 have hrow2:W2.ownsRow W2.heap.size 40 1 (.slice none 0 0) 0 []:=⟨rfl,.inl ⟨rfl,rfl⟩⟩
 have hf2:W2.frozen? ⟨Bs,0,none⟩=false:=Lib.frozen_of_heap hv2 0
 have ho2:W2.os=W.os∧W2.output=W.output∧W2.tape=W.tape:=by rw [← hW2]; exact ⟨rfl,rfl,rfl⟩
 have hold2:∀ b,b ≠ l→W2.heap[b]? = W.heap[b]?:=fun b hb=>by rw [← hW2]; exact World.putObj_heap_other hb
 clear hW2
 unfold apA
 gi_wp2_with (rw [Oper.semAt_eq _ _ _ (fun c h=>by cases h)]; go_simp; try go_bits)
 unfold apB
 gi_wp2_with (rw [Oper.semAt_eq _ _ _ (fun c h=>by cases h)]; go_simp; try go_bits)
 ·obtain ⟨cap,hcap⟩:∃ cap,(Question.appendCap 1 0 40).cut (W.tape W2.drawn (Question.appendCap 1 0 40))=cap:=⟨_,rfl⟩
  have h1:1≤cap:=by rw [← hcap]; exact Nat.le_add_right _ _
  rw [hcap]
  obtain ⟨W3,hW3⟩:∃ W3,W2.setCell ⟨Bs,0,none⟩ (.slice (some ⟨W.heap.size+1,0,none⟩) 1 cap)=W3:=⟨_,rfl⟩
  rw [hW3]
  have s3:W3.heap.size=W.heap.size:=by rw [← hW3,← hs2]; simp [World.setCell]
  have b3:W3.heap[Bs]? = some (.cells #[.slice (some ⟨W.heap.size+1,0,none⟩) 1 cap] 73 (0,0)):=by rw [← hW3]; simp [World.setCell,Array.getElem?_modify,hv2]
  have r3:∀ b,b ≠ Bs→W3.heap[b]? = W2.heap[b]?:=fun b hb=>by
   rw [← hW3]
   simp only [World.setCell,Array.getElem?_modify]
   rw [if_neg (Ne.symm hb)]
  have o3:W3.os=W.os∧W3.output=W.output∧W3.tape=W.tape:=by rw [← hW3]; exact ho2
  clear hW3
  obtain ⟨W4,hW4⟩:∃ W4,((W3.alloc (.cells #[.int .u32 k] 40)).alloc (.cells (#[.int .u32 k]++Builtin.zeroCells #[.int .u32 0] (cap - 1)) 40)).drew=W4:=⟨_,rfl⟩
  have s4:W4.heap.size=W.heap.size+2:=by rw [← hW4]; simp [s3]
  have r4:∀ b,b < W.heap.size→W4.heap[b]? = W3.heap[b]?:=fun b hb=>by
   rw [← hW4]
   exact (Below.heap_alloc _ _ b (by simp [s3]; omega)).trans (Below.heap_alloc _ _ b (by rw [s3]; exact hb))
  have n4:W4.heap[W.heap.size+1]? = some (.cells (#[.int .u32 k]++Builtin.zeroCells #[.int .u32 0] (cap - 1)) 40 (0,0)):=by
   have:=World.alloc_heap_new (W3.alloc (.cells #[.int .u32 k] 40)) (.cells (#[.int .u32 k]++Builtin.zeroCells #[.int .u32 0] (cap - 1)) 40)
   rw [World.size_alloc,s3] at this
   rw [← hW4]
   exact this
  have o4:W4.os=W.os∧W4.output=W.output∧W4.tape=W.tape:=by rw [← hW4]; exact o3
  have hL4:W4.heap[l]? = some (.loop { apR fn sv Bs D .ready with state:=.busy }):=(r4 l hllt).trans ((r3 l (Ne.symm hBl)).trans hL2)
  refine ⟨_,_,run_endRound none (by rw [hW4]; exact hL4),rfl,?_⟩
  rw [hW4]
  refine ⟨⟨W.heap.size+1,cap,(World.putObj_heap_other hBl).trans ((r4 Bs hBlt).trans b3),by omega,_,(World.putObj_heap_other (by omega)).trans n4,h1,?_,?_⟩,World.putObj_heap_same (by omega),(World.putObj_heap_other hDl).trans ((r4 D hDlt).trans ((r3 D hDB).trans hK2)),fun b hb h2 h3=>(World.putObj_heap_other h3).trans ((r4 b hb).trans ((r3 b h2).trans (hold2 b h3))),by simp [s4],o4.1,o4.2.1,o4.2.2⟩
  ·have hz:∀ n,(Builtin.zeroCells #[Value.int .u32 0] n).size=n:=fun n=>by simp [Builtin.zeroCells]
   rw [Array.size_append,hz]
   simp
   omega
  ·show (#[Value.int .u32 k]++Builtin.zeroCells #[Value.int .u32 0] (cap - 1))[0]? = _
   rw [Array.getElem?_append_left (by simp)]
   rfl
theorem walk121 (Bm Bo bm clk:Nat) (x:MapEntry) (k:Int) (hk:x.key=.int .u32 k) (hx:x.born < clk) (w:World) (hm:w.cell? ⟨Bm,Bo,none⟩=some (.map (some bm))) (hb:w.heap[bm]? = some (.map #[x] clk)) :
  Calls Tryz.prog 121 #[.slice none 0 0,.func (.func 83) #[] #[.pointer (some ⟨Bm,Bo,none⟩)]] w fun e w' => ∃ g cap cur,e=.returned (.slice (some ⟨g,0,none⟩) 1 cap)∧w.heap.size≤g∧w'.heap[g]? = some (.cells cur 40 (0,0))∧1≤cap∧cur.size=cap∧cur[0]? = some (.int .u32 k) ∧
   (∀ b,b < w.heap.size→w'.heap[b]? = w.heap[b]?)∧w.heap.size≤w'.heap.size∧w'.os=w.os∧w'.output=w.output∧w'.tape=w.tape:=by
 have hent:∀ args w,(callFunc 83 args).run Tryz.prog w=.ok (.enter 83 args) w:=by
  obtain ⟨fn,hfn,hbody,hname⟩:=Eng.bodied_ok (P:=Tryz.prog) (f:=83) (by kernel_rfl)
  intro args w
  simp only [callFunc,Sem.run_bind,run_program,Result.andThen_ok,hfn,hname,hbody,Bool.false_eq_true,if_false,Sem.run_pure]
 refine (callsIn_wide (n:=2)).1 (callsIn_of_wp_marks (F:=Fence.wide) Tryz.func121 rfl trivial ?_ rfl)
 simp only [Tryz.ntmps121,List.size_toArray,List.length_cons,List.length_nil,Nat.reduceAdd,Nat.reduceSub,Array.replicate_succ,Array.replicate_zero,List.push_toArray,List.append_toArray,List.nil_append,List.cons_append]
 gi_wp2
 refine wpIn_rangeFunc ?_
 intro fn hfn
 obtain ⟨sv,hsv⟩:∃ sv,sv=Value.func (.func 83) #[] #[.pointer (some ⟨Bm,Bo,none⟩)]:=⟨_,rfl⟩
 have hBm:Bm < w.heap.size:=by
  unfold World.cell? at hm
  cases h:w.heap[Bm]? with
  | none=>simp only [h] at hm; cases hm
  | some y=>exact (Array.getElem?_eq_some_iff.1 h).1
 have hbm:bm < w.heap.size:=(Array.getElem?_eq_some_iff.1 hb).1
 obtain ⟨W0,hW0⟩:∃ W0,w.alloc (.cells #[.slice none 0 0] 73)=W0:=⟨_,rfl⟩
 have hs0:W0.heap.size=w.heap.size+1:=by rw [← hW0]; simp
 have hv0:W0.heap[w.heap.size]? = some (.cells #[.slice none 0 0] 73 (0,0)):=by rw [← hW0]; exact World.alloc_heap_new w _
 have r0:∀ b,b < w.heap.size→W0.heap[b]? = w.heap[b]?:=fun b hb=>by rw [← hW0]; exact Below.heap_alloc _ _ b hb
 have o0:W0.os=w.os∧W0.output=w.output∧W0.tape=w.tape:=by rw [← hW0]; exact ⟨rfl,rfl,rfl⟩
 rw [hW0]
 obtain ⟨W1,hW1⟩:∃ W1,(W0.alloc (.deferred (some []))).alloc (.loop (apR fn sv w.heap.size W0.heap.size .ready))=W1:=⟨_,rfl⟩
 have r1:∀ b,b < W0.heap.size→W1.heap[b]? = W0.heap[b]?:=fun b hb=>by
  rw [← hW1]; exact (Below.heap_alloc _ _ b (by simp; omega)).trans (Below.heap_alloc _ _ b hb)
 have s1:W1.heap.size=w.heap.size+3:=by rw [← hW1]; simp [hs0]
 have hL1:W1.heap[W0.heap.size+1]? = some (.loop (apR fn sv w.heap.size W0.heap.size .ready)):=by
  rw [← hW1]; have:=World.alloc_heap_new (W0.alloc (.deferred (some []))) (.loop (apR fn sv w.heap.size W0.heap.size .ready)); rwa [World.size_alloc] at this
 have hK1:W1.heap[W0.heap.size]? = some (.deferred (some [])):=by
  rw [← hW1]; exact (Below.heap_alloc _ _ _ (by simp)).trans (World.alloc_heap_new W0 _)
 have o1:W1.os=w.os∧W1.output=w.output∧W1.tape=w.tape:=by rw [← hW1]; exact o0
 have hv1:=(r1 w.heap.size (by omega)).trans hv0
 have hm1:W1.cell? ⟨Bm,Bo,none⟩=some (.map (some bm)):=by rw [← hm]; unfold World.cell?; rw [r1 Bm (by omega),r0 Bm hBm]
 have hb1:W1.heap[bm]? = some (.map #[x] clk):=(r1 bm (by omega)).trans ((r0 bm hbm).trans hb)
 refine ⟨W0.heap.size+1,[{ target:=.collected W0.heap.size,args:=#[] }],W1,{ target:=.fn (.func 83) #[.pointer (some ⟨Bm,Bo,none⟩)],args:=#[.func (.yield (W0.heap.size+1)) #[] #[]] },W1,83,
  #[.func (.yield (W0.heap.size+1)) #[] #[]] ++ #[.pointer (some ⟨Bm,Bo,none⟩)],W1,?_,?_,fun _ _=>trivial,?_,fun _=>by omega,?_⟩
 ·rw [← hW1,hsv]; exact run_enterLoop_outer _ _ _ _ _
 ·simp [resolve,go_sem]
 ·simp [invoke,go_sem,hent]
 ·obtain ⟨J,hJ⟩:∃ J:World→Prop,J=fun W=>(∃ g cap cur,W.heap[w.heap.size]? = some (.cells #[.slice (some ⟨g,0,none⟩) 1 cap] 73 (0,0))∧w.heap.size+3≤g∧W.heap[g]? = some (.cells cur 40 (0,0))∧1≤cap∧cur.size=cap∧cur[0]? = some (.int .u32 k)) ∧
   W.heap[W0.heap.size+1]? = some (.loop (apR fn sv w.heap.size W0.heap.size .ready))∧W.heap[W0.heap.size]? = some (.deferred (some []))∧(∀ b,b < w.heap.size→W.heap[b]? = w.heap[b]?)∧w.heap.size+3≤W.heap.size∧W.os=w.os∧W.output=w.output∧W.tape=w.tape:=⟨_,rfl⟩
  refine (iter83 Bm Bo bm clk x hx (W0.heap.size+1) 0 J W1 hm1 hb1 ?_).mono ?_
  ·rintro W2 ⟨w2,hal,hta,rfl⟩
   have hsz:w2.heap.size=W1.heap.size:=by rw [hal.1]
   have ro:∀ b,b < W1.heap.size→(w2.alloc (.mapIter (some bm) clk #[x.born] clk)).heap[b]? = W1.heap[b]?:=fun b hb=>(Below.heap_alloc _ _ b (by rw [hsz]; exact hb)).trans (by rw [hal.1])
   have hn:=World.alloc_heap_new w2 (.mapIter (some bm) clk #[x.born] clk)
   have hS:(w2.alloc (.mapIter (some bm) clk #[x.born] clk)).heap.size=W1.heap.size+1:=by simp [hsz]
   rw [hk]
   obtain ⟨f1,t1,a1,c1,e1,e2⟩:=round121 fn sv k w.heap.size (W0.heap.size+1) W0.heap.size 0 (by omega) (by omega) (by omega) (w2.alloc (.mapIter (some bm) clk #[x.born] clk)) ((ro _ (by omega)).trans hv1) ((ro _ (by omega)).trans hL1) ((ro _ (by omega)).trans hK1)
   refine ⟨f1,t1,a1,c1,e1,e2.mono ?_⟩
   rintro r W3 ⟨rfl,⟨g,cap,cur,g1,g2,g3,g4,g5,g6⟩,h2,h3,h4,h5,h6,h7,h8⟩
   refine ⟨rfl,?_,?_,?_⟩
   ·rw [hJ]
    refine ⟨⟨g,cap,cur,g1,by omega,g3,g4,g5,g6⟩,h2,h3,fun b hb=>(h4 b (by omega) (by omega) (by omega)).trans ((ro b (by omega)).trans ((r1 b (by omega)).trans (r0 b hb))),by omega,h6.trans (hal.2.1.trans o1.1),h7.trans (hal.2.2.trans o1.2.1),h8.trans (hta.trans o1.2.2)⟩
   ·rw [h4 W1.heap.size (by omega) (by omega) (by omega),← hsz]
    exact hn
   ·exact (h4 bm (by omega) (by omega) (by omega)).trans ((ro bm (by omega)).trans hb1)
  ·rintro r W2 ⟨⟨v0,rfl⟩,h2⟩
   rw [hJ] at h2
   obtain ⟨⟨g,cap,cur,g1,g2,g3,g4,g5,g6⟩,h2,h3,h4,h5,h6,h7,h8⟩:=h2
   have hend:=run_endLoop (P:=Tryz.prog) h2 (by simp [apR])
   obtain ⟨W3,hW3⟩:∃ W3,W2.putObj (W0.heap.size+1) (.loop { apR fn sv w.heap.size W0.heap.size .ready with state:=.exhausted })=W3:=⟨_,rfl⟩
   rw [hW3] at hend
   have ne3:∀ b,b ≠ W0.heap.size+1→W3.heap[b]? = W2.heap[b]?:=fun b hb=>by rw [← hW3]; exact World.putObj_heap_other hb
   have hs3:W3.heap.size=W2.heap.size:=by rw [← hW3]; simp
   have o3:W3.os=w.os∧W3.output=w.output∧W3.tape=w.tape:=by rw [← hW3]; exact ⟨h6,h7,h8⟩
   have hv3:=(ne3 w.heap.size (by omega)).trans g1
   have hK3:=(ne3 W0.heap.size (by omega)).trans h3
   have hgne:g ≠ W0.heap.size+1:=by rintro rfl; rw [h2] at g3; cases g3
   have hg3:=(ne3 g hgne).trans g3
   have hc3:W3.cell? ⟨w.heap.size,0,none⟩=some (.slice (some ⟨g,0,none⟩) 1 cap):=by rw [Lib.cell_of_heap hv3]; rfl
   clear hW3
   refine ⟨none,W3,hend,?_⟩
   gi_wp2
   rw [← hs0]
   refine ⟨by simp,.inl ⟨_,_,rfl,run_takeDeferred hK3,?_⟩⟩
   have hgD:g ≠ W0.heap.size:=by rintro rfl; rw [h3] at g3; cases g3
   exact ⟨_,results_tmp rfl _ _ _,g,cap,cur,rfl,by omega,(World.putObj_heap_other hgD).trans hg3,g4,g5,g6,fun b hb=>(World.putObj_heap_other (by omega)).trans ((ne3 b (by omega)).trans (h4 b hb)),by simp [hs3]; omega,o3.1,o3.2.1,o3.2.2⟩
end Go.Proofs.YtlchjbidkdokmaaGreatDoor
namespace Go.Proofs.YtlchjbidkdokmaaGreatDoor
open Go Go.Eng
theorem new_at {σ:Sig}{H:Heap}{w w':World}(h:HRel σ H w) (g:Grown w w'){n:Nat}(hn:σ n=none){o:AObj}{p:Eng.Place}(hb:w.heap.size≤p.blk) (ho:ORel (σ.set n p) w' p o) :
  HRel (σ.set n p) (upd H n o) w'∧Frm σ H w (σ.set n p) (upd H n o) w':=by
 have hle:=Sig.le_set (σ:=σ) hn p
 have hlt:∀ m o',H m=some o'→∃ q,σ m=some q∧ORel σ w q o'∧q.blk < w.heap.size∧m ≠ n:=fun m o' hm=>by
  obtain ⟨q,hq,hr⟩:=h.obj m o' hm
  exact ⟨q,hq,hr,hr.lt,fun e=>by subst e; rw [hn] at hq; cases hq⟩
 refine ⟨⟨fun m o' hm => ?_,fun m1 m2 o1 o2 p1 q1 h1 h2 hp1 hq1 he => ?_⟩,⟨hle,g.size,g.os,g.output,g.tape,fun b hb2 hno=>⟨g.old b hb2,?_⟩⟩⟩
 ·unfold upd at hm
  split at hm
  ·rename_i e; subst e; cases hm
   exact ⟨_,Sig.set_same σ n _,ho⟩
  ·obtain ⟨q,hq,hr,hl,hne⟩:=hlt m o' hm
   exact ⟨q,hle _ _ hq,hr.mono hle (g.old _ hl)⟩
 ·unfold upd at h1 h2
  split at h1 <;> split at h2
  ·rename_i e1 e2; exact .inl (e1.symm.trans e2)
  ·rename_i e1 e2
   obtain ⟨q,hq,_,hl,hne⟩:=hlt m2 o2 h2
   subst e1
   rw [Sig.set_same] at hp1; cases hp1
   rw [hle _ _ hq] at hq1; cases hq1
   omega
  ·rename_i e1 e2
   obtain ⟨q,hq,_,hl,hne⟩:=hlt m1 o1 h1
   subst e2
   rw [Sig.set_same] at hq1; cases hq1
   rw [hle _ _ hq] at hp1; cases hp1
   omega
  ·obtain ⟨q,hq,_,_,_⟩:=hlt m1 o1 h1
   obtain ⟨r,hr,_,_,_⟩:=hlt m2 o2 h2
   rw [hle _ _ hq] at hp1; cases hp1
   rw [hle _ _ hr] at hq1; cases hq1
   exact h.inj m1 m2 o1 o2 _ _ h1 h2 hq hr he
 ·rintro ⟨m,o',q,h1,h2,h3,h4⟩
  unfold upd at h1
  split at h1
  ·rename_i e; subst e; rw [Sig.set_same] at h3; cases h3; omega
  ·obtain ⟨r,hr,_,_,_⟩:=hlt m o' h1
   rw [hle _ _ hr] at h3; cases h3
   exact hno ⟨m,o',q,h1,h2,hr,h4⟩
theorem u8_two {s:UInt8}(h:((s.toNat:Nat):Int)=2):s=2:=by
 apply UInt8.toNat_inj.1
 have h2:(2:UInt8).toNat=2:=rfl
 rw [h2]
 omega
def provF (η:Nat→Option AObj) (key:List UInt8):List AVal→Option (Option Nat)
 | []=>some none
 | k::v::l=>match v,provF η key l with
  | .ptr n 0,some r=>match η n with
   | some (.cells _ c)=>match (c[2]? : Option AVal),(c[3]? : Option AVal) with
    | some (.u8 s),some (.str x)=>cond (s == 2 && x == key) (match r with
     | none=>some (some n)
     | some _=>none) (some r)
    | _,_=>none
   | _=>none
  | _,_=>none
 | _=>none
def provV (r:Nat) (key:List UInt8) (η:Nat→Option AObj):Option AVal:=match η r with
 | some (.cells _ c)=>match (c[5]? : Option AVal) with
  | some (.map m)=>match η m with
   | some (.mp es)=>match provF η key es with
    | some none=>some .nilPtr
    | some (some n)=>some (.ptr n 0)
    | none=>none
   | _=>none
  | _=>none
 | _=>none
def k50:List AVal→Option EffA
 | [.ptr r 0,.str key]=>some (.eff fun _ η=>match provV r key η with
  | some v=>some (v,[])
  | none=>none)
 | _=>none
theorem cell_at' {w:World}{b:Nat}{c:Array Value}{t:TypeId}{fz:Nat × Nat}(h:w.heap[b]? = some (.cells c t fz)) (i:Nat):w.cell? ⟨b,i,none⟩=c[i]?:=Eng.cell_at h i
theorem rd_cell {σ:Sig}{H:Heap}{w:World}(h:HRel σ H w){n:Nat}{ro:Bool}{c:List AVal}(hn:H n=some (.cells ro c)){i:Nat}{v:AVal}(hi:c[i]? = some v):∃ p v',σ n=some p∧w.cell? ⟨p.blk,p.sh+i,none⟩=some v'∧VR σ v v':=by
 obtain ⟨p,hp,c',t,fz,h1,h2,h3,_⟩:=h.obj n _ hn
 obtain ⟨v',a,b⟩:=h3 i v hi
 exact ⟨p,v',hp,by rw [cell_at' h1]; exact a,b⟩
theorem provF_ok {σ:Sig}{H:Heap}{w:World}(h:HRel σ H w) (key:List UInt8):∀ (l:List AVal) (es:List MapEntry) (r:Option Nat),LR σ l (flatE es)→provF H key l=some r →
  (∀ x ∈ es,∃ b o s k,x.val=.pointer (some ⟨b,o,none⟩)∧w.cell? ⟨b,o+2,none⟩=some (.int .u8 s)∧w.cell? ⟨b,o+3,none⟩=some (.string k)) ∧
  match r with
  | none => ∀ x ∈ es,¬ Hit w ⟨key.toArray⟩ x
  | some n=>(∃ x ∈ es,Hit w ⟨key.toArray⟩ x)∧∀ x ∈ es,Hit w ⟨key.toArray⟩ x→VR σ (.ptr n 0) x.val
 | [],es,r,hl,hf=>by
  have:=hl.flat_short (fun a v r h=>by cases h)
  subst this
  simp only [provF,Option.some.injEq] at hf
  subst hf
  exact ⟨fun x hx=>(by cases hx),fun x hx=>(by cases hx)⟩
 | [a],es,r,hl,hf=>by simp [provF] at hf
 | a::v::l,es,r,hl,hf=>by
  obtain ⟨e,es1,rfl,h1,h2,h3⟩:=hl.flat_cons
  simp only [provF] at hf
  split at hf
  ·rename_i n r1 hr1
   obtain ⟨ih1,ih2⟩:=provF_ok h key l es1 r1 h3 hr1
   split at hf
   ·rename_i ro c hn
    split at hf
    ·rename_i s x h4 h5
     obtain ⟨p,s',hp,c4,v4⟩:=rd_cell h hn h4
     obtain ⟨p',x',hp',c5,v5⟩:=rd_cell h hn h5
     rw [hp] at hp'; cases hp'
     have h2':=h2
     cases hev:e.val with
     | pointer q =>
      rw [hev] at h2
      cases h2 with
      | @ptr _ _ p2 hp2 =>
       rw [hp] at hp2; cases hp2
       cases v4
       cases v5
       have hval:∃ b o s k,e.val=.pointer (some ⟨b,o,none⟩)∧w.cell? ⟨b,o+2,none⟩=some (.int .u8 s)∧w.cell? ⟨b,o+3,none⟩=some (.string k):=⟨p.blk,p.sh,s.toNat,⟨x.toArray⟩,by rw [hev]; rfl,c4,c5⟩
       refine ⟨fun y hy => ?_,?_⟩
       ·rcases List.mem_cons.1 hy with rfl | hy
        ·exact hval
        ·exact ih1 y hy
       ·cases hb:(s == 2 && x == key) with
        | true =>
         rw [hb,cond_true] at hf
         rw [Bool.and_eq_true] at hb
         have hs:=eq_of_beq hb.1
         have hx:=eq_of_beq hb.2
         subst hs; subst hx
         have hhit:Hit w ⟨x.toArray⟩ e:=⟨p.blk,p.sh,by rw [hev]; rfl,c4,_,c5,rfl⟩
         cases r1 with
         | some _=>cases hf
         | none =>
          simp only [Option.some.injEq] at hf
          subst hf
          refine ⟨⟨e,List.mem_cons_self ..,hhit⟩,fun y hy hyh => ?_⟩
          rcases List.mem_cons.1 hy with rfl | hy
          ·exact h2'
          ·exact absurd hyh (ih2 y hy)
        | false =>
         rw [hb,cond_false,Option.some.injEq] at hf
         subst hf
         have hno:¬ Hit w ⟨key.toArray⟩ e:=by
          rintro ⟨b,o,g1,g2,k,g3,g4⟩
          rw [hev] at g1
          cases g1
          rw [Nat.add_zero,c4] at g2
          rw [Nat.add_zero,c5] at g3
          cases g3
          simp only [ByteArray.toList_mk] at g4
          subst g4
          simp only [Option.some.injEq,Value.int.injEq,true_and] at g2
          have:s=2:=u8_two g2
          subst this
          simp at hb
         cases r1 with
         | none =>
          exact fun y hy=>by
           rcases List.mem_cons.1 hy with rfl | hy
           ·exact hno
           ·exact ih2 y hy
         | some m =>
          refine ⟨ih2.1.imp fun y hy=>⟨List.mem_cons_of_mem _ hy.1,hy.2⟩,fun y hy hyh => ?_⟩
          rcases List.mem_cons.1 hy with rfl | hy
          ·exact absurd hyh hno
          ·exact ih2.2 y hy hyh
     | _=>rw [hev] at h2; cases h2
    ·cases hf
   ·cases hf
  ·cases hf
theorem alike_grown {w w1:World}(h:w1.Alike w) (ht:w1.tape=w.tape) (o:Obj):Grown w (w1.alloc o):=
 ⟨by simp [h.1],fun b hb=>(RowKit.Below.heap_alloc w1 o b (by rw [h.1]; exact hb)).trans (by rw [h.1]),h.2.1,h.2.2,ht⟩
theorem k50_ok:CSOk Tryz.prog (csOne 50 k50):=csOne_ok fun args e he=>by
 unfold k50 at he
 split at he
 ·rename_i r key
  cases he
  intro σ args' H w base v0 H0 hl hg hH happ hfree
  simp only [EffA.app] at happ
  cases hv:provV r key (aget H) with
  | none=>rw [hv] at happ; cases happ
  | some v =>
   rw [hv] at happ
   simp only [Option.some.injEq,Prod.mk.injEq,appU] at happ
   obtain ⟨rfl,rfl⟩:=happ
   unfold provV at hv
   split at hv
   ·rename_i ro c hr
    split at hv
    ·rename_i m hm
     split at hv
     ·rename_i es hes
      cases hpf:provF (aget H) key es with
      | none=>rw [hpf] at hv; cases hv
      | some res =>
       rw [hpf] at hv
       obtain ⟨pr,mv,hpr,hc5,vm⟩:=rd_cell hH hr hm
       cases vm with
       | @map _ pm hpm =>
        obtain ⟨pm',hpm',en,clk,hb,hst,L,hperm,hLR⟩:=hH.obj m _ hes
        rw [hpm] at hpm'; cases hpm'
        obtain ⟨q1,q2⟩:=provF_ok hH key es L res hLR hpf
        have hargs:args' = #[.pointer (some ⟨pr.blk,pr.sh,none⟩),.string ⟨key.toArray⟩]:=by
         obtain ⟨a0,g0,v0⟩:=hl.get (i:=0) (v:=.ptr r 0) rfl
         obtain ⟨a1,g1,v1⟩:=hl.get (i:=1) (v:=.str key) rfl
         cases v1
         cases v0 with
         | @ptr _ _ p hp =>
          rw [hpr] at hp; cases hp
          have hs:args'.size=2:=hl.1.symm
          apply Array.ext (by simpa using hs)
          intro i hi1 hi2
          rw [Array.getElem?_eq_some_iff] at g0 g1
          obtain ⟨_,g0⟩:=g0
          obtain ⟨_,g1⟩:=g1
          match i with
          | 0=>exact g0
          | 1=>exact g1
          | i+2=>omega
        subst hargs
        refine (prov_walk w pr.blk pr.sh ⟨key.toArray⟩ pm.blk en clk hc5 hb hst fun x hx=>q1 x (hperm.mem_iff.2 hx)).mono ?_
        rintro e w' ⟨⟨w1,s,hal,hta,rfl⟩,hres⟩
        have hG:=alike_grown hal hta (.mapIter (some pm.blk) clk s clk)
        refine ⟨σ,?_⟩
        have fin:∀ v',e=.returned v'→VR σ v v'→∃ v',e=.returned v'∧VR σ v v'∧HRel σ (aget H) (w1.alloc (.mapIter (some pm.blk) clk s clk))∧Frm σ (aget H) w σ (aget H) (w1.alloc (.mapIter (some pm.blk) clk s clk))∧Only σ σ base:=
         fun v' h1 h2=>⟨v',h1,h2,hH.grown hG,(Frm.refl _ _ _).grown hG,Only.refl _ _⟩
        rcases hres with ⟨rfl,hno⟩ | ⟨x,hx,rfl,hhit⟩
        ·cases res with
         | none =>
          cases hv
          exact fin _ rfl .nilPtr
         | some n =>
          obtain ⟨⟨x,hx,hh⟩,_⟩:=q2
          exact absurd hh (hno x (hperm.mem_iff.1 hx))
        ·cases res with
         | none=>exact absurd hhit (q2 x (hperm.mem_iff.2 hx))
         | some n =>
          cases hv
          exact fin _ rfl (q2.2 x (hperm.mem_iff.2 hx) hhit)
     ·cases hv
    ·cases hv
   ·cases hv
 ·cases he
end Go.Proofs.YtlchjbidkdokmaaGreatDoor
namespace Go.Proofs.YtlchjbidkdokmaaGreatDoor
open Go Go.Eng
def dT:List T3:=[(0,11,75),(1,13,76),(2,14,77)]
def k41:List AVal→Option EffA
 | []=>some (.alloc (.mp (mkA dT)) fun b=>.map b)
 | _=>none
theorem args_nil {σ:Sig}{args':Array Value}(h:LR σ [] args'):args' = #[]:=Array.eq_empty_of_size_eq_zero h.1.symm
theorem args_two {σ:Sig}{a b:AVal}{args':Array Value}(h:LR σ [a,b] args'):∃ a' b',args' = #[a',b']∧VR σ a a'∧VR σ b b':=by
 obtain ⟨a',g0,v0⟩:=h.get (i:=0) (v:=a) rfl
 obtain ⟨b',g1,v1⟩:=h.get (i:=1) (v:=b) rfl
 refine ⟨a',b',?_,v0,v1⟩
 have hs:args'.size=2:=h.1.symm
 apply Array.ext (by simpa using hs)
 intro i hi1 hi2
 rw [Array.getElem?_eq_some_iff] at g0 g1
 obtain ⟨_,g0⟩:=g0
 obtain ⟨_,g1⟩:=g1
 match i with
 | 0=>exact g0
 | 1=>exact g1
 | i+2=>omega
theorem k41_ok:CSOk Tryz.prog (csOne 41 k41):=csOne_ok fun args e he=>by
 unfold k41 at he
 split at he
 ·cases he
  intro σ args' H w base v0 H0 hl hg hH happ hfree
  simp only [EffA.app,Option.some.injEq,Prod.mk.injEq] at happ
  obtain ⟨rfl,rfl⟩:=happ
  rw [args_nil hl]
  refine (walk41 w).mono ?_
  rintro e w' ⟨rfl,w1,en,hal,hta,rfl,hst,L,hp,m0,m1,m2,rfl⟩
  have hn:σ base=none:=hfree 0 (by omega)
  have hsz:w1.heap.size=w.heap.size:=by rw [hal.1]
  have hnew:=World.alloc_heap_new w1 (.map en 3)
  rw [hsz] at hnew
  obtain ⟨q1,q2⟩:=new_at hH (alike_grown hal hta (.map en 3)) hn (o:=.mp (mkA dT)) (p:=⟨w.heap.size,0,0,none⟩) (Nat.le_refl _) ⟨en,3,hnew,hst,_,hp,LR.flat_mk (vrK _ 0 11) (vrF _ 75) (LR.flat_mk (vrK _ 1 13) (vrF _ 76) (LR.flat_mk (vrK _ 2 14) (vrF _ 77) (LR.nil _)))⟩
  refine ⟨_,_,rfl,VR.map (p:=⟨w.heap.size,0,0,none⟩) (Sig.set_same σ base _),?_,?_,fun n hn=>Sig.set_other σ _ (by omega)⟩
  ·rw [aget_aset_fun]; exact q1
  ·rw [aget_aset_fun]; exact q2
 ·cases he
def key1 (b:Nat) (η:Nat→Option AObj):Option AVal:=match η b with
 | some (.cells _ (.map m::_))=>match η m with
  | some (.mp [.u32 k,_])=>some (.u32 k)
  | _=>none
 | _=>none
def k121:List AVal→Option EffA
 | [.nilSlice,.fn 83 [.ptr b 0]]=>some (.eff fun base η=>match key1 b η with
  | some k=>some (.slice base 0 1 1,[(base,some (.cells false [k]))])
  | none=>none)
 | _=>none
theorem LR.flat_one {σ:Sig}{a v:AVal}{es:List MapEntry}(h:LR σ [a,v] (flatE es)):∃ e,es=[e]∧VR σ a e.key:=by
 obtain ⟨e,es1,rfl,h1,_,h3⟩:=h.flat_cons
 have:=h3.flat_short (fun a v r h=>by cases h)
 subst this
 exact ⟨e,rfl,h1⟩
theorem k121_ok:CSOk Tryz.prog (csOne 121 k121):=csOne_ok fun args e he=>by
 unfold k121 at he
 split at he
 ·rename_i b
  cases he
  intro σ args' H w base v0 H0 hl hg hH happ hfree
  simp only [EffA.app] at happ
  cases hk:key1 b (aget H) with
  | none=>rw [hk] at happ; cases happ
  | some kk =>
   rw [hk] at happ
   simp only [Option.some.injEq,Prod.mk.injEq,appU] at happ
   obtain ⟨rfl,rfl⟩:=happ
   unfold key1 at hk
   split at hk
   ·rename_i ro m c hb
    split at hk
    ·rename_i k y hm
     cases hk
     obtain ⟨pb,mv,hpb,hc0,vm⟩:=rd_cell hH hb (i:=0) (v:=.map m) rfl
     cases vm with
     | @map _ pm hpm =>
      obtain ⟨pm',hpm',en,clk,hbm,hst,L,hperm,hLR⟩:=hH.obj m _ hm
      rw [hpm] at hpm'; cases hpm'
      obtain ⟨e,rfl,vk⟩:=LR.flat_one hLR
      have hen:en = #[e]:=by
       apply Array.toList_inj.1
       exact (List.perm_singleton.1 hperm.symm)
      subst hen
      obtain ⟨a',b',rfl,v0,v1⟩:=args_two hl
      cases v0
      cases v1 with
      | @fn _ _ cap' hs hcap =>
       obtain ⟨cp,gp,vp⟩:=LR.get (σ:=σ) (l:=[.ptr b 0]) (l':=cap') ⟨hs,hcap⟩ (i:=0) (v:=.ptr b 0) rfl
       cases vp with
       | @ptr _ _ p2 hp2 =>
        rw [hpb] at hp2; cases hp2
        have hcap':cap' = #[.pointer (some ⟨pb.blk,pb.sh+0,none⟩)]:=by
         have hs2:cap'.size=1:=hs.symm
         apply Array.ext (by simpa using hs2)
         intro i hi1 hi2
         rw [Array.getElem?_eq_some_iff] at gp
         obtain ⟨_,gp⟩:=gp
         match i with
         | 0=>exact gp
         | i+1=>omega
        subst hcap'
        have hkey:∃ kk,e.key=.int .u32 kk∧∀ σ',VR σ' (.u32 k) (.int .u32 kk):=by
         generalize e.key=z at vk
         cases vk
         exact ⟨_,rfl,fun σ'=>.u32 k⟩
        obtain ⟨kk,hkk,hvk⟩:=hkey
        have hbm2:w.heap[pm.blk]? = some (.map #[e] clk):=hbm
        refine (walk121 pb.blk (pb.sh+0) pm.blk clk e kk hkk (hst.1 e (by simp)) w hc0 hbm2).mono ?_
        rintro r w' ⟨g,cap,cur,rfl,g2,g3,g4,g5,g6,g7,g8,g9,g10,g11⟩
        have hn:σ base=none:=hfree 0 (by omega)
        obtain ⟨q1,q2⟩:=new_at hH ⟨g8,g7,g9,g10,g11⟩ hn (o:=.cells false [.u32 k]) (p:=⟨g,0,cap,none⟩) g2 ⟨cur,40,(0,0),g3,g5,fun i v hi=>by
         cases i with
         | zero=>simp at hi; subst hi; exact ⟨_,g6,hvk _⟩
         | succ i=>simp at hi,fun _=>.inr (Nat.le_refl _),fun T hT=>by cases hT⟩
        refine ⟨_,_,rfl,VR.slice (p:=⟨g,0,cap,none⟩) (Sig.set_same σ base _) (.inr rfl) g4 (by simp),?_,?_,fun n hn=>Sig.set_other σ _ (by omega)⟩
        ·rw [aget_aset_fun]; exact q1
        ·rw [aget_aset_fun]; exact q2
    ·cases hk
   ·cases hk
 ·cases he
end Go.Proofs.YtlchjbidkdokmaaGreatDoor
namespace Go.Eng
open Go
def rnL (h:AVal→Option AVal):List AVal→Option (List AVal)
 | []=>some []
 | v::l=>match h v,rnL h l with
  | some a,some b=>some (a::b)
  | _,_=>none
def rnV (g:Nat→Option Nat):Nat→AVal→Option AVal
 | 0,v=>cond (ltV 0 v) (some v) none
 | d+1,v=>match v with
  | .ptr n off=>match g n with
   | some m=>some (.ptr m off)
   | none=>none
  | .slice n off len esz=>match g n with
   | some m=>some (.slice m off len esz)
   | none=>none
  | .map n=>match g n with
   | some m=>some (.map m)
   | none=>none
  | .mth f n off=>match g n with
   | some m=>some (.mth f m off)
   | none=>none
  | .fn f c=>match rnL (rnV g d) c with
   | some c=>some (.fn f c)
   | none=>none
  | .agg c=>match rnL (rnV g d) c with
   | some c=>some (.agg c)
   | none=>none
  | .tup c=>match rnL (rnV g d) c with
   | some c=>some (.tup c)
   | none=>none
  | .iface t v=>match rnV g d v with
   | some v=>some (.iface t v)
   | none=>none
  | v=>cond (ltV 0 v) (some v) none
theorem rnL_ok {h:AVal→Option AVal}{ρ:Nat→Nat→Prop}(hh:∀ v v',h v=some v'→RN ρ v v'):∀ {l l':List AVal},rnL h l=some l'→RL ρ l l'
 | [],l',e=>by cases e; exact RL.nil _
 | v::l,l',e=>by
  simp only [rnL] at e
  split at e
  ·rename_i a b h1 h2
   cases e
   exact RL.cons (hh v a h1) (rnL_ok hh h2)
  ·cases e
theorem rnV_ok {g:Nat→Option Nat}{ρ:Nat→Nat→Prop}(hg:∀ n m,g n=some m→ρ n m):∀ (d:Nat) (v v':AVal),rnV g d v=some v'→RN ρ v v'
 | 0,v,v',e=>by
  simp only [rnV] at e
  cases hb:ltV 0 v <;> rw [hb] at e
  ·cases e
  ·cases e
   exact .same hb
 | d+1,v,v',e=>by
  have ih:=rnV_ok hg d
  simp only [rnV] at e
  split at e
  ·split at e
   ·rename_i m hm; cases e; exact .ptr (hg _ _ hm)
   ·cases e
  ·split at e
   ·rename_i m hm; cases e; exact .slice (hg _ _ hm)
   ·cases e
  ·split at e
   ·rename_i m hm; cases e; exact .map (hg _ _ hm)
   ·cases e
  ·split at e
   ·rename_i m hm; cases e; exact .mth (hg _ _ hm)
   ·cases e
  ·split at e
   ·rename_i c hc; cases e; exact .fnL (rnL_ok ih hc)
   ·cases e
  ·split at e
   ·rename_i c hc; cases e; exact .aggL (rnL_ok ih hc)
   ·cases e
  ·split at e
   ·rename_i c hc; cases e; exact .tupL (rnL_ok ih hc)
   ·cases e
  ·split at e
   ·rename_i c hc; cases e; exact .iface (ih _ _ hc)
   ·cases e
  ·cases hb:ltV 0 v <;> rw [hb] at e
   ·cases e
   ·cases e
    exact .same hb
theorem RN.flip {ρ:Nat→Nat→Prop}{v v':AVal}(h:RN ρ v v'):RN (fun a b=>ρ b a) v' v:=by
 induction h with
 | same h=>exact .same h
 | ptr h=>exact .ptr h
 | slice h=>exact .slice h
 | map h=>exact .map h
 | fn hs _ ih=>exact .fn hs.symm fun i v v' h1 h2=>ih i v' v h2 h1
 | iface _ ih=>exact .iface ih
 | agg hs _ ih=>exact .agg hs.symm fun i v v' h1 h2=>ih i v' v h2 h1
 | tup hs _ ih=>exact .tup hs.symm fun i v v' h1 h2=>ih i v' v h2 h1
 | tp h=>exact .tp h
 | mth h=>exact .mth h
theorem RL.flip {ρ:Nat→Nat→Prop}{l l':List AVal}(h:RL ρ l l'):RL (fun a b=>ρ b a) l' l:=⟨h.1.symm,fun i v v' h1 h2=>(h.2 i v' v h2 h1).flip⟩
def nmG:Nat→AVal→List Nat
 | 0,_=>[]
 | d+1,v=>match v with
  | .ptr n _=>[n]
  | .slice n _ _ _=>[n]
  | .map n=>[n]
  | .mth _ n _=>[n]
  | .fn _ c=>c.flatMap (nmG d)
  | .agg c=>c.flatMap (nmG d)
  | .tup c=>c.flatMap (nmG d)
  | .iface _ v=>nmG d v
  | _=>[]
def leadG (η:Nat→Option AObj) (n:Nat):List Nat:=match η n with
 | some (.cells _ c)=>c.flatMap (nmG 4)
 | some (.mp c)=>c.flatMap (nmG 4)
 | none=>[]
def reachG (η:Nat→Option AObj):Nat→List Nat→List Nat
 | 0,a=>a
 | k+1,a=>cond (Nat.beq (addN a (a.flatMap (leadG η))).length a.length) a (reachG η k (addN a (a.flatMap (leadG η))))
def inG (G:Nat) (ns:List Nat) (n:Nat):Option Nat:=cond (Nat.ble (n+1) G) (some n) (match posN n ns 0 with
 | some i=>some (G+i)
 | none=>none)
def outG (G fr base:Nat) (ns ks:List Nat) (k:Nat):Option Nat:=cond (Nat.ble (k+1) G) (some k) (cond (Nat.ble fr k) (match posN k ks 0 with
 | some j=>some (base+j)
 | none=>none) (ns[k - G]?))
theorem inG_ok {G:Nat}{ns:List Nat}{n k:Nat}(h:inG G ns n=some k):ρ0 G ns k n:=by
 unfold inG at h
 cases hb:Nat.ble (n+1) G <;> rw [hb] at h <;> simp only [cond_true,cond_false] at h
 ·split at h
  ·rename_i i hi
   cases h
   exact .inr ⟨i,rfl,posN0 hi⟩
  ·cases h
 ·cases h
  exact .inl ⟨Nat.le_of_ble_eq_true hb,rfl⟩
theorem outG_ok {G fr base:Nat}{ns ks:List Nat}{k n:Nat}(h:outG G fr base ns ks k=some n):ρ1 G ns ks base k n:=by
 unfold outG at h
 cases hb:Nat.ble (k+1) G <;> rw [hb] at h <;> simp only [cond_true,cond_false] at h
 ·have hk:G≤k:=by
   rcases Nat.lt_or_ge k G with h1 | h1
   ·rw [Nat.ble_eq_true_of_le h1] at hb; cases hb
   ·exact h1
  cases hf:Nat.ble fr k <;> rw [hf] at h <;> simp only [cond_true,cond_false] at h
  ·exact .inl (.inr ⟨k - G,by omega,h⟩)
  ·split at h
   ·rename_i j hj
    cases h
    exact .inr ⟨j,posN0 hj,rfl⟩
   ·cases h
 ·cases h
  exact .inl (.inl ⟨Nat.le_of_ble_eq_true hb,rfl⟩)
def rnO (h:AVal→Option AVal):AObj→Option AObj
 | .cells ro c=>match rnL h c with
  | some c'=>some (.cells ro c')
  | none=>none
 | .mp c=>match rnL h c with
  | some c'=>some (.mp c')
  | none=>none
theorem rnO_ok {h:AVal→Option AVal}{ρ:Nat→Nat→Prop}(hh:∀ v v',h v=some v'→RN ρ v v'){o o':AObj}(e:rnO h o=some o'):RO ρ o o':=by
 unfold rnO at e
 split at e
 ·split at e
  ·rename_i c' hc
   cases e
   exact .inl ⟨_,_,_,rfl,rfl,rnL_ok hh hc⟩
  ·cases e
 ·split at e
  ·rename_i c' hc
   cases e
   exact .inr ⟨_,_,rfl,rfl,rnL_ok hh hc⟩
  ·cases e
theorem RO.flip {ρ:Nat→Nat→Prop}{o o':AObj}(h:RO ρ o o'):RO (fun a b=>ρ b a) o' o:=by
 rcases h with ⟨ro,c,c',rfl,rfl,h⟩ | ⟨c,c',rfl,rfl,h⟩
 ·exact .inl ⟨ro,c',c,rfl,rfl,h.flip⟩
 ·exact .inr ⟨c',c,rfl,rfl,h.flip⟩
def blG (G:Nat) (h:AVal→Option AVal) (η:Nat→Option AObj):List Nat→Nat→Option HL
 | [],_=>some []
 | n::l,i=>match η n,blG G h η l (i+1) with
  | some o,some H=>match rnO h o with
   | some o'=>some ((G+i,o')::H)
   | none=>none
  | _,_=>none
theorem blG_ok {G:Nat}{h:AVal→Option AVal}{η:Nat→Option AObj}:∀ {l:List Nat}{i:Nat}{H:HL},blG G h η l i=some H →
  (∀ k o,aget H k=some o→∃ (j n:Nat) (o0:AObj),k=G+(i+j)∧l[j]? = some n∧η n=some o0∧rnO h o0=some o)∧∀ (j n:Nat),l[j]? = some n→∃ o,η n=some o
 | [],i,H,e=>by
  cases e
  exact ⟨(fun k o hk=>by cases hk),(fun j n hj=>by simp at hj)⟩
 | n::l,i,H,e=>by
  simp only [blG] at e
  split at e
  ·rename_i o H1 hn h1
   split at e
   ·rename_i o' ho
    cases e
    obtain ⟨a,b⟩:=blG_ok h1
    refine ⟨fun k o2 hk => ?_,fun j m hj => ?_⟩
    ·simp only [aget] at hk
     rcases beq_cases (G+i) k with ⟨e,hb⟩ | ⟨e,hb⟩ <;> rw [hb] at hk
     ·simp only [cond_true,Option.some.injEq] at hk
      subst hk
      exact ⟨0,n,o,by omega,rfl,hn,ho⟩
     ·simp only [cond_false] at hk
      obtain ⟨j,m,o0,e1,e2,e3,e4⟩:=a k o2 hk
      exact ⟨j+1,m,o0,by omega,by simpa using e2,e3,e4⟩
    ·cases j with
     | zero=>simp at hj; subst hj; exact ⟨o,hn⟩
     | succ j=>exact b j m (by simpa using hj)
   ·cases e
  ·cases e
def bkG (G:Nat) (h:AVal→Option AVal) (Hc H':HL):List Nat→Nat→Option (List (Nat × Option AObj))
 | [],_=>some []
 | n::l,i=>match bkG G h Hc H' l (i+1) with
  | none=>none
  | some us=>match aget Hc (G+i) with
   | some (.cells true _)=>some us
   | _=>match aget H' (G+i) with
    | none=>some ((n,none)::us)
    | some o=>cond o.ro none (match rnO h o with
     | some o'=>some ((n,some o')::us)
     | none=>none)
theorem bkG_ok {G:Nat}{h:AVal→Option AVal}{Hc H':HL}:∀ {l:List Nat}{i:Nat}{us:List (Nat × Option AObj)},bkG G h Hc H' l i=some us →
  (∀ m x,(m,x) ∈ us→∃ j,l[j]? = some m∧(x=none ∨ ∃ o o',x=some o'∧aget H' (G+(i+j))=some o∧o.ro=false∧rnO h o=some o')) ∧
  ∀ j n o,l[j]? = some n→aget Hc (G+(i+j))=some o→o.ro=false→∃ x,(n,x) ∈ us
 | [],i,us,e=>by
  cases e
  exact ⟨(fun m x hm=>by cases hm),(fun j n o hj=>by simp at hj)⟩
 | n::l,i,us,e=>by
  simp only [bkG] at e
  split at e
  ·cases e
  ·rename_i us1 h1
   obtain ⟨a,b⟩:=bkG_ok h1
   have a':∀ m x,(m,x) ∈ us1→∃ j,(n::l)[j]? = some m∧(x=none ∨ ∃ o o',x=some o'∧aget H' (G+(i+j))=some o∧o.ro=false∧rnO h o=some o'):=fun m x hm=>by
    obtain ⟨j,e1,e2⟩:=a m x hm
    exact ⟨j+1,by simpa using e1,by rw [show i+(j+1)=i+1+j by omega]; exact e2⟩
   have b':∀ j m o,(n::l)[j+1]? = some m→aget Hc (G+(i+(j+1)))=some o→o.ro=false→∃ x,(m,x) ∈ us1:=fun j m o e1 e2 e3=>b j m o (by simpa using e1) (by rw [show i+1+j=i+(j+1) by omega]; exact e2) e3
   split at e
   ·rename_i c0 hc0
    cases e
    refine ⟨a',fun j m o e1 e2 e3 => ?_⟩
    cases j with
    | zero =>
     rw [Nat.add_zero,hc0] at e2
     cases e2
     cases e3
    | succ j=>exact b' j m o e1 e2 e3
   ·split at e
    ·rename_i hn
     cases e
     refine ⟨fun m x hm => ?_,fun j m o e1 e2 e3 => ?_⟩
     ·rcases List.mem_cons.1 hm with e | hm
      ·cases e
       exact ⟨0,rfl,.inl rfl⟩
      ·exact a' m x hm
     ·cases j with
      | zero=>simp at e1; subst e1; exact ⟨none,List.mem_cons_self ..⟩
      | succ j =>
       obtain ⟨x,hx⟩:=b' j m o e1 e2 e3
       exact ⟨x,List.mem_cons_of_mem _ hx⟩
    ·rename_i o1 ho1
     cases hro:o1.ro with
     | true=>rw [hro] at e; cases e
     | false =>
      rw [hro,cond_false] at e
      split at e
      ·rename_i o1' hr
       cases e
       refine ⟨fun m x hm => ?_,fun j m o e1 e2 e3 => ?_⟩
       ·rcases List.mem_cons.1 hm with e | hm
        ·cases e
         exact ⟨0,rfl,.inr ⟨o1,o1',rfl,ho1,hro,hr⟩⟩
        ·exact a' m x hm
       ·cases j with
        | zero=>simp at e1; subst e1; exact ⟨_,List.mem_cons_self ..⟩
        | succ j =>
         obtain ⟨x,hx⟩:=b' j m o e1 e2 e3
         exact ⟨x,List.mem_cons_of_mem _ hx⟩
      ·cases e
def nwG (base:Nat) (h:AVal→Option AVal) (H':HL):List Nat→Nat→Option (List (Nat × Option AObj))
 | [],_=>some []
 | k::l,j=>match aget H' k,nwG base h H' l (j+1) with
  | some o,some us=>cond o.ro none (match rnO h o with
   | some o'=>some ((base+j,some o')::us)
   | none=>none)
  | _,_=>none
theorem nwG_ok {base:Nat}{h:AVal→Option AVal}{H':HL}:∀ {l:List Nat}{i:Nat}{us:List (Nat × Option AObj)},nwG base h H' l i=some us →
  ∀ m x,(m,x) ∈ us→∃ j k o o',m=base+(i+j)∧l[j]? = some k∧x=some o'∧aget H' k=some o∧o.ro=false∧rnO h o=some o'
 | [],i,us,e=>by
  cases e
  exact fun m x hm=>by cases hm
 | k::l,i,us,e=>by
  simp only [nwG] at e
  split at e
  ·rename_i o us1 ho h1
   cases hro:o.ro with
   | true=>rw [hro] at e; cases e
   | false =>
    rw [hro,cond_false] at e
    split at e
    ·rename_i o' hr
     cases e
     intro m x hm
     rcases List.mem_cons.1 hm with e | hm
     ·cases e
      exact ⟨0,k,o,o',by omega,rfl,rfl,ho,hro,hr⟩
     ·obtain ⟨j,k',o2,o2',e1,e2,e3,e4,e5,e6⟩:=nwG_ok h1 m x hm
      exact ⟨j+1,k',o2,o2',by omega,by simpa using e2,e3,e4,e5,e6⟩
    ·cases e
  ·cases e
def nsG (G:Nat) (η:Nat→Option AObj) (args:List AVal):List Nat:=(reachG η 8 (addN [] (args.flatMap (nmG 4)))).filter (Nat.ble G)
def ksG (G m:Nat) (H':HL) (v:AVal):List Nat:=(reachG (aget H') 8 (addN [] ((List.range' G m)++nmG 4 v))).filter (Nat.ble (G+m))
def inlGK (P:Program) (cs:CS) (nn F:Nat) (f:FuncId) (args:List AVal) (ns:List Nat) (base:Nat) (η:Nat→Option AObj):Option (AVal × List (Nat × Option AObj)):=
 match cond (nodupB ns) (rnL (rnV (inG P.globals.size ns) 4) args) none with
 | none=>none
 | some cargs=>match blG P.globals.size (rnV (inG P.globals.size ns) 4) η ns 0 with
  | none=>none
  | some Hc=>match run1 P cs nn F f cargs (globA η P.globals.size 0++Hc) (P.globals.size+ns.length) with
   | none=>none
   | some (v0,H',_)=>match rnV (outG P.globals.size (P.globals.size+ns.length) base ns (ksG P.globals.size ns.length H' v0)) 4 v0,
     bkG P.globals.size (rnV (outG P.globals.size (P.globals.size+ns.length) base ns (ksG P.globals.size ns.length H' v0)) 4) (globA η P.globals.size 0++Hc) H' ns 0,
     nwG base (rnV (outG P.globals.size (P.globals.size+ns.length) base ns (ksG P.globals.size ns.length H' v0)) 4) H' (ksG P.globals.size ns.length H' v0) 0 with
    | some v,some us,some vs=>cond (nodupB (ksG P.globals.size ns.length H' v0) && Nat.ble (ksG P.globals.size ns.length H' v0).length 8 && nodupB ((us++vs).map (·.1))) (some (v,us++vs)) none
    | _,_,_=>none
def inlG (P:Program) (cs:CS) (nn F:Nat) (f:FuncId) (args:List AVal):EffA:=.eff fun base η=>inlGK P cs nn F f args (nsG P.globals.size η args) base η
theorem inlGN_ok {P:Program}{cs:CS}(hcs:CSOk P cs) (hm:P.follows .mixedOrders=true){nn F:Nat}{f:FuncId}{args:List AVal}{g:(Nat→Option AObj)→List Nat}(hg:∀ η n,n ∈ g η→P.globals.size≤n):CallOk P f args (.eff fun base η=>inlGK P cs nn F f args (g η) base η):=by
 refine callOk_deep hcs hm fun base η v us hK => ?_
 have hgn:=hg η
 generalize g η=ns at hK hgn
 unfold inlGK at hK
 split at hK
 ·cases hK
 rename_i cargs hc
 cases hnd:nodupB ns with
 | false=>rw [hnd] at hc; cases hc
 | true =>
 rw [hnd,cond_true] at hc
 split at hK
 ·cases hK
 rename_i Hc hH
 split at hK
 ·cases hK
 rename_i v0 H' fr' hr
 generalize hks:ksG P.globals.size ns.length H' v0=ks at hK
 split at hK
 ·rename_i v1 us1 vs1 hv hu hw
  cases hcc:(nodupB ks && Nat.ble ks.length 8 && nodupB ((us1++vs1).map (·.1))) with
  | false=>rw [hcc] at hK; cases hK
  | true =>
   rw [hcc] at hK
   cases hK
   simp only [Bool.and_eq_true] at hcc
   obtain ⟨⟨k1,k2⟩,k3⟩:=hcc
   obtain ⟨b1,b2⟩:=blG_ok hH
   obtain ⟨u1,u2⟩:=bkG_ok hu
   have w1:=nwG_ok hw
   have hin:∀ v v',rnV (inG P.globals.size ns) 4 v=some v'→RN (fun a b=>ρ0 P.globals.size ns b a) v v':=fun v v' h=>rnV_ok (ρ:=fun a b=>ρ0 P.globals.size ns b a) (fun n m hn=>inG_ok hn) 4 v v' h
   have hout:∀ v v',rnV (outG P.globals.size (P.globals.size+ns.length) base ns ks) 4 v=some v'→RN (ρ1 P.globals.size ns ks base) v v':=fun v v' h=>rnV_ok (ρ:=ρ1 P.globals.size ns ks base) (fun n m hn=>outG_ok hn) 4 v v' h
   refine ⟨{ nn:=nn,F:=F,ns:=ns,ks:=ks,cargs:=cargs,Hc:=globA η P.globals.size 0++Hc,fr:=P.globals.size+ns.length,v0:=v0,H':=H',fr':=fr',hns:=nodupB_ok hnd,hη:=fun n hn => ?_,hargs:=(rnL_ok hin hc).flip,hblk:=fun k o hk => ?_,hfr:=Nat.le_refl _,hrun:=hr,hks:=nodupB_ok k1,hks8:=Nat.le_of_ble_eq_true k2,hkfr:=fun k hk => ?_,hv:=hout _ _ hv,hnd:=nodupB_ok k3,hus:=fun m x hm => ?_,hall:=fun i n o hi ho hro => ?_ }⟩
   ·obtain ⟨j,hj⟩:=List.getElem?_of_mem hn
    exact .inl (b2 j n hj)
   ·rcases aget_append hk with h1 | h1
    ·obtain ⟨_,a2,a3,c,rfl,a5⟩:=globA_get k o h1
     exact ⟨k,_,.inl ⟨by omega,rfl⟩,a3,.inl ⟨true,c,c,rfl,rfl,RL.same a5⟩,fun _=>rfl⟩
    ·obtain ⟨j,n,o0,e1,e2,e3,e4⟩:=b1 k o h1
     exact ⟨n,o0,.inr ⟨j,by omega,e2⟩,e3,(rnO_ok hin e4).flip,fun hk=>by omega⟩
   ·rw [← hks] at hk
    unfold ksG at hk
    exact Nat.le_of_ble_eq_true (List.mem_filter.1 hk).2
   ·rcases List.mem_append.1 hm with h1 | h1
    ·obtain ⟨j,e1,e2⟩:=u1 m x h1
     refine .inl ⟨j,e1,?_⟩
     rcases e2 with rfl | ⟨o,o',e3,e4,e5,e6⟩
     ·exact .inl rfl
     ·exact .inr ⟨o,o',e3,by rw [Nat.zero_add] at e4; exact e4,e5,rnO_ok hout e6⟩
    ·obtain ⟨j,k,o,o',e1,e2,e3,e4,e5,e6⟩:=w1 m x h1
     exact .inr ⟨j,k,o,o',by omega,e2,e3,e4,e5,rnO_ok hout e6⟩
   ·obtain ⟨x,hx⟩:=u2 i n o hi (by rw [Nat.zero_add]; exact ho) hro
    exact ⟨x,List.mem_append.2 (.inl hx)⟩
 ·cases hK
theorem inlG_ok {P:Program}{cs:CS}(hcs:CSOk P cs) (hm:P.follows .mixedOrders=true){nn F:Nat}{f:FuncId}{args:List AVal}:CallOk P f args (inlG P cs nn F f args):=
 inlGN_ok hcs hm (g:=fun η=>nsG P.globals.size η args) fun η n hn=>by
  unfold nsG at hn
  exact Nat.le_of_ble_eq_true (List.mem_filter.1 hn).2
def inlGk (P:Program) (cs:CS) (nn F:Nat) (f:FuncId) (args:List AVal) (ks:List Nat):EffA:=
 match ks with
 | []=>inlG P cs nn F f args
 | ks=>.effk ks fun base η=>inlGK P cs nn F f args (nsG P.globals.size η args) base η
theorem inlGk_ok {P:Program}{cs:CS}(hcs:CSOk P cs) (hm:P.follows .mixedOrders=true){nn F:Nat}{f:FuncId}{args:List AVal}{ks:List Nat}:CallOk P f args (inlGk P cs nn F f args ks):=by
 unfold inlGk
 split
 ·exact inlG_ok hcs hm
 ·refine (inlG_ok hcs hm (nn:=nn) (F:=F)).less fun base H r hr => ?_
  obtain ⟨v,H'⟩:=r
  obtain ⟨us,e1,e2,rfl⟩:=effk_app hr
  unfold inlG
  simp only [EffA.app,e1]
def capK (args:List AVal):List Nat:=args.flatMap fun v=>match v with
 | .fn _ c=>c.flatMap (nmG 2)
 | _=>[]
def inlZ (P:Program) (nn:FuncId→Nat) (F:Nat) (pu:FuncId→Bool) (kp:FuncId→List AVal→List Nat) (cs:CS):Nat→CS
 | 0=>cs
 | k+1=>fun f args=>match cs f args with
  | some e=>some e
  | none=>cond (pu f && allV args) (match run1 P (inlZ P nn F pu kp cs k) (nn f) F f args [] P.globals.size with
   | some (v,_,_)=>cond (ltV 0 v) (some (.pure v)) (some (inlG P (inlZ P nn F pu kp cs k) (nn f) F f args))
   | none=>some (inlG P (inlZ P nn F pu kp cs k) (nn f) F f args)) (some (inlGk P (inlZ P nn F pu kp cs k) (nn f) F f args (kp f args)))
theorem inlZ_ok {P:Program}{nn:FuncId→Nat}{F:Nat}{pu:FuncId→Bool}{kp:FuncId→List AVal→List Nat}{cs:CS}(hm:P.follows .mixedOrders=true) (hcs:CSOk P cs):∀ k,CSOk P (inlZ P nn F pu kp cs k)
 | 0=>hcs
 | k+1=>fun f args e he=>by
  have ih:=inlZ_ok hm hcs (nn:=nn) (F:=F) (pu:=pu) (kp:=kp) k
  simp only [inlZ] at he
  split at he
  ·rename_i e1 h1
   cases he
   exact hcs f args _ h1
  ·cases ha:(pu f && allV args) with
   | false =>
    rw [ha,cond_false] at he
    cases he
    exact inlGk_ok ih hm
   | true =>
    rw [ha,cond_true] at he
    rw [Bool.and_eq_true] at ha
    split at he
    ·rename_i v H' fr' hr
     cases hv:ltV 0 v with
     | false =>
      rw [hv,cond_false] at he
      cases he
      exact inlG_ok ih hm
     | true =>
      rw [hv,cond_true] at he
      cases he
      exact callOk_run ih hm hr ha.2 hv
    ·cases he
     exact inlG_ok ih hm
end Go.Eng
namespace Go.Proofs.YtlchjbidkdokmaaGreatDoor
open Go Go.Eng Go.Num Go.Bla Bk
def tb:List (L8 × AVal)→L8→Option EffA
 | [],_=>none
 | (k,v)::l,a=>cond (a == k) (some (.pure v)) (tb l a)
theorem tb_ok {f:FuncId}:∀ (l:List (L8 × AVal)) (a:L8) (e:EffA),(∀ x ∈ l,CallOk Tryz.prog f [.str x.1] (.pure x.2))→tb l a=some e→CallOk Tryz.prog f [.str a] e
 | [],a,e,_,he=>by cases he
 | (k,v)::l,a,e,h,he=>by
  unfold tb at he
  cases hk:a == k with
  | true =>
   rw [hk,cond_true] at he
   cases he
   rw [eq_of_beq hk]
   exact h (k,v) (List.mem_cons_self ..)
  | false =>
   rw [hk,cond_false] at he
   exact tb_ok l a e (fun x hx=>h x (List.mem_cons_of_mem _ hx)) he
theorem and2 {a b c d:L8}(h:(a == c && b == d)=true):a=c∧b=d:=by
 rw [Bool.and_eq_true] at h
 exact ⟨eq_of_beq h.1,eq_of_beq h.2⟩
theorem cond_some {α:Type}{b:Bool}{x y:Option α}{e:α}(h:cond b x y=some e):b=true∧x=some e ∨ b=false∧y=some e:=by
 cases b
 ·exact .inr ⟨rfl,h⟩
 ·exact .inl ⟨rfl,h⟩
def puT:List (L8 × AVal):=[(kyL 114,.tup [.str vPR,.int .i64 0]),(kyL 97,.tup [.str vPA,.int .i64 0]),(kyL 98,.tup [.str vPB,.int .i64 0])]
def t36:List AVal→Option EffA
 | [.str a]=>tb puT a
 | _=>none
theorem pu36 {k v:L8}(h:puV ladE k=v∧puV ladP k=v∧puR k=0):CallOk Tryz.prog 36 [.str k] (.pure (.tup [.str v,.int .i64 0])):=by
 have r:=k36_ok 36 [.str k] (.pure (.tup [.str (puV ladE k),.int .i64 (puR k)])) rfl
 rwa [h.1,h.2.2] at r
theorem pu10 {k v:L8}(h:puV ladE k=v∧puV ladP k=v∧puR k=0):CallOk Tryz.prog 10 [.str k] (.pure (.tup [.str v,.int .i64 0])):=by
 have r:=k10_ok 10 [.str k] (.pure (.tup [.str (puV ladP k),.int .i64 (puR k)])) rfl
 rwa [h.2.1,h.2.2] at r
theorem pR:puV ladE (kyL 114)=vPR∧puV ladP (kyL 114)=vPR∧puR (kyL 114)=0:=pu_lit rfl lPR
theorem pA:puV ladE (kyL 97)=vPA∧puV ladP (kyL 97)=vPA∧puR (kyL 97)=0:=pu_lit rfl lPA
theorem pB:puV ladE (kyL 98)=vPB∧puV ladP (kyL 98)=vPB∧puR (kyL 98)=0:=pu_lit rfl lPB
theorem t36_ok:CSOk Tryz.prog (csOne 36 t36):=csOne_ok fun args e he=>by
 unfold t36 at he
 split at he
 ·refine tb_ok _ _ _ (fun x hx => ?_) he
  simp only [puT,List.mem_cons,List.not_mem_nil,or_false] at hx
  rcases hx with rfl | rfl | rfl
  ·exact pu36 pR
  ·exact pu36 pA
  ·exact pu36 pB
 ·cases he
theorem t10_ok:CSOk Tryz.prog (csOne 10 t36):=csOne_ok fun args e he=>by
 unfold t36 at he
 split at he
 ·refine tb_ok _ _ _ (fun x hx => ?_) he
  simp only [puT,List.mem_cons,List.not_mem_nil,or_false] at hx
  rcases hx with rfl | rfl | rfl
  ·exact pu10 pR
  ·exact pu10 pA
  ·exact pu10 pB
 ·cases he
def t30:List AVal→Option EffA
 | [.str a,.str b]=>cond (a == kyL 114 && b == vPA) (some (.pure (.tup [.str vX1,.int .i64 0]))) (cond (a == kyL 97 && b == vPR) (some (.pure (.tup [.str vX1,.int .i64 0]))) (cond (a == kyL 114 && b == vPB) (some (.pure (.tup [.str vX2,.int .i64 0]))) (cond (a == kyL 98 && b == vPR) (some (.pure (.tup [.str vX2,.int .i64 0]))) none)))
 | _=>none
theorem sh30 {k u v:L8}(h:shV ladE k u=v∧shR ladE k u=0):CallOk Tryz.prog 30 [.str k,.str u] (.pure (.tup [.str v,.int .i64 0])):=by
 have r:=k30_ok 30 [.str k,.str u] (.pure (.tup [.str (shV ladE k u),.int .i64 (shR ladE k u)])) rfl
 rwa [h.1,h.2] at r
theorem t30_ok:CSOk Tryz.prog (csOne 30 t30):=csOne_ok fun args e he=>by
 unfold t30 at he
 split at he
 ·rcases cond_some he with ⟨h,e1⟩ | ⟨_,he⟩
  ·obtain ⟨rfl,rfl⟩:=and2 h
   cases e1
   exact sh30 (sh_lit rfl rfl lRA (by decide))
  rcases cond_some he with ⟨h,e1⟩ | ⟨_,he⟩
  ·obtain ⟨rfl,rfl⟩:=and2 h
   cases e1
   exact sh30 (sh_lit rfl rfl lAR (by decide))
  rcases cond_some he with ⟨h,e1⟩ | ⟨_,he⟩
  ·obtain ⟨rfl,rfl⟩:=and2 h
   cases e1
   exact sh30 (sh_lit rfl rfl lRB (by decide))
  rcases cond_some he with ⟨h,e1⟩ | ⟨_,he⟩
  ·obtain ⟨rfl,rfl⟩:=and2 h
   cases e1
   exact sh30 (sh_lit rfl rfl lBR (by decide))
  ·cases he
 ·cases he
theorem csP_get {f:FuncId}{g:List AVal→Option (EffA × Bool)}(h:CSOk Tryz.prog (csP (psOne f g))){args:List AVal}{e:EffA}(hg:g args=some (e,true)):CallOk Tryz.prog f args e:=by
 refine h f args e ?_
 simp only [csP,psOne,Nat.beq_refl,cond_true,hg]
theorem wF_ok:CSOk Tryz.prog (csP (psOne 91 (q40 wF))):=g40_ok
theorem hm55 {k s v:L8}(hk:Nat.beq k.length 32=true) (hs:gdS s=true) (h:outC (hm wF (fun i=>k.getD i 0) s)=v):CallOk Tryz.prog 55 [.str k,.str s] (tL (some (.str v))):=by
 rw [← h]
 exact csP_get (q94_ok wF_ok) (by show some (_,Nat.beq k.length 32 && gdS s)=_; rw [hk,hs]; rfl)
def t55:List AVal→Option EffA
 | [.str a,.str b]=>cond (a == vX1 && b == vM1) (some (tL (some (.str vD1)))) (cond (a == vX2 && b == vM2) (some (tL (some (.str vD2)))) none)
 | _=>none
theorem t55_ok:CSOk Tryz.prog (csOne 55 t55):=csOne_ok fun args e he=>by
 unfold t55 at he
 split at he
 ·rcases cond_some he with ⟨h,e1⟩ | ⟨_,he⟩
  ·obtain ⟨rfl,rfl⟩:=and2 h
   cases e1
   exact hm55 rfl (by decide) kD1
  rcases cond_some he with ⟨h,e1⟩ | ⟨_,he⟩
  ·obtain ⟨rfl,rfl⟩:=and2 h
   cases e1
   exact hm55 rfl (by decide) kD2
  ·cases he
 ·cases he
def csT0:CS:=csAlt (csOne 55 t55) noCS
theorem csT0_ok:CSOk Tryz.prog csT0:=csAlt_ok t55_ok (noCS_ok _)
def txL (c:UInt8):L8:=List.replicate 15 0++[c]
theorem r31a:(run1 Tryz.prog csT0 (mask 31) 200 31 [.str vX1,.str (txL 97)] H0 5).map (·.1)=some (.str vD1):=by kernel_rfl
theorem r31b:(run1 Tryz.prog csT0 (mask 31) 200 31 [.str vX2,.str (txL 98)] H0 5).map (·.1)=some (.str vD2):=by kernel_rfl
theorem run_get {α β γ:Type}{r:Option (α × β × γ)}{v:α}(h:r.map (·.1)=some v):∃ H fr,r=some (v,H,fr):=by
 cases r with
 | none=>cases h
 | some x =>
  obtain ⟨a,b,c⟩:=x
  cases h
  exact ⟨b,c,rfl⟩
theorem c31 {k t v:L8}(h:(run1 Tryz.prog csT0 (mask 31) 200 31 [.str k,.str t] H0 5).map (·.1)=some (.str v)):CallOk Tryz.prog 31 [.str k,.str t] (tL (some (.str v))):=
 callOk_tL csT0_ok ⟨fun _=>rfl,rfl⟩ fun x hx=>by
  cases hx
  obtain ⟨H',fr',hr⟩:=run_get h
  exact ⟨rfl,200,mask 31,H',fr',hr⟩
def t31:List AVal→Option EffA
 | [.str a,.str b]=>cond (a == vX1 && b == txL 97) (some (tL (some (.str vD1)))) (cond (a == vX2 && b == txL 98) (some (tL (some (.str vD2)))) none)
 | _=>none
theorem t31_ok:CSOk Tryz.prog (csOne 31 t31):=csOne_ok fun args e he=>by
 unfold t31 at he
 split at he
 ·rcases cond_some he with ⟨h,e1⟩ | ⟨_,he⟩
  ·obtain ⟨rfl,rfl⟩:=and2 h
   cases e1
   exact c31 r31a
  rcases cond_some he with ⟨h,e1⟩ | ⟨_,he⟩
  ·obtain ⟨rfl,rfl⟩:=and2 h
   cases e1
   exact c31 r31b
  ·cases he
 ·cases he
def csT:CS:=csAlt (csOne 31 t31) (csAlt (csOne 36 t36) (csAlt (csOne 10 t36) (csAlt (csOne 30 t30) (csAlt (csOne 55 t55) (csAlt (csOne 50 k50) (csAlt (csOne 41 k41) (csAlt (csOne 121 k121) (csOne 199 k100))))))))
theorem csT_ok:CSOk Tryz.prog csT:=csAlt_ok t31_ok (csAlt_ok t36_ok (csAlt_ok t10_ok (csAlt_ok t30_ok (csAlt_ok t55_ok (csAlt_ok k50_ok (csAlt_ok k41_ok (csAlt_ok k121_ok k100_ok)))))))
end Go.Proofs.YtlchjbidkdokmaaGreatDoor
namespace Go.Proofs.YtlchjbidkdokmaaGreatDoor
open Go Go.Eng Go.Num Go.Bla Bk
def puA (f:FuncId):Bool:=!(Nat.beq f 8 || Nat.beq f 31)
def kpA (f:FuncId) (a:List AVal):List Nat:=cond (Nat.beq f 181) [] (capK a)
noncomputable def csA:CS:=inlZ Tryz.prog mask 200 puA kpA csT 12
theorem csA_ok:CSOk Tryz.prog csA:=inlZ_ok hmix csT_ok 12
theorem runAlive:(run1 Tryz.prog csA (mask 7) 200 7 [] H0 5).map (·.1)=some (.bool true):=by kernel_rfl
theorem alive_ok:CallOk Tryz.prog 7 [] (tL (some (.bool true))):=callOk_tL csA_ok ⟨fun _=>rfl,rfl⟩ fun x hx=>by
 cases hx
 obtain ⟨H',fr',hr⟩:=run_get runAlive
 exact ⟨rfl,200,mask 7,H',fr',hr⟩
def c7:List AVal→Option EffA
 | []=>some (tL (some (.bool true)))
 | _=>none
theorem c7_ok:CSOk Tryz.prog (csOne 7 c7):=csOne_ok fun args e he=>by
 unfold c7 at he
 split at he
 ·cases he
  exact alive_ok
 ·cases he
end Go.Proofs.YtlchjbidkdokmaaGreatDoor
namespace Go.Eng
open Go Go.WideShapes Go.ChangeShapes
inductive Kd where
 | bool
 | int (k:IntKind)
 | str
def HasK:Kd→Value→Prop
 | .bool,v => ∃ b,v=.bool b
 | .int k,v => ∃ n,v=.int k n∧(Lit.int k n).wf=true
 | .str,v => ∃ s:ByteArray,v=.string s∧s.size≤maxLen
def KindsP:List Kd→List Value→Prop
 | [],[]=>True
 | k::ks,v::vs=>HasK k v∧KindsP ks vs
 | _,_=>False
theorem KindsP.append:∀ {ks ks':List Kd}{vs vs':List Value},KindsP ks vs→KindsP ks' vs'→KindsP (ks++ks') (vs++vs')
 | [],_,[],_,_,h=>h
 | k::ks,_,v::vs,_,h,h'=>⟨h.1,h.2.append h'⟩
def kindsFs (rec:TypeId→Option (List Kd)) (P:Program):List Field→Nat→Option (List Kd)
 | [],_=>some []
 | f::l,a=>match rec f.type with
  | some ks=>cond (Nat.beq f.offset a && Nat.beq ks.length (P.cellsOf f.type)) (match kindsFs rec P l (a+ks.length) with
   | some r=>some (ks++r)
   | none=>none) none
  | none=>none
def kindsOf (P:Program):Nat→TypeId→Option (List Kd)
 | 0,_=>none
 | n+1,t=>match P.underlying t with
  | some .bool=>some [.bool]
  | some (.int k)=>some [.int k]
  | some .string=>some [.str]
  | some (.struct fs)=>match kindsFs (kindsOf P n) P fs.toList 0 with
   | some ks=>cond (Nat.beq ks.length (P.cellsOf t)) (some ks) none
   | none=>none
  | _=>none
section
variable {H:Type}{enc:TypeId × Value→H}{P:Program}{w:World}{base:Nat}{spare:Nat→Bool}{held:Bool}
theorem kindsFs_ok {rec:TypeId→Option (List Kd)}{m:Nat}{cs:List Value}(hr:∀ t ks cs' x,rec t=some ks→DataW.trod enc P w base spare held m t cs'=some x→KindsP ks cs') :
  ∀ (l:List Field) (a:Nat) (ks:List Kd),kindsFs rec P l a=some ks→a+ks.length≤cs.length→(∀ f ∈ l,∃ x,DataW.trod enc P w base spare held m f.type ((cs.drop f.offset).take (P.cellsOf f.type))=some x)→KindsP ks ((cs.drop a).take ks.length)
 | [],a,ks,h,_,_=>by
  cases h
  rw [List.length_nil,List.take_zero]; trivial
 | f::l,a,ks,h,hle,hx=>by
  unfold kindsFs at h
  split at h
  ·rename_i k1 hk1
   cases hc:(Nat.beq f.offset a && Nat.beq k1.length (P.cellsOf f.type)) with
   | false=>rw [hc] at h; cases h
   | true =>
    rw [hc,cond_true] at h
    simp only [Bool.and_eq_true] at hc
    have e1:=Nat.eq_of_beq_eq_true hc.1
    have e2:=Nat.eq_of_beq_eq_true hc.2
    split at h
    ·rename_i r hr2
     cases h
     obtain ⟨x,hx1⟩:=hx f (List.mem_cons_self ..)
     have h1:=hr _ _ _ _ hk1 hx1
     rw [e1,← e2] at h1
     rw [List.length_append] at hle
     have h2:=kindsFs_ok hr l (a+k1.length) r hr2 (by omega) (fun g hg=>hx g (List.mem_cons_of_mem _ hg))
     have:=h1.append h2
     rw [List.length_append,List.take_add]
     rw [List.drop_drop]
     exact this
    ·cases h
  ·cases h
theorem kindsOf_ok:∀ (n:Nat) (t:TypeId) (ks:List Kd),kindsOf P n t=some ks→∀ (m:Nat) (cs:List Value) (x:DataW H × List MemPlace),DataW.trod enc P w base spare held m t cs=some x→KindsP ks cs
 | 0,_,_,h,_,_,_,_=>by cases h
 | n+1,t,ks,h,m,cs,x,hx=>by
  unfold kindsOf at h
  split at h
  ·rename_i ht
   cases h
   obtain ⟨b,rfl,_⟩:=DataW.trod_bool ht hx
   exact ⟨⟨b,rfl⟩,trivial⟩
  ·rename_i k ht
   cases h
   obtain ⟨z,rfl,_,hz⟩:=DataW.trod_int ht hx
   exact ⟨⟨z,rfl,hz⟩,trivial⟩
  ·rename_i ht
   cases h
   obtain ⟨s,rfl,_,hs⟩:=DataW.trod_string ht hx
   exact ⟨⟨s,rfl,hs⟩,trivial⟩
  ·rename_i fs ht
   split at h
   ·rename_i ks' hk
    cases hc:Nat.beq ks'.length (P.cellsOf t) with
    | false=>rw [hc] at h; cases h
    | true =>
     rw [hc] at h
     cases h
     have e:=Nat.eq_of_beq_eq_true hc
     obtain ⟨xs,m',rfl,_,hl,hxl,hf⟩:=DataW.trod_struct ht hx
     have:=kindsFs_ok (cs:=cs) (m:=m') (fun t ks cs' x h1 h2=>kindsOf_ok n t ks h1 m' cs' x h2) fs.toList 0 _ hk (by omega) (fun f hmem=>by
      obtain ⟨i,hi⟩:=List.getElem?_of_mem hmem
      have hi2:fs[i]? = some f:=by simpa using hi
      have:=hf i f hi2
      have hlt:i < xs.length:=by rw [hxl]; exact (Array.getElem?_eq_some_iff.1 hi2).1
      exact ⟨xs[i],by rw [this]; simp [hlt]⟩)
     rw [List.drop_zero,e,← hl,List.take_length] at this
     exact this
   ·cases h
  ·cases h
end
def Still (W w':World):Prop:=∀ b,b < W.heap.size→w'.heap[b]? = W.heap[b]?
theorem hrel_ro {σ:Sig}{H:Heap}{w:World}(h:∀ n o,H n=some o→o.ro=true∧∃ p,σ n=some p∧ORel σ w p o):HRel σ H w:=
 ⟨fun n o hn=>(h n o hn).2,fun n m o o' p q hn hm _ _ _=>.inr ⟨(h n o hn).1,(h m o' hm).1⟩⟩
theorem law_calls_H {P:Program}{cs:CS}(hcs:CSOk P cs) (hm:P.follows .mixedOrders=true){nn F:Nat}{f:FuncId}{args:List AVal}{H:HL}{fr:Nat}(h:(run1 P cs nn F f args H fr).map (·.1)=some (.bool true))
  {σ:Sig} {args':Array Value} {w:World} (hro:∀ n o,aget H n=some o→o.ro=true∧∃ p,σ n=some p∧ORel σ w p o) (hg:GRel P σ) (hfr:Fresh σ fr) (hl:LR σ args args') :
  Calls P f args' w fun r w'=>r=.returned (.bool true)∧Grew w w'∧Still w w':=by
 obtain ⟨r,hr,hrv⟩:=optMap h
 obtain ⟨v,H',fr'⟩:=r
 obtain ⟨fn,c,hf,hb,hrun⟩:=run1_some hr
 refine (runF_ok hcs hm hf hb hrun hl (hrel_ro hro) hg hfr).mono fun r w' ⟨σ',v',h1,h2,_,h4,_⟩ => ?_
 have hv:v=.bool true:=hrv
 subst hv
 cases h2
 have hs:Still w w':=fun b hb=>(h4.old b hb (by
  rintro ⟨n,o,p,g1,g2,_⟩
  rw [(hro n o g1).1] at g2
  cases g2)).1
 exact ⟨h1,grew_of h4.os h4.output h4.size hs,hs⟩
theorem args_stay {H:Type}{enc:TypeId × Value→H}{P:Program}(hl:laidOutB P=true){W W':World}(hs:Still W W') :
  ∀ {ts:List TypeId} {vs:List Value} {ds:List (DataW H)} {ps:List MemPlace},(ts.all fun t=>P.readableRec t && decide (t < P.types.size))=true→DataW.TrodAll enc P W 0 (fun _=>true) true ts vs ds ps→(∀ p ∈ ps,p.block < W.heap.size) →
  ∀ sp:Nat→Bool,(∀ p ∈ ps,sp p.block=true)→DataW.TrodAll enc P W' 0 sp true ts vs ds ps
 | [],[],[],_,_,h,_,_,_=>h
 | t::ts,v::vs,d::ds,ps,ht,⟨p,q,h1,h2,e⟩,hlt,sp,hsp=>by
  simp only [List.all_cons,Bool.and_eq_true,decide_eq_true_eq] at ht
  subst e
  have same:∀ x:MemPlace,x.block < W.heap.size→W.sameAt W' x:=fun x hx=>by
   cases x with
   | cell b off =>
    show W'.cell? _=W.cell? _
    unfold World.cell?
    rw [show W'.heap[(⟨b,off,none⟩:Addr).block]? = W.heap[b]? from hs b hx]
   | map b=>exact hs b hx
  exact ⟨p,q,Go.WideElems.Trod_stays hl ht.1.1 ht.1.2 h1 (fun x hx=>same x (hlt x (List.mem_append_left _ hx))) (fun x hx=>hsp x (List.mem_append_left _ hx)),
   args_stay hl hs (by simpa using ht.2) h2 (fun x hx=>hlt x (List.mem_append_right _ hx)) sp (fun x hx=>hsp x (List.mem_append_right _ hx)),rfl⟩
end Go.Eng
namespace Go.Eng
open Go
theorem table_u8n {H:Type}{enc:TypeId × Value→H}{P:Program}{W:World}{n:String}{g:Nat}{t e e2:TypeId}{cs:Array Value}{k k2:Nat}{L:List (List UInt8)}{base:Nat}{spare:Nat→Bool}{held:Bool}{fuel:Nat}{x:DataW H × List MemPlace}
  (hg:P.globalNamed n=some g) (hv:W.var? P n=some cs) (ht:P.underlying t=some (.array k e)) (he:P.underlying e=some (.array k2 e2)) (he2:P.underlying e2=some (.int .u8)) (hc:P.cellsOf e=k2) (hc2:P.cellsOf e2=1) (hk2:0 < k2)
  (hL:∀ r,r ∈ L→r.length=k2)
  (hd:DataW.trod enc P W base spare held fuel t cs.toList=some x) (hx:x.1=.agg (L.map fun r=>.agg (r.map fun y=>.lit (.int .u8 (y.toNat:Int))))) (σ:Sig):ORel σ W ⟨g,0,cs.size,none⟩ (.cells true (L.flatten.map .u8)):=by
 have hb:∃ t' fz,W.heap[g]? = some (.cells cs t' fz):=by
  simp only [World.var?,hg,Option.bind_some] at hv
  split at hv
  ·rename_i hh
   simp only [Option.some.injEq] at hv
   subst hv
   exact ⟨_,_,hh⟩
  ·cases hv
 obtain ⟨t',fz,hb⟩:=hb
 refine ⟨cs,t',fz,hb,rfl,fun i v hi => ?_,(fun h=>by cases h),fun T h=>by cases h⟩
 obtain ⟨xs,m,rfl,hx1,hlen,hn,hel⟩:=DataW.trod_array ht hd
 rw [hx1] at hx
 simp only [DataW.agg.injEq] at hx
 rw [List.getElem?_map] at hi
 cases hl:L.flatten[i]? with
 | none=>rw [hl] at hi; cases hi
 | some y =>
  rw [hl] at hi
  simp only [Option.map_some,Option.some.injEq] at hi
  subst hi
  have hxl:xs.length=L.length:=by
   have:=congrArg List.length hx
   simpa using this
  have hfl:L.flatten.length=L.length * k2:=by
   clear hx hl hxl
   induction L with
   | nil=>simp
   | cons r L ih =>
    rw [List.flatten_cons,List.length_append,hL r (List.mem_cons_self ..),ih (fun r hr=>hL r (List.mem_cons_of_mem _ hr)),List.length_cons,Nat.succ_mul]
    omega
  have hil:i < L.length * k2:=by
   have:=(List.getElem?_eq_some_iff.1 hl).1
   omega
  have ha:i / k2 < L.length:=by rw [Nat.div_lt_iff_lt_mul hk2]; exact hil
  have hbb:i % k2 < k2:=Nat.mod_lt _ hk2
  have hir:i / k2 * k2+i % k2=i:=by rw [Nat.mul_comm]; exact Nat.div_add_mod i k2
  obtain ⟨r,hr⟩:∃ r,L[i / k2]? = some r:=⟨_,List.getElem?_eq_getElem ha⟩
  have hrl:=hL r (List.mem_of_getElem? hr)
  have hry:r[i % k2]? = some y:=by
   have key:∀ (L:List (List UInt8)) (a b:Nat) (r:List UInt8),(∀ r,r ∈ L→r.length=k2)→L[a]? = some r→b < k2→L.flatten[a * k2+b]? = r[b]?:=by
    intro L
    induction L with
    | nil=>intro a b r _ h _; simp at h
    | cons q L ih =>
     intro a b r hq h hb
     rw [List.flatten_cons]
     cases a with
     | zero =>
      simp only [List.getElem?_cons_zero,Option.some.injEq] at h
      subst h
      rw [Nat.zero_mul,Nat.zero_add,List.getElem?_append_left (by rw [hq _ (List.mem_cons_self ..)]; exact hb)]
     | succ a =>
      rw [List.getElem?_cons_succ] at h
      have hql:=hq q (List.mem_cons_self ..)
      rw [List.getElem?_append_right (by rw [hql,Nat.succ_mul]; omega),hql,← ih a b r (fun r hr=>hq r (List.mem_cons_of_mem _ hr)) h hb]
      congr 1
      rw [Nat.succ_mul]; omega
   have:=key L (i / k2) (i % k2) r hL hr hbb
   rw [hir,hl] at this
   exact this.symm
  have hxi:(xs.map (·.1))[i / k2]? = some (.agg (r.map fun y=>.lit (.int .u8 (y.toNat:Int)))):=by rw [hx,List.getElem?_map,hr]; rfl
  rw [List.getElem?_map] at hxi
  cases hxs:xs[i / k2]? with
  | none=>rw [hxs] at hxi; cases hxi
  | some z =>
   rw [hxs] at hxi
   simp only [Option.map_some,Option.some.injEq] at hxi
   have h1:=hel (i / k2) (by omega)
   rw [hxs,hc] at h1
   obtain ⟨ys,m2,rfl,hy1,_,hyn,hel2⟩:=DataW.trod_array he h1
   rw [hy1] at hxi
   simp only [DataW.agg.injEq] at hxi
   have hyi:(ys.map (·.1))[i % k2]? = some (.lit (.int .u8 (y.toNat:Int))):=by rw [hxi,List.getElem?_map,hry]; rfl
   rw [List.getElem?_map] at hyi
   cases hys:ys[i % k2]? with
   | none=>rw [hys] at hyi; cases hyi
   | some w =>
    rw [hys] at hyi
    simp only [Option.map_some,Option.some.injEq] at hyi
    have h2:=hel2 (i % k2) hbb
    rw [hys,hc2,Nat.mul_one] at h2
    obtain ⟨q,e1,e3,_⟩:=DataW.trod_int he2 h2
    rw [e3] at hyi
    simp only [DataW.lit.injEq,Lit.int.injEq,true_and] at hyi
    have h3:cs.toList[i]? = some (.int .u8 q):=by
     have:(List.take 1 (((cs.toList.drop (i / k2 * k2)).take k2).drop (i % k2)))[0]? = some (.int .u8 q):=by rw [e1]; rfl
     rw [List.getElem?_take_of_lt (by omega),List.getElem?_drop,Nat.add_zero,List.getElem?_take_of_lt hbb,List.getElem?_drop,hir] at this
     exact this
    refine ⟨.int .u8 q,by rw [Nat.zero_add]; simpa using h3,?_⟩
    rw [hyi]
    exact .u8 y
end Go.Eng
namespace Go.Proofs.YtlchjbidkdokmaaGreatDoor
open Go Go.Eng Go.ChangeShapes Go.WideShapes Go.ChangeAt Go.RowKit Go.Bla Bk
set_option maxRecDepth 1000000
def ordB:List (List UInt8):=ordL.map fun r=>r.map UInt8.ofNat
def laid1 : List (String × DataW Unit) := [("math/bits.deBruijn32tab", Rows.laid_math_bits_deBruijn32tab), ("math/bits.deBruijn64tab", Rows.laid_math_bits_deBruijn64tab), ("internal/strconv.uint64pow10", Rows.laid_internal_strconv_uint64pow10), ("isthmus/blake.orders", Rows.laid_isthmus_blake_orders)]
theorem gTab : Tryz.prog.globalNamed "isthmus/blake.orders" = some 0 := by kernel_rfl
theorem door_met (os:Os) (args:Array Value):laidMetH Tryz.prog laid1 ((World.doorLaid Tryz.prog 400 os).forCall (fun _ _=>0) ⟨#[],args,[]⟩).memory:=
 laidMetH_of_parts3 (fuel:=8) (laidMet_of_run' 8 (by kernel_rfl) (by kernel_rfl)) (by kernel_rfl) (by kernel_rfl)
theorem tabD {H:Type}:(Rows.laid_isthmus_blake_orders:DataW H)=.agg (ordB.map fun r=>.agg (r.map fun y=>.lit (.int .u8 (y.toNat:Int)))):=by kernel_rfl
theorem tabA:ordC=ordB.flatten.map .u8:=by kernel_rfl
theorem tTab:(Tryz.prog.globals[0]?).map (·.type)=some 254:=by kernel_rfl
theorem uTab:Tryz.prog.underlying 254=some (.array 10 253):=by kernel_rfl
theorem uRow:Tryz.prog.underlying 253=some (.array 16 5):=by kernel_rfl
theorem uEl:Tryz.prog.underlying 5=some (.int .u8):=by kernel_rfl
theorem rowsB:∀ r,r ∈ ordB→r.length=16:=by decide
theorem of_laid {W:World}(h:laidMetH Tryz.prog laid1 W):∃ n,∀ σ,ORel σ W ⟨0,0,n,none⟩ (.cells true ordC):=by
 rw [MakeChecks.laidMetH_plain _ _ _ (by kernel_rfl)] at h
 obtain ⟨ps,⟨g2,t2,cs2,f2,p2,q2,hg2,ht2,hv2,hd2,r1,_⟩,_,_⟩:=h
 obtain ⟨g3,t3,cs3,f3,p3,q3,hg3,ht3,hv3,hd3,r2,_⟩:=r1
 obtain ⟨g1,t1,cs1,f1,p1,q1,hg1,ht1,hv1,hd1,r3,_⟩:=r2
 obtain ⟨g0,t0,cs0,f0,p0,q0,hg0,ht0,hv0,hd0,_⟩:=r3
 obtain rfl:=Option.some.inj (gTab.symm.trans hg0)
 obtain rfl:=Option.some.inj (tTab.symm.trans ht0)
 refine ⟨cs0.size,fun σ => ?_⟩
 rw [tabA]
 exact table_u8n hg0 hv0 uTab uRow uEl (by kernel_rfl) (by kernel_rfl) (by decide) rowsB hd0 tabD σ
def sigT (n:Nat):Sig:=fun g=>if g=0 then some ⟨0,0,n,none⟩ else if g < 5 then some ⟨g,0,0,none⟩ else none
theorem sigT_g (n:Nat):GRel Tryz.prog (sigT n):=fun g hg=>by
 have e1:Tryz.prog.globals.size=5:=gl1
 unfold sigT
 by_cases h:g=0
 ·subst h
  exact ⟨n,rfl⟩
 ·rw [if_neg h,if_pos (by omega)]
  exact ⟨0,rfl⟩
theorem sigT_fresh (n:Nat):Fresh (sigT n) 5:=fun k hk=>by
 unfold sigT
 rw [if_neg (by omega),if_neg (by omega)]
theorem law_calls_TS {cs:CS}(hcs:CSOk Tryz.prog cs){f:FuncId}{args:List AVal}(h:∃ nn F,(run1 Tryz.prog cs nn F f args H0 5).map (·.1)=some (.bool true)){args':Array Value}{W:World}(hL:laidMetH Tryz.prog laid1 W) (hl:∀ σ,LR σ args args') :
  Calls Tryz.prog f args' W fun r w'=>r=.returned (.bool true)∧Grew W w'∧Still W w':=by
 obtain ⟨nn,F,h⟩:=h
 obtain ⟨n,ho⟩:=of_laid hL
 refine law_calls_H hcs hmix h (σ:=sigT n) (fun k o hk => ?_) (sigT_g n) (sigT_fresh n) (hl _)
 unfold H0 at hk
 rcases beq_cases 0 k with ⟨e,hb⟩ | ⟨e,hb⟩
 ·simp only [aget,hb,cond_true,Option.some.injEq] at hk
  subst hk
  subst e
  exact ⟨rfl,_,rfl,ho _⟩
 ·simp only [aget,hb,cond_false] at hk
  cases hk
end Go.Proofs.YtlchjbidkdokmaaGreatDoor
namespace Go.Proofs.YtlchjbidkdokmaaGreatDoor
open Go Go.Eng Go.Num Go.Bla Bk
noncomputable def csN:CS:=csAlt (csOne 7 c7) (inlZ Tryz.prog mask 200 (fun _=>true) (fun _ a=>capK a) noCS 8)
theorem csN_ok:CSOk Tryz.prog csN:=csAlt_ok c7_ok (inlZ_ok hmix (noCS_ok _) 8)
theorem n6a (x:UInt32) (s:L8):ansO (run1O Tryz.prog noPS csN [12] [true] [] (mask 6) 200 6 [.u32 x,.str s] H0 5)=some (.bool true,[decide ((4096:Int) < (s.length:Int))]):=by kernel_rfl
theorem n6b (x:UInt32) (s:L8):ansO (run1O Tryz.prog noPS csN [12] [false] [] (mask 6) 200 6 [.u32 x,.str s] H0 5)=some (.bool true,[!(decide ((4096:Int) < (s.length:Int)))]):=by kernel_rfl
theorem law6 (x:UInt32) (s:L8):(run1 Tryz.prog csN (mask 6) 200 6 [.u32 x,.str s] H0 5).map (·.1)=some (.bool true):=by
 cases h:decide ((4096:Int) < (s.length:Int)) with
 | true=>exact ansO_run (noPS_ok _) (n6a x s) (by rw [h]; rfl)
 | false=>exact ansO_run (noPS_ok _) (n6b x s) (by rw [h]; rfl)
end Go.Proofs.YtlchjbidkdokmaaGreatDoor
