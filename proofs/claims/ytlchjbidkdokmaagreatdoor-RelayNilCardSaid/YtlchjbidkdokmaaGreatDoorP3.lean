/- Texts Eng8, Eng9, Eng10, Eng11, Eng12, Eng13, Eng14: what they show that this claim uses. -/
import Derived.Test.YtlchjbidkdokmaaGreatDoorP2
import Derived.Laws.Externs
import Derived.Orders
import Derived.Still
set_option maxRecDepth 100000
set_option maxHeartbeats 1000000
set_option linter.unusedVariables false
set_option linter.unusedSimpArgs false
namespace Go.Eng
open Go
def isOther:AVal→Bool
 | .bool _=>true
 | .nilPtr=>true
 | .ptr _ _=>true
 | .nilSlice=>true
 | .slice _ _ _ _=>true
 | .nilMap=>true
 | .map _=>true
 | .nilFunc=>true
 | .fn _ _=>true
 | .iface _ _=>true
 | .agg _=>true
 | _=>false
def isAgg2:AVal→Bool
 | .agg _=>true
 | _=>false
def eqB (P:Program) (t:TypeId) (x y:AVal):Option Bool:=
 cond (isOther x) (cond (isAgg2 x && P.eqGuardType P.depth t) none (eqIn P Op.maxDepth t x y)) none
def binA (P:Program) (op:BinOp) (t:TypeId) (x y:AVal):Option AVal:=
 match op with
 | .shl=>shlA x y
 | .shr=>shrA x y
 | op=>match x,y with
  | .u8 a,.u8 b=>bin_u8 op a b
  | .u32 a,.u32 b=>bin_u32 op a b
  | .u64 a,.u64 b=>bin_u64 op a b
  | .int k a,.int k' b=>cond (decide (k=k')) (bin_i op k a b) none
  | .str a,.str b=>bin_s op a b
  | x,y=>match op with
   | .eql=>match eqB P t x y with
    | some r=>some (.bool r)
    | none=>none
   | .neq=>match eqB P t x y with
    | some r=>some (.bool !r)
    | none=>none
   | _=>none
theorem binOp_other {op:BinOp}(hop:op=.eql ∨ op=.neq){t:TypeId}{σ:Sig}{x:AVal}{x':Value}(hx:VR σ x x') (h:isOther x=true) (y':Value) :
  binOp op t x' y'=(do let r ← Op.equal t x' y'; pure (.bool (if op=.eql then r else !r))):=by
 rcases hop with rfl | rfl <;> cases hx <;> first | (cases h; done) | (cases y' <;> rfl)
theorem eqGuard_other {P:Program}{op:BinOp}{t:TypeId}{xo yo:Operand}{σ:Sig}{x:AVal}{x':Value}(hx:VR σ x x') (h:isOther x=true) (hg:(isAgg2 x && P.eqGuardType P.depth t)=false) (y':Value) (w:World) :
  (eqGuard op t xo yo x' y').run P w=.ok () w:=by
 by_cases hop:(op matches .eql | .neq)=true
 ·cases hx <;> first | (cases h; done) | skip
  case agg cs cs' hs hc =>
   simp only [isAgg2,Bool.true_and] at hg
   cases y' <;> first | (exact run_eqGuard_agg w op t xo yo _ _ hg) | (cases op <;> first | rfl | simp at hop)
  all_goals (cases y' <;> cases op <;> first | rfl | simp at hop)
 ·cases op <;> first | rfl | simp at hop
theorem eqGuard_num {P:Program}{op:BinOp}{t:TypeId}{xo yo:Operand}{σ:Sig}{x:AVal}{x' y':Value}(hx:VR σ x x') (h:isOther x=false) (h2:x ≠ .nilIface) (w:World) :
  (eqGuard op t xo yo x' y').run P w=.ok () w:=by
 cases hx <;> first | (cases h; done) | (exact absurd rfl h2) | skip
 all_goals (cases op <;> rfl)
theorem binA_ok {P:Program}{op:BinOp}{t:TypeId}{xo yo:Operand}{x y v:AVal}(h:binA P op t x y=some v){σ:Sig}{x' y':Value}(hx:VR σ x x') (hy:VR σ y y') :
  OkV P σ v (do eqGuard op t xo yo x' y'; binOp op t x' y'):=by
 have shift:∀ {s:Sem Value},(op=.shl ∨ op=.shr)→OkV P σ v s→OkV P σ v (do eqGuard op t xo yo x' y'; s):=fun {s} hop hs w=>by
  obtain ⟨v',h1,h2⟩:=hs w
  refine ⟨v',?_,h2⟩
  have:(eqGuard op t xo yo x' y').run P w=.ok () w:=by rcases hop with rfl | rfl <;> rfl
  simp only [Sem.run_bind,this,Result.andThen_ok,h1]
 have num:∀ {s:Sem Value},isOther x=false→x ≠ .nilIface→OkV P σ v s→OkV P σ v (do eqGuard op t xo yo x' y'; s):=fun {s} h1 h2 hs w=>by
  obtain ⟨v',g1,g2⟩:=hs w
  refine ⟨v',?_,g2⟩
  simp only [Sem.run_bind,eqGuard_num hx h1 h2 w,Result.andThen_ok,g1]
 unfold binA at h
 split at h
 ·exact shift (.inl rfl) (shlA_ok h hx hy)
 ·exact shift (.inr rfl) (shrA_ok h hx hy)
 ·rename_i hn1 hn2
  split at h
  ·refine num rfl (by simp) ?_
   cases hx; cases hy; exact bin_u8_ok h σ
  ·refine num rfl (by simp) ?_
   cases hx; cases hy; exact bin_u32_ok h σ
  ·refine num rfl (by simp) ?_
   cases hx; cases hy; exact bin_u64_ok h σ
  ·rename_i k a k' b
   refine num rfl (by simp) ?_
   by_cases hk:k=k'
   ·subst hk
    simp only [decide_true,cond_true] at h
    cases hx; cases hy; exact bin_i_ok h σ
   ·simp [hk] at h
  ·refine num rfl (by simp) ?_
   cases hx; cases hy; exact bin_s_ok h σ
  ·have eqCase:∀ r,eqB P t x y=some r→isOther x=true∧(isAgg2 x && P.eqGuardType P.depth t)=false∧∀ w,(Op.equal t x' y').run P w=.ok r w:=fun r hr=>by
    unfold eqB at hr
    cases ho:isOther x <;> rw [ho] at hr <;> simp only [cond_true,cond_false] at hr
    ·cases hr
    ·cases hg:(isAgg2 x && P.eqGuardType P.depth t) <;> rw [hg] at hr <;> simp only [cond_true,cond_false] at hr
     ·exact ⟨rfl,rfl,fun w=>eqIn_ok P _ t x y r hr σ x' y' hx hy w⟩
     ·cases hr
   split at h
   ·split at h
    ·rename_i r hr
     cases h
     obtain ⟨h1,h2,h3⟩:=eqCase r hr
     refine .mk (v':=.bool r) (fun w => ?_) (.bool r)
     rw [binOp_other (.inl rfl) hx h1]
     simp only [Sem.run_bind,eqGuard_other hx h1 h2,Result.andThen_ok,h3,Sem.run_pure,if_true]
    ·cases h
   ·split at h
    ·rename_i r hr
     cases h
     obtain ⟨h1,h2,h3⟩:=eqCase r hr
     refine .mk (v':=.bool !r) (fun w => ?_) (.bool _)
     rw [binOp_other (.inr rfl) hx h1]
     simp only [Sem.run_bind,eqGuard_other hx h1 h2,Result.andThen_ok,h3,Sem.run_pure]
     rfl
    ·cases h
   ·cases h
def evL (ρ:Operand→Option AVal):List Operand→Option (List AVal)
 | []=>some []
 | x::l=>match ρ x,evL ρ l with
  | some v,some vs=>some (v::vs)
  | _,_=>none
def evP (ρ:Operand→Option AVal):List (Nat × Operand)→Option (List (Nat × AVal))
 | []=>some []
 | (i,x)::l=>match ρ x,evP ρ l with
  | some v,some vs=>some ((i,v)::vs)
  | _,_=>none
def evO (ρ:Operand→Option AVal):Option Operand→Option (Option AVal)
 | none=>some none
 | some x=>match ρ x with
  | some v=>some (some v)
  | none=>none
def Env (σ:Sig) (ρ:Operand→Option AVal) (ρ':Operand→Value):Prop:=∀ x v,ρ x=some v→VR σ v (ρ' x)
theorem evL_ok {σ:Sig}{ρ:Operand→Option AVal}{ρ':Operand→Value}(hρ:Env σ ρ ρ'):∀ {l:List Operand}{vs:List AVal},evL ρ l=some vs→LR σ vs (l.map ρ').toArray:=by
 intro l
 induction l with
 | nil=>intro vs h; simp only [evL,Option.some.injEq] at h; subst h; exact LR.nil σ
 | cons x l ih =>
  intro vs h
  simp only [evL] at h
  split at h
  ·rename_i v vs' h1 h2
   cases h
   exact LR.cons (hρ x v h1) (ih h2)
  ·cases h
theorem evP_ok {σ:Sig}{ρ:Operand→Option AVal}{ρ':Operand→Value}(hρ:Env σ ρ ρ'):∀ {l:List (Nat × Operand)}{vs:List (Nat × AVal)},evP ρ l=some vs→PairsVR σ vs (l.map fun (i,x)=>(i,ρ' x)):=by
 intro l
 induction l with
 | nil=>intro vs h; simp only [evP,Option.some.injEq] at h; subst h; trivial
 | cons x l ih =>
  intro vs h
  obtain ⟨i,x⟩:=x
  simp only [evP] at h
  split at h
  ·rename_i v vs' h1 h2
   cases h
   exact ⟨rfl,hρ x v h1,ih h2⟩
  ·cases h
theorem evO_ok {σ:Sig}{ρ:Operand→Option AVal}{ρ':Operand→Value}(hρ:Env σ ρ ρ'){x:Option Operand}{v:Option AVal}(h:evO ρ x=some v):OptVR σ v (x.map ρ'):=by
 cases x with
 | none=>simp only [evO,Option.some.injEq] at h; subst h; trivial
 | some x =>
  simp only [evO] at h
  split at h
  ·rename_i u h1; cases h; exact hρ x u h1
  ·cases h
def lenA (P:Program) (t:TypeId) (x:AVal):Option AVal:=
 match P.underlying t with
 | some .string=>match x with
  | .str l=>some (.int .i64 l.length)
  | _=>none
 | some (.array n _)=>some (.int .i64 n)
 | some (.slice _)=>match x with
  | .nilSlice=>some (.int .i64 0)
  | .slice _ _ n _=>some (.int .i64 n)
  | _=>none
 | some (.pointer arr)=>match P.underlying arr with
  | some (.array n _)=>some (.int .i64 n)
  | _=>none
 | some (.map _ _)=>match x with
  | .nilMap=>some (.int .i64 0)
  | _=>none
 | _=>none
theorem lenA_ok {P:Program}{t:TypeId}{x v:AVal}(h:lenA P t x=some v){σ:Sig}{x':Value}(hx:VR σ x x') (ts:Array TypeId) (ht:ts[0]? = some t) (ty:TypeId):OkV P σ v (Builtin.len_ ts ty #[x']):=by
 unfold lenA at h
 have h0:(#[x']:Array Value)[0]? = some x':=rfl
 split at h
 ·rename_i hu
  split at h <;> cases h
  cases hx
  refine .mk (v':=.int .i64 _) (fun w => ?_) (.int _ _)
  simp only [Builtin.len_,ht,h0,Sem.run_bind,run_underlying hu,Result.andThen_ok,goInt,size_mk]; rfl
 ·rename_i hu
  cases h
  refine .mk (v':=.int .i64 _) (fun w => ?_) (.int _ _)
  simp only [Builtin.len_,ht,h0,Sem.run_bind,run_underlying hu,Result.andThen_ok,goInt]; cases hx <;> rfl
 ·rename_i hu
  split at h <;> cases h <;> cases hx
  ·refine .mk (v':=.int .i64 _) (fun w => ?_) (.int _ _)
   simp only [Builtin.len_,ht,h0,Sem.run_bind,run_underlying hu,Result.andThen_ok,goInt]; rfl
  ·refine .mk (v':=.int .i64 _) (fun w => ?_) (.int _ _)
   simp only [Builtin.len_,ht,h0,Sem.run_bind,run_underlying hu,Result.andThen_ok,goInt]; rfl
 ·rename_i arr hu
  split at h <;> cases h
  rename_i hu2
  refine .mk (v':=.int .i64 _) (fun w => ?_) (.int _ _)
  simp only [Builtin.len_,ht,h0,Sem.run_bind,run_underlying hu,Result.andThen_ok,run_underlying hu2,goInt]; cases hx <;> rfl
 ·rename_i hu
  split at h <;> cases h <;> cases hx
  refine .mk (v':=.int .i64 _) (fun w => ?_) (.int _ _)
  simp only [Builtin.len_,ht,h0,Sem.run_bind,run_underlying hu,Result.andThen_ok,goInt]; rfl
 ·cases h
def minA (x y:AVal):Option AVal:=
 match x,y with
 | .int k a,.int _ b=>some (.int k (if b < a then b else a))
 | .u64 a,.u64 b=>some (.u64 (if b < a then b else a))
 | _,_=>none
theorem minA_ok {P:Program}{x y v:AVal}(h:minA x y=some v){σ:Sig}{x' y':Value}(hx:VR σ x x') (hy:VR σ y y') (ts:Array TypeId) (ty:TypeId):OkV P σ v (Builtin.min_ ts ty #[x',y']):=by
 unfold minA at h
 split at h <;> cases h <;> cases hx <;> cases hy
 ·exact .mk (v':=.int _ _) (fun w=>by simp [Builtin.min_,Builtin.min2]) (.int _ _)
 ·rename_i a b
  by_cases hlt:b < a
  ·rw [if_pos hlt]
   exact .mk (v':=.int .u64 (b.toNat:Int)) (fun w=>by simp [Builtin.min_,Builtin.min2,UInt64.lt_iff_toNat_lt.1 hlt]) (VR.u64 b)
  ·rw [if_neg hlt]
   have hn:=fun h=>hlt (UInt64.lt_iff_toNat_lt.2 h)
   exact .mk (v':=.int .u64 (a.toNat:Int)) (fun w=>by simp [Builtin.min_,Builtin.min2]; exact fun h=>absurd h hn) (VR.u64 a)
def maxA (x y:AVal):Option AVal:=
 match x,y with
 | .int k a,.int _ b=>some (.int k (if a < b then b else a))
 | .u64 a,.u64 b=>some (.u64 (if a < b then b else a))
 | _,_=>none
theorem maxA_ok {P:Program}{x y v:AVal}(h:maxA x y=some v){σ:Sig}{x' y':Value}(hx:VR σ x x') (hy:VR σ y y') (ts:Array TypeId) (ty:TypeId):OkV P σ v (Builtin.max_ ts ty #[x',y']):=by
 unfold maxA at h
 split at h <;> cases h <;> cases hx <;> cases hy
 ·exact .mk (v':=.int _ _) (fun w=>by simp [Builtin.max_,Builtin.max2]) (.int _ _)
 ·rename_i a b
  by_cases hlt:a < b
  ·rw [if_pos hlt]
   exact .mk (v':=.int .u64 (b.toNat:Int)) (fun w=>by simp [Builtin.max_,Builtin.max2,UInt64.lt_iff_toNat_lt.1 hlt]) (VR.u64 b)
  ·rw [if_neg hlt]
   have hn:=fun h=>hlt (UInt64.lt_iff_toNat_lt.2 h)
   exact .mk (v':=.int .u64 (a.toNat:Int)) (fun w=>by simp [Builtin.max_,Builtin.max2]; exact fun h=>absurd h hn) (VR.u64 a)
def builtinA (P:Program) (b:Builtin) (ts:Array TypeId) (args:List AVal):Option AVal:=
 match b,args with
 | .len,[x]=>match ts[0]? with
  | some t=>lenA P t x
  | none=>none
 | .min,[x,y]=>minA x y
 | .max,[x,y]=>maxA x y
 | _,_=>none
abbrev CS:=FuncId→List AVal→Option EffA
def CallOk (P:Program) (f:FuncId) (args:List AVal) (e:EffA):Prop:=
 ∀ (σ:Sig) (args':Array Value) (H:List (Nat × AObj)) (w:World) (base:Nat) (v:AVal) (H':List (Nat × AObj)),LR σ args args'→GRel P σ→HRel σ (aget H) w→e.app base H=some (v,H')→Free σ base →
  Calls P f args' w fun r w' => ∃ σ' v',r=.returned v'∧VR σ' v v'∧HRel σ' (aget H') w'∧Frm σ (aget H) w σ' (aget H') w'∧Only σ σ' base
def CSOk (P:Program) (cs:CS):Prop:=∀ f args e,cs f args=some e→CallOk P f args e
def bodied (P:Program) (f:FuncId):Bool:=
 match P.funcs[f]? with
 | some fn => fn.body.isSome && !(fn.name == "runtime.NumGoroutine")
 | none=>false
def nrm:AVal→AVal
 | .b64 b=>.u64 (cond b 1 0)
 | v=>v
theorem nrm_ok {σ:Sig}{v:AVal}{v':Value}(h:VR σ v v'):VR σ (nrm v) v':=by
 cases h with
 | b64 b=>exact .u64 _
 | bool b=>exact .bool b
 | u8 x=>exact .u8 x
 | u32 x=>exact .u32 x
 | u64 x=>exact .u64 x
 | int k n=>exact .int k n
 | str l=>exact .str l
 | nilPtr=>exact .nilPtr
 | ptr hp=>exact .ptr hp
 | nilSlice=>exact .nilSlice
 | slice hp ho hc hs=>exact .slice hp ho hc hs
 | nilMap=>exact .nilMap
 | map hp=>exact .map hp
 | nilFunc=>exact .nilFunc
 | fn hs h=>exact .fn hs h
 | nilIface=>exact .nilIface
 | iface h=>exact .iface h
 | agg hs h=>exact .agg hs h
 | tup hs h=>exact .tup hs h
 | tp0 hp a b c=>exact .tp0 hp a b c
 | tp1 hp a b c=>exact .tp1 hp a b c
 | mth0=>exact .mth0
 | mth hp=>exact .mth hp
def cyO (x y:UInt64) (c:Bool):Bool:=Nat.ble 18446744073709551616 (x.toNat+y.toNat+(cond c (1:UInt64) 0).toNat)
def boO (x y:UInt64) (c:Bool):Bool:=Nat.ble (x.toNat+1) (y.toNat+(cond c (1:UInt64) 0).toNat)
def cinA:AVal→Option Bool
 | .b64 b=>some b
 | .u64 c=>cond (Nat.ble c.toNat 1) (some (Nat.beq c.toNat 1)) none
 | _=>none
def add64A (x y c:AVal):Option AVal:=
 match nrm x,nrm y,cinA c with
 | .u64 x,.u64 y,some b=>some (.tup [.u64 (x+y+cond b 1 0),.b64 (cyO x y b)])
 | _,_,_=>none
def sub64A (x y c:AVal):Option AVal:=
 match nrm x,nrm y,cinA c with
 | .u64 x,.u64 y,some b=>some (.tup [.u64 (x - y - cond b 1 0),.b64 (boO x y b)])
 | _,_,_=>none
def extA (P:Program) (f:FuncId) (args:List AVal):Option AVal:=
 match P.funcs[f]? with
 | none=>none
 | some fn=>cond fn.body.isNone (cond (Extern.findNext fn).isNone (match args with
   | [x, y, c] => cond (fn.name == "math/bits.Add64") (add64A x y c) (cond (fn.name == "math/bits.Sub64") (sub64A x y c) none)
   | _=>none) none) none
def ofV:Option AVal→Option EffA
 | some v=>some (.pure v)
 | none=>none
def builtinE (P:Program) (b:Builtin) (ts:Array TypeId) (args:List AVal):Option EffA:=
 match b,args with
 | .append,[s,x]=>appendA P ts s x
 | .copy,[s,x]=>copyA P ts s x
 | .clear,[s]=>clearA P ts s
 | .len,[.map n]=>mapLenA P ts n
 | .delete,[m,k]=>deleteA P ts m k
 | b,args=>ofV (builtinA P b ts args)
theorem ofV_some {x:Option AVal}{e:EffA}(h:ofV x=some e):∃ v,x=some v∧e=.pure v:=by
 cases x with
 | none=>cases h
 | some v=>cases h; exact ⟨v,rfl,rfl⟩
def orElse (x y:Option EffA):Option EffA:=
 match x with
 | some e=>some e
 | none=>y
def effA (P:Program) (cs:CS) (ρ:Operand→Option AVal) (o:Oper):Option EffA:=
 match o.op with
 | .move x=>ofV (ρ x)
 | .assign x=>ofV (ρ x)
 | .pick c a b=>match ρ c,ρ a,ρ b with
  | some (.bool t),some x,some y=>some (.pure (cond t x y))
  | _,_,_=>none
 | .alloc t=>newA P t
 | .box _ x=>match ρ x with
  | some v=>some (boxA v)
  | none=>none
 | .build t ps=>match evP ρ ps.toList with
  | some vs=>ofV (buildA P t vs)
  | none=>none
 | .buildSlice t n ps=>match evP ρ ps.toList with
  | some vs=>buildSliceA P t n vs
  | none=>none
 | .load t a=>match ρ a with
  | some x=>loadA P t x
  | none=>none
 | .store t a x=>match ρ a,ρ x with
  | some a,some x=>storeA P t a x
  | _,_=>none
 | .nilCheck x=>match ρ x with
  | some (.ptr n off)=>some (.pure (.ptr n off))
  | some (.fn f c)=>some (.pure (.fn f c))
  | some (.mth f n off)=>some (.pure (.mth f n off))
  | _=>none
 | .binOp op t x y _=>match ρ x,ρ y with
  | some x,some y=>ofV (binA P op t (nrm x) (nrm y))
  | _,_=>none
 | .unOp op _ x=>match ρ x with
  | some x=>ofV (unA op (nrm x))
  | none=>none
 | .convert s d x=>match ρ x with
  | some x=>orElse (ofV (convA P s d (nrm x))) (orElse (bytesStrA P s d x) (strBytesA P s d x))
  | none=>none
 | .makeInterface t x=>match ρ x with
  | some x=>match P.underlying t with
   | some (.interface _)=>none
   | some _=>some (.pure (.iface t x))
   | none=>none
  | none=>none
 | .makeFunc fn first captured=>match fn,evL ρ first.toList,evL ρ captured.toList with
  | .func f,some [],some vs=>some (.pure (.fn f vs))
  | .func f,some [.nilPtr],some []=>some (.pure (.mth0 f))
  | .func f,some [.ptr n off],some []=>some (.pure (.mth f n off))
  | _,_,_=>none
 | .makeSlice t l c=>match ρ l,ρ c with
  | some l,some c=>makeSliceA P t l c
  | _,_=>none
 | .slice t x lo hi mx=>match mx,ρ x,evO ρ lo,evO ρ hi with
  | none,some x,some lo,some hi=>orElse (ofV (sliceA P t x lo hi)) (sliceArrA P t x lo hi)
  | some m,some x,some lo,some (some hi)=>match ρ m with
   | some vm=>ofV (slice3A P t x lo hi vm)
   | none=>none
  | _,_,_,_=>none
 | .fieldAddr t x k=>match ρ x with
  | some x=>ofV (fieldAddrA P t x k)
  | none=>none
 | .field t x k=>match ρ x with
  | some x=>ofV (fieldA P t x k)
  | none=>none
 | .indexAddr t x i=>match ρ x,ρ i with
  | some x,some i=>ofV (indexAddrA P t x i)
  | _,_=>none
 | .index t x i=>match ρ x,ρ i with
  | some x,some i=>ofV (indexA P t x i)
  | _,_=>none
 | .extract x k=>match ρ x with
  | some x=>ofV (extractA x k)
  | none=>none
 | .call c=>match evL ρ c.args.toList with
  | none=>none
  | some args=>match c.callee with
   | .builtin b=>builtinE P b c.argTypes args
   | .value f=>match ρ f with
    | some (.fn f cap)=>cond (bodied P f) (cs f (args++cap)) (ofV (extA P f (args++cap)))
    | some (.mth f n off)=>cond (bodied P f) (cs f (.ptr n off::args)) none
    | _=>none
   | .invoke _ _=>none
 | .makeMap _ r=>match r with
  | none=>some makeMapA
  | some _=>none
 | .lookup t x k ok=>match ρ x,ρ k with
  | some x,some k=>lookupA P t x k ok
  | _,_=>none
 | .mapUpdate t m k x=>match ρ m,ρ k,ρ x with
  | some m,some k,some x=>mapUpdateA P t m k x
  | _,_,_=>none
 | .insert t m k x=>match ρ m,ρ k,ρ x with
  | some m,some k,some x=>mapUpdateA P t m k x
  | _,_,_=>none
 | _=>none
def EffOk (P:Program) (σ:Sig) (a:Act) (o:Oper) (e:EffA):Prop:=
 ∀ (H:List (Nat × AObj)) (w:World) (base:Nat) (v:AVal) (H':List (Nat × AObj)),HRel σ (aget H) w→e.app base H=some (v,H')→Free σ base →
  ∀ (K:Act→World→Prop) (Q:Exit→Act→World→Prop),(∀ σ' v' w',VR σ' v v'→HRel σ' (aget H') w'→Frm σ (aget H) w σ' (aget H') w'→Only σ σ' base→K (a.put o.dst v') w')→o.wp P a w K Q
theorem EffOk.of_value {P:Program}{σ:Sig}{a:Act}{o:Oper}{e:EffA}{s:Sem Value}(he:execOp a.eval o=do pure (.value (← s)))
  (h:∀ (H:List (Nat × AObj)) (w:World) (base:Nat) (v:AVal) (H':List (Nat × AObj)),HRel σ (aget H) w→e.app base H=some (v,H')→Free σ base →
   ∃ σ' v' w',s.run P w=.ok v' w'∧VR σ' v v'∧HRel σ' (aget H') w'∧Frm σ (aget H) w σ' (aget H') w'∧Only σ σ' base):EffOk P σ a o e:=by
 intro H w base v H' hr ha hf K Q hK
 obtain ⟨σ',v',w',h1,h2,h3,h4,h5⟩:=h H w base v H' hr ha hf
 unfold Oper.wp
 rw [he]
 simp only [Sem.run_bind,h1,Result.andThen_ok,Sem.run_pure,Oper.upon_value]
 exact hK σ' v' w' h2 h3 h4 h5
theorem EffOk.of_okv {P:Program}{σ:Sig}{a:Act}{o:Oper}{v:AVal}{s:Sem Value}(he:execOp a.eval o=do pure (.value (← s))) (h:OkV P σ v s):EffOk P σ a o (.pure v):=
 .of_value he fun H w base v' H' hr ha hf=>by
  simp only [EffA.app,Option.some.injEq,Prod.mk.injEq] at ha
  obtain ⟨rfl,rfl⟩:=ha
  obtain ⟨u,h1,h2⟩:=h w
  exact ⟨σ,u,w,h1,h2,hr,Frm.refl _ _ _,Only.refl _ _⟩
theorem EffOk.of_read {P:Program}{σ:Sig}{a:Act}{o:Oper}{e:EffA}{s:Sem Value}(he:execOp a.eval o=do pure (.value (← s)))
  (h:∀ (H H':List (Nat × AObj)) (w:World) (base:Nat) (v:AVal),e.app base H=some (v,H')→HRel σ (aget H) w→H'=H∧∃ v',s.run P w=.ok v' w∧VR σ v v'):EffOk P σ a o e:=
 .of_value he fun H w base v H' hr ha hf=>by
  obtain ⟨rfl,v',h1,h2⟩:=h H H' w base v ha hr
  exact ⟨σ,v',w,h1,h2,hr,Frm.refl _ _ _,Only.refl _ _⟩
theorem orElse_cases {x y:Option EffA}{e:EffA}(h:orElse x y=some e):x=some e ∨ y=some e:=by
 unfold orElse at h
 split at h
 ·exact .inl h
 ·exact .inr h
end Go.Eng
namespace Go.Eng
open Go
theorem bodied_ok {P : Program} {f : FuncId} (h : bodied P f = true) : ∃ fn, P.funcs[f]? = some fn ∧ fn.body.isNone = false ∧ (fn.name == "runtime.NumGoroutine") = false := by
 unfold bodied at h
 split at h
 ·rename_i fn hf
  simp only [Bool.and_eq_true,Bool.not_eq_true'] at h
  refine ⟨fn,hf,?_,h.2⟩
  cases hb:fn.body with
  | none=>rw [hb] at h; cases h.1
  | some b=>rfl
 ·cases h
theorem LR.append {σ:Sig}{l m:List AVal}{l' m':Array Value}(h:LR σ l l') (k:LR σ m m'):LR σ (l++m) (l' ++ m'):=by
 refine ⟨by simp [h.1,k.1],fun i v v' h1 h2 => ?_⟩
 by_cases hi:i < l.length
 ·rw [List.getElem?_append_left hi] at h1
  rw [Array.getElem?_append_left (by rw [← h.1]; exact hi)] at h2
  exact h.2 i v v' h1 h2
 ·rw [List.getElem?_append_right (by omega)] at h1
  rw [Array.getElem?_append_right (by rw [← h.1]; omega)] at h2
  rw [← h.1] at h2
  exact k.2 _ v v' h1 h2
theorem LR.inv1 {σ:Sig}{x:AVal}{l':Array Value}(h:LR σ [x] l'):∃ x',l' = #[x']∧VR σ x x':=by
 obtain ⟨l⟩:=l'
 have h1:1=l.length:=by simpa using h.1
 match l,h1 with
 | [a],_=>exact ⟨a,rfl,h.2 0 x a rfl rfl⟩
theorem LR.inv2 {σ:Sig}{x y:AVal}{l':Array Value}(h:LR σ [x,y] l'):∃ x' y',l' = #[x',y']∧VR σ x x'∧VR σ y y':=by
 obtain ⟨l⟩:=l'
 have h1:2=l.length:=by simpa using h.1
 match l,h1 with
 | [a,b],_=>exact ⟨a,b,rfl,h.2 0 x a rfl rfl,h.2 1 y b rfl rfl⟩
def subEnt:Array Value→Sem Value:=fun args=>do
 let (x, y, b) ← Extern.MathBitsCarry.three "Sub64" args
 pure (Extern.MathBitsCarry.pair ((x+Extern.MathBitsCarry.m64 - y - b) % Extern.MathBitsCarry.m64) (if x < y+b then 1 else 0))
theorem run_subEnt {P:Program}(x y b:Nat) (hb:b≤1) (w:World) :
  (subEnt #[.int .u64 x,.int .u64 y,.int .u64 b]).run P w =
   .ok (.tuple #[.int .u64 (((x+18446744073709551616 - y - b) % 18446744073709551616:Nat):Int),.int .u64 ((if x < y+b then 1 else 0:Nat):Int)]) w:=by
 have:b=0 ∨ b=1:=by omega
 rcases this with rfl | rfl <;> rfl
theorem run_addEnt {P:Program}(x y b:Nat) (hb:b≤1) (w:World) :
  (add64Entry #[.int .u64 x,.int .u64 y,.int .u64 b]).run P w =
   .ok (.tuple #[.int .u64 (((x+y+b) % 18446744073709551616:Nat):Int),.int .u64 (((x+y+b) / 18446744073709551616:Nat):Int)]) w:=by
 have:b=0 ∨ b=1:=by omega
 rcases this with rfl | rfl <;> rfl
theorem look_name {fn:Func}{n:String}{e:Array Value→Sem Value}(h:fn.name=n) (h1:Extern.allGenericRows.lookup n=none) (h2:Extern.allTypedRows.lookup n=none) (h3:Extern.allRows.lookup n=some e):Extern.find fn=some e:=by
 unfold Extern.find
 simp only [h,h1,h2,h3]
 rfl
theorem cinA_ok {σ:Sig}{c:AVal}{b:Bool}{c':Value}(h:cinA c=some b) (hc:VR σ c c'):c'=.int .u64 ((cond b (1:UInt64) 0).toNat:Int):=by
 unfold cinA at h
 split at h
 ·cases h; cases hc; rfl
 ·rename_i x
  cases hb:Nat.ble x.toNat 1 <;> rw [hb] at h <;> simp only [cond_true,cond_false] at h
  ·cases h
  ·cases h
   have hle:=Nat.le_of_ble_eq_true hb
   cases hc
   have:x.toNat=0 ∨ x.toNat=1:=by omega
   rcases this with e | e <;> rw [e] <;> rfl
 ·cases h
theorem nrm64 {σ:Sig}{v:AVal}{x:UInt64}{v':Value}(h:nrm v=.u64 x) (hv:VR σ v v'):v'=.int .u64 (x.toNat:Int):=by
 have:=nrm_ok hv
 rw [h] at this
 cases this; rfl
theorem bit_le (b:Bool):(cond b (1:UInt64) 0).toNat≤1:=by cases b <;> decide
theorem add64A_ok {P:Program}{x y c v:AVal}(h:add64A x y c=some v){σ:Sig}{x' y' c':Value}(hx:VR σ x x') (hy:VR σ y y') (hc:VR σ c c') (w:World) :
  ∃ v',(add64Entry #[x',y',c']).run P w=.ok v' w∧VR σ v v':=by
 unfold add64A at h
 split at h
 ·rename_i a b k h1 h2 h3
  cases h
  rw [nrm64 h1 hx,nrm64 h2 hy,cinA_ok h3 hc]
  refine ⟨_,run_addEnt _ _ _ (bit_le k) w,?_⟩
  refine .tup rfl fun i u u' hu hu' => ?_
  have ha:=a.toNat_lt
  have hb:=b.toNat_lt
  match i with
  | 0 =>
   simp at hu hu'
   subst hu; subst hu'
   have e:((a.toNat+b.toNat+(cond k (1:UInt64) 0).toNat) % 18446744073709551616)=(a+b+cond k 1 0).toNat:=by
    rw [UInt64.toNat_add,UInt64.toNat_add]; simp
   have:=VR.u64 (σ:=σ) (a+b+cond k 1 0)
   rwa [← e] at this
  | 1 =>
   simp at hu hu'
   subst hu; subst hu'
   have:=VR.b64 (σ:=σ) (cyO a b k)
   have e:((cond (cyO a b k) (1:UInt64) 0).toNat:Int)=((a.toNat+b.toNat+(cond k (1:UInt64) 0).toNat) / 18446744073709551616:Nat):=by
    have hk:=bit_le k
    generalize hq:(cond k (1:UInt64) 0).toNat=q at *
    unfold cyO
    rw [hq]
    cases hb:Nat.ble 18446744073709551616 (a.toNat+b.toNat+q) with
    | true =>
     have:=Nat.le_of_ble_eq_true hb
     show ((1:UInt64).toNat:Int)=_
     have e1:(1:UInt64).toNat=1:=rfl
     rw [e1]; omega
    | false =>
     have:¬ 18446744073709551616≤a.toNat+b.toNat+q:=fun hle=>by rw [Nat.ble_eq_true_of_le hle] at hb; cases hb
     show ((0:UInt64).toNat:Int)=_
     have e1:(0:UInt64).toNat=0:=rfl
     rw [e1]; omega
   rw [e] at this
   exact this
  | n+2=>simp at hu
 ·cases h
theorem sub64A_ok {P:Program}{x y c v:AVal}(h:sub64A x y c=some v){σ:Sig}{x' y' c':Value}(hx:VR σ x x') (hy:VR σ y y') (hc:VR σ c c') (w:World) :
  ∃ v',(subEnt #[x',y',c']).run P w=.ok v' w∧VR σ v v':=by
 unfold sub64A at h
 split at h
 ·rename_i a b k h1 h2 h3
  cases h
  rw [nrm64 h1 hx,nrm64 h2 hy,cinA_ok h3 hc]
  refine ⟨_,run_subEnt _ _ _ (bit_le k) w,?_⟩
  refine .tup rfl fun i u u' hu hu' => ?_
  have ha:=a.toNat_lt
  have hb:=b.toNat_lt
  match i with
  | 0 =>
   simp at hu hu'
   subst hu; subst hu'
   have e:((a.toNat+18446744073709551616 - b.toNat - (cond k (1:UInt64) 0).toNat) % 18446744073709551616)=(a - b - cond k 1 0).toNat:=by
    rw [UInt64.toNat_sub,UInt64.toNat_sub]
    have hk:=bit_le k
    generalize (cond k (1:UInt64) 0).toNat=q at *
    simp only [Nat.reducePow]
    omega
   have:=VR.u64 (σ:=σ) (a - b - cond k 1 0)
   rwa [← e] at this
  | 1 =>
   simp only [List.getElem?_cons_succ,List.getElem?_cons_zero,Option.some.injEq] at hu
   simp only [List.getElem?_toArray,List.getElem?_cons_succ,List.getElem?_cons_zero,Option.some.injEq] at hu'
   subst hu; subst hu'
   have:=VR.b64 (σ:=σ) (boO a b k)
   have e:((cond (boO a b k) (1:UInt64) 0).toNat:Int)=((if a.toNat < b.toNat+(cond k (1:UInt64) 0).toNat then 1 else 0:Nat):Int):=by
    have hk:=bit_le k
    generalize hq:(cond k (1:UInt64) 0).toNat=q at *
    unfold boO
    rw [hq]
    cases hb:Nat.ble (a.toNat+1) (b.toNat+q) with
    | true =>
     have:=Nat.le_of_ble_eq_true hb
     rw [if_pos (by omega)]; rfl
    | false =>
     have:¬ a.toNat+1≤b.toNat+q:=fun hle=>by rw [Nat.ble_eq_true_of_le hle] at hb; cases hb
     rw [if_neg (by omega)]; rfl
   rw [e] at this
   exact this
  | n+2=>simp at hu
 ·cases h
theorem LR.inv3 {σ:Sig}{x y z:AVal}{l':Array Value}(h:LR σ [x,y,z] l'):∃ x' y' z',l' = #[x',y',z']∧VR σ x x'∧VR σ y y'∧VR σ z z':=by
 obtain ⟨l⟩:=l'
 have h1:3=l.length:=by simpa using h.1
 match l,h1 with
 | [a,b,c],_=>exact ⟨a,b,c,rfl,h.2 0 x a rfl rfl,h.2 1 y b rfl rfl,h.2 2 z c rfl rfl⟩
theorem extA_ok {P:Program}{f:FuncId}{args:List AVal}{v:AVal}(h:extA P f args=some v){σ:Sig}{args':Array Value}(hl:LR σ args args') (w:World) :
  ∃ v',(callFunc f args').run P w=.ok (.value v') w∧VR σ v v':=by
 unfold extA at h
 split at h
 ·cases h
 ·rename_i fn hf
  cases hb:fn.body.isNone <;> rw [hb] at h <;> simp only [cond_true,cond_false] at h
  ·cases h
  ·cases hnx:(Extern.findNext fn).isNone <;> rw [hnx] at h <;> simp only [cond_true,cond_false] at h
   ·cases h
   split at h
   ·rename_i x y c
    obtain ⟨x',y',c',rfl,hx,hy,hc⟩:=hl.inv3
    cases h1 : (fn.name == "math/bits.Add64") <;> rw [h1] at h <;> simp only [cond_true, cond_false] at h
    ·cases h2 : (fn.name == "math/bits.Sub64") <;> rw [h2] at h <;> simp only [cond_true, cond_false] at h
     ·cases h
     ·have hn : fn.name = "math/bits.Sub64" := by simpa using h2
      obtain ⟨v',e1,e2⟩:=sub64A_ok (P:=P) h hx hy hc w
      refine ⟨v',?_,e2⟩
      rw [run_callFunc_extern hf (by rw [hn]; kernel_rfl) hb (by simpa using hnx) (e:=subEnt) (look_name hn (by kernel_rfl) (by kernel_rfl) (by kernel_rfl)),e1]
      rfl
    ·have hn : fn.name = "math/bits.Add64" := by simpa using h1
     obtain ⟨v',e1,e2⟩:=add64A_ok (P:=P) h hx hy hc w
     refine ⟨v',?_,e2⟩
     rw [run_callFunc_extern hf (by rw [hn]; kernel_rfl) hb (by simpa using hnx) (e:=add64Entry) (look_name hn (by kernel_rfl) (by kernel_rfl) (by kernel_rfl)),e1]
     rfl
   ·cases h
theorem effA_ok {P:Program}{cs:CS}(hcs:CSOk P cs){σ:Sig}{ρ:Operand→Option AVal}{a:Act}(hρ:Env σ ρ a.eval) (hg:GRel P σ){o:Oper}{e:EffA}(h:effA P cs ρ o=some e):EffOk P σ a o e:=by
 unfold effA at h
 split at h
 ·rename_i x ho
  obtain ⟨v,h1,rfl⟩:=ofV_some h
  exact .of_okv (s:=pure (a.eval x)) (by simp [execOp,ho]) (.mk (fun w=>rfl) (hρ x v h1))
 ·rename_i x ho
  obtain ⟨v,h1,rfl⟩:=ofV_some h
  exact .of_okv (s:=pure (a.eval x)) (by simp [execOp,ho]) (.mk (fun w=>rfl) (hρ x v h1))
 ·rename_i c x y ho
  split at h
  ·rename_i t vx vy h1 h2 h3
   cases h
   have hc:=hρ c _ h1
   have hb:a.eval c=.bool t:=by generalize a.eval c=z at hc; cases hc; rfl
   refine .of_okv (s:=do pure (if ← asBool (a.eval c) then a.eval x else a.eval y)) (by simp [execOp,ho]) ?_
   refine .mk (v':=if t then a.eval x else a.eval y) (fun w=>by rw [hb]; simp [asBool]) ?_
   cases t
   ·exact hρ y _ h3
   ·exact hρ x _ h2
  ·cases h
 ·rename_i t ho
  exact .of_value (s:=Instr.alloc t true (.tuple #[])) (by simp [execOp,ho]) fun H w base v H' hr ha hf=>newA_ok h ha hr hf
 ·rename_i t x ho
  split at h
  ·rename_i v h1
   cases h
   exact .of_value (s:=Instr.box t (a.eval x)) (by simp [execOp,ho]) fun H w base v' H' hr ha hf=>boxA_ok (hρ x v h1) t ha hr hf
  ·cases h
 ·rename_i t ps ho
  split at h
  ·rename_i vs h1
   obtain ⟨v,h2,rfl⟩:=ofV_some h
   refine .of_okv (s:=Instr.build t (ps.map fun (i,x)=>(i,a.eval x))) (by simp [execOp,ho]) ?_
   exact buildA_ok h2 (by simpa using evP_ok hρ h1)
  ·cases h
 ·rename_i t n ps ho
  split at h
  ·rename_i vs h1
   exact .of_value (s:=Instr.buildSlice t n (ps.map fun (i,x)=>(i,a.eval x))) (by simp [execOp,ho]) fun H w base v H' hr ha hf=>buildSliceA_ok h (by simpa using evP_ok hρ h1) ha hr hf
  ·cases h
 ·rename_i t x ho
  split at h
  ·rename_i v h1
   exact .of_read (s:=Instr.loadAt t (a.eval x)) (by simp [execOp,ho]) fun H H' w base u ha hr=>loadA_ok h (hρ x v h1) ha hr
  ·cases h
 ·rename_i t x y ho
  split at h
  ·rename_i vx vy h1 h2
   intro H w base v H' hr ha hf K Q hK
   obtain ⟨rfl,w',g1,g2,g3⟩:=storeA_ok h (hρ x vx h1) (hρ y vy h2) ha hr
   have he:execOp a.eval o=(do Instr.storeAt t (a.eval x) (a.eval y); pure .skip):=by simp [execOp,ho]
   unfold Oper.wp
   rw [he]
   simp only [Sem.run_bind,g1,Result.andThen_ok,Sem.run_pure,Oper.upon_skip]
   exact hK σ undef w' (.tup rfl fun i v v' h=>by simp at h) g2 g3 (Only.refl _ _)
  ·cases h
 ·rename_i x ho
  split at h
  ·rename_i n off h1
   cases h
   have hv:=hρ x _ h1
   refine .of_okv (s:=pure (a.eval x)) ?_ (.mk (fun w=>rfl) hv)
   generalize hz:a.eval x=z at hv
   cases hv
   simp [execOp,ho,hz]
  ·rename_i f c h1
   cases h
   have hv:=hρ x _ h1
   refine .of_okv (s:=pure (a.eval x)) ?_ (.mk (fun w=>rfl) hv)
   generalize hz:a.eval x=z at hv
   cases hv
   simp [execOp,ho,hz]
  ·rename_i f n off h1
   cases h
   have hv:=hρ x _ h1
   refine .of_okv (s:=pure (a.eval x)) ?_ (.mk (fun w=>rfl) hv)
   generalize hz:a.eval x=z at hv
   cases hv
   simp [execOp,ho,hz]
  ·cases h
 ·rename_i op t x y t' ho
  split at h
  ·rename_i vx vy h1 h2
   obtain ⟨v,h3,rfl⟩:=ofV_some h
   exact .of_okv (s:=do eqGuard op t x y (a.eval x) (a.eval y); binOp op t (a.eval x) (a.eval y)) (by simp [execOp,ho]) (binA_ok h3 (nrm_ok (hρ x vx h1)) (nrm_ok (hρ y vy h2)))
  ·cases h
 ·rename_i op t x ho
  split at h
  ·rename_i vx h1
   obtain ⟨v,h3,rfl⟩:=ofV_some h
   exact .of_okv (s:=Op.unary op (a.eval x)) (by simp [execOp,ho]) (unA_ok h3 (nrm_ok (hρ x vx h1)))
  ·cases h
 ·rename_i s d x ho
  split at h
  ·rename_i vx h1
   rcases orElse_cases h with h | h
   ·obtain ⟨v,h3,rfl⟩:=ofV_some h
    exact .of_okv (s:=convert s d (a.eval x)) (by simp [execOp,ho]) (convA_ok h3 (nrm_ok (hρ x vx h1)))
   ·rcases orElse_cases h with h | h
    ·exact .of_read (s:=convert s d (a.eval x)) (by simp [execOp,ho]) fun H H' w base u ha hr=>bytesStrA_ok h (hρ x vx h1) ha hr
    ·exact .of_value (s:=convert s d (a.eval x)) (by simp [execOp,ho]) fun H w base v H' hr ha hf=>strBytesA_ok h (hρ x vx h1) ha hr hf
  ·cases h
 ·rename_i t x ho
  split at h
  ·rename_i vx h1
   split at h
   ·cases h
   ·rename_i d hn hu
    cases h
    refine .of_okv (s:=Instr.makeInterface t (a.eval x)) (by simp [execOp,ho]) (.mk (v':=.iface t (a.eval x)) (fun w => ?_) (.iface (hρ x vx h1)))
    unfold Instr.makeInterface
    simp only [Sem.run_bind,run_underlying hu,Result.andThen_ok]
    cases d <;> first | rfl | exact absurd hu (hn _)
   ·cases h
  ·cases h
 ·rename_i fn first captured ho
  split at h
  ·rename_i f vs h1 h2
   cases h
   have hl:=evL_ok hρ h2
   have hf:=evL_ok hρ h1
   refine .of_okv (s:=Instr.makeFunc (.func f) (first.map a.eval) (captured.map a.eval)) (by simp [execOp,ho]) (.mk (v':=.func (.func f) #[] (captured.map a.eval)) (fun w => ?_) (.fn (by simpa using hl.1) fun i v v' g1 g2=>hl.2 i v v' g1 (by simpa using g2)))
   have:first = #[]:=by
    have h0:=hf.1
    simp at h0
    exact Array.eq_empty_of_size_eq_zero h0.symm
   rw [this]; simp [Instr.makeFunc]
  ·rename_i f h1 h2
   cases h
   have hl:=evL_ok hρ h2
   have hf:=evL_ok hρ h1
   have c0:captured = #[]:=by
    have h0:=hl.1
    simp at h0
    exact Array.eq_empty_of_size_eq_zero h0.symm
   obtain ⟨u,hu,hv⟩:=hf.get (i:=0) rfl
   cases hv
   have e:first.map a.eval = #[.pointer none]:=by
    have h0:=hf.1
    apply Array.ext
    ·simpa using h0.symm
    ·intro i h1 h2
     have:i=0:=by simp at h2; exact h2
     subst this
     have:=(Array.getElem?_eq_some_iff.1 hu).2
     simpa using this
   refine .of_okv (s:=Instr.makeFunc (.func f) (first.map a.eval) (captured.map a.eval)) (by simp [execOp,ho]) (.mk (v':=.func (.func f) #[.pointer none] #[]) (fun w => ?_) .mth0)
   rw [e,c0]; simp [Instr.makeFunc]
  ·rename_i f n off h1 h2
   cases h
   have hl:=evL_ok hρ h2
   have hf:=evL_ok hρ h1
   have c0:captured = #[]:=by
    have h0:=hl.1
    simp at h0
    exact Array.eq_empty_of_size_eq_zero h0.symm
   obtain ⟨u,hu,hv⟩:=hf.get (i:=0) rfl
   cases hv with
   | @ptr n off p hp =>
   have e:first.map a.eval = #[.pointer (some ⟨p.blk,p.sh+off,none⟩)]:=by
    have h0:=hf.1
    apply Array.ext
    ·simpa using h0.symm
    ·intro i h1 h2
     have:i=0:=by simp at h2; exact h2
     subst this
     have:=(Array.getElem?_eq_some_iff.1 hu).2
     simpa using this
   refine .of_okv (s:=Instr.makeFunc (.func f) (first.map a.eval) (captured.map a.eval)) (by simp [execOp,ho]) (.mk (v':=.func (.func f) #[.pointer (some ⟨p.blk,p.sh+off,none⟩)] #[]) (fun w => ?_) (.mth hp))
   rw [e,c0]; simp [Instr.makeFunc]
  ·cases h
 ·rename_i t l c ho
  split at h
  ·rename_i vl vc h1 h2
   exact .of_value (s:=Instr.makeSlice t (a.eval l) (a.eval c)) (by simp [execOp,ho]) fun H w base v H' hr ha hf=>makeSliceA_ok h (hρ l vl h1) (hρ c vc h2) ha hr hf
  ·cases h
 ·rename_i t x lo hi mx ho
  split at h
  ·rename_i mx vx vlo vhi h1 h2 h3
   rcases orElse_cases h with h | h
   ·obtain ⟨v,h4,rfl⟩:=ofV_some h
    exact .of_okv (s:=Instr.sliceAt t (a.eval x) (lo.map a.eval) (hi.map a.eval) none) (by simp [execOp,ho]) (sliceA_ok h4 (hρ x vx h1) (evO_ok hρ h2) (evO_ok hρ h3))
   ·exact .of_read (s:=Instr.sliceAt t (a.eval x) (lo.map a.eval) (hi.map a.eval) none) (by simp [execOp,ho]) fun H H' w base u ha hr=>sliceArrA_ok h (hρ x vx h1) (evO_ok hρ h2) (evO_ok hρ h3) ha hr
  ·rename_i mo vx vlo vhi h1 h2 h3
   split at h
   ·rename_i vm h4
    obtain ⟨v,h5,rfl⟩:=ofV_some h
    have h6:=evO_ok hρ h3
    cases hi with
    | none=>exact h6.elim
    | some ho2=>exact .of_okv (s:=Instr.sliceAt t (a.eval x) (lo.map a.eval) (some (a.eval ho2)) (some (a.eval mo))) (by simp [execOp,ho]) (slice3A_ok h5 (hρ x vx h1) (evO_ok hρ h2) h6 (hρ mo vm h4))
   ·cases h
  ·cases h
 ·rename_i t x k ho
  split at h
  ·rename_i vx h1
   obtain ⟨v,h3,rfl⟩:=ofV_some h
   exact .of_okv (s:=Instr.fieldAt t (a.eval x) k) (by simp [execOp,ho]) (fieldAddrA_ok h3 (hρ x vx h1))
  ·cases h
 ·rename_i t x k ho
  split at h
  ·rename_i vx h1
   obtain ⟨v,h3,rfl⟩:=ofV_some h
   exact .of_okv (s:=Instr.field t (a.eval x) k) (by simp [execOp,ho]) (fieldA_ok h3 (hρ x vx h1))
  ·cases h
 ·rename_i t x i ho
  split at h
  ·rename_i vx vi h1 h2
   obtain ⟨v,h3,rfl⟩:=ofV_some h
   exact .of_okv (s:=Instr.indexAt t (a.eval x) (a.eval i)) (by simp [execOp,ho]) (indexAddrA_ok h3 (hρ x vx h1) (hρ i vi h2))
  ·cases h
 ·rename_i t x i ho
  split at h
  ·rename_i vx vi h1 h2
   obtain ⟨v,h3,rfl⟩:=ofV_some h
   exact .of_okv (s:=Instr.index t (a.eval x) (a.eval i)) (by simp [execOp,ho]) (indexA_ok h3 (hρ x vx h1) (hρ i vi h2))
  ·cases h
 ·rename_i x k ho
  split at h
  ·rename_i vx h1
   obtain ⟨v,h3,rfl⟩:=ofV_some h
   exact .of_okv (s:=Instr.extract (a.eval x) k) (by simp [execOp,ho]) (extractA_ok h3 (hρ x vx h1))
  ·cases h
 ·rename_i c ho
  split at h
  ·cases h
  ·rename_i args hargs
   have hl:=evL_ok hρ hargs
   have hmap:(c.args.toList.map a.eval).toArray=c.args.map a.eval:=by apply Array.toList_inj.1; rw [Array.toList_map]
   rw [hmap] at hl
   split at h
   ·rename_i b hcal
    have hex:∃ q,execOp a.eval o=builtin b c.argTypes o.type q (c.args.map a.eval):=⟨_,by
     simp only [execOp,ho,resolve,hcal,pure_bind,invoke]; rfl⟩
    obtain ⟨q,hex⟩:=hex
    generalize c.args.map a.eval=args' at hl hex
    unfold builtinE at h
    split at h
    ·rename_i s x
     obtain ⟨s',x',rfl,hs,hx⟩:=hl.inv2
     exact .of_value (s:=Builtin.append_ c.argTypes o.type #[s',x']) (by rw [hex]; rfl) fun H w base v H' hr ha hf=>appendA_ok h hs hx _ hr ha hf
    ·rename_i s x
     obtain ⟨s',x',rfl,hs,hx⟩:=hl.inv2
     exact .of_value (s:=Builtin.copy_ c.argTypes o.type #[s',x']) (by rw [hex]; rfl) fun H w base v H' hr ha hf=>by
      obtain ⟨v',w',h1,h2,h3,h4⟩:=copyA_ok h hs hx o.type hr ha
      exact ⟨σ,v',w',h1,h2,h3,h4,Only.refl _ _⟩
    ·rename_i s
     obtain ⟨s',rfl,hs⟩:=hl.inv1
     exact .of_value (s:=Builtin.clear_ c.argTypes o.type #[s']) (by rw [hex]; rfl) fun H w base v H' hr ha hf=>by
      obtain ⟨v',w',h1,h2,h3,h4⟩:=clearA_ok h hs o.type hr ha
      exact ⟨σ,v',w',h1,h2,h3,h4,Only.refl _ _⟩
    ·rename_i n
     obtain ⟨s',rfl,hs⟩:=hl.inv1
     exact .of_read (s:=Builtin.len_ c.argTypes o.type #[s']) (by rw [hex]; rfl) fun H H' w base u ha hr=>mapLenA_ok h hs o.type ha hr
    ·rename_i m k
     obtain ⟨m',k',rfl,hm,hk⟩:=hl.inv2
     exact .of_value (s:=Builtin.delete_ c.argTypes o.type #[m',k']) (by rw [hex]; rfl) fun H w base v H' hr ha hf=>by
      obtain ⟨v',w',h1,h2,h3,h4⟩:=deleteA_ok h hm hk o.type ha hr
      exact ⟨σ,v',w',h1,h2,h3,h4,Only.refl _ _⟩
    obtain ⟨v,h3,rfl⟩:=ofV_some h
    unfold builtinA at h3
    split at h3
    ·rename_i x
     split at h3
     ·rename_i t ht
      obtain ⟨x',rfl,hx⟩:=hl.inv1
      exact .of_okv (s:=Builtin.len_ c.argTypes o.type #[x']) (by rw [hex]; rfl) (lenA_ok h3 hx _ ht _)
     ·cases h3
    ·rename_i x y
     obtain ⟨x',y',rfl,hx,hy⟩:=hl.inv2
     exact .of_okv (s:=Builtin.min_ c.argTypes o.type #[x',y']) (by rw [hex]; rfl) (minA_ok h3 hx hy _ _)
    ·rename_i x y
     obtain ⟨x',y',rfl,hx,hy⟩:=hl.inv2
     exact .of_okv (s:=Builtin.max_ c.argTypes o.type #[x',y']) (by rw [hex]; rfl) (maxA_ok h3 hx hy _ _)
    ·cases h3
   ·rename_i f hcal
    split at h
    ·rename_i fid cap hf
     cases hb:bodied P fid <;> rw [hb] at h <;> simp only [cond_true,cond_false] at h
     ·obtain ⟨v,h3,rfl⟩:=ofV_some h
      have hv:=hρ f _ hf
      generalize hz:a.eval f=z at hv
      cases hv with
      | @fn _ _ cap' hs hc =>
       intro H w base v0 H' hr ha hfr K Q hK
       simp only [EffA.app,Option.some.injEq,Prod.mk.injEq] at ha
       obtain ⟨rfl,rfl⟩:=ha
       obtain ⟨v',e1,e2⟩:=extA_ok (P:=P) h3 (LR.append hl ⟨hs,hc⟩) w
       have hrun:(execOp a.eval o).run P w=.ok (.value v') w:=by
        have:(execOp a.eval o).run P w=(callFunc fid (c.args.map a.eval++cap')).run P w:=by
         simp only [execOp,ho,resolve,hcal,hz,Deferred.ofValue,pure_bind,invoke]
         simp
        rw [this,e1]
       unfold Oper.wp
       rw [hrun,Oper.upon_value]
       exact hK σ v' w e2 hr (Frm.refl _ _ _) (Only.refl _ _)
     ·obtain ⟨fn,hfn,hbody,hname⟩:=bodied_ok hb
      have hv:=hρ f _ hf
      generalize hz:a.eval f=z at hv
      cases hv with
      | @fn _ _ cap' hs hc =>
       intro H w base v H' hr ha hfr K Q hK
       have hrun:(execOp a.eval o).run P w=.ok (.enter fid (c.args.map a.eval++cap')) w:=by
        simp only [execOp,ho,resolve,hcal,hz,Deferred.ofValue,pure_bind,invoke,callFunc,Sem.run_bind,run_program,Result.andThen_ok,hfn,hname,hbody,Bool.false_eq_true,if_false,Sem.run_pure]
        simp
       unfold Oper.wp
       rw [hrun,Oper.upon_enter]
       refine (hcs fid _ e h σ _ H w base v H' (LR.append hl ⟨hs,hc⟩) hg hr ha hfr).mono fun r w' hrw => ?_
       obtain ⟨σ',v',rfl,g1,g2,g3,g4⟩:=hrw
       exact hK σ' v' w' g1 g2 g3 g4
    ·rename_i fid n off hf
     cases hb:bodied P fid <;> rw [hb] at h <;> simp only [cond_true,cond_false] at h
     ·cases h
     ·obtain ⟨fn,hfn,hbody,hname⟩:=bodied_ok hb
      have hv:=hρ f _ hf
      generalize hz:a.eval f=z at hv
      cases hv with
      | @mth _ _ _ p hp =>
       intro H w base v H' hr ha hfr K Q hK
       have hrun:(execOp a.eval o).run P w=.ok (.enter fid (#[.pointer (some ⟨p.blk,p.sh+off,none⟩)]++c.args.map a.eval)) w:=by
        simp only [execOp,ho,resolve,hcal,hz,Deferred.ofValue,pure_bind,invoke,callFunc,Sem.run_bind,run_program,Result.andThen_ok,hfn,hname,hbody,Bool.false_eq_true,if_false,Sem.run_pure]
        simp
       unfold Oper.wp
       rw [hrun,Oper.upon_enter]
       refine (hcs fid _ e h σ _ H w base v H' (LR.append (LR.cons (.ptr hp) (LR.nil σ)) hl) hg hr ha hfr).mono fun r w' hrw => ?_
       obtain ⟨σ',v',rfl,g1,g2,g3,g4⟩:=hrw
       exact hK σ' v' w' g1 g2 g3 g4
    ·cases h
   ·cases h
 ·rename_i t r ho
  split at h
  ·cases h
   exact .of_value (s:=Instr.makeMap t none) (by simp [execOp,ho]) fun H w base v H' hr ha hf=>makeMapA_ok ha hr hf
  ·cases h
 ·rename_i t x k ok ho
  split at h
  ·rename_i vx vk h1 h2
   exact .of_read (s:=Instr.lookup t (a.eval x) (a.eval k) ok) (by simp [execOp,ho]) fun H H' w base u ha hr=>lookupA_ok h (hρ x vx h1) (hρ k vk h2) ha hr
  ·cases h
 ·rename_i t m k x ho
  split at h
  ·rename_i vm vk vx h1 h2 h3
   intro H w base v H' hr ha hf K Q hK
   obtain ⟨rfl,w',g1,g2,g3⟩:=mapUpdateA_ok h (hρ m vm h1) (hρ k vk h2) (hρ x vx h3) ha hr
   have he:execOp a.eval o=(do Instr.mapUpdate t (a.eval m) (a.eval k) (a.eval x); pure .skip):=by simp [execOp,ho]
   unfold Oper.wp
   rw [he]
   simp only [Sem.run_bind,g1,Result.andThen_ok,Sem.run_pure,Oper.upon_skip]
   exact hK σ undef w' (.tup rfl fun i v v' h=>by simp at h) g2 g3 (Only.refl _ _)
  ·cases h
 ·rename_i t m k x ho
  split at h
  ·rename_i vm vk vx h1 h2 h3
   intro H w base v H' hr ha hf K Q hK
   obtain ⟨rfl,w',g1,g2,g3⟩:=mapUpdateA_ok h (hρ m vm h1) (hρ k vk h2) (hρ x vx h3) ha hr
   have he:execOp a.eval o=(do Instr.mapUpdate t (a.eval m) (a.eval k) (a.eval x); pure .skip):=by simp [execOp,ho]
   unfold Oper.wp
   rw [he]
   simp only [Sem.run_bind,g1,Result.andThen_ok,Sem.run_pure,Oper.upon_skip]
   exact hK σ undef w' (.tup rfl fun i v v' h=>by simp at h) g2 g3 (Only.refl _ _)
  ·cases h
 ·cases h
end Go.Eng
namespace Go.Eng
open Go
abbrev TL:=List (Nat × AVal)
abbrev HL:=List (Nat × AObj)
def wantA (ops:Array Oper) (τ:Nat→Option AVal) (o:Oper):Option Bool:=
 match o.guard with
 | none=>some true
 | some (j,want)=>match ops[j]? with
  | none=>some false
  | some g=>match g.dst with
   | none=>some false
   | some d=>match τ d with
    | some (.bool b)=>some (b == want)
    | some (.tup _)=>some false
    | _=>none
def putT (nt:Nat) (T:TL) (dst:Option Tmp) (v:AVal):Option TL:=
 match dst with
 | none=>some T
 | some d=>cond (Nat.ble (d+1) nt) (some (aset T d v)) none
structure RRel (P:Program) (σ:Sig) (nt:Nat) (T:TL) (H:HL) (a:Act) (w:World):Prop where
 tmps:TRel σ (aget T) a
 size:a.tmps.size=nt
 defers:a.defers=[]
 heap:HRel σ (aget H) w
 glob:GRel P σ
theorem TRel.mono {σ σ':Sig}(h:Sig.le σ σ'){T:Tmps}{a:Act}(ht:TRel σ T a):TRel σ' T a:=fun s v hv=>by
 obtain ⟨v',h1,h2⟩:=ht s v hv
 exact ⟨v',h1,h2.mono h⟩
theorem RRel.env {P:Program}{σ:Sig}{nt:Nat}{T:TL}{H:HL}{a:Act}{w:World}(h:RRel P σ nt T H a w):Env σ (opd P (aget T)) a.eval:=fun _ _ hx=>opd_ok hx h.tmps h.glob
theorem RRel.put {P:Program}{σ σ':Sig}{nt:Nat}{T T':TL}{H H':HL}{a:Act}{w w':World}(h:RRel P σ nt T H a w) (hl:Sig.le σ σ') (hH:HRel σ' (aget H') w'){dst:Option Tmp}{v:AVal}{v':Value}(hv:VR σ' v v')
  (hp:putT nt T dst v=some T'):RRel P σ' nt T' H' (a.put dst v') w':=by
 cases dst with
 | none =>
  simp only [putT,Option.some.injEq] at hp
  subst hp
  exact ⟨h.tmps.mono hl,h.size,h.defers,hH,h.glob.mono hl⟩
 | some d =>
  simp only [putT] at hp
  cases hb:Nat.ble (d+1) nt <;> rw [hb] at hp <;> simp only [cond_true,cond_false,Option.some.injEq] at hp
  ·cases hp
  ·subst hp
   have hd:=Nat.le_of_ble_eq_true hb
   refine ⟨fun s u hu => ?_,by simp [Act.put,h.size],h.defers,hH,h.glob.mono hl⟩
   rw [aget_aset] at hu
   split at hu
   ·rename_i e
    subst e; cases hu
    exact ⟨v',by simp only [Act.put]; rw [Array.getElem?_setIfInBounds_self,if_pos (by rw [h.size]; omega)],hv⟩
   ·rename_i e
    obtain ⟨u',h1,h2⟩:=h.tmps s u hu
    exact ⟨u',by simp [Act.put,Array.getElem?_setIfInBounds_ne e,h1],h2.mono hl⟩
theorem wantA_ok {P:Program}{σ:Sig}{nt:Nat}{T:TL}{H:HL}{a:Act}{w:World}(h:RRel P σ nt T H a w){ops:Array Oper}{o:Oper}{b:Bool}(hw:wantA ops (aget T) o=some b) :
  Region.wanted o (yielded ops a.tmps)=b:=by
 unfold wantA at hw
 unfold Region.wanted
 split at hw
 ·rename_i hg
  cases hw
  simp [hg]
 ·rename_i j want hg
  simp only [hg]
  split at hw
  ·rename_i hj
   cases hw
   simp [yielded,hj]
  ·rename_i g hj
   split at hw
   ·rename_i hd
    cases hw
    simp [yielded,hj,hd]
   ·rename_i d hd
    split at hw
    ·rename_i t ht
     cases hw
     obtain ⟨v',h1,h2⟩:=h.tmps d _ ht
     cases h2
     simp [yielded,hj,hd,h1]
    ·rename_i vs ht
     cases hw
     obtain ⟨v',h1,h2⟩:=h.tmps d _ ht
     cases h2
     simp [yielded,hj,hd,h1]
    ·cases hw
def stepA (P:Program) (cs:CS) (nt:Nat) (ops:Array Oper) (base:Nat) (o:Oper) (T:TL) (H:HL):Option (TL × HL):=
 match wantA ops (aget T) o with
 | none=>none
 | some false=>match putT nt T o.dst (.tup []) with
  | some T'=>some (T',H)
  | none=>none
 | some true=>match effA P cs (opd P (aget T)) o with
  | none=>none
  | some e=>match e.app base H with
   | none=>none
   | some (v,H')=>match putT nt T o.dst v with
    | some T'=>some (T',H')
    | none=>none
theorem stepA_ok {P:Program}{cs:CS}(hcs:CSOk P cs){σ:Sig}{nt:Nat}{T T':TL}{H H':HL}{a:Act}{w:World}{ops:Array Oper}{base i:Nat}{o:Oper}(hi:ops[i]? = some o) (h:stepA P cs nt ops base o T H=some (T',H')) (hr:RRel P σ nt T H a w)
  (hf:Free σ base) {K:Act→World→Prop} {Q:Exit→Act→World→Prop}
  (hK:∀ σ' a' w',RRel P σ' nt T' H' a' w'→Frm σ (aget H) w σ' (aget H') w'→Only σ σ' base→K a' w'):wpOp P ops Q i K a w:=by
 unfold stepA at h
 unfold wpOp
 simp only [hi]
 split at h
 ·cases h
 ·rename_i hw
  rw [wantA_ok hr hw]
  simp only [Bool.false_eq_true,if_false]
  split at h
  ·rename_i T1 hp
   cases h
   exact hK σ _ w (hr.put (Sig.le_refl σ) hr.heap (.tup rfl fun i v v' h=>by simp at h) hp) (Frm.refl _ _ _) (Only.refl _ _)
  ·cases h
 ·rename_i hw
  rw [wantA_ok hr hw]
  simp only [if_true]
  split at h
  ·cases h
  ·rename_i e he
   split at h
   ·cases h
   ·rename_i v H1 ha
    split at h
    ·rename_i T1 hp
     cases h
     refine .inl (effA_ok hcs hr.env hr.glob he H w base v H' hr.heap ha hf K Q fun σ' v' w' h1 h2 h3 h4 => ?_)
     exact hK σ' _ w' (hr.put h3.ext h2 h1 hp) h3 h4
    ·cases h
def runA (P:Program) (cs:CS) (nt:Nat) (ops:Array Oper):List Oper→Nat→TL→HL→Option (TL × HL)
 | [],_,T,H=>some (T,H)
 | o::l,base,T,H=>match stepA P cs nt ops base o T H with
  | none=>none
  | some (T',H')=>runA P cs nt ops l (base+8) T' H'
def Fresh (σ:Sig) (fr:Nat):Prop:=∀ n,fr≤n→σ n=none
theorem Fresh.free {σ:Sig}{fr:Nat}(h:Fresh σ fr):Free σ fr:=fun j _=>h _ (by omega)
theorem Fresh.only {σ σ':Sig}{fr:Nat}(h:Fresh σ fr) (ho:Only σ σ' fr):Fresh σ' (fr+8):=fun n hn=>by rw [ho n (.inr (by omega))]; exact h n (by omega)
theorem runA_ok {P:Program}{cs:CS}(hcs:CSOk P cs){nt:Nat}{ops:Array Oper}{Q:Exit→Act→World→Prop}:∀ (l:List Oper) (k base:Nat) (σ:Sig) (T T':TL) (H H':HL) (a:Act) (w:World),(∀ j,l[j]? = ops[k+j]?) →
  runA P cs nt ops l base T H=some (T',H')→RRel P σ nt T H a w→Fresh σ base →
  (∀ σ' a' w',RRel P σ' nt T' H' a' w'→Frm σ (aget H) w σ' (aget H') w'→Fresh σ' (base+8 * l.length)→Q .normal a' w')→wpOps P ops Q (List.range' k l.length) a w:=by
 intro l
 induction l with
 | nil =>
  intro k base σ T T' H H' a w _ h hr hf hQ
  simp only [runA,Option.some.injEq,Prod.mk.injEq] at h
  obtain ⟨rfl,rfl⟩:=h
  exact hQ σ a w hr (Frm.refl _ _ _) (by simpa using hf)
 | cons o l ih =>
  intro k base σ T T' H H' a w hl h hr hf hQ
  simp only [runA] at h
  split at h
  ·cases h
  ·rename_i T1 H1 h1
   have hi:ops[k]? = some o:=by simpa using (hl 0).symm
   simp only [List.length_cons,List.range'_succ,wpOps_cons]
   refine stepA_ok hcs hi h1 hr hf.free fun σ' a' w' g1 g2 g3 => ?_
   refine ih (k+1) (base+8) σ' T1 T' H1 H' a' w' (fun j=>by have:=hl (j+1); simpa [Nat.add_assoc,Nat.add_comm 1 j] using this) h g1 (hf.only g3) fun σ'' a'' w'' q1 q2 q3 => ?_
   exact hQ σ'' a'' w'' q1 (g2.trans q2) (by simp only [List.length_cons]; rw [show base+8 * (l.length+1)=base+8+8 * l.length by omega]; exact q3)
end Go.Eng
namespace Go.Eng
open Go
def bef1:List Edge→List Nat→Nat
 | [],_=>0
 | e::es,acc=>cond (Region.binds .any e) (2 ^ e.on ||| acc.getD e.on 0 ||| bef1 es acc) (bef1 es acc)
def befs:List Oper→List Nat→List Nat
 | [],acc=>acc
 | o::l,acc=>befs l (acc++[bef1 o.after.toList acc])
def LL (listed:Array Bool) (i:Nat):Prop:=listed.getD i false=true
def DC (ops:Array Oper) (listed:Array Bool):Prop:=∀ i o,LL listed i→ops[i]? = some o→∀ e ∈ o.after,Region.binds .any e=true→LL listed e.on
theorem bef1_bit {acc:List Nat}{k:Nat}:∀ {es:List Edge},(bef1 es acc).testBit k=true→∃ e ∈ es,Region.binds .any e=true∧(e.on=k ∨ (acc.getD e.on 0).testBit k=true)
 | [],h=>by simp [bef1] at h
 | e::es,h=>by
  simp only [bef1] at h
  cases hb:Region.binds .any e <;> rw [hb] at h <;> simp only [cond_true,cond_false] at h
  ·obtain ⟨e',h1,h2⟩:=bef1_bit h
   exact ⟨e',by simp [h1],h2⟩
  ·simp only [Nat.testBit_or,Bool.or_eq_true] at h
   rcases h with (h | h) | h
   ·refine ⟨e,by simp,hb,.inl ?_⟩
    simpa [Nat.testBit_two_pow] using h
   ·exact ⟨e,by simp,hb,.inr h⟩
   ·obtain ⟨e',h1,h2⟩:=bef1_bit h
    exact ⟨e',by simp [h1],h2⟩
def TabOk (ops:Array Oper) (listed:Array Bool) (acc:List Nat):Prop:=
 ∀ (j b:Nat),acc[j]? = some b→∀ (o:Oper),ops[j]? = some o→(∀ e ∈ o.after,Region.binds .any e=true→LL listed e.on)→∀ k,b.testBit k=true→LL listed k
theorem befs_ok {ops:Array Oper}{listed:Array Bool}(hd:DC ops listed):∀ (l:List Oper) (acc:List Nat),(∀ j,l[j]? = ops[acc.length+j]?)→TabOk ops listed acc→TabOk ops listed (befs l acc)
 | [],acc,_,h=>h
 | o::l,acc,hl,h=>by
  simp only [befs]
  refine befs_ok hd l _ (fun j=>by have:=hl (j+1); simpa [Nat.add_assoc,Nat.add_comm 1 j] using this) ?_
  intro j b hj oj hoj hall k hk
  by_cases hlt:j < acc.length
  ·rw [List.getElem?_append_left hlt] at hj
   exact h j b hj oj hoj hall k hk
  ·rw [List.getElem?_append_right (by omega)] at hj
   have hje:j=acc.length:=by
    have:=(List.getElem?_eq_some_iff.1 hj).1
    simp at this; omega
   subst hje
   simp at hj
   subst hj
   have ho:ops[acc.length]? = some o:=by simpa using (hl 0).symm
   rw [ho] at hoj; cases hoj
   obtain ⟨e,he,hb,hor⟩:=bef1_bit hk
   have hle:=hall e (by simpa using he) hb
   rcases hor with rfl | hbit
   ·exact hle
   ·cases hacc:acc[e.on]? with
    | none=>rw [List.getD_eq_getElem?_getD,hacc] at hbit; simp at hbit
    | some b =>
     rw [List.getD_eq_getElem?_getD,hacc] at hbit
     have hlt2:e.on < acc.length:=(List.getElem?_eq_some_iff.1 hacc).1
     cases hoo:ops[e.on]? with
     | none =>
      have h1:=Array.getElem?_eq_none_iff.1 hoo
      have h2:=(Array.getElem?_eq_some_iff.1 ho).1
      omega
     | some oe=>exact h e.on b hacc oe hoo (hd e.on oe hle hoo) k hbit
inductive EKd where
 | no
 | look
 | read (n:Nat)
 | new
 | any
 | one (n:Nat)
 | anyk (ks:List Nat)
 deriving DecidableEq
def EffA.cls:EffA→EKd
 | .pure _=>.no
 | .read n _=>.read n
 | .alloc _ _=>.new
 | .eff _=>.any
 | .effk ks _=>.anyk ks
 | .look _ _=>.look
 | .also _ _ _=>.look
 | .one n _=>.one n
def compat (c d:EKd):Bool:=
 match c,d with
 | .no,_=>true
 | _,.no=>true
 | .any,_=>false
 | _,.any=>false
 | .anyk ks,.read n=>ks.any (Nat.beq n)
 | .read n,.anyk ks=>ks.any (Nat.beq n)
 | .anyk _,_=>false
 | _,.anyk _=>false
 | .one n,.one m => !Nat.beq n m
 | .one n,.read m => !Nat.beq n m
 | .read n,.one m => !Nat.beq n m
 | .one _,_=>false
 | _,.one _=>false
 | _,_=>true
theorem beq_no {n m:Nat}(h:(!Nat.beq n m)=true):n ≠ m:=fun e=>by
 subst e
 rw [Nat.beq_refl] at h
 cases h
theorem any_mem {n:Nat}{ks:List Nat}(h:ks.any (Nat.beq n)=true):n ∈ ks:=by
 obtain ⟨x,hx,e⟩:=List.any_eq_true.1 h
 rw [Nat.eq_of_beq_eq_true e]
 exact hx
theorem compat_facts {c d:EKd}(h:compat c d=true) (hc:c ≠ .no) (hd:d ≠ .no):(c ≠ .any∧d ≠ .any)∧(∀ n,d=.one n→∃ m,(c=.read m ∨ c=.one m)∧m ≠ n)∧(∀ n,c=.one n→∃ m,(d=.read m ∨ d=.one m)∧n ≠ m) ∧
  (∀ ks,c=.anyk ks→∃ n,d=.read n∧n ∈ ks)∧(∀ ks,d=.anyk ks→∃ n,c=.read n∧n ∈ ks):=by
 cases c <;> cases d <;> first
  | exact absurd rfl hc
  | exact absurd rfl hd
  | (cases h; done)
  | skip
 all_goals refine ⟨⟨(fun e=>by cases e),(fun e=>by cases e)⟩,fun n e => ?_,fun n e => ?_,fun n e => ?_,fun n e => ?_⟩
 all_goals first
  | (cases e; done)
  | (cases e; exact ⟨_,.inl rfl,beq_no h⟩)
  | (cases e; exact ⟨_,.inr rfl,beq_no h⟩)
  | (cases e; exact ⟨_,rfl,any_mem h⟩)
def sees (fr bef:Nat):EffA→Bool
 | .read n _=>Nat.ble (n+1) fr || bef.testBit ((n - fr) / 8)
 | .look m _=>Nat.ble m fr
 | .also m q _=>Nat.ble m fr && (Nat.ble (q+1) fr || bef.testBit ((q - fr) / 8))
 | .one n _=>Nat.ble (n+1) fr || bef.testBit ((n - fr) / 8)
 | _=>true
def kindA (P:Program) (cs:CS) (ops:Array Oper) (o:Oper) (T:TL):Option (Option EffA):=
 match wantA ops (aget T) o with
 | none=>none
 | some false=>some none
 | some true=>match effA P cs (opd P (aget T)) o with
  | none=>none
  | some e=>some (some e)
def stepE (nt:Nat) (base:Nat) (o:Oper) (e:Option EffA) (T:TL) (H:HL):Option (TL × HL):=
 match e with
 | none=>match putT nt T o.dst (.tup []) with
  | some T'=>some (T',H)
  | none=>none
 | some e=>match e.app base H with
  | none=>none
  | some (v,H')=>match putT nt T o.dst v with
   | some T'=>some (T',H')
   | none=>none
def clsO:Option EffA→EKd
 | none=>.no
 | some e=>e.cls
def seesO (fr bef:Nat):Option EffA→Bool
 | none=>true
 | some e=>sees fr bef e
theorem stepA_kind {P:Program}{cs:CS}{nt:Nat}{ops:Array Oper}{base:Nat}{o:Oper}{T:TL}{H:HL}:stepA P cs nt ops base o T H=match kindA P cs ops o T with
  | none=>none
  | some e=>stepE nt base o e T H:=by
 unfold stepA kindA stepE
 cases wantA ops (aget T) o with
 | none=>rfl
 | some b =>
  cases b with
  | false=>rfl
  | true=>cases effA P cs (opd P (aget T)) o <;> rfl
theorem evL_congr {ρ ρ':Operand→Option AVal}:∀ {l:List Operand},(∀ x ∈ l,ρ x=ρ' x)→evL ρ l=evL ρ' l
 | [],_=>rfl
 | x::l,h=>by simp only [evL,h x (by simp),evL_congr (l:=l) fun y hy=>h y (by simp [hy])]
theorem evP_congr {ρ ρ':Operand→Option AVal}:∀ {l:List (Nat × Operand)},(∀ p ∈ l,ρ p.2=ρ' p.2)→evP ρ l=evP ρ' l
 | [],_=>rfl
 | (i,x)::l,h=>by
  have h1:=h (i,x) (by simp)
  simp only at h1
  simp only [evP,h1,evP_congr (l:=l) fun y hy=>h y (by simp [hy])]
theorem evO_congr {ρ ρ':Operand→Option AVal}{x:Option Operand}(h:∀ y,x=some y→ρ y=ρ' y):evO ρ x=evO ρ' x:=by
 cases x with
 | none=>rfl
 | some y=>simp only [evO,h y rfl]
theorem effA_congr {P:Program}{cs:CS}{ρ ρ':Operand→Option AVal}{o:Oper}(h:∀ x ∈ o.op.operands,ρ x=ρ' x):effA P cs ρ o=effA P cs ρ' o:=by
 obtain ⟨dst,op,type,pos,after,guard⟩:=o
 simp only [effA]
 cases op
 case move x=>simp only; rw [h x (by simp [Op.operands])]
 case assign x=>simp only; rw [h x (by simp [Op.operands])]
 case pick c a b=>simp only; rw [h c (by simp [Op.operands]),h a (by simp [Op.operands]),h b (by simp [Op.operands])]
 case box t x=>simp only; rw [h x (by simp [Op.operands])]
 case build t ps=>simp only; rw [evP_congr (ρ':=ρ') fun p hp=>h p.2 (by simp [Op.operands]; exact ⟨p.1,by simpa using hp⟩)]
 case buildSlice t n ps=>simp only; rw [evP_congr (ρ':=ρ') fun p hp=>h p.2 (by simp [Op.operands]; exact ⟨p.1,by simpa using hp⟩)]
 case load t x=>simp only; rw [h x (by simp [Op.operands])]
 case store t x v=>simp only; rw [h x (by simp [Op.operands]),h v (by simp [Op.operands])]
 case nilCheck x=>simp only; rw [h x (by simp [Op.operands])]
 case binOp op t x y t'=>simp only; rw [h x (by simp [Op.operands]),h y (by simp [Op.operands])]
 case unOp op t x=>simp only; rw [h x (by simp [Op.operands])]
 case convert s d x=>simp only; rw [h x (by simp [Op.operands])]
 case makeInterface t x=>simp only; rw [h x (by simp [Op.operands])]
 case makeFunc fn first captured=>simp only; rw [evL_congr (l:=captured.toList) (ρ':=ρ') fun x hx=>h x (by simp [Op.operands]; exact .inr (by simpa using hx)),evL_congr (l:=first.toList) (ρ':=ρ') fun x hx=>h x (by simp [Op.operands]; exact .inl (by simpa using hx))]
 case makeSlice t l c=>simp only; rw [h l (by simp [Op.operands]),h c (by simp [Op.operands])]
 case slice t x lo hi mx =>
  have h1:ρ x=ρ' x:=h x (by simp [Op.operands])
  have h2:evO ρ lo=evO ρ' lo:=evO_congr fun y hy=>h y (by simp [Op.operands,hy])
  have h3:evO ρ hi=evO ρ' hi:=evO_congr fun y hy=>h y (by simp [Op.operands,hy])
  simp only
  rw [h1,h2,h3]
  cases mx with
  | none =>
   generalize ρ' x=a
   generalize evO ρ' lo=b
   generalize evO ρ' hi=c
   cases a <;> cases b <;> cases c <;> rfl
  | some m =>
   have h4:ρ m=ρ' m:=h m (by simp [Op.operands])
   generalize ρ' x=a
   generalize evO ρ' lo=b
   generalize evO ρ' hi=c
   cases a with
   | none=>rfl
   | some a =>
    cases b with
    | none=>rfl
    | some b =>
     cases c with
     | none=>rfl
     | some c =>
      cases c with
      | none=>rfl
      | some c=>simp only [h4]
 case fieldAddr t x k=>simp only; rw [h x (by simp [Op.operands])]
 case field t x k=>simp only; rw [h x (by simp [Op.operands])]
 case indexAddr t x i=>simp only; rw [h x (by simp [Op.operands]),h i (by simp [Op.operands])]
 case index t x i=>simp only; rw [h x (by simp [Op.operands]),h i (by simp [Op.operands])]
 case extract x k=>simp only; rw [h x (by simp [Op.operands])]
 case call c =>
  have h1:evL ρ c.args.toList=evL ρ' c.args.toList:=evL_congr fun x hx=>h x (by simp [Op.operands,Call.operands]; exact .inr (by simpa using hx))
  simp only
  rw [h1]
  cases hc:c.callee with
  | builtin b=>rfl
  | invoke r m=>rfl
  | value f =>
   have h2:ρ f=ρ' f:=h f (by simp [Op.operands,Call.operands,hc])
   simp only [h2]
 case lookup t x k ok=>simp only; rw [h x (by simp [Op.operands]),h k (by simp [Op.operands])]
 case mapUpdate t m k x=>simp only; rw [h m (by simp [Op.operands]),h k (by simp [Op.operands]),h x (by simp [Op.operands])]
 case insert t m k x=>simp only; rw [h m (by simp [Op.operands]),h k (by simp [Op.operands]),h x (by simp [Op.operands])]
 all_goals rfl
end Go.Eng
namespace Go.Eng
open Go
def heapE (base:Nat) (e:Option EffA) (H:HL):Option (AVal × HL):=
 match e with
 | none=>some (.tup [],H)
 | some e=>e.app base H
theorem stepE_eq {nt base:Nat}{o:Oper}{e:Option EffA}{T:TL}{H:HL}{T':TL}{H':HL}:stepE nt base o e T H=some (T',H') ↔ ∃ v,heapE base e H=some (v,H')∧putT nt T o.dst v=some T':=by
 have key:∀ (x:Option (AVal × HL)),(match x with
   | none=>none
   | some (v,H')=>match putT nt T o.dst v with
    | some T'=>some (T',H')
    | none=>none)=some (T',H') ↔ ∃ v,x=some (v,H')∧putT nt T o.dst v=some T':=fun x=>by
  cases x with
  | none=>exact ⟨fun h=>(by cases h),fun ⟨v,h,_⟩=>(by cases h)⟩
  | some p =>
   obtain ⟨v,H1⟩:=p
   cases hp:putT nt T o.dst v with
   | none =>
    simp only [hp]
    exact ⟨fun h=>(by cases h),fun ⟨u,h,h2⟩=>(by cases h; rw [hp] at h2; cases h2)⟩
   | some T1 =>
    simp only [hp]
    exact ⟨fun h=>(by cases h; exact ⟨v,rfl,hp⟩),fun ⟨u,h,h2⟩=>(by cases h; rw [hp] at h2; cases h2; rfl)⟩
 cases e with
 | none=>exact key (some (.tup [],H))
 | some e=>exact key (e.app base H)
theorem appU_ext:∀ (us:List (Nat × Option AObj)){H H':HL},aget H=aget H'→aget (appU H us)=aget (appU H' us)
 | [],_,_,h=>h
 | (n,some o)::us,H,H',h=>appU_ext us (by rw [aget_aset_fun,aget_aset_fun,h])
 | (n,none)::us,H,H',h=>appU_ext us (by funext m; rw [aget_adel,aget_adel,h])
theorem keep_get {ks:List Nat}{us:List (Nat × Option AObj)}{n:Nat}(hn:n ∈ ks) (H:HL) (h:keepB ks (aget H) us=true):aget (appU H us) n=aget H n:=by
 have key:∀ (us:List (Nat × Option AObj)) (X:HL),aget X n=aget H n→(∀ m x,(m,x) ∈ us→m=n→x=aget H n)→aget (appU X us) n=aget H n:=by
  intro us
  induction us with
  | nil=>intro X hX _; exact hX
  | cons p us ih =>
   intro X hX hu
   obtain ⟨m,x⟩:=p
   have hm:=hu m x (List.mem_cons_self ..)
   cases x with
   | some o =>
    refine ih (aset X m o) ?_ fun k y hk=>hu k y (List.mem_cons_of_mem _ hk)
    rw [aget_aset]
    split
    ·rename_i e; exact hm e
    ·exact hX
   | none =>
    refine ih (adel X m) ?_ fun k y hk=>hu k y (List.mem_cons_of_mem _ hk)
    rw [aget_adel]
    split
    ·rename_i e; exact hm e
    ·exact hX
 refine key us H rfl fun m x hm e => ?_
 have:=List.all_eq_true.1 (List.all_eq_true.1 h _ hm) _ hn
 simp only at this
 subst e
 rw [Nat.beq_refl,cond_true] at this
 exact eqO0_ok this
theorem effk_app {base:Nat}{ks:List Nat}{f:Nat→(Nat→Option AObj)→Option (AVal × List (Nat × Option AObj))}{H H':HL}{v:AVal}(h:(EffA.effk ks f).app base H=some (v,H')):∃ us,f base (aget H)=some (v,us)∧keepB ks (aget H) us=true∧H'=appU H us:=by
 simp only [EffA.app] at h
 cases hf:f base (aget H) with
 | none=>rw [hf] at h; cases h
 | some p =>
  obtain ⟨u,us⟩:=p
  rw [hf] at h
  simp only at h
  cases hk:keepB ks (aget H) us with
  | false=>rw [hk] at h; cases h
  | true =>
   rw [hk] at h
   simp only [cond_true,Option.some.injEq,Prod.mk.injEq] at h
   obtain ⟨rfl,rfl⟩:=h
   exact ⟨us,rfl,hk,rfl⟩
theorem heapE_ext {base:Nat}{e:Option EffA}{H1 H2 H1':HL}{v:AVal}(h:aget H1=aget H2) (ha:heapE base e H1=some (v,H1')):∃ H2',heapE base e H2=some (v,H2')∧aget H1'=aget H2':=by
 unfold heapE at *
 cases e with
 | none=>simp only [Option.some.injEq,Prod.mk.injEq] at ha ⊢; obtain ⟨rfl,rfl⟩:=ha; exact ⟨H2,⟨rfl,rfl⟩,h⟩
 | some e =>
  cases e with
  | pure u=>simp only [EffA.app,Option.some.injEq,Prod.mk.injEq] at ha ⊢; obtain ⟨rfl,rfl⟩:=ha; exact ⟨H2,⟨rfl,rfl⟩,h⟩
  | read n f =>
   simp only [EffA.app] at ha ⊢
   rw [← h]
   cases hn:aget H1 n with
   | none=>rw [hn] at ha; cases ha
   | some ob =>
    rw [hn] at ha
    simp only at ha ⊢
    cases hf:f ob with
    | none=>rw [hf] at ha; cases ha
    | some u=>rw [hf] at ha; simp only [Option.some.injEq,Prod.mk.injEq] at ha ⊢; obtain ⟨rfl,rfl⟩:=ha; exact ⟨H2,⟨rfl,rfl⟩,h⟩
  | look m f =>
   simp only [EffA.app] at ha ⊢
   rw [← h]
   cases hf:f (cutH m (aget H1)) with
   | none=>rw [hf] at ha; cases ha
   | some u=>rw [hf] at ha; simp only [Option.some.injEq,Prod.mk.injEq] at ha ⊢; obtain ⟨rfl,rfl⟩:=ha; exact ⟨H2,⟨rfl,rfl⟩,h⟩
  | also m q f =>
   simp only [EffA.app] at ha ⊢
   rw [← h]
   cases hf:f (alsoH m q (aget H1)) with
   | none=>rw [hf] at ha; cases ha
   | some u=>rw [hf] at ha; simp only [Option.some.injEq,Prod.mk.injEq] at ha ⊢; obtain ⟨rfl,rfl⟩:=ha; exact ⟨H2,⟨rfl,rfl⟩,h⟩
  | alloc ob u =>
   simp only [EffA.app,Option.some.injEq,Prod.mk.injEq] at ha ⊢
   obtain ⟨rfl,rfl⟩:=ha
   exact ⟨_,⟨rfl,rfl⟩,by rw [aget_aset_fun,aget_aset_fun,h]⟩
  | one n f =>
   simp only [EffA.app] at ha ⊢
   rw [← h]
   cases hn:aget H1 n with
   | none=>rw [hn] at ha; cases ha
   | some ob =>
    rw [hn] at ha
    simp only at ha ⊢
    cases hf:f ob with
    | none=>rw [hf] at ha; cases ha
    | some p =>
     obtain ⟨u,o'⟩:=p
     rw [hf] at ha
     simp only [Option.some.injEq,Prod.mk.injEq] at ha ⊢
     obtain ⟨rfl,rfl⟩:=ha
     exact ⟨_,⟨rfl,rfl⟩,by rw [aget_aset_fun,aget_aset_fun,h]⟩
  | effk ks f =>
   obtain ⟨us,e1,e2,rfl⟩:=effk_app ha
   refine ⟨appU H2 us,?_,appU_ext us h⟩
   simp only [EffA.app]
   rw [← h,e1]
   simp only [e2,cond_true]
  | eff f =>
   simp only [EffA.app] at ha ⊢
   rw [← h]
   cases hf:f base (aget H1) with
   | none=>rw [hf] at ha; cases ha
   | some p =>
    obtain ⟨u,us⟩:=p
    rw [hf] at ha
    simp only [Option.some.injEq,Prod.mk.injEq] at ha ⊢
    obtain ⟨rfl,rfl⟩:=ha
    exact ⟨_,⟨rfl,rfl⟩,appU_ext us h⟩
def updT (τ:Nat→Option AVal) (dst:Option Tmp) (v:AVal):Nat→Option AVal:=
 match dst with
 | none=>τ
 | some d=>upd τ d v
theorem putT_get {nt:Nat}{T T':TL}{dst:Option Tmp}{v:AVal}(h:putT nt T dst v=some T'):aget T'=updT (aget T) dst v:=by
 cases dst with
 | none=>simp only [putT,Option.some.injEq] at h; subst h; rfl
 | some d =>
  simp only [putT] at h
  cases hb:Nat.ble (d+1) nt <;> rw [hb] at h <;> simp only [cond_true,cond_false,Option.some.injEq] at h
  ·cases h
  ·subst h; exact aget_aset_fun T d v
theorem putT_some {nt:Nat}{T T2:TL}{dst:Option Tmp}{v:AVal}{T':TL}(h:putT nt T dst v=some T') (u:AVal):∃ T'',putT nt T2 dst u=some T'':=by
 cases dst with
 | none=>exact ⟨T2,rfl⟩
 | some d =>
  simp only [putT] at h ⊢
  cases hb:Nat.ble (d+1) nt <;> rw [hb] at h <;> simp only [cond_true,cond_false] at h ⊢
  ·cases h
  ·exact ⟨_,rfl⟩
theorem kindA_congr {P:Program}{cs:CS}{ops:Array Oper}{o:Oper}{T T':TL}(h:∀ t ∈ o.looksAt ops,aget T t=aget T' t):kindA P cs ops o T=kindA P cs ops o T':=by
 have hw:wantA ops (aget T) o=wantA ops (aget T') o:=by
  unfold wantA
  cases hg:o.guard with
  | none=>rfl
  | some p =>
   obtain ⟨j,want⟩:=p
   simp only
   cases hj:ops[j]? with
   | none=>rfl
   | some g =>
    simp only
    cases hd:g.dst with
    | none=>rfl
    | some d =>
     simp only
     rw [h d (by simp [Oper.looksAt,hg,hj,hd])]
 have he:effA P cs (opd P (aget T)) o=effA P cs (opd P (aget T')) o:=effA_congr fun x hx=>by
  cases x with
  | tmp t =>
   exact h t (List.mem_append_left _ (List.mem_filterMap.2 ⟨.tmp t,by simpa using hx,rfl⟩))
  | const c=>rfl
  | global g=>rfl
  | func f=>rfl
 unfold kindA
 rw [hw,he]
theorem heap_commute {fr k j bk bj:Nat}(hne:k ≠ j) (hbk:bk.testBit j=false) (hbj:bj.testBit k=false){ek ej:Option EffA}(hc:compat (clsO ek) (clsO ej)=true)
  (hsk:seesO fr bk ek=true) (hsj:seesO fr bj ej=true) {H H1 H2:HL} {vk vj:AVal} (h1:heapE (fr+8 * k) ek H=some (vk,H1)) (h2:heapE (fr+8 * j) ej H1=some (vj,H2)) :
  ∃ H1' H2',heapE (fr+8 * j) ej H=some (vj,H1')∧heapE (fr+8 * k) ek H1'=some (vk,H2')∧aget H2'=aget H2:=by
 have same:H1=H→∃ H1' H2',heapE (fr+8 * j) ej H=some (vj,H1')∧(H1'=H2):=fun e=>by subst e; exact ⟨H2,H2,h2,rfl⟩
 have hnm:fr+8 * k ≠ fr+8 * j:=by omega
 -- what leaves the heap alone,and does not look at it
 have quietK:(clsO ek=.no)→(∀ X,heapE (fr+8 * k) ek X=some (vk,X))∧H1=H:=fun h0=>by
  unfold heapE at h1 ⊢
  cases ek with
  | none=>simp only [Option.some.injEq,Prod.mk.injEq] at h1 ⊢; exact ⟨fun X=>by simp [h1.1],h1.2.symm⟩
  | some e =>
   cases e <;> simp only [clsO,EffA.cls] at h0 <;> try (cases h0; done)
   simp only [EffA.app,Option.some.injEq,Prod.mk.injEq] at h1 ⊢
   exact ⟨fun X=>by simp [h1.1],h1.2.symm⟩
 have quietJ:(clsO ej=.no)→(∀ X,heapE (fr+8 * j) ej X=some (vj,X))∧H2=H1:=fun h0=>by
  unfold heapE at h2 ⊢
  cases ej with
  | none=>simp only [Option.some.injEq,Prod.mk.injEq] at h2 ⊢; exact ⟨fun X=>by simp [h2.1],h2.2.symm⟩
  | some e =>
   cases e <;> simp only [clsO,EffA.cls] at h0 <;> try (cases h0; done)
   simp only [EffA.app,Option.some.injEq,Prod.mk.injEq] at h2 ⊢
   exact ⟨fun X=>by simp [h2.1],h2.2.symm⟩
 by_cases hk0:clsO ek=.no
 ·obtain ⟨q1,q2⟩:=quietK hk0
  subst q2
  exact ⟨H2,H2,h2,q1 H2,rfl⟩
 by_cases hj0:clsO ej=.no
 ·obtain ⟨q1,q2⟩:=quietJ hj0
  subst q2
  exact ⟨H,H2,q1 H,h1,rfl⟩
 -- both look at the heap or make blocks,or change one block
 obtain ⟨hc3,hcj,hck,hak,haj⟩:=compat_facts hc hk0 hj0
 cases ek with
 | none=>exact absurd rfl hk0
 | some ek =>
  cases ej with
  | none=>exact absurd rfl hj0
  | some ej =>
   simp only [heapE] at h1 h2 ⊢
   cases ek with
   | pure u=>exact absurd rfl hk0
   | eff f=>exact absurd rfl hc3.1
   | effk ks f =>
    obtain ⟨us,e1,e2,rfl⟩:=effk_app h1
    obtain ⟨n,hn,hmem⟩:=hak ks rfl
    cases ej with
    | read m g =>
     have hnm:n=m:=by cases hn; rfl
     rw [hnm] at hmem
     simp only [EffA.app] at h2 ⊢
     rw [keep_get hmem H e2] at h2
     cases hm:aget H m with
     | none=>rw [hm] at h2; cases h2
     | some ob' =>
      rw [hm] at h2
      simp only at h2 ⊢
      cases hg:g ob' with
      | none=>rw [hg] at h2; cases h2
      | some u' =>
       rw [hg] at h2
       simp only [Option.some.injEq,Prod.mk.injEq] at h2 ⊢
       refine ⟨H,appU H us,by simp [h2.1],?_,by rw [h2.2]⟩
       rw [e1]
       simp only [e2,cond_true]
    | pure u=>cases hn
    | alloc _ _=>cases hn
    | eff f=>cases hn
    | look _ _=>cases hn
    | also _ _ _=>cases hn
    | one _ _=>cases hn
    | effk _ _=>cases hn
   | read n f =>
    simp only [EffA.app] at h1
    cases hn:aget H n with
    | none=>rw [hn] at h1; cases h1
    | some ob =>
     rw [hn] at h1
     simp only at h1
     cases hf:f ob with
     | none=>rw [hf] at h1; cases h1
     | some u =>
      rw [hf] at h1
      simp only [Option.some.injEq,Prod.mk.injEq] at h1
      obtain ⟨rfl,rfl⟩:=h1
      refine ⟨H2,H2,h2,?_,rfl⟩
      have hn2:aget H2 n=some ob:=by
       cases ej with
       | pure u=>exact absurd rfl hj0
       | eff f=>exact absurd rfl hc3.2
       | effk ks f =>
        obtain ⟨us,e1,e2,rfl⟩:=effk_app h2
        obtain ⟨n',hn',hmem⟩:=haj ks rfl
        cases hn'
        rw [keep_get hmem H e2]
        exact hn
       | read m g =>
        simp only [EffA.app] at h2
        cases hm:aget H m with
        | none=>rw [hm] at h2; cases h2
        | some ob' =>
         rw [hm] at h2
         simp only at h2
         cases hg:g ob' with
         | none=>rw [hg] at h2; cases h2
         | some u'=>rw [hg] at h2; simp only [Option.some.injEq,Prod.mk.injEq] at h2; rw [← h2.2]; exact hn
       | look m' g =>
        simp only [EffA.app] at h2
        cases hg:g (cutH m' (aget H)) with
        | none=>rw [hg] at h2; cases h2
        | some u'=>rw [hg] at h2; simp only [Option.some.injEq,Prod.mk.injEq] at h2; rw [← h2.2]; exact hn
       | one m g =>
        simp only [EffA.app] at h2
        cases hm:aget H m with
        | none=>rw [hm] at h2; cases h2
        | some ob' =>
         rw [hm] at h2
         simp only at h2
         cases hg:g ob' with
         | none=>rw [hg] at h2; cases h2
         | some p =>
          rw [hg] at h2
          simp only [Option.some.injEq,Prod.mk.injEq] at h2
          obtain ⟨n',hn',h5⟩:=hcj m rfl
          have h6:n'=n:=by rcases hn' with e | e <;> cases e; rfl
          rw [← h2.2,aget_aset,if_neg (by omega)]
          exact hn
       | also m' q' g =>
        simp only [EffA.app] at h2
        cases hg:g (alsoH m' q' (aget H)) with
        | none=>rw [hg] at h2; cases h2
        | some u'=>rw [hg] at h2; simp only [Option.some.injEq,Prod.mk.injEq] at h2; rw [← h2.2]; exact hn
       | alloc ob' u' =>
        simp only [EffA.app,Option.some.injEq,Prod.mk.injEq] at h2
        rw [← h2.2,aget_aset]
        rw [if_neg]
        ·exact hn
        ·intro e
         simp only [seesO,sees,Bool.or_eq_true] at hsk
         rcases hsk with g | g
         ·have:=Nat.le_of_ble_eq_true g; omega
         ·have:(n - fr) / 8=j:=by omega
          rw [this,hbk] at g; cases g
      simp only [EffA.app,hn2,hf]
   | look m f =>
    simp only [EffA.app] at h1
    cases hf:f (cutH m (aget H)) with
    | none=>rw [hf] at h1; cases h1
    | some u =>
     rw [hf] at h1
     simp only [Option.some.injEq,Prod.mk.injEq] at h1
     obtain ⟨rfl,rfl⟩:=h1
     refine ⟨H2,H2,h2,?_,rfl⟩
     have hn2:cutH m (aget H2)=cutH m (aget H):=by
      cases ej with
      | pure u=>exact absurd rfl hj0
      | eff f=>exact absurd rfl hc3.2
      | effk ks f=>obtain ⟨n',hn',_⟩:=haj ks rfl; cases hn'
      | one m g=>obtain ⟨n',hn',_⟩:=hcj m rfl; rcases hn' with e | e <;> cases e
      | read m g =>
       simp only [EffA.app] at h2
       cases hm:aget H m with
       | none=>rw [hm] at h2; cases h2
       | some ob' =>
        rw [hm] at h2
        simp only at h2
        cases hg:g ob' with
        | none=>rw [hg] at h2; cases h2
        | some u'=>rw [hg] at h2; simp only [Option.some.injEq,Prod.mk.injEq] at h2; rw [← h2.2]
      | look m' g =>
       simp only [EffA.app] at h2
       cases hg:g (cutH m' (aget H)) with
       | none=>rw [hg] at h2; cases h2
       | some u'=>rw [hg] at h2; simp only [Option.some.injEq,Prod.mk.injEq] at h2; rw [← h2.2]
      | also m' q' g =>
       simp only [EffA.app] at h2
       cases hg:g (alsoH m' q' (aget H)) with
       | none=>rw [hg] at h2; cases h2
       | some u'=>rw [hg] at h2; simp only [Option.some.injEq,Prod.mk.injEq] at h2; rw [← h2.2]
      | alloc ob' u' =>
       simp only [EffA.app,Option.some.injEq,Prod.mk.injEq] at h2
       rw [← h2.2]
       funext n
       unfold cutH
       simp only [seesO,sees] at hsk
       have hm:=Nat.le_of_ble_eq_true hsk
       cases hb:Nat.ble (n+1) m with
       | false=>rfl
       | true =>
        have:=Nat.le_of_ble_eq_true hb
        rw [aget_aset,if_neg (by omega)]
     simp only [EffA.app,hn2,hf]
   | also m q f =>
    simp only [EffA.app] at h1
    cases hf:f (alsoH m q (aget H)) with
    | none=>rw [hf] at h1; cases h1
    | some u =>
     rw [hf] at h1
     simp only [Option.some.injEq,Prod.mk.injEq] at h1
     obtain ⟨rfl,rfl⟩:=h1
     refine ⟨H2,H2,h2,?_,rfl⟩
     have hn2:alsoH m q (aget H2)=alsoH m q (aget H):=by
      cases ej with
      | pure u=>exact absurd rfl hj0
      | eff f=>exact absurd rfl hc3.2
      | effk ks f=>obtain ⟨n',hn',_⟩:=haj ks rfl; cases hn'
      | one m g=>obtain ⟨n',hn',_⟩:=hcj m rfl; rcases hn' with e | e <;> cases e
      | read m g =>
       simp only [EffA.app] at h2
       cases hm:aget H m with
       | none=>rw [hm] at h2; cases h2
       | some ob' =>
        rw [hm] at h2
        simp only at h2
        cases hg:g ob' with
        | none=>rw [hg] at h2; cases h2
        | some u'=>rw [hg] at h2; simp only [Option.some.injEq,Prod.mk.injEq] at h2; rw [← h2.2]
      | look m' g =>
       simp only [EffA.app] at h2
       cases hg:g (cutH m' (aget H)) with
       | none=>rw [hg] at h2; cases h2
       | some u'=>rw [hg] at h2; simp only [Option.some.injEq,Prod.mk.injEq] at h2; rw [← h2.2]
      | also m' q' g =>
       simp only [EffA.app] at h2
       cases hg:g (alsoH m' q' (aget H)) with
       | none=>rw [hg] at h2; cases h2
       | some u'=>rw [hg] at h2; simp only [Option.some.injEq,Prod.mk.injEq] at h2; rw [← h2.2]
      | alloc ob' u' =>
       simp only [EffA.app,Option.some.injEq,Prod.mk.injEq] at h2
       rw [← h2.2]
       funext n
       unfold alsoH
       simp only [seesO,sees,Bool.and_eq_true,Bool.or_eq_true] at hsk
       obtain ⟨hm,hq⟩:=hsk
       have hm:=Nat.le_of_ble_eq_true hm
       cases hb:(Nat.ble (n+1) m || Nat.beq n q) with
       | false=>rfl
       | true =>
        rw [Bool.or_eq_true] at hb
        rw [aget_aset,if_neg]
        intro e
        rcases hb with hb | hb
        ·have:=Nat.le_of_ble_eq_true hb; omega
        ·have hnq:=Nat.eq_of_beq_eq_true hb
         rcases hq with g | g
         ·have:=Nat.le_of_ble_eq_true g; omega
         ·have:(q - fr) / 8=j:=by omega
          rw [this,hbk] at g; cases g
     simp only [EffA.app,hn2,hf]
   | one n f =>
    simp only [EffA.app] at h1
    obtain ⟨m',hm',h5⟩:=hck n rfl
    cases hn:aget H n with
    | none=>rw [hn] at h1; cases h1
    | some ob =>
     rw [hn] at h1
     simp only at h1
     cases hf:f ob with
     | none=>rw [hf] at h1; cases h1
     | some p =>
      obtain ⟨u,o'⟩:=p
      rw [hf] at h1
      simp only [Option.some.injEq,Prod.mk.injEq] at h1
      obtain ⟨rfl,rfl⟩:=h1
      cases ej with
      | pure u=>exact absurd rfl hj0
      | eff f=>exact absurd rfl hc3.2
      | effk ks f=>obtain ⟨n',hn',_⟩:=haj ks rfl; cases hn'
      | alloc _ _=>rcases hm' with e | e <;> cases e
      | look _ _=>rcases hm' with e | e <;> cases e
      | also _ _ _=>rcases hm' with e | e <;> cases e
      | read m g =>
       have h6:m'=m:=by rcases hm' with e | e <;> cases e; rfl
       simp only [EffA.app] at h2 ⊢
       rw [aget_aset,if_neg (by omega)] at h2
       cases hm:aget H m with
       | none=>rw [hm] at h2; cases h2
       | some ob' =>
        rw [hm] at h2
        simp only at h2 ⊢
        cases hg:g ob' with
        | none=>rw [hg] at h2; cases h2
        | some u' =>
         rw [hg] at h2
         simp only [Option.some.injEq,Prod.mk.injEq] at h2 ⊢
         refine ⟨H,aset H n o',by simp [h2.1],?_,by rw [h2.2]⟩
         rw [hn]
         simp only [hf]
      | one m g =>
       have h6:m'=m:=by rcases hm' with e | e <;> cases e; rfl
       simp only [EffA.app] at h2 ⊢
       rw [aget_aset,if_neg (by omega)] at h2
       cases hm:aget H m with
       | none=>rw [hm] at h2; cases h2
       | some ob' =>
        rw [hm] at h2
        simp only at h2 ⊢
        cases hg:g ob' with
        | none=>rw [hg] at h2; cases h2
        | some p' =>
         obtain ⟨u',q'⟩:=p'
         rw [hg] at h2
         simp only [Option.some.injEq,Prod.mk.injEq] at h2 ⊢
         refine ⟨aset H m q',aset (aset H m q') n o',by simp [h2.1],?_,?_⟩
         ·rw [aget_aset,if_neg (by omega),hn]
          simp only [hf]
         ·rw [← h2.2,aget_aset_fun,aget_aset_fun,aget_aset_fun,aget_aset_fun]
          exact upd_comm _ _ _ (by omega)
   | alloc ob u =>
    simp only [EffA.app,Option.some.injEq,Prod.mk.injEq] at h1
    obtain ⟨rfl,rfl⟩:=h1
    cases ej with
    | pure u=>exact absurd rfl hj0
    | eff f=>exact absurd rfl hc3.2
    | effk ks f=>obtain ⟨n',hn',_⟩:=haj ks rfl; cases hn'
    | one m g=>obtain ⟨n',hn',_⟩:=hcj m rfl; rcases hn' with e | e <;> cases e
    | also m q g =>
     simp only [EffA.app] at h2 ⊢
     have hm:alsoH m q (aget (aset H (fr+8 * k) ob))=alsoH m q (aget H):=by
      funext n
      unfold alsoH
      simp only [seesO,sees,Bool.and_eq_true,Bool.or_eq_true] at hsj
      obtain ⟨hm,hq⟩:=hsj
      have hm:=Nat.le_of_ble_eq_true hm
      cases hb:(Nat.ble (n+1) m || Nat.beq n q) with
      | false=>rfl
      | true =>
       rw [Bool.or_eq_true] at hb
       rw [aget_aset,if_neg]
       intro e
       rcases hb with hb | hb
       ·have:=Nat.le_of_ble_eq_true hb; omega
       ·have hnq:=Nat.eq_of_beq_eq_true hb
        rcases hq with g | g
        ·have:=Nat.le_of_ble_eq_true g; omega
        ·have:(q - fr) / 8=k:=by omega
         rw [this,hbj] at g; cases g
     rw [hm] at h2
     cases hg:g (alsoH m q (aget H)) with
     | none=>rw [hg] at h2; cases h2
     | some u' =>
      rw [hg] at h2
      simp only [Option.some.injEq,Prod.mk.injEq] at h2 ⊢
      exact ⟨H,aset H (fr+8 * k) ob,by simp [h2.1],by simp,by rw [h2.2]⟩
    | look m g =>
     simp only [EffA.app] at h2 ⊢
     have hm:cutH m (aget (aset H (fr+8 * k) ob))=cutH m (aget H):=by
      funext n
      unfold cutH
      simp only [seesO,sees] at hsj
      have hm:=Nat.le_of_ble_eq_true hsj
      cases hb:Nat.ble (n+1) m with
      | false=>rfl
      | true =>
       have:=Nat.le_of_ble_eq_true hb
       rw [aget_aset,if_neg (by omega)]
     rw [hm] at h2
     cases hg:g (cutH m (aget H)) with
     | none=>rw [hg] at h2; cases h2
     | some u' =>
      rw [hg] at h2
      simp only [Option.some.injEq,Prod.mk.injEq] at h2 ⊢
      exact ⟨H,aset H (fr+8 * k) ob,by simp [h2.1],by simp,by rw [h2.2]⟩
    | read m g =>
     simp only [EffA.app] at h2 ⊢
     have hm:aget (aset H (fr+8 * k) ob) m=aget H m:=by
      rw [aget_aset,if_neg]
      intro e
      simp only [seesO,sees,Bool.or_eq_true] at hsj
      rcases hsj with g | g
      ·have:=Nat.le_of_ble_eq_true g; omega
      ·have:(m - fr) / 8=k:=by omega
       rw [this,hbj] at g; cases g
     rw [hm] at h2
     cases hmm:aget H m with
     | none=>rw [hmm] at h2; cases h2
     | some ob' =>
      rw [hmm] at h2
      simp only at h2 ⊢
      cases hg:g ob' with
      | none=>rw [hg] at h2; cases h2
      | some u' =>
       rw [hg] at h2
       simp only [Option.some.injEq,Prod.mk.injEq] at h2 ⊢
       exact ⟨H,aset H (fr+8 * k) ob,by simp [h2.1],by simp,by rw [h2.2]⟩
    | alloc ob' u' =>
     simp only [EffA.app,Option.some.injEq,Prod.mk.injEq] at h2 ⊢
     obtain ⟨rfl,rfl⟩:=h2
     refine ⟨aset H (fr+8 * j) ob',aset (aset H (fr+8 * j) ob') (fr+8 * k) ob,by simp,by simp,?_⟩
     rw [aget_aset_fun,aget_aset_fun,aget_aset_fun,aget_aset_fun]
     exact upd_comm _ _ _ (Ne.symm hnm)
end Go.Eng
namespace Go.Eng
open Go
section
variable (P:Program) (cs:CS) (nt:Nat) (ops:Array Oper) (fr:Nat) (tab:List Nat) (cl:List EKd)
def stepD (i:Nat) (T:TL) (H:HL):Option (TL × HL):=
 match ops[i]? with
 | none=>none
 | some o=>match kindA P cs ops o T with
  | none=>none
  | some e=>cond (seesO fr (tab.getD i 0) e && decide (clsO e=cl.getD i .no)) (stepE nt (fr+8 * i) o e T H) none
def AAny (G:TL→HL→Prop):Nat→Array Bool→TL→HL→Prop
 | 0,listed,T,H=>Region.ready .any ops listed=[]∧G T H
 | fuel+1,listed,T,H=>(Region.ready .any ops listed=[]→G T H) ∧
  ∀ i ∈ Region.ready .any ops listed,∃ T' H',stepD P cs nt ops fr tab cl i T H=some (T',H')∧AAny G fuel (listed.setIfInBounds i true) T' H'
end
section
variable {P:Program}{cs:CS}{nt:Nat}{ops:Array Oper}{fr:Nat}{tab:List Nat}{cl:List EKd}
theorem stepD_some {i:Nat}{T T':TL}{H H':HL}(h:stepD P cs nt ops fr tab cl i T H=some (T',H')) :
  ∃ o e,ops[i]? = some o∧kindA P cs ops o T=some e∧seesO fr (tab.getD i 0) e=true∧clsO e=cl.getD i .no∧stepE nt (fr+8 * i) o e T H=some (T',H'):=by
 unfold stepD at h
 cases ho:ops[i]? with
 | none=>rw [ho] at h; cases h
 | some o =>
  rw [ho] at h
  simp only at h
  cases hk:kindA P cs ops o T with
  | none=>rw [hk] at h; cases h
  | some e =>
   rw [hk] at h
   simp only at h
   cases hb:(seesO fr (tab.getD i 0) e && decide (clsO e=cl.getD i .no)) <;> rw [hb] at h <;> simp only [cond_true,cond_false] at h
   ·cases h
   ·simp only [Bool.and_eq_true] at hb
    exact ⟨o,e,rfl,hk,hb.1,of_decide_eq_true hb.2,h⟩
theorem stepD_of {i:Nat}{T T':TL}{H H':HL}{o:Oper}{e:Option EffA}(ho:ops[i]? = some o) (hk:kindA P cs ops o T=some e) (hs:seesO fr (tab.getD i 0) e=true) (hc:clsO e=cl.getD i .no)
  (h:stepE nt (fr+8 * i) o e T H=some (T',H')):stepD P cs nt ops fr tab cl i T H=some (T',H'):=by
 unfold stepD
 rw [ho]
 simp only [hk,hs,hc,decide_true,Bool.and_self,cond_true]
 exact h
theorem stepD_ext {i:Nat}{T1 T2 T1':TL}{H1 H2 H1':HL}(hT:aget T1=aget T2) (hH:aget H1=aget H2) (h:stepD P cs nt ops fr tab cl i T1 H1=some (T1',H1')) :
  ∃ T2' H2',stepD P cs nt ops fr tab cl i T2 H2=some (T2',H2')∧aget T1'=aget T2'∧aget H1'=aget H2':=by
 obtain ⟨o,e,ho,hk,hs,hc,hst⟩:=stepD_some h
 obtain ⟨v,h1,h2⟩:=stepE_eq.1 hst
 obtain ⟨H2',g1,g2⟩:=heapE_ext hH h1
 obtain ⟨T2',g3⟩:=putT_some (T2:=T2) h2 v
 refine ⟨T2',H2',stepD_of ho ?_ hs hc (stepE_eq.2 ⟨v,g1,g3⟩),?_,g2⟩
 ·rw [← hk]; exact kindA_congr fun t _=>by rw [hT]
 ·rw [putT_get h2,putT_get g3,hT]
theorem AAny_ext {G:TL→HL→Prop}(hG:∀ T1 T2 H1 H2,aget T1=aget T2→aget H1=aget H2→G T1 H1→G T2 H2):∀ (fuel:Nat) (listed:Array Bool) (T1 T2:TL) (H1 H2:HL),aget T1=aget T2→aget H1=aget H2 →
  AAny P cs nt ops fr tab cl G fuel listed T1 H1→AAny P cs nt ops fr tab cl G fuel listed T2 H2
 | 0,_,_,_,_,_,hT,hH,h=>⟨h.1,hG _ _ _ _ hT hH h.2⟩
 | fuel+1,listed,T1,T2,H1,H2,hT,hH,h=>⟨fun h0=>hG _ _ _ _ hT hH (h.1 h0),fun i hi=>by
  obtain ⟨T1',H1',h1,h2⟩:=h.2 i hi
  obtain ⟨T2',H2',g1,g2,g3⟩:=stepD_ext hT hH h1
  exact ⟨T2',H2',g1,AAny_ext hG fuel _ _ _ _ _ g2 g3 h2⟩⟩
theorem commute {k j:Nat}{ok oj:Oper}(hok:ops[k]? = some ok) (hoj:ops[j]? = some oj) (hne:k ≠ j) (hap:ok.apart ops oj=true) (hbk:(tab.getD k 0).testBit j=false) (hbj:(tab.getD j 0).testBit k=false)
  (hc:compat (cl.getD k .no) (cl.getD j .no)=true) {T T1 T2:TL} {H H1 H2:HL} (h1:stepD P cs nt ops fr tab cl k T H=some (T1,H1)) (h2:stepD P cs nt ops fr tab cl j T1 H1=some (T2,H2)) :
  ∃ T1' H1' T2' H2',stepD P cs nt ops fr tab cl j T H=some (T1',H1')∧stepD P cs nt ops fr tab cl k T1' H1'=some (T2',H2')∧aget T2'=aget T2∧aget H2'=aget H2:=by
 obtain ⟨ok',ek,hok',hkk,hsk,hck,hstk⟩:=stepD_some h1
 rw [hok] at hok'; cases hok'
 obtain ⟨oj',ej,hoj',hkj,hsj,hcj,hstj⟩:=stepD_some h2
 rw [hoj] at hoj'; cases hoj'
 obtain ⟨a1,a2,a3⟩:=Oper.apart_spec hap
 obtain ⟨vk,hvk,hpk⟩:=stepE_eq.1 hstk
 obtain ⟨vj,hvj,hpj⟩:=stepE_eq.1 hstj
 obtain ⟨H1',H2',q1,q2,q3⟩:=heap_commute hne hbk hbj (by rw [hck,hcj]; exact hc) hsk hsj hvk hvj
 obtain ⟨T1',p1⟩:=putT_some (T2:=T) hpj vj
 obtain ⟨T2',p2⟩:=putT_some (T2:=T1') hpk vk
 have agT1:∀ t ∈ oj.looksAt ops,aget T t=aget T1 t:=fun t ht=>by
  rw [putT_get hpk]
  cases hd:ok.dst with
  | none=>rfl
  | some d=>simp only [updT]; rw [upd_other]; intro e; subst e; exact a1 d hd ht
 have agT1':∀ t ∈ ok.looksAt ops,aget T1' t=aget T t:=fun t ht=>by
  rw [putT_get p1]
  cases hd:oj.dst with
  | none=>rfl
  | some d=>simp only [updT]; rw [upd_other]; intro e; subst e; exact a3 d hd ht
 refine ⟨T1',H1',T2',H2',stepD_of hoj ?_ hsj hcj (stepE_eq.2 ⟨vj,q1,p1⟩),stepD_of hok ?_ hsk hck (stepE_eq.2 ⟨vk,q2,p2⟩),?_,q3⟩
 ·rw [← hkj]; exact kindA_congr agT1
 ·rw [← hkk]; exact kindA_congr agT1'
 ·rw [putT_get p2,putT_get p1,putT_get hpj,putT_get hpk]
  cases hdk:ok.dst with
  | none=>cases hdj:oj.dst <;> rfl
  | some d =>
   cases hdj:oj.dst with
   | none=>rfl
   | some d' =>
    simp only [updT]
    exact upd_comm _ _ _ (fun e=>a2 d hdk (by rw [hdj,e]))
theorem LL_set {listed:Array Bool}{i k:Nat}(hi:i < listed.size):LL (listed.setIfInBounds i true) k ↔ k=i ∨ LL listed k:=by
 unfold LL
 simp only [Array.getD_eq_getD_getElem?,Array.getElem?_setIfInBounds]
 by_cases h:i=k
 ·subst h; simp [hi]
 ·simp [h,Ne.symm h]
theorem LL_of_getD {listed:Array Bool}{i:Nat}(hi:i < listed.size):listed.getD i true=false ↔ ¬ LL listed i:=by
 unfold LL
 simp [Array.getD_eq_getD_getElem?,hi]
theorem ready_facts {listed:Array Bool}(hs:listed.size=ops.size){i:Nat}(h:i ∈ Region.ready .any ops listed) :
  i < ops.size ∧ ¬ LL listed i∧∃ o,ops[i]? = some o∧∀ e ∈ o.after,Region.binds .any e=true→LL listed e.on:=by
 obtain ⟨h1,o,h2,h3⟩:=mem_ready.1 h
 have hi:i < ops.size:=(Array.getElem?_eq_some_iff.1 h2).1
 exact ⟨hi,(LL_of_getD (by omega)).1 h1,o,h2,h3⟩
theorem DC_set {listed:Array Bool}(hs:listed.size=ops.size) (hd:DC ops listed){i:Nat}(h:i ∈ Region.ready .any ops listed):DC ops (listed.setIfInBounds i true):=by
 obtain ⟨hi,hn,o,ho,hall⟩:=ready_facts hs h
 intro k ok hk hok e he hb
 rw [LL_set (by omega)] at hk
 rw [LL_set (by omega)]
 rcases hk with rfl | hk
 ·rw [ho] at hok; cases hok; exact .inr (hall e he hb)
 ·exact .inr (hd k ok hk hok e he hb)
theorem AAny_first {G:TL→HL→Prop}(hG:∀ T1 T2 H1 H2,aget T1=aget T2→aget H1=aget H2→G T1 H1→G T2 H2) (htab:∀ listed,DC ops listed→TabOk ops listed tab){k:Nat}{ok:Oper}(hok:ops[k]? = some ok) :
  ∀ (fuel:Nat) (listed:Array Bool) (T T1:TL) (H H1:HL),listed.size=ops.size→DC ops listed →
   (∀ j oj,ops[j]? = some oj→j ≠ k → ¬ LL listed j→(tab.getD j 0).testBit k=false→ok.apart ops oj=true∧compat (cl.getD k .no) (cl.getD j .no)=true) →
   k ∈ Region.ready .any ops listed→stepD P cs nt ops fr tab cl k T H=some (T1,H1)→AAny P cs nt ops fr tab cl G fuel (listed.setIfInBounds k true) T1 H1→AAny P cs nt ops fr tab cl G (fuel+1) listed T H:=by
 intro fuel
 induction fuel with
 | zero =>
  intro listed T T1 H H1 _ _ _ hr hst hA
  refine ⟨fun h=>(by rw [h] at hr; cases hr),fun j hj => ?_⟩
  by_cases hjk:j=k
  ·subst hjk; exact ⟨T1,H1,hst,hA⟩
  ·have:=ready_mono hj hjk
   rw [hA.1] at this
   cases this
 | succ fuel ih =>
  intro listed T T1 H H1 hs hd hfree hr hst hA
  refine ⟨fun h=>(by rw [h] at hr; cases hr),fun j hj => ?_⟩
  by_cases hjk:j=k
  ·subst hjk; exact ⟨T1,H1,hst,hA⟩
  ·obtain ⟨T2,H2,hst2,hA2⟩:=hA.2 j (ready_mono hj hjk)
   obtain ⟨hjlt,hjn,oj,hoj,hjall⟩:=ready_facts hs hj
   obtain ⟨hklt,hkn,ok',hok',hkall⟩:=ready_facts hs hr
   rw [hok] at hok'; cases hok'
   have bit:∀ (i m:Nat) (oi:Oper),ops[i]? = some oi→(∀ e ∈ oi.after,Region.binds .any e=true→LL listed e.on) → ¬ LL listed m→(tab.getD i 0).testBit m=false:=fun i m oi hoi hall hm=>by
    cases hb:(tab.getD i 0).testBit m with
    | false=>rfl
    | true =>
     exfalso
     cases ht:tab[i]? with
     | none=>rw [List.getD_eq_getElem?_getD,ht] at hb; simp at hb
     | some b =>
      rw [List.getD_eq_getElem?_getD,ht] at hb
      exact hm (htab listed hd i b ht oi hoi hall m hb)
   have hbj:=bit j k oj hoj hjall hkn
   have hbk:=bit k j ok hok hkall hjn
   obtain ⟨hap,hc⟩:=hfree j oj hoj hjk hjn hbj
   obtain ⟨T1',H1',T2',H2',g1,g2,g3,g4⟩:=commute hok hoj (Ne.symm hjk) hap hbk hbj hc hst hst2
   refine ⟨T1',H1',g1,?_⟩
   refine ih (listed.setIfInBounds j true) T1' T2' H1' H2' (by simpa using hs) (DC_set hs hd hj) (fun i oi hoi hik hin hbi => ?_) (ready_mono hr (Ne.symm hjk)) g2 ?_
   ·refine hfree i oi hoi hik (fun h=>hin ?_) hbi
    rw [LL_set (by omega)]; exact .inr h
   ·rw [Array.setIfInBounds_comm _ _ hjk]
    exact AAny_ext hG fuel _ _ _ _ _ g3.symm g4.symm hA2
end
end Go.Eng
namespace Go.Eng
open Go
def runK (P:Program) (cs:CS) (nt:Nat) (ops:Array Oper) (fr:Nat) (tab:List Nat):List Oper→Nat→TL→HL→Option (TL × HL × List EKd)
 | [],_,T,H=>some (T,H,[])
 | o::l,k,T,H=>match kindA P cs ops o T with
  | none=>none
  | some e=>match cond (seesO fr (tab.getD k 0) e) (stepE nt (fr+8 * k) o e T H) none with
   | none=>none
   | some (T',H')=>match runK P cs nt ops fr tab l (k+1) T' H' with
    | none=>none
    | some (T'',H'',cl)=>some (T'',H'',clsO e::cl)
def laterOk (ops:Array Oper) (tab:List Nat) (cl:List EKd) (k:Nat) (ok:Oper):List Oper→Nat→Bool
 | [],_=>true
 | oj::l,j=>cond (cond ((tab.getD j 0).testBit k) true (ok.apart ops oj && compat (cl.getD k .no) (cl.getD j .no))) (laterOk ops tab cl k ok l (j+1)) false
def readyOk (k:Nat):List Edge→Bool
 | []=>true
 | e::es=>cond (cond (Region.binds .any e) (Nat.ble (e.on+1) k) true) (readyOk k es) false
def pairsOk (ops:Array Oper) (tab:List Nat) (cl:List EKd):List Oper→Nat→Bool
 | [],_=>true
 | o::l,k=>cond (readyOk k o.after.toList) (cond (laterOk ops tab cl k o l (k+1)) (pairsOk ops tab cl l (k+1)) false) false
theorem laterOk_spec {ops:Array Oper}{tab:List Nat}{cl:List EKd}{k:Nat}{ok:Oper}:∀ {l:List Oper}{j:Nat},laterOk ops tab cl k ok l j=true→∀ i oi,l[i]? = some oi→(tab.getD (j+i) 0).testBit k=false→ok.apart ops oi=true∧compat (cl.getD k .no) (cl.getD (j+i) .no)=true
 | [],_,_,i,oi,hi,_=>by simp at hi
 | oj::l,j,h,i,oi,hi,ht=>by
  simp only [laterOk] at h
  cases hc:(cond ((tab.getD j 0).testBit k) true (ok.apart ops oj && compat (cl.getD k .no) (cl.getD j .no))) <;> rw [hc] at h <;> simp only [cond_true,cond_false] at h
  ·cases h
  ·cases i with
   | zero =>
    simp at hi ht
    subst hi
    simp only [List.getD_eq_getElem?_getD] at hc
    rw [ht] at hc
    simpa [List.getD_eq_getElem?_getD] using hc
   | succ i =>
    have:=laterOk_spec h i oi (by simpa using hi) (by rw [show j+1+i=j+(i+1) by omega]; exact ht)
    rw [show j+1+i=j+(i+1) by omega] at this
    exact this
theorem readyOk_spec {k:Nat}:∀ {es:List Edge},readyOk k es=true→∀ e ∈ es,Region.binds .any e=true→e.on < k
 | [],_,e,he,_=>by cases he
 | x::es,h,e,he,hb=>by
  simp only [readyOk] at h
  cases hc:(cond (Region.binds .any x) (Nat.ble (x.on+1) k) true) <;> rw [hc] at h <;> simp only [cond_true,cond_false] at h
  ·cases h
  ·rcases List.mem_cons.1 he with rfl | he
   ·rw [hb] at hc
    simp only [cond_true] at hc
    have:=Nat.le_of_ble_eq_true hc; omega
   ·exact readyOk_spec h e he hb
section
variable {P:Program}{cs:CS}{nt:Nat}{ops:Array Oper}{fr:Nat}{tab:List Nat}{cl:List EKd}
theorem AAny_lex {G:TL→HL→Prop}(hG:∀ T1 T2 H1 H2,aget T1=aget T2→aget H1=aget H2→G T1 H1→G T2 H2) (htab:∀ listed,DC ops listed→TabOk ops listed tab) :
  ∀ (l:List Oper) (k:Nat) (listed:Array Bool) (T T':TL) (H H':HL) (cl':List EKd),(∀ j,l[j]? = ops[k+j]?)→listed.size=ops.size→(∀ i,LL listed i ↔ i < k)→k+l.length=ops.size→DC ops listed →
   runK P cs nt ops fr tab l k T H=some (T',H',cl')→(∀ j,cl'[j]? = cl[k+j]?)→pairsOk ops tab cl l k=true→G T' H'→AAny P cs nt ops fr tab cl G l.length listed T H
 | [],k,listed,T,T',H,H',cl',_,hs,hL,hk,_,hrun,_,_,hg=>by
  simp only [runK,Option.some.injEq,Prod.mk.injEq] at hrun
  obtain ⟨rfl,rfl,_⟩:=hrun
  refine ⟨?_,hg⟩
  cases hr:Region.ready .any ops listed with
  | nil=>rfl
  | cons i r =>
   exfalso
   have hi:i ∈ Region.ready .any ops listed:=by rw [hr]; simp
   obtain ⟨h1,h2,_⟩:=ready_facts hs hi
   exact h2 ((hL i).2 (by simp at hk; omega))
 | o::l,k,listed,T,T',H,H',cl',hl,hs,hL,hk,hd,hrun,hcl,hp,hg=>by
  have ho:ops[k]? = some o:=by simpa using (hl 0).symm
  simp only [runK] at hrun
  cases hkd:kindA P cs ops o T with
  | none=>rw [hkd] at hrun; cases hrun
  | some e =>
   rw [hkd] at hrun
   simp only at hrun
   cases hse:seesO fr (tab.getD k 0) e with
   | false=>rw [hse] at hrun; cases hrun
   | true =>
    rw [hse] at hrun
    simp only [cond_true] at hrun
    cases hst:stepE nt (fr+8 * k) o e T H with
    | none=>rw [hst] at hrun; cases hrun
    | some p =>
     obtain ⟨T1,H1⟩:=p
     rw [hst] at hrun
     simp only at hrun
     cases hrk:runK P cs nt ops fr tab l (k+1) T1 H1 with
     | none=>rw [hrk] at hrun; cases hrun
     | some q =>
      obtain ⟨T2,H2,cl2⟩:=q
      rw [hrk] at hrun
      simp only [Option.some.injEq,Prod.mk.injEq] at hrun
      obtain ⟨rfl,rfl,rfl⟩:=hrun
      have hclk:clsO e=cl.getD k .no:=by
       have:=hcl 0
       simp at this
       rw [List.getD_eq_getElem?_getD,← this]; rfl
      simp only [pairsOk] at hp
      cases hr1:readyOk k o.after.toList with
      | false=>rw [hr1] at hp; cases hp
      | true =>
       cases hr2:laterOk ops tab cl k o l (k+1) with
       | false=>rw [hr1,hr2] at hp; cases hp
       | true =>
        rw [hr1,hr2] at hp
        simp only [cond_true] at hp
        have hklt:k < ops.size:=(Array.getElem?_eq_some_iff.1 ho).1
        have hready:k ∈ Region.ready .any ops listed:=by
         refine mem_ready.2 ⟨(LL_of_getD (by omega)).2 (fun h=>by have:=(hL k).1 h; omega),o,ho,fun e he hb => ?_⟩
         exact (hL e.on).2 (readyOk_spec hr1 e (by simpa using he) hb)
        refine AAny_first hG htab ho l.length listed T T1 H H1 hs hd (fun j oj hoj hjk hjn hbj => ?_) hready (stepD_of ho hkd hse hclk hst) ?_
        ·have hj:k < j:=by
          have:¬ j < k:=fun h=>hjn ((hL j).2 h)
          omega
         have:=laterOk_spec hr2 (j - (k+1)) oj (by have:=hl (j - k); rw [show k+(j - k)=j by omega,hoj] at this; rw [← this,show j - k=(j - (k+1))+1 by omega]; simp) (by rw [show k+1+(j - (k+1))=j by omega]; exact hbj)
         rw [show k+1+(j - (k+1))=j by omega] at this
         exact this
        ·refine AAny_lex hG htab l (k+1) _ T1 _ H1 _ cl2 (fun j=>by have:=hl (j+1); simpa [Nat.add_assoc,Nat.add_comm 1 j] using this) (by simpa using hs) (fun i => ?_) (by simp at hk ⊢; omega) (DC_set hs hd hready) hrk (fun j=>by have:=hcl (j+1); simpa [Nat.add_assoc,Nat.add_comm 1 j] using this) hp hg
         rw [LL_set (by omega),hL]; omega
theorem wpAny_of {Q:Exit→Act→World→Prop}(hcs:CSOk P cs){G:TL→HL→Prop}:∀ (fuel:Nat) (listed:Array Bool) (T:TL) (H:HL) (σ:Sig) (a:Act) (w:World),AAny P cs nt ops fr tab cl G fuel listed T H→listed.size=ops.size→RRel P σ nt T H a w →
  (∀ i,i < ops.size → ¬ LL listed i→Free σ (fr+8 * i))→Fresh σ (fr+8 * ops.size) →
  (∀ σ' T' H' a' w',G T' H'→RRel P σ' nt T' H' a' w'→Frm σ (aget H) w σ' (aget H') w'→Fresh σ' (fr+8 * ops.size)→Q .normal a' w')→wpAny P .any ops Q fuel listed a w
 | 0,listed,T,H,σ,a,w,hA,_,hr,_,hfr,hQ=>⟨hA.1,hQ σ T H a w hA.2 hr (Frm.refl _ _ _) hfr⟩
 | fuel+1,listed,T,H,σ,a,w,hA,hs,hr,hfree,hfr,hQ=>by
  refine ⟨fun h0=>hQ σ T H a w (hA.1 h0) hr (Frm.refl _ _ _) hfr,fun i hi => ?_⟩
  obtain ⟨T1,H1,hst,hA1⟩:=hA.2 i hi
  obtain ⟨o,e,ho,hk,_,_,hse⟩:=stepD_some hst
  obtain ⟨hilt,hin,_⟩:=ready_facts hs hi
  have hstA:stepA P cs nt ops (fr+8 * i) o T H=some (T1,H1):=by rw [stepA_kind,hk]; exact hse
  refine stepA_ok hcs ho hstA hr (hfree i hilt hin) fun σ' a' w' g1 g2 g3 => ?_
  refine wpAny_of hcs fuel _ T1 H1 σ' a' w' hA1 (by simpa using hs) g1 (fun m hm hmn => ?_) (fun n hn=>by rw [g3 n (.inr (by omega))]; exact hfr n hn) fun σ'' T'' H'' a'' w'' q1 q2 q3 q4=>hQ σ'' T'' H'' a'' w'' q1 q2 (g2.trans q3) q4
  rw [LL_set (by omega)] at hmn
  have hmi:m ≠ i:=fun e=>hmn (.inl e)
  intro j hj
  rw [g3 _ (by omega)]
  exact hfree m hm (fun h=>hmn (.inr h)) j hj
end
def regA (P:Program) (cs:CS) (nt:Nat) (ops:Array Oper) (draw:Bool) (fr:Nat) (T:TL) (H:HL):Option (TL × HL):=
 match draw with
 | false=>runA P cs nt ops ops.toList fr T H
 | true=>match runK P cs nt ops fr (befs ops.toList []) ops.toList 0 T H with
  | none=>none
  | some (T',H',cl)=>cond (pairsOk ops (befs ops.toList []) cl ops.toList 0) (some (T',H')) none
theorem RRel.ext {P:Program}{σ:Sig}{nt:Nat}{T T':TL}{H H':HL}{a:Act}{w:World}(h:RRel P σ nt T H a w) (hT:aget T=aget T') (hH:aget H=aget H'):RRel P σ nt T' H' a w:=
 ⟨by rw [← hT]; exact h.tmps,h.size,h.defers,by rw [← hH]; exact h.heap,h.glob⟩
theorem regA_ok {P:Program}{cs:CS}(hcs:CSOk P cs) (hm:P.follows .mixedOrders=true){nt:Nat}{id:Nat}{ops:Array Oper}{draw:Bool}{fr:Nat}{T T':TL}{H H':HL}(h:regA P cs nt ops draw fr T H=some (T',H'))
  {σ:Sig} {a:Act} {w:World} (hr:RRel P σ nt T H a w) (hfr:Fresh σ fr) {Q:Exit→Act→World→Prop}
  (hQ:∀ σ' a' w',RRel P σ' nt T' H' a' w'→Frm σ (aget H) w σ' (aget H') w'→Fresh σ' (fr+8 * ops.size)→Q .normal a' w'):(Code.region id ops draw).wp P Q a w:=by
 unfold regA at h
 cases draw with
 | false =>
  simp only at h
  refine wp_region ?_
  have:=runA_ok hcs (Q:=Q) ops.toList 0 fr σ T T' H H' a w (by simp) h hr hfr (by simpa using hQ)
  rw [List.range_eq_range']
  simpa using this
 | true =>
  simp only at h
  cases hrun:runK P cs nt ops fr (befs ops.toList []) ops.toList 0 T H with
  | none=>rw [hrun] at h; cases h
  | some q =>
   obtain ⟨T2,H2,cl⟩:=q
   rw [hrun] at h
   simp only at h
   cases hp:pairsOk ops (befs ops.toList []) cl ops.toList 0 with
   | false=>rw [hp] at h; cases h
   | true =>
    rw [hp] at h
    simp only [cond_true,Option.some.injEq,Prod.mk.injEq] at h
    obtain ⟨rfl,rfl⟩:=h
    refine wp_region_any hm ?_
    have hall:∀ i,¬ LL (Array.replicate ops.size false) i:=fun i h=>by
     unfold LL at h
     simp only [Array.getD_eq_getD_getElem?,Array.getElem?_replicate] at h
     split at h <;> simp at h
    have hdc:DC ops (Array.replicate ops.size false):=fun i o hi _ _ _ _=>absurd hi (hall i)
    have htab:∀ listed,DC ops listed→TabOk ops listed (befs ops.toList []):=fun listed hd=>befs_ok hd ops.toList [] (by simp) (fun j b hj=>by simp at hj)
    have hA:=AAny_lex (P:=P) (cs:=cs) (nt:=nt) (fr:=fr) (cl:=cl) (G:=fun X Y=>aget X=aget T2∧aget Y=aget H2) (fun T1 T3 H1 H3 a1 a2 a3=>⟨a1 ▸ a3.1,a2 ▸ a3.2⟩) htab ops.toList 0 (Array.replicate ops.size false) T T2 H H2 cl (by simp) (by simp)
     (fun i=>⟨fun h=>absurd h (hall i),fun h=>by omega⟩) (by simp) hdc hrun (by simp) hp ⟨rfl,rfl⟩
    refine wpAny_of (tab:=befs ops.toList []) (cl:=cl) hcs ops.size _ T H σ a { w with drawn:=w.drawn+1 } (by simpa using hA) (by simp) ⟨hr.tmps,hr.size,hr.defers,hr.heap.drew rfl,hr.glob⟩ (fun i _ _ j _=>hfr _ (by omega)) (fun n hn=>hfr n (by omega)) ?_
    intro σ' T3 H3 a' w' g1 g2 g3 g4
    exact hQ σ' a' w' (g2.ext g1.1 g1.2) (by
     have g5:=g1.2
     rw [← g5]
     exact ⟨g3.ext,g3.size,g3.os,g3.output,g3.tape,g3.old⟩) g4
end Go.Eng
