/- Texts QsS, Qs2, Eng71, Qk1, Qk2, Qk3, Eng29, Eng42, QJ: what they show that this claim uses. -/
import Derived.Shelf.Strings.OnBuilder
import Derived.Test.YtanaackimepkdaaGreatDoorP6
import Derived.Test.YtanaackimepkdaaGreatDoorP13
import Derived.Deep.Slices
import Derived.WideKeyArgs
import Derived.OpenShut
import Derived.Test.YtanaackimepkdaaGreatDoorRows
import Derived.WalkKit
import Derived.ProofKit
import Derived.LaidMore
import Derived.ShutString
import Derived.Stop.Joined
set_option maxRecDepth 100000
set_option maxHeartbeats 1000000
set_option linter.unusedVariables false
set_option linter.unusedSimpArgs false
namespace Go.Proofs.YtanaackimepkdaaGreatDoor
open Go.Shelf
def Tryz.lays156_ren:Go.Shelf.Ren:=⟨fun | 156=>100 | 165=>147 | 166=>148 | 169=>149 | 240=>196 | 241=>197 | 276=>214 | 277=>215 | n=>n,fun | 31=>115 | 9=>9 | 3=>3 | 4=>4 | 0=>0 | 20=>20 | 72=>199 | 76=>203 | 70=>197 | 37=>50 | 75=>202 | 127=>243 | 164=>265 | 5=>5 | 80=>164 | n=>n,fun | n=>n⟩
theorem Tryz.lays156:Go.Proofs.Lays.n156 Tryz.prog Tryz.lays156_ren:={
 mixed:=by kernel_rfl
 f156:=Tryz.func100.trans (congrArg some (by kernel_rfl))
 f165:=Tryz.func147.trans (congrArg some (by kernel_rfl))
 f166:=Tryz.func148.trans (congrArg some (by kernel_rfl))
 f169:=Tryz.func149.trans (congrArg some (by kernel_rfl))
 f240:=Tryz.func196.trans (congrArg some (by kernel_rfl))
 f241:=Tryz.func197.trans (congrArg some (by kernel_rfl))
 f276:=Tryz.func214.trans (congrArg some (by kernel_rfl))
 f277:=Tryz.func215.trans (congrArg some (by kernel_rfl))
 t0:=Tryz.underlying0
 a0:=Tryz.isAgg0
 z0:=Tryz.sizeOf0
 v0:=Tryz.zeroValue0
 t3:=Tryz.underlying3
 a3:=Tryz.isAgg3
 z3:=Tryz.sizeOf3
 v3:=Tryz.zeroValue3
 t4:=Tryz.underlying4
 a4:=Tryz.isAgg4
 z4:=Tryz.sizeOf4
 v4:=Tryz.zeroValue4
 t9:=Tryz.underlying9
 a9:=Tryz.isAgg9
 z9:=Tryz.sizeOf9
 v9:=Tryz.zeroValue9
 t20:=Tryz.underlying20
 a20:=Tryz.isAgg20
 z20:=Tryz.sizeOf20
 v20:=Tryz.zeroValue20
 t31:=Tryz.underlying115
 a31:=Tryz.isAgg115
 z31:=Tryz.sizeOf115
 v31:=Tryz.zeroValue115
 t37:=Tryz.underlying50
 a37:=Tryz.isAgg50
 z37:=Tryz.sizeOf50
 v37:=Tryz.zeroValue50
 t70:=Tryz.underlying197
 a70:=Tryz.isAgg197
 z70:=Tryz.sizeOf197
 v70:=Tryz.zeroValue197
 t72:=Tryz.underlying199
 a72:=Tryz.isAgg199
 z72:=Tryz.sizeOf199
 v72:=Tryz.zeroValue199
 t75:=Tryz.underlying202
 a75:=Tryz.isAgg202
 z75:=Tryz.sizeOf202
 v75:=Tryz.zeroValue202
 t76:=Tryz.underlying203
 a76:=Tryz.isAgg203
 z76:=Tryz.sizeOf203
 v76:=Tryz.zeroValue203
 t127:=Tryz.underlying243
 a127:=Tryz.isAgg243
 z127:=Tryz.sizeOf243
 v127:=Tryz.zeroValue243
 t164:=Tryz.underlying265
 a164:=Tryz.isAgg265
 z164:=Tryz.sizeOf265
 v164:=Tryz.zeroValue265 }
theorem Tryz.Builder_Extra_156:Builder.Extra Tryz.prog Tryz.lays156_ren:={
 sizeBuilder:=by kernel_rfl
 liesBuilder:=by kernel_rfl
 t5:=Tryz.underlying5
 a5:=Tryz.isAgg5
 z5:=Tryz.sizeOf5
 v5:=Tryz.zeroValue5
 infoByte:=by kernel_rfl
 cellsByte:=by kernel_rfl
 sizeByte:=by kernel_rfl
 neB5:=by decide }
open Go.RowKit in
theorem Tryz.strings_Join (bk o c:Nat) (xs:List ByteArray) (sep:ByteArray) (w:World) (hcells:∀ (j:Nat) x,xs[j]? = some x→w.cell? ⟨bk,o+j,none⟩=some (.string x)) (hbk:bk < w.heap.size) (hN:xs.length≤140737488355328) (hcap:xs.length≤c) (hlen:(Lib.join (xs.map (·.data.toList)) sep.data.toList).length≤140737488355328) :
  Calls Tryz.prog 100 #[.slice (some ⟨bk,o,none⟩) xs.length c,.string sep] w fun e w'=>e=.returned (.string ⟨(Lib.join (xs.map (·.data.toList)) sep.data.toList).toArray⟩)∧Below w.heap.size w w':=Any.strings_Join Tryz.lays156 Tryz.Builder_Extra_156 bk o c xs sep w hcells hbk hN hcap hlen
end Go.Proofs.YtanaackimepkdaaGreatDoor
namespace Go.Proofs.YtanaackimepkdaaGreatDoor
open Go Go.Eng Go.Num
def strsA:List AVal→Option (List (List UInt8))
 | []=>some []
 | .str s::l=>match strsA l with
  | some m=>some (s::m)
  | none=>none
 | _=>none
theorem strsA_at:∀ {l:List AVal}{m:List (List UInt8)},strsA l=some m→m.length=l.length∧∀ (i:Nat) (s:List UInt8),m[i]? = some s→l[i]? = some (AVal.str s)
 | [],m,h=>by
  cases h
  exact ⟨rfl,fun i s h=>by simp at h⟩
 | a::l,m,h=>by
  unfold strsA at h
  split at h
  ·rename_i h0
   cases h0
  ·rename_i s l' he
   cases he
   split at h
   ·rename_i m' hm
    cases h
    obtain ⟨h1,h2⟩:=strsA_at hm
    refine ⟨by simp [h1],fun i s' h => ?_⟩
    cases i with
    | zero=>simpa using h
    | succ i=>simpa using h2 i s' (by simpa using h)
   ·cases h
  ·cases h
def rdS (n off len:Nat) (g:List (List UInt8)→Option AVal):EffA:=.read n fun ob=>match ob with
 | .cells _ c=>match strsA ((c.drop off).take len) with
  | some ls=>cond (Nat.beq ls.length len) (g ls) none
  | none=>none
 | .mp _=>none
def bas (l:List UInt8):ByteArray:=⟨l.toArray⟩
theorem callOk_rdS {P:Program}{f:FuncId}{n off len:Nat}{s:List UInt8}{g:List (List UInt8)→Option AVal}
  (h:∀ (xs:List ByteArray) (b o cap:Nat) (w:World) (ls:List (List UInt8)) (v:AVal),xs=ls.map bas→xs.length=len→len≤cap→b < w.heap.size→(∀ (j:Nat) x,xs[j]? = some x→w.cell? ⟨b,o+j,none⟩=some (.string x))→g ls=some v →
   Calls P f #[.slice (some ⟨b,o,none⟩) len cap,.string (bas s)] w fun r w' => ∃ v',r=.returned v'∧(∀ σ',VR σ' v v')∧Go.RowKit.Below w.heap.size w w') :
  CallOk P f [.slice n off len 1,.str s] (rdS n off len g):=by
 intro σ args' H w base v0 H0 hl hg hH happ hfree
 unfold rdS at happ
 simp only [EffA.app] at happ
 cases hn:aget H n with
 | none=>rw [hn] at happ; cases happ
 | some ob =>
  rw [hn] at happ
  cases ob with
  | mp _=>cases happ
  | cells ro c =>
  simp only at happ
  cases hs:strsA ((c.drop off).take len) with
  | none=>rw [hs] at happ; cases happ
  | some ls =>
   rw [hs] at happ
   simp only at happ
   cases hb:Nat.beq ls.length len with
   | false=>rw [hb] at happ; cases happ
   | true =>
    rw [hb] at happ
    simp only [cond_true] at happ
    have hll:=Nat.eq_of_beq_eq_true hb
    cases hv:g ls with
    | none=>rw [hv] at happ; cases happ
    | some v =>
     rw [hv] at happ
     simp only [Option.some.injEq,Prod.mk.injEq] at happ
     obtain ⟨rfl,rfl⟩:=happ
     obtain ⟨a,b,rfl,ha,hb'⟩:∃ a b,args' = #[a,b]∧VR σ (.slice n off len 1) a∧VR σ (.str s) b:=by
      have h1:=hl.1
      obtain ⟨l⟩:=args'
      match l,h1 with
      | [a,b],_=>exact ⟨a,b,rfl,hl.2 0 _ _ rfl rfl,hl.2 1 _ _ rfl rfl⟩
     cases hb'
     cases ha with
     | slice hp ho hc hsz =>
      rename_i p o cap
      obtain ⟨p',hp',ho'⟩:=hH.obj n _ hn
      rw [hp] at hp'
      cases hp'
      obtain ⟨c',t,fz,hh,hsz',hcell,_,_⟩:=ho'
      have hat:=(strsA_at hs).2
      have hbk:p.blk < w.heap.size:=by
       rcases Nat.lt_or_ge p.blk w.heap.size with h | h
       ·exact h
       ·rw [Array.getElem?_eq_none h] at hh
        cases hh
      refine (h (ls.map bas) p.blk o cap w ls v rfl (by rw [List.length_map]; exact hll) hc hbk (fun j x hx => ?_) hv).mono fun r w' ⟨v',h1,h2,h3⟩ => ?_
      ·rw [List.getElem?_map] at hx
       cases hj:ls[j]? with
       | none=>rw [hj] at hx; cases hx
       | some y =>
        rw [hj] at hx
        simp only [Option.map_some,Option.some.injEq] at hx
        subst hx
        have hjl:j < len:=by
         have:=(List.getElem?_eq_some_iff.1 hj).1
         omega
        have ho2:o=p.sh+off:=ho.resolve_left (by omega)
        have hc1:=hat j y hj
        rw [List.getElem?_take_of_lt hjl,List.getElem?_drop] at hc1
        obtain ⟨v',hv1,hv2⟩:=hcell (off+j) _ hc1
        cases hv2
        rw [cell_at hh,ho2,Nat.add_assoc]
        exact hv1
      ·refine ⟨σ,v',h1,h2 σ,⟨fun n o hn => ?_,hH.inj⟩,⟨Sig.le_refl σ,h3.size,h3.os,h3.output,h3.tape,fun b hb hn=>⟨h3.block b hb,hn⟩⟩,Only.refl σ base⟩
       obtain ⟨p,hp,ho⟩:=hH.obj n o hn
       exact ⟨p,hp,ho.mono (Sig.le_refl σ) (h3.block _ ho.lt)⟩
theorem bas_map (ls:List (List UInt8)):(ls.map bas).map (·.data.toList)=ls:=by
 rw [List.map_map]
 conv=>rhs; rw [← List.map_id ls]
 rfl
def joinV (sep:List UInt8) (ls:List (List UInt8)):Option AVal:=cond (Nat.ble (Lib.join ls sep).length 1000000 && Nat.ble ls.length 1000000) (some (.str (Lib.join ls sep))) none
def k100:List AVal→Option EffA
 | [.slice n off len 1,.str s]=>some (rdS n off len (joinV s))
 | _=>none
theorem k100_ok:CSOk Tryz.prog (csOne 100 k100):=csOne_ok fun args e he=>by
 unfold k100 at he
 split at he
 ·rename_i n off len s
  cases he
  refine callOk_rdS fun xs b o cap w ls v hx hl hc hbk hcells hv => ?_
  unfold joinV at hv
  cases hb:(Nat.ble (Lib.join ls s).length 1000000 && Nat.ble ls.length 1000000) with
  | false=>rw [hb] at hv; cases hv
  | true =>
   rw [hb] at hv
   cases hv
   simp only [Bool.and_eq_true] at hb
   have h1:=Nat.le_of_ble_eq_true hb.1
   have h2:=Nat.le_of_ble_eq_true hb.2
   have e1:xs.map (·.data.toList)=ls:=by rw [hx,bas_map]
   have e2:(bas s).data.toList=s:=by simp [bas]
   have hll:xs.length=ls.length:=by rw [hx,List.length_map]
   rw [← hl]
   refine (Tryz.strings_Join b o cap xs (bas s) w hcells hbk (by omega) (by omega) (by rw [e1,e2]; omega)).mono fun e w' ⟨h1,h2⟩=>⟨_,h1,fun σ' => ?_,h2⟩
   rw [e1,e2]
   exact .str _
 ·cases he
end Go.Proofs.YtanaackimepkdaaGreatDoor
namespace Go.Eng
open Go
def rnL (h:AVal→Option AVal):List AVal→Option (List AVal)
 | []=>some []
 | v::l=>match h v,rnL h l with
  | some a,some b=>some (a::b)
  | _,_=>none
def rnV (g:Nat→Option Nat):Nat→AVal→Option AVal
 | 0,v=>cond (ltV 0 v) (some v) none
 | d+1,v=>match v with
  | .ptr n off=>match g n with
   | some m=>some (.ptr m off)
   | none=>none
  | .slice n off len esz=>match g n with
   | some m=>some (.slice m off len esz)
   | none=>none
  | .map n=>match g n with
   | some m=>some (.map m)
   | none=>none
  | .mth f n off=>match g n with
   | some m=>some (.mth f m off)
   | none=>none
  | .fn f c=>match rnL (rnV g d) c with
   | some c=>some (.fn f c)
   | none=>none
  | .agg c=>match rnL (rnV g d) c with
   | some c=>some (.agg c)
   | none=>none
  | .tup c=>match rnL (rnV g d) c with
   | some c=>some (.tup c)
   | none=>none
  | .iface t v=>match rnV g d v with
   | some v=>some (.iface t v)
   | none=>none
  | v=>cond (ltV 0 v) (some v) none
theorem rnL_ok {h:AVal→Option AVal}{ρ:Nat→Nat→Prop}(hh:∀ v v',h v=some v'→RN ρ v v'):∀ {l l':List AVal},rnL h l=some l'→RL ρ l l'
 | [],l',e=>by cases e; exact RL.nil _
 | v::l,l',e=>by
  simp only [rnL] at e
  split at e
  ·rename_i a b h1 h2
   cases e
   exact RL.cons (hh v a h1) (rnL_ok hh h2)
  ·cases e
theorem rnV_ok {g:Nat→Option Nat}{ρ:Nat→Nat→Prop}(hg:∀ n m,g n=some m→ρ n m):∀ (d:Nat) (v v':AVal),rnV g d v=some v'→RN ρ v v'
 | 0,v,v',e=>by
  simp only [rnV] at e
  cases hb:ltV 0 v <;> rw [hb] at e
  ·cases e
  ·cases e
   exact .same hb
 | d+1,v,v',e=>by
  have ih:=rnV_ok hg d
  simp only [rnV] at e
  split at e
  ·split at e
   ·rename_i m hm; cases e; exact .ptr (hg _ _ hm)
   ·cases e
  ·split at e
   ·rename_i m hm; cases e; exact .slice (hg _ _ hm)
   ·cases e
  ·split at e
   ·rename_i m hm; cases e; exact .map (hg _ _ hm)
   ·cases e
  ·split at e
   ·rename_i m hm; cases e; exact .mth (hg _ _ hm)
   ·cases e
  ·split at e
   ·rename_i c hc; cases e; exact .fnL (rnL_ok ih hc)
   ·cases e
  ·split at e
   ·rename_i c hc; cases e; exact .aggL (rnL_ok ih hc)
   ·cases e
  ·split at e
   ·rename_i c hc; cases e; exact .tupL (rnL_ok ih hc)
   ·cases e
  ·split at e
   ·rename_i c hc; cases e; exact .iface (ih _ _ hc)
   ·cases e
  ·cases hb:ltV 0 v <;> rw [hb] at e
   ·cases e
   ·cases e
    exact .same hb
theorem RN.flip {ρ:Nat→Nat→Prop}{v v':AVal}(h:RN ρ v v'):RN (fun a b=>ρ b a) v' v:=by
 induction h with
 | same h=>exact .same h
 | ptr h=>exact .ptr h
 | slice h=>exact .slice h
 | map h=>exact .map h
 | fn hs _ ih=>exact .fn hs.symm fun i v v' h1 h2=>ih i v' v h2 h1
 | iface _ ih=>exact .iface ih
 | agg hs _ ih=>exact .agg hs.symm fun i v v' h1 h2=>ih i v' v h2 h1
 | tup hs _ ih=>exact .tup hs.symm fun i v v' h1 h2=>ih i v' v h2 h1
 | tp h=>exact .tp h
 | mth h=>exact .mth h
theorem RL.flip {ρ:Nat→Nat→Prop}{l l':List AVal}(h:RL ρ l l'):RL (fun a b=>ρ b a) l' l:=⟨h.1.symm,fun i v v' h1 h2=>(h.2 i v' v h2 h1).flip⟩
def nmG:Nat→AVal→List Nat
 | 0,_=>[]
 | d+1,v=>match v with
  | .ptr n _=>[n]
  | .slice n _ _ _=>[n]
  | .map n=>[n]
  | .mth _ n _=>[n]
  | .fn _ c=>c.flatMap (nmG d)
  | .agg c=>c.flatMap (nmG d)
  | .tup c=>c.flatMap (nmG d)
  | .iface _ v=>nmG d v
  | _=>[]
def leadG (η:Nat→Option AObj) (n:Nat):List Nat:=match η n with
 | some (.cells _ c)=>c.flatMap (nmG 4)
 | some (.mp c)=>c.flatMap (nmG 4)
 | none=>[]
def reachG (η:Nat→Option AObj):Nat→List Nat→List Nat
 | 0,a=>a
 | k+1,a=>cond (Nat.beq (addN a (a.flatMap (leadG η))).length a.length) a (reachG η k (addN a (a.flatMap (leadG η))))
def inG (G:Nat) (ns:List Nat) (n:Nat):Option Nat:=cond (Nat.ble (n+1) G) (some n) (match posN n ns 0 with
 | some i=>some (G+i)
 | none=>none)
def outG (G fr base:Nat) (ns ks:List Nat) (k:Nat):Option Nat:=cond (Nat.ble (k+1) G) (some k) (cond (Nat.ble fr k) (match posN k ks 0 with
 | some j=>some (base+j)
 | none=>none) (ns[k - G]?))
theorem inG_ok {G:Nat}{ns:List Nat}{n k:Nat}(h:inG G ns n=some k):ρ0 G ns k n:=by
 unfold inG at h
 cases hb:Nat.ble (n+1) G <;> rw [hb] at h <;> simp only [cond_true,cond_false] at h
 ·split at h
  ·rename_i i hi
   cases h
   exact .inr ⟨i,rfl,posN0 hi⟩
  ·cases h
 ·cases h
  exact .inl ⟨Nat.le_of_ble_eq_true hb,rfl⟩
theorem outG_ok {G fr base:Nat}{ns ks:List Nat}{k n:Nat}(h:outG G fr base ns ks k=some n):ρ1 G ns ks base k n:=by
 unfold outG at h
 cases hb:Nat.ble (k+1) G <;> rw [hb] at h <;> simp only [cond_true,cond_false] at h
 ·have hk:G≤k:=by
   rcases Nat.lt_or_ge k G with h1 | h1
   ·rw [Nat.ble_eq_true_of_le h1] at hb; cases hb
   ·exact h1
  cases hf:Nat.ble fr k <;> rw [hf] at h <;> simp only [cond_true,cond_false] at h
  ·exact .inl (.inr ⟨k - G,by omega,h⟩)
  ·split at h
   ·rename_i j hj
    cases h
    exact .inr ⟨j,posN0 hj,rfl⟩
   ·cases h
 ·cases h
  exact .inl (.inl ⟨Nat.le_of_ble_eq_true hb,rfl⟩)
def rnO (h:AVal→Option AVal):AObj→Option AObj
 | .cells ro c=>match rnL h c with
  | some c'=>some (.cells ro c')
  | none=>none
 | .mp c=>match rnL h c with
  | some c'=>some (.mp c')
  | none=>none
theorem rnO_ok {h:AVal→Option AVal}{ρ:Nat→Nat→Prop}(hh:∀ v v',h v=some v'→RN ρ v v'){o o':AObj}(e:rnO h o=some o'):RO ρ o o':=by
 unfold rnO at e
 split at e
 ·split at e
  ·rename_i c' hc
   cases e
   exact .inl ⟨_,_,_,rfl,rfl,rnL_ok hh hc⟩
  ·cases e
 ·split at e
  ·rename_i c' hc
   cases e
   exact .inr ⟨_,_,rfl,rfl,rnL_ok hh hc⟩
  ·cases e
theorem RO.flip {ρ:Nat→Nat→Prop}{o o':AObj}(h:RO ρ o o'):RO (fun a b=>ρ b a) o' o:=by
 rcases h with ⟨ro,c,c',rfl,rfl,h⟩ | ⟨c,c',rfl,rfl,h⟩
 ·exact .inl ⟨ro,c',c,rfl,rfl,h.flip⟩
 ·exact .inr ⟨c',c,rfl,rfl,h.flip⟩
def blG (G:Nat) (h:AVal→Option AVal) (η:Nat→Option AObj):List Nat→Nat→Option HL
 | [],_=>some []
 | n::l,i=>match η n,blG G h η l (i+1) with
  | some o,some H=>match rnO h o with
   | some o'=>some ((G+i,o')::H)
   | none=>none
  | _,_=>none
theorem blG_ok {G:Nat}{h:AVal→Option AVal}{η:Nat→Option AObj}:∀ {l:List Nat}{i:Nat}{H:HL},blG G h η l i=some H →
  (∀ k o,aget H k=some o→∃ (j n:Nat) (o0:AObj),k=G+(i+j)∧l[j]? = some n∧η n=some o0∧rnO h o0=some o)∧∀ (j n:Nat),l[j]? = some n→∃ o,η n=some o
 | [],i,H,e=>by
  cases e
  exact ⟨(fun k o hk=>by cases hk),(fun j n hj=>by simp at hj)⟩
 | n::l,i,H,e=>by
  simp only [blG] at e
  split at e
  ·rename_i o H1 hn h1
   split at e
   ·rename_i o' ho
    cases e
    obtain ⟨a,b⟩:=blG_ok h1
    refine ⟨fun k o2 hk => ?_,fun j m hj => ?_⟩
    ·simp only [aget] at hk
     rcases beq_cases (G+i) k with ⟨e,hb⟩ | ⟨e,hb⟩ <;> rw [hb] at hk
     ·simp only [cond_true,Option.some.injEq] at hk
      subst hk
      exact ⟨0,n,o,by omega,rfl,hn,ho⟩
     ·simp only [cond_false] at hk
      obtain ⟨j,m,o0,e1,e2,e3,e4⟩:=a k o2 hk
      exact ⟨j+1,m,o0,by omega,by simpa using e2,e3,e4⟩
    ·cases j with
     | zero=>simp at hj; subst hj; exact ⟨o,hn⟩
     | succ j=>exact b j m (by simpa using hj)
   ·cases e
  ·cases e
def bkG (G:Nat) (h:AVal→Option AVal) (Hc H':HL):List Nat→Nat→Option (List (Nat × Option AObj))
 | [],_=>some []
 | n::l,i=>match bkG G h Hc H' l (i+1) with
  | none=>none
  | some us=>match aget Hc (G+i) with
   | some (.cells true _)=>some us
   | _=>match aget H' (G+i) with
    | none=>some ((n,none)::us)
    | some o=>cond o.ro none (match rnO h o with
     | some o'=>some ((n,some o')::us)
     | none=>none)
theorem bkG_ok {G:Nat}{h:AVal→Option AVal}{Hc H':HL}:∀ {l:List Nat}{i:Nat}{us:List (Nat × Option AObj)},bkG G h Hc H' l i=some us →
  (∀ m x,(m,x) ∈ us→∃ j,l[j]? = some m∧(x=none ∨ ∃ o o',x=some o'∧aget H' (G+(i+j))=some o∧o.ro=false∧rnO h o=some o')) ∧
  ∀ j n o,l[j]? = some n→aget Hc (G+(i+j))=some o→o.ro=false→∃ x,(n,x) ∈ us
 | [],i,us,e=>by
  cases e
  exact ⟨(fun m x hm=>by cases hm),(fun j n o hj=>by simp at hj)⟩
 | n::l,i,us,e=>by
  simp only [bkG] at e
  split at e
  ·cases e
  ·rename_i us1 h1
   obtain ⟨a,b⟩:=bkG_ok h1
   have a':∀ m x,(m,x) ∈ us1→∃ j,(n::l)[j]? = some m∧(x=none ∨ ∃ o o',x=some o'∧aget H' (G+(i+j))=some o∧o.ro=false∧rnO h o=some o'):=fun m x hm=>by
    obtain ⟨j,e1,e2⟩:=a m x hm
    exact ⟨j+1,by simpa using e1,by rw [show i+(j+1)=i+1+j by omega]; exact e2⟩
   have b':∀ j m o,(n::l)[j+1]? = some m→aget Hc (G+(i+(j+1)))=some o→o.ro=false→∃ x,(m,x) ∈ us1:=fun j m o e1 e2 e3=>b j m o (by simpa using e1) (by rw [show i+1+j=i+(j+1) by omega]; exact e2) e3
   split at e
   ·rename_i c0 hc0
    cases e
    refine ⟨a',fun j m o e1 e2 e3 => ?_⟩
    cases j with
    | zero =>
     rw [Nat.add_zero,hc0] at e2
     cases e2
     cases e3
    | succ j=>exact b' j m o e1 e2 e3
   ·split at e
    ·rename_i hn
     cases e
     refine ⟨fun m x hm => ?_,fun j m o e1 e2 e3 => ?_⟩
     ·rcases List.mem_cons.1 hm with e | hm
      ·cases e
       exact ⟨0,rfl,.inl rfl⟩
      ·exact a' m x hm
     ·cases j with
      | zero=>simp at e1; subst e1; exact ⟨none,List.mem_cons_self ..⟩
      | succ j =>
       obtain ⟨x,hx⟩:=b' j m o e1 e2 e3
       exact ⟨x,List.mem_cons_of_mem _ hx⟩
    ·rename_i o1 ho1
     cases hro:o1.ro with
     | true=>rw [hro] at e; cases e
     | false =>
      rw [hro,cond_false] at e
      split at e
      ·rename_i o1' hr
       cases e
       refine ⟨fun m x hm => ?_,fun j m o e1 e2 e3 => ?_⟩
       ·rcases List.mem_cons.1 hm with e | hm
        ·cases e
         exact ⟨0,rfl,.inr ⟨o1,o1',rfl,ho1,hro,hr⟩⟩
        ·exact a' m x hm
       ·cases j with
        | zero=>simp at e1; subst e1; exact ⟨_,List.mem_cons_self ..⟩
        | succ j =>
         obtain ⟨x,hx⟩:=b' j m o e1 e2 e3
         exact ⟨x,List.mem_cons_of_mem _ hx⟩
      ·cases e
def nwG (base:Nat) (h:AVal→Option AVal) (H':HL):List Nat→Nat→Option (List (Nat × Option AObj))
 | [],_=>some []
 | k::l,j=>match aget H' k,nwG base h H' l (j+1) with
  | some o,some us=>cond o.ro none (match rnO h o with
   | some o'=>some ((base+j,some o')::us)
   | none=>none)
  | _,_=>none
theorem nwG_ok {base:Nat}{h:AVal→Option AVal}{H':HL}:∀ {l:List Nat}{i:Nat}{us:List (Nat × Option AObj)},nwG base h H' l i=some us →
  ∀ m x,(m,x) ∈ us→∃ j k o o',m=base+(i+j)∧l[j]? = some k∧x=some o'∧aget H' k=some o∧o.ro=false∧rnO h o=some o'
 | [],i,us,e=>by
  cases e
  exact fun m x hm=>by cases hm
 | k::l,i,us,e=>by
  simp only [nwG] at e
  split at e
  ·rename_i o us1 ho h1
   cases hro:o.ro with
   | true=>rw [hro] at e; cases e
   | false =>
    rw [hro,cond_false] at e
    split at e
    ·rename_i o' hr
     cases e
     intro m x hm
     rcases List.mem_cons.1 hm with e | hm
     ·cases e
      exact ⟨0,k,o,o',by omega,rfl,rfl,ho,hro,hr⟩
     ·obtain ⟨j,k',o2,o2',e1,e2,e3,e4,e5,e6⟩:=nwG_ok h1 m x hm
      exact ⟨j+1,k',o2,o2',by omega,by simpa using e2,e3,e4,e5,e6⟩
    ·cases e
  ·cases e
def nsG (G:Nat) (η:Nat→Option AObj) (args:List AVal):List Nat:=(reachG η 8 (addN [] (args.flatMap (nmG 4)))).filter (Nat.ble G)
def ksG (G m:Nat) (H':HL) (v:AVal):List Nat:=(reachG (aget H') 8 (addN [] ((List.range' G m)++nmG 4 v))).filter (Nat.ble (G+m))
def inlGK (P:Program) (cs:CS) (nn F:Nat) (f:FuncId) (args:List AVal) (ns:List Nat) (base:Nat) (η:Nat→Option AObj):Option (AVal × List (Nat × Option AObj)):=
 match cond (nodupB ns) (rnL (rnV (inG P.globals.size ns) 4) args) none with
 | none=>none
 | some cargs=>match blG P.globals.size (rnV (inG P.globals.size ns) 4) η ns 0 with
  | none=>none
  | some Hc=>match run1 P cs nn F f cargs (globA η P.globals.size 0++Hc) (P.globals.size+ns.length) with
   | none=>none
   | some (v0,H',_)=>match rnV (outG P.globals.size (P.globals.size+ns.length) base ns (ksG P.globals.size ns.length H' v0)) 4 v0,
     bkG P.globals.size (rnV (outG P.globals.size (P.globals.size+ns.length) base ns (ksG P.globals.size ns.length H' v0)) 4) (globA η P.globals.size 0++Hc) H' ns 0,
     nwG base (rnV (outG P.globals.size (P.globals.size+ns.length) base ns (ksG P.globals.size ns.length H' v0)) 4) H' (ksG P.globals.size ns.length H' v0) 0 with
    | some v,some us,some vs=>cond (nodupB (ksG P.globals.size ns.length H' v0) && Nat.ble (ksG P.globals.size ns.length H' v0).length 8 && nodupB ((us++vs).map (·.1))) (some (v,us++vs)) none
    | _,_,_=>none
def inlG (P:Program) (cs:CS) (nn F:Nat) (f:FuncId) (args:List AVal):EffA:=.eff fun base η=>inlGK P cs nn F f args (nsG P.globals.size η args) base η
theorem inlGN_ok {P:Program}{cs:CS}(hcs:CSOk P cs) (hm:P.follows .mixedOrders=true){nn F:Nat}{f:FuncId}{args:List AVal}{g:(Nat→Option AObj)→List Nat}(hg:∀ η n,n ∈ g η→P.globals.size≤n):CallOk P f args (.eff fun base η=>inlGK P cs nn F f args (g η) base η):=by
 refine callOk_deep hcs hm fun base η v us hK => ?_
 have hgn:=hg η
 generalize g η=ns at hK hgn
 unfold inlGK at hK
 split at hK
 ·cases hK
 rename_i cargs hc
 cases hnd:nodupB ns with
 | false=>rw [hnd] at hc; cases hc
 | true =>
 rw [hnd,cond_true] at hc
 split at hK
 ·cases hK
 rename_i Hc hH
 split at hK
 ·cases hK
 rename_i v0 H' fr' hr
 generalize hks:ksG P.globals.size ns.length H' v0=ks at hK
 split at hK
 ·rename_i v1 us1 vs1 hv hu hw
  cases hcc:(nodupB ks && Nat.ble ks.length 8 && nodupB ((us1++vs1).map (·.1))) with
  | false=>rw [hcc] at hK; cases hK
  | true =>
   rw [hcc] at hK
   cases hK
   simp only [Bool.and_eq_true] at hcc
   obtain ⟨⟨k1,k2⟩,k3⟩:=hcc
   obtain ⟨b1,b2⟩:=blG_ok hH
   obtain ⟨u1,u2⟩:=bkG_ok hu
   have w1:=nwG_ok hw
   have hin:∀ v v',rnV (inG P.globals.size ns) 4 v=some v'→RN (fun a b=>ρ0 P.globals.size ns b a) v v':=fun v v' h=>rnV_ok (ρ:=fun a b=>ρ0 P.globals.size ns b a) (fun n m hn=>inG_ok hn) 4 v v' h
   have hout:∀ v v',rnV (outG P.globals.size (P.globals.size+ns.length) base ns ks) 4 v=some v'→RN (ρ1 P.globals.size ns ks base) v v':=fun v v' h=>rnV_ok (ρ:=ρ1 P.globals.size ns ks base) (fun n m hn=>outG_ok hn) 4 v v' h
   refine ⟨{ nn:=nn,F:=F,ns:=ns,ks:=ks,cargs:=cargs,Hc:=globA η P.globals.size 0++Hc,fr:=P.globals.size+ns.length,v0:=v0,H':=H',fr':=fr',hns:=nodupB_ok hnd,hη:=fun n hn => ?_,hargs:=(rnL_ok hin hc).flip,hblk:=fun k o hk => ?_,hfr:=Nat.le_refl _,hrun:=hr,hks:=nodupB_ok k1,hks8:=Nat.le_of_ble_eq_true k2,hkfr:=fun k hk => ?_,hv:=hout _ _ hv,hnd:=nodupB_ok k3,hus:=fun m x hm => ?_,hall:=fun i n o hi ho hro => ?_ }⟩
   ·obtain ⟨j,hj⟩:=List.getElem?_of_mem hn
    exact .inl (b2 j n hj)
   ·rcases aget_append hk with h1 | h1
    ·obtain ⟨_,a2,a3,c,rfl,a5⟩:=globA_get k o h1
     exact ⟨k,_,.inl ⟨by omega,rfl⟩,a3,.inl ⟨true,c,c,rfl,rfl,RL.same a5⟩,fun _=>rfl⟩
    ·obtain ⟨j,n,o0,e1,e2,e3,e4⟩:=b1 k o h1
     exact ⟨n,o0,.inr ⟨j,by omega,e2⟩,e3,(rnO_ok hin e4).flip,fun hk=>by omega⟩
   ·rw [← hks] at hk
    unfold ksG at hk
    exact Nat.le_of_ble_eq_true (List.mem_filter.1 hk).2
   ·rcases List.mem_append.1 hm with h1 | h1
    ·obtain ⟨j,e1,e2⟩:=u1 m x h1
     refine .inl ⟨j,e1,?_⟩
     rcases e2 with rfl | ⟨o,o',e3,e4,e5,e6⟩
     ·exact .inl rfl
     ·exact .inr ⟨o,o',e3,by rw [Nat.zero_add] at e4; exact e4,e5,rnO_ok hout e6⟩
    ·obtain ⟨j,k,o,o',e1,e2,e3,e4,e5,e6⟩:=w1 m x h1
     exact .inr ⟨j,k,o,o',by omega,e2,e3,e4,e5,rnO_ok hout e6⟩
   ·obtain ⟨x,hx⟩:=u2 i n o hi (by rw [Nat.zero_add]; exact ho) hro
    exact ⟨x,List.mem_append.2 (.inl hx)⟩
 ·cases hK
theorem inlG_ok {P:Program}{cs:CS}(hcs:CSOk P cs) (hm:P.follows .mixedOrders=true){nn F:Nat}{f:FuncId}{args:List AVal}:CallOk P f args (inlG P cs nn F f args):=
 inlGN_ok hcs hm (g:=fun η=>nsG P.globals.size η args) fun η n hn=>by
  unfold nsG at hn
  exact Nat.le_of_ble_eq_true (List.mem_filter.1 hn).2
def inlGk (P:Program) (cs:CS) (nn F:Nat) (f:FuncId) (args:List AVal) (ks:List Nat):EffA:=
 match ks with
 | []=>inlG P cs nn F f args
 | ks=>.effk ks fun base η=>inlGK P cs nn F f args (nsG P.globals.size η args) base η
theorem inlGk_ok {P:Program}{cs:CS}(hcs:CSOk P cs) (hm:P.follows .mixedOrders=true){nn F:Nat}{f:FuncId}{args:List AVal}{ks:List Nat}:CallOk P f args (inlGk P cs nn F f args ks):=by
 unfold inlGk
 split
 ·exact inlG_ok hcs hm
 ·refine (inlG_ok hcs hm (nn:=nn) (F:=F)).less fun base H r hr => ?_
  obtain ⟨v,H'⟩:=r
  obtain ⟨us,e1,e2,rfl⟩:=effk_app hr
  unfold inlG
  simp only [EffA.app,e1]
def capK (args:List AVal):List Nat:=args.flatMap fun v=>match v with
 | .fn _ c=>c.flatMap (nmG 2)
 | _=>[]
def inlZ (P:Program) (nn:FuncId→Nat) (F:Nat) (pu:FuncId→Bool) (kp:FuncId→List AVal→List Nat) (cs:CS):Nat→CS
 | 0=>cs
 | k+1=>fun f args=>match cs f args with
  | some e=>some e
  | none=>cond (pu f && allV args) (match run1 P (inlZ P nn F pu kp cs k) (nn f) F f args [] P.globals.size with
   | some (v,_,_)=>cond (ltV 0 v) (some (.pure v)) (some (inlG P (inlZ P nn F pu kp cs k) (nn f) F f args))
   | none=>some (inlG P (inlZ P nn F pu kp cs k) (nn f) F f args)) (some (inlGk P (inlZ P nn F pu kp cs k) (nn f) F f args (kp f args)))
theorem inlZ_ok {P:Program}{nn:FuncId→Nat}{F:Nat}{pu:FuncId→Bool}{kp:FuncId→List AVal→List Nat}{cs:CS}(hm:P.follows .mixedOrders=true) (hcs:CSOk P cs):∀ k,CSOk P (inlZ P nn F pu kp cs k)
 | 0=>hcs
 | k+1=>fun f args e he=>by
  have ih:=inlZ_ok hm hcs (nn:=nn) (F:=F) (pu:=pu) (kp:=kp) k
  simp only [inlZ] at he
  split at he
  ·rename_i e1 h1
   cases he
   exact hcs f args _ h1
  ·cases ha:(pu f && allV args) with
   | false =>
    rw [ha,cond_false] at he
    cases he
    exact inlGk_ok ih hm
   | true =>
    rw [ha,cond_true] at he
    rw [Bool.and_eq_true] at ha
    split at he
    ·rename_i v H' fr' hr
     cases hv:ltV 0 v with
     | false =>
      rw [hv,cond_false] at he
      cases he
      exact inlG_ok ih hm
     | true =>
      rw [hv,cond_true] at he
      cases he
      exact callOk_run ih hm hr ha.2 hv
    ·cases he
     exact inlG_ok ih hm
end Go.Eng
namespace Go.Proofs.YtanaackimepkdaaGreatDoor
open Go Go.Eng Go.Num Go.Bla Bk
def tb:List (L8 × AVal)→L8→Option EffA
 | [],_=>none
 | (k,v)::l,a=>cond (a == k) (some (.pure v)) (tb l a)
theorem tb_ok {f:FuncId}:∀ (l:List (L8 × AVal)) (a:L8) (e:EffA),(∀ x ∈ l,CallOk Tryz.prog f [.str x.1] (.pure x.2))→tb l a=some e→CallOk Tryz.prog f [.str a] e
 | [],a,e,_,he=>by cases he
 | (k,v)::l,a,e,h,he=>by
  unfold tb at he
  cases hk:a == k with
  | true =>
   rw [hk,cond_true] at he
   cases he
   rw [eq_of_beq hk]
   exact h (k,v) (List.mem_cons_self ..)
  | false =>
   rw [hk,cond_false] at he
   exact tb_ok l a e (fun x hx=>h x (List.mem_cons_of_mem _ hx)) he
def puT:List (L8 × AVal):=[(kyL 97,.tup [.str vPA,.int .i64 0]),(kyL 98,.tup [.str vPB,.int .i64 0]),(kyL 99,.tup [.str vPC,.int .i64 0])]
def t38:List AVal→Option EffA
 | [.str a]=>tb puT a
 | _=>none
theorem pu38 {k v:L8}(h:puV ladE k=v∧puV ladP k=v∧puR k=0):CallOk Tryz.prog 38 [.str k] (.pure (.tup [.str v,.int .i64 0])):=by
 have r:=k38_ok 38 [.str k] (.pure (.tup [.str (puV ladE k),.int .i64 (puR k)])) rfl
 rwa [h.1,h.2.2] at r
theorem pu42 {k v:L8}(h:puV ladE k=v∧puV ladP k=v∧puR k=0):CallOk Tryz.prog 42 [.str k] (.pure (.tup [.str v,.int .i64 0])):=by
 have r:=k42_ok 42 [.str k] (.pure (.tup [.str (puV ladP k),.int .i64 (puR k)])) rfl
 rwa [h.2.1,h.2.2] at r
theorem pA:puV ladE (kyL 97)=vPA∧puV ladP (kyL 97)=vPA∧puR (kyL 97)=0:=pu_lit rfl lPA
theorem pB:puV ladE (kyL 98)=vPB∧puV ladP (kyL 98)=vPB∧puR (kyL 98)=0:=pu_lit rfl lPB
theorem pC:puV ladE (kyL 99)=vPC∧puV ladP (kyL 99)=vPC∧puR (kyL 99)=0:=pu_lit rfl lPC
theorem t38_ok:CSOk Tryz.prog (csOne 38 t38):=csOne_ok fun args e he=>by
 unfold t38 at he
 split at he
 ·refine tb_ok _ _ _ (fun x hx => ?_) he
  simp only [puT,List.mem_cons,List.not_mem_nil,or_false] at hx
  rcases hx with rfl | rfl | rfl
  ·exact pu38 pA
  ·exact pu38 pB
  ·exact pu38 pC
 ·cases he
theorem t42_ok:CSOk Tryz.prog (csOne 42 t38):=csOne_ok fun args e he=>by
 unfold t38 at he
 split at he
 ·refine tb_ok _ _ _ (fun x hx => ?_) he
  simp only [puT,List.mem_cons,List.not_mem_nil,or_false] at hx
  rcases hx with rfl | rfl | rfl
  ·exact pu42 pA
  ·exact pu42 pB
  ·exact pu42 pC
 ·cases he
def t72:List AVal→Option EffA
 | [.str a,.str b]=>cond (a == kyL 97 && b == vPB) (some (.pure (.tup [.str vX,.int .i64 0]))) (cond (a == kyL 98 && b == vPA) (some (.pure (.tup [.str vX,.int .i64 0]))) (cond (a == kyL 99 && b == vPA) (some (.pure (.tup [.str vY,.int .i64 0]))) none))
 | _=>none
theorem sh72 {k u v:L8}(h:shV ladE k u=v∧shR ladE k u=0):CallOk Tryz.prog 72 [.str k,.str u] (.pure (.tup [.str v,.int .i64 0])):=by
 have r:=k72_ok 72 [.str k,.str u] (.pure (.tup [.str (shV ladE k u),.int .i64 (shR ladE k u)])) rfl
 rwa [h.1,h.2] at r
theorem and2 {a b c d:L8}(h:(a == c && b == d)=true):a=c∧b=d:=by
 rw [Bool.and_eq_true] at h
 exact ⟨eq_of_beq h.1,eq_of_beq h.2⟩
theorem cond_some {α:Type}{b:Bool}{x y:Option α}{e:α}(h:cond b x y=some e):b=true∧x=some e ∨ b=false∧y=some e:=by
 cases b
 ·exact .inr ⟨rfl,h⟩
 ·exact .inl ⟨rfl,h⟩
theorem t72_ok:CSOk Tryz.prog (csOne 72 t72):=csOne_ok fun args e he=>by
 unfold t72 at he
 split at he
 ·rcases cond_some he with ⟨h,e1⟩ | ⟨_,he⟩
  ·obtain ⟨rfl,rfl⟩:=and2 h
   cases e1
   exact sh72 (sh_lit rfl rfl lX (by decide))
  rcases cond_some he with ⟨h,e1⟩ | ⟨_,he⟩
  ·obtain ⟨rfl,rfl⟩:=and2 h
   cases e1
   exact sh72 (sh_lit rfl rfl lZ (by decide))
  rcases cond_some he with ⟨h,e1⟩ | ⟨_,he⟩
  ·obtain ⟨rfl,rfl⟩:=and2 h
   cases e1
   exact sh72 (sh_lit rfl rfl lY (by decide))
  ·cases he
 ·cases he
def mkK (c:List AVal) (mk:Nat→AVal):EffA:=.eff fun base η=>match η 4 with
 | some (.cells true a)=>cond (Bk.eqL a ordC) (some (mk base,[(base,some (.cells false c))])) none
 | _=>none
theorem mkK_le {c:List AVal}{mk:Nat→AVal}{base:Nat}{H:HL}{r:AVal × HL}(h:(mkK c mk).app base H=some r):(mkT 4 ordC c mk).app base H=some r:=by
 unfold mkK at h
 simp only [EffA.app] at h
 cases h4:aget H 4 with
 | none=>rw [h4] at h; cases h
 | some o =>
  rw [h4] at h
  cases o with
  | mp _=>cases h
  | cells t a =>
   cases t with
   | false=>cases h
   | true =>
    simp only at h
    cases hb:Bk.eqL a ordC with
    | false=>rw [hb] at h; cases h
    | true =>
     rw [hb,cond_true] at h
     have ea:=Bk.eqL_eq hb
     subst ea
     rw [mkT_app h4]
     exact h
def t73:List AVal→Option EffA
 | [.str k,.str x,.int .i64 1]=>cond (k == dcL && x == vX) (some (mkK [.str vK] (fun b=>.tup [.slice b 0 1 1,.int .i64 0]))) (cond (k == dcL && x == vY) (some (mkK [.str vKY] (fun b=>.tup [.slice b 0 1 1,.int .i64 0]))) none)
 | _=>none
theorem wF_ok:CSOk Tryz.prog (csP (psOne 202 (q40 wF))):=g40_ok
theorem csP_get {f:FuncId}{g:List AVal→Option (EffA × Bool)}(h:CSOk Tryz.prog (csP (psOne f g))){args:List AVal}{e:EffA}(hg:g args=some (e,true)):CallOk Tryz.prog f args e:=by
 refine h f args e ?_
 simp only [csP,psOne,Nat.beq_refl,cond_true,hg]
theorem ch73 (x:L8) (h:gdS x=true):CallOk Tryz.prog 73 [.str dcL,.str x,.int .i64 1] (mkT 4 ordC [.str (kcD wF x)] (fun b=>.tup [.slice b 0 1 1,.int .i64 0])):=
 csP_get (q43d_ok (q94_ok wF_ok) (q94d_ok wF_ok)) (by show some (_,(dcL == dcL) && gdS x)=_; rw [h]; rfl)
theorem t73_ok:CSOk Tryz.prog (csOne 73 t73):=csOne_ok fun args e he=>by
 unfold t73 at he
 split at he
 ·rcases cond_some he with ⟨h,e1⟩ | ⟨_,he⟩
  ·obtain ⟨rfl,rfl⟩:=and2 h
   cases e1
   rw [← kK]
   exact (ch73 vX (by decide)).less fun base H r hr=>mkK_le hr
  rcases cond_some he with ⟨h,e1⟩ | ⟨_,he⟩
  ·obtain ⟨rfl,rfl⟩:=and2 h
   cases e1
   rw [← kKY]
   exact (ch73 vY (by decide)).less fun base H r hr=>mkK_le hr
  ·cases he
 ·cases he
def t93:List AVal→Option EffA
 | [.str k,.str n,.str a,.str s]=>cond (k == vK && n == vNO && (a == vAD && s == vMS)) (some (.pure (.tup [.str vST,.int .i64 0]))) none
 | _=>none
def t39:List AVal→Option EffA
 | [.str k,.str n,.str a,.str s]=>cond (k == vK && n == vNO && (a == vAD && s == vST)) (some (.pure (.tup [.str vMS,.int .i64 0]))) (cond (k == vKY && n == vNO && (a == vAC && s == vST)) (some (.pure (.tup [.str [],.int .i64 100]))) none)
 | _=>none
theorem and4 {a b c d a' b' c' d':L8}(h:(a == a' && b == b' && (c == c' && d == d'))=true):a=a'∧b=b'∧c=c'∧d=d':=by
 rw [Bool.and_eq_true] at h
 exact ⟨(and2 h.1).1,(and2 h.1).2,(and2 h.2).1,(and2 h.2).2⟩
theorem t93_ok:CSOk Tryz.prog (csOne 93 t93):=csOne_ok fun args e he=>by
 unfold t93 at he
 split at he
 ·rcases cond_some he with ⟨h,e1⟩ | ⟨_,he⟩
  ·obtain ⟨rfl,rfl,rfl,rfl⟩:=and4 h
   cases e1
   have r:=Ae.call7 vK vNO vAD vMS
   rwa [se1] at r
  ·cases he
 ·cases he
theorem t39_ok:CSOk Tryz.prog (csOne 39 t39):=csOne_ok fun args e he=>by
 unfold t39 at he
 split at he
 ·rcases cond_some he with ⟨h,e1⟩ | ⟨_,he⟩
  ·obtain ⟨rfl,rfl,rfl,rfl⟩:=and4 h
   cases e1
   have r:=Ae.call9 vK vNO vAD vST (by decide)
   rwa [op1] at r
  rcases cond_some he with ⟨h,e1⟩ | ⟨_,he⟩
  ·obtain ⟨rfl,rfl,rfl,rfl⟩:=and4 h
   cases e1
   have r:=Ae.call9 vKY vNO vAC vST (by decide)
   rwa [op2] at r
  ·cases he
 ·cases he
def csT:CS:=csAlt (csOne 38 t38) (csAlt (csOne 42 t38) (csAlt (csOne 72 t72) (csAlt (csOne 73 t73) (csAlt (csOne 93 t93) (csAlt (csOne 39 t39) (csOne 100 k100))))))
theorem csT_ok:CSOk Tryz.prog csT:=csAlt_ok t38_ok (csAlt_ok t42_ok (csAlt_ok t72_ok (csAlt_ok t73_ok (csAlt_ok t93_ok (csAlt_ok t39_ok k100_ok)))))
end Go.Proofs.YtanaackimepkdaaGreatDoor
namespace Go.Proofs.YtanaackimepkdaaGreatDoor
open Go Go.Eng Go.Num Go.Bla Bk
def puA (f:FuncId):Bool:=!(Nat.beq f 17 || Nat.beq f 45 || Nat.beq f 37 || Nat.beq f 10)
def kpA (f:FuncId) (a:List AVal):List Nat:=cond (Nat.beq f 60) [] (capK a)
noncomputable def csA:CS:=inlZ Tryz.prog mask 200 puA kpA csT 8
theorem csA_ok:CSOk Tryz.prog csA:=inlZ_ok hmix csT_ok 8
def tx1:L8:=List.replicate 15 0++[1]
noncomputable def v17:AVal:=((run1 Tryz.prog csA (mask 17) 200 17 [.str (kyL 97),.str vPB,.str vNO,.str tx1,.str vPB] H0 5).map (·.1)).getD .nilPtr
theorem r17:(run1 Tryz.prog csA (mask 17) 200 17 [.str (kyL 97),.str vPB,.str vNO,.str tx1,.str vPB] H0 5).map (·.1)=some v17:=by kernel_rfl
theorem u17:unS 5 [] v17=some v17:=by kernel_rfl
theorem run_get {α β γ:Type}{r:Option (α × β × γ)}{v:α}(h:r.map (·.1)=some v):∃ H fr,r=some (v,H,fr):=by
 cases r with
 | none=>cases h
 | some x =>
  obtain ⟨a,b,c⟩:=x
  cases h
  exact ⟨b,c,rfl⟩
noncomputable def t17:List AVal→Option EffA
 | [.str a,.str b,.str c,.str d,.str e]=>cond (a == kyL 97 && b == vPB && (c == vNO && d == tx1) && e == vPB) (some (tL (some v17))) none
 | _=>none
theorem t17_ok:CSOk Tryz.prog (csOne 17 t17):=csOne_ok fun args e he=>by
 unfold t17 at he
 split at he
 ·rcases cond_some he with ⟨h,e1⟩ | ⟨_,he⟩
  ·rw [Bool.and_eq_true] at h
   obtain ⟨rfl,rfl,rfl,rfl⟩:=and4 h.1
   have h2:=eq_of_beq h.2
   subst h2
   cases e1
   exact callOk_tL csA_ok ⟨fun _=>rfl,rfl⟩ fun x hx=>by
    cases hx
    obtain ⟨H',fr',hr⟩:=run_get r17
    exact ⟨u17,200,mask 17,H',fr',hr⟩
  ·cases he
 ·cases he
noncomputable def csB:CS:=csAlt (csOne 17 t17) csA
theorem csB_ok:CSOk Tryz.prog csB:=csAlt_ok t17_ok csA_ok
theorem runAlive:(run1 Tryz.prog csB (mask 9) 200 9 [] H0 5).map (·.1)=some (.bool true):=by kernel_rfl
theorem alive_ok:CallOk Tryz.prog 9 [] (tL (some (.bool true))):=callOk_tL csB_ok ⟨fun _=>rfl,rfl⟩ fun x hx=>by
 cases hx
 obtain ⟨H',fr',hr⟩:=run_get runAlive
 exact ⟨rfl,200,mask 9,H',fr',hr⟩
end Go.Proofs.YtanaackimepkdaaGreatDoor
namespace Go.Proofs.YtanaackimepkdaaGreatDoor
open Go Go.Eng Go.Num Go.Bla Bk
def c9:List AVal→Option EffA
 | []=>some (tL (some (.bool true)))
 | _=>none
theorem c9_ok:CSOk Tryz.prog (csOne 9 c9):=csOne_ok fun args e he=>by
 unfold c9 at he
 split at he
 ·cases he
  exact alive_ok
 ·cases he
noncomputable def csN:CS:=csAlt (csOne 9 c9) (inlZ Tryz.prog mask 200 puA kpA noCS 8)
theorem csN_ok:CSOk Tryz.prog csN:=csAlt_ok c9_ok (inlZ_ok hmix (noCS_ok _) 8)
theorem n7a (sv:Int) (tx:L8) (now:UInt64):ansO (run1O Tryz.prog noPS csN [14] [true] [] (mask 7) 200 7 [.int .i64 sv,.str tx,.u64 now] H0 5)=some (.bool true,[decide ((4096:Int) < (tx.length:Int))]):=by kernel_rfl
theorem n7b (sv:Int) (tx:L8) (now:UInt64):ansO (run1O Tryz.prog noPS csN [14] [false] [] (mask 7) 200 7 [.int .i64 sv,.str tx,.u64 now] H0 5)=some (.bool true,[!(decide ((4096:Int) < (tx.length:Int)))]):=by kernel_rfl
theorem law7 (sv:Int) (tx:L8) (now:UInt64):(run1 Tryz.prog csN (mask 7) 200 7 [.int .i64 sv,.str tx,.u64 now] H0 5).map (·.1)=some (.bool true):=by
 cases h:decide ((4096:Int) < (tx.length:Int)) with
 | true=>exact ansO_run (noPS_ok _) (n7a sv tx now) (by rw [h]; rfl)
 | false=>exact ansO_run (noPS_ok _) (n7b sv tx now) (by rw [h]; rfl)
end Go.Proofs.YtanaackimepkdaaGreatDoor
namespace Go.Eng
open Go Go.WideShapes Go.ChangeShapes
inductive Kd where
 | bool
 | int (k:IntKind)
 | str
def HasK:Kd→Value→Prop
 | .bool,v => ∃ b,v=.bool b
 | .int k,v => ∃ n,v=.int k n∧(Lit.int k n).wf=true
 | .str,v => ∃ s:ByteArray,v=.string s∧s.size≤maxLen
def KindsP:List Kd→List Value→Prop
 | [],[]=>True
 | k::ks,v::vs=>HasK k v∧KindsP ks vs
 | _,_=>False
theorem KindsP.append : ∀ {ks ks' : List Kd} {vs vs' : List Value}, KindsP ks vs → KindsP ks' vs' → KindsP (ks ++ ks') (vs ++ vs')
  | [], _, [], _, _, h => h
  | k :: ks, _, v :: vs, _, h, h' => ⟨h.1, h.2.append h'⟩
def kindsFs (rec:TypeId→Option (List Kd)) (P:Program):List Field→Nat→Option (List Kd)
 | [],_=>some []
 | f::l,a=>match rec f.type with
  | some ks=>cond (Nat.beq f.offset a && Nat.beq ks.length (P.cellsOf f.type)) (match kindsFs rec P l (a+ks.length) with
   | some r=>some (ks++r)
   | none=>none) none
  | none=>none
def kindsOf (P:Program):Nat→TypeId→Option (List Kd)
 | 0,_=>none
 | n+1,t=>match P.underlying t with
  | some .bool=>some [.bool]
  | some (.int k)=>some [.int k]
  | some .string=>some [.str]
  | some (.struct fs)=>match kindsFs (kindsOf P n) P fs.toList 0 with
   | some ks=>cond (Nat.beq ks.length (P.cellsOf t)) (some ks) none
   | none=>none
  | _=>none
section
variable {H:Type}{enc:TypeId × Value→H}{P:Program}{w:World}{base:Nat}{spare:Nat→Bool}{held:Bool}
theorem kindsFs_ok {rec:TypeId→Option (List Kd)}{m:Nat}{cs:List Value}(hr:∀ t ks cs' x,rec t=some ks→DataW.trod enc P w base spare held m t cs'=some x→KindsP ks cs') :
  ∀ (l:List Field) (a:Nat) (ks:List Kd),kindsFs rec P l a=some ks→a+ks.length≤cs.length→(∀ f ∈ l,∃ x,DataW.trod enc P w base spare held m f.type ((cs.drop f.offset).take (P.cellsOf f.type))=some x)→KindsP ks ((cs.drop a).take ks.length)
 | [],a,ks,h,_,_=>by
  cases h
  rw [List.length_nil,List.take_zero]; trivial
 | f::l,a,ks,h,hle,hx=>by
  unfold kindsFs at h
  split at h
  ·rename_i k1 hk1
   cases hc:(Nat.beq f.offset a && Nat.beq k1.length (P.cellsOf f.type)) with
   | false=>rw [hc] at h; cases h
   | true =>
    rw [hc,cond_true] at h
    simp only [Bool.and_eq_true] at hc
    have e1:=Nat.eq_of_beq_eq_true hc.1
    have e2:=Nat.eq_of_beq_eq_true hc.2
    split at h
    ·rename_i r hr2
     cases h
     obtain ⟨x,hx1⟩:=hx f (List.mem_cons_self ..)
     have h1:=hr _ _ _ _ hk1 hx1
     rw [e1,← e2] at h1
     rw [List.length_append] at hle
     have h2:=kindsFs_ok hr l (a+k1.length) r hr2 (by omega) (fun g hg=>hx g (List.mem_cons_of_mem _ hg))
     have:=h1.append h2
     rw [List.length_append,List.take_add]
     rw [List.drop_drop]
     exact this
    ·cases h
  ·cases h
theorem kindsOf_ok:∀ (n:Nat) (t:TypeId) (ks:List Kd),kindsOf P n t=some ks→∀ (m:Nat) (cs:List Value) (x:DataW H × List MemPlace),DataW.trod enc P w base spare held m t cs=some x→KindsP ks cs
 | 0,_,_,h,_,_,_,_=>by cases h
 | n+1,t,ks,h,m,cs,x,hx=>by
  unfold kindsOf at h
  split at h
  ·rename_i ht
   cases h
   obtain ⟨b,rfl,_⟩:=DataW.trod_bool ht hx
   exact ⟨⟨b,rfl⟩,trivial⟩
  ·rename_i k ht
   cases h
   obtain ⟨z,rfl,_,hz⟩:=DataW.trod_int ht hx
   exact ⟨⟨z,rfl,hz⟩,trivial⟩
  ·rename_i ht
   cases h
   obtain ⟨s,rfl,_,hs⟩:=DataW.trod_string ht hx
   exact ⟨⟨s,rfl,hs⟩,trivial⟩
  ·rename_i fs ht
   split at h
   ·rename_i ks' hk
    cases hc:Nat.beq ks'.length (P.cellsOf t) with
    | false=>rw [hc] at h; cases h
    | true =>
     rw [hc] at h
     cases h
     have e:=Nat.eq_of_beq_eq_true hc
     obtain ⟨xs,m',rfl,_,hl,hxl,hf⟩:=DataW.trod_struct ht hx
     have:=kindsFs_ok (cs:=cs) (m:=m') (fun t ks cs' x h1 h2=>kindsOf_ok n t ks h1 m' cs' x h2) fs.toList 0 _ hk (by omega) (fun f hmem=>by
      obtain ⟨i,hi⟩:=List.getElem?_of_mem hmem
      have hi2:fs[i]? = some f:=by simpa using hi
      have:=hf i f hi2
      have hlt:i < xs.length:=by rw [hxl]; exact (Array.getElem?_eq_some_iff.1 hi2).1
      exact ⟨xs[i],by rw [this]; simp [hlt]⟩)
     rw [List.drop_zero,e,← hl,List.take_length] at this
     exact this
   ·cases h
  ·cases h
end
def Still (W w':World):Prop:=∀ b,b < W.heap.size→w'.heap[b]? = W.heap[b]?
theorem hrel_ro {σ:Sig}{H:Heap}{w:World}(h:∀ n o,H n=some o→o.ro=true∧∃ p,σ n=some p∧ORel σ w p o):HRel σ H w:=
 ⟨fun n o hn=>(h n o hn).2,fun n m o o' p q hn hm _ _ _=>.inr ⟨(h n o hn).1,(h m o' hm).1⟩⟩
theorem law_calls_H {P:Program}{cs:CS}(hcs:CSOk P cs) (hm:P.follows .mixedOrders=true){nn F:Nat}{f:FuncId}{args:List AVal}{H:HL}{fr:Nat}(h:(run1 P cs nn F f args H fr).map (·.1)=some (.bool true))
  {σ:Sig} {args':Array Value} {w:World} (hro:∀ n o,aget H n=some o→o.ro=true∧∃ p,σ n=some p∧ORel σ w p o) (hg:GRel P σ) (hfr:Fresh σ fr) (hl:LR σ args args') :
  Calls P f args' w fun r w'=>r=.returned (.bool true)∧Grew w w'∧Still w w':=by
 obtain ⟨r,hr,hrv⟩:=optMap h
 obtain ⟨v,H',fr'⟩:=r
 obtain ⟨fn,c,hf,hb,hrun⟩:=run1_some hr
 refine (runF_ok hcs hm hf hb hrun hl (hrel_ro hro) hg hfr).mono fun r w' ⟨σ',v',h1,h2,_,h4,_⟩ => ?_
 have hv:v=.bool true:=hrv
 subst hv
 cases h2
 have hs:Still w w':=fun b hb=>(h4.old b hb (by
  rintro ⟨n,o,p,g1,g2,_⟩
  rw [(hro n o g1).1] at g2
  cases g2)).1
 exact ⟨h1,grew_of h4.os h4.output h4.size hs,hs⟩
theorem args_stay {H:Type}{enc:TypeId × Value→H}{P:Program}(hl:laidOutB P=true){W W':World}(hs:Still W W') :
  ∀ {ts:List TypeId} {vs:List Value} {ds:List (DataW H)} {ps:List MemPlace},(ts.all fun t=>P.readableRec t && decide (t < P.types.size))=true→DataW.TrodAll enc P W 0 (fun _=>true) true ts vs ds ps→(∀ p ∈ ps,p.block < W.heap.size) →
  ∀ sp:Nat→Bool,(∀ p ∈ ps,sp p.block=true)→DataW.TrodAll enc P W' 0 sp true ts vs ds ps
 | [],[],[],_,_,h,_,_,_=>h
 | t::ts,v::vs,d::ds,ps,ht,⟨p,q,h1,h2,e⟩,hlt,sp,hsp=>by
  simp only [List.all_cons,Bool.and_eq_true,decide_eq_true_eq] at ht
  subst e
  have same:∀ x:MemPlace,x.block < W.heap.size→W.sameAt W' x:=fun x hx=>by
   cases x with
   | cell b off =>
    show W'.cell? _=W.cell? _
    unfold World.cell?
    rw [show W'.heap[(⟨b,off,none⟩:Addr).block]? = W.heap[b]? from hs b hx]
   | map b=>exact hs b hx
  exact ⟨p,q,Go.WideElems.Trod_stays hl ht.1.1 ht.1.2 h1 (fun x hx=>same x (hlt x (List.mem_append_left _ hx))) (fun x hx=>hsp x (List.mem_append_left _ hx)),
   args_stay hl hs (by simpa using ht.2) h2 (fun x hx=>hlt x (List.mem_append_right _ hx)) sp (fun x hx=>hsp x (List.mem_append_right _ hx)),rfl⟩
end Go.Eng
namespace Go.Eng
open Go
theorem table_u8n {H:Type}{enc:TypeId × Value→H}{P:Program}{W:World}{n:String}{g:Nat}{t e e2:TypeId}{cs:Array Value}{k k2:Nat}{L:List (List UInt8)}{base:Nat}{spare:Nat→Bool}{held:Bool}{fuel:Nat}{x:DataW H × List MemPlace}
  (hg:P.globalNamed n=some g) (hv:W.var? P n=some cs) (ht:P.underlying t=some (.array k e)) (he:P.underlying e=some (.array k2 e2)) (he2:P.underlying e2=some (.int .u8)) (hc:P.cellsOf e=k2) (hc2:P.cellsOf e2=1) (hk2:0 < k2)
  (hL:∀ r,r ∈ L→r.length=k2)
  (hd:DataW.trod enc P W base spare held fuel t cs.toList=some x) (hx:x.1=.agg (L.map fun r=>.agg (r.map fun y=>.lit (.int .u8 (y.toNat:Int))))) (σ:Sig):ORel σ W ⟨g,0,cs.size,none⟩ (.cells true (L.flatten.map .u8)):=by
 have hb:∃ t' fz,W.heap[g]? = some (.cells cs t' fz):=by
  simp only [World.var?,hg,Option.bind_some] at hv
  split at hv
  ·rename_i hh
   simp only [Option.some.injEq] at hv
   subst hv
   exact ⟨_,_,hh⟩
  ·cases hv
 obtain ⟨t',fz,hb⟩:=hb
 refine ⟨cs,t',fz,hb,rfl,fun i v hi => ?_,(fun h=>by cases h),fun T h=>by cases h⟩
 obtain ⟨xs,m,rfl,hx1,hlen,hn,hel⟩:=DataW.trod_array ht hd
 rw [hx1] at hx
 simp only [DataW.agg.injEq] at hx
 rw [List.getElem?_map] at hi
 cases hl:L.flatten[i]? with
 | none=>rw [hl] at hi; cases hi
 | some y =>
  rw [hl] at hi
  simp only [Option.map_some,Option.some.injEq] at hi
  subst hi
  have hxl:xs.length=L.length:=by
   have:=congrArg List.length hx
   simpa using this
  have hfl:L.flatten.length=L.length * k2:=by
   clear hx hl hxl
   induction L with
   | nil=>simp
   | cons r L ih =>
    rw [List.flatten_cons,List.length_append,hL r (List.mem_cons_self ..),ih (fun r hr=>hL r (List.mem_cons_of_mem _ hr)),List.length_cons,Nat.succ_mul]
    omega
  have hil:i < L.length * k2:=by
   have:=(List.getElem?_eq_some_iff.1 hl).1
   omega
  have ha:i / k2 < L.length:=by rw [Nat.div_lt_iff_lt_mul hk2]; exact hil
  have hbb:i % k2 < k2:=Nat.mod_lt _ hk2
  have hir:i / k2 * k2+i % k2=i:=by rw [Nat.mul_comm]; exact Nat.div_add_mod i k2
  obtain ⟨r,hr⟩:∃ r,L[i / k2]? = some r:=⟨_,List.getElem?_eq_getElem ha⟩
  have hrl:=hL r (List.mem_of_getElem? hr)
  have hry:r[i % k2]? = some y:=by
   have key:∀ (L:List (List UInt8)) (a b:Nat) (r:List UInt8),(∀ r,r ∈ L→r.length=k2)→L[a]? = some r→b < k2→L.flatten[a * k2+b]? = r[b]?:=by
    intro L
    induction L with
    | nil=>intro a b r _ h _; simp at h
    | cons q L ih =>
     intro a b r hq h hb
     rw [List.flatten_cons]
     cases a with
     | zero =>
      simp only [List.getElem?_cons_zero,Option.some.injEq] at h
      subst h
      rw [Nat.zero_mul,Nat.zero_add,List.getElem?_append_left (by rw [hq _ (List.mem_cons_self ..)]; exact hb)]
     | succ a =>
      rw [List.getElem?_cons_succ] at h
      have hql:=hq q (List.mem_cons_self ..)
      rw [List.getElem?_append_right (by rw [hql,Nat.succ_mul]; omega),hql,← ih a b r (fun r hr=>hq r (List.mem_cons_of_mem _ hr)) h hb]
      congr 1
      rw [Nat.succ_mul]; omega
   have:=key L (i / k2) (i % k2) r hL hr hbb
   rw [hir,hl] at this
   exact this.symm
  have hxi:(xs.map (·.1))[i / k2]? = some (.agg (r.map fun y=>.lit (.int .u8 (y.toNat:Int)))):=by rw [hx,List.getElem?_map,hr]; rfl
  rw [List.getElem?_map] at hxi
  cases hxs:xs[i / k2]? with
  | none=>rw [hxs] at hxi; cases hxi
  | some z =>
   rw [hxs] at hxi
   simp only [Option.map_some,Option.some.injEq] at hxi
   have h1:=hel (i / k2) (by omega)
   rw [hxs,hc] at h1
   obtain ⟨ys,m2,rfl,hy1,_,hyn,hel2⟩:=DataW.trod_array he h1
   rw [hy1] at hxi
   simp only [DataW.agg.injEq] at hxi
   have hyi:(ys.map (·.1))[i % k2]? = some (.lit (.int .u8 (y.toNat:Int))):=by rw [hxi,List.getElem?_map,hry]; rfl
   rw [List.getElem?_map] at hyi
   cases hys:ys[i % k2]? with
   | none=>rw [hys] at hyi; cases hyi
   | some w =>
    rw [hys] at hyi
    simp only [Option.map_some,Option.some.injEq] at hyi
    have h2:=hel2 (i % k2) hbb
    rw [hys,hc2,Nat.mul_one] at h2
    obtain ⟨q,e1,e3,_⟩:=DataW.trod_int he2 h2
    rw [e3] at hyi
    simp only [DataW.lit.injEq,Lit.int.injEq,true_and] at hyi
    have h3:cs.toList[i]? = some (.int .u8 q):=by
     have:(List.take 1 (((cs.toList.drop (i / k2 * k2)).take k2).drop (i % k2)))[0]? = some (.int .u8 q):=by rw [e1]; rfl
     rw [List.getElem?_take_of_lt (by omega),List.getElem?_drop,Nat.add_zero,List.getElem?_take_of_lt hbb,List.getElem?_drop,hir] at this
     exact this
    refine ⟨.int .u8 q,by rw [Nat.zero_add]; simpa using h3,?_⟩
    rw [hyi]
    exact .u8 y
end Go.Eng
namespace Go.Proofs.YtanaackimepkdaaGreatDoor
open Go Go.Eng Go.ChangeShapes Go.WideShapes Go.ChangeAt Go.RowKit Go.Bla Bk
set_option maxRecDepth 1000000
def ordB:List (List UInt8):=ordL.map fun r=>r.map UInt8.ofNat
def laid1 : List (String × DataW Unit) := [("math/bits.deBruijn32tab", Rows.laid_math_bits_deBruijn32tab), ("math/bits.deBruijn64tab", Rows.laid_math_bits_deBruijn64tab), ("internal/strconv.uint64pow10", Rows.laid_internal_strconv_uint64pow10), ("isthmus/blake.orders", Rows.laid_isthmus_blake_orders)]
theorem gTab : Tryz.prog.globalNamed "isthmus/blake.orders" = some 4 := by kernel_rfl
theorem door_met (os:Os) (args:Array Value):laidMetH Tryz.prog laid1 ((World.doorLaid Tryz.prog 400 os).forCall (fun _ _=>0) ⟨#[],args,[]⟩).memory:=
 laidMetH_of_parts3 (fuel:=8) (laidMet_of_run' 8 (by kernel_rfl) (by kernel_rfl)) (by kernel_rfl) (by kernel_rfl)
theorem tabD {H:Type}:(Rows.laid_isthmus_blake_orders:DataW H)=.agg (ordB.map fun r=>.agg (r.map fun y=>.lit (.int .u8 (y.toNat:Int)))):=by kernel_rfl
theorem tabA:ordC=ordB.flatten.map .u8:=by kernel_rfl
theorem tTab:(Tryz.prog.globals[4]?).map (·.type)=some 297:=by kernel_rfl
theorem uTab:Tryz.prog.underlying 297=some (.array 10 221):=by kernel_rfl
theorem uRow:Tryz.prog.underlying 221=some (.array 16 5):=by kernel_rfl
theorem uEl:Tryz.prog.underlying 5=some (.int .u8):=by kernel_rfl
theorem rowsB:∀ r,r ∈ ordB→r.length=16:=by decide
theorem of_laid {W:World}(h:laidMetH Tryz.prog laid1 W):∃ n,∀ σ,ORel σ W ⟨4,0,n,none⟩ (.cells true ordC):=by
 rw [MakeChecks.laidMetH_plain _ _ _ (by kernel_rfl)] at h
 obtain ⟨ps,⟨g2,t2,cs2,f2,p2,q2,hg2,ht2,hv2,hd2,r1,_⟩,_,_⟩:=h
 obtain ⟨g3,t3,cs3,f3,p3,q3,hg3,ht3,hv3,hd3,r2,_⟩:=r1
 obtain ⟨g1,t1,cs1,f1,p1,q1,hg1,ht1,hv1,hd1,r3,_⟩:=r2
 obtain ⟨g0,t0,cs0,f0,p0,q0,hg0,ht0,hv0,hd0,_⟩:=r3
 obtain rfl:=Option.some.inj (gTab.symm.trans hg0)
 obtain rfl:=Option.some.inj (tTab.symm.trans ht0)
 refine ⟨cs0.size,fun σ => ?_⟩
 rw [tabA]
 exact table_u8n hg0 hv0 uTab uRow uEl (by kernel_rfl) (by kernel_rfl) (by decide) rowsB hd0 tabD σ
def sigT (n:Nat):Sig:=fun g=>if g=4 then some ⟨4,0,n,none⟩ else if g < 4 then some ⟨g,0,0,none⟩ else none
theorem sigT_g (n:Nat):GRel Tryz.prog (sigT n):=fun g hg=>by
 have e1:Tryz.prog.globals.size=5:=gl1
 unfold sigT
 by_cases h:g=4
 ·subst h
  exact ⟨n,rfl⟩
 ·rw [if_neg h,if_pos (by omega)]
  exact ⟨0,rfl⟩
theorem sigT_fresh (n:Nat):Fresh (sigT n) 5:=fun k hk=>by
 unfold sigT
 rw [if_neg (by omega),if_neg (by omega)]
theorem law_calls_TS {cs:CS}(hcs:CSOk Tryz.prog cs){f:FuncId}{args:List AVal}(h:∃ nn F,(run1 Tryz.prog cs nn F f args H0 5).map (·.1)=some (.bool true)){args':Array Value}{W:World}(hL:laidMetH Tryz.prog laid1 W) (hl:∀ σ,LR σ args args') :
  Calls Tryz.prog f args' W fun r w'=>r=.returned (.bool true)∧Grew W w'∧Still W w':=by
 obtain ⟨nn,F,h⟩:=h
 obtain ⟨n,ho⟩:=of_laid hL
 refine law_calls_H hcs hmix h (σ:=sigT n) (fun k o hk => ?_) (sigT_g n) (sigT_fresh n) (hl _)
 unfold H0 at hk
 rcases beq_cases 4 k with ⟨e,hb⟩ | ⟨e,hb⟩
 ·simp only [aget,hb,cond_true,Option.some.injEq] at hk
  subst hk
  subst e
  exact ⟨rfl,_,rfl,ho _⟩
 ·simp only [aget,hb,cond_false] at hk
  cases hk
end Go.Proofs.YtanaackimepkdaaGreatDoor
