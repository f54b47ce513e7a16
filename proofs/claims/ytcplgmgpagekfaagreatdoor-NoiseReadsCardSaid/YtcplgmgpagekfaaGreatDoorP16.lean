/- Texts Wh6, Eng29, Eng42, WJ: what they show that this claim uses. -/
import Derived.Test.YtcplgmgpagekfaaGreatDoorP15
import Derived.Test.YtcplgmgpagekfaaGreatDoorP6
import Derived.Deep.Slices
import Derived.WideKeyArgs
import Derived.OpenShut
import Derived.Test.YtcplgmgpagekfaaGreatDoorRows
import Derived.WalkKit
import Derived.ProofKit
import Derived.LaidMore
import Derived.ShutString
import Derived.Stop.Joined
set_option maxRecDepth 100000
set_option maxHeartbeats 1000000
set_option linter.unusedVariables false
set_option linter.unusedSimpArgs false
namespace Go.Proofs.YtcplgmgpagekfaaGreatDoor
open Go Go.Eng Go.Num Go.Bla
theorem lA:(kyL 97).length=32:=rfl
theorem lB:(kyL 98).length=32:=rfl
theorem lE:(kyL 101).length=32:=rfl
theorem KF {φ:Fz}{a b:L8}{s:St}(h:φ.sr a b=0):(CZ φ a b s).ck=kc0 φ.w s.ck (φ.sh a b)∧(CZ φ a b s).k=kc1 φ.w s.ck (φ.sh a b):=by
 unfold CZ
 rw [h]
 exact ⟨rfl,rfl⟩
theorem Ku:Ax.w=wF:=rfl
theorem Xv:Ax.no=Ae.GA 0:=rfl
theorem ae6 (k n a s:L8):Ax.sv k n a s=(Ae.seF k n a s).1:=rfl
theorem ad4 (k n a s:L8):Ax.oe k n a s=(Ae.opF k n a s).2:=rfl
section
variable (φ:Fz) (a o e p t:L8) (s:St) (sa ep u:L8)
theorem aja:(z1 φ o e p).ck=Bq (φ.w nmL):=rfl
theorem aif:z2 φ o e p=CZ φ e o (z1 φ o e p):=rfl
theorem alZ:(z2 φ o e p).h=Bq (φ.w (Bq (φ.w (Bq (φ.w (Bq (φ.w nmL)++p))++o))++φ.pu e)):=rfl
theorem ajZ:(z3 φ a o e p).ck=(z2 φ o e p).ck:=rfl
theorem ajt:(z5 φ a o e p t).ck=(CZ φ a o (z3 φ a o e p)).ck:=rfl
theorem ah6:(j1 φ s e).ck=s.ck:=rfl
theorem aky:j2 φ s ep e=CZ φ e ep (j1 φ s e):=rfl
theorem ajE:(j4 φ s sa ep e t).ck=(CZ φ e sa (j2 φ s ep e)).ck:=rfl
theorem aeL:svT φ t s=φ.sv s.k φ.no s.h t:=rfl
theorem ag3:opE φ t s=φ.oe s.k φ.no s.h t:=rfl
theorem ahI:(Cq φ e (bgS φ p o)).ck=Bq (φ.w nmL):=rfl
theorem alI:(CZ φ a ep (Cq φ e (bgS φ p o))).h=Bq (φ.w (Bq (φ.w (Bq (φ.w (Bq (φ.w nmL)++p))++o))++e)):=rfl
end
theorem akd (p:L8):(z2 Ax (Ax.pu (kyL 98)) (kyL 101) p).ck=vC1∧(z2 Ax (Ax.pu (kyL 98)) (kyL 101) p).k=vK1:=by
 have h:=KF (s:=z1 Ax (Ax.pu (kyL 98)) (kyL 101) p) dEB.1
 rw [aja,Ku,kC0,M7,x1,kC1,kK1] at h
 rw [aif,M7]
 exact h
theorem ck5 (p t:L8):(z5 Ax (kyL 97) (Ax.pu (kyL 98)) (kyL 101) p t).ck=vC2:=by
 have h:=(KF (s:=z3 Ax (kyL 97) (Ax.pu (kyL 98)) (kyL 101) p) dAB.1).1
 rw [ajZ,(akd p).1] at h
 rw [ajt,h,M7,x2,Ku,kC2]
theorem ckJ (p t u:L8):(j4 Ax (z5 Ax (kyL 97) (Ax.pu (kyL 98)) (kyL 101) p t) (Ax.pu (kyL 97)) (Ax.pu (kyL 101)) (kyL 102) u).ck=vC4:=by
 have e0:=ck5 p t
 generalize z5 Ax (kyL 97) (Ax.pu (kyL 98)) (kyL 101) p t=S at e0
 have h1:=(KF (s:=j1 Ax S (kyL 102)) dFE.1).1
 rw [ah6,e0,← aky] at h1
 have h2:=(KF (s:=j2 Ax S (Ax.pu (kyL 101)) (kyL 102)) dFA.1).1
 rw [ajE,h2,h1,Y3,x3,Ku,kC3,abp,x4,kC4]
theorem abh:kc1 Ax.w (j4 Ax (z5 Ax (kyL 97) (Ax.pu (kyL 98)) (kyL 101) [112] [97,98,99]) (Ax.pu (kyL 97)) (Ax.pu (kyL 101)) (kyL 102) [120,121]).ck [] ≠ kc0 Ax.w (j4 Ax (z5 Ax (kyL 97) (Ax.pu (kyL 98)) (kyL 101) [112] [97,98,99]) (Ax.pu (kyL 97)) (Ax.pu (kyL 101)) (kyL 102) [120,121]).ck []:=by
 rw [ckJ,Ku,kS0,kS1]
 decide
theorem hZP:(z2 Ax (Ax.pu (kyL 98)) (kyL 101) [112]).h=vHP:=by
 rw [alZ,Ku,kC0,am6,M7,ann,Y3,kHP]
theorem SZ:vK1.length=32:=by decide
theorem Xz:svT Ax (Ax.pu (kyL 97)) (z2 Ax (Ax.pu (kyL 98)) (kyL 101) [112])=vCt++vTP:=by
 rw [aeL,Xv,ae6,(akd [112]).2,hZP,abp,Xe (TF SZ) (by decide) (by decide),kCt,tgP]
theorem Xm {s:St}(hk:s.k=vK1) (hh:s.h=vHQ):opE Ax (vCt++vTP) s=100:=by
 rw [ag3,Xv,ad4,hk,hh,OJ (TF SZ) (by decide) (by decide) (by decide),tgQ,if_neg (by decide)]
theorem PI {m:L8}(e1:sl m 0 32=Ax.pu (kyL 101)):(w2 Ax (kyL 98) [113] m).k=vK1∧(w2 Ax (kyL 98) [113] m).h=vHQ:=by
 have hw2:w2 Ax (kyL 98) [113] m=CZ Ax (kyL 98) (Ax.pu (kyL 101)) (Cq Ax (Ax.pu (kyL 101)) (bgS Ax [113] (Ax.pu (kyL 98)))):=by
  unfold w2 w1
  rw [e1]
 have h:=(KF (s:=Cq Ax (Ax.pu (kyL 101)) (bgS Ax [113] (Ax.pu (kyL 98)))) dEB.2.1).2
 rw [ahI,← dEB.2.2,M7,x1,Ku,kC0,kK1] at h
 rw [hw2]
 refine ⟨?_,?_⟩
 ·rw [M7]
  exact h
 ·rw [alI,Ku,kC0,amn,M7,alx,Y3,kHQ]
theorem Sm {φ:Fz}(hφ:OkR φ){a b e p q t:L8}(ha:a.length=32) (hb:b.length=32) (he:e.length=32) (hp:p.length≤4096) (hq:q.length≤4096) (ht:t.length≤4096) (heb:DH φ e b) (hab:DH φ a b) (m:L8) (hm:m=zm φ a (φ.pu b) e p t)
  (h:sl m 0 32=φ.pu e→opE φ (svT φ (φ.pu a) (z2 φ (φ.pu b) e p)) (w2 φ b q m)=100):rdD φ b q m=.tup [ot0,.agg AE,.int .i64 100]:=by
 have pe:=hφ.hpl e he
 have pa:=hφ.hpl a ha
 obtain ⟨hml,_⟩:=Od hφ ha hb he hp ht heb hab
 have i2:Inv (z2 φ (φ.pu b) e p):=Bj _ _ (Bm _ (Gf _ _ _))
 have k2:(z2 φ (φ.pu b) e p).k.length=32:=Lv heb.1
 have s1:=(Gk hφ i2 rfl k2 (t:=φ.pu a) (by omega)).2.2.2
 have e1:sl m 0 32=φ.pu e:=by
  have:=afh (φ.pu e) (svT φ (φ.pu a) (z2 φ (φ.pu b) e p)++svT φ t (z4 φ a (φ.pu b) e p))
  rw [pe,← List.append_assoc] at this
  rw [hm]
  exact this
 have e2:sl m 32 80=svT φ (φ.pu a) (z2 φ (φ.pu b) e p):=by
  have:=aje (φ.pu e) (svT φ (φ.pu a) (z2 φ (φ.pu b) e p)) (svT φ t (z4 φ a (φ.pu b) e p))
  rw [pe,s1,pa] at this
  rw [hm]
  exact this
 have ho:=h e1
 rw [← hm] at hml
 have n1:ltB2 m 96=false:=by unfold ltB2; rw [hml]; simp; omega
 have n2:gtB m 4192=false:=Qb (by omega)
 unfold rdD
 rw [MB hb,FC hq,n2,n1,e1,e2,heb.2.1,ho]
 rfl
theorem adw:rdD Ax (kyL 98) [113] (zm Ax (kyL 97) (Ax.pu (kyL 98)) (kyL 101) [112] [97,98,99])=.tup [ot0,.agg AE,.int .i64 100]:=by
 refine Sm okR lA lB lE (p:=[112]) (q:=[113]) (t:=[97,98,99]) (by decide) (by decide) (by decide) dEB dAB _ rfl fun e1 => ?_
 rw [Xz]
 generalize zm Ax (kyL 97) (Ax.pu (kyL 98)) (kyL 101) [112] [97,98,99]=m at e1
 exact Xm (PI e1).1 (PI e1).2
theorem ah1:Ai Tryz.prog (Ag 6 c6):=Ak fun args e he=>by
 have hcs:Ai Tryz.prog (ae2 Ax):=Af QP (Af (Mv okZ.toOkZ zN4) (Af (Ln okZ.toOkZ zN4) (Af (YU zN4) (Af (Zu zN4) z7))))
 unfold c6 at he
 split at he
 ·cases he
  exact Et hcs rfl rfl ⟨200,mask 6,BD (adL okR dEB dAB dFE dFA adw abh)⟩
 ·cases he
theorem zL:Ai Tryz.prog (csL Ax):=Af (AN (QS okZ.toOkZ zX) (aey okZ.toOkZ zX)) (Af ah2 (Af I8 (Af (Mp okZ.toOkZ zX) (Af (afr okZ.toOkZ zX) (Af (Mv okZ.toOkZ zN4) (Af (Ln okZ.toOkZ zN4) (Af (YU zN4) (Af (Zu zN4) (Af z7 ah1)))))))))
theorem acl (a b e f p o t ms rp:L8):AG Tryz.prog 4 [rB a b e f p o t,.str ms,.str rp] (tL (some (.bool true))):=
 Et zL rfl rfl ⟨200,mask 4,BD (ajy okZ a b e f p o t ms rp)⟩
end Go.Proofs.YtcplgmgpagekfaaGreatDoor
namespace Go.Eng
open Go Go.WideShapes Go.ChangeShapes
inductive Kd where
 | bool
 | int (k:IntKind)
 | str
def aiJ:Kd→Value→Prop
 | .bool,v => ∃ b,v=.bool b
 | .int k,v => ∃ n,v=.int k n∧(Lit.int k n).wf=true
 | .str,v => ∃ s:ByteArray,v=.string s∧s.size≤maxLen
def BW:List Kd→List Value→Prop
 | [],[]=>True
 | k::ks,v::vs=>aiJ k v∧BW ks vs
 | _,_=>False
theorem BW.append:∀ {ks ks':List Kd}{vs vs':List Value},BW ks vs→BW ks' vs'→BW (ks++ks') (vs++vs')
 | [],_,[],_,_,h=>h
 | k::ks,_,v::vs,_,h,h'=>⟨h.1,h.2.append h'⟩
def JX (rec:TypeId→Option (List Kd)) (P:Program):List Field→Nat→Option (List Kd)
 | [],_=>some []
 | f::l,a=>match rec f.type with
  | some ks=>cond (Nat.beq f.offset a && Nat.beq ks.length (P.cellsOf f.type)) (match JX rec P l (a+ks.length) with
   | some r=>some (ks++r)
   | none=>none) none
  | none=>none
def Ia (P:Program):Nat→TypeId→Option (List Kd)
 | 0,_=>none
 | n+1,t=>match P.underlying t with
  | some .bool=>some [.bool]
  | some (.int k)=>some [.int k]
  | some .string=>some [.str]
  | some (.struct fs)=>match JX (Ia P n) P fs.toList 0 with
   | some ks=>cond (Nat.beq ks.length (P.cellsOf t)) (some ks) none
   | none=>none
  | _=>none
section
variable {H:Type}{enc:TypeId × Value→H}{P:Program}{w:World}{base:Nat}{spare:Nat→Bool}{held:Bool}
theorem LK {rec:TypeId→Option (List Kd)}{m:Nat}{cs:List Value}(hr:∀ t ks cs' x,rec t=some ks→DataW.trod enc P w base spare held m t cs'=some x→BW ks cs') :
  ∀ (l:List Field) (a:Nat) (ks:List Kd),JX rec P l a=some ks→a+ks.length≤cs.length→(∀ f ∈ l,∃ x,DataW.trod enc P w base spare held m f.type ((cs.drop f.offset).take (P.cellsOf f.type))=some x)→BW ks ((cs.drop a).take ks.length)
 | [],a,ks,h,_,_=>by
  cases h
  rw [List.length_nil,List.take_zero]; trivial
 | f::l,a,ks,h,hle,hx=>by
  unfold JX at h
  split at h
  ·rename_i k1 hk1
   cases hc:(Nat.beq f.offset a && Nat.beq k1.length (P.cellsOf f.type)) with
   | false=>rw [hc] at h; cases h
   | true =>
    rw [hc,cond_true] at h
    simp only [Bool.and_eq_true] at hc
    have e1:=Nat.eq_of_beq_eq_true hc.1
    have e2:=Nat.eq_of_beq_eq_true hc.2
    split at h
    ·rename_i r hr2
     cases h
     obtain ⟨x,hx1⟩:=hx f (List.mem_cons_self ..)
     have h1:=hr _ _ _ _ hk1 hx1
     rw [e1,← e2] at h1
     rw [List.length_append] at hle
     have h2:=LK hr l (a+k1.length) r hr2 (by omega) (fun g hg=>hx g (List.mem_cons_of_mem _ hg))
     have:=h1.append h2
     rw [List.length_append,List.take_add]
     rw [List.drop_drop]
     exact this
    ·cases h
  ·cases h
theorem Hh:∀ (n:Nat) (t:TypeId) (ks:List Kd),Ia P n t=some ks→∀ (m:Nat) (cs:List Value) (x:DataW H × List MemPlace),DataW.trod enc P w base spare held m t cs=some x→BW ks cs
 | 0,_,_,h,_,_,_,_=>by cases h
 | n+1,t,ks,h,m,cs,x,hx=>by
  unfold Ia at h
  split at h
  ·rename_i ht
   cases h
   obtain ⟨b,rfl,_⟩:=DataW.trod_bool ht hx
   exact ⟨⟨b,rfl⟩,trivial⟩
  ·rename_i k ht
   cases h
   obtain ⟨z,rfl,_,hz⟩:=DataW.trod_int ht hx
   exact ⟨⟨z,rfl,hz⟩,trivial⟩
  ·rename_i ht
   cases h
   obtain ⟨s,rfl,_,hs⟩:=DataW.trod_string ht hx
   exact ⟨⟨s,rfl,hs⟩,trivial⟩
  ·rename_i fs ht
   split at h
   ·rename_i ks' hk
    cases hc:Nat.beq ks'.length (P.cellsOf t) with
    | false=>rw [hc] at h; cases h
    | true =>
     rw [hc] at h
     cases h
     have e:=Nat.eq_of_beq_eq_true hc
     obtain ⟨xs,m',rfl,_,hl,hxl,hf⟩:=DataW.trod_struct ht hx
     have:=LK (cs:=cs) (m:=m') (fun t ks cs' x h1 h2=>Hh n t ks h1 m' cs' x h2) fs.toList 0 _ hk (by omega) (fun f hmem=>by
      obtain ⟨i,hi⟩:=List.getElem?_of_mem hmem
      have hi2:fs[i]? = some f:=by simpa using hi
      have:=hf i f hi2
      have hlt:i < xs.length:=by rw [hxl]; exact (Array.getElem?_eq_some_iff.1 hi2).1
      exact ⟨xs[i],by rw [this]; simp [hlt]⟩)
     rw [List.drop_zero,e,← hl,List.take_length] at this
     exact this
   ·cases h
  ·cases h
end
theorem BW.cons {k:Kd}{ks:List Kd}{cs:List Value}(h:BW (k::ks) cs):∃ v vs,cs=v::vs∧aiJ k v∧BW ks vs:=by
 cases cs with
 | nil=>exact h.elim
 | cons v vs=>exact ⟨v,vs,rfl,h.1,h.2⟩
theorem BW.none {cs:List Value}(h:BW [] cs):cs=[]:=by
 cases cs with
 | nil=>rfl
 | cons v vs=>exact h.elim
inductive VRs:List AVal→List Value→Prop where
 | nil:VRs [] []
 | cons {u v us vs} (h:∀ σ,VR σ u v) (t:VRs us vs):VRs (u::us) (v::vs)
theorem VRs.get {us:List AVal}{vs:List Value}(h:VRs us vs):∀ (j:Nat) u v,us[j]? = some u→vs[j]? = some v→∀ σ,VR σ u v:=by
 induction h with
 | nil=>intro j u v hj; simp at hj
 | cons h t ih =>
  intro j u v h1 h2 σ
  cases j with
  | zero=>simp at h1 h2; subst h1 h2; exact h σ
  | succ j=>exact ih j u v (by simpa using h1) (by simpa using h2) σ
def Still (W w':World):Prop:=∀ b,b < W.heap.size→w'.heap[b]? = W.heap[b]?
theorem aaW {σ:Sig}{H:BP}{w:World}(h:∀ n o,H n=some o→o.ro=true∧∃ p,σ n=some p∧Cu σ w p o):HRel σ H w:=
 ⟨fun n o hn=>(h n o hn).2,fun n m o o' p q hn hm _ _ _=>.inr ⟨(h n o hn).1,(h m o' hm).1⟩⟩
theorem Pe {P:Program}{cs:CS}(hcs:Ai P cs) (hm:P.follows .mixedOrders=true){nn F:Nat}{f:FuncId}{args:List AVal}{H:HL}{fr:Nat}(h:(Au P cs nn F f args H fr).map (·.1)=some (.bool true))
  {σ:Sig} {args':Array Value} {w:World} (hro:∀ n o,Aa H n=some o→o.ro=true∧∃ p,σ n=some p∧Cu σ w p o) (hg:CN P σ) (hfr:AO σ fr) (hl:LR σ args args') :
  Calls P f args' w fun r w'=>r=.returned (.bool true)∧UI w w'∧Still w w':=by
 obtain ⟨r,hr,hrv⟩:=QF h
 obtain ⟨v,H',fr'⟩:=r
 obtain ⟨fn,c,hf,hb,hrun⟩:=BJ hr
 refine (CO hcs hm hf hb hrun hl (aaW hro) hg hfr).mono fun r w' ⟨σ',v',h1,h2,_,h4,_⟩ => ?_
 have hv:v=.bool true:=hrv
 subst hv
 cases h2
 have hs:Still w w':=fun b hb=>(h4.old b hb (by
  rintro ⟨n,o,p,g1,g2,_⟩
  rw [(hro n o g1).1] at g2
  cases g2)).1
 exact ⟨h1,aat h4.os h4.output h4.size hs,hs⟩
theorem IN {H:Type}{enc:TypeId × Value→H}{P:Program}(hl:laidOutB P=true){W W':World}(hs:Still W W') :
  ∀ {ts:List TypeId} {vs:List Value} {ds:List (DataW H)} {ps:List MemPlace},(ts.all fun t=>P.readableRec t && decide (t < P.types.size))=true→DataW.TrodAll enc P W 0 (fun _=>true) true ts vs ds ps→(∀ p ∈ ps,p.block < W.heap.size) →
  ∀ sp:Nat→Bool,(∀ p ∈ ps,sp p.block=true)→DataW.TrodAll enc P W' 0 sp true ts vs ds ps
 | [],[],[],_,_,h,_,_,_=>h
 | t::ts,v::vs,d::ds,ps,ht,⟨p,q,h1,h2,e⟩,hlt,sp,hsp=>by
  simp only [List.all_cons,Bool.and_eq_true,decide_eq_true_eq] at ht
  subst e
  have same:∀ x:MemPlace,x.block < W.heap.size→W.sameAt W' x:=fun x hx=>by
   cases x with
   | cell b off =>
    show W'.cell? _=W.cell? _
    unfold World.cell?
    rw [show W'.heap[(⟨b,off,none⟩:Addr).block]? = W.heap[b]? from hs b hx]
   | map b=>exact hs b hx
  exact ⟨p,q,Go.WideElems.Trod_stays hl ht.1.1 ht.1.2 h1 (fun x hx=>same x (hlt x (List.mem_append_left _ hx))) (fun x hx=>hsp x (List.mem_append_left _ hx)),
   IN hl hs (by simpa using ht.2) h2 (fun x hx=>hlt x (List.mem_append_right _ hx)) sp (fun x hx=>hsp x (List.mem_append_right _ hx)),rfl⟩
end Go.Eng
namespace Go.Eng
open Go
theorem Ul {H:Type}{enc:TypeId × Value→H}{P:Program}{W:World}{n:String}{g:Nat}{t e e2:TypeId}{cs:Array Value}{k k2:Nat}{L:List (List UInt8)}{base:Nat}{spare:Nat→Bool}{held:Bool}{fuel:Nat}{x:DataW H × List MemPlace}
  (hg:P.globalNamed n=some g) (hv:W.var? P n=some cs) (ht:P.underlying t=some (.array k e)) (he:P.underlying e=some (.array k2 e2)) (he2:P.underlying e2=some (.int .u8)) (hc:P.cellsOf e=k2) (hc2:P.cellsOf e2=1) (hk2:0 < k2)
  (hL:∀ r,r ∈ L→r.length=k2)
  (hd:DataW.trod enc P W base spare held fuel t cs.toList=some x) (hx:x.1=.agg (L.map fun r=>.agg (r.map fun y=>.lit (.int .u8 (y.toNat:Int))))) (σ:Sig):Cu σ W ⟨g,0,cs.size,none⟩ (.cells true (L.flatten.map .u8)):=by
 have hb:∃ t' fz,W.heap[g]? = some (.cells cs t' fz):=by
  simp only [World.var?,hg,Option.bind_some] at hv
  split at hv
  ·rename_i hh
   simp only [Option.some.injEq] at hv
   subst hv
   exact ⟨_,_,hh⟩
  ·cases hv
 obtain ⟨t',fz,hb⟩:=hb
 refine ⟨cs,t',fz,hb,rfl,fun i v hi => ?_,(fun h=>by cases h),fun T h=>by cases h⟩
 obtain ⟨xs,m,rfl,hx1,hlen,hn,hel⟩:=DataW.trod_array ht hd
 rw [hx1] at hx
 simp only [DataW.agg.injEq] at hx
 rw [List.getElem?_map] at hi
 cases hl:L.flatten[i]? with
 | none=>rw [hl] at hi; cases hi
 | some y =>
  rw [hl] at hi
  simp only [Option.map_some,Option.some.injEq] at hi
  subst hi
  have hxl:xs.length=L.length:=by
   have:=congrArg List.length hx
   simpa using this
  have hfl:L.flatten.length=L.length * k2:=by
   clear hx hl hxl
   induction L with
   | nil=>simp
   | cons r L ih =>
    rw [List.flatten_cons,List.length_append,hL r (List.mem_cons_self ..),ih (fun r hr=>hL r (List.mem_cons_of_mem _ hr)),List.length_cons,Nat.succ_mul]
    omega
  have hil:i < L.length * k2:=by
   have:=(List.getElem?_eq_some_iff.1 hl).1
   omega
  have ha:i / k2 < L.length:=by rw [Nat.div_lt_iff_lt_mul hk2]; exact hil
  have hbb:i % k2 < k2:=Nat.mod_lt _ hk2
  have hir:i / k2 * k2+i % k2=i:=by rw [Nat.mul_comm]; exact Nat.div_add_mod i k2
  obtain ⟨r,hr⟩:∃ r,L[i / k2]? = some r:=⟨_,List.getElem?_eq_getElem ha⟩
  have hrl:=hL r (List.mem_of_getElem? hr)
  have hry:r[i % k2]? = some y:=by
   have key:∀ (L:List (List UInt8)) (a b:Nat) (r:List UInt8),(∀ r,r ∈ L→r.length=k2)→L[a]? = some r→b < k2→L.flatten[a * k2+b]? = r[b]?:=by
    intro L
    induction L with
    | nil=>intro a b r _ h _; simp at h
    | cons q L ih =>
     intro a b r hq h hb
     rw [List.flatten_cons]
     cases a with
     | zero =>
      simp only [List.getElem?_cons_zero,Option.some.injEq] at h
      subst h
      rw [Nat.zero_mul,Nat.zero_add,List.getElem?_append_left (by rw [hq _ (List.mem_cons_self ..)]; exact hb)]
     | succ a =>
      rw [List.getElem?_cons_succ] at h
      have hql:=hq q (List.mem_cons_self ..)
      rw [List.getElem?_append_right (by rw [hql,Nat.succ_mul]; omega),hql,← ih a b r (fun r hr=>hq r (List.mem_cons_of_mem _ hr)) h hb]
      congr 1
      rw [Nat.succ_mul]; omega
   have:=key L (i / k2) (i % k2) r hL hr hbb
   rw [hir,hl] at this
   exact this.symm
  have hxi:(xs.map (·.1))[i / k2]? = some (.agg (r.map fun y=>.lit (.int .u8 (y.toNat:Int)))):=by rw [hx,List.getElem?_map,hr]; rfl
  rw [List.getElem?_map] at hxi
  cases hxs:xs[i / k2]? with
  | none=>rw [hxs] at hxi; cases hxi
  | some z =>
   rw [hxs] at hxi
   simp only [Option.map_some,Option.some.injEq] at hxi
   have h1:=hel (i / k2) (by omega)
   rw [hxs,hc] at h1
   obtain ⟨ys,m2,rfl,hy1,_,hyn,hel2⟩:=DataW.trod_array he h1
   rw [hy1] at hxi
   simp only [DataW.agg.injEq] at hxi
   have hyi:(ys.map (·.1))[i % k2]? = some (.lit (.int .u8 (y.toNat:Int))):=by rw [hxi,List.getElem?_map,hry]; rfl
   rw [List.getElem?_map] at hyi
   cases hys:ys[i % k2]? with
   | none=>rw [hys] at hyi; cases hyi
   | some w =>
    rw [hys] at hyi
    simp only [Option.map_some,Option.some.injEq] at hyi
    have h2:=hel2 (i % k2) hbb
    rw [hys,hc2,Nat.mul_one] at h2
    obtain ⟨q,e1,e3,_⟩:=DataW.trod_int he2 h2
    rw [e3] at hyi
    simp only [DataW.lit.injEq,Lit.int.injEq,true_and] at hyi
    have h3:cs.toList[i]? = some (.int .u8 q):=by
     have:(List.take 1 (((cs.toList.drop (i / k2 * k2)).take k2).drop (i % k2)))[0]? = some (.int .u8 q):=by rw [e1]; rfl
     rw [List.getElem?_take_of_lt (by omega),List.getElem?_drop,Nat.add_zero,List.getElem?_take_of_lt hbb,List.getElem?_drop,hir] at this
     exact this
    refine ⟨.int .u8 q,by rw [Nat.zero_add]; simpa using h3,?_⟩
    rw [hyi]
    exact .u8 y
end Go.Eng
namespace Go.Proofs.YtcplgmgpagekfaaGreatDoor
open Go Go.Eng Go.ChangeShapes Go.WideShapes Go.ChangeAt Go.RowKit Go.Bla
set_option maxRecDepth 1000000
def aep:List (List UInt8):=Zv.map fun r=>r.map UInt8.ofNat
def F1 : List (String × DataW Unit) := [("isthmus/blake.orders", Rows.laid_isthmus_blake_orders)]
theorem anp : Tryz.prog.globalNamed "isthmus/blake.orders" = some 0 := by kernel_rfl
theorem OC (os:Os) (args:Array Value):laidMetH Tryz.prog F1 ((World.doorLaid Tryz.prog 400 os).forCall (fun _ _=>0) ⟨#[],args,[]⟩).memory:=
 laidMetH_of_parts3 (fuel:=8) (laidMet_of_run' 8 (by kernel_rfl) (by kernel_rfl)) (by kernel_rfl) (by kernel_rfl)
theorem ama {H:Type}:(Rows.laid_isthmus_blake_orders:DataW H)=.agg (aep.map fun r=>.agg (r.map fun y=>.lit (.int .u8 (y.toNat:Int)))):=by kernel_rfl
theorem amO:Bb=aep.flatten.map .u8:=by kernel_rfl
theorem ak6:(Tryz.prog.globals[0]?).map (·.type)=some 194:=by kernel_rfl
theorem al6:Tryz.prog.underlying 194=some (.array 10 172):=by kernel_rfl
theorem al9:Tryz.prog.underlying 172=some (.array 16 5):=by kernel_rfl
theorem uEl:Tryz.prog.underlying 5=some (.int .u8):=by kernel_rfl
theorem ah9:∀ r,r ∈ aep→r.length=16:=by decide
theorem ZA {W:World}(h:laidMetH Tryz.prog F1 W):∃ n,∀ σ,Cu σ W ⟨0,0,n,none⟩ (.cells true Bb):=by
 rw [MakeChecks.laidMetH_plain _ _ _ (by kernel_rfl)] at h
 obtain ⟨ps,⟨g0,t0,cs0,f0,p0,q0,hg0,ht0,hv0,hd0,_⟩,_,_⟩:=h
 obtain rfl:=Option.some.inj (anp.symm.trans hg0)
 obtain rfl:=Option.some.inj (ak6.symm.trans ht0)
 refine ⟨cs0.size,fun σ => ?_⟩
 rw [amO]
 exact Ul hg0 hv0 al6 al9 uEl (by kernel_rfl) (by kernel_rfl) (by decide) ah9 hd0 ama σ
def abF (n:Nat):Sig:=fun g=>if g=0 then some ⟨0,0,n,none⟩ else none
theorem afM (n:Nat):CN Tryz.prog (abF n):=fun g hg=>by
 have e1:Tryz.prog.globals.size=1:=gl1
 obtain rfl:g=0:=by omega
 exact ⟨n,rfl⟩
theorem Qv (n:Nat):AO (abF n) 1:=fun k hk=>by
 unfold abF
 rw [if_neg (by omega)]
theorem HP {cs:CS}(hcs:Ai Tryz.prog cs){f:FuncId}{args:List AVal}(h:∃ nn F,(Au Tryz.prog cs nn F f args H0 1).map (·.1)=some (.bool true)){args':Array Value}{W:World}(hL:laidMetH Tryz.prog F1 W) (hl:∀ σ,LR σ args args') :
  Calls Tryz.prog f args' W fun r w'=>r=.returned (.bool true)∧UI W w'∧Still W w':=by
 obtain ⟨nn,F,h⟩:=h
 obtain ⟨n,ho⟩:=ZA hL
 refine Pe hcs AB h (σ:=abF n) (fun k o hk => ?_) (afM n) (Qv n) (hl _)
 unfold H0 at hk
 rcases beq_cases 0 k with ⟨e,hb⟩ | ⟨e,hb⟩
 ·simp only [Aa,hb,cond_true,Option.some.injEq] at hk
  subst hk
  subst e
  exact ⟨rfl,_,rfl,ho _⟩
 ·simp only [Aa,hb,cond_false] at hk
  cases hk
theorem afk {v:Value}{a b:Kd}{ks:List Kd}(h:BW (a::b::ks) v.cells.toList):∃ cs,v=.agg cs∧BW (a::b::ks) cs.toList:=by
 cases v with
 | agg cs=>exact ⟨cs,rfl,h⟩
 | _=>exact absurd h (by simp [Value.cells,BW])
theorem aeZ {us:List AVal}{cs:Array Value}(h:VRs us cs.toList) (hl:us.length=cs.size) (σ:Sig):VR σ (.agg us) (.agg cs):=
 .agg hl fun i u v h1 h2=>h.get i u v h1 (by simpa using h2) σ
theorem Sw {v:Value}(h:BW [.str,.str,.str,.str,.str,.str,.str] v.cells.toList):∃ a b e f p o t:L8,∀ σ,VR σ (rB a b e f p o t) v:=by
 obtain ⟨cs,rfl,hk⟩:=afk h
 obtain ⟨c0,r0,e0,⟨s0,rfl,_⟩,k1⟩:=hk.cons
 obtain ⟨c1,r1,e1,⟨s1,rfl,_⟩,k2⟩:=k1.cons
 obtain ⟨c2,r2,e2,⟨s2,rfl,_⟩,k3⟩:=k2.cons
 obtain ⟨c3,r3,e3,⟨s3,rfl,_⟩,k4⟩:=k3.cons
 obtain ⟨c4,r4,e4,⟨s4,rfl,_⟩,k5⟩:=k4.cons
 obtain ⟨c5,r5,e5,⟨s5,rfl,_⟩,k6⟩:=k5.cons
 obtain ⟨c6,r6,e6,⟨s6,rfl,_⟩,k7⟩:=k6.cons
 have e7:=k7.none
 subst e7 e6 e5 e4 e3 e2 e1
 refine ⟨s0.data.toList,s1.data.toList,s2.data.toList,s3.data.toList,s4.data.toList,s5.data.toList,s6.data.toList,aeZ ?_ ?_⟩
 ·rw [e0]
  exact (.cons (fun σ=>EE σ s0) (.cons (fun σ=>EE σ s1) (.cons (fun σ=>EE σ s2) (.cons (fun σ=>EE σ s3) (.cons (fun σ=>EE σ s4) (.cons (fun σ=>EE σ s5) (.cons (fun σ=>EE σ s6) .nil)))))))
 ·rw [← Array.length_toList,e0]
  rfl
end Go.Proofs.YtcplgmgpagekfaaGreatDoor
