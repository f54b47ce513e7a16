/- Texts DSh8, DSh9, Eng40, DSh10, DSh11, DSh12, DSd0, DSd1, DSd2, Eng41, DSd3, DSd4, DSd5, Ed3, Ed4, Ed5, Ed6, Ed7, Ed8, Sg1, Mq1, PrimeL, Mq3, Sg2, Eng48, Eng49, Eng50, Eng51, Eng52, Dg3, Dg4, Dg5: what they show that this claim uses. -/
import Derived.Test.YtcjkbimdmcfppaaDoorS7
import Derived.Test.YtcjkbimdmcfppaaDoorS4
import Derived.Test.YtcjkbimdmcfppaaDoorS6
set_option maxRecDepth 100000
set_option maxHeartbeats 1000000
set_option linter.unusedVariables false
set_option linter.unusedSimpArgs false
namespace Go.Proofs.YtcjkbimdmcfppaaDoor.Sha
open Go Go.Eng
set_option maxRecDepth 1000000
noncomputable def p15:List Code:=pieces (bodyOf Tryd.f29)
noncomputable def b15 (k:Nat):Code:=loopOf (p15.getD k .skip)
def T15 (x:UInt64):TL:=[(0,.ptr 2 0),(2,.str []),(16,.bool false),(3,.ptr 107 0),(4,.u64 x)]
def H15 (g:Nat→UInt64) (s c:St):HL:=[(0,.cells true (cellsU 80 g)),(2,.cells false (stC s)),(107,.cells false (stC c))]
def S15A (g:Nat→UInt64) (s c:St) (x:UInt64):SA:=⟨T15 x,H15 g s c,155⟩
def S15B (g:Nat→UInt64) (s c:St) (x:UInt64) (i:Nat):SA:=⟨T15 x++[(26,.bool false),(28,.int .i64 (i:Int))],H15 g s c,195⟩
def S15C (g:Nat→UInt64) (s c:St) (x:UInt64) (i:Nat):SA:=⟨T15 x++[(26,.bool false),(28,.int .i64 ((8:Nat):Int)),(29,.bool false),(32,.int .i64 (i:Int))],H15 g s c,211⟩
def T15D (x:UInt64) (i:Nat):TL:=T15 x++[(26,.bool false),(28,.int .i64 ((8:Nat):Int)),(29,.bool false),(32,.int .i64 ((8:Nat):Int)),(33,.bool false),(6,.ptr 219 0),(45,.int .i64 (i:Int))]
def H15d (g:Nat→UInt64) (s c:St) (o:List AVal):HL:=[(0,.cells true (cellsU 80 g)),(2,.cells false (stC s)),(107,.cells false (stC c)),(219,.cells false o)]
def S15D (g:Nat→UInt64) (s c:St) (x:UInt64) (o:List AVal) (i:Nat):SA:=⟨T15D x i,H15d g s c o,235⟩
theorem p15_6:p15[6]? = some (.block 0 (.loop (b15 6))):=by kernel_rfl
theorem p15_8:p15[8]? = some (.block 2 (.loop (b15 8))):=by kernel_rfl
theorem p15_10:p15[10]? = some (.block 4 (.loop (b15 10))):=by kernel_rfl
theorem p15_13:p15[13]? = some (.block 6 (.loop (b15 13))):=by kernel_rfl
section
variable (φ:Fr) (g:Nat→UInt64) (s c c0:St) (x y:UInt64) (o:Nat→UInt8) (i j p F:Nat)
theorem s15a:segO (evSO Tryd.prog noPS (n14 φ) [] Tryd.f29.ntmps (mask 29) F 3 ((p15.drop 0).take 6) ⟨startT [.ptr 2 0] 0,HS g (stC s),3⟩ ⟨[],[],[]⟩)=some (S15A g s (addS φ (gU (cellsU 80 g)) (hst (stC s)) 128) s.n,[]):=by kernel_rfl
theorem r15A:roundO2 Tryd.prog noPS (n14 φ) [26] [true] [] Tryd.f29.ntmps (mask 29) F 3 (b15 6) (S15A g s c0 x) (S15A g s c x)=some (S15A g s (addS φ (gU (cellsU 80 g)) (hst (stC c)) 0) x,[c.n % 128 != 112]):=by kernel_rfl
theorem x15A:evSO Tryd.prog noPS (n14 φ) [26] Tryd.f29.ntmps (mask 29) F 3 [b15 6] (S15A g s c x) ⟨[false],[],[]⟩=some (.exit 0,⟨T15 x++[(26,.bool false)],H15 g s c,187⟩,⟨[],[],[!(c.n % 128 != 112)]⟩):=by kernel_rfl
theorem s15b:segO (evSO Tryd.prog noPS (n14 φ) [] Tryd.f29.ntmps (mask 29) F 3 ((p15.drop 7).take 1) ⟨T15 x++[(26,.bool false)],H15 g s c,187⟩ ⟨[],[],[]⟩)=some (S15B g s c x 0,[]):=by kernel_rfl
theorem r15B:roundO2 Tryd.prog noPS (n14 φ) [29,200031] [true] [.int .i64 (j:Int)] Tryd.f29.ntmps (mask 29) F 3 (b15 8) (S15B g s c0 x 0) (S15B g s c x i)=some (S15B g s (addS φ (gU (cellsU 80 g)) (hst (stC c)) 0) x j,[eqS (.int .i64 (IntKind.wrap .i64 ((i:Int)+1))) (.int .i64 (j:Int)),decide ((i:Int) < 8)]):=by kernel_rfl
theorem x15B:evSO Tryd.prog noPS (n14 φ) [29] Tryd.f29.ntmps (mask 29) F 3 [b15 8] (S15B g s c x i) ⟨[false],[],[]⟩=some (.exit 2,⟨T15 x++[(26,.bool false),(28,.int .i64 (i:Int)),(29,.bool false)],H15 g s c,203⟩,⟨[],[],[!(decide ((i:Int) < 8))]⟩):=by kernel_rfl
theorem s15c:segO (evSO Tryd.prog noPS (n14 φ) [] Tryd.f29.ntmps (mask 29) F 3 ((p15.drop 9).take 1) ⟨T15 x++[(26,.bool false),(28,.int .i64 ((8:Nat):Int)),(29,.bool false)],H15 g s c,203⟩ ⟨[],[],[]⟩)=some (S15C g s c x 0,[]):=by kernel_rfl
theorem r15C:roundO2 Tryd.prog noPS (n14 φ) [33,200040,200044] [true] [.u64 y,.int .i64 (j:Int)] Tryd.f29.ntmps (mask 29) F 3 (b15 10) (S15C g s c0 x 0) (S15C g s c x i) =
  some (S15C g s (addS φ (gU (cellsU 80 g)) (hst (stC c)) (shr_u64 (8 * x) y.toNat).toUInt8) x j,[eqS (.int .i64 (IntKind.wrap .i64 ((i:Int)+1))) (.int .i64 (j:Int)),eqS (.u64 (UInt64.ofInt (IntKind.wrap .i64 (56 - IntKind.wrap .i64 (8 * (i:Int)))))) (.u64 y),decide ((i:Int) < 8)]):=by kernel_rfl
theorem x15C:evSO Tryd.prog noPS (n14 φ) [33] Tryd.f29.ntmps (mask 29) F 3 [b15 10] (S15C g s c x i) ⟨[false],[],[]⟩=some (.exit 4,⟨T15 x++[(26,.bool false),(28,.int .i64 ((8:Nat):Int)),(29,.bool false),(32,.int .i64 (i:Int)),(33,.bool false)],H15 g s c,219⟩,⟨[],[],[!(decide ((i:Int) < 8))]⟩):=by kernel_rfl
theorem s15d:segO (evSO Tryd.prog noPS (n14 φ) [] Tryd.f29.ntmps (mask 29) F 3 ((p15.drop 11).take 2) ⟨T15 x++[(26,.bool false),(28,.int .i64 ((8:Nat):Int)),(29,.bool false),(32,.int .i64 ((8:Nat):Int)),(33,.bool false)],H15 g s c,219⟩ ⟨[],[],[]⟩)=some (S15D g s c x (cellsB 64 fun _=>0) 0,[]):=by kernel_rfl
theorem r15D (o0:Nat→UInt8):roundO2 Tryd.prog noPS (n14 φ) [46,200050,52,53,200058,61,100061,200062] [true] [.int .i64 (p:Int),.u64 (c.h p),.u64 y,.int .i64 (j:Int)] Tryd.f29.ntmps (mask 29) F 3 (b15 13) (S15D g s c x (cellsB 64 o0) 0) (S15D g s c x (cellsB 64 o) i) =
  some (S15D g s c x (putA (cellsB 64 o) (0+(i:Int).toNat * 1) (cellsA (.u8 (shr_u64 (c.h p) y.toNat).toUInt8))) j,
   [eqS (.int .i64 (IntKind.wrap .i64 ((i:Int)+1))) (.int .i64 (j:Int)),Nat.ble (0+(i:Int).toNat * 1+(cellsA (.u8 (shr_u64 (c.h p) y.toNat).toUInt8)).length) (cellsB 64 o).length,decide (0≤(i:Int)) && decide ((i:Int) < 64),
    eqS (.u64 (UInt64.ofInt (IntKind.wrap .i64 (56 - IntKind.wrap .i64 (Int.tmod (i:Int) 8 * 8))))) (.u64 y),isAt (stC c) (0+0+(p:Int).toNat * 1) (.u64 (c.h p)),decide (0≤(p:Int)) && decide ((p:Int) < 8),eqS (.int .i64 (IntKind.wrap .i64 (Int.tdiv (i:Int) 8))) (.int .i64 (p:Int)),decide ((i:Int) < 64)]):=by kernel_rfl
theorem x15D:evSO Tryd.prog noPS (n14 φ) [46] Tryd.f29.ntmps (mask 29) F 3 [b15 13] (S15D g s c x (cellsB 64 o) i) ⟨[false],[],[]⟩=some (.exit 6,⟨T15D x i++[(46,.bool false)],H15d g s c (cellsB 64 o),243⟩,⟨[],[],[!(decide ((i:Int) < 64))]⟩):=by kernel_rfl
theorem z15:evS Tryd.prog (n14 φ) Tryd.f29.ntmps (mask 29) F 3 (p15.drop 14) ⟨T15D x 64++[(46,.bool false)],H15d g s c (cellsB 64 o),243⟩ =
  some (.ret,⟨(0,.ptr 2 0)::(2,.str ((List.range 64).map o))::((T15D x 64).drop 2++[(46,.bool false)]),H15d g s c (cellsB 64 o),267⟩):=by kernel_rfl
theorem ok15A:okS Tryd.prog (S15A g s c x)=true:=by kernel_rfl
theorem ok15B:okS Tryd.prog (S15B g s c x i)=true:=by kernel_rfl
theorem ok15C:okS Tryd.prog (S15C g s c x i)=true:=by kernel_rfl
theorem ok15D:okS Tryd.prog (S15D g s c x (cellsB 64 o) i)=true:=by kernel_rfl
end
end Go.Proofs.YtcjkbimdmcfppaaDoor.Sha
namespace Go.Proofs.YtcjkbimdmcfppaaDoor.Sha
open Go Go.Eng
set_option maxRecDepth 1000000
theorem gUg {g:Nat→UInt64}(hg:nU 80 g=g):gU (cellsU 80 g)=g:=by rw [gU_cellsU,hg]
theorem hstS {s:St}(hs:nS s=s):hst (stC s)=s:=by rw [hst_stC]; exact hs
theorem plusL {i:Nat}(h:i < 1000000000):eqS (.int .i64 (IntKind.wrap .i64 ((i:Int)+1))) (.int .i64 ((i+1:Nat):Int))=true:=eqS_i64 (by rw [wrapI _ (by omega) (by omega)]; omega)
def addsN (φ:Fr) (g:Nat→UInt64) (s:St) (l:List UInt8):Nat→St
 | 0=>s
 | i+1=>addS φ g (addsN φ g s l i) (l.getD i 0)
def addsS (φ:Fr) (g:Nat→UInt64) (s:St) (l:List UInt8):St:=addsN φ g s l l.length
theorem nS_addsN {φ:Fr}{g:Nat→UInt64}{s:St}{l:List UInt8}(hs:nS s=s):∀ i,nS (addsN φ g s l i)=addsN φ g s l i
 | 0=>hs
 | i+1=>nS_addS ..
theorem end14 {φ:Fr}{sy:List Nat}{F:Nat}{b:Code}{fn:Func}{nn:Nat}{s s':SA}{id:Nat}{c:Bool}(h:evSO Tryd.prog noPS (n14 φ) sy fn.ntmps nn F 3 [b] s ⟨[false],[],[]⟩=some (.exit id,s',⟨[],[],[!c]⟩)) (hc:c=false):evC Tryd.prog (n14 φ) fn.ntmps nn F 3 b s=some (.exit id,s'):=by
 have:=(evSO_ok (noPS_ok _) _ _ _ _ _ _ h (by rw [hc]; rfl)).1
 rwa [evS_one] at this
theorem d_false {i n:Nat}{k:Int}(h:n≤i) (e:(n:Int)=k:=by rfl):decide ((i:Int) < k)=false:=by subst e; simp; omega
def k14 (φ:Fr):List AVal→Option (EffA × Bool)
 | [.ptr m 0,.str l]=>some (oneE m (hashK (fun _ _=>.int .i64 0) (fun g s=>addsS φ g s l)),Nat.ble l.length 100000000)
 | _=>none
theorem f14_at:Tryd.prog.funcs[28]? = some Tryd.f28:=by kernel_rfl
theorem f14_body:Tryd.f28.body=some (bodyOf Tryd.f28):=by kernel_rfl
theorem ev14 (φ:Fr) (g:Nat→UInt64) (s:St) (l:List UInt8) (hg:nU 80 g=g) (hs:nS s=s) (hl:l.length≤100000000):evS Tryd.prog (n14 φ) Tryd.f28.ntmps (mask 28) (l.length+1) 3 p14 ⟨startT [.ptr 2 0,.str l] 0,HS g (stC s),3⟩ =
  some (.ret,⟨[(0,.ptr 2 0),(1,.str l),(4,.int .i64 0),(14,.bool false),(16,.int .i64 (l.length:Int)),(17,.int .i64 (l.length:Int)),(18,.bool false)],HS g (stC (addsS φ g s l)),123⟩):=by
 have a1:=segO_ok (noPS_ok _) (s14a φ g s l (l.length+1)) rfl
 rw [List.drop_zero] at a1
 rw [a1]
 refine (evS_loop p14_4 (fun i=>S14 g (addsN φ g s l i) l 107 [(4,.int .i64 0),(14,.bool false)] i) l.length (fun i hi => ?_) (end14 (x14 φ g (addsN φ g s l l.length) l l.length (l.length+1)) (d_false (Nat.le_refl _))) (by omega)).trans (z14 φ g _ l _ _)
 have r:=r14 φ g (addsN φ g s l i) s l i (i+1) (l.length+1)
 rw [gUg hg,hstS (nS_addsN hs i)] at r
 refine roundO2_ok (noPS_ok _) r ?_ (ok14 ..)
 have h1:decide ((i:Int) < (l.length:Int))=true:=lt_i hi
 have h0:decide (0≤(i:Int))=true:=by simp
 simp only [allT,plusL (show i < 1000000000 by omega),h1,h0,Bool.and_self,cond_true]
theorem callOk14 (φ:Fr) (hcs:CSOk Tryd.prog (nr φ)):CSOk Tryd.prog (csP (psOne 28 (k14 φ))):=by
 refine psOne_ok fun args e h => ?_
 unfold k14 at h
 split at h
 ·rename_i m l
  simp only [Option.some.injEq,Prod.mk.injEq] at h
  obtain ⟨rfl,hc⟩:=h
  have hl:=Nat.le_of_ble_eq_true hc
  refine callOk_hash (cargs:=[.ptr 2 0,.str l]) (n14_ok hcs) rfl (fun _ _=>rfl) fun g s hg hs => ?_
  exact ⟨l.length+1,mask 28,_,_,run1_fin1 f14_at f14_body (by kernel_rfl) (ev14 φ g s l hg hs hl) (.inr rfl) rfl,rfl⟩
 ·cases h
def zer (φ:Fr) (g:Nat→UInt64) (c:St):Nat→St
 | 0=>c
 | i+1=>addS φ g (zer φ g c i) 0
def lenB (x:UInt64) (i:Nat):UInt8:=(shr_u64 (8 * x) (UInt64.ofNat (56 - 8 * i)).toNat).toUInt8
def lenA (φ:Fr) (g:Nat→UInt64) (x:UInt64) (c:St):Nat→St
 | 0=>c
 | i+1=>addS φ g (lenA φ g x c i) (lenB x i)
def outB (h:Nat→UInt64) (i:Nat):UInt8:=(shr_u64 (h (i / 8)) (UInt64.ofNat (56 - i % 8 * 8)).toNat).toUInt8
def outF (h:Nat→UInt64):Nat→Nat→UInt8
 | 0=>fun _=>0
 | i+1=>updF (outF h i) i (outB h i)
def padK (n:UInt64):Nat:=(239 - n.toNat % 128) % 128
def sumSt (φ:Fr) (g:Nat→UInt64) (s:St):St:=lenA φ g s.n (zer φ g (zer φ g (addS φ g s 128) (padK s.n)) 8) 8
def sumS (φ:Fr) (g:Nat→UInt64) (s:St):List UInt8:=(List.range 64).map (outF (sumSt φ g s).h 64)
theorem nS_zer {φ:Fr}{g:Nat→UInt64}{s:St}(hs:nS s=s):∀ i,nS (zer φ g s i)=zer φ g s i
 | 0=>hs
 | i+1=>nS_addS ..
theorem nS_lenA {φ:Fr}{g:Nat→UInt64}{x:UInt64}{s:St}(hs:nS s=s):∀ i,nS (lenA φ g x s i)=lenA φ g x s i
 | 0=>hs
 | i+1=>nS_addS ..
theorem addS_n (φ:Fr) (g:Nat→UInt64) (s:St) (x:UInt8):(addS φ g s x).n=s.n+1:=by
 unfold addS
 cases ((s.n+1) % 128 == 0) <;> rfl
theorem zer_n (φ:Fr) (g:Nat→UInt64) (s:St):∀ k,(zer φ g s k).n=s.n+UInt64.ofNat k
 | 0=>by show s.n=_; simp
 | k+1=>by
  show (addS φ g (zer φ g s k) 0).n=_
  rw [addS_n,zer_n φ g s k,UInt64.add_assoc]
  congr 1
  apply UInt64.toNat_inj.1
  rw [UInt64.toNat_add,UInt64.toNat_ofNat',UInt64.toNat_ofNat']
  have h1:(1:UInt64).toNat=1:=rfl
  rw [h1]
  omega
theorem bne_of {a b:UInt64}:(a != b)=decide (a.toNat ≠ b.toNat):=by
 by_cases h:a=b
 ·subst h; simp
 ·have:a.toNat ≠ b.toNat:=fun e=>h (UInt64.toNat_inj.1 e)
  simp [h,this]
theorem pad_step (n:UInt64) (k:Nat) (hk:k≤padK n):((n+1+UInt64.ofNat k) % 128 != 112)=decide (k < padK n):=by
 rw [bne_of]
 have e:((n+1+UInt64.ofNat k) % 128).toNat=(n.toNat+1+k) % 128:=by
  have hp:padK n < 128:=Nat.mod_lt _ (by decide)
  rw [UInt64.toNat_mod,UInt64.toNat_add,UInt64.toNat_add,UInt64.toNat_ofNat']
  have h1:(1:UInt64).toNat=1:=rfl
  have h2:(128:UInt64).toNat=128:=rfl
  rw [h1,h2]
  omega
 rw [e]
 have h3:(112:UInt64).toNat=112:=rfl
 rw [h3]
 unfold padK at hk ⊢
 apply decide_eq_decide.2
 omega
theorem sh8:∀ i:Nat,i < 8→eqS (.u64 (UInt64.ofInt (IntKind.wrap .i64 (56 - IntKind.wrap .i64 (8 * (i:Int)))))) (.u64 (UInt64.ofNat (56 - 8 * i)))=true:=by decide
theorem sh64:∀ i:Nat,i < 64→eqS (.u64 (UInt64.ofInt (IntKind.wrap .i64 (56 - IntKind.wrap .i64 (Int.tmod (i:Int) 8 * 8))))) (.u64 (UInt64.ofNat (56 - i % 8 * 8)))=true:=by decide
theorem f15_at:Tryd.prog.funcs[29]? = some Tryd.f29:=by kernel_rfl
theorem f15_body:Tryd.f29.body=some (bodyOf Tryd.f29):=by kernel_rfl
theorem stC_h {s:St}{p:Nat}(h:p < 8):isAt (stC s) (0+0+(p:Int).toNat * 1) (.u64 (s.h p))=true:=isAt_get (hashC_h h)
theorem d_true {i n:Nat}{k:Int}(h:i < n) (e:(n:Int)=k:=by rfl):decide ((i:Int) < k)=true:=lt_i h e
theorem ev15D (φ:Fr) (g:Nat→UInt64) (s c:St) (x:UInt64):evS Tryd.prog (n14 φ) Tryd.f29.ntmps (mask 29) 200 3 (p15.drop 13) (S15D g s c x (cellsB 64 fun _=>0) 0) =
  some (.ret,⟨(0,.ptr 2 0)::(2,.str ((List.range 64).map (outF c.h 64)))::((T15D x 64).drop 2++[(46,.bool false)]),H15d g s c (cellsB 64 (outF c.h 64)),267⟩):=by
 refine (evS_loop p15_13 (fun i=>S15D g s c x (cellsB 64 (outF c.h i)) i) 64 (fun i hi => ?_) (end14 (x15D φ g s c x (outF c.h 64) 64 200) (by decide)) (by omega)).trans (z15 φ g s c x (outF c.h 64) 200)
 have hp:i / 8 < 8:=by omega
 have r:=r15D φ g s c x (UInt64.ofNat (56 - i % 8 * 8)) (outF c.h i) i (i+1) (i / 8) 200 (fun _=>0)
 have e:putA (cellsB 64 (outF c.h i)) (0+(i:Int).toNat * 1) (cellsA (.u8 (shr_u64 (c.h (i / 8)) (UInt64.ofNat (56 - i % 8 * 8)).toNat).toUInt8))=cellsB 64 (outF c.h (i+1)):=by
  rw [off_nat,putA_set _ rfl (by rw [cellsB_len]; exact hi),set_cellsB _ _ hi]; rfl
 rw [e] at r
 refine roundO2_ok (noPS_ok _) r ?_ (ok15D ..)
 have b1:Nat.ble (0+(i:Int).toNat * 1+(cellsA (.u8 (shr_u64 (c.h (i / 8)) (UInt64.ofNat (56 - i % 8 * 8)).toNat).toUInt8)).length) (cellsB 64 (outF c.h i)).length=true:=by
  rw [cellsB_len]; exact ble_i hi
 have h0:decide (0≤(i:Int))=true:=by simp
 have h6:decide ((i:Int) < 64)=true:=d_true hi
 simp only [allT,plusL (show i < 1000000000 by omega),b1,h0,h6,sh64 i hi,stC_h hp,in_rng (k:=8) hp,quo8 (show i < 1000 by omega),Bool.and_self,cond_true]
theorem ev15C (φ:Fr) (g:Nat→UInt64) (s c:St) (x:UInt64) (hg:nU 80 g=g) (hc:nS c=c):evS Tryd.prog (n14 φ) Tryd.f29.ntmps (mask 29) 200 3 (p15.drop 10) (S15C g s c x 0) =
  some (.ret,⟨(0,.ptr 2 0)::(2,.str ((List.range 64).map (outF (lenA φ g x c 8).h 64)))::((T15D x 64).drop 2++[(46,.bool false)]),H15d g s (lenA φ g x c 8) (cellsB 64 (outF (lenA φ g x c 8).h 64)),267⟩):=by
 refine (evS_loop p15_10 (fun i=>S15C g s (lenA φ g x c i) x i) 8 (fun i hi => ?_) (end14 (x15C φ g s (lenA φ g x c 8) x 8 200) (by decide)) (by omega)).trans ?_
 ·have r:=r15C φ g s (lenA φ g x c i) c x (UInt64.ofNat (56 - 8 * i)) i (i+1) 200
  rw [gUg hg,hstS (nS_lenA hc i)] at r
  refine roundO2_ok (noPS_ok _) r ?_ (ok15C ..)
  simp only [allT,plusL (show i < 1000000000 by omega),sh8 i hi,d_true (k:=8) hi,cond_true]
 ·exact (segO_ok (noPS_ok _) (s15d φ g s (lenA φ g x c 8) x 200) rfl).trans (ev15D φ g s (lenA φ g x c 8) x)
theorem ev15B (φ:Fr) (g:Nat→UInt64) (s c:St) (x:UInt64) (hg:nU 80 g=g) (hc:nS c=c):evS Tryd.prog (n14 φ) Tryd.f29.ntmps (mask 29) 200 3 (p15.drop 8) (S15B g s c x 0) =
  some (.ret,⟨(0,.ptr 2 0)::(2,.str ((List.range 64).map (outF (lenA φ g x (zer φ g c 8) 8).h 64)))::((T15D x 64).drop 2++[(46,.bool false)]),H15d g s (lenA φ g x (zer φ g c 8) 8) (cellsB 64 (outF (lenA φ g x (zer φ g c 8) 8).h 64)),267⟩):=by
 refine (evS_loop p15_8 (fun i=>S15B g s (zer φ g c i) x i) 8 (fun i hi => ?_) (end14 (x15B φ g s (zer φ g c 8) x 8 200) (by decide)) (by omega)).trans ?_
 ·have r:=r15B φ g s (zer φ g c i) c x i (i+1) 200
  rw [gUg hg,hstS (nS_zer hc i)] at r
  refine roundO2_ok (noPS_ok _) r ?_ (ok15B ..)
  simp only [allT,plusL (show i < 1000000000 by omega),d_true (k:=8) hi,cond_true]
 ·exact (segO_ok (noPS_ok _) (s15c φ g s (zer φ g c 8) x 200) rfl).trans (ev15C φ g s (zer φ g c 8) x hg (nS_zer hc 8))
theorem ev15 (φ:Fr) (g:Nat→UInt64) (s:St) (hg:nU 80 g=g) (hs:nS s=s):evS Tryd.prog (n14 φ) Tryd.f29.ntmps (mask 29) 200 3 p15 ⟨startT [.ptr 2 0] 0,HS g (stC s),3⟩ =
  some (.ret,⟨(0,.ptr 2 0)::(2,.str (sumS φ g s))::((T15D s.n 64).drop 2++[(46,.bool false)]),H15d g s (sumSt φ g s) (cellsB 64 (outF (sumSt φ g s).h 64)),267⟩):=by
 have a1:=segO_ok (noPS_ok _) (s15a φ g s 200) rfl
 rw [List.drop_zero,gUg hg,hstS hs] at a1
 refine a1.trans ?_
 have n0:nS (addS φ g s 128)=addS φ g s 128:=nS_addS ..
 refine (evS_loop p15_6 (fun i=>S15A g s (zer φ g (addS φ g s 128) i) s.n) (padK s.n) (fun i hi => ?_) (end14 (x15A φ g s (zer φ g (addS φ g s 128) (padK s.n)) s.n 200) (by
  rw [zer_n,addS_n,pad_step _ _ (Nat.le_refl _)]; simp)) (by
  have:padK s.n < 128:=Nat.mod_lt _ (by decide)
  omega)).trans ?_
 ·have r:=r15A φ g s (zer φ g (addS φ g s 128) i) (addS φ g s 128) s.n 200
  rw [gUg hg,hstS (nS_zer n0 i)] at r
  refine roundO2_ok (noPS_ok _) r ?_ (ok15A ..)
  have:((zer φ g (addS φ g s 128) i).n % 128 != 112)=true:=by rw [zer_n,addS_n,pad_step _ _ (by omega)]; simp [hi]
  simp only [allT,this,cond_true]
 ·exact (segO_ok (noPS_ok _) (s15b φ g s (zer φ g (addS φ g s 128) (padK s.n)) s.n 200) rfl).trans (ev15B φ g s _ s.n hg (nS_zer n0 _))
def k15 (φ:Fr):List AVal→Option EffA
 | [.ptr m 0]=>some (oneE m (hashK (fun g s=>.str (sumS φ g s)) (fun _ s=>s)))
 | _=>none
theorem callOk15 (φ:Fr) (hcs:CSOk Tryd.prog (nr φ)):CSOk Tryd.prog (csOne 29 (k15 φ)):=by
 refine csOne_ok fun args e h => ?_
 unfold k15 at h
 split at h
 ·rename_i m
  cases h
  refine callOk_hash (cargs:=[.ptr 2 0]) (n14_ok hcs) rfl (fun _ _=>rfl) fun g s hg hs => ?_
  exact ⟨200,mask 29,_,_,run1_fin1 f15_at f15_body (by kernel_rfl) (ev15 φ g s hg hs) (.inr rfl) rfl,rfl⟩
 ·cases h
end Go.Proofs.YtcjkbimdmcfppaaDoor.Sha
namespace Go.Eng
open Go
def newP (x:Option (AVal × HL × Nat)):Option (Nat × List AVal):=
 match x with
 | some (.ptr k 0,H',_)=>match aget H' k with
  | some (.cells false c)=>some (k,c)
  | _=>none
 | _=>none
theorem callOk_newP {P:Program}{cs:CS}(hcs:CSOk P cs) (hm:P.follows .mixedOrders=true){nn F:Nat}{f:FuncId}{args:List AVal}{k:Nat}{c:List AVal}(hcan:canL P.globals.size [] args=some (args,[]))
  (hrun:newP (run1 P cs nn F f args [] P.globals.size)=some (k,c)) (hc:ltL 0 c=true) (hg:Nat.ble P.globals.size k=true):CallOk P f args (.alloc (.cells false c) fun b=>.ptr b 0):=by
 unfold newP at hrun
 split at hrun
 ·rename_i k' H' fr hr
  split at hrun
  ·rename_i c' hk
   simp only [Option.some.injEq,Prod.mk.injEq] at hrun
   obtain ⟨rfl,rfl⟩:=hrun
   refine (callOk_viewN0 hcs hm (nn:=nn) (F:=F) (f:=f) hcan).less fun base H r hr2 => ?_
   simp only [EffA.app,Option.some.injEq] at hr2
   subst hr2
   have e1:renV k' 0 (.ptr k' 0)=some (.ptr 0 0):=by
    simp only [renV,renS,renN,Nat.beq_refl,cond_true]
   have e2:renV 0 base (.ptr 0 0)=some (.ptr base 0):=by
    simp only [renV,renS,renN,Nat.beq_refl,cond_true]
   have e3:ltV 1 (.ptr 0 0)=true:=rfl
   simp only [viewN0,EffA.app,objsA,List.length_nil,Nat.add_zero,hr,backA,newN,hk,e1,e2,e3,hc,nodupB,hg,Bool.and_self,cond_true,List.nil_append,appU]
  ·cases hrun
 ·cases hrun
def tabE (k:(Nat→Option AObj)→Option AVal):EffA:=
 .eff fun _ η=>match k η with
  | some v=>some (v,[])
  | none=>none
theorem callOk_tab {P:Program}{cs:CS}(hcs:CSOk P cs) (hm:P.follows .mixedOrders=true){f:FuncId}{args:List AVal}(hcan:canL P.globals.size [] args=some (args,[])){k:(Nat→Option AObj)→Option AVal}
  (h:∀ η v,k η=some v→ltV 0 v=true∧∃ F nn H' fr',run1 P cs nn F f args (globA η P.globals.size 0) P.globals.size=some (v,H',fr')):CallOk P f args (tabE k):=by
 intro σ args' H w base v0 H0 hl hg hH happ hfree
 unfold tabE EffA.app at happ
 simp only at happ
 cases hk:k (aget H) with
 | none=>rw [hk] at happ; cases happ
 | some v =>
  rw [hk] at happ
  simp only [Option.some.injEq,Prod.mk.injEq] at happ
  obtain ⟨rfl,rfl⟩:=happ
  obtain ⟨h3,F,nn,H',fr',h4⟩:=h (aget H) v hk
  refine callOk_view hcs hm (nn:=nn) (F:=F) hcan σ args' H w base v _ hl hg hH ?_ hfree
  unfold viewE EffA.app
  simp only [objsA,List.append_nil]
  have h4':run1 P cs nn F f args (globA (aget H) P.globals.size 0) (P.globals.size+([]:List Nat).length)=some (v,H',fr'):=h4
  rw [h4']
  simp only [backA,h3,nodupB,cond_true,Bool.and_self]
end Go.Eng
namespace Go.Eng
open Go
end Go.Eng
namespace Go.Proofs.YtcjkbimdmcfppaaDoor.Sha
open Go Go.Eng
set_option maxRecDepth 1000000
def bS:St:=⟨fun i=>beginL.getD i 0,fun _=>0,0⟩
theorem nS_bS:nS bS=bS:=by
 unfold nS
 have e1:nU 8 bS.h=bS.h:=by
  funext j
  unfold nU
  by_cases hj:j < 8
  ·rw [if_pos hj]
  ·rw [if_neg hj]
   show (0:UInt64)=beginL.getD j 0
   simp only [List.getD,List.getElem?_eq_none (show beginL.length≤j by simp only [beginL,List.length_cons,List.length_nil]; omega),Option.getD_none]
 have e2:nB 128 bS.b=bS.b:=by
  funext j
  unfold nB
  by_cases hj:j < 128
  ·rw [if_pos hj]
  ·rw [if_neg hj]; rfl
 rw [e1,e2]
def k13:List AVal→Option EffA
 | []=>some (.alloc (.cells false (stC bS)) fun b=>.ptr b 0)
 | _=>none
theorem run13 (φ:Fr):newP (run1 Tryd.prog (nr φ) (mask 27) 200 27 [] [] Tryd.prog.globals.size)=some (26,stC bS):=by kernel_rfl
theorem callOk13 (φ:Fr) (hcs:CSOk Tryd.prog (nr φ)):CSOk Tryd.prog (csOne 27 k13):=by
 refine csOne_ok fun args e h => ?_
 unfold k13 at h
 split at h
 ·cases h
  exact callOk_newP hcs hmix (by kernel_rfl) (run13 φ) (ltH_stC ..) (by kernel_rfl)
 ·cases h
def kn14:List AVal→Option EffA
 | [.nilPtr,.str _]=>some (.pure (.int .i64 1))
 | _=>none
def kn15:List AVal→Option EffA
 | [.nilPtr]=>some (.pure (.str []))
 | _=>none
theorem callOkn14 (φ:Fr) (hcs:CSOk Tryd.prog (nr φ)):CSOk Tryd.prog (csOne 28 kn14):=by
 refine csOne_ok fun args e h => ?_
 unfold kn14 at h
 split at h
 ·rename_i l
  cases h
  have r:(run1 Tryd.prog (nr φ) (mask 28) 50 28 [.nilPtr,.str l] [] Tryd.prog.globals.size).map (·.1)=some (.int .i64 1):=by kernel_rfl
  exact callOk_val hcs hmix r rfl rfl
 ·cases h
theorem callOkn15 (φ:Fr) (hcs:CSOk Tryd.prog (nr φ)):CSOk Tryd.prog (csOne 29 kn15):=by
 refine csOne_ok fun args e h => ?_
 unfold kn15 at h
 split at h
 ·cases h
  have r:(run1 Tryd.prog (nr φ) (mask 29) 50 29 [.nilPtr] [] Tryd.prog.globals.size).map (·.1)=some (.str []):=by kernel_rfl
  exact callOk_val hcs hmix r rfl rfl
 ·cases h
def tabK (v:(Nat→UInt64)→Option AVal) (η:Nat→Option AObj):Option AVal:=match η 0,η 1 with
 | some (.cells true g),none=>cond (shG g) (v (gU g)) none
 | _,_=>none
theorem callOk_tabK {cs:CS}(hcs:CSOk Tryd.prog cs){f:FuncId}{args:List AVal}(hcan:canL Tryd.prog.globals.size [] args=some (args,[])){v:(Nat→UInt64)→Option AVal}
  (h:∀ g x,nU 80 g=g→v g=some x→ltV 0 x=true∧∃ F nn H' fr',run1 Tryd.prog cs nn F f args [(0,.cells true (cellsU 80 g))] 2=some (x,H',fr')):CallOk Tryd.prog f args (tabE (tabK v)):=by
 have e1:Tryd.prog.globals.size=2:=gl
 refine callOk_tab hcs (by kernel_rfl) hcan fun η x hk => ?_
 unfold tabK at hk
 split at hk
 ·rename_i g0 h0 h00
  cases hb:shG g0 <;> rw [hb] at hk <;> simp only [cond_true,cond_false] at hk
  ·cases hk
  ·have eg:=shG_ok hb
   have en:nU 80 (gU g0)=gU g0:=by
    have:gU g0=gU (cellsU 80 (gU g0)):=congrArg gU eg
    rw [gU_cellsU] at this
    exact this.symm
   obtain ⟨hx,F,nn,H',fr',hr⟩:=h (gU g0) x en hk
   refine ⟨hx,F,nn,H',fr',?_⟩
   rw [e1]
   have hg:globA η 2 0=[(0,.cells true (cellsU 80 (gU g0)))]:=by
    have:ltL 0 g0=true:=by rw [eg]; exact ltL_U ..
    simp only [globA,h0,h00,this,cond_true]
    rw [← eg]
   rw [hg]
   exact hr
 ·cases hk
def n13 (φ:Fr):CS:=csAlt (csOne 27 k13) (csAlt (csOne 29 (k15 φ)) (nr φ))
def ps14 (φ:Fr):PS:=psOne 28 (k14 φ)
def n8 (φ:Fr):CS:=csAlt (csP (ps14 φ)) (n13 φ)
end Go.Proofs.YtcjkbimdmcfppaaDoor.Sha
namespace Go.Proofs.YtcjkbimdmcfppaaDoor.Sha
open Go Go.Eng
set_option maxRecDepth 1000000
theorem n8_ps (φ:Fr):PSOk (ps14 φ) (n8 φ):=csP_ok
theorem n8_ok {φ:Fr}(hcs:CSOk Tryd.prog (nr φ)):CSOk Tryd.prog (n8 φ):=csAlt_ok (callOk14 φ hcs) (csAlt_ok (callOk13 φ hcs) (csAlt_ok (callOk15 φ hcs) hcs))
def ofS (φ:Fr) (g:Nat→UInt64) (l:List UInt8):List UInt8:=sumS φ g (addsS φ g bS l)
theorem run8 (φ:Fr) (g:Nat→UInt64) (l:List UInt8):ansO (run1O Tryd.prog (ps14 φ) (n8 φ) [7] [] [] (mask 25) 100 25 [.str l] [(0,.cells true (cellsU 80 g))] 2) =
  some (.str (sumS φ (gU (cellsU 80 g)) (hst (stC (addsS φ (gU (cellsU 80 g)) (hst (stC bS)) l)))),[Nat.ble l.length 100000000]):=by kernel_rfl
def k8 (φ:Fr):List AVal→Option (EffA × Bool)
 | [.str l]=>some (tabE (tabK fun g=>some (.str (ofS φ g l))),Nat.ble l.length 100000000)
 | _=>none
theorem run_of {x:Option (AVal × HL × Nat)}{v:AVal}(h:x.map (·.1)=some v):∃ H' fr',x=some (v,H',fr'):=by
 cases x with
 | none=>cases h
 | some r =>
  obtain ⟨a,b,c⟩:=r
  simp only [Option.map_some,Option.some.injEq] at h
  subst h
  exact ⟨b,c,rfl⟩
theorem callOk8 (φ:Fr) (hcs:CSOk Tryd.prog (nr φ)):CSOk Tryd.prog (csP (psOne 25 (k8 φ))):=by
 refine psOne_ok fun args e h => ?_
 unfold k8 at h
 split at h
 ·rename_i l
  simp only [Option.some.injEq,Prod.mk.injEq] at h
  obtain ⟨rfl,hc⟩:=h
  refine callOk_tabK (n8_ok hcs) rfl fun g x hg hx => ?_
  cases hx
  have e:=run8 φ g l
  rw [gUg hg,hstS nS_bS,hstS (show nS (addsS φ g bS l)=_ from nS_addsN nS_bS _)] at e
  obtain ⟨H',fr',hr⟩:=run_of (ansO_run (n8_ps φ) e (by simp only [allT,hc,cond_true]))
  exact ⟨rfl,_,_,H',fr',hr⟩
 ·cases h
structure Fw where
 add:(Nat→UInt64)→St→List UInt8→St
 sum:(Nat→UInt64)→St→List UInt8
 of:(Nat→UInt64)→List UInt8→List UInt8
 doc:List UInt8→List UInt8
 new:St
def w14 (ω:Fw):List AVal→Option (EffA × Bool)
 | [.ptr m 0,.str l]=>some (oneE m (hashK (fun _ _=>.int .i64 0) (fun g s=>ω.add g s l)),Nat.ble l.length 100000000)
 | _=>none
def w8 (ω:Fw):List AVal→Option (EffA × Bool)
 | [.str l]=>some (tabE (tabK fun g=>some (.str (ω.of g l))),Nat.ble l.length 100000000)
 | _=>none
def w9 (ω:Fw):List AVal→Option (EffA × Bool)
 | [.str l]=>some (.pure (.str (ω.doc l)),Nat.ble l.length 100000000)
 | _=>none
def w15 (ω:Fw):List AVal→Option EffA
 | [.ptr m 0]=>some (oneE m (hashK (fun g s=>.str (ω.sum g s)) (fun _ s=>s)))
 | _=>none
def w13 (ω:Fw):List AVal→Option EffA
 | []=>some (.alloc (.cells false (stC ω.new)) fun b=>.ptr b 0)
 | _=>none
def psW (ω:Fw):PS:=psAlt (psOne 25 (w8 ω)) (psAlt (psOne 28 (w14 ω)) (psNo (w9 ω)))
def csW (ω:Fw):CS:=csAlt (csOne 27 (w13 ω)) (csAlt (csOne 29 (w15 ω)) (csAlt (csOne 28 kn14) (csOne 29 kn15)))
def nW (ω:Fw):CS:=csAlt (csP (psW ω)) (csW ω)
def wOf (φ:Fr) (doc:List UInt8→List UInt8):Fw:=⟨addsS φ,sumS φ,ofS φ,doc,bS⟩
theorem nW_ok {φ:Fr}(hcs:CSOk Tryd.prog (nr φ)){doc:List UInt8→List UInt8}(h9:CSOk Tryd.prog (csP (psNo (w9 (wOf φ doc))))):CSOk Tryd.prog (nW (wOf φ doc)):=
 csAlt_ok (csP_alt (callOk8 φ hcs) (csP_alt (callOk14 φ hcs) h9)) (csAlt_ok (callOk13 φ hcs) (csAlt_ok (callOk15 φ hcs) (csAlt_ok (callOkn14 φ hcs) (callOkn15 φ hcs))))
end Go.Proofs.YtcjkbimdmcfppaaDoor.Sha
namespace Go.Proofs.YtcjkbimdmcfppaaDoor.Sha
open Go Go.Eng
set_option maxRecDepth 1000000
def rotlF (x:UInt64) (n:Int):UInt64:=shl_u64 x (UInt64.ofInt n &&& 63).toNat ||| shr_u64 x (64 - (UInt64.ofInt n &&& 63)).toNat
def rotdF (x y:UInt64):UInt64:=shr_u64 x y.toNat ||| shl_u64 x (64 - y).toNat
theorem run24 (x:UInt64) (n:Int):(run1 Tryd.prog noCS (mask 76) 100 76 [.u64 x,.int .i64 n] [] Tryd.prog.globals.size).map (·.1)=some (.u64 (rotlF x n)):=by kernel_rfl
def k24 (ρ:UInt64→Int→UInt64):List AVal→Option EffA
 | [.u64 x,.int .i64 n]=>some (.pure (.u64 (ρ x n)))
 | _=>none
theorem callOk24:CSOk Tryd.prog (csOne 76 (k24 rotlF)):=by
 refine csOne_ok fun args e h => ?_
 unfold k24 at h
 split at h
 ·rename_i x n
  cases h
  exact callOk_val (noCS_ok _) hmix (run24 x n) rfl rfl
 ·cases h
theorem run23 (ρ:UInt64→Int→UInt64) (x:UInt64) (n:Int):(run1 Tryd.prog (csOne 76 (k24 ρ)) (mask 75) 100 75 [.u64 x,.int .i64 n] [] Tryd.prog.globals.size).map (·.1)=some (.u64 (ρ x (IntKind.wrap .i64 (0 - n)))):=by kernel_rfl
def φr:Fr:=⟨fun x n=>rotlF x (IntKind.wrap .i64 (0 - n)),rotdF⟩
theorem nr_ok:CSOk Tryd.prog (nr φr):=by
 refine csAlt_ok (csOne_ok fun args e h => ?_) (csNo_ok _)
 ·unfold k23 at h
  split at h
  ·rename_i x n
   cases h
   exact callOk_val callOk24 hmix (run23 rotlF x n) rfl rfl
  ·cases h
end Go.Proofs.YtcjkbimdmcfppaaDoor.Sha
namespace Go.Proofs.YtcjkbimdmcfppaaDoor.Sha
open Go Go.Eng
set_option maxRecDepth 1000000
def kF:Nat→UInt64:=fun i=>roundsL.getD i 0
def hF:Nat→UInt64:=fun i=>beginL.getD i 0
end Go.Proofs.YtcjkbimdmcfppaaDoor.Sha
namespace Go.Proofs.YtcjkbimdmcfppaaDoor.Sha
open Go Go.Eng
set_option maxRecDepth 1000000
def schedD (φ:Fr) (w0 w1 w9 w14:UInt64):UInt64:=((w0+((φ.rotd w1 1 ^^^ φ.rotd w1 8) ^^^ shr_u64 w1 7))+w9)+((φ.rotd w14 19 ^^^ φ.rotd w14 61) ^^^ shr_u64 w14 6)
def rndTD (φ:Fr) (g w:UInt64) (x:Nat→UInt64):UInt64:=(((x 7+((φ.rotd (x 4) 14 ^^^ φ.rotd (x 4) 18) ^^^ φ.rotd (x 4) 41))+((x 4 &&& x 5) ^^^ (~~~(x 4) &&& x 6)))+g)+w
def rndLD (φ:Fr) (g w:UInt64) (x:Nat→UInt64):List UInt64:=[rndTD φ g w x+(((φ.rotd (x 0) 28 ^^^ φ.rotd (x 0) 34) ^^^ φ.rotd (x 0) 39)+(((x 0 &&& x 1) ^^^ (x 0 &&& x 2)) ^^^ (x 1 &&& x 2))),x 0,x 1,x 2,x 3+rndTD φ g w x,x 4,x 5,x 6]
def rndD (φ:Fr) (g w:UInt64) (x:Nat→UInt64):Nat→UInt64:=fun j=>(rndLD φ g w x).getD j 0
def W2D (φ:Fr) (w:Nat→UInt64):Nat→Nat→UInt64
 | 0=>w
 | i+1=>updF (W2D φ w i) (i+16) (schedD φ (W2D φ w i i) (W2D φ w i (i+1)) (W2D φ w i (i+9)) (W2D φ w i (i+14)))
def X3D (φ:Fr) (g w h:Nat→UInt64):Nat→Nat→UInt64
 | 0=>h
 | i+1=>rndD φ (g i) (w i) (X3D φ g w h i)
def pieceD (φ:Fr) (g h:Nat→UInt64) (b:Nat→UInt8):Nat→UInt64:=A4 h (X3D φ g (W2D φ (W1 b 128) 64) h 80) 8
section
variable (φ:Fr) (κ h h1 h2 w w0 x x0:Nat→UInt64) (b:Nat→UInt8) (L o i j p q r s F:Nat)
end
end Go.Proofs.YtcjkbimdmcfppaaDoor.Sha
namespace Go.Proofs.YtcjkbimdmcfppaaDoor.Sha
open Go Go.Eng
set_option maxRecDepth 1000000
abbrev PieceF:=(Nat→UInt64)→(Nat→UInt8)→Nat→UInt64
section
variable (P:PieceF) (η h h1:Nat→UInt64) (l c c0 d:List UInt8) (n n0 m i j p F:Nat) (y:UInt64) (z z0 z1:Int)
end
end Go.Proofs.YtcjkbimdmcfppaaDoor.Sha
namespace Go.Proofs.YtcjkbimdmcfppaaDoor.Sha
open Go Go.Eng
set_option maxRecDepth 1000000
def exL (c:List UInt8) (f:Nat→UInt8) (i:Nat):List UInt8:=c++(List.range i).map f
theorem exL_len (c:List UInt8) (f:Nat→UInt8) (i:Nat):(exL c f i).length=c.length+i:=by simp [exL]
def padN (n:Nat):Nat:=(239 - n % 128) % 128
def tailB (x:UInt64) (i:Nat):UInt8:=if i < 8 then 0 else lenB x (i - 8)
def padL (l:List UInt8):List UInt8:=exL (exL (l++[128]) (fun _=>0) (padN l.length)) (tailB (UInt64.ofNat l.length)) 16
def foldD (P:PieceF) (η:Nat→UInt64) (c:List UInt8):Nat→Nat→UInt64
 | 0=>η
 | k+1=>P (nU 8 (foldD P η c k)) fun j=>gB (c.map .u8) (128 * k+j)
def docF (P:PieceF) (η:Nat→UInt64) (l:List UInt8):List UInt8:=(List.range 64).map (outB (foldD P η (padL l) ((padL l).length / 128)))
theorem padL_len (l:List UInt8):(padL l).length=l.length+17+padN l.length:=by
 unfold padL
 rw [exL_len,exL_len,List.length_append,List.length_singleton]; omega
theorem padL_mod (l:List UInt8):(padL l).length % 128=0:=by
 rw [padL_len]; unfold padN; omega
theorem gB_map (c:List UInt8) (i:Nat):gB (c.map .u8) i=c.getD i 0:=by
 unfold gB
 rw [List.getElem?_map,List.getD_eq_getElem?_getD]
 cases c[i]? <;> rfl
end Go.Proofs.YtcjkbimdmcfppaaDoor.Sha
namespace Go.Proofs.YtcjkbimdmcfppaaDoor.Sha
open Go Go.Eng
set_option maxRecDepth 1000000
def docR:List UInt8→List UInt8:=docF (pieceD φr kF) hF
def ωr:Fw:=wOf φr docR
theorem callOk9:CSOk Tryd.prog (csP (psNo (w9 ωr))):=psNo_ok _
theorem nWr_ok:CSOk Tryd.prog (nW ωr):=nW_ok nr_ok callOk9
end Go.Proofs.YtcjkbimdmcfppaaDoor.Sha
namespace Go.Num
open Go Go.Eng
def dNat:Nat:=37095705934669439343138083508754565189542113879843219016388785533085940283555
theorem d_bytes:leNat dBytes=dNat:=by kernel_rfl
def dF:Fp:=toF dNat
def iF:Fp:=toF iNat
theorem i_sq:iNat * iNat % Pq=(Pq - 1 % Pq) % Pq:=by kernel_rfl
theorem d_half:pwE Pq dNat (2 * mP)=Pq - 1:=by kernel_rfl
theorem d_ne:dNat % Pq ≠ 0:=by decide
theorem four_mP:2 * (2 * mP)=Pq - 1:=by decide
theorem one_ne_P:¬ (1:Nat)=Pq - 1:=by decide
theorem toF_one:toF 1=1:=Fin.ext (Nat.mod_eq_of_lt (by decide))
theorem toF_nil:toF 0=0:=Fin.ext rfl
theorem pw_half (x:Nat):pwE Pq x (2 * mP)=x ^ (2 * mP) % Pq:=(pwE_val (by decide) (by kernel_rfl)).symm
theorem not_sq (a w n m:Nat) (hm:2 * n=m) (hf:∀ a,a % Pq ≠ 0→a ^ m % Pq=1) (hw:w * w % Pq=a % Pq) (ha:a % Pq ≠ 0):a ^ n % Pq=1:=by
 have h0:w % Pq ≠ 0:=fun e=>ha (by rw [← hw,Nat.mul_mod,e]; rfl)
 rw [← pow_congr hw,← Nat.pow_two,← Nat.pow_mul,hm]
 exact hf w h0
theorem crv:Crv dF iF:=⟨by
  show toF iNat * toF iNat = -1
  rw [← toF_mul,← toF_one,← toF_neg]
  exact toF_eq.2 i_sq,fun w hw=>by
  have h1:w.val * w.val % Pq=dNat % Pq:=by
   have:=congrArg Fin.val hw
   rw [Fin.val_mul] at this
   exact this
  have h2:=not_sq dNat w.val (2 * mP) (Pq - 1) four_mP (fun a ha=>genP.fermat ha) h1 d_ne
  rw [← pw_half,d_half] at h2
  exact one_ne_P h2.symm⟩
def R4 {R S:Type}(r:R→S→Prop) (p:P4 R) (q:P4 S):Prop:=r p.x q.x∧r p.y q.y∧r p.z q.z∧r p.t q.t
theorem add_keeps {R S:Type}{o:Ops R}{o':Ops S}{r:R→S→Prop}(k:Keeps o o' r){p q:P4 R}{p' q':P4 S}{d:R}{d':S}(hd:r d d') (hp:R4 r p p') (hq:R4 r q q'):R4 r (addO o d p q) (addO o' d' p' q'):=by
 have a:=k.add (k.mul hp.1 hq.2.1) (k.mul hp.2.1 hq.1)
 have b:=k.add (k.mul hp.2.1 hq.2.1) (k.mul hp.1 hq.1)
 have c:=k.mul (k.mul hd hp.2.2.2) hq.2.2.2
 have e:=k.mul hp.2.2.1 hq.2.2.1
 have f:=k.sub e c
 have g:=k.add e c
 exact ⟨k.mul a f,k.mul g b,k.mul f g,k.mul a b⟩
structure Re (a:E5) (f:Fp):Prop where
 ok:a.ok
 val:toF a.val=f
theorem re_of {a:E5}{n:Nat}(h:Vm a n):Re a (toF n):=⟨h.ok,toF_eq.2 h.val⟩
theorem Re.vm {a:E5}{f:Fp}(h:Re a f):Vm a a.val:=⟨h.ok,rfl⟩
theorem keeps_EF:Keeps opsE opsF Re where
 add:=fun {a b x y} h k=>by
  have:=re_of (h.vm.add k.vm)
  rw [toF_add,h.val,k.val] at this
  exact this
 sub:=fun {a b x y} h k=>by
  have:=re_of (h.vm.sub k.vm)
  rw [toF_sub,h.val,k.val] at this
  exact this
 mul:=fun {a b x y} h k=>by
  have:=re_of (h.vm.mul k.vm)
  rw [toF_mul,h.val,k.val] at this
  exact this
 small:=fun n=>re_of (vm_small n)
 zero:=re_of vm_zero
theorem re_neg {a:E5}{f:Fp}(h:Re a f):Re (negE a) (-f):=by
 have:=re_of h.vm.neg
 rw [toF_neg,h.val] at this
 exact this
theorem re_same {a b:E5}{f g:Fp}(h:Re a f) (k:Re b g):sameE a b=decide (f=g):=by
 rw [h.vm.same k.vm,← h.val,← k.val]
 exact decide_eq_decide.2 toF_eq.symm
theorem re_zero:Re zeroE 0:=by have:=re_of vm_zero; rw [toF_nil] at this; exact this
theorem re_one:Re (smallE 1) 1:=by
 have:=re_of (vm_small 1)
 rw [show (1:UInt32).toNat=1 from rfl,toF_one] at this
 exact this
theorem re_inv {a:E5}{f:Fp}(h:Re a f) (hf:f ≠ 0):Re (invE a) (invF f):=by
 have h1:=inv_one h.ok
 have h2:a.val % Pq ≠ 0:=fun e=>hf (by rw [← h.val]; exact toF_zero.2 e)
 rw [decide_eq_true h2] at h1
 have h3:=re_of (vm_inv h.vm)
 have h4:=keeps_EF.mul h h3
 rw [show opsE.mul a (invE a)=mulE a (invE a) from rfl] at h4
 rw [re_same h4 re_one] at h1
 have h5:f * toF (a.val ^ (Pq - 2))=1:=of_decide_eq_true h1
 have h6:toF (a.val ^ (Pq - 2))=invF f:=F_cancel hf (by rw [h5,invF_mul hf])
 rw [h6] at h3
 exact h3
structure PR (p:P4 E5) (q:P4 N16) (f:P4 Fp):Prop where
 rel:R4 Rel p q
 val:R4 Re p f
 on:On dF f
theorem rel_d:Rel (curveφ realFe) (givenφ realFe):=rel_of (s:=dBytes) (by kernel_rfl)
theorem re_d:Re (curveφ realFe) dF:=by
 have h:Re (curveφ realFe) (toF (curveφ realFe).val):=⟨ofEl_ok _,rfl⟩
 have e:toF (curveφ realFe).val=dF:=toF_eq.2 (by
  have:=ofEl_val (s:=dBytes) (by kernel_rfl)
  rw [d_bytes] at this
  exact this)
 rw [e] at h
 exact h
theorem none_of {p:P4 E5}{f:P4 Fp}(h:R4 Re p f) (hz:f.z ≠ 0):noneφ realFe p=false:=by
 show sameE p.z zeroE=false
 rw [re_same h.2.2.1 re_zero]
 exact decide_eq_false hz
theorem PR.some {p:P4 E5}{q:P4 N16}{f:P4 Fp}(h:PR p q f):noneφ realFe p=false:=none_of h.val h.on.z
theorem add_eq (p q:P4 E5) (hp:noneφ realFe p=false) (hq:noneφ realFe q=false):addφ realFe p q=addO opsE (curveφ realFe) p q:=by
 unfold addφ
 rw [hp,hq,cond_false,cond_false]; rfl
theorem PR.add {p p':P4 E5}{q q':P4 N16}{f f':P4 Fp}(h:PR p q f) (k:PR p' q' f'):PR (addφ realFe p p') (addψ realFe q q') (addO opsF dF f f'):=by
 rw [add_eq p p' h.some k.some]
 exact ⟨add_keeps keeps_EN rel_d h.rel k.rel,add_keeps keeps_EF re_d h.val k.val,On.add crv h.on k.on⟩
theorem re_mul {a b:E5}{f g:Fp}(h:Re a f) (k:Re b g):Re (mulE a b) (f * g):=keeps_EF.mul h k
theorem re_add {a b:E5}{f g:Fp}(h:Re a f) (k:Re b g):Re (addE a b) (f+g):=keeps_EF.add h k
theorem re_sub {a b:E5}{f g:Fp}(h:Re a f) (k:Re b g):Re (subE a b) (f - g):=keeps_EF.sub h k
theorem zero_phi:zeroφ realFe=⟨zeroE,smallE 1,smallE 1,zeroE⟩:=by simp only [zeroφ,realFe]
theorem zero_psi:zeroψ realFe=⟨zeroN,smallN 1,smallN 1,zeroN⟩:=by simp only [zeroψ,realFe]
theorem r4_mk {R S:Type}{r:R→S→Prop}{a b c d:R}{a' b' c' d':S}(h1:r a a') (h2:r b b') (h3:r c c') (h4:r d d'):R4 r ⟨a,b,c,d⟩ ⟨a',b',c',d'⟩:=⟨h1,h2,h3,h4⟩
theorem re_zero4:R4 Re ⟨zeroE,smallE 1,smallE 1,zeroE⟩ zero4:=by
 have h0:=re_zero
 have h1:=re_one
 generalize zeroE=a at h0 ⊢
 generalize smallE 1=b at h1 ⊢
 exact r4_mk h0 h1 h1 h0
theorem rel_zero4:R4 Rel ⟨zeroE,smallE 1,smallE 1,zeroE⟩ ⟨zeroN,smallN 1,smallN 1,zeroN⟩:=r4_mk rel_zero (rel_small 1) (rel_small 1) rel_zero
theorem neg_phi (p:P4 E5) (h:noneφ realFe p=false):negφ realFe p=⟨negE p.x,p.y,p.z,negE p.t⟩:=by
 unfold negφ
 rw [h,cond_false]
 simp only [negO,realFe]
theorem neg_psi (q:P4 N16):negψ realFe q=⟨negP q.x,q.y,q.z,negP q.t⟩:=by simp only [negψ,negO,realFe]
theorem PR.neg {p:P4 E5}{q:P4 N16}{f:P4 Fp}(h:PR p q f):PR (negφ realFe p) (negψ realFe q) (negO (fun a => -a) f):=by
 rw [neg_phi p h.some,neg_psi]
 have e:negO (fun a => -a) f=⟨-f.x,f.y,f.z,-f.t⟩:=by simp only [negO]
 have o:=h.on.neg
 rw [e] at o ⊢
 exact ⟨r4_mk (rel_neg h.rel.1) h.rel.2.1 h.rel.2.2.1 (rel_neg h.rel.2.2.2),r4_mk (re_neg h.val.1) h.val.2.1 h.val.2.2.1 (re_neg h.val.2.2.2),o⟩
theorem pr_zero:PR (zeroφ realFe) (zeroψ realFe) zero4:=by
 rw [zero_phi,zero_psi]
 exact ⟨rel_zero4,re_zero4,On.zero dF⟩
theorem PR.ok {p:P4 E5}{q:P4 N16}{f:P4 Fp}(h:PR p q f):okQ0 realFe q=true:=by
 unfold okQ0
 simp only [Bool.and_eq_true]
 exact ⟨okB_iff.2 h.rel.1.okP,okB_iff.2 h.rel.2.1.okP,okB_iff.2 h.rel.2.2.1.okP,okB_iff.2 h.rel.2.2.2.okP⟩
theorem PR.same {p p':P4 E5}{q q':P4 N16}{f f':P4 Fp}(h:PR p q f) (k:PR p' q' f'):sameφ realFe p p'=sameψ realFe q q':=by
 unfold sameφ sameψ
 rw [h.some,k.some,cond_false,cond_false]
 show cond (sameE (mulE p.x p'.z) (mulE p'.x p.z)) (sameE (mulE p.y p'.z) (mulE p'.y p.z)) false=_
 rw [rel_same (rel_mul h.rel.1 k.rel.2.2.1) (rel_mul k.rel.1 h.rel.2.2.1),rel_same (rel_mul h.rel.2.1 k.rel.2.2.1) (rel_mul k.rel.2.1 h.rel.2.2.1)]
 rfl
theorem PR.same_iff {p p':P4 E5}{q q':P4 N16}{f f':P4 Fp}(h:PR p q f) (k:PR p' q' f'):sameφ realFe p p'=true ↔ aff f=aff f':=by
 rw [← same_aff h.on k.on]
 unfold sameφ SameP
 rw [h.some,k.some,cond_false,cond_false]
 show cond (sameE (mulE p.x p'.z) (mulE p'.x p.z)) (sameE (mulE p.y p'.z) (mulE p'.y p.z)) false=true ↔ _
 rw [re_same (re_mul h.val.1 k.val.2.2.1) (re_mul k.val.1 h.val.2.2.1),re_same (re_mul h.val.2.1 k.val.2.2.1) (re_mul k.val.2.1 h.val.2.2.1)]
 generalize f.x * f'.z=a
 generalize f'.x * f.z=b
 generalize f.y * f'.z=c
 generalize f'.y * f.z=d
 by_cases h1:a=b
 ·rw [decide_eq_true h1,cond_true]
  exact Iff.intro (fun h2=>And.intro h1 (of_decide_eq_true h2)) (fun h2=>decide_eq_true h2.2)
 ·rw [decide_eq_false h1,cond_false]
  exact Iff.intro (fun h2=>by cases h2) (fun h2=>absurd h2.1 h1)
theorem PR.small {p:P4 E5}{q:P4 N16}{f:P4 Fp}(h:PR p q f):realFi.small p=realFi.smallQ q:=by
 rw [small_eq,smallQ_eq]
 exact PR.same (((h.add h).add (h.add h)).add ((h.add h).add (h.add h))) pr_zero
end Go.Num
namespace Go.Num
open Go Go.Eng
theorem byL_phi (a:E5):byLφ realFe a=bytesE a:=by simp only [byLφ,realFe,bytesE]
theorem byL_psi0 (x:N16):((List.range 32).map fun i=>(shr_u64 (x.list.getD (i / 2) 0) (i % 2 * 8)).toUInt8)=bytesN x:=by kernel_rfl
theorem rel_cond {b:Bool}{x y:E5}{x' y':N16}(h:Rel x x') (k:Rel y y'):Rel (cond b x y) (cond b x' y'):=by
 cases b
 ·exact k
 ·exact h
theorem ok_bool (c h z d:Bool):cond c (cond h (cond d (!z) true) false) false=cond c (cond h (cond z (!d) true) false) false:=by cases c <;> cases h <;> cases z <;> cases d <;> rfl
theorem three_bool0:∀ c h d z:Bool,cond c (cond h (cond d (!z) true) false) false=true→c=true∧h=true∧(d=true→z=false):=by decide
theorem three_bool {c h d z:Bool}(k:cond c (cond h (cond d (!z) true) false) false=true):c=true∧h=true∧(d=true→z=false):=three_bool0 c h d z k
theorem r_bool {c d:Bool}(h:(cond c (cond d (0:Int) 40) 2)=0):c=true∧d=true:=by cases c <;> cases d <;> first | exact ⟨rfl,rfl⟩ | exact absurd h (by decide)
theorem byL_psi (x:N16):byLψ realFe x=bytesN x:=by
 rw [← byL_psi0]
 simp only [byLψ,realFe]
theorem bytesN_len2 (x:N16):(bytesN x).length=32:=by rw [← byL_psi0,List.length_map,List.length_range]
theorem par (c:UInt64):shl_u8 ((c &&& 1).toUInt8) 7=cond ((c &&& 1) == 1) 128 0:=by
 have h:=and_nat c 1 1 rfl
 rcases Nat.mod_two_eq_zero_or_one c.toNat with e | e
 ·have:c &&& 1=0:=UInt64.toNat_inj.1 (by rw [h]; exact e)
  rw [this]; rfl
 ·have:c &&& 1=1:=UInt64.toNat_inj.1 (by rw [h]; exact e)
  rw [this]; rfl
theorem set_self (l:List UInt8) (h:l.length=32):l.set 31 (l.getD 31 0 ||| 0)=l:=by
 rw [List.getD_eq_getElem?_getD,List.getElem?_eq_getElem (by omega),Option.getD_some,UInt8.or_zero,List.set_getElem_self]
theorem bytes_gen (l:List UInt8) (hl:l.length=32) (c:UInt64):l.set 31 (l.getD 31 0 ||| shl_u8 ((c &&& 1).toUInt8) 7)=cond ((c &&& 1) == 1) (top128 l) l:=by
 rw [par]
 cases (c &&& 1) == 1
 ·rw [cond_false,cond_false,set_self l hl]
 ·rfl
theorem bytes_phi (p:P4 E5) (h:noneφ realFe p=false):bytesφ realFe p=cond (oddE (mulE p.x (invE p.z))) (top128 (bytesE (mulE p.y (invE p.z)))) (bytesE (mulE p.y (invE p.z))):=by
 unfold bytesφ
 rw [h,cond_false,byL_phi]
 simp only [realFe]
theorem bytes_psi (q:P4 N16):bytesψ realFe q=cond (oddP (mulP q.x (invP q.z))) (top128 (bytesN (mulP q.y (invP q.z)))) (bytesN (mulP q.y (invP q.z))):=by
 unfold bytesψ
 rw [byL_psi,bytes_gen _ (bytesN_len2 _)]
 simp only [realFe,oddP]
theorem PR.bytes {p:P4 E5}{q:P4 N16}{f:P4 Fp}(h:PR p q f):bytesφ realFe p=bytesψ realFe q:=by
 have hi:=rel_inv h.rel.2.2.1
 rw [bytes_phi p h.some,bytes_psi,rel_odd (rel_mul h.rel.1 hi),(rel_mul h.rel.2.1 hi).bytes]
theorem dval {a b c:Nat}{x:N16}{e:E5}(h:Rel e x) (v:Vm e ((Pq - a % Pq) * b ^ (Pq - 2))) (k:(Pq - a % Pq) * pwE Pq b (Pq - 2) % Pq=c):x.val=c:=by
 rw [h.val,v.val,← k,pw_inv,Nat.mul_mod_mod]
theorem d_comp:(Pq - 121665 % Pq) * pwE Pq 121666 (Pq - 2) % Pq=dNat % Pq:=by kernel_rfl
theorem d_phi:dφ realFe=mulP (negP (smallN 121665)) (invP (smallN 121666)):=by simp only [dφ,realFe]
theorem given_phi:givenφ realFe=ofP dBytes:=by simp only [givenφ,realFe]
theorem d_given:dφ realFe=givenφ realFe:=by
 rw [d_phi,given_phi]
 have r:=rel_mul (rel_neg (rel_small 121665)) (rel_inv (rel_small 121666))
 have v:=Vm.mul (Vm.neg (vm_small 121665)) (vm_inv (vm_small 121666))
 rw [show (121665:UInt32).toNat=121665 from rfl,show (121666:UInt32).toNat=121666 from rfl] at v
 have e:=dval r v d_comp
 have k:=rel_of (s:=dBytes) (by kernel_rfl)
 refine N16.ext_val r.okP k.okP ?_
 rw [e,k.val,ofEl_val (by kernel_rfl),d_bytes]
theorem rel_y {s:List UInt8}(h:isLen s 32=true):Rel (yφ realFe s) (yψ realFe s):=rel_of (topL_len h)
theorem v_phi (s:List UInt8):vφ realFe s=addE (mulE (curveφ realFe) (mulE (yφ realFe s) (yφ realFe s))) (smallE 1):=by simp only [vφ,realFe]
theorem v_psi (s:List UInt8):vψ realFe s=addP (mulP (givenφ realFe) (mulP (yψ realFe s) (yψ realFe s))) (smallN 1):=by
 rw [← d_given]; simp only [vψ,realFe]
theorem u_phi (s:List UInt8):uφ realFe s=mulE (subE (mulE (yφ realFe s) (yφ realFe s)) (smallE 1)) (invE (vφ realFe s)):=by simp only [uφ,realFe]
theorem u_psi (s:List UInt8):uψ realFe s=mulP (subP (mulP (yψ realFe s) (yψ realFe s)) (smallN 1)) (invP (vψ realFe s)):=by simp only [uψ,realFe]
theorem rel_v {s:List UInt8}(h:isLen s 32=true):Rel (vφ realFe s) (vψ realFe s):=by
 rw [v_phi,v_psi]
 exact rel_add (rel_mul rel_d (rel_mul (rel_y h) (rel_y h))) (rel_small 1)
theorem rel_u {s:List UInt8}(h:isLen s 32=true):Rel (uφ realFe s) (uψ realFe s):=by
 rw [u_phi,u_psi]
 exact rel_mul (rel_sub (rel_mul (rel_y h) (rel_y h)) (rel_small 1)) (rel_inv (rel_v h))
theorem x_phi (s:List UInt8):xφ realFe s=cond (decOdd s) (negE (rootE (uφ realFe s))) (rootE (uφ realFe s)):=by simp only [xφ,realFe]
theorem x_psi (s:List UInt8):xψ realFe s=cond (decOdd s) (negP (rootP (uψ realFe s))) (rootP (uψ realFe s)):=by simp only [xψ,realFe]
theorem rel_x {s:List UInt8}(h:isLen s 32=true):Rel (xφ realFe s) (xψ realFe s):=by
 rw [x_phi,x_psi]
 exact rel_cond (rel_neg (rel_root (rel_u h))) (rel_root (rel_u h))
theorem ok_phi (s:List UInt8):okφ realFe s=cond (canonE (topL s)) (cond (hasE (uφ realFe s)) (cond (decOdd s) (!sameE (rootE (uφ realFe s)) zeroE) true) false) false:=by simp only [okφ,realFe]
theorem ok_psi (s:List UInt8):okψ realFe s=cond (canonP (topL s)) (cond (hasP (uψ realFe s)) (cond (samP (rootP (uψ realFe s)) zeroN) (!decOdd s) true) false) false:=by simp only [okψ,realFe]
theorem ok_gen {a b c c' h h' z z' d:Bool}(ha:a=cond c (cond h (cond d (!z) true) false) false) (hb:b=cond c' (cond h' (cond z' (!d) true) false) false) (e1:c=c') (e2:h=h') (e3:z=z'):a=b:=by
 subst e1 e2 e3
 rw [ha,hb]
 exact ok_bool c h z d
theorem zero_same {s:List UInt8}(h:isLen s 32=true):sameE (rootE (uφ realFe s)) zeroE=samP (rootP (uψ realFe s)) zeroN:=rel_same (rel_root (rel_u h)) rel_zero
theorem has_same {s:List UInt8}(h:isLen s 32=true):hasE (uφ realFe s)=hasP (uψ realFe s):=rel_has (rel_u h)
theorem ok_same {s:List UInt8}(h:isLen s 32=true):okφ realFe s=okψ realFe s:=
 ok_gen (ok_phi s) (ok_psi s) (canonE_eq (topL s)) (has_same h) (zero_same h)
theorem r_gen {l a b:Bool}(h:l=true→a=b):cond l (cond a (0:Int) 40) 2=cond l (cond b 0 40) 2:=by
 cases l
 ·rfl
 ·rw [h rfl]
theorem decR_same (s:List UInt8):decRφ realFe s=decRψ realFe s:=by
 unfold decRφ decRψ
 exact r_gen fun h=>ok_same h
theorem decR_ok {s:List UInt8}(h:decRφ realFe s=0):isLen s 32=true∧okφ realFe s=true:=by
 unfold decRφ at h
 exact r_bool h
theorem dec_phi {s:List UInt8}(h:decRφ realFe s=0):decφ realFe s=⟨xφ realFe s,yφ realFe s,smallE 1,mulE (xφ realFe s) (yφ realFe s)⟩:=by
 obtain ⟨h1,h2⟩:=decR_ok h
 unfold decφ
 rw [h1,h2,cond_true,cond_true]
 simp only [decPφ,realFe]
theorem dec_psi {s:List UInt8}(h:decRφ realFe s=0):decψ realFe s=⟨xψ realFe s,yψ realFe s,smallN 1,mulP (xψ realFe s) (yψ realFe s)⟩:=by
 obtain ⟨h1,h2⟩:=decR_ok h
 unfold decψ
 rw [h1,← ok_same h1,h2,cond_true,cond_true]
 simp only [ofXYψ,realFe]
theorem re_val {a:E5}(h:a.ok):Re a (toF a.val):=⟨h,rfl⟩
theorem ok_parts {s:List UInt8}(h:decRφ realFe s=0):canonE (topL s)=true∧hasE (uφ realFe s)=true∧(decOdd s=true→sameE (rootE (uφ realFe s)) zeroE=false):=by
 have h2:=(decR_ok h).2
 rw [ok_phi] at h2
 exact three_bool h2
theorem lit5 (y d:Fp) (h:d * (y * y)+1=0) (i:Fp) (hi:i * i = -1):d * (y * y)=i * i:=by grind -lia -linarith (splits:=0)
theorem lit6 (d y o z:Fp) (hz:z=0) (hy:y=z) (h:d * (y * y)+o=z):o=z:=by grind -lia -linarith (splits:=0)
theorem lit7 (d x y v w:Fp) (hv:v=d * (y * y)+1) (hw:v * w=1) (hx:x * x=(y * y - 1) * w):y * y - x * x=1+d * (x * y) * (x * y):=by grind -lia -linarith (splits:=0)
theorem lit8 (r:Fp):-r * -r=r * r:=by grind -lia -linarith (splits:=0)
theorem pr_up {x y z t:E5}{x' y' z' t':N16}{X Y Z:Fp}(rx:Rel x x') (ry:Rel y y') (rz:Rel z z') (rt:Rel t t') (ex:Re x X) (ey:Re y Y) (ez:Re z Z) (et:Re t (X * Y)) (hz:Z=1) (ho:OnA dF (X,Y)):PR ⟨x,y,z,t⟩ ⟨x',y',z',t'⟩ (up (X,Y)):=by
 subst hz
 exact ⟨⟨rx,ry,rz,rt⟩,⟨ex,ey,ez,et⟩,on_up ho⟩
theorem re_flip {b:Bool}{r:E5}{R:Fp}(er:Re r R):∃ X,Re (cond b (negE r) r) X∧X * X=R * R:=by
 cases b
 ·exact ⟨R,er,rfl⟩
 ·exact ⟨-R,re_neg er,lit8 R⟩
theorem on_parts {d X Y V W R U:Fp}(hV:V=d * (Y * Y)+1) (hW:V * W=1) (hU:U=(Y * Y - 1) * W) (hR:R * R=U) (hX:X * X=R * R):OnA d (X,Y):=by
 show Y * Y - X * X=1+d * (X * Y) * (X * Y)
 exact lit7 d X Y V W hV hW (by rw [hX,hR,hU])
theorem v_ne {d Y:Fp}(c:Crv d iF):d * (Y * Y)+1 ≠ 0:=fun e=>F_one (lit6 _ _ _ _ rfl (ns_zero c (lit5 _ _ e iF c.ii)) e)
theorem pr_dec {s:List UInt8}(h:decRφ realFe s=0):∃ a:Fp × Fp,PR (decφ realFe s) (decψ realFe s) (up a):=by
 have h1:=(decR_ok h).1
 have hp:=ok_parts h
 have rx:=rel_x h1
 have ry:=rel_y h1
 have ey:=re_val ry.ok
 have hsq:=root_sq (rel_u h1).ok hp.2.1
 have er:=re_val (root_nat (rel_u h1).ok).1
 rw [dec_phi h,dec_psi h]
 obtain ⟨X,ex,hX⟩:=re_flip (b:=decOdd s) er
 rw [← x_phi] at ex
 generalize toF (yφ realFe s).val=Y at ey
 generalize toF (rootE (uφ realFe s)).val=R at er hX
 have ev:=re_add (re_mul re_d (re_mul ey ey)) re_one
 rw [← v_phi] at ev
 have hv:=v_ne crv (Y:=Y)
 have eu:=re_mul (re_sub (re_mul ey ey) re_one) (re_inv ev hv)
 rw [← u_phi] at eu
 rw [re_same (re_mul er er) eu] at hsq
 exact ⟨(X,Y),pr_up rx ry (rel_small 1) (rel_mul rx ry) ex ey re_one (re_mul ex ey) rfl (on_parts rfl (invF_mul hv) rfl (of_decide_eq_true hsq) hX)⟩
end Go.Num
namespace Go.Num
open Go Go.Eng
theorem re_eq {a b:E5}{f:Fp}(h:Re a f) (k:Re b f):a.val % Pq=b.val % Pq:=toF_eq.1 (h.val.trans k.val.symm)
theorem re_odd {a b:E5}{f:Fp}(h:Re a f) (k:Re b f):oddE a=oddE b:=by rw [oddE_eq,oddE_eq,re_eq h k]
theorem neg_odd {P y:Nat}(hP:P % 2=1) (hlt:y < P) (h0:y ≠ 0) (hy:¬ y % 2=1):(P - y) % P % 2=1:=by
 rw [Nat.mod_eq_of_lt (by omega:P - y < P)]
 omega
theorem odd_neg {r:E5}(h:r.ok) (hr:oddE r=false) (h0:sameE r zeroE=false):oddE (negE r)=true:=by
 rw [oddE_eq] at hr ⊢
 rw [sameE_eq,zeroE_val] at h0
 have h1:=of_decide_eq_false hr
 have h2:=of_decide_eq_false h0
 refine decide_eq_true ?_
 rw [(neg_nat h).2]
 have h3:=Nat.mod_lt r.val Pq_pos
 generalize r.val % Pq=y at h1 h2 h3 ⊢
 refine neg_odd P_odd h3 (fun e=>h2 (by rw [e]; rfl)) h1
theorem set_get (s:List UInt8) (h:s.length=32) (x:UInt8):(s.set 31 x).getD 31 0=x:=by
 rw [List.getD_eq_getElem?_getD,List.getElem?_set]
 simp [h]
theorem set_back (s:List UInt8) (h:s.length=32):s.set 31 (s.getD 31 0)=s:=by
 rw [List.getD_eq_getElem?_getD,List.getElem?_eq_getElem (by omega),Option.getD_some,List.set_getElem_self]
theorem y_phi (s:List UInt8):yφ realFe s=ofEl (topL s):=by simp only [yφ,realFe]
def bv (bit:Nat→Bool):Nat→Nat
 | 0=>0
 | j+1=>2 * bv bit j+cond (bit (255 - j)) 1 0
theorem bv_eq (bit:Nat→Bool) (V:Nat) (h:∀ i,i < 256→bit i=decide (V / 2 ^ i % 2=1)) (hV:V < 2 ^ 256):∀ j,j≤256→bv bit j=V / 2 ^ (256 - j)
 | 0,_=>by
  unfold bv
  rw [Nat.sub_zero,Nat.div_eq_of_lt hV]
 | j+1,hj=>by
  have ih:=bv_eq bit V h hV j (by omega)
  unfold bv
  rw [ih,h (255 - j) (by omega)]
  have e1:256 - j=(255 - j)+1:=by omega
  have e2:256 - (j+1)=255 - j:=by omega
  rw [e1,e2,Nat.pow_succ,← Nat.div_div_eq_div_mul]
  generalize V / 2 ^ (255 - j)=W
  rcases Nat.mod_two_eq_zero_or_one W with h0 | h0
  ·rw [h0,decide_eq_false (by decide:¬ (0:Nat)=1),cond_false]; omega
  ·rw [h0,decide_eq_true (rfl:(1:Nat)=1),cond_true]; omega
theorem PR.iter {p:P4 E5}{q:P4 N16}{f:P4 Fp}(h:PR p q f){b c:Nat→Bool}(hb:∀ i,i < 256→b i=c i):∀ j,j≤256→∃ g,PR (iterG (addφ realFe) (zeroφ realFe) p b j) (iterG (addψ realFe) (zeroψ realFe) q c j) g∧aff g=mulA dF (aff f) (bv b j)
 | 0,_=>⟨zero4,pr_zero,aff_zero⟩
 | j+1,hj=>by
  obtain ⟨g,hg,ag⟩:=PR.iter h hb j (by omega)
  have hm:=on_aff h.on
  have h2:=hg.add hg
  have a2:aff (addO opsF dF g g)=mulA dF (aff f) (bv b j+bv b j):=by rw [aff_add crv hg.on hg.on,ag,← mulA_add crv hm]
  unfold iterG bv
  rw [← hb (255 - j) (by omega)]
  cases b (255 - j)
  ·rw [cond_false,cond_false,cond_false,Nat.add_zero,Nat.two_mul]
   exact ⟨_,h2,a2⟩
  ·rw [cond_true,cond_true,cond_true,Nat.two_mul]
   refine ⟨_,h2.add h,?_⟩
   rw [aff_add crv h2.on h.on,a2]; rfl
theorem mod_div (W r:Nat) (hr:r < 8):W % 256 / 2 ^ r % 2=W / 2 ^ r % 2:=by
 have:r=0 ∨ r=1 ∨ r=2 ∨ r=3 ∨ r=4 ∨ r=5 ∨ r=6 ∨ r=7:=by omega
 rcases this with h | h | h | h | h | h | h | h <;> subst h <;> omega
theorem mod_div16 (W r:Nat) (hr:r < 16):W % 65536 / 2 ^ r % 2=W / 2 ^ r % 2:=by
 have:r=0 ∨ r=1 ∨ r=2 ∨ r=3 ∨ r=4 ∨ r=5 ∨ r=6 ∨ r=7 ∨ r=8 ∨ r=9 ∨ r=10 ∨ r=11 ∨ r=12 ∨ r=13 ∨ r=14 ∨ r=15:=by omega
 rcases this with h | h | h | h | h | h | h | h | h | h | h | h | h | h | h | h <;> subst h <;> omega
theorem bitK_val (l:List UInt8) (i:Nat):bitK l i=decide (leNat l / 2 ^ i % 2=1):=by
 unfold bitK bitB
 have h:=and8_nat (shr_u8 (l.getD (i / 8) 0) (i % 8)) 1 1 rfl
 rw [shr_u8_nat _ _ (Nat.mod_lt _ (by omega)),byte_at] at h
 have e1:leNat l / 256 ^ (i / 8) % 256 / 2 ^ (i % 8) % 2=leNat l / 2 ^ i % 2:=by
  rw [mod_div _ _ (Nat.mod_lt _ (by omega)),show (256:Nat)=2 ^ 8 from rfl,← Nat.pow_mul,Nat.div_div_eq_div_mul,← Nat.pow_add,Nat.div_add_mod]
 rw [Nat.pow_one,e1] at h
 rw [← h]
 generalize shr_u8 (l.getD (i / 8) 0) (i % 8) &&& 1=x
 rw [Bool.eq_iff_iff,beq_iff_eq,decide_eq_true_iff]
 exact ⟨fun e=>by rw [e]; rfl,fun e=>UInt8.toNat_inj.1 e⟩
theorem part_at:∀ (l:List UInt64) (k:Nat),ok16 l→(l.getD k 0).toNat=val16 l / 65536 ^ k % 65536
 | [],k,_=>by
  show (([]:List UInt64).getD k 0).toNat=0 / 65536 ^ k % 65536
  rw [Nat.zero_div]; rfl
 | x::l,0,h=>by
  have:=h.1
  show x.toNat=(x.toNat+65536 * val16 l) / 65536 ^ 0 % 65536
  rw [Nat.pow_zero]; omega
 | x::l,k+1,h=>by
  have hx:=h.1
  show (l.getD k 0).toNat=(x.toNat+65536 * val16 l) / 65536 ^ (k+1) % 65536
  rw [part_at l k h.2,Nat.pow_succ,Nat.mul_comm (65536 ^ k),← Nat.div_div_eq_div_mul]
  have:(x.toNat+65536 * val16 l) / 65536=val16 l:=by omega
  rw [this]
theorem bitN16_val (n:N16) (hn:n.ok) (i:Nat):bitN16 n i=decide (n.val / 2 ^ i % 2=1):=by
 unfold bitN16 partN
 have h:=and_nat (shr_u64 (n.list.getD (i / 16) 0) (i % 16)) 1 1 rfl
 rw [shr_u64_nat _ _ (by have:=Nat.mod_lt i (show 16 > 0 by omega); omega),part_at _ _ hn] at h
 have e1:val16 n.list / 65536 ^ (i / 16) % 65536 / 2 ^ (i % 16) % 2=n.val / 2 ^ i % 2:=by
  rw [mod_div16 _ _ (Nat.mod_lt _ (by omega)),show (65536:Nat)=2 ^ 16 from rfl,← Nat.pow_mul,Nat.div_div_eq_div_mul,← Nat.pow_add,Nat.div_add_mod]; rfl
 rw [Nat.pow_one,e1] at h
 rw [← h]
 generalize shr_u64 (n.list.getD (i / 16) 0) (i % 16) &&& 1=x
 rw [Bool.eq_iff_iff,beq_iff_eq,decide_eq_true_iff]
 exact ⟨fun e=>by rw [e]; rfl,fun e=>UInt64.toNat_inj.1 e⟩
theorem bits_same {a:W4}{n:N16}(hn:n.ok) (e:a.val=n.val) (i:Nat):bitK (bytesW a) i=bitN16 n i:=by
 rw [bitK_val,bitN16_val n hn,bytesW_val,e]
theorem mul_phi (p:P4 E5) (n:W4) (h:noneφ realFe p=false):mulE4 p n=iterG (addφ realFe) (zeroφ realFe) p (bitK (bytesW n)) 256:=by
 unfold mulE4 mulG
 rw [h,cond_false]
theorem bv_bytes (a:W4):bv (bitK (bytesW a)) 256=a.val:=by
 have h:=bv_eq (bitK (bytesW a)) a.val (fun i _=>by rw [bitK_val,bytesW_val]) (Nat.lt_of_lt_of_le a.val_lt (by decide)) 256 (by omega)
 rw [h,Nat.sub_self,Nat.pow_zero,Nat.div_one]
theorem PR.mul {p:P4 E5}{q:P4 N16}{f:P4 Fp}(h:PR p q f){a:W4}{n:N16}(hn:n.ok) (e:a.val=n.val):∃ g,PR (mulE4 p a) (mulN4 q n) g∧aff g=mulA dF (aff f) a.val:=by
 obtain ⟨g,hg,ag⟩:=PR.iter h (b:=bitK (bytesW a)) (c:=bitN16 n) (fun i _=>bits_same hn e i) 256 (by omega)
 rw [bv_bytes] at ag
 rw [mul_phi p a h.some]
 exact ⟨g,hg,ag⟩
end Go.Num
namespace Go.Num
open Go Go.Eng
def xB:Nat:=15112221349535400772501151409588531511454012693041857206046113283949847762202
def yB:Nat:=46316835694926478169428394003475163141307993866256225615783033603165251855960
def uB:Nat:=26187595835145689230469591415084376402084551887632582719101735842039498021991
theorem y_base:leNat (topL baseL)=yB:=by kernel_rfl
theorem y_lt:decide (yB < Pq)=true:=by decide
theorem len_base:isLen baseL 32=true:=by kernel_rfl
theorem odd_base:decOdd baseL=false:=by kernel_rfl
theorem canon_base:canonE (topL baseL)=true:=by
 rw [canonE_eq,canonP_eq,topL_len len_base,y_base,y_lt]; rfl
theorem uval {a b c n:Nat}{x:E5}(v:Vm x (a * b ^ (Pq - 2))) (hn:a * pwE Pq b (Pq - 2) % Pq=c):x.val % Pq=c:=by
 rw [v.val,← hn,pw_inv,Nat.mul_mod_mod]
theorem u_comp:(yB * yB+(Pq - 1 % Pq)) * pwE Pq (dNat * (yB * yB)+1) (Pq - 2) % Pq=uB:=by kernel_rfl
theorem vm_d:Vm (curveφ realFe) dNat:=⟨ofEl_ok _,by
 have:=ofEl_val (s:=dBytes) (by kernel_rfl)
 rw [d_bytes] at this
 exact this⟩
theorem vm_yB:Vm (yφ realFe baseL) yB:=⟨(rel_y len_base).ok,by
 rw [y_phi,ofEl_val (topL_len len_base),y_base]⟩
theorem u_base:(uφ realFe baseL).val % Pq=uB:=by
 have v1:=vm_small 1
 rw [show (1:UInt32).toNat=1 from rfl] at v1
 have vv:=(vm_d.mul (vm_yB.mul vm_yB)).add v1
 rw [← v_phi] at vv
 have vu:=((vm_yB.mul vm_yB).sub v1).mul (vm_inv vv)
 rw [← u_phi] at vu
 exact uval (n:=0) vu u_comp
theorem nhas_base:nHas uB=true:=by kernel_rfl
theorem nroot_base:nRoot uB=xB:=by kernel_rfl
theorem has_base:hasE (uφ realFe baseL)=true:=by rw [has_nat (rel_u len_base).ok,u_base,nhas_base]
theorem dec_base:decRφ realFe baseL=0:=by
 have h:okφ realFe baseL=true:=by rw [ok_phi,canon_base,has_base,odd_base]; rfl
 unfold decRφ
 rw [len_base,h]; rfl
theorem x_base:(xφ realFe baseL).val % Pq=xB:=by
 rw [x_phi,odd_base,cond_false,(root_nat (rel_u len_base).ok).2,u_base,nroot_base]
theorem xB_mod:xB % Pq=xB:=by kernel_rfl
def aB:Fp × Fp:=(toF xB,toF yB)
theorem pr_base:PR (decφ realFe baseL) (decψ realFe baseL) (up aB):=by
 obtain ⟨⟨X,Y⟩,h⟩:=pr_dec dec_base
 have h1:=h.val.1.val
 have h2:=h.val.2.1.val
 rw [dec_phi dec_base] at h1 h2
 have e1:toF (xφ realFe baseL).val=X:=h1
 have e2:toF (yφ realFe baseL).val=Y:=h2
 have e3:toF (xφ realFe baseL).val=toF xB:=toF_eq.2 (x_base.trans xB_mod.symm)
 have e4:toF (yφ realFe baseL).val=toF yB:=toF_eq.2 vm_yB.val
 have e5:(X,Y)=aB:=by unfold aB; rw [← e1,← e2,e3,e4]
 rw [← e5]
 exact h
structure Rm (n:Nat) (f:Fp):Prop where
 lt:n < Pq
 val:toF n=f
theorem rm_mod {n:Nat}{f:Fp}(h:toF n=f):Rm (n % Pq) f:=⟨Nat.mod_lt _ Pq_pos,by rw [← h]; exact toF_eq.2 (Nat.mod_mod _ _)⟩
theorem small_lt (n:UInt32):n.toNat < Pq:=Nat.lt_trans n.toNat_lt (by decide)
theorem keeps_MF:Keeps opsM opsF Rm where
 add:=fun {a b x y} h k=>rm_mod (by rw [toF_add,h.val,k.val]; rfl)
 sub:=fun {a b x y} h k=>rm_mod (by
  have e:Pq - b=Pq - b % Pq:=by rw [Nat.mod_eq_of_lt k.lt]
  rw [e,toF_sub,h.val,k.val]; rfl)
 mul:=fun {a b x y} h k=>rm_mod (by rw [toF_mul,h.val,k.val]; rfl)
 small:=fun n=>⟨small_lt n,rfl⟩
 zero:=⟨Pq_pos,toF_nil⟩
theorem iter_keeps {R S:Type}{o:Ops R}{o':Ops S}{r:R→S→Prop}(k:Keeps o o' r){p z:P4 R}{p' z':P4 S}{d:R}{d':S}(hd:r d d') (hp:R4 r p p') (hz:R4 r z z') (b:Nat→Bool):∀ j,R4 r (iterG (addO o d) z p b j) (iterG (addO o' d') z' p' b j)
 | 0=>hz
 | j+1=>by
  have ih:=iter_keeps k hd hp hz b j
  have h2:=add_keeps k hd ih ih
  unfold iterG
  cases b (255 - j)
  ·exact h2
  ·exact add_keeps k hd h2 hp
theorem iter_on {f:P4 Fp}(h:On dF f) (b:Nat→Bool):∀ j,On dF (iterG (addO opsF dF) zero4 f b j)∧aff (iterG (addO opsF dF) zero4 f b j)=mulA dF (aff f) (bv b j)
 | 0=>⟨On.zero dF,aff_zero⟩
 | j+1=>by
  obtain ⟨hg,ag⟩:=iter_on h b j
  have hm:=on_aff h
  have h2:=hg.add crv hg
  have a2:aff (addO opsF dF (iterG (addO opsF dF) zero4 f b j) (iterG (addO opsF dF) zero4 f b j))=mulA dF (aff f) (bv b j+bv b j):=by rw [aff_add crv hg hg,ag,← mulA_add crv hm]
  unfold iterG bv
  cases b (255 - j)
  ·rw [cond_false,cond_false,Nat.add_zero,Nat.two_mul]
   exact ⟨h2,a2⟩
  ·rw [cond_true,cond_true,Nat.two_mul]
   refine ⟨h2.add crv h,?_⟩
   rw [aff_add crv h2 h,a2]; rfl
def zeroM:P4 Nat:=⟨0,1,1,0⟩
def baseM:P4 Nat:=⟨xB,yB,1,xB * yB % Pq⟩
theorem rm_zero:R4 Rm zeroM zero4:=r4_mk ⟨Pq_pos,toF_nil⟩ ⟨by decide,toF_one⟩ ⟨by decide,toF_one⟩ ⟨Pq_pos,toF_nil⟩
theorem rm_base:R4 Rm baseM (up aB):=r4_mk ⟨by decide,rfl⟩ ⟨by decide,rfl⟩ ⟨by decide,toF_one⟩ (rm_mod (toF_mul _ _))
theorem rm_d:Rm dNat dF:=⟨by decide,rfl⟩
def mulM (n:Nat):P4 Nat:=iterG (addO opsM dNat) zeroM baseM (fun i=>Nat.testBit n i) 256
theorem order_M:((mulM Lq).x == 0 && (mulM Lq).y == (mulM Lq).z)=true:=by kernel_rfl
theorem eight_M:((mulM 8).x == 0)=false:=by kernel_rfl
end Go.Num
namespace Go.Num
open Go Go.Eng
theorem bv_test (n:Nat) (h:n < 2 ^ 256):bv (fun i=>Nat.testBit n i) 256=n:=by
 rw [bv_eq (fun i=>Nat.testBit n i) n (fun i _=>Nat.testBit_eq_decide_div_mod_eq) h 256 (by omega),Nat.sub_self,Nat.pow_zero,Nat.div_one]
theorem zero_iff {f:P4 Fp}(h:On dF f):aff f=zeroA ↔ f.x=0∧f.y=f.z:=by
 rw [← aff_zero,← same_aff h (On.zero dF)]
 have h1:f.x * (zero4).z=f.x:=by show f.x * 1=f.x; grind -lia -linarith (splits:=0)
 have h2:(zero4).x * f.z=0:=by show 0 * f.z=0; grind -lia -linarith (splits:=0)
 have h3:f.y * (zero4).z=f.y:=by show f.y * 1=f.y; grind -lia -linarith (splits:=0)
 have h4:(zero4).y * f.z=f.z:=by show 1 * f.z=f.z; grind -lia -linarith (splits:=0)
 unfold SameP
 rw [h1,h2,h3,h4]
theorem mulM_aff (n:Nat) (h:n < 2 ^ 256):∃ f,R4 Rm (mulM n) f∧On dF f∧aff f=mulA dF aB n:=by
 have hk:=iter_keeps keeps_MF rm_d rm_base rm_zero (fun i=>Nat.testBit n i) 256
 have ho:=iter_on pr_base.on (fun i=>Nat.testBit n i) 256
 rw [bv_test n h,aff_up] at ho
 exact ⟨_,hk,ho.1,ho.2⟩
theorem order_lt:Lq < 2 ^ 256:=by decide
theorem eight_lt:8 < 2 ^ 256:=by decide
theorem order_base:mulA dF aB Lq=zeroA:=by
 obtain ⟨f,hr,ho,ha⟩:=mulM_aff Lq order_lt
 rw [← ha,zero_iff ho]
 have h:=order_M
 generalize mulM Lq=m at h hr
 simp only [Bool.and_eq_true,beq_iff_eq] at h
 have h1:=hr.1.val
 have h2:=hr.2.1.val
 have h3:=hr.2.2.1.val
 rw [h.1,toF_nil] at h1
 rw [h.2] at h2
 exact ⟨h1.symm,h2.symm.trans h3⟩
theorem eight_base:¬ mulA dF aB 8=zeroA:=by
 obtain ⟨f,hr,ho,ha⟩:=mulM_aff 8 eight_lt
 rw [← ha,zero_iff ho]
 intro hz
 have h:=eight_M
 generalize mulM 8=m at h hr
 have h1:=hr.1.val
 rw [hz.1,toF_zero,Nat.mod_eq_of_lt hr.1.lt] at h1
 rw [h1] at h
 cases h
theorem order_mod (n:Nat):mulA dF aB (n % Lq)=mulA dF aB n:=mulA_mod crv (by have:=on_aff pr_base.on; rw [aff_up] at this; exact this) order_base n
theorem fi_add:realFi.add=addφ realFe:=by simp only [realFi]
theorem fi_same:realFi.same=sameφ realFe:=by simp only [realFi]
theorem fi_zero:realFi.zero=zeroφ realFe:=by simp only [realFi]
theorem fi_bytes:realFi.bytes=bytesφ realFe:=by simp only [realFi]
theorem fi_dec:realFi.dec=decφ realFe:=by simp only [realFi]
theorem fi_decR:realFi.decR=decRφ realFe:=by simp only [realFi]
theorem fi_mul:realFi.mul=mulE4:=by simp only [realFi]
theorem fi_addQ:realFi.addQ=addψ realFe:=by simp only [realFi]
theorem fi_zeroQ:realFi.zeroQ=zeroψ realFe:=by simp only [realFi]
theorem fi_bytesQ:realFi.bytesQ=bytesψ realFe:=by simp only [realFi]
theorem fi_decQ:realFi.decQ=decψ realFe:=by simp only [realFi]
theorem fi_decRQ:realFi.decRQ=decRψ realFe:=by simp only [realFi]
theorem fi_mulQ:realFi.mulQ=mulN4:=by simp only [realFi]
theorem fi_okQ:realFi.okQ=okQ0 realFe:=by simp only [realFi]
abbrev PI:=PR
theorem pi_base:PI realFi.base realFi.baseQ (up aB):=by
 rw [base_eq,baseQ_eq,fi_dec,fi_decQ]; exact pr_base
theorem pi_zero:PI realFi.zero realFi.zeroQ zero4:=by rw [fi_zero,fi_zeroQ]; exact pr_zero
theorem pi_add {p p':P4 E5}{q q':P4 N16}{f f':P4 Fp}(h:PI p q f) (k:PI p' q' f'):PI (realFi.add p p') (realFi.addQ q q') (addO opsF dF f f'):=by rw [fi_add,fi_addQ]; exact h.add k
theorem pi_ok {p:P4 E5}{q:P4 N16}{f:P4 Fp}(h:PI p q f):realFi.okQ q=true:=by rw [fi_okQ]; exact h.ok
theorem pi_bytes {p:P4 E5}{q:P4 N16}{f:P4 Fp}(h:PI p q f):realFi.bytes p=realFi.bytesQ q:=by rw [fi_bytes,fi_bytesQ]; exact h.bytes
theorem pi_iff {p p':P4 E5}{q q':P4 N16}{f f':P4 Fp}(h:PI p q f) (k:PI p' q' f'):realFi.same p p'=true ↔ aff f=aff f':=by rw [fi_same]; exact h.same_iff k
theorem pi_dec {s:List UInt8}(h:realFi.decR s=0):∃ a:Fp × Fp,PI (realFi.dec s) (realFi.decQ s) (up a):=by
 rw [fi_decR] at h; rw [fi_dec,fi_decQ]; exact pr_dec h
theorem pi_mul {p:P4 E5}{q:P4 N16}{f:P4 Fp}(h:PI p q f){a:W4}{n:N16}(hn:n.ok) (e:a.val=n.val):∃ g,PI (realFi.mul p a) (realFi.mulQ q n) g∧aff g=mulA dF (aff f) a.val:=by rw [fi_mul,fi_mulQ]; exact h.mul hn e
theorem pi_mulW {p:P4 E5}{q:P4 N16}{f:P4 Fp}(h:PI p q f) (a:W4):∃ q' g,PI (realFi.mul p a) q' g∧aff g=mulA dF (aff f) a.val:=by
 obtain ⟨o,e⟩:=partsN_val (bytesW a) (bytesW_len a)
 obtain ⟨g,hg,ag⟩:=pi_mul h (a:=a) o (by rw [e,bytesW_val])
 exact ⟨_,g,hg,ag⟩
theorem pi_aff {p p':P4 E5}{q q':P4 N16}{f f':P4 Fp}(h:PI p q f) (k:PI p' q' f'):aff (addO opsF dF f f')=addA dF (aff f) (aff f'):=aff_add crv h.on k.on
theorem fi_rsame (s:List UInt8):realFi.decR s=realFi.decRQ s:=by rw [fi_decR,fi_decRQ]; exact decR_same s
end Go.Num
namespace Go.Num
open Go Go.Eng
theorem on_aB:OnA dF aB:=by have:=on_aff pr_base.on; rw [aff_up] at this; exact this
theorem b_mul (a:W4):∃ q' g,PI (realFi.mul realFi.base a) q' g∧aff g=mulA dF aB a.val:=by
 have:=pi_mulW pi_base a
 rw [aff_up] at this
 exact this
theorem fi_sadd:realFi.sadd=addW:=by simp only [realFi]
theorem fi_smul:realFi.smul=mulW:=by simp only [realFi]
end Go.Num
namespace Go.Num
open Go Go.Eng
theorem leNat_ge:∀ (l:List UInt8) (i:Nat),i < l.length→(l.getD i 0).toNat * 256 ^ i≤leNat l
 | [],i,h=>by simp at h
 | b::l,0,_=>by
  show b.toNat * 1≤b.toNat+256 * leNat l
  omega
 | b::l,i+1,h=>by
  have ih:=leNat_ge l i (by simpa using h)
  show (l.getD i 0).toNat * 256 ^ (i+1)≤b.toNat+256 * leNat l
  rw [Nat.pow_succ]
  have e:(l.getD i 0).toNat * (256 ^ i * 256)=(l.getD i 0).toNat * 256 ^ i * 256:=by rw [Nat.mul_assoc]
  rw [e]
  omega
theorem bytes_top (y:E5):((bytesE y).getD 31 0).toNat < 128:=by
 have h:=leNat_ge (bytesE y) 31 (by rw [bytesE_len]; omega)
 rw [bytesE_val] at h
 have h2:y.val % Pq < Pq:=Nat.mod_lt _ Pq_pos
 have h3:Pq≤128 * 256 ^ 31:=by decide
 generalize 256 ^ 31=m at h h3
 generalize y.val % Pq=v at h h2
 generalize ((bytesE y).getD 31 0).toNat=b at h ⊢
 rcases Nat.lt_or_ge b 128 with h4 | h4
 ·exact h4
 ·have:=Nat.mul_le_mul_right m h4
  omega
theorem top_low (b:UInt8) (h:b.toNat < 128):(b &&& 127)=b∧(shr_u8 b 7 == 1)=false∧((b ||| 128) &&& 127)=b∧(shr_u8 (b ||| 128) 7 == 1)=true:=by
 have:=all8 (f:=fun b => !(decide (b.toNat < 128)) || ((b &&& 127) == b && (!(shr_u8 b 7 == 1) && (((b ||| 128) &&& 127) == b && (shr_u8 (b ||| 128) 7 == 1))))) (by kernel_rfl) b
 simp only [decide_eq_true h,Bool.not_true,Bool.false_or,Bool.and_eq_true,Bool.not_eq_true',beq_iff_eq] at this
 obtain ⟨a,b',c,d⟩:=this
 exact ⟨a,by simpa using b',c,by simpa using d⟩
theorem top_of {l:List UInt8}(hl:l.length=32) (hb:(l.getD 31 0).toNat < 128) (d:Bool):topL (cond d (top128 l) l)=l∧decOdd (cond d (top128 l) l)=d∧(cond d (top128 l) l).length=32:=by
 obtain ⟨a1,a2,a3,a4⟩:=top_low _ hb
 cases d with
 | false =>
  refine ⟨?_,?_,hl⟩
  ·show l.set 31 (l.getD 31 0 &&& 127)=l
   rw [a1,set_back l hl]
  ·exact a2
 | true =>
  refine ⟨?_,?_,?_⟩
  ·show (l.set 31 (l.getD 31 0 ||| 128)).set 31 ((l.set 31 (l.getD 31 0 ||| 128)).getD 31 0 &&& 127)=l
   rw [set_get l hl,a3,List.set_set,set_back l hl]
  ·show (shr_u8 ((l.set 31 (l.getD 31 0 ||| 128)).getD 31 0) 7 == 1)=true
   rw [set_get l hl,a4]
  ·show (l.set 31 _).length=32
   rw [List.length_set,hl]
theorem isLen_of {l:List UInt8}(h:l.length=32):isLen l 32=true:=by
 unfold isLen
 rw [h]
 rfl
theorem canon_bytesE (y:E5):canonE (bytesE y)=true:=by
 rw [canonE_eq,canonP_eq,isLen_of (bytesE_len y),Bool.true_and,bytesE_val]
 exact decide_eq_true (Nat.mod_lt _ Pq_pos)
theorem re_of_bytes {y:E5}{Y:Fp}(h:Re y Y):Re (ofEl (bytesE y)) Y:=by
 refine ⟨ofEl_ok _,?_⟩
 rw [← h.val]
 refine toF_eq.2 ?_
 rw [ofEl_val (isLen_of (bytesE_len y)),bytesE_val,Nat.mod_mod]
theorem lit9 (d x y v w:Fp) (hv:v=d * (y * y)+1) (hw:v * w=1) (h:y * y - x * x=1+d * (x * y) * (x * y)):x * x=(y * y - 1) * w:=by grind -lia -linarith (splits:=0)
theorem lit10 (a b z:Fp) (hz:z=0) (h:a * a=b * b):(a - b) * (a+b)=z:=by grind -lia -linarith (splits:=0)
theorem lit11 (a b:Fp) (h:a - b=0):a=b:=by grind -lia -linarith (splits:=0)
theorem lit12 (a b:Fp) (h:a+b=0):a = -b:=by grind -lia -linarith (splits:=0)
theorem lit13 (a b:Fp) (h:a = -b):b = -a:=by grind -lia -linarith (splits:=0)
theorem lit14 (a:Fp) (h:a=0):-a=a:=by grind -lia -linarith (splits:=0)
theorem sq_cases {a b:Fp}(h:a * a=b * b):a=b ∨ a = -b:=by
 by_cases h1:a - b=0
 ·exact .inl (lit11 a b h1)
 ·by_cases h2:a+b=0
  ·exact .inr (lit12 a b h2)
  ·exact absurd (lit10 a b 0 rfl h) (F_mul_ne h1 h2)
theorem has_of_sq {u:E5}{U X:Fp}(hu:Re u U) (h:X * X=U):hasE u=true:=by
 by_cases h0:u.val % Pq=0
 ·exact (has_zero hu.ok h0).1
 ·have hX:X.val % Pq ≠ 0:=fun e=>h0 (by
   have eX:X=0:=by rw [← toF_self X]; exact toF_zero.2 e
   have:toF u.val=0:=by rw [hu.val,← h,eX]; exact Fin.ext (by rw [Fin.val_mul]; exact Nat.mod_eq_of_lt (by decide))
   exact toF_zero.1 this)
  obtain ⟨j,hj⟩:=genP.rep hX
  have hk:2 ^ (j+j) % Pq=u.val % Pq:=by
   rw [Nat.pow_add,Nat.mul_mod,hj,← Nat.mul_mod]
   refine toF_eq.1 ?_
   rw [toF_mul,toF_self,h,hu.val]
  rw [has_iff hu.ok h0 hk]
  exact decide_eq_true (by omega)
theorem dec_of {x y:E5}{X Y:Fp}(ex:Re x X) (ey:Re y Y) (ho:OnA dF (X,Y)):decRφ realFe (cond (oddE x) (top128 (bytesE y)) (bytesE y))=0∧∃ g,PR (decφ realFe (cond (oddE x) (top128 (bytesE y)) (bytesE y))) (decψ realFe (cond (oddE x) (top128 (bytesE y)) (bytesE y))) g∧aff g=(X,Y):=by
 obtain ⟨t1,t2,t3⟩:=top_of (bytesE_len y) (bytes_top y) (oddE x)
 generalize cond (oddE x) (top128 (bytesE y)) (bytesE y)=s at t1 t2 t3 ⊢
 have hl:=isLen_of t3
 have e1:Re (yφ realFe s) Y:=by rw [y_phi,t1]; exact re_of_bytes ey
 have ev:=re_add (re_mul re_d (re_mul e1 e1)) re_one
 rw [← v_phi] at ev
 have hv:=v_ne crv (Y:=Y)
 have eu:=re_mul (re_sub (re_mul e1 e1) re_one) (re_inv ev hv)
 rw [← u_phi] at eu
 have hU:X * X=(Y * Y - 1) * invF (dF * (Y * Y)+1):=lit9 dF X Y _ _ rfl (invF_mul hv) ho
 have hh:=has_of_sq eu hU
 have hsq:=root_sq (rel_u hl).ok hh
 have hrok:=(root_nat (rel_u hl).ok).1
 have hodd:=root_even (rel_u hl).ok
 have er:=re_val hrok
 have key:Re (cond (oddE x) (negE (rootE (uφ realFe s))) (rootE (uφ realFe s))) X∧(oddE x=true→sameE (rootE (uφ realFe s)) zeroE=false):=by
  generalize toF (rootE (uφ realFe s)).val=R at er
  rw [re_same (re_mul er er) eu] at hsq
  have hR:R * R=X * X:=(of_decide_eq_true hsq).trans hU.symm
  have same:R=X→Re (cond (oddE x) (negE (rootE (uφ realFe s))) (rootE (uφ realFe s))) X∧(oddE x=true→sameE (rootE (uφ realFe s)) zeroE=false):=fun e=>by
   subst e
   have ho:oddE x=false:=(re_odd ex er).trans hodd
   rw [ho,cond_false]
   exact ⟨er,fun h=>by cases h⟩
  rcases sq_cases hR with e | e
  ·exact same e
  ·cases h0:sameE (rootE (uφ realFe s)) zeroE with
   | true =>
    have h1:=h0
    rw [re_same er re_zero] at h1
    have hR0:=of_decide_eq_true h1
    have h2:=same (by rw [lit13 R X e,hR0]; exact (lit14 0 rfl).symm)
    rw [h0] at h2
    exact h2
   | false =>
    have er2:=re_neg er
    rw [← lit13 R X e] at er2
    have ho:oddE x=true:=(re_odd ex er2).trans (odd_neg hrok hodd h0)
    rw [ho,cond_true]
    exact ⟨er2,fun _=>rfl⟩
 have hok:okφ realFe s=true:=by
  rw [ok_phi,t1,canon_bytesE,hh,t2]
  cases hd:oddE x with
  | false=>simp only [cond_true,cond_false]
  | true=>rw [key.2 hd]; simp only [cond_true,Bool.not_false]
 have hdr:decRφ realFe s=0:=by
  unfold decRφ
  rw [hl,hok,cond_true,cond_true]
 refine ⟨hdr,?_⟩
 obtain ⟨a,pr⟩:=pr_dec hdr
 refine ⟨up a,pr,?_⟩
 rw [aff_up]
 have v:=pr.val
 rw [dec_phi hdr] at v
 have v1:Re (xφ realFe s) a.1:=v.1
 have v2:Re (yφ realFe s) a.2:=v.2.1
 have k1:=key.1
 rw [← t2,← x_phi] at k1
 exact Prod.ext (v1.val.symm.trans k1.val) (v2.val.symm.trans e1.val)
theorem PR.back {p:P4 E5}{q:P4 N16}{f:P4 Fp}(h:PR p q f):decRφ realFe (bytesφ realFe p)=0∧∃ g,PR (decφ realFe (bytesφ realFe p)) (decψ realFe (bytesφ realFe p)) g∧aff g=aff f:=by
 rw [bytes_phi p h.some]
 obtain ⟨hx,hy,hz,_⟩:=h.val
 have ez:=re_inv hz h.on.z
 exact dec_of (re_mul hx ez) (re_mul hy ez) (on_aff h.on)
end Go.Num
namespace Go.Num
open Go Go.Eng
theorem k_alg (d x y:Fp) (hc:y * y - x * x=1+d * (x * y) * (x * y)):x * x * (1+d * (y * y))=y * y - 1:=by grind -lia -linarith (splits:=0)
theorem k_ne {d i:Fp}(h:Crv d i){a:Fp × Fp}(ha:OnA d a):1+d * (a.2 * a.2) ≠ 0:=by
 intro e
 have h1:=k_alg d a.1 a.2 ha
 rw [e] at h1
 generalize a.2 * a.2=b at e h1
 have h2:b=1:=by grind -lia -linarith (splits:=0)
 have h3:d = -1:=by rw [h2] at e; grind -lia -linarith (splits:=0)
 exact h.ns i (by rw [h.ii,h3])
def nb (k:List UInt8):Nat→Nat
 | 0=>0
 | j+1=>2 * nb k j+cond (bitK k (254 - j)) 1 0
end Go.Num
namespace Go.Num
theorem gen1257559732178653:Gen 1257559732178653 2:=gen_cert 1257559732178653 2 [2,2,3,7,23,531581,1224481] (fun q hq=>by
 simp only [List.mem_cons,List.mem_nil_iff,or_false] at hq
 rcases hq with rfl | rfl | rfl | rfl | rfl | rfl | rfl
 ·exact (irr_small 2 2000 rfl (by kernel_rfl))
 ·exact (irr_small 2 2000 rfl (by kernel_rfl))
 ·exact (irr_small 3 2000 rfl (by kernel_rfl))
 ·exact (irr_small 7 2000 rfl (by kernel_rfl))
 ·exact (irr_small 23 2000 rfl (by kernel_rfl))
 ·exact (irr_small 531581 2000 rfl (by kernel_rfl))
 ·exact (irr_small 1224481 2000 rfl (by kernel_rfl))
 ) (by kernel_rfl)
theorem irr1257559732178653:Irr 1257559732178653:=gen1257559732178653.irr
theorem gen4434155615661930479:Gen 4434155615661930479 17:=gen_cert 4434155615661930479 17 [2,41,43,1257559732178653] (fun q hq=>by
 simp only [List.mem_cons,List.mem_nil_iff,or_false] at hq
 rcases hq with rfl | rfl | rfl | rfl
 ·exact (irr_small 2 2000 rfl (by kernel_rfl))
 ·exact (irr_small 41 2000 rfl (by kernel_rfl))
 ·exact (irr_small 43 2000 rfl (by kernel_rfl))
 ·exact (irr1257559732178653)
 ) (by kernel_rfl)
theorem irr4434155615661930479:Irr 4434155615661930479:=gen4434155615661930479.irr
theorem gen172054593956031949258510691:Gen 172054593956031949258510691 2:=gen_cert 172054593956031949258510691 2 [2,5,1361,2851,4434155615661930479] (fun q hq=>by
 simp only [List.mem_cons,List.mem_nil_iff,or_false] at hq
 rcases hq with rfl | rfl | rfl | rfl | rfl
 ·exact (irr_small 2 2000 rfl (by kernel_rfl))
 ·exact (irr_small 5 2000 rfl (by kernel_rfl))
 ·exact (irr_small 1361 2000 rfl (by kernel_rfl))
 ·exact (irr_small 2851 2000 rfl (by kernel_rfl))
 ·exact (irr4434155615661930479)
 ) (by kernel_rfl)
theorem irr172054593956031949258510691:Irr 172054593956031949258510691:=gen172054593956031949258510691.irr
theorem gen292386187:Gen 292386187 2:=gen_cert 292386187 2 [2,3,3,3,3,307,5879] (fun q hq=>by
 simp only [List.mem_cons,List.mem_nil_iff,or_false] at hq
 rcases hq with rfl | rfl | rfl | rfl | rfl | rfl | rfl
 ·exact (irr_small 2 2000 rfl (by kernel_rfl))
 ·exact (irr_small 3 2000 rfl (by kernel_rfl))
 ·exact (irr_small 3 2000 rfl (by kernel_rfl))
 ·exact (irr_small 3 2000 rfl (by kernel_rfl))
 ·exact (irr_small 3 2000 rfl (by kernel_rfl))
 ·exact (irr_small 307 2000 rfl (by kernel_rfl))
 ·exact (irr_small 5879 2000 rfl (by kernel_rfl))
 ) (by kernel_rfl)
theorem irr292386187:Irr 292386187:=gen292386187.irr
theorem gen213441916511:Gen 213441916511 13:=gen_cert 213441916511 13 [2,5,73,292386187] (fun q hq=>by
 simp only [List.mem_cons,List.mem_nil_iff,or_false] at hq
 rcases hq with rfl | rfl | rfl | rfl
 ·exact (irr_small 2 2000 rfl (by kernel_rfl))
 ·exact (irr_small 5 2000 rfl (by kernel_rfl))
 ·exact (irr_small 73 2000 rfl (by kernel_rfl))
 ·exact (irr292386187)
 ) (by kernel_rfl)
theorem irr213441916511:Irr 213441916511:=gen213441916511.irr
theorem gen19757330305831588566944191468367130476339:Gen 19757330305831588566944191468367130476339 2:=gen_cert 19757330305831588566944191468367130476339 2 [2,269,213441916511,172054593956031949258510691] (fun q hq=>by
 simp only [List.mem_cons,List.mem_nil_iff,or_false] at hq
 rcases hq with rfl | rfl | rfl | rfl
 ·exact (irr_small 2 2000 rfl (by kernel_rfl))
 ·exact (irr_small 269 2000 rfl (by kernel_rfl))
 ·exact (irr213441916511)
 ·exact (irr172054593956031949258510691)
 ) (by kernel_rfl)
theorem irr19757330305831588566944191468367130476339:Irr 19757330305831588566944191468367130476339:=gen19757330305831588566944191468367130476339.irr
theorem gen276602624281642239937218680557139826668747:Gen 276602624281642239937218680557139826668747 2:=gen_cert 276602624281642239937218680557139826668747 2 [2,7,19757330305831588566944191468367130476339] (fun q hq=>by
 simp only [List.mem_cons,List.mem_nil_iff,or_false] at hq
 rcases hq with rfl | rfl | rfl
 ·exact (irr_small 2 2000 rfl (by kernel_rfl))
 ·exact (irr_small 7 2000 rfl (by kernel_rfl))
 ·exact (irr19757330305831588566944191468367130476339)
 ) (by kernel_rfl)
theorem irr276602624281642239937218680557139826668747:Irr 276602624281642239937218680557139826668747:=gen276602624281642239937218680557139826668747.irr
theorem gen3044861653679985063343:Gen 3044861653679985063343 5:=gen_cert 3044861653679985063343 5 [2,3,11,30703,82163,132667,137849] (fun q hq=>by
 simp only [List.mem_cons,List.mem_nil_iff,or_false] at hq
 rcases hq with rfl | rfl | rfl | rfl | rfl | rfl | rfl
 ·exact (irr_small 2 2000 rfl (by kernel_rfl))
 ·exact (irr_small 3 2000 rfl (by kernel_rfl))
 ·exact (irr_small 11 2000 rfl (by kernel_rfl))
 ·exact (irr_small 30703 2000 rfl (by kernel_rfl))
 ·exact (irr_small 82163 2000 rfl (by kernel_rfl))
 ·exact (irr_small 132667 2000 rfl (by kernel_rfl))
 ·exact (irr_small 137849 2000 rfl (by kernel_rfl))
 ) (by kernel_rfl)
theorem irr3044861653679985063343:Irr 3044861653679985063343:=gen3044861653679985063343.irr
theorem gen14741173:Gen 14741173 2:=gen_cert 14741173 2 [2,2,3,3,409477] (fun q hq=>by
 simp only [List.mem_cons,List.mem_nil_iff,or_false] at hq
 rcases hq with rfl | rfl | rfl | rfl | rfl
 ·exact (irr_small 2 2000 rfl (by kernel_rfl))
 ·exact (irr_small 2 2000 rfl (by kernel_rfl))
 ·exact (irr_small 3 2000 rfl (by kernel_rfl))
 ·exact (irr_small 3 2000 rfl (by kernel_rfl))
 ·exact (irr_small 409477 2000 rfl (by kernel_rfl))
 ) (by kernel_rfl)
theorem irr14741173:Irr 14741173:=gen14741173.irr
theorem gen58964693:Gen 58964693 2:=gen_cert 58964693 2 [2,2,14741173] (fun q hq=>by
 simp only [List.mem_cons,List.mem_nil_iff,or_false] at hq
 rcases hq with rfl | rfl | rfl
 ·exact (irr_small 2 2000 rfl (by kernel_rfl))
 ·exact (irr_small 2 2000 rfl (by kernel_rfl))
 ·exact (irr14741173)
 ) (by kernel_rfl)
theorem irr58964693:Irr 58964693:=gen58964693.irr
theorem gen198211423230930754013084525763697:Gen 198211423230930754013084525763697 5:=gen_cert 198211423230930754013084525763697 5 [2,2,2,2,3,23,58964693,3044861653679985063343] (fun q hq=>by
 simp only [List.mem_cons,List.mem_nil_iff,or_false] at hq
 rcases hq with rfl | rfl | rfl | rfl | rfl | rfl | rfl | rfl
 ·exact (irr_small 2 2000 rfl (by kernel_rfl))
 ·exact (irr_small 2 2000 rfl (by kernel_rfl))
 ·exact (irr_small 2 2000 rfl (by kernel_rfl))
 ·exact (irr_small 2 2000 rfl (by kernel_rfl))
 ·exact (irr_small 3 2000 rfl (by kernel_rfl))
 ·exact (irr_small 23 2000 rfl (by kernel_rfl))
 ·exact (irr58964693)
 ·exact (irr3044861653679985063343)
 ) (by kernel_rfl)
theorem irr198211423230930754013084525763697:Irr 198211423230930754013084525763697:=gen198211423230930754013084525763697.irr
theorem gen7237005577332262213973186563042994240857116359379907606001950938285454250989:Gen 7237005577332262213973186563042994240857116359379907606001950938285454250989 2:=gen_cert 7237005577332262213973186563042994240857116359379907606001950938285454250989 2 [2,2,3,11,198211423230930754013084525763697,276602624281642239937218680557139826668747] (fun q hq=>by
 simp only [List.mem_cons,List.mem_nil_iff,or_false] at hq
 rcases hq with rfl | rfl | rfl | rfl | rfl | rfl
 ·exact (irr_small 2 2000 rfl (by kernel_rfl))
 ·exact (irr_small 2 2000 rfl (by kernel_rfl))
 ·exact (irr_small 3 2000 rfl (by kernel_rfl))
 ·exact (irr_small 11 2000 rfl (by kernel_rfl))
 ·exact (irr198211423230930754013084525763697)
 ·exact (irr276602624281642239937218680557139826668747)
 ) (by kernel_rfl)
end Go.Num
namespace Go.Num
open Go Go.Eng
theorem clamp_val {k:List UInt8}(h:isLen k 32=true):leNat (clampL k) % 8=0∧2 ^ 254≤leNat (clampL k)∧leNat (clampL k) < 2 ^ 255:=by
 rw [isLen_eq] at h
 obtain ⟨a,m,b,rfl,hm⟩:∃ a m b,k=a::(m++[b])∧m.length=30:=by
  match k,h with
  | a::l,h =>
   have h1:l.length=31:=by simpa using h
   refine ⟨a,l.take 30,l.getD 30 0,?_,by rw [List.length_take]; omega⟩
   have h2:l.drop 30=[l.getD 30 0]:=by
    rw [List.drop_eq_getElem_cons (by omega),List.drop_of_length_le (by omega)]
    rw [List.getD_eq_getElem?_getD,List.getElem?_eq_getElem (by omega)]; rfl
   rw [← h2,List.take_append_drop]
 have e:clampL (a::(m++[b]))=(a &&& 248)::(m++[(b &&& 127) ||| 64]):=by
  unfold clampL
  have g1:(a::(m++[b])).getD 31 0=b:=by
   rw [List.getD_eq_getElem?_getD,List.getElem?_cons_succ,List.getElem?_append_right (by omega),hm]; rfl
  rw [g1]
  show ((a &&& 248)::(m++[b])).set 31 _=_
  rw [List.set_cons_succ,List.set_append_right _ _ (by omega),hm]; rfl
 rw [e]
 have hb:=leNat_bound m
 rw [hm] at hb
 have s1:leNat ((a &&& 248)::(m++[(b &&& 127) ||| 64]))=(a &&& 248).toNat+256 * (leNat m+256 ^ 30 * ((b &&& 127) ||| 64).toNat):=by
  show (a &&& 248).toNat+256 * leNat (m++[(b &&& 127) ||| 64])=_
  rw [leNat_app2,hm]
  rfl
 have k1:=all8 (f:=fun x=>(x &&& 248).toNat % 8 == 0) (by kernel_rfl) a
 have k2:=all8 (f:=fun x=>Nat.ble 64 ((x &&& 127) ||| 64).toNat && Nat.ble ((x &&& 127) ||| 64).toNat 127) (by kernel_rfl) b
 simp only [beq_iff_eq] at k1
 simp only [Bool.and_eq_true,Nat.ble_eq] at k2
 have k3:=(a &&& 248).toNat_lt
 rw [s1]
 generalize (a &&& 248).toNat=x at *
 generalize ((b &&& 127) ||| 64).toNat=y at *
 generalize leNat m=z at *
 simp only [Nat.reducePow] at *
 omega
theorem genL:Gen Lq 2:=gen7237005577332262213973186563042994240857116359379907606001950938285454250989
theorem L3:3≤Lq:=by decide
theorem L_mul {a b:Nat}(h:a * b % Lq=0):a % Lq=0 ∨ b % Lq=0:=by
 by_cases ha:a % Lq=0
 ·exact .inl ha
 ·exact .inr (by
   have:=genL.cancel L3 ha (s:=b) (t:=0) (by rw [h,Nat.mul_zero,Nat.zero_mod])
   rw [this,Nat.zero_mod])
theorem L_8:¬ 8 % Lq=0:=by decide
theorem L_big:2 ^ 252 < Lq:=by decide
theorem clamp_L {k:List UInt8}(h:isLen k 32=true):¬ leNat (clampL k) % Lq=0:=by
 obtain ⟨h1,h2,h3⟩:=clamp_val h
 generalize leNat (clampL k)=n at *
 intro e
 have e2:n=8 * (n / 8):=by omega
 rw [e2] at e
 have e3:=(L_mul e).resolve_left L_8
 have lb:=L_big
 have lt:n / 8 < Lq:=by
  simp only [Nat.reducePow] at h3 lb
  omega
 rw [Nat.mod_eq_of_lt lt] at e3
 simp only [Nat.reducePow] at h2
 omega
end Go.Num
namespace Go.Sgn
open Go Go.Eng Go.Num
theorem pi_back {p:P4 E5}{q:P4 N16}{f:P4 Fp}(h:PI p q f):(realFi.bytes p).length=32∧realFi.decR (realFi.bytes p)=0∧∃ q' g,PI (realFi.dec (realFi.bytes p)) q' g∧aff g=aff f:=by
 rw [fi_bytes,fi_decR,fi_dec]
 obtain ⟨a,g,b,c⟩:=PR.back h
 refine ⟨?_,a,_,g,b,c⟩
 rw [bytes_phi p (PR.some h)]
 exact (top_of (bytesE_len _) (bytes_top _) _).2.2
theorem small_iff {p:P4 E5}{q:P4 N16}{f:P4 Fp}(h:PI p q f):realFi.small p=true ↔ mulA dF (aff f) 8=Num.zeroA:=by
 have h2:=pi_add h h
 have h4:=pi_add h2 h2
 have h8:=pi_add h4 h4
 have hf:OnA dF (aff f):=on_aff h.on
 rw [small_eq]
 unfold smallG
 rw [pi_iff h8 pi_zero,pi_aff h4 h4,pi_aff h2 h2,pi_aff h h,aff_zero]
 have e2:mulA dF (aff f) 2=addA dF (aff f) (aff f):=by
  have:=mulA_add crv hf 1 1
  rw [mulA_one] at this
  exact this
 have e4:=mulA_add crv hf 2 2
 have e8:=mulA_add crv hf 4 4
 rw [e2] at e4
 have e4':mulA dF (aff f) 4=addA dF (addA dF (aff f) (aff f)) (addA dF (aff f) (aff f)):=e4
 rw [e4'] at e8
 have e8':mulA dF (aff f) 8=addA dF (addA dF (addA dF (aff f) (aff f)) (addA dF (aff f) (aff f))) (addA dF (addA dF (aff f) (aff f)) (addA dF (aff f) (aff f))):=e8
 rw [e8']
theorem base_ord {n:Nat}(h:mulA dF aB n=Num.zeroA):n % Lq=0:=by
 by_cases h0:n % Lq=0
 ·exact h0
 ·obtain ⟨m,hm⟩:∃ m,n * m % Lq=1:=⟨_,genL.inv (by decide) h0⟩
  have e:=mulA_mul crv on_aB n m
  rw [h,mulA_zero,← order_mod (n * m),hm,mulA_one] at e
  have:=eight_base
  rw [e,mulA_zero] at this
  exact absurd rfl this
theorem base_inj {m n:Nat}(hmn:m≤n) (h:mulA dF aB m=mulA dF aB n):(n - m) % Lq=0:=by
 refine base_ord ?_
 have e:=mulA_add crv on_aB m (n - m)
 rw [show m+(n - m)=n by omega,← h] at e
 have hm:=OnA.mul crv on_aB m
 have hk:=OnA.mul crv on_aB (n - m)
 generalize mulA dF aB m=P at e hm
 generalize mulA dF aB (n - m)=Q at e hk ⊢
 have e2:addA dF (negA P) P=addA dF (negA P) (addA dF P Q):=congrArg (addA dF (negA P)) e
 rw [← addA_assoc crv hm.neg hm hk,addA_comm dF (negA P) P,addA_neg crv hm,zero_addA] at e2
 exact e2.symm
section
variable (hs:List UInt8→List UInt8)
def keyW (s:List UInt8):W4:=realFi.sof (clampV ((hs s).take 32))
def numW (l:List UInt8):W4:=realFi.sof (hs l)
def pubB (s:List UInt8):List UInt8:=realFi.bytes (realFi.mul realFi.base (keyW hs s))
def preB (s:List UInt8):List UInt8:=(hs s).drop 32
def rW (s t:List UInt8):W4:=numW hs (preB hs s++t)
def rB (s t:List UInt8):List UInt8:=realFi.bytes (realFi.mul realFi.base (rW hs s t))
def xW (s t:List UInt8):W4:=realFi.sadd (rW hs s t) (realFi.smul (numW hs (rB hs s t++(pubB hs s++t))) (keyW hs s))
def sigB (s t:List UInt8):List UInt8:=rB hs s t++realFi.sby (xW hs s t)
def verP (p t x:List UInt8):Bool:=cond (isLen x 64 && canonW (x.drop 32)) (cond (decide (realFi.decR p=0) && (decide (realFi.decR (x.take 32)=0) && !realFi.small (realFi.dec p))) (realFi.same (realFi.mul realFi.base (realFi.sof (x.drop 32))) (realFi.add (realFi.dec (x.take 32)) (realFi.mul (realFi.dec p) (numW hs (x.take 32++(p++t)))))) false) false
end
theorem fi_sof:realFi.sof=oV:=by simp only [realFi]
theorem fi_sby:realFi.sby=bytesW:=by simp only [realFi]
theorem okL32 {l:List UInt8}(h:l.length=32):okL l=true:=by unfold okL; rw [h]; rfl
theorem okL64 {l:List UInt8}(h:l.length=64):okL l=true:=by unfold okL; rw [h]; rfl
theorem sof_val {l:List UInt8}(h:okL l=true):(realFi.sof l).val=leNat l % Lq:=by rw [fi_sof,oV_ok h,ofW_val]
theorem sof_lt' {l:List UInt8}(h:okL l=true):(realFi.sof l).val < Lq:=by
 rw [sof_val h]
 exact Nat.mod_lt _ Lq_pos
section
variable {hs:List UInt8→List UInt8}(h64:∀ l,(hs l).length=64)
include h64
theorem num_lt (l:List UInt8):(numW hs l).val < Lq:=sof_lt' (okL64 (h64 l))
theorem key_val (s:List UInt8):(keyW hs s).val < Lq∧(keyW hs s).val ≠ 0:=by
 have hl:((hs s).take 32).length=32:=by rw [List.length_take,h64]; omega
 have hi:=isLen_of hl
 have e:clampV ((hs s).take 32)=clampL ((hs s).take 32):=by unfold clampV; rw [hi]; rfl
 have hc:(clampL ((hs s).take 32)).length=32:=by unfold clampL; rw [List.length_set,List.length_set]; exact hl
 unfold keyW
 rw [e]
 exact ⟨sof_lt' (okL32 hc),by rw [sof_val (okL32 hc)]; exact clamp_L hi⟩
theorem ver_at (s t u:List UInt8):verP hs (pubB hs s) u (sigB hs s t)=decide (mulA dF aB ((rW hs s t).val+(keyW hs s).val * (numW hs (rB hs s t++(pubB hs s++t))).val)=mulA dF aB ((rW hs s t).val+(keyW hs s).val * (numW hs (rB hs s t++(pubB hs s++u))).val)):=by
 obtain ⟨ka,kb⟩:=key_val h64 s
 obtain ⟨qa,fa,pa,ea⟩:=b_mul (keyW hs s)
 obtain ⟨qr,fr,pr,er⟩:=b_mul (rW hs s t)
 obtain ⟨la,da,qa',ga,pa',ea'⟩:=pi_back pa
 obtain ⟨lr,dr,qr',gr,pr',er'⟩:=pi_back pr
 have lr':(rB hs s t).length=32:=lr
 have rlt:(rW hs s t).val < Lq:=num_lt h64 _
 have hxv:(xW hs s t).val=((rW hs s t).val+(keyW hs s).val * (numW hs (rB hs s t++(pubB hs s++t))).val) % Lq:=by
  unfold xW
  rw [fi_sadd,fi_smul]
  generalize numW hs (rB hs s t++(pubB hs s++t))=k
  have hm:(mulW k (keyW hs s)).val < Lq:=by rw [mulW_val]; exact Nat.mod_lt _ Lq_pos
  rw [addW_val _ _ rlt hm,mulW_val,Nat.add_mod_mod,Nat.mul_comm k.val]
 have hx:(xW hs s t).val < Lq:=by
  rw [hxv]
  exact Nat.mod_lt _ Lq_pos
 have e1:(sigB hs s t).take 32=rB hs s t:=by
  unfold sigB
  rw [← lr',List.take_left']
  rfl
 have e2:(sigB hs s t).drop 32=bytesW (xW hs s t):=by
  unfold sigB
  rw [← lr',List.drop_left',fi_sby]
  rfl
 have e3:isLen (sigB hs s t) 64=true:=by
  have:(sigB hs s t).length=64:=by
   unfold sigB
   rw [List.length_append,lr',fi_sby,bytesW_len]
  unfold isLen
  rw [this]
  rfl
 have hsm:realFi.small (realFi.dec (pubB hs s))=false:=by
  cases hq:realFi.small (realFi.dec (pubB hs s)) with
  | false=>rfl
  | true =>
   have h8:=(small_iff pa').1 hq
   rw [ea',ea,← mulA_mul crv on_aB] at h8
   have:=base_ord h8
   rcases L_mul this with h1 | h1
   ·rw [Nat.mod_eq_of_lt ka] at h1; exact absurd h1 kb
   ·exact absurd h1 L_8
 have sx:(realFi.sof (bytesW (xW hs s t))).val=(xW hs s t).val:=by
  rw [sof_val (okL32 (bytesW_len _)),bytesW_val,Nat.mod_eq_of_lt hx]
 unfold verP
 rw [e1,e2,e3,canon_bytes hx]
 have da':realFi.decR (pubB hs s)=0:=da
 have dr':realFi.decR (rB hs s t)=0:=dr
 rw [da',dr',hsm]
 simp only [Bool.and_self,cond_true,decide_true,Bool.not_false]
 obtain ⟨ql,fl,pl,el⟩:=b_mul (realFi.sof (bytesW (xW hs s t)))
 obtain ⟨qk,fk,pk,ek⟩:=pi_mulW pa' (numW hs (rB hs s t++(pubB hs s++u)))
 have ps:=pi_add pr' pk
 have hi:=pi_iff pl ps
 rw [pi_aff pr' pk,el,er',er,ek,ea',ea,sx,hxv,order_mod,← mulA_mul crv on_aB,← mulA_add crv on_aB] at hi
 cases hb:realFi.same (realFi.mul realFi.base (realFi.sof (bytesW (xW hs s t)))) (realFi.add (realFi.dec (rB hs s t)) (realFi.mul (realFi.dec (pubB hs s)) (numW hs (rB hs s t++(pubB hs s++u))))) with
 | true=>exact (decide_eq_true (hi.1 hb)).symm
 | false =>
  refine (decide_eq_false fun e => ?_).symm
  have:=hi.2 e
  rw [show realFi.same (realFi.mul realFi.base (realFi.sof (bytesW (xW hs s t)))) (realFi.add (realFi.dec (realFi.bytes (realFi.mul realFi.base (rW hs s t)))) (realFi.mul (realFi.dec (realFi.bytes (realFi.mul realFi.base (keyW hs s)))) (numW hs (rB hs s t++(pubB hs s++u)))))=false from hb] at this
  cases this
theorem sign_back (s t:List UInt8):verP hs (pubB hs s) t (sigB hs s t)=true:=by
 rw [ver_at h64]
 exact decide_eq_true rfl
theorem sign_other {s t u:List UInt8}(h:(numW hs (rB hs s t++(pubB hs s++t))).val ≠ (numW hs (rB hs s t++(pubB hs s++u))).val):verP hs (pubB hs s) u (sigB hs s t)=false:=by
 rw [ver_at h64]
 refine decide_eq_false fun e=>h ?_
 obtain ⟨ka,kb⟩:=key_val h64 s
 have n1:=num_lt h64 (rB hs s t++(pubB hs s++t))
 have n2:=num_lt h64 (rB hs s t++(pubB hs s++u))
 generalize (numW hs (rB hs s t++(pubB hs s++t))).val=k1 at e n1 ⊢
 generalize (numW hs (rB hs s t++(pubB hs s++u))).val=k2 at e n2 ⊢
 generalize (keyW hs s).val=a at e ka kb
 generalize (rW hs s t).val=r at e
 have key:∀ k1 k2:Nat,k1≤k2→k2 < Lq→mulA dF aB (r+a * k1)=mulA dF aB (r+a * k2)→k1=k2:=fun k1 k2 hle hk e=>by
  have h1:=base_inj (Nat.add_le_add_left (Nat.mul_le_mul_left a hle) r) e
  have h2:r+a * k2 - (r+a * k1)=a * (k2 - k1):=by rw [Nat.mul_sub,Nat.add_sub_add_left]
  rw [h2] at h1
  rcases L_mul h1 with h3 | h3
  ·rw [Nat.mod_eq_of_lt ka] at h3; exact absurd h3 kb
  ·rw [Nat.mod_eq_of_lt (by omega)] at h3
   omega
 rcases Nat.le_total k1 k2 with hle | hle
 ·exact key k1 k2 hle n2 e
 ·exact (key k2 k1 hle n1 e.symm).symm
end
end Go.Sgn
namespace Go.Eng
theorem callOk_same2 {P:Program}{f:FuncId}{args:List AVal}{e e':EffA}(h:CallOk P f args e) (hx:∀ base H v H',e'.app base H=some (v,H')→∃ H2,e.app base H=some (v,H2)∧aget H2=aget H'):CallOk P f args e':=by
 intro σ args' H w base v H' hl hg hH happ hfree
 obtain ⟨H2,h1,h2⟩:=hx base H v H' happ
 have r:=h σ args' H w base v H2 hl hg hH h1 hfree
 rw [h2] at r
 exact r
end Go.Eng
namespace Go.Proofs.YtcjkbimdmcfppaaDoor
open Go Go.Eng Go.Num Sha
structure Fz where
 canon:List UInt8→Bool
 canonQ:List UInt8→Bool
 clamp:List UInt8→List UInt8
 clampE:List UInt8→Int
 clampQ:List UInt8→List UInt8
 nadd:N16→N16→N16
 nmul:N16→N16→N16
 nby:N16→List UInt8
def realFz:Fz:=⟨canonW,canonN,clampV,clampE,clampL,addN,mulN,bytesN⟩
theorem fz_nby:realFz.nby=bytesN:=by simp only [realFz]
def z27 (ζ:Fz):List AVal→Option EffA
 | [a,b]=>match nOf a,nOf b with
  | some x0,some x1=>some (.pure (N16.av (ζ.nadd x0 x1)))
  | _,_=>none
 | _=>none
theorem z27_ok:CSOk Tryd.prog (csNo (z27 realFz)):=csNo_ok _
def z28 (ζ:Fz):List AVal→Option EffA
 | [a,b]=>match nOf a,nOf b with
  | some x0,some x1=>some (.pure (N16.av (ζ.nmul x0 x1)))
  | _,_=>none
 | _=>none
theorem z28_ok:CSOk Tryd.prog (csNo (z28 realFz)):=csNo_ok _
def z29 (ζ:Fz):List AVal→Option EffA
 | [a]=>match nOf a with
  | some x0=>some (.pure (.str (ζ.nby x0)))
  | _=>none
 | _=>none
theorem z29_ok:CSOk Tryd.prog (csOne 10 (z29 realFz)):=csOne_ok fun args e he=>by
 unfold z29 at he
 split at he
 ·split at he
  ·rename_i x0 h0
   cases he
   rw [nOf_eq h0,fz_nby]
   exact callOk_val cs0_ok hmix (run29 x0) rfl rfl
  ·cases he
 ·cases he
def z30 (ζ:Fz):List AVal→Option EffA
 | [.str s]=>some (.pure (.bool (ζ.canon s)))
 | _=>none
theorem z30_ok:CSOk Tryd.prog (csOne 19 (z30 realFz)):=g30_ok
def z36 (ζ:Fz):List AVal→Option EffA
 | [.str s]=>some (.pure (.bool (ζ.canonQ s)))
 | _=>none
theorem z36_ok:CSOk Tryd.prog (csNo (z36 realFz)):=csNo_ok _
def z42 (ζ:Fz):List AVal→Option EffA
 | [.str s]=>some (.pure (.tup [.str (ζ.clamp s),.int .i64 (ζ.clampE s)]))
 | _=>none
theorem z42_ok:CSOk Tryd.prog (csOne 26 (z42 realFz)):=g42_ok
def z43 (ζ:Fz):List AVal→Option (EffA × Bool)
 | [.str s]=>some (.pure (.str (ζ.clampQ s)),isLen s 32)
 | _=>none
theorem z43_ok:CSOk Tryd.prog (csP (psNo (z43 realFz))):=psNo_ok _
def csz (ζ:Fz):CS:=csAlt (csNo (z27 ζ)) (csAlt (csNo (z28 ζ)) (csAlt (csOne 10 (z29 ζ)) (csAlt (csOne 19 (z30 ζ)) (csAlt (csNo (z36 ζ)) (csOne 26 (z42 ζ))))))
theorem csz_ok:CSOk Tryd.prog (csz realFz):=csAlt_ok z27_ok (csAlt_ok z28_ok (csAlt_ok z29_ok (csAlt_ok z30_ok (csAlt_ok z36_ok z42_ok))))
def psx (ω:Fw) (φ:Fi) (ζ:Fz):PS:=psAlt (psNo (z43 ζ)) (psAlt (psW ω) (psnj φ))
def csx (ω:Fw) (φ:Fi) (ζ:Fz):CS:=csAlt (csz ζ) (csAlt (csW ω) (chnj φ))
def nx (ω:Fw) (φ:Fi) (ζ:Fz):CS:=csAlt (csP (psx ω φ ζ)) (csx ω φ ζ)
theorem nx_ps (ω:Fw) (φ:Fi) (ζ:Fz):PSOk (psx ω φ ζ) (nx ω φ ζ):=csP_ok
theorem csAlt_l {P:Program}{a b:CS}(h:CSOk P (csAlt a b)):CSOk P a:=fun f args e he=>h f args e (by unfold csAlt; rw [he])
theorem csW_ok:CSOk Tryd.prog (csW ωr):=csAlt_ok (callOk13 φr nr_ok) (csAlt_ok (callOk15 φr nr_ok) (csAlt_ok (callOkn14 φr nr_ok) (callOkn15 φr nr_ok)))
theorem nx_ok:CSOk Tryd.prog (nx ωr realFi realFz):=csAlt_ok (csP_alt z43_ok (csP_alt (csAlt_l nWr_ok) psnj_ok)) (csAlt_ok csz_ok (csAlt_ok csW_ok chnj_ok))
def tabL (v:(Nat→UInt64)→Option AVal):EffA:=.look 2 (tabK v)
theorem tabK_cut (v:(Nat→UInt64)→Option AVal) (η:Nat→Option AObj):tabK v (cutH 2 η)=tabK v η:=rfl
theorem callOk_tabL {cs:CS}(hcs:CSOk Tryd.prog cs){f:FuncId}{args:List AVal}(hcan:canL Tryd.prog.globals.size [] args=some (args,[])){v:(Nat→UInt64)→Option AVal}
  (h:∀ g x,nU 80 g=g→v g=some x→ltV 0 x=true∧∃ F nn H' fr',run1 Tryd.prog cs nn F f args [(0,.cells true (cellsU 80 g))] 2=some (x,H',fr')):CallOk Tryd.prog f args (tabL v):=
 callOk_same2 (callOk_tabK hcs hcan h) fun base H x H' ha=>by
  unfold tabL at ha
  simp only [EffA.app,tabK_cut] at ha
  cases hk:tabK v (aget H) with
  | none=>rw [hk] at ha; cases ha
  | some y =>
   rw [hk] at ha
   cases ha
   refine ⟨H,?_,rfl⟩
   unfold tabE
   simp only [EffA.app,hk]
   rfl
def nbK (n:Nat) (v:(Nat→UInt64)→List AVal→Option AVal) (η:Nat→Option AObj):Option AVal:=match η 0,η 1,η n with
 | some (.cells true g),none,some (.cells false c)=>cond (shG g) (v (gU g) c) none
 | _,_,_=>none
def nbE (n:Nat) (v:(Nat→UInt64)→List AVal→Option AVal):EffA:=.also 2 n (nbK n v)
theorem nbK_also (n:Nat) (v:(Nat→UInt64)→List AVal→Option AVal) (η:Nat→Option AObj):nbK n v (alsoH 2 n η)=nbK n v η:=by
 have e:alsoH 2 n η n=η n:=by unfold alsoH; rw [Nat.beq_refl,Bool.or_true]; rfl
 unfold nbK
 rw [e]
 rfl
theorem callOk_nb {cs:CS}(hcs:CSOk Tryd.prog cs){f:FuncId}{args cargs:List AVal}{n:Nat}(hcan:canL 2 [] args=some (cargs,[n])){v:(Nat→UInt64)→List AVal→Option AVal}
  (h:∀ g c x,nU 80 g=g→v g c=some x→ltL 0 c=true∧ltV 0 x=true∧∃ F nn H' fr',run1 Tryd.prog cs nn F f cargs [(0,.cells true (cellsU 80 g)),(2,.cells false c)] 3=some (x,H',fr')∧aget H' 2=some (.cells false c)):CallOk Tryd.prog f args (nbE n v):=by
 have e1:Tryd.prog.globals.size=2:=Sha.gl
 have h0:CallOk Tryd.prog f args (oneE n fun η c=>match η 0,η 1 with
   | some (.cells true g),none=>cond (shG g) (match v (gU g) c with | some x=>some (x,c) | none=>none) none
   | _,_=>none):=by
  refine callOk_one hcs hmix (by rw [e1]; exact hcan) fun η c w c' hk => ?_
  split at hk
  ·rename_i g0 h0 h00
   cases hb:shG g0 <;> rw [hb] at hk <;> simp only [cond_true,cond_false] at hk
   ·cases hk
   ·split at hk
    ·rename_i x hx
     cases hk
     have eg:=shG_ok hb
     have en:nU 80 (gU g0)=gU g0:=by
      have:gU g0=gU (cellsU 80 (gU g0)):=congrArg gU eg
      rw [gU_cellsU] at this
      exact this.symm
     obtain ⟨a,b,F,nn,H',fr',h1,h2⟩:=h (gU g0) c w en hx
     refine ⟨a,a,b,F,nn,H',fr',?_,by rw [e1]; exact h2⟩
     rw [e1]
     have hg:globA η 2 0=[(0,.cells true (cellsU 80 (gU g0)))]:=by
      have:ltL 0 g0=true:=by rw [eg]; exact ltL_U ..
      simp only [globA,h0,h00,this,cond_true]
      rw [← eg]
     rw [hg]
     exact h1
    ·cases hk
  ·cases hk
 refine callOk_same2 h0 fun base H x H' ha => ?_
 unfold nbE at ha
 simp only [EffA.app,nbK_also] at ha
 cases hk:nbK n v (aget H) with
 | none=>rw [hk] at ha; cases ha
 | some y =>
  rw [hk] at ha
  cases ha
  unfold nbK at hk
  split at hk
  ·rename_i g c h1 h2 h3
   cases hb:shG g <;> rw [hb] at hk <;> simp only [cond_true,cond_false] at hk
   ·cases hk
   ·refine ⟨aset H n (.cells false c),?_,?_⟩
    ·unfold oneE
     simp only [EffA.app,h1,h2,h3,hb,hk,cond_true,appU]
    ·funext m
     rw [aget_aset]
     split
     ·rename_i e; subst e; rw [h3]
     ·rfl
  ·cases hk
end Go.Proofs.YtcjkbimdmcfppaaDoor
namespace Go.Proofs.YtcjkbimdmcfppaaDoor
open Go Go.Eng Go.Num Sha
def ansH (x:Option ((AVal × HL × Nat) × List Bool)):Option (AVal × Option AObj × List Bool):=
 match x with
 | some ((v,H,_),ob)=>some (v,aget H 2,ob)
 | none=>none
def gg (g:Nat→UInt64):Nat→UInt64:=gU (cellsU 80 g)
def st1 (ω:Fw) (g:Nat→UInt64) (s:St) (a:List UInt8):St:=ω.add (gg g) (hst (stC s)) a
def nb2 (ω:Fw) (φ:Fi) (g:Nat→UInt64) (a b:List UInt8):W4:=φ.sof (ω.sum (gg g) (hst (stC (st1 ω g (st1 ω g ω.new a) b))))
def nb3 (ω:Fw) (φ:Fi) (g:Nat→UInt64) (a b c:List UInt8):W4:=φ.sof (ω.sum (gg g) (hst (stC (st1 ω g (st1 ω g (st1 ω g ω.new a) b) c))))
theorem ansH_run {ps:PS}{cs:CS}(hps:PSOk ps cs){sy:List Nat}{os:List Bool}{vs:List AVal}{nn F:Nat}{f:FuncId}{args:List AVal}{H:HL}{fr:Nat}{v:AVal}{o:Option AObj}{ob:List Bool}(h:ansH (run1O Tryd.prog ps cs sy os vs nn F f args H fr)=some (v,o,ob)) (ha:allT ob=true):∃ H' fr',run1 Tryd.prog cs nn F f args H fr=some (v,H',fr')∧aget H' 2=o:=by
 unfold ansH at h
 split at h
 ·rename_i v' H' fr' ob' hr
  simp only [Option.some.injEq,Prod.mk.injEq] at h
  obtain ⟨rfl,rfl,rfl⟩:=h
  exact ⟨H',fr',run1O_ok hps hr ha,rfl⟩
 ·cases h
theorem gg_of {g:Nat→UInt64}(h:nU 80 g=g):gg g=g:=by unfold gg; rw [gU_cellsU,h]
theorem num2 (ω:Fw) (φ:Fi) (ζ:Fz) (g:Nat→UInt64) (a b:List UInt8):ansH (run1O Tryd.prog (psx ω φ ζ) (nx ω φ ζ) [17] [] [] (mask 12) 200 12 [.slice 2 0 2 1] [(0,.cells true (cellsU 80 g)),(2,.cells false [.str a,.str b])] 3)=some ((nb2 ω φ g a b).av,some (.cells false [.str a,.str b]),[Nat.ble b.length 100000000,Nat.ble a.length 100000000]):=by kernel_rfl
theorem num3 (ω:Fw) (φ:Fi) (ζ:Fz) (g:Nat→UInt64) (a b c:List UInt8):ansH (run1O Tryd.prog (psx ω φ ζ) (nx ω φ ζ) [17] [] [] (mask 12) 200 12 [.slice 2 0 3 1] [(0,.cells true (cellsU 80 g)),(2,.cells false [.str a,.str b,.str c])] 3)=some ((nb3 ω φ g a b c).av,some (.cells false [.str a,.str b,.str c]),[Nat.ble c.length 100000000,Nat.ble b.length 100000000,Nat.ble a.length 100000000]):=by kernel_rfl
def nbV2 (v:(Nat→UInt64)→List UInt8→List UInt8→W4) (g:Nat→UInt64):List AVal→Option AVal
 | [.str a,.str b]=>cond (Nat.ble a.length 100000000 && Nat.ble b.length 100000000) (some (v g a b).av) none
 | _=>none
def nbV3 (v:(Nat→UInt64)→List UInt8→List UInt8→List UInt8→W4) (g:Nat→UInt64):List AVal→Option AVal
 | [.str a,.str b,.str c]=>cond (Nat.ble a.length 100000000 && (Nat.ble b.length 100000000 && Nat.ble c.length 100000000)) (some (v g a b c).av) none
 | _=>none
structure Fs where
 n2:(Nat→UInt64)→List UInt8→List UInt8→W4
 n3:(Nat→UInt64)→List UInt8→List UInt8→List UInt8→W4
 key:(Nat→UInt64)→List UInt8→W4
 pre:(Nat→UInt64)→List UInt8→List UInt8
 pub:(Nat→UInt64)→List UInt8→List UInt8
 kq:List UInt8→List UInt8
 pq:List UInt8→List UInt8
def y19 (σ:Fs):List AVal→Option EffA
 | [.slice n 0 2 1]=>some (nbE n (nbV2 σ.n2))
 | [.slice n 0 3 1]=>some (nbE n (nbV3 σ.n3))
 | _=>none
def dr32 (l:List UInt8):List UInt8:=List.drop (Int.toNat 32) (List.take (Int.toNat (l.length:Int)) l)
def ta32 (l:List UInt8):List UInt8:=List.drop (Int.toNat 0) (List.take (Int.toNat 32) l)
theorem dr32_eq (l:List UInt8):dr32 l=l.drop 32:=by
 unfold dr32
 rw [show Int.toNat (l.length:Int)=l.length from rfl,List.take_length]
 rfl
theorem ta32_eq (l:List UInt8):ta32 l=l.take 32:=rfl
def keyO (ω:Fw) (φ:Fi) (ζ:Fz) (g:Nat→UInt64) (l:List UInt8):W4:=φ.sof (ζ.clamp (ta32 (ω.of (gg g) l)))
def preO (ω:Fw) (g:Nat→UInt64) (l:List UInt8):List UInt8:=dr32 (ω.of (gg g) l)
def pubO (ω:Fw) (φ:Fi) (ζ:Fz) (g:Nat→UInt64) (l:List UInt8):List UInt8:=φ.bytes (φ.mul φ.base (keyO ω φ ζ g l))
def keyAv (k:W4) (p q:List UInt8):AVal:=.agg [.u64 k.x0,.u64 k.x1,.u64 k.x2,.u64 k.x3,.str p,.str q]
def ofA (l:List UInt8) (k:W4) (p q:List UInt8):AVal:=.tup [keyAv ⟨cond (isLen l 32) k.x0 0,cond (isLen l 32) k.x1 0,cond (isLen l 32) k.x2 0,cond (isLen l 32) k.x3 0⟩ (cond (isLen l 32) p []) (cond (isLen l 32) q []),.int .i64 (cond (isLen l 32) 0 2)]
def y13 (σ:Fs):List AVal→Option (EffA × Bool)
 | [.str l]=>some (tabL fun g=>some (ofA l (σ.key g l) (σ.pre g l) (σ.pub g l)),Nat.ble l.length 100000000)
 | _=>none
def y14 (σ:Fs):List AVal→Option (EffA × Bool)
 | [.str l]=>some (.pure (.tup [.str (σ.kq l),.str (σ.pq l)]),Nat.ble l.length 100000000)
 | _=>none
theorem of1 (ω:Fw) (φ:Fi) (ζ:Fz) (g:Nat→UInt64) (a:List UInt8):ansO (run1O Tryd.prog (psx ω φ ζ) (nx ω φ ζ) [9,12,15,16,21,26] [true] [] (mask 11) 200 11 [.str a] [(0,.cells true (cellsU 80 g))] 2)=some (.tup [keyAv ⟨0,0,0,0⟩ [] [],.int .i64 2],[(((List.length a:Nat):Int) != 32)]):=by kernel_rfl
theorem of2 (ω:Fw) (φ:Fi) (ζ:Fz) (g:Nat→UInt64) (a:List UInt8):ansO (run1O Tryd.prog (psx ω φ ζ) (nx ω φ ζ) [9,12,15,16,21,26] [false] [] (mask 11) 200 11 [.str a] [(0,.cells true (cellsU 80 g))] 2)=some (.tup [keyAv (keyO ω φ ζ g a) (preO ω g a) (pubO ω φ ζ g a),.int .i64 0],[((decide ((0:Int)≤32)) && ((decide (32≤((List.length (ω.of (gU (cellsU 80 g)) a):Nat):Int))) && (decide (((List.length (ω.of (gU (cellsU 80 g)) a):Nat):Int)≤((List.length (ω.of (gU (cellsU 80 g)) a):Nat):Int))))),((decide ((0:Int)≤0)) && ((decide ((0:Int)≤32)) && (decide (32≤((List.length (ω.of (gU (cellsU 80 g)) a):Nat):Int))))),(Nat.ble (List.length a) 100000000),!(((List.length a:Nat):Int) != 32)]):=by kernel_rfl
def sgOf (ω:Fw) (φ:Fi) (ζ:Fz):Fs:=⟨nb2 ω φ,nb3 ω φ,keyO ω φ ζ,preO ω,pubO ω φ ζ,fun l=>ζ.clampQ (ta32 (ω.doc l)),fun l=>dr32 (ω.doc l)⟩
theorem y19_ok {ω:Fw}{φ:Fi}{ζ:Fz}(hn:CSOk Tryd.prog (nx ω φ ζ)):CSOk Tryd.prog (csOne 12 (y19 (sgOf ω φ ζ))):=csOne_ok fun args e he=>by
 unfold y19 at he
 split at he
 ·cases he
  refine callOk_nb hn (cargs:=[.slice 2 0 2 1]) rfl fun g c x hg hx => ?_
  unfold nbV2 at hx
  split at hx
  ·rename_i a b
   cases hb:(Nat.ble a.length 100000000 && Nat.ble b.length 100000000) <;> rw [hb] at hx
   ·cases hx
   ·cases hx
    rw [Bool.and_eq_true] at hb
    obtain ⟨H',fr',h1,h2⟩:=ansH_run (nx_ps ω φ ζ) (num2 ω φ ζ g a b) (by simp only [allT,hb.1,hb.2,cond_true])
    exact ⟨rfl,rfl,_,_,H',fr',h1,h2⟩
  ·cases hx
 ·cases he
  refine callOk_nb hn (cargs:=[.slice 2 0 3 1]) rfl fun g c x hg hx => ?_
  unfold nbV3 at hx
  split at hx
  ·rename_i a b c
   cases hb:(Nat.ble a.length 100000000 && (Nat.ble b.length 100000000 && Nat.ble c.length 100000000)) <;> rw [hb] at hx
   ·cases hx
   ·cases hx
    rw [Bool.and_eq_true,Bool.and_eq_true] at hb
    obtain ⟨H',fr',h1,h2⟩:=ansH_run (nx_ps ω φ ζ) (num3 ω φ ζ g a b c) (by simp only [allT,hb.1,hb.2.1,hb.2.2,cond_true])
    exact ⟨rfl,rfl,_,_,H',fr',h1,h2⟩
  ·cases hx
 ·cases he
theorem isLen32_iff (l:List UInt8):isLen l 32=decide ((l.length:Int)=32):=by
 unfold isLen
 rcases Nat.decEq l.length 32 with h | h
 ·rw [decide_eq_false (by omega)]
  cases hb:Nat.beq l.length 32 with
  | false=>rfl
  | true=>exact absurd (Nat.eq_of_beq_eq_true hb) h
 ·rw [h]; rfl
theorem y13_ok {ω:Fw}{φ:Fi}{ζ:Fz}(hn:CSOk Tryd.prog (nx ω φ ζ)) (h64:∀ g l,(ω.of g l).length=64):CSOk Tryd.prog (csP (psOne 11 (y13 (sgOf ω φ ζ)))):=psOne_ok fun args e h=>by
 unfold y13 at h
 split at h
 ·rename_i l
  simp only [Option.some.injEq,Prod.mk.injEq] at h
  obtain ⟨rfl,hc⟩:=h
  refine callOk_tabL hn rfl fun g x hg hx => ?_
  cases hx
  unfold ofA
  have hl:=isLen32_iff l
  cases hi:isLen l 32 with
  | false =>
   rw [hi] at hl
   obtain ⟨H',fr',hr⟩:=run_of (ansO_run (nx_ps ω φ ζ) (of1 ω φ ζ g l) (by
    have:(l.length:Int) ≠ 32:=of_decide_eq_false hl.symm
    simp [allT]; omega))
   exact ⟨rfl,_,_,H',fr',hr⟩
  | true =>
   rw [hi] at hl
   have hl':(l.length:Int)=32:=of_decide_eq_true hl.symm
   have h6:=h64 (gU (cellsU 80 g)) l
   obtain ⟨H',fr',hr⟩:=run_of (ansO_run (nx_ps ω φ ζ) (of2 ω φ ζ g l) (by
    rw [h6,hc]
    simp [allT]; omega))
   exact ⟨rfl,_,_,H',fr',hr⟩
 ·cases h
theorem y14_ok {ω:Fw}{φ:Fi}{ζ:Fz}(hn:CSOk Tryd.prog (nx ω φ ζ)) (h64:∀ l,(ω.doc l).length=64):CSOk Tryd.prog (csP (psNo (y14 (sgOf ω φ ζ)))):=psNo_ok _
end Go.Proofs.YtcjkbimdmcfppaaDoor
namespace Go.Proofs.YtcjkbimdmcfppaaDoor
open Go Go.Eng Go.Num Sha
structure Ft where
 pub:(Nat→UInt64)→List UInt8→List UInt8
 pubQ:List UInt8→List UInt8
 sgn:(Nat→UInt64)→List UInt8→List UInt8→List UInt8
 sgnQ:List UInt8→List UInt8→List UInt8
 ver:(Nat→UInt64)→List UInt8→List UInt8→List UInt8→Bool
 verQ:List UInt8→List UInt8→List UInt8→Bool
def resA2 (l x:List UInt8):AVal:=.tup [.str (cond (isLen l 32) x []),.int .i64 (cond (isLen l 32) 0 2)]
def y7 (τ:Ft):List AVal→Option (EffA × Bool)
 | [.str l]=>some (tabL fun g=>some (resA2 l (τ.pub g l)),Nat.ble l.length 100000000)
 | _=>none
def y8 (τ:Ft):List AVal→Option (EffA × Bool)
 | [.str l]=>some (.pure (resA2 l (τ.pubQ l)),Nat.ble l.length 100000000)
 | _=>none
def y9 (τ:Ft):List AVal→Option (EffA × Bool)
 | [.str l,.str s]=>some (tabL fun g=>some (resA2 l (τ.sgn g l s)),Nat.ble l.length 100000000 && Nat.ble s.length 10000000)
 | _=>none
def y10 (τ:Ft):List AVal→Option (EffA × Bool)
 | [.str l,.str s]=>some (.pure (resA2 l (τ.sgnQ l s)),Nat.ble l.length 100000000 && Nat.ble s.length 10000000)
 | _=>none
def y11 (τ:Ft):List AVal→Option (EffA × Bool)
 | [.str l,.str s,.str x]=>some (tabL fun g=>some (.bool (τ.ver g l s x)),Nat.ble l.length 10000000 && Nat.ble s.length 10000000)
 | _=>none
def y12 (τ:Ft):List AVal→Option (EffA × Bool)
 | [.str l,.str s,.str x]=>some (.pure (.bool (τ.verQ l s x)),Nat.ble l.length 10000000 && Nat.ble s.length 10000000)
 | _=>none
def psy (σ:Fs) (ω:Fw) (φ:Fi) (ζ:Fz):PS:=psAlt (psOne 11 (y13 σ)) (psAlt (psNo (y14 σ)) (psx ω φ ζ))
def csy (σ:Fs) (ω:Fw) (φ:Fi) (ζ:Fz):CS:=csAlt (csOne 12 (y19 σ)) (csx ω φ ζ)
def ny (σ:Fs) (ω:Fw) (φ:Fi) (ζ:Fz):CS:=csAlt (csP (psy σ ω φ ζ)) (csy σ ω φ ζ)
def ps8 (τ:Ft) (σ:Fs) (ω:Fw) (φ:Fi) (ζ:Fz):PS:=psAlt (psNo (y8 τ)) (psy σ ω φ ζ)
def n8y (τ:Ft) (σ:Fs) (ω:Fw) (φ:Fi) (ζ:Fz):CS:=csAlt (csP (ps8 τ σ ω φ ζ)) (csy σ ω φ ζ)
theorem n8y_ps (τ:Ft) (σ:Fs) (ω:Fw) (φ:Fi) (ζ:Fz):PSOk (ps8 τ σ ω φ ζ) (n8y τ σ ω φ ζ):=csP_ok
end Go.Proofs.YtcjkbimdmcfppaaDoor
