/- Texts Dg6, Dg7, Dg8, DSp1, Dg9, Dg10, Dg11, Dg12, Dg13, Sg14: what they show that this claim uses. -/
import Derived.Test.YtcjkbimdmcfppaaDoorS8
set_option maxRecDepth 100000
set_option maxHeartbeats 1000000
set_option linter.unusedVariables false
set_option linter.unusedSimpArgs false
namespace Go.Proofs.YtcjkbimdmcfppaaDoor
open Go Go.Eng Go.Num Sha
def kc (a:List UInt8) (k:W4):W4:=⟨cond (isLen a 32) k.x0 0,cond (isLen a 32) k.x1 0,cond (isLen a 32) k.x2 0,cond (isLen a 32) k.x3 0⟩
def sc (a p:List UInt8):List UInt8:=cond (isLen a 32) p []
def kCells (k:W4) (p q:List UInt8):List AVal:=[.u64 k.x0,.u64 k.x1,.u64 k.x2,.u64 k.x3,.str p,.str q]
def H9a (σ:Fs) (g:Nat→UInt64) (a b:List UInt8):HL:=[(0,.cells true (cellsU 80 g)),(58,.cells false (kCells (kc a (σ.key (gg g) a)) (sc a (σ.pre (gg g) a)) (sc a (σ.pub (gg g) a)))),(122,.cells false [.str (sc a (σ.pre (gg g) a)),.str b])]
def H9b (σ:Fs) (φ:Fi) (g:Nat→UInt64) (a b:List UInt8) (w:W4):HL:=H9a σ g a b++[(138,.cells false (cellsA w.av)),(242,.cells false [.str (φ.bytes (φ.mul φ.base w)),.str (sc a (σ.pub (gg g) a)),.str b])]
def H11 (φ:Fi) (g:Nat→UInt64) (a b c:List UInt8):HL:=[(0,.cells true (cellsU 80 g)),(122,.cells false (cellsA (pAv (φ.dec a)))),(194,.cells false (cellsA (pAv (φ.dec (ta32 c))))),(346,.cells false (cellsA (φ.sof (dr32 c)).av)),(442,.cells false [.str (ta32 c),.str a,.str b])]
section
variable (τ:Ft) (σ:Fs) (ω:Fw) (φ:Fi) (ζ:Fz) (g:Nat→UInt64) (a b c:List UInt8) (w w2:W4)
theorem r7:ansO (run1O Tryd.prog (ps8 τ σ ω φ ζ) (n8y τ σ ω φ ζ) [8] [] [] (mask 5) 200 5 [.str a] [(0,.cells true (cellsU 80 g))] 2)=some (resA2 a (σ.pub (gg g) a),[(Nat.ble (List.length a) 100000000)]):=by kernel_rfl
theorem r9t:ansO (run1O Tryd.prog (ps8 τ σ ω φ ζ) (n8y τ σ ω φ ζ) [12,16,40,300022,300034] [true] [w.av,.tup [],w2.av,.tup []] (mask 6) 200 6 [.str a,.str b] [(0,.cells true (cellsU 80 g))] 2)=some ((AVal.tup [(AVal.str []),(AVal.int IntKind.i64 (bif (isLen a 32) then 0 else 2))]),[((cond (isLen a 32) (0:Int) 2) != 0),(Nat.ble (List.length a) 100000000)]):=by kernel_rfl
theorem r9f:ansO (run1O Tryd.prog (ps8 τ σ ω φ ζ) (n8y τ σ ω φ ζ) [12,16,40,300022,300034] [false] [w.av,.tup [],w2.av,.tup []] (mask 6) 200 6 [.str a,.str b] [(0,.cells true (cellsU 80 g))] 2)=some (.tup [.str (φ.bytes (φ.mul φ.base w)++φ.sby (φ.sadd w (φ.smul w2 (kc a (σ.key (gg g) a))))),.int .i64 0],[(Nat.ble ((List.length (φ.bytes (φ.mul φ.base w)))+(List.length (φ.sby (φ.sadd w (φ.smul w2 { x0:=(bif (isLen a 32) then (σ.key (gU (cellsU 80 g)) a).x0 else 0),x1:=(bif (isLen a 32) then (σ.key (gU (cellsU 80 g)) a).x1 else 0),x2:=(bif (isLen a 32) then (σ.key (gU (cellsU 80 g)) a).x2 else 0),x3:=(bif (isLen a 32) then (σ.key (gU (cellsU 80 g)) a).x3 else 0) }))))) 9223372036854775807),decP ((nbE 242 (nbV3 σ.n3)).app 250 (H9b σ φ g a b w)=some (w2.av,H9b σ φ g a b w)),decP ((nbE 122 (nbV2 σ.n2)).app 130 (H9a σ g a b)=some (w.av,H9a σ g a b)),!((cond (isLen a 32) (0:Int) 2) != 0),(Nat.ble (List.length a) 100000000)]):=by kernel_rfl
theorem r11a:ansO (run1O Tryd.prog (ps8 τ σ ω φ ζ) (n8y τ σ ω φ ζ) [15,18,19,20,34,37,41,29,45,55,300059] [true] [w.av,.tup []] (mask 9) 200 9 [.str a,.str b,.str c] [(0,.cells true (cellsU 80 g))] 2)=some ((AVal.bool false),[(((List.length c:Nat):Int) != 64)]):=by kernel_rfl
theorem r11b:ansO (run1O Tryd.prog (ps8 τ σ ω φ ζ) (n8y τ σ ω φ ζ) [15,18,19,20,34,37,41,29,45,55,300059] [false,false] [w.av,.tup []] (mask 9) 200 9 [.str a,.str b,.str c] [(0,.cells true (cellsU 80 g))] 2)=some ((AVal.bool false),[!(ζ.canon (dr32 c)),((decide ((0:Int)≤32)) && ((decide (32≤((List.length c:Nat):Int))) && (decide (((List.length c:Nat):Int)≤((List.length c:Nat):Int))))),!(((List.length c:Nat):Int) != 64)]):=by kernel_rfl
theorem r11d:ansO (run1O Tryd.prog (ps8 τ σ ω φ ζ) (n8y τ σ ω φ ζ) [15,18,19,20,34,37,41,29,45,55,300059] [false,true,false,true] [w.av,.tup []] (mask 9) 200 9 [.str a,.str b,.str c] [(0,.cells true (cellsU 80 g))] 2)=some ((AVal.bool false),[((φ.decR a) != 0),((decide ((0:Int)≤0)) && ((decide ((0:Int)≤32)) && (decide (32≤((List.length c:Nat):Int))))),true,(ζ.canon (dr32 c)),((decide ((0:Int)≤32)) && ((decide (32≤((List.length c:Nat):Int))) && (decide (((List.length c:Nat):Int)≤((List.length c:Nat):Int))))),!(((List.length c:Nat):Int) != 64)]):=by kernel_rfl
theorem r11e:ansO (run1O Tryd.prog (ps8 τ σ ω φ ζ) (n8y τ σ ω φ ζ) [15,18,19,20,34,37,41,29,45,55,300059] [false,true,false,false,true] [w.av,.tup []] (mask 9) 200 9 [.str a,.str b,.str c] [(0,.cells true (cellsU 80 g))] 2)=some ((AVal.bool false),[((φ.decR (ta32 c)) != 0),!((φ.decR a) != 0),((decide ((0:Int)≤0)) && ((decide ((0:Int)≤32)) && (decide (32≤((List.length c:Nat):Int))))),true,(ζ.canon (dr32 c)),((decide ((0:Int)≤32)) && ((decide (32≤((List.length c:Nat):Int))) && (decide (((List.length c:Nat):Int)≤((List.length c:Nat):Int))))),!(((List.length c:Nat):Int) != 64)]):=by kernel_rfl
theorem r11f:ansO (run1O Tryd.prog (ps8 τ σ ω φ ζ) (n8y τ σ ω φ ζ) [15,18,19,20,34,37,41,29,45,55,300059] [false,true,false,false,false,true] [w.av,.tup []] (mask 9) 200 9 [.str a,.str b,.str c] [(0,.cells true (cellsU 80 g))] 2)=some ((AVal.bool false),[(φ.small (φ.dec a)),!((φ.decR (ta32 c)) != 0),!((φ.decR a) != 0),((decide ((0:Int)≤0)) && ((decide ((0:Int)≤32)) && (decide (32≤((List.length c:Nat):Int))))),true,(ζ.canon (dr32 c)),((decide ((0:Int)≤32)) && ((decide (32≤((List.length c:Nat):Int))) && (decide (((List.length c:Nat):Int)≤((List.length c:Nat):Int))))),!(((List.length c:Nat):Int) != 64)]):=by kernel_rfl
theorem r11g:ansO (run1O Tryd.prog (ps8 τ σ ω φ ζ) (n8y τ σ ω φ ζ) [15,18,19,20,34,37,41,29,45,55,300059] [false,true,false,false,false,false] [w.av,.tup []] (mask 9) 200 9 [.str a,.str b,.str c] [(0,.cells true (cellsU 80 g))] 2)=some ((AVal.bool (φ.same (φ.mul φ.base (φ.sof (dr32 c))) (φ.add (φ.dec (ta32 c)) (φ.mul (φ.dec a) w)))),[decP ((nbE 442 (nbV3 σ.n3)).app 450 (H11 φ g a b c)=some (w.av,H11 φ g a b c)),((decide ((0:Int)≤0)) && ((decide ((0:Int)≤32)) && (decide (32≤((List.length c:Nat):Int))))),((decide ((0:Int)≤32)) && ((decide (32≤((List.length c:Nat):Int))) && (decide (((List.length c:Nat):Int)≤((List.length c:Nat):Int))))),!(φ.small (φ.dec a)),!((φ.decR (ta32 c)) != 0),!((φ.decR a) != 0),((decide ((0:Int)≤0)) && ((decide ((0:Int)≤32)) && (decide (32≤((List.length c:Nat):Int))))),true,(ζ.canon (dr32 c)),((decide ((0:Int)≤32)) && ((decide (32≤((List.length c:Nat):Int))) && (decide (((List.length c:Nat):Int)≤((List.length c:Nat):Int))))),!(((List.length c:Nat):Int) != 64)]):=by kernel_rfl
end
end Go.Proofs.YtcjkbimdmcfppaaDoor
namespace Go.Proofs.YtcjkbimdmcfppaaDoor
open Go Go.Eng Go.Num Sha
section
variable (σ:Fs) (ω:Fw) (φ:Fi) (ζ:Fz) (g:Nat→UInt64) (a b c:List UInt8)
def sw:W4:=σ.n2 (gg g) (σ.pre (gg g) a) b
def sr:List UInt8:=φ.bytes (φ.mul φ.base (sw σ g a b))
def sgnT:List UInt8:=sr σ φ g a b++φ.sby (φ.sadd (sw σ g a b) (φ.smul (σ.n3 (gg g) (sr σ φ g a b) (σ.pub (gg g) a) b) (σ.key (gg g) a)))
def pubQT:List UInt8:=φ.bytesQ (φ.mulQ φ.baseQ (φ.nof (σ.kq a)))
def qr:List UInt8:=φ.bytesQ (φ.mulQ φ.baseQ (φ.nof (ω.doc (σ.pq a++b))))
def sgnQT:List UInt8:=qr σ ω φ a b++ζ.nby (ζ.nadd (φ.nof (ω.doc (σ.pq a++b))) (ζ.nmul (φ.nof (ω.doc ((qr σ ω φ a b++pubQT σ φ a)++b))) (φ.nof (σ.kq a))))
def verT:Bool:=cond (isLen c 64 && ζ.canon (dr32 c)) (cond (decide (φ.decR a=0) && (decide (φ.decR (ta32 c)=0) && !φ.small (φ.dec a))) (φ.same (φ.mul φ.base (φ.sof (dr32 c))) (φ.add (φ.dec (ta32 c)) (φ.mul (φ.dec a) (σ.n3 (gg g) (ta32 c) a b)))) false) false
def verQT:Bool:=cond (isLen a 32 && (isLen c 64 && ζ.canonQ (dr32 c))) (cond (decide (φ.decRQ a=0) && (decide (φ.decRQ (ta32 c)=0) && !φ.smallQ (φ.decQ a))) (φ.sameQ (φ.mulQ φ.baseQ (φ.nof (dr32 c))) (φ.addQ (φ.decQ (ta32 c)) (φ.mulQ (φ.decQ a) (φ.nof (ω.doc ((ta32 c++a)++b)))))) false) false
def ftOf:Ft:=⟨fun g a=>σ.pub (gg g) a,pubQT σ φ,sgnT σ φ,sgnQT σ ω φ ζ,verT σ φ ζ,verQT ω φ ζ⟩
structure Hyp:Prop where
 hn:CSOk Tryd.prog (ny σ ω φ ζ)
 pre32:∀ g a,(σ.pre g a).length=32
 pub32:∀ g a,(σ.pub g a).length=32
 by32:∀ w,(φ.bytes (φ.mul φ.base w)).length=32
 sby32:∀ w,(φ.sby w).length=32
 kq32:∀ a,(σ.kq a).length=32
 pq32:∀ a,(σ.pq a).length=32
 doc64:∀ l,(ω.doc l).length=64
 okb:φ.okQ φ.baseQ=true
 okm:∀ l,φ.okQ (φ.mulQ φ.baseQ (φ.nof l))=true
 byq32:∀ l,(φ.bytesQ (φ.mulQ φ.baseQ (φ.nof l))).length=32
 nby32:∀ n,(ζ.nby n).length=32
 okd:∀ a,φ.decRQ a=0→φ.okQ (φ.decQ a)=true
 okdm:∀ a l,φ.decRQ a=0→φ.okQ (φ.mulQ (φ.decQ a) (φ.nof l))=true
 okda:∀ a b l,φ.decRQ a=0→φ.decRQ b=0→φ.okQ (φ.addQ (φ.decQ b) (φ.mulQ (φ.decQ a) (φ.nof l)))=true
end
theorem nb2_at {v:(Nat→UInt64)→List UInt8→List UInt8→W4}{n base:Nat}{H:HL}{g:Nat→UInt64}{a b:List UInt8}(h0:aget H 0=some (.cells true (cellsU 80 g))) (h1:aget H 1=none) (hn:aget H n=some (.cells false [.str a,.str b])) (ha:Nat.ble a.length 100000000=true) (hb:Nat.ble b.length 100000000=true):(nbE n (nbV2 v)).app base H=some ((v (gg g) a b).av,H):=by
 unfold nbE
 simp only [EffA.app,nbK_also]
 have hs:shG (cellsU 80 g)=true:=by kernel_rfl
 have:nbK n (nbV2 v) (aget H)=some (v (gg g) a b).av:=by
  unfold nbK
  rw [h0,h1,hn]
  simp only [hs,cond_true]
  unfold nbV2
  simp only [ha,hb,Bool.and_self,cond_true]
  rfl
 rw [this]
theorem nb3_at {v:(Nat→UInt64)→List UInt8→List UInt8→List UInt8→W4}{n base:Nat}{H:HL}{g:Nat→UInt64}{a b c:List UInt8}(h0:aget H 0=some (.cells true (cellsU 80 g))) (h1:aget H 1=none) (hn:aget H n=some (.cells false [.str a,.str b,.str c])) (ha:Nat.ble a.length 100000000=true) (hb:Nat.ble b.length 100000000=true) (hc:Nat.ble c.length 100000000=true):(nbE n (nbV3 v)).app base H=some ((v (gg g) a b c).av,H):=by
 unfold nbE
 simp only [EffA.app,nbK_also]
 have hs:shG (cellsU 80 g)=true:=by kernel_rfl
 have:nbK n (nbV3 v) (aget H)=some (v (gg g) a b c).av:=by
  unfold nbK
  rw [h0,h1,hn]
  simp only [hs,cond_true]
  unfold nbV3
  simp only [ha,hb,hc,Bool.and_self,cond_true]
  rfl
 rw [this]
theorem bneInt {x y:Int}:(x != y) = !decide (x=y):=by
 by_cases h:x=y
 ·subst h; simp
 ·simp [h]
theorem ble_of {a b:Nat}(h:a≤b):Nat.ble a b=true:=Nat.ble_eq_true_of_le h
theorem isLen64_iff (l:List UInt8):isLen l 64=decide ((l.length:Int)=64):=by
 unfold isLen
 rcases Nat.decEq l.length 64 with h | h
 ·rw [decide_eq_false (by omega)]
  cases hb:Nat.beq l.length 64 with
  | false=>rfl
  | true=>exact absurd (Nat.eq_of_beq_eq_true hb) h
 ·rw [h]; rfl
theorem allT_c {b:Bool}{l:List Bool}(h:b=true) (k:allT l=true):allT (b::l)=true:=by rw [h]; exact k
theorem ta32_len {c:List UInt8}(h:isLen c 64=true):(ta32 c).length=32∧(dr32 c).length=32:=by
 have hc:=Nat.eq_of_beq_eq_true h
 rw [ta32_eq,dr32_eq,List.length_take,List.length_drop]
 omega
theorem sl1 {c:List UInt8}(h:isLen c 64=true):((decide ((0:Int)≤32)) && ((decide (32≤((List.length c:Nat):Int))) && (decide (((List.length c:Nat):Int)≤((List.length c:Nat):Int)))))=true∧((decide ((0:Int)≤0)) && ((decide ((0:Int)≤32)) && (decide (32≤((List.length c:Nat):Int)))))=true:=by
 have hc:=Nat.eq_of_beq_eq_true h
 rw [hc]
 decide
theorem ne64i {a:List UInt8}{b:Bool}(h:isLen a 64=b):(((List.length a:Nat):Int) != 64) = !b:=by rw [bneInt,← isLen64_iff,h]
section
variable {τ:Ft}{σ:Fs}{ω:Fw}{φ:Fi}{ζ:Fz}
theorem y8_ok (h:Hyp σ ω φ ζ):CSOk Tryd.prog (csP (psNo (y8 (ftOf σ ω φ ζ)))):=psNo_ok _
theorem n8y_ok (h:Hyp σ ω φ ζ) (hc:CSOk Tryd.prog (csP (psy σ ω φ ζ))) (hd:CSOk Tryd.prog (csy σ ω φ ζ)):CSOk Tryd.prog (n8y (ftOf σ ω φ ζ) σ ω φ ζ):=csAlt_ok (csP_alt (y8_ok h) hc) hd
theorem y7_ok (hn:CSOk Tryd.prog (n8y (ftOf σ ω φ ζ) σ ω φ ζ)):CSOk Tryd.prog (csP (psOne 5 (y7 (ftOf σ ω φ ζ)))):=psOne_ok fun args e he=>by
 unfold y7 at he
 split at he
 ·rename_i l
  simp only [Option.some.injEq,Prod.mk.injEq] at he
  obtain ⟨rfl,hc⟩:=he
  refine callOk_tabL hn rfl fun g x hg hx => ?_
  cases hx
  obtain ⟨H',fr',hr⟩:=run_of (ansO_run (n8y_ps (ftOf σ ω φ ζ) σ ω φ ζ) (r7 (ftOf σ ω φ ζ) σ ω φ ζ g l) (allT_c hc rfl))
  exact ⟨rfl,_,_,H',fr',hr⟩
 ·cases he
theorem y9_ok (h:Hyp σ ω φ ζ) (hn:CSOk Tryd.prog (n8y (ftOf σ ω φ ζ) σ ω φ ζ)):CSOk Tryd.prog (csP (psOne 6 (y9 (ftOf σ ω φ ζ)))):=psOne_ok fun args e he=>by
 unfold y9 at he
 split at he
 ·rename_i l s
  simp only [Option.some.injEq,Prod.mk.injEq] at he
  obtain ⟨rfl,hc⟩:=he
  rw [Bool.and_eq_true] at hc
  refine callOk_tabL hn rfl fun g x hg hx => ?_
  cases hx
  unfold resA2
  cases hi:isLen l 32 with
  | false =>
   have r:=r9t (ftOf σ ω φ ζ) σ ω φ ζ g l s ⟨0,0,0,0⟩ ⟨0,0,0,0⟩
   rw [hi] at r
   obtain ⟨H',fr',hr⟩:=run_of (ansO_run (n8y_ps (ftOf σ ω φ ζ) σ ω φ ζ) r (allT_c rfl (allT_c hc.1 rfl)))
   exact ⟨rfl,_,_,H',fr',hr⟩
  | true =>
   have hs:Nat.ble s.length 100000000=true:=ble_of (by have:=Nat.le_of_ble_eq_true hc.2; omega)
   have e1:kc l (σ.key (gg g) l)=σ.key (gg g) l:=by unfold kc; rw [hi]; rfl
   have e2:sc l (σ.pre (gg g) l)=σ.pre (gg g) l:=by unfold sc; rw [hi]; rfl
   have e3:sc l (σ.pub (gg g) l)=σ.pub (gg g) l:=by unfold sc; rw [hi]; rfl
   have r:=r9f (ftOf σ ω φ ζ) σ ω φ ζ g l s (sw σ g l s) (σ.n3 (gg g) (sr σ φ g l s) (σ.pub (gg g) l) s)
   rw [e1] at r
   obtain ⟨H',fr',hr⟩:=run_of (ansO_run (n8y_ps (ftOf σ ω φ ζ) σ ω φ ζ) r (by
    refine allT_c (by rw [h.by32,h.sby32]; rfl) (allT_c (decP_of ?_) (allT_c (decP_of ?_) (allT_c (by rw [hi]; rfl) (allT_c hc.1 rfl))))
    ·refine nb3_at (g:=g) rfl rfl (a:=sr σ φ g l s) (b:=σ.pub (gg g) l) (c:=s) ?_ (by unfold sr; rw [h.by32]; rfl) (by rw [h.pub32]; rfl) hs
     rw [← e3]
     rfl
    ·refine nb2_at (g:=g) rfl rfl (a:=σ.pre (gg g) l) (b:=s) ?_ (by rw [h.pre32]; rfl) hs
     rw [← e2]
     rfl))
   exact ⟨rfl,_,_,H',fr',hr⟩
 ·cases he
theorem y10_ok (h:Hyp σ ω φ ζ) (hn:CSOk Tryd.prog (n8y (ftOf σ ω φ ζ) σ ω φ ζ)):CSOk Tryd.prog (csP (psNo (y10 (ftOf σ ω φ ζ)))):=psNo_ok _
end
end Go.Proofs.YtcjkbimdmcfppaaDoor
namespace Go.Proofs.YtcjkbimdmcfppaaDoor
open Go Go.Eng Go.Num Sha
section
variable {τ:Ft}{σ:Fs}{ω:Fw}{φ:Fi}{ζ:Fz}
theorem ne0t {x:Int}(h:¬ x=0):(x != 0)=true:=by rw [bneInt,decide_eq_false h]; rfl
theorem ne0f {x:Int}(h:x=0):(!(x != 0))=true:=by rw [bneInt,decide_eq_true h]; rfl
theorem y11_ok (h:Hyp σ ω φ ζ) (hn:CSOk Tryd.prog (n8y (ftOf σ ω φ ζ) σ ω φ ζ)):CSOk Tryd.prog (csP (psOne 9 (y11 (ftOf σ ω φ ζ)))):=psOne_ok fun args e he=>by
 unfold y11 at he
 split at he
 ·rename_i a b c
  simp only [Option.some.injEq,Prod.mk.injEq] at he
  obtain ⟨rfl,hc⟩:=he
  rw [Bool.and_eq_true] at hc
  refine callOk_tabL hn rfl fun g x hg hx => ?_
  cases hx
  have ps:=n8y_ps (ftOf σ ω φ ζ) σ ω φ ζ
  show _∧∃ F nn H' fr',run1 Tryd.prog (n8y (ftOf σ ω φ ζ) σ ω φ ζ) nn F 9 _ _ 2=some (.bool (verT σ φ ζ g a b c),H',fr')
  have fin:∀ v:Bool,verT σ φ ζ g a b c=v→(run1 Tryd.prog (n8y (ftOf σ ω φ ζ) σ ω φ ζ) (mask 9) 200 9 [.str a,.str b,.str c] [(0,.cells true (cellsU 80 g))] 2).map (·.1)=some (.bool v)→ltV 0 (.bool (verT σ φ ζ g a b c))=true∧∃ F nn H' fr',run1 Tryd.prog (n8y (ftOf σ ω φ ζ) σ ω φ ζ) nn F 9 [.str a,.str b,.str c] [(0,.cells true (cellsU 80 g))] 2=some (.bool (verT σ φ ζ g a b c),H',fr'):=fun v e r=>by
   obtain ⟨H',fr',hr⟩:=run_of r
   rw [e]
   exact ⟨rfl,_,_,H',fr',hr⟩
  let w:W4:=σ.n3 (gg g) (ta32 c) a b
  cases hi:isLen c 64 with
  | false=>exact fin false (by unfold verT; rw [hi]; rfl) (ansO_run ps (r11a (ftOf σ ω φ ζ) σ ω φ ζ g a b c w) (allT_c (ne64i hi) rfl))
  | true =>
   obtain ⟨s1,s2⟩:=sl1 hi
   have s3:(!(((List.length c:Nat):Int) != 64))=true:=by rw [ne64i hi]; rfl
   cases hk:ζ.canon (dr32 c) with
   | false=>exact fin false (by unfold verT; rw [hi,hk]; rfl) (ansO_run ps (r11b (ftOf σ ω φ ζ) σ ω φ ζ g a b c w) (allT_c (by rw [hk]; rfl) (allT_c s1 (allT_c s3 rfl))))
   | true =>
    by_cases ha:φ.decR a=0
    ·by_cases hr:φ.decR (ta32 c)=0
     ·cases hm:φ.small (φ.dec a) with
      | true=>exact fin false (by unfold verT; rw [hi,hk,hm,decide_eq_true ha,decide_eq_true hr]; rfl) (ansO_run ps (r11f (ftOf σ ω φ ζ) σ ω φ ζ g a b c w) (allT_c hm (allT_c (ne0f hr) (allT_c (ne0f ha) (allT_c s2 (allT_c rfl (allT_c hk (allT_c s1 (allT_c s3 rfl)))))))))
      | false =>
       refine fin _ (by unfold verT; rw [hi,hk,hm,decide_eq_true ha,decide_eq_true hr]; rfl) (ansO_run ps (r11g (ftOf σ ω φ ζ) σ ω φ ζ g a b c w) (allT_c (decP_of ?_) (allT_c s2 (allT_c s1 (allT_c (by rw [hm]; rfl) (allT_c (ne0f hr) (allT_c (ne0f ha) (allT_c s2 (allT_c rfl (allT_c hk (allT_c s1 (allT_c s3 rfl))))))))))))
       exact nb3_at (g:=g) rfl rfl rfl (by rw [(ta32_len hi).1]; rfl) (ble_of (by have:=Nat.le_of_ble_eq_true hc.1; omega)) (ble_of (by have:=Nat.le_of_ble_eq_true hc.2; omega))
     ·exact fin false (by unfold verT; rw [hi,hk,decide_eq_true ha,decide_eq_false hr]; rfl) (ansO_run ps (r11e (ftOf σ ω φ ζ) σ ω φ ζ g a b c w) (allT_c (ne0t hr) (allT_c (ne0f ha) (allT_c s2 (allT_c rfl (allT_c hk (allT_c s1 (allT_c s3 rfl))))))))
    ·exact fin false (by unfold verT; rw [hi,hk,decide_eq_false ha]; rfl) (ansO_run ps (r11d (ftOf σ ω φ ζ) σ ω φ ζ g a b c w) (allT_c (ne0t ha) (allT_c s2 (allT_c rfl (allT_c hk (allT_c s1 (allT_c s3 rfl)))))))
 ·cases he
theorem y12_ok (h:Hyp σ ω φ ζ) (hn:CSOk Tryd.prog (n8y (ftOf σ ω φ ζ) σ ω φ ζ)):CSOk Tryd.prog (csP (psNo (y12 (ftOf σ ω φ ζ)))):=psNo_ok _
end
def psT (τ:Ft):PS:=psAlt (psOne 5 (y7 τ)) (psAlt (psNo (y8 τ)) (psAlt (psOne 6 (y9 τ)) (psAlt (psNo (y10 τ)) (psAlt (psOne 9 (y11 τ)) (psNo (y12 τ))))))
theorem psT_ok {σ:Fs}{ω:Fw}{φ:Fi}{ζ:Fz}(h:Hyp σ ω φ ζ) (hc:CSOk Tryd.prog (csP (psy σ ω φ ζ))) (hd:CSOk Tryd.prog (csy σ ω φ ζ)):CSOk Tryd.prog (csP (psT (ftOf σ ω φ ζ))):=by
 have hn:=n8y_ok h hc hd
 exact csP_alt (y7_ok hn) (csP_alt (y8_ok h) (csP_alt (y9_ok h hn) (csP_alt (y10_ok h hn) (csP_alt (y11_ok h hn) (y12_ok h hn)))))
end Go.Proofs.YtcjkbimdmcfppaaDoor
namespace Go.Proofs.YtcjkbimdmcfppaaDoor.Sha
open Go Go.Eng
set_option maxRecDepth 1000000
theorem rot_eq (x:UInt64) (n:Int) (k:UInt64) (hk:(UInt64.ofInt (IntKind.wrap .i64 (0 - n)) &&& 63).toNat=(64 - k).toNat) (hk2:(64 - (UInt64.ofInt (IntKind.wrap .i64 (0 - n)) &&& 63)).toNat=k.toNat):φr.rot x n=φr.rotd x k:=by
 show shl_u64 x _ ||| shr_u64 x _=shr_u64 x _ ||| shl_u64 x _
 rw [hk,hk2,UInt64.or_comm]
theorem sched_eq (w0 w1 w9 w14:UInt64):sched φr w0 w1 w9 w14=schedD φr w0 w1 w9 w14:=by
 unfold sched schedD
 rw [rot_eq w1 1 1 (by decide) (by decide),rot_eq w1 8 8 (by decide) (by decide),rot_eq w14 19 19 (by decide) (by decide),rot_eq w14 61 61 (by decide) (by decide)]
 rw [UInt64.add_assoc w0 w9,UInt64.add_comm w9,← UInt64.add_assoc w0]
theorem rndT_eq (g w:UInt64) (x:Nat→UInt64):rndT φr g w x=rndTD φr g w x:=by
 unfold rndT rndTD
 rw [rot_eq (x 4) 14 14 (by decide) (by decide),rot_eq (x 4) 18 18 (by decide) (by decide),rot_eq (x 4) 41 41 (by decide) (by decide)]
theorem rnd_eq (g w:UInt64) (x:Nat→UInt64):rnd φr g w x=rndD φr g w x:=by
 unfold rnd rndD rndL rndLD
 rw [rndT_eq,rot_eq (x 0) 28 28 (by decide) (by decide),rot_eq (x 0) 34 34 (by decide) (by decide),rot_eq (x 0) 39 39 (by decide) (by decide),UInt64.add_assoc (rndTD φr g w x)]
theorem W2_eq (w:Nat→UInt64):∀ i,W2 φr w i=W2D φr w i
 | 0=>rfl
 | i+1=>by
  simp only [W2,W2D]
  rw [W2_eq w i,sched_eq]
theorem X3_eq (g w h:Nat→UInt64):∀ i,X3 φr g w h i=X3D φr g w h i
 | 0=>rfl
 | i+1=>by
  simp only [X3,X3D]
  rw [X3_eq g w h i,rnd_eq]
theorem take_eq (g h:Nat→UInt64) (b:Nat→UInt8):takeF φr g h b=pieceD φr g h b:=by
 unfold takeF pieceD
 rw [W2_eq,X3_eq]
theorem W1_congr {b b':Nat→UInt8}{n:Nat}(h:∀ i,i < n→b i=b' i):∀ i,i≤n→W1 b i=W1 b' i
 | 0,_=>rfl
 | i+1,hi=>by
  simp only [W1]
  rw [W1_congr h i (by omega),h i (by omega)]
theorem takeF_congr {φ:Fr}{g h:Nat→UInt64}{b b':Nat→UInt8}(hb:∀ i,i < 128→b i=b' i):takeF φ g h b=takeF φ g h b':=by
 unfold takeF
 rw [W1_congr hb 128 (Nat.le_refl _)]
def pushL (φ:Fr) (g:Nat→UInt64) (s:St) (l:List UInt8):St:=l.foldl (addS φ g) s
theorem pushL_append (φ:Fr) (g:Nat→UInt64) (s:St) (l m:List UInt8):pushL φ g s (l++m)=pushL φ g (pushL φ g s l) m:=List.foldl_append ..
theorem addsN_push (φ:Fr) (g:Nat→UInt64) (s:St) (l:List UInt8):∀ i,i≤l.length→addsN φ g s l i=pushL φ g s (l.take i)
 | 0,_=>by simp [addsN,pushL]
 | i+1,hi=>by
  simp only [addsN]
  rw [addsN_push φ g s l i (by omega),List.take_add_one,pushL_append]
  have:l[i]? = some (l.getD i 0):=by
   rw [List.getD_eq_getElem?_getD,List.getElem?_eq_getElem (by omega)]; rfl
  rw [this]
  rfl
theorem adds_push (φ:Fr) (g:Nat→UInt64) (s:St) (l:List UInt8):addsS φ g s l=pushL φ g s l:=by
 unfold addsS
 rw [addsN_push φ g s l l.length (Nat.le_refl _),List.take_length]
theorem zer_push (φ:Fr) (g:Nat→UInt64) (s:St):∀ k,zer φ g s k=pushL φ g s ((List.range k).map fun _=>0)
 | 0=>rfl
 | k+1=>by
  simp only [zer]
  rw [zer_push φ g s k,List.range_succ,List.map_append,pushL_append]; rfl
theorem lenA_push (φ:Fr) (g:Nat→UInt64) (x:UInt64) (s:St):∀ k,lenA φ g x s k=pushL φ g s ((List.range k).map (lenB x))
 | 0=>rfl
 | k+1=>by
  simp only [lenA]
  rw [lenA_push φ g x s k,List.range_succ,List.map_append,pushL_append]; rfl
theorem push_n (φ:Fr) (g:Nat→UInt64):∀ (l:List UInt8) (s:St),(pushL φ g s l).n=s.n+UInt64.ofNat l.length
 | [],s=>by show s.n=_; simp
 | x::l,s=>by
  show (pushL φ g (addS φ g s x) l).n=_
  rw [push_n φ g l,addS_n,UInt64.add_assoc]
  congr 1
  apply UInt64.toNat_inj.1
  rw [UInt64.toNat_add,UInt64.toNat_ofNat',UInt64.toNat_ofNat',List.length_cons]
  have h1:(1:UInt64).toNat=1:=rfl
  rw [h1]
  omega
theorem push_bS_n (φ:Fr) (g:Nat→UInt64) (l:List UInt8):(pushL φ g bS l).n=UInt64.ofNat l.length:=by
 rw [push_n]; show 0+_=_; simp
theorem padK_of (n:Nat) (h:n < 18446744073709551616):padK (UInt64.ofNat n)=padN n:=by
 unfold padK padN
 rw [UInt64.toNat_ofNat',Nat.mod_eq_of_lt (show n < 2 ^ 64 by omega)]
theorem sum_push (φ:Fr) (g:Nat→UInt64) (l:List UInt8) (h:l.length < 18446744073709551616):sumSt φ g (pushL φ g bS l)=pushL φ g bS (padL l):=by
 unfold sumSt padL exL
 have e:(List.range 16).map (tailB (UInt64.ofNat l.length))=(List.range 8).map (fun _=>(0:UInt8))++(List.range 8).map (lenB (UInt64.ofNat l.length)):=rfl
 rw [lenA_push,zer_push,zer_push,push_bS_n,padK_of _ h,e]
 rw [pushL_append,pushL_append,pushL_append,pushL_append]
 rfl
theorem add0_at (s:St) (x:UInt8) (i:Nat):(add0 s x).b i=if i < 128 then (if i=(s.n % 128).toNat then x else s.b i) else 0:=rfl
theorem push_part (φ:Fr) (g:Nat→UInt64) (s:St) (hs:nS s=s) (h0:s.n.toNat % 128=0) (l:List UInt8):l.length < 128 →
  (pushL φ g s l).h=s.h∧(∀ j,j < l.length→(pushL φ g s l).b j=l.getD j 0)∧nS (pushL φ g s l)=pushL φ g s l:=by
 have key:∀ k,k≤l.length→k < 128→(pushL φ g s (l.take k)).h=s.h∧(∀ j,j < k→(pushL φ g s (l.take k)).b j=l.getD j 0)∧nS (pushL φ g s (l.take k))=pushL φ g s (l.take k):=by
  intro k
  induction k with
  | zero=>intro _ _; exact ⟨by simp [pushL],fun j hj=>by omega,by simp [pushL,hs]⟩
  | succ k ih =>
   intro hk hk2
   obtain ⟨i1,i2,i3⟩:=ih (by omega) (by omega)
   have e:l[k]? = some (l.getD k 0):=by
    rw [List.getD_eq_getElem?_getD,List.getElem?_eq_getElem (by omega)]; rfl
   have en:(pushL φ g s (l.take k)).n.toNat % 128=k:=by
    rw [push_n,UInt64.toNat_add,UInt64.toNat_ofNat',List.length_take]
    have:=s.n.toNat_lt
    omega
   have e2:pushL φ g s (l.take (k+1))=add0 (pushL φ g s (l.take k)) (l.getD k 0):=by
    rw [List.take_add_one,pushL_append,e]
    show addS φ g (pushL φ g s (l.take k)) (l.getD k 0)=_
    unfold addS
    have:(((pushL φ g s (l.take k)).n+1) % 128 == 0)=false:=by
     rw [beq_eq_false_iff_ne]
     intro h
     have h2:=congrArg UInt64.toNat h
     rw [UInt64.toNat_mod,UInt64.toNat_add] at h2
     have h3:(1:UInt64).toNat=1:=rfl
     have h4:(128:UInt64).toNat=128:=rfl
     have h5:(0:UInt64).toNat=0:=rfl
     rw [h3,h4,h5] at h2
     omega
    rw [this]; rfl
   rw [e2]
   refine ⟨?_,fun j hj => ?_,nS_add0 ..⟩
   ·show nU 8 (pushL φ g s (l.take k)).h=s.h
    rw [i1]
    exact congrArg St.h hs
   ·rw [add0_at,if_pos (by omega)]
    have e4:((pushL φ g s (l.take k)).n % 128).toNat=k:=by
     rw [UInt64.toNat_mod]
     have h4:(128:UInt64).toNat=128:=rfl
     rw [h4,en]
    rw [e4]
    by_cases hj2:j=k
    ·rw [if_pos hj2,hj2]
    ·rw [if_neg hj2]; exact i2 j (by omega)
 intro hl
 have:=key l.length (Nat.le_refl _) hl
 rwa [List.take_length] at this
theorem push_piece0 (φ:Fr) (g:Nat→UInt64) (s:St) (hs:nS s=s) (h0:s.n.toNat % 128=0) (m:List UInt8) (x:UInt8) (hl2:m.length=127) :
  (pushL φ g s (m++[x])).h=nU 8 (takeF φ g s.h fun j=>(m++[x]).getD j 0)∧nS (pushL φ g s (m++[x]))=pushL φ g s (m++[x]):=by
 obtain ⟨i1,i2,i3⟩:=push_part φ g s hs h0 m (by omega)
 have en:(pushL φ g s m).n.toNat % 128=127:=by
  rw [push_n,UInt64.toNat_add,UInt64.toNat_ofNat',hl2]
  have:=s.n.toNat_lt
  omega
 obtain ⟨t,ht⟩:∃ t,t=pushL φ g s m:=⟨_,rfl⟩
 rw [← ht] at i1 i2 i3 en
 have e2:pushL φ g s (m++[x])=takeS φ g (add0 t x):=by
  rw [pushL_append,← ht]
  show addS φ g t x=_
  unfold addS
  have:((t.n+1) % 128 == 0)=true:=by
   rw [beq_iff_eq]
   apply UInt64.toNat_inj.1
   rw [UInt64.toNat_mod,UInt64.toNat_add]
   have h3:(1:UInt64).toNat=1:=rfl
   have h4:(128:UInt64).toNat=128:=rfl
   have h5:(0:UInt64).toNat=0:=rfl
   rw [h3,h4,h5]
   omega
  rw [this]; rfl
 rw [e2]
 refine ⟨?_,nS_takeS ..⟩
 have hh:nU 8 s.h=s.h:=congrArg St.h hs
 have e5:(takeS φ g (add0 t x)).h=nU 8 (takeF φ g (nU 8 t.h) (add0 t x).b):=rfl
 rw [e5,i1,hh]
 have e6:takeF φ g s.h (add0 t x).b=takeF φ g s.h fun j=>(m++[x]).getD j 0:=by
  apply takeF_congr
  intro j hj
  have e4:(t.n % 128).toNat=127:=by
   rw [UInt64.toNat_mod]
   have h4:(128:UInt64).toNat=128:=rfl
   rw [h4,en]
  rw [add0_at,if_pos hj,e4,List.getD_eq_getElem?_getD]
  by_cases hj2:j=127
  ·rw [if_pos hj2,hj2,List.getElem?_append_right (by omega),hl2]; rfl
  ·rw [if_neg hj2,i2 j (by omega),List.getD_eq_getElem?_getD,List.getElem?_append_left (by omega)]
 rw [e6]
theorem push_piece (φ:Fr) (g:Nat→UInt64) (s:St) (hs:nS s=s) (h0:s.n.toNat % 128=0) (l:List UInt8) (hl:l.length=128) :
  (pushL φ g s l).h=nU 8 (takeF φ g s.h fun j=>l.getD j 0)∧nS (pushL φ g s l)=pushL φ g s l:=by
 have e:∃ m x,l=m++[x]∧m.length=127:=by
  have e2:l[127]? = some (l.getD 127 0):=by
   rw [List.getD_eq_getElem?_getD,List.getElem?_eq_getElem (by omega)]; rfl
  have:=List.take_add_one (l:=l) (i:=127)
  rw [e2,List.take_of_length_le (by omega)] at this
  exact ⟨l.take 127,l.getD 127 0,this,by rw [List.length_take]; omega⟩
 obtain ⟨m,x,rfl,hm⟩:=e
 exact push_piece0 φ g s hs h0 m x hm
theorem foldD_succ (P:PieceF) (η:Nat→UInt64) (c:List UInt8) (k:Nat):foldD P η c (k+1)=P (nU 8 (foldD P η c k)) fun j=>gB (c.map .u8) (128 * k+j):=rfl
theorem push_fold0 {P:PieceF}{φ:Fr}{g:Nat→UInt64}(hP:∀ h b b',(∀ i,i < 128→b i=b' i)→takeF φ g h b=P h b') (c:List UInt8):∀ k,128 * k≤c.length→(pushL φ g bS (c.take (128 * k))).h=nU 8 (foldD P hF c k)∧nS (pushL φ g bS (c.take (128 * k)))=pushL φ g bS (c.take (128 * k))
 | 0,_=>by
  have:pushL φ g bS (c.take (128 * 0))=bS:=by simp [pushL]
  rw [this]
  exact ⟨(congrArg St.h nS_bS).symm,nS_bS⟩
 | k+1,hk=>by
  obtain ⟨i1,i2⟩:=push_fold0 hP c k (by omega)
  have e:c.take (128 * (k+1))=c.take (128 * k)++(c.drop (128 * k)).take 128:=by
   rw [show 128 * (k+1)=128 * k+128 by omega,List.take_add]
  rw [e,pushL_append]
  have hn:(pushL φ g bS (c.take (128 * k))).n.toNat % 128=0:=by
   rw [push_bS_n,UInt64.toNat_ofNat',List.length_take]
   omega
  obtain ⟨s,hs⟩:∃ s,s=pushL φ g bS (c.take (128 * k)):=⟨_,rfl⟩
  rw [← hs] at i1 i2 hn ⊢
  obtain ⟨j1,j2⟩:=push_piece φ g s i2 hn ((c.drop (128 * k)).take 128) (by rw [List.length_take,List.length_drop]; omega)
  refine ⟨?_,j2⟩
  rw [j1,i1,foldD_succ]
  refine congrArg (nU 8) (hP _ _ _ fun j hj => ?_)
  rw [gB_map,List.getD_eq_getElem?_getD,List.getD_eq_getElem?_getD,List.getElem?_take_of_lt hj,List.getElem?_drop]
theorem take_piece (g h:Nat→UInt64) (b b':Nat→UInt8) (hb:∀ i,i < 128→b i=b' i):takeF φr g h b=pieceD φr g h b':=by
 rw [← take_eq]
 exact takeF_congr hb
theorem push_fold (g:Nat→UInt64) (c:List UInt8) (k:Nat) (hk:128 * k≤c.length):(pushL φr g bS (c.take (128 * k))).h=nU 8 (foldD (pieceD φr g) hF c k):=(push_fold0 (take_piece g) c k hk).1
theorem outF_at (h:Nat→UInt64):∀ n i,i < n→outF h n i=outB h i
 | n+1,i,hi=>by
  simp only [outF,updF]
  by_cases e:i=n
  ·rw [if_pos e,e]
  ·rw [if_neg e]; exact outF_at h n i (by omega)
theorem of_doc (l:List UInt8) (h:l.length < 1000000000):ofS φr kF l=docR l:=by
 unfold ofS docR docF sumS
 rw [adds_push,sum_push φr kF l (by omega)]
 have hm:=padL_mod l
 have hk:128 * ((padL l).length / 128)=(padL l).length:=by omega
 have i1:=push_fold kF (padL l) ((padL l).length / 128) (by omega)
 rw [hk,List.take_length] at i1
 rw [i1]
 apply List.map_congr_left
 intro i hi
 have hi2:i < 64:=List.mem_range.1 hi
 rw [outF_at _ _ _ hi2]
 unfold outB nU
 rw [if_pos (by omega)]
end Go.Proofs.YtcjkbimdmcfppaaDoor.Sha
namespace Go.Proofs.YtcjkbimdmcfppaaDoor
open Go Go.Eng Go.Num Sha Sgn
theorem docR_len (l:List UInt8):(docR l).length=64:=by simp [docR,docF]
theorem of_len (g:Nat→UInt64) (l:List UInt8):(ωr.of g l).length=64:=by
 have e:ωr.of=ofS φr:=rfl
 rw [e]
 simp [ofS,sumS]
theorem wr_doc:ωr.doc=docR:=rfl
theorem psx_ok:CSOk Tryd.prog (csP (psx ωr realFi realFz)):=csP_alt z43_ok (csP_alt (csAlt_l nWr_ok) psnj_ok)
theorem csx_ok:CSOk Tryd.prog (csx ωr realFi realFz):=csAlt_ok csz_ok (csAlt_ok csW_ok chnj_ok)
noncomputable def sgr:Fs:=sgOf ωr realFi realFz
theorem psy_ok:CSOk Tryd.prog (csP (psy sgr ωr realFi realFz)):=csP_alt (y13_ok nx_ok of_len) (csP_alt (y14_ok nx_ok docR_len) psx_ok)
theorem csy_ok:CSOk Tryd.prog (csy sgr ωr realFi realFz):=csAlt_ok (y19_ok nx_ok) csx_ok
theorem fz_clampQ:realFz.clampQ=clampL:=by simp only [realFz]
theorem fz_clamp:realFz.clamp=clampV:=by simp only [realFz]
theorem fz_canon:realFz.canon=canonW:=by simp only [realFz]
theorem fi_nof:realFi.nof=ofN:=by simp only [realFi]
theorem clampl_len {k:List UInt8}(h:isLen k 32=true):(clampL k).length=32:=by
 rw [isLen_eq] at h
 unfold clampL
 rw [List.length_set,List.length_set]; exact h
theorem by32 (w:W4):(realFi.bytes (realFi.mul realFi.base w)).length=32:=by
 obtain ⟨q,f,h,_⟩:=b_mul w
 exact (pi_back h).1
theorem take_len {l:List UInt8}(h:l.length=64):isLen (l.take 32) 32=true:=isLen_of (by rw [List.length_take,h]; rfl)
theorem pi_nof {p:P4 E5}{q:P4 N16}{f:P4 Fp}(h:PI p q f) (l:List UInt8):∃ g,PI (realFi.mul p (ofW l)) (realFi.mulQ q (realFi.nof l)) g∧aff g=mulA dF (aff f) (ofW l).val:=by
 rw [fi_nof]
 exact pi_mul h (ofN_val l).1 (by rw [ofW_val,(ofN_val l).2])
theorem byq (l:List UInt8):realFi.bytesQ (realFi.mulQ realFi.baseQ (realFi.nof l))=realFi.bytes (realFi.mul realFi.base (ofW l)):=by
 obtain ⟨g,h,_⟩:=pi_nof pi_base l
 exact (pi_bytes h).symm
theorem pi_decQ {a:List UInt8}(h:realFi.decRQ a=0):∃ x:Fp × Fp,PI (realFi.dec a) (realFi.decQ a) (up x):=pi_dec (by rw [fi_rsame]; exact h)
theorem hypR:Hyp sgr ωr realFi realFz where
 hn:=csAlt_ok psy_ok csy_ok
 pre32:=fun g a=>by
  show (dr32 (ωr.of (gg g) a)).length=32
  rw [dr32_eq,List.length_drop,of_len]
 pub32:=fun g a=>by32 _
 by32:=by32
 sby32:=fun w=>by rw [fi_sby]; exact bytesW_len w
 kq32:=fun a=>by
  show (realFz.clampQ (ta32 (ωr.doc a))).length=32
  rw [fz_clampQ,ta32_eq,wr_doc]
  exact clampl_len (take_len (docR_len a))
 pq32:=fun a=>by
  show (dr32 (ωr.doc a)).length=32
  rw [dr32_eq,List.length_drop,wr_doc,docR_len]
 doc64:=docR_len
 okb:=pi_ok pi_base
 okm:=fun l=>by
  obtain ⟨g,h,_⟩:=pi_nof pi_base l
  exact pi_ok h
 byq32:=fun l=>by rw [byq]; exact by32 _
 nby32:=fun n=>by rw [fz_nby]; exact bytesN_len n
 okd:=fun a h=>by
  obtain ⟨x,hx⟩:=pi_decQ h
  exact pi_ok hx
 okdm:=fun a l h=>by
  obtain ⟨x,hx⟩:=pi_decQ h
  obtain ⟨g,hg,_⟩:=pi_nof hx l
  exact pi_ok hg
 okda:=fun a b l h k=>by
  obtain ⟨x,hx⟩:=pi_decQ h
  obtain ⟨y,hy⟩:=pi_decQ k
  obtain ⟨g,hg,_⟩:=pi_nof hx l
  exact pi_ok (pi_add hy hg)
noncomputable def ftr:Ft:=ftOf sgr ωr realFi realFz
theorem psTr_ok:CSOk Tryd.prog (csP (psT ftr)):=psT_ok hypR psy_ok csy_ok
theorem nkF:nU 80 kF=kF:=by
 funext j
 unfold nU kF
 by_cases h:j < 80
 ·rw [if_pos h]
 ·rw [if_neg h]
  simp only [List.getD,List.getElem?_eq_none (show roundsL.length≤j by simp only [roundsL,List.length_cons,List.length_nil]; omega),Option.getD_none]
theorem nS_push (φ:Fr) (g:Nat→UInt64):∀ (l:List UInt8) (s:St),nS s=s→nS (pushL φ g s l)=pushL φ g s l
 | [],s,hs=>hs
 | x::l,s,hs=>nS_push φ g l (addS φ g s x) (nS_addS ..)
theorem ggk:gg kF=kF:=gg_of nkF
theorem st1_push {s:St}(hs:nS s=s) (a:List UInt8):st1 ωr kF s a=pushL φr kF s a:=by
 unfold st1
 rw [ggk,hstS hs]
 exact adds_push ..
theorem sum_doc (l:List UInt8) (h:l.length < 1000000000):ωr.sum kF (pushL φr kF bS l)=docR l:=by
 rw [← of_doc l h]
 unfold ofS
 rw [adds_push]
 rfl
theorem wr_new:ωr.new=bS:=rfl
theorem nb2_doc (a b:List UInt8) (h:(a++b).length < 1000000000):nb2 ωr realFi kF a b=Sgn.numW docR (a++b):=by
 unfold nb2 Sgn.numW
 rw [wr_new,st1_push nS_bS,st1_push (nS_push _ _ _ _ nS_bS),← pushL_append,hstS (nS_push _ _ _ _ nS_bS),ggk,sum_doc _ h]
theorem nb3_doc (a b c:List UInt8) (h:(a++(b++c)).length < 1000000000):nb3 ωr realFi kF a b c=Sgn.numW docR (a++(b++c)):=by
 unfold nb3 Sgn.numW
 rw [wr_new,st1_push nS_bS,st1_push (nS_push _ _ _ _ nS_bS),← pushL_append,st1_push (nS_push _ _ _ _ nS_bS),← pushL_append,hstS (nS_push _ _ _ _ nS_bS),ggk,List.append_assoc,sum_doc _ h]
theorem of_doc2 (l:List UInt8) (h:l.length < 1000000000):ωr.of (gg kF) l=docR l:=by
 rw [ggk]
 exact of_doc l h
end Go.Proofs.YtcjkbimdmcfppaaDoor
namespace Go.Proofs.YtcjkbimdmcfppaaDoor
open Go Go.Eng Go.Num Sha Sgn
theorem sg_n2:sgr.n2=nb2 ωr realFi:=by simp only [sgr,sgOf]
theorem sg_n3:sgr.n3=nb3 ωr realFi:=by simp only [sgr,sgOf]
theorem sg_key:sgr.key=keyO ωr realFi realFz:=by simp only [sgr,sgOf]
theorem sg_pre:sgr.pre=preO ωr:=by simp only [sgr,sgOf]
theorem sg_pub:sgr.pub=pubO ωr realFi realFz:=by simp only [sgr,sgOf]
theorem ft_pub (g:Nat→UInt64) (a:List UInt8):ftr.pub g a=sgr.pub (gg g) a:=by simp only [ftr,ftOf]
theorem ft_sgn:ftr.sgn=sgnT sgr realFi:=by simp only [ftr,ftOf]
theorem ft_ver:ftr.ver=verT sgr realFi realFz:=by simp only [ftr,ftOf]
theorem key_doc (a:List UInt8) (h:a.length < 1000000000):sgr.key (gg kF) a=keyW docR a:=by
 rw [sg_key]
 unfold keyO keyW
 rw [ggk,of_doc2 a h,fz_clamp,ta32_eq]
theorem pre_doc (a:List UInt8) (h:a.length < 1000000000):sgr.pre (gg kF) a=preB docR a:=by
 rw [sg_pre]
 unfold preO preB
 rw [ggk,of_doc2 a h,dr32_eq]
theorem pub_doc (a:List UInt8) (h:a.length < 1000000000):sgr.pub (gg kF) a=pubB docR a:=by
 have:=key_doc a h
 rw [sg_key] at this
 rw [sg_pub]
 unfold Sgn.pubB pubO
 rw [this]
theorem pubB_len (a:List UInt8):(pubB docR a).length=32:=by32 _
theorem rB_len (a b:List UInt8):(rB docR a b).length=32:=by32 _
theorem preB_len (a:List UInt8):(preB docR a).length=32:=by
 unfold preB
 rw [List.length_drop,docR_len]
theorem n2_doc (a b:List UInt8) (h:(a++b).length < 1000000000):sgr.n2 (gg kF) a b=numW docR (a++b):=by
 rw [ggk,sg_n2,nb2_doc a b h]
theorem n3_doc (a b c:List UInt8) (h:(a++(b++c)).length < 1000000000):sgr.n3 (gg kF) a b c=numW docR (a++(b++c)):=by
 rw [ggk,sg_n3,nb3_doc a b c h]
theorem sw_doc (a b:List UInt8) (ha:a.length < 100000000) (hb:b.length < 100000000):sw sgr kF a b=rW docR a b:=by
 unfold sw rW
 rw [pre_doc a (by omega),n2_doc _ _ (by rw [List.length_append,preB_len]; omega)]
theorem sr_doc (a b:List UInt8) (ha:a.length < 100000000) (hb:b.length < 100000000):sr sgr realFi kF a b=rB docR a b:=by
 unfold sr rB
 rw [sw_doc a b ha hb]
theorem sgn_doc (a b:List UInt8) (ha:a.length < 100000000) (hb:b.length < 100000000):ftr.sgn kF a b=sigB docR a b:=by
 rw [ft_sgn]
 unfold sgnT sigB xW
 rw [sr_doc a b ha hb,sw_doc a b ha hb,pub_doc a (by omega),key_doc a (by omega),n3_doc _ _ _ (by rw [List.length_append,List.length_append,rB_len,pubB_len]; omega)]
theorem pubT_doc (a:List UInt8) (h:a.length < 100000000):ftr.pub kF a=pubB docR a:=by rw [ft_pub,pub_doc a (by omega)]
theorem ver_doc (a b c:List UInt8) (ha:a.length < 100000000) (hb:b.length < 100000000):ftr.ver kF a b c=verP docR a b c:=by
 rw [ft_ver]
 unfold verT verP
 rw [n3_doc _ _ _ (by rw [List.length_append,List.length_append,ta32_eq,List.length_take]; omega),fz_canon,dr32_eq,ta32_eq]
theorem keyW_of (a:List UInt8):keyW docR a=ofW (clampL ((docR a).take 32)):=by
 have hi:=take_len (docR_len a)
 have e:clampV ((docR a).take 32)=clampL ((docR a).take 32):=by unfold clampV; rw [hi]; rfl
 unfold keyW
 rw [e,fi_sof,oV_ok (okL32 (clampl_len hi))]
theorem numW_of (l:List UInt8):numW docR l=ofW (docR l):=by
 unfold numW
 rw [fi_sof,oV_ok (okL64 (docR_len l))]
end Go.Proofs.YtcjkbimdmcfppaaDoor
namespace Go.Proofs.YtcjkbimdmcfppaaDoor
open Go Go.Eng Go.Num Sha
def nT (τ:Ft):CS:=csAlt (csP (psT τ)) noCS
theorem nT_ps (τ:Ft):PSOk (psT τ) (nT τ):=csP_ok
def y6 (v:(Nat→UInt64)→Option AVal):List AVal→Option EffA
 | []=>some (tabL v)
 | _=>none
noncomputable def alP (v:(Nat→UInt64)→Option AVal) (base:Nat) (H:HL):Bool:=decP ((tabL v).app base H=some (.bool true,H))
def z0:List UInt8:=List.replicate 32 0
def tx1:List UInt8:=[116,101,120,116]
def ta63 (l:List UInt8):List UInt8:=List.drop (Int.toNat 0) (List.take (Int.toNat 63) l)
def tx2:List UInt8:=[116,101,120,84]
end Go.Proofs.YtcjkbimdmcfppaaDoor
namespace Go.Proofs.YtcjkbimdmcfppaaDoor
open Go Go.Eng Go.Num Sha
section
variable (τ:Ft) (al:(Nat→UInt64)→Option AVal) (g:Nat→UInt64) (a b c d e:List UInt8) (n:Int) (m:Nat) (x y:UInt8)
def alOb:List Bool:=[((Nat.ble (List.length (τ.pub (gg g) z0)) 10000000) && (Nat.ble (List.length tx1) 10000000)),((decide ((0:Int)≤0)) && ((decide ((0:Int)≤63)) && (decide (63≤((List.length (τ.sgn (gg g) z0 tx1):Nat):Int))))),!(τ.ver (gg g) (τ.pub (gg g) z0) tx2 (τ.sgn (gg g) z0 tx1)),((Nat.ble (List.length (τ.pub (gg g) z0)) 10000000) && (Nat.ble (List.length tx2) 10000000)),(τ.ver (gg g) (τ.pub (gg g) z0) tx1 (τ.sgn (gg g) z0 tx1)),((Nat.ble (List.length (τ.pub (gg g) z0)) 10000000) && (Nat.ble (List.length tx1) 10000000)),true,(((List.length (τ.sgn (gg g) z0 tx1):Nat):Int) == 64),(((List.length (τ.pub (gg g) z0):Nat):Int) == 32),true,true,true,true,true]
theorem a6:ansO (run1O Tryd.prog (psT τ) (nT τ) [12,17,21,25,28,33,38,42,47,52,58,59] [true,true,true,true,true,true,false] [] (mask 4) 200 4 [] [(0,.cells true (cellsU 80 g))] 2)=some (.bool (!τ.ver (gg g) (τ.pub (gg g) z0) tx1 (ta63 (τ.sgn (gg g) z0 tx1))),
 alOb τ g):=by kernel_rfl
end
end Go.Proofs.YtcjkbimdmcfppaaDoor
namespace Go.Proofs.YtcjkbimdmcfppaaDoor.Sha
open Go Go.Eng
set_option maxRecDepth 1000000
def gU64 (l:List UInt64) (i:Nat):UInt64:=l.getD i 0
def chkW (b:Nat→UInt8) (w:List UInt64):Bool:=(List.range 16).all fun k=>W1 b 128 k == gU64 w k
def chkS (w:List UInt64):Bool:=(List.range 64).all fun i=>gU64 w (i+16) == schedD φr (gU64 w i) (gU64 w (i+1)) (gU64 w (i+9)) (gU64 w (i+14))
def chkX (κ:List UInt64) (w:List UInt64) (X:List (List UInt64)):Bool:=(List.range 80).all fun i=>X.getD (i+1) [] == rndLD φr (gU64 κ i) (gU64 w i) (gU64 (X.getD i []))
theorem all_at {n:Nat}{p:Nat→Bool}(h:(List.range n).all p=true){i:Nat}(hi:i < n):p i=true:=List.all_eq_true.1 h i (List.mem_range.2 hi)
theorem rndLD_congr {φ:Fr}{g w:UInt64}{x y:Nat→UInt64}(h:∀ j,j < 8→x j=y j):rndLD φ g w x=rndLD φ g w y:=by
 unfold rndLD rndTD
 rw [h 0 (by omega),h 1 (by omega),h 2 (by omega),h 3 (by omega),h 4 (by omega),h 5 (by omega),h 6 (by omega),h 7 (by omega)]
theorem W2D_chk {b:Nat→UInt8}{w:List UInt64}(h1:chkW b w=true) (h2:chkS w=true):∀ i,i≤64→∀ k,k < 16+i→W2D φr (W1 b 128) i k=gU64 w k
 | 0,_,k,hk=>eq_of_beq (all_at h1 (show k < 16 by omega))
 | i+1,hi,k,hk=>by
  simp only [W2D,updF]
  by_cases e:k=i+16
  ·rw [if_pos e,e,W2D_chk h1 h2 i (by omega) i (by omega),W2D_chk h1 h2 i (by omega) (i+1) (by omega),W2D_chk h1 h2 i (by omega) (i+9) (by omega),W2D_chk h1 h2 i (by omega) (i+14) (by omega)]
   exact (eq_of_beq (all_at h2 (show i < 64 by omega))).symm
  ·rw [if_neg e]; exact W2D_chk h1 h2 i (by omega) k (by omega)
theorem X3D_chk {κ w:List UInt64}{X:List (List UInt64)}{W h:Nat→UInt64}(hW:∀ k,k < 80→W k=gU64 w k) (h0:∀ j,j < 8→h j=gU64 (X.getD 0 []) j) (hx:chkX κ w X=true):∀ i,i≤80→∀ j,j < 8→X3D φr (gU64 κ) W h i j=gU64 (X.getD i []) j
 | 0,_,j,hj=>h0 j hj
 | i+1,hi,j,hj=>by
  simp only [X3D,rndD]
  rw [rndLD_congr (X3D_chk hW h0 hx i (by omega)),hW i (by omega)]
  have:=eq_of_beq (all_at hx (show i < 80 by omega))
  rw [this]; rfl
theorem piece_chk {κ w:List UInt64}{X:List (List UInt64)}{b:Nat→UInt8}{h:Nat→UInt64}(h1:chkW b w=true) (h2:chkS w=true) (h0:∀ j,j < 8→h j=gU64 (X.getD 0 []) j) (hx:chkX κ w X=true) (j:Nat) (hj:j < 8) :
  pieceD φr (gU64 κ) h b j=h j+gU64 (X.getD 80 []) j:=by
 have e:∀ x:Nat→UInt64,A4 h x 8 j=h j+x j:=fun x=>by
  have:j=0 ∨ j=1 ∨ j=2 ∨ j=3 ∨ j=4 ∨ j=5 ∨ j=6 ∨ j=7:=by omega
  rcases this with rfl | rfl | rfl | rfl | rfl | rfl | rfl | rfl <;> rfl
 unfold pieceD
 rw [e,X3D_chk (fun k hk=>W2D_chk h1 h2 64 (Nat.le_refl _) k (by omega)) h0 hx 80 (Nat.le_refl _) j hj]
def sumH (X:List (List UInt64)) (j:Nat):UInt64:=nU 8 hF j+gU64 (X.getD 80 []) j
theorem doc_chk {l p:List UInt8}{w:List UInt64}{X:List (List UInt64)}(hp:padL l=p) (hl:p.length / 128=1) (h1:chkW (fun j=>p.getD j 0) w=true) (h2:chkS w=true) (h0:∀ j,j < 8→nU 8 hF j=gU64 (X.getD 0 []) j) (hx:chkX roundsL w X=true):docR l=(List.range 64).map (outB (sumH X)):=by
 unfold docR docF
 rw [hp,hl]
 have word:∀ j,j < 8→foldD (pieceD φr kF) hF p 1 j=sumH X j:=fun j hj=>by
  rw [foldD_succ]
  have e:pieceD φr kF (nU 8 (foldD (pieceD φr kF) hF p 0)) (fun j=>gB (p.map .u8) (128 * 0+j))=pieceD φr (gU64 roundsL) (nU 8 hF) (fun j=>p.getD j 0):=by
   have e2:(fun j=>gB (p.map .u8) (128 * 0+j))=fun j=>p.getD j 0:=funext fun j=>by rw [gB_map,Nat.mul_zero,Nat.zero_add]
   rw [e2]; rfl
  rw [e,piece_chk h1 h2 h0 hx j hj]
  rfl
 apply List.map_congr_left
 intro i hi
 have hi2:i < 64:=List.mem_range.1 hi
 unfold outB
 rw [word _ (by omega)]
def msg0:List UInt8:=[0,0,0,0,0,0,0,0,0,0,0,0,0,0,0,0,0,0,0,0,0,0,0,0,0,0,0,0,0,0,0,0]
def pad0:List UInt8:=[0,0,0,0,0,0,0,0,0,0,0,0,0,0,0,0,0,0,0,0,0,0,0,0,0,0,0,0,0,0,0,0,128,0,0,0,0,0,0,0,0,0,0,0,0,0,0,0,0,0,0,0,0,0,0,0,0,0,0,0,0,0,0,0,0,0,0,0,0,0,0,0,0,0,0,0,0,0,0,0,0,0,0,0,0,0,0,0,0,0,0,0,0,0,0,0,0,0,0,0,0,0,0,0,0,0,0,0,0,0,0,0,0,0,0,0,0,0,0,0,0,0,0,0,0,0,1,0]
def w0:List UInt64:=[0,0,0,0,9223372036854775808,0,0,0,0,0,0,0,0,0,0,256,0,9007199254743044,0,4719772426664165376,9223372036854775808,361985685131002114,144132780261900548,8648063572759674900,1173187702963572776,126768607751657609,13944307785744826688,2667488058145767452,2023559755096263684,3076264096972779889,1827872124046622896,8310353164642315215,12136906272933825081,15545001212044488457,14814700502097700868,12285100419639919475,9670082501097730335,5518604699939968887,9476093506087548489,9796596215299450625,5958344982377384288,12265343076877762427,12165219924428479518,1325243823695169124,11281310535319608749,1034882804047488912,1535714187706151253,649279741799497956,17459309777971477598,5500650830056389434,16562679484493522125,13945535446963880796,15567785657537865457,14580602548817413697,8635629319549429025,14777824508854947588,16911204817919595455,13700561142527922852,2574132088199195008,10308614111758391576,10852703017310842740,16082347588028971208,2184371991873687222,12033888635545163341,10419660119830469926,8585216435925201857,14386434745505789993,7139669067458878980,16562904965169700491,18303181280394127650,7589255923654424011,10370349966052406001,9383377643078173111,7113417478183963821,9287236787583809989,7025827219752386637,2720506219950445715,11463598587821378836,11074598858778813994,3215546073741905920]
def XD0:List (List UInt64):=[[7640891576956012808,13503953896175478587,4354685564936845355,11912009170470909681,5840696475078001361,11170449401992604703,2270897969802886507,6620516959819538809],[10758372976291012085,7640891576956012808,13503953896175478587,4354685564936845355,17827673622936100753,5840696475078001361,11170449401992604703,2270897969802886507],[11115036946241619673,10758372976291012085,7640891576956012808,13503953896175478587,9932265545342369336,17827673622936100753,5840696475078001361,11170449401992604703],[4126266364255868068,11115036946241619673,10758372976291012085,7640891576956012808,4897852136903073097,9932265545342369336,17827673622936100753,5840696475078001361],[5343641584730768695,4126266364255868068,11115036946241619673,10758372976291012085,16523341605267860574,4897852136903073097,9932265545342369336,17827673622936100753],[11168902456601489605,5343641584730768695,4126266364255868068,11115036946241619673,627079433320757529,16523341605267860574,4897852136903073097,9932265545342369336],[1302396440103629798,11168902456601489605,5343641584730768695,4126266364255868068,14806635048689895951,627079433320757529,16523341605267860574,4897852136903073097],[15200776334310210592,1302396440103629798,11168902456601489605,5343641584730768695,15174314027989733557,14806635048689895951,627079433320757529,16523341605267860574],[17208046804368280137,15200776334310210592,1302396440103629798,11168902456601489605,9272832003298536862,15174314027989733557,14806635048689895951,627079433320757529],[8492703388701907715,17208046804368280137,15200776334310210592,1302396440103629798,16034440948875958624,9272832003298536862,15174314027989733557,14806635048689895951],[7755397839558790253,8492703388701907715,17208046804368280137,15200776334310210592,13502761422932650927,16034440948875958624,9272832003298536862,15174314027989733557],[7030135620985194732,7755397839558790253,8492703388701907715,17208046804368280137,2096611521171684090,13502761422932650927,16034440948875958624,9272832003298536862],[2312015059832132880,7030135620985194732,7755397839558790253,8492703388701907715,13672406949288936619,2096611521171684090,13502761422932650927,16034440948875958624],[16523165081541911161,2312015059832132880,7030135620985194732,7755397839558790253,16941445236327295330,13672406949288936619,2096611521171684090,13502761422932650927],[5830777752747395166,16523165081541911161,2312015059832132880,7030135620985194732,18281535139762694881,16941445236327295330,13672406949288936619,2096611521171684090],[10783373218667509365,5830777752747395166,16523165081541911161,2312015059832132880,2421145553396808227,18281535139762694881,16941445236327295330,13672406949288936619],[4479050482935558316,10783373218667509365,5830777752747395166,16523165081541911161,851941326718768001,2421145553396808227,18281535139762694881,16941445236327295330],[11702245667014225582,4479050482935558316,10783373218667509365,5830777752747395166,17300981003431507799,851941326718768001,2421145553396808227,18281535139762694881],[3280029084718757303,11702245667014225582,4479050482935558316,10783373218667509365,16714166088777974375,17300981003431507799,851941326718768001,2421145553396808227],[7259474283948259824,3280029084718757303,11702245667014225582,4479050482935558316,7521305024183279694,16714166088777974375,17300981003431507799,851941326718768001],[12603740802078081619,7259474283948259824,3280029084718757303,11702245667014225582,2439087024015677111,7521305024183279694,16714166088777974375,17300981003431507799],[1537361645710774433,12603740802078081619,7259474283948259824,3280029084718757303,3061020130476478910,2439087024015677111,7521305024183279694,16714166088777974375],[2396587261501461511,1537361645710774433,12603740802078081619,7259474283948259824,18327999007697665139,3061020130476478910,2439087024015677111,7521305024183279694],[15578081726648313859,2396587261501461511,1537361645710774433,12603740802078081619,5182447908206143290,18327999007697665139,3061020130476478910,2439087024015677111],[5464896530425090686,15578081726648313859,2396587261501461511,1537361645710774433,4489227580986569443,5182447908206143290,18327999007697665139,3061020130476478910],[8079588423635971269,5464896530425090686,15578081726648313859,2396587261501461511,963291311694375013,4489227580986569443,5182447908206143290,18327999007697665139],[8590249264134269809,8079588423635971269,5464896530425090686,15578081726648313859,8078194955157153449,963291311694375013,4489227580986569443,5182447908206143290],[7463697391145966002,8590249264134269809,8079588423635971269,5464896530425090686,10553505094661485635,8078194955157153449,963291311694375013,4489227580986569443],[3706265178671430226,7463697391145966002,8590249264134269809,8079588423635971269,10628536666645987242,10553505094661485635,8078194955157153449,963291311694375013],[3525803993081217942,3706265178671430226,7463697391145966002,8590249264134269809,13287781554297122783,10628536666645987242,10553505094661485635,8078194955157153449],[7047087411074569085,3525803993081217942,3706265178671430226,7463697391145966002,13566656608276548562,13287781554297122783,10628536666645987242,10553505094661485635],[5664254687711525247,7047087411074569085,3525803993081217942,3706265178671430226,13874964982419472308,13566656608276548562,13287781554297122783,10628536666645987242],[14726941729103868001,5664254687711525247,7047087411074569085,3525803993081217942,5173953181071844509,13874964982419472308,13566656608276548562,13287781554297122783],[7020929409684525903,14726941729103868001,5664254687711525247,7047087411074569085,5615751895262237939,5173953181071844509,13874964982419472308,13566656608276548562],[8461667706126069220,7020929409684525903,14726941729103868001,5664254687711525247,4941752670844118600,5615751895262237939,5173953181071844509,13874964982419472308],[379464524265310633,8461667706126069220,7020929409684525903,14726941729103868001,16203679033354392874,4941752670844118600,5615751895262237939,5173953181071844509],[15549802313875602274,379464524265310633,8461667706126069220,7020929409684525903,14712077907107959277,16203679033354392874,4941752670844118600,5615751895262237939],[17263284987263657958,15549802313875602274,379464524265310633,8461667706126069220,16337914719854201846,14712077907107959277,16203679033354392874,4941752670844118600],[14638953785217629854,17263284987263657958,15549802313875602274,379464524265310633,6531442153746177128,16337914719854201846,14712077907107959277,16203679033354392874],[18014955160550453689,14638953785217629854,17263284987263657958,15549802313875602274,14194663295104695616,6531442153746177128,16337914719854201846,14712077907107959277],[6109844019387451280,18014955160550453689,14638953785217629854,17263284987263657958,4534933068400390657,14194663295104695616,6531442153746177128,16337914719854201846],[3934753730757518807,6109844019387451280,18014955160550453689,14638953785217629854,7262160739443047838,4534933068400390657,14194663295104695616,6531442153746177128],[11221941365251729549,3934753730757518807,6109844019387451280,18014955160550453689,5752790583666708941,7262160739443047838,4534933068400390657,14194663295104695616],[12170060852399267806,11221941365251729549,3934753730757518807,6109844019387451280,4863095209128836662,5752790583666708941,7262160739443047838,4534933068400390657],[15552401992348485791,12170060852399267806,11221941365251729549,3934753730757518807,8352703515361797755,4863095209128836662,5752790583666708941,7262160739443047838],[7917789096369028140,15552401992348485791,12170060852399267806,11221941365251729549,337867160903401868,8352703515361797755,4863095209128836662,5752790583666708941],[5980717885382567603,7917789096369028140,15552401992348485791,12170060852399267806,10992113497116646001,337867160903401868,8352703515361797755,4863095209128836662],[2164993625293247554,5980717885382567603,7917789096369028140,15552401992348485791,16909216741560437109,10992113497116646001,337867160903401868,8352703515361797755],[6484337866056519823,2164993625293247554,5980717885382567603,7917789096369028140,11893120751304626942,16909216741560437109,10992113497116646001,337867160903401868],[4514939707137230467,6484337866056519823,2164993625293247554,5980717885382567603,1125160240832120182,11893120751304626942,16909216741560437109,10992113497116646001],[15645523297110002428,4514939707137230467,6484337866056519823,2164993625293247554,3626739556018553871,1125160240832120182,11893120751304626942,16909216741560437109],[16447334635902428014,15645523297110002428,4514939707137230467,6484337866056519823,14023129358220355687,3626739556018553871,1125160240832120182,11893120751304626942],[17023595609519142724,16447334635902428014,15645523297110002428,4514939707137230467,11177193476556092421,14023129358220355687,3626739556018553871,1125160240832120182],[6401030026082633268,17023595609519142724,16447334635902428014,15645523297110002428,15308037697050920686,11177193476556092421,14023129358220355687,3626739556018553871],[14333128423172872232,6401030026082633268,17023595609519142724,16447334635902428014,15298117696424949212,15308037697050920686,11177193476556092421,14023129358220355687],[2340657871528695503,14333128423172872232,6401030026082633268,17023595609519142724,6818534125984460103,15298117696424949212,15308037697050920686,11177193476556092421],[17181778841757954467,2340657871528695503,14333128423172872232,6401030026082633268,15841754175645970547,6818534125984460103,15298117696424949212,15308037697050920686],[8316550594923792609,17181778841757954467,2340657871528695503,14333128423172872232,5658120392235887474,15841754175645970547,6818534125984460103,15298117696424949212],[16525350475053332148,8316550594923792609,17181778841757954467,2340657871528695503,15136793916924334787,5658120392235887474,15841754175645970547,6818534125984460103],[16732118037317178048,16525350475053332148,8316550594923792609,17181778841757954467,3774921253118411700,15136793916924334787,5658120392235887474,15841754175645970547],[10477334923476079977,16732118037317178048,16525350475053332148,8316550594923792609,4564036060695640955,3774921253118411700,15136793916924334787,5658120392235887474],[1675981542843284747,10477334923476079977,16732118037317178048,16525350475053332148,825740300549928085,4564036060695640955,3774921253118411700,15136793916924334787],[18002758202473554379,1675981542843284747,10477334923476079977,16732118037317178048,4891636288461320038,825740300549928085,4564036060695640955,3774921253118411700],[18349958183428923895,18002758202473554379,1675981542843284747,10477334923476079977,12384616198518925361,4891636288461320038,825740300549928085,4564036060695640955],[14263519478537648808,18349958183428923895,18002758202473554379,1675981542843284747,3806274531594431357,12384616198518925361,4891636288461320038,825740300549928085],[2518871767924734864,14263519478537648808,18349958183428923895,18002758202473554379,10885499170187179968,3806274531594431357,12384616198518925361,4891636288461320038],[10167427158072057591,2518871767924734864,14263519478537648808,18349958183428923895,14923328952548945946,10885499170187179968,3806274531594431357,12384616198518925361],[6453938761489340098,10167427158072057591,2518871767924734864,14263519478537648808,7469784290968133967,14923328952548945946,10885499170187179968,3806274531594431357],[15156157019208777747,6453938761489340098,10167427158072057591,2518871767924734864,14829823243297303650,7469784290968133967,14923328952548945946,10885499170187179968],[17406653508796741912,15156157019208777747,6453938761489340098,10167427158072057591,2125308069535244253,14829823243297303650,7469784290968133967,14923328952548945946],[1570791217848826313,17406653508796741912,15156157019208777747,6453938761489340098,8272582750246839156,2125308069535244253,14829823243297303650,7469784290968133967],[14488324544568235627,1570791217848826313,17406653508796741912,15156157019208777747,10039812137888914178,8272582750246839156,2125308069535244253,14829823243297303650],[13060178779355539256,14488324544568235627,1570791217848826313,17406653508796741912,8486314926255750478,10039812137888914178,8272582750246839156,2125308069535244253],[18328841029446720343,13060178779355539256,14488324544568235627,1570791217848826313,6817047941946052733,8486314926255750478,10039812137888914178,8272582750246839156],[18170168180967726918,18328841029446720343,13060178779355539256,14488324544568235627,1142590970254049387,6817047941946052733,8486314926255750478,10039812137888914178],[3931110873737423470,18170168180967726918,18328841029446720343,13060178779355539256,6248892937991631189,1142590970254049387,6817047941946052733,8486314926255750478],[5567541349902180190,3931110873737423470,18170168180967726918,18328841029446720343,3003314452009162791,6248892937991631189,1142590970254049387,6817047941946052733],[5776266022435338917,5567541349902180190,3931110873737423470,18170168180967726918,2551491534185647194,3003314452009162791,6248892937991631189,1142590970254049387],[2037463206167937637,5776266022435338917,5567541349902180190,3931110873737423470,16194014959973738944,2551491534185647194,3003314452009162791,6248892937991631189],[13818184367001344771,2037463206167937637,5776266022435338917,5567541349902180190,11114007369083713373,16194014959973738944,2551491534185647194,3003314452009162791],[16590354316283047806,13818184367001344771,2037463206167937637,5776266022435338917,13356607129400399863,11114007369083713373,16194014959973738944,2551491534185647194]]
def dig0:List UInt8:=[80,70,173,193,219,168,56,134,123,43,187,253,208,195,66,62,88,181,121,112,181,38,122,144,245,121,96,146,74,135,241,150,10,106,133,234,166,66,218,200,53,66,75,93,124,141,99,124,0,64,140,122,115,218,103,43,127,73,133,33,66,11,109,211]
theorem pad0_eq:padL msg0=pad0:=by decide +kernel
theorem chkW0:chkW (fun j=>pad0.getD j 0) w0=true:=by kernel_rfl
theorem chkS0:chkS w0=true:=by kernel_rfl
theorem chkX0:chkX roundsL w0 XD0=true:=by kernel_rfl
theorem dig0_eq:docR msg0=dig0:=by
 rw [doc_chk pad0_eq (by decide +kernel) chkW0 chkS0 (X:=XD0) (by decide +kernel) chkX0]
 kernel_rfl
def msg1:List UInt8:=[10,106,133,234,166,66,218,200,53,66,75,93,124,141,99,124,0,64,140,122,115,218,103,43,127,73,133,33,66,11,109,211,116,101,120,116]
def pad1:List UInt8:=[10,106,133,234,166,66,218,200,53,66,75,93,124,141,99,124,0,64,140,122,115,218,103,43,127,73,133,33,66,11,109,211,116,101,120,116,128,0,0,0,0,0,0,0,0,0,0,0,0,0,0,0,0,0,0,0,0,0,0,0,0,0,0,0,0,0,0,0,0,0,0,0,0,0,0,0,0,0,0,0,0,0,0,0,0,0,0,0,0,0,0,0,0,0,0,0,0,0,0,0,0,0,0,0,0,0,0,0,0,0,0,0,0,0,0,0,0,0,0,0,0,0,0,0,0,0,1,32]
def w1:List UInt64:=[750559530768849608,3837712697366766460,18168856067073835,9172008494005186003,8387242322806439936,0,0,0,0,0,0,0,0,0,0,288,8172178851288711395,16178850739266177468,13184329770222612898,10987296798125727252,18416343984124410788,9400903734819522590,10958711670980846797,5920321529425694664,6257621101859338660,14479121345185470063,5858713978585951938,10233119413801548922,8171379153922904460,13097327218590637353,5974510115659034577,1830976645559501713,3150478362048407237,7912051182054136982,15583877852681308480,17940814351173241182,9544907037481446283,14060173647201376905,1743797302923894886,438570371368955896,1493942602807139738,2369428513030719986,13049851311102140571,16523007612248596867,16490534170042785258,1460151693016687844,5016664017083791087,2132067666984261489,3470400670908062526,1612117446509641615,8355501289967693788,855730398845792876,7932689595244161440,3770547529632113482,14196430168108636798,14178703362395727667,1545238845582394963,3385671332616731359,2636178310056486317,8405715174811049342,1717589454276026018,12506133091993017727,4579421329283004491,13743187758681813310,1069788162326311876,16822374551475858656,12902488593343955805,14483897662821333909,5686833033852663320,13118865488958974168,17623073699472541017,18222895667829772336,10297663202582650427,4036058505827753004,2386630437937518415,9284280203590407112,5813298476710950554,14798853600712335378,13260629003527045316,9032228332966153704]
def XD1:List (List UInt64):=[[7640891576956012808,13503953896175478587,4354685564936845355,11912009170470909681,5840696475078001361,11170449401992604703,2270897969802886507,6620516959819538809],[11508932507059861693,7640891576956012808,13503953896175478587,4354685564936845355,131489079995398745,5840696475078001361,11170449401992604703,2270897969802886507],[2485968504658123344,11508932507059861693,7640891576956012808,13503953896175478587,17714031664895469478,131489079995398745,5840696475078001361,11170449401992604703],[13795627049530891592,2485968504658123344,11508932507059861693,7640891576956012808,2068901488057841030,17714031664895469478,131489079995398745,5840696475078001361],[8933270148465558266,13795627049530891592,2485968504658123344,11508932507059861693,5612410083633048772,2068901488057841030,17714031664895469478,131489079995398745],[3677496828665251651,8933270148465558266,13795627049530891592,2485968504658123344,1313423988650093691,5612410083633048772,2068901488057841030,17714031664895469478],[16180658513941775127,3677496828665251651,8933270148465558266,13795627049530891592,17119283879505488976,1313423988650093691,5612410083633048772,2068901488057841030],[913493271653264818,16180658513941775127,3677496828665251651,8933270148465558266,7128281017916416237,17119283879505488976,1313423988650093691,5612410083633048772],[6088806482001140886,913493271653264818,16180658513941775127,3677496828665251651,1789204086299542087,7128281017916416237,17119283879505488976,1313423988650093691],[3694041135436908960,6088806482001140886,913493271653264818,16180658513941775127,3106299597292299572,1789204086299542087,7128281017916416237,17119283879505488976],[16449905076575344752,3694041135436908960,6088806482001140886,913493271653264818,1759816037332660314,3106299597292299572,1789204086299542087,7128281017916416237],[3198448970197690439,16449905076575344752,3694041135436908960,6088806482001140886,2273659157830026366,1759816037332660314,3106299597292299572,1789204086299542087],[222585616160904028,3198448970197690439,16449905076575344752,3694041135436908960,1509186575950109835,2273659157830026366,1759816037332660314,3106299597292299572],[11806280291936876030,222585616160904028,3198448970197690439,16449905076575344752,3138134987294150338,1509186575950109835,2273659157830026366,1759816037332660314],[9472125922349782405,11806280291936876030,222585616160904028,3198448970197690439,2078872368395177106,3138134987294150338,1509186575950109835,2273659157830026366],[7138003036830236781,9472125922349782405,11806280291936876030,222585616160904028,16363492710675005431,2078872368395177106,3138134987294150338,1509186575950109835],[14576027401778885042,7138003036830236781,9472125922349782405,11806280291936876030,7511821647375400637,16363492710675005431,2078872368395177106,3138134987294150338],[4025112601888218293,14576027401778885042,7138003036830236781,9472125922349782405,3895617391163820536,7511821647375400637,16363492710675005431,2078872368395177106],[14665030710716333400,4025112601888218293,14576027401778885042,7138003036830236781,10914916360019848266,3895617391163820536,7511821647375400637,16363492710675005431],[9217477186169321899,14665030710716333400,4025112601888218293,14576027401778885042,4752168186128982352,10914916360019848266,3895617391163820536,7511821647375400637],[6023854871475250099,9217477186169321899,14665030710716333400,4025112601888218293,6941948488666372246,4752168186128982352,10914916360019848266,3895617391163820536],[8382673204331128315,6023854871475250099,9217477186169321899,14665030710716333400,7924770300840023952,6941948488666372246,4752168186128982352,10914916360019848266],[9725517616045794501,8382673204331128315,6023854871475250099,9217477186169321899,5160135992509061069,7924770300840023952,6941948488666372246,4752168186128982352],[8095769217896102550,9725517616045794501,8382673204331128315,6023854871475250099,2556427345673687954,5160135992509061069,7924770300840023952,6941948488666372246],[13260007253169683927,8095769217896102550,9725517616045794501,8382673204331128315,9740003933504438334,2556427345673687954,5160135992509061069,7924770300840023952],[13421802344753348375,13260007253169683927,8095769217896102550,9725517616045794501,17409185867272108115,9740003933504438334,2556427345673687954,5160135992509061069],[14634374187685782859,13421802344753348375,13260007253169683927,8095769217896102550,5423096667458516908,17409185867272108115,9740003933504438334,2556427345673687954],[3238143521409065136,14634374187685782859,13421802344753348375,13260007253169683927,6835485195569643871,5423096667458516908,17409185867272108115,9740003933504438334],[7549915692690587426,3238143521409065136,14634374187685782859,13421802344753348375,17696665424862153965,6835485195569643871,5423096667458516908,17409185867272108115],[13079037423271549923,7549915692690587426,3238143521409065136,14634374187685782859,16949059204422308232,17696665424862153965,6835485195569643871,5423096667458516908],[12866750314188626887,13079037423271549923,7549915692690587426,3238143521409065136,2258691150005735997,16949059204422308232,17696665424862153965,6835485195569643871],[4744268138694035816,12866750314188626887,13079037423271549923,7549915692690587426,12569980463578388954,2258691150005735997,16949059204422308232,17696665424862153965],[3878866690212675224,4744268138694035816,12866750314188626887,13079037423271549923,16960752442937122163,12569980463578388954,2258691150005735997,16949059204422308232],[3386724500869090544,3878866690212675224,4744268138694035816,12866750314188626887,4549457123282242205,16960752442937122163,12569980463578388954,2258691150005735997],[16099205014449260054,3386724500869090544,3878866690212675224,4744268138694035816,7293896271872514223,4549457123282242205,16960752442937122163,12569980463578388954],[4042601185012038071,16099205014449260054,3386724500869090544,3878866690212675224,15737069644432964163,7293896271872514223,4549457123282242205,16960752442937122163],[105813442604283125,4042601185012038071,16099205014449260054,3386724500869090544,11485889962932922902,15737069644432964163,7293896271872514223,4549457123282242205],[892390799560201824,105813442604283125,4042601185012038071,16099205014449260054,14735803136337597891,11485889962932922902,15737069644432964163,7293896271872514223],[2956511827842573616,892390799560201824,105813442604283125,4042601185012038071,10274305564659753113,14735803136337597891,11485889962932922902,15737069644432964163],[16681902216022728139,2956511827842573616,892390799560201824,105813442604283125,4680241863248496707,10274305564659753113,14735803136337597891,11485889962932922902],[17030163194248075928,16681902216022728139,2956511827842573616,892390799560201824,14670790558273657512,4680241863248496707,10274305564659753113,14735803136337597891],[12993302880718919321,17030163194248075928,16681902216022728139,2956511827842573616,12481936378279264231,14670790558273657512,4680241863248496707,10274305564659753113],[7341403289522778364,12993302880718919321,17030163194248075928,16681902216022728139,12347791603210778517,12481936378279264231,14670790558273657512,4680241863248496707],[13230310803140874705,7341403289522778364,12993302880718919321,17030163194248075928,12707455595303293120,12347791603210778517,12481936378279264231,14670790558273657512],[12171666974091493079,13230310803140874705,7341403289522778364,12993302880718919321,2714208641846409840,12707455595303293120,12347791603210778517,12481936378279264231],[1148156909440427766,12171666974091493079,13230310803140874705,7341403289522778364,12262041166004546302,2714208641846409840,12707455595303293120,12347791603210778517],[13485943602022384049,1148156909440427766,12171666974091493079,13230310803140874705,15740932826187549512,12262041166004546302,2714208641846409840,12707455595303293120],[2462162172890278646,13485943602022384049,1148156909440427766,12171666974091493079,3489873071951662570,15740932826187549512,12262041166004546302,2714208641846409840],[15457724930134297927,2462162172890278646,13485943602022384049,1148156909440427766,9445671440789795275,3489873071951662570,15740932826187549512,12262041166004546302],[10443028509412403846,15457724930134297927,2462162172890278646,13485943602022384049,9820517498956019389,9445671440789795275,3489873071951662570,15740932826187549512],[14256134067945972347,10443028509412403846,15457724930134297927,2462162172890278646,17354040143566523126,9820517498956019389,9445671440789795275,3489873071951662570],[6814834653708086541,14256134067945972347,10443028509412403846,15457724930134297927,13997861240547146167,17354040143566523126,9820517498956019389,9445671440789795275],[17270837350601205199,6814834653708086541,14256134067945972347,10443028509412403846,5475534566674783370,13997861240547146167,17354040143566523126,9820517498956019389],[6258265003732552065,17270837350601205199,6814834653708086541,14256134067945972347,9688617381776463442,5475534566674783370,13997861240547146167,17354040143566523126],[18137250000899315728,6258265003732552065,17270837350601205199,6814834653708086541,5089143684887241249,9688617381776463442,5475534566674783370,13997861240547146167],[6473350300803361507,18137250000899315728,6258265003732552065,17270837350601205199,6691940850278896842,5089143684887241249,9688617381776463442,5475534566674783370],[13193608044636355330,6473350300803361507,18137250000899315728,6258265003732552065,6403996106497527302,6691940850278896842,5089143684887241249,9688617381776463442],[13440833212137077247,13193608044636355330,6473350300803361507,18137250000899315728,18338200328851803314,6403996106497527302,6691940850278896842,5089143684887241249],[11689617399649537125,13440833212137077247,13193608044636355330,6473350300803361507,9780356908517485463,18338200328851803314,6403996106497527302,6691940850278896842],[14845223922247509528,11689617399649537125,13440833212137077247,13193608044636355330,3476642940042084872,9780356908517485463,18338200328851803314,6403996106497527302],[4477315858103338447,14845223922247509528,11689617399649537125,13440833212137077247,143679585358061499,3476642940042084872,9780356908517485463,18338200328851803314],[17618481935032611439,4477315858103338447,14845223922247509528,11689617399649537125,17871143141204514293,143679585358061499,3476642940042084872,9780356908517485463],[16785929029491407669,17618481935032611439,4477315858103338447,14845223922247509528,18350653981875091856,17871143141204514293,143679585358061499,3476642940042084872],[750930483617312208,16785929029491407669,17618481935032611439,4477315858103338447,13209325275850049379,18350653981875091856,17871143141204514293,143679585358061499],[5878218512426417029,750930483617312208,16785929029491407669,17618481935032611439,10708617274183462686,13209325275850049379,18350653981875091856,17871143141204514293],[230259317424175943,5878218512426417029,750930483617312208,16785929029491407669,7326645549770779657,10708617274183462686,13209325275850049379,18350653981875091856],[16445893357836147040,230259317424175943,5878218512426417029,750930483617312208,8514076024522161122,7326645549770779657,10708617274183462686,13209325275850049379],[2204500015214757485,16445893357836147040,230259317424175943,5878218512426417029,12207081989503688487,8514076024522161122,7326645549770779657,10708617274183462686],[4552418460753484857,2204500015214757485,16445893357836147040,230259317424175943,12867747532049971297,12207081989503688487,8514076024522161122,7326645549770779657],[10282195699036152035,4552418460753484857,2204500015214757485,16445893357836147040,14457449396555349577,12867747532049971297,12207081989503688487,8514076024522161122],[9519381492918177327,10282195699036152035,4552418460753484857,2204500015214757485,1414371170206481213,14457449396555349577,12867747532049971297,12207081989503688487],[17138792811835949375,9519381492918177327,10282195699036152035,4552418460753484857,9750868645339384955,1414371170206481213,14457449396555349577,12867747532049971297],[10317094583881139525,17138792811835949375,9519381492918177327,10282195699036152035,9455404865551153424,9750868645339384955,1414371170206481213,14457449396555349577],[15444557032910964426,10317094583881139525,17138792811835949375,9519381492918177327,11318957645020546395,9455404865551153424,9750868645339384955,1414371170206481213],[7456891514089023622,15444557032910964426,10317094583881139525,17138792811835949375,9989313826737892405,11318957645020546395,9455404865551153424,9750868645339384955],[9050345554638793915,7456891514089023622,15444557032910964426,10317094583881139525,11539731483082991512,9989313826737892405,11318957645020546395,9455404865551153424],[17717422163960017991,9050345554638793915,7456891514089023622,15444557032910964426,1832905535542646647,11539731483082991512,9989313826737892405,11318957645020546395],[11145616313259798721,17717422163960017991,9050345554638793915,7456891514089023622,6580079469259499305,1832905535542646647,11539731483082991512,9989313826737892405],[9475505157884729449,11145616313259798721,17717422163960017991,9050345554638793915,1351848391722487308,6580079469259499305,1832905535542646647,11539731483082991512],[8675975349195063296,9475505157884729449,11145616313259798721,17717422163960017991,7144074614551603289,1351848391722487308,6580079469259499305,1832905535542646647],[2218876695761766101,8675975349195063296,9475505157884729449,11145616313259798721,7879823713545200561,7144074614551603289,1351848391722487308,6580079469259499305]]
def dig1:List UInt8:=[136,212,239,1,55,2,143,221,51,206,240,34,101,155,231,59,191,238,181,47,217,174,208,148,63,253,36,54,129,195,103,178,190,105,20,106,200,118,38,130,254,42,66,142,252,122,84,120,50,70,148,159,38,15,11,119,183,49,240,131,50,139,200,162]
theorem pad1_eq:padL msg1=pad1:=by decide +kernel
theorem chkW1:chkW (fun j=>pad1.getD j 0) w1=true:=by kernel_rfl
theorem chkS1:chkS w1=true:=by kernel_rfl
theorem chkX1:chkX roundsL w1 XD1=true:=by kernel_rfl
theorem dig1_eq:docR msg1=dig1:=by
 rw [doc_chk pad1_eq (by decide +kernel) chkW1 chkS1 (X:=XD1) (by decide +kernel) chkX1]
 kernel_rfl
def msg2:List UInt8:=[14,186,195,4,107,49,207,22,124,98,116,156,217,148,29,121,29,24,142,196,46,189,59,57,131,192,14,94,171,221,154,200,59,106,39,188,206,182,164,45,98,163,168,208,42,111,13,115,101,50,21,119,29,226,67,166,58,192,72,161,139,89,218,41,116,101,120,116]
def pad2:List UInt8:=[14,186,195,4,107,49,207,22,124,98,116,156,217,148,29,121,29,24,142,196,46,189,59,57,131,192,14,94,171,221,154,200,59,106,39,188,206,182,164,45,98,163,168,208,42,111,13,115,101,50,21,119,29,226,67,166,58,192,72,161,139,89,218,41,116,101,120,116,128,0,0,0,0,0,0,0,0,0,0,0,0,0,0,0,0,0,0,0,0,0,0,0,0,0,0,0,0,0,0,0,0,0,0,0,0,0,0,0,0,0,0,0,0,0,0,0,0,0,0,0,0,0,0,0,0,0,2,32]
def w2:List UInt64:=[1061375085944885014,8962854425434791289,2096582599789853497,9493603814270147272,4281278087644488749,7107710248939359603,7291914348012913574,4233463508393122345,8387242322806439936,0,0,0,0,0,0,544,15451955703711957425,3770044562995775826,9685513759305246742,14424142897325846254,12877485147779564064,14876985546682175593,5809753849601377141,3348548711230495670,9576453025997545835,9112534128947430262,8159006097699877614,9573772924868587631,919700137341466741,11211960032692431697,2278626137085429718,8353162846312811798,16274156623772678284,8167609344852865244,15632686164508171501,9985784634144432540,3253020748801195005,17182251635315239315,3800722863122730288,7378927798861208331,4358658332646792694,5708310891908587134,17391212975070582081,11007854578713882203,312221516364701818,2593301231766389421,12979469813727899090,3848520303274239710,13526939020304516208,5913011296789468363,9959266933957128027,14877778463938363409,4944520871377739637,3859275513276274818,4093826686130986174,18035762733989840301,7911697594579201526,10029796676269983335,5832508780888983123,644121929973677656,8970952685645387217,8576412984293869508,3173414298750073550,13856971081781531848,11642962061261558797,11420220916200484565,10321277303028983905,7403851260628676033,15209357521571339367,402881760643910681,5376310730055965768,14511602807649952020,17117755851008708372,8796288969695731646,16301172166003379198,5640777829911622998,3201615938461026063,2875110930423677747,15706094572397764478,7624440773703310456]
def XD2:List (List UInt64):=[[7640891576956012808,13503953896175478587,4354685564936845355,11912009170470909681,5840696475078001361,11170449401992604703,2270897969802886507,6620516959819538809],[11819748062235897099,7640891576956012808,13503953896175478587,4354685564936845355,442304635171434151,5840696475078001361,11170449401992604703,2270897969802886507],[16151555680418539432,11819748062235897099,7640891576956012808,13503953896175478587,13824354291137608391,442304635171434151,5840696475078001361,11170449401992604703],[10394253696933487311,16151555680418539432,11819748062235897099,7640891576956012808,13241470826530358481,13824354291137608391,442304635171434151,5840696475078001361],[7155433546836398814,10394253696933487311,16151555680418539432,11819748062235897099,2754157355313106364,13241470826530358481,13824354291137608391,442304635171434151],[4229902945461707296,7155433546836398814,10394253696933487311,16151555680418539432,17738773726599369512,2754157355313106364,13241470826530358481,13824354291137608391],[14884004554638493832,4229902945461707296,7155433546836398814,10394253696933487311,12167557307115348636,17738773726599369512,2754157355313106364,13241470826530358481],[8139770155474714445,14884004554638493832,4229902945461707296,7155433546836398814,8552999243079667751,12167557307115348636,17738773726599369512,2754157355313106364],[14159633049619928036,8139770155474714445,14884004554638493832,4229902945461707296,6621820700729777153,8552999243079667751,12167557307115348636,17738773726599369512],[13752802279893305276,14159633049619928036,8139770155474714445,14884004554638493832,7852581412916549588,6621820700729777153,8552999243079667751,12167557307115348636],[10949975289873978485,13752802279893305276,14159633049619928036,8139770155474714445,10939575284274576058,7852581412916549588,6621820700729777153,8552999243079667751],[17102859924910068341,10949975289873978485,13752802279893305276,14159633049619928036,6767259689710407044,10939575284274576058,7852581412916549588,6621820700729777153],[6939421022419485493,17102859924910068341,10949975289873978485,13752802279893305276,8871923788239204271,6767259689710407044,10939575284274576058,7852581412916549588],[17843873034539818132,6939421022419485493,17102859924910068341,10949975289873978485,10285199582214033796,8871923788239204271,6767259689710407044,10939575284274576058],[2141581752228421223,17843873034539818132,6939421022419485493,17102859924910068341,5556983381356326800,10285199582214033796,8871923788239204271,6767259689710407044],[18122768491617616635,2141581752228421223,17843873034539818132,6939421022419485493,8240551237054724005,5556983381356326800,10285199582214033796,8871923788239204271],[5871285599956406059,18122768491617616635,2141581752228421223,17843873034539818132,14194521245485340342,8240551237054724005,5556983381356326800,10285199582214033796],[6442012895931083254,5871285599956406059,18122768491617616635,2141581752228421223,15877166490987511741,14194521245485340342,8240551237054724005,5556983381356326800],[17459682329210730187,6442012895931083254,5871285599956406059,18122768491617616635,17071964056233434191,15877166490987511741,14194521245485340342,8240551237054724005],[14416787823864646686,17459682329210730187,6442012895931083254,5871285599956406059,13573618516442651552,17071964056233434191,15877166490987511741,14194521245485340342],[12357946353579660917,14416787823864646686,17459682329210730187,6442012895931083254,13156382703648731012,13573618516442651552,17071964056233434191,15877166490987511741],[7979464018922345483,12357946353579660917,14416787823864646686,17459682329210730187,6796463153489101626,13156382703648731012,13573618516442651552,17071964056233434191],[816232602733770610,7979464018922345483,12357946353579660917,14416787823864646686,1129764626145202087,6796463153489101626,13156382703648731012,13573618516442651552],[12567150284860538219,816232602733770610,7979464018922345483,12357946353579660917,11949252057775477074,1129764626145202087,6796463153489101626,13156382703648731012],[13729232240523847038,12567150284860538219,816232602733770610,7979464018922345483,6775749068229062212,11949252057775477074,1129764626145202087,6796463153489101626],[14661802527642093415,13729232240523847038,12567150284860538219,816232602733770610,12879835600521099185,6775749068229062212,11949252057775477074,1129764626145202087],[5815614520473492203,14661802527642093415,13729232240523847038,12567150284860538219,17769926957082946086,12879835600521099185,6775749068229062212,11949252057775477074],[13267730975076536116,5815614520473492203,14661802527642093415,13729232240523847038,554670266929231589,17769926957082946086,12879835600521099185,6775749068229062212],[5204086754341393179,13267730975076536116,5815614520473492203,14661802527642093415,8859088032501972199,554670266929231589,17769926957082946086,12879835600521099185],[9166073808691742033,5204086754341393179,13267730975076536116,5815614520473492203,2690740108585592096,8859088032501972199,554670266929231589,17769926957082946086],[1114754615496918196,9166073808691742033,5204086754341393179,13267730975076536116,6772301292721016413,2690740108585592096,8859088032501972199,554670266929231589],[9798515189588874936,1114754615496918196,9166073808691742033,5204086754341393179,13111367713622376733,6772301292721016413,2690740108585592096,8859088032501972199],[9521675085159291906,9798515189588874936,1114754615496918196,9166073808691742033,17365967237478150592,13111367713622376733,6772301292721016413,2690740108585592096],[4306030347007166009,9521675085159291906,9798515189588874936,1114754615496918196,14975353448395395423,17365967237478150592,13111367713622376733,6772301292721016413],[12313616437555582990,4306030347007166009,9521675085159291906,9798515189588874936,15857069523098421569,14975353448395395423,17365967237478150592,13111367713622376733],[622769449857781684,12313616437555582990,4306030347007166009,9521675085159291906,13665910321775578924,15857069523098421569,14975353448395395423,17365967237478150592],[11376838135265718533,622769449857781684,12313616437555582990,4306030347007166009,12437577194939846261,13665910321775578924,15857069523098421569,14975353448395395423],[10199352811237423831,11376838135265718533,622769449857781684,12313616437555582990,4033788911418858300,12437577194939846261,13665910321775578924,15857069523098421569],[16251161775362815386,10199352811237423831,11376838135265718533,622769449857781684,16204252402408257066,4033788911418858300,12437577194939846261,13665910321775578924],[14835451326250579144,16251161775362815386,10199352811237423831,11376838135265718533,14487090714288511312,16204252402408257066,4033788911418858300,12437577194939846261],[12412626723739287703,14835451326250579144,16251161775362815386,10199352811237423831,507173542781974416,14487090714288511312,16204252402408257066,4033788911418858300],[1295708257339917804,12412626723739287703,14835451326250579144,16251161775362815386,3980046397085386198,507173542781974416,14487090714288511312,16204252402408257066],[14885160837487369779,1295708257339917804,12412626723739287703,14835451326250579144,6982774973798232892,3980046397085386198,507173542781974416,14487090714288511312],[3304282766066289870,14885160837487369779,1295708257339917804,12412626723739287703,15974058508848649826,6982774973798232892,3980046397085386198,507173542781974416],[5937414204096533968,3304282766066289870,14885160837487369779,1295708257339917804,11265684424803435371,15974058508848649826,6982774973798232892,3980046397085386198],[11395797332077982415,5937414204096533968,3304282766066289870,14885160837487369779,1469652674133000104,11265684424803435371,15974058508848649826,6982774973798232892],[3138653988208723229,11395797332077982415,5937414204096533968,3304282766066289870,14997607002171569558,1469652674133000104,11265684424803435371,15974058508848649826],[7896264629704586312,3138653988208723229,11395797332077982415,5937414204096533968,13196412330682862148,14997607002171569558,1469652674133000104,11265684424803435371],[10862053724962245927,7896264629704586312,3138653988208723229,11395797332077982415,2081603446940983626,13196412330682862148,14997607002171569558,1469652674133000104],[13456415840821714966,10862053724962245927,7896264629704586312,3138653988208723229,15445222681667223098,2081603446940983626,13196412330682862148,14997607002171569558],[8029032273062311885,13456415840821714966,10862053724962245927,7896264629704586312,8044580629691905836,15445222681667223098,2081603446940983626,13196412330682862148],[12476721526878413227,8029032273062311885,13456415840821714966,10862053724962245927,1731559691902133964,8044580629691905836,15445222681667223098,2081603446940983626],[6314165584518203430,12476721526878413227,8029032273062311885,13456415840821714966,13938542477486764083,1731559691902133964,8044580629691905836,15445222681667223098],[18223938745760363771,6314165584518203430,12476721526878413227,8029032273062311885,7344466729329498591,13938542477486764083,1731559691902133964,8044580629691905836],[1819728140135098795,18223938745760363771,6314165584518203430,12476721526878413227,7341879236933996508,7344466729329498591,13938542477486764083,1731559691902133964],[17640513952060738377,1819728140135098795,18223938745760363771,6314165584518203430,5633945776599340595,7341879236933996508,7344466729329498591,13938542477486764083],[3943500419580950078,17640513952060738377,1819728140135098795,18223938745760363771,11054888815365105657,5633945776599340595,7341879236933996508,7344466729329498591],[9888451423859334520,3943500419580950078,17640513952060738377,1819728140135098795,218467120496881575,11054888815365105657,5633945776599340595,7341879236933996508],[3421057622628710152,9888451423859334520,3943500419580950078,17640513952060738377,6736439154693709376,218467120496881575,11054888815365105657,5633945776599340595],[4994499358104009364,3421057622628710152,9888451423859334520,3943500419580950078,8969992685104227264,6736439154693709376,218467120496881575,11054888815365105657],[7875153642333838562,4994499358104009364,3421057622628710152,9888451423859334520,9520141218929215780,8969992685104227264,6736439154693709376,218467120496881575],[5093832102024545072,7875153642333838562,4994499358104009364,3421057622628710152,17296642631449144165,9520141218929215780,8969992685104227264,6736439154693709376],[17364977025802231213,5093832102024545072,7875153642333838562,4994499358104009364,5909295615453031327,17296642631449144165,9520141218929215780,8969992685104227264],[7358679855208323241,17364977025802231213,5093832102024545072,7875153642333838562,15220896187268698865,5909295615453031327,17296642631449144165,9520141218929215780],[17948142587425290331,7358679855208323241,17364977025802231213,5093832102024545072,9332447632199963037,15220896187268698865,5909295615453031327,17296642631449144165],[18112346348455479629,17948142587425290331,7358679855208323241,17364977025802231213,11101885902252485736,9332447632199963037,15220896187268698865,5909295615453031327],[1318073656862098533,18112346348455479629,17948142587425290331,7358679855208323241,4807620529817669687,11101885902252485736,9332447632199963037,15220896187268698865],[11258641043630766480,1318073656862098533,18112346348455479629,17948142587425290331,2191263950138269640,4807620529817669687,11101885902252485736,9332447632199963037],[5767884394108451677,11258641043630766480,1318073656862098533,18112346348455479629,7652525901995881618,2191263950138269640,4807620529817669687,11101885902252485736],[5422203520344791297,5767884394108451677,11258641043630766480,1318073656862098533,11015567418840493662,7652525901995881618,2191263950138269640,4807620529817669687],[13231861111709455232,5422203520344791297,5767884394108451677,11258641043630766480,8932887532414227989,11015567418840493662,7652525901995881618,2191263950138269640],[8692506035654099939,13231861111709455232,5422203520344791297,5767884394108451677,14742993958055650973,8932887532414227989,11015567418840493662,7652525901995881618],[11897145183917172558,8692506035654099939,13231861111709455232,5422203520344791297,1832040252023722282,14742993958055650973,8932887532414227989,11015567418840493662],[7964165189274877848,11897145183917172558,8692506035654099939,13231861111709455232,5227968814193245463,1832040252023722282,14742993958055650973,8932887532414227989],[18317510825018644714,7964165189274877848,11897145183917172558,8692506035654099939,2282385426402348708,5227968814193245463,1832040252023722282,14742993958055650973],[7077023537704663264,18317510825018644714,7964165189274877848,11897145183917172558,5596824697008311861,2282385426402348708,5227968814193245463,1832040252023722282],[13554564832986107460,7077023537704663264,18317510825018644714,7964165189274877848,8985207433732196768,5596824697008311861,2282385426402348708,5227968814193245463],[3718409537964967790,13554564832986107460,7077023537704663264,18317510825018644714,4896423930507118206,8985207433732196768,5596824697008311861,2282385426402348708],[2060178945327746497,3718409537964967790,13554564832986107460,7077023537704663264,8344737747902227284,4896423930507118206,8985207433732196768,5596824697008311861],[10970092128816514317,2060178945327746497,3718409537964967790,13554564832986107460,17408648228424823121,8344737747902227284,4896423930507118206,8985207433732196768],[15362366162194017638,10970092128816514317,2060178945327746497,3718409537964967790,5029999270981230254,17408648228424823121,8344737747902227284,4896423930507118206]]
def dig2:List UInt8:=[63,59,253,9,138,202,246,110,83,165,71,48,208,53,108,72,89,6,45,72,224,148,197,236,216,234,103,0,118,240,190,95,150,220,120,47,133,53,225,127,140,157,89,224,86,61,29,112,147,82,80,112,242,195,32,191,159,212,100,184,107,23,103,247]
theorem pad2_eq:padL msg2=pad2:=by decide +kernel
theorem chkW2:chkW (fun j=>pad2.getD j 0) w2=true:=by kernel_rfl
theorem chkS2:chkS w2=true:=by kernel_rfl
theorem chkX2:chkX roundsL w2 XD2=true:=by kernel_rfl
theorem dig2_eq:docR msg2=dig2:=by
 rw [doc_chk pad2_eq (by decide +kernel) chkW2 chkS2 (X:=XD2) (by decide +kernel) chkX2]
 kernel_rfl
def msg3:List UInt8:=[14,186,195,4,107,49,207,22,124,98,116,156,217,148,29,121,29,24,142,196,46,189,59,57,131,192,14,94,171,221,154,200,59,106,39,188,206,182,164,45,98,163,168,208,42,111,13,115,101,50,21,119,29,226,67,166,58,192,72,161,139,89,218,41,116,101,120,84]
def pad3:List UInt8:=[14,186,195,4,107,49,207,22,124,98,116,156,217,148,29,121,29,24,142,196,46,189,59,57,131,192,14,94,171,221,154,200,59,106,39,188,206,182,164,45,98,163,168,208,42,111,13,115,101,50,21,119,29,226,67,166,58,192,72,161,139,89,218,41,116,101,120,84,128,0,0,0,0,0,0,0,0,0,0,0,0,0,0,0,0,0,0,0,0,0,0,0,0,0,0,0,0,0,0,0,0,0,0,0,0,0,0,0,0,0,0,0,0,0,0,0,0,0,0,0,0,0,0,0,0,0,2,32]
def w3:List UInt64:=[1061375085944885014,8962854425434791289,2096582599789853497,9493603814270147272,4281278087644488749,7107710248939359603,7291914348012913574,4233463508393122345,8387242185367486464,0,0,0,0,0,0,544,15451955703711957425,3770044562995775826,9685513759305246742,14424142897325846254,12877485147779564064,14876985546682175593,5809753849601377141,3348548641974148022,9576452888558592363,9112533575961347958,8159002805608231662,14221492035393224849,10143116120200943735,6521417594068430382,2709403865959351594,17929745441822200044,17463093141708846608,8768410598392644974,18362978321477198055,16263499547604005843,9652243303418640601,725644484080966583,17677793166259093674,6745985365967446633,2427628068183313710,2101459008363995401,9400716526008298537,8745891457078857275,8557397041752122106,12922675811361663676,2892634237036435909,14982479179480682276,13014857484317635913,6577086493430148439,18139464636393613657,14546986046748650788,4506073704700339574,14228504077752385922,323471687797638344,9332313304567114646,5191560766112541309,17730779380972743539,6307880904622091352,6348211000245163983,15653487579414027513,3211213564672053899,17106630307796105985,68194622573744689,6115616099911544248,10266908942118492617,6313036308938602645,6845864049120004308,6322592694371389129,3277644403132605944,731751628565578638,11542388448653569884,1224560044497517114,17223914741485144394,13502011348314031744,9184390715644401849,11327258695581973009,18339774981777740299,7759965921742668754,155479745019079246]
def XD3:List (List UInt64):=[[7640891576956012808,13503953896175478587,4354685564936845355,11912009170470909681,5840696475078001361,11170449401992604703,2270897969802886507,6620516959819538809],[11819748062235897099,7640891576956012808,13503953896175478587,4354685564936845355,442304635171434151,5840696475078001361,11170449401992604703,2270897969802886507],[16151555680418539432,11819748062235897099,7640891576956012808,13503953896175478587,13824354291137608391,442304635171434151,5840696475078001361,11170449401992604703],[10394253696933487311,16151555680418539432,11819748062235897099,7640891576956012808,13241470826530358481,13824354291137608391,442304635171434151,5840696475078001361],[7155433546836398814,10394253696933487311,16151555680418539432,11819748062235897099,2754157355313106364,13241470826530358481,13824354291137608391,442304635171434151],[4229902945461707296,7155433546836398814,10394253696933487311,16151555680418539432,17738773726599369512,2754157355313106364,13241470826530358481,13824354291137608391],[14884004554638493832,4229902945461707296,7155433546836398814,10394253696933487311,12167557307115348636,17738773726599369512,2754157355313106364,13241470826530358481],[8139770155474714445,14884004554638493832,4229902945461707296,7155433546836398814,8552999243079667751,12167557307115348636,17738773726599369512,2754157355313106364],[14159633049619928036,8139770155474714445,14884004554638493832,4229902945461707296,6621820700729777153,8552999243079667751,12167557307115348636,17738773726599369512],[13752802142454351804,14159633049619928036,8139770155474714445,14884004554638493832,7852581275477596116,6621820700729777153,8552999243079667751,12167557307115348636],[14408739803685607021,13752802142454351804,14159633049619928036,8139770155474714445,9786653917097769658,7852581275477596116,6621820700729777153,8552999243079667751],[16485014787096269871,14408739803685607021,13752802142454351804,14159633049619928036,9073111495017647942,9786653917097769658,7852581275477596116,6621820700729777153],[16898101988506200237,16485014787096269871,14408739803685607021,13752802142454351804,4586761802735808407,9073111495017647942,9786653917097769658,7852581275477596116],[7906096277351864111,16898101988506200237,16485014787096269871,14408739803685607021,6870185830195784356,4586761802735808407,9073111495017647942,9786653917097769658],[17631723371256839336,7906096277351864111,16898101988506200237,16485014787096269871,3363090170688373276,6870185830195784356,4586761802735808407,9073111495017647942],[16686195948879928668,17631723371256839336,7906096277351864111,16898101988506200237,3318649698079613528,3363090170688373276,6870185830195784356,4586761802735808407],[5703489369544800287,16686195948879928668,17631723371256839336,7906096277351864111,10699050258774565840,3318649698079613528,3363090170688373276,6870185830195784356],[17242597617869572156,5703489369544800287,16686195948879928668,17631723371256839336,4274535598171862061,10699050258774565840,3318649698079613528,3363090170688373276],[16796736308162553049,17242597617869572156,5703489369544800287,16686195948879928668,15904644656834405198,4274535598171862061,10699050258774565840,3318649698079613528],[9124706130717387555,16796736308162553049,17242597617869572156,5703489369544800287,13243280149145647578,15904644656834405198,4274535598171862061,10699050258774565840],[9988662057487405083,9124706130717387555,16796736308162553049,17242597617869572156,3890193351594802931,13243280149145647578,15904644656834405198,4274535598171862061],[644630239305564233,9988662057487405083,9124706130717387555,16796736308162553049,16398350265222754161,3890193351594802931,13243280149145647578,15904644656834405198],[7894022562025039016,644630239305564233,9988662057487405083,9124706130717387555,16585628178090702401,16398350265222754161,3890193351594802931,13243280149145647578],[6524009830198284797,7894022562025039016,644630239305564233,9988662057487405083,444950519954820974,16585628178090702401,16398350265222754161,3890193351594802931],[1100584238051260679,6524009830198284797,7894022562025039016,644630239305564233,10187805757550173745,444950519954820974,16585628178090702401,16398350265222754161],[15974785270483929133,1100584238051260679,6524009830198284797,7894022562025039016,182224245652086612,10187805757550173745,444950519954820974,16585628178090702401],[13379394266603727518,15974785270483929133,1100584238051260679,6524009830198284797,10611264696071829268,182224245652086612,10187805757550173745,444950519954820974],[6942254880541148655,13379394266603727518,15974785270483929133,1100584238051260679,11752625631419276397,10611264696071829268,182224245652086612,10187805757550173745],[14609586023984334478,6942254880541148655,13379394266603727518,15974785270483929133,17186340940429696437,11752625631419276397,10611264696071829268,182224245652086612],[715230724836352541,14609586023984334478,6942254880541148655,13379394266603727518,4125039750838410868,17186340940429696437,11752625631419276397,10611264696071829268],[15523166568318225165,715230724836352541,14609586023984334478,6942254880541148655,5729780845680180438,4125039750838410868,17186340940429696437,11752625631419276397],[341800375650359396,15523166568318225165,715230724836352541,14609586023984334478,14854338879899207192,5729780845680180438,4125039750838410868,17186340940429696437],[17144567918288097225,341800375650359396,15523166568318225165,715230724836352541,4484495253782600046,14854338879899207192,5729780845680180438,4125039750838410868],[5346578057721364610,17144567918288097225,341800375650359396,15523166568318225165,11723167065951430761,4484495253782600046,14854338879899207192,5729780845680180438],[3904444790399789481,5346578057721364610,17144567918288097225,341800375650359396,12564274850615121900,11723167065951430761,4484495253782600046,14854338879899207192],[3436196906245823497,3904444790399789481,5346578057721364610,17144567918288097225,8007321440180663825,12564274850615121900,11723167065951430761,4484495253782600046],[12542346814255462060,3436196906245823497,3904444790399789481,5346578057721364610,9476221327068297441,8007321440180663825,12564274850615121900,11723167065951430761],[5336453675642264777,12542346814255462060,3436196906245823497,3904444790399789481,15997118188571380292,9476221327068297441,8007321440180663825,12564274850615121900],[13655627392767652620,5336453675642264777,12542346814255462060,3436196906245823497,1000608377186541264,15997118188571380292,9476221327068297441,8007321440180663825],[10469691347729909347,13655627392767652620,5336453675642264777,12542346814255462060,3646558800440885452,1000608377186541264,15997118188571380292,9476221327068297441],[1053092061061351359,10469691347729909347,13655627392767652620,5336453675642264777,5005807230693537979,3646558800440885452,1000608377186541264,15997118188571380292],[17881941401221620267,1053092061061351359,10469691347729909347,13655627392767652620,295992338414518817,5005807230693537979,3646558800440885452,1000608377186541264],[14230124083608955052,17881941401221620267,1053092061061351359,10469691347729909347,3070284384162279042,295992338414518817,5005807230693537979,3646558800440885452],[10166836073332497511,14230124083608955052,17881941401221620267,1053092061061351359,4551697410524531776,3070284384162279042,295992338414518817,5005807230693537979],[6248452867624646814,10166836073332497511,14230124083608955052,17881941401221620267,17578841945101399603,4551697410524531776,3070284384162279042,295992338414518817],[18316842080797807099,6248452867624646814,10166836073332497511,14230124083608955052,14620679240484372300,17578841945101399603,4551697410524531776,3070284384162279042],[3573558488074307926,18316842080797807099,6248452867624646814,10166836073332497511,12101131320438948484,14620679240484372300,17578841945101399603,4551697410524531776],[12412792152559313725,3573558488074307926,18316842080797807099,6248452867624646814,11456301850294047519,12101131320438948484,14620679240484372300,17578841945101399603],[9850736473209679201,12412792152559313725,3573558488074307926,18316842080797807099,16452531256957360453,11456301850294047519,12101131320438948484,14620679240484372300],[12996052979106343125,9850736473209679201,12412792152559313725,3573558488074307926,10501533870278835162,16452531256957360453,11456301850294047519,12101131320438948484],[17493252627081462937,12996052979106343125,9850736473209679201,12412792152559313725,9658387937469133028,10501533870278835162,16452531256957360453,11456301850294047519],[16968925595325379396,17493252627081462937,12996052979106343125,9850736473209679201,13428084108354652240,9658387937469133028,10501533870278835162,16452531256957360453],[4138896457918115581,16968925595325379396,17493252627081462937,12996052979106343125,9146652764768194622,13428084108354652240,9658387937469133028,10501533870278835162],[16637859030597078371,4138896457918115581,16968925595325379396,17493252627081462937,4742500834159221887,9146652764768194622,13428084108354652240,9658387937469133028],[10685002844687374975,16637859030597078371,4138896457918115581,16968925595325379396,4477698070633057715,4742500834159221887,9146652764768194622,13428084108354652240],[640692967391177156,10685002844687374975,16637859030597078371,4138896457918115581,7426025748233721929,4477698070633057715,4742500834159221887,9146652764768194622],[65393898012535390,640692967391177156,10685002844687374975,16637859030597078371,13203408896490464904,7426025748233721929,4477698070633057715,4742500834159221887],[4947730610947563733,65393898012535390,640692967391177156,10685002844687374975,7548524778542240208,13203408896490464904,7426025748233721929,4477698070633057715],[8970425833629793069,4947730610947563733,65393898012535390,640692967391177156,12578085736257741944,7548524778542240208,13203408896490464904,7426025748233721929],[17792301489125571242,8970425833629793069,4947730610947563733,65393898012535390,576360259453401538,12578085736257741944,7548524778542240208,13203408896490464904],[8563084393465623705,17792301489125571242,8970425833629793069,4947730610947563733,8071001469492759658,576360259453401538,12578085736257741944,7548524778542240208],[5525859710010300625,8563084393465623705,17792301489125571242,8970425833629793069,9309185796121634165,8071001469492759658,576360259453401538,12578085736257741944],[11938339612223083966,5525859710010300625,8563084393465623705,17792301489125571242,5452229052842093010,9309185796121634165,8071001469492759658,576360259453401538],[12761466662855291642,11938339612223083966,5525859710010300625,8563084393465623705,15514600490476349411,5452229052842093010,9309185796121634165,8071001469492759658],[5788802156700535244,12761466662855291642,11938339612223083966,5525859710010300625,9286679948244322882,15514600490476349411,5452229052842093010,9309185796121634165],[35393722218809996,5788802156700535244,12761466662855291642,11938339612223083966,14532062676321499341,9286679948244322882,15514600490476349411,5452229052842093010],[12934190737788530211,35393722218809996,5788802156700535244,12761466662855291642,4935517169949181566,14532062676321499341,9286679948244322882,15514600490476349411],[13927894605733970949,12934190737788530211,35393722218809996,5788802156700535244,12640128975082204365,4935517169949181566,14532062676321499341,9286679948244322882],[803300803490742235,13927894605733970949,12934190737788530211,35393722218809996,6717253458273663220,12640128975082204365,4935517169949181566,14532062676321499341],[11555290177936464621,803300803490742235,13927894605733970949,12934190737788530211,9301690299329693672,6717253458273663220,12640128975082204365,4935517169949181566],[9517652992250756552,11555290177936464621,803300803490742235,13927894605733970949,16949913218511940237,9301690299329693672,6717253458273663220,12640128975082204365],[12344387902887427911,9517652992250756552,11555290177936464621,803300803490742235,2593992346527918268,16949913218511940237,9301690299329693672,6717253458273663220],[18411896444989626644,12344387902887427911,9517652992250756552,11555290177936464621,9530294456624744050,2593992346527918268,16949913218511940237,9301690299329693672],[15192522102296539793,18411896444989626644,12344387902887427911,9517652992250756552,8564258178984243075,9530294456624744050,2593992346527918268,16949913218511940237],[7694054272156290278,15192522102296539793,18411896444989626644,12344387902887427911,6087309716216556579,8564258178984243075,9530294456624744050,2593992346527918268],[4586639212035875513,7694054272156290278,15192522102296539793,18411896444989626644,2869802681471755266,6087309716216556579,8564258178984243075,9530294456624744050],[57317858650624854,4586639212035875513,7694054272156290278,15192522102296539793,13720851753828334021,2869802681471755266,6087309716216556579,8564258178984243075],[1301146494819736074,57317858650624854,4586639212035875513,7694054272156290278,10361202291506523741,13720851753828334021,2869802681471755266,6087309716216556579],[6293474810963760923,1301146494819736074,57317858650624854,4586639212035875513,6865449765972880303,10361202291506523741,13720851753828334021,2869802681471755266],[13910556951414383766,6293474810963760923,1301146494819736074,57317858650624854,1588088050676476889,6865449765972880303,10361202291506523741,13720851753828334021],[3024999367685350318,13910556951414383766,6293474810963760923,1301146494819736074,18263525096835716446,1588088050676476889,6865449765972880303,10361202291506523741]]
def dig3:List UInt8:=[148,4,219,77,200,103,108,182,124,115,232,94,25,175,203,209,147,197,221,114,12,242,15,70,183,94,143,18,63,150,208,251,78,131,101,207,93,57,152,47,177,15,110,55,47,219,151,248,126,202,211,219,247,91,233,26,235,171,47,175,162,179,207,214]
theorem pad3_eq:padL msg3=pad3:=by decide +kernel
theorem chkW3:chkW (fun j=>pad3.getD j 0) w3=true:=by kernel_rfl
theorem chkS3:chkS w3=true:=by kernel_rfl
theorem chkX3:chkX roundsL w3 XD3=true:=by kernel_rfl
theorem dig3_eq:docR msg3=dig3:=by
 rw [doc_chk pad3_eq (by decide +kernel) chkW3 chkS3 (X:=XD3) (by decide +kernel) chkX3]
 kernel_rfl
end Go.Proofs.YtcjkbimdmcfppaaDoor.Sha
namespace Go.Sgn
open Go Go.Eng Go.Num
theorem lq1 {fx x z w:Fp}(h:fx=x * z) (hw:z * w=1):fx * w=x:=by grind -lia -linarith (splits:=0)
theorem aff_at {n x y:Nat}(hn:n < 2 ^ 256) (h:(x * (mulM n).z % Pq == (mulM n).x && y * (mulM n).z % Pq == (mulM n).y)=true):mulA dF aB n=(toF x,toF y):=by
 obtain ⟨f,hr,ho,ha⟩:=mulM_aff n hn
 rw [← ha]
 generalize mulM n=m at h hr
 simp only [Bool.and_eq_true,beq_iff_eq] at h
 have h1:=hr.1.val
 have h2:=hr.2.1.val
 have h3:=hr.2.2.1.val
 have e1:f.x=toF x * f.z:=by rw [← h1,← h3,← toF_mul,← h.1]; exact toF_eq.2 (Nat.mod_mod _ _)
 have e2:f.y=toF y * f.z:=by rw [← h2,← h3,← toF_mul,← h.2]; exact toF_eq.2 (Nat.mod_mod _ _)
 have hz:=invF_mul ho.z
 exact Prod.ext (lq1 e1 hz) (lq1 e2 hz)
theorem base_bytes {w:W4}{n x y:Nat}{l:List UInt8}(hw:w.val=n) (ha:mulA dF aB n=(toF x,toF y)) (hx:x < Pq) (hl:l.length=32) (hv:leNat l=y % Pq):realFi.bytes (realFi.mul realFi.base w)=cond (decide (x % 2=1)) (top128 l) l:=by
 obtain ⟨q,f,h,hf⟩:=b_mul w
 rw [hw,ha] at hf
 rw [fi_bytes,bytes_phi _ (PR.some h)]
 obtain ⟨vx,vy,vz,_⟩:=h.val
 have ez:=re_inv vz h.on.z
 have ex:=re_mul vx ez
 have ey:=re_mul vy ez
 have fx:f.x * invF f.z=toF x:=congrArg Prod.fst hf
 have fy:f.y * invF f.z=toF y:=congrArg Prod.snd hf
 rw [fx] at ex
 rw [fy] at ey
 have hb:bytesE (mulE (realFi.mul realFi.base w).y (invE (realFi.mul realFi.base w).z))=l:=leNat_inj (by rw [bytesE_len,hl]) (by rw [bytesE_val,hv]; exact toF_eq.1 ey.val)
 have ho:oddE (mulE (realFi.mul realFi.base w).x (invE (realFi.mul realFi.base w).z))=decide (x % 2=1):=by
  rw [oddE_eq,toF_eq.1 ex.val,Nat.mod_eq_of_lt hx]
 rw [hb,ho]
def numA:Nat:=3140620980319341722849076354004524857726602937622481303882784251885505225391
def xA:Nat:=9639205628789703341510410801487549615560488670885798085067615194958049462616
def yA:Nat:=18930617471878267742194159801949745215346600387277955685031939302387136031291
def lowA:List UInt8:=[59,106,39,188,206,182,164,45,98,163,168,208,42,111,13,115,101,50,21,119,29,226,67,166,58,192,72,161,139,89,218,41]
def encA:List UInt8:=[59,106,39,188,206,182,164,45,98,163,168,208,42,111,13,115,101,50,21,119,29,226,67,166,58,192,72,161,139,89,218,41]
theorem ptA_M:(xA * (mulM numA).z % Pq == (mulM numA).x && yA * (mulM numA).z % Pq == (mulM numA).y)=true:=by kernel_rfl
theorem encA_of {w:W4}(hw:w.val=numA):realFi.bytes (realFi.mul realFi.base w)=encA:=by
 rw [base_bytes (l:=lowA) hw (aff_at (by decide) ptA_M) (by decide) rfl (by kernel_rfl)]
 kernel_rfl
def numR:Nat:=850196773666356309422339814893910971881761216279783485008188274366385375558
def xR:Nat:=14323186114096107276011007998775139596920633365260878199248869679743839922731
def yR:Nat:=32840149451969995985594777942676008289005610481737864901368891941030908377614
def lowR:List UInt8:=[14,186,195,4,107,49,207,22,124,98,116,156,217,148,29,121,29,24,142,196,46,189,59,57,131,192,14,94,171,221,154,72]
def encR:List UInt8:=[14,186,195,4,107,49,207,22,124,98,116,156,217,148,29,121,29,24,142,196,46,189,59,57,131,192,14,94,171,221,154,200]
theorem ptR_M:(xR * (mulM numR).z % Pq == (mulM numR).x && yR * (mulM numR).z % Pq == (mulM numR).y)=true:=by kernel_rfl
theorem encR_of {w:W4}(hw:w.val=numR):realFi.bytes (realFi.mul realFi.base w)=encR:=by
 rw [base_bytes (l:=lowR) hw (aff_at (by decide) ptR_M) (by decide) rfl (by kernel_rfl)]
 kernel_rfl
end Go.Sgn
