/- Texts Mg2, Mg3, Eng60, Eng61, Eng62, Eng63, Mw0, Mw1, Ms8, Ms9, Mt0, Mt1, Mt2: what they show that this claim uses. -/
import Derived.Test.YthlemfnkmpikjaaDoorM6
import Derived.Test.YthlemfnkmpikjaaDoorM5
namespace Go.Num
end Go.Num
set_option maxRecDepth 100000
set_option maxHeartbeats 1000000
set_option linter.unusedVariables false
set_option linter.unusedSimpArgs false
namespace Go.Msg
section
variable {c:Cdc}(h:CdcOk c)
theorem takeF_short {n:Nat}{s:List UInt8}{m:Ms}{g:List UInt8→Ms}(hl:s.length < n):(takeF n s m g).1=7:=by
 unfold takeF
 have:Nat.ble n s.length=false:=by
  cases hb:Nat.ble n s.length with
  | false=>rfl
  | true=>exact absurd (Nat.le_of_ble_eq_true hb) (by omega)
 rw [this]
 rfl
include h
theorem textF_short {most:Nat}{l p q:List UInt8}(hl:l.length≤most) (hm:most < 65536) (e:p++q=c.be2 (l.length:Int)++l) (hq:q ≠ []){m:Ms}{g:List UInt8→Ms}:(textF c most p m g).1=7:=by
 have hlen:=congrArg List.length e
 rw [List.length_append,List.length_append,h.l2] at hlen
 have hq1:0 < q.length:=List.length_pos_iff.2 hq
 unfold textF
 cases hb:Nat.ble 2 p.length with
 | false=>rfl
 | true =>
  have h2:=Nat.le_of_ble_eq_true hb
  have ht:p.take 2=c.be2 (l.length:Int):=by
   have:=congrArg (List.take 2) e
   rw [List.take_append_of_le_length h2,(take_left (h.l2 _)).1] at this
   exact this
  rw [cond_true,ht,h.b2 _ (by omega) (by omega),decide_eq_false (by omega),cond_false,Int.toNat_natCast]
  have:Nat.ble l.length (p.drop 2).length=false:=by
   cases hb:Nat.ble l.length (p.drop 2).length with
   | false=>rfl
   | true =>
    have:=Nat.le_of_ble_eq_true hb
    rw [List.length_drop] at this
    omega
  rw [this]
  rfl
theorem decF_short {m m0:Ms}{f:Fd}{p q:List UInt8}(hg:good m f) (e:p++q=encF c m f) (hq:q ≠ []):(decF c f p m0).1=7:=by
 have hq1:0 < q.length:=List.length_pos_iff.2 hq
 have hlen:=congrArg List.length e
 rw [List.length_append] at hlen
 cases f
 case E =>
  cases p with
  | nil=>rfl
  | cons v p =>
   cases hv:m.v6 with
   | true =>
    simp only [encF,hv,cond_true,List.cons_append] at e
    injection e with e1 e2
    subst e1
    have hl:=congrArg List.length e2
    simp only [List.length_append,h.l8,h.l2] at hl
    simp only [decF,endF]
    rw [show ((6:UInt8) == 4)=false from rfl,show ((6:UInt8) == 6)=true from rfl,cond_false,cond_true]
    have:Nat.ble 18 p.length=false:=by
     cases hb:Nat.ble 18 p.length with
     | false=>rfl
     | true=>exact absurd (Nat.le_of_ble_eq_true hb) (by omega)
    rw [this]
    rfl
   | false =>
    simp only [encF,hv,cond_false,List.cons_append] at e
    injection e with e1 e2
    subst e1
    have hl:=congrArg List.length e2
    simp only [List.length_append,h.l4,h.l2] at hl
    simp only [decF,endF]
    rw [show ((4:UInt8) == 4)=true from rfl,cond_true]
    have:Nat.ble 6 p.length=false:=by
     cases hb:Nat.ble 6 p.length with
     | false=>rfl
     | true=>exact absurd (Nat.le_of_ble_eq_true hb) (by omega)
    rw [this]
    rfl
 case N=>exact textF_short h (most:=64) hg (by decide) e hq
 case D=>exact textF_short h (most:=32768) hg (by decide) e hq
 all_goals
  simp only [encF,good,h.l2,h.l4,h.l8] at hlen hg
  exact takeF_short (by omega)
theorem decG_cut {m:Ms}:∀ (fs:List Fd) (m0:Ms) (p q:List UInt8),fs.Nodup→(∀ f ∈ fs,good m f)→(.E ∈ fs→m0.v6=false∧m0.hi=0)→p++q=fs.flatMap (encF c m)→q ≠ []→(decG c fs p m0).1=7
 | [],m0,p,q,_,_,_,e,hq=>by
  simp only [List.flatMap_nil,List.append_eq_nil_iff] at e
  exact absurd e.2 hq
 | f::fs,m0,p,q,hn,hg,h0,e,hq=>by
  obtain ⟨hf,hn'⟩:=List.nodup_cons.1 hn
  rw [List.flatMap_cons] at e
  have gf:=hg f (List.mem_cons_self ..)
  simp only [decG]
  have short:∀ q',p++q'=encF c m f→q' ≠ []→(cond (decide ((decF c f p m0).1=0)) (decG c fs (decF c f p m0).2.2 (decF c f p m0).2.1) (decF c f p m0)).1=7:=fun q' e1 hq'=>by
   have:=decF_short h (m0:=m0) gf e1 hq'
   rw [this]
   rw [show decide ((7:Int)=0)=false from rfl,cond_false]
   exact this
  have long:∀ p',p=encF c m f++p'→p' ++ q=fs.flatMap (encF c m)→(cond (decide ((decF c f p m0).1=0)) (decG c fs (decF c f p m0).2.2 (decF c f p m0).2.1) (decF c f p m0)).1=7:=fun p' e1 e2=>by
   obtain ⟨m1,d1,t1,s1,o1⟩:=decF_enc h (m0:=m0) gf (fun e=>h0 (by rw [e]; exact List.mem_cons_self ..)) p'
   rw [e1,d1]
   simp only [decide_true,cond_true]
   exact decG_cut fs m1 p' q hn' (fun f' hf'=>hg f' (List.mem_cons_of_mem _ hf')) (fun he=>by
    obtain ⟨z1,z2⟩:=h0 (List.mem_cons_of_mem _ he)
    have:=o1 .E (fun e=>hf (by rw [← e]; exact he))
    exact ⟨this.1.trans z1,this.2.1.trans z2⟩) e2 hq
  rcases List.append_eq_append_iff.1 e with ⟨a,e1,e2⟩ | ⟨a,e1,e2⟩
  ·by_cases ha:a=[]
   ·subst ha
    rw [List.append_nil] at e1
    exact long [] (by rw [List.append_nil,e1]) (by rw [List.nil_append]; simpa using e2)
   ·exact short a e1.symm ha
  ·exact long a e1 e2.symm
theorem dec_cut {m:Ms}(hne:(fds m.ty.toNat).isEmpty=false) (hn:(fds m.ty.toNat).Nodup) (hg:∀ f ∈ fds m.ty.toNat,good m f){k:Nat}(hk:k < (enc c m).length):dec c ((enc c m).take k)=(zeroM,7):=by
 cases k with
 | zero=>rfl
 | succ k =>
  simp only [enc,List.length_cons] at hk
  simp only [enc,List.take_succ_cons,dec,hne,cond_false]
  have:=decG_cut h (m:=m) (fds m.ty.toNat) { zeroM with ty:=m.ty } (((fds m.ty.toNat).flatMap (encF c m)).take k) (((fds m.ty.toNat).flatMap (encF c m)).drop k) hn hg (fun _=>⟨rfl,rfl⟩) (List.take_append_drop ..) (fun e=>by
   have:=congrArg List.length e
   rw [List.length_drop,List.length_nil] at this
   omega)
  unfold endM
  rw [this]
  rfl
theorem flat_len {m n:Ms}(e1:m.te.length=n.te.length) (e2:m.da.length=n.da.length) (e3:m.v6=n.v6):∀ fs:List Fd,(∀ f ∈ fs,good m f)→(∀ f ∈ fs,good n f)→(fs.flatMap (encF c m)).length=(fs.flatMap (encF c n)).length
 | [],_,_=>rfl
 | f::fs,h1,h2=>by
  have ih:=flat_len e1 e2 e3 fs (fun f hf=>h1 f (List.mem_cons_of_mem _ hf)) (fun f hf=>h2 f (List.mem_cons_of_mem _ hf))
  have g1:=h1 f (List.mem_cons_self ..)
  have g2:=h2 f (List.mem_cons_self ..)
  rw [List.flatMap_cons,List.flatMap_cons,List.length_append,List.length_append,ih]
  congr 1
  cases f
  case E =>
   simp only [encF,e3]
   cases n.v6 <;> simp only [cond_true,cond_false,List.length_append,List.length_cons,h.l8,h.l4,h.l2]
  all_goals
   simp only [good] at g1 g2
   simp only [encF,List.length_append,h.l2,h.l4,h.l8,e1,e2,g1,g2]
theorem enc_len {m n:Ms}(ht:m.ty=n.ty) (e1:m.te.length=n.te.length) (e2:m.da.length=n.da.length) (e3:m.v6=n.v6) (hg:∀ f ∈ fds m.ty.toNat,good m f) (hg2:∀ f ∈ fds n.ty.toNat,good n f):(enc c m).length=(enc c n).length:=by
 unfold enc
 rw [List.length_cons,List.length_cons]
 rw [← ht] at hg2 ⊢
 rw [flat_len h e1 e2 e3 _ hg hg2]
end
end Go.Msg
namespace Go.Msg
open Go Go.Eng
def by8 (x:UInt64) (k:Nat):UInt8:=(shr_u64 x k).toUInt8
def be8 (x:UInt64):List UInt8:=[by8 x 56,by8 x 48,by8 x 40,by8 x 32,by8 x 24,by8 x 16,by8 x 8,by8 x 0]
def be4 (x:UInt32):List UInt8:=[by8 x.toUInt64 24,by8 x.toUInt64 16,by8 x.toUInt64 8,by8 x.toUInt64 0]
def be2 (x:Int):List UInt8:=[by8 (UInt64.ofInt x) 8,by8 (UInt64.ofInt x) 0]
def st8 (x:UInt64) (b:UInt8):UInt64:=shl_u64 x 8 ||| b.toUInt64
def rd8 (l:List UInt8):UInt64:=l.foldl st8 0
def rd4 (l:List UInt8):UInt32:=l.foldl (fun x b=>(st8 x.toUInt64 b).toUInt32) 0
def rd2 (l:List UInt8):Int:=l.foldl (fun x b=>IntKind.wrap .u16 ((st8 (UInt64.ofInt x) b).toNat:Int)) 0
theorem by8_val (x:UInt64) (k:Nat) (hk:k < 64):(by8 x k).toNat=x.toNat / 2 ^ k % 256:=by
 unfold by8
 rw [UInt64.toNat_toUInt8,shr_nat x k hk]
theorem st8_val (x:UInt64) (b:UInt8):(st8 x b).toNat=256 * (x.toNat % 72057594037927936)+b.toNat:=by
 unfold st8
 have h1:(shl_u64 x 8).toNat=256 * (x.toNat % 72057594037927936):=by
  unfold shl_u64
  have e8:(UInt64.ofNat 8).toNat % 64=8:=rfl
  rw [show Nat.ble 8 63=true from rfl,cond_true,UInt64.toNat_shiftLeft,e8,Nat.shiftLeft_eq]
  have:=x.toNat_lt
  omega
 have hb:=b.toNat_lt
 rw [UInt64.toNat_or,h1,UInt8.toNat_toUInt64]
 exact (Nat.two_pow_add_eq_or_of_lt (i:=8) hb (x.toNat % 72057594037927936)).symm
theorem ofInt_val (n:Nat) (h:n < 18446744073709551616):(UInt64.ofInt (n:Int)).toNat=n:=by
 rw [ofInt_nat,UInt64.toNat_ofNat']
 omega
theorem u16_wrap (n:Nat):IntKind.wrap .u16 (n:Int)=((n % 65536:Nat):Int):=by
 simp only [IntKind.wrap,IntKind.bits,IntKind.signed]
 simp
theorem cdc2:(∀ x,0≤x→x < 65536→rd2 (be2 x)=x)∧∀ l,l.length=2→be2 (rd2 l)=l∧0≤rd2 l∧rd2 l < 65536:=by
 have key:∀ a b:UInt8,rd2 [a,b]=((a.toNat * 256+b.toNat:Nat):Int):=fun a b=>by
  have ha:=a.toNat_lt
  have hb:=b.toNat_lt
  simp only [rd2,List.foldl_cons,List.foldl_nil]
  have e0:(UInt64.ofInt 0).toNat=0:=rfl
  have e1:IntKind.wrap .u16 ((st8 (UInt64.ofInt 0) a).toNat:Int)=((a.toNat:Nat):Int):=by
   rw [st8_val,e0,u16_wrap]
   congr 1
   omega
  rw [e1,st8_val,ofInt_val _ (by omega),u16_wrap]
  congr 1
  omega
 refine ⟨fun x h0 h1 => ?_,fun l hl => ?_⟩
 ·obtain ⟨n,rfl⟩:=Int.eq_ofNat_of_zero_le h0
  unfold be2
  rw [key,by8_val _ 8 (by omega),by8_val _ 0 (by omega),ofInt_val n (by omega)]
  congr 1
  omega
 ·obtain ⟨a,b,rfl⟩:∃ a b,l=[a,b]:=by
   match l,hl with
   | [a,b],_=>exact ⟨a,b,rfl⟩
  have ha:=a.toNat_lt
  have hb:=b.toNat_lt
  rw [key]
  refine ⟨?_,by omega,by omega⟩
  unfold be2
  have e1:by8 (UInt64.ofInt ((a.toNat * 256+b.toNat:Nat):Int)) 8=a:=UInt8.toNat_inj.1 (by rw [by8_val _ 8 (by omega),ofInt_val _ (by omega)]; omega)
  have e2:by8 (UInt64.ofInt ((a.toNat * 256+b.toNat:Nat):Int)) 0=b:=UInt8.toNat_inj.1 (by rw [by8_val _ 0 (by omega),ofInt_val _ (by omega)]; omega)
  rw [e1,e2]
theorem cdc4:(∀ x,rd4 (be4 x)=x)∧∀ l,l.length=4→be4 (rd4 l)=l:=by
 have key:∀ a b c d:UInt8,(rd4 [a,b,c,d]).toNat=((a.toNat * 256+b.toNat) * 256+c.toNat) * 256+d.toNat:=fun a b c d=>by
  have ha:=a.toNat_lt
  have hb:=b.toNat_lt
  have hc:=c.toNat_lt
  have hd:=d.toNat_lt
  simp only [rd4,List.foldl_cons,List.foldl_nil]
  have e0:(0:UInt32).toNat=0:=rfl
  simp only [UInt64.toNat_toUInt32,st8_val,UInt32.toNat_toUInt64,e0]
  omega
 refine ⟨fun x => ?_,fun l hl => ?_⟩
 ·have hx:=x.toNat_lt
  apply UInt32.toNat_inj.1
  unfold be4
  rw [key,by8_val _ 24 (by omega),by8_val _ 16 (by omega),by8_val _ 8 (by omega),by8_val _ 0 (by omega),UInt32.toNat_toUInt64]
  omega
 ·obtain ⟨a,b,c,d,rfl⟩:∃ a b c d,l=[a,b,c,d]:=by
   match l,hl with
   | [a,b,c,d],_=>exact ⟨a,b,c,d,rfl⟩
  have ha:=a.toNat_lt
  have hb:=b.toNat_lt
  have hc:=c.toNat_lt
  have hd:=d.toNat_lt
  have k:=key a b c d
  generalize rd4 [a,b,c,d]=x at k ⊢
  unfold be4
  have e1:by8 x.toUInt64 24=a:=UInt8.toNat_inj.1 (by rw [by8_val _ 24 (by omega),UInt32.toNat_toUInt64,k]; omega)
  have e2:by8 x.toUInt64 16=b:=UInt8.toNat_inj.1 (by rw [by8_val _ 16 (by omega),UInt32.toNat_toUInt64,k]; omega)
  have e3:by8 x.toUInt64 8=c:=UInt8.toNat_inj.1 (by rw [by8_val _ 8 (by omega),UInt32.toNat_toUInt64,k]; omega)
  have e4:by8 x.toUInt64 0=d:=UInt8.toNat_inj.1 (by rw [by8_val _ 0 (by omega),UInt32.toNat_toUInt64,k]; omega)
  rw [e1,e2,e3,e4]
theorem cdc8:(∀ x,rd8 (be8 x)=x)∧∀ l,l.length=8→be8 (rd8 l)=l:=by
 have key:∀ a b c d e f g h:UInt8,(rd8 [a,b,c,d,e,f,g,h]).toNat=((((((a.toNat * 256+b.toNat) * 256+c.toNat) * 256+d.toNat) * 256+e.toNat) * 256+f.toNat) * 256+g.toNat) * 256+h.toNat:=fun a b c d e f g h=>by
  have ha:=a.toNat_lt
  have hb:=b.toNat_lt
  have hc:=c.toNat_lt
  have hd:=d.toNat_lt
  have he:=e.toNat_lt
  have hf:=f.toNat_lt
  have hg:=g.toNat_lt
  have hh:=h.toNat_lt
  simp only [rd8,List.foldl_cons,List.foldl_nil]
  have e0:(0:UInt64).toNat=0:=rfl
  simp only [st8_val,e0]
  omega
 refine ⟨fun x => ?_,fun l hl => ?_⟩
 ·have hx:=x.toNat_lt
  apply UInt64.toNat_inj.1
  unfold be8
  rw [key,by8_val _ 56 (by omega),by8_val _ 48 (by omega),by8_val _ 40 (by omega),by8_val _ 32 (by omega),by8_val _ 24 (by omega),by8_val _ 16 (by omega),by8_val _ 8 (by omega),by8_val _ 0 (by omega)]
  omega
 ·obtain ⟨a,b,c,d,e,f,g,h,rfl⟩:∃ a b c d e f g h,l=[a,b,c,d,e,f,g,h]:=by
   match l,hl with
   | [a,b,c,d,e,f,g,h],_=>exact ⟨a,b,c,d,e,f,g,h,rfl⟩
  have ha:=a.toNat_lt
  have hb:=b.toNat_lt
  have hc:=c.toNat_lt
  have hd:=d.toNat_lt
  have he:=e.toNat_lt
  have hf:=f.toNat_lt
  have hg:=g.toNat_lt
  have hh:=h.toNat_lt
  have k:=key a b c d e f g h
  generalize rd8 [a,b,c,d,e,f,g,h]=x at k ⊢
  unfold be8
  have e1:by8 x 56=a:=UInt8.toNat_inj.1 (by rw [by8_val _ 56 (by omega),k]; omega)
  have e2:by8 x 48=b:=UInt8.toNat_inj.1 (by rw [by8_val _ 48 (by omega),k]; omega)
  have e3:by8 x 40=c:=UInt8.toNat_inj.1 (by rw [by8_val _ 40 (by omega),k]; omega)
  have e4:by8 x 32=d:=UInt8.toNat_inj.1 (by rw [by8_val _ 32 (by omega),k]; omega)
  have e5:by8 x 24=e:=UInt8.toNat_inj.1 (by rw [by8_val _ 24 (by omega),k]; omega)
  have e6:by8 x 16=f:=UInt8.toNat_inj.1 (by rw [by8_val _ 16 (by omega),k]; omega)
  have e7:by8 x 8=g:=UInt8.toNat_inj.1 (by rw [by8_val _ 8 (by omega),k]; omega)
  have e8:by8 x 0=h:=UInt8.toNat_inj.1 (by rw [by8_val _ 0 (by omega),k]; omega)
  rw [e1,e2,e3,e4,e5,e6,e7,e8]
def cdR:Cdc:=⟨be2,rd2,be4,rd4,be8,rd8⟩
theorem cdR_ok:CdcOk cdR:=⟨fun _=>rfl,cdc2.1,cdc2.2,fun _=>rfl,cdc4.1,cdc4.2,fun _=>rfl,cdc8.1,cdc8.2⟩
end Go.Msg
namespace Go.Eng
open Go
def cnS (G:Nat) (ns:List Nat) (v:AVal):Option AVal:=match v with
 | .ptr n off=>match posN n ns 0 with
  | some i=>some (.ptr (G+i) off)
  | none=>none
 | .slice n off len esz=>match posN n ns 0 with
  | some i=>some (.slice (G+i) off len esz)
  | none=>none
 | .mth f n off=>match posN n ns 0 with
  | some i=>some (.mth f (G+i) off)
  | none=>none
 | v=>cond (ltV 0 v) (some v) none
def cnL (G:Nat) (ns:List Nat):List AVal→Option (List AVal)
 | []=>some []
 | v::l=>match cnS G ns v,cnL G ns l with
  | some a,some b=>some (a::b)
  | _,_=>none
def cnV (G:Nat) (ns:List Nat) (v:AVal):Option AVal:=match v with
 | .fn f cap=>match cnL G ns cap with
  | some c=>some (.fn f c)
  | none=>none
 | v=>cnS G ns v
def cnW (G:Nat) (ns:List Nat):List AVal→Option (List AVal)
 | []=>some []
 | v::l=>match cnV G ns v,cnW G ns l with
  | some a,some b=>some (a::b)
  | _,_=>none
theorem posN0 {n i:Nat}{ns:List Nat}(h:posN n ns 0=some i):ns[i]? = some n:=by
 have:=(posN_get h).2
 simpa using this
theorem cnS_ok {G:Nat}{ns:List Nat}{v v':AVal}(h:cnS G ns v=some v'):RN (ρ0 G ns) v' v:=by
 unfold cnS at h
 split at h
 ·split at h
  ·rename_i i hi
   cases h
   exact .ptr (.inr ⟨i,rfl,posN0 hi⟩)
  ·cases h
 ·split at h
  ·rename_i i hi
   cases h
   exact .slice (.inr ⟨i,rfl,posN0 hi⟩)
  ·cases h
 ·split at h
  ·rename_i i hi
   cases h
   exact .mth (.inr ⟨i,rfl,posN0 hi⟩)
  ·cases h
 ·cases hb:ltV 0 v <;> rw [hb] at h
  ·cases h
  ·cases h
   exact .same hb
theorem cnL_ok {G:Nat}{ns:List Nat}:∀ {l l':List AVal},cnL G ns l=some l'→RL (ρ0 G ns) l' l
 | [],l',h=>by cases h; exact RL.nil _
 | v::l,l',h=>by
  simp only [cnL] at h
  split at h
  ·rename_i a b ha hb
   cases h
   exact RL.cons (cnS_ok ha) (cnL_ok hb)
  ·cases h
theorem cnV_ok {G:Nat}{ns:List Nat}{v v':AVal}(h:cnV G ns v=some v'):RN (ρ0 G ns) v' v:=by
 unfold cnV at h
 split at h
 ·split at h
  ·rename_i c hc
   cases h
   exact .fnL (cnL_ok hc)
  ·cases h
 ·exact cnS_ok h
theorem cnW_ok {G:Nat}{ns:List Nat}:∀ {l l':List AVal},cnW G ns l=some l'→RL (ρ0 G ns) l' l
 | [],l',h=>by cases h; exact RL.nil _
 | v::l,l',h=>by
  simp only [cnW] at h
  split at h
  ·rename_i a b ha hb
   cases h
   exact RL.cons (cnV_ok ha) (cnW_ok hb)
  ·cases h
def unN (G:Nat) (ns:List Nat) (k:Nat):Option Nat:=cond (Nat.ble G k) (ns[k - G]?) none
theorem unN_ok {G:Nat}{ns:List Nat}{k n:Nat}(h:unN G ns k=some n):ρ0 G ns k n:=by
 unfold unN at h
 cases hb:Nat.ble G k <;> rw [hb] at h
 ·cases h
 ·exact .inr ⟨k - G,by have:=Nat.le_of_ble_eq_true hb; omega,h⟩
def unS (G:Nat) (ns:List Nat) (v:AVal):Option AVal:=match v with
 | .ptr k off=>match unN G ns k with
  | some n=>some (.ptr n off)
  | none=>none
 | .slice k off len esz=>match unN G ns k with
  | some n=>some (.slice n off len esz)
  | none=>none
 | v=>cond (ltV 0 v) (some v) none
def unW (G:Nat) (ns:List Nat):List AVal→Option (List AVal)
 | []=>some []
 | v::l=>match unS G ns v,unW G ns l with
  | some a,some b=>some (a::b)
  | _,_=>none
theorem unS_ok {G base:Nat}{ns:List Nat}{v v':AVal}(h:unS G ns v=some v'):RN (ρ1 G ns [] base) v v':=by
 unfold unS at h
 split at h
 ·split at h
  ·rename_i n hn
   cases h
   exact .ptr (.inl (unN_ok hn))
  ·cases h
 ·split at h
  ·rename_i n hn
   cases h
   exact .slice (.inl (unN_ok hn))
  ·cases h
 ·cases hb:ltV 0 v <;> rw [hb] at h
  ·cases h
  ·cases h
   exact .same hb
theorem unW_ok {G base:Nat}{ns:List Nat}:∀ {l l':List AVal},unW G ns l=some l'→RL (ρ1 G ns [] base) l l'
 | [],l',h=>by cases h; exact RL.nil _
 | v::l,l',h=>by
  simp only [unW] at h
  split at h
  ·rename_i a b ha hb
   cases h
   exact RL.cons (unS_ok ha) (unW_ok hb)
  ·cases h
def nmS:AVal→List Nat
 | .ptr n _=>[n]
 | .slice n _ _ _=>[n]
 | .mth _ n _=>[n]
 | _=>[]
def nmV:AVal→List Nat
 | .fn _ cap=>cap.flatMap nmS
 | v=>nmS v
def addN:List Nat→List Nat→List Nat
 | seen,[]=>seen
 | seen,n::l=>addN (cond (seen.any (Nat.beq n)) seen (seen++[n])) l
def lead (η:Nat→Option AObj) (n:Nat):List Nat:=match η n with
 | some (.cells _ c)=>c.flatMap nmV
 | none=>[]
def reach (η:Nat→Option AObj) (args:List AVal):List Nat:=
 let a:=addN [] (args.flatMap nmV)
 let b:=addN a (a.flatMap (lead η))
 addN b (b.flatMap (lead η))
def blD (G:Nat) (η:Nat→Option AObj) (ns:List Nat):List Nat→Nat→Option HL
 | [],_=>some []
 | n::l,i=>match η n,blD G η ns l (i+1) with
  | some (.cells false c),some H=>match cnW G ns c with
   | some c'=>some ((G+i,.cells false c')::H)
   | none=>none
  | _,_=>none
theorem blD_ok {G:Nat}{η:Nat→Option AObj}{ns:List Nat}:∀ {l:List Nat}{i:Nat}{H:HL},blD G η ns l i=some H →
  (∀ k o,aget H k=some o→∃ (j n:Nat) (c c':List AVal),k=G+(i+j)∧l[j]? = some n∧η n=some (.cells false c)∧o=.cells false c'∧RL (ρ0 G ns) c' c)∧∀ (j n:Nat),l[j]? = some n→∃ c,η n=some (.cells false c)
 | [],i,H,h=>by
  cases h
  exact ⟨(fun k o hk=>by cases hk),(fun j n hj=>by simp at hj)⟩
 | n::l,i,H,h=>by
  simp only [blD] at h
  split at h
  ·rename_i c H1 hn h1
   split at h
   ·rename_i c' hc
    cases h
    obtain ⟨a,b⟩:=blD_ok h1
    refine ⟨fun k o hk => ?_,fun j m hj => ?_⟩
    ·simp only [aget] at hk
     rcases beq_cases (G+i) k with ⟨e,hb⟩ | ⟨e,hb⟩ <;> rw [hb] at hk
     ·simp only [cond_true,Option.some.injEq] at hk
      subst hk
      exact ⟨0,n,c,c',by omega,rfl,hn,rfl,cnW_ok hc⟩
     ·simp only [cond_false] at hk
      obtain ⟨j,m,d,d',e1,e2,e3,e4,e5⟩:=a k o hk
      exact ⟨j+1,m,d,d',by omega,by simpa using e2,e3,e4,e5⟩
    ·cases j with
     | zero=>simp at hj; subst hj; exact ⟨c,hn⟩
     | succ j=>exact b j m (by simpa using hj)
   ·cases h
  ·cases h
def bkD (G:Nat) (H':HL) (ns:List Nat):List Nat→Nat→Option (List (Nat × Option AObj))
 | [],_=>some []
 | n::l,i=>match bkD G H' ns l (i+1),aget H' (G+i) with
  | some us,some (.cells false c)=>match unW G ns c with
   | some c'=>some ((n,some (.cells false c'))::us)
   | none=>none
  | _,_=>none
theorem bkD_ok {G base:Nat}{H':HL}{ns:List Nat}:∀ {l:List Nat}{i:Nat}{us:List (Nat × Option AObj)},bkD G H' ns l i=some us →
  us.map (·.1)=l∧∀ m x,(m,x) ∈ us→∃ (j:Nat) (c c':List AVal),l[j]? = some m∧x=some (.cells false c')∧aget H' (G+(i+j))=some (.cells false c)∧RL (ρ1 G ns [] base) c c'
 | [],i,us,h=>by
  cases h
  exact ⟨rfl,(fun m x hm=>by cases hm)⟩
 | n::l,i,us,h=>by
  simp only [bkD] at h
  split at h
  ·rename_i us1 c h1 hc
   split at h
   ·rename_i c' hu
    cases h
    obtain ⟨a,b⟩:=bkD_ok h1
    refine ⟨by rw [List.map_cons,a],fun m x hm => ?_⟩
    rcases List.mem_cons.1 hm with e | hm
    ·cases e
     exact ⟨0,c,c',rfl,rfl,hc,unW_ok hu⟩
    ·obtain ⟨j,d,d',e1,e2,e3,e4⟩:=b m x hm
     exact ⟨j+1,d,d',by simpa using e1,e2,by rw [show i+(j+1)=i+1+j by omega]; exact e3,e4⟩
   ·cases h
  ·cases h
def inlK (P:Program) (cs:CS) (nn F:Nat) (f:FuncId) (args:List AVal) (η:Nat→Option AObj) (ns:List Nat):Option (AVal × List (Nat × Option AObj)):=
 match cond (nodupB ns) (cnW P.globals.size ns args) none with
 | none=>none
 | some cargs=>match blD P.globals.size η ns ns 0 with
  | none=>none
  | some Hc=>match run1 P cs nn F f cargs Hc (P.globals.size+ns.length) with
   | none=>none
   | some (v0,H',_)=>match unS P.globals.size ns v0,bkD P.globals.size H' ns ns 0 with
    | some v,some us=>some (v,us)
    | _,_=>none
def inlE (P:Program) (cs:CS) (nn F:Nat) (f:FuncId) (args:List AVal):EffA:=.eff fun _ η=>inlK P cs nn F f args η (reach η args)
theorem inlN_ok {P:Program}{cs:CS}(hcs:CSOk P cs) (hm:P.follows .mixedOrders=true){nn F:Nat}{f:FuncId}{args:List AVal}{g:(Nat→Option AObj)→List Nat}:CallOk P f args (.eff fun _ η=>inlK P cs nn F f args η (g η)):=by
 refine callOk_deep hcs hm fun base η v us hK => ?_
 generalize g η=ns at hK
 unfold inlK at hK
 split at hK
 ·cases hK
 ·rename_i cargs hc
  cases hnd:nodupB ns with
  | false=>rw [hnd] at hc; cases hc
  | true =>
   rw [hnd,cond_true] at hc
   split at hK
   ·cases hK
   ·rename_i Hc hH
    split at hK
    ·cases hK
    ·rename_i v0 H' fr' hr
     split at hK
     ·rename_i v1 us1 hv hu
      cases hK
      obtain ⟨b1,b2⟩:=blD_ok hH
      obtain ⟨u1,u2⟩:=bkD_ok (base:=base) hu
      have hn:=nodupB_ok hnd
      refine ⟨{ nn:=nn,F:=F,ns:=ns,ks:=[],cargs:=cargs,Hc:=Hc,fr:=P.globals.size+ns.length,v0:=v0,H':=H',fr':=fr',hns:=hn,hη:=fun n hn => ?_,hargs:=cnW_ok hc,hblk:=fun k o hk => ?_,hfr:=Nat.le_refl _,hrun:=hr,hks:=List.nodup_nil,hks8:=Nat.zero_le _,hkfr:=fun k hk=>(nomatch hk),hv:=unS_ok hv,hnd:=?_,hus:=fun m x hm => ?_,hall:=fun i n o hi ho hro => ?_ }⟩
      ·obtain ⟨j,hj⟩:=List.getElem?_of_mem hn
       obtain ⟨c,hc⟩:=b2 j n hj
       exact .inl ⟨_,hc⟩
      ·obtain ⟨j,n,c,c',e1,e2,e3,e4,e5⟩:=b1 k o hk
       exact ⟨j,n,_,by omega,e2,e3,false,c',c,e4,rfl,e5⟩
      ·rw [u1]; exact hn
      ·obtain ⟨j,c,c',e1,e2,e3,e4⟩:=u2 m x hm
       exact .inl ⟨j,e1,.inr ⟨_,_,e2,by rw [Nat.zero_add] at e3; exact e3,rfl,false,c,c',rfl,rfl,e4⟩⟩
      ·have:n ∈ us.map (·.1):=by rw [u1]; exact List.mem_of_getElem? hi
       obtain ⟨p,hp,e⟩:=List.mem_map.1 this
       exact ⟨p.2,by rw [← e]; exact hp⟩
     ·cases hK
theorem inlE_ok {P:Program}{cs:CS}(hcs:CSOk P cs) (hm:P.follows .mixedOrders=true){nn F:Nat}{f:FuncId}{args:List AVal}:CallOk P f args (inlE P cs nn F f args):=inlN_ok hcs hm
def inlD (P:Program) (nn:FuncId→Nat) (F:Nat) (cs:CS):Nat→CS
 | 0=>cs
 | k+1=>fun f args=>match cs f args with
  | some e=>some e
  | none=>cond (allV args) (match run1 P (inlD P nn F cs k) (nn f) F f args [] P.globals.size with
   | some (v,_,_)=>cond (ltV 0 v) (some (.pure v)) (some (inlE P (inlD P nn F cs k) (nn f) F f args))
   | none=>some (inlE P (inlD P nn F cs k) (nn f) F f args)) (some (inlE P (inlD P nn F cs k) (nn f) F f args))
theorem inlD_ok {P:Program}{nn:FuncId→Nat}{F:Nat}{cs:CS}(hm:P.follows .mixedOrders=true) (hcs:CSOk P cs):∀ k,CSOk P (inlD P nn F cs k)
 | 0=>hcs
 | k+1=>fun f args e he=>by
  have ih:=inlD_ok hm hcs (nn:=nn) (F:=F) k
  simp only [inlD] at he
  split at he
  ·rename_i e1 h1
   cases he
   exact hcs f args _ h1
  ·cases ha:allV args with
   | false =>
    rw [ha,cond_false] at he
    cases he
    exact inlE_ok ih hm
   | true =>
    rw [ha,cond_true] at he
    split at he
    ·rename_i v H' fr' hr
     cases hv:ltV 0 v with
     | false =>
      rw [hv,cond_false] at he
      cases he
      exact inlE_ok ih hm
     | true =>
      rw [hv,cond_true] at he
      cases he
      exact callOk_run ih hm hr ha hv
    ·cases he
     exact inlE_ok ih hm
end Go.Eng
namespace Go.Eng
open Go
theorem inlE_app {P:Program}{cs:CS}{nn F:Nat}{f:FuncId}{args cargs:List AVal}{base G:Nat}{H Hc H1:HL}{ns:List Nat}{fr':Nat}{v v0:AVal}{us:List (Nat × Option AObj)}
  (hG:P.globals.size=G) (hns:reach (aget H) args=ns) (hnd:nodupB ns=true) (hc:cnW G ns args=some cargs) (hb:blD G (aget H) ns ns 0=some Hc)
  (hr:run1 P cs nn F f cargs Hc (G+ns.length)=some (v0,H1,fr')) (hv:unS G ns v0=some v) (hk:bkD G H1 ns ns 0=some us):(inlE P cs nn F f args).app base H=some (v,appU H us):=by
 subst hG
 unfold inlE
 simp only [EffA.app]
 rw [hns]
 unfold inlK
 rw [hnd,cond_true,hc]
 simp only
 rw [hb]
 simp only
 rw [hr]
 simp only
 rw [hv,hk]
end Go.Eng
namespace Go.Eng
open Go
def bkL (G:Nat) (ns:List Nat):List Nat→List (Option AObj)→Option (List (Nat × Option AObj))
 | n::l,some (.cells false c)::L=>match bkL G ns l L,unW G ns c with
  | some us,some c'=>some ((n,some (.cells false c'))::us)
  | _,_=>none
 | [],[]=>some []
 | _,_=>none
theorem bkL_ok {G:Nat}{H1:HL}{ns:List Nat}:∀ {l:List Nat}{i:Nat}{L:List (Option AObj)}{us:List (Nat × Option AObj)},(List.range' (G+i) l.length).map (aget H1)=L→bkL G ns l L=some us→bkD G H1 ns l i=some us
 | [],i,L,us,h1,h2=>by
  subst h1
  simp only [List.length_nil,List.range'_zero,List.map_nil,bkL,Option.some.injEq] at h2
  simp only [bkD,h2]
 | n::l,i,L,us,h1,h2=>by
  subst h1
  rw [List.length_cons,List.range'_succ,List.map_cons] at h2
  generalize ho:aget H1 (G+i)=o at h2
  unfold bkL at h2
  split at h2
  ·rename_i n' l' c L' e1 e2
   cases e1
   cases e2
   split at h2
   ·rename_i us1 c' hx hc
    cases h2
    have:=bkL_ok (i:=i+1) (by rfl) hx
    simp only [bkD,this,ho,hc]
   ·cases h2
  ·rename_i e1 e2
   cases e1
  ·cases h2
theorem inlE_run {P:Program}{cs:CS}{ps:PS}(hps:PSOk ps cs){nn F:Nat}{f:FuncId}{args cargs:List AVal}{base G:Nat}{H Hc:HL}{ns:List Nat}{v v0:AVal}{us:List (Nat × Option AObj)}
  {sy:List Nat} {os:List Bool} {vs:List AVal} {L:List (Option AObj)} {ob:List Bool}
  (hr:ansM (List.range' G ns.length) (run1O P ps cs sy os vs nn F f cargs Hc (G+ns.length))=some (v0,L,ob)) (ha:allT ob=true)
  (hG:P.globals.size=G) (hns:reach (aget H) args=ns) (hnd:nodupB ns=true) (hc:cnW G ns args=some cargs) (hb:blD G (aget H) ns ns 0=some Hc)
  (hv:unS G ns v0=some v) (hk:bkL G ns ns L=some us):(inlE P cs nn F f args).app base H=some (v,appU H us):=by
 unfold ansM at hr
 split at hr
 ·rename_i v' H' fr' ob' hx
  simp only [Option.some.injEq,Prod.mk.injEq] at hr
  obtain ⟨rfl,hL,rfl⟩:=hr
  exact inlE_app hG hns hnd hc hb (run1O_ok hps hx ha) hv (bkL_ok (i:=0) hL hk)
 ·cases hr
end Go.Eng
namespace Go.Eng
open Go
def inlO (P:Program) (cs:CS) (nn F:Nat) (f:FuncId) (args:List AVal) (n:Nat) (o:AObj):Option (AVal × AObj):=
 match inlK P cs nn F f args (fun m=>cond (Nat.beq n m) (some o) none) [n] with
 | some (v,[(_,some o')])=>some (v,o')
 | _=>none
def inlE1 (P:Program) (cs:CS) (nn F:Nat) (f:FuncId) (args:List AVal):EffA:=match addN [] (args.flatMap nmV) with
 | [n]=>.one n (inlO P cs nn F f args n)
 | _=>inlE P cs nn F f args
theorem inlK_one {P:Program}{cs:CS}{nn F:Nat}{f:FuncId}{args:List AVal}{η η':Nat→Option AObj}{n:Nat}(h:η n=η' n):inlK P cs nn F f args η [n]=inlK P cs nn F f args η' [n]:=by
 have hb:blD P.globals.size η [n] [n] 0=blD P.globals.size η' [n] [n] 0:=by
  unfold blD
  rw [h]
  rfl
 unfold inlK
 rw [hb]
theorem inlK_us {P:Program}{cs:CS}{nn F:Nat}{f:FuncId}{args:List AVal}{η:Nat→Option AObj}{n:Nat}{v:AVal}{us:List (Nat × Option AObj)}(h:inlK P cs nn F f args η [n]=some (v,us)):(∃ o,η n=some o)∧∃ o',us=[(n,some o')]:=by
 unfold inlK at h
 split at h
 ·cases h
 ·split at h
  ·cases h
  ·rename_i Hc hH
   split at h
   ·cases h
   ·split at h
    ·rename_i v1 us1 hv hu
     cases h
     refine ⟨?_,?_⟩
     ·obtain ⟨c,hc⟩:=(blD_ok hH).2 0 n rfl
      exact ⟨_,hc⟩
     ·unfold bkD at hu
      split at hu
      ·rename_i us2 c h1 h2
       split at hu
       ·cases hu
        unfold bkD at h1
        cases h1
        exact ⟨_,rfl⟩
       ·cases hu
      ·cases hu
    ·cases h
theorem single_self {n:Nat}{o:AObj}:(fun m=>cond (Nat.beq n m) (some o) none) n=some o:=by
 show cond (Nat.beq n n) (some o) none=some o
 rw [Nat.beq_refl]
 rfl
theorem inlE1_ok {P:Program}{cs:CS}(hcs:CSOk P cs) (hm:P.follows .mixedOrders=true){nn F:Nat}{f:FuncId}{args:List AVal}:CallOk P f args (inlE1 P cs nn F f args):=by
 unfold inlE1
 split
 ·rename_i n hn
  intro σ args' H w base v H' hl hg hH happ hf
  refine inlN_ok hcs hm (nn:=nn) (F:=F) (g:=fun _=>[n]) σ args' H w base v H' hl hg hH ?_ hf
  simp only [EffA.app] at happ ⊢
  cases ho:aget H n with
  | none=>rw [ho] at happ; cases happ
  | some o =>
   rw [ho] at happ
   simp only at happ
   cases hx:inlO P cs nn F f args n o with
   | none=>rw [hx] at happ; cases happ
   | some p =>
    obtain ⟨v1,o1⟩:=p
    rw [hx] at happ
    simp only [Option.some.injEq,Prod.mk.injEq] at happ
    obtain ⟨rfl,rfl⟩:=happ
    unfold inlO at hx
    rw [inlK_one (η':=fun m=>cond (Nat.beq n m) (some o) none) (ho.trans single_self.symm)]
    cases hk:inlK P cs nn F f args (fun m=>cond (Nat.beq n m) (some o) none) [n] with
    | none=>rw [hk] at hx; cases hx
    | some q =>
     obtain ⟨v2,us⟩:=q
     obtain ⟨_,o',rfl⟩:=inlK_us hk
     rw [hk] at hx
     cases hx
     rfl
 ·exact inlE_ok hcs hm
theorem inlE1_of {P:Program}{cs:CS}{nn F:Nat}{f:FuncId}{args:List AVal}{base n:Nat}{H H':HL}{v:AVal}(h1:addN [] (args.flatMap nmV)=[n]) (h2:reach (aget H) args=[n])
  (h:(inlE P cs nn F f args).app base H=some (v,H')):(inlE1 P cs nn F f args).app base H=some (v,H'):=by
 unfold inlE1
 rw [h1]
 unfold inlE at h
 simp only [EffA.app] at h ⊢
 rw [h2] at h
 cases hk:inlK P cs nn F f args (aget H) [n] with
 | none=>rw [hk] at h; cases h
 | some q =>
  obtain ⟨v2,us⟩:=q
  obtain ⟨⟨o,ho⟩,o',rfl⟩:=inlK_us hk
  rw [hk] at h
  rw [ho]
  simp only
  rw [inlK_one (η':=fun m=>cond (Nat.beq n m) (some o) none) (ho.trans single_self.symm)] at hk
  unfold inlO
  rw [hk]
  exact h
def inlDo (P:Program) (nn:FuncId→Nat) (F:Nat) (one:FuncId→Bool) (cs:CS):Nat→CS
 | 0=>cs
 | k+1=>fun f args=>match cs f args with
  | some e=>some e
  | none=>cond (allV args) (match run1 P (inlDo P nn F one cs k) (nn f) F f args [] P.globals.size with
   | some (v,_,_)=>cond (ltV 0 v) (some (.pure v)) (some (inlE P (inlDo P nn F one cs k) (nn f) F f args))
   | none=>some (inlE P (inlDo P nn F one cs k) (nn f) F f args)) (cond (one f) (some (inlE1 P (inlDo P nn F one cs k) (nn f) F f args)) (some (inlE P (inlDo P nn F one cs k) (nn f) F f args)))
theorem inlDo_ok {P:Program}{nn:FuncId→Nat}{F:Nat}{one:FuncId→Bool}{cs:CS}(hm:P.follows .mixedOrders=true) (hcs:CSOk P cs):∀ k,CSOk P (inlDo P nn F one cs k)
 | 0=>hcs
 | k+1=>fun f args e he=>by
  have ih:=inlDo_ok hm hcs (nn:=nn) (F:=F) (one:=one) k
  simp only [inlDo] at he
  split at he
  ·rename_i e1 h1
   cases he
   exact hcs f args _ h1
  ·cases ha:allV args with
   | false =>
    rw [ha,cond_false] at he
    cases ho:one f with
    | true =>
     rw [ho,cond_true] at he
     cases he
     exact inlE1_ok ih hm
    | false =>
     rw [ho,cond_false] at he
     cases he
     exact inlE_ok ih hm
   | true =>
    rw [ha,cond_true] at he
    split at he
    ·rename_i v H' fr' hr
     cases hv:ltV 0 v with
     | false =>
      rw [hv,cond_false] at he
      cases he
      exact inlE_ok ih hm
     | true =>
      rw [hv,cond_true] at he
      cases he
      exact callOk_run ih hm hr ha hv
    ·cases he
     exact inlE_ok ih hm
end Go.Eng
namespace Go.Proofs.YthlemfnkmpikjaaDoor
open Go Go.Eng Go.Num Go.Msg
def o46 (f:FuncId):Bool:=Nat.beq f 46
noncomputable def nR (k:Nat):CS:=inlDo Tryd.prog mask 200 o46 noCS k
theorem nR_ok (k:Nat):CSOk Tryd.prog (nR k):=inlDo_ok hmix (noCS_ok _) k
def rdr (s:List UInt8) (e:Int):List AVal:=[.str s,.int .i64 e]
def penR (has e:Int) (r:Nat):List AVal:=[.int .i64 has,.bool true,.ptr r 0,.str [],.int .i64 e]
end Go.Proofs.YthlemfnkmpikjaaDoor
namespace Go.Proofs.YthlemfnkmpikjaaDoor
open Go Go.Eng Go.Num Go.Msg
noncomputable def oB (e:EffA) (base:Nat) (H:HL) (v:AVal) (H':HL):Bool:=decP (e.app base H=some (v,H'))
theorem oB_of {e:EffA}{base:Nat}{H H':HL}{v:AVal}(h:e.app base H=some (v,H')):oB e base H v H'=true:=decP_of h
def takeR (n:Nat) (s:List UInt8) (e:Int):List UInt8 × Bool × List UInt8 × Int:=cond (e != 0) ([],false,s,e) (cond (Nat.ble n s.length) (s.take n,true,s.drop n,e) ([],false,s,7))
noncomputable def eR (cs:CS) (f:FuncId) (args:List AVal):EffA:=inlE Tryd.prog cs (mask f) 200 f args
theorem reach_r {H:HL}{r:Nat}{s:List UInt8}{e:Int}(h:aget H r=some (.cells false (rdr s e))):reach (aget H) [.ptr r 0]=[r]:=by
 have hl:lead (aget H) r=[]:=by unfold lead; rw [h]; rfl
 show addN (addN [r] ([r].flatMap (lead (aget H)))) ((addN [r] ([r].flatMap (lead (aget H)))).flatMap (lead (aget H)))=[r]
 simp only [List.flatMap_cons,List.flatMap_nil,hl,List.append_nil,addN]
theorem reach_rn {H:HL}{r:Nat}{s:List UInt8}{e n:Int}(h:aget H r=some (.cells false (rdr s e))):reach (aget H) [.ptr r 0,.int .i64 n]=[r]:=reach_r h
theorem bl_r {H:HL}{r:Nat}{s:List UInt8}{e:Int}(h:aget H r=some (.cells false (rdr s e))):blD 4 (aget H) [r] [r] 0=some [(4,.cells false (rdr s e))]:=by
 simp only [blD,h]; rfl
theorem pos_r (r:Nat):posN r [r] 0=some 0:=by
 have hb:Nat.beq r r=true:=Nat.beq_refl r
 simp only [posN,hb,cond_true]
theorem cn_r (r:Nat):cnW 4 [r] [.ptr r 0]=some [.ptr 4 0]:=by
 simp only [cnW,cnV,cnS,pos_r]
theorem cn_rn (r:Nat) (n:Int):cnW 4 [r] [.ptr r 0,.int .i64 n]=some [.ptr 4 0,.int .i64 n]:=by
 simp only [cnW,cnV,cnS,pos_r]; rfl
theorem rd0 {cs:CS}{f:FuncId}{s s1:List UInt8}{e e1:Int}{v:AVal}{sy:List Nat}{os:List Bool}{vs:List AVal}{ob:List Bool}
  (hr:ansM [4] (run1O Tryd.prog noPS cs sy os vs (mask f) 200 f [.ptr 4 0] [(4,.cells false (rdr s e))] 5)=some (v,[some (.cells false (rdr s1 e1))],ob)) (ha:allT ob=true) (hv:unS 4 [0] v=some v)
  {H:HL} {r base:Nat} (h:aget H r=some (.cells false (rdr s e))) (hv2:unS 4 [r] v=some v):(eR cs f [.ptr r 0]).app base H=some (v,aset H r (.cells false (rdr s1 e1))):=
 inlE_run (noPS_ok _) (ns:=[r]) hr ha gl (reach_r h) rfl (cn_r r) (bl_r h) hv2 rfl
theorem rd1 {cs:CS}{f:FuncId}{s s1:List UInt8}{e e1 n:Int}{v:AVal}{sy:List Nat}{os:List Bool}{vs:List AVal}{ob:List Bool}
  (hr:ansM [4] (run1O Tryd.prog noPS cs sy os vs (mask f) 200 f [.ptr 4 0,.int .i64 n] [(4,.cells false (rdr s e))] 5)=some (v,[some (.cells false (rdr s1 e1))],ob)) (ha:allT ob=true)
  {H:HL} {r base:Nat} (h:aget H r=some (.cells false (rdr s e))) (hv2:unS 4 [r] v=some v):(eR cs f [.ptr r 0,.int .i64 n]).app base H=some (v,aset H r (.cells false (rdr s1 e1))):=
 inlE_run (noPS_ok _) (ns:=[r]) hr ha gl (reach_rn h) rfl (cn_rn r n) (bl_r h) hv2 rfl
theorem t78a (cs:CS) (s:List UInt8) (e n:Int):ansM [4] (run1O Tryd.prog noPS cs [15,19,30,39,46] [true] [] (mask 78) 200 78 [.ptr 4 0,.int .i64 n] [(4,.cells false (rdr s e))] 5)=some (.tup [.str [],.bool false],[some (.cells false (rdr s e))],[e != 0]):=by kernel_rfl
theorem t78c (cs:CS) (s:List UInt8) (e n:Int):ansM [4] (run1O Tryd.prog noPS cs [15,19,30,39,46] [false,false,true] [] (mask 78) 200 78 [.ptr 4 0,.int .i64 n] [(4,.cells false (rdr s e))] 5)=some (.tup [.str [],.bool false],[some (.cells false (rdr s 7))],[decide ((s.length:Int) < n),!(decide (n < 0)),!(e != 0)]):=by kernel_rfl
theorem t78d (cs:CS) (s:List UInt8) (e n:Int):ansM [4] (run1O Tryd.prog noPS cs [15,19,30,39,46] [false,false,false] [] (mask 78) 200 78 [.ptr 4 0,.int .i64 n] [(4,.cells false (rdr s e))] 5)=some (.tup [.str (List.drop (Int.toNat 0) (List.take n.toNat s)),.bool true],[some (.cells false (rdr (List.drop n.toNat (List.take (Int.toNat (s.length:Int)) s)) e))],[decide (0≤n) && (decide (n≤(s.length:Int)) && decide ((s.length:Int)≤(s.length:Int))),decide ((0:Int)≤0) && (decide (0≤n) && decide (n≤(s.length:Int))),!(decide ((s.length:Int) < n)),!(decide (n < 0)),!(e != 0)]):=by kernel_rfl
theorem E78 (cs:CS) (n:Nat) (s:List UInt8) (e:Int){H:HL}{r base:Nat}(h:aget H r=some (.cells false (rdr s e))):(eR cs 78 [.ptr r 0,.int .i64 (n:Int)]).app base H=some (.tup [.str (takeR n s e).1,.bool (takeR n s e).2.1],aset H r (.cells false (rdr (takeR n s e).2.2.1 (takeR n s e).2.2.2))):=by
 unfold takeR
 cases he:(e != 0) with
 | true =>
  simp only [cond_true]
  exact rd1 (t78a cs s e n) (allT_mk he rfl) h rfl
 | false =>
  have n0:decide ((n:Int) < 0)=false:=decide_eq_false (by omega)
  cases hl:Nat.ble n s.length with
  | false =>
   simp only [cond_false]
   have hlt:¬ n≤s.length:=fun h=>by rw [Nat.ble_eq_true_of_le h] at hl; cases hl
   exact rd1 (t78c cs s e n) (allT_mk (decide_eq_true (by omega)) (allT_mk (by rw [n0]; rfl) (allT_mk (by rw [he]; rfl) rfl))) h rfl
  | true =>
   simp only [cond_true,cond_false]
   have hle:=Nat.le_of_ble_eq_true hl
   have d:=t78d cs s e n
   rw [Int.toNat_natCast,Int.toNat_natCast,List.take_length] at d
   refine rd1 (v:=.tup [.str (s.take n),.bool true]) d (allT_mk ?_ (allT_mk ?_ (allT_mk ?_ (allT_mk (by rw [n0]; rfl) (allT_mk (by rw [he]; rfl) rfl))))) h rfl
   ·rw [decide_eq_true (by omega),decide_eq_true (by omega),decide_eq_true (by omega)]; rfl
   ·rw [decide_eq_true (by omega),decide_eq_true (by omega),decide_eq_true (by omega)]; rfl
   ·rw [decide_eq_false (by omega)]; rfl
theorem t64 (k:Nat) (s s2 x:List UInt8) (e e2 n:Int) (b:Bool):ansM [4] (run1O Tryd.prog noPS (nR (k+1)) [300010] [] [.tup [.str x,.bool b],.tup [.ptr 4 0,.agg (rdr s2 e2)]] (mask 64) 200 64 [.ptr 4 0,.int .i64 n] [(4,.cells false (rdr s e))] 5)=some (.str x,[some (.cells false (rdr s2 e2))],[oB (eR (nR k) 78 [.ptr 4 0,.int .i64 n]) 29 [(4,.cells false (rdr s e))] (.tup [.str x,.bool b]) [(4,.cells false (rdr s2 e2))]]):=by kernel_rfl
def rdB (l:List UInt8):UInt8:=l.foldl (fun x b=>(st8 x.toUInt64 b).toUInt8) 0
theorem t65y (k:Nat) (s s2:List UInt8) (e e2:Int) (b:Bool) (a0 a1 a2 a3:UInt8):ansM [4] (run1O Tryd.prog noPS (nR (k+1)) [300012] [] [.tup [.str [a0,a1,a2,a3],.bool b],.tup [.ptr 4 0,.agg (rdr s2 e2)]] (mask 65) 200 65 [.ptr 4 0,.int .i64 4] [(4,.cells false (rdr s e))] 5)=some (.u32 (rd4 [a0,a1,a2,a3]),[some (.cells false (rdr s2 e2))],[oB (eR (nR k) 78 [.ptr 4 0,.int .i64 4]) 29 [(4,.cells false (rdr s e))] (.tup [.str [a0,a1,a2,a3],.bool b]) [(4,.cells false (rdr s2 e2))]]):=by kernel_rfl
theorem t65n (k:Nat) (s s2:List UInt8) (e e2:Int) (b:Bool)  : ansM [4] (run1O Tryd.prog noPS (nR (k+1)) [300012] [] [.tup [.str [],.bool b],.tup [.ptr 4 0,.agg (rdr s2 e2)]] (mask 65) 200 65 [.ptr 4 0,.int .i64 4] [(4,.cells false (rdr s e))] 5)=some (.u32 (rd4 []),[some (.cells false (rdr s2 e2))],[oB (eR (nR k) 78 [.ptr 4 0,.int .i64 4]) 29 [(4,.cells false (rdr s e))] (.tup [.str [],.bool b]) [(4,.cells false (rdr s2 e2))]]):=by kernel_rfl
theorem t67y (k:Nat) (s s2:List UInt8) (e e2:Int) (b:Bool) (a0 a1 a2 a3 a4 a5 a6 a7:UInt8):ansM [4] (run1O Tryd.prog noPS (nR (k+1)) [300012] [] [.tup [.str [a0,a1,a2,a3,a4,a5,a6,a7],.bool b],.tup [.ptr 4 0,.agg (rdr s2 e2)]] (mask 67) 200 67 [.ptr 4 0,.int .i64 8] [(4,.cells false (rdr s e))] 5)=some (.u64 (rd8 [a0,a1,a2,a3,a4,a5,a6,a7]),[some (.cells false (rdr s2 e2))],[oB (eR (nR k) 78 [.ptr 4 0,.int .i64 8]) 29 [(4,.cells false (rdr s e))] (.tup [.str [a0,a1,a2,a3,a4,a5,a6,a7],.bool b]) [(4,.cells false (rdr s2 e2))]]):=by kernel_rfl
theorem t67n (k:Nat) (s s2:List UInt8) (e e2:Int) (b:Bool)  : ansM [4] (run1O Tryd.prog noPS (nR (k+1)) [300012] [] [.tup [.str [],.bool b],.tup [.ptr 4 0,.agg (rdr s2 e2)]] (mask 67) 200 67 [.ptr 4 0,.int .i64 8] [(4,.cells false (rdr s e))] 5)=some (.u64 (rd8 []),[some (.cells false (rdr s2 e2))],[oB (eR (nR k) 78 [.ptr 4 0,.int .i64 8]) 29 [(4,.cells false (rdr s e))] (.tup [.str [],.bool b]) [(4,.cells false (rdr s2 e2))]]):=by kernel_rfl
theorem t70y (k:Nat) (s s2:List UInt8) (e e2:Int) (b:Bool) (a0 a1:UInt8):ansM [4] (run1O Tryd.prog noPS (nR (k+1)) [300012] [] [.tup [.str [a0,a1],.bool b],.tup [.ptr 4 0,.agg (rdr s2 e2)]] (mask 70) 200 70 [.ptr 4 0,.int .i64 2] [(4,.cells false (rdr s e))] 5)=some (.int .u16 (rd2 [a0,a1]),[some (.cells false (rdr s2 e2))],[oB (eR (nR k) 78 [.ptr 4 0,.int .i64 2]) 29 [(4,.cells false (rdr s e))] (.tup [.str [a0,a1],.bool b]) [(4,.cells false (rdr s2 e2))]]):=by kernel_rfl
theorem t70n (k:Nat) (s s2:List UInt8) (e e2:Int) (b:Bool)  : ansM [4] (run1O Tryd.prog noPS (nR (k+1)) [300012] [] [.tup [.str [],.bool b],.tup [.ptr 4 0,.agg (rdr s2 e2)]] (mask 70) 200 70 [.ptr 4 0,.int .i64 2] [(4,.cells false (rdr s e))] 5)=some (.int .u16 (rd2 []),[some (.cells false (rdr s2 e2))],[oB (eR (nR k) 78 [.ptr 4 0,.int .i64 2]) 29 [(4,.cells false (rdr s e))] (.tup [.str [],.bool b]) [(4,.cells false (rdr s2 e2))]]):=by kernel_rfl
theorem t87y (k:Nat) (s s2:List UInt8) (e e2:Int) (b:Bool) (a0:UInt8):ansM [4] (run1O Tryd.prog noPS (nR (k+1)) [300012] [] [.tup [.str [a0],.bool b],.tup [.ptr 4 0,.agg (rdr s2 e2)]] (mask 87) 200 87 [.ptr 4 0,.int .i64 1] [(4,.cells false (rdr s e))] 5)=some (.u8 (rdB [a0]),[some (.cells false (rdr s2 e2))],[oB (eR (nR k) 78 [.ptr 4 0,.int .i64 1]) 29 [(4,.cells false (rdr s e))] (.tup [.str [a0],.bool b]) [(4,.cells false (rdr s2 e2))]]):=by kernel_rfl
theorem t87n (k:Nat) (s s2:List UInt8) (e e2:Int) (b:Bool)  : ansM [4] (run1O Tryd.prog noPS (nR (k+1)) [300012] [] [.tup [.str [],.bool b],.tup [.ptr 4 0,.agg (rdr s2 e2)]] (mask 87) 200 87 [.ptr 4 0,.int .i64 1] [(4,.cells false (rdr s e))] 5)=some (.u8 (rdB []),[some (.cells false (rdr s2 e2))],[oB (eR (nR k) 78 [.ptr 4 0,.int .i64 1]) 29 [(4,.cells false (rdr s e))] (.tup [.str [],.bool b]) [(4,.cells false (rdr s2 e2))]]):=by kernel_rfl
theorem t43 (k:Nat) (s s2:List UInt8) (e e2:Int) (y:UInt32):ansM [4] (run1O Tryd.prog noPS (nR (k+1)) [300004] [] [.u32 y,.tup [.ptr 4 0,.agg (rdr s2 e2)]] (mask 43) 200 43 [.ptr 4 0] [(4,.cells false (rdr s e))] 5)=some (.u32 y,[some (.cells false (rdr s2 e2))],[oB (eR (nR k) 65 [.ptr 4 0,.int .i64 4]) 21 [(4,.cells false (rdr s e))] (.u32 y) [(4,.cells false (rdr s2 e2))]]):=by kernel_rfl
theorem t46 (k:Nat) (s s2:List UInt8) (e e2:Int) (y:UInt64):ansM [4] (run1O Tryd.prog noPS (nR (k+1)) [300004] [] [.u64 y,.tup [.ptr 4 0,.agg (rdr s2 e2)]] (mask 46) 200 46 [.ptr 4 0] [(4,.cells false (rdr s e))] 5)=some (.u64 y,[some (.cells false (rdr s2 e2))],[oB (eR (nR k) 67 [.ptr 4 0,.int .i64 8]) 21 [(4,.cells false (rdr s e))] (.u64 y) [(4,.cells false (rdr s2 e2))]]):=by kernel_rfl
theorem t50 (k:Nat) (s s2:List UInt8) (e e2:Int) (y:Int):ansM [4] (run1O Tryd.prog noPS (nR (k+1)) [300004] [] [.int .u16 y,.tup [.ptr 4 0,.agg (rdr s2 e2)]] (mask 50) 200 50 [.ptr 4 0] [(4,.cells false (rdr s e))] 5)=some (.int .u16 y,[some (.cells false (rdr s2 e2))],[oB (eR (nR k) 70 [.ptr 4 0,.int .i64 2]) 21 [(4,.cells false (rdr s e))] (.int .u16 y) [(4,.cells false (rdr s2 e2))]]):=by kernel_rfl
theorem t79 (k:Nat) (s s2:List UInt8) (e e2:Int) (y:UInt8):ansM [4] (run1O Tryd.prog noPS (nR (k+1)) [300004] [] [.u8 y,.tup [.ptr 4 0,.agg (rdr s2 e2)]] (mask 79) 200 79 [.ptr 4 0] [(4,.cells false (rdr s e))] 5)=some (.u8 y,[some (.cells false (rdr s2 e2))],[oB (eR (nR k) 87 [.ptr 4 0,.int .i64 1]) 21 [(4,.cells false (rdr s e))] (.u8 y) [(4,.cells false (rdr s2 e2))]]):=by kernel_rfl
theorem E64 (k:Nat) (n:Nat) (s:List UInt8) (e:Int){H:HL}{r base:Nat}(h:aget H r=some (.cells false (rdr s e))):(eR (nR (k+1)) 64 [.ptr r 0,.int .i64 (n:Int)]).app base H=some (.str (takeR n s e).1,aset H r (.cells false (rdr (takeR n s e).2.2.1 (takeR n s e).2.2.2))):=
 rd1 (t64 k s _ _ e _ n (takeR n s e).2.1) (allT_mk (oB_of (E78 (nR k) n s e rfl)) rfl) h rfl
theorem takeR_x (n:Nat) (s:List UInt8) (e:Int):(takeR n s e).1=[] ∨ (takeR n s e).1.length=n:=by
 unfold takeR
 cases he:(e != 0) with
 | true=>exact .inl rfl
 | false =>
  cases hl:Nat.ble n s.length with
  | false=>exact .inl rfl
  | true =>
   right
   have hle:=Nat.le_of_ble_eq_true hl
   simp only [cond_false,cond_true,List.length_take]
   omega
theorem E65 (k:Nat) (s:List UInt8) (e:Int){H:HL}{r base:Nat}(h:aget H r=some (.cells false (rdr s e))):(eR (nR (k+1)) 65 [.ptr r 0,.int .i64 4]).app base H=some (.u32 (rd4 (takeR 4 s e).1),aset H r (.cells false (rdr (takeR 4 s e).2.2.1 (takeR 4 s e).2.2.2))):=by
 have x:=E78 (nR k) 4 s e (H:=[(4,.cells false (rdr s e))]) (r:=4) (base:=29) rfl
 have l:=takeR_x 4 s e
 generalize takeR 4 s e=z at x l ⊢
 obtain ⟨x1,b,s2,e2⟩:=z
 simp only at x l ⊢
 rcases l with rfl | l
 ·exact rd1 (t65n k s s2 e e2 b) (allT_mk (oB_of x) rfl) h rfl
 ·obtain ⟨a0,a1,a2,a3,rfl⟩:∃ a0 a1 a2 a3,x1=[a0,a1,a2,a3]:=by
   match x1,l with
   | [a0,a1,a2,a3],_=>exact ⟨a0,a1,a2,a3,rfl⟩
  exact rd1 (t65y k s s2 e e2 b a0 a1 a2 a3) (allT_mk (oB_of x) rfl) h rfl
theorem E43 (k:Nat) (s:List UInt8) (e:Int){H:HL}{r base:Nat}(h:aget H r=some (.cells false (rdr s e))):(eR (nR (k+2)) 43 [.ptr r 0]).app base H=some (.u32 (rd4 (takeR 4 s e).1),aset H r (.cells false (rdr (takeR 4 s e).2.2.1 (takeR 4 s e).2.2.2))):=
 rd0 (t43 (k+1) s _ e _ _) (allT_mk (oB_of (E65 k s e rfl)) rfl) rfl h rfl
theorem E67 (k:Nat) (s:List UInt8) (e:Int){H:HL}{r base:Nat}(h:aget H r=some (.cells false (rdr s e))):(eR (nR (k+1)) 67 [.ptr r 0,.int .i64 8]).app base H=some (.u64 (rd8 (takeR 8 s e).1),aset H r (.cells false (rdr (takeR 8 s e).2.2.1 (takeR 8 s e).2.2.2))):=by
 have x:=E78 (nR k) 8 s e (H:=[(4,.cells false (rdr s e))]) (r:=4) (base:=29) rfl
 have l:=takeR_x 8 s e
 generalize takeR 8 s e=z at x l ⊢
 obtain ⟨x1,b,s2,e2⟩:=z
 simp only at x l ⊢
 rcases l with rfl | l
 ·exact rd1 (t67n k s s2 e e2 b) (allT_mk (oB_of x) rfl) h rfl
 ·obtain ⟨a0,a1,a2,a3,a4,a5,a6,a7,rfl⟩:∃ a0 a1 a2 a3 a4 a5 a6 a7,x1=[a0,a1,a2,a3,a4,a5,a6,a7]:=by
   match x1,l with
   | [a0,a1,a2,a3,a4,a5,a6,a7],_=>exact ⟨a0,a1,a2,a3,a4,a5,a6,a7,rfl⟩
  exact rd1 (t67y k s s2 e e2 b a0 a1 a2 a3 a4 a5 a6 a7) (allT_mk (oB_of x) rfl) h rfl
theorem E46 (k:Nat) (s:List UInt8) (e:Int){H:HL}{r base:Nat}(h:aget H r=some (.cells false (rdr s e))):(eR (nR (k+2)) 46 [.ptr r 0]).app base H=some (.u64 (rd8 (takeR 8 s e).1),aset H r (.cells false (rdr (takeR 8 s e).2.2.1 (takeR 8 s e).2.2.2))):=
 rd0 (t46 (k+1) s _ e _ _) (allT_mk (oB_of (E67 k s e rfl)) rfl) rfl h rfl
theorem E70 (k:Nat) (s:List UInt8) (e:Int){H:HL}{r base:Nat}(h:aget H r=some (.cells false (rdr s e))):(eR (nR (k+1)) 70 [.ptr r 0,.int .i64 2]).app base H=some (.int .u16 (rd2 (takeR 2 s e).1),aset H r (.cells false (rdr (takeR 2 s e).2.2.1 (takeR 2 s e).2.2.2))):=by
 have x:=E78 (nR k) 2 s e (H:=[(4,.cells false (rdr s e))]) (r:=4) (base:=29) rfl
 have l:=takeR_x 2 s e
 generalize takeR 2 s e=z at x l ⊢
 obtain ⟨x1,b,s2,e2⟩:=z
 simp only at x l ⊢
 rcases l with rfl | l
 ·exact rd1 (t70n k s s2 e e2 b) (allT_mk (oB_of x) rfl) h rfl
 ·obtain ⟨a0,a1,rfl⟩:∃ a0 a1,x1=[a0,a1]:=by
   match x1,l with
   | [a0,a1],_=>exact ⟨a0,a1,rfl⟩
  exact rd1 (t70y k s s2 e e2 b a0 a1) (allT_mk (oB_of x) rfl) h rfl
theorem E50 (k:Nat) (s:List UInt8) (e:Int){H:HL}{r base:Nat}(h:aget H r=some (.cells false (rdr s e))):(eR (nR (k+2)) 50 [.ptr r 0]).app base H=some (.int .u16 (rd2 (takeR 2 s e).1),aset H r (.cells false (rdr (takeR 2 s e).2.2.1 (takeR 2 s e).2.2.2))):=
 rd0 (t50 (k+1) s _ e _ _) (allT_mk (oB_of (E70 k s e rfl)) rfl) rfl h rfl
theorem E87 (k:Nat) (s:List UInt8) (e:Int){H:HL}{r base:Nat}(h:aget H r=some (.cells false (rdr s e))):(eR (nR (k+1)) 87 [.ptr r 0,.int .i64 1]).app base H=some (.u8 (rdB (takeR 1 s e).1),aset H r (.cells false (rdr (takeR 1 s e).2.2.1 (takeR 1 s e).2.2.2))):=by
 have x:=E78 (nR k) 1 s e (H:=[(4,.cells false (rdr s e))]) (r:=4) (base:=29) rfl
 have l:=takeR_x 1 s e
 generalize takeR 1 s e=z at x l ⊢
 obtain ⟨x1,b,s2,e2⟩:=z
 simp only at x l ⊢
 rcases l with rfl | l
 ·exact rd1 (t87n k s s2 e e2 b) (allT_mk (oB_of x) rfl) h rfl
 ·obtain ⟨a0,rfl⟩:∃ a0,x1=[a0]:=by
   match x1,l with
   | [a0],_=>exact ⟨a0,rfl⟩
  exact rd1 (t87y k s s2 e e2 b a0) (allT_mk (oB_of x) rfl) h rfl
theorem E79 (k:Nat) (s:List UInt8) (e:Int){H:HL}{r base:Nat}(h:aget H r=some (.cells false (rdr s e))):(eR (nR (k+2)) 79 [.ptr r 0]).app base H=some (.u8 (rdB (takeR 1 s e).1),aset H r (.cells false (rdr (takeR 1 s e).2.2.1 (takeR 1 s e).2.2.2))):=
 rd0 (t79 (k+1) s _ e _ _) (allT_mk (oB_of (E87 k s e rfl)) rfl) rfl h rfl
theorem E46o (k:Nat) (s:List UInt8) (e:Int){H:HL}{r base:Nat}(h:aget H r=some (.cells false (rdr s e))):(inlE1 Tryd.prog (nR (k+2)) (mask 46) 200 46 [.ptr r 0]).app base H=some (.u64 (rd8 (takeR 8 s e).1),aset H r (.cells false (rdr (takeR 8 s e).2.2.1 (takeR 8 s e).2.2.2))):=
 inlE1_of rfl (reach_r h) (E46 k s e h)
end Go.Proofs.YthlemfnkmpikjaaDoor
namespace Go.Proofs.YthlemfnkmpikjaaDoor
open Go Go.Eng Go.Num
def nB (φ:Fa):CS:=csAlt (csP (psA φ)) (csAlt (csOne 60 (k60 φ)) (csA φ))
theorem nB_ps (φ:Fa):PSOk (psA φ) (nB φ):=csP_ok
theorem nB_ok:CSOk Tryd.prog (nB far):=csAlt_ok psA_ok (csAlt_ok k60_ok (csAlt_ok k59_ok (csAlt_ok k56_ok k58n_ok)))
end Go.Proofs.YthlemfnkmpikjaaDoor
namespace Go.Proofs.YthlemfnkmpikjaaDoor
open Go Go.Eng Go.Num
set_option maxHeartbeats 4000000
def bt (lo:UInt64) (k:Nat):Int:=IntKind.wrap .i64 ((shr_u64 lo k &&& 255).toNat:Int)
def ib (y:Int):Bool:=decide (0≤y) && decide (y < 256)
noncomputable def jQ (len:Nat) (J:List UInt8) (H:HL):Bool:=decP ((rdS 99 0 len (joinV [46])).app 100 H=some (.str J,H))
section
variable (φ:Fa) (hi lo:UInt64) (J J2:List UInt8)
theorem t4a:ansO (run1O Tryd.prog (psA φ) (nB φ) [11,31,300036] [true] [] (mask 35) 200 35 [.agg [.bool false,.u64 hi,.u64 lo]] H0 4)=some (.str [],[!(φ.ma false hi lo)]):=by kernel_rfl
theorem t4b:ansO (run1O Tryd.prog (psA φ) (nB φ) [11,31,300036] [false] [.str J,.tup []] (mask 35) 200 35 [.agg [.bool false,.u64 hi,.u64 lo]] H0 4)=some (.str J,[jQ 4 J (H0++[(4,.cells false [.bool false,.u64 hi,.u64 lo]),(99,.cells false [.str (φ.m.it (bt lo 24)),.str (φ.m.it (bt lo 16)),.str (φ.m.it (bt lo 8)),.str (φ.m.it (bt lo 0))])]),ib (bt lo 0),ib (bt lo 8),ib (bt lo 16),ib (bt lo 24),!!(φ.ma false hi lo)]):=by kernel_rfl
end
def cnt:List Bool→Nat
 | true::l=>cnt l+1
 | _=>0
def askF:List Bool→List Bool
 | true::l=>true::askF l
 | false::_=>[false]
 | []=>[]
def osF:List Bool→List Bool
 | []=>[]
 | z::l=>askF (z::l)++osF l
def bestF:List Bool→Nat→Nat→Nat→Nat × Nat
 | [],_,at_,most=>(at_,most)
 | z::l,i,at_,most=>cond (Nat.ble (cnt (z::l)) most) (bestF l (i+1) at_ most) (bestF l (i+1) i (cnt (z::l)))
def obL (p:Nat→Int):List Bool→Nat→List Bool
 | true::l,j=>(p j == 0)::obL p l (j+1)
 | false::_,j=>[!(p j == 0)]
 | [],_=>[]
def obF (p:Nat→Int):List Bool→Nat→List Bool
 | [],_=>[]
 | z::l,i=>obL p (z::l) i++obF p l (i+1)
def pp (φ:Fa) (hi lo:UInt64):Nat→Int:=pf (φ.pc hi 48) (φ.pc hi 32) (φ.pc hi 16) (φ.pc hi 0) (φ.pc lo 48) (φ.pc lo 32) (φ.pc lo 16) (φ.pc lo 0)
def H6 (φ:Fa) (hi lo:UInt64):HL:=H0++[(4,.cells false [.bool true,.u64 hi,.u64 lo]),(100,.cells false (c8 (pp φ hi lo)))]
noncomputable def jP (φ:Fa) (hi lo:UInt64) (off len:Nat) (J:List UInt8):Bool:=decP ((nbE 100 (v60 φ.m.hx off len)).app 156 (H6 φ hi lo)=some (.str J,H6 φ hi lo))
def vsF (b:Nat) (J J2:List UInt8):List AVal:=cond (Nat.beq b 9) [.str J,.tup []] [.str J,.tup [],.str J2,.tup []]
def vlF (b:Nat) (J J2:List UInt8):List UInt8:=cond (Nat.beq b 9) J ((J++[58,58])++J2)
noncomputable def joF (φ:Fa) (hi lo:UInt64) (at_ most:Nat) (J J2:List UInt8):List Bool:=cond (Nat.beq at_ 9) [jP φ hi lo 0 8 J]
 [Nat.ble ((J++[58,58]).length+J2.length) 9223372036854775807,jP φ hi lo (at_+most) (8 - (at_+most)) J2,Nat.ble (J.length+([58,58]:List UInt8).length) 9223372036854775807,jP φ hi lo 0 at_ J]
theorem t6_0 (φ:Fa) (hi lo:UInt64) (J J2:List UInt8) (z4 z5 z6 z7:Bool) :
  ansO (run1O Tryd.prog (psA φ) (nB φ) [11,52,71,78,300066,300070,300077] (false::osF [false,false,false,false,z4,z5,z6,z7]) (vsF (bestF [false,false,false,false,z4,z5,z6,z7] 0 9 1).1 J J2) (mask 35) 200 35 [.agg [.bool true,.u64 hi,.u64 lo]] H0 4) =
   some (.str (vlF (bestF [false,false,false,false,z4,z5,z6,z7] 0 9 1).1 J J2),joF φ hi lo (bestF [false,false,false,false,z4,z5,z6,z7] 0 9 1).1 (bestF [false,false,false,false,z4,z5,z6,z7] 0 9 1).2 J J2++(obF (pp φ hi lo) [false,false,false,false,z4,z5,z6,z7] 0).reverse++[!!(φ.ma true hi lo)]):=by
 cases z4 <;> cases z5 <;> cases z6 <;> cases z7 <;> kernel_rfl
theorem t6_1 (φ:Fa) (hi lo:UInt64) (J J2:List UInt8) (z4 z5 z6 z7:Bool) :
  ansO (run1O Tryd.prog (psA φ) (nB φ) [11,52,71,78,300066,300070,300077] (false::osF [false,false,false,true,z4,z5,z6,z7]) (vsF (bestF [false,false,false,true,z4,z5,z6,z7] 0 9 1).1 J J2) (mask 35) 200 35 [.agg [.bool true,.u64 hi,.u64 lo]] H0 4) =
   some (.str (vlF (bestF [false,false,false,true,z4,z5,z6,z7] 0 9 1).1 J J2),joF φ hi lo (bestF [false,false,false,true,z4,z5,z6,z7] 0 9 1).1 (bestF [false,false,false,true,z4,z5,z6,z7] 0 9 1).2 J J2++(obF (pp φ hi lo) [false,false,false,true,z4,z5,z6,z7] 0).reverse++[!!(φ.ma true hi lo)]):=by
 cases z4 <;> cases z5 <;> cases z6 <;> cases z7 <;> kernel_rfl
theorem t6_2 (φ:Fa) (hi lo:UInt64) (J J2:List UInt8) (z4 z5 z6 z7:Bool) :
  ansO (run1O Tryd.prog (psA φ) (nB φ) [11,52,71,78,300066,300070,300077] (false::osF [false,false,true,false,z4,z5,z6,z7]) (vsF (bestF [false,false,true,false,z4,z5,z6,z7] 0 9 1).1 J J2) (mask 35) 200 35 [.agg [.bool true,.u64 hi,.u64 lo]] H0 4) =
   some (.str (vlF (bestF [false,false,true,false,z4,z5,z6,z7] 0 9 1).1 J J2),joF φ hi lo (bestF [false,false,true,false,z4,z5,z6,z7] 0 9 1).1 (bestF [false,false,true,false,z4,z5,z6,z7] 0 9 1).2 J J2++(obF (pp φ hi lo) [false,false,true,false,z4,z5,z6,z7] 0).reverse++[!!(φ.ma true hi lo)]):=by
 cases z4 <;> cases z5 <;> cases z6 <;> cases z7 <;> kernel_rfl
theorem t6_3 (φ:Fa) (hi lo:UInt64) (J J2:List UInt8) (z4 z5 z6 z7:Bool) :
  ansO (run1O Tryd.prog (psA φ) (nB φ) [11,52,71,78,300066,300070,300077] (false::osF [false,false,true,true,z4,z5,z6,z7]) (vsF (bestF [false,false,true,true,z4,z5,z6,z7] 0 9 1).1 J J2) (mask 35) 200 35 [.agg [.bool true,.u64 hi,.u64 lo]] H0 4) =
   some (.str (vlF (bestF [false,false,true,true,z4,z5,z6,z7] 0 9 1).1 J J2),joF φ hi lo (bestF [false,false,true,true,z4,z5,z6,z7] 0 9 1).1 (bestF [false,false,true,true,z4,z5,z6,z7] 0 9 1).2 J J2++(obF (pp φ hi lo) [false,false,true,true,z4,z5,z6,z7] 0).reverse++[!!(φ.ma true hi lo)]):=by
 cases z4 <;> cases z5 <;> cases z6 <;> cases z7 <;> kernel_rfl
theorem t6_4 (φ:Fa) (hi lo:UInt64) (J J2:List UInt8) (z4 z5 z6 z7:Bool) :
  ansO (run1O Tryd.prog (psA φ) (nB φ) [11,52,71,78,300066,300070,300077] (false::osF [false,true,false,false,z4,z5,z6,z7]) (vsF (bestF [false,true,false,false,z4,z5,z6,z7] 0 9 1).1 J J2) (mask 35) 200 35 [.agg [.bool true,.u64 hi,.u64 lo]] H0 4) =
   some (.str (vlF (bestF [false,true,false,false,z4,z5,z6,z7] 0 9 1).1 J J2),joF φ hi lo (bestF [false,true,false,false,z4,z5,z6,z7] 0 9 1).1 (bestF [false,true,false,false,z4,z5,z6,z7] 0 9 1).2 J J2++(obF (pp φ hi lo) [false,true,false,false,z4,z5,z6,z7] 0).reverse++[!!(φ.ma true hi lo)]):=by
 cases z4 <;> cases z5 <;> cases z6 <;> cases z7 <;> kernel_rfl
theorem t6_5 (φ:Fa) (hi lo:UInt64) (J J2:List UInt8) (z4 z5 z6 z7:Bool) :
  ansO (run1O Tryd.prog (psA φ) (nB φ) [11,52,71,78,300066,300070,300077] (false::osF [false,true,false,true,z4,z5,z6,z7]) (vsF (bestF [false,true,false,true,z4,z5,z6,z7] 0 9 1).1 J J2) (mask 35) 200 35 [.agg [.bool true,.u64 hi,.u64 lo]] H0 4) =
   some (.str (vlF (bestF [false,true,false,true,z4,z5,z6,z7] 0 9 1).1 J J2),joF φ hi lo (bestF [false,true,false,true,z4,z5,z6,z7] 0 9 1).1 (bestF [false,true,false,true,z4,z5,z6,z7] 0 9 1).2 J J2++(obF (pp φ hi lo) [false,true,false,true,z4,z5,z6,z7] 0).reverse++[!!(φ.ma true hi lo)]):=by
 cases z4 <;> cases z5 <;> cases z6 <;> cases z7 <;> kernel_rfl
theorem t6_6 (φ:Fa) (hi lo:UInt64) (J J2:List UInt8) (z4 z5 z6 z7:Bool) :
  ansO (run1O Tryd.prog (psA φ) (nB φ) [11,52,71,78,300066,300070,300077] (false::osF [false,true,true,false,z4,z5,z6,z7]) (vsF (bestF [false,true,true,false,z4,z5,z6,z7] 0 9 1).1 J J2) (mask 35) 200 35 [.agg [.bool true,.u64 hi,.u64 lo]] H0 4) =
   some (.str (vlF (bestF [false,true,true,false,z4,z5,z6,z7] 0 9 1).1 J J2),joF φ hi lo (bestF [false,true,true,false,z4,z5,z6,z7] 0 9 1).1 (bestF [false,true,true,false,z4,z5,z6,z7] 0 9 1).2 J J2++(obF (pp φ hi lo) [false,true,true,false,z4,z5,z6,z7] 0).reverse++[!!(φ.ma true hi lo)]):=by
 cases z4 <;> cases z5 <;> cases z6 <;> cases z7 <;> kernel_rfl
theorem t6_7 (φ:Fa) (hi lo:UInt64) (J J2:List UInt8) (z4 z5 z6 z7:Bool) :
  ansO (run1O Tryd.prog (psA φ) (nB φ) [11,52,71,78,300066,300070,300077] (false::osF [false,true,true,true,z4,z5,z6,z7]) (vsF (bestF [false,true,true,true,z4,z5,z6,z7] 0 9 1).1 J J2) (mask 35) 200 35 [.agg [.bool true,.u64 hi,.u64 lo]] H0 4) =
   some (.str (vlF (bestF [false,true,true,true,z4,z5,z6,z7] 0 9 1).1 J J2),joF φ hi lo (bestF [false,true,true,true,z4,z5,z6,z7] 0 9 1).1 (bestF [false,true,true,true,z4,z5,z6,z7] 0 9 1).2 J J2++(obF (pp φ hi lo) [false,true,true,true,z4,z5,z6,z7] 0).reverse++[!!(φ.ma true hi lo)]):=by
 cases z4 <;> cases z5 <;> cases z6 <;> cases z7 <;> kernel_rfl
theorem t6_8 (φ:Fa) (hi lo:UInt64) (J J2:List UInt8) (z4 z5 z6 z7:Bool) :
  ansO (run1O Tryd.prog (psA φ) (nB φ) [11,52,71,78,300066,300070,300077] (false::osF [true,false,false,false,z4,z5,z6,z7]) (vsF (bestF [true,false,false,false,z4,z5,z6,z7] 0 9 1).1 J J2) (mask 35) 200 35 [.agg [.bool true,.u64 hi,.u64 lo]] H0 4) =
   some (.str (vlF (bestF [true,false,false,false,z4,z5,z6,z7] 0 9 1).1 J J2),joF φ hi lo (bestF [true,false,false,false,z4,z5,z6,z7] 0 9 1).1 (bestF [true,false,false,false,z4,z5,z6,z7] 0 9 1).2 J J2++(obF (pp φ hi lo) [true,false,false,false,z4,z5,z6,z7] 0).reverse++[!!(φ.ma true hi lo)]):=by
 cases z4 <;> cases z5 <;> cases z6 <;> cases z7 <;> kernel_rfl
theorem t6_9 (φ:Fa) (hi lo:UInt64) (J J2:List UInt8) (z4 z5 z6 z7:Bool) :
  ansO (run1O Tryd.prog (psA φ) (nB φ) [11,52,71,78,300066,300070,300077] (false::osF [true,false,false,true,z4,z5,z6,z7]) (vsF (bestF [true,false,false,true,z4,z5,z6,z7] 0 9 1).1 J J2) (mask 35) 200 35 [.agg [.bool true,.u64 hi,.u64 lo]] H0 4) =
   some (.str (vlF (bestF [true,false,false,true,z4,z5,z6,z7] 0 9 1).1 J J2),joF φ hi lo (bestF [true,false,false,true,z4,z5,z6,z7] 0 9 1).1 (bestF [true,false,false,true,z4,z5,z6,z7] 0 9 1).2 J J2++(obF (pp φ hi lo) [true,false,false,true,z4,z5,z6,z7] 0).reverse++[!!(φ.ma true hi lo)]):=by
 cases z4 <;> cases z5 <;> cases z6 <;> cases z7 <;> kernel_rfl
theorem t6_10 (φ:Fa) (hi lo:UInt64) (J J2:List UInt8) (z4 z5 z6 z7:Bool) :
  ansO (run1O Tryd.prog (psA φ) (nB φ) [11,52,71,78,300066,300070,300077] (false::osF [true,false,true,false,z4,z5,z6,z7]) (vsF (bestF [true,false,true,false,z4,z5,z6,z7] 0 9 1).1 J J2) (mask 35) 200 35 [.agg [.bool true,.u64 hi,.u64 lo]] H0 4) =
   some (.str (vlF (bestF [true,false,true,false,z4,z5,z6,z7] 0 9 1).1 J J2),joF φ hi lo (bestF [true,false,true,false,z4,z5,z6,z7] 0 9 1).1 (bestF [true,false,true,false,z4,z5,z6,z7] 0 9 1).2 J J2++(obF (pp φ hi lo) [true,false,true,false,z4,z5,z6,z7] 0).reverse++[!!(φ.ma true hi lo)]):=by
 cases z4 <;> cases z5 <;> cases z6 <;> cases z7 <;> kernel_rfl
theorem t6_11 (φ:Fa) (hi lo:UInt64) (J J2:List UInt8) (z4 z5 z6 z7:Bool) :
  ansO (run1O Tryd.prog (psA φ) (nB φ) [11,52,71,78,300066,300070,300077] (false::osF [true,false,true,true,z4,z5,z6,z7]) (vsF (bestF [true,false,true,true,z4,z5,z6,z7] 0 9 1).1 J J2) (mask 35) 200 35 [.agg [.bool true,.u64 hi,.u64 lo]] H0 4) =
   some (.str (vlF (bestF [true,false,true,true,z4,z5,z6,z7] 0 9 1).1 J J2),joF φ hi lo (bestF [true,false,true,true,z4,z5,z6,z7] 0 9 1).1 (bestF [true,false,true,true,z4,z5,z6,z7] 0 9 1).2 J J2++(obF (pp φ hi lo) [true,false,true,true,z4,z5,z6,z7] 0).reverse++[!!(φ.ma true hi lo)]):=by
 cases z4 <;> cases z5 <;> cases z6 <;> cases z7 <;> kernel_rfl
theorem t6_12 (φ:Fa) (hi lo:UInt64) (J J2:List UInt8) (z4 z5 z6 z7:Bool) :
  ansO (run1O Tryd.prog (psA φ) (nB φ) [11,52,71,78,300066,300070,300077] (false::osF [true,true,false,false,z4,z5,z6,z7]) (vsF (bestF [true,true,false,false,z4,z5,z6,z7] 0 9 1).1 J J2) (mask 35) 200 35 [.agg [.bool true,.u64 hi,.u64 lo]] H0 4) =
   some (.str (vlF (bestF [true,true,false,false,z4,z5,z6,z7] 0 9 1).1 J J2),joF φ hi lo (bestF [true,true,false,false,z4,z5,z6,z7] 0 9 1).1 (bestF [true,true,false,false,z4,z5,z6,z7] 0 9 1).2 J J2++(obF (pp φ hi lo) [true,true,false,false,z4,z5,z6,z7] 0).reverse++[!!(φ.ma true hi lo)]):=by
 cases z4 <;> cases z5 <;> cases z6 <;> cases z7 <;> kernel_rfl
theorem t6_13 (φ:Fa) (hi lo:UInt64) (J J2:List UInt8) (z4 z5 z6 z7:Bool) :
  ansO (run1O Tryd.prog (psA φ) (nB φ) [11,52,71,78,300066,300070,300077] (false::osF [true,true,false,true,z4,z5,z6,z7]) (vsF (bestF [true,true,false,true,z4,z5,z6,z7] 0 9 1).1 J J2) (mask 35) 200 35 [.agg [.bool true,.u64 hi,.u64 lo]] H0 4) =
   some (.str (vlF (bestF [true,true,false,true,z4,z5,z6,z7] 0 9 1).1 J J2),joF φ hi lo (bestF [true,true,false,true,z4,z5,z6,z7] 0 9 1).1 (bestF [true,true,false,true,z4,z5,z6,z7] 0 9 1).2 J J2++(obF (pp φ hi lo) [true,true,false,true,z4,z5,z6,z7] 0).reverse++[!!(φ.ma true hi lo)]):=by
 cases z4 <;> cases z5 <;> cases z6 <;> cases z7 <;> kernel_rfl
theorem t6_14 (φ:Fa) (hi lo:UInt64) (J J2:List UInt8) (z4 z5 z6 z7:Bool) :
  ansO (run1O Tryd.prog (psA φ) (nB φ) [11,52,71,78,300066,300070,300077] (false::osF [true,true,true,false,z4,z5,z6,z7]) (vsF (bestF [true,true,true,false,z4,z5,z6,z7] 0 9 1).1 J J2) (mask 35) 200 35 [.agg [.bool true,.u64 hi,.u64 lo]] H0 4) =
   some (.str (vlF (bestF [true,true,true,false,z4,z5,z6,z7] 0 9 1).1 J J2),joF φ hi lo (bestF [true,true,true,false,z4,z5,z6,z7] 0 9 1).1 (bestF [true,true,true,false,z4,z5,z6,z7] 0 9 1).2 J J2++(obF (pp φ hi lo) [true,true,true,false,z4,z5,z6,z7] 0).reverse++[!!(φ.ma true hi lo)]):=by
 cases z4 <;> cases z5 <;> cases z6 <;> cases z7 <;> kernel_rfl
theorem t6_15 (φ:Fa) (hi lo:UInt64) (J J2:List UInt8) (z4 z5 z6 z7:Bool) :
  ansO (run1O Tryd.prog (psA φ) (nB φ) [11,52,71,78,300066,300070,300077] (false::osF [true,true,true,true,z4,z5,z6,z7]) (vsF (bestF [true,true,true,true,z4,z5,z6,z7] 0 9 1).1 J J2) (mask 35) 200 35 [.agg [.bool true,.u64 hi,.u64 lo]] H0 4) =
   some (.str (vlF (bestF [true,true,true,true,z4,z5,z6,z7] 0 9 1).1 J J2),joF φ hi lo (bestF [true,true,true,true,z4,z5,z6,z7] 0 9 1).1 (bestF [true,true,true,true,z4,z5,z6,z7] 0 9 1).2 J J2++(obF (pp φ hi lo) [true,true,true,true,z4,z5,z6,z7] 0).reverse++[!!(φ.ma true hi lo)]):=by
 cases z4 <;> cases z5 <;> cases z6 <;> cases z7 <;> kernel_rfl
theorem t6 (φ:Fa) (hi lo:UInt64) (J J2:List UInt8) (z0 z1 z2 z3 z4 z5 z6 z7:Bool) :
  ansO (run1O Tryd.prog (psA φ) (nB φ) [11,52,71,78,300066,300070,300077] (false::osF [z0,z1,z2,z3,z4,z5,z6,z7]) (vsF (bestF [z0,z1,z2,z3,z4,z5,z6,z7] 0 9 1).1 J J2) (mask 35) 200 35 [.agg [.bool true,.u64 hi,.u64 lo]] H0 4) =
   some (.str (vlF (bestF [z0,z1,z2,z3,z4,z5,z6,z7] 0 9 1).1 J J2),joF φ hi lo (bestF [z0,z1,z2,z3,z4,z5,z6,z7] 0 9 1).1 (bestF [z0,z1,z2,z3,z4,z5,z6,z7] 0 9 1).2 J J2++(obF (pp φ hi lo) [z0,z1,z2,z3,z4,z5,z6,z7] 0).reverse++[!!(φ.ma true hi lo)]):=by
 cases z0 <;> cases z1 <;> cases z2 <;> cases z3
 ·exact t6_0 φ hi lo J J2 z4 z5 z6 z7
 ·exact t6_1 φ hi lo J J2 z4 z5 z6 z7
 ·exact t6_2 φ hi lo J J2 z4 z5 z6 z7
 ·exact t6_3 φ hi lo J J2 z4 z5 z6 z7
 ·exact t6_4 φ hi lo J J2 z4 z5 z6 z7
 ·exact t6_5 φ hi lo J J2 z4 z5 z6 z7
 ·exact t6_6 φ hi lo J J2 z4 z5 z6 z7
 ·exact t6_7 φ hi lo J J2 z4 z5 z6 z7
 ·exact t6_8 φ hi lo J J2 z4 z5 z6 z7
 ·exact t6_9 φ hi lo J J2 z4 z5 z6 z7
 ·exact t6_10 φ hi lo J J2 z4 z5 z6 z7
 ·exact t6_11 φ hi lo J J2 z4 z5 z6 z7
 ·exact t6_12 φ hi lo J J2 z4 z5 z6 z7
 ·exact t6_13 φ hi lo J J2 z4 z5 z6 z7
 ·exact t6_14 φ hi lo J J2 z4 z5 z6 z7
 ·exact t6_15 φ hi lo J J2 z4 z5 z6 z7
end Go.Proofs.YthlemfnkmpikjaaDoor
namespace Go.Proofs.YthlemfnkmpikjaaDoor
open Go Go.Eng Go.Num
theorem allT_iff:∀ {l:List Bool},allT l=true ↔ ∀ b ∈ l,b=true
 | []=>by simp [allT]
 | a::l=>by
  have:=allT_iff (l:=l)
  cases a <;> simp [allT,this]
theorem allT_app {a b:List Bool}(h:allT a=true) (k:allT b=true):allT (a++b)=true:=allT_iff.2 fun x hx=>(List.mem_append.1 hx).elim (allT_iff.1 h x) (allT_iff.1 k x)
theorem allT_rev {a:List Bool}(h:allT a=true):allT a.reverse=true:=allT_iff.2 fun x hx=>allT_iff.1 h x (List.mem_reverse.1 hx)
theorem obL_ok (p:Nat→Int):∀ (l:List Bool) (j:Nat),(∀ i b,l[i]? = some b→b=(p (j+i) == 0))→allT (obL p l j)=true
 | [],_,_=>rfl
 | true::l,j,h=>by
  have h0:=h 0 true rfl
  refine allT_mk (by simpa using h0.symm) (obL_ok p l (j+1) fun i b hb => ?_)
  have:=h (i+1) b (by simpa using hb)
  rwa [show j+(i+1)=j+1+i by omega] at this
 | false::l,j,h=>by
  have h0:=h 0 false rfl
  exact allT_mk (by simpa using h0.symm) rfl
theorem obF_ok (p:Nat→Int):∀ (l:List Bool) (j:Nat),(∀ i b,l[i]? = some b→b=(p (j+i) == 0))→allT (obF p l j)=true
 | [],_,_=>rfl
 | z::l,j,h=>by
  refine allT_app (obL_ok p (z::l) j h) (obF_ok p l (j+1) fun i b hb => ?_)
  have:=h (i+1) b (by simpa using hb)
  rwa [show j+(i+1)=j+1+i by omega] at this
def zs (p:Nat→Int):List Bool:=[p 0 == 0,p 1 == 0,p 2 == 0,p 3 == 0,p 4 == 0,p 5 == 0,p 6 == 0,p 7 == 0]
theorem zs_at (p:Nat→Int) (i:Nat) (b:Bool) (h:(zs p)[i]? = some b):b=(p (0+i) == 0):=by
 rw [Nat.zero_add]
 have hi:i < 8:=(List.getElem?_eq_some_iff.1 h).1
 have:i=0 ∨ i=1 ∨ i=2 ∨ i=3 ∨ i=4 ∨ i=5 ∨ i=6 ∨ i=7:=by omega
 rcases this with rfl | rfl | rfl | rfl | rfl | rfl | rfl | rfl <;> (simp [zs] at h; exact h.symm)
def bOk (b:Nat × Nat):Bool:=cond (Nat.beq b.1 9) true (Nat.ble 1 b.2 && Nat.ble (b.1+b.2) 8)
theorem best_ok (z0 z1 z2 z3 z4 z5 z6 z7:Bool):bOk (bestF [z0,z1,z2,z3,z4,z5,z6,z7] 0 9 1)=true:=by
 cases z0 <;> cases z1 <;> cases z2 <;> cases z3 <;> cases z4 <;> cases z5 <;> cases z6 <;> cases z7 <;> rfl
theorem jP_ok {hi lo:UInt64}(hr:rg (pp far hi lo)=true){off len:Nat}(hp:okP off len=true):jP far hi lo off len (jn far.m.hx (pp far hi lo) off len)=true:=by
 unfold jP
 refine decP_of ?_
 unfold nbE
 simp only [EffA.app,nbK_also]
 have hk:nbK 100 (v60 far.m.hx off len) (aget (H6 far hi lo))=some (.str (jn far.m.hx (pp far hi lo) off len)):=by
  have a0:aget (H6 far hi lo) 0=some (.cells true T0):=rfl
  have a1:aget (H6 far hi lo) 1=none:=rfl
  have a2:aget (H6 far hi lo) 2=none:=rfl
  have a3:aget (H6 far hi lo) 3=some (.cells true T3):=rfl
  have a4:aget (H6 far hi lo) 100=some (.cells false (c8 (pp far hi lo))):=rfl
  have e:(eqL T0 T0 && eqL T3 T3)=true:=by kernel_rfl
  unfold nbK
  rw [a0,a1,a2,a3,a4]
  simp only
  rw [e,cond_true]
  unfold c8 pp
  unfold pp at hr
  simp only [pf,v60]
  rw [hr,hp]
  rfl
 rw [hk]
theorem pc_rg (w:UInt64) (k:Nat):0≤pcF w k∧pcF w k < 65536:=by
 unfold pcF
 generalize (shr_u64 w k).toNat=n
 simp only [IntKind.wrap,IntKind.bits,IntKind.signed]
 simp
 omega
theorem far_pc:far.pc=pcF:=by simp only [far]
theorem far_ma:far.ma=mayA:=by simp only [far]
theorem far_it:far.m.it=it57:=by simp only [far,fmr]
theorem rg_pp (hi lo:UInt64):rg (pp far hi lo)=true:=by
 unfold rg
 refine List.all_eq_true.2 fun i hi' => ?_
 have h8:=List.mem_range.1 hi'
 simp only [Bool.and_eq_true,decide_eq_true_eq]
 have:i=0 ∨ i=1 ∨ i=2 ∨ i=3 ∨ i=4 ∨ i=5 ∨ i=6 ∨ i=7:=by omega
 rcases this with rfl | rfl | rfl | rfl | rfl | rfl | rfl | rfl <;> (simp only [pp,pf,far_pc]; exact pc_rg _ _)
theorem jn_len (p:Nat→Int) (off len:Nat):(jn far.m.hx p off len).length≤5 * len:=by
 unfold jn
 have:=join_le ((List.range len).map fun i=>far.m.hx (UInt64.ofInt (p (off+i)))) (fun l hl=>by
  obtain ⟨i,_,rfl⟩:=List.mem_map.1 hl
  exact hx_len _)
 rwa [List.length_map,List.length_range] at this
def at6 (p:Nat→Int):Nat × Nat:=bestF (zs p) 0 9 1
def J1 (hx:UInt64→List UInt8) (p:Nat→Int):List UInt8:=jn hx p 0 (cond (Nat.beq (at6 p).1 9) 8 (at6 p).1)
def J2 (hx:UInt64→List UInt8) (p:Nat→Int):List UInt8:=jn hx p ((at6 p).1+(at6 p).2) (8 - ((at6 p).1+(at6 p).2))
def tx6 (φ:Fa) (hi lo:UInt64):List UInt8:=vlF (at6 (pp φ hi lo)).1 (J1 φ.m.hx (pp φ hi lo)) (J2 φ.m.hx (pp φ hi lo))
theorem at6_ok (p:Nat→Int):bOk (at6 p)=true:=best_ok ..
theorem run6 (hi lo:UInt64):(run1 Tryd.prog (nB far) (mask 35) 200 35 [.agg [.bool true,.u64 hi,.u64 lo]] H0 4).map (·.1)=some (.str (tx6 far hi lo)):=by
 have hr:=rg_pp hi lo
 obtain ⟨p,hp⟩:∃ p,p=pp far hi lo:=⟨_,rfl⟩
 have t:=t6 far hi lo (J1 far.m.hx p) (J2 far.m.hx p) (p 0 == 0) (p 1 == 0) (p 2 == 0) (p 3 == 0) (p 4 == 0) (p 5 == 0) (p 6 == 0) (p 7 == 0)
 have eb:bestF [p 0 == 0,p 1 == 0,p 2 == 0,p 3 == 0,p 4 == 0,p 5 == 0,p 6 == 0,p 7 == 0] 0 9 1=at6 p:=rfl
 have ez:[p 0 == 0,p 1 == 0,p 2 == 0,p 3 == 0,p 4 == 0,p 5 == 0,p 6 == 0,p 7 == 0]=zs p:=rfl
 rw [eb,ez] at t
 have e6:tx6 far hi lo=vlF (at6 p).1 (J1 far.m.hx p) (J2 far.m.hx p):=by rw [hp]; rfl
 rw [e6]
 refine ansO_run (nB_ps far) t (allT_app (allT_app ?_ (allT_rev ?_)) ?_)
 ·have hb:=at6_ok p
  unfold bOk at hb
  unfold joF J1 J2
  cases h9:Nat.beq (at6 p).1 9 with
  | true =>
   rw [cond_true,cond_true]
   rw [hp]
   exact allT_mk (jP_ok hr rfl) rfl
  | false =>
   rw [h9,cond_false,Bool.and_eq_true] at hb
   have b1:=Nat.le_of_ble_eq_true hb.1
   have b2:=Nat.le_of_ble_eq_true hb.2
   rw [cond_false,cond_false]
   have l1:=jn_len p 0 (at6 p).1
   have l2:=jn_len p ((at6 p).1+(at6 p).2) (8 - ((at6 p).1+(at6 p).2))
   have o1:okP 0 (at6 p).1=true:=by
    unfold okP
    rw [show Nat.beq 0 0=true from rfl,cond_true]
    exact Nat.ble_eq_true_of_le (by omega)
   have o2:okP ((at6 p).1+(at6 p).2) (8 - ((at6 p).1+(at6 p).2))=true:=by
    unfold okP
    have:Nat.beq ((at6 p).1+(at6 p).2) 0=false:=by
     cases hq:Nat.beq ((at6 p).1+(at6 p).2) 0 with
     | false=>rfl
     | true=>exact absurd (Nat.eq_of_beq_eq_true hq) (by omega)
    rw [this,cond_false,show (at6 p).1+(at6 p).2+(8 - ((at6 p).1+(at6 p).2))=8 by omega]
    rfl
   refine allT_mk (Nat.ble_eq_true_of_le (by simp only [List.length_append,List.length_cons,List.length_nil]; omega)) (allT_mk ?_ (allT_mk (Nat.ble_eq_true_of_le (by simp only [List.length_cons,List.length_nil]; omega)) (allT_mk ?_ rfl)))
   ·have:=jP_ok hr o2
    rw [← hp] at this
    exact this
   ·have:=jP_ok hr o1
    rw [← hp] at this
    exact this
 ·rw [← hp]
  exact obF_ok p (zs p) 0 (zs_at p)
 ·rw [far_ma]
  rfl
end Go.Proofs.YthlemfnkmpikjaaDoor
namespace Go.Proofs.YthlemfnkmpikjaaDoor
open Go Go.Eng Go.Num
theorem bt_rg (w:UInt64) (k:Nat):0≤bt w k∧bt w k < 256:=by
 unfold bt
 have:(shr_u64 w k &&& 255).toNat≤255:=by
  rw [UInt64.toNat_and]
  exact Nat.le_trans Nat.and_le_right (by decide)
 generalize (shr_u64 w k &&& 255).toNat=n at this ⊢
 rw [wrapI _ (by omega) (by omega)]
 omega
theorem ib_bt (w:UInt64) (k:Nat):ib (bt w k)=true:=by
 obtain ⟨h1,h2⟩:=bt_rg w k
 unfold ib
 rw [decide_eq_true h1,decide_eq_true h2]
 rfl
theorem it_len (w:UInt64) (k:Nat):1≤(far.m.it (bt w k)).length∧(far.m.it (bt w k)).length≤4:=by
 obtain ⟨h1,h2⟩:=bt_rg w k
 rw [far_it]
 generalize bt w k=n at h1 h2 ⊢
 have:=(it_run h1 h2).2
 exact ⟨this.1,by omega⟩
theorem join4_le (ls:List (List UInt8)) (h:∀ l ∈ ls,l.length≤4) (hl:ls.length≤8):(Lib.join ls [46]).length≤1000:=by
 cases ls with
 | nil=>simp [Lib.join]
 | cons x r =>
  have e:(Lib.join (x::r) [46]).length=(Lib.join (x::r) [58]).length:=by
   rw [Lib.join_cons,Lib.join_cons,List.length_append,List.length_append,Lib.joinTail_length,Lib.joinTail_length]
   rfl
  have:=join_le (x::r) h
  rw [e]
  omega
theorem jQ_ok {H:HL}{ls:List (List UInt8)}{cells:List AVal}{len:Nat}(e:aget H 99=some (.cells false cells)) (h1:ls.length=len) (h2:cells=ls.map .str) (h3:∀ l ∈ ls,l.length≤4) (h8:len≤8):jQ len (Lib.join ls [46]) H=true:=by
 unfold jQ
 refine decP_of ?_
 unfold rdS
 simp only [EffA.app]
 rw [e]
 simp only
 have hj:=join4_le ls h3 (by omega)
 have e2:(cells.drop 0).take len=ls.map .str:=by rw [h2,List.drop_zero,List.take_of_length_le (by rw [List.length_map]; omega)]
 rw [e2,strsA_map]
 simp only
 rw [h1,Nat.beq_refl,cond_true]
 unfold joinV
 rw [Nat.ble_eq_true_of_le (show (Lib.join ls [46]).length≤1000000 by omega),Nat.ble_eq_true_of_le (show ls.length≤1000000 by omega)]
 rfl
def l4 (it:Int→List UInt8) (lo:UInt64):List (List UInt8):=[it (bt lo 24),it (bt lo 16),it (bt lo 8),it (bt lo 0)]
def tx4 (φ:Fa) (hi lo:UInt64):List UInt8:=cond (φ.ma false hi lo) (Lib.join (l4 φ.m.it lo) [46]) []
theorem l4_len (lo:UInt64):∀ l ∈ l4 far.m.it lo,l.length≤4:=by
 intro l hl
 simp only [l4,List.mem_cons,List.mem_nil_iff,or_false] at hl
 rcases hl with rfl | rfl | rfl | rfl <;> exact (it_len _ _).2
theorem run4 (hi lo:UInt64):(run1 Tryd.prog (nB far) (mask 35) 200 35 [.agg [.bool false,.u64 hi,.u64 lo]] H0 4).map (·.1)=some (.str (tx4 far hi lo)):=by
 unfold tx4
 cases hm:far.ma false hi lo with
 | false=>exact ansO_run (nB_ps far) (t4a far hi lo) (by rw [hm]; rfl)
 | true =>
  have hl:=l4_len lo
  refine ansO_run (nB_ps far) (t4b far hi lo (Lib.join (l4 far.m.it lo) [46])) (allT_mk (jQ_ok rfl rfl rfl hl (by decide)) (allT_mk (ib_bt _ _) (allT_mk (ib_bt _ _) (allT_mk (ib_bt _ _) (allT_mk (ib_bt _ _) ?_)))))
  rw [hm]
  rfl
def tx (φ:Fa) (v:Bool) (hi lo:UInt64):List UInt8:=cond v (tx6 φ hi lo) (tx4 φ hi lo)
def k35 (f:Bool→UInt64→UInt64→List UInt8):List AVal→Option EffA
 | [.agg [.bool v,.u64 hi,.u64 lo]]=>some (tL (some (.str (f v hi lo))))
 | _=>none
theorem k35_ok:CSOk Tryd.prog (csOne 35 (k35 (tx far))):=csOne_ok fun args e he=>by
 unfold k35 at he
 split at he
 ·rename_i v hi lo
  cases he
  refine callOk_tL nB_ok (by kernel_rfl) fun y hy => ?_
  cases hy
  unfold tx
  cases v with
  | true=>exact ⟨rfl,_,_,run_of (run6 hi lo)⟩
  | false=>exact ⟨rfl,_,_,run_of (run4 hi lo)⟩
 ·cases he
theorem join_ne {x:List UInt8}{r:List (List UInt8)}{s:List UInt8}(h:1≤x.length):(Lib.join (x::r) s).isEmpty=false:=by
 rw [Lib.join_cons]
 cases x with
 | nil=>simp at h
 | cons a x=>rfl
theorem hx_pos (x:UInt64):1≤(far.m.hx x).length:=by
 have e:far.m.hx=hexL:=by simp only [far,fmr]
 rw [e]
 exact (hexL_len x).1
theorem tx_empty (v:Bool) (hi lo:UInt64):(tx far v hi lo).isEmpty = !(mayA v hi lo):=by
 cases v with
 | false =>
  unfold tx tx4
  rw [cond_false,far_ma]
  cases mayA false hi lo with
  | false=>rfl
  | true =>
   rw [cond_true]
   exact join_ne (it_len _ _).1
 | true =>
  unfold tx tx6
  rw [cond_true]
  have:mayA true hi lo=true:=rfl
  rw [this]
  unfold vlF
  cases hb:Nat.beq (at6 (pp far hi lo)).1 9 with
  | true =>
   rw [cond_true]
   unfold J1
   rw [hb,cond_true]
   exact join_ne (r:=(List.range 7).map fun i=>far.m.hx (UInt64.ofInt (pp far hi lo (0+(i+1))))) (hx_pos _)
  | false =>
   rw [cond_false]
   cases J1 far.m.hx (pp far hi lo) <;> rfl
end Go.Proofs.YthlemfnkmpikjaaDoor
namespace Go.Proofs.YthlemfnkmpikjaaDoor
open Go Go.Eng Go.Num Go.Msg
def mCells (m:Ms):List AVal:=[.u8 m.ty,.str m.fr,.str m.tt,.u32 m.ix,.u32 m.pe,.u64 m.co,.u64 m.ba,.u64 m.ve,.str m.tx,.bool m.v6,.u64 m.hi,.u64 m.lo,.int .u16 m.po,.int .u16 m.cd,.str m.te,.str m.da,.str m.sg]
def mA (m:Ms):AVal:=.agg (mCells m)
end Go.Proofs.YthlemfnkmpikjaaDoor
