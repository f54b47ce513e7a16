/- Texts Rq1, Rq2: what they show that this claim uses. -/
import Derived.Test.YtlchjbidkdokmaaGreatDoorQ11
set_option maxRecDepth 100000
set_option maxHeartbeats 1000000
set_option linter.unusedVariables false
set_option linter.unusedSimpArgs false
namespace Go.Proofs.YtlchjbidkdokmaaGreatDoor
open Go Go.Eng Go.Num Go.Bla Bk
def neI (x y:Int):Bool:=x != y
def pfR (φ:Fp) (a b t:L8):Int:=cond (neI (a.length:Int) 32) 2 (cond (neI (b.length:Int) 32) 2 (cond (neI (t.length:Int) 16) 2 (φ.sr a b)))
def pfV (φ:Fp) (a b t:L8):L8:=cond (neI (a.length:Int) 32) [] (cond (neI (b.length:Int) 32) [] (cond (neI (t.length:Int) 16) [] (cond (neI (φ.sr a b) 0) [] (φ.hm (φ.sv a b) t))))
def pfT (φ:Fp) (a b t:L8):AVal:=.tup [.str (pfV φ a b t),.int .i64 (pfR φ a b t)]
noncomputable def cs8 (φ:Fp):CS:=csAlt (csP (psOne 31 (s31 φ))) (csOne 30 (s30 φ))
def cs9 (φ:Fp):CS:=csAlt (csP (psOne 33 (s33 φ))) (csOne 32 (s30 φ))
section
variable (φ:Fp) (a b t:L8)
theorem r8a:ansO (run1O Tryz.prog (psOne 31 (s31 φ)) (cs8 φ) [12,16,21,30,34] [true] [] (mask 8) 200 8 [.str a,.str b,.str t] H0 5)=some (.tup [.str [],.int .i64 2],[neI (a.length:Int) 32]):=by kernel_rfl
theorem r8b:ansO (run1O Tryz.prog (psOne 31 (s31 φ)) (cs8 φ) [12,16,21,30,34] [false,true] [] (mask 8) 200 8 [.str a,.str b,.str t] H0 5)=some (.tup [.str [],.int .i64 2],[neI (b.length:Int) 32,!(neI (a.length:Int) 32)]):=by kernel_rfl
theorem r8c:ansO (run1O Tryz.prog (psOne 31 (s31 φ)) (cs8 φ) [12,16,21,30,34] [false,false,true] [] (mask 8) 200 8 [.str a,.str b,.str t] H0 5)=some (.tup [.str [],.int .i64 2],[neI (t.length:Int) 16,!(neI (b.length:Int) 32),!(neI (a.length:Int) 32)]):=by kernel_rfl
theorem r8d:ansO (run1O Tryz.prog (psOne 31 (s31 φ)) (cs8 φ) [12,16,21,30,34] [false,false,false,true] [] (mask 8) 200 8 [.str a,.str b,.str t] H0 5)=some (.tup [.str [],.int .i64 (φ.sr a b)],[neI (φ.sr a b) 0,!(neI (t.length:Int) 16),!(neI (b.length:Int) 32),!(neI (a.length:Int) 32)]):=by kernel_rfl
theorem r8e:ansO (run1O Tryz.prog (psOne 31 (s31 φ)) (cs8 φ) [12,16,21,30,34] [false,false,false,false] [] (mask 8) 200 8 [.str a,.str b,.str t] H0 5)=some (.tup [.str (φ.hm (φ.sv a b) t),.int .i64 0],[g31 (φ.sv a b) t,!(neI (φ.sr a b) 0),!(neI (t.length:Int) 16),!(neI (b.length:Int) 32),!(neI (a.length:Int) 32)]):=by kernel_rfl
theorem r9a:ansO (run1O Tryz.prog (psOne 33 (s33 φ)) (cs9 φ) [12,16,21,30,34] [true] [] (mask 9) 200 9 [.str a,.str b,.str t] [] 5)=some (.tup [.str [],.int .i64 2],[neI (a.length:Int) 32]):=by kernel_rfl
theorem r9b:ansO (run1O Tryz.prog (psOne 33 (s33 φ)) (cs9 φ) [12,16,21,30,34] [false,true] [] (mask 9) 200 9 [.str a,.str b,.str t] [] 5)=some (.tup [.str [],.int .i64 2],[neI (b.length:Int) 32,!(neI (a.length:Int) 32)]):=by kernel_rfl
theorem r9c:ansO (run1O Tryz.prog (psOne 33 (s33 φ)) (cs9 φ) [12,16,21,30,34] [false,false,true] [] (mask 9) 200 9 [.str a,.str b,.str t] [] 5)=some (.tup [.str [],.int .i64 2],[neI (t.length:Int) 16,!(neI (b.length:Int) 32),!(neI (a.length:Int) 32)]):=by kernel_rfl
theorem r9d:ansO (run1O Tryz.prog (psOne 33 (s33 φ)) (cs9 φ) [12,16,21,30,34] [false,false,false,true] [] (mask 9) 200 9 [.str a,.str b,.str t] [] 5)=some (.tup [.str [],.int .i64 (φ.sr a b)],[neI (φ.sr a b) 0,!(neI (t.length:Int) 16),!(neI (b.length:Int) 32),!(neI (a.length:Int) 32)]):=by kernel_rfl
theorem r9e:ansO (run1O Tryz.prog (psOne 33 (s33 φ)) (cs9 φ) [12,16,21,30,34] [false,false,false,false] [] (mask 9) 200 9 [.str a,.str b,.str t] [] 5)=some (.tup [.str (φ.hm (φ.sv a b) t),.int .i64 0],[g31 (φ.sv a b) t,!(neI (φ.sr a b) 0),!(neI (t.length:Int) 16),!(neI (b.length:Int) 32),!(neI (a.length:Int) 32)]):=by kernel_rfl
structure OkP (φ:Fp):Prop where
 len:∀ a b,φ.sr a b=0→(φ.sv a b).length=32
theorem neI_f {x y:Int}(h:neI x y=false):x=y:=by simpa [neI] using h
variable {φ}
theorem run8 (hφ:OkP φ):(run1 Tryz.prog (cs8 φ) (mask 8) 200 8 [.str a,.str b,.str t] H0 5).map (·.1)=some (pfT φ a b t):=by
 have hp:PSOk (psOne 31 (s31 φ)) (cs8 φ):=csP_ok
 unfold pfT pfV pfR
 cases h1:neI (a.length:Int) 32 with
 | true=>exact ansO_run hp (r8a φ a b t) (by rw [h1]; rfl)
 | false =>
 cases h2:neI (b.length:Int) 32 with
 | true=>exact ansO_run hp (r8b φ a b t) (by rw [h1,h2]; rfl)
 | false =>
 cases h3:neI (t.length:Int) 16 with
 | true=>exact ansO_run hp (r8c φ a b t) (by rw [h1,h2,h3]; rfl)
 | false =>
 cases h4:neI (φ.sr a b) 0 with
 | true=>exact ansO_run hp (r8d φ a b t) (by rw [h1,h2,h3,h4]; rfl)
 | false =>
  have e4:=neI_f h4
  have e3:=neI_f h3
  have hg:g31 (φ.sv a b) t=true:=by
   unfold g31
   rw [hφ.len a b e4,show t.length=16 by omega]
   rfl
  have r:=ansO_run hp (r8e φ a b t) (by rw [h1,h2,h3,h4,hg]; rfl)
  simp only [cond_false]
  rw [e4]
  exact r
theorem run9 (hφ:OkP φ):(run1 Tryz.prog (cs9 φ) (mask 9) 200 9 [.str a,.str b,.str t] [] 5).map (·.1)=some (pfT φ a b t):=by
 have hp:PSOk (psOne 33 (s33 φ)) (cs9 φ):=csP_ok
 unfold pfT pfV pfR
 cases h1:neI (a.length:Int) 32 with
 | true=>exact ansO_run hp (r9a φ a b t) (by rw [h1]; rfl)
 | false =>
 cases h2:neI (b.length:Int) 32 with
 | true=>exact ansO_run hp (r9b φ a b t) (by rw [h1,h2]; rfl)
 | false =>
 cases h3:neI (t.length:Int) 16 with
 | true=>exact ansO_run hp (r9c φ a b t) (by rw [h1,h2,h3]; rfl)
 | false =>
 cases h4:neI (φ.sr a b) 0 with
 | true=>exact ansO_run hp (r9d φ a b t) (by rw [h1,h2,h3,h4]; rfl)
 | false =>
  have e4:=neI_f h4
  have e3:=neI_f h3
  have hg:g31 (φ.sv a b) t=true:=by
   unfold g31
   rw [hφ.len a b e4,show t.length=16 by omega]
   rfl
  have r:=ansO_run hp (r9e φ a b t) (by rw [h1,h2,h3,h4,hg]; rfl)
  simp only [cond_false]
  rw [e4]
  exact r
noncomputable def s8 (φ:Fp):List AVal→Option EffA
 | [.str a,.str b,.str t]=>some (tL (some (pfT φ a b t)))
 | _=>none
def s9 (φ:Fp):List AVal→Option EffA
 | [.str a,.str b,.str t]=>some (.pure (pfT φ a b t))
 | _=>none
theorem s8_ok (hφ:OkP φ) (h:CSOk Tryz.prog (cs8 φ)):CSOk Tryz.prog (csOne 8 (s8 φ)):=csOne_ok fun args e he=>by
 unfold s8 at he
 split at he
 ·rename_i a b t
  cases he
  refine callOk_tL h ⟨fun _=>rfl,rfl⟩ fun x hx => ?_
  cases hx
  exact ⟨rfl,200,mask 8,run_of (run8 a b t hφ)⟩
 ·cases he
theorem s9_ok (hφ:OkP φ) (h:CSOk Tryz.prog (cs9 φ)):CSOk Tryz.prog (csOne 9 (s9 φ)):=csOne_ok fun args e he=>by
 unfold s9 at he
 split at he
 ·rename_i a b t
  cases he
  exact callOk_val h hmix (by rw [gl1]; exact run9 a b t hφ) rfl rfl
 ·cases he
end
end Go.Proofs.YtlchjbidkdokmaaGreatDoor
namespace Go.Proofs.YtlchjbidkdokmaaGreatDoor
open Go Go.Eng Go.Num Go.Bla Bk
noncomputable def csQ (φ:Fp):CS:=csAlt (csOne 8 (s8 φ)) (csAlt (csOne 9 (s9 φ)) (csAlt (csOne 10 (s10 φ)) (csOne 7 c7)))
def bg (a b t:L8):Bool:=decide ((4096:Int) < IntKind.wrap .i64 (IntKind.wrap .i64 ((a.length:Int)+(b.length:Int))+(t.length:Int)))
section
variable (φ:Fp) (a b t:L8)
theorem p3a:ansO (run1O Tryz.prog noPS (csQ φ) [27,45,49,62,65,70,88,91,96] [true] [] (mask 3) 200 3 [.str a,.str b,.str t] H0 5)=some (.bool true,[bg a b t]):=by kernel_rfl
theorem p3b:ansO (run1O Tryz.prog noPS (csQ φ) [27,45,49,62,65,70,88,91,96] [false,false,false,true] [] (mask 3) 200 3 [.str a,.str b,.str t] H0 5)=some (.bool true,[φ.pr a != 0,!(pfR φ a b t != pfR φ a b t),!!(pfV φ a b t == pfV φ a b t),!(bg a b t)]):=by kernel_rfl
theorem p3c:ansO (run1O Tryz.prog noPS (csQ φ) [27,45,49,62,65,70,88,91,96] [false,false,false,false,true] [] (mask 3) 200 3 [.str a,.str b,.str t] H0 5)=some (.bool true,[φ.pr b != 0,!(φ.pr a != 0),!(pfR φ a b t != pfR φ a b t),!!(pfV φ a b t == pfV φ a b t),!(bg a b t)]):=by kernel_rfl
theorem p3d:ansO (run1O Tryz.prog noPS (csQ φ) [27,45,49,62,65,70,88,91,96] [false,false,false,false,false,true] [] (mask 3) 200 3 [.str a,.str b,.str t] H0 5)=some (.bool true,[((t.length:Int) != 16),!(φ.pr b != 0),!(φ.pr a != 0),!(pfR φ a b t != pfR φ a b t),!!(pfV φ a b t == pfV φ a b t),!(bg a b t)]):=by kernel_rfl
theorem p3e:ansO (run1O Tryz.prog noPS (csQ φ) [27,45,49,62,65,70,88,91,96] [false,false,false,false,false,false,true,true,true] [] (mask 3) 200 3 [.str a,.str b,.str t] H0 5)=some (.bool true,[(pfV φ a (φ.pv b) t == pfV φ b (φ.pv a) t),(pfR φ b (φ.pv a) t == 0),(pfR φ a (φ.pv b) t == 0),!((t.length:Int) != 16),!(φ.pr b != 0),!(φ.pr a != 0),!(pfR φ a b t != pfR φ a b t),!!(pfV φ a b t == pfV φ a b t),!(bg a b t)]):=by kernel_rfl
end
theorem law3P {φ:Fp}(hl:∀ a,φ.pr a=0→a.length=32∧(φ.pv a).length=32) (hd:∀ a b,φ.pr a=0→φ.pr b=0→φ.sr a (φ.pv b)=0∧φ.sr b (φ.pv a)=0∧φ.sv a (φ.pv b)=φ.sv b (φ.pv a)) (a b t:L8) :
  (run1 Tryz.prog (csQ φ) (mask 3) 200 3 [.str a,.str b,.str t] H0 5).map (·.1)=some (.bool true):=by
 have hp:=noPS_ok (csQ φ)
 have e1:(pfR φ a b t != pfR φ a b t)=false:=bne_self_eq_false _
 have e2:(pfV φ a b t == pfV φ a b t)=true:=beq_self_eq_true _
 cases h0:bg a b t with
 | true=>exact ansO_run hp (p3a φ a b t) (by rw [h0]; rfl)
 | false =>
 cases h1:(φ.pr a != 0) with
 | true=>exact ansO_run hp (p3b φ a b t) (by rw [h0,h1,e1,e2]; rfl)
 | false =>
 cases h2:(φ.pr b != 0) with
 | true=>exact ansO_run hp (p3c φ a b t) (by rw [h0,h1,h2,e1,e2]; rfl)
 | false =>
 cases h3:((t.length:Int) != 16) with
 | true=>exact ansO_run hp (p3d φ a b t) (by rw [h0,h1,h2,h3,e1,e2]; rfl)
 | false =>
  have ha:φ.pr a=0:=by simpa using h1
  have hb:φ.pr b=0:=by simpa using h2
  have ht:(t.length:Int)=16:=by simpa using h3
  obtain ⟨d1,d2,d3⟩:=hd a b ha hb
  obtain ⟨la,lpa⟩:=hl a ha
  obtain ⟨lb,lpb⟩:=hl b hb
  have n1:neI (a.length:Int) 32=false:=by rw [la]; rfl
  have n2:neI (b.length:Int) 32=false:=by rw [lb]; rfl
  have n3:neI ((φ.pv a).length:Int) 32=false:=by rw [lpa]; rfl
  have n4:neI ((φ.pv b).length:Int) 32=false:=by rw [lpb]; rfl
  have n5:neI (t.length:Int) 16=false:=by rw [ht]; rfl
  have q1:(pfR φ a (φ.pv b) t == 0)=true:=by unfold pfR; rw [n1,n4,n5,d1]; rfl
  have q2:(pfR φ b (φ.pv a) t == 0)=true:=by unfold pfR; rw [n2,n3,n5,d2]; rfl
  have q3:(pfV φ a (φ.pv b) t == pfV φ b (φ.pv a) t)=true:=by
   have e3:pfV φ a (φ.pv b) t=pfV φ b (φ.pv a) t:=by
    unfold pfV
    rw [n1,n2,n3,n4,n5,d1,d2,d3]
   rw [e3]
   exact beq_self_eq_true _
  exact ansO_run hp (p3e φ a b t) (by rw [h0,h1,h2,h3,e1,e2,q1,q2,q3]; rfl)
theorem sh_keyV {a u:L8}{n:Nat}(h:isLen a 32=true) (k:KeyOf u n):shV ladE a u=ladE a u∧shR ladE a u=0∧KeyOf (ladE a u) (n * leNat (clampL a)):=by
 have q:=k.lad h
 have e:shV ladE a u=ladE a u∧shR ladE a u=0:=by
  unfold shV shR
  rw [h,k.len,q.nz]
  exact ⟨rfl,rfl⟩
 exact ⟨e.1,e.2,q⟩
theorem pr_len {a:L8}(h:puR a=0):isLen a 32=true:=by
 unfold puR at h
 cases hb:isLen a 32 with
 | true=>rfl
 | false=>rw [hb] at h; cases h
theorem puP_key {a:L8}(h:isLen a 32=true):puV ladP a=ladE a nine32∧KeyOf (ladE a nine32) (1 * leNat (clampL a)):=by
 unfold puV
 rw [h,cond_true,← lad_same a (u:=nine32) rfl]
 exact ⟨rfl,key_nine.lad h⟩
theorem hlR (a:L8) (h:realFp.pr a=0):a.length=32∧(realFp.pv a).length=32:=by
 have ha:isLen a 32=true:=pr_len h
 obtain ⟨e,k⟩:=puP_key ha
 refine ⟨isLen_eq.1 ha,?_⟩
 show (puV ladP a).length=32
 rw [e]
 exact isLen_eq.1 k.len
theorem hdR (a b:L8) (h:realFp.pr a=0) (h2:realFp.pr b=0):realFp.sr a (realFp.pv b)=0∧realFp.sr b (realFp.pv a)=0∧realFp.sv a (realFp.pv b)=realFp.sv b (realFp.pv a):=by
 have ha:isLen a 32=true:=pr_len h
 have hb:isLen b 32=true:=pr_len h2
 obtain ⟨a1,a3⟩:=puP_key ha
 obtain ⟨b1,b3⟩:=puP_key hb
 obtain ⟨c1,c2,c3⟩:=sh_keyV ha b3
 obtain ⟨d1,d2,d3⟩:=sh_keyV hb a3
 have e:=c3.same d3 (by rw [Nat.one_mul,Nat.one_mul,Nat.mul_comm])
 show shR ladE a (puV ladP b)=0∧shR ladE b (puV ladP a)=0∧shV ladE a (puV ladP b)=shV ladE b (puV ladP a)
 rw [a1,b1]
 exact ⟨c2,d2,by rw [c1,d1,e]⟩
theorem okP:OkP realFp:=⟨fun a b h=>by
 have h':shR ladE a b=0:=h
 show (shV ladE a b).length=32
 unfold shR at h'
 unfold shV
 cases h1:(isLen a 32 && isLen b 32) with
 | false=>rw [h1] at h'; cases h'
 | true =>
  rw [h1,cond_true] at h'
  cases h2:(ladE a b == zero32) with
  | true=>rw [h2] at h'; cases h'
  | false =>
   simp only [cond_true,cond_false]
   exact ladE_len a b⟩
noncomputable def csP3:CS:=csQ realFp
theorem csP3_ok:CSOk Tryz.prog csP3:=csAlt_ok (s8_ok okP (csAlt_ok s31_ok s30_ok)) (csAlt_ok (s9_ok okP (csAlt_ok s33_ok s32_ok)) (csAlt_ok s10_ok c7_ok))
theorem law3 (a b t:L8):(run1 Tryz.prog csP3 (mask 3) 200 3 [.str a,.str b,.str t] H0 5).map (·.1)=some (.bool true):=law3P hlR hdR a b t
end Go.Proofs.YtlchjbidkdokmaaGreatDoor
