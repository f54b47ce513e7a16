/- Texts Tg5, Tg6, Eng56, Tg7, Eng20: what they show that this claim uses. -/
import Derived.Test.YtjdhndicgifnbaaP12
import Derived.Test.YtjdhndicgifnbaaP11
import Derived.Test.YtjdhndicgifnbaaP3
import Derived.WalkKit
import Derived.ProofKit
import Derived.OpenShut
import Derived.ShutString
import Derived.ChangeSame
set_option maxRecDepth 100000
set_option maxHeartbeats 1000000
set_option linter.unusedVariables false
set_option linter.unusedSimpArgs false
namespace Go.Proofs.Ytjdhndicgifnbaa.Tun
open Go Go.Eng Go.Proofs.Ytjdhndicgifnbaa
def pickX (q:Stp) (so:SL):UInt64 × List UInt8:=
 match so with
 | []=>(UInt64.ofInt q.n,q.s)
 | a::l=>cond (decide (q.d < 6)) (cond (q.d == 2) (cond (decide (0 < (((a::l).getD (idxI q.wh (a::l).length) (0,[])).2.length:Int))) (((a::l).getD (idxI q.wh (a::l).length) (0,[])).1,turnL ((a::l).getD (idxI q.wh (a::l).length) (0,[])).2 (idxI q.n ((a::l).getD (idxI q.wh (a::l).length) (0,[])).2.length)) ((a::l).getD (idxI q.wh (a::l).length) (0,[])))
   (cond (q.d == 3) (UInt64.ofInt q.n,((a::l).getD (idxI q.wh (a::l).length) (0,[])).2) ((a::l).getD (idxI q.wh (a::l).length) (0,[])))) (UInt64.ofInt q.n,q.s)
def openS (q:Stp) (h:Hv):Sx:=⟨h.t,h.c,h.L,h.sk,h.so,openDG q.now (pickX q h.so).1 (pickX q h.so).2 (h.c,h.L),openN q.now (pickX q h.so).1 (pickX q h.so).2 h.t,(openDN q.now (pickX q h.so).1 (pickX q h.so).2 (h.c,h.L)).1,(openDN q.now (pickX q h.so).1 (pickX q h.so).2 (h.c,h.L)).2,h.sk⟩
theorem keeps_open (q:Stp):Keeps (openS q):=fun h=>⟨rfl,rfl,rfl,rfl,rfl⟩
def opR (q:Stp) (n:UInt64) (z:List UInt8) (c:Dc) (L:List UInt64):List UInt8:=cond (openDG q.now n z (c,L)) (Ae.opF c.recv (Ae.nonL n) [] z).1 []
def opE (q:Stp) (n:UInt64) (z:List UInt8) (c:Dc) (L:List UInt64):Int:=cond (openDG q.now n z (c,L)) 0 (openDE q.now n z (c,L))
theorem openDV_op (q:Stp) (n:UInt64) (z:List UInt8) (c:Dc) (L:List UInt64):openDV q.now n z (c,L)=.tup [.str (opR q n z c L),.int .i64 (opE q n z c L)]:=by
 unfold openDV opR opE
 cases openDG q.now n z (c,L) <;> simp only [cond_true,cond_false]
theorem ro00rp0 {k:Bool}{q:Stp}{t:Tn}{c:Dc}(hR:TRel t c ([]:List UInt64)) (ha:AtK q k) (d0:(!(q.d == 0))=true) (d4:(!(q.d == 4))=true) (d5:(!(q.d == 5))=true) (hlen:lenOk (c,([]:List UInt64))=true) (d6:decide (q.d < 6)=true) (hz:Ae.slR q.s=true) (hg:openDG q.now (UInt64.ofInt q.n) q.s (c,([]:List UInt64))=false) (sk:SL) :
  RunG Try.prog csT 11 (VO k q) ⟨t,c,([]:List UInt64),sk,([]:SL),false,openN q.now (UInt64.ofInt q.n) q.s t,(openDN q.now (UInt64.ofInt q.n) q.s (c,([]:List UInt64))).1,(openDN q.now (UInt64.ofInt q.n) q.s (c,([]:List UInt64))).2,sk⟩:=by
 obtain ⟨hv,hgg,_⟩:=open_eq hR q.now (UInt64.ofInt q.n) q.s
 rw [openDV_op] at hv
 have p1:=oOp_ok (k:=k) (x:=.ptr 6 0) (y:=.ptr 7 0) (zo:=.nilSlice) (sl:=slS (8+e1 ([]:List UInt64)+e1 ([]:SL)) sk) (slm:=(slQ 8 (qL ([]:List UInt64)))) (ex:=(mkX ([]:List UInt64)++soX 8 ([]:SL))) (bb:=bbX none) (t:=t) (c:=c) (st:=q.C) (xb:=[.u64 (UInt64.ofInt q.n),.str q.s]) (b:=496) (now:=q.now) (n:=(UInt64.ofInt q.n)) (z:=q.s) rfl hR.w.ok
 rw [hv] at p1
 have em:openDN q.now (UInt64.ofInt q.n) q.s (c,([]:List UInt64))=(c,([]:List UInt64)):=by unfold openDN; rw [hg]; rfl
 have et:openN q.now (UInt64.ofInt q.n) q.s t=t:=by unfold openN; rw [hgg,hg]; rfl
 rw [et] at p1
 have p2:=oOd_no (b:=600) (j:=8) (k:=k) (x:=.ptr 6 0) (y:=.ptr 7 0) (zo:=.nilSlice) (sl:=slS (8+e1 ([]:List UInt64)+e1 ([]:SL)) sk) (so:=([]:SL)) (ob:=none) (t:=t) (c:=c) (L:=([]:List UInt64)) (st:=q.C) (xb:=[.u64 (UInt64.ofInt q.n),.str q.s]) (now:=q.now) (n:=(UInt64.ofInt q.n)) (z:=q.s) rfl rfl hlen hg
 rw [openDV_op] at p2
 rw [em]
 rw [et]
 have r:=ansR_of csT_ps (v00rp0 (k:=k) (x:=.ptr 6 0) (y:=.ptr 7 0) (sl:=(slS (8+e1 ([]:List UInt64)+e1 ([]:SL)) sk)) (t:=t) (c:=c) (d:=q.d) (wh:=q.wh) (n:=q.n) (z:=opE q (UInt64.ofInt q.n) q.s c ([]:List UInt64)) (a:=q.a) (s:=q.s) (r:=opR q (UInt64.ofInt q.n) q.s c ([]:List UInt64)) (now:=q.now)) (allT_c (beq_self_eq_true _) (allT_c p2 (allT_c hz (allT_c p1 (allT_c hz (allT_c rfl (allT_c d6 (allT_c d5 (allT_c d4 (allT_c d0 (allT_c (atO_ok ha) rfl)))))))))))
 rw [beq_self_eq_true] at r
 cases sk <;> exact runG_ofR (nn:=mask 11) (F:=200) (fr:=16) gl [600] r rfl rfl rfl rfl
theorem ro00rp1 {k:Bool}{q:Stp}{t:Tn}{c:Dc}(hR:TRel t c ([]:List UInt64)) (ha:AtK q k) (d0:(!(q.d == 0))=true) (d4:(!(q.d == 4))=true) (d5:(!(q.d == 5))=true) (hlen:lenOk (c,([]:List UInt64))=true) (d6:decide (q.d < 6)=true) (hz:Ae.slR q.s=true) (hg:openDG q.now (UInt64.ofInt q.n) q.s (c,([]:List UInt64))=true) (sk:SL) :
  RunG Try.prog csT 11 (VO k q) ⟨t,c,([]:List UInt64),sk,([]:SL),true,openN q.now (UInt64.ofInt q.n) q.s t,(openDN q.now (UInt64.ofInt q.n) q.s (c,([]:List UInt64))).1,(openDN q.now (UInt64.ofInt q.n) q.s (c,([]:List UInt64))).2,sk⟩:=by
 obtain ⟨hv,hgg,_⟩:=open_eq hR q.now (UInt64.ofInt q.n) q.s
 rw [openDV_op] at hv
 have p1:=oOp_ok (k:=k) (x:=.ptr 6 0) (y:=.ptr 7 0) (zo:=.nilSlice) (sl:=slS (8+e1 ([]:List UInt64)+e1 ([]:SL)) sk) (slm:=(slQ 8 (qL ([]:List UInt64)))) (ex:=(mkX ([]:List UInt64)++soX 8 ([]:SL))) (bb:=bbX none) (t:=t) (c:=c) (st:=q.C) (xb:=[.u64 (UInt64.ofInt q.n),.str q.s]) (b:=496) (now:=q.now) (n:=(UInt64.ofInt q.n)) (z:=q.s) rfl hR.w.ok
 rw [hv] at p1
 have em:openDN q.now (UInt64.ofInt q.n) q.s (c,([]:List UInt64))=(sureD c,([]:List UInt64)++[(UInt64.ofInt q.n)]):=by unfold openDN; rw [hg]; rfl
 have p2:=oOd_yes (b:=600) (k:=k) (x:=.ptr 6 0) (y:=.ptr 7 0) (zo:=.nilSlice) (sl:=slS (8+e1 ([]:List UInt64)+e1 ([]:SL)) sk) (so:=([]:SL)) (ob:=none) (t:=openN q.now (UInt64.ofInt q.n) q.s t) (c:=c) (L:=([]:List UInt64)) (st:=q.C) (xb:=[.u64 (UInt64.ofInt q.n),.str q.s]) (now:=q.now) (n:=(UInt64.ofInt q.n)) (z:=q.s) (by decide) hlen hg
 rw [openDV_op] at p2
 rw [em]
 have r:=ansR_of csT_ps (v00rp1 (k:=k) (x:=.ptr 6 0) (y:=.ptr 7 0) (sl:=(slS (8+e1 ([]:List UInt64)+e1 ([]:SL)) sk)) (t:=t) (c:=c) (d:=q.d) (wh:=q.wh) (n:=q.n) (z:=opE q (UInt64.ofInt q.n) q.s c ([]:List UInt64)) (a:=q.a) (s:=q.s) (r:=opR q (UInt64.ofInt q.n) q.s c ([]:List UInt64)) (now:=q.now) (t2:=openN q.now (UInt64.ofInt q.n) q.s t) (c2:=sureD c) (q:=1) (mk2:=(([]:List UInt64)++[(UInt64.ofInt q.n)]).map .u64)) (allT_c (beq_self_eq_true _) (allT_c p2 (allT_c hz (allT_c p1 (allT_c hz (allT_c rfl (allT_c d6 (allT_c d5 (allT_c d4 (allT_c d0 (allT_c (atO_ok ha) rfl)))))))))))
 rw [beq_self_eq_true] at r
 cases sk <;> exact runG_ofR (nn:=mask 11) (F:=200) (fr:=16) gl [600] r rfl rfl rfl rfl
theorem ro00rq0 {k:Bool}{q:Stp}{t:Tn}{c:Dc}(hR:TRel t c ([]:List UInt64)) (ha:AtK q k) (d0:(!(q.d == 0))=true) (d4:(!(q.d == 4))=true) (d5:(!(q.d == 5))=true) (hlen:lenOk (c,([]:List UInt64))=true) (d6:(!decide (q.d < 6))=true) (hz:Ae.slR q.s=true) (hg:openDG q.now (UInt64.ofInt q.n) q.s (c,([]:List UInt64))=false) (sk:SL) :
  RunG Try.prog csT 11 (VO k q) ⟨t,c,([]:List UInt64),sk,([]:SL),false,openN q.now (UInt64.ofInt q.n) q.s t,(openDN q.now (UInt64.ofInt q.n) q.s (c,([]:List UInt64))).1,(openDN q.now (UInt64.ofInt q.n) q.s (c,([]:List UInt64))).2,sk⟩:=by
 obtain ⟨hv,hgg,_⟩:=open_eq hR q.now (UInt64.ofInt q.n) q.s
 rw [openDV_op] at hv
 have p1:=oOp_ok (k:=k) (x:=.ptr 6 0) (y:=.ptr 7 0) (zo:=.nilSlice) (sl:=slS (8+e1 ([]:List UInt64)+e1 ([]:SL)) sk) (slm:=(slQ 8 (qL ([]:List UInt64)))) (ex:=(mkX ([]:List UInt64)++soX 8 ([]:SL))) (bb:=bbX none) (t:=t) (c:=c) (st:=q.C) (xb:=[.u64 (UInt64.ofInt q.n),.str q.s]) (b:=496) (now:=q.now) (n:=(UInt64.ofInt q.n)) (z:=q.s) rfl hR.w.ok
 rw [hv] at p1
 have em:openDN q.now (UInt64.ofInt q.n) q.s (c,([]:List UInt64))=(c,([]:List UInt64)):=by unfold openDN; rw [hg]; rfl
 have et:openN q.now (UInt64.ofInt q.n) q.s t=t:=by unfold openN; rw [hgg,hg]; rfl
 rw [et] at p1
 have p2:=oOd_no (b:=600) (j:=8) (k:=k) (x:=.ptr 6 0) (y:=.ptr 7 0) (zo:=.nilSlice) (sl:=slS (8+e1 ([]:List UInt64)+e1 ([]:SL)) sk) (so:=([]:SL)) (ob:=none) (t:=t) (c:=c) (L:=([]:List UInt64)) (st:=q.C) (xb:=[.u64 (UInt64.ofInt q.n),.str q.s]) (now:=q.now) (n:=(UInt64.ofInt q.n)) (z:=q.s) rfl rfl hlen hg
 rw [openDV_op] at p2
 rw [em]
 rw [et]
 have r:=ansR_of csT_ps (v00rq0 (k:=k) (x:=.ptr 6 0) (y:=.ptr 7 0) (sl:=(slS (8+e1 ([]:List UInt64)+e1 ([]:SL)) sk)) (t:=t) (c:=c) (d:=q.d) (wh:=q.wh) (n:=q.n) (z:=opE q (UInt64.ofInt q.n) q.s c ([]:List UInt64)) (a:=q.a) (s:=q.s) (r:=opR q (UInt64.ofInt q.n) q.s c ([]:List UInt64)) (now:=q.now)) (allT_c (beq_self_eq_true _) (allT_c p2 (allT_c hz (allT_c p1 (allT_c hz (allT_c d6 (allT_c d5 (allT_c d4 (allT_c d0 (allT_c (atO_ok ha) rfl))))))))))
 rw [beq_self_eq_true] at r
 cases sk <;> exact runG_ofR (nn:=mask 11) (F:=200) (fr:=16) gl [600] r rfl rfl rfl rfl
theorem ro00rq1 {k:Bool}{q:Stp}{t:Tn}{c:Dc}(hR:TRel t c ([]:List UInt64)) (ha:AtK q k) (d0:(!(q.d == 0))=true) (d4:(!(q.d == 4))=true) (d5:(!(q.d == 5))=true) (hlen:lenOk (c,([]:List UInt64))=true) (d6:(!decide (q.d < 6))=true) (hz:Ae.slR q.s=true) (hg:openDG q.now (UInt64.ofInt q.n) q.s (c,([]:List UInt64))=true) (sk:SL) :
  RunG Try.prog csT 11 (VO k q) ⟨t,c,([]:List UInt64),sk,([]:SL),true,openN q.now (UInt64.ofInt q.n) q.s t,(openDN q.now (UInt64.ofInt q.n) q.s (c,([]:List UInt64))).1,(openDN q.now (UInt64.ofInt q.n) q.s (c,([]:List UInt64))).2,sk⟩:=by
 obtain ⟨hv,hgg,_⟩:=open_eq hR q.now (UInt64.ofInt q.n) q.s
 rw [openDV_op] at hv
 have p1:=oOp_ok (k:=k) (x:=.ptr 6 0) (y:=.ptr 7 0) (zo:=.nilSlice) (sl:=slS (8+e1 ([]:List UInt64)+e1 ([]:SL)) sk) (slm:=(slQ 8 (qL ([]:List UInt64)))) (ex:=(mkX ([]:List UInt64)++soX 8 ([]:SL))) (bb:=bbX none) (t:=t) (c:=c) (st:=q.C) (xb:=[.u64 (UInt64.ofInt q.n),.str q.s]) (b:=496) (now:=q.now) (n:=(UInt64.ofInt q.n)) (z:=q.s) rfl hR.w.ok
 rw [hv] at p1
 have em:openDN q.now (UInt64.ofInt q.n) q.s (c,([]:List UInt64))=(sureD c,([]:List UInt64)++[(UInt64.ofInt q.n)]):=by unfold openDN; rw [hg]; rfl
 have p2:=oOd_yes (b:=600) (k:=k) (x:=.ptr 6 0) (y:=.ptr 7 0) (zo:=.nilSlice) (sl:=slS (8+e1 ([]:List UInt64)+e1 ([]:SL)) sk) (so:=([]:SL)) (ob:=none) (t:=openN q.now (UInt64.ofInt q.n) q.s t) (c:=c) (L:=([]:List UInt64)) (st:=q.C) (xb:=[.u64 (UInt64.ofInt q.n),.str q.s]) (now:=q.now) (n:=(UInt64.ofInt q.n)) (z:=q.s) (by decide) hlen hg
 rw [openDV_op] at p2
 rw [em]
 have r:=ansR_of csT_ps (v00rq1 (k:=k) (x:=.ptr 6 0) (y:=.ptr 7 0) (sl:=(slS (8+e1 ([]:List UInt64)+e1 ([]:SL)) sk)) (t:=t) (c:=c) (d:=q.d) (wh:=q.wh) (n:=q.n) (z:=opE q (UInt64.ofInt q.n) q.s c ([]:List UInt64)) (a:=q.a) (s:=q.s) (r:=opR q (UInt64.ofInt q.n) q.s c ([]:List UInt64)) (now:=q.now) (t2:=openN q.now (UInt64.ofInt q.n) q.s t) (c2:=sureD c) (q:=1) (mk2:=(([]:List UInt64)++[(UInt64.ofInt q.n)]).map .u64)) (allT_c (beq_self_eq_true _) (allT_c p2 (allT_c hz (allT_c p1 (allT_c hz (allT_c d6 (allT_c d5 (allT_c d4 (allT_c d0 (allT_c (atO_ok ha) rfl))))))))))
 rw [beq_self_eq_true] at r
 cases sk <;> exact runG_ofR (nn:=mask 11) (F:=200) (fr:=16) gl [600] r rfl rfl rfl rfl
theorem ro01rq0 {k:Bool}{q:Stp}{t:Tn}{c:Dc}{o1:UInt64 × List UInt8}{o2:SL}(hR:TRel t c ([]:List UInt64)) (ha:AtK q k) (d0:(!(q.d == 0))=true) (d4:(!(q.d == 4))=true) (d5:(!(q.d == 5))=true) (hlen:lenOk (c,([]:List UInt64))=true) (d6:(!decide (q.d < 6))=true) (hz:Ae.slR q.s=true) (hg:openDG q.now (UInt64.ofInt q.n) q.s (c,([]:List UInt64))=false) (sk:SL) :
  RunG Try.prog csT 11 (VO k q) ⟨t,c,([]:List UInt64),sk,(o1::o2),false,openN q.now (UInt64.ofInt q.n) q.s t,(openDN q.now (UInt64.ofInt q.n) q.s (c,([]:List UInt64))).1,(openDN q.now (UInt64.ofInt q.n) q.s (c,([]:List UInt64))).2,sk⟩:=by
 obtain ⟨hv,hgg,_⟩:=open_eq hR q.now (UInt64.ofInt q.n) q.s
 rw [openDV_op] at hv
 have p1:=oOp_ok (k:=k) (x:=.ptr 6 0) (y:=.ptr 7 0) (zo:=(slS 8 (o1::o2))) (sl:=slS (8+e1 ([]:List UInt64)+e1 (o1::o2)) sk) (slm:=(slQ 8 (qL ([]:List UInt64)))) (ex:=(mkX ([]:List UInt64)++soX 8 (o1::o2))) (bb:=bbX none) (t:=t) (c:=c) (st:=q.C) (xb:=[.u64 (UInt64.ofInt q.n),.str q.s]) (b:=496) (now:=q.now) (n:=(UInt64.ofInt q.n)) (z:=q.s) rfl hR.w.ok
 rw [hv] at p1
 have em:openDN q.now (UInt64.ofInt q.n) q.s (c,([]:List UInt64))=(c,([]:List UInt64)):=by unfold openDN; rw [hg]; rfl
 have et:openN q.now (UInt64.ofInt q.n) q.s t=t:=by unfold openN; rw [hgg,hg]; rfl
 rw [et] at p1
 have p2:=oOd_no (b:=600) (j:=8) (k:=k) (x:=.ptr 6 0) (y:=.ptr 7 0) (zo:=(slS 8 (o1::o2))) (sl:=slS (8+e1 ([]:List UInt64)+e1 (o1::o2)) sk) (so:=(o1::o2)) (ob:=none) (t:=t) (c:=c) (L:=([]:List UInt64)) (st:=q.C) (xb:=[.u64 (UInt64.ofInt q.n),.str q.s]) (now:=q.now) (n:=(UInt64.ofInt q.n)) (z:=q.s) rfl rfl hlen hg
 rw [openDV_op] at p2
 rw [em]
 rw [et]
 have r:=ansR_of csT_ps (v01rq0 (k:=k) (x:=.ptr 6 0) (y:=.ptr 7 0) (sl:=(slS (8+e1 ([]:List UInt64)+e1 (o1::o2)) sk)) (t:=t) (c:=c) (d:=q.d) (wh:=q.wh) (n:=q.n) (z:=opE q (UInt64.ofInt q.n) q.s c ([]:List UInt64)) (a:=q.a) (s:=q.s) (r:=opR q (UInt64.ofInt q.n) q.s c ([]:List UInt64)) (now:=q.now) (so:=(o1::o2))) (allT_c (beq_self_eq_true _) (allT_c p2 (allT_c hz (allT_c p1 (allT_c hz (allT_c d6 (allT_c d5 (allT_c d4 (allT_c d0 (allT_c (atO_ok ha) rfl))))))))))
 rw [beq_self_eq_true] at r
 cases sk <;> exact runG_ofR (nn:=mask 11) (F:=200) (fr:=16) gl [600] r rfl rfl rfl rfl
theorem ro01rq1 {k:Bool}{q:Stp}{t:Tn}{c:Dc}{o1:UInt64 × List UInt8}{o2:SL}(hR:TRel t c ([]:List UInt64)) (ha:AtK q k) (d0:(!(q.d == 0))=true) (d4:(!(q.d == 4))=true) (d5:(!(q.d == 5))=true) (hlen:lenOk (c,([]:List UInt64))=true) (d6:(!decide (q.d < 6))=true) (hz:Ae.slR q.s=true) (hg:openDG q.now (UInt64.ofInt q.n) q.s (c,([]:List UInt64))=true) (sk:SL) :
  RunG Try.prog csT 11 (VO k q) ⟨t,c,([]:List UInt64),sk,(o1::o2),true,openN q.now (UInt64.ofInt q.n) q.s t,(openDN q.now (UInt64.ofInt q.n) q.s (c,([]:List UInt64))).1,(openDN q.now (UInt64.ofInt q.n) q.s (c,([]:List UInt64))).2,sk⟩:=by
 obtain ⟨hv,hgg,_⟩:=open_eq hR q.now (UInt64.ofInt q.n) q.s
 rw [openDV_op] at hv
 have p1:=oOp_ok (k:=k) (x:=.ptr 6 0) (y:=.ptr 7 0) (zo:=(slS 8 (o1::o2))) (sl:=slS (8+e1 ([]:List UInt64)+e1 (o1::o2)) sk) (slm:=(slQ 8 (qL ([]:List UInt64)))) (ex:=(mkX ([]:List UInt64)++soX 8 (o1::o2))) (bb:=bbX none) (t:=t) (c:=c) (st:=q.C) (xb:=[.u64 (UInt64.ofInt q.n),.str q.s]) (b:=496) (now:=q.now) (n:=(UInt64.ofInt q.n)) (z:=q.s) rfl hR.w.ok
 rw [hv] at p1
 have em:openDN q.now (UInt64.ofInt q.n) q.s (c,([]:List UInt64))=(sureD c,([]:List UInt64)++[(UInt64.ofInt q.n)]):=by unfold openDN; rw [hg]; rfl
 have p2:=oOd_yes (b:=600) (k:=k) (x:=.ptr 6 0) (y:=.ptr 7 0) (zo:=(slS 8 (o1::o2))) (sl:=slS (8+e1 ([]:List UInt64)+e1 (o1::o2)) sk) (so:=(o1::o2)) (ob:=none) (t:=openN q.now (UInt64.ofInt q.n) q.s t) (c:=c) (L:=([]:List UInt64)) (st:=q.C) (xb:=[.u64 (UInt64.ofInt q.n),.str q.s]) (now:=q.now) (n:=(UInt64.ofInt q.n)) (z:=q.s) (by decide) hlen hg
 rw [openDV_op] at p2
 rw [em]
 have r:=ansR_of csT_ps (v01rq1 (k:=k) (x:=.ptr 6 0) (y:=.ptr 7 0) (sl:=(slS (8+e1 ([]:List UInt64)+e1 (o1::o2)) sk)) (t:=t) (c:=c) (d:=q.d) (wh:=q.wh) (n:=q.n) (z:=opE q (UInt64.ofInt q.n) q.s c ([]:List UInt64)) (a:=q.a) (s:=q.s) (r:=opR q (UInt64.ofInt q.n) q.s c ([]:List UInt64)) (now:=q.now) (so:=(o1::o2)) (t2:=openN q.now (UInt64.ofInt q.n) q.s t) (c2:=sureD c) (q:=1) (mk2:=(([]:List UInt64)++[(UInt64.ofInt q.n)]).map .u64)) (allT_c (beq_self_eq_true _) (allT_c p2 (allT_c hz (allT_c p1 (allT_c hz (allT_c d6 (allT_c d5 (allT_c d4 (allT_c d0 (allT_c (atO_ok ha) rfl))))))))))
 rw [beq_self_eq_true] at r
 cases sk <;> exact runG_ofR (nn:=mask 11) (F:=200) (fr:=16) gl [600] r rfl rfl rfl rfl
theorem ro0110 {k:Bool}{q:Stp}{t:Tn}{c:Dc}{o1:UInt64 × List UInt8}{o2:SL}{m:UInt64}{c1:List UInt8}{i:Nat}(hR:TRel t c ([]:List UInt64)) (ha:AtK q k) (d0:(!(q.d == 0))=true) (d4:(!(q.d == 4))=true) (d5:(!(q.d == 5))=true) (hlen:lenOk (c,([]:List UInt64))=true) (d6:decide (q.d < 6)=true) (hi:i < (o1::o2).length) (hrm:rmO q.wh (o1::o2).length i=true) (hx:(o1::o2)[i]? = some (m,c1)) (e2:(!(q.d == 2))=true) (e3:(!(q.d == 3))=true) (hz:Ae.slR c1=true) (hg:openDG q.now m c1 (c,([]:List UInt64))=false) (sk:SL) :
  RunG Try.prog csT 11 (VO k q) ⟨t,c,([]:List UInt64),sk,(o1::o2),false,openN q.now m c1 t,(openDN q.now m c1 (c,([]:List UInt64))).1,(openDN q.now m c1 (c,([]:List UInt64))).2,sk⟩:=by
 have hso:decide (0 < ((o1::o2).length:Int))=true:=by simp <;> omega
 have hsz:(!(((o1::o2).length:Int) == 0))=true:=by simp <;> omega
 obtain ⟨hv,hgg,_⟩:=open_eq hR q.now m c1
 rw [openDV_op] at hv
 have p1:=oOp_ok (k:=k) (x:=.ptr 6 0) (y:=.ptr 7 0) (zo:=(slS 8 (o1::o2))) (sl:=slS (8+e1 ([]:List UInt64)+e1 (o1::o2)) sk) (slm:=(slQ 8 (qL ([]:List UInt64)))) (ex:=(mkX ([]:List UInt64)++soX 8 (o1::o2))) (bb:=bbX none) (t:=t) (c:=c) (st:=q.C) (xb:=[.u64 m,.str c1]) (b:=672) (now:=q.now) (n:=m) (z:=c1) rfl hR.w.ok
 rw [hv] at p1
 have em:openDN q.now m c1 (c,([]:List UInt64))=(c,([]:List UInt64)):=by unfold openDN; rw [hg]; rfl
 have et:openN q.now m c1 t=t:=by unfold openN; rw [hgg,hg]; rfl
 rw [et] at p1
 have p2:=oOd_no (b:=776) (j:=8) (k:=k) (x:=.ptr 6 0) (y:=.ptr 7 0) (zo:=(slS 8 (o1::o2))) (sl:=slS (8+e1 ([]:List UInt64)+e1 (o1::o2)) sk) (so:=(o1::o2)) (ob:=none) (t:=t) (c:=c) (L:=([]:List UInt64)) (st:=q.C) (xb:=[.u64 m,.str c1]) (now:=q.now) (n:=m) (z:=c1) rfl rfl hlen hg
 rw [openDV_op] at p2
 rw [em]
 rw [et]
 have r:=ansR_of csT_ps (v0110 (k:=k) (x:=.ptr 6 0) (y:=.ptr 7 0) (sl:=(slS (8+e1 ([]:List UInt64)+e1 (o1::o2)) sk)) (t:=t) (c:=c) (d:=q.d) (wh:=q.wh) (n:=q.n) (z:=opE q m c1 c ([]:List UInt64)) (a:=q.a) (s:=q.s) (r:=opR q m c1 c ([]:List UInt64)) (now:=q.now) (so:=(o1::o2)) (c1:=c1) (m:=m) (i:=i)) (allT_c (beq_self_eq_true _) (allT_c p2 (allT_c hz (allT_c p1 (allT_c hz (allT_c e3 (allT_c e2 (allT_c (rowO_ok hx) (allT_c (inO_ok hi) (allT_c hrm (allT_c (hsz:(!(((o1::o2).length:Int) == 0))=true) (allT_c (hso:decide (0 < ((o1::o2).length:Int))=true) (allT_c d6 (allT_c d5 (allT_c d4 (allT_c d0 (allT_c (atO_ok ha) rfl)))))))))))))))))
 rw [beq_self_eq_true] at r
 cases sk <;> exact runG_ofR (nn:=mask 11) (F:=200) (fr:=16) gl [776] r rfl rfl rfl rfl
theorem ro0111 {k:Bool}{q:Stp}{t:Tn}{c:Dc}{o1:UInt64 × List UInt8}{o2:SL}{m:UInt64}{c1:List UInt8}{i:Nat}(hR:TRel t c ([]:List UInt64)) (ha:AtK q k) (d0:(!(q.d == 0))=true) (d4:(!(q.d == 4))=true) (d5:(!(q.d == 5))=true) (hlen:lenOk (c,([]:List UInt64))=true) (d6:decide (q.d < 6)=true) (hi:i < (o1::o2).length) (hrm:rmO q.wh (o1::o2).length i=true) (hx:(o1::o2)[i]? = some (m,c1)) (e2:(!(q.d == 2))=true) (e3:(!(q.d == 3))=true) (hz:Ae.slR c1=true) (hg:openDG q.now m c1 (c,([]:List UInt64))=true) (sk:SL) :
  RunG Try.prog csT 11 (VO k q) ⟨t,c,([]:List UInt64),sk,(o1::o2),true,openN q.now m c1 t,(openDN q.now m c1 (c,([]:List UInt64))).1,(openDN q.now m c1 (c,([]:List UInt64))).2,sk⟩:=by
 have hso:decide (0 < ((o1::o2).length:Int))=true:=by simp <;> omega
 have hsz:(!(((o1::o2).length:Int) == 0))=true:=by simp <;> omega
 obtain ⟨hv,hgg,_⟩:=open_eq hR q.now m c1
 rw [openDV_op] at hv
 have p1:=oOp_ok (k:=k) (x:=.ptr 6 0) (y:=.ptr 7 0) (zo:=(slS 8 (o1::o2))) (sl:=slS (8+e1 ([]:List UInt64)+e1 (o1::o2)) sk) (slm:=(slQ 8 (qL ([]:List UInt64)))) (ex:=(mkX ([]:List UInt64)++soX 8 (o1::o2))) (bb:=bbX none) (t:=t) (c:=c) (st:=q.C) (xb:=[.u64 m,.str c1]) (b:=672) (now:=q.now) (n:=m) (z:=c1) rfl hR.w.ok
 rw [hv] at p1
 have em:openDN q.now m c1 (c,([]:List UInt64))=(sureD c,([]:List UInt64)++[m]):=by unfold openDN; rw [hg]; rfl
 have p2:=oOd_yes (b:=776) (k:=k) (x:=.ptr 6 0) (y:=.ptr 7 0) (zo:=(slS 8 (o1::o2))) (sl:=slS (8+e1 ([]:List UInt64)+e1 (o1::o2)) sk) (so:=(o1::o2)) (ob:=none) (t:=openN q.now m c1 t) (c:=c) (L:=([]:List UInt64)) (st:=q.C) (xb:=[.u64 m,.str c1]) (now:=q.now) (n:=m) (z:=c1) (by decide) hlen hg
 rw [openDV_op] at p2
 rw [em]
 have r:=ansR_of csT_ps (v0111 (k:=k) (x:=.ptr 6 0) (y:=.ptr 7 0) (sl:=(slS (8+e1 ([]:List UInt64)+e1 (o1::o2)) sk)) (t:=t) (c:=c) (d:=q.d) (wh:=q.wh) (n:=q.n) (z:=opE q m c1 c ([]:List UInt64)) (a:=q.a) (s:=q.s) (r:=opR q m c1 c ([]:List UInt64)) (now:=q.now) (so:=(o1::o2)) (c1:=c1) (m:=m) (i:=i) (t2:=openN q.now m c1 t) (c2:=sureD c) (q:=1) (mk2:=(([]:List UInt64)++[m]).map .u64)) (allT_c (beq_self_eq_true _) (allT_c p2 (allT_c hz (allT_c p1 (allT_c hz (allT_c e3 (allT_c e2 (allT_c (rowO_ok hx) (allT_c (inO_ok hi) (allT_c hrm (allT_c (hsz:(!(((o1::o2).length:Int) == 0))=true) (allT_c (hso:decide (0 < ((o1::o2).length:Int))=true) (allT_c d6 (allT_c d5 (allT_c d4 (allT_c d0 (allT_c (atO_ok ha) rfl)))))))))))))))))
 rw [beq_self_eq_true] at r
 cases sk <;> exact runG_ofR (nn:=mask 11) (F:=200) (fr:=16) gl [776] r rfl rfl rfl rfl
theorem ro0130 {k:Bool}{q:Stp}{t:Tn}{c:Dc}{o1:UInt64 × List UInt8}{o2:SL}{m:UInt64}{c1:List UInt8}{i:Nat}(hR:TRel t c ([]:List UInt64)) (ha:AtK q k) (d0:(!(q.d == 0))=true) (d4:(!(q.d == 4))=true) (d5:(!(q.d == 5))=true) (hlen:lenOk (c,([]:List UInt64))=true) (d6:decide (q.d < 6)=true) (hi:i < (o1::o2).length) (hrm:rmO q.wh (o1::o2).length i=true) (hx:(o1::o2)[i]? = some (m,c1)) (e2:(!(q.d == 2))=true) (e3:(q.d == 3)=true) (hz:Ae.slR c1=true) (hg:openDG q.now (UInt64.ofInt q.n) c1 (c,([]:List UInt64))=false) (sk:SL) :
  RunG Try.prog csT 11 (VO k q) ⟨t,c,([]:List UInt64),sk,(o1::o2),false,openN q.now (UInt64.ofInt q.n) c1 t,(openDN q.now (UInt64.ofInt q.n) c1 (c,([]:List UInt64))).1,(openDN q.now (UInt64.ofInt q.n) c1 (c,([]:List UInt64))).2,sk⟩:=by
 have hso:decide (0 < ((o1::o2).length:Int))=true:=by simp <;> omega
 have hsz:(!(((o1::o2).length:Int) == 0))=true:=by simp <;> omega
 obtain ⟨hv,hgg,_⟩:=open_eq hR q.now (UInt64.ofInt q.n) c1
 rw [openDV_op] at hv
 have p1:=oOp_ok (k:=k) (x:=.ptr 6 0) (y:=.ptr 7 0) (zo:=(slS 8 (o1::o2))) (sl:=slS (8+e1 ([]:List UInt64)+e1 (o1::o2)) sk) (slm:=(slQ 8 (qL ([]:List UInt64)))) (ex:=(mkX ([]:List UInt64)++soX 8 (o1::o2))) (bb:=bbX none) (t:=t) (c:=c) (st:=q.C) (xb:=[.u64 (UInt64.ofInt q.n),.str c1]) (b:=712) (now:=q.now) (n:=(UInt64.ofInt q.n)) (z:=c1) rfl hR.w.ok
 rw [hv] at p1
 have em:openDN q.now (UInt64.ofInt q.n) c1 (c,([]:List UInt64))=(c,([]:List UInt64)):=by unfold openDN; rw [hg]; rfl
 have et:openN q.now (UInt64.ofInt q.n) c1 t=t:=by unfold openN; rw [hgg,hg]; rfl
 rw [et] at p1
 have p2:=oOd_no (b:=816) (j:=8) (k:=k) (x:=.ptr 6 0) (y:=.ptr 7 0) (zo:=(slS 8 (o1::o2))) (sl:=slS (8+e1 ([]:List UInt64)+e1 (o1::o2)) sk) (so:=(o1::o2)) (ob:=none) (t:=t) (c:=c) (L:=([]:List UInt64)) (st:=q.C) (xb:=[.u64 (UInt64.ofInt q.n),.str c1]) (now:=q.now) (n:=(UInt64.ofInt q.n)) (z:=c1) rfl rfl hlen hg
 rw [openDV_op] at p2
 rw [em]
 rw [et]
 have r:=ansR_of csT_ps (v0130 (k:=k) (x:=.ptr 6 0) (y:=.ptr 7 0) (sl:=(slS (8+e1 ([]:List UInt64)+e1 (o1::o2)) sk)) (t:=t) (c:=c) (d:=q.d) (wh:=q.wh) (n:=q.n) (z:=opE q (UInt64.ofInt q.n) c1 c ([]:List UInt64)) (a:=q.a) (s:=q.s) (r:=opR q (UInt64.ofInt q.n) c1 c ([]:List UInt64)) (now:=q.now) (so:=(o1::o2)) (c1:=c1) (m:=m) (i:=i)) (allT_c (beq_self_eq_true _) (allT_c p2 (allT_c hz (allT_c p1 (allT_c hz (allT_c e3 (allT_c e2 (allT_c (rowO_ok hx) (allT_c (inO_ok hi) (allT_c hrm (allT_c (hsz:(!(((o1::o2).length:Int) == 0))=true) (allT_c (hso:decide (0 < ((o1::o2).length:Int))=true) (allT_c d6 (allT_c d5 (allT_c d4 (allT_c d0 (allT_c (atO_ok ha) rfl)))))))))))))))))
 rw [beq_self_eq_true] at r
 cases sk <;> exact runG_ofR (nn:=mask 11) (F:=200) (fr:=16) gl [816] r rfl rfl rfl rfl
theorem ro0131 {k:Bool}{q:Stp}{t:Tn}{c:Dc}{o1:UInt64 × List UInt8}{o2:SL}{m:UInt64}{c1:List UInt8}{i:Nat}(hR:TRel t c ([]:List UInt64)) (ha:AtK q k) (d0:(!(q.d == 0))=true) (d4:(!(q.d == 4))=true) (d5:(!(q.d == 5))=true) (hlen:lenOk (c,([]:List UInt64))=true) (d6:decide (q.d < 6)=true) (hi:i < (o1::o2).length) (hrm:rmO q.wh (o1::o2).length i=true) (hx:(o1::o2)[i]? = some (m,c1)) (e2:(!(q.d == 2))=true) (e3:(q.d == 3)=true) (hz:Ae.slR c1=true) (hg:openDG q.now (UInt64.ofInt q.n) c1 (c,([]:List UInt64))=true) (sk:SL) :
  RunG Try.prog csT 11 (VO k q) ⟨t,c,([]:List UInt64),sk,(o1::o2),true,openN q.now (UInt64.ofInt q.n) c1 t,(openDN q.now (UInt64.ofInt q.n) c1 (c,([]:List UInt64))).1,(openDN q.now (UInt64.ofInt q.n) c1 (c,([]:List UInt64))).2,sk⟩:=by
 have hso:decide (0 < ((o1::o2).length:Int))=true:=by simp <;> omega
 have hsz:(!(((o1::o2).length:Int) == 0))=true:=by simp <;> omega
 obtain ⟨hv,hgg,_⟩:=open_eq hR q.now (UInt64.ofInt q.n) c1
 rw [openDV_op] at hv
 have p1:=oOp_ok (k:=k) (x:=.ptr 6 0) (y:=.ptr 7 0) (zo:=(slS 8 (o1::o2))) (sl:=slS (8+e1 ([]:List UInt64)+e1 (o1::o2)) sk) (slm:=(slQ 8 (qL ([]:List UInt64)))) (ex:=(mkX ([]:List UInt64)++soX 8 (o1::o2))) (bb:=bbX none) (t:=t) (c:=c) (st:=q.C) (xb:=[.u64 (UInt64.ofInt q.n),.str c1]) (b:=712) (now:=q.now) (n:=(UInt64.ofInt q.n)) (z:=c1) rfl hR.w.ok
 rw [hv] at p1
 have em:openDN q.now (UInt64.ofInt q.n) c1 (c,([]:List UInt64))=(sureD c,([]:List UInt64)++[(UInt64.ofInt q.n)]):=by unfold openDN; rw [hg]; rfl
 have p2:=oOd_yes (b:=816) (k:=k) (x:=.ptr 6 0) (y:=.ptr 7 0) (zo:=(slS 8 (o1::o2))) (sl:=slS (8+e1 ([]:List UInt64)+e1 (o1::o2)) sk) (so:=(o1::o2)) (ob:=none) (t:=openN q.now (UInt64.ofInt q.n) c1 t) (c:=c) (L:=([]:List UInt64)) (st:=q.C) (xb:=[.u64 (UInt64.ofInt q.n),.str c1]) (now:=q.now) (n:=(UInt64.ofInt q.n)) (z:=c1) (by decide) hlen hg
 rw [openDV_op] at p2
 rw [em]
 have r:=ansR_of csT_ps (v0131 (k:=k) (x:=.ptr 6 0) (y:=.ptr 7 0) (sl:=(slS (8+e1 ([]:List UInt64)+e1 (o1::o2)) sk)) (t:=t) (c:=c) (d:=q.d) (wh:=q.wh) (n:=q.n) (z:=opE q (UInt64.ofInt q.n) c1 c ([]:List UInt64)) (a:=q.a) (s:=q.s) (r:=opR q (UInt64.ofInt q.n) c1 c ([]:List UInt64)) (now:=q.now) (so:=(o1::o2)) (c1:=c1) (m:=m) (i:=i) (t2:=openN q.now (UInt64.ofInt q.n) c1 t) (c2:=sureD c) (q:=1) (mk2:=(([]:List UInt64)++[(UInt64.ofInt q.n)]).map .u64)) (allT_c (beq_self_eq_true _) (allT_c p2 (allT_c hz (allT_c p1 (allT_c hz (allT_c e3 (allT_c e2 (allT_c (rowO_ok hx) (allT_c (inO_ok hi) (allT_c hrm (allT_c (hsz:(!(((o1::o2).length:Int) == 0))=true) (allT_c (hso:decide (0 < ((o1::o2).length:Int))=true) (allT_c d6 (allT_c d5 (allT_c d4 (allT_c d0 (allT_c (atO_ok ha) rfl)))))))))))))))))
 rw [beq_self_eq_true] at r
 cases sk <;> exact runG_ofR (nn:=mask 11) (F:=200) (fr:=16) gl [816] r rfl rfl rfl rfl
theorem ro01e0 {k:Bool}{q:Stp}{t:Tn}{c:Dc}{o1:UInt64 × List UInt8}{o2:SL}{m:UInt64}{c1:List UInt8}{i:Nat}(hR:TRel t c ([]:List UInt64)) (ha:AtK q k) (d0:(!(q.d == 0))=true) (d4:(!(q.d == 4))=true) (d5:(!(q.d == 5))=true) (hlen:lenOk (c,([]:List UInt64))=true) (d6:decide (q.d < 6)=true) (hi:i < (o1::o2).length) (hrm:rmO q.wh (o1::o2).length i=true) (hx:(o1::o2)[i]? = some (m,c1)) (e2:(q.d == 2)=true) (e4:(!decide (0 < (c1.length:Int)))=true) (e3:(!(q.d == 3))=true) (hz:Ae.slR c1=true) (hg:openDG q.now m c1 (c,([]:List UInt64))=false) (sk:SL) :
  RunG Try.prog csT 11 (VO k q) ⟨t,c,([]:List UInt64),sk,(o1::o2),false,openN q.now m c1 t,(openDN q.now m c1 (c,([]:List UInt64))).1,(openDN q.now m c1 (c,([]:List UInt64))).2,sk⟩:=by
 have hso:decide (0 < ((o1::o2).length:Int))=true:=by simp <;> omega
 have hsz:(!(((o1::o2).length:Int) == 0))=true:=by simp <;> omega
 obtain ⟨hv,hgg,_⟩:=open_eq hR q.now m c1
 rw [openDV_op] at hv
 have p1:=oOp_ok (k:=k) (x:=.ptr 6 0) (y:=.ptr 7 0) (zo:=(slS 8 (o1::o2))) (sl:=slS (8+e1 ([]:List UInt64)+e1 (o1::o2)) sk) (slm:=(slQ 8 (qL ([]:List UInt64)))) (ex:=(mkX ([]:List UInt64)++soX 8 (o1::o2))) (bb:=bbX none) (t:=t) (c:=c) (st:=q.C) (xb:=[.u64 m,.str c1]) (b:=672) (now:=q.now) (n:=m) (z:=c1) rfl hR.w.ok
 rw [hv] at p1
 have em:openDN q.now m c1 (c,([]:List UInt64))=(c,([]:List UInt64)):=by unfold openDN; rw [hg]; rfl
 have et:openN q.now m c1 t=t:=by unfold openN; rw [hgg,hg]; rfl
 rw [et] at p1
 have p2:=oOd_no (b:=776) (j:=8) (k:=k) (x:=.ptr 6 0) (y:=.ptr 7 0) (zo:=(slS 8 (o1::o2))) (sl:=slS (8+e1 ([]:List UInt64)+e1 (o1::o2)) sk) (so:=(o1::o2)) (ob:=none) (t:=t) (c:=c) (L:=([]:List UInt64)) (st:=q.C) (xb:=[.u64 m,.str c1]) (now:=q.now) (n:=m) (z:=c1) rfl rfl hlen hg
 rw [openDV_op] at p2
 rw [em]
 rw [et]
 have r:=ansR_of csT_ps (v01e0 (k:=k) (x:=.ptr 6 0) (y:=.ptr 7 0) (sl:=(slS (8+e1 ([]:List UInt64)+e1 (o1::o2)) sk)) (t:=t) (c:=c) (d:=q.d) (wh:=q.wh) (n:=q.n) (z:=opE q m c1 c ([]:List UInt64)) (a:=q.a) (s:=q.s) (r:=opR q m c1 c ([]:List UInt64)) (now:=q.now) (so:=(o1::o2)) (c1:=c1) (m:=m) (i:=i)) (allT_c (beq_self_eq_true _) (allT_c p2 (allT_c hz (allT_c p1 (allT_c hz (allT_c e3 (allT_c e4 (allT_c e2 (allT_c (rowO_ok hx) (allT_c (inO_ok hi) (allT_c hrm (allT_c (hsz:(!(((o1::o2).length:Int) == 0))=true) (allT_c (hso:decide (0 < ((o1::o2).length:Int))=true) (allT_c d6 (allT_c d5 (allT_c d4 (allT_c d0 (allT_c (atO_ok ha) rfl))))))))))))))))))
 rw [beq_self_eq_true] at r
 cases sk <;> exact runG_ofR (nn:=mask 11) (F:=200) (fr:=16) gl [776] r rfl rfl rfl rfl
theorem ro01e1 {k:Bool}{q:Stp}{t:Tn}{c:Dc}{o1:UInt64 × List UInt8}{o2:SL}{m:UInt64}{c1:List UInt8}{i:Nat}(hR:TRel t c ([]:List UInt64)) (ha:AtK q k) (d0:(!(q.d == 0))=true) (d4:(!(q.d == 4))=true) (d5:(!(q.d == 5))=true) (hlen:lenOk (c,([]:List UInt64))=true) (d6:decide (q.d < 6)=true) (hi:i < (o1::o2).length) (hrm:rmO q.wh (o1::o2).length i=true) (hx:(o1::o2)[i]? = some (m,c1)) (e2:(q.d == 2)=true) (e4:(!decide (0 < (c1.length:Int)))=true) (e3:(!(q.d == 3))=true) (hz:Ae.slR c1=true) (hg:openDG q.now m c1 (c,([]:List UInt64))=true) (sk:SL) :
  RunG Try.prog csT 11 (VO k q) ⟨t,c,([]:List UInt64),sk,(o1::o2),true,openN q.now m c1 t,(openDN q.now m c1 (c,([]:List UInt64))).1,(openDN q.now m c1 (c,([]:List UInt64))).2,sk⟩:=by
 have hso:decide (0 < ((o1::o2).length:Int))=true:=by simp <;> omega
 have hsz:(!(((o1::o2).length:Int) == 0))=true:=by simp <;> omega
 obtain ⟨hv,hgg,_⟩:=open_eq hR q.now m c1
 rw [openDV_op] at hv
 have p1:=oOp_ok (k:=k) (x:=.ptr 6 0) (y:=.ptr 7 0) (zo:=(slS 8 (o1::o2))) (sl:=slS (8+e1 ([]:List UInt64)+e1 (o1::o2)) sk) (slm:=(slQ 8 (qL ([]:List UInt64)))) (ex:=(mkX ([]:List UInt64)++soX 8 (o1::o2))) (bb:=bbX none) (t:=t) (c:=c) (st:=q.C) (xb:=[.u64 m,.str c1]) (b:=672) (now:=q.now) (n:=m) (z:=c1) rfl hR.w.ok
 rw [hv] at p1
 have em:openDN q.now m c1 (c,([]:List UInt64))=(sureD c,([]:List UInt64)++[m]):=by unfold openDN; rw [hg]; rfl
 have p2:=oOd_yes (b:=776) (k:=k) (x:=.ptr 6 0) (y:=.ptr 7 0) (zo:=(slS 8 (o1::o2))) (sl:=slS (8+e1 ([]:List UInt64)+e1 (o1::o2)) sk) (so:=(o1::o2)) (ob:=none) (t:=openN q.now m c1 t) (c:=c) (L:=([]:List UInt64)) (st:=q.C) (xb:=[.u64 m,.str c1]) (now:=q.now) (n:=m) (z:=c1) (by decide) hlen hg
 rw [openDV_op] at p2
 rw [em]
 have r:=ansR_of csT_ps (v01e1 (k:=k) (x:=.ptr 6 0) (y:=.ptr 7 0) (sl:=(slS (8+e1 ([]:List UInt64)+e1 (o1::o2)) sk)) (t:=t) (c:=c) (d:=q.d) (wh:=q.wh) (n:=q.n) (z:=opE q m c1 c ([]:List UInt64)) (a:=q.a) (s:=q.s) (r:=opR q m c1 c ([]:List UInt64)) (now:=q.now) (so:=(o1::o2)) (c1:=c1) (m:=m) (i:=i) (t2:=openN q.now m c1 t) (c2:=sureD c) (q:=1) (mk2:=(([]:List UInt64)++[m]).map .u64)) (allT_c (beq_self_eq_true _) (allT_c p2 (allT_c hz (allT_c p1 (allT_c hz (allT_c e3 (allT_c e4 (allT_c e2 (allT_c (rowO_ok hx) (allT_c (inO_ok hi) (allT_c hrm (allT_c (hsz:(!(((o1::o2).length:Int) == 0))=true) (allT_c (hso:decide (0 < ((o1::o2).length:Int))=true) (allT_c d6 (allT_c d5 (allT_c d4 (allT_c d0 (allT_c (atO_ok ha) rfl))))))))))))))))))
 rw [beq_self_eq_true] at r
 cases sk <;> exact runG_ofR (nn:=mask 11) (F:=200) (fr:=16) gl [776] r rfl rfl rfl rfl
theorem ro01t0 {k:Bool}{q:Stp}{t:Tn}{c:Dc}{o1:UInt64 × List UInt8}{o2:SL}{m:UInt64}{c1:List UInt8}{i:Nat}{j:Nat}(hR:TRel t c ([]:List UInt64)) (ha:AtK q k) (d0:(!(q.d == 0))=true) (d4:(!(q.d == 4))=true) (d5:(!(q.d == 5))=true) (hlen:lenOk (c,([]:List UInt64))=true) (d6:decide (q.d < 6)=true) (hi:i < (o1::o2).length) (hrm:rmO q.wh (o1::o2).length i=true) (hx:(o1::o2)[i]? = some (m,c1)) (e2:(q.d == 2)=true) (e3:(!(q.d == 3))=true) (hj:j < c1.length) (hrj:rmO q.n c1.length j=true) (hz:Ae.slR (turnL c1 j)=true) (hg:openDG q.now m (turnL c1 j) (c,([]:List UInt64))=false) (sk:SL) :
  RunG Try.prog csT 11 (VO k q) ⟨t,c,([]:List UInt64),sk,(o1::o2),false,openN q.now m (turnL c1 j) t,(openDN q.now m (turnL c1 j) (c,([]:List UInt64))).1,(openDN q.now m (turnL c1 j) (c,([]:List UInt64))).2,sk⟩:=by
 have hso:decide (0 < ((o1::o2).length:Int))=true:=by simp <;> omega
 have hsz:(!(((o1::o2).length:Int) == 0))=true:=by simp <;> omega
 have hc0:decide (0 < (c1.length:Int))=true:=decide_eq_true (by omega)
 have hcz:(!((c1.length:Int) == 0))=true:=by
  have:¬ ((c1.length:Int)=0):=by omega
  simpa using this
 have hbl:Nat.ble ((0+((Int.toNat (j:Int)) * 1))+[AVal.u8 (c1.getD j 0+1)].length) (c1.map AVal.u8).length=true:=Nat.ble_eq_true_of_le (by
  rw [Int.toNat_natCast,List.length_map]
  show 0+j * 1+1≤c1.length
  omega)
 have htc:=turC_eq hj
 have hst:strAt (turC c1 j (c1.getD j 0)) 0 c1.length (turnL c1 j)=true:=by
  rw [htc]
  have hl:c1.length=(turnL c1 j).length:=by unfold turnL; simp
  rw [hl]
  exact strAt_map' _
 obtain ⟨hv,hgg,_⟩:=open_eq hR q.now m (turnL c1 j)
 rw [openDV_op] at hv
 have p1:=oOp_ok (k:=k) (x:=.ptr 6 0) (y:=.ptr 7 0) (zo:=(slS 8 (o1::o2))) (sl:=slS (8+e1 ([]:List UInt64)+e1 (o1::o2)) sk) (slm:=(slQ 8 (qL ([]:List UInt64)))) (ex:=(mkX ([]:List UInt64)++soX 8 (o1::o2))) (bb:=bbX (some (turC c1 j (c1.getD j 0)))) (t:=t) (c:=c) (st:=q.C) (xb:=[.u64 m,.str (turnL c1 j)]) (b:=832) (now:=q.now) (n:=m) (z:=(turnL c1 j)) rfl hR.w.ok
 rw [hv] at p1
 have em:openDN q.now m (turnL c1 j) (c,([]:List UInt64))=(c,([]:List UInt64)):=by unfold openDN; rw [hg]; rfl
 have et:openN q.now m (turnL c1 j) t=t:=by unfold openN; rw [hgg,hg]; rfl
 rw [et] at p1
 have p2:=oOd_no (b:=936) (j:=8) (k:=k) (x:=.ptr 6 0) (y:=.ptr 7 0) (zo:=(slS 8 (o1::o2))) (sl:=slS (8+e1 ([]:List UInt64)+e1 (o1::o2)) sk) (so:=(o1::o2)) (ob:=(some (turC c1 j (c1.getD j 0)))) (t:=t) (c:=c) (L:=([]:List UInt64)) (st:=q.C) (xb:=[.u64 m,.str (turnL c1 j)]) (now:=q.now) (n:=m) (z:=(turnL c1 j)) rfl rfl hlen hg
 rw [openDV_op] at p2
 rw [em]
 rw [et]
 have r:=ansR_of csT_ps (v01t0 (k:=k) (x:=.ptr 6 0) (y:=.ptr 7 0) (sl:=(slS (8+e1 ([]:List UInt64)+e1 (o1::o2)) sk)) (t:=t) (c:=c) (d:=q.d) (wh:=q.wh) (n:=q.n) (z:=opE q m (turnL c1 j) c ([]:List UInt64)) (a:=q.a) (s:=q.s) (r:=opR q m (turnL c1 j) c ([]:List UInt64)) (now:=q.now) (so:=(o1::o2)) (c1:=c1) (m:=m) (i:=i) (g:=c1.getD j 0) (c3:=turnL c1 j) (j:=j)) (allT_c (beq_self_eq_true _) (allT_c p2 (allT_c hz (allT_c p1 (allT_c hz (allT_c e3 (allT_c hst (allT_c (hbl:Nat.ble ((0+((Int.toNat (j:Int)) * 1))+[AVal.u8 (c1.getD j 0+1)].length) (c1.map AVal.u8).length=true) (allT_c (inO_ok hj) (allT_c (isAt_u8' hj) (allT_c (inO_ok hj) (allT_c hrj (allT_c (hcz:(!((c1.length:Int) == 0))=true) (allT_c (hc0:decide (0 < (c1.length:Int))=true) (allT_c e2 (allT_c (rowO_ok hx) (allT_c (inO_ok hi) (allT_c hrm (allT_c (hsz:(!(((o1::o2).length:Int) == 0))=true) (allT_c (hso:decide (0 < ((o1::o2).length:Int))=true) (allT_c d6 (allT_c d5 (allT_c d4 (allT_c d0 (allT_c (atO_ok ha) rfl)))))))))))))))))))))))))
 rw [beq_self_eq_true] at r
 cases sk <;> exact runG_ofR (nn:=mask 11) (F:=200) (fr:=16) gl [936] r rfl rfl rfl rfl
theorem ro01t1 {k:Bool}{q:Stp}{t:Tn}{c:Dc}{o1:UInt64 × List UInt8}{o2:SL}{m:UInt64}{c1:List UInt8}{i:Nat}{j:Nat}(hR:TRel t c ([]:List UInt64)) (ha:AtK q k) (d0:(!(q.d == 0))=true) (d4:(!(q.d == 4))=true) (d5:(!(q.d == 5))=true) (hlen:lenOk (c,([]:List UInt64))=true) (d6:decide (q.d < 6)=true) (hi:i < (o1::o2).length) (hrm:rmO q.wh (o1::o2).length i=true) (hx:(o1::o2)[i]? = some (m,c1)) (e2:(q.d == 2)=true) (e3:(!(q.d == 3))=true) (hj:j < c1.length) (hrj:rmO q.n c1.length j=true) (hz:Ae.slR (turnL c1 j)=true) (hg:openDG q.now m (turnL c1 j) (c,([]:List UInt64))=true) (sk:SL) :
  RunG Try.prog csT 11 (VO k q) ⟨t,c,([]:List UInt64),sk,(o1::o2),true,openN q.now m (turnL c1 j) t,(openDN q.now m (turnL c1 j) (c,([]:List UInt64))).1,(openDN q.now m (turnL c1 j) (c,([]:List UInt64))).2,sk⟩:=by
 have hso:decide (0 < ((o1::o2).length:Int))=true:=by simp <;> omega
 have hsz:(!(((o1::o2).length:Int) == 0))=true:=by simp <;> omega
 have hc0:decide (0 < (c1.length:Int))=true:=decide_eq_true (by omega)
 have hcz:(!((c1.length:Int) == 0))=true:=by
  have:¬ ((c1.length:Int)=0):=by omega
  simpa using this
 have hbl:Nat.ble ((0+((Int.toNat (j:Int)) * 1))+[AVal.u8 (c1.getD j 0+1)].length) (c1.map AVal.u8).length=true:=Nat.ble_eq_true_of_le (by
  rw [Int.toNat_natCast,List.length_map]
  show 0+j * 1+1≤c1.length
  omega)
 have htc:=turC_eq hj
 have hst:strAt (turC c1 j (c1.getD j 0)) 0 c1.length (turnL c1 j)=true:=by
  rw [htc]
  have hl:c1.length=(turnL c1 j).length:=by unfold turnL; simp
  rw [hl]
  exact strAt_map' _
 obtain ⟨hv,hgg,_⟩:=open_eq hR q.now m (turnL c1 j)
 rw [openDV_op] at hv
 have p1:=oOp_ok (k:=k) (x:=.ptr 6 0) (y:=.ptr 7 0) (zo:=(slS 8 (o1::o2))) (sl:=slS (8+e1 ([]:List UInt64)+e1 (o1::o2)) sk) (slm:=(slQ 8 (qL ([]:List UInt64)))) (ex:=(mkX ([]:List UInt64)++soX 8 (o1::o2))) (bb:=bbX (some (turC c1 j (c1.getD j 0)))) (t:=t) (c:=c) (st:=q.C) (xb:=[.u64 m,.str (turnL c1 j)]) (b:=832) (now:=q.now) (n:=m) (z:=(turnL c1 j)) rfl hR.w.ok
 rw [hv] at p1
 have em:openDN q.now m (turnL c1 j) (c,([]:List UInt64))=(sureD c,([]:List UInt64)++[m]):=by unfold openDN; rw [hg]; rfl
 have p2:=oOd_yes (b:=936) (k:=k) (x:=.ptr 6 0) (y:=.ptr 7 0) (zo:=(slS 8 (o1::o2))) (sl:=slS (8+e1 ([]:List UInt64)+e1 (o1::o2)) sk) (so:=(o1::o2)) (ob:=(some (turC c1 j (c1.getD j 0)))) (t:=openN q.now m (turnL c1 j) t) (c:=c) (L:=([]:List UInt64)) (st:=q.C) (xb:=[.u64 m,.str (turnL c1 j)]) (now:=q.now) (n:=m) (z:=(turnL c1 j)) (by decide) hlen hg
 rw [openDV_op] at p2
 rw [em]
 have r:=ansR_of csT_ps (v01t1 (k:=k) (x:=.ptr 6 0) (y:=.ptr 7 0) (sl:=(slS (8+e1 ([]:List UInt64)+e1 (o1::o2)) sk)) (t:=t) (c:=c) (d:=q.d) (wh:=q.wh) (n:=q.n) (z:=opE q m (turnL c1 j) c ([]:List UInt64)) (a:=q.a) (s:=q.s) (r:=opR q m (turnL c1 j) c ([]:List UInt64)) (now:=q.now) (so:=(o1::o2)) (c1:=c1) (m:=m) (i:=i) (g:=c1.getD j 0) (c3:=turnL c1 j) (j:=j) (t2:=openN q.now m (turnL c1 j) t) (c2:=sureD c) (q:=1) (mk2:=(([]:List UInt64)++[m]).map .u64)) (allT_c (beq_self_eq_true _) (allT_c p2 (allT_c hz (allT_c p1 (allT_c hz (allT_c e3 (allT_c hst (allT_c (hbl:Nat.ble ((0+((Int.toNat (j:Int)) * 1))+[AVal.u8 (c1.getD j 0+1)].length) (c1.map AVal.u8).length=true) (allT_c (inO_ok hj) (allT_c (isAt_u8' hj) (allT_c (inO_ok hj) (allT_c hrj (allT_c (hcz:(!((c1.length:Int) == 0))=true) (allT_c (hc0:decide (0 < (c1.length:Int))=true) (allT_c e2 (allT_c (rowO_ok hx) (allT_c (inO_ok hi) (allT_c hrm (allT_c (hsz:(!(((o1::o2).length:Int) == 0))=true) (allT_c (hso:decide (0 < ((o1::o2).length:Int))=true) (allT_c d6 (allT_c d5 (allT_c d4 (allT_c d0 (allT_c (atO_ok ha) rfl)))))))))))))))))))))))))
 rw [beq_self_eq_true] at r
 cases sk <;> exact runG_ofR (nn:=mask 11) (F:=200) (fr:=16) gl [936] r rfl rfl rfl rfl
theorem ro10rp0 {k:Bool}{q:Stp}{t:Tn}{c:Dc}{l1:UInt64}{l2:List UInt64}(hR:TRel t c (l1::l2)) (ha:AtK q k) (d0:(!(q.d == 0))=true) (d4:(!(q.d == 4))=true) (d5:(!(q.d == 5))=true) (hlen:lenOk (c,(l1::l2))=true) (d6:decide (q.d < 6)=true) (hz:Ae.slR q.s=true) (hg:openDG q.now (UInt64.ofInt q.n) q.s (c,(l1::l2))=false) (sk:SL) :
  RunG Try.prog csT 11 (VO k q) ⟨t,c,(l1::l2),sk,([]:SL),false,openN q.now (UInt64.ofInt q.n) q.s t,(openDN q.now (UInt64.ofInt q.n) q.s (c,(l1::l2))).1,(openDN q.now (UInt64.ofInt q.n) q.s (c,(l1::l2))).2,sk⟩:=by
 obtain ⟨hv,hgg,_⟩:=open_eq hR q.now (UInt64.ofInt q.n) q.s
 rw [openDV_op] at hv
 have p1:=oOp_ok (k:=k) (x:=.ptr 6 0) (y:=.ptr 7 0) (zo:=.nilSlice) (sl:=slS (8+e1 (l1::l2)+e1 ([]:SL)) sk) (slm:=(slQ 8 (qL (l1::l2)))) (ex:=(mkX (l1::l2)++soX 9 ([]:SL))) (bb:=bbX none) (t:=t) (c:=c) (st:=q.C) (xb:=[.u64 (UInt64.ofInt q.n),.str q.s]) (b:=496) (now:=q.now) (n:=(UInt64.ofInt q.n)) (z:=q.s) rfl hR.w.ok
 rw [hv] at p1
 have em:openDN q.now (UInt64.ofInt q.n) q.s (c,(l1::l2))=(c,(l1::l2)):=by unfold openDN; rw [hg]; rfl
 have et:openN q.now (UInt64.ofInt q.n) q.s t=t:=by unfold openN; rw [hgg,hg]; rfl
 rw [et] at p1
 have p2:=oOd_no (b:=600) (j:=9) (k:=k) (x:=.ptr 6 0) (y:=.ptr 7 0) (zo:=.nilSlice) (sl:=slS (8+e1 (l1::l2)+e1 ([]:SL)) sk) (so:=([]:SL)) (ob:=none) (t:=t) (c:=c) (L:=(l1::l2)) (st:=q.C) (xb:=[.u64 (UInt64.ofInt q.n),.str q.s]) (now:=q.now) (n:=(UInt64.ofInt q.n)) (z:=q.s) rfl rfl hlen hg
 rw [openDV_op] at p2
 rw [em]
 rw [et]
 have r:=ansR_of csT_ps (v10rp0 (k:=k) (x:=.ptr 6 0) (y:=.ptr 7 0) (sl:=(slS (8+e1 (l1::l2)+e1 ([]:SL)) sk)) (t:=t) (c:=c) (d:=q.d) (wh:=q.wh) (n:=q.n) (z:=opE q (UInt64.ofInt q.n) q.s c (l1::l2)) (a:=q.a) (s:=q.s) (r:=opR q (UInt64.ofInt q.n) q.s c (l1::l2)) (now:=q.now) (L:=(l1::l2))) (allT_c (beq_self_eq_true _) (allT_c p2 (allT_c hz (allT_c p1 (allT_c hz (allT_c rfl (allT_c d6 (allT_c d5 (allT_c d4 (allT_c d0 (allT_c (atO_ok ha) rfl)))))))))))
 rw [beq_self_eq_true] at r
 cases sk <;> exact runG_ofR (nn:=mask 11) (F:=200) (fr:=16) gl [600] r rfl rfl rfl rfl
theorem ro10rp1 {k:Bool}{q:Stp}{t:Tn}{c:Dc}{l1:UInt64}{l2:List UInt64}(hR:TRel t c (l1::l2)) (ha:AtK q k) (d0:(!(q.d == 0))=true) (d4:(!(q.d == 4))=true) (d5:(!(q.d == 5))=true) (hlen:lenOk (c,(l1::l2))=true) (d6:decide (q.d < 6)=true) (hz:Ae.slR q.s=true) (hg:openDG q.now (UInt64.ofInt q.n) q.s (c,(l1::l2))=true) (sk:SL) :
  RunG Try.prog csT 11 (VO k q) ⟨t,c,(l1::l2),sk,([]:SL),true,openN q.now (UInt64.ofInt q.n) q.s t,(openDN q.now (UInt64.ofInt q.n) q.s (c,(l1::l2))).1,(openDN q.now (UInt64.ofInt q.n) q.s (c,(l1::l2))).2,sk⟩:=by
 obtain ⟨hv,hgg,_⟩:=open_eq hR q.now (UInt64.ofInt q.n) q.s
 rw [openDV_op] at hv
 have p1:=oOp_ok (k:=k) (x:=.ptr 6 0) (y:=.ptr 7 0) (zo:=.nilSlice) (sl:=slS (8+e1 (l1::l2)+e1 ([]:SL)) sk) (slm:=(slQ 8 (qL (l1::l2)))) (ex:=(mkX (l1::l2)++soX 9 ([]:SL))) (bb:=bbX none) (t:=t) (c:=c) (st:=q.C) (xb:=[.u64 (UInt64.ofInt q.n),.str q.s]) (b:=496) (now:=q.now) (n:=(UInt64.ofInt q.n)) (z:=q.s) rfl hR.w.ok
 rw [hv] at p1
 have em:openDN q.now (UInt64.ofInt q.n) q.s (c,(l1::l2))=(sureD c,(l1::l2)++[(UInt64.ofInt q.n)]):=by unfold openDN; rw [hg]; rfl
 have p2:=oOd_yes (b:=600) (k:=k) (x:=.ptr 6 0) (y:=.ptr 7 0) (zo:=.nilSlice) (sl:=slS (8+e1 (l1::l2)+e1 ([]:SL)) sk) (so:=([]:SL)) (ob:=none) (t:=openN q.now (UInt64.ofInt q.n) q.s t) (c:=c) (L:=(l1::l2)) (st:=q.C) (xb:=[.u64 (UInt64.ofInt q.n),.str q.s]) (now:=q.now) (n:=(UInt64.ofInt q.n)) (z:=q.s) (by decide) hlen hg
 rw [openDV_op] at p2
 rw [em]
 have r:=ansR_of csT_ps (v10rp1 (k:=k) (x:=.ptr 6 0) (y:=.ptr 7 0) (sl:=(slS (8+e1 (l1::l2)+e1 ([]:SL)) sk)) (t:=t) (c:=c) (d:=q.d) (wh:=q.wh) (n:=q.n) (z:=opE q (UInt64.ofInt q.n) q.s c (l1::l2)) (a:=q.a) (s:=q.s) (r:=opR q (UInt64.ofInt q.n) q.s c (l1::l2)) (now:=q.now) (L:=(l1::l2)) (t2:=openN q.now (UInt64.ofInt q.n) q.s t) (c2:=sureD c) (q:=(l1::l2).length+1) (mk2:=((l1::l2)++[(UInt64.ofInt q.n)]).map .u64)) (allT_c (beq_self_eq_true _) (allT_c p2 (allT_c hz (allT_c p1 (allT_c hz (allT_c rfl (allT_c d6 (allT_c d5 (allT_c d4 (allT_c d0 (allT_c (atO_ok ha) rfl)))))))))))
 rw [beq_self_eq_true] at r
 have hk:(l1::l2).length+1=((l1::l2)++[(UInt64.ofInt q.n)]).length:=by simp
 rw [hk] at r
 cases sk <;> exact runG_ofR (nn:=mask 11) (F:=200) (fr:=16) gl [600] r rfl rfl rfl rfl
theorem ro10rq0 {k:Bool}{q:Stp}{t:Tn}{c:Dc}{l1:UInt64}{l2:List UInt64}(hR:TRel t c (l1::l2)) (ha:AtK q k) (d0:(!(q.d == 0))=true) (d4:(!(q.d == 4))=true) (d5:(!(q.d == 5))=true) (hlen:lenOk (c,(l1::l2))=true) (d6:(!decide (q.d < 6))=true) (hz:Ae.slR q.s=true) (hg:openDG q.now (UInt64.ofInt q.n) q.s (c,(l1::l2))=false) (sk:SL) :
  RunG Try.prog csT 11 (VO k q) ⟨t,c,(l1::l2),sk,([]:SL),false,openN q.now (UInt64.ofInt q.n) q.s t,(openDN q.now (UInt64.ofInt q.n) q.s (c,(l1::l2))).1,(openDN q.now (UInt64.ofInt q.n) q.s (c,(l1::l2))).2,sk⟩:=by
 obtain ⟨hv,hgg,_⟩:=open_eq hR q.now (UInt64.ofInt q.n) q.s
 rw [openDV_op] at hv
 have p1:=oOp_ok (k:=k) (x:=.ptr 6 0) (y:=.ptr 7 0) (zo:=.nilSlice) (sl:=slS (8+e1 (l1::l2)+e1 ([]:SL)) sk) (slm:=(slQ 8 (qL (l1::l2)))) (ex:=(mkX (l1::l2)++soX 9 ([]:SL))) (bb:=bbX none) (t:=t) (c:=c) (st:=q.C) (xb:=[.u64 (UInt64.ofInt q.n),.str q.s]) (b:=496) (now:=q.now) (n:=(UInt64.ofInt q.n)) (z:=q.s) rfl hR.w.ok
 rw [hv] at p1
 have em:openDN q.now (UInt64.ofInt q.n) q.s (c,(l1::l2))=(c,(l1::l2)):=by unfold openDN; rw [hg]; rfl
 have et:openN q.now (UInt64.ofInt q.n) q.s t=t:=by unfold openN; rw [hgg,hg]; rfl
 rw [et] at p1
 have p2:=oOd_no (b:=600) (j:=9) (k:=k) (x:=.ptr 6 0) (y:=.ptr 7 0) (zo:=.nilSlice) (sl:=slS (8+e1 (l1::l2)+e1 ([]:SL)) sk) (so:=([]:SL)) (ob:=none) (t:=t) (c:=c) (L:=(l1::l2)) (st:=q.C) (xb:=[.u64 (UInt64.ofInt q.n),.str q.s]) (now:=q.now) (n:=(UInt64.ofInt q.n)) (z:=q.s) rfl rfl hlen hg
 rw [openDV_op] at p2
 rw [em]
 rw [et]
 have r:=ansR_of csT_ps (v10rq0 (k:=k) (x:=.ptr 6 0) (y:=.ptr 7 0) (sl:=(slS (8+e1 (l1::l2)+e1 ([]:SL)) sk)) (t:=t) (c:=c) (d:=q.d) (wh:=q.wh) (n:=q.n) (z:=opE q (UInt64.ofInt q.n) q.s c (l1::l2)) (a:=q.a) (s:=q.s) (r:=opR q (UInt64.ofInt q.n) q.s c (l1::l2)) (now:=q.now) (L:=(l1::l2))) (allT_c (beq_self_eq_true _) (allT_c p2 (allT_c hz (allT_c p1 (allT_c hz (allT_c d6 (allT_c d5 (allT_c d4 (allT_c d0 (allT_c (atO_ok ha) rfl))))))))))
 rw [beq_self_eq_true] at r
 cases sk <;> exact runG_ofR (nn:=mask 11) (F:=200) (fr:=16) gl [600] r rfl rfl rfl rfl
theorem ro10rq1 {k:Bool}{q:Stp}{t:Tn}{c:Dc}{l1:UInt64}{l2:List UInt64}(hR:TRel t c (l1::l2)) (ha:AtK q k) (d0:(!(q.d == 0))=true) (d4:(!(q.d == 4))=true) (d5:(!(q.d == 5))=true) (hlen:lenOk (c,(l1::l2))=true) (d6:(!decide (q.d < 6))=true) (hz:Ae.slR q.s=true) (hg:openDG q.now (UInt64.ofInt q.n) q.s (c,(l1::l2))=true) (sk:SL) :
  RunG Try.prog csT 11 (VO k q) ⟨t,c,(l1::l2),sk,([]:SL),true,openN q.now (UInt64.ofInt q.n) q.s t,(openDN q.now (UInt64.ofInt q.n) q.s (c,(l1::l2))).1,(openDN q.now (UInt64.ofInt q.n) q.s (c,(l1::l2))).2,sk⟩:=by
 obtain ⟨hv,hgg,_⟩:=open_eq hR q.now (UInt64.ofInt q.n) q.s
 rw [openDV_op] at hv
 have p1:=oOp_ok (k:=k) (x:=.ptr 6 0) (y:=.ptr 7 0) (zo:=.nilSlice) (sl:=slS (8+e1 (l1::l2)+e1 ([]:SL)) sk) (slm:=(slQ 8 (qL (l1::l2)))) (ex:=(mkX (l1::l2)++soX 9 ([]:SL))) (bb:=bbX none) (t:=t) (c:=c) (st:=q.C) (xb:=[.u64 (UInt64.ofInt q.n),.str q.s]) (b:=496) (now:=q.now) (n:=(UInt64.ofInt q.n)) (z:=q.s) rfl hR.w.ok
 rw [hv] at p1
 have em:openDN q.now (UInt64.ofInt q.n) q.s (c,(l1::l2))=(sureD c,(l1::l2)++[(UInt64.ofInt q.n)]):=by unfold openDN; rw [hg]; rfl
 have p2:=oOd_yes (b:=600) (k:=k) (x:=.ptr 6 0) (y:=.ptr 7 0) (zo:=.nilSlice) (sl:=slS (8+e1 (l1::l2)+e1 ([]:SL)) sk) (so:=([]:SL)) (ob:=none) (t:=openN q.now (UInt64.ofInt q.n) q.s t) (c:=c) (L:=(l1::l2)) (st:=q.C) (xb:=[.u64 (UInt64.ofInt q.n),.str q.s]) (now:=q.now) (n:=(UInt64.ofInt q.n)) (z:=q.s) (by decide) hlen hg
 rw [openDV_op] at p2
 rw [em]
 have r:=ansR_of csT_ps (v10rq1 (k:=k) (x:=.ptr 6 0) (y:=.ptr 7 0) (sl:=(slS (8+e1 (l1::l2)+e1 ([]:SL)) sk)) (t:=t) (c:=c) (d:=q.d) (wh:=q.wh) (n:=q.n) (z:=opE q (UInt64.ofInt q.n) q.s c (l1::l2)) (a:=q.a) (s:=q.s) (r:=opR q (UInt64.ofInt q.n) q.s c (l1::l2)) (now:=q.now) (L:=(l1::l2)) (t2:=openN q.now (UInt64.ofInt q.n) q.s t) (c2:=sureD c) (q:=(l1::l2).length+1) (mk2:=((l1::l2)++[(UInt64.ofInt q.n)]).map .u64)) (allT_c (beq_self_eq_true _) (allT_c p2 (allT_c hz (allT_c p1 (allT_c hz (allT_c d6 (allT_c d5 (allT_c d4 (allT_c d0 (allT_c (atO_ok ha) rfl))))))))))
 rw [beq_self_eq_true] at r
 have hk:(l1::l2).length+1=((l1::l2)++[(UInt64.ofInt q.n)]).length:=by simp
 rw [hk] at r
 cases sk <;> exact runG_ofR (nn:=mask 11) (F:=200) (fr:=16) gl [600] r rfl rfl rfl rfl
theorem ro11rq0 {k:Bool}{q:Stp}{t:Tn}{c:Dc}{l1:UInt64}{l2:List UInt64}{o1:UInt64 × List UInt8}{o2:SL}(hR:TRel t c (l1::l2)) (ha:AtK q k) (d0:(!(q.d == 0))=true) (d4:(!(q.d == 4))=true) (d5:(!(q.d == 5))=true) (hlen:lenOk (c,(l1::l2))=true) (d6:(!decide (q.d < 6))=true) (hz:Ae.slR q.s=true) (hg:openDG q.now (UInt64.ofInt q.n) q.s (c,(l1::l2))=false) (sk:SL) :
  RunG Try.prog csT 11 (VO k q) ⟨t,c,(l1::l2),sk,(o1::o2),false,openN q.now (UInt64.ofInt q.n) q.s t,(openDN q.now (UInt64.ofInt q.n) q.s (c,(l1::l2))).1,(openDN q.now (UInt64.ofInt q.n) q.s (c,(l1::l2))).2,sk⟩:=by
 obtain ⟨hv,hgg,_⟩:=open_eq hR q.now (UInt64.ofInt q.n) q.s
 rw [openDV_op] at hv
 have p1:=oOp_ok (k:=k) (x:=.ptr 6 0) (y:=.ptr 7 0) (zo:=(slS 9 (o1::o2))) (sl:=slS (8+e1 (l1::l2)+e1 (o1::o2)) sk) (slm:=(slQ 8 (qL (l1::l2)))) (ex:=(mkX (l1::l2)++soX 9 (o1::o2))) (bb:=bbX none) (t:=t) (c:=c) (st:=q.C) (xb:=[.u64 (UInt64.ofInt q.n),.str q.s]) (b:=496) (now:=q.now) (n:=(UInt64.ofInt q.n)) (z:=q.s) rfl hR.w.ok
 rw [hv] at p1
 have em:openDN q.now (UInt64.ofInt q.n) q.s (c,(l1::l2))=(c,(l1::l2)):=by unfold openDN; rw [hg]; rfl
 have et:openN q.now (UInt64.ofInt q.n) q.s t=t:=by unfold openN; rw [hgg,hg]; rfl
 rw [et] at p1
 have p2:=oOd_no (b:=600) (j:=9) (k:=k) (x:=.ptr 6 0) (y:=.ptr 7 0) (zo:=(slS 9 (o1::o2))) (sl:=slS (8+e1 (l1::l2)+e1 (o1::o2)) sk) (so:=(o1::o2)) (ob:=none) (t:=t) (c:=c) (L:=(l1::l2)) (st:=q.C) (xb:=[.u64 (UInt64.ofInt q.n),.str q.s]) (now:=q.now) (n:=(UInt64.ofInt q.n)) (z:=q.s) rfl rfl hlen hg
 rw [openDV_op] at p2
 rw [em]
 rw [et]
 have r:=ansR_of csT_ps (v11rq0 (k:=k) (x:=.ptr 6 0) (y:=.ptr 7 0) (sl:=(slS (8+e1 (l1::l2)+e1 (o1::o2)) sk)) (t:=t) (c:=c) (d:=q.d) (wh:=q.wh) (n:=q.n) (z:=opE q (UInt64.ofInt q.n) q.s c (l1::l2)) (a:=q.a) (s:=q.s) (r:=opR q (UInt64.ofInt q.n) q.s c (l1::l2)) (now:=q.now) (so:=(o1::o2)) (L:=(l1::l2))) (allT_c (beq_self_eq_true _) (allT_c p2 (allT_c hz (allT_c p1 (allT_c hz (allT_c d6 (allT_c d5 (allT_c d4 (allT_c d0 (allT_c (atO_ok ha) rfl))))))))))
 rw [beq_self_eq_true] at r
 cases sk <;> exact runG_ofR (nn:=mask 11) (F:=200) (fr:=16) gl [600] r rfl rfl rfl rfl
theorem ro11rq1 {k:Bool}{q:Stp}{t:Tn}{c:Dc}{l1:UInt64}{l2:List UInt64}{o1:UInt64 × List UInt8}{o2:SL}(hR:TRel t c (l1::l2)) (ha:AtK q k) (d0:(!(q.d == 0))=true) (d4:(!(q.d == 4))=true) (d5:(!(q.d == 5))=true) (hlen:lenOk (c,(l1::l2))=true) (d6:(!decide (q.d < 6))=true) (hz:Ae.slR q.s=true) (hg:openDG q.now (UInt64.ofInt q.n) q.s (c,(l1::l2))=true) (sk:SL) :
  RunG Try.prog csT 11 (VO k q) ⟨t,c,(l1::l2),sk,(o1::o2),true,openN q.now (UInt64.ofInt q.n) q.s t,(openDN q.now (UInt64.ofInt q.n) q.s (c,(l1::l2))).1,(openDN q.now (UInt64.ofInt q.n) q.s (c,(l1::l2))).2,sk⟩:=by
 obtain ⟨hv,hgg,_⟩:=open_eq hR q.now (UInt64.ofInt q.n) q.s
 rw [openDV_op] at hv
 have p1:=oOp_ok (k:=k) (x:=.ptr 6 0) (y:=.ptr 7 0) (zo:=(slS 9 (o1::o2))) (sl:=slS (8+e1 (l1::l2)+e1 (o1::o2)) sk) (slm:=(slQ 8 (qL (l1::l2)))) (ex:=(mkX (l1::l2)++soX 9 (o1::o2))) (bb:=bbX none) (t:=t) (c:=c) (st:=q.C) (xb:=[.u64 (UInt64.ofInt q.n),.str q.s]) (b:=496) (now:=q.now) (n:=(UInt64.ofInt q.n)) (z:=q.s) rfl hR.w.ok
 rw [hv] at p1
 have em:openDN q.now (UInt64.ofInt q.n) q.s (c,(l1::l2))=(sureD c,(l1::l2)++[(UInt64.ofInt q.n)]):=by unfold openDN; rw [hg]; rfl
 have p2:=oOd_yes (b:=600) (k:=k) (x:=.ptr 6 0) (y:=.ptr 7 0) (zo:=(slS 9 (o1::o2))) (sl:=slS (8+e1 (l1::l2)+e1 (o1::o2)) sk) (so:=(o1::o2)) (ob:=none) (t:=openN q.now (UInt64.ofInt q.n) q.s t) (c:=c) (L:=(l1::l2)) (st:=q.C) (xb:=[.u64 (UInt64.ofInt q.n),.str q.s]) (now:=q.now) (n:=(UInt64.ofInt q.n)) (z:=q.s) (by decide) hlen hg
 rw [openDV_op] at p2
 rw [em]
 have r:=ansR_of csT_ps (v11rq1 (k:=k) (x:=.ptr 6 0) (y:=.ptr 7 0) (sl:=(slS (8+e1 (l1::l2)+e1 (o1::o2)) sk)) (t:=t) (c:=c) (d:=q.d) (wh:=q.wh) (n:=q.n) (z:=opE q (UInt64.ofInt q.n) q.s c (l1::l2)) (a:=q.a) (s:=q.s) (r:=opR q (UInt64.ofInt q.n) q.s c (l1::l2)) (now:=q.now) (so:=(o1::o2)) (L:=(l1::l2)) (t2:=openN q.now (UInt64.ofInt q.n) q.s t) (c2:=sureD c) (q:=(l1::l2).length+1) (mk2:=((l1::l2)++[(UInt64.ofInt q.n)]).map .u64)) (allT_c (beq_self_eq_true _) (allT_c p2 (allT_c hz (allT_c p1 (allT_c hz (allT_c d6 (allT_c d5 (allT_c d4 (allT_c d0 (allT_c (atO_ok ha) rfl))))))))))
 rw [beq_self_eq_true] at r
 have hk:(l1::l2).length+1=((l1::l2)++[(UInt64.ofInt q.n)]).length:=by simp
 rw [hk] at r
 cases sk <;> exact runG_ofR (nn:=mask 11) (F:=200) (fr:=16) gl [600] r rfl rfl rfl rfl
theorem ro1110 {k:Bool}{q:Stp}{t:Tn}{c:Dc}{l1:UInt64}{l2:List UInt64}{o1:UInt64 × List UInt8}{o2:SL}{m:UInt64}{c1:List UInt8}{i:Nat}(hR:TRel t c (l1::l2)) (ha:AtK q k) (d0:(!(q.d == 0))=true) (d4:(!(q.d == 4))=true) (d5:(!(q.d == 5))=true) (hlen:lenOk (c,(l1::l2))=true) (d6:decide (q.d < 6)=true) (hi:i < (o1::o2).length) (hrm:rmO q.wh (o1::o2).length i=true) (hx:(o1::o2)[i]? = some (m,c1)) (e2:(!(q.d == 2))=true) (e3:(!(q.d == 3))=true) (hz:Ae.slR c1=true) (hg:openDG q.now m c1 (c,(l1::l2))=false) (sk:SL) :
  RunG Try.prog csT 11 (VO k q) ⟨t,c,(l1::l2),sk,(o1::o2),false,openN q.now m c1 t,(openDN q.now m c1 (c,(l1::l2))).1,(openDN q.now m c1 (c,(l1::l2))).2,sk⟩:=by
 have hso:decide (0 < ((o1::o2).length:Int))=true:=by simp <;> omega
 have hsz:(!(((o1::o2).length:Int) == 0))=true:=by simp <;> omega
 obtain ⟨hv,hgg,_⟩:=open_eq hR q.now m c1
 rw [openDV_op] at hv
 have p1:=oOp_ok (k:=k) (x:=.ptr 6 0) (y:=.ptr 7 0) (zo:=(slS 9 (o1::o2))) (sl:=slS (8+e1 (l1::l2)+e1 (o1::o2)) sk) (slm:=(slQ 8 (qL (l1::l2)))) (ex:=(mkX (l1::l2)++soX 9 (o1::o2))) (bb:=bbX none) (t:=t) (c:=c) (st:=q.C) (xb:=[.u64 m,.str c1]) (b:=672) (now:=q.now) (n:=m) (z:=c1) rfl hR.w.ok
 rw [hv] at p1
 have em:openDN q.now m c1 (c,(l1::l2))=(c,(l1::l2)):=by unfold openDN; rw [hg]; rfl
 have et:openN q.now m c1 t=t:=by unfold openN; rw [hgg,hg]; rfl
 rw [et] at p1
 have p2:=oOd_no (b:=776) (j:=9) (k:=k) (x:=.ptr 6 0) (y:=.ptr 7 0) (zo:=(slS 9 (o1::o2))) (sl:=slS (8+e1 (l1::l2)+e1 (o1::o2)) sk) (so:=(o1::o2)) (ob:=none) (t:=t) (c:=c) (L:=(l1::l2)) (st:=q.C) (xb:=[.u64 m,.str c1]) (now:=q.now) (n:=m) (z:=c1) rfl rfl hlen hg
 rw [openDV_op] at p2
 rw [em]
 rw [et]
 have r:=ansR_of csT_ps (v1110 (k:=k) (x:=.ptr 6 0) (y:=.ptr 7 0) (sl:=(slS (8+e1 (l1::l2)+e1 (o1::o2)) sk)) (t:=t) (c:=c) (d:=q.d) (wh:=q.wh) (n:=q.n) (z:=opE q m c1 c (l1::l2)) (a:=q.a) (s:=q.s) (r:=opR q m c1 c (l1::l2)) (now:=q.now) (so:=(o1::o2)) (L:=(l1::l2)) (c1:=c1) (m:=m) (i:=i)) (allT_c (beq_self_eq_true _) (allT_c p2 (allT_c hz (allT_c p1 (allT_c hz (allT_c e3 (allT_c e2 (allT_c (rowO_ok hx) (allT_c (inO_ok hi) (allT_c hrm (allT_c (hsz:(!(((o1::o2).length:Int) == 0))=true) (allT_c (hso:decide (0 < ((o1::o2).length:Int))=true) (allT_c d6 (allT_c d5 (allT_c d4 (allT_c d0 (allT_c (atO_ok ha) rfl)))))))))))))))))
 rw [beq_self_eq_true] at r
 cases sk <;> exact runG_ofR (nn:=mask 11) (F:=200) (fr:=16) gl [776] r rfl rfl rfl rfl
theorem ro1111 {k:Bool}{q:Stp}{t:Tn}{c:Dc}{l1:UInt64}{l2:List UInt64}{o1:UInt64 × List UInt8}{o2:SL}{m:UInt64}{c1:List UInt8}{i:Nat}(hR:TRel t c (l1::l2)) (ha:AtK q k) (d0:(!(q.d == 0))=true) (d4:(!(q.d == 4))=true) (d5:(!(q.d == 5))=true) (hlen:lenOk (c,(l1::l2))=true) (d6:decide (q.d < 6)=true) (hi:i < (o1::o2).length) (hrm:rmO q.wh (o1::o2).length i=true) (hx:(o1::o2)[i]? = some (m,c1)) (e2:(!(q.d == 2))=true) (e3:(!(q.d == 3))=true) (hz:Ae.slR c1=true) (hg:openDG q.now m c1 (c,(l1::l2))=true) (sk:SL) :
  RunG Try.prog csT 11 (VO k q) ⟨t,c,(l1::l2),sk,(o1::o2),true,openN q.now m c1 t,(openDN q.now m c1 (c,(l1::l2))).1,(openDN q.now m c1 (c,(l1::l2))).2,sk⟩:=by
 have hso:decide (0 < ((o1::o2).length:Int))=true:=by simp <;> omega
 have hsz:(!(((o1::o2).length:Int) == 0))=true:=by simp <;> omega
 obtain ⟨hv,hgg,_⟩:=open_eq hR q.now m c1
 rw [openDV_op] at hv
 have p1:=oOp_ok (k:=k) (x:=.ptr 6 0) (y:=.ptr 7 0) (zo:=(slS 9 (o1::o2))) (sl:=slS (8+e1 (l1::l2)+e1 (o1::o2)) sk) (slm:=(slQ 8 (qL (l1::l2)))) (ex:=(mkX (l1::l2)++soX 9 (o1::o2))) (bb:=bbX none) (t:=t) (c:=c) (st:=q.C) (xb:=[.u64 m,.str c1]) (b:=672) (now:=q.now) (n:=m) (z:=c1) rfl hR.w.ok
 rw [hv] at p1
 have em:openDN q.now m c1 (c,(l1::l2))=(sureD c,(l1::l2)++[m]):=by unfold openDN; rw [hg]; rfl
 have p2:=oOd_yes (b:=776) (k:=k) (x:=.ptr 6 0) (y:=.ptr 7 0) (zo:=(slS 9 (o1::o2))) (sl:=slS (8+e1 (l1::l2)+e1 (o1::o2)) sk) (so:=(o1::o2)) (ob:=none) (t:=openN q.now m c1 t) (c:=c) (L:=(l1::l2)) (st:=q.C) (xb:=[.u64 m,.str c1]) (now:=q.now) (n:=m) (z:=c1) (by decide) hlen hg
 rw [openDV_op] at p2
 rw [em]
 have r:=ansR_of csT_ps (v1111 (k:=k) (x:=.ptr 6 0) (y:=.ptr 7 0) (sl:=(slS (8+e1 (l1::l2)+e1 (o1::o2)) sk)) (t:=t) (c:=c) (d:=q.d) (wh:=q.wh) (n:=q.n) (z:=opE q m c1 c (l1::l2)) (a:=q.a) (s:=q.s) (r:=opR q m c1 c (l1::l2)) (now:=q.now) (so:=(o1::o2)) (L:=(l1::l2)) (c1:=c1) (m:=m) (i:=i) (t2:=openN q.now m c1 t) (c2:=sureD c) (q:=(l1::l2).length+1) (mk2:=((l1::l2)++[m]).map .u64)) (allT_c (beq_self_eq_true _) (allT_c p2 (allT_c hz (allT_c p1 (allT_c hz (allT_c e3 (allT_c e2 (allT_c (rowO_ok hx) (allT_c (inO_ok hi) (allT_c hrm (allT_c (hsz:(!(((o1::o2).length:Int) == 0))=true) (allT_c (hso:decide (0 < ((o1::o2).length:Int))=true) (allT_c d6 (allT_c d5 (allT_c d4 (allT_c d0 (allT_c (atO_ok ha) rfl)))))))))))))))))
 rw [beq_self_eq_true] at r
 have hk:(l1::l2).length+1=((l1::l2)++[m]).length:=by simp
 rw [hk] at r
 cases sk <;> exact runG_ofR (nn:=mask 11) (F:=200) (fr:=16) gl [776] r rfl rfl rfl rfl
theorem ro1130 {k:Bool}{q:Stp}{t:Tn}{c:Dc}{l1:UInt64}{l2:List UInt64}{o1:UInt64 × List UInt8}{o2:SL}{m:UInt64}{c1:List UInt8}{i:Nat}(hR:TRel t c (l1::l2)) (ha:AtK q k) (d0:(!(q.d == 0))=true) (d4:(!(q.d == 4))=true) (d5:(!(q.d == 5))=true) (hlen:lenOk (c,(l1::l2))=true) (d6:decide (q.d < 6)=true) (hi:i < (o1::o2).length) (hrm:rmO q.wh (o1::o2).length i=true) (hx:(o1::o2)[i]? = some (m,c1)) (e2:(!(q.d == 2))=true) (e3:(q.d == 3)=true) (hz:Ae.slR c1=true) (hg:openDG q.now (UInt64.ofInt q.n) c1 (c,(l1::l2))=false) (sk:SL) :
  RunG Try.prog csT 11 (VO k q) ⟨t,c,(l1::l2),sk,(o1::o2),false,openN q.now (UInt64.ofInt q.n) c1 t,(openDN q.now (UInt64.ofInt q.n) c1 (c,(l1::l2))).1,(openDN q.now (UInt64.ofInt q.n) c1 (c,(l1::l2))).2,sk⟩:=by
 have hso:decide (0 < ((o1::o2).length:Int))=true:=by simp <;> omega
 have hsz:(!(((o1::o2).length:Int) == 0))=true:=by simp <;> omega
 obtain ⟨hv,hgg,_⟩:=open_eq hR q.now (UInt64.ofInt q.n) c1
 rw [openDV_op] at hv
 have p1:=oOp_ok (k:=k) (x:=.ptr 6 0) (y:=.ptr 7 0) (zo:=(slS 9 (o1::o2))) (sl:=slS (8+e1 (l1::l2)+e1 (o1::o2)) sk) (slm:=(slQ 8 (qL (l1::l2)))) (ex:=(mkX (l1::l2)++soX 9 (o1::o2))) (bb:=bbX none) (t:=t) (c:=c) (st:=q.C) (xb:=[.u64 (UInt64.ofInt q.n),.str c1]) (b:=712) (now:=q.now) (n:=(UInt64.ofInt q.n)) (z:=c1) rfl hR.w.ok
 rw [hv] at p1
 have em:openDN q.now (UInt64.ofInt q.n) c1 (c,(l1::l2))=(c,(l1::l2)):=by unfold openDN; rw [hg]; rfl
 have et:openN q.now (UInt64.ofInt q.n) c1 t=t:=by unfold openN; rw [hgg,hg]; rfl
 rw [et] at p1
 have p2:=oOd_no (b:=816) (j:=9) (k:=k) (x:=.ptr 6 0) (y:=.ptr 7 0) (zo:=(slS 9 (o1::o2))) (sl:=slS (8+e1 (l1::l2)+e1 (o1::o2)) sk) (so:=(o1::o2)) (ob:=none) (t:=t) (c:=c) (L:=(l1::l2)) (st:=q.C) (xb:=[.u64 (UInt64.ofInt q.n),.str c1]) (now:=q.now) (n:=(UInt64.ofInt q.n)) (z:=c1) rfl rfl hlen hg
 rw [openDV_op] at p2
 rw [em]
 rw [et]
 have r:=ansR_of csT_ps (v1130 (k:=k) (x:=.ptr 6 0) (y:=.ptr 7 0) (sl:=(slS (8+e1 (l1::l2)+e1 (o1::o2)) sk)) (t:=t) (c:=c) (d:=q.d) (wh:=q.wh) (n:=q.n) (z:=opE q (UInt64.ofInt q.n) c1 c (l1::l2)) (a:=q.a) (s:=q.s) (r:=opR q (UInt64.ofInt q.n) c1 c (l1::l2)) (now:=q.now) (so:=(o1::o2)) (L:=(l1::l2)) (c1:=c1) (m:=m) (i:=i)) (allT_c (beq_self_eq_true _) (allT_c p2 (allT_c hz (allT_c p1 (allT_c hz (allT_c e3 (allT_c e2 (allT_c (rowO_ok hx) (allT_c (inO_ok hi) (allT_c hrm (allT_c (hsz:(!(((o1::o2).length:Int) == 0))=true) (allT_c (hso:decide (0 < ((o1::o2).length:Int))=true) (allT_c d6 (allT_c d5 (allT_c d4 (allT_c d0 (allT_c (atO_ok ha) rfl)))))))))))))))))
 rw [beq_self_eq_true] at r
 cases sk <;> exact runG_ofR (nn:=mask 11) (F:=200) (fr:=16) gl [816] r rfl rfl rfl rfl
theorem ro1131 {k:Bool}{q:Stp}{t:Tn}{c:Dc}{l1:UInt64}{l2:List UInt64}{o1:UInt64 × List UInt8}{o2:SL}{m:UInt64}{c1:List UInt8}{i:Nat}(hR:TRel t c (l1::l2)) (ha:AtK q k) (d0:(!(q.d == 0))=true) (d4:(!(q.d == 4))=true) (d5:(!(q.d == 5))=true) (hlen:lenOk (c,(l1::l2))=true) (d6:decide (q.d < 6)=true) (hi:i < (o1::o2).length) (hrm:rmO q.wh (o1::o2).length i=true) (hx:(o1::o2)[i]? = some (m,c1)) (e2:(!(q.d == 2))=true) (e3:(q.d == 3)=true) (hz:Ae.slR c1=true) (hg:openDG q.now (UInt64.ofInt q.n) c1 (c,(l1::l2))=true) (sk:SL) :
  RunG Try.prog csT 11 (VO k q) ⟨t,c,(l1::l2),sk,(o1::o2),true,openN q.now (UInt64.ofInt q.n) c1 t,(openDN q.now (UInt64.ofInt q.n) c1 (c,(l1::l2))).1,(openDN q.now (UInt64.ofInt q.n) c1 (c,(l1::l2))).2,sk⟩:=by
 have hso:decide (0 < ((o1::o2).length:Int))=true:=by simp <;> omega
 have hsz:(!(((o1::o2).length:Int) == 0))=true:=by simp <;> omega
 obtain ⟨hv,hgg,_⟩:=open_eq hR q.now (UInt64.ofInt q.n) c1
 rw [openDV_op] at hv
 have p1:=oOp_ok (k:=k) (x:=.ptr 6 0) (y:=.ptr 7 0) (zo:=(slS 9 (o1::o2))) (sl:=slS (8+e1 (l1::l2)+e1 (o1::o2)) sk) (slm:=(slQ 8 (qL (l1::l2)))) (ex:=(mkX (l1::l2)++soX 9 (o1::o2))) (bb:=bbX none) (t:=t) (c:=c) (st:=q.C) (xb:=[.u64 (UInt64.ofInt q.n),.str c1]) (b:=712) (now:=q.now) (n:=(UInt64.ofInt q.n)) (z:=c1) rfl hR.w.ok
 rw [hv] at p1
 have em:openDN q.now (UInt64.ofInt q.n) c1 (c,(l1::l2))=(sureD c,(l1::l2)++[(UInt64.ofInt q.n)]):=by unfold openDN; rw [hg]; rfl
 have p2:=oOd_yes (b:=816) (k:=k) (x:=.ptr 6 0) (y:=.ptr 7 0) (zo:=(slS 9 (o1::o2))) (sl:=slS (8+e1 (l1::l2)+e1 (o1::o2)) sk) (so:=(o1::o2)) (ob:=none) (t:=openN q.now (UInt64.ofInt q.n) c1 t) (c:=c) (L:=(l1::l2)) (st:=q.C) (xb:=[.u64 (UInt64.ofInt q.n),.str c1]) (now:=q.now) (n:=(UInt64.ofInt q.n)) (z:=c1) (by decide) hlen hg
 rw [openDV_op] at p2
 rw [em]
 have r:=ansR_of csT_ps (v1131 (k:=k) (x:=.ptr 6 0) (y:=.ptr 7 0) (sl:=(slS (8+e1 (l1::l2)+e1 (o1::o2)) sk)) (t:=t) (c:=c) (d:=q.d) (wh:=q.wh) (n:=q.n) (z:=opE q (UInt64.ofInt q.n) c1 c (l1::l2)) (a:=q.a) (s:=q.s) (r:=opR q (UInt64.ofInt q.n) c1 c (l1::l2)) (now:=q.now) (so:=(o1::o2)) (L:=(l1::l2)) (c1:=c1) (m:=m) (i:=i) (t2:=openN q.now (UInt64.ofInt q.n) c1 t) (c2:=sureD c) (q:=(l1::l2).length+1) (mk2:=((l1::l2)++[(UInt64.ofInt q.n)]).map .u64)) (allT_c (beq_self_eq_true _) (allT_c p2 (allT_c hz (allT_c p1 (allT_c hz (allT_c e3 (allT_c e2 (allT_c (rowO_ok hx) (allT_c (inO_ok hi) (allT_c hrm (allT_c (hsz:(!(((o1::o2).length:Int) == 0))=true) (allT_c (hso:decide (0 < ((o1::o2).length:Int))=true) (allT_c d6 (allT_c d5 (allT_c d4 (allT_c d0 (allT_c (atO_ok ha) rfl)))))))))))))))))
 rw [beq_self_eq_true] at r
 have hk:(l1::l2).length+1=((l1::l2)++[(UInt64.ofInt q.n)]).length:=by simp
 rw [hk] at r
 cases sk <;> exact runG_ofR (nn:=mask 11) (F:=200) (fr:=16) gl [816] r rfl rfl rfl rfl
theorem ro11e0 {k:Bool}{q:Stp}{t:Tn}{c:Dc}{l1:UInt64}{l2:List UInt64}{o1:UInt64 × List UInt8}{o2:SL}{m:UInt64}{c1:List UInt8}{i:Nat}(hR:TRel t c (l1::l2)) (ha:AtK q k) (d0:(!(q.d == 0))=true) (d4:(!(q.d == 4))=true) (d5:(!(q.d == 5))=true) (hlen:lenOk (c,(l1::l2))=true) (d6:decide (q.d < 6)=true) (hi:i < (o1::o2).length) (hrm:rmO q.wh (o1::o2).length i=true) (hx:(o1::o2)[i]? = some (m,c1)) (e2:(q.d == 2)=true) (e4:(!decide (0 < (c1.length:Int)))=true) (e3:(!(q.d == 3))=true) (hz:Ae.slR c1=true) (hg:openDG q.now m c1 (c,(l1::l2))=false) (sk:SL) :
  RunG Try.prog csT 11 (VO k q) ⟨t,c,(l1::l2),sk,(o1::o2),false,openN q.now m c1 t,(openDN q.now m c1 (c,(l1::l2))).1,(openDN q.now m c1 (c,(l1::l2))).2,sk⟩:=by
 have hso:decide (0 < ((o1::o2).length:Int))=true:=by simp <;> omega
 have hsz:(!(((o1::o2).length:Int) == 0))=true:=by simp <;> omega
 obtain ⟨hv,hgg,_⟩:=open_eq hR q.now m c1
 rw [openDV_op] at hv
 have p1:=oOp_ok (k:=k) (x:=.ptr 6 0) (y:=.ptr 7 0) (zo:=(slS 9 (o1::o2))) (sl:=slS (8+e1 (l1::l2)+e1 (o1::o2)) sk) (slm:=(slQ 8 (qL (l1::l2)))) (ex:=(mkX (l1::l2)++soX 9 (o1::o2))) (bb:=bbX none) (t:=t) (c:=c) (st:=q.C) (xb:=[.u64 m,.str c1]) (b:=672) (now:=q.now) (n:=m) (z:=c1) rfl hR.w.ok
 rw [hv] at p1
 have em:openDN q.now m c1 (c,(l1::l2))=(c,(l1::l2)):=by unfold openDN; rw [hg]; rfl
 have et:openN q.now m c1 t=t:=by unfold openN; rw [hgg,hg]; rfl
 rw [et] at p1
 have p2:=oOd_no (b:=776) (j:=9) (k:=k) (x:=.ptr 6 0) (y:=.ptr 7 0) (zo:=(slS 9 (o1::o2))) (sl:=slS (8+e1 (l1::l2)+e1 (o1::o2)) sk) (so:=(o1::o2)) (ob:=none) (t:=t) (c:=c) (L:=(l1::l2)) (st:=q.C) (xb:=[.u64 m,.str c1]) (now:=q.now) (n:=m) (z:=c1) rfl rfl hlen hg
 rw [openDV_op] at p2
 rw [em]
 rw [et]
 have r:=ansR_of csT_ps (v11e0 (k:=k) (x:=.ptr 6 0) (y:=.ptr 7 0) (sl:=(slS (8+e1 (l1::l2)+e1 (o1::o2)) sk)) (t:=t) (c:=c) (d:=q.d) (wh:=q.wh) (n:=q.n) (z:=opE q m c1 c (l1::l2)) (a:=q.a) (s:=q.s) (r:=opR q m c1 c (l1::l2)) (now:=q.now) (so:=(o1::o2)) (L:=(l1::l2)) (c1:=c1) (m:=m) (i:=i)) (allT_c (beq_self_eq_true _) (allT_c p2 (allT_c hz (allT_c p1 (allT_c hz (allT_c e3 (allT_c e4 (allT_c e2 (allT_c (rowO_ok hx) (allT_c (inO_ok hi) (allT_c hrm (allT_c (hsz:(!(((o1::o2).length:Int) == 0))=true) (allT_c (hso:decide (0 < ((o1::o2).length:Int))=true) (allT_c d6 (allT_c d5 (allT_c d4 (allT_c d0 (allT_c (atO_ok ha) rfl))))))))))))))))))
 rw [beq_self_eq_true] at r
 cases sk <;> exact runG_ofR (nn:=mask 11) (F:=200) (fr:=16) gl [776] r rfl rfl rfl rfl
theorem ro11e1 {k:Bool}{q:Stp}{t:Tn}{c:Dc}{l1:UInt64}{l2:List UInt64}{o1:UInt64 × List UInt8}{o2:SL}{m:UInt64}{c1:List UInt8}{i:Nat}(hR:TRel t c (l1::l2)) (ha:AtK q k) (d0:(!(q.d == 0))=true) (d4:(!(q.d == 4))=true) (d5:(!(q.d == 5))=true) (hlen:lenOk (c,(l1::l2))=true) (d6:decide (q.d < 6)=true) (hi:i < (o1::o2).length) (hrm:rmO q.wh (o1::o2).length i=true) (hx:(o1::o2)[i]? = some (m,c1)) (e2:(q.d == 2)=true) (e4:(!decide (0 < (c1.length:Int)))=true) (e3:(!(q.d == 3))=true) (hz:Ae.slR c1=true) (hg:openDG q.now m c1 (c,(l1::l2))=true) (sk:SL) :
  RunG Try.prog csT 11 (VO k q) ⟨t,c,(l1::l2),sk,(o1::o2),true,openN q.now m c1 t,(openDN q.now m c1 (c,(l1::l2))).1,(openDN q.now m c1 (c,(l1::l2))).2,sk⟩:=by
 have hso:decide (0 < ((o1::o2).length:Int))=true:=by simp <;> omega
 have hsz:(!(((o1::o2).length:Int) == 0))=true:=by simp <;> omega
 obtain ⟨hv,hgg,_⟩:=open_eq hR q.now m c1
 rw [openDV_op] at hv
 have p1:=oOp_ok (k:=k) (x:=.ptr 6 0) (y:=.ptr 7 0) (zo:=(slS 9 (o1::o2))) (sl:=slS (8+e1 (l1::l2)+e1 (o1::o2)) sk) (slm:=(slQ 8 (qL (l1::l2)))) (ex:=(mkX (l1::l2)++soX 9 (o1::o2))) (bb:=bbX none) (t:=t) (c:=c) (st:=q.C) (xb:=[.u64 m,.str c1]) (b:=672) (now:=q.now) (n:=m) (z:=c1) rfl hR.w.ok
 rw [hv] at p1
 have em:openDN q.now m c1 (c,(l1::l2))=(sureD c,(l1::l2)++[m]):=by unfold openDN; rw [hg]; rfl
 have p2:=oOd_yes (b:=776) (k:=k) (x:=.ptr 6 0) (y:=.ptr 7 0) (zo:=(slS 9 (o1::o2))) (sl:=slS (8+e1 (l1::l2)+e1 (o1::o2)) sk) (so:=(o1::o2)) (ob:=none) (t:=openN q.now m c1 t) (c:=c) (L:=(l1::l2)) (st:=q.C) (xb:=[.u64 m,.str c1]) (now:=q.now) (n:=m) (z:=c1) (by decide) hlen hg
 rw [openDV_op] at p2
 rw [em]
 have r:=ansR_of csT_ps (v11e1 (k:=k) (x:=.ptr 6 0) (y:=.ptr 7 0) (sl:=(slS (8+e1 (l1::l2)+e1 (o1::o2)) sk)) (t:=t) (c:=c) (d:=q.d) (wh:=q.wh) (n:=q.n) (z:=opE q m c1 c (l1::l2)) (a:=q.a) (s:=q.s) (r:=opR q m c1 c (l1::l2)) (now:=q.now) (so:=(o1::o2)) (L:=(l1::l2)) (c1:=c1) (m:=m) (i:=i) (t2:=openN q.now m c1 t) (c2:=sureD c) (q:=(l1::l2).length+1) (mk2:=((l1::l2)++[m]).map .u64)) (allT_c (beq_self_eq_true _) (allT_c p2 (allT_c hz (allT_c p1 (allT_c hz (allT_c e3 (allT_c e4 (allT_c e2 (allT_c (rowO_ok hx) (allT_c (inO_ok hi) (allT_c hrm (allT_c (hsz:(!(((o1::o2).length:Int) == 0))=true) (allT_c (hso:decide (0 < ((o1::o2).length:Int))=true) (allT_c d6 (allT_c d5 (allT_c d4 (allT_c d0 (allT_c (atO_ok ha) rfl))))))))))))))))))
 rw [beq_self_eq_true] at r
 have hk:(l1::l2).length+1=((l1::l2)++[m]).length:=by simp
 rw [hk] at r
 cases sk <;> exact runG_ofR (nn:=mask 11) (F:=200) (fr:=16) gl [776] r rfl rfl rfl rfl
theorem ro11t0 {k:Bool}{q:Stp}{t:Tn}{c:Dc}{l1:UInt64}{l2:List UInt64}{o1:UInt64 × List UInt8}{o2:SL}{m:UInt64}{c1:List UInt8}{i:Nat}{j:Nat}(hR:TRel t c (l1::l2)) (ha:AtK q k) (d0:(!(q.d == 0))=true) (d4:(!(q.d == 4))=true) (d5:(!(q.d == 5))=true) (hlen:lenOk (c,(l1::l2))=true) (d6:decide (q.d < 6)=true) (hi:i < (o1::o2).length) (hrm:rmO q.wh (o1::o2).length i=true) (hx:(o1::o2)[i]? = some (m,c1)) (e2:(q.d == 2)=true) (e3:(!(q.d == 3))=true) (hj:j < c1.length) (hrj:rmO q.n c1.length j=true) (hz:Ae.slR (turnL c1 j)=true) (hg:openDG q.now m (turnL c1 j) (c,(l1::l2))=false) (sk:SL) :
  RunG Try.prog csT 11 (VO k q) ⟨t,c,(l1::l2),sk,(o1::o2),false,openN q.now m (turnL c1 j) t,(openDN q.now m (turnL c1 j) (c,(l1::l2))).1,(openDN q.now m (turnL c1 j) (c,(l1::l2))).2,sk⟩:=by
 have hso:decide (0 < ((o1::o2).length:Int))=true:=by simp <;> omega
 have hsz:(!(((o1::o2).length:Int) == 0))=true:=by simp <;> omega
 have hc0:decide (0 < (c1.length:Int))=true:=decide_eq_true (by omega)
 have hcz:(!((c1.length:Int) == 0))=true:=by
  have:¬ ((c1.length:Int)=0):=by omega
  simpa using this
 have hbl:Nat.ble ((0+((Int.toNat (j:Int)) * 1))+[AVal.u8 (c1.getD j 0+1)].length) (c1.map AVal.u8).length=true:=Nat.ble_eq_true_of_le (by
  rw [Int.toNat_natCast,List.length_map]
  show 0+j * 1+1≤c1.length
  omega)
 have htc:=turC_eq hj
 have hst:strAt (turC c1 j (c1.getD j 0)) 0 c1.length (turnL c1 j)=true:=by
  rw [htc]
  have hl:c1.length=(turnL c1 j).length:=by unfold turnL; simp
  rw [hl]
  exact strAt_map' _
 obtain ⟨hv,hgg,_⟩:=open_eq hR q.now m (turnL c1 j)
 rw [openDV_op] at hv
 have p1:=oOp_ok (k:=k) (x:=.ptr 6 0) (y:=.ptr 7 0) (zo:=(slS 9 (o1::o2))) (sl:=slS (8+e1 (l1::l2)+e1 (o1::o2)) sk) (slm:=(slQ 8 (qL (l1::l2)))) (ex:=(mkX (l1::l2)++soX 9 (o1::o2))) (bb:=bbX (some (turC c1 j (c1.getD j 0)))) (t:=t) (c:=c) (st:=q.C) (xb:=[.u64 m,.str (turnL c1 j)]) (b:=832) (now:=q.now) (n:=m) (z:=(turnL c1 j)) rfl hR.w.ok
 rw [hv] at p1
 have em:openDN q.now m (turnL c1 j) (c,(l1::l2))=(c,(l1::l2)):=by unfold openDN; rw [hg]; rfl
 have et:openN q.now m (turnL c1 j) t=t:=by unfold openN; rw [hgg,hg]; rfl
 rw [et] at p1
 have p2:=oOd_no (b:=936) (j:=9) (k:=k) (x:=.ptr 6 0) (y:=.ptr 7 0) (zo:=(slS 9 (o1::o2))) (sl:=slS (8+e1 (l1::l2)+e1 (o1::o2)) sk) (so:=(o1::o2)) (ob:=(some (turC c1 j (c1.getD j 0)))) (t:=t) (c:=c) (L:=(l1::l2)) (st:=q.C) (xb:=[.u64 m,.str (turnL c1 j)]) (now:=q.now) (n:=m) (z:=(turnL c1 j)) rfl rfl hlen hg
 rw [openDV_op] at p2
 rw [em]
 rw [et]
 have r:=ansR_of csT_ps (v11t0 (k:=k) (x:=.ptr 6 0) (y:=.ptr 7 0) (sl:=(slS (8+e1 (l1::l2)+e1 (o1::o2)) sk)) (t:=t) (c:=c) (d:=q.d) (wh:=q.wh) (n:=q.n) (z:=opE q m (turnL c1 j) c (l1::l2)) (a:=q.a) (s:=q.s) (r:=opR q m (turnL c1 j) c (l1::l2)) (now:=q.now) (so:=(o1::o2)) (L:=(l1::l2)) (c1:=c1) (m:=m) (i:=i) (g:=c1.getD j 0) (c3:=turnL c1 j) (j:=j)) (allT_c (beq_self_eq_true _) (allT_c p2 (allT_c hz (allT_c p1 (allT_c hz (allT_c e3 (allT_c hst (allT_c (hbl:Nat.ble ((0+((Int.toNat (j:Int)) * 1))+[AVal.u8 (c1.getD j 0+1)].length) (c1.map AVal.u8).length=true) (allT_c (inO_ok hj) (allT_c (isAt_u8' hj) (allT_c (inO_ok hj) (allT_c hrj (allT_c (hcz:(!((c1.length:Int) == 0))=true) (allT_c (hc0:decide (0 < (c1.length:Int))=true) (allT_c e2 (allT_c (rowO_ok hx) (allT_c (inO_ok hi) (allT_c hrm (allT_c (hsz:(!(((o1::o2).length:Int) == 0))=true) (allT_c (hso:decide (0 < ((o1::o2).length:Int))=true) (allT_c d6 (allT_c d5 (allT_c d4 (allT_c d0 (allT_c (atO_ok ha) rfl)))))))))))))))))))))))))
 rw [beq_self_eq_true] at r
 cases sk <;> exact runG_ofR (nn:=mask 11) (F:=200) (fr:=16) gl [936] r rfl rfl rfl rfl
theorem ro11t1 {k:Bool}{q:Stp}{t:Tn}{c:Dc}{l1:UInt64}{l2:List UInt64}{o1:UInt64 × List UInt8}{o2:SL}{m:UInt64}{c1:List UInt8}{i:Nat}{j:Nat}(hR:TRel t c (l1::l2)) (ha:AtK q k) (d0:(!(q.d == 0))=true) (d4:(!(q.d == 4))=true) (d5:(!(q.d == 5))=true) (hlen:lenOk (c,(l1::l2))=true) (d6:decide (q.d < 6)=true) (hi:i < (o1::o2).length) (hrm:rmO q.wh (o1::o2).length i=true) (hx:(o1::o2)[i]? = some (m,c1)) (e2:(q.d == 2)=true) (e3:(!(q.d == 3))=true) (hj:j < c1.length) (hrj:rmO q.n c1.length j=true) (hz:Ae.slR (turnL c1 j)=true) (hg:openDG q.now m (turnL c1 j) (c,(l1::l2))=true) (sk:SL) :
  RunG Try.prog csT 11 (VO k q) ⟨t,c,(l1::l2),sk,(o1::o2),true,openN q.now m (turnL c1 j) t,(openDN q.now m (turnL c1 j) (c,(l1::l2))).1,(openDN q.now m (turnL c1 j) (c,(l1::l2))).2,sk⟩:=by
 have hso:decide (0 < ((o1::o2).length:Int))=true:=by simp <;> omega
 have hsz:(!(((o1::o2).length:Int) == 0))=true:=by simp <;> omega
 have hc0:decide (0 < (c1.length:Int))=true:=decide_eq_true (by omega)
 have hcz:(!((c1.length:Int) == 0))=true:=by
  have:¬ ((c1.length:Int)=0):=by omega
  simpa using this
 have hbl:Nat.ble ((0+((Int.toNat (j:Int)) * 1))+[AVal.u8 (c1.getD j 0+1)].length) (c1.map AVal.u8).length=true:=Nat.ble_eq_true_of_le (by
  rw [Int.toNat_natCast,List.length_map]
  show 0+j * 1+1≤c1.length
  omega)
 have htc:=turC_eq hj
 have hst:strAt (turC c1 j (c1.getD j 0)) 0 c1.length (turnL c1 j)=true:=by
  rw [htc]
  have hl:c1.length=(turnL c1 j).length:=by unfold turnL; simp
  rw [hl]
  exact strAt_map' _
 obtain ⟨hv,hgg,_⟩:=open_eq hR q.now m (turnL c1 j)
 rw [openDV_op] at hv
 have p1:=oOp_ok (k:=k) (x:=.ptr 6 0) (y:=.ptr 7 0) (zo:=(slS 9 (o1::o2))) (sl:=slS (8+e1 (l1::l2)+e1 (o1::o2)) sk) (slm:=(slQ 8 (qL (l1::l2)))) (ex:=(mkX (l1::l2)++soX 9 (o1::o2))) (bb:=bbX (some (turC c1 j (c1.getD j 0)))) (t:=t) (c:=c) (st:=q.C) (xb:=[.u64 m,.str (turnL c1 j)]) (b:=832) (now:=q.now) (n:=m) (z:=(turnL c1 j)) rfl hR.w.ok
 rw [hv] at p1
 have em:openDN q.now m (turnL c1 j) (c,(l1::l2))=(sureD c,(l1::l2)++[m]):=by unfold openDN; rw [hg]; rfl
 have p2:=oOd_yes (b:=936) (k:=k) (x:=.ptr 6 0) (y:=.ptr 7 0) (zo:=(slS 9 (o1::o2))) (sl:=slS (8+e1 (l1::l2)+e1 (o1::o2)) sk) (so:=(o1::o2)) (ob:=(some (turC c1 j (c1.getD j 0)))) (t:=openN q.now m (turnL c1 j) t) (c:=c) (L:=(l1::l2)) (st:=q.C) (xb:=[.u64 m,.str (turnL c1 j)]) (now:=q.now) (n:=m) (z:=(turnL c1 j)) (by decide) hlen hg
 rw [openDV_op] at p2
 rw [em]
 have r:=ansR_of csT_ps (v11t1 (k:=k) (x:=.ptr 6 0) (y:=.ptr 7 0) (sl:=(slS (8+e1 (l1::l2)+e1 (o1::o2)) sk)) (t:=t) (c:=c) (d:=q.d) (wh:=q.wh) (n:=q.n) (z:=opE q m (turnL c1 j) c (l1::l2)) (a:=q.a) (s:=q.s) (r:=opR q m (turnL c1 j) c (l1::l2)) (now:=q.now) (so:=(o1::o2)) (L:=(l1::l2)) (c1:=c1) (m:=m) (i:=i) (g:=c1.getD j 0) (c3:=turnL c1 j) (j:=j) (t2:=openN q.now m (turnL c1 j) t) (c2:=sureD c) (q:=(l1::l2).length+1) (mk2:=((l1::l2)++[m]).map .u64)) (allT_c (beq_self_eq_true _) (allT_c p2 (allT_c hz (allT_c p1 (allT_c hz (allT_c e3 (allT_c hst (allT_c (hbl:Nat.ble ((0+((Int.toNat (j:Int)) * 1))+[AVal.u8 (c1.getD j 0+1)].length) (c1.map AVal.u8).length=true) (allT_c (inO_ok hj) (allT_c (isAt_u8' hj) (allT_c (inO_ok hj) (allT_c hrj (allT_c (hcz:(!((c1.length:Int) == 0))=true) (allT_c (hc0:decide (0 < (c1.length:Int))=true) (allT_c e2 (allT_c (rowO_ok hx) (allT_c (inO_ok hi) (allT_c hrm (allT_c (hsz:(!(((o1::o2).length:Int) == 0))=true) (allT_c (hso:decide (0 < ((o1::o2).length:Int))=true) (allT_c d6 (allT_c d5 (allT_c d4 (allT_c d0 (allT_c (atO_ok ha) rfl)))))))))))))))))))))))))
 rw [beq_self_eq_true] at r
 have hk:(l1::l2).length+1=((l1::l2)++[m]).length:=by simp
 rw [hk] at r
 cases sk <;> exact runG_ofR (nn:=mask 11) (F:=200) (fr:=16) gl [936] r rfl rfl rfl rfl
end Go.Proofs.Ytjdhndicgifnbaa.Tun
namespace Go.Proofs.Ytjdhndicgifnbaa.Tun
open Go Go.Eng Go.Proofs.Ytjdhndicgifnbaa
def Sx.h (s:Sx):Hv:=⟨s.t,s.c,s.L,s.sk,s.so⟩
noncomputable def okSe (q:Stp) (s:Sx):Bool:=decP (TRel s.t s.c s.L∧s.sk.length < 1000000000∧s=sealS q s.h)
noncomputable def okWi (s:Sx):Bool:=decP (s=wipeS s.h)
noncomputable def okRe (s:Sx):Bool:=decP (s=restS s.h)
noncomputable def okOp (q:Stp) (s:Sx):Bool:=decP (TRel s.t s.c s.L∧lenOk (s.c,s.L)=true∧Ae.slR (pickX q s.so).2=true∧s=openS q s.h)
theorem decP_iff {p:Prop}(h:decP p=true):p:=of_decP h
def kOf (q:Stp):Bool:=decide ((q.a &&& 1).toNat=1)
theorem atK_of (q:Stp):AtK q (kOf q):=by
 unfold AtK kOf
 have h:(q.a &&& 1).toNat≤1:=by
  rw [UInt8.toNat_and]
  exact Nat.le_trans Nat.and_le_right (by decide)
 by_cases c:(q.a &&& 1).toNat=1
 ·rw [decide_eq_true c,c]; rfl
 ·have:(q.a &&& 1).toNat=0:=by omega
  rw [decide_eq_false c,this]; rfl
noncomputable def doE (q:Stp) (p:Nat):EffA:=cond (q.d == 0) (effG (VA (kOf q) q true) (fA (kOf q) p (sealS q)) (okSe q)) (cond (q.d == 4) (effG (VA (kOf q) q false) (fA (kOf q) p restS) okRe) (cond (q.d == 5) (effG (VA (kOf q) q false) (fA (kOf q) p wipeS) okWi) (effG (VO (kOf q) q) (fO (kOf q) p (openS q)) (okOp q))))
theorem run_open {k:Bool}{q:Stp}{t:Tn}{c:Dc}{L:List UInt64}{sk so:SL}(hR:TRel t c L) (ha:AtK q k) (d0:(!(q.d == 0))=true) (d4:(!(q.d == 4))=true) (d5:(!(q.d == 5))=true) (hlen:lenOk (c,L)=true) (hz:Ae.slR (pickX q so).2=true):RunG Try.prog csT 11 (VO k q) (openS q ⟨t,c,L,sk,so⟩):=by
 have fin:∀ (n:UInt64) (z:List UInt8),pickX q so=(n,z)→(∀ g,openDG q.now n z (c,L)=g→RunG Try.prog csT 11 (VO k q) ⟨t,c,L,sk,so,g,openN q.now n z t,(openDN q.now n z (c,L)).1,(openDN q.now n z (c,L)).2,sk⟩)→RunG Try.prog csT 11 (VO k q) (openS q ⟨t,c,L,sk,so⟩):=fun n z e h=>by
  unfold openS
  simp only [e]
  exact h _ rfl
 cases so with
 | nil =>
  have hz:Ae.slR q.s=true:=hz
  refine fin _ _ rfl fun g hg => ?_
  cases h6:decide (q.d < 6) with
  | true =>
   cases L with
   | nil =>
    cases g
    ·exact ro00rp0 hR ha d0 d4 d5 hlen h6 hz hg sk
    ·exact ro00rp1 hR ha d0 d4 d5 hlen h6 hz hg sk
   | cons l1 l2 =>
    cases g
    ·exact ro10rp0 hR ha d0 d4 d5 hlen h6 hz hg sk
    ·exact ro10rp1 hR ha d0 d4 d5 hlen h6 hz hg sk
  | false =>
   have h6':(!decide (q.d < 6))=true:=by rw [h6]; rfl
   cases L with
   | nil =>
    cases g
    ·exact ro00rq0 hR ha d0 d4 d5 hlen h6' hz hg sk
    ·exact ro00rq1 hR ha d0 d4 d5 hlen h6' hz hg sk
   | cons l1 l2 =>
    cases g
    ·exact ro10rq0 hR ha d0 d4 d5 hlen h6' hz hg sk
    ·exact ro10rq1 hR ha d0 d4 d5 hlen h6' hz hg sk
 | cons o1 o2 =>
  have hlt:=idxI_lt (x:=q.wh) (len:=(o1::o2).length) (by simp)
  obtain ⟨i,hi⟩:∃ i,i=idxI q.wh (o1::o2).length:=⟨_,rfl⟩
  rw [← hi] at hlt
  obtain ⟨⟨m,c1⟩,hx⟩:∃ x,(o1::o2)[i]? = some x:=⟨_,List.getElem?_eq_getElem hlt.1⟩
  have hgd:(o1::o2).getD (idxI q.wh (o1::o2).length) (0,[])=(m,c1):=by rw [← hi,List.getD_eq_getElem?_getD,hx]; rfl
  cases h6:decide (q.d < 6) with
  | false =>
   have h6':(!decide (q.d < 6))=true:=by rw [h6]; rfl
   have hp:pickX q (o1::o2)=(UInt64.ofInt q.n,q.s):=by unfold pickX; simp only [h6,cond_false]
   rw [hp] at hz
   refine fin _ _ hp fun g hg => ?_
   cases L with
   | nil =>
    cases g
    ·exact ro01rq0 hR ha d0 d4 d5 hlen h6' hz hg sk
    ·exact ro01rq1 hR ha d0 d4 d5 hlen h6' hz hg sk
   | cons l1 l2 =>
    cases g
    ·exact ro11rq0 hR ha d0 d4 d5 hlen h6' hz hg sk
    ·exact ro11rq1 hR ha d0 d4 d5 hlen h6' hz hg sk
  | true =>
   cases h2:(q.d == 2) with
   | true =>
    have h3:(!(q.d == 3))=true:=by
     have:q.d=2:=by simpa using h2
     rw [this]; rfl
    cases h4:decide (0 < (c1.length:Int)) with
    | true =>
     have hc:0 < c1.length:=by have:=of_decide_eq_true h4; omega
     have hjl:=idxI_lt (x:=q.n) (len:=c1.length) hc
     have hp:pickX q (o1::o2)=(m,turnL c1 (idxI q.n c1.length)):=by unfold pickX; simp only [h6,h2,hgd,h4,cond_true]
     rw [hp] at hz
     refine fin _ _ hp fun g hg => ?_
     cases L with
     | nil =>
      cases g
      ·exact ro01t0 hR ha d0 d4 d5 hlen h6 hlt.1 hlt.2 hx h2 h3 hjl.1 hjl.2 hz hg sk
      ·exact ro01t1 hR ha d0 d4 d5 hlen h6 hlt.1 hlt.2 hx h2 h3 hjl.1 hjl.2 hz hg sk
     | cons l1 l2 =>
      cases g
      ·exact ro11t0 hR ha d0 d4 d5 hlen h6 hlt.1 hlt.2 hx h2 h3 hjl.1 hjl.2 hz hg sk
      ·exact ro11t1 hR ha d0 d4 d5 hlen h6 hlt.1 hlt.2 hx h2 h3 hjl.1 hjl.2 hz hg sk
    | false =>
     have h4':(!decide (0 < (c1.length:Int)))=true:=by rw [h4]; rfl
     have hp:pickX q (o1::o2)=(m,c1):=by unfold pickX; simp only [h6,h2,hgd,h4,cond_true,cond_false]
     rw [hp] at hz
     refine fin _ _ hp fun g hg => ?_
     cases L with
     | nil =>
      cases g
      ·exact ro01e0 hR ha d0 d4 d5 hlen h6 hlt.1 hlt.2 hx h2 h4' h3 hz hg sk
      ·exact ro01e1 hR ha d0 d4 d5 hlen h6 hlt.1 hlt.2 hx h2 h4' h3 hz hg sk
     | cons l1 l2 =>
      cases g
      ·exact ro11e0 hR ha d0 d4 d5 hlen h6 hlt.1 hlt.2 hx h2 h4' h3 hz hg sk
      ·exact ro11e1 hR ha d0 d4 d5 hlen h6 hlt.1 hlt.2 hx h2 h4' h3 hz hg sk
   | false =>
    have h2':(!(q.d == 2))=true:=by rw [h2]; rfl
    cases h3:(q.d == 3) with
    | true =>
     have hp:pickX q (o1::o2)=(UInt64.ofInt q.n,c1):=by unfold pickX; simp only [h6,h2,h3,hgd,cond_true,cond_false]
     rw [hp] at hz
     refine fin _ _ hp fun g hg => ?_
     cases L with
     | nil =>
      cases g
      ·exact ro0130 hR ha d0 d4 d5 hlen h6 hlt.1 hlt.2 hx h2' h3 hz hg sk
      ·exact ro0131 hR ha d0 d4 d5 hlen h6 hlt.1 hlt.2 hx h2' h3 hz hg sk
     | cons l1 l2 =>
      cases g
      ·exact ro1130 hR ha d0 d4 d5 hlen h6 hlt.1 hlt.2 hx h2' h3 hz hg sk
      ·exact ro1131 hR ha d0 d4 d5 hlen h6 hlt.1 hlt.2 hx h2' h3 hz hg sk
    | false =>
     have h3':(!(q.d == 3))=true:=by rw [h3]; rfl
     have hp:pickX q (o1::o2)=(m,c1):=by unfold pickX; simp only [h6,h2,h3,hgd,cond_true,cond_false]
     rw [hp] at hz
     refine fin _ _ hp fun g hg => ?_
     cases L with
     | nil =>
      cases g
      ·exact ro0110 hR ha d0 d4 d5 hlen h6 hlt.1 hlt.2 hx h2' h3' hz hg sk
      ·exact ro0111 hR ha d0 d4 d5 hlen h6 hlt.1 hlt.2 hx h2' h3' hz hg sk
     | cons l1 l2 =>
      cases g
      ·exact ro1110 hR ha d0 d4 d5 hlen h6 hlt.1 hlt.2 hx h2' h3' hz hg sk
      ·exact ro1111 hR ha d0 d4 d5 hlen h6 hlt.1 hlt.2 hx h2' h3' hz hg sk
theorem openDN_no {now n:UInt64}{z:List UInt8}{s:Dn}(h:openDG now n z s=false):openDN now n z s=s:=by unfold openDN; rw [h]; rfl
theorem doE_ok (q:Stp) (p:Nat):CallOk Try.prog 11 [.ptr p 0,.agg q.C] (doE q p):=by
 unfold doE
 have ha:=atK_of q
 cases h0:(q.d == 0) with
 | true =>
  simp only [cond_true]
  refine effG_ok csT_ok hmix (show 1≤8 by decide) (fun {η ns s} hf=>fA_ok (keeps_seal q) hf) fun s hs => ?_
  obtain ⟨a1,a2,a3⟩:=decP_iff hs
  refine ⟨relVA _ _ _ _ fun hg => ?_,?_⟩
  ·rw [a3] at hg ⊢
   have hg:sealDG q.now q.s s.c=false:=hg
   show cond (sealDG q.now q.s s.c) _ s.sk=s.sk
   rw [hg]; rfl
  ·rw [a3]
   exact run_seal a1 (by simpa using h0) ha a2
 | false =>
  have d0:(!(q.d == 0))=true:=by rw [h0]; rfl
  simp only [cond_false]
  cases h4:(q.d == 4) with
  | true =>
   simp only [cond_true]
   refine effG_ok csT_ok hmix (show 1≤8 by decide) (fun {η ns s} hf=>fA_ok keeps_rest hf) fun s hs => ?_
   have a3:s=restS s.h:=decP_iff hs
   refine ⟨relVA _ _ _ _ fun hg=>by rw [a3]; rfl,?_⟩
   rw [a3]
   exact run_rest (by simpa using h4) ha
  | false =>
   have d4:(!(q.d == 4))=true:=by rw [h4]; rfl
   simp only [cond_false]
   cases h5:(q.d == 5) with
   | true =>
    simp only [cond_true]
    refine effG_ok csT_ok hmix (show 1≤8 by decide) (fun {η ns s} hf=>fA_ok keeps_wipe hf) fun s hs => ?_
    have a3:s=wipeS s.h:=decP_iff hs
    refine ⟨relVA _ _ _ _ fun hg=>by rw [a3]; rfl,?_⟩
    rw [a3]
    exact run_wipe (by simpa using h5) ha
   | false =>
    have d5:(!(q.d == 5))=true:=by rw [h5]; rfl
    simp only [cond_false]
    refine effG_ok csT_ok hmix (show 1≤8 by decide) (fun {η ns s} hf=>fO_ok (keeps_open q) hf) fun s hs => ?_
    obtain ⟨a1,a2,a3,a4⟩:=decP_iff hs
    refine ⟨relVO _ _ _ fun hg => ?_,?_⟩
    ·rw [a4] at hg ⊢
     have hg:openDG q.now (pickX q s.so).1 (pickX q s.so).2 (s.c,s.L)=false:=hg
     show (openDN q.now (pickX q s.so).1 (pickX q s.so).2 (s.c,s.L)).2=s.L
     rw [openDN_no hg]
    ·rw [a4]
     exact run_open a1 ha d0 d4 d5 a2 a3
noncomputable def g11:List AVal→Option EffA
 | [.ptr p 0,.agg [.int .i64 d,.u8 a,.str s,.int .i64 wh,.int .i64 n,.u64 now]]=>some (doE ⟨d,a,s,wh,n,now⟩ p)
 | _=>none
theorem g11_ok:CSOk Try.prog (csOne 11 g11):=csOne_ok fun args e he=>by
 unfold g11 at he
 split at he
 ·rename_i p d a s wh n now
  cases he
  exact doE_ok ⟨d,a,s,wh,n,now⟩ p
 ·cases he
end Go.Proofs.Ytjdhndicgifnbaa.Tun
namespace Go.Eng
theorem upG_nodup {S:Type}{V:Vw S}{s:S}(hR:V.Rel s){ns:List Nat}{base:Nat}(hl:ns.length=V.k s) (hn:nodupB (frN base V.w++ns)=true):((upG V s (nmU2 ns base)).map (·.1)).Nodup:=by
 have hnb:=nodupB_ok hn
 rw [List.nodup_append] at hnb
 obtain ⟨_,hns,hdis⟩:=hnb
 have hbn:∀ j,j < V.w→base+j ∉ ns:=fun j hj hm=>hdis _ (frN_mem (Nat.le_add_right _ _) (by omega)) _ hm rfl
 have hu1:∀ j,j < V.k s→ns[j]? = some (nmU2 ns base j):=fun j hj=>by
  rw [nmU2_lt (by omega)]; exact getD_at (by omega)
 have hu2:∀ j,V.k s≤j→nmU2 ns base j=base+(j - V.k s):=fun j hj=>by rw [nmU2_ge (by omega),hl]
 have hinj:∀ i j,i < V.k s+V.w→j < V.k s+V.w→nmU2 ns base i=nmU2 ns base j→i=j:=fun i j hi hj e=>by
  by_cases c:i < V.k s <;> by_cases d:j < V.k s
  ·have a:=hu1 i c
   rw [e] at a
   exact inj_of_nodup hns a (hu1 j d)
  ·have a:=hu1 i c
   rw [e,hu2 j (by omega)] at a
   exact absurd (List.mem_of_getElem? a) (hbn _ (by omega))
  ·have a:=hu1 j d
   rw [← e,hu2 i (by omega)] at a
   exact absurd (List.mem_of_getElem? a) (hbn _ (by omega))
  ·rw [hu2 i (by omega),hu2 j (by omega)] at e; omega
 have hj2:∀ j,j ∈ V.ix2 s→j < V.k s+V.w:=fun j hj=>by
  rcases hR.in2 j hj with a | a
  ·have:=hR.lt1 j a; omega
  ·exact a.2
 have hgone:∀ i,i ∈ (V.ix s).filter (fun i => !(V.ix2 s).contains i)→i ∈ V.ix s∧i ∉ V.ix2 s:=fun i hi=>by
  rw [List.mem_filter] at hi
  refine ⟨hi.1,fun hm => ?_⟩
  have:=hi.2
  simp [hm] at this
 unfold upG
 rw [List.map_append,List.map_map,List.map_map]
 refine List.nodup_append.2 ⟨?_,?_,?_⟩
 ·have:=List.Pairwise.and_mem.1 hR.nd2
  exact List.pairwise_map.2 (this.imp fun ⟨h1,h2,h3⟩ e=>h3 (hinj _ _ (hj2 _ h1) (hj2 _ h2) e))
 ·have hg:((V.ix s).filter (fun i => !(V.ix2 s).contains i)).Nodup:=List.Pairwise.filter _ hR.nd1
  have:=List.Pairwise.and_mem.1 hg
  exact List.pairwise_map.2 (this.imp fun ⟨h1,h2,h3⟩ e=>h3 (hinj _ _ (by have:=hR.lt1 _ (hgone _ h1).1; omega) (by have:=hR.lt1 _ (hgone _ h2).1; omega) e))
 ·intro a ha b hb e
  subst e
  rw [List.mem_map] at ha hb
  obtain ⟨j,hj,e1⟩:=ha
  obtain ⟨i,hi,e2⟩:=hb
  have:=hinj i j (by have:=hR.lt1 _ (hgone _ hi).1; omega) (hj2 _ hj) (by simp only [Function.comp] at e1 e2; rw [e1,e2])
  subst this
  exact (hgone _ hi).2 hj
theorem key_one {us:List (Nat × Option AObj)}(h:(us.map (·.1)).Nodup){m:Nat}{x y:Option AObj}(h1:(m,x) ∈ us) (h2:(m,y) ∈ us):x=y:=by
 induction us with
 | nil=>simp at h1
 | cons p us ih =>
  simp only [List.map_cons,List.nodup_cons] at h
  rcases List.mem_cons.1 h1 with e1 | e1 <;> rcases List.mem_cons.1 h2 with e2 | e2
  ·rw [← e1] at e2; exact (Prod.mk.inj e2).2.symm
  ·rw [← e1] at h; exact absurd (List.mem_map.2 ⟨_,e2,rfl⟩) h.1
  ·rw [← e2] at h; exact absurd (List.mem_map.2 ⟨_,e1,rfl⟩) h.1
  ·exact ih h.2 e1 e2
theorem upG_at {S:Type}{V:Vw S}{s:S}(hR:V.Rel s){ns:List Nat}{base:Nat}(hl:ns.length=V.k s) (hn:nodupB (frN base V.w++ns)=true) (H:HL){j:Nat}(hj:j ∈ V.ix2 s):aget (appU H (upG V s (nmU2 ns base))) (nmU2 ns base j)=some (.cells false (V.c2 (nmU2 ns base) s j)):=by
 have hnd:=upG_nodup hR hl hn
 have hm:(nmU2 ns base j,some (AObj.cells false (V.c2 (nmU2 ns base) s j))) ∈ upG V s (nmU2 ns base):=by
  unfold upG
  exact List.mem_append.2 (.inl (List.mem_map.2 ⟨j,hj,rfl⟩))
 rcases appU_at (H:=H) (m:=nmU2 ns base j) hnd with ⟨x,h1,h2⟩ | ⟨h1,_⟩
 ·rw [h2]; exact key_one hnd h1 hm
 ·exact absurd hm (h1 _)
theorem upG_off {S:Type}{V:Vw S}{s:S}(hR:V.Rel s){ns:List Nat}{base:Nat}(hl:ns.length=V.k s) (hn:nodupB (frN base V.w++ns)=true) (H:HL){n:Nat}(h1:∀ i,i ∈ V.ix s→nmU2 ns base i ≠ n) (h2:∀ i,i ∈ V.ix2 s→nmU2 ns base i ≠ n):aget (appU H (upG V s (nmU2 ns base))) n=aget H n:=by
 rcases appU_at (H:=H) (m:=n) (upG_nodup hR hl hn) with ⟨x,hx,_⟩ | ⟨_,h⟩
 ·unfold upG at hx
  rcases List.mem_append.1 hx with hx | hx
  ·obtain ⟨j,hj,e⟩:=List.mem_map.1 hx
   exact absurd (Prod.mk.inj e).1 (h2 j hj)
  ·obtain ⟨i,hi,e⟩:=List.mem_map.1 hx
   exact absurd (Prod.mk.inj e).1 (h1 i (List.mem_filter.1 hi).1)
 ·exact h
theorem nodupB_of:∀ {l:List Nat},l.Nodup→nodupB l=true
 | [],_=>rfl
 | n::l,h=>by
  rw [List.nodup_cons] at h
  have e:(l.all fun k => !Nat.beq n k)=true:=List.all_eq_true.2 fun k hk=>by
   cases hb:Nat.beq n k with
   | false=>rfl
   | true=>rw [Nat.eq_of_beq_eq_true hb] at h; exact absurd hk h.1
  rw [nodupB,e,cond_true]
  exact nodupB_of h.2
theorem iter_inv {P:Program}{cs:CS}{nt nn F bs:Nat}{b:Code}(s0:SA) (J:Nat→SA→Prop) (N:Nat) (h0:J 0 s0) (hstep:∀ j s,j < N→J j s→∃ s',roundA (evC P cs nt nn F bs b) (headA P bs s0) s=some s'∧J (j+1) s') :
  ∃ I:Nat→SA,I 0=s0∧J N (I N)∧∀ j,j < N→roundA (evC P cs nt nn F bs b) (headA P bs (I 0)) (I j)=some (I (j+1)):=by
 have key:∀ n,n≤N→∃ I:Nat→SA,I 0=s0∧J n (I n)∧∀ j,j < n→roundA (evC P cs nt nn F bs b) (headA P bs s0) (I j)=some (I (j+1)):=by
  intro n
  induction n with
  | zero=>intro _; exact ⟨fun _=>s0,rfl,h0,fun j hj=>by omega⟩
  | succ n ih =>
   intro hn
   obtain ⟨I,h1,h2,h3⟩:=ih (by omega)
   obtain ⟨s',h4,h5⟩:=hstep n (I n) (by omega) h2
   refine ⟨fun m=>if m≤n then I m else s',by simp [h1],by simp only; rw [if_neg (by omega)]; exact h5,fun j hj => ?_⟩
   by_cases c:j < n
   ·simp only [show j≤n by omega,show j+1≤n by omega,if_true]
    exact h3 j c
   ·have:j=n:=by omega
    subst this
    simp only [Nat.le_refl,if_true,show ¬ j+1≤j by omega,if_false]
    exact h4
 obtain ⟨I,h1,h2,h3⟩:=key N (Nat.le_refl _)
 exact ⟨I,h1,h2,by rw [h1]; exact h3⟩
theorem aget_app {α:Type}:∀ (A B:List (Nat × α)) (n:Nat),aget (A++B) n=match aget A n with | some v=>some v | none=>aget B n
 | [],B,n=>rfl
 | (k,v)::A,B,n=>by
  show aget ((k,v)::(A++B)) n=_
  rcases beq_cases k n with ⟨he,hb⟩ | ⟨he,hb⟩
  ·simp only [aget,hb,cond_true]
  ·simp only [aget,hb,cond_false]
   exact aget_app A B n
theorem reshapeH_at (H:HL) (n:Nat):∀ l:HL,aget (reshapeH l H) n=match aget l n with | some _=>aget H n | none=>none
 | []=>rfl
 | (k,v)::l=>by
  have ih:=reshapeH_at H n l
  unfold reshapeH
  rcases beq_cases k n with ⟨he,hb⟩ | ⟨he,hb⟩
  ·subst he
   cases hk:aget H k with
   | some o=>simp only [aget,hb,cond_true]
   | none =>
    simp only [aget,hb,cond_true]
    rw [ih]
    cases aget l k <;> first | rfl | exact hk
  ·cases hk:aget H k with
   | some o=>simp only [aget,hb,cond_false]; exact ih
   | none=>simp only [aget,hb,cond_false]; exact ih
theorem extraH_at (l:HL) (m n:Nat):∀ H:HL,aget (extraH l m H) n=match aget l n with | some _=>none | none=>if n < m then aget H n else none
 | []=>by cases aget l n <;> simp [extraH,aget]
 | (k,o)::H=>by
  have ih:=extraH_at l m n H
  unfold extraH
  rcases beq_cases k n with ⟨he,hb⟩ | ⟨he,hb⟩
  ·subst he
   cases hk:aget l k with
   | some x=>simp only; rw [ih,hk]
   | none =>
    simp only
    cases hm:Nat.ble (k+1) m with
    | true =>
     have:=Nat.le_of_ble_eq_true hm
     simp only [cond_true,aget,hb]
     rw [if_pos (by omega)]
    | false =>
     have hn:¬ k < m:=fun h=>by rw [Nat.ble_eq_true_of_le h] at hm; cases hm
     simp only [cond_false]
     rw [ih,hk,if_neg hn]
     simp only [if_neg hn]
  ·have e0:aget ((k,o)::H) n=aget H n:=by simp only [aget,hb,cond_false]
   rw [e0]
   cases hk:aget l k with
   | some x=>simp only; exact ih
   | none =>
    simp only
    cases hm:Nat.ble (k+1) m with
    | true=>simp only [cond_true,aget,hb,cond_false]; exact ih
    | false=>simp only [cond_false]; exact ih
theorem headA_cases {P:Program}{bs:Nat}(s0 s:SA) (hp:pairsT s0.fr 0 s0.T s.T=[]):(headA P bs s0 s).T=reshape s0.T s.T∧(((headA P bs s0 s).H=s.H∧(headA P bs s0 s).fr=s.fr) ∨ ((headA P bs s0 s).fr=s0.fr∧ltH s0.fr (headA P bs s0 s).H=true∧∀ n,n < s0.fr→aget (headA P bs s0 s).H n=aget s.H n)):=by
 unfold headA
 rw [hp]
 unfold renAll headB
 cases hc:(ltT s0.fr (reshape s0.T s.T) && ltH s0.fr (reshapeH s0.H s.H++extraH s0.H s0.fr s.H) && Nat.ble P.globals.size s0.fr) with
 | false=>exact ⟨rfl,.inl ⟨rfl,rfl⟩⟩
 | true =>
  simp only [Bool.and_eq_true] at hc
  refine ⟨rfl,.inr ⟨rfl,hc.1.2,fun n hn => ?_⟩⟩
  show aget (reshapeH s0.H s.H++extraH s0.H s0.fr s.H) n=aget s.H n
  rw [aget_app,reshapeH_at,extraH_at]
  cases h1:aget s0.H n with
  | some o =>
   simp only
   cases aget s.H n <;> rfl
  | none =>
   simp only
   rw [if_pos hn]
end Go.Eng
namespace Go.Proofs.Ytjdhndicgifnbaa.Tun
open Go Go.Eng Go.Proofs.Ytjdhndicgifnbaa
structure Ns where
 t:Nat
 w:Nat
 b:Nat
 a:Nat
 r:Nat
 m:Nat
 x:Nat
structure En where
 t:Tn
 c:Dc
 L:List UInt64
 s:SL
def own (N:Ns) (E:En):List Nat:=[N.t,N.w,N.b,N.a,N.r]++(oneN N.x E.s++oneN N.m E.L)
structure Lk (N:Ns) (E:En) (H:HL):Prop where
 t:aget H N.t=some (.cells false (cT N.w N.a E.t))
 w:aget H N.w=some (.cells false (cW N.b E.t.w))
 b:aget H N.b=some (.cells false (E.t.w.L.map .u64))
 a:aget H N.a=some (.cells false [.u64 E.t.made])
 r:aget H N.r=some (.cells false (cD (slQ N.m (qL E.L)) E.c))
 m:E.L ≠ []→aget H N.m=some (.cells false (E.L.map .u64))
 x:E.s ≠ []→aget H N.x=some (.cells false (snC E.s))
structure QInv (k:Bool) (p:Nat) (N N':Ns) (E E':En) (H:HL) (fr:Nat):Prop where
 hp:aget H p=some (.cells false (pK k (.ptr N.t 0) (.ptr N'.t 0) (.ptr N.r 0) (.ptr N'.r 0) (slS N.x E.s) (slS N'.x E'.s)))
 o:Lk N E H
 o':Lk N' E' H
 nd:(p::(own N E++own N' E')).Nodup
 lt:∀ n,n ∈ p::(own N E++own N' E')→n < fr
theorem pK_flip (k:Bool) (a a' b b' s s':AVal):pK (!k) a' a b' b s' s=pK k a a' b b' s s':=by cases k <;> rfl
theorem QInv.flip {k:Bool}{p:Nat}{N N':Ns}{E E':En}{H:HL}{fr:Nat}(h:QInv k p N N' E E' H fr):QInv (!k) p N' N E' E H fr:=by
 refine ⟨by rw [h.hp,pK_flip],h.o',h.o,?_,fun n hn=>h.lt n ?_⟩
 ·have:=h.nd
  rw [List.nodup_cons,List.nodup_append] at this ⊢
  obtain ⟨h1,h2,h3,h4⟩:=this
  refine ⟨fun hm=>h1 ?_,h3,h2,fun a ha b hb e=>h4 b hb a ha e.symm⟩
  rw [List.mem_append] at hm ⊢
  exact hm.symm
 ·rw [List.mem_cons,List.mem_append] at hn ⊢
  exact hn.imp_right Or.symm
theorem mem_oneN {m:Nat}{α:Type}{l:List α}(h:l ≠ []):m ∈ oneN m l:=by cases l <;> simp [oneN] at *
theorem oneN_sub {m n:Nat}{α:Type}{l:List α}(h:n ∈ oneN m l):n=m∧l ≠ []:=by cases l <;> simp [oneN] at *; exact h
theorem slS_eq {a b:Nat}{l:SL}(h:l ≠ []→a=b):slS a l=slS b l:=by
 cases l with
 | nil=>rfl
 | cons x l=>rw [h (by simp)]
theorem slQ_eq {a b:Nat}{L:List UInt64}(h:L ≠ []→a=b):slQ a (qL L)=slQ b (qL L):=by
 cases L with
 | nil=>rfl
 | cons x l=>rw [h (by simp)]
theorem Lk.keep {N:Ns}{E:En}{H H':HL}(h:Lk N E H) (hk:∀ n,n ∈ own N E→aget H' n=aget H n):Lk N E H':=by
 have e:∀ n,n ∈ [N.t,N.w,N.b,N.a,N.r]→n ∈ own N E:=fun n hn=>List.mem_append.2 (.inl hn)
 refine ⟨by rw [hk _ (e _ (by simp))]; exact h.t,by rw [hk _ (e _ (by simp))]; exact h.w,by rw [hk _ (e _ (by simp))]; exact h.b,by rw [hk _ (e _ (by simp))]; exact h.a,by rw [hk _ (e _ (by simp))]; exact h.r,fun hL => ?_,fun hs => ?_⟩
 ·rw [hk _ (List.mem_append.2 (.inr (List.mem_append.2 (.inr (mem_oneN hL)))))]; exact h.m hL
 ·rw [hk _ (List.mem_append.2 (.inr (List.mem_append.2 (.inl (mem_oneN hs)))))]; exact h.x hs
section
variable {k:Bool}{p:Nat}{N N':Ns}{E E':En}{H:HL}{fr:Nat}
theorem QInv.find (h:QInv k p N N' E E' H fr):pFind k p (aget H)=some (⟨[p,N.t,N.w,N.b,N.a,N.r,N'.t,N'.r],oneN N.m E.L,oneN N.x E.s,oneN N'.x E'.s⟩,⟨E.t,E.c,E.L,E.s,E'.s⟩):=
 pFind_at h.hp h.o.t h.o.w h.o.b h.o.a h.o.r (fun x l e=>by rw [h.o.m (by rw [e]; simp),e]) h.o.x h.o'.x
def nsA (p:Nat) (N N':Ns) (E E':En):List Nat:=[p,N.t,N.w,N.b,N.a,N.r,N'.t,N'.r]++(oneN N.x E.s++(oneN N.m E.L++oneN N'.x E'.s))
theorem sub_nodup {l m:List Nat}(h:l.Nodup){ix:List Nat}(hi:ix.Nodup) (hm:m=ix.map (l.getD · 0)) (hb:∀ i,i ∈ ix→i < l.length):m.Nodup:=by
 subst hm
 have:=List.Pairwise.and_mem.1 hi
 refine List.pairwise_map.2 (this.imp fun {i j} ⟨h1,h2,h3⟩ e=>h3 ?_)
 have a1:=getD_at (hb i h1)
 have a2:=getD_at (hb j h2)
 rw [e] at a1
 exact inj_of_nodup h a1 a2
theorem nsA_nodup (h:QInv k p N N' E E' H fr):(nsA p N N' E E').Nodup:=by
 have nd:=h.nd
 obtain ⟨t,c,L,s⟩:=E
 obtain ⟨t',c',L',s'⟩:=E'
 cases s <;> cases L <;> cases s'
 ·exact sub_nodup nd (ix:=[0,1,2,3,4,5,6,10]) (by decide) rfl (by simp [own,oneN])
 ·exact sub_nodup nd (ix:=[0,1,2,3,4,5,6,10,11]) (by decide) rfl (by simp [own,oneN])
 ·exact sub_nodup nd (ix:=[0,1,2,3,4,5,7,11,6]) (by decide) rfl (by simp [own,oneN])
 ·exact sub_nodup nd (ix:=[0,1,2,3,4,5,7,11,6,12]) (by decide) rfl (by simp [own,oneN])
 ·exact sub_nodup nd (ix:=[0,1,2,3,4,5,7,11,6]) (by decide) rfl (by simp [own,oneN])
 ·exact sub_nodup nd (ix:=[0,1,2,3,4,5,7,11,6,12]) (by decide) rfl (by simp [own,oneN])
 ·exact sub_nodup nd (ix:=[0,1,2,3,4,5,8,12,6,7]) (by decide) rfl (by simp [own,oneN])
 ·exact sub_nodup nd (ix:=[0,1,2,3,4,5,8,12,6,7,13]) (by decide) rfl (by simp [own,oneN])
theorem nsA_sub {n:Nat}(hn:n ∈ nsA p N N' E E'):n ∈ p::(own N E++own N' E'):=by
 unfold nsA at hn
 unfold own
 simp only [List.mem_append,List.mem_cons,List.mem_nil_iff,or_false] at hn ⊢
 rcases hn with (h | h | h | h | h | h | h | h) | h | h | h <;> simp [h]
end
end Go.Proofs.Ytjdhndicgifnbaa.Tun
namespace Go.Eng
open Go Go.WideShapes Go.ChangeShapes
theorem post_of_grew {H:Type}{enc:TypeId × Value→H}{P:Program}{f:Func}{s:ChangeSpec}{apart fresh handsOn again:Bool}{W W':World}{args:Array Value}{v:Value}{ds gs:List (DataW H)}{before pa pv:List MemPlace}
  (hW:DataW.Whole enc P f.params.toList s.vars apart W args.toList ds gs before)
  (hres:∀ (b:Nat) (sp:Nat→Bool) (hd:Bool),DataW.TrodAll enc P W' b sp hd f.resultTypes.toList (v.resultList f.resultTypes.size) (s.fn H (ds++gs)).results [])
  (hargs:∀ sp:Nat→Bool,(∀ p ∈ before,sp p.block=true)→DataW.TrodAll enc P W' 0 sp true f.params.toList args.toList (s.fn H (ds++gs)).args pa)
  (hvars:∀ sp:Nat→Bool,(∀ p ∈ before,sp p.block=true)→DataW.TrodVars enc P W' sp s.vars (s.fn H (ds++gs)).vars pv)
  (hps:before=pa++pv) (hg:Grew W W')
  (hok:∀ (j:Nat) (t:TypeId) (r:Value),f.resultTypes[j]? = some t→(v.resultList f.resultTypes.size)[j]? = some r→Value.okWide P W' .any 0 t r) :
  s.post enc P f apart fresh handsOn again W args v W':=by
 have hlt:=hW.lt
 have hold:∀ p ∈ before,(fun b=>decide (b < W.heap.size)) p.block=true:=fun p hp=>by simpa using hlt p hp
 refine ⟨ds,gs,before,[],pa,pv,hW,hres _ _ _,hargs _ hold,hvars _ hold,World.keptBut_mono (fun p hp=>hp.elim) hg.1,fun _ => ?_⟩
 obtain ⟨_,_,_,_,_,hz,hn⟩:=hW
 have hmem:∀ p,p ∈ ([]++pa)++pv→p ∈ before:=fun p hp=>by rw [hps]; simpa using hp
 refine ⟨hok,_,_,([]++pa)++pv,⟨[]++pa,pv,trodAll_append (hargs _ (fun _ _=>rfl)) (hres _ _ _),hvars _ (fun _ _=>rfl),rfl,fun b off hp => ?_,fun ha => ?_⟩,fun p hp _ => ?_⟩
 ·have hb:=hmem _ hp
  rw [hg.2.1 ⟨b,off,none⟩ (hlt _ hb)]
  exact hz b off hb
 ·have:=hn ha
  rw [hps] at this
  simpa using this
 ·exact hmem _ hp
theorem vr_str (σ:Sig) (a:ByteArray):VR σ (.str a.data.toList) (.string a):=by
 have:=VR.str (σ:=σ) a.data.toList
 rwa [Array.toArray_toList] at this
theorem wf_le {k:IntKind}{n:Int}(h:(Lit.int k n).wf=true):k.min≤n∧n≤k.max:=by
 simpa only [Lit.wf,Bool.and_eq_true,decide_eq_true_eq] using h
theorem vr_u8 {a:Int}(h:(Lit.int .u8 a).wf=true):∃ x:UInt8,∀ σ,VR σ (.u8 x) (.int .u8 a):=by
 have h':=wf_le h
 have h1:(0:Int)≤a:=h'.1
 have h2:a≤255:=h'.2
 refine ⟨UInt8.ofNat a.toNat,fun σ => ?_⟩
 have e:((UInt8.ofNat a.toNat).toNat:Int)=a:=by rw [UInt8.toNat_ofNat_of_lt' (show a.toNat < 256 by omega)]; omega
 have:=VR.u8 (σ:=σ) (UInt8.ofNat a.toNat)
 rwa [e] at this
theorem vr_u64 {a:Int}(h:(Lit.int .u64 a).wf=true):∃ x:UInt64,∀ σ,VR σ (.u64 x) (.int .u64 a):=by
 have h':=wf_le h
 have h1:(0:Int)≤a:=h'.1
 have h2:a≤18446744073709551615:=h'.2
 refine ⟨UInt64.ofNat a.toNat,fun σ => ?_⟩
 have e:((UInt64.ofNat a.toNat).toNat:Int)=a:=by rw [UInt64.toNat_ofNat_of_lt' (show a.toNat < 18446744073709551616 by omega)]; omega
 have:=VR.u64 (σ:=σ) (UInt64.ofNat a.toNat)
 rwa [e] at this
end Go.Eng
