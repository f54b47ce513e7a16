/- Texts VACi2b, VACi2c, VACi2d, VACi3a, Eng37, VACi3b, VACi4, VACi5, Pv1, Pv2, VAPl1, VAPl2, VAPl3, Eng46, VAPl4, Eng47, VAPl5, VAPl6, VAPl7, VAPl8, VAPl9, VAPm0, VAPm1: what they show that this claim uses. -/
import Derived.Test.YtcplgmgpagekfaaDoorB8
import Derived.Test.YtcplgmgpagekfaaDoorB6
import Derived.Test.YtcplgmgpagekfaaDoorB7
set_option maxRecDepth 100000
set_option maxHeartbeats 1000000
set_option linter.unusedVariables false
set_option linter.unusedSimpArgs false
namespace Go.Proofs.YtcplgmgpagekfaaDoor.Cha
open Go Go.Eng Go.Cha
def Ty (φ:Fb) (k n:List UInt8) (cq:UInt32) (x:Int) (j:Nat):TL:=[(6,.int .i64 j),(7,.u8 (φ.bb k n cq j)),(1,.ptr 193 0),(2,.ptr 194 0),(3,.ptr 195 0),(5,.int .i64 x),(17,.agg ((List.range 64).map fun i=>.u8 (φ.bb k n cq i))),(18,.int .i64 j)]
def T2 (φ:Fb) (k n:List UInt8) (cq:UInt32) (x:Int) (j:Nat) (b:Bool):TL:=[(27,.bool b),(1,.ptr 193 0),(2,.ptr 194 0),(3,.ptr 195 0),(5,.int .i64 x),(17,.agg ((List.range 64).map fun i=>.u8 (φ.bb k n cq i))),(18,.int .i64 j),(28,.bool (!b))]
noncomputable def sg (φ:Fb) (sy:List Nat) (vs:List AVal) (Ts T:TL) (H:HL) (l:List Code):Option (XA × TL × HL × List Bool):=endS Ts (evSO Tryd.prog (psb φ) (nb φ) sy Tryd.f82.ntmps (mask 82) 100 200 l ⟨T,H,200⟩ ⟨[],vs,[]⟩)
noncomputable def rC:Code:=.cond (.tmp 28) .ret .skip
theorem s0 (φ:Fb) (k n:List UInt8) (c:UInt32):sg φ [] [] (T0 0) Tc (Hc k n c) [p18.getD 0 .skip]=some (.normal,T0 0,Hc k n c,[]):=by kernel_rfl
theorem s2 (φ:Fb) (k n:List UInt8) (c cq:UInt32) (x:Int):sg φ [17,200016] [.u32 cq] (Tj φ k n cq x 0) (T0 x) (Hc k n c) [pB.getD 0 .skip]=some (.normal,Tj φ k n cq x 0,Hc k n c,[φ.may k n,eqS (.u32 (c+UInt32.ofInt (IntKind.wrap .i64 (Int.tdiv x 64)))) (.u32 cq)]):=by kernel_rfl
theorem s1 (φ:Fb) (k n:List UInt8) (c cq:UInt32) (x y:Int):sg φ [200009] [.int .i64 y] (T0 y) (Tj φ k n cq x 64) (Hc k n c) [pL.getD 1 .skip]=some (.normal,T0 y,Hc k n c,[eqS (.int .i64 (IntKind.wrap .i64 (x+64))) (.int .i64 y)]):=by kernel_rfl
theorem s64 (φ:Fb) (k n:List UInt8) (c cq:UInt32) (x:Int):sg φ [] [] (Tj φ k n cq x 64) (Tj φ k n cq x 64) (Hc k n c) [pI.getD 0 .skip,.cond (.tmp 19) .skip (.exit 2)]=some (.exit 2,Tj φ k n cq x 64,Hc k n c,[]):=by kernel_rfl
def Pj (φ:Fb) (k n:List UInt8) (c cq:UInt32) (x:Int) (j:Nat):Prop:=
 sg φ [] [] (Tj φ k n cq x j) (Tj φ k n cq x j) (Hc k n c) [pI.getD 0 .skip,.cond (.tmp 19) .skip (.exit 2)]=some (.normal,Tj φ k n cq x j,Hc k n c,[]) ∧
 sg φ [] [] (Ty φ k n cq x j) (Tj φ k n cq x j) (Hc k n c) [p3.getD 0 .skip]=some (.normal,Ty φ k n cq x j,Hc k n c,[]) ∧
 sg φ [] [] (Tj φ k n cq x (j+1:Nat)) (T2 φ k n cq x j true) (Hc k n c) [pI.getD 3 .skip]=some (.normal,Tj φ k n cq x (j+1:Nat),Hc k n c,[])
theorem t0 (φ:Fb) (k n:List UInt8) (c cq:UInt32) (x:Int):Pj φ k n c cq x 0:=⟨by kernel_rfl,by kernel_rfl,by kernel_rfl⟩
theorem t1 (φ:Fb) (k n:List UInt8) (c cq:UInt32) (x:Int):Pj φ k n c cq x 1:=⟨by kernel_rfl,by kernel_rfl,by kernel_rfl⟩
theorem t2 (φ:Fb) (k n:List UInt8) (c cq:UInt32) (x:Int):Pj φ k n c cq x 2:=⟨by kernel_rfl,by kernel_rfl,by kernel_rfl⟩
theorem t3 (φ:Fb) (k n:List UInt8) (c cq:UInt32) (x:Int):Pj φ k n c cq x 3:=⟨by kernel_rfl,by kernel_rfl,by kernel_rfl⟩
theorem t4 (φ:Fb) (k n:List UInt8) (c cq:UInt32) (x:Int):Pj φ k n c cq x 4:=⟨by kernel_rfl,by kernel_rfl,by kernel_rfl⟩
theorem t5 (φ:Fb) (k n:List UInt8) (c cq:UInt32) (x:Int):Pj φ k n c cq x 5:=⟨by kernel_rfl,by kernel_rfl,by kernel_rfl⟩
theorem t6 (φ:Fb) (k n:List UInt8) (c cq:UInt32) (x:Int):Pj φ k n c cq x 6:=⟨by kernel_rfl,by kernel_rfl,by kernel_rfl⟩
theorem t7 (φ:Fb) (k n:List UInt8) (c cq:UInt32) (x:Int):Pj φ k n c cq x 7:=⟨by kernel_rfl,by kernel_rfl,by kernel_rfl⟩
theorem t8 (φ:Fb) (k n:List UInt8) (c cq:UInt32) (x:Int):Pj φ k n c cq x 8:=⟨by kernel_rfl,by kernel_rfl,by kernel_rfl⟩
theorem t9 (φ:Fb) (k n:List UInt8) (c cq:UInt32) (x:Int):Pj φ k n c cq x 9:=⟨by kernel_rfl,by kernel_rfl,by kernel_rfl⟩
theorem t10 (φ:Fb) (k n:List UInt8) (c cq:UInt32) (x:Int):Pj φ k n c cq x 10:=⟨by kernel_rfl,by kernel_rfl,by kernel_rfl⟩
theorem t11 (φ:Fb) (k n:List UInt8) (c cq:UInt32) (x:Int):Pj φ k n c cq x 11:=⟨by kernel_rfl,by kernel_rfl,by kernel_rfl⟩
theorem t12 (φ:Fb) (k n:List UInt8) (c cq:UInt32) (x:Int):Pj φ k n c cq x 12:=⟨by kernel_rfl,by kernel_rfl,by kernel_rfl⟩
theorem t13 (φ:Fb) (k n:List UInt8) (c cq:UInt32) (x:Int):Pj φ k n c cq x 13:=⟨by kernel_rfl,by kernel_rfl,by kernel_rfl⟩
theorem t14 (φ:Fb) (k n:List UInt8) (c cq:UInt32) (x:Int):Pj φ k n c cq x 14:=⟨by kernel_rfl,by kernel_rfl,by kernel_rfl⟩
theorem t15 (φ:Fb) (k n:List UInt8) (c cq:UInt32) (x:Int):Pj φ k n c cq x 15:=⟨by kernel_rfl,by kernel_rfl,by kernel_rfl⟩
theorem t16 (φ:Fb) (k n:List UInt8) (c cq:UInt32) (x:Int):Pj φ k n c cq x 16:=⟨by kernel_rfl,by kernel_rfl,by kernel_rfl⟩
theorem t17 (φ:Fb) (k n:List UInt8) (c cq:UInt32) (x:Int):Pj φ k n c cq x 17:=⟨by kernel_rfl,by kernel_rfl,by kernel_rfl⟩
theorem t18 (φ:Fb) (k n:List UInt8) (c cq:UInt32) (x:Int):Pj φ k n c cq x 18:=⟨by kernel_rfl,by kernel_rfl,by kernel_rfl⟩
theorem t19 (φ:Fb) (k n:List UInt8) (c cq:UInt32) (x:Int):Pj φ k n c cq x 19:=⟨by kernel_rfl,by kernel_rfl,by kernel_rfl⟩
theorem t20 (φ:Fb) (k n:List UInt8) (c cq:UInt32) (x:Int):Pj φ k n c cq x 20:=⟨by kernel_rfl,by kernel_rfl,by kernel_rfl⟩
theorem t21 (φ:Fb) (k n:List UInt8) (c cq:UInt32) (x:Int):Pj φ k n c cq x 21:=⟨by kernel_rfl,by kernel_rfl,by kernel_rfl⟩
theorem t22 (φ:Fb) (k n:List UInt8) (c cq:UInt32) (x:Int):Pj φ k n c cq x 22:=⟨by kernel_rfl,by kernel_rfl,by kernel_rfl⟩
theorem t23 (φ:Fb) (k n:List UInt8) (c cq:UInt32) (x:Int):Pj φ k n c cq x 23:=⟨by kernel_rfl,by kernel_rfl,by kernel_rfl⟩
theorem t24 (φ:Fb) (k n:List UInt8) (c cq:UInt32) (x:Int):Pj φ k n c cq x 24:=⟨by kernel_rfl,by kernel_rfl,by kernel_rfl⟩
theorem t25 (φ:Fb) (k n:List UInt8) (c cq:UInt32) (x:Int):Pj φ k n c cq x 25:=⟨by kernel_rfl,by kernel_rfl,by kernel_rfl⟩
theorem t26 (φ:Fb) (k n:List UInt8) (c cq:UInt32) (x:Int):Pj φ k n c cq x 26:=⟨by kernel_rfl,by kernel_rfl,by kernel_rfl⟩
theorem t27 (φ:Fb) (k n:List UInt8) (c cq:UInt32) (x:Int):Pj φ k n c cq x 27:=⟨by kernel_rfl,by kernel_rfl,by kernel_rfl⟩
theorem t28 (φ:Fb) (k n:List UInt8) (c cq:UInt32) (x:Int):Pj φ k n c cq x 28:=⟨by kernel_rfl,by kernel_rfl,by kernel_rfl⟩
theorem t29 (φ:Fb) (k n:List UInt8) (c cq:UInt32) (x:Int):Pj φ k n c cq x 29:=⟨by kernel_rfl,by kernel_rfl,by kernel_rfl⟩
theorem t30 (φ:Fb) (k n:List UInt8) (c cq:UInt32) (x:Int):Pj φ k n c cq x 30:=⟨by kernel_rfl,by kernel_rfl,by kernel_rfl⟩
theorem t31 (φ:Fb) (k n:List UInt8) (c cq:UInt32) (x:Int):Pj φ k n c cq x 31:=⟨by kernel_rfl,by kernel_rfl,by kernel_rfl⟩
theorem t32 (φ:Fb) (k n:List UInt8) (c cq:UInt32) (x:Int):Pj φ k n c cq x 32:=⟨by kernel_rfl,by kernel_rfl,by kernel_rfl⟩
theorem t33 (φ:Fb) (k n:List UInt8) (c cq:UInt32) (x:Int):Pj φ k n c cq x 33:=⟨by kernel_rfl,by kernel_rfl,by kernel_rfl⟩
theorem t34 (φ:Fb) (k n:List UInt8) (c cq:UInt32) (x:Int):Pj φ k n c cq x 34:=⟨by kernel_rfl,by kernel_rfl,by kernel_rfl⟩
theorem t35 (φ:Fb) (k n:List UInt8) (c cq:UInt32) (x:Int):Pj φ k n c cq x 35:=⟨by kernel_rfl,by kernel_rfl,by kernel_rfl⟩
theorem t36 (φ:Fb) (k n:List UInt8) (c cq:UInt32) (x:Int):Pj φ k n c cq x 36:=⟨by kernel_rfl,by kernel_rfl,by kernel_rfl⟩
theorem t37 (φ:Fb) (k n:List UInt8) (c cq:UInt32) (x:Int):Pj φ k n c cq x 37:=⟨by kernel_rfl,by kernel_rfl,by kernel_rfl⟩
theorem t38 (φ:Fb) (k n:List UInt8) (c cq:UInt32) (x:Int):Pj φ k n c cq x 38:=⟨by kernel_rfl,by kernel_rfl,by kernel_rfl⟩
theorem t39 (φ:Fb) (k n:List UInt8) (c cq:UInt32) (x:Int):Pj φ k n c cq x 39:=⟨by kernel_rfl,by kernel_rfl,by kernel_rfl⟩
theorem t40 (φ:Fb) (k n:List UInt8) (c cq:UInt32) (x:Int):Pj φ k n c cq x 40:=⟨by kernel_rfl,by kernel_rfl,by kernel_rfl⟩
theorem t41 (φ:Fb) (k n:List UInt8) (c cq:UInt32) (x:Int):Pj φ k n c cq x 41:=⟨by kernel_rfl,by kernel_rfl,by kernel_rfl⟩
theorem t42 (φ:Fb) (k n:List UInt8) (c cq:UInt32) (x:Int):Pj φ k n c cq x 42:=⟨by kernel_rfl,by kernel_rfl,by kernel_rfl⟩
theorem t43 (φ:Fb) (k n:List UInt8) (c cq:UInt32) (x:Int):Pj φ k n c cq x 43:=⟨by kernel_rfl,by kernel_rfl,by kernel_rfl⟩
theorem t44 (φ:Fb) (k n:List UInt8) (c cq:UInt32) (x:Int):Pj φ k n c cq x 44:=⟨by kernel_rfl,by kernel_rfl,by kernel_rfl⟩
theorem t45 (φ:Fb) (k n:List UInt8) (c cq:UInt32) (x:Int):Pj φ k n c cq x 45:=⟨by kernel_rfl,by kernel_rfl,by kernel_rfl⟩
theorem t46 (φ:Fb) (k n:List UInt8) (c cq:UInt32) (x:Int):Pj φ k n c cq x 46:=⟨by kernel_rfl,by kernel_rfl,by kernel_rfl⟩
theorem t47 (φ:Fb) (k n:List UInt8) (c cq:UInt32) (x:Int):Pj φ k n c cq x 47:=⟨by kernel_rfl,by kernel_rfl,by kernel_rfl⟩
theorem t48 (φ:Fb) (k n:List UInt8) (c cq:UInt32) (x:Int):Pj φ k n c cq x 48:=⟨by kernel_rfl,by kernel_rfl,by kernel_rfl⟩
theorem t49 (φ:Fb) (k n:List UInt8) (c cq:UInt32) (x:Int):Pj φ k n c cq x 49:=⟨by kernel_rfl,by kernel_rfl,by kernel_rfl⟩
theorem t50 (φ:Fb) (k n:List UInt8) (c cq:UInt32) (x:Int):Pj φ k n c cq x 50:=⟨by kernel_rfl,by kernel_rfl,by kernel_rfl⟩
theorem t51 (φ:Fb) (k n:List UInt8) (c cq:UInt32) (x:Int):Pj φ k n c cq x 51:=⟨by kernel_rfl,by kernel_rfl,by kernel_rfl⟩
theorem t52 (φ:Fb) (k n:List UInt8) (c cq:UInt32) (x:Int):Pj φ k n c cq x 52:=⟨by kernel_rfl,by kernel_rfl,by kernel_rfl⟩
theorem t53 (φ:Fb) (k n:List UInt8) (c cq:UInt32) (x:Int):Pj φ k n c cq x 53:=⟨by kernel_rfl,by kernel_rfl,by kernel_rfl⟩
theorem t54 (φ:Fb) (k n:List UInt8) (c cq:UInt32) (x:Int):Pj φ k n c cq x 54:=⟨by kernel_rfl,by kernel_rfl,by kernel_rfl⟩
theorem t55 (φ:Fb) (k n:List UInt8) (c cq:UInt32) (x:Int):Pj φ k n c cq x 55:=⟨by kernel_rfl,by kernel_rfl,by kernel_rfl⟩
theorem t56 (φ:Fb) (k n:List UInt8) (c cq:UInt32) (x:Int):Pj φ k n c cq x 56:=⟨by kernel_rfl,by kernel_rfl,by kernel_rfl⟩
theorem t57 (φ:Fb) (k n:List UInt8) (c cq:UInt32) (x:Int):Pj φ k n c cq x 57:=⟨by kernel_rfl,by kernel_rfl,by kernel_rfl⟩
theorem t58 (φ:Fb) (k n:List UInt8) (c cq:UInt32) (x:Int):Pj φ k n c cq x 58:=⟨by kernel_rfl,by kernel_rfl,by kernel_rfl⟩
theorem t59 (φ:Fb) (k n:List UInt8) (c cq:UInt32) (x:Int):Pj φ k n c cq x 59:=⟨by kernel_rfl,by kernel_rfl,by kernel_rfl⟩
theorem t60 (φ:Fb) (k n:List UInt8) (c cq:UInt32) (x:Int):Pj φ k n c cq x 60:=⟨by kernel_rfl,by kernel_rfl,by kernel_rfl⟩
theorem t61 (φ:Fb) (k n:List UInt8) (c cq:UInt32) (x:Int):Pj φ k n c cq x 61:=⟨by kernel_rfl,by kernel_rfl,by kernel_rfl⟩
theorem t62 (φ:Fb) (k n:List UInt8) (c cq:UInt32) (x:Int):Pj φ k n c cq x 62:=⟨by kernel_rfl,by kernel_rfl,by kernel_rfl⟩
theorem t63 (φ:Fb) (k n:List UInt8) (c cq:UInt32) (x:Int):Pj φ k n c cq x 63:=⟨by kernel_rfl,by kernel_rfl,by kernel_rfl⟩
theorem tall (φ:Fb) (k n:List UInt8) (c cq:UInt32) (x:Int):∀ j,j < 64→Pj φ k n c cq x j
 | 0,_=>t0 φ k n c cq x
 | 1,_=>t1 φ k n c cq x
 | 2,_=>t2 φ k n c cq x
 | 3,_=>t3 φ k n c cq x
 | 4,_=>t4 φ k n c cq x
 | 5,_=>t5 φ k n c cq x
 | 6,_=>t6 φ k n c cq x
 | 7,_=>t7 φ k n c cq x
 | 8,_=>t8 φ k n c cq x
 | 9,_=>t9 φ k n c cq x
 | 10,_=>t10 φ k n c cq x
 | 11,_=>t11 φ k n c cq x
 | 12,_=>t12 φ k n c cq x
 | 13,_=>t13 φ k n c cq x
 | 14,_=>t14 φ k n c cq x
 | 15,_=>t15 φ k n c cq x
 | 16,_=>t16 φ k n c cq x
 | 17,_=>t17 φ k n c cq x
 | 18,_=>t18 φ k n c cq x
 | 19,_=>t19 φ k n c cq x
 | 20,_=>t20 φ k n c cq x
 | 21,_=>t21 φ k n c cq x
 | 22,_=>t22 φ k n c cq x
 | 23,_=>t23 φ k n c cq x
 | 24,_=>t24 φ k n c cq x
 | 25,_=>t25 φ k n c cq x
 | 26,_=>t26 φ k n c cq x
 | 27,_=>t27 φ k n c cq x
 | 28,_=>t28 φ k n c cq x
 | 29,_=>t29 φ k n c cq x
 | 30,_=>t30 φ k n c cq x
 | 31,_=>t31 φ k n c cq x
 | 32,_=>t32 φ k n c cq x
 | 33,_=>t33 φ k n c cq x
 | 34,_=>t34 φ k n c cq x
 | 35,_=>t35 φ k n c cq x
 | 36,_=>t36 φ k n c cq x
 | 37,_=>t37 φ k n c cq x
 | 38,_=>t38 φ k n c cq x
 | 39,_=>t39 φ k n c cq x
 | 40,_=>t40 φ k n c cq x
 | 41,_=>t41 φ k n c cq x
 | 42,_=>t42 φ k n c cq x
 | 43,_=>t43 φ k n c cq x
 | 44,_=>t44 φ k n c cq x
 | 45,_=>t45 φ k n c cq x
 | 46,_=>t46 φ k n c cq x
 | 47,_=>t47 φ k n c cq x
 | 48,_=>t48 φ k n c cq x
 | 49,_=>t49 φ k n c cq x
 | 50,_=>t50 φ k n c cq x
 | 51,_=>t51 φ k n c cq x
 | 52,_=>t52 φ k n c cq x
 | 53,_=>t53 φ k n c cq x
 | 54,_=>t54 φ k n c cq x
 | 55,_=>t55 φ k n c cq x
 | 56,_=>t56 φ k n c cq x
 | 57,_=>t57 φ k n c cq x
 | 58,_=>t58 φ k n c cq x
 | 59,_=>t59 φ k n c cq x
 | 60,_=>t60 φ k n c cq x
 | 61,_=>t61 φ k n c cq x
 | 62,_=>t62 φ k n c cq x
 | 63,_=>t63 φ k n c cq x
 | i+64,h=>by omega
noncomputable def midL:List Oper:=(ops5.toList.drop 1).take 4
theorem mid5 (φ:Fb) (k n:List UInt8) (c cq:UInt32) (x y:Int) (j:Nat):(runS Tryd.prog (psb φ) (nb φ) [200025] Tryd.f82.ntmps ops5 midL 208 (Ty φ k n cq x j) (Hc k n c) ⟨[],[.int .i64 y],[]⟩).map (fun p=>(p.1,p.2.1,p.2.2.ob))=some (Ty φ k n cq x j++[(23,.int .i64 x),(24,.int .i64 j),(25,.int .i64 y),(26,.u8 (φ.bb k n cq j))],Hc k n c,[eqS (.int .i64 (IntKind.wrap .i64 (x+(j:Int)))) (.int .i64 y)]):=by kernel_rfl
theorem post5 (φ:Fb) (k n:List UInt8) (cq:UInt32) (x:Int) (j:Nat) (b:Bool) (Hx:HL):runA Tryd.prog (nb φ) Tryd.f82.ntmps ops5 (ops5.toList.drop 6) 200 ((27,.bool b)::Tj φ k n cq x j) Hx=some (T2 φ k n cq x j b,Hx):=by kernel_rfl
theorem cT (φ:Fb) (k n:List UInt8) (c cq:UInt32) (x:Int) (j:Nat):sg φ [] [] (T2 φ k n cq x j true) (T2 φ k n cq x j true) (Hc k n c) [rC]=some (.normal,T2 φ k n cq x j true,Hc k n c,[]):=by kernel_rfl
theorem cF (φ:Fb) (k n:List UInt8) (cq:UInt32) (x:Int) (j:Nat):sg φ [] [] (T2 φ k n cq x j false) (T2 φ k n cq x j false) [] [rC]=some (.ret,T2 φ k n cq x j false,[],[]):=by kernel_rfl
end Go.Proofs.YtcplgmgpagekfaaDoor.Cha
namespace Go.Proofs.YtcplgmgpagekfaaDoor.Cha
open Go Go.Eng Go.Cha
theorem aget_cases {α:Type}{k s:Nat}{v u:α}{l:List (Nat × α)}(h:aget ((k,v)::l) s=some u):(s=k∧u=v) ∨ aget l s=some u:=by
 simp only [aget] at h
 rcases beq_cases k s with ⟨e,hb⟩ | ⟨_,hb⟩ <;> rw [hb] at h <;> simp only [cond_true,cond_false] at h
 ·cases h; exact .inl ⟨e.symm,rfl⟩
 ·exact .inr h
def capS:List AVal:=[.ptr 193 0,.ptr 194 0,.ptr 195 0]
def pin4 (l:Nat) (u0 u1 u2:Value):List (Tmp × Value):=[(0,.func (.yield l) #[] #[]),(1,u0),(2,u1),(3,u2)]
def X (k n:List UInt8) (c:UInt32) (i:Nat):List AVal:=[.int .i64 (i:Int),.u8 (byteAt k n (c+UInt32.ofNat (i / 64)) (i % 64))]
abbrev ITs (k n:List UInt8) (c:UInt32) (l:Nat) (u0 u1 u2:Value) (T:TL) (a:Act) (w:World):Prop:=IT Tryd.prog Tryd.f82.ntmps 200 (Hc k n c) capS #[u0,u1,u2] (pin4 l u0 u1 u2) T a w
theorem roS (k n:List UInt8) (c:UInt32):∀ m o,aget (Hc k n c) m=some o→o.ro=true:=fun m o h=>by
 unfold Hc at h
 rcases aget_cases h with ⟨_,rfl⟩ | h
 ·rfl
 rcases aget_cases h with ⟨_,rfl⟩ | h
 ·rfl
 rcases aget_cases h with ⟨_,rfl⟩ | h
 ·rfl
 simp [aget] at h
theorem gl:Tryd.prog.globals.size≤200:=by
 have:Nat.ble Tryd.prog.globals.size 200=true:=by kernel_rfl
 exact Nat.le_of_ble_eq_true this
theorem pin_m (l:Nat) (u0 u1 u2:Value):(pin4 l u0 u1 u2).map (·.1)=[0,1,2,3]:=rfl
theorem seg {k n:List UInt8}{c:UInt32}{l:Nat}{u0 u1 u2:Value}{J:World→Prop}(hJ:∀ A B,J A→Grown A B→J B){sy:List Nat}{vs:List AVal}{Ts T Tq:TL}{cl:List Code}{x:XA}{ob:List Bool}
  (h:sg realFb sy vs Ts T (Hc k n c) cl=some (x,Tq,Hc k n c,ob)) (ha:allT ob=true) (hTl:ltT 200 Tq=true) (hp:pinS [0,1,2,3] cl=true) {a:Act} {w:World} {Q:Exit→Act→World→Prop} (hi:ITs k n c l u0 u1 u2 T a w) (hj:J w)
  (hQ:∀ a' w',ITs k n c l u0 u1 u2 Tq a' w'→J w'→Q x.out a' w'):wpS none 0 Tryd.prog cl Q a w:=
 itSegO (nb_ps _) nb_ok hmix hJ (roS k n c) rfl rfl gl h ha hTl (pin:=pin4 l u0 u1 u2) (by rw [pin_m]; exact hp) hi hj hQ
theorem split5:∃ o0 oc:Oper,ops5.toList=o0::(midL++oc::ops5.toList.drop 6)∧o0.op=.move (.tmp 0)∧o0.guard=none∧o0.dst=some 22∧oc.op=.call ⟨.value (.tmp 22),#[.tmp 25,.tmp 26],#[3,5]⟩∧oc.guard=none∧oc.dst=some 27∧pinO [0,1,2,3] o0=true∧pinO [0,1,2,3] oc=true∧pinL (22::[0,1,2,3]) midL=true:=
 ⟨ops5[0]!,ops5[5]!,by kernel_rfl,by kernel_rfl,by kernel_rfl,by kernel_rfl,by kernel_rfl,by kernel_rfl,by kernel_rfl,by kernel_rfl,by kernel_rfl,by kernel_rfl⟩
theorem nt18:Tryd.f82.ntmps=30:=by kernel_rfl
theorem lt22:22 < Tryd.f82.ntmps:=by rw [nt18]; decide
theorem lt27:27 < Tryd.f82.ntmps:=by rw [nt18]; decide
section
variable {k n:List UInt8}{c:UInt32}{l:Nat}{u0 u1 u2:Value}{J:Nat→World→Prop}{Jx:World→Prop}{N:Nat}
def Prem (k n:List UInt8) (c:UInt32) (l:Nat) (u0 u1 u2:Value) (J:Nat→World→Prop) (Jx:World→Prop) (N:Nat):Prop:=
 ∀ i W1,J i W1→i≤N∧∃ σ1,GRel Tryd.prog σ1∧HRel σ1 (aget (Hc k n c)) W1∧LR σ1 capS #[u0,u1,u2]∧((i < N ∨ false=false)→∀ xs,LR σ1 (X k n c i) xs→∀ m,YieldAt Fence.wide m Tryd.prog l xs W1 fun e W'=>(e=.returned (.bool true)∧J (i+1) W') ∨ (e=.returned (.bool false)∧Jx W'))
theorem carry {φ:Fb}{cq:UInt32}{x:Int}{j:Nat}{y:Int}:∀ σ1,LR σ1 capS #[u0,u1,u2]→∀ s v,aget (Tj φ k n cq x j) s=some v→s ≠ 22∧s ≠ 27∧((aget (Ty φ k n cq x j++[(23,.int .i64 x),(24,.int .i64 j),(25,.int .i64 y),(26,.u8 (φ.bb k n cq j))]) s=some v∧ltV 0 v=true) ∨ ∃ u,(s,u) ∈ pin4 l u0 u1 u2∧VR σ1 v u):=fun σ1 h s v hs=>by
 obtain ⟨a0,a1,a2,e,h0,h1,h2⟩:=LR.inv3 h
 simp only [Array.mk.injEq,List.cons.injEq,and_true] at e
 obtain ⟨rfl,rfl,rfl⟩:=e
 unfold Tj at hs
 rcases aget_cases hs with ⟨rfl,rfl⟩ | hs
 ·exact ⟨by decide,by decide,.inr ⟨_,by simp [pin4],h0⟩⟩
 rcases aget_cases hs with ⟨rfl,rfl⟩ | hs
 ·exact ⟨by decide,by decide,.inr ⟨_,by simp [pin4],h1⟩⟩
 rcases aget_cases hs with ⟨rfl,rfl⟩ | hs
 ·exact ⟨by decide,by decide,.inr ⟨_,by simp [pin4],h2⟩⟩
 rcases aget_cases hs with ⟨rfl,rfl⟩ | hs
 ·exact ⟨by decide,by decide,.inl ⟨rfl,rfl⟩⟩
 rcases aget_cases hs with ⟨rfl,rfl⟩ | hs
 ·exact ⟨by decide,by decide,.inl ⟨rfl,ltL_u8 0 ((List.range 64).map fun i=>φ.bb k n cq i)⟩⟩
 rcases aget_cases hs with ⟨rfl,rfl⟩ | hs
 ·exact ⟨by decide,by decide,.inl ⟨rfl,rfl⟩⟩
 simp [aget] at hs
theorem wrap_add {x:Nat}{j:Nat}(h:x+j < 4611686018427387904):eqS (.int .i64 (IntKind.wrap .i64 ((x:Int)+(j:Int)))) (.int .i64 ((x+j:Nat):Int))=true:=by
 rw [wrapI _ (by omega) (by omega)]
 simp [eqS]
theorem inner (hJ:∀ i A B,J i A→Grown A B→J i B) (hJx:∀ A B,Jx A→Grown A B→Jx B) (hY:Prem k n c l u0 u1 u2 J Jx N) (hN:N < 1099511627776){q:Nat}{Q:Exit→Act→World→Prop}
  (hret:∀ a w,a.defers=[]→Jx w→Q .ret a w) (hex:∀ a w,ITs k n c l u0 u1 u2 (Tj realFb k n (c+UInt32.ofNat q) ((64 * q:Nat):Int) (64:Nat)) a w→J (64 * q+64) w→Q (.exit 2) a w) :
  ∀ (r j:Nat) (a:Act) (w:World),j+r=64→ITs k n c l u0 u1 u2 (Tj realFb k n (c+UInt32.ofNat q) ((64 * q:Nat):Int) j) a w→J (64 * q+j) w→Code.roundsIn (Fw none) 0 Tryd.prog IB Q (r+1) a w
 | 0,j,a,w,hj,hi,hw=>by
  have:j=64:=by omega
  subst this
  rw [roundsIn_succ]
  refine wpS_pieces IB ?_
  show wpS none 0 Tryd.prog pI _ a w
  rw [pI_eq]
  refine wpS_app' [_,_] [_,_] (seg (J:=J (64 * q+64)) (hJ _) (s64 realFb k n c _ _) rfl rfl (by kernel_rfl) hi hw fun a' w' hi' hw' => ?_)
  exact hex a' w' hi' hw'
 | r+1,j,a,w,hj,hi,hw=>by
  have hj64:j < 64:=by omega
  obtain ⟨p1,p2,p6⟩:=tall realFb k n c (c+UInt32.ofNat q) ((64 * q:Nat):Int) j hj64
  rw [roundsIn_succ]
  refine wpS_pieces IB ?_
  show wpS none 0 Tryd.prog pI _ a w
  rw [pI_eq]
  refine wpS_app' [_,_] [_,_] (seg (J:=J (64 * q+j)) (hJ _) p1 rfl rfl (by kernel_rfl) hi hw fun a1 w1 hi1 hw1 => ?_)
  show (Code.block 3 B3).wpIn (Fw none) 0 Tryd.prog _ a1 w1
  refine wpIn_block (wpS_pieces B3 ?_)
  show wpS none 0 Tryd.prog p3 _ a1 w1
  rw [p3_eq]
  refine wpS_app' [_] [_,_] (seg (J:=J (64 * q+j)) (hJ _) p2 rfl rfl (by kernel_rfl) hi1 hw1 fun a2 w2 hi2 hw2 => ?_)
  show (Code.region 5 ops5 false).wpIn (Fw none) 0 Tryd.prog _ a2 w2
  have hle:=(hY _ _ hw2).1
  have hm:=mid5 realFb k n c (c+UInt32.ofNat q) ((64 * q:Nat):Int) ((64 * q+j:Nat):Int) j
  obtain ⟨⟨T1,H1,q1⟩,hm1,hm2⟩:=optMap hm
  simp only [Prod.mk.injEq] at hm2
  obtain ⟨rfl,rfl,hob⟩:=hm2
  have hmid:=(runS_ok (nb_ps realFb) hm1 (by rw [hob]; simp only [allT]; rw [wrap_add (by omega)]; rfl)).1
  have hX:X k n c (64 * q+j)=[.int .i64 ((64 * q+j:Nat):Int),.u8 (realFb.bb k n (c+UInt32.ofNat q) j)]:=by
   unfold X
   rw [show (64 * q+j) / 64=q by omega,show (64 * q+j) % 64=j by omega]
   rfl
  obtain ⟨o0,oc,hops,e1,e2,e3,e4,e5,e6,e7,e8,e9⟩:=split5
  refine itYield (cs:=nb realFb) (cap:=capS) (lb:=#[u0,u1,u2]) (pin:=pin4 l u0 u1 u2) (l:=l) (J:=J (64 * q+j)) (J':=J (64 * q+j+1)) (Jx:=Jx) nb_ok (hJ _) (hJ _) hJx (roS k n c) rfl rfl gl (List.mem_cons_self ..) hops e1 e2 e3 e4 e5 e6 rfl e7 e8 e9 (show pinL [0,1,2,3] (ops5.toList.drop 6)=true by kernel_rfl) lt22 lt27 (by rfl) hmid (by rfl)
   (Tj realFb k n (c+UInt32.ofNat q) ((64 * q:Nat):Int) j) rfl carry (T2 realFb k n (c+UInt32.ofNat q) ((64 * q:Nat):Int) j) (fun b Hx=>post5 realFb k n _ _ j b Hx) (fun b=>rfl) hi2 hw2 ?_ (.inl rfl) ?_ ?_ ?_
  ·intro W hW
   obtain ⟨_,σ1,g1,g2,g3,g4⟩:=hY _ W hW
   refine ⟨σ1,g1,g2,g3,fun xs hxs m=>g4 (.inr rfl) xs (by rw [hX]; exact hxs) m⟩
  ·intro W hW
   obtain ⟨_,σ1,g1,g2,g3,g4⟩:=hY _ W hW
   exact ⟨σ1,g1,g2,g3⟩
  ·intro a3 w3 hi3 hw3
   refine seg (J:=J (64 * q+j+1)) (hJ _) (cT realFb k n c _ _ j) rfl rfl (by kernel_rfl) hi3 hw3 fun a4 w4 hi4 hw4 => ?_
   refine seg (J:=J (64 * q+j+1)) (hJ _) p6 rfl rfl (by kernel_rfl) hi4 hw4 fun a5 w5 hi5 hw5 => ?_
   exact inner hJ hJx hY hN hret hex r (j+1) a5 w5 (by omega) hi5 hw5
  ·intro a3 w3 hi3 hw3
   refine itSegO (nb_ps realFb) nb_ok hmix (J:=Jx) hJx (fun m o h=>by simp [aget] at h) rfl rfl gl (cF realFb k n _ _ j) rfl rfl (pin:=pin4 l u0 u1 u2) (show pinS [0,1,2,3] [rC]=true by kernel_rfl) hi3 hw3 fun a4 w4 hi4 hw4 => ?_
   obtain ⟨σ,hr,_⟩:=hi4
   exact hret a4 w4 hr.defers hw4
end
end Go.Proofs.YtcplgmgpagekfaaDoor.Cha
namespace Go.Proofs.YtcplgmgpagekfaaDoor.Cha
open Go Go.Eng Go.Cha
theorem ofInt32 (q:Nat):UInt32.ofInt (q:Int)=UInt32.ofNat q:=by
 apply UInt32.toNat_inj.1
 simp [UInt32.ofInt]
 omega
theorem eqS_u32 {a b:UInt32}(h:a=b):eqS (.u32 a) (.u32 b)=true:=by
 subst h
 simp [eqS]
theorem block_no {c:UInt32}{q:Nat}(h:64 * q < 4611686018427387904):eqS (.u32 (c+UInt32.ofInt (IntKind.wrap .i64 (Int.tdiv ((64 * q:Nat):Int) 64)))) (.u32 (c+UInt32.ofNat q))=true:=by
 refine eqS_u32 ?_
 have e:Int.tdiv ((64 * q:Nat):Int) 64=(q:Int):=by
  rw [show (64:Int)=((64:Nat):Int) from rfl,← Int.ofNat_tdiv]
  congr 1
  omega
 rw [e,wrapI _ (by omega) (by omega),ofInt32]
theorem ltT_Tj (φ:Fb) (k n:List UInt8) (cq:UInt32) (x j:Int) (m:Nat):ltT m (Tj φ k n cq x j)=ltT m [(1,.ptr 193 0),(2,.ptr 194 0),(3,.ptr 195 0)]:=by
 have h:ltV m (.agg ((List.range 64).map fun i=>.u8 (φ.bb k n cq i)))=true:=ltL_u8 m ((List.range 64).map fun i=>φ.bb k n cq i)
 unfold Tj
 simp only [ltT,h]
 rfl
theorem Tj_lt (φ:Fb) (k n:List UInt8) (cq:UInt32) (x j:Int):ltT 200 (Tj φ k n cq x j)=true:=(ltT_Tj φ k n cq x j 200).trans (by decide)
theorem at4 {y u0 u1 u2:Value}{B:Array Value}{s:Nat}{v:Value}(h:(#[y,u0,u1,u2]:Array Value)[s]? = some v):(#[y] ++ #[u0,u1,u2]++B)[s]? = some v:=by
 have e:(#[y] ++ #[u0,u1,u2]:Array Value) = #[y,u0,u1,u2]:=rfl
 rw [e,Array.getElem?_append_left (Array.getElem?_eq_some_iff.1 h).1]
 exact h
section
variable {k n:List UInt8}{c:UInt32}{l:Nat}{u0 u1 u2:Value}{J:Nat→World→Prop}{Jx:World→Prop}{N:Nat}
theorem outer (hk:may k n=true) (hJ:∀ i A B,J i A→Grown A B→J i B) (hJx:∀ A B,Jx A→Grown A B→Jx B) (hY:Prem k n c l u0 u1 u2 J Jx N) (hN:N < 1099511627776){Q:Exit→Act→World→Prop}(hret:∀ a w,a.defers=[]→Jx w→Q .ret a w) :
  ∀ (m q:Nat) (a:Act) (w:World),N+1≤64 * (q+m)→ITs k n c l u0 u1 u2 (T0 ((64 * q:Nat):Int)) a w→J (64 * q) w→Code.roundsIn (Fw none) 0 Tryd.prog LB Q (m+1) a w
 | 0,q,a,w,h,hi,hw=>by
  have:=(hY _ _ hw).1
  exfalso
  omega
 | m+1,q,a,w,h,hi,hw=>by
  have hle:=(hY _ _ hw).1
  rw [roundsIn_succ]
  refine wpS_pieces LB ?_
  show wpS none 0 Tryd.prog pL _ a w
  rw [pL_eq]
  show (Code.block 1 B1).wpIn (Fw none) 0 Tryd.prog _ a w
  refine wpIn_block (wpS_pieces B1 ?_)
  show wpS none 0 Tryd.prog pB _ a w
  rw [pB_eq]
  refine wpS_app' [_] [_] (seg (J:=J (64 * q)) (hJ _) (s2 realFb k n c (c+UInt32.ofNat q) ((64 * q:Nat):Int)) ?_ (Tj_lt _ _ _ _ _ _) (by kernel_rfl) hi hw fun a1 w1 hi1 hw1 => ?_)
  ·show allT [may k n,_]=true
   rw [hk,block_no (by omega)]; rfl
  show (Code.block 2 (.loop IB)).wpIn (Fw none) 0 Tryd.prog _ a1 w1
  refine wpIn_block (wpIn_loop_rounds (64+1) ?_)
  refine inner hJ hJx hY hN (q:=q) ?_ ?_ 64 0 a1 w1 rfl hi1 hw1
  ·intro a w hd hx
   exact hret a w hd hx
  ·intro a2 w2 hi2 hw2
   simp only [Exit.inBlock,if_true]
   show wpS none 0 Tryd.prog [pL.getD 1 .skip] _ a2 w2
   refine seg (J:=J (64 * q+64)) (hJ _) (s1 realFb k n c (c+UInt32.ofNat q) ((64 * q:Nat):Int) ((64 * (q+1):Nat):Int)) ?_ rfl (by kernel_rfl) hi2 hw2 fun a3 w3 hi3 hw3 => ?_
   ·simp only [allT]
    have:=wrap_add (x:=64 * q) (j:=64) (by omega)
    rw [show 64 * (q+1)=64 * q+64 by omega]
    rw [show ((64:Nat):Int)=64 from rfl] at this
    rw [this]; rfl
   exact outer hk hJ hJx hY hN hret m (q+1) a3 w3 (by omega) hi3 (by rw [show 64 * (q+1)=64 * q+64 by omega]; exact hw3)
end
theorem res18 (tmps:Array Value) (w:World):(results Tryd.f82 tmps).run Tryd.prog w=.ok (.tuple #[]) w:=by
 have hr:Tryd.f82.results = #[]:=by kernel_rfl
 unfold results
 rw [hr]
 simp
theorem stream_it {k n:List UInt8}{c:UInt32}{N:Nat}(hk:may k n=true) (hN:N < 1099511627776):ItOk Tryd.prog 82 capS (Hc k n c) (X k n c) N false:=by
 intro lb l J Jx W hJ hJx hY h0
 obtain ⟨_,σ0,g1,g2,g3,_⟩:=hY 0 W h0
 obtain ⟨u0,u1,u2,rfl,v0,v1,v2⟩:=LR.inv3 g3
 refine (callsIn_wide (n:=0)).1 (callsIn_of_wp_marks (F:=Fence.wide) (fn:=Tryd.f82) (c:=bodyOf Tryd.f82) (by kernel_rfl) (by kernel_rfl) trivial ?_ rfl)
 refine wpS_pieces (ro:=none) (n:=0) _ ?_
 show wpS none 0 Tryd.prog p18 _ _ W
 rw [p18_eq]
 have hsz:Tryd.f82.ntmps=30:=nt18
 have start:ITs k n c l u0 u1 u2 Tc { tmps:=#[.func (.yield l) #[] #[]] ++ #[u0,u1,u2]++Array.replicate (Tryd.f82.ntmps - (#[.func (.yield l) #[] #[]] ++ #[u0,u1,u2]:Array Value).size) undef,defers:=[] } W:=by
  refine ⟨Go.Eng.cut 200 σ0,⟨(RRel.cut (m:=200) (T:=Tc) ⟨fun s v hs => ?_,by simp [bare,hsz],rfl,g2,g1⟩ rfl rfl gl),rfl,fun s v hs => ?_⟩,cut_fresh _ _,ltM_ok rfl g3⟩
  ·unfold Tc at hs
   rcases aget_cases hs with ⟨rfl,rfl⟩ | hs
   ·exact ⟨u0,at4 rfl,v0⟩
   rcases aget_cases hs with ⟨rfl,rfl⟩ | hs
   ·exact ⟨u1,at4 rfl,v1⟩
   rcases aget_cases hs with ⟨rfl,rfl⟩ | hs
   ·exact ⟨u2,at4 rfl,v2⟩
   simp [aget] at hs
  ·simp only [pin4,List.mem_cons,Prod.mk.injEq,List.mem_nil_iff,or_false] at hs
   rcases hs with ⟨rfl,rfl⟩ | ⟨rfl,rfl⟩ | ⟨rfl,rfl⟩ | ⟨rfl,rfl⟩ <;> exact at4 rfl
 refine wpS_app' [_] [_] (seg (J:=J 0) (hJ 0) (s0 realFb k n c) rfl rfl (by kernel_rfl) start h0 fun a w hi hw => ?_)
 show (Code.block 0 (.loop LB)).wpIn (Fw none) 0 Tryd.prog _ a w
 refine wpIn_block (wpIn_loop_rounds (N / 64+2) (outer hk hJ hJx hY hN (fun a w hd hx => ?_) (N / 64+1) 0 a w (by omega) hi hw))
 show LeavesInM Fence.wide 0 Tryd.prog Tryd.f82 a.tmps _ a.defers .returning w
 rw [hd]
 exact ⟨_,res18 _ _,⟨_,rfl⟩,.inr hx⟩
end Go.Proofs.YtcplgmgpagekfaaDoor.Cha
namespace Go.Proofs.YtcplgmgpagekfaaDoor.Cha
open Go Go.Eng Go.Cha
def rfBody:Code→Code
 | .rangeFunc _ _ _ b=>b
 | _=>.skip
def rfAssign:Code→Code
 | .rangeFunc _ _ a _=>a
 | _=>.skip
noncomputable def p10:List Code:=pieces (bodyOf Tryd.f52)
noncomputable def rf10:Code:=blkOf (p10.getD 4 .skip)
noncomputable def as10:Code:=rfAssign rf10
noncomputable def bd10:Code:=rfBody rf10
theorem p10_eq:p10=p10.take 4 ++ .block 1 (.rangeFunc (.tmp 33) #[34,35] as10 bd10)::p10.drop 5:=by kernel_rfl
def nt10 (φ:Fb):CS:=csAlt (csOne 73 k16) (nb φ)
theorem nt10_ok:CSOk Tryd.prog (nt10 realFb):=csAlt_ok k16_ok nb_ok
theorem nt10_ps (φ:Fb):PSOk (psb φ) (nt10 φ):=fun f args e h=>by
 have h1:=nb_ps φ f args e h
 unfold nt10 csAlt csOne
 cases hb:Nat.beq f 73 with
 | false=>exact h1
 | true =>
  rw [Nat.eq_of_beq_eq_true hb] at h
  exact absurd h (by
   intro h2
   have:psb φ 73 args=none:=rfl
   rw [this] at h2
   cases h2)
end Go.Proofs.YtcplgmgpagekfaaDoor.Cha
namespace Go.Eng
open Go
theorem conv_bytes {P:Program}{cs:CS}{nt base:Nat}{ops:Array Oper}{o:Oper}{T T':TL}{H:HL}{s d e:TypeId}{x:Operand}{n m:Nat}{L:List UInt8}{ro:Bool}(hg:o.guard=none) (ho:o.op=.convert s d x) (hx:opd P (aget T) x=some (.slice n 0 m 1))
  (hs:P.underlying s=some (.slice e)) (he:P.underlying e=some (.int .u8)) (hd:P.underlying d=some .string) (hH:aget H n=some (.cells ro (L.map .u8))) (hm:m=L.length) (hput:putT nt T o.dst (.str L)=some T'):stepA P cs nt ops base o T H=some (T',H):=by
 subst hm
 have hc:convA P s d (.slice n 0 L.length 1)=none:=by
  unfold convA
  simp only [hs,hd]
 have hb:bytesStrA P s d (.slice n 0 L.length 1)=some (.read n fun ob=>match ob with
    | .cells _ c=>cond (Nat.ble (0+L.length) c.length) (match bytesA ((c.drop 0).take L.length) with
     | some bs=>some (.str bs)
     | none=>none) none
    | .mp _=>none):=by
  unfold bytesStrA
  simp only [hs,he,hd]
  rfl
 have hf:effA P cs (opd P (aget T)) o=some (.read n fun ob=>match ob with
    | .cells _ c=>cond (Nat.ble (0+L.length) c.length) (match bytesA ((c.drop 0).take L.length) with
     | some bs=>some (.str bs)
     | none=>none) none
    | .mp _=>none):=by
  unfold effA
  rw [ho]
  simp only [hx,nrm,hc,hb,ofV,orElse]
 have hw:wantA ops (aget T) o=some true:=by
  unfold wantA
  rw [hg]
 have hbl:Nat.ble (0+L.length) (L.map AVal.u8).length=true:=Nat.ble_eq_true_of_le (by simp)
 have ht:(L.map AVal.u8).take L.length=L.map .u8:=List.take_of_length_le (by simp)
 unfold stepA
 simp only [hw,hf,EffA.app,hH,hbl,cond_true,List.drop_zero,ht,bytesA_map,hput]
def turnTo (f:Nat→UInt8) (s:List UInt8):Nat→List UInt8
 | 0=>s
 | i+1=>(turnTo f s i).set i (s.getD i 0 ^^^ f i)
theorem turnTo_len (f:Nat→UInt8) (s:List UInt8):∀ i,(turnTo f s i).length=s.length
 | 0=>rfl
 | i+1=>by unfold turnTo; rw [List.length_set]; exact turnTo_len f s i
theorem turnTo_get (f:Nat→UInt8) (s:List UInt8):∀ (i j:Nat),j < s.length→(turnTo f s i)[j]? = some (if j < i then s.getD j 0 ^^^ f j else s.getD j 0)
 | 0,j,h=>by
  rw [if_neg (by omega),List.getD_eq_getElem?_getD]
  show s[j]? = _
  rw [List.getElem?_eq_getElem h]; rfl
 | i+1,j,h=>by
  unfold turnTo
  by_cases e:i=j
  ·subst e
   rw [List.getElem?_set_self (by rw [turnTo_len]; exact h),if_pos (by omega)]
  ·rw [List.getElem?_set_ne e,turnTo_get f s i j h]
   by_cases hl:j < i
   ·rw [if_pos hl,if_pos (by omega)]
   ·rw [if_neg hl,if_neg (by omega)]
theorem putA_u8 (L:List UInt8){i:Nat}(h:i < L.length) (x:UInt8):putA (L.map .u8) (0+((i:Int).toNat * 1)) (cellsA (.u8 x))=(L.set i x).map .u8:=by
 have e:0+((i:Int).toNat * 1)=i:=by simp
 rw [e,List.map_set]
 unfold putA
 show (L.map AVal.u8).take i++[AVal.u8 x]++(L.map AVal.u8).drop (i+1)=_
 rw [List.set_eq_take_append_cons_drop,if_pos (by simpa using h)]
 simp
end Go.Eng
namespace Go.Proofs.YtcplgmgpagekfaaDoor.Cha
open Go Go.Eng Go.Cha
theorem endS_ok {P:Program}{ps:PS}{cs:CS}(hps:PSOk ps cs){sy:List Nat}{nt nn F bs:Nat}{l:List Code}{s:SA}{os:List Bool}{vs:List AVal}{Ts Tq:TL}{x:XA}{H:HL}{ob:List Bool}(h:endS Ts (evSO P ps cs sy nt nn F bs l s ⟨os,vs,[]⟩)=some (x,Tq,H,ob)) (ha:allT ob=true) :
  ∃ s',evS P cs nt nn F bs l s=some (x,s')∧s'.H=H:=by
 unfold endS at h
 split at h
 ·rename_i y s' q hs
  simp only [Option.some.injEq,Prod.mk.injEq] at h
  obtain ⟨rfl,_,rfl,rfl⟩:=h
  exact ⟨s',(evSO_ok hps l _ _ _ _ _ hs ha).1,rfl⟩
 ·cases h
def TL10 (k n s:List UInt8) (c:UInt32):TL:=[(0,.str k),(1,.str n),(2,.u32 c),(3,.str s),(8,.str []),(9,.int .i64 0),(13,.bool false),(18,.bool false),(10,.ptr 153 0),(33,.fn 82 [.ptr 193 0,.ptr 194 0,.ptr 195 0])]
def HH10 (k n:List UInt8) (c:UInt32) (L:List UInt8) (m:Nat):HL:=[(145,.cells false (L.map .u8)),(153,.cells false [.slice 145 0 m 1]),(193,.cells false [.str k]),(194,.cells false [.str n]),(195,.cells false [.u32 c])]
def over (c:UInt32) (m:Nat):Bool:=decide (UInt64.ofNat (Int.toNat 4294967296) < c.toUInt64+UInt64.ofInt (IntKind.wrap .i64 ((m:Int)+63)) / UInt64.ofNat (Int.toNat 64))
theorem w10p (φ:Fb) (k n s:List UInt8) (c:UInt32):segO (evSO Tryd.prog (psb φ) (nt10 φ) [17,27] Tryd.f52.ntmps (mask 52) 100 Tryd.prog.globals.size (p10.take 4) ⟨startT [.str k,.str n,.u32 c,.str s] 0,[],Tryd.prog.globals.size⟩ ⟨[false,false],[],[]⟩)=some (⟨TL10 k n s c,HH10 k n c s s.length,201⟩,[!over c s.length,!!(φ.may k n)]):=by kernel_rfl
theorem w10e (φ:Fb) (k n s:List UInt8) (c:UInt32):ansO (run1O Tryd.prog (psb φ) (nt10 φ) [17,27] [true] [] (mask 52) 100 52 [.str k,.str n,.u32 c,.str s] [] Tryd.prog.globals.size)=some (.tup [.str [],.int .i64 2],[!(φ.may k n)]):=by kernel_rfl
theorem w10l (φ:Fb) (k n s:List UInt8) (c:UInt32):ansO (run1O Tryd.prog (psb φ) (nt10 φ) [17,27] [false,true] [] (mask 52) 100 52 [.str k,.str n,.u32 c,.str s] [] Tryd.prog.globals.size)=some (.tup [.str [],.int .i64 4],[over c s.length,!!(φ.may k n)]):=by kernel_rfl
def TA10 (k n s:List UInt8) (c:UInt32) (i:Nat) (b:UInt8):TL:=TL10 k n s c++[(34,.int .i64 (i:Int)),(35,.u8 b),(11,.int .i64 (i:Int)),(12,.u8 b)]
theorem w10a (φ:Fb) (k n s:List UInt8) (c:UInt32) (H:HL) (i:Nat) (b:UInt8):evC Tryd.prog (nt10 φ) Tryd.f52.ntmps (mask 52) 100 201 as10 ⟨putPs (TL10 k n s c) [34,35] [.int .i64 (i:Int),.u8 b],H,201⟩=some (.normal,⟨TA10 k n s c i b,H,217⟩):=by kernel_rfl
theorem w10b (φ:Fb) (k n s L:List UInt8) (c:UInt32) (i m:Nat) (b x:UInt8):endS [] (evSO Tryd.prog (psb φ) (nt10 φ) [39,43,42,46,100046] Tryd.f52.ntmps (mask 52) 100 201 [bd10] ⟨TA10 k n s c i b,HH10 k n c L m,217⟩ ⟨[false],[.u8 x],[]⟩) =
  some (.normal,[],[(145,.cells false (putA (L.map .u8) (0+((i:Int).toNat * 1)) (cellsA (.u8 (x ^^^ b))))),(153,.cells false [.slice 145 0 m 1]),(193,.cells false [.str k]),(194,.cells false [.str n]),(195,.cells false [.u32 c])],
   [Nat.ble ((0+((i:Int).toNat * 1))+(cellsA (.u8 (x ^^^ b))).length) (L.map AVal.u8).length,decide (0≤(i:Int)) && decide ((i:Int) < (m:Int)),isAt (L.map .u8) (0+((i:Int).toNat * 1)) (.u8 x),decide (0≤(i:Int)) && decide ((i:Int) < (m:Int)),!((i:Int) == (m:Int))]):=by kernel_rfl
theorem w10x (φ:Fb) (k n s L:List UInt8) (c:UInt32) (i m:Nat) (b:UInt8):endS [] (evSO Tryd.prog (psb φ) (nt10 φ) [39,43,42,46,100046] Tryd.f52.ntmps (mask 52) 100 201 [bd10] ⟨TA10 k n s c i b,HH10 k n c L m,217⟩ ⟨[true],[],[]⟩) =
  some (.exit 1,[],HH10 k n c L m,[((i:Int) == (m:Int))]):=by kernel_rfl
noncomputable def ops11:Array Oper:=opsOf (p10.getD 5 .skip)
theorem p10d:p10.drop 5=[.region 11 ops11 false,.ret]:=by kernel_rfl
theorem split11:∃ o0 o1 o2 o3:Oper,ops11.toList=[o0,o1,o2,o3]∧o1.guard=none∧o1.op=.convert 44 9 (.tmp 47)∧o1.dst=some 48 ∧
  (∀ (φ:Fb) k n s c L m,stepA Tryd.prog (nt10 φ) Tryd.f52.ntmps ops11 201 o0 (TL10 k n s c) (HH10 k n c L m)=some (TL10 k n s c++[(47,.slice 145 0 m 1)],HH10 k n c L m)) ∧
  (∀ (φ:Fb) k n s c (L:List UInt8) (H:HL),runA Tryd.prog (nt10 φ) Tryd.f52.ntmps ops11 [o2,o3] 217 (TL10 k n s c++[(47,.slice 145 0 L.length 1),(48,.str L)]) H=some (aset (aset (TL10 k n s c++[(47,.slice 145 0 L.length 1),(48,.str L)]) 8 (.str L)) 9 (.int .i64 0),H)):=
 ⟨ops11[0]!,ops11[1]!,ops11[2]!,ops11[3]!,by kernel_rfl,by kernel_rfl,by kernel_rfl,by kernel_rfl,fun φ k n s c L m=>by kernel_rfl,fun φ k n s c L H=>by kernel_rfl⟩
theorem u36:∃ e,Tryd.prog.underlying 44=some (.slice e)∧Tryd.prog.underlying e=some (.int .u8):=⟨5,by kernel_rfl,by kernel_rfl⟩
theorem u9:Tryd.prog.underlying 9=some .string:=by kernel_rfl
theorem nt10_n:Tryd.f52.ntmps=49:=by kernel_rfl
theorem fin10 (L k n s:List UInt8) (c:UInt32) (H:HL) (fr:Nat):finR Tryd.prog Tryd.f52 ⟨prune (mask 52) (aset (aset (TL10 k n s c++[(47,.slice 145 0 L.length 1),(48,.str L)]) 8 (.str L)) 9 (.int .i64 0)),H,fr⟩=some (.tup [.str L,.int .i64 0],H,fr):=by kernel_rfl
theorem tail10 (φ:Fb) (k n s:List UInt8) (c:UInt32) (L:List UInt8):∃ s2,evS Tryd.prog (nt10 φ) Tryd.f52.ntmps (mask 52) 100 Tryd.prog.globals.size (p10.drop 5) ⟨TL10 k n s c,HH10 k n c L L.length,201⟩=some (.ret,s2)∧∃ H' fr',finR Tryd.prog Tryd.f52 s2=some (.tup [.str L,.int .i64 0],H',fr'):=by
 obtain ⟨o0,o1,o2,o3,h1,h2,h3,h4,h5,h6⟩:=split11
 obtain ⟨e,e1,e2⟩:=u36
 have hc:=conv_bytes (P:=Tryd.prog) (cs:=nt10 φ) (nt:=Tryd.f52.ntmps) (base:=209) (ops:=ops11) (T:=TL10 k n s c++[(47,.slice 145 0 L.length 1)]) (T':=TL10 k n s c++[(47,.slice 145 0 L.length 1),(48,.str L)]) (H:=HH10 k n c L L.length) (n:=145) (m:=L.length) (L:=L) (ro:=false) h2 h3 (by rfl) e1 e2 u9 rfl rfl (by rw [h4,nt10_n]; rfl)
 have hr:=runA_cons (h5 φ k n s c L L.length) rfl (runA_cons hc rfl (h6 φ k n s c L (HH10 k n c L L.length)))
 rw [p10d]
 have he:evC Tryd.prog (nt10 φ) Tryd.f52.ntmps (mask 52) 100 Tryd.prog.globals.size (.region 11 ops11 false) ⟨TL10 k n s c,HH10 k n c L L.length,201⟩=some (.normal,⟨prune (mask 52) (aset (aset (TL10 k n s c++[(47,.slice 145 0 L.length 1),(48,.str L)]) 8 (.str L)) 9 (.int .i64 0)),HH10 k n c L L.length,201+8 * ops11.size⟩):=by
  simp only [evC,regA,h1,hr]
 have hv:evS Tryd.prog (nt10 φ) Tryd.f52.ntmps (mask 52) 100 Tryd.prog.globals.size [.region 11 ops11 false,.ret] ⟨TL10 k n s c,HH10 k n c L L.length,201⟩=some (.ret,⟨prune (mask 52) (aset (aset (TL10 k n s c++[(47,.slice 145 0 L.length 1),(48,.str L)]) 8 (.str L)) 9 (.int .i64 0)),HH10 k n c L L.length,201+8 * ops11.size⟩):=by
  rw [evS,he]; rfl
 exact ⟨_,hv,_,_,fin10 L _ _ _ _ _ _⟩
theorem hlt10 (k n:List UInt8) (c:UInt32) (L:List UInt8) (m:Nat):ltH 201 (HH10 k n c L m)=true:=by
 unfold HH10
 simp only [ltH,ltL_u8]
 rfl
theorem hc10 (k n:List UInt8) (c:UInt32) (L:List UInt8) (m:Nat):LessRo (Hc k n c) (HH10 k n c L m):=fun j o h=>by
 unfold Hc at h
 rcases aget_cases h with ⟨rfl,rfl⟩ | h
 ·exact ⟨false,_,rfl,rfl⟩
 rcases aget_cases h with ⟨rfl,rfl⟩ | h
 ·exact ⟨false,_,rfl,rfl⟩
 rcases aget_cases h with ⟨rfl,rfl⟩ | h
 ·exact ⟨false,_,rfl,rfl⟩
 simp [aget] at h
def tb (k n:List UInt8) (c:UInt32) (i:Nat):UInt8:=byteAt k n (c+UInt32.ofNat (i / 64)) (i % 64)
theorem natI (i m:Nat):((i:Int) == (m:Int))=(i == m):=by rw [Bool.eq_iff_iff]; simp only [beq_iff_eq]; omega
theorem ents {P:Program}{f:FuncId}(hb:bodied P f=true):∀ args w,(callFunc f args).run P w=.ok (.enter f args) w:=by
 obtain ⟨fn,hfn,hbody,hname⟩:=bodied_ok hb
 intro args w
 simp only [callFunc,Sem.run_bind,run_program,Result.andThen_ok,hfn,hname,hbody,Bool.false_eq_true,if_false,Sem.run_pure]
theorem ents10:∀ args w,(callFunc 82 args).run Tryd.prog w=.ok (.enter 82 args) w:=ents (by kernel_rfl)
theorem turn_callOk (k n s:List UInt8) (c:UInt32) (hk:may k n=true) (ho:over c s.length=false) (hs:s.length < 1099511627776):CallOk Tryd.prog 52 [.str k,.str n,.u32 c,.str s] (.pure (.tup [.str (turnTo (tb k n c) s s.length),.int .i64 0])):=by
 have h1:=segO_pre (nt10_ps _) (w10p realFb k n s c) (by show allT [!over c s.length,!!(may k n)]=true; rw [ho,hk]; rfl)
 have hL:(turnTo (tb k n c) s s.length).length=s.length:=turnTo_len _ _ _
 obtain ⟨s2,ht,H',fr',hfin⟩:=tail10 realFb k n s c (turnTo (tb k n c) s s.length)
 rw [hL] at ht
 refine callOk_of (H':=H') (fr':=fr') (fun σ args' w hl hH hg hf => ?_) rfl rfl
 refine runR_ok nt10_ok hmix (nn:=mask 52) (F:=100) (fn:=Tryd.f52) (c:=bodyOf Tryd.f52) (by kernel_rfl) (by kernel_rfl) (by kernel_rfl) (l1:=p10.take 4) (l2:=p10.drop 5) p10_eq h1 (N:=s.length) (fin:=false) (cap:=capS) (Hc:=Hc k n c) (X:=X k n c) (by rfl) ents10 (stream_it hk hs) (Nat.le_trans gl (by show 200≤201; omega))
  (fun i=>HH10 k n c (turnTo (tb k n c) s i) s.length) (fun _ _ h=>h) (fun i _=>hlt10 k n c _ _) (fun i _=>hc10 k n c _ _) (fun i=>rfl) ?_ ?_ (Hf:=HH10 k n c (turnTo (tb k n c) s s.length) s.length) (fun h=>by cases h) (hlt10 k n c _ _) ?_ ht (.inr rfl) hfin hl hH hg hf
 ·intro p hp
  rw [nt10_n]
  simp only [List.mem_cons,List.mem_nil_iff,or_false] at hp
  rcases hp with rfl | rfl <;> decide
 ·intro i hi
  have hli:(turnTo (tb k n c) s i).length=s.length:=turnTo_len _ _ _
  have hx:(turnTo (tb k n c) s i)[i]? = some (s.getD i 0):=by
   rw [turnTo_get _ _ _ _ hi,if_neg (by omega)]
  have q1:((turnTo (tb k n c) s i).map AVal.u8)[0+((i:Int).toNat * 1)]? = some (.u8 (s.getD i 0)):=by
   rw [show 0+((i:Int).toNat * 1)=i by simp,List.getElem?_map,hx]; rfl
  have q2:=isAt_of q1 (by simp [eqS])
  have q3:Nat.ble ((0+((i:Int).toNat * 1))+(cellsA (.u8 (s.getD i 0 ^^^ tb k n c i))).length) ((turnTo (tb k n c) s i).map AVal.u8).length=true:=by
   rw [show 0+((i:Int).toNat * 1)=i by simp,List.length_map,hli]
   exact Nat.ble_eq_true_of_le hi
  have q4:(decide (0≤(i:Int)) && decide ((i:Int) < (s.length:Int)))=true:=by simp; omega
  have q5:((i:Int) == (s.length:Int))=false:=by rw [natI]; simp; omega
  obtain ⟨s',e1,e2⟩:=endS_ok (nt10_ps realFb) (w10b realFb k n s (turnTo (tb k n c) s i) c i s.length (tb k n c i) (s.getD i 0)) (by simp only [allT,q2,q3,q4,q5]; rfl)
  rw [evS_one] at e1
  refine ⟨_,s',w10a realFb k n s c _ i (tb k n c i),e1,fun m o hm => ?_⟩
  rw [e2,putA_u8 _ (by rw [hli]; exact hi)]
  exact hm
 ·intro _
  obtain ⟨s',e1,e2⟩:=endS_ok (nt10_ps realFb) (w10x realFb k n s (turnTo (tb k n c) s s.length) c s.length s.length (tb k n c s.length)) (by simp [allT])
  rw [evS_one] at e1
  refine ⟨_,s',w10a realFb k n s c _ s.length (tb k n c s.length),e1,fun m o hm => ?_⟩
  rw [e2]
  exact hm
end Go.Proofs.YtcplgmgpagekfaaDoor.Cha
namespace Go.Proofs.YtcplgmgpagekfaaDoor.Cha
open Go Go.Eng Go.Cha
theorem blkL_len (φ:Fb) (k n:List UInt8) (c:UInt32):(blkL φ k n c).length=64:=by unfold blkL; simp
def tvR (k n:List UInt8) (c:UInt32) (s:List UInt8):List UInt8:=cond (may k n) (cond (over c s.length) [] (turnTo (tb k n c) s s.length)) []
def trR (k n:List UInt8) (c:UInt32) (s:List UInt8):Int:=cond (may k n) (cond (over c s.length) 4 0) 2
def shortB (s:List UInt8):Bool:=Nat.ble s.length 1099511627775
theorem call10 (k n s:List UInt8) (c:UInt32) (h:shortB s=true):CallOk Tryd.prog 52 [.str k,.str n,.u32 c,.str s] (.pure (.tup [.str (tvR k n c s),.int .i64 (trR k n c s)])):=by
 have hs:=Nat.le_of_ble_eq_true h
 unfold tvR trR
 cases hk:may k n
 ·exact callOk_val nt10_ok hmix (ansO_run (nt10_ps _) (w10e realFb k n s c) (by show allT [!(may k n)]=true; rw [hk]; rfl)) rfl rfl
 cases ho:over c s.length
 ·exact turn_callOk k n s c hk ho (by omega)
 ·exact callOk_val nt10_ok hmix (ansO_run (nt10_ps _) (w10l realFb k n s c) (by show allT [over c s.length,!!(may k n)]=true; rw [ho,hk]; rfl)) rfl rfl
end Go.Proofs.YtcplgmgpagekfaaDoor.Cha
namespace Go.Poly
theorem i5 {P:Nat→Prop}(h0:P 0) (h1:P 1) (h2:P 2) (h3:P 3) (h4:P 4):∀ i,i < 5→P i:=fun i hi=>by
 match i,hi with
 | 0,_=>exact h0
 | 1,_=>exact h1
 | 2,_=>exact h2
 | 3,_=>exact h3
 | 4,_=>exact h4
def zN (x y:Nat→Nat) (j:Nat):Nat→Nat
 | 0=>0
 | i+1=>zN x y j i+x i * (if i≤j then y (j - i) else y (j+5 - i) * 5)
end Go.Poly
namespace Go.Proofs.YtcplgmgpagekfaaDoor.Pol
open Go Go.Eng
set_option maxRecDepth 1000000
def chS (s:Nat) (x:Nat→UInt64):Nat→UInt64
 | 0=>x 0+0
 | j+1=>x (j+1)+shr_u64 (chS s x j) s
def cpass (x:Nat→UInt64) (j:Nat):UInt64:=cond (Nat.beq j 0) ((chS 26 x 0 &&& 67108863)+5 * shr_u64 (chS 26 x 4) 26) (chS 26 x j &&& 67108863)
def carF (x:Nat→UInt64):Nat→UInt64:=cpass (cpass x)
theorem run12 (x:Nat→UInt64):(run1 Tryd.prog noCS (mask 86) 100 86 [.agg (cellsU 5 x)] [] Tryd.prog.globals.size).map (·.1)=some (.agg (cellsU 5 (carF x))):=by kernel_rfl
def rpass (a:Nat→UInt64) (j:Nat):UInt64:=match j with
 | 0=>(chS 8 a 0 &&& 255)+5 * ((shr_u64 (chS 8 a 16 &&& 255) 2 ||| shl_u64 (chS 8 a 17 &&& 255) 6) ||| shl_u64 (shr_u64 (chS 8 a 17) 8) 14)
 | 16=>(chS 8 a 16 &&& 255) &&& 3
 | 17=>0
 | j=>chS 8 a j &&& 255
def carR (a:Nat→UInt64) (j:Nat):UInt64:=chS 8 (rpass (rpass (rpass a))) j &&& 255
structure Fp where
 car:(Nat→UInt64)→Nat→UInt64
 carR:(Nat→UInt64)→Nat→UInt64
def l12 (τ:Fp):List AVal→Option EffA
 | [u]=>match aggU 5 u with
  | some a=>some (.pure (.agg (cellsU 5 (τ.car a))))
  | _=>none
 | _=>none
def l16 (τ:Fp):List AVal→Option EffA
 | [u]=>match aggU 18 u with
  | some a=>some (.pure (.agg (cellsU 18 (τ.carR a))))
  | _=>none
 | _=>none
def nc (τ:Fp):CS:=csAlt (csOne 86 (l12 τ)) (csNo (l16 τ))
def zS (x y:Nat→UInt64) (j:Nat):Nat→UInt64
 | 0=>0
 | i+1=>zS x y j i+x i * cond (Nat.ble i j) (y (j - i)) (y (j+5 - i) * 5)
theorem run13 (τ:Fp) (x y:Nat→UInt64):(run1 Tryd.prog (nc τ) (mask 87) 100 87 [.agg (cellsU 5 x),.agg (cellsU 5 y)] [] Tryd.prog.globals.size).map (·.1)=some (.agg (cellsU 5 (τ.car (gU (cellsU 5 fun j=>zS x y j 5))))):=by kernel_rfl
end Go.Proofs.YtcplgmgpagekfaaDoor.Pol
namespace Go.Proofs.YtcplgmgpagekfaaDoor.Pol
open Go Go.Eng
set_option maxRecDepth 1000000
def plus5 (x:Nat→UInt64) (j:Nat):UInt64:=cond (Nat.beq j 0) (x 0+5) (x j)
def red5 (x:Nat→UInt64) (j:Nat):UInt64:=chS 26 (plus5 x) j &&& 67108863
def redC (x:Nat→UInt64):UInt64:=shr_u64 (chS 26 (plus5 x) 4) 26
def car2 (τ:Fp) (x:Nat→UInt64):Nat→UInt64:=gU (cellsU 5 (τ.car (gU (cellsU 5 (τ.car (gU (cellsU 5 x)))))))
theorem run14t (τ:Fp) (x:Nat→UInt64):ansO (run1O Tryd.prog noPS (nc τ) [35] [true] [] (mask 88) 100 88 [.agg (cellsU 5 x)] [] Tryd.prog.globals.size)=some (.agg (cellsU 5 (red5 (car2 τ x))),[decide (0 < redC (car2 τ x))]):=by kernel_rfl
theorem run14f (τ:Fp) (x:Nat→UInt64):ansO (run1O Tryd.prog noPS (nc τ) [35] [false] [] (mask 88) 100 88 [.agg (cellsU 5 x)] [] Tryd.prog.globals.size)=some (.agg (cellsU 5 (car2 τ x)),[!(decide (0 < redC (car2 τ x)))]):=by kernel_rfl
def whG (τ:Fp) (x:Nat→UInt64):Nat→UInt64:=gU (cellsU 18 (τ.carR (gU (cellsU 18 x))))
def wh5 (x:Nat→UInt64) (j:Nat):UInt64:=chS 8 (plus5 x) j &&& 255
def wh3 (x:Nat→UInt64) (j:Nat):UInt64:=cond (Nat.beq j 16) (wh5 x 16 &&& 3) (wh5 x j)
end Go.Proofs.YtcplgmgpagekfaaDoor.Pol
namespace Go.Proofs.YtcplgmgpagekfaaDoor.Pol
open Go Go.Eng
set_option maxRecDepth 1000000
def tR (a b:Nat→UInt64) (m:Nat):Nat→UInt64
 | 0=>0
 | i+1=>cond (Nat.ble i m && Nat.ble m (i+17)) (tR a b m i+a i * b (m - i)) (tR a b m i)
def tC (a b:Nat→UInt64) (j:Nat):UInt64:=chS 8 (fun m=>tR a b m 18) j &&& 255
def loR (a b:Nat→UInt64) (j:Nat):UInt64:=cond (Nat.ble 17 j) 0 (cond (Nat.beq j 16) (tC a b 16 &&& 3) (tC a b j))
def hiR (a b:Nat→UInt64) (j:Nat):UInt64:=cond (Nat.ble 17 j) 0 (shr_u64 (tC a b (16+j)) 2 ||| (shl_u64 (tC a b (17+j)) 6 &&& 255))
def prR (a b:Nat→UInt64) (j:Nat):UInt64:=loR a b j+5 * hiR a b j
end Go.Proofs.YtcplgmgpagekfaaDoor.Pol
namespace Go.Eng
open Go
def winE (b o m:Nat) (k:List AVal→Option AVal):EffA:=
 oneE b fun _ C=>cond (Nat.ble (o+m) C.length && ltL 0 ((C.drop o).take m)) (match k ((C.drop o).take m) with
  | some v=>some (v,C)
  | none=>none) none
theorem ltL_mem46:∀ {l:List AVal}{m:Nat},ltL m l=true→∀ v,v ∈ l→ltS m v=true
 | [],_,_,v,hv=>by cases hv
 | x::l,m,h,v,hv=>by
  simp only [ltL] at h
  cases hx:ltS m x <;> rw [hx] at h <;> simp only [cond_true,cond_false] at h
  ·cases h
  ·rcases List.mem_cons.1 hv with rfl | e
   ·exact hx
   ·exact ltL_mem46 h v e
theorem ltV_of_ltS {v:AVal}(h:ltS 0 v=true):ltV 0 v=true:=by
 have h0:∀ n:Nat,Nat.ble (n+1) 0=false:=fun n=>rfl
 cases v <;> first | rfl | (simp only [ltS,h0] at h; cases h; done) | skip
 all_goals simp only [ltS] at h
 all_goals first | cases h | (rename_i cs; cases cs <;> first | rfl | cases h)
theorem hrel_ro1 {σ:Sig}{H:Heap}{w:World}(h:∀ n o,H n=some o→o.ro=true∧∃ p,σ n=some p∧ORel σ w p o):HRel σ H w:=
 ⟨fun n o hn=>(h n o hn).2,fun n m o o' p q hn hm _ _ _=>.inr ⟨(h n o hn).1,(h m o' hm).1⟩⟩
theorem callOk_win {P:Program}{cs:CS}(hcs:CSOk P cs) (hm:P.follows .mixedOrders=true){f:FuncId}{b o m:Nat}{rest:List AVal}(ha:allV rest=true){k:List AVal→Option AVal}
  (h:∀ W v,W.length=m→k W=some v→ltL 0 W=true→ltV 0 v=true∧∃ F nn H' fr',run1 P cs nn F f (.slice P.globals.size 0 m 1::rest) [(P.globals.size,.cells true W)] (P.globals.size+1)=some (v,H',fr')) :
  CallOk P f (.slice b o m 1::rest) (winE b o m k):=by
 intro σ args' H w base v0 H0 hl hg hH happ hfree
 unfold winE oneE EffA.app at happ
 simp only at happ
 cases hn:aget H b with
 | none=>rw [hn] at happ; cases happ
 | some ob =>
  rw [hn] at happ
  cases ob with
  | mp _=>cases happ
  | cells ro C =>
  cases ro with
  | true=>cases happ
  | false =>
   simp only at happ
   cases hc:(Nat.ble (o+m) C.length && ltL 0 ((C.drop o).take m)) <;> rw [hc] at happ <;> simp only [cond_true,cond_false] at happ
   ·cases happ
   ·cases hk:k ((C.drop o).take m) with
    | none=>rw [hk] at happ; cases happ
    | some v =>
     rw [hk] at happ
     simp only [Option.some.injEq,Prod.mk.injEq] at happ
     obtain ⟨rfl,rfl⟩:=happ
     rw [Bool.and_eq_true] at hc
     have hlen:=Nat.le_of_ble_eq_true hc.1
     obtain ⟨W,hW⟩:∃ W,W=(C.drop o).take m:=⟨_,rfl⟩
     rw [← hW] at hk hc
     have hWl:W.length=m:=by rw [hW,List.length_take,List.length_drop]; omega
     obtain ⟨hv,F,nn,H',fr',hrun⟩:=h W v hWl hk hc.2
     obtain ⟨fn,c,hf,hb,hr⟩:=run1_some hrun
     -- the block's place,and the window's
     obtain ⟨p,hp,c',t,fz,e1,e2,e3,e4⟩:=hH.obj b _ hn
     obtain ⟨q,hq⟩:∃ q:Place,q=⟨p.blk,p.sh+o,p.sz,none⟩:=⟨_,rfl⟩
     obtain ⟨σ1,hσ1⟩:∃ σ1:Sig,σ1=(cut P.globals.size σ).set P.globals.size q:=⟨_,rfl⟩
     have sat:σ1 P.globals.size=some q:=by rw [hσ1]; exact Sig.set_same _ _ _
     have hg1:GRel P σ1:=fun g hgl=>by
      obtain ⟨sz,hs⟩:=hg g hgl
      refine ⟨sz,?_⟩
      rw [hσ1,Sig.set_other _ _ (by omega)]
      exact cut_of hs hgl
     have hfr1:Fresh σ1 (P.globals.size+1):=fun n hn=>by
      rw [hσ1,Sig.set_other _ _ (by omega)]
      exact cut_fresh _ _ n (by omega)
     have hl1:LR σ1 (.slice P.globals.size 0 m 1::rest) args':=by
      refine ⟨hl.1,fun i u u' h1 h2 => ?_⟩
      cases i with
      | zero =>
       simp only [List.getElem?_cons_zero,Option.some.injEq] at h1
       subst h1
       have:=hl.2 0 (.slice b o m 1) u' rfl h2
       cases this with
       | slice hpb ho hcp hs =>
        rw [hp] at hpb
        cases hpb
        have hblk:q.blk=p.blk:=by rw [hq]
        rw [← hblk]
        refine .slice sat ?_ hcp (by rw [hq]; exact hs)
        rcases ho with ho | ho
        ·exact .inl ho
        ·exact .inr (by rw [ho,hq]; rfl)
      | succ i =>
       rw [List.getElem?_cons_succ] at h1
       exact (hl.2 (i+1) u u' (by rw [List.getElem?_cons_succ]; exact h1) h2).cut0 (allV_mem ha u (List.mem_of_getElem? h1)) σ1
     have hH1:HRel σ1 (aget [(P.globals.size,.cells true W)]) w:=by
      refine hrel_ro1 ?_
      intro n ob' hob
      rcases beq_cases P.globals.size n with ⟨e,hbq⟩ | ⟨e,hbq⟩
      ·simp only [aget,hbq,cond_true,Option.some.injEq] at hob
       subst hob
       subst e
       refine ⟨rfl,q,sat,c',t,fz,by rw [hq]; exact e1,by rw [hq]; exact e2,fun i u hi => ?_,(fun h=>by cases h),fun T h=>by rw [hq] at h; cases h⟩
       have hi2:C[o+i]? = some u:=by
        rw [hW] at hi
        have him:i < m:=by
         have:=(List.getElem?_eq_some_iff.1 hi).1
         rw [List.length_take] at this
         omega
        rw [List.getElem?_take_of_lt him,List.getElem?_drop] at hi
        exact hi
       obtain ⟨u',g1,g2⟩:=e3 (o+i) u hi2
       refine ⟨u',by rw [hq]; show c'[p.sh+o+i]? = some u'; rw [Nat.add_assoc]; exact g1,?_⟩
       exact g2.cut0 (ltV_of_ltS (ltL_mem46 hc.2 u (List.mem_of_getElem? hi))) σ1
      ·simp only [aget,hbq,cond_false] at hob
       cases hob
     refine (runF_ok hcs hm hf hb hr hl1 hH1 hg1 hfr1).mono fun r w' hrw => ?_
     obtain ⟨σ',v',rfl,g1,g2,g3,g4⟩:=hrw
     have hold:∀ bb,bb < w.heap.size→w'.heap[bb]? = w.heap[bb]?:=fun bb hbb=>(g3.old bb hbb fun ⟨n,o1,p1,a1,a2,_⟩=>by
      rcases beq_cases P.globals.size n with ⟨e,hbq⟩ | ⟨e,hbq⟩
      ·simp only [aget,hbq,cond_true,Option.some.injEq] at a1
       subst a1
       cases a2
      ·simp only [aget,hbq,cond_false] at a1
       cases a1).1
     have same:aget (aset H b (.cells false C))=aget H:=by
      funext n
      rw [aget_aset]
      split
      ·rename_i e
       subst e
       rw [hn]
      ·rfl
     refine ⟨σ,v',rfl,g1.cut0 hv σ,?_,?_,Only.refl σ base⟩
     ·show HRel σ (aget (aset H b (.cells false C))) w'
      rw [same]
      refine ⟨fun n ob' hob => ?_,hH.inj⟩
      obtain ⟨p',hp',ho'⟩:=hH.obj n ob' hob
      exact ⟨p',hp',ho'.mono (Sig.le_refl σ) (hold _ ho'.lt)⟩
     ·show Frm σ (aget H) w σ (aget (aset H b (.cells false C))) w'
      rw [same]
      exact ⟨Sig.le_refl σ,g3.size,g3.os,g3.output,g3.tape,fun bb hbb hn=>⟨hold bb hbb,hn⟩⟩
end Go.Eng
namespace Go.Proofs.YtcplgmgpagekfaaDoor.Pol
open Go Go.Eng
set_option maxRecDepth 1000000
def bt (c:Nat→UInt8) (m n i:Nat):UInt64:=cond (Nat.blt 0 n && Nat.beq i n) 1 (cond (Nat.blt i m) (c i).toUInt64 0)
def of1 (b:UInt64) (x:Nat→UInt64) (i:Nat):Nat→UInt64:=updF x (8 * i / 26) (x (8 * i / 26) ||| (shl_u64 b (8 * i % 26) &&& 67108863))
def ofS (b:UInt64) (x:Nat→UInt64) (i:Nat):Nat→UInt64:=cond (Nat.blt 18 (8 * i % 26) && Nat.blt (8 * i / 26) 4) (updF (of1 b x i) (8 * i / 26+1) (of1 b x i (8 * i / 26+1) ||| shr_u64 b (26 - 8 * i % 26))) (of1 b x i)
def ofN (c:Nat→UInt8) (m n:Nat):Nat→Nat→UInt64
 | 0=>fun _=>0
 | i+1=>ofS (bt c m n i) (ofN c m n i) i
theorem run10_1_1 (c:Nat→UInt8):(run1 Tryd.prog noCS (mask 84) 100 84 [.slice 1 0 1 1,.int .i64 1] [(1,.cells true (cellsB 1 c))] 2).map (·.1)=some (.agg (cellsU 5 (ofN c 1 1 17))):=by kernel_rfl
theorem run10_2_2 (c:Nat→UInt8):(run1 Tryd.prog noCS (mask 84) 100 84 [.slice 1 0 2 1,.int .i64 2] [(1,.cells true (cellsB 2 c))] 2).map (·.1)=some (.agg (cellsU 5 (ofN c 2 2 17))):=by kernel_rfl
theorem run10_3_3 (c:Nat→UInt8):(run1 Tryd.prog noCS (mask 84) 100 84 [.slice 1 0 3 1,.int .i64 3] [(1,.cells true (cellsB 3 c))] 2).map (·.1)=some (.agg (cellsU 5 (ofN c 3 3 17))):=by kernel_rfl
theorem run10_4_4 (c:Nat→UInt8):(run1 Tryd.prog noCS (mask 84) 100 84 [.slice 1 0 4 1,.int .i64 4] [(1,.cells true (cellsB 4 c))] 2).map (·.1)=some (.agg (cellsU 5 (ofN c 4 4 17))):=by kernel_rfl
theorem run10_5_5 (c:Nat→UInt8):(run1 Tryd.prog noCS (mask 84) 100 84 [.slice 1 0 5 1,.int .i64 5] [(1,.cells true (cellsB 5 c))] 2).map (·.1)=some (.agg (cellsU 5 (ofN c 5 5 17))):=by kernel_rfl
theorem run10_6_6 (c:Nat→UInt8):(run1 Tryd.prog noCS (mask 84) 100 84 [.slice 1 0 6 1,.int .i64 6] [(1,.cells true (cellsB 6 c))] 2).map (·.1)=some (.agg (cellsU 5 (ofN c 6 6 17))):=by kernel_rfl
theorem run10_7_7 (c:Nat→UInt8):(run1 Tryd.prog noCS (mask 84) 100 84 [.slice 1 0 7 1,.int .i64 7] [(1,.cells true (cellsB 7 c))] 2).map (·.1)=some (.agg (cellsU 5 (ofN c 7 7 17))):=by kernel_rfl
theorem run10_8_8 (c:Nat→UInt8):(run1 Tryd.prog noCS (mask 84) 100 84 [.slice 1 0 8 1,.int .i64 8] [(1,.cells true (cellsB 8 c))] 2).map (·.1)=some (.agg (cellsU 5 (ofN c 8 8 17))):=by kernel_rfl
theorem run10_9_9 (c:Nat→UInt8):(run1 Tryd.prog noCS (mask 84) 100 84 [.slice 1 0 9 1,.int .i64 9] [(1,.cells true (cellsB 9 c))] 2).map (·.1)=some (.agg (cellsU 5 (ofN c 9 9 17))):=by kernel_rfl
theorem run10_10_10 (c:Nat→UInt8):(run1 Tryd.prog noCS (mask 84) 100 84 [.slice 1 0 10 1,.int .i64 10] [(1,.cells true (cellsB 10 c))] 2).map (·.1)=some (.agg (cellsU 5 (ofN c 10 10 17))):=by kernel_rfl
theorem run10_11_11 (c:Nat→UInt8):(run1 Tryd.prog noCS (mask 84) 100 84 [.slice 1 0 11 1,.int .i64 11] [(1,.cells true (cellsB 11 c))] 2).map (·.1)=some (.agg (cellsU 5 (ofN c 11 11 17))):=by kernel_rfl
theorem run10_12_12 (c:Nat→UInt8):(run1 Tryd.prog noCS (mask 84) 100 84 [.slice 1 0 12 1,.int .i64 12] [(1,.cells true (cellsB 12 c))] 2).map (·.1)=some (.agg (cellsU 5 (ofN c 12 12 17))):=by kernel_rfl
theorem run10_13_13 (c:Nat→UInt8):(run1 Tryd.prog noCS (mask 84) 100 84 [.slice 1 0 13 1,.int .i64 13] [(1,.cells true (cellsB 13 c))] 2).map (·.1)=some (.agg (cellsU 5 (ofN c 13 13 17))):=by kernel_rfl
theorem run10_14_14 (c:Nat→UInt8):(run1 Tryd.prog noCS (mask 84) 100 84 [.slice 1 0 14 1,.int .i64 14] [(1,.cells true (cellsB 14 c))] 2).map (·.1)=some (.agg (cellsU 5 (ofN c 14 14 17))):=by kernel_rfl
theorem run10_15_15 (c:Nat→UInt8):(run1 Tryd.prog noCS (mask 84) 100 84 [.slice 1 0 15 1,.int .i64 15] [(1,.cells true (cellsB 15 c))] 2).map (·.1)=some (.agg (cellsU 5 (ofN c 15 15 17))):=by kernel_rfl
theorem run10_16_16 (c:Nat→UInt8):(run1 Tryd.prog noCS (mask 84) 100 84 [.slice 1 0 16 1,.int .i64 16] [(1,.cells true (cellsB 16 c))] 2).map (·.1)=some (.agg (cellsU 5 (ofN c 16 16 17))):=by kernel_rfl
theorem run10_16_0 (c:Nat→UInt8):(run1 Tryd.prog noCS (mask 84) 100 84 [.slice 1 0 16 1,.int .i64 0] [(1,.cells true (cellsB 16 c))] 2).map (·.1)=some (.agg (cellsU 5 (ofN c 16 0 17))):=by kernel_rfl
def ok10 (m:Nat) (n:Int):Bool:=(decide (1≤m) && decide (m≤16) && decide (n=(m:Int))) || (Nat.beq m 16 && decide (n=0))
def k10 (f:(Nat→UInt8)→Nat→Nat→Nat→UInt64):List AVal→Option EffA
 | [.slice b o m 1,.int .i64 n]=>some (winE b o m fun W=>cond (shAllB W && ok10 m n) (some (.agg (cellsU 5 (f (gB W) m n.toNat)))) none)
 | _=>none
theorem callOk10:CSOk Tryd.prog (csOne 84 (k10 fun c m n=>ofN c m n 17)):=by
 refine csOne_ok fun args e h => ?_
 unfold k10 at h
 split at h
 ·rename_i b o m n
  cases h
  refine callOk_win (noCS_ok _) hmix rfl fun W v hWl hk hl => ?_
  cases hc:(shAllB W && ok10 m n) <;> rw [hc] at hk <;> simp only [cond_true,cond_false] at hk
  ·cases hk
  ·cases hk
   rw [Bool.and_eq_true] at hc
   have ec:=shAllB_ok hc.1
   have h3:=hc.2
   unfold ok10 at h3
   simp only [Bool.and_eq_true,Bool.or_eq_true,decide_eq_true_eq] at h3
   obtain ⟨g,hg⟩:∃ g,g=gB W:=⟨_,rfl⟩
   rw [hWl,← hg] at ec
   rw [← hg]
   have hv:ltV 0 (.agg (cellsU 5 (ofN g m n.toNat 17)))=true:=ltL_U ..
   refine ⟨hv,100,mask 84,?_⟩
   rw [gl,ec]
   rcases h3 with ⟨⟨m1,m2⟩,rfl⟩ | ⟨m1,rfl⟩
   ·have:m=1 ∨ m=2 ∨ m=3 ∨ m=4 ∨ m=5 ∨ m=6 ∨ m=7 ∨ m=8 ∨ m=9 ∨ m=10 ∨ m=11 ∨ m=12 ∨ m=13 ∨ m=14 ∨ m=15 ∨ m=16:=by omega
    rcases this with rfl | rfl | rfl | rfl | rfl | rfl | rfl | rfl | rfl | rfl | rfl | rfl | rfl | rfl | rfl | rfl
    ·exact run_of (run10_1_1 g)
    ·exact run_of (run10_2_2 g)
    ·exact run_of (run10_3_3 g)
    ·exact run_of (run10_4_4 g)
    ·exact run_of (run10_5_5 g)
    ·exact run_of (run10_6_6 g)
    ·exact run_of (run10_7_7 g)
    ·exact run_of (run10_8_8 g)
    ·exact run_of (run10_9_9 g)
    ·exact run_of (run10_10_10 g)
    ·exact run_of (run10_11_11 g)
    ·exact run_of (run10_12_12 g)
    ·exact run_of (run10_13_13 g)
    ·exact run_of (run10_14_14 g)
    ·exact run_of (run10_15_15 g)
    ·exact run_of (run10_16_16 g)
   ·have:=Nat.eq_of_beq_eq_true m1
    subst this
    exact run_of (run10_16_0 g)
 ·cases h
end Go.Proofs.YtcplgmgpagekfaaDoor.Pol
namespace Go.Eng
open Go
def mvS (G b:Nat):AVal→AVal
 | .slice n o m e=>cond (Nat.beq n G) (.slice b o m e) (.slice n o m e)
 | v=>v
def okM (G:Nat):AVal→Bool
 | .slice n _ _ _=>Nat.beq n G
 | v=>ltS 0 v
theorem mv_ok {σ σ':Sig}{G b:Nat}{p:Place}(h1:σ G=some p) (h2:σ' b=some p){u:AVal}{v:Value}(ho:okM G u=true) (hv:VR σ u v):VR σ' (mvS G b u) v:=by
 cases u with
 | slice n o m e =>
  have:=Nat.eq_of_beq_eq_true ho
  subst this
  simp only [mvS,Nat.beq_refl,cond_true]
  cases hv with
  | slice hp hh hc hs =>
   rw [h1] at hp
   cases hp
   exact .slice h2 hh hc hs
 | _ =>
  simp only [okM] at ho
  simp only [mvS]
  exact hv.cut0 (ltV_of_ltS ho) σ'
theorem orel_mv {σ σ':Sig}{G b:Nat}{p:Place}(h1:σ G=some p) (h2:σ' b=some p){w:World}{q:Place}{c:List AVal}{ro:Bool}(ho:c.all (okM G)=true) (h:ORel σ w q (.cells ro c)):ORel σ' w q (.cells ro (c.map (mvS G b))):=by
 obtain ⟨c',t,fz,e1,e2,e3,e4⟩:=h
 refine ⟨c',t,fz,e1,e2,fun i v hi => ?_,e4⟩
 rw [List.getElem?_map] at hi
 cases hu:c[i]? with
 | none=>rw [hu] at hi; cases hi
 | some u =>
  rw [hu] at hi
  simp only [Option.map_some,Option.some.injEq] at hi
  subst hi
  obtain ⟨v',g1,g2⟩:=e3 i u hu
  exact ⟨v',g1,mv_ok h1 h2 (List.all_eq_true.1 ho u (List.mem_of_getElem? hu)) g2⟩
theorem callOk_closS {P:Program}{cs:CS}(hcs:CSOk P cs) (hm:P.follows .mixedOrders=true){nn F:Nat}{f:FuncId}{nb o m:Nat}{rest:List AVal}{g:FuncId}{ns:List Nat}{cs0 css:List (List AVal)}{H1:HL}{fr1:Nat}
  (h:run1 P cs nn F f (.slice P.globals.size o m 1::rest) [] (P.globals.size+1)=some (.fn g (ns.map fun n=>.ptr n 0),H1,fr1)) (ha:allV rest=true) (hnd:nodupB ns=true) (hl:css.length=ns.length) (hk:Nat.ble ns.length 8=true)
  (hc:∀ j n,ns[j]? = some n→aget H1 n=some (.cells false (cs0.getD j []))∧css.getD j []=(cs0.getD j []).map (mvS P.globals.size nb)∧(cs0.getD j []).all (okM P.globals.size)=true):CallOk P f (.slice nb o m 1::rest) (closE g css):=by
 intro σ args' H w base v0 H0 hla hg hH happ hfree
 have hnd:=nodupB_ok hnd
 have hk:=Nat.le_of_ble_eq_true hk
 simp only [closE,EffA.app,Option.some.injEq,Prod.mk.injEq] at happ
 obtain ⟨rfl,rfl⟩:=happ
 obtain ⟨v0,hv0,hvr⟩:=hla.get (i:=0) rfl
 obtain ⟨p0,hp0⟩:∃ p0,σ nb=some p0:=by
  cases hvr with
  | slice hp _ _ _=>exact ⟨_,hp⟩
 obtain ⟨σ0,hσ0⟩:∃ σ0:Sig,σ0=(cut P.globals.size σ).set P.globals.size p0:=⟨_,rfl⟩
 have sat0:σ0 P.globals.size=some p0:=by rw [hσ0]; exact Sig.set_same _ _ _
 have hg0:GRel P σ0:=fun g hgl=>by
  obtain ⟨sz,hs⟩:=hg g hgl
  refine ⟨sz,?_⟩
  rw [hσ0,Sig.set_other _ _ (by omega)]
  exact cut_of hs hgl
 have hfr0:Fresh σ0 (P.globals.size+1):=fun n hn=>by
  rw [hσ0,Sig.set_other _ _ (by omega)]
  exact cut_fresh _ _ n (by omega)
 have hl0:LR σ0 (.slice P.globals.size o m 1::rest) args':=by
  refine ⟨hla.1,fun i u u' h1 h2 => ?_⟩
  cases i with
  | zero =>
   simp only [List.getElem?_cons_zero,Option.some.injEq] at h1
   subst h1
   have:=hla.2 0 (.slice nb o m 1) u' rfl h2
   cases this with
   | slice hpb ho hcp hs =>
    rw [hp0] at hpb
    cases hpb
    exact .slice sat0 ho hcp hs
  | succ i =>
   rw [List.getElem?_cons_succ] at h1
   exact (hla.2 (i+1) u u' (by rw [List.getElem?_cons_succ]; exact h1) h2).cut0 (allV_mem ha u (List.mem_of_getElem? h1)) σ0
 obtain ⟨fn,c,hf,hb,hrun⟩:=run1_some h
 refine (runF_ok hcs hm hf hb hrun hl0 ⟨fun n o hn=>by simp [aget] at hn,fun n m o o' p q hn=>by simp [aget] at hn⟩ hg0 hfr0).mono fun r w' hrw => ?_
 obtain ⟨σ1,v',rfl,g1,g2,g3,g4⟩:=hrw
 have hold:∀ b,b < w.heap.size→w'.heap[b]? = w.heap[b]? ∧ ¬ Own σ1 (aget H1) b:=fun b hb=>g3.old b hb fun ⟨n,o,p,a1,_⟩=>by simp [aget] at a1
 have sat1:σ1 P.globals.size=some p0:=g3.ext _ _ sat0
 -- the places of the new names
 obtain ⟨σ2,hσ2⟩:∃ σ2:Sig,σ2=fun n=>if base≤n∧n < base+ns.length then σ1 (ns.getD (n - base) 0) else σ n:=⟨_,rfl⟩
 have at2:∀ j n,ns[j]? = some n→σ2 (base+j)=σ1 n:=fun j n hj=>by
  have hjl:j < ns.length:=(List.getElem?_eq_some_iff.1 hj).1
  rw [hσ2]
  simp only
  rw [if_pos ⟨by omega,by omega⟩,Nat.add_sub_cancel_left,List.getD_eq_getElem?_getD,hj]; rfl
 have off2:∀ n,¬ (base≤n∧n < base+ns.length)→σ2 n=σ n:=fun n hn=>by
  rw [hσ2]
  exact if_neg hn
 have le2:Sig.le σ σ2:=fun n p hp=>by
  rw [off2 n fun hn => ?_]
  ·exact hp
  ·have:=hfree (n - base) (by omega)
   rw [show base+(n - base)=n by omega,hp] at this
   cases this
 have obj1:∀ j n,ns[j]? = some n→∃ p,σ1 n=some p∧ORel σ1 w' p (.cells false (cs0.getD j []))∧w.heap.size≤p.blk:=fun j n hj=>by
  obtain ⟨p,hp,ho⟩:=g2.obj n _ (hc j n hj).1
  exact ⟨p,hp,ho,Nat.le_of_not_lt fun hlt=>(hold p.blk hlt).2 ⟨n,_,p,(hc j n hj).1,rfl,hp,rfl⟩⟩
 have us:∀ m x,(m,x) ∈ ((List.range css.length).map fun j=>(base+j,some (AObj.cells false (css.getD j []))))→∃ j,j < css.length∧m=base+j∧x=some (.cells false (css.getD j [])):=fun m x hx=>by
  obtain ⟨j,hj,e⟩:=List.mem_map.1 hx
  cases e
  exact ⟨j,List.mem_range.1 hj,rfl,rfl⟩
 have getH:∀ m o,aget (appU H ((List.range css.length).map fun j=>(base+j,some (AObj.cells false (css.getD j []))))) m=some o →
   (∃ j n,ns[j]? = some n∧m=base+j∧o=.cells false (css.getD j [])) ∨ (¬ (base≤m∧m < base+ns.length)∧aget H m=some o):=fun m o hm=>by
  rcases appU_get (us:=(List.range css.length).map fun j=>(base+j,some (AObj.cells false (css.getD j [])))) (H:=H) (fun m x hx=>by obtain ⟨j,_,_,rfl⟩:=us m x hx; rfl) m with ⟨o',a1,a2⟩ | ⟨a1,a2⟩
  ·rw [a2] at hm
   cases hm
   obtain ⟨j,hj,rfl,e⟩:=us m _ a1
   cases e
   exact .inl ⟨j,ns[j]'(by omega),List.getElem?_eq_getElem (by omega),rfl,rfl⟩
  ·rw [a2] at hm
   refine .inr ⟨fun hb => ?_,hm⟩
   exact a1 (some (.cells false (css.getD (m - base) []))) (List.mem_map.2 ⟨m - base,List.mem_range.2 (by omega),by rw [show base+(m - base)=m by omega]⟩)
 refine ⟨σ2,v',rfl,?_,⟨fun m o hm => ?_,fun m m' o o' p q hm hm' hp hq hpq => ?_⟩,⟨le2,g3.size,g3.os,g3.output,g3.tape,fun b hb hn=>⟨(hold b hb).1,?_⟩⟩,fun n hn=>off2 n (by omega)⟩
 ·cases g1 with
  | fn hs hcap =>
   refine .fn (by rw [← hs]; simp [hl]) fun i u u' hu hu' => ?_
   have hi:i < css.length:=by
    have:=(List.getElem?_eq_some_iff.1 hu).1
    simpa using this
   have e1:u=.ptr (base+i) 0:=by
    rw [List.getElem?_map,List.getElem?_range hi] at hu
    simpa using hu.symm
   subst e1
   have hn:ns[i]? = some (ns[i]'(by omega)):=List.getElem?_eq_getElem (by omega)
   have hv:=hcap i (.ptr (ns[i]'(by omega)) 0) u' (by rw [List.getElem?_map,hn]; rfl) hu'
   cases hv with
   | ptr hp=>exact .ptr (by rw [at2 i _ hn]; exact hp)
 ·rcases getH m o hm with ⟨j,n,hj,rfl,rfl⟩ | ⟨hb,ho⟩
  ·obtain ⟨p,hp,ho,_⟩:=obj1 j n hj
   refine ⟨p,by rw [at2 j n hj]; exact hp,?_⟩
   obtain ⟨q1,q2⟩:=(hc j n hj).2
   rw [q1]
   exact orel_mv sat1 (le2 nb p0 hp0) q2 ho
  ·obtain ⟨p,hp,hor⟩:=hH.obj m o ho
   exact ⟨p,le2 m p hp,hor.mono le2 (hold _ hor.lt).1⟩
 ·rcases getH m o hm with ⟨j,n,hj,rfl,rfl⟩ | ⟨hb,ho⟩ <;> rcases getH m' o' hm' with ⟨j',n',hj',rfl,rfl⟩ | ⟨hb',ho'⟩
  ·rw [at2 j n hj] at hp
   rw [at2 j' n' hj'] at hq
   rcases g2.inj n n' _ _ p q (hc j n hj).1 (hc j' n' hj').1 hp hq hpq with e | ⟨e,_⟩
   ·subst e
    have:j=j':=(List.getElem?_inj (List.getElem?_eq_some_iff.1 hj).1 hnd).1 (hj.trans hj'.symm)
    exact .inl (by rw [this])
   ·cases e
  ·exfalso
   obtain ⟨p1,hp1,_,hge⟩:=obj1 j n hj
   rw [at2 j n hj,hp1] at hp
   cases hp
   obtain ⟨q1,hq1,hor⟩:=hH.obj m' o' ho'
   rw [off2 m' hb',hq1] at hq
   cases hq
   have:=hor.lt
   omega
  ·exfalso
   obtain ⟨p1,hp1,_,hge⟩:=obj1 j' n' hj'
   rw [at2 j' n' hj',hp1] at hq
   cases hq
   obtain ⟨q1,hq1,hor⟩:=hH.obj m o ho
   rw [off2 m hb,hq1] at hp
   cases hp
   have:=hor.lt
   omega
  ·rw [off2 m hb] at hp
   rw [off2 m' hb'] at hq
   exact hH.inj m m' o o' p q ho ho' hp hq hpq
 ·rintro ⟨m,o,p,h1,h2,h3,h4⟩
  rcases getH m o h1 with ⟨j,n,hj,rfl,rfl⟩ | ⟨hb2,ho⟩
  ·obtain ⟨p1,hp1,_,hge⟩:=obj1 j n hj
   rw [at2 j n hj,hp1] at h3
   cases h3
   omega
  ·rw [off2 m hb2] at h3
   exact hn ⟨m,o,p,ho,h2,h3,h4⟩
end Go.Eng
namespace Go.Proofs.YtcplgmgpagekfaaDoor.Pol
open Go Go.Eng
set_option maxRecDepth 1000000
def ansC (a b:Nat) (x:Option (AVal × HL × Nat)):Option (AVal × Option AObj × Option AObj):=
 match x with
 | some (v,H',_)=>some (v,aget H' a,aget H' b)
 | none=>none
theorem run11 (o m:Nat):ansC 2 10 (run1 Tryd.prog noCS (mask 85) 50 85 [.slice 1 o m 1,.int .i64 16] [] 2)=some (.fn 95 [.ptr 2 0,.ptr 10 0],some (.cells false [.slice 1 o m 1]),some (.cells false [.int .i64 16])):=by kernel_rfl
def k11:List AVal→Option EffA
 | [.slice b o m 1,.int .i64 16]=>some (closE 95 [[.slice b o m 1],[.int .i64 16]])
 | _=>none
theorem callOk11:CSOk Tryd.prog (csOne 85 k11):=by
 refine csOne_ok fun args e h => ?_
 unfold k11 at h
 split at h
 ·rename_i b o m
  cases h
  have r:=run11 o m
  unfold ansC at r
  split at r
  ·rename_i v H1 fr1 hr
   simp only [Option.some.injEq,Prod.mk.injEq] at r
   obtain ⟨rfl,h1,h2⟩:=r
   refine callOk_closS (ns:=[2,10]) (cs0:=[[.slice 1 o m 1],[.int .i64 16]]) (noCS_ok _) hmix (by rw [gl]; exact hr) rfl rfl rfl rfl fun j n hj => ?_
   rw [gl]
   match j,hj with
   | 0,hj=>cases hj; exact ⟨h1,rfl,rfl⟩
   | 1,hj=>cases hj; exact ⟨h2,rfl,rfl⟩
  ·cases r
 ·cases h
end Go.Proofs.YtcplgmgpagekfaaDoor.Pol
namespace Go.Proofs.YtcplgmgpagekfaaDoor.Pol
open Go Go.Eng
set_option maxRecDepth 1000000
structure Fq where
 of:(Nat→UInt8)→Nat→Nat→Nat→UInt64
 car:(Nat→UInt64)→Nat→UInt64
 mul:(Nat→UInt64)→(Nat→UInt64)→Nat→UInt64
 red:(Nat→UInt64)→Nat→UInt64
 carR:(Nat→UInt64)→Nat→UInt64
 mulR:(Nat→UInt64)→(Nat→UInt64)→Nat→UInt64
 whole:(Nat→UInt64)→Nat→UInt64
def q1 (k:Nat) (f:(Nat→UInt64)→Nat→UInt64):List AVal→Option EffA
 | [u]=>match aggU k u with
  | some a=>some (.pure (.agg (cellsU k (f a))))
  | _=>none
 | _=>none
def q2 (k:Nat) (f:(Nat→UInt64)→(Nat→UInt64)→Nat→UInt64):List AVal→Option EffA
 | [u,v]=>match aggU k u,aggU k v with
  | some a,some b=>some (.pure (.agg (cellsU k (f a b))))
  | _,_=>none
 | _=>none
def nq (θ:Fq):CS:=csAlt (csOne 84 (k10 θ.of)) (csAlt (csOne 86 (q1 5 θ.car)) (csAlt (csOne 87 (q2 5 θ.mul)) (csAlt (csOne 88 (q1 5 θ.red)) (csAlt (csOne 85 k11) (csAlt (csNo (q1 18 θ.carR)) (csAlt (csNo (q2 18 θ.mulR)) (csNo (q1 18 θ.whole))))))))
def τr:Fp:=⟨carF,carR⟩
def mulF (x y:Nat→UInt64):Nat→UInt64:=carF (gU (cellsU 5 fun j=>zS x y j 5))
def redF (x:Nat→UInt64):Nat→UInt64:=cond (decide (0 < redC (car2 τr x))) (red5 (car2 τr x)) (car2 τr x)
def mulRF (a b:Nat→UInt64):Nat→UInt64:=carR (gU (cellsU 18 (prR a b)))
def wholeF (x:Nat→UInt64):Nat→UInt64:=cond (decide (4≤wh5 (whG τr x) 16)) (wh3 (whG τr x)) (whG τr x)
def θr:Fq:=⟨fun c m n=>ofN c m n 17,carF,mulF,redF,carR,mulRF,wholeF⟩
theorem q1_ok {k f:Nat}{g:(Nat→UInt64)→Nat→UInt64}(h:∀ a,CallOk Tryd.prog f [.agg (cellsU k a)] (.pure (.agg (cellsU k (g a))))):CSOk Tryd.prog (csOne f (q1 k g)):=by
 refine csOne_ok fun args e he => ?_
 unfold q1 at he
 split at he
 ·split at he
  ·rename_i a h1
   cases he
   rw [aggU_ok h1]
   exact h a
  ·cases he
 ·cases he
theorem q2_ok {k f:Nat}{g:(Nat→UInt64)→(Nat→UInt64)→Nat→UInt64}(h:∀ a b,CallOk Tryd.prog f [.agg (cellsU k a),.agg (cellsU k b)] (.pure (.agg (cellsU k (g a b))))):CSOk Tryd.prog (csOne f (q2 k g)):=by
 refine csOne_ok fun args e he => ?_
 unfold q2 at he
 split at he
 ·split at he
  ·rename_i a b h1 h2
   cases he
   rw [aggU_ok h1,aggU_ok h2]
   exact h a b
  ·cases he
 ·cases he
theorem allU (k:Nat) (a:Nat→UInt64):allV [.agg (cellsU k a)]=true:=by
 have:ltV 0 (.agg (cellsU k a))=true:=ltL_U ..
 simp only [allV,this,cond_true]
theorem allU2 (k:Nat) (a b:Nat→UInt64):allV [.agg (cellsU k a),.agg (cellsU k b)]=true:=by
 have h1:ltV 0 (.agg (cellsU k a))=true:=ltL_U ..
 have h2:ltV 0 (.agg (cellsU k b))=true:=ltL_U ..
 simp only [allV,h1,h2,cond_true]
theorem nc_ok:CSOk Tryd.prog (nc τr):=by
 have h:nc τr=csAlt (csOne 86 (q1 5 carF)) (csNo (l16 τr)):=rfl
 rw [h]
 exact csAlt_ok (q1_ok fun a=>callOk_val (noCS_ok _) hmix (run12 a) (allU ..) (ltL_U ..)) (csNo_ok _)
theorem ok14 (a:Nat→UInt64):CallOk Tryd.prog 88 [.agg (cellsU 5 a)] (.pure (.agg (cellsU 5 (redF a)))):=by
 unfold redF
 cases hc:decide (0 < redC (car2 τr a)) with
 | true=>exact callOk_val nc_ok hmix (ansO_run (noPS_ok _) (run14t τr a) (by simp only [allT,hc,cond_true])) (allU ..) (ltL_U ..)
 | false=>exact callOk_val nc_ok hmix (ansO_run (noPS_ok _) (run14f τr a) (by simp only [allT,hc,Bool.not_false,cond_true])) (allU ..) (ltL_U ..)
theorem nq_ok:CSOk Tryd.prog (nq θr):=
 csAlt_ok callOk10 (csAlt_ok (q1_ok fun a=>callOk_val (noCS_ok _) hmix (run12 a) (allU ..) (ltL_U ..)) (csAlt_ok (q2_ok fun a b=>callOk_val nc_ok hmix (run13 τr a b) (allU2 ..) (ltL_U ..)) (csAlt_ok (q1_ok ok14) (csAlt_ok callOk11
  (csAlt_ok (csNo_ok _) (csAlt_ok (csNo_ok _) (csNo_ok _)))))))
end Go.Proofs.YtcplgmgpagekfaaDoor.Pol
namespace Go.Proofs.YtcplgmgpagekfaaDoor.Pol
open Go Go.Eng
set_option maxRecDepth 1000000
def blkOf:Code→Code
 | .block _ b=>b
 | c=>c
def opsOf:Code→Array Oper
 | .region _ ops _=>ops
 | _ => #[]
noncomputable def p18:List Code:=pieces (bodyOf Tryd.f95)
noncomputable def LB:Code:=loopOf (p18.getD 1 .skip)
noncomputable def pL:List Code:=pieces LB
noncomputable def B1:Code:=blkOf (pL.getD 2 .skip)
noncomputable def pB:List Code:=pieces B1
noncomputable def ops4:Array Oper:=opsOf (pB.getD 1 .skip)
def Hc (s:List UInt8):HL:=[(185,.cells true (s.map .u8)),(193,.cells true [.slice 185 0 s.length 1]),(194,.cells true [.int .i64 16])]
def Tc:TL:=[(1,.ptr 193 0),(2,.ptr 194 0)]
def T0 (i:Nat):TL:=[(1,.ptr 193 0),(2,.ptr 194 0),(4,.int .i64 (i:Int))]
def Ty (i m:Nat):TL:=[(1,.ptr 193 0),(2,.ptr 194 0),(4,.int .i64 (i:Int)),(5,.int .i64 (m:Int))]
def T2 (i:Nat) (b:Bool):TL:=[(29,.bool b),(1,.ptr 193 0),(2,.ptr 194 0),(4,.int .i64 (i:Int)),(30,.bool (!b))]
noncomputable def midL:List Oper:=(ops4.toList.drop 1).take 9
noncomputable def sg (sy:List Nat) (os:List Bool) (vs:List AVal) (Ts T:TL) (H:HL) (l:List Code):Option (XA × TL × HL × List Bool):=endS Ts (evSO Tryd.prog noPS noCS sy Tryd.f95.ntmps (mask 95) 100 201 l ⟨T,H,201⟩ ⟨os,vs,[]⟩)
noncomputable def rC:Code:=.cond (.tmp 30) .ret .skip
end Go.Proofs.YtcplgmgpagekfaaDoor.Pol
namespace Go.Proofs.YtcplgmgpagekfaaDoor.Pol
open Go Go.Eng
set_option maxRecDepth 1000000
theorem p18_eq:p18=[p18.getD 0 .skip,.block 0 (.loop LB)]:=by kernel_rfl
theorem pL_eq:pL=pL.take 2++[.block 1 B1,pL.getD 3 .skip]:=by kernel_rfl
theorem pB_eq:pB=[pB.getD 0 .skip,.region 4 ops4 false,rC]:=by kernel_rfl
section
variable (s:List UInt8) (i j m e:Nat)
theorem s0:sg [] [] [] (T0 0) Tc (Hc s) [p18.getD 0 .skip]=some (.normal,T0 0,Hc s,[]):=by kernel_rfl
theorem h1:sg [9] [true] [] (T0 i) (T0 i) (Hc s) (pL.take 2)=some (.normal,T0 i,Hc s,[decide ((i:Int) < (s.length:Int))]):=by kernel_rfl
theorem h0:sg [9] [false] [] (T0 i) (T0 i) (Hc s) (pL.take 2)=some (.exit 0,T0 i,Hc s,[!(decide ((i:Int) < (s.length:Int)))]):=by kernel_rfl
theorem s3:sg [16,200018] [] [.int .i64 (m:Int)] (Ty i m) (T0 i) (Hc s) [pB.getD 0 .skip]=some (.normal,Ty i m,Hc s,[eqS (.int .i64 (if (((s.length:Int).toNat - (i:Int).toNat:Nat):Int) < 16 then (((s.length:Int).toNat - (i:Int).toNat:Nat):Int) else 16)) (.int .i64 (m:Int)),decide (0≤(i:Int)) && (decide ((i:Int)≤(s.length:Int)) && decide ((s.length:Int)≤(s.length:Int)))]):=by kernel_rfl
def Tmid (s:List UInt8) (i m e:Nat):TL:=[(1,.ptr 193 0),(2,.ptr 194 0),(4,.int .i64 (i:Int)),(5,.int .i64 (m:Int)),(20,.slice 185 0 s.length 1),(21,.int .i64 (i:Int)),(22,.int .i64 (i:Int)),(23,.int .i64 (m:Int)),(24,.int .i64 (e:Int)),(25,.int .i64 (i:Int)),(26,.int .i64 (m:Int)),(27,.int .i64 (e:Int)),(28,.slice 185 i m 1)]
def obMid (s:List UInt8) (i m e:Nat):List Bool:=[eqS (.slice 185 (0+(i:Int).toNat * 1) ((e:Int).toNat - (i:Int).toNat) 1) (.slice 185 i m 1),decide (0≤(i:Int)) && (decide ((i:Int)≤(e:Int)) && (decide ((e:Int)≤(e:Int)) && decide ((e:Int)≤(s.length:Int)))),eqS (.int .i64 (IntKind.wrap .i64 ((i:Int)+(m:Int)))) (.int .i64 (e:Int)),eqS (.int .i64 (IntKind.wrap .i64 ((i:Int)+(m:Int)))) (.int .i64 (e:Int))]
theorem mid4:runS Tryd.prog noPS noCS [28,200024,200027,200028] Tryd.f95.ntmps ops4 midL 209 (Ty i m) (Hc s) ⟨[],[.int .i64 (e:Int),.int .i64 (e:Int),.slice 185 i m 1],[]⟩=some (Tmid s i m e,Hc s,⟨[],[],obMid s i m e⟩):=by kernel_rfl
theorem cT1:sg [] [] [] (T0 i) (T2 i true) (Hc s) [rC]=some (.normal,T0 i,Hc s,[]):=by kernel_rfl
theorem cT2:sg [200012] [] [.int .i64 (j:Int)] (T0 j) (T0 i) (Hc s) [pL.getD 3 .skip]=some (.normal,T0 j,Hc s,[eqS (.int .i64 (IntKind.wrap .i64 ((i:Int)+16))) (.int .i64 (j:Int))]):=by kernel_rfl
theorem cF:sg [] [] [] (T2 i false) (T2 i false) [] [rC]=some (.ret,T2 i false,[],[]):=by kernel_rfl
theorem post4 (b:Bool) (Hx:HL):runA Tryd.prog noCS Tryd.f95.ntmps ops4 (ops4.toList.drop 11) 201 ((29,.bool b)::T0 i) Hx=some (T2 i b,Hx):=by kernel_rfl
end
theorem split4:∃ o0 oc:Oper,ops4.toList=o0::(midL++oc::ops4.toList.drop 11)∧o0.op=.move (.tmp 0)∧o0.guard=none∧o0.dst=some 19∧oc.op=.call ⟨.value (.tmp 19),#[.tmp 28],#[44]⟩∧oc.guard=none∧oc.dst=some 29∧pinO [0,1,2] o0=true∧pinO [0,1,2] oc=true∧pinL (19::[0,1,2]) midL=true:=
 ⟨ops4[0]!,ops4[10]!,by kernel_rfl,by kernel_rfl,by kernel_rfl,by kernel_rfl,by kernel_rfl,by kernel_rfl,by kernel_rfl,by kernel_rfl,by kernel_rfl,by kernel_rfl⟩
theorem nt18:Tryd.f95.ntmps=31:=by kernel_rfl
theorem lt19:19 < Tryd.f95.ntmps:=by rw [nt18]; decide
theorem lt29:29 < Tryd.f95.ntmps:=by rw [nt18]; decide
end Go.Proofs.YtcplgmgpagekfaaDoor.Pol
namespace Go.Proofs.YtcplgmgpagekfaaDoor.Pol
open Go Go.Eng
set_option maxRecDepth 1000000
theorem aget_cases {α:Type}{k s:Nat}{v u:α}{l:List (Nat × α)}(h:aget ((k,v)::l) s=some u):(s=k∧u=v) ∨ aget l s=some u:=by
 simp only [aget] at h
 rcases beq_cases k s with ⟨e,hb⟩ | ⟨_,hb⟩ <;> rw [hb] at h <;> simp only [cond_true,cond_false] at h
 ·cases h; exact .inl ⟨e.symm,rfl⟩
 ·exact .inr h
def capS:List AVal:=[.ptr 193 0,.ptr 194 0]
def pin3 (l:Nat) (u0 u1:Value):List (Tmp × Value):=[(0,.func (.yield l) #[] #[]),(1,u0),(2,u1)]
def mC (s:List UInt8) (k:Nat):Nat:=if s.length - 16 * k < 16 then s.length - 16 * k else 16
def X (s:List UInt8) (k:Nat):List AVal:=[.slice 185 (16 * k) (mC s k) 1]
def nC (s:List UInt8):Nat:=(s.length+15) / 16
abbrev ITs (s:List UInt8) (l:Nat) (u0 u1:Value) (T:TL) (a:Act) (w:World):Prop:=IT Tryd.prog Tryd.f95.ntmps 201 (Hc s) capS #[u0,u1] (pin3 l u0 u1) T a w
theorem roS (s:List UInt8):∀ m o,aget (Hc s) m=some o→o.ro=true:=fun m o h=>by
 unfold Hc at h
 rcases aget_cases h with ⟨_,rfl⟩ | h
 ·rfl
 rcases aget_cases h with ⟨_,rfl⟩ | h
 ·rfl
 rcases aget_cases h with ⟨_,rfl⟩ | h
 ·rfl
 simp [aget] at h
theorem gl200:Tryd.prog.globals.size≤201:=by rw [gl]; omega
theorem hlS (s:List UInt8):ltH 201 (Hc s)=true:=by
 unfold Hc
 simp only [ltH,ltLm]
 rfl
theorem seg {s:List UInt8}{l:Nat}{u0 u1:Value}{J:World→Prop}(hJ:∀ A B,J A→Grown A B→J B){sy:List Nat}{os:List Bool}{vs:List AVal}{Ts T Tq:TL}{cl:List Code}{x:XA}{ob:List Bool}
  (h:sg sy os vs Ts T (Hc s) cl=some (x,Tq,Hc s,ob)) (ha:allT ob=true) (hTl:ltT 201 Tq=true) (hp:pinS [0,1,2] cl=true) {a:Act} {w:World} {Q:Exit→Act→World→Prop} (hi:ITs s l u0 u1 T a w) (hj:J w)
  (hQ:∀ a' w',ITs s l u0 u1 Tq a' w'→J w'→Q x.out a' w'):wpS none 0 Tryd.prog cl Q a w:=
 itSegO (noPS_ok _) (noCS_ok _) hmix hJ (roS s) (hlS s) rfl gl200 h ha hTl (pin:=pin3 l u0 u1) hp hi hj hQ
theorem ptr_inv {σ:Sig}{n off:Nat}{v:Value}(h:VR σ (.ptr n off) v):∃ p,σ n=some p∧v=.pointer (some ⟨p.blk,p.sh+off,none⟩):=by
 cases h with
 | ptr h=>exact ⟨_,h,rfl⟩
theorem slice_inv {σ:Sig}{n off len esz:Nat}{v:Value}(h:VR σ (.slice n off len esz) v):∃ p o cap,σ n=some p∧v=.slice (some ⟨p.blk,o,none⟩) len cap∧(len=0 ∨ o=p.sh+off):=by
 cases h with
 | slice h ho _ _=>exact ⟨_,_,_,h,rfl,ho⟩
theorem same_slice {s:List UInt8}{i m:Nat}{lb:Array Value}(hs:0 < s.length):∀ σ σ1 w xs,HRel σ (aget (Hc s)) w→HRel σ1 (aget (Hc s)) w→LR σ capS lb→LR σ1 capS lb→LR σ [.slice 185 i m 1] xs→LR σ1 [.slice 185 i m 1] xs:=by
 intro σ σ1 w xs hh hh1 hl hl1 hx
 obtain ⟨a0,a1,rfl,v0,_⟩:=LR.inv2 hl
 obtain ⟨b0,b1,hb,w0,_⟩:=LR.inv2 hl1
 simp only [Array.mk.injEq,List.cons.injEq,and_true] at hb
 obtain ⟨rfl,rfl⟩:=hb
 have g192:aget (Hc s) 193=some (.cells true [.slice 185 0 s.length 1]):=rfl
 have g184:aget (Hc s) 185=some (.cells true (s.map .u8)):=rfl
 obtain ⟨p,hp,c,t,fz,c1,c2,c3,_⟩:=hh.obj 193 _ g192
 obtain ⟨q,hq,d,t',fz',d1,d2,d3,_⟩:=hh1.obj 193 _ g192
 obtain ⟨P,hP,e,t2,fz2,e1,e2,_,_⟩:=hh.obj 185 _ g184
 obtain ⟨R,hR,f,t3,fz3,f1,f2,_,_⟩:=hh1.obj 185 _ g184
 obtain ⟨p',hp',k1⟩:=ptr_inv v0
 obtain ⟨q',hq',k2⟩:=ptr_inv w0
 rw [hp] at hp'
 rw [hq] at hq'
 cases hp'
 cases hq'
 rw [k1] at k2
 simp only [Value.pointer.injEq,Option.some.injEq,Addr.mk.injEq,and_true,Nat.add_zero] at k2
 obtain ⟨v1,j1,j2⟩:=c3 0 _ rfl
 obtain ⟨v2,j3,j4⟩:=d3 0 _ rfl
 rw [← k2.1,c1] at d1
 simp only [Option.some.injEq,Obj.cells.injEq] at d1
 obtain ⟨rfl,rfl,rfl⟩:=d1
 rw [← k2.2,j1] at j3
 cases j3
 obtain ⟨P',o1,cap1,hP',g1,g2⟩:=slice_inv j2
 obtain ⟨R',o2,cap2,hR',g3,g4⟩:=slice_inv j4
 rw [hP] at hP'
 rw [hR] at hR'
 cases hP'
 cases hR'
 rw [g1] at g3
 simp only [Value.slice.injEq,Option.some.injEq,Addr.mk.injEq,and_true,true_and] at g3
 obtain ⟨⟨g5,g6⟩,_⟩:=g3
 have hPR:P.sh=R.sh∧P.sz=R.sz:=by
  rw [← g5,e1] at f1
  simp only [Option.some.injEq,Obj.cells.injEq] at f1
  obtain ⟨rfl,_,_⟩:=f1
  exact ⟨by omega,by omega⟩
 refine ⟨hx.1,fun k u u' h1 h2 => ?_⟩
 have hv:=hx.2 k u u' h1 h2
 cases k with
 | zero =>
  simp only [List.getElem?_cons_zero,Option.some.injEq] at h1
  subst h1
  cases hv with
  | slice k1 ho hc hs =>
   rw [hP] at k1
   cases k1
   rw [g5]
   rw [hPR.1] at ho
   rw [hPR.2] at hs
   exact .slice hR ho hc hs
 | succ k=>simp at h1
section
variable {s:List UInt8}{l:Nat}{u0 u1:Value}{J:Nat→World→Prop}{Jx:World→Prop}
def Prem (s:List UInt8) (l:Nat) (u0 u1:Value) (J:Nat→World→Prop) (Jx:World→Prop):Prop:=
 ∀ i W1,J i W1→i≤nC s∧∃ σ1,GRel Tryd.prog σ1∧HRel σ1 (aget (Hc s)) W1∧LR σ1 capS #[u0,u1]∧((i < nC s ∨ true=false)→∀ xs,LR σ1 (X s i) xs→∀ m,YieldAt Fence.wide m Tryd.prog l xs W1 fun e W'=>(e=.returned (.bool true)∧J (i+1) W') ∨ (e=.returned (.bool false)∧Jx W'))
theorem carry {i m e:Nat}:∀ σ1,LR σ1 capS #[u0,u1]→∀ t v,aget (T0 i) t=some v→t ≠ 19∧t ≠ 29∧((aget (Tmid s i m e) t=some v∧ltV 0 v=true) ∨ ∃ u,(t,u) ∈ pin3 l u0 u1∧VR σ1 v u):=fun σ1 h t v hs=>by
 obtain ⟨a0,a1,e,h0,h1⟩:=LR.inv2 h
 simp only [Array.mk.injEq,List.cons.injEq,and_true] at e
 obtain ⟨rfl,rfl⟩:=e
 unfold T0 at hs
 rcases aget_cases hs with ⟨rfl,rfl⟩ | hs
 ·exact ⟨by decide,by decide,.inr ⟨_,by simp [pin3],h0⟩⟩
 rcases aget_cases hs with ⟨rfl,rfl⟩ | hs
 ·exact ⟨by decide,by decide,.inr ⟨_,by simp [pin3],h1⟩⟩
 rcases aget_cases hs with ⟨rfl,rfl⟩ | hs
 ·exact ⟨by decide,by decide,.inl ⟨rfl,rfl⟩⟩
 simp [aget] at hs
theorem eqI {a b:Int}(h:a=b):eqS (.int .i64 a) (.int .i64 b)=true:=by subst h; simp [eqS]
theorem rounds (hJ:∀ i A B,J i A→Grown A B→J i B) (hJx:∀ A B,Jx A→Grown A B→Jx B) (hY:Prem s l u0 u1 J Jx) (hL:s.length < 1000000000000){Q:Exit→Act→World→Prop}
  (hret:∀ a w,a.defers=[]→Jx w→Q .ret a w) (hex:∀ a w,a.defers=[]→J (nC s) w→Q (.exit 0) a w) :
  ∀ (r k:Nat) (a:Act) (w:World),k+r=nC s→ITs s l u0 u1 (T0 (16 * k)) a w→J k w→Code.roundsIn (Fw none) 0 Tryd.prog LB Q (r+1) a w
 | 0,k,a,w,hk,hi,hw=>by
  rw [roundsIn_succ]
  refine wpS_pieces LB ?_
  show wpS none 0 Tryd.prog pL _ a w
  rw [pL_eq]
  have hge:s.length≤16 * k:=by unfold nC at hk; omega
  refine wpS_app' _ [_,_] (seg (J:=J k) (hJ _) (h0 s (16 * k)) (by simp only [allT,decide_eq_false (show ¬ (((16 * k:Nat):Int) < (s.length:Int)) by omega),Bool.not_false,cond_true]) rfl (by kernel_rfl) hi hw fun a' w' hi' hw' => ?_)
  have e:k=nC s:=by omega
  subst e
  obtain ⟨σ,hr,_⟩:=hi'
  exact hex a' w' hr.defers hw'
 | r+1,k,a,w,hk,hi,hw=>by
  have hkN:k < nC s:=by omega
  have hlt:16 * k < s.length:=by unfold nC at hkN; omega
  have hm1:16 * k+mC s k≤s.length:=by unfold mC; split <;> omega
  have hm0:0 < mC s k:=by unfold mC; split <;> omega
  have hm16:mC s k≤16:=by unfold mC; split <;> omega
  rw [roundsIn_succ]
  refine wpS_pieces LB ?_
  show wpS none 0 Tryd.prog pL _ a w
  rw [pL_eq]
  refine wpS_app' _ [_,_] (seg (J:=J k) (hJ _) (h1 s (16 * k)) (by simp only [allT,decide_eq_true (show ((16 * k:Nat):Int) < (s.length:Int) by omega),cond_true]) rfl (by kernel_rfl) hi hw fun a1 w1 hi1 hw1 => ?_)
  show (Code.block 1 B1).wpIn (Fw none) 0 Tryd.prog _ a1 w1
  refine wpIn_block (wpS_pieces B1 ?_)
  show wpS none 0 Tryd.prog pB _ a1 w1
  rw [pB_eq]
  have o1:eqS (.int .i64 (if (((s.length:Int).toNat - ((16 * k:Nat):Int).toNat:Nat):Int) < 16 then (((s.length:Int).toNat - ((16 * k:Nat):Int).toNat:Nat):Int) else 16)) (.int .i64 (mC s k:Int))=true:=eqI (by
   rw [Int.toNat_natCast,Int.toNat_natCast]
   unfold mC
   by_cases h:s.length - 16 * k < 16
   ·rw [if_pos h,if_pos (by omega)]
   ·rw [if_neg h,if_neg (by omega)]; rfl)
  have o2:(decide (0≤((16 * k:Nat):Int)) && (decide (((16 * k:Nat):Int)≤(s.length:Int)) && decide ((s.length:Int)≤(s.length:Int))))=true:=by
   simp only [Bool.and_eq_true,decide_eq_true_eq]; omega
  refine wpS_app' [_] [_,_] (seg (J:=J k) (hJ _) (s3 s (16 * k) (mC s k)) (by simp only [allT,o1,o2,cond_true]) rfl (by kernel_rfl) hi1 hw1 fun a2 w2 hi2 hw2 => ?_)
  show (Code.region 4 ops4 false).wpIn (Fw none) 0 Tryd.prog _ a2 w2
  have hob:allT (obMid s (16 * k) (mC s k) (16 * k+mC s k))=true:=by
   have g1:eqS (.slice 185 (0+((16 * k:Nat):Int).toNat * 1) (((16 * k+mC s k:Nat):Int).toNat - ((16 * k:Nat):Int).toNat) 1) (.slice 185 (16 * k) (mC s k) 1)=true:=by
    rw [Int.toNat_natCast,Int.toNat_natCast]
    have e1:0+16 * k * 1=16 * k:=by omega
    have e2:16 * k+mC s k - 16 * k=mC s k:=by omega
    rw [e1,e2]
    simp [eqS]
   have g2:(decide (0≤((16 * k:Nat):Int)) && (decide (((16 * k:Nat):Int)≤((16 * k+mC s k:Nat):Int)) && (decide (((16 * k+mC s k:Nat):Int)≤((16 * k+mC s k:Nat):Int)) && decide (((16 * k+mC s k:Nat):Int)≤(s.length:Int)))))=true:=by
    simp only [Bool.and_eq_true,decide_eq_true_eq]; omega
   have g3:eqS (.int .i64 (IntKind.wrap .i64 (((16 * k:Nat):Int)+(mC s k:Int)))) (.int .i64 ((16 * k+mC s k:Nat):Int))=true:=eqI (by rw [wrapI _ (by omega) (by omega)]; omega)
   unfold obMid
   simp only [allT,g1,g2,g3,cond_true]
  have hmid:=(runS_ok (noPS_ok _) (mid4 s (16 * k) (mC s k) (16 * k+mC s k)) hob).1
  obtain ⟨o0,oc,hops,e1,e2,e3,e4,e5,e6,e7,e8,e9⟩:=split4
  refine itYield (cs:=noCS) (cap:=capS) (lb:=#[u0,u1]) (pin:=pin3 l u0 u1) (l:=l) (J:=J k) (J':=J (k+1)) (Jx:=Jx) (noCS_ok _) (hJ _) (hJ _) hJx (roS s) (hlS s) rfl gl200 (List.mem_cons_self ..) hops e1 e2 e3 e4 e5 e6 rfl e7 e8 e9 (show pinL [0,1,2] (ops4.toList.drop 11)=true by kernel_rfl) lt19 lt29 (by rfl) hmid (by rfl)
   (T0 (16 * k)) rfl carry (T2 (16 * k)) (fun b Hx=>post4 (16 * k) b Hx) (fun b=>rfl) hi2 hw2 ?_ (.inr fun σ σ1 w xs g1 g2 g3 g4 g5=>same_slice (by omega) σ σ1 w xs g1 g2 g3 g4 g5) ?_ ?_ ?_
  ·intro W hW
   obtain ⟨_,σ1,g1,g2,g3,g4⟩:=hY _ W hW
   exact ⟨σ1,g1,g2,g3,fun xs hxs m=>g4 (.inl hkN) xs hxs m⟩
  ·intro W hW
   obtain ⟨_,σ1,g1,g2,g3,g4⟩:=hY _ W hW
   exact ⟨σ1,g1,g2,g3⟩
  ·intro a3 w3 hi3 hw3
   have o3:eqS (.int .i64 (IntKind.wrap .i64 (((16 * k:Nat):Int)+16))) (.int .i64 ((16 * (k+1):Nat):Int))=true:=eqI (by rw [wrapI _ (by omega) (by omega)]; omega)
   refine seg (J:=J (k+1)) (hJ _) (cT1 s (16 * k)) rfl rfl (by kernel_rfl) hi3 hw3 fun a4 w4 hi4 hw4 => ?_
   refine seg (J:=J (k+1)) (hJ _) (cT2 s (16 * k) (16 * (k+1))) (by simp only [allT,o3,cond_true]) rfl (by kernel_rfl) hi4 hw4 fun a5 w5 hi5 hw5 => ?_
   exact rounds hJ hJx hY hL hret hex r (k+1) a5 w5 (by omega) hi5 hw5
  ·intro a3 w3 hi3 hw3
   refine itSegO (noPS_ok _) (noCS_ok _) hmix (J:=Jx) hJx (fun m o h=>by simp [aget] at h) rfl rfl gl200 (cF (16 * k)) rfl rfl (pin:=pin3 l u0 u1) (show pinS [0,1,2] [rC]=true by kernel_rfl) hi3 hw3 fun a4 w4 hi4 hw4 => ?_
   obtain ⟨σ,hr,_⟩:=hi4
   exact hret a4 w4 hr.defers hw4
end
theorem at3 {y u0 u1:Value}{B:Array Value}{s:Nat}{v:Value}(h:(#[y,u0,u1]:Array Value)[s]? = some v):(#[y] ++ #[u0,u1]++B)[s]? = some v:=by
 have e:(#[y] ++ #[u0,u1]:Array Value) = #[y,u0,u1]:=rfl
 rw [e,Array.getElem?_append_left (Array.getElem?_eq_some_iff.1 h).1]
 exact h
theorem res18 (tmps:Array Value) (w:World):(results Tryd.f95 tmps).run Tryd.prog w=.ok (.tuple #[]) w:=by
 have hr:Tryd.f95.results = #[]:=by kernel_rfl
 unfold results
 rw [hr]
 simp
theorem chunk_it {s:List UInt8}(hL:s.length < 1000000000000):ItOk Tryd.prog 95 capS (Hc s) (X s) (nC s) true:=by
 intro lb l J Jx W hJ hJx hY h0
 obtain ⟨_,σ0,g1,g2,g3,_⟩:=hY 0 W h0
 obtain ⟨u0,u1,rfl,v0,v1⟩:=LR.inv2 g3
 refine (callsIn_wide (n:=0)).1 (callsIn_of_wp_marks (F:=Fence.wide) (fn:=Tryd.f95) (c:=bodyOf Tryd.f95) (by kernel_rfl) (by kernel_rfl) trivial ?_ rfl)
 refine wpS_pieces (ro:=none) (n:=0) _ ?_
 show wpS none 0 Tryd.prog p18 _ _ W
 rw [p18_eq]
 have hsz:Tryd.f95.ntmps=31:=nt18
 have start:ITs s l u0 u1 Tc { tmps:=#[.func (.yield l) #[] #[]] ++ #[u0,u1]++Array.replicate (Tryd.f95.ntmps - (#[.func (.yield l) #[] #[]] ++ #[u0,u1]:Array Value).size) undef,defers:=[] } W:=by
  refine ⟨Go.Eng.cut 201 σ0,⟨(RRel.cut (m:=201) (T:=Tc) ⟨fun s v hs => ?_,by simp [bare,hsz],rfl,g2,g1⟩ rfl (hlS s) gl200),rfl,fun s v hs => ?_⟩,cut_fresh _ _,ltM_ok rfl g3⟩
  ·unfold Tc at hs
   rcases aget_cases hs with ⟨rfl,rfl⟩ | hs
   ·exact ⟨u0,at3 rfl,v0⟩
   rcases aget_cases hs with ⟨rfl,rfl⟩ | hs
   ·exact ⟨u1,at3 rfl,v1⟩
   simp [aget] at hs
  ·simp only [pin3,List.mem_cons,Prod.mk.injEq,List.mem_nil_iff,or_false] at hs
   rcases hs with ⟨rfl,rfl⟩ | ⟨rfl,rfl⟩ | ⟨rfl,rfl⟩ <;> exact at3 rfl
 refine wpS_app' [_] [_] (seg (J:=J 0) (hJ 0) (s0 s) rfl rfl (by kernel_rfl) start h0 fun a w hi hw => ?_)
 show (Code.block 0 (.loop LB)).wpIn (Fw none) 0 Tryd.prog _ a w
 refine wpIn_block (wpIn_loop_rounds (nC s+1) (rounds hJ hJx hY hL (fun a w hd hx => ?_) (fun a w hd hx => ?_) (nC s) 0 a w (by omega) hi hw))
 ·show LeavesInM Fence.wide 0 Tryd.prog Tryd.f95 a.tmps _ a.defers .returning w
  rw [hd]
  exact ⟨_,res18 _ _,⟨_,rfl⟩,.inr hx⟩
 ·show LeavesInM Fence.wide 0 Tryd.prog Tryd.f95 a.tmps _ a.defers .returning w
  rw [hd]
  exact ⟨_,res18 _ _,⟨_,rfl⟩,.inl ⟨rfl,hx⟩⟩
end Go.Proofs.YtcplgmgpagekfaaDoor.Pol
namespace Go.Proofs.YtcplgmgpagekfaaDoor.Pol
open Go Go.Eng
set_option maxRecDepth 1000000
noncomputable def p7:List Code:=pieces (bodyOf Tryd.f75)
def rfAs:Code→Code
 | .block _ (.rangeFunc _ _ a _)=>a
 | c=>c
def rfBd:Code→Code
 | .block _ (.rangeFunc _ _ _ b)=>b
 | c=>c
noncomputable def as7:Code:=rfAs (p7.getD 10 .skip)
noncomputable def bd7:Code:=rfBd (p7.getD 10 .skip)
noncomputable def bi7:Code:=blkOf bd7
noncomputable def pi7:List Code:=pieces bi7
noncomputable def bj7:Code:=loopOf (pi7.getD 1 .skip)
def mk (kf:Nat→UInt8) (i:Nat):UInt8:=cond (Nat.beq i 3 || (Nat.beq i 7 || (Nat.beq i 11 || Nat.beq i 15))) (kf i &&& 15) (cond (Nat.beq i 4 || (Nat.beq i 8 || Nat.beq i 12)) (kf i &&& 252) (kf i))
def keyL (kf:Nat→UInt8):List UInt8:=(List.range 32).map kf
def T7 (kf:Nat→UInt8) (s:List UInt8):TL:=[(0,.str (keyL kf)),(1,.str s),(4,.str []),(5,.int .i64 0),(21,.bool false),(6,.slice 49 0 32 1),(7,.int .i64 19),(25,.bool false),(8,.int .i64 16),(35,.bool false),(9,.ptr 145 0),(10,.ptr 153 0),(50,.fn 95 capS)]
def H7 (kf:Nat→UInt8) (s:List UInt8) (r h:Nat→UInt64):HL:=[(49,.cells false (cellsB 32 (mk kf))),(145,.cells false (cellsU 5 r)),(153,.cells false (cellsU 5 h)),(185,.cells false (s.map .u8)),(193,.cells false [.slice 185 0 s.length 1]),(194,.cells false [.int .i64 16])]
def rK (θ:Fq) (kf:Nat→UInt8):Nat→UInt64:=θ.of (gB (cellsB 16 (mk kf))) 16 0
theorem s7a (θ:Fq) (kf:Nat→UInt8) (s:List UInt8):segO (evSO Tryd.prog noPS (nq θ) [] Tryd.f75.ntmps (mask 75) 100 1 (p7.take 10) ⟨startT [.str (keyL kf),.str s] 0,[],1⟩ ⟨[],[],[]⟩)=some (⟨T7 kf s,H7 kf s (rK θ kf) (fun _=>0),201⟩,[]):=by kernel_rfl
end Go.Proofs.YtcplgmgpagekfaaDoor.Pol
namespace Go.Proofs.YtcplgmgpagekfaaDoor.Pol
open Go Go.Eng
set_option maxRecDepth 1000000
def TA7 (kf:Nat→UInt8) (s:List UInt8) (o m:Nat):TL:=T7 kf s++[(51,.slice 185 o m 1),(11,.slice 185 o m 1)]
def SB7 (kf:Nat→UInt8) (s:List UInt8) (r h x:Nat→UInt64) (o m j:Nat):SA:=⟨TA7 kf s o m++[(55,.agg (cellsU 5 x)),(56,.int .i64 (j:Int))],H7 kf s r h,249⟩
def of7 (θ:Fq) (s:List UInt8) (o m:Nat):EffA:=winE 185 o m fun W=>cond (shAllB W && ok10 m (m:Int)) (some (.agg (cellsU 5 (θ.of (gB W) m (m:Int).toNat)))) none
def xw (h:Nat→UInt64) (i:Nat):UInt64:=cond (Nat.blt 18 (8 * i % 26)) (shr_u64 (h (8 * i / 26)) (8 * i % 26) ||| shl_u64 (h (8 * i / 26+1)) (26 - 8 * i % 26)) (shr_u64 (h (8 * i / 26)) (8 * i % 26))
def c1 (h:Nat→UInt64) (kf:Nat→UInt8) (c:UInt64) (i:Nat):UInt64:=c+((xw h i &&& 255)+(kf (16+i)).toUInt64)
def S87 (kf:Nat→UInt8) (s:List UInt8) (r h:Nat→UInt64) (c:UInt64) (t:Nat→UInt8) (i:Nat):SA:=⟨T7 kf s++[(14,.ptr 225 0),(15,.u64 c),(73,.int .i64 (i:Int))],H7 kf s r h++[(225,.cells false (cellsB 16 t))],249⟩
theorem p7_15:p7[15]? = some (.block 8 (.loop (loopOf (p7.getD 15 .skip)))):=by kernel_rfl
theorem pi7_1:pi7[1]? = some (.block 6 (.loop bj7)):=by kernel_rfl
theorem bd7_eq:bd7=.block 5 bi7:=by kernel_rfl
section
variable (θ:Fq) (kf:Nat→UInt8) (s:List UInt8) (i j o m:Nat) (r h h0 x:Nat→UInt64) (c c0:UInt64) (t t0:Nat→UInt8)
theorem as7_ok (H:HL):evC Tryd.prog (nq θ) Tryd.f75.ntmps (mask 75) 100 201 as7 ⟨putPs (T7 kf s) [51] [.slice 185 o m 1],H,201⟩=some (.normal,⟨TA7 kf s o m,H,209⟩):=by kernel_rfl
theorem b7a:segO (evSO Tryd.prog noPS (nq θ) [300055] Tryd.f75.ntmps (mask 75) 100 201 ((pi7.drop 0).take 1) ⟨TA7 kf s o m,H7 kf s r h,209⟩ ⟨[],[.agg (cellsU 5 x),.tup [.ptr 185 0,.agg (s.map .u8)]],[]⟩)=some (SB7 kf s r h x o m 0,[decP ((of7 θ s o m).app 233 (H7 kf s r h)=some (.agg (cellsU 5 x),H7 kf s r h))]):=by kernel_rfl
theorem b7r:roundO2 Tryd.prog noPS (nq θ) [57,59,200013,61,62,65,100065,200066] [true] [.u64 (x j),.u64 (h j),.int .i64 (i:Int)] Tryd.f75.ntmps (mask 75) 100 201 bj7 (SB7 kf s r h0 x o m 0) (SB7 kf s r h x o m j)=some (⟨TA7 kf s o m++[(55,.agg (cellsU 5 x)),(56,.int .i64 (i:Int))],[(49,.cells false (cellsB 32 (mk kf))),(145,.cells false (cellsU 5 r)),(153,.cells false (putA (cellsU 5 h) (0+(j:Int).toNat * 1) (cellsA (.u64 (h j+x j))))),(185,.cells false (s.map .u8)),(193,.cells false [.slice 185 0 s.length 1]),(194,.cells false [.int .i64 16])],249⟩,
  [eqS (.int .i64 (IntKind.wrap .i64 ((j:Int)+1))) (.int .i64 (i:Int)),Nat.ble (0+(j:Int).toNat * 1+(cellsA (.u64 (h j+x j))).length) (cellsU 5 h).length,decide (0≤(j:Int)) && decide ((j:Int) < 5),isAt (cellsU 5 h) (0+(j:Int).toNat * 1) (.u64 (h j)),decide (0≤(j:Int)) && decide ((j:Int) < 5),
   eqS (likeA ((cellsU 5 x).getD 0 (.bool false)) ((cellsU 5 x).getD ((j:Int).toNat * 1) (.bool false))) (.u64 (x j)),decide (0≤(j:Int)) && (decide ((j:Int) < 5) && (Nat.blt ((j:Int).toNat * 1) (cellsU 5 x).length && eqS (likeA ((cellsU 5 x).getD 0 (.bool false)) ((cellsU 5 x).getD ((j:Int).toNat * 1) (.bool false))) ((cellsU 5 x).getD ((j:Int).toNat * 1) (.bool false)))),decide ((j:Int) < 5)]):=by kernel_rfl
theorem b7x:evSO Tryd.prog noPS (nq θ) [57] Tryd.f75.ntmps (mask 75) 100 201 [bj7] (SB7 kf s r h x o m j) ⟨[false],[],[]⟩=some (.exit 6,⟨TA7 kf s o m++[(55,.agg (cellsU 5 x)),(56,.int .i64 (j:Int)),(57,.bool false)],H7 kf s r h,257⟩,⟨[],[],[!(decide ((j:Int) < 5))]⟩):=by kernel_rfl
theorem b7z:endS [] (evSO Tryd.prog noPS (nq θ) [] Tryd.f75.ntmps (mask 75) 100 201 (pi7.drop 2) ⟨TA7 kf s o m++[(55,.agg (cellsU 5 x)),(56,.int .i64 (j:Int)),(57,.bool false)],H7 kf s r h,257⟩ ⟨[],[],[]⟩)=some (.normal,[],H7 kf s r (θ.mul (gU (cellsU 5 (θ.car (gU (cellsU 5 h))))) (gU (cellsU 5 r))),[]):=by kernel_rfl
theorem t7a:segO (evSO Tryd.prog noPS (nq θ) [] Tryd.f75.ntmps (mask 75) 100 1 ((p7.drop 11).take 4) ⟨T7 kf s,H7 kf s r h,201⟩ ⟨[],[],[]⟩)=some (S87 kf s r (θ.red (gU (cellsU 5 h))) 0 (fun _=>0) 0,[]):=by kernel_rfl
theorem t7r0:roundO2 Tryd.prog noPS (nq θ) [] [] [] Tryd.f75.ntmps (mask 75) 100 1 (loopOf (p7.getD 15 .skip)) (S87 kf s r h c0 t0 0) (S87 kf s r h c t 0)=some (S87 kf s r h (shr_u64 (c1 h kf c 0) 8) (updF t 0 (c1 h kf c 0).toUInt8) 1,[]):=by kernel_rfl
theorem t7r1:roundO2 Tryd.prog noPS (nq θ) [] [] [] Tryd.f75.ntmps (mask 75) 100 1 (loopOf (p7.getD 15 .skip)) (S87 kf s r h c0 t0 0) (S87 kf s r h c t 1)=some (S87 kf s r h (shr_u64 (c1 h kf c 1) 8) (updF t 1 (c1 h kf c 1).toUInt8) 2,[]):=by kernel_rfl
theorem t7r2:roundO2 Tryd.prog noPS (nq θ) [] [] [] Tryd.f75.ntmps (mask 75) 100 1 (loopOf (p7.getD 15 .skip)) (S87 kf s r h c0 t0 0) (S87 kf s r h c t 2)=some (S87 kf s r h (shr_u64 (c1 h kf c 2) 8) (updF t 2 (c1 h kf c 2).toUInt8) 3,[]):=by kernel_rfl
theorem t7r3:roundO2 Tryd.prog noPS (nq θ) [] [] [] Tryd.f75.ntmps (mask 75) 100 1 (loopOf (p7.getD 15 .skip)) (S87 kf s r h c0 t0 0) (S87 kf s r h c t 3)=some (S87 kf s r h (shr_u64 (c1 h kf c 3) 8) (updF t 3 (c1 h kf c 3).toUInt8) 4,[]):=by kernel_rfl
theorem t7r4:roundO2 Tryd.prog noPS (nq θ) [] [] [] Tryd.f75.ntmps (mask 75) 100 1 (loopOf (p7.getD 15 .skip)) (S87 kf s r h c0 t0 0) (S87 kf s r h c t 4)=some (S87 kf s r h (shr_u64 (c1 h kf c 4) 8) (updF t 4 (c1 h kf c 4).toUInt8) 5,[]):=by kernel_rfl
theorem t7r5:roundO2 Tryd.prog noPS (nq θ) [] [] [] Tryd.f75.ntmps (mask 75) 100 1 (loopOf (p7.getD 15 .skip)) (S87 kf s r h c0 t0 0) (S87 kf s r h c t 5)=some (S87 kf s r h (shr_u64 (c1 h kf c 5) 8) (updF t 5 (c1 h kf c 5).toUInt8) 6,[]):=by kernel_rfl
theorem t7r6:roundO2 Tryd.prog noPS (nq θ) [] [] [] Tryd.f75.ntmps (mask 75) 100 1 (loopOf (p7.getD 15 .skip)) (S87 kf s r h c0 t0 0) (S87 kf s r h c t 6)=some (S87 kf s r h (shr_u64 (c1 h kf c 6) 8) (updF t 6 (c1 h kf c 6).toUInt8) 7,[]):=by kernel_rfl
theorem t7r7:roundO2 Tryd.prog noPS (nq θ) [] [] [] Tryd.f75.ntmps (mask 75) 100 1 (loopOf (p7.getD 15 .skip)) (S87 kf s r h c0 t0 0) (S87 kf s r h c t 7)=some (S87 kf s r h (shr_u64 (c1 h kf c 7) 8) (updF t 7 (c1 h kf c 7).toUInt8) 8,[]):=by kernel_rfl
theorem t7r8:roundO2 Tryd.prog noPS (nq θ) [] [] [] Tryd.f75.ntmps (mask 75) 100 1 (loopOf (p7.getD 15 .skip)) (S87 kf s r h c0 t0 0) (S87 kf s r h c t 8)=some (S87 kf s r h (shr_u64 (c1 h kf c 8) 8) (updF t 8 (c1 h kf c 8).toUInt8) 9,[]):=by kernel_rfl
theorem t7r9:roundO2 Tryd.prog noPS (nq θ) [] [] [] Tryd.f75.ntmps (mask 75) 100 1 (loopOf (p7.getD 15 .skip)) (S87 kf s r h c0 t0 0) (S87 kf s r h c t 9)=some (S87 kf s r h (shr_u64 (c1 h kf c 9) 8) (updF t 9 (c1 h kf c 9).toUInt8) 10,[]):=by kernel_rfl
theorem t7r10:roundO2 Tryd.prog noPS (nq θ) [] [] [] Tryd.f75.ntmps (mask 75) 100 1 (loopOf (p7.getD 15 .skip)) (S87 kf s r h c0 t0 0) (S87 kf s r h c t 10)=some (S87 kf s r h (shr_u64 (c1 h kf c 10) 8) (updF t 10 (c1 h kf c 10).toUInt8) 11,[]):=by kernel_rfl
theorem t7r11:roundO2 Tryd.prog noPS (nq θ) [] [] [] Tryd.f75.ntmps (mask 75) 100 1 (loopOf (p7.getD 15 .skip)) (S87 kf s r h c0 t0 0) (S87 kf s r h c t 11)=some (S87 kf s r h (shr_u64 (c1 h kf c 11) 8) (updF t 11 (c1 h kf c 11).toUInt8) 12,[]):=by kernel_rfl
theorem t7r12:roundO2 Tryd.prog noPS (nq θ) [] [] [] Tryd.f75.ntmps (mask 75) 100 1 (loopOf (p7.getD 15 .skip)) (S87 kf s r h c0 t0 0) (S87 kf s r h c t 12)=some (S87 kf s r h (shr_u64 (c1 h kf c 12) 8) (updF t 12 (c1 h kf c 12).toUInt8) 13,[]):=by kernel_rfl
theorem t7r13:roundO2 Tryd.prog noPS (nq θ) [] [] [] Tryd.f75.ntmps (mask 75) 100 1 (loopOf (p7.getD 15 .skip)) (S87 kf s r h c0 t0 0) (S87 kf s r h c t 13)=some (S87 kf s r h (shr_u64 (c1 h kf c 13) 8) (updF t 13 (c1 h kf c 13).toUInt8) 14,[]):=by kernel_rfl
theorem t7r14:roundO2 Tryd.prog noPS (nq θ) [] [] [] Tryd.f75.ntmps (mask 75) 100 1 (loopOf (p7.getD 15 .skip)) (S87 kf s r h c0 t0 0) (S87 kf s r h c t 14)=some (S87 kf s r h (shr_u64 (c1 h kf c 14) 8) (updF t 14 (c1 h kf c 14).toUInt8) 15,[]):=by kernel_rfl
theorem t7r15:roundO2 Tryd.prog noPS (nq θ) [] [] [] Tryd.f75.ntmps (mask 75) 100 1 (loopOf (p7.getD 15 .skip)) (S87 kf s r h c0 t0 0) (S87 kf s r h c t 15)=some (S87 kf s r h (shr_u64 (c1 h kf c 15) 8) (updF t 15 (c1 h kf c 15).toUInt8) 16,[]):=by kernel_rfl
theorem t7x:evSO Tryd.prog noPS (nq θ) [] Tryd.f75.ntmps (mask 75) 100 1 [loopOf (p7.getD 15 .skip)] (S87 kf s r h c t 16) ⟨[],[],[]⟩=some (.exit 8,⟨T7 kf s++[(14,.ptr 225 0),(15,.u64 c),(73,.int .i64 16),(74,.bool false)],H7 kf s r h++[(225,.cells false (cellsB 16 t))],257⟩,⟨[],[],[]⟩):=by kernel_rfl
theorem t7z:ansF Tryd.prog Tryd.f75 (evSO Tryd.prog noPS (nq θ) [] Tryd.f75.ntmps (mask 75) 100 1 (p7.drop 16) ⟨T7 kf s++[(14,.ptr 225 0),(15,.u64 c),(73,.int .i64 16),(74,.bool false)],H7 kf s r h++[(225,.cells false (cellsB 16 t))],257⟩ ⟨[],[],[]⟩)=some (.tup [.str ((List.range 16).map t),.int .i64 0],[]):=by kernel_rfl
end
theorem t7r (θ:Fq) (kf:Nat→UInt8) (s:List UInt8) (r h:Nat→UInt64) (c c0:UInt64) (t t0:Nat→UInt8):∀ i,i < 16→roundO2 Tryd.prog noPS (nq θ) [] [] [] Tryd.f75.ntmps (mask 75) 100 1 (loopOf (p7.getD 15 .skip)) (S87 kf s r h c0 t0 0) (S87 kf s r h c t i)=some (S87 kf s r h (shr_u64 (c1 h kf c i) 8) (updF t i (c1 h kf c i).toUInt8) (i+1),[])
 | 0,_=>t7r0 θ kf s r h c c0 t t0
 | 1,_=>t7r1 θ kf s r h c c0 t t0
 | 2,_=>t7r2 θ kf s r h c c0 t t0
 | 3,_=>t7r3 θ kf s r h c c0 t t0
 | 4,_=>t7r4 θ kf s r h c c0 t t0
 | 5,_=>t7r5 θ kf s r h c c0 t t0
 | 6,_=>t7r6 θ kf s r h c c0 t t0
 | 7,_=>t7r7 θ kf s r h c c0 t t0
 | 8,_=>t7r8 θ kf s r h c c0 t t0
 | 9,_=>t7r9 θ kf s r h c c0 t t0
 | 10,_=>t7r10 θ kf s r h c c0 t t0
 | 11,_=>t7r11 θ kf s r h c c0 t t0
 | 12,_=>t7r12 θ kf s r h c c0 t t0
 | 13,_=>t7r13 θ kf s r h c c0 t t0
 | 14,_=>t7r14 θ kf s r h c c0 t t0
 | 15,_=>t7r15 θ kf s r h c c0 t t0
 | n+16,h=>absurd h (by omega)
theorem okSB (kf:Nat→UInt8) (s:List UInt8) (r h x:Nat→UInt64) (o m j:Nat):okS Tryd.prog (SB7 kf s r h x o m j)=true:=by
 have g:okS Tryd.prog ⟨TA7 kf [] o m++[(55,.agg (cellsU 5 x)),(56,.int .i64 (j:Int))],[(49,.cells false (cellsB 32 (mk kf))),(145,.cells false (cellsU 5 r)),(153,.cells false (cellsU 5 h)),(185,.cells false []),(193,.cells false [.slice 185 0 s.length 1]),(194,.cells false [.int .i64 16])],249⟩=true:=by kernel_rfl
 unfold okS SB7 H7 TA7 T7 at *
 simp only [List.cons_append,List.nil_append,ltH,ltLm,ltL,ltT,ltV,ltS] at g ⊢
 exact g
theorem okS8 (kf:Nat→UInt8) (s:List UInt8) (r h:Nat→UInt64) (c:UInt64) (t:Nat→UInt8) (i:Nat):okS Tryd.prog (S87 kf s r h c t i)=true:=by
 have g:okS Tryd.prog ⟨T7 kf []++[(14,.ptr 225 0),(15,.u64 c),(73,.int .i64 (i:Int))],[(49,.cells false (cellsB 32 (mk kf))),(145,.cells false (cellsU 5 r)),(153,.cells false (cellsU 5 h)),(185,.cells false []),(193,.cells false [.slice 185 0 s.length 1]),(194,.cells false [.int .i64 16]),(225,.cells false (cellsB 16 t))],249⟩=true:=by kernel_rfl
 unfold okS S87 H7 T7 at *
 simp only [List.cons_append,List.nil_append,ltH,ltLm,ltL,ltT,ltV,ltS] at g ⊢
 exact g
end Go.Proofs.YtcplgmgpagekfaaDoor.Pol
