/- Texts TACh1, TACh2, TAChP, Eng32, Eng33, Eng34, Eng35, TACi1: what they show that this claim uses. -/
import Derived.Test.YtjdhndicgifnbaaQ5
import Derived.Test.YtjdhndicgifnbaaQ4
import Derived.OrdersIn
import Derived.LoopNIn
import Derived.ControlIn
import Derived.RangeFuncLeaves
import Derived.RangeFuncSeq
set_option maxRecDepth 100000
set_option maxHeartbeats 1000000
set_option linter.unusedVariables false
set_option linter.unusedSimpArgs false
namespace Go.Proofs.Ytjdhndicgifnbaa.Cha
open Go Go.Eng Go.Cha
noncomputable def p9:List Code:=pieces (bodyOf Try.f79)
noncomputable def b9:Code:=loopOf (p9.getD 7 .skip)
def I9 (key nonce all:List UInt8) (n:UInt32) (a0 a1 a2 a3:UInt8) (x0 x1 x2 x3 x4 x5 x6 x7 x8 x9 x10 x11 x12 x13 x14 x15:UInt32) (k:Nat) (y:List UInt32):SA:=⟨[(0,.str key),(1,.str nonce),(2,.u32 n),(6,.str []),(7,.str all),(8,.ptr 160 0),(9,.int .i64 16),(33,.bool false),(10,.ptr 200 0),(11,.int .i64 k)],[(112,.cells false [.u8 a0,.u8 a1,.u8 a2,.u8 a3]),(160,.cells false ([x0,x1,x2,x3,x4,x5,x6,x7,x8,x9,x10,x11,x12,x13,x14,x15].map .u32)),(200,.cells false (y.map .u32))],224⟩
def J9 (key nonce all:List UInt8) (n:UInt32) (a0 a1 a2 a3:UInt8) (x0 x1 x2 x3 x4 x5 x6 x7 x8 x9 x10 x11 x12 x13 x14 x15:UInt32) (y:List UInt32):SA:=⟨[(0,.str key),(1,.str nonce),(2,.u32 n),(6,.str []),(7,.str all),(8,.ptr 160 0),(9,.int .i64 16),(33,.bool false),(10,.ptr 200 0),(11,.int .i64 10),(48,.bool false)],[(112,.cells false [.u8 a0,.u8 a1,.u8 a2,.u8 a3]),(160,.cells false ([x0,x1,x2,x3,x4,x5,x6,x7,x8,x9,x10,x11,x12,x13,x14,x15].map .u32)),(200,.cells false (y.map .u32))],240⟩
theorem r9_0 (key nonce all:List UInt8) (n:UInt32) (a0 a1 a2 a3:UInt8) (x0 x1 x2 x3 x4 x5 x6 x7 x8 x9 x10 x11 x12 x13 x14 x15:UInt32) (y0 y1 y2 y3 y4 y5 y6 y7 y8 y9 y10 y11 y12 y13 y14 y15:UInt32):roundA (evC Try.prog cs1 Try.f79.ntmps (mask 79) 100 Try.prog.globals.size b9) (headA Try.prog Try.prog.globals.size (I9 key nonce all n a0 a1 a2 a3 x0 x1 x2 x3 x4 x5 x6 x7 x8 x9 x10 x11 x12 x13 x14 x15 0 (rounds [x0,x1,x2,x3,x4,x5,x6,x7,x8,x9,x10,x11,x12,x13,x14,x15] 0))) (I9 key nonce all n a0 a1 a2 a3 x0 x1 x2 x3 x4 x5 x6 x7 x8 x9 x10 x11 x12 x13 x14 x15 0 [y0,y1,y2,y3,y4,y5,y6,y7,y8,y9,y10,y11,y12,y13,y14,y15])=some (I9 key nonce all n a0 a1 a2 a3 x0 x1 x2 x3 x4 x5 x6 x7 x8 x9 x10 x11 x12 x13 x14 x15 1 (dround [y0,y1,y2,y3,y4,y5,y6,y7,y8,y9,y10,y11,y12,y13,y14,y15])):=by kernel_rfl
theorem r9_1 (key nonce all:List UInt8) (n:UInt32) (a0 a1 a2 a3:UInt8) (x0 x1 x2 x3 x4 x5 x6 x7 x8 x9 x10 x11 x12 x13 x14 x15:UInt32) (y0 y1 y2 y3 y4 y5 y6 y7 y8 y9 y10 y11 y12 y13 y14 y15:UInt32):roundA (evC Try.prog cs1 Try.f79.ntmps (mask 79) 100 Try.prog.globals.size b9) (headA Try.prog Try.prog.globals.size (I9 key nonce all n a0 a1 a2 a3 x0 x1 x2 x3 x4 x5 x6 x7 x8 x9 x10 x11 x12 x13 x14 x15 0 (rounds [x0,x1,x2,x3,x4,x5,x6,x7,x8,x9,x10,x11,x12,x13,x14,x15] 0))) (I9 key nonce all n a0 a1 a2 a3 x0 x1 x2 x3 x4 x5 x6 x7 x8 x9 x10 x11 x12 x13 x14 x15 1 [y0,y1,y2,y3,y4,y5,y6,y7,y8,y9,y10,y11,y12,y13,y14,y15])=some (I9 key nonce all n a0 a1 a2 a3 x0 x1 x2 x3 x4 x5 x6 x7 x8 x9 x10 x11 x12 x13 x14 x15 2 (dround [y0,y1,y2,y3,y4,y5,y6,y7,y8,y9,y10,y11,y12,y13,y14,y15])):=by kernel_rfl
theorem r9_2 (key nonce all:List UInt8) (n:UInt32) (a0 a1 a2 a3:UInt8) (x0 x1 x2 x3 x4 x5 x6 x7 x8 x9 x10 x11 x12 x13 x14 x15:UInt32) (y0 y1 y2 y3 y4 y5 y6 y7 y8 y9 y10 y11 y12 y13 y14 y15:UInt32):roundA (evC Try.prog cs1 Try.f79.ntmps (mask 79) 100 Try.prog.globals.size b9) (headA Try.prog Try.prog.globals.size (I9 key nonce all n a0 a1 a2 a3 x0 x1 x2 x3 x4 x5 x6 x7 x8 x9 x10 x11 x12 x13 x14 x15 0 (rounds [x0,x1,x2,x3,x4,x5,x6,x7,x8,x9,x10,x11,x12,x13,x14,x15] 0))) (I9 key nonce all n a0 a1 a2 a3 x0 x1 x2 x3 x4 x5 x6 x7 x8 x9 x10 x11 x12 x13 x14 x15 2 [y0,y1,y2,y3,y4,y5,y6,y7,y8,y9,y10,y11,y12,y13,y14,y15])=some (I9 key nonce all n a0 a1 a2 a3 x0 x1 x2 x3 x4 x5 x6 x7 x8 x9 x10 x11 x12 x13 x14 x15 3 (dround [y0,y1,y2,y3,y4,y5,y6,y7,y8,y9,y10,y11,y12,y13,y14,y15])):=by kernel_rfl
theorem r9_3 (key nonce all:List UInt8) (n:UInt32) (a0 a1 a2 a3:UInt8) (x0 x1 x2 x3 x4 x5 x6 x7 x8 x9 x10 x11 x12 x13 x14 x15:UInt32) (y0 y1 y2 y3 y4 y5 y6 y7 y8 y9 y10 y11 y12 y13 y14 y15:UInt32):roundA (evC Try.prog cs1 Try.f79.ntmps (mask 79) 100 Try.prog.globals.size b9) (headA Try.prog Try.prog.globals.size (I9 key nonce all n a0 a1 a2 a3 x0 x1 x2 x3 x4 x5 x6 x7 x8 x9 x10 x11 x12 x13 x14 x15 0 (rounds [x0,x1,x2,x3,x4,x5,x6,x7,x8,x9,x10,x11,x12,x13,x14,x15] 0))) (I9 key nonce all n a0 a1 a2 a3 x0 x1 x2 x3 x4 x5 x6 x7 x8 x9 x10 x11 x12 x13 x14 x15 3 [y0,y1,y2,y3,y4,y5,y6,y7,y8,y9,y10,y11,y12,y13,y14,y15])=some (I9 key nonce all n a0 a1 a2 a3 x0 x1 x2 x3 x4 x5 x6 x7 x8 x9 x10 x11 x12 x13 x14 x15 4 (dround [y0,y1,y2,y3,y4,y5,y6,y7,y8,y9,y10,y11,y12,y13,y14,y15])):=by kernel_rfl
theorem r9_4 (key nonce all:List UInt8) (n:UInt32) (a0 a1 a2 a3:UInt8) (x0 x1 x2 x3 x4 x5 x6 x7 x8 x9 x10 x11 x12 x13 x14 x15:UInt32) (y0 y1 y2 y3 y4 y5 y6 y7 y8 y9 y10 y11 y12 y13 y14 y15:UInt32):roundA (evC Try.prog cs1 Try.f79.ntmps (mask 79) 100 Try.prog.globals.size b9) (headA Try.prog Try.prog.globals.size (I9 key nonce all n a0 a1 a2 a3 x0 x1 x2 x3 x4 x5 x6 x7 x8 x9 x10 x11 x12 x13 x14 x15 0 (rounds [x0,x1,x2,x3,x4,x5,x6,x7,x8,x9,x10,x11,x12,x13,x14,x15] 0))) (I9 key nonce all n a0 a1 a2 a3 x0 x1 x2 x3 x4 x5 x6 x7 x8 x9 x10 x11 x12 x13 x14 x15 4 [y0,y1,y2,y3,y4,y5,y6,y7,y8,y9,y10,y11,y12,y13,y14,y15])=some (I9 key nonce all n a0 a1 a2 a3 x0 x1 x2 x3 x4 x5 x6 x7 x8 x9 x10 x11 x12 x13 x14 x15 5 (dround [y0,y1,y2,y3,y4,y5,y6,y7,y8,y9,y10,y11,y12,y13,y14,y15])):=by kernel_rfl
theorem r9_5 (key nonce all:List UInt8) (n:UInt32) (a0 a1 a2 a3:UInt8) (x0 x1 x2 x3 x4 x5 x6 x7 x8 x9 x10 x11 x12 x13 x14 x15:UInt32) (y0 y1 y2 y3 y4 y5 y6 y7 y8 y9 y10 y11 y12 y13 y14 y15:UInt32):roundA (evC Try.prog cs1 Try.f79.ntmps (mask 79) 100 Try.prog.globals.size b9) (headA Try.prog Try.prog.globals.size (I9 key nonce all n a0 a1 a2 a3 x0 x1 x2 x3 x4 x5 x6 x7 x8 x9 x10 x11 x12 x13 x14 x15 0 (rounds [x0,x1,x2,x3,x4,x5,x6,x7,x8,x9,x10,x11,x12,x13,x14,x15] 0))) (I9 key nonce all n a0 a1 a2 a3 x0 x1 x2 x3 x4 x5 x6 x7 x8 x9 x10 x11 x12 x13 x14 x15 5 [y0,y1,y2,y3,y4,y5,y6,y7,y8,y9,y10,y11,y12,y13,y14,y15])=some (I9 key nonce all n a0 a1 a2 a3 x0 x1 x2 x3 x4 x5 x6 x7 x8 x9 x10 x11 x12 x13 x14 x15 6 (dround [y0,y1,y2,y3,y4,y5,y6,y7,y8,y9,y10,y11,y12,y13,y14,y15])):=by kernel_rfl
theorem r9_6 (key nonce all:List UInt8) (n:UInt32) (a0 a1 a2 a3:UInt8) (x0 x1 x2 x3 x4 x5 x6 x7 x8 x9 x10 x11 x12 x13 x14 x15:UInt32) (y0 y1 y2 y3 y4 y5 y6 y7 y8 y9 y10 y11 y12 y13 y14 y15:UInt32):roundA (evC Try.prog cs1 Try.f79.ntmps (mask 79) 100 Try.prog.globals.size b9) (headA Try.prog Try.prog.globals.size (I9 key nonce all n a0 a1 a2 a3 x0 x1 x2 x3 x4 x5 x6 x7 x8 x9 x10 x11 x12 x13 x14 x15 0 (rounds [x0,x1,x2,x3,x4,x5,x6,x7,x8,x9,x10,x11,x12,x13,x14,x15] 0))) (I9 key nonce all n a0 a1 a2 a3 x0 x1 x2 x3 x4 x5 x6 x7 x8 x9 x10 x11 x12 x13 x14 x15 6 [y0,y1,y2,y3,y4,y5,y6,y7,y8,y9,y10,y11,y12,y13,y14,y15])=some (I9 key nonce all n a0 a1 a2 a3 x0 x1 x2 x3 x4 x5 x6 x7 x8 x9 x10 x11 x12 x13 x14 x15 7 (dround [y0,y1,y2,y3,y4,y5,y6,y7,y8,y9,y10,y11,y12,y13,y14,y15])):=by kernel_rfl
theorem r9_7 (key nonce all:List UInt8) (n:UInt32) (a0 a1 a2 a3:UInt8) (x0 x1 x2 x3 x4 x5 x6 x7 x8 x9 x10 x11 x12 x13 x14 x15:UInt32) (y0 y1 y2 y3 y4 y5 y6 y7 y8 y9 y10 y11 y12 y13 y14 y15:UInt32):roundA (evC Try.prog cs1 Try.f79.ntmps (mask 79) 100 Try.prog.globals.size b9) (headA Try.prog Try.prog.globals.size (I9 key nonce all n a0 a1 a2 a3 x0 x1 x2 x3 x4 x5 x6 x7 x8 x9 x10 x11 x12 x13 x14 x15 0 (rounds [x0,x1,x2,x3,x4,x5,x6,x7,x8,x9,x10,x11,x12,x13,x14,x15] 0))) (I9 key nonce all n a0 a1 a2 a3 x0 x1 x2 x3 x4 x5 x6 x7 x8 x9 x10 x11 x12 x13 x14 x15 7 [y0,y1,y2,y3,y4,y5,y6,y7,y8,y9,y10,y11,y12,y13,y14,y15])=some (I9 key nonce all n a0 a1 a2 a3 x0 x1 x2 x3 x4 x5 x6 x7 x8 x9 x10 x11 x12 x13 x14 x15 8 (dround [y0,y1,y2,y3,y4,y5,y6,y7,y8,y9,y10,y11,y12,y13,y14,y15])):=by kernel_rfl
theorem r9_8 (key nonce all:List UInt8) (n:UInt32) (a0 a1 a2 a3:UInt8) (x0 x1 x2 x3 x4 x5 x6 x7 x8 x9 x10 x11 x12 x13 x14 x15:UInt32) (y0 y1 y2 y3 y4 y5 y6 y7 y8 y9 y10 y11 y12 y13 y14 y15:UInt32):roundA (evC Try.prog cs1 Try.f79.ntmps (mask 79) 100 Try.prog.globals.size b9) (headA Try.prog Try.prog.globals.size (I9 key nonce all n a0 a1 a2 a3 x0 x1 x2 x3 x4 x5 x6 x7 x8 x9 x10 x11 x12 x13 x14 x15 0 (rounds [x0,x1,x2,x3,x4,x5,x6,x7,x8,x9,x10,x11,x12,x13,x14,x15] 0))) (I9 key nonce all n a0 a1 a2 a3 x0 x1 x2 x3 x4 x5 x6 x7 x8 x9 x10 x11 x12 x13 x14 x15 8 [y0,y1,y2,y3,y4,y5,y6,y7,y8,y9,y10,y11,y12,y13,y14,y15])=some (I9 key nonce all n a0 a1 a2 a3 x0 x1 x2 x3 x4 x5 x6 x7 x8 x9 x10 x11 x12 x13 x14 x15 9 (dround [y0,y1,y2,y3,y4,y5,y6,y7,y8,y9,y10,y11,y12,y13,y14,y15])):=by kernel_rfl
theorem r9_9 (key nonce all:List UInt8) (n:UInt32) (a0 a1 a2 a3:UInt8) (x0 x1 x2 x3 x4 x5 x6 x7 x8 x9 x10 x11 x12 x13 x14 x15:UInt32) (y0 y1 y2 y3 y4 y5 y6 y7 y8 y9 y10 y11 y12 y13 y14 y15:UInt32):roundA (evC Try.prog cs1 Try.f79.ntmps (mask 79) 100 Try.prog.globals.size b9) (headA Try.prog Try.prog.globals.size (I9 key nonce all n a0 a1 a2 a3 x0 x1 x2 x3 x4 x5 x6 x7 x8 x9 x10 x11 x12 x13 x14 x15 0 (rounds [x0,x1,x2,x3,x4,x5,x6,x7,x8,x9,x10,x11,x12,x13,x14,x15] 0))) (I9 key nonce all n a0 a1 a2 a3 x0 x1 x2 x3 x4 x5 x6 x7 x8 x9 x10 x11 x12 x13 x14 x15 9 [y0,y1,y2,y3,y4,y5,y6,y7,y8,y9,y10,y11,y12,y13,y14,y15])=some (I9 key nonce all n a0 a1 a2 a3 x0 x1 x2 x3 x4 x5 x6 x7 x8 x9 x10 x11 x12 x13 x14 x15 10 (dround [y0,y1,y2,y3,y4,y5,y6,y7,y8,y9,y10,y11,y12,y13,y14,y15])):=by kernel_rfl
theorem r9_end (key nonce all:List UInt8) (n:UInt32) (a0 a1 a2 a3:UInt8) (x0 x1 x2 x3 x4 x5 x6 x7 x8 x9 x10 x11 x12 x13 x14 x15:UInt32) (y0 y1 y2 y3 y4 y5 y6 y7 y8 y9 y10 y11 y12 y13 y14 y15:UInt32):evC Try.prog cs1 Try.f79.ntmps (mask 79) 100 Try.prog.globals.size b9 (I9 key nonce all n a0 a1 a2 a3 x0 x1 x2 x3 x4 x5 x6 x7 x8 x9 x10 x11 x12 x13 x14 x15 10 [y0,y1,y2,y3,y4,y5,y6,y7,y8,y9,y10,y11,y12,y13,y14,y15])=some (.exit 2,J9 key nonce all n a0 a1 a2 a3 x0 x1 x2 x3 x4 x5 x6 x7 x8 x9 x10 x11 x12 x13 x14 x15 [y0,y1,y2,y3,y4,y5,y6,y7,y8,y9,y10,y11,y12,y13,y14,y15]):=by kernel_rfl
theorem s9_a (k0 k1 k2 k3 k4 k5 k6 k7 k8 k9 k10 k11 k12 k13 k14 k15 k16 k17 k18 k19 k20 k21 k22 k23 k24 k25 k26 k27 k28 k29 k30 k31 m0 m1 m2 m3 m4 m5 m6 m7 m8 m9 m10 m11:UInt8) (n:UInt32):evS Try.prog cs1 Try.f79.ntmps (mask 79) 100 Try.prog.globals.size ((p9.drop 0).take 7) ⟨startT [.str [k0,k1,k2,k3,k4,k5,k6,k7,k8,k9,k10,k11,k12,k13,k14,k15,k16,k17,k18,k19,k20,k21,k22,k23,k24,k25,k26,k27,k28,k29,k30,k31],.str [m0,m1,m2,m3,m4,m5,m6,m7,m8,m9,m10,m11],.u32 n] 0,[],0⟩=some (.normal,I9 [k0,k1,k2,k3,k4,k5,k6,k7,k8,k9,k10,k11,k12,k13,k14,k15,k16,k17,k18,k19,k20,k21,k22,k23,k24,k25,k26,k27,k28,k29,k30,k31] [m0,m1,m2,m3,m4,m5,m6,m7,m8,m9,m10,m11] (seed [k0,k1,k2,k3,k4,k5,k6,k7,k8,k9,k10,k11,k12,k13,k14,k15,k16,k17,k18,k19,k20,k21,k22,k23,k24,k25,k26,k27,k28,k29,k30,k31] [m0,m1,m2,m3,m4,m5,m6,m7,m8,m9,m10,m11] n) n n.toUInt8 (shr_u32 n 8).toUInt8 (shr_u32 n 16).toUInt8 (shr_u32 n 24).toUInt8 (word (101) (120) (112) (97)) (word (110) (100) (32) (51)) (word (50) (45) (98) (121)) (word (116) (101) (32) (107)) (word (k0) (k1) (k2) (k3)) (word (k4) (k5) (k6) (k7)) (word (k8) (k9) (k10) (k11)) (word (k12) (k13) (k14) (k15)) (word (k16) (k17) (k18) (k19)) (word (k20) (k21) (k22) (k23)) (word (k24) (k25) (k26) (k27)) (word (k28) (k29) (k30) (k31)) (word (n.toUInt8) ((shr_u32 n 8).toUInt8) ((shr_u32 n 16).toUInt8) ((shr_u32 n 24).toUInt8)) (word (m0) (m1) (m2) (m3)) (word (m4) (m5) (m6) (m7)) (word (m8) (m9) (m10) (m11)) 0 (rounds [(word (101) (120) (112) (97)),(word (110) (100) (32) (51)),(word (50) (45) (98) (121)),(word (116) (101) (32) (107)),(word (k0) (k1) (k2) (k3)),(word (k4) (k5) (k6) (k7)),(word (k8) (k9) (k10) (k11)),(word (k12) (k13) (k14) (k15)),(word (k16) (k17) (k18) (k19)),(word (k20) (k21) (k22) (k23)),(word (k24) (k25) (k26) (k27)),(word (k28) (k29) (k30) (k31)),(word (n.toUInt8) ((shr_u32 n 8).toUInt8) ((shr_u32 n 16).toUInt8) ((shr_u32 n 24).toUInt8)),(word (m0) (m1) (m2) (m3)),(word (m4) (m5) (m6) (m7)),(word (m8) (m9) (m10) (m11))] 0)):=by kernel_rfl
theorem s9_b (key nonce all:List UInt8) (n:UInt32) (a0 a1 a2 a3:UInt8) (x0 x1 x2 x3 x4 x5 x6 x7 x8 x9 x10 x11 x12 x13 x14 x15:UInt32) (y0 y1 y2 y3 y4 y5 y6 y7 y8 y9 y10 y11 y12 y13 y14 y15:UInt32):finV Try.prog Try.f79 (evS Try.prog cs1 Try.f79.ntmps (mask 79) 100 Try.prog.globals.size (p9.drop 8) (J9 key nonce all n a0 a1 a2 a3 x0 x1 x2 x3 x4 x5 x6 x7 x8 x9 x10 x11 x12 x13 x14 x15 [y0,y1,y2,y3,y4,y5,y6,y7,y8,y9,y10,y11,y12,y13,y14,y15]))=some (.str (outB [x0,x1,x2,x3,x4,x5,x6,x7,x8,x9,x10,x11,x12,x13,x14,x15] [y0,y1,y2,y3,y4,y5,y6,y7,y8,y9,y10,y11,y12,y13,y14,y15])):=by kernel_rfl
theorem step9 (key nonce all:List UInt8) (n:UInt32) (a0 a1 a2 a3:UInt8) (x0 x1 x2 x3 x4 x5 x6 x7 x8 x9 x10 x11 x12 x13 x14 x15:UInt32) (k:Nat) (hk:k < 10) (y:List UInt32) (hy:y.length=16):roundA (evC Try.prog cs1 Try.f79.ntmps (mask 79) 100 Try.prog.globals.size b9) (headA Try.prog Try.prog.globals.size (I9 key nonce all n a0 a1 a2 a3 x0 x1 x2 x3 x4 x5 x6 x7 x8 x9 x10 x11 x12 x13 x14 x15 0 (rounds [x0,x1,x2,x3,x4,x5,x6,x7,x8,x9,x10,x11,x12,x13,x14,x15] 0))) (I9 key nonce all n a0 a1 a2 a3 x0 x1 x2 x3 x4 x5 x6 x7 x8 x9 x10 x11 x12 x13 x14 x15 k y)=some (I9 key nonce all n a0 a1 a2 a3 x0 x1 x2 x3 x4 x5 x6 x7 x8 x9 x10 x11 x12 x13 x14 x15 (k+1) (dround y)):=by
 obtain ⟨y0,y1,y2,y3,y4,y5,y6,y7,y8,y9,y10,y11,y12,y13,y14,y15,rfl⟩:=sixteen hy
 match k,hk with
 | 0,_=>exact r9_0 key nonce all n a0 a1 a2 a3 x0 x1 x2 x3 x4 x5 x6 x7 x8 x9 x10 x11 x12 x13 x14 x15 y0 y1 y2 y3 y4 y5 y6 y7 y8 y9 y10 y11 y12 y13 y14 y15
 | 1,_=>exact r9_1 key nonce all n a0 a1 a2 a3 x0 x1 x2 x3 x4 x5 x6 x7 x8 x9 x10 x11 x12 x13 x14 x15 y0 y1 y2 y3 y4 y5 y6 y7 y8 y9 y10 y11 y12 y13 y14 y15
 | 2,_=>exact r9_2 key nonce all n a0 a1 a2 a3 x0 x1 x2 x3 x4 x5 x6 x7 x8 x9 x10 x11 x12 x13 x14 x15 y0 y1 y2 y3 y4 y5 y6 y7 y8 y9 y10 y11 y12 y13 y14 y15
 | 3,_=>exact r9_3 key nonce all n a0 a1 a2 a3 x0 x1 x2 x3 x4 x5 x6 x7 x8 x9 x10 x11 x12 x13 x14 x15 y0 y1 y2 y3 y4 y5 y6 y7 y8 y9 y10 y11 y12 y13 y14 y15
 | 4,_=>exact r9_4 key nonce all n a0 a1 a2 a3 x0 x1 x2 x3 x4 x5 x6 x7 x8 x9 x10 x11 x12 x13 x14 x15 y0 y1 y2 y3 y4 y5 y6 y7 y8 y9 y10 y11 y12 y13 y14 y15
 | 5,_=>exact r9_5 key nonce all n a0 a1 a2 a3 x0 x1 x2 x3 x4 x5 x6 x7 x8 x9 x10 x11 x12 x13 x14 x15 y0 y1 y2 y3 y4 y5 y6 y7 y8 y9 y10 y11 y12 y13 y14 y15
 | 6,_=>exact r9_6 key nonce all n a0 a1 a2 a3 x0 x1 x2 x3 x4 x5 x6 x7 x8 x9 x10 x11 x12 x13 x14 x15 y0 y1 y2 y3 y4 y5 y6 y7 y8 y9 y10 y11 y12 y13 y14 y15
 | 7,_=>exact r9_7 key nonce all n a0 a1 a2 a3 x0 x1 x2 x3 x4 x5 x6 x7 x8 x9 x10 x11 x12 x13 x14 x15 y0 y1 y2 y3 y4 y5 y6 y7 y8 y9 y10 y11 y12 y13 y14 y15
 | 8,_=>exact r9_8 key nonce all n a0 a1 a2 a3 x0 x1 x2 x3 x4 x5 x6 x7 x8 x9 x10 x11 x12 x13 x14 x15 y0 y1 y2 y3 y4 y5 y6 y7 y8 y9 y10 y11 y12 y13 y14 y15
 | 9,_=>exact r9_9 key nonce all n a0 a1 a2 a3 x0 x1 x2 x3 x4 x5 x6 x7 x8 x9 x10 x11 x12 x13 x14 x15 y0 y1 y2 y3 y4 y5 y6 y7 y8 y9 y10 y11 y12 y13 y14 y15
 | k+10,hk=>omega
theorem end9 (key nonce all:List UInt8) (n:UInt32) (a0 a1 a2 a3:UInt8) (x0 x1 x2 x3 x4 x5 x6 x7 x8 x9 x10 x11 x12 x13 x14 x15:UInt32) (y:List UInt32) (hy:y.length=16):evC Try.prog cs1 Try.f79.ntmps (mask 79) 100 Try.prog.globals.size b9 (I9 key nonce all n a0 a1 a2 a3 x0 x1 x2 x3 x4 x5 x6 x7 x8 x9 x10 x11 x12 x13 x14 x15 10 y)=some (.exit 2,J9 key nonce all n a0 a1 a2 a3 x0 x1 x2 x3 x4 x5 x6 x7 x8 x9 x10 x11 x12 x13 x14 x15 y):=by
 obtain ⟨y0,y1,y2,y3,y4,y5,y6,y7,y8,y9,y10,y11,y12,y13,y14,y15,rfl⟩:=sixteen hy
 exact r9_end key nonce all n a0 a1 a2 a3 x0 x1 x2 x3 x4 x5 x6 x7 x8 x9 x10 x11 x12 x13 x14 x15 y0 y1 y2 y3 y4 y5 y6 y7 y8 y9 y10 y11 y12 y13 y14 y15
theorem p9_7:p9[7]? = some (.block 2 (.loop b9)):=by kernel_rfl
theorem loop9 (key nonce all:List UInt8) (n:UInt32) (a0 a1 a2 a3:UInt8) (x0 x1 x2 x3 x4 x5 x6 x7 x8 x9 x10 x11 x12 x13 x14 x15:UInt32):evS Try.prog cs1 Try.f79.ntmps (mask 79) 100 Try.prog.globals.size (p9.drop 7) (I9 key nonce all n a0 a1 a2 a3 x0 x1 x2 x3 x4 x5 x6 x7 x8 x9 x10 x11 x12 x13 x14 x15 0 (rounds [x0,x1,x2,x3,x4,x5,x6,x7,x8,x9,x10,x11,x12,x13,x14,x15] 0))=evS Try.prog cs1 Try.f79.ntmps (mask 79) 100 Try.prog.globals.size (p9.drop 8) (J9 key nonce all n a0 a1 a2 a3 x0 x1 x2 x3 x4 x5 x6 x7 x8 x9 x10 x11 x12 x13 x14 x15 (rounds [x0,x1,x2,x3,x4,x5,x6,x7,x8,x9,x10,x11,x12,x13,x14,x15] 10)):=
 evS_loop p9_7 (fun k=>I9 key nonce all n a0 a1 a2 a3 x0 x1 x2 x3 x4 x5 x6 x7 x8 x9 x10 x11 x12 x13 x14 x15 k (rounds [x0,x1,x2,x3,x4,x5,x6,x7,x8,x9,x10,x11,x12,x13,x14,x15] k)) 10 (fun k hk=>step9 key nonce all n a0 a1 a2 a3 x0 x1 x2 x3 x4 x5 x6 x7 x8 x9 x10 x11 x12 x13 x14 x15 k hk (rounds [x0,x1,x2,x3,x4,x5,x6,x7,x8,x9,x10,x11,x12,x13,x14,x15] k) (rounds_length _ k)) (end9 key nonce all n a0 a1 a2 a3 x0 x1 x2 x3 x4 x5 x6 x7 x8 x9 x10 x11 x12 x13 x14 x15 (rounds [x0,x1,x2,x3,x4,x5,x6,x7,x8,x9,x10,x11,x12,x13,x14,x15] 10) (rounds_length _ 10)) (by omega)
theorem fin9 (key nonce all:List UInt8) (n:UInt32) (a0 a1 a2 a3:UInt8) (x0 x1 x2 x3 x4 x5 x6 x7 x8 x9 x10 x11 x12 x13 x14 x15:UInt32) (y:List UInt32) (hy:y.length=16):finV Try.prog Try.f79 (evS Try.prog cs1 Try.f79.ntmps (mask 79) 100 Try.prog.globals.size (p9.drop 8) (J9 key nonce all n a0 a1 a2 a3 x0 x1 x2 x3 x4 x5 x6 x7 x8 x9 x10 x11 x12 x13 x14 x15 y))=some (.str (outB [x0,x1,x2,x3,x4,x5,x6,x7,x8,x9,x10,x11,x12,x13,x14,x15] y)):=by
 obtain ⟨y0,y1,y2,y3,y4,y5,y6,y7,y8,y9,y10,y11,y12,y13,y14,y15,rfl⟩:=sixteen hy
 exact s9_b key nonce all n a0 a1 a2 a3 x0 x1 x2 x3 x4 x5 x6 x7 x8 x9 x10 x11 x12 x13 x14 x15 y0 y1 y2 y3 y4 y5 y6 y7 y8 y9 y10 y11 y12 y13 y14 y15
theorem blk9 {key nonce:List UInt8}(hk:key.length=32) (hn:nonce.length=12) (n:UInt32):(run1 Try.prog cs1 (mask 79) 100 79 [.str key,.str nonce,.u32 n] [] Try.prog.globals.size).map (·.1)=some (.str (block key nonce n)):=by
 obtain ⟨k0,k1,k2,k3,k4,k5,k6,k7,k8,k9,k10,k11,k12,k13,k14,k15,k16,k17,k18,k19,k20,k21,k22,k23,k24,k25,k26,k27,k28,k29,k30,k31,rfl⟩:=thirtytwo hk
 obtain ⟨m0,m1,m2,m3,m4,m5,m6,m7,m8,m9,m10,m11,rfl⟩:=twelve hn
 refine (run1_val (fn:=Try.f79) (c:=bodyOf Try.f79) (by kernel_rfl) (by kernel_rfl) (by kernel_rfl)).trans ?_
 refine (congrArg (finV Try.prog Try.f79) (evS_seg (l:=p9) (k:=0) (m:=7) (s9_a k0 k1 k2 k3 k4 k5 k6 k7 k8 k9 k10 k11 k12 k13 k14 k15 k16 k17 k18 k19 k20 k21 k22 k23 k24 k25 k26 k27 k28 k29 k30 k31 m0 m1 m2 m3 m4 m5 m6 m7 m8 m9 m10 m11 n))).trans ?_
 refine (congrArg (finV Try.prog Try.f79) (loop9 [k0,k1,k2,k3,k4,k5,k6,k7,k8,k9,k10,k11,k12,k13,k14,k15,k16,k17,k18,k19,k20,k21,k22,k23,k24,k25,k26,k27,k28,k29,k30,k31] [m0,m1,m2,m3,m4,m5,m6,m7,m8,m9,m10,m11] (seed [k0,k1,k2,k3,k4,k5,k6,k7,k8,k9,k10,k11,k12,k13,k14,k15,k16,k17,k18,k19,k20,k21,k22,k23,k24,k25,k26,k27,k28,k29,k30,k31] [m0,m1,m2,m3,m4,m5,m6,m7,m8,m9,m10,m11] n) n n.toUInt8 (shr_u32 n 8).toUInt8 (shr_u32 n 16).toUInt8 (shr_u32 n 24).toUInt8 (word (101) (120) (112) (97)) (word (110) (100) (32) (51)) (word (50) (45) (98) (121)) (word (116) (101) (32) (107)) (word (k0) (k1) (k2) (k3)) (word (k4) (k5) (k6) (k7)) (word (k8) (k9) (k10) (k11)) (word (k12) (k13) (k14) (k15)) (word (k16) (k17) (k18) (k19)) (word (k20) (k21) (k22) (k23)) (word (k24) (k25) (k26) (k27)) (word (k28) (k29) (k30) (k31)) (word (n.toUInt8) ((shr_u32 n 8).toUInt8) ((shr_u32 n 16).toUInt8) ((shr_u32 n 24).toUInt8)) (word (m0) (m1) (m2) (m3)) (word (m4) (m5) (m6) (m7)) (word (m8) (m9) (m10) (m11)))).trans ?_
 exact fin9 [k0,k1,k2,k3,k4,k5,k6,k7,k8,k9,k10,k11,k12,k13,k14,k15,k16,k17,k18,k19,k20,k21,k22,k23,k24,k25,k26,k27,k28,k29,k30,k31] [m0,m1,m2,m3,m4,m5,m6,m7,m8,m9,m10,m11] (seed [k0,k1,k2,k3,k4,k5,k6,k7,k8,k9,k10,k11,k12,k13,k14,k15,k16,k17,k18,k19,k20,k21,k22,k23,k24,k25,k26,k27,k28,k29,k30,k31] [m0,m1,m2,m3,m4,m5,m6,m7,m8,m9,m10,m11] n) n n.toUInt8 (shr_u32 n 8).toUInt8 (shr_u32 n 16).toUInt8 (shr_u32 n 24).toUInt8 (word (101) (120) (112) (97)) (word (110) (100) (32) (51)) (word (50) (45) (98) (121)) (word (116) (101) (32) (107)) (word (k0) (k1) (k2) (k3)) (word (k4) (k5) (k6) (k7)) (word (k8) (k9) (k10) (k11)) (word (k12) (k13) (k14) (k15)) (word (k16) (k17) (k18) (k19)) (word (k20) (k21) (k22) (k23)) (word (k24) (k25) (k26) (k27)) (word (k28) (k29) (k30) (k31)) (word (n.toUInt8) ((shr_u32 n 8).toUInt8) ((shr_u32 n 16).toUInt8) ((shr_u32 n 24).toUInt8)) (word (m0) (m1) (m2) (m3)) (word (m4) (m5) (m6) (m7)) (word (m8) (m9) (m10) (m11)) (rounds [(word (101) (120) (112) (97)),(word (110) (100) (32) (51)),(word (50) (45) (98) (121)),(word (116) (101) (32) (107)),(word (k0) (k1) (k2) (k3)),(word (k4) (k5) (k6) (k7)),(word (k8) (k9) (k10) (k11)),(word (k12) (k13) (k14) (k15)),(word (k16) (k17) (k18) (k19)),(word (k20) (k21) (k22) (k23)),(word (k24) (k25) (k26) (k27)),(word (k28) (k29) (k30) (k31)),(word (n.toUInt8) ((shr_u32 n 8).toUInt8) ((shr_u32 n 16).toUInt8) ((shr_u32 n 24).toUInt8)),(word (m0) (m1) (m2) (m3)),(word (m4) (m5) (m6) (m7)),(word (m8) (m9) (m10) (m11))] 10) (rounds_length _ 10)
end Go.Proofs.Ytjdhndicgifnbaa.Cha
namespace Go.Proofs.Ytjdhndicgifnbaa.Cha
open Go Go.Eng Go.Cha
noncomputable def p13:List Code:=pieces (bodyOf Try.f83)
noncomputable def b13:Code:=loopOf (p13.getD 7 .skip)
def I13 (key nonce all:List UInt8) (n:UInt32) (a0 a1 a2 a3:UInt8) (x0 x1 x2 x3 x4 x5 x6 x7 x8 x9 x10 x11 x12 x13 x14 x15:UInt32) (k:Nat) (y:List UInt32):SA:=⟨[(0,.str key),(1,.str nonce),(2,.u32 n),(6,.ptr 0 0),(7,.ptr 8 0),(8,.str all),(34,.int .i64 64),(35,.int .i64 64),(36,.bool false),(10,.ptr 208 0),(55,.int .i64 k)],[(0,.cells false (List.replicate 64 (.u8 0))),(8,.cells false ([x0,x1,x2,x3,x4,x5,x6,x7,x8,x9,x10,x11,x12,x13,x14,x15].map .u32)),(120,.cells false [.u8 a0,.u8 a1,.u8 a2,.u8 a3]),(208,.cells false (y.map .u32))],232⟩
def J13 (key nonce all:List UInt8) (n:UInt32) (a0 a1 a2 a3:UInt8) (x0 x1 x2 x3 x4 x5 x6 x7 x8 x9 x10 x11 x12 x13 x14 x15:UInt32) (y:List UInt32):SA:=⟨[(0,.str key),(1,.str nonce),(2,.u32 n),(6,.ptr 0 0),(7,.ptr 8 0),(8,.str all),(34,.int .i64 64),(35,.int .i64 64),(36,.bool false),(10,.ptr 208 0),(55,.int .i64 10),(56,.bool false)],[(0,.cells false (List.replicate 64 (.u8 0))),(8,.cells false ([x0,x1,x2,x3,x4,x5,x6,x7,x8,x9,x10,x11,x12,x13,x14,x15].map .u32)),(120,.cells false [.u8 a0,.u8 a1,.u8 a2,.u8 a3]),(208,.cells false (y.map .u32))],240⟩
theorem r13_0 (key nonce all:List UInt8) (n:UInt32) (a0 a1 a2 a3:UInt8) (x0 x1 x2 x3 x4 x5 x6 x7 x8 x9 x10 x11 x12 x13 x14 x15:UInt32) (y0 y1 y2 y3 y4 y5 y6 y7 y8 y9 y10 y11 y12 y13 y14 y15:UInt32):roundA (evC Try.prog cs1 Try.f83.ntmps (mask 83) 100 Try.prog.globals.size b13) (headA Try.prog Try.prog.globals.size (I13 key nonce all n a0 a1 a2 a3 x0 x1 x2 x3 x4 x5 x6 x7 x8 x9 x10 x11 x12 x13 x14 x15 0 (rounds [x0,x1,x2,x3,x4,x5,x6,x7,x8,x9,x10,x11,x12,x13,x14,x15] 0))) (I13 key nonce all n a0 a1 a2 a3 x0 x1 x2 x3 x4 x5 x6 x7 x8 x9 x10 x11 x12 x13 x14 x15 0 [y0,y1,y2,y3,y4,y5,y6,y7,y8,y9,y10,y11,y12,y13,y14,y15])=some (I13 key nonce all n a0 a1 a2 a3 x0 x1 x2 x3 x4 x5 x6 x7 x8 x9 x10 x11 x12 x13 x14 x15 1 (dround [y0,y1,y2,y3,y4,y5,y6,y7,y8,y9,y10,y11,y12,y13,y14,y15])):=by kernel_rfl
theorem r13_1 (key nonce all:List UInt8) (n:UInt32) (a0 a1 a2 a3:UInt8) (x0 x1 x2 x3 x4 x5 x6 x7 x8 x9 x10 x11 x12 x13 x14 x15:UInt32) (y0 y1 y2 y3 y4 y5 y6 y7 y8 y9 y10 y11 y12 y13 y14 y15:UInt32):roundA (evC Try.prog cs1 Try.f83.ntmps (mask 83) 100 Try.prog.globals.size b13) (headA Try.prog Try.prog.globals.size (I13 key nonce all n a0 a1 a2 a3 x0 x1 x2 x3 x4 x5 x6 x7 x8 x9 x10 x11 x12 x13 x14 x15 0 (rounds [x0,x1,x2,x3,x4,x5,x6,x7,x8,x9,x10,x11,x12,x13,x14,x15] 0))) (I13 key nonce all n a0 a1 a2 a3 x0 x1 x2 x3 x4 x5 x6 x7 x8 x9 x10 x11 x12 x13 x14 x15 1 [y0,y1,y2,y3,y4,y5,y6,y7,y8,y9,y10,y11,y12,y13,y14,y15])=some (I13 key nonce all n a0 a1 a2 a3 x0 x1 x2 x3 x4 x5 x6 x7 x8 x9 x10 x11 x12 x13 x14 x15 2 (dround [y0,y1,y2,y3,y4,y5,y6,y7,y8,y9,y10,y11,y12,y13,y14,y15])):=by kernel_rfl
theorem r13_2 (key nonce all:List UInt8) (n:UInt32) (a0 a1 a2 a3:UInt8) (x0 x1 x2 x3 x4 x5 x6 x7 x8 x9 x10 x11 x12 x13 x14 x15:UInt32) (y0 y1 y2 y3 y4 y5 y6 y7 y8 y9 y10 y11 y12 y13 y14 y15:UInt32):roundA (evC Try.prog cs1 Try.f83.ntmps (mask 83) 100 Try.prog.globals.size b13) (headA Try.prog Try.prog.globals.size (I13 key nonce all n a0 a1 a2 a3 x0 x1 x2 x3 x4 x5 x6 x7 x8 x9 x10 x11 x12 x13 x14 x15 0 (rounds [x0,x1,x2,x3,x4,x5,x6,x7,x8,x9,x10,x11,x12,x13,x14,x15] 0))) (I13 key nonce all n a0 a1 a2 a3 x0 x1 x2 x3 x4 x5 x6 x7 x8 x9 x10 x11 x12 x13 x14 x15 2 [y0,y1,y2,y3,y4,y5,y6,y7,y8,y9,y10,y11,y12,y13,y14,y15])=some (I13 key nonce all n a0 a1 a2 a3 x0 x1 x2 x3 x4 x5 x6 x7 x8 x9 x10 x11 x12 x13 x14 x15 3 (dround [y0,y1,y2,y3,y4,y5,y6,y7,y8,y9,y10,y11,y12,y13,y14,y15])):=by kernel_rfl
theorem r13_3 (key nonce all:List UInt8) (n:UInt32) (a0 a1 a2 a3:UInt8) (x0 x1 x2 x3 x4 x5 x6 x7 x8 x9 x10 x11 x12 x13 x14 x15:UInt32) (y0 y1 y2 y3 y4 y5 y6 y7 y8 y9 y10 y11 y12 y13 y14 y15:UInt32):roundA (evC Try.prog cs1 Try.f83.ntmps (mask 83) 100 Try.prog.globals.size b13) (headA Try.prog Try.prog.globals.size (I13 key nonce all n a0 a1 a2 a3 x0 x1 x2 x3 x4 x5 x6 x7 x8 x9 x10 x11 x12 x13 x14 x15 0 (rounds [x0,x1,x2,x3,x4,x5,x6,x7,x8,x9,x10,x11,x12,x13,x14,x15] 0))) (I13 key nonce all n a0 a1 a2 a3 x0 x1 x2 x3 x4 x5 x6 x7 x8 x9 x10 x11 x12 x13 x14 x15 3 [y0,y1,y2,y3,y4,y5,y6,y7,y8,y9,y10,y11,y12,y13,y14,y15])=some (I13 key nonce all n a0 a1 a2 a3 x0 x1 x2 x3 x4 x5 x6 x7 x8 x9 x10 x11 x12 x13 x14 x15 4 (dround [y0,y1,y2,y3,y4,y5,y6,y7,y8,y9,y10,y11,y12,y13,y14,y15])):=by kernel_rfl
theorem r13_4 (key nonce all:List UInt8) (n:UInt32) (a0 a1 a2 a3:UInt8) (x0 x1 x2 x3 x4 x5 x6 x7 x8 x9 x10 x11 x12 x13 x14 x15:UInt32) (y0 y1 y2 y3 y4 y5 y6 y7 y8 y9 y10 y11 y12 y13 y14 y15:UInt32):roundA (evC Try.prog cs1 Try.f83.ntmps (mask 83) 100 Try.prog.globals.size b13) (headA Try.prog Try.prog.globals.size (I13 key nonce all n a0 a1 a2 a3 x0 x1 x2 x3 x4 x5 x6 x7 x8 x9 x10 x11 x12 x13 x14 x15 0 (rounds [x0,x1,x2,x3,x4,x5,x6,x7,x8,x9,x10,x11,x12,x13,x14,x15] 0))) (I13 key nonce all n a0 a1 a2 a3 x0 x1 x2 x3 x4 x5 x6 x7 x8 x9 x10 x11 x12 x13 x14 x15 4 [y0,y1,y2,y3,y4,y5,y6,y7,y8,y9,y10,y11,y12,y13,y14,y15])=some (I13 key nonce all n a0 a1 a2 a3 x0 x1 x2 x3 x4 x5 x6 x7 x8 x9 x10 x11 x12 x13 x14 x15 5 (dround [y0,y1,y2,y3,y4,y5,y6,y7,y8,y9,y10,y11,y12,y13,y14,y15])):=by kernel_rfl
theorem r13_5 (key nonce all:List UInt8) (n:UInt32) (a0 a1 a2 a3:UInt8) (x0 x1 x2 x3 x4 x5 x6 x7 x8 x9 x10 x11 x12 x13 x14 x15:UInt32) (y0 y1 y2 y3 y4 y5 y6 y7 y8 y9 y10 y11 y12 y13 y14 y15:UInt32):roundA (evC Try.prog cs1 Try.f83.ntmps (mask 83) 100 Try.prog.globals.size b13) (headA Try.prog Try.prog.globals.size (I13 key nonce all n a0 a1 a2 a3 x0 x1 x2 x3 x4 x5 x6 x7 x8 x9 x10 x11 x12 x13 x14 x15 0 (rounds [x0,x1,x2,x3,x4,x5,x6,x7,x8,x9,x10,x11,x12,x13,x14,x15] 0))) (I13 key nonce all n a0 a1 a2 a3 x0 x1 x2 x3 x4 x5 x6 x7 x8 x9 x10 x11 x12 x13 x14 x15 5 [y0,y1,y2,y3,y4,y5,y6,y7,y8,y9,y10,y11,y12,y13,y14,y15])=some (I13 key nonce all n a0 a1 a2 a3 x0 x1 x2 x3 x4 x5 x6 x7 x8 x9 x10 x11 x12 x13 x14 x15 6 (dround [y0,y1,y2,y3,y4,y5,y6,y7,y8,y9,y10,y11,y12,y13,y14,y15])):=by kernel_rfl
theorem r13_6 (key nonce all:List UInt8) (n:UInt32) (a0 a1 a2 a3:UInt8) (x0 x1 x2 x3 x4 x5 x6 x7 x8 x9 x10 x11 x12 x13 x14 x15:UInt32) (y0 y1 y2 y3 y4 y5 y6 y7 y8 y9 y10 y11 y12 y13 y14 y15:UInt32):roundA (evC Try.prog cs1 Try.f83.ntmps (mask 83) 100 Try.prog.globals.size b13) (headA Try.prog Try.prog.globals.size (I13 key nonce all n a0 a1 a2 a3 x0 x1 x2 x3 x4 x5 x6 x7 x8 x9 x10 x11 x12 x13 x14 x15 0 (rounds [x0,x1,x2,x3,x4,x5,x6,x7,x8,x9,x10,x11,x12,x13,x14,x15] 0))) (I13 key nonce all n a0 a1 a2 a3 x0 x1 x2 x3 x4 x5 x6 x7 x8 x9 x10 x11 x12 x13 x14 x15 6 [y0,y1,y2,y3,y4,y5,y6,y7,y8,y9,y10,y11,y12,y13,y14,y15])=some (I13 key nonce all n a0 a1 a2 a3 x0 x1 x2 x3 x4 x5 x6 x7 x8 x9 x10 x11 x12 x13 x14 x15 7 (dround [y0,y1,y2,y3,y4,y5,y6,y7,y8,y9,y10,y11,y12,y13,y14,y15])):=by kernel_rfl
theorem r13_7 (key nonce all:List UInt8) (n:UInt32) (a0 a1 a2 a3:UInt8) (x0 x1 x2 x3 x4 x5 x6 x7 x8 x9 x10 x11 x12 x13 x14 x15:UInt32) (y0 y1 y2 y3 y4 y5 y6 y7 y8 y9 y10 y11 y12 y13 y14 y15:UInt32):roundA (evC Try.prog cs1 Try.f83.ntmps (mask 83) 100 Try.prog.globals.size b13) (headA Try.prog Try.prog.globals.size (I13 key nonce all n a0 a1 a2 a3 x0 x1 x2 x3 x4 x5 x6 x7 x8 x9 x10 x11 x12 x13 x14 x15 0 (rounds [x0,x1,x2,x3,x4,x5,x6,x7,x8,x9,x10,x11,x12,x13,x14,x15] 0))) (I13 key nonce all n a0 a1 a2 a3 x0 x1 x2 x3 x4 x5 x6 x7 x8 x9 x10 x11 x12 x13 x14 x15 7 [y0,y1,y2,y3,y4,y5,y6,y7,y8,y9,y10,y11,y12,y13,y14,y15])=some (I13 key nonce all n a0 a1 a2 a3 x0 x1 x2 x3 x4 x5 x6 x7 x8 x9 x10 x11 x12 x13 x14 x15 8 (dround [y0,y1,y2,y3,y4,y5,y6,y7,y8,y9,y10,y11,y12,y13,y14,y15])):=by kernel_rfl
theorem r13_8 (key nonce all:List UInt8) (n:UInt32) (a0 a1 a2 a3:UInt8) (x0 x1 x2 x3 x4 x5 x6 x7 x8 x9 x10 x11 x12 x13 x14 x15:UInt32) (y0 y1 y2 y3 y4 y5 y6 y7 y8 y9 y10 y11 y12 y13 y14 y15:UInt32):roundA (evC Try.prog cs1 Try.f83.ntmps (mask 83) 100 Try.prog.globals.size b13) (headA Try.prog Try.prog.globals.size (I13 key nonce all n a0 a1 a2 a3 x0 x1 x2 x3 x4 x5 x6 x7 x8 x9 x10 x11 x12 x13 x14 x15 0 (rounds [x0,x1,x2,x3,x4,x5,x6,x7,x8,x9,x10,x11,x12,x13,x14,x15] 0))) (I13 key nonce all n a0 a1 a2 a3 x0 x1 x2 x3 x4 x5 x6 x7 x8 x9 x10 x11 x12 x13 x14 x15 8 [y0,y1,y2,y3,y4,y5,y6,y7,y8,y9,y10,y11,y12,y13,y14,y15])=some (I13 key nonce all n a0 a1 a2 a3 x0 x1 x2 x3 x4 x5 x6 x7 x8 x9 x10 x11 x12 x13 x14 x15 9 (dround [y0,y1,y2,y3,y4,y5,y6,y7,y8,y9,y10,y11,y12,y13,y14,y15])):=by kernel_rfl
theorem r13_9 (key nonce all:List UInt8) (n:UInt32) (a0 a1 a2 a3:UInt8) (x0 x1 x2 x3 x4 x5 x6 x7 x8 x9 x10 x11 x12 x13 x14 x15:UInt32) (y0 y1 y2 y3 y4 y5 y6 y7 y8 y9 y10 y11 y12 y13 y14 y15:UInt32):roundA (evC Try.prog cs1 Try.f83.ntmps (mask 83) 100 Try.prog.globals.size b13) (headA Try.prog Try.prog.globals.size (I13 key nonce all n a0 a1 a2 a3 x0 x1 x2 x3 x4 x5 x6 x7 x8 x9 x10 x11 x12 x13 x14 x15 0 (rounds [x0,x1,x2,x3,x4,x5,x6,x7,x8,x9,x10,x11,x12,x13,x14,x15] 0))) (I13 key nonce all n a0 a1 a2 a3 x0 x1 x2 x3 x4 x5 x6 x7 x8 x9 x10 x11 x12 x13 x14 x15 9 [y0,y1,y2,y3,y4,y5,y6,y7,y8,y9,y10,y11,y12,y13,y14,y15])=some (I13 key nonce all n a0 a1 a2 a3 x0 x1 x2 x3 x4 x5 x6 x7 x8 x9 x10 x11 x12 x13 x14 x15 10 (dround [y0,y1,y2,y3,y4,y5,y6,y7,y8,y9,y10,y11,y12,y13,y14,y15])):=by kernel_rfl
theorem r13_end (key nonce all:List UInt8) (n:UInt32) (a0 a1 a2 a3:UInt8) (x0 x1 x2 x3 x4 x5 x6 x7 x8 x9 x10 x11 x12 x13 x14 x15:UInt32) (y0 y1 y2 y3 y4 y5 y6 y7 y8 y9 y10 y11 y12 y13 y14 y15:UInt32):evC Try.prog cs1 Try.f83.ntmps (mask 83) 100 Try.prog.globals.size b13 (I13 key nonce all n a0 a1 a2 a3 x0 x1 x2 x3 x4 x5 x6 x7 x8 x9 x10 x11 x12 x13 x14 x15 10 [y0,y1,y2,y3,y4,y5,y6,y7,y8,y9,y10,y11,y12,y13,y14,y15])=some (.exit 2,J13 key nonce all n a0 a1 a2 a3 x0 x1 x2 x3 x4 x5 x6 x7 x8 x9 x10 x11 x12 x13 x14 x15 [y0,y1,y2,y3,y4,y5,y6,y7,y8,y9,y10,y11,y12,y13,y14,y15]):=by kernel_rfl
theorem s13_a (k0 k1 k2 k3 k4 k5 k6 k7 k8 k9 k10 k11 k12 k13 k14 k15 k16 k17 k18 k19 k20 k21 k22 k23 k24 k25 k26 k27 k28 k29 k30 k31 m0 m1 m2 m3 m4 m5 m6 m7 m8 m9 m10 m11:UInt8) (n:UInt32):evS Try.prog cs1 Try.f83.ntmps (mask 83) 100 Try.prog.globals.size ((p13.drop 0).take 7) ⟨startT [.str [k0,k1,k2,k3,k4,k5,k6,k7,k8,k9,k10,k11,k12,k13,k14,k15,k16,k17,k18,k19,k20,k21,k22,k23,k24,k25,k26,k27,k28,k29,k30,k31],.str [m0,m1,m2,m3,m4,m5,m6,m7,m8,m9,m10,m11],.u32 n] 0,[],0⟩=some (.normal,I13 [k0,k1,k2,k3,k4,k5,k6,k7,k8,k9,k10,k11,k12,k13,k14,k15,k16,k17,k18,k19,k20,k21,k22,k23,k24,k25,k26,k27,k28,k29,k30,k31] [m0,m1,m2,m3,m4,m5,m6,m7,m8,m9,m10,m11] (seed [k0,k1,k2,k3,k4,k5,k6,k7,k8,k9,k10,k11,k12,k13,k14,k15,k16,k17,k18,k19,k20,k21,k22,k23,k24,k25,k26,k27,k28,k29,k30,k31] [m0,m1,m2,m3,m4,m5,m6,m7,m8,m9,m10,m11] n) n n.toUInt8 (shr_u32 n 8).toUInt8 (shr_u32 n 16).toUInt8 (shr_u32 n 24).toUInt8 (wordP (101) (120) (112) (97)) (wordP (110) (100) (32) (51)) (wordP (50) (45) (98) (121)) (wordP (116) (101) (32) (107)) (wordP (k0) (k1) (k2) (k3)) (wordP (k4) (k5) (k6) (k7)) (wordP (k8) (k9) (k10) (k11)) (wordP (k12) (k13) (k14) (k15)) (wordP (k16) (k17) (k18) (k19)) (wordP (k20) (k21) (k22) (k23)) (wordP (k24) (k25) (k26) (k27)) (wordP (k28) (k29) (k30) (k31)) (wordP (n.toUInt8) ((shr_u32 n 8).toUInt8) ((shr_u32 n 16).toUInt8) ((shr_u32 n 24).toUInt8)) (wordP (m0) (m1) (m2) (m3)) (wordP (m4) (m5) (m6) (m7)) (wordP (m8) (m9) (m10) (m11)) 0 (rounds [(wordP (101) (120) (112) (97)),(wordP (110) (100) (32) (51)),(wordP (50) (45) (98) (121)),(wordP (116) (101) (32) (107)),(wordP (k0) (k1) (k2) (k3)),(wordP (k4) (k5) (k6) (k7)),(wordP (k8) (k9) (k10) (k11)),(wordP (k12) (k13) (k14) (k15)),(wordP (k16) (k17) (k18) (k19)),(wordP (k20) (k21) (k22) (k23)),(wordP (k24) (k25) (k26) (k27)),(wordP (k28) (k29) (k30) (k31)),(wordP (n.toUInt8) ((shr_u32 n 8).toUInt8) ((shr_u32 n 16).toUInt8) ((shr_u32 n 24).toUInt8)),(wordP (m0) (m1) (m2) (m3)),(wordP (m4) (m5) (m6) (m7)),(wordP (m8) (m9) (m10) (m11))] 0)):=by kernel_rfl
theorem s13_b (key nonce all:List UInt8) (n:UInt32) (a0 a1 a2 a3:UInt8) (x0 x1 x2 x3 x4 x5 x6 x7 x8 x9 x10 x11 x12 x13 x14 x15:UInt32) (y0 y1 y2 y3 y4 y5 y6 y7 y8 y9 y10 y11 y12 y13 y14 y15:UInt32):finV Try.prog Try.f83 (evS Try.prog cs1 Try.f83.ntmps (mask 83) 100 Try.prog.globals.size (p13.drop 8) (J13 key nonce all n a0 a1 a2 a3 x0 x1 x2 x3 x4 x5 x6 x7 x8 x9 x10 x11 x12 x13 x14 x15 [y0,y1,y2,y3,y4,y5,y6,y7,y8,y9,y10,y11,y12,y13,y14,y15]))=some (bytesV (outB [x0,x1,x2,x3,x4,x5,x6,x7,x8,x9,x10,x11,x12,x13,x14,x15] [y0,y1,y2,y3,y4,y5,y6,y7,y8,y9,y10,y11,y12,y13,y14,y15])):=by kernel_rfl
theorem step13 (key nonce all:List UInt8) (n:UInt32) (a0 a1 a2 a3:UInt8) (x0 x1 x2 x3 x4 x5 x6 x7 x8 x9 x10 x11 x12 x13 x14 x15:UInt32) (k:Nat) (hk:k < 10) (y:List UInt32) (hy:y.length=16):roundA (evC Try.prog cs1 Try.f83.ntmps (mask 83) 100 Try.prog.globals.size b13) (headA Try.prog Try.prog.globals.size (I13 key nonce all n a0 a1 a2 a3 x0 x1 x2 x3 x4 x5 x6 x7 x8 x9 x10 x11 x12 x13 x14 x15 0 (rounds [x0,x1,x2,x3,x4,x5,x6,x7,x8,x9,x10,x11,x12,x13,x14,x15] 0))) (I13 key nonce all n a0 a1 a2 a3 x0 x1 x2 x3 x4 x5 x6 x7 x8 x9 x10 x11 x12 x13 x14 x15 k y)=some (I13 key nonce all n a0 a1 a2 a3 x0 x1 x2 x3 x4 x5 x6 x7 x8 x9 x10 x11 x12 x13 x14 x15 (k+1) (dround y)):=by
 obtain ⟨y0,y1,y2,y3,y4,y5,y6,y7,y8,y9,y10,y11,y12,y13,y14,y15,rfl⟩:=sixteen hy
 match k,hk with
 | 0,_=>exact r13_0 key nonce all n a0 a1 a2 a3 x0 x1 x2 x3 x4 x5 x6 x7 x8 x9 x10 x11 x12 x13 x14 x15 y0 y1 y2 y3 y4 y5 y6 y7 y8 y9 y10 y11 y12 y13 y14 y15
 | 1,_=>exact r13_1 key nonce all n a0 a1 a2 a3 x0 x1 x2 x3 x4 x5 x6 x7 x8 x9 x10 x11 x12 x13 x14 x15 y0 y1 y2 y3 y4 y5 y6 y7 y8 y9 y10 y11 y12 y13 y14 y15
 | 2,_=>exact r13_2 key nonce all n a0 a1 a2 a3 x0 x1 x2 x3 x4 x5 x6 x7 x8 x9 x10 x11 x12 x13 x14 x15 y0 y1 y2 y3 y4 y5 y6 y7 y8 y9 y10 y11 y12 y13 y14 y15
 | 3,_=>exact r13_3 key nonce all n a0 a1 a2 a3 x0 x1 x2 x3 x4 x5 x6 x7 x8 x9 x10 x11 x12 x13 x14 x15 y0 y1 y2 y3 y4 y5 y6 y7 y8 y9 y10 y11 y12 y13 y14 y15
 | 4,_=>exact r13_4 key nonce all n a0 a1 a2 a3 x0 x1 x2 x3 x4 x5 x6 x7 x8 x9 x10 x11 x12 x13 x14 x15 y0 y1 y2 y3 y4 y5 y6 y7 y8 y9 y10 y11 y12 y13 y14 y15
 | 5,_=>exact r13_5 key nonce all n a0 a1 a2 a3 x0 x1 x2 x3 x4 x5 x6 x7 x8 x9 x10 x11 x12 x13 x14 x15 y0 y1 y2 y3 y4 y5 y6 y7 y8 y9 y10 y11 y12 y13 y14 y15
 | 6,_=>exact r13_6 key nonce all n a0 a1 a2 a3 x0 x1 x2 x3 x4 x5 x6 x7 x8 x9 x10 x11 x12 x13 x14 x15 y0 y1 y2 y3 y4 y5 y6 y7 y8 y9 y10 y11 y12 y13 y14 y15
 | 7,_=>exact r13_7 key nonce all n a0 a1 a2 a3 x0 x1 x2 x3 x4 x5 x6 x7 x8 x9 x10 x11 x12 x13 x14 x15 y0 y1 y2 y3 y4 y5 y6 y7 y8 y9 y10 y11 y12 y13 y14 y15
 | 8,_=>exact r13_8 key nonce all n a0 a1 a2 a3 x0 x1 x2 x3 x4 x5 x6 x7 x8 x9 x10 x11 x12 x13 x14 x15 y0 y1 y2 y3 y4 y5 y6 y7 y8 y9 y10 y11 y12 y13 y14 y15
 | 9,_=>exact r13_9 key nonce all n a0 a1 a2 a3 x0 x1 x2 x3 x4 x5 x6 x7 x8 x9 x10 x11 x12 x13 x14 x15 y0 y1 y2 y3 y4 y5 y6 y7 y8 y9 y10 y11 y12 y13 y14 y15
 | k+10,hk=>omega
theorem end13 (key nonce all:List UInt8) (n:UInt32) (a0 a1 a2 a3:UInt8) (x0 x1 x2 x3 x4 x5 x6 x7 x8 x9 x10 x11 x12 x13 x14 x15:UInt32) (y:List UInt32) (hy:y.length=16):evC Try.prog cs1 Try.f83.ntmps (mask 83) 100 Try.prog.globals.size b13 (I13 key nonce all n a0 a1 a2 a3 x0 x1 x2 x3 x4 x5 x6 x7 x8 x9 x10 x11 x12 x13 x14 x15 10 y)=some (.exit 2,J13 key nonce all n a0 a1 a2 a3 x0 x1 x2 x3 x4 x5 x6 x7 x8 x9 x10 x11 x12 x13 x14 x15 y):=by
 obtain ⟨y0,y1,y2,y3,y4,y5,y6,y7,y8,y9,y10,y11,y12,y13,y14,y15,rfl⟩:=sixteen hy
 exact r13_end key nonce all n a0 a1 a2 a3 x0 x1 x2 x3 x4 x5 x6 x7 x8 x9 x10 x11 x12 x13 x14 x15 y0 y1 y2 y3 y4 y5 y6 y7 y8 y9 y10 y11 y12 y13 y14 y15
theorem p13_7:p13[7]? = some (.block 2 (.loop b13)):=by kernel_rfl
theorem loop13 (key nonce all:List UInt8) (n:UInt32) (a0 a1 a2 a3:UInt8) (x0 x1 x2 x3 x4 x5 x6 x7 x8 x9 x10 x11 x12 x13 x14 x15:UInt32):evS Try.prog cs1 Try.f83.ntmps (mask 83) 100 Try.prog.globals.size (p13.drop 7) (I13 key nonce all n a0 a1 a2 a3 x0 x1 x2 x3 x4 x5 x6 x7 x8 x9 x10 x11 x12 x13 x14 x15 0 (rounds [x0,x1,x2,x3,x4,x5,x6,x7,x8,x9,x10,x11,x12,x13,x14,x15] 0))=evS Try.prog cs1 Try.f83.ntmps (mask 83) 100 Try.prog.globals.size (p13.drop 8) (J13 key nonce all n a0 a1 a2 a3 x0 x1 x2 x3 x4 x5 x6 x7 x8 x9 x10 x11 x12 x13 x14 x15 (rounds [x0,x1,x2,x3,x4,x5,x6,x7,x8,x9,x10,x11,x12,x13,x14,x15] 10)):=
 evS_loop p13_7 (fun k=>I13 key nonce all n a0 a1 a2 a3 x0 x1 x2 x3 x4 x5 x6 x7 x8 x9 x10 x11 x12 x13 x14 x15 k (rounds [x0,x1,x2,x3,x4,x5,x6,x7,x8,x9,x10,x11,x12,x13,x14,x15] k)) 10 (fun k hk=>step13 key nonce all n a0 a1 a2 a3 x0 x1 x2 x3 x4 x5 x6 x7 x8 x9 x10 x11 x12 x13 x14 x15 k hk (rounds [x0,x1,x2,x3,x4,x5,x6,x7,x8,x9,x10,x11,x12,x13,x14,x15] k) (rounds_length _ k)) (end13 key nonce all n a0 a1 a2 a3 x0 x1 x2 x3 x4 x5 x6 x7 x8 x9 x10 x11 x12 x13 x14 x15 (rounds [x0,x1,x2,x3,x4,x5,x6,x7,x8,x9,x10,x11,x12,x13,x14,x15] 10) (rounds_length _ 10)) (by omega)
theorem fin13 (key nonce all:List UInt8) (n:UInt32) (a0 a1 a2 a3:UInt8) (x0 x1 x2 x3 x4 x5 x6 x7 x8 x9 x10 x11 x12 x13 x14 x15:UInt32) (y:List UInt32) (hy:y.length=16):finV Try.prog Try.f83 (evS Try.prog cs1 Try.f83.ntmps (mask 83) 100 Try.prog.globals.size (p13.drop 8) (J13 key nonce all n a0 a1 a2 a3 x0 x1 x2 x3 x4 x5 x6 x7 x8 x9 x10 x11 x12 x13 x14 x15 y))=some (bytesV (outB [x0,x1,x2,x3,x4,x5,x6,x7,x8,x9,x10,x11,x12,x13,x14,x15] y)):=by
 obtain ⟨y0,y1,y2,y3,y4,y5,y6,y7,y8,y9,y10,y11,y12,y13,y14,y15,rfl⟩:=sixteen hy
 exact s13_b key nonce all n a0 a1 a2 a3 x0 x1 x2 x3 x4 x5 x6 x7 x8 x9 x10 x11 x12 x13 x14 x15 y0 y1 y2 y3 y4 y5 y6 y7 y8 y9 y10 y11 y12 y13 y14 y15
theorem blk13 {key nonce:List UInt8}(hk:key.length=32) (hn:nonce.length=12) (n:UInt32):(run1 Try.prog cs1 (mask 83) 100 83 [.str key,.str nonce,.u32 n] [] Try.prog.globals.size).map (·.1)=some (bytesV (block key nonce n)):=by
 obtain ⟨k0,k1,k2,k3,k4,k5,k6,k7,k8,k9,k10,k11,k12,k13,k14,k15,k16,k17,k18,k19,k20,k21,k22,k23,k24,k25,k26,k27,k28,k29,k30,k31,rfl⟩:=thirtytwo hk
 obtain ⟨m0,m1,m2,m3,m4,m5,m6,m7,m8,m9,m10,m11,rfl⟩:=twelve hn
 refine (run1_val (fn:=Try.f83) (c:=bodyOf Try.f83) (by kernel_rfl) (by kernel_rfl) (by kernel_rfl)).trans ?_
 refine (congrArg (finV Try.prog Try.f83) (evS_seg (l:=p13) (k:=0) (m:=7) (s13_a k0 k1 k2 k3 k4 k5 k6 k7 k8 k9 k10 k11 k12 k13 k14 k15 k16 k17 k18 k19 k20 k21 k22 k23 k24 k25 k26 k27 k28 k29 k30 k31 m0 m1 m2 m3 m4 m5 m6 m7 m8 m9 m10 m11 n))).trans ?_
 refine (congrArg (finV Try.prog Try.f83) (loop13 [k0,k1,k2,k3,k4,k5,k6,k7,k8,k9,k10,k11,k12,k13,k14,k15,k16,k17,k18,k19,k20,k21,k22,k23,k24,k25,k26,k27,k28,k29,k30,k31] [m0,m1,m2,m3,m4,m5,m6,m7,m8,m9,m10,m11] (seed [k0,k1,k2,k3,k4,k5,k6,k7,k8,k9,k10,k11,k12,k13,k14,k15,k16,k17,k18,k19,k20,k21,k22,k23,k24,k25,k26,k27,k28,k29,k30,k31] [m0,m1,m2,m3,m4,m5,m6,m7,m8,m9,m10,m11] n) n n.toUInt8 (shr_u32 n 8).toUInt8 (shr_u32 n 16).toUInt8 (shr_u32 n 24).toUInt8 (wordP (101) (120) (112) (97)) (wordP (110) (100) (32) (51)) (wordP (50) (45) (98) (121)) (wordP (116) (101) (32) (107)) (wordP (k0) (k1) (k2) (k3)) (wordP (k4) (k5) (k6) (k7)) (wordP (k8) (k9) (k10) (k11)) (wordP (k12) (k13) (k14) (k15)) (wordP (k16) (k17) (k18) (k19)) (wordP (k20) (k21) (k22) (k23)) (wordP (k24) (k25) (k26) (k27)) (wordP (k28) (k29) (k30) (k31)) (wordP (n.toUInt8) ((shr_u32 n 8).toUInt8) ((shr_u32 n 16).toUInt8) ((shr_u32 n 24).toUInt8)) (wordP (m0) (m1) (m2) (m3)) (wordP (m4) (m5) (m6) (m7)) (wordP (m8) (m9) (m10) (m11)))).trans ?_
 refine (fin13 [k0,k1,k2,k3,k4,k5,k6,k7,k8,k9,k10,k11,k12,k13,k14,k15,k16,k17,k18,k19,k20,k21,k22,k23,k24,k25,k26,k27,k28,k29,k30,k31] [m0,m1,m2,m3,m4,m5,m6,m7,m8,m9,m10,m11] (seed [k0,k1,k2,k3,k4,k5,k6,k7,k8,k9,k10,k11,k12,k13,k14,k15,k16,k17,k18,k19,k20,k21,k22,k23,k24,k25,k26,k27,k28,k29,k30,k31] [m0,m1,m2,m3,m4,m5,m6,m7,m8,m9,m10,m11] n) n n.toUInt8 (shr_u32 n 8).toUInt8 (shr_u32 n 16).toUInt8 (shr_u32 n 24).toUInt8 (wordP (101) (120) (112) (97)) (wordP (110) (100) (32) (51)) (wordP (50) (45) (98) (121)) (wordP (116) (101) (32) (107)) (wordP (k0) (k1) (k2) (k3)) (wordP (k4) (k5) (k6) (k7)) (wordP (k8) (k9) (k10) (k11)) (wordP (k12) (k13) (k14) (k15)) (wordP (k16) (k17) (k18) (k19)) (wordP (k20) (k21) (k22) (k23)) (wordP (k24) (k25) (k26) (k27)) (wordP (k28) (k29) (k30) (k31)) (wordP (n.toUInt8) ((shr_u32 n 8).toUInt8) ((shr_u32 n 16).toUInt8) ((shr_u32 n 24).toUInt8)) (wordP (m0) (m1) (m2) (m3)) (wordP (m4) (m5) (m6) (m7)) (wordP (m8) (m9) (m10) (m11)) (rounds [(wordP (101) (120) (112) (97)),(wordP (110) (100) (32) (51)),(wordP (50) (45) (98) (121)),(wordP (116) (101) (32) (107)),(wordP (k0) (k1) (k2) (k3)),(wordP (k4) (k5) (k6) (k7)),(wordP (k8) (k9) (k10) (k11)),(wordP (k12) (k13) (k14) (k15)),(wordP (k16) (k17) (k18) (k19)),(wordP (k20) (k21) (k22) (k23)),(wordP (k24) (k25) (k26) (k27)),(wordP (k28) (k29) (k30) (k31)),(wordP (n.toUInt8) ((shr_u32 n 8).toUInt8) ((shr_u32 n 16).toUInt8) ((shr_u32 n 24).toUInt8)),(wordP (m0) (m1) (m2) (m3)),(wordP (m4) (m5) (m6) (m7)),(wordP (m8) (m9) (m10) (m11))] 10) (rounds_length _ 10)).trans ?_
 simp only [wordP_eq]
 rfl
end Go.Proofs.Ytjdhndicgifnbaa.Cha
namespace Go.Cha
open Go Go.Eng
def may (key nonce:List UInt8):Bool:=key.length == 32 && nonce.length == 12
theorem may_true {key nonce:List UInt8}:may key nonce=true ↔ key.length=32∧nonce.length=12:=by simp [may]
def byteAt (key nonce:List UInt8) (n:UInt32) (i:Nat):UInt8:=(block key nonce n).getD i 0
theorem outB_list (x y:List UInt32):outB x y=[(outB x y).getD 0 0,(outB x y).getD 1 0,(outB x y).getD 2 0,(outB x y).getD 3 0,(outB x y).getD 4 0,(outB x y).getD 5 0,(outB x y).getD 6 0,(outB x y).getD 7 0,(outB x y).getD 8 0,(outB x y).getD 9 0,(outB x y).getD 10 0,(outB x y).getD 11 0,(outB x y).getD 12 0,(outB x y).getD 13 0,(outB x y).getD 14 0,(outB x y).getD 15 0,(outB x y).getD 16 0,(outB x y).getD 17 0,(outB x y).getD 18 0,(outB x y).getD 19 0,(outB x y).getD 20 0,(outB x y).getD 21 0,(outB x y).getD 22 0,(outB x y).getD 23 0,(outB x y).getD 24 0,(outB x y).getD 25 0,(outB x y).getD 26 0,(outB x y).getD 27 0,(outB x y).getD 28 0,(outB x y).getD 29 0,(outB x y).getD 30 0,(outB x y).getD 31 0,(outB x y).getD 32 0,(outB x y).getD 33 0,(outB x y).getD 34 0,(outB x y).getD 35 0,(outB x y).getD 36 0,(outB x y).getD 37 0,(outB x y).getD 38 0,(outB x y).getD 39 0,(outB x y).getD 40 0,(outB x y).getD 41 0,(outB x y).getD 42 0,(outB x y).getD 43 0,(outB x y).getD 44 0,(outB x y).getD 45 0,(outB x y).getD 46 0,(outB x y).getD 47 0,(outB x y).getD 48 0,(outB x y).getD 49 0,(outB x y).getD 50 0,(outB x y).getD 51 0,(outB x y).getD 52 0,(outB x y).getD 53 0,(outB x y).getD 54 0,(outB x y).getD 55 0,(outB x y).getD 56 0,(outB x y).getD 57 0,(outB x y).getD 58 0,(outB x y).getD 59 0,(outB x y).getD 60 0,(outB x y).getD 61 0,(outB x y).getD 62 0,(outB x y).getD 63 0]:=by kernel_rfl
def blockX (key nonce:List UInt8) (n:UInt32):List UInt8:=[byteAt key nonce n 0,byteAt key nonce n 1,byteAt key nonce n 2,byteAt key nonce n 3,byteAt key nonce n 4,byteAt key nonce n 5,byteAt key nonce n 6,byteAt key nonce n 7,byteAt key nonce n 8,byteAt key nonce n 9,byteAt key nonce n 10,byteAt key nonce n 11,byteAt key nonce n 12,byteAt key nonce n 13,byteAt key nonce n 14,byteAt key nonce n 15,byteAt key nonce n 16,byteAt key nonce n 17,byteAt key nonce n 18,byteAt key nonce n 19,byteAt key nonce n 20,byteAt key nonce n 21,byteAt key nonce n 22,byteAt key nonce n 23,byteAt key nonce n 24,byteAt key nonce n 25,byteAt key nonce n 26,byteAt key nonce n 27,byteAt key nonce n 28,byteAt key nonce n 29,byteAt key nonce n 30,byteAt key nonce n 31,byteAt key nonce n 32,byteAt key nonce n 33,byteAt key nonce n 34,byteAt key nonce n 35,byteAt key nonce n 36,byteAt key nonce n 37,byteAt key nonce n 38,byteAt key nonce n 39,byteAt key nonce n 40,byteAt key nonce n 41,byteAt key nonce n 42,byteAt key nonce n 43,byteAt key nonce n 44,byteAt key nonce n 45,byteAt key nonce n 46,byteAt key nonce n 47,byteAt key nonce n 48,byteAt key nonce n 49,byteAt key nonce n 50,byteAt key nonce n 51,byteAt key nonce n 52,byteAt key nonce n 53,byteAt key nonce n 54,byteAt key nonce n 55,byteAt key nonce n 56,byteAt key nonce n 57,byteAt key nonce n 58,byteAt key nonce n 59,byteAt key nonce n 60,byteAt key nonce n 61,byteAt key nonce n 62,byteAt key nonce n 63]
theorem block_list (key nonce:List UInt8) (n:UInt32):block key nonce n=blockX key nonce n:=outB_list _ _
theorem zo:outB [1634760805,857760878,2036477234,1797285236,0,0,0,0,0,0,0,0,0,0,0,0] [1282424849,1562217778,1812475918,3181191391,3088700093,451775904,3438229160,3339548555,2086224346,2370328401,1071654007,927652024,4105716586,480319509,1773569987,2254827186]=[118,184,224,173,160,241,61,144,64,93,106,229,83,134,189,40,189,210,25,184,160,141,237,26,168,54,239,204,139,119,13,199,218,65,89,124,81,87,72,141,119,36,224,63,184,216,74,55,106,67,184,244,21,24,161,28,195,135,182,105,178,238,101,134]:=by kernel_rfl
end Go.Cha
namespace Go.Eng
open Go
def Fw (ro:Option Nat):Fence:={ Fence.wide with round:=ro }
theorem callsIn_Fw {ro:Option Nat}{n:Nat}{P:Program}{f:FuncId}{args:Array Value}{w:World}{R:Ending→World→Prop}(h:Calls P f args w R):CallsIn (Fw ro) n P f args w R:=
 (callsIn_wide (n:=n)).2 h
theorem rowsIn_Fw {ro:Option Nat}{n:Nat}{P:Program}{row:String}{args:Array Value}{w:World}{R:Value→World→Prop}(h:Rows P row args w R):RowsIn (Fw ro) n P row args w R:=
 fun c cs _=>by
  obtain ⟨v,w',r,s⟩:=h c cs
  exact ⟨v,w',r,stepsIn_wide.2 s⟩
def bare (a:Act):Act:={ a with defers:=[] }
def dressed (D:List Deferred) (a:Act):Act:={ a with defers:=D }
theorem bare_put (a:Act) (d:Option Tmp) (v:Value):dressed a.defers ((bare a).put d v)=a.put d v:=by cases d <;> rfl
theorem effA_nd {P:Program}{cs:CS}{ρ:Operand→Option AVal}{o:Oper}{e:EffA}(h:effA P cs ρ o=some e):∀ c,o.op ≠ .defer c:=by
 intro c hc
 unfold effA at h
 rw [hc] at h
 cases h
theorem wpIn_of_wp {P:Program}{o:Oper}{a:Act}{w:World}{ro:Option Nat}{n:Nat}{K:Act→World→Prop}{Q:Exit→Act→World→Prop}(hnd:∀ c,o.op ≠ .defer c)
  (h:o.wp P (bare a) w (fun a' w'=>a'.defers=[]∧K (dressed a.defers a') w') (fun _ _ _=>False)):o.wpIn (Fw ro) n P a w K Q:=by
 refine ⟨fun _ _=>trivial,?_⟩
 unfold Oper.wp at h
 rw [Oper.semAt_eq _ _ _ hnd]
 have he:(bare a).eval=a.eval:=rfl
 rw [he] at h
 generalize (execOp a.eval o).run P w=r at h ⊢
 have hd:(Fw ro).depth.isSome=true→1≤n:=fun h=>by cases h
 unfold Oper.upon at h
 unfold Oper.uponIn
 split at h
 ·have:=h.2
  rw [bare_put] at this
  exact this
 ·have:=h.2
  rw [bare_put] at this
  exact this
 ·have:=h.1
  cases hdst:o.dst <;> rw [hdst] at this <;> cases this
 ·refine ⟨hd,callsIn_Fw (Calls.mono h fun e w'' he => ?_)⟩
  cases e with
  | returned v =>
   have:=he.2
   rw [bare_put] at this
   exact this
  | panicked ch=>exact he.elim
  | outgrown =>
   obtain ⟨_,_,h⟩:=he
   exact h.elim
 ·refine ⟨hd,rowsIn_Fw ?_⟩
  intro c cs
  obtain ⟨v,w2,h1,h2⟩:=h c cs
  have:=h1.2
  rw [bare_put] at this
  exact ⟨v,w2,this,h2⟩
 ·exact h.elim
 ·exact h.elim
structure RD (P:Program) (σ:Sig) (nt:Nat) (T:TL) (H:HL) (D:List Deferred) (pin:List (Tmp × Value)) (a:Act) (w:World):Prop where
 rel:RRel P σ nt T H (bare a) w
 defers:a.defers=D
 pins:∀ s v,(s,v) ∈ pin→a.tmps[s]? = some v
theorem RD.of {P:Program}{σ:Sig}{nt:Nat}{T:TL}{H:HL}{a:Act}{w:World}(h:RRel P σ nt T H a w):RD P σ nt T H [] [] a w:=⟨⟨h.tmps,h.size,rfl,h.heap,h.glob⟩,h.defers,fun _ _ h=>by cases h⟩
def pinO (ss:List Tmp) (o:Oper):Bool:=match o.dst with
 | none=>true
 | some d => !memN d ss
def pinL (ss:List Tmp):List Oper→Bool
 | []=>true
 | o::l=>pinO ss o && pinL ss l
def pinB (ss:List Tmp):Code→Bool
 | .region _ ops _=>pinL ss ops.toList
 | .seq a b=>pinB ss a && pinB ss b
 | .cond _ a b=>pinB ss a && pinB ss b
 | .block _ b=>pinB ss b
 | .loop b=>pinB ss b
 | _=>true
theorem pinO_nil (o:Oper):pinO [] o=true:=by
 unfold pinO
 split <;> rfl
theorem pinL_nil:∀ l,pinL [] l=true
 | []=>rfl
 | o::l=>by unfold pinL; rw [pinO_nil,pinL_nil l]; rfl
theorem pinB_nil:∀ c,pinB [] c=true
 | .region _ ops _=>pinL_nil _
 | .seq a b=>by unfold pinB; rw [pinB_nil a,pinB_nil b]; rfl
 | .cond _ a b=>by unfold pinB; rw [pinB_nil a,pinB_nil b]; rfl
 | .block _ b=>by unfold pinB; exact pinB_nil b
 | .loop b=>by unfold pinB; exact pinB_nil b
 | .skip=>rfl
 | .label _=>rfl
 | .exit _=>rfl
 | .ret=>rfl
 | .goto _=>rfl
 | .rangeFunc _ _ _ _=>rfl
 | .scope _=>rfl
 | .refuse _=>rfl
theorem pinL_mem {ss:List Tmp}:∀ {l:List Oper},pinL ss l=true→∀ o ∈ l,pinO ss o=true
 | [],_,o,h=>by cases h
 | x::l,h,o,ho=>by
  simp only [pinL,Bool.and_eq_true] at h
  rcases List.mem_cons.1 ho with rfl | ho
  ·exact h.1
  ·exact pinL_mem h.2 o ho
theorem memN_iff:∀ {l:List Nat}{n:Nat},n ∈ l→memN n l=true
 | x::l,n,h=>by
  simp only [memN]
  rcases List.mem_cons.1 h with rfl | h
  ·rw [Nat.beq_refl]; rfl
  ·rw [memN_iff h]
   cases Nat.beq n x <;> cases Nat.beq x n <;> rfl
theorem pin_put {pin:List (Tmp × Value)}{o:Oper}(ho:pinO (pin.map (·.1)) o=true){a:Act}(h:∀ s v,(s,v) ∈ pin→a.tmps[s]? = some v) (u:Value):∀ s v,(s,v) ∈ pin→(a.put o.dst u).tmps[s]? = some v:=fun s v hs=>by
 cases hd:o.dst with
 | none=>exact h s v hs
 | some d =>
  unfold pinO at ho
  rw [hd] at ho
  have hne:d ≠ s:=fun e=>by
   subst e
   have:=memN_iff (List.mem_map.2 ⟨(d,v),hs,rfl⟩:d ∈ pin.map (·.1))
   simp only [this] at ho
   cases ho
  show (a.tmps.setIfInBounds d u)[s]? = some v
  rw [Array.getElem?_setIfInBounds_ne hne]
  exact h s v hs
section
variable {P:Program}{cs:CS}{nt:Nat}{ro:Option Nat}{n:Nat}{D:List Deferred}{pin:List (Tmp × Value)}
theorem stepA_okI (hcs:CSOk P cs){σ:Sig}{T T':TL}{H H':HL}{a:Act}{w:World}{ops:Array Oper}{base i:Nat}{o:Oper}(hi:ops[i]? = some o) (h:stepA P cs nt ops base o T H=some (T',H')) (hr:RD P σ nt T H D pin a w) (hpo:pinO (pin.map (·.1)) o=true)
  (hf:Free σ base) {K:Act→World→Prop} {Q:Exit→Act→World→Prop}
  (hK:∀ σ' a' w',RD P σ' nt T' H' D pin a' w'→Frm σ (aget H) w σ' (aget H') w'→Only σ σ' base→K a' w'):wpOpIn (Fw ro) n P ops Q i K a w:=by
 have hput:∀ u,(a.put o.dst u).defers=a.defers:=fun u=>by cases o.dst <;> rfl
 have hbp:∀ u,bare (a.put o.dst u)=(bare a).put o.dst u:=fun u=>by cases o.dst <;> rfl
 unfold stepA at h
 unfold wpOpIn
 simp only [hi]
 have hy:yielded ops (bare a).tmps=yielded ops a.tmps:=rfl
 split at h
 ·cases h
 ·rename_i hw
  have hwant:=wantA_ok hr.rel hw
  rw [hy] at hwant
  rw [hwant]
  simp only [Bool.false_eq_true,if_false]
  refine ⟨fun _ _=>trivial,?_⟩
  split at h
  ·rename_i T1 hp
   cases h
   refine hK σ _ w ⟨?_,(hput _).trans hr.defers,pin_put hpo hr.pins _⟩ (Frm.refl _ _ _) (Only.refl _ _)
   rw [hbp]
   exact hr.rel.put (Sig.le_refl σ) hr.rel.heap (.tup rfl fun i v v' h=>by simp at h) hp
  ·cases h
 ·rename_i hw
  have hwant:=wantA_ok hr.rel hw
  rw [hy] at hwant
  rw [hwant]
  simp only [if_true]
  split at h
  ·cases h
  ·rename_i e he
   split at h
   ·cases h
   ·rename_i v H1 ha
    split at h
    ·rename_i T1 hp
     cases h
     refine wpIn_of_wp (effA_nd he) (effA_ok hcs hr.rel.env hr.rel.glob he H w base v H' hr.rel.heap ha hf _ _ fun σ' v' w' h1 h2 h3 h4 => ?_)
     refine ⟨by cases o.dst <;> rfl,?_⟩
     rw [bare_put]
     refine hK σ' _ w' ⟨?_,(hput _).trans hr.defers,pin_put hpo hr.pins _⟩ h3 h4
     rw [hbp]
     exact hr.rel.put h3.ext h2 h1 hp
    ·cases h
theorem runA_okI (hcs:CSOk P cs){ops:Array Oper}{Q:Exit→Act→World→Prop}:∀ (l:List Oper) (k base:Nat) (σ:Sig) (T T':TL) (H H':HL) (a:Act) (w:World),(∀ j,l[j]? = ops[k+j]?)→pinL (pin.map (·.1)) l=true →
  runA P cs nt ops l base T H=some (T',H')→RD P σ nt T H D pin a w→Fresh σ base →
  (∀ σ' a' w',RD P σ' nt T' H' D pin a' w'→Frm σ (aget H) w σ' (aget H') w'→Fresh σ' (base+8 * l.length)→Q .normal a' w')→wpOpsIn (Fw ro) n P ops Q (List.range' k l.length) a w:=by
 intro l
 induction l with
 | nil =>
  intro k base σ T T' H H' a w _ _ h hr hf hQ
  simp only [runA,Option.some.injEq,Prod.mk.injEq] at h
  obtain ⟨rfl,rfl⟩:=h
  exact hQ σ a w hr (Frm.refl _ _ _) (by simpa using hf)
 | cons o l ih =>
  intro k base σ T T' H H' a w hl hpl h hr hf hQ
  simp only [pinL,Bool.and_eq_true] at hpl
  simp only [runA] at h
  split at h
  ·cases h
  ·rename_i T1 H1 h1
   have hi:ops[k]? = some o:=by simpa using (hl 0).symm
   simp only [List.length_cons,List.range'_succ,wpOpsIn_cons]
   refine stepA_okI hcs hi h1 hr hpl.1 hf.free fun σ' a' w' g1 g2 g3 => ?_
   refine ih (k+1) (base+8) σ' T1 T' H1 H' a' w' (fun j=>by have:=hl (j+1); simpa [Nat.add_assoc,Nat.add_comm 1 j] using this) hpl.2 h g1 (hf.only g3) fun σ'' a'' w'' q1 q2 q3 => ?_
   exact hQ σ'' a'' w'' q1 (g2.trans q2) (by simp only [List.length_cons]; rw [show base+8 * (l.length+1)=base+8+8 * l.length by omega]; exact q3)
theorem wpAny_ofI {ops:Array Oper}{fr:Nat}{tab cl:List Nat}{Q:Exit→Act→World→Prop}(hpl:pinL (pin.map (·.1)) ops.toList=true) (hcs:CSOk P cs){G:TL→HL→Prop}:∀ (fuel:Nat) (listed:Array Bool) (T:TL) (H:HL) (σ:Sig) (a:Act) (w:World),AAny P cs nt ops fr tab cl G fuel listed T H→listed.size=ops.size→RD P σ nt T H D pin a w →
  (∀ i,i < ops.size → ¬ LL listed i→Free σ (fr+8 * i))→Fresh σ (fr+8 * ops.size) →
  (∀ σ' T' H' a' w',G T' H'→RD P σ' nt T' H' D pin a' w'→Frm σ (aget H) w σ' (aget H') w'→Fresh σ' (fr+8 * ops.size)→Q .normal a' w')→wpAnyIn (Fw ro) n P .any ops Q fuel listed a w
 | 0,listed,T,H,σ,a,w,hA,_,hr,_,hfr,hQ=>⟨hA.1,hQ σ T H a w hA.2 hr (Frm.refl _ _ _) hfr⟩
 | fuel+1,listed,T,H,σ,a,w,hA,hs,hr,hfree,hfr,hQ=>by
  refine ⟨fun h0=>hQ σ T H a w (hA.1 h0) hr (Frm.refl _ _ _) hfr,fun i hi => ?_⟩
  obtain ⟨T1,H1,hst,hA1⟩:=hA.2 i hi
  obtain ⟨o,e,ho,hk,_,_,hse⟩:=stepD_some hst
  obtain ⟨hilt,hin,_⟩:=ready_facts hs hi
  have hstA:stepA P cs nt ops (fr+8 * i) o T H=some (T1,H1):=by rw [stepA_kind,hk]; exact hse
  refine stepA_okI hcs ho hstA hr (pinL_mem hpl o (by rw [Array.mem_toList_iff]; exact Array.mem_of_getElem? ho)) (hfree i hilt hin) fun σ' a' w' g1 g2 g3 => ?_
  refine wpAny_ofI hpl hcs fuel _ T1 H1 σ' a' w' hA1 (by simpa using hs) g1 (fun m hm hmn => ?_) (fun n hn=>by rw [g3 n (.inr (by omega))]; exact hfr n hn) fun σ'' T'' H'' a'' w'' q1 q2 q3 q4=>hQ σ'' T'' H'' a'' w'' q1 q2 (g2.trans q3) q4
  rw [LL_set (by omega)] at hmn
  have hmi:m ≠ i:=fun e=>hmn (.inl e)
  intro j hj
  rw [g3 _ (by omega)]
  exact hfree m hm (fun h=>hmn (.inr h)) j hj
theorem RD.ext {σ:Sig}{T T':TL}{H H':HL}{a:Act}{w:World}(h:RD P σ nt T H D pin a w) (hT:aget T=aget T') (hH:aget H=aget H'):RD P σ nt T' H' D pin a w:=⟨h.rel.ext hT hH,h.defers,h.pins⟩
theorem RD.less {σ:Sig}{T T':TL}{H H':HL}{a:Act}{w:World}(h:RD P σ nt T H D pin a w) (hT:∀ s v,aget T' s=some v→aget T s=some v) (hH:∀ n o,aget H' n=some o→aget H n=some o):RD P σ nt T' H' D pin a w:=⟨h.rel.less hT hH,h.defers,h.pins⟩
theorem regA_okI (hcs:CSOk P cs) (hm:P.follows .mixedOrders=true){id:Nat}{ops:Array Oper}(hpl:pinL (pin.map (·.1)) ops.toList=true){draw:Bool}{fr:Nat}{T T':TL}{H H':HL}(h:regA P cs nt ops draw fr T H=some (T',H'))
  {σ:Sig} {a:Act} {w:World} (hr:RD P σ nt T H D pin a w) (hfr:Fresh σ fr) {Q:Exit→Act→World→Prop}
  (hQ:∀ σ' a' w',RD P σ' nt T' H' D pin a' w'→Frm σ (aget H) w σ' (aget H') w'→Fresh σ' (fr+8 * ops.size)→Q .normal a' w'):(Code.region id ops draw).wpIn (Fw ro) n P Q a w:=by
 unfold regA at h
 cases draw with
 | false =>
  simp only at h
  refine wpIn_region ?_
  have:=runA_okI (ro:=ro) (n:=n) hcs (Q:=Q) ops.toList 0 fr σ T T' H H' a w (by simp) hpl h hr hfr (by simpa using hQ)
  rw [List.range_eq_range']
  simpa using this
 | true =>
  simp only at h
  cases hrun:runK P cs nt ops fr (befs ops.toList []) ops.toList 0 T H with
  | none=>rw [hrun] at h; cases h
  | some q =>
   obtain ⟨T2,H2,cl⟩:=q
   rw [hrun] at h
   simp only at h
   cases hp:pairsOk ops (befs ops.toList []) cl ops.toList 0 with
   | false=>rw [hp] at h; cases h
   | true =>
    rw [hp] at h
    simp only [cond_true,Option.some.injEq,Prod.mk.injEq] at h
    obtain ⟨rfl,rfl⟩:=h
    refine wpIn_region_any hm ?_
    have hall:∀ i,¬ LL (Array.replicate ops.size false) i:=fun i h=>by
     unfold LL at h
     simp only [Array.getD_eq_getD_getElem?,Array.getElem?_replicate] at h
     split at h <;> simp at h
    have hdc:DC ops (Array.replicate ops.size false):=fun i o hi _ _ _ _=>absurd hi (hall i)
    have htab:∀ listed,DC ops listed→TabOk ops listed (befs ops.toList []):=fun listed hd=>befs_ok hd ops.toList [] (by simp) (fun j b hj=>by simp at hj)
    have hA:=AAny_lex (P:=P) (cs:=cs) (nt:=nt) (fr:=fr) (cl:=cl) (G:=fun X Y=>aget X=aget T2∧aget Y=aget H2) (fun T1 T3 H1 H3 a1 a2 a3=>⟨a1 ▸ a3.1,a2 ▸ a3.2⟩) htab ops.toList 0 (Array.replicate ops.size false) T T2 H H2 cl (by simp) (by simp)
     (fun i=>⟨fun h=>absurd h (hall i),fun h=>by omega⟩) (by simp) hdc hrun (by simp) hp ⟨rfl,rfl⟩
    refine wpAny_ofI hpl (tab:=befs ops.toList []) (cl:=cl) hcs ops.size _ T H σ a { w with drawn:=w.drawn+1 } (by simpa using hA) (by simp) ⟨⟨hr.rel.tmps,hr.rel.size,hr.rel.defers,hr.rel.heap.drew rfl,hr.rel.glob⟩,hr.defers,hr.pins⟩ (fun i _ _ j _=>hfr _ (by omega)) (fun n hn=>hfr n (by omega)) ?_
    intro σ' T3 H3 a' w' g1 g2 g3 g4
    refine hQ σ' a' w' (g2.ext g1.1 g1.2) ?_ g4
    rw [← g1.2]
    exact ⟨g3.ext,g3.size,g3.os,g3.output,g3.tape,g3.old⟩
end
def SimI (P:Program) (bs nt:Nat) (c:Code) (s:SA) (x:XA) (s':SA):Prop:=
 ∀ (ro:Option Nat) (n:Nat) (D:List Deferred) (pin:List (Tmp × Value)) (_:pinB (pin.map (·.1)) c=true) (σ:Sig) (a:Act) (w:World) (Q:Exit→Act→World→Prop),RD P σ nt s.T s.H D pin a w→Fresh σ s.fr →
  (∀ σ' a' w',RD P σ' nt s'.T s'.H D pin a' w'→FrmB bs σ (aget s.H) w σ' (aget s'.H) w'→Fresh σ' s'.fr→Q x.out a' w')→c.wpIn (Fw ro) n P Q a w
theorem iterA_okI {P:Program}{bs nt:Nat}{b:Code}{f:SA→Option (XA × SA)}(hf:∀ s x s',f s=some (x,s')→SimI P bs nt b s x s') (s0:SA):∀ (m:Nat) (s:SA) (x:XA) (s':SA),iterA f (headA P bs s0) m s=some (x,s') →
  ∀ (ro:Option Nat) (n:Nat) (D:List Deferred) (pin:List (Tmp × Value)) (_:pinB (pin.map (·.1)) b=true) (σ0:Sig) (w0:World),Fresh σ0 s0.fr→∀ (σ:Sig) (a:Act) (w:World) (Q:Exit→Act→World→Prop),RD P σ nt s.T s.H D pin a w→Fresh σ s.fr→FrmB bs σ0 (aget s0.H) w0 σ (aget s.H) w →
  (∀ σ' a' w',RD P σ' nt s'.T s'.H D pin a' w'→FrmB bs σ0 (aget s0.H) w0 σ' (aget s'.H) w'→Fresh σ' s'.fr→Q x.out a' w')→Code.roundsIn (Fw ro) n P b Q m a w
 | 0,s,x,s',h,_,_,_,_,_,_,_,_,_,_,_,_,_,_,_,_=>by cases h
 | m+1,s,x,s',h,ro,n,D,pin,hpb,σ0,w0,hf0,σ,a,w,Q,hr,hfr,hfm,hQ=>by
  rw [roundsIn_succ]
  simp only [iterA] at h
  cases hs:f s with
  | none=>rw [hs] at h; cases h
  | some p =>
   obtain ⟨y,s1⟩:=p
   rw [hs] at h
   refine hf s y s1 hs ro n D pin hpb σ a w _ hr hfr fun σ1 a1 w1 g1 g2 g3 => ?_
   cases y with
   | normal =>
    simp only at h
    obtain ⟨σ2,q1,q2,q3⟩:=headA_ok (bs:=bs) s0 s1 g1.rel g3 hf0 (hfm.trans g2)
    exact iterA_okI hf s0 m _ x s' h ro n D pin hpb σ0 w0 hf0 σ2 a1 w1 Q ⟨q1,g1.defers,g1.pins⟩ q2 q3 hQ
   | exit id =>
    simp only [Option.some.injEq,Prod.mk.injEq] at h
    obtain ⟨rfl,rfl⟩:=h
    exact hQ σ1 a1 w1 g1 (hfm.trans g2) g3
   | ret =>
    simp only [Option.some.injEq,Prod.mk.injEq] at h
    obtain ⟨rfl,rfl⟩:=h
    exact hQ σ1 a1 w1 g1 (hfm.trans g2) g3
theorem evC_okI {P:Program}{cs:CS}(hcs:CSOk P cs) (hm:P.follows .mixedOrders=true){nt nn F bs:Nat}:∀ (c:Code) (s:SA) (x:XA) (s':SA),evC P cs nt nn F bs c s=some (x,s')→SimI P bs nt c s x s'
 | .skip,s,x,s',h=>by
  simp only [evC,Option.some.injEq,Prod.mk.injEq] at h
  obtain ⟨rfl,rfl⟩:=h
  exact fun ro n D pin hpb σ a w Q hr hf hQ=>wpIn_skip (hQ σ a w hr (FrmB.refl _ _ _ _) hf)
 | .label l,s,x,s',h=>by
  simp only [evC,Option.some.injEq,Prod.mk.injEq] at h
  obtain ⟨rfl,rfl⟩:=h
  exact fun ro n D pin hpb σ a w Q hr hf hQ=>wpIn_label (hQ σ a w hr (FrmB.refl _ _ _ _) hf)
 | .region id ops d,s,x,s',h=>by
  simp only [evC] at h
  split at h
  ·rename_i T' H' hreg
   cases h
   exact fun ro n D pin hpb σ a w Q hr hf hQ=>regA_okI hcs hm hpb hreg hr hf fun σ' a' w' g1 g2 g3=>hQ σ' a' w' (g1.less (fun _ _=>prune_get) (fun _ _ h=>h)) (g2.b bs) g3
  ·cases h
 | .seq a b,s,x,s',h=>by
  simp only [evC] at h
  cases hs:evC P cs nt nn F bs a s with
  | none=>rw [hs] at h; cases h
  | some p =>
   obtain ⟨y,s1⟩:=p
   rw [hs] at h
   have ha:=evC_okI hcs hm a s y s1 hs
   intro ro n D pin hpb σ ac w Q hr hf hQ
   simp only [pinB,Bool.and_eq_true] at hpb
   refine wpIn_seq (ha ro n D pin hpb.1 σ ac w _ hr hf fun σ1 a1 w1 g1 g2 g3 => ?_)
   cases y with
   | normal =>
    simp only at h
    exact evC_okI hcs hm b s1 x s' h ro n D pin hpb.2 σ1 a1 w1 Q g1 g3 fun σ2 a2 w2 q1 q2 q3=>hQ σ2 a2 w2 q1 (g2.trans q2) q3
   | exit id=>simp only [Option.some.injEq,Prod.mk.injEq] at h; obtain ⟨rfl,rfl⟩:=h; exact hQ σ1 a1 w1 g1 g2 g3
   | ret=>simp only [Option.some.injEq,Prod.mk.injEq] at h; obtain ⟨rfl,rfl⟩:=h; exact hQ σ1 a1 w1 g1 g2 g3
 | .cond c a b,s,x,s',h=>by
  simp only [evC] at h
  split at h
  ·rename_i t ht
   intro ro n D pin hpb σ ac w Q hr hf hQ
   have hv:=hr.rel.env c _ ht
   have hb:ac.eval c=.bool t:=by
    have he:(bare ac).eval c=ac.eval c:=rfl
    rw [he] at hv
    generalize ac.eval c=z at hv; cases hv; rfl
   simp only [pinB,Bool.and_eq_true] at hpb
   refine wpIn_cond hb ?_
   cases t with
   | true=>exact evC_okI hcs hm a s x s' h ro n D pin hpb.1 σ ac w Q hr hf hQ
   | false=>exact evC_okI hcs hm b s x s' h ro n D pin hpb.2 σ ac w Q hr hf hQ
  ·cases h
 | .block id b,s,x,s',h=>by
  simp only [evC] at h
  cases hs:evC P cs nt nn F bs b s with
  | none=>rw [hs] at h; cases h
  | some p =>
   obtain ⟨y,s1⟩:=p
   rw [hs] at h
   have hb:=evC_okI hcs hm b s y s1 hs
   intro ro n D pin hpb σ ac w Q hr hf hQ
   refine wpIn_block (hb ro n D pin hpb σ ac w _ hr hf fun σ1 a1 w1 g1 g2 g3 => ?_)
   cases y with
   | normal=>simp only [Option.some.injEq,Prod.mk.injEq] at h; obtain ⟨rfl,rfl⟩:=h; exact hQ σ1 a1 w1 g1 g2 g3
   | ret=>simp only [Option.some.injEq,Prod.mk.injEq] at h; obtain ⟨rfl,rfl⟩:=h; exact hQ σ1 a1 w1 g1 g2 g3
   | exit id' =>
    simp only at h
    simp only [XA.out,Exit.inBlock]
    rcases beq_cases id' id with ⟨he,hbe⟩ | ⟨he,hbe⟩ <;> rw [hbe] at h <;> simp only [cond_true,cond_false,Option.some.injEq,Prod.mk.injEq] at h
    ·obtain ⟨rfl,rfl⟩:=h
     rw [if_pos he]; exact hQ σ1 a1 w1 g1 g2 g3
    ·obtain ⟨rfl,rfl⟩:=h
     rw [if_neg he]; exact hQ σ1 a1 w1 g1 g2 g3
 | .loop b,s,x,s',h=>by
  simp only [evC] at h
  intro ro n D pin hpb σ ac w Q hr hf hQ
  exact wpIn_loop_rounds F (iterA_okI (fun s x s' hs=>evC_okI hcs hm b s x s' hs) s F s x s' h ro n D pin hpb σ w hf σ ac w Q hr hf (FrmB.refl _ _ _ _) hQ)
 | .exit id,s,x,s',h=>by
  simp only [evC,Option.some.injEq,Prod.mk.injEq] at h
  obtain ⟨rfl,rfl⟩:=h
  exact fun ro n D pin hpb σ a w Q hr hf hQ=>wpIn_exit (hQ σ a w hr (FrmB.refl _ _ _ _) hf)
 | .ret,s,x,s',h=>by
  simp only [evC,Option.some.injEq,Prod.mk.injEq] at h
  obtain ⟨rfl,rfl⟩:=h
  exact fun ro n D pin hpb σ a w Q hr hf hQ=>wpIn_ret (hQ σ a w hr (FrmB.refl _ _ _ _) hf)
 | .rangeFunc _ _ _ _,s,x,s',h=>by simp [evC] at h
 | .scope _,s,x,s',h=>by simp [evC] at h
end Go.Eng
namespace Go.Eng
open Go Go.RowKit
structure Grown (A B:World):Prop where
 size:A.heap.size≤B.heap.size
 old:∀ b,b < A.heap.size→B.heap[b]? = A.heap[b]?
 os:B.os=A.os
 output:B.output=A.output
 tape:B.tape=A.tape
theorem HRel.grown {σ:Sig}{H:Heap}{A B:World}(h:HRel σ H A) (g:Grown A B):HRel σ H B:=
 ⟨fun n o hn=>by
  obtain ⟨p,hp,ho⟩:=h.obj n o hn
  exact ⟨p,hp,ho.mono (Sig.le_refl σ) (g.old _ ho.lt)⟩,h.inj⟩
theorem Frm.grown {σ σ':Sig}{H H':Heap}{w A B:World}(h:Frm σ H w σ' H' A) (g:Grown A B):Frm σ H w σ' H' B:=
 ⟨h.ext,Nat.le_trans h.size g.size,g.os.trans h.os,g.output.trans h.output,g.tape.trans h.tape,fun b hb hn=>by
  obtain ⟨h1,h2⟩:=h.old b hb hn
  exact ⟨(g.old b (Nat.lt_of_lt_of_le hb h.size)).trans h1,h2⟩⟩
def LessRo (Hc H:HL):Prop:=∀ n o,aget Hc n=some o→∃ ro c,o=.cells true c∧aget H n=some (.cells ro c)
theorem HRel.lessRo {σ:Sig}{Hc H:HL}{w:World}(h:HRel σ (aget H) w) (hl:LessRo Hc H):HRel σ (aget Hc) w:=
 ⟨fun n o hn=>by
  obtain ⟨ro,c,rfl,h2⟩:=hl n o hn
  obtain ⟨p,hp,d,t,fz,e1,e2,e3,e4⟩:=h.obj n _ h2
  exact ⟨p,hp,d,t,fz,e1,e2,e3,(fun e=>by cases e),e4.2⟩,fun n m o o' p q h1 h2 _ _ _=>by
  obtain ⟨_,_,rfl,_⟩:=hl n o h1
  obtain ⟨_,_,rfl,_⟩:=hl m o' h2
  exact .inr ⟨rfl,rfl⟩⟩
theorem not_own {σ:Sig}{H:Heap}{w:World}(h:HRel σ H w){b:Nat}{ob:Obj}(hb:w.heap[b]? = some ob) (hc:∀ c t fz,ob ≠ .cells c t fz):¬ Own σ H b:=by
 rintro ⟨n,o,p,h1,h2,h3,h4⟩
 obtain ⟨q,hq,ho⟩:=h.obj n o h1
 rw [h3] at hq
 cases hq
 cases o with
 | cells ro c =>
  obtain ⟨c',t,fz,h5,_⟩:=ho
  rw [h4,hb] at h5
  cases h5
  exact hc _ _ _ rfl
theorem HRel.putObj {σ:Sig}{H:Heap}{w:World}(h:HRel σ H w){l:Nat}{o o':Obj}(hl:w.heap[l]? = some o) (hc:∀ c t fz,o ≠ .cells c t fz):HRel σ H (w.putObj l o'):=
 ⟨fun n ob hn=>by
  obtain ⟨p,hp,ho⟩:=h.obj n ob hn
  refine ⟨p,hp,ho.mono (Sig.le_refl σ) (World.putObj_heap_other fun e => ?_)⟩
  cases ob with
  | cells ro c =>
   obtain ⟨c',t,fz,h5,_⟩:=ho
   rw [e,hl] at h5
   cases h5
   exact hc _ _ _ rfl,h.inj⟩
theorem Frm.putObj {σ σ':Sig}{H H':Heap}{w w':World}(h:Frm σ H w σ' H' w'){l:Nat}{o:Obj}(hl:w.heap.size≤l):Frm σ H w σ' H' (w'.putObj l o):=
 ⟨h.ext,by rw [show (w'.putObj l o).heap.size=w'.heap.size by simp [World.putObj]]; exact h.size,h.os,h.output,h.tape,fun b hb hn=>by
  obtain ⟨h1,h2⟩:=h.old b hb hn
  exact ⟨(World.putObj_heap_other (by omega)).trans h1,h2⟩⟩
theorem FrmB.full {bs:Nat}{σ σ':Sig}{H H':Heap}{w w':World}(h:FrmB bs σ H w σ' H' w') (hf:Fresh σ bs):Frm σ H w σ' H' w':=
 ⟨fun n p hp=>h.ext n p (Nat.lt_of_not_le fun hle=>by rw [hf n hle] at hp; cases hp) hp,h.size,h.os,h.output,h.tape,h.old⟩
def putPs:TL→List Tmp→List AVal→TL
 | T,p::ps,v::vs=>putPs (aset T p v) ps vs
 | T,_,_=>T
theorem putPs_ok {σ:Sig}{nt:Nat}:∀ (ps:List Tmp) (vs:List AVal) (vs':List Value) (T:TL) (t:Array Value),(∀ p ∈ ps,p < nt)→LR σ vs vs'.toArray→(∀ s v,aget T s=some v→∃ v',t[s]? = some v'∧VR σ v v')→t.size=nt →
  (∀ s v,aget (putPs T ps vs) s=some v→∃ v',((ps.zip vs').foldl (fun (t:Array Value) (p:Tmp × Value)=>t.setIfInBounds p.1 p.2) t)[s]? = some v'∧VR σ v v')∧((ps.zip vs').foldl (fun (t:Array Value) (p:Tmp × Value)=>t.setIfInBounds p.1 p.2) t).size=nt
 | [],_,_,T,t,_,_,hT,hs=>by simpa [putPs] using ⟨hT,hs⟩
 | p::ps,[],vs',T,t,_,hl,hT,hs=>by
  have:vs'=[]:=by
   have:=hl.1
   simpa using this.symm
  subst this
  simpa [putPs] using ⟨hT,hs⟩
 | p::ps,v::vs,[],T,t,_,hl,hT,hs=>by
  have:=hl.1
  simp at this
 | p::ps,v::vs,v'::vs',T,t,hp,hl,hT,hs=>by
  have hv:VR σ v v':=hl.2 0 v v' rfl rfl
  have hl2:LR σ vs vs'.toArray:=⟨by have:=hl.1; simpa using this,fun i x x' h1 h2=>hl.2 (i+1) x x' (by simpa using h1) (by simpa using h2)⟩
  have hpn:p < nt:=hp p (by simp)
  simp only [putPs,List.zip_cons_cons,List.foldl_cons]
  refine putPs_ok ps vs vs' _ _ (fun q hq=>hp q (by simp [hq])) hl2 (fun s u hu => ?_) (by simp [hs])
  rw [aget_aset] at hu
  split at hu
  ·rename_i e
   subst e
   cases hu
   exact ⟨v',by rw [Array.getElem?_setIfInBounds_self,if_pos (by rw [hs]; exact hpn)],hv⟩
  ·rename_i e
   obtain ⟨u',h1,h2⟩:=hT s u hu
   exact ⟨u',by rw [Array.getElem?_setIfInBounds_ne e]; exact h1,h2⟩
def ItOk (P:Program) (gf:FuncId) (cap:List AVal) (Hc:HL) (X:Nat→List AVal) (N:Nat) (fin:Bool):Prop:=
 ∀ (lb:Array Value) (l:Nat) (J:Nat→World→Prop) (Jx:World→Prop) (W:World),
  (∀ k A B,J k A→Grown A B→J k B)→(∀ A B,Jx A→Grown A B→Jx B) →
  (∀ k W1,J k W1→k≤N∧∃ σ1,GRel P σ1∧HRel σ1 (aget Hc) W1∧LR σ1 cap lb∧((k < N ∨ fin=false)→∀ xs,LR σ1 (X k) xs→∀ m,YieldAt Fence.wide m P l xs W1 fun e W'=>(e=.returned (.bool true)∧J (k+1) W') ∨ (e=.returned (.bool false)∧Jx W'))) →
  J 0 W→Calls P gf (#[.func (.yield l) #[] #[]]++lb) W fun e W'=>(∃ v,e=.returned v)∧((fin=true∧J N W') ∨ Jx W')
def outX (fin:Bool) (id:Nat):Exit:=cond fin .normal (.exit id)
theorem rangeFunc_okI {P:Program}{cs:CS}(hcs:CSOk P cs) (hm:P.follows .mixedOrders=true){nt nn F:Nat}{g:Operand}{ps:Array Tmp}{assign body:Code}{s:SA}{gf:FuncId}{cap:List AVal}{Hc:HL}{X:Nat→List AVal}{N:Nat}{fin:Bool}
  (hg:opd P (aget s.T) g=some (.fn gf cap)) (hent:∀ args w,(callFunc gf args).run P w=.ok (.enter gf args) w) (hit:ItOk P gf cap Hc X N fin) (hgl:P.globals.size≤s.fr)
  (HH:Nat→HL) (h0:∀ n o,aget (HH 0) n=some o→aget s.H n=some o) (hlt:∀ k,k≤N→ltH s.fr (HH k)=true) (hHc:∀ k,k≤N→LessRo Hc (HH k))
  (hX:∀ k,(X k).length=ps.size) (hps:∀ p ∈ ps.toList,p < nt)
  (hround:∀ k,k < N→∃ sa s',evC P cs nt nn F s.fr assign ⟨putPs s.T ps.toList (X k),HH k,s.fr⟩=some (.normal,sa)∧evC P cs nt nn F s.fr body sa=some (.normal,s')∧∀ n o,aget (HH (k+1)) n=some o→aget s'.H n=some o)
  {id:Nat} {Hf:HL} (hfin:fin=true→Hf=HH N) (hltf:ltH s.fr Hf=true)
  (hlast:fin=false→∃ sa s',evC P cs nt nn F s.fr assign ⟨putPs s.T ps.toList (X N),HH N,s.fr⟩=some (.normal,sa)∧evC P cs nt nn F s.fr body sa=some (.exit id,s')∧∀ n o,aget Hf n=some o→aget s'.H n=some o)
  {n:Nat} {D:List Deferred} {σ:Sig} {a:Act} {w:World} {Q:Exit→Act→World→Prop} (hr:RD P σ nt s.T s.H D [] a w) (hf:Fresh σ s.fr)
  (hQ:∀ σ' a' w' B,RD P σ' nt s.T Hf ({ target:=.collected B,args:=#[] }::D) [] a' w'→Frm σ (aget s.H) w σ' (aget Hf) w'→Fresh σ' s.fr→w'.heap[B]? = some (.deferred (some []))→w.heap.size≤B→Q (outX fin id) a' w') :
  (Code.rangeFunc g ps assign body).wpIn (Fw none) n P Q a w:=by
 refine wpIn_rangeFunc ?_
 intro fnn hfn
 have hgv:=hr.rel.env g _ hg
 have hgv2:VR σ (.fn gf cap) (a.eval g):=hgv
 obtain ⟨cap',hge,hcap⟩:∃ cap',a.eval g=.func (.func gf) #[] cap'∧LR σ cap cap':=by
  generalize a.eval g=z at hgv2
  cases hgv2 with
  | fn h1 h2=>exact ⟨_,rfl,h1,h2⟩
 obtain ⟨rec,hrec⟩:∃ rec:LoopState→Option Code→Loop,rec=fun st pe => { state:=st,pending:=pe,fn:=fnn,tmps:=a.tmps,params:=ps,assign,body,defers:=w.heap.size }:=⟨_,rfl⟩
 obtain ⟨W1,hW1⟩:∃ W1,(w.alloc (.deferred (some []))).alloc (.loop (rec .ready none))=W1:=⟨_,rfl⟩
 have hL1:W1.heap[w.heap.size+1]? = some (.loop (rec .ready none)):=by
  rw [← hW1]; have:=World.alloc_heap_new (w.alloc (.deferred (some []))) (.loop (rec .ready none)); rwa [World.size_alloc] at this
 have hK1:W1.heap[w.heap.size]? = some (.deferred (some [])):=by
  rw [← hW1]; exact (Below.heap_alloc _ _ _ (by simp)).trans (World.alloc_heap_new w _)
 have hGr:Grown w W1:=by
  rw [← hW1]
  exact ⟨by simp; omega,fun b hb=>(Below.heap_alloc _ _ _ (by simp; omega)).trans (Below.heap_alloc w _ b hb),rfl,rfl,rfl⟩
 -- what holds between two rounds
 obtain ⟨J,hJ⟩:∃ J:Nat→World→Prop,J=fun k W=>k≤N∧(∃ σ',HRel σ' (aget (HH k)) W∧Frm σ (aget s.H) w σ' (aget (HH k)) W∧Fresh σ' s.fr)∧W.heap[w.heap.size+1]? = some (.loop (rec .ready none))∧W.heap[w.heap.size]? = some (.deferred (some [])):=⟨_,rfl⟩
 obtain ⟨Jx,hJx⟩:∃ Jx:World→Prop,Jx=fun W=>fin=false∧(∃ σ',HRel σ' (aget Hf) W∧Frm σ (aget s.H) w σ' (aget Hf) W∧Fresh σ' s.fr)∧W.heap[w.heap.size+1]? = some (.loop (rec .done (some (.exit id))))∧W.heap[w.heap.size]? = some (.deferred (some [])):=⟨_,rfl⟩
 have hlp:∀ st pe,∀ c t fz,Obj.loop (rec st pe) ≠ .cells c t fz:=fun _ _ _ _ _ h=>by cases h
 have hdf:∀ c t fz,Obj.deferred (some []) ≠ .cells c t fz:=fun _ _ _ h=>by cases h
 have keep:∀ {A B:World} {b:Nat} {o:Obj},A.heap[b]? = some o→Grown A B→B.heap[b]? = some o:=fun h g=>(g.old _ (Array.getElem?_eq_some_iff.1 h).1).trans h
 refine ⟨w.heap.size+1,[{ target:=.collected w.heap.size,args:=#[] }],W1,{ target:=.fn (.func gf) cap',args:=#[.func (.yield (w.heap.size+1)) #[] #[]] },W1,gf,
  #[.func (.yield (w.heap.size+1)) #[] #[]]++cap',W1,?_,?_,?_,?_,(fun h=>by cases h),?_⟩
 ·rw [← hW1,hrec]; exact run_enterLoop_outer _ _ _ _ _
 ·simp only [resolve,hge]
  simp [go_sem]
 ·intro f' hf'; trivial
 ·simp [invoke,go_sem,hent]
 ·refine callsIn_Fw ((hit cap' (w.heap.size+1) J Jx W1 ?_ ?_ ?_ ?_).mono ?_)
  ·rw [hJ]
   rintro k A B ⟨hk,⟨σ',q1,q2,q3⟩,q4,q5⟩ gr
   exact ⟨hk,⟨σ',q1.grown gr,q2.grown gr,q3⟩,keep q4 gr,keep q5 gr⟩
  ·rw [hJx]
   rintro A B ⟨hk,⟨σ',q1,q2,q3⟩,q4,q5⟩ gr
   exact ⟨hk,⟨σ',q1.grown gr,q2.grown gr,q3⟩,keep q4 gr,keep q5 gr⟩
  ·rw [hJ]
   rintro k W ⟨hk,⟨σ1,q1,q2,q3⟩,hl,hd⟩
   refine ⟨hk,σ1,hr.rel.glob.mono q2.ext,q1.lessRo (hHc k hk),hcap.mono q2.ext,fun hkN xs hxs m => ?_⟩
   have hlW:w.heap.size+1 < W.heap.size:=(Array.getElem?_eq_some_iff.1 hl).1
   have hsz:xs.size=(rec .ready none).params.size:=by rw [← hxs.1,hX k,hrec]
   have hy:=run_yield (P:=P) hl hsz
   refine ⟨fnn,_,assign,body,by rw [hrec] at hy; exact hy,roundIn_of_wpIn hfn ?_⟩
   -- the round's own activation
   obtain ⟨xl⟩:=xs
   have hput:=putPs_ok (σ:=σ1) (nt:=nt) ps.toList (X k) xl s.T a.tmps hps hxs (fun t v hv=>by
    obtain ⟨v',e1,e2⟩:=hr.rel.tmps t v hv
    exact ⟨v',e1,e2.mono q2.ext⟩) hr.rel.size
   have harr:(ps.zip xl.toArray).foldl (fun tmps (p:Tmp × Value)=>tmps.setIfInBounds p.1 p.2) a.tmps=(ps.toList.zip xl).foldl (fun (t:Array Value) (p:Tmp × Value)=>t.setIfInBounds p.1 p.2) a.tmps:=by
    rw [← Array.foldl_toList,Array.toList_zip]
   have hr1:RD P σ1 nt (putPs s.T ps.toList (X k)) (HH k) [] [] { tmps:=(ps.zip xl.toArray).foldl (fun tmps (p:Tmp × Value)=>tmps.setIfInBounds p.1 p.2) a.tmps,defers:=[] } W:=by
    refine ⟨⟨fun t v hv => ?_,?_,rfl,q1,hr.rel.glob.mono q2.ext⟩,rfl,fun _ _ h=>by cases h⟩
    ·obtain ⟨v',e1,e2⟩:=hput.1 t v hv
     exact ⟨v',by show ((ps.zip xl.toArray).foldl _ a.tmps)[t]? = some v'; rw [harr]; exact e1,e2⟩
    ·show ((ps.zip xl.toArray).foldl _ a.tmps).size=nt
     rw [harr]; exact hput.2
   have go:∀ (x:XA) (sa s':SA),evC P cs nt nn F s.fr assign ⟨putPs s.T ps.toList (X k),HH k,s.fr⟩=some (.normal,sa)→evC P cs nt nn F s.fr body sa=some (x,s')→∀ R:Ending→World→Prop,
     (∀ σ3 a3 w3,RD P σ3 nt s'.T s'.H [] [] a3 w3→Frm σ (aget s.H) w σ3 (aget s'.H) w3→w3.heap[w.heap.size+1]? = some (.loop (rec .busy none))→w3.heap[w.heap.size]? = some (.deferred (some []))→roundPost P (w.heap.size+1) R x.out a3 w3) →
     assign.wpIn (Fence.wide.inRound (w.heap.size+1)) m P (Exit.then (fun a₁ w₁ => ∃ w₂,(Instr.beginRound (w.heap.size+1)).run P w₁=.ok () w₂∧body.wpIn (Fence.wide.inRound (w.heap.size+1)) m P (roundPost P (w.heap.size+1) R) a₁ w₂) (fun _ _ _=>False))
      { tmps:=(ps.zip xl.toArray).foldl (fun tmps (p:Tmp × Value)=>tmps.setIfInBounds p.1 p.2) a.tmps,defers:=[] } W:=fun x sa s' ha hb R hR=>by
    refine evC_okI hcs hm assign _ _ _ ha (some (w.heap.size+1)) m [] [] (pinB_nil _) σ1 _ W _ hr1 q3 fun σ2 a1 w1 g1 g2 g3 => ?_
    have G2:=g2.full q3
    have hl1:=(G2.old _ hlW (not_own q1 hl (hlp _ _))).1.trans hl
    have hd1:=(G2.old _ (by omega) (not_own q1 hd hdf)).1.trans hd
    have hb1:=run_beginRound (P:=P) hl1 (by rw [hrec])
    have hrb:({ rec .ready none with state:=.busy }:Loop)=rec .busy none:=by rw [hrec]
    rw [hrb] at hb1
    refine ⟨_,hb1,?_⟩
    have hw1:w.heap.size+1 < w1.heap.size:=(Array.getElem?_eq_some_iff.1 hl1).1
    have A:=(q2.trans G2).putObj (l:=w.heap.size+1) (o:=.loop (rec .busy none)) (by omega)
    have hh2:=g1.rel.heap.putObj (o':=.loop (rec .busy none)) hl1 (hlp _ _)
    have hl2:(w1.putObj (w.heap.size+1) (.loop (rec .busy none))).heap[w.heap.size+1]? = some (.loop (rec .busy none)):=World.putObj_heap_same hw1
    have hd2:(w1.putObj (w.heap.size+1) (.loop (rec .busy none))).heap[w.heap.size]? = some (.deferred (some [])):=(World.putObj_heap_other (by omega)).trans hd1
    refine evC_okI hcs hm body sa x s' hb (some (w.heap.size+1)) m [] [] (pinB_nil _) σ2 a1 _ _ ⟨⟨g1.rel.tmps,g1.rel.size,g1.rel.defers,hh2,g1.rel.glob⟩,g1.defers,g1.pins⟩ g3 fun σ3 a3 w3 k1 k2 k3 => ?_
    have B:=((A.b s.fr).trans k2).full hf
    exact hR σ3 a3 w3 k1 B ((k2.old _ (Array.getElem?_eq_some_iff.1 hl2).1 (not_own hh2 hl2 (hlp _ _))).1.trans hl2) ((k2.old _ (Array.getElem?_eq_some_iff.1 hd2).1 (not_own hh2 hd2 hdf)).1.trans hd2)
   have next:∀ {σ3:Sig} {a3:Act} {w3:World} {s':SA} {H':HL} {o:Obj},RD P σ3 nt s'.T s'.H [] [] a3 w3→Frm σ (aget s.H) w σ3 (aget s'.H) w3→w3.heap[w.heap.size+1]? = some (.loop (rec .busy none))→(∀ n o,aget H' n=some o→aget s'.H n=some o)→ltH s.fr H'=true →
     ∃ σ',HRel σ' (aget H') (w3.putObj (w.heap.size+1) o)∧Frm σ (aget s.H) w σ' (aget H') (w3.putObj (w.heap.size+1) o)∧Fresh σ' s.fr:=fun {σ3 a3 w3 s' H' o} k1 B hl3 hs hlt'=>by
    have c1:=(k1.rel.less (T':=[]) (fun _ _ h=>by simp [aget] at h) hs).cut (m:=s.fr) rfl hlt' hgl
    have c2:=((B.less hs).b s.fr).cut hf
    exact ⟨_,c1.heap.putObj hl3 (hlp _ _),(c2.full hf).putObj (by omega),cut_fresh _ _⟩
   by_cases hkn:k < N
   ·obtain ⟨sa,s',ha,hb,hs⟩:=hround k hkn
    refine go _ sa s' ha hb _ fun σ3 a3 w3 k1 B hl3 hd3 => ?_
    have he:=run_endRound (P:=P) none hl3
    have hrb:({ rec .busy none with state:=if (none:Option Code).isNone then .ready else .done,pending:=none }:Loop)=rec .ready none:=by rw [hrec]; rfl
    rw [hrb] at he
    refine ⟨_,_,he,.inl ⟨rfl,hkn,next k1 B hl3 hs (hlt (k+1) hkn),World.putObj_heap_same (Array.getElem?_eq_some_iff.1 hl3).1,(World.putObj_heap_other (by omega)).trans hd3⟩⟩
   ·have hk2:k=N:=by omega
    subst hk2
    have hff:=hkN.resolve_left hkn
    obtain ⟨sa,s',ha,hb,hs⟩:=hlast hff
    refine go _ sa s' ha hb _ fun σ3 a3 w3 k1 B hl3 hd3 => ?_
    have he:=run_endRound (P:=P) (some (.exit id)) hl3
    have hrb:({ rec .busy none with state:=if (some (Code.exit id)).isNone then .ready else .done,pending:=some (.exit id) }:Loop)=rec .done (some (.exit id)):=by rw [hrec]; rfl
    rw [hrb] at he
    refine ⟨_,_,he,.inr ⟨rfl,?_⟩⟩
    rw [hJx]
    exact ⟨hff,next k1 B hl3 hs hltf,World.putObj_heap_same (Array.getElem?_eq_some_iff.1 hl3).1,(World.putObj_heap_other (by omega)).trans hd3⟩
  ·rw [hJ]
   exact ⟨Nat.zero_le _,⟨σ,(hr.rel.heap.less h0).grown hGr,((Frm.refl σ (aget s.H) w).less h0).grown hGr,hf⟩,hL1,hK1⟩
  ·rintro e W3 ⟨⟨v,rfl⟩,⟨hfn1,hj⟩ | hj⟩
   ·rw [hJ] at hj
    obtain ⟨hk,⟨σ',q1,q2,q3⟩,hl,hd⟩:=hj
    have hend:=run_endLoop (P:=P) hl (by rw [hrec]; simp)
    have hp:(rec .ready none).pending=none:=by rw [hrec]
    rw [hp] at hend
    refine ⟨none,_,hend,?_⟩
    subst hfn1
    rw [hfin rfl] at hQ
    refine hQ σ' _ _ w.heap.size ⟨⟨fun t v hv => ?_,hr.rel.size,rfl,q1.putObj hl (hlp _ _),hr.rel.glob.mono q2.ext⟩,?_,fun _ _ h=>by cases h⟩ (q2.putObj (by omega)) q3 ?_ (Nat.le_refl _)
    ·obtain ⟨v',e1,e2⟩:=hr.rel.tmps t v hv
     exact ⟨v',e1,e2.mono q2.ext⟩
    ·show [_]++a.defers=_
     rw [hr.defers]; rfl
    ·rw [World.putObj_heap_other (by omega)]; exact hd
   ·rw [hJx] at hj
    obtain ⟨hk,⟨σ',q1,q2,q3⟩,hl,hd⟩:=hj
    have hend:=run_endLoop (P:=P) hl (by rw [hrec]; simp)
    have hp:(rec .done (some (.exit id))).pending=some (.exit id):=by rw [hrec]
    rw [hp] at hend
    refine ⟨some (.exit id),_,hend,wpIn_exit ?_⟩
    subst hk
    refine hQ σ' _ _ w.heap.size ⟨⟨fun t v hv => ?_,hr.rel.size,rfl,q1.putObj hl (hlp _ _),hr.rel.glob.mono q2.ext⟩,?_,fun _ _ h=>by cases h⟩ (q2.putObj (by omega)) q3 ?_ (Nat.le_refl _)
    ·obtain ⟨v',e1,e2⟩:=hr.rel.tmps t v hv
     exact ⟨v',e1,e2.mono q2.ext⟩
    ·show [_]++a.defers=_
     rw [hr.defers]; rfl
    ·rw [World.putObj_heap_other (by omega)]; exact hd
end Go.Eng
namespace Go.Eng
open Go Go.RowKit
def wpS (ro:Option Nat) (n:Nat) (P:Program):List Code→(Exit→Act→World→Prop)→Act→World→Prop
 | [],Q=>Q .normal
 | c::l,Q=>c.wpIn (Fw ro) n P (Exit.then (wpS ro n P l Q) Q)
section
variable {P:Program}{ro:Option Nat}{n:Nat}
theorem wpS_mono:∀ (l:List Code){Q Q':Exit→Act→World→Prop}{a:Act}{w:World},wpS ro n P l Q a w→(∀ e a w,Q e a w→Q' e a w)→wpS ro n P l Q' a w
 | [],_,_,_,_,h,hq=>hq _ _ _ h
 | c::l,Q,Q',a,w,h,hq=>wpIn_mono h fun e a w he=>by
  cases e with
  | normal=>exact wpS_mono l he hq
  | exit id=>exact hq _ _ _ he
  | goto t=>exact hq _ _ _ he
  | ret=>exact hq _ _ _ he
  | panic ch=>exact hq _ _ _ he
  | outgrown=>exact hq _ _ _ he
theorem wpS_app:∀ (l m:List Code){Q:Exit→Act→World→Prop}{a:Act}{w:World},wpS ro n P (l++m) Q a w→wpS ro n P l (Exit.then (wpS ro n P m Q) Q) a w
 | [],m,Q,a,w,h=>h
 | c::l,m,Q,a,w,h=>wpIn_mono h fun e a w he=>by
  cases e with
  | normal=>exact wpS_app l m he
  | exit id=>exact he
  | goto t=>exact he
  | ret=>exact he
  | panic ch=>exact he
  | outgrown=>exact he
theorem wpS_app':∀ (l m:List Code){Q:Exit→Act→World→Prop}{a:Act}{w:World},wpS ro n P l (Exit.then (wpS ro n P m Q) Q) a w→wpS ro n P (l++m) Q a w
 | [],m,Q,a,w,h=>h
 | c::l,m,Q,a,w,h=>wpIn_mono h fun e a w he=>by
  cases e with
  | normal=>exact wpS_app' l m he
  | exit id=>exact he
  | goto t=>exact he
  | ret=>exact he
  | panic ch=>exact he
  | outgrown=>exact he
theorem wpS_pieces:∀ (c:Code){Q:Exit→Act→World→Prop}{a:Act}{w:World},wpS ro n P (pieces c) Q a w→c.wpIn (Fw ro) n P Q a w:=by
 have one:∀ (c:Code) {Q:Exit→Act→World→Prop} {a:Act} {w:World},wpS ro n P [c] Q a w→c.wpIn (Fw ro) n P Q a w:=fun c Q a w h=>wpIn_mono h fun e a w he=>by cases e <;> exact he
 intro c
 induction c with
 | seq a b iha ihb =>
  intro Q ac w h
  refine wpIn_seq (iha (wpS_mono _ (wpS_app _ _ h) fun e a w he => ?_))
  cases e with
  | normal=>exact ihb he
  | exit id=>exact he
  | goto t=>exact he
  | ret=>exact he
  | panic ch=>exact he
  | outgrown=>exact he
 | _=>intro Q ac w h; exact one _ h
end
def pinS (ss:List Tmp):List Code→Bool
 | []=>true
 | c::l=>pinB ss c && pinS ss l
theorem pinS_nil:∀ l,pinS [] l=true
 | []=>rfl
 | c::l=>by unfold pinS; rw [pinB_nil,pinS_nil l]; rfl
theorem evS_okI {P:Program}{cs:CS}(hcs:CSOk P cs) (hm:P.follows .mixedOrders=true){nt nn F bs:Nat}:∀ (l:List Code) (s:SA) (x:XA) (s':SA),evS P cs nt nn F bs l s=some (x,s') →
  ∀ (ro:Option Nat) (n:Nat) (D:List Deferred) (pin:List (Tmp × Value)) (_:pinS (pin.map (·.1)) l=true) (σ:Sig) (a:Act) (w:World) (Q:Exit→Act→World→Prop),RD P σ nt s.T s.H D pin a w→Fresh σ s.fr →
  (∀ σ' a' w',RD P σ' nt s'.T s'.H D pin a' w'→FrmB bs σ (aget s.H) w σ' (aget s'.H) w'→Fresh σ' s'.fr→Q x.out a' w')→wpS ro n P l Q a w
 | [],s,x,s',h,ro,n,D,pin,hpb,σ,a,w,Q,hr,hf,hQ=>by
  simp only [evS,Option.some.injEq,Prod.mk.injEq] at h
  obtain ⟨rfl,rfl⟩:=h
  exact hQ σ a w hr (FrmB.refl _ _ _ _) hf
 | c::l,s,x,s',h,ro,n,D,pin,hpb,σ,a,w,Q,hr,hf,hQ=>by
  simp only [pinS,Bool.and_eq_true] at hpb
  simp only [evS] at h
  cases hs:evC P cs nt nn F bs c s with
  | none=>rw [hs] at h; cases h
  | some p =>
   obtain ⟨y,s1⟩:=p
   rw [hs] at h
   refine evC_okI hcs hm c s y s1 hs ro n D pin hpb.1 σ a w _ hr hf fun σ1 a1 w1 g1 g2 g3 => ?_
   cases y with
   | normal =>
    simp only at h
    exact evS_okI hcs hm l s1 x s' h ro n D pin hpb.2 σ1 a1 w1 Q g1 g3 fun σ2 a2 w2 q1 q2 q3=>hQ σ2 a2 w2 q1 (g2.trans q2) q3
   | exit id=>simp only [Option.some.injEq,Prod.mk.injEq] at h; obtain ⟨rfl,rfl⟩:=h; exact hQ σ1 a1 w1 g1 g2 g3
   | ret=>simp only [Option.some.injEq,Prod.mk.injEq] at h; obtain ⟨rfl,rfl⟩:=h; exact hQ σ1 a1 w1 g1 g2 g3
def finR (P:Program) (fn:Func) (s:SA):Option (AVal × HL × Nat):=match resA P s.T s.H fn.results.toList with
 | none=>none
 | some [v]=>some (v,s.H,s.fr)
 | some vs=>some (.tup vs,s.H,s.fr)
theorem finR_ok {P:Program}{fn:Func}{s:SA}{v:AVal}{H':HL}{fr':Nat}(h:finR P fn s=some (v,H',fr')){σ:Sig}{nt:Nat}{a:Act}{w:World}(g1:RRel P σ nt s.T s.H a w) :
  H'=s.H∧fr'=s.fr∧∃ u,(results fn a.tmps).run P w=.ok u w∧VR σ v u:=by
 unfold finR at h
 cases hres:resA P s.T s.H fn.results.toList with
 | none=>rw [hres] at h; cases h
 | some vs =>
  rw [hres] at h
  obtain ⟨vs',k1,k2⟩:=resA_ok g1 hres
  have hrun:(fn.results.mapM (m:=Sem) fun
    | .tmp t=>pure (a.tmps.getD t undef)
    | .cell b t=>do loadVar t (← asAddr (a.tmps.getD b undef))).run P w=.ok vs'.toArray w:=by
   rw [Array.mapM_eq_mapM_toList]
   simp only [Sem.run_map]
   exact congrArg (fun r=>Result.andThen r fun (a:List Value) w'=>Result.ok a.toArray w') k1
  have hres2:(results fn a.tmps).run P w=.ok (if h:vs'.toArray.size=1 then vs'.toArray[0] else .tuple vs'.toArray) w:=by
   unfold results
   simp only [Sem.run_bind]
   exact congrArg (fun r=>Result.andThen r fun (vs:Array Value) w''=>(pure (if h:vs.size=1 then vs[0] else .tuple vs):Sem Value).run P w'') hrun
  match vs,k2,h with
  | [u],k2,h =>
   simp only [Option.some.injEq,Prod.mk.injEq] at h
   obtain ⟨rfl,rfl,rfl⟩:=h
   obtain ⟨x',e1,e2⟩:=k2.inv1
   have:vs'=[x']:=by simpa using e1
   subst this
   exact ⟨rfl,rfl,x',hres2,e2⟩
  | [],k2,h =>
   simp only [Option.some.injEq,Prod.mk.injEq] at h
   obtain ⟨rfl,rfl,rfl⟩:=h
   have hl:vs'.toArray.size ≠ 1:=by have:=k2.1; simp at this ⊢; omega
   rw [dif_neg hl] at hres2
   exact ⟨rfl,rfl,_,hres2,.tup k2.1 k2.2⟩
  | x::y::l,k2,h =>
   simp only [Option.some.injEq,Prod.mk.injEq] at h
   obtain ⟨rfl,rfl,rfl⟩:=h
   have hl:vs'.toArray.size ≠ 1:=by have:=k2.1; simp at this ⊢; omega
   rw [dif_neg hl] at hres2
   exact ⟨rfl,rfl,_,hres2,.tup k2.1 k2.2⟩
theorem runR_ok {P:Program}{cs:CS}(hcs:CSOk P cs) (hm:P.follows .mixedOrders=true){nn F:Nat}{f:FuncId}{fn:Func}{c:Code}(hfn:P.funcs[f]? = some fn) (hb:fn.body=some c){args:List AVal}{H:HL}{fr:Nat}(hn:Nat.ble args.length fn.ntmps=true)
  {l1 l2:List Code} {rid:Nat} {g:Operand} {ps:Array Tmp} {assign body:Code} (hp:pieces c=l1 ++ .block rid (.rangeFunc g ps assign body)::l2) {s:SA} (h1:evS P cs fn.ntmps nn F fr l1 ⟨startT args 0,H,fr⟩=some (.normal,s))
  {gf:FuncId} {cap:List AVal} {Hc:HL} {X:Nat→List AVal} {N:Nat} {fin:Bool}
  (hg:opd P (aget s.T) g=some (.fn gf cap)) (hent:∀ args w,(callFunc gf args).run P w=.ok (.enter gf args) w) (hit:ItOk P gf cap Hc X N fin) (hgl:P.globals.size≤s.fr)
  (HH:Nat→HL) (h0:∀ n o,aget (HH 0) n=some o→aget s.H n=some o) (hlt:∀ k,k≤N→ltH s.fr (HH k)=true) (hHc:∀ k,k≤N→LessRo Hc (HH k))
  (hX:∀ k,(X k).length=ps.size) (hps:∀ p ∈ ps.toList,p < fn.ntmps)
  (hround:∀ k,k < N→∃ sa s',evC P cs fn.ntmps nn F s.fr assign ⟨putPs s.T ps.toList (X k),HH k,s.fr⟩=some (.normal,sa)∧evC P cs fn.ntmps nn F s.fr body sa=some (.normal,s')∧∀ n o,aget (HH (k+1)) n=some o→aget s'.H n=some o)
  {Hf:HL} (hfin:fin=true→Hf=HH N) (hltf:ltH s.fr Hf=true)
  (hlast:fin=false→∃ sa s',evC P cs fn.ntmps nn F s.fr assign ⟨putPs s.T ps.toList (X N),HH N,s.fr⟩=some (.normal,sa)∧evC P cs fn.ntmps nn F s.fr body sa=some (.exit rid,s')∧∀ n o,aget Hf n=some o→aget s'.H n=some o)
  {x:XA} {s2:SA} (h2:evS P cs fn.ntmps nn F fr l2 ⟨s.T,Hf,s.fr⟩=some (x,s2)) (hx:x=.normal ∨ x=.ret) {v:AVal} {H':HL} {fr':Nat} (hres:finR P fn s2=some (v,H',fr'))
  {σ:Sig} {args':Array Value} {w:World} (ha:LR σ args args') (hH:HRel σ (aget H) w) (hgr:GRel P σ) (hfr:Fresh σ fr) :
  Calls P f args' w fun r w' => ∃ σ' v',r=.returned v'∧VR σ' v v'∧HRel σ' (aget H') w'∧Frm σ (aget H) w σ' (aget H') w'∧Fresh σ' fr':=by
 have hn:=Nat.le_of_ble_eq_true hn
 have hr0:RRel P σ fn.ntmps (startT args 0) H { tmps:=args' ++ Array.replicate (fn.ntmps - args'.size) undef,defers:=[] } w:=by
  refine ⟨fun s v hv => ?_,by simp [← ha.1]; omega,rfl,hH,hgr⟩
  obtain ⟨_,h1⟩:=startT_get hv
  obtain ⟨v',g1,g2⟩:=ha.get (by simpa using h1)
  refine ⟨v',?_,g2⟩
  simp only
  rw [Array.getElem?_append_left (Array.getElem?_eq_some_iff.1 g1).1]
  exact g1
 refine (callsIn_wide (n:=0)).1 (callsIn_of_wp_marks (F:=Fence.wide) hfn hb trivial ?_ rfl)
 refine wpS_pieces (ro:=none) (n:=0) c ?_
 rw [hp]
 refine wpS_app' _ _ (evS_okI hcs hm l1 _ _ _ h1 none 0 [] [] (pinS_nil _) σ _ w _ (.of hr0) hfr fun σ1 a1 w1 g1 g2 g3 => ?_)
 have G2:=g2.full hfr
 show (Code.block rid (.rangeFunc g ps assign body)).wpIn (Fw none) 0 P _ a1 w1
 refine wpIn_block (rangeFunc_okI hcs hm hg hent hit hgl HH h0 hlt hHc hX hps hround hfin hltf hlast g1 g3 fun σ2 a2 w2 B q1 q2 q3 q4 q5 => ?_)
 have goal:wpS none 0 P l2 (bodyPostM Fence.wide 0 P fn fun r w' => ∃ σ' v',r=.returned v'∧VR σ' v v'∧HRel σ' (aget H') w'∧Frm σ (aget H) w σ' (aget H') w'∧Fresh σ' fr') a2 w2:=by
  refine evS_okI hcs hm l2 _ _ _ h2 none 0 _ [] (pinS_nil _) σ2 a2 w2 _ q1 q3 fun σ3 a3 w3 k1 k2 k3 => ?_
  have hB:=(k2.old B (Array.getElem?_eq_some_iff.1 q4).1 (not_own q1.rel.heap q4 (fun _ _ _ h=>by cases h))).1.trans q4
  have hBw:w.heap.size≤B:=Nat.le_trans G2.size q5
  have fin:LeavesInM Fence.wide 0 P fn a3.tmps (fun r w' => ∃ σ' v',r=.returned v'∧VR σ' v v'∧HRel σ' (aget H') w'∧Frm σ (aget H) w σ' (aget H') w'∧Fresh σ' fr') a3.defers .returning w3:=by
   rw [k1.defers]
   refine ⟨by simp,.inl ⟨B,_,rfl,run_takeDeferred hB,?_⟩⟩
   have hh:=k1.rel.heap.putObj (o':=.deferred none) hB (fun _ _ _ h=>by cases h)
   have rr:RRel P σ3 fn.ntmps s2.T s2.H (bare a3) (w3.putObj B (.deferred none)):=⟨k1.rel.tmps,k1.rel.size,k1.rel.defers,hh,k1.rel.glob⟩
   obtain ⟨rfl,rfl,u,e1,e2⟩:=finR_ok hres rr
   refine ⟨u,e1,σ3,u,rfl,e2,hh,?_,k3⟩
   exact ((((G2.trans q2).b fr).trans k2).full hfr).putObj hBw
  rcases hx with rfl | rfl
  ·exact fin
  ·exact fin
 unfold outX
 cases fin with
 | true=>exact goal
 | false =>
  simp only [cond_false,Exit.inBlock,if_true]
  exact goal
theorem callOk_of {P:Program}{f:FuncId}{args:List AVal}{v:AVal}{H':HL}{fr':Nat}
  (h:∀ (σ:Sig) (args':Array Value) (w:World),LR σ args args'→HRel σ (aget []) w→GRel P σ→Fresh σ P.globals.size→Calls P f args' w fun r w' => ∃ σ' v',r=.returned v'∧VR σ' v v'∧HRel σ' (aget H') w'∧Frm σ (aget []) w σ' (aget H') w'∧Fresh σ' fr')
  (ha:allV args=true) (hv:ltV 0 v=true):CallOk P f args (.pure v):=by
 intro σ args' H w base v0 H0 hl hg hH happ hfree
 simp only [EffA.app,Option.some.injEq,Prod.mk.injEq] at happ
 obtain ⟨rfl,rfl⟩:=happ
 have hl0:LR (cut P.globals.size σ) args args':=hl.cut0 (allV_mem ha) _
 have hg0:GRel P (cut P.globals.size σ):=fun g hgl=>by
  obtain ⟨sz,hs⟩:=hg g hgl
  exact ⟨sz,cut_of hs hgl⟩
 refine (h _ _ _ hl0 ⟨fun n o hn=>by simp [aget] at hn,fun n m o o' p q hn=>by simp [aget] at hn⟩ hg0 (cut_fresh _ _)).mono fun r w' hrw => ?_
 obtain ⟨σ',v',rfl,g1,g2,g3,g4⟩:=hrw
 have hold:∀ b,b < w.heap.size→w'.heap[b]? = w.heap[b]?:=fun b hb=>(g3.old b hb fun ⟨n,o,p,a1,_⟩=>by simp [aget] at a1).1
 refine ⟨σ,v',rfl,g1.cut0 hv σ,⟨fun n o hn => ?_,hH.inj⟩,⟨Sig.le_refl σ,g3.size,g3.os,g3.output,g3.tape,fun b hb hn=>⟨hold b hb,hn⟩⟩,Only.refl σ base⟩
 obtain ⟨p,hp,ho⟩:=hH.obj n o hn
 exact ⟨p,hp,ho.mono (Sig.le_refl σ) (hold _ ho.lt)⟩
end Go.Eng
namespace Go.Eng
open Go
def closE (g:FuncId) (css:List (List AVal)):EffA:=.eff fun base _ =>
 some (.fn g ((List.range css.length).map fun j=>.ptr (base+j) 0),(List.range css.length).map fun j=>(base+j,some (.cells false (css.getD j []))))
theorem callOk_clos {P:Program}{cs:CS}(hcs:CSOk P cs) (hm:P.follows .mixedOrders=true){nn F:Nat}{f:FuncId}{args:List AVal}{g:FuncId}{ns:List Nat}{css:List (List AVal)}{H1:HL}{fr1:Nat}
  (h:run1 P cs nn F f args [] P.globals.size=some (.fn g (ns.map fun n=>.ptr n 0),H1,fr1)) (ha:allV args=true) (hnd:nodupB ns=true) (hl:css.length=ns.length) (hk:Nat.ble ns.length 8=true)
  (hc:∀ j n,ns[j]? = some n→aget H1 n=some (.cells false (css.getD j []))∧ltL 0 (css.getD j [])=true):CallOk P f args (closE g css):=by
 intro σ args' H w base v0 H0 hla hg hH happ hfree
 have hnd:=nodupB_ok hnd
 have hk:=Nat.le_of_ble_eq_true hk
 simp only [closE,EffA.app,Option.some.injEq,Prod.mk.injEq] at happ
 obtain ⟨rfl,rfl⟩:=happ
 have hl0:LR (cut P.globals.size σ) args args':=hla.cut0 (allV_mem ha) _
 have hg0:GRel P (cut P.globals.size σ):=fun g hgl=>by
  obtain ⟨sz,hs⟩:=hg g hgl
  exact ⟨sz,cut_of hs hgl⟩
 obtain ⟨fn,c,hf,hb,hrun⟩:=run1_some h
 refine (runF_ok hcs hm hf hb hrun hl0 ⟨fun n o hn=>by simp [aget] at hn,fun n m o o' p q hn=>by simp [aget] at hn⟩ hg0 (cut_fresh _ _)).mono fun r w' hrw => ?_
 obtain ⟨σ1,v',rfl,g1,g2,g3,g4⟩:=hrw
 have hold:∀ b,b < w.heap.size→w'.heap[b]? = w.heap[b]? ∧ ¬ Own σ1 (aget H1) b:=fun b hb=>g3.old b hb fun ⟨n,o,p,a1,_⟩=>by simp [aget] at a1
 -- the places of the new names
 obtain ⟨σ2,hσ2⟩:∃ σ2:Sig,σ2=fun n=>if base≤n∧n < base+ns.length then σ1 (ns.getD (n - base) 0) else σ n:=⟨_,rfl⟩
 have at2:∀ j n,ns[j]? = some n→σ2 (base+j)=σ1 n:=fun j n hj=>by
  have hjl:j < ns.length:=(List.getElem?_eq_some_iff.1 hj).1
  rw [hσ2]
  simp only
  rw [if_pos ⟨by omega,by omega⟩,Nat.add_sub_cancel_left,List.getD_eq_getElem?_getD,hj]; rfl
 have off2:∀ n,¬ (base≤n∧n < base+ns.length)→σ2 n=σ n:=fun n hn=>by
  rw [hσ2]
  exact if_neg hn
 have le2:Sig.le σ σ2:=fun n p hp=>by
  rw [off2 n fun hn => ?_]
  ·exact hp
  ·have:=hfree (n - base) (by omega)
   rw [show base+(n - base)=n by omega,hp] at this
   cases this
 have obj1:∀ j n,ns[j]? = some n→∃ p,σ1 n=some p∧ORel σ1 w' p (.cells false (css.getD j []))∧w.heap.size≤p.blk:=fun j n hj=>by
  obtain ⟨p,hp,ho⟩:=g2.obj n _ (hc j n hj).1
  exact ⟨p,hp,ho,Nat.le_of_not_lt fun hlt=>(hold p.blk hlt).2 ⟨n,_,p,(hc j n hj).1,rfl,hp,rfl⟩⟩
 have us:∀ m x,(m,x) ∈ ((List.range css.length).map fun j=>(base+j,some (AObj.cells false (css.getD j []))))→∃ j,j < css.length∧m=base+j∧x=some (.cells false (css.getD j [])):=fun m x hx=>by
  obtain ⟨j,hj,e⟩:=List.mem_map.1 hx
  cases e
  exact ⟨j,List.mem_range.1 hj,rfl,rfl⟩
 have getH:∀ m o,aget (appU H ((List.range css.length).map fun j=>(base+j,some (AObj.cells false (css.getD j []))))) m=some o →
   (∃ j n,ns[j]? = some n∧m=base+j∧o=.cells false (css.getD j [])) ∨ (¬ (base≤m∧m < base+ns.length)∧aget H m=some o):=fun m o hm=>by
  rcases appU_get (us:=(List.range css.length).map fun j=>(base+j,some (AObj.cells false (css.getD j [])))) (H:=H) (fun m x hx=>by obtain ⟨j,_,_,rfl⟩:=us m x hx; rfl) m with ⟨o',a1,a2⟩ | ⟨a1,a2⟩
  ·rw [a2] at hm
   cases hm
   obtain ⟨j,hj,rfl,e⟩:=us m _ a1
   cases e
   exact .inl ⟨j,ns[j]'(by omega),List.getElem?_eq_getElem (by omega),rfl,rfl⟩
  ·rw [a2] at hm
   refine .inr ⟨fun hb => ?_,hm⟩
   exact a1 (some (.cells false (css.getD (m - base) []))) (List.mem_map.2 ⟨m - base,List.mem_range.2 (by omega),by rw [show base+(m - base)=m by omega]⟩)
 refine ⟨σ2,v',rfl,?_,⟨fun m o hm => ?_,fun m m' o o' p q hm hm' hp hq hpq => ?_⟩,⟨le2,g3.size,g3.os,g3.output,g3.tape,fun b hb hn=>⟨(hold b hb).1,?_⟩⟩,fun n hn=>off2 n (by omega)⟩
 ·cases g1 with
  | fn hs hcap =>
   refine .fn (by rw [← hs]; simp [hl]) fun i u u' hu hu' => ?_
   have hi:i < css.length:=by
    have:=(List.getElem?_eq_some_iff.1 hu).1
    simpa using this
   have e1:u=.ptr (base+i) 0:=by
    rw [List.getElem?_map,List.getElem?_range hi] at hu
    simpa using hu.symm
   subst e1
   have hn:ns[i]? = some (ns[i]'(by omega)):=List.getElem?_eq_getElem (by omega)
   have hv:=hcap i (.ptr (ns[i]'(by omega)) 0) u' (by rw [List.getElem?_map,hn]; rfl) hu'
   cases hv with
   | ptr hp=>exact .ptr (by rw [at2 i _ hn]; exact hp)
 ·rcases getH m o hm with ⟨j,n,hj,rfl,rfl⟩ | ⟨hb,ho⟩
  ·obtain ⟨p,hp,ho,_⟩:=obj1 j n hj
   exact ⟨p,by rw [at2 j n hj]; exact hp,ho.plain (hc j n hj).2⟩
  ·obtain ⟨p,hp,hor⟩:=hH.obj m o ho
   exact ⟨p,le2 m p hp,hor.mono le2 (hold _ hor.lt).1⟩
 ·rcases getH m o hm with ⟨j,n,hj,rfl,rfl⟩ | ⟨hb,ho⟩ <;> rcases getH m' o' hm' with ⟨j',n',hj',rfl,rfl⟩ | ⟨hb',ho'⟩
  ·rw [at2 j n hj] at hp
   rw [at2 j' n' hj'] at hq
   rcases g2.inj n n' _ _ p q (hc j n hj).1 (hc j' n' hj').1 hp hq hpq with e | ⟨e,_⟩
   ·subst e
    have:j=j':=(List.getElem?_inj (List.getElem?_eq_some_iff.1 hj).1 hnd).1 (hj.trans hj'.symm)
    exact .inl (by rw [this])
   ·cases e
  ·exfalso
   obtain ⟨p1,hp1,_,hge⟩:=obj1 j n hj
   rw [at2 j n hj,hp1] at hp
   cases hp
   obtain ⟨q1,hq1,hor⟩:=hH.obj m' o' ho'
   rw [off2 m' hb',hq1] at hq
   cases hq
   have:=hor.lt
   omega
  ·exfalso
   obtain ⟨p1,hp1,_,hge⟩:=obj1 j' n' hj'
   rw [at2 j' n' hj',hp1] at hq
   cases hq
   obtain ⟨q1,hq1,hor⟩:=hH.obj m o ho
   rw [off2 m hb,hq1] at hp
   cases hp
   have:=hor.lt
   omega
  ·rw [off2 m hb] at hp
   rw [off2 m' hb'] at hq
   exact hH.inj m m' o o' p q ho ho' hp hq hpq
 ·rintro ⟨m,o,p,h1,h2,h3,h4⟩
  rcases getH m o h1 with ⟨j,n,hj,rfl,rfl⟩ | ⟨hb2,ho⟩
  ·obtain ⟨p1,hp1,_,hge⟩:=obj1 j n hj
   rw [at2 j n hj,hp1] at h3
   cases h3
   omega
  ·rw [off2 m hb2] at h3
   exact hn ⟨m,o,p,ho,h2,h3,h4⟩
end Go.Eng
namespace Go.Proofs.Ytjdhndicgifnbaa.Cha
open Go Go.Eng Go.Cha
structure Fb where
 may:List UInt8→List UInt8→Bool
 bb:List UInt8→List UInt8→UInt32→Nat→UInt8
def realFb:Fb:=⟨may,byteAt⟩
def blkL (φ:Fb) (k n:List UInt8) (c:UInt32):List UInt8:=(List.range 64).map (φ.bb k n c)
theorem blkL_real (k n:List UInt8) (c:UInt32):blkL realFb k n c=block k n c:=(block_list k n c).symm
theorem m8a (k n:List UInt8):ansO (run1O Try.prog noPS noCS [7,11] [false] [] (mask 69) 100 69 [.str k,.str n] [] Try.prog.globals.size)=some (.bool false,[!((k.length:Int) == 32)]):=by kernel_rfl
theorem m8b (k n:List UInt8):ansO (run1O Try.prog noPS noCS [7,11] [true,false] [] (mask 69) 100 69 [.str k,.str n] [] Try.prog.globals.size)=some (.bool false,[!((n.length:Int) == 12),(k.length:Int) == 32]):=by kernel_rfl
theorem m8c (k n:List UInt8):ansO (run1O Try.prog noPS noCS [7,11] [true,true] [] (mask 69) 100 69 [.str k,.str n] [] Try.prog.globals.size)=some (.bool true,[(n.length:Int) == 12,(k.length:Int) == 32]):=by kernel_rfl
theorem m12a (k n:List UInt8):ansO (run1O Try.prog noPS noCS [7,11] [false] [] (mask 74) 100 74 [.str k,.str n] [] Try.prog.globals.size)=some (.bool false,[!((k.length:Int) == 32)]):=by kernel_rfl
theorem m12b (k n:List UInt8):ansO (run1O Try.prog noPS noCS [7,11] [true,false] [] (mask 74) 100 74 [.str k,.str n] [] Try.prog.globals.size)=some (.bool false,[!((n.length:Int) == 12),(k.length:Int) == 32]):=by kernel_rfl
theorem m12c (k n:List UInt8):ansO (run1O Try.prog noPS noCS [7,11] [true,true] [] (mask 74) 100 74 [.str k,.str n] [] Try.prog.globals.size)=some (.bool true,[(n.length:Int) == 12,(k.length:Int) == 32]):=by kernel_rfl
theorem intEq (n m:Nat):((n:Int) == (m:Int))=(n == m):=by rw [Bool.eq_iff_iff]; simp only [beq_iff_eq]; omega
theorem may_run {f:FuncId}{nn:Nat}(ha:∀ k n,ansO (run1O Try.prog noPS noCS [7,11] [false] [] nn 100 f [.str k,.str n] [] Try.prog.globals.size)=some (.bool false,[!((k.length:Int) == 32)]))
  (hb:∀ k n,ansO (run1O Try.prog noPS noCS [7,11] [true,false] [] nn 100 f [.str k,.str n] [] Try.prog.globals.size)=some (.bool false,[!((n.length:Int) == 12),(k.length:Int) == 32]))
  (hc:∀ k n,ansO (run1O Try.prog noPS noCS [7,11] [true,true] [] nn 100 f [.str k,.str n] [] Try.prog.globals.size)=some (.bool true,[(n.length:Int) == 12,(k.length:Int) == 32])) (k n:List UInt8) :
  (run1 Try.prog noCS nn 100 f [.str k,.str n] [] Try.prog.globals.size).map (·.1)=some (.bool (may k n)):=by
 unfold may
 have e1:((k.length:Int) == 32)=(k.length == 32):=intEq _ 32
 have e2:((n.length:Int) == 12)=(n.length == 12):=intEq _ 12
 cases h1:(k.length == 32)
 ·exact ansO_run (noPS_ok _) (ha k n) (by rw [e1,h1]; rfl)
 cases h2:(n.length == 12)
 ·exact ansO_run (noPS_ok _) (hb k n) (by rw [e1,e2,h1,h2]; rfl)
 ·exact ansO_run (noPS_ok _) (hc k n) (by rw [e1,e2,h1,h2]; rfl)
def k8 (φ:Fb):List AVal→Option EffA
 | [.str a,.str b]=>some (.pure (.bool (φ.may a b)))
 | _=>none
theorem k8_ok:CSOk Try.prog (csOne 69 (k8 realFb)):=csOne_ok fun args e he=>by
 unfold k8 at he
 split at he
 ·rename_i a b
  cases he
  exact callOk_val (noCS_ok _) hmix (may_run m8a m8b m8c a b) rfl rfl
 ·cases he
theorem k12_ok:CSOk Try.prog (csOne 74 (k8 realFb)):=csOne_ok fun args e he=>by
 unfold k8 at he
 split at he
 ·rename_i a b
  cases he
  exact callOk_val (noCS_ok _) hmix (may_run m12a m12b m12c a b) rfl rfl
 ·cases he
def k9 (φ:Fb):List AVal→Option (EffA × Bool)
 | [.str a,.str b,.u32 c]=>some (.pure (.str (blkL φ a b c)),φ.may a b)
 | _=>none
theorem k9_ok:CSOk Try.prog (csP (psOne 79 (k9 realFb))):=csP_one fun args v he=>by
 unfold k9 at he
 split at he
 ·rename_i a b c
  simp only [Option.some.injEq,Prod.mk.injEq] at he
  obtain ⟨rfl,h⟩:=he
  obtain ⟨h1,h2⟩:=may_true.1 (show may a b=true from h)
  rw [blkL_real]
  exact callOk_val cs1_ok hmix (blk9 h1 h2 c) rfl rfl
 ·cases he
def k13 (φ:Fb):List AVal→Option (EffA × Bool)
 | [.str a,.str b,.u32 c]=>some (.pure (.agg ((List.range 64).map fun i=>.u8 (φ.bb a b c i))),φ.may a b)
 | _=>none
theorem bytesV_blk (a b:List UInt8) (c:UInt32):bytesV (block a b c)=.agg ((List.range 64).map fun i=>.u8 (realFb.bb a b c i)):=by
 rw [← blkL_real]
 unfold bytesV blkL
 rw [List.map_map]
 rfl
theorem k13_ok:CSOk Try.prog (csP (psOne 83 (k13 realFb))):=csP_one fun args v he=>by
 unfold k13 at he
 split at he
 ·rename_i a b c
  simp only [Option.some.injEq,Prod.mk.injEq] at he
  obtain ⟨rfl,h⟩:=he
  obtain ⟨h1,h2⟩:=may_true.1 (show may a b=true from h)
  have:=blk13 h1 h2 c
  rw [bytesV_blk] at this
  exact callOk_val cs1_ok hmix this rfl (ltL_u8 0 ((List.range 64).map fun i=>realFb.bb a b c i))
 ·cases he
def psb (φ:Fb):PS:=psAlt (psOne 79 (k9 φ)) (psOne 83 (k13 φ))
theorem psb_ok:CSOk Try.prog (csP (psb realFb)):=csP_alt k9_ok k13_ok
def chb (φ:Fb):CS:=csAlt (csOne 69 (k8 φ)) (csOne 74 (k8 φ))
theorem chb_ok:CSOk Try.prog (chb realFb):=csAlt_ok k8_ok k12_ok
def nb (φ:Fb):CS:=csAlt (csP (psb φ)) (chb φ)
theorem nb_ok:CSOk Try.prog (nb realFb):=csAlt_ok psb_ok chb_ok
theorem nb_ps (φ:Fb):PSOk (psb φ) (nb φ):=csP_ok
theorem w7a (φ:Fb) (k n:List UInt8) (c:UInt32):ansO (run1O Try.prog (psb φ) (nb φ) [12,16] [true] [] (mask 76) 100 76 [.str k,.str n,.u32 c] [] Try.prog.globals.size)=some (.tup [.str [],.int .i64 2],[!(φ.may k n)]):=by kernel_rfl
theorem w7b (φ:Fb) (k n:List UInt8) (c:UInt32):ansO (run1O Try.prog (psb φ) (nb φ) [12,16] [false] [] (mask 76) 100 76 [.str k,.str n,.u32 c] [] Try.prog.globals.size)=some (.tup [.str (blkL φ k n c),.int .i64 0],[φ.may k n,!(!(φ.may k n))]):=by kernel_rfl
theorem run7 (k n:List UInt8) (c:UInt32):(run1 Try.prog (nb realFb) (mask 76) 100 76 [.str k,.str n,.u32 c] [] Try.prog.globals.size).map (·.1)=some (cond (may k n) (.tup [.str (blkL realFb k n c),.int .i64 0]) (.tup [.str [],.int .i64 2])):=by
 cases h:may k n
 ·exact ansO_run (nb_ps _) (w7a realFb k n c) (by show allT [!(may k n)]=true; rw [h]; rfl)
 ·exact ansO_run (nb_ps _) (w7b realFb k n c) (by show allT [may k n,!(!(may k n))]=true; rw [h]; rfl)
def k7 (φ:Fb):List AVal→Option EffA
 | [.str a,.str b,.u32 c]=>some (.pure (.tup [.str (cond (φ.may a b) (blkL φ a b c) []),.int .i64 (cond (φ.may a b) 0 2)]))
 | _=>none
theorem k7_ok:CSOk Try.prog (csOne 76 (k7 realFb)):=csOne_ok fun args e he=>by
 unfold k7 at he
 split at he
 ·rename_i a b c
  cases he
  have h:=run7 a b c
  have e:realFb.may a b=may a b:=rfl
  rw [e]
  cases hm:may a b <;> rw [hm] at h
  ·exact callOk_val nb_ok hmix h rfl rfl
  ·exact callOk_val nb_ok hmix h rfl rfl
 ·cases he
theorem run16 (k n:List UInt8) (c:UInt32):run1 Try.prog noCS (mask 75) 100 75 [.str k,.str n,.u32 c] [] Try.prog.globals.size=some (.fn 82 ([0,8,16].map fun n=>.ptr n 0),[(0,.cells false [.str k]),(8,.cells false [.str n]),(16,.cells false [.u32 c])],48):=by kernel_rfl
theorem callOk_16 (k n:List UInt8) (c:UInt32):CallOk Try.prog 75 [.str k,.str n,.u32 c] (closE 82 [[.str k],[.str n],[.u32 c]]):=by
 refine callOk_clos (noCS_ok _) hmix (run16 k n c) rfl rfl rfl rfl fun j m hj => ?_
 match j,hj with
 | 0,hj=>cases hj; exact ⟨rfl,rfl⟩
 | 1,hj=>cases hj; exact ⟨rfl,rfl⟩
 | 2,hj=>cases hj; exact ⟨rfl,rfl⟩
def k16:List AVal→Option EffA
 | [.str a,.str b,.u32 c]=>some (closE 82 [[.str a],[.str b],[.u32 c]])
 | _=>none
theorem k16_ok:CSOk Try.prog (csOne 75 k16):=csOne_ok fun args e he=>by
 unfold k16 at he
 split at he
 ·rename_i a b c
  cases he
  exact callOk_16 a b c
 ·cases he
end Go.Proofs.Ytjdhndicgifnbaa.Cha
