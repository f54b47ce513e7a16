/- Texts Wg3, Wg5, Wg4, Wd0, Wd1, Wd2, Wd3, Wd4, Wd5, Wd6, Wh0, Wh1, Wh2, Wh3, Wh4, Wh5: what they show that this claim uses. -/
import Derived.Test.YtcplgmgpagekfaaGreatDoorP14
import Derived.Test.YtcplgmgpagekfaaGreatDoorP7
import Derived.Test.YtcplgmgpagekfaaGreatDoorP11
import Derived.Test.YtcplgmgpagekfaaGreatDoorP13
set_option maxRecDepth 100000
set_option maxHeartbeats 1000000
set_option linter.unusedVariables false
set_option linter.unusedSimpArgs false
namespace Go.Proofs.YtcplgmgpagekfaaGreatDoor
open Go Go.Eng Go.Num Go.Bla
def hA (l:List (Nat × List AVal)):HL:=(0,.cells true Bb)::l.map fun x=>(x.1,.cells false x.2)
noncomputable def oS (e:EffA) (base:Nat) (H:HL) (v:AVal):Bool:=oB e base H v H
def rC (a b e f p o t:L8):List AVal:=[.str a,.str b,.str e,.str f,.str p,.str o,.str t]
def EN (a b:L8):Bool:=a == b
def EK (a b:List AVal):Bool:=eqL a b
noncomputable def ab6 (φ:Fz) (a b e f p o t:L8) (at1:Int) (by1 to1:UInt8):List Bool:=[oS (lkE (.bool true)) 33 (hA [(1,rC a b e f p o t)]) (.bool true),lgB a b e f p o t]
theorem anK (φ:Fz) (a b e f p o t:L8) (at1:Int) (by1 to1:UInt8):AL (An Tryz.prog (psL φ) (csL φ) [27,36,300049,300063,69,73,79,300092,300102,108,112,118,122,300123,300130,140,300140,146,150,155,158,300167,173,300173,178,182,300159,300185,300028] [true] [.bool true,.tup []] (mask 3) 200 3 [rB a b e f p o t,.int .i64 at1,.u8 by1,.u8 to1] H0 1)=some (.bool true,ab6 φ a b e f p o t at1 by1 to1):=by kernel_rfl
noncomputable def ZM (φ:Fz) (a b e f p o t:L8) (at1:Int) (by1 to1:UInt8) (c1 c2:Int):List Bool:=[oS (lkE (.bool true)) 921 (hA [(1,rC a b e f p o t),(361,[.str [],.str [],.str [],.str [],.str [],.str []]),(633,AE),(745,[.str [],.str [],.str [],.str [],.str []]),(753,AE)]) (.bool true),neI c2 0,neI c2 0,!(neI c2 c2),!(!(EK (AE) (AE))),oS (EffA.pure (rdD φ b p (tuF [] at1 by1))) 705 (hA [(1,rC a b e f p o t),(361,[.str [],.str [],.str [],.str [],.str [],.str []]),(633,AE)]) (.tup [ot0,.agg AE,.int .i64 c2]),oS (rdE φ b p (tuF [] at1 by1)) 593 (hA [(1,rC a b e f p o t),(361,[.str [],.str [],.str [],.str [],.str [],.str []])]) (.tup [.nilPtr,.agg AE,.int .i64 c2]),neI c1 0,!(neI c1 c1),!(!(EN [] [])),oS (EffA.pure (bgD φ a (pbW φ b false) e p o)) 321 (hA [(1,rC a b e f p o t)]) (.tup [hf0,.str [],.int .i64 c1]),oS (bgE φ a (pbW φ b false) e p o) 185 (hA [(1,rC a b e f p o t)]) (.tup [.nilPtr,.str [],.int .i64 c1]),!(neI (φ.pr b) 0),!(lgB a b e f p o t)]
theorem anx (φ:Fz) (a b e f p o t:L8) (at1:Int) (by1 to1:UInt8) (c1 c2:Int):AL (An Tryz.prog (psL φ) (csL φ) [27,36,300049,300063,69,73,79,300092,300102,108,112,118,122,300123,300130,140,300140,146,150,155,158,300167,173,300173,178,182,300159,300185,300028] [false,false,false,false,true,false,false,true,true] [.tup [.nilPtr,.str [],.int .i64 c1],.tup [],.tup [hf0,.str [],.int .i64 c1],.tup [],.tup [.nilPtr,.agg AE,.int .i64 c2],.tup [],.tup [ot0,.agg AE,.int .i64 c2],.tup [],.bool true,.tup []] (mask 3) 200 3 [rB a b e f p o t,.int .i64 at1,.u8 by1,.u8 to1] H0 1)=some (.bool true,ZM φ a b e f p o t at1 by1 to1 c1 c2):=by kernel_rfl
noncomputable def abI (φ:Fz) (a b e f p o t:L8) (at1:Int) (by1 to1:UInt8) (c1 c2:Int):List Bool:=[oS (lkE (.bool true)) 945 (hA [(1,rC a b e f p o t),(385,[.str [],.str [],.str [],.str [],.str [],.str []]),(657,AE),(769,[.str [],.str [],.str [],.str [],.str []]),(777,AE)]) (.bool true),neI c2 0,neI c2 0,!(neI c2 c2),!(!(EK (AE) (AE))),oS (EffA.pure (rdD φ b p (tuF [] at1 by1))) 729 (hA [(1,rC a b e f p o t),(385,[.str [],.str [],.str [],.str [],.str [],.str []]),(657,AE)]) (.tup [ot0,.agg AE,.int .i64 c2]),oS (rdE φ b p (tuF [] at1 by1)) 617 (hA [(1,rC a b e f p o t),(385,[.str [],.str [],.str [],.str [],.str [],.str []])]) (.tup [.nilPtr,.agg AE,.int .i64 c2]),neI c1 0,!(neI c1 c1),!(!(EN [] [])),oS (EffA.pure (bgD φ a (pbW φ b true) e p o)) 345 (hA [(1,rC a b e f p o t)]) (.tup [hf0,.str [],.int .i64 c1]),oS (bgE φ a (pbW φ b true) e p o) 209 (hA [(1,rC a b e f p o t)]) (.tup [.nilPtr,.str [],.int .i64 c1]),neI (φ.pr b) 0,!(lgB a b e f p o t)]
theorem amf (φ:Fz) (a b e f p o t:L8) (at1:Int) (by1 to1:UInt8) (c1 c2:Int):AL (An Tryz.prog (psL φ) (csL φ) [27,36,300049,300063,69,73,79,300092,300102,108,112,118,122,300123,300130,140,300140,146,150,155,158,300167,173,300173,178,182,300159,300185,300028] [false,true,false,false,true,false,false,true,true] [.tup [.nilPtr,.str [],.int .i64 c1],.tup [],.tup [hf0,.str [],.int .i64 c1],.tup [],.tup [.nilPtr,.agg AE,.int .i64 c2],.tup [],.tup [ot0,.agg AE,.int .i64 c2],.tup [],.bool true,.tup []] (mask 3) 200 3 [rB a b e f p o t,.int .i64 at1,.u8 by1,.u8 to1] H0 1)=some (.bool true,abI φ a b e f p o t at1 by1 to1 c1 c2):=by kernel_rfl
noncomputable def ZW (φ:Fz) (a b e f p o t:L8) (at1:Int) (by1 to1:UInt8) (c2:Int) (s:St) (mm:L8):List Bool:=[oS (lkE (.bool true)) 921 (hA [(1,rC a b e f p o t),(185,stC s++exC 2 a e (pbW φ b false)),(361,dL s++[.str a,.str e,.str (pbW φ b false)]),(633,AE),(745,[.str [],.str [],.str [],.str [],.str []]),(753,AE)]) (.bool true),neI c2 0,neI c2 0,!(neI c2 c2),!(!(EK (AE) (AE))),oS (EffA.pure (rdD φ b p (tuF mm at1 by1))) 705 (hA [(1,rC a b e f p o t),(185,stC s++exC 2 a e (pbW φ b false)),(361,dL s++[.str a,.str e,.str (pbW φ b false)]),(633,AE)]) (.tup [ot0,.agg AE,.int .i64 c2]),oS (rdE φ b p (tuF mm at1 by1)) 593 (hA [(1,rC a b e f p o t),(185,stC s++exC 2 a e (pbW φ b false)),(361,dL s++[.str a,.str e,.str (pbW φ b false)])]) (.tup [.nilPtr,.agg AE,.int .i64 c2]),!(neI 0 0),!(neI 0 0),!(!(EN mm mm)),oS (EffA.pure (bgD φ a (pbW φ b false) e p o)) 321 (hA [(1,rC a b e f p o t),(185,stC s++exC 2 a e (pbW φ b false))]) (.tup [hfD s a e (pbW φ b false),.str mm,.int .i64 0]),oB (bgE φ a (pbW φ b false) e p o) 185 (hA [(1,rC a b e f p o t)]) (.tup [.ptr 185 0,.str mm,.int .i64 0]) (hA [(1,rC a b e f p o t),(185,stC s++exC 2 a e (pbW φ b false))]),!(neI (φ.pr b) 0),!(lgB a b e f p o t)]
theorem amS (φ:Fz) (a b e f p o t:L8) (at1:Int) (by1 to1:UInt8) (c2:Int) (s:St) (mm:L8):AL (An Tryz.prog (psL φ) (csL φ) [27,36,300049,300063,69,73,79,300092,300102,108,112,118,122,300123,300130,140,300140,146,150,155,158,300167,173,300173,178,182,300159,300185,300028] [false,false,false,false,false,false,false,true,true] [.tup [.ptr 185 0,.str mm,.int .i64 0],.tup [.ptr 185 0,.agg (stC s++exC 2 a e (pbW φ b false))],.tup [hfD s a e (pbW φ b false),.str mm,.int .i64 0],.tup [],.tup [.nilPtr,.agg AE,.int .i64 c2],.tup [],.tup [ot0,.agg AE,.int .i64 c2],.tup [],.bool true,.tup []] (mask 3) 200 3 [rB a b e f p o t,.int .i64 at1,.u8 by1,.u8 to1] H0 1)=some (.bool true,ZW φ a b e f p o t at1 by1 to1 c2 s mm):=by kernel_rfl
noncomputable def aaf (φ:Fz) (a b e f p o t:L8) (at1:Int) (by1 to1:UInt8) (c2:Int) (s:St) (mm:L8):List Bool:=[oS (lkE (.bool true)) 945 (hA [(1,rC a b e f p o t),(209,stC s++exC 2 a e (pbW φ b true)),(385,dL s++[.str a,.str e,.str (pbW φ b true)]),(657,AE),(769,[.str [],.str [],.str [],.str [],.str []]),(777,AE)]) (.bool true),neI c2 0,neI c2 0,!(neI c2 c2),!(!(EK (AE) (AE))),oS (EffA.pure (rdD φ b p (tuF mm at1 by1))) 729 (hA [(1,rC a b e f p o t),(209,stC s++exC 2 a e (pbW φ b true)),(385,dL s++[.str a,.str e,.str (pbW φ b true)]),(657,AE)]) (.tup [ot0,.agg AE,.int .i64 c2]),oS (rdE φ b p (tuF mm at1 by1)) 617 (hA [(1,rC a b e f p o t),(209,stC s++exC 2 a e (pbW φ b true)),(385,dL s++[.str a,.str e,.str (pbW φ b true)])]) (.tup [.nilPtr,.agg AE,.int .i64 c2]),!(neI 0 0),!(neI 0 0),!(!(EN mm mm)),oS (EffA.pure (bgD φ a (pbW φ b true) e p o)) 345 (hA [(1,rC a b e f p o t),(209,stC s++exC 2 a e (pbW φ b true))]) (.tup [hfD s a e (pbW φ b true),.str mm,.int .i64 0]),oB (bgE φ a (pbW φ b true) e p o) 209 (hA [(1,rC a b e f p o t)]) (.tup [.ptr 209 0,.str mm,.int .i64 0]) (hA [(1,rC a b e f p o t),(209,stC s++exC 2 a e (pbW φ b true))]),neI (φ.pr b) 0,!(lgB a b e f p o t)]
theorem alk (φ:Fz) (a b e f p o t:L8) (at1:Int) (by1 to1:UInt8) (c2:Int) (s:St) (mm:L8):AL (An Tryz.prog (psL φ) (csL φ) [27,36,300049,300063,69,73,79,300092,300102,108,112,118,122,300123,300130,140,300140,146,150,155,158,300167,173,300173,178,182,300159,300185,300028] [false,true,false,false,false,false,false,true,true] [.tup [.ptr 209 0,.str mm,.int .i64 0],.tup [.ptr 209 0,.agg (stC s++exC 2 a e (pbW φ b true))],.tup [hfD s a e (pbW φ b true),.str mm,.int .i64 0],.tup [],.tup [.nilPtr,.agg AE,.int .i64 c2],.tup [],.tup [ot0,.agg AE,.int .i64 c2],.tup [],.bool true,.tup []] (mask 3) 200 3 [rB a b e f p o t,.int .i64 at1,.u8 by1,.u8 to1] H0 1)=some (.bool true,aaf φ a b e f p o t at1 by1 to1 c2 s mm):=by kernel_rfl
noncomputable def abR (φ:Fz) (a b e f p o t:L8) (at1:Int) (by1 to1:UInt8) (c3 c4:Int) (s s2:St) (mm sa pa ep r x1 x2 x3 x4 x5 y1 y2 y3 y4 y5:L8):List Bool:=[oS (lkE (.bool true)) 1489 (hA [(1,rC a b e f p o t),(185,stC s++exC 2 a e (pbW φ b false)),(361,dL s++[.str a,.str e,.str (pbW φ b false)]),(593,stC s2++exC 1 sa ep []),(633,AC y1 y2 y3 y4 y5),(745,dL s2++[.str sa,.str ep]),(753,AC y1 y2 y3 y4 y5)]) (.bool true),eI c4 c4,EK (AC y1 y2 y3 y4 y5) (AC y1 y2 y3 y4 y5),oS (EffA.pure (fiD φ ⟨s.h,s.ck,s.k,0⟩ a e (pbW φ b false) (tuF r at1 to1))) 1369 (hA [(1,rC a b e f p o t),(185,stC s++exC 2 a e (pbW φ b false)),(361,dL s++[.str a,.str e,.str (pbW φ b false)]),(593,stC s2++exC 1 sa ep []),(633,AC y1 y2 y3 y4 y5),(745,dL s2++[.str sa,.str ep]),(753,AC x1 x2 x3 x4 x5)]) (.tup [.agg (AC y1 y2 y3 y4 y5),.int .i64 c4]),Nat.beq s.h.length 32 && Nat.beq s.ck.length 32,oS (fiM φ [.ptr 185 0,.str (tuF r at1 to1)]) 1305 (hA [(1,rC a b e f p o t),(185,stC s++exC 2 a e (pbW φ b false)),(361,dL s++[.str a,.str e,.str (pbW φ b false)]),(593,stC s2++exC 1 sa ep []),(633,AC x1 x2 x3 x4 x5),(745,dL s2++[.str sa,.str ep]),(753,AC x1 x2 x3 x4 x5)]) (.tup [.agg (AC y1 y2 y3 y4 y5),.int .i64 c4]),!(neI 0 0),!(neI c3 c3),!(!(EK (AC x1 x2 x3 x4 x5) (AC x1 x2 x3 x4 x5))),!(!(EN r r)),oS (EffA.pure (anD φ ⟨s2.h,s2.ck,s2.k,0⟩ sa ep f t)) 1065 (hA [(1,rC a b e f p o t),(185,stC s++exC 2 a e (pbW φ b false)),(361,dL s++[.str a,.str e,.str (pbW φ b false)]),(593,stC s2++exC 1 sa ep []),(633,AC x1 x2 x3 x4 x5),(745,dL s2++[.str sa,.str ep]),(753,AC sa pa [] [] [])]) (.tup [.str r,.agg (AC x1 x2 x3 x4 x5),.int .i64 c3]),Nat.beq s2.h.length 32 && Nat.beq s2.ck.length 32,oS (anM φ [.ptr 593 0,.str f,.str t]) 961 (hA [(1,rC a b e f p o t),(185,stC s++exC 2 a e (pbW φ b false)),(361,dL s++[.str a,.str e,.str (pbW φ b false)]),(593,stC s2++exC 1 sa ep []),(633,AC sa pa [] [] []),(745,dL s2++[.str sa,.str ep]),(753,AC sa pa [] [] [])]) (.tup [.str r,.agg (AC x1 x2 x3 x4 x5),.int .i64 c3]),!(neI 0 0),!(neI 0 0),!(neI 0 0),!(!(EK (AC sa pa [] [] []) (AC sa pa [] [] []))),oS (EffA.pure (rdD φ b p (tuF mm at1 by1))) 705 (hA [(1,rC a b e f p o t),(185,stC s++exC 2 a e (pbW φ b false)),(361,dL s++[.str a,.str e,.str (pbW φ b false)]),(593,stC s2++exC 1 sa ep []),(633,AC sa pa [] [] [])]) (.tup [otD s2 sa ep,.agg (AC sa pa [] [] []),.int .i64 0]),oB (rdE φ b p (tuF mm at1 by1)) 593 (hA [(1,rC a b e f p o t),(185,stC s++exC 2 a e (pbW φ b false)),(361,dL s++[.str a,.str e,.str (pbW φ b false)])]) (.tup [.ptr 593 0,.agg (AC sa pa [] [] []),.int .i64 0]) (hA [(1,rC a b e f p o t),(185,stC s++exC 2 a e (pbW φ b false)),(361,dL s++[.str a,.str e,.str (pbW φ b false)]),(593,stC s2++exC 1 sa ep [])]),!(neI 0 0),!(neI 0 0),!(!(EN mm mm)),oS (EffA.pure (bgD φ a (pbW φ b false) e p o)) 321 (hA [(1,rC a b e f p o t),(185,stC s++exC 2 a e (pbW φ b false))]) (.tup [hfD s a e (pbW φ b false),.str mm,.int .i64 0]),oB (bgE φ a (pbW φ b false) e p o) 185 (hA [(1,rC a b e f p o t)]) (.tup [.ptr 185 0,.str mm,.int .i64 0]) (hA [(1,rC a b e f p o t),(185,stC s++exC 2 a e (pbW φ b false))]),!(neI (φ.pr b) 0),!(lgB a b e f p o t)]
theorem amQ (φ:Fz) (a b e f p o t:L8) (at1:Int) (by1 to1:UInt8) (c3 c4:Int) (s s2:St) (mm sa pa ep r x1 x2 x3 x4 x5 y1 y2 y3 y4 y5:L8):AL (An Tryz.prog (psL φ) (csL φ) [27,36,300049,300063,69,73,79,300092,300102,108,112,118,122,300123,300130,140,300140,146,150,155,158,300167,173,300173,178,182,300159,300185,300028] [false,false,false,false,false,false,false,false,false,false,false,false,false,true,true] [.tup [.ptr 185 0,.str mm,.int .i64 0],.tup [.ptr 185 0,.agg (stC s++exC 2 a e (pbW φ b false))],.tup [hfD s a e (pbW φ b false),.str mm,.int .i64 0],.tup [],.tup [.ptr 593 0,.agg (AC sa pa [] [] []),.int .i64 0],.tup [.ptr 593 0,.agg (stC s2++exC 1 sa ep [])],.tup [otD s2 sa ep,.agg (AC sa pa [] [] []),.int .i64 0],.tup [],.tup [.str r,.agg (AC x1 x2 x3 x4 x5),.int .i64 c3],.tup [.ptr 593 0,.agg (stC s2++exC 1 sa ep [])],.tup [.str r,.agg (AC x1 x2 x3 x4 x5),.int .i64 c3],.tup [],.tup [.agg (AC y1 y2 y3 y4 y5),.int .i64 c4],.tup [.ptr 185 0,.agg (stC s++exC 2 a e (pbW φ b false))],.tup [.agg (AC y1 y2 y3 y4 y5),.int .i64 c4],.tup [],.bool true,.tup []] (mask 3) 200 3 [rB a b e f p o t,.int .i64 at1,.u8 by1,.u8 to1] H0 1)=some (.bool true,abR φ a b e f p o t at1 by1 to1 c3 c4 s s2 mm sa pa ep r x1 x2 x3 x4 x5 y1 y2 y3 y4 y5):=by kernel_rfl
noncomputable def abG (φ:Fz) (a b e f p o t:L8) (at1:Int) (by1 to1:UInt8) (c3 c4:Int) (s s2:St) (mm sa pa ep r x1 x2 x3 x4 x5 y1 y2 y3 y4 y5:L8):List Bool:=[oS (lkE (.bool true)) 1513 (hA [(1,rC a b e f p o t),(209,stC s++exC 2 a e (pbW φ b true)),(385,dL s++[.str a,.str e,.str (pbW φ b true)]),(617,stC s2++exC 1 sa ep []),(657,AC y1 y2 y3 y4 y5),(769,dL s2++[.str sa,.str ep]),(777,AC y1 y2 y3 y4 y5)]) (.bool true),eI c4 c4,EK (AC y1 y2 y3 y4 y5) (AC y1 y2 y3 y4 y5),oS (EffA.pure (fiD φ ⟨s.h,s.ck,s.k,0⟩ a e (pbW φ b true) (tuF r at1 to1))) 1393 (hA [(1,rC a b e f p o t),(209,stC s++exC 2 a e (pbW φ b true)),(385,dL s++[.str a,.str e,.str (pbW φ b true)]),(617,stC s2++exC 1 sa ep []),(657,AC y1 y2 y3 y4 y5),(769,dL s2++[.str sa,.str ep]),(777,AC x1 x2 x3 x4 x5)]) (.tup [.agg (AC y1 y2 y3 y4 y5),.int .i64 c4]),Nat.beq s.h.length 32 && Nat.beq s.ck.length 32,oS (fiM φ [.ptr 209 0,.str (tuF r at1 to1)]) 1329 (hA [(1,rC a b e f p o t),(209,stC s++exC 2 a e (pbW φ b true)),(385,dL s++[.str a,.str e,.str (pbW φ b true)]),(617,stC s2++exC 1 sa ep []),(657,AC x1 x2 x3 x4 x5),(769,dL s2++[.str sa,.str ep]),(777,AC x1 x2 x3 x4 x5)]) (.tup [.agg (AC y1 y2 y3 y4 y5),.int .i64 c4]),!(neI 0 0),!(neI c3 c3),!(!(EK (AC x1 x2 x3 x4 x5) (AC x1 x2 x3 x4 x5))),!(!(EN r r)),oS (EffA.pure (anD φ ⟨s2.h,s2.ck,s2.k,0⟩ sa ep f t)) 1089 (hA [(1,rC a b e f p o t),(209,stC s++exC 2 a e (pbW φ b true)),(385,dL s++[.str a,.str e,.str (pbW φ b true)]),(617,stC s2++exC 1 sa ep []),(657,AC x1 x2 x3 x4 x5),(769,dL s2++[.str sa,.str ep]),(777,AC sa pa [] [] [])]) (.tup [.str r,.agg (AC x1 x2 x3 x4 x5),.int .i64 c3]),Nat.beq s2.h.length 32 && Nat.beq s2.ck.length 32,oS (anM φ [.ptr 617 0,.str f,.str t]) 985 (hA [(1,rC a b e f p o t),(209,stC s++exC 2 a e (pbW φ b true)),(385,dL s++[.str a,.str e,.str (pbW φ b true)]),(617,stC s2++exC 1 sa ep []),(657,AC sa pa [] [] []),(769,dL s2++[.str sa,.str ep]),(777,AC sa pa [] [] [])]) (.tup [.str r,.agg (AC x1 x2 x3 x4 x5),.int .i64 c3]),!(neI 0 0),!(neI 0 0),!(neI 0 0),!(!(EK (AC sa pa [] [] []) (AC sa pa [] [] []))),oS (EffA.pure (rdD φ b p (tuF mm at1 by1))) 729 (hA [(1,rC a b e f p o t),(209,stC s++exC 2 a e (pbW φ b true)),(385,dL s++[.str a,.str e,.str (pbW φ b true)]),(617,stC s2++exC 1 sa ep []),(657,AC sa pa [] [] [])]) (.tup [otD s2 sa ep,.agg (AC sa pa [] [] []),.int .i64 0]),oB (rdE φ b p (tuF mm at1 by1)) 617 (hA [(1,rC a b e f p o t),(209,stC s++exC 2 a e (pbW φ b true)),(385,dL s++[.str a,.str e,.str (pbW φ b true)])]) (.tup [.ptr 617 0,.agg (AC sa pa [] [] []),.int .i64 0]) (hA [(1,rC a b e f p o t),(209,stC s++exC 2 a e (pbW φ b true)),(385,dL s++[.str a,.str e,.str (pbW φ b true)]),(617,stC s2++exC 1 sa ep [])]),!(neI 0 0),!(neI 0 0),!(!(EN mm mm)),oS (EffA.pure (bgD φ a (pbW φ b true) e p o)) 345 (hA [(1,rC a b e f p o t),(209,stC s++exC 2 a e (pbW φ b true))]) (.tup [hfD s a e (pbW φ b true),.str mm,.int .i64 0]),oB (bgE φ a (pbW φ b true) e p o) 209 (hA [(1,rC a b e f p o t)]) (.tup [.ptr 209 0,.str mm,.int .i64 0]) (hA [(1,rC a b e f p o t),(209,stC s++exC 2 a e (pbW φ b true))]),neI (φ.pr b) 0,!(lgB a b e f p o t)]
theorem amB (φ:Fz) (a b e f p o t:L8) (at1:Int) (by1 to1:UInt8) (c3 c4:Int) (s s2:St) (mm sa pa ep r x1 x2 x3 x4 x5 y1 y2 y3 y4 y5:L8):AL (An Tryz.prog (psL φ) (csL φ) [27,36,300049,300063,69,73,79,300092,300102,108,112,118,122,300123,300130,140,300140,146,150,155,158,300167,173,300173,178,182,300159,300185,300028] [false,true,false,false,false,false,false,false,false,false,false,false,false,true,true] [.tup [.ptr 209 0,.str mm,.int .i64 0],.tup [.ptr 209 0,.agg (stC s++exC 2 a e (pbW φ b true))],.tup [hfD s a e (pbW φ b true),.str mm,.int .i64 0],.tup [],.tup [.ptr 617 0,.agg (AC sa pa [] [] []),.int .i64 0],.tup [.ptr 617 0,.agg (stC s2++exC 1 sa ep [])],.tup [otD s2 sa ep,.agg (AC sa pa [] [] []),.int .i64 0],.tup [],.tup [.str r,.agg (AC x1 x2 x3 x4 x5),.int .i64 c3],.tup [.ptr 617 0,.agg (stC s2++exC 1 sa ep [])],.tup [.str r,.agg (AC x1 x2 x3 x4 x5),.int .i64 c3],.tup [],.tup [.agg (AC y1 y2 y3 y4 y5),.int .i64 c4],.tup [.ptr 209 0,.agg (stC s++exC 2 a e (pbW φ b true))],.tup [.agg (AC y1 y2 y3 y4 y5),.int .i64 c4],.tup [],.bool true,.tup []] (mask 3) 200 3 [rB a b e f p o t,.int .i64 at1,.u8 by1,.u8 to1] H0 1)=some (.bool true,abG φ a b e f p o t at1 by1 to1 c3 c4 s s2 mm sa pa ep r x1 x2 x3 x4 x5 y1 y2 y3 y4 y5):=by kernel_rfl
end Go.Proofs.YtcplgmgpagekfaaGreatDoor
namespace Go.Proofs.YtcplgmgpagekfaaGreatDoor
open Go Go.Eng Go.Num Go.Bla
noncomputable def aaH (φ:Fz) (a b e f p o t ms rp:L8):List Bool:=[oS (lkE (.bool true)) 113 (hA [(1,rC a b e f p o t)]) (.bool true),lgB a b e f p o t]
theorem alr (φ:Fz) (a b e f p o t ms rp:L8):AL (An Tryz.prog (psL φ) (csL φ) [21,25,30,300039,300049,55,59,65,300084,300098,104,106,300110,300115,121,300121,126,130,300133,300032] [true] [.bool true,.tup []] (mask 4) 200 4 [rB a b e f p o t,.str ms,.str rp] H0 1)=some (.bool true,aaH φ a b e f p o t ms rp):=by kernel_rfl
noncomputable def acf (φ:Fz) (a b e f p o t ms rp:L8):List Bool:=[oS (lkE (.bool true)) 113 (hA [(1,rC a b e f p o t)]) (.bool true),gtB ms 8192,!(lgB a b e f p o t)]
theorem amh (φ:Fz) (a b e f p o t ms rp:L8):AL (An Tryz.prog (psL φ) (csL φ) [21,25,30,300039,300049,55,59,65,300084,300098,104,106,300110,300115,121,300121,126,130,300133,300032] [false,true] [.bool true,.tup []] (mask 4) 200 4 [rB a b e f p o t,.str ms,.str rp] H0 1)=some (.bool true,acf φ a b e f p o t ms rp):=by kernel_rfl
noncomputable def abm (φ:Fz) (a b e f p o t ms rp:L8):List Bool:=[oS (lkE (.bool true)) 113 (hA [(1,rC a b e f p o t)]) (.bool true),gtB rp 8192,!(gtB ms 8192),!(lgB a b e f p o t)]
theorem alO (φ:Fz) (a b e f p o t ms rp:L8):AL (An Tryz.prog (psL φ) (csL φ) [21,25,30,300039,300049,55,59,65,300084,300098,104,106,300110,300115,121,300121,126,130,300133,300032] [false,false,true] [.bool true,.tup []] (mask 4) 200 4 [rB a b e f p o t,.str ms,.str rp] H0 1)=some (.bool true,abm φ a b e f p o t ms rp):=by kernel_rfl
noncomputable def aam (φ:Fz) (a b e f p o t ms rp:L8) (c2:Int) (c1:Int):List Bool:=[oS (lkE (.bool true)) 873 (hA [(1,rC a b e f p o t),(193,AE),(305,[.str [],.str [],.str [],.str [],.str []]),(313,AE),(777,[.str [],.str [],.str [],.str [],.str [],.str []])]) (.bool true),neI c1 0,!(neI c1 c1),oS (EffA.pure (bgD φ a (φ.pu b) e p o)) 737 (hA [(1,rC a b e f p o t),(193,AE),(305,[.str [],.str [],.str [],.str [],.str []]),(313,AE)]) (.tup [hf0,.str [],.int .i64 c1]),oS (bgE φ a (φ.pu b) e p o) 601 (hA [(1,rC a b e f p o t),(193,AE),(305,[.str [],.str [],.str [],.str [],.str []]),(313,AE)]) (.tup [.nilPtr,.str [],.int .i64 c1]),neI c2 0,!(neI c2 c2),!(!(EK (AE) (AE))),oS (EffA.pure (rdD φ b p ms)) 265 (hA [(1,rC a b e f p o t),(193,AE)]) (.tup [ot0,.agg AE,.int .i64 c2]),oS (rdE φ b p ms) 153 (hA [(1,rC a b e f p o t)]) (.tup [.nilPtr,.agg AE,.int .i64 c2]),!(gtB rp 8192),!(gtB ms 8192),!(lgB a b e f p o t)]
theorem amz (φ:Fz) (a b e f p o t ms rp:L8) (c2:Int) (c1:Int):AL (An Tryz.prog (psL φ) (csL φ) [21,25,30,300039,300049,55,59,65,300084,300098,104,106,300110,300115,121,300121,126,130,300133,300032] [false,false,false,false,false,true,false,true] [.tup [.nilPtr,.agg AE,.int .i64 c2],.tup [],.tup [ot0,.agg AE,.int .i64 c2],.tup [],.tup [.nilPtr,.str [],.int .i64 c1],.tup [],.tup [hf0,.str [],.int .i64 c1],.tup [],.bool true,.tup []] (mask 4) 200 4 [rB a b e f p o t,.str ms,.str rp] H0 1)=some (.bool true,aam φ a b e f p o t ms rp c2 c1):=by kernel_rfl
noncomputable def aas (φ:Fz) (a b e f p o t ms rp:L8) (c2:Int) (c4:Int) (s:St) (mm y1 y2 y3 y4 y5:L8):List Bool:=[oS (lkE (.bool true)) 1049 (hA [(1,rC a b e f p o t),(193,AC y1 y2 y3 y4 y5),(305,[.str [],.str [],.str [],.str [],.str []]),(313,AC y1 y2 y3 y4 y5),(601,stC s++exC 2 a e (φ.pu b)),(777,dL s++[.str a,.str e,.str (φ.pu b)])]) (.bool true),eI c4 c4,EK (AC y1 y2 y3 y4 y5) (AC y1 y2 y3 y4 y5),oS (EffA.pure (fiD φ ⟨s.h,s.ck,s.k,0⟩ a e (φ.pu b) rp)) 929 (hA [(1,rC a b e f p o t),(193,AC y1 y2 y3 y4 y5),(305,[.str [],.str [],.str [],.str [],.str []]),(313,AE),(601,stC s++exC 2 a e (φ.pu b)),(777,dL s++[.str a,.str e,.str (φ.pu b)])]) (.tup [.agg (AC y1 y2 y3 y4 y5),.int .i64 c4]),Nat.beq s.h.length 32 && Nat.beq s.ck.length 32,oS (fiM φ [.ptr 601 0,.str rp]) 865 (hA [(1,rC a b e f p o t),(193,AE),(305,[.str [],.str [],.str [],.str [],.str []]),(313,AE),(601,stC s++exC 2 a e (φ.pu b)),(777,dL s++[.str a,.str e,.str (φ.pu b)])]) (.tup [.agg (AC y1 y2 y3 y4 y5),.int .i64 c4]),!(neI 0 0),!(neI 0 0),oS (EffA.pure (bgD φ a (φ.pu b) e p o)) 737 (hA [(1,rC a b e f p o t),(193,AE),(305,[.str [],.str [],.str [],.str [],.str []]),(313,AE),(601,stC s++exC 2 a e (φ.pu b))]) (.tup [hfD s a e (φ.pu b),.str mm,.int .i64 0]),oB (bgE φ a (φ.pu b) e p o) 601 (hA [(1,rC a b e f p o t),(193,AE),(305,[.str [],.str [],.str [],.str [],.str []]),(313,AE)]) (.tup [.ptr 601 0,.str mm,.int .i64 0]) (hA [(1,rC a b e f p o t),(193,AE),(305,[.str [],.str [],.str [],.str [],.str []]),(313,AE),(601,stC s++exC 2 a e (φ.pu b))]),neI c2 0,!(neI c2 c2),!(!(EK (AE) (AE))),oS (EffA.pure (rdD φ b p ms)) 265 (hA [(1,rC a b e f p o t),(193,AE)]) (.tup [ot0,.agg AE,.int .i64 c2]),oS (rdE φ b p ms) 153 (hA [(1,rC a b e f p o t)]) (.tup [.nilPtr,.agg AE,.int .i64 c2]),!(gtB rp 8192),!(gtB ms 8192),!(lgB a b e f p o t)]
theorem ak8 (φ:Fz) (a b e f p o t ms rp:L8) (c2:Int) (c4:Int) (s:St) (mm y1 y2 y3 y4 y5:L8):AL (An Tryz.prog (psL φ) (csL φ) [21,25,30,300039,300049,55,59,65,300084,300098,104,106,300110,300115,121,300121,126,130,300133,300032] [false,false,false,false,false,true,false,false,true,true] [.tup [.nilPtr,.agg AE,.int .i64 c2],.tup [],.tup [ot0,.agg AE,.int .i64 c2],.tup [],.tup [.ptr 601 0,.str mm,.int .i64 0],.tup [.ptr 601 0,.agg (stC s++exC 2 a e (φ.pu b))],.tup [hfD s a e (φ.pu b),.str mm,.int .i64 0],.tup [],.tup [.agg (AC y1 y2 y3 y4 y5),.int .i64 c4],.tup [.ptr 601 0,.agg (stC s++exC 2 a e (φ.pu b))],.tup [.agg (AC y1 y2 y3 y4 y5),.int .i64 c4],.tup [],.bool true,.tup []] (mask 4) 200 4 [rB a b e f p o t,.str ms,.str rp] H0 1)=some (.bool true,aas φ a b e f p o t ms rp c2 c4 s mm y1 y2 y3 y4 y5):=by kernel_rfl
noncomputable def aaD (φ:Fz) (a b e f p o t ms rp:L8) (s2:St) (sa pa ep:L8) (c1:Int):List Bool:=[oS (lkE (.bool true)) 873 (hA [(1,rC a b e f p o t),(153,stC s2++exC 1 sa ep []),(193,AC sa pa [] [] []),(305,dL s2++[.str sa,.str ep]),(313,AC sa pa [] [] []),(777,[.str [],.str [],.str [],.str [],.str [],.str []])]) (.bool true),neI c1 0,!(neI c1 c1),oS (EffA.pure (bgD φ a (φ.pu b) e p o)) 737 (hA [(1,rC a b e f p o t),(153,stC s2++exC 1 sa ep []),(193,AC sa pa [] [] []),(305,dL s2++[.str sa,.str ep]),(313,AC sa pa [] [] [])]) (.tup [hf0,.str [],.int .i64 c1]),oS (bgE φ a (φ.pu b) e p o) 601 (hA [(1,rC a b e f p o t),(153,stC s2++exC 1 sa ep []),(193,AC sa pa [] [] []),(305,dL s2++[.str sa,.str ep]),(313,AC sa pa [] [] [])]) (.tup [.nilPtr,.str [],.int .i64 c1]),!(neI 0 0),!(neI 0 0),!(!(EK (AC sa pa [] [] []) (AC sa pa [] [] []))),oS (EffA.pure (rdD φ b p ms)) 265 (hA [(1,rC a b e f p o t),(153,stC s2++exC 1 sa ep []),(193,AC sa pa [] [] [])]) (.tup [otD s2 sa ep,.agg (AC sa pa [] [] []),.int .i64 0]),oB (rdE φ b p ms) 153 (hA [(1,rC a b e f p o t)]) (.tup [.ptr 153 0,.agg (AC sa pa [] [] []),.int .i64 0]) (hA [(1,rC a b e f p o t),(153,stC s2++exC 1 sa ep [])]),!(gtB rp 8192),!(gtB ms 8192),!(lgB a b e f p o t)]
theorem anz (φ:Fz) (a b e f p o t ms rp:L8) (s2:St) (sa pa ep:L8) (c1:Int):AL (An Tryz.prog (psL φ) (csL φ) [21,25,30,300039,300049,55,59,65,300084,300098,104,106,300110,300115,121,300121,126,130,300133,300032] [false,false,false,false,false,false,false,true] [.tup [.ptr 153 0,.agg (AC sa pa [] [] []),.int .i64 0],.tup [.ptr 153 0,.agg (stC s2++exC 1 sa ep [])],.tup [otD s2 sa ep,.agg (AC sa pa [] [] []),.int .i64 0],.tup [],.tup [.nilPtr,.str [],.int .i64 c1],.tup [],.tup [hf0,.str [],.int .i64 c1],.tup [],.bool true,.tup []] (mask 4) 200 4 [rB a b e f p o t,.str ms,.str rp] H0 1)=some (.bool true,aaD φ a b e f p o t ms rp s2 sa pa ep c1):=by kernel_rfl
noncomputable def abA (φ:Fz) (a b e f p o t ms rp:L8) (s2:St) (sa pa ep:L8) (c4:Int) (s:St) (mm y1 y2 y3 y4 y5:L8):List Bool:=[oS (lkE (.bool true)) 1049 (hA [(1,rC a b e f p o t),(153,stC s2++exC 1 sa ep []),(193,AC y1 y2 y3 y4 y5),(305,dL s2++[.str sa,.str ep]),(313,AC y1 y2 y3 y4 y5),(601,stC s++exC 2 a e (φ.pu b)),(777,dL s++[.str a,.str e,.str (φ.pu b)])]) (.bool true),eI c4 c4,EK (AC y1 y2 y3 y4 y5) (AC y1 y2 y3 y4 y5),oS (EffA.pure (fiD φ ⟨s.h,s.ck,s.k,0⟩ a e (φ.pu b) rp)) 929 (hA [(1,rC a b e f p o t),(153,stC s2++exC 1 sa ep []),(193,AC y1 y2 y3 y4 y5),(305,dL s2++[.str sa,.str ep]),(313,AC sa pa [] [] []),(601,stC s++exC 2 a e (φ.pu b)),(777,dL s++[.str a,.str e,.str (φ.pu b)])]) (.tup [.agg (AC y1 y2 y3 y4 y5),.int .i64 c4]),Nat.beq s.h.length 32 && Nat.beq s.ck.length 32,oS (fiM φ [.ptr 601 0,.str rp]) 865 (hA [(1,rC a b e f p o t),(153,stC s2++exC 1 sa ep []),(193,AC sa pa [] [] []),(305,dL s2++[.str sa,.str ep]),(313,AC sa pa [] [] []),(601,stC s++exC 2 a e (φ.pu b)),(777,dL s++[.str a,.str e,.str (φ.pu b)])]) (.tup [.agg (AC y1 y2 y3 y4 y5),.int .i64 c4]),!(neI 0 0),!(neI 0 0),oS (EffA.pure (bgD φ a (φ.pu b) e p o)) 737 (hA [(1,rC a b e f p o t),(153,stC s2++exC 1 sa ep []),(193,AC sa pa [] [] []),(305,dL s2++[.str sa,.str ep]),(313,AC sa pa [] [] []),(601,stC s++exC 2 a e (φ.pu b))]) (.tup [hfD s a e (φ.pu b),.str mm,.int .i64 0]),oB (bgE φ a (φ.pu b) e p o) 601 (hA [(1,rC a b e f p o t),(153,stC s2++exC 1 sa ep []),(193,AC sa pa [] [] []),(305,dL s2++[.str sa,.str ep]),(313,AC sa pa [] [] [])]) (.tup [.ptr 601 0,.str mm,.int .i64 0]) (hA [(1,rC a b e f p o t),(153,stC s2++exC 1 sa ep []),(193,AC sa pa [] [] []),(305,dL s2++[.str sa,.str ep]),(313,AC sa pa [] [] []),(601,stC s++exC 2 a e (φ.pu b))]),!(neI 0 0),!(neI 0 0),!(!(EK (AC sa pa [] [] []) (AC sa pa [] [] []))),oS (EffA.pure (rdD φ b p ms)) 265 (hA [(1,rC a b e f p o t),(153,stC s2++exC 1 sa ep []),(193,AC sa pa [] [] [])]) (.tup [otD s2 sa ep,.agg (AC sa pa [] [] []),.int .i64 0]),oB (rdE φ b p ms) 153 (hA [(1,rC a b e f p o t)]) (.tup [.ptr 153 0,.agg (AC sa pa [] [] []),.int .i64 0]) (hA [(1,rC a b e f p o t),(153,stC s2++exC 1 sa ep [])]),!(gtB rp 8192),!(gtB ms 8192),!(lgB a b e f p o t)]
theorem am7 (φ:Fz) (a b e f p o t ms rp:L8) (s2:St) (sa pa ep:L8) (c4:Int) (s:St) (mm y1 y2 y3 y4 y5:L8):AL (An Tryz.prog (psL φ) (csL φ) [21,25,30,300039,300049,55,59,65,300084,300098,104,106,300110,300115,121,300121,126,130,300133,300032] [false,false,false,false,false,false,false,false,true,true] [.tup [.ptr 153 0,.agg (AC sa pa [] [] []),.int .i64 0],.tup [.ptr 153 0,.agg (stC s2++exC 1 sa ep [])],.tup [otD s2 sa ep,.agg (AC sa pa [] [] []),.int .i64 0],.tup [],.tup [.ptr 601 0,.str mm,.int .i64 0],.tup [.ptr 601 0,.agg (stC s++exC 2 a e (φ.pu b))],.tup [hfD s a e (φ.pu b),.str mm,.int .i64 0],.tup [],.tup [.agg (AC y1 y2 y3 y4 y5),.int .i64 c4],.tup [.ptr 601 0,.agg (stC s++exC 2 a e (φ.pu b))],.tup [.agg (AC y1 y2 y3 y4 y5),.int .i64 c4],.tup [],.bool true,.tup []] (mask 4) 200 4 [rB a b e f p o t,.str ms,.str rp] H0 1)=some (.bool true,abA φ a b e f p o t ms rp s2 sa pa ep c4 s mm y1 y2 y3 y4 y5):=by kernel_rfl
end Go.Proofs.YtcplgmgpagekfaaGreatDoor
namespace Go.Proofs.YtcplgmgpagekfaaGreatDoor
open Go Go.Eng Go.Num Go.Bla
theorem nt {b:Bool}(h:b=false):(!b)=true:=by rw [h]; rfl
theorem ak0:eqL Bb Bb=true:=by kernel_rfl
theorem agh {H:HL}{base:Nat}{v:AVal}(h:Aa H 0=some (.cells true Bb)):(lkE v).app base H=some (v,H):=by
 unfold lkE tL
 simp only [EffA.app,Wz]
 unfold tK
 rw [h]
 simp only [ak0,cond_true]
theorem lkO {H:HL}{base:Nat}{v:AVal}(h:Aa H 0=some (.cells true Bb)):oB (lkE v) base H v H=true:=Bx (agh h)
theorem puO {H:HL}{base:Nat}{v v':AVal}(h:v=v'):oB (.pure v) base H v' H=true:=by
 subst h
 exact Bx rfl
theorem Oc (r:L8):(!(!(EN r r)))=true:=by unfold EN; simp
theorem WT (a b c d e:L8):EK (AC a b c d e) (AC a b c d e)=true:=by
 unfold EK AC
 simp [eqL,eqS]
theorem JL (a b c d e:L8):(!(!(EK (AC a b c d e) (AC a b c d e))))=true:=by rw [WT]; rfl
theorem eQ (c:Int):eI c c=true:=by unfold eI; simp
theorem neO (c:Int):(!(neI c c))=true:=by unfold neI; rw [eQ]; rfl
theorem neQ {c:Int}(h:c ≠ 0):neI c 0=true:=by unfold neI; rw [Gz h]; rfl
theorem UB {s:St}(h:Inv s):(Nat.beq s.h.length 32 && Nat.beq s.ck.length 32)=true:=by rw [h.1,h.2]; rfl
theorem IE {s:St}(h:s.f=0):(⟨s.h,s.ck,s.k,0⟩:St)=s:=by cases s; simp only at h; subst h; rfl
theorem OV (φ:Fz) (s:St) (sa ep e t:L8):∃ (r x1 x2 x3 x4 x5:L8) (c:Int),anV φ s sa ep e t=.tup [.str r,.agg (AC x1 x2 x3 x4 x5),.int .i64 c]:=by
 unfold anV
 cases noB s.h
 rotate_left
 ·exact ⟨_,_,_,_,_,_,_,rfl⟩
 cases neB e 32
 rotate_left
 ·exact ⟨_,_,_,_,_,_,_,rfl⟩
 cases gtB t 4096
 rotate_left
 ·exact ⟨_,_,_,_,_,_,_,rfl⟩
 cases eI (u4 φ s sa ep e t).f 0
 ·exact ⟨_,_,_,_,_,_,_,rfl⟩
 ·exact ⟨_,_,_,_,_,_,_,rfl⟩
theorem Ir (φ:Fz) (s:St) (se ep ot m:L8):∃ (x1 x2 x3 x4 x5:L8) (c:Int),fiV φ s se ep ot m=.tup [.agg (AC x1 x2 x3 x4 x5),.int .i64 c]:=by
 unfold fiV
 cases noB s.h
 rotate_left
 ·exact ⟨_,_,_,_,_,_,rfl⟩
 cases gtB m 4144
 rotate_left
 ·exact ⟨_,_,_,_,_,_,rfl⟩
 cases ltB2 m 48
 rotate_left
 ·exact ⟨_,_,_,_,_,_,rfl⟩
 cases eI (v4 φ s se ep m).f 0
 ·exact ⟨_,_,_,_,_,_,rfl⟩
 ·exact ⟨_,_,_,_,_,_,rfl⟩
theorem lkB {e:EffA}{H:HL}{base:Nat}{v:AVal}(he:e=lkE v) (h:Aa H 0=some (.cells true Bb)):oB e base H v H=true:=by
 subst he
 exact lkO h
theorem mkB {e:EffA}{H H':HL}{base:Nat}{c:List AVal}{mk:Nat→AVal}{v:AVal}(he:e=mkT 0 Bb c mk) (h:Aa H 0=some (.cells true Bb)) (hH:Bo H [(base,some (.cells false c))]=H') (hv:mk base=v):oB e base H v H'=true:=by
 subst he
 refine Bx ?_
 rw [Nw h,hH,hv]
theorem anB {φ:Fz}(hφ:OkZ φ){s:St}(hi:Inv s){sa ep e t:L8}{n base:Nat}{H:HL}{v:AVal}(h0:Aa H 0=some (.cells true Bb)) (hn:Aa H n=some (.cells false (stC s++exC 1 sa ep []))) (hH:AX H n (.cells false (stC s++exC 1 sa ep []))=H) (hv:anV φ s sa ep e t=v):oB (anM φ [.ptr n 0,.str e,.str t]) base H v H=true:=by
 refine Bx ?_
 rw [abH hφ s hi sa ep e t h0 hn,hH,hv]
theorem fiB {φ:Fz}(hφ:OkZ φ){s:St}(hi:Inv s){se ep ot m:L8}{n base:Nat}{H:HL}{v:AVal}(h0:Aa H 0=some (.cells true Bb)) (hn:Aa H n=some (.cells false (stC s++exC 2 se ep ot))) (hH:AX H n (.cells false (stC s++exC 2 se ep ot))=H) (hv:fiV φ s se ep ot m=v):oB (fiM φ [.ptr n 0,.str m]) base H v H=true:=by
 refine Bx ?_
 rw [ab9 hφ s hi se ep ot m h0 hn,hH,hv]
theorem tuN (y:Int) (b:UInt8):tuF [] y b=[]:=rfl
theorem am0 {φ:Fz}(hφ:OkY φ) (a b e f p o t:L8) (at1:Int) (by1 to1:UInt8):(Au Tryz.prog (csL φ) (mask 3) 200 3 [rB a b e f p o t,.int .i64 at1,.u8 by1,.u8 to1] H0 1).map (·.1)=some (.bool true):=by
 have hps:Bt (psL φ) (csL φ):=A4
 cases hl:lgB a b e f p o t with
 | true=>exact Aj hps (anK φ a b e f p o t at1 by1 to1) (Ab (lkO rfl) (Ab hl rfl))
 | false =>
 cases hw:neI (φ.pr b) 0 with
 | true =>
  rcases begin_cases hφ a (pbW φ b true) e p o with ⟨c1,n1,hb,hd⟩ | ⟨s,mm,hi,hf,_,hb,hd⟩
  ·rcases read_cases (φ:=φ) b p (tuF [] at1 by1) with ⟨c2,n2,hr,hrd⟩ | ⟨_,_,_,_,_,_,h96,_⟩
   ·exact Aj hps (amf φ a b e f p o t at1 by1 to1 c1 c2) (Ab (lkO rfl) (Ab (neQ n2) (Ab (neQ n2) (Ab (neO _) (Ab (JL _ _ _ _ _) (Ab (puO hrd) (Ab (lkB hr rfl) (Ab (neQ n1) (Ab (neO _) (Ab (Oc _) (Ab (puO hd) (Ab (lkB hb rfl) (Ab hw (Ab (nt hl) rfl))))))))))))))
   ·rw [tuN] at h96
    exact absurd h96 (by decide)
  ·rcases read_cases (φ:=φ) b p (tuF mm at1 by1) with ⟨c2,n2,hr,hrd⟩ | ⟨s2,sa,ep,pa,hi2,hf2,_,hr,hrd⟩
   ·exact Aj hps (alk φ a b e f p o t at1 by1 to1 c2 s mm) (Ab (lkO rfl) (Ab (neQ n2) (Ab (neQ n2) (Ab (neO _) (Ab (JL _ _ _ _ _) (Ab (puO hrd) (Ab (lkB hr rfl) (Ab (neO _) (Ab (neO _) (Ab (Oc _) (Ab (puO hd) (Ab (mkB hb rfl rfl rfl) (Ab hw (Ab (nt hl) rfl))))))))))))))
   ·obtain ⟨r,x1,x2,x3,x4,x5,c3,han⟩:=OV φ s2 sa ep f t
    obtain ⟨y1,y2,y3,y4,y5,c4,hfi⟩:=Ir φ s a e (pbW φ b true) (tuF r at1 to1)
    have had:anD φ ⟨s2.h,s2.ck,s2.k,0⟩ sa ep f t=.tup [.str r,.agg (AC x1 x2 x3 x4 x5),.int .i64 c3]:=by rw [IE hf2,← Rp hφ hi2 hf2,han]
    have hfd:fiD φ ⟨s.h,s.ck,s.k,0⟩ a e (pbW φ b true) (tuF r at1 to1)=.tup [.agg (AC y1 y2 y3 y4 y5),.int .i64 c4]:=by rw [IE hf,← Kn hi hf,hfi]
    exact Aj hps (amB φ a b e f p o t at1 by1 to1 c3 c4 s s2 mm sa pa ep r x1 x2 x3 x4 x5 y1 y2 y3 y4 y5) (Ab (lkO rfl) (Ab (eQ _) (Ab (WT _ _ _ _ _) (Ab (puO hfd) (Ab (UB hi) (Ab (fiB hφ.toOkZ hi rfl rfl rfl hfi) (Ab (neO _) (Ab (neO _) (Ab (JL _ _ _ _ _) (Ab (Oc _) (Ab (puO had) (Ab (UB hi2) (Ab (anB hφ.toOkZ hi2 rfl rfl rfl han) (Ab (neO _) (Ab (neO _) (Ab (neO _) (Ab (JL _ _ _ _ _) (Ab (puO hrd) (Ab (mkB hr rfl rfl rfl) (Ab (neO _) (Ab (neO _) (Ab (Oc _) (Ab (puO hd) (Ab (mkB hb rfl rfl rfl) (Ab hw (Ab (nt hl) rfl))))))))))))))))))))))))))
 | false =>
  rcases begin_cases hφ a (pbW φ b false) e p o with ⟨c1,n1,hb,hd⟩ | ⟨s,mm,hi,hf,_,hb,hd⟩
  ·rcases read_cases (φ:=φ) b p (tuF [] at1 by1) with ⟨c2,n2,hr,hrd⟩ | ⟨_,_,_,_,_,_,h96,_⟩
   ·exact Aj hps (anx φ a b e f p o t at1 by1 to1 c1 c2) (Ab (lkO rfl) (Ab (neQ n2) (Ab (neQ n2) (Ab (neO _) (Ab (JL _ _ _ _ _) (Ab (puO hrd) (Ab (lkB hr rfl) (Ab (neQ n1) (Ab (neO _) (Ab (Oc _) (Ab (puO hd) (Ab (lkB hb rfl) (Ab (nt hw) (Ab (nt hl) rfl))))))))))))))
   ·rw [tuN] at h96
    exact absurd h96 (by decide)
  ·rcases read_cases (φ:=φ) b p (tuF mm at1 by1) with ⟨c2,n2,hr,hrd⟩ | ⟨s2,sa,ep,pa,hi2,hf2,_,hr,hrd⟩
   ·exact Aj hps (amS φ a b e f p o t at1 by1 to1 c2 s mm) (Ab (lkO rfl) (Ab (neQ n2) (Ab (neQ n2) (Ab (neO _) (Ab (JL _ _ _ _ _) (Ab (puO hrd) (Ab (lkB hr rfl) (Ab (neO _) (Ab (neO _) (Ab (Oc _) (Ab (puO hd) (Ab (mkB hb rfl rfl rfl) (Ab (nt hw) (Ab (nt hl) rfl))))))))))))))
   ·obtain ⟨r,x1,x2,x3,x4,x5,c3,han⟩:=OV φ s2 sa ep f t
    obtain ⟨y1,y2,y3,y4,y5,c4,hfi⟩:=Ir φ s a e (pbW φ b false) (tuF r at1 to1)
    have had:anD φ ⟨s2.h,s2.ck,s2.k,0⟩ sa ep f t=.tup [.str r,.agg (AC x1 x2 x3 x4 x5),.int .i64 c3]:=by rw [IE hf2,← Rp hφ hi2 hf2,han]
    have hfd:fiD φ ⟨s.h,s.ck,s.k,0⟩ a e (pbW φ b false) (tuF r at1 to1)=.tup [.agg (AC y1 y2 y3 y4 y5),.int .i64 c4]:=by rw [IE hf,← Kn hi hf,hfi]
    exact Aj hps (amQ φ a b e f p o t at1 by1 to1 c3 c4 s s2 mm sa pa ep r x1 x2 x3 x4 x5 y1 y2 y3 y4 y5) (Ab (lkO rfl) (Ab (eQ _) (Ab (WT _ _ _ _ _) (Ab (puO hfd) (Ab (UB hi) (Ab (fiB hφ.toOkZ hi rfl rfl rfl hfi) (Ab (neO _) (Ab (neO _) (Ab (JL _ _ _ _ _) (Ab (Oc _) (Ab (puO had) (Ab (UB hi2) (Ab (anB hφ.toOkZ hi2 rfl rfl rfl han) (Ab (neO _) (Ab (neO _) (Ab (neO _) (Ab (JL _ _ _ _ _) (Ab (puO hrd) (Ab (mkB hr rfl rfl rfl) (Ab (neO _) (Ab (neO _) (Ab (Oc _) (Ab (puO hd) (Ab (mkB hb rfl rfl rfl) (Ab (nt hw) (Ab (nt hl) rfl))))))))))))))))))))))))))
theorem ajy {φ:Fz}(hφ:OkY φ) (a b e f p o t ms rp:L8):(Au Tryz.prog (csL φ) (mask 4) 200 4 [rB a b e f p o t,.str ms,.str rp] H0 1).map (·.1)=some (.bool true):=by
 have hps:Bt (psL φ) (csL φ):=A4
 cases hl:lgB a b e f p o t with
 | true=>exact Aj hps (alr φ a b e f p o t ms rp) (Ab (lkO rfl) (Ab hl rfl))
 | false =>
 cases hm:gtB ms 8192 with
 | true=>exact Aj hps (amh φ a b e f p o t ms rp) (Ab (lkO rfl) (Ab hm (Ab (nt hl) rfl)))
 | false =>
 cases hrp:gtB rp 8192 with
 | true=>exact Aj hps (alO φ a b e f p o t ms rp) (Ab (lkO rfl) (Ab hrp (Ab (nt hm) (Ab (nt hl) rfl))))
 | false =>
 rcases read_cases (φ:=φ) b p ms with ⟨c2,n2,hr,hrd⟩ | ⟨s2,sa,ep,pa,hi2,hf2,_,hr,hrd⟩
 ·rcases begin_cases hφ a (φ.pu b) e p o with ⟨c1,n1,hb,hd⟩ | ⟨s,mm,hi,hf,_,hb,hd⟩
  ·exact Aj hps (amz φ a b e f p o t ms rp c2 c1) (Ab (lkO rfl) (Ab (neQ n1) (Ab (neO _) (Ab (puO hd) (Ab (lkB hb rfl) (Ab (neQ n2) (Ab (neO _) (Ab (JL _ _ _ _ _) (Ab (puO hrd) (Ab (lkB hr rfl) (Ab (nt hrp) (Ab (nt hm) (Ab (nt hl) rfl)))))))))))))
  ·obtain ⟨y1,y2,y3,y4,y5,c4,hfi⟩:=Ir φ s a e (φ.pu b) rp
   have hfd:fiD φ ⟨s.h,s.ck,s.k,0⟩ a e (φ.pu b) rp=.tup [.agg (AC y1 y2 y3 y4 y5),.int .i64 c4]:=by rw [IE hf,← Kn hi hf,hfi]
   exact Aj hps (ak8 φ a b e f p o t ms rp c2 c4 s mm y1 y2 y3 y4 y5) (Ab (lkO rfl) (Ab (eQ _) (Ab (WT _ _ _ _ _) (Ab (puO hfd) (Ab (UB hi) (Ab (fiB hφ.toOkZ hi rfl rfl rfl hfi) (Ab (neO _) (Ab (neO _) (Ab (puO hd) (Ab (mkB hb rfl rfl rfl) (Ab (neQ n2) (Ab (neO _) (Ab (JL _ _ _ _ _) (Ab (puO hrd) (Ab (lkB hr rfl) (Ab (nt hrp) (Ab (nt hm) (Ab (nt hl) rfl))))))))))))))))))
 ·rcases begin_cases hφ a (φ.pu b) e p o with ⟨c1,n1,hb,hd⟩ | ⟨s,mm,hi,hf,_,hb,hd⟩
  ·exact Aj hps (anz φ a b e f p o t ms rp s2 sa pa ep c1) (Ab (lkO rfl) (Ab (neQ n1) (Ab (neO _) (Ab (puO hd) (Ab (lkB hb rfl) (Ab (neO _) (Ab (neO _) (Ab (JL _ _ _ _ _) (Ab (puO hrd) (Ab (mkB hr rfl rfl rfl) (Ab (nt hrp) (Ab (nt hm) (Ab (nt hl) rfl)))))))))))))
  ·obtain ⟨y1,y2,y3,y4,y5,c4,hfi⟩:=Ir φ s a e (φ.pu b) rp
   have hfd:fiD φ ⟨s.h,s.ck,s.k,0⟩ a e (φ.pu b) rp=.tup [.agg (AC y1 y2 y3 y4 y5),.int .i64 c4]:=by rw [IE hf,← Kn hi hf,hfi]
   exact Aj hps (am7 φ a b e f p o t ms rp s2 sa pa ep c4 s mm y1 y2 y3 y4 y5) (Ab (lkO rfl) (Ab (eQ _) (Ab (WT _ _ _ _ _) (Ab (puO hfd) (Ab (UB hi) (Ab (fiB hφ.toOkZ hi rfl rfl rfl hfi) (Ab (neO _) (Ab (neO _) (Ab (puO hd) (Ab (mkB hb rfl rfl rfl) (Ab (neO _) (Ab (neO _) (Ab (JL _ _ _ _ _) (Ab (puO hrd) (Ab (mkB hr rfl rfl rfl) (Ab (nt hrp) (Ab (nt hm) (Ab (nt hl) rfl))))))))))))))))))
end Go.Proofs.YtcplgmgpagekfaaGreatDoor
namespace Go.Proofs.YtcplgmgpagekfaaGreatDoor
open Go Go.Eng Go.Num Go.Bla
def tuD (x:UInt32) (k:Nat):UInt32:=Ay x k ||| AD x (32 - k)
def daF (q:Q4) (x:UInt32):UInt32:=q.a+q.b+x
def ddF (q:Q4) (x:UInt32) (k:Nat):UInt32:=tuD (q.d ^^^ daF q x) k
def dcF (q:Q4) (x:UInt32) (k:Nat):UInt32:=q.c+ddF q x k
def dhF (q:Q4) (x:UInt32) (k l:Nat):Q4:=⟨daF q x,tuD (q.b ^^^ dcF q x k) l,dcF q x k,ddF q x k⟩
def ajK (v:Nat→UInt32) (a b c d:Nat) (x y:UInt32):Nat→UInt32:=aj4 v a b c d (dhF (dhF ⟨v a,v b,v c,v d⟩ x 16 12) y 8 7)
def O1 (k:Nat) (v:Nat→UInt32) (x y:UInt32):Nat→UInt32:=ajK v (pl 0 k) (pl 1 k) (pl 2 k) (pl 3 k) x y
theorem mdR (v:Nat→UInt32) (x y:UInt32):(k:Nat)→k < 8→AL (An Tryz.prog AP (nU 2) [] [] [] (mask 121) 200 121 [.agg (As 16 v),.int .i64 (pl 0 k:Nat),.int .i64 (pl 1 k:Nat),.int .i64 (pl 2 k:Nat),.int .i64 (pl 3 k:Nat),.u32 x,.u32 y] [] 1)=some (.agg (As 16 (O1 k v x y)),[])
 | 0,_=>by kernel_rfl
 | 1,_=>by kernel_rfl
 | 2,_=>by kernel_rfl
 | 3,_=>by kernel_rfl
 | 4,_=>by kernel_rfl
 | 5,_=>by kernel_rfl
 | 6,_=>by kernel_rfl
 | 7,_=>by kernel_rfl
def w32 (l:List AVal) (i:Nat):UInt32:=match l[i]? with
 | some (.u32 x)=>x
 | _=>0
def kOf (a b:Int):Nat:=cond (decide (b=a+4)) a.toNat (a.toNat+4)
def Tg (l:List AVal) (a b c d:Int):Bool:=eqL l (As 16 (w32 l)) && (Nat.blt (kOf a b) 8 && (decide (a=(pl 0 (kOf a b):Nat)) && (decide (b=(pl 1 (kOf a b):Nat)) && (decide (c=(pl 2 (kOf a b):Nat)) && decide (d=(pl 3 (kOf a b):Nat))))))
def QN:List AVal→Option (EffA × Bool)
 | [.agg l,.int .i64 a,.int .i64 b,.int .i64 c,.int .i64 d,.u32 x,.u32 y]=>some (.pure (.agg (As 16 (O1 (kOf a b) (w32 l) x y))),Tg l a b c d)
 | _=>none
theorem acW (k:Nat) (f:Nat→UInt32):ltL 0 (As k f)=true:=by
 unfold As
 induction List.range k with
 | nil=>rfl
 | cons x l ih=>exact ih
theorem abD:Ai Tryz.prog (csP (Al 121 QN)):=Bc fun args e he=>by
 unfold QN at he
 split at he
 ·rename_i l a b c d x y
  simp only [Option.some.injEq,Prod.mk.injEq] at he
  obtain ⟨rfl,hg⟩:=he
  unfold Tg at hg
  simp only [Bool.and_eq_true,decide_eq_true_eq] at hg
  obtain ⟨h1,h2,h3,h4,h5,h6⟩:=hg
  have hk:kOf a b < 8:=by simpa using h2
  have hr:=mdR (w32 l) x y (kOf a b) hk
  rw [← EF h1,← h3,← h4,← h5,← h6] at hr
  exact Ac (Jm _) AB (by rw [← gl1] at hr; exact Aj (Ao _) hr rfl) (by rw [EF h1]; rfl) (by show ltL 0 _=true; exact acW _ _)
 ·cases he
end Go.Proofs.YtcplgmgpagekfaaGreatDoor
namespace Go.Proofs.YtcplgmgpagekfaaGreatDoor
open Go Go.Eng Go.Num Go.Bla
def G4 (k:Nat) (f:Nat→UInt8):List UInt8:=(List.range k).map f
def mD (p:Nat→UInt8) (i:Nat):UInt32:=(AD ((AD ((AD ((AD 0 8) ||| (p (4 * i+3)).toUInt32) 8) ||| (p (4 * i+2)).toUInt32) 8) ||| (p (4 * i+1)).toUInt32) 8) ||| (p (4 * i)).toUInt32
def SD (l:Bool) (h:Nat→UInt32) (n:UInt64) (p:Nat→UInt8) (v:Nat→UInt32) (r:Nat):SA:=⟨[(0,.agg (As 8 h)),(1,.str (G4 64 p)),(2,.u64 n),(3,.bool l),(4,.ptr 1 0),(8,.ptr 9 0),(9,.ptr 17 0),(10,.int .i64 (-1)),(18,.bool false),(11,.ptr 49 0),(12,.ptr 65 0),(13,.int .i64 8),(36,.bool false),(63,.bool l),(14,.int .i64 (r:Int))],
 [(1,.cells false (As 8 h)),(9,.cells false (As 8 fun _=>0)),(17,.cells false (As 16 (mD p))),(49,.cells false (As 16 v)),(65,.cells false (As 8 iv))],cond l 281 241⟩
noncomputable def csM:CS:=At (csP (Al 121 QN)) (nU 3)
theorem adp:Ai Tryz.prog csM:=Af abD (Jm _)
noncomputable def agx:List Code:=Aw (AH Tryz.f101)
noncomputable def ZF:Code:=A6 (agx.getD 13 .skip)
theorem ahL (h:Nat→UInt32) (n:UInt64) (p:Nat→UInt8):(l:Bool)→CF (Bl Tryz.prog (Al 121 QN) csM [] Tryz.f101.ntmps (mask 101) 200 1 (agx.take 13) ⟨AY [.agg (As 8 h),.str (G4 64 p),.u64 n,.bool l] 0,[],1⟩ ⟨[],[],[]⟩)=some (SD l h n p (vW h n l) 0,[])
 | false=>by kernel_rfl
 | true=>by kernel_rfl
end Go.Proofs.YtcplgmgpagekfaaGreatDoor
namespace Go.Proofs.YtcplgmgpagekfaaGreatDoor
open Go Go.Eng Go.Num Go.Bla
def oI (r:Nat):List AVal:=(Zv.getD r []).map fun n=>.int .i64 (n:Nat)
def frD (l:Bool):Nat:=cond l 281 241
def HDr (l:Bool) (h:Nat→UInt32) (p:Nat→UInt8) (r:Nat) (v:Nat→UInt32):HL:=[(1,.cells false (As 8 h)),(9,.cells false (As 8 fun _=>0)),(17,.cells false (As 16 (mD p))),(49,.cells false (As 16 v)),(65,.cells false (As 8 iv)),(frD l+32,.cells false (oI r))]
def BM (m:Nat→UInt32) (r k:Nat) (v:Nat→UInt32):Nat→UInt32:=O1 k v (m (ord r (2 * k))) (m (ord r (2 * k+1)))
noncomputable def obD (l:Bool) (h:Nat→UInt32) (p:Nat→UInt8) (r k:Nat) (v v':Nat→UInt32):Bool:=GB ((EffA.pure (.agg (As 16 (BM (mD p) r k (w32 (As 16 v)))))).app (frD l+120+88 * k) (HDr l h p r v)=some (.agg (As 16 v'),HDr l h p r v))
def gdD (k:Nat) (v:Nat→UInt32):Bool:=Tg (As 16 v) (pl 0 k:Nat) (pl 1 k:Nat) (pl 2 k:Nat) (pl 3 k:Nat)
theorem WQ (h:Nat→UInt32) (n:UInt64) (p:Nat→UInt8) (u v0 v1 v2 v3 v4 v5 v6 v7 v8:Nat→UInt32):(r:Nat)→r < 10→AV Tryz.prog (Al 121 QN) csM [83,300083,93,300093,103,300103,113,300113,123,300123,133,300133,143,300143,153,300153] [] [.agg (As 16 v1),.tup [],.agg (As 16 v2),.tup [],.agg (As 16 v3),.tup [],.agg (As 16 v4),.tup [],.agg (As 16 v5),.tup [],.agg (As 16 v6),.tup [],.agg (As 16 v7),.tup [],.agg (As 16 v8),.tup []] Tryz.f101.ntmps (mask 101) 200 1 ZF (SD false h n p u 0) (SD false h n p v0 r)=some (SD false h n p v8 (r+1),[obD false h p r 7 v7 v8,gdD 7 v7,obD false h p r 6 v6 v7,gdD 6 v6,obD false h p r 5 v5 v6,gdD 5 v5,obD false h p r 4 v4 v5,gdD 4 v4,obD false h p r 3 v3 v4,gdD 3 v3,obD false h p r 2 v2 v3,gdD 2 v2,obD false h p r 1 v1 v2,gdD 1 v1,obD false h p r 0 v0 v1,gdD 0 v0])
 | 0,_=>by kernel_rfl
 | 1,_=>by kernel_rfl
 | 2,_=>by kernel_rfl
 | 3,_=>by kernel_rfl
 | 4,_=>by kernel_rfl
 | 5,_=>by kernel_rfl
 | 6,_=>by kernel_rfl
 | 7,_=>by kernel_rfl
 | 8,_=>by kernel_rfl
 | 9,_=>by kernel_rfl
theorem aak (h:Nat→UInt32) (n:UInt64) (p:Nat→UInt8) (u v0 v1 v2 v3 v4 v5 v6 v7 v8:Nat→UInt32):(r:Nat)→r < 10→AV Tryz.prog (Al 121 QN) csM [83,300083,93,300093,103,300103,113,300113,123,300123,133,300133,143,300143,153,300153] [] [.agg (As 16 v1),.tup [],.agg (As 16 v2),.tup [],.agg (As 16 v3),.tup [],.agg (As 16 v4),.tup [],.agg (As 16 v5),.tup [],.agg (As 16 v6),.tup [],.agg (As 16 v7),.tup [],.agg (As 16 v8),.tup []] Tryz.f101.ntmps (mask 101) 200 1 ZF (SD true h n p u 0) (SD true h n p v0 r)=some (SD true h n p v8 (r+1),[obD true h p r 7 v7 v8,gdD 7 v7,obD true h p r 6 v6 v7,gdD 6 v6,obD true h p r 5 v5 v6,gdD 5 v5,obD true h p r 4 v4 v5,gdD 4 v4,obD true h p r 3 v3 v4,gdD 3 v3,obD true h p r 2 v2 v3,gdD 2 v2,obD true h p r 1 v1 v2,gdD 1 v1,obD true h p r 0 v0 v1,gdD 0 v0])
 | 0,_=>by kernel_rfl
 | 1,_=>by kernel_rfl
 | 2,_=>by kernel_rfl
 | 3,_=>by kernel_rfl
 | 4,_=>by kernel_rfl
 | 5,_=>by kernel_rfl
 | 6,_=>by kernel_rfl
 | 7,_=>by kernel_rfl
 | 8,_=>by kernel_rfl
 | 9,_=>by kernel_rfl
end Go.Proofs.YtcplgmgpagekfaaGreatDoor
namespace Go.Proofs.YtcplgmgpagekfaaGreatDoor
open Go Go.Eng Go.Num Go.Bla
theorem wst (m:Nat→UInt32) (r:Nat) (v:Nat→UInt32):(k:Nat)→k < 8→As 16 (BM m r k (w32 (As 16 v)))=As 16 (BM m r k v)
 | 0,_=>by kernel_rfl
 | 1,_=>by kernel_rfl
 | 2,_=>by kernel_rfl
 | 3,_=>by kernel_rfl
 | 4,_=>by kernel_rfl
 | 5,_=>by kernel_rfl
 | 6,_=>by kernel_rfl
 | 7,_=>by kernel_rfl
theorem Cl (l:Bool) (h:Nat→UInt32) (p:Nat→UInt8) (r k:Nat) (hk:k < 8) (v v':Nat→UInt32) (e:v'=BM (mD p) r k v):obD l h p r k v v'=true:=by
 subst e
 refine DY ?_
 rw [wst _ _ _ k hk]
 rfl
theorem J7 (x:UInt32):eqS (.u32 x) (.u32 x)=true:=by simp [eqS]
theorem acG (v:Nat→UInt32) (n:Nat):eqL (As n v) (As n v)=true:=by
 unfold As
 induction List.range n with
 | nil=>rfl
 | cons x l ih=>simp only [List.map_cons,eqL,J7,ih,Bool.and_self]
theorem akI (v:Nat→UInt32):As 16 (w32 (As 16 v))=As 16 v:=by kernel_rfl
theorem afn (v:Nat→UInt32):As 8 (w32 (As 8 v))=As 8 v:=by kernel_rfl
theorem Ck (v:Nat→UInt32):(k:Nat)→k < 8→gdD k v=true:=by
 intro k hk
 have e:eqL (As 16 v) (As 16 (w32 (As 16 v)))=true:=by rw [akI]; exact acG v 16
 unfold gdD Tg
 rw [e]
 match k,hk with
 | 0,_=>rfl
 | 1,_=>rfl
 | 2,_=>rfl
 | 3,_=>rfl
 | 4,_=>rfl
 | 5,_=>rfl
 | 6,_=>rfl
 | 7,_=>rfl
def UP (h v:Nat→UInt32) (i:Nat):UInt32:=h i ^^^ v i ^^^ v (8+i)
def DT (m:Nat→UInt32) (r:Nat) (v:Nat→UInt32):Nat→Nat→UInt32
 | 0=>v
 | j+1=>BM m r j (DT m r v j)
def roundsD (m:Nat→UInt32):Nat→(Nat→UInt32)→Nat→UInt32
 | 0,v=>v
 | r+1,v=>DT m r (roundsD m r v) 8
def CY (h:Nat→UInt32) (n:UInt64) (p:Nat→UInt8) (l:Bool):Nat→UInt32:=UP h (roundsD (mD p) 10 (vW h n l))
theorem JM (h:Nat→UInt32) (n:UInt64) (p:Nat→UInt8) (v:Nat→UInt32):(l:Bool)→Vr Tryz.prog (Al 121 QN) csM [] Tryz.f101 (mask 101) 200 1 4 ZF (agx.drop 14) (SD l h n p v 10) ⟨[],[],[]⟩=some (.agg (As 8 (UP h v)),[])
 | false=>by kernel_rfl
 | true=>by kernel_rfl
theorem okD (h:Nat→UInt32) (n:UInt64) (p:Nat→UInt8) (v:Nat→UInt32) (r:Nat):(l:Bool)→okS Tryz.prog (SD l h n p v r)=true
 | false=>by kernel_rfl
 | true=>by kernel_rfl
theorem acC:Tryz.prog.funcs[101]? = some Tryz.f101:=by kernel_rfl
theorem acZ:Tryz.f101.body=some (AH Tryz.f101):=by kernel_rfl
theorem acy:(Aw (AH Tryz.f101))[13]? = some (.block 4 (.loop ZF)):=by kernel_rfl
theorem Yo (h:Nat→UInt32) (n:UInt64) (p:Nat→UInt8):(Au Tryz.prog csM (mask 101) 200 101 [.agg (As 8 h),.str (G4 64 p),.u64 n,.bool false] [] 1).map (·.1)=some (.agg (As 8 (CY h n p false))):=by
 refine Gs A4 acC acZ rfl 13 acy (fun r=>SD false h n p (roundsD (mD p) r (vW h n false)) r) 10 (sy0:=[]) (os0:=[]) (vs0:=[]) (ob0:=[]) (ahL h n p false) rfl ?_ (sy1:=[]) (os1:=[]) (vs1:=[]) (ob1:=[]) (JM h n p _ false) rfl (by decide)
 intro r hr
 have hx:=WQ h n p (roundsD (mD p) 0 (vW h n false)) (roundsD (mD p) r (vW h n false)) (DT (mD p) r (roundsD (mD p) r (vW h n false)) 1) (DT (mD p) r (roundsD (mD p) r (vW h n false)) 2) (DT (mD p) r (roundsD (mD p) r (vW h n false)) 3) (DT (mD p) r (roundsD (mD p) r (vW h n false)) 4) (DT (mD p) r (roundsD (mD p) r (vW h n false)) 5) (DT (mD p) r (roundsD (mD p) r (vW h n false)) 6) (DT (mD p) r (roundsD (mD p) r (vW h n false)) 7) (DT (mD p) r (roundsD (mD p) r (vW h n false)) 8)  r hr
 refine Bg A4 hx ?_ (okD h n p _ _ false)
 exact Ab (Cl _ _ _ _ 7 (by decide) _ _ rfl) (Ab (Ck _ 7 (by decide)) (Ab (Cl _ _ _ _ 6 (by decide) _ _ rfl) (Ab (Ck _ 6 (by decide)) (Ab (Cl _ _ _ _ 5 (by decide) _ _ rfl) (Ab (Ck _ 5 (by decide)) (Ab (Cl _ _ _ _ 4 (by decide) _ _ rfl) (Ab (Ck _ 4 (by decide)) (Ab (Cl _ _ _ _ 3 (by decide) _ _ rfl) (Ab (Ck _ 3 (by decide)) (Ab (Cl _ _ _ _ 2 (by decide) _ _ rfl) (Ab (Ck _ 2 (by decide)) (Ab (Cl _ _ _ _ 1 (by decide) _ _ rfl) (Ab (Ck _ 1 (by decide)) (Ab (Cl _ _ _ _ 0 (by decide) _ _ rfl) (Ab (Ck _ 0 (by decide)) (rfl))))))))))))))))
theorem Z4 (h:Nat→UInt32) (n:UInt64) (p:Nat→UInt8):(Au Tryz.prog csM (mask 101) 200 101 [.agg (As 8 h),.str (G4 64 p),.u64 n,.bool true] [] 1).map (·.1)=some (.agg (As 8 (CY h n p true))):=by
 refine Gs A4 acC acZ rfl 13 acy (fun r=>SD true h n p (roundsD (mD p) r (vW h n true)) r) 10 (sy0:=[]) (os0:=[]) (vs0:=[]) (ob0:=[]) (ahL h n p true) rfl ?_ (sy1:=[]) (os1:=[]) (vs1:=[]) (ob1:=[]) (JM h n p _ true) rfl (by decide)
 intro r hr
 have hx:=aak h n p (roundsD (mD p) 0 (vW h n true)) (roundsD (mD p) r (vW h n true)) (DT (mD p) r (roundsD (mD p) r (vW h n true)) 1) (DT (mD p) r (roundsD (mD p) r (vW h n true)) 2) (DT (mD p) r (roundsD (mD p) r (vW h n true)) 3) (DT (mD p) r (roundsD (mD p) r (vW h n true)) 4) (DT (mD p) r (roundsD (mD p) r (vW h n true)) 5) (DT (mD p) r (roundsD (mD p) r (vW h n true)) 6) (DT (mD p) r (roundsD (mD p) r (vW h n true)) 7) (DT (mD p) r (roundsD (mD p) r (vW h n true)) 8)  r hr
 refine Bg A4 hx ?_ (okD h n p _ _ true)
 exact Ab (Cl _ _ _ _ 7 (by decide) _ _ rfl) (Ab (Ck _ 7 (by decide)) (Ab (Cl _ _ _ _ 6 (by decide) _ _ rfl) (Ab (Ck _ 6 (by decide)) (Ab (Cl _ _ _ _ 5 (by decide) _ _ rfl) (Ab (Ck _ 5 (by decide)) (Ab (Cl _ _ _ _ 4 (by decide) _ _ rfl) (Ab (Ck _ 4 (by decide)) (Ab (Cl _ _ _ _ 3 (by decide) _ _ rfl) (Ab (Ck _ 3 (by decide)) (Ab (Cl _ _ _ _ 2 (by decide) _ _ rfl) (Ab (Ck _ 2 (by decide)) (Ab (Cl _ _ _ _ 1 (by decide) _ _ rfl) (Ab (Ck _ 1 (by decide)) (Ab (Cl _ _ _ _ 0 (by decide) _ _ rfl) (Ab (Ck _ 0 (by decide)) (rfl))))))))))))))))
def gB (p:List UInt8) (i:Nat):UInt8:=p.getD i 0
theorem aad (p:List UInt8):G4 p.length (gB p)=p:=by
 unfold G4 gB
 apply List.ext_getElem
 ·simp
 ·intro i h1 h2
  simp [List.getD_eq_getElem?_getD,h2]
def Mk (l:List AVal) (p:List UInt8):Bool:=eqL l (As 8 (w32 l)) && Nat.beq p.length 64
def Nv:List AVal→Option (EffA × Bool)
 | [.agg l,.str p,.u64 n,.bool b]=>some (.pure (.agg (As 8 (CY (w32 l) n (gB p) b))),Mk l p)
 | _=>none
theorem aaI:Ai Tryz.prog (csP (Al 101 Nv)):=Bc fun args e he=>by
 unfold Nv at he
 split at he
 ·rename_i l p n b
  simp only [Option.some.injEq,Prod.mk.injEq] at he
  obtain ⟨rfl,hg⟩:=he
  unfold Mk at hg
  rw [Bool.and_eq_true] at hg
  have hl:=Nat.eq_of_beq_eq_true hg.2
  have hp:=aad p
  rw [hl] at hp
  have hr:(Au Tryz.prog csM (mask 101) 200 101 [.agg (As 8 (w32 l)),.str (G4 64 (gB p)),.u64 n,.bool b] [] 1).map (·.1)=some (.agg (As 8 (CY (w32 l) n (gB p) b))):=by
   cases b
   ·exact Yo _ _ _
   ·exact Z4 _ _ _
  rw [← EF hg.1,hp] at hr
  exact Ac adp AB (by rw [← gl1] at hr; exact hr) (by rw [EF hg.1]; rfl) (by show ltL 0 _=true; exact acW _ _)
 ·cases he
end Go.Proofs.YtcplgmgpagekfaaGreatDoor
namespace Go.Proofs.YtcplgmgpagekfaaGreatDoor
open Go Go.Eng Go.Num Go.Bla
noncomputable def csS:CS:=At (csP (Al 101 Nv)) (nU 2)
theorem agJ:Ai Tryz.prog csS:=Af aaI (Jm _)
def T73 (s:List UInt8) (x:Int):TL:=[(0,.int .i64 32),(1,.str []),(2,.str s),(6,.str []),(7,.ptr 17 0),(8,.str s),(28,.bool false),(9,.int .i64 x)]
def S73 (s:List UInt8) (x:Int) (h:Nat→UInt32):SA:=⟨T73 s x,[(17,.cells false (As 8 h))],177⟩
def E73 (s:List UInt8) (x:Int) (h:Nat→UInt32):SA:=⟨T73 s x++[(42,.bool false)],[(17,.cells false (As 8 h))],217⟩
def R73 (s:List UInt8) (x:Int) (h:Nat→UInt32) (r:List UInt8):SA:=⟨T73 s x++[(42,.bool false),(10,.str r)],[(17,.cells false (As 8 h))],249⟩
def h0D (i:Nat):UInt32:=cond (Nat.beq i 0) (((iv 0 ^^^ 0x01010000) ^^^ AD (UInt32.ofInt 0) 8) ^^^ UInt32.ofInt 32) (iv i)
noncomputable def p73:List Code:=Aw (AH Tryz.f73)
noncomputable def b73:Code:=A6 (p73.getD 7 .skip)
def QJ (s:List UInt8) (a b:Int):List UInt8:=(s.take b.toNat).drop a.toNat
def X4 (s:List UInt8) (a b:Int):Bool:=decide (0≤a) && (decide (a≤b) && decide (b≤(s.length:Int)))
noncomputable def obQ (h h2:Nat→UInt32) (n:UInt64) (p:List UInt8) (l:Bool) (base:Nat) (H:HL):Bool:=GB ((EffA.pure (.agg (As 8 (CY (w32 (As 8 h)) n (gB p) l)))).app base H=some (.agg (As 8 h2),H))
def zC (k:Nat):List AVal:=(List.range (64 - k)).map fun _=>.u8 0
section
variable (s:List UInt8) (x:Int) (h h2 u:Nat→UInt32) (f:Nat→UInt8)
theorem akB:CF (Bl Tryz.prog (Al 101 Nv) csS [] Tryz.f73.ntmps (mask 73) 200 1 (p73.take 7) ⟨AY [.int .i64 32,.str [],.str s] 0,[],1⟩ ⟨[],[],[]⟩)=some (S73 s 0 h0D,[]):=by kernel_rfl
theorem aj1 (F:Nat):AV Tryz.prog (Al 101 Nv) csS [42,48,52,300052] [true] [.agg (As 8 h2),.tup []] Tryz.f73.ntmps (mask 73) F 1 b73 (S73 s 0 u) (S73 s x h)=some (S73 s (IntKind.wrap .i64 (x+64)) h2,[obQ h h2 (UInt64.ofInt (IntKind.wrap .i64 (x+64))) (QJ s x (IntKind.wrap .i64 (x+64))) false 289 [(17,.cells false (As 8 h))],Mk (As 8 h) (QJ s x (IntKind.wrap .i64 (x+64))),X4 s x (IntKind.wrap .i64 (x+64)),decide (64 < IntKind.wrap .i64 ((s.length:Int) - x))]):=by kernel_rfl
theorem aj8 (F:Nat):evT Tryz.prog (Al 101 Nv) csS [42] Tryz.f73.ntmps (mask 73) F 1 b73 (S73 s x h) ⟨[false],[],[]⟩=some (.exit 0,E73 s x h,⟨[],[],[!(decide (64 < IntKind.wrap .i64 ((s.length:Int) - x)))]⟩):=by kernel_rfl
theorem ahP (F:Nat):CF (Bl Tryz.prog (Al 101 Nv) csS [57] Tryz.f73.ntmps (mask 73) F 1 ((p73.drop 8).take 1) (E73 s x h) ⟨[],[],[]⟩)=some (R73 s x h (QJ s x (s.length:Int)),[X4 s x (s.length:Int)]):=by kernel_rfl
end
def P73 (s:List UInt8) (x:Int) (h h2:Nat→UInt32) (f:Nat→UInt8) (k:Nat):Prop:=Rl Tryz.prog Tryz.f73 [] (Bl Tryz.prog (Al 101 Nv) csS [69,300069] Tryz.f73.ntmps (mask 73) 200 1 (p73.drop 9) (R73 s x h (G4 k f)) ⟨[],[.agg (As 8 h2),.tup []],[]⟩)=some (.str (Bq h2),[],[obQ h h2 (UInt64.ofInt (s.length:Nat)) (G4 64 (Jc k f)) true 337 [(17,.cells false (As 8 h)),(289,.cells false (zC k))],Mk (As 8 h) (G4 64 (Jc k f))])
theorem aa4 (s:List UInt8) (x:Int) (h h2:Nat→UInt32) (f:Nat→UInt8):(b:Nat)→b < 8→P73 s x h h2 f (8 * 0+b+1)
 | 0,_=>by unfold P73; kernel_rfl
 | 1,_=>by unfold P73; kernel_rfl
 | 2,_=>by unfold P73; kernel_rfl
 | 3,_=>by unfold P73; kernel_rfl
 | 4,_=>by unfold P73; kernel_rfl
 | 5,_=>by unfold P73; kernel_rfl
 | 6,_=>by unfold P73; kernel_rfl
 | 7,_=>by unfold P73; kernel_rfl
theorem abo (s:List UInt8) (x:Int) (h h2:Nat→UInt32) (f:Nat→UInt8):(b:Nat)→b < 8→P73 s x h h2 f (8 * 1+b+1)
 | 0,_=>by unfold P73; kernel_rfl
 | 1,_=>by unfold P73; kernel_rfl
 | 2,_=>by unfold P73; kernel_rfl
 | 3,_=>by unfold P73; kernel_rfl
 | 4,_=>by unfold P73; kernel_rfl
 | 5,_=>by unfold P73; kernel_rfl
 | 6,_=>by unfold P73; kernel_rfl
 | 7,_=>by unfold P73; kernel_rfl
theorem abK (s:List UInt8) (x:Int) (h h2:Nat→UInt32) (f:Nat→UInt8):(b:Nat)→b < 8→P73 s x h h2 f (8 * 2+b+1)
 | 0,_=>by unfold P73; kernel_rfl
 | 1,_=>by unfold P73; kernel_rfl
 | 2,_=>by unfold P73; kernel_rfl
 | 3,_=>by unfold P73; kernel_rfl
 | 4,_=>by unfold P73; kernel_rfl
 | 5,_=>by unfold P73; kernel_rfl
 | 6,_=>by unfold P73; kernel_rfl
 | 7,_=>by unfold P73; kernel_rfl
theorem ZI (s:List UInt8) (x:Int) (h h2:Nat→UInt32) (f:Nat→UInt8):(b:Nat)→b < 8→P73 s x h h2 f (8 * 3+b+1)
 | 0,_=>by unfold P73; kernel_rfl
 | 1,_=>by unfold P73; kernel_rfl
 | 2,_=>by unfold P73; kernel_rfl
 | 3,_=>by unfold P73; kernel_rfl
 | 4,_=>by unfold P73; kernel_rfl
 | 5,_=>by unfold P73; kernel_rfl
 | 6,_=>by unfold P73; kernel_rfl
 | 7,_=>by unfold P73; kernel_rfl
theorem abv (s:List UInt8) (x:Int) (h h2:Nat→UInt32) (f:Nat→UInt8):(b:Nat)→b < 8→P73 s x h h2 f (8 * 4+b+1)
 | 0,_=>by unfold P73; kernel_rfl
 | 1,_=>by unfold P73; kernel_rfl
 | 2,_=>by unfold P73; kernel_rfl
 | 3,_=>by unfold P73; kernel_rfl
 | 4,_=>by unfold P73; kernel_rfl
 | 5,_=>by unfold P73; kernel_rfl
 | 6,_=>by unfold P73; kernel_rfl
 | 7,_=>by unfold P73; kernel_rfl
theorem aaV (s:List UInt8) (x:Int) (h h2:Nat→UInt32) (f:Nat→UInt8):(b:Nat)→b < 8→P73 s x h h2 f (8 * 5+b+1)
 | 0,_=>by unfold P73; kernel_rfl
 | 1,_=>by unfold P73; kernel_rfl
 | 2,_=>by unfold P73; kernel_rfl
 | 3,_=>by unfold P73; kernel_rfl
 | 4,_=>by unfold P73; kernel_rfl
 | 5,_=>by unfold P73; kernel_rfl
 | 6,_=>by unfold P73; kernel_rfl
 | 7,_=>by unfold P73; kernel_rfl
theorem aal (s:List UInt8) (x:Int) (h h2:Nat→UInt32) (f:Nat→UInt8):(b:Nat)→b < 8→P73 s x h h2 f (8 * 6+b+1)
 | 0,_=>by unfold P73; kernel_rfl
 | 1,_=>by unfold P73; kernel_rfl
 | 2,_=>by unfold P73; kernel_rfl
 | 3,_=>by unfold P73; kernel_rfl
 | 4,_=>by unfold P73; kernel_rfl
 | 5,_=>by unfold P73; kernel_rfl
 | 6,_=>by unfold P73; kernel_rfl
 | 7,_=>by unfold P73; kernel_rfl
theorem ZQ (s:List UInt8) (x:Int) (h h2:Nat→UInt32) (f:Nat→UInt8):(b:Nat)→b < 8→P73 s x h h2 f (8 * 7+b+1)
 | 0,_=>by unfold P73; kernel_rfl
 | 1,_=>by unfold P73; kernel_rfl
 | 2,_=>by unfold P73; kernel_rfl
 | 3,_=>by unfold P73; kernel_rfl
 | 4,_=>by unfold P73; kernel_rfl
 | 5,_=>by unfold P73; kernel_rfl
 | 6,_=>by unfold P73; kernel_rfl
 | 7,_=>by unfold P73; kernel_rfl
theorem ab5 (s:List UInt8) (x:Int) (h h2:Nat→UInt32) (f:Nat→UInt8) (b:Nat) (hb:b < 8):(a:Nat)→a < 8→P73 s x h h2 f (8 * a+b+1)
 | 0,_=>aa4 s x h h2 f b hb
 | 1,_=>abo s x h h2 f b hb
 | 2,_=>abK s x h h2 f b hb
 | 3,_=>ZI s x h h2 f b hb
 | 4,_=>abv s x h h2 f b hb
 | 5,_=>aaV s x h h2 f b hb
 | 6,_=>aal s x h h2 f b hb
 | 7,_=>ZQ s x h h2 f b hb
theorem akW (s:List UInt8) (x:Int) (h h2:Nat→UInt32) (f:Nat→UInt8) (k:Nat) (h0:0 < k) (h1:k < 65):P73 s x h h2 f k:=by
 have:=ab5 s x h h2 f ((k - 1) % 8) (by omega) ((k - 1) / 8) (by omega)
 rwa [show 8 * ((k - 1) / 8)+(k - 1) % 8+1=k by omega] at this
end Go.Proofs.YtcplgmgpagekfaaGreatDoor
namespace Go.Proofs.YtcplgmgpagekfaaGreatDoor
open Go Go.Eng Go.Num Go.Bla
def nD (q:Nat):UInt64:=UInt64.ofInt ((64 * q+64:Nat):Int)
def ptD (s:List UInt8) (q:Nat):List UInt8:=(s.take (64 * q+64)).drop (64 * q)
def hsD (s:List UInt8):Nat→Nat→UInt32
 | 0=>h0D
 | q+1=>CY (hsD s q) (nD q) (gB (ptD s q)) false
def wD (s:List UInt8):Nat→UInt32:=CY (hsD s (qL s)) (UInt64.ofInt (s.length:Nat)) (gB (G4 64 (Jc (kL s) (pcF s (qL s))))) true
def oD (s:List UInt8):List UInt8:=Bq (wD s)
theorem WC (h:Nat→UInt32) (n:UInt64) (p:Nat→UInt8) (l:Bool):As 8 (CY (w32 (As 8 h)) n p l)=As 8 (CY h n p l):=by
 have e:∀ i,i < 8→w32 (As 8 h) i=h i:=fun i hi=>match i,hi with
  | 0,_=>rfl | 1,_=>rfl | 2,_=>rfl | 3,_=>rfl | 4,_=>rfl | 5,_=>rfl | 6,_=>rfl | 7,_=>rfl
 have ev:vW (w32 (As 8 h)) n l=vW h n l:=funext fun i=>by
  unfold vW
  cases hb:Nat.blt i 8 with
  | true=>simp only [cond_true]; exact e i (by simpa using hb)
  | false=>simp only [cond_false]
 unfold CY
 rw [ev]
 generalize roundsD (mD p) 10 (vW h n l)=v
 show (List.range 8).map (fun j=>AVal.u32 (UP (w32 (As 8 h)) v j))=(List.range 8).map fun j=>AVal.u32 (UP h v j)
 refine List.map_congr_left fun i hi => ?_
 unfold UP
 rw [e i (List.mem_range.1 hi)]
theorem YK (h:Nat→UInt32) (n:UInt64) (p:List UInt8) (l:Bool) (base:Nat) (H:HL):obQ h (CY h n (gB p) l) n p l base H=true:=by
 refine DY ?_
 rw [WC]
 rfl
theorem PK (h:Nat→UInt32) (p:List UInt8) (hp:p.length=64):Mk (As 8 h) p=true:=by
 unfold Mk
 rw [afn,acG,hp]
 rfl
theorem abr (s:List UInt8) (q:Nat) (h:64 * q+64≤s.length):(ptD s q).length=64:=by
 unfold ptD
 rw [List.length_drop,List.length_take]
 omega
theorem ano:Tryz.prog.funcs[73]? = some Tryz.f73:=by kernel_rfl
theorem alN:Tryz.f73.body=some (AH Tryz.f73):=by kernel_rfl
theorem alv:(Aw (AH Tryz.f73))[7]? = some (.block 0 (.loop b73)):=by kernel_rfl
theorem amv (s:List UInt8) (x:Int) (h:Nat→UInt32):okS Tryz.prog (S73 s x h)=true:=by kernel_rfl
theorem VJ:Bt (Al 101 Nv) csS:=A4
theorem ahC (s:List UInt8) (hg:gd s=true):Ea [] (Au Tryz.prog csS (mask 73) 200 73 [.int .i64 32,.str [],.str s] [] 1)=some (.str (oD s),[]):=by
 obtain ⟨h0,h1⟩:=TZ hg
 have hq:64 * qL s+kL s=s.length:=by unfold qL kL; omega
 have hk:0 < kL s∧kL s < 65:=by unfold kL; omega
 have hw:∀ x:Int,-100 < x→x < 20000→IntKind.wrap .i64 x=x:=fun x a b=>CK x (by omega) (by omega)
 refine agm VJ (fn:=Tryz.f73) (s:=S73 s 0 h0D) ano alN rfl 7 (akB s) rfl ?_
 show JO Tryz.prog Tryz.f73 [] (evS Tryz.prog csS Tryz.f73.ntmps (mask 73) 200 1 ((Aw (AH Tryz.f73)).drop 7) (S73 s 0 h0D))=_
 -- the rounds
 have hst:∀ q,q < qL s→AU (evC Tryz.prog csS Tryz.f73.ntmps (mask 73) 200 1 b73) (AW Tryz.prog 1 (S73 s 0 h0D)) (S73 s ((64 * q:Nat):Int) (hsD s q))=some (S73 s ((64 * (q+1):Nat):Int) (hsD s (q+1))):=fun q hq'=>by
  have hx:=aj1 s ((64 * q:Nat):Int) (hsD s q) (hsD s (q+1)) h0D 200
  have e1:IntKind.wrap .i64 (((64 * q:Nat):Int)+64)=((64 * q+64:Nat):Int):=by rw [hw _ (by omega) (by omega)]; omega
  rw [e1,hw _ (by omega) (by omega)] at hx
  have e2:QJ s ((64 * q:Nat):Int) ((64 * q+64:Nat):Int)=ptD s q:=by
   unfold QJ ptD
   rw [Int.toNat_natCast,Int.toNat_natCast]
  rw [e2] at hx
  refine Bg VJ hx ?_ (amv _ _ _)
  refine Ab (YK _ _ _ _ _ _) (Ab (PK _ _ (abr s q (by omega))) (Ab ?_ (Ab ?_ rfl)))
  ·unfold X4
   simp only [Bool.and_eq_true,decide_eq_true_eq]
   omega
  ·simp only [decide_eq_true_eq]
   omega
 have hex:=aj8 s ((64 * qL s:Nat):Int) (hsD s (qL s)) 200
 rw [hw _ (by omega) (by omega)] at hex
 have hev:=(BC VJ b73 _ _ _ _ _ hex (Ab (by simp only [Bool.not_eq_true',decide_eq_false_iff_not]; omega) rfl)).1
 have e0:S73 s 0 h0D=S73 s ((64 * 0:Nat):Int) (hsD s 0):=rfl
 rw [e0,BZ alv (fun q=>S73 s ((64 * q:Nat):Int) (hsD s q)) (qL s) hst hev (by unfold qL; omega)]
 -- what stands behind it
 have hs:=ahP s ((64 * qL s:Nat):Int) (hsD s (qL s)) 200
 have hin:X4 s ((64 * qL s:Nat):Int) (s.length:Int)=true:=by
  unfold X4
  simp only [Bool.and_eq_true,decide_eq_true_eq]
  omega
 have hs2:=DB VJ hs (Ab hin rfl)
 have e3:QJ s ((64 * qL s:Nat):Int) (s.length:Int)=G4 (kL s) (pcF s (qL s)):=by
  unfold QJ G4
  rw [Int.toNat_natCast,Int.toNat_natCast,List.take_length]
  apply List.ext_getElem
  ·rw [List.length_drop,List.length_map,List.length_range]; omega
  ·intro i h1 h2
   simp only [List.getElem_drop,List.getElem_map,List.getElem_range]
   unfold pcF
   rw [List.getD_eq_getElem?_getD,List.getElem?_eq_getElem (by simp at h1; omega)]
   rfl
 rw [e3] at hs2
 have hf:=akW s ((64 * qL s:Nat):Int) (hsD s (qL s)) (wD s) (pcF s (qL s)) (kL s) hk.1 hk.2
 unfold P73 at hf
 have hlast:=(Nu VJ hf (Ab (YK _ _ _ _ _ _) (Ab (PK _ _ (by simp [G4])) rfl))).1
 have e4:(p73.drop 8)=(Aw (AH Tryz.f73)).drop (7+1):=rfl
 rw [← e4,hs2]
 exact hlast
def g73:List AVal→Option (EffA × Bool)
 | [.int .i64 32,.str [],.str s]=>some (.pure (.str (oD s)),gd s)
 | _=>none
theorem XM {x:Option (AVal × HL × Nat)}{v:AVal}(h:Ea [] x=some (v,[])):x.map (·.1)=some v:=by
 unfold Ea at h
 split at h
 ·simp only [List.map_nil,Option.some.injEq,Prod.mk.injEq,and_true] at h
  subst h
  rfl
 ·cases h
theorem ahr:Ai Tryz.prog (csP (Al 73 g73)):=Bc fun args e he=>by
 unfold g73 at he
 split at he
 ·rename_i s
  simp only [Option.some.injEq,Prod.mk.injEq] at he
  obtain ⟨rfl,hg⟩:=he
  exact Ac agJ AB (by rw [gl1]; exact XM (ahC s hg)) rfl rfl
 ·cases he
theorem ajD (s:List UInt8):AL (An Tryz.prog (Al 73 g73) (At (csP (Al 73 g73)) Bn) [4] [] [] (mask 46) 200 46 [.str s] [] 1)=some (.str (oD s),[gd s]):=by kernel_rfl
def g46:List AVal→Option (EffA × Bool)
 | [.str s]=>some (.pure (.str (oD s)),gd s)
 | _=>none
theorem ad8:Ai Tryz.prog (csP (Al 46 g46)):=Bc fun args e he=>by
 unfold g46 at he
 split at he
 ·rename_i s
  simp only [Option.some.injEq,Prod.mk.injEq] at he
  obtain ⟨rfl,hg⟩:=he
  exact Ac (Af ahr (A7 _)) AB (by rw [gl1]; exact Aj A4 (ajD s) (Ab hg rfl)) rfl rfl
 ·cases he
end Go.Proofs.YtcplgmgpagekfaaGreatDoor
namespace Go.Proofs.YtcplgmgpagekfaaGreatDoor
open Go Go.Eng Go.Num Go.Bla
theorem Da (x:UInt32) (k:Nat) (hk:k < 32) (h:x.toNat * 2 ^ k < 2 ^ 32):(AD x k).toNat=x.toNat * 2 ^ k:=by
 unfold AD
 have e:Nat.ble k 31=true:=by rw [Nat.ble_eq]; omega
 rw [e]
 simp only [cond_true,UInt32.toNat_shiftLeft]
 have:(UInt32.ofNat k).toNat % 32=k:=by
  rw [UInt32.toNat_ofNat']
  omega
 rw [this,Nat.shiftLeft_eq,Nat.mod_eq_of_lt h]
theorem IH (a b i:Nat) (h:b < 2 ^ i):a * 2 ^ i ||| b=a * 2 ^ i+b:=by
 have:=Nat.shiftLeft_add_eq_or_of_lt h a
 rw [Nat.shiftLeft_eq] at this
 exact this.symm
theorem ab8 (p0 p1 p2 p3:UInt8):((((0 ||| AD p0.toUInt32 0) ||| AD p1.toUInt32 8) ||| AD p2.toUInt32 16) ||| AD p3.toUInt32 24)=(AD ((AD ((AD ((AD 0 8) ||| p3.toUInt32) 8) ||| p2.toUInt32) 8) ||| p1.toUInt32) 8) ||| p0.toUInt32:=by
 have l0:=p0.toNat_lt
 have l1:=p1.toNat_lt
 have l2:=p2.toNat_lt
 have l3:=p3.toNat_lt
 have c0:p0.toUInt32.toNat=p0.toNat:=UInt8.toNat_toUInt32 p0
 have c1:p1.toUInt32.toNat=p1.toNat:=UInt8.toNat_toUInt32 p1
 have c2:p2.toUInt32.toNat=p2.toNat:=UInt8.toNat_toUInt32 p2
 have c3:p3.toUInt32.toNat=p3.toNat:=UInt8.toNat_toUInt32 p3
 apply UInt32.toNat_inj.1
 have e0:(AD p0.toUInt32 0).toNat=p0.toNat:=by rw [Da _ 0 (by omega) (by omega),c0]; omega
 have e1:(AD p1.toUInt32 8).toNat=p1.toNat * 2 ^ 8:=by rw [Da _ 8 (by omega) (by omega),c1]
 have e2:(AD p2.toUInt32 16).toNat=p2.toNat * 2 ^ 16:=by rw [Da _ 16 (by omega) (by omega),c2]
 have e3:(AD p3.toUInt32 24).toNat=p3.toNat * 2 ^ 24:=by rw [Da _ 24 (by omega) (by omega),c3]
 have z8:(AD (0:UInt32) 8)=0:=by decide
 have f3:((AD (0:UInt32) 8) ||| p3.toUInt32).toNat=p3.toNat:=by rw [z8,UInt32.toNat_or,c3]; simp
 have g3:(AD ((AD (0:UInt32) 8) ||| p3.toUInt32) 8).toNat=p3.toNat * 2 ^ 8:=by rw [Da _ 8 (by omega) (by omega),f3]
 have f2:(AD ((AD (0:UInt32) 8) ||| p3.toUInt32) 8 ||| p2.toUInt32).toNat=p3.toNat * 2 ^ 8+p2.toNat:=by rw [UInt32.toNat_or,g3,c2,IH _ _ 8 (by omega)]
 have g2:(AD (AD ((AD (0:UInt32) 8) ||| p3.toUInt32) 8 ||| p2.toUInt32) 8).toNat=(p3.toNat * 2 ^ 8+p2.toNat) * 2 ^ 8:=by rw [Da _ 8 (by omega) (by omega),f2]
 have f1:(AD (AD ((AD (0:UInt32) 8) ||| p3.toUInt32) 8 ||| p2.toUInt32) 8 ||| p1.toUInt32).toNat=(p3.toNat * 2 ^ 8+p2.toNat) * 2 ^ 8+p1.toNat:=by rw [UInt32.toNat_or,g2,c1,IH _ _ 8 (by omega)]
 have g1:(AD (AD (AD ((AD (0:UInt32) 8) ||| p3.toUInt32) 8 ||| p2.toUInt32) 8 ||| p1.toUInt32) 8).toNat=((p3.toNat * 2 ^ 8+p2.toNat) * 2 ^ 8+p1.toNat) * 2 ^ 8:=by rw [Da _ 8 (by omega) (by omega),f1]
 rw [UInt32.toNat_or _ p0.toUInt32,g1,c0,IH _ _ 8 (by omega)]
 rw [UInt32.toNat_or,UInt32.toNat_or,UInt32.toNat_or,UInt32.toNat_or,e0,e1,e2,e3]
 have z0:(0:UInt32).toNat=0:=rfl
 rw [z0,Nat.zero_or,Nat.or_comm p0.toNat,IH _ _ 8 (by omega),Nat.or_comm _ (p2.toNat * 2 ^ 16),IH _ _ 16 (by omega),Nat.or_comm _ (p3.toNat * 2 ^ 24),IH _ _ 24 (by omega)]
 omega
theorem mWD (p p':Nat→UInt8) (i:Nat) (h:∀ j,j < 64→p j=p' j) (hi:i < 16):mW p i=mD p' i:=by
 unfold mW mD
 rw [h _ (by omega),h _ (by omega),h _ (by omega),h _ (by omega)]
 exact ab8 _ _ _ _
theorem hf1 (q:Q4) (x:UInt32):hf q x 16 20=dhF q x 16 12:=by
 have e1:hfA q x=daF q x:=(UInt32.add_assoc _ _ _).symm
 have e2:∀ y:UInt32,Uw y 16=tuD y 16:=fun y=>UInt32.or_comm _ _
 have e3:∀ y:UInt32,Uw y 20=tuD y 12:=fun y=>UInt32.or_comm _ _
 unfold hf dhF hfC dcF Go.Bla.hfD ddF
 rw [e1,e2,e3]
theorem hf2 (q:Q4) (x:UInt32):hf q x 24 25=dhF q x 8 7:=by
 have e1:hfA q x=daF q x:=(UInt32.add_assoc _ _ _).symm
 have e2:∀ y:UInt32,Uw y 24=tuD y 8:=fun y=>UInt32.or_comm _ _
 have e3:∀ y:UInt32,Uw y 25=tuD y 7:=fun y=>UInt32.or_comm _ _
 unfold hf dhF hfC dcF Go.Bla.hfD ddF
 rw [e1,e2,e3]
theorem aeD (k:Nat) (v:Nat→UInt32) (x y:UInt32):Of k v x y=O1 k v x y:=by
 unfold Of O1 aij ajK akN
 rw [hf1,hf2]
theorem YA:∀ r,r < 10→∀ j,j < 16→ord r j < 16:=by decide
theorem XK (p p':Nat→UInt8) (h:∀ j,j < 64→p j=p' j) (r:Nat) (hr:r < 10) (v:Nat→UInt32):stp (mW p) r v 8=DT (mD p') r v 8:=by
 have key:∀ k,k≤8→stp (mW p) r v k=DT (mD p') r v k:=by
  intro k
  induction k with
  | zero=>intro _; rfl
  | succ k ih =>
   intro hk
   show Ge (mW p) r k (stp (mW p) r v k)=BM (mD p') r k (DT (mD p') r v k)
   rw [ih (by omega)]
   unfold Ge BM
   rw [mWD p p' _ h (YA r hr _ (by omega)),mWD p p' _ h (YA r hr _ (by omega)),aeD]
 exact key 8 (Nat.le_refl _)
theorem Mq (p p':Nat→UInt8) (h:∀ j,j < 64→p j=p' j) (v:Nat→UInt32):∀ r,r≤10→rounds (mW p) r v=roundsD (mD p') r v
 | 0,_=>rfl
 | r+1,hr=>by
  show stp (mW p) r (rounds (mW p) r v) 8=DT (mD p') r (roundsD (mD p') r v) 8
  rw [Mq p p' h v r (by omega)]
  exact XK p p' h r (by omega) _
theorem PQ (h:Nat→UInt32) (n:UInt64) (p p':Nat→UInt8) (l:Bool) (hp:∀ j,j < 64→p j=p' j):Fj h n p l=CY h n p' l:=by
 funext i
 unfold Fj CY abd UP
 rw [Mq p p' hp _ 10 (Nat.le_refl _),UInt32.xor_assoc]
theorem aka:h0F=h0D:=by
 funext i
 unfold h0F h0D
 cases Nat.beq i 0 with
 | false=>rfl
 | true =>
  show iv 0 ^^^ ((0x01010000 ^^^ AD (UInt32.ofInt 0) 8) ^^^ UInt32.ofInt 32)=((iv 0 ^^^ 0x01010000) ^^^ AD (UInt32.ofInt 0) 8) ^^^ UInt32.ofInt 32
  decide
theorem ajU (q:Nat):UInt64.ofNat (64 * q)+64=nD q:=by
 unfold nD
 rw [Ef,UInt64.ofNat_add]
 rfl
theorem acr (s:List UInt8):∀ q,64 * q≤s.length→hsF h0F s q=hsD s q
 | 0,_=>aka
 | q+1,hq=>by
  show Fj (hsF h0F s q) (UInt64.ofNat (64 * q)+64) (pcF s q) false=CY (hsD s q) (nD q) (gB (ptD s q)) false
  rw [acr s q (by omega),ajU]
  refine PQ _ _ _ _ _ fun j hj => ?_
  unfold pcF gB ptD
  rw [List.getD_eq_getElem?_getD,List.getD_eq_getElem?_getD,List.getElem?_drop,List.getElem?_take,if_pos (by omega)]
theorem aiA (s:List UInt8) (hg:gd s=true):oF s=oD s:=by
 obtain ⟨h0,h1⟩:=TZ hg
 have hq:64 * qL s+kL s=s.length:=by unfold qL kL; omega
 unfold oF oD wF wD
 rw [acr s _ (by omega)]
 have en:nF s=UInt64.ofInt (s.length:Nat):=by
  unfold nF nq
  rw [Ef,Ef,← UInt64.ofNat_add,hq]
 rw [en]
 congr 1
 refine PQ _ _ _ _ _ fun j hj => ?_
 unfold gB G4
 rw [List.getD_eq_getElem?_getD,List.getElem?_map,List.getElem?_range hj]
 rfl
end Go.Proofs.YtcplgmgpagekfaaGreatDoor
namespace Go.Proofs.YtcplgmgpagekfaaGreatDoor
open Go Go.Eng Go.Num Go.Bla
def Ax:Fz:=⟨wF,shV ladE,shR ladE,puV ladE,puR,fun k n a s=>(Ae.seF k n a s).1,fun k n a s=>(Ae.seF k n a s).2,fun k n a s=>(Ae.opF k n a s).1,fun k n a s=>(Ae.opF k n a s).2,Ae.GA 0⟩
theorem Ys (k u:List UInt8):shV ladE k u=shV ladP k u∧shR ladE k u=shR ladP k u:=by
 unfold shV shR
 cases hk:isLen k 32
 ·simp only [Bool.false_and,cond_false,and_self]
 cases hu:isLen u 32
 ·simp only [Bool.and_false,cond_false,and_self]
 rw [Pk k hu]
 exact ⟨rfl,rfl⟩
theorem afp (k:List UInt8):puV ladE k=puV ladP k:=by
 unfold puV
 cases hk:isLen k 32
 ·simp only [cond_false]
 rw [Pk k (u:=C7) rfl]
theorem z42:Ai Tryz.prog (Ag 42 (c42 Ax)):=Ak fun args e he=>by
 unfold c42 at he
 split at he
 ·rename_i a b
  cases he
  exact aev 42 [.str a,.str b] _ rfl
 ·cases he
theorem z20:Ai Tryz.prog (Ag 20 (c20 Ax)):=Ak fun args e he=>by
 unfold c20 at he
 split at he
 ·rename_i a
  cases he
  exact ahm 20 [.str a] _ rfl
 ·cases he
theorem z44:Ai Tryz.prog (Ag 44 (c44 Ax)):=Ak fun args e he=>by
 unfold c44 at he
 split at he
 ·cases he; exact Ae.Xk _ _ _ _
 ·cases he
theorem z45:Ai Tryz.prog (Ag 45 (c45 Ax)):=Ak fun args e he=>by
 unfold c45 at he
 split at he
 ·cases he; exact Ac Ae.XL AB (Ae.Fd 0) rfl rfl
 ·cases he
theorem z50:Ai Tryz.prog (csP (Al 50 (q50 Ax))):=Bc fun args e he=>by
 unfold q50 at he
 split at he
 ·rename_i a b c s
  simp only [Option.some.injEq,Prod.mk.injEq] at he
  obtain ⟨rfl,h⟩:=he
  exact Ae.Mp a b c s (Nat.le_of_ble_eq_true h)
 ·cases he
theorem z47:Ai Tryz.prog (Ag 47 (x47 Ax)):=Ak fun args e he=>by
 unfold x47 at he
 split at he
 ·rename_i a b
  cases he
  have h:=ag2 47 [.str a,.str b] _ rfl
  show AG Tryz.prog 47 [.str a,.str b] (.pure (.tup [.str (shV ladE a b),.int .i64 (shR ladE a b)]))
  rw [(Ys a b).1,(Ys a b).2]
  exact h
 ·cases he
theorem z7:Ai Tryz.prog (Ag 7 (x7 Ax)):=Ak fun args e he=>by
 unfold x7 at he
 split at he
 ·rename_i a
  cases he
  have h:=Wl 7 [.str a] _ rfl
  show AG Tryz.prog 7 [.str a] (.pure (.tup [.str (puV ladE a),.int .i64 (puR a)]))
  rw [afp a]
  exact h
 ·cases he
theorem z48:Ai Tryz.prog (Ag 48 (x48 Ax)):=Ak fun args e he=>by
 unfold x48 at he
 split at he
 ·cases he; exact Ae.Mv _ _ _ _
 ·cases he
theorem z49:Ai Tryz.prog (Ag 49 (x49 Ax)):=Ak fun args e he=>by
 unfold x49 at he
 split at he
 ·cases he; exact Ac Ae.XL AB (Ae.D6 0) rfl rfl
 ·cases he
theorem z51:Ai Tryz.prog (csP (Al 51 (y51 Ax))):=Bc fun args e he=>by
 unfold y51 at he
 split at he
 ·rename_i a b c s
  simp only [Option.some.injEq,Prod.mk.injEq] at he
  obtain ⟨rfl,h⟩:=he
  exact Ae.I8 a b c s (Nat.le_of_ble_eq_true h)
 ·cases he
theorem z40:Ai Tryz.prog (csP (Al 40 (q40 Ax.w))):=afS
theorem z46:Ai Tryz.prog (csP (Al 46 (e46 Ax.w))):=aeA fun s hg=>by
 have h:=ad8 46 [.str s] (.pure (.str (oD s))) (by
  unfold csP Al g46
  simp only [Nat.beq_refl,hg]
  rfl)
 have e:Bq (Ax.w s)=oD s:=aiA s hg
 rw [e]
 exact h
theorem z43:Ai Tryz.prog (csP (Al 43 (q43 Ax.w))):=ae8 (aha z40)
theorem z31:Ai Tryz.prog (csP (Al 31 (e31 Ax.w))):=af9 (adh z46)
theorem zN:Ai Tryz.prog (csN Ax):=Af (AN z40 (AN z43 z50)) (Af z42 (Af z20 (Af z44 z45)))
theorem z21:Ai Tryz.prog (Ag 21 (c21 Ax)):=Ak fun args e he=>by
 unfold c21 at he
 split at he
 ·cases he; exact Dd zN AB rfl
 ·cases he
theorem zN2:Ai Tryz.prog (HF Ax):=Af zN z21
theorem z22:Ai Tryz.prog (Ag 22 (c22 Ax)):=Ak fun args e he=>by
 unfold c22 at he
 split at he
 ·cases he; exact Dd zN AB rfl
 ·cases he
theorem z23:Ai Tryz.prog (Ag 23 (c23 Ax)):=Ak fun args e he=>by
 unfold c23 at he
 split at he
 ·cases he; exact Dd zN2 AB rfl
 ·cases he
theorem z28:Ai Tryz.prog (Ag 28 (c28 Ax)):=Ak fun args e he=>by
 unfold c28 at he
 split at he
 ·cases he; exact Dd zN2 AB rfl
 ·cases he
theorem z30:Ai Tryz.prog (Ag 30 (c30 Ax)):=Ak fun args e he=>by
 unfold c30 at he
 split at he
 ·cases he; exact Dd zN2 AB rfl
 ·cases he
theorem zN3:Ai Tryz.prog (ajW Ax):=Af zN2 (Af z22 (Af z23 (Af z28 z30)))
theorem zN4:Ai Tryz.prog (FT Ax):=Af (AN (ahk zN2) (AN z40 (AN z43 z50))) zN3
theorem zD0:Ai Tryz.prog (Yd Ax):=Af z47 (Af z7 (Af z48 z49))
theorem zD:Ai Tryz.prog (csD Ax):=Af (AN z46 (AN z31 z51)) zD0
theorem zD1:Ai Tryz.prog (JP Ax):=Af (AN (Zi zD) (AN z46 (AN z31 z51))) zD0
theorem zX:Ai Tryz.prog (csX Ax):=aeS zD zD1 z31 zD0
theorem aeW {k:List UInt8}(h:k.length=32):isLen k 32=true:=BK.2 h
theorem aeY (a:L8):(puV ladE a).length≤32:=by
 unfold puV
 cases isLen a 32
 ·simp
 ·simp only [cond_true]
  exact Nat.le_of_eq (HD a C7)
theorem af3 (a b:L8):(shV ladE a b).length≤32:=by
 unfold shV
 cases (isLen a 32 && isLen b 32)
 ·simp
 ·simp only [cond_true]
  cases ladE a b == Dq
  ·exact Nat.le_of_eq (HD a b)
  ·simp
theorem adA (k n a t:L8):((Ae.seF k n a t).1).length≤t.length+16:=by
 unfold Ae.seF
 cases hm:Cha.may k n with
 | false=>simp
 | true =>
  simp only [cond_true]
  split
  ·simp
  ·rw [List.length_append,Ae.Hq,Ae.DW hm]; exact Nat.le_refl _
theorem ahf:(Ae.GA 0).length=12:=rfl
theorem TF {k:L8}(h:k.length=32):Cha.may k (Ae.GA 0)=true:=Go.Cha.may_true.2 ⟨h,ahf⟩
theorem okZ:OkY Ax where
 hpu:=aeY
 hsh:=af3
 hsv:=adA
 hse:=fun k a t hk ha ht=>by
  show (Ae.seF k (Ae.GA 0) a t).2=0
  unfold Ae.seF
  rw [TF hk,cond_true,if_neg (by omega)]
end Go.Proofs.YtcplgmgpagekfaaGreatDoor
namespace Go.Proofs.YtcplgmgpagekfaaGreatDoor
open Go Go.Eng Go.Num Go.Bla
structure OkR (φ:Fz):Prop extends OkY φ where
 hpl:∀ k,k.length=32→(φ.pu k).length=32
 hso:∀ k a t,k.length=32→a.length=32→t.length≤5000→φ.ov k φ.no a (φ.sv k φ.no a t)=t∧φ.oe k φ.no a (φ.sv k φ.no a t)=0∧(φ.sv k φ.no a t).length=t.length+16
def DH (φ:Fz) (a b:L8):Prop:=φ.sr a (φ.pu b)=0∧φ.sr b (φ.pu a)=0∧φ.sh a (φ.pu b)=φ.sh b (φ.pu a)
theorem afh (x y:L8):sl (x++y) 0 (x.length:Nat)=x:=by
 unfold sl
 rw [Int.toNat_natCast,List.take_left]
 rfl
theorem aje (x y z:L8):sl ((x++y)++z) (x.length:Nat) ((x.length+y.length:Nat):Int)=y:=by
 unfold sl
 rw [Int.toNat_natCast,Int.toNat_natCast,← List.length_append,List.take_left,List.drop_left]
theorem ajl (x y:L8):sl (x++y) (x.length:Nat) ((x++y).length:Nat)=y:=by
 unfold sl
 rw [Int.toNat_natCast,Int.toNat_natCast,List.take_length,List.drop_left]
section
variable {φ:Fz}(hφ:OkR φ)
include hφ
omit hφ in
theorem Gn {a b:L8}(h:DH φ a b) (s:St):CZ φ a (φ.pu b) s=CZ φ b (φ.pu a) s:=by
 obtain ⟨h1,h3,h2⟩:=h
 unfold CZ
 rw [h1,h3,h2]
theorem Gk {s:St}{t:L8}(hi:Inv s) (hf:s.f=0) (hk:s.k.length=32) (ht:t.length≤5000):opE φ (svT φ t s) s=0∧opX φ (svT φ t s) s=t∧FK φ (svT φ t s) s=GF φ t s∧(svT φ t s).length=t.length+16:=by
 obtain ⟨h1,h2,h3⟩:=hφ.hso s.k s.h t hk hi.1 ht
 have e:opE φ (svT φ t s) s=0:=h2
 refine ⟨e,?_,?_,h3⟩
 ·unfold opX
  rw [e]
  exact h1
 ·unfold FK GF
  rw [e]
  cases s
  simp only at hf
  subst hf
  rfl
omit hφ in
theorem MB {a:L8}(h:a.length=32):neB a 32=false:=by
 unfold neB
 rw [h]
 rfl
omit hφ in
theorem FC {a:L8}(h:a.length≤4096):gtB a 4096=false:=by
 unfold gtB
 simp
 omega
omit hφ in
theorem Qb {a:L8}(h:a.length≤4192):gtB a 4192=false:=by
 unfold gtB
 simp
 omega
omit hφ in
theorem Xo {a:L8}(h:a.length≤4144):gtB a 4144=false:=by
 unfold gtB
 simp
 omega
theorem WD {a b e p t:L8}(ha:a.length=32) (hb:b.length=32) (he:e.length=32) (hp:p.length≤4096) (ht:t.length≤4096) (heb:DH φ e b) (hab:DH φ a b) :
  bgD φ a (φ.pu b) e p t=.tup [hfD (z5 φ a (φ.pu b) e p t) a e (φ.pu b),.str (zm φ a (φ.pu b) e p t),.int .i64 0]:=by
 unfold bgD
 rw [MB ha,MB (hφ.hpl b hb),MB he,FC hp,FC ht,heb.1,hab.1]
 rfl
theorem Od {a b e p t:L8}(ha:a.length=32) (hb:b.length=32) (he:e.length=32) (hp:p.length≤4096) (ht:t.length≤4096) (heb:DH φ e b) (hab:DH φ a b) :
  (zm φ a (φ.pu b) e p t).length=96+t.length∧rdD φ b p (zm φ a (φ.pu b) e p t)=.tup [otD (z5 φ a (φ.pu b) e p t) (φ.pu a) (φ.pu e),.agg (AC (φ.pu a) t [] [] []),.int .i64 0]:=by
 have pe:=hφ.hpl e he
 have pa:=hφ.hpl a ha
 have i0:=Gf φ p (φ.pu b)
 have i2:Inv (z2 φ (φ.pu b) e p):=Bj _ _ (Bm _ i0)
 have k2:(z2 φ (φ.pu b) e p).k.length=32:=Lv heb.1
 have s1:=Gk hφ i2 rfl k2 (t:=φ.pu a) (by omega)
 have i4:Inv (z4 φ a (φ.pu b) e p):=Bj _ _ (DD _ i2)
 have k4:(z4 φ a (φ.pu b) e p).k.length=32:=Lv hab.1
 have s2:=Gk hφ i4 rfl k4 (t:=t) (by omega)
 have l1:=s1.2.2.2
 have l2:=s2.2.2.2
 have hm:zm φ a (φ.pu b) e p t=(φ.pu e++svT φ (φ.pu a) (z2 φ (φ.pu b) e p))++svT φ t (z4 φ a (φ.pu b) e p):=rfl
 have hl:(zm φ a (φ.pu b) e p t).length=96+t.length:=by
  rw [hm,List.length_append,List.length_append]
  omega
 refine ⟨hl,?_⟩
 have e1:sl (zm φ a (φ.pu b) e p t) 0 32=φ.pu e:=by
  have:=afh (φ.pu e) (svT φ (φ.pu a) (z2 φ (φ.pu b) e p)++svT φ t (z4 φ a (φ.pu b) e p))
  rw [pe,← List.append_assoc] at this
  exact this
 have e2:sl (zm φ a (φ.pu b) e p t) 32 80=svT φ (φ.pu a) (z2 φ (φ.pu b) e p):=by
  have:=aje (φ.pu e) (svT φ (φ.pu a) (z2 φ (φ.pu b) e p)) (svT φ t (z4 φ a (φ.pu b) e p))
  rw [pe,l1,pa] at this
  exact this
 have e3:sl (zm φ a (φ.pu b) e p t) 80 ((zm φ a (φ.pu b) e p t).length:Int)=svT φ t (z4 φ a (φ.pu b) e p):=by
  have:=ajl (φ.pu e++svT φ (φ.pu a) (z2 φ (φ.pu b) e p)) (svT φ t (z4 φ a (φ.pu b) e p))
  have h80:(φ.pu e++svT φ (φ.pu a) (z2 φ (φ.pu b) e p)).length=80:=by rw [List.length_append]; omega
  rw [h80] at this
  exact this
 have w1e:w1 φ b p (zm φ a (φ.pu b) e p t)=z1 φ (φ.pu b) e p:=by unfold w1 z1; rw [e1]
 have w2e:w2 φ b p (zm φ a (φ.pu b) e p t)=z2 φ (φ.pu b) e p:=by unfold w2 z2; rw [w1e,e1]; exact (Gn heb _).symm
 have wse:ws φ b p (zm φ a (φ.pu b) e p t)=φ.pu a:=by unfold ws; rw [w2e,e2]; exact s1.2.1
 have w3e:w3 φ b p (zm φ a (φ.pu b) e p t)=z3 φ a (φ.pu b) e p:=by unfold w3 z3; rw [w2e,e2]; exact s1.2.2.1
 have w4e:w4 φ b p (zm φ a (φ.pu b) e p t)=z4 φ a (φ.pu b) e p:=by unfold w4 z4; rw [w3e,wse]; exact (Gn hab _).symm
 have wte:wt φ b p (zm φ a (φ.pu b) e p t)=t:=by unfold wt; rw [w4e,e3]; exact s2.2.1
 have w5e:w5 φ b p (zm φ a (φ.pu b) e p t)=z5 φ a (φ.pu b) e p t:=by unfold w5 z5; rw [w4e,e3]; exact s2.2.2.1
 unfold rdD
 have n1:ltB2 (zm φ a (φ.pu b) e p t) 96=false:=by unfold ltB2; rw [hl]; simp; omega
 rw [wse,w2e,w4e,wte,w5e,e1,e2,e3,MB hb,FC hp,Qb (by omega),n1,heb.2.1,hab.2.1,s1.1,s2.1]
 rfl
theorem VF {s:St}(hi:Inv s) (hf:s.f=0){a e f t:L8}(ha:a.length=32) (he:e.length=32) (hff:f.length=32) (ht:t.length≤4096) (hfe:DH φ f e) (hfa:DH φ f a) :
  ∃ (m c0 c1 h:L8),m.length=48+t.length∧c0=kc0 φ.w (j4 φ s (φ.pu a) (φ.pu e) f t).ck []∧c1=kc1 φ.w (j4 φ s (φ.pu a) (φ.pu e) f t).ck []∧h=(j4 φ s (φ.pu a) (φ.pu e) f t).h ∧
   anD φ s (φ.pu a) (φ.pu e) f t=.tup [.str m,.agg (AC (φ.pu a) [] c1 c0 h),.int .i64 0]∧∀ o,fiD φ s a e o m=.tup [.agg (AC o t c0 c1 h),.int .i64 0]:=by
 have pf:=hφ.hpl f hff
 have k0:Inv ⟨s.h,s.ck,s.k,0⟩:=hi
 have ii2:Inv (j2 φ s (φ.pu e) f):=Bj _ _ (Bm _ k0)
 have ii3:Inv (j3 φ s (φ.pu a) (φ.pu e) f):=Bj _ _ ii2
 have k3:(j3 φ s (φ.pu a) (φ.pu e) f).k.length=32:=Lv hfa.1
 have s1:=Gk hφ ii3 rfl k3 (t:=t) (by omega)
 have l1:=s1.2.2.2
 refine ⟨φ.pu f++svT φ t (j3 φ s (φ.pu a) (φ.pu e) f),_,_,_,by rw [List.length_append]; omega,rfl,rfl,rfl,?_,fun o => ?_⟩
 ·unfold anD
  rw [MB hff,FC ht,hfe.1,hfa.1]
  rfl
 ·generalize hm:φ.pu f++svT φ t (j3 φ s (φ.pu a) (φ.pu e) f)=m
  have hl:m.length=48+t.length:=by rw [← hm,List.length_append]; omega
  have e1:sl m 0 32=φ.pu f:=by
   have:=afh (φ.pu f) (svT φ t (j3 φ s (φ.pu a) (φ.pu e) f))
   rw [pf,hm] at this
   exact this
  have e2:sl m 32 (m.length:Int)=svT φ t (j3 φ s (φ.pu a) (φ.pu e) f):=by
   have:=ajl (φ.pu f) (svT φ t (j3 φ s (φ.pu a) (φ.pu e) f))
   rw [pf,hm] at this
   exact this
  have i1e:i1 φ s m=j1 φ s f:=by unfold i1 j1; rw [e1]
  have i2e:i2 φ s e m=j2 φ s (φ.pu e) f:=by unfold i2 j2; rw [i1e,e1]; exact (Gn hfe _).symm
  have i3e:i3 φ s a e m=j3 φ s (φ.pu a) (φ.pu e) f:=by unfold i3 j3; rw [i2e,e1]; exact (Gn hfa _).symm
  have i4e:i4 φ s a e m=j4 φ s (φ.pu a) (φ.pu e) f t:=by unfold i4 j4; rw [i3e,e2]; exact s1.2.2.1
  have ice:ic φ s a e m=t:=by unfold ic; rw [i3e,e2]; exact s1.2.1
  unfold fiD
  have n1:ltB2 m 48=false:=by unfold ltB2; rw [hl]; simp; omega
  rw [i3e,i4e,ice,e1,e2,Xo (by omega),n1,hfe.2.1,hfa.2.1,s1.1]
  rfl
end
end Go.Proofs.YtcplgmgpagekfaaGreatDoor
namespace Go.Proofs.YtcplgmgpagekfaaGreatDoor
open Go Go.Eng Go.Num Go.Bla
def kyL (c:UInt8):L8:=List.replicate 31 0++[c]
noncomputable def ae2 (φ:Fz):CS:=At (Ag 17 c17) (At (Ag 8 (c8 φ)) (At (Ag 11 (c11 φ)) (At (Ag 13 (c13 φ)) (At (Ag 15 (c15 φ)) (Ag 7 (x7 φ))))))
noncomputable def ajp (φ:Fz) (s:St) (m r c0 c1 h:L8):List Bool:=[!(EN c1 c0),EN h h,EN c0 c0,EN c1 c1,eI (c1.length:Int) 32,eI (r.length:Int) 50,oS (fiM φ [.ptr 145 0,.str r]) 761 (hA [(145,stC s++exC 2 (kyL 97) (kyL 101) (φ.pu (kyL 98))),(225,stC s++exC 1 (φ.pu (kyL 97)) (φ.pu (kyL 101)) []),(265,AC (φ.pu (kyL 97)) [97,98,99] [] [] []),(353,AE),(713,AC (φ.pu (kyL 97)) [] c1 c0 h)]) (.tup [.agg (AC (φ.pu (kyL 98)) [120,121] c0 c1 h),.int .i64 0]),oS (anM φ [.ptr 225 0,.str (kyL 102),.str [120,121]]) 673 (hA [(145,stC s++exC 2 (kyL 97) (kyL 101) (φ.pu (kyL 98))),(225,stC s++exC 1 (φ.pu (kyL 97)) (φ.pu (kyL 101)) []),(265,AC (φ.pu (kyL 97)) [97,98,99] [] [] []),(353,AE)]) (.tup [.str r,.agg (AC (φ.pu (kyL 97)) [] c1 c0 h),.int .i64 0]),!(!(EN (φ.pu (kyL 97)) (φ.pu (kyL 97)))),!(neI (m.length:Int) 99),oS (rdE φ (kyL 98) [113] m) 313 (hA [(145,stC s++exC 2 (kyL 97) (kyL 101) (φ.pu (kyL 98))),(225,stC s++exC 1 (φ.pu (kyL 97)) (φ.pu (kyL 101)) []),(265,AC (φ.pu (kyL 97)) [97,98,99] [] [] [])]) (.tup [.nilPtr,.agg AE,.int .i64 100]),oB (rdE φ (kyL 98) [112] m) 225 (hA [(145,stC s++exC 2 (kyL 97) (kyL 101) (φ.pu (kyL 98)))]) (.tup [.ptr 225 0,.agg (AC (φ.pu (kyL 97)) [97,98,99] [] [] []),.int .i64 0]) (hA [(145,stC s++exC 2 (kyL 97) (kyL 101) (φ.pu (kyL 98))),(225,stC s++exC 1 (φ.pu (kyL 97)) (φ.pu (kyL 101)) [])]),oB (bgE φ (kyL 97) (φ.pu (kyL 98)) (kyL 101) [112] [97,98,99]) 145 (hA []) (.tup [.ptr 145 0,.str m,.int .i64 0]) (hA [(145,stC s++exC 2 (kyL 97) (kyL 101) (φ.pu (kyL 98)))])]
theorem l6 (φ:Fz) (s:St) (m r c0 c1 h:L8):AL (An Tryz.prog AP (ae2 φ) [68,74,107,118,125,132,139,146,300033,300040,300047,300088,300095] [false,false,true,true,true,true,true,true] [.tup [.ptr 145 0,.str m,.int .i64 0],.tup [.ptr 145 0,.agg (stC s++exC 2 (kyL 97) (kyL 101) (φ.pu (kyL 98)))],.tup [.ptr 225 0,.agg (AC (φ.pu (kyL 97)) [97,98,99] [] [] []),.int .i64 0],.tup [.ptr 225 0,.agg (stC s++exC 1 (φ.pu (kyL 97)) (φ.pu (kyL 101)) [])],.tup [.nilPtr,.agg AE,.int .i64 100],.tup [],.tup [.str r,.agg (AC (φ.pu (kyL 97)) [] c1 c0 h),.int .i64 0],.tup [.ptr 225 0,.agg (stC s++exC 1 (φ.pu (kyL 97)) (φ.pu (kyL 101)) [])],.tup [.agg (AC (φ.pu (kyL 98)) [120,121] c0 c1 h),.int .i64 0],.tup [.ptr 145 0,.agg (stC s++exC 2 (kyL 97) (kyL 101) (φ.pu (kyL 98)))]] (mask 6) 200 6 [] H0 1)=some (.bool true,ajp φ s m r c0 c1 h):=by kernel_rfl
end Go.Proofs.YtcplgmgpagekfaaGreatDoor
namespace Go.Proofs.YtcplgmgpagekfaaGreatDoor
open Go Go.Eng Go.Num Go.Bla
theorem afG (r:L8):EN r r=true:=by unfold EN; simp
theorem We {s s':St}(h:dL s=dL s') (hf:s.f=s'.f):s=s':=by
 cases s
 cases s'
 unfold dL at h
 simp only [List.cons.injEq,AVal.str.injEq,and_true] at h
 simp only at hf
 obtain ⟨rfl,rfl,rfl⟩:=h
 rw [hf]
section
variable {φ:Fz}(hφ:OkR φ)
include hφ
theorem abb {a b e p t:L8}(ha:a.length=32) (hb:b.length=32) (he:e.length=32) (hp:p.length≤4096) (ht:t.length≤4096) (heb:DH φ e b) (hab:DH φ a b) :
  Inv (z5 φ a (φ.pu b) e p t)∧bgE φ a (φ.pu b) e p t=mkT 0 Bb (stC (z5 φ a (φ.pu b) e p t)++exC 2 a e (φ.pu b)) (fun n=>.tup [.ptr n 0,.str (zm φ a (φ.pu b) e p t),.int .i64 0]):=by
 have h:=WD hφ ha hb he hp ht heb hab
 rcases begin_cases hφ.toOkY a (φ.pu b) e p t with ⟨c,hc,_,hd⟩ | ⟨s,m,hi,hf,_,h1,hd⟩
 ·rw [h] at hd
  simp only [AVal.tup.injEq,List.cons.injEq,AVal.int.injEq,true_and,and_true] at hd
  exact absurd hd.2.2.symm hc
 ·rw [h] at hd
  unfold hfD at hd
  simp only [AVal.tup.injEq,List.cons.injEq,AVal.agg.injEq,AVal.str.injEq,and_true] at hd
  have e1:z5 φ a (φ.pu b) e p t=s:=We (List.append_cancel_right hd.1) (by rw [hf]; rfl)
  rw [e1,hd.2]
  exact ⟨hi,h1⟩
theorem adU {a b e p t:L8}(ha:a.length=32) (hb:b.length=32) (he:e.length=32) (hp:p.length≤4096) (ht:t.length≤4096) (heb:DH φ e b) (hab:DH φ a b) :
  rdE φ b p (zm φ a (φ.pu b) e p t)=mkT 0 Bb (stC (z5 φ a (φ.pu b) e p t)++exC 1 (φ.pu a) (φ.pu e) []) (fun n=>.tup [.ptr n 0,.agg (AC (φ.pu a) t [] [] []),.int .i64 0]):=by
 have h:=(Od hφ ha hb he hp ht heb hab).2
 rcases read_cases (φ:=φ) b p (zm φ a (φ.pu b) e p t) with ⟨c,hc,_,hd⟩ | ⟨s,sa,ep,pa,hi,hf,_,h1,hd⟩
 ·rw [h] at hd
  simp only [AVal.tup.injEq,List.cons.injEq,AVal.int.injEq,true_and,and_true] at hd
  exact absurd hd.2.2.symm hc
 ·rw [h] at hd
  unfold otD AC at hd
  simp only [AVal.tup.injEq,List.cons.injEq,AVal.agg.injEq,AVal.str.injEq,and_true] at hd
  obtain ⟨h2,h3,h4⟩:=hd
  have h5:=List.append_inj h2 rfl
  simp only [List.cons.injEq,AVal.str.injEq,and_true] at h5
  have e1:z5 φ a (φ.pu b) e p t=s:=We h5.1 (by rw [hf]; rfl)
  rw [h1,← e1,← h5.2.1,← h5.2.2,← h4]
theorem adL (heb:DH φ (kyL 101) (kyL 98)) (hab:DH φ (kyL 97) (kyL 98)) (hfe:DH φ (kyL 102) (kyL 101)) (hfa:DH φ (kyL 102) (kyL 97)) (hq:rdD φ (kyL 98) [113] (zm φ (kyL 97) (φ.pu (kyL 98)) (kyL 101) [112] [97,98,99])=.tup [ot0,.agg AE,.int .i64 100])
  (hs:kc1 φ.w (j4 φ (z5 φ (kyL 97) (φ.pu (kyL 98)) (kyL 101) [112] [97,98,99]) (φ.pu (kyL 97)) (φ.pu (kyL 101)) (kyL 102) [120,121]).ck [] ≠ kc0 φ.w (j4 φ (z5 φ (kyL 97) (φ.pu (kyL 98)) (kyL 101) [112] [97,98,99]) (φ.pu (kyL 97)) (φ.pu (kyL 101)) (kyL 102) [120,121]).ck []) :
  (Au Tryz.prog (ae2 φ) (mask 6) 200 6 [] H0 1).map (·.1)=some (.bool true):=by
 have la:(kyL 97).length=32:=rfl
 have lb:(kyL 98).length=32:=rfl
 have le:(kyL 101).length=32:=rfl
 have lf:(kyL 102).length=32:=rfl
 obtain ⟨hi,hb⟩:=abb hφ la lb le (p:=[112]) (t:=[97,98,99]) (by decide) (by decide) heb hab
 have hml:=(Od hφ la lb le (p:=[112]) (t:=[97,98,99]) (by decide) (by decide) heb hab).1
 have hr:=adU hφ la lb le (p:=[112]) (t:=[97,98,99]) (by decide) (by decide) heb hab
 have hq2:rdE φ (kyL 98) [113] (zm φ (kyL 97) (φ.pu (kyL 98)) (kyL 101) [112] [97,98,99])=lkE (.tup [.nilPtr,.agg AE,.int .i64 100]):=by
  rcases read_cases (φ:=φ) (kyL 98) [113] (zm φ (kyL 97) (φ.pu (kyL 98)) (kyL 101) [112] [97,98,99]) with ⟨c,hc,h1,hd⟩ | ⟨s,sa,ep,pa,_,_,_,h1,hd⟩
  ·rw [hq] at hd
   simp only [AVal.tup.injEq,List.cons.injEq,AVal.int.injEq,true_and,and_true] at hd
   rw [h1,← hd]
  ·rw [hq] at hd
   simp only [AVal.tup.injEq,List.cons.injEq,AVal.int.injEq,true_and,and_true] at hd
   exact absurd hd.2.2 (by decide)
 generalize hS:z5 φ (kyL 97) (φ.pu (kyL 98)) (kyL 101) [112] [97,98,99]=S at hi hb hr hs
 have hSf:S.f=0:=by rw [← hS]; rfl
 generalize zm φ (kyL 97) (φ.pu (kyL 98)) (kyL 101) [112] [97,98,99]=m at hml hb hr hq2
 obtain ⟨r,c0,c1,h,hrl,e0,e1,e2,had,hfd⟩:=VF hφ hi hSf la le lf (t:=[120,121]) (by decide) hfe hfa
 have han:anV φ S (φ.pu (kyL 97)) (φ.pu (kyL 101)) (kyL 102) [120,121]=.tup [.str r,.agg (AC (φ.pu (kyL 97)) [] c1 c0 h),.int .i64 0]:=by rw [Rp hφ.toOkY hi hSf,had]
 have hfi:fiV φ S (kyL 97) (kyL 101) (φ.pu (kyL 98)) r=.tup [.agg (AC (φ.pu (kyL 98)) [120,121] c0 c1 h),.int .i64 0]:=by rw [Kn hi hSf,hfd]
 have hc1l:c1.length=32:=by rw [e1]; exact Cx _
 have hne:(!(EN c1 c0))=true:=by
  rw [← e0,← e1] at hs
  unfold EN
  simpa using hs
 exact Aj (Ao _) (l6 φ S m r c0 c1 h) (Ab hne (Ab (afG _) (Ab (afG _) (Ab (afG _) (Ab (by rw [hc1l]; rfl) (Ab (by rw [hrl]; rfl) (Ab (fiB hφ.toOkZ hi rfl rfl rfl hfi) (Ab (anB hφ.toOkZ hi rfl rfl rfl han) (Ab (Oc _) (Ab (by rw [hml]; rfl) (Ab (lkB hq2 rfl) (Ab (mkB hr rfl rfl rfl) (Ab (mkB hb rfl rfl rfl) rfl)))))))))))))
end
end Go.Proofs.YtcplgmgpagekfaaGreatDoor
namespace Go.Proofs.YtcplgmgpagekfaaGreatDoor
open Go Go.Eng Go.Num Go.Bla
theorem Xe {k n a s:List UInt8}(hm:Cha.may k n=true) (ha:a.length≤65536) (hs:s.length≤65536):Ae.seF k n a s=(Ae.ct k n s++Ae.Dr k n a (Ae.ct k n s),0):=by
 unfold Ae.seF
 rw [hm,cond_true,if_neg (by omega)]
theorem OJ {k n a c t:List UInt8}(hm:Cha.may k n=true) (ha:a.length≤65536) (hc:c.length≤65536) (ht:t.length=16):Ae.opF k n a (c++t)=if Ae.Dr k n a c=t then (Ae.ct k n c,0) else ([],100):=by
 unfold Ae.opF
 have hl:(c++t).length=c.length+16:=by rw [List.length_append,ht]
 rw [hm,cond_true,hl,if_neg (by omega),if_neg (by omega),Nat.add_sub_cancel,List.take_left,List.drop_left]
theorem Ye (k n s:List UInt8):Ae.ct k n (Ae.ct k n s)=s:=Cha.YO k n 1 s
theorem ae0 {k n a s:List UInt8}(hm:Cha.may k n=true) (ha:a.length≤65536) (hs:s.length≤65536):Ae.opF k n a (Ae.ct k n s++Ae.Dr k n a (Ae.ct k n s))=(s,0):=by
 rw [OJ hm ha (by rw [Ae.Hq]; exact hs) (Ae.DW hm),if_pos rfl,Ye]
theorem okR:OkR Ax where
 toOkY:=okZ
 hpl:=fun k h=>by
  show (puV ladE k).length=32
  unfold puV
  rw [aeW h]
  exact HD k C7
 hso:=fun k a t hk ha ht=>by
  show (Ae.opF k (Ae.GA 0) a (Ae.seF k (Ae.GA 0) a t).1).1=t∧(Ae.opF k (Ae.GA 0) a (Ae.seF k (Ae.GA 0) a t).1).2=0∧((Ae.seF k (Ae.GA 0) a t).1).length=t.length+16
  have hm:=TF hk
  rw [Xe hm (by omega) (by omega)]
  simp only
  rw [ae0 hm (by omega) (by omega)]
  exact ⟨rfl,rfl,by rw [List.length_append,Ae.Hq,Ae.DW hm]⟩
end Go.Proofs.YtcplgmgpagekfaaGreatDoor
namespace Go.Proofs.YtcplgmgpagekfaaGreatDoor
open Go Go.Eng Go.Num Go.Bla
def vPF:L8:=[122,151,182,89,45,177,23,238,3,113,134,17,37,214,136,246,209,169,59,87,125,4,186,154,7,92,197,20,23,117,1,37]
def vC0:L8:=[187,234,2,43,148,140,243,188,88,87,215,8,4,34,145,121,225,17,107,196,12,184,204,7,72,53,52,156,70,75,202,54]
def vPA:L8:=[25,60,77,103,59,0,42,221,148,203,36,3,232,147,223,114,73,166,100,172,210,123,165,125,210,35,39,239,153,207,163,36]
def vPB:L8:=[79,27,96,151,118,98,90,116,181,78,149,199,95,183,95,149,127,246,209,76,9,226,24,247,86,158,8,170,51,97,144,8]
def vPE:L8:=[76,185,251,227,249,75,208,125,153,88,205,209,164,41,137,33,21,255,84,111,126,59,171,197,185,217,51,138,66,76,104,75]
def vX1:L8:=[8,73,234,88,45,34,114,81,41,199,116,4,222,241,35,90,51,231,78,155,198,119,81,61,21,66,249,137,225,18,84,62]
def vX2:L8:=[25,156,6,225,163,41,76,124,93,239,67,202,62,33,172,74,126,61,159,248,35,165,6,54,58,170,248,50,3,211,101,101]
def vX3:L8:=[118,218,153,197,230,28,188,154,18,189,12,213,27,226,213,116,191,31,23,87,46,82,51,222,85,127,170,38,174,56,39,69]
def vX4:L8:=[107,105,251,172,237,35,90,192,20,38,20,133,206,250,196,65,167,117,135,255,160,171,57,30,94,156,16,222,117,80,44,92]
def vK1:L8:=[45,173,220,235,183,206,125,69,122,170,130,7,105,165,60,190,18,162,171,19,2,94,130,161,83,84,134,111,237,7,93,70]
def vC1:L8:=[143,229,75,56,63,207,41,25,28,112,30,91,85,98,38,204,209,123,114,101,227,85,5,95,66,83,84,126,222,27,235,163]
def vC2:L8:=[96,157,8,103,203,24,214,52,86,232,125,157,98,84,75,222,218,190,144,87,222,217,149,27,50,41,60,254,253,58,84,102]
def vC3:L8:=[39,164,111,139,204,152,194,218,174,108,97,111,90,25,14,44,41,129,73,135,246,146,90,0,211,171,174,60,213,157,77,203]
def vC4:L8:=[214,64,249,90,109,63,175,24,230,226,181,15,133,56,221,218,28,155,124,104,215,52,90,73,15,172,116,114,2,56,216,49]
def vS0:L8:=[115,36,65,180,23,80,192,76,126,14,59,226,203,66,214,244,232,80,240,184,72,200,34,198,145,215,230,81,221,202,144,101]
def vS1:L8:=[142,128,23,199,31,174,107,85,45,177,79,154,75,69,42,68,100,200,32,228,81,210,84,199,110,122,11,152,100,215,201,254]
def vHP:L8:=[6,239,145,85,31,50,220,196,185,97,81,166,238,4,177,41,225,21,20,59,184,0,58,239,160,19,211,76,67,118,170,192]
def vHQ:L8:=[47,181,222,28,131,35,5,143,60,145,11,159,87,203,190,209,147,58,63,167,115,4,236,220,68,31,55,141,205,198,79,157]
def vB0:L8:=[41,150,18,155,193,10,71,61,20,138,219,12,154,204,93,182,30,161,14,91,101,162,119,174,176,239,106,83,128,91,44,206,161,207,180,154,149,66,202,23,115,86,236,156,99,36,175,213,11,176,249,142,247,119,83,70,75,62,255,155,45,135,22,191]
def vCt:L8:=[198,128,44,247,7,101,173,251,10,202,183,85,77,20,11,241,103,9,107,98,106,47,108,122,141,99,241,155,255,145,40,165]
def vTP:L8:=[251,186,41,28,123,172,90,28,47,29,130,65,13,150,4,55]
def vTQ:L8:=[129,124,187,192,246,74,171,44,255,154,220,22,142,255,45,230]
def ahE:L8:=[149,66,126,232,213,196,184,50,129,67,232,213,223,222,111,168,230,1,16,61,223,191,26,120,203,210,59,59,151,57,231,4]
def ahG:L8:=[135,172,214,70,40,75,63,72,153,173,140,69,71,118,120,48,69,245,159,216,142,8,76,176,58,40,11,226,52,126,253,250]
def akJ:L8:=[74,100,185,144,255,206,147,208,245,60,171,64,170,142,40,125,20,83,219,37,251,65,159,157,221,196,220,19,83,117,90,13]
def ajP:L8:=[15,144,203,178,67,157,144,41,202,178,143,179,56,111,12,154,31,143,118,211,155,224,120,255,204,209,158,74,222,55,144,62]
theorem CC {k u L:L8}{n m:Nat}(hu:isLen u 32=true) (hn:leNat u=n) (hlt:n < Pq) (hm:Dn (Fa k n)=m) (hL:leNat L=m) (hl:L.length=32):ladE k u=L:=
 Jh (by rw [HD,hl]) ((aau k hu hn hlt hm).trans hL.symm)
theorem qPA:Dn (Fa (kyL 97) 9)=16572691432107831290236438983220704641597839740724002177525024145463529258009:=by kernel_rfl
theorem lPA:ladE (kyL 97) C7=vPA:=CC rfl Ip (by decide) qPA (by decide) rfl
theorem qPB:Dn (Fa (kyL 98) 9)=3873599628253772194686510826457445042224408612751331329672488392857300769615:=by kernel_rfl
theorem lPB:ladE (kyL 98) C7=vPB:=CC rfl Ip (by decide) qPB (by decide) rfl
theorem qPE:Dn (Fa (kyL 101) 9)=34107742065115193518099035582793541296935167776723933399429897696738411264332:=by kernel_rfl
theorem lPE:ladE (kyL 101) C7=vPE:=CC rfl Ip (by decide) qPE (by decide) rfl
theorem qX1:Dn (Fa (kyL 101) 3873599628253772194686510826457445042224408612751331329672488392857300769615)=28191942077556465510392378457765919935009007859398376681088946255094371469576:=by kernel_rfl
theorem lX1:ladE (kyL 101) vPB=vX1:=CC rfl (by decide) (by decide) qX1 (by decide) rfl
theorem qX2:Dn (Fa (kyL 97) 3873599628253772194686510826457445042224408612751331329672488392857300769615)=45863505615179444264250632754092809270636439140959747961807530266934234225689:=by kernel_rfl
theorem lX2:ladE (kyL 97) vPB=vX2:=CC rfl (by decide) (by decide) qX2 (by decide) rfl
theorem qX3:Dn (Fa (kyL 102) 34107742065115193518099035582793541296935167776723933399429897696738411264332)=31278884780669883789621468763246920430992810269124065668733665284318415149686:=by kernel_rfl
theorem lX3:ladE (kyL 102) vPE=vX3:=CC rfl (by decide) (by decide) qX3 (by decide) rfl
theorem qX4:Dn (Fa (kyL 102) 16572691432107831290236438983220704641597839740724002177525024145463529258009)=41691078657918421984347907972951763659788406297479256988546525889969654557035:=by kernel_rfl
theorem lX4:ladE (kyL 102) vPA=vX4:=CC rfl (by decide) (by decide) qX4 (by decide) rfl
theorem qPF:Dn (Fa (kyL 102) 9)=16738150371234417413423305427781018639772837693830886891171367152264450316154:=by kernel_rfl
theorem lPF:ladE (kyL 102) C7=vPF:=CC rfl Ip (by decide) qPF (by decide) rfl
theorem qY1:Dn (Fa (kyL 98) 34107742065115193518099035582793541296935167776723933399429897696738411264332)=28191942077556465510392378457765919935009007859398376681088946255094371469576:=by kernel_rfl
theorem lY1:ladE (kyL 98) vPE=vX1:=CC rfl (by decide) (by decide) qY1 (by decide) rfl
theorem qY2:Dn (Fa (kyL 98) 16572691432107831290236438983220704641597839740724002177525024145463529258009)=45863505615179444264250632754092809270636439140959747961807530266934234225689:=by kernel_rfl
theorem lY2:ladE (kyL 98) vPA=vX2:=CC rfl (by decide) (by decide) qY2 (by decide) rfl
theorem qY3:Dn (Fa (kyL 101) 16738150371234417413423305427781018639772837693830886891171367152264450316154)=31278884780669883789621468763246920430992810269124065668733665284318415149686:=by kernel_rfl
theorem lY3:ladE (kyL 101) vPF=vX3:=CC rfl (by decide) (by decide) qY3 (by decide) rfl
theorem qY4:Dn (Fa (kyL 97) 16738150371234417413423305427781018639772837693830886891171367152264450316154)=41691078657918421984347907972951763659788406297479256988546525889969654557035:=by kernel_rfl
theorem lY4:ladE (kyL 97) vPF=vX4:=CC rfl (by decide) (by decide) qY4 (by decide) rfl
theorem abp:Ax.pu (kyL 97)=vPA:=by rw [← lPA]; rfl
theorem M7:Ax.pu (kyL 98)=vPB:=by rw [← lPB]; rfl
theorem Y3:Ax.pu (kyL 101)=vPE:=by rw [← lPE]; rfl
theorem IX {k u L:L8}(hk:isLen k 32=true) (hu:isLen u 32=true) (h:ladE k u=L) (hz:(L == Dq)=false):Ax.sh k u=L:=by
 show shV ladE k u=L
 unfold shV
 rw [hk,hu,h,hz]
 rfl
theorem akG:Ax.pu (kyL 102)=vPF:=by rw [← lPF]; rfl
theorem Yy {k u L:L8}(hk:isLen k 32=true) (hu:isLen u 32=true) (h:ladE k u=L) (hz:(L == Dq)=false):Ax.sr k u=0:=by
 show shR ladE k u=0
 unfold shR
 rw [hk,hu,h,hz]
 rfl
theorem Ok {a b pa pb x:L8}(ha:isLen a 32=true) (hb:isLen b 32=true) (hpa:Ax.pu a=pa) (hpb:Ax.pu b=pb) (la:isLen pa 32=true) (lb:isLen pb 32=true) (h1:ladE a pb=x) (h2:ladE b pa=x) (hz:(x == Dq)=false):DH Ax a b:=by
 unfold DH
 rw [hpa,hpb]
 exact ⟨Yy ha lb h1 hz,Yy hb la h2 hz,(IX ha lb h1 hz).trans (IX hb la h2 hz).symm⟩
theorem dEB:DH Ax (kyL 101) (kyL 98):=Ok rfl rfl Y3 M7 rfl rfl lX1 lY1 (by decide)
theorem dAB:DH Ax (kyL 97) (kyL 98):=Ok rfl rfl abp M7 rfl rfl lX2 lY2 (by decide)
theorem dFE:DH Ax (kyL 102) (kyL 101):=Ok rfl rfl akG Y3 rfl rfl lX3 lY3 (by decide)
theorem dFA:DH Ax (kyL 102) (kyL 97):=Ok rfl rfl akG abp rfl rfl lX4 lY4 (by decide)
theorem x1:Ax.sh (kyL 101) vPB=vX1:=IX rfl rfl lX1 (by decide)
theorem x2:Ax.sh (kyL 97) vPB=vX2:=IX rfl rfl lX2 (by decide)
theorem x3:Ax.sh (kyL 102) vPE=vX3:=IX rfl rfl lX3 (by decide)
theorem x4:Ax.sh (kyL 102) vPA=vX4:=IX rfl rfl lX4 (by decide)
theorem kC0:Bq (wF nmL)=vC0:=by kernel_rfl
theorem kK1:kc1 wF vC0 vX1=vK1:=by kernel_rfl
theorem kC1:kc0 wF vC0 vX1=vC1:=by kernel_rfl
theorem kC2:kc0 wF vC1 vX2=vC2:=by kernel_rfl
theorem kC3:kc0 wF vC2 vX3=vC3:=by kernel_rfl
theorem kC4:kc0 wF vC3 vX4=vC4:=by kernel_rfl
theorem kS0:kc0 wF vC4 []=vS0:=by kernel_rfl
theorem kS1:kc1 wF vC4 []=vS1:=by kernel_rfl
theorem am6:Bq (wF (vC0++[112]))=ahE:=by kernel_rfl
theorem ann:Bq (wF (ahE++vPB))=akJ:=by kernel_rfl
theorem kHP:Bq (wF (akJ++vPE))=vHP:=by kernel_rfl
theorem amn:Bq (wF (vC0++[113]))=ahG:=by kernel_rfl
theorem alx:Bq (wF (ahG++vPB))=ajP:=by kernel_rfl
theorem kHQ:Bq (wF (ajP++vPE))=vHQ:=by kernel_rfl
theorem kB0:Ae.bvR vK1 (Ae.GA 0) 0=vB0:=by kernel_rfl
theorem kCt:Ae.ct vK1 (Ae.GA 0) vPA=vCt:=by kernel_rfl
theorem kTP:Pol.tvR (Ae.k0 vB0) (Bld.Ja vHP vCt)=vTP:=by kernel_rfl
theorem kTQ:Pol.tvR (Ae.k0 vB0) (Bld.Ja vHQ vCt)=vTQ:=by kernel_rfl
theorem tgP:Ae.Dr vK1 (Ae.GA 0) vHP vCt=vTP:=by unfold Ae.Dr; rw [kB0,kTP]
theorem tgQ:Ae.Dr vK1 (Ae.GA 0) vHQ vCt=vTQ:=by unfold Ae.Dr; rw [kB0,kTQ]
end Go.Proofs.YtcplgmgpagekfaaGreatDoor
