/- Texts of this repo, merged for the claim: Reads, Few, LaidRow, LaidRowU, RowHostUnder, CardHostUnder. -/
import Derived.Test.YtamfohpmmklhpaaGreatDoorWhole6
import Derived.Test.YtamfohpmmklhpaaGreatDoorWhole1
import Derived.OpenShut
import Derived.Test.YtamfohpmmklhpaaGreatDoorWhole5
import Derived.JoinedCond
import Derived.Lay
import Derived.LaidOnce
import Derived.LaidLaws
import Derived.Test.YtamfohpmmklhpaaGreatDoorRows
import Derived.LaidSub
import Derived.Stop.Joined
import Derived.Lib.LaidU8T
import Derived.WalkKit
import Derived.ProofKit
import Derived.ChangeMaps5
import Derived.ShutString
import Derived.ChangeOld
import Derived.Below
import Derived.Lib.SmallJoins
import Derived.Test.YtamfohpmmklhpaaGreatDoorCards
import Derived.Test.YtamfohpmmklhpaaGreatDoorTie
import Derived.SevenTiedAt
set_option autoImplicit true
set_option relaxedAutoImplicit true
namespace Go.Proofs.YtamfohpmmklhpaaGreatDoor
open Go.RowKit
set_option maxRecDepth 100000
set_option linter.constructorNameAsVariable false
theorem Zxh {α:Type} (l:List α) (h:l.length=2):∃ a0 a1,l=[a0,a1]:=by
 match l,h with
 | [a0,a1],_=>exact ⟨a0,a1,rfl⟩
theorem Zmb {α:Type} (l:List α) (h:l.length=3):∃ a0 a1 a2,l=[a0,a1,a2]:=by
 match l,h with
 | [a0,a1,a2],_=>exact ⟨a0,a1,a2,rfl⟩
theorem Z41 {α:Type} (l:List α) (h:l.length=4):∃ a0 a1 a2 a3,l=[a0,a1,a2,a3]:=by
 match l,h with
 | [a0,a1,a2,a3],_=>exact ⟨a0,a1,a2,a3,rfl⟩
theorem Z42 {α:Type} (l:List α) (h:l.length=8):∃ a0 a1 a2 a3 a4 a5 a6 a7,l=[a0,a1,a2,a3,a4,a5,a6,a7]:=by
 match l,h with
 | [a0,a1,a2,a3,a4,a5,a6,a7],_=>exact ⟨a0,a1,a2,a3,a4,a5,a6,a7,rfl⟩
theorem Zn6 {α:Type} (l:List α) (h:l.length=11):∃ a0 a1 a2 a3 a4 a5 a6 a7 a8 a9 a10,l=[a0,a1,a2,a3,a4,a5,a6,a7,a8,a9,a10]:=by
 match l,h with
 | [a0,a1,a2,a3,a4,a5,a6,a7,a8,a9,a10],_=>exact ⟨a0,a1,a2,a3,a4,a5,a6,a7,a8,a9,a10,rfl⟩
def Zgs (x:Val):Nat:=1+(λ_=>1) x.lo+(λ_=>1) x.hi+(λ_=>1) x.n
def Zlb (x:Val):Prop:=(InK .i32) x.lo/\(InK .i32) x.hi/\(InK .i64) x.n
theorem Zgc {H:Type} {enc:TypeId×Value->H} {W:World}:U2 enc Tryz.prog W 148 Kc Zgs Zlb:=by
 intro fuel cs d ps h;obtain ⟨xs,n,_,hx,hl,hn,hf⟩:=DataW.trod_struct Tryz.underlying148 h;have hl:cs.length=3:=hl.trans (by kernel_rfl);have hn:xs.length=3:=hn;obtain ⟨y0,y1,y2,rfl⟩:=Zmb xs hn;obtain ⟨c0,c1,c2,rfl⟩:=Zmb cs hl;simp only [Prod.mk.injEq] at hx;obtain ⟨rfl,_⟩:=hx;have g0:DataW.trod enc Tryz.prog W 0 (λ_=>true) true n 21 ((([c0,c1,c2]:List Value).drop 0).take (Tryz.prog.cellsOf 21))=some y0:=hf 0 _ rfl;rw [show Tryz.prog.cellsOf 21=1 by kernel_rfl] at g0;obtain ⟨x0,r0,s0,w0⟩:=(U2.int Tryz.underlying21) n [c0] _ _ g0;have g1:DataW.trod enc Tryz.prog W 0 (λ_=>true) true n 21 ((([c0,c1,c2]:List Value).drop 1).take (Tryz.prog.cellsOf 21))=some y1:=hf 1 _ rfl;rw [show Tryz.prog.cellsOf 21=1 by kernel_rfl] at g1;obtain ⟨x1,r1,s1,w1⟩:=(U2.int Tryz.underlying21) n [c1] _ _ g1;have g2:DataW.trod enc Tryz.prog W 0 (λ_=>true) true n 3 ((([c0,c1,c2]:List Value).drop 2).take (Tryz.prog.cellsOf 3))=some y2:=hf 2 _ rfl;rw [show Tryz.prog.cellsOf 3=1 by kernel_rfl] at g2;obtain ⟨x2,r2,s2,w2⟩:=(U2.int Tryz.underlying3) n [c2] _ _ g2;obtain rfl:c0=.int .i32 x0:=by simpa using (show [c0]=[.int .i32 x0] from r0)
 obtain rfl:c1=.int .i32 x1:=by simpa using (show [c1]=[.int .i32 x1] from r1)
 obtain rfl:c2=.int .i64 x2:=by simpa using (show [c2]=[.int .i64 x2] from r2)
 refine ⟨⟨x0,x1,x2⟩,rfl,?_,⟨w0,w1,w2⟩⟩;try dsimp only at s0
 try dsimp only at s1
 try dsimp only at s2
 simp only [Zgs,List.map_cons,List.map_nil,Rows.uptoBulk,Rows.uptoBulkAll];omega
def Zhq (x:Chs):Nat:=1+(λ_=>1) x.lo+(λ_=>1) x.hi+(szL (λ_=>1)) x.is_
def Zxt (x:Chs):Prop:=(InK .i32) x.lo/\(InK .i32) x.hi/\(λxs:List Int=>∀ x∈xs,(InK .i32) x) x.is_
theorem Znz {H:Type} {enc:TypeId×Value->H} {W:World}:U2 enc Tryz.prog W 82 V1 Zhq Zxt:=by
 intro fuel cs d ps h;obtain ⟨xs,n,_,hx,hl,hn,hf⟩:=DataW.trod_struct Tryz.underlying82 h;have hl:cs.length=3:=hl.trans (by kernel_rfl);have hn:xs.length=3:=hn;obtain ⟨y0,y1,y2,rfl⟩:=Zmb xs hn;obtain ⟨c0,c1,c2,rfl⟩:=Zmb cs hl;simp only [Prod.mk.injEq] at hx;obtain ⟨rfl,_⟩:=hx;have g0:DataW.trod enc Tryz.prog W 0 (λ_=>true) true n 21 ((([c0,c1,c2]:List Value).drop 0).take (Tryz.prog.cellsOf 21))=some y0:=hf 0 _ rfl;rw [show Tryz.prog.cellsOf 21=1 by kernel_rfl] at g0;obtain ⟨x0,r0,s0,w0⟩:=(U2.int Tryz.underlying21) n [c0] _ _ g0;have g1:DataW.trod enc Tryz.prog W 0 (λ_=>true) true n 21 ((([c0,c1,c2]:List Value).drop 1).take (Tryz.prog.cellsOf 21))=some y1:=hf 1 _ rfl;rw [show Tryz.prog.cellsOf 21=1 by kernel_rfl] at g1;obtain ⟨x1,r1,s1,w1⟩:=(U2.int Tryz.underlying21) n [c1] _ _ g1;have g2:DataW.trod enc Tryz.prog W 0 (λ_=>true) true n 80 ((([c0,c1,c2]:List Value).drop 2).take (Tryz.prog.cellsOf 80))=some y2:=hf 2 _ rfl;rw [show Tryz.prog.cellsOf 80=1 by kernel_rfl] at g2;obtain ⟨x2,r2,s2,w2⟩:=(U2.slice Kv rfl (U2.int Tryz.underlying21)) n [c2] _ _ g2;obtain rfl:c0=.int .i32 x0:=by simpa using (show [c0]=[.int .i32 x0] from r0)
 obtain rfl:c1=.int .i32 x1:=by simpa using (show [c1]=[.int .i32 x1] from r1)
 obtain ⟨v2,e2,f2⟩:=r2;obtain rfl:c2=v2:=by simpa using e2
 refine ⟨⟨x0,x1,x2⟩,⟨_,rfl,f2⟩,?_,⟨w0,w1,w2⟩⟩;try dsimp only at s0
 try dsimp only at s1
 try dsimp only at s2
 simp only [Zhq,List.map_cons,List.map_nil,Rows.uptoBulk,Rows.uptoBulkAll];omega
def Zk9 (x:Spn):Nat:=1+(λ_=>1) x.lo+(λ_=>1) x.hi
def Zv6 (x:Spn):Prop:=(InK .i32) x.lo/\(InK .i32) x.hi
theorem Zp3 {H:Type} {enc:TypeId×Value->H} {W:World}:U2 enc Tryz.prog W 131 Vd Zk9 Zv6:=by
 intro fuel cs d ps h;obtain ⟨xs,n,_,hx,hl,hn,hf⟩:=DataW.trod_struct Tryz.underlying131 h;have hl:cs.length=2:=hl.trans (by kernel_rfl);have hn:xs.length=2:=hn;obtain ⟨y0,y1,rfl⟩:=Zxh xs hn;obtain ⟨c0,c1,rfl⟩:=Zxh cs hl;simp only [Prod.mk.injEq] at hx;obtain ⟨rfl,_⟩:=hx;have g0:DataW.trod enc Tryz.prog W 0 (λ_=>true) true n 21 ((([c0,c1]:List Value).drop 0).take (Tryz.prog.cellsOf 21))=some y0:=hf 0 _ rfl;rw [show Tryz.prog.cellsOf 21=1 by kernel_rfl] at g0;obtain ⟨x0,r0,s0,w0⟩:=(U2.int Tryz.underlying21) n [c0] _ _ g0;have g1:DataW.trod enc Tryz.prog W 0 (λ_=>true) true n 21 ((([c0,c1]:List Value).drop 1).take (Tryz.prog.cellsOf 21))=some y1:=hf 1 _ rfl;rw [show Tryz.prog.cellsOf 21=1 by kernel_rfl] at g1;obtain ⟨x1,r1,s1,w1⟩:=(U2.int Tryz.underlying21) n [c1] _ _ g1;obtain rfl:c0=.int .i32 x0:=by simpa using (show [c0]=[.int .i32 x0] from r0)
 obtain rfl:c1=.int .i32 x1:=by simpa using (show [c1]=[.int .i32 x1] from r1)
 refine ⟨⟨x0,x1⟩,rfl,?_,⟨w0,w1⟩⟩;try dsimp only at s0
 try dsimp only at s1
 simp only [Zk9,List.map_cons,List.map_nil,Rows.uptoBulk,Rows.uptoBulkAll];omega
def Zt8 (x:Bk):Nat:=1+(szL (λs:ByteArray=>s.size+1)) x.names+(szL Zgs) x.status+(szL Zhq) x.maps+(szL Zgs) x.class_+(szL Zhq) x.decomp+(szL Zk9) x.excl+(szL Zgs) x.bidi+(szL Zgs) x.join+(szL Zk9) x.marks+(szL Zgs) x.script+(szL Zhq) x.like
def Z8o (x:Bk):Prop:=(λxs:List ByteArray=>∀ x∈xs,(λ_=>True) x) x.names/\(λxs:List Val=>∀ x∈xs,Zlb x) x.status/\(λxs:List Chs=>∀ x∈xs,Zxt x) x.maps/\(λxs:List Val=>∀ x∈xs,Zlb x) x.class_/\(λxs:List Chs=>∀ x∈xs,Zxt x) x.decomp/\(λxs:List Spn=>∀ x∈xs,Zv6 x) x.excl/\(λxs:List Val=>∀ x∈xs,Zlb x) x.bidi/\(λxs:List Val=>∀ x∈xs,Zlb x) x.join/\(λxs:List Spn=>∀ x∈xs,Zv6 x) x.marks/\(λxs:List Val=>∀ x∈xs,Zlb x) x.script/\(λxs:List Chs=>∀ x∈xs,Zxt x) x.like
theorem Z2e {H:Type} {enc:TypeId×Value->H} {W:World}:U2 enc Tryz.prog W 27 rBk Zt8 Z8o:=by
 intro fuel cs d ps h;obtain ⟨xs,n,_,hx,hl,hn,hf⟩:=DataW.trod_struct Tryz.underlying27 h;have hl:cs.length=11:=hl.trans (by kernel_rfl);have hn:xs.length=11:=hn;obtain ⟨y0,y1,y2,y3,y4,y5,y6,y7,y8,y9,y10,rfl⟩:=Zn6 xs hn;obtain ⟨c0,c1,c2,c3,c4,c5,c6,c7,c8,c9,c10,rfl⟩:=Zn6 cs hl;simp only [Prod.mk.injEq] at hx;obtain ⟨rfl,_⟩:=hx;have g0:DataW.trod enc Tryz.prog W 0 (λ_=>true) true n 22 ((([c0,c1,c2,c3,c4,c5,c6,c7,c8,c9,c10]:List Value).drop 0).take (Tryz.prog.cellsOf 22))=some y0:=hf 0 _ rfl;rw [show Tryz.prog.cellsOf 22=1 by kernel_rfl] at g0;obtain ⟨x0,r0,s0,w0⟩:=(U2.slice Zcr rfl (U2.str Tryz.underlying9)) n [c0] _ _ g0;have g1:DataW.trod enc Tryz.prog W 0 (λ_=>true) true n 23 ((([c0,c1,c2,c3,c4,c5,c6,c7,c8,c9,c10]:List Value).drop 1).take (Tryz.prog.cellsOf 23))=some y1:=hf 1 _ rfl;rw [show Tryz.prog.cellsOf 23=1 by kernel_rfl] at g1;obtain ⟨x1,r1,s1,w1⟩:=(U2.slice Zf1 rfl Zgc) n [c1] _ _ g1;have g2:DataW.trod enc Tryz.prog W 0 (λ_=>true) true n 24 ((([c0,c1,c2,c3,c4,c5,c6,c7,c8,c9,c10]:List Value).drop 2).take (Tryz.prog.cellsOf 24))=some y2:=hf 2 _ rfl;rw [show Tryz.prog.cellsOf 24=1 by kernel_rfl] at g2;obtain ⟨x2,r2,s2,w2⟩:=(U2.slice Zhd rfl Znz) n [c2] _ _ g2;have g3:DataW.trod enc Tryz.prog W 0 (λ_=>true) true n 23 ((([c0,c1,c2,c3,c4,c5,c6,c7,c8,c9,c10]:List Value).drop 3).take (Tryz.prog.cellsOf 23))=some y3:=hf 3 _ rfl;rw [show Tryz.prog.cellsOf 23=1 by kernel_rfl] at g3;obtain ⟨x3,r3,s3,w3⟩:=(U2.slice Zf1 rfl Zgc) n [c3] _ _ g3;have g4:DataW.trod enc Tryz.prog W 0 (λ_=>true) true n 24 ((([c0,c1,c2,c3,c4,c5,c6,c7,c8,c9,c10]:List Value).drop 4).take (Tryz.prog.cellsOf 24))=some y4:=hf 4 _ rfl;rw [show Tryz.prog.cellsOf 24=1 by kernel_rfl] at g4;obtain ⟨x4,r4,s4,w4⟩:=(U2.slice Zhd rfl Znz) n [c4] _ _ g4;have g5:DataW.trod enc Tryz.prog W 0 (λ_=>true) true n 25 ((([c0,c1,c2,c3,c4,c5,c6,c7,c8,c9,c10]:List Value).drop 5).take (Tryz.prog.cellsOf 25))=some y5:=hf 5 _ rfl;rw [show Tryz.prog.cellsOf 25=1 by kernel_rfl] at g5;obtain ⟨x5,r5,s5,w5⟩:=(U2.slice Zoo rfl Zp3) n [c5] _ _ g5;have g6:DataW.trod enc Tryz.prog W 0 (λ_=>true) true n 23 ((([c0,c1,c2,c3,c4,c5,c6,c7,c8,c9,c10]:List Value).drop 6).take (Tryz.prog.cellsOf 23))=some y6:=hf 6 _ rfl;rw [show Tryz.prog.cellsOf 23=1 by kernel_rfl] at g6;obtain ⟨x6,r6,s6,w6⟩:=(U2.slice Zf1 rfl Zgc) n [c6] _ _ g6;have g7:DataW.trod enc Tryz.prog W 0 (λ_=>true) true n 23 ((([c0,c1,c2,c3,c4,c5,c6,c7,c8,c9,c10]:List Value).drop 7).take (Tryz.prog.cellsOf 23))=some y7:=hf 7 _ rfl;rw [show Tryz.prog.cellsOf 23=1 by kernel_rfl] at g7;obtain ⟨x7,r7,s7,w7⟩:=(U2.slice Zf1 rfl Zgc) n [c7] _ _ g7;have g8:DataW.trod enc Tryz.prog W 0 (λ_=>true) true n 25 ((([c0,c1,c2,c3,c4,c5,c6,c7,c8,c9,c10]:List Value).drop 8).take (Tryz.prog.cellsOf 25))=some y8:=hf 8 _ rfl;rw [show Tryz.prog.cellsOf 25=1 by kernel_rfl] at g8;obtain ⟨x8,r8,s8,w8⟩:=(U2.slice Zoo rfl Zp3) n [c8] _ _ g8
 have g9:DataW.trod enc Tryz.prog W 0 (λ_=>true) true n 23 ((([c0,c1,c2,c3,c4,c5,c6,c7,c8,c9,c10]:List Value).drop 9).take (Tryz.prog.cellsOf 23))=some y9:=hf 9 _ rfl;rw [show Tryz.prog.cellsOf 23=1 by kernel_rfl] at g9;obtain ⟨x9,r9,s9,w9⟩:=(U2.slice Zf1 rfl Zgc) n [c9] _ _ g9;have g10:DataW.trod enc Tryz.prog W 0 (λ_=>true) true n 24 ((([c0,c1,c2,c3,c4,c5,c6,c7,c8,c9,c10]:List Value).drop 10).take (Tryz.prog.cellsOf 24))=some y10:=hf 10 _ rfl;rw [show Tryz.prog.cellsOf 24=1 by kernel_rfl] at g10;obtain ⟨x10,r10,s10,w10⟩:=(U2.slice Zhd rfl Znz) n [c10] _ _ g10;obtain ⟨v0,e0,f0⟩:=r0;obtain rfl:c0=v0:=by simpa using e0
 obtain ⟨v1,e1,f1⟩:=r1;obtain rfl:c1=v1:=by simpa using e1
 obtain ⟨v2,e2,f2⟩:=r2;obtain rfl:c2=v2:=by simpa using e2
 obtain ⟨v3,e3,f3⟩:=r3;obtain rfl:c3=v3:=by simpa using e3
 obtain ⟨v4,e4,f4⟩:=r4;obtain rfl:c4=v4:=by simpa using e4
 obtain ⟨v5,e5,f5⟩:=r5;obtain rfl:c5=v5:=by simpa using e5
 obtain ⟨v6,e6,f6⟩:=r6;obtain rfl:c6=v6:=by simpa using e6
 obtain ⟨v7,e7,f7⟩:=r7;obtain rfl:c7=v7:=by simpa using e7
 obtain ⟨v8,e8,f8⟩:=r8;obtain rfl:c8=v8:=by simpa using e8
 obtain ⟨v9,e9,f9⟩:=r9;obtain rfl:c9=v9:=by simpa using e9
 obtain ⟨v10,e10,f10⟩:=r10;obtain rfl:c10=v10:=by simpa using e10
 refine ⟨⟨x0,x1,x2,x3,x4,x5,x6,x7,x8,x9,x10⟩,⟨_,_,_,_,_,_,_,_,_,_,_,rfl,f0,f1,f2,f3,f4,f5,f6,f7,f8,f9,f10⟩,?_,⟨w0,w1,w2,w3,w4,w5,w6,w7,w8,w9,w10⟩⟩;try dsimp only at s0
 try dsimp only at s1
 try dsimp only at s2
 try dsimp only at s3
 try dsimp only at s4
 try dsimp only at s5
 try dsimp only at s6
 try dsimp only at s7
 try dsimp only at s8
 try dsimp only at s9
 try dsimp only at s10
 simp only [Zt8,List.map_cons,List.map_nil,Rows.uptoBulk,Rows.uptoBulkAll];omega
def Zxm (x:S10):Nat:=1+(λ_=>1) x.kind+(λs:ByteArray=>s.size+1) x.text+(λ_=>1) x.four+(λ_=>1) x.six0+(λ_=>1) x.six1+(λ_=>1) x.six2+(λ_=>1) x.six3+(λ_=>1) x.six4+(λ_=>1) x.six5+(λ_=>1) x.six6+(λ_=>1) x.six7
def Z8p (x:S10):Prop:=(InK .i64) x.kind/\(λ_=>True) x.text/\(InK .u32) x.four/\(InK .u16) x.six0/\(InK .u16) x.six1/\(InK .u16) x.six2/\(InK .u16) x.six3/\(InK .u16) x.six4/\(InK .u16) x.six5/\(InK .u16) x.six6/\(InK .u16) x.six7
theorem Z2f {H:Type} {enc:TypeId×Value->H} {W:World}:U2 enc Tryz.prog W 33 Zel Zxm Z8p:=by
 intro fuel cs d ps h;obtain ⟨xs,n,_,hx,hl,hn,hf⟩:=DataW.trod_struct Tryz.underlying33 h;have hl:cs.length=11:=hl.trans (by kernel_rfl);have hn:xs.length=4:=hn;obtain ⟨y0,y1,y2,y3,rfl⟩:=Z41 xs hn;obtain ⟨c0,c1,c2,c3,c4,c5,c6,c7,c8,c9,c10,rfl⟩:=Zn6 cs hl;simp only [Prod.mk.injEq] at hx;obtain ⟨rfl,_⟩:=hx;have g0:DataW.trod enc Tryz.prog W 0 (λ_=>true) true n 3 ((([c0,c1,c2,c3,c4,c5,c6,c7,c8,c9,c10]:List Value).drop 0).take (Tryz.prog.cellsOf 3))=some y0:=hf 0 _ rfl;rw [show Tryz.prog.cellsOf 3=1 by kernel_rfl] at g0;obtain ⟨x0,r0,s0,w0⟩:=(U2.int Tryz.underlying3) n [c0] _ _ g0;have g1:DataW.trod enc Tryz.prog W 0 (λ_=>true) true n 9 ((([c0,c1,c2,c3,c4,c5,c6,c7,c8,c9,c10]:List Value).drop 1).take (Tryz.prog.cellsOf 9))=some y1:=hf 1 _ rfl;rw [show Tryz.prog.cellsOf 9=1 by kernel_rfl] at g1;obtain ⟨x1,r1,s1,w1⟩:=(U2.str Tryz.underlying9) n [c1] _ _ g1;have g2:DataW.trod enc Tryz.prog W 0 (λ_=>true) true n 28 ((([c0,c1,c2,c3,c4,c5,c6,c7,c8,c9,c10]:List Value).drop 2).take (Tryz.prog.cellsOf 28))=some y2:=hf 2 _ rfl;rw [show Tryz.prog.cellsOf 28=1 by kernel_rfl] at g2;obtain ⟨x2,r2,s2,w2⟩:=(U2.int Tryz.underlying28) n [c2] _ _ g2;have g3:DataW.trod enc Tryz.prog W 0 (λ_=>true) true n 31 ((([c0,c1,c2,c3,c4,c5,c6,c7,c8,c9,c10]:List Value).drop 3).take (Tryz.prog.cellsOf 31))=some y3:=hf 3 _ rfl;rw [show Tryz.prog.cellsOf 31=8 by kernel_rfl] at g3;obtain ⟨ys3,n3,_,hy3,_,hm3,he3⟩:=DataW.trod_array Tryz.underlying31 g3;obtain ⟨z3_0,z3_1,z3_2,z3_3,z3_4,z3_5,z3_6,z3_7,rfl⟩:=Z42 ys3 hm3;subst hy3;have g3_0:DataW.trod enc Tryz.prog W 0 (λ_=>true) true n3 29 (((((([c0,c1,c2,c3,c4,c5,c6,c7,c8,c9,c10]:List Value).drop 3).take 8)).drop (0*Tryz.prog.cellsOf 29)).take (Tryz.prog.cellsOf 29))=some z3_0:=he3 0 (by decide);rw [show Tryz.prog.cellsOf 29=1 by kernel_rfl] at g3_0;obtain ⟨x3,r3,s3,w3⟩:=(U2.int Tryz.underlying29) n3 [c3] _ _ g3_0;have g3_1:DataW.trod enc Tryz.prog W 0 (λ_=>true) true n3 29 (((((([c0,c1,c2,c3,c4,c5,c6,c7,c8,c9,c10]:List Value).drop 3).take 8)).drop (1*Tryz.prog.cellsOf 29)).take (Tryz.prog.cellsOf 29))=some z3_1:=he3 1 (by decide);rw [show Tryz.prog.cellsOf 29=1 by kernel_rfl] at g3_1;obtain ⟨x4,r4,s4,w4⟩:=(U2.int Tryz.underlying29) n3 [c4] _ _ g3_1;have g3_2:DataW.trod enc Tryz.prog W 0 (λ_=>true) true n3 29 (((((([c0,c1,c2,c3,c4,c5,c6,c7,c8,c9,c10]:List Value).drop 3).take 8)).drop (2*Tryz.prog.cellsOf 29)).take (Tryz.prog.cellsOf 29))=some z3_2:=he3 2 (by decide);rw [show Tryz.prog.cellsOf 29=1 by kernel_rfl] at g3_2;obtain ⟨x5,r5,s5,w5⟩:=(U2.int Tryz.underlying29) n3 [c5] _ _ g3_2;have g3_3:DataW.trod enc Tryz.prog W 0 (λ_=>true) true n3 29 (((((([c0,c1,c2,c3,c4,c5,c6,c7,c8,c9,c10]:List Value).drop 3).take 8)).drop (3*Tryz.prog.cellsOf 29)).take (Tryz.prog.cellsOf 29))=some z3_3:=he3 3 (by decide);rw [show Tryz.prog.cellsOf 29=1 by kernel_rfl] at g3_3;obtain ⟨x6,r6,s6,w6⟩:=(U2.int Tryz.underlying29) n3 [c6] _ _ g3_3
 have g3_4:DataW.trod enc Tryz.prog W 0 (λ_=>true) true n3 29 (((((([c0,c1,c2,c3,c4,c5,c6,c7,c8,c9,c10]:List Value).drop 3).take 8)).drop (4*Tryz.prog.cellsOf 29)).take (Tryz.prog.cellsOf 29))=some z3_4:=he3 4 (by decide);rw [show Tryz.prog.cellsOf 29=1 by kernel_rfl] at g3_4;obtain ⟨x7,r7,s7,w7⟩:=(U2.int Tryz.underlying29) n3 [c7] _ _ g3_4;have g3_5:DataW.trod enc Tryz.prog W 0 (λ_=>true) true n3 29 (((((([c0,c1,c2,c3,c4,c5,c6,c7,c8,c9,c10]:List Value).drop 3).take 8)).drop (5*Tryz.prog.cellsOf 29)).take (Tryz.prog.cellsOf 29))=some z3_5:=he3 5 (by decide);rw [show Tryz.prog.cellsOf 29=1 by kernel_rfl] at g3_5;obtain ⟨x8,r8,s8,w8⟩:=(U2.int Tryz.underlying29) n3 [c8] _ _ g3_5;have g3_6:DataW.trod enc Tryz.prog W 0 (λ_=>true) true n3 29 (((((([c0,c1,c2,c3,c4,c5,c6,c7,c8,c9,c10]:List Value).drop 3).take 8)).drop (6*Tryz.prog.cellsOf 29)).take (Tryz.prog.cellsOf 29))=some z3_6:=he3 6 (by decide);rw [show Tryz.prog.cellsOf 29=1 by kernel_rfl] at g3_6;obtain ⟨x9,r9,s9,w9⟩:=(U2.int Tryz.underlying29) n3 [c9] _ _ g3_6;have g3_7:DataW.trod enc Tryz.prog W 0 (λ_=>true) true n3 29 (((((([c0,c1,c2,c3,c4,c5,c6,c7,c8,c9,c10]:List Value).drop 3).take 8)).drop (7*Tryz.prog.cellsOf 29)).take (Tryz.prog.cellsOf 29))=some z3_7:=he3 7 (by decide);rw [show Tryz.prog.cellsOf 29=1 by kernel_rfl] at g3_7;obtain ⟨x10,r10,s10,w10⟩:=(U2.int Tryz.underlying29) n3 [c10] _ _ g3_7;obtain rfl:c0=.int .i64 x0:=by simpa using (show [c0]=[.int .i64 x0] from r0)
 obtain rfl:c1=.string x1:=by simpa using (show [c1]=[.string x1] from r1)
 obtain rfl:c2=.int .u32 x2:=by simpa using (show [c2]=[.int .u32 x2] from r2)
 obtain rfl:c3=.int .u16 x3:=by simpa using (show [c3]=[.int .u16 x3] from r3)
 obtain rfl:c4=.int .u16 x4:=by simpa using (show [c4]=[.int .u16 x4] from r4)
 obtain rfl:c5=.int .u16 x5:=by simpa using (show [c5]=[.int .u16 x5] from r5)
 obtain rfl:c6=.int .u16 x6:=by simpa using (show [c6]=[.int .u16 x6] from r6)
 obtain rfl:c7=.int .u16 x7:=by simpa using (show [c7]=[.int .u16 x7] from r7)
 obtain rfl:c8=.int .u16 x8:=by simpa using (show [c8]=[.int .u16 x8] from r8)
 obtain rfl:c9=.int .u16 x9:=by simpa using (show [c9]=[.int .u16 x9] from r9)
 obtain rfl:c10=.int .u16 x10:=by simpa using (show [c10]=[.int .u16 x10] from r10)
 refine ⟨⟨x0,x1,x2,x3,x4,x5,x6,x7,x8,x9,x10⟩,rfl,?_,⟨w0,w1,w2,w3,w4,w5,w6,w7,w8,w9,w10⟩⟩;try dsimp only at s0
 try dsimp only at s1
 try dsimp only at s2
 try dsimp only at s3
 try dsimp only at s4
 try dsimp only at s5
 try dsimp only at s6
 try dsimp only at s7
 try dsimp only at s8
 try dsimp only at s9
 try dsimp only at s10
 simp only [Zxm,List.map_cons,List.map_nil,Rows.uptoBulk,Rows.uptoBulkAll];omega
theorem Zyi (h:Zt8 b<=1048577):Few b:=by
 unfold Zt8 at h;have v1:∀ x,1<=Zgs x:=λx=>by unfold Zgs;omega
 have c1:∀ x,1<=Zhq x:=λx=>by unfold Zhq;omega
 have p1:∀ x,1<=Zk9 x:=λx=>by unfold Zk9;omega
 have a0:=Zc9 (sz:=λs:ByteArray=>s.size+1) (λx=>by omega) b.names;have a1:=Zc9 v1 b.status;have a2:=Zc9 c1 b.maps;have a3:=Zc9 v1 b.class_;have a4:=Zc9 c1 b.decomp;have a5:=Zc9 p1 b.excl;have a6:=Zc9 v1 b.bidi;have a7:=Zc9 v1 b.join;have a8:=Zc9 p1 b.marks;have a9:=Zc9 v1 b.script;have a10:=Zc9 c1 b.like;have inn:∀ (l:List Chs),szL Zhq l<=1048577->∀ x∈l,x.is_.length<=Zv:=by
  intro l hl x hx;have h1:=Zxl (sz:=Zhq) hx;have h2:=Zc9 (sz:=λ_:Int=>1) (λ_=>Nat.le_refl 1) x.is_;have h3:szL (λ_:Int=>1) x.is_<=Zhq x:=by unfold Zhq;omega
  unfold Zv;omega
 constructor;all_goals first | (unfold Zv;omega) | exact inn _ (by omega)
section
open Go Go.ChangeShapes
section
variable {H:Type} {enc:TypeId×Value->H}
theorem Z3b {C:Checked} {k:(H:Type)->List (DataW H)->Bool} (hk:s.cond=some k) (modest:Bool) (w0:World) (args:Array Value) (fuel:Nat) (hos:w0.os=os) (hsh:(w0.forCall (λ_ _=>0) ⟨#[],args,[]⟩).Shaped C.prog) (hok:Input.okWideB C.prog (w0.forCall (λ_ _=>0) ⟨#[],args,[]⟩) f ⟨#[],args,[]⟩=true) {x:List (DataW H)×List (DataW H)×List MemPlace} (hx:DataW.whole enc C.prog (w0.forCall (λ_ _=>0) ⟨#[],args,[]⟩).memory fn.params.toList s.vars apart args.toList fuel=some x) (hconds:conds.all (PathCond.test C.prog ⟨fn.params.toList,x.1,s.bare.plain.varTypes C.prog,x.2.1⟩)=true) (hkk:k H (x.1++x.2.1)=true) (hsz:s.bare.sizedB enc C.prog fn apart (w0.forCall (λ_ _=>0) ⟨#[],args,[]⟩).memory args fuel=true) (hl:laidMetH C.prog l (w0.forCall (λ_ _=>0) ⟨#[],args,[]⟩).memory):
  ∃ (w:World) (tape:Tape) (i:Input),w.os=os/\(w.forCall tape i).Shaped C.prog/\i.vars=[]/\Input.okWide C.prog (w.forCall tape i) .any w.heap.size f i/\
   ((s.pre enc C.prog fn conds apart (w.forCall tape i).memory i.args/\laidMetH C.prog l (w.forCall tape i).memory)/\sizedMet enc C.prog fn s apart (w.forCall tape i).memory i.args)/\({ modest:=modest }:Assume).holds C.prog (lone (Frame.enter C.prog f i.args .normal) [] (w.forCall tape i)):=
 ⟨w0,λ_ _=>0,⟨#[],args,[]⟩,hos,hsh,(Input.okWide_of_okWideB (base:=0) hok).1,(Input.okWide_of_okWideB hok).2,
  ⟨⟨(OpenSpec.pre_some hk conds apart _ _).2 ⟨x.1,x.2.1,x.2.2,DataW.Whole_of_whole hx,hconds,hkk⟩,hl⟩,sizedMet_of_sizedB hsz⟩,by
  simp only [Assume.holds]
  exact ⟨by simp,by simp,λ_=>Modest.zero,by simp,by simp⟩⟩
end
end
section
open Go Go.ChangeShapes Go.RowKit
section
variable {H:Type} {enc:TypeId×Value->H}
theorem Zn3 {k:(H:Type)->List (DataW H)->Bool} (hk:s.cond=some k) (own:ownKnob C.prog.godebug=none) (started:os.Started) (noInit:C.prog.inits.idxOf? f=none) (hfn:C.prog.funcs[f]?=some fn) (witness:∃ (w:World) (tape:Tape) (i:Input),w.os=os/\(w.forCall tape i).Shaped C.prog/\i.vars=[]/\Input.okWide C.prog (w.forCall tape i) .any w.heap.size f i/\
   ((s.pre enc C.prog fn conds apart (w.forCall tape i).memory i.args/\laidMetH C.prog l (w.forCall tape i).memory)/\sizedMet enc C.prog fn s apart (w.forCall tape i).memory i.args)/\a.holds C.prog (lone (Frame.enter C.prog f i.args .normal) [] (w.forCall tape i))) (contract:∀ (W:World) (base:Nat) (args:Array Value) (ds gs:List (DataW H)) (before:List MemPlace),
   (∀ (j:Nat) t v,fn.params[j]?=some t->args[j]?=some v->Value.okWide C.prog W .any base t v)->
   DataW.Whole enc C.prog fn.params.toList s.vars apart W args.toList ds gs before->
   conds.all (PathCond.test C.prog ⟨fn.params.toList,ds,s.bare.plain.varTypes C.prog,gs⟩)=true->k H (ds++gs)=true->
   a.holds C.prog (lone (Frame.enter C.prog f args .normal) [] W)->laidMetH C.prog l W->
   Calls C.prog f args W λe W'=>∃ v,e=.returned v/\(s.at F).post enc C.prog fn apart fresh handsOn again W args v W'):
  ReturnsInHanded a C os f .any (λw args=>(s.pre enc C.prog fn conds apart w args/\laidMetH C.prog l w)/\sizedMet enc C.prog fn s apart w args) ((s.at F).post enc C.prog fn apart fresh handsOn again):=by
 refine returnsInHanded_of_calls own started noInit witness ?_;intro w tape i _ _ _ hok hpre hholds;obtain ⟨_,_,_,fn',hfn',_,_,_,_,hval⟩:=hok;have e:fn'=fn:=Option.some.inj (hfn'.symm.trans hfn);subst e;obtain ⟨ds,gs,before,hw,hc,hkk⟩:=(OpenSpec.pre_some hk conds apart _ _).1 hpre.1.1;have hw':=DataW.Whole.of_heap (w':=w.forCall tape i) (by rfl) hw;refine (contract (w.forCall tape i) w.heap.size i.args ds gs before hval hw' hc hkk hholds (laidMetH.of_heap (by rfl) hpre.1.2)).mono λe W' ⟨v,he,hp⟩=>?_;subst he;exact ChangeSpec.post_blind hp
end
theorem Zyr {W:World} (h:laidMetH Tryz.prog Rows.hostUnderUptoRow.laid W):Zdr W:=by
 have h1:laidMet Tryz.prog [("unicode/utf8.acceptRanges",Lib.acceptData),("unicode/utf8.first",Lib.firstData)] W:=by have h0:=(laidMetH_iff.1 h).1;rw [show Rows.hostUnderUptoRow.laid=[("unicode/utf8.acceptRanges",Lib.acceptData),("unicode/utf8.first",Lib.firstData)] by kernel_rfl] at h0;exact h0.filter λ_=>true
 exact utf8Tabs_of_readsT (ρ:=Zk4) { Z5m with } ⟨by kernel_rfl,by kernel_rfl,by kernel_rfl,by kernel_rfl,by kernel_rfl,by kernel_rfl,by kernel_rfl⟩ (Lib.laidMet.reads h1 (.tail _ (.head _))) (Lib.laidMet.reads h1 (.head _))
end
section
open Go.ChangeShapes Go.WideShapes Go.ChangeAt Go.RowKit Go.Joins
namespace RowHostUnder
theorem own:ownKnob Tryz.prog.godebug=none:=by kernel_rfl
theorem Zrh:laidOutB Tryz.prog=true:=by kernel_rfl
set_option maxRecDepth 100000 in
theorem lifted (os:Os) (started:os.Started) (H:Type) (enc:TypeId×Value->H) (F:Stop.Interp):
  ReturnsInHanded {} Tryz.checked os 3 .any (λw args=>((Rows.OpenSpec.upto Rows.hostUnderSpec).pre enc Tryz.prog Tryz.f3 Rows.hostUnderUptoRow.domain false w args/\laidMetH Tryz.prog Rows.hostUnderUptoRow.laid w)/\sizedMet enc Tryz.prog Tryz.f3 (Rows.OpenSpec.upto Rows.hostUnderSpec) false w args) (((Rows.OpenSpec.upto Rows.hostUnderSpec).at F).post enc Tryz.prog Tryz.f3 false true false false):=by
 refine Zn3 (C:=Tryz.checked) (s:=Rows.OpenSpec.upto Rows.hostUnderSpec) (k:=Rows.uptoSmall) rfl own started (by kernel_rfl) Tryz.func3
  (Z3b (enc:=enc) (C:=Tryz.checked) (s:=Rows.OpenSpec.upto Rows.hostUnderSpec) (k:=Rows.uptoSmall) rfl false (World.laidAll Tryz.prog os Rows.hostUnderUptoRow.laid) #[.agg #[.slice none 0 0,.slice none 0 0,.slice none 0 0,.slice none 0 0,.slice none 0 0,.slice none 0 0,.slice none 0 0,.slice none 0 0,.slice none 0 0,.slice none 0 0,.slice none 0 0],.string ⟨#[]⟩,.agg #[.int .i64 0,.string ⟨#[]⟩,.int .u32 0,.int .u16 0,.int .u16 0,.int .u16 0,.int .u16 0,.int .u16 0,.int .u16 0,.int .u16 0,.int .u16 0]] 8 (World.laidAll_os _ _ _) (World.shaped_of_ZipB (by kernel_rfl) (by kernel_rfl)) (by kernel_rfl)
   (x:=([(.agg [.nil,.nil,.nil,.nil,.nil,.nil,.nil,.nil,.nil,.nil,.nil]),(.lit (.string [])),(.agg [(.lit (.int .i64 0)),(.lit (.string [])),(.lit (.int .u32 0)),(.agg [(.lit (.int .u16 0)),(.lit (.int .u16 0)),(.lit (.int .u16 0)),(.lit (.int .u16 0)),(.lit (.int .u16 0)),(.lit (.int .u16 0)),(.lit (.int .u16 0)),(.lit (.int .u16 0))])])],[],[])) (by kernel_rfl) rfl rfl (by kernel_rfl) (by rw [MakeChecks.laidMetH_plain _ _ _ (by kernel_rfl)];exact laidMet_laidAll _ (by kernel_rfl) (by kernel_rfl))) ?_
 intro W base args ds gs before hval0 hW hk0 hk _ hlaid;have hval:∀ (j:Nat) t v,Tryz.f3.params[j]?=some t->args[j]?=some v->Value.okWide Tryz.prog W .any base t v:=hval0;have hW':=hW;obtain ⟨p,q,hA0,hV,rfl,hfz,hnd⟩:=hW;have hA:DataW.TrodAll enc Tryz.prog W 0 (λ_=>true) true Tryz.f3.params.toList args.toList ds p:=hA0;rw [Tryz.params3] at hA hval;obtain ⟨v0,vs0,d0,ds0,p0,q0,hargs,rfl,rfl,h0,r0⟩:=trodAll_cons hA;obtain ⟨v1,vs1,d1,ds1,p1,q1,rfl,rfl,rfl,h1,r1⟩:=trodAll_cons r0;obtain ⟨v2,vs2,d2,ds2,p2,q2,rfl,rfl,rfl,h2,r2⟩:=trodAll_cons r1;obtain ⟨rfl,rfl,rfl⟩:=trodAll_nil r2;obtain rfl:args=#[v0,v1,v2]:=by cases args;simp_all
 obtain ⟨rfl,rfl⟩:=trodVars_none hV;have k0:=h0;have lt0:∀ x∈p0,x.block<W.heap.size:=by obtain ⟨m,hm⟩:=k0;exact DataW.trod_lt m _ _ _ hm
 have k1:=h1;have lt1:∀ x∈p1,x.block<W.heap.size:=by obtain ⟨m,hm⟩:=k1;exact DataW.trod_lt m _ _ _ hm
 have k2:=h2;have lt2:∀ x∈p2,x.block<W.heap.size:=by obtain ⟨m,hm⟩:=k2;exact DataW.trod_lt m _ _ _ hm
 obtain ⟨c0,rfl,_⟩:=okWide_struct Tryz.underlying27 (hval 0 27 v0 rfl rfl);obtain ⟨m0,hm0⟩:=h0;obtain ⟨x0,f0,s0,w0⟩:=Z2e m0 _ _ _ hm0;obtain ⟨x1,rfl,ex1,_,w1⟩:=Go.ChangeMaps.open_string Tryz.underlying9 (hval 1 9 v1 rfl rfl) h1;subst ex1;have z1:Rows.uptoBulk (.lit (.string x1.data.toList):DataW H)=x1.size+1:=by show x1.data.toList.length+1=_;rw [Array.length_toList];rfl
 obtain ⟨c2,rfl,_⟩:=okWide_struct Tryz.underlying33 (hval 2 33 v2 rfl rfl);obtain ⟨m2,hm2⟩:=h2;obtain ⟨x2,f2,s2,w2⟩:=Z2f m2 _ _ _ hm2;have hbulk:Rows.uptoBulkAll [d0,.lit (.string x1.data.toList),d2]<=1048576:=of_decide_eq_true hk;have hsz:Zt8 x0+(x1.size+1)+Zxm x2<=1048576:=by simp only [Rows.uptoBulkAll,z1] at hbulk;omega
 have hT:Ye.f x0 x1 x2=some true:=Zm8 x0 (Zyi (by omega)) x1 (by omega) x2 (by simp only [Zxm] at hsz;omega);refine ((Ye.c (St.refl W) (Zyr hlaid) (c0:=c0.toList) (c2:=c2.toList) f0 f2 hT).2.mono λe W' h=>?_);obtain ⟨v,rfl,rfl,hs⟩:=h;have bel:=hs.below;exact ⟨_,rfl,_,_,_,[],_,[],hW',trodAll_mk1 (shut_bool Tryz.underlying4 _),(trodAll_cons_mk (Below.trod Zrh (by kernel_rfl) (of_decide_eq_true (by kernel_rfl)) k0 bel lt0) (trodAll_cons_mk (Below.trod Zrh (by kernel_rfl) (of_decide_eq_true (by kernel_rfl)) k1 bel lt1) (trodAll_cons_mk (Below.trod Zrh (by kernel_rfl) (of_decide_eq_true (by kernel_rfl)) k2 bel lt2) trodAll_mk0))),rfl,bel.frame _,λh=>by cases h⟩
end RowHostUnder
set_option maxRecDepth 100000 in
theorem Zkv:joinedFacts Tryz.prog 3 Tryz.f3 (Rows.OpenSpec.upto Rows.hostUnderSpec).bare Rows.hostUnderUptoRow=true:=by kernel_rfl
set_option maxRecDepth 100000 in
theorem Zgv:Rows.HostUnderUptoSaid:=
 OpenClaim.holds_of_cond 3 Tryz.f3 rfl rfl rfl rfl rfl rfl rfl ⟨rfl,rfl,rfl,rfl,rfl⟩ rfl rfl rfl rfl rfl (by kernel_rfl) Tryz.func3 Zkv
  (of_decide_eq_true (by kernel_rfl)) (by unfold Func.isWrapper;first | (rw [if_pos (by decide +kernel)];kernel_rfl) | (rw [if_neg (by decide +kernel)];exact ⟨rfl,rfl⟩))
  (λos started H enc _ F=>RowHostUnder.lifted os started H enc F)
#print axioms Zgv
end
section
open Go.ChangeShapes Go.WideShapes Go.ChangeAt
theorem hostUnder_card:Rows.HostUnderUptoCardSaid:=
 Claim7.holds_tied_plain_at .later [] [.data,.pinned] true (true,"4e5c0f92a16b7f4c811dd8018a59a18b4d76524c56a73f2cb5886c7764d5655e") false Zgv (λ_ h=>by cases h) (by kernel_rfl) (λ_ h=>by cases h) hostUnderUpto_row_tie rfl ⟨rfl,rfl⟩ (by kernel_rfl) rfl
  (λf fn hf hfn=>by
   obtain rfl:f=3:=Option.some.inj ((show Tryz.prog.funcNamed "postern/posternlaw23.HostUnder"=some 3 by kernel_rfl).symm.trans hf) |>.symm
   obtain rfl:fn=Tryz.f3:=(Option.some.inj (Tryz.func3.symm.trans hfn)).symm
   exact ⟨by kernel_rfl,λj t ht=>by
    rw [Tryz.params3] at ht
    have hm:t∈[27,9,33]:=by simpa using Array.mem_of_getElem? ht
    have hall:([27,9,33].all λu=>!Tryz.prog.wantsStandIn u)=true:=by kernel_rfl
    exact (show Tryz.prog.wantsStandIn t=false by simpa using List.all_eq_true.1 hall t hm)⟩)
  (by kernel_rfl)
#print axioms hostUnder_card
end
end Go.Proofs.YtamfohpmmklhpaaGreatDoor
