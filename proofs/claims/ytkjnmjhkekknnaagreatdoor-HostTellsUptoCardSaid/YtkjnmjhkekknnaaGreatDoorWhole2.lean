/- Texts of this repo, merged for the claim: EngR, Reads, RowWf, LaidRow, LaidRowH, RowHostTells, CardHostTells. -/
import Derived.Test.YtkjnmjhkekknnaaGreatDoorWhole0
import Derived.Test.YtkjnmjhkekknnaaGreatDoorRows
import Derived.ChangeArms
import Derived.Test.YtkjnmjhkekknnaaGreatDoorWhole1
import Derived.OpenShut
import Derived.JoinedCond
import Derived.Lay
import Derived.LaidOnce
import Derived.LaidLaws
import Derived.LaidSub
import Derived.Stop.Joined
import Derived.Lib.LaidTab
import Derived.WalkKit
import Derived.ProofKit
import Derived.ShutString
import Derived.ChangeOld
import Derived.Below
import Derived.Lib.SmallJoins
import Derived.Test.YtkjnmjhkekknnaaGreatDoorCards
import Derived.Test.YtkjnmjhkekknnaaGreatDoorTie
import Derived.SevenTiedAt
namespace Go.Proofs.YtkjnmjhkekknnaaGreatDoor
section
open Go.RowKit

section
variable {H:Type} {enc:TypeId×Value->H} {P:Program} {W:World}
def Xt {α:Type} (enc:TypeId×Value->H) (P:Program) (W:World) (t:TypeId) (r:Rep α) (sz:α->Nat) (wf:α->Prop):Prop:=
 ∀ fuel cs d ps,DataW.trod enc P W 0 (λ_=>true) true fuel t cs=some (d,ps)->∃ x,r.R (Jr W) cs x/\sz x<=Rows.uptoBulk d/\wf x
theorem Zcx {k:IntKind} {n:Int} (h:(Lit.int k n).wf=true):InK k n:=by
 simp only [Lit.wf,Bool.and_eq_true,decide_eq_true_eq] at h;cases k<;>simp only [InK]<;>simp [IntKind.min,IntKind.max,IntKind.signed,IntKind.bits] at h<;>omega
theorem Xt.int {t:TypeId} {k:IntKind} (hu:P.underlying t=some (.int k)):Xt enc P W t (Rep.int k) (λ_=>1) (InK k):=by
 intro fuel cs d ps h;obtain ⟨n,rfl,he,hw⟩:=DataW.trod_int hu h;simp only [Prod.mk.injEq] at he;obtain ⟨rfl,rfl⟩:=he;exact ⟨n,rfl,by simp [Rows.uptoBulk],Zcx hw⟩
theorem Xt.bool {t:TypeId} (hu:P.underlying t=some .bool):Xt enc P W t Rep.bool (λ_=>1) (λ_=>True):=by
 intro fuel cs d ps h;obtain ⟨b,rfl,he⟩:=DataW.trod_bool hu h;simp only [Prod.mk.injEq] at he;obtain ⟨rfl,rfl⟩:=he;exact ⟨b,rfl,by simp [Rows.uptoBulk],trivial⟩
theorem Xt.str {t:TypeId} (hu:P.underlying t=some .string):Xt enc P W t Rep.str (λs=>s.size+1) (λ_=>True):=by
 intro fuel cs d ps h;obtain ⟨s,rfl,he,hw⟩:=DataW.trod_string hu h;simp only [Prod.mk.injEq] at he;obtain ⟨rfl,rfl⟩:=he;exact ⟨s,rfl,by simp [Rows.uptoBulk],trivial⟩
theorem K8 {α β:Type} {f:α->Option β}:∀ {l:List α} {ys:List β},l.mapM f=some ys->ys.length=l.length/\∀ (i:Nat) (x:α),l[i]?=some x->f x=ys[i]?
 | [],ys,h=>by simp at h;subst h;exact ⟨rfl,λi x hx=>by simp at hx⟩
 | a::l,ys,h=>by
  rw [List.mapM_cons] at h
  simp only [bind,Option.bind_eq_some_iff,pure,Option.some.injEq] at h
  obtain ⟨y,hy,ys',hys,rfl⟩:=h
  obtain ⟨h1,h2⟩:=K8 hys
  refine ⟨by simp [h1],λi x hx=>?_⟩
  cases i with
  | zero=>simp at hx;subst hx;simpa using hy
  | succ i=>simpa using h2 i x (by simpa using hx)
theorem Hf {w:World} {a:Addr} {n:Nat} {cs:List Value} (h:w.cells? 0 a n=some cs):cs.length=n/\∀ j u,cs[j]?=some u->w.cell? (a.add j)=some u:=by
 unfold World.cells? at h;simp only [Nat.zero_le,if_true] at h;obtain ⟨h1,h2⟩:=K8 h;refine ⟨by simpa using h1,λj u hu=>?_⟩;have hj:j<n:=by have:=(List.getElem?_eq_some_iff.1 hu).1;simp at h1;omega
 rw [h2 j j (by simp [hj]),hu]
theorem Uh {w:World} {a:Addr} {v:Value} (h:w.cell? a=some v):a.spot=none:=by
 unfold World.cell? at h;split at h
 ·split at h
  ·cases h
  ·rename_i hs
   cases hsp:a.spot with
   | none=>rfl
   | some x=>rw [hsp] at hs;simp at hs
 ·cases h
def szL {α:Type} (sz:α->Nat):List α->Nat
 | []=>1
 | x::t=>sz x+szL sz t
theorem Xt.slice {α:Type} {t e sz' bytes:Nat} {r:Rep α} {sz:α->Nat} {wf:α->Prop} (he:Y9 P t e sz' bytes) (hr:r.sz=sz') (h:Xt enc P W e r sz wf):Xt enc P W t (Rep.slice r) (szL sz) (λxs=>∀ x∈xs,wf x):=by
 intro fuel cs d ps h1;obtain ⟨inf,z,hi,_,hsz,_,_⟩:=he.info;have hc:P.cellsOf e=r.sz:=by simp [Program.cellsOf,hi,hsz,hr]
 have hpos:0<r.sz:=hr▸he.pos
 rcases DataW.trod_slice he.under h1 with ⟨rfl,hx⟩ | ⟨a,len,cap,elems,rest,n,_,rfl,hx,_,hl,hm,hlen,hel,_,_⟩
 ·simp only [Prod.mk.injEq] at hx
  obtain ⟨rfl,rfl⟩:=hx;exact ⟨[],⟨_,rfl,.inl ⟨rfl,none,0,rfl⟩⟩,by simp [szL,Rows.uptoBulk],λx hx=>by cases hx⟩
 ·simp only [Prod.mk.injEq] at hx
  obtain ⟨rfl,_⟩:=hx;rw [hc] at hel;have key:∀ (es:List (DataW H×List MemPlace)) (k:Nat),k+es.length=len->(∀ i y,es[i]?=some y->elems[k+i]?=some y)->
    ∃ xs:List α,xs.length=es.length/\szL sz xs<=Rows.uptoBulkAll (es.map (·.1))+1/\(∀ x∈xs,wf x)/\∀ i x,xs[i]?=some x->a.spot=none/\∃ c,r.R (Jr W) c x/\∀ j u,c[j]?=some u->W.cell? ⟨a.block,a.off+(k+i)*r.sz+j,none⟩=some u:=by
   intro es
   induction es with
   | nil=>intro k _ _;exact ⟨[],rfl,by simp [szL,Rows.uptoBulkAll],λx hx=>(by cases hx),λi x hx=>(by simp at hx)⟩
   | cons y es ih=>
    intro k hk hes;have hy:=hes 0 y rfl;have h2:=hel k (by simp at hk;omega);rw [Nat.add_zero] at hy;rw [hy] at h2;obtain ⟨c,hc1,hc2⟩:=Option.bind_eq_some_iff.1 h2;obtain ⟨hc3,hc4⟩:=Hf hc1;obtain ⟨x,hx1,hx2,hx3⟩:=h n c y.1 y.2 hc2;obtain ⟨xs,e1,e2,e3,e4⟩:=ih (k+1) (by simp at hk;omega) (λi z hz=>by
     have:=hes (i+1) z (by simpa using hz);rwa [show k+1+i=k+(i+1) by omega])
    have hlc:c.length=r.sz:=r.len hx1;have hsp:a.spot=none:=by
     have h5:=hc4 0 c[0] (List.getElem?_eq_getElem (by omega));simp only [Addr.add,if_true] at h5;have h6:=Uh h5;by_cases hk0:k*r.sz=0
     ·simpa [hk0] using h6
     ·have h7:=hel 0 (by simp at hk;omega)
      have h8:elems[0]?≠none:=by rw [ne_eq,List.getElem?_eq_none_iff];simp at hk;omega
      obtain ⟨z0,hz0⟩:=Option.ne_none_iff_exists'.1 h8;rw [hz0] at h7;obtain ⟨c0,hd1,hd2⟩:=Option.bind_eq_some_iff.1 h7;obtain ⟨hd3,hd4⟩:=Hf hd1;have:=hd4 0 c0[0] (List.getElem?_eq_getElem (by omega));simp only [Nat.zero_mul,Addr.add,if_true] at this;exact Uh this
    have hadd:∀ m j,(a.add m).add j=⟨a.block,a.off+m+j,none⟩:=by
     intro m j
     cases a with
     | mk ab ao asp=>
      simp only at hsp;subst hsp;rw [Addr.add_lit,Addr.add_lit]
    refine ⟨x::xs,by simp [e1],?_,?_,?_⟩
    ·simp only [szL,List.map_cons,Rows.uptoBulkAll];omega
    ·intro z hz
     rcases List.mem_cons.1 hz with rfl | hz
     ·exact hx3
     ·exact e3 z hz
    ·intro i z hz
     cases i with
     | zero=>
      simp at hz;subst hz;refine ⟨hsp,c,hx1,λj u hu=>?_⟩;have:=hc4 j u hu;rw [hadd] at this;exact this
     | succ i=>
      obtain ⟨_,c',f1,f2⟩:=e4 i z (by simpa using hz);refine ⟨hsp,c',f1,λj u hu=>?_⟩;have:=f2 j u hu;rwa [show k+1+i=k+(i+1) by omega] at this
  obtain ⟨xs,e1,e2,e3,e4⟩:=key elems 0 (by omega) (λi y hy=>by rwa [Nat.zero_add]);refine ⟨xs,⟨_,rfl,?_⟩,by simp only [Rows.uptoBulk];omega,e3⟩
  cases hxs:xs with
  | nil=>
   subst hxs;have h0:len=0:=by simp at e1;omega
   subst h0;exact .inl ⟨rfl,_,_,rfl⟩
  | cons x0 xs0=>
   rw [<- hxs];have hsp:=(e4 0 x0 (by rw [hxs];rfl)).1;refine .inr ⟨a.block,a.off,cap,?_,by omega,λi x hx=>?_⟩
   ·rw [e1,hlen]
    cases a with
    | mk ab ao asp=>simp only at hsp;subst hsp;rfl
   ·obtain ⟨_,c,f1,f2⟩:=e4 i x hx
    exact ⟨c,f1,λj u hu=>by have:=f2 j u hu;rw [Nat.zero_add] at this;exact this⟩
end
end
section
open Go.RowKit
set_option maxRecDepth 100000
theorem Zb1 {α:Type} (l:List α) (h:l.length=4):∃ a0 a1 a2 a3,l=[a0,a1,a2,a3]:=by
 match l,h with
 | [a0,a1,a2,a3],_=>exact ⟨a0,a1,a2,a3,rfl⟩
theorem Zb2 {α:Type} (l:List α) (h:l.length=8):∃ a0 a1 a2 a3 a4 a5 a6 a7,l=[a0,a1,a2,a3,a4,a5,a6,a7]:=by
 match l,h with
 | [a0,a1,a2,a3,a4,a5,a6,a7],_=>exact ⟨a0,a1,a2,a3,a4,a5,a6,a7,rfl⟩
theorem Za3 {α:Type} (l:List α) (h:l.length=11):∃ a0 a1 a2 a3 a4 a5 a6 a7 a8 a9 a10,l=[a0,a1,a2,a3,a4,a5,a6,a7,a8,a9,a10]:=by
 match l,h with
 | [a0,a1,a2,a3,a4,a5,a6,a7,a8,a9,a10],_=>exact ⟨a0,a1,a2,a3,a4,a5,a6,a7,a8,a9,a10,rfl⟩
def Ui (x:S10):Nat:=1+(λ_=>1) x.kind+(λs:ByteArray=>s.size+1) x.text+(λ_=>1) x.four+(λ_=>1) x.six0+(λ_=>1) x.six1+(λ_=>1) x.six2+(λ_=>1) x.six3+(λ_=>1) x.six4+(λ_=>1) x.six5+(λ_=>1) x.six6+(λ_=>1) x.six7
def Zcl (x:S10):Prop:=(InK .i64) x.kind/\(λ_=>True) x.text/\(InK .u32) x.four/\(InK .u16) x.six0/\(InK .u16) x.six1/\(InK .u16) x.six2/\(InK .u16) x.six3/\(InK .u16) x.six4/\(InK .u16) x.six5/\(InK .u16) x.six6/\(InK .u16) x.six7
theorem Hq {H:Type} {enc:TypeId×Value->H} {W:World}:Xt enc Tryz.prog W 27 Yv Ui Zcl:=by
 intro fuel cs d ps h;obtain ⟨xs,n,_,hx,hl,hn,hf⟩:=DataW.trod_struct Tryz.underlying27 h;have hl:cs.length=11:=hl.trans (by kernel_rfl);have hn:xs.length=4:=hn;obtain ⟨y0,y1,y2,y3,rfl⟩:=Zb1 xs hn;obtain ⟨c0,c1,c2,c3,c4,c5,c6,c7,c8,c9,c10,rfl⟩:=Za3 cs hl;simp only [Prod.mk.injEq] at hx;obtain ⟨rfl,_⟩:=hx;have g0:DataW.trod enc Tryz.prog W 0 (λ_=>true) true n 3 ((([c0,c1,c2,c3,c4,c5,c6,c7,c8,c9,c10]:List Value).drop 0).take (Tryz.prog.cellsOf 3))=some y0:=hf 0 _ rfl;rw [show Tryz.prog.cellsOf 3=1 by kernel_rfl] at g0;obtain ⟨x0,r0,s0,w0⟩:=(Xt.int Tryz.underlying3) n [c0] _ _ g0;have g1:DataW.trod enc Tryz.prog W 0 (λ_=>true) true n 9 ((([c0,c1,c2,c3,c4,c5,c6,c7,c8,c9,c10]:List Value).drop 1).take (Tryz.prog.cellsOf 9))=some y1:=hf 1 _ rfl;rw [show Tryz.prog.cellsOf 9=1 by kernel_rfl] at g1;obtain ⟨x1,r1,s1,w1⟩:=(Xt.str Tryz.underlying9) n [c1] _ _ g1;have g2:DataW.trod enc Tryz.prog W 0 (λ_=>true) true n 22 ((([c0,c1,c2,c3,c4,c5,c6,c7,c8,c9,c10]:List Value).drop 2).take (Tryz.prog.cellsOf 22))=some y2:=hf 2 _ rfl;rw [show Tryz.prog.cellsOf 22=1 by kernel_rfl] at g2;obtain ⟨x2,r2,s2,w2⟩:=(Xt.int Tryz.underlying22) n [c2] _ _ g2;have g3:DataW.trod enc Tryz.prog W 0 (λ_=>true) true n 25 ((([c0,c1,c2,c3,c4,c5,c6,c7,c8,c9,c10]:List Value).drop 3).take (Tryz.prog.cellsOf 25))=some y3:=hf 3 _ rfl;rw [show Tryz.prog.cellsOf 25=8 by kernel_rfl] at g3;obtain ⟨ys3,n3,_,hy3,_,hm3,he3⟩:=DataW.trod_array Tryz.underlying25 g3;obtain ⟨z3_0,z3_1,z3_2,z3_3,z3_4,z3_5,z3_6,z3_7,rfl⟩:=Zb2 ys3 hm3;subst hy3;have g3_0:DataW.trod enc Tryz.prog W 0 (λ_=>true) true n3 23 (((((([c0,c1,c2,c3,c4,c5,c6,c7,c8,c9,c10]:List Value).drop 3).take 8)).drop (0*Tryz.prog.cellsOf 23)).take (Tryz.prog.cellsOf 23))=some z3_0:=he3 0 (by decide);rw [show Tryz.prog.cellsOf 23=1 by kernel_rfl] at g3_0;obtain ⟨x3,r3,s3,w3⟩:=(Xt.int Tryz.underlying23) n3 [c3] _ _ g3_0;have g3_1:DataW.trod enc Tryz.prog W 0 (λ_=>true) true n3 23 (((((([c0,c1,c2,c3,c4,c5,c6,c7,c8,c9,c10]:List Value).drop 3).take 8)).drop (1*Tryz.prog.cellsOf 23)).take (Tryz.prog.cellsOf 23))=some z3_1:=he3 1 (by decide);rw [show Tryz.prog.cellsOf 23=1 by kernel_rfl] at g3_1;obtain ⟨x4,r4,s4,w4⟩:=(Xt.int Tryz.underlying23) n3 [c4] _ _ g3_1;have g3_2:DataW.trod enc Tryz.prog W 0 (λ_=>true) true n3 23 (((((([c0,c1,c2,c3,c4,c5,c6,c7,c8,c9,c10]:List Value).drop 3).take 8)).drop (2*Tryz.prog.cellsOf 23)).take (Tryz.prog.cellsOf 23))=some z3_2:=he3 2 (by decide);rw [show Tryz.prog.cellsOf 23=1 by kernel_rfl] at g3_2;obtain ⟨x5,r5,s5,w5⟩:=(Xt.int Tryz.underlying23) n3 [c5] _ _ g3_2;have g3_3:DataW.trod enc Tryz.prog W 0 (λ_=>true) true n3 23 (((((([c0,c1,c2,c3,c4,c5,c6,c7,c8,c9,c10]:List Value).drop 3).take 8)).drop (3*Tryz.prog.cellsOf 23)).take (Tryz.prog.cellsOf 23))=some z3_3:=he3 3 (by decide);rw [show Tryz.prog.cellsOf 23=1 by kernel_rfl] at g3_3;obtain ⟨x6,r6,s6,w6⟩:=(Xt.int Tryz.underlying23) n3 [c6] _ _ g3_3
 have g3_4:DataW.trod enc Tryz.prog W 0 (λ_=>true) true n3 23 (((((([c0,c1,c2,c3,c4,c5,c6,c7,c8,c9,c10]:List Value).drop 3).take 8)).drop (4*Tryz.prog.cellsOf 23)).take (Tryz.prog.cellsOf 23))=some z3_4:=he3 4 (by decide);rw [show Tryz.prog.cellsOf 23=1 by kernel_rfl] at g3_4;obtain ⟨x7,r7,s7,w7⟩:=(Xt.int Tryz.underlying23) n3 [c7] _ _ g3_4;have g3_5:DataW.trod enc Tryz.prog W 0 (λ_=>true) true n3 23 (((((([c0,c1,c2,c3,c4,c5,c6,c7,c8,c9,c10]:List Value).drop 3).take 8)).drop (5*Tryz.prog.cellsOf 23)).take (Tryz.prog.cellsOf 23))=some z3_5:=he3 5 (by decide);rw [show Tryz.prog.cellsOf 23=1 by kernel_rfl] at g3_5;obtain ⟨x8,r8,s8,w8⟩:=(Xt.int Tryz.underlying23) n3 [c8] _ _ g3_5;have g3_6:DataW.trod enc Tryz.prog W 0 (λ_=>true) true n3 23 (((((([c0,c1,c2,c3,c4,c5,c6,c7,c8,c9,c10]:List Value).drop 3).take 8)).drop (6*Tryz.prog.cellsOf 23)).take (Tryz.prog.cellsOf 23))=some z3_6:=he3 6 (by decide);rw [show Tryz.prog.cellsOf 23=1 by kernel_rfl] at g3_6;obtain ⟨x9,r9,s9,w9⟩:=(Xt.int Tryz.underlying23) n3 [c9] _ _ g3_6;have g3_7:DataW.trod enc Tryz.prog W 0 (λ_=>true) true n3 23 (((((([c0,c1,c2,c3,c4,c5,c6,c7,c8,c9,c10]:List Value).drop 3).take 8)).drop (7*Tryz.prog.cellsOf 23)).take (Tryz.prog.cellsOf 23))=some z3_7:=he3 7 (by decide);rw [show Tryz.prog.cellsOf 23=1 by kernel_rfl] at g3_7;obtain ⟨x10,r10,s10,w10⟩:=(Xt.int Tryz.underlying23) n3 [c10] _ _ g3_7;obtain rfl:c0=.int .i64 x0:=by simpa using (show [c0]=[.int .i64 x0] from r0)
 obtain rfl:c1=.string x1:=by simpa using (show [c1]=[.string x1] from r1)
 obtain rfl:c2=.int .u32 x2:=by simpa using (show [c2]=[.int .u32 x2] from r2)
 obtain rfl:c3=.int .u16 x3:=by simpa using (show [c3]=[.int .u16 x3] from r3)
 obtain rfl:c4=.int .u16 x4:=by simpa using (show [c4]=[.int .u16 x4] from r4)
 obtain rfl:c5=.int .u16 x5:=by simpa using (show [c5]=[.int .u16 x5] from r5)
 obtain rfl:c6=.int .u16 x6:=by simpa using (show [c6]=[.int .u16 x6] from r6)
 obtain rfl:c7=.int .u16 x7:=by simpa using (show [c7]=[.int .u16 x7] from r7)
 obtain rfl:c8=.int .u16 x8:=by simpa using (show [c8]=[.int .u16 x8] from r8)
 obtain rfl:c9=.int .u16 x9:=by simpa using (show [c9]=[.int .u16 x9] from r9)
 obtain rfl:c10=.int .u16 x10:=by simpa using (show [c10]=[.int .u16 x10] from r10)
 refine ⟨⟨x0,x1,x2,x3,x4,x5,x6,x7,x8,x9,x10⟩,rfl,?_,⟨w0,w1,w2,w3,w4,w5,w6,w7,w8,w9,w10⟩⟩;try dsimp only at s0
 try dsimp only at s1
 try dsimp only at s2
 try dsimp only at s3
 try dsimp only at s4
 try dsimp only at s5
 try dsimp only at s6
 try dsimp only at s7
 try dsimp only at s8
 try dsimp only at s9
 try dsimp only at s10
 simp only [Ui,List.map_cons,List.map_nil,Rows.uptoBulk,Rows.uptoBulkAll];omega
end
section
open Go.RowKit
theorem Zc2 {x:S10} (w:Zcl x):Six.ok x:=by
 obtain ⟨_,_,h,a0,a1,a2,a3,a4,a5,a6,a7⟩:=w;refine ⟨by simp only [InK] at h;omega,?_⟩;simp only [InK] at a0 a1 a2 a3 a4 a5 a6 a7;intro a ha;simp only [S10.six,List.mem_cons,List.not_mem_nil,or_false] at ha
 rcases ha with rfl | rfl | rfl | rfl | rfl | rfl | rfl | rfl<;>omega
end
section
open Go Go.ChangeShapes
section
variable {H:Type} {enc:TypeId×Value->H}
theorem Zbd {C:Checked} {os:Os} {f:FuncId} {fn:Func} {s:OpenSpec} {k:(H:Type)->List (DataW H)->Bool} (hk:s.cond=some k) {conds:List PathCond} {apart:Bool} {l:List (String×DataW Unit)} (modest:Bool) (w0:World) (args:Array Value) (fuel:Nat) (hos:w0.os=os)
  (hsh:(w0.forCall (λ_ _=>0) ⟨#[],args,[]⟩).Shaped C.prog)
  (hok:Input.okWideB C.prog (w0.forCall (λ_ _=>0) ⟨#[],args,[]⟩) f ⟨#[],args,[]⟩=true)
  {x:List (DataW H)×List (DataW H)×List MemPlace} (hx:DataW.whole enc C.prog (w0.forCall (λ_ _=>0) ⟨#[],args,[]⟩).memory fn.params.toList s.vars apart args.toList fuel=some x)
  (hconds:conds.all (PathCond.test C.prog ⟨fn.params.toList,x.1,s.bare.plain.varTypes C.prog,x.2.1⟩)=true) (hkk:k H (x.1++x.2.1)=true)
  (hsz:s.bare.sizedB enc C.prog fn apart (w0.forCall (λ_ _=>0) ⟨#[],args,[]⟩).memory args fuel=true)
  (hl:laidMetH C.prog l (w0.forCall (λ_ _=>0) ⟨#[],args,[]⟩).memory):
  ∃ (w:World) (tape:Tape) (i:Input),w.os=os/\(w.forCall tape i).Shaped C.prog/\i.vars=[]/\Input.okWide C.prog (w.forCall tape i) .any w.heap.size f i/\
   ((s.pre enc C.prog fn conds apart (w.forCall tape i).memory i.args/\laidMetH C.prog l (w.forCall tape i).memory)/\sizedMet enc C.prog fn s apart (w.forCall tape i).memory i.args)/\({ modest:=modest }:Assume).holds C.prog (lone (Frame.enter C.prog f i.args .normal) [] (w.forCall tape i)):=
 ⟨w0,λ_ _=>0,⟨#[],args,[]⟩,hos,hsh,(Input.okWide_of_okWideB (base:=0) hok).1,(Input.okWide_of_okWideB hok).2,
  ⟨⟨(OpenSpec.pre_some hk conds apart _ _).2 ⟨x.1,x.2.1,x.2.2,DataW.Whole_of_whole hx,hconds,hkk⟩,hl⟩,sizedMet_of_sizedB hsz⟩,by
  simp only [Assume.holds]
  exact ⟨by simp,by simp,λ_=>Modest.zero,by simp,by simp⟩⟩
end
end
section
open Go Go.ChangeShapes Go.RowKit
section
variable {H:Type} {enc:TypeId×Value->H}
theorem Ve {a:Assume} {C:Checked} {os:Os} {f:FuncId} {fn:Func} {s:OpenSpec} {k:(H:Type)->List (DataW H)->Bool} (hk:s.cond=some k) {F:Stop.Interp} {conds:List PathCond} {apart fresh handsOn again:Bool} {l:List (String×DataW Unit)}
  (own:ownKnob C.prog.godebug=none) (started:os.Started) (noInit:C.prog.inits.idxOf? f=none) (hfn:C.prog.funcs[f]?=some fn)
  (witness:∃ (w:World) (tape:Tape) (i:Input),w.os=os/\(w.forCall tape i).Shaped C.prog/\i.vars=[]/\Input.okWide C.prog (w.forCall tape i) .any w.heap.size f i/\
   ((s.pre enc C.prog fn conds apart (w.forCall tape i).memory i.args/\laidMetH C.prog l (w.forCall tape i).memory)/\sizedMet enc C.prog fn s apart (w.forCall tape i).memory i.args)/\a.holds C.prog (lone (Frame.enter C.prog f i.args .normal) [] (w.forCall tape i)))
  (contract:∀ (W:World) (base:Nat) (args:Array Value) (ds gs:List (DataW H)) (before:List MemPlace),
   (∀ (j:Nat) t v,fn.params[j]?=some t->args[j]?=some v->Value.okWide C.prog W .any base t v)->
   DataW.Whole enc C.prog fn.params.toList s.vars apart W args.toList ds gs before->
   conds.all (PathCond.test C.prog ⟨fn.params.toList,ds,s.bare.plain.varTypes C.prog,gs⟩)=true->k H (ds++gs)=true->
   a.holds C.prog (lone (Frame.enter C.prog f args .normal) [] W)->laidMetH C.prog l W->
   Calls C.prog f args W λe W'=>∃ v,e=.returned v/\(s.at F).post enc C.prog fn apart fresh handsOn again W args v W'):
  ReturnsInHanded a C os f .any (λw args=>(s.pre enc C.prog fn conds apart w args/\laidMetH C.prog l w)/\sizedMet enc C.prog fn s apart w args) ((s.at F).post enc C.prog fn apart fresh handsOn again):=by
 refine returnsInHanded_of_calls own started noInit witness ?_;intro w tape i _ _ _ hok hpre hholds;obtain ⟨_,_,_,fn',hfn',_,_,_,_,hval⟩:=hok;have e:fn'=fn:=Option.some.inj (hfn'.symm.trans hfn);subst e;obtain ⟨ds,gs,before,hw,hc,hkk⟩:=(OpenSpec.pre_some hk conds apart _ _).1 hpre.1.1;have hw':=DataW.Whole.of_heap (w':=w.forCall tape i) (by rfl) hw;refine (contract (w.forCall tape i) w.heap.size i.args ds gs before hval hw' hc hkk hholds (laidMetH.of_heap (by rfl) hpre.1.2)).mono λe W' ⟨v,he,hp⟩=>?_;subst he;exact ChangeSpec.post_blind hp
end
theorem Gz {W:World} (h:laidMetH Tryz.prog Rows.hostTellsUptoRow.laid W):Jw W:=by
 have h1:=(laidMetH_iff.1 h).1.filter (λx=>x.1 == "internal/strconv.uint64pow10");have h2:laidMet Tryz.prog [("internal/strconv.uint64pow10",Lib.tabData .u64 Lib.pow10Tab)] W:=h1;exact Lib.tabIs_of_head (g:=1) (t:=164) (e:=97) (n:=20) (by kernel_rfl) (by kernel_rfl) (by kernel_rfl) (by kernel_rfl) (by kernel_rfl) (by kernel_rfl) h2
end
section
open Go.ChangeShapes Go.WideShapes Go.ChangeAt Go.RowKit Go.Joins
set_option linter.constructorNameAsVariable false
namespace RowHostTells
theorem own:ownKnob Tryz.prog.godebug=none:=by kernel_rfl
theorem Gr:laidOutB Tryz.prog=true:=by kernel_rfl
set_option maxRecDepth 100000 in
theorem lifted (os:Os) (started:os.Started) (H:Type) (enc:TypeId×Value->H) (F:Stop.Interp):
  ReturnsInHanded {} Tryz.checked os 3 .any (λw args=>((Rows.OpenSpec.upto Rows.hostTellsSpec).pre enc Tryz.prog Tryz.f3 Rows.hostTellsUptoRow.domain false w args/\laidMetH Tryz.prog Rows.hostTellsUptoRow.laid w)/\sizedMet enc Tryz.prog Tryz.f3 (Rows.OpenSpec.upto Rows.hostTellsSpec) false w args) (((Rows.OpenSpec.upto Rows.hostTellsSpec).at F).post enc Tryz.prog Tryz.f3 false true false false):=by
 refine Ve (C:=Tryz.checked) (s:=Rows.OpenSpec.upto Rows.hostTellsSpec) (k:=Rows.uptoSmall) rfl own started (by kernel_rfl) Tryz.func3
  (Zbd (enc:=enc) (C:=Tryz.checked) (s:=Rows.OpenSpec.upto Rows.hostTellsSpec) (k:=Rows.uptoSmall) rfl false (World.laidAll Tryz.prog os Rows.hostTellsUptoRow.laid) #[.agg #[.int .i64 0,.string ⟨#[]⟩,.int .u32 0,.int .u16 0,.int .u16 0,.int .u16 0,.int .u16 0,.int .u16 0,.int .u16 0,.int .u16 0,.int .u16 0],.agg #[.int .i64 0,.string ⟨#[]⟩,.int .u32 0,.int .u16 0,.int .u16 0,.int .u16 0,.int .u16 0,.int .u16 0,.int .u16 0,.int .u16 0,.int .u16 0]] 8 (World.laidAll_os _ _ _) (World.shaped_of_ZipB (by kernel_rfl) (by kernel_rfl)) (by kernel_rfl)
   (x:=([(.agg [(.lit (.int .i64 0)),(.lit (.string [])),(.lit (.int .u32 0)),(.agg [(.lit (.int .u16 0)),(.lit (.int .u16 0)),(.lit (.int .u16 0)),(.lit (.int .u16 0)),(.lit (.int .u16 0)),(.lit (.int .u16 0)),(.lit (.int .u16 0)),(.lit (.int .u16 0))])]),(.agg [(.lit (.int .i64 0)),(.lit (.string [])),(.lit (.int .u32 0)),(.agg [(.lit (.int .u16 0)),(.lit (.int .u16 0)),(.lit (.int .u16 0)),(.lit (.int .u16 0)),(.lit (.int .u16 0)),(.lit (.int .u16 0)),(.lit (.int .u16 0)),(.lit (.int .u16 0))])])],[],[])) (by kernel_rfl) rfl rfl (by kernel_rfl) (by rw [MakeChecks.laidMetH_plain _ _ _ (by kernel_rfl)];exact laidMet_laidAll _ (by kernel_rfl) (by kernel_rfl))) ?_
 intro W base args ds gs before hval0 hW hk0 hk _ hlaid;have hval:∀ (j:Nat) t v,Tryz.f3.params[j]?=some t->args[j]?=some v->Value.okWide Tryz.prog W .any base t v:=hval0;have hW':=hW;obtain ⟨p,q,hA0,hV,rfl,hfz,hnd⟩:=hW;have hA:DataW.TrodAll enc Tryz.prog W 0 (λ_=>true) true Tryz.f3.params.toList args.toList ds p:=hA0;rw [Tryz.params3] at hA hval;obtain ⟨v0,vs0,d0,ds0,p0,q0,hargs,rfl,rfl,h0,r0⟩:=trodAll_cons hA;obtain ⟨v1,vs1,d1,ds1,p1,q1,rfl,rfl,rfl,h1,r1⟩:=trodAll_cons r0;obtain ⟨rfl,rfl,rfl⟩:=trodAll_nil r1;obtain rfl:args=#[v0,v1]:=by cases args;simp_all
 obtain ⟨rfl,rfl⟩:=trodVars_none hV;have k0:=h0;have lt0:∀ x∈p0,x.block<W.heap.size:=by obtain ⟨m,hm⟩:=k0;exact DataW.trod_lt m _ _ _ hm
 have k1:=h1;have lt1:∀ x∈p1,x.block<W.heap.size:=by obtain ⟨m,hm⟩:=k1;exact DataW.trod_lt m _ _ _ hm
 obtain ⟨c0,rfl,_⟩:=okWide_struct Tryz.underlying27 (hval 0 27 v0 rfl rfl);obtain ⟨m0,hm0⟩:=h0;obtain ⟨x0,f0,s0,w0⟩:=Hq m0 _ _ _ hm0;obtain ⟨c1,rfl,_⟩:=okWide_struct Tryz.underlying27 (hval 1 27 v1 rfl rfl);obtain ⟨m1,hm1⟩:=h1;obtain ⟨x1,f1,s1,w1⟩:=Hq m1 _ _ _ hm1;have hbulk:Rows.uptoBulkAll [d0,d1]<=1048576:=of_decide_eq_true hk;have hsz:Ui x0+Ui x1<=1048576:=by simp only [Rows.uptoBulkAll] at hbulk;omega
 have hT:Zb.f x0 x1=some true:=Gh x0 x1 (Zc2 w0) (by simp only [Ui] at hsz;omega) (by simp only [Ui] at hsz;omega);refine ((Zb.c (St.refl W) (Gz hlaid) (c0:=c0.toList) (c1:=c1.toList) f0 f1 hT).2.mono λe W' h=>?_);obtain ⟨v,rfl,rfl,hs⟩:=h;have bel:=hs.below;exact ⟨_,rfl,_,_,_,[],_,[],hW',trodAll_mk1 (shut_bool Tryz.underlying4 _),(trodAll_cons_mk (Below.trod Gr (by kernel_rfl) (of_decide_eq_true (by kernel_rfl)) k0 bel lt0) (trodAll_cons_mk (Below.trod Gr (by kernel_rfl) (of_decide_eq_true (by kernel_rfl)) k1 bel lt1) trodAll_mk0)),rfl,bel.frame _,λh=>by cases h⟩
end RowHostTells
set_option maxRecDepth 100000 in
theorem Jl:joinedFacts Tryz.prog 3 Tryz.f3 (Rows.OpenSpec.upto Rows.hostTellsSpec).bare Rows.hostTellsUptoRow=true:=by kernel_rfl
set_option maxRecDepth 100000 in
theorem Q6:Rows.HostTellsUptoSaid:=
 OpenClaim.holds_of_cond 3 Tryz.f3 rfl rfl rfl rfl rfl rfl rfl ⟨rfl,rfl,rfl,rfl,rfl⟩ rfl rfl rfl rfl rfl (by kernel_rfl) Tryz.func3 Jl
  (of_decide_eq_true (by kernel_rfl)) (by unfold Func.isWrapper;first | (rw [if_pos (by decide +kernel)];kernel_rfl) | (rw [if_neg (by decide +kernel)];exact ⟨rfl,rfl⟩))
  (λos started H enc _ F=>RowHostTells.lifted os started H enc F)
#print axioms Q6
end
section
open Go.ChangeShapes Go.WideShapes Go.ChangeAt
theorem hostTells_card:Rows.HostTellsUptoCardSaid:=
 Claim7.holds_tied_plain_at .later [] [.data,.data,.data,.data,.pinned] true (true,"bb868fcc61e3da6a4f51388e6964541842154aca96ac53447370a6c3efb006b7") false Q6 (λ_ h=>by cases h) (by kernel_rfl) (λ_ h=>by cases h) hostTellsUpto_row_tie rfl ⟨rfl,rfl⟩ (by kernel_rfl) rfl
  (λf fn hf hfn=>by
   obtain rfl:f=3:=Option.some.inj ((show Tryz.prog.funcNamed "postern/posternlaw23.HostTells"=some 3 by kernel_rfl).symm.trans hf) |>.symm
   obtain rfl:fn=Tryz.f3:=(Option.some.inj (Tryz.func3.symm.trans hfn)).symm
   exact ⟨by kernel_rfl,λj t ht=>by
    rw [Tryz.params3] at ht
    have hm:t∈[27]:=by simpa using Array.mem_of_getElem? ht
    have hall:([27].all λu=>!Tryz.prog.wantsStandIn u)=true:=by kernel_rfl
    exact (show Tryz.prog.wantsStandIn t=false by simpa using List.all_eq_true.1 hall t hm)⟩)
  (by kernel_rfl)
#print axioms hostTells_card
end
end Go.Proofs.YtkjnmjhkekknnaaGreatDoor
