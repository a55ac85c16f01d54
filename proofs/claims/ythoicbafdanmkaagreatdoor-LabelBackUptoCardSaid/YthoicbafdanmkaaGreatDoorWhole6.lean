/- Texts of this repo, merged for the claim: PureLF, PureLG, PureLH, PureLK, PureLN, PureLM, PureLQ, PureLT, PureLP, PureLU, EngR, PureLO, PureLV, Reads, Few, LaidRow, RowLabelBack, CardLabelBack. -/
import Derived.Test.YthoicbafdanmkaaGreatDoorWhole4
import Derived.Test.YthoicbafdanmkaaGreatDoorWhole3
import Derived.Test.YthoicbafdanmkaaGreatDoorWhole5
import Derived.Test.YthoicbafdanmkaaGreatDoorWhole0
import Derived.Test.YthoicbafdanmkaaGreatDoorWhole1
import Derived.Test.YthoicbafdanmkaaGreatDoorRows
import Derived.ChangeArms
import Derived.JoinedCond
import Derived.Lay
import Derived.LaidOnce
import Derived.LaidLaws
import Derived.WalkKit
import Derived.ProofKit
import Derived.OpenShut
import Derived.ShutString
import Derived.ChangeOld
import Derived.Below
import Derived.Lib.SmallJoins
import Derived.Test.YthoicbafdanmkaaGreatDoorCards
import Derived.Test.YthoicbafdanmkaaGreatDoorTie
import Derived.SevenTiedAt
/- Plain laws: Punycode is read alike by the program and by the document. Own work of this repo. -/
namespace Go.Proofs.YthoicbafdanmkaaGreatDoor
open Go.IntKind (i8 i16 i32 i64 u8 u16 u32 u64)
open Go.RowKit

theorem Zvd (a0:List Int→Int→Int→Int→Int→Option (List Int×Int×Int)) (aa:List Int) (ag ae ac ab ao a7 p:Int) (hp:i64.wrap (ac+i64.wrap (ao*ab))=p) {i:Nat} (hm:p.tmod (i64.wrap ((aa.length:Int)+1))=(i:Int)) (hl:aa.length+1≤Z5):
  ∀ (j:Nat) (z:Int) (k:Nat),i≤j→j≤aa.length→j<k→
   Yg.l1 a0 k aa ag ae ac ab ao a7 (aa.take j++z::aa.drop j) (j:Int)=
    a0 (H3 aa (i:Int) (i32.wrap (i64.wrap (ag+(i64.wrap (p.tdiv (i64.wrap ((aa.length:Int)+1)))))))) (i64.wrap (ae+1)) (i64.wrap (ag+(i64.wrap (p.tdiv (i64.wrap ((aa.length:Int)+1)))))) (i64.wrap ((i:Int)+1)) a7:=by
 have hb:=hl
 unfold Z5 at hb
 intro j
 induction j with
 | zero=>
  intro z k h1 h2 h3
  obtain ⟨k,rfl⟩:∃ q,k=q+1:=⟨k-1,by omega⟩
  obtain rfl:i=0:=by omega
  simp only [Yg.l1,hp,hm]
  rw [if_neg (by omega),if_pos ⟨by omega,by simp<;>omega⟩]
  simp [H3]
 | succ j ih=>
  intro z k h1 h2 h3
  obtain ⟨k,rfl⟩:∃ q,k=q+1:=⟨k-1,by omega⟩
  have hlen:(aa.take (j+1)++z::aa.drop (j+1)).length=aa.length+1:=by simp;omega
  simp only [Yg.l1,hp,hm]
  by_cases c:i=j+1
  ·subst c
   rw [if_neg (by omega),if_pos ⟨by omega,by rw [hlen];omega⟩]
   congr 1
   have e:((j+1:Nat):Int).toNat=j+1:=by omega
   rw [H3,e,List.set_append_right _ _ (by simp;omega)]
   congr 1
   have:j+1-(aa.take (j+1)).length=0:=by simp;omega
   rw [this];rfl
  ·have w1:i64.wrap (((j+1:Nat):Int)-1)=(j:Int):=by rw [w64 (by omega) (by omega)];omega
   rw [if_pos (by omega),w1,if_pos ⟨by omega,by rw [hlen];omega⟩,if_pos ⟨by omega,by rw [hlen];omega⟩]
   have hj:j<aa.length:=by omega
   have e:((j+1:Nat):Int).toNat=j+1:=by omega
   have er:rd (aa.take (j+1)++z::aa.drop (j+1)) (j:Int)=aa[j]:=by
    unfold rd
    have e2:((j:Nat):Int).toNat=j:=by omega
    rw [e2]
    rw [List.getD_eq_getElem?_getD,List.getElem?_append_left (by simp;omega),List.getElem?_take,if_pos (by omega),List.getElem?_eq_getElem hj];rfl
   have es:(aa.take (j+1)++z::aa.drop (j+1)).set (j+1) aa[j]=aa.take j++aa[j]::aa.drop j:=by
    rw [List.set_append_right _ _ (by simp;omega)]
    have:j+1-(aa.take (j+1)).length=0:=by simp;omega
    have e3:aa.take (j+1)=aa.take j++[aa[j]]:=by rw [List.take_add_one,List.getElem?_eq_getElem hj];rfl
    have e4:aa.drop j=aa[j]::aa.drop (j+1):=List.drop_eq_getElem_cons hj
    rw [this,List.set_cons_zero,e3,List.append_assoc,e4];rfl
   rw [e,er,es]
   exact ih aa[j] k (by omega) (by omega) (by omega)
def Zyb (a0:List Int→Int→Int→Int→Int→Option (List Int×Int×Int)) (aa:List Int) (ag ai ae ac ab ao:Int):Option (List Int×Int×Int):=
 (Q9.f (i64.wrap ((i64.wrap (ac+(i64.wrap (ao*ab))))-ai)) (i64.wrap ((aa.length:Int)+1)) (decide (ai=0))).bind fun a7=>(if (i64.wrap ((aa.length:Int)+1))≠0 then (if 1114111<(i64.wrap (ag+(i64.wrap ((i64.wrap (ac+(i64.wrap (ao*ab)))).tdiv (i64.wrap ((aa.length:Int)+1)))))) then (some (([]:List Int),ae,142)) else ((Q5.f (i32.wrap (i64.wrap (ag+(i64.wrap ((i64.wrap (ac+(i64.wrap (ao*ab)))).tdiv (i64.wrap ((aa.length:Int)+1)))))))).bind fun b2=>(if (!b2)=true then (some (([]:List Int),ae,143)) else (if aa.length+([0]).length≤most then (Yg.l1 a0 K0 aa ag ae ac ab ao a7 (aa++([0])) (i64.wrap (((aa++([0])).length:Int)-1))) else none)))) else none)
theorem Zem (s:ByteArray) (i:Int) (h0:0≤i) (h1:i<(s.size:Int)):0≤bt s i∧bt s i<256:=by
 rw [Zdt]
 obtain ⟨n,hn⟩:=Zge (s:=s) (Zf5 (D:=Qs s) h0 (by rw [X0];exact h1))
 rw [hn]
 have:=n.isLt
 omega
theorem Ztd (a0:List Int→Int→Int→Int→Int→Option (List Int×Int×Int)) (s:ByteArray) (hs:s.size≤Z5) (aa:List Int) (ag ai aj:Int):
  ∀ (k:Nat) (ae ac ab ar:Int),(s.size:Int)-ae<(k:Int)→0≤ae→ae≤(s.size:Int)→0≤ac→ac≤2147483647→1≤ab→ab≤2147483647→36≤ar→ar≤36*(ae+1)→
   ∃ pl e at' i',Y8.l1 k 36 1 26 38 700 72 128 45 s aj ae ac ab ar=some (pl,e,at',i')∧(e≠0→Yg.l2 a0 k s aa ag ai aj ae ac ab ar=some ([],pl,e))∧
    (e=0→ae<at'∧at'≤(s.size:Int)∧ac≤i'∧i'≤2147483647∧∃ ac' ab' ao',i64.wrap (ac'+i64.wrap (ao'*ab'))=i'∧Yg.l2 a0 k s aa ag ai aj ae ac ab ar=Zyb a0 aa ag ai (at'-1) ac' ab' ao'):=by
 have hb:=hs
 unfold Z5 at hb
 intro k
 induction k with
 | zero=>intro ae ac ab ar h;omega
 | succ k ih=>
  intro ae ac ab ar h1 h2 h3 h4 h5 h6 h7 h8 h9
  simp only [Y8.l1,Yg.l2]
  by_cases c:ae=(s.size:Int)
  ·rw [if_pos c,if_pos c]
   exact ⟨_,_,_,_,rfl,fun _=>rfl,fun h=>absurd h (by decide)⟩
  ·rw [if_neg c,if_neg c,if_pos ⟨h2,by omega⟩,if_pos ⟨h2,by omega⟩]
   obtain ⟨r1,r2⟩:=Zem s ae h2 (by omega)
   obtain ⟨d,g1,g2,g3⟩:=Zhg _ r1 r2
   rw [show V5.f ⟨36,1,26,38,700,72,128,45⟩ (bt s ae)=some d from by rw [Zli _ r1 r2,g1],g1,Option.bind_some,Option.bind_some]
   by_cases c2:d<0
   ·rw [if_pos c2,if_pos c2]
    exact ⟨_,_,_,_,rfl,fun _=>rfl,fun h=>absurd h (by decide)⟩
   ·have hdb:0≤d*ab∧d*ab≤75161927645:=by
     constructor
     ·exact Int.mul_nonneg (by omega) (by omega)
     ·have:d*ab≤35*ab:=Int.mul_le_mul_of_nonneg_right (by omega) (by omega)
      omega
    have w1:i64.wrap (d*ab)=d*ab:=w64 (by omega) (by omega)
    have w2:i64.wrap (ac+d*ab)=ac+d*ab:=w64 (by omega) (by omega)
    have w3:i64.wrap (ae+1)=ae+1:=w64 (by omega) (by omega)
    have w4:i64.wrap (ar+36)=ar+36:=w64 (by omega) (by omega)
    rw [if_neg c2,if_neg c2]
    by_cases c3:2147483647<i64.wrap (ac+i64.wrap (d*ab))
    ·rw [if_pos c3,if_pos c3]
     exact ⟨_,_,_,_,rfl,fun _=>rfl,fun h=>absurd h (by decide)⟩
    ·obtain ⟨t,t1,t2,t3⟩:=Zq7 ar aj
     rw [if_neg c3,if_neg c3,show Kl.f ⟨36,1,26,38,700,72,128,45⟩ ar aj=some t from by rw [Zkc,t1],t1,Option.bind_some,Option.bind_some]
     by_cases c4:d<t
     ·rw [if_pos c4,if_pos c4]
      refine ⟨_,_,_,_,rfl,fun h=>absurd rfl h,fun _=>⟨by omega,by omega,by rw [w1,w2];omega,by omega,ac,ab,d,rfl,?_⟩⟩
      rw [w3,show ae+1-1=ae by omega];rfl
     ·rw [if_neg c4,if_neg c4]
      have w5:i64.wrap (36-t)=36-t:=w64 (by omega) (by omega)
      have hab:0≤ab*(36-t)∧ab*(36-t)≤75161927645∧1≤ab*(36-t):=by
       have a1:ab*1≤ab*(36-t):=Int.mul_le_mul_of_nonneg_left (by omega) (by omega)
       have a2:ab*(36-t)≤ab*35:=Int.mul_le_mul_of_nonneg_left (by omega) (by omega)
       omega
      have w6:i64.wrap (ab*(36-t))=ab*(36-t):=w64 (by omega) (by omega)
      by_cases c5:2147483647<i64.wrap (ab*i64.wrap (36-t))
      ·rw [if_pos c5,if_pos c5]
       exact ⟨_,_,_,_,rfl,fun _=>rfl,fun h=>absurd h (by decide)⟩
      ·rw [if_neg c5,if_neg c5]
       rw [w5,w6] at c5 ⊢
       rw [w1,w2] at c3 ⊢
       rw [w3,w4]
       obtain ⟨pl,e,at',i',q1,q2,q3⟩:=ih (ae+1) (ac+d*ab) (ab*(36-t)) (ar+36) (by omega) (by omega) (by omega) (by omega) (by omega) (by omega) (by omega) (by omega) (by omega)
       refine ⟨pl,e,at',i',q1,q2,fun he=>?_⟩
       obtain ⟨p1,p2,p3,p4⟩:=q3 he
       exact ⟨by omega,p2,by omega,p4⟩
theorem Zm0 (x:Int):Um.f x=Q5.f x:=by
 simp only [Um.f,Yz.f,Yz.j2,Yz.j1,Q5.f,Q5.j1]
 by_cases a:0≤x
 ·rw [if_pos a,if_pos a]
  by_cases b:x<55296
  ·simp [b]
  ·simp only [b,decide_false,if_false,Bool.false_eq_true]
   by_cases c:57343<x
   ·by_cases d:x≤1114111<;>simp [c,d]
   ·simp [c]
 ·rw [if_neg a,if_neg a]
  simp [show ¬ 57343<x by omega]
theorem Zn6 (x:Int):∃ b,Q5.f x=some b:=by
 unfold Q5.f Q5.j1
 repeat' first | exact ⟨_,rfl⟩ | apply Zgo
theorem Zke:∀ (k:Nat) (a b:Int),0≤a→a≤8589934592→a<(k:Int)→∃ r,Q9.l1 k a b=some r
 | 0,a,b,h0,_,h2=>by omega
 | k+1,a,b,h0,h1,h2=>by
  simp only [Q9.l1]
  by_cases c:455<a
  ·have ht:a.tdiv 35=a/35:=Int.tdiv_eq_ediv_of_nonneg h0
   have hw:i64.wrap (a.tdiv 35)=a/35:=by rw [ht];exact w64 (by omega) (by omega)
   rw [if_pos c,hw]
   exact Zke k _ _ (by omega) (by omega) (by omega)
  ·rw [if_neg c,w64 (x:=a+38) (by omega) (by omega),if_pos (by omega)]
   exact ⟨_,rfl⟩
theorem Zlu (d p:Int) (f:Bool) (h0:0≤d) (h1:d≤2147483648) (hp:1≤p):∃ r,Q9.f d p f=some r:=by
 have hK:(K0:Int)=1180591620717411303424:=rfl
 have key:∀ c:Int,0≤c→c≤2147483648→∃ r,Q9.j1 p c=some r:=by
  intro c c0 c1
  have e1:c.tdiv p=c/p:=Int.tdiv_eq_ediv_of_nonneg c0
  have e2:0≤c/p:=Int.ediv_nonneg c0 (by omega)
  have e3:c/p≤c:=Int.ediv_le_self p c0
  rw [Q9.j1,if_pos (by omega),e1,w64 (x:=c/p) (by omega) (by omega),w64 (by omega) (by omega)]
  exact Zke K0 _ _ (by omega) (by omega) (by omega)
 have t1:d.tdiv 700=d/700:=Int.tdiv_eq_ediv_of_nonneg h0
 have t2:d.tdiv 2=d/2:=Int.tdiv_eq_ediv_of_nonneg h0
 rw [Q9.f,t1,t2,w64 (x:=d/700) (by omega) (by omega),w64 (x:=d/2) (by omega) (by omega)]
 split
 ·exact key _ (by omega) (by omega)
 ·exact key _ (by omega) (by omega)
theorem Zq1 (s:ByteArray) (hs:2*s.size≤Z5):∀ (q:Nat) (out:List Int) (at' n i b:Int) (k:Nat),(s.size:Int)-at'≤(q:Int)→q<k→0≤at'→(out.length:Int)≤at'→at'≤(s.size:Int)+1→0≤n→n≤1114111→0≤i→i≤(out.length:Int)→
  ∃ l a e,Yi.l1 k pU s out at' n i b=some (l,a,e)∧Yg.l3 k s out at' n i b=some (l,a,e)∧(l.length:Int)≤(s.size:Int)+1:=by
 have hb:=hs
 unfold Z5 at hb
 have hK:(K0:Int)=1180591620717411303424:=rfl
 intro q
 induction q with
 | zero=>
  intro out at' n i b k h1 h2 h3 h4 h5 h6 h7 h8 h9
  obtain ⟨k,rfl⟩:∃ j,k=j+1:=⟨k-1,by omega⟩
  simp only [Yi.l1,Yg.l3]
  rw [if_neg (by omega),if_neg (by omega)]
  exact ⟨_,_,_,rfl,rfl,by first | omega | (simp;omega)⟩
 | succ q ih=>
  intro out at' n i b k h1 h2 h3 h4 h5 h6 h7 h8 h9
  obtain ⟨k,rfl⟩:∃ j,k=j+1:=⟨k-1,by omega⟩
  simp only [Yi.l1,Yg.l3]
  by_cases c:at'<(s.size:Int)
  ·rw [if_pos c,if_pos c]
   obtain ⟨pl,e,at2,i2,q1,q2,q3⟩:=Ztd (Yg.l3 k s) s (by unfold Z5;omega) out n i b K0 at' i 1 36 (by omega) h3 (by omega) h8 (by omega) (by omega) (by omega) (by omega) (by omega)
   simp only [Vs.f,Y8.f,q1,Option.bind_some]
   by_cases he:e=0
   ·obtain ⟨p1,p2,p3,p4,ac,ab,ao,p5,p6⟩:=q3 he
    rw [p6]
    have wl:i64.wrap ((out.length:Int)+1)=(out.length:Int)+1:=w64 (by omega) (by omega)
    have hpos:(0:Int)<(out.length:Int)+1:=by omega
    have td:i2.tdiv ((out.length:Int)+1)=i2/((out.length:Int)+1):=Int.tdiv_eq_ediv_of_nonneg (by omega)
    have tm:i2.tmod ((out.length:Int)+1)=i2%((out.length:Int)+1):=Int.tmod_eq_emod_of_nonneg (by omega)
    have d0:0≤i2/((out.length:Int)+1):=Int.ediv_nonneg (by omega) (by omega)
    have d1:i2/((out.length:Int)+1)≤i2:=Int.ediv_le_self _ (by omega)
    have m0:0≤i2%((out.length:Int)+1):=Int.emod_nonneg _ (by omega)
    have m1:i2%((out.length:Int)+1)<(out.length:Int)+1:=Int.emod_lt_of_pos _ hpos
    have wd:i64.wrap (i2-i)=i2-i:=w64 (by omega) (by omega)
    have w1:i64.wrap (i2/((out.length:Int)+1))=i2/((out.length:Int)+1):=w64 (by omega) (by omega)
    have w2:i64.wrap (n+i2/((out.length:Int)+1))=n+i2/((out.length:Int)+1):=w64 (by omega) (by omega)
    have w3:i64.wrap (at2-1)=at2-1:=w64 (by omega) (by omega)
    have w4:i64.wrap (i2%((out.length:Int)+1)+1)=i2%((out.length:Int)+1)+1:=w64 (by omega) (by omega)
    have w5:i64.wrap (at2-1+1)=at2:=by rw [w64 (by omega) (by omega)];omega
    obtain ⟨ad,had⟩:=Zlu (i2-i) ((out.length:Int)+1) (decide (i=0)) (by omega) (by omega) (by omega)
    have hne:¬ (out.length:Int)+1=0:=by omega
    simp only [he,ne_eq,not_true_eq_false,if_false,Zyb,p5,wl,Zjn,wd,had,Option.bind_some,hne,not_false_eq_true,if_true,td,tm,w1,w2,w3,w4]
    by_cases c2:1114111<n+i2/((out.length:Int)+1)
    ·simp only [if_pos c2,Option.bind_some]
     exact ⟨_,_,_,rfl,rfl,by first | omega | (simp;omega)⟩
    ·simp only [if_neg c2,Zm0]
     obtain ⟨sb,hsb⟩:=Zn6 (i32.wrap (n+i2/((out.length:Int)+1)))
     simp only [hsb,Option.bind_some]
     cases sb with
     | false=>exact ⟨_,_,_,rfl,rfl,by first | omega | (simp;omega)⟩
     | true=>
      have hms:out.length+1≤most:=by unfold most;omega
      obtain ⟨im,him⟩:∃ im:Nat,i2%((out.length:Int)+1)=(im:Int):=⟨(i2%((out.length:Int)+1)).toNat,by omega⟩
      have hsh:=Zvd (Yg.l3 k s) out n (at2-1) ac ab ao ad i2 p5 (i:=im) (by rw [wl,tm,him]) (by unfold Z5;omega) out.length 0 K0 (by omega) (Nat.le_refl _) (by omega)
      have e1:out.take out.length++(0:Int)::out.drop out.length=out++[0]:=by simp
      have e2:i64.wrap (((out++[(0:Int)]).length:Int)-1)=(out.length:Int):=by
       rw [List.length_append,w64 (by simp<;>omega) (by simp<;>omega)];simp
      rw [e1,wl,td,w1,w2,w5,← him,w4] at hsh
      have hil:(H3 out (i2%((out.length:Int)+1)) (i32.wrap (n+i2/((out.length:Int)+1)))).length=out.length+1:=by simp [H3];omega
      obtain ⟨l,a,e',r1,r2,r3⟩:=ih (H3 out (i2%((out.length:Int)+1)) (i32.wrap (n+i2/((out.length:Int)+1)))) at2 (n+i2/((out.length:Int)+1)) (i2%((out.length:Int)+1)+1) ad k (by omega) (by omega) (by omega) (by rw [hil];omega) (by omega) (by omega) (by omega) (by omega) (by rw [hil];omega)
      refine ⟨l,a,e',?_,?_,r3⟩
      ·rw [if_neg (by decide),if_pos ⟨m0,by omega,hms⟩,Option.bind_some,if_neg (by simp)]
       exact r1
      ·rw [if_neg (by decide),if_pos (by simpa using hms),e2,hsh]
       exact r2
   ·rw [q2 he]
    simp only [ne_eq,he,not_false_eq_true,if_true,Option.bind_some]
    exact ⟨_,_,_,rfl,rfl,by first | omega | (simp;omega)⟩
  ·rw [if_neg c,if_neg c]
   exact ⟨_,_,_,rfl,rfl,by first | omega | (simp;omega)⟩
end Go.Proofs.YthoicbafdanmkaaGreatDoor
/- Plain laws: Punycode's last hyphen, and what stands ahead of it. Own work of this repo. -/
namespace Go.Proofs.YthoicbafdanmkaaGreatDoor
open Go.IntKind (i8 i16 i32 i64 u8 u16 u32 u64)
open Go.RowKit

theorem Zma (s:ByteArray) (hs:s.size≤Z5):∀ (m:Nat) (i:Int) (k:Nat),i+1≤(m:Int)→m<k→-1≤i→i<(s.size:Int)→
  ∃ r,Z8.l1 k s 45 i=some r∧((r=-1∧∀ j,0≤j→j≤i→bt s j≠45)∨(0≤r∧r≤i∧bt s r=45∧∀ j,r<j→j≤i→bt s j≠45)):=by
 have hb:=hs
 unfold Z5 at hb
 intro m
 induction m with
 | zero=>
  intro i k h1 h2 h3 h4
  obtain ⟨k,rfl⟩:∃ q,k=q+1:=⟨k-1,by omega⟩
  simp only [Z8.l1]
  rw [if_neg (by omega)]
  exact ⟨-1,rfl,.inl ⟨rfl,fun j a b=>by omega⟩⟩
 | succ m ih=>
  intro i k h1 h2 h3 h4
  obtain ⟨k,rfl⟩:∃ q,k=q+1:=⟨k-1,by omega⟩
  simp only [Z8.l1]
  by_cases c:0≤i
  ·rw [if_pos c,if_pos ⟨c,h4⟩]
   by_cases d:bt s i=45
   ·rw [if_pos d]
    exact ⟨i,rfl,.inr ⟨c,Int.le_refl _,d,fun j a b=>by omega⟩⟩
   ·rw [if_neg d,w64 (by omega) (by omega)]
    obtain ⟨r,q1,q2⟩:=ih (i-1) k (by omega) (by omega) (by omega) (by omega)
    refine ⟨r,q1,?_⟩
    rcases q2 with ⟨a1,a2⟩ | ⟨a1,a2,a3,a4⟩
    ·refine .inl ⟨a1,fun j b1 b2=>?_⟩
     by_cases e:j=i
     ·rw [e];exact d
     ·exact a2 j b1 (by omega)
    ·refine .inr ⟨a1,by omega,a3,fun j b1 b2=>?_⟩
     by_cases e:j=i
     ·rw [e];exact d
     ·exact a4 j b1 (by omega)
  ·rw [if_neg c]
   exact ⟨-1,rfl,.inl ⟨rfl,fun j a b=>by omega⟩⟩
def Zyf (s:ByteArray) (i al:Int):Prop:=(al=0∧∀ j,0<j→j<i→bt s j≠45)∨(0<al∧al<i∧bt s al=45∧∀ j,al<j→j<i→bt s j≠45)
theorem Zu1 (s:ByteArray) (hs:s.size≤Z5):∀ (m:Nat) (i al:Int) (k:Nat),(s.size:Int)-i≤(m:Int)→m<k→0≤i→i≤(s.size:Int)→Zyf s i al→
  ∃ al',Yg.l5 k s al i=Yg.l4 K0 s al' [] 0∧Zyf s (s.size:Int) al':=by
 have hb:=hs
 unfold Z5 at hb
 intro m
 induction m with
 | zero=>
  intro i al k h1 h2 h3 h4 h5
  obtain ⟨k,rfl⟩:∃ q,k=q+1:=⟨k-1,by omega⟩
  obtain rfl:i=(s.size:Int):=by omega
  simp only [Yg.l5]
  rw [if_neg (by omega)]
  exact ⟨al,rfl,h5⟩
 | succ m ih=>
  intro i al k h1 h2 h3 h4 h5
  obtain ⟨k,rfl⟩:∃ q,k=q+1:=⟨k-1,by omega⟩
  simp only [Yg.l5,Yg.j1]
  by_cases c:i<(s.size:Int)
  ·rw [if_pos c,if_pos ⟨h3,c⟩,w64 (by omega) (by omega)]
   by_cases d:bt s i=45
   ·rw [if_pos d]
    refine ih (i+1) i k (by omega) (by omega) (by omega) (by omega) ?_
    by_cases e:i=0
    ·exact .inl ⟨e,fun j a b=>by omega⟩
    ·exact .inr ⟨by omega,by omega,d,fun j a b=>by omega⟩
   ·rw [if_neg d]
    refine ih (i+1) al k (by omega) (by omega) (by omega) (by omega) ?_
    rcases h5 with ⟨a1,a2⟩ | ⟨a1,a2,a3,a4⟩
    ·refine .inl ⟨a1,fun j b1 b2=>?_⟩
     by_cases e:j=i
     ·rw [e];exact d
     ·exact a2 j b1 (by omega)
    ·refine .inr ⟨a1,by omega,a3,fun j b1 b2=>?_⟩
     by_cases e:j=i
     ·rw [e];exact d
     ·exact a4 j b1 (by omega)
  ·rw [if_neg c]
   obtain rfl:i=(s.size:Int):=by omega
   exact ⟨al,rfl,h5⟩
theorem Zs0 (s:ByteArray) (hs:s.size≤Z5):∃ r al,Kt.f s 45=some r∧Yg.f s=Yg.l4 K0 s al [] 0∧(if 0<r then al=r else al=0)∧r<(s.size:Int):=by
 have hb:=hs
 unfold Z5 at hb
 have hK:(K0:Int)=1180591620717411303424:=rfl
 obtain ⟨r,p1,p2⟩:=Zma s hs s.size ((s.size:Int)-1) K0 (by omega) (by omega) (by omega) (by omega)
 obtain ⟨al,q1,q2⟩:=Zu1 s hs s.size 0 0 K0 (by omega) (by omega) (by omega) (by omega) (.inl ⟨rfl,fun j a b=>by omega⟩)
 refine ⟨r,al,?_,q1,?_,?_⟩
 ·rw [Kt.f,Z8.f,w64 (by omega) (by omega),p1];rfl
 ·rcases p2 with ⟨a1,a2⟩ | ⟨a1,a2,a3,a4⟩
  ·rw [if_neg (by omega)]
   rcases q2 with ⟨b1,_⟩ | ⟨b1,b2,b3,_⟩
   ·exact b1
   ·exact absurd b3 (a2 al (by omega) (by omega))
  ·by_cases c:0<r
   ·rw [if_pos c]
    rcases q2 with ⟨b1,b2⟩ | ⟨b1,b2,b3,b4⟩
    ·exact absurd a3 (b2 r c (by omega))
    ·by_cases d:al<r
     ·exact absurd a3 (b4 r d (by omega))
     ·by_cases d2:r<al
      ·exact absurd b3 (a4 al d2 (by omega))
      ·omega
   ·rw [if_neg c]
    rcases q2 with ⟨b1,b2⟩ | ⟨b1,b2,b3,b4⟩
    ·exact b1
    ·exact absurd b3 (a4 al (by omega) (by omega))
 ·rcases p2 with ⟨a1,_⟩ | ⟨_,a2,_,_⟩<;>omega
def Zpo (s:ByteArray):Prop:=∀ j,0≤j→j<(s.size:Int)→bt s j<128
theorem Zjy (s:ByteArray) (hs:2*s.size≤Z5) (ha:Zpo s) (al:Int) (h0:0≤al) (h1:al≤(s.size:Int)):∀ (m:Nat) (i:Nat) (k:Nat),al-i≤(m:Int)→m<k→(i:Int)≤al→
  Yg.l4 k s al ((Qs s).take i) (i:Int)=Yg.j2 s ((Qs s).take al.toNat) (if 0<al then i64.wrap (al+1) else al):=by
 have hb:=hs
 unfold Z5 at hb
 intro m
 induction m with
 | zero=>
  intro i k a b c
  obtain ⟨k,rfl⟩:∃ q,k=q+1:=⟨k-1,by omega⟩
  simp only [Yg.l4]
  have e:al.toNat=i:=by omega
  rw [if_neg (by omega),e]
  split<;>rfl
 | succ m ih=>
  intro i k a b c
  obtain ⟨k,rfl⟩:∃ q,k=q+1:=⟨k-1,by omega⟩
  simp only [Yg.l4]
  by_cases d:(i:Int)<al
  ·have hi:=ha i (by omega) (by omega)
   obtain ⟨r1,r2⟩:=Zem s i (by omega) (by omega)
   have wv:i32.wrap (bt s i)=bt s i:=w32 (by omega) (by omega)
   have hl:i<(Qs s).length:=by rw [X0];omega
   rw [if_pos d,if_pos ⟨by omega,by omega⟩,if_neg (by omega),wv,if_pos (by unfold most;simp;omega),w64 (by omega) (by omega)]
   have e:(Qs s).take i++[bt s i]=(Qs s).take (i+1):=by
    rw [List.take_add_one,List.getElem?_eq_getElem hl,Zdt]
    unfold rd
    simp [List.getD_eq_getElem?_getD,hl]
   rw [e]
   have:=ih (i+1) k (by omega) (by omega) (by omega)
   rw [show ((i+1:Nat):Int)=(i:Int)+1 by omega] at this
   exact this
  ·have e:al.toNat=i:=by omega
   rw [if_neg d,e]
   split<;>rfl
theorem Zvt {xs:List Int} {x:Int} {t:List Int} (e:xs=x::t) (h0:0≤x) (h1:x<128):Yw.f xs=some (x,1):=by
 subst e
 obtain ⟨k,hk⟩:∃ k,K0=k+1:=⟨1180591620717411303423,rfl⟩
 rw [Yw.f,hk]
 simp only [Yw.l1]
 rw [if_pos (by simp<;>omega),if_pos ⟨by omega,by simp<;>omega⟩,show rd (x::t) 0=x from rfl,if_pos h1,w32 (by omega) (by omega)]
theorem Zl2 (xs:List Int) (hx:xs.length≤Z5) (ha:∀ x∈xs,0≤x∧x<128):Vx.f xs 36 1 26 38 700 72 128 45=some (-1):=by
 rw [Vx.f,X5.f]
 have key:=Xp (fun k i (_:Unit)=>X5.l1 k 36 1 26 38 700 72 128 45 xs true i) xs (fun _ _ _ o=>o=some (-1)) (fun _ k=>?_) (fun pre x t _ k e ih=>?_) () K0 (ltK hx)
 ·rw [key];rfl
 ·simp only [X5.l1,if_neg (show ¬ (xs.length:Int)<(xs.length:Int) by omega)]
 ·obtain ⟨m1,m2⟩:=mid e
  obtain ⟨h0,h1⟩:=ha x (by rw [e];simp)
  have hs:sub xs (pre.length:Int) (xs.length:Int)=x::t:=Znt e
  have hbas:Vi.f x 36 1 26 38 700 72 128 45=some false:=by
   rw [Vi.f,Xv.f,w64 (by omega) (by omega),if_pos h1,Xv.j1,decide_eq_true h1];rfl
  simp only [X5.l1,if_pos m2.2,if_pos (show (0:Int)≤(pre.length:Int)∧(pre.length:Int)≤(xs.length:Int)∧(xs.length:Int)≤(xs.length:Int) from ⟨by omega,by omega,by omega⟩),hs,Zvt rfl h0 h1,Option.bind_some,hbas,nxt hx e]
  rw [if_neg (by decide)]
  exact ih ()
theorem Zte (s:ByteArray) (i:Nat) (h:i<s.size) (ha:bt s (i:Int)<128):Utf8.decode s i=((bt s (i:Int)).toNat,1):=by
 have e:(s.get! i).toNat=(bt s (i:Int)).toNat:=by
  have e1:((i:Nat):Int).toNat=i:=by omega
  have hd:i<s.data.size:=h
  unfold bt
  rw [e1]
  cases s with
  | mk d=>simp [ByteArray.get!,Array.getD_eq_getD_getElem?,show i<d.size from hd]
 have hlt:(s.get! i).toNat<128:=by rw [e];omega
 unfold Utf8.decode
 simp only [Nat.add_zero]
 rw [if_pos hlt,e]
theorem Zjo (s:ByteArray) (ha:Zpo s):∀ (b i:Nat) (acc:Array Value),s.size≤b+i→(Conv.runesFrom s b i acc).toList=acc.toList++((Qs s).drop i).map (Value.int .i32)
 | 0,i,acc,h=>by
  rw [Conv.runesFrom,List.drop_of_length_le (by rw [X0];omega)];simp
 | b+1,i,acc,h=>by
  unfold Conv.runesFrom
  by_cases c:i<s.size
  ·have hi:=ha i (by omega) (by omega)
   obtain ⟨r1,r2⟩:=Zem s i (by omega) (by omega)
   have hl:i<(Qs s).length:=by rw [X0];exact c
   rw [if_pos c,Zte s i c hi]
   simp only
   rw [Zjo s ha b (i+1) _ (by omega),List.drop_eq_getElem_cons hl]
   have e:(Qs s)[i]=bt s (i:Int):=by
    rw [Zdt]
    unfold rd
    simp [List.getD_eq_getElem?_getD,hl]
   rw [e,Array.toList_push,List.map_cons,List.append_assoc]
   have e2:(Int.ofNat (bt s (i:Int)).toNat)=bt s (i:Int):=by
    show (((bt s (i:Int)).toNat:Nat):Int)=_
    omega
   rw [e2];rfl
  ·rw [if_neg c,List.drop_of_length_le (by rw [X0];omega)];simp
theorem Zdk (s:ByteArray) (ha:Zpo s):Hf s=Qs s:=by
 have h:=Zhw s
 rw [Zjo s ha s.size 0 #[] (by omega)] at h
 simp only [List.nil_append,List.drop_zero] at h
 have hinj:∀ (a b:List Int),a.map (Value.int .i32)=b.map (Value.int .i32)→a=b:=by
  intro a
  induction a with
  | nil=>intro b h;cases b with | nil=>rfl | cons _ _=>simp at h
  | cons x a ih=>
   intro b h
   cases b with
   | nil=>simp at h
   | cons y b=>simp at h;rw [h.1,ih b (by simpa using h.2)]
 exact (hinj _ _ h).symm
theorem Zbr (s:ByteArray) (n:Nat):Qs (s.extract 0 n)=(Qs s).take n:=by
 simp [Qs,ByteArray.extract,ByteArray.copySlice,List.map_take]
theorem Zm9 (s:ByteArray) (hs:2*s.size≤Z5) (ha:Zpo s):∃ l a e,Yi.f pU s=some (l,a,e)∧Yg.f s=some (l,a,e)∧(l.length:Int)≤(s.size:Int)+1:=by
 have hb:=hs
 unfold Z5 at hb
 have hK:(K0:Int)=1180591620717411303424:=rfl
 obtain ⟨r,al,p1,p2,p3,p4⟩:=Zs0 s (by unfold Z5;omega)
 by_cases c:0<r
 ·rw [if_pos c] at p3
  subst p3
  have hpre:=Zjy s hs ha al (by omega) (by omega) s.size 0 K0 (by omega) (by omega) (by omega)
  rw [if_pos c,w64 (by omega) (by omega)] at hpre
  have hlen:((Qs s).take al.toNat).length=al.toNat:=by rw [List.length_take,X0];omega
  obtain ⟨l,a,e,q1,q2,q3⟩:=Zq1 s hs (s.size+1) ((Qs s).take al.toNat) (al+1) 128 0 72 K0 (by omega) (by omega) (by omega) (by rw [hlen];omega) (by omega) (by omega) (by omega) (by omega) (by omega)
  refine ⟨l,a,e,?_,?_,q3⟩
  ·have hx:∀ x∈Qs (s.extract 0 al.toNat),0≤x∧x<128:=by
    intro x hx
    rw [Zbr] at hx
    obtain ⟨j,hj0,hj2⟩:=List.getElem_of_mem (List.mem_of_mem_take hx)
    have hj:j<s.size:=by rw [← X0];exact hj0
    have h1:=ha j (by omega) (by omega)
    obtain ⟨h2,_⟩:=Zem s j (by omega) (by omega)
    have e1:bt s (j:Int)=x:=by
     rw [Zdt,← hj2]
     unfold rd
     simp [List.getD_eq_getElem?_getD,hj0]
    rw [e1] at h1 h2
    exact ⟨h2,h1⟩
   have hsz:(s.extract 0 al.toNat).size=al.toNat:=by rw [← X0,Zbr,hlen]
   have hasc:Zpo (s.extract 0 al.toNat):=fun j j0 j1=>by
    rw [Zdt]
    exact (hx _ (Zf5 j0 (by rw [X0];exact j1))).2
   have z:((0:Int)).toNat=0:=rfl
   simp only [Yi.f,p1,Option.bind_some,if_pos c,z]
   rw [if_pos ⟨by omega,by omega,by omega⟩,Zl2 _ (by rw [X0,hsz];unfold Z5;omega) hx,Option.bind_some,if_neg (by omega),Zdk _ hasc,Zbr,if_pos (by rw [hlen];unfold most;omega),Yi.j1,w64 (by omega) (by omega)]
   exact q1
  ·rw [p2]
   exact hpre.trans q2
 ·rw [if_neg c] at p3
  subst p3
  have hpre:=Zjy s hs ha 0 (by omega) (by omega) s.size 0 K0 (by omega) (by omega) (by omega)
  rw [if_neg (by omega)] at hpre
  obtain ⟨l,a,e,q1,q2,q3⟩:=Zq1 s hs (s.size+1) [] 0 128 0 72 K0 (by omega) (by omega) (by omega) (by simp) (by omega) (by omega) (by omega) (by omega) (by simp)
  refine ⟨l,a,e,?_,?_,q3⟩
  ·simp only [Yi.f,p1,Option.bind_some,if_neg c,Yi.j1]
   exact q1
  ·rw [p2]
   exact hpre.trans q2
end Go.Proofs.YthoicbafdanmkaaGreatDoor
/- Plain laws: Punycode is written alike by the program and by the document: the digits of a number. Own work of this repo. -/
namespace Go.Proofs.YthoicbafdanmkaaGreatDoor
open Go.IntKind (i8 i16 i32 i64 u8 u16 u32 u64)
open Go.RowKit

def dig (d:Int):Int:=if d<26 then 97+d else 22+d
def K8 (k b:Int):Int:=(Ug.f k b).getD 0
theorem Zdj (k b:Int):Ug.f k b=some (K8 k b)∧1≤K8 k b∧K8 k b≤26:=by
 obtain ⟨t,h1,h2,h3⟩:=Zq7 k b
 rw [K8,h1];exact ⟨rfl,h2,h3⟩
theorem Zpy {d:Int} (h0:0≤d) (h1:d<36):Zbh.f d=some (dig d)∧0≤dig d∧dig d<128:=by
 unfold Zbh.f dig
 by_cases c:d<26
 ·rw [if_pos c,if_pos c,w64 (by omega) (by omega),Zef (by omega) (by omega)]
  exact ⟨rfl,by omega,by omega⟩
 ·rw [if_neg c,if_neg c,w64 (x:=48+d) (by omega) (by omega),w64 (by omega) (by omega),Zef (by omega) (by omega)]
  exact ⟨by congr 1;omega,by omega,by omega⟩
def Za9:Nat→Int→Int→Int→List Int
 | 0,q,_,_=>[dig q]
 | f+1,q,k,b=>if q<K8 k b then [dig q] else dig (K8 k b+(q-K8 k b)%(36-K8 k b))::Za9 f ((q-K8 k b)/(36-K8 k b)) (k+36) b
theorem Zhe (a5:List Int→Int→Int→Int→Int→Option (ByteArray×Int×Int)) (aa:List Int) (bias af ac ap:Int):∀ (L:Nat) (q kk:Int) (acc an:List Int) (k:Nat),L<k→0≤q→q<10^L→q≤2147483647→0≤kk→kk+36*L≤4294967296→acc.length+L+1≤most→an.length+L+1≤most→
  ((Za9 L q kk bias).length≤L+1∧∀ c∈Za9 L q kk bias,0≤c∧c<128)∧Qh.l1 k pU bias acc q kk=some (acc++Za9 L q kk bias)∧Zn.l1 a5 k aa bias af ac ap an q kk=((Q9.f ap (i64.wrap (af+1)) (decide (af=(aa.length:Int)))).bind fun b6=>(Zn.j4 a5 ac (an++Za9 L q kk bias) 0 b6 (i64.wrap (af+1)))):=by
 intro L
 induction L with
 | zero=>
  intro q kk acc an k h1 h2 h3 h4 h5 h6 h7 h8
  obtain ⟨k,rfl⟩:∃ j,k=j+1:=⟨k-1,by omega⟩
  obtain ⟨t1,t2,t3⟩:=Zdj kk bias
  have hq:q<K8 kk bias:=by simp at h3;omega
  obtain ⟨hc,c1,c2⟩:=Zpy (d:=q) h2 (by omega)
  refine ⟨⟨by simp [Za9],fun c hm=>?_⟩,?_,?_⟩
  ·simp only [Za9,List.mem_singleton] at hm;subst hm;exact ⟨c1,c2⟩
  ·simp only [Qh.l1,Zkc,t1,Option.bind_some,if_pos hq,Zhk,hc,Za9]
   rw [if_pos (by simp;omega)]
  ·simp only [Zn.l1,t1,Option.bind_some,if_pos hq,hc,Za9]
   rw [if_pos (by simp;omega)]
 | succ L ih=>
  intro q kk acc an k h1 h2 h3 h4 h5 h6 h7 h8
  obtain ⟨k,rfl⟩:∃ j,k=j+1:=⟨k-1,by omega⟩
  obtain ⟨t1,t2,t3⟩:=Zdj kk bias
  by_cases hq:q<K8 kk bias
  ·obtain ⟨hc,c1,c2⟩:=Zpy (d:=q) h2 (by omega)
   have ed:Za9 (L+1) q kk bias=[dig q]:=by rw [Za9,if_pos hq]
   rw [ed]
   refine ⟨⟨by simp,fun c hm=>?_⟩,?_,?_⟩
   ·simp only [List.mem_singleton] at hm;subst hm;exact ⟨c1,c2⟩
   ·simp only [Qh.l1,Zkc,t1,Option.bind_some,if_pos hq,Zhk,hc]
    rw [if_pos (by simp;omega)]
   ·simp only [Zn.l1,t1,Option.bind_some,if_pos hq,hc]
    rw [if_pos (by simp;omega)]
  ·have ed:Za9 (L+1) q kk bias=dig (K8 kk bias+(q-K8 kk bias)%(36-K8 kk bias))::Za9 L ((q-K8 kk bias)/(36-K8 kk bias)) (kk+36) bias:=by rw [Za9,if_neg hq]
   rw [ed]
   revert hq t1 t2 t3
   generalize K8 kk bias=t
   intro t1 t2 t3 hq
   have w1:i64.wrap (36-t)=36-t:=w64 (by omega) (by omega)
   have w2:i64.wrap (q-t)=q-t:=w64 (by omega) (by omega)
   have e1:(q-t).tdiv (36-t)=(q-t)/(36-t):=Int.tdiv_eq_ediv_of_nonneg (by omega)
   have e2:(q-t).tmod (36-t)=(q-t)%(36-t):=Int.tmod_eq_emod_of_nonneg (by omega)
   have m0:0≤(q-t)%(36-t):=Int.emod_nonneg _ (by omega)
   have m1:(q-t)%(36-t)<36-t:=Int.emod_lt_of_pos _ (by omega)
   have d0:0≤(q-t)/(36-t):=Int.ediv_nonneg (by omega) (by omega)
   have d1:(q-t)/(36-t)≤q-t:=Int.ediv_le_self _ (by omega)
   have d2:(q-t)/(36-t)<10^L:=by
    apply Int.ediv_lt_of_lt_mul (by omega)
    have p0:(0:Int)<10^L:=Int.pow_pos (by omega)
    have p1:(10:Int)^(L+1)=10^L*10:=Int.pow_succ 10 L
    have p2:(10:Int)^L*10≤10^L*(36-t):=Int.mul_le_mul_of_nonneg_left (by omega) (by omega)
    omega
   have w3:i64.wrap ((q-t)/(36-t))=(q-t)/(36-t):=w64 (by omega) (by omega)
   have w4:i64.wrap (kk+36)=kk+36:=w64 (by omega) (by omega)
   have w5:i64.wrap (t+(q-t)%(36-t))=t+(q-t)%(36-t):=w64 (by omega) (by omega)
   obtain ⟨hc,c1,c2⟩:=Zpy (d:=t+(q-t)%(36-t)) (by omega) (by omega)
   obtain ⟨⟨i0,i1⟩,i2,i3⟩:=ih ((q-t)/(36-t)) (kk+36) (acc++[dig (t+(q-t)%(36-t))]) (an++[dig (t+(q-t)%(36-t))]) k (by omega) d0 d2 (by omega) (by omega) (by omega) (by simp;omega) (by simp;omega)
   refine ⟨⟨by simp;omega,fun c hm=>?_⟩,?_,?_⟩
   ·rcases List.mem_cons.1 hm with rfl | hm
    ·exact ⟨c1,c2⟩
    ·exact i1 c hm
   ·simp only [Qh.l1,Zkc,t1,Option.bind_some,if_neg hq,w1,w2,e2,w5,Zhk,hc,e1,w3,w4]
    rw [if_pos (by omega),if_pos (by simp;omega),i2]
    simp
   ·simp only [Zn.l1,t1,Option.bind_some,if_neg hq,w1,w2,e2,w5,hc,e1,w3,w4]
    rw [if_pos (by omega),if_pos (by simp;omega),i3]
    simp
def scB (p:Int):Bool:=(Q5.f p).getD false
theorem Zjl (p:Int):Q5.f p=some (scB p):=by
 obtain ⟨b,hb⟩:=Zn6 p
 rw [scB,hb];rfl
theorem Zvm (l:List Int) (hl:l.length≤Z5) (hr:∀ x∈l,-2147483648≤x∧x≤2147483647):Yl.f l 36 1 26 38 700 72 128 45=some (-1):=by
 rw [Yl.f]
 have key:=Zgw (fun k i=>Yl.l1 k 36 1 26 38 700 72 128 45 l i) l (fun _=>false) hl (fun k=>?_) (fun k pre x t e=>?_)
 ·rw [key]
  have:∀ (m:List Int) (n:Nat),fIx (fun _=>false) m n=-1:=by
   intro m
   induction m with
   | nil=>intro n;rfl
   | cons y m ih=>intro n;rw [fIx,if_neg (by decide),ih]
  rw [this]
 ·simp only [Yl.l1,if_neg (show ¬ (l.length:Int)<(l.length:Int) by omega)]
 ·obtain ⟨m1,m2⟩:=mid e
  obtain ⟨x0,x1⟩:=hr x (by rw [e];simp)
  have hx:X8.f x 36 1 26 38 700 72 128 45=some false:=by
   simp only [X8.f,X8.j1,Xv.f,Xv.j1,w64 (x:=x) (by omega) (by omega)]
   by_cases c:x<128<;>simp [c]
  simp only [Yl.l1,if_pos m2.2,if_pos m2,m1,hx,Option.bind_some,nxt hl e]
theorem Zha (l:List Int) (hl:l.length≤Z5) (hr:∀ x∈l,-2147483648≤x∧x≤2147483647):Q4.f pU l=some (if fIx (fun p=>!scB p) l 0=-1 then (0,0) else (fIx (fun p=>!scB p) l 0,20)):=by
 rw [Q4.f]
 refine Xp (fun k i (_:Unit)=>Q4.l1 k pU l i) l (fun pre t _ o=>o=some (if fIx (fun p=>!scB p) t pre.length=-1 then (0,0) else (fIx (fun p=>!scB p) t pre.length,20))) (fun _ k=>?_) (fun pre x t _ k e ih=>?_) () K0 (ltK hl)
 ·simp only [Q4.l1,if_neg (show ¬ (l.length:Int)<(l.length:Int) by omega),Zvm l hl hr,Option.bind_some,fIx]
  rfl
 ·obtain ⟨m1,m2⟩:=mid e
  have h2:=ih ()
  simp only [List.length_append,List.length_cons,List.length_nil,Nat.zero_add] at h2
  simp only [Q4.l1,if_pos m2.2,if_pos m2,m1,Zm0,Zjl,Option.bind_some,nxt hl e]
  by_cases c:(!scB x)=true
  ·have ef:fIx (fun p=>!scB p) (x::t) pre.length=(pre.length:Int):=by rw [fIx,if_pos c]
   rw [if_pos c,ef,if_neg (by omega)]
  ·have ef:fIx (fun p=>!scB p) (x::t) pre.length=fIx (fun p=>!scB p) t (pre.length+1):=by rw [fIx,if_neg c]
   rw [if_neg c,h2,ef]
def Za2 (n m r:Int):Int:=if n≤r then min m r else m
theorem Zxe (l:List Int) (n:Int) (hl:l.length≤Z5) (hr:∀ x∈l,-2147483648≤x∧x≤2147483647):K3.f l n=some (l.foldl (Za2 n) 1114111):=by
 rw [K3.f]
 refine Xp (fun k i s=>K3.l1 k l n s i) l (fun _ t s o=>o=some (t.foldl (Za2 n) s)) (fun s k=>?_) (fun pre x t s k e ih=>?_) 1114111 K0 (ltK hl)
 ·simp only [K3.l1,if_neg (show ¬ (l.length:Int)<(l.length:Int) by omega)];rfl
 ·obtain ⟨m1,m2⟩:=mid e
  obtain ⟨x0,x1⟩:=hr x (by rw [e];simp)
  simp only [K3.l1,if_pos m2.2,if_pos m2,m1,w64 (x:=x) (by omega) (by omega),K3.j1,nxt hl e,List.foldl_cons]
  by_cases c:n≤x
  ·rw [if_pos c,ih,Za2,if_pos c]
  ·rw [if_neg c,ih,Za2,if_neg c]
theorem Zjc (n:Int):∀ (l:List Int) (a:Int),(l.foldl (Za2 n) a≤a)∧(∀ x∈l,n≤x→l.foldl (Za2 n) a≤x)∧(l.foldl (Za2 n) a=a∨∃ x∈l,n≤x∧l.foldl (Za2 n) a=x)
 | [],a=>⟨Int.le_refl _,(fun _ h=>by cases h),.inl rfl⟩
 | y::l,a=>by
  obtain ⟨h1,h2,h3⟩:=Zjc n l (Za2 n a y)
  have g:Za2 n a y≤a∧(n≤y→Za2 n a y≤y)∧(Za2 n a y=a∨(n≤y∧Za2 n a y=y)):=by
   unfold Za2
   split<;>omega
  rw [List.foldl_cons]
  refine ⟨by omega,fun x hx hn=>?_,?_⟩
  ·rcases List.mem_cons.1 hx with rfl | hx
   ·have:=g.2.1 hn;omega
   ·exact h2 x hx hn
  ·rcases h3 with h3 | ⟨x,hx,hn,h3⟩
   ·rcases g.2.2 with h4 | ⟨h4,h5⟩
    ·exact .inl (by omega)
    ·exact .inr ⟨y,by simp,h4,by omega⟩
   ·exact .inr ⟨x,by simp [hx],hn,h3⟩
theorem Zvq (a6:List Int→Int→Int→Int→Int→Option (ByteArray×Int×Int)) (l aa ad:List Int) (ao ak al ah:Int) (hl:l.length≤Z5) (hr:∀ x∈l,-2147483648≤x∧x≤2147483647):
  Zn.l3 a6 K0 l aa ad ao ak al ah 1114112 0=(if 2147483647<(i64.wrap (ak+(i64.wrap ((i64.wrap ((l.foldl (Za2 ao) 1114112)-ao))*(i64.wrap (ah+1)))))) then (some ((⟨#[]⟩:ByteArray),0,142)) else (Zn.l2 a6 K0 l aa (l.foldl (Za2 ao) 1114112) ad (i64.wrap (ak+(i64.wrap ((i64.wrap ((l.foldl (Za2 ao) 1114112)-ao))*(i64.wrap (ah+1)))))) al ah 0)):=by
 refine Xp (fun k i s=>Zn.l3 a6 k l aa ad ao ak al ah s i) l (fun _ t s o=>o=(if 2147483647<(i64.wrap (ak+(i64.wrap ((i64.wrap ((t.foldl (Za2 ao) s)-ao))*(i64.wrap (ah+1)))))) then (some ((⟨#[]⟩:ByteArray),0,142)) else (Zn.l2 a6 K0 l aa (t.foldl (Za2 ao) s) ad (i64.wrap (ak+(i64.wrap ((i64.wrap ((t.foldl (Za2 ao) s)-ao))*(i64.wrap (ah+1)))))) al ah 0))) (fun s k=>?_) (fun pre x t s k e ih=>?_) 1114112 K0 (ltK hl)
 ·simp only [Zn.l3,if_neg (show ¬ (l.length:Int)<(l.length:Int) by omega),List.foldl_nil];rfl
 ·obtain ⟨m1,m2⟩:=mid e
  obtain ⟨x0,x1⟩:=hr x (by rw [e];simp)
  have wx:i64.wrap x=x:=w64 (by omega) (by omega)
  have g:(if ao≤x then Zn.j3 (Zn.l3 a6 k l aa ad ao ak al ah) l s (pre.length:Int) (decide (x<s)) else Zn.j3 (Zn.l3 a6 k l aa ad ao ak al ah) l s (pre.length:Int) false)=Zn.l3 a6 k l aa ad ao ak al ah (Za2 ao s x) ((pre.length:Int)+1):=by
   simp only [Zn.j3,Zn.j2,m1,wx,nxt hl e,Za2]
   by_cases c:ao≤x
   ·rw [if_pos c,if_pos c]
    by_cases d:x<s
    ·rw [decide_eq_true d,if_pos rfl,show min s x=x by omega]
    ·rw [decide_eq_false d,if_neg (by decide),show min s x=s by omega]
   ·rw [if_neg c,if_neg c,if_neg (by decide)]
  simp only [Zn.l3,if_pos m2.2,if_pos m2,m1,wx]
  rw [g,List.foldl_cons]
  exact ih _
end Go.Proofs.YthoicbafdanmkaaGreatDoor
/- Plain laws: Punycode is written alike by the program and by the document. Own work of this repo. -/
namespace Go.Proofs.YthoicbafdanmkaaGreatDoor
open Go.IntKind (i8 i16 i32 i64 u8 u16 u32 u64)
open Go.RowKit

abbrev SE:=List Int×Int×Int×Int
def adI (d p:Int) (f:Bool):Int:=(Q9.f d p f).getD 0
theorem Zp3 (d p:Int) (f:Bool) (h0:0≤d) (h1:d≤2147483648) (hp:1≤p):Q9.f d p f=some (adI d p f):=by
 obtain ⟨r,hr⟩:=Zlu d p f h0 h1 hp
 rw [adI,hr];rfl
def Zch (b0 m:Int) (s:SE) (x:Int):Option SE:=
 if x<m then (if 2147483647<s.2.1+1 then none else some (s.1,s.2.1+1,s.2.2.1,s.2.2.2))
 else if x=m then some (s.1++Za9 10 s.2.1 36 s.2.2.1,0,adI s.2.1 (s.2.2.2+1) (decide (s.2.2.2=b0)),s.2.2.2+1) else some s
def Za6 (b0 m:Int):List Int→SE→Option SE
 | [],s=>some s
 | x::t,s=>(Zch b0 m s x).bind (Za6 b0 m t)
structure OkE (H:Int) (s:SE):Prop where
 d0:0≤s.2.1
 d1:s.2.1≤2147483647
 h0:0≤s.2.2.2
 h1:s.2.2.2≤H
 len:(s.1.length:Int)≤12*s.2.2.2+1
 asc:∀ c∈s.1,0≤c∧c<128
def Zj2:Option (ByteArray×Int×Int):=some ((⟨#[]⟩:ByteArray),0,142)
theorem Zqw (q b:Int) (h0:0≤q) (h1:q≤2147483647):(Za9 10 q 36 b).length≤11∧∀ c∈Za9 10 q 36 b,0≤c∧c<128:=
 (Zhe (fun _ _ _ _ _=>none) [] b 0 0 0 10 q 36 [] [] 11 (by omega) h0 (by omega) h1 (by omega) (by omega) (by unfold most;simp) (by unfold most;simp)).1
theorem Zgr {b0 m H:Int} {s s':SE} {x:Int} (hs:OkE H s) (e:Zch b0 m s x=some s'):OkE (H+1) s'∧s'.2.2.2=s.2.2.2+(if x=m then 1 else 0):=by
 obtain ⟨d0,d1,h0,h1,len,asc⟩:=hs
 unfold Zch at e
 by_cases c:x<m
 ·rw [if_pos c] at e
  by_cases c2:2147483647<s.2.1+1
  ·rw [if_pos c2] at e;cases e
  ·rw [if_neg c2] at e
   obtain rfl:=Option.some.inj e
   refine ⟨⟨by simp only;omega,by simp only;omega,h0,by simp only;omega,len,asc⟩,?_⟩
   rw [if_neg (by omega)];simp
 ·rw [if_neg c] at e
  by_cases c2:x=m
  ·rw [if_pos c2] at e
   obtain rfl:=Option.some.inj e
   obtain ⟨g1,g2⟩:=Zqw s.2.1 s.2.2.1 d0 d1
   refine ⟨⟨Int.le_refl 0,by simp only;omega,by simp only;omega,by simp only;omega,?_,fun c hc=>?_⟩,by rw [if_pos c2]⟩
   ·simp only [List.length_append];omega
   ·rcases List.mem_append.1 hc with hc | hc
    ·exact asc c hc
    ·exact g2 c hc
  ·rw [if_neg c2] at e
   obtain rfl:=Option.some.inj e
   exact ⟨⟨d0,d1,h0,by omega,len,asc⟩,by rw [if_neg c2];simp⟩
theorem Ztq (bi:List Int→Int→Int→Int→Int→Option (ByteArray×Int×Int)) (L aa:List Int) (m:Int) (k:Nat) {pre t:List Int} {x:Int} (e:L=pre++x::t) (hl:L.length≤Z5) (hr:-2147483648≤x∧x≤2147483647) {H:Int} (s:SE) (hs:OkE H s) (hH:H≤4194304):
  Zj.l1 bi (k+1) pU L aa m s.1 s.2.1 s.2.2.1 s.2.2.2 (pre.length:Int)=match Zch (aa.length:Int) m s x with | none=>Zj2 | some s'=>Zj.l1 bi k pU L aa m s'.1 s'.2.1 s'.2.2.1 s'.2.2.2 ((pre.length:Int)+1):=by
 obtain ⟨d0,d1,h0,h1,len,asc⟩:=hs
 obtain ⟨m1,m2⟩:=mid e
 have wx:i64.wrap x=x:=w64 (by omega) (by omega)
 have wd:i64.wrap (s.2.1+1)=s.2.1+1:=w64 (by omega) (by omega)
 have wh:i64.wrap (s.2.2.2+1)=s.2.2.2+1:=w64 (by omega) (by omega)
 simp only [Zj.l1,if_pos m2.2,if_pos m2,m1,wx,wd,Zj.j3,nxt hl e,Zch]
 by_cases c:x<m
 ·rw [if_pos c,if_pos c]
  by_cases c2:2147483647<s.2.1+1
  ·rw [if_pos c2,if_pos c2];rfl
  ·rw [if_neg c2,if_neg c2]
 ·rw [if_neg c,if_neg c]
  by_cases c2:x=m
  ·obtain ⟨_,g2,_⟩:=Zhe (fun _ _ _ _ _=>none) [] s.2.2.1 0 0 0 10 s.2.1 36 [] [] K0 (by unfold K0;omega) d0 (by omega) d1 (by omega) (by omega) (by unfold most;simp) (by unfold most;simp)
   obtain ⟨g3,_⟩:=Zqw s.2.1 s.2.2.1 d0 d1
   rw [if_pos c2,if_pos c2,Qh.f,g2,List.nil_append,Option.bind_some,if_pos (by unfold most;omega),wh,Zjn,Zp3 _ _ _ d0 (by omega) (by omega),Option.bind_some,if_neg (by decide)]
  ·rw [if_neg c2,if_neg c2,if_neg (by omega)]
theorem Zuj (a6:List Int→Int→Int→Int→Int→Option (ByteArray×Int×Int)) (L aa:List Int) (m:Int) (k:Nat) {pre t:List Int} {x:Int} (e:L=pre++x::t) (hl:L.length≤Z5) (hr:-2147483648≤x∧x≤2147483647) {H:Int} (s:SE) (hs:OkE H s) (hH:H≤4194304):
  Zn.l2 a6 (k+1) L aa m s.1 s.2.1 s.2.2.1 s.2.2.2 (pre.length:Int)=match Zch (aa.length:Int) m s x with | none=>Zj2 | some s'=>Zn.l2 a6 k L aa m s'.1 s'.2.1 s'.2.2.1 s'.2.2.2 ((pre.length:Int)+1):=by
 obtain ⟨d0,d1,h0,h1,len,asc⟩:=hs
 obtain ⟨m1,m2⟩:=mid e
 have wx:i64.wrap x=x:=w64 (by omega) (by omega)
 have wd:i64.wrap (s.2.1+1)=s.2.1+1:=w64 (by omega) (by omega)
 have wh:i64.wrap (s.2.2.2+1)=s.2.2.2+1:=w64 (by omega) (by omega)
 simp only [Zn.l2,if_pos m2.2,if_pos m2,m1,wx,wd,Zn.j5,Zch]
 by_cases c:x<m
 ·rw [if_pos c,if_pos c]
  by_cases c2:2147483647<s.2.1+1
  ·rw [if_pos c2,if_pos c2];rfl
  ·rw [if_neg c2,if_neg c2,if_pos (by omega)]
   simp only [Zn.j4,nxt hl e]
 ·rw [if_neg c,if_neg c]
  by_cases c2:x=m
  ·obtain ⟨_,_,g2⟩:=Zhe (Zn.l2 a6 k L aa m) aa s.2.2.1 s.2.2.2 (pre.length:Int) s.2.1 10 s.2.1 36 [] s.1 K0 (by unfold K0;omega) d0 (by omega) d1 (by omega) (by omega) (by unfold most;simp) (by unfold most;omega)
   rw [if_neg (by omega),if_pos c2,g2,wh,Zp3 _ _ _ d0 (by omega) (by omega),Option.bind_some]
   simp only [Zn.j4,nxt hl e]
  ·rw [if_pos (by omega),if_neg c2]
   simp only [Zn.j4,nxt hl e]
def Zxp (bi:List Int→Int→Int→Int→Int→Option (ByteArray×Int×Int)) (n m:Int):Option SE→Option (ByteArray×Int×Int)
 | none=>Zj2
 | some s=>(if s.2.2.2=n then Zj.j2 pU s.1 else if 2147483647<s.2.1+1 then Zj2 else bi s.1 (i64.wrap (m+1)) (s.2.1+1) s.2.2.1 s.2.2.2)
def Zw1 (a6:List Int→Int→Int→Int→Int→Option (ByteArray×Int×Int)) (m:Int):Option SE→Option (ByteArray×Int×Int)
 | none=>Zj2
 | some s=>a6 s.1 (i64.wrap (m+1)) (s.2.1+1) s.2.2.1 s.2.2.2
theorem Zs3 (bi:List Int→Int→Int→Int→Int→Option (ByteArray×Int×Int)) (L aa:List Int) (m:Int) (hl:2*L.length≤4194304) (hr:∀ x∈L,-2147483648≤x∧x≤2147483647) (s:SE) (hs:OkE (L.length:Int) s):
  Zj.l1 bi K0 pU L aa m s.1 s.2.1 s.2.2.1 s.2.2.2 0=Zxp bi (L.length:Int) m (Za6 (aa.length:Int) m L s):=by
 have hb:L.length≤Z5:=by unfold Z5;omega
 refine (fun key=>key (by simpa using hs)) (Xp (σ:=SE) (β:=ByteArray×Int×Int) (fun k i s=>Zj.l1 bi k pU L aa m s.1 s.2.1 s.2.2.1 s.2.2.2 i) L (fun pre t s o=>OkE ((L.length:Int)+pre.length) s→o=Zxp bi (L.length:Int) m (Za6 (aa.length:Int) m t s)) ?_ ?_ s K0 (ltK hb))
 ·intro s k h
  have wd:i64.wrap (s.2.1+1)=s.2.1+1:=w64 (by have:=h.d0;omega) (by have:=h.d1;omega)
  simp only [Zj.l1,if_neg (show ¬ (L.length:Int)<(L.length:Int) by omega),Za6,wd,Zxp]
  rfl
 ·intro pre x t s k e ih h
  have hle:L.length=pre.length+(t.length+1):=by rw [e];simp
  show Zj.l1 bi (k+1) pU L aa m s.1 s.2.1 s.2.2.1 s.2.2.2 (pre.length:Int)=_
  rw [Ztq bi L aa m k e hb (hr x (by rw [e];simp)) s h (by omega),Za6]
  cases hst:Zch (aa.length:Int) m s x with
  | none=>rfl
  | some s'=>
   obtain ⟨k1,_⟩:=Zgr h hst
   rw [Option.bind_some]
   refine ih s' ?_
   rw [List.length_append]
   simpa [Int.add_assoc] using k1
theorem Zvb (a6:List Int→Int→Int→Int→Int→Option (ByteArray×Int×Int)) (L aa:List Int) (m:Int) (hl:2*L.length≤4194304) (hr:∀ x∈L,-2147483648≤x∧x≤2147483647) (s:SE) (hs:OkE (L.length:Int) s):
  Zn.l2 a6 K0 L aa m s.1 s.2.1 s.2.2.1 s.2.2.2 0=Zw1 a6 m (Za6 (aa.length:Int) m L s):=by
 have hb:L.length≤Z5:=by unfold Z5;omega
 refine (fun key=>key (by simpa using hs)) (Xp (σ:=SE) (β:=ByteArray×Int×Int) (fun k i s=>Zn.l2 a6 k L aa m s.1 s.2.1 s.2.2.1 s.2.2.2 i) L (fun pre t s o=>OkE ((L.length:Int)+pre.length) s→o=Zw1 a6 m (Za6 (aa.length:Int) m t s)) ?_ ?_ s K0 (ltK hb))
 ·intro s k h
  have wd:i64.wrap (s.2.1+1)=s.2.1+1:=w64 (by have:=h.d0;omega) (by have:=h.d1;omega)
  simp only [Zn.l2,if_neg (show ¬ (L.length:Int)<(L.length:Int) by omega),Za6,wd,Zw1]
 ·intro pre x t s k e ih h
  have hle:L.length=pre.length+(t.length+1):=by rw [e];simp
  show Zn.l2 a6 (k+1) L aa m s.1 s.2.1 s.2.2.1 s.2.2.2 (pre.length:Int)=_
  rw [Zuj a6 L aa m k e hb (hr x (by rw [e];simp)) s h (by omega),Za6]
  cases hst:Zch (aa.length:Int) m s x with
  | none=>rfl
  | some s'=>
   obtain ⟨k1,_⟩:=Zgr h hst
   rw [Option.bind_some]
   refine ih s' ?_
   rw [List.length_append]
   simpa [Int.add_assoc] using k1
theorem Zko {b0 m:Int}:∀ (t:List Int) {H:Int} {s s':SE},OkE H s→Za6 b0 m t s=some s'→OkE (H+t.length) s'∧s'.2.2.2=s.2.2.2+(t.countP (fun x=>decide (x=m)):Int)
 | [],H,s,s',hs,e=>by
  obtain rfl:=Option.some.inj e
  exact ⟨by simpa using hs,by simp⟩
 | x::t,H,s,s',hs,e=>by
  rw [Za6] at e
  cases hst:Zch b0 m s x with
  | none=>rw [hst] at e;cases e
  | some s1=>
   rw [hst,Option.bind_some] at e
   obtain ⟨h1,h2⟩:=Zgr hs hst
   obtain ⟨h3,h4⟩:=Zko t h1 e
   refine ⟨?_,?_⟩
   ·rw [List.length_cons]
    have:H+((t.length+1:Nat):Int)=H+1+t.length:=by omega
    rw [this];exact h3
   ·rw [h4,h2,List.countP_cons]
    by_cases c:x=m<;>simp [c]<;>omega
def Zbj (n:Int) (L:List Int):Int:=(L.countP (fun x=>decide (x<n)):Int)
theorem Zjm (n:Int) (L:List Int):Zbj n L≤(L.length:Int):=by
 have:=List.countP_le_length (p:=fun x=>decide (x<n)) (l:=L)
 unfold Zbj;omega
theorem Zdq {n m:Int} (hn:n≤m):∀ (L:List Int),(∀ x∈L,n≤x→m≤x)→Zbj (m+1) L=Zbj n L+(L.countP (fun x=>decide (x=m)):Int)
 | [],_=>rfl
 | y::L,h=>by
  have ih:=Zdq hn L (fun x hx=>h x (by simp [hx]))
  have hy:=h y (by simp)
  unfold Zbj at ih ⊢
  simp only [List.countP_cons,decide_eq_true_eq]
  by_cases c:y<n
  ·rw [if_pos (by omega),if_pos c,if_neg (by omega)];omega
  ·have:=hy (by omega)
   by_cases c2:y=m
   ·rw [if_pos (by omega),if_neg c,if_pos c2];omega
   ·rw [if_neg (by omega),if_neg c,if_neg c2];omega
theorem Zso {n:Int} {L:List Int} (h:Zbj n L<(L.length:Int)):∃ x∈L,n≤x:=by
 apply Classical.byContradiction
 intro hc
 have:L.countP (fun x=>decide (x<n))=L.length:=List.countP_eq_length.2 fun x hx=>by
  simp only [decide_eq_true_eq]
  apply Classical.byContradiction
  intro hx2
  exact hc ⟨x,hx,by omega⟩
 unfold Zbj at h
 omega
theorem Zel {n:Int} {L:List Int} (hr:∀ x∈L,x≤1114111) (h:Zbj n L<(L.length:Int)):L.foldl (Za2 n) 1114112=L.foldl (Za2 n) 1114111∧L.foldl (Za2 n) 1114111∈L∧n≤L.foldl (Za2 n) 1114111∧∀ x∈L,n≤x→L.foldl (Za2 n) 1114111≤x:=by
 obtain ⟨x,hx,hn⟩:=Zso h
 obtain ⟨a1,a2,a3⟩:=Zjc n L 1114111
 obtain ⟨b1,b2,b3⟩:=Zjc n L 1114112
 have hx1:=hr x hx
 have hx2:=a2 x hx hn
 have hx3:=b2 x hx hn
 have hm:L.foldl (Za2 n) 1114111∈L∧n≤L.foldl (Za2 n) 1114111:=by
  rcases a3 with a3 | ⟨y,hy,hy2,a3⟩
  ·have:L.foldl (Za2 n) 1114111=x:=by omega
   rw [this];exact ⟨hx,hn⟩
  ·rw [a3];exact ⟨hy,hy2⟩
 refine ⟨?_,hm.1,hm.2,a2⟩
 have h1:=b2 _ hm.1 hm.2
 rcases b3 with b3 | ⟨y,hy,hy2,b3⟩
 ·omega
 ·have:=a2 y hy hy2;omega
def Kf (L:List Int) (n:Int):Int:=L.foldl (Za2 n) 1114111
def Zf7 (L:List Int) (b0:Int):Nat→List Int→Int→Int→Int→Int→Option (Option (List Int))
 | 0,_,_,_,_,_=>none
 | k+1,o,n,d,b,h=>if h<(L.length:Int) then (if 2147483647<d+(Kf L n-n)*(h+1) then some none else match Za6 b0 (Kf L n) L (o,d+(Kf L n-n)*(h+1),b,h) with
   | none=>some none
   | some s=>Zf7 L b0 k s.1 (Kf L n+1) (s.2.1+1) s.2.2.1 s.2.2.2) else some (some o)
def Zig:Option (List Int)→Option (ByteArray×Int×Int)
 | none=>Zj2
 | some o=>(Yg.f (K5 o)).bind fun ck=>if ck.2.2≠0 then Zj2 else some (K5 o,0,0)
theorem Zgp {o:List Int} (h:∀ c∈o,0≤c∧c<128):Qs (K5 o)=o:=by
 rw [Qs,Zcq,List.map_map]
 have:∀ m:List Int,(∀ c∈m,0≤c∧c<128)→m.map ((fun b:UInt8=>(b.toNat:Int))∘fun n:Int=>UInt8.ofNat n.toNat)=m:=by
  intro m
  induction m with
  | nil=>intro _;rfl
  | cons x m ih=>
   intro hm
   have hx:=hm x (by simp)
   rw [List.map_cons,ih fun y hy=>hm y (by simp [hy])]
   congr 1
   simp only [Function.comp,UInt8.toNat_ofNat']
   omega
 exact this o h
theorem Zdp {o:List Int} (h:∀ c∈o,0≤c∧c<128):(K5 o).size=o.length:=by rw [← X0,Zgp h]
theorem Zlb {o:List Int} (h:∀ c∈o,0≤c∧c<128):Zpo (K5 o):=fun j j0 j1=>by
 rw [Zdp h] at j1
 rw [Zdt,Zgp h]
 exact (h _ (Zf5 j0 j1)).2
theorem Zqp {o:List Int} (h:∀ c∈o,0≤c∧c<128) (hl:2*o.length≤Z5):Zj.j2 pU o=Zig (some o):=by
 obtain ⟨l,a,e,h1,h2,_⟩:=Zm9 (K5 o) (by rw [Zdp h];exact hl) (Zlb h)
 rw [Zj.j2,Zig,h1,h2];rfl
theorem Ztx (L aa:List Int) (hl:L.length≤2097152) (hr:∀ x∈L,0≤x∧x≤1114111):∀ (q k:Nat) (o:List Int) (n d b h:Int),(L.length:Int)-h≤(q:Int)→q<k→128≤n→n≤1114112→0≤d→d≤2147483648→h=Zbj n L→(o.length:Int)≤12*h+1→(∀ c∈o,0≤c∧c<128)→
  ∃ r,Zf7 L (aa.length:Int) k o n d b h=some r∧Zn.l4 k L aa o n d b h=Zig r∧(d≤2147483647→Zj.l2 k pU L aa o n d b h=Zig r)∧(2147483647<d→h<(L.length:Int)→r=none)∧(∀ o',r=some o'→(∀ c∈o',0≤c∧c<128)∧o'.length≤12*L.length+1):=by
 have hb:L.length≤Z5:=by unfold Z5;omega
 have hr2:∀ x∈L,-2147483648≤x∧x≤2147483647:=fun x hx=>by have:=hr x hx;omega
 intro q
 induction q with
 | zero=>
  intro k o n d b h h1 h2 h3 h4 h5 h6 h7 h8 h9
  obtain ⟨k,rfl⟩:∃ j,k=j+1:=⟨k-1,by omega⟩
  have hle:=Zjm n L
  have hn:¬ h<(L.length:Int):=by omega
  refine ⟨some o,by rw [Zf7,if_neg hn],?_,fun _=>?_,fun _ c=>absurd c hn,fun o' e=>?_⟩
  ·rw [Zn.l4,if_neg hn];rfl
  ·rw [Zj.l2,if_neg hn]
   exact Zqp h9 (by unfold Z5;omega)
  ·obtain rfl:=Option.some.inj e
   exact ⟨h9,by omega⟩
 | succ q ih=>
  intro k o n d b h h1 h2 h3 h4 h5 h6 h7 h8 h9
  obtain ⟨k,rfl⟩:∃ j,k=j+1:=⟨k-1,by omega⟩
  have hle:=Zjm n L
  by_cases hn:h<(L.length:Int)
  ·obtain ⟨g1,g2,g3,g4⟩:=Zel (fun x hx=>(hr x hx).2) (n:=n) (L:=L) (by omega)
   have g5:=(hr _ g2).2
   change Kf L n∈L at g2
   change n≤Kf L n at g3
   change ∀ x∈L,n≤x→Kf L n≤x at g4
   change Kf L n≤1114111 at g5
   change L.foldl (Za2 n) 1114112=Kf L n at g1
   have hh0:0≤h:=by rw [h7];unfold Zbj;omega
   have p0:0≤(Kf L n-n)*(h+1):=Int.mul_nonneg (by omega) (by omega)
   have p1:(Kf L n-n)*(h+1)≤1114112*2097153:=Int.mul_le_mul (by omega) (by omega) (by omega) (by omega)
   have w1:i64.wrap (Kf L n-n)=Kf L n-n:=w64 (by omega) (by omega)
   have w2:i64.wrap (h+1)=h+1:=w64 (by omega) (by omega)
   have w3:i64.wrap ((Kf L n-n)*(h+1))=(Kf L n-n)*(h+1):=w64 (by omega) (by omega)
   have w4:i64.wrap (d+(Kf L n-n)*(h+1))=d+(Kf L n-n)*(h+1):=w64 (by omega) (by omega)
   have w5:i64.wrap (Kf L n+1)=Kf L n+1:=w64 (by omega) (by omega)
   have ep:Zj.l2 (k+1) pU L aa o n d b h=if 2147483647<d+(Kf L n-n)*(h+1) then Zj2 else Zj.l1 (Zj.l2 k pU L aa) K0 pU L aa (Kf L n) o (d+(Kf L n-n)*(h+1)) b h 0:=by
    have e9:K3.f L n=some (Kf L n):=Zxe L n hb hr2
    rw [Zj.l2,if_pos hn,e9,Option.bind_some,w1,w2,w3,w4];rfl
   have er:Zn.l4 (k+1) L aa o n d b h=if 2147483647<d+(Kf L n-n)*(h+1) then Zj2 else Zn.l2 (Zn.l4 k L aa) K0 L aa (Kf L n) o (d+(Kf L n-n)*(h+1)) b h 0:=by
    rw [Zn.l4,if_pos hn,Zvq _ _ _ _ _ _ _ _ hb hr2,g1,w1,w2,w3,w4];rfl
   rw [ep,er,Zf7,if_pos hn]
   by_cases c:2147483647<d+(Kf L n-n)*(h+1)
   ·rw [if_pos c,if_pos c,if_pos c]
    exact ⟨none,rfl,rfl,fun _=>rfl,fun _ _=>rfl,fun o' e=>by cases e⟩
   ·rw [if_neg c,if_neg c,if_neg c]
    have hok:OkE (L.length:Int) (o,d+(Kf L n-n)*(h+1),b,h):=⟨by simp only;omega,by simp only;omega,hh0,by simp only;omega,h8,h9⟩
    have e1:=Zs3 (Zj.l2 k pU L aa) L aa (Kf L n) (by omega) hr2 _ hok
    have e2:=Zvb (Zn.l4 k L aa) L aa (Kf L n) (by omega) hr2 _ hok
    simp only at e1 e2
    rw [e1,e2]
    cases hp:Za6 (aa.length:Int) (Kf L n) L (o,d+(Kf L n-n)*(h+1),b,h) with
    | none=>exact ⟨none,rfl,rfl,fun _=>rfl,fun _ _=>rfl,fun o' e=>by cases e⟩
    | some s=>
     obtain ⟨hs,hc⟩:=Zko L hok hp
     have hcnt:=Zdq g3 L g4
     have hpos:0<L.countP (fun x=>decide (x=Kf L n)):=List.countP_pos_iff.2 ⟨_,g2,by simp⟩
     have hh:s.2.2.2=Zbj (Kf L n+1) L:=by rw [hcnt,hc,h7]
     have hle2:=Zjm (Kf L n+1) L
     obtain ⟨r,r1,r2,r3,r4,r5⟩:=ih k s.1 (Kf L n+1) (s.2.1+1) s.2.2.1 s.2.2.2 (by simp only at hc;omega) (by omega) (by omega) (by omega) (by have:=hs.d0;omega) (by have:=hs.d1;omega) hh hs.len hs.asc
     refine ⟨r,r1,by rw [Zw1,w5];exact r2,fun _=>?_,fun c2 _=>absurd c2 (by omega),r5⟩
     rw [Zxp]
     by_cases c2:s.2.2.2=(L.length:Int)
     ·rw [if_pos c2]
      obtain ⟨k,rfl⟩:∃ j,k=j+1:=⟨k-1,by omega⟩
      rw [Zf7,if_neg (by omega)] at r1
      rw [← Option.some.inj r1]
      exact Zqp hs.asc (by have:=hs.len;unfold Z5;omega)
     ·rw [if_neg c2]
      by_cases c3:2147483647<s.2.1+1
      ·rw [if_pos c3,r4 c3 (by omega)];rfl
      ·rw [if_neg c3,w5]
       exact r3 (by omega)
  ·refine ⟨some o,by rw [Zf7,if_neg hn],?_,fun _=>?_,fun _ c=>absurd c hn,fun o' e=>?_⟩
   ·rw [Zn.l4,if_neg hn];rfl
   ·rw [Zj.l2,if_neg hn]
    exact Zqp h9 (by unfold Z5;omega)
   ·obtain rfl:=Option.some.inj e
    exact ⟨h9,by omega⟩
end Go.Proofs.YthoicbafdanmkaaGreatDoor
/- Plain laws: Punycode is written alike: from the check to the text. Own work of this repo. -/
namespace Go.Proofs.YthoicbafdanmkaaGreatDoor
open Go.IntKind (i8 i16 i32 i64 u8 u16 u32 u64)
open Go.RowKit

def V3 (L:List Int):List Int:=L.filter fun x=>decide (x<128)
def Ut (aa:List Int):List Int:=if 0<(aa.length:Int) then aa++[45] else aa
theorem Zdf {p:Int} (h:scB p=true):0≤p∧p≤1114111:=by
 have e:=Zjl p
 rw [h] at e
 unfold Q5.f Q5.j1 at e
 by_cases a:0≤p
 ·rw [if_pos a] at e
  by_cases b:p<55296
  ·omega
  ·rw [if_neg b] at e
   by_cases c:57343<p
   ·rw [if_pos c] at e
    have:=of_decide_eq_true (Option.some.inj e)
    omega
   ·rw [if_neg c] at e;cases e
 ·rw [if_neg a,if_neg (by omega)] at e;cases e
theorem Zfc (pre:List Int) (x:Int):V3 (pre++[x])=if x<128 then V3 pre++[x] else V3 pre:=by
 unfold V3
 by_cases c:x<128<;>simp [List.filter_append,c]
theorem Zc6 (L:List Int):(V3 L).length≤L.length:=List.length_filter_le _ _
theorem Zja (L:List Int):Zbj 128 L=((V3 L).length:Int):=by
 unfold Zbj V3
 rw [List.countP_eq_length_filter]
theorem Zox (L:List Int) (hl:L.length≤2097152) (hr:∀ x∈L,0≤x∧x≤1114111):Zj.l3 K0 pU L [] 0=Zj.l2 K0 pU L (V3 L) (Ut (V3 L)) 128 0 72 ((V3 L).length:Int):=by
 have hb:L.length≤Z5:=by unfold Z5;omega
 refine (fun key=>key rfl) (Xp (σ:=List Int) (β:=ByteArray×Int×Int) (fun k i s=>Zj.l3 k pU L s i) L (fun pre _ s o=>s=V3 pre→o=Zj.l2 K0 pU L (V3 L) (Ut (V3 L)) 128 0 72 ((V3 L).length:Int)) ?_ ?_ [] K0 (ltK hb))
 ·intro s k hs
  -- the last round
  have hs':s=V3 L→Zj.l3 (k+1) pU L s (L.length:Int)=Zj.l2 K0 pU L (V3 L) (Ut (V3 L)) 128 0 72 ((V3 L).length:Int):=by
   rintro rfl
   have:=Zc6 L
   simp only [Zj.l3,if_neg (show ¬ (L.length:Int)<(L.length:Int) by omega),Zj.j4,Ut]
   by_cases c:0<((V3 L).length:Int)
   ·rw [if_pos c,if_pos c,if_pos (by unfold most;simp;omega)]
   ·rw [if_neg c,if_neg c]
  exact hs' hs
 ·intro pre x t s k e ih hs
  obtain ⟨m1,m2⟩:=mid e
  obtain ⟨x0,x1⟩:=hr x (by rw [e];simp)
  have hle:L.length=pre.length+(t.length+1):=by rw [e];simp
  have hlen:=Zc6 pre
  have wx:i64.wrap x=x:=w64 (by omega) (by omega)
  have hbas:Xv.f pU x=some (decide (x<128)):=by
   simp only [Xv.f,Xv.j1,wx]
   by_cases c:x<128<;>simp [c]
  simp only [Zj.l3,if_pos m2.2,if_pos m2,m1,hbas,Option.bind_some,decide_eq_true_eq,Zj.j1,nxt hb e]
  by_cases c:x<128
  ·rw [if_pos c,if_pos (by rw [hs];unfold most;simp;omega),Zef x0 (by omega)]
   exact ih _ (by rw [Zfc,if_pos c,hs])
  ·rw [if_neg c]
   exact ih _ (by rw [Zfc,if_neg c,hs])
theorem Zwj (L:List Int) (hl:L.length≤2097152):Zn.l5 K0 L [] 0=if fIx (fun p=>!scB p) L 0=-1 then Zn.l4 K0 L (V3 L) (Ut (V3 L)) 128 0 72 ((V3 L).length:Int) else some ((⟨#[]⟩:ByteArray),fIx (fun p=>!scB p) L 0,20):=by
 have hb:L.length≤Z5:=by unfold Z5;omega
 refine (fun key=>key rfl) (Xp (σ:=List Int) (β:=ByteArray×Int×Int) (fun k i s=>Zn.l5 k L s i) L (fun pre t s o=>s=V3 pre→o=if fIx (fun p=>!scB p) t pre.length=-1 then Zn.l4 K0 L (V3 L) (Ut (V3 L)) 128 0 72 ((V3 L).length:Int) else some ((⟨#[]⟩:ByteArray),fIx (fun p=>!scB p) t pre.length,20)) ?_ ?_ [] K0 (ltK hb))
 ·intro s k hs
  subst hs
  have:=Zc6 L
  simp only [Zn.l5,if_neg (show ¬ (L.length:Int)<(L.length:Int) by omega),Zn.j6,Ut,fIx,if_true]
  by_cases c:0<((V3 L).length:Int)
  ·rw [if_pos c,if_pos c,if_pos (by unfold most;simp;omega)]
  ·rw [if_neg c,if_neg c]
 ·intro pre x t s k e ih hs
  obtain ⟨m1,m2⟩:=mid e
  have hle:L.length=pre.length+(t.length+1):=by rw [e];simp
  have hlen:=Zc6 pre
  simp only [Zn.l5,if_pos m2.2,if_pos m2,m1,Zjl,Option.bind_some,Zn.j1,nxt hb e]
  by_cases c:(!scB x)=true
  ·have ef:fIx (fun p=>!scB p) (x::t) pre.length=(pre.length:Int):=by rw [fIx,if_pos c]
   rw [if_pos c,ef,if_neg (by omega)]
  ·have ef:fIx (fun p=>!scB p) (x::t) pre.length=fIx (fun p=>!scB p) t (pre.length+1):=by rw [fIx,if_neg c]
   obtain ⟨x0,x1⟩:=Zdf (p:=x) (by simpa using c)
   have ih2:=fun s' h=>ih s' h
   simp only [List.length_append,List.length_cons,List.length_nil,Nat.zero_add] at ih2
   rw [if_neg c,ef]
   by_cases c2:x<128
   ·rw [if_pos c2,if_pos (by rw [hs];unfold most;simp;omega),Zef x0 (by omega)]
    exact ih2 _ (by rw [Zfc,if_pos c2,hs])
   ·rw [if_neg c2]
    exact ih2 _ (by rw [Zfc,if_neg c2,hs])
theorem Zrg (L:List Int) (hl:L.length≤2097152) (hr:∀ x∈L,0≤x∧x≤1114111):∃ r,Zf7 L ((V3 L).length:Int) K0 (Ut (V3 L)) 128 0 72 ((V3 L).length:Int)=some r∧Zn.l4 K0 L (V3 L) (Ut (V3 L)) 128 0 72 ((V3 L).length:Int)=Zig r∧Zj.l2 K0 pU L (V3 L) (Ut (V3 L)) 128 0 72 ((V3 L).length:Int)=Zig r∧(∀ o',r=some o'→(∀ c∈o',0≤c∧c<128)∧o'.length≤12*L.length+1):=by
 have h1:=Zc6 L
 have hK:(K0:Int)=1180591620717411303424:=rfl
 have hm:∀ c∈V3 L,0≤c∧c<128:=fun c hc=>by
  obtain ⟨h2,h3⟩:=List.mem_filter.1 hc
  have:=hr c h2
  have:=of_decide_eq_true h3
  omega
 obtain ⟨r,r1,r2,r3,_,r5⟩:=Ztx L (V3 L) hl hr L.length K0 (Ut (V3 L)) 128 0 72 ((V3 L).length:Int) (by omega) (by omega) (by omega) (by omega) (by omega) (by omega) (Zja L).symm (by unfold Ut;split<;>first | (simp;omega) | omega) (fun c hc=>by
  unfold Ut at hc
  split at hc
  ·rcases List.mem_append.1 hc with hc | hc
   ·exact hm c hc
   ·simp only [List.mem_singleton] at hc;omega
  ·exact hm c hc)
 exact ⟨r,r1,r2,r3 (by omega),r5⟩
theorem Zum {r:Option (List Int)} {n:Nat} (h:∀ o',r=some o'→(∀ c∈o',0≤c∧c<128)∧o'.length≤n) (hn:2*n≤Z5):∃ s a e,Zig r=some (s,a,e)∧s.size≤n:=by
 cases r with
 | none=>exact ⟨_,_,_,rfl,Nat.zero_le _⟩
 | some o=>
  obtain ⟨h1,h2⟩:=h o rfl
  obtain ⟨l,a,e,_,h4,_⟩:=Zm9 (K5 o) (by rw [Zdp h1];omega) (Zlb h1)
  rw [Zig,h4,Option.bind_some]
  by_cases c:e=0
  ·exact ⟨_,_,_,by rw [if_neg (by simp [c])],by rw [Zdp h1];exact h2⟩
  ·exact ⟨_,_,_,by rw [if_pos (by simp [c])];rfl,Nat.zero_le _⟩
theorem Zla (L:List Int) (hl:L.length≤2097152) (hr:∀ x∈L,-2147483648≤x∧x≤2147483647):∃ s a e,Vz.f L=some (s,a,e)∧Zn.f L=some (s,a,e)∧s.size≤9223372036854775800:=by
 have hb:L.length≤Z5:=by unfold Z5;omega
 have hu:Uk.f=some pU:=rfl
 have hp:=Zha L hb hr
 rw [Zn.f,Zwj L hl,Vz.f,hu,Option.bind_some,Zj.f,hp,Option.bind_some]
 rcases Zez (fun p=>!scB p) L 0 with ⟨c,h⟩ | ⟨a,x,r,e,hx,_,h⟩
 ·have hr2:∀ x∈L,0≤x∧x≤1114111:=fun x hx=>Zdf (by simpa using h x hx)
  obtain ⟨r,r1,r2,r3,r4⟩:=Zrg L hl hr2
  obtain ⟨s,a,e,h3,h4⟩:=Zum r4 (by unfold Z5;omega)
  rw [if_pos c,if_pos c,if_neg (by simp),Zox L hl hr2,r3,r2,h3]
  exact ⟨s,a,e,rfl,rfl,by omega⟩
 ·have hne:¬ fIx (fun p=>!scB p) L 0=-1:=by rw [h];omega
  rw [if_neg hne,if_neg hne,if_pos (by simp)]
  exact ⟨_,_,_,rfl,rfl,Nat.zero_le _⟩
end Go.Proofs.YthoicbafdanmkaaGreatDoor
/- Plain laws: a list is built by deltas in one way alone, and a list's deltas build it. Own work of this repo. -/
namespace Go.Proofs.YthoicbafdanmkaaGreatDoor
open Go.RowKit

def fL (n:Int) (l:List Int):List Int:=l.filter fun x=>decide (x<n)
theorem Zpu (n:Int) (a b:List Int):fL n (a++b)=fL n a++fL n b:=by simp [fL]
theorem Zr4 {n m:Int} (h:n≤m) (l:List Int):fL n (fL m l)=fL n l:=by
 unfold fL
 rw [List.filter_filter]
 apply List.filter_congr
 intro x _
 by_cases c:x<n
 ·simp [c];omega
 ·simp [c]
theorem Zhi {n:Int} {l:List Int} (h:∀ x∈l,x<n):fL n l=l:=List.filter_eq_self.2 fun x hx=>by simpa using h x hx
theorem Zvl {n x:Int} {l:List Int}:x∈fL n l↔x∈l∧x<n:=by simp [fL]
theorem Zpz {n z:Int} (h:n≤z) (l:List Int) (i:Int):fL n (H3 l i z)=fL n l:=by
 unfold H3
 rw [Zpu]
 have:fL n (z::l.drop i.toNat)=fL n (l.drop i.toNat):=by unfold fL;rw [List.filter_cons_of_neg (by simp;omega)]
 rw [this,← Zpu,List.take_append_drop]
theorem Zn4 {l:List Int} {i z x:Int} (h:x∈H3 l i z):x=z∨x∈l:=by
 unfold H3 at h
 rcases List.mem_append.1 h with h | h
 ·exact .inr (List.mem_of_mem_take h)
 ·rcases List.mem_cons.1 h with h | h
  ·exact .inl h
  ·exact .inr (List.mem_of_mem_drop h)
theorem Zg5 (l:List Int) (i z:Int):(H3 l i z).length=l.length+1:=by
 unfold H3
 simp only [List.length_append,List.length_take,List.length_cons,List.length_drop]
 omega
theorem Zk6 (l:List Int) (i z x:Int):(H3 l i z).count x=l.count x+(if z=x then 1 else 0):=by
 unfold H3
 have h:=congrArg (List.count x) (List.take_append_drop i.toNat l)
 rw [List.count_append] at h
 rw [List.count_append,List.count_cons]
 by_cases c:z=x
 ·simp [c];omega
 ·simp [c];omega
def nD (o:List Int) (n i d:Int):Int:=n+(i+d)/((o.length:Int)+1)
def pD (o:List Int) (i d:Int):Int:=(i+d)%((o.length:Int)+1)
def bld:List Int→List Int→Int→Int→List Int
 | [],o,_,_=>o
 | d::ds,o,n,i=>bld ds (H3 o (pD o i d) (nD o n i d)) (nD o n i d) (pD o i d+1)
theorem Zdl (o:List Int) (i d:Int):0≤pD o i d∧pD o i d≤(o.length:Int):=by
 unfold pD
 have h0:0≤(i+d)%((o.length:Int)+1):=Int.emod_nonneg _ (by omega)
 have h1:(i+d)%((o.length:Int)+1)<(o.length:Int)+1:=Int.emod_lt_of_pos _ (by omega)
 omega
theorem Zoj {o:List Int} {n i d:Int} (hi:0≤i) (hd:0≤d):n≤nD o n i d:=by
 unfold nD
 have:0≤(i+d)/((o.length:Int)+1):=Int.ediv_nonneg (by omega) (by omega)
 omega
theorem Zwa {o:List Int} {n i d:Int} (h:nD o n i d=n):pD o i d=i+d:=by
 unfold nD at h
 unfold pD
 have h1:(i+d)/((o.length:Int)+1)=0:=by omega
 have:=Int.emod_add_mul_ediv (i+d) ((o.length:Int)+1)
 rw [h1] at this
 simpa using this
theorem Zmj:∀ (ds o:List Int) (n i:Int),(∀ d∈ds,0≤d)→0≤i→fL n (bld ds o n i)=fL n o
 | [],_,_,_,_,_=>rfl
 | d::ds,o,n,i,h,hi=>by
  have hn:=Zoj (o:=o) (n:=n) hi (h d (by simp))
  have ih:=Zmj ds (H3 o (pD o i d) (nD o n i d)) (nD o n i d) (pD o i d+1) (fun x hx=>h x (by simp [hx])) (by have:=Zdl o i d;omega)
  rw [bld,← Zr4 hn,ih,Zr4 hn,Zpz hn]
structure Zoi (o:List Int) (n i:Int):Prop where
 i0:0≤i
 i1:i≤(o.length:Int)
 le:∀ x∈o,x≤n
 lt:∀ x∈o.drop i.toNat,x<n
theorem Zoi.next {o:List Int} {n i d:Int} (h:Zoi o n i) (hd:0≤d):Zoi (H3 o (pD o i d) (nD o n i d)) (nD o n i d) (pD o i d+1):=by
 obtain ⟨p0,p1⟩:=Zdl o i d
 have hn:=Zoj (o:=o) (n:=n) h.i0 hd
 refine ⟨by omega,by rw [Zg5];omega,fun x hx=>?_,fun x hx=>?_⟩
 ·rcases Zn4 hx with rfl | hx
  ·exact Int.le_refl _
  ·have:=h.le x hx;omega
 ·have e:(H3 o (pD o i d) (nD o n i d)).drop (pD o i d+1).toNat=o.drop (pD o i d).toNat:=by
   unfold H3
   have e1:(pD o i d+1).toNat=(o.take (pD o i d).toNat).length+1:=by rw [List.length_take];omega
   rw [e1,← List.drop_drop,List.drop_left];rfl
  rw [e] at hx
  by_cases c:nD o n i d=n
  ·have hp:=Zwa c
   rw [c]
   apply h.lt x
   have:=h.i0
   rw [show (pD o i d).toNat=i.toNat+(d.toNat) by omega,← List.drop_drop] at hx
   exact List.mem_of_mem_drop hx
  ·have:=h.le x (List.mem_of_mem_drop hx);omega
theorem Zo5:∀ (ds o:List Int) (n i:Int),(∀ d∈ds,0≤d)→Zoi o n i→(fL (n+1) (bld ds o n i)).take i.toNat=o.take i.toNat
 | [],o,n,i,_,h=>by
  rw [bld,Zhi fun x hx=>by have:=h.le x hx;omega]
 | d::ds,o,n,i,hd,h=>by
  have hd0:=hd d (by simp)
  have hds:∀ x∈ds,0≤x:=fun x hx=>hd x (by simp [hx])
  have hn:=Zoj (o:=o) (n:=n) h.i0 hd0
  obtain ⟨p0,p1⟩:=Zdl o i d
  by_cases c:nD o n i d=n
  ·have ih:=Zo5 ds _ _ _ hds (h.next hd0)
   have hp:=Zwa c
   rw [c] at ih
   rw [bld,c]
   have e1:i.toNat=min i.toNat (pD o i d+1).toNat:=by omega
   rw [e1,← List.take_take,ih,List.take_take,← e1]
   unfold H3
   rw [List.take_append_of_le_length (by rw [List.length_take];omega),List.take_take]
   congr 1
   omega
  ·have hq:=Zmj ds (H3 o (pD o i d) (nD o n i d)) (nD o n i d) (pD o i d+1) hds (by omega)
   rw [Zpz (Int.le_refl _),Zhi (l:=o) fun x hx=>by have:=h.le x hx;omega] at hq
   rw [bld,← Zr4 (m:=nD o n i d) (by omega),hq,Zhi fun x hx=>by have:=h.le x hx;omega]
theorem Zl6 (x:Int):∀ (ds o:List Int) (n i:Int),o.count x≤(bld ds o n i).count x
 | [],_,_,_=>Nat.le_refl _
 | d::ds,o,n,i=>by
  have:=Zl6 x ds (H3 o (pD o i d) (nD o n i d)) (nD o n i d) (pD o i d+1)
  rw [Zk6] at this
  rw [bld];omega
theorem Zgj:∀ (ds o:List Int) (n i:Int),(bld ds o n i).length=o.length+ds.length
 | [],_,_,_=>rfl
 | d::ds,o,n,i=>by rw [bld,Zgj ds,Zg5,List.length_cons];omega
theorem Ze4 {d:Int} {ds o:List Int} {n i:Int} (h:Zoi o n i) (hd:0≤d) (hds:∀ x∈ds,0≤x):
  fL (nD o n i d) (bld (d::ds) o n i)=fL (nD o n i d) o∧(fL (nD o n i d+1) (bld (d::ds) o n i)).take ((pD o i d).toNat+1)=o.take (pD o i d).toNat++[nD o n i d]∧o.count (nD o n i d)<(bld (d::ds) o n i).count (nD o n i d):=by
 obtain ⟨p0,p1⟩:=Zdl o i d
 refine ⟨?_,?_,?_⟩
 ·rw [bld,Zmj _ _ _ _ hds (by omega),Zpz (Int.le_refl _)]
 ·have:=Zo5 ds _ _ _ hds (h.next hd)
  rw [show (pD o i d+1).toNat=(pD o i d).toNat+1 by omega] at this
  rw [bld,this]
  unfold H3
  rw [List.take_append,List.length_take,List.take_of_length_le (by rw [List.length_take];omega),show (pD o i d).toNat+1-min (pD o i d).toNat o.length=1 by omega]
  rfl
 ·have:=Zl6 (nD o n i d) ds (H3 o (pD o i d) (nD o n i d)) (nD o n i d) (pD o i d+1)
  rw [Zk6,if_pos rfl] at this
  rw [bld];omega
theorem Zse {d d':Int} {ds ds' o:List Int} {n i:Int} (h:Zoi o n i) (hd:0≤d) (hds:∀ x∈ds,0≤x) (hd':0≤d') (hds':∀ x∈ds',0≤x) (e:bld (d::ds) o n i=bld (d'::ds') o n i):¬ nD o n i d<nD o n i d':=by
 intro c
 obtain ⟨_,_,h3⟩:=Ze4 h hd hds
 obtain ⟨h1,_,_⟩:=Ze4 h hd' hds'
 have hc:∀ l:List Int,(fL (nD o n i d') l).count (nD o n i d)=l.count (nD o n i d):=fun l=>by
  unfold fL
  rw [List.count_filter (by simpa using c)]
 rw [← hc (bld _ _ _ _),← hc o,e,h1] at h3
 omega
theorem Zsb {d d':Int} {ds ds' o:List Int} {n i:Int} (h:Zoi o n i) (hd:0≤d) (hds:∀ x∈ds,0≤x) (hd':0≤d') (hds':∀ x∈ds',0≤x) (e:bld (d::ds) o n i=bld (d'::ds') o n i) (hn:nD o n i d=nD o n i d'):¬ pD o i d<pD o i d':=by
 intro c
 obtain ⟨_,h2,_⟩:=Ze4 h hd hds
 obtain ⟨_,h2',_⟩:=Ze4 h hd' hds'
 obtain ⟨p0,p1⟩:=Zdl o i d
 obtain ⟨q0,q1⟩:=Zdl o i d'
 have hlt:(pD o i d).toNat<o.length:=by omega
 have a1:=congrArg (fun l:List Int=>l[(pD o i d).toNat]?) h2
 have a2:=congrArg (fun l:List Int=>l[(pD o i d).toNat]?) h2'
 rw [List.getElem?_take_of_lt (by omega),List.getElem?_append_right (by rw [List.length_take];omega),List.length_take,show (pD o i d).toNat-min (pD o i d).toNat o.length=0 by omega,List.getElem?_cons_zero] at a1
 rw [List.getElem?_take_of_lt (by omega),List.getElem?_append_left (by rw [List.length_take];omega),List.getElem?_take_of_lt (by omega),← e,← hn,a1] at a2
 have hge:=Zoj (o:=o) (n:=n) h.i0 hd
 have hm:nD o n i d∈o:=List.mem_of_getElem? a2.symm
 by_cases c2:nD o n i d=n
 ·have hp:=Zwa c2
  have:nD o n i d∈o.drop i.toNat:=by
   have:=h.i0
   apply List.mem_of_getElem? (i:=d.toNat)
   rw [List.getElem?_drop,show i.toNat+d.toNat=(pD o i d).toNat by omega,← a2]
  have:=h.lt _ this
  omega
 ·have:=h.le _ hm
  omega
theorem Zrd:∀ (ds ds' o:List Int) (n i:Int),Zoi o n i→(∀ d∈ds,0≤d)→(∀ d∈ds',0≤d)→bld ds o n i=bld ds' o n i→ds=ds'
 | [],ds',o,n,i,_,_,_,e=>by
  have:=congrArg List.length e
  rw [Zgj,Zgj] at this
  exact (List.eq_nil_of_length_eq_zero (by rw [List.length_nil] at this;omega)).symm
 | d::ds,[],o,n,i,_,_,_,e=>by
  have:=congrArg List.length e
  rw [Zgj,Zgj] at this
  simp at this
 | d::ds,d'::ds',o,n,i,h,h1,h2,e=>by
  have a1:=h1 d (by simp)
  have a2:∀ x∈ds,0≤x:=fun x hx=>h1 x (by simp [hx])
  have b1:=h2 d' (by simp)
  have b2:∀ x∈ds',0≤x:=fun x hx=>h2 x (by simp [hx])
  have hn:nD o n i d=nD o n i d':=by
   have:=Zse h a1 a2 b1 b2 e
   have:=Zse h b1 b2 a1 a2 e.symm
   omega
  have hp:pD o i d=pD o i d':=by
   have:=Zsb h a1 a2 b1 b2 e hn
   have:=Zsb h b1 b2 a1 a2 e.symm hn.symm
   omega
  have hd:d=d':=by
   have e1:=Int.emod_add_mul_ediv (i+d) ((o.length:Int)+1)
   have e2:=Int.emod_add_mul_ediv (i+d') ((o.length:Int)+1)
   unfold nD at hn
   unfold pD at hp
   have hq:(i+d)/((o.length:Int)+1)=(i+d')/((o.length:Int)+1):=by omega
   rw [hp,hq] at e1
   omega
  subst hd
  rw [Zrd ds ds' _ _ _ (h.next a1) a2 b2 e]
def Ko (m:Int):List Int→Int→Int→List Int×Int×Int
 | [],d,h=>([],d,h)
 | x::t,d,h=>if x<m then Ko m t (d+1) h else if x=m then (d::(Ko m t 0 (h+1)).1,(Ko m t 0 (h+1)).2) else Ko m t d h
def Zet (L:List Int):Nat→Int→Int→Int→List Int
 | 0,_,_,_=>[]
 | k+1,n,d,h=>if h<(L.length:Int) then (Ko (Kf L n) L (d+(Kf L n-n)*(h+1)) h).1++Zet L k (Kf L n+1) ((Ko (Kf L n) L (d+(Kf L n-n)*(h+1)) h).2.1+1) (Ko (Kf L n) L (d+(Kf L n-n)*(h+1)) h).2.2 else []
theorem Zd6 (m:Int):∀ (t:List Int) (d h:Int),0≤d→(∀ x∈(Ko m t d h).1,0≤x)∧0≤(Ko m t d h).2.1∧h≤(Ko m t d h).2.2
 | [],d,h,hd=>⟨(fun _ hx=>by cases hx),hd,Int.le_refl _⟩
 | x::t,d,h,hd=>by
  rw [Ko]
  split
  ·exact Zd6 m t (d+1) h (by omega)
  ·split
   ·obtain ⟨a1,a2,a3⟩:=Zd6 m t 0 (h+1) (by omega)
    refine ⟨fun y hy=>?_,a2,by simp only;omega⟩
    rcases List.mem_cons.1 hy with rfl | hy
    ·exact hd
    ·exact a1 y hy
   ·exact Zd6 m t d h hd
theorem Zou (L:List Int) (m:Int):∀ (r pre:List Int) (n i d h:Int),L=pre++r→n≤m→h=((fL (m+1) pre).length:Int)+((fL m r).length:Int)→d=(m-n)*(h+1)+((fL (m+1) pre).length:Int)-i→
  ∃ n' i',(∀ tail,bld ((Ko m r d h).1++tail) (fL (m+1) pre++fL m r) n i=bld tail (fL (m+1) L) n' i')∧n'≤m∧(Ko m r d h).2.2=((fL (m+1) L).length:Int)∧(Ko m r d h).2.1=(m-n')*((Ko m r d h).2.2+1)+(Ko m r d h).2.2-i':=by
 intro r
 induction r with
 | nil=>
  intro pre n i d h e hn hh hd
  have e2:L=pre:=by rw [e,List.append_nil]
  have e3:fL m []=[]:=rfl
  rw [e3] at hh
  simp only [List.length_nil] at hh
  refine ⟨n,i,fun tail=>?_,hn,?_,?_⟩
  ·rw [Ko,e3,List.append_nil,List.nil_append,e2]
  ·rw [Ko,e2];simp only;omega
  ·rw [Ko];simp only;omega
 | cons x r ih=>
  intro pre n i d h e hn hh hd
  have e1:fL (m+1) (pre++[x])=fL (m+1) pre++fL (m+1) [x]:=Zpu _ _ _
  have e':L=(pre++[x])++r:=by rw [e];simp
  by_cases c:x<m
  ·have e2:fL (m+1) [x]=[x]:=Zhi fun y hy=>by simp at hy;omega
   have e3:fL m (x::r)=x::fL m r:=by unfold fL;rw [List.filter_cons_of_pos (by simpa using c)]
   rw [e2] at e1
   rw [e3,List.length_cons] at hh
   obtain ⟨n',i',h1,h2,h3,h4⟩:=ih (pre++[x]) n i (d+1) h e' hn (by rw [e1];simp;omega) (by rw [e1];simp;omega)
   rw [Ko,if_pos c]
   refine ⟨n',i',fun tail=>?_,h2,h3,h4⟩
   rw [← h1 tail,e1,e3,List.append_assoc];rfl
  ·by_cases c2:x=m
   ·have e2:fL (m+1) [x]=[x]:=Zhi fun y hy=>by simp at hy;omega
    have e3:fL m (x::r)=fL m r:=by unfold fL;rw [List.filter_cons_of_neg (by simpa using c)]
    rw [e2] at e1
    rw [e3] at hh
    obtain ⟨n',i',h1,h2,h3,h4⟩:=ih (pre++[x]) m (((fL (m+1) pre).length:Int)+1) 0 (h+1) e' (Int.le_refl _) (by rw [e1];simp;omega) (by rw [e1,Int.sub_self,Int.zero_mul];simp)
    rw [Ko,if_neg c,if_pos c2]
    refine ⟨n',i',fun tail=>?_,h2,h3,h4⟩
    have ho:((fL (m+1) pre++fL m r).length:Int)=h:=by rw [List.length_append];omega
    have hid:i+d=((fL (m+1) pre).length:Int)+(m-n)*(h+1):=by omega
    have hnD:nD (fL (m+1) pre++fL m r) n i d=m:=by
     unfold nD
     rw [ho,hid,Int.add_mul_ediv_right _ _ (by omega),Int.ediv_eq_zero_of_lt (by omega) (by omega)];omega
    have hpD:pD (fL (m+1) pre++fL m r) i d=((fL (m+1) pre).length:Int):=by
     unfold pD
     rw [ho,hid,Int.add_mul_emod_self_right,Int.emod_eq_of_lt (by omega) (by omega)]
    rw [e3,List.cons_append,bld,hnD,hpD,← h1 tail,e1]
    congr 1
    unfold H3
    rw [show (((fL (m+1) pre).length:Int)).toNat=(fL (m+1) pre).length by omega,List.take_left,List.drop_left,c2,List.append_assoc];rfl
   ·have e2:fL (m+1) [x]=[]:=by unfold fL;rw [List.filter_cons_of_neg (by simp;omega)];rfl
    have e3:fL m (x::r)=fL m r:=by unfold fL;rw [List.filter_cons_of_neg (by simpa using c)]
    rw [e2,List.append_nil] at e1
    rw [e3] at hh
    obtain ⟨n',i',h1,h2,h3,h4⟩:=ih (pre++[x]) n i d h e' hn (by rw [e1];omega) (by rw [e1];omega)
    rw [Ko,if_neg c,if_neg c2]
    refine ⟨n',i',fun tail=>?_,h2,h3,h4⟩
    rw [← h1 tail,e1,e3]
theorem Zrx (n:Int) (L:List Int):Zbj n L=((fL n L).length:Int):=by
 unfold Zbj fL
 rw [List.countP_eq_length_filter]
theorem Zsc {n:Int} {L:List Int} (h:(L.length:Int)≤((fL n L).length:Int)):fL n L=L:=by
 have h1:(fL n L).Sublist L:=List.filter_sublist
 exact h1.eq_of_length_le (by omega)
theorem Zq9 (L:List Int) (hr:∀ x∈L,x≤1114111):∀ (q k:Nat) (n i n0 d h:Int),(L.length:Int)-h≤(q:Int)→q<k→h=((fL n L).length:Int)→n0≤n→d=(n-n0)*(h+1)-i→bld (Zet L k n d h) (fL n L) n0 i=L:=by
 intro q
 induction q with
 | zero=>
  intro k n i n0 d h h1 h2 h3 h4 h5
  obtain ⟨k,rfl⟩:∃ j,k=j+1:=⟨k-1,by omega⟩
  rw [Zet,if_neg (by omega),bld,Zsc (by omega)]
 | succ q ih=>
  intro k n i n0 d h h1 h2 h3 h4 h5
  obtain ⟨k,rfl⟩:∃ j,k=j+1:=⟨k-1,by omega⟩
  by_cases c:h<(L.length:Int)
  ·obtain ⟨_,g2,g3,g4⟩:=Zel hr (n:=n) (L:=L) (by rw [Zrx];omega)
   change Kf L n∈L at g2
   change n≤Kf L n at g3
   change ∀ x∈L,n≤x→Kf L n≤x at g4
   have hf:fL (Kf L n) L=fL n L:=by
    unfold fL
    apply List.filter_congr
    intro x hx
    have:=g4 x hx
    by_cases c2:x<n
    ·simp [c2];omega
    ·simp [c2];omega
   have hz:fL (Kf L n+1) []=[]:=rfl
   obtain ⟨n',i',p1,p2,p3,p4⟩:=Zou L (Kf L n) L [] n0 i (d+(Kf L n-n)*(h+1)) h rfl (by omega) (by rw [hz,hf];simp;omega) (by
    rw [hz,show Kf L n-n0=(n-n0)+(Kf L n-n) by omega,Int.add_mul];simp;omega)
   rw [hz,hf,List.nil_append] at p1
   have hpos:(fL n L).length<(fL (Kf L n+1) L).length:=by
    rw [← hf,← Zr4 (n:=Kf L n) (m:=Kf L n+1) (by omega)]
    have hs:(fL (Kf L n) (fL (Kf L n+1) L)).Sublist (fL (Kf L n+1) L):=List.filter_sublist
    apply Nat.lt_of_le_of_ne hs.length_le
    intro he
    have e3:=hs.eq_of_length he
    have:Kf L n∈fL (Kf L n) (fL (Kf L n+1) L):=by rw [e3];exact Zvl.2 ⟨g2,by omega⟩
    have:=(Zvl.1 this).2
    omega
   rw [Zet,if_pos c,p1]
   refine ih k _ _ _ _ _ (by omega) (by omega) p3 (by omega) ?_
   rw [p4,show Kf L n+1-n'=(Kf L n-n')+1 by omega,Int.add_mul]
   omega
  ·rw [Zet,if_neg c,bld,Zsc (by omega)]
theorem Zm7 (L:List Int) (hr:∀ x∈L,x≤1114111):∀ (k:Nat) (n n0 i d h:Int),0≤d→h=((fL n L).length:Int)→n0≤n→d=(n-n0)*(h+1)-i→∀ x∈Zet L k n d h,0≤x
 | 0,_,_,_,_,_,_,_,_,_=>fun _ hx=>by cases hx
 | k+1,n,n0,i,d,h,hd,h3,h4,h5=>fun x hx=>by
  rw [Zet] at hx
  split at hx
  ·rename_i c
   obtain ⟨_,g2,g3,g4⟩:=Zel hr (n:=n) (L:=L) (by rw [Zrx];omega)
   change n≤Kf L n at g3
   change ∀ x∈L,n≤x→Kf L n≤x at g4
   have hf:fL (Kf L n) L=fL n L:=by
    unfold fL
    apply List.filter_congr
    intro x hx
    have:=g4 x hx
    by_cases c2:x<n
    ·simp [c2];omega
    ·simp [c2];omega
   have hz:fL (Kf L n+1) []=[]:=rfl
   have h2:0≤(Kf L n-n)*(h+1):=Int.mul_nonneg (by omega) (by omega)
   obtain ⟨a1,a2,a3⟩:=Zd6 (Kf L n) L (d+(Kf L n-n)*(h+1)) h (by omega)
   obtain ⟨n',i',_,p2,p3,p4⟩:=Zou L (Kf L n) L [] n0 i (d+(Kf L n-n)*(h+1)) h rfl (by omega) (by rw [hz,hf];simp;omega) (by
    rw [hz,show Kf L n-n0=(n-n0)+(Kf L n-n) by omega,Int.add_mul];simp;omega)
   rcases List.mem_append.1 hx with hx | hx
   ·exact a1 x hx
   ·refine Zm7 L hr k _ n' i' _ _ (by omega) p3 (by omega) ?_ x hx
    rw [p4,show Kf L n+1-n'=(Kf L n-n')+1 by omega,Int.add_mul]
    omega
  ·cases hx
end Go.Proofs.YthoicbafdanmkaaGreatDoor
/- Plain laws: Punycode is read as lists are built; digits are read back. Own work of this repo. -/
namespace Go.Proofs.YthoicbafdanmkaaGreatDoor
open Go.IntKind (i8 i16 i32 i64 u8 u16 u32 u64)
open Go.RowKit

def Zar (c:Int):Int:=(Q8.f c).getD (-1)
theorem Zqv {c:Int} (h0:0≤c) (h1:c<256):Q8.f c=some (Zar c)∧-1≤Zar c∧Zar c<36:=by
 obtain ⟨d,e,a,b⟩:=Zhg c h0 h1
 rw [Zar,e];exact ⟨rfl,a,b⟩
def Zd0:List Int→Int→Int→Int→Int→Option (Int×List Int)
 | [],_,_,_,_=>none
 | c::t,b,k,i,w=>if Zar c<0 then none else if 2147483647<i+Zar c*w then none else if Zar c<K8 k b then some (i+Zar c*w,t) else if 2147483647<w*(36-K8 k b) then none else Zd0 t b (k+36) (i+Zar c*w) (w*(36-K8 k b))
theorem Zr7 (s:ByteArray) {i:Int} (h0:0≤i) (h1:i<(s.size:Int)):(Qs s).drop i.toNat=bt s i::(Qs s).drop (i+1).toNat:=by
 have hl:i.toNat<(Qs s).length:=by rw [X0];omega
 rw [List.drop_eq_getElem_cons hl,show (i+1).toNat=i.toNat+1 by omega]
 congr 1
 rw [Zdt]
 unfold rd
 simp [List.getD_eq_getElem?_getD,hl]
theorem Zxd (s:ByteArray) (hs:s.size≤Z5) (aj:Int):∀ (k:Nat) (ae ac ab ar:Int),(s.size:Int)-ae<(k:Int)→0≤ae→ae≤(s.size:Int)→0≤ac→ac≤2147483647→1≤ab→ab≤2147483647→36≤ar→ar≤36*(ae+1)→
   ∃ pl e at' i',Y8.l1 k 36 1 26 38 700 72 128 45 s aj ae ac ab ar=some (pl,e,at',i')∧(e≠0→Zd0 ((Qs s).drop ae.toNat) aj ar ac ab=none)∧
    (e=0→Zd0 ((Qs s).drop ae.toNat) aj ar ac ab=some (i',(Qs s).drop at'.toNat)∧ae<at'∧at'≤(s.size:Int)∧ac≤i'∧i'≤2147483647):=by
 have hb:=hs
 unfold Z5 at hb
 intro k
 induction k with
 | zero=>intro ae ac ab ar h;omega
 | succ k ih=>
  intro ae ac ab ar h1 h2 h3 h4 h5 h6 h7 h8 h9
  simp only [Y8.l1]
  by_cases c:ae=(s.size:Int)
  ·rw [if_pos c]
   have:(Qs s).drop ae.toNat=[]:=List.drop_of_length_le (by rw [X0];omega)
   rw [this]
   exact ⟨_,_,_,_,rfl,fun _=>rfl,fun h=>absurd h (by decide)⟩
  ·rw [if_neg c,if_pos ⟨h2,by omega⟩,Zr7 s h2 (by omega)]
   obtain ⟨r1,r2⟩:=Zem s ae h2 (by omega)
   obtain ⟨g1,g2,g3⟩:=Zqv r1 r2
   rw [show V5.f ⟨36,1,26,38,700,72,128,45⟩ (bt s ae)=some (Zar (bt s ae)) from by rw [Zli _ r1 r2,g1],Option.bind_some,Zd0]
   revert g2 g3
   generalize Zar (bt s ae)=d
   intro g2 g3
   by_cases c2:d<0
   ·rw [if_pos c2,if_pos c2]
    exact ⟨_,_,_,_,rfl,fun _=>rfl,fun h=>absurd h (by decide)⟩
   ·have hdb:0≤d*ab∧d*ab≤75161927645:=by
     constructor
     ·exact Int.mul_nonneg (by omega) (by omega)
     ·have:d*ab≤35*ab:=Int.mul_le_mul_of_nonneg_right (by omega) (by omega)
      omega
    have w1:i64.wrap (d*ab)=d*ab:=w64 (by omega) (by omega)
    have w2:i64.wrap (ac+d*ab)=ac+d*ab:=w64 (by omega) (by omega)
    have w3:i64.wrap (ae+1)=ae+1:=w64 (by omega) (by omega)
    have w4:i64.wrap (ar+36)=ar+36:=w64 (by omega) (by omega)
    rw [if_neg c2,if_neg c2,w1,w2]
    by_cases c3:2147483647<ac+d*ab
    ·rw [if_pos c3,if_pos c3]
     exact ⟨_,_,_,_,rfl,fun _=>rfl,fun h=>absurd h (by decide)⟩
    ·obtain ⟨t1,t2,t3⟩:=Zdj ar aj
     rw [if_neg c3,if_neg c3,show Kl.f ⟨36,1,26,38,700,72,128,45⟩ ar aj=some (K8 ar aj) from by rw [Zkc,t1],Option.bind_some]
     revert t1 t2 t3
     generalize K8 ar aj=t
     intro t1 t2 t3
     by_cases c4:d<t
     ·rw [if_pos c4,if_pos c4]
      exact ⟨_,_,_,_,rfl,fun h=>absurd rfl h,fun _=>⟨by rw [w3],by omega,by omega,by omega,by omega⟩⟩
     ·rw [if_neg c4,if_neg c4]
      have w5:i64.wrap (36-t)=36-t:=w64 (by omega) (by omega)
      have hab:0≤ab*(36-t)∧ab*(36-t)≤75161927645∧1≤ab*(36-t):=by
       have a1:ab*1≤ab*(36-t):=Int.mul_le_mul_of_nonneg_left (by omega) (by omega)
       have a2:ab*(36-t)≤ab*35:=Int.mul_le_mul_of_nonneg_left (by omega) (by omega)
       omega
      have w6:i64.wrap (ab*(36-t))=ab*(36-t):=w64 (by omega) (by omega)
      rw [w5,w6]
      by_cases c5:2147483647<ab*(36-t)
      ·rw [if_pos c5,if_pos c5]
       exact ⟨_,_,_,_,rfl,fun _=>rfl,fun h=>absurd h (by decide)⟩
      ·rw [if_neg c5,if_neg c5,w3,w4]
       obtain ⟨pl,e,at',i',q1,q2,q3⟩:=ih (ae+1) (ac+d*ab) (ab*(36-t)) (ar+36) (by omega) (by omega) (by omega) (by omega) (by omega) (by omega) (by omega) (by omega) (by omega)
       refine ⟨pl,e,at',i',q1,q2,fun he=>?_⟩
       obtain ⟨p0,p1,p2,p3,p4⟩:=q3 he
       exact ⟨p0,by omega,p2,by omega,p4⟩
def Zcy:Nat→List Int→List Int→Int→Int→Int→Option (List Int)
 | 0,_,_,_,_,_=>none
 | f+1,bs,o,n,i,b=>if bs=[] then some o else match Zd0 bs b 36 i 1 with
  | none=>none
  | some x=>if 1114111<nD o n i (x.1-i) then none else if scB (nD o n i (x.1-i))=true then Zcy f x.2 (H3 o (pD o i (x.1-i)) (nD o n i (x.1-i))) (nD o n i (x.1-i)) (pD o i (x.1-i)+1) (adI (x.1-i) ((o.length:Int)+1) (decide (i=0))) else none
theorem Zo3 (s:ByteArray) (hs:2*s.size≤Z5):∀ (q:Nat) (out:List Int) (at' n i b:Int) (k f:Nat),(s.size:Int)-at'≤(q:Int)→q<k→q<f→0≤at'→(out.length:Int)≤at'→at'≤(s.size:Int)+1→0≤n→n≤1114111→0≤i→i≤(out.length:Int)→
  ∃ l a e,Yi.l1 k pU s out at' n i b=some (l,a,e)∧(e=0→Zcy f ((Qs s).drop at'.toNat) out n i b=some l)∧(e≠0→Zcy f ((Qs s).drop at'.toNat) out n i b=none):=by
 have hb:=hs
 unfold Z5 at hb
 have hK:(K0:Int)=1180591620717411303424:=rfl
 have fin:∀ (out:List Int) (at' n i b:Int) (k f:Nat),0<k→0<f→(s.size:Int)≤at'→∃ l a e,Yi.l1 k pU s out at' n i b=some (l,a,e)∧(e=0→Zcy f ((Qs s).drop at'.toNat) out n i b=some l)∧(e≠0→Zcy f ((Qs s).drop at'.toNat) out n i b=none):=by
  intro out at' n i b k f h1 h2 h3
  obtain ⟨k,rfl⟩:∃ j,k=j+1:=⟨k-1,by omega⟩
  obtain ⟨f,rfl⟩:∃ j,f=j+1:=⟨f-1,by omega⟩
  have:(Qs s).drop at'.toNat=[]:=List.drop_of_length_le (by rw [X0];omega)
  simp only [Yi.l1]
  rw [if_neg (by omega),this]
  exact ⟨_,_,_,rfl,fun _=>rfl,fun h=>absurd rfl h⟩
 intro q
 induction q with
 | zero=>
  intro out at' n i b k f h1 h2 h2' h3 h4 h5 h6 h7 h8 h9
  exact fin out at' n i b k f h2 h2' (by omega)
 | succ q ih=>
  intro out at' n i b k f h1 h2 h2' h3 h4 h5 h6 h7 h8 h9
  by_cases c:at'<(s.size:Int)
  ·obtain ⟨k,rfl⟩:∃ j,k=j+1:=⟨k-1,by omega⟩
   obtain ⟨f,rfl⟩:∃ j,f=j+1:=⟨f-1,by omega⟩
   have hne:¬ (Qs s).drop at'.toNat=[]:=by rw [Zr7 s h3 c];simp
   rw [Zcy,if_neg hne]
   simp only [Yi.l1]
   rw [if_pos c]
   obtain ⟨pl,e,at2,i2,q1,q2,q3⟩:=Zxd s (by unfold Z5;omega) b K0 at' i 1 36 (by omega) h3 (by omega) h8 (by omega) (by omega) (by omega) (by omega) (by omega)
   simp only [Vs.f,Y8.f,q1,Option.bind_some]
   by_cases he:e=0
   ·obtain ⟨p0,p1,p2,p3,p4⟩:=q3 he
    rw [p0]
    have wl:i64.wrap ((out.length:Int)+1)=(out.length:Int)+1:=w64 (by omega) (by omega)
    have td:i2.tdiv ((out.length:Int)+1)=i2/((out.length:Int)+1):=Int.tdiv_eq_ediv_of_nonneg (by omega)
    have tm:i2.tmod ((out.length:Int)+1)=i2%((out.length:Int)+1):=Int.tmod_eq_emod_of_nonneg (by omega)
    have d0:0≤i2/((out.length:Int)+1):=Int.ediv_nonneg (by omega) (by omega)
    have d1:i2/((out.length:Int)+1)≤i2:=Int.ediv_le_self _ (by omega)
    have m0:0≤i2%((out.length:Int)+1):=Int.emod_nonneg _ (by omega)
    have m1:i2%((out.length:Int)+1)<(out.length:Int)+1:=Int.emod_lt_of_pos _ (by omega)
    have wd:i64.wrap (i2-i)=i2-i:=w64 (by omega) (by omega)
    have w1:i64.wrap (i2/((out.length:Int)+1))=i2/((out.length:Int)+1):=w64 (by omega) (by omega)
    have w2:i64.wrap (n+i2/((out.length:Int)+1))=n+i2/((out.length:Int)+1):=w64 (by omega) (by omega)
    have w4:i64.wrap (i2%((out.length:Int)+1)+1)=i2%((out.length:Int)+1)+1:=w64 (by omega) (by omega)
    have en:nD out n i (i2-i)=n+i2/((out.length:Int)+1):=by unfold nD;rw [show i+(i2-i)=i2 by omega]
    have ep:pD out i (i2-i)=i2%((out.length:Int)+1):=by unfold pD;rw [show i+(i2-i)=i2 by omega]
    have had:=Zp3 (i2-i) ((out.length:Int)+1) (decide (i=0)) (by omega) (by omega) (by omega)
    have hne:¬ (out.length:Int)+1=0:=by omega
    simp only [he,ne_eq,not_true_eq_false,if_false,wl,Zjn,wd,had,Option.bind_some,hne,not_false_eq_true,if_true,td,tm,w1,w2,w4,en,ep]
    by_cases c2:1114111<n+i2/((out.length:Int)+1)
    ·simp only [if_pos c2,Option.bind_some]
     exact ⟨_,_,_,rfl,fun h=>absurd h (by simp),fun _=>by first | rfl | trivial⟩
    ·have w3:i32.wrap (n+i2/((out.length:Int)+1))=n+i2/((out.length:Int)+1):=w32 (by omega) (by omega)
     simp only [if_neg c2,Zm0,w3,Zjl,Option.bind_some]
     cases hsb:scB (n+i2/((out.length:Int)+1)) with
     | false=>exact ⟨_,_,_,rfl,fun h=>absurd h (by simp),fun _=>by first | rfl | trivial⟩
     | true=>
      have hms:out.length+1≤most:=by unfold most;omega
      have hil:=Zg5 out (i2%((out.length:Int)+1)) (n+i2/((out.length:Int)+1))
      obtain ⟨l,a,e',r1,r2⟩:=ih (H3 out (i2%((out.length:Int)+1)) (n+i2/((out.length:Int)+1))) at2 (n+i2/((out.length:Int)+1)) (i2%((out.length:Int)+1)+1) (adI (i2-i) ((out.length:Int)+1) (decide (i=0))) k f (by omega) (by omega) (by omega) (by omega) (by rw [hil];omega) (by omega) (by omega) (by omega) (by omega) (by rw [hil];omega)
      refine ⟨l,a,e',?_,?_⟩
      ·rw [if_neg (by decide),if_pos ⟨m0,by omega,hms⟩,Option.bind_some,if_neg (by simp)]
       exact r1
      ·exact r2
   ·rw [q2 he]
    simp only [ne_eq,he,not_false_eq_true,if_true,Option.bind_some]
    exact ⟨_,_,_,rfl,fun h=>absurd h he,fun _=>by first | rfl | trivial⟩
  ·exact fin out at' n i b k f (by omega) (by omega) (by omega)
def Zd3 (c:Int):Int:=if 65≤c∧c≤90 then c+32 else c
theorem Zj9 {d:Int} (h0:0≤d) (h1:d<36):Zar (dig d)=d:=by
 have key:∀ n:Fin 36,Zar (dig (n.val:Int))=(n.val:Int):=by decide +kernel
 have:=key ⟨d.toNat,by omega⟩
 simp only [show ((d.toNat:Nat):Int)=d by omega] at this
 exact this
theorem Zt7 {c:Int} (h0:0≤c) (h1:c<128) (h:¬ Zar c<0):Zd3 c=dig (Zar c):=by
 have key:∀ n:Fin 128,¬ Zar (n.val:Int)<0→Zd3 (n.val:Int)=dig (Zar (n.val:Int)):=by decide +kernel
 have:=key ⟨c.toNat,by omega⟩
 simp only [show ((c.toNat:Nat):Int)=c by omega] at this
 exact this h
theorem Zuk {c:Int} (h0:0≤c) (h1:c<128):Zar (Zd3 c)=Zar c:=by
 have key:∀ n:Fin 128,Zar (Zd3 (n.val:Int))=Zar (n.val:Int):=by decide +kernel
 have:=key ⟨c.toNat,by omega⟩
 simp only [show ((c.toNat:Nat):Int)=c by omega] at this
 exact this
theorem Zqf {d:Int} (h0:0≤d) (h1:d<36):dig d≠45:=by unfold dig;split<;>omega
theorem Zrc (b:Int):∀ (f:Nat) (q k:Int),0≤q→q<10^f→∀ c∈Za9 f q k b,c≠45
 | 0,q,k,h0,h1=>fun c hc=>by
  simp only [Za9,List.mem_singleton] at hc
  subst hc
  exact Zqf h0 (by simp at h1;omega)
 | f+1,q,k,h0,h1=>fun c hc=>by
  obtain ⟨_,t2,t3⟩:=Zdj k b
  rw [Za9] at hc
  split at hc
  ·simp only [List.mem_singleton] at hc
   subst hc
   exact Zqf h0 (by omega)
  ·rename_i hq
   have m0:0≤(q-K8 k b)%(36-K8 k b):=Int.emod_nonneg _ (by omega)
   have m1:(q-K8 k b)%(36-K8 k b)<36-K8 k b:=Int.emod_lt_of_pos _ (by omega)
   have d0:0≤(q-K8 k b)/(36-K8 k b):=Int.ediv_nonneg (by omega) (by omega)
   have d2:(q-K8 k b)/(36-K8 k b)<10^f:=by
    apply Int.ediv_lt_of_lt_mul (by omega)
    have p0:(0:Int)<10^f:=Int.pow_pos (by omega)
    have p1:(10:Int)^(f+1)=10^f*10:=Int.pow_succ 10 f
    have p2:(10:Int)^f*10≤10^f*(36-K8 k b):=Int.mul_le_mul_of_nonneg_left (by omega) (by omega)
    omega
   rcases List.mem_cons.1 hc with rfl | hc
   ·exact Zqf (by omega) (by omega)
   ·exact Zrc b f _ _ d0 d2 c hc
theorem Zod (b:Int) (r:List Int):∀ (f:Nat) (q k i w:Int),0≤q→q<10^f→Zd0 (Za9 f q k b++r) b k i w=none∨Zd0 (Za9 f q k b++r) b k i w=some (i+q*w,r)
 | 0,q,k,i,w,h0,h1=>by
  obtain ⟨_,t2,t3⟩:=Zdj k b
  have hq:q=0:=by simp at h1;omega
  have hd:Zar (dig q)=q:=Zj9 h0 (by omega)
  simp only [Za9,List.cons_append,List.nil_append,Zd0,hd]
  rw [if_neg (by omega)]
  split
  ·exact .inl rfl
  ·rw [if_pos (by omega)];exact .inr rfl
 | f+1,q,k,i,w,h0,h1=>by
  obtain ⟨_,t2,t3⟩:=Zdj k b
  by_cases hq:q<K8 k b
  ·have hd:Zar (dig q)=q:=Zj9 h0 (by omega)
   rw [Za9,if_pos hq]
   simp only [List.cons_append,List.nil_append,Zd0,hd]
   rw [if_neg (by omega)]
   split
   ·exact .inl rfl
   ·first | exact .inr rfl | (rw [if_pos hq];exact .inr rfl)
  ·have m0:0≤(q-K8 k b)%(36-K8 k b):=Int.emod_nonneg _ (by omega)
   have m1:(q-K8 k b)%(36-K8 k b)<36-K8 k b:=Int.emod_lt_of_pos _ (by omega)
   have d0:0≤(q-K8 k b)/(36-K8 k b):=Int.ediv_nonneg (by omega) (by omega)
   have d2:(q-K8 k b)/(36-K8 k b)<10^f:=by
    apply Int.ediv_lt_of_lt_mul (by omega)
    have p0:(0:Int)<10^f:=Int.pow_pos (by omega)
    have p1:(10:Int)^(f+1)=10^f*10:=Int.pow_succ 10 f
    have p2:(10:Int)^f*10≤10^f*(36-K8 k b):=Int.mul_le_mul_of_nonneg_left (by omega) (by omega)
    omega
   have hd:Zar (dig (K8 k b+(q-K8 k b)%(36-K8 k b)))=K8 k b+(q-K8 k b)%(36-K8 k b):=Zj9 (by omega) (by omega)
   have e0:=Int.emod_add_mul_ediv (q-K8 k b) (36-K8 k b)
   rw [Za9,if_neg hq,List.cons_append,Zd0,hd,if_neg (by omega)]
   split
   ·exact .inl rfl
   ·rw [if_neg (by omega)]
    split
    ·exact .inl rfl
    ·rcases Zod b r f ((q-K8 k b)/(36-K8 k b)) (k+36) (i+(K8 k b+(q-K8 k b)%(36-K8 k b))*w) (w*(36-K8 k b)) d0 d2 with h | h
     ·exact .inl h
     ·refine .inr ?_
      rw [h]
      congr 2
      have e1:(q-K8 k b)/(36-K8 k b)*(w*(36-K8 k b))=(36-K8 k b)*((q-K8 k b)/(36-K8 k b))*w:=by
       rw [Int.mul_comm w,← Int.mul_assoc,Int.mul_comm ((q-K8 k b)/(36-K8 k b))]
      rw [e1,Int.add_assoc,← Int.add_mul]
      congr 2
      omega
theorem Zka (b:Int):∀ (bs:List Int) (k i w i2:Int) (r:List Int),(∀ c∈bs,0≤c∧c<128)→0≤i→1≤w→Zd0 bs b k i w=some (i2,r)→∃ q,0≤q∧i2=i+q*w∧i2≤2147483647∧r.length<bs.length∧(∀ c∈r,c∈bs)∧∀ F:Nat,q<10^F→bs.map Zd3=Za9 F q k b++r.map Zd3
 | [],k,i,w,i2,r,_,_,_,h=>by simp [Zd0] at h
 | c::t,k,i,w,i2,r,hc,hi,hw,h=>by
  obtain ⟨_,t2,t3⟩:=Zdj k b
  obtain ⟨c0,c1⟩:=hc c (by simp)
  rw [Zd0] at h
  split at h
  ·cases h
  ·rename_i hd
   have hl:=Zt7 c0 c1 hd
   obtain ⟨_,_,g3⟩:=Zqv c0 (show c<256 by omega)
   split at h
   ·cases h
   ·split at h
    ·rename_i h2 h3
     have h4:=Option.some.inj h
     simp only [Prod.mk.injEq] at h4
     obtain ⟨rfl,rfl⟩:=h4
     refine ⟨Zar c,by omega,rfl,by omega,by simp,fun x hx=>by simp [hx],fun F hF=>?_⟩
     cases F with
     | zero=>rw [List.map_cons,hl];rfl
     | succ F=>rw [List.map_cons,hl,Za9,if_pos h3];rfl
    ·rename_i h2 h3
     split at h
     ·cases h
     ·have hw2:1≤w*(36-K8 k b):=by
       have a1:w*1≤w*(36-K8 k b):=Int.mul_le_mul_of_nonneg_left (by omega) (by omega)
       omega
      have hi2:0≤Zar c*w:=Int.mul_nonneg (by omega) (by omega)
      obtain ⟨q,q0,q1,q2,q3,q4,q5⟩:=Zka b t (k+36) _ _ i2 r (fun x hx=>hc x (by simp [hx])) (by omega) hw2 h
      have hq0:0≤q*(36-K8 k b):=Int.mul_nonneg q0 (by omega)
      refine ⟨Zar c+q*(36-K8 k b),by omega,?_,q2,by simp;omega,fun x hx=>by simp [q4 x hx],fun F hF=>?_⟩
      ·rw [q1,Int.add_assoc,Int.add_mul,Int.mul_assoc,Int.mul_comm w]
      ·cases F with
       | zero=>simp at hF;omega
       | succ F=>
        have e1:(Zar c+q*(36-K8 k b)-K8 k b)%(36-K8 k b)=Zar c-K8 k b:=by
         rw [show Zar c+q*(36-K8 k b)-K8 k b=(Zar c-K8 k b)+q*(36-K8 k b) by omega,Int.add_mul_emod_self_right,Int.emod_eq_of_lt (by omega) (by omega)]
        have e2:(Zar c+q*(36-K8 k b)-K8 k b)/(36-K8 k b)=q:=by
         rw [show Zar c+q*(36-K8 k b)-K8 k b=(Zar c-K8 k b)+q*(36-K8 k b) by omega,Int.add_mul_ediv_right _ _ (by omega),Int.ediv_eq_zero_of_lt (by omega) (by omega)];omega
        have hqF:q<10^F:=by
         have p1:(10:Int)^(F+1)=10^F*10:=Int.pow_succ 10 F
         have p2:q*10≤q*(36-K8 k b):=Int.mul_le_mul_of_nonneg_left (by omega) q0
         omega
        rw [List.map_cons,hl,Za9,if_neg (by omega),e1,e2,q5 F hqF,show K8 k b+(Zar c-K8 k b)=Zar c by omega];rfl
end Go.Proofs.YthoicbafdanmkaaGreatDoor
/- Plain laws: what is written is read back, and what is read is written back. Own work of this repo. -/
namespace Go.Proofs.YthoicbafdanmkaaGreatDoor
open Go.RowKit

def dgs (b0:Int):List Int→Int→Int→List Int
 | [],_,_=>[]
 | d::ds,b,h=>Za9 10 d 36 b++dgs b0 ds (adI d (h+1) (decide (h=b0))) (h+1)
def bia (b0:Int):List Int→Int→Int→Int
 | [],b,_=>b
 | d::ds,b,h=>bia b0 ds (adI d (h+1) (decide (h=b0))) (h+1)
theorem Zm5 (b0:Int) (es:List Int):∀ (ds:List Int) (b h:Int),dgs b0 (ds++es) b h=dgs b0 ds b h++dgs b0 es (bia b0 ds b h) (h+(ds.length:Int))
 | [],b,h=>by simp [dgs,bia]
 | d::ds,b,h=>by
  rw [List.cons_append,dgs,Zm5 b0 es ds,dgs,bia,List.append_assoc,List.length_cons]
  congr 3
  omega
theorem Zru (f:Nat) (q k b:Int):∃ x t,Za9 f q k b=x::t:=by
 cases f with
 | zero=>exact ⟨_,_,rfl⟩
 | succ f=>
  rw [Za9]
  split<;>exact ⟨_,_,rfl⟩
theorem Zrr (b0:Int):∀ (ds:List Int) (b h:Int),ds.length≤(dgs b0 ds b h).length
 | [],_,_=>Nat.zero_le _
 | d::ds,b,h=>by
  obtain ⟨x,t,e⟩:=Zru 10 d 36 b
  have:=Zrr b0 ds (adI d (h+1) (decide (h=b0))) (h+1)
  rw [dgs,e]
  simp only [List.length_append,List.length_cons]
  omega
theorem Zp5 (b0:Int):∀ (ds:List Int) (b h:Int),(∀ x∈ds,0≤x∧x≤2147483647)→∀ c∈dgs b0 ds b h,c≠45
 | [],_,_,_=>fun _ hc=>by cases hc
 | d::ds,b,h,hd=>fun c hc=>by
  rw [dgs] at hc
  obtain ⟨h0,h1⟩:=hd d (by simp)
  rcases List.mem_append.1 hc with hc | hc
  ·exact Zrc b 10 d 36 h0 (by omega) c hc
  ·exact Zp5 b0 ds _ _ (fun x hx=>hd x (by simp [hx])) c hc
theorem Zgi (m:Int):∀ (t:List Int) (d h:Int),(Ko m t d h).2.2=h+((Ko m t d h).1.length:Int)∧(Ko m t d h).2.2=h+(t.countP (fun x=>decide (x=m)):Int)
 | [],d,h=>by simp [Ko]
 | x::t,d,h=>by
  rw [Ko,List.countP_cons]
  split
  ·rename_i c
   obtain ⟨h1,h2⟩:=Zgi m t (d+1) h
   exact ⟨h1,by rw [h2];simp [show ¬ x=m by omega]⟩
  ·split
   ·rename_i c2
    obtain ⟨h1,h2⟩:=Zgi m t 0 (h+1)
    refine ⟨by simp only [List.length_cons];omega,by simp only [c2,decide_true,if_true];omega⟩
   ·rename_i c2
    obtain ⟨h1,h2⟩:=Zgi m t d h
    exact ⟨h1,by rw [h2];simp [c2]⟩
theorem Zca (m:Int):∀ (t:List Int) (d h:Int),(∀ x l,(Ko m t d h).1=x::l→d≤x)∧((Ko m t d h).1=[]→d≤(Ko m t d h).2.1)∧(Ko m t d h).2.1≤max d 0+(t.length:Int)∧(m∈t→(Ko m t d h).1≠[]∧(Ko m t d h).2.1≤(t.length:Int))
 | [],d,h=>⟨(fun x l e=>by simp [Ko] at e),(fun _=>by simp [Ko]),by simp only [Ko,List.length_nil];omega,fun hm=>by cases hm⟩
 | x::t,d,h=>by
  rw [Ko,List.length_cons]
  split
  ·rename_i c
   obtain ⟨h1,h2,h3,h4⟩:=Zca m t (d+1) h
   refine ⟨fun y l e=>?_,fun e=>?_,by omega,fun hm=>?_⟩
   ·have:=h1 y l e;omega
   ·have:=h2 e;omega
   ·rcases List.mem_cons.1 hm with e | hm
    ·omega
    ·have:=h4 hm;exact ⟨this.1,by omega⟩
  ·split
   ·obtain ⟨h1,h2,h3,h4⟩:=Zca m t 0 (h+1)
    exact ⟨(fun y l e=>by simp at e;omega),(fun e=>by simp at e),by simp only;omega,fun _=>⟨by simp,by simp only;omega⟩⟩
   ·rename_i c c2
    obtain ⟨h1,h2,h3,h4⟩:=Zca m t d h
    refine ⟨h1,h2,by omega,fun hm=>?_⟩
    rcases List.mem_cons.1 hm with e | hm
    ·exact absurd e.symm c2
    ·have:=h4 hm;exact ⟨this.1,by omega⟩
theorem Zuf {b0 m:Int}:∀ (t:List Int) {H:Int} {s s':SE},OkE H s→Za6 b0 m t s=some s'→s'=(s.1++dgs b0 (Ko m t s.2.1 s.2.2.2).1 s.2.2.1 s.2.2.2,(Ko m t s.2.1 s.2.2.2).2.1,bia b0 (Ko m t s.2.1 s.2.2.2).1 s.2.2.1 s.2.2.2,(Ko m t s.2.1 s.2.2.2).2.2)∧∀ x∈(Ko m t s.2.1 s.2.2.2).1,x≤2147483647
 | [],H,s,s',hs,e=>by
  obtain rfl:=Option.some.inj e
  simp [Ko,dgs,bia]
 | x::t,H,s,s',hs,e=>by
  rw [Za6] at e
  cases hst:Zch b0 m s x with
  | none=>rw [hst] at e;cases e
  | some s1=>
   rw [hst,Option.bind_some] at e
   obtain ⟨h1,_⟩:=Zgr hs hst
   obtain ⟨h3,h4⟩:=Zuf t h1 e
   unfold Zch at hst
   rw [Ko]
   by_cases c:x<m
   ·rw [if_pos c] at hst ⊢
    split at hst
    ·cases hst
    ·obtain rfl:=Option.some.inj hst
     exact ⟨h3,h4⟩
   ·rw [if_neg c] at hst ⊢
    by_cases c2:x=m
    ·rw [if_pos c2] at hst ⊢
     obtain rfl:=Option.some.inj hst
     refine ⟨?_,fun y hy=>?_⟩
     ·rw [h3]
      simp only [dgs,bia,List.append_assoc]
     ·rcases List.mem_cons.1 hy with rfl | hy
      ·exact hs.d1
      ·exact h4 y hy
    ·rw [if_neg c2] at hst ⊢
     obtain rfl:=Option.some.inj hst
     exact ⟨h3,h4⟩
theorem Zx8 (L:List Int) (hr:∀ x∈L,x≤1114111) (b0:Int):∀ (k:Nat) (o:List Int) (n d b h:Int) (o':List Int),0≤d→h=Zbj n L→(o.length:Int)≤12*h+1→(∀ c∈o,0≤c∧c<128)→Zf7 L b0 k o n d b h=some (some o')→o'=o++dgs b0 (Zet L k n d h) b h∧∀ x∈Zet L k n d h,x≤2147483647
 | 0,_,_,_,_,_,_,_,_,_,_,e=>by simp [Zf7] at e
 | k+1,o,n,d,b,h,o',hd,hh,hl,ha,e=>by
  rw [Zf7] at e
  rw [Zet]
  by_cases c:h<(L.length:Int)
  ·rw [if_pos c] at e ⊢
   obtain ⟨_,g2,g3,g4⟩:=Zel hr (n:=n) (L:=L) (by omega)
   change n≤Kf L n at g3
   change ∀ x∈L,n≤x→Kf L n≤x at g4
   have hh0:0≤h:=by rw [hh];unfold Zbj;omega
   have p0:0≤(Kf L n-n)*(h+1):=Int.mul_nonneg (by omega) (by omega)
   by_cases c2:2147483647<d+(Kf L n-n)*(h+1)
   ·rw [if_pos c2] at e;cases e
   ·rw [if_neg c2] at e
    cases hp:Za6 b0 (Kf L n) L (o,d+(Kf L n-n)*(h+1),b,h) with
    | none=>rw [hp] at e;simp at e
    | some s=>
     rw [hp] at e
     simp only at e
     have hok:OkE (L.length:Int) (o,d+(Kf L n-n)*(h+1),b,h):=⟨by simp only;omega,by simp only;omega,hh0,by simp only;omega,hl,ha⟩
     obtain ⟨h1,h2⟩:=Zuf L hok hp
     obtain ⟨h3,h4⟩:=Zko L hok hp
     obtain ⟨h5,_⟩:=Zgi (Kf L n) L (d+(Kf L n-n)*(h+1)) h
     have hcnt:=Zdq g3 L g4
     have ih:=Zx8 L hr b0 k s.1 (Kf L n+1) (s.2.1+1) s.2.2.1 s.2.2.2 o' (by have:=h3.d0;omega) (by rw [hcnt,h4,hh]) h3.len h3.asc e
     rw [h1] at ih
     simp only at ih
     obtain ⟨i1,i2⟩:=ih
     simp only at h2
     refine ⟨?_,fun x hx=>?_⟩
     ·rw [i1,Zm5,← h5,List.append_assoc]
     ·rcases List.mem_append.1 hx with hx | hx
      ·exact h2 x hx
      ·exact i2 x hx
  ·rw [if_neg c] at e ⊢
   have e:=Option.some.inj (Option.some.inj e)
   exact ⟨by rw [e];simp [dgs],fun x hx=>by cases hx⟩
theorem Zfa {b0 m:Int}:∀ (t:List Int) (s:SE),0≤s.2.1→(∀ x∈(Ko m t s.2.1 s.2.2.2).1,x≤2147483647)→(Ko m t s.2.1 s.2.2.2).2.1≤2147483647→Za6 b0 m t s=some (s.1++dgs b0 (Ko m t s.2.1 s.2.2.2).1 s.2.2.1 s.2.2.2,(Ko m t s.2.1 s.2.2.2).2.1,bia b0 (Ko m t s.2.1 s.2.2.2).1 s.2.2.1 s.2.2.2,(Ko m t s.2.1 s.2.2.2).2.2)
 | [],s,_,_,_=>by simp [Za6,Ko,dgs,bia]
 | x::t,s,hd,h1,h2=>by
  by_cases c:x<m
  ·have ep:Ko m (x::t) s.2.1 s.2.2.2=Ko m t (s.2.1+1) s.2.2.2:=by rw [Ko,if_pos c]
   rw [ep] at h1 h2 ⊢
   have hle:s.2.1+1≤2147483647:=by
    obtain ⟨m1,m2,_,_⟩:=Zca m t (s.2.1+1) s.2.2.2
    cases he:(Ko m t (s.2.1+1) s.2.2.2).1 with
    | nil=>have:=m2 he;omega
    | cons y l=>
     have h5:=m1 y l he
     have h6:=h1 y (by rw [he];simp)
     omega
   rw [Za6,Zch,if_pos c,if_neg (by omega),Option.bind_some]
   exact Zfa t (s.1,s.2.1+1,s.2.2.1,s.2.2.2) (by simp only;omega) h1 h2
  ·by_cases c2:x=m
   ·have ep:Ko m (x::t) s.2.1 s.2.2.2=(s.2.1::(Ko m t 0 (s.2.2.2+1)).1,(Ko m t 0 (s.2.2.2+1)).2):=by rw [Ko,if_neg c,if_pos c2]
    rw [ep] at h1 h2 ⊢
    have:=Zfa (b0:=b0) (m:=m) t (s.1++Za9 10 s.2.1 36 s.2.2.1,0,adI s.2.1 (s.2.2.2+1) (decide (s.2.2.2=b0)),s.2.2.2+1) (Int.le_refl 0) (fun y hy=>h1 y (by simp only at hy;simp [hy])) h2
    rw [Za6,Zch,if_neg c,if_pos c2,Option.bind_some,this]
    simp only [dgs,bia,List.append_assoc]
   ·have ep:Ko m (x::t) s.2.1 s.2.2.2=Ko m t s.2.1 s.2.2.2:=by rw [Ko,if_neg c,if_neg c2]
    rw [ep] at h1 h2 ⊢
    rw [Za6,Zch,if_neg c,if_neg c2,Option.bind_some]
    exact Zfa t s hd h1 h2
theorem Zu5 (L:List Int) (hl:L.length≤2097152) (hr:∀ x∈L,x≤1114111) (b0:Int):∀ (q k:Nat) (o:List Int) (n d b h:Int),(L.length:Int)-h≤(q:Int)→q<k→0≤d→h=Zbj n L→(∀ x∈Zet L k n d h,x≤2147483647)→Zf7 L b0 k o n d b h=some (some (o++dgs b0 (Zet L k n d h) b h)):=by
 intro q
 induction q with
 | zero=>
  intro k o n d b h h1 h2 h3 h4 h5
  obtain ⟨k,rfl⟩:∃ j,k=j+1:=⟨k-1,by omega⟩
  rw [Zf7,Zet,if_neg (by omega),if_neg (by omega),dgs,List.append_nil]
 | succ q ih=>
  intro k o n d b h h1 h2 h3 h4 h5
  obtain ⟨k,rfl⟩:∃ j,k=j+1:=⟨k-1,by omega⟩
  rw [Zet] at h5
  rw [Zf7,Zet]
  by_cases c:h<(L.length:Int)
  ·rw [if_pos c] at h5 ⊢
   rw [if_pos c]
   obtain ⟨_,g2,g3,g4⟩:=Zel hr (n:=n) (L:=L) (by omega)
   change Kf L n∈L at g2
   change n≤Kf L n at g3
   change ∀ x∈L,n≤x→Kf L n≤x at g4
   have hh0:0≤h:=by rw [h4];unfold Zbj;omega
   have p0:0≤(Kf L n-n)*(h+1):=Int.mul_nonneg (by omega) (by omega)
   have hcnt:=Zdq g3 L g4
   have hpos:0<L.countP (fun x=>decide (x=Kf L n)):=List.countP_pos_iff.2 ⟨_,g2,by simp⟩
   obtain ⟨a1,a2⟩:=Zgi (Kf L n) L (d+(Kf L n-n)*(h+1)) h
   obtain ⟨m1,_,_,m4⟩:=Zca (Kf L n) L (d+(Kf L n-n)*(h+1)) h
   obtain ⟨m5,m6⟩:=m4 g2
   obtain ⟨_,n2,_⟩:=Zd6 (Kf L n) L (d+(Kf L n-n)*(h+1)) h (by omega)
   have hin:∀ x∈(Ko (Kf L n) L (d+(Kf L n-n)*(h+1)) h).1,x≤2147483647:=fun x hx=>h5 x (by simp [hx])
   have hd:d+(Kf L n-n)*(h+1)≤2147483647:=by
    cases he:(Ko (Kf L n) L (d+(Kf L n-n)*(h+1)) h).1 with
    | nil=>exact absurd he m5
    | cons y l=>
     have h6:=m1 y l he
     have h7:=hin y (by rw [he];simp)
     omega
   have hp:=Zfa (b0:=b0) (m:=Kf L n) L (o,d+(Kf L n-n)*(h+1),b,h) (by simp only;omega) hin (by simp only;omega)
   rw [if_neg (by omega),hp]
   simp only
   rw [ih k _ _ _ _ _ (by omega) (by omega) (by omega) (by rw [hcnt,a2,h4]) (fun x hx=>h5 x (by simp [hx])),Zm5,← a1,List.append_assoc]
  ·rw [if_neg c,if_neg c,dgs,List.append_nil]
theorem Zrh (b0:Int):∀ (ds o:List Int) (n i b:Int) (f:Nat),(∀ x∈ds,0≤x∧x≤2147483647)→0≤i→b0≤(o.length:Int)→(i=0↔(o.length:Int)=b0)→ds.length<f→Zcy f (dgs b0 ds b (o.length:Int)) o n i b=none∨Zcy f (dgs b0 ds b (o.length:Int)) o n i b=some (bld ds o n i)
 | [],o,n,i,b,f,_,_,_,_,hf=>by
  obtain ⟨f,rfl⟩:∃ j,f=j+1:=⟨f-1,by omega⟩
  exact .inr (by rw [Zcy,dgs,if_pos rfl,bld])
 | d::ds,o,n,i,b,f,hd,hi,hb,hiff,hf=>by
  obtain ⟨f,rfl⟩:∃ j,f=j+1:=⟨f-1,by omega⟩
  obtain ⟨d0,d1⟩:=hd d (by simp)
  obtain ⟨x,t,e⟩:=Zru 10 d 36 b
  have hne:¬ dgs b0 (d::ds) b (o.length:Int)=[]:=by rw [dgs,e];simp
  rw [Zcy,if_neg hne,dgs]
  rcases Zod b (dgs b0 ds (adI d ((o.length:Int)+1) (decide ((o.length:Int)=b0))) ((o.length:Int)+1)) 10 d 36 i 1 d0 (by omega) with h | h
  ·rw [h];exact .inl rfl
  ·rw [h,Int.mul_one]
   simp only [show i+d-i=d by omega]
   by_cases c:1114111<nD o n i d
   ·rw [if_pos c];exact .inl rfl
   ·rw [if_neg c]
    by_cases c2:scB (nD o n i d)=true
    ·rw [if_pos c2,bld]
     have hl:=Zg5 o (pD o i d) (nD o n i d)
     obtain ⟨q0,q1⟩:=Zdl o i d
     have:=Zrh b0 ds (H3 o (pD o i d) (nD o n i d)) (nD o n i d) (pD o i d+1) (adI d ((o.length:Int)+1) (decide (i=0))) f (fun x hx=>hd x (by simp [hx])) (by omega) (by rw [hl];omega) (by rw [hl];omega) (by simp at hf;omega)
     rw [hl,show ((o.length+1:Nat):Int)=(o.length:Int)+1 by omega] at this
     have e2:decide (i=0)=decide ((o.length:Int)=b0):=by simp only [hiff]
     rw [e2] at this ⊢
     exact this
    ·rw [if_neg c2];exact .inl rfl
theorem Zof (b0:Int):∀ (f:Nat) (bs o:List Int) (n i b:Int) (L:List Int),(∀ c∈bs,0≤c∧c<128)→0≤i→i≤(o.length:Int)→b0≤(o.length:Int)→(i=0↔(o.length:Int)=b0)→Zcy f bs o n i b=some L→∃ ds,(∀ x∈ds,0≤x∧x≤2147483647)∧bs.map Zd3=dgs b0 ds b (o.length:Int)∧L=bld ds o n i∧∀ x∈L,x∈o∨(scB x=true∧n≤x)
 | 0,_,_,_,_,_,_,_,_,_,_,_,h=>by simp [Zcy] at h
 | f+1,bs,o,n,i,b,L,hc,hi,hi2,hb,hiff,h=>by
  rw [Zcy] at h
  split at h
  ·rename_i hbs
   obtain rfl:=Option.some.inj h
   exact ⟨[],(fun _ hx=>by cases hx),by rw [hbs];rfl,rfl,fun x hx=>.inl hx⟩
  ·split at h
   ·cases h
   ·rename_i x hx
    obtain ⟨i2,r⟩:=x
    obtain ⟨q,q0,q1,q2,q3,q4,q5⟩:=Zka b bs 36 i 1 i2 r hc hi (Int.le_refl 1) hx
    have e:i2-i=q:=by omega
    simp only [e] at h
    split at h
    ·cases h
    ·split at h
     ·rename_i c2
      obtain ⟨p0,p1⟩:=Zdl o i q
      have hl:=Zg5 o (pD o i q) (nD o n i q)
      have hn:=Zoj (o:=o) (n:=n) hi q0
      obtain ⟨ds,a1,a2,a3,a4⟩:=Zof b0 f r _ _ _ _ L (fun c hcr=>hc c (q4 c hcr)) (by omega) (by rw [hl];omega) (by rw [hl];omega) (by rw [hl];omega) h
      refine ⟨q::ds,fun x hx=>?_,?_,?_,fun x hx=>?_⟩
      ·rcases List.mem_cons.1 hx with rfl | hx
       ·exact ⟨q0,by omega⟩
       ·exact a1 x hx
      ·have e2:decide (i=0)=decide ((o.length:Int)=b0):=by simp only [hiff]
       rw [q5 10 (by omega),a2,dgs,hl,show ((o.length+1:Nat):Int)=(o.length:Int)+1 by omega,e2]
      ·rw [a3,bld]
      ·rcases a4 x hx with hx | ⟨hx,hx2⟩
       ·rcases Zn4 hx with rfl | hx
        ·exact .inr ⟨c2,hn⟩
        ·exact .inl hx
       ·exact .inr ⟨hx,by omega⟩
     ·cases h
theorem Zr6 (b:Int):∀ (bs:List Int) (k i w:Int),(∀ c∈bs,0≤c∧c<128)→Zd0 (bs.map Zd3) b k i w=(Zd0 bs b k i w).map fun x=>(x.1,x.2.map Zd3)
 | [],_,_,_,_=>rfl
 | c::t,k,i,w,hc=>by
  obtain ⟨c0,c1⟩:=hc c (by simp)
  rw [List.map_cons,Zd0,Zd0,Zuk c0 c1]
  split
  ·rfl
  ·split
   ·rfl
   ·split
    ·rfl
    ·split
     ·rfl
     ·exact Zr6 b t _ _ _ fun x hx=>hc x (by simp [hx])
theorem Zrn:∀ (f:Nat) (bs o:List Int) (n i b:Int),(∀ c∈bs,0≤c∧c<128)→0≤i→Zcy f (bs.map Zd3) o n i b=Zcy f bs o n i b
 | 0,_,_,_,_,_,_,_=>rfl
 | f+1,bs,o,n,i,b,hc,hi=>by
  rw [Zcy,Zcy,Zr6 b bs 36 i 1 hc]
  by_cases hb:bs=[]
  ·rw [hb];rfl
  ·rw [if_neg (by simpa using hb),if_neg hb]
   cases hx:Zd0 bs b 36 i 1 with
   | none=>rfl
   | some x=>
    obtain ⟨i2,r⟩:=x
    obtain ⟨q,q0,q1,_,_,q4,_⟩:=Zka b bs 36 i 1 i2 r hc hi (Int.le_refl 1) hx
    obtain ⟨p0,_⟩:=Zdl o i (i2-i)
    simp only [Option.map_some]
    rw [Zrn f r _ _ _ _ (fun c hcr=>hc c (q4 c hcr)) (by omega)]
end Go.Proofs.YthoicbafdanmkaaGreatDoor
/- Plain laws: the tables of layer 18's statements; what a label is read as. Own work of this repo. -/
namespace Go.Proofs.YthoicbafdanmkaaGreatDoor
open Go.RowKit

theorem Zno (b:Bk) (hb:Few b) (h:okB b=true):∃ t,J7.f b=some (some t,b,true)∧Zhn b t:=by
 obtain ⟨t,h1,h2⟩:=Zj4 b hb h
 obtain ⟨p,q,h3⟩:=Zgd b hb
 rw [h] at h3
 refine ⟨t,?_,h2⟩
 rw [J7.f,Zya b hb,Option.bind_some,h3,Option.bind_some,h1,Option.bind_some,if_neg (by simp),if_pos rfl,J7.j1]
 rfl
theorem Zo6 (b:Bk) (hb:Few b) (h:okB b=false):J7.f b=some (none,⟨[],[],[],[],[],[],[],[],[],[],[]⟩,true):=by
 obtain ⟨p,h1⟩:=Zfh b
 obtain ⟨p',q,h3⟩:=Zgd b hb
 rw [h] at h1 h3
 rw [J7.f,Zya b hb,Option.bind_some,h3,Option.bind_some,Zk.f,h1,Option.bind_some,if_pos (by simp),Option.bind_some,if_pos (by simp)]
 rfl
theorem Ziq {α:Type} {o:Option α} (d:α) (h:∃ r,o=some r):o=some (o.getD d):=by
 obtain ⟨r,rfl⟩:=h;rfl
def Zvh (t:Option Tbs) (sta:Int→Int) (kp:Int→Bool):Prop:=(∀ p,Kp.f t p=some (sta p))∧∀ p,kp p=decide (sta p=1∨sta p=3)
theorem Zrf {t:Option Tbs} {sta:Int→Int} (h:∀ p,Kp.f t p=some (sta p)) (p:Int):Qv.f t p=some (decide (sta p=1∨sta p=3)):=by
 rw [Qv.f,h,Option.bind_some]
 by_cases c:sta p=1
 ·rw [if_pos c,decide_eq_true (.inl c)];rfl
 ·rw [if_neg c]
  simp only [Qv.j1,c,false_or]
theorem Zx1 {b:Bk} {t:Tbs} (hb:Few b) (h:okB b=true) (ht:Zhn b t):∃ key pa n pr mk kp jn sta,Tq (some t) key pa n pr mk kp jn∧Zvh (some t) sta kp:=by
 obtain ⟨key,pa,h1⟩:=Zxj hb h ht
 have hp:∀ a c,∃ r,Va.f (some t) a c=some r:=fun a c=>by
  simp only [Va.f,Option.isNone_some,Bool.false_eq_true,if_false,Option.isSome_some,if_true]
  exact ⟨_,rfl⟩
 have hs:∀ p,∃ r,Kp.f (some t) p=some r:=fun p=>by
  obtain ⟨r1,e1⟩:=Zbp _ _ ht.maps p
  obtain ⟨r2,e2⟩:=Zbp _ _ ht.status p
  simp only [Kp.f,Option.isNone_some,Bool.false_eq_true,if_false,Option.isSome_some,if_true,Option.getD_some,e1,e2,Option.bind_some]
  exact Zgo ⟨_,rfl⟩ ⟨_,rfl⟩
 have hm:∀ p,∃ r,Qw.f (some t) p=some r:=fun p=>by
  obtain ⟨r1,e1⟩:=Zbp _ _ ht.mark p
  exact ⟨decide (r1=1),by simp only [Qw.f,Qw.j1,Option.isSome_some,if_true,Option.getD_some,e1,Option.bind_some]⟩
 have hj:∀ p,∃ r,Vd.f (some t) p=some r:=fun p=>by
  obtain ⟨r1,e1⟩:=Zbp _ _ ht.join p
  exact ⟨r1,by simp only [Vd.f,Option.isNone_some,Bool.false_eq_true,if_false,Option.isSome_some,if_true,Option.getD_some,e1,Option.bind_some]⟩
 have hs':=fun p=>Ziq 0 (hs p)
 exact ⟨key,pa,_,_,_,_,_,_,⟨h1,fun a c=>Ziq (0,false) (Zj3 hp a c),fun p=>Ziq false (hm p),fun p=>Zrf hs' p,fun p=>Ziq 0 (hj p)⟩,hs',fun p=>rfl⟩
theorem Zwn:∃ key pa n pr mk kp jn sta,Tq none key pa n pr mk kp jn∧Zvh none sta kp:=by
 have hs:∀ p,Kp.f none p=some 0:=fun p=>rfl
 exact ⟨_,_,_,pr0,fun _=>false,_,fun _=>0,fun _=>0,⟨Zx2,Zle,fun p=>rfl,fun p=>Zrf hs p,fun p=>rfl⟩,hs,fun p=>rfl⟩
theorem Zvi (b:Bk) (hb:Few b):∃ t c key pa n pr mk kp jn sta,J7.f b=some (t,c,true)∧Tq t key pa n pr mk kp jn∧Zvh t sta kp:=by
 cases h:okB b with
 | true=>
  obtain ⟨t,h1,h2⟩:=Zno b hb h
  obtain ⟨key,pa,n,pr,mk,kp,jn,sta,h3,h4⟩:=Zx1 hb h h2
  exact ⟨_,_,key,pa,n,pr,mk,kp,jn,sta,h1,h3,h4⟩
 | false=>
  obtain ⟨key,pa,n,pr,mk,kp,jn,sta,h3,h4⟩:=Zwn
  exact ⟨_,_,key,pa,n,pr,mk,kp,jn,sta,Zo6 b hb h,h3,h4⟩
variable {t:Option Tbs} {key:Int→Int} {pa:Int→List Int} {n:Nat} {pr:Int→Int→Int×Bool} {mk kp:Int→Bool} {jn:Int→Int}
theorem Zic:∀ a b c d e f:Bool,(Zmi a b c d e f).headD 0=0→a=true∧b=false∧c=false∧d=false∧e=false∧f=false:=by decide
theorem Zna:∀ a b c d e f:Bool,Zmi a b c d e f=[]→a=true∧b=false∧c=false∧d=false∧e=false∧f=false:=fun a b c d e f h=>Zic a b c d e f (by rw [h];rfl)
theorem Zeg (h:Tq t key pa n pr mk kp jn) (l:List Int) (hl:54*l.length≤Z5):∃ F,Qy.f t l=some F∧(F.headD 0=0→F=[])∧(F=[]→Zd9 key pa n pr l=l∧Zes l=false∧(∀ x∈l,x≠46)∧∀ x∈l,kp x=true):=by
 obtain ⟨jo,h1,_⟩:=Zl8 h l hl
 refine ⟨_,h1,fun he=>?_,fun he=>?_⟩
 ·obtain ⟨h2,h3,h4,h5,h6,h7⟩:=Zic _ _ _ _ _ _ he
  rw [h2,h3,h4,h5,h6,h7];rfl
 ·obtain ⟨h2,h3,h4,h5,h6,h7⟩:=Zna _ _ _ _ _ _ he
  refine ⟨of_decide_eq_true h2,h3,fun x hx e=>?_,fun x hx=>?_⟩
  ·have:=List.any_eq_false.1 h4 x hx
   simp [e] at this
  ·have:=List.any_eq_false.1 h6 x hx
   simpa using this
theorem Z01 (l:List Int):sub l 4 (l.length:Int)=l.drop 4:=by simp [sub]
theorem Zjd {l:List Int} (h:Ho l=true) (k:Nat):Ho (l.drop k)=true:=by
 simp only [Ho,Bool.not_eq_true',List.any_eq_false] at h ⊢
 exact fun x hx=>h x (List.mem_of_mem_drop hx)
theorem Zuo {l:List Int} (h:Zes l=true):4≤(l.length:Int):=by
 obtain ⟨r,e⟩:=(Zjx l).1 h
 rw [e];simp;omega
theorem Zmd {l:List Int} (h:Ho l=true) (hl:2*l.length≤Z5):∃ q a e,J6.f (K5 l)=some (q,a,e)∧Yg.f (K5 l)=some (q,a,e)∧q.length≤l.length+1:=by
 have hp:=Zhh h
 obtain ⟨q,a,e,h1,h2,h3⟩:=Zm9 (K5 l) (by rw [Zdp hp];exact hl) (Zlb hp)
 rw [Zdp hp] at h3
 refine ⟨q,a,e,?_,h2,by omega⟩
 have hu:Uk.f=some pU:=rfl
 rw [J6.f,hu,Option.bind_some,h1];rfl
theorem Zqb (h:Tq t key pa n pr mk kp jn) (l:List Int) (hl:54*l.length≤Z5) (hc:Zes l=false):∃ f,Vq.f t l=some ⟨l,false,f⟩:=by
 obtain ⟨F,h1,_⟩:=Zeg h l hl
 exact ⟨F.headD 0,by rw [Vq.f,Zhu _ (by omega),Option.bind_some,Zd8,Option.bind_some,hc,if_pos (by decide),h1,Option.bind_some,Zkf];rfl⟩
theorem Zov (l:List Int) (hl:l.length≤Z5) (hc:Zes l=true) (hp:Ho l=true) {q:List Int} {a e:Int} (hd:J6.f (K5 (l.drop 4))=some (q,a,e)) (hq:q.length≤Z5) {F:List Int} (hF:Qy.f t q=some F):
  Vq.f t l=some (if e≠0 then ⟨l,true,8⟩ else if Ho q=true then ⟨q,true,9⟩ else ⟨q,true,F.headD 0⟩):=by
 have e4:=Z01 l
 have e5:=Zuo hc
 rw [Vq.f,Zhu _ hl,Option.bind_some,Zd8,Option.bind_some,hc,if_neg (by decide),Zbv _ hl,Option.bind_some,hp,if_neg (by decide),if_pos ⟨by omega,e5,Int.le_refl _⟩,e4,Zib (Zjd hp 4),hd,Option.bind_some]
 by_cases c:e≠0
 ·rw [if_pos c,if_pos c]
 ·rw [if_neg c,if_neg c,Zbv _ hq,Option.bind_some]
  by_cases d:Ho q=true
  ·rw [if_pos d,if_pos d]
  ·rw [if_neg d,if_neg d,hF,Option.bind_some,Zkf];rfl
end Go.Proofs.YthoicbafdanmkaaGreatDoor
/- Plain laws: Punycode, written and read, is what it was; read and written, too. Own work of this repo. -/
namespace Go.Proofs.YthoicbafdanmkaaGreatDoor
open Go.RowKit

def Zc2 (p:List Int) (r:Int):List Int:=if 0<r then p.drop (r+1).toNat else p
def Zgm (p:List Int) (r:Int):List Int:=if 0<r then p.take r.toNat else []
def Zyk (p:List Int) (r:Int):Prop:=(r=-1∧∀ j,0≤j→j<(p.length:Int)→rd p j≠45)∨(0≤r∧r<(p.length:Int)∧rd p r=45∧∀ j,r<j→j<(p.length:Int)→rd p j≠45)
theorem Zrl (p:List Int) (hp:∀ c∈p,0≤c∧c<128) (hl:2*p.length≤Z5):∃ r l a e,Zyk p r∧J6.f (K5 p)=some (l,a,e)∧(e=0→Zcy (p.length+2) (Zc2 p r) (Zgm p r) 128 0 72=some l)∧(e≠0→Zcy (p.length+2) (Zc2 p r) (Zgm p r) 128 0 72=none):=by
 have hb:=hl
 unfold Z5 at hb
 have hK:(K0:Int)=1180591620717411303424:=rfl
 have hsz:=Zdp hp
 have hbi:=Zgp hp
 have ha:=Zlb hp
 have hu:Uk.f=some pU:=rfl
 obtain ⟨r,p1,p2⟩:=Zma (K5 p) (by unfold Z5;omega) (K5 p).size (((K5 p).size:Int)-1) K0 (by omega) (by omega) (by omega) (by omega)
 have hlast:Zyk p r:=by
  rcases p2 with ⟨a1,a2⟩ | ⟨a1,a2,a3,a4⟩
  ·exact .inl ⟨a1,fun j h0 h1=>by have:=a2 j h0 (by omega);rwa [Zdt,hbi] at this⟩
  ·rw [Zdt,hbi] at a3
   exact .inr ⟨a1,by omega,a3,fun j h0 h1=>by have:=a4 j h0 (by omega);rwa [Zdt,hbi] at this⟩
 have p3:Kt.f (K5 p) 45=some r:=by
  rw [Kt.f,Z8.f,w64 (by omega) (by omega),p1];rfl
 have hr:r<((K5 p).size:Int):=by
  rcases p2 with ⟨a1,_⟩ | ⟨_,a2,_,_⟩<;>omega
 by_cases c:0<r
 ·have hlen:(p.take r.toNat).length=r.toNat:=by rw [List.length_take];omega
  obtain ⟨l,a,e,q1,q2,q3⟩:=Zo3 (K5 p) (by rw [hsz];exact hl) (p.length+1) (p.take r.toNat) (r+1) 128 0 72 K0 (p.length+2) (by omega) (by omega) (by omega) (by omega) (by rw [hlen];omega) (by omega) (by omega) (by omega) (by omega) (by omega)
  rw [hbi] at q2 q3
  refine ⟨r,l,a,e,hlast,?_,by rw [Zc2,Zgm,if_pos c,if_pos c];exact q2,by rw [Zc2,Zgm,if_pos c,if_pos c];exact q3⟩
  have hx:∀ x∈Qs ((K5 p).extract 0 r.toNat),0≤x∧x<128:=by
   intro x hx
   rw [Zbr,hbi] at hx
   exact hp x (List.mem_of_mem_take hx)
  have hsz2:((K5 p).extract 0 r.toNat).size=r.toNat:=by rw [← X0,Zbr,hbi,hlen]
  have hasc:Zpo ((K5 p).extract 0 r.toNat):=fun j j0 j1=>by
   rw [Zdt]
   exact (hx _ (Zf5 j0 (by rw [X0];exact j1))).2
  have z:((0:Int)).toNat=0:=rfl
  rw [J6.f,hu,Option.bind_some]
  simp only [Yi.f,p3,Option.bind_some,if_pos c,z]
  rw [if_pos ⟨by omega,by omega,by omega⟩,Zl2 _ (by rw [X0,hsz2];unfold Z5;omega) hx,Option.bind_some,if_neg (by omega),Zdk _ hasc,Zbr,hbi,if_pos (by rw [hlen];unfold most;omega),Yi.j1,w64 (by omega) (by omega),q1]
  rfl
 ·obtain ⟨l,a,e,q1,q2,q3⟩:=Zo3 (K5 p) (by rw [hsz];exact hl) (p.length+1) [] 0 128 0 72 K0 (p.length+2) (by omega) (by omega) (by omega) (by omega) (by simp) (by omega) (by omega) (by omega) (by omega) (by simp)
  rw [hbi,show ((0:Int)).toNat=0 from rfl,List.drop_zero] at q2 q3
  refine ⟨r,l,a,e,hlast,?_,by rw [Zc2,Zgm,if_neg c,if_neg c];exact q2,by rw [Zc2,Zgm,if_neg c,if_neg c];exact q3⟩
  rw [J6.f,hu,Option.bind_some]
  simp only [Yi.f,p3,Option.bind_some,if_neg c,Yi.j1,q1]
theorem Zom (B D:List Int) (hB:∀ c∈B,0≤c∧c<128) (hD:∀ c∈D,0≤c∧c<128) (h45:∀ c∈D,c≠45) (hl:2*(Ut B++D).length≤Z5):∃ l a e,J6.f (K5 (Ut B++D))=some (l,a,e)∧(e=0→Zcy ((Ut B++D).length+2) D B 128 0 72=some l)∧(e≠0→Zcy ((Ut B++D).length+2) D B 128 0 72=none):=by
 have hp:∀ c∈Ut B++D,0≤c∧c<128:=by
  intro c hc
  rcases List.mem_append.1 hc with hc | hc
  ·unfold Ut at hc
   split at hc
   ·rcases List.mem_append.1 hc with hc | hc
    ·exact hB c hc
    ·simp only [List.mem_singleton] at hc;omega
   ·exact hB c hc
  ·exact hD c hc
 obtain ⟨r,l,a,e,h1,h2,h3,h4⟩:=Zrl (Ut B++D) hp hl
 suffices hs:Zc2 (Ut B++D) r=D∧Zgm (Ut B++D) r=B by
  rw [hs.1,hs.2] at h3 h4
  exact ⟨l,a,e,h2,h3,h4⟩
 cases B with
 | nil=>
  have e0:Ut ([]:List Int)++D=D:=rfl
  rw [e0] at h1 ⊢
  rcases h1 with ⟨a1,_⟩ | ⟨a1,a2,a3,_⟩
  ·rw [Zc2,Zgm,if_neg (by omega),if_neg (by omega)];exact ⟨rfl,rfl⟩
  ·exact absurd a3 (h45 _ (Zf5 a1 a2))
 | cons x B=>
  have e0:Ut (x::B)++D=(x::B)++45::D:=by rw [Ut,if_pos (by simp<;>omega)];simp
  rw [e0] at h1 ⊢
  have hlen:(((x::B)++45::D).length:Int)=(B.length:Int)+1+((D.length:Int)+1):=by simp;omega
  have hat:rd ((x::B)++45::D) ((B.length:Int)+1)=45:=by
   have:=(mid (xs:=(x::B)++45::D) (pre:=x::B) (t:=D) rfl).1
   rw [List.length_cons] at this
   exact this
  have hgt:∀ j,(B.length:Int)+1<j→j<(((x::B)++45::D).length:Int)→rd ((x::B)++45::D) j≠45:=by
   intro j j0 j1
   have:rd ((x::B)++45::D) j∈D:=by
    unfold rd
    rw [List.getD_eq_getElem?_getD,List.getElem?_append_right (by simp;omega),show j.toNat-(x::B).length=(j.toNat-(x::B).length-1)+1 by simp;omega,List.getElem?_cons_succ]
    have hlt:j.toNat-(x::B).length-1<D.length:=by simp;omega
    rw [List.getElem?_eq_getElem hlt]
    exact List.getElem_mem hlt
   exact h45 _ this
  have hr:r=(B.length:Int)+1:=by
   rcases h1 with ⟨_,a2⟩ | ⟨a1,a2,a3,a4⟩
   ·exact absurd hat (a2 _ (by omega) (by omega))
   ·by_cases c1:r<(B.length:Int)+1
    ·exact absurd hat (a4 _ c1 (by omega))
    ·by_cases c2:(B.length:Int)+1<r
     ·exact absurd a3 (hgt r c2 a2)
     ·omega
  rw [Zc2,Zgm,if_pos (by omega),if_pos (by omega),hr]
  have t1:((B.length:Int)+1).toNat=(x::B).length:=by simp<;>omega
  have t2:((B.length:Int)+1+1).toNat=(x::B).length+1:=by simp<;>omega
  rw [t1,t2,List.take_left,← List.drop_drop,List.drop_left]
  exact ⟨rfl,rfl⟩
theorem Zg8 (L:List Int):fL 128 L=V3 L:=rfl
theorem Zxq {x:Int} (h0:0≤x) (h1:x<128):scB x=true:=by
 have e:=Zjl x
 unfold Q5.f Q5.j1 at e
 rw [if_pos h0,if_pos (by omega)] at e
 exact (Option.some.inj e).symm
theorem Zkg {p:List Int} (hp:∀ c∈p,0≤c∧c<128) (hl:2*p.length≤Z5) {l:List Int} {a e:Int} (h:J6.f (K5 p)=some (l,a,e)):Yg.f (K5 p)=some (l,a,e)∧(l.length:Int)≤(p.length:Int)+1:=by
 obtain ⟨q,b,f,h1,h2,h3⟩:=Zm9 (K5 p) (by rw [Zdp hp];exact hl) (Zlb hp)
 have hu:Uk.f=some pU:=rfl
 rw [J6.f,hu,Option.bind_some,h1,Option.bind_some] at h
 rw [h2,h]
 simp only [Option.some.injEq,Prod.mk.injEq] at h
 rw [Zdp hp] at h3
 rw [← h.1]
 exact ⟨rfl,h3⟩
theorem Zwg {L:List Int} (hr:∀ x∈L,0≤x∧x≤1114111):∀ c∈V3 L,0≤c∧c<128:=fun c hc=>by
 obtain ⟨h2,h3⟩:=List.mem_filter.1 hc
 have:=hr c h2
 have:=of_decide_eq_true h3
 omega
theorem Zi4 (L:List Int) (hl:L.length≤2097152) (hs:∀ x∈L,scB x=true):∃ r,Zf7 L ((V3 L).length:Int) K0 (Ut (V3 L)) 128 0 72 ((V3 L).length:Int)=some r∧Vz.f L=(Zig r).bind (fun ab=>some (ab.1,ab.2.1,ab.2.2))∧(∀ o',r=some o'→(∀ c∈o',0≤c∧c<128)∧o'.length≤12*L.length+1):=by
 have hb:L.length≤Z5:=by unfold Z5;omega
 have hr2:∀ x∈L,0≤x∧x≤1114111:=fun x hx=>Zdf (hs x hx)
 have hu:Uk.f=some pU:=rfl
 obtain ⟨r,r1,_,r3,r4⟩:=Zrg L hl hr2
 refine ⟨r,r1,?_,r4⟩
 have hp:=Zha L hb fun x hx=>by have:=hr2 x hx;omega
 have c:fIx (fun p=>!scB p) L 0=-1:=by
  rcases Zez (fun p=>!scB p) L 0 with ⟨c,_⟩ | ⟨a,x,t,e,hx,_,_⟩
  ·exact c
  ·have:=hs x (by rw [e];simp)
   rw [this] at hx;cases hx
 rw [Vz.f,hu,Option.bind_some,Zj.f,hp,Option.bind_some,if_pos c,if_neg (by simp),Zox L hl hr2,r3]
theorem Zs2 (L:List Int) (hl:L.length≤2097152) (hr:∀ x∈L,-2147483648≤x∧x≤2147483647) {s:ByteArray} {a:Int} (h:Vz.f L=some (s,a,0)):∀ x∈L,scB x=true:=by
 have hb:L.length≤Z5:=by unfold Z5;omega
 have hu:Uk.f=some pU:=rfl
 rcases Zez (fun p=>!scB p) L 0 with ⟨_,hx⟩ | ⟨b,x,t,e,hx,_,hi⟩
 ·intro x h2
  simpa using hx x h2
 ·have hne:¬ fIx (fun p=>!scB p) L 0=-1:=by rw [hi];omega
  rw [Vz.f,hu,Option.bind_some,Zj.f,Zha L hb hr,Option.bind_some,if_neg hne,if_pos (by simp)] at h
  simp at h
theorem Zyx (L:List Int) (hl:L.length≤2097152) (hr:∀ x∈L,-2147483648≤x∧x≤2147483647) {s:ByteArray} {a:Int} (h:Vz.f L=some (s,a,0)):∃ o b,s=K5 o∧(∀ c∈o,0≤c∧c<128)∧o.length≤12*L.length+1∧J6.f s=some (L,b,0):=by
 have hsc:=Zs2 L hl hr h
 have hr2:∀ x∈L,0≤x∧x≤1114111:=fun x hx=>Zdf (hsc x hx)
 obtain ⟨r,r1,r2,r3⟩:=Zi4 L hl hsc
 rw [r2] at h
 cases r with
 | none=>simp [Zig,Zj2] at h
 | some o=>
  obtain ⟨o1,o2⟩:=r3 o rfl
  have hB:=Zwg hr2
  have hlb:=Zc6 L
  obtain ⟨e1,e2⟩:=Zx8 L (fun x hx=>(hr2 x hx).2) ((V3 L).length:Int) K0 (Ut (V3 L)) 128 0 72 ((V3 L).length:Int) o (Int.le_refl 0) (Zja L).symm (by unfold Ut;split<;>first | (simp;omega) | omega) (fun c hc=>by
   unfold Ut at hc
   split at hc
   ·rcases List.mem_append.1 hc with hc | hc
    ·exact hB c hc
    ·simp only [List.mem_singleton] at hc;omega
   ·exact hB c hc) r1
  have e3:=Zm7 L (fun x hx=>(hr2 x hx).2) K0 128 128 0 0 ((V3 L).length:Int) (Int.le_refl 0) rfl (Int.le_refl _) (by rw [Int.sub_self,Int.zero_mul];rfl)
  have e4:=Zq9 L (fun x hx=>(hr2 x hx).2) L.length K0 128 0 128 0 ((V3 L).length:Int) (by omega) (by unfold K0;omega) rfl (Int.le_refl _) (by rw [Int.sub_self,Int.zero_mul];rfl)
  rw [Zg8] at e4
  generalize hds:Zet L K0 128 0 ((V3 L).length:Int)=ds at e1 e2 e3 e4
  have hds2:∀ x∈ds,0≤x∧x≤2147483647:=fun x hx=>⟨e3 x hx,e2 x hx⟩
  have hD:∀ c∈dgs ((V3 L).length:Int) ds 72 ((V3 L).length:Int),0≤c∧c<128:=fun c hc=>o1 c (by rw [e1];simp [hc])
  have hbig:2*o.length≤Z5:=by unfold Z5;omega
  rw [e1] at hbig
  obtain ⟨l,b,e,g1,g2,g3⟩:=Zom (V3 L) (dgs ((V3 L).length:Int) ds 72 ((V3 L).length:Int)) hB hD (Zp5 _ ds 72 _ hds2) hbig
  rw [← e1] at g1 g2 g3 hbig
  obtain ⟨g4,_⟩:=Zkg o1 hbig g1
  rw [Zig,g4,Option.bind_some] at h
  have hdl:=Zrr ((V3 L).length:Int) ds 72 ((V3 L).length:Int)
  have hol:(dgs ((V3 L).length:Int) ds 72 ((V3 L).length:Int)).length≤o.length:=by rw [e1,List.length_append];omega
  by_cases c:e=0
  ·rw [if_neg (by simp [c]),Option.bind_some] at h
   simp only [Option.some.injEq,Prod.mk.injEq] at h
   refine ⟨o,b,h.1.symm,o1,o2,?_⟩
   rw [← h.1,g1,c]
   have g5:=g2 c
   rcases Zrh ((V3 L).length:Int) ds (V3 L) 128 0 72 (o.length+2) hds2 (Int.le_refl 0) (Int.le_refl _) (by simp) (by omega) with g6 | g6
   ·rw [g6] at g5;cases g5
   ·rw [g6,e4] at g5
    rw [← Option.some.inj g5]
  ·rw [if_pos (by simp [c])] at h
   simp [Zj2] at h
theorem Zyr (p:List Int) (hp:∀ c∈p,0≤c∧c<128) (hl:p.length≤2000000) {q:List Int} {a:Int} (h:J6.f (K5 p)=some (q,a,0)):(∀ x∈q,0≤x∧x≤1114111)∧∃ s b,Vz.f q=some (s,b,0)∧((∀ c∈p,¬ (65≤c∧c≤90))→s=K5 p):=by
 have hbig:2*p.length≤Z5:=by unfold Z5;omega
 obtain ⟨r,l,b,e,h1,h2,h3,_⟩:=Zrl p hp hbig
 rw [h] at h2
 simp only [Option.some.injEq,Prod.mk.injEq] at h2
 obtain ⟨rfl,rfl,rfl⟩:=h2
 have h3:=h3 rfl
 obtain ⟨_,hql⟩:=Zkg hp hbig h
 have hpe:p=Ut (Zgm p r)++Zc2 p r:=by
  unfold Zgm Zc2 Ut
  by_cases c:0<r
  ·rw [if_pos c,if_pos c]
   rcases h1 with ⟨a1,_⟩ | ⟨a1,a2,a3,_⟩
   ·omega
   ·have hlen:(p.take r.toNat).length=r.toNat:=by rw [List.length_take];omega
    rw [if_pos (by rw [hlen];omega)]
    have e1:p.drop r.toNat=45::p.drop (r+1).toNat:=by
     have hlt:r.toNat<p.length:=by omega
     rw [List.drop_eq_getElem_cons hlt,show (r+1).toNat=r.toNat+1 by omega]
     congr 1
     unfold rd at a3
     rw [List.getD_eq_getElem?_getD,List.getElem?_eq_getElem hlt] at a3
     exact a3
    conv=>lhs;rw [← List.take_append_drop r.toNat p,e1]
    simp
  ·rw [if_neg c,if_neg c,if_neg (by simp)];rfl
 have hO:∀ c∈Zgm p r,0≤c∧c<128:=fun c hc=>by
  unfold Zgm at hc
  split at hc
  ·exact hp c (List.mem_of_mem_take hc)
  ·cases hc
 have hR:∀ c∈Zc2 p r,0≤c∧c<128:=fun c hc=>hp c (by rw [hpe];simp [hc])
 generalize Zgm p r=B at h3 hpe hO
 generalize Zc2 p r=R at h3 hpe hR
 obtain ⟨ds,d1,d2,d3,d4⟩:=Zof (B.length:Int) (p.length+2) R B 128 0 72 q hR (Int.le_refl 0) (by omega) (Int.le_refl _) (by simp) h3
 have hsc:∀ x∈q,scB x=true:=fun x hx=>by
  rcases d4 x hx with hx | ⟨hx,_⟩
  ·exact Zxq (hO x hx).1 (hO x hx).2
  ·exact hx
 have hq:∀ x∈q,0≤x∧x≤1114111:=fun x hx=>Zdf (hsc x hx)
 refine ⟨hq,?_⟩
 have hbas:V3 q=B:=by
  rw [← Zg8,d3,Zmj ds B 128 0 (fun x hx=>(d1 x hx).1) (Int.le_refl 0),Zhi fun x hx=>(hO x hx).2]
 have hl2:q.length≤2097152:=by omega
 have hq1:∀ x∈q,x≤1114111:=fun x hx=>(hq x hx).2
 have e4:=Zq9 q hq1 q.length K0 128 0 128 0 ((V3 q).length:Int) (by omega) (by unfold K0;omega) rfl (Int.le_refl _) (by rw [Int.sub_self,Int.zero_mul];rfl)
 have e3:=Zm7 q hq1 K0 128 128 0 0 ((V3 q).length:Int) (Int.le_refl 0) rfl (Int.le_refl _) (by rw [Int.sub_self,Int.zero_mul];rfl)
 have hlb:=Zja q
 rw [Zg8,hbas] at e4
 rw [hbas] at e3 hlb
 have hds:Zet q K0 128 0 (B.length:Int)=ds:=by
  refine Zrd _ _ B 128 0 ⟨Int.le_refl 0,by omega,fun x hx=>by have:=hO x hx;omega,fun x hx=>?_⟩ e3 (fun x hx=>(d1 x hx).1) (by rw [e4,d3])
  simp at hx
  exact (hO x hx).2
 have e5:=Zu5 q hl2 hq1 (B.length:Int) q.length K0 (Ut B) 128 0 72 (B.length:Int) (by omega) (by unfold K0;omega) (Int.le_refl 0) hlb.symm (by rw [hds];exact fun x hx=>(d1 x hx).2)
 obtain ⟨r',r1,r2,r3⟩:=Zi4 q hl2 hsc
 rw [hbas,e5,hds,← d2] at r1
 have r1:=Option.some.inj r1
 obtain ⟨o1,o2⟩:=r3 _ r1.symm
 have hD:∀ c∈R.map Zd3,0≤c∧c<128:=fun c hc=>o1 c (by simp [hc])
 have h45:∀ c∈R.map Zd3,c≠45:=by rw [d2];exact Zp5 _ ds 72 _ d1
 have hlen:(Ut B++R.map Zd3).length=p.length:=by rw [hpe];simp
 obtain ⟨l2,b2,e2,g1,g2,g3⟩:=Zom B (R.map Zd3) hO hD h45 (by rw [hlen];exact hbig)
 rw [hlen,Zrn _ R B 128 0 72 hR (Int.le_refl 0),h3] at g2 g3
 have he2:e2=0:=by
  apply Classical.byContradiction
  intro c
  cases g3 c
 obtain ⟨g4,_⟩:=Zkg o1 (by rw [hlen];exact hbig) g1
 refine ⟨K5 (Ut B++R.map Zd3),0,?_,fun hg=>?_⟩
 ·rw [r2,← r1,Zig,g4,Option.bind_some,if_neg (by simp [he2])];rfl
 ·have:R.map Zd3=R:=by
   have:∀ m:List Int,(∀ c∈m,¬ (65≤c∧c≤90))→m.map Zd3=m:=by
    intro m
    induction m with
    | nil=>intro _;rfl
    | cons x m ih=>intro hm;rw [List.map_cons,ih fun y hy=>hm y (by simp [hy]),Zd3,if_neg (hm x (by simp))]
   exact this R fun c hc=>hg c (by rw [hpe];simp [hc])
  rw [this,← hpe]
end Go.Proofs.YthoicbafdanmkaaGreatDoor
/- Arguments: what is read as data is what the representations say, and the data's bulk bounds the sizes. Own work of this repo. -/
namespace Go.Proofs.YthoicbafdanmkaaGreatDoor
open Go.RowKit

section
variable {H:Type} {enc:TypeId×Value→H} {P:Program} {W:World}
def Uy {α:Type} (enc:TypeId×Value→H) (P:Program) (W:World) (t:TypeId) (r:Rep α) (sz:α→Nat) (wf:α→Prop):Prop:=
 ∀ fuel cs d ps,DataW.trod enc P W 0 (fun _=>true) true fuel t cs=some (d,ps)→∃ x,r.R (seen W) cs x∧sz x≤Rows.uptoBulk d∧wf x
theorem Zys {k:IntKind} {n:Int} (h:(Lit.int k n).wf=true):InK k n:=by
 simp only [Lit.wf,Bool.and_eq_true,decide_eq_true_eq] at h
 cases k<;>simp only [InK]<;>simp [IntKind.min,IntKind.max,IntKind.signed,IntKind.bits] at h<;>omega
theorem Uy.int {t:TypeId} {k:IntKind} (hu:P.underlying t=some (.int k)):Uy enc P W t (Rep.int k) (fun _=>1) (InK k):=by
 intro fuel cs d ps h
 obtain ⟨n,rfl,he,hw⟩:=DataW.trod_int hu h
 simp only [Prod.mk.injEq] at he
 obtain ⟨rfl,rfl⟩:=he
 exact ⟨n,rfl,by simp [Rows.uptoBulk],Zys hw⟩
theorem Uy.str {t:TypeId} (hu:P.underlying t=some .string):Uy enc P W t Rep.str (fun s=>s.size+1) (fun _=>True):=by
 intro fuel cs d ps h
 obtain ⟨s,rfl,he,hw⟩:=DataW.trod_string hu h
 simp only [Prod.mk.injEq] at he
 obtain ⟨rfl,rfl⟩:=he
 exact ⟨s,rfl,by simp [Rows.uptoBulk],trivial⟩
theorem Zgf {α β:Type} {f:α→Option β}:∀ {l:List α} {ys:List β},l.mapM f=some ys→ys.length=l.length∧∀ (i:Nat) (x:α),l[i]?=some x→f x=ys[i]?
 | [],ys,h=>by simp at h;subst h;exact ⟨rfl,fun i x hx=>by simp at hx⟩
 | a::l,ys,h=>by
  rw [List.mapM_cons] at h
  simp only [bind,Option.bind_eq_some_iff,pure,Option.some.injEq] at h
  obtain ⟨y,hy,ys',hys,rfl⟩:=h
  obtain ⟨h1,h2⟩:=Zgf hys
  refine ⟨by simp [h1],fun i x hx=>?_⟩
  cases i with
  | zero=>simp at hx;subst hx;simpa using hy
  | succ i=>simpa using h2 i x (by simpa using hx)
theorem Zpc {w:World} {a:Addr} {n:Nat} {cs:List Value} (h:w.cells? 0 a n=some cs):cs.length=n∧∀ j u,cs[j]?=some u→w.cell? (a.add j)=some u:=by
 unfold World.cells? at h
 simp only [Nat.zero_le,if_true] at h
 obtain ⟨h1,h2⟩:=Zgf h
 refine ⟨by simpa using h1,fun j u hu=>?_⟩
 have hj:j<n:=by have:=(List.getElem?_eq_some_iff.1 hu).1;simp at h1;omega
 rw [h2 j j (by simp [hj]),hu]
theorem Zls {w:World} {a:Addr} {v:Value} (h:w.cell? a=some v):a.spot=none:=by
 unfold World.cell? at h
 split at h
 ·split at h
  ·cases h
  ·rename_i hs
   cases hsp:a.spot with
   | none=>rfl
   | some x=>rw [hsp] at hs;simp at hs
 ·cases h
def szL {α:Type} (sz:α→Nat):List α→Nat
 | []=>1
 | x::t=>sz x+szL sz t
theorem Zao {α:Type} {sz:α→Nat} (h1:∀ x,1≤sz x):∀ xs:List α,xs.length<szL sz xs
 | []=>by simp [szL]
 | x::t=>by have:=Zao h1 t;have:=h1 x;simp [szL];omega
theorem Zrm {α:Type} {sz:α→Nat} {x:α}:∀ {xs:List α},x∈xs→sz x<szL sz xs
 | y::t,h=>by
  rcases List.mem_cons.1 h with rfl | h
  ·have:∀ l:List α,1≤szL sz l:=fun l=>by induction l with
    | nil=>simp [szL]
    | cons a l ih=>simp [szL];omega
   have:=this t
   simp [szL];omega
  ·have:=Zrm (sz:=sz) h
   simp [szL];omega
theorem Uy.slice {α:Type} {t e sz' bytes:Nat} {r:Rep α} {sz:α→Nat} {wf:α→Prop} (he:Vu P t e sz' bytes) (hr:r.sz=sz') (h:Uy enc P W e r sz wf):Uy enc P W t (Rep.slice r) (szL sz) (fun xs=>∀ x∈xs,wf x):=by
 intro fuel cs d ps h1
 obtain ⟨inf,z,hi,_,hsz,_,_⟩:=he.info
 have hc:P.cellsOf e=r.sz:=by simp [Program.cellsOf,hi,hsz,hr]
 have hpos:0<r.sz:=hr▸he.pos
 rcases DataW.trod_slice he.under h1 with ⟨rfl,hx⟩ | ⟨a,len,cap,elems,rest,n,_,rfl,hx,_,hl,hm,hlen,hel,_,_⟩
 ·simp only [Prod.mk.injEq] at hx
  obtain ⟨rfl,rfl⟩:=hx
  exact ⟨[],⟨_,rfl,.inl ⟨rfl,none,0,rfl⟩⟩,by simp [szL,Rows.uptoBulk],fun x hx=>by cases hx⟩
 ·simp only [Prod.mk.injEq] at hx
  obtain ⟨rfl,_⟩:=hx
  rw [hc] at hel
  have key:∀ (es:List (DataW H×List MemPlace)) (k:Nat),k+es.length=len→(∀ i y,es[i]?=some y→elems[k+i]?=some y)→
    ∃ xs:List α,xs.length=es.length∧szL sz xs≤Rows.uptoBulkAll (es.map (·.1))+1∧(∀ x∈xs,wf x)∧∀ i x,xs[i]?=some x→a.spot=none∧∃ c,r.R (seen W) c x∧∀ j u,c[j]?=some u→W.cell? ⟨a.block,a.off+(k+i)*r.sz+j,none⟩=some u:=by
   intro es
   induction es with
   | nil=>intro k _ _;exact ⟨[],rfl,by simp [szL,Rows.uptoBulkAll],fun x hx=>(by cases hx),fun i x hx=>(by simp at hx)⟩
   | cons y es ih=>
    intro k hk hes
    have hy:=hes 0 y rfl
    have h2:=hel k (by simp at hk;omega)
    rw [Nat.add_zero] at hy
    rw [hy] at h2
    obtain ⟨c,hc1,hc2⟩:=Option.bind_eq_some_iff.1 h2
    obtain ⟨hc3,hc4⟩:=Zpc hc1
    obtain ⟨x,hx1,hx2,hx3⟩:=h n c y.1 y.2 hc2
    obtain ⟨xs,e1,e2,e3,e4⟩:=ih (k+1) (by simp at hk;omega) (fun i z hz=>by
     have:=hes (i+1) z (by simpa using hz)
     rwa [show k+1+i=k+(i+1) by omega])
    have hlc:c.length=r.sz:=r.len hx1
    have hsp:a.spot=none:=by
     have h5:=hc4 0 c[0] (List.getElem?_eq_getElem (by omega))
     simp only [Addr.add,if_true] at h5
     have h6:=Zls h5
     by_cases hk0:k*r.sz=0
     ·simpa [hk0] using h6
     ·have h7:=hel 0 (by simp at hk;omega)
      have h8:elems[0]?≠none:=by
       rw [ne_eq,List.getElem?_eq_none_iff];simp at hk;omega
      obtain ⟨z0,hz0⟩:=Option.ne_none_iff_exists'.1 h8
      rw [hz0] at h7
      obtain ⟨c0,hd1,hd2⟩:=Option.bind_eq_some_iff.1 h7
      obtain ⟨hd3,hd4⟩:=Zpc hd1
      have:=hd4 0 c0[0] (List.getElem?_eq_getElem (by omega))
      simp only [Nat.zero_mul,Addr.add,if_true] at this
      exact Zls this
    have hadd:∀ m j,(a.add m).add j=⟨a.block,a.off+m+j,none⟩:=by
     intro m j
     cases a with
     | mk ab ao asp=>
      simp only at hsp
      subst hsp
      rw [Addr.add_lit,Addr.add_lit]
    refine ⟨x::xs,by simp [e1],?_,?_,?_⟩
    ·simp only [szL,List.map_cons,Rows.uptoBulkAll];omega
    ·intro z hz
     rcases List.mem_cons.1 hz with rfl | hz
     ·exact hx3
     ·exact e3 z hz
    ·intro i z hz
     cases i with
     | zero=>
      simp at hz;subst hz
      refine ⟨hsp,c,hx1,fun j u hu=>?_⟩
      have:=hc4 j u hu
      rw [hadd] at this
      exact this
     | succ i=>
      obtain ⟨_,c',f1,f2⟩:=e4 i z (by simpa using hz)
      refine ⟨hsp,c',f1,fun j u hu=>?_⟩
      have:=f2 j u hu
      rwa [show k+1+i=k+(i+1) by omega] at this
  obtain ⟨xs,e1,e2,e3,e4⟩:=key elems 0 (by omega) (fun i y hy=>by rwa [Nat.zero_add])
  refine ⟨xs,⟨_,rfl,?_⟩,by simp only [Rows.uptoBulk];omega,e3⟩
  cases hxs:xs with
  | nil=>
   subst hxs
   have h0:len=0:=by simp at e1;omega
   subst h0
   exact .inl ⟨rfl,_,_,rfl⟩
  | cons x0 xs0=>
   rw [← hxs]
   have hsp:=(e4 0 x0 (by rw [hxs];rfl)).1
   refine .inr ⟨a.block,a.off,cap,?_,by omega,fun i x hx=>?_⟩
   ·rw [e1,hlen]
    cases a with
    | mk ab ao asp=>simp only at hsp;subst hsp;rfl
   ·obtain ⟨_,c,f1,f2⟩:=e4 i x hx
    exact ⟨c,f1,fun j u hu=>by have:=f2 j u hu;rw [Nat.zero_add] at this;exact this⟩
end
end Go.Proofs.YthoicbafdanmkaaGreatDoor
/- LabelCodes in the row's words. Own work of this repo. -/
namespace Go.Proofs.YthoicbafdanmkaaGreatDoor
open Go.RowKit
theorem Zzj {n:Int} (h:InK .i32 n):-2147483648≤n∧n≤2147483647:=h
end Go.Proofs.YthoicbafdanmkaaGreatDoor
/- Plain laws: LabelBack. Own work of this repo. -/
namespace Go.Proofs.YthoicbafdanmkaaGreatDoor
open Go.RowKit
variable {t:Option Tbs} {key:Int→Int} {pa:Int→List Int} {n:Nat} {pr:Int→Int→Int×Bool} {mk kp:Int→Bool} {jn:Int→Int}

theorem Zpj (o:List Int):(⟨#[120,110,45,45]⟩:ByteArray)++K5 o=K5 (120::110::45::45::o):=by
 apply Zuv
 rw [ByteArray.data_append,Array.toList_append,Zcq,Zcq]
 rfl
theorem Zu2 {l:List Int} (p:Int→Bool) (s:Bool) (x:Int):(s||(x::l).any p)=((s||p x)||l.any p):=by
 rw [List.any_cons,Bool.or_assoc]
theorem Zs7 (hq:Tq t key pa n pr mk kp jn) (c:Bk) (l:List Int) (hl:l.length≤1048577):Ze.j7 l (t,c,true)=some true:=by
 have hb:l.length≤Z5:=by unfold Z5;omega
 rw [Ze.j7]
 have hrr:=Zjf l l hb
 cases hc:Zes l with
 | false=>
  obtain ⟨f,hf⟩:=Zqb hq l (by unfold Z5;omega) hc
  simp only [hf,Option.bind_some]
  simp [Ze.j6,hrr,Ze.j2]
 | true=>
  cases hp:Ho l with
  | false=>
   have hf:Vq.f t l=some ⟨l,true,7⟩:=by rw [Vq.f,Zhu _ hb,Option.bind_some,Zd8,Option.bind_some,hc,if_neg (by decide),Zbv _ hb,Option.bind_some,hp,if_pos (by decide)]
   simp only [hf,Option.bind_some]
   simp [Ze.j6,Ze.j2]
  | true=>
   have hp4:=Zjd hp 4
   have h4:(l.drop 4).length=l.length-4:=by simp
   obtain ⟨q,a,e,h1,h2,h3⟩:=Zmd hp4 (by unfold Z5;omega)
   obtain ⟨F,hF,hF1,hF2⟩:=Zeg hq q (by unfold Z5;omega)
   have hqb:q.length≤Z5:=by unfold Z5;omega
   have hf:=Zov (t:=t) l hb hc hp h1 hqb hF
   by_cases ce:e≠0
   ·rw [if_pos ce] at hf
    simp only [hf,Option.bind_some]
    simp [Ze.j6,Ze.j2]
   ·rw [if_neg ce] at hf
    cases hpq:Ho q with
    | true=>
     rw [if_pos hpq] at hf
     simp only [hf,Option.bind_some]
     simp [Ze.j6,Ze.j2]
    | false=>
     rw [if_neg (by rw [hpq];decide)] at hf
     simp only [hf,Option.bind_some]
     rw [if_neg (by simp)]
     by_cases cf:F.headD 0=0
     ·have ce0:e=0:=Classical.byContradiction fun h=>ce h
      subst ce0
      have hnil:=hF1 cf
      obtain ⟨hq0,s,b',he,hg⟩:=Zyr (l.drop 4) (Zhh hp4) (by omega) h1
      rw [decide_eq_false (fun h=>h cf),Ze.j6,if_neg (by decide)]
      have hhigh:(q.any fun x=>decide (127<x))=true:=by
       simp only [Ho,Bool.not_eq_false',List.any_eq_true,decide_eq_true_eq] at hpq ⊢
       obtain ⟨x,hx,h5⟩:=hpq
       have:=hq0 x hx
       exact ⟨x,hx,by omega⟩
      have hsz:s.size≤9223372036854775800:=by
       obtain ⟨s2,a2,e2,g1,_,g2⟩:=Zla q (by omega) fun x hx=>by have:=hq0 x hx;omega
       rw [he] at g1
       simp only [Option.some.injEq,Prod.mk.injEq] at g1
       rw [g1.1];exact g2
      have hasc:V0.f q=some ((⟨#[120,110,45,45]⟩:ByteArray)++s,0,0):=by
       have hs4:(⟨#[120,110,45,45]⟩:ByteArray).size=4:=rfl
       rw [V0.f,Zbv q hqb,Option.bind_some,hpq,if_neg (by decide),he,Option.bind_some,if_neg (by simp),if_pos (by simp only;omega)]
      have hv:Uh.f t q=some true:=by rw [Zki hF,hnil];rfl
      have hlast:(∀ x∈l,¬ (65≤x∧x≤90))→(⟨#[120,110,45,45]⟩:ByteArray)++s=runesBytes l:=by
       intro hn
       obtain ⟨r,hr⟩:=(Zjx l).1 hc
       rw [hg fun c hc=>hn c (List.mem_of_mem_drop hc),Zpj,Zib hp,hr];rfl
      -- the letters
      have l1:∀ (af:Option Tbs×Bk×Bool),af.1=t→Ze.l1 K0 l af ⟨q,true,F.headD 0⟩ true false 0=some true:=by
       intro af hat
       refine (fun key=>key (fun _ x hx=>by cases hx)) (Xp (σ:=Bool) (fun k i g=>Ze.l1 k l af ⟨q,true,F.headD 0⟩ true g i) l (fun pre r g o=>(g=false→∀ x∈pre,¬ (65≤x∧x≤90))→o=some true) ?_ ?_ false K0 (ltK hb))
       ·intro g k hgr
        simp only [Ze.l1,if_neg (show ¬ (l.length:Int)<(l.length:Int) by omega),hasc,Option.bind_some,if_true,hat,hv]
        cases g with
        | true=>rfl
        | false=>rw [if_neg (by decide),hlast (hgr rfl),decide_eq_true rfl];rfl
       ·intro pre x r g k e ih hgr
        obtain ⟨m1,m2⟩:=mid e
        simp only [Ze.l1,if_pos m2.2,if_pos m2,m1,Ze.j4,nxt hb e]
        cases g with
        | true=>rw [if_pos rfl];exact ih _ (fun h=>by cases h)
        | false=>
         rw [if_neg (by decide)]
         have hpre:=hgr rfl
         have hsnoc:¬ (65≤x∧x≤90)→∀ y∈pre++[x],¬ (65≤y∧y≤90):=fun hx y hy=>by
          rcases List.mem_append.1 hy with hy | hy
          ·exact hpre y hy
          ·simp only [List.mem_singleton] at hy;rw [hy];exact hx
         by_cases c1:65≤x
         ·rw [if_pos c1]
          exact ih _ (fun h=>hsnoc (fun h2=>by have:=of_decide_eq_false h;omega))
         ·rw [if_neg c1]
          exact ih _ (fun _=>hsnoc (fun h2=>c1 h2.1))
      refine (fun key=>key (by simpa using hhigh)) (Xp (σ:=Bool) (fun k i g=>Ze.l2 k l (t,c,true) ⟨q,true,F.headD 0⟩ g i) q (fun pre r g o=>(g||r.any fun x=>decide (127<x))=true→o=some true) ?_ ?_ false K0 (ltK hqb))
      ·intro g k hgr
       simp only [List.any_nil,Bool.or_false] at hgr
       subst hgr
       simp only [Ze.l2,if_neg (show ¬ (q.length:Int)<(q.length:Int) by omega)]
       exact l1 _ rfl
      ·intro pre x r g k e ih hgr
       obtain ⟨m1,m2⟩:=mid e
       rw [Zu2] at hgr
       simp only [Ze.l2,if_pos m2.2,if_pos m2,m1,Ze.j3,nxt hqb e]
       cases g with
       | true=>rw [if_pos rfl];exact ih true (by simp)
       | false=>rw [if_neg (by decide)];exact ih _ (by simpa using hgr)
     ·rw [decide_eq_true cf]
      simp [Ze.j6,Ze.j2]
theorem Zs1 (b:Bk) (hb:Few b) (l:List Int) (hl:l.length≤1048577) (hr:∀ x∈l,InK .i32 x):Ze.f b l=some true:=by
 obtain ⟨t,c,key,pa,n,pr,mk,kp,jn,sta,h1,hq,hs⟩:=Zvi b hb
 have hlb:l.length≤Z5:=by unfold Z5;omega
 have hr2:∀ x∈l,-2147483648≤x∧x≤2147483647:=fun x hx=>Zzj (hr x hx)
 obtain ⟨F,hF,hF1,_⟩:=Zeg hq l (by unfold Z5;omega)
 have hv:=Zki hF
 have htail:=Zs7 hq c l hl
 have h9:∀ a6,Ze.j9 l (t,c,true) a6 false=some true:=fun a6=>by rw [Ze.j9,if_neg (by decide)];exact htail
 have h8:Ze.j8 l (t,c,true) false=some true:=by rw [Ze.j8,if_neg (by decide)];exact htail
 rw [Ze.f,h1,Option.bind_some,Zwq,Option.bind_some,if_neg (by decide),Ze.j10,if_neg (by simp)]
 refine (fun key=>key (by rw [Bool.false_or,Ho,Bool.not_not])) (Xp (σ:=Bool) (fun k i g=>Ze.l3 k l (t,c,true) g i) l (fun pre r g o=>(g||r.any fun p=>decide (p<0∨128≤p))=(!Ho l)→o=some true) ?_ ?_ false K0 (ltK hlb))
 ·intro g k hgr
  simp only [List.any_nil,Bool.or_false] at hgr
  simp only [Ze.l3,if_neg (show ¬ (l.length:Int)<(l.length:Int) by omega),V0.f,Zbv l hlb,Option.bind_some]
  cases hp:Ho l with
  | true=>
   rw [hp] at hgr
   simp only [Bool.not_true] at hgr
   subst hgr
   simp [h9]
  | false=>
   rw [hp] at hgr
   simp only [Bool.not_false] at hgr
   subst hgr
   obtain ⟨s,a,e,g1,_,g2⟩:=Zla l (by omega) hr2
   have hs4:(⟨#[120,110,45,45]⟩:ByteArray).size=4:=rfl
   rw [if_neg (by decide),g1,Option.bind_some]
   by_cases ce:e=0
   ·subst ce
    rw [if_neg (by simp),if_pos (by simp only;omega),Option.bind_some,if_pos rfl,if_pos rfl,hv,Option.bind_some]
    by_cases cF:F=[]
    ·obtain ⟨o,b',k1,k2,k3,k4⟩:=Zyx l (by omega) hr2 g1
     subst k1
     have hP:∀ x∈120::110::45::45::o,0≤x∧x<128:=by
      intro x hx
      simp only [List.mem_cons] at hx
      rcases hx with rfl | rfl | rfl | rfl | hx
      ·omega
      ·omega
      ·omega
      ·omega
      ·exact k2 x hx
     have hru:Hf ((⟨#[120,110,45,45]⟩:ByteArray)++K5 o)=120::110::45::45::o:=by
      rw [Zpj,Zdk _ (Zlb hP),Zgp hP]
     have hcod:Zes (120::110::45::45::o)=true:=(Zjx _).2 ⟨o,rfl⟩
     have hpl:Ho (120::110::45::45::o)=true:=by
      simp only [Ho,Bool.not_eq_true',List.any_eq_false,decide_eq_true_eq]
      intro x hx
      have:=hP x hx
      omega
     have hrd:=Zov (t:=t) (120::110::45::45::o) (by simp;unfold Z5;omega) hcod hpl (show J6.f (K5 ((120::110::45::45::o).drop 4))=some (l,b',0) from k4) hlb hF
     rw [if_neg (by simp),if_neg (by rw [hp];decide),cF] at hrd
     rw [decide_eq_true cF,Ze.j9,if_pos rfl]
     simp only [hru]
     rw [if_pos (by simp;unfold most;omega),hrd,Option.bind_some]
     simp only [List.headD_nil,Zjf l l hlb,Option.bind_some]
     simp [h8]
    ·rw [decide_eq_false cF];exact h9 _
   ·rw [if_pos (by simpa using ce),Option.bind_some,if_neg (by simpa using ce)]
    exact h9 _
 ·intro pre x r g k e ih hgr
  obtain ⟨m1,m2⟩:=mid e
  rw [Zu2] at hgr
  simp only [Ze.l3,if_pos m2.2,if_pos m2,m1,Ze.j1,nxt hlb e]
  cases g with
  | true=>rw [if_pos rfl];exact ih true (by rw [← hgr];simp)
  | false=>
   rw [if_neg (by decide)]
   by_cases c1:127<x
   ·rw [if_pos c1]
    exact ih true (by rw [← hgr];simp [show 128≤x by omega])
   ·rw [if_neg c1]
    refine ih _ ?_
    rw [← hgr]
    simp [show ¬ 128≤x by omega]
end Go.Proofs.YthoicbafdanmkaaGreatDoor
/- What is read of arguments. Written by reads.py. -/
namespace Go.Proofs.YthoicbafdanmkaaGreatDoor
open Go.RowKit
theorem Zq8 {α:Type} (l:List α) (h:l.length=2):∃ a0 a1,l=[a0,a1]:=by
 match l,h with
 | [a0,a1],_=>exact ⟨a0,a1,rfl⟩
theorem Zin {α:Type} (l:List α) (h:l.length=3):∃ a0 a1 a2,l=[a0,a1,a2]:=by
 match l,h with
 | [a0,a1,a2],_=>exact ⟨a0,a1,a2,rfl⟩
theorem Zpa {α:Type} (l:List α) (h:l.length=11):∃ a0 a1 a2 a3 a4 a5 a6 a7 a8 a9 a10,l=[a0,a1,a2,a3,a4,a5,a6,a7,a8,a9,a10]:=by
 match l,h with
 | [a0,a1,a2,a3,a4,a5,a6,a7,a8,a9,a10],_=>exact ⟨a0,a1,a2,a3,a4,a5,a6,a7,a8,a9,a10,rfl⟩
def Zgy (x:Val):Nat:=1+(fun _=>1) x.lo+(fun _=>1) x.hi+(fun _=>1) x.n
def Zly (x:Val):Prop:=(InK .i32) x.lo∧(InK .i32) x.hi∧(InK .i64) x.n
theorem Zev {H:Type} {enc:TypeId×Value→H} {W:World}:Uy enc Tryz.prog W 67 Qb Zgy Zly:=by
 intro fuel cs d ps h
 obtain ⟨xs,n,_,hx,hl,hn,hf⟩:=DataW.trod_struct Tryz.underlying67 h
 have hl:cs.length=3:=hl.trans (by kernel_rfl)
 have hn:xs.length=3:=hn
 obtain ⟨y0,y1,y2,rfl⟩:=Zin xs hn
 obtain ⟨c0,c1,c2,rfl⟩:=Zin cs hl
 simp only [Prod.mk.injEq] at hx
 obtain ⟨rfl,_⟩:=hx
 have g0:DataW.trod enc Tryz.prog W 0 (fun _=>true) true n 21 ((([c0,c1,c2]:List Value).drop 0).take (Tryz.prog.cellsOf 21))=some y0:=hf 0 _ rfl
 rw [show Tryz.prog.cellsOf 21=1 by kernel_rfl] at g0
 obtain ⟨x0,r0,s0,w0⟩:=(Uy.int Tryz.underlying21) n [c0] _ _ g0
 have g1:DataW.trod enc Tryz.prog W 0 (fun _=>true) true n 21 ((([c0,c1,c2]:List Value).drop 1).take (Tryz.prog.cellsOf 21))=some y1:=hf 1 _ rfl
 rw [show Tryz.prog.cellsOf 21=1 by kernel_rfl] at g1
 obtain ⟨x1,r1,s1,w1⟩:=(Uy.int Tryz.underlying21) n [c1] _ _ g1
 have g2:DataW.trod enc Tryz.prog W 0 (fun _=>true) true n 3 ((([c0,c1,c2]:List Value).drop 2).take (Tryz.prog.cellsOf 3))=some y2:=hf 2 _ rfl
 rw [show Tryz.prog.cellsOf 3=1 by kernel_rfl] at g2
 obtain ⟨x2,r2,s2,w2⟩:=(Uy.int Tryz.underlying3) n [c2] _ _ g2
 obtain rfl:c0=.int .i32 x0:=by simpa using (show [c0]=[.int .i32 x0] from r0)
 obtain rfl:c1=.int .i32 x1:=by simpa using (show [c1]=[.int .i32 x1] from r1)
 obtain rfl:c2=.int .i64 x2:=by simpa using (show [c2]=[.int .i64 x2] from r2)
 refine ⟨⟨x0,x1,x2⟩,rfl,?_,⟨w0,w1,w2⟩⟩
 try dsimp only at s0
 try dsimp only at s1
 try dsimp only at s2
 simp only [Zgy,List.map_cons,List.map_nil,Rows.uptoBulk,Rows.uptoBulkAll];omega
def Zcd (x:Chs):Nat:=1+(fun _=>1) x.lo+(fun _=>1) x.hi+(szL (fun _=>1)) x.is_
def Zmw (x:Chs):Prop:=(InK .i32) x.lo∧(InK .i32) x.hi∧(fun xs:List Int=>∀ x∈xs,(InK .i32) x) x.is_
theorem Zhm {H:Type} {enc:TypeId×Value→H} {W:World}:Uy enc Tryz.prog W 110 Kz Zcd Zmw:=by
 intro fuel cs d ps h
 obtain ⟨xs,n,_,hx,hl,hn,hf⟩:=DataW.trod_struct Tryz.underlying110 h
 have hl:cs.length=3:=hl.trans (by kernel_rfl)
 have hn:xs.length=3:=hn
 obtain ⟨y0,y1,y2,rfl⟩:=Zin xs hn
 obtain ⟨c0,c1,c2,rfl⟩:=Zin cs hl
 simp only [Prod.mk.injEq] at hx
 obtain ⟨rfl,_⟩:=hx
 have g0:DataW.trod enc Tryz.prog W 0 (fun _=>true) true n 21 ((([c0,c1,c2]:List Value).drop 0).take (Tryz.prog.cellsOf 21))=some y0:=hf 0 _ rfl
 rw [show Tryz.prog.cellsOf 21=1 by kernel_rfl] at g0
 obtain ⟨x0,r0,s0,w0⟩:=(Uy.int Tryz.underlying21) n [c0] _ _ g0
 have g1:DataW.trod enc Tryz.prog W 0 (fun _=>true) true n 21 ((([c0,c1,c2]:List Value).drop 1).take (Tryz.prog.cellsOf 21))=some y1:=hf 1 _ rfl
 rw [show Tryz.prog.cellsOf 21=1 by kernel_rfl] at g1
 obtain ⟨x1,r1,s1,w1⟩:=(Uy.int Tryz.underlying21) n [c1] _ _ g1
 have g2:DataW.trod enc Tryz.prog W 0 (fun _=>true) true n 28 ((([c0,c1,c2]:List Value).drop 2).take (Tryz.prog.cellsOf 28))=some y2:=hf 2 _ rfl
 rw [show Tryz.prog.cellsOf 28=1 by kernel_rfl] at g2
 obtain ⟨x2,r2,s2,w2⟩:=(Uy.slice Kk rfl (Uy.int Tryz.underlying21)) n [c2] _ _ g2
 obtain rfl:c0=.int .i32 x0:=by simpa using (show [c0]=[.int .i32 x0] from r0)
 obtain rfl:c1=.int .i32 x1:=by simpa using (show [c1]=[.int .i32 x1] from r1)
 obtain ⟨v2,e2,f2⟩:=r2
 obtain rfl:c2=v2:=by simpa using e2
 refine ⟨⟨x0,x1,x2⟩,⟨_,rfl,f2⟩,?_,⟨w0,w1,w2⟩⟩
 try dsimp only at s0
 try dsimp only at s1
 try dsimp only at s2
 simp only [Zcd,List.map_cons,List.map_nil,Rows.uptoBulk,Rows.uptoBulkAll];omega
def Zhl (x:Spn):Nat:=1+(fun _=>1) x.lo+(fun _=>1) x.hi
def Zqe (x:Spn):Prop:=(InK .i32) x.lo∧(InK .i32) x.hi
theorem Zlg {H:Type} {enc:TypeId×Value→H} {W:World}:Uy enc Tryz.prog W 129 Kj Zhl Zqe:=by
 intro fuel cs d ps h
 obtain ⟨xs,n,_,hx,hl,hn,hf⟩:=DataW.trod_struct Tryz.underlying129 h
 have hl:cs.length=2:=hl.trans (by kernel_rfl)
 have hn:xs.length=2:=hn
 obtain ⟨y0,y1,rfl⟩:=Zq8 xs hn
 obtain ⟨c0,c1,rfl⟩:=Zq8 cs hl
 simp only [Prod.mk.injEq] at hx
 obtain ⟨rfl,_⟩:=hx
 have g0:DataW.trod enc Tryz.prog W 0 (fun _=>true) true n 21 ((([c0,c1]:List Value).drop 0).take (Tryz.prog.cellsOf 21))=some y0:=hf 0 _ rfl
 rw [show Tryz.prog.cellsOf 21=1 by kernel_rfl] at g0
 obtain ⟨x0,r0,s0,w0⟩:=(Uy.int Tryz.underlying21) n [c0] _ _ g0
 have g1:DataW.trod enc Tryz.prog W 0 (fun _=>true) true n 21 ((([c0,c1]:List Value).drop 1).take (Tryz.prog.cellsOf 21))=some y1:=hf 1 _ rfl
 rw [show Tryz.prog.cellsOf 21=1 by kernel_rfl] at g1
 obtain ⟨x1,r1,s1,w1⟩:=(Uy.int Tryz.underlying21) n [c1] _ _ g1
 obtain rfl:c0=.int .i32 x0:=by simpa using (show [c0]=[.int .i32 x0] from r0)
 obtain rfl:c1=.int .i32 x1:=by simpa using (show [c1]=[.int .i32 x1] from r1)
 refine ⟨⟨x0,x1⟩,rfl,?_,⟨w0,w1⟩⟩
 try dsimp only at s0
 try dsimp only at s1
 simp only [Zhl,List.map_cons,List.map_nil,Rows.uptoBulk,Rows.uptoBulkAll];omega
def Zo1 (x:Bk):Nat:=1+(szL (fun s:ByteArray=>s.size+1)) x.names+(szL Zgy) x.status+(szL Zcd) x.maps+(szL Zgy) x.class_+(szL Zcd) x.decomp+(szL Zhl) x.excl+(szL Zgy) x.bidi+(szL Zgy) x.join+(szL Zhl) x.marks+(szL Zgy) x.script+(szL Zcd) x.like
def Zzx (x:Bk):Prop:=(fun xs:List ByteArray=>∀ x∈xs,(fun _=>True) x) x.names∧(fun xs:List Val=>∀ x∈xs,Zly x) x.status∧(fun xs:List Chs=>∀ x∈xs,Zmw x) x.maps∧(fun xs:List Val=>∀ x∈xs,Zly x) x.class_∧(fun xs:List Chs=>∀ x∈xs,Zmw x) x.decomp∧(fun xs:List Spn=>∀ x∈xs,Zqe x) x.excl∧(fun xs:List Val=>∀ x∈xs,Zly x) x.bidi∧(fun xs:List Val=>∀ x∈xs,Zly x) x.join∧(fun xs:List Spn=>∀ x∈xs,Zqe x) x.marks∧(fun xs:List Val=>∀ x∈xs,Zly x) x.script∧(fun xs:List Chs=>∀ x∈xs,Zmw x) x.like
theorem Zvy {H:Type} {enc:TypeId×Value→H} {W:World}:Uy enc Tryz.prog W 27 rBk Zo1 Zzx:=by
 intro fuel cs d ps h
 obtain ⟨xs,n,_,hx,hl,hn,hf⟩:=DataW.trod_struct Tryz.underlying27 h
 have hl:cs.length=11:=hl.trans (by kernel_rfl)
 have hn:xs.length=11:=hn
 obtain ⟨y0,y1,y2,y3,y4,y5,y6,y7,y8,y9,y10,rfl⟩:=Zpa xs hn
 obtain ⟨c0,c1,c2,c3,c4,c5,c6,c7,c8,c9,c10,rfl⟩:=Zpa cs hl
 simp only [Prod.mk.injEq] at hx
 obtain ⟨rfl,_⟩:=hx
 have g0:DataW.trod enc Tryz.prog W 0 (fun _=>true) true n 22 ((([c0,c1,c2,c3,c4,c5,c6,c7,c8,c9,c10]:List Value).drop 0).take (Tryz.prog.cellsOf 22))=some y0:=hf 0 _ rfl
 rw [show Tryz.prog.cellsOf 22=1 by kernel_rfl] at g0
 obtain ⟨x0,r0,s0,w0⟩:=(Uy.slice Zhc rfl (Uy.str Tryz.underlying9)) n [c0] _ _ g0
 have g1:DataW.trod enc Tryz.prog W 0 (fun _=>true) true n 23 ((([c0,c1,c2,c3,c4,c5,c6,c7,c8,c9,c10]:List Value).drop 1).take (Tryz.prog.cellsOf 23))=some y1:=hf 1 _ rfl
 rw [show Tryz.prog.cellsOf 23=1 by kernel_rfl] at g1
 obtain ⟨x1,r1,s1,w1⟩:=(Uy.slice Zcx rfl Zev) n [c1] _ _ g1
 have g2:DataW.trod enc Tryz.prog W 0 (fun _=>true) true n 24 ((([c0,c1,c2,c3,c4,c5,c6,c7,c8,c9,c10]:List Value).drop 2).take (Tryz.prog.cellsOf 24))=some y2:=hf 2 _ rfl
 rw [show Tryz.prog.cellsOf 24=1 by kernel_rfl] at g2
 obtain ⟨x2,r2,s2,w2⟩:=(Uy.slice Zep rfl Zhm) n [c2] _ _ g2
 have g3:DataW.trod enc Tryz.prog W 0 (fun _=>true) true n 23 ((([c0,c1,c2,c3,c4,c5,c6,c7,c8,c9,c10]:List Value).drop 3).take (Tryz.prog.cellsOf 23))=some y3:=hf 3 _ rfl
 rw [show Tryz.prog.cellsOf 23=1 by kernel_rfl] at g3
 obtain ⟨x3,r3,s3,w3⟩:=(Uy.slice Zcx rfl Zev) n [c3] _ _ g3
 have g4:DataW.trod enc Tryz.prog W 0 (fun _=>true) true n 24 ((([c0,c1,c2,c3,c4,c5,c6,c7,c8,c9,c10]:List Value).drop 4).take (Tryz.prog.cellsOf 24))=some y4:=hf 4 _ rfl
 rw [show Tryz.prog.cellsOf 24=1 by kernel_rfl] at g4
 obtain ⟨x4,r4,s4,w4⟩:=(Uy.slice Zep rfl Zhm) n [c4] _ _ g4
 have g5:DataW.trod enc Tryz.prog W 0 (fun _=>true) true n 25 ((([c0,c1,c2,c3,c4,c5,c6,c7,c8,c9,c10]:List Value).drop 5).take (Tryz.prog.cellsOf 25))=some y5:=hf 5 _ rfl
 rw [show Tryz.prog.cellsOf 25=1 by kernel_rfl] at g5
 obtain ⟨x5,r5,s5,w5⟩:=(Uy.slice Zkx rfl Zlg) n [c5] _ _ g5
 have g6:DataW.trod enc Tryz.prog W 0 (fun _=>true) true n 23 ((([c0,c1,c2,c3,c4,c5,c6,c7,c8,c9,c10]:List Value).drop 6).take (Tryz.prog.cellsOf 23))=some y6:=hf 6 _ rfl
 rw [show Tryz.prog.cellsOf 23=1 by kernel_rfl] at g6
 obtain ⟨x6,r6,s6,w6⟩:=(Uy.slice Zcx rfl Zev) n [c6] _ _ g6
 have g7:DataW.trod enc Tryz.prog W 0 (fun _=>true) true n 23 ((([c0,c1,c2,c3,c4,c5,c6,c7,c8,c9,c10]:List Value).drop 7).take (Tryz.prog.cellsOf 23))=some y7:=hf 7 _ rfl
 rw [show Tryz.prog.cellsOf 23=1 by kernel_rfl] at g7
 obtain ⟨x7,r7,s7,w7⟩:=(Uy.slice Zcx rfl Zev) n [c7] _ _ g7
 have g8:DataW.trod enc Tryz.prog W 0 (fun _=>true) true n 25 ((([c0,c1,c2,c3,c4,c5,c6,c7,c8,c9,c10]:List Value).drop 8).take (Tryz.prog.cellsOf 25))=some y8:=hf 8 _ rfl
 rw [show Tryz.prog.cellsOf 25=1 by kernel_rfl] at g8
 obtain ⟨x8,r8,s8,w8⟩:=(Uy.slice Zkx rfl Zlg) n [c8] _ _ g8
 have g9:DataW.trod enc Tryz.prog W 0 (fun _=>true) true n 23 ((([c0,c1,c2,c3,c4,c5,c6,c7,c8,c9,c10]:List Value).drop 9).take (Tryz.prog.cellsOf 23))=some y9:=hf 9 _ rfl
 rw [show Tryz.prog.cellsOf 23=1 by kernel_rfl] at g9
 obtain ⟨x9,r9,s9,w9⟩:=(Uy.slice Zcx rfl Zev) n [c9] _ _ g9
 have g10:DataW.trod enc Tryz.prog W 0 (fun _=>true) true n 24 ((([c0,c1,c2,c3,c4,c5,c6,c7,c8,c9,c10]:List Value).drop 10).take (Tryz.prog.cellsOf 24))=some y10:=hf 10 _ rfl
 rw [show Tryz.prog.cellsOf 24=1 by kernel_rfl] at g10
 obtain ⟨x10,r10,s10,w10⟩:=(Uy.slice Zep rfl Zhm) n [c10] _ _ g10
 obtain ⟨v0,e0,f0⟩:=r0
 obtain rfl:c0=v0:=by simpa using e0
 obtain ⟨v1,e1,f1⟩:=r1
 obtain rfl:c1=v1:=by simpa using e1
 obtain ⟨v2,e2,f2⟩:=r2
 obtain rfl:c2=v2:=by simpa using e2
 obtain ⟨v3,e3,f3⟩:=r3
 obtain rfl:c3=v3:=by simpa using e3
 obtain ⟨v4,e4,f4⟩:=r4
 obtain rfl:c4=v4:=by simpa using e4
 obtain ⟨v5,e5,f5⟩:=r5
 obtain rfl:c5=v5:=by simpa using e5
 obtain ⟨v6,e6,f6⟩:=r6
 obtain rfl:c6=v6:=by simpa using e6
 obtain ⟨v7,e7,f7⟩:=r7
 obtain rfl:c7=v7:=by simpa using e7
 obtain ⟨v8,e8,f8⟩:=r8
 obtain rfl:c8=v8:=by simpa using e8
 obtain ⟨v9,e9,f9⟩:=r9
 obtain rfl:c9=v9:=by simpa using e9
 obtain ⟨v10,e10,f10⟩:=r10
 obtain rfl:c10=v10:=by simpa using e10
 refine ⟨⟨x0,x1,x2,x3,x4,x5,x6,x7,x8,x9,x10⟩,⟨_,_,_,_,_,_,_,_,_,_,_,rfl,f0,f1,f2,f3,f4,f5,f6,f7,f8,f9,f10⟩,?_,⟨w0,w1,w2,w3,w4,w5,w6,w7,w8,w9,w10⟩⟩
 try dsimp only at s0
 try dsimp only at s1
 try dsimp only at s2
 try dsimp only at s3
 try dsimp only at s4
 try dsimp only at s5
 try dsimp only at s6
 try dsimp only at s7
 try dsimp only at s8
 try dsimp only at s9
 try dsimp only at s10
 simp only [Zo1,List.map_cons,List.map_nil,Rows.uptoBulk,Rows.uptoBulkAll];omega
end Go.Proofs.YthoicbafdanmkaaGreatDoor
/- A book of small bulk has few rows. Own work of this repo. -/
namespace Go.Proofs.YthoicbafdanmkaaGreatDoor
theorem Ztr {b:Bk} (h:Zo1 b≤1048577):Few b:=by
 unfold Zo1 at h
 have v1:∀ x,1≤Zgy x:=fun x=>by unfold Zgy;omega
 have c1:∀ x,1≤Zcd x:=fun x=>by unfold Zcd;omega
 have p1:∀ x,1≤Zhl x:=fun x=>by unfold Zhl;omega
 have a0:=Zao (sz:=fun s:ByteArray=>s.size+1) (fun x=>by omega) b.names
 have a1:=Zao v1 b.status
 have a2:=Zao c1 b.maps
 have a3:=Zao v1 b.class_
 have a4:=Zao c1 b.decomp
 have a5:=Zao p1 b.excl
 have a6:=Zao v1 b.bidi
 have a7:=Zao v1 b.join
 have a8:=Zao p1 b.marks
 have a9:=Zao v1 b.script
 have a10:=Zao c1 b.like
 have inn:∀ (l:List Chs),szL Zcd l≤1048577→∀ x∈l,x.is_.length≤Z5:=by
  intro l hl x hx
  have h1:=Zrm (sz:=Zcd) hx
  have h2:=Zao (sz:=fun _:Int=>1) (fun _=>Nat.le_refl 1) x.is_
  have h3:szL (fun _:Int=>1) x.is_≤Zcd x:=by unfold Zcd;omega
  unfold Z5
  omega
 constructor
 all_goals first | (unfold Z5;omega) | exact inn _ (by omega)
end Go.Proofs.YthoicbafdanmkaaGreatDoor
/- A row with a condition whose program's laid variables are told as well. Own work of this repo. -/
namespace Go.Proofs.YthoicbafdanmkaaGreatDoor
open Go Go.ChangeShapes
section
variable {H:Type} {enc:TypeId×Value→H}
theorem Zkt {a:Assume} {C:Checked} {os:Os} {f:FuncId} {fn:Func} {s:OpenSpec} {k:(H:Type)→List (DataW H)→Bool} (hk:s.cond=some k) {F:Stop.Interp} {conds:List PathCond} {apart fresh handsOn again:Bool} {l:List (String×DataW Unit)}
  (own:ownKnob C.prog.godebug=none) (started:os.Started) (noInit:C.prog.inits.idxOf? f=none) (hfn:C.prog.funcs[f]?=some fn)
  (witness:∃ (w:World) (tape:Tape) (i:Input),w.os=os∧(w.forCall tape i).Shaped C.prog∧i.vars=[]∧Input.okWide C.prog (w.forCall tape i) .any w.heap.size f i∧
   ((s.pre enc C.prog fn conds apart (w.forCall tape i).memory i.args∧laidMetH C.prog l (w.forCall tape i).memory)∧sizedMet enc C.prog fn s apart (w.forCall tape i).memory i.args)∧a.holds C.prog (lone (Frame.enter C.prog f i.args .normal) [] (w.forCall tape i)))
  (contract:∀ (W:World) (base:Nat) (args:Array Value) (ds gs:List (DataW H)) (before:List MemPlace),
   (∀ (j:Nat) t v,fn.params[j]?=some t→args[j]?=some v→Value.okWide C.prog W .any base t v)→
   DataW.Whole enc C.prog fn.params.toList s.vars apart W args.toList ds gs before→
   conds.all (PathCond.test C.prog ⟨fn.params.toList,ds,s.bare.plain.varTypes C.prog,gs⟩)=true→k H (ds++gs)=true→
   a.holds C.prog (lone (Frame.enter C.prog f args .normal) [] W)→
   Calls C.prog f args W fun e W'=>∃ v,e=.returned v∧(s.at F).post enc C.prog fn apart fresh handsOn again W args v W'):
  ReturnsInHanded a C os f .any (fun w args=>(s.pre enc C.prog fn conds apart w args∧laidMetH C.prog l w)∧sizedMet enc C.prog fn s apart w args) ((s.at F).post enc C.prog fn apart fresh handsOn again):=by
 refine returnsInHanded_of_calls own started noInit witness ?_
 intro w tape i _ _ _ hok hpre hholds
 obtain ⟨_,_,_,fn',hfn',_,_,_,_,hval⟩:=hok
 have e:fn'=fn:=Option.some.inj (hfn'.symm.trans hfn)
 subst e
 obtain ⟨ds,gs,before,hw,hc,hkk⟩:=(OpenSpec.pre_some hk conds apart _ _).1 hpre.1.1
 have hw':=DataW.Whole.of_heap (w':=w.forCall tape i) (by rfl) hw
 refine (contract (w.forCall tape i) w.heap.size i.args ds gs before hval hw' hc hkk hholds).mono fun e W' ⟨v,he,hp⟩=>?_
 subst he
 exact ChangeSpec.post_blind hp
theorem Zvk {C:Checked} {os:Os} {f:FuncId} {fn:Func} {s:OpenSpec} {k:(H:Type)→List (DataW H)→Bool} (hk:s.cond=some k) {conds:List PathCond} {apart:Bool} {l:List (String×DataW Unit)} (modest:Bool) (w0:World) (args:Array Value) (fuel:Nat) (hos:w0.os=os)
  (hsh:(w0.forCall (fun _ _=>0) ⟨#[],args,[]⟩).Shaped C.prog)
  (hok:Input.okWideB C.prog (w0.forCall (fun _ _=>0) ⟨#[],args,[]⟩) f ⟨#[],args,[]⟩=true)
  {x:List (DataW H)×List (DataW H)×List MemPlace} (hx:DataW.whole enc C.prog (w0.forCall (fun _ _=>0) ⟨#[],args,[]⟩).memory fn.params.toList s.vars apart args.toList fuel=some x)
  (hconds:conds.all (PathCond.test C.prog ⟨fn.params.toList,x.1,s.bare.plain.varTypes C.prog,x.2.1⟩)=true) (hkk:k H (x.1++x.2.1)=true)
  (hsz:s.bare.sizedB enc C.prog fn apart (w0.forCall (fun _ _=>0) ⟨#[],args,[]⟩).memory args fuel=true)
  (hl:laidMetH C.prog l (w0.forCall (fun _ _=>0) ⟨#[],args,[]⟩).memory):
  ∃ (w:World) (tape:Tape) (i:Input),w.os=os∧(w.forCall tape i).Shaped C.prog∧i.vars=[]∧Input.okWide C.prog (w.forCall tape i) .any w.heap.size f i∧
   ((s.pre enc C.prog fn conds apart (w.forCall tape i).memory i.args∧laidMetH C.prog l (w.forCall tape i).memory)∧sizedMet enc C.prog fn s apart (w.forCall tape i).memory i.args)∧({ modest:=modest }:Assume).holds C.prog (lone (Frame.enter C.prog f i.args .normal) [] (w.forCall tape i)):=
 ⟨w0,fun _ _=>0,⟨#[],args,[]⟩,hos,hsh,(Input.okWide_of_okWideB (base:=0) hok).1,(Input.okWide_of_okWideB hok).2,
  ⟨⟨(OpenSpec.pre_some hk conds apart _ _).2 ⟨x.1,x.2.1,x.2.2,DataW.Whole_of_whole hx,hconds,hkk⟩,hl⟩,sizedMet_of_sizedB hsz⟩,by
  simp only [Assume.holds]
  exact ⟨by simp,by simp,fun _=>Modest.zero,by simp,by simp⟩⟩
end
end Go.Proofs.YthoicbafdanmkaaGreatDoor
/- PROVED: 'posternlaw18.LabelBack' returns true for every input whose bulk is at most 1048576, and what came in reads as it did. No other conditions. -/
namespace Go.Proofs.YthoicbafdanmkaaGreatDoor
open Go.ChangeShapes Go.WideShapes Go.ChangeAt Go.RowKit Go.Joins
set_option linter.constructorNameAsVariable false
namespace RowLabelBack
theorem own:ownKnob Tryz.prog.godebug=none:=by kernel_rfl
theorem Zrw:laidOutB Tryz.prog=true:=by kernel_rfl
set_option maxRecDepth 100000 in
theorem Znu {W:World} {base:Nat} {v v':Value} (h:Value.okWide Tryz.prog W .any base 28 v) (e:v.cells.toList=[v']):v=v':=by
 obtain ⟨a,l,c,rfl⟩:=okWide_slice Tryz.underlying28 h
 simpa [Value.cells] using e
set_option maxRecDepth 100000 in
theorem lifted (os:Os) (started:os.Started) (H:Type) (enc:TypeId×Value→H) (F:Stop.Interp):
  ReturnsInHanded {} Tryz.checked os 3 .any (fun w args=>((Rows.OpenSpec.upto Rows.labelBackSpec).pre enc Tryz.prog Tryz.f3 Rows.labelBackUptoRow.domain false w args∧laidMetH Tryz.prog Rows.labelBackUptoRow.laid w)∧sizedMet enc Tryz.prog Tryz.f3 (Rows.OpenSpec.upto Rows.labelBackSpec) false w args) (((Rows.OpenSpec.upto Rows.labelBackSpec).at F).post enc Tryz.prog Tryz.f3 false true false false):=by
 refine Zkt (C:=Tryz.checked) (s:=Rows.OpenSpec.upto Rows.labelBackSpec) (k:=Rows.uptoSmall) rfl own started (by kernel_rfl) Tryz.func3
  (Zvk (enc:=enc) (C:=Tryz.checked) (s:=Rows.OpenSpec.upto Rows.labelBackSpec) (k:=Rows.uptoSmall) rfl false (World.laidAll Tryz.prog os Rows.labelBackUptoRow.laid) #[.agg #[.slice none 0 0,.slice none 0 0,.slice none 0 0,.slice none 0 0,.slice none 0 0,.slice none 0 0,.slice none 0 0,.slice none 0 0,.slice none 0 0,.slice none 0 0,.slice none 0 0],.slice none 0 0] 8 (World.laidAll_os _ _ _) (World.shaped_of_ZipB (by kernel_rfl) (by kernel_rfl)) (by kernel_rfl)
   (x:=([(.agg [.nil,.nil,.nil,.nil,.nil,.nil,.nil,.nil,.nil,.nil,.nil]),.nil],[],[])) (by kernel_rfl) rfl rfl (by kernel_rfl) (by rw [MakeChecks.laidMetH_plain _ _ _ (by kernel_rfl)];exact laidMet_laidAll _ (by kernel_rfl) (by kernel_rfl))) ?_
 intro W base args ds gs before hval0 hW hk0 hk _
 have hval:∀ (j:Nat) t v,Tryz.f3.params[j]?=some t→args[j]?=some v→Value.okWide Tryz.prog W .any base t v:=hval0
 have hW':=hW
 obtain ⟨p,q,hA0,hV,rfl,hfz,hnd⟩:=hW
 have hA:DataW.TrodAll enc Tryz.prog W 0 (fun _=>true) true Tryz.f3.params.toList args.toList ds p:=hA0
 rw [Tryz.params3] at hA hval
 obtain ⟨v0,vs0,d0,ds0,p0,q0,hargs,rfl,rfl,h0,r0⟩:=trodAll_cons hA
 obtain ⟨v1,vs1,d1,ds1,p1,q1,rfl,rfl,rfl,h1,r1⟩:=trodAll_cons r0
 obtain ⟨rfl,rfl,rfl⟩:=trodAll_nil r1
 obtain rfl:args=#[v0,v1]:=by cases args;simp_all
 obtain ⟨rfl,rfl⟩:=trodVars_none hV
 have k0:=h0
 have lt0:∀ x∈p0,x.block<W.heap.size:=by obtain ⟨m,hm⟩:=k0;exact DataW.trod_lt m _ _ _ hm
 have k1:=h1
 have lt1:∀ x∈p1,x.block<W.heap.size:=by obtain ⟨m,hm⟩:=k1;exact DataW.trod_lt m _ _ _ hm
 obtain ⟨c0,rfl,_⟩:=okWide_struct Tryz.underlying27 (hval 0 27 v0 rfl rfl)
 obtain ⟨m0,hm0⟩:=h0
 obtain ⟨x0,f0,s0,w0⟩:=Zvy m0 _ _ _ hm0
 obtain ⟨m1,hm1⟩:=h1
 obtain ⟨x1,⟨v1',e1,f1⟩,s1,w1⟩:=(Uy.slice Kk rfl (Uy.int Tryz.underlying21)) m1 _ _ _ hm1
 have hv1:v1=v1':=Znu (hval 1 28 v1 rfl rfl) e1
 subst hv1
 have hbulk:Rows.uptoBulkAll [d0,d1]≤1048576:=of_decide_eq_true hk
 have hsz:Zo1 x0+(szL (fun _=>1)) x1≤1048576:=by simp only [Rows.uptoBulkAll] at hbulk;omega
 have hT:Ze.f x0 x1=some true:=Zs1 x0 (Ztr (by omega)) x1 (by have:=Zao (sz:=fun _:Int=>1) (fun _=>Nat.le_refl 1) x1;omega) w1
 refine ((Ze.c (St.refl W) (c0:=c0.toList) f0 f1 hT).2.mono fun e W' h=>?_)
 obtain ⟨v,rfl,rfl,hs⟩:=h
 have bel:=hs.below
 exact ⟨_,rfl,_,_,_,[],_,[],hW',trodAll_mk1 (shut_bool Tryz.underlying4 _),(trodAll_cons_mk (Below.trod Zrw (by kernel_rfl) (of_decide_eq_true (by kernel_rfl)) k0 bel lt0) (trodAll_cons_mk (Below.trod Zrw (by kernel_rfl) (of_decide_eq_true (by kernel_rfl)) k1 bel lt1) trodAll_mk0)),rfl,bel.frame _,fun h=>by cases h⟩
end RowLabelBack
set_option maxRecDepth 100000 in
theorem Zhx:joinedFacts Tryz.prog 3 Tryz.f3 (Rows.OpenSpec.upto Rows.labelBackSpec).bare Rows.labelBackUptoRow=true:=by kernel_rfl
set_option maxRecDepth 100000 in
theorem Zdy:Rows.LabelBackUptoSaid:=
 OpenClaim.holds_of_cond 3 Tryz.f3 rfl rfl rfl rfl rfl rfl rfl ⟨rfl,rfl,rfl,rfl,rfl⟩ rfl rfl rfl rfl rfl (by kernel_rfl) Tryz.func3 Zhx
  (of_decide_eq_true (by kernel_rfl)) (by unfold Func.isWrapper;first | (rw [if_pos (by decide +kernel)];kernel_rfl) | (rw [if_neg (by decide +kernel)];exact ⟨rfl,rfl⟩))
  (fun os started H enc _ F=>RowLabelBack.lifted os started H enc F)
#print axioms Zdy
end Go.Proofs.YthoicbafdanmkaaGreatDoor
/- PROVED: the tied card of posternlaw18.LabelBack (bulk at most 1048576). Own work of this repo. -/
namespace Go.Proofs.YthoicbafdanmkaaGreatDoor
open Go.ChangeShapes Go.WideShapes Go.ChangeAt
theorem labelBack_card:Rows.LabelBackUptoCardSaid:=
 Claim7.holds_tied_plain_at .later [] [.data,.pinned] true (true,"b5c56cd741947b617a96b64b9b4e1db8a6070d5cfa35c56202826c52d526a920") false Zdy (fun _ h=>by cases h) (by kernel_rfl) (fun _ h=>by cases h) labelBackUpto_row_tie rfl ⟨rfl,rfl⟩ (by kernel_rfl) rfl
  (fun f fn hf hfn=>by
   obtain rfl:f=3:=Option.some.inj ((show Tryz.prog.funcNamed "postern/posternlaw18.LabelBack"=some 3 by kernel_rfl).symm.trans hf) |>.symm
   obtain rfl:fn=Tryz.f3:=(Option.some.inj (Tryz.func3.symm.trans hfn)).symm
   exact ⟨by kernel_rfl,fun j t ht=>by
    rw [Tryz.params3] at ht
    have hm:t∈[27,28]:=by simpa using Array.mem_of_getElem? ht
    have hall:([27,28].all fun u=>!Tryz.prog.wantsStandIn u)=true:=by kernel_rfl
    exact (show Tryz.prog.wantsStandIn t=false by simpa using List.all_eq_true.1 hall t hm)⟩)
  (by kernel_rfl)
#print axioms labelBack_card
end Go.Proofs.YthoicbafdanmkaaGreatDoor
