/- Texts of this repo, merged for the claim: PureLG, PureLH, PureLK, PureLN, PureLP, PureIA, PureIB, PureIC, PureID, PureIE, PureIF, PureIG, PureLA, PureIH, PureIJ, PureIK, EngR, Reads, Few, LaidRow, RowIdnaRules, CardIdnaRules. -/
import Derived.Test.YtdkkmdeanfcfnaaGreatDoorWhole4
import Derived.Test.YtdkkmdeanfcfnaaGreatDoorWhole2
import Derived.Test.YtdkkmdeanfcfnaaGreatDoorWhole3
import Derived.Test.YtdkkmdeanfcfnaaGreatDoorWhole5
import Derived.Test.YtdkkmdeanfcfnaaGreatDoorWhole0
import Derived.Test.YtdkkmdeanfcfnaaGreatDoorRows
import Derived.ChangeArms
import Derived.Test.YtdkkmdeanfcfnaaGreatDoorWhole1
import Derived.JoinedCond
import Derived.Lay
import Derived.LaidOnce
import Derived.LaidLaws
import Derived.WalkKit
import Derived.ProofKit
import Derived.OpenShut
import Derived.ShutString
import Derived.ChangeOld
import Derived.Below
import Derived.Lib.SmallJoins
import Derived.Test.YtdkkmdeanfcfnaaGreatDoorCards
import Derived.Test.YtdkkmdeanfcfnaaGreatDoorTie
import Derived.SevenTiedAt
namespace Go.Proofs.YtdkkmdeanfcfnaaGreatDoor
section
open Go.IntKind (i8 i16 i32 i64 u8 u16 u32 u64)
open Go.RowKit

theorem Zuj (s:ByteArray) (hs:s.size<=Z2):∀ (m:Nat) (i:Int) (k:Nat),i+1<=(m:Int)->m<k->-1<=i->i<(s.size:Int)->
  ∃ r,Ye.l1 k s 45 i=some r/\((r=-1/\∀ j,0<=j->j<=i->bt s j≠45)\/(0<=r/\r<=i/\bt s r=45/\∀ j,r<j->j<=i->bt s j≠45)):=by
 have hb:=hs;unfold Z2 at hb;intro m
 induction m with
 | zero=>
  intro i k h1 h2 h3 h4;obtain ⟨k,rfl⟩:∃ q,k=q+1:=⟨k-1,by omega⟩;simp only [Ye.l1];rw [if_neg (by omega)];exact ⟨-1,rfl,.inl ⟨rfl,λj a b=>by omega⟩⟩
 | succ m ih=>
  intro i k h1 h2 h3 h4;obtain ⟨k,rfl⟩:∃ q,k=q+1:=⟨k-1,by omega⟩;simp only [Ye.l1];by_cases c:0<=i
  ·rw [if_pos c,if_pos ⟨c,h4⟩]
   by_cases d:bt s i=45
   ·rw [if_pos d]
    exact ⟨i,rfl,.inr ⟨c,Int.le_refl _,d,λj a b=>by omega⟩⟩
   ·rw [if_neg d,w64 (by omega) (by omega)]
    obtain ⟨r,q1,q2⟩:=ih (i-1) k (by omega) (by omega) (by omega) (by omega);refine ⟨r,q1,?_⟩
    rcases q2 with ⟨a1,a2⟩ | ⟨a1,a2,a3,a4⟩
    ·refine .inl ⟨a1,λj b1 b2=>?_⟩
     by_cases e:j=i
     ·rw [e];exact d
     ·exact a2 j b1 (by omega)
    ·refine .inr ⟨a1,by omega,a3,λj b1 b2=>?_⟩
     by_cases e:j=i
     ·rw [e];exact d
     ·exact a4 j b1 (by omega)
  ·rw [if_neg c]
   exact ⟨-1,rfl,.inl ⟨rfl,λj a b=>by omega⟩⟩
def Zz6 (s:ByteArray) (i al:Int):Prop:=(al=0/\∀ j,0<j->j<i->bt s j≠45)\/(0<al/\al<i/\bt s al=45/\∀ j,al<j->j<i->bt s j≠45)
theorem Zwu (s:ByteArray) (hs:s.size<=Z2):∀ (m:Nat) (i al:Int) (k:Nat),(s.size:Int)-i<=(m:Int)->m<k->0<=i->i<=(s.size:Int)->Zz6 s i al->
  ∃ al',Yl.l5 k s al i=Yl.l4 K0 s al' [] 0/\Zz6 s (s.size:Int) al':=by
 have hb:=hs;unfold Z2 at hb;intro m
 induction m with
 | zero=>
  intro i al k h1 h2 h3 h4 h5;obtain ⟨k,rfl⟩:∃ q,k=q+1:=⟨k-1,by omega⟩;obtain rfl:i=(s.size:Int):=by omega
  simp only [Yl.l5];rw [if_neg (by omega)];exact ⟨al,rfl,h5⟩
 | succ m ih=>
  intro i al k h1 h2 h3 h4 h5;obtain ⟨k,rfl⟩:∃ q,k=q+1:=⟨k-1,by omega⟩;simp only [Yl.l5,Yl.j1];by_cases c:i<(s.size:Int)
  ·rw [if_pos c,if_pos ⟨h3,c⟩,w64 (by omega) (by omega)]
   by_cases d:bt s i=45
   ·rw [if_pos d]
    refine ih (i+1) i k (by omega) (by omega) (by omega) (by omega) ?_;by_cases e:i=0
    ·exact .inl ⟨e,λj a b=>by omega⟩
    ·exact .inr ⟨by omega,by omega,d,λj a b=>by omega⟩
   ·rw [if_neg d]
    refine ih (i+1) al k (by omega) (by omega) (by omega) (by omega) ?_
    rcases h5 with ⟨a1,a2⟩ | ⟨a1,a2,a3,a4⟩
    ·refine .inl ⟨a1,λj b1 b2=>?_⟩
     by_cases e:j=i
     ·rw [e];exact d
     ·exact a2 j b1 (by omega)
    ·refine .inr ⟨a1,by omega,a3,λj b1 b2=>?_⟩
     by_cases e:j=i
     ·rw [e];exact d
     ·exact a4 j b1 (by omega)
  ·rw [if_neg c]
   obtain rfl:i=(s.size:Int):=by omega
   exact ⟨al,rfl,h5⟩
theorem Zui (s:ByteArray) (hs:s.size<=Z2):∃ r al,Ua.f s 45=some r/\Yl.f s=Yl.l4 K0 s al [] 0/\(if 0<r then al=r else al=0)/\r<(s.size:Int):=by
 have hb:=hs;unfold Z2 at hb;have hK:(K0:Int)=1180591620717411303424:=rfl;obtain ⟨r,p1,p2⟩:=Zuj s hs s.size ((s.size:Int)-1) K0 (by omega) (by omega) (by omega) (by omega);obtain ⟨al,q1,q2⟩:=Zwu s hs s.size 0 0 K0 (by omega) (by omega) (by omega) (by omega) (.inl ⟨rfl,λj a b=>by omega⟩);refine ⟨r,al,?_,q1,?_,?_⟩
 ·rw [Ua.f,Ye.f,w64 (by omega) (by omega),p1];rfl
 ·rcases p2 with ⟨a1,a2⟩ | ⟨a1,a2,a3,a4⟩
  ·rw [if_neg (by omega)]
   rcases q2 with ⟨b1,_⟩ | ⟨b1,b2,b3,_⟩
   ·exact b1
   ·exact absurd b3 (a2 al (by omega) (by omega))
  ·by_cases c:0<r
   ·rw [if_pos c]
    rcases q2 with ⟨b1,b2⟩ | ⟨b1,b2,b3,b4⟩
    ·exact absurd a3 (b2 r c (by omega))
    ·by_cases d:al<r
     ·exact absurd a3 (b4 r d (by omega))
     ·by_cases d2:r<al
      ·exact absurd b3 (a4 al d2 (by omega))
      ·omega
   ·rw [if_neg c]
    rcases q2 with ⟨b1,b2⟩ | ⟨b1,b2,b3,b4⟩
    ·exact b1
    ·exact absurd b3 (a4 al (by omega) (by omega))
 ·rcases p2 with ⟨a1,_⟩ | ⟨_,a2,_,_⟩<;>omega
def Ztr (s:ByteArray):Prop:=∀ j,0<=j->j<(s.size:Int)->bt s j<128
theorem Zla (s:ByteArray) (hs:2*s.size<=Z2) (ha:Ztr s) (al:Int) (h0:0<=al) (h1:al<=(s.size:Int)):∀ (m:Nat) (i:Nat) (k:Nat),al-i<=(m:Int)->m<k->(i:Int)<=al->
  Yl.l4 k s al ((Vh s).take i) (i:Int)=Yl.j2 s ((Vh s).take al.toNat) (if 0<al then i64.wrap (al+1) else al):=by
 have hb:=hs;unfold Z2 at hb;intro m
 induction m with
 | zero=>
  intro i k a b c;obtain ⟨k,rfl⟩:∃ q,k=q+1:=⟨k-1,by omega⟩;simp only [Yl.l4];have e:al.toNat=i:=by omega
  rw [if_neg (by omega),e];split<;>rfl
 | succ m ih=>
  intro i k a b c;obtain ⟨k,rfl⟩:∃ q,k=q+1:=⟨k-1,by omega⟩;simp only [Yl.l4];by_cases d:(i:Int)<al
  ·have hi:=ha i (by omega) (by omega)
   obtain ⟨r1,r2⟩:=Zha s i (by omega) (by omega);have wv:i32.wrap (bt s i)=bt s i:=w32 (by omega) (by omega);have hl:i<(Vh s).length:=by rw [K2];omega
   rw [if_pos d,if_pos ⟨by omega,by omega⟩,if_neg (by omega),wv,if_pos (by unfold most;simp;omega),w64 (by omega) (by omega)];have e:(Vh s).take i++[bt s i]=(Vh s).take (i+1):=by rw [List.take_add_one,List.getElem?_eq_getElem hl,Zj9];unfold rd;simp [List.getD_eq_getElem?_getD,hl]
   rw [e];have:=ih (i+1) k (by omega) (by omega) (by omega);rw [show ((i+1:Nat):Int)=(i:Int)+1 by omega] at this;exact this
  ·have e:al.toNat=i:=by omega
   rw [if_neg d,e];split<;>rfl
theorem Zv2 {xs:List Int} {x:Int} {t:List Int} (e:xs=x::t) (h0:0<=x) (h1:x<128):Y8.f xs=some (x,1):=by
 subst e;obtain ⟨k,hk⟩:∃ k,K0=k+1:=⟨1180591620717411303423,rfl⟩;rw [Y8.f,hk];simp only [Y8.l1];rw [if_pos (by simp<;>omega),if_pos ⟨by omega,by simp<;>omega⟩,show rd (x::t) 0=x from rfl,if_pos h1,w32 (by omega) (by omega)]
theorem Zt5 (xs:List Int) (hx:xs.length<=Z2) (ha:∀ x∈xs,0<=x/\x<128):Un.f xs 36 1 26 38 700 72 128 45=some (-1):=by
 rw [Un.f,Qn.f];have key:=Qf (λk i (_:Unit)=>Qn.l1 k 36 1 26 38 700 72 128 45 xs true i) xs (λ_ _ _ o=>o=some (-1)) (λ_ k=>?_) (λpre x t _ k e ih=>?_) () K0 (ltK hx)
 ·rw [key];rfl
 ·simp only [Qn.l1,if_neg (show ¬ (xs.length:Int)<(xs.length:Int) by omega)]
 ·obtain ⟨m1,m2⟩:=mid e
  obtain ⟨h0,h1⟩:=ha x (by rw [e];simp);have hs:sub xs (pre.length:Int) (xs.length:Int)=x::t:=Zjr e;have hbas:V3.f x 36 1 26 38 700 72 128 45=some false:=by rw [V3.f,Qh.f,w64 (by omega) (by omega),if_pos h1,Qh.j1,decide_eq_true h1];rfl
  simp only [Qn.l1,if_pos m2.2,if_pos (show (0:Int)<=(pre.length:Int)/\(pre.length:Int)<=(xs.length:Int)/\(xs.length:Int)<=(xs.length:Int) from ⟨by omega,by omega,by omega⟩),hs,Zv2 rfl h0 h1,Option.bind_some,hbas,nxt hx e];rw [if_neg (by decide)];exact ih ()
theorem Zt9 (s:ByteArray) (i:Nat) (h:i<s.size) (ha:bt s (i:Int)<128):Utf8.decode s i=((bt s (i:Int)).toNat,1):=by
 have e:(s.get! i).toNat=(bt s (i:Int)).toNat:=by
  have e1:((i:Nat):Int).toNat=i:=by omega
  have hd:i<s.data.size:=h;unfold bt;rw [e1]
  cases s with
  | mk d=>simp [ByteArray.get!,Array.getD_eq_getD_getElem?,show i<d.size from hd]
 have hlt:(s.get! i).toNat<128:=by rw [e];omega
 unfold Utf8.decode;simp only [Nat.add_zero];rw [if_pos hlt,e]
theorem Zld (s:ByteArray) (ha:Ztr s):∀ (b i:Nat) (acc:Array Value),s.size<=b+i->(Conv.runesFrom s b i acc).toList=acc.toList++((Vh s).drop i).map (Value.int .i32)
 | 0,i,acc,h=>by
  rw [Conv.runesFrom,List.drop_of_length_le (by rw [K2];omega)];simp
 | b+1,i,acc,h=>by
  unfold Conv.runesFrom
  by_cases c:i<s.size
  ·have hi:=ha i (by omega) (by omega)
   obtain ⟨r1,r2⟩:=Zha s i (by omega) (by omega)
   have hl:i<(Vh s).length:=by rw [K2];exact c
   rw [if_pos c,Zt9 s i c hi]
   simp only
   rw [Zld s ha b (i+1) _ (by omega),List.drop_eq_getElem_cons hl]
   have e:(Vh s)[i]=bt s (i:Int):=by
    rw [Zj9];unfold rd;simp [List.getD_eq_getElem?_getD,hl]
   rw [e,Array.toList_push,List.map_cons,List.append_assoc]
   have e2:(Int.ofNat (bt s (i:Int)).toNat)=bt s (i:Int):=by
    show (((bt s (i:Int)).toNat:Nat):Int)=_
    omega
   rw [e2];rfl
  ·rw [if_neg c,List.drop_of_length_le (by rw [K2];omega)];simp
theorem Zop (s:ByteArray) (ha:Ztr s):Zav s=Vh s:=by
 have h:=Zio s;rw [Zld s ha s.size 0 #[] (by omega)] at h;simp only [List.nil_append,List.drop_zero] at h;have hinj:∀ (a b:List Int),a.map (Value.int .i32)=b.map (Value.int .i32)->a=b:=by
  intro a
  induction a with
  | nil=>intro b h;cases b with | nil=>rfl | cons _ _=>simp at h
  | cons x a ih=>
   intro b h
   cases b with
   | nil=>simp at h
   | cons y b=>simp at h;rw [h.1,ih b (by simpa using h.2)]
 exact (hinj _ _ h).symm
theorem Zgn (s:ByteArray) (n:Nat):Vh (s.extract 0 n)=(Vh s).take n:=by
 simp [Vh,ByteArray.extract,ByteArray.copySlice,List.map_take]
theorem Zq5 (s:ByteArray) (hs:2*s.size<=Z2) (ha:Ztr s):∃ l a e,Xk.f pU s=some (l,a,e)/\Yl.f s=some (l,a,e)/\(l.length:Int)<=(s.size:Int)+1:=by
 have hb:=hs;unfold Z2 at hb;have hK:(K0:Int)=1180591620717411303424:=rfl;obtain ⟨r,al,p1,p2,p3,p4⟩:=Zui s (by unfold Z2;omega);by_cases c:0<r
 ·rw [if_pos c] at p3
  subst p3;have hpre:=Zla s hs ha al (by omega) (by omega) s.size 0 K0 (by omega) (by omega) (by omega);rw [if_pos c,w64 (by omega) (by omega)] at hpre;have hlen:((Vh s).take al.toNat).length=al.toNat:=by rw [List.length_take,K2];omega
  obtain ⟨l,a,e,q1,q2,q3⟩:=Zs9 s hs (s.size+1) ((Vh s).take al.toNat) (al+1) 128 0 72 K0 (by omega) (by omega) (by omega) (by rw [hlen];omega) (by omega) (by omega) (by omega) (by omega) (by omega) (by omega);refine ⟨l,a,e,?_,?_,q3⟩
  ·have hx:∀ x∈Vh (s.extract 0 al.toNat),0<=x/\x<128:=by
    intro x hx;rw [Zgn] at hx;obtain ⟨j,hj0,hj2⟩:=List.getElem_of_mem (List.mem_of_mem_take hx);have hj:j<s.size:=by rw [<- K2];exact hj0
    have h1:=ha j (by omega) (by omega);obtain ⟨h2,_⟩:=Zha s j (by omega) (by omega);have e1:bt s (j:Int)=x:=by rw [Zj9,<- hj2];unfold rd;simp [List.getD_eq_getElem?_getD,hj0]
    rw [e1] at h1 h2;exact ⟨h2,h1⟩
   have hsz:(s.extract 0 al.toNat).size=al.toNat:=by rw [<- K2,Zgn,hlen]
   have hasc:Ztr (s.extract 0 al.toNat):=λj j0 j1=>by
    rw [Zj9]
    exact (hx _ (Zim j0 (by rw [K2];exact j1))).2
   have z:((0:Int)).toNat=0:=rfl
   simp only [Xk.f,p1,Option.bind_some,if_pos c,z]
   rw [if_pos ⟨by omega,by omega,by omega⟩,Zt5 _ (by rw [K2,hsz];unfold Z2;omega) hx,Option.bind_some,if_neg (by omega),Zop _ hasc,Zgn,if_pos (by rw [hlen];unfold most;omega),Xk.j1,w64 (by omega) (by omega)]
   exact q1
  ·rw [p2]
   exact hpre.trans q2
 ·rw [if_neg c] at p3
  subst p3;have hpre:=Zla s hs ha 0 (by omega) (by omega) s.size 0 K0 (by omega) (by omega) (by omega);rw [if_neg (by omega)] at hpre;obtain ⟨l,a,e,q1,q2,q3⟩:=Zs9 s hs (s.size+1) [] 0 128 0 72 K0 (by omega) (by omega) (by omega) (by simp) (by omega) (by omega) (by omega) (by omega) (by simp) (by omega);refine ⟨l,a,e,?_,?_,q3⟩
  ·simp only [Xk.f,p1,Option.bind_some,if_neg c,Xk.j1]
   exact q1
  ·rw [p2]
   exact hpre.trans q2
end
section
open Go.IntKind (i8 i16 i32 i64 u8 u16 u32 u64)
open Go.RowKit

def dig (d:Int):Int:=if d<26 then 97+d else 22+d
def Ze5 (k b:Int):Int:=(Hb.f k b).getD 0
theorem Zth (k b:Int):Hb.f k b=some (Ze5 k b)/\1<=Ze5 k b/\Ze5 k b<=26:=by
 obtain ⟨t,h1,h2,h3⟩:=Zti k b;rw [Ze5,h1];exact ⟨rfl,h2,h3⟩
theorem Zq6 {d:Int} (h0:0<=d) (h1:d<36):Zcl.f d=some (dig d)/\0<=dig d/\dig d<128:=by
 unfold Zcl.f dig;by_cases c:d<26
 ·rw [if_pos c,if_pos c,w64 (by omega) (by omega),Zhz (by omega) (by omega)]
  exact ⟨rfl,by omega,by omega⟩
 ·rw [if_neg c,if_neg c,w64 (x:=48+d) (by omega) (by omega),w64 (by omega) (by omega),Zhz (by omega) (by omega)]
  exact ⟨by congr 1;omega,by omega,by omega⟩
def Zfb:Nat->Int->Int->Int->List Int
 | 0,q,_,_=>[dig q]
 | f+1,q,k,b=>if q<Ze5 k b then [dig q] else dig (Ze5 k b+(q-Ze5 k b)%(36-Ze5 k b))::Zfb f ((q-Ze5 k b)/(36-Ze5 k b)) (k+36) b
theorem Zh8 (a5:List Int->Int->Int->Int->Int->Option (ByteArray×Int×Int)) (aa:List Int) (bias af ac ap:Int):∀ (L:Nat) (q kk:Int) (acc an:List Int) (k:Nat),L<k->0<=q->q<10^L->q<=2147483647->0<=kk->kk+36*L<=4294967296->acc.length+L+1<=most->an.length+L+1<=most->
  ((Zfb L q kk bias).length<=L+1/\∀ c∈Zfb L q kk bias,0<=c/\c<128)/\Q0.l1 k pU bias acc q kk=some (acc++Zfb L q kk bias)/\Z3.l1 a5 k aa bias af ac ap an q kk=((Ku.f ap (i64.wrap (af+1)) (decide (af=(aa.length:Int)))).bind λb6=>(Z3.j4 a5 ac (an++Zfb L q kk bias) 0 b6 (i64.wrap (af+1)))):=by
 intro L
 induction L with
 | zero=>
  intro q kk acc an k h1 h2 h3 h4 h5 h6 h7 h8;obtain ⟨k,rfl⟩:∃ j,k=j+1:=⟨k-1,by omega⟩;obtain ⟨t1,t2,t3⟩:=Zth kk bias;have hq:q<Ze5 kk bias:=by simp at h3;omega
  obtain ⟨hc,c1,c2⟩:=Zq6 (d:=q) h2 (by omega);refine ⟨⟨by simp [Zfb],λc hm=>?_⟩,?_,?_⟩
  ·simp only [Zfb,List.mem_singleton] at hm;subst hm;exact ⟨c1,c2⟩
  ·simp only [Q0.l1,Zox,t1,Option.bind_some,if_pos hq,Zih,hc,Zfb]
   rw [if_pos (by simp;omega)]
  ·simp only [Z3.l1,t1,Option.bind_some,if_pos hq,hc,Zfb]
   rw [if_pos (by simp;omega)]
 | succ L ih=>
  intro q kk acc an k h1 h2 h3 h4 h5 h6 h7 h8;obtain ⟨k,rfl⟩:∃ j,k=j+1:=⟨k-1,by omega⟩;obtain ⟨t1,t2,t3⟩:=Zth kk bias;by_cases hq:q<Ze5 kk bias
  ·obtain ⟨hc,c1,c2⟩:=Zq6 (d:=q) h2 (by omega)
   have ed:Zfb (L+1) q kk bias=[dig q]:=by rw [Zfb,if_pos hq]
   rw [ed];refine ⟨⟨by simp,λc hm=>?_⟩,?_,?_⟩
   ·simp only [List.mem_singleton] at hm;subst hm;exact ⟨c1,c2⟩
   ·simp only [Q0.l1,Zox,t1,Option.bind_some,if_pos hq,Zih,hc]
    rw [if_pos (by simp;omega)]
   ·simp only [Z3.l1,t1,Option.bind_some,if_pos hq,hc]
    rw [if_pos (by simp;omega)]
  ·have ed:Zfb (L+1) q kk bias=dig (Ze5 kk bias+(q-Ze5 kk bias)%(36-Ze5 kk bias))::Zfb L ((q-Ze5 kk bias)/(36-Ze5 kk bias)) (kk+36) bias:=by rw [Zfb,if_neg hq]
   rw [ed];revert hq t1 t2 t3;generalize Ze5 kk bias=t;intro t1 t2 t3 hq;have w1:i64.wrap (36-t)=36-t:=w64 (by omega) (by omega);have w2:i64.wrap (q-t)=q-t:=w64 (by omega) (by omega);have e1:(q-t).tdiv (36-t)=(q-t)/(36-t):=Int.tdiv_eq_ediv_of_nonneg (by omega);have e2:(q-t).tmod (36-t)=(q-t)%(36-t):=Int.tmod_eq_emod_of_nonneg (by omega);have m0:0<=(q-t)%(36-t):=Int.emod_nonneg _ (by omega);have m1:(q-t)%(36-t)<36-t:=Int.emod_lt_of_pos _ (by omega);have d0:0<=(q-t)/(36-t):=Int.ediv_nonneg (by omega) (by omega);have d1:(q-t)/(36-t)<=q-t:=Int.ediv_le_self _ (by omega);have d2:(q-t)/(36-t)<10^L:=by apply Int.ediv_lt_of_lt_mul (by omega);have p0:(0:Int)<10^L:=Int.pow_pos (by omega);have p1:(10:Int)^(L+1)=10^L*10:=Int.pow_succ 10 L;have p2:(10:Int)^L*10<=10^L*(36-t):=Int.mul_le_mul_of_nonneg_left (by omega) (by omega);omega
   have w3:i64.wrap ((q-t)/(36-t))=(q-t)/(36-t):=w64 (by omega) (by omega);have w4:i64.wrap (kk+36)=kk+36:=w64 (by omega) (by omega);have w5:i64.wrap (t+(q-t)%(36-t))=t+(q-t)%(36-t):=w64 (by omega) (by omega);obtain ⟨hc,c1,c2⟩:=Zq6 (d:=t+(q-t)%(36-t)) (by omega) (by omega);obtain ⟨⟨i0,i1⟩,i2,i3⟩:=ih ((q-t)/(36-t)) (kk+36) (acc++[dig (t+(q-t)%(36-t))]) (an++[dig (t+(q-t)%(36-t))]) k (by omega) d0 d2 (by omega) (by omega) (by omega) (by simp;omega) (by simp;omega);refine ⟨⟨by simp;omega,λc hm=>?_⟩,?_,?_⟩
   ·rcases List.mem_cons.1 hm with rfl | hm
    ·exact ⟨c1,c2⟩
    ·exact i1 c hm
   ·simp only [Q0.l1,Zox,t1,Option.bind_some,if_neg hq,w1,w2,e2,w5,Zih,hc,e1,w3,w4]
    rw [if_pos (by omega),if_pos (by simp;omega),i2];simp
   ·simp only [Z3.l1,t1,Option.bind_some,if_neg hq,w1,w2,e2,w5,hc,e1,w3,w4]
    rw [if_pos (by omega),if_pos (by simp;omega),i3];simp
def scB (p:Int):Bool:=(Vc.f p).getD false
theorem Zr3 (p:Int):Vc.f p=some (scB p):=by
 obtain ⟨b,hb⟩:=Zqk p;rw [scB,hb];rfl
theorem Zwo (l:List Int) (hl:l.length<=Z2) (hr:∀ x∈l,-2147483648<=x/\x<=2147483647):Yq.f l 36 1 26 38 700 72 128 45=some (-1):=by
 rw [Yq.f];have key:=Zhh (λk i=>Yq.l1 k 36 1 26 38 700 72 128 45 l i) l (λ_=>false) hl (λk=>?_) (λk pre x t e=>?_)
 ·rw [key]
  have:∀ (m:List Int) (n:Nat),fIx (λ_=>false) m n=-1:=by
   intro m
   induction m with
   | nil=>intro n;rfl
   | cons y m ih=>intro n;rw [fIx,if_neg (by decide),ih]
  rw [this]
 ·simp only [Yq.l1,if_neg (show ¬ (l.length:Int)<(l.length:Int) by omega)]
 ·obtain ⟨m1,m2⟩:=mid e
  obtain ⟨x0,x1⟩:=hr x (by rw [e];simp);have hx:Qr.f x 36 1 26 38 700 72 128 45=some false:=by simp only [Qr.f,Qr.j1,Qh.f,Qh.j1,w64 (x:=x) (by omega) (by omega)];by_cases c:x<128<;>simp [c]
  simp only [Yq.l1,if_pos m2.2,if_pos m2,m1,hx,Option.bind_some,nxt hl e]
theorem Zuv (l:List Int) (hl:l.length<=Z2) (hr:∀ x∈l,-2147483648<=x/\x<=2147483647):Ql.f pU l=some (if fIx (λp=>!scB p) l 0=-1 then (0,0) else (fIx (λp=>!scB p) l 0,20)):=by
 rw [Ql.f];refine Qf (λk i (_:Unit)=>Ql.l1 k pU l i) l (λpre t _ o=>o=some (if fIx (λp=>!scB p) t pre.length=-1 then (0,0) else (fIx (λp=>!scB p) t pre.length,20))) (λ_ k=>?_) (λpre x t _ k e ih=>?_) () K0 (ltK hl)
 ·simp only [Ql.l1,if_neg (show ¬ (l.length:Int)<(l.length:Int) by omega),Zwo l hl hr,Option.bind_some,fIx]
  rfl
 ·obtain ⟨m1,m2⟩:=mid e
  have h2:=ih ();simp only [List.length_append,List.length_cons,List.length_nil,Nat.zero_add] at h2;simp only [Ql.l1,if_pos m2.2,if_pos m2,m1,Zoq,Zr3,Option.bind_some,nxt hl e];by_cases c:(!scB x)=true
  ·have ef:fIx (λp=>!scB p) (x::t) pre.length=(pre.length:Int):=by rw [fIx,if_pos c]
   rw [if_pos c,ef,if_neg (by omega)]
  ·have ef:fIx (λp=>!scB p) (x::t) pre.length=fIx (λp=>!scB p) t (pre.length+1):=by rw [fIx,if_neg c]
   rw [if_neg c,h2,ef]
def Zb3 (n m r:Int):Int:=if n<=r then min m r else m
theorem Zzf (l:List Int) (n:Int) (hl:l.length<=Z2) (hr:∀ x∈l,-2147483648<=x/\x<=2147483647):Vl.f l n=some (l.foldl (Zb3 n) 1114111):=by
 rw [Vl.f];refine Qf (λk i s=>Vl.l1 k l n s i) l (λ_ t s o=>o=some (t.foldl (Zb3 n) s)) (λs k=>?_) (λpre x t s k e ih=>?_) 1114111 K0 (ltK hl)
 ·simp only [Vl.l1,if_neg (show ¬ (l.length:Int)<(l.length:Int) by omega)];rfl
 ·obtain ⟨m1,m2⟩:=mid e
  obtain ⟨x0,x1⟩:=hr x (by rw [e];simp);simp only [Vl.l1,if_pos m2.2,if_pos m2,m1,w64 (x:=x) (by omega) (by omega),Vl.j1,nxt hl e,List.foldl_cons];by_cases c:n<=x
  ·rw [if_pos c,ih,Zb3,if_pos c]
  ·rw [if_neg c,ih,Zb3,if_neg c]
theorem Zkr (n:Int):∀ (l:List Int) (a:Int),(l.foldl (Zb3 n) a<=a)/\(∀ x∈l,n<=x->l.foldl (Zb3 n) a<=x)/\(l.foldl (Zb3 n) a=a\/∃ x∈l,n<=x/\l.foldl (Zb3 n) a=x)
 | [],a=>⟨Int.le_refl _,(λ_ h=>by cases h),.inl rfl⟩
 | y::l,a=>by
  obtain ⟨h1,h2,h3⟩:=Zkr n l (Zb3 n a y)
  have g:Zb3 n a y<=a/\(n<=y->Zb3 n a y<=y)/\(Zb3 n a y=a\/(n<=y/\Zb3 n a y=y)):=by
   unfold Zb3;split<;>omega
  rw [List.foldl_cons]
  refine ⟨by omega,λx hx hn=>?_,?_⟩
  ·rcases List.mem_cons.1 hx with rfl | hx
   ·have:=g.2.1 hn;omega
   ·exact h2 x hx hn
  ·rcases h3 with h3 | ⟨x,hx,hn,h3⟩
   ·rcases g.2.2 with h4 | ⟨h4,h5⟩
    ·exact .inl (by omega)
    ·exact .inr ⟨y,by simp,h4,by omega⟩
   ·exact .inr ⟨x,by simp [hx],hn,h3⟩
theorem Zxp (a6:List Int->Int->Int->Int->Int->Option (ByteArray×Int×Int)) (l aa ad:List Int) (ao ak al ah:Int) (hl:l.length<=Z2) (hr:∀ x∈l,-2147483648<=x/\x<=2147483647):
  Z3.l3 a6 K0 l aa ad ao ak al ah 1114112 0=(if 2147483647<(i64.wrap (ak+(i64.wrap ((i64.wrap ((l.foldl (Zb3 ao) 1114112)-ao))*(i64.wrap (ah+1)))))) then (some ((⟨#[]⟩:ByteArray),0,142)) else (Z3.l2 a6 K0 l aa (l.foldl (Zb3 ao) 1114112) ad (i64.wrap (ak+(i64.wrap ((i64.wrap ((l.foldl (Zb3 ao) 1114112)-ao))*(i64.wrap (ah+1)))))) al ah 0)):=by
 refine Qf (λk i s=>Z3.l3 a6 k l aa ad ao ak al ah s i) l (λ_ t s o=>o=(if 2147483647<(i64.wrap (ak+(i64.wrap ((i64.wrap ((t.foldl (Zb3 ao) s)-ao))*(i64.wrap (ah+1)))))) then (some ((⟨#[]⟩:ByteArray),0,142)) else (Z3.l2 a6 K0 l aa (t.foldl (Zb3 ao) s) ad (i64.wrap (ak+(i64.wrap ((i64.wrap ((t.foldl (Zb3 ao) s)-ao))*(i64.wrap (ah+1)))))) al ah 0))) (λs k=>?_) (λpre x t s k e ih=>?_) 1114112 K0 (ltK hl)
 ·simp only [Z3.l3,if_neg (show ¬ (l.length:Int)<(l.length:Int) by omega),List.foldl_nil];rfl
 ·obtain ⟨m1,m2⟩:=mid e
  obtain ⟨x0,x1⟩:=hr x (by rw [e];simp);have wx:i64.wrap x=x:=w64 (by omega) (by omega);have g:(if ao<=x then Z3.j3 (Z3.l3 a6 k l aa ad ao ak al ah) l s (pre.length:Int) (decide (x<s)) else Z3.j3 (Z3.l3 a6 k l aa ad ao ak al ah) l s (pre.length:Int) false)=Z3.l3 a6 k l aa ad ao ak al ah (Zb3 ao s x) ((pre.length:Int)+1):=by
   simp only [Z3.j3,Z3.j2,m1,wx,nxt hl e,Zb3];by_cases c:ao<=x
   ·rw [if_pos c,if_pos c]
    by_cases d:x<s
    ·rw [decide_eq_true d,if_pos rfl,show min s x=x by omega]
    ·rw [decide_eq_false d,if_neg (by decide),show min s x=s by omega]
   ·rw [if_neg c,if_neg c,if_neg (by decide)]
  simp only [Z3.l3,if_pos m2.2,if_pos m2,m1,wx];rw [g,List.foldl_cons];exact ih _
end
section
open Go.IntKind (i8 i16 i32 i64 u8 u16 u32 u64)
open Go.RowKit

abbrev SE:=List Int×Int×Int×Int
def adI (d p:Int) (f:Bool):Int:=(Ku.f d p f).getD 0
theorem Zvq (d p:Int) (f:Bool) (h0:0<=d) (h1:d<=2147483648) (hp:1<=p):Ku.f d p f=some (adI d p f):=by
 obtain ⟨r,hr⟩:=Zmb d p f h0 h1 hp;rw [adI,hr];rfl
def Zgf (b0 m:Int) (s:SE) (x:Int):Option SE:=
 if x<m then (if 2147483647<s.2.1+1 then none else some (s.1,s.2.1+1,s.2.2.1,s.2.2.2))
 else if x=m then some (s.1++Zfb 10 s.2.1 36 s.2.2.1,0,adI s.2.1 (s.2.2.2+1) (decide (s.2.2.2=b0)),s.2.2.2+1) else some s
def Zee (b0 m:Int):List Int->SE->Option SE
 | [],s=>some s
 | x::t,s=>(Zgf b0 m s x).bind (Zee b0 m t)
structure OkE (H:Int) (s:SE):Prop where
 d0:0<=s.2.1
 d1:s.2.1<=2147483647
 h0:0<=s.2.2.2
 h1:s.2.2.2<=H
 len:(s.1.length:Int)<=12*s.2.2.2+1
 asc:∀ c∈s.1,0<=c/\c<128
def Znw:Option (ByteArray×Int×Int):=some ((⟨#[]⟩:ByteArray),0,142)
theorem Zsm (q b:Int) (h0:0<=q) (h1:q<=2147483647):(Zfb 10 q 36 b).length<=11/\∀ c∈Zfb 10 q 36 b,0<=c/\c<128:=
 (Zh8 (λ_ _ _ _ _=>none) [] b 0 0 0 10 q 36 [] [] 11 (by omega) h0 (by omega) h1 (by omega) (by omega) (by unfold most;simp) (by unfold most;simp)).1
theorem Zli {b0 m H:Int} {s s':SE} {x:Int} (hs:OkE H s) (e:Zgf b0 m s x=some s'):OkE (H+1) s'/\s'.2.2.2=s.2.2.2+(if x=m then 1 else 0):=by
 obtain ⟨d0,d1,h0,h1,len,asc⟩:=hs;unfold Zgf at e;by_cases c:x<m
 ·rw [if_pos c] at e
  by_cases c2:2147483647<s.2.1+1
  ·rw [if_pos c2] at e;cases e
  ·rw [if_neg c2] at e
   obtain rfl:=Option.some.inj e;refine ⟨⟨by simp only;omega,by simp only;omega,h0,by simp only;omega,len,asc⟩,?_⟩;rw [if_neg (by omega)];simp
 ·rw [if_neg c] at e
  by_cases c2:x=m
  ·rw [if_pos c2] at e
   obtain rfl:=Option.some.inj e;obtain ⟨g1,g2⟩:=Zsm s.2.1 s.2.2.1 d0 d1;refine ⟨⟨Int.le_refl 0,by simp only;omega,by simp only;omega,by simp only;omega,?_,λc hc=>?_⟩,by rw [if_pos c2]⟩
   ·simp only [List.length_append];omega
   ·rcases List.mem_append.1 hc with hc | hc
    ·exact asc c hc
    ·exact g2 c hc
  ·rw [if_neg c2] at e
   obtain rfl:=Option.some.inj e;exact ⟨⟨d0,d1,h0,by omega,len,asc⟩,by rw [if_neg c2];simp⟩
theorem Zuz (bi:List Int->Int->Int->Int->Int->Option (ByteArray×Int×Int)) (L aa:List Int) (m:Int) (k:Nat) {pre t:List Int} {x:Int} (e:L=pre++x::t) (hl:L.length<=Z2) (hr:-2147483648<=x/\x<=2147483647) {H:Int} (s:SE) (hs:OkE H s) (hH:H<=36800000000):
  Zi.l1 bi (k+1) pU L aa m s.1 s.2.1 s.2.2.1 s.2.2.2 (pre.length:Int)=match Zgf (aa.length:Int) m s x with | none=>Znw | some s'=>Zi.l1 bi k pU L aa m s'.1 s'.2.1 s'.2.2.1 s'.2.2.2 ((pre.length:Int)+1):=by
 obtain ⟨d0,d1,h0,h1,len,asc⟩:=hs;obtain ⟨m1,m2⟩:=mid e;have wx:i64.wrap x=x:=w64 (by omega) (by omega);have wd:i64.wrap (s.2.1+1)=s.2.1+1:=w64 (by omega) (by omega);have wh:i64.wrap (s.2.2.2+1)=s.2.2.2+1:=w64 (by omega) (by omega);simp only [Zi.l1,if_pos m2.2,if_pos m2,m1,wx,wd,Zi.j3,nxt hl e,Zgf];by_cases c:x<m
 ·rw [if_pos c,if_pos c]
  by_cases c2:2147483647<s.2.1+1
  ·rw [if_pos c2,if_pos c2];rfl
  ·rw [if_neg c2,if_neg c2]
 ·rw [if_neg c,if_neg c]
  by_cases c2:x=m
  ·obtain ⟨_,g2,_⟩:=Zh8 (λ_ _ _ _ _=>none) [] s.2.2.1 0 0 0 10 s.2.1 36 [] [] K0 (by unfold K0;omega) d0 (by omega) d1 (by omega) (by omega) (by unfold most;simp) (by unfold most;simp)
   obtain ⟨g3,_⟩:=Zsm s.2.1 s.2.2.1 d0 d1;rw [if_pos c2,if_pos c2,Q0.f,g2,List.nil_append,Option.bind_some,if_pos (by unfold most;omega),wh,Zpe,Zvq _ _ _ d0 (by omega) (by omega),Option.bind_some,if_neg (by decide)]
  ·rw [if_neg c2,if_neg c2,if_neg (by omega)]
theorem Zxr (a6:List Int->Int->Int->Int->Int->Option (ByteArray×Int×Int)) (L aa:List Int) (m:Int) (k:Nat) {pre t:List Int} {x:Int} (e:L=pre++x::t) (hl:L.length<=Z2) (hr:-2147483648<=x/\x<=2147483647) {H:Int} (s:SE) (hs:OkE H s) (hH:H<=36800000000):
  Z3.l2 a6 (k+1) L aa m s.1 s.2.1 s.2.2.1 s.2.2.2 (pre.length:Int)=match Zgf (aa.length:Int) m s x with | none=>Znw | some s'=>Z3.l2 a6 k L aa m s'.1 s'.2.1 s'.2.2.1 s'.2.2.2 ((pre.length:Int)+1):=by
 obtain ⟨d0,d1,h0,h1,len,asc⟩:=hs;obtain ⟨m1,m2⟩:=mid e;have wx:i64.wrap x=x:=w64 (by omega) (by omega);have wd:i64.wrap (s.2.1+1)=s.2.1+1:=w64 (by omega) (by omega);have wh:i64.wrap (s.2.2.2+1)=s.2.2.2+1:=w64 (by omega) (by omega);simp only [Z3.l2,if_pos m2.2,if_pos m2,m1,wx,wd,Z3.j5,Zgf];by_cases c:x<m
 ·rw [if_pos c,if_pos c]
  by_cases c2:2147483647<s.2.1+1
  ·rw [if_pos c2,if_pos c2];rfl
  ·rw [if_neg c2,if_neg c2,if_pos (by omega)]
   simp only [Z3.j4,nxt hl e]
 ·rw [if_neg c,if_neg c]
  by_cases c2:x=m
  ·obtain ⟨_,_,g2⟩:=Zh8 (Z3.l2 a6 k L aa m) aa s.2.2.1 s.2.2.2 (pre.length:Int) s.2.1 10 s.2.1 36 [] s.1 K0 (by unfold K0;omega) d0 (by omega) d1 (by omega) (by omega) (by unfold most;simp) (by unfold most;omega)
   rw [if_neg (by omega),if_pos c2,g2,wh,Zvq _ _ _ d0 (by omega) (by omega),Option.bind_some];simp only [Z3.j4,nxt hl e]
  ·rw [if_pos (by omega),if_neg c2]
   simp only [Z3.j4,nxt hl e]
def Zy0 (bi:List Int->Int->Int->Int->Int->Option (ByteArray×Int×Int)) (n m:Int):Option SE->Option (ByteArray×Int×Int)
 | none=>Znw
 | some s=>(if s.2.2.2=n then Zi.j2 pU s.1 else if 2147483647<s.2.1+1 then Znw else bi s.1 (i64.wrap (m+1)) (s.2.1+1) s.2.2.1 s.2.2.2)
def Zy1 (a6:List Int->Int->Int->Int->Int->Option (ByteArray×Int×Int)) (m:Int):Option SE->Option (ByteArray×Int×Int)
 | none=>Znw
 | some s=>a6 s.1 (i64.wrap (m+1)) (s.2.1+1) s.2.2.1 s.2.2.2
theorem Zuy (bi:List Int->Int->Int->Int->Int->Option (ByteArray×Int×Int)) (L aa:List Int) (m:Int) (hl:2*L.length<=36800000000) (hr:∀ x∈L,-2147483648<=x/\x<=2147483647) (s:SE) (hs:OkE (L.length:Int) s):
  Zi.l1 bi K0 pU L aa m s.1 s.2.1 s.2.2.1 s.2.2.2 0=Zy0 bi (L.length:Int) m (Zee (aa.length:Int) m L s):=by
 have hb:L.length<=Z2:=by unfold Z2;omega
 refine (λkey=>key (by simpa using hs)) (Qf (σ:=SE) (β:=ByteArray×Int×Int) (λk i s=>Zi.l1 bi k pU L aa m s.1 s.2.1 s.2.2.1 s.2.2.2 i) L (λpre t s o=>OkE ((L.length:Int)+pre.length) s->o=Zy0 bi (L.length:Int) m (Zee (aa.length:Int) m t s)) ?_ ?_ s K0 (ltK hb))
 ·intro s k h
  have wd:i64.wrap (s.2.1+1)=s.2.1+1:=w64 (by have:=h.d0;omega) (by have:=h.d1;omega);simp only [Zi.l1,if_neg (show ¬ (L.length:Int)<(L.length:Int) by omega),Zee,wd,Zy0];rfl
 ·intro pre x t s k e ih h
  have hle:L.length=pre.length+(t.length+1):=by rw [e];simp
  show Zi.l1 bi (k+1) pU L aa m s.1 s.2.1 s.2.2.1 s.2.2.2 (pre.length:Int)=_;rw [Zuz bi L aa m k e hb (hr x (by rw [e];simp)) s h (by omega),Zee]
  cases hst:Zgf (aa.length:Int) m s x with
  | none=>rfl
  | some s'=>
   obtain ⟨k1,_⟩:=Zli h hst;rw [Option.bind_some];refine ih s' ?_;rw [List.length_append];simpa [Int.add_assoc] using k1
theorem Zxq (a6:List Int->Int->Int->Int->Int->Option (ByteArray×Int×Int)) (L aa:List Int) (m:Int) (hl:2*L.length<=36800000000) (hr:∀ x∈L,-2147483648<=x/\x<=2147483647) (s:SE) (hs:OkE (L.length:Int) s):
  Z3.l2 a6 K0 L aa m s.1 s.2.1 s.2.2.1 s.2.2.2 0=Zy1 a6 m (Zee (aa.length:Int) m L s):=by
 have hb:L.length<=Z2:=by unfold Z2;omega
 refine (λkey=>key (by simpa using hs)) (Qf (σ:=SE) (β:=ByteArray×Int×Int) (λk i s=>Z3.l2 a6 k L aa m s.1 s.2.1 s.2.2.1 s.2.2.2 i) L (λpre t s o=>OkE ((L.length:Int)+pre.length) s->o=Zy1 a6 m (Zee (aa.length:Int) m t s)) ?_ ?_ s K0 (ltK hb))
 ·intro s k h
  have wd:i64.wrap (s.2.1+1)=s.2.1+1:=w64 (by have:=h.d0;omega) (by have:=h.d1;omega);simp only [Z3.l2,if_neg (show ¬ (L.length:Int)<(L.length:Int) by omega),Zee,wd,Zy1]
 ·intro pre x t s k e ih h
  have hle:L.length=pre.length+(t.length+1):=by rw [e];simp
  show Z3.l2 a6 (k+1) L aa m s.1 s.2.1 s.2.2.1 s.2.2.2 (pre.length:Int)=_;rw [Zxr a6 L aa m k e hb (hr x (by rw [e];simp)) s h (by omega),Zee]
  cases hst:Zgf (aa.length:Int) m s x with
  | none=>rfl
  | some s'=>
   obtain ⟨k1,_⟩:=Zli h hst;rw [Option.bind_some];refine ih s' ?_;rw [List.length_append];simpa [Int.add_assoc] using k1
theorem Zqd {b0 m:Int}:∀ (t:List Int) {H:Int} {s s':SE},OkE H s->Zee b0 m t s=some s'->OkE (H+t.length) s'/\s'.2.2.2=s.2.2.2+(t.countP (λx=>decide (x=m)):Int)
 | [],H,s,s',hs,e=>by
  obtain rfl:=Option.some.inj e
  exact ⟨by simpa using hs,by simp⟩
 | x::t,H,s,s',hs,e=>by
  rw [Zee] at e
  cases hst:Zgf b0 m s x with
  | none=>rw [hst] at e;cases e
  | some s1=>
   rw [hst,Option.bind_some] at e
   obtain ⟨h1,h2⟩:=Zli hs hst
   obtain ⟨h3,h4⟩:=Zqd t h1 e
   refine ⟨?_,?_⟩
   ·rw [List.length_cons]
    have:H+((t.length+1:Nat):Int)=H+1+t.length:=by omega
    rw [this];exact h3
   ·rw [h4,h2,List.countP_cons]
    by_cases c:x=m<;>simp [c]<;>omega
def Zeb (n:Int) (L:List Int):Int:=(L.countP (λx=>decide (x<n)):Int)
theorem Zkm (n:Int) (L:List Int):Zeb n L<=(L.length:Int):=by
 have:=List.countP_le_length (p:=λx=>decide (x<n)) (l:=L);unfold Zeb;omega
theorem Zkn {n m:Int} (hn:n<=m):∀ (L:List Int),(∀ x∈L,n<=x->m<=x)->Zeb (m+1) L=Zeb n L+(L.countP (λx=>decide (x=m)):Int)
 | [],_=>rfl
 | y::L,h=>by
  have ih:=Zkn hn L (λx hx=>h x (by simp [hx]))
  have hy:=h y (by simp)
  unfold Zeb at ih ⊢
  simp only [List.countP_cons,decide_eq_true_eq]
  by_cases c:y<n
  ·rw [if_pos (by omega),if_pos c,if_neg (by omega)];omega
  ·have:=hy (by omega)
   by_cases c2:y=m
   ·rw [if_pos (by omega),if_neg c,if_pos c2];omega
   ·rw [if_neg (by omega),if_neg c,if_neg c2];omega
theorem Zuk {n:Int} {L:List Int} (h:Zeb n L<(L.length:Int)):∃ x∈L,n<=x:=by
 apply Classical.byContradiction;intro hc;have:L.countP (λx=>decide (x<n))=L.length:=List.countP_eq_length.2 λx hx=>by
  simp only [decide_eq_true_eq];apply Classical.byContradiction;intro hx2;exact hc ⟨x,hx,by omega⟩
 unfold Zeb at h;omega
theorem Zw2 {n:Int} {L:List Int} (hr:∀ x∈L,x<=1114111) (h:Zeb n L<(L.length:Int)):L.foldl (Zb3 n) 1114112=L.foldl (Zb3 n) 1114111/\L.foldl (Zb3 n) 1114111∈L/\n<=L.foldl (Zb3 n) 1114111/\∀ x∈L,n<=x->L.foldl (Zb3 n) 1114111<=x:=by
 obtain ⟨x,hx,hn⟩:=Zuk h;obtain ⟨a1,a2,a3⟩:=Zkr n L 1114111;obtain ⟨b1,b2,b3⟩:=Zkr n L 1114112;have hx1:=hr x hx;have hx2:=a2 x hx hn;have hx3:=b2 x hx hn;have hm:L.foldl (Zb3 n) 1114111∈L/\n<=L.foldl (Zb3 n) 1114111:=by
  rcases a3 with a3 | ⟨y,hy,hy2,a3⟩
  ·have:L.foldl (Zb3 n) 1114111=x:=by omega
   rw [this];exact ⟨hx,hn⟩
  ·rw [a3];exact ⟨hy,hy2⟩
 refine ⟨?_,hm.1,hm.2,a2⟩;have h1:=b2 _ hm.1 hm.2
 rcases b3 with b3 | ⟨y,hy,hy2,b3⟩
 ·omega
 ·have:=a2 y hy hy2;omega
def Zbm (L:List Int) (n:Int):Int:=L.foldl (Zb3 n) 1114111
def Zq7 (L:List Int) (b0:Int):Nat->List Int->Int->Int->Int->Int->Option (Option (List Int))
 | 0,_,_,_,_,_=>none
 | k+1,o,n,d,b,h=>if h<(L.length:Int) then (if 2147483647<d+(Zbm L n-n)*(h+1) then some none else match Zee b0 (Zbm L n) L (o,d+(Zbm L n-n)*(h+1),b,h) with
   | none=>some none
   | some s=>Zq7 L b0 k s.1 (Zbm L n+1) (s.2.1+1) s.2.2.1 s.2.2.2) else some (some o)
def Zpx:Option (List Int)->Option (ByteArray×Int×Int)
 | none=>Znw
 | some o=>(Yl.f (Zao o)).bind λck=>if ck.2.2≠0 then Znw else some (Zao o,0,0)
theorem Zpj {o:List Int} (h:∀ c∈o,0<=c/\c<128):Vh (Zao o)=o:=by
 rw [Vh,Zix,List.map_map];have:∀ m:List Int,(∀ c∈m,0<=c/\c<128)->m.map ((λb:UInt8=>(b.toNat:Int))∘λn:Int=>UInt8.ofNat n.toNat)=m:=by
  intro m
  induction m with
  | nil=>intro _;rfl
  | cons x m ih=>
   intro hm;have hx:=hm x (by simp);rw [List.map_cons,ih λy hy=>hm y (by simp [hy])];congr 1;simp only [Function.comp,UInt8.toNat_ofNat'];omega
 exact this o h
theorem Zgv {o:List Int} (h:∀ c∈o,0<=c/\c<128):(Zao o).size=o.length:=by rw [<- K2,Zpj h]
theorem Zvt {o:List Int} (h:∀ c∈o,0<=c/\c<128):Ztr (Zao o):=λj j0 j1=>by
 rw [Zgv h] at j1
 rw [Zj9,Zpj h]
 exact (h _ (Zim j0 j1)).2
theorem Zrj {o:List Int} (h:∀ c∈o,0<=c/\c<128) (hl:2*o.length<=Z2):Zi.j2 pU o=Zpx (some o):=by
 obtain ⟨l,a,e,h1,h2,_⟩:=Zq5 (Zao o) (by rw [Zgv h];exact hl) (Zvt h);rw [Zi.j2,Zpx,h1,h2];rfl
theorem Zv5 (L aa:List Int) (hl:L.length<=18400000000) (hr:∀ x∈L,0<=x/\x<=1114111):∀ (q k:Nat) (o:List Int) (n d b h:Int),(L.length:Int)-h<=(q:Int)->q<k->128<=n->n<=1114112->0<=d->d<=2147483648->h=Zeb n L->(o.length:Int)<=12*h+1->(∀ c∈o,0<=c/\c<128)->
  ∃ r,Zq7 L (aa.length:Int) k o n d b h=some r/\Z3.l4 k L aa o n d b h=Zpx r/\(d<=2147483647->Zi.l2 k pU L aa o n d b h=Zpx r)/\(2147483647<d->h<(L.length:Int)->r=none)/\(∀ o',r=some o'->(∀ c∈o',0<=c/\c<128)/\o'.length<=12*L.length+1):=by
 have hb:L.length<=Z2:=by unfold Z2;omega
 have hr2:∀ x∈L,-2147483648<=x/\x<=2147483647:=λx hx=>by have:=hr x hx;omega
 intro q
 induction q with
 | zero=>
  intro k o n d b h h1 h2 h3 h4 h5 h6 h7 h8 h9;obtain ⟨k,rfl⟩:∃ j,k=j+1:=⟨k-1,by omega⟩;have hle:=Zkm n L;have hn:¬ h<(L.length:Int):=by omega
  refine ⟨some o,by rw [Zq7,if_neg hn],?_,λ_=>?_,λ_ c=>absurd c hn,λo' e=>?_⟩
  ·rw [Z3.l4,if_neg hn];rfl
  ·rw [Zi.l2,if_neg hn]
   exact Zrj h9 (by unfold Z2;omega)
  ·obtain rfl:=Option.some.inj e
   exact ⟨h9,by omega⟩
 | succ q ih=>
  intro k o n d b h h1 h2 h3 h4 h5 h6 h7 h8 h9;obtain ⟨k,rfl⟩:∃ j,k=j+1:=⟨k-1,by omega⟩;have hle:=Zkm n L;by_cases hn:h<(L.length:Int)
  ·obtain ⟨g1,g2,g3,g4⟩:=Zw2 (λx hx=>(hr x hx).2) (n:=n) (L:=L) (by omega)
   have g5:=(hr _ g2).2;change Zbm L n∈L at g2;change n<=Zbm L n at g3;change ∀ x∈L,n<=x->Zbm L n<=x at g4;change Zbm L n<=1114111 at g5;change L.foldl (Zb3 n) 1114112=Zbm L n at g1;have hh0:0<=h:=by rw [h7];unfold Zeb;omega
   have p0:0<=(Zbm L n-n)*(h+1):=Int.mul_nonneg (by omega) (by omega);have p1:(Zbm L n-n)*(h+1)<=1114112*18400000001:=Int.mul_le_mul (by omega) (by omega) (by omega) (by omega);have w1:i64.wrap (Zbm L n-n)=Zbm L n-n:=w64 (by omega) (by omega);have w2:i64.wrap (h+1)=h+1:=w64 (by omega) (by omega);have w3:i64.wrap ((Zbm L n-n)*(h+1))=(Zbm L n-n)*(h+1):=w64 (by omega) (by omega);have w4:i64.wrap (d+(Zbm L n-n)*(h+1))=d+(Zbm L n-n)*(h+1):=w64 (by omega) (by omega);have w5:i64.wrap (Zbm L n+1)=Zbm L n+1:=w64 (by omega) (by omega);have ep:Zi.l2 (k+1) pU L aa o n d b h=if 2147483647<d+(Zbm L n-n)*(h+1) then Znw else Zi.l1 (Zi.l2 k pU L aa) K0 pU L aa (Zbm L n) o (d+(Zbm L n-n)*(h+1)) b h 0:=by have e9:Vl.f L n=some (Zbm L n):=Zzf L n hb hr2;rw [Zi.l2,if_pos hn,e9,Option.bind_some,w1,w2,w3,w4];rfl
   have er:Z3.l4 (k+1) L aa o n d b h=if 2147483647<d+(Zbm L n-n)*(h+1) then Znw else Z3.l2 (Z3.l4 k L aa) K0 L aa (Zbm L n) o (d+(Zbm L n-n)*(h+1)) b h 0:=by rw [Z3.l4,if_pos hn,Zxp _ _ _ _ _ _ _ _ hb hr2,g1,w1,w2,w3,w4];rfl
   rw [ep,er,Zq7,if_pos hn];by_cases c:2147483647<d+(Zbm L n-n)*(h+1)
   ·rw [if_pos c,if_pos c,if_pos c]
    exact ⟨none,rfl,rfl,λ_=>rfl,λ_ _=>rfl,λo' e=>by cases e⟩
   ·rw [if_neg c,if_neg c,if_neg c]
    have hok:OkE (L.length:Int) (o,d+(Zbm L n-n)*(h+1),b,h):=⟨by simp only;omega,by simp only;omega,hh0,by simp only;omega,h8,h9⟩;have e1:=Zuy (Zi.l2 k pU L aa) L aa (Zbm L n) (by omega) hr2 _ hok;have e2:=Zxq (Z3.l4 k L aa) L aa (Zbm L n) (by omega) hr2 _ hok;simp only at e1 e2;rw [e1,e2]
    cases hp:Zee (aa.length:Int) (Zbm L n) L (o,d+(Zbm L n-n)*(h+1),b,h) with
    | none=>exact ⟨none,rfl,rfl,λ_=>rfl,λ_ _=>rfl,λo' e=>by cases e⟩
    | some s=>
     obtain ⟨hs,hc⟩:=Zqd L hok hp;have hcnt:=Zkn g3 L g4;have hpos:0<L.countP (λx=>decide (x=Zbm L n)):=List.countP_pos_iff.2 ⟨_,g2,by simp⟩;have hh:s.2.2.2=Zeb (Zbm L n+1) L:=by rw [hcnt,hc,h7]
     have hle2:=Zkm (Zbm L n+1) L;obtain ⟨r,r1,r2,r3,r4,r5⟩:=ih k s.1 (Zbm L n+1) (s.2.1+1) s.2.2.1 s.2.2.2 (by simp only at hc;omega) (by omega) (by omega) (by omega) (by have:=hs.d0;omega) (by have:=hs.d1;omega) hh hs.len hs.asc;refine ⟨r,r1,by rw [Zy1,w5];exact r2,λ_=>?_,λc2 _=>absurd c2 (by omega),r5⟩;rw [Zy0];by_cases c2:s.2.2.2=(L.length:Int)
     ·rw [if_pos c2]
      obtain ⟨k,rfl⟩:∃ j,k=j+1:=⟨k-1,by omega⟩;rw [Zq7,if_neg (by omega)] at r1;rw [<- Option.some.inj r1];exact Zrj hs.asc (by have:=hs.len;unfold Z2;omega)
     ·rw [if_neg c2]
      by_cases c3:2147483647<s.2.1+1
      ·rw [if_pos c3,r4 c3 (by omega)];rfl
      ·rw [if_neg c3,w5]
       exact r3 (by omega)
  ·refine ⟨some o,by rw [Zq7,if_neg hn],?_,λ_=>?_,λ_ c=>absurd c hn,λo' e=>?_⟩
   ·rw [Z3.l4,if_neg hn];rfl
   ·rw [Zi.l2,if_neg hn]
    exact Zrj h9 (by unfold Z2;omega)
   ·obtain rfl:=Option.some.inj e
    exact ⟨h9,by omega⟩
end
section
open Go.IntKind (i8 i16 i32 i64 u8 u16 u32 u64)
open Go.RowKit

def Zb2 (L:List Int):List Int:=L.filter λx=>decide (x<128)
def Zgc (aa:List Int):List Int:=if 0<(aa.length:Int) then aa++[45] else aa
theorem Zu5 {p:Int} (h:scB p=true):0<=p/\p<=1114111:=by
 have e:=Zr3 p;rw [h] at e;unfold Vc.f Vc.j1 at e;by_cases a:0<=p
 ·rw [if_pos a] at e
  by_cases b:p<55296
  ·omega
  ·rw [if_neg b] at e
   by_cases c:57343<p
   ·rw [if_pos c] at e
    have:=of_decide_eq_true (Option.some.inj e);omega
   ·rw [if_neg c] at e;cases e
 ·rw [if_neg a,if_neg (by omega)] at e;cases e
theorem Zmk (pre:List Int) (x:Int):Zb2 (pre++[x])=if x<128 then Zb2 pre++[x] else Zb2 pre:=by
 unfold Zb2;by_cases c:x<128<;>simp [List.filter_append,c]
theorem Zj7 (L:List Int):(Zb2 L).length<=L.length:=List.length_filter_le _ _
theorem Zwx (L:List Int):Zeb 128 L=((Zb2 L).length:Int):=by
 unfold Zeb Zb2;rw [List.countP_eq_length_filter]
theorem Zxg (L:List Int) (hl:L.length<=18400000000) (hr:∀ x∈L,0<=x/\x<=1114111):Zi.l3 K0 pU L [] 0=Zi.l2 K0 pU L (Zb2 L) (Zgc (Zb2 L)) 128 0 72 ((Zb2 L).length:Int):=by
 have hb:L.length<=Z2:=by unfold Z2;omega
 refine (λkey=>key rfl) (Qf (σ:=List Int) (β:=ByteArray×Int×Int) (λk i s=>Zi.l3 k pU L s i) L (λpre _ s o=>s=Zb2 pre->o=Zi.l2 K0 pU L (Zb2 L) (Zgc (Zb2 L)) 128 0 72 ((Zb2 L).length:Int)) ?_ ?_ [] K0 (ltK hb))
 ·intro s k hs
  have hs':s=Zb2 L->Zi.l3 (k+1) pU L s (L.length:Int)=Zi.l2 K0 pU L (Zb2 L) (Zgc (Zb2 L)) 128 0 72 ((Zb2 L).length:Int):=by
   rintro rfl;have:=Zj7 L;simp only [Zi.l3,if_neg (show ¬ (L.length:Int)<(L.length:Int) by omega),Zi.j4,Zgc];by_cases c:0<((Zb2 L).length:Int)
   ·rw [if_pos c,if_pos c,if_pos (by unfold most;simp;omega)]
   ·rw [if_neg c,if_neg c]
  exact hs' hs
 ·intro pre x t s k e ih hs
  obtain ⟨m1,m2⟩:=mid e;obtain ⟨x0,x1⟩:=hr x (by rw [e];simp);have hle:L.length=pre.length+(t.length+1):=by rw [e];simp
  have hlen:=Zj7 pre;have wx:i64.wrap x=x:=w64 (by omega) (by omega);have hbas:Qh.f pU x=some (decide (x<128)):=by simp only [Qh.f,Qh.j1,wx];by_cases c:x<128<;>simp [c]
  simp only [Zi.l3,if_pos m2.2,if_pos m2,m1,hbas,Option.bind_some,decide_eq_true_eq,Zi.j1,nxt hb e];by_cases c:x<128
  ·rw [if_pos c,if_pos (by rw [hs];unfold most;simp;omega),Zhz x0 (by omega)]
   exact ih _ (by rw [Zmk,if_pos c,hs])
  ·rw [if_neg c]
   exact ih _ (by rw [Zmk,if_neg c,hs])
theorem Zyz (L:List Int) (hl:L.length<=18400000000) (hr:∀ x∈L,0<=x/\x<=1114111):∃ r,Zq7 L ((Zb2 L).length:Int) K0 (Zgc (Zb2 L)) 128 0 72 ((Zb2 L).length:Int)=some r/\Z3.l4 K0 L (Zb2 L) (Zgc (Zb2 L)) 128 0 72 ((Zb2 L).length:Int)=Zpx r/\Zi.l2 K0 pU L (Zb2 L) (Zgc (Zb2 L)) 128 0 72 ((Zb2 L).length:Int)=Zpx r/\(∀ o',r=some o'->(∀ c∈o',0<=c/\c<128)/\o'.length<=12*L.length+1):=by
 have h1:=Zj7 L;have hK:(K0:Int)=1180591620717411303424:=rfl;have hm:∀ c∈Zb2 L,0<=c/\c<128:=λc hc=>by
  obtain ⟨h2,h3⟩:=List.mem_filter.1 hc;have:=hr c h2;have:=of_decide_eq_true h3;omega
 obtain ⟨r,r1,r2,r3,_,r5⟩:=Zv5 L (Zb2 L) hl hr L.length K0 (Zgc (Zb2 L)) 128 0 72 ((Zb2 L).length:Int) (by omega) (by omega) (by omega) (by omega) (by omega) (by omega) (Zwx L).symm (by unfold Zgc;split<;>first | (simp;omega) | omega) (λc hc=>by
  unfold Zgc at hc;split at hc
  ·rcases List.mem_append.1 hc with hc | hc
   ·exact hm c hc
   ·simp only [List.mem_singleton] at hc;omega
  ·exact hm c hc)
 exact ⟨r,r1,r2,r3 (by omega),r5⟩
theorem Zv8 {r:Option (List Int)} {n:Nat} (h:∀ o',r=some o'->(∀ c∈o',0<=c/\c<128)/\o'.length<=n) (hn:2*n<=Z2):∃ s a e,Zpx r=some (s,a,e)/\s.size<=n:=by
 cases r with
 | none=>exact ⟨_,_,_,rfl,Nat.zero_le _⟩
 | some o=>
  obtain ⟨h1,h2⟩:=h o rfl;obtain ⟨l,a,e,_,h4,_⟩:=Zq5 (Zao o) (by rw [Zgv h1];omega) (Zvt h1);rw [Zpx,h4,Option.bind_some];by_cases c:e=0
  ·exact ⟨_,_,_,by rw [if_neg (by simp [c])],by rw [Zgv h1];exact h2⟩
  ·exact ⟨_,_,_,by rw [if_pos (by simp [c])];rfl,Nat.zero_le _⟩
end
section
open Go.RowKit

theorem Zep {α:Type} {o:Option α} (d:α) (h:∃ r,o=some r):o=some (o.getD d):=by
 obtain ⟨r,rfl⟩:=h;rfl
def Zjz (t:Option Tbs) (sta:Int->Int) (kp:Int->Bool):Prop:=(∀ p,K4.f t p=some (sta p))/\∀ p,kp p=decide (sta p=1\/sta p=3)
theorem Zs2 {t:Option Tbs} {sta:Int->Int} (h:∀ p,K4.f t p=some (sta p)) (p:Int):Kx.f t p=some (decide (sta p=1\/sta p=3)):=by
 rw [Kx.f,h,Option.bind_some];by_cases c:sta p=1
 ·rw [if_pos c,decide_eq_true (.inl c)];rfl
 ·rw [if_neg c]
  simp only [Kx.j1,c,false_or]
theorem Zzy {b:Bk} {t:Tbs} (hb:Few b) (h:okB b=true) (ht:Znl b t):∃ key pa n pr mk kp jn sta,Tq (some t) key pa n pr mk kp jn/\Zjz (some t) sta kp:=by
 obtain ⟨key,pa,h1⟩:=Zzw hb h ht;have hp:∀ a c,∃ r,Uu.f (some t) a c=some r:=λa c=>by
  simp only [Uu.f,Option.isNone_some,Bool.false_eq_true,if_false,Option.isSome_some,if_true];exact ⟨_,rfl⟩
 have hs:∀ p,∃ r,K4.f (some t) p=some r:=λp=>by
  obtain ⟨r1,e1⟩:=Zcv _ _ ht.maps p;obtain ⟨r2,e2⟩:=Zcv _ _ ht.status p;simp only [K4.f,Option.isNone_some,Bool.false_eq_true,if_false,Option.isSome_some,if_true,Option.getD_some,e1,e2,Option.bind_some];exact Zbi ⟨_,rfl⟩ ⟨_,rfl⟩
 have hm:∀ p,∃ r,Ky.f (some t) p=some r:=λp=>by
  obtain ⟨r1,e1⟩:=Zcv _ _ ht.mark p;exact ⟨decide (r1=1),by simp only [Ky.f,Ky.j1,Option.isSome_some,if_true,Option.getD_some,e1,Option.bind_some]⟩
 have hj:∀ p,∃ r,V5.f (some t) p=some r:=λp=>by
  obtain ⟨r1,e1⟩:=Zcv _ _ ht.join p;exact ⟨r1,by simp only [V5.f,Option.isNone_some,Bool.false_eq_true,if_false,Option.isSome_some,if_true,Option.getD_some,e1,Option.bind_some]⟩
 have hs':=λp=>Zep 0 (hs p);exact ⟨key,pa,_,_,_,_,_,_,⟨h1,λa c=>Zep (0,false) (Zk4 hp a c),λp=>Zep false (hm p),λp=>Zs2 hs' p,λp=>Zep 0 (hj p)⟩,hs',λp=>rfl⟩
theorem Zzx:∃ key pa n pr mk kp jn sta,Tq none key pa n pr mk kp jn/\Zjz none sta kp:=by
 have hs:∀ p,K4.f none p=some 0:=λp=>rfl;exact ⟨_,_,_,pr0,λ_=>false,_,λ_=>0,λ_=>0,⟨Zzv,Zuu,λp=>rfl,λp=>Zs2 hs p,λp=>rfl⟩,hs,λp=>rfl⟩
variable {t:Option Tbs} {key:Int->Int} {pa:Int->List Int} {n:Nat} {pr:Int->Int->Int×Bool} {mk kp:Int->Bool} {jn:Int->Int}
theorem Zi0:∀ a b c d e f:Bool,(Zjh a b c d e f).headD 0=0->a=true/\b=false/\c=false/\d=false/\e=false/\f=false:=by decide
theorem Zny:∀ a b c d e f:Bool,Zjh a b c d e f=[]->a=true/\b=false/\c=false/\d=false/\e=false/\f=false:=λa b c d e f h=>Zi0 a b c d e f (by rw [h];rfl)
theorem Zi1 (h:Tq t key pa n pr mk kp jn) (l:List Int) (hl:54*l.length<=Z2):∃ F,Qj.f t l=some F/\(F.headD 0=0->F=[])/\(F=[]->Zc9 key pa n pr l=l/\Zhd l=false/\(∀ x∈l,x≠46)/\∀ x∈l,kp x=true):=by
 obtain ⟨jo,h1,_⟩:=Zmr h l hl;refine ⟨_,h1,λhe=>?_,λhe=>?_⟩
 ·obtain ⟨h2,h3,h4,h5,h6,h7⟩:=Zi0 _ _ _ _ _ _ he
  rw [h2,h3,h4,h5,h6,h7];rfl
 ·obtain ⟨h2,h3,h4,h5,h6,h7⟩:=Zny _ _ _ _ _ _ he
  refine ⟨of_decide_eq_true h2,h3,λx hx e=>?_,λx hx=>?_⟩
  ·have:=List.any_eq_false.1 h4 x hx
   simp [e] at this
  ·have:=List.any_eq_false.1 h6 x hx
   simpa using this
theorem Z3k (l:List Int):sub l 4 (l.length:Int)=l.drop 4:=by simp [sub]
theorem Zk5 {l:List Int} (h:Zck l=true) (k:Nat):Zck (l.drop k)=true:=by
 simp only [Zck,Bool.not_eq_true',List.any_eq_false] at h ⊢;exact λx hx=>h x (List.mem_of_mem_drop hx)
theorem Zpp {l:List Int} (h:Zhd l=true):4<=(l.length:Int):=by
 obtain ⟨r,e⟩:=(Zv1 l).1 h;rw [e];simp;omega
theorem Znu {l:List Int} (h:Zck l=true) (hl:2*l.length<=Z2):∃ q a e,Zaz.f (Zao l)=some (q,a,e)/\Yl.f (Zao l)=some (q,a,e)/\q.length<=l.length+1:=by
 have hp:=Zm2 h;obtain ⟨q,a,e,h1,h2,h3⟩:=Zq5 (Zao l) (by rw [Zgv hp];exact hl) (Zvt hp);rw [Zgv hp] at h3;refine ⟨q,a,e,?_,h2,by omega⟩;have hu:Za7.f=some pU:=rfl;rw [Zaz.f,hu,Option.bind_some,h1];rfl
theorem Zrt (h:Tq t key pa n pr mk kp jn) (l:List Int) (hl:54*l.length<=Z2) (hc:Zhd l=false):∃ f,Zad.f t l=some ⟨l,false,f⟩:=by
 obtain ⟨F,h1,_⟩:=Zi1 h l hl;exact ⟨F.headD 0,by rw [Zad.f,Ze7 _ (by omega),Option.bind_some,Zhe,Option.bind_some,hc,if_pos (by decide),h1,Option.bind_some,Zpy];rfl⟩
theorem Zxj (l:List Int) (hl:l.length<=Z2) (hc:Zhd l=true) (hp:Zck l=true) {q:List Int} {a e:Int} (hd:Zaz.f (Zao (l.drop 4))=some (q,a,e)) (hq:q.length<=Z2) {F:List Int} (hF:Qj.f t q=some F):
  Zad.f t l=some (if e≠0 then ⟨l,true,8⟩ else if Zck q=true then ⟨q,true,9⟩ else ⟨q,true,F.headD 0⟩):=by
 have e4:=Z3k l;have e5:=Zpp hc;rw [Zad.f,Ze7 _ hl,Option.bind_some,Zhe,Option.bind_some,hc,if_neg (by decide),Zhq _ hl,Option.bind_some,hp,if_neg (by decide),if_pos ⟨by omega,e5,Int.le_refl _⟩,e4,Zi5 (Zk5 hp 4),hd,Option.bind_some];by_cases c:e≠0
 ·rw [if_pos c,if_pos c]
 ·rw [if_neg c,if_neg c,Zhq _ hq,Option.bind_some]
  by_cases d:Zck q=true
  ·rw [if_pos d,if_pos d]
  ·rw [if_neg d,if_neg d,hF,Option.bind_some,Zpy];rfl
end
section
open Go.IntKind (i8 i16 i32 i64 u8 u16 u32 u64)
open Go.RowKit

instance whDec:DecidableEq Wh:=λx y=>decidable_of_iff (x.list=y.list/\x.row=y.row) ⟨λh=>by cases x;cases y;obtain ⟨h1,h2⟩:=h;simp at h1 h2;rw [h1,h2],λh=>by rw [h];exact ⟨rfl,rfl⟩⟩
theorem Z22 (x y:Wh):(!((x.list == y.list)&&((x.row == y.row)&&true)))=!(decide (x=y)):=by
 have:decide (x=y)=((x.list == y.list)&&(x.row == y.row)):=by rw [Bool.eq_iff_iff];simp only [decide_eq_true_eq,Bool.and_eq_true,beq_iff_eq];exact ⟨λh=>by rw [h];exact ⟨rfl,rfl⟩,λh=>by cases x;cases y;obtain ⟨h1,h2⟩:=h;simp at h1 h2;rw [h1,h2]⟩
 rw [this,Bool.and_true]
theorem Zvb (ac:Int->Int->Option Bool) (a b:List Wh) (i:Int) (hi:0<=i/\i<(a.length:Int)) (hb:b.length<=Z2) (hi2:i<=1099511627776):∀ (t pre:List Wh) (k:Nat),b=pre++t->t.length<k->
  Y6.l1 ac k a b i (pre.length:Int)=match (t.zipIdx pre.length).find? (λp=>decide (p.1=rd a i)) with
   | some p=>ac ((p.2:Int)+1) (i+1)
   | none=>some false:=by
 intro t
 induction t with
 | nil=>
  intro pre k e hk;obtain ⟨k,rfl⟩:∃ j,k=j+1:=⟨k-1,by omega⟩;have hl:b.length=pre.length:=by rw [e];simp
  simp only [Y6.l1,hl,if_neg (show ¬ (pre.length:Int)<(pre.length:Int) by omega),Y6.j1];simp only [ite_true];rfl
 | cons x t ih=>
  intro pre k e hk;obtain ⟨k,rfl⟩:∃ j,k=j+1:=⟨k-1,by omega⟩;obtain ⟨m1,m2⟩:=mid e;have hle:b.length=pre.length+(t.length+1):=by rw [e];simp
  have hw:i64.wrap (i+1)=i+1:=w64 (by omega) (by omega);simp only [Y6.l1,if_pos m2.2,if_pos m2,if_pos hi,m1,Z22,Y6.j1,nxt hb e,hw];rw [List.zipIdx_cons,List.find?_cons];by_cases c:x=rd a i
  ·simp only [decide_eq_true c]
   rw [if_neg (by decide),if_neg (by omega)]
  ·simp only [decide_eq_false c]
   rw [if_pos (by decide)];have:=ih (pre++[x]) k (by rw [e];simp) (by simp at hk;omega);rw [List.length_append] at this;simpa using this
theorem Zjc (a b:List Wh) (h:a.Sublist b) (hb:b.length<=1099511627776):Y6.f a b=some true:=by
 have hbb:b.length<=Z2:=hb;have ha:=h.length_le;rw [Y6.f];have key:∀ (u pa:List Wh) (k:Nat) (pre t:List Wh),a=pa++u->b=pre++t->u.Sublist t->u.length<k->Y6.l2 k a b (pre.length:Int) (pa.length:Int)=some true:=by
  intro u
  induction u with
  | nil=>
   intro pa k pre t e1 e2 hs hk;obtain ⟨k,rfl⟩:∃ j,k=j+1:=⟨k-1,by omega⟩;have hl:a.length=pa.length:=by rw [e1];simp
   simp only [Y6.l2,hl,if_neg (show ¬ (pa.length:Int)<(pa.length:Int) by omega)]
  | cons x u ih=>
   intro pa k pre t e1 e2 hs hk;obtain ⟨k,rfl⟩:∃ j,k=j+1:=⟨k-1,by omega⟩;obtain ⟨m1,m2⟩:=mid e1;have hla:a.length=pa.length+(u.length+1):=by rw [e1];simp
   have hlb:b.length=pre.length+t.length:=by rw [e2];simp
   simp only [Y6.l2,if_pos m2.2];rw [Zvb _ a b _ m2 hbb (by omega) t pre K0 e2 (by have:b.length<K0:=ltK hbb;omega),m1];have find:∀ (t pre:List Wh),(x::u).Sublist t->∃ p s r,t=s++x::r/\(t.zipIdx pre.length).find? (λq=>decide (q.1=x))=some (x,p)/\p=pre.length+s.length/\u.Sublist r:=by
    intro t
    induction t with
    | nil=>intro pre hs;cases hs
    | cons y t iht=>
     intro pre hs;by_cases c:y=x
     ·subst c
      refine ⟨pre.length,[],t,rfl,by rw [List.zipIdx_cons,List.find?_cons];simp,rfl,?_⟩;exact List.cons_sublist_cons.1 hs
     ·have hs':(x::u).Sublist t:=by
       cases hs with
       | cons _ h=>exact h
       | cons_cons _ h=>exact absurd rfl c
      obtain ⟨p,s,r,e,hf,hp,hu⟩:=iht (pre++[y]) hs'
      rw [List.length_append] at hf hp
      refine ⟨p,y::s,r,by rw [e];rfl,?_,by simp at hp ⊢;omega,hu⟩
      rw [List.zipIdx_cons,List.find?_cons]
      simp only [decide_eq_false c]
      simpa using hf
   obtain ⟨p,s,r,e,hf,hp,hu⟩:=find t pre hs;rw [hf];simp only;have:=ih (pa++[x]) k (pre++s++[x]) r (by rw [e1];simp) (by rw [e2,e];simp) hu (by simp at hk;omega);rw [List.length_append,List.length_append,List.length_append] at this;rw [hp];have e3:(((pre.length+s.length:Nat):Int)+1)=((pre.length+s.length+[x].length:Nat):Int):=by simp
   have e4:((pa.length:Int)+1)=((pa.length+[x].length:Nat):Int):=by simp
   rw [e3,e4];exact this
 have:=key a [] K0 [] b rfl rfl h (by have:b.length<K0:=ltK hbb;omega);simpa using this
end
section
open Go.IntKind (i8 i16 i32 i64 u8 u16 u32 u64)
open Go.RowKit

theorem Zea {α γ β:Type} [Inhabited α] (L:Nat->Int->Option β) (xs:List α) (hb:xs.length<=Z2) (g:α->Option γ) (p:γ->Prop) [DecidablePred p] (out:Int->γ->β) (z:β) (hg:∀ x∈xs,∃ b,g x=some b)
  (hL:∀ k a,L (k+1) a=if a<(xs.length:Int) then (if (0:Int)<=a/\a<(xs.length:Int) then ((g (rd xs a)).bind λag=>(if p ag then some (out a ag) else L k (i64.wrap (a+1)))) else none) else some z):∃ r,L K0 0=some r:=by
 have key:∀ (t pre:List α) (k:Nat),xs=pre++t->t.length<k->∃ r,L k (pre.length:Int)=some r:=by
  intro t
  induction t with
  | nil=>
   intro pre k e hk;obtain ⟨k,rfl⟩:∃ j,k=j+1:=⟨k-1,by omega⟩;have hl:xs.length=pre.length:=by rw [e];simp
   rw [hL,hl,if_neg (by omega)];exact ⟨_,rfl⟩
  | cons x t ih=>
   intro pre k e hk;obtain ⟨k,rfl⟩:∃ j,k=j+1:=⟨k-1,by omega⟩;have m:=mid e;rw [hL,if_pos m.2.2,if_pos m.2,m.1];obtain ⟨b,hb'⟩:=hg x (by rw [e];simp);rw [hb',Option.bind_some];by_cases c:p b
   ·rw [if_pos c];exact ⟨_,rfl⟩
   ·rw [if_neg c,nxt hb e]
    have:=ih (pre++[x]) k (by rw [e];simp) (by simp at hk;omega);rw [List.length_append] at this;simpa using this
 have:=key xs [] K0 rfl (ltK hb);simpa using this
theorem Zbr {α β:Type} {x:Option α} {f:α->Option β} (h:∃ a,x=some a) (hf:∀ a,∃ r,f a=some r):∃ r,x.bind f=some r:=by
 obtain ⟨a,rfl⟩:=h;exact hf a
theorem Zde {α β:Type} {x:Option α} {p:α->Prop} {f:α->Option β} (h:∃ a,x=some a/\p a) (hf:∀ a,p a->∃ r,f a=some r):∃ r,x.bind f=some r:=by
 obtain ⟨a,rfl,ha⟩:=h;exact hf a ha
theorem Zfy (s d:Int) (h:0<=d):∃ v,Uj.f s d=some v:=by
 rw [Uj.f,if_pos h];exact ⟨_,rfl⟩
theorem Zu6 (c:Int):∃ v,Kg.f c=some v:=by
 unfold Kg.f Kg.j1;repeat' (first | exact ⟨_,rfl⟩ | refine Zbi ?_ ?_)
theorem Zum (l:List Int) (hl:l.length<=Z2):∃ v,Yr.f l=some v:=by
 obtain ⟨r,hr⟩:=Zea (λk a=>Xc.l1 k l a) l hl (λc=>Zap.f c) (λb=>b=true) (λa _=>a) (-1) (λx _=>by obtain ⟨v,hv⟩:=Zu6 x;exact ⟨_,by rw [Zap.f,hv];rfl⟩) (λk a=>rfl);rw [Yr.f,Xc.f,hr];exact ⟨_,rfl⟩
theorem Zri (l:List Int) (hl:l.length<=Z2):∃ v,Xt.f l=some v:=by
 have hbb:l.length<=1099511627776:=hl;have w:i64.wrap ((l.length:Int)-1)=(l.length:Int)-1:=w64 (by omega) (by omega);unfold Xt.f Xt.j1;rw [w];by_cases c4:4<=(l.length:Int)
 ·simp only [if_pos c4,if_pos (show (0:Int)<=2/\2<(l.length:Int) by omega),if_pos (show (0:Int)<=3/\3<(l.length:Int) by omega),if_pos (show 0<(l.length:Int) by omega),if_pos (show (0:Int)<=0/\0<(l.length:Int) by omega),if_pos (show (0:Int)<=(l.length:Int)-1/\(l.length:Int)-1<(l.length:Int) by omega)]
  repeat' (first | exact ⟨_,rfl⟩ | refine Zbi ?_ ?_)
 ·rw [if_neg c4]
  by_cases c0:0<(l.length:Int)
  ·simp only [if_pos c0,if_pos (show (0:Int)<=0/\0<(l.length:Int) by omega),if_pos (show (0:Int)<=(l.length:Int)-1/\(l.length:Int)-1<(l.length:Int) by omega)]
   repeat' (first | exact ⟨_,rfl⟩ | refine Zbi ?_ ?_)
  ·rw [if_neg c0];exact ⟨_,rfl⟩
theorem Zmu (l:List Int) (hl:l.length<=Z2) (h:∀ d∈l,0<=d) (s:Int):∃ v,Zch.f l s=some v:=by
 obtain ⟨r,hr⟩:=Zea (λk a=>Xp.l1 k s l a) l hl (λd=>Zac.f d s) (λb=>b=true) (λa _=>a) (-1) (λx hx=>by obtain ⟨v,hv⟩:=Zfy s x (h x hx);exact ⟨_,by rw [Zac.f,hv];rfl⟩) (λk a=>rfl);rw [Zch.f,K9.f,Xp.f,hr];exact ⟨_,rfl⟩
theorem Zkb (l:List Int) (hl:l.length<=Z2) (s:Int):∃ v,K1.f l s=some v:=by
 obtain ⟨r,hr⟩:=Zea (λk a=>Qp.l1 k l s a) l hl (λd=>some (decide (s=d))) (λb=>b=true) (λa _=>a) (-1) (λx _=>⟨_,rfl⟩) (λk a=>by simp only [Qp.l1,Option.bind_some,decide_eq_true_eq]);rw [K1.f,Qp.f,hr];exact ⟨_,rfl⟩
theorem Zke (l:List Int) (hl:l.length<=Z2) (h:∀ d∈l,0<=d) (s:Int):∃ v,Km.f l s=some v:=by
 have hbb:l.length<=1099511627776:=hl;have key:∀ (n k:Nat),n<=l.length->n<k->∃ r,Km.l1 k l s (n:Int)=some r:=by
  intro n
  induction n with
  | zero=>
   intro k _ hk;obtain ⟨k,rfl⟩:∃ j,k=j+1:=⟨k-1,by omega⟩;exact ⟨false,rfl⟩
  | succ n ih=>
   intro k hn hk;obtain ⟨k,rfl⟩:∃ j,k=j+1:=⟨k-1,by omega⟩;have w:i64.wrap (((n+1:Nat):Int)-1)=(n:Int):=by rw [w64 (by omega) (by omega)];omega
   have hm:rd l (n:Int)∈l:=by
    have hs:l=l.take n++l[n]'(by omega)::l.drop (n+1):=by simp
    have m:=mid hs;rw [List.length_take,Nat.min_eq_left (by omega)] at m;rw [m.1];exact List.getElem_mem _
   simp only [Km.l1,Km.j2,Km.j1,w];rw [if_pos (by omega),if_pos (by omega)];refine Zbi (ih k (by omega) (by omega)) ?_;rw [if_pos (by omega),if_pos (by omega)];obtain ⟨v,hv⟩:=Zfy s _ (h _ hm);rw [hv];exact ⟨_,rfl⟩
 exact key l.length K0 (Nat.le_refl _) (ltK hl)
theorem Zm7 (c:Int) (b:Bool) (y:List Int) (h:y.length<=4):∃ r,Q1.f c b y=some r/\r.length<=y.length+1:=by
 rw [Q1.f];split
 ·rw [if_pos (by unfold most;simp;omega)];exact ⟨_,rfl,by simp⟩
 ·exact ⟨_,rfl,by omega⟩
def Zjt (t:Option Tbs) (bd:Int->Int):Prop:=∀ p,Uk.f t p=some (bd p)/\0<=bd p
theorem Zyx {t:Option Tbs} {bd:Int->Int} (h:Zjt t bd) (l:List Int) (hl:l.length<=Z2):K3.f t l=some (l.map bd):=by
 have key:∀ (u pre:List Int) (k:Nat),l=pre++u->u.length<k->K3.l1 k t l (pre.map bd) (pre.length:Int)=some (l.map bd):=by
  intro u
  induction u with
  | nil=>
   intro pre k e hk;obtain ⟨k,rfl⟩:∃ j,k=j+1:=⟨k-1,by omega⟩;have hl:l=pre:=by rw [e];simp
   simp only [K3.l1,hl];rw [if_neg (by omega)]
  | cons x u ih=>
   intro pre k e hk;obtain ⟨k,rfl⟩:∃ j,k=j+1:=⟨k-1,by omega⟩;have m:=mid e;have hle:l.length=pre.length+(u.length+1):=by rw [e];simp
   have hbb:l.length<=1099511627776:=hl;simp only [K3.l1];rw [if_pos m.2.2,if_pos m.2,m.1,(h x).1,Option.bind_some,if_pos (by unfold most;simp;omega),nxt hl e];have:=ih (pre++[x]) k (by rw [e];simp) (by simp at hk;omega);rw [List.length_append] at this;simpa using this
 exact key l [] K0 rfl (ltK hl)
theorem Zqh {t:Option Tbs} {bd:Int->Int} (h:Zjt t bd) (l:List Int) (hl:l.length<=Z2):∃ r,Us.f t l=some r:=by
 have hn:∀ d∈l.map bd,0<=d:=by intro d hd;obtain ⟨p,_,rfl⟩:=List.mem_map.1 hd;exact (h p).2
 have hm:(l.map bd).length<=Z2:=by rw [List.length_map];exact hl
 rw [Us.f,Zyx h l hl,Option.bind_some];have hne:∀ d∈l.map bd,0<=d:=hn;generalize l.map bd=D at hn hm hne;by_cases c0:(D.length:Int)=0
 ·rw [if_pos c0];exact ⟨_,rfl⟩
 have hp:(0:Int)<=0/\0<(D.length:Int):=by omega
 rw [if_neg c0,if_pos hp];refine Zbr (Zfy 6 _ (hn _ (Zim hp.1 hp.2))) λcj=>?_;refine Zbi ?_ (Zbi ?_ ⟨_,rfl⟩)
 ·refine Zbr (Zmu D hm hn _) λav=>Zde (Zm7 2 av [] (by simp)) λaw h1=>Zbr (Zke D hm hn _) λax=>Zde (Zm7 3 ax aw (by simp at h1;omega)) λam h2=>Zbr (Zkb D hm _) λay=>Zbi ?_ ?_
  ·exact Zde (Zm7 4 true am (by simp at h1;omega)) λ_ _=>⟨_,rfl⟩
  ·exact Zbr (Zkb D hm _) λaz=>Zde (Zm7 4 (!az) am (by simp at h1;omega)) λ_ _=>⟨_,rfl⟩
 ·exact Zbr (Zmu D hm hn _) λa0=>Zde (Zm7 5 a0 [] (by simp)) λa1 h1=>Zbr (Zke D hm hn _) λa2=>Zde (Zm7 6 a2 a1 (by simp at h1;omega)) λ_ _=>⟨_,rfl⟩
theorem Zg8 {t:Option Tbs} {bd:Int->Int} (h:Zjt t bd) (l:List Int) (hl:l.length<=Z2):∃ r,Ug.f t l=some r:=by
 rw [Ug.f];refine Zbr (Zqh h l hl) λad=>?_;by_cases c:0<(ad.length:Int)
 ·rw [if_pos c,if_pos (by omega)];exact ⟨_,rfl⟩
 ·rw [if_neg c];exact ⟨_,rfl⟩
theorem Zot {t:Option Tbs} {bd:Int->Int} (h:Zjt t bd) (l:List Int) (hl:l.length<=Z2):∃ r,Zbq.f t l=some r:=by
 obtain ⟨r,hr⟩:=Zea (λk a=>Xb.l1 k t l a) l hl (λc=>Uz.f c t) (λb=>b=true) (λa _=>a) (-1) (λx _=>by
  rw [Uz.f,(h x).1,Option.bind_some];exact Zbr (Zfy 70 _ (h x).2) λ_=>⟨_,rfl⟩) (λk a=>rfl)
 rw [Zbq.f,Ko.f,Xb.f,hr];exact ⟨_,rfl⟩
theorem Zrn {t:Option Tbs} {bd:Int->Int} (h:Zjt t bd) (ls:List (List Int)) (hn:ls.length<=Z2) (hl:∀ l∈ls,l.length<=Z2):∃ r,U6.f t ls=some r:=by
 obtain ⟨r,hr⟩:=Zea (λk a=>Xa.l1 k t ls a) ls hn (λc=>Hw.f c t) (λb=>b=true) (λa _=>a) (-1) (λx hx=>by
  rw [Hw.f];exact Zbr (Zot h x (hl x hx)) λ_=>⟨_,rfl⟩) (λk a=>rfl)
 obtain ⟨q,hq⟩:=Zea (λk a=>U6.l1 k t ls a) ls hn (λc=>Ug.f t c) (λb=>b≠0) (λa e=>(⟨true,a,e⟩:S12)) ⟨true,0,0⟩ (λx hx=>Zg8 h x (hl x hx)) (λk a=>rfl);rw [U6.f,Kn.f,Xa.f,hr];exact Zbi ⟨_,rfl⟩ ⟨_,hq⟩
end
section
open Go.IntKind (i8 i16 i32 i64 u8 u16 u32 u64)
open Go.RowKit

def jf (r:S10) (c:Int):Bool:=decide (c≠6)||r.joiners
def Zrc (F:List Int) (hy ns:Bool) (r:S10):List Int:=F.filter (jf r)++((if r.hyphens&&hy then [10] else [])++(if r.std&&ns then [11] else []))
def brk (lb:S11):Bool:=lb.coded&&(decide (lb.fault=7)||decide (lb.fault=8)||decide (lb.fault=9))
def Zlx (F:List Int) (hy ns:Bool) (lb:S11) (r:S10):List Int:=if brk lb=true then [lb.fault] else Zrc F hy ns r
theorem Zwa (F:List Int) (hy ns:Bool) (r:S10) (h:F.length<=8):(Zrc F hy ns r).length<=10:=by
 have:=List.length_filter_le (jf r) F;unfold Zrc;rw [List.length_append,List.length_append];split<;>split<;>simp<;>omega
theorem Zwc (F:List Int) (hy ns:Bool) (lb:S11) (r:S10) (h:F.length<=8):(Zlx F hy ns lb r).length<=10:=by
 unfold Zlx;split
 ·simp
 ·exact Zwa F hy ns r h
theorem Znx (lb:S11) (r:S10) (aa:List Int) (h:aa.length<=100) (hp:Bool×Bool) (ns:Bool) (hh:Xt.f lb.says=some hp) (hn:Yr.f lb.says=some ns):
  ((Xt.f lb.says).bind λa6=>(if r.hyphens=true then (if a6.1=true then (Zy.j6 lb r aa true) else (Zy.j6 lb r aa a6.2)) else (Zy.j6 lb r aa false)))=some (aa++((if r.hyphens&&(hp.1||hp.2) then [10] else [])++(if r.std&&ns then [11] else []))):=by
 have m1:∀ x:Int,aa.length+[x].length<=most:=λx=>by unfold most;simp;omega
 have m2:∀ x y:Int,(aa++[x]).length+[y].length<=most:=λx y=>by unfold most;simp;omega
 obtain ⟨p,q⟩:=hp;rw [hh,Option.bind_some];unfold Zy.j6 Zy.j5 Zy.j4 Zy.j3;simp only [hn,Option.bind_some,if_pos (m1 _),if_pos (m2 _ _)];generalize r.hyphens=a;generalize r.std=b;have m3:aa.length+1<=most:=by unfold most;omega
 have m4:aa.length+1+1<=most:=by unfold most;omega
 cases a<;>cases b<;>cases p<;>cases q<;>cases ns<;>simp [m3,m4]
theorem Zq9 {t:Option Tbs} (lb:S11) (r:S10) {F:List Int} {hp:Bool×Bool} {ns:Bool} (hF:Qj.f t lb.says=some F) (hl:F.length<=8) (hh:Xt.f lb.says=some hp) (hn:Yr.f lb.says=some ns):
  Zy.f t lb r=some (Zlx F (hp.1||hp.2) ns lb r):=by
 have loop:Zy.l1 K0 lb r F [] 0=some (Zrc F (hp.1||hp.2) ns r):=by
  have key:∀ (u pre:List Int) (k:Nat),F=pre++u->u.length<k->Zy.l1 k lb r F (pre.filter (jf r)) (pre.length:Int)=some (Zrc F (hp.1||hp.2) ns r):=by
   intro u
   induction u with
   | nil=>
    intro pre k e hk;obtain ⟨k,rfl⟩:∃ j,k=j+1:=⟨k-1,by omega⟩;have hl':F=pre:=by rw [e];simp
    subst hl';have:=List.length_filter_le (jf r) F;simp only [Zy.l1];rw [if_neg (by omega),Znx lb r _ (by omega) hp ns hh hn];rfl
   | cons x u ih=>
    intro pre k e hk;obtain ⟨k,rfl⟩:∃ j,k=j+1:=⟨k-1,by omega⟩;have m:=mid e;have hle:F.length=pre.length+(u.length+1):=by rw [e];simp
    have hfl:=List.length_filter_le (jf r) pre;have hap:(pre.filter (jf r)).length+[x].length<=most:=by unfold most;simp at hfl ⊢;omega
    have:=ih (pre++[x]) k (by rw [e];simp) (by simp at hk;omega);rw [List.length_append,List.filter_append] at this;have hw:i64.wrap ((pre.length:Int)+1)=((pre.length+[x].length:Nat):Int):=by rw [w64 (by omega) (by omega)];simp
    simp only [Zy.l1];rw [if_pos m.2.2,if_pos m.2,m.1];simp only [Zy.j2,Zy.j1,m.1,hw];by_cases c6:x=6
    ·subst c6
     rw [if_neg (by simp)];cases hj:r.joiners
     ·rw [if_neg (by simp)]
      have hx:[(6:Int)].filter (jf r)=[]:=by simp [jf,hj]
      rw [hx,List.append_nil] at this;exact this
     ·rw [if_pos rfl,if_pos hap]
      have hx:[(6:Int)].filter (jf r)=[6]:=by simp [jf,hj]
      rw [hx] at this;exact this
    ·rw [if_pos c6,if_pos trivial,if_pos hap]
     have hx:[x].filter (jf r)=[x]:=by simp [jf,c6]
     rw [hx] at this;exact this
  exact key F [] K0 rfl (by unfold K0;omega)
 unfold Zy.f Zlx brk Zy.j7;rw [hF,Option.bind_some,loop];cases hc:lb.coded
 ·simp
 ·by_cases c7:lb.fault=7
  ·simp [c7]
  ·by_cases c8:lb.fault=8
   ·simp [c8]
   ·by_cases c9:lb.fault=9
    ·simp [c9]
    ·simp [c7,c8,c9]
end
section
open Go.IntKind (i8 i16 i32 i64 u8 u16 u32 u64)
open Go.RowKit

def Zts (a b:S10):Prop:=(a.hyphens=true->b.hyphens=true)/\(a.bidi=true->b.bidi=true)/\(a.joiners=true->b.joiners=true)/\(a.std=true->b.std=true)/\(a.lengths=true->b.lengths=true)
theorem Zww (a:S10):Zts a ⟨true,true,true,true,true⟩:=⟨λ_=>rfl,λ_=>rfl,λ_=>rfl,λ_=>rfl,λ_=>rfl⟩
theorem Zuq (a:S10):Zts ⟨false,false,false,false,false⟩ a:=⟨λh=>(nomatch h),λh=>(nomatch h),λh=>(nomatch h),λh=>(nomatch h),λh=>(nomatch h)⟩
theorem Zra {α:Type} {p q:α->Bool} (h:∀ x,p x=true->q x=true):∀ l:List α,(l.filter p).Sublist (l.filter q):=by
 intro l
 induction l with
 | nil=>exact List.Sublist.refl _
 | cons x t ih=>
  cases hp:p x
  ·cases hq:q x
   ·simpa [hp,hq] using ih
   ·simpa [hp,hq] using ih.cons x
  ·simpa [hp,h x hp] using ih.cons_cons x
theorem Zjm {α:Type} {a b:Bool} (h:a=true->b=true) (l:List α):(if a then l else []).Sublist (if b then l else []):=by
 cases a
 ·exact List.nil_sublist _
 ·rw [h rfl];exact List.Sublist.refl _
theorem Zwb (F:List Int) (hy ns:Bool) {a b:S10} (h:Zts a b):(Zrc F hy ns a).Sublist (Zrc F hy ns b):=by
 obtain ⟨h1,h2,h3,h4,h5⟩:=h;refine List.Sublist.append (Zra (λx hx=>?_) F) (List.Sublist.append (Zjm (λhx=>?_) _) (Zjm (λhx=>?_) _))
 ·simp only [jf,Bool.or_eq_true] at hx ⊢
  exact hx.imp id h3
 ·simp only [Bool.and_eq_true] at hx ⊢;exact ⟨h1 hx.1,hx.2⟩
 ·simp only [Bool.and_eq_true] at hx ⊢;exact ⟨h4 hx.1,hx.2⟩
theorem Zwd (F:List Int) (hy ns:Bool) (lb:S11) {a b:S10} (h:Zts a b):(Zlx F hy ns lb a).Sublist (Zlx F hy ns lb b):=by
 unfold Zlx;split
 ·exact List.Sublist.refl _
 ·exact Zwb F hy ns h

def trL {α:Type} (G:α->List Int):Nat->List α->List Wh
 | _,[]=>[]
 | i,x::t=>(G x).map (λc=>⟨(i:Int),c⟩)++trL G (i+1) t
theorem Zzz {α:Type} {G H:α->List Int}:∀ (l:List α) (i:Nat),(∀ x∈l,(G x).Sublist (H x))->(trL G i l).Sublist (trL H i l):=by
 intro l
 induction l with
 | nil=>intro i _;exact List.Sublist.refl _
 | cons x t ih=>intro i h;exact List.Sublist.append ((h x (by simp)).map _) (ih (i+1) λy hy=>h y (by simp [hy]))
theorem Zhy {α:Type} {G:α->List Int} (q:Nat):∀ (l:List α) (i:Nat),(∀ x∈l,(G x).length<=q)->(trL G i l).length<=q*l.length:=by
 intro l
 induction l with
 | nil=>intro i _;simp [trL]
 | cons x t ih=>
  intro i h;have h1:=h x (by simp);have h2:=ih (i+1) λy hy=>h y (by simp [hy]);rw [trL,List.length_append,List.length_map,List.length_cons,Nat.mul_add];omega
theorem Zzm (bl:List Wh->List (List Int)->Int->Option (List (List Int)×List Wh)) (ay:List S11) (ac:List (List Int)) (aa:Int) (au:List Int) (ha:au.length<=Z2):∀ (u pre:List Int) (ag:List Wh) (k:Nat),au=pre++u->u.length<k->ag.length+u.length<=most->
  Z7.l1 bl k ay ac aa au ag (pre.length:Int)=bl (ag++u.map (λc=>⟨aa,c⟩)) (ac++[(rd ay aa).says]) (i64.wrap (aa+1)):=by
 intro u
 induction u with
 | nil=>
  intro pre ag k e hk _;obtain ⟨k,rfl⟩:∃ j,k=j+1:=⟨k-1,by omega⟩;have hl:au=pre:=by rw [e];simp
  simp only [Z7.l1,hl];rw [if_neg (by omega)];simp
 | cons x u ih=>
  intro pre ag k e hk hm;obtain ⟨k,rfl⟩:∃ j,k=j+1:=⟨k-1,by omega⟩;have m:=mid e;rw [List.length_cons] at hm;simp only [Z7.l1];rw [if_pos m.2.2,if_pos m.2,m.1,if_pos (by simp;omega),nxt ha e];have:=ih (pre++[x]) (ag++[⟨aa,x⟩]) k (by rw [e];simp) (by simp at hk;omega) (by simp;omega);rw [List.length_append] at this;simpa using this
def Zq0 (bc:List Int->Int) (l:List Int):List Int:=if bc l≠0 then [12] else []
theorem Zux {t:Option Tbs} (ah:List (List Int)) (ha:ah.length<=34359738368) (bc:List Int->Int) (hb:∀ l∈ah,Ug.f t l=some (bc l)):∀ (u pre:List (List Int)) (af:List Wh) (k:Nat),ah=pre++u->u.length<k->af.length+u.length<=most->
  Z7.l2 k t ah af (pre.length:Int)=some (ah,af++trL (Zq0 bc) pre.length u):=by
 have hbb:ah.length<=Z2:=by unfold Z2;omega
 intro u
 induction u with
 | nil=>
  intro pre af k e hk _;obtain ⟨k,rfl⟩:∃ j,k=j+1:=⟨k-1,by omega⟩;have hl:ah=pre:=by rw [e];simp
  simp only [Z7.l2,Z7.j1,hl];rw [if_neg (by omega)];simp [trL]
 | cons x u ih=>
  intro pre af k e hk hm;obtain ⟨k,rfl⟩:∃ j,k=j+1:=⟨k-1,by omega⟩;have m:=mid e;rw [List.length_cons] at hm;have hx:=hb x (by rw [e];simp);simp only [Z7.l2,Z7.j2];rw [if_pos m.2.2,if_pos m.2,m.1,hx,Option.bind_some,nxt hbb e,trL];have step:=λaf' h=>ih (pre++[x]) af' k (by rw [e];simp) (by simp at hk;omega) h;by_cases c:bc x≠0
  ·rw [if_pos c,if_pos (by simp;omega)]
   have:=step (af++[⟨(pre.length:Int),12⟩]) (by simp;omega);rw [List.length_append] at this;simpa [Zq0,c] using this
  ·rw [if_neg c]
   have:=step af (by omega);rw [List.length_append] at this;simpa [Zq0,c] using this
theorem Zxf {t:Option Tbs} (r:S10) (ay:List S11) (ha:ay.length<=34359738368) (G:S11->List Int) (hG:∀ x∈ay,Zy.f t x r=some (G x)/\(G x).length<=10):∀ (u pre:List S11) (ad:List Wh) (k:Nat),ay=pre++u->u.length<k->ad.length<=10*pre.length->
  Z7.l3 k t r ay ad (pre.map (·.says)) (pre.length:Int)=(if r.bidi=true then ((U6.f t (ay.map (·.says))).bind λb3=>(Z7.j3 t (ad++trL G pre.length u) (ay.map (·.says)) b3.bidi)) else (Z7.j3 t (ad++trL G pre.length u) (ay.map (·.says)) false)):=by
 have hbb:ay.length<=Z2:=by unfold Z2;omega
 intro u
 induction u with
 | nil=>
  intro pre ad k e hk _;obtain ⟨k,rfl⟩:∃ j,k=j+1:=⟨k-1,by omega⟩;have hl:ay=pre:=by rw [e];simp
  simp only [Z7.l3,hl];rw [if_neg (by omega)];simp [trL]
 | cons x u ih=>
  intro pre ad k e hk hm;obtain ⟨k,rfl⟩:∃ j,k=j+1:=⟨k-1,by omega⟩;have m:=mid e;have hle:ay.length=pre.length+(u.length+1):=by rw [e];simp
  obtain ⟨g1,g2⟩:=hG x (by rw [e];simp);have h0:=Zzm (Z7.l3 k t r ay) ay (pre.map (·.says)) (pre.length:Int) (G x) (by unfold Z2;omega) (G x) [] ad K0 rfl (by unfold K0;omega) (by unfold most;omega);simp only [List.length_nil] at h0;simp only [Z7.l3];rw [if_pos m.2.2,if_pos m.2,m.1,if_pos (by unfold most;simp;omega),g1,Option.bind_some];have hz:((0:Nat):Int)=0:=rfl;rw [hz] at h0;rw [h0,nxt hbb e,m.1];have:=ih (pre++[x]) (ad++(G x).map (λc=>⟨(pre.length:Int),c⟩)) k (by rw [e];simp) (by simp at hk;omega) (by simp;omega);rw [List.length_append,List.map_append] at this;simpa [trL] using this
end
section
open Go.IntKind (i8 i16 i32 i64 u8 u16 u32 u64)
open Go.RowKit

def Zk6 (r:S10) (isb:Bool) (G:S11->List Int) (bc:List Int->Int) (ls:List S11):List Wh:=trL G 0 ls++(if r.bidi&&isb then trL (Zq0 bc) 0 (ls.map (·.says)) else [])
theorem Zvv (bc:List Int->Int) (l:List Int):(Zq0 bc l).length<=1:=by unfold Zq0;split<;>simp
theorem Zrr {t:Option Tbs} (name:List Int) (r:S10) {ls:List S11} (hls:Vr.f t name=some ls) (hn:ls.length<=34359738368) (G:S11->List Int) (hG:∀ x∈ls,Zy.f t x r=some (G x)/\(G x).length<=10)
  (bc:List Int->Int) (hb:∀ l∈ls.map (·.says),Ug.f t l=some (bc l)) {bn:S12} (hbn:U6.f t (ls.map (·.says))=some bn):
  Z7.f t name r=some (ls.map (·.says),Zk6 r bn.bidi G bc ls):=by
 have h:=Zxf r ls hn G hG ls [] [] K0 rfl (by unfold K0;omega) (by simp);have hm:(ls.map (·.says)).length<=34359738368:=by rw [List.length_map];exact hn
 have hT:=Zhy (G:=G) 10 ls 0 λx hx=>(hG x hx).2;have h2:=Zux (t:=t) (ls.map (·.says)) hm bc hb (ls.map (·.says)) [] (trL G 0 ls) K0 rfl (by unfold K0;omega) (by unfold most;omega);simp only [List.length_nil,List.map_nil,List.nil_append] at h h2;have hz:((0:Nat):Int)=0:=rfl;rw [hz] at h h2;rw [Z7.f,hls,Option.bind_some,h];unfold Zk6 Z7.j3 Z7.j1;rw [hbn,Option.bind_some,h2];cases r.bidi<;>cases bn.bidi<;>simp
theorem Zuw {a b:S10} (h:Zts a b) (isb:Bool) {G H:S11->List Int} (bc:List Int->Int) (ls:List S11) (hG:∀ x∈ls,(G x).Sublist (H x)):(Zk6 a isb G bc ls).Sublist (Zk6 b isb H bc ls):=by
 refine List.Sublist.append (Zzz ls 0 hG) (Zjm (λhx=>?_) _);simp only [Bool.and_eq_true] at hx ⊢;exact ⟨h.2.1 hx.1,hx.2⟩
theorem Zm3 (r:S10) (isb:Bool) {G:S11->List Int} (bc:List Int->Int) (ls:List S11) (hG:∀ x∈ls,(G x).length<=10):(Zk6 r isb G bc ls).length<=11*ls.length:=by
 have h1:=Zhy 10 ls 0 hG;have h2:=Zhy (G:=Zq0 bc) 1 (ls.map (·.says)) 0 λx _=>Zvv bc x;rw [List.length_map] at h2;unfold Zk6;rw [List.length_append];split
 ·omega
 ·simp only [List.length_nil];omega

theorem Zr9 (a b:ByteArray) (ha:a.size<=562949953421312) (hb:b.size<=562949953421312):∃ v,Ut.f a b=some v:=by
 unfold Ut.f K8.f;refine Zbr ?_ λ_=>⟨_,rfl⟩;unfold Xo.f Xo.j1;by_cases c:(b.size:Int)<=(a.size:Int)
 ·have w:i64.wrap ((a.size:Int)-(b.size:Int))=(a.size:Int)-(b.size:Int):=w64 (by omega) (by omega)
  rw [if_pos c,w,if_pos (show (0:Int)<=(a.size:Int)-(b.size:Int)/\(a.size:Int)-(b.size:Int)<=(a.size:Int)/\(a.size:Int)<=(a.size:Int) by omega),Option.bind_some,if_pos (show (0:Int)<=0/\(0:Int)<=(a.size:Int)-(b.size:Int)/\(a.size:Int)-(b.size:Int)<=(a.size:Int) by omega)];exact Zbi ⟨_,rfl⟩ ⟨_,rfl⟩
 ·rw [if_neg c];exact ⟨a,rfl⟩
theorem Zly (xs:List ByteArray) (hn:xs.length<=34359738368) (hj:(Zct xs (⟨#[46]⟩:ByteArray)).size<=281474976710656):∃ v,Zq.f xs=some v/\v.length<=xs.length+1:=by
 have hb:xs.length<=Z2:=by unfold Z2;omega
 have w:i64.wrap ((xs.length:Int)-1)=(xs.length:Int)-1:=w64 (by omega) (by omega);have hjoin:U4.f xs (⟨#[46]⟩:ByteArray)=some (Zct xs (⟨#[46]⟩:ByteArray)):=by rw [U4.f,if_pos ⟨by omega,hj⟩]
 have e5:∀ (aa:List Wh) (b:Bool),aa.length<=xs.length->∃ v,Zq.j5 aa b=some v/\v.length<=xs.length+1:=by
  intro aa b h;unfold Zq.j5 Zq.j4;cases b
  ·exact ⟨aa,by simp,by omega⟩
  ·rw [if_pos rfl,if_pos (by unfold most;simp;omega)];exact ⟨_,rfl,by simp;omega⟩
 have e6:∀ (aa:List Wh) (b:ByteArray),aa.length<=xs.length->∃ v,Zq.j6 aa b=some v/\v.length<=xs.length+1:=by
  intro aa b h;unfold Zq.j6;split
  ·exact e5 _ _ h
  ·exact e5 _ _ h
 have e7:∀ (aa:List Wh) (b:Bool),aa.length<=xs.length->∃ v,Zq.j7 aa (Zct xs (⟨#[46]⟩:ByteArray)) b=some v/\v.length<=xs.length+1:=by
  intro aa b h;unfold Zq.j7;split
  ·obtain ⟨q,hq⟩:=Zr9 (Zct xs (⟨#[46]⟩:ByteArray)) (⟨#[46]⟩:ByteArray) (by omega) (by decide)
   rw [hq,Option.bind_some];exact e6 _ _ h
  ·exact e6 _ _ h
 have key:∀ (u pre:List ByteArray) (aa:List Wh) (k:Nat),xs=pre++u->u.length<k->aa.length<=pre.length->∃ v,Zq.l1 k xs aa (pre.length:Int)=some v/\v.length<=xs.length+1:=by
  intro u
  induction u with
  | nil=>
   intro pre aa k e hk ha;obtain ⟨k,rfl⟩:∃ j,k=j+1:=⟨k-1,by omega⟩;have hl:xs.length=pre.length:=by rw [e];simp
   simp only [Zq.l1];rw [if_neg (by omega),hjoin,Option.bind_some,w];by_cases c:1<(xs.length:Int)
   ·rw [if_pos c,if_pos (by omega)];exact e7 _ _ (by omega)
   ·rw [if_neg c];exact e7 _ _ (by omega)
  | cons x u ih=>
   intro pre aa k e hk ha;obtain ⟨k,rfl⟩:∃ j,k=j+1:=⟨k-1,by omega⟩;have m:=mid e;have hle:xs.length=pre.length+(u.length+1):=by rw [e];simp
   have step:∀ aa':List Wh,aa'.length<=pre.length+1->∃ v,Zq.l1 k xs aa' (i64.wrap ((pre.length:Int)+1))=some v/\v.length<=xs.length+1:=by intro aa' h;have:=ih (pre++[x]) aa' k (by rw [e];simp) (by simp at hk;omega) (by simpa using h);rw [List.length_append] at this;rw [nxt hb e];simpa using this
   have e2:∀ b:Bool,∃ v,Zq.j2 (Zq.l1 k xs) aa (pre.length:Int) b=some v/\v.length<=xs.length+1:=by
    intro b;unfold Zq.j2 Zq.j1;cases b
    ·exact step aa (by omega)
    ·rw [if_pos rfl,if_pos (by unfold most;simp;omega)];exact step _ (by simp;omega)
   have e3:∀ b:Bool,∃ v,Zq.j3 (Zq.l1 k xs) xs aa (pre.length:Int) b=some v/\v.length<=xs.length+1:=by
    intro b;unfold Zq.j3;split
    ·split
     ·exact e2 _
     ·exact e2 _
    ·exact e2 _
   simp only [Zq.l1];rw [if_pos m.2.2,if_pos m.2];split
   ·exact e3 _
   ·exact e3 _
 exact key xs [] [] K0 rfl (ltK hb) (Nat.le_refl _)
end
section
open Go.RowKit

def Zlw (en:List Int->ByteArray×Int×Int) (l:List Int):List Int:=if (en l).2.2≠0 then [13] else []
theorem Zpt (en:List Int->ByteArray×Int×Int) (l:List Int):(Zlw en l).length<=1:=by unfold Zlw;split<;>simp
theorem Zvu {t:Option Tbs} (name:List Int) (r:S10) {ws:List (List Int)} {T:List Wh} (hp:Z7.f t name r=some (ws,T)) (hn:ws.length<=34359738368) (hT:T.length<=11*ws.length)
  (en:List Int->ByteArray×Int×Int) (he:∀ l∈ws,Vs.f l=some (en l)) (hj:(Zct (ws.map λl=>(en l).1) (⟨#[46]⟩:ByteArray)).size<=281474976710656) {L:List Wh} (hL:Zq.f (ws.map λl=>(en l).1)=some L) (hl:L.length<=ws.length+1):
  X7.f t name r=some (Zct (ws.map λl=>(en l).1) (⟨#[46]⟩:ByteArray),(T++trL (Zlw en) 0 ws)++(if r.lengths then L else [])):=by
 have hb:ws.length<=Z2:=by unfold Z2;omega
 have hjoin:U4.f (ws.map λl=>(en l).1) (⟨#[46]⟩:ByteArray)=some (Zct (ws.map λl=>(en l).1) (⟨#[46]⟩:ByteArray)):=by rw [U4.f,if_pos ⟨by rw [List.length_map];omega,hj⟩]
 have hE:=Zhy (G:=Zlw en) 1 ws 0 λx _=>Zpt en x;have key:∀ (u pre:List (List Int)) (ac:List Wh) (k:Nat),ws=pre++u->u.length<k->ac.length+2*u.length<=14*34359738368-> 
   X7.l1 k r (ws,T) (pre.map λl=>(en l).1) ac (pre.length:Int)=some (Zct (ws.map λl=>(en l).1) (⟨#[46]⟩:ByteArray),(ac++trL (Zlw en) pre.length u)++(if r.lengths then L else [])):=by
  intro u
  induction u with
  | nil=>
   intro pre ac k e hk hac;obtain ⟨k,rfl⟩:∃ j,k=j+1:=⟨k-1,by omega⟩;have hle:ws.length=pre.length:=by rw [e];simp
   have hl':pre=ws:=by rw [e];simp
   simp only [X7.l1];rw [if_neg (by omega),hl',hL,Option.bind_some];unfold X7.j2;have hml:ac.length+L.length<=most:=by unfold most;simp at hac;omega
   simp only [hjoin,if_pos hml,Option.bind_some];cases r.lengths<;>simp [trL]
  | cons x u ih=>
   intro pre ac k e hk hac;obtain ⟨k,rfl⟩:∃ j,k=j+1:=⟨k-1,by omega⟩;have m:=mid e;have hle:ws.length=pre.length+(u.length+1):=by rw [e];simp
   have hx:=he x (by rw [e];simp);rw [List.length_cons] at hac;have step:∀ ac':List Wh,ac'.length+2*u.length<=14*34359738368->X7.j1 (X7.l1 k r (ws,T)) (pre.map λl=>(en l).1) (pre.length:Int) (en x) ac'=some (Zct (ws.map λl=>(en l).1) (⟨#[46]⟩:ByteArray),(ac'++trL (Zlw en) (pre.length+1) u)++(if r.lengths then L else [])):=by intro ac' h;have:=ih (pre++[x]) ac' k (by rw [e];simp) (by simp at hk;omega) h;rw [List.length_append,List.map_append] at this;unfold X7.j1;rw [if_pos (by unfold most;simp;omega),nxt hb e];simpa using this
   simp only [X7.l1];rw [if_pos m.2.2,if_pos m.2,m.1,hx,Option.bind_some,trL];by_cases c:(en x).2.2≠0
   ·rw [if_pos c,if_pos (by unfold most;simp;omega),step _ (by simp;omega)]
    simp [Zlw,c]
   ·rw [if_neg c,step _ (by omega)]
    simp [Zlw,c]
 have:=key ws [] T K0 rfl (ltK hb) (by omega);rw [X7.f,hp,Option.bind_some];simpa using this
end
section
open Go.RowKit

theorem Zt2 (l:List Int) (hl:l.length<=Z2) (h:∃ x∈l,scB x=false):∃ a,Ql.f pU l=some (a,20):=by
 rw [Ql.f];refine Qf (λk i (_:Unit)=>Ql.l1 k pU l i) l (λ_ t _ o=>(∃ x∈t,scB x=false)->∃ a,o=some (a,20)) (λ_ k=>?_) (λpre x t _ k e ih=>?_) () K0 (ltK hl) h
 ·rintro ⟨x,hx,_⟩;cases hx
 ·obtain ⟨m1,m2⟩:=mid e
  intro h2;simp only [Ql.l1,if_pos m2.2,if_pos m2,m1,Zoq,Zr3,Option.bind_some,nxt hl e];cases c:scB x
  ·exact ⟨_,by rw [if_pos (by decide)]⟩
  ·rw [if_neg (by decide)]
   refine ih () ?_;obtain ⟨y,hy,hc⟩:=h2
   rcases List.mem_cons.1 hy with rfl | hy
   ·rw [hc] at c;exact nomatch c
   ·exact ⟨y,hy,hc⟩
theorem Zub (L:List Int) (hl:L.length<=18400000000):∃ s a e,Zbv.f L=some (s,a,e)/\s.size<=12*L.length+1:=by
 have hb:L.length<=Z2:=by unfold Z2;omega
 have hu:Za7.f=some pU:=rfl;rw [Zbv.f,hu,Option.bind_some,Zi.f];by_cases hx:∃ x∈L,scB x=false
 ·obtain ⟨a,ha⟩:=Zt2 L hb hx
  rw [ha,Option.bind_some,if_pos (by simp)];exact ⟨_,_,_,rfl,Nat.zero_le _⟩
 ·have hs:∀ x∈L,scB x=true:=λx h=>by
   cases c:scB x
   ·exact absurd ⟨x,h,c⟩ hx
   ·rfl
  have hr2:∀ x∈L,0<=x/\x<=1114111:=λx h=>Zu5 (hs x h);have hp:=Zuv L hb λx h=>by have:=hr2 x h;omega
  have c:fIx (λp=>!scB p) L 0=-1:=by
   rcases Zib (λp=>!scB p) L 0 with ⟨c,_⟩ | ⟨a,x,r,e,hx,_,h⟩
   ·exact c
   ·have:=hs x (by rw [e];simp)
    rw [this] at hx;exact nomatch hx
  obtain ⟨r,_,_,r3,r4⟩:=Zyz L hl hr2;obtain ⟨s,a,e,h3,h4⟩:=Zv8 r4 (by unfold Z2;omega);rw [hp,Option.bind_some,if_pos c,if_neg (by simp),Zxg L hl hr2,r3,h3];exact ⟨s,a,e,rfl,h4⟩
theorem Zmj (l:List Int) (hl:l.length<=18400000000):∃ v,Vs.f l=some v/\v.1.size<=12*l.length+5:=by
 have hb:l.length<=Z2:=by unfold Z2;omega
 rw [Vs.f,Zhq l hb,Option.bind_some];cases hp:Zck l
 ·rw [if_neg (by decide)]
  obtain ⟨s,a,e,h1,h2⟩:=Zub l hl;rw [h1,Option.bind_some];by_cases c:e≠0
  ·rw [if_pos c];exact ⟨_,rfl,Nat.zero_le _⟩
  ·have h4:(⟨#[120,110,45,45]⟩:ByteArray).size=4:=rfl
   have h2':(s,a,e).1.size<=12*l.length+1:=h2;rw [if_neg c,if_pos (by rw [h4];omega)];exact ⟨_,rfl,by rw [ByteArray.size_append,h4];omega⟩
 ·rw [if_pos rfl]
  have hm:∀ c∈l,0<=c/\c<128:=λc hc=>by
   simp only [Zck,Bool.not_eq_true',List.any_eq_false,decide_eq_true_eq] at hp;have:=hp c hc;omega
  refine ⟨_,rfl,?_⟩;show (runesBytes l).size<=_;rw [Zi5 hp,Zgv hm];omega
end
section
open Go.RowKit

def Zb1:List Int->List Int->List (List Int)
 | one,[]=>[one]
 | one,p::t=>if p=46 then one::Zb1 [] t else Zb1 (one++[p]) t
theorem Zlg:∀ (a one r:List Int),(∀ x∈a,x≠46)->Zb1 one (a++46::r)=(one++a)::Zb1 [] r
 | [],one,r,_=>by simp [Zb1]
 | x::a,one,r,h=>by
  rw [List.cons_append,Zb1,if_neg (h x (by simp)),Zlg a _ r (λy hy=>h y (by simp [hy]))]
  simp
theorem Zi7:∀ (a one:List Int),(∀ x∈a,x≠46)->Zb1 one a=[one++a]
 | [],one,_=>by simp [Zb1]
 | x::a,one,h=>by
  rw [Zb1,if_neg (h x (by simp)),Zi7 a _ (λy hy=>h y (by simp [hy]))]
  simp
def Z3n (t:List (List Int)):List Int:=t.flatMap (46::·)
theorem Zxy (l:List Int) (hl:l.length+1<=Z2):V8.f l=some (Zb1 [] l):=by
 have key:∀ (n:Nat) (t:List Int) (acc:List (List Int)) (k:Nat),t.length<=n->n<k->acc.length+t.length<=l.length->V8.l1 k acc t=some (acc++Zb1 [] t):=by
  unfold Z2 at hl;intro n
  induction n with
  | zero=>
   intro t acc k hn hk ha;obtain ⟨k,rfl⟩:∃ j,k=j+1:=⟨k-1,by omega⟩;obtain rfl:t=[]:=List.eq_nil_of_length_eq_zero (by omega);simp only [V8.l1,Zig [] 46 (by unfold Z2;simp),Option.bind_some,fIx];rw [if_pos (by omega),Ze7 [] (by unfold Z2;simp),Option.bind_some,if_pos (by unfold most;simp at ha ⊢;omega)];rfl
  | succ n ih=>
   intro t acc k hn hk ha;obtain ⟨k,rfl⟩:∃ j,k=j+1:=⟨k-1,by omega⟩;have ht:t.length<=Z2:=by unfold Z2;omega
   simp only [V8.l1,Zig t 46 ht,Option.bind_some]
   rcases Zib (λx:Int=>decide (46=x)) t 0 with ⟨h1,h2⟩ | ⟨a,x,r,h1,h2,h3,h4⟩
   ·rw [h1,if_pos (by omega),Ze7 t ht,Option.bind_some,if_pos (by unfold most;simp;omega),Zi7 t [] (λx hx e=>by have:=h2 x hx;simp [e] at this)]
    simp
   ·obtain rfl:(46:Int)=x:=of_decide_eq_true h2
    have hlen:t.length=a.length+(r.length+1):=by rw [h1];simp
    have ea:((0+a.length:Nat):Int)=(a.length:Int):=by omega
    have es:sub t 0 (a.length:Int)=a:=by rw [h1];simp [sub]
    have er:sub t ((a.length:Int)+1) (t.length:Int)=r:=by have:=Zjr (xs:=t) (pre:=a++[46]) (t:=r) (by rw [h1];simp);simpa using this
    rw [h4,ea,w64 (by omega) (by omega),if_neg (by omega),if_pos ⟨by omega,by omega,by omega⟩,es,Ze7 a (by unfold Z2;omega),Option.bind_some,if_pos (by unfold most;simp;omega),if_pos ⟨by omega,by omega,by omega⟩,er];rw [ih r (acc++[a]) k (by omega) (by omega) (by simp;omega)];rw [h1,Zlg a [] r (λx hx e=>by have:=h3 x hx;simp [e] at this)];simp
 have:=key l.length l [] K0 (Nat.le_refl _) (ltK (by omega)) (by simp);simpa [V8.f] using this
end
section
open Go.RowKit

def Zcq {α:Type} (f:α->Nat):List α->Nat
 | []=>0
 | x::t=>f x+1+Zcq f t
theorem Zqp {α:Type} (f:α->Nat):∀ (l:List α),∀ x∈l,f x+1<=Zcq f l
 | x::t,y,h=>by
  rw [Zcq]
  rcases List.mem_cons.1 h with rfl | h
  ·omega
  ·have:=Zqp f t y h;omega
theorem Zlk {α:Type} (f:α->Nat):∀ (l:List α),l.length<=Zcq f l
 | []=>Nat.le_refl _
 | x::t=>by have:=Zlk f t;rw [Zcq,List.length_cons];omega
theorem Zgw:∀ (t one:List Int),Zcq (·.length) (Zb1 one t)=one.length+t.length+1
 | [],one=>by simp [Zb1,Zcq]
 | p::t,one=>by
  rw [Zb1]
  split
  ·rw [Zcq,Zgw t []];simp;omega
  ·rw [Zgw t (one++[p])];simp;omega
theorem Zuh:∀ (xs:List ByteArray),(Zct xs (⟨#[46]⟩:ByteArray)).size<=Zcq (·.size) xs:=by
 intro xs;have hz:∀ x:ByteArray,x.data.toList.length=x.size:=λx=>Array.length_toList;have hl:∀ r:List ByteArray,Lib.lens (r.map (·.data.toList))+r.length=Zcq (·.size) r:=by
  intro r
  induction r with
  | nil=>rfl
  | cons x t ih=>
   have e:Lib.lens ((x::t).map (·.data.toList))=x.data.toList.length+Lib.lens (t.map (·.data.toList)):=by simp only [Lib.lens,List.map_cons,List.sum_cons]
   rw [e,Zcq,List.length_cons,hz];omega
 have hs:(Zct xs (⟨#[46]⟩:ByteArray)).size=(Lib.join (xs.map (·.data.toList)) [46]).length:=rfl;rw [hs]
 cases xs with
 | nil=>exact Nat.zero_le _
 | cons x t=>
  have:=hl (x::t);rw [List.map_cons,Lib.join_length];rw [List.map_cons,List.length_cons] at this;rw [List.length_map,List.length_singleton];omega
variable {t:Option Tbs} {key:Int->Int} {pa:Int->List Int} {n:Nat} {pr:Int->Int->Int×Bool} {mk kp:Int->Bool} {jn:Int->Int}
theorem Zxk (h:Tq t key pa n pr mk kp jn) (l:List Int) (hl:l.length<=18400000000):∃ r,Zad.f t l=some r/\r.says.length<=l.length+1:=by
 have hb:l.length<=Z2:=by unfold Z2;omega
 cases hc:Zhd l with
 | false=>
  obtain ⟨f,hf⟩:=Zrt h l (by unfold Z2;omega) hc;exact ⟨_,hf,Nat.le_succ _⟩
 | true=>
  cases hp:Zck l with
  | false=>
   exact ⟨⟨l,true,7⟩,by rw [Zad.f,Ze7 _ hb,Option.bind_some,Zhe,Option.bind_some,hc,if_neg (by decide),Zhq _ hb,Option.bind_some,hp,if_pos (by decide)],Nat.le_succ _⟩
  | true=>
   obtain ⟨q,a,e,h1,_,h3⟩:=Znu (Zk5 hp 4) (by simp;unfold Z2;omega);have h4:(l.drop 4).length=l.length-4:=by simp
   obtain ⟨F,h2,_⟩:=Zi1 h q (by unfold Z2;omega);refine ⟨_,Zxj l hb hc hp h1 (by unfold Z2;omega) h2,?_⟩;have h5:=Zpp hc;split
   ·exact Nat.le_succ _
   ·split
    ·show q.length<=_;omega
    ·show q.length<=_;omega
theorem Zp6 (h:Tq t key pa n pr mk kp jn) (ai:List (List Int)) (ha:Zcq (·.length) ai<=18400000000):∃ ls,Vr.l1 K0 t ai [] 0=some ls/\ls.length=ai.length/\Zcq (·.says.length) ls<=2*Zcq (·.length) ai/\∀ r∈ls,r.says.length<=18400000000:=by
 have hlen:=Zlk (·.length) ai;have hb:ai.length<=Z2:=by unfold Z2;omega
 have key:∀ (u pre:List (List Int)) (aa:List S11) (k:Nat),ai=pre++u->u.length<k->aa.length=pre.length->∃ v,Vr.l1 k t ai aa (pre.length:Int)=some (aa++v)/\v.length=u.length/\Zcq (·.says.length) v<=2*Zcq (·.length) u/\∀ r∈v,r.says.length<=18400000000:=by
  intro u
  induction u with
  | nil=>
   intro pre aa k e hk ha;obtain ⟨k,rfl⟩:∃ j,k=j+1:=⟨k-1,by omega⟩;have hl:ai.length=pre.length:=by rw [e];simp
   simp only [Vr.l1];rw [if_neg (by omega)];exact ⟨[],by simp,rfl,Nat.le_refl _,λr h=>by cases h⟩
  | cons x u ih=>
   intro pre aa k e hk hq;obtain ⟨k,rfl⟩:∃ j,k=j+1:=⟨k-1,by omega⟩;have m:=mid e;have hle:ai.length=pre.length+(u.length+1):=by rw [e];simp
   have hx:=Zqp (·.length) ai x (by rw [e];simp);obtain ⟨r,hr,hs⟩:=Zxk h x (by have:=hx;omega);simp only [Vr.l1];rw [if_pos m.2.2,if_pos m.2,m.1,hr,Option.bind_some,if_pos (by unfold most;simp;omega),nxt hb e];obtain ⟨v,h1,h2,h3,h5⟩:=ih (pre++[x]) (aa++[r]) k (by rw [e];simp) (by simp at hk;omega) (by simp [hq]);rw [List.length_append] at h1;have hx2:x.length+1<=Zcq (·.length) ai:=hx;refine ⟨r::v,by simpa using h1,by simp [h2],by rw [Zcq,Zcq];omega,λy hy=>?_⟩
   rcases List.mem_cons.1 hy with rfl | hy
   ·omega
   ·exact h5 y hy
 obtain ⟨v,h1,h2,h3,h5⟩:=key ai [] [] K0 rfl (ltK hb) rfl;exact ⟨v,by simpa using h1,h2,h3,h5⟩
end
section
open Go.IntKind (i8 i16 i32 i64 u8 u16 u32 u64)
open Go.RowKit

theorem Zow (b:Bk) (hb:Few b) (h:okB b=true):∃ t,Kl.f b=some (some t,b,true)/\Znl b t:=by
 obtain ⟨t,h1,h2⟩:=Zq3 b hb h;obtain ⟨p,q,h3⟩:=Zhr b hb;rw [h] at h3;refine ⟨t,?_,h2⟩;rw [Kl.f,h1,Option.bind_some,Z0b b hb,Option.bind_some,h3,Option.bind_some,if_neg (by simp),if_pos rfl,Kl.j2];rfl
theorem Zqr (b:Bk) (hb:Few b) (h:okB b=false):Kl.f b=some (none,⟨[],[],[],[],[],[],[],[],[],[],[]⟩,true):=by
 obtain ⟨p,h1⟩:=Zga b;obtain ⟨p',q,h3⟩:=Zhr b hb;rw [h] at h1 h3;rw [Kl.f,Zl.f,h1,Option.bind_some,if_pos (by simp),Option.bind_some,Z0b b hb,Option.bind_some,h3,Option.bind_some,if_pos (by simp)];rfl
def Zjv (t:Option Tbs) (mp:Int->List Int):Prop:=∀ p,Hx.f t p=some (mp p)/\(mp p).length<=18
theorem Z1i {b:Bk} (h:okB b=true):∀ x∈b.maps,x.is_.length<=18:=by
 unfold okB at h;simp only [Bool.and_eq_true] at h;have h2:=h.2.2.1;unfold H4 at h2;simp only [Bool.and_eq_true] at h2;intro x hx;have:=(Zcf h2.2 x hx).2.2.2;simp only [Zho,Hd,Bool.and_eq_true,decide_eq_true_eq] at this;omega
theorem Zzi {D:List Chs} {q:Nat} (h:∀ x∈D,x.is_.length<=q) (c:Int):(paP D c).length<=q:=by
 induction D with
 | nil=>exact Nat.zero_le _
 | cons x D ih=>
  rw [paP];split
  ·exact h x (by simp)
  ·exact ih λy hy=>h y (by simp [hy])
theorem Zw8 {a b:Int} {l:List Val} (h:Zqa a b l=true) (ha:0<=a) (hb:b<=65535):Za2 l:=by
 simp only [Zqa,H4,Bool.and_eq_true,decide_eq_true_eq] at h;refine ⟨h.1,?_⟩;have:∀ (l:List Val) (last:Int),Vj (·.lo) (·.hi) (λx:Val=>decide (a<=x.n)&&decide (x.n<=b)) last l=true->Vj (·.lo) (·.hi) Zc6 last l=true:=by
  intro l
  induction l with
  | nil=>intro _ _;rfl
  | cons x t ih=>
   intro last h;simp only [Vj,Bool.and_eq_true,decide_eq_true_eq] at h ⊢;refine ⟨⟨h.1.1,?_⟩,ih _ h.2⟩;have:=h.1.2;simp only [Zc6,Bool.and_eq_true,decide_eq_true_eq];omega
 exact this l _ h.2
theorem Zt4 {b:Bk} (h:okB b=true):Za2 b.bidi:=by
 unfold okB at h;simp only [Bool.and_eq_true] at h;exact Zw8 h.2.2.2.2.2.2.1 (by omega) (by omega)
theorem Zx6 (b:Bk) (hb:Few b):∃ t c key pa n pr mk kp jn sta bd mp,Kl.f b=some (t,c,true)/\Tq t key pa n pr mk kp jn/\Zjz t sta kp/\Zjt t bd/\Zjv t mp:=by
 cases h:okB b with
 | true=>
  obtain ⟨t,h1,h2⟩:=Zow b hb h;obtain ⟨key,pa,n,pr,mk,kp,jn,sta,h3,h4⟩:=Zzy hb h h2;refine ⟨_,_,key,pa,n,pr,mk,kp,jn,sta,λp=>(Z1.f t.bidi p).getD 0,λp=>(Zat.f t.maps b.maps p).getD [],h1,h3,h4,λp=>?_,λp=>?_⟩
  ·obtain ⟨r,e1,e2⟩:=Zof _ _ h2.bidi (Zt4 h) p
   simp only [Uk.f,Option.isNone_some,Bool.false_eq_true,if_false,Option.isSome_some,if_true,Option.getD_some,e1,Option.bind_some];exact ⟨trivial,e2⟩
  ·obtain ⟨l,e1,e2⟩:=Zrz h2.maps hb.mapsI hb.maps p
   have hl:l.length<=18:=by
    rcases e2 with rfl | rfl
    ·exact Zzi (Z1i h) p
    ·exact Nat.zero_le _
   simp only [Hx.f,Option.isNone_some,Bool.false_eq_true,if_false,Option.isSome_some,if_true,Option.getD_some,h2.book,e1,Option.bind_some];exact ⟨trivial,hl⟩
 | false=>
  obtain ⟨key,pa,n,pr,mk,kp,jn,sta,h3,h4⟩:=Zzx;exact ⟨_,_,key,pa,n,pr,mk,kp,jn,sta,λ_=>0,λ_=>[],Zqr b hb h,h3,h4,λp=>⟨rfl,Int.le_refl _⟩,λp=>⟨rfl,Nat.zero_le _⟩⟩
variable {t:Option Tbs} {key:Int->Int} {pa:Int->List Int} {n:Nat} {pr:Int->Int->Int×Bool} {mk kp:Int->Bool} {jn:Int->Int} {sta:Int->Int} {mp:Int->List Int}
def Zrm (sta:Int->Int) (mp:Int->List Int) (c:Int):List Int:=if sta c=2 then [] else if sta c=4 then mp c else [c]
def Zii (sta:Int->Int) (mp:Int->List Int) (l:List Int):List Int:=l.flatMap (Zrm sta mp)
theorem Zp7 (hm:Zjv t mp) (c:Int):(Zrm sta mp c).length<=18:=by
 unfold Zrm;split
 ·exact Nat.zero_le _
 ·split
  ·exact (hm c).2
  ·simp
theorem Zkp (hm:Zjv t mp):∀ l:List Int,(Zii sta mp l).length<=18*l.length
 | []=>Nat.le_refl _
 | c::l=>by
  have h1:=Zp7 (sta:=sta) hm c
  have h2:=Zkp hm l
  unfold Zii at h2 ⊢
  rw [List.flatMap_cons,List.length_append,List.length_cons];omega
theorem Zz5 (aq:List Int->Int->Option (List Int)) (aa:Int) (aw:List Int) (ha:aw.length<=18):∀ (u pre ac:List Int) (k:Nat),aw=pre++u->u.length<k->ac.length<=1000000000->
  Yd.l1 aq k aa aw ac (pre.length:Int)=aq (ac++u) (i64.wrap (aa+1)):=by
 have hb:aw.length<=Z2:=by unfold Z2;omega
 have main:∀ (u pre ac:List Int) (k:Nat),aw=pre++u->u.length<k->ac.length+u.length<=1000000018->Yd.l1 aq k aa aw ac (pre.length:Int)=aq (ac++u) (i64.wrap (aa+1)):=by
  intro u
  induction u with
  | nil=>
   intro pre ac k e hk _;obtain ⟨k,rfl⟩:∃ j,k=j+1:=⟨k-1,by omega⟩;have hl:aw.length=pre.length:=by rw [e];simp
   simp only [Yd.l1,Yd.j1];rw [if_neg (by omega),List.append_nil]
  | cons x u ih=>
   intro pre ac k e hk hc;obtain ⟨k,rfl⟩:∃ j,k=j+1:=⟨k-1,by omega⟩;have m:=mid e;rw [List.length_cons] at hc;simp only [Yd.l1,Ud.f];rw [if_pos m.2.2,if_pos m.2,m.1,if_pos (by unfold most;simp;omega),Option.bind_some,nxt hb e];have:=ih (pre++[x]) (ac++[x]) k (by rw [e];simp) (by simp at hk;omega) (by simp;omega);rw [List.length_append] at this;simpa using this
 intro u pre ac k e hk hc;have hle:aw.length=pre.length+u.length:=by rw [e];simp
 exact main u pre ac k e hk (by omega)
theorem Z1h (hs:Zjz t sta kp) (hm:Zjv t mp) (l:List Int) (hl:l.length<=50000000):Zbu.f t l=some (Zii sta mp l):=by
 have hb:l.length<=Z2:=by unfold Z2;omega
 have key:∀ (u pre ab:List Int) (k:Nat),l=pre++u->u.length<k->ab.length<=18*pre.length->Yd.l2 k t l ab (pre.length:Int)=some (ab++Zii sta mp u):=by
  intro u
  induction u with
  | nil=>
   intro pre ab k e hk _;obtain ⟨k,rfl⟩:∃ j,k=j+1:=⟨k-1,by omega⟩;have hl:l.length=pre.length:=by rw [e];simp
   simp only [Yd.l2];rw [if_neg (by omega)];simp [Zii]
  | cons x u ih=>
   intro pre ab k e hk hc;obtain ⟨k,rfl⟩:∃ j,k=j+1:=⟨k-1,by omega⟩;have m:=mid e;have hle:l.length=pre.length+(u.length+1):=by rw [e];simp
   have h18:=Zp7 (sta:=sta) hm x;have step:Yd.l2 k t l (ab++Zrm sta mp x) (i64.wrap ((pre.length:Int)+1))=some (ab++Zii sta mp (x::u)):=by have:=ih (pre++[x]) (ab++Zrm sta mp x) k (by rw [e];simp) (by simp at hk;omega) (by simp;omega);rw [List.length_append] at this;rw [nxt hb e];have e2:Zii sta mp (x::u)=Zrm sta mp x++Zii sta mp u:=rfl;rw [e2,<- List.append_assoc];simpa using this
   simp only [Yd.l2,Yd.j1];rw [if_pos m.2.2,if_pos m.2,m.1,hs.1,Option.bind_some];unfold Zrm at step;by_cases c2:sta x=2
   ·rw [if_pos c2] at step ⊢
    simpa using step
   ·rw [if_neg c2] at step ⊢
    by_cases c4:sta x=4
    ·rw [if_pos c4] at step ⊢
     rw [(hm x).1,Option.bind_some];have:=Zz5 (Yd.l2 k t l) (pre.length:Int) (mp x) (hm x).2 (mp x) [] ab K0 rfl (by have:=(hm x).2;unfold K0;omega) (by omega);have hz:((([]:List Int).length:Nat):Int)=0:=rfl;rw [hz] at this;rw [this];exact step
    ·rw [if_neg c4] at step ⊢
     rw [Ud.f,if_pos (by unfold most;simp;omega),Option.bind_some];exact step
 have:=key l [] [] K0 rfl (ltK hb) (Nat.le_refl _);rw [Zbu.f,Yd.f];have hz:((([]:List Int).length:Nat):Int)=0:=rfl;rw [hz] at this;rw [this];simp
theorem Zur (h:Tq t key pa n pr mk kp jn) (l:List Int):(Zc9 key pa n pr l).length<=54*l.length:=by
 have h1:=Zfe h.tb l;have h2:=Zfa key pr (Zik key (l.flatMap (Zcs pa n))) ([],-1,0);rw [Zk3] at h2;simp only [List.length_nil,Nat.zero_add] at h2;unfold Zc9 Ze9;omega
theorem Zy6 (h:Tq t key pa n pr mk kp jn) (hs:Zjz t sta kp) (hm:Zjv t mp) (l:List Int) (hl:l.length<=50000000):Za5.f t l=some (Zc9 key pa n pr (Zii sta mp l)):=by
 have:=Zkp (sta:=sta) hm l;rw [Za5.f,Z1h hs hm l hl,Option.bind_some,Zmy h _ (by unfold Z2;omega)];rfl
theorem Zod (h:Tq t key pa n pr mk kp jn) (hs:Zjz t sta kp) (hm:Zjv t mp) (l:List Int) (hl:l.length<=18874386):∃ ls,Vr.f t l=some ls/\ls.length<=18400000000/\Zcq (·.says.length) ls<=36800000000/\∀ r∈ls,r.says.length<=18400000000:=by
 have h1:=Zkp (sta:=sta) hm l;have h2:=Zur h (Zii sta mp l);have h3:=Zgw (Zc9 key pa n pr (Zii sta mp l)) [];simp only [List.length_nil,Nat.zero_add] at h3;obtain ⟨ls,e1,e2,e3,e4⟩:=Zp6 h (Zb1 [] (Zc9 key pa n pr (Zii sta mp l))) (by omega);have h4:=Zlk (·.length) (Zb1 [] (Zc9 key pa n pr (Zii sta mp l)));refine ⟨ls,?_,by omega,by omega,e4⟩;rw [Vr.f,Zy6 h hs hm l (by omega),Option.bind_some,Zxy _ (by unfold Z2;omega),Option.bind_some,e1]
end
section
open Go.RowKit

theorem Zpv:∀ a b c d e f:Bool,(Zjh a b c d e f).length<=6:=by decide
theorem Zna {α β:Type} (f:α->β) (g:β->Nat):∀ l:List α,Zcq g (l.map f)=Zcq (λx=>g (f x)) l
 | []=>rfl
 | x::l=>by rw [List.map_cons,Zcq,Zcq,Zna f g l]
theorem Zte (f:List Int->ByteArray):∀ l:List (List Int),(∀ x∈l,(f x).size<=12*x.length+5)->Zcq (·.size) (l.map f)<=12*Zcq (·.length) l
 | [],_=>Nat.le_refl _
 | x::l,h=>by
  have h1:=h x (by simp)
  have h2:=Zte f l λy hy=>h y (by simp [hy])
  rw [List.map_cons,Zcq,Zcq];omega
variable {t:Option Tbs} {key:Int->Int} {pa:Int->List Int} {n:Nat} {pr:Int->Int->Int×Bool} {mk kp:Int->Bool} {jn:Int->Int} {sta:Int->Int} {mp:Int->List Int} {bd:Int->Int}
theorem Zwp (h:Tq t key pa n pr mk kp jn) (hs:Zjz t sta kp) (hm:Zjv t mp) (hd:Zjt t bd) (l:List Int) (hl:l.length<=18874386):∃ (txt:ByteArray) (T:S10->List Wh),(∀ r,X7.f t l r=some (txt,T r))/\(∀ a b,Zts a b->(T a).Sublist (T b))/\∀ r,(T r).length<=1099511627776:=by
 obtain ⟨ls,e1,e2,e3,e4⟩:=Zod h hs hm l hl;have hF:∀ lb∈ls,Qj.f t lb.says=some ((Qj.f t lb.says).getD [])/\((Qj.f t lb.says).getD []).length<=8:=λlb hx=>by
  obtain ⟨jo,e5,_⟩:=Zmr h lb.says (by have:=e4 lb hx;unfold Z2;omega);rw [e5,Option.getD_some];exact ⟨rfl,Nat.le_trans (Zpv _ _ _ _ _ _) (by omega)⟩
 have hy:∀ lb∈ls,Xt.f lb.says=some ((Xt.f lb.says).getD (false,false)):=λlb hx=>Zep _ (Zri _ (by have:=e4 lb hx;unfold Z2;omega));have hn:∀ lb∈ls,Yr.f lb.says=some ((Yr.f lb.says).getD false):=λlb hx=>Zep _ (Zum _ (by have:=e4 lb hx;unfold Z2;omega));have hw:∀ w∈ls.map (·.says),w.length<=18400000000:=λw hx=>by
  obtain ⟨lb,h1,rfl⟩:=List.mem_map.1 hx;exact e4 lb h1
 have hb:∀ w∈ls.map (·.says),Ug.f t w=some ((Ug.f t w).getD 0):=λw hx=>Zep _ (Zg8 hd w (by have:=hw w hx;unfold Z2;omega));have he:∀ w∈ls.map (·.says),Vs.f w=some ((Vs.f w).getD (⟨#[]⟩,0,0)):=λw hx=>by
  obtain ⟨v,h1,_⟩:=Zmj w (hw w hx);rw [h1];rfl
 have hz:∀ w∈ls.map (·.says),((Vs.f w).getD (⟨#[]⟩,0,0)).1.size<=12*w.length+5:=λw hx=>by
  obtain ⟨v,h1,h2⟩:=Zmj w (hw w hx);rw [h1];exact h2
 have hlen:(ls.map (·.says)).length=ls.length:=List.length_map _;obtain ⟨bn,hbn⟩:=Zrn hd (ls.map (·.says)) (by rw [hlen];unfold Z2;omega) (λw hx=>by have:=hw w hx;unfold Z2;omega);have hj:(Zct ((ls.map (·.says)).map λw=>((Vs.f w).getD (⟨#[]⟩,0,0)).1) (⟨#[46]⟩:ByteArray)).size<=281474976710656:=by have h1:=Zuh ((ls.map (·.says)).map λw=>((Vs.f w).getD (⟨#[]⟩,0,0)).1);have h2:=Zte (λw=>((Vs.f w).getD (⟨#[]⟩,0,0)).1) (ls.map (·.says)) hz;rw [Zna (λx:S11=>x.says) (λx:List Int=>x.length) ls] at h2;omega
 obtain ⟨L,hL,hl2⟩:=Zly ((ls.map (·.says)).map λw=>((Vs.f w).getD (⟨#[]⟩,0,0)).1) (by rw [List.length_map,hlen];omega) hj;rw [List.length_map] at hl2;have hG:∀ (r:S10),∀ x∈ls,Zy.f t x r=some (Zlx ((Qj.f t x.says).getD []) (((Xt.f x.says).getD (false,false)).1||((Xt.f x.says).getD (false,false)).2) ((Yr.f x.says).getD false) x r)/\(Zlx ((Qj.f t x.says).getD []) (((Xt.f x.says).getD (false,false)).1||((Xt.f x.says).getD (false,false)).2) ((Yr.f x.says).getD false) x r).length<=10:=λr x hx=>
  ⟨Zq9 x r (hF x hx).1 (hF x hx).2 (hy x hx) (hn x hx),Zwc _ _ _ _ _ (hF x hx).2⟩
 refine ⟨Zct ((ls.map (·.says)).map λw=>((Vs.f w).getD (⟨#[]⟩,0,0)).1) (⟨#[46]⟩:ByteArray),λr=>(Zk6 r bn.bidi (λx=>Zlx ((Qj.f t x.says).getD []) (((Xt.f x.says).getD (false,false)).1||((Xt.f x.says).getD (false,false)).2) ((Yr.f x.says).getD false) x r) (λw=>(Ug.f t w).getD 0) ls++trL (Zlw λw=>(Vs.f w).getD (⟨#[]⟩,0,0)) 0 (ls.map (·.says)))++(if r.lengths then L else []),λr=>?_,λa b hab=>?_,λr=>?_⟩
 ·have hp:=Zrr l r e1 (by omega) _ (hG r) _ hb hbn
  have hpl:=Zm3 r bn.bidi (λw=>(Ug.f t w).getD 0) ls (λx hx=>(hG r x hx).2);exact Zvu l r hp (by rw [hlen];omega) (by rw [hlen];exact hpl) _ he hj hL hl2
 ·exact List.Sublist.append (List.Sublist.append (Zuw hab _ _ ls λx _=>Zwd _ _ _ x hab) (List.Sublist.refl _)) (Zjm hab.2.2.2.2 L)
 ·have hpl:=Zm3 r bn.bidi (λw=>(Ug.f t w).getD 0) ls (λx hx=>(hG r x hx).2)
  have h2:=Zhy (G:=Zlw λw=>(Vs.f w).getD (⟨#[]⟩,0,0)) 1 (ls.map (·.says)) 0 λx _=>Zpt _ x;rw [hlen] at h2 hl2;rw [List.length_append,List.length_append];split
  ·omega
  ·simp only [List.length_nil];omega
theorem Zyu:Zce.f=some true:=rfl
theorem Zkj (b:Bk) (hb:Few b) (l:List Int) (hl:l.length<=1048577) (r:S10):Qv.f b l r=some true:=by
 obtain ⟨t,c,key,pa,n,pr,mk,kp,jn,sta,bd,mp,h1,h2,h3,h4,h5⟩:=Zx6 b hb;obtain ⟨txt,T,e1,e2,e3⟩:=Zwp h2 h3 h5 h4 l (by omega);have w1:=Zjc (T ⟨false,false,false,false,false⟩) (T r) (e2 _ _ (Zuq r)) (e3 _);have w2:=Zjc (T r) (T ⟨true,true,true,true,true⟩) (e2 _ _ (Zww r)) (e3 _);rw [Qv.f,h1,Option.bind_some,Zyu,Option.bind_some,if_neg (by decide),Qv.j2,if_neg (by simp)];simp only [e1,Option.bind_some,w1,w2,if_true,Qv.j1]
end
section
open Go.RowKit

section
variable {H:Type} {enc:TypeId×Value->H} {P:Program} {W:World}
def Ur {α:Type} (enc:TypeId×Value->H) (P:Program) (W:World) (t:TypeId) (r:Rep α) (sz:α->Nat) (wf:α->Prop):Prop:=
 ∀ fuel cs d ps,DataW.trod enc P W 0 (λ_=>true) true fuel t cs=some (d,ps)->∃ x,r.R (seen W) cs x/\sz x<=Rows.uptoBulk d/\wf x
theorem Z1f {k:IntKind} {n:Int} (h:(Lit.int k n).wf=true):InK k n:=by
 simp only [Lit.wf,Bool.and_eq_true,decide_eq_true_eq] at h;cases k<;>simp only [InK]<;>simp [IntKind.min,IntKind.max,IntKind.signed,IntKind.bits] at h<;>omega
theorem Ur.int {t:TypeId} {k:IntKind} (hu:P.underlying t=some (.int k)):Ur enc P W t (Rep.int k) (λ_=>1) (InK k):=by
 intro fuel cs d ps h;obtain ⟨n,rfl,he,hw⟩:=DataW.trod_int hu h;simp only [Prod.mk.injEq] at he;obtain ⟨rfl,rfl⟩:=he;exact ⟨n,rfl,by simp [Rows.uptoBulk],Z1f hw⟩
theorem Ur.bool {t:TypeId} (hu:P.underlying t=some .bool):Ur enc P W t Rep.bool (λ_=>1) (λ_=>True):=by
 intro fuel cs d ps h;obtain ⟨b,rfl,he⟩:=DataW.trod_bool hu h;simp only [Prod.mk.injEq] at he;obtain ⟨rfl,rfl⟩:=he;exact ⟨b,rfl,by simp [Rows.uptoBulk],trivial⟩
theorem Ur.str {t:TypeId} (hu:P.underlying t=some .string):Ur enc P W t Rep.str (λs=>s.size+1) (λ_=>True):=by
 intro fuel cs d ps h;obtain ⟨s,rfl,he,hw⟩:=DataW.trod_string hu h;simp only [Prod.mk.injEq] at he;obtain ⟨rfl,rfl⟩:=he;exact ⟨s,rfl,by simp [Rows.uptoBulk],trivial⟩
theorem Zhp {α β:Type} {f:α->Option β}:∀ {l:List α} {ys:List β},l.mapM f=some ys->ys.length=l.length/\∀ (i:Nat) (x:α),l[i]?=some x->f x=ys[i]?
 | [],ys,h=>by simp at h;subst h;exact ⟨rfl,λi x hx=>by simp at hx⟩
 | a::l,ys,h=>by
  rw [List.mapM_cons] at h
  simp only [bind,Option.bind_eq_some_iff,pure,Option.some.injEq] at h
  obtain ⟨y,hy,ys',hys,rfl⟩:=h
  obtain ⟨h1,h2⟩:=Zhp hys
  refine ⟨by simp [h1],λi x hx=>?_⟩
  cases i with
  | zero=>simp at hx;subst hx;simpa using hy
  | succ i=>simpa using h2 i x (by simpa using hx)
theorem Zpn {w:World} {a:Addr} {n:Nat} {cs:List Value} (h:w.cells? 0 a n=some cs):cs.length=n/\∀ j u,cs[j]?=some u->w.cell? (a.add j)=some u:=by
 unfold World.cells? at h;simp only [Nat.zero_le,if_true] at h;obtain ⟨h1,h2⟩:=Zhp h;refine ⟨by simpa using h1,λj u hu=>?_⟩;have hj:j<n:=by have:=(List.getElem?_eq_some_iff.1 hu).1;simp at h1;omega
 rw [h2 j j (by simp [hj]),hu]
theorem Zm9 {w:World} {a:Addr} {v:Value} (h:w.cell? a=some v):a.spot=none:=by
 unfold World.cell? at h;split at h
 ·split at h
  ·cases h
  ·rename_i hs
   cases hsp:a.spot with
   | none=>rfl
   | some x=>rw [hsp] at hs;simp at hs
 ·cases h
def szL {α:Type} (sz:α->Nat):List α->Nat
 | []=>1
 | x::t=>sz x+szL sz t
theorem Zbk {α:Type} {sz:α->Nat} (h1:∀ x,1<=sz x):∀ xs:List α,xs.length<szL sz xs
 | []=>by simp [szL]
 | x::t=>by have:=Zbk h1 t;have:=h1 x;simp [szL];omega
theorem Ztg {α:Type} {sz:α->Nat} {x:α}:∀ {xs:List α},x∈xs->sz x<szL sz xs
 | y::t,h=>by
  rcases List.mem_cons.1 h with rfl | h
  ·have:∀ l:List α,1<=szL sz l:=λl=>by induction l with
    | nil=>simp [szL]
    | cons a l ih=>simp [szL];omega
   have:=this t
   simp [szL];omega
  ·have:=Ztg (sz:=sz) h
   simp [szL];omega
theorem Ur.slice {α:Type} {t e sz' bytes:Nat} {r:Rep α} {sz:α->Nat} {wf:α->Prop} (he:V9 P t e sz' bytes) (hr:r.sz=sz') (h:Ur enc P W e r sz wf):Ur enc P W t (Rep.slice r) (szL sz) (λxs=>∀ x∈xs,wf x):=by
 intro fuel cs d ps h1;obtain ⟨inf,z,hi,_,hsz,_,_⟩:=he.info;have hc:P.cellsOf e=r.sz:=by simp [Program.cellsOf,hi,hsz,hr]
 have hpos:0<r.sz:=hr▸he.pos
 rcases DataW.trod_slice he.under h1 with ⟨rfl,hx⟩ | ⟨a,len,cap,elems,rest,n,_,rfl,hx,_,hl,hm,hlen,hel,_,_⟩
 ·simp only [Prod.mk.injEq] at hx
  obtain ⟨rfl,rfl⟩:=hx;exact ⟨[],⟨_,rfl,.inl ⟨rfl,none,0,rfl⟩⟩,by simp [szL,Rows.uptoBulk],λx hx=>by cases hx⟩
 ·simp only [Prod.mk.injEq] at hx
  obtain ⟨rfl,_⟩:=hx;rw [hc] at hel;have key:∀ (es:List (DataW H×List MemPlace)) (k:Nat),k+es.length=len->(∀ i y,es[i]?=some y->elems[k+i]?=some y)->
    ∃ xs:List α,xs.length=es.length/\szL sz xs<=Rows.uptoBulkAll (es.map (·.1))+1/\(∀ x∈xs,wf x)/\∀ i x,xs[i]?=some x->a.spot=none/\∃ c,r.R (seen W) c x/\∀ j u,c[j]?=some u->W.cell? ⟨a.block,a.off+(k+i)*r.sz+j,none⟩=some u:=by
   intro es
   induction es with
   | nil=>intro k _ _;exact ⟨[],rfl,by simp [szL,Rows.uptoBulkAll],λx hx=>(by cases hx),λi x hx=>(by simp at hx)⟩
   | cons y es ih=>
    intro k hk hes;have hy:=hes 0 y rfl;have h2:=hel k (by simp at hk;omega);rw [Nat.add_zero] at hy;rw [hy] at h2;obtain ⟨c,hc1,hc2⟩:=Option.bind_eq_some_iff.1 h2;obtain ⟨hc3,hc4⟩:=Zpn hc1;obtain ⟨x,hx1,hx2,hx3⟩:=h n c y.1 y.2 hc2;obtain ⟨xs,e1,e2,e3,e4⟩:=ih (k+1) (by simp at hk;omega) (λi z hz=>by
     have:=hes (i+1) z (by simpa using hz);rwa [show k+1+i=k+(i+1) by omega])
    have hlc:c.length=r.sz:=r.len hx1;have hsp:a.spot=none:=by
     have h5:=hc4 0 c[0] (List.getElem?_eq_getElem (by omega));simp only [Addr.add,if_true] at h5;have h6:=Zm9 h5;by_cases hk0:k*r.sz=0
     ·simpa [hk0] using h6
     ·have h7:=hel 0 (by simp at hk;omega)
      have h8:elems[0]?≠none:=by rw [ne_eq,List.getElem?_eq_none_iff];simp at hk;omega
      obtain ⟨z0,hz0⟩:=Option.ne_none_iff_exists'.1 h8;rw [hz0] at h7;obtain ⟨c0,hd1,hd2⟩:=Option.bind_eq_some_iff.1 h7;obtain ⟨hd3,hd4⟩:=Zpn hd1;have:=hd4 0 c0[0] (List.getElem?_eq_getElem (by omega));simp only [Nat.zero_mul,Addr.add,if_true] at this;exact Zm9 this
    have hadd:∀ m j,(a.add m).add j=⟨a.block,a.off+m+j,none⟩:=by
     intro m j
     cases a with
     | mk ab ao asp=>
      simp only at hsp;subst hsp;rw [Addr.add_lit,Addr.add_lit]
    refine ⟨x::xs,by simp [e1],?_,?_,?_⟩
    ·simp only [szL,List.map_cons,Rows.uptoBulkAll];omega
    ·intro z hz
     rcases List.mem_cons.1 hz with rfl | hz
     ·exact hx3
     ·exact e3 z hz
    ·intro i z hz
     cases i with
     | zero=>
      simp at hz;subst hz;refine ⟨hsp,c,hx1,λj u hu=>?_⟩;have:=hc4 j u hu;rw [hadd] at this;exact this
     | succ i=>
      obtain ⟨_,c',f1,f2⟩:=e4 i z (by simpa using hz);refine ⟨hsp,c',f1,λj u hu=>?_⟩;have:=f2 j u hu;rwa [show k+1+i=k+(i+1) by omega] at this
  obtain ⟨xs,e1,e2,e3,e4⟩:=key elems 0 (by omega) (λi y hy=>by rwa [Nat.zero_add]);refine ⟨xs,⟨_,rfl,?_⟩,by simp only [Rows.uptoBulk];omega,e3⟩
  cases hxs:xs with
  | nil=>
   subst hxs;have h0:len=0:=by simp at e1;omega
   subst h0;exact .inl ⟨rfl,_,_,rfl⟩
  | cons x0 xs0=>
   rw [<- hxs];have hsp:=(e4 0 x0 (by rw [hxs];rfl)).1;refine .inr ⟨a.block,a.off,cap,?_,by omega,λi x hx=>?_⟩
   ·rw [e1,hlen]
    cases a with
    | mk ab ao asp=>simp only at hsp;subst hsp;rfl
   ·obtain ⟨_,c,f1,f2⟩:=e4 i x hx
    exact ⟨c,f1,λj u hu=>by have:=f2 j u hu;rw [Nat.zero_add] at this;exact this⟩
end
end
section
open Go.RowKit
theorem Ztb {α:Type} (l:List α) (h:l.length=2):∃ a0 a1,l=[a0,a1]:=by
 match l,h with
 | [a0,a1],_=>exact ⟨a0,a1,rfl⟩
theorem Zjn {α:Type} (l:List α) (h:l.length=3):∃ a0 a1 a2,l=[a0,a1,a2]:=by
 match l,h with
 | [a0,a1,a2],_=>exact ⟨a0,a1,a2,rfl⟩
theorem Ztc {α:Type} (l:List α) (h:l.length=5):∃ a0 a1 a2 a3 a4,l=[a0,a1,a2,a3,a4]:=by
 match l,h with
 | [a0,a1,a2,a3,a4],_=>exact ⟨a0,a1,a2,a3,a4,rfl⟩
theorem Zqm {α:Type} (l:List α) (h:l.length=11):∃ a0 a1 a2 a3 a4 a5 a6 a7 a8 a9 a10,l=[a0,a1,a2,a3,a4,a5,a6,a7,a8,a9,a10]:=by
 match l,h with
 | [a0,a1,a2,a3,a4,a5,a6,a7,a8,a9,a10],_=>exact ⟨a0,a1,a2,a3,a4,a5,a6,a7,a8,a9,a10,rfl⟩
def Zeu (x:Val):Nat:=1+(λ_=>1) x.lo+(λ_=>1) x.hi+(λ_=>1) x.n
def Zit (x:Val):Prop:=(InK .i32) x.lo/\(InK .i32) x.hi/\(InK .i64) x.n
theorem Zef {H:Type} {enc:TypeId×Value->H} {W:World}:Ur enc Tryz.prog W 159 Q3 Zeu Zit:=by
 intro fuel cs d ps h;obtain ⟨xs,n,_,hx,hl,hn,hf⟩:=DataW.trod_struct Tryz.underlying159 h;have hl:cs.length=3:=hl.trans (by kernel_rfl);have hn:xs.length=3:=hn;obtain ⟨y0,y1,y2,rfl⟩:=Zjn xs hn;obtain ⟨c0,c1,c2,rfl⟩:=Zjn cs hl;simp only [Prod.mk.injEq] at hx;obtain ⟨rfl,_⟩:=hx;have g0:DataW.trod enc Tryz.prog W 0 (λ_=>true) true n 21 ((([c0,c1,c2]:List Value).drop 0).take (Tryz.prog.cellsOf 21))=some y0:=hf 0 _ rfl;rw [show Tryz.prog.cellsOf 21=1 by kernel_rfl] at g0;obtain ⟨x0,r0,s0,w0⟩:=(Ur.int Tryz.underlying21) n [c0] _ _ g0;have g1:DataW.trod enc Tryz.prog W 0 (λ_=>true) true n 21 ((([c0,c1,c2]:List Value).drop 1).take (Tryz.prog.cellsOf 21))=some y1:=hf 1 _ rfl;rw [show Tryz.prog.cellsOf 21=1 by kernel_rfl] at g1;obtain ⟨x1,r1,s1,w1⟩:=(Ur.int Tryz.underlying21) n [c1] _ _ g1;have g2:DataW.trod enc Tryz.prog W 0 (λ_=>true) true n 3 ((([c0,c1,c2]:List Value).drop 2).take (Tryz.prog.cellsOf 3))=some y2:=hf 2 _ rfl;rw [show Tryz.prog.cellsOf 3=1 by kernel_rfl] at g2;obtain ⟨x2,r2,s2,w2⟩:=(Ur.int Tryz.underlying3) n [c2] _ _ g2;obtain rfl:c0=.int .i32 x0:=by simpa using (show [c0]=[.int .i32 x0] from r0)
 obtain rfl:c1=.int .i32 x1:=by simpa using (show [c1]=[.int .i32 x1] from r1)
 obtain rfl:c2=.int .i64 x2:=by simpa using (show [c2]=[.int .i64 x2] from r2)
 refine ⟨⟨x0,x1,x2⟩,rfl,?_,⟨w0,w1,w2⟩⟩;try dsimp only at s0
 try dsimp only at s1
 try dsimp only at s2
 simp only [Zeu,List.map_cons,List.map_nil,Rows.uptoBulk,Rows.uptoBulkAll];omega
def Zfp (x:Chs):Nat:=1+(λ_=>1) x.lo+(λ_=>1) x.hi+(szL (λ_=>1)) x.is_
def Ztn (x:Chs):Prop:=(InK .i32) x.lo/\(InK .i32) x.hi/\(λxs:List Int=>∀ x∈xs,(InK .i32) x) x.is_
theorem Zk8 {H:Type} {enc:TypeId×Value->H} {W:World}:Ur enc Tryz.prog W 95 Vo Zfp Ztn:=by
 intro fuel cs d ps h;obtain ⟨xs,n,_,hx,hl,hn,hf⟩:=DataW.trod_struct Tryz.underlying95 h;have hl:cs.length=3:=hl.trans (by kernel_rfl);have hn:xs.length=3:=hn;obtain ⟨y0,y1,y2,rfl⟩:=Zjn xs hn;obtain ⟨c0,c1,c2,rfl⟩:=Zjn cs hl;simp only [Prod.mk.injEq] at hx;obtain ⟨rfl,_⟩:=hx;have g0:DataW.trod enc Tryz.prog W 0 (λ_=>true) true n 21 ((([c0,c1,c2]:List Value).drop 0).take (Tryz.prog.cellsOf 21))=some y0:=hf 0 _ rfl;rw [show Tryz.prog.cellsOf 21=1 by kernel_rfl] at g0;obtain ⟨x0,r0,s0,w0⟩:=(Ur.int Tryz.underlying21) n [c0] _ _ g0;have g1:DataW.trod enc Tryz.prog W 0 (λ_=>true) true n 21 ((([c0,c1,c2]:List Value).drop 1).take (Tryz.prog.cellsOf 21))=some y1:=hf 1 _ rfl;rw [show Tryz.prog.cellsOf 21=1 by kernel_rfl] at g1;obtain ⟨x1,r1,s1,w1⟩:=(Ur.int Tryz.underlying21) n [c1] _ _ g1;have g2:DataW.trod enc Tryz.prog W 0 (λ_=>true) true n 28 ((([c0,c1,c2]:List Value).drop 2).take (Tryz.prog.cellsOf 28))=some y2:=hf 2 _ rfl;rw [show Tryz.prog.cellsOf 28=1 by kernel_rfl] at g2;obtain ⟨x2,r2,s2,w2⟩:=(Ur.slice Kk rfl (Ur.int Tryz.underlying21)) n [c2] _ _ g2;obtain rfl:c0=.int .i32 x0:=by simpa using (show [c0]=[.int .i32 x0] from r0)
 obtain rfl:c1=.int .i32 x1:=by simpa using (show [c1]=[.int .i32 x1] from r1)
 obtain ⟨v2,e2,f2⟩:=r2;obtain rfl:c2=v2:=by simpa using e2
 refine ⟨⟨x0,x1,x2⟩,⟨_,rfl,f2⟩,?_,⟨w0,w1,w2⟩⟩;try dsimp only at s0
 try dsimp only at s1
 try dsimp only at s2
 simp only [Zfp,List.map_cons,List.map_nil,Rows.uptoBulk,Rows.uptoBulkAll];omega
def Zir (x:Spn):Nat:=1+(λ_=>1) x.lo+(λ_=>1) x.hi
def Zsd (x:Spn):Prop:=(InK .i32) x.lo/\(InK .i32) x.hi
theorem Zm4 {H:Type} {enc:TypeId×Value->H} {W:World}:Ur enc Tryz.prog W 143 J6 Zir Zsd:=by
 intro fuel cs d ps h;obtain ⟨xs,n,_,hx,hl,hn,hf⟩:=DataW.trod_struct Tryz.underlying143 h;have hl:cs.length=2:=hl.trans (by kernel_rfl);have hn:xs.length=2:=hn;obtain ⟨y0,y1,rfl⟩:=Ztb xs hn;obtain ⟨c0,c1,rfl⟩:=Ztb cs hl;simp only [Prod.mk.injEq] at hx;obtain ⟨rfl,_⟩:=hx;have g0:DataW.trod enc Tryz.prog W 0 (λ_=>true) true n 21 ((([c0,c1]:List Value).drop 0).take (Tryz.prog.cellsOf 21))=some y0:=hf 0 _ rfl;rw [show Tryz.prog.cellsOf 21=1 by kernel_rfl] at g0;obtain ⟨x0,r0,s0,w0⟩:=(Ur.int Tryz.underlying21) n [c0] _ _ g0;have g1:DataW.trod enc Tryz.prog W 0 (λ_=>true) true n 21 ((([c0,c1]:List Value).drop 1).take (Tryz.prog.cellsOf 21))=some y1:=hf 1 _ rfl;rw [show Tryz.prog.cellsOf 21=1 by kernel_rfl] at g1;obtain ⟨x1,r1,s1,w1⟩:=(Ur.int Tryz.underlying21) n [c1] _ _ g1;obtain rfl:c0=.int .i32 x0:=by simpa using (show [c0]=[.int .i32 x0] from r0)
 obtain rfl:c1=.int .i32 x1:=by simpa using (show [c1]=[.int .i32 x1] from r1)
 refine ⟨⟨x0,x1⟩,rfl,?_,⟨w0,w1⟩⟩;try dsimp only at s0
 try dsimp only at s1
 simp only [Zir,List.map_cons,List.map_nil,Rows.uptoBulk,Rows.uptoBulkAll];omega
def Zqq (x:Bk):Nat:=1+(szL (λs:ByteArray=>s.size+1)) x.names+(szL Zeu) x.status+(szL Zfp) x.maps+(szL Zeu) x.class_+(szL Zfp) x.decomp+(szL Zir) x.excl+(szL Zeu) x.bidi+(szL Zeu) x.join+(szL Zir) x.marks+(szL Zeu) x.script+(szL Zfp) x.like
def Z20 (x:Bk):Prop:=(λxs:List ByteArray=>∀ x∈xs,(λ_=>True) x) x.names/\(λxs:List Val=>∀ x∈xs,Zit x) x.status/\(λxs:List Chs=>∀ x∈xs,Ztn x) x.maps/\(λxs:List Val=>∀ x∈xs,Zit x) x.class_/\(λxs:List Chs=>∀ x∈xs,Ztn x) x.decomp/\(λxs:List Spn=>∀ x∈xs,Zsd x) x.excl/\(λxs:List Val=>∀ x∈xs,Zit x) x.bidi/\(λxs:List Val=>∀ x∈xs,Zit x) x.join/\(λxs:List Spn=>∀ x∈xs,Zsd x) x.marks/\(λxs:List Val=>∀ x∈xs,Zit x) x.script/\(λxs:List Chs=>∀ x∈xs,Ztn x) x.like
theorem Zxl {H:Type} {enc:TypeId×Value->H} {W:World}:Ur enc Tryz.prog W 27 rBk Zqq Z20:=by
 intro fuel cs d ps h;obtain ⟨xs,n,_,hx,hl,hn,hf⟩:=DataW.trod_struct Tryz.underlying27 h;have hl:cs.length=11:=hl.trans (by kernel_rfl);have hn:xs.length=11:=hn;obtain ⟨y0,y1,y2,y3,y4,y5,y6,y7,y8,y9,y10,rfl⟩:=Zqm xs hn;obtain ⟨c0,c1,c2,c3,c4,c5,c6,c7,c8,c9,c10,rfl⟩:=Zqm cs hl;simp only [Prod.mk.injEq] at hx;obtain ⟨rfl,_⟩:=hx;have g0:DataW.trod enc Tryz.prog W 0 (λ_=>true) true n 22 ((([c0,c1,c2,c3,c4,c5,c6,c7,c8,c9,c10]:List Value).drop 0).take (Tryz.prog.cellsOf 22))=some y0:=hf 0 _ rfl;rw [show Tryz.prog.cellsOf 22=1 by kernel_rfl] at g0;obtain ⟨x0,r0,s0,w0⟩:=(Ur.slice Zfc rfl (Ur.str Tryz.underlying9)) n [c0] _ _ g0;have g1:DataW.trod enc Tryz.prog W 0 (λ_=>true) true n 23 ((([c0,c1,c2,c3,c4,c5,c6,c7,c8,c9,c10]:List Value).drop 1).take (Tryz.prog.cellsOf 23))=some y1:=hf 1 _ rfl;rw [show Tryz.prog.cellsOf 23=1 by kernel_rfl] at g1;obtain ⟨x1,r1,s1,w1⟩:=(Ur.slice Zd8 rfl Zef) n [c1] _ _ g1;have g2:DataW.trod enc Tryz.prog W 0 (λ_=>true) true n 24 ((([c0,c1,c2,c3,c4,c5,c6,c7,c8,c9,c10]:List Value).drop 2).take (Tryz.prog.cellsOf 24))=some y2:=hf 2 _ rfl;rw [show Tryz.prog.cellsOf 24=1 by kernel_rfl] at g2;obtain ⟨x2,r2,s2,w2⟩:=(Ur.slice Zfd rfl Zk8) n [c2] _ _ g2;have g3:DataW.trod enc Tryz.prog W 0 (λ_=>true) true n 23 ((([c0,c1,c2,c3,c4,c5,c6,c7,c8,c9,c10]:List Value).drop 3).take (Tryz.prog.cellsOf 23))=some y3:=hf 3 _ rfl;rw [show Tryz.prog.cellsOf 23=1 by kernel_rfl] at g3;obtain ⟨x3,r3,s3,w3⟩:=(Ur.slice Zd8 rfl Zef) n [c3] _ _ g3;have g4:DataW.trod enc Tryz.prog W 0 (λ_=>true) true n 24 ((([c0,c1,c2,c3,c4,c5,c6,c7,c8,c9,c10]:List Value).drop 4).take (Tryz.prog.cellsOf 24))=some y4:=hf 4 _ rfl;rw [show Tryz.prog.cellsOf 24=1 by kernel_rfl] at g4;obtain ⟨x4,r4,s4,w4⟩:=(Ur.slice Zfd rfl Zk8) n [c4] _ _ g4;have g5:DataW.trod enc Tryz.prog W 0 (λ_=>true) true n 25 ((([c0,c1,c2,c3,c4,c5,c6,c7,c8,c9,c10]:List Value).drop 5).take (Tryz.prog.cellsOf 25))=some y5:=hf 5 _ rfl;rw [show Tryz.prog.cellsOf 25=1 by kernel_rfl] at g5;obtain ⟨x5,r5,s5,w5⟩:=(Ur.slice Zlv rfl Zm4) n [c5] _ _ g5;have g6:DataW.trod enc Tryz.prog W 0 (λ_=>true) true n 23 ((([c0,c1,c2,c3,c4,c5,c6,c7,c8,c9,c10]:List Value).drop 6).take (Tryz.prog.cellsOf 23))=some y6:=hf 6 _ rfl;rw [show Tryz.prog.cellsOf 23=1 by kernel_rfl] at g6;obtain ⟨x6,r6,s6,w6⟩:=(Ur.slice Zd8 rfl Zef) n [c6] _ _ g6;have g7:DataW.trod enc Tryz.prog W 0 (λ_=>true) true n 23 ((([c0,c1,c2,c3,c4,c5,c6,c7,c8,c9,c10]:List Value).drop 7).take (Tryz.prog.cellsOf 23))=some y7:=hf 7 _ rfl;rw [show Tryz.prog.cellsOf 23=1 by kernel_rfl] at g7;obtain ⟨x7,r7,s7,w7⟩:=(Ur.slice Zd8 rfl Zef) n [c7] _ _ g7;have g8:DataW.trod enc Tryz.prog W 0 (λ_=>true) true n 25 ((([c0,c1,c2,c3,c4,c5,c6,c7,c8,c9,c10]:List Value).drop 8).take (Tryz.prog.cellsOf 25))=some y8:=hf 8 _ rfl;rw [show Tryz.prog.cellsOf 25=1 by kernel_rfl] at g8;obtain ⟨x8,r8,s8,w8⟩:=(Ur.slice Zlv rfl Zm4) n [c8] _ _ g8
 have g9:DataW.trod enc Tryz.prog W 0 (λ_=>true) true n 23 ((([c0,c1,c2,c3,c4,c5,c6,c7,c8,c9,c10]:List Value).drop 9).take (Tryz.prog.cellsOf 23))=some y9:=hf 9 _ rfl;rw [show Tryz.prog.cellsOf 23=1 by kernel_rfl] at g9;obtain ⟨x9,r9,s9,w9⟩:=(Ur.slice Zd8 rfl Zef) n [c9] _ _ g9;have g10:DataW.trod enc Tryz.prog W 0 (λ_=>true) true n 24 ((([c0,c1,c2,c3,c4,c5,c6,c7,c8,c9,c10]:List Value).drop 10).take (Tryz.prog.cellsOf 24))=some y10:=hf 10 _ rfl;rw [show Tryz.prog.cellsOf 24=1 by kernel_rfl] at g10;obtain ⟨x10,r10,s10,w10⟩:=(Ur.slice Zfd rfl Zk8) n [c10] _ _ g10;obtain ⟨v0,e0,f0⟩:=r0;obtain rfl:c0=v0:=by simpa using e0
 obtain ⟨v1,e1,f1⟩:=r1;obtain rfl:c1=v1:=by simpa using e1
 obtain ⟨v2,e2,f2⟩:=r2;obtain rfl:c2=v2:=by simpa using e2
 obtain ⟨v3,e3,f3⟩:=r3;obtain rfl:c3=v3:=by simpa using e3
 obtain ⟨v4,e4,f4⟩:=r4;obtain rfl:c4=v4:=by simpa using e4
 obtain ⟨v5,e5,f5⟩:=r5;obtain rfl:c5=v5:=by simpa using e5
 obtain ⟨v6,e6,f6⟩:=r6;obtain rfl:c6=v6:=by simpa using e6
 obtain ⟨v7,e7,f7⟩:=r7;obtain rfl:c7=v7:=by simpa using e7
 obtain ⟨v8,e8,f8⟩:=r8;obtain rfl:c8=v8:=by simpa using e8
 obtain ⟨v9,e9,f9⟩:=r9;obtain rfl:c9=v9:=by simpa using e9
 obtain ⟨v10,e10,f10⟩:=r10;obtain rfl:c10=v10:=by simpa using e10
 refine ⟨⟨x0,x1,x2,x3,x4,x5,x6,x7,x8,x9,x10⟩,⟨_,_,_,_,_,_,_,_,_,_,_,rfl,f0,f1,f2,f3,f4,f5,f6,f7,f8,f9,f10⟩,?_,⟨w0,w1,w2,w3,w4,w5,w6,w7,w8,w9,w10⟩⟩;try dsimp only at s0
 try dsimp only at s1
 try dsimp only at s2
 try dsimp only at s3
 try dsimp only at s4
 try dsimp only at s5
 try dsimp only at s6
 try dsimp only at s7
 try dsimp only at s8
 try dsimp only at s9
 try dsimp only at s10
 simp only [Zqq,List.map_cons,List.map_nil,Rows.uptoBulk,Rows.uptoBulkAll];omega
def Zx5 (x:S10):Nat:=1+(λ_=>1) x.hyphens+(λ_=>1) x.bidi+(λ_=>1) x.joiners+(λ_=>1) x.std+(λ_=>1) x.lengths
def Z21 (x:S10):Prop:=(λ_=>True) x.hyphens/\(λ_=>True) x.bidi/\(λ_=>True) x.joiners/\(λ_=>True) x.std/\(λ_=>True) x.lengths
theorem Zxm {H:Type} {enc:TypeId×Value->H} {W:World}:Ur enc Tryz.prog W 30 Zk7 Zx5 Z21:=by
 intro fuel cs d ps h;obtain ⟨xs,n,_,hx,hl,hn,hf⟩:=DataW.trod_struct Tryz.underlying30 h;have hl:cs.length=5:=hl.trans (by kernel_rfl);have hn:xs.length=5:=hn;obtain ⟨y0,y1,y2,y3,y4,rfl⟩:=Ztc xs hn;obtain ⟨c0,c1,c2,c3,c4,rfl⟩:=Ztc cs hl;simp only [Prod.mk.injEq] at hx;obtain ⟨rfl,_⟩:=hx;have g0:DataW.trod enc Tryz.prog W 0 (λ_=>true) true n 4 ((([c0,c1,c2,c3,c4]:List Value).drop 0).take (Tryz.prog.cellsOf 4))=some y0:=hf 0 _ rfl;rw [show Tryz.prog.cellsOf 4=1 by kernel_rfl] at g0;obtain ⟨x0,r0,s0,w0⟩:=(Ur.bool Tryz.underlying4) n [c0] _ _ g0;have g1:DataW.trod enc Tryz.prog W 0 (λ_=>true) true n 4 ((([c0,c1,c2,c3,c4]:List Value).drop 1).take (Tryz.prog.cellsOf 4))=some y1:=hf 1 _ rfl;rw [show Tryz.prog.cellsOf 4=1 by kernel_rfl] at g1;obtain ⟨x1,r1,s1,w1⟩:=(Ur.bool Tryz.underlying4) n [c1] _ _ g1;have g2:DataW.trod enc Tryz.prog W 0 (λ_=>true) true n 4 ((([c0,c1,c2,c3,c4]:List Value).drop 2).take (Tryz.prog.cellsOf 4))=some y2:=hf 2 _ rfl;rw [show Tryz.prog.cellsOf 4=1 by kernel_rfl] at g2;obtain ⟨x2,r2,s2,w2⟩:=(Ur.bool Tryz.underlying4) n [c2] _ _ g2;have g3:DataW.trod enc Tryz.prog W 0 (λ_=>true) true n 4 ((([c0,c1,c2,c3,c4]:List Value).drop 3).take (Tryz.prog.cellsOf 4))=some y3:=hf 3 _ rfl;rw [show Tryz.prog.cellsOf 4=1 by kernel_rfl] at g3;obtain ⟨x3,r3,s3,w3⟩:=(Ur.bool Tryz.underlying4) n [c3] _ _ g3;have g4:DataW.trod enc Tryz.prog W 0 (λ_=>true) true n 4 ((([c0,c1,c2,c3,c4]:List Value).drop 4).take (Tryz.prog.cellsOf 4))=some y4:=hf 4 _ rfl;rw [show Tryz.prog.cellsOf 4=1 by kernel_rfl] at g4;obtain ⟨x4,r4,s4,w4⟩:=(Ur.bool Tryz.underlying4) n [c4] _ _ g4;obtain rfl:c0=.bool x0:=by simpa using (show [c0]=[.bool x0] from r0)
 obtain rfl:c1=.bool x1:=by simpa using (show [c1]=[.bool x1] from r1)
 obtain rfl:c2=.bool x2:=by simpa using (show [c2]=[.bool x2] from r2)
 obtain rfl:c3=.bool x3:=by simpa using (show [c3]=[.bool x3] from r3)
 obtain rfl:c4=.bool x4:=by simpa using (show [c4]=[.bool x4] from r4)
 refine ⟨⟨x0,x1,x2,x3,x4⟩,rfl,?_,⟨w0,w1,w2,w3,w4⟩⟩;try dsimp only at s0
 try dsimp only at s1
 try dsimp only at s2
 try dsimp only at s3
 try dsimp only at s4
 simp only [Zx5,List.map_cons,List.map_nil,Rows.uptoBulk,Rows.uptoBulkAll];omega
end
section
theorem Zuc {b:Bk} (h:Zqq b<=1048577):Few b:=by
 unfold Zqq at h;have v1:∀ x,1<=Zeu x:=λx=>by unfold Zeu;omega
 have c1:∀ x,1<=Zfp x:=λx=>by unfold Zfp;omega
 have p1:∀ x,1<=Zir x:=λx=>by unfold Zir;omega
 have a0:=Zbk (sz:=λs:ByteArray=>s.size+1) (λx=>by omega) b.names;have a1:=Zbk v1 b.status;have a2:=Zbk c1 b.maps;have a3:=Zbk v1 b.class_;have a4:=Zbk c1 b.decomp;have a5:=Zbk p1 b.excl;have a6:=Zbk v1 b.bidi;have a7:=Zbk v1 b.join;have a8:=Zbk p1 b.marks;have a9:=Zbk v1 b.script;have a10:=Zbk c1 b.like;have inn:∀ (l:List Chs),szL Zfp l<=1048577->∀ x∈l,x.is_.length<=Z2:=by
  intro l hl x hx;have h1:=Ztg (sz:=Zfp) hx;have h2:=Zbk (sz:=λ_:Int=>1) (λ_=>Nat.le_refl 1) x.is_;have h3:szL (λ_:Int=>1) x.is_<=Zfp x:=by unfold Zfp;omega
  unfold Z2;omega
 constructor;all_goals first | (unfold Z2;omega) | exact inn _ (by omega)
end
section
open Go Go.ChangeShapes
section
variable {H:Type} {enc:TypeId×Value->H}
theorem Zlz {a:Assume} {C:Checked} {os:Os} {f:FuncId} {fn:Func} {s:OpenSpec} {k:(H:Type)->List (DataW H)->Bool} (hk:s.cond=some k) {F:Stop.Interp} {conds:List PathCond} {apart fresh handsOn again:Bool} {l:List (String×DataW Unit)}
  (own:ownKnob C.prog.godebug=none) (started:os.Started) (noInit:C.prog.inits.idxOf? f=none) (hfn:C.prog.funcs[f]?=some fn)
  (witness:∃ (w:World) (tape:Tape) (i:Input),w.os=os/\(w.forCall tape i).Shaped C.prog/\i.vars=[]/\Input.okWide C.prog (w.forCall tape i) .any w.heap.size f i/\
   ((s.pre enc C.prog fn conds apart (w.forCall tape i).memory i.args/\laidMetH C.prog l (w.forCall tape i).memory)/\sizedMet enc C.prog fn s apart (w.forCall tape i).memory i.args)/\a.holds C.prog (lone (Frame.enter C.prog f i.args .normal) [] (w.forCall tape i)))
  (contract:∀ (W:World) (base:Nat) (args:Array Value) (ds gs:List (DataW H)) (before:List MemPlace),
   (∀ (j:Nat) t v,fn.params[j]?=some t->args[j]?=some v->Value.okWide C.prog W .any base t v)->
   DataW.Whole enc C.prog fn.params.toList s.vars apart W args.toList ds gs before->
   conds.all (PathCond.test C.prog ⟨fn.params.toList,ds,s.bare.plain.varTypes C.prog,gs⟩)=true->k H (ds++gs)=true->
   a.holds C.prog (lone (Frame.enter C.prog f args .normal) [] W)->
   Calls C.prog f args W λe W'=>∃ v,e=.returned v/\(s.at F).post enc C.prog fn apart fresh handsOn again W args v W'):
  ReturnsInHanded a C os f .any (λw args=>(s.pre enc C.prog fn conds apart w args/\laidMetH C.prog l w)/\sizedMet enc C.prog fn s apart w args) ((s.at F).post enc C.prog fn apart fresh handsOn again):=by
 refine returnsInHanded_of_calls own started noInit witness ?_;intro w tape i _ _ _ hok hpre hholds;obtain ⟨_,_,_,fn',hfn',_,_,_,_,hval⟩:=hok;have e:fn'=fn:=Option.some.inj (hfn'.symm.trans hfn);subst e;obtain ⟨ds,gs,before,hw,hc,hkk⟩:=(OpenSpec.pre_some hk conds apart _ _).1 hpre.1.1;have hw':=DataW.Whole.of_heap (w':=w.forCall tape i) (by rfl) hw;refine (contract (w.forCall tape i) w.heap.size i.args ds gs before hval hw' hc hkk hholds).mono λe W' ⟨v,he,hp⟩=>?_;subst he;exact ChangeSpec.post_blind hp
theorem Zyd {C:Checked} {os:Os} {f:FuncId} {fn:Func} {s:OpenSpec} {k:(H:Type)->List (DataW H)->Bool} (hk:s.cond=some k) {conds:List PathCond} {apart:Bool} {l:List (String×DataW Unit)} (modest:Bool) (w0:World) (args:Array Value) (fuel:Nat) (hos:w0.os=os)
  (hsh:(w0.forCall (λ_ _=>0) ⟨#[],args,[]⟩).Shaped C.prog)
  (hok:Input.okWideB C.prog (w0.forCall (λ_ _=>0) ⟨#[],args,[]⟩) f ⟨#[],args,[]⟩=true)
  {x:List (DataW H)×List (DataW H)×List MemPlace} (hx:DataW.whole enc C.prog (w0.forCall (λ_ _=>0) ⟨#[],args,[]⟩).memory fn.params.toList s.vars apart args.toList fuel=some x)
  (hconds:conds.all (PathCond.test C.prog ⟨fn.params.toList,x.1,s.bare.plain.varTypes C.prog,x.2.1⟩)=true) (hkk:k H (x.1++x.2.1)=true)
  (hsz:s.bare.sizedB enc C.prog fn apart (w0.forCall (λ_ _=>0) ⟨#[],args,[]⟩).memory args fuel=true)
  (hl:laidMetH C.prog l (w0.forCall (λ_ _=>0) ⟨#[],args,[]⟩).memory):
  ∃ (w:World) (tape:Tape) (i:Input),w.os=os/\(w.forCall tape i).Shaped C.prog/\i.vars=[]/\Input.okWide C.prog (w.forCall tape i) .any w.heap.size f i/\
   ((s.pre enc C.prog fn conds apart (w.forCall tape i).memory i.args/\laidMetH C.prog l (w.forCall tape i).memory)/\sizedMet enc C.prog fn s apart (w.forCall tape i).memory i.args)/\({ modest:=modest }:Assume).holds C.prog (lone (Frame.enter C.prog f i.args .normal) [] (w.forCall tape i)):=
 ⟨w0,λ_ _=>0,⟨#[],args,[]⟩,hos,hsh,(Input.okWide_of_okWideB (base:=0) hok).1,(Input.okWide_of_okWideB hok).2,
  ⟨⟨(OpenSpec.pre_some hk conds apart _ _).2 ⟨x.1,x.2.1,x.2.2,DataW.Whole_of_whole hx,hconds,hkk⟩,hl⟩,sizedMet_of_sizedB hsz⟩,by
  simp only [Assume.holds]
  exact ⟨by simp,by simp,λ_=>Modest.zero,by simp,by simp⟩⟩
end
end
section
open Go.ChangeShapes Go.WideShapes Go.ChangeAt Go.RowKit Go.Joins
set_option linter.constructorNameAsVariable false
namespace RowIdnaRules
theorem own:ownKnob Tryz.prog.godebug=none:=by kernel_rfl
theorem Zoe:laidOutB Tryz.prog=true:=by kernel_rfl
set_option maxRecDepth 100000 in
theorem Zos {W:World} {base:Nat} {v v':Value} (h:Value.okWide Tryz.prog W .any base 28 v) (e:v.cells.toList=[v']):v=v':=by
 obtain ⟨a,l,c,rfl⟩:=okWide_slice Tryz.underlying28 h;simpa [Value.cells] using e
set_option maxRecDepth 100000 in
theorem lifted (os:Os) (started:os.Started) (H:Type) (enc:TypeId×Value->H) (F:Stop.Interp):
  ReturnsInHanded {} Tryz.checked os 3 .any (λw args=>((Rows.OpenSpec.upto Rows.idnaRulesSpec).pre enc Tryz.prog Tryz.f3 Rows.idnaRulesUptoRow.domain false w args/\laidMetH Tryz.prog Rows.idnaRulesUptoRow.laid w)/\sizedMet enc Tryz.prog Tryz.f3 (Rows.OpenSpec.upto Rows.idnaRulesSpec) false w args) (((Rows.OpenSpec.upto Rows.idnaRulesSpec).at F).post enc Tryz.prog Tryz.f3 false true false false):=by
 refine Zlz (C:=Tryz.checked) (s:=Rows.OpenSpec.upto Rows.idnaRulesSpec) (k:=Rows.uptoSmall) rfl own started (by kernel_rfl) Tryz.func3
  (Zyd (enc:=enc) (C:=Tryz.checked) (s:=Rows.OpenSpec.upto Rows.idnaRulesSpec) (k:=Rows.uptoSmall) rfl false (World.laidAll Tryz.prog os Rows.idnaRulesUptoRow.laid) #[.agg #[.slice none 0 0,.slice none 0 0,.slice none 0 0,.slice none 0 0,.slice none 0 0,.slice none 0 0,.slice none 0 0,.slice none 0 0,.slice none 0 0,.slice none 0 0,.slice none 0 0],.slice none 0 0,.agg #[.bool false,.bool false,.bool false,.bool false,.bool false]] 8 (World.laidAll_os _ _ _) (World.shaped_of_ZipB (by kernel_rfl) (by kernel_rfl)) (by kernel_rfl)
   (x:=([(.agg [.nil,.nil,.nil,.nil,.nil,.nil,.nil,.nil,.nil,.nil,.nil]),.nil,(.agg [(.lit (.bool false)),(.lit (.bool false)),(.lit (.bool false)),(.lit (.bool false)),(.lit (.bool false))])],[],[])) (by kernel_rfl) rfl rfl (by kernel_rfl) (by rw [MakeChecks.laidMetH_plain _ _ _ (by kernel_rfl)];exact laidMet_laidAll _ (by kernel_rfl) (by kernel_rfl))) ?_
 intro W base args ds gs before hval0 hW hk0 hk _;have hval:∀ (j:Nat) t v,Tryz.f3.params[j]?=some t->args[j]?=some v->Value.okWide Tryz.prog W .any base t v:=hval0;have hW':=hW;obtain ⟨p,q,hA0,hV,rfl,hfz,hnd⟩:=hW;have hA:DataW.TrodAll enc Tryz.prog W 0 (λ_=>true) true Tryz.f3.params.toList args.toList ds p:=hA0;rw [Tryz.params3] at hA hval;obtain ⟨v0,vs0,d0,ds0,p0,q0,hargs,rfl,rfl,h0,r0⟩:=trodAll_cons hA;obtain ⟨v1,vs1,d1,ds1,p1,q1,rfl,rfl,rfl,h1,r1⟩:=trodAll_cons r0;obtain ⟨v2,vs2,d2,ds2,p2,q2,rfl,rfl,rfl,h2,r2⟩:=trodAll_cons r1;obtain ⟨rfl,rfl,rfl⟩:=trodAll_nil r2;obtain rfl:args=#[v0,v1,v2]:=by cases args;simp_all
 obtain ⟨rfl,rfl⟩:=trodVars_none hV;have k0:=h0;have lt0:∀ x∈p0,x.block<W.heap.size:=by obtain ⟨m,hm⟩:=k0;exact DataW.trod_lt m _ _ _ hm
 have k1:=h1;have lt1:∀ x∈p1,x.block<W.heap.size:=by obtain ⟨m,hm⟩:=k1;exact DataW.trod_lt m _ _ _ hm
 have k2:=h2;have lt2:∀ x∈p2,x.block<W.heap.size:=by obtain ⟨m,hm⟩:=k2;exact DataW.trod_lt m _ _ _ hm
 obtain ⟨c0,rfl,_⟩:=okWide_struct Tryz.underlying27 (hval 0 27 v0 rfl rfl);obtain ⟨m0,hm0⟩:=h0;obtain ⟨x0,f0,s0,w0⟩:=Zxl m0 _ _ _ hm0;obtain ⟨m1,hm1⟩:=h1;obtain ⟨x1,⟨v1',e1,f1⟩,s1,w1⟩:=(Ur.slice Kk rfl (Ur.int Tryz.underlying21)) m1 _ _ _ hm1;have hv1:v1=v1':=Zos (hval 1 28 v1 rfl rfl) e1;subst hv1;obtain ⟨c2,rfl,_⟩:=okWide_struct Tryz.underlying30 (hval 2 30 v2 rfl rfl);obtain ⟨m2,hm2⟩:=h2;obtain ⟨x2,f2,s2,w2⟩:=Zxm m2 _ _ _ hm2;have hbulk:Rows.uptoBulkAll [d0,d1,d2]<=1048576:=of_decide_eq_true hk;have hsz:Zqq x0+(szL (λ_=>1)) x1+Zx5 x2<=1048576:=by simp only [Rows.uptoBulkAll] at hbulk;omega
 have hT:Qv.f x0 x1 x2=some true:=Zkj x0 (Zuc (by omega)) x1 (by have:=Zbk (sz:=λ_:Int=>1) (λ_=>Nat.le_refl 1) x1;omega) x2;refine ((Qv.c (St.refl W) (c0:=c0.toList) (c2:=c2.toList) f0 f1 f2 hT).2.mono λe W' h=>?_);obtain ⟨v,rfl,rfl,hs⟩:=h;have bel:=hs.below;exact ⟨_,rfl,_,_,_,[],_,[],hW',trodAll_mk1 (shut_bool Tryz.underlying4 _),(trodAll_cons_mk (Below.trod Zoe (by kernel_rfl) (of_decide_eq_true (by kernel_rfl)) k0 bel lt0) (trodAll_cons_mk (Below.trod Zoe (by kernel_rfl) (of_decide_eq_true (by kernel_rfl)) k1 bel lt1) (trodAll_cons_mk (Below.trod Zoe (by kernel_rfl) (of_decide_eq_true (by kernel_rfl)) k2 bel lt2) trodAll_mk0))),rfl,bel.frame _,λh=>by cases h⟩
end RowIdnaRules
set_option maxRecDepth 100000 in
theorem Zif:joinedFacts Tryz.prog 3 Tryz.f3 (Rows.OpenSpec.upto Rows.idnaRulesSpec).bare Rows.idnaRulesUptoRow=true:=by kernel_rfl
set_option maxRecDepth 100000 in
theorem Zez:Rows.IdnaRulesUptoSaid:=
 OpenClaim.holds_of_cond 3 Tryz.f3 rfl rfl rfl rfl rfl rfl rfl ⟨rfl,rfl,rfl,rfl,rfl⟩ rfl rfl rfl rfl rfl (by kernel_rfl) Tryz.func3 Zif
  (of_decide_eq_true (by kernel_rfl)) (by unfold Func.isWrapper;first | (rw [if_pos (by decide +kernel)];kernel_rfl) | (rw [if_neg (by decide +kernel)];exact ⟨rfl,rfl⟩))
  (λos started H enc _ F=>RowIdnaRules.lifted os started H enc F)
#print axioms Zez
end
section
open Go.ChangeShapes Go.WideShapes Go.ChangeAt
theorem idnaRules_card:Rows.IdnaRulesUptoCardSaid:=
 Claim7.holds_tied_plain_at .later [] [.data,.pinned] true (true,"e53616a7e845c9dc5f2d9430cefa56796e58ee49fd0021af25f325ecec50b7d1") false Zez (λ_ h=>by cases h) (by kernel_rfl) (λ_ h=>by cases h) idnaRulesUpto_row_tie rfl ⟨rfl,rfl⟩ (by kernel_rfl) rfl
  (λf fn hf hfn=>by
   obtain rfl:f=3:=Option.some.inj ((show Tryz.prog.funcNamed "postern/posternlaw19.IdnaRules"=some 3 by kernel_rfl).symm.trans hf) |>.symm
   obtain rfl:fn=Tryz.f3:=(Option.some.inj (Tryz.func3.symm.trans hfn)).symm
   exact ⟨by kernel_rfl,λj t ht=>by
    rw [Tryz.params3] at ht
    have hm:t∈[27,28,30]:=by simpa using Array.mem_of_getElem? ht
    have hall:([27,28,30].all λu=>!Tryz.prog.wantsStandIn u)=true:=by kernel_rfl
    exact (show Tryz.prog.wantsStandIn t=false by simpa using List.all_eq_true.1 hall t hm)⟩)
  (by kernel_rfl)
#print axioms idnaRules_card
end
end Go.Proofs.YtdkkmdeanfcfnaaGreatDoor
