/- Texts of this repo, merged for the claim: PureJ, PureK, PureX, PureCR, PureLI, PureLB, PureLC, PureLW, PureLD, PureLE, PureLF, PureLG, PureLH, PureLK, PureLN, PureLP, PureIA, PureIB, PureIC, PureID, PureIE, PureIF, PureIG, PureLA, PureIH, PureIJ, PureIL, PureIK, PureIM, EngR, Reads, Few, LaidRow, RowIdnaSame, CardIdnaSame. -/
import Derived.Test.YtdkkmdeanfcfnaaGreatDoorWhole1
import Derived.Test.YtdkkmdeanfcfnaaGreatDoorWhole2
import Derived.Test.YtdkkmdeanfcfnaaGreatDoorWhole5
import Derived.Test.YtdkkmdeanfcfnaaGreatDoorWhole4
import Derived.Test.YtdkkmdeanfcfnaaGreatDoorWhole3
import Derived.Test.YtdkkmdeanfcfnaaGreatDoorWhole0
import Derived.Test.YtdkkmdeanfcfnaaGreatDoorRows
import Derived.ChangeArms
import Derived.JoinedCond
import Derived.Lay
import Derived.LaidOnce
import Derived.LaidLaws
import Derived.WalkKit
import Derived.ProofKit
import Derived.OpenShut
import Derived.ShutString
import Derived.ChangeOld
import Derived.Below
import Derived.Lib.SmallJoins
import Derived.Test.YtdkkmdeanfcfnaaGreatDoorCards
import Derived.Test.YtdkkmdeanfcfnaaGreatDoorTie
import Derived.SevenTiedAt
namespace Go.Proofs.YtdkkmdeanfcfnaaGreatDoor
section
open Go.IntKind (i8 i16 i32 i64 u8 u16 u32 u64)
open Go.RowKit

def Zt3 (v0:Blk) (l:List Val) (p:Int) (o:Option (Bool×Int×Blk)):Prop:=
 ∃ any v' done' rest',o=some (any,(done'.length:Int),v')/\l=done'++rest'/\(∀ x∈done',x.hi<p)/\Zka v' l p/\(any=false->v'=v0)
theorem Zx7 (l done rest:List Val) (p:Int) (hl:Zbd l) (hp:0<=p) (hp1:p<=1113984) (el:l=done++rest) (hd:∀ x∈done,x.hi<p) (hr:∀ x,rest.head?=some x->¬ x.hi<p):
  Zt3 Zd3 l p (Yd.l2 K0 l p (done.length:Int) Zd3 false 0):=by
 have hb:l.length<=Z2:=by have:=hl.1;unfold Z2;omega
 have hrl:rest.length<=Z2:=by rw [el] at hb;simp at hb;omega
 have hs:sub l (done.length:Int) (l.length:Int)=rest:=Zlc el;have hlast:i32.wrap ((i32.wrap (p+128))-1)=p+127:=by rw [w32 (x:=p+128) (by omega) (by omega),w32 (by omega) (by omega)];omega
 have hdn:∀ (b:List Val) (j:Int),0<=j->Hg (done++b) (p+j)=Hg b (p+j):=λb j h0=>Zib λx hx=>by
  have:=hd x hx;simp [inB,show ¬ p+j<=x.hi by omega]
 refine Xu (λk i (s:Blk×Bool)=>Yd.l2 k l p (done.length:Int) s.1 s.2 i) rest
  (λpre t s o=>Zka s.1 pre p->(s.2=false->s.1=Zd3)->Zt3 Zd3 l p o) ?_ ?_ (Zd3,false) K0 (ltK hrl) (λj _ _=>by rw [Hg];exact Z07) (λ_=>rfl)
 ·intro ⟨v,any⟩ k hv ha
  simp only [Yd.l2,hs,Yd.j1];rw [if_neg (by omega)];exact ⟨any,v,done,rest,rfl,el,hd,λj h0 h1=>by rw [el,hdn _ _ h0];exact hv j h0 h1,ha⟩
 ·intro pre x t ⟨v,any⟩ k e ih hv ha
  simp only at hv ha;obtain ⟨h1,h2⟩:=mid e;have e2:l=(done++pre)++x::t:=by rw [el,e];simp
  have hok:=hl.2;rw [e2] at hok;obtain ⟨g1,g2,g3,g4,g5,g6⟩:=Zmi hok;simp only [Zd0,Bool.and_eq_true,decide_eq_true_eq] at g6;simp only [Yd.l2,hs,h1,hlast,Yd.j1];rw [if_pos h2.2,if_pos h2];by_cases c:p+127<x.lo
  ·rw [if_pos c]
   refine ⟨any,v,done,rest,rfl,el,hd,λj h0 h1=>?_,ha⟩;rw [el,hdn _ _ h0,e,Zic (λy hy=>?_)]
   ·exact hv j h0 h1
   ·rcases List.mem_cons.1 hy with rfl | hy
    ·simp [inB,show ¬ y.lo<=p+j by omega]
    ·have:=g2 y hy
     simp [inB,show ¬ y.lo<=p+j by omega]
  ·rw [if_neg c]
   have hx0:p<=x.hi:=by
    cases pre with
    | nil=>have:=hr x (by rw [e];rfl);omega
    | cons y pre=>
     have h3:=hr y (by rw [e];rfl);have h4:=g1 y (by simp);omega
   obtain ⟨v',f1,f2⟩:=Z0e (Yd.l2 k l p (done.length:Int)) l done rest p (pre.length:Int) x v hp hp1 el h1 hx0 (by omega) g4 (by omega) g5 g6 (nxt hrl e);rw [f1];refine ih (v',true) (λj h0 h1=>?_) (λh=>by cases h);show vg v' j=_;rw [f2 j h0 h1];by_cases c2:inB (p+j) x=true
   ·have:∀ y∈pre,inB (p+j) y=false:=λy hy=>by
     have:=g1 y (by simp [hy]);simp only [inB,Bool.and_eq_true,decide_eq_true_eq] at c2;simp [inB,show ¬ p+j<=y.hi by omega]
    rw [if_pos c2,Zib this,Hg,if_pos c2]
   ·rw [if_neg c2,Zic (λy hy=>by rw [List.mem_singleton.1 hy];simpa using c2)]
    exact hv j h0 h1
theorem Z2j (l:List Val) (p:Int) (hl:Zbd l) (hp:0<=p) (hp1:p<=1113984):∀ (rest done:List Val),l=done++rest->(∀ x∈done,x.hi<p)->Zt3 Zd3 l p (Yd.f l p (done.length:Int) Zd3):=by
 have hb:l.length<=Z2:=by have:=hl.1;unfold Z2;omega
 have key:∀ (rest done:List Val) (k:Nat),rest.length<k->l=done++rest->(∀ x∈done,x.hi<p)->Zt3 Zd3 l p (Yd.l3 k Zd3 l p (done.length:Int)):=by
  intro rest
  induction rest with
  | nil=>
   intro done k hk e hd;obtain ⟨k,rfl⟩:∃ j,k=j+1:=⟨k-1,by simp at hk;omega⟩;have hlen:l.length=done.length:=by rw [e];simp
   simp only [Yd.l3,Yd.j2];rw [if_neg (by omega),if_neg (by decide),if_pos ⟨by omega,by omega,by omega⟩];exact Zx7 l done [] p hl hp hp1 e hd (λx hx=>by cases hx)
  | cons x t ih=>
   intro done k hk e hd;obtain ⟨k,rfl⟩:∃ j,k=j+1:=⟨k-1,by simp at hk;omega⟩;obtain ⟨h1,h2⟩:=mid e;simp only [Yd.l3,Yd.j2,h1];rw [if_pos h2.2,if_pos h2];by_cases c:x.hi<p
   ·rw [if_pos (by simpa using c),nxt hb e]
    have:=ih (done++[x]) k (by simp at hk;omega) (by rw [e];simp) (λy hy=>by
     rcases List.mem_append.1 hy with hy | hy
     ·exact hd y hy
     ·rw [List.mem_singleton.1 hy];exact c)
    simpa using this
   ·rw [if_neg (by simpa using c),if_pos ⟨by omega,by omega,by omega⟩]
    exact Zx7 l done (x::t) p hl hp hp1 e hd (λy hy=>by simp at hy;subst hy;exact c)
 intro rest done e hd;exact key rest done K0 (ltK (by rw [e] at hb;simp at hb;omega)) e hd
theorem Z0o (l:List Val) (p:Int) (hl:Zbd l) (hp:0<=p) (hp1:p<=1113984) (rest done:List Val) (e:l=done++rest) (hd:∀ x∈done,x.hi<p):
  ∃ any v' done' rest',Xm.f p Zd3 none l (done.length:Int)=some (any,v',(done'.length:Int))/\l=done'++rest'/\(∀ x∈done',x.hi<p)/\Zka v' l p/\(any=false->v'=Zd3):=by
 obtain ⟨any,v',done',rest',f1,f2,f3,f4,f5⟩:=Z2j l p hl hp hp1 rest done e hd;refine ⟨any,v',done',rest',?_,f2,f3,f4,f5⟩;rw [Xm.f,if_neg (by decide),Xm.j2,f1,Option.bind_some];cases any<;>rfl
theorem Zvt (v:Blk):∃ w,Qf.f v=some w:=by
 unfold Qf.f;exact Zk6 (λk i (_:Unit)=>Qf.l1 k v i) 128 (λi _ o=>0<=i->∃ w,o=some w)
  (λ_ k _=>⟨true,by simp only [Qf.l1];rw [if_neg (by decide)]⟩)
  (λi _ k hi ih h0=>by
   simp only [Qf.l1]
   rw [if_pos hi,if_pos ⟨h0,by omega⟩,if_pos ⟨by omega,by omega⟩]
   by_cases c:vg v i≠vg v 0
   ·exact ⟨false,by rw [if_pos c]⟩
   ·rw [if_neg c,w64 (by omega) (by omega)]
    exact ih () (by omega)) 128 0 () K0 (by omega) (by unfold K0;omega) (Int.le_refl _)
structure Z2w where
 flat:List Bool
 blks:List Blk
 seen:List (Blk×Int)
 which:Vector Int 8704
 past:Int
 plain:Int
structure Z1s (l:List Val) (i:Int) (s:Z2w):Prop where
 few:(s.blks.length:Int)<=i
 flat:s.flat.length=s.blks.length
 seen:∀ v j,U3 s.seen v=some j->0<=j/\j<(s.blks.length:Int)/\rd s.blks j=v
 which:∀ b:Int,0<=b->b<i->0<=vg s.which b/\vg s.which b<(s.blks.length:Int)/\Zka (rd s.blks (vg s.which b)) l (128*b)
 plain:0<=s.plain->s.plain<(s.blks.length:Int)/\rd s.blks s.plain=Zd3
 past:∃ done rest,l=done++rest/\s.past=(done.length:Int)/\∀ x∈done,x.hi<128*i
def Zhg (l:List Val) (T:Tab):Prop:=∀ b:Int,0<=b->b<8704->0<=vg T.which b/\vg T.which b<(T.unlike.length:Int)/\Zka (rd T.unlike (vg T.which b)) l (128*b)
theorem Zyt {α:Type} [Inhabited α] {a b:List α} {i:Int} (h0:0<=i) (h1:i<(a.length:Int)):rd (a++b) i=rd a i:=by
 unfold rd;rw [List.getD_eq_getElem?_getD,List.getD_eq_getElem?_getD,List.getElem?_append_left (by omega)]
theorem Zys {α:Type} [Inhabited α] {a:List α} {x:α}:rd (a++[x]) (a.length:Int)=x:=by simp [rd]
theorem Zme {l:List Val} {i w:Int} {W:Vector Int 8704} {U U':List Blk} {v:Blk} (hi0:0<=i) (hi1:i<8704) (hw0:0<=w) (hw1:w<(U'.length:Int)) (hv:rd U' w=v) (hh:Zka v l (128*i))
  (hU:∀ j:Int,0<=j->j<(U.length:Int)->j<(U'.length:Int)/\rd U' j=rd U j)
  (h:∀ b:Int,0<=b->b<i->0<=vg W b/\vg W b<(U.length:Int)/\Zka (rd U (vg W b)) l (128*b)):
  ∀ b:Int,0<=b->b<i+1->0<=vg (Zel W i w) b/\vg (Zel W i w) b<(U'.length:Int)/\Zka (rd U' (vg (Zel W i w) b)) l (128*b):=by
 intro b h0 h1;rw [Zu3 W w hi0 (by omega) h0 (by omega)];by_cases c:i=b
 ·rw [if_pos c]
  subst c;exact ⟨hw0,hw1,by rw [hv];exact hh⟩
 ·rw [if_neg c]
  obtain ⟨a1,a2,a3⟩:=h b h0 (by omega);obtain ⟨b1,b2⟩:=hU _ a1 a2;exact ⟨a1,b1,by rw [b2];exact a3⟩
theorem Z0i (l:List Val) (hl:Zbd l):∃ T r,Yc.f none l 0=some (some T,r)/\Zhg l T:=by
 refine Zk6 (λk i (s:Z2w)=>Yc.l1 k none l s.flat s.blks Zd3 s.seen s.which s.past s.plain i) 8704
  (λi s o=>0<=i->Z1s l i s->∃ T r,o=some (some T,r)/\Zhg l T) ?_ ?_ 8704 0 ⟨[],[],[],Vector.replicate 8704 0,0,-1⟩ K0 (by omega) (by unfold K0;omega) (Int.le_refl _) ?_
 ·intro s k _ h
  refine ⟨⟨s.which,s.blks,s.flat⟩,s.past,?_,h.which⟩;show Yc.l1 (k+1) none l s.flat s.blks Zd3 s.seen s.which s.past s.plain 8704=_;rw [Yc.l1,if_neg (by decide)]
 ·intro i s k hi ih h0 h
  obtain ⟨done,rest,e1,e2,e3⟩:=h.past;have hpi:i32.wrap (i64.wrap (i*128))=128*i:=by rw [w64 (by omega) (by omega),w32 (by omega) (by omega)];omega
  obtain ⟨any,v',done',rest',f1,f2,f3,f4,f5⟩:=Z0o l (128*i) hl (by omega) (by omega) rest done e1 e3;have hpast:∃ d r,l=d++r/\(done'.length:Int)=(d.length:Int)/\∀ x∈d,x.hi<128*(i+1):=⟨done',rest',f2,rfl,λx hx=>by have:=f3 x hx;omega⟩;have hfew:=h.few;have hmost:∀ n:Nat,(n:Int)<=i->n+1<=most:=λn hn=>by unfold most;omega
  have hmostL:∀ n:Nat,(n:Int)<=i->n+1<=Zum:=λn hn=>by unfold Zum;omega
  have hbl:(Vector.replicate 128 0:Vector Int 128)=Zd3:=rfl;show ∃ T r,Yc.l1 (k+1) none l s.flat s.blks Zd3 s.seen s.which s.past s.plain i=some (some T,r)/\Zhg l T;rw [Yc.l1,if_pos hi,hpi,e2,f1,Option.bind_some];have fin:∀ (F:List Bool) (U:List Blk) (S:List (Blk×Int)) (w:Int),(U.length:Int)<=i+1->F.length=U.length->(∀ v j,U3 S v=some j->0<=j/\j<(U.length:Int)/\rd U j=v)->
    (∀ j:Int,0<=j->j<(s.blks.length:Int)->j<(U.length:Int)/\rd U j=rd s.blks j)->0<=w->w<(U.length:Int)->rd U w=v'->
    ∃ T r,Yc.j2 (Yc.l1 k none l) s.which s.plain i (any,v',(done'.length:Int)) F U S w=some (some T,r)/\Zhg l T:=by
   intro F U S w a1 a2 a3 a4 a5 a6 a7;rw [Yc.j2,if_pos ⟨h0,by omega⟩];have hwhich:=Zme h0 hi a5 a6 a7 f4 a4 h.which
   cases any with
   | true=>
    rw [if_pos rfl,Yc.j1,w64 (x:=i+1) (by omega) (by omega),hbl];exact ih ⟨F,U,S,Zel s.which i w,(done'.length:Int),s.plain⟩ (by omega) ⟨a1,a2,a3,hwhich,λhp=>by obtain ⟨c1,c2⟩:=h.plain hp;obtain ⟨d1,d2⟩:=a4 _ hp c1;exact ⟨d1,by rw [d2];exact c2⟩,hpast⟩
   | false=>
    have hv:=f5 rfl;rw [if_neg (by simp),Yc.j1,w64 (x:=i+1) (by omega) (by omega),w64 (x:=w) (by omega) (by omega)];show ∃ T r,Yc.l1 k none l F U v' S (Zel s.which i w) (done'.length:Int) w (i+1)=some (some T,r)/\Zhg l T;rw [hv];exact ih ⟨F,U,S,Zel s.which i w,(done'.length:Int),w⟩ (by omega) ⟨a1,a2,a3,hwhich,λ_=>⟨a6,by rw [a7,hv]⟩,hpast⟩
  have look:∃ T r,Yc.j3 (Yc.l1 k none l) s.flat s.blks s.seen s.which s.plain i (any,v',(done'.length:Int)) false=some (some T,r)/\Zhg l T:=by
   rw [Yc.j3,if_neg (by decide)]
   cases em:U3 s.seen v' with
   | none=>
    obtain ⟨w,hw⟩:=Zvt v';dsimp only;rw [if_pos (by rfl),if_pos (show s.blks.length+[v'].length<=Zum from hmostL _ hfew),hw,Option.bind_some,if_pos (show s.flat.length+[w].length<=most from hmost _ (by rw [h.flat];exact hfew)),w16 (by omega) (by omega)];refine fin _ _ _ _ (by simp;omega) (by simp [h.flat]) (λv j ej=>?_) (λj j0 j1=>⟨by simp;omega,Zyt j0 j1⟩) (by omega) (by simp;omega) Zys;rw [Ze8] at ej;by_cases c:v=v'
    ·rw [if_pos c] at ej
     have:(s.blks.length:Int)=j:=by simpa using ej
     subst this;exact ⟨by omega,by simp;omega,by rw [Zys,c]⟩
    ·rw [if_neg c] at ej
     obtain ⟨c1,c2,c3⟩:=h.seen v j ej;exact ⟨c1,by simp;omega,by rw [Zyt c1 c2];exact c3⟩
   | some w=>
    obtain ⟨c1,c2,c3⟩:=h.seen v' w em;rw [if_neg (by simp)];exact fin _ _ _ _ (by omega) h.flat h.seen (λj j0 j1=>⟨j1,rfl⟩) c1 c2 c3
  cases any with
  | true=>rw [if_neg (by simp)];exact look
  | false=>
   rw [if_pos (by rfl)];by_cases c:0<=s.plain
   ·obtain ⟨c1,c2⟩:=h.plain c
    have hv:=f5 rfl;rw [Yc.j3,if_pos (by simpa using c),if_pos ⟨h0,by omega⟩,Yc.j1,w64 (x:=i+1) (by omega) (by omega),w16 c (by omega)];show ∃ T r,Yc.l1 k none l s.flat s.blks v' s.seen (Zel s.which i s.plain) (done'.length:Int) s.plain (i+1)=some (some T,r)/\Zhg l T;rw [hv];rw [hv] at f4;exact ih ⟨s.flat,s.blks,s.seen,Zel s.which i s.plain,(done'.length:Int),s.plain⟩ (by omega) ⟨by show (s.blks.length:Int)<=i+1;omega,h.flat,h.seen,Zme h0 hi c c1 c2 f4 (λj j0 j1=>⟨j1,rfl⟩) h.which,h.plain,hpast⟩
   ·rw [show decide (0<=s.plain)=false by simpa using c];exact look
 ·exact ⟨by simp,rfl,λv j e=>(by cases e),λb h0 h1=>(by omega),λh=>absurd h (by decide),[],l,rfl,rfl,λx hx=>(by cases hx)⟩
theorem Zxf (l:List Val) (hl:Zbd l):∃ T,Hf.f l=some (some T,0,0)/\Zhg l T:=by
 obtain ⟨T,r,h1,h2⟩:=Z0i l hl;refine ⟨T,?_,h2⟩;rw [Hf.f,H2.f,Zmy hl,Option.bind_some,if_neg (by decide),h1];rfl
theorem Zkt {l:List Val} (h:∀ x∈l,0<=x.n/\x.n<=65535) (p:Int):0<=Hg l p/\Hg l p<=65535:=by
 induction l with
 | nil=>simp [Hg]
 | cons x t ih=>
  unfold Hg;split
  ·exact h x (List.mem_cons_self ..)
  ·exact ih λy hy=>h y (List.mem_cons_of_mem _ hy)
theorem Z0g {l:List Val} (hl:Zbd l) {T:Tab} (hT:Zhg l T) (p:Int) (h0:0<=p) (h1:p<=1114111):Zv.f (some T) p=some (Hg l p):=by
 have hq:p.tdiv 128=p/128:=Int.tdiv_eq_ediv_of_nonneg h0;have hm:p.tmod 128=p%128:=Int.tmod_eq_emod_of_nonneg h0;obtain ⟨a1,a2,a3⟩:=hT (p/128) (by omega) (by omega);have hv:=a3 (p%128) (by omega) (by omega);rw [show 128*(p/128)+p%128=p by omega] at hv;have hr:=Zkt (l:=l) (λx hx=>by
  have:=(Zbm hl.2 x hx).2.2.2;simpa [Zd0] using this) p
 simp only [Zv.f,Zv.j1,hq,hm];rw [if_neg (by simp),if_neg (by omega),if_neg (by simp;omega),if_pos (by rfl),w32 (by omega) (by omega),if_pos ⟨by omega,by omega⟩];simp only [Option.getD_some];rw [if_pos ⟨a1,a2⟩,if_pos ⟨by omega,by omega⟩,hv,w64 (by omega) (by omega)]
theorem Zl8 (T:Option Tab) (p:Int) (h:p<0\/1114111<p):Zv.f T p=some 0:=by
 simp only [Zv.f,Zv.j1];split
 ·rfl
 ·split
  ·rfl
  ·rw [if_pos (by simp;omega)]
end
section
open Go.RowKit

theorem Zq3 (l:List Val):∃ a e,Xt.f l=some (a,e)/\(e=0->Zbd l):=by
 unfold Xt.f;by_cases c:(65536:Int)<l.length
 ·exact ⟨_,_,by rw [if_pos c],λh=>absurd h (by decide)⟩
 ·rw [if_neg c]
  have hl:l.length<=Z2:=by unfold Z2;omega
  have:=Xu (λk i last=>Xt.l1 k l last i) l (λpre t last o=>∃ a e,o=some (a,e)/\(e=0->Vn (·.lo) (·.hi) Zd0 last t=true))
   (λs k=>⟨0,0,by simp only [Xt.l1,if_neg (show ¬ (l.length:Int)<(l.length:Int) by omega)],λ_=>rfl⟩)
   (λpre x t s k e ih=>by
    obtain ⟨h1,h2⟩:=mid e
    simp only [Xt.l1,if_pos h2.2,if_pos h2,h1,Xt.j2,Xt.j1,nxt hl e]
    by_cases c1:x.lo<=s
    ·exact ⟨_,80,by rw [if_pos c1,if_pos True.intro],λh=>absurd h (by decide)⟩
    ·rw [if_neg c1]
     by_cases c2:x.hi<x.lo
     ·exact ⟨_,80,by rw [if_pos c2,if_pos True.intro],λh=>absurd h (by decide)⟩
     ·rw [if_neg c2]
      by_cases c3:1114111<x.hi
      ·exact ⟨_,80,by rw [if_pos (by simpa using c3)],λh=>absurd h (by decide)⟩
      ·rw [if_neg (by simpa using c3)]
       by_cases c4:x.n<0
       ·exact ⟨_,81,by rw [if_pos c4,if_pos True.intro],λh=>absurd h (by decide)⟩
       ·rw [if_neg c4]
        by_cases c5:65535<x.n
        ·exact ⟨_,81,by rw [if_pos (by simpa using c5)],λh=>absurd h (by decide)⟩
        ·rw [if_neg (by simpa using c5)]
         obtain ⟨a,e2,h3,h4⟩:=ih x.hi
         refine ⟨a,e2,h3,λh=>?_⟩
         rw [Zbv c1 c2 c3 (by simp only [Zd0,Bool.and_eq_true,decide_eq_true_eq];omega)]
         exact h4 h) (-1) K0 (ltK hl)
  obtain ⟨a,e,h1,h2⟩:=this;exact ⟨a,e,h1,λh=>⟨by omega,h2 h⟩⟩
def Zc0 (l:List Val) (T:Option Tab):Prop:=(¬ Zbd l->T=none)/\(Zbd l->∃ t,T=some t/\Zhg l t)
theorem Zjn (l:List Val):∃ T x y,Hf.f l=some (T,x,y)/\Zc0 l T:=by
 by_cases c:Zbd l
 ·obtain ⟨T,h1,h2⟩:=Zxf l c
  exact ⟨some T,0,0,h1,λh=>absurd c h,λ_=>⟨T,rfl,h2⟩⟩
 ·obtain ⟨a,e,h1,h2⟩:=Zq3 l
  have he:e≠0:=λh=>c (h2 h);refine ⟨none,a,e,?_,λ_=>rfl,λh=>absurd h c⟩;rw [Hf.f,H2.f,h1,Option.bind_some,if_pos he];rfl
theorem Zgt {l:List Val} {T:Option Tab} (h:Zc0 l T) (hl:Zbd l) (p:Int) (h0:0<=p) (h1:p<=1114111):Zv.f T p=some (Hg l p):=by
 obtain ⟨t,rfl,ht⟩:=h.2 hl;exact Z0g hl ht p h0 h1
theorem Zga (l:List Val):∃ T,Kf.f l=some T/\Zc0 l T:=by
 obtain ⟨T,x,y,h1,h2⟩:=Zjn l;exact ⟨T,by rw [Kf.f,h1];rfl,h2⟩
def Zkj (l:List Spn):List Val:=l.map λx=>⟨x.lo,x.hi,1⟩
theorem Zok (l:List Spn) (hl:l.length<=Z2):∃ T,V1.f l=some T/\Zc0 (Zkj l) T:=by
 obtain ⟨T,x,y,h1,h2⟩:=Zjn (Zkj l);refine ⟨T,?_,h2⟩;refine Xu (λk i s=>V1.l1 k l s i) l (λpre t s o=>s=Zkj pre->o=some T) ?_ ?_ [] K0 (ltK hl) rfl
 ·intro s k hs
  simp only [V1.l1,if_neg (show ¬ (l.length:Int)<(l.length:Int) by omega),hs,h1];rfl
 ·intro pre x t s k e ih hs
  obtain ⟨h3,h4⟩:=mid e;have hp:pre.length<=Z2:=by rw [e] at hl;simp at hl;omega
  simp only [V1.l1,if_pos h4.2,if_pos h4,h3,nxt hl e];rw [if_pos (by rw [hs,Zkj,List.length_map];exact Zp1 hp (Nat.le_refl _))];exact ih _ (by rw [hs];simp [Zkj])
def Zdl:Int->List Chs->List Val
 | _,[]=>[]
 | i,x::t=>⟨x.lo,x.hi,i+1⟩::Zdl (i+1) t
theorem Zrr:∀ (i:Int) (l:List Chs),(Zdl i l).length=l.length
 | _,[]=>rfl
 | i,x::t=>by simp [Zdl,Zrr (i+1) t]
theorem Zrq:∀ (i:Int) (a b:List Chs),Zdl i (a++b)=Zdl i a++Zdl (i+a.length) b
 | i,[],b=>by simp [Zdl]
 | i,x::a,b=>by
  simp only [List.cons_append,Zdl,Zrq (i+1) a b,List.length_cons]
  rw [show i+1+(a.length:Int)=i+((a.length+1:Nat):Int) by omega]
theorem Zgl (l:List Chs) (hl:l.length<=Z2):∃ T,Yh.f l=some T/\Zc0 (Zdl 0 l) T:=by
 obtain ⟨T,x,y,h1,h2⟩:=Zjn (Zdl 0 l);refine ⟨T,?_,h2⟩;refine Xu (λk i s=>Yh.l1 k l s i) l (λpre t s o=>s=Zdl 0 pre->o=some T) ?_ ?_ [] K0 (ltK hl) rfl
 ·intro s k hs
  simp only [Yh.l1,if_neg (show ¬ (l.length:Int)<(l.length:Int) by omega),hs,h1];rfl
 ·intro pre x t s k e ih hs
  obtain ⟨h3,h4⟩:=mid e;have hp:pre.length<=Z2:=by rw [e] at hl;simp at hl;omega
  simp only [Yh.l1,if_pos h4.2,if_pos h4,h3,Vq.f,Option.bind_some,nxt hl e];rw [if_pos (by rw [hs,Zrr];exact Zp1 hp (Nat.le_refl _))];exact ih _ (by rw [hs,Zrq];simp [Zdl])
theorem Zfk {α:Type} {n:Nat} (h:n<=Z2):([]:List α).length+n<=most:=by unfold Z2 at h;unfold most;simp;omega
theorem Zlt (l:List Val) (h:l.length<=Z2):Yv.f l=some l:=by rw [Yv.f,if_pos (Zfk h)];rfl
theorem Z13 (l:List ByteArray) (h:l.length<=Z2):Vo.f l=some l:=by rw [Vo.f,if_pos (Zfk h)];rfl
theorem Z12 (l:List Chs) (h:l.length<=Z2):Kq.f l=some l:=by rw [Kq.f,if_pos (Zfk h)];rfl
theorem Zxg (l:List Spn) (h:l.length<=Z2):Qu.f l=some l:=by rw [Qu.f,if_pos (Zfk h)];rfl
theorem Zf9 (l:List Int) (h:l.length<=Z2):Xe.f l=some l:=by rw [Xe.f,if_pos (Zfk h)];rfl
theorem Zs7 (l:List Chs) (hl:l.length<=Z2) (hi:∀ x∈l,x.is_.length<=Z2):Hc.f l=some l:=by
 rw [Hc.f,Z12 l hl,Option.bind_some];refine Xu (λk i s=>Hc.l1 k l s i) l (λpre t s o=>s=l->o=some l) ?_ ?_ l K0 (ltK hl) rfl
 ·intro s k hs
  simp only [Hc.l1,if_neg (show ¬ (l.length:Int)<(l.length:Int) by omega),hs]
 ·intro pre x t s k e ih hs
  obtain ⟨h3,h4⟩:=mid e;rw [hs];simp only [Hc.l1,if_pos h4.2,if_pos h4,h3,nxt hl e,Zf9 _ (hi x (by rw [e];simp)),Option.bind_some];refine ih _ ?_;rw [Int.toNat_natCast];rw [e];simp
theorem Zvp (b:Bk) (hb:Few b):Zcf.f b=some b:=by
 rw [Zcf.f,Z13 _ hb.names,Option.bind_some,Zlt _ hb.status,Option.bind_some,Zs7 _ hb.maps hb.mapsI,Option.bind_some,Zlt _ hb.class_,Option.bind_some,
  Zs7 _ hb.decomp hb.decompI,Option.bind_some,Zxg _ hb.excl,Option.bind_some,Zlt _ hb.bidi,Option.bind_some,Zlt _ hb.join,Option.bind_some,Zxg _ hb.marks,Option.bind_some,
  Zlt _ hb.script,Option.bind_some,Zs7 _ hb.like hb.likeI,Option.bind_some]
theorem Zeg (l:List Val) (hl:l.length<=Z2):Ki.f l=some l:=by
 have:=Zee (λk i s=>Ki.l1 k l s i) l (λx=>(⟨x.lo,x.hi,x.n⟩:Val)) hl
  (λs k=>by simp only [Ki.l1,if_neg (show ¬ (l.length:Int)<(l.length:Int) by omega)])
  (λpre x t s k e hs=>by
   obtain ⟨h1,h2⟩:=mid e
   simp only [Ki.l1,if_pos h2.2,if_pos h2,h1,nxt hl e]
   exact if_pos hs)
 rw [Ki.f,this];simp
theorem Zou (l:List Spn) (hl:l.length<=Z2):V8.f l=some l:=by
 have:=Zee (λk i s=>V8.l1 k l s i) l (λx=>(⟨x.lo,x.hi⟩:Spn)) hl
  (λs k=>by simp only [V8.l1,if_neg (show ¬ (l.length:Int)<(l.length:Int) by omega)])
  (λpre x t s k e hs=>by
   obtain ⟨h1,h2⟩:=mid e
   simp only [V8.l1,if_pos h2.2,if_pos h2,h1,nxt hl e]
   exact if_pos hs)
 rw [V8.f,this];simp
theorem Zj0 (l:List Chs) (hl:l.length<=Z2) (hi:∀ x∈l,x.is_.length<=Z2):Vu.f l=some l:=by
 have:=Zee (λk i s=>Vu.l1 k l s i) l (λx=>(⟨x.lo,x.hi,x.is_⟩:Chs)) hl
  (λs k=>by simp only [Vu.l1,if_neg (show ¬ (l.length:Int)<(l.length:Int) by omega)])
  (λpre x t s k e hs=>by
   obtain ⟨h1,h2⟩:=mid e
   simp only [Vu.l1,if_pos h2.2,if_pos h2,h1,nxt hl e]
   rw [if_pos (Zfk (hi x (by rw [e];simp)))]
   exact if_pos hs)
 rw [Vu.f,this];simp
theorem Z1e (b:Bk) (hb:Few b):Zef.f b=some b:=by
 rw [Zef.f,if_pos (Zfk hb.names),Zeg _ hb.status,Option.bind_some,Zj0 _ hb.maps hb.mapsI,Option.bind_some,Zeg _ hb.class_,Option.bind_some,
  Zj0 _ hb.decomp hb.decompI,Option.bind_some,Zou _ hb.excl,Option.bind_some,Zeg _ hb.bidi,Option.bind_some,Zeg _ hb.join,Option.bind_some,Zou _ hb.marks,Option.bind_some,
  Zeg _ hb.script,Option.bind_some,Zj0 _ hb.like hb.likeI,Option.bind_some]
 rfl
structure Zlh (b:Bk) (t:Tbs):Prop where
 book:t.b=b
 status:Zc0 b.status t.status
 class_:Zc0 b.class_ t.class_
 bidi:Zc0 b.bidi t.bidi
 join:Zc0 b.join t.join
 script:Zc0 b.script t.script
 excl:Zc0 (Zkj b.excl) t.excl
 mark:Zc0 (Zkj b.marks) t.mark
 maps:Zc0 (Zdl 0 b.maps) t.maps
 decomp:Zc0 (Zdl 0 b.decomp) t.decomp
 likes:Zc0 (Zdl 0 b.like) t.likes
 pairs:b.decomp=[]->t.pairs=[]
theorem Zdk (l:List Val) (T:Option Tab) (h:Zc0 l T) (p:Int):∃ r,Zv.f T p=some r:=by
 by_cases c:p<0\/1114111<p
 ·exact ⟨_,Zl8 T p c⟩
 ·by_cases hl:Zbd l
  ·exact ⟨_,Zgt h hl p (by omega) (by omega)⟩
  ·exact ⟨0,by rw [h.1 hl,Zv.f];simp [Zv.j1]⟩
theorem Zpe (b:Bk) (hb:Dok b.decomp) {T1 T2 T3 T4 T5 T6 T7 T8 T9 T10:Option Tab} (h2:Zc0 b.class_ T2) (h6:Zc0 (Zkj b.excl) T6):
  ∃ ps,Zm.l1 K0 b T1 T2 T3 T4 T5 T6 T7 T8 T9 T10 [] 0=some (some ⟨b,T1,T2,T3,T4,T5,T6,T7,T8,T9,T10,ps⟩,0)/\(b.decomp=[]->ps=[]):=by
 by_cases hnil:b.decomp=[]
 ·refine ⟨[],?_,λ_=>rfl⟩
  obtain ⟨k,hk⟩:∃ k,K0=k+1:=⟨1180591620717411303423,rfl⟩;rw [hk];have hz:¬ (0:Int)<(b.decomp.length:Int):=by rw [hnil];simp
  simp only [Zm.l1,if_neg hz]
 suffices h:∃ ps,Zm.l1 K0 b T1 T2 T3 T4 T5 T6 T7 T8 T9 T10 [] 0=some (some ⟨b,T1,T2,T3,T4,T5,T6,T7,T8,T9,T10,ps⟩,0) from h.imp λ_ h=>⟨h,λe=>absurd e hnil⟩;have hl:b.decomp.length<=Z2:=by have:=hb.len;unfold Z2;omega
 refine Xu (λk i s=>Zm.l1 k b T1 T2 T3 T4 T5 T6 T7 T8 T9 T10 s i) b.decomp
  (λpre t s o=>∃ ps,o=some (some ⟨b,T1,T2,T3,T4,T5,T6,T7,T8,T9,T10,ps⟩,0)) ?_ ?_ [] K0 (ltK hl)
 ·intro s k
  exact ⟨s,by simp only [Zm.l1,if_neg (show ¬ (b.decomp.length:Int)<(b.decomp.length:Int) by omega)]⟩
 ·intro pre x t s k e ih
  obtain ⟨h3,h4⟩:=mid e;obtain ⟨r1,e1⟩:=Zdk _ _ h6 x.lo;obtain ⟨r2,e2⟩:=Zdk _ _ h2 x.lo;obtain ⟨r3,e3⟩:=Zdk _ _ h2 (rd x.is_ 0);simp only [Zm.l1,if_pos h4.2,if_pos h4,h3,Zm.j2,Zm.j1,nxt hl e,e1,e2,e3,Option.bind_some];by_cases c1:(x.is_.length:Int)=2
  ·rw [if_pos c1]
   by_cases c2:r1=0
   ·rw [if_pos c2]
    by_cases c3:r2=0
    ·rw [if_pos c3,if_pos ⟨Int.le_refl _,by omega⟩]
     by_cases c4:r3=0
     ·rw [if_pos (by simpa using c4),if_pos ⟨by omega,by omega⟩,if_pos ⟨by omega,by omega⟩];exact ih _
     ·rw [if_neg (by simpa using c4)];exact ih _
    ·rw [if_neg c3,if_neg (by decide)];exact ih _
   ·rw [if_neg c2,if_neg (by decide)];exact ih _
  ·rw [if_neg c1,if_neg (by decide)];exact ih _
theorem Zhz {b:Bk} (h:okB b=true):Dok b.decomp:=by
 unfold okB at h;simp only [Bool.and_eq_true] at h;exact Dok.mk' h.2.2.2.2.1
theorem Zsi (b:Bk) (hb:Few b) (h:okB b=true):∃ t,Zm.f b=some (some t,0)/\Zlh b t:=by
 obtain ⟨p,hp⟩:=Zhj b;rw [h] at hp;obtain ⟨T1,e1,h1⟩:=Zga b.status;obtain ⟨T2,e2,h2⟩:=Zga b.class_;obtain ⟨T3,e3,h3⟩:=Zga b.bidi;obtain ⟨T4,e4,h4⟩:=Zga b.join;obtain ⟨T5,e5,h5⟩:=Zga b.script;obtain ⟨T6,e6,h6⟩:=Zok b.excl hb.excl;obtain ⟨T7,e7,h7⟩:=Zok b.marks hb.marks;obtain ⟨T8,e8,h8⟩:=Zgl b.maps hb.maps;obtain ⟨T9,e9,h9⟩:=Zgl b.decomp hb.decomp;obtain ⟨T10,e10,h10⟩:=Zgl b.like hb.like;obtain ⟨ps,hps,hpn⟩:=Zpe b (Zhz h) (T1:=T1) (T3:=T3) (T4:=T4) (T5:=T5) (T7:=T7) (T8:=T8) (T9:=T9) (T10:=T10) h2 h6;refine ⟨⟨b,T1,T2,T3,T4,T5,T6,T7,T8,T9,T10,ps⟩,?_,⟨rfl,h1,h2,h3,h4,h5,h6,h7,h8,h9,h10,hpn⟩⟩;rw [Zm.f,hp,Option.bind_some,if_neg (by simp),Zvp b hb,Option.bind_some,Zm.t10,e1,Option.bind_some,Zm.t9,e2,Option.bind_some,Zm.t8,e3,Option.bind_some,
  Zm.t7,e4,Option.bind_some,Zm.t6,e5,Option.bind_some,Zm.t5,e6,Option.bind_some,Zm.t4,e7,Option.bind_some,Zm.t3,e8,Option.bind_some,
  Zm.t2,e9,Option.bind_some,Zm.t1,e10,Option.bind_some,Zm.j3,hps]
end
section
open Go.IntKind (i8 i16 i32 i64 u8 u16 u32 u64)
open Go.RowKit

structure Tb (t:Option Tbs) (key:Int->Int) (pa:Int->List Int) (n:Nat):Prop where
 cls:Cls t key
 nn:∀ p,0<=key p
 parts:∀ p,Hk.f t p=some (pa p)
 dep:∀ c,Lc pa n c<=18
 few:n<=Z2
theorem Z00:Tb none (λ_=>0) (λ_=>[]) 0:=by
 refine ⟨λp=>rfl,λp=>Int.le_refl 0,λp=>rfl,λc=>?_,by unfold Z2;omega⟩;simp [Lc]
theorem Zwv {P Q:Int->List Int} (h:∀ c,P c=Q c\/P c=[]):∀ (n:Nat) (c:Int),Lc P n c<=Lc Q n c
 | 0,c=>by
  rcases h c with e | e
  ·simp [Lc,e]
  ·rw [Zb9 e];exact (Zck Q 0 c).1
 | n+1,c=>by
  rcases h c with e | e
  ·by_cases e0:Q c=[]
   ·rw [Zb9 e0,Zb9 (e.trans e0)];omega
   ·rw [Lc,if_neg (by rw [e];exact e0),Lc,if_neg e0,e]
    exact Zq1 (Zg8 λx _=>Zwv h n x)
  ·rw [Zb9 e];exact (Zck Q (n+1) c).1
theorem Zun (p:Int):∀ (D:List Chs) (i:Int),(Hg (Zdl i D) p=0/\paP D p=[])\/(0<=i->∃ j:Nat,j<D.length/\Hg (Zdl i D) p=i+j+1/\(rd D (j:Int)).is_=paP D p)\/i<0
 | [],i=>.inl ⟨rfl,rfl⟩
 | x::D,i=>by
  by_cases hi:i<0
  ·exact .inr (.inr hi)
  by_cases c:x.lo<=p/\p<=x.hi
  ·refine .inr (.inl λ_=>⟨0,by simp,?_,?_⟩)
   ·simp [Zdl,Hg,inB,c.1,c.2]
   ·simp [rd,paP,c.1,c.2]
  ·have hb:inB p ⟨x.lo,x.hi,i+1⟩=false:=by
    simp only [inB,Bool.and_eq_false_iff,decide_eq_false_iff_not];by_cases c1:x.lo<=p
    ·exact .inr λc2=>c ⟨c1,c2⟩
    ·exact .inl c1
   rcases Zun p D (i+1) with ⟨h1,h2⟩ | h | h
   ·refine .inl ⟨?_,?_⟩
    ·rw [Zdl,Hg,if_neg (by rw [hb];decide)];exact h1
    ·rw [paP,if_neg c];exact h2
   ·refine .inr (.inl λ_=>?_)
    obtain ⟨j,h1,h2,h3⟩:=h (by omega);refine ⟨j+1,by simp;omega,?_,?_⟩
    ·rw [Zdl,Hg,if_neg (by rw [hb];decide),h2];omega
    ·rw [paP,if_neg c,<- h3]
     unfold rd;have e1:((j+1:Nat):Int).toNat=j+1:=by omega
     have e2:((j:Nat):Int).toNat=j:=by omega
     rw [e1,e2];rfl
   ·exact .inr (.inr (by omega))
theorem Zp9 {D:List Chs} {T:Option Tab} (hT:Zc0 (Zdl 0 D) T) (hl:∀ x∈D,x.is_.length<=Z2) (hD:D.length<=Z2) (p:Int):∃ l,Zbk.f T D p=some l/\(l=paP D p\/l=[]):=by
 have hz:Zv.f T p=some 0->∃ l,Zbk.f T D p=some l/\(l=paP D p\/l=[]):=by intro h;exact ⟨[],by rw [Zbk.f,h,Option.bind_some,if_pos rfl],.inr rfl⟩
 by_cases c:p<0\/1114111<p
 ·exact hz (Zl8 T p c)
 ·by_cases hr:Zbd (Zdl 0 D)
  ·have hv:=Zgt hT hr p (by omega) (by omega)
   rcases Zun p D 0 with ⟨h1,h2⟩ | h | h
   ·exact hz (by rw [hv,h1])
   ·obtain ⟨j,h1,h2,h3⟩:=h (Int.le_refl _)
    rw [h2] at hv;unfold Z2 at hD;have w1:i64.wrap (0+(j:Int)+1-1)=(j:Int):=by rw [w64 (by omega) (by omega)];omega
    refine ⟨paP D p,?_,.inl rfl⟩;rw [Zbk.f,hv,Option.bind_some,if_neg (by omega),w1,if_pos ⟨by omega,by omega⟩,h3];have hm:(paP D p).length<=Z2:=by rw [<- h3];exact hl _ (Zh2 (by omega) (by omega))
    rw [Zf9 _ hm];rfl
   ·omega
  ·have:=hT.1 hr
   exact hz (by rw [this,Zv.f];simp [Zv.j1])
theorem Zxh {a b:Int} {l:List Val} (h:Zz3 a b l=true) (ha:0<=a) (hb:b<=65535):Zbd l:=by
 simp only [Zz3,Zag,Bool.and_eq_true,decide_eq_true_eq] at h;refine ⟨h.1,?_⟩;have:∀ (l:List Val) (last:Int),Vn (·.lo) (·.hi) (λx:Val=>decide (a<=x.n)&&decide (x.n<=b)&&!Zaq x.lo x.hi) last l=true->Vn (·.lo) (·.hi) Zd0 last l=true:=by
  intro l
  induction l with
  | nil=>intro _ _;rfl
  | cons x t ih=>
   intro last h;simp only [Vn,Bool.and_eq_true,decide_eq_true_eq] at h ⊢;refine ⟨⟨h.1.1,?_⟩,ih _ h.2⟩;have:=h.1.2.1;simp only [Zd0,Bool.and_eq_true,decide_eq_true_eq];omega
 exact this l _ h.2
theorem Zpz (l:List Val) (T:Option Tab) (h:Zc0 l T) (hl:Zbd l) (p:Int):∃ r,Zv.f T p=some r/\0<=r:=by
 by_cases c:p<0\/1114111<p
 ·exact ⟨_,Zl8 T p c,Int.le_refl _⟩
 ·exact ⟨_,Zgt h hl p (by omega) (by omega),(Zkt (λx hx=>by
   have:=(Zbm hl.2 x hx).2.2.2;simpa [Zd0] using this) p).1⟩
theorem Zon {b:Bk} (h:okB b=true):Zbd b.class_:=by
 unfold okB at h;simp only [Bool.and_eq_true] at h;exact Zxh h.2.2.2.1 (by omega) (by omega)
theorem Zrt {b:Bk} (h:okB b=true):Zeb b.decomp [] b.decomp=true:=by
 unfold okB at h;simp only [Bool.and_eq_true] at h;exact h.2.2.2.2.2.2.2.2.2.2.2
theorem Zl2 {D:List Chs}:∀ {l pre:List Chs},Zeb D pre l=true->∀ x∈l,Lc (paP D) (D.length+1) x.lo<=18
 | [],_,_,_,hx=>by cases hx
 | y::l,pre,h,x,hx=>by
  simp only [Zeb,Bool.and_eq_true,decide_eq_true_eq] at h
  rcases List.mem_cons.1 hx with rfl | hx
  ·exact h.1.1
  ·exact Zl2 h.2 x hx
theorem Zop {D:List Chs} (h:∀ x∈D,x.lo=x.hi) (c:Int):paP D c=[]\/∃ x∈D,x.lo=c:=by
 induction D with
 | nil=>exact .inl rfl
 | cons x D ih=>
  by_cases e:x.lo=c
  ·exact .inr ⟨x,by simp,e⟩
  ·have:=h x (by simp)
   rw [paP,if_neg (by omega)]
   rcases ih (λy hy=>h y (by simp [hy])) with h1 | ⟨y,h1,h2⟩
   ·exact .inl h1
   ·exact .inr ⟨y,by simp [h1],h2⟩
theorem Z01 {b:Bk} {t:Tbs} (hb:Few b) (h:okB b=true) (ht:Zlh b t):∃ key pa,Tb (some t) key pa (b.decomp.length+1):=by
 have hD:=Zhz h;refine ⟨λp=>(Zv.f t.class_ p).getD 0,λp=>(Zbk.f t.decomp b.decomp p).getD [],λp=>?_,λp=>?_,λp=>?_,λc=>?_,by have:=hD.len;unfold Z2;omega⟩
 ·obtain ⟨r,h1,_⟩:=Zpz _ _ ht.class_ (Zon h) p
  simp only [Ko.f,Option.isNone_some,Bool.false_eq_true,if_false,Option.isSome_some,if_true,Option.getD_some,h1,Option.bind_some]
 ·obtain ⟨r,h1,h2⟩:=Zpz _ _ ht.class_ (Zon h) p
  simp only [h1,Option.getD_some];exact h2
 ·obtain ⟨l,h1,_⟩:=Zp9 ht.decomp hb.decompI hb.decomp p
  simp only [Hk.f,Option.isNone_some,Bool.false_eq_true,if_false,Option.isSome_some,if_true,Option.getD_some,ht.book,h1,Option.bind_some]
 ·refine Int.le_trans (Zwv (Q:=paP b.decomp) (λc=>?_) _ c) ?_
  ·obtain ⟨l,h1,h2⟩:=Zp9 ht.decomp hb.decompI hb.decomp c
   simp only [h1,Option.getD_some];exact h2
  ·rcases Zop hD.one c with e | ⟨x,hx,rfl⟩
   ·rw [Zb9 e];omega
   ·exact Zl2 (Zrt h) x hx

def Zkw (c:Int):Int×Int×Int×Bool:=(Q4.f c).getD default
theorem Zza (c:Int):Q4.f c=some (Zkw c):=by
 have:∃ r,Q4.f c=some r:=by
  unfold Q4.f;simp only [Q4.j2,Q4.j1];split
  ·exact ⟨_,if_pos trivial⟩
  ·split
   ·exact ⟨_,rfl⟩
   ·split<;>exact ⟨_,rfl⟩
 obtain ⟨r,hr⟩:=this;rw [Zkw,hr];rfl
def Zwo (c:Int):List Int:=if (Zkw c).2.2.1=0 then [(Zkw c).1,(Zkw c).2.1] else [(Zkw c).1,(Zkw c).2.1,(Zkw c).2.2.1]
def Zdg (pa:Int->List Int):Nat->Int->List Int
 | 0,c=>if (Zkw c).2.2.2=true then Zwo c else [c]
 | n+1,c=>if (Zkw c).2.2.2=true then Zwo c else if pa c=[] then [c] else (pa c).flatMap (Zdg pa n)
theorem Zuw (c:Int):(Zwo c).length<=3:=by unfold Zwo;split<;>simp
theorem Ziz {pa:Int->List Int}:∀ (n:Nat) (c:Int),Lc pa n c<=18->((Zdg pa n c).length:Int)<=3*Lc pa n c
 | 0,c,h=>by
  have:=Zck pa 0 c
  have:=Zuw c
  unfold Zdg
  split
  ·omega
  ·simp;omega
 | n+1,c,h=>by
  have h1:=Zck pa (n+1) c
  have h2:=Zuw c
  unfold Zdg
  split
  ·omega
  ·split
   ·simp;omega
   ·rename_i _ e
    rw [Lc,if_neg e] at h ⊢
    have hs:Zbo (Lc pa n) (pa c)<=18:=by unfold cap at h;split at h<;>omega
    have hcap:cap (Zbo (Lc pa n) (pa c))=Zbo (Lc pa n) (pa c):=by unfold cap;rw [if_neg (by omega)]
    rw [hcap]
    have:∀ l:List Int,Zbo (Lc pa n) l<=18->((l.flatMap (Zdg pa n)).length:Int)<=3*Zbo (Lc pa n) l:=by
     intro l
     induction l with
     | nil=>intro _;simp [Zbo]
     | cons x l ih=>
      intro hl;simp only [Zbo] at hl ⊢;have a1:=Zck pa n x;have a2:0<=Zbo (Lc pa n) l:=by have:=Zej (f:=Lc pa n) (l:=l) (λy _=>(Zck pa n y).1);omega
      have:=Ziz (pa:=pa) n x (by omega);have:=ih (by omega);simp only [List.flatMap_cons,List.length_append];omega
    exact this _ hs
theorem Z0d {t:Option Tbs} {key:Int->Int} {pa:Int->List Int} {m:Nat} (h:Tb t key pa m):∀ (n:Nat) (c:Int) (k:Nat),Lc pa n c<=18->n<k->Kk.f k t c=some (Zdg pa n c):=by
 intro n
 induction n with
 | zero=>
  intro c k hc hk;obtain ⟨k,rfl⟩:∃ j,k=j+1:=⟨k-1,by omega⟩;rw [Kk.f,Kk.b,Zza,Option.bind_some,Zdg];by_cases s1:(Zkw c).2.2.2=true
  ·rw [if_pos s1,if_pos s1,Zwo];split<;>rfl
  ·have e:pa c=[]:=by
    by_cases e:pa c=[]
    ·exact e
    ·simp [Lc,e] at hc
   rw [if_neg s1,if_neg s1,h.parts c,Option.bind_some,e,if_pos (by simp)]
 | succ n ih=>
  intro c k hc hk;obtain ⟨k,rfl⟩:∃ j,k=j+1:=⟨k-1,by omega⟩;rw [Kk.f,Kk.b,Zza,Option.bind_some,Zdg];by_cases s1:(Zkw c).2.2.2=true
  ·rw [if_pos s1,if_pos s1,Zwo];split<;>rfl
  ·rw [if_neg s1,if_neg s1,h.parts c,Option.bind_some]
   by_cases e:pa c=[]
   ·rw [if_pos e,e,if_pos (by simp)]
   ·rw [if_neg e,if_neg (by have:=List.length_pos_iff.2 e;omega)]
    rw [Lc,if_neg e] at hc;have hs:Zbo (Lc pa n) (pa c)<=18:=by unfold cap at hc;split at hc<;>omega
    have hl:((pa c).length:Int)<=18:=by have:=Zej (f:=Lc pa n) (l:=pa c) (λy _=>(Zck pa n y).1);omega
    have hk1:∀ x∈pa c,Lc pa n x<=18:=λx hx=>by
     have:=Zi9 (f:=Lc pa n) (l:=pa c) (λy _=>(Zck pa n y).1) x hx;omega
    have key:∀ (l acc:List Int) (pre:List Int) (q:Nat),pa c=pre++l->l.length<q->acc.length+54*l.length<=5400->Kk.l1 q (Kk.f k) t (pa c) acc (pre.length:Int)=some (acc++l.flatMap (Zdg pa n)):=by
     intro l
     induction l with
     | nil=>
      intro acc pre q e1 hq ha;obtain ⟨q,rfl⟩:∃ j,q=j+1:=⟨q-1,by omega⟩;have:(pa c).length=pre.length:=by rw [e1];simp
      simp only [Kk.l1,this,if_neg (show ¬ (pre.length:Int)<(pre.length:Int) by omega)];simp
     | cons x l ihl=>
      intro acc pre q e1 hq ha;obtain ⟨q,rfl⟩:∃ j,q=j+1:=⟨q-1,by omega⟩;simp only [List.length_cons] at hq ha;obtain ⟨m1,m2⟩:=mid e1;have hx:=hk1 x (by rw [e1];simp);have hfl:=Ziz n x hx;have hlen:(pa c).length<=Z2:=by unfold Z2;omega
      simp only [Kk.l1,if_pos m2.2,if_pos m2,m1,ih x k hx (by omega),Option.bind_some,nxt hlen e1];rw [if_pos (by unfold most;omega)];have:=ihl (acc++Zdg pa n x) (pre++[x]) q (by rw [e1];simp) (by omega) (by simp;omega);have e2:((pre++[x]).length:Int)=(pre.length:Int)+1:=by simp
      rw [e2] at this;rw [this];simp
    have:=key (pa c) [] [] K0 rfl (ltK (by unfold Z2;omega)) (by simp;omega);simpa using this
theorem Zyn {t:Option Tbs} {key:Int->Int} {pa:Int->List Int} {n:Nat} (h:Tb t key pa n) (l:List Int) (hl:54*l.length<=Z2):Um.f t l=some (l.flatMap (Zdg pa n)):=by
 have key:∀ (r acc pre:List Int) (q:Nat),l=pre++r->r.length<q->acc.length+54*r.length<=Z2->Um.l1 q t l acc (pre.length:Int)=some (acc++r.flatMap (Zdg pa n)):=by
  intro r
  induction r with
  | nil=>
   intro acc pre q e1 hq ha;obtain ⟨q,rfl⟩:∃ j,q=j+1:=⟨q-1,by omega⟩;have:l.length=pre.length:=by rw [e1];simp
   simp only [Um.l1,this,if_neg (show ¬ (pre.length:Int)<(pre.length:Int) by omega)];simp
  | cons x r ihl=>
   intro acc pre q e1 hq ha;obtain ⟨q,rfl⟩:∃ j,q=j+1:=⟨q-1,by omega⟩;simp only [List.length_cons] at hq ha;obtain ⟨m1,m2⟩:=mid e1;have hx:=h.dep x;have hfl:=Ziz n x hx;have hlen:l.length<=Z2:=by omega
   have hbig:=ha;unfold Z2 at hbig;simp only [Um.l1,if_pos m2.2,if_pos m2,m1,Z0d h n x K0 hx (ltK h.few),Option.bind_some,nxt hlen e1];rw [if_pos (by unfold most;omega)];have:=ihl (acc++Zdg pa n x) (pre++[x]) q (by rw [e1];simp) (by omega) (by simp;omega);have e2:((pre++[x]).length:Int)=(pre.length:Int)+1:=by simp
   rw [e2] at this;rw [this];simp
 have:=key l [] [] K0 rfl (ltK (by omega)) (by simpa using hl);simpa [Um.f] using this
theorem Zgg {t:Option Tbs} {key:Int->Int} {pa:Int->List Int} {n:Nat} (h:Tb t key pa n):∀ (l:List Int),(l.flatMap (Zdg pa n)).length<=54*l.length
 | []=>by simp
 | x::l=>by
  have:=Zgg h l
  have:=Ziz n x (h.dep x)
  have:=h.dep x
  simp only [List.flatMap_cons,List.length_append,List.length_cons];omega
theorem Zpg {t:Option Tbs} {key:Int->Int} {pa:Int->List Int} {n:Nat} (h:Tb t key pa n) (l:List Int) (hl:54*l.length<=Z2):Zal.f t l=some (Zjy key (l.flatMap (Zdg pa n))):=by
 have:=Zgg h l;rw [Zal.f,Zyn h l hl,Option.bind_some,Zyl h.cls _ (by omega)];rfl
end
section
open Go.RowKit

theorem Zy3 (a b:List Int) (hb:a.length<=Z2):Zas.f a b=some (decide (a=b)):=by
 unfold Zas.f;by_cases c:(a.length:Int)=(b.length:Int)
 ·rw [if_neg (by omega)]
  have key:∀ (s pre u preb:List Int) (q:Nat),a=pre++s->b=preb++u->pre=preb->s.length<q->Zas.l1 q a b (pre.length:Int)=some (decide (s=u)):=by
   intro s
   induction s with
   | nil=>
    intro pre u preb q e1 e2 e3 hq;obtain ⟨q,rfl⟩:∃ j,q=j+1:=⟨q-1,by omega⟩;have hl:a.length=pre.length:=by rw [e1];simp
    obtain rfl:u=[]:=by
     apply List.eq_nil_of_length_eq_zero;have:b.length=preb.length+u.length:=by rw [e2];simp
     subst e3;omega
    simp only [Zas.l1,hl,if_neg (show ¬ (pre.length:Int)<(pre.length:Int) by omega)];rfl
   | cons x s ih=>
    intro pre u preb q e1 e2 e3 hq;obtain ⟨q,rfl⟩:∃ j,q=j+1:=⟨q-1,by omega⟩;simp only [List.length_cons] at hq;have la:a.length=pre.length+(s.length+1):=by rw [e1];simp
    have lb:b.length=preb.length+u.length:=by rw [e2];simp
    cases u with
    | nil=>subst e3;simp at lb;omega
    | cons y u=>
     subst e3;obtain ⟨m1,m2⟩:=mid e1;obtain ⟨m3,m4⟩:=mid e2;simp only [Zas.l1,if_pos m2.2,if_pos m2,if_pos m4,m1,m3,nxt hb e1];by_cases d:x=y
     ·subst d
      rw [if_neg (by simp)];have:=ih (pre++[x]) u (pre++[x]) q (by rw [e1];simp) (by rw [e2];simp) rfl (by omega);have e4:((pre++[x]).length:Int)=(pre.length:Int)+1:=by simp
      rw [e4] at this;rw [this];simp
     ·rw [if_pos d];simp [d]
  have:=key a [] b [] K0 rfl rfl rfl (ltK hb);simpa using this
 ·rw [if_pos c,decide_eq_false (λe=>c (by rw [e]))]
end
section
open Go.RowKit

def fIx {α:Type} (p:α->Bool):List α->Nat->Int
 | [],_=>-1
 | x::t,n=>if p x=true then (n:Int) else fIx p t (n+1)
theorem Zit {α:Type} [Inhabited α] (L:Nat->Int->Option Int) (xs:List α) (p:α->Bool) (hx:xs.length<=Z2) (h0:∀ k,L (k+1) (xs.length:Int)=some (-1))
  (h1:∀ k pre x t,xs=pre++x::t->L (k+1) (pre.length:Int)=if p x=true then some (pre.length:Int) else L k ((pre.length:Int)+1)):L K0 0=some (fIx p xs 0):=by
 refine Xu (λk i (_:Unit)=>L k i) xs (λpre t _ o=>o=some (fIx p t pre.length)) (λ_ k=>h0 k) (λpre x t _ k e ih=>?_) () K0 (ltK hx);show L (k+1) _=_;have h2:=ih ();have h3:L k ((pre.length:Int)+1)=some (fIx p t (pre.length+1)):=by simpa using h2
 rw [h1 k pre x t e,h3,fIx];split<;>rfl
theorem Zkz {α:Type} (p:α->Bool):∀ (xs:List α) (n:Nat),decide (0<=fIx p xs n)=xs.any p
 | [],n=>by simp [fIx]
 | x::t,n=>by
  rw [fIx,List.any_cons]
  by_cases c:p x=true
  ·rw [if_pos c,c];simp
  ·rw [if_neg c,Zkz p t,Bool.eq_false_iff.2 c];rfl
theorem Zjr {α:Type} (p:α->Bool):∀ (xs:List α) (n:Nat),(fIx p xs n=-1/\∀ x∈xs,p x=false)\/∃ a x r,xs=a++x::r/\p x=true/\(∀ x∈a,p x=false)/\fIx p xs n=((n+a.length:Nat):Int)
 | [],n=>.inl ⟨rfl,λ_ h=>by cases h⟩
 | x::t,n=>by
  rw [fIx]
  by_cases c:p x=true
  ·exact .inr ⟨[],x,t,rfl,c,(λ_ h=>by cases h),by rw [if_pos c];simp⟩
  ·rw [if_neg c]
   rcases Zjr p t (n+1) with ⟨h1,h2⟩ | ⟨a,y,r,h1,h2,h3,h4⟩
   ·refine .inl ⟨h1,λy hy=>?_⟩
    rcases List.mem_cons.1 hy with rfl | hy
    ·exact Bool.eq_false_iff.2 c
    ·exact h2 y hy
   ·refine .inr ⟨x::a,y,r,by rw [h1];rfl,h2,λz hz=>?_,by rw [h4];simp;omega⟩
    rcases List.mem_cons.1 hz with rfl | hz
    ·exact Bool.eq_false_iff.2 c
    ·exact h3 z hz
theorem Zjv (xs:List Int) (v:Int) (hx:xs.length<=Z2):Xl.f xs v=some (fIx (λx=>decide (v=x)) xs 0):=by
 rw [Xl.f];refine Zit (λk i=>Xl.l1 k xs v i) xs _ hx (λk=>?_) (λk pre x t e=>?_)
 ·simp only [Xl.l1,if_neg (show ¬ (xs.length:Int)<(xs.length:Int) by omega)]
 ·obtain ⟨m1,m2⟩:=mid e
  simp only [Xl.l1,if_pos m2.2,if_pos m2,m1,nxt hx e,decide_eq_true_eq]

end
section
open Go.IntKind (i8 i16 i32 i64 u8 u16 u32 u64)
open Go.RowKit

structure Tq (t:Option Tbs) (key:Int->Int) (pa:Int->List Int) (n:Nat) (pr:Int->Int->Int×Bool) (mk kp:Int->Bool) (jn:Int->Int):Prop where
 tb:Tb t key pa n
 pair:∀ a b,Qh.f t a b=some (pr a b)
 mark:∀ p,J8.f t p=some (mk p)
 kept:∀ p,J7.f t p=some (kp p)
 join:∀ p,Uk.f t p=some (jn p)
variable {t:Option Tbs} {key:Int->Int} {pa:Int->List Int} {n:Nat} {pr:Int->Int->Int×Bool} {mk kp:Int->Bool} {jn:Int->Int}

def Ze2 (key:Int->Int) (pr:Int->Int->Int×Bool) (s:List Int×Int×Int) (c:Int):List Int×Int×Int:=
 if 0<=s.2.1/\¬ (s.2.1<(s.1.length:Int)-1/\key c<=s.2.2)/\(pr (rd s.1 s.2.1) c).2=true then (s.1.set s.2.1.toNat (pr (rd s.1 s.2.1) c).1,s.2.1,s.2.2)
 else if key c=0 then (s.1++[c],(s.1.length:Int),0) else (s.1++[c],s.2.1,max s.2.2 (key c))
def Zgb (key:Int->Int) (pr:Int->Int->Int×Bool) (l:List Int):List Int:=(l.foldl (Ze2 key pr) ([],-1,0)).1
theorem Zsj (h:Tq t key pa n pr mk kp jn) (l:List Int) (hl:l.length<=Z2):Zp.f t l=some (Zgb key pr l):=by
 have step:∀ (r pre:List Int) (s:List Int×Int×Int) (k:Nat),l=pre++r->r.length<k->s.1.length+r.length<=l.length->-1<=s.2.1->s.2.1<(s.1.length:Int)->Zp.l1 k t l s.1 s.2.1 s.2.2 (pre.length:Int)=some (r.foldl (Ze2 key pr) s).1:=by
  intro r
  induction r with
  | nil=>
   intro pre s k e hk h1 h2 h3;obtain ⟨k,rfl⟩:∃ j,k=j+1:=⟨k-1,by omega⟩;have:l.length=pre.length:=by rw [e];simp
   simp only [Zp.l1,this,if_neg (show ¬ (pre.length:Int)<(pre.length:Int) by omega),List.foldl_nil]
  | cons c r ih=>
   intro pre s k e hk h1 h2 h3;obtain ⟨k,rfl⟩:∃ j,k=j+1:=⟨k-1,by omega⟩;simp only [List.length_cons] at hk h1;obtain ⟨m1,m2⟩:=mid e;have hbig:=hl;unfold Z2 at hbig;obtain ⟨out,st,mo⟩:=s;simp only at h1 h2 h3;have e4:((pre++[c]).length:Int)=(pre.length:Int)+1:=by simp
   have fin:∀ s':List Int×Int×Int,s'.1.length<=out.length+1->-1<=s'.2.1->s'.2.1<(s'.1.length:Int)->Ze2 key pr (out,st,mo) c=s'->Zp.l1 k t l s'.1 s'.2.1 s'.2.2 ((pre.length:Int)+1)=some ((c::r).foldl (Ze2 key pr) (out,st,mo)).1:=by intro s' g1 g2 g3 g4;have:=ih (pre++[c]) s' k (by rw [e];simp) (by omega) (by omega) g2 g3;rw [e4] at this;rw [List.foldl_cons,g4,this]
   have put:Zp.j3 (Zp.l1 k t l) l out st mo (pre.length:Int) (key c)=if key c=0 then Zp.l1 k t l (out++[c]) (out.length:Int) 0 ((pre.length:Int)+1) else Zp.l1 k t l (out++[c]) st (max mo (key c)) ((pre.length:Int)+1):=by
    simp only [Zp.j3,Zp.j2,Zp.j1,m1,nxt hl e];by_cases c0:key c=0
    ·rw [if_pos c0,if_pos c0,if_pos (by unfold most;simp;omega)]
    ·rw [if_neg c0,if_neg c0,if_pos (by unfold most;simp;omega)]
   have put2:¬ (0<=st/\¬ (st<(out.length:Int)-1/\key c<=mo)/\(pr (rd out st) c).2=true)->Zp.j3 (Zp.l1 k t l) l out st mo (pre.length:Int) (key c)=some ((c::r).foldl (Ze2 key pr) (out,st,mo)).1:=by
    intro hc;rw [put];by_cases c0:key c=0
    ·rw [if_pos c0]
     exact fin (out++[c],(out.length:Int),0) (by simp) (by show (-1:Int)<=(out.length:Int);omega) (by show (out.length:Int)<((out++[c]).length:Int);simp;omega) (by simp only [Ze2,if_neg hc,if_pos c0])
    ·rw [if_neg c0]
     exact fin (out++[c],st,max mo (key c)) (by simp) h2 (by simp<;>omega) (by simp only [Ze2,if_neg hc,if_neg c0])
   simp only [Zp.l1,if_pos m2.2,if_pos m2,m1,h.tb.cls c,Option.bind_some,Zp.j5];by_cases a1:0<=st
   ·rw [if_pos a1,w64 (by omega) (by omega)]
    have j4:∀ bl:Bool,(bl=true↔(st<(out.length:Int)-1/\key c<=mo))->Zp.j4 (Zp.l1 k t l) t l out st mo (pre.length:Int) (key c) (!bl)=some ((c::r).foldl (Ze2 key pr) (out,st,mo)).1:=by
     intro bl hb;simp only [Zp.j4,m1];by_cases a2:bl=true
     ·rw [a2,if_neg (by simp)]
      exact put2 (λhh=>hh.2.1 (hb.1 a2))
     ·rw [Bool.eq_false_iff.2 a2,if_pos (by simp),if_pos ⟨a1,h3⟩,h.pair,Option.bind_some]
      by_cases a3:(pr (rd out st) c).2=true
      ·rw [if_pos a3]
       simp only [Zp.j1,nxt hl e];exact fin (out.set st.toNat (pr (rd out st) c).1,st,mo) (by simp) h2 (by simpa using h3) (by simp only [Ze2];rw [if_pos ⟨a1,λhh=>a2 (hb.2 hh),a3⟩])
      ·rw [if_neg a3]
       exact put2 (λhh=>a3 hh.2.2)
    by_cases a4:st<(out.length:Int)-1
    ·rw [if_pos a4,if_pos a1]
     exact j4 _ (by simp [a4])
    ·rw [if_neg a4,if_pos a1]
     exact j4 false (by simp [a4])
   ·rw [if_neg a1,if_neg a1]
    simp only [Zp.j4,if_neg (show ¬ false=true by simp)];exact put2 (λhh=>a1 hh.1)
 have:=step l [] ([],-1,0) K0 rfl (ltK hl) (by simp) (by simp) (by simp);simpa [Zp.f,Zgb] using this
theorem Zgc (key:Int->Int) (pr:Int->Int->Int×Bool):∀ (l:List Int) (s:List Int×Int×Int),(l.foldl (Ze2 key pr) s).1.length<=s.1.length+l.length
 | [],s=>by simp
 | c::l,s=>by
  have h1:(Ze2 key pr s c).1.length<=s.1.length+1:=by
   unfold Ze2;split
   ·simp
   ·split<;>simp
  have:=Zgc key pr l (Ze2 key pr s c);simp only [List.foldl_cons,List.length_cons];omega
def Zdi (key:Int->Int) (pa:Int->List Int) (n:Nat) (pr:Int->Int->Int×Bool) (l:List Int):List Int:=Zgb key pr (Zjy key (l.flatMap (Zdg pa n)))
theorem Zmm (key:Int->Int) (l:List Int):(Zjy key l).length=l.length:=Z0n key l
theorem Zom (h:Tq t key pa n pr mk kp jn) (l:List Int) (hl:54*l.length<=Z2):Hl.f t l=some (Zdi key pa n pr l):=by
 have:=Zgg h.tb l;rw [Hl.f,Zpg h.tb l hl,Option.bind_some,Zsj h _ (by rw [Zmm];omega)];rfl
theorem Zrb (a b:List Int) (hb:a.length<=Z2):Xz.f a b=some (decide (a=b)):=by
 rw [Xz.f];have e:∀ q a b i,Xz.l1 q a b i=Zas.l1 q a b i:=by
  intro q
  induction q with
  | zero=>intros;rfl
  | succ q ih=>intro a b i;simp only [Xz.l1,Zas.l1,ih]
 rw [e];exact Zy3 a b hb
theorem Z3h (h:Tq t key pa n pr mk kp jn) (l:List Int) (hl:54*l.length<=Z2):Zcw.f t l=some (decide (Zdi key pa n pr l=l)):=by
 have h1:=Zgg h.tb l;have h2:=Zgc key pr (Zjy key (l.flatMap (Zdg pa n))) ([],-1,0);rw [Zcw.f,Zom h l hl,Option.bind_some,Zrb _ _ (by rw [Zmm] at h2;simp only [List.length_nil,Nat.zero_add] at h2;unfold Zdi Zgb;omega)];rfl
theorem Zkb (h:Tq t key pa n pr mk kp jn) (l:List Int) (hl:l.length<=Z2):∀ (k:Nat) (i:Int),i<(l.length:Int)->i+1<(k:Int)->-1<=i->∃ r,Us.l1 k t l i=some r
 | 0,i,_,h2,h3=>by omega
 | k+1,i,h1,h2,h3=>by
  have hb:=hl
  unfold Z2 at hb
  simp only [Us.l1]
  by_cases c:0<=i
  ·rw [if_pos c,if_pos ⟨c,h1⟩,h.join,Option.bind_some]
   split
   ·exact ⟨_,rfl⟩
   ·rw [w64 (by omega) (by omega)];exact Zkb h l hl k (i-1) (by omega) (by omega) (by omega)
  ·exact ⟨0,by rw [if_neg c]⟩
theorem Zil (h:Tq t key pa n pr mk kp jn) (l:List Int) (hl:l.length<=Z2):∀ (k:Nat) (i:Int),(l.length:Int)-i<(k:Int)->0<=i->i<=(l.length:Int)->∃ r,Ue.l1 k t l i=some r
 | 0,i,h1,h2,h3=>by omega
 | k+1,i,h1,h2,h3=>by
  have hb:=hl
  unfold Z2 at hb
  simp only [Ue.l1]
  by_cases c:i<(l.length:Int)
  ·rw [if_pos c,if_pos ⟨h2,c⟩,h.join,Option.bind_some]
   split
   ·exact ⟨_,rfl⟩
   ·rw [w64 (by omega) (by omega)];exact Zil h l hl k (i+1) (by omega) (by omega) (by omega)
  ·exact ⟨0,by rw [if_neg c]⟩
theorem Znc (h:Tq t key pa n pr mk kp jn) (l:List Int) (hl:l.length<=Z2) (i:Int) (h0:0<=i) (h1:i<(l.length:Int)):∃ r,Xc.f t l i=some r/\(rd l i≠8204->rd l i≠8205->r=true):=by
 have hb:=hl;unfold Z2 at hb;have hK:(K0:Int)=1180591620717411303424:=rfl;have e0:Xc.f t l i=Xc.j3 t l i false:=by rw [Xc.f,if_neg (by omega),decide_eq_false (by omega)]
 have es:Ud.f (rd l i)=some (decide (rd l i=8204\/rd l i=8205)):=by unfold Ud.f Ud.j1;split<;>simp [*]
 rw [e0];simp only [Xc.j3,if_neg (show ¬ false=true by simp),if_pos (And.intro h0 h1),es,Option.bind_some];by_cases c:rd l i=8204\/rd l i=8205
 ·rw [decide_eq_true c,if_neg (by simp)]
  suffices hs:∃ r,(if 0<i then (if (0:Int)<=i64.wrap (i-1)/\i64.wrap (i-1)<(l.length:Int) then ((Zbg.f t (rd l (i64.wrap (i-1)))).bind λag=>(Xc.j2 t l i ag)) else none) else (Xc.j2 t l i false))=some r by
   obtain ⟨r,hr⟩:=hs;exact ⟨r,hr,λa b=>absurd c (by simp [a,b])⟩
  have hj2:∀ b,∃ r,Xc.j2 t l i b=some r:=by
   intro b;obtain ⟨ra,ha⟩:=Zkb h l hl K0 (i-1) (by omega) (by omega) (by omega);obtain ⟨rb,hb'⟩:=Zil h l hl K0 (i+1) (by omega) (by omega) (by omega);simp only [Xc.j2,Xc.j1,Us.f,Ue.f,w64 (x:=i-1) (by omega) (by omega),w64 (x:=i+1) (by omega) (by omega),ha,hb',Option.bind_some];repeat' split
   all_goals exact ⟨_,rfl⟩
  split
  ·rw [w64 (by omega) (by omega),if_pos ⟨by omega,by omega⟩,Zbg.f,h.tb.cls,Option.bind_some,Option.bind_some]
   exact hj2 _
  ·exact hj2 _
 ·rw [decide_eq_false c]
  exact ⟨true,by rw [if_pos (by simp)],λ_ _=>rfl⟩
theorem Zpc (h:Tq t key pa n pr mk kp jn) (l:List Int) (hl:l.length<=Z2):∃ r,V9.f t l=some r/\((∀ x∈l,x≠8204/\x≠8205)->r=-1):=by
 rw [V9.f];refine Xu (λk i (_:Unit)=>V9.l1 k t l i) l (λpre r _ o=>∃ q,o=some q/\((∀ x∈r,x≠8204/\x≠8205)->q=-1)) (λ_ k=>?_) (λpre x r _ k e ih=>?_) () K0 (ltK hl)
 ·exact ⟨-1,by simp only [V9.l1,if_neg (show ¬ (l.length:Int)<(l.length:Int) by omega)],λ_=>rfl⟩
 ·obtain ⟨m1,m2⟩:=mid e
  obtain ⟨b,hb,hb2⟩:=Znc h l hl _ m2.1 m2.2;simp only [V9.l1,if_pos m2.2,hb,Option.bind_some,nxt hl e]
  cases b with
  | true=>
   rw [if_neg (by simp)];obtain ⟨q,h1,h2⟩:=ih ();exact ⟨q,h1,λhx=>h2 λy hy=>hx y (by simp [hy])⟩
  | false=>
   rw [if_pos (by simp)];exact ⟨_,rfl,λhx=>by have:=hx x (by simp);rw [m1] at hb2;exact absurd (hb2 this.1 this.2) (by simp)⟩
def Zen (n:Int) (has:Bool) (l:List Int):List Int:=if has=true then l++[n] else l
theorem Ze5 (n:Int) (has:Bool) (l:List Int):(Zen n has l).length<=l.length+1:=by unfold Zen;split<;>simp
theorem Zea (n:Int) (has:Bool) (l:List Int) (hl:l.length<=10):Qc.f n has l=some (Zen n has l):=by
 unfold Qc.f Zen;split
 ·rw [if_pos (by unfold most;simp;omega)]
 ·rfl
def Zip (l:List Int):Bool:=decide (4<=(l.length:Int))&&decide (runesBytes (sub l 0 4)=(⟨#[120,110,45,45]⟩:ByteArray))
theorem Ziq (l:List Int):Ux.f l=some (Zip l):=by
 unfold Ux.f Zip Ux.j1;split
 ·rename_i h
  rw [if_pos ⟨by omega,by omega,h⟩,decide_eq_true h];rfl
 ·rename_i h
  rw [decide_eq_false h];rfl
def Zri (mk:Int->Bool):List Int->Bool
 | []=>false
 | x::_=>mk x
def Zk0 (is cod st mk ks jo:Bool):List Int:=Zen 6 jo (Zen 5 ks (Zen 4 mk (Zen 3 st (Zen 2 cod (Zen 1 (!is) [])))))
theorem Zoe (h:Tq t key pa n pr mk kp jn) (l:List Int) (hl:54*l.length<=Z2):∃ jo,Qt.f t l=some (Zk0 (decide (Zdi key pa n pr l=l)) (Zip l) (l.any λx=>decide (46=x)) (Zri mk l) (l.any λx=>!kp x) jo)/\((∀ x∈l,x≠8204/\x≠8205)->jo=false):=by
 have hlb:l.length<=Z2:=by omega
 obtain ⟨q,hq,hq2⟩:=Zpc h l hlb;have hk:Kl.f l t=some (l.any λx=>!kp x):=by
  rw [Kl.f,Y4.f];have:=Zit (λk i=>Y4.l1 k t l i) l (λx=>!kp x) hlb (λk=>?_) (λk pre x r e=>?_)
  ·rw [this,Option.bind_some,Zkz]
  ·simp only [Y4.l1,if_neg (show ¬ (l.length:Int)<(l.length:Int) by omega)]
  ·obtain ⟨m1,m2⟩:=mid e
   simp only [Y4.l1,if_pos m2.2,if_pos m2,m1,H0.f,h.kept,Option.bind_some,nxt hlb e]
 have hc:Vz.f l 46=some (l.any λx=>decide (46=x)):=by rw [Vz.f,Zjv l 46 hlb,Option.bind_some,Zkz]
 refine ⟨decide (0<=q),?_,λhx=>by rw [hq2 hx];rfl⟩;have l1:=Ze5 1 (!(decide (Zdi key pa n pr l=l))) [];have l2:=Ze5 2 (Zip l) (Zen 1 (!(decide (Zdi key pa n pr l=l))) []);have l3:=Ze5 3 (l.any λx=>decide (46=x)) (Zen 2 (Zip l) (Zen 1 (!(decide (Zdi key pa n pr l=l))) []));have l4:=Ze5 4 (Zri mk l) (Zen 3 (l.any λx=>decide (46=x)) (Zen 2 (Zip l) (Zen 1 (!(decide (Zdi key pa n pr l=l))) [])));have l5:=Ze5 5 (l.any λx=>!kp x) (Zen 4 (Zri mk l) (Zen 3 (l.any λx=>decide (46=x)) (Zen 2 (Zip l) (Zen 1 (!(decide (Zdi key pa n pr l=l))) []))));simp only [List.length_nil] at l1;rw [Qt.f,Z3h h l hl,Option.bind_some,Zea _ _ _ (by simp),Option.bind_some,Ziq,Option.bind_some,Zea _ _ _ (by omega),Option.bind_some,hc,Option.bind_some,Zea _ _ _ (by omega),Option.bind_some];have hj:∀ aa,aa.length<=4->Qt.j1 t l aa=some (Zen 6 (decide (0<=q)) (Zen 5 (l.any λx=>!kp x) aa)):=by intro aa ha;have:=Ze5 5 (l.any λx=>!kp x) aa;rw [Qt.j1,hk,Option.bind_some,Zea _ _ _ (by omega),Option.bind_some,hq,Option.bind_some,Zea _ _ _ (by omega)];rfl
 cases l with
 | nil=>
  rw [if_neg (by simp),Zea _ _ _ (by omega),Option.bind_some,hj _ (by simp only [Zri] at l4;omega)];rfl
 | cons x r=>
  rw [if_pos (by simp<;>omega),if_pos ⟨by omega,by simp<;>omega⟩,show rd (x::r) 0=x from rfl,h.mark,Option.bind_some,Zea _ _ _ (by omega),Option.bind_some,hj _ (by simp only [Zri] at l4;omega)];rfl
theorem Zrf (l:List Int):Zba.f l=some (l.headD 0):=by
 cases l with
 | nil=>rfl
 | cons x r=>rw [Zba.f,if_neg (by simp<;>omega),if_pos ⟨by omega,by simp<;>omega⟩];rfl
def Zc8 (l:List Int):Bool:=!(l.any λp=>decide (p<0\/128<=p))
theorem Zi3 (l:List Int) (hl:l.length<=Z2):H8.f l=some (Zc8 l):=by
 rw [H8.f,K5.f,Y6.f];have:=Zit (λk i=>Y6.l1 k l i) l (λp=>decide (p<0\/128<=p)) hl (λk=>?_) (λk pre x r e=>?_)
 ·rw [this,Option.bind_some,Zkz];rfl
 ·simp only [Y6.l1,if_neg (show ¬ (l.length:Int)<(l.length:Int) by omega)]
 ·obtain ⟨m1,m2⟩:=mid e
  have ep:Ul.f x=some (decide (x<0\/128<=x)):=by unfold Ul.f Ul.j1;split<;>simp [*]
  simp only [Y6.l1,if_pos m2.2,if_pos m2,m1,ep,Option.bind_some,nxt hl e]
end
section
open Go.RowKit

def eL (r:Int):List UInt8:=(Utf8.encode r).data.toList
theorem Zq7 {r:Int} (h0:0<=r) (h1:r<128):eL r=[UInt8.ofNat r.toNat]:=by
 have hv:Utf8.valid r=true:=by simp [Utf8.valid];omega
 have:r.toNat<128:=by omega
 simp only [eL,Utf8.encode,hv,if_true];rw [if_pos (by omega)]
theorem Zzj {n:Nat} (h0:128<=n) (h1:n<256):128<=(UInt8.ofNat n).toNat:=by
 rw [UInt8.toNat_ofNat'];omega
theorem Zz5 {r:Int} (h:r<0\/128<=r):∃ x t,eL r=x::t/\128<=x.toNat:=by
 have hc:∃ c,(if Utf8.valid r then r.toNat else Utf8.runeError)=c/\128<=c/\c<1114112:=by
  refine ⟨_,rfl,?_⟩;by_cases hv:Utf8.valid r=true
  ·rw [if_pos hv]
   simp [Utf8.valid] at hv;omega
  ·rw [if_neg hv]
   unfold Utf8.runeError;omega
 obtain ⟨c,e,h1,h2⟩:=hc;unfold eL Utf8.encode;simp only [e];rw [if_neg (by omega)];split
 ·exact ⟨_,_,rfl,Zzj (by omega) (by omega)⟩
 ·split
  ·exact ⟨_,_,rfl,Zzj (by omega) (by omega)⟩
  ·exact ⟨_,_,rfl,Zzj (by omega) (by omega)⟩
theorem Ztk (l:List Int):∀ (s:ByteArray),(l.foldl (λr n=>r++Utf8.encode n) s).data.toList=s.data.toList++l.flatMap eL:=by
 induction l with
 | nil=>intro s;simp
 | cons x l ih=>intro s;rw [List.foldl_cons,ih];simp [eL,ByteArray.data_append]
theorem Zfz (l:List Int):(runesBytes l).data.toList=l.flatMap eL:=by
 rw [runesBytes,Ztk];rfl
theorem Zsg (l:List Int):∀ (s:ByteArray),(l.foldl (λr n=>r.push (UInt8.ofNat n.toNat)) s).data.toList=s.data.toList++l.map λn=>UInt8.ofNat n.toNat:=by
 induction l with
 | nil=>intro s;simp
 | cons x l ih=>intro s;rw [List.foldl_cons,ih];simp [ByteArray.push]
theorem Zkc (l:List Int):(Zbe l).data.toList=l.map λn=>UInt8.ofNat n.toNat:=by
 rw [Zbe,Zsg];rfl
theorem Z11 {a b:ByteArray} (h:a.data.toList=b.data.toList):a=b:=by
 cases a;cases b;simp only at h;congr;exact Array.ext' h
theorem Zky {r:Int} {x:UInt8} {s t:List UInt8} (hx:x.toNat<128) (h:eL r++s=x::t):r=(x.toNat:Int)/\s=t:=by
 by_cases c:0<=r/\r<128
 ·rw [Zq7 c.1 c.2] at h
  simp only [List.cons_append,List.nil_append,List.cons.injEq] at h;refine ⟨?_,h.2⟩;rw [<- h.1,UInt8.toNat_ofNat'];omega
 ·obtain ⟨y,u,e,hy⟩:=Zz5 (r:=r) (by omega)
  rw [e,List.cons_append] at h;simp only [List.cons.injEq] at h;rw [h.1] at hy;omega
theorem Zxi (l:List Int):Zip l=true↔∃ r,l=120::110::45::45::r:=by
 unfold Zip;simp only [Bool.and_eq_true,decide_eq_true_eq];constructor
 ·rintro ⟨h,e⟩
  match l,h with
  | a::b::c::d::r,_=>
   have e1:=congrArg (λs:ByteArray=>s.data.toList) e;simp only [Zfz] at e1;have e2:sub (a::b::c::d::r) 0 4=[a,b,c,d]:=rfl;rw [e2] at e1;simp only [List.flatMap_cons,List.flatMap_nil] at e1;obtain ⟨h1,e1⟩:=Zky (by decide) e1;obtain ⟨h2,e1⟩:=Zky (by decide) e1;obtain ⟨h3,e1⟩:=Zky (by decide) e1;obtain ⟨h4,e1⟩:=Zky (by decide) e1;exact ⟨r,by rw [h1,h2,h3,h4];rfl⟩
 ·rintro ⟨r,rfl⟩
  refine ⟨by simp;omega,?_⟩;show runesBytes [120,110,45,45]=_;rfl
end
section
open Go.RowKit

def pr0 (a b:Int):Int×Bool:=(Qh.f none a b).getD (0,false)
theorem Qg {α:Type} {p:Prop} [Decidable p] {A B:Option α} (ha:∃ r,A=some r) (hb:∃ r,B=some r):∃ r,(if p then A else B)=some r:=by
 by_cases c:p
 ·rw [if_pos c];exact ha
 ·rw [if_neg c];exact hb
theorem Zmn {t:Option Tbs} (h:∀ a b,∃ r,Hb.f t a b=some r) (a b:Int):∃ r,Qh.f t a b=some r:=by
 have j1:∀ x,∃ r,Qh.j1 t a b x=some r:=by intro x;obtain ⟨r,hr⟩:=h a b;rw [Qh.j1,hr];exact Qg ⟨_,rfl⟩ ⟨_,rfl⟩
 have j2:∀ x,∃ r,Qh.j2 t a b x=some r:=by intro x;rw [Qh.j2];repeat' first | exact j1 _ | exact ⟨_,rfl⟩ | apply Qg
 rw [Qh.f];repeat' first | exact j2 _ | exact ⟨_,rfl⟩ | apply Qg
theorem Zwa (a b:Int):Qh.f none a b=some (pr0 a b):=by
 obtain ⟨r,hr⟩:=Zmn (t:=none) (λ_ _=>⟨_,rfl⟩) a b;rw [pr0,hr];rfl
end
section
open Go.IntKind (i8 i16 i32 i64 u8 u16 u32 u64)
open Go.RowKit

theorem Zor {l:List Int} (h:Zc8 l=true):∀ x∈l,0<=x/\x<128:=by
 intro x hx;simp only [Zc8,Bool.not_eq_true',List.any_eq_false,decide_eq_true_eq] at h;have:=h x hx;omega
theorem Zje {x:Int} (h0:0<=x) (h1:x<256):u8.wrap x=x:=by rw [IntKind.wrap_u8];omega
theorem Zkl {l:List Int} (h:Zc8 l=true):runesBytes l=Zbe l:=by
 apply Z11;rw [Zfz,Zkc];have:∀ m:List Int,(∀ x∈m,0<=x/\x<128)->m.flatMap eL=m.map λn=>UInt8.ofNat n.toNat:=by
  intro m
  induction m with
  | nil=>intro _;rfl
  | cons x m ih=>
   intro hm;have hx:=hm x (by simp);rw [List.flatMap_cons,Zq7 hx.1 hx.2,ih λy hy=>hm y (by simp [hy])];rfl
 exact this l (Zor h)
end
section
open Go.IntKind (i8 i16 i32 i64 u8 u16 u32 u64)
open Go.RowKit

abbrev pU:S13:=⟨36,1,26,38,700,72,128,45⟩
theorem Zqg (k b:Int):Vv.f pU k b=Hx.f k b:=by
 unfold Vv.f Hx.f;simp only;split
 ·congr 1;omega
 ·split<;>(congr 1;omega)
theorem Zuz (k b:Int):∃ t,Hx.f k b=some t/\1<=t/\t<=26:=by
 unfold Hx.f;split
 ·exact ⟨1,rfl,by omega,by omega⟩
 ·split
  ·exact ⟨26,rfl,by omega,by omega⟩
  ·exact ⟨_,rfl,by omega,by omega⟩
theorem Zjw (d:Int):Zbs.f d=Zc9.f d:=rfl
theorem Zxk (c:Int):Ve.f c=Vl.f c:=by
 simp only [Ve.f,Vl.f,Ve.j3,Vl.j3,Ve.j2,Vl.j2,Ve.j1,Vl.j1]
theorem Zob (c:Int) (h0:0<=c) (h1:c<256):∃ d,Vl.f c=some d/\-1<=d/\d<36:=by
 have w8:∀ x:Int,0<=x->x<256->u8.wrap x=x:=λx a b=>Zje a b;simp only [Vl.f,Vl.j3,Vl.j2,Vl.j1];by_cases a1:97<=c
 ·rw [if_pos a1]
  by_cases a2:c<=122
  ·rw [decide_eq_true a2,if_pos rfl,w8 _ (by omega) (by omega),w64 (by omega) (by omega)];exact ⟨_,rfl,by omega,by omega⟩
  ·rw [decide_eq_false a2,if_neg (by decide),if_pos (by omega),decide_eq_false (by omega),if_neg (by decide),if_pos (by omega),decide_eq_false (by omega),if_neg (by decide)];exact ⟨_,rfl,by omega,by omega⟩
 ·rw [if_neg a1,if_neg (by decide)]
  by_cases a3:65<=c
  ·rw [if_pos a3]
   by_cases a4:c<=90
   ·rw [decide_eq_true a4,if_pos rfl,w8 _ (by omega) (by omega),w64 (by omega) (by omega)];exact ⟨_,rfl,by omega,by omega⟩
   ·rw [decide_eq_false a4,if_neg (by decide),if_pos (by omega),decide_eq_false (by omega),if_neg (by decide)];exact ⟨_,rfl,by omega,by omega⟩
  ·rw [if_neg a3,if_neg (by decide)]
   by_cases a5:48<=c
   ·rw [if_pos a5]
    by_cases a6:c<=57
    ·rw [decide_eq_true a6,if_pos rfl,w8 _ (by omega) (by omega),w64 (x:=c-48) (by omega) (by omega),w64 (by omega) (by omega)];exact ⟨_,rfl,by omega,by omega⟩
    ·rw [decide_eq_false a6,if_neg (by decide)];exact ⟨_,rfl,by omega,by omega⟩
   ·rw [if_neg a5,if_neg (by decide)];exact ⟨_,rfl,by omega,by omega⟩
theorem Zvk (c:Int) (h0:0<=c) (h1:c<256):Hw.f pU c=Vl.f c:=by
 obtain ⟨d,h2,h3,h4⟩:=Zob c h0 h1;rw [Hw.f,Zxk,h2,Option.bind_some,if_pos (by exact h4)]
theorem Zqw:∀ (k:Nat) (a b:Int),Xy.l1 k pU a b=K7.l1 k a b
 | 0,_,_=>rfl
 | k+1,a,b=>by
  have e1:i64.wrap (36-1)=35:=by rw [IntKind.wrap_i64];decide
  have e2:i64.wrap (35*26)=910:=by rw [IntKind.wrap_i64];decide
  have e3:i64.wrap ((910:Int).tdiv 2)=455:=by rw [IntKind.wrap_i64];decide
  have e4:i64.wrap (35+1)=36:=by rw [IntKind.wrap_i64];decide
  simp only [Xy.l1,K7.l1,e1,e2,e3,e4,Zqw k,ne_eq,if_pos (show ¬ (35:Int)=0 by decide)]
theorem Zqv (d p:Int) (f:Bool):Xy.f pU d p f=K7.f d p f:=by
 simp only [Xy.f,K7.f,Xy.j1,K7.j1,Zqw,ne_eq,if_pos (show ¬ (700:Int)=0 by decide)]
end
section
open Go.IntKind (i8 i16 i32 i64 u8 u16 u32 u64)
open Go.RowKit

theorem Zy7 (a0:List Int->Int->Int->Int->Int->Option (List Int×Int×Int)) (aa:List Int) (ag ae ac ab ao a7 p:Int) (hp:i64.wrap (ac+i64.wrap (ao*ab))=p) {i:Nat} (hm:p.tmod (i64.wrap ((aa.length:Int)+1))=(i:Int)) (hl:aa.length+1<=Z2):
  ∀ (j:Nat) (z:Int) (k:Nat),i<=j->j<=aa.length->j<k->
   Yq.l1 a0 k aa ag ae ac ab ao a7 (aa.take j++z::aa.drop j) (j:Int)=
    a0 (Zfp aa (i:Int) (i32.wrap (i64.wrap (ag+(i64.wrap (p.tdiv (i64.wrap ((aa.length:Int)+1)))))))) (i64.wrap (ae+1)) (i64.wrap (ag+(i64.wrap (p.tdiv (i64.wrap ((aa.length:Int)+1)))))) (i64.wrap ((i:Int)+1)) a7:=by
 have hb:=hl;unfold Z2 at hb;intro j
 induction j with
 | zero=>
  intro z k h1 h2 h3;obtain ⟨k,rfl⟩:∃ q,k=q+1:=⟨k-1,by omega⟩;obtain rfl:i=0:=by omega
  simp only [Yq.l1,hp,hm];rw [if_neg (by omega),if_pos ⟨by omega,by simp<;>omega⟩];simp [Zfp]
 | succ j ih=>
  intro z k h1 h2 h3;obtain ⟨k,rfl⟩:∃ q,k=q+1:=⟨k-1,by omega⟩;have hlen:(aa.take (j+1)++z::aa.drop (j+1)).length=aa.length+1:=by simp;omega
  simp only [Yq.l1,hp,hm];by_cases c:i=j+1
  ·subst c
   rw [if_neg (by omega),if_pos ⟨by omega,by rw [hlen];omega⟩];congr 1;have e:((j+1:Nat):Int).toNat=j+1:=by omega
   rw [Zfp,e,List.set_append_right _ _ (by simp;omega)];congr 1;have:j+1-(aa.take (j+1)).length=0:=by simp;omega
   rw [this];rfl
  ·have w1:i64.wrap (((j+1:Nat):Int)-1)=(j:Int):=by rw [w64 (by omega) (by omega)];omega
   rw [if_pos (by omega),w1,if_pos ⟨by omega,by rw [hlen];omega⟩,if_pos ⟨by omega,by rw [hlen];omega⟩];have hj:j<aa.length:=by omega
   have e:((j+1:Nat):Int).toNat=j+1:=by omega
   have er:rd (aa.take (j+1)++z::aa.drop (j+1)) (j:Int)=aa[j]:=by
    unfold rd;have e2:((j:Nat):Int).toNat=j:=by omega
    rw [e2];rw [List.getD_eq_getElem?_getD,List.getElem?_append_left (by simp;omega),List.getElem?_take,if_pos (by omega),List.getElem?_eq_getElem hj];rfl
   have es:(aa.take (j+1)++z::aa.drop (j+1)).set (j+1) aa[j]=aa.take j++aa[j]::aa.drop j:=by
    rw [List.set_append_right _ _ (by simp;omega)];have:j+1-(aa.take (j+1)).length=0:=by simp;omega
    have e3:aa.take (j+1)=aa.take j++[aa[j]]:=by rw [List.take_add_one,List.getElem?_eq_getElem hj];rfl
    have e4:aa.drop j=aa[j]::aa.drop (j+1):=List.drop_eq_getElem_cons hj;rw [this,List.set_cons_zero,e3,List.append_assoc,e4];rfl
   rw [e,er,es];exact ih aa[j] k (by omega) (by omega) (by omega)
def Z1i (a0:List Int->Int->Int->Int->Int->Option (List Int×Int×Int)) (aa:List Int) (ag ai ae ac ab ao:Int):Option (List Int×Int×Int):=
 (K7.f (i64.wrap ((i64.wrap (ac+(i64.wrap (ao*ab))))-ai)) (i64.wrap ((aa.length:Int)+1)) (decide (ai=0))).bind λa7=>(if (i64.wrap ((aa.length:Int)+1))≠0 then (if 1114111<(i64.wrap (ag+(i64.wrap ((i64.wrap (ac+(i64.wrap (ao*ab)))).tdiv (i64.wrap ((aa.length:Int)+1)))))) then (some (([]:List Int),ae,142)) else ((Vs.f (i32.wrap (i64.wrap (ag+(i64.wrap ((i64.wrap (ac+(i64.wrap (ao*ab)))).tdiv (i64.wrap ((aa.length:Int)+1)))))))).bind λb2=>(if (!b2)=true then (some (([]:List Int),ae,143)) else (if aa.length+([0]).length<=most then (Yq.l1 a0 K0 aa ag ae ac ab ao a7 (aa++([0])) (i64.wrap (((aa++([0])).length:Int)-1))) else none)))) else none)
theorem Zim (s:ByteArray) (i:Int) (h0:0<=i) (h1:i<(s.size:Int)):0<=bt s i/\bt s i<256:=by
 rw [Zlr];obtain ⟨n,hn⟩:=Zin (s:=s) (Zh2 (D:=Vx s) h0 (by rw [Vb];exact h1));rw [hn];have:=n.isLt;omega
theorem Zv8 (a0:List Int->Int->Int->Int->Int->Option (List Int×Int×Int)) (s:ByteArray) (hs:s.size<=Z2) (aa:List Int) (ag ai aj:Int):
  ∀ (k:Nat) (ae ac ab ar:Int),(s.size:Int)-ae<(k:Int)->0<=ae->ae<=(s.size:Int)->0<=ac->ac<=2147483648->1<=ab->ab<=2147483647->36<=ar->ar<=36*(ae+1)->
   ∃ pl e at' i',Qi.l1 k 36 1 26 38 700 72 128 45 s aj ae ac ab ar=some (pl,e,at',i')/\(e≠0->Yq.l2 a0 k s aa ag ai aj ae ac ab ar=some ([],pl,e))/\
    (e=0->ae<at'/\at'<=(s.size:Int)/\ac<=i'/\i'<=2147483647/\∃ ac' ab' ao',i64.wrap (ac'+i64.wrap (ao'*ab'))=i'/\Yq.l2 a0 k s aa ag ai aj ae ac ab ar=Z1i a0 aa ag ai (at'-1) ac' ab' ao'):=by
 have hb:=hs;unfold Z2 at hb;intro k
 induction k with
 | zero=>intro ae ac ab ar h;omega
 | succ k ih=>
  intro ae ac ab ar h1 h2 h3 h4 h5 h6 h7 h8 h9;simp only [Qi.l1,Yq.l2];by_cases c:ae=(s.size:Int)
  ·rw [if_pos c,if_pos c]
   exact ⟨_,_,_,_,rfl,λ_=>rfl,λh=>absurd h (by decide)⟩
  ·rw [if_neg c,if_neg c,if_pos ⟨h2,by omega⟩,if_pos ⟨h2,by omega⟩]
   obtain ⟨r1,r2⟩:=Zim s ae h2 (by omega);obtain ⟨d,g1,g2,g3⟩:=Zob _ r1 r2;rw [show Hw.f ⟨36,1,26,38,700,72,128,45⟩ (bt s ae)=some d from by rw [Zvk _ r1 r2,g1],g1,Option.bind_some,Option.bind_some];by_cases c2:d<0
   ·rw [if_pos c2,if_pos c2]
    exact ⟨_,_,_,_,rfl,λ_=>rfl,λh=>absurd h (by decide)⟩
   ·have hdb:0<=d*ab/\d*ab<=75161927645:=by
     constructor
     ·exact Int.mul_nonneg (by omega) (by omega)
     ·have:d*ab<=35*ab:=Int.mul_le_mul_of_nonneg_right (by omega) (by omega)
      omega
    have w1:i64.wrap (d*ab)=d*ab:=w64 (by omega) (by omega)
    have w2:i64.wrap (ac+d*ab)=ac+d*ab:=w64 (by omega) (by omega)
    have w3:i64.wrap (ae+1)=ae+1:=w64 (by omega) (by omega)
    have w4:i64.wrap (ar+36)=ar+36:=w64 (by omega) (by omega)
    rw [if_neg c2,if_neg c2]
    by_cases c3:2147483647<i64.wrap (ac+i64.wrap (d*ab))
    ·rw [if_pos c3,if_pos c3]
     exact ⟨_,_,_,_,rfl,λ_=>rfl,λh=>absurd h (by decide)⟩
    ·obtain ⟨t,t1,t2,t3⟩:=Zuz ar aj
     rw [if_neg c3,if_neg c3,show Vv.f ⟨36,1,26,38,700,72,128,45⟩ ar aj=some t from by rw [Zqg,t1],t1,Option.bind_some,Option.bind_some]
     by_cases c4:d<t
     ·rw [if_pos c4,if_pos c4]
      refine ⟨_,_,_,_,rfl,λh=>absurd rfl h,λ_=>⟨by omega,by omega,by rw [w1,w2];omega,by omega,ac,ab,d,rfl,?_⟩⟩
      rw [w3,show ae+1-1=ae by omega];rfl
     ·rw [if_neg c4,if_neg c4]
      have w5:i64.wrap (36-t)=36-t:=w64 (by omega) (by omega)
      have hab:0<=ab*(36-t)/\ab*(36-t)<=75161927645/\1<=ab*(36-t):=by
       have a1:ab*1<=ab*(36-t):=Int.mul_le_mul_of_nonneg_left (by omega) (by omega)
       have a2:ab*(36-t)<=ab*35:=Int.mul_le_mul_of_nonneg_left (by omega) (by omega)
       omega
      have w6:i64.wrap (ab*(36-t))=ab*(36-t):=w64 (by omega) (by omega)
      by_cases c5:2147483647<i64.wrap (ab*i64.wrap (36-t))
      ·rw [if_pos c5,if_pos c5]
       exact ⟨_,_,_,_,rfl,λ_=>rfl,λh=>absurd h (by decide)⟩
      ·rw [if_neg c5,if_neg c5]
       rw [w5,w6] at c5 ⊢
       rw [w1,w2] at c3 ⊢
       rw [w3,w4]
       obtain ⟨pl,e,at',i',q1,q2,q3⟩:=ih (ae+1) (ac+d*ab) (ab*(36-t)) (ar+36) (by omega) (by omega) (by omega) (by omega) (by omega) (by omega) (by omega) (by omega) (by omega)
       refine ⟨pl,e,at',i',q1,q2,λhe=>?_⟩
       obtain ⟨p1,p2,p3,p4⟩:=q3 he
       exact ⟨by omega,p2,by omega,p4⟩
theorem Zqb (x:Int):H5.f x=Vs.f x:=by
 simp only [H5.f,Xn.f,Xn.j2,Xn.j1,Vs.f,Vs.j1];by_cases a:0<=x
 ·rw [if_pos a,if_pos a]
  by_cases b:x<55296
  ·simp [b]
  ·simp only [b,decide_false,if_false,Bool.false_eq_true]
   by_cases c:57343<x
   ·by_cases d:x<=1114111<;>simp [c,d]
   ·simp [c]
 ·rw [if_neg a,if_neg a]
  simp [show ¬ 57343<x by omega]
theorem Zr1 (x:Int):∃ b,Vs.f x=some b:=by
 unfold Vs.f Vs.j1;repeat' first | exact ⟨_,rfl⟩ | apply Qg
theorem Zll:∀ (k:Nat) (a b:Int),0<=a->a<=8589934592->a<(k:Int)->∃ r,K7.l1 k a b=some r
 | 0,a,b,h0,_,h2=>by omega
 | k+1,a,b,h0,h1,h2=>by
  simp only [K7.l1]
  by_cases c:455<a
  ·have ht:a.tdiv 35=a/35:=Int.tdiv_eq_ediv_of_nonneg h0
   have hw:i64.wrap (a.tdiv 35)=a/35:=by rw [ht];exact w64 (by omega) (by omega)
   rw [if_pos c,hw]
   exact Zll k _ _ (by omega) (by omega) (by omega)
  ·rw [if_neg c,w64 (x:=a+38) (by omega) (by omega),if_pos (by omega)]
   exact ⟨_,rfl⟩
theorem Znx (d p:Int) (f:Bool) (h0:0<=d) (h1:d<=2147483648) (hp:1<=p):∃ r,K7.f d p f=some r:=by
 have hK:(K0:Int)=1180591620717411303424:=rfl;have key:∀ c:Int,0<=c->c<=2147483648->∃ r,K7.j1 p c=some r:=by intro c c0 c1;have e1:c.tdiv p=c/p:=Int.tdiv_eq_ediv_of_nonneg c0;have e2:0<=c/p:=Int.ediv_nonneg c0 (by omega);have e3:c/p<=c:=Int.ediv_le_self p c0;rw [K7.j1,if_pos (by omega),e1,w64 (x:=c/p) (by omega) (by omega),w64 (by omega) (by omega)];exact Zll K0 _ _ (by omega) (by omega) (by omega)
 have t1:d.tdiv 700=d/700:=Int.tdiv_eq_ediv_of_nonneg h0;have t2:d.tdiv 2=d/2:=Int.tdiv_eq_ediv_of_nonneg h0;rw [K7.f,t1,t2,w64 (x:=d/700) (by omega) (by omega),w64 (x:=d/2) (by omega) (by omega)];split
 ·exact key _ (by omega) (by omega)
 ·exact key _ (by omega) (by omega)
theorem Zur (s:ByteArray) (hs:2*s.size<=Z2):∀ (q:Nat) (out:List Int) (at' n i b:Int) (k:Nat),(s.size:Int)-at'<=(q:Int)->q<k->0<=at'->(out.length:Int)<=at'->at'<=(s.size:Int)+1->0<=n->n<=1114111->0<=i->i<=(out.length:Int)->i<=2147483648->
  ∃ l a e,Xp.l1 k pU s out at' n i b=some (l,a,e)/\Yq.l3 k s out at' n i b=some (l,a,e)/\(l.length:Int)<=(s.size:Int)+1:=by
 have hb:=hs;unfold Z2 at hb;have hK:(K0:Int)=1180591620717411303424:=rfl;intro q
 induction q with
 | zero=>
  intro out at' n i b k h1 h2 h3 h4 h5 h6 h7 h8 h9 h10;obtain ⟨k,rfl⟩:∃ j,k=j+1:=⟨k-1,by omega⟩;simp only [Xp.l1,Yq.l3];rw [if_neg (by omega),if_neg (by omega)];exact ⟨_,_,_,rfl,rfl,by first | omega | (simp;omega)⟩
 | succ q ih=>
  intro out at' n i b k h1 h2 h3 h4 h5 h6 h7 h8 h9 h10;obtain ⟨k,rfl⟩:∃ j,k=j+1:=⟨k-1,by omega⟩;simp only [Xp.l1,Yq.l3];by_cases c:at'<(s.size:Int)
  ·rw [if_pos c,if_pos c]
   obtain ⟨pl,e,at2,i2,q1,q2,q3⟩:=Zv8 (Yq.l3 k s) s (by unfold Z2;omega) out n i b K0 at' i 1 36 (by omega) h3 (by omega) h8 (by omega) (by omega) (by omega) (by omega) (by omega);simp only [Hd.f,Qi.f,q1,Option.bind_some];by_cases he:e=0
   ·obtain ⟨p1,p2,p3,p4,ac,ab,ao,p5,p6⟩:=q3 he
    rw [p6];have wl:i64.wrap ((out.length:Int)+1)=(out.length:Int)+1:=w64 (by omega) (by omega);have hpos:(0:Int)<(out.length:Int)+1:=by omega
    have td:i2.tdiv ((out.length:Int)+1)=i2/((out.length:Int)+1):=Int.tdiv_eq_ediv_of_nonneg (by omega);have tm:i2.tmod ((out.length:Int)+1)=i2%((out.length:Int)+1):=Int.tmod_eq_emod_of_nonneg (by omega);have d0:0<=i2/((out.length:Int)+1):=Int.ediv_nonneg (by omega) (by omega);have d1:i2/((out.length:Int)+1)<=i2:=Int.ediv_le_self _ (by omega);have m0:0<=i2%((out.length:Int)+1):=Int.emod_nonneg _ (by omega);have m1:i2%((out.length:Int)+1)<(out.length:Int)+1:=Int.emod_lt_of_pos _ hpos;have m2:i2%((out.length:Int)+1)<=i2:=by have:=Int.mul_ediv_add_emod i2 ((out.length:Int)+1);have:=Int.mul_nonneg (show (0:Int)<=(out.length:Int)+1 by omega) d0;omega
    have wd:i64.wrap (i2-i)=i2-i:=w64 (by omega) (by omega);have w1:i64.wrap (i2/((out.length:Int)+1))=i2/((out.length:Int)+1):=w64 (by omega) (by omega);have w2:i64.wrap (n+i2/((out.length:Int)+1))=n+i2/((out.length:Int)+1):=w64 (by omega) (by omega);have w3:i64.wrap (at2-1)=at2-1:=w64 (by omega) (by omega);have w4:i64.wrap (i2%((out.length:Int)+1)+1)=i2%((out.length:Int)+1)+1:=w64 (by omega) (by omega);have w5:i64.wrap (at2-1+1)=at2:=by rw [w64 (by omega) (by omega)];omega
    obtain ⟨ad,had⟩:=Znx (i2-i) ((out.length:Int)+1) (decide (i=0)) (by omega) (by omega) (by omega);have hne:¬ (out.length:Int)+1=0:=by omega
    simp only [he,ne_eq,not_true_eq_false,if_false,Z1i,p5,wl,Zqv,wd,had,Option.bind_some,hne,not_false_eq_true,if_true,td,tm,w1,w2,w3,w4];by_cases c2:1114111<n+i2/((out.length:Int)+1)
    ·simp only [if_pos c2,Option.bind_some]
     exact ⟨_,_,_,rfl,rfl,by first | omega | (simp;omega)⟩
    ·simp only [if_neg c2,Zqb]
     obtain ⟨sb,hsb⟩:=Zr1 (i32.wrap (n+i2/((out.length:Int)+1)));simp only [hsb,Option.bind_some]
     cases sb with
     | false=>exact ⟨_,_,_,rfl,rfl,by first | omega | (simp;omega)⟩
     | true=>
      have hms:out.length+1<=most:=by unfold most;omega
      obtain ⟨im,him⟩:∃ im:Nat,i2%((out.length:Int)+1)=(im:Int):=⟨(i2%((out.length:Int)+1)).toNat,by omega⟩;have hsh:=Zy7 (Yq.l3 k s) out n (at2-1) ac ab ao ad i2 p5 (i:=im) (by rw [wl,tm,him]) (by unfold Z2;omega) out.length 0 K0 (by omega) (Nat.le_refl _) (by omega);have e1:out.take out.length++(0:Int)::out.drop out.length=out++[0]:=by simp
      have e2:i64.wrap (((out++[(0:Int)]).length:Int)-1)=(out.length:Int):=by rw [List.length_append,w64 (by simp<;>omega) (by simp<;>omega)];simp
      rw [e1,wl,td,w1,w2,w5,<- him,w4] at hsh;have hil:(Zfp out (i2%((out.length:Int)+1)) (i32.wrap (n+i2/((out.length:Int)+1)))).length=out.length+1:=by simp [Zfp];omega
      obtain ⟨l,a,e',r1,r2,r3⟩:=ih (Zfp out (i2%((out.length:Int)+1)) (i32.wrap (n+i2/((out.length:Int)+1)))) at2 (n+i2/((out.length:Int)+1)) (i2%((out.length:Int)+1)+1) ad k (by omega) (by omega) (by omega) (by rw [hil];omega) (by omega) (by omega) (by omega) (by omega) (by rw [hil];omega) (by omega);refine ⟨l,a,e',?_,?_,r3⟩
      ·rw [if_neg (by decide),if_pos ⟨m0,by omega,hms⟩,Option.bind_some,if_neg (by simp)]
       exact r1
      ·rw [if_neg (by decide),if_pos (by simpa using hms),e2,hsh]
       exact r2
   ·rw [q2 he]
    simp only [ne_eq,he,not_false_eq_true,if_true,Option.bind_some];exact ⟨_,_,_,rfl,rfl,by first | omega | (simp;omega)⟩
  ·rw [if_neg c,if_neg c]
   exact ⟨_,_,_,rfl,rfl,by first | omega | (simp;omega)⟩
end
section
open Go.IntKind (i8 i16 i32 i64 u8 u16 u32 u64)
open Go.RowKit

theorem Zv0 (s:ByteArray) (hs:s.size<=Z2):∀ (m:Nat) (i:Int) (k:Nat),i+1<=(m:Int)->m<k->-1<=i->i<(s.size:Int)->
  ∃ r,Yl.l1 k s 45 i=some r/\((r=-1/\∀ j,0<=j->j<=i->bt s j≠45)\/(0<=r/\r<=i/\bt s r=45/\∀ j,r<j->j<=i->bt s j≠45)):=by
 have hb:=hs;unfold Z2 at hb;intro m
 induction m with
 | zero=>
  intro i k h1 h2 h3 h4;obtain ⟨k,rfl⟩:∃ q,k=q+1:=⟨k-1,by omega⟩;simp only [Yl.l1];rw [if_neg (by omega)];exact ⟨-1,rfl,.inl ⟨rfl,λj a b=>by omega⟩⟩
 | succ m ih=>
  intro i k h1 h2 h3 h4;obtain ⟨k,rfl⟩:∃ q,k=q+1:=⟨k-1,by omega⟩;simp only [Yl.l1];by_cases c:0<=i
  ·rw [if_pos c,if_pos ⟨c,h4⟩]
   by_cases d:bt s i=45
   ·rw [if_pos d]
    exact ⟨i,rfl,.inr ⟨c,Int.le_refl _,d,λj a b=>by omega⟩⟩
   ·rw [if_neg d,w64 (by omega) (by omega)]
    obtain ⟨r,q1,q2⟩:=ih (i-1) k (by omega) (by omega) (by omega) (by omega);refine ⟨r,q1,?_⟩
    rcases q2 with ⟨a1,a2⟩ | ⟨a1,a2,a3,a4⟩
    ·refine .inl ⟨a1,λj b1 b2=>?_⟩
     by_cases e:j=i
     ·rw [e];exact d
     ·exact a2 j b1 (by omega)
    ·refine .inr ⟨a1,by omega,a3,λj b1 b2=>?_⟩
     by_cases e:j=i
     ·rw [e];exact d
     ·exact a4 j b1 (by omega)
  ·rw [if_neg c]
   exact ⟨-1,rfl,.inl ⟨rfl,λj a b=>by omega⟩⟩
def Z09 (s:ByteArray) (i al:Int):Prop:=(al=0/\∀ j,0<j->j<i->bt s j≠45)\/(0<al/\al<i/\bt s al=45/\∀ j,al<j->j<i->bt s j≠45)
theorem Zx5 (s:ByteArray) (hs:s.size<=Z2):∀ (m:Nat) (i al:Int) (k:Nat),(s.size:Int)-i<=(m:Int)->m<k->0<=i->i<=(s.size:Int)->Z09 s i al->
  ∃ al',Yq.l5 k s al i=Yq.l4 K0 s al' [] 0/\Z09 s (s.size:Int) al':=by
 have hb:=hs;unfold Z2 at hb;intro m
 induction m with
 | zero=>
  intro i al k h1 h2 h3 h4 h5;obtain ⟨k,rfl⟩:∃ q,k=q+1:=⟨k-1,by omega⟩;obtain rfl:i=(s.size:Int):=by omega
  simp only [Yq.l5];rw [if_neg (by omega)];exact ⟨al,rfl,h5⟩
 | succ m ih=>
  intro i al k h1 h2 h3 h4 h5;obtain ⟨k,rfl⟩:∃ q,k=q+1:=⟨k-1,by omega⟩;simp only [Yq.l5,Yq.j1];by_cases c:i<(s.size:Int)
  ·rw [if_pos c,if_pos ⟨h3,c⟩,w64 (by omega) (by omega)]
   by_cases d:bt s i=45
   ·rw [if_pos d]
    refine ih (i+1) i k (by omega) (by omega) (by omega) (by omega) ?_;by_cases e:i=0
    ·exact .inl ⟨e,λj a b=>by omega⟩
    ·exact .inr ⟨by omega,by omega,d,λj a b=>by omega⟩
   ·rw [if_neg d]
    refine ih (i+1) al k (by omega) (by omega) (by omega) (by omega) ?_
    rcases h5 with ⟨a1,a2⟩ | ⟨a1,a2,a3,a4⟩
    ·refine .inl ⟨a1,λj b1 b2=>?_⟩
     by_cases e:j=i
     ·rw [e];exact d
     ·exact a2 j b1 (by omega)
    ·refine .inr ⟨a1,by omega,a3,λj b1 b2=>?_⟩
     by_cases e:j=i
     ·rw [e];exact d
     ·exact a4 j b1 (by omega)
  ·rw [if_neg c]
   obtain rfl:i=(s.size:Int):=by omega
   exact ⟨al,rfl,h5⟩
theorem Zvz (s:ByteArray) (hs:s.size<=Z2):∃ r al,Up.f s 45=some r/\Yq.f s=Yq.l4 K0 s al [] 0/\(if 0<r then al=r else al=0)/\r<(s.size:Int):=by
 have hb:=hs;unfold Z2 at hb;have hK:(K0:Int)=1180591620717411303424:=rfl;obtain ⟨r,p1,p2⟩:=Zv0 s hs s.size ((s.size:Int)-1) K0 (by omega) (by omega) (by omega) (by omega);obtain ⟨al,q1,q2⟩:=Zx5 s hs s.size 0 0 K0 (by omega) (by omega) (by omega) (by omega) (.inl ⟨rfl,λj a b=>by omega⟩);refine ⟨r,al,?_,q1,?_,?_⟩
 ·rw [Up.f,Yl.f,w64 (by omega) (by omega),p1];rfl
 ·rcases p2 with ⟨a1,a2⟩ | ⟨a1,a2,a3,a4⟩
  ·rw [if_neg (by omega)]
   rcases q2 with ⟨b1,_⟩ | ⟨b1,b2,b3,_⟩
   ·exact b1
   ·exact absurd b3 (a2 al (by omega) (by omega))
  ·by_cases c:0<r
   ·rw [if_pos c]
    rcases q2 with ⟨b1,b2⟩ | ⟨b1,b2,b3,b4⟩
    ·exact absurd a3 (b2 r c (by omega))
    ·by_cases d:al<r
     ·exact absurd a3 (b4 r d (by omega))
     ·by_cases d2:r<al
      ·exact absurd b3 (a4 al d2 (by omega))
      ·omega
   ·rw [if_neg c]
    rcases q2 with ⟨b1,b2⟩ | ⟨b1,b2,b3,b4⟩
    ·exact b1
    ·exact absurd b3 (a4 al (by omega) (by omega))
 ·rcases p2 with ⟨a1,_⟩ | ⟨_,a2,_,_⟩<;>omega
def Zu7 (s:ByteArray):Prop:=∀ j,0<=j->j<(s.size:Int)->bt s j<128
theorem Zms (s:ByteArray) (hs:2*s.size<=Z2) (ha:Zu7 s) (al:Int) (h0:0<=al) (h1:al<=(s.size:Int)):∀ (m:Nat) (i:Nat) (k:Nat),al-i<=(m:Int)->m<k->(i:Int)<=al->
  Yq.l4 k s al ((Vx s).take i) (i:Int)=Yq.j2 s ((Vx s).take al.toNat) (if 0<al then i64.wrap (al+1) else al):=by
 have hb:=hs;unfold Z2 at hb;intro m
 induction m with
 | zero=>
  intro i k a b c;obtain ⟨k,rfl⟩:∃ q,k=q+1:=⟨k-1,by omega⟩;simp only [Yq.l4];have e:al.toNat=i:=by omega
  rw [if_neg (by omega),e];split<;>rfl
 | succ m ih=>
  intro i k a b c;obtain ⟨k,rfl⟩:∃ q,k=q+1:=⟨k-1,by omega⟩;simp only [Yq.l4];by_cases d:(i:Int)<al
  ·have hi:=ha i (by omega) (by omega)
   obtain ⟨r1,r2⟩:=Zim s i (by omega) (by omega);have wv:i32.wrap (bt s i)=bt s i:=w32 (by omega) (by omega);have hl:i<(Vx s).length:=by rw [Vb];omega
   rw [if_pos d,if_pos ⟨by omega,by omega⟩,if_neg (by omega),wv,if_pos (by unfold most;simp;omega),w64 (by omega) (by omega)];have e:(Vx s).take i++[bt s i]=(Vx s).take (i+1):=by rw [List.take_add_one,List.getElem?_eq_getElem hl,Zlr];unfold rd;simp [List.getD_eq_getElem?_getD,hl]
   rw [e];have:=ih (i+1) k (by omega) (by omega) (by omega);rw [show ((i+1:Nat):Int)=(i:Int)+1 by omega] at this;exact this
  ·have e:al.toNat=i:=by omega
   rw [if_neg d,e];split<;>rfl
theorem Zxj {xs:List Int} {x:Int} {t:List Int} (e:xs=x::t) (h0:0<=x) (h1:x<128):Xf.f xs=some (x,1):=by
 subst e;obtain ⟨k,hk⟩:∃ k,K0=k+1:=⟨1180591620717411303423,rfl⟩;rw [Xf.f,hk];simp only [Xf.l1];rw [if_pos (by simp<;>omega),if_pos ⟨by omega,by simp<;>omega⟩,show rd (x::t) 0=x from rfl,if_pos h1,w32 (by omega) (by omega)]
theorem Zvm (xs:List Int) (hx:xs.length<=Z2) (ha:∀ x∈xs,0<=x/\x<128):U5.f xs 36 1 26 38 700 72 128 45=some (-1):=by
 rw [U5.f,Qx.f];have key:=Xu (λk i (_:Unit)=>Qx.l1 k 36 1 26 38 700 72 128 45 xs true i) xs (λ_ _ _ o=>o=some (-1)) (λ_ k=>?_) (λpre x t _ k e ih=>?_) () K0 (ltK hx)
 ·rw [key];rfl
 ·simp only [Qx.l1,if_neg (show ¬ (xs.length:Int)<(xs.length:Int) by omega)]
 ·obtain ⟨m1,m2⟩:=mid e
  obtain ⟨h0,h1⟩:=ha x (by rw [e];simp);have hs:sub xs (pre.length:Int) (xs.length:Int)=x::t:=Zlc e;have hbas:Uh.f x 36 1 26 38 700 72 128 45=some false:=by rw [Uh.f,Qm.f,w64 (by omega) (by omega),if_pos h1,Qm.j1,decide_eq_true h1];rfl
  simp only [Qx.l1,if_pos m2.2,if_pos (show (0:Int)<=(pre.length:Int)/\(pre.length:Int)<=(xs.length:Int)/\(xs.length:Int)<=(xs.length:Int) from ⟨by omega,by omega,by omega⟩),hs,Zxj rfl h0 h1,Option.bind_some,hbas,nxt hx e];rw [if_neg (by decide)];exact ih ()
theorem Zvq (s:ByteArray) (i:Nat) (h:i<s.size) (ha:bt s (i:Int)<128):Utf8.decode s i=((bt s (i:Int)).toNat,1):=by
 have e:(s.get! i).toNat=(bt s (i:Int)).toNat:=by
  have e1:((i:Nat):Int).toNat=i:=by omega
  have hd:i<s.data.size:=h;unfold bt;rw [e1]
  cases s with
  | mk d=>simp [ByteArray.get!,Array.getD_eq_getD_getElem?,show i<d.size from hd]
 have hlt:(s.get! i).toNat<128:=by rw [e];omega
 unfold Utf8.decode;simp only [Nat.add_zero];rw [if_pos hlt,e]
theorem Zmu (s:ByteArray) (ha:Zu7 s):∀ (b i:Nat) (acc:Array Value),s.size<=b+i->(Conv.runesFrom s b i acc).toList=acc.toList++((Vx s).drop i).map (Value.int .i32)
 | 0,i,acc,h=>by
  rw [Conv.runesFrom,List.drop_of_length_le (by rw [Vb];omega)];simp
 | b+1,i,acc,h=>by
  unfold Conv.runesFrom
  by_cases c:i<s.size
  ·have hi:=ha i (by omega) (by omega)
   obtain ⟨r1,r2⟩:=Zim s i (by omega) (by omega)
   have hl:i<(Vx s).length:=by rw [Vb];exact c
   rw [if_pos c,Zvq s i c hi]
   simp only
   rw [Zmu s ha b (i+1) _ (by omega),List.drop_eq_getElem_cons hl]
   have e:(Vx s)[i]=bt s (i:Int):=by
    rw [Zlr];unfold rd;simp [List.getD_eq_getElem?_getD,hl]
   rw [e,Array.toList_push,List.map_cons,List.append_assoc]
   have e2:(Int.ofNat (bt s (i:Int)).toNat)=bt s (i:Int):=by
    show (((bt s (i:Int)).toNat:Nat):Int)=_
    omega
   rw [e2];rfl
  ·rw [if_neg c,List.drop_of_length_le (by rw [Vb];omega)];simp
theorem Zqa (s:ByteArray) (ha:Zu7 s):Zbn s=Vx s:=by
 have h:=Zj1 s;rw [Zmu s ha s.size 0 #[] (by omega)] at h;simp only [List.nil_append,List.drop_zero] at h;have hinj:∀ (a b:List Int),a.map (Value.int .i32)=b.map (Value.int .i32)->a=b:=by
  intro a
  induction a with
  | nil=>intro b h;cases b with | nil=>rfl | cons _ _=>simp at h
  | cons x a ih=>
   intro b h
   cases b with
   | nil=>simp at h
   | cons y b=>simp at h;rw [h.1,ih b (by simpa using h.2)]
 exact (hinj _ _ h).symm
theorem Zhv (s:ByteArray) (n:Nat):Vx (s.extract 0 n)=(Vx s).take n:=by
 simp [Vx,ByteArray.extract,ByteArray.copySlice,List.map_take]
theorem Zsk (s:ByteArray) (hs:2*s.size<=Z2) (ha:Zu7 s):∃ l a e,Xp.f pU s=some (l,a,e)/\Yq.f s=some (l,a,e)/\(l.length:Int)<=(s.size:Int)+1:=by
 have hb:=hs;unfold Z2 at hb;have hK:(K0:Int)=1180591620717411303424:=rfl;obtain ⟨r,al,p1,p2,p3,p4⟩:=Zvz s (by unfold Z2;omega);by_cases c:0<r
 ·rw [if_pos c] at p3
  subst p3;have hpre:=Zms s hs ha al (by omega) (by omega) s.size 0 K0 (by omega) (by omega) (by omega);rw [if_pos c,w64 (by omega) (by omega)] at hpre;have hlen:((Vx s).take al.toNat).length=al.toNat:=by rw [List.length_take,Vb];omega
  obtain ⟨l,a,e,q1,q2,q3⟩:=Zur s hs (s.size+1) ((Vx s).take al.toNat) (al+1) 128 0 72 K0 (by omega) (by omega) (by omega) (by rw [hlen];omega) (by omega) (by omega) (by omega) (by omega) (by omega) (by omega);refine ⟨l,a,e,?_,?_,q3⟩
  ·have hx:∀ x∈Vx (s.extract 0 al.toNat),0<=x/\x<128:=by
    intro x hx;rw [Zhv] at hx;obtain ⟨j,hj0,hj2⟩:=List.getElem_of_mem (List.mem_of_mem_take hx);have hj:j<s.size:=by rw [<- Vb];exact hj0
    have h1:=ha j (by omega) (by omega);obtain ⟨h2,_⟩:=Zim s j (by omega) (by omega);have e1:bt s (j:Int)=x:=by rw [Zlr,<- hj2];unfold rd;simp [List.getD_eq_getElem?_getD,hj0]
    rw [e1] at h1 h2;exact ⟨h2,h1⟩
   have hsz:(s.extract 0 al.toNat).size=al.toNat:=by rw [<- Vb,Zhv,hlen]
   have hasc:Zu7 (s.extract 0 al.toNat):=λj j0 j1=>by
    rw [Zlr]
    exact (hx _ (Zh2 j0 (by rw [Vb];exact j1))).2
   have z:((0:Int)).toNat=0:=rfl
   simp only [Xp.f,p1,Option.bind_some,if_pos c,z]
   rw [if_pos ⟨by omega,by omega,by omega⟩,Zvm _ (by rw [Vb,hsz];unfold Z2;omega) hx,Option.bind_some,if_neg (by omega),Zqa _ hasc,Zhv,if_pos (by rw [hlen];unfold most;omega),Xp.j1,w64 (by omega) (by omega)]
   exact q1
  ·rw [p2]
   exact hpre.trans q2
 ·rw [if_neg c] at p3
  subst p3;have hpre:=Zms s hs ha 0 (by omega) (by omega) s.size 0 K0 (by omega) (by omega) (by omega);rw [if_neg (by omega)] at hpre;obtain ⟨l,a,e,q1,q2,q3⟩:=Zur s hs (s.size+1) [] 0 128 0 72 K0 (by omega) (by omega) (by omega) (by simp) (by omega) (by omega) (by omega) (by omega) (by simp) (by omega);refine ⟨l,a,e,?_,?_,q3⟩
  ·simp only [Xp.f,p1,Option.bind_some,if_neg c,Xp.j1]
   exact q1
  ·rw [p2]
   exact hpre.trans q2
end
section
open Go.IntKind (i8 i16 i32 i64 u8 u16 u32 u64)
open Go.RowKit

def dig (d:Int):Int:=if d<26 then 97+d else 22+d
def Zf5 (k b:Int):Int:=(Hx.f k b).getD 0
theorem Zuy (k b:Int):Hx.f k b=some (Zf5 k b)/\1<=Zf5 k b/\Zf5 k b<=26:=by
 obtain ⟨t,h1,h2,h3⟩:=Zuz k b;rw [Zf5,h1];exact ⟨rfl,h2,h3⟩
theorem Zsl {d:Int} (h0:0<=d) (h1:d<36):Zc9.f d=some (dig d)/\0<=dig d/\dig d<128:=by
 unfold Zc9.f dig;by_cases c:d<26
 ·rw [if_pos c,if_pos c,w64 (by omega) (by omega),Zje (by omega) (by omega)]
  exact ⟨rfl,by omega,by omega⟩
 ·rw [if_neg c,if_neg c,w64 (x:=48+d) (by omega) (by omega),w64 (by omega) (by omega),Zje (by omega) (by omega)]
  exact ⟨by congr 1;omega,by omega,by omega⟩
def Zgd:Nat->Int->Int->Int->List Int
 | 0,q,_,_=>[dig q]
 | f+1,q,k,b=>if q<Zf5 k b then [dig q] else dig (Zf5 k b+(q-Zf5 k b)%(36-Zf5 k b))::Zgd f ((q-Zf5 k b)/(36-Zf5 k b)) (k+36) b
theorem Zjp (a5:List Int->Int->Int->Int->Int->Option (ByteArray×Int×Int)) (aa:List Int) (bias af ac ap:Int):∀ (L:Nat) (q kk:Int) (acc an:List Int) (k:Nat),L<k->0<=q->q<10^L->q<=2147483647->0<=kk->kk+36*L<=4294967296->acc.length+L+1<=most->an.length+L+1<=most->
  ((Zgd L q kk bias).length<=L+1/\∀ c∈Zgd L q kk bias,0<=c/\c<128)/\Kb.l1 k pU bias acc q kk=some (acc++Zgd L q kk bias)/\Z5.l1 a5 k aa bias af ac ap an q kk=((K7.f ap (i64.wrap (af+1)) (decide (af=(aa.length:Int)))).bind λb6=>(Z5.j4 a5 ac (an++Zgd L q kk bias) 0 b6 (i64.wrap (af+1)))):=by
 intro L
 induction L with
 | zero=>
  intro q kk acc an k h1 h2 h3 h4 h5 h6 h7 h8;obtain ⟨k,rfl⟩:∃ j,k=j+1:=⟨k-1,by omega⟩;obtain ⟨t1,t2,t3⟩:=Zuy kk bias;have hq:q<Zf5 kk bias:=by simp at h3;omega
  obtain ⟨hc,c1,c2⟩:=Zsl (d:=q) h2 (by omega);refine ⟨⟨by simp [Zgd],λc hm=>?_⟩,?_,?_⟩
  ·simp only [Zgd,List.mem_singleton] at hm;subst hm;exact ⟨c1,c2⟩
  ·simp only [Kb.l1,Zqg,t1,Option.bind_some,if_pos hq,Zjw,hc,Zgd]
   rw [if_pos (by simp;omega)]
  ·simp only [Z5.l1,t1,Option.bind_some,if_pos hq,hc,Zgd]
   rw [if_pos (by simp;omega)]
 | succ L ih=>
  intro q kk acc an k h1 h2 h3 h4 h5 h6 h7 h8;obtain ⟨k,rfl⟩:∃ j,k=j+1:=⟨k-1,by omega⟩;obtain ⟨t1,t2,t3⟩:=Zuy kk bias;by_cases hq:q<Zf5 kk bias
  ·obtain ⟨hc,c1,c2⟩:=Zsl (d:=q) h2 (by omega)
   have ed:Zgd (L+1) q kk bias=[dig q]:=by rw [Zgd,if_pos hq]
   rw [ed];refine ⟨⟨by simp,λc hm=>?_⟩,?_,?_⟩
   ·simp only [List.mem_singleton] at hm;subst hm;exact ⟨c1,c2⟩
   ·simp only [Kb.l1,Zqg,t1,Option.bind_some,if_pos hq,Zjw,hc]
    rw [if_pos (by simp;omega)]
   ·simp only [Z5.l1,t1,Option.bind_some,if_pos hq,hc]
    rw [if_pos (by simp;omega)]
  ·have ed:Zgd (L+1) q kk bias=dig (Zf5 kk bias+(q-Zf5 kk bias)%(36-Zf5 kk bias))::Zgd L ((q-Zf5 kk bias)/(36-Zf5 kk bias)) (kk+36) bias:=by rw [Zgd,if_neg hq]
   rw [ed];revert hq t1 t2 t3;generalize Zf5 kk bias=t;intro t1 t2 t3 hq;have w1:i64.wrap (36-t)=36-t:=w64 (by omega) (by omega);have w2:i64.wrap (q-t)=q-t:=w64 (by omega) (by omega);have e1:(q-t).tdiv (36-t)=(q-t)/(36-t):=Int.tdiv_eq_ediv_of_nonneg (by omega);have e2:(q-t).tmod (36-t)=(q-t)%(36-t):=Int.tmod_eq_emod_of_nonneg (by omega);have m0:0<=(q-t)%(36-t):=Int.emod_nonneg _ (by omega);have m1:(q-t)%(36-t)<36-t:=Int.emod_lt_of_pos _ (by omega);have d0:0<=(q-t)/(36-t):=Int.ediv_nonneg (by omega) (by omega);have d1:(q-t)/(36-t)<=q-t:=Int.ediv_le_self _ (by omega);have d2:(q-t)/(36-t)<10^L:=by apply Int.ediv_lt_of_lt_mul (by omega);have p0:(0:Int)<10^L:=Int.pow_pos (by omega);have p1:(10:Int)^(L+1)=10^L*10:=Int.pow_succ 10 L;have p2:(10:Int)^L*10<=10^L*(36-t):=Int.mul_le_mul_of_nonneg_left (by omega) (by omega);omega
   have w3:i64.wrap ((q-t)/(36-t))=(q-t)/(36-t):=w64 (by omega) (by omega);have w4:i64.wrap (kk+36)=kk+36:=w64 (by omega) (by omega);have w5:i64.wrap (t+(q-t)%(36-t))=t+(q-t)%(36-t):=w64 (by omega) (by omega);obtain ⟨hc,c1,c2⟩:=Zsl (d:=t+(q-t)%(36-t)) (by omega) (by omega);obtain ⟨⟨i0,i1⟩,i2,i3⟩:=ih ((q-t)/(36-t)) (kk+36) (acc++[dig (t+(q-t)%(36-t))]) (an++[dig (t+(q-t)%(36-t))]) k (by omega) d0 d2 (by omega) (by omega) (by omega) (by simp;omega) (by simp;omega);refine ⟨⟨by simp;omega,λc hm=>?_⟩,?_,?_⟩
   ·rcases List.mem_cons.1 hm with rfl | hm
    ·exact ⟨c1,c2⟩
    ·exact i1 c hm
   ·simp only [Kb.l1,Zqg,t1,Option.bind_some,if_neg hq,w1,w2,e2,w5,Zjw,hc,e1,w3,w4]
    rw [if_pos (by omega),if_pos (by simp;omega),i2];simp
   ·simp only [Z5.l1,t1,Option.bind_some,if_neg hq,w1,w2,e2,w5,hc,e1,w3,w4]
    rw [if_pos (by omega),if_pos (by simp;omega),i3];simp
def scB (p:Int):Bool:=(Vs.f p).getD false
theorem Ztl (p:Int):Vs.f p=some (scB p):=by
 obtain ⟨b,hb⟩:=Zr1 p;rw [scB,hb];rfl
theorem Zxz (l:List Int) (hl:l.length<=Z2) (hr:∀ x∈l,-2147483648<=x/\x<=2147483647):Yx.f l 36 1 26 38 700 72 128 45=some (-1):=by
 rw [Yx.f];have key:=Zit (λk i=>Yx.l1 k 36 1 26 38 700 72 128 45 l i) l (λ_=>false) hl (λk=>?_) (λk pre x t e=>?_)
 ·rw [key]
  have:∀ (m:List Int) (n:Nat),fIx (λ_=>false) m n=-1:=by
   intro m
   induction m with
   | nil=>intro n;rfl
   | cons y m ih=>intro n;rw [fIx,if_neg (by decide),ih]
  rw [this]
 ·simp only [Yx.l1,if_neg (show ¬ (l.length:Int)<(l.length:Int) by omega)]
 ·obtain ⟨m1,m2⟩:=mid e
  obtain ⟨x0,x1⟩:=hr x (by rw [e];simp);have hx:Q3.f x 36 1 26 38 700 72 128 45=some false:=by simp only [Q3.f,Q3.j1,Qm.f,Qm.j1,w64 (x:=x) (by omega) (by omega)];by_cases c:x<128<;>simp [c]
  simp only [Yx.l1,if_pos m2.2,if_pos m2,m1,hx,Option.bind_some,nxt hl e]
theorem Zwb (l:List Int) (hl:l.length<=Z2) (hr:∀ x∈l,-2147483648<=x/\x<=2147483647):Qv.f pU l=some (if fIx (λp=>!scB p) l 0=-1 then (0,0) else (fIx (λp=>!scB p) l 0,20)):=by
 rw [Qv.f];refine Xu (λk i (_:Unit)=>Qv.l1 k pU l i) l (λpre t _ o=>o=some (if fIx (λp=>!scB p) t pre.length=-1 then (0,0) else (fIx (λp=>!scB p) t pre.length,20))) (λ_ k=>?_) (λpre x t _ k e ih=>?_) () K0 (ltK hl)
 ·simp only [Qv.l1,if_neg (show ¬ (l.length:Int)<(l.length:Int) by omega),Zxz l hl hr,Option.bind_some,fIx]
  rfl
 ·obtain ⟨m1,m2⟩:=mid e
  have h2:=ih ();simp only [List.length_append,List.length_cons,List.length_nil,Nat.zero_add] at h2;simp only [Qv.l1,if_pos m2.2,if_pos m2,m1,Zqb,Ztl,Option.bind_some,nxt hl e];by_cases c:(!scB x)=true
  ·have ef:fIx (λp=>!scB p) (x::t) pre.length=(pre.length:Int):=by rw [fIx,if_pos c]
   rw [if_pos c,ef,if_neg (by omega)]
  ·have ef:fIx (λp=>!scB p) (x::t) pre.length=fIx (λp=>!scB p) t (pre.length+1):=by rw [fIx,if_neg c]
   rw [if_neg c,h2,ef]
def Zcq (n m r:Int):Int:=if n<=r then min m r else m
theorem Z0l (l:List Int) (n:Int) (hl:l.length<=Z2) (hr:∀ x∈l,-2147483648<=x/\x<=2147483647):V0.f l n=some (l.foldl (Zcq n) 1114111):=by
 rw [V0.f];refine Xu (λk i s=>V0.l1 k l n s i) l (λ_ t s o=>o=some (t.foldl (Zcq n) s)) (λs k=>?_) (λpre x t s k e ih=>?_) 1114111 K0 (ltK hl)
 ·simp only [V0.l1,if_neg (show ¬ (l.length:Int)<(l.length:Int) by omega)];rfl
 ·obtain ⟨m1,m2⟩:=mid e
  obtain ⟨x0,x1⟩:=hr x (by rw [e];simp);simp only [V0.l1,if_pos m2.2,if_pos m2,m1,w64 (x:=x) (by omega) (by omega),V0.j1,nxt hl e,List.foldl_cons];by_cases c:n<=x
  ·rw [if_pos c,ih,Zcq,if_pos c]
  ·rw [if_neg c,ih,Zcq,if_neg c]
theorem Zma (n:Int):∀ (l:List Int) (a:Int),(l.foldl (Zcq n) a<=a)/\(∀ x∈l,n<=x->l.foldl (Zcq n) a<=x)/\(l.foldl (Zcq n) a=a\/∃ x∈l,n<=x/\l.foldl (Zcq n) a=x)
 | [],a=>⟨Int.le_refl _,(λ_ h=>by cases h),.inl rfl⟩
 | y::l,a=>by
  obtain ⟨h1,h2,h3⟩:=Zma n l (Zcq n a y)
  have g:Zcq n a y<=a/\(n<=y->Zcq n a y<=y)/\(Zcq n a y=a\/(n<=y/\Zcq n a y=y)):=by
   unfold Zcq;split<;>omega
  rw [List.foldl_cons]
  refine ⟨by omega,λx hx hn=>?_,?_⟩
  ·rcases List.mem_cons.1 hx with rfl | hx
   ·have:=g.2.1 hn;omega
   ·exact h2 x hx hn
  ·rcases h3 with h3 | ⟨x,hx,hn,h3⟩
   ·rcases g.2.2 with h4 | ⟨h4,h5⟩
    ·exact .inl (by omega)
    ·exact .inr ⟨y,by simp,h4,by omega⟩
   ·exact .inr ⟨x,by simp [hx],hn,h3⟩
theorem Zyz (a6:List Int->Int->Int->Int->Int->Option (ByteArray×Int×Int)) (l aa ad:List Int) (ao ak al ah:Int) (hl:l.length<=Z2) (hr:∀ x∈l,-2147483648<=x/\x<=2147483647):
  Z5.l3 a6 K0 l aa ad ao ak al ah 1114112 0=(if 2147483647<(i64.wrap (ak+(i64.wrap ((i64.wrap ((l.foldl (Zcq ao) 1114112)-ao))*(i64.wrap (ah+1)))))) then (some ((⟨#[]⟩:ByteArray),0,142)) else (Z5.l2 a6 K0 l aa (l.foldl (Zcq ao) 1114112) ad (i64.wrap (ak+(i64.wrap ((i64.wrap ((l.foldl (Zcq ao) 1114112)-ao))*(i64.wrap (ah+1)))))) al ah 0)):=by
 refine Xu (λk i s=>Z5.l3 a6 k l aa ad ao ak al ah s i) l (λ_ t s o=>o=(if 2147483647<(i64.wrap (ak+(i64.wrap ((i64.wrap ((t.foldl (Zcq ao) s)-ao))*(i64.wrap (ah+1)))))) then (some ((⟨#[]⟩:ByteArray),0,142)) else (Z5.l2 a6 K0 l aa (t.foldl (Zcq ao) s) ad (i64.wrap (ak+(i64.wrap ((i64.wrap ((t.foldl (Zcq ao) s)-ao))*(i64.wrap (ah+1)))))) al ah 0))) (λs k=>?_) (λpre x t s k e ih=>?_) 1114112 K0 (ltK hl)
 ·simp only [Z5.l3,if_neg (show ¬ (l.length:Int)<(l.length:Int) by omega),List.foldl_nil];rfl
 ·obtain ⟨m1,m2⟩:=mid e
  obtain ⟨x0,x1⟩:=hr x (by rw [e];simp);have wx:i64.wrap x=x:=w64 (by omega) (by omega);have g:(if ao<=x then Z5.j3 (Z5.l3 a6 k l aa ad ao ak al ah) l s (pre.length:Int) (decide (x<s)) else Z5.j3 (Z5.l3 a6 k l aa ad ao ak al ah) l s (pre.length:Int) false)=Z5.l3 a6 k l aa ad ao ak al ah (Zcq ao s x) ((pre.length:Int)+1):=by
   simp only [Z5.j3,Z5.j2,m1,wx,nxt hl e,Zcq];by_cases c:ao<=x
   ·rw [if_pos c,if_pos c]
    by_cases d:x<s
    ·rw [decide_eq_true d,if_pos rfl,show min s x=x by omega]
    ·rw [decide_eq_false d,if_neg (by decide),show min s x=s by omega]
   ·rw [if_neg c,if_neg c,if_neg (by decide)]
  simp only [Z5.l3,if_pos m2.2,if_pos m2,m1,wx];rw [g,List.foldl_cons];exact ih _
end
section
open Go.IntKind (i8 i16 i32 i64 u8 u16 u32 u64)
open Go.RowKit

abbrev SE:=List Int×Int×Int×Int
def adI (d p:Int) (f:Bool):Int:=(K7.f d p f).getD 0
theorem Zw7 (d p:Int) (f:Bool) (h0:0<=d) (h1:d<=2147483648) (hp:1<=p):K7.f d p f=some (adI d p f):=by
 obtain ⟨r,hr⟩:=Znx d p f h0 h1 hp;rw [adI,hr];rfl
def Zho (b0 m:Int) (s:SE) (x:Int):Option SE:=
 if x<m then (if 2147483647<s.2.1+1 then none else some (s.1,s.2.1+1,s.2.2.1,s.2.2.2))
 else if x=m then some (s.1++Zgd 10 s.2.1 36 s.2.2.1,0,adI s.2.1 (s.2.2.2+1) (decide (s.2.2.2=b0)),s.2.2.2+1) else some s
def Zfb (b0 m:Int):List Int->SE->Option SE
 | [],s=>some s
 | x::t,s=>(Zho b0 m s x).bind (Zfb b0 m t)
structure OkE (H:Int) (s:SE):Prop where
 d0:0<=s.2.1
 d1:s.2.1<=2147483647
 h0:0<=s.2.2.2
 h1:s.2.2.2<=H
 len:(s.1.length:Int)<=12*s.2.2.2+1
 asc:∀ c∈s.1,0<=c/\c<128
def Zpj:Option (ByteArray×Int×Int):=some ((⟨#[]⟩:ByteArray),0,142)
theorem Zt4 (q b:Int) (h0:0<=q) (h1:q<=2147483647):(Zgd 10 q 36 b).length<=11/\∀ c∈Zgd 10 q 36 b,0<=c/\c<128:=
 (Zjp (λ_ _ _ _ _=>none) [] b 0 0 0 10 q 36 [] [] 11 (by omega) h0 (by omega) h1 (by omega) (by omega) (by unfold most;simp) (by unfold most;simp)).1
theorem Zmz {b0 m H:Int} {s s':SE} {x:Int} (hs:OkE H s) (e:Zho b0 m s x=some s'):OkE (H+1) s'/\s'.2.2.2=s.2.2.2+(if x=m then 1 else 0):=by
 obtain ⟨d0,d1,h0,h1,len,asc⟩:=hs;unfold Zho at e;by_cases c:x<m
 ·rw [if_pos c] at e
  by_cases c2:2147483647<s.2.1+1
  ·rw [if_pos c2] at e;cases e
  ·rw [if_neg c2] at e
   obtain rfl:=Option.some.inj e;refine ⟨⟨by simp only;omega,by simp only;omega,h0,by simp only;omega,len,asc⟩,?_⟩;rw [if_neg (by omega)];simp
 ·rw [if_neg c] at e
  by_cases c2:x=m
  ·rw [if_pos c2] at e
   obtain rfl:=Option.some.inj e;obtain ⟨g1,g2⟩:=Zt4 s.2.1 s.2.2.1 d0 d1;refine ⟨⟨Int.le_refl 0,by simp only;omega,by simp only;omega,by simp only;omega,?_,λc hc=>?_⟩,by rw [if_pos c2]⟩
   ·simp only [List.length_append];omega
   ·rcases List.mem_append.1 hc with hc | hc
    ·exact asc c hc
    ·exact g2 c hc
  ·rw [if_neg c2] at e
   obtain rfl:=Option.some.inj e;exact ⟨⟨d0,d1,h0,by omega,len,asc⟩,by rw [if_neg c2];simp⟩
theorem Zwf (bi:List Int->Int->Int->Int->Int->Option (ByteArray×Int×Int)) (L aa:List Int) (m:Int) (k:Nat) {pre t:List Int} {x:Int} (e:L=pre++x::t) (hl:L.length<=Z2) (hr:-2147483648<=x/\x<=2147483647) {H:Int} (s:SE) (hs:OkE H s) (hH:H<=36800000000):
  Zl.l1 bi (k+1) pU L aa m s.1 s.2.1 s.2.2.1 s.2.2.2 (pre.length:Int)=match Zho (aa.length:Int) m s x with | none=>Zpj | some s'=>Zl.l1 bi k pU L aa m s'.1 s'.2.1 s'.2.2.1 s'.2.2.2 ((pre.length:Int)+1):=by
 obtain ⟨d0,d1,h0,h1,len,asc⟩:=hs;obtain ⟨m1,m2⟩:=mid e;have wx:i64.wrap x=x:=w64 (by omega) (by omega);have wd:i64.wrap (s.2.1+1)=s.2.1+1:=w64 (by omega) (by omega);have wh:i64.wrap (s.2.2.2+1)=s.2.2.2+1:=w64 (by omega) (by omega);simp only [Zl.l1,if_pos m2.2,if_pos m2,m1,wx,wd,Zl.j3,nxt hl e,Zho];by_cases c:x<m
 ·rw [if_pos c,if_pos c]
  by_cases c2:2147483647<s.2.1+1
  ·rw [if_pos c2,if_pos c2];rfl
  ·rw [if_neg c2,if_neg c2]
 ·rw [if_neg c,if_neg c]
  by_cases c2:x=m
  ·obtain ⟨_,g2,_⟩:=Zjp (λ_ _ _ _ _=>none) [] s.2.2.1 0 0 0 10 s.2.1 36 [] [] K0 (by unfold K0;omega) d0 (by omega) d1 (by omega) (by omega) (by unfold most;simp) (by unfold most;simp)
   obtain ⟨g3,_⟩:=Zt4 s.2.1 s.2.2.1 d0 d1;rw [if_pos c2,if_pos c2,Kb.f,g2,List.nil_append,Option.bind_some,if_pos (by unfold most;omega),wh,Zqv,Zw7 _ _ _ d0 (by omega) (by omega),Option.bind_some,if_neg (by decide)]
  ·rw [if_neg c2,if_neg c2,if_neg (by omega)]
theorem Zy1 (a6:List Int->Int->Int->Int->Int->Option (ByteArray×Int×Int)) (L aa:List Int) (m:Int) (k:Nat) {pre t:List Int} {x:Int} (e:L=pre++x::t) (hl:L.length<=Z2) (hr:-2147483648<=x/\x<=2147483647) {H:Int} (s:SE) (hs:OkE H s) (hH:H<=36800000000):
  Z5.l2 a6 (k+1) L aa m s.1 s.2.1 s.2.2.1 s.2.2.2 (pre.length:Int)=match Zho (aa.length:Int) m s x with | none=>Zpj | some s'=>Z5.l2 a6 k L aa m s'.1 s'.2.1 s'.2.2.1 s'.2.2.2 ((pre.length:Int)+1):=by
 obtain ⟨d0,d1,h0,h1,len,asc⟩:=hs;obtain ⟨m1,m2⟩:=mid e;have wx:i64.wrap x=x:=w64 (by omega) (by omega);have wd:i64.wrap (s.2.1+1)=s.2.1+1:=w64 (by omega) (by omega);have wh:i64.wrap (s.2.2.2+1)=s.2.2.2+1:=w64 (by omega) (by omega);simp only [Z5.l2,if_pos m2.2,if_pos m2,m1,wx,wd,Z5.j5,Zho];by_cases c:x<m
 ·rw [if_pos c,if_pos c]
  by_cases c2:2147483647<s.2.1+1
  ·rw [if_pos c2,if_pos c2];rfl
  ·rw [if_neg c2,if_neg c2,if_pos (by omega)]
   simp only [Z5.j4,nxt hl e]
 ·rw [if_neg c,if_neg c]
  by_cases c2:x=m
  ·obtain ⟨_,_,g2⟩:=Zjp (Z5.l2 a6 k L aa m) aa s.2.2.1 s.2.2.2 (pre.length:Int) s.2.1 10 s.2.1 36 [] s.1 K0 (by unfold K0;omega) d0 (by omega) d1 (by omega) (by omega) (by unfold most;simp) (by unfold most;omega)
   rw [if_neg (by omega),if_pos c2,g2,wh,Zw7 _ _ _ d0 (by omega) (by omega),Option.bind_some];simp only [Z5.j4,nxt hl e]
  ·rw [if_pos (by omega),if_neg c2]
   simp only [Z5.j4,nxt hl e]
def Zz7 (bi:List Int->Int->Int->Int->Int->Option (ByteArray×Int×Int)) (n m:Int):Option SE->Option (ByteArray×Int×Int)
 | none=>Zpj
 | some s=>(if s.2.2.2=n then Zl.j2 pU s.1 else if 2147483647<s.2.1+1 then Zpj else bi s.1 (i64.wrap (m+1)) (s.2.1+1) s.2.2.1 s.2.2.2)
def Zz8 (a6:List Int->Int->Int->Int->Int->Option (ByteArray×Int×Int)) (m:Int):Option SE->Option (ByteArray×Int×Int)
 | none=>Zpj
 | some s=>a6 s.1 (i64.wrap (m+1)) (s.2.1+1) s.2.2.1 s.2.2.2
theorem Zwe (bi:List Int->Int->Int->Int->Int->Option (ByteArray×Int×Int)) (L aa:List Int) (m:Int) (hl:2*L.length<=36800000000) (hr:∀ x∈L,-2147483648<=x/\x<=2147483647) (s:SE) (hs:OkE (L.length:Int) s):
  Zl.l1 bi K0 pU L aa m s.1 s.2.1 s.2.2.1 s.2.2.2 0=Zz7 bi (L.length:Int) m (Zfb (aa.length:Int) m L s):=by
 have hb:L.length<=Z2:=by unfold Z2;omega
 refine (λkey=>key (by simpa using hs)) (Xu (σ:=SE) (β:=ByteArray×Int×Int) (λk i s=>Zl.l1 bi k pU L aa m s.1 s.2.1 s.2.2.1 s.2.2.2 i) L (λpre t s o=>OkE ((L.length:Int)+pre.length) s->o=Zz7 bi (L.length:Int) m (Zfb (aa.length:Int) m t s)) ?_ ?_ s K0 (ltK hb))
 ·intro s k h
  have wd:i64.wrap (s.2.1+1)=s.2.1+1:=w64 (by have:=h.d0;omega) (by have:=h.d1;omega);simp only [Zl.l1,if_neg (show ¬ (L.length:Int)<(L.length:Int) by omega),Zfb,wd,Zz7];rfl
 ·intro pre x t s k e ih h
  have hle:L.length=pre.length+(t.length+1):=by rw [e];simp
  show Zl.l1 bi (k+1) pU L aa m s.1 s.2.1 s.2.2.1 s.2.2.2 (pre.length:Int)=_;rw [Zwf bi L aa m k e hb (hr x (by rw [e];simp)) s h (by omega),Zfb]
  cases hst:Zho (aa.length:Int) m s x with
  | none=>rfl
  | some s'=>
   obtain ⟨k1,_⟩:=Zmz h hst;rw [Option.bind_some];refine ih s' ?_;rw [List.length_append];simpa [Int.add_assoc] using k1
theorem Zy0 (a6:List Int->Int->Int->Int->Int->Option (ByteArray×Int×Int)) (L aa:List Int) (m:Int) (hl:2*L.length<=36800000000) (hr:∀ x∈L,-2147483648<=x/\x<=2147483647) (s:SE) (hs:OkE (L.length:Int) s):
  Z5.l2 a6 K0 L aa m s.1 s.2.1 s.2.2.1 s.2.2.2 0=Zz8 a6 m (Zfb (aa.length:Int) m L s):=by
 have hb:L.length<=Z2:=by unfold Z2;omega
 refine (λkey=>key (by simpa using hs)) (Xu (σ:=SE) (β:=ByteArray×Int×Int) (λk i s=>Z5.l2 a6 k L aa m s.1 s.2.1 s.2.2.1 s.2.2.2 i) L (λpre t s o=>OkE ((L.length:Int)+pre.length) s->o=Zz8 a6 m (Zfb (aa.length:Int) m t s)) ?_ ?_ s K0 (ltK hb))
 ·intro s k h
  have wd:i64.wrap (s.2.1+1)=s.2.1+1:=w64 (by have:=h.d0;omega) (by have:=h.d1;omega);simp only [Z5.l2,if_neg (show ¬ (L.length:Int)<(L.length:Int) by omega),Zfb,wd,Zz8]
 ·intro pre x t s k e ih h
  have hle:L.length=pre.length+(t.length+1):=by rw [e];simp
  show Z5.l2 a6 (k+1) L aa m s.1 s.2.1 s.2.2.1 s.2.2.2 (pre.length:Int)=_;rw [Zy1 a6 L aa m k e hb (hr x (by rw [e];simp)) s h (by omega),Zfb]
  cases hst:Zho (aa.length:Int) m s x with
  | none=>rfl
  | some s'=>
   obtain ⟨k1,_⟩:=Zmz h hst;rw [Option.bind_some];refine ih s' ?_;rw [List.length_append];simpa [Int.add_assoc] using k1
theorem Zru {b0 m:Int}:∀ (t:List Int) {H:Int} {s s':SE},OkE H s->Zfb b0 m t s=some s'->OkE (H+t.length) s'/\s'.2.2.2=s.2.2.2+(t.countP (λx=>decide (x=m)):Int)
 | [],H,s,s',hs,e=>by
  obtain rfl:=Option.some.inj e
  exact ⟨by simpa using hs,by simp⟩
 | x::t,H,s,s',hs,e=>by
  rw [Zfb] at e
  cases hst:Zho b0 m s x with
  | none=>rw [hst] at e;cases e
  | some s1=>
   rw [hst,Option.bind_some] at e
   obtain ⟨h1,h2⟩:=Zmz hs hst
   obtain ⟨h3,h4⟩:=Zru t h1 e
   refine ⟨?_,?_⟩
   ·rw [List.length_cons]
    have:H+((t.length+1:Nat):Int)=H+1+t.length:=by omega
    rw [this];exact h3
   ·rw [h4,h2,List.countP_cons]
    by_cases c:x=m<;>simp [c]<;>omega
def Ze7 (n:Int) (L:List Int):Int:=(L.countP (λx=>decide (x<n)):Int)
theorem Zl6 (n:Int) (L:List Int):Ze7 n L<=(L.length:Int):=by
 have:=List.countP_le_length (p:=λx=>decide (x<n)) (l:=L);unfold Ze7;omega
theorem Zl7 {n m:Int} (hn:n<=m):∀ (L:List Int),(∀ x∈L,n<=x->m<=x)->Ze7 (m+1) L=Ze7 n L+(L.countP (λx=>decide (x=m)):Int)
 | [],_=>rfl
 | y::L,h=>by
  have ih:=Zl7 hn L (λx hx=>h x (by simp [hx]))
  have hy:=h y (by simp)
  unfold Ze7 at ih ⊢
  simp only [List.countP_cons,decide_eq_true_eq]
  by_cases c:y<n
  ·rw [if_pos (by omega),if_pos c,if_neg (by omega)];omega
  ·have:=hy (by omega)
   by_cases c2:y=m
   ·rw [if_pos (by omega),if_neg c,if_pos c2];omega
   ·rw [if_neg (by omega),if_neg c,if_neg c2];omega
theorem Zv1 {n:Int} {L:List Int} (h:Ze7 n L<(L.length:Int)):∃ x∈L,n<=x:=by
 apply Classical.byContradiction;intro hc;have:L.countP (λx=>decide (x<n))=L.length:=List.countP_eq_length.2 λx hx=>by
  simp only [decide_eq_true_eq];apply Classical.byContradiction;intro hx2;exact hc ⟨x,hx,by omega⟩
 unfold Ze7 at h;omega
theorem Zye {n:Int} {L:List Int} (hr:∀ x∈L,x<=1114111) (h:Ze7 n L<(L.length:Int)):L.foldl (Zcq n) 1114112=L.foldl (Zcq n) 1114111/\L.foldl (Zcq n) 1114111∈L/\n<=L.foldl (Zcq n) 1114111/\∀ x∈L,n<=x->L.foldl (Zcq n) 1114111<=x:=by
 obtain ⟨x,hx,hn⟩:=Zv1 h;obtain ⟨a1,a2,a3⟩:=Zma n L 1114111;obtain ⟨b1,b2,b3⟩:=Zma n L 1114112;have hx1:=hr x hx;have hx2:=a2 x hx hn;have hx3:=b2 x hx hn;have hm:L.foldl (Zcq n) 1114111∈L/\n<=L.foldl (Zcq n) 1114111:=by
  rcases a3 with a3 | ⟨y,hy,hy2,a3⟩
  ·have:L.foldl (Zcq n) 1114111=x:=by omega
   rw [this];exact ⟨hx,hn⟩
  ·rw [a3];exact ⟨hy,hy2⟩
 refine ⟨?_,hm.1,hm.2,a2⟩;have h1:=b2 _ hm.1 hm.2
 rcases b3 with b3 | ⟨y,hy,hy2,b3⟩
 ·omega
 ·have:=a2 y hy hy2;omega
def Zb8 (L:List Int) (n:Int):Int:=L.foldl (Zcq n) 1114111
def Zsm (L:List Int) (b0:Int):Nat->List Int->Int->Int->Int->Int->Option (Option (List Int))
 | 0,_,_,_,_,_=>none
 | k+1,o,n,d,b,h=>if h<(L.length:Int) then (if 2147483647<d+(Zb8 L n-n)*(h+1) then some none else match Zfb b0 (Zb8 L n) L (o,d+(Zb8 L n-n)*(h+1),b,h) with
   | none=>some none
   | some s=>Zsm L b0 k s.1 (Zb8 L n+1) (s.2.1+1) s.2.2.1 s.2.2.2) else some (some o)
def Zre:Option (List Int)->Option (ByteArray×Int×Int)
 | none=>Zpj
 | some o=>(Yq.f (Zbe o)).bind λck=>if ck.2.2≠0 then Zpj else some (Zbe o,0,0)
theorem Zqz {o:List Int} (h:∀ c∈o,0<=c/\c<128):Vx (Zbe o)=o:=by
 rw [Vx,Zkc,List.map_map];have:∀ m:List Int,(∀ c∈m,0<=c/\c<128)->m.map ((λb:UInt8=>(b.toNat:Int))∘λn:Int=>UInt8.ofNat n.toNat)=m:=by
  intro m
  induction m with
  | nil=>intro _;rfl
  | cons x m ih=>
   intro hm;have hx:=hm x (by simp);rw [List.map_cons,ih λy hy=>hm y (by simp [hy])];congr 1;simp only [Function.comp,UInt8.toNat_ofNat'];omega
 exact this o h
theorem Zh6 {o:List Int} (h:∀ c∈o,0<=c/\c<128):(Zbe o).size=o.length:=by rw [<- Vb,Zqz h]
theorem Zxa {o:List Int} (h:∀ c∈o,0<=c/\c<128):Zu7 (Zbe o):=λj j0 j1=>by
 rw [Zh6 h] at j1
 rw [Zlr,Zqz h]
 exact (h _ (Zh2 j0 j1)).2
theorem Zs1 {o:List Int} (h:∀ c∈o,0<=c/\c<128) (hl:2*o.length<=Z2):Zl.j2 pU o=Zre (some o):=by
 obtain ⟨l,a,e,h1,h2,_⟩:=Zsk (Zbe o) (by rw [Zh6 h];exact hl) (Zxa h);rw [Zl.j2,Zre,h1,h2];rfl
theorem Zxm (L aa:List Int) (hl:L.length<=18400000000) (hr:∀ x∈L,0<=x/\x<=1114111):∀ (q k:Nat) (o:List Int) (n d b h:Int),(L.length:Int)-h<=(q:Int)->q<k->128<=n->n<=1114112->0<=d->d<=2147483648->h=Ze7 n L->(o.length:Int)<=12*h+1->(∀ c∈o,0<=c/\c<128)->
  ∃ r,Zsm L (aa.length:Int) k o n d b h=some r/\Z5.l4 k L aa o n d b h=Zre r/\(d<=2147483647->Zl.l2 k pU L aa o n d b h=Zre r)/\(2147483647<d->h<(L.length:Int)->r=none)/\(∀ o',r=some o'->(∀ c∈o',0<=c/\c<128)/\o'.length<=12*L.length+1):=by
 have hb:L.length<=Z2:=by unfold Z2;omega
 have hr2:∀ x∈L,-2147483648<=x/\x<=2147483647:=λx hx=>by have:=hr x hx;omega
 intro q
 induction q with
 | zero=>
  intro k o n d b h h1 h2 h3 h4 h5 h6 h7 h8 h9;obtain ⟨k,rfl⟩:∃ j,k=j+1:=⟨k-1,by omega⟩;have hle:=Zl6 n L;have hn:¬ h<(L.length:Int):=by omega
  refine ⟨some o,by rw [Zsm,if_neg hn],?_,λ_=>?_,λ_ c=>absurd c hn,λo' e=>?_⟩
  ·rw [Z5.l4,if_neg hn];rfl
  ·rw [Zl.l2,if_neg hn]
   exact Zs1 h9 (by unfold Z2;omega)
  ·obtain rfl:=Option.some.inj e
   exact ⟨h9,by omega⟩
 | succ q ih=>
  intro k o n d b h h1 h2 h3 h4 h5 h6 h7 h8 h9;obtain ⟨k,rfl⟩:∃ j,k=j+1:=⟨k-1,by omega⟩;have hle:=Zl6 n L;by_cases hn:h<(L.length:Int)
  ·obtain ⟨g1,g2,g3,g4⟩:=Zye (λx hx=>(hr x hx).2) (n:=n) (L:=L) (by omega)
   have g5:=(hr _ g2).2;change Zb8 L n∈L at g2;change n<=Zb8 L n at g3;change ∀ x∈L,n<=x->Zb8 L n<=x at g4;change Zb8 L n<=1114111 at g5;change L.foldl (Zcq n) 1114112=Zb8 L n at g1;have hh0:0<=h:=by rw [h7];unfold Ze7;omega
   have p0:0<=(Zb8 L n-n)*(h+1):=Int.mul_nonneg (by omega) (by omega);have p1:(Zb8 L n-n)*(h+1)<=1114112*18400000001:=Int.mul_le_mul (by omega) (by omega) (by omega) (by omega);have w1:i64.wrap (Zb8 L n-n)=Zb8 L n-n:=w64 (by omega) (by omega);have w2:i64.wrap (h+1)=h+1:=w64 (by omega) (by omega);have w3:i64.wrap ((Zb8 L n-n)*(h+1))=(Zb8 L n-n)*(h+1):=w64 (by omega) (by omega);have w4:i64.wrap (d+(Zb8 L n-n)*(h+1))=d+(Zb8 L n-n)*(h+1):=w64 (by omega) (by omega);have w5:i64.wrap (Zb8 L n+1)=Zb8 L n+1:=w64 (by omega) (by omega);have ep:Zl.l2 (k+1) pU L aa o n d b h=if 2147483647<d+(Zb8 L n-n)*(h+1) then Zpj else Zl.l1 (Zl.l2 k pU L aa) K0 pU L aa (Zb8 L n) o (d+(Zb8 L n-n)*(h+1)) b h 0:=by have e9:V0.f L n=some (Zb8 L n):=Z0l L n hb hr2;rw [Zl.l2,if_pos hn,e9,Option.bind_some,w1,w2,w3,w4];rfl
   have er:Z5.l4 (k+1) L aa o n d b h=if 2147483647<d+(Zb8 L n-n)*(h+1) then Zpj else Z5.l2 (Z5.l4 k L aa) K0 L aa (Zb8 L n) o (d+(Zb8 L n-n)*(h+1)) b h 0:=by rw [Z5.l4,if_pos hn,Zyz _ _ _ _ _ _ _ _ hb hr2,g1,w1,w2,w3,w4];rfl
   rw [ep,er,Zsm,if_pos hn];by_cases c:2147483647<d+(Zb8 L n-n)*(h+1)
   ·rw [if_pos c,if_pos c,if_pos c]
    exact ⟨none,rfl,rfl,λ_=>rfl,λ_ _=>rfl,λo' e=>by cases e⟩
   ·rw [if_neg c,if_neg c,if_neg c]
    have hok:OkE (L.length:Int) (o,d+(Zb8 L n-n)*(h+1),b,h):=⟨by simp only;omega,by simp only;omega,hh0,by simp only;omega,h8,h9⟩;have e1:=Zwe (Zl.l2 k pU L aa) L aa (Zb8 L n) (by omega) hr2 _ hok;have e2:=Zy0 (Z5.l4 k L aa) L aa (Zb8 L n) (by omega) hr2 _ hok;simp only at e1 e2;rw [e1,e2]
    cases hp:Zfb (aa.length:Int) (Zb8 L n) L (o,d+(Zb8 L n-n)*(h+1),b,h) with
    | none=>exact ⟨none,rfl,rfl,λ_=>rfl,λ_ _=>rfl,λo' e=>by cases e⟩
    | some s=>
     obtain ⟨hs,hc⟩:=Zru L hok hp;have hcnt:=Zl7 g3 L g4;have hpos:0<L.countP (λx=>decide (x=Zb8 L n)):=List.countP_pos_iff.2 ⟨_,g2,by simp⟩;have hh:s.2.2.2=Ze7 (Zb8 L n+1) L:=by rw [hcnt,hc,h7]
     have hle2:=Zl6 (Zb8 L n+1) L;obtain ⟨r,r1,r2,r3,r4,r5⟩:=ih k s.1 (Zb8 L n+1) (s.2.1+1) s.2.2.1 s.2.2.2 (by simp only at hc;omega) (by omega) (by omega) (by omega) (by have:=hs.d0;omega) (by have:=hs.d1;omega) hh hs.len hs.asc;refine ⟨r,r1,by rw [Zz8,w5];exact r2,λ_=>?_,λc2 _=>absurd c2 (by omega),r5⟩;rw [Zz7];by_cases c2:s.2.2.2=(L.length:Int)
     ·rw [if_pos c2]
      obtain ⟨k,rfl⟩:∃ j,k=j+1:=⟨k-1,by omega⟩;rw [Zsm,if_neg (by omega)] at r1;rw [<- Option.some.inj r1];exact Zs1 hs.asc (by have:=hs.len;unfold Z2;omega)
     ·rw [if_neg c2]
      by_cases c3:2147483647<s.2.1+1
      ·rw [if_pos c3,r4 c3 (by omega)];rfl
      ·rw [if_neg c3,w5]
       exact r3 (by omega)
  ·refine ⟨some o,by rw [Zsm,if_neg hn],?_,λ_=>?_,λ_ c=>absurd c hn,λo' e=>?_⟩
   ·rw [Z5.l4,if_neg hn];rfl
   ·rw [Zl.l2,if_neg hn]
    exact Zs1 h9 (by unfold Z2;omega)
   ·obtain rfl:=Option.some.inj e
    exact ⟨h9,by omega⟩
end
section
open Go.IntKind (i8 i16 i32 i64 u8 u16 u32 u64)
open Go.RowKit

def Zcp (L:List Int):List Int:=L.filter λx=>decide (x<128)
def Zhl (aa:List Int):List Int:=if 0<(aa.length:Int) then aa++[45] else aa
theorem Zwl {p:Int} (h:scB p=true):0<=p/\p<=1114111:=by
 have e:=Ztl p;rw [h] at e;unfold Vs.f Vs.j1 at e;by_cases a:0<=p
 ·rw [if_pos a] at e
  by_cases b:p<55296
  ·omega
  ·rw [if_neg b] at e
   by_cases c:57343<p
   ·rw [if_pos c] at e
    have:=of_decide_eq_true (Option.some.inj e);omega
   ·rw [if_neg c] at e;cases e
 ·rw [if_neg a,if_neg (by omega)] at e;cases e
theorem Zn6 (pre:List Int) (x:Int):Zcp (pre++[x])=if x<128 then Zcp pre++[x] else Zcp pre:=by
 unfold Zcp;by_cases c:x<128<;>simp [List.filter_append,c]
theorem Zlp (L:List Int):(Zcp L).length<=L.length:=List.length_filter_le _ _
theorem Zx8 (L:List Int):Ze7 128 L=((Zcp L).length:Int):=by
 unfold Ze7 Zcp;rw [List.countP_eq_length_filter]
theorem Zyr (L:List Int) (hl:L.length<=18400000000) (hr:∀ x∈L,0<=x/\x<=1114111):Zl.l3 K0 pU L [] 0=Zl.l2 K0 pU L (Zcp L) (Zhl (Zcp L)) 128 0 72 ((Zcp L).length:Int):=by
 have hb:L.length<=Z2:=by unfold Z2;omega
 refine (λkey=>key rfl) (Xu (σ:=List Int) (β:=ByteArray×Int×Int) (λk i s=>Zl.l3 k pU L s i) L (λpre _ s o=>s=Zcp pre->o=Zl.l2 K0 pU L (Zcp L) (Zhl (Zcp L)) 128 0 72 ((Zcp L).length:Int)) ?_ ?_ [] K0 (ltK hb))
 ·intro s k hs
  have hs':s=Zcp L->Zl.l3 (k+1) pU L s (L.length:Int)=Zl.l2 K0 pU L (Zcp L) (Zhl (Zcp L)) 128 0 72 ((Zcp L).length:Int):=by
   rintro rfl;have:=Zlp L;simp only [Zl.l3,if_neg (show ¬ (L.length:Int)<(L.length:Int) by omega),Zl.j4,Zhl];by_cases c:0<((Zcp L).length:Int)
   ·rw [if_pos c,if_pos c,if_pos (by unfold most;simp;omega)]
   ·rw [if_neg c,if_neg c]
  exact hs' hs
 ·intro pre x t s k e ih hs
  obtain ⟨m1,m2⟩:=mid e;obtain ⟨x0,x1⟩:=hr x (by rw [e];simp);have hle:L.length=pre.length+(t.length+1):=by rw [e];simp
  have hlen:=Zlp pre;have wx:i64.wrap x=x:=w64 (by omega) (by omega);have hbas:Qm.f pU x=some (decide (x<128)):=by simp only [Qm.f,Qm.j1,wx];by_cases c:x<128<;>simp [c]
  simp only [Zl.l3,if_pos m2.2,if_pos m2,m1,hbas,Option.bind_some,decide_eq_true_eq,Zl.j1,nxt hb e];by_cases c:x<128
  ·rw [if_pos c,if_pos (by rw [hs];unfold most;simp;omega),Zje x0 (by omega)]
   exact ih _ (by rw [Zn6,if_pos c,hs])
  ·rw [if_neg c]
   exact ih _ (by rw [Zn6,if_neg c,hs])
theorem Zz6 (L:List Int) (hl:L.length<=18400000000) (hr:∀ x∈L,0<=x/\x<=1114111):∃ r,Zsm L ((Zcp L).length:Int) K0 (Zhl (Zcp L)) 128 0 72 ((Zcp L).length:Int)=some r/\Z5.l4 K0 L (Zcp L) (Zhl (Zcp L)) 128 0 72 ((Zcp L).length:Int)=Zre r/\Zl.l2 K0 pU L (Zcp L) (Zhl (Zcp L)) 128 0 72 ((Zcp L).length:Int)=Zre r/\(∀ o',r=some o'->(∀ c∈o',0<=c/\c<128)/\o'.length<=12*L.length+1):=by
 have h1:=Zlp L;have hK:(K0:Int)=1180591620717411303424:=rfl;have hm:∀ c∈Zcp L,0<=c/\c<128:=λc hc=>by
  obtain ⟨h2,h3⟩:=List.mem_filter.1 hc;have:=hr c h2;have:=of_decide_eq_true h3;omega
 obtain ⟨r,r1,r2,r3,_,r5⟩:=Zxm L (Zcp L) hl hr L.length K0 (Zhl (Zcp L)) 128 0 72 ((Zcp L).length:Int) (by omega) (by omega) (by omega) (by omega) (by omega) (by omega) (Zx8 L).symm (by unfold Zhl;split<;>first | (simp;omega) | omega) (λc hc=>by
  unfold Zhl at hc;split at hc
  ·rcases List.mem_append.1 hc with hc | hc
   ·exact hm c hc
   ·simp only [List.mem_singleton] at hc;omega
  ·exact hm c hc)
 exact ⟨r,r1,r2,r3 (by omega),r5⟩
theorem Zxo {r:Option (List Int)} {n:Nat} (h:∀ o',r=some o'->(∀ c∈o',0<=c/\c<128)/\o'.length<=n) (hn:2*n<=Z2):∃ s a e,Zre r=some (s,a,e)/\s.size<=n:=by
 cases r with
 | none=>exact ⟨_,_,_,rfl,Nat.zero_le _⟩
 | some o=>
  obtain ⟨h1,h2⟩:=h o rfl;obtain ⟨l,a,e,_,h4,_⟩:=Zsk (Zbe o) (by rw [Zh6 h1];omega) (Zxa h1);rw [Zre,h4,Option.bind_some];by_cases c:e=0
  ·exact ⟨_,_,_,by rw [if_neg (by simp [c])],by rw [Zh6 h1];exact h2⟩
  ·exact ⟨_,_,_,by rw [if_pos (by simp [c])];rfl,Nat.zero_le _⟩
end
section
open Go.RowKit

theorem Zfo {α:Type} {o:Option α} (d:α) (h:∃ r,o=some r):o=some (o.getD d):=by
 obtain ⟨r,rfl⟩:=h;rfl
def Zig (t:Option Tbs) (sta:Int->Int) (kp:Int->Bool):Prop:=(∀ p,Kw.f t p=some (sta p))/\∀ p,kp p=decide (sta p=1\/sta p=3)
theorem Zuj {t:Option Tbs} {sta:Int->Int} (h:∀ p,Kw.f t p=some (sta p)) (p:Int):J7.f t p=some (decide (sta p=1\/sta p=3)):=by
 rw [J7.f,h,Option.bind_some];by_cases c:sta p=1
 ·rw [if_pos c,decide_eq_true (.inl c)];rfl
 ·rw [if_neg c]
  simp only [J7.j1,c,false_or]
theorem Z03 {b:Bk} {t:Tbs} (hb:Few b) (h:okB b=true) (ht:Zlh b t):∃ key pa n pr mk kp jn sta,Tq (some t) key pa n pr mk kp jn/\Zig (some t) sta kp:=by
 obtain ⟨key,pa,h1⟩:=Z01 hb h ht;have hp:∀ a c,∃ r,Hb.f (some t) a c=some r:=λa c=>by
  simp only [Hb.f,Option.isNone_some,Bool.false_eq_true,if_false,Option.isSome_some,if_true];exact ⟨_,rfl⟩
 have hs:∀ p,∃ r,Kw.f (some t) p=some r:=λp=>by
  obtain ⟨r1,e1⟩:=Zdk _ _ ht.maps p;obtain ⟨r2,e2⟩:=Zdk _ _ ht.status p;simp only [Kw.f,Option.isNone_some,Bool.false_eq_true,if_false,Option.isSome_some,if_true,Option.getD_some,e1,e2,Option.bind_some];exact Qg ⟨_,rfl⟩ ⟨_,rfl⟩
 have hm:∀ p,∃ r,J8.f (some t) p=some r:=λp=>by
  obtain ⟨r1,e1⟩:=Zdk _ _ ht.mark p;exact ⟨decide (r1=1),by simp only [J8.f,J8.j1,Option.isSome_some,if_true,Option.getD_some,e1,Option.bind_some]⟩
 have hj:∀ p,∃ r,Uk.f (some t) p=some r:=λp=>by
  obtain ⟨r1,e1⟩:=Zdk _ _ ht.join p;exact ⟨r1,by simp only [Uk.f,Option.isNone_some,Bool.false_eq_true,if_false,Option.isSome_some,if_true,Option.getD_some,e1,Option.bind_some]⟩
 have hs':=λp=>Zfo 0 (hs p);exact ⟨key,pa,_,_,_,_,_,_,⟨h1,λa c=>Zfo (0,false) (Zmn hp a c),λp=>Zfo false (hm p),λp=>Zuj hs' p,λp=>Zfo 0 (hj p)⟩,hs',λp=>rfl⟩
theorem Z02:∃ key pa n pr mk kp jn sta,Tq none key pa n pr mk kp jn/\Zig none sta kp:=by
 have hs:∀ p,Kw.f none p=some 0:=λp=>rfl;exact ⟨_,_,_,pr0,λ_=>false,_,λ_=>0,λ_=>0,⟨Z00,Zwa,λp=>rfl,λp=>Zuj hs p,λp=>rfl⟩,hs,λp=>rfl⟩
variable {t:Option Tbs} {key:Int->Int} {pa:Int->List Int} {n:Nat} {pr:Int->Int->Int×Bool} {mk kp:Int->Bool} {jn:Int->Int}
theorem Zkg:∀ a b c d e f:Bool,(Zk0 a b c d e f).headD 0=0->a=true/\b=false/\c=false/\d=false/\e=false/\f=false:=by decide
theorem Zpl:∀ a b c d e f:Bool,Zk0 a b c d e f=[]->a=true/\b=false/\c=false/\d=false/\e=false/\f=false:=λa b c d e f h=>Zkg a b c d e f (by rw [h];rfl)
theorem Zkh (h:Tq t key pa n pr mk kp jn) (l:List Int) (hl:54*l.length<=Z2):∃ F,Qt.f t l=some F/\(F.headD 0=0->F=[])/\(F=[]->Zdi key pa n pr l=l/\Zip l=false/\(∀ x∈l,x≠46)/\∀ x∈l,kp x=true):=by
 obtain ⟨jo,h1,_⟩:=Zoe h l hl;refine ⟨_,h1,λhe=>?_,λhe=>?_⟩
 ·obtain ⟨h2,h3,h4,h5,h6,h7⟩:=Zkg _ _ _ _ _ _ he
  rw [h2,h3,h4,h5,h6,h7];rfl
 ·obtain ⟨h2,h3,h4,h5,h6,h7⟩:=Zpl _ _ _ _ _ _ he
  refine ⟨of_decide_eq_true h2,h3,λx hx e=>?_,λx hx=>?_⟩
  ·have:=List.any_eq_false.1 h4 x hx
   simp [e] at this
  ·have:=List.any_eq_false.1 h6 x hx
   simpa using this
theorem Z4k (l:List Int):sub l 4 (l.length:Int)=l.drop 4:=by simp [sub]
theorem Zmo {l:List Int} (h:Zc8 l=true) (k:Nat):Zc8 (l.drop k)=true:=by
 simp only [Zc8,Bool.not_eq_true',List.any_eq_false] at h ⊢;exact λx hx=>h x (List.mem_of_mem_drop hx)
theorem Zq5 {l:List Int} (h:Zip l=true):4<=(l.length:Int):=by
 obtain ⟨r,e⟩:=(Zxi l).1 h;rw [e];simp;omega
theorem Zpf {l:List Int} (h:Zc8 l=true) (hl:2*l.length<=Z2):∃ q a e,Zbr.f (Zbe l)=some (q,a,e)/\Yq.f (Zbe l)=some (q,a,e)/\q.length<=l.length+1:=by
 have hp:=Zor h;obtain ⟨q,a,e,h1,h2,h3⟩:=Zsk (Zbe l) (by rw [Zh6 hp];exact hl) (Zxa hp);rw [Zh6 hp] at h3;refine ⟨q,a,e,?_,h2,by omega⟩;have hu:Zbw.f=some pU:=rfl;rw [Zbr.f,hu,Option.bind_some,h1];rfl
theorem Ztc (h:Tq t key pa n pr mk kp jn) (l:List Int) (hl:54*l.length<=Z2) (hc:Zip l=false):∃ f,Za1.f t l=some ⟨l,false,f⟩:=by
 obtain ⟨F,h1,_⟩:=Zkh h l hl;exact ⟨F.headD 0,by rw [Za1.f,Zf9 _ (by omega),Option.bind_some,Ziq,Option.bind_some,hc,if_pos (by decide),h1,Option.bind_some,Zrf];rfl⟩
theorem Zyu (l:List Int) (hl:l.length<=Z2) (hc:Zip l=true) (hp:Zc8 l=true) {q:List Int} {a e:Int} (hd:Zbr.f (Zbe (l.drop 4))=some (q,a,e)) (hq:q.length<=Z2) {F:List Int} (hF:Qt.f t q=some F):
  Za1.f t l=some (if e≠0 then ⟨l,true,8⟩ else if Zc8 q=true then ⟨q,true,9⟩ else ⟨q,true,F.headD 0⟩):=by
 have e4:=Z4k l;have e5:=Zq5 hc;rw [Za1.f,Zf9 _ hl,Option.bind_some,Ziq,Option.bind_some,hc,if_neg (by decide),Zi3 _ hl,Option.bind_some,hp,if_neg (by decide),if_pos ⟨by omega,e5,Int.le_refl _⟩,e4,Zkl (Zmo hp 4),hd,Option.bind_some];by_cases c:e≠0
 ·rw [if_pos c,if_pos c]
 ·rw [if_neg c,if_neg c,Zi3 _ hq,Option.bind_some]
  by_cases d:Zc8 q=true
  ·rw [if_pos d,if_pos d]
  ·rw [if_neg d,if_neg d,hF,Option.bind_some,Zrf];rfl
end
section
open Go.RowKit

instance whDec:DecidableEq Wh:=λx y=>decidable_of_iff (x.list=y.list/\x.row=y.row) ⟨λh=>by cases x;cases y;obtain ⟨h1,h2⟩:=h;simp at h1 h2;rw [h1,h2],λh=>by rw [h];exact ⟨rfl,rfl⟩⟩
end
section
open Go.IntKind (i8 i16 i32 i64 u8 u16 u32 u64)
open Go.RowKit

theorem Ze6 {α γ β:Type} [Inhabited α] (L:Nat->Int->Option β) (xs:List α) (hb:xs.length<=Z2) (g:α->Option γ) (p:γ->Prop) [DecidablePred p] (out:Int->γ->β) (z:β) (hg:∀ x∈xs,∃ b,g x=some b)
  (hL:∀ k a,L (k+1) a=if a<(xs.length:Int) then (if (0:Int)<=a/\a<(xs.length:Int) then ((g (rd xs a)).bind λag=>(if p ag then some (out a ag) else L k (i64.wrap (a+1)))) else none) else some z):∃ r,L K0 0=some r:=by
 have key:∀ (t pre:List α) (k:Nat),xs=pre++t->t.length<k->∃ r,L k (pre.length:Int)=some r:=by
  intro t
  induction t with
  | nil=>
   intro pre k e hk;obtain ⟨k,rfl⟩:∃ j,k=j+1:=⟨k-1,by omega⟩;have hl:xs.length=pre.length:=by rw [e];simp
   rw [hL,hl,if_neg (by omega)];exact ⟨_,rfl⟩
  | cons x t ih=>
   intro pre k e hk;obtain ⟨k,rfl⟩:∃ j,k=j+1:=⟨k-1,by omega⟩;have m:=mid e;rw [hL,if_pos m.2.2,if_pos m.2,m.1];obtain ⟨b,hb'⟩:=hg x (by rw [e];simp);rw [hb',Option.bind_some];by_cases c:p b
   ·rw [if_pos c];exact ⟨_,rfl⟩
   ·rw [if_neg c,nxt hb e]
    have:=ih (pre++[x]) k (by rw [e];simp) (by simp at hk;omega);rw [List.length_append] at this;simpa using this
 have:=key xs [] K0 rfl (ltK hb);simpa using this
theorem J6 {α β:Type} {x:Option α} {f:α->Option β} (h:∃ a,x=some a) (hf:∀ a,∃ r,f a=some r):∃ r,x.bind f=some r:=by
 obtain ⟨a,rfl⟩:=h;exact hf a
theorem Zd8 {α β:Type} {x:Option α} {p:α->Prop} {f:α->Option β} (h:∃ a,x=some a/\p a) (hf:∀ a,p a->∃ r,f a=some r):∃ r,x.bind f=some r:=by
 obtain ⟨a,rfl,ha⟩:=h;exact hf a ha
theorem Zg4 (s d:Int) (h:0<=d):∃ v,U0.f s d=some v:=by
 rw [U0.f,if_pos h];exact ⟨_,rfl⟩
theorem Zwn (c:Int):∃ v,Ks.f c=some v:=by
 unfold Ks.f Ks.j1;repeat' (first | exact ⟨_,rfl⟩ | refine Qg ?_ ?_)
theorem Zv3 (l:List Int) (hl:l.length<=Z2):∃ v,Yz.f l=some v:=by
 obtain ⟨r,hr⟩:=Ze6 (λk a=>Xi.l1 k l a) l hl (λc=>Zbf.f c) (λb=>b=true) (λa _=>a) (-1) (λx _=>by obtain ⟨v,hv⟩:=Zwn x;exact ⟨_,by rw [Zbf.f,hv];rfl⟩) (λk a=>rfl);rw [Yz.f,Xi.f,hr];exact ⟨_,rfl⟩
theorem Zs0 (l:List Int) (hl:l.length<=Z2):∃ v,X5.f l=some v:=by
 have hbb:l.length<=1099511627776:=hl;have w:i64.wrap ((l.length:Int)-1)=(l.length:Int)-1:=w64 (by omega) (by omega);unfold X5.f X5.j1;rw [w];by_cases c4:4<=(l.length:Int)
 ·simp only [if_pos c4,if_pos (show (0:Int)<=2/\2<(l.length:Int) by omega),if_pos (show (0:Int)<=3/\3<(l.length:Int) by omega),if_pos (show 0<(l.length:Int) by omega),if_pos (show (0:Int)<=0/\0<(l.length:Int) by omega),if_pos (show (0:Int)<=(l.length:Int)-1/\(l.length:Int)-1<(l.length:Int) by omega)]
  repeat' (first | exact ⟨_,rfl⟩ | refine Qg ?_ ?_)
 ·rw [if_neg c4]
  by_cases c0:0<(l.length:Int)
  ·simp only [if_pos c0,if_pos (show (0:Int)<=0/\0<(l.length:Int) by omega),if_pos (show (0:Int)<=(l.length:Int)-1/\(l.length:Int)-1<(l.length:Int) by omega)]
   repeat' (first | exact ⟨_,rfl⟩ | refine Qg ?_ ?_)
  ·rw [if_neg c0];exact ⟨_,rfl⟩
theorem Zoh (l:List Int) (hl:l.length<=Z2) (h:∀ d∈l,0<=d) (s:Int):∃ v,Zc5.f l s=some v:=by
 obtain ⟨r,hr⟩:=Ze6 (λk a=>Xw.l1 k s l a) l hl (λd=>Za0.f d s) (λb=>b=true) (λa _=>a) (-1) (λx hx=>by obtain ⟨v,hv⟩:=Zg4 s x (h x hx);exact ⟨_,by rw [Za0.f,hv];rfl⟩) (λk a=>rfl);rw [Zc5.f,Vj.f,Xw.f,hr];exact ⟨_,rfl⟩
theorem Zlu (l:List Int) (hl:l.length<=Z2) (s:Int):∃ v,Va.f l s=some v:=by
 obtain ⟨r,hr⟩:=Ze6 (λk a=>Q1.l1 k l s a) l hl (λd=>some (decide (s=d))) (λb=>b=true) (λa _=>a) (-1) (λx _=>⟨_,rfl⟩) (λk a=>by simp only [Q1.l1,Option.bind_some,decide_eq_true_eq]);rw [Va.f,Q1.f,hr];exact ⟨_,rfl⟩
theorem Zly (l:List Int) (hl:l.length<=Z2) (h:∀ d∈l,0<=d) (s:Int):∃ v,K1.f l s=some v:=by
 have hbb:l.length<=1099511627776:=hl;have key:∀ (n k:Nat),n<=l.length->n<k->∃ r,K1.l1 k l s (n:Int)=some r:=by
  intro n
  induction n with
  | zero=>
   intro k _ hk;obtain ⟨k,rfl⟩:∃ j,k=j+1:=⟨k-1,by omega⟩;exact ⟨false,rfl⟩
  | succ n ih=>
   intro k hn hk;obtain ⟨k,rfl⟩:∃ j,k=j+1:=⟨k-1,by omega⟩;have w:i64.wrap (((n+1:Nat):Int)-1)=(n:Int):=by rw [w64 (by omega) (by omega)];omega
   have hm:rd l (n:Int)∈l:=by
    have hs:l=l.take n++l[n]'(by omega)::l.drop (n+1):=by simp
    have m:=mid hs;rw [List.length_take,Nat.min_eq_left (by omega)] at m;rw [m.1];exact List.getElem_mem _
   simp only [K1.l1,K1.j2,K1.j1,w];rw [if_pos (by omega),if_pos (by omega)];refine Qg (ih k (by omega) (by omega)) ?_;rw [if_pos (by omega),if_pos (by omega)];obtain ⟨v,hv⟩:=Zg4 s _ (h _ hm);rw [hv];exact ⟨_,rfl⟩
 exact key l.length K0 (Nat.le_refl _) (ltK hl)
theorem Zov (c:Int) (b:Bool) (y:List Int) (h:y.length<=4):∃ r,Ke.f c b y=some r/\r.length<=y.length+1:=by
 rw [Ke.f];split
 ·rw [if_pos (by unfold most;simp;omega)];exact ⟨_,rfl,by simp⟩
 ·exact ⟨_,rfl,by omega⟩
def Zj9 (t:Option Tbs) (bd:Int->Int):Prop:=∀ p,U1.f t p=some (bd p)/\0<=bd p
theorem Zz4 {t:Option Tbs} {bd:Int->Int} (h:Zj9 t bd) (l:List Int) (hl:l.length<=Z2):Vc.f t l=some (l.map bd):=by
 have key:∀ (u pre:List Int) (k:Nat),l=pre++u->u.length<k->Vc.l1 k t l (pre.map bd) (pre.length:Int)=some (l.map bd):=by
  intro u
  induction u with
  | nil=>
   intro pre k e hk;obtain ⟨k,rfl⟩:∃ j,k=j+1:=⟨k-1,by omega⟩;have hl:l=pre:=by rw [e];simp
   simp only [Vc.l1,hl];rw [if_neg (by omega)]
  | cons x u ih=>
   intro pre k e hk;obtain ⟨k,rfl⟩:∃ j,k=j+1:=⟨k-1,by omega⟩;have m:=mid e;have hle:l.length=pre.length+(u.length+1):=by rw [e];simp
   have hbb:l.length<=1099511627776:=hl;simp only [Vc.l1];rw [if_pos m.2.2,if_pos m.2,m.1,(h x).1,Option.bind_some,if_pos (by unfold most;simp;omega),nxt hl e];have:=ih (pre++[x]) k (by rw [e];simp) (by simp at hk;omega);rw [List.length_append] at this;simpa using this
 exact key l [] K0 rfl (ltK hl)
theorem Zry {t:Option Tbs} {bd:Int->Int} (h:Zj9 t bd) (l:List Int) (hl:l.length<=Z2):∃ r,U8.f t l=some r:=by
 have hn:∀ d∈l.map bd,0<=d:=by intro d hd;obtain ⟨p,_,rfl⟩:=List.mem_map.1 hd;exact (h p).2
 have hm:(l.map bd).length<=Z2:=by rw [List.length_map];exact hl
 rw [U8.f,Zz4 h l hl,Option.bind_some];have hne:∀ d∈l.map bd,0<=d:=hn;generalize l.map bd=D at hn hm hne;by_cases c0:(D.length:Int)=0
 ·rw [if_pos c0];exact ⟨_,rfl⟩
 have hp:(0:Int)<=0/\0<(D.length:Int):=by omega
 rw [if_neg c0,if_pos hp];refine J6 (Zg4 6 _ (hn _ (Zh2 hp.1 hp.2))) λcj=>?_;refine Qg ?_ (Qg ?_ ⟨_,rfl⟩)
 ·refine J6 (Zoh D hm hn _) λav=>Zd8 (Zov 2 av [] (by simp)) λaw h1=>J6 (Zly D hm hn _) λax=>Zd8 (Zov 3 ax aw (by simp at h1;omega)) λam h2=>J6 (Zlu D hm _) λay=>Qg ?_ ?_
  ·exact Zd8 (Zov 4 true am (by simp at h1;omega)) λ_ _=>⟨_,rfl⟩
  ·exact J6 (Zlu D hm _) λaz=>Zd8 (Zov 4 (!az) am (by simp at h1;omega)) λ_ _=>⟨_,rfl⟩
 ·exact J6 (Zoh D hm hn _) λa0=>Zd8 (Zov 5 a0 [] (by simp)) λa1 h1=>J6 (Zly D hm hn _) λa2=>Zd8 (Zov 6 a2 a1 (by simp at h1;omega)) λ_ _=>⟨_,rfl⟩
theorem Zik {t:Option Tbs} {bd:Int->Int} (h:Zj9 t bd) (l:List Int) (hl:l.length<=Z2):∃ r,Uw.f t l=some r:=by
 rw [Uw.f];refine J6 (Zry h l hl) λad=>?_;by_cases c:0<(ad.length:Int)
 ·rw [if_pos c,if_pos (by omega)];exact ⟨_,rfl⟩
 ·rw [if_neg c];exact ⟨_,rfl⟩
theorem Zqd {t:Option Tbs} {bd:Int->Int} (h:Zj9 t bd) (l:List Int) (hl:l.length<=Z2):∃ r,Zcd.f t l=some r:=by
 obtain ⟨r,hr⟩:=Ze6 (λk a=>Xh.l1 k t l a) l hl (λc=>Hi.f c t) (λb=>b=true) (λa _=>a) (-1) (λx _=>by
  rw [Hi.f,(h x).1,Option.bind_some];exact J6 (Zg4 70 _ (h x).2) λ_=>⟨_,rfl⟩) (λk a=>rfl)
 rw [Zcd.f,K3.f,Xh.f,hr];exact ⟨_,rfl⟩
theorem Zs4 {t:Option Tbs} {bd:Int->Int} (h:Zj9 t bd) (ls:List (List Int)) (hn:ls.length<=Z2) (hl:∀ l∈ls,l.length<=Z2):∃ r,Hr.f t ls=some r:=by
 obtain ⟨r,hr⟩:=Ze6 (λk a=>Xg.l1 k t ls a) ls hn (λc=>Zak.f c t) (λb=>b=true) (λa _=>a) (-1) (λx hx=>by
  rw [Zak.f];exact J6 (Zqd h x (hl x hx)) λ_=>⟨_,rfl⟩) (λk a=>rfl)
 obtain ⟨q,hq⟩:=Ze6 (λk a=>Hr.l1 k t ls a) ls hn (λc=>Uw.f t c) (λb=>b≠0) (λa e=>(⟨true,a,e⟩:S12)) ⟨true,0,0⟩ (λx hx=>Zik h x (hl x hx)) (λk a=>rfl);rw [Hr.f,K2.f,Xg.f,hr];exact Qg ⟨_,rfl⟩ ⟨_,hq⟩
end
section
open Go.IntKind (i8 i16 i32 i64 u8 u16 u32 u64)
open Go.RowKit

def jf (r:S10) (c:Int):Bool:=decide (c≠6)||r.joiners
def Zsr (F:List Int) (hy ns:Bool) (r:S10):List Int:=F.filter (jf r)++((if r.hyphens&&hy then [10] else [])++(if r.std&&ns then [11] else []))
def brk (lb:S11):Bool:=lb.coded&&(decide (lb.fault=7)||decide (lb.fault=8)||decide (lb.fault=9))
def Zng (F:List Int) (hy ns:Bool) (lb:S11) (r:S10):List Int:=if brk lb=true then [lb.fault] else Zsr F hy ns r
theorem Zxq (F:List Int) (hy ns:Bool) (r:S10) (h:F.length<=8):(Zsr F hy ns r).length<=10:=by
 have:=List.length_filter_le (jf r) F;unfold Zsr;rw [List.length_append,List.length_append];split<;>split<;>simp<;>omega
theorem Zxs (F:List Int) (hy ns:Bool) (lb:S11) (r:S10) (h:F.length<=8):(Zng F hy ns lb r).length<=10:=by
 unfold Zng;split
 ·simp
 ·exact Zxq F hy ns r h
theorem Zpk (lb:S11) (r:S10) (aa:List Int) (h:aa.length<=100) (hp:Bool×Bool) (ns:Bool) (hh:X5.f lb.says=some hp) (hn:Yz.f lb.says=some ns):
  ((X5.f lb.says).bind λa6=>(if r.hyphens=true then (if a6.1=true then (Z3.j6 lb r aa true) else (Z3.j6 lb r aa a6.2)) else (Z3.j6 lb r aa false)))=some (aa++((if r.hyphens&&(hp.1||hp.2) then [10] else [])++(if r.std&&ns then [11] else []))):=by
 have m1:∀ x:Int,aa.length+[x].length<=most:=λx=>by unfold most;simp;omega
 have m2:∀ x y:Int,(aa++[x]).length+[y].length<=most:=λx y=>by unfold most;simp;omega
 obtain ⟨p,q⟩:=hp;rw [hh,Option.bind_some];unfold Z3.j6 Z3.j5 Z3.j4 Z3.j3;simp only [hn,Option.bind_some,if_pos (m1 _),if_pos (m2 _ _)];generalize r.hyphens=a;generalize r.std=b;have m3:aa.length+1<=most:=by unfold most;omega
 have m4:aa.length+1+1<=most:=by unfold most;omega
 cases a<;>cases b<;>cases p<;>cases q<;>cases ns<;>simp [m3,m4]
theorem Zso {t:Option Tbs} (lb:S11) (r:S10) {F:List Int} {hp:Bool×Bool} {ns:Bool} (hF:Qt.f t lb.says=some F) (hl:F.length<=8) (hh:X5.f lb.says=some hp) (hn:Yz.f lb.says=some ns):
  Z3.f t lb r=some (Zng F (hp.1||hp.2) ns lb r):=by
 have loop:Z3.l1 K0 lb r F [] 0=some (Zsr F (hp.1||hp.2) ns r):=by
  have key:∀ (u pre:List Int) (k:Nat),F=pre++u->u.length<k->Z3.l1 k lb r F (pre.filter (jf r)) (pre.length:Int)=some (Zsr F (hp.1||hp.2) ns r):=by
   intro u
   induction u with
   | nil=>
    intro pre k e hk;obtain ⟨k,rfl⟩:∃ j,k=j+1:=⟨k-1,by omega⟩;have hl':F=pre:=by rw [e];simp
    subst hl';have:=List.length_filter_le (jf r) F;simp only [Z3.l1];rw [if_neg (by omega),Zpk lb r _ (by omega) hp ns hh hn];rfl
   | cons x u ih=>
    intro pre k e hk;obtain ⟨k,rfl⟩:∃ j,k=j+1:=⟨k-1,by omega⟩;have m:=mid e;have hle:F.length=pre.length+(u.length+1):=by rw [e];simp
    have hfl:=List.length_filter_le (jf r) pre;have hap:(pre.filter (jf r)).length+[x].length<=most:=by unfold most;simp at hfl ⊢;omega
    have:=ih (pre++[x]) k (by rw [e];simp) (by simp at hk;omega);rw [List.length_append,List.filter_append] at this;have hw:i64.wrap ((pre.length:Int)+1)=((pre.length+[x].length:Nat):Int):=by rw [w64 (by omega) (by omega)];simp
    simp only [Z3.l1];rw [if_pos m.2.2,if_pos m.2,m.1];simp only [Z3.j2,Z3.j1,m.1,hw];by_cases c6:x=6
    ·subst c6
     rw [if_neg (by simp)];cases hj:r.joiners
     ·rw [if_neg (by simp)]
      have hx:[(6:Int)].filter (jf r)=[]:=by simp [jf,hj]
      rw [hx,List.append_nil] at this;exact this
     ·rw [if_pos rfl,if_pos hap]
      have hx:[(6:Int)].filter (jf r)=[6]:=by simp [jf,hj]
      rw [hx] at this;exact this
    ·rw [if_pos c6,if_pos trivial,if_pos hap]
     have hx:[x].filter (jf r)=[x]:=by simp [jf,c6]
     rw [hx] at this;exact this
  exact key F [] K0 rfl (by unfold K0;omega)
 unfold Z3.f Zng brk Z3.j7;rw [hF,Option.bind_some,loop];cases hc:lb.coded
 ·simp
 ·by_cases c7:lb.fault=7
  ·simp [c7]
  ·by_cases c8:lb.fault=8
   ·simp [c8]
   ·by_cases c9:lb.fault=9
    ·simp [c9]
    ·simp [c7,c8,c9]
end
section
open Go.IntKind (i8 i16 i32 i64 u8 u16 u32 u64)
open Go.RowKit

def Zzr (a b:S10):Prop:=(a.hyphens=true->b.hyphens=true)/\(a.bidi=true->b.bidi=true)/\(a.joiners=true->b.joiners=true)/\(a.std=true->b.std=true)/\(a.lengths=true->b.lengths=true)
theorem Zsp {α:Type} {p q:α->Bool} (h:∀ x,p x=true->q x=true):∀ l:List α,(l.filter p).Sublist (l.filter q):=by
 intro l
 induction l with
 | nil=>exact List.Sublist.refl _
 | cons x t ih=>
  cases hp:p x
  ·cases hq:q x
   ·simpa [hp,hq] using ih
   ·simpa [hp,hq] using ih.cons x
  ·simpa [hp,h x hp] using ih.cons_cons x
theorem Zk7 {α:Type} {a b:Bool} (h:a=true->b=true) (l:List α):(if a then l else []).Sublist (if b then l else []):=by
 cases a
 ·exact List.nil_sublist _
 ·rw [h rfl];exact List.Sublist.refl _
theorem Zxr (F:List Int) (hy ns:Bool) {a b:S10} (h:Zzr a b):(Zsr F hy ns a).Sublist (Zsr F hy ns b):=by
 obtain ⟨h1,h2,h3,h4,h5⟩:=h;refine List.Sublist.append (Zsp (λx hx=>?_) F) (List.Sublist.append (Zk7 (λhx=>?_) _) (Zk7 (λhx=>?_) _))
 ·simp only [jf,Bool.or_eq_true] at hx ⊢
  exact hx.imp id h3
 ·simp only [Bool.and_eq_true] at hx ⊢;exact ⟨h1 hx.1,hx.2⟩
 ·simp only [Bool.and_eq_true] at hx ⊢;exact ⟨h4 hx.1,hx.2⟩
theorem Zxt (F:List Int) (hy ns:Bool) (lb:S11) {a b:S10} (h:Zzr a b):(Zng F hy ns lb a).Sublist (Zng F hy ns lb b):=by
 unfold Zng;split
 ·exact List.Sublist.refl _
 ·exact Zxr F hy ns h

def trL {α:Type} (G:α->List Int):Nat->List α->List Wh
 | _,[]=>[]
 | i,x::t=>(G x).map (λc=>⟨(i:Int),c⟩)++trL G (i+1) t
theorem Z04 {α:Type} {G H:α->List Int}:∀ (l:List α) (i:Nat),(∀ x∈l,(G x).Sublist (H x))->(trL G i l).Sublist (trL H i l):=by
 intro l
 induction l with
 | nil=>intro i _;exact List.Sublist.refl _
 | cons x t ih=>intro i h;exact List.Sublist.append ((h x (by simp)).map _) (ih (i+1) λy hy=>h y (by simp [hy]))
theorem Zjd {α:Type} {G:α->List Int} (q:Nat):∀ (l:List α) (i:Nat),(∀ x∈l,(G x).length<=q)->(trL G i l).length<=q*l.length:=by
 intro l
 induction l with
 | nil=>intro i _;simp [trL]
 | cons x t ih=>
  intro i h;have h1:=h x (by simp);have h2:=ih (i+1) λy hy=>h y (by simp [hy]);rw [trL,List.length_append,List.length_map,List.length_cons,Nat.mul_add];omega
theorem Z0s (bl:List Wh->List (List Int)->Int->Option (List (List Int)×List Wh)) (ay:List S11) (ac:List (List Int)) (aa:Int) (au:List Int) (ha:au.length<=Z2):∀ (u pre:List Int) (ag:List Wh) (k:Nat),au=pre++u->u.length<k->ag.length+u.length<=most->
  Z9.l1 bl k ay ac aa au ag (pre.length:Int)=bl (ag++u.map (λc=>⟨aa,c⟩)) (ac++[(rd ay aa).says]) (i64.wrap (aa+1)):=by
 intro u
 induction u with
 | nil=>
  intro pre ag k e hk _;obtain ⟨k,rfl⟩:∃ j,k=j+1:=⟨k-1,by omega⟩;have hl:au=pre:=by rw [e];simp
  simp only [Z9.l1,hl];rw [if_neg (by omega)];simp
 | cons x u ih=>
  intro pre ag k e hk hm;obtain ⟨k,rfl⟩:∃ j,k=j+1:=⟨k-1,by omega⟩;have m:=mid e;rw [List.length_cons] at hm;simp only [Z9.l1];rw [if_pos m.2.2,if_pos m.2,m.1,if_pos (by simp;omega),nxt ha e];have:=ih (pre++[x]) (ag++[⟨aa,x⟩]) k (by rw [e];simp) (by simp at hk;omega) (by simp;omega);rw [List.length_append] at this;simpa using this
def Zsf (bc:List Int->Int) (l:List Int):List Int:=if bc l≠0 then [12] else []
theorem Zwd {t:Option Tbs} (ah:List (List Int)) (ha:ah.length<=34359738368) (bc:List Int->Int) (hb:∀ l∈ah,Uw.f t l=some (bc l)):∀ (u pre:List (List Int)) (af:List Wh) (k:Nat),ah=pre++u->u.length<k->af.length+u.length<=most->
  Z9.l2 k t ah af (pre.length:Int)=some (ah,af++trL (Zsf bc) pre.length u):=by
 have hbb:ah.length<=Z2:=by unfold Z2;omega
 intro u
 induction u with
 | nil=>
  intro pre af k e hk _;obtain ⟨k,rfl⟩:∃ j,k=j+1:=⟨k-1,by omega⟩;have hl:ah=pre:=by rw [e];simp
  simp only [Z9.l2,Z9.j1,hl];rw [if_neg (by omega)];simp [trL]
 | cons x u ih=>
  intro pre af k e hk hm;obtain ⟨k,rfl⟩:∃ j,k=j+1:=⟨k-1,by omega⟩;have m:=mid e;rw [List.length_cons] at hm;have hx:=hb x (by rw [e];simp);simp only [Z9.l2,Z9.j2];rw [if_pos m.2.2,if_pos m.2,m.1,hx,Option.bind_some,nxt hbb e,trL];have step:=λaf' h=>ih (pre++[x]) af' k (by rw [e];simp) (by simp at hk;omega) h;by_cases c:bc x≠0
  ·rw [if_pos c,if_pos (by simp;omega)]
   have:=step (af++[⟨(pre.length:Int),12⟩]) (by simp;omega);rw [List.length_append] at this;simpa [Zsf,c] using this
  ·rw [if_neg c]
   have:=step af (by omega);rw [List.length_append] at this;simpa [Zsf,c] using this
theorem Zyq {t:Option Tbs} (r:S10) (ay:List S11) (ha:ay.length<=34359738368) (G:S11->List Int) (hG:∀ x∈ay,Z3.f t x r=some (G x)/\(G x).length<=10):∀ (u pre:List S11) (ad:List Wh) (k:Nat),ay=pre++u->u.length<k->ad.length<=10*pre.length->
  Z9.l3 k t r ay ad (pre.map (·.says)) (pre.length:Int)=(if r.bidi=true then ((Hr.f t (ay.map (·.says))).bind λb3=>(Z9.j3 t (ad++trL G pre.length u) (ay.map (·.says)) b3.bidi)) else (Z9.j3 t (ad++trL G pre.length u) (ay.map (·.says)) false)):=by
 have hbb:ay.length<=Z2:=by unfold Z2;omega
 intro u
 induction u with
 | nil=>
  intro pre ad k e hk _;obtain ⟨k,rfl⟩:∃ j,k=j+1:=⟨k-1,by omega⟩;have hl:ay=pre:=by rw [e];simp
  simp only [Z9.l3,hl];rw [if_neg (by omega)];simp [trL]
 | cons x u ih=>
  intro pre ad k e hk hm;obtain ⟨k,rfl⟩:∃ j,k=j+1:=⟨k-1,by omega⟩;have m:=mid e;have hle:ay.length=pre.length+(u.length+1):=by rw [e];simp
  obtain ⟨g1,g2⟩:=hG x (by rw [e];simp);have h0:=Z0s (Z9.l3 k t r ay) ay (pre.map (·.says)) (pre.length:Int) (G x) (by unfold Z2;omega) (G x) [] ad K0 rfl (by unfold K0;omega) (by unfold most;omega);simp only [List.length_nil] at h0;simp only [Z9.l3];rw [if_pos m.2.2,if_pos m.2,m.1,if_pos (by unfold most;simp;omega),g1,Option.bind_some];have hz:((0:Nat):Int)=0:=rfl;rw [hz] at h0;rw [h0,nxt hbb e,m.1];have:=ih (pre++[x]) (ad++(G x).map (λc=>⟨(pre.length:Int),c⟩)) k (by rw [e];simp) (by simp at hk;omega) (by simp;omega);rw [List.length_append,List.map_append] at this;simpa [trL] using this
end
section
open Go.IntKind (i8 i16 i32 i64 u8 u16 u32 u64)
open Go.RowKit

def Zmp (r:S10) (isb:Bool) (G:S11->List Int) (bc:List Int->Int) (ls:List S11):List Wh:=trL G 0 ls++(if r.bidi&&isb then trL (Zsf bc) 0 (ls.map (·.says)) else [])
theorem Zxc (bc:List Int->Int) (l:List Int):(Zsf bc l).length<=1:=by unfold Zsf;split<;>simp
theorem Zs9 {t:Option Tbs} (name:List Int) (r:S10) {ls:List S11} (hls:Vg.f t name=some ls) (hn:ls.length<=34359738368) (G:S11->List Int) (hG:∀ x∈ls,Z3.f t x r=some (G x)/\(G x).length<=10)
  (bc:List Int->Int) (hb:∀ l∈ls.map (·.says),Uw.f t l=some (bc l)) {bn:S12} (hbn:Hr.f t (ls.map (·.says))=some bn):
  Z9.f t name r=some (ls.map (·.says),Zmp r bn.bidi G bc ls):=by
 have h:=Zyq r ls hn G hG ls [] [] K0 rfl (by unfold K0;omega) (by simp);have hm:(ls.map (·.says)).length<=34359738368:=by rw [List.length_map];exact hn
 have hT:=Zjd (G:=G) 10 ls 0 λx hx=>(hG x hx).2;have h2:=Zwd (t:=t) (ls.map (·.says)) hm bc hb (ls.map (·.says)) [] (trL G 0 ls) K0 rfl (by unfold K0;omega) (by unfold most;omega);simp only [List.length_nil,List.map_nil,List.nil_append] at h h2;have hz:((0:Nat):Int)=0:=rfl;rw [hz] at h h2;rw [Z9.f,hls,Option.bind_some,h];unfold Zmp Z9.j3 Z9.j1;rw [hbn,Option.bind_some,h2];cases r.bidi<;>cases bn.bidi<;>simp
theorem Zwc {a b:S10} (h:Zzr a b) (isb:Bool) {G H:S11->List Int} (bc:List Int->Int) (ls:List S11) (hG:∀ x∈ls,(G x).Sublist (H x)):(Zmp a isb G bc ls).Sublist (Zmp b isb H bc ls):=by
 refine List.Sublist.append (Z04 ls 0 hG) (Zk7 (λhx=>?_) _);simp only [Bool.and_eq_true] at hx ⊢;exact ⟨h.2.1 hx.1,hx.2⟩
theorem Zos (r:S10) (isb:Bool) {G:S11->List Int} (bc:List Int->Int) (ls:List S11) (hG:∀ x∈ls,(G x).length<=10):(Zmp r isb G bc ls).length<=11*ls.length:=by
 have h1:=Zjd 10 ls 0 hG;have h2:=Zjd (G:=Zsf bc) 1 (ls.map (·.says)) 0 λx _=>Zxc bc x;rw [List.length_map] at h2;unfold Zmp;rw [List.length_append];split
 ·omega
 ·simp only [List.length_nil];omega

theorem Ztr (a b:ByteArray) (ha:a.size<=562949953421312) (hb:b.size<=562949953421312):∃ v,Ha.f a b=some v:=by
 unfold Ha.f Vi.f;refine J6 ?_ λ_=>⟨_,rfl⟩;unfold Xv.f Xv.j1;by_cases c:(b.size:Int)<=(a.size:Int)
 ·have w:i64.wrap ((a.size:Int)-(b.size:Int))=(a.size:Int)-(b.size:Int):=w64 (by omega) (by omega)
  rw [if_pos c,w,if_pos (show (0:Int)<=(a.size:Int)-(b.size:Int)/\(a.size:Int)-(b.size:Int)<=(a.size:Int)/\(a.size:Int)<=(a.size:Int) by omega),Option.bind_some,if_pos (show (0:Int)<=0/\(0:Int)<=(a.size:Int)-(b.size:Int)/\(a.size:Int)-(b.size:Int)<=(a.size:Int) by omega)];exact Qg ⟨_,rfl⟩ ⟨_,rfl⟩
 ·rw [if_neg c];exact ⟨a,rfl⟩
theorem Zni (xs:List ByteArray) (hn:xs.length<=34359738368) (hj:(Zdh xs (⟨#[46]⟩:ByteArray)).size<=281474976710656):∃ v,Zt.f xs=some v/\v.length<=xs.length+1:=by
 have hb:xs.length<=Z2:=by unfold Z2;omega
 have w:i64.wrap ((xs.length:Int)-1)=(xs.length:Int)-1:=w64 (by omega) (by omega);have hjoin:Ho.f xs (⟨#[46]⟩:ByteArray)=some (Zdh xs (⟨#[46]⟩:ByteArray)):=by rw [Ho.f,if_pos ⟨by omega,hj⟩]
 have e5:∀ (aa:List Wh) (b:Bool),aa.length<=xs.length->∃ v,Zt.j5 aa b=some v/\v.length<=xs.length+1:=by
  intro aa b h;unfold Zt.j5 Zt.j4;cases b
  ·exact ⟨aa,by simp,by omega⟩
  ·rw [if_pos rfl,if_pos (by unfold most;simp;omega)];exact ⟨_,rfl,by simp;omega⟩
 have e6:∀ (aa:List Wh) (b:ByteArray),aa.length<=xs.length->∃ v,Zt.j6 aa b=some v/\v.length<=xs.length+1:=by
  intro aa b h;unfold Zt.j6;split
  ·exact e5 _ _ h
  ·exact e5 _ _ h
 have e7:∀ (aa:List Wh) (b:Bool),aa.length<=xs.length->∃ v,Zt.j7 aa (Zdh xs (⟨#[46]⟩:ByteArray)) b=some v/\v.length<=xs.length+1:=by
  intro aa b h;unfold Zt.j7;split
  ·obtain ⟨q,hq⟩:=Ztr (Zdh xs (⟨#[46]⟩:ByteArray)) (⟨#[46]⟩:ByteArray) (by omega) (by decide)
   rw [hq,Option.bind_some];exact e6 _ _ h
  ·exact e6 _ _ h
 have key:∀ (u pre:List ByteArray) (aa:List Wh) (k:Nat),xs=pre++u->u.length<k->aa.length<=pre.length->∃ v,Zt.l1 k xs aa (pre.length:Int)=some v/\v.length<=xs.length+1:=by
  intro u
  induction u with
  | nil=>
   intro pre aa k e hk ha;obtain ⟨k,rfl⟩:∃ j,k=j+1:=⟨k-1,by omega⟩;have hl:xs.length=pre.length:=by rw [e];simp
   simp only [Zt.l1];rw [if_neg (by omega),hjoin,Option.bind_some,w];by_cases c:1<(xs.length:Int)
   ·rw [if_pos c,if_pos (by omega)];exact e7 _ _ (by omega)
   ·rw [if_neg c];exact e7 _ _ (by omega)
  | cons x u ih=>
   intro pre aa k e hk ha;obtain ⟨k,rfl⟩:∃ j,k=j+1:=⟨k-1,by omega⟩;have m:=mid e;have hle:xs.length=pre.length+(u.length+1):=by rw [e];simp
   have step:∀ aa':List Wh,aa'.length<=pre.length+1->∃ v,Zt.l1 k xs aa' (i64.wrap ((pre.length:Int)+1))=some v/\v.length<=xs.length+1:=by intro aa' h;have:=ih (pre++[x]) aa' k (by rw [e];simp) (by simp at hk;omega) (by simpa using h);rw [List.length_append] at this;rw [nxt hb e];simpa using this
   have e2:∀ b:Bool,∃ v,Zt.j2 (Zt.l1 k xs) aa (pre.length:Int) b=some v/\v.length<=xs.length+1:=by
    intro b;unfold Zt.j2 Zt.j1;cases b
    ·exact step aa (by omega)
    ·rw [if_pos rfl,if_pos (by unfold most;simp;omega)];exact step _ (by simp;omega)
   have e3:∀ b:Bool,∃ v,Zt.j3 (Zt.l1 k xs) xs aa (pre.length:Int) b=some v/\v.length<=xs.length+1:=by
    intro b;unfold Zt.j3;split
    ·split
     ·exact e2 _
     ·exact e2 _
    ·exact e2 _
   simp only [Zt.l1];rw [if_pos m.2.2,if_pos m.2];split
   ·exact e3 _
   ·exact e3 _
 exact key xs [] [] K0 rfl (ltK hb) (Nat.le_refl _)
end
section
open Go.RowKit

def Znf (en:List Int->ByteArray×Int×Int) (l:List Int):List Int:=if (en l).2.2≠0 then [13] else []
theorem Zq9 (en:List Int->ByteArray×Int×Int) (l:List Int):(Znf en l).length<=1:=by unfold Znf;split<;>simp
theorem Zxb {t:Option Tbs} (name:List Int) (r:S10) {ws:List (List Int)} {T:List Wh} (hp:Z9.f t name r=some (ws,T)) (hn:ws.length<=34359738368) (hT:T.length<=11*ws.length)
  (en:List Int->ByteArray×Int×Int) (he:∀ l∈ws,V7.f l=some (en l)) (hj:(Zdh (ws.map λl=>(en l).1) (⟨#[46]⟩:ByteArray)).size<=281474976710656) {L:List Wh} (hL:Zt.f (ws.map λl=>(en l).1)=some L) (hl:L.length<=ws.length+1):
  Qs.f t name r=some (Zdh (ws.map λl=>(en l).1) (⟨#[46]⟩:ByteArray),(T++trL (Znf en) 0 ws)++(if r.lengths then L else [])):=by
 have hb:ws.length<=Z2:=by unfold Z2;omega
 have hjoin:Ho.f (ws.map λl=>(en l).1) (⟨#[46]⟩:ByteArray)=some (Zdh (ws.map λl=>(en l).1) (⟨#[46]⟩:ByteArray)):=by rw [Ho.f,if_pos ⟨by rw [List.length_map];omega,hj⟩]
 have hE:=Zjd (G:=Znf en) 1 ws 0 λx _=>Zq9 en x;have key:∀ (u pre:List (List Int)) (ac:List Wh) (k:Nat),ws=pre++u->u.length<k->ac.length+2*u.length<=14*34359738368-> 
   Qs.l1 k r (ws,T) (pre.map λl=>(en l).1) ac (pre.length:Int)=some (Zdh (ws.map λl=>(en l).1) (⟨#[46]⟩:ByteArray),(ac++trL (Znf en) pre.length u)++(if r.lengths then L else [])):=by
  intro u
  induction u with
  | nil=>
   intro pre ac k e hk hac;obtain ⟨k,rfl⟩:∃ j,k=j+1:=⟨k-1,by omega⟩;have hle:ws.length=pre.length:=by rw [e];simp
   have hl':pre=ws:=by rw [e];simp
   simp only [Qs.l1];rw [if_neg (by omega),hl',hL,Option.bind_some];unfold Qs.j2;have hml:ac.length+L.length<=most:=by unfold most;simp at hac;omega
   simp only [hjoin,if_pos hml,Option.bind_some];cases r.lengths<;>simp [trL]
  | cons x u ih=>
   intro pre ac k e hk hac;obtain ⟨k,rfl⟩:∃ j,k=j+1:=⟨k-1,by omega⟩;have m:=mid e;have hle:ws.length=pre.length+(u.length+1):=by rw [e];simp
   have hx:=he x (by rw [e];simp);rw [List.length_cons] at hac;have step:∀ ac':List Wh,ac'.length+2*u.length<=14*34359738368->Qs.j1 (Qs.l1 k r (ws,T)) (pre.map λl=>(en l).1) (pre.length:Int) (en x) ac'=some (Zdh (ws.map λl=>(en l).1) (⟨#[46]⟩:ByteArray),(ac'++trL (Znf en) (pre.length+1) u)++(if r.lengths then L else [])):=by intro ac' h;have:=ih (pre++[x]) ac' k (by rw [e];simp) (by simp at hk;omega) h;rw [List.length_append,List.map_append] at this;unfold Qs.j1;rw [if_pos (by unfold most;simp;omega),nxt hb e];simpa using this
   simp only [Qs.l1];rw [if_pos m.2.2,if_pos m.2,m.1,hx,Option.bind_some,trL];by_cases c:(en x).2.2≠0
   ·rw [if_pos c,if_pos (by unfold most;simp;omega),step _ (by simp;omega)]
    simp [Znf,c]
   ·rw [if_neg c,step _ (by omega)]
    simp [Znf,c]
 have:=key ws [] T K0 rfl (ltK hb) (by omega);rw [Qs.f,hp,Option.bind_some];simpa using this
end
section
open Go.RowKit

theorem Zvj (l:List Int) (hl:l.length<=Z2) (h:∃ x∈l,scB x=false):∃ a,Qv.f pU l=some (a,20):=by
 rw [Qv.f];refine Xu (λk i (_:Unit)=>Qv.l1 k pU l i) l (λ_ t _ o=>(∃ x∈t,scB x=false)->∃ a,o=some (a,20)) (λ_ k=>?_) (λpre x t _ k e ih=>?_) () K0 (ltK hl) h
 ·rintro ⟨x,hx,_⟩;cases hx
 ·obtain ⟨m1,m2⟩:=mid e
  intro h2;simp only [Qv.l1,if_pos m2.2,if_pos m2,m1,Zqb,Ztl,Option.bind_some,nxt hl e];cases c:scB x
  ·exact ⟨_,by rw [if_pos (by decide)]⟩
  ·rw [if_neg (by decide)]
   refine ih () ?_;obtain ⟨y,hy,hc⟩:=h2
   rcases List.mem_cons.1 hy with rfl | hy
   ·rw [hc] at c;exact nomatch c
   ·exact ⟨y,hy,hc⟩
theorem Zvr (L:List Int) (hl:L.length<=18400000000):∃ s a e,Zcg.f L=some (s,a,e)/\s.size<=12*L.length+1:=by
 have hb:L.length<=Z2:=by unfold Z2;omega
 have hu:Zbw.f=some pU:=rfl;rw [Zcg.f,hu,Option.bind_some,Zl.f];by_cases hx:∃ x∈L,scB x=false
 ·obtain ⟨a,ha⟩:=Zvj L hb hx
  rw [ha,Option.bind_some,if_pos (by simp)];exact ⟨_,_,_,rfl,Nat.zero_le _⟩
 ·have hs:∀ x∈L,scB x=true:=λx h=>by
   cases c:scB x
   ·exact absurd ⟨x,h,c⟩ hx
   ·rfl
  have hr2:∀ x∈L,0<=x/\x<=1114111:=λx h=>Zwl (hs x h);have hp:=Zwb L hb λx h=>by have:=hr2 x h;omega
  have c:fIx (λp=>!scB p) L 0=-1:=by
   rcases Zjr (λp=>!scB p) L 0 with ⟨c,_⟩ | ⟨a,x,r,e,hx,_,h⟩
   ·exact c
   ·have:=hs x (by rw [e];simp)
    rw [this] at hx;exact nomatch hx
  obtain ⟨r,_,_,r3,r4⟩:=Zz6 L hl hr2;obtain ⟨s,a,e,h3,h4⟩:=Zxo r4 (by unfold Z2;omega);rw [hp,Option.bind_some,if_pos c,if_neg (by simp),Zyr L hl hr2,r3,h3];exact ⟨s,a,e,rfl,h4⟩
theorem Zn5 (l:List Int) (hl:l.length<=18400000000):∃ v,V7.f l=some v/\v.1.size<=12*l.length+5:=by
 have hb:l.length<=Z2:=by unfold Z2;omega
 rw [V7.f,Zi3 l hb,Option.bind_some];cases hp:Zc8 l
 ·rw [if_neg (by decide)]
  obtain ⟨s,a,e,h1,h2⟩:=Zvr l hl;rw [h1,Option.bind_some];by_cases c:e≠0
  ·rw [if_pos c];exact ⟨_,rfl,Nat.zero_le _⟩
  ·have h4:(⟨#[120,110,45,45]⟩:ByteArray).size=4:=rfl
   have h2':(s,a,e).1.size<=12*l.length+1:=h2;rw [if_neg c,if_pos (by rw [h4];omega)];exact ⟨_,rfl,by rw [ByteArray.size_append,h4];omega⟩
 ·rw [if_pos rfl]
  have hm:∀ c∈l,0<=c/\c<128:=λc hc=>by
   simp only [Zc8,Bool.not_eq_true',List.any_eq_false,decide_eq_true_eq] at hp;have:=hp c hc;omega
  refine ⟨_,rfl,?_⟩;show (runesBytes l).size<=_;rw [Zkl hp,Zh6 hm];omega
end
section
open Go.RowKit

def Zcn:List Int->List Int->List (List Int)
 | one,[]=>[one]
 | one,p::t=>if p=46 then one::Zcn [] t else Zcn (one++[p]) t
theorem Zmx:∀ (a one r:List Int),(∀ x∈a,x≠46)->Zcn one (a++46::r)=(one++a)::Zcn [] r
 | [],one,r,_=>by simp [Zcn]
 | x::a,one,r,h=>by
  rw [List.cons_append,Zcn,if_neg (h x (by simp)),Zmx a _ r (λy hy=>h y (by simp [hy]))]
  simp
theorem Zko:∀ (a one:List Int),(∀ x∈a,x≠46)->Zcn one a=[one++a]
 | [],one,_=>by simp [Zcn]
 | x::a,one,h=>by
  rw [Zcn,if_neg (h x (by simp)),Zko a _ (λy hy=>h y (by simp [hy]))]
  simp
def Z4n (t:List (List Int)):List Int:=t.flatMap (46::·)
theorem Zy9 (l:List Int) (hl:l.length+1<=Z2):Un.f l=some (Zcn [] l):=by
 have key:∀ (n:Nat) (t:List Int) (acc:List (List Int)) (k:Nat),t.length<=n->n<k->acc.length+t.length<=l.length->Un.l1 k acc t=some (acc++Zcn [] t):=by
  unfold Z2 at hl;intro n
  induction n with
  | zero=>
   intro t acc k hn hk ha;obtain ⟨k,rfl⟩:∃ j,k=j+1:=⟨k-1,by omega⟩;obtain rfl:t=[]:=List.eq_nil_of_length_eq_zero (by omega);simp only [Un.l1,Zjv [] 46 (by unfold Z2;simp),Option.bind_some,fIx];rw [if_pos (by omega),Zf9 [] (by unfold Z2;simp),Option.bind_some,if_pos (by unfold most;simp at ha ⊢;omega)];rfl
  | succ n ih=>
   intro t acc k hn hk ha;obtain ⟨k,rfl⟩:∃ j,k=j+1:=⟨k-1,by omega⟩;have ht:t.length<=Z2:=by unfold Z2;omega
   simp only [Un.l1,Zjv t 46 ht,Option.bind_some]
   rcases Zjr (λx:Int=>decide (46=x)) t 0 with ⟨h1,h2⟩ | ⟨a,x,r,h1,h2,h3,h4⟩
   ·rw [h1,if_pos (by omega),Zf9 t ht,Option.bind_some,if_pos (by unfold most;simp;omega),Zko t [] (λx hx e=>by have:=h2 x hx;simp [e] at this)]
    simp
   ·obtain rfl:(46:Int)=x:=of_decide_eq_true h2
    have hlen:t.length=a.length+(r.length+1):=by rw [h1];simp
    have ea:((0+a.length:Nat):Int)=(a.length:Int):=by omega
    have es:sub t 0 (a.length:Int)=a:=by rw [h1];simp [sub]
    have er:sub t ((a.length:Int)+1) (t.length:Int)=r:=by have:=Zlc (xs:=t) (pre:=a++[46]) (t:=r) (by rw [h1];simp);simpa using this
    rw [h4,ea,w64 (by omega) (by omega),if_neg (by omega),if_pos ⟨by omega,by omega,by omega⟩,es,Zf9 a (by unfold Z2;omega),Option.bind_some,if_pos (by unfold most;simp;omega),if_pos ⟨by omega,by omega,by omega⟩,er];rw [ih r (acc++[a]) k (by omega) (by omega) (by simp;omega)];rw [h1,Zmx a [] r (λx hx e=>by have:=h3 x hx;simp [e] at this)];simp
 have:=key l.length l [] K0 (Nat.le_refl _) (ltK (by omega)) (by simp);simpa [Un.f] using this
end
section
open Go.RowKit

def Zde {α:Type} (f:α->Nat):List α->Nat
 | []=>0
 | x::t=>f x+1+Zde f t
theorem Zr6 {α:Type} (f:α->Nat):∀ (l:List α),∀ x∈l,f x+1<=Zde f l
 | x::t,y,h=>by
  rw [Zde]
  rcases List.mem_cons.1 h with rfl | h
  ·omega
  ·have:=Zr6 f t y h;omega
theorem Zm1 {α:Type} (f:α->Nat):∀ (l:List α),l.length<=Zde f l
 | []=>Nat.le_refl _
 | x::t=>by have:=Zm1 f t;rw [Zde,List.length_cons];omega
theorem Zh7:∀ (t one:List Int),Zde (·.length) (Zcn one t)=one.length+t.length+1
 | [],one=>by simp [Zcn,Zde]
 | p::t,one=>by
  rw [Zcn]
  split
  ·rw [Zde,Zh7 t []];simp;omega
  ·rw [Zh7 t (one++[p])];simp;omega
theorem Zvx:∀ (xs:List ByteArray),(Zdh xs (⟨#[46]⟩:ByteArray)).size<=Zde (·.size) xs:=by
 intro xs;have hz:∀ x:ByteArray,x.data.toList.length=x.size:=λx=>Array.length_toList;have hl:∀ r:List ByteArray,Lib.lens (r.map (·.data.toList))+r.length=Zde (·.size) r:=by
  intro r
  induction r with
  | nil=>rfl
  | cons x t ih=>
   have e:Lib.lens ((x::t).map (·.data.toList))=x.data.toList.length+Lib.lens (t.map (·.data.toList)):=by simp only [Lib.lens,List.map_cons,List.sum_cons]
   rw [e,Zde,List.length_cons,hz];omega
 have hs:(Zdh xs (⟨#[46]⟩:ByteArray)).size=(Lib.join (xs.map (·.data.toList)) [46]).length:=rfl;rw [hs]
 cases xs with
 | nil=>exact Nat.zero_le _
 | cons x t=>
  have:=hl (x::t);rw [List.map_cons,Lib.join_length];rw [List.map_cons,List.length_cons] at this;rw [List.length_map,List.length_singleton];omega
variable {t:Option Tbs} {key:Int->Int} {pa:Int->List Int} {n:Nat} {pr:Int->Int->Int×Bool} {mk kp:Int->Bool} {jn:Int->Int}
theorem Zyv (h:Tq t key pa n pr mk kp jn) (l:List Int) (hl:l.length<=18400000000):∃ r,Za1.f t l=some r/\r.says.length<=l.length+1:=by
 have hb:l.length<=Z2:=by unfold Z2;omega
 cases hc:Zip l with
 | false=>
  obtain ⟨f,hf⟩:=Ztc h l (by unfold Z2;omega) hc;exact ⟨_,hf,Nat.le_succ _⟩
 | true=>
  cases hp:Zc8 l with
  | false=>
   exact ⟨⟨l,true,7⟩,by rw [Za1.f,Zf9 _ hb,Option.bind_some,Ziq,Option.bind_some,hc,if_neg (by decide),Zi3 _ hb,Option.bind_some,hp,if_pos (by decide)],Nat.le_succ _⟩
  | true=>
   obtain ⟨q,a,e,h1,_,h3⟩:=Zpf (Zmo hp 4) (by simp;unfold Z2;omega);have h4:(l.drop 4).length=l.length-4:=by simp
   obtain ⟨F,h2,_⟩:=Zkh h q (by unfold Z2;omega);refine ⟨_,Zyu l hb hc hp h1 (by unfold Z2;omega) h2,?_⟩;have h5:=Zq5 hc;split
   ·exact Nat.le_succ _
   ·split
    ·show q.length<=_;omega
    ·show q.length<=_;omega
theorem Zrm (h:Tq t key pa n pr mk kp jn) (ai:List (List Int)) (ha:Zde (·.length) ai<=18400000000):∃ ls,Vg.l1 K0 t ai [] 0=some ls/\ls.length=ai.length/\Zde (·.says.length) ls<=2*Zde (·.length) ai/\∀ r∈ls,r.says.length<=18400000000:=by
 have hlen:=Zm1 (·.length) ai;have hb:ai.length<=Z2:=by unfold Z2;omega
 have key:∀ (u pre:List (List Int)) (aa:List S11) (k:Nat),ai=pre++u->u.length<k->aa.length=pre.length->∃ v,Vg.l1 k t ai aa (pre.length:Int)=some (aa++v)/\v.length=u.length/\Zde (·.says.length) v<=2*Zde (·.length) u/\∀ r∈v,r.says.length<=18400000000:=by
  intro u
  induction u with
  | nil=>
   intro pre aa k e hk ha;obtain ⟨k,rfl⟩:∃ j,k=j+1:=⟨k-1,by omega⟩;have hl:ai.length=pre.length:=by rw [e];simp
   simp only [Vg.l1];rw [if_neg (by omega)];exact ⟨[],by simp,rfl,Nat.le_refl _,λr h=>by cases h⟩
  | cons x u ih=>
   intro pre aa k e hk hq;obtain ⟨k,rfl⟩:∃ j,k=j+1:=⟨k-1,by omega⟩;have m:=mid e;have hle:ai.length=pre.length+(u.length+1):=by rw [e];simp
   have hx:=Zr6 (·.length) ai x (by rw [e];simp);obtain ⟨r,hr,hs⟩:=Zyv h x (by have:=hx;omega);simp only [Vg.l1];rw [if_pos m.2.2,if_pos m.2,m.1,hr,Option.bind_some,if_pos (by unfold most;simp;omega),nxt hb e];obtain ⟨v,h1,h2,h3,h5⟩:=ih (pre++[x]) (aa++[r]) k (by rw [e];simp) (by simp at hk;omega) (by simp [hq]);rw [List.length_append] at h1;have hx2:x.length+1<=Zde (·.length) ai:=hx;refine ⟨r::v,by simpa using h1,by simp [h2],by rw [Zde,Zde];omega,λy hy=>?_⟩
   rcases List.mem_cons.1 hy with rfl | hy
   ·omega
   ·exact h5 y hy
 obtain ⟨v,h1,h2,h3,h5⟩:=key ai [] [] K0 rfl (ltK hb) rfl;exact ⟨v,by simpa using h1,h2,h3,h5⟩
end
section
open Go.IntKind (i8 i16 i32 i64 u8 u16 u32 u64)
open Go.RowKit

theorem Zjb (b:Bk) (hb:Few b) (h:okB b=true):∃ t,Kz.f b=some (some t,b,true)/\Zlh b t:=by
 obtain ⟨t,h1,h2⟩:=Zsi b hb h;obtain ⟨p,q,h3⟩:=Zfr b hb;rw [h] at h3;refine ⟨t,?_,h2⟩;rw [Kz.f,h1,Option.bind_some,Z1e b hb,Option.bind_some,h3,Option.bind_some,if_neg (by simp),if_pos rfl,Kz.j2];rfl
theorem Zkp (b:Bk) (hb:Few b) (h:okB b=false):Kz.f b=some (none,⟨[],[],[],[],[],[],[],[],[],[],[]⟩,true):=by
 obtain ⟨p,h1⟩:=Zhj b;obtain ⟨p',q,h3⟩:=Zfr b hb;rw [h] at h1 h3;rw [Kz.f,Zm.f,h1,Option.bind_some,if_pos (by simp),Option.bind_some,Z1e b hb,Option.bind_some,h3,Option.bind_some,if_pos (by simp)];rfl
def Zif (t:Option Tbs) (mp:Int->List Int):Prop:=∀ p,Hv.f t p=some (mp p)/\(mp p).length<=18
theorem Z2k {b:Bk} (h:okB b=true):∀ x∈b.maps,x.is_.length<=18:=by
 unfold okB at h;simp only [Bool.and_eq_true] at h;have h2:=h.2.2.1;unfold Zag at h2;simp only [Bool.and_eq_true] at h2;intro x hx;have:=(Zbm h2.2 x hx).2.2.2;simp only [Zhe,Hz,Bool.and_eq_true,decide_eq_true_eq] at this;omega
theorem Z0p {D:List Chs} {q:Nat} (h:∀ x∈D,x.is_.length<=q) (c:Int):(paP D c).length<=q:=by
 induction D with
 | nil=>exact Nat.zero_le _
 | cons x D ih=>
  rw [paP];split
  ·exact h x (by simp)
  ·exact ih λy hy=>h y (by simp [hy])
theorem Zrs {a b:Int} {l:List Val} (h:Zp2 a b l=true) (ha:0<=a) (hb:b<=65535):Zbd l:=by
 simp only [Zp2,Zag,Bool.and_eq_true,decide_eq_true_eq] at h;refine ⟨h.1,?_⟩;have:∀ (l:List Val) (last:Int),Vn (·.lo) (·.hi) (λx:Val=>decide (a<=x.n)&&decide (x.n<=b)) last l=true->Vn (·.lo) (·.hi) Zd0 last l=true:=by
  intro l
  induction l with
  | nil=>intro _ _;rfl
  | cons x t ih=>
   intro last h;simp only [Vn,Bool.and_eq_true,decide_eq_true_eq] at h ⊢;refine ⟨⟨h.1.1,?_⟩,ih _ h.2⟩;have:=h.1.2;simp only [Zd0,Bool.and_eq_true,decide_eq_true_eq];omega
 exact this l _ h.2
theorem Zvl {b:Bk} (h:okB b=true):Zbd b.bidi:=by
 unfold okB at h;simp only [Bool.and_eq_true] at h;exact Zrs h.2.2.2.2.2.2.1 (by omega) (by omega)
theorem Zzg (b:Bk) (hb:Few b):∃ t c key pa n pr mk kp jn sta bd mp,Kz.f b=some (t,c,true)/\Tq t key pa n pr mk kp jn/\Zig t sta kp/\Zj9 t bd/\Zif t mp:=by
 cases h:okB b with
 | true=>
  obtain ⟨t,h1,h2⟩:=Zjb b hb h;obtain ⟨key,pa,n,pr,mk,kp,jn,sta,h3,h4⟩:=Z03 hb h h2;refine ⟨_,_,key,pa,n,pr,mk,kp,jn,sta,λp=>(Zv.f t.bidi p).getD 0,λp=>(Zbk.f t.maps b.maps p).getD [],h1,h3,h4,λp=>?_,λp=>?_⟩
  ·obtain ⟨r,e1,e2⟩:=Zpz _ _ h2.bidi (Zvl h) p
   simp only [U1.f,Option.isNone_some,Bool.false_eq_true,if_false,Option.isSome_some,if_true,Option.getD_some,e1,Option.bind_some];exact ⟨trivial,e2⟩
  ·obtain ⟨l,e1,e2⟩:=Zp9 h2.maps hb.mapsI hb.maps p
   have hl:l.length<=18:=by
    rcases e2 with rfl | rfl
    ·exact Z0p (Z2k h) p
    ·exact Nat.zero_le _
   simp only [Hv.f,Option.isNone_some,Bool.false_eq_true,if_false,Option.isSome_some,if_true,Option.getD_some,h2.book,e1,Option.bind_some];exact ⟨trivial,hl⟩
 | false=>
  obtain ⟨key,pa,n,pr,mk,kp,jn,sta,h3,h4⟩:=Z02;exact ⟨_,_,key,pa,n,pr,mk,kp,jn,sta,λ_=>0,λ_=>[],Zkp b hb h,h3,h4,λp=>⟨rfl,Int.le_refl _⟩,λp=>⟨rfl,Nat.zero_le _⟩⟩
variable {t:Option Tbs} {key:Int->Int} {pa:Int->List Int} {n:Nat} {pr:Int->Int->Int×Bool} {mk kp:Int->Bool} {jn:Int->Int} {sta:Int->Int} {mp:Int->List Int}
def Znj (sta:Int->Int) (mp:Int->List Int) (c:Int):List Int:=if sta c=2 then [] else if sta c=4 then mp c else [c]
def Zdy (sta:Int->Int) (mp:Int->List Int) (l:List Int):List Int:=l.flatMap (Znj sta mp)
theorem Zrn (hm:Zif t mp) (c:Int):(Znj sta mp c).length<=18:=by
 unfold Znj;split
 ·exact Nat.zero_le _
 ·split
  ·exact (hm c).2
  ·simp
theorem Zi1 (hm:Zif t mp):∀ l:List Int,(Zdy sta mp l).length<=18*l.length
 | []=>Nat.le_refl _
 | c::l=>by
  have h1:=Zrn (sta:=sta) hm c
  have h2:=Zi1 hm l
  unfold Zdy at h2 ⊢
  rw [List.flatMap_cons,List.length_append,List.length_cons];omega
theorem Z08 (aq:List Int->Int->Option (List Int)) (aa:Int) (aw:List Int) (ha:aw.length<=18):∀ (u pre ac:List Int) (k:Nat),aw=pre++u->u.length<k->ac.length<=1000000000->
  Yi.l1 aq k aa aw ac (pre.length:Int)=aq (ac++u) (i64.wrap (aa+1)):=by
 have hb:aw.length<=Z2:=by unfold Z2;omega
 have main:∀ (u pre ac:List Int) (k:Nat),aw=pre++u->u.length<k->ac.length+u.length<=1000000018->Yi.l1 aq k aa aw ac (pre.length:Int)=aq (ac++u) (i64.wrap (aa+1)):=by
  intro u
  induction u with
  | nil=>
   intro pre ac k e hk _;obtain ⟨k,rfl⟩:∃ j,k=j+1:=⟨k-1,by omega⟩;have hl:aw.length=pre.length:=by rw [e];simp
   simp only [Yi.l1,Yi.j1];rw [if_neg (by omega),List.append_nil]
  | cons x u ih=>
   intro pre ac k e hk hc;obtain ⟨k,rfl⟩:∃ j,k=j+1:=⟨k-1,by omega⟩;have m:=mid e;rw [List.length_cons] at hc;simp only [Yi.l1,Ut.f];rw [if_pos m.2.2,if_pos m.2,m.1,if_pos (by unfold most;simp;omega),Option.bind_some,nxt hb e];have:=ih (pre++[x]) (ac++[x]) k (by rw [e];simp) (by simp at hk;omega) (by simp;omega);rw [List.length_append] at this;simpa using this
 intro u pre ac k e hk hc;have hle:aw.length=pre.length+u.length:=by rw [e];simp
 exact main u pre ac k e hk (by omega)
theorem Zyc (hs:Zig t sta kp) (hm:Zif t mp) (l:List Int) (hl:l.length<=50000000):Zbb.f t l=some (Zdy sta mp l):=by
 have hb:l.length<=Z2:=by unfold Z2;omega
 have key:∀ (u pre ab:List Int) (k:Nat),l=pre++u->u.length<k->ab.length<=18*pre.length->Yi.l2 k t l ab (pre.length:Int)=some (ab++Zdy sta mp u):=by
  intro u
  induction u with
  | nil=>
   intro pre ab k e hk _;obtain ⟨k,rfl⟩:∃ j,k=j+1:=⟨k-1,by omega⟩;have hl:l.length=pre.length:=by rw [e];simp
   simp only [Yi.l2];rw [if_neg (by omega)];simp [Zdy]
  | cons x u ih=>
   intro pre ab k e hk hc;obtain ⟨k,rfl⟩:∃ j,k=j+1:=⟨k-1,by omega⟩;have m:=mid e;have hle:l.length=pre.length+(u.length+1):=by rw [e];simp
   have h18:=Zrn (sta:=sta) hm x;have step:Yi.l2 k t l (ab++Znj sta mp x) (i64.wrap ((pre.length:Int)+1))=some (ab++Zdy sta mp (x::u)):=by have:=ih (pre++[x]) (ab++Znj sta mp x) k (by rw [e];simp) (by simp at hk;omega) (by simp;omega);rw [List.length_append] at this;rw [nxt hb e];have e2:Zdy sta mp (x::u)=Znj sta mp x++Zdy sta mp u:=rfl;rw [e2,<- List.append_assoc];simpa using this
   simp only [Yi.l2,Yi.j1];rw [if_pos m.2.2,if_pos m.2,m.1,hs.1,Option.bind_some];unfold Znj at step;by_cases c2:sta x=2
   ·rw [if_pos c2] at step ⊢
    simpa using step
   ·rw [if_neg c2] at step ⊢
    by_cases c4:sta x=4
    ·rw [if_pos c4] at step ⊢
     rw [(hm x).1,Option.bind_some];have:=Z08 (Yi.l2 k t l) (pre.length:Int) (mp x) (hm x).2 (mp x) [] ab K0 rfl (by have:=(hm x).2;unfold K0;omega) (by omega);have hz:((([]:List Int).length:Nat):Int)=0:=rfl;rw [hz] at this;rw [this];exact step
    ·rw [if_neg c4] at step ⊢
     rw [Ut.f,if_pos (by unfold most;simp;omega),Option.bind_some];exact step
 have:=key l [] [] K0 rfl (ltK hb) (Nat.le_refl _);rw [Zbb.f,Yi.f];have hz:((([]:List Int).length:Nat):Int)=0:=rfl;rw [hz] at this;rw [this];simp
theorem Zol (h:Tq t key pa n pr mk kp jn) (l:List Int):(Zdi key pa n pr l).length<=54*l.length:=by
 have h1:=Zgg h.tb l;have h2:=Zgc key pr (Zjy key (l.flatMap (Zdg pa n))) ([],-1,0);rw [Zmm] at h2;simp only [List.length_nil,Nat.zero_add] at h2;unfold Zdi Zgb;omega
theorem Zk4 (h:Tq t key pa n pr mk kp jn) (hs:Zig t sta kp) (hm:Zif t mp) (l:List Int) (hl:l.length<=50000000):U2.f t l=some (Zdi key pa n pr (Zdy sta mp l)):=by
 have:=Zi1 (sta:=sta) hm l;rw [U2.f,Zyc hs hm l hl,Option.bind_some,Zom h _ (by unfold Z2;omega)];rfl
theorem Zpx (h:Tq t key pa n pr mk kp jn) (hs:Zig t sta kp) (hm:Zif t mp) (l:List Int) (hl:l.length<=18874386):∃ ls,Vg.f t l=some ls/\ls.length<=18400000000/\Zde (·.says.length) ls<=36800000000/\∀ r∈ls,r.says.length<=18400000000:=by
 have h1:=Zi1 (sta:=sta) hm l;have h2:=Zol h (Zdy sta mp l);have h3:=Zh7 (Zdi key pa n pr (Zdy sta mp l)) [];simp only [List.length_nil,Nat.zero_add] at h3;obtain ⟨ls,e1,e2,e3,e4⟩:=Zrm h (Zcn [] (Zdi key pa n pr (Zdy sta mp l))) (by omega);have h4:=Zm1 (·.length) (Zcn [] (Zdi key pa n pr (Zdy sta mp l)));refine ⟨ls,?_,by omega,by omega,e4⟩;rw [Vg.f,Zk4 h hs hm l (by omega),Option.bind_some,Zy9 _ (by unfold Z2;omega),Option.bind_some,e1]
end
section
open Go.RowKit

abbrev Tt {α:Type} (o:Option α):Prop:=∃ r,o=some r
theorem Zgw (l:List Val) (p:Int) (hl:l.length<=Z2):Q0.f l p=some (Hg l p):=by
 refine Xu (λk i (_:Unit)=>Q0.l1 k l p i) l (λpre t _ o=>o=some (Hg t p)) ?_ ?_ () K0 (ltK hl)
 ·intro _ k
  simp only [Q0.l1,if_neg (show ¬ (l.length:Int)<(l.length:Int) by omega)];rfl
 ·intro pre x t _ k e ih
  obtain ⟨h1,h2⟩:=mid e;have ih:=ih ();simp only [Q0.l1,if_pos h2.2,if_pos h2,h1,Q0.j1,nxt hl e,Hg,inB];by_cases c1:x.lo<=p
  ·by_cases c2:p<=x.hi
   ·simp [c1,c2]
   ·simpa [c1,c2] using ih
  ·simpa [c1] using ih
theorem Zm6 (l:List Spn) (p:Int) (hl:l.length<=Z2):Tt (Q8.f l p):=by
 refine Xu (λk i (_:Unit)=>Q8.l1 k l p i) l (λpre t _ o=>Tt o) ?_ ?_ () K0 (ltK hl)
 ·intro _ k
  rw [Q8.l1,if_neg (by omega)];exact ⟨_,rfl⟩
 ·intro pre x t _ k e ih
  obtain ⟨h1,h2⟩:=mid e;have ih:=ih ();rw [Q8.l1,if_pos h2.2,if_pos h2,h1];simp only [Q8.j1,nxt hl e];refine Qg (Qg ⟨_,rfl⟩ ih) (Qg ⟨_,rfl⟩ ih)
def Zfh (b:Bk) (p:Int):Int:=if Hg b.status p≠0 then Hg b.status p else if 0<((paP b.maps p).length:Int) then 4 else 0
variable {b:Bk}
theorem Zj4 (hb:Few b) (p:Int):Hn.f b p=some (Zfh b p):=by
 rw [Hn.f,Zgw _ _ hb.status,Option.bind_some,Zfh];by_cases c:Hg b.status p≠0
 ·rw [if_pos c,if_pos c]
 ·rw [if_neg c,if_neg c,Zfd _ _ hb.maps,Option.bind_some]
  by_cases d:0<((paP b.maps p).length:Int)
  ·rw [if_pos d,if_pos d]
  ·rw [if_neg d,if_neg d]
theorem Zed (hb:Few b) (p:Int):Vf.f b p=some (decide (Zfh b p=1\/Zfh b p=3)):=by
 rw [Vf.f,Zj4 hb,Option.bind_some];by_cases c:Zfh b p=1
 ·rw [if_pos c,decide_eq_true (.inl c)];rfl
 ·rw [if_neg c]
  simp only [Vf.j1,c,false_or]
theorem Zcv (hb:Few b) (p:Int):Tt (Vh.f b p):=by rw [Vh.f,Zgw _ _ hb.class_];exact ⟨_,rfl⟩
theorem Zod (hb:Few b) (p:Int):Tt (Hm.f b p):=by obtain ⟨r,h⟩:=Zm6 b.excl p hb.excl;rw [Hm.f,h];exact ⟨_,rfl⟩
theorem Zfa (hb:Few b) (p:Int):V3.f b p=some (paP b.decomp p):=by rw [V3.f,Zfd _ _ hb.decomp];rfl
theorem Zvi (hb:Few b) (p:Int):Tt (Zr.f b p):=by
 have j4:∀ s x,Tt (Zr.j4 s x):=λs x=>by
  unfold Zr.j4 Zr.j3;repeat' (first | exact ⟨_,rfl⟩ | refine Qg ?_ ?_)
 have j5:∀ s x,Tt (Zr.j5 b p s x):=λs x=>by
  unfold Zr.j5;refine Qg ?_ ?_
  ·rw [Zd9.f,Zfd _ _ hb.maps,Option.bind_some,Option.bind_some]
   refine Qg ?_ ⟨_,rfl⟩;by_cases c:((paP b.maps p).length:Int)=1
   ·rw [if_pos c,if_pos ⟨by omega,by omega⟩];exact ⟨_,rfl⟩
   ·rw [if_neg c];exact ⟨_,rfl⟩
  ·repeat' (first | exact j4 _ _ | refine Qg ?_ ?_)
 have l1:Tt (Zr.l1 K0 b p 0):=by
  refine Xu (λk i (_:Unit)=>Zr.l1 k b p i) b.decomp (λpre t _ o=>Tt o) ?_ ?_ () K0 (ltK hb.decomp)
  ·intro _ k
   rw [Zr.l1,if_neg (by omega),Zj4 hb,Option.bind_some];exact Qg (j5 _ _) (j5 _ _)
  ·intro pre x t _ k e ih
   obtain ⟨h1,h2⟩:=mid e;have ih:=ih ();have go:∀ y,Tt (Zr.j1 (Zr.l1 k b p) (pre.length:Int) y):=λy=>by
    rw [Zr.j1,nxt hb.decomp e];exact Qg ⟨_,rfl⟩ ih
   rw [Zr.l1,if_pos h2.2,if_pos h2,h1];by_cases c:(x.is_.length:Int)=2
   ·rw [if_pos c,if_pos (show (0:Int)<=1/\1<(x.is_.length:Int) from ⟨by omega,by omega⟩),if_pos (show (0:Int)<=0/\0<(x.is_.length:Int) from ⟨by omega,by omega⟩)]
    exact Qg (go _) (Qg (go _) (go _))
   ·rw [if_neg c];exact go _
 have j6:∀ x,Tt (Zr.j6 b p x):=λx=>by rw [Zr.j6];exact Qg ⟨_,rfl⟩ l1
 have j7:∀ x,Tt (Zr.j7 b p x):=λx=>by
  rw [Zr.j7,Zdm.f,Zgw _ _ hb.bidi,Option.bind_some,Option.bind_some];exact Qg ⟨_,rfl⟩ (Qg (j6 _) (Qg (j6 _) (j6 _)))
 obtain ⟨r,hr⟩:=Zm6 b.marks p hb.marks;rw [Zr.f,Zdo.f,hr,Option.bind_some,Option.bind_some];refine Qg (j7 _) ?_;rw [Vh.f,Zgw _ _ hb.class_,Option.bind_some,Option.bind_some];refine Qg (j7 _) ?_;rw [Zfa hb,Option.bind_some];refine Qg (j7 _) ?_;rw [Zdn.f,Zgw _ _ hb.join,Option.bind_some,Option.bind_some];exact j7 _
theorem Zx6 (hb:Few b) (hD:Dok b.decomp):∀ (n:Nat) (c:Int) (k:Nat),Lc (paP b.decomp) n c<=18->n<k->Tt (U9.l1 k b c):=by
 intro n
 induction n with
 | zero=>
  intro c k hc hk;obtain ⟨k,rfl⟩:∃ j,k=j+1:=⟨k-1,by omega⟩;have e:paP b.decomp c=[]:=by
   by_cases e:paP b.decomp c=[]
   ·exact e
   ·simp [Lc,e] at hc
  rw [U9.l1,Zfa hb,Option.bind_some,e,if_neg (by simp)];exact ⟨_,rfl⟩
 | succ n ih=>
  intro c k hc hk;obtain ⟨k,rfl⟩:∃ j,k=j+1:=⟨k-1,by omega⟩;have h2:=Zuq hD c;rw [U9.l1,Zfa hb,Option.bind_some];by_cases e:paP b.decomp c=[]
  ·rw [e,if_neg (by simp)];exact ⟨_,rfl⟩
  ·have hp:=List.length_pos_iff.2 e
   rw [if_pos (by omega),Option.bind_some,w64 (by omega) (by omega),if_pos ⟨by omega,by omega⟩];refine ih _ k ?_ (by omega);rw [Lc,if_neg e] at hc;have hs:Zbo (Lc (paP b.decomp) n) (paP b.decomp c)<=18:=by unfold cap at hc;split at hc<;>omega
   have:=Zi9 (f:=Lc (paP b.decomp) n) (l:=paP b.decomp c) (λy _=>(Zck _ n y).1) (rd (paP b.decomp c) (((paP b.decomp c).length:Int)-1)) (Zh2 (by omega) (by omega));omega
theorem Zwq (hb:Few b) (h:okB b=true) (p:Int):Tt (Kr.f b p):=by
 have hD:=Zhz h;have hl:∀ c,Tt (U9.f b c):=λc=>by
  refine Zx6 hb hD (b.decomp.length+1) c K0 ?_ (ltK (by have:=hD.len;unfold Z2;omega))
  rcases Zop hD.one c with e | ⟨x,hx,rfl⟩
  ·rw [Zb9 e];omega
  ·exact Zl2 (Zrt h) x hx
 rw [Kr.f,Zfa hb,Option.bind_some];by_cases c:((paP b.decomp p).length:Int)≠2
 ·rw [if_pos c,Kr.j2,if_pos rfl];exact ⟨_,rfl⟩
 ·have b0:(0:Int)<=0/\0<((paP b.decomp p).length:Int):=⟨by omega,by omega⟩
  have b1:(0:Int)<=1/\1<((paP b.decomp p).length:Int):=⟨by omega,by omega⟩;have J:∀ x,Tt (Kr.j2 b (paP b.decomp p) x):=λx=>by
   rw [Kr.j2,if_pos b1,if_pos b0];refine Qg ⟨_,rfl⟩ (J6 (Zcv hb _) λ_=>Qg ⟨_,rfl⟩ (J6 (Zcv hb _) λ_=>J6 (hl _) λ_=>J6 (Zcv hb _) λ_=>⟨_,rfl⟩))
  rw [if_neg c,if_pos b0,if_pos b1];refine J6 ⟨_,Zed hb _⟩ λ_=>Qg (J _) (J6 ⟨_,Zed hb _⟩ λ_=>Qg (J _) (J6 (Zod hb _) λ_=>Qg (J _) (J6 (Zcv hb _) λ_=>Qg (J _) (J6 (Zcv hb _) λ_=>Qg (J _) (J6 ⟨_,Zfa hb _⟩ λ_=>J _)))))
theorem Zv9 (hb:Few b) (u v:Int):Tt (Qy.f b u v):=by
 refine Xu (λk i (_:Unit)=>Qy.l1 k b u v i) b.decomp (λpre t _ o=>Tt o) ?_ ?_ () K0 (ltK hb.decomp)
 ·intro _ k
  rw [Qy.l1,if_neg (by omega)];exact ⟨_,rfl⟩
 ·intro pre x t _ k e ih
  obtain ⟨h1,h2⟩:=mid e;have ih:=ih ();have go:∀ y,Tt (Qy.j1 (Qy.l1 k b u v) b (pre.length:Int) y):=λy=>by
   rw [Qy.j1,nxt hb.decomp e];exact Qg ⟨_,rfl⟩ ih
  rw [Qy.l1,if_pos h2.2,if_pos h2,h1];by_cases c:(x.is_.length:Int)=2
  ·rw [if_pos c,if_pos (show (0:Int)<=0/\0<(x.is_.length:Int) from ⟨by omega,by omega⟩),if_pos (show (0:Int)<=1/\1<(x.is_.length:Int) from ⟨by omega,by omega⟩)]
   exact Qg (Qg (J6 (Zod hb _) λ_=>Qg (J6 (Zcv hb _) λ_=>Qg (J6 (Zcv hb _) λ_=>go _) (go _)) (go _)) (go _)) (go _)
  ·rw [if_neg c];exact go _
theorem Zy8 (hb:Few b) (u v:Int):Tt (Kx.f b u v):=by
 refine Xu (λk i (_:Unit)=>Kx.l1 k b u v i) b.status (λpre t _ o=>Tt o) ?_ ?_ () K0 (ltK hb.status)
 ·intro _ k
  rw [Kx.l1,if_neg (by omega)];exact ⟨_,rfl⟩
 ·intro pre x t _ k e ih
  obtain ⟨h1,h2⟩:=mid e;have ih:=ih ();have go:∀ y,Tt (Kx.j1 (Kx.l1 k b u v) (pre.length:Int) y):=λy=>by
   rw [Kx.j1,nxt hb.status e];exact Qg ⟨_,rfl⟩ ih
  rw [Kx.l1,if_pos h2.2,if_pos h2,h1];exact Qg (Qg (go _) (go _)) (go _)
theorem Zmf (h:okB b=true):Vn (·.lo) (·.hi) (λx:Val=>decide (1<=x.n)&&decide (x.n<=3)) (-1) b.status=true:=by
 unfold okB at h;simp only [Bool.and_eq_true] at h;have:=h.2.1;simp only [Zp2,Zag,Bool.and_eq_true,decide_eq_true_eq] at this;exact this.2
theorem Zyk (h:okB b=true):Vn (·.lo) (·.hi) (Zhe b.status) (-1) b.maps=true:=by
 unfold okB at h;simp only [Bool.and_eq_true] at h;have:=h.2.2.1;simp only [Zag,Bool.and_eq_true,decide_eq_true_eq] at this;exact this.2
theorem Zvy (hb:Few b) (h:okB b=true) (u v:Int) (huv:v-u<=1000000) (hv:v<=1000000):Tt (Y3.f b u v):=by
 have hst:=Zmf h;have inner:∀ (c:Int) (ai:Int->Option Int),(∀ a,c<a->Tt (ai a))->Tt (Y3.l1 ai K0 b c (-1) 0):=λc ai hai=>by
  refine Xu (λk i (s:Int)=>Y3.l1 ai k b c s i) b.status (λpre t s o=>(s<0\/c<s)->Tt o) ?_ ?_ (-1) K0 (ltK hb.status) (.inl (by omega))
  ·intro s k hs
   simp only [Y3.l1];rw [if_neg (by omega)];by_cases d:s<0
   ·rw [if_pos d];exact ⟨_,rfl⟩
   ·rw [if_neg d];exact hai _ (by omega)
  ·intro pre x t s k e ih hs
   obtain ⟨h1,h2⟩:=mid e;have hx:=Zbm hst x (by rw [e];simp);have stay:Tt (Y3.j2 (Y3.l1 ai k b c) b s (pre.length:Int) false):=by rw [Y3.j2,if_neg (by decide),Y3.j1,nxt hb.status e];exact ih s hs
   simp only [Y3.l1];rw [if_pos h2.2,if_pos h2,h1];by_cases c1:x.lo<=c
   ·rw [if_pos c1]
    by_cases c2:c<=x.hi
    ·rw [if_pos c2]
     by_cases c3:x.n≠2
     ·rw [decide_eq_true c3,Y3.j2,if_pos rfl,h1,Y3.j1,nxt hb.status e,w32 (by omega) (by omega)]
      exact ih _ (.inr (by omega))
     ·rw [decide_eq_false c3];exact stay
    ·rw [if_neg c2];exact stay
   ·rw [if_neg c1];exact stay
 have outer:∀ (n:Nat) (c:Int) (k:Nat),v-c<n->n<k->Tt (Y3.l2 k b v c):=by
  intro n
  induction n with
  | zero=>
   intro c k hc hk;obtain ⟨k,rfl⟩:∃ j,k=j+1:=⟨k-1,by omega⟩;rw [Y3.l2,if_neg (by omega)];exact ⟨_,rfl⟩
  | succ n ih=>
   intro c k hc hk;obtain ⟨k,rfl⟩:∃ j,k=j+1:=⟨k-1,by omega⟩;rw [Y3.l2];refine Qg (inner c _ λa ha=>ih a k (by omega) (by omega)) ⟨_,rfl⟩
 exact outer 1000001 u K0 (by omega) (by unfold K0;omega)
def Snd (b:Bk) (o:Option (Int×Int×Int)):Prop:=∃ r,o=some r/\(r.2.2=0->∀ x∈b.maps,∀ q∈x.is_,Zfh b q=1\/Zfh b q=3)
theorem Zwm (hb:Few b):∃ r,Zj.f b=some r/\(r.2.2=0->okB b=true/\∀ x∈b.maps,∀ q∈x.is_,Zfh b q=1\/Zfh b q=3):=by
 obtain ⟨p,q,hc⟩:=Zfr b hb;rw [Zj.f,hc,Option.bind_some]
 cases h:okB b with
 | false=>exact ⟨(0,0,100),by rw [if_pos (by simp)],λe=>by simp at e⟩
 | true=>
 rw [if_neg (by simp)];have hX:∀ x∈([(⟨4352,4370⟩:Spn),(⟨4449,4469⟩:Spn),(⟨4520,4546⟩:Spn),(⟨44032,55203⟩:Spn)]),x.hi-x.lo<=1000000/\x.hi<=1000000:=by
  intro x hx;simp only [List.mem_cons,List.not_mem_nil,or_false] at hx
  rcases hx with rfl | rfl | rfl | rfl<;>simp
 have h4:([(⟨4352,4370⟩:Spn),(⟨4449,4469⟩:Spn),(⟨4520,4546⟩:Spn),(⟨44032,55203⟩:Spn)]).length<=Z2:=by unfold Z2;simp
 have t2:∀ y,Tt (Zj.l2 K0 b y 0):=λy=>by
  refine Xu (λk i (_:Unit)=>Zj.l2 k b y i) ([(⟨4352,4370⟩:Spn),(⟨4449,4469⟩:Spn),(⟨4520,4546⟩:Spn),(⟨44032,55203⟩:Spn)]) (λpre t _ o=>Tt o) ?_ ?_ () K0 (ltK h4)
  ·intro _ k
   rw [Zj.l2,if_neg (by omega)];exact ⟨_,rfl⟩
  ·intro pre x t _ k e ih
   obtain ⟨h1,h2⟩:=mid e;have ih:=ih ();have hx:=hX x (by rw [e];simp);have go:∀ a z,Tt (Zj.j6 (Zj.l2 k b y) (pre.length:Int) a z):=λa z=>by
    rw [Zj.j6,nxt h4 e];exact Qg ⟨_,rfl⟩ ih
   rw [Zj.l2,if_pos h2.2,if_pos h2,h1];exact J6 (Zvy hb h _ _ hx.1 hx.2) λ_=>Qg (go _ _) (go _ _)
 have t3:Tt (Zj.l3 K0 b false 0):=by
  refine Xu (λk i (s:Bool)=>Zj.l3 k b s i) ([(⟨4352,4370⟩:Spn),(⟨4449,4469⟩:Spn),(⟨4520,4546⟩:Spn),(⟨44032,55203⟩:Spn)]) (λpre t _ o=>Tt o) ?_ ?_ false K0 (ltK h4)
  ·intro s k
   simp only [Zj.l3];rw [if_neg (by omega)];exact t2 s
  ·intro pre x t s k e ih
   obtain ⟨h1,h2⟩:=mid e;have go:∀ z,Tt (Zj.j5 (Zj.l3 k b) (pre.length:Int) z):=λz=>by
    rw [Zj.j5,nxt h4 e];exact ih z
   simp only [Zj.l3];rw [if_pos h2.2,if_pos h2,h1];exact Qg (go _) (J6 (Zy8 hb _ _) λ_=>go _)
 have t4:Tt (Zj.l4 K0 b 0):=by
  refine Xu (λk i (_:Unit)=>Zj.l4 k b i) b.decomp (λpre t _ o=>Tt o) ?_ ?_ () K0 (ltK hb.decomp)
  ·intro _ k
   rw [Zj.l4,if_neg (by omega)];exact t3
  ·intro pre x t _ k e ih
   obtain ⟨h1,h2⟩:=mid e;have ih:=ih ();have go:Tt (Zj.j2 (Zj.l4 k b) (pre.length:Int)):=by rw [Zj.j2,nxt hb.decomp e];exact ih
   have go3:∀ z,Tt (Zj.j3 (Zj.l4 k b) b (pre.length:Int) z):=λz=>by rw [Zj.j3];exact Qg ⟨_,rfl⟩ go
   rw [Zj.l4,if_pos h2.2,if_pos h2,h1];by_cases c:(x.is_.length:Int)≠2
   ·rw [if_pos c,Zj.j4,if_pos rfl];exact go
   ·have b0:(0:Int)<=0/\0<(x.is_.length:Int):=⟨by omega,by omega⟩
    have b1:(0:Int)<=1/\1<(x.is_.length:Int):=⟨by omega,by omega⟩;have go4:∀ z,Tt (Zj.j4 (Zj.l4 k b) b (pre.length:Int) z):=λz=>by
     rw [Zj.j4,h1,if_pos b0,if_pos b1];exact Qg go (J6 (Zv9 hb _ _) λ_=>Qg (J6 ⟨_,Zed hb _⟩ λ_=>go3 _) (go3 _))
    rw [if_neg c,if_pos b0,if_pos b1];exact J6 ⟨_,Zed hb _⟩ λ_=>Qg (go4 _) (J6 ⟨_,Zed hb _⟩ λ_=>go4 _)
 have t5:Tt (Zj.l5 K0 b 0):=by
  refine Xu (λk i (_:Unit)=>Zj.l5 k b i) b.decomp (λpre t _ o=>Tt o) ?_ ?_ () K0 (ltK hb.decomp)
  ·intro _ k
   rw [Zj.l5,if_neg (by omega)];exact t4
  ·intro pre x t _ k e ih
   obtain ⟨h1,h2⟩:=mid e;have ih:=ih ();have go:∀ z,Tt (Zj.j1 (Zj.l5 k b) b (pre.length:Int) z):=λz=>by rw [Zj.j1,nxt hb.decomp e];exact Qg ⟨_,rfl⟩ ih
   rw [Zj.l5,if_pos h2.2,if_pos h2,h1];exact J6 ⟨_,Zed hb _⟩ λ_=>Qg (J6 (Zwq hb h _) λ_=>go _) (go _)
 have t6:Snd b (Zj.l6 K0 b 0):=by
  refine Xu (λk i (_:Unit)=>Zj.l6 k b i) b.maps (λpre t _ o=>(∀ x∈pre,∀ q∈x.is_,Zfh b q=1\/Zfh b q=3)->Snd b o) ?_ ?_ () K0 (ltK hb.maps) (λx hx=>by cases hx)
  ·intro _ k hk
   obtain ⟨r,hr⟩:=t5;rw [Zj.l6,if_neg (by omega)];exact ⟨r,hr,λ_=>hk⟩
  ·intro pre x t _ k e ih hk
   obtain ⟨h1,h2⟩:=mid e;have ih:=ih ();rw [Zj.l6,if_pos h2.2,if_pos h2];have hm:x.is_.length<=Z2:=hb.mapsI x (by rw [e];simp);refine Xu (λk' i (_:Unit)=>Zj.l1 (Zj.l6 k b) k' b (pre.length:Int) i) x.is_ (λpr t' _ o=>(∀ q∈pr,Zfh b q=1\/Zfh b q=3)->Snd b o) ?_ ?_ () K0 (ltK hm) (λq hq=>by cases hq)
   ·intro _ k' hq
    rw [Zj.l1,h1,if_neg (by omega),nxt hb.maps e];refine ih λy hy=>?_
    rcases List.mem_append.1 hy with hy | hy
    ·exact hk y hy
    ·rw [List.mem_singleton.1 hy];exact hq
   ·intro pr c t' _ k' e' ih' hq
    obtain ⟨g1,g2⟩:=mid e';have ih':=ih' ();rw [Zj.l1,h1,if_pos g2.2,if_pos g2,g1,Zed hb,Option.bind_some];by_cases d:Zfh b c=1\/Zfh b c=3
    ·rw [decide_eq_true d,if_neg (by decide),nxt hm e']
     refine ih' λy hy=>?_
     rcases List.mem_append.1 hy with hy | hy
     ·exact hq y hy
     ·rw [List.mem_singleton.1 hy];exact d
    ·rw [decide_eq_false d,if_pos (by decide)]
     exact ⟨_,rfl,λe=>by simp at e⟩
 have t7:Snd b (Zj.l7 K0 b 0):=by
  refine Zk6 (λk i (_:Unit)=>Zj.l7 k b i) 128 (λi _ o=>0<=i->Snd b o) ?_ ?_ 128 0 () K0 (by omega) (by unfold K0;omega) (Int.le_refl _)
  ·intro _ k _
   rw [Zj.l7,if_neg (by omega)];exact t6
  ·intro i _ k hi ih h0
   obtain ⟨r,hr⟩:=Zvi hb i;rw [Zj.l7,if_pos hi,hr,Option.bind_some,w32 (by omega) (by omega)];by_cases d:(!r)=true
   ·rw [if_pos d];exact ⟨_,rfl,λe=>by simp at e⟩
   ·rw [if_neg d];exact ih () (by omega)
 obtain ⟨r,h1,h2⟩:=t7;exact ⟨r,h1,λe=>⟨rfl,h2 e⟩⟩
theorem Zlv (hb:Few b) (l:List Int) (hl:l.length<=1048577):Tt (H1.f b l):=by
 have hn:l.length<=Z2:=by unfold Z2;omega
 have:=Xu (λk i (s:List Int)=>Kp.l1 k b l 0 s i) l (λpre t s o=>s.length<=pre.length->Tt o)
  (λs k _=>by simp only [Kp.l1];rw [if_neg (by omega)];exact ⟨_,rfl⟩)
  (λpre x t s k e ih hs=>by
   obtain ⟨h1,h2⟩:=mid e
   have hlen:l.length=pre.length+(t.length+1):=by rw [e];simp
   simp only [Kp.l1]
   rw [if_pos h2.2,if_pos h2,h1,Zj4 hb,Option.bind_some]
   simp only [Kp.j1,nxt hn e]
   rw [if_pos (show s.length+([(pre.length:Int)]).length<=most by unfold most;simp only [List.length_cons,List.length_nil];omega)]
   refine Qg (ih _ ?_) (ih _ ?_)
   ·simp;omega
   ·simp;omega) [] K0 (ltK hn) (Nat.le_refl _)
 obtain ⟨r,hr⟩:=this;rw [H1.f,Kp.f,hr];exact ⟨_,rfl⟩
end
section
open Go.RowKit

theorem Zrc:∀ a b c d e f:Bool,(Zk0 a b c d e f).length<=6:=by decide
theorem Zoy {α β:Type} (f:α->β) (g:β->Nat):∀ l:List α,Zde g (l.map f)=Zde (λx=>g (f x)) l
 | []=>rfl
 | x::l=>by rw [List.map_cons,Zde,Zde,Zoy f g l]
theorem Zuv (f:List Int->ByteArray):∀ l:List (List Int),(∀ x∈l,(f x).size<=12*x.length+5)->Zde (·.size) (l.map f)<=12*Zde (·.length) l
 | [],_=>Nat.le_refl _
 | x::l,h=>by
  have h1:=h x (by simp)
  have h2:=Zuv f l λy hy=>h y (by simp [hy])
  rw [List.map_cons,Zde,Zde];omega
variable {t:Option Tbs} {key:Int->Int} {pa:Int->List Int} {n:Nat} {pr:Int->Int->Int×Bool} {mk kp:Int->Bool} {jn:Int->Int} {sta:Int->Int} {mp:Int->List Int} {bd:Int->Int}
theorem Zx0 (h:Tq t key pa n pr mk kp jn) (hs:Zig t sta kp) (hm:Zif t mp) (hd:Zj9 t bd) (l:List Int) (hl:l.length<=18874386):∃ (txt:ByteArray) (T:S10->List Wh),(∀ r,Qs.f t l r=some (txt,T r))/\(∀ a b,Zzr a b->(T a).Sublist (T b))/\∀ r,(T r).length<=1099511627776:=by
 obtain ⟨ls,e1,e2,e3,e4⟩:=Zpx h hs hm l hl;have hF:∀ lb∈ls,Qt.f t lb.says=some ((Qt.f t lb.says).getD [])/\((Qt.f t lb.says).getD []).length<=8:=λlb hx=>by
  obtain ⟨jo,e5,_⟩:=Zoe h lb.says (by have:=e4 lb hx;unfold Z2;omega);rw [e5,Option.getD_some];exact ⟨rfl,Nat.le_trans (Zrc _ _ _ _ _ _) (by omega)⟩
 have hy:∀ lb∈ls,X5.f lb.says=some ((X5.f lb.says).getD (false,false)):=λlb hx=>Zfo _ (Zs0 _ (by have:=e4 lb hx;unfold Z2;omega));have hn:∀ lb∈ls,Yz.f lb.says=some ((Yz.f lb.says).getD false):=λlb hx=>Zfo _ (Zv3 _ (by have:=e4 lb hx;unfold Z2;omega));have hw:∀ w∈ls.map (·.says),w.length<=18400000000:=λw hx=>by
  obtain ⟨lb,h1,rfl⟩:=List.mem_map.1 hx;exact e4 lb h1
 have hb:∀ w∈ls.map (·.says),Uw.f t w=some ((Uw.f t w).getD 0):=λw hx=>Zfo _ (Zik hd w (by have:=hw w hx;unfold Z2;omega));have he:∀ w∈ls.map (·.says),V7.f w=some ((V7.f w).getD (⟨#[]⟩,0,0)):=λw hx=>by
  obtain ⟨v,h1,_⟩:=Zn5 w (hw w hx);rw [h1];rfl
 have hz:∀ w∈ls.map (·.says),((V7.f w).getD (⟨#[]⟩,0,0)).1.size<=12*w.length+5:=λw hx=>by
  obtain ⟨v,h1,h2⟩:=Zn5 w (hw w hx);rw [h1];exact h2
 have hlen:(ls.map (·.says)).length=ls.length:=List.length_map _;obtain ⟨bn,hbn⟩:=Zs4 hd (ls.map (·.says)) (by rw [hlen];unfold Z2;omega) (λw hx=>by have:=hw w hx;unfold Z2;omega);have hj:(Zdh ((ls.map (·.says)).map λw=>((V7.f w).getD (⟨#[]⟩,0,0)).1) (⟨#[46]⟩:ByteArray)).size<=281474976710656:=by have h1:=Zvx ((ls.map (·.says)).map λw=>((V7.f w).getD (⟨#[]⟩,0,0)).1);have h2:=Zuv (λw=>((V7.f w).getD (⟨#[]⟩,0,0)).1) (ls.map (·.says)) hz;rw [Zoy (λx:S11=>x.says) (λx:List Int=>x.length) ls] at h2;omega
 obtain ⟨L,hL,hl2⟩:=Zni ((ls.map (·.says)).map λw=>((V7.f w).getD (⟨#[]⟩,0,0)).1) (by rw [List.length_map,hlen];omega) hj;rw [List.length_map] at hl2;have hG:∀ (r:S10),∀ x∈ls,Z3.f t x r=some (Zng ((Qt.f t x.says).getD []) (((X5.f x.says).getD (false,false)).1||((X5.f x.says).getD (false,false)).2) ((Yz.f x.says).getD false) x r)/\(Zng ((Qt.f t x.says).getD []) (((X5.f x.says).getD (false,false)).1||((X5.f x.says).getD (false,false)).2) ((Yz.f x.says).getD false) x r).length<=10:=λr x hx=>
  ⟨Zso x r (hF x hx).1 (hF x hx).2 (hy x hx) (hn x hx),Zxs _ _ _ _ _ (hF x hx).2⟩
 refine ⟨Zdh ((ls.map (·.says)).map λw=>((V7.f w).getD (⟨#[]⟩,0,0)).1) (⟨#[46]⟩:ByteArray),λr=>(Zmp r bn.bidi (λx=>Zng ((Qt.f t x.says).getD []) (((X5.f x.says).getD (false,false)).1||((X5.f x.says).getD (false,false)).2) ((Yz.f x.says).getD false) x r) (λw=>(Uw.f t w).getD 0) ls++trL (Znf λw=>(V7.f w).getD (⟨#[]⟩,0,0)) 0 (ls.map (·.says)))++(if r.lengths then L else []),λr=>?_,λa b hab=>?_,λr=>?_⟩
 ·have hp:=Zs9 l r e1 (by omega) _ (hG r) _ hb hbn
  have hpl:=Zos r bn.bidi (λw=>(Uw.f t w).getD 0) ls (λx hx=>(hG r x hx).2);exact Zxb l r hp (by rw [hlen];omega) (by rw [hlen];exact hpl) _ he hj hL hl2
 ·exact List.Sublist.append (List.Sublist.append (Zwc hab _ _ ls λx _=>Zxt _ _ _ x hab) (List.Sublist.refl _)) (Zk7 hab.2.2.2.2 L)
 ·have hpl:=Zos r bn.bidi (λw=>(Uw.f t w).getD 0) ls (λx hx=>(hG r x hx).2)
  have h2:=Zjd (G:=Znf λw=>(V7.f w).getD (⟨#[]⟩,0,0)) 1 (ls.map (·.says)) 0 λx _=>Zq9 _ x;rw [hlen] at h2 hl2;rw [List.length_append,List.length_append];split
  ·omega
  ·simp only [List.length_nil];omega
theorem Zz1:Zc3.f=some true:=rfl
end
section
open Go.RowKit

theorem Z0q {D:List Chs} {c q:Int} (h:q∈paP D c):∃ x∈D,q∈x.is_:=by
 induction D with
 | nil=>cases h
 | cons x D ih=>
  rw [paP] at h;split at h
  ·exact ⟨x,by simp,h⟩
  ·obtain ⟨y,h1,h2⟩:=ih h
   exact ⟨y,by simp [h1],h2⟩
theorem Zzl {l:List Val} {p:Int} (h:Hg l p≠0):∃ x∈l,x.lo<=p/\p<=x.hi:=by
 induction l with
 | nil=>exact absurd rfl h
 | cons x l ih=>
  rw [Hg] at h;by_cases c:inB p x=true
  ·simp only [inB,Bool.and_eq_true,decide_eq_true_eq] at c
   exact ⟨x,by simp,c⟩
  ·rw [if_neg c] at h
   obtain ⟨y,h1,h2⟩:=ih h;exact ⟨y,by simp [h1],h2⟩
theorem Z0m {D:List Chs} {p:Int}:∀ {i:Int},Hg (Zdl i D) p≠0->∃ x∈D,x.lo<=p/\p<=x.hi:=by
 induction D with
 | nil=>intro i h;exact absurd rfl h
 | cons x D ih=>
  intro i h;rw [Zdl,Hg] at h;by_cases c:inB p ⟨x.lo,x.hi,i+1⟩=true
  ·simp only [inB,Bool.and_eq_true,decide_eq_true_eq] at c
   exact ⟨x,by simp,c⟩
  ·rw [if_neg c] at h
   obtain ⟨y,h1,h2⟩:=ih h;exact ⟨y,by simp [h1],h2⟩
theorem Zq4 {b:Bk} {t:Tbs} {sta:Int->Int} {kp:Int->Bool} {mp:Int->List Int} (hb:Few b) (h:okB b=true) (ht:Zlh b t) (hs:Zig (some t) sta kp) (hm:Zif (some t) mp)
  (hk:∀ x∈b.maps,∀ q∈x.is_,Zfh b q=1\/Zfh b q=3) (p q:Int) (hq:q∈mp p):sta q≠2/\sta q≠4:=by
 obtain ⟨l,e1,e2⟩:=Zp9 ht.maps hb.mapsI hb.maps p;have hmp:=(hm p).1;simp only [Hv.f,Option.isNone_some,Bool.false_eq_true,if_false,Option.isSome_some,if_true,Option.getD_some,ht.book,e1,Option.bind_some] at hmp;have hl:l=mp p:=Option.some.inj hmp;have hin:q∈paP b.maps p:=by
  rw [<- hl] at hq
  rcases e2 with rfl | rfl
  ·exact hq
  ·cases hq
 obtain ⟨x,hx,hqx⟩:=Z0q hin;have hv:Hg b.status q=1\/Hg b.status q=3:=by
  have:=hk x hx q hqx;unfold Zfh at this;split at this
  ·exact this
  ·split at this<;>omega
 obtain ⟨y,hy,hy2⟩:=Zzl (l:=b.status) (p:=q) (by omega);have hyr:=Zbm (Zmf h) y hy;have hmz:Hg (Zdl 0 b.maps) q=0:=by
  by_cases c:Hg (Zdl 0 b.maps) q=0
  ·exact c
  ·obtain ⟨z,hz,hz2⟩:=Z0m c
   have:=(Zbm (Zyk h) z hz).2.2.2;simp only [Zhe,Bool.and_eq_true,Bool.not_eq_true',List.any_eq_false] at this;exact absurd (show Zcm z y=true by simp only [Zcm,Bool.and_eq_true,decide_eq_true_eq];omega) (this.2 y hy)
 have e3:Zv.f t.maps q=some 0:=by
  by_cases c:Zbd (Zdl 0 b.maps)
  ·rw [Zgt ht.maps c q (by omega) (by omega),hmz]
  ·rw [ht.maps.1 c,Zv.f];simp [Zv.j1]
 have hro:Zbd b.status:=by unfold okB at h;simp only [Bool.and_eq_true] at h;exact Zrs h.2.1 (by omega) (by omega)
 have e4:=Zgt ht.status hro q (by omega) (by omega);have e5:=hs.1 q;simp only [Kw.f,Option.isNone_some,Bool.false_eq_true,if_false,Option.isSome_some,if_true,Option.getD_some,e3,e4,Option.bind_some] at e5;rw [if_neg (by omega)] at e5;have:=Option.some.inj e5;omega
theorem Zv5 {sta:Int->Int} {mp:Int->List Int} (h:∀ p q,q∈mp p->sta q≠2/\sta q≠4) (l:List Int):Zdy sta mp (Zdy sta mp l)=Zdy sta mp l:=by
 have stay:∀ m:List Int,(∀ q∈m,sta q≠2/\sta q≠4)->Zdy sta mp m=m:=by
  intro m hm
  induction m with
  | nil=>rfl
  | cons x m ih=>
   have h1:=hm x (by simp);have e:Zdy sta mp (x::m)=Znj sta mp x++Zdy sta mp m:=rfl;rw [e,Znj,if_neg h1.1,if_neg h1.2,ih λy hy=>hm y (by simp [hy])];rfl
 refine stay _ λq hq=>?_;obtain ⟨c,_,hc⟩:=List.mem_flatMap.1 hq;unfold Znj at hc;split at hc
 ·cases hc
 ·rename_i h2
  split at hc
  ·exact h c q hc
  ·rename_i h4
   rw [List.mem_singleton.1 hc];exact ⟨h2,h4⟩
theorem Zkf {t:Option Tbs} {l m:List Int} (h:U2.f t l=U2.f t m):V2.f t l=V2.f t m:=by
 have hl:Vg.f t l=Vg.f t m:=by rw [Vg.f,Vg.f,h]
 simp only [V2.f,Zcz.f,Qs.f,Z9.f,hl]
variable {t:Option Tbs} {key:Int->Int} {pa:Int->List Int} {n:Nat} {pr:Int->Int->Int×Bool} {mk kp:Int->Bool} {jn:Int->Int} {sta:Int->Int} {mp:Int->List Int} {bd:Int->Int}
theorem Zph (h:Tq t key pa n pr mk kp jn) (hs:Zig t sta kp) (hm:Zif t mp) (hd:Zj9 t bd) (l:List Int) (hl:l.length<=18874386):Tt (V2.f t l):=by
 obtain ⟨txt,T,e1,_,_⟩:=Zx0 h hs hm hd l hl;rw [V2.f];refine J6 ⟨_,rfl⟩ λr=>J6 ?_ λ_=>Qg ⟨_,rfl⟩ ⟨_,rfl⟩;rw [Zcz.f,e1,Option.bind_some];exact Qg ⟨_,rfl⟩ ⟨_,rfl⟩
theorem Znh (b:Bk) (hb:Few b) (l m:List Int) (hl:l.length<=1048577) (hl2:m.length<=1048577):Xx.f b l m=some true:=by
 obtain ⟨t,c,key,pa,n,pr,mk,kp,jn,sta,bd,mp,h1,h2,h3,h4,h5⟩:=Zzg b hb;have hc:Few c/\(okB c=true->(∀ x∈c.maps,∀ q∈x.is_,Zfh c q=1\/Zfh c q=3)->∀ p q,q∈mp p->sta q≠2/\sta q≠4):=by
  cases h:okB b with
  | true=>
   obtain ⟨t',e1,e2⟩:=Zjb b hb h;rw [e1] at h1;cases h1;exact ⟨hb,λ_ hk p q hq=>Zq4 hb h e2 h3 h5 hk p q hq⟩
  | false=>
   rw [Zkp b hb h] at h1;cases h1;have z:0<=Z2:=Nat.zero_le _;refine ⟨⟨z,z,z,z,z,z,z,z,z,z,z,λx hx=>(nomatch hx),λx hx=>(nomatch hx),λx hx=>(nomatch hx)⟩,λ_ _ p q _=>?_⟩;have e:some (0:Int)=some (sta q):=h3.1 q;have:=Option.some.inj e;omega
 have hml:=Zi1 (sta:=sta) h5 l;obtain ⟨d1,e1⟩:=Zph h2 h3 h5 h4 l (by omega);obtain ⟨d2,e2⟩:=Zph h2 h3 h5 h4 m (by omega);obtain ⟨d3,e3⟩:=Zph h2 h3 h5 h4 (Zdy sta mp l) (by omega);obtain ⟨r,e4,e5⟩:=Zwm hc.1;obtain ⟨dz,e6⟩:=Zlv hc.1 l hl;have f1:=Zk4 h2 h3 h5 l (by omega);have f2:=Zk4 h2 h3 h5 m (by omega);have f3:=Zk4 h2 h3 h5 (Zdy sta mp l) (by omega);have hn:=Zol h2 (Zdy sta mp l);have j3:Xx.j3 l (t,c,true) d1 d3 false=some true:=by
  rw [Xx.j3,if_neg (by decide),e4,Option.bind_some];by_cases z:r.2.2≠0
  ·rw [if_pos z];rfl
  ·rw [if_neg z,e6,Option.bind_some]
   obtain ⟨o1,o2⟩:=e5 (by omega);have ht:=Zv5 (hc.2 o1 o2) l;have hd:=Zkf (t:=t) (l:=l) (m:=Zdy sta mp l) (by rw [f1,f3,ht]);rw [e1,e3] at hd;cases hd;simp only [Xx.j2,Xx.j1,if_true,beq_self_eq_true];split<;>rfl
 rw [Xx.f,h1,Option.bind_some,e1,Option.bind_some,e2,Option.bind_some,Zyc h3 h5 l (by omega),Option.bind_some,e3,Option.bind_some,Zz1,Option.bind_some,if_neg (by decide),if_neg (by simp),
  Zci.f,f1,Option.bind_some,f2,Option.bind_some,Zrb _ _ (by unfold Z2;omega),Option.bind_some,Option.bind_some]
 by_cases s:Zdi key pa n pr (Zdy sta mp l)=Zdi key pa n pr (Zdy sta mp m)
 ·have hd:=Zkf (t:=t) (l:=l) (m:=m) (by rw [f1,f2,s])
  rw [e1,e2] at hd;cases hd;rw [decide_eq_true s,if_pos rfl,if_neg (by simp),bne_self_eq_false];exact j3
 ·rw [decide_eq_false s,if_neg (by decide)]
  exact j3
end
section
open Go.RowKit

section
variable {H:Type} {enc:TypeId×Value->H} {P:Program} {W:World}
def Hu {α:Type} (enc:TypeId×Value->H) (P:Program) (W:World) (t:TypeId) (r:Rep α) (sz:α->Nat) (wf:α->Prop):Prop:=
 ∀ fuel cs d ps,DataW.trod enc P W 0 (λ_=>true) true fuel t cs=some (d,ps)->∃ x,r.R (seen W) cs x/\sz x<=Rows.uptoBulk d/\wf x
theorem Z2i {k:IntKind} {n:Int} (h:(Lit.int k n).wf=true):InK k n:=by
 simp only [Lit.wf,Bool.and_eq_true,decide_eq_true_eq] at h;cases k<;>simp only [InK]<;>simp [IntKind.min,IntKind.max,IntKind.signed,IntKind.bits] at h<;>omega
theorem Hu.int {t:TypeId} {k:IntKind} (hu:P.underlying t=some (.int k)):Hu enc P W t (Rep.int k) (λ_=>1) (InK k):=by
 intro fuel cs d ps h;obtain ⟨n,rfl,he,hw⟩:=DataW.trod_int hu h;simp only [Prod.mk.injEq] at he;obtain ⟨rfl,rfl⟩:=he;exact ⟨n,rfl,by simp [Rows.uptoBulk],Z2i hw⟩
theorem Hu.bool {t:TypeId} (hu:P.underlying t=some .bool):Hu enc P W t Rep.bool (λ_=>1) (λ_=>True):=by
 intro fuel cs d ps h;obtain ⟨b,rfl,he⟩:=DataW.trod_bool hu h;simp only [Prod.mk.injEq] at he;obtain ⟨rfl,rfl⟩:=he;exact ⟨b,rfl,by simp [Rows.uptoBulk],trivial⟩
theorem Hu.str {t:TypeId} (hu:P.underlying t=some .string):Hu enc P W t Rep.str (λs=>s.size+1) (λ_=>True):=by
 intro fuel cs d ps h;obtain ⟨s,rfl,he,hw⟩:=DataW.trod_string hu h;simp only [Prod.mk.injEq] at he;obtain ⟨rfl,rfl⟩:=he;exact ⟨s,rfl,by simp [Rows.uptoBulk],trivial⟩
theorem Zi2 {α β:Type} {f:α->Option β}:∀ {l:List α} {ys:List β},l.mapM f=some ys->ys.length=l.length/\∀ (i:Nat) (x:α),l[i]?=some x->f x=ys[i]?
 | [],ys,h=>by simp at h;subst h;exact ⟨rfl,λi x hx=>by simp at hx⟩
 | a::l,ys,h=>by
  rw [List.mapM_cons] at h
  simp only [bind,Option.bind_eq_some_iff,pure,Option.some.injEq] at h
  obtain ⟨y,hy,ys',hys,rfl⟩:=h
  obtain ⟨h1,h2⟩:=Zi2 hys
  refine ⟨by simp [h1],λi x hx=>?_⟩
  cases i with
  | zero=>simp at hx;subst hx;simpa using hy
  | succ i=>simpa using h2 i x (by simpa using hx)
theorem Zq2 {w:World} {a:Addr} {n:Nat} {cs:List Value} (h:w.cells? 0 a n=some cs):cs.length=n/\∀ j u,cs[j]?=some u->w.cell? (a.add j)=some u:=by
 unfold World.cells? at h;simp only [Nat.zero_le,if_true] at h;obtain ⟨h1,h2⟩:=Zi2 h;refine ⟨by simpa using h1,λj u hu=>?_⟩;have hj:j<n:=by have:=(List.getElem?_eq_some_iff.1 hu).1;simp at h1;omega
 rw [h2 j j (by simp [hj]),hu]
theorem Zox {w:World} {a:Addr} {v:Value} (h:w.cell? a=some v):a.spot=none:=by
 unfold World.cell? at h;split at h
 ·split at h
  ·cases h
  ·rename_i hs
   cases hsp:a.spot with
   | none=>rfl
   | some x=>rw [hsp] at hs;simp at hs
 ·cases h
def szL {α:Type} (sz:α->Nat):List α->Nat
 | []=>1
 | x::t=>sz x+szL sz t
theorem Zbx {α:Type} {sz:α->Nat} (h1:∀ x,1<=sz x):∀ xs:List α,xs.length<szL sz xs
 | []=>by simp [szL]
 | x::t=>by have:=Zbx h1 t;have:=h1 x;simp [szL];omega
theorem Zux {α:Type} {sz:α->Nat} {x:α}:∀ {xs:List α},x∈xs->sz x<szL sz xs
 | y::t,h=>by
  rcases List.mem_cons.1 h with rfl | h
  ·have:∀ l:List α,1<=szL sz l:=λl=>by induction l with
    | nil=>simp [szL]
    | cons a l ih=>simp [szL];omega
   have:=this t
   simp [szL];omega
  ·have:=Zux (sz:=sz) h
   simp [szL];omega
theorem Hu.slice {α:Type} {t e sz' bytes:Nat} {r:Rep α} {sz:α->Nat} {wf:α->Prop} (he:Uo P t e sz' bytes) (hr:r.sz=sz') (h:Hu enc P W e r sz wf):Hu enc P W t (Rep.slice r) (szL sz) (λxs=>∀ x∈xs,wf x):=by
 intro fuel cs d ps h1;obtain ⟨inf,z,hi,_,hsz,_,_⟩:=he.info;have hc:P.cellsOf e=r.sz:=by simp [Program.cellsOf,hi,hsz,hr]
 have hpos:0<r.sz:=hr▸he.pos
 rcases DataW.trod_slice he.under h1 with ⟨rfl,hx⟩ | ⟨a,len,cap,elems,rest,n,_,rfl,hx,_,hl,hm,hlen,hel,_,_⟩
 ·simp only [Prod.mk.injEq] at hx
  obtain ⟨rfl,rfl⟩:=hx;exact ⟨[],⟨_,rfl,.inl ⟨rfl,none,0,rfl⟩⟩,by simp [szL,Rows.uptoBulk],λx hx=>by cases hx⟩
 ·simp only [Prod.mk.injEq] at hx
  obtain ⟨rfl,_⟩:=hx;rw [hc] at hel;have key:∀ (es:List (DataW H×List MemPlace)) (k:Nat),k+es.length=len->(∀ i y,es[i]?=some y->elems[k+i]?=some y)->
    ∃ xs:List α,xs.length=es.length/\szL sz xs<=Rows.uptoBulkAll (es.map (·.1))+1/\(∀ x∈xs,wf x)/\∀ i x,xs[i]?=some x->a.spot=none/\∃ c,r.R (seen W) c x/\∀ j u,c[j]?=some u->W.cell? ⟨a.block,a.off+(k+i)*r.sz+j,none⟩=some u:=by
   intro es
   induction es with
   | nil=>intro k _ _;exact ⟨[],rfl,by simp [szL,Rows.uptoBulkAll],λx hx=>(by cases hx),λi x hx=>(by simp at hx)⟩
   | cons y es ih=>
    intro k hk hes;have hy:=hes 0 y rfl;have h2:=hel k (by simp at hk;omega);rw [Nat.add_zero] at hy;rw [hy] at h2;obtain ⟨c,hc1,hc2⟩:=Option.bind_eq_some_iff.1 h2;obtain ⟨hc3,hc4⟩:=Zq2 hc1;obtain ⟨x,hx1,hx2,hx3⟩:=h n c y.1 y.2 hc2;obtain ⟨xs,e1,e2,e3,e4⟩:=ih (k+1) (by simp at hk;omega) (λi z hz=>by
     have:=hes (i+1) z (by simpa using hz);rwa [show k+1+i=k+(i+1) by omega])
    have hlc:c.length=r.sz:=r.len hx1;have hsp:a.spot=none:=by
     have h5:=hc4 0 c[0] (List.getElem?_eq_getElem (by omega));simp only [Addr.add,if_true] at h5;have h6:=Zox h5;by_cases hk0:k*r.sz=0
     ·simpa [hk0] using h6
     ·have h7:=hel 0 (by simp at hk;omega)
      have h8:elems[0]?≠none:=by rw [ne_eq,List.getElem?_eq_none_iff];simp at hk;omega
      obtain ⟨z0,hz0⟩:=Option.ne_none_iff_exists'.1 h8;rw [hz0] at h7;obtain ⟨c0,hd1,hd2⟩:=Option.bind_eq_some_iff.1 h7;obtain ⟨hd3,hd4⟩:=Zq2 hd1;have:=hd4 0 c0[0] (List.getElem?_eq_getElem (by omega));simp only [Nat.zero_mul,Addr.add,if_true] at this;exact Zox this
    have hadd:∀ m j,(a.add m).add j=⟨a.block,a.off+m+j,none⟩:=by
     intro m j
     cases a with
     | mk ab ao asp=>
      simp only at hsp;subst hsp;rw [Addr.add_lit,Addr.add_lit]
    refine ⟨x::xs,by simp [e1],?_,?_,?_⟩
    ·simp only [szL,List.map_cons,Rows.uptoBulkAll];omega
    ·intro z hz
     rcases List.mem_cons.1 hz with rfl | hz
     ·exact hx3
     ·exact e3 z hz
    ·intro i z hz
     cases i with
     | zero=>
      simp at hz;subst hz;refine ⟨hsp,c,hx1,λj u hu=>?_⟩;have:=hc4 j u hu;rw [hadd] at this;exact this
     | succ i=>
      obtain ⟨_,c',f1,f2⟩:=e4 i z (by simpa using hz);refine ⟨hsp,c',f1,λj u hu=>?_⟩;have:=f2 j u hu;rwa [show k+1+i=k+(i+1) by omega] at this
  obtain ⟨xs,e1,e2,e3,e4⟩:=key elems 0 (by omega) (λi y hy=>by rwa [Nat.zero_add]);refine ⟨xs,⟨_,rfl,?_⟩,by simp only [Rows.uptoBulk];omega,e3⟩
  cases hxs:xs with
  | nil=>
   subst hxs;have h0:len=0:=by simp at e1;omega
   subst h0;exact .inl ⟨rfl,_,_,rfl⟩
  | cons x0 xs0=>
   rw [<- hxs];have hsp:=(e4 0 x0 (by rw [hxs];rfl)).1;refine .inr ⟨a.block,a.off,cap,?_,by omega,λi x hx=>?_⟩
   ·rw [e1,hlen]
    cases a with
    | mk ab ao asp=>simp only at hsp;subst hsp;rfl
   ·obtain ⟨_,c,f1,f2⟩:=e4 i x hx
    exact ⟨c,f1,λj u hu=>by have:=f2 j u hu;rw [Nat.zero_add] at this;exact this⟩
end
end
section
open Go.RowKit
theorem Zut {α:Type} (l:List α) (h:l.length=2):∃ a0 a1,l=[a0,a1]:=by
 match l,h with
 | [a0,a1],_=>exact ⟨a0,a1,rfl⟩
theorem Zk8 {α:Type} (l:List α) (h:l.length=3):∃ a0 a1 a2,l=[a0,a1,a2]:=by
 match l,h with
 | [a0,a1,a2],_=>exact ⟨a0,a1,a2,rfl⟩
theorem Zr3 {α:Type} (l:List α) (h:l.length=11):∃ a0 a1 a2 a3 a4 a5 a6 a7 a8 a9 a10,l=[a0,a1,a2,a3,a4,a5,a6,a7,a8,a9,a10]:=by
 match l,h with
 | [a0,a1,a2,a3,a4,a5,a6,a7,a8,a9,a10],_=>exact ⟨a0,a1,a2,a3,a4,a5,a6,a7,a8,a9,a10,rfl⟩
def Zft (x:Val):Nat:=1+(λ_=>1) x.lo+(λ_=>1) x.hi+(λ_=>1) x.n
def Zj7 (x:Val):Prop:=(InK .i32) x.lo/\(InK .i32) x.hi/\(InK .i64) x.n
theorem Zfc {H:Type} {enc:TypeId×Value->H} {W:World}:Hu enc Tryz.prog W 159 Kd Zft Zj7:=by
 intro fuel cs d ps h;obtain ⟨xs,n,_,hx,hl,hn,hf⟩:=DataW.trod_struct Tryz.underlying159 h;have hl:cs.length=3:=hl.trans (by kernel_rfl);have hn:xs.length=3:=hn;obtain ⟨y0,y1,y2,rfl⟩:=Zk8 xs hn;obtain ⟨c0,c1,c2,rfl⟩:=Zk8 cs hl;simp only [Prod.mk.injEq] at hx;obtain ⟨rfl,_⟩:=hx;have g0:DataW.trod enc Tryz.prog W 0 (λ_=>true) true n 21 ((([c0,c1,c2]:List Value).drop 0).take (Tryz.prog.cellsOf 21))=some y0:=hf 0 _ rfl;rw [show Tryz.prog.cellsOf 21=1 by kernel_rfl] at g0;obtain ⟨x0,r0,s0,w0⟩:=(Hu.int Tryz.underlying21) n [c0] _ _ g0;have g1:DataW.trod enc Tryz.prog W 0 (λ_=>true) true n 21 ((([c0,c1,c2]:List Value).drop 1).take (Tryz.prog.cellsOf 21))=some y1:=hf 1 _ rfl;rw [show Tryz.prog.cellsOf 21=1 by kernel_rfl] at g1;obtain ⟨x1,r1,s1,w1⟩:=(Hu.int Tryz.underlying21) n [c1] _ _ g1;have g2:DataW.trod enc Tryz.prog W 0 (λ_=>true) true n 3 ((([c0,c1,c2]:List Value).drop 2).take (Tryz.prog.cellsOf 3))=some y2:=hf 2 _ rfl;rw [show Tryz.prog.cellsOf 3=1 by kernel_rfl] at g2;obtain ⟨x2,r2,s2,w2⟩:=(Hu.int Tryz.underlying3) n [c2] _ _ g2;obtain rfl:c0=.int .i32 x0:=by simpa using (show [c0]=[.int .i32 x0] from r0)
 obtain rfl:c1=.int .i32 x1:=by simpa using (show [c1]=[.int .i32 x1] from r1)
 obtain rfl:c2=.int .i64 x2:=by simpa using (show [c2]=[.int .i64 x2] from r2)
 refine ⟨⟨x0,x1,x2⟩,rfl,?_,⟨w0,w1,w2⟩⟩;try dsimp only at s0
 try dsimp only at s1
 try dsimp only at s2
 simp only [Zft,List.map_cons,List.map_nil,Rows.uptoBulk,Rows.uptoBulkAll];omega
def Zgs (x:Chs):Nat:=1+(λ_=>1) x.lo+(λ_=>1) x.hi+(szL (λ_=>1)) x.is_
def Zu4 (x:Chs):Prop:=(InK .i32) x.lo/\(InK .i32) x.hi/\(λxs:List Int=>∀ x∈xs,(InK .i32) x) x.is_
theorem Zmq {H:Type} {enc:TypeId×Value->H} {W:World}:Hu enc Tryz.prog W 95 V4 Zgs Zu4:=by
 intro fuel cs d ps h;obtain ⟨xs,n,_,hx,hl,hn,hf⟩:=DataW.trod_struct Tryz.underlying95 h;have hl:cs.length=3:=hl.trans (by kernel_rfl);have hn:xs.length=3:=hn;obtain ⟨y0,y1,y2,rfl⟩:=Zk8 xs hn;obtain ⟨c0,c1,c2,rfl⟩:=Zk8 cs hl;simp only [Prod.mk.injEq] at hx;obtain ⟨rfl,_⟩:=hx;have g0:DataW.trod enc Tryz.prog W 0 (λ_=>true) true n 21 ((([c0,c1,c2]:List Value).drop 0).take (Tryz.prog.cellsOf 21))=some y0:=hf 0 _ rfl;rw [show Tryz.prog.cellsOf 21=1 by kernel_rfl] at g0;obtain ⟨x0,r0,s0,w0⟩:=(Hu.int Tryz.underlying21) n [c0] _ _ g0;have g1:DataW.trod enc Tryz.prog W 0 (λ_=>true) true n 21 ((([c0,c1,c2]:List Value).drop 1).take (Tryz.prog.cellsOf 21))=some y1:=hf 1 _ rfl;rw [show Tryz.prog.cellsOf 21=1 by kernel_rfl] at g1;obtain ⟨x1,r1,s1,w1⟩:=(Hu.int Tryz.underlying21) n [c1] _ _ g1;have g2:DataW.trod enc Tryz.prog W 0 (λ_=>true) true n 28 ((([c0,c1,c2]:List Value).drop 2).take (Tryz.prog.cellsOf 28))=some y2:=hf 2 _ rfl;rw [show Tryz.prog.cellsOf 28=1 by kernel_rfl] at g2;obtain ⟨x2,r2,s2,w2⟩:=(Hu.slice Q6 rfl (Hu.int Tryz.underlying21)) n [c2] _ _ g2;obtain rfl:c0=.int .i32 x0:=by simpa using (show [c0]=[.int .i32 x0] from r0)
 obtain rfl:c1=.int .i32 x1:=by simpa using (show [c1]=[.int .i32 x1] from r1)
 obtain ⟨v2,e2,f2⟩:=r2;obtain rfl:c2=v2:=by simpa using e2
 refine ⟨⟨x0,x1,x2⟩,⟨_,rfl,f2⟩,?_,⟨w0,w1,w2⟩⟩;try dsimp only at s0
 try dsimp only at s1
 try dsimp only at s2
 simp only [Zgs,List.map_cons,List.map_nil,Rows.uptoBulk,Rows.uptoBulkAll];omega
def Zj5 (x:Spn):Nat:=1+(λ_=>1) x.lo+(λ_=>1) x.hi
def Ztw (x:Spn):Prop:=(InK .i32) x.lo/\(InK .i32) x.hi
theorem Zot {H:Type} {enc:TypeId×Value->H} {W:World}:Hu enc Tryz.prog W 143 J5 Zj5 Ztw:=by
 intro fuel cs d ps h;obtain ⟨xs,n,_,hx,hl,hn,hf⟩:=DataW.trod_struct Tryz.underlying143 h;have hl:cs.length=2:=hl.trans (by kernel_rfl);have hn:xs.length=2:=hn;obtain ⟨y0,y1,rfl⟩:=Zut xs hn;obtain ⟨c0,c1,rfl⟩:=Zut cs hl;simp only [Prod.mk.injEq] at hx;obtain ⟨rfl,_⟩:=hx;have g0:DataW.trod enc Tryz.prog W 0 (λ_=>true) true n 21 ((([c0,c1]:List Value).drop 0).take (Tryz.prog.cellsOf 21))=some y0:=hf 0 _ rfl;rw [show Tryz.prog.cellsOf 21=1 by kernel_rfl] at g0;obtain ⟨x0,r0,s0,w0⟩:=(Hu.int Tryz.underlying21) n [c0] _ _ g0;have g1:DataW.trod enc Tryz.prog W 0 (λ_=>true) true n 21 ((([c0,c1]:List Value).drop 1).take (Tryz.prog.cellsOf 21))=some y1:=hf 1 _ rfl;rw [show Tryz.prog.cellsOf 21=1 by kernel_rfl] at g1;obtain ⟨x1,r1,s1,w1⟩:=(Hu.int Tryz.underlying21) n [c1] _ _ g1;obtain rfl:c0=.int .i32 x0:=by simpa using (show [c0]=[.int .i32 x0] from r0)
 obtain rfl:c1=.int .i32 x1:=by simpa using (show [c1]=[.int .i32 x1] from r1)
 refine ⟨⟨x0,x1⟩,rfl,?_,⟨w0,w1⟩⟩;try dsimp only at s0
 try dsimp only at s1
 simp only [Zj5,List.map_cons,List.map_nil,Rows.uptoBulk,Rows.uptoBulkAll];omega
def Zr7 (x:Bk):Nat:=1+(szL (λs:ByteArray=>s.size+1)) x.names+(szL Zft) x.status+(szL Zgs) x.maps+(szL Zft) x.class_+(szL Zgs) x.decomp+(szL Zj5) x.excl+(szL Zft) x.bidi+(szL Zft) x.join+(szL Zj5) x.marks+(szL Zft) x.script+(szL Zgs) x.like
def Z33 (x:Bk):Prop:=(λxs:List ByteArray=>∀ x∈xs,(λ_=>True) x) x.names/\(λxs:List Val=>∀ x∈xs,Zj7 x) x.status/\(λxs:List Chs=>∀ x∈xs,Zu4 x) x.maps/\(λxs:List Val=>∀ x∈xs,Zj7 x) x.class_/\(λxs:List Chs=>∀ x∈xs,Zu4 x) x.decomp/\(λxs:List Spn=>∀ x∈xs,Ztw x) x.excl/\(λxs:List Val=>∀ x∈xs,Zj7 x) x.bidi/\(λxs:List Val=>∀ x∈xs,Zj7 x) x.join/\(λxs:List Spn=>∀ x∈xs,Ztw x) x.marks/\(λxs:List Val=>∀ x∈xs,Zj7 x) x.script/\(λxs:List Chs=>∀ x∈xs,Zu4 x) x.like
theorem Zyw {H:Type} {enc:TypeId×Value->H} {W:World}:Hu enc Tryz.prog W 27 rBk Zr7 Z33:=by
 intro fuel cs d ps h;obtain ⟨xs,n,_,hx,hl,hn,hf⟩:=DataW.trod_struct Tryz.underlying27 h;have hl:cs.length=11:=hl.trans (by kernel_rfl);have hn:xs.length=11:=hn;obtain ⟨y0,y1,y2,y3,y4,y5,y6,y7,y8,y9,y10,rfl⟩:=Zr3 xs hn;obtain ⟨c0,c1,c2,c3,c4,c5,c6,c7,c8,c9,c10,rfl⟩:=Zr3 cs hl;simp only [Prod.mk.injEq] at hx;obtain ⟨rfl,_⟩:=hx;have g0:DataW.trod enc Tryz.prog W 0 (λ_=>true) true n 22 ((([c0,c1,c2,c3,c4,c5,c6,c7,c8,c9,c10]:List Value).drop 0).take (Tryz.prog.cellsOf 22))=some y0:=hf 0 _ rfl;rw [show Tryz.prog.cellsOf 22=1 by kernel_rfl] at g0;obtain ⟨x0,r0,s0,w0⟩:=(Hu.slice Zge rfl (Hu.str Tryz.underlying9)) n [c0] _ _ g0;have g1:DataW.trod enc Tryz.prog W 0 (λ_=>true) true n 23 ((([c0,c1,c2,c3,c4,c5,c6,c7,c8,c9,c10]:List Value).drop 1).take (Tryz.prog.cellsOf 23))=some y1:=hf 1 _ rfl;rw [show Tryz.prog.cellsOf 23=1 by kernel_rfl] at g1;obtain ⟨x1,r1,s1,w1⟩:=(Hu.slice Ze4 rfl Zfc) n [c1] _ _ g1;have g2:DataW.trod enc Tryz.prog W 0 (λ_=>true) true n 24 ((([c0,c1,c2,c3,c4,c5,c6,c7,c8,c9,c10]:List Value).drop 2).take (Tryz.prog.cellsOf 24))=some y2:=hf 2 _ rfl;rw [show Tryz.prog.cellsOf 24=1 by kernel_rfl] at g2;obtain ⟨x2,r2,s2,w2⟩:=(Hu.slice Zgf rfl Zmq) n [c2] _ _ g2;have g3:DataW.trod enc Tryz.prog W 0 (λ_=>true) true n 23 ((([c0,c1,c2,c3,c4,c5,c6,c7,c8,c9,c10]:List Value).drop 3).take (Tryz.prog.cellsOf 23))=some y3:=hf 3 _ rfl;rw [show Tryz.prog.cellsOf 23=1 by kernel_rfl] at g3;obtain ⟨x3,r3,s3,w3⟩:=(Hu.slice Ze4 rfl Zfc) n [c3] _ _ g3;have g4:DataW.trod enc Tryz.prog W 0 (λ_=>true) true n 24 ((([c0,c1,c2,c3,c4,c5,c6,c7,c8,c9,c10]:List Value).drop 4).take (Tryz.prog.cellsOf 24))=some y4:=hf 4 _ rfl;rw [show Tryz.prog.cellsOf 24=1 by kernel_rfl] at g4;obtain ⟨x4,r4,s4,w4⟩:=(Hu.slice Zgf rfl Zmq) n [c4] _ _ g4;have g5:DataW.trod enc Tryz.prog W 0 (λ_=>true) true n 25 ((([c0,c1,c2,c3,c4,c5,c6,c7,c8,c9,c10]:List Value).drop 5).take (Tryz.prog.cellsOf 25))=some y5:=hf 5 _ rfl;rw [show Tryz.prog.cellsOf 25=1 by kernel_rfl] at g5;obtain ⟨x5,r5,s5,w5⟩:=(Hu.slice Zne rfl Zot) n [c5] _ _ g5;have g6:DataW.trod enc Tryz.prog W 0 (λ_=>true) true n 23 ((([c0,c1,c2,c3,c4,c5,c6,c7,c8,c9,c10]:List Value).drop 6).take (Tryz.prog.cellsOf 23))=some y6:=hf 6 _ rfl;rw [show Tryz.prog.cellsOf 23=1 by kernel_rfl] at g6;obtain ⟨x6,r6,s6,w6⟩:=(Hu.slice Ze4 rfl Zfc) n [c6] _ _ g6;have g7:DataW.trod enc Tryz.prog W 0 (λ_=>true) true n 23 ((([c0,c1,c2,c3,c4,c5,c6,c7,c8,c9,c10]:List Value).drop 7).take (Tryz.prog.cellsOf 23))=some y7:=hf 7 _ rfl;rw [show Tryz.prog.cellsOf 23=1 by kernel_rfl] at g7;obtain ⟨x7,r7,s7,w7⟩:=(Hu.slice Ze4 rfl Zfc) n [c7] _ _ g7;have g8:DataW.trod enc Tryz.prog W 0 (λ_=>true) true n 25 ((([c0,c1,c2,c3,c4,c5,c6,c7,c8,c9,c10]:List Value).drop 8).take (Tryz.prog.cellsOf 25))=some y8:=hf 8 _ rfl;rw [show Tryz.prog.cellsOf 25=1 by kernel_rfl] at g8;obtain ⟨x8,r8,s8,w8⟩:=(Hu.slice Zne rfl Zot) n [c8] _ _ g8
 have g9:DataW.trod enc Tryz.prog W 0 (λ_=>true) true n 23 ((([c0,c1,c2,c3,c4,c5,c6,c7,c8,c9,c10]:List Value).drop 9).take (Tryz.prog.cellsOf 23))=some y9:=hf 9 _ rfl;rw [show Tryz.prog.cellsOf 23=1 by kernel_rfl] at g9;obtain ⟨x9,r9,s9,w9⟩:=(Hu.slice Ze4 rfl Zfc) n [c9] _ _ g9;have g10:DataW.trod enc Tryz.prog W 0 (λ_=>true) true n 24 ((([c0,c1,c2,c3,c4,c5,c6,c7,c8,c9,c10]:List Value).drop 10).take (Tryz.prog.cellsOf 24))=some y10:=hf 10 _ rfl;rw [show Tryz.prog.cellsOf 24=1 by kernel_rfl] at g10;obtain ⟨x10,r10,s10,w10⟩:=(Hu.slice Zgf rfl Zmq) n [c10] _ _ g10;obtain ⟨v0,e0,f0⟩:=r0;obtain rfl:c0=v0:=by simpa using e0
 obtain ⟨v1,e1,f1⟩:=r1;obtain rfl:c1=v1:=by simpa using e1
 obtain ⟨v2,e2,f2⟩:=r2;obtain rfl:c2=v2:=by simpa using e2
 obtain ⟨v3,e3,f3⟩:=r3;obtain rfl:c3=v3:=by simpa using e3
 obtain ⟨v4,e4,f4⟩:=r4;obtain rfl:c4=v4:=by simpa using e4
 obtain ⟨v5,e5,f5⟩:=r5;obtain rfl:c5=v5:=by simpa using e5
 obtain ⟨v6,e6,f6⟩:=r6;obtain rfl:c6=v6:=by simpa using e6
 obtain ⟨v7,e7,f7⟩:=r7;obtain rfl:c7=v7:=by simpa using e7
 obtain ⟨v8,e8,f8⟩:=r8;obtain rfl:c8=v8:=by simpa using e8
 obtain ⟨v9,e9,f9⟩:=r9;obtain rfl:c9=v9:=by simpa using e9
 obtain ⟨v10,e10,f10⟩:=r10;obtain rfl:c10=v10:=by simpa using e10
 refine ⟨⟨x0,x1,x2,x3,x4,x5,x6,x7,x8,x9,x10⟩,⟨_,_,_,_,_,_,_,_,_,_,_,rfl,f0,f1,f2,f3,f4,f5,f6,f7,f8,f9,f10⟩,?_,⟨w0,w1,w2,w3,w4,w5,w6,w7,w8,w9,w10⟩⟩;try dsimp only at s0
 try dsimp only at s1
 try dsimp only at s2
 try dsimp only at s3
 try dsimp only at s4
 try dsimp only at s5
 try dsimp only at s6
 try dsimp only at s7
 try dsimp only at s8
 try dsimp only at s9
 try dsimp only at s10
 simp only [Zr7,List.map_cons,List.map_nil,Rows.uptoBulk,Rows.uptoBulkAll];omega
end
section
theorem Zvs {b:Bk} (h:Zr7 b<=1048577):Few b:=by
 unfold Zr7 at h;have v1:∀ x,1<=Zft x:=λx=>by unfold Zft;omega
 have c1:∀ x,1<=Zgs x:=λx=>by unfold Zgs;omega
 have p1:∀ x,1<=Zj5 x:=λx=>by unfold Zj5;omega
 have a0:=Zbx (sz:=λs:ByteArray=>s.size+1) (λx=>by omega) b.names;have a1:=Zbx v1 b.status;have a2:=Zbx c1 b.maps;have a3:=Zbx v1 b.class_;have a4:=Zbx c1 b.decomp;have a5:=Zbx p1 b.excl;have a6:=Zbx v1 b.bidi;have a7:=Zbx v1 b.join;have a8:=Zbx p1 b.marks;have a9:=Zbx v1 b.script;have a10:=Zbx c1 b.like;have inn:∀ (l:List Chs),szL Zgs l<=1048577->∀ x∈l,x.is_.length<=Z2:=by
  intro l hl x hx;have h1:=Zux (sz:=Zgs) hx;have h2:=Zbx (sz:=λ_:Int=>1) (λ_=>Nat.le_refl 1) x.is_;have h3:szL (λ_:Int=>1) x.is_<=Zgs x:=by unfold Zgs;omega
  unfold Z2;omega
 constructor;all_goals first | (unfold Z2;omega) | exact inn _ (by omega)
end
section
open Go Go.ChangeShapes
section
variable {H:Type} {enc:TypeId×Value->H}
theorem Znk {a:Assume} {C:Checked} {os:Os} {f:FuncId} {fn:Func} {s:OpenSpec} {k:(H:Type)->List (DataW H)->Bool} (hk:s.cond=some k) {F:Stop.Interp} {conds:List PathCond} {apart fresh handsOn again:Bool} {l:List (String×DataW Unit)}
  (own:ownKnob C.prog.godebug=none) (started:os.Started) (noInit:C.prog.inits.idxOf? f=none) (hfn:C.prog.funcs[f]?=some fn)
  (witness:∃ (w:World) (tape:Tape) (i:Input),w.os=os/\(w.forCall tape i).Shaped C.prog/\i.vars=[]/\Input.okWide C.prog (w.forCall tape i) .any w.heap.size f i/\
   ((s.pre enc C.prog fn conds apart (w.forCall tape i).memory i.args/\laidMetH C.prog l (w.forCall tape i).memory)/\sizedMet enc C.prog fn s apart (w.forCall tape i).memory i.args)/\a.holds C.prog (lone (Frame.enter C.prog f i.args .normal) [] (w.forCall tape i)))
  (contract:∀ (W:World) (base:Nat) (args:Array Value) (ds gs:List (DataW H)) (before:List MemPlace),
   (∀ (j:Nat) t v,fn.params[j]?=some t->args[j]?=some v->Value.okWide C.prog W .any base t v)->
   DataW.Whole enc C.prog fn.params.toList s.vars apart W args.toList ds gs before->
   conds.all (PathCond.test C.prog ⟨fn.params.toList,ds,s.bare.plain.varTypes C.prog,gs⟩)=true->k H (ds++gs)=true->
   a.holds C.prog (lone (Frame.enter C.prog f args .normal) [] W)->
   Calls C.prog f args W λe W'=>∃ v,e=.returned v/\(s.at F).post enc C.prog fn apart fresh handsOn again W args v W'):
  ReturnsInHanded a C os f .any (λw args=>(s.pre enc C.prog fn conds apart w args/\laidMetH C.prog l w)/\sizedMet enc C.prog fn s apart w args) ((s.at F).post enc C.prog fn apart fresh handsOn again):=by
 refine returnsInHanded_of_calls own started noInit witness ?_;intro w tape i _ _ _ hok hpre hholds;obtain ⟨_,_,_,fn',hfn',_,_,_,_,hval⟩:=hok;have e:fn'=fn:=Option.some.inj (hfn'.symm.trans hfn);subst e;obtain ⟨ds,gs,before,hw,hc,hkk⟩:=(OpenSpec.pre_some hk conds apart _ _).1 hpre.1.1;have hw':=DataW.Whole.of_heap (w':=w.forCall tape i) (by rfl) hw;refine (contract (w.forCall tape i) w.heap.size i.args ds gs before hval hw' hc hkk hholds).mono λe W' ⟨v,he,hp⟩=>?_;subst he;exact ChangeSpec.post_blind hp
theorem Zzn {C:Checked} {os:Os} {f:FuncId} {fn:Func} {s:OpenSpec} {k:(H:Type)->List (DataW H)->Bool} (hk:s.cond=some k) {conds:List PathCond} {apart:Bool} {l:List (String×DataW Unit)} (modest:Bool) (w0:World) (args:Array Value) (fuel:Nat) (hos:w0.os=os)
  (hsh:(w0.forCall (λ_ _=>0) ⟨#[],args,[]⟩).Shaped C.prog)
  (hok:Input.okWideB C.prog (w0.forCall (λ_ _=>0) ⟨#[],args,[]⟩) f ⟨#[],args,[]⟩=true)
  {x:List (DataW H)×List (DataW H)×List MemPlace} (hx:DataW.whole enc C.prog (w0.forCall (λ_ _=>0) ⟨#[],args,[]⟩).memory fn.params.toList s.vars apart args.toList fuel=some x)
  (hconds:conds.all (PathCond.test C.prog ⟨fn.params.toList,x.1,s.bare.plain.varTypes C.prog,x.2.1⟩)=true) (hkk:k H (x.1++x.2.1)=true)
  (hsz:s.bare.sizedB enc C.prog fn apart (w0.forCall (λ_ _=>0) ⟨#[],args,[]⟩).memory args fuel=true)
  (hl:laidMetH C.prog l (w0.forCall (λ_ _=>0) ⟨#[],args,[]⟩).memory):
  ∃ (w:World) (tape:Tape) (i:Input),w.os=os/\(w.forCall tape i).Shaped C.prog/\i.vars=[]/\Input.okWide C.prog (w.forCall tape i) .any w.heap.size f i/\
   ((s.pre enc C.prog fn conds apart (w.forCall tape i).memory i.args/\laidMetH C.prog l (w.forCall tape i).memory)/\sizedMet enc C.prog fn s apart (w.forCall tape i).memory i.args)/\({ modest:=modest }:Assume).holds C.prog (lone (Frame.enter C.prog f i.args .normal) [] (w.forCall tape i)):=
 ⟨w0,λ_ _=>0,⟨#[],args,[]⟩,hos,hsh,(Input.okWide_of_okWideB (base:=0) hok).1,(Input.okWide_of_okWideB hok).2,
  ⟨⟨(OpenSpec.pre_some hk conds apart _ _).2 ⟨x.1,x.2.1,x.2.2,DataW.Whole_of_whole hx,hconds,hkk⟩,hl⟩,sizedMet_of_sizedB hsz⟩,by
  simp only [Assume.holds]
  exact ⟨by simp,by simp,λ_=>Modest.zero,by simp,by simp⟩⟩
end
end
section
open Go.ChangeShapes Go.WideShapes Go.ChangeAt Go.RowKit Go.Joins
set_option linter.constructorNameAsVariable false
namespace RowIdnaSame
theorem own:ownKnob Tryz.prog.godebug=none:=by kernel_rfl
theorem Zpy:laidOutB Tryz.prog=true:=by kernel_rfl
set_option maxRecDepth 100000 in
theorem Zi8 {W:World} {base:Nat} {v v':Value} (h:Value.okWide Tryz.prog W .any base 28 v) (e:v.cells.toList=[v']):v=v':=by
 obtain ⟨a,l,c,rfl⟩:=okWide_slice Tryz.underlying28 h;simpa [Value.cells] using e
set_option maxRecDepth 100000 in
theorem lifted (os:Os) (started:os.Started) (H:Type) (enc:TypeId×Value->H) (F:Stop.Interp):
  ReturnsInHanded {} Tryz.checked os 4 .any (λw args=>((Rows.OpenSpec.upto Rows.idnaSameSpec).pre enc Tryz.prog Tryz.f4 Rows.idnaSameUptoRow.domain false w args/\laidMetH Tryz.prog Rows.idnaSameUptoRow.laid w)/\sizedMet enc Tryz.prog Tryz.f4 (Rows.OpenSpec.upto Rows.idnaSameSpec) false w args) (((Rows.OpenSpec.upto Rows.idnaSameSpec).at F).post enc Tryz.prog Tryz.f4 false true false false):=by
 refine Znk (C:=Tryz.checked) (s:=Rows.OpenSpec.upto Rows.idnaSameSpec) (k:=Rows.uptoSmall) rfl own started (by kernel_rfl) Tryz.func4
  (Zzn (enc:=enc) (C:=Tryz.checked) (s:=Rows.OpenSpec.upto Rows.idnaSameSpec) (k:=Rows.uptoSmall) rfl false (World.laidAll Tryz.prog os Rows.idnaSameUptoRow.laid) #[.agg #[.slice none 0 0,.slice none 0 0,.slice none 0 0,.slice none 0 0,.slice none 0 0,.slice none 0 0,.slice none 0 0,.slice none 0 0,.slice none 0 0,.slice none 0 0,.slice none 0 0],.slice none 0 0,.slice none 0 0] 8 (World.laidAll_os _ _ _) (World.shaped_of_ZipB (by kernel_rfl) (by kernel_rfl)) (by kernel_rfl)
   (x:=([(.agg [.nil,.nil,.nil,.nil,.nil,.nil,.nil,.nil,.nil,.nil,.nil]),.nil,.nil],[],[])) (by kernel_rfl) rfl rfl (by kernel_rfl) (by rw [MakeChecks.laidMetH_plain _ _ _ (by kernel_rfl)];exact laidMet_laidAll _ (by kernel_rfl) (by kernel_rfl))) ?_
 intro W base args ds gs before hval0 hW hk0 hk _;have hval:∀ (j:Nat) t v,Tryz.f4.params[j]?=some t->args[j]?=some v->Value.okWide Tryz.prog W .any base t v:=hval0;have hW':=hW;obtain ⟨p,q,hA0,hV,rfl,hfz,hnd⟩:=hW;have hA:DataW.TrodAll enc Tryz.prog W 0 (λ_=>true) true Tryz.f4.params.toList args.toList ds p:=hA0;rw [Tryz.params4] at hA hval;obtain ⟨v0,vs0,d0,ds0,p0,q0,hargs,rfl,rfl,h0,r0⟩:=trodAll_cons hA;obtain ⟨v1,vs1,d1,ds1,p1,q1,rfl,rfl,rfl,h1,r1⟩:=trodAll_cons r0;obtain ⟨v2,vs2,d2,ds2,p2,q2,rfl,rfl,rfl,h2,r2⟩:=trodAll_cons r1;obtain ⟨rfl,rfl,rfl⟩:=trodAll_nil r2;obtain rfl:args=#[v0,v1,v2]:=by cases args;simp_all
 obtain ⟨rfl,rfl⟩:=trodVars_none hV;have k0:=h0;have lt0:∀ x∈p0,x.block<W.heap.size:=by obtain ⟨m,hm⟩:=k0;exact DataW.trod_lt m _ _ _ hm
 have k1:=h1;have lt1:∀ x∈p1,x.block<W.heap.size:=by obtain ⟨m,hm⟩:=k1;exact DataW.trod_lt m _ _ _ hm
 have k2:=h2;have lt2:∀ x∈p2,x.block<W.heap.size:=by obtain ⟨m,hm⟩:=k2;exact DataW.trod_lt m _ _ _ hm
 obtain ⟨c0,rfl,_⟩:=okWide_struct Tryz.underlying27 (hval 0 27 v0 rfl rfl);obtain ⟨m0,hm0⟩:=h0;obtain ⟨x0,f0,s0,w0⟩:=Zyw m0 _ _ _ hm0;obtain ⟨m1,hm1⟩:=h1;obtain ⟨x1,⟨v1',e1,f1⟩,s1,w1⟩:=(Hu.slice Q6 rfl (Hu.int Tryz.underlying21)) m1 _ _ _ hm1;have hv1:v1=v1':=Zi8 (hval 1 28 v1 rfl rfl) e1;subst hv1;obtain ⟨m2,hm2⟩:=h2;obtain ⟨x2,⟨v2',e2,f2⟩,s2,w2⟩:=(Hu.slice Q6 rfl (Hu.int Tryz.underlying21)) m2 _ _ _ hm2;have hv2:v2=v2':=Zi8 (hval 2 28 v2 rfl rfl) e2;subst hv2;have hbulk:Rows.uptoBulkAll [d0,d1,d2]<=1048576:=of_decide_eq_true hk;have hsz:Zr7 x0+(szL (λ_=>1)) x1+(szL (λ_=>1)) x2<=1048576:=by simp only [Rows.uptoBulkAll] at hbulk;omega
 have hT:Xx.f x0 x1 x2=some true:=Znh x0 (Zvs (by omega)) x1 x2 (by have:=Zbx (sz:=λ_:Int=>1) (λ_=>Nat.le_refl 1) x1;omega) (by have:=Zbx (sz:=λ_:Int=>1) (λ_=>Nat.le_refl 1) x2;omega);refine ((Xx.c (St.refl W) (c0:=c0.toList) f0 f1 f2 hT).2.mono λe W' h=>?_);obtain ⟨v,rfl,rfl,hs⟩:=h;have bel:=hs.below;exact ⟨_,rfl,_,_,_,[],_,[],hW',trodAll_mk1 (shut_bool Tryz.underlying4 _),(trodAll_cons_mk (Below.trod Zpy (by kernel_rfl) (of_decide_eq_true (by kernel_rfl)) k0 bel lt0) (trodAll_cons_mk (Below.trod Zpy (by kernel_rfl) (of_decide_eq_true (by kernel_rfl)) k1 bel lt1) (trodAll_cons_mk (Below.trod Zpy (by kernel_rfl) (of_decide_eq_true (by kernel_rfl)) k2 bel lt2) trodAll_mk0))),rfl,bel.frame _,λh=>by cases h⟩
end RowIdnaSame
set_option maxRecDepth 100000 in
theorem Zkv:joinedFacts Tryz.prog 4 Tryz.f4 (Rows.OpenSpec.upto Rows.idnaSameSpec).bare Rows.idnaSameUptoRow=true:=by kernel_rfl
set_option maxRecDepth 100000 in
theorem Zgk:Rows.IdnaSameUptoSaid:=
 OpenClaim.holds_of_cond 4 Tryz.f4 rfl rfl rfl rfl rfl rfl rfl ⟨rfl,rfl,rfl,rfl,rfl⟩ rfl rfl rfl rfl rfl (by kernel_rfl) Tryz.func4 Zkv
  (of_decide_eq_true (by kernel_rfl)) (by unfold Func.isWrapper;first | (rw [if_pos (by decide +kernel)];kernel_rfl) | (rw [if_neg (by decide +kernel)];exact ⟨rfl,rfl⟩))
  (λos started H enc _ F=>RowIdnaSame.lifted os started H enc F)
#print axioms Zgk
end
section
open Go.ChangeShapes Go.WideShapes Go.ChangeAt
theorem idnaSame_card:Rows.IdnaSameUptoCardSaid:=
 Claim7.holds_tied_plain_at .later [] [.data,.pinned] true (true,"e53616a7e845c9dc5f2d9430cefa56796e58ee49fd0021af25f325ecec50b7d1") false Zgk (λ_ h=>by cases h) (by kernel_rfl) (λ_ h=>by cases h) idnaSameUpto_row_tie rfl ⟨rfl,rfl⟩ (by kernel_rfl) rfl
  (λf fn hf hfn=>by
   obtain rfl:f=4:=Option.some.inj ((show Tryz.prog.funcNamed "postern/posternlaw19.IdnaSame"=some 4 by kernel_rfl).symm.trans hf) |>.symm
   obtain rfl:fn=Tryz.f4:=(Option.some.inj (Tryz.func4.symm.trans hfn)).symm
   exact ⟨by kernel_rfl,λj t ht=>by
    rw [Tryz.params4] at ht
    have hm:t∈[27,28]:=by simpa using Array.mem_of_getElem? ht
    have hall:([27,28].all λu=>!Tryz.prog.wantsStandIn u)=true:=by kernel_rfl
    exact (show Tryz.prog.wantsStandIn t=false by simpa using List.all_eq_true.1 hall t hm)⟩)
  (by kernel_rfl)
#print axioms idnaSame_card
end
end Go.Proofs.YtdkkmdeanfcfnaaGreatDoor
