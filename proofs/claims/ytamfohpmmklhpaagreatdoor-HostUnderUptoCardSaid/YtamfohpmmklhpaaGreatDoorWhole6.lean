/- Texts of this repo, merged for the claim: PureH, PureI, PureJ, PureK, PureX, PureCR, PureLI, PureLB, PureLC, PureLW, PureLD, PureLE, PureLF, PureLG, PureLH, PureLK, PureLN, PureLP, PureIA, PureIB, PureIC, PureID, PureIE, PureIF, PureIG, PureLA, PureIH, PureIJ, PureIK, PureSF, PureSG, PureSH, PureSI, EngR. -/
import Derived.Test.YtamfohpmmklhpaaGreatDoorWhole4
import Derived.Test.YtamfohpmmklhpaaGreatDoorWhole5
import Derived.Test.YtamfohpmmklhpaaGreatDoorWhole2
import Derived.Test.YtamfohpmmklhpaaGreatDoorWhole1
import Derived.Test.YtamfohpmmklhpaaGreatDoorWhole3
import Derived.Test.YtamfohpmmklhpaaGreatDoorWhole0
import Derived.Test.YtamfohpmmklhpaaGreatDoorRows
import Derived.ChangeArms
set_option autoImplicit true
set_option relaxedAutoImplicit true
namespace Go.Proofs.YtamfohpmmklhpaaGreatDoor
open Go.RowKit
open Go.IntKind (i8 i16 i32 i64 u8 u16 u32 u64)
set_option maxRecDepth 100000
theorem Zu3 (p:Int):Zar p p=Zm7 p:=by
 unfold Zar Zm7;rw [Bool.eq_iff_iff];simp only [Bool.or_eq_true,Bool.and_eq_true,decide_eq_true_eq];omega
theorem Zr9 (x:Chs):(!Zd2 (Hu 2 x) x)=Zcn x:=by
 unfold Zd2 Hu Zcn;by_cases c:x.lo=x.hi
 ·rw [<- c,Zu3]
  have:H3 [x.lo] 1 1=Zfd x.lo:=by simp [H3]
  rw [this];cases H3 x.is_ 1 2<;>cases Zm7 x.lo<;>cases Zfd x.lo<;>simp
 ·simp [c]
theorem Zh5 (a b:Int) (x:Val):(!Zd3 a b false x)=(decide (a<=x.n)&&decide (x.n<=b)):=by
 unfold Zd3;rw [Bool.eq_iff_iff];simp
theorem Zzm (a b:Int) (x:Val):(!Zd3 a b true x)=(decide (a<=x.n)&&decide (x.n<=b)&&!Zar x.lo x.hi):=by
 unfold Zd3;rw [Bool.eq_iff_iff];simp
theorem Zck {α:Type} (l:List α) (sp:α->Spn) (wr may:α->Bool) (h:∀ x,(!wr x)=may x):∃ r,Xf.f (l.map sp) (l.map wr)=some r/\Zbx r (Zav (λx=>(sp x).lo) (λx=>(sp x).hi) may l):=by
 obtain ⟨r,h1,h2⟩:=Zrr l sp wr;rw [show (λx=>!wr x)=may from funext h] at h2;exact ⟨r,h1,h2⟩
theorem Z4l {α:Type} (l:List α):l.map (λx=>x)=l:=by simp
theorem Zep (h:Zbx r w):decide (r<0)=w:=by
 rcases h with ⟨rfl,rfl⟩ | ⟨rfl,h⟩
 ·rfl
 ·simp;omega
theorem Zvn (b:Bk) (a1 a2 a3 a4 a5 a6 a7 a8 a9 a10 a11:Int) (h:a5<0->Dok b.decomp):
  ∃ p q,Zd.l1 K0 b a1 a2 a3 a4 a5 a6 a7 a8 a9 a10 a11 0=some (p,q,if [a1,a2,a3,a4,a5,a6,a7,a8,a9,a10,a11].all (λx=>decide (x<0))&&Ze6 b.decomp [] b.decomp then 0 else 100):=by
 have hl:[a1,a2,a3,a4,a5,a6,a7,a8,a9,a10,a11].length<=Zv:=by unfold Zv;simp
 refine Qe (λk i (_:Unit)=>Zd.l1 k b a1 a2 a3 a4 a5 a6 a7 a8 a9 a10 a11 i) [a1,a2,a3,a4,a5,a6,a7,a8,a9,a10,a11]
  (λpre t _ o=>(∀ x∈pre,x<0)->∃ p q,o=some (p,q,if t.all (λx=>decide (x<0))&&Ze6 b.decomp [] b.decomp then 0 else 100)) ?_ ?_ () K0 (ltK hl) (λx hx=>by cases hx)
 ·intro _ k hx
  have h5:=h (hx a5 (by simp));obtain ⟨r,e,s⟩:=Zru b h5;simp only [Zd.l1];rw [if_neg (show ¬ (([a1,a2,a3,a4,a5,a6,a7,a8,a9,a10,a11]:List Int).length:Int)<(([a1,a2,a3,a4,a5,a6,a7,a8,a9,a10,a11]:List Int).length:Int) by omega),e,Option.bind_some]
  rcases s.cases' with ⟨s1,s2⟩ | ⟨s1,s2⟩
  ·exact ⟨5,r,by rw [if_pos s2,s1];rfl⟩
  ·exact ⟨0,0,by rw [if_neg s2,s1];rfl⟩
 ·intro pre x t _ k e ih hx
  obtain ⟨h1,h2⟩:=mid e;simp only [Zd.l1];rw [if_pos h2.2,if_pos h2,h1,nxt hl e,List.all_cons];by_cases c:0<=x
  ·exact ⟨_,_,by rw [if_pos c,show decide (x<0)=false by simp;omega];rfl⟩
  ·rw [if_neg c,show decide (x<0)=true by simp;omega,Bool.true_and]
   exact ih () λy hy=>by
    rcases List.mem_append.1 hy with hy | hy
    ·exact hx y hy
    ·rw [List.mem_singleton.1 hy];omega
theorem Zyx (hb:Few b):Zd.l2 K0 b ms [] 0=Zd.t20 b ms (b.excl.map λx=>Zar x.lo x.hi):=by
 have:=Qe (λk i s=>Zd.l2 k b ms s i) b.excl
  (λpre t s o=>s=pre.map (λx=>Zar x.lo x.hi)->o=Zd.t20 b ms (b.excl.map λx=>Zar x.lo x.hi))
  (λs k hs=>by
   simp only [Zd.l2,if_neg (show ¬ (b.excl.length:Int)<(b.excl.length:Int) by omega)]
   rw [if_pos ⟨by omega,by have:=hb.marks;unfold Zv at this;unfold most;omega⟩,hs])
  (λpre x t s k e ih hs=>by
   obtain ⟨h1,h2⟩:=mid e
   have hp:pre.length<=Zv:=by have:=hb.excl;rw [e] at this;simp at this;omega
   simp only [Zd.l2,if_pos h2.2,if_pos h2,h1,Zlr,Option.bind_some,nxt hb.excl e]
   rw [if_pos (by rw [hs,List.length_map];exact Zrm hp (Nat.le_refl _))]
   exact ih _ (by rw [hs];simp)) [] K0 (ltK hb.excl) rfl
 exact this
theorem Zj5 (b:Bk) (hb:Few b):∃ p q,Zd.f b=some (p,q,if okB b then 0 else 100):=by
 have hw:=Zhl b.maps 18 hb.maps hb.mapsI;rw [Zd.f,hw,Option.bind_some];have hl3:=Qe (λk i s=>Zd.l3 k b s i) b.maps
  (λpre t s o=>s=(pre.map λx=>!Zj2 b.status x)++t.map (Hu 18)->o=Zd.l2 K0 b (b.maps.map λx=>!Zj2 b.status x) [] 0)
  (λs k hs=>by
   simp only [Zd.l3,if_neg (show ¬ (b.maps.length:Int)<(b.maps.length:Int) by omega),hs,List.map_nil,List.append_nil])
  (λpre x t s k e ih hs=>by
   obtain ⟨h1,h2⟩:=mid e
   have hlen:s.length=b.maps.length:=by rw [hs,e];simp
   have hr:rd s (pre.length:Int)=Hu 18 x:=by rw [hs];simp [rd]
   have hset:∀ w:Bool,w=!Zj2 b.status x->s.set ((pre.length:Int).toNat) w=((pre++[x]).map λx=>!Zj2 b.status x)++t.map (Hu 18):=by
    intro w ew
    rw [hs,ew];simp
   simp only [Zd.l3,if_pos h2.2,if_pos h2,h1,hr,Zd.j1,nxt hb.maps e,Zza x b.status hb.status,Option.bind_some]
   rw [if_pos ⟨h2.1,by omega⟩]
   by_cases c:Hu 18 x=true
   ·rw [if_pos c]
    refine ih _ (hset _ ?_)
    have:H3 x.is_ 1 18=false:=by unfold Hu at c;simpa using c
    simp [Zj2,this]
   ·rw [if_neg c]
    refine ih _ (hset _ ?_)
    have:H3 x.is_ 1 18=true:=by unfold Hu at c;simpa using c
    simp [Zj2,this]) (b.maps.map (Hu 18)) K0 (ltK hb.maps) (by simp)
 rw [hl3];rw [Zyx hb];obtain ⟨r1,e1,s1⟩:=Zrs b.names;obtain ⟨r2,e2,s2⟩:=Zck b.status (λx=>(⟨x.lo,x.hi⟩:Spn)) (Zd3 1 3 false) _ (Zh5 1 3);obtain ⟨r3,e3,s3⟩:=Zck b.maps (λx=>(⟨x.lo,x.hi⟩:Spn)) (λx=>!Zj2 b.status x) (Zj2 b.status) (λx=>by simp);obtain ⟨r4,e4,s4⟩:=Zck b.class_ (λx=>(⟨x.lo,x.hi⟩:Spn)) (Zd3 1 254 true) _ (Zzm 1 254);obtain ⟨r5,e5,s5⟩:=Zck b.decomp (λx=>(⟨x.lo,x.hi⟩:Spn)) (λx=>Zd2 (Hu 2 x) x) Zcn Zr9;obtain ⟨r6,e6,s6⟩:=Zck b.excl (λx=>x) (λx=>Zar x.lo x.hi) (λx=>!Zar x.lo x.hi) (λx=>rfl);obtain ⟨r7,e7,s7⟩:=Zck b.bidi (λx=>(⟨x.lo,x.hi⟩:Spn)) (Zd3 0 22 false) _ (Zh5 0 22);obtain ⟨r8,e8,s8⟩:=Zck b.join (λx=>(⟨x.lo,x.hi⟩:Spn)) (Zd3 0 5 false) _ (Zh5 0 5);obtain ⟨r9,e9,s9⟩:=Zck b.marks (λx=>x) (λ_=>false) (λ_=>true) (λx=>rfl);obtain ⟨r10,e10,s10⟩:=Zck b.script (λx=>(⟨x.lo,x.hi⟩:Spn)) (Zd3 1 (b.names.length:Int) false) _ (Zh5 1 (b.names.length:Int));obtain ⟨r11,e11,s11⟩:=Zck b.like (λx=>(⟨x.lo,x.hi⟩:Spn)) (Hu 18) (λx=>H3 x.is_ 1 18) (λx=>by simp [Hu]);rw [Z4l] at e6 e9;have e9':List.map (λ_:Spn=>false) b.marks=List.replicate (b.marks.length:Int).toNat false:=by rw [Int.toNat_natCast,List.map_const']
 rw [e9'] at e9;rw [Zd.t20,e1,Option.bind_some,Zd.t19,Zgd _ hb.status,Option.bind_some,Zd.t18,Zdy _ _ _ _ hb.status,Option.bind_some,Zd.t17,e2,Option.bind_some,
  Zd.t16,Zhk _ hb.maps,Option.bind_some,Zd.t15,e3,Option.bind_some,Zd.t14,Zgd _ hb.class_,Option.bind_some,Zd.t13,Zdy _ _ _ _ hb.class_,Option.bind_some,
  Zd.t12,e4,Option.bind_some,Zd.t11,Zhk _ hb.decomp,Option.bind_some,Zd.t10,Zn0 _ hb.decomp hb.decompI,Option.bind_some,Zd.t9,e5,Option.bind_some,
  Zd.t8,e6,Option.bind_some,Zd.t7,Zgd _ hb.bidi,Option.bind_some,Zd.t6,Zdy _ _ _ _ hb.bidi,Option.bind_some,Zd.t5,e7,Option.bind_some,
  Zd.t4,Zgd _ hb.join,Option.bind_some,Zd.t3,Zdy _ _ _ _ hb.join,Option.bind_some,Zd.t2,e8,Option.bind_some,Zd.t1,e9,Option.bind_some,
  Zgd _ hb.script,Option.bind_some,Zdy _ _ _ _ hb.script,Option.bind_some,e10,Option.bind_some,Zhk _ hb.like,Option.bind_some,Zhl _ _ hb.like hb.likeI,Option.bind_some,e11,Option.bind_some]
 obtain ⟨p,q,e⟩:=Zvn b r1 r2 r3 r4 r5 r6 r7 r8 r9 r10 r11 (λh=>Dok.mk' (by have:=Zep s5;simp [h] at this;exact this));refine ⟨p,q,?_⟩;rw [e];simp only [List.all_cons,List.all_nil,Bool.and_true,Zep s1,Zep s2,Zep s3,Zep s4,Zep s5,Zep s6,Zep s7,Zep s8,Zep s9,Zep s10,Zep s11];unfold okB Ztp Z3v;simp only [Bool.and_assoc]
theorem Zrj {σ β:Type} (L:Nat->Int->σ->Option β) (hi:Int) (Spec:Int->σ->Option β->Prop) (hend:∀ s k,Spec hi s (L (k+1) hi s)) (hstep:∀ i s k,i<hi->(∀ s',Spec (i+1) s' (L k (i+1) s'))->Spec i s (L (k+1) i s)):
  ∀ (n:Nat) i s k,hi=i+n->n<k->Spec i s (L k i s):=by
 intro n
 induction n with
 | zero=>
  intro i s k e hk;obtain ⟨k,rfl⟩:∃ j,k=j+1:=⟨k-1,by omega⟩;have:hi=i:=by omega
  subst this;exact hend s k
 | succ n ih=>
  intro i s k e hk;obtain ⟨k,rfl⟩:∃ j,k=j+1:=⟨k-1,by omega⟩;exact hstep i s k (by omega) λs'=>ih (i+1) s' k (by omega) (by omega)
def inB (p:Int) (x:Val):Bool:=decide (x.lo<=p)&&decide (p<=x.hi)
def Zb4:List Val->Int->Int
 | [],_=>0
 | x::t,p=>if inB p x=true then x.n else Zb4 t p
theorem Zoh:∀ {l:List Val},(∀ x∈l,inB p x=false)->Zb4 l p=0
 | [],_=>rfl
 | x::t,h=>by
  rw [Zb4,if_neg (by rw [h x (List.mem_cons_self ..)];decide)]
  exact Zoh λy hy=>h y (List.mem_cons_of_mem _ hy)
theorem Zi5:∀ {a:List Val},(∀ x∈a,inB p x=false)->Zb4 (a++b) p=Zb4 b p
 | [],_=>rfl
 | x::t,h=>by
  rw [List.cons_append,Zb4,if_neg (by rw [h x (List.mem_cons_self ..)];decide)]
  exact Zi5 λy hy=>h y (List.mem_cons_of_mem _ hy)
theorem Zi6:∀ {a:List Val},(∀ x∈b,inB p x=false)->Zb4 (a++b) p=Zb4 a p
 | [],h=>Zoh h
 | x::t,h=>by
  rw [List.cons_append,Zb4,Zb4,Zi6 (a:=t) h]
theorem Znr {α:Type} {lo hi:α->Int} {may:α->Bool}:∀ {a:List α} {last:Int} {x:α} {t:List α},Vu lo hi may last (a++x::t)=true->
  (∀ y∈a,hi y<lo x)/\(∀ z∈t,hi x<lo z)/\last<lo x/\lo x<=hi x/\hi x<=1114111/\may x=true
 | [],last,x,t,h=>by
  simp only [List.nil_append,Vu,Bool.and_eq_true,decide_eq_true_eq] at h
  obtain ⟨⟨⟨⟨h1,h2⟩,h3⟩,h4⟩,h5⟩:=h
  exact ⟨λy hy=>(by cases hy),λz hz=>(Zdq h5 z hz).1,h1,h2,h3,h4⟩
 | y::a,last,x,t,h=>by
  simp only [List.cons_append,Vu,Bool.and_eq_true,decide_eq_true_eq] at h
  obtain ⟨⟨⟨⟨h1,h2⟩,h3⟩,h4⟩,h5⟩:=h
  have g:=Znr h5
  obtain ⟨g1,g2,g3,g4,g5,g6⟩:=g
  refine ⟨λz hz=>?_,g2,by omega,g4,g5,g6⟩
  rcases List.mem_cons.1 hz with rfl | hz
  ·exact g3
  ·exact g1 z hz
theorem Zmf {α:Type} {xs pre t:List α} (e:xs=pre++t):sub xs (pre.length:Int) (xs.length:Int)=t:=by
 subst e;rw [sub,Int.toNat_natCast,Int.toNat_natCast,List.take_length,List.drop_left]
theorem Zxs (y:Vector Int m) (z:Int) (hi0:0<=i) (hi1:i<(m:Int)) (hj0:0<=j) (hj1:j<(m:Int)):vg (Zec y i z) j=if i=j then z else vg y j:=by
 have h1:i.toNat<m:=by omega
 have h2:j.toNat<m:=by omega
 simp only [vg,Zec,Vector.toList,List.getD_eq_getElem?_getD,Array.getElem?_toList,Array.getElem?_setIfInBounds];by_cases c:i=j
 ·simp [c,h2]
 ·rw [if_neg c,if_neg (by omega)]
theorem Z5g:vg (Vector.replicate m (0:Int)) j=0:=by
 simp only [vg,List.getD_eq_getElem?_getD];by_cases c:j.toNat<m
 ·simp [c]
 ·simp [c]
def Zes (x:Val):Bool:=decide (0<=x.n)&&decide (x.n<=65535)
def Zb5 (l:List Val):Prop:=l.length<=65536/\Vu (·.lo) (·.hi) Zes (-1) l=true
abbrev Blk:=Vector Int 128
def Zeu:Blk:=Vector.replicate 128 0
def Zlc (v:Blk) (l:List Val) (p:Int):Prop:=∀ j:Int,0<=j->j<128->vg v j=Zb4 l (p+j)
theorem Zoa (h:Zb5 l):Xy.f l=some (0,0):=by
 have hl:l.length<=Zv:=by have:=h.1;unfold Zv;omega
 unfold Xy.f;rw [if_neg (by have:=h.1;omega)];exact Qe (λk i last=>Xy.l1 k l last i) l (λpre t last o=>Vu (·.lo) (·.hi) Zes last t=true->o=some (0,0))
  (λs k _=>by simp only [Xy.l1,if_neg (show ¬ (l.length:Int)<(l.length:Int) by omega)])
  (λpre x t s k e ih hs=>by
   obtain ⟨h1,h2⟩:=mid e
   simp only [Vu,Zes,Bool.and_eq_true,decide_eq_true_eq] at hs
   obtain ⟨⟨⟨⟨g1,g2⟩,g3⟩,g4,g5⟩,g6⟩:=hs
   simp only [Xy.l1,if_pos h2.2,if_pos h2,h1,Xy.j2,Xy.j1,nxt hl e]
   rw [if_neg (by omega),if_neg (by omega),if_neg (by simp;omega),if_neg (by omega),if_neg (by simp;omega)]
   exact ih x.hi g6) (-1) K0 (ltK hl) h.2
structure Z9k (l:List Val) (k p:Int) where
 done:List Val
 rest:List Val
 eq:l=done++rest
 len:k=(done.length:Int)
 old:∀ x∈done,x.hi<p
theorem Z4g (go:Blk->Bool->Int->Option (Bool×Int×Blk)) (l done rest:List Val) (p i:Int) (x:Val) (v:Blk) (hp:0<=p) (hp1:p<=1113984) (el:l=done++rest) (ei:rd rest i=x) (hx0:p<=x.hi) (hx1:x.lo<=p+127) (hx2:x.lo<=x.hi) (hx3:0<=x.lo) (hx4:x.hi<=1114111) (hn:0<=x.n/\x.n<=65535) (hi:i64.wrap (i+1)=i+1):
  ∃ v',Yh.l1 go K0 l p (done.length:Int) i v (max x.lo p)=go v' true (i+1)/\∀ j:Int,0<=j->j<128->vg v' j=if inB (p+j) x=true then x.n else vg v j:=by
 have hs:sub l (done.length:Int) (l.length:Int)=rest:=Zmf el;have hlast:i32.wrap ((i32.wrap (p+128))-1)=p+127:=by rw [w32 (x:=p+128) (by omega) (by omega),w32 (by omega) (by omega)];omega
 have hstart:max x.lo p<=min x.hi (p+127):=by omega
 have:=Zrj (λk q v=>Yh.l1 go k l p (done.length:Int) i v q) (min x.hi (p+127)+1)
  (λq (w:Blk) o=>max x.lo p<=q->(∀ j:Int,0<=j->j<128->vg w j=if max x.lo p<=p+j/\p+j<q then x.n else vg v j)->
   ∃ v',o=go v' true (i+1)/\∀ j:Int,0<=j->j<128->vg v' j=if inB (p+j) x=true then x.n else vg v j)
  (λw k _ hw=>by
   simp only [Yh.l1,hs,ei,hlast]
   rw [if_neg (by omega),hi]
   refine ⟨w,rfl,λj h0 h1=>?_⟩
   rw [hw j h0 h1]
   simp only [inB,Bool.and_eq_true,decide_eq_true_eq]
   by_cases c:x.lo<=p+j/\p+j<=x.hi
   ·rw [if_pos c,if_pos (by omega)]
   ·rw [if_neg c,if_neg (by omega)])
  (λq w k hq ih hq0 hw=>by
   simp only [Yh.l1,hs,ei,hlast]
   rw [if_pos (by omega),w32 (x:=q-p) (by omega) (by omega),if_pos ⟨by omega,by omega⟩,w16 hn.1 (by omega),w32 (x:=q+1) (by omega) (by omega)]
   refine ih _ (by omega) λj h0 h1=>?_
   rw [Zxs w x.n (by omega) (by omega) h0 (by omega),hw j h0 h1]
   by_cases c:q-p=j
   ·rw [if_pos c,if_pos (by omega)]
   ·rw [if_neg c]
    by_cases c2:max x.lo p<=p+j/\p+j<q
    ·rw [if_pos c2,if_pos (by omega)]
    ·rw [if_neg c2,if_neg (by omega)])
  (min x.hi (p+127)+1-max x.lo p).toNat (max x.lo p) v K0 (by omega) (by unfold K0;omega) (Int.le_refl _)
  (λj h0 h1=>by rw [if_neg (by omega)])
 exact this
def Zwk (v0:Blk) (l:List Val) (p:Int) (o:Option (Bool×Int×Blk)):Prop:=
 ∃ any v' done' rest',o=some (any,(done'.length:Int),v')/\l=done'++rest'/\(∀ x∈done',x.hi<p)/\Zlc v' l p/\(any=false->v'=v0)
theorem Z1l (l done rest:List Val) (p:Int) (hl:Zb5 l) (hp:0<=p) (hp1:p<=1113984) (el:l=done++rest) (hd:∀ x∈done,x.hi<p) (hr:∀ x,rest.head?=some x->¬ x.hi<p):
  Zwk Zeu l p (Yh.l2 K0 l p (done.length:Int) Zeu false 0):=by
 have hb:l.length<=Zv:=by have:=hl.1;unfold Zv;omega
 have hrl:rest.length<=Zv:=by rw [el] at hb;simp at hb;omega
 have hs:sub l (done.length:Int) (l.length:Int)=rest:=Zmf el;have hlast:i32.wrap ((i32.wrap (p+128))-1)=p+127:=by rw [w32 (x:=p+128) (by omega) (by omega),w32 (by omega) (by omega)];omega
 have hdn:∀ (b:List Val) (j:Int),0<=j->Zb4 (done++b) (p+j)=Zb4 b (p+j):=λb j h0=>Zi5 λx hx=>by
  have:=hd x hx;simp [inB,show ¬ p+j<=x.hi by omega]
 refine Qe (λk i (s:Blk×Bool)=>Yh.l2 k l p (done.length:Int) s.1 s.2 i) rest
  (λpre t s o=>Zlc s.1 pre p->(s.2=false->s.1=Zeu)->Zwk Zeu l p o) ?_ ?_ (Zeu,false) K0 (ltK hrl) (λj _ _=>by rw [Zb4];exact Z5g) (λ_=>rfl)
 ·intro ⟨v,any⟩ k hv ha
  simp only [Yh.l2,hs,Yh.j1];rw [if_neg (by omega)];exact ⟨any,v,done,rest,rfl,el,hd,λj h0 h1=>by rw [el,hdn _ _ h0];exact hv j h0 h1,ha⟩
 ·intro pre x t ⟨v,any⟩ k e ih hv ha
  simp only at hv ha;obtain ⟨h1,h2⟩:=mid e;have e2:l=(done++pre)++x::t:=by rw [el,e];simp
  have hok:=hl.2;rw [e2] at hok;obtain ⟨g1,g2,g3,g4,g5,g6⟩:=Znr hok;simp only [Zes,Bool.and_eq_true,decide_eq_true_eq] at g6;simp only [Yh.l2,hs,h1,hlast,Yh.j1];rw [if_pos h2.2,if_pos h2];by_cases c:p+127<x.lo
  ·rw [if_pos c]
   refine ⟨any,v,done,rest,rfl,el,hd,λj h0 h1=>?_,ha⟩;rw [el,hdn _ _ h0,e,Zi6 (λy hy=>?_)]
   ·exact hv j h0 h1
   ·rcases List.mem_cons.1 hy with rfl | hy
    ·simp [inB,show ¬ y.lo<=p+j by omega]
    ·have:=g2 y hy
     simp [inB,show ¬ y.lo<=p+j by omega]
  ·rw [if_neg c]
   have hx0:p<=x.hi:=by
    cases pre with
    | nil=>have:=hr x (by rw [e];rfl);omega
    | cons y pre=>
     have h3:=hr y (by rw [e];rfl);have h4:=g1 y (by simp);omega
   obtain ⟨v',f1,f2⟩:=Z4g (Yh.l2 k l p (done.length:Int)) l done rest p (pre.length:Int) x v hp hp1 el h1 hx0 (by omega) g4 (by omega) g5 g6 (nxt hrl e);rw [f1];refine ih (v',true) (λj h0 h1=>?_) (λh=>by cases h);show vg v' j=_;rw [f2 j h0 h1];by_cases c2:inB (p+j) x=true
   ·have:∀ y∈pre,inB (p+j) y=false:=λy hy=>by
     have:=g1 y (by simp [hy]);simp only [inB,Bool.and_eq_true,decide_eq_true_eq] at c2;simp [inB,show ¬ p+j<=y.hi by omega]
    rw [if_pos c2,Zi5 this,Zb4,if_pos c2]
   ·rw [if_neg c2,Zi6 (λy hy=>by rw [List.mem_singleton.1 hy];simpa using c2)]
    exact hv j h0 h1
theorem Z60 (l:List Val) (p:Int) (hl:Zb5 l) (hp:0<=p) (hp1:p<=1113984):∀ (rest done:List Val),l=done++rest->(∀ x∈done,x.hi<p)->Zwk Zeu l p (Yh.f l p (done.length:Int) Zeu):=by
 have hb:l.length<=Zv:=by have:=hl.1;unfold Zv;omega
 have key:∀ (rest done:List Val) (k:Nat),rest.length<k->l=done++rest->(∀ x∈done,x.hi<p)->Zwk Zeu l p (Yh.l3 k Zeu l p (done.length:Int)):=by
  intro rest
  induction rest with
  | nil=>
   intro done k hk e hd;obtain ⟨k,rfl⟩:∃ j,k=j+1:=⟨k-1,by simp at hk;omega⟩;have hlen:l.length=done.length:=by rw [e];simp
   simp only [Yh.l3,Yh.j2];rw [if_neg (by omega),if_neg (by decide),if_pos ⟨by omega,by omega,by omega⟩];exact Z1l l done [] p hl hp hp1 e hd (λx hx=>by cases hx)
  | cons x t ih=>
   intro done k hk e hd;obtain ⟨k,rfl⟩:∃ j,k=j+1:=⟨k-1,by simp at hk;omega⟩;obtain ⟨h1,h2⟩:=mid e;simp only [Yh.l3,Yh.j2,h1];rw [if_pos h2.2,if_pos h2];by_cases c:x.hi<p
   ·rw [if_pos (by simpa using c),nxt hb e]
    have:=ih (done++[x]) k (by simp at hk;omega) (by rw [e];simp) (λy hy=>by
     rcases List.mem_append.1 hy with hy | hy
     ·exact hd y hy
     ·rw [List.mem_singleton.1 hy];exact c)
    simpa using this
   ·rw [if_neg (by simpa using c),if_pos ⟨by omega,by omega,by omega⟩]
    exact Z1l l done (x::t) p hl hp hp1 e hd (λy hy=>by simp at hy;subst hy;exact c)
 intro rest done e hd;exact key rest done K0 (ltK (by rw [e] at hb;simp at hb;omega)) e hd
theorem Z4p (l:List Val) (p:Int) (hl:Zb5 l) (hp:0<=p) (hp1:p<=1113984) (rest done:List Val) (e:l=done++rest) (hd:∀ x∈done,x.hi<p):
  ∃ any v' done' rest',Xm.f p Zeu none l (done.length:Int)=some (any,v',(done'.length:Int))/\l=done'++rest'/\(∀ x∈done',x.hi<p)/\Zlc v' l p/\(any=false->v'=Zeu):=by
 obtain ⟨any,v',done',rest',f1,f2,f3,f4,f5⟩:=Z60 l p hl hp hp1 rest done e hd;refine ⟨any,v',done',rest',?_,f2,f3,f4,f5⟩;rw [Xm.f,if_neg (by decide),Xm.j2,f1,Option.bind_some];cases any<;>rfl
theorem Zyk (v:Blk):∃ w,Qn.f v=some w:=by
 unfold Qn.f;exact Zrj (λk i (_:Unit)=>Qn.l1 k v i) 128 (λi _ o=>0<=i->∃ w,o=some w)
  (λ_ k _=>⟨true,by simp only [Qn.l1];rw [if_neg (by decide)]⟩)
  (λi _ k hi ih h0=>by
   simp only [Qn.l1]
   rw [if_pos hi,if_pos ⟨h0,by omega⟩,if_pos ⟨by omega,by omega⟩]
   by_cases c:vg v i≠vg v 0
   ·exact ⟨false,by rw [if_pos c]⟩
   ·rw [if_neg c,w64 (by omega) (by omega)]
    exact ih () (by omega)) 128 0 () K0 (by omega) (by unfold K0;omega) (Int.le_refl _)
structure Z7g where
 flat:List Bool
 blks:List Blk
 seen:List (Blk×Int)
 which:Vector Int 8704
 past:Int
 plain:Int
structure Z57 (l:List Val) (i:Int) (s:Z7g):Prop where
 few:(s.blks.length:Int)<=i
 flat:s.flat.length=s.blks.length
 seen:∀ v j,U7 s.seen v=some j->0<=j/\j<(s.blks.length:Int)/\rd s.blks j=v
 which:∀ b:Int,0<=b->b<i->0<=vg s.which b/\vg s.which b<(s.blks.length:Int)/\Zlc (rd s.blks (vg s.which b)) l (128*b)
 plain:0<=s.plain->s.plain<(s.blks.length:Int)/\rd s.blks s.plain=Zeu
 past:∃ done rest,l=done++rest/\s.past=(done.length:Int)/\∀ x∈done,x.hi<128*i
def Zh9 (l:List Val) (T:Tab):Prop:=∀ b:Int,0<=b->b<8704->0<=vg T.which b/\vg T.which b<(T.unlike.length:Int)/\Zlc (rd T.unlike (vg T.which b)) l (128*b)
theorem Z2a {α:Type} [Inhabited α] {a b:List α} {i:Int} (h0:0<=i) (h1:i<(a.length:Int)):rd (a++b) i=rd a i:=by
 unfold rd;rw [List.getD_eq_getElem?_getD,List.getD_eq_getElem?_getD,List.getElem?_append_left (by omega)]
theorem Z18 {α:Type} [Inhabited α] {a:List α} {x:α}:rd (a++[x]) (a.length:Int)=x:=by simp [rd]
theorem Znn {l:List Val} {i w:Int} {W:Vector Int 8704} {U U':List Blk} {v:Blk} (hi0:0<=i) (hi1:i<8704) (hw0:0<=w) (hw1:w<(U'.length:Int)) (hv:rd U' w=v) (hh:Zlc v l (128*i)) (hU:∀ j:Int,0<=j->j<(U.length:Int)->j<(U'.length:Int)/\rd U' j=rd U j) (h:∀ b:Int,0<=b->b<i->0<=vg W b/\vg W b<(U.length:Int)/\Zlc (rd U (vg W b)) l (128*b)):
  ∀ b:Int,0<=b->b<i+1->0<=vg (Zec W i w) b/\vg (Zec W i w) b<(U'.length:Int)/\Zlc (rd U' (vg (Zec W i w) b)) l (128*b):=by
 intro b h0 h1;rw [Zxs W w hi0 (by omega) h0 (by omega)];by_cases c:i=b
 ·rw [if_pos c]
  subst c;exact ⟨hw0,hw1,by rw [hv];exact hh⟩
 ·rw [if_neg c]
  obtain ⟨a1,a2,a3⟩:=h b h0 (by omega);obtain ⟨b1,b2⟩:=hU _ a1 a2;exact ⟨a1,b1,by rw [b2];exact a3⟩
theorem Z4k (l:List Val) (hl:Zb5 l):∃ T r,Yc.f none l 0=some (some T,r)/\Zh9 l T:=by
 refine Zrj (λk i (s:Z7g)=>Yc.l1 k none l s.flat s.blks Zeu s.seen s.which s.past s.plain i) 8704
  (λi s o=>0<=i->Z57 l i s->∃ T r,o=some (some T,r)/\Zh9 l T) ?_ ?_ 8704 0 ⟨[],[],[],Vector.replicate 8704 0,0,-1⟩ K0 (by omega) (by unfold K0;omega) (Int.le_refl _) ?_
 ·intro s k _ h
  refine ⟨⟨s.which,s.blks,s.flat⟩,s.past,?_,h.which⟩;show Yc.l1 (k+1) none l s.flat s.blks Zeu s.seen s.which s.past s.plain 8704=_;rw [Yc.l1,if_neg (by decide)]
 ·intro i s k hi ih h0 h
  obtain ⟨done,rest,e1,e2,e3⟩:=h.past;have hpi:i32.wrap (i64.wrap (i*128))=128*i:=by rw [w64 (by omega) (by omega),w32 (by omega) (by omega)];omega
  obtain ⟨any,v',done',rest',f1,f2,f3,f4,f5⟩:=Z4p l (128*i) hl (by omega) (by omega) rest done e1 e3;have hpast:∃ d r,l=d++r/\(done'.length:Int)=(d.length:Int)/\∀ x∈d,x.hi<128*(i+1):=⟨done',rest',f2,rfl,λx hx=>by have:=f3 x hx;omega⟩;have hfew:=h.few;have hmost:∀ n:Nat,(n:Int)<=i->n+1<=most:=λn hn=>by unfold most;omega
  have hmostL:∀ n:Nat,(n:Int)<=i->n+1<=Zxa:=λn hn=>by unfold Zxa;omega
  have hbl:(Vector.replicate 128 0:Vector Int 128)=Zeu:=rfl;show ∃ T r,Yc.l1 (k+1) none l s.flat s.blks Zeu s.seen s.which s.past s.plain i=some (some T,r)/\Zh9 l T;rw [Yc.l1,if_pos hi,hpi,e2,f1,Option.bind_some];have fin:∀ (F:List Bool) (U:List Blk) (S:List (Blk×Int)) (w:Int),(U.length:Int)<=i+1->F.length=U.length->(∀ v j,U7 S v=some j->0<=j/\j<(U.length:Int)/\rd U j=v)->
    (∀ j:Int,0<=j->j<(s.blks.length:Int)->j<(U.length:Int)/\rd U j=rd s.blks j)->0<=w->w<(U.length:Int)->rd U w=v'->
    ∃ T r,Yc.j2 (Yc.l1 k none l) s.which s.plain i (any,v',(done'.length:Int)) F U S w=some (some T,r)/\Zh9 l T:=by
   intro F U S w a1 a2 a3 a4 a5 a6 a7;rw [Yc.j2,if_pos ⟨h0,by omega⟩];have hwhich:=Znn h0 hi a5 a6 a7 f4 a4 h.which
   cases any with
   | true=>
    rw [if_pos rfl,Yc.j1,w64 (x:=i+1) (by omega) (by omega),hbl];exact ih ⟨F,U,S,Zec s.which i w,(done'.length:Int),s.plain⟩ (by omega) ⟨a1,a2,a3,hwhich,λhp=>by obtain ⟨c1,c2⟩:=h.plain hp;obtain ⟨d1,d2⟩:=a4 _ hp c1;exact ⟨d1,by rw [d2];exact c2⟩,hpast⟩
   | false=>
    have hv:=f5 rfl;rw [if_neg (by simp),Yc.j1,w64 (x:=i+1) (by omega) (by omega),w64 (x:=w) (by omega) (by omega)];show ∃ T r,Yc.l1 k none l F U v' S (Zec s.which i w) (done'.length:Int) w (i+1)=some (some T,r)/\Zh9 l T;rw [hv];exact ih ⟨F,U,S,Zec s.which i w,(done'.length:Int),w⟩ (by omega) ⟨a1,a2,a3,hwhich,λ_=>⟨a6,by rw [a7,hv]⟩,hpast⟩
  have look:∃ T r,Yc.j3 (Yc.l1 k none l) s.flat s.blks s.seen s.which s.plain i (any,v',(done'.length:Int)) false=some (some T,r)/\Zh9 l T:=by
   rw [Yc.j3,if_neg (by decide)]
   cases em:U7 s.seen v' with
   | none=>
    obtain ⟨w,hw⟩:=Zyk v';dsimp only;rw [if_pos (by rfl),if_pos (show s.blks.length+[v'].length<=Zxa from hmostL _ hfew),hw,Option.bind_some,if_pos (show s.flat.length+[w].length<=most from hmost _ (by rw [h.flat];exact hfew)),w16 (by omega) (by omega)];refine fin _ _ _ _ (by simp;omega) (by simp [h.flat]) (λv j ej=>?_) (λj j0 j1=>⟨by simp;omega,Z2a j0 j1⟩) (by omega) (by simp;omega) Z18;rw [Zf8] at ej;by_cases c:v=v'
    ·rw [if_pos c] at ej
     have:(s.blks.length:Int)=j:=by simpa using ej
     subst this;exact ⟨by omega,by simp;omega,by rw [Z18,c]⟩
    ·rw [if_neg c] at ej
     obtain ⟨c1,c2,c3⟩:=h.seen v j ej;exact ⟨c1,by simp;omega,by rw [Z2a c1 c2];exact c3⟩
   | some w=>
    obtain ⟨c1,c2,c3⟩:=h.seen v' w em;rw [if_neg (by simp)];exact fin _ _ _ _ (by omega) h.flat h.seen (λj j0 j1=>⟨j1,rfl⟩) c1 c2 c3
  cases any with
  | true=>rw [if_neg (by simp)];exact look
  | false=>
   rw [if_pos (by rfl)];by_cases c:0<=s.plain
   ·obtain ⟨c1,c2⟩:=h.plain c
    have hv:=f5 rfl;rw [Yc.j3,if_pos (by simpa using c),if_pos ⟨h0,by omega⟩,Yc.j1,w64 (x:=i+1) (by omega) (by omega),w16 c (by omega)];show ∃ T r,Yc.l1 k none l s.flat s.blks v' s.seen (Zec s.which i s.plain) (done'.length:Int) s.plain (i+1)=some (some T,r)/\Zh9 l T;rw [hv];rw [hv] at f4;exact ih ⟨s.flat,s.blks,s.seen,Zec s.which i s.plain,(done'.length:Int),s.plain⟩ (by omega) ⟨by show (s.blks.length:Int)<=i+1;omega,h.flat,h.seen,Znn h0 hi c c1 c2 f4 (λj j0 j1=>⟨j1,rfl⟩) h.which,h.plain,hpast⟩
   ·rw [show decide (0<=s.plain)=false by simpa using c];exact look
 ·exact ⟨by simp,rfl,λv j e=>(by cases e),λb h0 h1=>(by omega),λh=>absurd h (by decide),[],l,rfl,rfl,λx hx=>(by cases hx)⟩
theorem Z0d (l:List Val) (hl:Zb5 l):∃ T,Hj.f l=some (some T,0,0)/\Zh9 l T:=by
 obtain ⟨T,r,h1,h2⟩:=Z4k l hl;refine ⟨T,?_,h2⟩;rw [Hj.f,H6.f,Zoa hl,Option.bind_some,if_neg (by decide),h1];rfl
theorem Zlv (h:∀ x∈l,0<=x.n/\x.n<=65535) (p:Int):0<=Zb4 l p/\Zb4 l p<=65535:=by
 induction l with
 | nil=>simp [Zb4]
 | cons x t ih=>
  unfold Zb4;split
  ·exact h x (List.mem_cons_self ..)
  ·exact ih λy hy=>h y (List.mem_cons_of_mem _ hy)
theorem Z4i (hl:Zb5 l) (hT:Zh9 l T) (p:Int) (h0:0<=p) (h1:p<=1114111):Z1.f (some T) p=some (Zb4 l p):=by
 have hq:p.tdiv 128=p/128:=Int.tdiv_eq_ediv_of_nonneg h0;have hm:p.tmod 128=p%128:=Int.tmod_eq_emod_of_nonneg h0;obtain ⟨a1,a2,a3⟩:=hT (p/128) (by omega) (by omega);have hv:=a3 (p%128) (by omega) (by omega);rw [show 128*(p/128)+p%128=p by omega] at hv;have hr:=Zlv (l:=l) (λx hx=>by
  have:=(Zdq hl.2 x hx).2.2.2;simpa [Zes] using this) p
 simp only [Z1.f,Z1.j1,hq,hm];rw [if_neg (by simp),if_neg (by omega),if_neg (by simp;omega),if_pos (by rfl),w32 (by omega) (by omega),if_pos ⟨by omega,by omega⟩];simp only [Option.getD_some];rw [if_pos ⟨a1,a2⟩,if_pos ⟨by omega,by omega⟩,hv,w64 (by omega) (by omega)]
theorem Znf (T:Option Tab) (p:Int) (h:p<0\/1114111<p):Z1.f T p=some 0:=by
 simp only [Z1.f,Z1.j1];split
 ·rfl
 ·split
  ·rfl
  ·rw [if_pos (by simp;omega)]
theorem Zsu (l:List Val):∃ a e,Xy.f l=some (a,e)/\(e=0->Zb5 l):=by
 unfold Xy.f;by_cases c:(65536:Int)<l.length
 ·exact ⟨_,_,by rw [if_pos c],λh=>absurd h (by decide)⟩
 ·rw [if_neg c]
  have hl:l.length<=Zv:=by unfold Zv;omega
  have:=Qe (λk i last=>Xy.l1 k l last i) l (λpre t last o=>∃ a e,o=some (a,e)/\(e=0->Vu (·.lo) (·.hi) Zes last t=true))
   (λs k=>⟨0,0,by simp only [Xy.l1,if_neg (show ¬ (l.length:Int)<(l.length:Int) by omega)],λ_=>rfl⟩)
   (λpre x t s k e ih=>by
    obtain ⟨h1,h2⟩:=mid e
    simp only [Xy.l1,if_pos h2.2,if_pos h2,h1,Xy.j2,Xy.j1,nxt hl e]
    by_cases c1:x.lo<=s
    ·exact ⟨_,80,by rw [if_pos c1,if_pos True.intro],λh=>absurd h (by decide)⟩
    ·rw [if_neg c1]
     by_cases c2:x.hi<x.lo
     ·exact ⟨_,80,by rw [if_pos c2,if_pos True.intro],λh=>absurd h (by decide)⟩
     ·rw [if_neg c2]
      by_cases c3:1114111<x.hi
      ·exact ⟨_,80,by rw [if_pos (by simpa using c3)],λh=>absurd h (by decide)⟩
      ·rw [if_neg (by simpa using c3)]
       by_cases c4:x.n<0
       ·exact ⟨_,81,by rw [if_pos c4,if_pos True.intro],λh=>absurd h (by decide)⟩
       ·rw [if_neg c4]
        by_cases c5:65535<x.n
        ·exact ⟨_,81,by rw [if_pos (by simpa using c5)],λh=>absurd h (by decide)⟩
        ·rw [if_neg (by simpa using c5)]
         obtain ⟨a,e2,h3,h4⟩:=ih x.hi
         refine ⟨a,e2,h3,λh=>?_⟩
         rw [Zcb c1 c2 c3 (by simp only [Zes,Bool.and_eq_true,decide_eq_true_eq];omega)]
         exact h4 h) (-1) K0 (ltK hl)
  obtain ⟨a,e,h1,h2⟩:=this;exact ⟨a,e,h1,λh=>⟨by omega,h2 h⟩⟩
def Zdn (l:List Val) (T:Option Tab):Prop:=(¬ Zb5 l->T=none)/\(Zb5 l->∃ t,T=some t/\Zh9 l t)
theorem Zkn (l:List Val):∃ T x y,Hj.f l=some (T,x,y)/\Zdn l T:=by
 by_cases c:Zb5 l
 ·obtain ⟨T,h1,h2⟩:=Z0d l c
  exact ⟨some T,0,0,h1,λh=>absurd c h,λ_=>⟨T,rfl,h2⟩⟩
 ·obtain ⟨a,e,h1,h2⟩:=Zsu l
  have he:e≠0:=λh=>c (h2 h);refine ⟨none,a,e,?_,λ_=>rfl,λh=>absurd h c⟩;rw [Hj.f,H6.f,h1,Option.bind_some,if_pos he];rfl
theorem Zoe (h:Zdn l T) (hl:Zb5 l) (p:Int) (h0:0<=p) (h1:p<=1114111):Z1.f T p=some (Zb4 l p):=by
 obtain ⟨t,rfl,ht⟩:=h.2 hl;exact Z4i hl ht p h0 h1
theorem Zg8 (l:List Val):∃ T,Kb.f l=some T/\Zdn l T:=by
 obtain ⟨T,x,y,h1,h2⟩:=Zkn l;exact ⟨T,by rw [Kb.f,h1];rfl,h2⟩
def Zlo (l:List Spn):List Val:=l.map λx=>⟨x.lo,x.hi,1⟩
theorem Zpw (l:List Spn) (hl:l.length<=Zv):∃ T,V7.f l=some T/\Zdn (Zlo l) T:=by
 obtain ⟨T,x,y,h1,h2⟩:=Zkn (Zlo l);refine ⟨T,?_,h2⟩;refine Qe (λk i s=>V7.l1 k l s i) l (λpre t s o=>s=Zlo pre->o=some T) ?_ ?_ [] K0 (ltK hl) rfl
 ·intro s k hs
  simp only [V7.l1,if_neg (show ¬ (l.length:Int)<(l.length:Int) by omega),hs,h1];rfl
 ·intro pre x t s k e ih hs
  obtain ⟨h3,h4⟩:=mid e;have hp:pre.length<=Zv:=by rw [e] at hl;simp at hl;omega
  simp only [V7.l1,if_pos h4.2,if_pos h4,h3,nxt hl e];rw [if_pos (by rw [hs,Zlo,List.length_map];exact Zrm hp (Nat.le_refl _))];exact ih _ (by rw [hs];simp [Zlo])
def Zfj:Int->List Chs->List Val
 | _,[]=>[]
 | i,x::t=>⟨x.lo,x.hi,i+1⟩::Zfj (i+1) t
theorem Ztr:∀ (i:Int) (l:List Chs),(Zfj i l).length=l.length
 | _,[]=>rfl
 | i,x::t=>by simp [Zfj,Ztr (i+1) t]
theorem Ztq:∀ (i:Int) (a b:List Chs),Zfj i (a++b)=Zfj i a++Zfj (i+a.length) b
 | i,[],b=>by simp [Zfj]
 | i,x::a,b=>by
  simp only [List.cons_append,Zfj,Ztq (i+1) a b,List.length_cons]
  rw [show i+1+(a.length:Int)=i+((a.length+1:Nat):Int) by omega]
theorem Zhj (l:List Chs) (hl:l.length<=Zv):∃ T,Yi.f l=some T/\Zdn (Zfj 0 l) T:=by
 obtain ⟨T,x,y,h1,h2⟩:=Zkn (Zfj 0 l);refine ⟨T,?_,h2⟩;refine Qe (λk i s=>Yi.l1 k l s i) l (λpre t s o=>s=Zfj 0 pre->o=some T) ?_ ?_ [] K0 (ltK hl) rfl
 ·intro s k hs
  simp only [Yi.l1,if_neg (show ¬ (l.length:Int)<(l.length:Int) by omega),hs,h1];rfl
 ·intro pre x t s k e ih hs
  obtain ⟨h3,h4⟩:=mid e;have hp:pre.length<=Zv:=by rw [e] at hl;simp at hl;omega
  simp only [Yi.l1,if_pos h4.2,if_pos h4,h3,Vn.f,Option.bind_some,nxt hl e];rw [if_pos (by rw [hs,Ztr];exact Zrm hp (Nat.le_refl _))];exact ih _ (by rw [hs,Ztq];simp [Zfj])
theorem Zgi {α:Type} (h:n<=Zv):([]:List α).length+n<=most:=by unfold Zv at h;unfold most;simp;omega
theorem Zmw (l:List Val) (h:l.length<=Zv):Yy.f l=some l:=by rw [Yy.f,if_pos (Zgi h)];rfl
theorem Z6m (l:List ByteArray) (h:l.length<=Zv):Vm.f l=some l:=by rw [Vm.f,if_pos (Zgi h)];rfl
theorem Z6l (l:List Chs) (h:l.length<=Zv):Ko.f l=some l:=by rw [Ko.f,if_pos (Zgi h)];rfl
theorem Z0e (l:List Spn) (h:l.length<=Zv):Qv.f l=some l:=by rw [Qv.f,if_pos (Zgi h)];rfl
theorem Zg7 (l:List Int) (h:l.length<=Zv):Xj.f l=some l:=by rw [Xj.f,if_pos (Zgi h)];rfl
theorem Zvf (l:List Chs) (hl:l.length<=Zv) (hi:∀ x∈l,x.is_.length<=Zv):Hq.f l=some l:=by
 rw [Hq.f,Z6l l hl,Option.bind_some];refine Qe (λk i s=>Hq.l1 k l s i) l (λpre t s o=>s=l->o=some l) ?_ ?_ l K0 (ltK hl) rfl
 ·intro s k hs
  simp only [Hq.l1,if_neg (show ¬ (l.length:Int)<(l.length:Int) by omega),hs]
 ·intro pre x t s k e ih hs
  obtain ⟨h3,h4⟩:=mid e;rw [hs];simp only [Hq.l1,if_pos h4.2,if_pos h4,h3,nxt hl e,Zg7 _ (hi x (by rw [e];simp)),Option.bind_some];refine ih _ ?_;rw [Int.toNat_natCast];rw [e];simp
theorem Zye (b:Bk) (hb:Few b):Zcx.f b=some b:=by
 rw [Zcx.f,Z6m _ hb.names,Option.bind_some,Zmw _ hb.status,Option.bind_some,Zvf _ hb.maps hb.mapsI,Option.bind_some,Zmw _ hb.class_,Option.bind_some,
  Zvf _ hb.decomp hb.decompI,Option.bind_some,Z0e _ hb.excl,Option.bind_some,Zmw _ hb.bidi,Option.bind_some,Zmw _ hb.join,Option.bind_some,Z0e _ hb.marks,Option.bind_some,
  Zmw _ hb.script,Option.bind_some,Zvf _ hb.like hb.likeI,Option.bind_some]
theorem Zfc (l:List Val) (hl:l.length<=Zv):Kn.f l=some l:=by
 have:=Zfa (λk i s=>Kn.l1 k l s i) l (λx=>(⟨x.lo,x.hi,x.n⟩:Val)) hl
  (λs k=>by simp only [Kn.l1,if_neg (show ¬ (l.length:Int)<(l.length:Int) by omega)])
  (λpre x t s k e hs=>by
   obtain ⟨h1,h2⟩:=mid e
   simp only [Kn.l1,if_pos h2.2,if_pos h2,h1,nxt hl e]
   exact if_pos hs)
 rw [Kn.f,this];simp
theorem Zp5 (l:List Spn) (hl:l.length<=Zv):Uf.f l=some l:=by
 have:=Zfa (λk i s=>Uf.l1 k l s i) l (λx=>(⟨x.lo,x.hi⟩:Spn)) hl
  (λs k=>by simp only [Uf.l1,if_neg (show ¬ (l.length:Int)<(l.length:Int) by omega)])
  (λpre x t s k e hs=>by
   obtain ⟨h1,h2⟩:=mid e
   simp only [Uf.l1,if_pos h2.2,if_pos h2,h1,nxt hl e]
   exact if_pos hs)
 rw [Uf.f,this];simp
theorem Zk3 (l:List Chs) (hl:l.length<=Zv) (hi:∀ x∈l,x.is_.length<=Zv):Vz.f l=some l:=by
 have:=Zfa (λk i s=>Vz.l1 k l s i) l (λx=>(⟨x.lo,x.hi,x.is_⟩:Chs)) hl
  (λs k=>by simp only [Vz.l1,if_neg (show ¬ (l.length:Int)<(l.length:Int) by omega)])
  (λpre x t s k e hs=>by
   obtain ⟨h1,h2⟩:=mid e
   simp only [Vz.l1,if_pos h2.2,if_pos h2,h1,nxt hl e]
   rw [if_pos (Zgi (hi x (by rw [e];simp)))]
   exact if_pos hs)
 rw [Vz.f,this];simp
theorem Z5p (b:Bk) (hb:Few b):Zfb.f b=some b:=by
 rw [Zfb.f,if_pos (Zgi hb.names),Zfc _ hb.status,Option.bind_some,Zk3 _ hb.maps hb.mapsI,Option.bind_some,Zfc _ hb.class_,Option.bind_some,
  Zk3 _ hb.decomp hb.decompI,Option.bind_some,Zp5 _ hb.excl,Option.bind_some,Zfc _ hb.bidi,Option.bind_some,Zfc _ hb.join,Option.bind_some,Zp5 _ hb.marks,Option.bind_some,
  Zfc _ hb.script,Option.bind_some,Zk3 _ hb.like hb.likeI,Option.bind_some]
 rfl
structure Zqk (b:Bk) (t:Tbs):Prop where
 book:t.b=b
 status:Zdn b.status t.status
 class_:Zdn b.class_ t.class_
 bidi:Zdn b.bidi t.bidi
 join:Zdn b.join t.join
 script:Zdn b.script t.script
 excl:Zdn (Zlo b.excl) t.excl
 mark:Zdn (Zlo b.marks) t.mark
 maps:Zdn (Zfj 0 b.maps) t.maps
 decomp:Zdn (Zfj 0 b.decomp) t.decomp
 likes:Zdn (Zfj 0 b.like) t.likes
 pairs:b.decomp=[]->t.pairs=[]
theorem Zea (l:List Val) (T:Option Tab) (h:Zdn l T) (p:Int):∃ r,Z1.f T p=some r:=by
 by_cases c:p<0\/1114111<p
 ·exact ⟨_,Znf T p c⟩
 ·by_cases hl:Zb5 l
  ·exact ⟨_,Zoe h hl p (by omega) (by omega)⟩
  ·exact ⟨0,by rw [h.1 hl,Z1.f];simp [Z1.j1]⟩
theorem Zqr (b:Bk) (hb:Dok b.decomp) {T1 T2 T3 T4 T5 T6 T7 T8 T9 T10:Option Tab} (h2:Zdn b.class_ T2) (h6:Zdn (Zlo b.excl) T6):
  ∃ ps,Zl.l1 K0 b T1 T2 T3 T4 T5 T6 T7 T8 T9 T10 [] 0=some (some ⟨b,T1,T2,T3,T4,T5,T6,T7,T8,T9,T10,ps⟩,0)/\(b.decomp=[]->ps=[]):=by
 by_cases hnil:b.decomp=[]
 ·refine ⟨[],?_,λ_=>rfl⟩
  obtain ⟨k,hk⟩:∃ k,K0=k+1:=⟨1180591620717411303423,rfl⟩;rw [hk];have hz:¬ (0:Int)<(b.decomp.length:Int):=by rw [hnil];simp
  simp only [Zl.l1,if_neg hz]
 suffices h:∃ ps,Zl.l1 K0 b T1 T2 T3 T4 T5 T6 T7 T8 T9 T10 [] 0=some (some ⟨b,T1,T2,T3,T4,T5,T6,T7,T8,T9,T10,ps⟩,0) from h.imp λ_ h=>⟨h,λe=>absurd e hnil⟩;have hl:b.decomp.length<=Zv:=by have:=hb.len;unfold Zv;omega
 refine Qe (λk i s=>Zl.l1 k b T1 T2 T3 T4 T5 T6 T7 T8 T9 T10 s i) b.decomp
  (λpre t s o=>∃ ps,o=some (some ⟨b,T1,T2,T3,T4,T5,T6,T7,T8,T9,T10,ps⟩,0)) ?_ ?_ [] K0 (ltK hl)
 ·intro s k
  exact ⟨s,by simp only [Zl.l1,if_neg (show ¬ (b.decomp.length:Int)<(b.decomp.length:Int) by omega)]⟩
 ·intro pre x t s k e ih
  obtain ⟨h3,h4⟩:=mid e;obtain ⟨r1,e1⟩:=Zea _ _ h6 x.lo;obtain ⟨r2,e2⟩:=Zea _ _ h2 x.lo;obtain ⟨r3,e3⟩:=Zea _ _ h2 (rd x.is_ 0);simp only [Zl.l1,if_pos h4.2,if_pos h4,h3,Zl.j2,Zl.j1,nxt hl e,e1,e2,e3,Option.bind_some];by_cases c1:(x.is_.length:Int)=2
  ·rw [if_pos c1]
   by_cases c2:r1=0
   ·rw [if_pos c2]
    by_cases c3:r2=0
    ·rw [if_pos c3,if_pos ⟨Int.le_refl _,by omega⟩]
     by_cases c4:r3=0
     ·rw [if_pos (by simpa using c4),if_pos ⟨by omega,by omega⟩,if_pos ⟨by omega,by omega⟩];exact ih _
     ·rw [if_neg (by simpa using c4)];exact ih _
    ·rw [if_neg c3,if_neg (by decide)];exact ih _
   ·rw [if_neg c2,if_neg (by decide)];exact ih _
  ·rw [if_neg c1,if_neg (by decide)];exact ih _
theorem Zno (h:okB b=true):Dok b.decomp:=by
 unfold okB at h;simp only [Bool.and_eq_true] at h;exact Dok.mk' h.2.2.2.2.1
theorem Zum (b:Bk) (hb:Few b) (h:okB b=true):∃ t,Zl.f b=some (some t,0)/\Zqk b t:=by
 obtain ⟨p,hp⟩:=Zib b;rw [h] at hp;obtain ⟨T1,e1,h1⟩:=Zg8 b.status;obtain ⟨T2,e2,h2⟩:=Zg8 b.class_;obtain ⟨T3,e3,h3⟩:=Zg8 b.bidi;obtain ⟨T4,e4,h4⟩:=Zg8 b.join;obtain ⟨T5,e5,h5⟩:=Zg8 b.script;obtain ⟨T6,e6,h6⟩:=Zpw b.excl hb.excl;obtain ⟨T7,e7,h7⟩:=Zpw b.marks hb.marks;obtain ⟨T8,e8,h8⟩:=Zhj b.maps hb.maps;obtain ⟨T9,e9,h9⟩:=Zhj b.decomp hb.decomp;obtain ⟨T10,e10,h10⟩:=Zhj b.like hb.like;obtain ⟨ps,hps,hpn⟩:=Zqr b (Zno h) (T1:=T1) (T3:=T3) (T4:=T4) (T5:=T5) (T7:=T7) (T8:=T8) (T9:=T9) (T10:=T10) h2 h6;refine ⟨⟨b,T1,T2,T3,T4,T5,T6,T7,T8,T9,T10,ps⟩,?_,⟨rfl,h1,h2,h3,h4,h5,h6,h7,h8,h9,h10,hpn⟩⟩;rw [Zl.f,hp,Option.bind_some,if_neg (by simp),Zye b hb,Option.bind_some,Zl.t10,e1,Option.bind_some,Zl.t9,e2,Option.bind_some,Zl.t8,e3,Option.bind_some,
  Zl.t7,e4,Option.bind_some,Zl.t6,e5,Option.bind_some,Zl.t5,e6,Option.bind_some,Zl.t4,e7,Option.bind_some,Zl.t3,e8,Option.bind_some,
  Zl.t2,e9,Option.bind_some,Zl.t1,e10,Option.bind_some,Zl.j3,hps]
structure Tb (t:Option Tbs) (key:Int->Int) (pa:Int->List Int) (n:Nat):Prop where
 cls:Cls t key
 nn:∀ p,0<=key p
 parts:∀ p,Ho.f t p=some (pa p)
 dep:∀ c,Lc pa n c<=18
 few:n<=Zv
theorem Z47:Tb none (λ_=>0) (λ_=>[]) 0:=by
 refine ⟨λp=>rfl,λp=>Int.le_refl 0,λp=>rfl,λc=>?_,by unfold Zv;omega⟩;simp [Lc]
theorem Zzo {P Q:Int->List Int} (h:∀ c,P c=Q c\/P c=[]):∀ (n:Nat) (c:Int),Lc P n c<=Lc Q n c
 | 0,c=>by
  rcases h c with e | e
  ·simp [Lc,e]
  ·rw [Zdb e];exact (Zdk Q 0 c).1
 | n+1,c=>by
  rcases h c with e | e
  ·by_cases e0:Q c=[]
   ·rw [Zdb e0,Zdb (e.trans e0)];omega
   ·rw [Lc,if_neg (by rw [e];exact e0),Lc,if_neg e0,e]
    exact Zss (Zh3 λx _=>Zzo h n x)
  ·rw [Zdb e];exact (Zdk Q (n+1) c).1
theorem Zxb (p:Int):∀ (D:List Chs) (i:Int),(Zb4 (Zfj i D) p=0/\paP D p=[])\/(0<=i->∃ j:Nat,j<D.length/\Zb4 (Zfj i D) p=i+j+1/\(rd D (j:Int)).is_=paP D p)\/i<0
 | [],i=>.inl ⟨rfl,rfl⟩
 | x::D,i=>by
  by_cases hi:i<0
  ·exact .inr (.inr hi)
  by_cases c:x.lo<=p/\p<=x.hi
  ·refine .inr (.inl λ_=>⟨0,by simp,?_,?_⟩)
   ·simp [Zfj,Zb4,inB,c.1,c.2]
   ·simp [rd,paP,c.1,c.2]
  ·have hb:inB p ⟨x.lo,x.hi,i+1⟩=false:=by
    simp only [inB,Bool.and_eq_false_iff,decide_eq_false_iff_not];by_cases c1:x.lo<=p
    ·exact .inr λc2=>c ⟨c1,c2⟩
    ·exact .inl c1
   rcases Zxb p D (i+1) with ⟨h1,h2⟩ | h | h
   ·refine .inl ⟨?_,?_⟩
    ·rw [Zfj,Zb4,if_neg (by rw [hb];decide)];exact h1
    ·rw [paP,if_neg c];exact h2
   ·refine .inr (.inl λ_=>?_)
    obtain ⟨j,h1,h2,h3⟩:=h (by omega);refine ⟨j+1,by simp;omega,?_,?_⟩
    ·rw [Zfj,Zb4,if_neg (by rw [hb];decide),h2];omega
    ·rw [paP,if_neg c,<- h3]
     unfold rd;have e1:((j+1:Nat):Int).toNat=j+1:=by omega
     have e2:((j:Nat):Int).toNat=j:=by omega
     rw [e1,e2];rfl
   ·exact .inr (.inr (by omega))
theorem Zvr (hT:Zdn (Zfj 0 D) T) (hl:∀ x∈D,x.is_.length<=Zv) (hD:D.length<=Zv) (p:Int):∃ l,Zbv.f T D p=some l/\(l=paP D p\/l=[]):=by
 have hz:Z1.f T p=some 0->∃ l,Zbv.f T D p=some l/\(l=paP D p\/l=[]):=by intro h;exact ⟨[],by rw [Zbv.f,h,Option.bind_some,if_pos rfl],.inr rfl⟩
 by_cases c:p<0\/1114111<p
 ·exact hz (Znf T p c)
 ·by_cases hr:Zb5 (Zfj 0 D)
  ·have hv:=Zoe hT hr p (by omega) (by omega)
   rcases Zxb p D 0 with ⟨h1,h2⟩ | h | h
   ·exact hz (by rw [hv,h1])
   ·obtain ⟨j,h1,h2,h3⟩:=h (Int.le_refl _)
    rw [h2] at hv;unfold Zv at hD;have w1:i64.wrap (0+(j:Int)+1-1)=(j:Int):=by rw [w64 (by omega) (by omega)];omega
    refine ⟨paP D p,?_,.inl rfl⟩;rw [Zbv.f,hv,Option.bind_some,if_neg (by omega),w1,if_pos ⟨by omega,by omega⟩,h3];have hm:(paP D p).length<=Zv:=by rw [<- h3];exact hl _ (Zk2 (by omega) (by omega))
    rw [Zg7 _ hm];rfl
   ·omega
  ·have:=hT.1 hr
   exact hz (by rw [this,Z1.f];simp [Z1.j1])
theorem Z0f (h:Z3v a b l=true) (ha:0<=a) (hb:b<=65535):Zb5 l:=by
 simp only [Z3v,Zav,Bool.and_eq_true,decide_eq_true_eq] at h;refine ⟨h.1,?_⟩;have:∀ (l:List Val) (last:Int),Vu (·.lo) (·.hi) (λx:Val=>decide (a<=x.n)&&decide (x.n<=b)&&!Zar x.lo x.hi) last l=true->Vu (·.lo) (·.hi) Zes last l=true:=by
  intro l
  induction l with
  | nil=>intro _ _;rfl
  | cons x t ih=>
   intro last h;simp only [Vu,Bool.and_eq_true,decide_eq_true_eq] at h ⊢;refine ⟨⟨h.1.1,?_⟩,ih _ h.2⟩;have:=h.1.2.1;simp only [Zes,Bool.and_eq_true,decide_eq_true_eq];omega
 exact this l _ h.2
theorem Zri (l:List Val) (T:Option Tab) (h:Zdn l T) (hl:Zb5 l) (p:Int):∃ r,Z1.f T p=some r/\0<=r:=by
 by_cases c:p<0\/1114111<p
 ·exact ⟨_,Znf T p c,Int.le_refl _⟩
 ·exact ⟨_,Zoe h hl p (by omega) (by omega),(Zlv (λx hx=>by
   have:=(Zdq hl.2 x hx).2.2.2;simpa [Zes] using this) p).1⟩
theorem Zpy (h:okB b=true):Zb5 b.class_:=by
 unfold okB at h;simp only [Bool.and_eq_true] at h;exact Z0f h.2.2.2.1 (by omega) (by omega)
theorem Z10 (h:okB b=true):Ze6 b.decomp [] b.decomp=true:=by
 unfold okB at h;simp only [Bool.and_eq_true] at h;exact h.2.2.2.2.2.2.2.2.2.2.2
theorem Ztb:∀ {l pre:List Chs},Ze6 D pre l=true->∀ x∈l,Lc (paP D) (D.length+1) x.lo<=18
 | [],_,_,_,hx=>by cases hx
 | y::l,pre,h,x,hx=>by
  simp only [Ze6,Bool.and_eq_true,decide_eq_true_eq] at h
  rcases List.mem_cons.1 hx with rfl | hx
  ·exact h.1.1
  ·exact Ztb h.2 x hx
theorem Zy2 (h:∀ x∈D,x.lo=x.hi) (c:Int):paP D c=[]\/∃ x∈D,x.lo=c:=by
 induction D with
 | nil=>exact .inl rfl
 | cons x D ih=>
  by_cases e:x.lo=c
  ·exact .inr ⟨x,by simp,e⟩
  ·have:=h x (by simp)
   rw [paP,if_neg (by omega)]
   rcases ih (λy hy=>h y (by simp [hy])) with h1 | ⟨y,h1,h2⟩
   ·exact .inl h1
   ·exact .inr ⟨y,by simp [h1],h2⟩
theorem Z48 (hb:Few b) (h:okB b=true) (ht:Zqk b t):∃ key pa,Tb (some t) key pa (b.decomp.length+1):=by
 have hD:=Zno h;refine ⟨λp=>(Z1.f t.class_ p).getD 0,λp=>(Zbv.f t.decomp b.decomp p).getD [],λp=>?_,λp=>?_,λp=>?_,λc=>?_,by have:=hD.len;unfold Zv;omega⟩
 ·obtain ⟨r,h1,_⟩:=Zri _ _ ht.class_ (Zpy h) p
  simp only [Kk.f,Option.isNone_some,Bool.false_eq_true,if_false,Option.isSome_some,if_true,Option.getD_some,h1,Option.bind_some]
 ·obtain ⟨r,h1,h2⟩:=Zri _ _ ht.class_ (Zpy h) p
  simp only [h1,Option.getD_some];exact h2
 ·obtain ⟨l,h1,_⟩:=Zvr ht.decomp hb.decompI hb.decomp p
  simp only [Ho.f,Option.isNone_some,Bool.false_eq_true,if_false,Option.isSome_some,if_true,Option.getD_some,ht.book,h1,Option.bind_some]
 ·refine Int.le_trans (Zzo (Q:=paP b.decomp) (λc=>?_) _ c) ?_
  ·obtain ⟨l,h1,h2⟩:=Zvr ht.decomp hb.decompI hb.decomp c
   simp only [h1,Option.getD_some];exact h2
  ·rcases Zy2 hD.one c with e | ⟨x,hx,rfl⟩
   ·rw [Zdb e];omega
   ·exact Ztb (Z10 h) x hx
def Zlz (c:Int):Int×Int×Int×Bool:=(Q4.f c).getD default
theorem Z2y (c:Int):Q4.f c=some (Zlz c):=by
 have:∃ r,Q4.f c=some r:=by
  unfold Q4.f;simp only [Q4.j2,Q4.j1];split
  ·exact ⟨_,if_pos trivial⟩
  ·split
   ·exact ⟨_,rfl⟩
   ·split<;>exact ⟨_,rfl⟩
 obtain ⟨r,hr⟩:=this;rw [Zlz,hr];rfl
def Zzi (c:Int):List Int:=if (Zlz c).2.2.1=0 then [(Zlz c).1,(Zlz c).2.1] else [(Zlz c).1,(Zlz c).2.1,(Zlz c).2.2.1]
def Zd5 (pa:Int->List Int):Nat->Int->List Int
 | 0,c=>if (Zlz c).2.2.2=true then Zzi c else [c]
 | n+1,c=>if (Zlz c).2.2.2=true then Zzi c else if pa c=[] then [c] else (pa c).flatMap (Zd5 pa n)
theorem Zxk (c:Int):(Zzi c).length<=3:=by unfold Zzi;split<;>simp
theorem Zj0 {pa:Int->List Int}:∀ (n:Nat) (c:Int),Lc pa n c<=18->((Zd5 pa n c).length:Int)<=3*Lc pa n c
 | 0,c,h=>by
  have:=Zdk pa 0 c
  have:=Zxk c
  unfold Zd5
  split
  ·omega
  ·simp;omega
 | n+1,c,h=>by
  have h1:=Zdk pa (n+1) c
  have h2:=Zxk c
  unfold Zd5
  split
  ·omega
  ·split
   ·simp;omega
   ·rename_i _ e
    rw [Lc,if_neg e] at h ⊢
    have hs:Zby (Lc pa n) (pa c)<=18:=by unfold cap at h;split at h<;>omega
    have hcap:cap (Zby (Lc pa n) (pa c))=Zby (Lc pa n) (pa c):=by unfold cap;rw [if_neg (by omega)]
    rw [hcap]
    have:∀ l:List Int,Zby (Lc pa n) l<=18->((l.flatMap (Zd5 pa n)).length:Int)<=3*Zby (Lc pa n) l:=by
     intro l
     induction l with
     | nil=>intro _;simp [Zby]
     | cons x l ih=>
      intro hl;simp only [Zby] at hl ⊢;have a1:=Zdk pa n x;have a2:0<=Zby (Lc pa n) l:=by have:=Zff (f:=Lc pa n) (l:=l) (λy _=>(Zdk pa n y).1);omega
      have:=Zj0 (pa:=pa) n x (by omega);have:=ih (by omega);simp only [List.flatMap_cons,List.length_append];omega
    exact this _ hs
theorem Z4c {key:Int->Int} {pa:Int->List Int} (h:Tb t key pa m):∀ (n:Nat) (c:Int) (k:Nat),Lc pa n c<=18->n<k->Kl.f k t c=some (Zd5 pa n c):=by
 intro n
 induction n with
 | zero=>
  intro c k hc hk;obtain ⟨k,rfl⟩:∃ j,k=j+1:=⟨k-1,by omega⟩;rw [Kl.f,Kl.b,Z2y,Option.bind_some,Zd5];by_cases s1:(Zlz c).2.2.2=true
  ·rw [if_pos s1,if_pos s1,Zzi];split<;>rfl
  ·have e:pa c=[]:=by
    by_cases e:pa c=[]
    ·exact e
    ·simp [Lc,e] at hc
   rw [if_neg s1,if_neg s1,h.parts c,Option.bind_some,e,if_pos (by simp)]
 | succ n ih=>
  intro c k hc hk;obtain ⟨k,rfl⟩:∃ j,k=j+1:=⟨k-1,by omega⟩;rw [Kl.f,Kl.b,Z2y,Option.bind_some,Zd5];by_cases s1:(Zlz c).2.2.2=true
  ·rw [if_pos s1,if_pos s1,Zzi];split<;>rfl
  ·rw [if_neg s1,if_neg s1,h.parts c,Option.bind_some]
   by_cases e:pa c=[]
   ·rw [if_pos e,e,if_pos (by simp)]
   ·rw [if_neg e,if_neg (by have:=List.length_pos_iff.2 e;omega)]
    rw [Lc,if_neg e] at hc;have hs:Zby (Lc pa n) (pa c)<=18:=by unfold cap at hc;split at hc<;>omega
    have hl:((pa c).length:Int)<=18:=by have:=Zff (f:=Lc pa n) (l:=pa c) (λy _=>(Zdk pa n y).1);omega
    have hk1:∀ x∈pa c,Lc pa n x<=18:=λx hx=>by
     have:=Zmg (f:=Lc pa n) (l:=pa c) (λy _=>(Zdk pa n y).1) x hx;omega
    have key:∀ (l acc:List Int) (pre:List Int) (q:Nat),pa c=pre++l->l.length<q->acc.length+54*l.length<=5400->Kl.l1 q (Kl.f k) t (pa c) acc (pre.length:Int)=some (acc++l.flatMap (Zd5 pa n)):=by
     intro l
     induction l with
     | nil=>
      intro acc pre q e1 hq ha;obtain ⟨q,rfl⟩:∃ j,q=j+1:=⟨q-1,by omega⟩;have:(pa c).length=pre.length:=by rw [e1];simp
      simp only [Kl.l1,this,if_neg (show ¬ (pre.length:Int)<(pre.length:Int) by omega)];simp
     | cons x l ihl=>
      intro acc pre q e1 hq ha;obtain ⟨q,rfl⟩:∃ j,q=j+1:=⟨q-1,by omega⟩;simp only [List.length_cons] at hq ha;obtain ⟨m1,m2⟩:=mid e1;have hx:=hk1 x (by rw [e1];simp);have hfl:=Zj0 n x hx;have hlen:(pa c).length<=Zv:=by unfold Zv;omega
      simp only [Kl.l1,if_pos m2.2,if_pos m2,m1,ih x k hx (by omega),Option.bind_some,nxt hlen e1];rw [if_pos (by unfold most;omega)];have:=ihl (acc++Zd5 pa n x) (pre++[x]) q (by rw [e1];simp) (by omega) (by simp;omega);have e2:((pre++[x]).length:Int)=(pre.length:Int)+1:=by simp
      rw [e2] at this;rw [this];simp
    have:=key (pa c) [] [] K0 rfl (ltK (by unfold Zv;omega)) (by simp;omega);simpa using this
theorem Z13 {key:Int->Int} {pa:Int->List Int} (h:Tb t key pa n) (l:List Int) (hl:54*l.length<=Zv):Uy.f t l=some (l.flatMap (Zd5 pa n)):=by
 have key:∀ (r acc pre:List Int) (q:Nat),l=pre++r->r.length<q->acc.length+54*r.length<=Zv->Uy.l1 q t l acc (pre.length:Int)=some (acc++r.flatMap (Zd5 pa n)):=by
  intro r
  induction r with
  | nil=>
   intro acc pre q e1 hq ha;obtain ⟨q,rfl⟩:∃ j,q=j+1:=⟨q-1,by omega⟩;have:l.length=pre.length:=by rw [e1];simp
   simp only [Uy.l1,this,if_neg (show ¬ (pre.length:Int)<(pre.length:Int) by omega)];simp
  | cons x r ihl=>
   intro acc pre q e1 hq ha;obtain ⟨q,rfl⟩:∃ j,q=j+1:=⟨q-1,by omega⟩;simp only [List.length_cons] at hq ha;obtain ⟨m1,m2⟩:=mid e1;have hx:=h.dep x;have hfl:=Zj0 n x hx;have hlen:l.length<=Zv:=by omega
   have hbig:=ha;unfold Zv at hbig;simp only [Uy.l1,if_pos m2.2,if_pos m2,m1,Z4c h n x K0 hx (ltK h.few),Option.bind_some,nxt hlen e1];rw [if_pos (by unfold most;omega)];have:=ihl (acc++Zd5 pa n x) (pre++[x]) q (by rw [e1];simp) (by omega) (by simp;omega);have e2:((pre++[x]).length:Int)=(pre.length:Int)+1:=by simp
   rw [e2] at this;rw [this];simp
 have:=key l [] [] K0 rfl (ltK (by omega)) (by simpa using hl);simpa [Uy.f] using this
theorem Zhg {key:Int->Int} {pa:Int->List Int} (h:Tb t key pa n):∀ (l:List Int),(l.flatMap (Zd5 pa n)).length<=54*l.length
 | []=>by simp
 | x::l=>by
  have:=Zhg h l
  have:=Zj0 n x (h.dep x)
  have:=h.dep x
  simp only [List.flatMap_cons,List.length_append,List.length_cons];omega
theorem Zqv {key:Int->Int} {pa:Int->List Int} (h:Tb t key pa n) (l:List Int) (hl:54*l.length<=Zv):Zam.f t l=some (Zk0 key (l.flatMap (Zd5 pa n))):=by
 have:=Zhg h l;rw [Zam.f,Z13 h l hl,Option.bind_some,Z11 h.cls _ (by omega)];rfl
theorem Z2q (a b:List Int) (hb:a.length<=Zv):Zat.f a b=some (decide (a=b)):=by
 unfold Zat.f;by_cases c:(a.length:Int)=(b.length:Int)
 ·rw [if_neg (by omega)]
  have key:∀ (s pre u preb:List Int) (q:Nat),a=pre++s->b=preb++u->pre=preb->s.length<q->Zat.l1 q a b (pre.length:Int)=some (decide (s=u)):=by
   intro s
   induction s with
   | nil=>
    intro pre u preb q e1 e2 e3 hq;obtain ⟨q,rfl⟩:∃ j,q=j+1:=⟨q-1,by omega⟩;have hl:a.length=pre.length:=by rw [e1];simp
    obtain rfl:u=[]:=by
     apply List.eq_nil_of_length_eq_zero;have:b.length=preb.length+u.length:=by rw [e2];simp
     subst e3;omega
    simp only [Zat.l1,hl,if_neg (show ¬ (pre.length:Int)<(pre.length:Int) by omega)];rfl
   | cons x s ih=>
    intro pre u preb q e1 e2 e3 hq;obtain ⟨q,rfl⟩:∃ j,q=j+1:=⟨q-1,by omega⟩;simp only [List.length_cons] at hq;have la:a.length=pre.length+(s.length+1):=by rw [e1];simp
    have lb:b.length=preb.length+u.length:=by rw [e2];simp
    cases u with
    | nil=>subst e3;simp at lb;omega
    | cons y u=>
     subst e3;obtain ⟨m1,m2⟩:=mid e1;obtain ⟨m3,m4⟩:=mid e2;simp only [Zat.l1,if_pos m2.2,if_pos m2,if_pos m4,m1,m3,nxt hb e1];by_cases d:x=y
     ·subst d
      rw [if_neg (by simp)];have:=ih (pre++[x]) u (pre++[x]) q (by rw [e1];simp) (by rw [e2];simp) rfl (by omega);have e4:((pre++[x]).length:Int)=(pre.length:Int)+1:=by simp
      rw [e4] at this;rw [this];simp
     ·rw [if_pos d];simp [d]
  have:=key a [] b [] K0 rfl rfl rfl (ltK hb);simpa using this
 ·rw [if_pos c,decide_eq_false (λe=>c (by rw [e]))]
def fIx {α:Type} (p:α->Bool):List α->Nat->Int
 | [],_=>-1
 | x::t,n=>if p x=true then (n:Int) else fIx p t (n+1)
theorem Zjv {α:Type} [Inhabited α] (L:Nat->Int->Option Int) (xs:List α) (p:α->Bool) (hx:xs.length<=Zv) (h0:∀ k,L (k+1) (xs.length:Int)=some (-1)) (h1:∀ k pre x t,xs=pre++x::t->L (k+1) (pre.length:Int)=if p x=true then some (pre.length:Int) else L k ((pre.length:Int)+1)):L K0 0=some (fIx p xs 0):=by
 refine Qe (λk i (_:Unit)=>L k i) xs (λpre t _ o=>o=some (fIx p t pre.length)) (λ_ k=>h0 k) (λpre x t _ k e ih=>?_) () K0 (ltK hx);show L (k+1) _=_;have h2:=ih ();have h3:L k ((pre.length:Int)+1)=some (fIx p t (pre.length+1)):=by simpa using h2
 rw [h1 k pre x t e,h3,fIx];split<;>rfl
theorem Zl3 {α:Type} (p:α->Bool):∀ (xs:List α) (n:Nat),decide (0<=fIx p xs n)=xs.any p
 | [],n=>by simp [fIx]
 | x::t,n=>by
  rw [fIx,List.any_cons]
  by_cases c:p x=true
  ·rw [if_pos c,c];simp
  ·rw [if_neg c,Zl3 p t,Bool.eq_false_iff.2 c];rfl
theorem Zkr {α:Type} (p:α->Bool):∀ (xs:List α) (n:Nat),(fIx p xs n=-1/\∀ x∈xs,p x=false)\/∃ a x r,xs=a++x::r/\p x=true/\(∀ x∈a,p x=false)/\fIx p xs n=((n+a.length:Nat):Int)
 | [],n=>.inl ⟨rfl,λ_ h=>by cases h⟩
 | x::t,n=>by
  rw [fIx]
  by_cases c:p x=true
  ·exact .inr ⟨[],x,t,rfl,c,(λ_ h=>by cases h),by rw [if_pos c];simp⟩
  ·rw [if_neg c]
   rcases Zkr p t (n+1) with ⟨h1,h2⟩ | ⟨a,y,r,h1,h2,h3,h4⟩
   ·refine .inl ⟨h1,λy hy=>?_⟩
    rcases List.mem_cons.1 hy with rfl | hy
    ·exact Bool.eq_false_iff.2 c
    ·exact h2 y hy
   ·refine .inr ⟨x::a,y,r,by rw [h1];rfl,h2,λz hz=>?_,by rw [h4];simp;omega⟩
    rcases List.mem_cons.1 hz with rfl | hz
    ·exact Bool.eq_false_iff.2 c
    ·exact h3 z hz
theorem Zkw (xs:List Int) (v:Int) (hx:xs.length<=Zv):Xw.f xs v=some (fIx (λx=>decide (v=x)) xs 0):=by
 rw [Xw.f];refine Zjv (λk i=>Xw.l1 k xs v i) xs _ hx (λk=>?_) (λk pre x t e=>?_)
 ·simp only [Xw.l1,if_neg (show ¬ (xs.length:Int)<(xs.length:Int) by omega)]
 ·obtain ⟨m1,m2⟩:=mid e
  simp only [Xw.l1,if_pos m2.2,if_pos m2,m1,nxt hx e,decide_eq_true_eq]
section
structure Tq (t:Option Tbs) (key:Int->Int) (pa:Int->List Int) (n:Nat) (pr:Int->Int->Int×Bool) (mk kp:Int->Bool) (jn:Int->Int):Prop where
 tb:Tb t key pa n
 pair:∀ a b,Qh.f t a b=some (pr a b)
 mark:∀ p,Jx.f t p=some (mk p)
 kept:∀ p,Jw.f t p=some (kp p)
 join:∀ p,Uo.f t p=some (jn p)
variable {t:Option Tbs} {key:Int->Int} {pa:Int->List Int} {n:Nat} {pr:Int->Int->Int×Bool} {mk kp:Int->Bool} {jn:Int->Int}
def Zfz (key:Int->Int) (pr:Int->Int->Int×Bool) (s:List Int×Int×Int) (c:Int):List Int×Int×Int:=
 if 0<=s.2.1/\¬ (s.2.1<(s.1.length:Int)-1/\key c<=s.2.2)/\(pr (rd s.1 s.2.1) c).2=true then (s.1.set s.2.1.toNat (pr (rd s.1 s.2.1) c).1,s.2.1,s.2.2)
 else if key c=0 then (s.1++[c],(s.1.length:Int),0) else (s.1++[c],s.2.1,max s.2.2 (key c))
def Zg9 (key:Int->Int) (pr:Int->Int->Int×Bool) (l:List Int):List Int:=(l.foldl (Zfz key pr) ([],-1,0)).1
theorem Zun (h:Tq t key pa n pr mk kp jn) (l:List Int) (hl:l.length<=Zv):Zo.f t l=some (Zg9 key pr l):=by
 have step:∀ (r pre:List Int) (s:List Int×Int×Int) (k:Nat),l=pre++r->r.length<k->s.1.length+r.length<=l.length->-1<=s.2.1->s.2.1<(s.1.length:Int)->Zo.l1 k t l s.1 s.2.1 s.2.2 (pre.length:Int)=some (r.foldl (Zfz key pr) s).1:=by
  intro r
  induction r with
  | nil=>
   intro pre s k e hk h1 h2 h3;obtain ⟨k,rfl⟩:∃ j,k=j+1:=⟨k-1,by omega⟩;have:l.length=pre.length:=by rw [e];simp
   simp only [Zo.l1,this,if_neg (show ¬ (pre.length:Int)<(pre.length:Int) by omega),List.foldl_nil]
  | cons c r ih=>
   intro pre s k e hk h1 h2 h3;obtain ⟨k,rfl⟩:∃ j,k=j+1:=⟨k-1,by omega⟩;simp only [List.length_cons] at hk h1;obtain ⟨m1,m2⟩:=mid e;have hbig:=hl;unfold Zv at hbig;obtain ⟨out,st,mo⟩:=s;simp only at h1 h2 h3;have e4:((pre++[c]).length:Int)=(pre.length:Int)+1:=by simp
   have fin:∀ s':List Int×Int×Int,s'.1.length<=out.length+1->-1<=s'.2.1->s'.2.1<(s'.1.length:Int)->Zfz key pr (out,st,mo) c=s'->Zo.l1 k t l s'.1 s'.2.1 s'.2.2 ((pre.length:Int)+1)=some ((c::r).foldl (Zfz key pr) (out,st,mo)).1:=by intro s' g1 g2 g3 g4;have:=ih (pre++[c]) s' k (by rw [e];simp) (by omega) (by omega) g2 g3;rw [e4] at this;rw [List.foldl_cons,g4,this]
   have put:Zo.j3 (Zo.l1 k t l) l out st mo (pre.length:Int) (key c)=if key c=0 then Zo.l1 k t l (out++[c]) (out.length:Int) 0 ((pre.length:Int)+1) else Zo.l1 k t l (out++[c]) st (max mo (key c)) ((pre.length:Int)+1):=by
    simp only [Zo.j3,Zo.j2,Zo.j1,m1,nxt hl e];by_cases c0:key c=0
    ·rw [if_pos c0,if_pos c0,if_pos (by unfold most;simp;omega)]
    ·rw [if_neg c0,if_neg c0,if_pos (by unfold most;simp;omega)]
   have put2:¬ (0<=st/\¬ (st<(out.length:Int)-1/\key c<=mo)/\(pr (rd out st) c).2=true)->Zo.j3 (Zo.l1 k t l) l out st mo (pre.length:Int) (key c)=some ((c::r).foldl (Zfz key pr) (out,st,mo)).1:=by
    intro hc;rw [put];by_cases c0:key c=0
    ·rw [if_pos c0]
     exact fin (out++[c],(out.length:Int),0) (by simp) (by show (-1:Int)<=(out.length:Int);omega) (by show (out.length:Int)<((out++[c]).length:Int);simp;omega) (by simp only [Zfz,if_neg hc,if_pos c0])
    ·rw [if_neg c0]
     exact fin (out++[c],st,max mo (key c)) (by simp) h2 (by simp<;>omega) (by simp only [Zfz,if_neg hc,if_neg c0])
   simp only [Zo.l1,if_pos m2.2,if_pos m2,m1,h.tb.cls c,Option.bind_some,Zo.j5];by_cases a1:0<=st
   ·rw [if_pos a1,w64 (by omega) (by omega)]
    have j4:∀ bl:Bool,(bl=true↔(st<(out.length:Int)-1/\key c<=mo))->Zo.j4 (Zo.l1 k t l) t l out st mo (pre.length:Int) (key c) (!bl)=some ((c::r).foldl (Zfz key pr) (out,st,mo)).1:=by
     intro bl hb;simp only [Zo.j4,m1];by_cases a2:bl=true
     ·rw [a2,if_neg (by simp)]
      exact put2 (λhh=>hh.2.1 (hb.1 a2))
     ·rw [Bool.eq_false_iff.2 a2,if_pos (by simp),if_pos ⟨a1,h3⟩,h.pair,Option.bind_some]
      by_cases a3:(pr (rd out st) c).2=true
      ·rw [if_pos a3]
       simp only [Zo.j1,nxt hl e];exact fin (out.set st.toNat (pr (rd out st) c).1,st,mo) (by simp) h2 (by simpa using h3) (by simp only [Zfz];rw [if_pos ⟨a1,λhh=>a2 (hb.2 hh),a3⟩])
      ·rw [if_neg a3]
       exact put2 (λhh=>a3 hh.2.2)
    by_cases a4:st<(out.length:Int)-1
    ·rw [if_pos a4,if_pos a1]
     exact j4 _ (by simp [a4])
    ·rw [if_neg a4,if_pos a1]
     exact j4 false (by simp [a4])
   ·rw [if_neg a1,if_neg a1]
    simp only [Zo.j4,if_neg (show ¬ false=true by simp)];exact put2 (λhh=>a1 hh.1)
 have:=step l [] ([],-1,0) K0 rfl (ltK hl) (by simp) (by simp) (by simp);simpa [Zo.f,Zg9] using this
theorem Zha (key:Int->Int) (pr:Int->Int->Int×Bool):∀ (l:List Int) (s:List Int×Int×Int),(l.foldl (Zfz key pr) s).1.length<=s.1.length+l.length
 | [],s=>by simp
 | c::l,s=>by
  have h1:(Zfz key pr s c).1.length<=s.1.length+1:=by
   unfold Zfz;split
   ·simp
   ·split<;>simp
  have:=Zha key pr l (Zfz key pr s c);simp only [List.foldl_cons,List.length_cons];omega
def Zev (key:Int->Int) (pa:Int->List Int) (n:Nat) (pr:Int->Int->Int×Bool) (l:List Int):List Int:=Zg9 key pr (Zk0 key (l.flatMap (Zd5 pa n)))
theorem Znv (key:Int->Int) (l:List Int):(Zk0 key l).length=l.length:=Z4o key l
theorem Zpx (h:Tq t key pa n pr mk kp jn) (l:List Int) (hl:54*l.length<=Zv):Hr.f t l=some (Zev key pa n pr l):=by
 have:=Zhg h.tb l;rw [Hr.f,Zqv h.tb l hl,Option.bind_some,Zun h _ (by rw [Znv];omega)];rfl
theorem Z0o (a b:List Int) (hb:a.length<=Zv):Qj.f a b=some (decide (a=b)):=by
 rw [Qj.f];have e:∀ q a b i,Qj.l1 q a b i=Zat.l1 q a b i:=by
  intro q
  induction q with
  | zero=>intros;rfl
  | succ q ih=>intro a b i;simp only [Qj.l1,Zat.l1,ih]
 rw [e];exact Z2q a b hb
theorem Z70 (h:Tq t key pa n pr mk kp jn) (l:List Int) (hl:54*l.length<=Zv):Zdl.f t l=some (decide (Zev key pa n pr l=l)):=by
 have h1:=Zhg h.tb l;have h2:=Zha key pr (Zk0 key (l.flatMap (Zd5 pa n))) ([],-1,0);rw [Zdl.f,Zpx h l hl,Option.bind_some,Z0o _ _ (by rw [Znv] at h2;simp only [List.length_nil,Nat.zero_add] at h2;unfold Zev Zg9;omega)];rfl
theorem Zlf (h:Tq t key pa n pr mk kp jn) (l:List Int) (hl:l.length<=Zv):∀ (k:Nat) (i:Int),i<(l.length:Int)->i+1<(k:Int)->-1<=i->∃ r,U6.l1 k t l i=some r
 | 0,i,_,h2,h3=>by omega
 | k+1,i,h1,h2,h3=>by
  have hb:=hl
  unfold Zv at hb
  simp only [U6.l1]
  by_cases c:0<=i
  ·rw [if_pos c,if_pos ⟨c,h1⟩,h.join,Option.bind_some]
   split
   ·exact ⟨_,rfl⟩
   ·rw [w64 (by omega) (by omega)];exact Zlf h l hl k (i-1) (by omega) (by omega) (by omega)
  ·exact ⟨0,by rw [if_neg c]⟩
theorem Zjl (h:Tq t key pa n pr mk kp jn) (l:List Int) (hl:l.length<=Zv):∀ (k:Nat) (i:Int),(l.length:Int)-i<(k:Int)->0<=i->i<=(l.length:Int)->∃ r,Up.l1 k t l i=some r
 | 0,i,h1,h2,h3=>by omega
 | k+1,i,h1,h2,h3=>by
  have hb:=hl
  unfold Zv at hb
  simp only [Up.l1]
  by_cases c:i<(l.length:Int)
  ·rw [if_pos c,if_pos ⟨h2,c⟩,h.join,Option.bind_some]
   split
   ·exact ⟨_,rfl⟩
   ·rw [w64 (by omega) (by omega)];exact Zjl h l hl k (i+1) (by omega) (by omega) (by omega)
  ·exact ⟨0,by rw [if_neg c]⟩
theorem Zom (h:Tq t key pa n pr mk kp jn) (l:List Int) (hl:l.length<=Zv) (i:Int) (h0:0<=i) (h1:i<(l.length:Int)):∃ r,Xe.f t l i=some r/\(rd l i≠8204->rd l i≠8205->r=true):=by
 have hb:=hl;unfold Zv at hb;have hK:(K0:Int)=1180591620717411303424:=rfl;have e0:Xe.f t l i=Xe.j3 t l i false:=by rw [Xe.f,if_neg (by omega),decide_eq_false (by omega)]
 have es:Uc.f (rd l i)=some (decide (rd l i=8204\/rd l i=8205)):=by unfold Uc.f Uc.j1;split<;>simp [*]
 rw [e0];simp only [Xe.j3,if_neg (show ¬ false=true by simp),if_pos (And.intro h0 h1),es,Option.bind_some];by_cases c:rd l i=8204\/rd l i=8205
 ·rw [decide_eq_true c,if_neg (by simp)]
  suffices hs:∃ r,(if 0<i then (if (0:Int)<=i64.wrap (i-1)/\i64.wrap (i-1)<(l.length:Int) then ((Zbp.f t (rd l (i64.wrap (i-1)))).bind λag=>(Xe.j2 t l i ag)) else none) else (Xe.j2 t l i false))=some r by
   obtain ⟨r,hr⟩:=hs;exact ⟨r,hr,λa b=>absurd c (by simp [a,b])⟩
  have hj2:∀ b,∃ r,Xe.j2 t l i b=some r:=by
   intro b;obtain ⟨ra,ha⟩:=Zlf h l hl K0 (i-1) (by omega) (by omega) (by omega);obtain ⟨rb,hb'⟩:=Zjl h l hl K0 (i+1) (by omega) (by omega) (by omega);simp only [Xe.j2,Xe.j1,U6.f,Up.f,w64 (x:=i-1) (by omega) (by omega),w64 (x:=i+1) (by omega) (by omega),ha,hb',Option.bind_some];repeat' split
   all_goals exact ⟨_,rfl⟩
  split
  ·rw [w64 (by omega) (by omega),if_pos ⟨by omega,by omega⟩,Zbp.f,h.tb.cls,Option.bind_some,Option.bind_some]
   exact hj2 _
  ·exact hj2 _
 ·rw [decide_eq_false c]
  exact ⟨true,by rw [if_pos (by simp)],λ_ _=>rfl⟩
theorem Zqp (h:Tq t key pa n pr mk kp jn) (l:List Int) (hl:l.length<=Zv):∃ r,Uk.f t l=some r/\((∀ x∈l,x≠8204/\x≠8205)->r=-1):=by
 rw [Uk.f];refine Qe (λk i (_:Unit)=>Uk.l1 k t l i) l (λpre r _ o=>∃ q,o=some q/\((∀ x∈r,x≠8204/\x≠8205)->q=-1)) (λ_ k=>?_) (λpre x r _ k e ih=>?_) () K0 (ltK hl)
 ·exact ⟨-1,by simp only [Uk.l1,if_neg (show ¬ (l.length:Int)<(l.length:Int) by omega)],λ_=>rfl⟩
 ·obtain ⟨m1,m2⟩:=mid e
  obtain ⟨b,hb,hb2⟩:=Zom h l hl _ m2.1 m2.2;simp only [Uk.l1,if_pos m2.2,hb,Option.bind_some,nxt hl e]
  cases b with
  | true=>
   rw [if_neg (by simp)];obtain ⟨q,h1,h2⟩:=ih ();exact ⟨q,h1,λhx=>h2 λy hy=>hx y (by simp [hy])⟩
  | false=>
   rw [if_pos (by simp)];exact ⟨_,rfl,λhx=>by have:=hx x (by simp);rw [m1] at hb2;exact absurd (hb2 this.1 this.2) (by simp)⟩
def Zfi (n:Int) (has:Bool) (l:List Int):List Int:=if has=true then l++[n] else l
theorem Zf3 (n:Int) (has:Bool) (l:List Int):(Zfi n has l).length<=l.length+1:=by unfold Zfi;split<;>simp
theorem Ze5 (n:Int) (has:Bool) (l:List Int) (hl:l.length<=10):Qc.f n has l=some (Zfi n has l):=by
 unfold Qc.f Zfi;split
 ·rw [if_pos (by unfold most;simp;omega)]
 ·rfl
def Zjr (l:List Int):Bool:=decide (4<=(l.length:Int))&&decide (runesBytes (sub l 0 4)=(⟨#[120,110,45,45]⟩:ByteArray))
theorem Zjs (l:List Int):U0.f l=some (Zjr l):=by
 unfold U0.f Zjr U0.j1;split
 ·rename_i h
  rw [if_pos ⟨by omega,by omega,h⟩,decide_eq_true h];rfl
 ·rename_i h
  rw [decide_eq_false h];rfl
def Ztc (mk:Int->Bool):List Int->Bool
 | []=>false
 | x::_=>mk x
def Zl4 (is cod st mk ks jo:Bool):List Int:=Zfi 6 jo (Zfi 5 ks (Zfi 4 mk (Zfi 3 st (Zfi 2 cod (Zfi 1 (!is) [])))))
theorem Zpl (h:Tq t key pa n pr mk kp jn) (l:List Int) (hl:54*l.length<=Zv):∃ jo,Qt.f t l=some (Zl4 (decide (Zev key pa n pr l=l)) (Zjr l) (l.any λx=>decide (46=x)) (Ztc mk l) (l.any λx=>!kp x) jo)/\((∀ x∈l,x≠8204/\x≠8205)->jo=false):=by
 have hlb:l.length<=Zv:=by omega
 obtain ⟨q,hq,hq2⟩:=Zqp h l hlb;have hk:Kf.f l t=some (l.any λx=>!kp x):=by
  rw [Kf.f,Xb.f];have:=Zjv (λk i=>Xb.l1 k t l i) l (λx=>!kp x) hlb (λk=>?_) (λk pre x r e=>?_)
  ·rw [this,Option.bind_some,Zl3]
  ·simp only [Xb.l1,if_neg (show ¬ (l.length:Int)<(l.length:Int) by omega)]
  ·obtain ⟨m1,m2⟩:=mid e
   simp only [Xb.l1,if_pos m2.2,if_pos m2,m1,H5.f,h.kept,Option.bind_some,nxt hlb e]
 have hc:Vv.f l 46=some (l.any λx=>decide (46=x)):=by rw [Vv.f,Zkw l 46 hlb,Option.bind_some,Zl3]
 refine ⟨decide (0<=q),?_,λhx=>by rw [hq2 hx];rfl⟩;have l1:=Zf3 1 (!(decide (Zev key pa n pr l=l))) [];have l2:=Zf3 2 (Zjr l) (Zfi 1 (!(decide (Zev key pa n pr l=l))) []);have l3:=Zf3 3 (l.any λx=>decide (46=x)) (Zfi 2 (Zjr l) (Zfi 1 (!(decide (Zev key pa n pr l=l))) []));have l4:=Zf3 4 (Ztc mk l) (Zfi 3 (l.any λx=>decide (46=x)) (Zfi 2 (Zjr l) (Zfi 1 (!(decide (Zev key pa n pr l=l))) [])));have l5:=Zf3 5 (l.any λx=>!kp x) (Zfi 4 (Ztc mk l) (Zfi 3 (l.any λx=>decide (46=x)) (Zfi 2 (Zjr l) (Zfi 1 (!(decide (Zev key pa n pr l=l))) []))));simp only [List.length_nil] at l1;rw [Qt.f,Z70 h l hl,Option.bind_some,Ze5 _ _ _ (by simp),Option.bind_some,Zjs,Option.bind_some,Ze5 _ _ _ (by omega),Option.bind_some,hc,Option.bind_some,Ze5 _ _ _ (by omega),Option.bind_some];have hj:∀ aa,aa.length<=4->Qt.j1 t l aa=some (Zfi 6 (decide (0<=q)) (Zfi 5 (l.any λx=>!kp x) aa)):=by intro aa ha;have:=Zf3 5 (l.any λx=>!kp x) aa;rw [Qt.j1,hk,Option.bind_some,Ze5 _ _ _ (by omega),Option.bind_some,hq,Option.bind_some,Ze5 _ _ _ (by omega)];rfl
 cases l with
 | nil=>
  rw [if_neg (by simp),Ze5 _ _ _ (by omega),Option.bind_some,hj _ (by simp only [Ztc] at l4;omega)];rfl
 | cons x r=>
  rw [if_pos (by simp<;>omega),if_pos ⟨by omega,by simp<;>omega⟩,show rd (x::r) 0=x from rfl,h.mark,Option.bind_some,Ze5 _ _ _ (by omega),Option.bind_some,hj _ (by simp only [Ztc] at l4;omega)];rfl
theorem Zs8 (l:List Int):Zbl.f l=some (l.headD 0):=by
 cases l with
 | nil=>rfl
 | cons x r=>rw [Zbl.f,if_neg (by simp<;>omega),if_pos ⟨by omega,by simp<;>omega⟩];rfl
def Zdw (l:List Int):Bool:=!(l.any λp=>decide (p<0\/128<=p))
theorem Zj4 (l:List Int) (hl:l.length<=Zv):Zaa.f l=some (Zdw l):=by
 rw [Zaa.f,K5.f,Xd.f];have:=Zjv (λk i=>Xd.l1 k l i) l (λp=>decide (p<0\/128<=p)) hl (λk=>?_) (λk pre x r e=>?_)
 ·rw [this,Option.bind_some,Zl3];rfl
 ·simp only [Xd.l1,if_neg (show ¬ (l.length:Int)<(l.length:Int) by omega)]
 ·obtain ⟨m1,m2⟩:=mid e
  have ep:Uq.f x=some (decide (x<0\/128<=x)):=by unfold Uq.f Uq.j1;split<;>simp [*]
  simp only [Xd.l1,if_pos m2.2,if_pos m2,m1,ep,Option.bind_some,nxt hl e]
end
def eL (r:Int):List UInt8:=(Utf8.encode r).data.toList
theorem Zs0 (h0:0<=r) (h1:r<128):eL r=[UInt8.ofNat r.toNat]:=by
 have hv:Utf8.valid r=true:=by simp [Utf8.valid];omega
 have:r.toNat<128:=by omega
 simp only [eL,Utf8.encode,hv,if_true];rw [if_pos (by omega)]
theorem Z26 (h0:128<=n) (h1:n<256):128<=(UInt8.ofNat n).toNat:=by
 rw [UInt8.toNat_ofNat'];omega
theorem Z3x (h:r<0\/128<=r):∃ x t,eL r=x::t/\128<=x.toNat:=by
 have hc:∃ c,(if Utf8.valid r then r.toNat else Utf8.runeError)=c/\128<=c/\c<1114112:=by
  refine ⟨_,rfl,?_⟩;by_cases hv:Utf8.valid r=true
  ·rw [if_pos hv]
   simp [Utf8.valid] at hv;omega
  ·rw [if_neg hv]
   unfold Utf8.runeError;omega
 obtain ⟨c,e,h1,h2⟩:=hc;unfold eL Utf8.encode;simp only [e];rw [if_neg (by omega)];split
 ·exact ⟨_,_,rfl,Z26 (by omega) (by omega)⟩
 ·split
  ·exact ⟨_,_,rfl,Z26 (by omega) (by omega)⟩
  ·exact ⟨_,_,rfl,Z26 (by omega) (by omega)⟩
theorem Zvu (l:List Int):∀ (s:ByteArray),(l.foldl (λr n=>r++Utf8.encode n) s).data.toList=s.data.toList++l.flatMap eL:=by
 induction l with
 | nil=>intro s;simp
 | cons x l ih=>intro s;rw [List.foldl_cons,ih];simp [eL,ByteArray.data_append]
theorem Zgx (l:List Int):(runesBytes l).data.toList=l.flatMap eL:=by
 rw [runesBytes,Zvu];rfl
theorem Zuj (l:List Int):∀ (s:ByteArray),(l.foldl (λr n=>r.push (UInt8.ofNat n.toNat)) s).data.toList=s.data.toList++l.map λn=>UInt8.ofNat n.toNat:=by
 induction l with
 | nil=>intro s;simp
 | cons x l ih=>intro s;rw [List.foldl_cons,ih];simp [ByteArray.push]
theorem Zlg (l:List Int):(Zbn l).data.toList=l.map λn=>UInt8.ofNat n.toNat:=by
 rw [Zbn,Zuj];rfl
theorem Z6j {a b:ByteArray} (h:a.data.toList=b.data.toList):a=b:=by
 cases a;cases b;simp only at h;congr;exact Array.ext' h
theorem Zl2 (hx:x.toNat<128) (h:eL r++s=x::t):r=(x.toNat:Int)/\s=t:=by
 by_cases c:0<=r/\r<128
 ·rw [Zs0 c.1 c.2] at h
  simp only [List.cons_append,List.nil_append,List.cons.injEq] at h;refine ⟨?_,h.2⟩;rw [<- h.1,UInt8.toNat_ofNat'];omega
 ·obtain ⟨y,u,e,hy⟩:=Z3x (r:=r) (by omega)
  rw [e,List.cons_append] at h;simp only [List.cons.injEq] at h;rw [h.1] at hy;omega
theorem Z0g (l:List Int):Zjr l=true↔∃ r,l=120::110::45::45::r:=by
 unfold Zjr;simp only [Bool.and_eq_true,decide_eq_true_eq];constructor
 ·rintro ⟨h,e⟩
  match l,h with
  | a::b::c::d::r,_=>
   have e1:=congrArg (λs:ByteArray=>s.data.toList) e;simp only [Zgx] at e1;have e2:sub (a::b::c::d::r) 0 4=[a,b,c,d]:=rfl;rw [e2] at e1;simp only [List.flatMap_cons,List.flatMap_nil] at e1;obtain ⟨h1,e1⟩:=Zl2 (by decide) e1;obtain ⟨h2,e1⟩:=Zl2 (by decide) e1;obtain ⟨h3,e1⟩:=Zl2 (by decide) e1;obtain ⟨h4,e1⟩:=Zl2 (by decide) e1;exact ⟨r,by rw [h1,h2,h3,h4];rfl⟩
 ·rintro ⟨r,rfl⟩
  refine ⟨by simp;omega,?_⟩;show runesBytes [120,110,45,45]=_;rfl
def pr0 (a b:Int):Int×Bool:=(Qh.f none a b).getD (0,false)
theorem Zco {α:Type} {p:Prop} [Decidable p] {A B:Option α} (ha:∃ r,A=some r) (hb:∃ r,B=some r):∃ r,(if p then A else B)=some r:=by
 by_cases c:p
 ·rw [if_pos c];exact ha
 ·rw [if_neg c];exact hb
theorem Znw (h:∀ a b,∃ r,Hg.f t a b=some r) (a b:Int):∃ r,Qh.f t a b=some r:=by
 have j1:∀ x,∃ r,Qh.j1 t a b x=some r:=by intro x;obtain ⟨r,hr⟩:=h a b;rw [Qh.j1,hr];exact Zco ⟨_,rfl⟩ ⟨_,rfl⟩
 have j2:∀ x,∃ r,Qh.j2 t a b x=some r:=by intro x;rw [Qh.j2];repeat' first | exact j1 _ | exact ⟨_,rfl⟩ | apply Zco
 rw [Qh.f];repeat' first | exact j2 _ | exact ⟨_,rfl⟩ | apply Zco
theorem Zy3 (a b:Int):Qh.f none a b=some (pr0 a b):=by
 obtain ⟨r,hr⟩:=Znw (t:=none) (λ_ _=>⟨_,rfl⟩) a b;rw [pr0,hr];rfl
theorem Zp1 (h:Zdw l=true):∀ x∈l,0<=x/\x<128:=by
 intro x hx;simp only [Zdw,Bool.not_eq_true',List.any_eq_false,decide_eq_true_eq] at h;have:=h x hx;omega
theorem Zkf (h0:0<=x) (h1:x<256):u8.wrap x=x:=by rw [IntKind.wrap_u8];omega
theorem Zlq (h:Zdw l=true):runesBytes l=Zbn l:=by
 apply Z6j;rw [Zgx,Zlg];have:∀ m:List Int,(∀ x∈m,0<=x/\x<128)->m.flatMap eL=m.map λn=>UInt8.ofNat n.toNat:=by
  intro m
  induction m with
  | nil=>intro _;rfl
  | cons x m ih=>
   intro hm;have hx:=hm x (by simp);rw [List.flatMap_cons,Zs0 hx.1 hx.2,ih λy hy=>hm y (by simp [hy])];rfl
 exact this l (Zp1 h)
abbrev pU:S19:=⟨36,1,26,38,700,72,128,45⟩
theorem Zr4 (k b:Int):Vq.f pU k b=Hy.f k b:=by
 unfold Vq.f Hy.f;simp only;split
 ·congr 1;omega
 ·split<;>(congr 1;omega)
theorem Zxo (k b:Int):∃ t,Hy.f k b=some t/\1<=t/\t<=26:=by
 unfold Hy.f;split
 ·exact ⟨1,rfl,by omega,by omega⟩
 ·split
  ·exact ⟨26,rfl,by omega,by omega⟩
  ·exact ⟨_,rfl,by omega,by omega⟩
theorem Zkx (d:Int):Zb3.f d=Zdx.f d:=rfl
theorem Z0j (c:Int):J4.f c=Vg.f c:=by
 simp only [J4.f,Vg.f,J4.j3,Vg.j3,J4.j2,Vg.j2,J4.j1,Vg.j1]
theorem Zpj (c:Int) (h0:0<=c) (h1:c<256):∃ d,Vg.f c=some d/\-1<=d/\d<36:=by
 have w8:∀ x:Int,0<=x->x<256->u8.wrap x=x:=λx a b=>Zkf a b;simp only [Vg.f,Vg.j3,Vg.j2,Vg.j1];by_cases a1:97<=c
 ·rw [if_pos a1]
  by_cases a2:c<=122
  ·rw [decide_eq_true a2,if_pos rfl,w8 _ (by omega) (by omega),w64 (by omega) (by omega)];exact ⟨_,rfl,by omega,by omega⟩
  ·rw [decide_eq_false a2,if_neg (by decide),if_pos (by omega),decide_eq_false (by omega),if_neg (by decide),if_pos (by omega),decide_eq_false (by omega),if_neg (by decide)];exact ⟨_,rfl,by omega,by omega⟩
 ·rw [if_neg a1,if_neg (by decide)]
  by_cases a3:65<=c
  ·rw [if_pos a3]
   by_cases a4:c<=90
   ·rw [decide_eq_true a4,if_pos rfl,w8 _ (by omega) (by omega),w64 (by omega) (by omega)];exact ⟨_,rfl,by omega,by omega⟩
   ·rw [decide_eq_false a4,if_neg (by decide),if_pos (by omega),decide_eq_false (by omega),if_neg (by decide)];exact ⟨_,rfl,by omega,by omega⟩
  ·rw [if_neg a3,if_neg (by decide)]
   by_cases a5:48<=c
   ·rw [if_pos a5]
    by_cases a6:c<=57
    ·rw [decide_eq_true a6,if_pos rfl,w8 _ (by omega) (by omega),w64 (x:=c-48) (by omega) (by omega),w64 (by omega) (by omega)];exact ⟨_,rfl,by omega,by omega⟩
    ·rw [decide_eq_false a6,if_neg (by decide)];exact ⟨_,rfl,by omega,by omega⟩
   ·rw [if_neg a5,if_neg (by decide)];exact ⟨_,rfl,by omega,by omega⟩
theorem Zx9 (c:Int) (h0:0<=c) (h1:c<256):Hx.f pU c=Vg.f c:=by
 obtain ⟨d,h2,h3,h4⟩:=Zpj c h0 h1;rw [Hx.f,Z0j,h2,Option.bind_some,if_pos (by exact h4)]
theorem Zsk:∀ (k:Nat) (a b:Int),X5.l1 k pU a b=K6.l1 k a b
 | 0,_,_=>rfl
 | k+1,a,b=>by
  have e1:i64.wrap (36-1)=35:=by rw [IntKind.wrap_i64];decide
  have e2:i64.wrap (35*26)=910:=by rw [IntKind.wrap_i64];decide
  have e3:i64.wrap ((910:Int).tdiv 2)=455:=by rw [IntKind.wrap_i64];decide
  have e4:i64.wrap (35+1)=36:=by rw [IntKind.wrap_i64];decide
  simp only [X5.l1,K6.l1,e1,e2,e3,e4,Zsk k,ne_eq,if_pos (show ¬ (35:Int)=0 by decide)]
theorem Zsj (d p:Int) (f:Bool):X5.f pU d p f=K6.f d p f:=by
 simp only [X5.f,K6.f,X5.j1,K6.j1,Zsk,ne_eq,if_pos (show ¬ (700:Int)=0 by decide)]
theorem Z2v (a0:List Int->Int->Int->Int->Int->Option (List Int×Int×Int)) (aa:List Int) (ag ae ac ab ao a7 p:Int) (hp:i64.wrap (ac+i64.wrap (ao*ab))=p) {i:Nat} (hm:p.tmod (i64.wrap ((aa.length:Int)+1))=(i:Int)) (hl:aa.length+1<=Zv):
  ∀ (j:Nat) (z:Int) (k:Nat),i<=j->j<=aa.length->j<k->
   Yu.l1 a0 k aa ag ae ac ab ao a7 (aa.take j++z::aa.drop j) (j:Int)=
    a0 (Zgn aa (i:Int) (i32.wrap (i64.wrap (ag+(i64.wrap (p.tdiv (i64.wrap ((aa.length:Int)+1)))))))) (i64.wrap (ae+1)) (i64.wrap (ag+(i64.wrap (p.tdiv (i64.wrap ((aa.length:Int)+1)))))) (i64.wrap ((i:Int)+1)) a7:=by
 have hb:=hl;unfold Zv at hb;intro j
 induction j with
 | zero=>
  intro z k h1 h2 h3;obtain ⟨k,rfl⟩:∃ q,k=q+1:=⟨k-1,by omega⟩;obtain rfl:i=0:=by omega
  simp only [Yu.l1,hp,hm];rw [if_neg (by omega),if_pos ⟨by omega,by simp<;>omega⟩];simp [Zgn]
 | succ j ih=>
  intro z k h1 h2 h3;obtain ⟨k,rfl⟩:∃ q,k=q+1:=⟨k-1,by omega⟩;have hlen:(aa.take (j+1)++z::aa.drop (j+1)).length=aa.length+1:=by simp;omega
  simp only [Yu.l1,hp,hm];by_cases c:i=j+1
  ·subst c
   rw [if_neg (by omega),if_pos ⟨by omega,by rw [hlen];omega⟩];congr 1;have e:((j+1:Nat):Int).toNat=j+1:=by omega
   rw [Zgn,e,List.set_append_right _ _ (by simp;omega)];congr 1;have:j+1-(aa.take (j+1)).length=0:=by simp;omega
   rw [this];rfl
  ·have w1:i64.wrap (((j+1:Nat):Int)-1)=(j:Int):=by rw [w64 (by omega) (by omega)];omega
   rw [if_pos (by omega),w1,if_pos ⟨by omega,by rw [hlen];omega⟩,if_pos ⟨by omega,by rw [hlen];omega⟩];have hj:j<aa.length:=by omega
   have e:((j+1:Nat):Int).toNat=j+1:=by omega
   have er:rd (aa.take (j+1)++z::aa.drop (j+1)) (j:Int)=aa[j]:=by
    unfold rd;have e2:((j:Nat):Int).toNat=j:=by omega
    rw [e2];rw [List.getD_eq_getElem?_getD,List.getElem?_append_left (by simp;omega),List.getElem?_take,if_pos (by omega),List.getElem?_eq_getElem hj];rfl
   have es:(aa.take (j+1)++z::aa.drop (j+1)).set (j+1) aa[j]=aa.take j++aa[j]::aa.drop j:=by
    rw [List.set_append_right _ _ (by simp;omega)];have:j+1-(aa.take (j+1)).length=0:=by simp;omega
    have e3:aa.take (j+1)=aa.take j++[aa[j]]:=by rw [List.take_add_one,List.getElem?_eq_getElem hj];rfl
    have e4:aa.drop j=aa[j]::aa.drop (j+1):=List.drop_eq_getElem_cons hj;rw [this,List.set_cons_zero,e3,List.append_assoc,e4];rfl
   rw [e,er,es];exact ih aa[j] k (by omega) (by omega) (by omega)
def Z5t (a0:List Int->Int->Int->Int->Int->Option (List Int×Int×Int)) (aa:List Int) (ag ai ae ac ab ao:Int):Option (List Int×Int×Int):=
 (K6.f (i64.wrap ((i64.wrap (ac+(i64.wrap (ao*ab))))-ai)) (i64.wrap ((aa.length:Int)+1)) (decide (ai=0))).bind λa7=>(if (i64.wrap ((aa.length:Int)+1))≠0 then (if 1114111<(i64.wrap (ag+(i64.wrap ((i64.wrap (ac+(i64.wrap (ao*ab)))).tdiv (i64.wrap ((aa.length:Int)+1)))))) then (some (([]:List Int),ae,142)) else ((Vp.f (i32.wrap (i64.wrap (ag+(i64.wrap ((i64.wrap (ac+(i64.wrap (ao*ab)))).tdiv (i64.wrap ((aa.length:Int)+1)))))))).bind λb2=>(if (!b2)=true then (some (([]:List Int),ae,143)) else (if aa.length+([0]).length<=most then (Yu.l1 a0 K0 aa ag ae ac ab ao a7 (aa++([0])) (i64.wrap (((aa++([0])).length:Int)-1))) else none)))) else none)
theorem Zjn (s:ByteArray) (i:Int) (h0:0<=i) (h1:i<(s.size:Int)):0<=bt s i/\bt s i<256:=by
 rw [Zmu];obtain ⟨n,hn⟩:=Zjp (s:=s) (Zk2 (D:=Vw s) h0 (by rw [J1];exact h1));rw [hn];have:=n.isLt;omega
theorem Zy1 (a0:List Int->Int->Int->Int->Int->Option (List Int×Int×Int)) (s:ByteArray) (hs:s.size<=Zv) (aa:List Int) (ag ai aj:Int):
  ∀ (k:Nat) (ae ac ab ar:Int),(s.size:Int)-ae<(k:Int)->0<=ae->ae<=(s.size:Int)->0<=ac->ac<=2147483648->1<=ab->ab<=2147483647->36<=ar->ar<=36*(ae+1)->
   ∃ pl e at' i',Qu.l1 k 36 1 26 38 700 72 128 45 s aj ae ac ab ar=some (pl,e,at',i')/\(e≠0->Yu.l2 a0 k s aa ag ai aj ae ac ab ar=some ([],pl,e))/\
    (e=0->ae<at'/\at'<=(s.size:Int)/\ac<=i'/\i'<=2147483647/\∃ ac' ab' ao',i64.wrap (ac'+i64.wrap (ao'*ab'))=i'/\Yu.l2 a0 k s aa ag ai aj ae ac ab ar=Z5t a0 aa ag ai (at'-1) ac' ab' ao'):=by
 have hb:=hs;unfold Zv at hb;intro k
 induction k with
 | zero=>intro ae ac ab ar h;omega
 | succ k ih=>
  intro ae ac ab ar h1 h2 h3 h4 h5 h6 h7 h8 h9;simp only [Qu.l1,Yu.l2];by_cases c:ae=(s.size:Int)
  ·rw [if_pos c,if_pos c]
   exact ⟨_,_,_,_,rfl,λ_=>rfl,λh=>absurd h (by decide)⟩
  ·rw [if_neg c,if_neg c,if_pos ⟨h2,by omega⟩,if_pos ⟨h2,by omega⟩]
   obtain ⟨r1,r2⟩:=Zjn s ae h2 (by omega);obtain ⟨d,g1,g2,g3⟩:=Zpj _ r1 r2;rw [show Hx.f ⟨36,1,26,38,700,72,128,45⟩ (bt s ae)=some d from by rw [Zx9 _ r1 r2,g1],g1,Option.bind_some,Option.bind_some];by_cases c2:d<0
   ·rw [if_pos c2,if_pos c2]
    exact ⟨_,_,_,_,rfl,λ_=>rfl,λh=>absurd h (by decide)⟩
   ·have hdb:0<=d*ab/\d*ab<=75161927645:=by
     constructor
     ·exact Int.mul_nonneg (by omega) (by omega)
     ·have:d*ab<=35*ab:=Int.mul_le_mul_of_nonneg_right (by omega) (by omega)
      omega
    have w1:i64.wrap (d*ab)=d*ab:=w64 (by omega) (by omega)
    have w2:i64.wrap (ac+d*ab)=ac+d*ab:=w64 (by omega) (by omega)
    have w3:i64.wrap (ae+1)=ae+1:=w64 (by omega) (by omega)
    have w4:i64.wrap (ar+36)=ar+36:=w64 (by omega) (by omega)
    rw [if_neg c2,if_neg c2]
    by_cases c3:2147483647<i64.wrap (ac+i64.wrap (d*ab))
    ·rw [if_pos c3,if_pos c3]
     exact ⟨_,_,_,_,rfl,λ_=>rfl,λh=>absurd h (by decide)⟩
    ·obtain ⟨t,t1,t2,t3⟩:=Zxo ar aj
     rw [if_neg c3,if_neg c3,show Vq.f ⟨36,1,26,38,700,72,128,45⟩ ar aj=some t from by rw [Zr4,t1],t1,Option.bind_some,Option.bind_some]
     by_cases c4:d<t
     ·rw [if_pos c4,if_pos c4]
      refine ⟨_,_,_,_,rfl,λh=>absurd rfl h,λ_=>⟨by omega,by omega,by rw [w1,w2];omega,by omega,ac,ab,d,rfl,?_⟩⟩
      rw [w3,show ae+1-1=ae by omega];rfl
     ·rw [if_neg c4,if_neg c4]
      have w5:i64.wrap (36-t)=36-t:=w64 (by omega) (by omega)
      have hab:0<=ab*(36-t)/\ab*(36-t)<=75161927645/\1<=ab*(36-t):=by
       have a1:ab*1<=ab*(36-t):=Int.mul_le_mul_of_nonneg_left (by omega) (by omega)
       have a2:ab*(36-t)<=ab*35:=Int.mul_le_mul_of_nonneg_left (by omega) (by omega)
       omega
      have w6:i64.wrap (ab*(36-t))=ab*(36-t):=w64 (by omega) (by omega)
      by_cases c5:2147483647<i64.wrap (ab*i64.wrap (36-t))
      ·rw [if_pos c5,if_pos c5]
       exact ⟨_,_,_,_,rfl,λ_=>rfl,λh=>absurd h (by decide)⟩
      ·rw [if_neg c5,if_neg c5]
       rw [w5,w6] at c5 ⊢
       rw [w1,w2] at c3 ⊢
       rw [w3,w4]
       obtain ⟨pl,e,at',i',q1,q2,q3⟩:=ih (ae+1) (ac+d*ab) (ab*(36-t)) (ar+36) (by omega) (by omega) (by omega) (by omega) (by omega) (by omega) (by omega) (by omega) (by omega)
       refine ⟨pl,e,at',i',q1,q2,λhe=>?_⟩
       obtain ⟨p1,p2,p3,p4⟩:=q3 he
       exact ⟨by omega,p2,by omega,p4⟩
theorem Zrx (x:Int):H9.f x=Vp.f x:=by
 simp only [H9.f,Xn.f,Xn.j2,Xn.j1,Vp.f,Vp.j1];by_cases a:0<=x
 ·rw [if_pos a,if_pos a]
  by_cases b:x<55296
  ·simp [b]
  ·simp only [b,decide_false,if_false,Bool.false_eq_true]
   by_cases c:57343<x
   ·by_cases d:x<=1114111<;>simp [c,d]
   ·simp [c]
 ·rw [if_neg a,if_neg a]
  simp [show ¬ 57343<x by omega]
theorem Zt3 (x:Int):∃ b,Vp.f x=some b:=by
 unfold Vp.f Vp.j1;repeat' first | exact ⟨_,rfl⟩ | apply Zco
theorem Zml:∀ (k:Nat) (a b:Int),0<=a->a<=8589934592->a<(k:Int)->∃ r,K6.l1 k a b=some r
 | 0,a,b,h0,_,h2=>by omega
 | k+1,a,b,h0,h1,h2=>by
  simp only [K6.l1]
  by_cases c:455<a
  ·have ht:a.tdiv 35=a/35:=Int.tdiv_eq_ediv_of_nonneg h0
   have hw:i64.wrap (a.tdiv 35)=a/35:=by rw [ht];exact w64 (by omega) (by omega)
   rw [if_pos c,hw]
   exact Zml k _ _ (by omega) (by omega) (by omega)
  ·rw [if_neg c,w64 (x:=a+38) (by omega) (by omega),if_pos (by omega)]
   exact ⟨_,rfl⟩
theorem Zo4 (d p:Int) (f:Bool) (h0:0<=d) (h1:d<=2147483648) (hp:1<=p):∃ r,K6.f d p f=some r:=by
 have hK:(K0:Int)=1180591620717411303424:=rfl;have key:∀ c:Int,0<=c->c<=2147483648->∃ r,K6.j1 p c=some r:=by intro c c0 c1;have e1:c.tdiv p=c/p:=Int.tdiv_eq_ediv_of_nonneg c0;have e2:0<=c/p:=Int.ediv_nonneg c0 (by omega);have e3:c/p<=c:=Int.ediv_le_self p c0;rw [K6.j1,if_pos (by omega),e1,w64 (x:=c/p) (by omega) (by omega),w64 (by omega) (by omega)];exact Zml K0 _ _ (by omega) (by omega) (by omega)
 have t1:d.tdiv 700=d/700:=Int.tdiv_eq_ediv_of_nonneg h0;have t2:d.tdiv 2=d/2:=Int.tdiv_eq_ediv_of_nonneg h0;rw [K6.f,t1,t2,w64 (x:=d/700) (by omega) (by omega),w64 (x:=d/2) (by omega) (by omega)];split
 ·exact key _ (by omega) (by omega)
 ·exact key _ (by omega) (by omega)
theorem Zxe (s:ByteArray) (hs:2*s.size<=Zv):∀ (q:Nat) (out:List Int) (at' n i b:Int) (k:Nat),(s.size:Int)-at'<=(q:Int)->q<k->0<=at'->(out.length:Int)<=at'->at'<=(s.size:Int)+1->0<=n->n<=1114111->0<=i->i<=(out.length:Int)->i<=2147483648->
  ∃ l a e,Xo.l1 k pU s out at' n i b=some (l,a,e)/\Yu.l3 k s out at' n i b=some (l,a,e)/\(l.length:Int)<=(s.size:Int)+1:=by
 have hb:=hs;unfold Zv at hb;have hK:(K0:Int)=1180591620717411303424:=rfl;intro q
 induction q with
 | zero=>
  intro out at' n i b k h1 h2 h3 h4 h5 h6 h7 h8 h9 h10;obtain ⟨k,rfl⟩:∃ j,k=j+1:=⟨k-1,by omega⟩;simp only [Xo.l1,Yu.l3];rw [if_neg (by omega),if_neg (by omega)];exact ⟨_,_,_,rfl,rfl,by first | omega | (simp;omega)⟩
 | succ q ih=>
  intro out at' n i b k h1 h2 h3 h4 h5 h6 h7 h8 h9 h10;obtain ⟨k,rfl⟩:∃ j,k=j+1:=⟨k-1,by omega⟩;simp only [Xo.l1,Yu.l3];by_cases c:at'<(s.size:Int)
  ·rw [if_pos c,if_pos c]
   obtain ⟨pl,e,at2,i2,q1,q2,q3⟩:=Zy1 (Yu.l3 k s) s (by unfold Zv;omega) out n i b K0 at' i 1 36 (by omega) h3 (by omega) h8 (by omega) (by omega) (by omega) (by omega) (by omega);simp only [Hi.f,Qu.f,q1,Option.bind_some];by_cases he:e=0
   ·obtain ⟨p1,p2,p3,p4,ac,ab,ao,p5,p6⟩:=q3 he
    rw [p6];have wl:i64.wrap ((out.length:Int)+1)=(out.length:Int)+1:=w64 (by omega) (by omega);have hpos:(0:Int)<(out.length:Int)+1:=by omega
    have td:i2.tdiv ((out.length:Int)+1)=i2/((out.length:Int)+1):=Int.tdiv_eq_ediv_of_nonneg (by omega);have tm:i2.tmod ((out.length:Int)+1)=i2%((out.length:Int)+1):=Int.tmod_eq_emod_of_nonneg (by omega);have d0:0<=i2/((out.length:Int)+1):=Int.ediv_nonneg (by omega) (by omega);have d1:i2/((out.length:Int)+1)<=i2:=Int.ediv_le_self _ (by omega);have m0:0<=i2%((out.length:Int)+1):=Int.emod_nonneg _ (by omega);have m1:i2%((out.length:Int)+1)<(out.length:Int)+1:=Int.emod_lt_of_pos _ hpos;have m2:i2%((out.length:Int)+1)<=i2:=by have:=Int.mul_ediv_add_emod i2 ((out.length:Int)+1);have:=Int.mul_nonneg (show (0:Int)<=(out.length:Int)+1 by omega) d0;omega
    have wd:i64.wrap (i2-i)=i2-i:=w64 (by omega) (by omega);have w1:i64.wrap (i2/((out.length:Int)+1))=i2/((out.length:Int)+1):=w64 (by omega) (by omega);have w2:i64.wrap (n+i2/((out.length:Int)+1))=n+i2/((out.length:Int)+1):=w64 (by omega) (by omega);have w3:i64.wrap (at2-1)=at2-1:=w64 (by omega) (by omega);have w4:i64.wrap (i2%((out.length:Int)+1)+1)=i2%((out.length:Int)+1)+1:=w64 (by omega) (by omega);have w5:i64.wrap (at2-1+1)=at2:=by rw [w64 (by omega) (by omega)];omega
    obtain ⟨ad,had⟩:=Zo4 (i2-i) ((out.length:Int)+1) (decide (i=0)) (by omega) (by omega) (by omega);have hne:¬ (out.length:Int)+1=0:=by omega
    simp only [he,ne_eq,not_true_eq_false,if_false,Z5t,p5,wl,Zsj,wd,had,Option.bind_some,hne,not_false_eq_true,if_true,td,tm,w1,w2,w3,w4];by_cases c2:1114111<n+i2/((out.length:Int)+1)
    ·simp only [if_pos c2,Option.bind_some]
     exact ⟨_,_,_,rfl,rfl,by first | omega | (simp;omega)⟩
    ·simp only [if_neg c2,Zrx]
     obtain ⟨sb,hsb⟩:=Zt3 (i32.wrap (n+i2/((out.length:Int)+1)));simp only [hsb,Option.bind_some]
     cases sb with
     | false=>exact ⟨_,_,_,rfl,rfl,by first | omega | (simp;omega)⟩
     | true=>
      have hms:out.length+1<=most:=by unfold most;omega
      obtain ⟨im,him⟩:∃ im:Nat,i2%((out.length:Int)+1)=(im:Int):=⟨(i2%((out.length:Int)+1)).toNat,by omega⟩;have hsh:=Z2v (Yu.l3 k s) out n (at2-1) ac ab ao ad i2 p5 (i:=im) (by rw [wl,tm,him]) (by unfold Zv;omega) out.length 0 K0 (by omega) (Nat.le_refl _) (by omega);have e1:out.take out.length++(0:Int)::out.drop out.length=out++[0]:=by simp
      have e2:i64.wrap (((out++[(0:Int)]).length:Int)-1)=(out.length:Int):=by rw [List.length_append,w64 (by simp<;>omega) (by simp<;>omega)];simp
      rw [e1,wl,td,w1,w2,w5,<- him,w4] at hsh;have hil:(Zgn out (i2%((out.length:Int)+1)) (i32.wrap (n+i2/((out.length:Int)+1)))).length=out.length+1:=by simp [Zgn];omega
      obtain ⟨l,a,e',r1,r2,r3⟩:=ih (Zgn out (i2%((out.length:Int)+1)) (i32.wrap (n+i2/((out.length:Int)+1)))) at2 (n+i2/((out.length:Int)+1)) (i2%((out.length:Int)+1)+1) ad k (by omega) (by omega) (by omega) (by rw [hil];omega) (by omega) (by omega) (by omega) (by omega) (by rw [hil];omega) (by omega);refine ⟨l,a,e',?_,?_,r3⟩
      ·rw [if_neg (by decide),if_pos ⟨m0,by omega,hms⟩,Option.bind_some,if_neg (by simp)]
       exact r1
      ·rw [if_neg (by decide),if_pos (by simpa using hms),e2,hsh]
       exact r2
   ·rw [q2 he]
    simp only [ne_eq,he,not_false_eq_true,if_true,Option.bind_some];exact ⟨_,_,_,rfl,rfl,by first | omega | (simp;omega)⟩
  ·rw [if_neg c,if_neg c]
   exact ⟨_,_,_,rfl,rfl,by first | omega | (simp;omega)⟩
theorem Zyt (s:ByteArray) (hs:s.size<=Zv):∀ (m:Nat) (i:Int) (k:Nat),i+1<=(m:Int)->m<k->-1<=i->i<(s.size:Int)->
  ∃ r,Yq.l1 k s 45 i=some r/\((r=-1/\∀ j,0<=j->j<=i->bt s j≠45)\/(0<=r/\r<=i/\bt s r=45/\∀ j,r<j->j<=i->bt s j≠45)):=by
 have hb:=hs;unfold Zv at hb;intro m
 induction m with
 | zero=>
  intro i k h1 h2 h3 h4;obtain ⟨k,rfl⟩:∃ q,k=q+1:=⟨k-1,by omega⟩;simp only [Yq.l1];rw [if_neg (by omega)];exact ⟨-1,rfl,.inl ⟨rfl,λj a b=>by omega⟩⟩
 | succ m ih=>
  intro i k h1 h2 h3 h4;obtain ⟨k,rfl⟩:∃ q,k=q+1:=⟨k-1,by omega⟩;simp only [Yq.l1];by_cases c:0<=i
  ·rw [if_pos c,if_pos ⟨c,h4⟩]
   by_cases d:bt s i=45
   ·rw [if_pos d]
    exact ⟨i,rfl,.inr ⟨c,Int.le_refl _,d,λj a b=>by omega⟩⟩
   ·rw [if_neg d,w64 (by omega) (by omega)]
    obtain ⟨r,q1,q2⟩:=ih (i-1) k (by omega) (by omega) (by omega) (by omega);refine ⟨r,q1,?_⟩
    rcases q2 with ⟨a1,a2⟩ | ⟨a1,a2,a3,a4⟩
    ·refine .inl ⟨a1,λj b1 b2=>?_⟩
     by_cases e:j=i
     ·rw [e];exact d
     ·exact a2 j b1 (by omega)
    ·refine .inr ⟨a1,by omega,a3,λj b1 b2=>?_⟩
     by_cases e:j=i
     ·rw [e];exact d
     ·exact a4 j b1 (by omega)
  ·rw [if_neg c]
   exact ⟨-1,rfl,.inl ⟨rfl,λj a b=>by omega⟩⟩
def Z5i (s:ByteArray) (i al:Int):Prop:=(al=0/\∀ j,0<j->j<i->bt s j≠45)\/(0<al/\al<i/\bt s al=45/\∀ j,al<j->j<i->bt s j≠45)
theorem Z1k (s:ByteArray) (hs:s.size<=Zv):∀ (m:Nat) (i al:Int) (k:Nat),(s.size:Int)-i<=(m:Int)->m<k->0<=i->i<=(s.size:Int)->Z5i s i al->
  ∃ al',Yu.l5 k s al i=Yu.l4 K0 s al' [] 0/\Z5i s (s.size:Int) al':=by
 have hb:=hs;unfold Zv at hb;intro m
 induction m with
 | zero=>
  intro i al k h1 h2 h3 h4 h5;obtain ⟨k,rfl⟩:∃ q,k=q+1:=⟨k-1,by omega⟩;obtain rfl:i=(s.size:Int):=by omega
  simp only [Yu.l5];rw [if_neg (by omega)];exact ⟨al,rfl,h5⟩
 | succ m ih=>
  intro i al k h1 h2 h3 h4 h5;obtain ⟨k,rfl⟩:∃ q,k=q+1:=⟨k-1,by omega⟩;simp only [Yu.l5,Yu.j1];by_cases c:i<(s.size:Int)
  ·rw [if_pos c,if_pos ⟨h3,c⟩,w64 (by omega) (by omega)]
   by_cases d:bt s i=45
   ·rw [if_pos d]
    refine ih (i+1) i k (by omega) (by omega) (by omega) (by omega) ?_;by_cases e:i=0
    ·exact .inl ⟨e,λj a b=>by omega⟩
    ·exact .inr ⟨by omega,by omega,d,λj a b=>by omega⟩
   ·rw [if_neg d]
    refine ih (i+1) al k (by omega) (by omega) (by omega) (by omega) ?_
    rcases h5 with ⟨a1,a2⟩ | ⟨a1,a2,a3,a4⟩
    ·refine .inl ⟨a1,λj b1 b2=>?_⟩
     by_cases e:j=i
     ·rw [e];exact d
     ·exact a2 j b1 (by omega)
    ·refine .inr ⟨a1,by omega,a3,λj b1 b2=>?_⟩
     by_cases e:j=i
     ·rw [e];exact d
     ·exact a4 j b1 (by omega)
  ·rw [if_neg c]
   obtain rfl:i=(s.size:Int):=by omega
   exact ⟨al,rfl,h5⟩
theorem Zys (s:ByteArray) (hs:s.size<=Zv):∃ r al,Us.f s 45=some r/\Yu.f s=Yu.l4 K0 s al [] 0/\(if 0<r then al=r else al=0)/\r<(s.size:Int):=by
 have hb:=hs;unfold Zv at hb;have hK:(K0:Int)=1180591620717411303424:=rfl;obtain ⟨r,p1,p2⟩:=Zyt s hs s.size ((s.size:Int)-1) K0 (by omega) (by omega) (by omega) (by omega);obtain ⟨al,q1,q2⟩:=Z1k s hs s.size 0 0 K0 (by omega) (by omega) (by omega) (by omega) (.inl ⟨rfl,λj a b=>by omega⟩);refine ⟨r,al,?_,q1,?_,?_⟩
 ·rw [Us.f,Yq.f,w64 (by omega) (by omega),p1];rfl
 ·rcases p2 with ⟨a1,a2⟩ | ⟨a1,a2,a3,a4⟩
  ·rw [if_neg (by omega)]
   rcases q2 with ⟨b1,_⟩ | ⟨b1,b2,b3,_⟩
   ·exact b1
   ·exact absurd b3 (a2 al (by omega) (by omega))
  ·by_cases c:0<r
   ·rw [if_pos c]
    rcases q2 with ⟨b1,b2⟩ | ⟨b1,b2,b3,b4⟩
    ·exact absurd a3 (b2 r c (by omega))
    ·by_cases d:al<r
     ·exact absurd a3 (b4 r d (by omega))
     ·by_cases d2:r<al
      ·exact absurd b3 (a4 al d2 (by omega))
      ·omega
   ·rw [if_neg c]
    rcases q2 with ⟨b1,b2⟩ | ⟨b1,b2,b3,b4⟩
    ·exact b1
    ·exact absurd b3 (a4 al (by omega) (by omega))
 ·rcases p2 with ⟨a1,_⟩ | ⟨_,a2,_,_⟩<;>omega
def Zxx (s:ByteArray):Prop:=∀ j,0<=j->j<(s.size:Int)->bt s j<128
theorem Zn1 (s:ByteArray) (hs:2*s.size<=Zv) (ha:Zxx s) (al:Int) (h0:0<=al) (h1:al<=(s.size:Int)):∀ (m:Nat) (i:Nat) (k:Nat),al-i<=(m:Int)->m<k->(i:Int)<=al->
  Yu.l4 k s al ((Vw s).take i) (i:Int)=Yu.j2 s ((Vw s).take al.toNat) (if 0<al then i64.wrap (al+1) else al):=by
 have hb:=hs;unfold Zv at hb;intro m
 induction m with
 | zero=>
  intro i k a b c;obtain ⟨k,rfl⟩:∃ q,k=q+1:=⟨k-1,by omega⟩;simp only [Yu.l4];have e:al.toNat=i:=by omega
  rw [if_neg (by omega),e];split<;>rfl
 | succ m ih=>
  intro i k a b c;obtain ⟨k,rfl⟩:∃ q,k=q+1:=⟨k-1,by omega⟩;simp only [Yu.l4];by_cases d:(i:Int)<al
  ·have hi:=ha i (by omega) (by omega)
   obtain ⟨r1,r2⟩:=Zjn s i (by omega) (by omega);have wv:i32.wrap (bt s i)=bt s i:=w32 (by omega) (by omega);have hl:i<(Vw s).length:=by rw [J1];omega
   rw [if_pos d,if_pos ⟨by omega,by omega⟩,if_neg (by omega),wv,if_pos (by unfold most;simp;omega),w64 (by omega) (by omega)];have e:(Vw s).take i++[bt s i]=(Vw s).take (i+1):=by rw [List.take_add_one,List.getElem?_eq_getElem hl,Zmu];unfold rd;simp [List.getD_eq_getElem?_getD,hl]
   rw [e];have:=ih (i+1) k (by omega) (by omega) (by omega);rw [show ((i+1:Nat):Int)=(i:Int)+1 by omega] at this;exact this
  ·have e:al.toNat=i:=by omega
   rw [if_neg d,e];split<;>rfl
theorem Z0i (e:xs=x::t) (h0:0<=x) (h1:x<128):Xk.f xs=some (x,1):=by
 subst e;obtain ⟨k,hk⟩:∃ k,K0=k+1:=⟨1180591620717411303423,rfl⟩;rw [Xk.f,hk];simp only [Xk.l1];rw [if_pos (by simp<;>omega),if_pos ⟨by omega,by simp<;>omega⟩,show rd (x::t) 0=x from rfl,if_pos h1,w32 (by omega) (by omega)]
theorem Zyb (xs:List Int) (hx:xs.length<=Zv) (ha:∀ x∈xs,0<=x/\x<128):U9.f xs 36 1 26 38 700 72 128 45=some (-1):=by
 rw [U9.f,Q9.f];have key:=Qe (λk i (_:Unit)=>Q9.l1 k 36 1 26 38 700 72 128 45 xs true i) xs (λ_ _ _ o=>o=some (-1)) (λ_ k=>?_) (λpre x t _ k e ih=>?_) () K0 (ltK hx)
 ·rw [key];rfl
 ·simp only [Q9.l1,if_neg (show ¬ (xs.length:Int)<(xs.length:Int) by omega)]
 ·obtain ⟨m1,m2⟩:=mid e
  obtain ⟨h0,h1⟩:=ha x (by rw [e];simp);have hs:sub xs (pre.length:Int) (xs.length:Int)=x::t:=Zmf e;have hbas:Ul.f x 36 1 26 38 700 72 128 45=some false:=by rw [Ul.f,Qq.f,w64 (by omega) (by omega),if_pos h1,Qq.j1,decide_eq_true h1];rfl
  simp only [Q9.l1,if_pos m2.2,if_pos (show (0:Int)<=(pre.length:Int)/\(pre.length:Int)<=(xs.length:Int)/\(xs.length:Int)<=(xs.length:Int) from ⟨by omega,by omega,by omega⟩),hs,Z0i rfl h0 h1,Option.bind_some,hbas,nxt hx e];rw [if_neg (by decide)];exact ih ()
theorem Zyf (s:ByteArray) (i:Nat) (h:i<s.size) (ha:bt s (i:Int)<128):Utf8.decode s i=((bt s (i:Int)).toNat,1):=by
 have e:(s.get! i).toNat=(bt s (i:Int)).toNat:=by
  have e1:((i:Nat):Int).toNat=i:=by omega
  have hd:i<s.data.size:=h;unfold bt;rw [e1]
  cases s with
  | mk d=>simp [ByteArray.get!,Array.getD_eq_getD_getElem?,show i<d.size from hd]
 have hlt:(s.get! i).toNat<128:=by rw [e];omega
 unfold Utf8.decode;simp only [Nat.add_zero];rw [if_pos hlt,e]
theorem Zn5 (s:ByteArray) (ha:Zxx s):∀ (b i:Nat) (acc:Array Value),s.size<=b+i->(Conv.runesFrom s b i acc).toList=acc.toList++((Vw s).drop i).map (Value.int .i32)
 | 0,i,acc,h=>by
  rw [Conv.runesFrom,List.drop_of_length_le (by rw [J1];omega)];simp
 | b+1,i,acc,h=>by
  unfold Conv.runesFrom
  by_cases c:i<s.size
  ·have hi:=ha i (by omega) (by omega)
   obtain ⟨r1,r2⟩:=Zjn s i (by omega) (by omega)
   have hl:i<(Vw s).length:=by rw [J1];exact c
   rw [if_pos c,Zyf s i c hi]
   simp only
   rw [Zn5 s ha b (i+1) _ (by omega),List.drop_eq_getElem_cons hl]
   have e:(Vw s)[i]=bt s (i:Int):=by
    rw [Zmu];unfold rd;simp [List.getD_eq_getElem?_getD,hl]
   rw [e,Array.toList_push,List.map_cons,List.append_assoc]
   have e2:(Int.ofNat (bt s (i:Int)).toNat)=bt s (i:Int):=by
    show (((bt s (i:Int)).toNat:Nat):Int)=_
    omega
   rw [e2];rfl
  ·rw [if_neg c,List.drop_of_length_le (by rw [J1];omega)];simp
theorem Zrw (s:ByteArray) (ha:Zxx s):Zbw s=Vw s:=by
 have h:=Zk5 s;rw [Zn5 s ha s.size 0 #[] (by omega)] at h;simp only [List.nil_append,List.drop_zero] at h;have hinj:∀ (a b:List Int),a.map (Value.int .i32)=b.map (Value.int .i32)->a=b:=by
  intro a
  induction a with
  | nil=>intro b h;cases b with | nil=>rfl | cons _ _=>simp at h
  | cons x a ih=>
   intro b h
   cases b with
   | nil=>simp at h
   | cons y b=>simp at h;rw [h.1,ih b (by simpa using h.2)]
 exact (hinj _ _ h).symm
theorem Zio (s:ByteArray) (n:Nat):Vw (s.extract 0 n)=(Vw s).take n:=by
 simp [Vw,ByteArray.extract,ByteArray.copySlice,List.map_take]
theorem Zuo (s:ByteArray) (hs:2*s.size<=Zv) (ha:Zxx s):∃ l a e,Xo.f pU s=some (l,a,e)/\Yu.f s=some (l,a,e)/\(l.length:Int)<=(s.size:Int)+1:=by
 have hb:=hs;unfold Zv at hb;have hK:(K0:Int)=1180591620717411303424:=rfl;obtain ⟨r,al,p1,p2,p3,p4⟩:=Zys s (by unfold Zv;omega);by_cases c:0<r
 ·rw [if_pos c] at p3
  subst p3;have hpre:=Zn1 s hs ha al (by omega) (by omega) s.size 0 K0 (by omega) (by omega) (by omega);rw [if_pos c,w64 (by omega) (by omega)] at hpre;have hlen:((Vw s).take al.toNat).length=al.toNat:=by rw [List.length_take,J1];omega
  obtain ⟨l,a,e,q1,q2,q3⟩:=Zxe s hs (s.size+1) ((Vw s).take al.toNat) (al+1) 128 0 72 K0 (by omega) (by omega) (by omega) (by rw [hlen];omega) (by omega) (by omega) (by omega) (by omega) (by omega) (by omega);refine ⟨l,a,e,?_,?_,q3⟩
  ·have hx:∀ x∈Vw (s.extract 0 al.toNat),0<=x/\x<128:=by
    intro x hx;rw [Zio] at hx;obtain ⟨j,hj0,hj2⟩:=List.getElem_of_mem (List.mem_of_mem_take hx);have hj:j<s.size:=by rw [<- J1];exact hj0
    have h1:=ha j (by omega) (by omega);obtain ⟨h2,_⟩:=Zjn s j (by omega) (by omega);have e1:bt s (j:Int)=x:=by rw [Zmu,<- hj2];unfold rd;simp [List.getD_eq_getElem?_getD,hj0]
    rw [e1] at h1 h2;exact ⟨h2,h1⟩
   have hsz:(s.extract 0 al.toNat).size=al.toNat:=by rw [<- J1,Zio,hlen]
   have hasc:Zxx (s.extract 0 al.toNat):=λj j0 j1=>by
    rw [Zmu]
    exact (hx _ (Zk2 j0 (by rw [J1];exact j1))).2
   have z:((0:Int)).toNat=0:=rfl
   simp only [Xo.f,p1,Option.bind_some,if_pos c,z]
   rw [if_pos ⟨by omega,by omega,by omega⟩,Zyb _ (by rw [J1,hsz];unfold Zv;omega) hx,Option.bind_some,if_neg (by omega),Zrw _ hasc,Zio,if_pos (by rw [hlen];unfold most;omega),Xo.j1,w64 (by omega) (by omega)]
   exact q1
  ·rw [p2]
   exact hpre.trans q2
 ·rw [if_neg c] at p3
  subst p3;have hpre:=Zn1 s hs ha 0 (by omega) (by omega) s.size 0 K0 (by omega) (by omega) (by omega);rw [if_neg (by omega)] at hpre;obtain ⟨l,a,e,q1,q2,q3⟩:=Zxe s hs (s.size+1) [] 0 128 0 72 K0 (by omega) (by omega) (by omega) (by simp) (by omega) (by omega) (by omega) (by omega) (by simp) (by omega);refine ⟨l,a,e,?_,?_,q3⟩
  ·simp only [Xo.f,p1,Option.bind_some,if_neg c,Xo.j1]
   exact q1
  ·rw [p2]
   exact hpre.trans q2
def dig (d:Int):Int:=if d<26 then 97+d else 22+d
def Zg2 (k b:Int):Int:=(Hy.f k b).getD 0
theorem Zxn (k b:Int):Hy.f k b=some (Zg2 k b)/\1<=Zg2 k b/\Zg2 k b<=26:=by
 obtain ⟨t,h1,h2,h3⟩:=Zxo k b;rw [Zg2,h1];exact ⟨rfl,h2,h3⟩
theorem Zur (h0:0<=d) (h1:d<36):Zdx.f d=some (dig d)/\0<=dig d/\dig d<128:=by
 unfold Zdx.f dig;by_cases c:d<26
 ·rw [if_pos c,if_pos c,w64 (by omega) (by omega),Zkf (by omega) (by omega)]
  exact ⟨rfl,by omega,by omega⟩
 ·rw [if_neg c,if_neg c,w64 (x:=48+d) (by omega) (by omega),w64 (by omega) (by omega),Zkf (by omega) (by omega)]
  exact ⟨by congr 1;omega,by omega,by omega⟩
def Zhb:Nat->Int->Int->Int->List Int
 | 0,q,_,_=>[dig q]
 | f+1,q,k,b=>if q<Zg2 k b then [dig q] else dig (Zg2 k b+(q-Zg2 k b)%(36-Zg2 k b))::Zhb f ((q-Zg2 k b)/(36-Zg2 k b)) (k+36) b
theorem Zkp (a5:List Int->Int->Int->Int->Int->Option (ByteArray×Int×Int)) (aa:List Int) (bias af ac ap:Int):∀ (L:Nat) (q kk:Int) (acc an:List Int) (k:Nat),L<k->0<=q->q<10^L->q<=2147483647->0<=kk->kk+36*L<=4294967296->acc.length+L+1<=most->an.length+L+1<=most->
  ((Zhb L q kk bias).length<=L+1/\∀ c∈Zhb L q kk bias,0<=c/\c<128)/\Km.l1 k pU bias acc q kk=some (acc++Zhb L q kk bias)/\Z3.l1 a5 k aa bias af ac ap an q kk=((K6.f ap (i64.wrap (af+1)) (decide (af=(aa.length:Int)))).bind λb6=>(Z3.j4 a5 ac (an++Zhb L q kk bias) 0 b6 (i64.wrap (af+1)))):=by
 intro L
 induction L with
 | zero=>
  intro q kk acc an k h1 h2 h3 h4 h5 h6 h7 h8;obtain ⟨k,rfl⟩:∃ j,k=j+1:=⟨k-1,by omega⟩;obtain ⟨t1,t2,t3⟩:=Zxn kk bias;have hq:q<Zg2 kk bias:=by simp at h3;omega
  obtain ⟨hc,c1,c2⟩:=Zur (d:=q) h2 (by omega);refine ⟨⟨by simp [Zhb],λc hm=>?_⟩,?_,?_⟩
  ·simp only [Zhb,List.mem_singleton] at hm;subst hm;exact ⟨c1,c2⟩
  ·simp only [Km.l1,Zr4,t1,Option.bind_some,if_pos hq,Zkx,hc,Zhb]
   rw [if_pos (by simp;omega)]
  ·simp only [Z3.l1,t1,Option.bind_some,if_pos hq,hc,Zhb]
   rw [if_pos (by simp;omega)]
 | succ L ih=>
  intro q kk acc an k h1 h2 h3 h4 h5 h6 h7 h8;obtain ⟨k,rfl⟩:∃ j,k=j+1:=⟨k-1,by omega⟩;obtain ⟨t1,t2,t3⟩:=Zxn kk bias;by_cases hq:q<Zg2 kk bias
  ·obtain ⟨hc,c1,c2⟩:=Zur (d:=q) h2 (by omega)
   have ed:Zhb (L+1) q kk bias=[dig q]:=by rw [Zhb,if_pos hq]
   rw [ed];refine ⟨⟨by simp,λc hm=>?_⟩,?_,?_⟩
   ·simp only [List.mem_singleton] at hm;subst hm;exact ⟨c1,c2⟩
   ·simp only [Km.l1,Zr4,t1,Option.bind_some,if_pos hq,Zkx,hc]
    rw [if_pos (by simp;omega)]
   ·simp only [Z3.l1,t1,Option.bind_some,if_pos hq,hc]
    rw [if_pos (by simp;omega)]
  ·have ed:Zhb (L+1) q kk bias=dig (Zg2 kk bias+(q-Zg2 kk bias)%(36-Zg2 kk bias))::Zhb L ((q-Zg2 kk bias)/(36-Zg2 kk bias)) (kk+36) bias:=by rw [Zhb,if_neg hq]
   rw [ed];revert hq t1 t2 t3;generalize Zg2 kk bias=t;intro t1 t2 t3 hq;have w1:i64.wrap (36-t)=36-t:=w64 (by omega) (by omega);have w2:i64.wrap (q-t)=q-t:=w64 (by omega) (by omega);have e1:(q-t).tdiv (36-t)=(q-t)/(36-t):=Int.tdiv_eq_ediv_of_nonneg (by omega);have e2:(q-t).tmod (36-t)=(q-t)%(36-t):=Int.tmod_eq_emod_of_nonneg (by omega);have m0:0<=(q-t)%(36-t):=Int.emod_nonneg _ (by omega);have m1:(q-t)%(36-t)<36-t:=Int.emod_lt_of_pos _ (by omega);have d0:0<=(q-t)/(36-t):=Int.ediv_nonneg (by omega) (by omega);have d1:(q-t)/(36-t)<=q-t:=Int.ediv_le_self _ (by omega);have d2:(q-t)/(36-t)<10^L:=by apply Int.ediv_lt_of_lt_mul (by omega);have p0:(0:Int)<10^L:=Int.pow_pos (by omega);have p1:(10:Int)^(L+1)=10^L*10:=Int.pow_succ 10 L;have p2:(10:Int)^L*10<=10^L*(36-t):=Int.mul_le_mul_of_nonneg_left (by omega) (by omega);omega
   have w3:i64.wrap ((q-t)/(36-t))=(q-t)/(36-t):=w64 (by omega) (by omega);have w4:i64.wrap (kk+36)=kk+36:=w64 (by omega) (by omega);have w5:i64.wrap (t+(q-t)%(36-t))=t+(q-t)%(36-t):=w64 (by omega) (by omega);obtain ⟨hc,c1,c2⟩:=Zur (d:=t+(q-t)%(36-t)) (by omega) (by omega);obtain ⟨⟨i0,i1⟩,i2,i3⟩:=ih ((q-t)/(36-t)) (kk+36) (acc++[dig (t+(q-t)%(36-t))]) (an++[dig (t+(q-t)%(36-t))]) k (by omega) d0 d2 (by omega) (by omega) (by omega) (by simp;omega) (by simp;omega);refine ⟨⟨by simp;omega,λc hm=>?_⟩,?_,?_⟩
   ·rcases List.mem_cons.1 hm with rfl | hm
    ·exact ⟨c1,c2⟩
    ·exact i1 c hm
   ·simp only [Km.l1,Zr4,t1,Option.bind_some,if_neg hq,w1,w2,e2,w5,Zkx,hc,e1,w3,w4]
    rw [if_pos (by omega),if_pos (by simp;omega),i2];simp
   ·simp only [Z3.l1,t1,Option.bind_some,if_neg hq,w1,w2,e2,w5,hc,e1,w3,w4]
    rw [if_pos (by omega),if_pos (by simp;omega),i3];simp
def scB (p:Int):Bool:=(Vp.f p).getD false
theorem Zvv (p:Int):Vp.f p=some (scB p):=by
 obtain ⟨b,hb⟩:=Zt3 p;rw [scB,hb];rfl
theorem Z1a (l:List Int) (hl:l.length<=Zv) (hr:∀ x∈l,-2147483648<=x/\x<=2147483647):Y7.f l 36 1 26 38 700 72 128 45=some (-1):=by
 rw [Y7.f];have key:=Zjv (λk i=>Y7.l1 k 36 1 26 38 700 72 128 45 l i) l (λ_=>false) hl (λk=>?_) (λk pre x t e=>?_)
 ·rw [key]
  have:∀ (m:List Int) (n:Nat),fIx (λ_=>false) m n=-1:=by
   intro m
   induction m with
   | nil=>intro n;rfl
   | cons y m ih=>intro n;rw [fIx,if_neg (by decide),ih]
  rw [this]
 ·simp only [Y7.l1,if_neg (show ¬ (l.length:Int)<(l.length:Int) by omega)]
 ·obtain ⟨m1,m2⟩:=mid e
  obtain ⟨x0,x1⟩:=hr x (by rw [e];simp);have hx:Q2.f x 36 1 26 38 700 72 128 45=some false:=by simp only [Q2.f,Q2.j1,Qq.f,Qq.j1,w64 (x:=x) (by omega) (by omega)];by_cases c:x<128<;>simp [c]
  simp only [Y7.l1,if_pos m2.2,if_pos m2,m1,hx,Option.bind_some,nxt hl e]
theorem Zy4 (l:List Int) (hl:l.length<=Zv) (hr:∀ x∈l,-2147483648<=x/\x<=2147483647):Q6.f pU l=some (if fIx (λp=>!scB p) l 0=-1 then (0,0) else (fIx (λp=>!scB p) l 0,20)):=by
 rw [Q6.f];refine Qe (λk i (_:Unit)=>Q6.l1 k pU l i) l (λpre t _ o=>o=some (if fIx (λp=>!scB p) t pre.length=-1 then (0,0) else (fIx (λp=>!scB p) t pre.length,20))) (λ_ k=>?_) (λpre x t _ k e ih=>?_) () K0 (ltK hl)
 ·simp only [Q6.l1,if_neg (show ¬ (l.length:Int)<(l.length:Int) by omega),Z1a l hl hr,Option.bind_some,fIx]
  rfl
 ·obtain ⟨m1,m2⟩:=mid e
  have h2:=ih ();simp only [List.length_append,List.length_cons,List.length_nil,Nat.zero_add] at h2;simp only [Q6.l1,if_pos m2.2,if_pos m2,m1,Zrx,Zvv,Option.bind_some,nxt hl e];by_cases c:(!scB x)=true
  ·have ef:fIx (λp=>!scB p) (x::t) pre.length=(pre.length:Int):=by rw [fIx,if_pos c]
   rw [if_pos c,ef,if_neg (by omega)]
  ·have ef:fIx (λp=>!scB p) (x::t) pre.length=fIx (λp=>!scB p) t (pre.length+1):=by rw [fIx,if_neg c]
   rw [if_neg c,h2,ef]
def Zdg (n m r:Int):Int:=if n<=r then min m r else m
theorem Z4n (l:List Int) (n:Int) (hl:l.length<=Zv) (hr:∀ x∈l,-2147483648<=x/\x<=2147483647):V5.f l n=some (l.foldl (Zdg n) 1114111):=by
 rw [V5.f];refine Qe (λk i s=>V5.l1 k l n s i) l (λ_ t s o=>o=some (t.foldl (Zdg n) s)) (λs k=>?_) (λpre x t s k e ih=>?_) 1114111 K0 (ltK hl)
 ·simp only [V5.l1,if_neg (show ¬ (l.length:Int)<(l.length:Int) by omega)];rfl
 ·obtain ⟨m1,m2⟩:=mid e
  obtain ⟨x0,x1⟩:=hr x (by rw [e];simp);simp only [V5.l1,if_pos m2.2,if_pos m2,m1,w64 (x:=x) (by omega) (by omega),V5.j1,nxt hl e,List.foldl_cons];by_cases c:n<=x
  ·rw [if_pos c,ih,Zdg,if_pos c]
  ·rw [if_neg c,ih,Zdg,if_neg c]
theorem Znj (n:Int):∀ (l:List Int) (a:Int),(l.foldl (Zdg n) a<=a)/\(∀ x∈l,n<=x->l.foldl (Zdg n) a<=x)/\(l.foldl (Zdg n) a=a\/∃ x∈l,n<=x/\l.foldl (Zdg n) a=x)
 | [],a=>⟨Int.le_refl _,(λ_ h=>by cases h),.inl rfl⟩
 | y::l,a=>by
  obtain ⟨h1,h2,h3⟩:=Znj n l (Zdg n a y)
  have g:Zdg n a y<=a/\(n<=y->Zdg n a y<=y)/\(Zdg n a y=a\/(n<=y/\Zdg n a y=y)):=by
   unfold Zdg;split<;>omega
  rw [List.foldl_cons]
  refine ⟨by omega,λx hx hn=>?_,?_⟩
  ·rcases List.mem_cons.1 hx with rfl | hx
   ·have:=g.2.1 hn;omega
   ·exact h2 x hx hn
  ·rcases h3 with h3 | ⟨x,hx,hn,h3⟩
   ·rcases g.2.2 with h4 | ⟨h4,h5⟩
    ·exact .inl (by omega)
    ·exact .inr ⟨y,by simp,h4,by omega⟩
   ·exact .inr ⟨x,by simp [hx],hn,h3⟩
theorem Z2i (a6:List Int->Int->Int->Int->Int->Option (ByteArray×Int×Int)) (l aa ad:List Int) (ao ak al ah:Int) (hl:l.length<=Zv) (hr:∀ x∈l,-2147483648<=x/\x<=2147483647):
  Z3.l3 a6 K0 l aa ad ao ak al ah 1114112 0=(if 2147483647<(i64.wrap (ak+(i64.wrap ((i64.wrap ((l.foldl (Zdg ao) 1114112)-ao))*(i64.wrap (ah+1)))))) then (some ((⟨#[]⟩:ByteArray),0,142)) else (Z3.l2 a6 K0 l aa (l.foldl (Zdg ao) 1114112) ad (i64.wrap (ak+(i64.wrap ((i64.wrap ((l.foldl (Zdg ao) 1114112)-ao))*(i64.wrap (ah+1)))))) al ah 0)):=by
 refine Qe (λk i s=>Z3.l3 a6 k l aa ad ao ak al ah s i) l (λ_ t s o=>o=(if 2147483647<(i64.wrap (ak+(i64.wrap ((i64.wrap ((t.foldl (Zdg ao) s)-ao))*(i64.wrap (ah+1)))))) then (some ((⟨#[]⟩:ByteArray),0,142)) else (Z3.l2 a6 K0 l aa (t.foldl (Zdg ao) s) ad (i64.wrap (ak+(i64.wrap ((i64.wrap ((t.foldl (Zdg ao) s)-ao))*(i64.wrap (ah+1)))))) al ah 0))) (λs k=>?_) (λpre x t s k e ih=>?_) 1114112 K0 (ltK hl)
 ·simp only [Z3.l3,if_neg (show ¬ (l.length:Int)<(l.length:Int) by omega),List.foldl_nil];rfl
 ·obtain ⟨m1,m2⟩:=mid e
  obtain ⟨x0,x1⟩:=hr x (by rw [e];simp);have wx:i64.wrap x=x:=w64 (by omega) (by omega);have g:(if ao<=x then Z3.j3 (Z3.l3 a6 k l aa ad ao ak al ah) l s (pre.length:Int) (decide (x<s)) else Z3.j3 (Z3.l3 a6 k l aa ad ao ak al ah) l s (pre.length:Int) false)=Z3.l3 a6 k l aa ad ao ak al ah (Zdg ao s x) ((pre.length:Int)+1):=by
   simp only [Z3.j3,Z3.j2,m1,wx,nxt hl e,Zdg];by_cases c:ao<=x
   ·rw [if_pos c,if_pos c]
    by_cases d:x<s
    ·rw [decide_eq_true d,if_pos rfl,show min s x=x by omega]
    ·rw [decide_eq_false d,if_neg (by decide),show min s x=s by omega]
   ·rw [if_neg c,if_neg c,if_neg (by decide)]
  simp only [Z3.l3,if_pos m2.2,if_pos m2,m1,wx];rw [g,List.foldl_cons];exact ih _
abbrev SE:=List Int×Int×Int×Int
def adI (d p:Int) (f:Bool):Int:=(K6.f d p f).getD 0
theorem Zz0 (d p:Int) (f:Bool) (h0:0<=d) (h1:d<=2147483648) (hp:1<=p):K6.f d p f=some (adI d p f):=by
 obtain ⟨r,hr⟩:=Zo4 d p f h0 h1 hp;rw [adI,hr];rfl
def Zig (b0 m:Int) (s:SE) (x:Int):Option SE:=
 if x<m then (if 2147483647<s.2.1+1 then none else some (s.1,s.2.1+1,s.2.2.1,s.2.2.2))
 else if x=m then some (s.1++Zhb 10 s.2.1 36 s.2.2.1,0,adI s.2.1 (s.2.2.2+1) (decide (s.2.2.2=b0)),s.2.2.2+1) else some s
def Zgb (b0 m:Int):List Int->SE->Option SE
 | [],s=>some s
 | x::t,s=>(Zig b0 m s x).bind (Zgb b0 m t)
structure OkE (H:Int) (s:SE):Prop where
 d0:0<=s.2.1
 d1:s.2.1<=2147483647
 h0:0<=s.2.2.2
 h1:s.2.2.2<=H
 len:(s.1.length:Int)<=12*s.2.2.2+1
 asc:∀ c∈s.1,0<=c/\c<128
def Zqw:Option (ByteArray×Int×Int):=some ((⟨#[]⟩:ByteArray),0,142)
theorem Zwm (q b:Int) (h0:0<=q) (h1:q<=2147483647):(Zhb 10 q 36 b).length<=11/\∀ c∈Zhb 10 q 36 b,0<=c/\c<128:=
 (Zkp (λ_ _ _ _ _=>none) [] b 0 0 0 10 q 36 [] [] 11 (by omega) h0 (by omega) h1 (by omega) (by omega) (by unfold most;simp) (by unfold most;simp)).1
theorem Zob (hs:OkE H s) (e:Zig b0 m s x=some s'):OkE (H+1) s'/\s'.2.2.2=s.2.2.2+(if x=m then 1 else 0):=by
 obtain ⟨d0,d1,h0,h1,len,asc⟩:=hs;unfold Zig at e;by_cases c:x<m
 ·rw [if_pos c] at e
  by_cases c2:2147483647<s.2.1+1
  ·rw [if_pos c2] at e;cases e
  ·rw [if_neg c2] at e
   obtain rfl:=Option.some.inj e;refine ⟨⟨by simp only;omega,by simp only;omega,h0,by simp only;omega,len,asc⟩,?_⟩;rw [if_neg (by omega)];simp
 ·rw [if_neg c] at e
  by_cases c2:x=m
  ·rw [if_pos c2] at e
   obtain rfl:=Option.some.inj e;obtain ⟨g1,g2⟩:=Zwm s.2.1 s.2.2.1 d0 d1;refine ⟨⟨Int.le_refl 0,by simp only;omega,by simp only;omega,by simp only;omega,?_,λc hc=>?_⟩,by rw [if_pos c2]⟩
   ·simp only [List.length_append];omega
   ·rcases List.mem_append.1 hc with hc | hc
    ·exact asc c hc
    ·exact g2 c hc
  ·rw [if_neg c2] at e
   obtain rfl:=Option.some.inj e;exact ⟨⟨d0,d1,h0,by omega,len,asc⟩,by rw [if_neg c2];simp⟩
theorem Zy8 (bi:List Int->Int->Int->Int->Int->Option (ByteArray×Int×Int)) (L aa:List Int) (m:Int) (k:Nat) (e:L=pre++x::t) (hl:L.length<=Zv) (hr:-2147483648<=x/\x<=2147483647) (s:SE) (hs:OkE H s) (hH:H<=36800000000):
  Zj.l1 bi (k+1) pU L aa m s.1 s.2.1 s.2.2.1 s.2.2.2 (pre.length:Int)=match Zig (aa.length:Int) m s x with | none=>Zqw | some s'=>Zj.l1 bi k pU L aa m s'.1 s'.2.1 s'.2.2.1 s'.2.2.2 ((pre.length:Int)+1):=by
 obtain ⟨d0,d1,h0,h1,len,asc⟩:=hs;obtain ⟨m1,m2⟩:=mid e;have wx:i64.wrap x=x:=w64 (by omega) (by omega);have wd:i64.wrap (s.2.1+1)=s.2.1+1:=w64 (by omega) (by omega);have wh:i64.wrap (s.2.2.2+1)=s.2.2.2+1:=w64 (by omega) (by omega);simp only [Zj.l1,if_pos m2.2,if_pos m2,m1,wx,wd,Zj.j3,nxt hl e,Zig];by_cases c:x<m
 ·rw [if_pos c,if_pos c]
  by_cases c2:2147483647<s.2.1+1
  ·rw [if_pos c2,if_pos c2];rfl
  ·rw [if_neg c2,if_neg c2]
 ·rw [if_neg c,if_neg c]
  by_cases c2:x=m
  ·obtain ⟨_,g2,_⟩:=Zkp (λ_ _ _ _ _=>none) [] s.2.2.1 0 0 0 10 s.2.1 36 [] [] K0 (by unfold K0;omega) d0 (by omega) d1 (by omega) (by omega) (by unfold most;simp) (by unfold most;simp)
   obtain ⟨g3,_⟩:=Zwm s.2.1 s.2.2.1 d0 d1;rw [if_pos c2,if_pos c2,Km.f,g2,List.nil_append,Option.bind_some,if_pos (by unfold most;omega),wh,Zsj,Zz0 _ _ _ d0 (by omega) (by omega),Option.bind_some,if_neg (by decide)]
  ·rw [if_neg c2,if_neg c2,if_neg (by omega)]
theorem Z2k (a6:List Int->Int->Int->Int->Int->Option (ByteArray×Int×Int)) (L aa:List Int) (m:Int) (k:Nat) (e:L=pre++x::t) (hl:L.length<=Zv) (hr:-2147483648<=x/\x<=2147483647) (s:SE) (hs:OkE H s) (hH:H<=36800000000):
  Z3.l2 a6 (k+1) L aa m s.1 s.2.1 s.2.2.1 s.2.2.2 (pre.length:Int)=match Zig (aa.length:Int) m s x with | none=>Zqw | some s'=>Z3.l2 a6 k L aa m s'.1 s'.2.1 s'.2.2.1 s'.2.2.2 ((pre.length:Int)+1):=by
 obtain ⟨d0,d1,h0,h1,len,asc⟩:=hs;obtain ⟨m1,m2⟩:=mid e;have wx:i64.wrap x=x:=w64 (by omega) (by omega);have wd:i64.wrap (s.2.1+1)=s.2.1+1:=w64 (by omega) (by omega);have wh:i64.wrap (s.2.2.2+1)=s.2.2.2+1:=w64 (by omega) (by omega);simp only [Z3.l2,if_pos m2.2,if_pos m2,m1,wx,wd,Z3.j5,Zig];by_cases c:x<m
 ·rw [if_pos c,if_pos c]
  by_cases c2:2147483647<s.2.1+1
  ·rw [if_pos c2,if_pos c2];rfl
  ·rw [if_neg c2,if_neg c2,if_pos (by omega)]
   simp only [Z3.j4,nxt hl e]
 ·rw [if_neg c,if_neg c]
  by_cases c2:x=m
  ·obtain ⟨_,_,g2⟩:=Zkp (Z3.l2 a6 k L aa m) aa s.2.2.1 s.2.2.2 (pre.length:Int) s.2.1 10 s.2.1 36 [] s.1 K0 (by unfold K0;omega) d0 (by omega) d1 (by omega) (by omega) (by unfold most;simp) (by unfold most;omega)
   rw [if_neg (by omega),if_pos c2,g2,wh,Zz0 _ _ _ d0 (by omega) (by omega),Option.bind_some];simp only [Z3.j4,nxt hl e]
  ·rw [if_pos (by omega),if_neg c2]
   simp only [Z3.j4,nxt hl e]
def Z3z (bi:List Int->Int->Int->Int->Int->Option (ByteArray×Int×Int)) (n m:Int):Option SE->Option (ByteArray×Int×Int)
 | none=>Zqw
 | some s=>(if s.2.2.2=n then Zj.j2 pU s.1 else if 2147483647<s.2.1+1 then Zqw else bi s.1 (i64.wrap (m+1)) (s.2.1+1) s.2.2.1 s.2.2.2)
def Z30 (a6:List Int->Int->Int->Int->Int->Option (ByteArray×Int×Int)) (m:Int):Option SE->Option (ByteArray×Int×Int)
 | none=>Zqw
 | some s=>a6 s.1 (i64.wrap (m+1)) (s.2.1+1) s.2.2.1 s.2.2.2
theorem Zy7 (bi:List Int->Int->Int->Int->Int->Option (ByteArray×Int×Int)) (L aa:List Int) (m:Int) (hl:2*L.length<=36800000000) (hr:∀ x∈L,-2147483648<=x/\x<=2147483647) (s:SE) (hs:OkE (L.length:Int) s):
  Zj.l1 bi K0 pU L aa m s.1 s.2.1 s.2.2.1 s.2.2.2 0=Z3z bi (L.length:Int) m (Zgb (aa.length:Int) m L s):=by
 have hb:L.length<=Zv:=by unfold Zv;omega
 refine (λkey=>key (by simpa using hs)) (Qe (σ:=SE) (β:=ByteArray×Int×Int) (λk i s=>Zj.l1 bi k pU L aa m s.1 s.2.1 s.2.2.1 s.2.2.2 i) L (λpre t s o=>OkE ((L.length:Int)+pre.length) s->o=Z3z bi (L.length:Int) m (Zgb (aa.length:Int) m t s)) ?_ ?_ s K0 (ltK hb))
 ·intro s k h
  have wd:i64.wrap (s.2.1+1)=s.2.1+1:=w64 (by have:=h.d0;omega) (by have:=h.d1;omega);simp only [Zj.l1,if_neg (show ¬ (L.length:Int)<(L.length:Int) by omega),Zgb,wd,Z3z];rfl
 ·intro pre x t s k e ih h
  have hle:L.length=pre.length+(t.length+1):=by rw [e];simp
  show Zj.l1 bi (k+1) pU L aa m s.1 s.2.1 s.2.2.1 s.2.2.2 (pre.length:Int)=_;rw [Zy8 bi L aa m k e hb (hr x (by rw [e];simp)) s h (by omega),Zgb]
  cases hst:Zig (aa.length:Int) m s x with
  | none=>rfl
  | some s'=>
   obtain ⟨k1,_⟩:=Zob h hst;rw [Option.bind_some];refine ih s' ?_;rw [List.length_append];simpa [Int.add_assoc] using k1
theorem Z2j (a6:List Int->Int->Int->Int->Int->Option (ByteArray×Int×Int)) (L aa:List Int) (m:Int) (hl:2*L.length<=36800000000) (hr:∀ x∈L,-2147483648<=x/\x<=2147483647) (s:SE) (hs:OkE (L.length:Int) s):
  Z3.l2 a6 K0 L aa m s.1 s.2.1 s.2.2.1 s.2.2.2 0=Z30 a6 m (Zgb (aa.length:Int) m L s):=by
 have hb:L.length<=Zv:=by unfold Zv;omega
 refine (λkey=>key (by simpa using hs)) (Qe (σ:=SE) (β:=ByteArray×Int×Int) (λk i s=>Z3.l2 a6 k L aa m s.1 s.2.1 s.2.2.1 s.2.2.2 i) L (λpre t s o=>OkE ((L.length:Int)+pre.length) s->o=Z30 a6 m (Zgb (aa.length:Int) m t s)) ?_ ?_ s K0 (ltK hb))
 ·intro s k h
  have wd:i64.wrap (s.2.1+1)=s.2.1+1:=w64 (by have:=h.d0;omega) (by have:=h.d1;omega);simp only [Z3.l2,if_neg (show ¬ (L.length:Int)<(L.length:Int) by omega),Zgb,wd,Z30]
 ·intro pre x t s k e ih h
  have hle:L.length=pre.length+(t.length+1):=by rw [e];simp
  show Z3.l2 a6 (k+1) L aa m s.1 s.2.1 s.2.2.1 s.2.2.2 (pre.length:Int)=_;rw [Z2k a6 L aa m k e hb (hr x (by rw [e];simp)) s h (by omega),Zgb]
  cases hst:Zig (aa.length:Int) m s x with
  | none=>rfl
  | some s'=>
   obtain ⟨k1,_⟩:=Zob h hst;rw [Option.bind_some];refine ih s' ?_;rw [List.length_append];simpa [Int.add_assoc] using k1
theorem Zts:∀ (t:List Int) {H:Int} {s s':SE},OkE H s->Zgb b0 m t s=some s'->OkE (H+t.length) s'/\s'.2.2.2=s.2.2.2+(t.countP (λx=>decide (x=m)):Int)
 | [],H,s,s',hs,e=>by
  obtain rfl:=Option.some.inj e
  exact ⟨by simpa using hs,by simp⟩
 | x::t,H,s,s',hs,e=>by
  rw [Zgb] at e
  cases hst:Zig b0 m s x with
  | none=>rw [hst] at e;cases e
  | some s1=>
   rw [hst,Option.bind_some] at e
   obtain ⟨h1,h2⟩:=Zob hs hst
   obtain ⟨h3,h4⟩:=Zts t h1 e
   refine ⟨?_,?_⟩
   ·rw [List.length_cons]
    have:H+((t.length+1:Nat):Int)=H+1+t.length:=by omega
    rw [this];exact h3
   ·rw [h4,h2,List.countP_cons]
    by_cases c:x=m<;>simp [c]<;>omega
def Zf7 (n:Int) (L:List Int):Int:=(L.countP (λx=>decide (x<n)):Int)
theorem Znd (n:Int) (L:List Int):Zf7 n L<=(L.length:Int):=by
 have:=List.countP_le_length (p:=λx=>decide (x<n)) (l:=L);unfold Zf7;omega
theorem Zne (hn:n<=m):∀ (L:List Int),(∀ x∈L,n<=x->m<=x)->Zf7 (m+1) L=Zf7 n L+(L.countP (λx=>decide (x=m)):Int)
 | [],_=>rfl
 | y::L,h=>by
  have ih:=Zne hn L (λx hx=>h x (by simp [hx]))
  have hy:=h y (by simp)
  unfold Zf7 at ih ⊢
  simp only [List.countP_cons,decide_eq_true_eq]
  by_cases c:y<n
  ·rw [if_pos (by omega),if_pos c,if_neg (by omega)];omega
  ·have:=hy (by omega)
   by_cases c2:y=m
   ·rw [if_pos (by omega),if_neg c,if_pos c2];omega
   ·rw [if_neg (by omega),if_neg c,if_neg c2];omega
theorem Zyu (h:Zf7 n L<(L.length:Int)):∃ x∈L,n<=x:=by
 apply Classical.byContradiction;intro hc;have:L.countP (λx=>decide (x<n))=L.length:=List.countP_eq_length.2 λx hx=>by
  simp only [decide_eq_true_eq];apply Classical.byContradiction;intro hx2;exact hc ⟨x,hx,by omega⟩
 unfold Zf7 at h;omega
theorem Z1t (hr:∀ x∈L,x<=1114111) (h:Zf7 n L<(L.length:Int)):L.foldl (Zdg n) 1114112=L.foldl (Zdg n) 1114111/\L.foldl (Zdg n) 1114111∈L/\n<=L.foldl (Zdg n) 1114111/\∀ x∈L,n<=x->L.foldl (Zdg n) 1114111<=x:=by
 obtain ⟨x,hx,hn⟩:=Zyu h;obtain ⟨a1,a2,a3⟩:=Znj n L 1114111;obtain ⟨b1,b2,b3⟩:=Znj n L 1114112;have hx1:=hr x hx;have hx2:=a2 x hx hn;have hx3:=b2 x hx hn;have hm:L.foldl (Zdg n) 1114111∈L/\n<=L.foldl (Zdg n) 1114111:=by
  rcases a3 with a3 | ⟨y,hy,hy2,a3⟩
  ·have:L.foldl (Zdg n) 1114111=x:=by omega
   rw [this];exact ⟨hx,hn⟩
  ·rw [a3];exact ⟨hy,hy2⟩
 refine ⟨?_,hm.1,hm.2,a2⟩;have h1:=b2 _ hm.1 hm.2
 rcases b3 with b3 | ⟨y,hy,hy2,b3⟩
 ·omega
 ·have:=a2 y hy hy2;omega
def Zcs (L:List Int) (n:Int):Int:=L.foldl (Zdg n) 1114111
def Zus (L:List Int) (b0:Int):Nat->List Int->Int->Int->Int->Int->Option (Option (List Int))
 | 0,_,_,_,_,_=>none
 | k+1,o,n,d,b,h=>if h<(L.length:Int) then (if 2147483647<d+(Zcs L n-n)*(h+1) then some none else match Zgb b0 (Zcs L n) L (o,d+(Zcs L n-n)*(h+1),b,h) with
   | none=>some none
   | some s=>Zus L b0 k s.1 (Zcs L n+1) (s.2.1+1) s.2.2.1 s.2.2.2) else some (some o)
def Zs7:Option (List Int)->Option (ByteArray×Int×Int)
 | none=>Zqw
 | some o=>(Yu.f (Zbn o)).bind λck=>if ck.2.2≠0 then Zqw else some (Zbn o,0,0)
theorem Zsq (h:∀ c∈o,0<=c/\c<128):Vw (Zbn o)=o:=by
 rw [Vw,Zlg,List.map_map];have:∀ m:List Int,(∀ c∈m,0<=c/\c<128)->m.map ((λb:UInt8=>(b.toNat:Int))∘λn:Int=>UInt8.ofNat n.toNat)=m:=by
  intro m
  induction m with
  | nil=>intro _;rfl
  | cons x m ih=>
   intro hm;have hx:=hm x (by simp);rw [List.map_cons,ih λy hy=>hm y (by simp [hy])];congr 1;simp only [Function.comp,UInt8.toNat_ofNat'];omega
 exact this o h
theorem Ziy (h:∀ c∈o,0<=c/\c<128):(Zbn o).size=o.length:=by rw [<- J1,Zsq h]
theorem Zz5 (h:∀ c∈o,0<=c/\c<128):Zxx (Zbn o):=λj j0 j1=>by
 rw [Ziy h] at j1
 rw [Zmu,Zsq h]
 exact (h _ (Zk2 j0 j1)).2
theorem Zu5 (h:∀ c∈o,0<=c/\c<128) (hl:2*o.length<=Zv):Zj.j2 pU o=Zs7 (some o):=by
 obtain ⟨l,a,e,h1,h2,_⟩:=Zuo (Zbn o) (by rw [Ziy h];exact hl) (Zz5 h);rw [Zj.j2,Zs7,h1,h2];rfl
theorem Z0n (L aa:List Int) (hl:L.length<=18400000000) (hr:∀ x∈L,0<=x/\x<=1114111):∀ (q k:Nat) (o:List Int) (n d b h:Int),(L.length:Int)-h<=(q:Int)->q<k->128<=n->n<=1114112->0<=d->d<=2147483648->h=Zf7 n L->(o.length:Int)<=12*h+1->(∀ c∈o,0<=c/\c<128)->
  ∃ r,Zus L (aa.length:Int) k o n d b h=some r/\Z3.l4 k L aa o n d b h=Zs7 r/\(d<=2147483647->Zj.l2 k pU L aa o n d b h=Zs7 r)/\(2147483647<d->h<(L.length:Int)->r=none)/\(∀ o',r=some o'->(∀ c∈o',0<=c/\c<128)/\o'.length<=12*L.length+1):=by
 have hb:L.length<=Zv:=by unfold Zv;omega
 have hr2:∀ x∈L,-2147483648<=x/\x<=2147483647:=λx hx=>by have:=hr x hx;omega
 intro q
 induction q with
 | zero=>
  intro k o n d b h h1 h2 h3 h4 h5 h6 h7 h8 h9;obtain ⟨k,rfl⟩:∃ j,k=j+1:=⟨k-1,by omega⟩;have hle:=Znd n L;have hn:¬ h<(L.length:Int):=by omega
  refine ⟨some o,by rw [Zus,if_neg hn],?_,λ_=>?_,λ_ c=>absurd c hn,λo' e=>?_⟩
  ·rw [Z3.l4,if_neg hn];rfl
  ·rw [Zj.l2,if_neg hn]
   exact Zu5 h9 (by unfold Zv;omega)
  ·obtain rfl:=Option.some.inj e
   exact ⟨h9,by omega⟩
 | succ q ih=>
  intro k o n d b h h1 h2 h3 h4 h5 h6 h7 h8 h9;obtain ⟨k,rfl⟩:∃ j,k=j+1:=⟨k-1,by omega⟩;have hle:=Znd n L;by_cases hn:h<(L.length:Int)
  ·obtain ⟨g1,g2,g3,g4⟩:=Z1t (λx hx=>(hr x hx).2) (n:=n) (L:=L) (by omega)
   have g5:=(hr _ g2).2;change Zcs L n∈L at g2;change n<=Zcs L n at g3;change ∀ x∈L,n<=x->Zcs L n<=x at g4;change Zcs L n<=1114111 at g5;change L.foldl (Zdg n) 1114112=Zcs L n at g1;have hh0:0<=h:=by rw [h7];unfold Zf7;omega
   have p0:0<=(Zcs L n-n)*(h+1):=Int.mul_nonneg (by omega) (by omega);have p1:(Zcs L n-n)*(h+1)<=1114112*18400000001:=Int.mul_le_mul (by omega) (by omega) (by omega) (by omega);have w1:i64.wrap (Zcs L n-n)=Zcs L n-n:=w64 (by omega) (by omega);have w2:i64.wrap (h+1)=h+1:=w64 (by omega) (by omega);have w3:i64.wrap ((Zcs L n-n)*(h+1))=(Zcs L n-n)*(h+1):=w64 (by omega) (by omega);have w4:i64.wrap (d+(Zcs L n-n)*(h+1))=d+(Zcs L n-n)*(h+1):=w64 (by omega) (by omega);have w5:i64.wrap (Zcs L n+1)=Zcs L n+1:=w64 (by omega) (by omega);have ep:Zj.l2 (k+1) pU L aa o n d b h=if 2147483647<d+(Zcs L n-n)*(h+1) then Zqw else Zj.l1 (Zj.l2 k pU L aa) K0 pU L aa (Zcs L n) o (d+(Zcs L n-n)*(h+1)) b h 0:=by have e9:V5.f L n=some (Zcs L n):=Z4n L n hb hr2;rw [Zj.l2,if_pos hn,e9,Option.bind_some,w1,w2,w3,w4];rfl
   have er:Z3.l4 (k+1) L aa o n d b h=if 2147483647<d+(Zcs L n-n)*(h+1) then Zqw else Z3.l2 (Z3.l4 k L aa) K0 L aa (Zcs L n) o (d+(Zcs L n-n)*(h+1)) b h 0:=by rw [Z3.l4,if_pos hn,Z2i _ _ _ _ _ _ _ _ hb hr2,g1,w1,w2,w3,w4];rfl
   rw [ep,er,Zus,if_pos hn];by_cases c:2147483647<d+(Zcs L n-n)*(h+1)
   ·rw [if_pos c,if_pos c,if_pos c]
    exact ⟨none,rfl,rfl,λ_=>rfl,λ_ _=>rfl,λo' e=>by cases e⟩
   ·rw [if_neg c,if_neg c,if_neg c]
    have hok:OkE (L.length:Int) (o,d+(Zcs L n-n)*(h+1),b,h):=⟨by simp only;omega,by simp only;omega,hh0,by simp only;omega,h8,h9⟩;have e1:=Zy7 (Zj.l2 k pU L aa) L aa (Zcs L n) (by omega) hr2 _ hok;have e2:=Z2j (Z3.l4 k L aa) L aa (Zcs L n) (by omega) hr2 _ hok;simp only at e1 e2;rw [e1,e2]
    cases hp:Zgb (aa.length:Int) (Zcs L n) L (o,d+(Zcs L n-n)*(h+1),b,h) with
    | none=>exact ⟨none,rfl,rfl,λ_=>rfl,λ_ _=>rfl,λo' e=>by cases e⟩
    | some s=>
     obtain ⟨hs,hc⟩:=Zts L hok hp;have hcnt:=Zne g3 L g4;have hpos:0<L.countP (λx=>decide (x=Zcs L n)):=List.countP_pos_iff.2 ⟨_,g2,by simp⟩;have hh:s.2.2.2=Zf7 (Zcs L n+1) L:=by rw [hcnt,hc,h7]
     have hle2:=Znd (Zcs L n+1) L;obtain ⟨r,r1,r2,r3,r4,r5⟩:=ih k s.1 (Zcs L n+1) (s.2.1+1) s.2.2.1 s.2.2.2 (by simp only at hc;omega) (by omega) (by omega) (by omega) (by have:=hs.d0;omega) (by have:=hs.d1;omega) hh hs.len hs.asc;refine ⟨r,r1,by rw [Z30,w5];exact r2,λ_=>?_,λc2 _=>absurd c2 (by omega),r5⟩;rw [Z3z];by_cases c2:s.2.2.2=(L.length:Int)
     ·rw [if_pos c2]
      obtain ⟨k,rfl⟩:∃ j,k=j+1:=⟨k-1,by omega⟩;rw [Zus,if_neg (by omega)] at r1;rw [<- Option.some.inj r1];exact Zu5 hs.asc (by have:=hs.len;unfold Zv;omega)
     ·rw [if_neg c2]
      by_cases c3:2147483647<s.2.1+1
      ·rw [if_pos c3,r4 c3 (by omega)];rfl
      ·rw [if_neg c3,w5]
       exact r3 (by omega)
  ·refine ⟨some o,by rw [Zus,if_neg hn],?_,λ_=>?_,λ_ c=>absurd c hn,λo' e=>?_⟩
   ·rw [Z3.l4,if_neg hn];rfl
   ·rw [Zj.l2,if_neg hn]
    exact Zu5 h9 (by unfold Zv;omega)
   ·obtain rfl:=Option.some.inj e
    exact ⟨h9,by omega⟩
def Zde (L:List Int):List Int:=L.filter λx=>decide (x<128)
def Zid (aa:List Int):List Int:=if 0<(aa.length:Int) then aa++[45] else aa
theorem Zzf (h:scB p=true):0<=p/\p<=1114111:=by
 have e:=Zvv p;rw [h] at e;unfold Vp.f Vp.j1 at e;by_cases a:0<=p
 ·rw [if_pos a] at e
  by_cases b:p<55296
  ·omega
  ·rw [if_neg b] at e
   by_cases c:57343<p
   ·rw [if_pos c] at e
    have:=of_decide_eq_true (Option.some.inj e);omega
   ·rw [if_neg c] at e;cases e
 ·rw [if_neg a,if_neg (by omega)] at e;cases e
theorem Zpc (pre:List Int) (x:Int):Zde (pre++[x])=if x<128 then Zde pre++[x] else Zde pre:=by
 unfold Zde;by_cases c:x<128<;>simp [List.filter_append,c]
theorem Zms (L:List Int):(Zde L).length<=L.length:=List.length_filter_le _ _
theorem Z1o (L:List Int):Zf7 128 L=((Zde L).length:Int):=by
 unfold Zf7 Zde;rw [List.countP_eq_length_filter]
theorem Z17 (L:List Int) (hl:L.length<=18400000000) (hr:∀ x∈L,0<=x/\x<=1114111):Zj.l3 K0 pU L [] 0=Zj.l2 K0 pU L (Zde L) (Zid (Zde L)) 128 0 72 ((Zde L).length:Int):=by
 have hb:L.length<=Zv:=by unfold Zv;omega
 refine (λkey=>key rfl) (Qe (σ:=List Int) (β:=ByteArray×Int×Int) (λk i s=>Zj.l3 k pU L s i) L (λpre _ s o=>s=Zde pre->o=Zj.l2 K0 pU L (Zde L) (Zid (Zde L)) 128 0 72 ((Zde L).length:Int)) ?_ ?_ [] K0 (ltK hb))
 ·intro s k hs
  have hs':s=Zde L->Zj.l3 (k+1) pU L s (L.length:Int)=Zj.l2 K0 pU L (Zde L) (Zid (Zde L)) 128 0 72 ((Zde L).length:Int):=by
   rintro rfl;have:=Zms L;simp only [Zj.l3,if_neg (show ¬ (L.length:Int)<(L.length:Int) by omega),Zj.j4,Zid];by_cases c:0<((Zde L).length:Int)
   ·rw [if_pos c,if_pos c,if_pos (by unfold most;simp;omega)]
   ·rw [if_neg c,if_neg c]
  exact hs' hs
 ·intro pre x t s k e ih hs
  obtain ⟨m1,m2⟩:=mid e;obtain ⟨x0,x1⟩:=hr x (by rw [e];simp);have hle:L.length=pre.length+(t.length+1):=by rw [e];simp
  have hlen:=Zms pre;have wx:i64.wrap x=x:=w64 (by omega) (by omega);have hbas:Qq.f pU x=some (decide (x<128)):=by simp only [Qq.f,Qq.j1,wx];by_cases c:x<128<;>simp [c]
  simp only [Zj.l3,if_pos m2.2,if_pos m2,m1,hbas,Option.bind_some,decide_eq_true_eq,Zj.j1,nxt hb e];by_cases c:x<128
  ·rw [if_pos c,if_pos (by rw [hs];unfold most;simp;omega),Zkf x0 (by omega)]
   exact ih _ (by rw [Zpc,if_pos c,hs])
  ·rw [if_neg c]
   exact ih _ (by rw [Zpc,if_neg c,hs])
theorem Z3y (L:List Int) (hl:L.length<=18400000000) (hr:∀ x∈L,0<=x/\x<=1114111):∃ r,Zus L ((Zde L).length:Int) K0 (Zid (Zde L)) 128 0 72 ((Zde L).length:Int)=some r/\Z3.l4 K0 L (Zde L) (Zid (Zde L)) 128 0 72 ((Zde L).length:Int)=Zs7 r/\Zj.l2 K0 pU L (Zde L) (Zid (Zde L)) 128 0 72 ((Zde L).length:Int)=Zs7 r/\(∀ o',r=some o'->(∀ c∈o',0<=c/\c<128)/\o'.length<=12*L.length+1):=by
 have h1:=Zms L;have hK:(K0:Int)=1180591620717411303424:=rfl;have hm:∀ c∈Zde L,0<=c/\c<128:=λc hc=>by
  obtain ⟨h2,h3⟩:=List.mem_filter.1 hc;have:=hr c h2;have:=of_decide_eq_true h3;omega
 obtain ⟨r,r1,r2,r3,_,r5⟩:=Z0n L (Zde L) hl hr L.length K0 (Zid (Zde L)) 128 0 72 ((Zde L).length:Int) (by omega) (by omega) (by omega) (by omega) (by omega) (by omega) (Z1o L).symm (by unfold Zid;split<;>first | (simp;omega) | omega) (λc hc=>by
  unfold Zid at hc;split at hc
  ·rcases List.mem_append.1 hc with hc | hc
   ·exact hm c hc
   ·simp only [List.mem_singleton] at hc;omega
  ·exact hm c hc)
 exact ⟨r,r1,r2,r3 (by omega),r5⟩
theorem Z0q (h:∀ o',r=some o'->(∀ c∈o',0<=c/\c<128)/\o'.length<=n) (hn:2*n<=Zv):∃ s a e,Zs7 r=some (s,a,e)/\s.size<=n:=by
 cases r with
 | none=>exact ⟨_,_,_,rfl,Nat.zero_le _⟩
 | some o=>
  obtain ⟨h1,h2⟩:=h o rfl;obtain ⟨l,a,e,_,h4,_⟩:=Zuo (Zbn o) (by rw [Ziy h1];omega) (Zz5 h1);rw [Zs7,h4,Option.bind_some];by_cases c:e=0
  ·exact ⟨_,_,_,by rw [if_neg (by simp [c])],by rw [Ziy h1];exact h2⟩
  ·exact ⟨_,_,_,by rw [if_pos (by simp [c])];rfl,Nat.zero_le _⟩
section
theorem Zgm {α:Type} {o:Option α} (d:α) (h:∃ r,o=some r):o=some (o.getD d):=by
 obtain ⟨r,rfl⟩:=h;rfl
def Zg5 (t:Option Tbs) (sta:Int->Int) (kp:Int->Bool):Prop:=(∀ p,J2.f t p=some (sta p))/\∀ p,kp p=decide (sta p=1\/sta p=3)
theorem Zw6 {sta:Int->Int} (h:∀ p,J2.f t p=some (sta p)) (p:Int):Jw.f t p=some (decide (sta p=1\/sta p=3)):=by
 rw [Jw.f,h,Option.bind_some];by_cases c:sta p=1
 ·rw [if_pos c,decide_eq_true (.inl c)];rfl
 ·rw [if_neg c]
  simp only [Jw.j1,c,false_or]
theorem Z5a (hb:Few b) (h:okB b=true) (ht:Zqk b t):∃ key pa n pr mk kp jn sta,Tq (some t) key pa n pr mk kp jn/\Zg5 (some t) sta kp:=by
 obtain ⟨key,pa,h1⟩:=Z48 hb h ht;have hp:∀ a c,∃ r,Hg.f (some t) a c=some r:=λa c=>by
  simp only [Hg.f,Option.isNone_some,Bool.false_eq_true,if_false,Option.isSome_some,if_true];exact ⟨_,rfl⟩
 have hs:∀ p,∃ r,J2.f (some t) p=some r:=λp=>by
  obtain ⟨r1,e1⟩:=Zea _ _ ht.maps p;obtain ⟨r2,e2⟩:=Zea _ _ ht.status p;simp only [J2.f,Option.isNone_some,Bool.false_eq_true,if_false,Option.isSome_some,if_true,Option.getD_some,e1,e2,Option.bind_some];exact Zco ⟨_,rfl⟩ ⟨_,rfl⟩
 have hm:∀ p,∃ r,Jx.f (some t) p=some r:=λp=>by
  obtain ⟨r1,e1⟩:=Zea _ _ ht.mark p;exact ⟨decide (r1=1),by simp only [Jx.f,Jx.j1,Option.isSome_some,if_true,Option.getD_some,e1,Option.bind_some]⟩
 have hj:∀ p,∃ r,Uo.f (some t) p=some r:=λp=>by
  obtain ⟨r1,e1⟩:=Zea _ _ ht.join p;exact ⟨r1,by simp only [Uo.f,Option.isNone_some,Bool.false_eq_true,if_false,Option.isSome_some,if_true,Option.getD_some,e1,Option.bind_some]⟩
 have hs':=λp=>Zgm 0 (hs p);exact ⟨key,pa,_,_,_,_,_,_,⟨h1,λa c=>Zgm (0,false) (Znw hp a c),λp=>Zgm false (hm p),λp=>Zw6 hs' p,λp=>Zgm 0 (hj p)⟩,hs',λp=>rfl⟩
theorem Z49:∃ key pa n pr mk kp jn sta,Tq none key pa n pr mk kp jn/\Zg5 none sta kp:=by
 have hs:∀ p,J2.f none p=some 0:=λp=>rfl;exact ⟨_,_,_,pr0,λ_=>false,_,λ_=>0,λ_=>0,⟨Z47,Zy3,λp=>rfl,λp=>Zw6 hs p,λp=>rfl⟩,hs,λp=>rfl⟩
variable {t:Option Tbs} {key:Int->Int} {pa:Int->List Int} {n:Nat} {pr:Int->Int->Int×Bool} {mk kp:Int->Bool} {jn:Int->Int}
theorem Zlj:∀ a b c d e f:Bool,(Zl4 a b c d e f).headD 0=0->a=true/\b=false/\c=false/\d=false/\e=false/\f=false:=by decide
theorem Zqy:∀ a b c d e f:Bool,Zl4 a b c d e f=[]->a=true/\b=false/\c=false/\d=false/\e=false/\f=false:=λa b c d e f h=>Zlj a b c d e f (by rw [h];rfl)
theorem Zlk (h:Tq t key pa n pr mk kp jn) (l:List Int) (hl:54*l.length<=Zv):∃ F,Qt.f t l=some F/\(F.headD 0=0->F=[])/\(F=[]->Zev key pa n pr l=l/\Zjr l=false/\(∀ x∈l,x≠46)/\∀ x∈l,kp x=true):=by
 obtain ⟨jo,h1,_⟩:=Zpl h l hl;refine ⟨_,h1,λhe=>?_,λhe=>?_⟩
 ·obtain ⟨h2,h3,h4,h5,h6,h7⟩:=Zlj _ _ _ _ _ _ he
  rw [h2,h3,h4,h5,h6,h7];rfl
 ·obtain ⟨h2,h3,h4,h5,h6,h7⟩:=Zqy _ _ _ _ _ _ he
  refine ⟨of_decide_eq_true h2,h3,λx hx e=>?_,λx hx=>?_⟩
  ·have:=List.any_eq_false.1 h4 x hx
   simp [e] at this
  ·have:=List.any_eq_false.1 h6 x hx
   simpa using this
theorem Z89 (l:List Int):sub l 4 (l.length:Int)=l.drop 4:=by simp [sub]
theorem Znx (h:Zdw l=true) (k:Nat):Zdw (l.drop k)=true:=by
 simp only [Zdw,Bool.not_eq_true',List.any_eq_false] at h ⊢;exact λx hx=>h x (List.mem_of_mem_drop hx)
theorem Zsv (h:Zjr l=true):4<=(l.length:Int):=by
 obtain ⟨r,e⟩:=(Z0g l).1 h;rw [e];simp;omega
theorem Zqt (h:Zdw l=true) (hl:2*l.length<=Zv):∃ q a e,Zb2.f (Zbn l)=some (q,a,e)/\Yu.f (Zbn l)=some (q,a,e)/\q.length<=l.length+1:=by
 have hp:=Zp1 h;obtain ⟨q,a,e,h1,h2,h3⟩:=Zuo (Zbn l) (by rw [Ziy hp];exact hl) (Zz5 hp);rw [Ziy hp] at h3;refine ⟨q,a,e,?_,h2,by omega⟩;have hu:Zcc.f=some pU:=rfl;rw [Zb2.f,hu,Option.bind_some,h1];rfl
theorem Zvl (h:Tq t key pa n pr mk kp jn) (l:List Int) (hl:54*l.length<=Zv) (hc:Zjr l=false):∃ f,Za8.f t l=some ⟨l,false,f⟩:=by
 obtain ⟨F,h1,_⟩:=Zlk h l hl;exact ⟨F.headD 0,by rw [Za8.f,Zg7 _ (by omega),Option.bind_some,Zjs,Option.bind_some,hc,if_pos (by decide),h1,Option.bind_some,Zs8];rfl⟩
theorem Z2b (l:List Int) (hl:l.length<=Zv) (hc:Zjr l=true) (hp:Zdw l=true) (hd:Zb2.f (Zbn (l.drop 4))=some (q,a,e)) (hq:q.length<=Zv) (hF:Qt.f t q=some F):
  Za8.f t l=some (if e≠0 then ⟨l,true,8⟩ else if Zdw q=true then ⟨q,true,9⟩ else ⟨q,true,F.headD 0⟩):=by
 have e4:=Z89 l;have e5:=Zsv hc;rw [Za8.f,Zg7 _ hl,Option.bind_some,Zjs,Option.bind_some,hc,if_neg (by decide),Zj4 _ hl,Option.bind_some,hp,if_neg (by decide),if_pos ⟨by omega,e5,Int.le_refl _⟩,e4,Zlq (Znx hp 4),hd,Option.bind_some];by_cases c:e≠0
 ·rw [if_pos c,if_pos c]
 ·rw [if_neg c,if_neg c,Zj4 _ hq,Option.bind_some]
  by_cases d:Zdw q=true
  ·rw [if_pos d,if_pos d]
  ·rw [if_neg d,if_neg d,hF,Option.bind_some,Zs8];rfl
end
instance whDec:DecidableEq Wh:=λx y=>decidable_of_iff (x.list=y.list/\x.row=y.row) ⟨λh=>by cases x;cases y;obtain ⟨h1,h2⟩:=h;simp at h1 h2;rw [h1,h2],λh=>by rw [h];exact ⟨rfl,rfl⟩⟩
theorem Zf5 {α γ β:Type} [Inhabited α] (L:Nat->Int->Option β) (xs:List α) (hb:xs.length<=Zv) (g:α->Option γ) (p:γ->Prop) [DecidablePred p] (out:Int->γ->β) (z:β) (hg:∀ x∈xs,∃ b,g x=some b) (hL:∀ k a,L (k+1) a=if a<(xs.length:Int) then (if (0:Int)<=a/\a<(xs.length:Int) then ((g (rd xs a)).bind λag=>(if p ag then some (out a ag) else L k (i64.wrap (a+1)))) else none) else some z):∃ r,L K0 0=some r:=by
 have key:∀ (t pre:List α) (k:Nat),xs=pre++t->t.length<k->∃ r,L k (pre.length:Int)=some r:=by
  intro t
  induction t with
  | nil=>
   intro pre k e hk;obtain ⟨k,rfl⟩:∃ j,k=j+1:=⟨k-1,by omega⟩;have hl:xs.length=pre.length:=by rw [e];simp
   rw [hL,hl,if_neg (by omega)];exact ⟨_,rfl⟩
  | cons x t ih=>
   intro pre k e hk;obtain ⟨k,rfl⟩:∃ j,k=j+1:=⟨k-1,by omega⟩;have m:=mid e;rw [hL,if_pos m.2.2,if_pos m.2,m.1];obtain ⟨b,hb'⟩:=hg x (by rw [e];simp);rw [hb',Option.bind_some];by_cases c:p b
   ·rw [if_pos c];exact ⟨_,rfl⟩
   ·rw [if_neg c,nxt hb e]
    have:=ih (pre++[x]) k (by rw [e];simp) (by simp at hk;omega);rw [List.length_append] at this;simpa using this
 have:=key xs [] K0 rfl (ltK hb);simpa using this
theorem Zcv {α β:Type} {x:Option α} {f:α->Option β} (h:∃ a,x=some a) (hf:∀ a,∃ r,f a=some r):∃ r,x.bind f=some r:=by
 obtain ⟨a,rfl⟩:=h;exact hf a
theorem Ze1 {α β:Type} {x:Option α} {p:α->Prop} {f:α->Option β} (h:∃ a,x=some a/\p a) (hf:∀ a,p a->∃ r,f a=some r):∃ r,x.bind f=some r:=by
 obtain ⟨a,rfl,ha⟩:=h;exact hf a ha
theorem Zhx (s d:Int) (h:0<=d):∃ v,U4.f s d=some v:=by
 rw [U4.f,if_pos h];exact ⟨_,rfl⟩
theorem Zzh (c:Int):∃ v,Kq.f c=some v:=by
 unfold Kq.f Kq.j1;repeat' (first | exact ⟨_,rfl⟩ | refine Zco ?_ ?_)
theorem Zyw (l:List Int) (hl:l.length<=Zv):∃ v,Y0.f l=some v:=by
 obtain ⟨r,hr⟩:=Zf5 (λk a=>Xt.l1 k l a) l hl (λc=>Zbo.f c) (λb=>b=true) (λa _=>a) (-1) (λx _=>by obtain ⟨v,hv⟩:=Zzh x;exact ⟨_,by rw [Zbo.f,hv];rfl⟩) (λk a=>rfl);rw [Y0.f,Xt.f,hr];exact ⟨_,rfl⟩
theorem Zu4 (l:List Int) (hl:l.length<=Zv):∃ v,X0.f l=some v:=by
 have hbb:l.length<=1099511627776:=hl;have w:i64.wrap ((l.length:Int)-1)=(l.length:Int)-1:=w64 (by omega) (by omega);unfold X0.f X0.j1;rw [w];by_cases c4:4<=(l.length:Int)
 ·simp only [if_pos c4,if_pos (show (0:Int)<=2/\2<(l.length:Int) by omega),if_pos (show (0:Int)<=3/\3<(l.length:Int) by omega),if_pos (show 0<(l.length:Int) by omega),if_pos (show (0:Int)<=0/\0<(l.length:Int) by omega),if_pos (show (0:Int)<=(l.length:Int)-1/\(l.length:Int)-1<(l.length:Int) by omega)]
  repeat' (first | exact ⟨_,rfl⟩ | refine Zco ?_ ?_)
 ·rw [if_neg c4]
  by_cases c0:0<(l.length:Int)
  ·simp only [if_pos c0,if_pos (show (0:Int)<=0/\0<(l.length:Int) by omega),if_pos (show (0:Int)<=(l.length:Int)-1/\(l.length:Int)-1<(l.length:Int) by omega)]
   repeat' (first | exact ⟨_,rfl⟩ | refine Zco ?_ ?_)
  ·rw [if_neg c0];exact ⟨_,rfl⟩
theorem Zps (l:List Int) (hl:l.length<=Zv) (h:∀ d∈l,0<=d) (s:Int):∃ v,Zds.f l s=some v:=by
 obtain ⟨r,hr⟩:=Zf5 (λk a=>X7.l1 k s l a) l hl (λd=>Za6.f d s) (λb=>b=true) (λa _=>a) (-1) (λx hx=>by obtain ⟨v,hv⟩:=Zhx s x (h x hx);exact ⟨_,by rw [Za6.f,hv];rfl⟩) (λk a=>rfl);rw [Zds.f,Va.f,X7.f,hr];exact ⟨_,rfl⟩
theorem Zmx (l:List Int) (hl:l.length<=Zv) (s:Int):∃ v,J0.f l s=some v:=by
 obtain ⟨r,hr⟩:=Zf5 (λk a=>Kd.l1 k l s a) l hl (λd=>some (decide (s=d))) (λb=>b=true) (λa _=>a) (-1) (λx _=>⟨_,rfl⟩) (λk a=>by simp only [Kd.l1,Option.bind_some,decide_eq_true_eq]);rw [J0.f,Kd.f,hr];exact ⟨_,rfl⟩
theorem Zm1 (l:List Int) (hl:l.length<=Zv) (h:∀ d∈l,0<=d) (s:Int):∃ v,K9.f l s=some v:=by
 have hbb:l.length<=1099511627776:=hl;have key:∀ (n k:Nat),n<=l.length->n<k->∃ r,K9.l1 k l s (n:Int)=some r:=by
  intro n
  induction n with
  | zero=>
   intro k _ hk;obtain ⟨k,rfl⟩:∃ j,k=j+1:=⟨k-1,by omega⟩;exact ⟨false,rfl⟩
  | succ n ih=>
   intro k hn hk;obtain ⟨k,rfl⟩:∃ j,k=j+1:=⟨k-1,by omega⟩;have w:i64.wrap (((n+1:Nat):Int)-1)=(n:Int):=by rw [w64 (by omega) (by omega)];omega
   have hm:rd l (n:Int)∈l:=by
    have hs:l=l.take n++l[n]'(by omega)::l.drop (n+1):=by simp
    have m:=mid hs;rw [List.length_take,Nat.min_eq_left (by omega)] at m;rw [m.1];exact List.getElem_mem _
   simp only [K9.l1,K9.j2,K9.j1,w];rw [if_pos (by omega),if_pos (by omega)];refine Zco (ih k (by omega) (by omega)) ?_;rw [if_pos (by omega),if_pos (by omega)];obtain ⟨v,hv⟩:=Zhx s _ (h _ hm);rw [hv];exact ⟨_,rfl⟩
 exact key l.length K0 (Nat.le_refl _) (ltK hl)
theorem Zp6 (c:Int) (b:Bool) (y:List Int) (h:y.length<=4):∃ r,Ka.f c b y=some r/\r.length<=y.length+1:=by
 rw [Ka.f];split
 ·rw [if_pos (by unfold most;simp;omega)];exact ⟨_,rfl,by simp⟩
 ·exact ⟨_,rfl,by omega⟩
def Zg3 (t:Option Tbs) (bd:Int->Int):Prop:=∀ p,U5.f t p=some (bd p)/\0<=bd p
theorem Z3w {bd:Int->Int} (h:Zg3 t bd) (l:List Int) (hl:l.length<=Zv):Vi.f t l=some (l.map bd):=by
 have key:∀ (u pre:List Int) (k:Nat),l=pre++u->u.length<k->Vi.l1 k t l (pre.map bd) (pre.length:Int)=some (l.map bd):=by
  intro u
  induction u with
  | nil=>
   intro pre k e hk;obtain ⟨k,rfl⟩:∃ j,k=j+1:=⟨k-1,by omega⟩;have hl:l=pre:=by rw [e];simp
   simp only [Vi.l1,hl];rw [if_neg (by omega)]
  | cons x u ih=>
   intro pre k e hk;obtain ⟨k,rfl⟩:∃ j,k=j+1:=⟨k-1,by omega⟩;have m:=mid e;have hle:l.length=pre.length+(u.length+1):=by rw [e];simp
   have hbb:l.length<=1099511627776:=hl;simp only [Vi.l1];rw [if_pos m.2.2,if_pos m.2,m.1,(h x).1,Option.bind_some,if_pos (by unfold most;simp;omega),nxt hl e];have:=ih (pre++[x]) k (by rw [e];simp) (by simp at hk;omega);rw [List.length_append] at this;simpa using this
 exact key l [] K0 rfl (ltK hl)
theorem Zt0 {bd:Int->Int} (h:Zg3 t bd) (l:List Int) (hl:l.length<=Zv):∃ r,He.f t l=some r:=by
 have hn:∀ d∈l.map bd,0<=d:=by intro d hd;obtain ⟨p,_,rfl⟩:=List.mem_map.1 hd;exact (h p).2
 have hm:(l.map bd).length<=Zv:=by rw [List.length_map];exact hl
 rw [He.f,Z3w h l hl,Option.bind_some];have hne:∀ d∈l.map bd,0<=d:=hn;generalize l.map bd=D at hn hm hne;by_cases c0:(D.length:Int)=0
 ·rw [if_pos c0];exact ⟨_,rfl⟩
 have hp:(0:Int)<=0/\0<(D.length:Int):=by omega
 rw [if_neg c0,if_pos hp];refine Zcv (Zhx 6 _ (hn _ (Zk2 hp.1 hp.2))) λcj=>?_;refine Zco ?_ (Zco ?_ ⟨_,rfl⟩)
 ·refine Zcv (Zps D hm hn _) λav=>Ze1 (Zp6 2 av [] (by simp)) λaw h1=>Zcv (Zm1 D hm hn _) λax=>Ze1 (Zp6 3 ax aw (by simp at h1;omega)) λam h2=>Zcv (Zmx D hm _) λay=>Zco ?_ ?_
  ·exact Ze1 (Zp6 4 true am (by simp at h1;omega)) λ_ _=>⟨_,rfl⟩
  ·exact Zcv (Zmx D hm _) λaz=>Ze1 (Zp6 4 (!az) am (by simp at h1;omega)) λ_ _=>⟨_,rfl⟩
 ·exact Zcv (Zps D hm hn _) λa0=>Ze1 (Zp6 5 a0 [] (by simp)) λa1 h1=>Zcv (Zm1 D hm hn _) λa2=>Ze1 (Zp6 6 a2 a1 (by simp at h1;omega)) λ_ _=>⟨_,rfl⟩
theorem Zjk {bd:Int->Int} (h:Zg3 t bd) (l:List Int) (hl:l.length<=Zv):∃ r,Ux.f t l=some r:=by
 rw [Ux.f];refine Zcv (Zt0 h l hl) λad=>?_;by_cases c:0<(ad.length:Int)
 ·rw [if_pos c,if_pos (by omega)];exact ⟨_,rfl⟩
 ·rw [if_neg c];exact ⟨_,rfl⟩
theorem Zr0 {bd:Int->Int} (h:Zg3 t bd) (l:List Int) (hl:l.length<=Zv):∃ r,Zcu.f t l=some r:=by
 obtain ⟨r,hr⟩:=Zf5 (λk a=>Xs.l1 k t l a) l hl (λc=>Hm.f c t) (λb=>b=true) (λa _=>a) (-1) (λx _=>by
  rw [Hm.f,(h x).1,Option.bind_some];exact Zcv (Zhx 70 _ (h x).2) λ_=>⟨_,rfl⟩) (λk a=>rfl)
 rw [Zcu.f,K3.f,Xs.f,hr];exact ⟨_,rfl⟩
theorem Zvb {bd:Int->Int} (h:Zg3 t bd) (ls:List (List Int)) (hn:ls.length<=Zv) (hl:∀ l∈ls,l.length<=Zv):∃ r,H1.f t ls=some r:=by
 obtain ⟨r,hr⟩:=Zf5 (λk a=>Xr.l1 k t ls a) ls hn (λc=>Zak.f c t) (λb=>b=true) (λa _=>a) (-1) (λx hx=>by
  rw [Zak.f];exact Zcv (Zr0 h x (hl x hx)) λ_=>⟨_,rfl⟩) (λk a=>rfl)
 obtain ⟨q,hq⟩:=Zf5 (λk a=>H1.l1 k t ls a) ls hn (λc=>Ux.f t c) (λb=>b≠0) (λa e=>(⟨true,a,e⟩:S18)) ⟨true,0,0⟩ (λx hx=>Zjk h x (hl x hx)) (λk a=>rfl);rw [H1.f,K2.f,Xr.f,hr];exact Zco ⟨_,rfl⟩ ⟨_,hq⟩
def jf (r:S13) (c:Int):Bool:=decide (c≠6)||r.joiners
def Zuy (F:List Int) (hy ns:Bool) (r:S13):List Int:=F.filter (jf r)++((if r.hyphens&&hy then [10] else [])++(if r.std&&ns then [11] else []))
def brk (lb:S17):Bool:=lb.coded&&(decide (lb.fault=7)||decide (lb.fault=8)||decide (lb.fault=9))
def Zoq (F:List Int) (hy ns:Bool) (lb:S17) (r:S13):List Int:=if brk lb=true then [lb.fault] else Zuy F hy ns r
theorem Z0t (F:List Int) (hy ns:Bool) (r:S13) (h:F.length<=8):(Zuy F hy ns r).length<=10:=by
 have:=List.length_filter_le (jf r) F;unfold Zuy;rw [List.length_append,List.length_append];split<;>split<;>simp<;>omega
theorem Z0v (F:List Int) (hy ns:Bool) (lb:S17) (r:S13) (h:F.length<=8):(Zoq F hy ns lb r).length<=10:=by
 unfold Zoq;split
 ·simp
 ·exact Z0t F hy ns r h
theorem Zqx (lb:S17) (r:S13) (aa:List Int) (h:aa.length<=100) (hp:Bool×Bool) (ns:Bool) (hh:X0.f lb.says=some hp) (hn:Y0.f lb.says=some ns):
  ((X0.f lb.says).bind λa6=>(if r.hyphens=true then (if a6.1=true then (Z4.j6 lb r aa true) else (Z4.j6 lb r aa a6.2)) else (Z4.j6 lb r aa false)))=some (aa++((if r.hyphens&&(hp.1||hp.2) then [10] else [])++(if r.std&&ns then [11] else []))):=by
 have m1:∀ x:Int,aa.length+[x].length<=most:=λx=>by unfold most;simp;omega
 have m2:∀ x y:Int,(aa++[x]).length+[y].length<=most:=λx y=>by unfold most;simp;omega
 obtain ⟨p,q⟩:=hp;rw [hh,Option.bind_some];unfold Z4.j6 Z4.j5 Z4.j4 Z4.j3;simp only [hn,Option.bind_some,if_pos (m1 _),if_pos (m2 _ _)];generalize r.hyphens=a;generalize r.std=b;have m3:aa.length+1<=most:=by unfold most;omega
 have m4:aa.length+1+1<=most:=by unfold most;omega
 cases a<;>cases b<;>cases p<;>cases q<;>cases ns<;>simp [m3,m4]
theorem Zuu (lb:S17) (r:S13) (hF:Qt.f t lb.says=some F) (hl:F.length<=8) (hh:X0.f lb.says=some hp) (hn:Y0.f lb.says=some ns):
  Z4.f t lb r=some (Zoq F (hp.1||hp.2) ns lb r):=by
 have loop:Z4.l1 K0 lb r F [] 0=some (Zuy F (hp.1||hp.2) ns r):=by
  have key:∀ (u pre:List Int) (k:Nat),F=pre++u->u.length<k->Z4.l1 k lb r F (pre.filter (jf r)) (pre.length:Int)=some (Zuy F (hp.1||hp.2) ns r):=by
   intro u
   induction u with
   | nil=>
    intro pre k e hk;obtain ⟨k,rfl⟩:∃ j,k=j+1:=⟨k-1,by omega⟩;have hl':F=pre:=by rw [e];simp
    subst hl';have:=List.length_filter_le (jf r) F;simp only [Z4.l1];rw [if_neg (by omega),Zqx lb r _ (by omega) hp ns hh hn];rfl
   | cons x u ih=>
    intro pre k e hk;obtain ⟨k,rfl⟩:∃ j,k=j+1:=⟨k-1,by omega⟩;have m:=mid e;have hle:F.length=pre.length+(u.length+1):=by rw [e];simp
    have hfl:=List.length_filter_le (jf r) pre;have hap:(pre.filter (jf r)).length+[x].length<=most:=by unfold most;simp at hfl ⊢;omega
    have:=ih (pre++[x]) k (by rw [e];simp) (by simp at hk;omega);rw [List.length_append,List.filter_append] at this;have hw:i64.wrap ((pre.length:Int)+1)=((pre.length+[x].length:Nat):Int):=by rw [w64 (by omega) (by omega)];simp
    simp only [Z4.l1];rw [if_pos m.2.2,if_pos m.2,m.1];simp only [Z4.j2,Z4.j1,m.1,hw];by_cases c6:x=6
    ·subst c6
     rw [if_neg (by simp)];cases hj:r.joiners
     ·rw [if_neg (by simp)]
      have hx:[(6:Int)].filter (jf r)=[]:=by simp [jf,hj]
      rw [hx,List.append_nil] at this;exact this
     ·rw [if_pos rfl,if_pos hap]
      have hx:[(6:Int)].filter (jf r)=[6]:=by simp [jf,hj]
      rw [hx] at this;exact this
    ·rw [if_pos c6,if_pos trivial,if_pos hap]
     have hx:[x].filter (jf r)=[x]:=by simp [jf,c6]
     rw [hx] at this;exact this
  exact key F [] K0 rfl (by unfold K0;omega)
 unfold Z4.f Zoq brk Z4.j7;rw [hF,Option.bind_some,loop];cases hc:lb.coded
 ·simp
 ·by_cases c7:lb.fault=7
  ·simp [c7]
  ·by_cases c8:lb.fault=8
   ·simp [c8]
   ·by_cases c9:lb.fault=9
    ·simp [c9]
    ·simp [c7,c8,c9]
def Z3f (a b:S13):Prop:=(a.hyphens=true->b.hyphens=true)/\(a.bidi=true->b.bidi=true)/\(a.joiners=true->b.joiners=true)/\(a.std=true->b.std=true)/\(a.lengths=true->b.lengths=true)
theorem Zuv {α:Type} {p q:α->Bool} (h:∀ x,p x=true->q x=true):∀ l:List α,(l.filter p).Sublist (l.filter q):=by
 intro l
 induction l with
 | nil=>exact List.Sublist.refl _
 | cons x t ih=>
  cases hp:p x
  ·cases hq:q x
   ·simpa [hp,hq] using ih
   ·simpa [hp,hq] using ih.cons x
  ·simpa [hp,h x hp] using ih.cons_cons x
theorem Zma {α:Type} (h:a=true->b=true) (l:List α):(if a then l else []).Sublist (if b then l else []):=by
 cases a
 ·exact List.nil_sublist _
 ·rw [h rfl];exact List.Sublist.refl _
theorem Z0u (F:List Int) (hy ns:Bool) (h:Z3f a b):(Zuy F hy ns a).Sublist (Zuy F hy ns b):=by
 obtain ⟨h1,h2,h3,h4,h5⟩:=h;refine List.Sublist.append (Zuv (λx hx=>?_) F) (List.Sublist.append (Zma (λhx=>?_) _) (Zma (λhx=>?_) _))
 ·simp only [jf,Bool.or_eq_true] at hx ⊢
  exact hx.imp id h3
 ·simp only [Bool.and_eq_true] at hx ⊢;exact ⟨h1 hx.1,hx.2⟩
 ·simp only [Bool.and_eq_true] at hx ⊢;exact ⟨h4 hx.1,hx.2⟩
theorem Z0w (F:List Int) (hy ns:Bool) (lb:S17) (h:Z3f a b):(Zoq F hy ns lb a).Sublist (Zoq F hy ns lb b):=by
 unfold Zoq;split
 ·exact List.Sublist.refl _
 ·exact Z0u F hy ns h
def trL {α:Type} (G:α->List Int):Nat->List α->List Wh
 | _,[]=>[]
 | i,x::t=>(G x).map (λc=>⟨(i:Int),c⟩)++trL G (i+1) t
theorem Z5b {α:Type} {G H:α->List Int}:∀ (l:List α) (i:Nat),(∀ x∈l,(G x).Sublist (H x))->(trL G i l).Sublist (trL H i l):=by
 intro l
 induction l with
 | nil=>intro i _;exact List.Sublist.refl _
 | cons x t ih=>intro i h;exact List.Sublist.append ((h x (by simp)).map _) (ih (i+1) λy hy=>h y (by simp [hy]))
theorem Zke {α:Type} {G:α->List Int} (q:Nat):∀ (l:List α) (i:Nat),(∀ x∈l,(G x).length<=q)->(trL G i l).length<=q*l.length:=by
 intro l
 induction l with
 | nil=>intro i _;simp [trL]
 | cons x t ih=>
  intro i h;have h1:=h x (by simp);have h2:=ih (i+1) λy hy=>h y (by simp [hy]);rw [trL,List.length_append,List.length_map,List.length_cons,Nat.mul_add];omega
theorem Z4t (bl:List Wh->List (List Int)->Int->Option (List (List Int)×List Wh)) (ay:List S17) (ac:List (List Int)) (aa:Int) (au:List Int) (ha:au.length<=Zv):∀ (u pre:List Int) (ag:List Wh) (k:Nat),au=pre++u->u.length<k->ag.length+u.length<=most->
  Yd.l1 bl k ay ac aa au ag (pre.length:Int)=bl (ag++u.map (λc=>⟨aa,c⟩)) (ac++[(rd ay aa).says]) (i64.wrap (aa+1)):=by
 intro u
 induction u with
 | nil=>
  intro pre ag k e hk _;obtain ⟨k,rfl⟩:∃ j,k=j+1:=⟨k-1,by omega⟩;have hl:au=pre:=by rw [e];simp
  simp only [Yd.l1,hl];rw [if_neg (by omega)];simp
 | cons x u ih=>
  intro pre ag k e hk hm;obtain ⟨k,rfl⟩:∃ j,k=j+1:=⟨k-1,by omega⟩;have m:=mid e;rw [List.length_cons] at hm;simp only [Yd.l1];rw [if_pos m.2.2,if_pos m.2,m.1,if_pos (by simp;omega),nxt ha e];have:=ih (pre++[x]) (ag++[⟨aa,x⟩]) k (by rw [e];simp) (by simp at hk;omega) (by simp;omega);rw [List.length_append] at this;simpa using this
def Zui (bc:List Int->Int) (l:List Int):List Int:=if bc l≠0 then [12] else []
theorem Zy6 (ah:List (List Int)) (ha:ah.length<=34359738368) (bc:List Int->Int) (hb:∀ l∈ah,Ux.f t l=some (bc l)):∀ (u pre:List (List Int)) (af:List Wh) (k:Nat),ah=pre++u->u.length<k->af.length+u.length<=most->
  Yd.l2 k t ah af (pre.length:Int)=some (ah,af++trL (Zui bc) pre.length u):=by
 have hbb:ah.length<=Zv:=by unfold Zv;omega
 intro u
 induction u with
 | nil=>
  intro pre af k e hk _;obtain ⟨k,rfl⟩:∃ j,k=j+1:=⟨k-1,by omega⟩;have hl:ah=pre:=by rw [e];simp
  simp only [Yd.l2,Yd.j1,hl];rw [if_neg (by omega)];simp [trL]
 | cons x u ih=>
  intro pre af k e hk hm;obtain ⟨k,rfl⟩:∃ j,k=j+1:=⟨k-1,by omega⟩;have m:=mid e;rw [List.length_cons] at hm;have hx:=hb x (by rw [e];simp);simp only [Yd.l2,Yd.j2];rw [if_pos m.2.2,if_pos m.2,m.1,hx,Option.bind_some,nxt hbb e,trL];have step:=λaf' h=>ih (pre++[x]) af' k (by rw [e];simp) (by simp at hk;omega) h;by_cases c:bc x≠0
  ·rw [if_pos c,if_pos (by simp;omega)]
   have:=step (af++[⟨(pre.length:Int),12⟩]) (by simp;omega);rw [List.length_append] at this;simpa [Zui,c] using this
  ·rw [if_neg c]
   have:=step af (by omega);rw [List.length_append] at this;simpa [Zui,c] using this
theorem Z16 (r:S13) (ay:List S17) (ha:ay.length<=34359738368) (G:S17->List Int) (hG:∀ x∈ay,Z4.f t x r=some (G x)/\(G x).length<=10):∀ (u pre:List S17) (ad:List Wh) (k:Nat),ay=pre++u->u.length<k->ad.length<=10*pre.length->
  Yd.l3 k t r ay ad (pre.map (·.says)) (pre.length:Int)=(if r.bidi=true then ((H1.f t (ay.map (·.says))).bind λb3=>(Yd.j3 t (ad++trL G pre.length u) (ay.map (·.says)) b3.bidi)) else (Yd.j3 t (ad++trL G pre.length u) (ay.map (·.says)) false)):=by
 have hbb:ay.length<=Zv:=by unfold Zv;omega
 intro u
 induction u with
 | nil=>
  intro pre ad k e hk _;obtain ⟨k,rfl⟩:∃ j,k=j+1:=⟨k-1,by omega⟩;have hl:ay=pre:=by rw [e];simp
  simp only [Yd.l3,hl];rw [if_neg (by omega)];simp [trL]
 | cons x u ih=>
  intro pre ad k e hk hm;obtain ⟨k,rfl⟩:∃ j,k=j+1:=⟨k-1,by omega⟩;have m:=mid e;have hle:ay.length=pre.length+(u.length+1):=by rw [e];simp
  obtain ⟨g1,g2⟩:=hG x (by rw [e];simp);have h0:=Z4t (Yd.l3 k t r ay) ay (pre.map (·.says)) (pre.length:Int) (G x) (by unfold Zv;omega) (G x) [] ad K0 rfl (by unfold K0;omega) (by unfold most;omega);simp only [List.length_nil] at h0;simp only [Yd.l3];rw [if_pos m.2.2,if_pos m.2,m.1,if_pos (by unfold most;simp;omega),g1,Option.bind_some];have hz:((0:Nat):Int)=0:=rfl;rw [hz] at h0;rw [h0,nxt hbb e,m.1];have:=ih (pre++[x]) (ad++(G x).map (λc=>⟨(pre.length:Int),c⟩)) k (by rw [e];simp) (by simp at hk;omega) (by simp;omega);rw [List.length_append,List.map_append] at this;simpa [trL] using this
def Zny (r:S13) (isb:Bool) (G:S17->List Int) (bc:List Int->Int) (ls:List S17):List Wh:=trL G 0 ls++(if r.bidi&&isb then trL (Zui bc) 0 (ls.map (·.says)) else [])
theorem Zz9 (bc:List Int->Int) (l:List Int):(Zui bc l).length<=1:=by unfold Zui;split<;>simp
theorem Zvi (name:List Int) (r:S13) (hls:Ue.f t name=some ls) (hn:ls.length<=34359738368) (G:S17->List Int) (hG:∀ x∈ls,Z4.f t x r=some (G x)/\(G x).length<=10) (bc:List Int->Int) (hb:∀ l∈ls.map (·.says),Ux.f t l=some (bc l)) (hbn:H1.f t (ls.map (·.says))=some bn):
  Yd.f t name r=some (ls.map (·.says),Zny r bn.bidi G bc ls):=by
 have h:=Z16 r ls hn G hG ls [] [] K0 rfl (by unfold K0;omega) (by simp);have hm:(ls.map (·.says)).length<=34359738368:=by rw [List.length_map];exact hn
 have hT:=Zke (G:=G) 10 ls 0 λx hx=>(hG x hx).2;have h2:=Zy6 (t:=t) (ls.map (·.says)) hm bc hb (ls.map (·.says)) [] (trL G 0 ls) K0 rfl (by unfold K0;omega) (by unfold most;omega);simp only [List.length_nil,List.map_nil,List.nil_append] at h h2;have hz:((0:Nat):Int)=0:=rfl;rw [hz] at h h2;rw [Yd.f,hls,Option.bind_some,h];unfold Zny Yd.j3 Yd.j1;rw [hbn,Option.bind_some,h2];cases r.bidi<;>cases bn.bidi<;>simp
theorem Zy5 (h:Z3f a b) (isb:Bool) {G H:S17->List Int} (bc:List Int->Int) (ls:List S17) (hG:∀ x∈ls,(G x).Sublist (H x)):(Zny a isb G bc ls).Sublist (Zny b isb H bc ls):=by
 refine List.Sublist.append (Z5b ls 0 hG) (Zma (λhx=>?_) _);simp only [Bool.and_eq_true] at hx ⊢;exact ⟨h.2.1 hx.1,hx.2⟩
theorem Zp2 (r:S13) (isb:Bool) {G:S17->List Int} (bc:List Int->Int) (ls:List S17) (hG:∀ x∈ls,(G x).length<=10):(Zny r isb G bc ls).length<=11*ls.length:=by
 have h1:=Zke 10 ls 0 hG;have h2:=Zke (G:=Zui bc) 1 (ls.map (·.says)) 0 λx _=>Zz9 bc x;rw [List.length_map] at h2;unfold Zny;rw [List.length_append];split
 ·omega
 ·simp only [List.length_nil];omega
theorem Zv2 (a b:ByteArray) (ha:a.size<=562949953421312) (hb:b.size<=562949953421312):∃ v,Hf.f a b=some v:=by
 unfold Hf.f J9.f;refine Zcv ?_ λ_=>⟨_,rfl⟩;unfold Y6.f Y6.j1;by_cases c:(b.size:Int)<=(a.size:Int)
 ·have w:i64.wrap ((a.size:Int)-(b.size:Int))=(a.size:Int)-(b.size:Int):=w64 (by omega) (by omega)
  rw [if_pos c,w,if_pos (show (0:Int)<=(a.size:Int)-(b.size:Int)/\(a.size:Int)-(b.size:Int)<=(a.size:Int)/\(a.size:Int)<=(a.size:Int) by omega),Option.bind_some,if_pos (show (0:Int)<=0/\(0:Int)<=(a.size:Int)-(b.size:Int)/\(a.size:Int)-(b.size:Int)<=(a.size:Int) by omega)];exact Zco ⟨_,rfl⟩ ⟨_,rfl⟩
 ·rw [if_neg c];exact ⟨a,rfl⟩
theorem Zot (xs:List ByteArray) (hn:xs.length<=34359738368) (hj:(Zcy xs (⟨#[46]⟩:ByteArray)).size<=281474976710656):∃ v,Zr.f xs=some v/\v.length<=xs.length+1:=by
 have hb:xs.length<=Zv:=by unfold Zv;omega
 have w:i64.wrap ((xs.length:Int)-1)=(xs.length:Int)-1:=w64 (by omega) (by omega);have hjoin:Kz.f xs (⟨#[46]⟩:ByteArray)=some (Zcy xs (⟨#[46]⟩:ByteArray)):=by rw [Kz.f,if_pos ⟨by omega,hj⟩]
 have e5:∀ (aa:List Wh) (b:Bool),aa.length<=xs.length->∃ v,Zr.j5 aa b=some v/\v.length<=xs.length+1:=by
  intro aa b h;unfold Zr.j5 Zr.j4;cases b
  ·exact ⟨aa,by simp,by omega⟩
  ·rw [if_pos rfl,if_pos (by unfold most;simp;omega)];exact ⟨_,rfl,by simp;omega⟩
 have e6:∀ (aa:List Wh) (b:ByteArray),aa.length<=xs.length->∃ v,Zr.j6 aa b=some v/\v.length<=xs.length+1:=by
  intro aa b h;unfold Zr.j6;split
  ·exact e5 _ _ h
  ·exact e5 _ _ h
 have e7:∀ (aa:List Wh) (b:Bool),aa.length<=xs.length->∃ v,Zr.j7 aa (Zcy xs (⟨#[46]⟩:ByteArray)) b=some v/\v.length<=xs.length+1:=by
  intro aa b h;unfold Zr.j7;split
  ·obtain ⟨q,hq⟩:=Zv2 (Zcy xs (⟨#[46]⟩:ByteArray)) (⟨#[46]⟩:ByteArray) (by omega) (by decide)
   rw [hq,Option.bind_some];exact e6 _ _ h
  ·exact e6 _ _ h
 have key:∀ (u pre:List ByteArray) (aa:List Wh) (k:Nat),xs=pre++u->u.length<k->aa.length<=pre.length->∃ v,Zr.l1 k xs aa (pre.length:Int)=some v/\v.length<=xs.length+1:=by
  intro u
  induction u with
  | nil=>
   intro pre aa k e hk ha;obtain ⟨k,rfl⟩:∃ j,k=j+1:=⟨k-1,by omega⟩;have hl:xs.length=pre.length:=by rw [e];simp
   simp only [Zr.l1];rw [if_neg (by omega),hjoin,Option.bind_some,w];by_cases c:1<(xs.length:Int)
   ·rw [if_pos c,if_pos (by omega)];exact e7 _ _ (by omega)
   ·rw [if_neg c];exact e7 _ _ (by omega)
  | cons x u ih=>
   intro pre aa k e hk ha;obtain ⟨k,rfl⟩:∃ j,k=j+1:=⟨k-1,by omega⟩;have m:=mid e;have hle:xs.length=pre.length+(u.length+1):=by rw [e];simp
   have step:∀ aa':List Wh,aa'.length<=pre.length+1->∃ v,Zr.l1 k xs aa' (i64.wrap ((pre.length:Int)+1))=some v/\v.length<=xs.length+1:=by intro aa' h;have:=ih (pre++[x]) aa' k (by rw [e];simp) (by simp at hk;omega) (by simpa using h);rw [List.length_append] at this;rw [nxt hb e];simpa using this
   have e2:∀ b:Bool,∃ v,Zr.j2 (Zr.l1 k xs) aa (pre.length:Int) b=some v/\v.length<=xs.length+1:=by
    intro b;unfold Zr.j2 Zr.j1;cases b
    ·exact step aa (by omega)
    ·rw [if_pos rfl,if_pos (by unfold most;simp;omega)];exact step _ (by simp;omega)
   have e3:∀ b:Bool,∃ v,Zr.j3 (Zr.l1 k xs) xs aa (pre.length:Int) b=some v/\v.length<=xs.length+1:=by
    intro b;unfold Zr.j3;split
    ·split
     ·exact e2 _
     ·exact e2 _
    ·exact e2 _
   simp only [Zr.l1];rw [if_pos m.2.2,if_pos m.2];split
   ·exact e3 _
   ·exact e3 _
 exact key xs [] [] K0 rfl (ltK hb) (Nat.le_refl _)
def Zop (en:List Int->ByteArray×Int×Int) (l:List Int):List Int:=if (en l).2.2≠0 then [13] else []
theorem Zs2 (en:List Int->ByteArray×Int×Int) (l:List Int):(Zop en l).length<=1:=by unfold Zop;split<;>simp
theorem Zz6 {t:Option Tbs} (name:List Int) (r:S13) {ws:List (List Int)} {T:List Wh} (hp:Yd.f t name r=some (ws,T)) (hn:ws.length<=34359738368) (hT:T.length<=11*ws.length) (en:List Int->ByteArray×Int×Int) (he:∀ l∈ws,Vy.f l=some (en l)) (hj:(Zcy (ws.map λl=>(en l).1) (⟨#[46]⟩:ByteArray)).size<=281474976710656) {L:List Wh} (hL:Zr.f (ws.map λl=>(en l).1)=some L) (hl:L.length<=ws.length+1):
  Qy.f t name r=some (Zcy (ws.map λl=>(en l).1) (⟨#[46]⟩:ByteArray),(T++trL (Zop en) 0 ws)++(if r.lengths then L else [])):=by
 have hb:ws.length<=Zv:=by unfold Zv;omega
 have hjoin:Kz.f (ws.map λl=>(en l).1) (⟨#[46]⟩:ByteArray)=some (Zcy (ws.map λl=>(en l).1) (⟨#[46]⟩:ByteArray)):=by rw [Kz.f,if_pos ⟨by rw [List.length_map];omega,hj⟩]
 have hE:=Zke (G:=Zop en) 1 ws 0 λx _=>Zs2 en x;have key:∀ (u pre:List (List Int)) (ac:List Wh) (k:Nat),ws=pre++u->u.length<k->ac.length+2*u.length<=14*34359738368-> 
   Qy.l1 k r (ws,T) (pre.map λl=>(en l).1) ac (pre.length:Int)=some (Zcy (ws.map λl=>(en l).1) (⟨#[46]⟩:ByteArray),(ac++trL (Zop en) pre.length u)++(if r.lengths then L else [])):=by
  intro u
  induction u with
  | nil=>
   intro pre ac k e hk hac;obtain ⟨k,rfl⟩:∃ j,k=j+1:=⟨k-1,by omega⟩;have hle:ws.length=pre.length:=by rw [e];simp
   have hl':pre=ws:=by rw [e];simp
   simp only [Qy.l1];rw [if_neg (by omega),hl',hL,Option.bind_some];unfold Qy.j2;have hml:ac.length+L.length<=most:=by unfold most;simp at hac;omega
   simp only [hjoin,if_pos hml,Option.bind_some];cases r.lengths<;>simp [trL]
  | cons x u ih=>
   intro pre ac k e hk hac;obtain ⟨k,rfl⟩:∃ j,k=j+1:=⟨k-1,by omega⟩;have m:=mid e;have hle:ws.length=pre.length+(u.length+1):=by rw [e];simp
   have hx:=he x (by rw [e];simp);rw [List.length_cons] at hac;have step:∀ ac':List Wh,ac'.length+2*u.length<=14*34359738368->Qy.j1 (Qy.l1 k r (ws,T)) (pre.map λl=>(en l).1) (pre.length:Int) (en x) ac'=some (Zcy (ws.map λl=>(en l).1) (⟨#[46]⟩:ByteArray),(ac'++trL (Zop en) (pre.length+1) u)++(if r.lengths then L else [])):=by intro ac' h;have:=ih (pre++[x]) ac' k (by rw [e];simp) (by simp at hk;omega) h;rw [List.length_append,List.map_append] at this;unfold Qy.j1;rw [if_pos (by unfold most;simp;omega),nxt hb e];simpa using this
   simp only [Qy.l1];rw [if_pos m.2.2,if_pos m.2,m.1,hx,Option.bind_some,trL];by_cases c:(en x).2.2≠0
   ·rw [if_pos c,if_pos (by unfold most;simp;omega),step _ (by simp;omega)]
    simp [Zop,c]
   ·rw [if_neg c,step _ (by omega)]
    simp [Zop,c]
 have:=key ws [] T K0 rfl (ltK hb) (by omega);rw [Qy.f,hp,Option.bind_some];simpa using this
theorem Zx8 (l:List Int) (hl:l.length<=Zv) (h:∃ x∈l,scB x=false):∃ a,Q6.f pU l=some (a,20):=by
 rw [Q6.f];refine Qe (λk i (_:Unit)=>Q6.l1 k pU l i) l (λ_ t _ o=>(∃ x∈t,scB x=false)->∃ a,o=some (a,20)) (λ_ k=>?_) (λpre x t _ k e ih=>?_) () K0 (ltK hl) h
 ·rintro ⟨x,hx,_⟩;cases hx
 ·obtain ⟨m1,m2⟩:=mid e
  intro h2;simp only [Q6.l1,if_pos m2.2,if_pos m2,m1,Zrx,Zvv,Option.bind_some,nxt hl e];cases c:scB x
  ·exact ⟨_,by rw [if_pos (by decide)]⟩
  ·rw [if_neg (by decide)]
   refine ih () ?_;obtain ⟨y,hy,hc⟩:=h2
   rcases List.mem_cons.1 hy with rfl | hy
   ·rw [hc] at c;exact nomatch c
   ·exact ⟨y,hy,hc⟩
theorem Zyh (L:List Int) (hl:L.length<=18400000000):∃ s a e,Zc2.f L=some (s,a,e)/\s.size<=12*L.length+1:=by
 have hb:L.length<=Zv:=by unfold Zv;omega
 have hu:Zcc.f=some pU:=rfl;rw [Zc2.f,hu,Option.bind_some,Zj.f];by_cases hx:∃ x∈L,scB x=false
 ·obtain ⟨a,ha⟩:=Zx8 L hb hx
  rw [ha,Option.bind_some,if_pos (by simp)];exact ⟨_,_,_,rfl,Nat.zero_le _⟩
 ·have hs:∀ x∈L,scB x=true:=λx h=>by
   cases c:scB x
   ·exact absurd ⟨x,h,c⟩ hx
   ·rfl
  have hr2:∀ x∈L,0<=x/\x<=1114111:=λx h=>Zzf (hs x h);have hp:=Zy4 L hb λx h=>by have:=hr2 x h;omega
  have c:fIx (λp=>!scB p) L 0=-1:=by
   rcases Zkr (λp=>!scB p) L 0 with ⟨c,_⟩ | ⟨a,x,r,e,hx,_,h⟩
   ·exact c
   ·have:=hs x (by rw [e];simp)
    rw [this] at hx;exact nomatch hx
  obtain ⟨r,_,_,r3,r4⟩:=Z3y L hl hr2;obtain ⟨s,a,e,h3,h4⟩:=Z0q r4 (by unfold Zv;omega);rw [hp,Option.bind_some,if_pos c,if_neg (by simp),Z17 L hl hr2,r3,h3];exact ⟨s,a,e,rfl,h4⟩
theorem Zpb (l:List Int) (hl:l.length<=18400000000):∃ v,Vy.f l=some v/\v.1.size<=12*l.length+5:=by
 have hb:l.length<=Zv:=by unfold Zv;omega
 rw [Vy.f,Zj4 l hb,Option.bind_some];cases hp:Zdw l
 ·rw [if_neg (by decide)]
  obtain ⟨s,a,e,h1,h2⟩:=Zyh l hl;rw [h1,Option.bind_some];by_cases c:e≠0
  ·rw [if_pos c];exact ⟨_,rfl,Nat.zero_le _⟩
  ·have h4:(⟨#[120,110,45,45]⟩:ByteArray).size=4:=rfl
   have h2':(s,a,e).1.size<=12*l.length+1:=h2;rw [if_neg c,if_pos (by rw [h4];omega)];exact ⟨_,rfl,by rw [ByteArray.size_append,h4];omega⟩
 ·rw [if_pos rfl]
  have hm:∀ c∈l,0<=c/\c<128:=λc hc=>by
   simp only [Zdw,Bool.not_eq_true',List.any_eq_false,decide_eq_true_eq] at hp;have:=hp c hc;omega
  refine ⟨_,rfl,?_⟩;show (runesBytes l).size<=_;rw [Zlq hp,Ziy hm];omega
def Zdc:List Int->List Int->List (List Int)
 | one,[]=>[one]
 | one,p::t=>if p=46 then one::Zdc [] t else Zdc (one++[p]) t
theorem Zn9:∀ (a one r:List Int),(∀ x∈a,x≠46)->Zdc one (a++46::r)=(one++a)::Zdc [] r
 | [],one,r,_=>by simp [Zdc]
 | x::a,one,r,h=>by
  rw [List.cons_append,Zdc,if_neg (h x (by simp)),Zn9 a _ r (λy hy=>h y (by simp [hy]))]
  simp
theorem Zls:∀ (a one:List Int),(∀ x∈a,x≠46)->Zdc one a=[one++a]
 | [],one,_=>by simp [Zdc]
 | x::a,one,h=>by
  rw [Zdc,if_neg (h x (by simp)),Zls a _ (λy hy=>h y (by simp [hy]))]
  simp
def Z9j (t:List (List Int)):List Int:=t.flatMap (46::·)
theorem Z2x (l:List Int) (hl:l.length+1<=Zv):Ur.f l=some (Zdc [] l):=by
 have key:∀ (n:Nat) (t:List Int) (acc:List (List Int)) (k:Nat),t.length<=n->n<k->acc.length+t.length<=l.length->Ur.l1 k acc t=some (acc++Zdc [] t):=by
  unfold Zv at hl;intro n
  induction n with
  | zero=>
   intro t acc k hn hk ha;obtain ⟨k,rfl⟩:∃ j,k=j+1:=⟨k-1,by omega⟩;obtain rfl:t=[]:=List.eq_nil_of_length_eq_zero (by omega);simp only [Ur.l1,Zkw [] 46 (by unfold Zv;simp),Option.bind_some,fIx];rw [if_pos (by omega),Zg7 [] (by unfold Zv;simp),Option.bind_some,if_pos (by unfold most;simp at ha ⊢;omega)];rfl
  | succ n ih=>
   intro t acc k hn hk ha;obtain ⟨k,rfl⟩:∃ j,k=j+1:=⟨k-1,by omega⟩;have ht:t.length<=Zv:=by unfold Zv;omega
   simp only [Ur.l1,Zkw t 46 ht,Option.bind_some]
   rcases Zkr (λx:Int=>decide (46=x)) t 0 with ⟨h1,h2⟩ | ⟨a,x,r,h1,h2,h3,h4⟩
   ·rw [h1,if_pos (by omega),Zg7 t ht,Option.bind_some,if_pos (by unfold most;simp;omega),Zls t [] (λx hx e=>by have:=h2 x hx;simp [e] at this)]
    simp
   ·obtain rfl:(46:Int)=x:=of_decide_eq_true h2
    have hlen:t.length=a.length+(r.length+1):=by rw [h1];simp
    have ea:((0+a.length:Nat):Int)=(a.length:Int):=by omega
    have es:sub t 0 (a.length:Int)=a:=by rw [h1];simp [sub]
    have er:sub t ((a.length:Int)+1) (t.length:Int)=r:=by have:=Zmf (xs:=t) (pre:=a++[46]) (t:=r) (by rw [h1];simp);simpa using this
    rw [h4,ea,w64 (by omega) (by omega),if_neg (by omega),if_pos ⟨by omega,by omega,by omega⟩,es,Zg7 a (by unfold Zv;omega),Option.bind_some,if_pos (by unfold most;simp;omega),if_pos ⟨by omega,by omega,by omega⟩,er];rw [ih r (acc++[a]) k (by omega) (by omega) (by simp;omega)];rw [h1,Zn9 a [] r (λx hx e=>by have:=h3 x hx;simp [e] at this)];simp
 have:=key l.length l [] K0 (Nat.le_refl _) (ltK (by omega)) (by simp);simpa [Ur.f] using this
section
def Zbr {α:Type} (f:α->Nat):List α->Nat
 | []=>0
 | x::t=>f x+1+Zbr f t
theorem Zka {α:Type} (f:α->Nat):∀ (l:List α),∀ x∈l,f x+1<=Zbr f l
 | x::t,y,h=>by
  rw [Zbr]
  rcases List.mem_cons.1 h with rfl | h
  ·omega
  ·have:=Zka f t y h;omega
theorem Zhp {α:Type} (f:α->Nat):∀ (l:List α),l.length<=Zbr f l
 | []=>Nat.le_refl _
 | x::t=>by have:=Zhp f t;rw [Zbr,List.length_cons];omega
theorem Ziz:∀ (t one:List Int),Zbr (·.length) (Zdc one t)=one.length+t.length+1
 | [],one=>by simp [Zdc,Zbr]
 | p::t,one=>by
  rw [Zdc]
  split
  ·rw [Zbr,Ziz t []];simp;omega
  ·rw [Ziz t (one++[p])];simp;omega
theorem Zpt:∀ (xs:List ByteArray),(Zcy xs (⟨#[46]⟩:ByteArray)).size<=Zbr (·.size) xs:=by
 intro xs;have hz:∀ x:ByteArray,x.data.toList.length=x.size:=λx=>Array.length_toList;have hl:∀ r:List ByteArray,Lib.lens (r.map (·.data.toList))+r.length=Zbr (·.size) r:=by
  intro r
  induction r with
  | nil=>rfl
  | cons x t ih=>
   have e:Lib.lens ((x::t).map (·.data.toList))=x.data.toList.length+Lib.lens (t.map (·.data.toList)):=by simp only [Lib.lens,List.map_cons,List.sum_cons]
   rw [e,Zbr,List.length_cons,hz];omega
 have hs:(Zcy xs (⟨#[46]⟩:ByteArray)).size=(Lib.join (xs.map (·.data.toList)) [46]).length:=rfl;rw [hs]
 cases xs with
 | nil=>exact Nat.zero_le _
 | cons x t=>
  have:=hl (x::t);rw [List.map_cons,Lib.join_length];rw [List.map_cons,List.length_cons] at this;rw [List.length_map,List.length_singleton];omega
variable {t:Option Tbs} {key:Int->Int} {pa:Int->List Int} {n:Nat} {pr:Int->Int->Int×Bool} {mk kp:Int->Bool} {jn:Int->Int}
theorem Z2c (h:Tq t key pa n pr mk kp jn) (l:List Int) (hl:l.length<=18400000000):∃ r,Za8.f t l=some r/\r.says.length<=l.length+1:=by
 have hb:l.length<=Zv:=by unfold Zv;omega
 cases hc:Zjr l with
 | false=>
  obtain ⟨f,hf⟩:=Zvl h l (by unfold Zv;omega) hc;exact ⟨_,hf,Nat.le_succ _⟩
 | true=>
  cases hp:Zdw l with
  | false=>
   exact ⟨⟨l,true,7⟩,by rw [Za8.f,Zg7 _ hb,Option.bind_some,Zjs,Option.bind_some,hc,if_neg (by decide),Zj4 _ hb,Option.bind_some,hp,if_pos (by decide)],Nat.le_succ _⟩
  | true=>
   obtain ⟨q,a,e,h1,_,h3⟩:=Zqt (Znx hp 4) (by simp;unfold Zv;omega);have h4:(l.drop 4).length=l.length-4:=by simp
   obtain ⟨F,h2,_⟩:=Zlk h q (by unfold Zv;omega);refine ⟨_,Z2b l hb hc hp h1 (by unfold Zv;omega) h2,?_⟩;have h5:=Zsv hc;split
   ·exact Nat.le_succ _
   ·split
    ·show q.length<=_;omega
    ·show q.length<=_;omega
theorem Ztk (h:Tq t key pa n pr mk kp jn) (ai:List (List Int)) (ha:Zbr (·.length) ai<=18400000000):∃ ls,Ue.l1 K0 t ai [] 0=some ls/\ls.length=ai.length/\Zbr (·.says.length) ls<=2*Zbr (·.length) ai/\∀ r∈ls,r.says.length<=18400000000:=by
 have hlen:=Zhp (·.length) ai;have hb:ai.length<=Zv:=by unfold Zv;omega
 have key:∀ (u pre:List (List Int)) (aa:List S17) (k:Nat),ai=pre++u->u.length<k->aa.length=pre.length->∃ v,Ue.l1 k t ai aa (pre.length:Int)=some (aa++v)/\v.length=u.length/\Zbr (·.says.length) v<=2*Zbr (·.length) u/\∀ r∈v,r.says.length<=18400000000:=by
  intro u
  induction u with
  | nil=>
   intro pre aa k e hk ha;obtain ⟨k,rfl⟩:∃ j,k=j+1:=⟨k-1,by omega⟩;have hl:ai.length=pre.length:=by rw [e];simp
   simp only [Ue.l1];rw [if_neg (by omega)];exact ⟨[],by simp,rfl,Nat.le_refl _,λr h=>by cases h⟩
  | cons x u ih=>
   intro pre aa k e hk hq;obtain ⟨k,rfl⟩:∃ j,k=j+1:=⟨k-1,by omega⟩;have m:=mid e;have hle:ai.length=pre.length+(u.length+1):=by rw [e];simp
   have hx:=Zka (·.length) ai x (by rw [e];simp);obtain ⟨r,hr,hs⟩:=Z2c h x (by have:=hx;omega);simp only [Ue.l1];rw [if_pos m.2.2,if_pos m.2,m.1,hr,Option.bind_some,if_pos (by unfold most;simp;omega),nxt hb e];obtain ⟨v,h1,h2,h3,h5⟩:=ih (pre++[x]) (aa++[r]) k (by rw [e];simp) (by simp at hk;omega) (by simp [hq]);rw [List.length_append] at h1;have hx2:x.length+1<=Zbr (·.length) ai:=hx;refine ⟨r::v,by simpa using h1,by simp [h2],by rw [Zbr,Zbr];omega,λy hy=>?_⟩
   rcases List.mem_cons.1 hy with rfl | hy
   ·omega
   ·exact h5 y hy
 obtain ⟨v,h1,h2,h3,h5⟩:=key ai [] [] K0 rfl (ltK hb) rfl;exact ⟨v,by simpa using h1,h2,h3,h5⟩
end
section
theorem Zr3 (b:Bk) (hb:Few b) (h:okB b=true):∃ t,Kx.f b=some (some t,b,true)/\Zqk b t:=by
 obtain ⟨t,h1,h2⟩:=Zum b hb h;obtain ⟨p,q,h3⟩:=Zj5 b hb;rw [h] at h3;refine ⟨t,?_,h2⟩;rw [Kx.f,h1,Option.bind_some,Z5p b hb,Option.bind_some,h3,Option.bind_some,if_neg (by simp),if_pos rfl,Kx.j2];rfl
theorem Zt9 (b:Bk) (hb:Few b) (h:okB b=false):Kx.f b=some (none,⟨[],[],[],[],[],[],[],[],[],[],[]⟩,true):=by
 obtain ⟨p,h1⟩:=Zib b;obtain ⟨p',q,h3⟩:=Zj5 b hb;rw [h] at h1 h3;rw [Kx.f,Zl.f,h1,Option.bind_some,if_pos (by simp),Option.bind_some,Z5p b hb,Option.bind_some,h3,Option.bind_some,if_pos (by simp)];rfl
def Zg4 (t:Option Tbs) (mp:Int->List Int):Prop:=∀ p,Zal.f t p=some (mp p)/\(mp p).length<=18
theorem Z62 (h:okB b=true):∀ x∈b.maps,x.is_.length<=18:=by
 unfold okB at h;simp only [Bool.and_eq_true] at h;have h2:=h.2.2.1;unfold Zav at h2;simp only [Bool.and_eq_true] at h2;intro x hx;have:=(Zdq h2.2 x hx).2.2.2;simp only [Zj2,H3,Bool.and_eq_true,decide_eq_true_eq] at this;omega
theorem Z4q (h:∀ x∈D,x.is_.length<=q) (c:Int):(paP D c).length<=q:=by
 induction D with
 | nil=>exact Nat.zero_le _
 | cons x D ih=>
  rw [paP];split
  ·exact h x (by simp)
  ·exact ih λy hy=>h y (by simp [hy])
theorem Z1z (h:Ztp a b l=true) (ha:0<=a) (hb:b<=65535):Zb5 l:=by
 simp only [Ztp,Zav,Bool.and_eq_true,decide_eq_true_eq] at h;refine ⟨h.1,?_⟩;have:∀ (l:List Val) (last:Int),Vu (·.lo) (·.hi) (λx:Val=>decide (a<=x.n)&&decide (x.n<=b)) last l=true->Vu (·.lo) (·.hi) Zes last l=true:=by
  intro l
  induction l with
  | nil=>intro _ _;rfl
  | cons x t ih=>
   intro last h;simp only [Vu,Bool.and_eq_true,decide_eq_true_eq] at h ⊢;refine ⟨⟨h.1.1,?_⟩,ih _ h.2⟩;have:=h.1.2;simp only [Zes,Bool.and_eq_true,decide_eq_true_eq];omega
 exact this l _ h.2
theorem Zya (h:okB b=true):Zb5 b.bidi:=by
 unfold okB at h;simp only [Bool.and_eq_true] at h;exact Z1z h.2.2.2.2.2.2.1 (by omega) (by omega)
theorem Z23 (b:Bk) (hb:Few b):∃ t c key pa n pr mk kp jn sta bd mp,Kx.f b=some (t,c,true)/\Tq t key pa n pr mk kp jn/\Zg5 t sta kp/\Zg3 t bd/\Zg4 t mp:=by
 cases h:okB b with
 | true=>
  obtain ⟨t,h1,h2⟩:=Zr3 b hb h;obtain ⟨key,pa,n,pr,mk,kp,jn,sta,h3,h4⟩:=Z5a hb h h2;refine ⟨_,_,key,pa,n,pr,mk,kp,jn,sta,λp=>(Z1.f t.bidi p).getD 0,λp=>(Zbv.f t.maps b.maps p).getD [],h1,h3,h4,λp=>?_,λp=>?_⟩
  ·obtain ⟨r,e1,e2⟩:=Zri _ _ h2.bidi (Zya h) p
   simp only [U5.f,Option.isNone_some,Bool.false_eq_true,if_false,Option.isSome_some,if_true,Option.getD_some,e1,Option.bind_some];exact ⟨trivial,e2⟩
  ·obtain ⟨l,e1,e2⟩:=Zvr h2.maps hb.mapsI hb.maps p
   have hl:l.length<=18:=by
    rcases e2 with rfl | rfl
    ·exact Z4q (Z62 h) p
    ·exact Nat.zero_le _
   simp only [Zal.f,Option.isNone_some,Bool.false_eq_true,if_false,Option.isSome_some,if_true,Option.getD_some,h2.book,e1,Option.bind_some];exact ⟨trivial,hl⟩
 | false=>
  obtain ⟨key,pa,n,pr,mk,kp,jn,sta,h3,h4⟩:=Z49;exact ⟨_,_,key,pa,n,pr,mk,kp,jn,sta,λ_=>0,λ_=>[],Zt9 b hb h,h3,h4,λp=>⟨rfl,Int.le_refl _⟩,λp=>⟨rfl,Nat.zero_le _⟩⟩
variable {t:Option Tbs} {key:Int->Int} {pa:Int->List Int} {n:Nat} {pr:Int->Int->Int×Bool} {mk kp:Int->Bool} {jn:Int->Int} {sta:Int->Int} {mp:Int->List Int}
def Zva (sta:Int->Int) (mp:Int->List Int) (c:Int):List Int:=if sta c=2 then [] else if sta c=4 then mp c else [c]
def Zky (sta:Int->Int) (mp:Int->List Int) (l:List Int):List Int:=l.flatMap (Zva sta mp)
theorem Ztl (hm:Zg4 t mp) (c:Int):(Zva sta mp c).length<=18:=by
 unfold Zva;split
 ·exact Nat.zero_le _
 ·split
  ·exact (hm c).2
  ·simp
theorem Zng (hm:Zg4 t mp):∀ l:List Int,(Zky sta mp l).length<=18*l.length
 | []=>Nat.le_refl _
 | c::l=>by
  have h1:=Ztl (sta:=sta) hm c
  have h2:=Zng hm l
  unfold Zky at h2 ⊢
  rw [List.flatMap_cons,List.length_append,List.length_cons];omega
theorem Z5h (aq:List Int->Int->Option (List Int)) (aa:Int) (aw:List Int) (ha:aw.length<=18):∀ (u pre ac:List Int) (k:Nat),aw=pre++u->u.length<k->ac.length<=1000000000->
  Ym.l1 aq k aa aw ac (pre.length:Int)=aq (ac++u) (i64.wrap (aa+1)):=by
 have hb:aw.length<=Zv:=by unfold Zv;omega
 have main:∀ (u pre ac:List Int) (k:Nat),aw=pre++u->u.length<k->ac.length+u.length<=1000000018->Ym.l1 aq k aa aw ac (pre.length:Int)=aq (ac++u) (i64.wrap (aa+1)):=by
  intro u
  induction u with
  | nil=>
   intro pre ac k e hk _;obtain ⟨k,rfl⟩:∃ j,k=j+1:=⟨k-1,by omega⟩;have hl:aw.length=pre.length:=by rw [e];simp
   simp only [Ym.l1,Ym.j1];rw [if_neg (by omega),List.append_nil]
  | cons x u ih=>
   intro pre ac k e hk hc;obtain ⟨k,rfl⟩:∃ j,k=j+1:=⟨k-1,by omega⟩;have m:=mid e;rw [List.length_cons] at hc;simp only [Ym.l1,Uv.f];rw [if_pos m.2.2,if_pos m.2,m.1,if_pos (by unfold most;simp;omega),Option.bind_some,nxt hb e];have:=ih (pre++[x]) (ac++[x]) k (by rw [e];simp) (by simp at hk;omega) (by simp;omega);rw [List.length_append] at this;simpa using this
 intro u pre ac k e hk hc;have hle:aw.length=pre.length+u.length:=by rw [e];simp
 exact main u pre ac k e hk (by omega)
theorem Z61 (hs:Zg5 t sta kp) (hm:Zg4 t mp) (l:List Int) (hl:l.length<=50000000):Zc0.f t l=some (Zky sta mp l):=by
 have hb:l.length<=Zv:=by unfold Zv;omega
 have key:∀ (u pre ab:List Int) (k:Nat),l=pre++u->u.length<k->ab.length<=18*pre.length->Ym.l2 k t l ab (pre.length:Int)=some (ab++Zky sta mp u):=by
  intro u
  induction u with
  | nil=>
   intro pre ab k e hk _;obtain ⟨k,rfl⟩:∃ j,k=j+1:=⟨k-1,by omega⟩;have hl:l.length=pre.length:=by rw [e];simp
   simp only [Ym.l2];rw [if_neg (by omega)];simp [Zky]
  | cons x u ih=>
   intro pre ab k e hk hc;obtain ⟨k,rfl⟩:∃ j,k=j+1:=⟨k-1,by omega⟩;have m:=mid e;have hle:l.length=pre.length+(u.length+1):=by rw [e];simp
   have h18:=Ztl (sta:=sta) hm x;have step:Ym.l2 k t l (ab++Zva sta mp x) (i64.wrap ((pre.length:Int)+1))=some (ab++Zky sta mp (x::u)):=by have:=ih (pre++[x]) (ab++Zva sta mp x) k (by rw [e];simp) (by simp at hk;omega) (by simp;omega);rw [List.length_append] at this;rw [nxt hb e];have e2:Zky sta mp (x::u)=Zva sta mp x++Zky sta mp u:=rfl;rw [e2,<- List.append_assoc];simpa using this
   simp only [Ym.l2,Ym.j1];rw [if_pos m.2.2,if_pos m.2,m.1,hs.1,Option.bind_some];unfold Zva at step;by_cases c2:sta x=2
   ·rw [if_pos c2] at step ⊢
    simpa using step
   ·rw [if_neg c2] at step ⊢
    by_cases c4:sta x=4
    ·rw [if_pos c4] at step ⊢
     rw [(hm x).1,Option.bind_some];have:=Z5h (Ym.l2 k t l) (pre.length:Int) (mp x) (hm x).2 (mp x) [] ab K0 rfl (by have:=(hm x).2;unfold K0;omega) (by omega);have hz:((([]:List Int).length:Nat):Int)=0:=rfl;rw [hz] at this;rw [this];exact step
    ·rw [if_neg c4] at step ⊢
     rw [Uv.f,if_pos (by unfold most;simp;omega),Option.bind_some];exact step
 have:=key l [] [] K0 rfl (ltK hb) (Nat.le_refl _);rw [Zc0.f,Ym.f];have hz:((([]:List Int).length:Nat):Int)=0:=rfl;rw [hz] at this;rw [this];simp
theorem Zy0 (h:Tq t key pa n pr mk kp jn) (l:List Int):(Zev key pa n pr l).length<=54*l.length:=by
 have h1:=Zhg h.tb l;have h2:=Zha key pr (Zk0 key (l.flatMap (Zd5 pa n))) ([],-1,0);rw [Znv] at h2;simp only [List.length_nil,Nat.zero_add] at h2;unfold Zev Zg9;omega
theorem Z4b (h:Tq t key pa n pr mk kp jn) (hs:Zg5 t sta kp) (hm:Zg4 t mp) (l:List Int) (hl:l.length<=50000000):Zca.f t l=some (Zev key pa n pr (Zky sta mp l)):=by
 have:=Zng (sta:=sta) hm l;rw [Zca.f,Z61 hs hm l hl,Option.bind_some,Zpx h _ (by unfold Zv;omega)];rfl
theorem Zrg (h:Tq t key pa n pr mk kp jn) (hs:Zg5 t sta kp) (hm:Zg4 t mp) (l:List Int) (hl:l.length<=18874386):∃ ls,Ue.f t l=some ls/\ls.length<=18400000000/\Zbr (·.says.length) ls<=1944*l.length+2/\∀ r∈ls,r.says.length<=18400000000:=by
 have h1:=Zng (sta:=sta) hm l;have h2:=Zy0 h (Zky sta mp l);have h3:=Ziz (Zev key pa n pr (Zky sta mp l)) [];simp only [List.length_nil,Nat.zero_add] at h3;obtain ⟨ls,e1,e2,e3,e4⟩:=Ztk h (Zdc [] (Zev key pa n pr (Zky sta mp l))) (by omega);have h4:=Zhp (·.length) (Zdc [] (Zev key pa n pr (Zky sta mp l)));refine ⟨ls,?_,by omega,by omega,e4⟩;rw [Ue.f,Z4b h hs hm l (by omega),Option.bind_some,Z2x _ (by unfold Zv;omega),Option.bind_some,e1]
end
section
theorem Zs5:∀ a b c d e f:Bool,(Zl4 a b c d e f).length<=6:=by decide
theorem Zp9 {α β:Type} (f:α->β) (g:β->Nat):∀ l:List α,Zbr g (l.map f)=Zbr (λx=>g (f x)) l
 | []=>rfl
 | x::l=>by rw [List.map_cons,Zbr,Zbr,Zp9 f g l]
theorem Zxj (f:List Int->ByteArray):∀ l:List (List Int),(∀ x∈l,(f x).size<=12*x.length+5)->Zbr (·.size) (l.map f)<=12*Zbr (·.length) l
 | [],_=>Nat.le_refl _
 | x::l,h=>by
  have h1:=h x (by simp)
  have h2:=Zxj f l λy hy=>h y (by simp [hy])
  rw [List.map_cons,Zbr,Zbr];omega
variable {t:Option Tbs} {key:Int->Int} {pa:Int->List Int} {n:Nat} {pr:Int->Int->Int×Bool} {mk kp:Int->Bool} {jn:Int->Int} {sta:Int->Int} {mp:Int->List Int} {bd:Int->Int}
theorem Z1b (h:Tq t key pa n pr mk kp jn) (hs:Zg5 t sta kp) (hm:Zg4 t mp) (hd:Zg3 t bd) (l:List Int) (hl:l.length<=18874386):∃ (txt:ByteArray) (T:S13->List Wh),txt.size<=23328*l.length+24/\(∀ r,Qy.f t l r=some (txt,T r))/\(∀ a b,Z3f a b->(T a).Sublist (T b))/\∀ r,(T r).length<=1099511627776:=by
 obtain ⟨ls,e1,e2,e3,e4⟩:=Zrg h hs hm l hl;have hF:∀ lb∈ls,Qt.f t lb.says=some ((Qt.f t lb.says).getD [])/\((Qt.f t lb.says).getD []).length<=8:=λlb hx=>by
  obtain ⟨jo,e5,_⟩:=Zpl h lb.says (by have:=e4 lb hx;unfold Zv;omega);rw [e5,Option.getD_some];exact ⟨rfl,Nat.le_trans (Zs5 _ _ _ _ _ _) (by omega)⟩
 have hy:∀ lb∈ls,X0.f lb.says=some ((X0.f lb.says).getD (false,false)):=λlb hx=>Zgm _ (Zu4 _ (by have:=e4 lb hx;unfold Zv;omega));have hn:∀ lb∈ls,Y0.f lb.says=some ((Y0.f lb.says).getD false):=λlb hx=>Zgm _ (Zyw _ (by have:=e4 lb hx;unfold Zv;omega));have hw:∀ w∈ls.map (·.says),w.length<=18400000000:=λw hx=>by
  obtain ⟨lb,h1,rfl⟩:=List.mem_map.1 hx;exact e4 lb h1
 have hb:∀ w∈ls.map (·.says),Ux.f t w=some ((Ux.f t w).getD 0):=λw hx=>Zgm _ (Zjk hd w (by have:=hw w hx;unfold Zv;omega));have he:∀ w∈ls.map (·.says),Vy.f w=some ((Vy.f w).getD (⟨#[]⟩,0,0)):=λw hx=>by
  obtain ⟨v,h1,_⟩:=Zpb w (hw w hx);rw [h1];rfl
 have hz:∀ w∈ls.map (·.says),((Vy.f w).getD (⟨#[]⟩,0,0)).1.size<=12*w.length+5:=λw hx=>by
  obtain ⟨v,h1,h2⟩:=Zpb w (hw w hx);rw [h1];exact h2
 have hlen:(ls.map (·.says)).length=ls.length:=List.length_map _;obtain ⟨bn,hbn⟩:=Zvb hd (ls.map (·.says)) (by rw [hlen];unfold Zv;omega) (λw hx=>by have:=hw w hx;unfold Zv;omega);have hjz:(Zcy ((ls.map (·.says)).map λw=>((Vy.f w).getD (⟨#[]⟩,0,0)).1) (⟨#[46]⟩:ByteArray)).size<=23328*l.length+24:=by have h1:=Zpt ((ls.map (·.says)).map λw=>((Vy.f w).getD (⟨#[]⟩,0,0)).1);have h2:=Zxj (λw=>((Vy.f w).getD (⟨#[]⟩,0,0)).1) (ls.map (·.says)) hz;rw [Zp9 (λx:S17=>x.says) (λx:List Int=>x.length) ls] at h2;omega
 have hj:(Zcy ((ls.map (·.says)).map λw=>((Vy.f w).getD (⟨#[]⟩,0,0)).1) (⟨#[46]⟩:ByteArray)).size<=281474976710656:=by omega
 obtain ⟨L,hL,hl2⟩:=Zot ((ls.map (·.says)).map λw=>((Vy.f w).getD (⟨#[]⟩,0,0)).1) (by rw [List.length_map,hlen];omega) hj;rw [List.length_map] at hl2;have hG:∀ (r:S13),∀ x∈ls,Z4.f t x r=some (Zoq ((Qt.f t x.says).getD []) (((X0.f x.says).getD (false,false)).1||((X0.f x.says).getD (false,false)).2) ((Y0.f x.says).getD false) x r)/\(Zoq ((Qt.f t x.says).getD []) (((X0.f x.says).getD (false,false)).1||((X0.f x.says).getD (false,false)).2) ((Y0.f x.says).getD false) x r).length<=10:=λr x hx=>
  ⟨Zuu x r (hF x hx).1 (hF x hx).2 (hy x hx) (hn x hx),Z0v _ _ _ _ _ (hF x hx).2⟩
 refine ⟨Zcy ((ls.map (·.says)).map λw=>((Vy.f w).getD (⟨#[]⟩,0,0)).1) (⟨#[46]⟩:ByteArray),λr=>(Zny r bn.bidi (λx=>Zoq ((Qt.f t x.says).getD []) (((X0.f x.says).getD (false,false)).1||((X0.f x.says).getD (false,false)).2) ((Y0.f x.says).getD false) x r) (λw=>(Ux.f t w).getD 0) ls++trL (Zop λw=>(Vy.f w).getD (⟨#[]⟩,0,0)) 0 (ls.map (·.says)))++(if r.lengths then L else []),hjz,λr=>?_,λa b hab=>?_,λr=>?_⟩
 ·have hp:=Zvi l r e1 (by omega) _ (hG r) _ hb hbn
  have hpl:=Zp2 r bn.bidi (λw=>(Ux.f t w).getD 0) ls (λx hx=>(hG r x hx).2);exact Zz6 l r hp (by rw [hlen];omega) (by rw [hlen];exact hpl) _ he hj hL hl2
 ·exact List.Sublist.append (List.Sublist.append (Zy5 hab _ _ ls λx _=>Z0w _ _ _ x hab) (List.Sublist.refl _)) (Zma hab.2.2.2.2 L)
 ·have hpl:=Zp2 r bn.bidi (λw=>(Ux.f t w).getD 0) ls (λx hx=>(hG r x hx).2)
  have h2:=Zke (G:=Zop λw=>(Vy.f w).getD (⟨#[]⟩,0,0)) 1 (ls.map (·.says)) 0 λx _=>Zs2 _ x;rw [hlen] at h2 hl2;rw [List.length_append,List.length_append];split
  ·omega
  ·simp only [List.length_nil];omega
end
theorem Zuw (x:ByteArray) (hx:x.size<=1099511627776):∀ (m k:Nat) (ah ac ab aa:Int),ab<=(m:Int)->0<=ab->ab<=3->m<k->1<=aa->aa<=(x.size:Int)->∃ v,Y4.l1 k x ah ac ab aa=some v/\1<=v.1.size/\v.1.size<=(x.size:Int):=by
 intro m
 induction m with
 | zero=>
  intro k ah ac ab aa h0 h1 h13 hk h2 h3;obtain ⟨k,rfl⟩:∃ k',k=k'+1:=⟨k-1,by omega⟩;obtain rfl:ab=0:=by omega
  rw [Y4.l1,if_neg (by omega),Y4.j3,if_neg (by decide),if_pos rfl,Y4.j2];by_cases c:1<aa
  ·rw [decide_eq_true c,if_pos rfl,if_pos ⟨by omega,by omega,h3⟩]
   exact ⟨_,rfl,h2,h3⟩
  ·rw [decide_eq_false c,if_neg (by decide),if_neg (by omega)]
   exact ⟨_,rfl,h2,h3⟩
 | succ m ih=>
  intro k ah ac ab aa h0 h1 h13 hk h2 h3;obtain ⟨k,rfl⟩:∃ k',k=k'+1:=⟨k-1,by omega⟩;have hno:∃ v,Y4.j3 (Y4.l1 k x) x ab aa false=some v/\1<=v.1.size/\v.1.size<=(x.size:Int):=by
   rw [Y4.j3,if_neg (by decide)];have hd:∀ b,∃ v,Y4.j2 x ab aa b=some v/\1<=v.1.size/\v.1.size<=(x.size:Int):=λb=>by
    rw [Y4.j2];cases b
    ·rw [if_neg (by decide)]
     split<;>exact ⟨_,rfl,h2,h3⟩
    ·rw [if_pos rfl,if_pos ⟨by omega,by omega,h3⟩]
     exact ⟨_,rfl,h2,h3⟩
   split
   ·exact hd _
   ·exact hd _
  rw [Y4.l1];split
  ·rename_i c1
   split
   ·rename_i c2
    rw [if_pos ⟨by omega,c2⟩];split
    ·rename_i c3
     by_cases c4:bt x aa<=ac
     ·rw [decide_eq_true c4,Y4.j3,if_pos rfl,w64 (by omega) (by omega),w64 (by omega) (by omega)]
      exact ih k _ _ _ _ (by omega) (by omega) (by omega) (by omega) (by omega) (by omega)
     ·rw [decide_eq_false c4];exact hno
    ·exact hno
   ·exact hno
  ·exact hno
theorem Zyj (x:ByteArray) (hx:x.size<=1099511627776) (h:0<x.size):∃ v,Y4.f x=some v/\1<=v.1.size/\v.1.size<=(x.size:Int):=by
 rw [Y4.f,if_pos ⟨by omega,by omega⟩];split
 ·exact ⟨_,rfl,by show (1:Int)<=1;omega,by show (1:Int)<=_;omega⟩
 ·have hs:∃ v,Ud.f (bt x 0)=some v/\0<=v.2.2/\v.2.2<=3:=by
   have hj:∀ b,∃ v,Ud.j1 (bt x 0) b=some v/\0<=v.2.2/\v.2.2<=3:=λb=>by
    unfold Ud.j1;repeat' split
    all_goals exact ⟨_,rfl,by decide,by decide⟩
   unfold Ud.f;split
   ·exact hj _
   ·exact hj _
  obtain ⟨v,e,h1,h2⟩:=hs;rw [e,Option.bind_some];exact Zuw x hx 3 K0 _ _ _ _ (by omega) h1 h2 (by unfold K0;omega) (by omega) (by omega)
theorem Zvg (x:ByteArray) (hx:x.size<=1099511627776):∃ l,Vr.f x=some l/\l.length<=x.size:=by
 have key:∀ (m k:Nat) (aa:List S14) (ab:Int),(x.size:Int)-ab<=(m:Int)->0<=ab->ab<=(x.size:Int)->(aa.length:Int)<=ab->m<k->∃ l,Vr.l1 k x aa ab=some l/\l.length<=x.size:=by
  intro m
  induction m with
  | zero=>
   intro k aa ab h0 h1 h2 h3 hk;obtain ⟨k,rfl⟩:∃ k',k=k'+1:=⟨k-1,by omega⟩;rw [Vr.l1,if_neg (by omega)];exact ⟨_,rfl,by omega⟩
  | succ m ih=>
   intro k aa ab h0 h1 h2 h3 hk;obtain ⟨k,rfl⟩:∃ k',k=k'+1:=⟨k-1,by omega⟩;rw [Vr.l1];by_cases c:ab<(x.size:Int)
   ·have hz:(x.extract ab.toNat (x.size:Int).toNat).size=x.size-ab.toNat:=by simp
    obtain ⟨v,e,s1,s2⟩:=Zyj (x.extract ab.toNat (x.size:Int).toNat) (by omega) (by omega);rw [if_pos c,if_pos ⟨h1,h2,by omega⟩,e,Option.bind_some,if_pos (by unfold most;simp only [List.length_singleton];omega),w64 (by omega) (by omega)];exact ih k _ _ (by omega) (by omega) (by omega) (by simp only [List.length_append,List.length_singleton];omega) (by omega)
   ·rw [if_neg c]
    exact ⟨_,rfl,by omega⟩
 exact key x.size K0 [] 0 (by omega) (by omega) (by omega) (by simp) (by unfold K0;omega)
theorem Zuq (x:ByteArray) (hx:x.size<=1099511627776):∃ l,Ky.f x=some l/\l.length<=x.size:=by
 obtain ⟨ps,e,hl⟩:=Zvg x hx;have hb:ps.length<=Zv:=by unfold Zv;omega
 rw [Ky.f,e,Option.bind_some];refine Qe (λk i (aa:List Int)=>Ky.l1 k ps aa i) ps (λpre t aa o=>aa.length=pre.length->∃ l,o=some l/\l.length<=x.size) (λaa k h=>?_) (λpre y t aa k e ih h=>?_) [] K0 (ltK hb) rfl
 ·show ∃ l,Ky.l1 (k+1) ps aa _=some l/\_
  rw [Ky.l1,if_neg (by omega)];exact ⟨_,rfl,by omega⟩
 ·obtain ⟨m1,m2⟩:=mid e
  have hp:ps.length=pre.length+(t.length+1):=by rw [e];simp
  show ∃ l,Ky.l1 (k+1) ps aa _=some l/\_;rw [Ky.l1,if_pos m2.2,if_pos m2,m1,if_pos (by unfold most;simp only [List.length_singleton];omega),nxt hb e];exact ih _ (by simp [h])
section
theorem Zz3 (s:ByteArray):∀ (m k i:Nat),s.size<=i+m->m<k->∃ v,Zso s k i=some v/\v<=(s.size:Int):=by
 intro m
 induction m with
 | zero=>
  intro k i h hk;obtain ⟨k,rfl⟩:∃ k',k=k'+1:=⟨k-1,by omega⟩;rw [Zso,if_neg (by omega)];exact ⟨_,rfl,by omega⟩
 | succ m ih=>
  intro k i h hk;obtain ⟨k,rfl⟩:∃ k',k=k'+1:=⟨k-1,by omega⟩;rw [Zso];split
  ·split
   ·exact ⟨_,rfl,by omega⟩
   ·have:=Zup s i
    exact ih k _ (by omega) (by omega)
  ·exact ⟨_,rfl,by omega⟩
theorem Zlm (c:List UInt8):∀ l:List UInt8,Lib.indexAny l c<=(l.length:Int)
 | []=>by show (-1:Int)<=((0:Nat):Int);omega
 | x::l=>by
  have:=Zlm c l
  rw [Lib.indexAny,List.length_cons]
  split
  ·omega
  ·split<;>omega
theorem Z3s (s:ByteArray) (hs:s.size<=4000000000):∃ v,H7.f s (⟨#[32,9]⟩:ByteArray)=some v/\v<=(s.size:Int):=by
 have e:H7.f s (⟨#[32,9]⟩:ByteArray)=if s.size<=8 then Zso s K0 0 else if s.size<4294967281 then some (Lib.indexAny s.data.toList ws.data.toList) else none:=if_pos rfl;rw [e];split
 ·exact Zz3 s s.size K0 0 (by omega) (by unfold K0;omega)
 ·rw [if_pos (by omega)]
  exact ⟨_,rfl,Zlm _ _⟩
theorem Zod {α:Type} (f:α->Nat):∀ l m:List α,Zbr f (l++m)=Zbr f l+Zbr f m
 | [],m=>by simp [Zbr]
 | x::l,m=>by rw [List.cons_append,Zbr,Zbr,Zod f l m];omega
theorem Zef (l:List UInt8):(bA l).size=l.length:=by
 show (bA l).data.size=_;simp [bA]
theorem Zl1 (d:UInt8):∀ (l cur:List UInt8),Zbr (·.size) ((Zdf d cur l).map bA)=cur.length+l.length+1
 | [],cur=>by rw [Zdf,List.map_cons,List.map_nil,Zbr,Zbr,Zef];simp
 | c::l,cur=>by
  rw [Zdf]
  split
  ·rw [List.map_cons,Zbr,Zl1 d l []]
   simp only [Zef,List.length_nil,List.length_cons];omega
  ·rw [Zl1 d l];simp only [List.length_append,List.length_cons,List.length_nil];omega
section
variable {t:Option Tbs} {key:Int->Int} {pa:Int->List Int} {n:Nat} {pr:Int->Int->Int×Bool} {mk kp:Int->Bool} {jn:Int->Int} {sta:Int->Int} {mp:Int->List Int} {bd:Int->Int}
theorem Z0k (h:Tq t key pa n pr mk kp jn) (hs:Zg5 t sta kp) (hm:Zg4 t mp) (hd:Zg3 t bd) (l:List Int) (hl:l.length<=18874386):∃ r,Hw.f t l=some r/\r.1.size<=23328*l.length+24:=by
 obtain ⟨txt,T,hz,e1,_,_⟩:=Z1b h hs hm hd l hl;have hw:Ze9.f=some ((Ze9.f).getD default):=rfl;rw [Hw.f,hw,Option.bind_some,Zd8.f,e1,Option.bind_some];split
 ·exact ⟨_,rfl,Nat.zero_le _⟩
 ·exact ⟨_,rfl,hz⟩
theorem Zyq (h:Tq t key pa n pr mk kp jn) (hs:Zg5 t sta kp) (hm:Zg4 t mp) (hd:Zg3 t bd) (s:ByteArray) (hz:s.size<=18874386):∃ r,Zan.f t s=some r/\r.1.size<=23328*s.size+24:=by
 rw [Zan.f];split
 ·exact ⟨_,rfl,by show s.size<=_;omega⟩
 ·obtain ⟨l,e,hl⟩:=Zuq s (by omega)
  obtain ⟨r,e2,hr⟩:=Z0k h hs hm hd l (by omega);rw [e,Option.bind_some,e2,Option.bind_some];have:r.1.size<=23328*s.size+24:=by omega
  split
  ·exact ⟨_,rfl,this⟩
  ·exact ⟨_,rfl,this⟩
theorem Z2o (h:Tq t key pa n pr mk kp jn) (hs:Zg5 t sta kp) (hm:Zg4 t mp) (hd:Zg3 t bd) (s:ByteArray) (hz:s.size<=1048577):∃ r,Ug.f t s=some r/\r.1.size<=1099511627776:=by
 have hc:(Zgz s).1.size<=s.size:=by
  unfold Zgz;split
  ·simp
  ·exact Nat.le_refl _
 rw [Ug.f,Z0h,Option.bind_some,Zrz 46 _ (by omega),Option.bind_some];have hsum:=Zl1 46 (Zgz s).1.data.toList [];have hl0:(Zgz s).1.data.toList.length=(Zgz s).1.size:=rfl;rw [hl0,List.length_nil] at hsum;obtain ⟨ai,hai⟩:∃ ai,(Zdf 46 [] (Zgz s).1.data.toList).map bA=ai:=⟨_,rfl⟩;rw [hai] at hsum ⊢;have hlen:=Zhp (·.size) ai;have hb:ai.length<=Zv:=by unfold Zv;omega
 refine Qe (λk i (aa:List ByteArray)=>Ug.l1 k t (Zgz s) ai aa i) ai (λpre u aa o=>aa.length=pre.length->Zbr (·.size) aa<=23353*Zbr (·.size) pre->∃ r,o=some r/\r.1.size<=1099511627776) (λaa k h1 h2=>?_) (λpre y u aa k e ih h1 h2=>?_) [] K0 (ltK hb) rfl (Nat.zero_le _)
 ·have hj:=Zpt aa
  have hj2:Kz.f aa (⟨#[46]⟩:ByteArray)=some (Zcy aa ⟨#[46]⟩):=if_pos ⟨by omega,by omega⟩;show ∃ r,Ug.l1 (k+1) t (Zgz s) ai aa _=some r/\_;rw [Ug.l1,if_neg (by omega),hj2,Option.bind_some];have h1z:(⟨#[33]⟩:ByteArray).size=1:=rfl;split
  ·rw [if_pos (by rw [h1z];omega)]
   exact ⟨_,rfl,by rw [ByteArray.size_append,h1z];omega⟩
  ·exact ⟨_,rfl,by show (Zcy aa ⟨#[46]⟩).size<=_;omega⟩
 ·obtain ⟨m1,m2⟩:=mid e
  have hp:ai.length=pre.length+(u.length+1):=by rw [e];simp
  have hy:=Zka (·.size) ai y (by rw [e];simp);have hy2:y.size+1<=Zbr (·.size) ai:=hy;obtain ⟨r,e2,hr⟩:=Zyq h hs hm hd y (by omega);show ∃ r,Ug.l1 (k+1) t (Zgz s) ai aa _=some r/\_;rw [Ug.l1,if_pos m2.2,if_pos m2,m1,e2,Option.bind_some];split
  ·exact ⟨_,rfl,Nat.zero_le _⟩
  ·rw [if_pos (by unfold most;simp only [List.length_singleton];omega),nxt hb e]
   exact ih _ (by simp [h1]) (by rw [Zod,Zod];simp only [Zbr];omega)
def Zv8 (r:Option S11×Int×Int):Prop:=∀ s,r.1=some s->∀ p∈s.rules,p.1.size<=1099511627776
theorem Zto {P:ByteArray->Prop}:∀ (m:List (ByteArray×Bool)) (x:ByteArray) (v:Bool),(∀ p∈m,P p.1)->P x->∀ p∈Zbb m x v,P p.1
 | [],x,v,_,hx,p,hp=>by
  rw [Zbb,List.mem_singleton] at hp;rw [hp];exact hx
 | q::m,x,v,h,hx,p,hp=>by
  rw [Zbb] at hp
  split at hp
  ·rcases List.mem_cons.1 hp with e | e
   ·rw [e];exact hx
   ·exact h p (List.mem_cons_of_mem _ e)
  ·rcases List.mem_cons.1 hp with e | e
   ·rw [e];exact h q (List.mem_cons_self ..)
   ·exact Zto m x v (λp hp=>h p (List.mem_cons_of_mem _ hp)) hx p e
theorem Zvh (a b:ByteArray):∃ v,Uw.f a b=some v:=by
 rw [Uw.f,Yt.f];split
 ·rw [if_pos ⟨by omega,by omega,by omega⟩];exact ⟨_,rfl⟩
 ·exact ⟨_,rfl⟩
theorem Z2d (h:Tq t key pa n pr mk kp jn) (hs:Zg5 t sta kp) (hm:Zg4 t mp) (hd:Zg3 t bd) (s:ByteArray) (hz:s.size<=1048577):∃ r,Zu.f t s=some r/\Zv8 r:=by
 rw [Zu.f,Zrz 10 s (by omega),Option.bind_some];have hsum:=Zl1 10 s.data.toList [];have hl0:s.data.toList.length=s.size:=rfl;rw [hl0,List.length_nil] at hsum;obtain ⟨ah,hah⟩:∃ ah,(Zdf 10 [] s.data.toList).map bA=ah:=⟨_,rfl⟩;rw [hah] at hsum ⊢;have hlen:=Zhp (·.size) ah;have hb:ah.length<=Zv:=by unfold Zv;omega
 split
 ·exact ⟨_,rfl,λ_ h=>nomatch h⟩
 refine Qe (λk i (ab:List (ByteArray×Bool))=>Zu.l1 k t ah ab i) ah (λpre u ab o=>(∀ p∈ab,p.1.size<=1099511627776)->∃ r,o=some r/\Zv8 r) (λab k h1=>?_) (λpre y u ab k e ih h1=>?_) [] K0 (ltK hb) (λ_ h=>nomatch h)
 ·show ∃ r,Zu.l1 (k+1) t ah ab _=some r/\_
  rw [Zu.l1,if_neg (by omega)];exact ⟨_,rfl,λs e=>by cases e;exact h1⟩
 ·obtain ⟨m1,m2⟩:=mid e
  have hy2:y.size+1<=Zbr (·.size) ah:=Zka (·.size) ah y (by rw [e];simp);obtain ⟨v,e2,hv⟩:=Z3s y (by omega);have h2:∀ (c:ByteArray) (b:Bool),c.size<=1048577->∃ r,Zu.j2 (Zu.l1 k t ah) t ab (pre.length:Int) c b=some r/\Zv8 r:=λc b hc=>by
   rw [Zu.j2];split
   ·rw [Zu.j1,nxt hb e];exact ih _ h1
   ·obtain ⟨r,e3,hr⟩:=Z2o h hs hm hd c hc
    rw [e3,Option.bind_some];split
    ·exact ⟨_,rfl,λ_ h=>nomatch h⟩
    ·rw [Zu.j1,nxt hb e]
     exact ih _ (Zto (P:=λx=>x.size<=1099511627776) ab r.1 true h1 hr)
  have h3:∀ c:ByteArray,c.size<=1048577->∃ r,Zu.j3 (Zu.l1 k t ah) t ab (pre.length:Int) c=some r/\Zv8 r:=λc hc=>by
   rw [Zu.j3];split
   ·exact h2 c true hc
   ·obtain ⟨v,e3⟩:=Zvh c (⟨#[47,47]⟩:ByteArray)
    rw [e3,Option.bind_some];exact h2 c v hc
  show ∃ r,Zu.l1 (k+1) t ah ab _=some r/\_;rw [Zu.l1,if_pos m2.2,if_pos m2,m1,e2,Option.bind_some];split
  ·rw [if_pos ⟨by omega,by omega,hv⟩]
   exact h3 _ (by simp;omega)
  ·exact h3 y (by omega)
end
end
theorem Zuh:Zab.f=some true:=by kernel_rfl
def dmn (t:ByteArray):S10:=⟨1,t,0,0,0,0,0,0,0,0,0⟩
theorem Z1g (h:t≠⟨#[]⟩):J7.f (dmn t)=some true:=by
 simp [dmn,J7.f,J7.j3,J7.j2,h]
theorem Z6y (x:S10):∃ b,J7.f x=some b:=by
 unfold J7.f J7.j3 J7.j2 J7.j1;repeat' split
 all_goals exact ⟨_,rfl⟩
theorem Z4f (M:List (List UInt8)):Zcy (M.map bA) ⟨#[46]⟩=bA (Vf M):=by
 unfold Zcy;have e:(M.map bA).map (·.data.toList)=M:=by
  have h:((λx:ByteArray=>x.data.toList)∘bA)=id:=by funext x;exact Zeg x
  rw [List.map_map,h,List.map_id]
 rw [e];exact congrArg bA (Znb M)
theorem Z6z (h:M.length<=1099511627776) (hj:(Vf M).length<=1099511627776):Kz.f (M.map bA) (⟨#[46]⟩:ByteArray)=some (bA (Vf M)):=by
 rw [Kz.f,Z4f,if_pos ⟨by rw [List.length_map];omega,by rw [Zef];omega⟩]
theorem Zna (h0:0<i) (h:i<K.length):Vf K=Vf (K.take i)++46::Vf (K.drop i):=by
 have:=Zgo (K.take i) (K.drop i) (by intro e;have:=congrArg List.length e;rw [List.length_take,List.length_nil] at this;omega) (by intro e;have:=congrArg List.length e;rw [List.length_drop,List.length_nil] at this;omega);rwa [List.take_append_drop] at this
theorem Zth (i:Nat):(Vf (K.drop i)).length<=(Vf K).length:=by
 by_cases h:i<K.length
 ·by_cases h0:0<i
  ·rw [Zna h0 h];simp;omega
  ·rw [show i=0 by omega];exact Nat.le_refl _
 ·rw [List.drop_eq_nil_of_le (by omega)];exact Nat.zero_le _
theorem Z19 (K:List (List UInt8)) (i:Nat) (h:i<K.length):rd (K.map bA) (i:Int)=bA K[i]:=by
 simp [rd,h]
theorem Zmr:bA k=(⟨#[]⟩:ByteArray)↔k=[]:=by
 constructor
 ·intro h
  have:=congrArg (λz:ByteArray=>z.data.toList) h;simpa [Zeg] using this
 ·rintro rfl;rfl
theorem Zrf (K:List (List UInt8)) (hb:K.length<=1099511627776):Qd.l1 K0 (K.map bA) 0=some (if ∀ k∈K,k≠[] then (K.map bA,true) else ([],false)):=by
 have key:∀ (m k i:Nat),K.length=i+m->m<k->Qd.l1 k (K.map bA) (i:Int)=some (if ∀ x∈K.drop i,x≠[] then (K.map bA,true) else ([],false)):=by
  intro m
  induction m with
  | zero=>
   intro k i e hk;obtain ⟨k,rfl⟩:∃ k',k=k'+1:=⟨k-1,by omega⟩;rw [Qd.l1,List.length_map,if_neg (by omega),List.drop_eq_nil_of_le (by omega),if_pos (λ_ h=>nomatch h)]
  | succ m ih=>
   intro k i e hk;obtain ⟨k,rfl⟩:∃ k',k=k'+1:=⟨k-1,by omega⟩;have hi:i<K.length:=by omega
   rw [Qd.l1,List.length_map,if_pos (by omega),if_pos ⟨by omega,by omega⟩,Z19 K i hi,List.drop_eq_getElem_cons hi];by_cases c:K[i]=[]
   ·rw [if_pos (Zmr.2 c),if_neg (λh=>h _ (List.mem_cons_self ..) c)]
   ·rw [if_neg (λh=>c (Zmr.1 h)),w64 (by omega) (by omega),show ((i:Int)+1)=((i+1:Nat):Int) by omega,ih k (i+1) (by omega) (by omega)]
    congr 1;by_cases d:∀ x∈K.drop (i+1),x≠[]
    ·rw [if_pos d,if_pos (λx hx=>(List.mem_cons.1 hx).elim (λe=>e▸c) (d x))]
    ·rw [if_neg d,if_neg (λh=>d λx hx=>h x (List.mem_cons_of_mem _ hx))]
 have:=key K.length K0 0 (by omega) (by unfold K0;omega);simpa using this
theorem Zu8 (x:S10) (hz:x.text.size<=1048577):∃ r,Qd.f x=some r/\(r.2=true->J7.f x=some true/\∃ K:List (List UInt8),r.1=K.map bA/\K≠[]/\(∀ k∈K,k≠[]/\(46:UInt8)∉k)/\K.length<=1048578/\(x.text.data.toList=Vf K\/x.text.data.toList=Vf K++[46])):=by
 obtain ⟨b,hb⟩:=Z6y x;have hlen:=Zsz (d:=46) x.text.data.toList [];have hc:x.text.data.toList.count 46<=x.text.size:=List.count_le_length;have hj:=Zis x.text.data.toList [];have hd:=Zmz x.text.data.toList [] List.not_mem_nil;rw [List.nil_append] at hj;rw [Qd.f,Hh.f,hb,Option.bind_some];have hno:∃ r,(Option.bind (Hh.j1 x true) λae=>(if ae.2≠0 then (some (([]:List ByteArray),false)) else (if 1<(ae.1.length:Int) then (if (0:Int)<=i64.wrap ((ae.1.length:Int)-1)/\i64.wrap ((ae.1.length:Int)-1)<(ae.1.length:Int) then (Qd.j2 ae (decide ((rd ae.1 (i64.wrap ((ae.1.length:Int)-1)))=(⟨#[]⟩:ByteArray)))) else none) else (Qd.j2 ae false))))=some r/\r.2=false:=⟨_,rfl,rfl⟩
 cases b with
 | false=>obtain ⟨r,e,hr⟩:=hno;exact ⟨r,e,λh=>by rw [hr] at h;cases h⟩
 | true=>
 by_cases hk:x.kind≠1
 ·obtain ⟨r,e,hr⟩:=hno
  rw [if_neg (by decide),decide_eq_true hk];exact ⟨r,e,λh=>by rw [hr] at h;cases h⟩
 rw [if_neg (by decide),decide_eq_false hk,Hh.j1,if_neg (by decide),Zrz 46 _ (by omega),Option.bind_some,Option.bind_some,if_neg (λh=>h rfl)];obtain ⟨L,hL⟩:∃ L,Zdf 46 [] x.text.data.toList=L:=⟨_,rfl⟩;rw [hL] at hlen hj hd ⊢;have hfin:∀ K:List (List UInt8),K.length<=1048578->K≠[]->(∀ k∈K,(46:UInt8)∉k)->(x.text.data.toList=Vf K\/x.text.data.toList=Vf K++[46])->∃ r,Qd.l1 K0 (K.map bA) 0=some r/\(r.2=true->some true=some true/\∃ K:List (List UInt8),r.1=K.map bA/\K≠[]/\(∀ k∈K,k≠[]/\(46:UInt8)∉k)/\K.length<=1048578/\(x.text.data.toList=Vf K\/x.text.data.toList=Vf K++[46])):=λK h1 h2 h3 h4=>by
  refine ⟨_,Zrf K (by omega),λh=>?_⟩;by_cases c:∀ k∈K,k≠[]
  ·rw [if_pos c];exact ⟨rfl,K,rfl,h2,λk hk=>⟨c k hk,h3 k hk⟩,h1,h4⟩
  ·rw [if_neg c] at h;cases h
 by_cases h1:1<L.length
 ·have hi:L.length-1<L.length:=by omega
  have hw:i64.wrap (((L.map bA).length:Int)-1)=((L.length-1:Nat):Int):=by rw [List.length_map,w64 (by omega) (by omega)];omega
  rw [List.length_map] at hw;dsimp only;rw [List.length_map,hw,if_pos (by omega),if_pos ⟨by omega,by omega⟩,Z19 L _ hi,Qd.j2];dsimp only;rw [List.length_map,hw];by_cases c:L[L.length-1]=[]
  ·rw [if_pos (decide_eq_true (Zmr.2 c)),if_pos ⟨by omega,by omega,by omega⟩,Qd.j1]
   have e:sub (L.map bA) 0 ((L.length-1:Nat):Int)=(L.take (L.length-1)).map bA:=by simp [sub,List.map_take]
   have e2:L=L.take (L.length-1)++[[]]:=by
    conv=>lhs;rw [<- List.take_append_drop (L.length-1) L]
    rw [List.drop_eq_getElem_cons hi,c,List.drop_eq_nil_of_le (by omega)]
   have hne:L.take (L.length-1)≠[]:=by intro e;have:=congrArg List.length e;rw [List.length_take,List.length_nil] at this;omega
   rw [e];refine hfin _ (by simp;omega) hne (λk hk=>hd k (List.mem_of_mem_take hk)) (.inr ?_);rw [<- hj];conv=>lhs;rw [e2]
   rw [Zgo _ _ hne (by simp)];rfl
  ·rw [if_neg (by rw [decide_eq_true_eq];exact λh=>c (Zmr.1 h)),Qd.j1]
   exact hfin L (by omega) (by intro e;rw [e] at h1;simp at h1) hd (.inl hj.symm)
 ·rw [List.length_map,if_neg (by omega),Qd.j2,if_neg (by decide),Qd.j1]
  exact hfin L (by omega) (by intro e;rw [e] at hlen;simp at hlen) hd (.inl hj.symm)
theorem Z2n (hX:∀ s,X=some s->∀ p∈s.rules,p.1.size<=1099511627776) (hl:l.length<=1099511627776) (h0:1<=l.length):∃ r,H4.f X l=some r/\1<=r.1.length/\r.1.length<=l.length:=by
 cases X with
 | none=>exact ⟨_,rfl,Nat.le_refl _,h0⟩
 | some s=>
  have e:H4.f (some s) l=some ((kept l s.rules).getD Zi4):=if_pos ⟨hX s rfl,hl⟩;refine ⟨_,e,?_⟩
  cases hk:kept l s.rules with
  | none=>exact ⟨Nat.le_refl _,h0⟩
  | some b=>
   obtain ⟨_,h2⟩:=Zf6 (Zdz l) (CF l s.rules) none;have hm:=(h2 b hk).1.elim id (λh=>nomatch h);simp only [CF,List.mem_filter,List.mem_map] at hm;obtain ⟨⟨p,_,e2⟩,hf⟩:=hm;have hf2:=Zhf star hf;rw [List.length_reverse,List.length_reverse] at hf2;refine ⟨?_,hf2⟩;show 1<=b.1.length;rw [<- e2,Zuk,List.length_map,Zsz];omega
theorem Z44 (K:List (List UInt8)) (i:Nat):sub (K.map bA) (i:Int) ((K.map bA).length:Int)=(K.drop i).map bA:=by
 simp only [sub,Int.toNat_natCast];rw [List.take_of_length_le (Nat.le_refl _),List.map_drop]
theorem Z5c (hX:∀ s,X=some s->∀ p∈s.rules,p.1.size<=1099511627776) (x:S10) (hz:x.text.size<=1048577):∃ a c,Vx.f X x=some a/\Y3.f X x=some c/\
  ((c.2=false/\c.1=⟨#[]⟩)\/(c.2=true/\a.2=true/\J7.f x=some true/\∃ (K:List (List UInt8)) (i:Nat),i<K.length/\(∀ k∈K,k≠[]/\(46:UInt8)∉k)/\a.1=bA (Vf (K.drop (i+1)))/\c.1=bA (Vf (K.drop i))/\(x.text.data.toList=Vf K\/x.text.data.toList=Vf K++[46]))):=by
 obtain ⟨r,e,hr⟩:=Zu8 x hz
 cases h2:r.2 with
 | false=>
  have hs:X6.f X x=some (0,[],false):=by rw [X6.f,e,Option.bind_some,h2];rfl
  refine ⟨(⟨#[]⟩,false),(⟨#[]⟩,false),?_,?_,.inl ⟨rfl,rfl⟩⟩
  ·rw [Vx.f,hs];rfl
  ·rw [Y3.f,hs];rfl
 | true=>
  obtain ⟨his,K,hK,hne,hall,hlen,ht⟩:=hr h2;have hKl:r.1.length=K.length:=by rw [hK,List.length_map]
  have h1:1<=K.length:=by
   cases K with
   | nil=>exact absurd rfl hne
   | cons _ _=>simp
  obtain ⟨q,e2,q1,q2⟩:=Z2n hX (l:=r.1) (by omega) (by omega);have htl:(Vf K).length<=1048577:=by
   have:x.text.data.toList.length=x.text.size:=rfl
   rcases ht with h | h
   ·rw [h] at this;omega
   ·rw [h,List.length_append] at this;omega
  obtain ⟨n,hn,hnl⟩:∃ n:Nat,X6.f X x=some ((n:Int),r.1,true)/\n<=K.length:=by
   rw [X6.f,e,Option.bind_some,h2,if_neg (by decide),e2,Option.bind_some];split
   ·refine ⟨q.1.length-1,?_,by omega⟩
    rw [X6.j1,w64 (by omega) (by omega),show ((q.1.length:Int)-1)=((q.1.length-1:Nat):Int) by omega]
   ·exact ⟨q.1.length,by rw [X6.j1],by omega⟩
  have hjl:∀ i:Nat,Kz.f (sub r.1 (i:Int) (r.1.length:Int)) (⟨#[46]⟩:ByteArray)=some (bA (Vf (K.drop i))):=λi=>by
   rw [hK,Z44];have:=Zth (K:=K) i;exact Z6z (by rw [List.length_drop];omega) (by omega)
  have hS:Vx.f X x=some (bA (Vf (K.drop (K.length-n))),true):=by rw [Vx.f,hn,Option.bind_some,if_neg (by simp)];dsimp only;rw [hKl,w64 (by omega) (by omega),show ((K.length:Int)-(n:Int))=((K.length-n:Nat):Int) by omega,if_pos ⟨by omega,by omega,by omega⟩];have:=hjl (K.length-n);rw [hKl] at this;rw [this];rfl
  by_cases c:K.length<=n
  ·refine ⟨_,(⟨#[]⟩,false),hS,?_,.inl ⟨rfl,rfl⟩⟩
   rw [Y3.f,hn,Option.bind_some,if_neg (by simp)];dsimp only;rw [hKl,decide_eq_true (by omega)];rfl
  ·refine ⟨_,(bA (Vf (K.drop (K.length-n-1))),true),hS,?_,.inr ⟨rfl,rfl,his,K,K.length-n-1,by omega,hall,?_,rfl,ht⟩⟩
   ·rw [Y3.f,hn,Option.bind_some,if_neg (by simp)]
    dsimp only;rw [hKl,decide_eq_false (by omega),Y3.j1,if_neg (by decide)];dsimp only;rw [hKl,w64 (x:=(K.length:Int)-(n:Int)) (by omega) (by omega),w64 (by omega) (by omega),show ((K.length:Int)-(n:Int)-1)=((K.length-n-1:Nat):Int) by omega,if_pos ⟨by omega,by omega,by omega⟩];have:=hjl (K.length-n-1);rw [hKl] at this;rw [this];rfl
   ·rw [show K.length-n-1+1=K.length-n by omega]
theorem Zv0 (p q:List UInt8) (h:p.length+q.length<=1099511627776):Hs.f (bA (p++q)) (bA q)=some true:=by
 have hz:(bA (p++q)).size=p.length+q.length:=by rw [Zef,List.length_append]
 rw [Hs.f,Y6.f,hz,Zef,if_pos (by omega),w64 (by omega) (by omega),if_pos ⟨by omega,by omega,by omega⟩];have e:(((p.length+q.length:Nat):Int)-(q.length:Int)).toNat=p.length:=by omega
 rw [e,Int.toNat_natCast,show (bA (p++q)).extract p.length (p.length+q.length)=bA q by
  rw [Zm2 _ _ _ (by omega),Zeg];simp,decide_eq_true rfl]
 rfl
theorem Zz4 (p q:List UInt8):bA p++bA q=bA (p++q):=by
 apply Zz7;rw [Zeg];simp [Zeg]
theorem Zz8 (h:l≠[]):bA l≠⟨#[]⟩:=λe=>h (Zmr.1 e)
theorem Zzl (u c:List UInt8) (hc:c≠[]) (hl:u.length<=1099511627700) (h:u=c\/∃ p,u=p++46::c):Vl.f (dmn (bA u)) (dmn (bA c))=some true:=by
 have hu:u≠[]:=by
  rcases h with h | ⟨p,h⟩
  ·rw [h];exact hc
  ·rw [h];simp
 rw [Vl.f,Z1g (Zz8 hu),Option.bind_some,if_neg (by decide),Z1g (Zz8 hc),Option.bind_some,if_neg (by decide)];have k1:∀ t,(dmn t).kind=1:=λ_=>rfl;rw [k1,if_neg (λh=>h rfl),k1,decide_eq_false (λh=>h rfl),Vl.j2,if_neg (by decide)];have k2:∀ t,(dmn t).text=t:=λ_=>rfl;rw [k2,k2]
 rcases h with h | ⟨p,h⟩
 ·rw [h,if_pos rfl];rfl
 ·have hl2:u.length=p.length+(c.length+1):=by rw [h];simp
  rw [if_neg (λe=>by have:=congrArg (λz:ByteArray=>z.data.toList.length) e;simp only [Zeg] at this;omega)];have e46:(⟨#[46]⟩:ByteArray)=bA [46]:=rfl;rw [e46,Zz4,if_pos (by rw [Zef,Zef];simp;omega),h,List.singleton_append,Zv0 p (46::c) (by simp;omega)];rfl
theorem Z0c (s:ByteArray) (i:Int) (n:Nat) (e:i=(n:Int)) (h:n<s.data.toList.length):bt s i=((s.data.toList[n]'h).toNat:Int):=by
 subst e;have h2:n<s.data.size:=h;unfold bt;have h3:n<s.size:=h;simp [Array.getD,h2,h3]
theorem Z1j (s:ByteArray) (h:s.data.toList=p++[46]) (hz:s.size<=1048577):bt s (i64.wrap ((s.size:Int)-1))=46/\s.extract 0 (s.size-1)=bA p/\0<s.size:=by
 have hl:s.size=p.length+1:=by have:s.data.toList.length=s.size:=rfl;rw [<- this,h];simp
 rw [w64 (by omega) (by omega),show ((s.size:Int)-1)=((p.length:Nat):Int) by omega,Zm2 s 0 (s.size-1) (by omega),h];refine ⟨?_,by simp [hl],by omega⟩;have:s.data.toList[p.length]?=some 46:=by rw [h];simp
 obtain ⟨h1,h2⟩:=List.getElem?_eq_some_iff.1 this;rw [Z0c s _ p.length rfl h1,h2];rfl
theorem Zm8 (b:Bk) (hb:Few b) (s:ByteArray) (hs:s.size<=1048577) (x:S10) (hx:x.text.size<=1048577):Ye.f b s x=some true:=by
 obtain ⟨t,c,key,pa,n,pr,mk,kp,jn,sta,bd,mp,h1,h2,h3,h4,h5⟩:=Z23 b hb;obtain ⟨ab,e1,g1⟩:=Z2d h2 h3 h5 h4 s hs;obtain ⟨ac,aa,e2,e3,hcase⟩:=Z5c (X:=ab.1) (λs hs=>g1 s hs) x hx;rw [Ye.f,h1,Option.bind_some,e1,Option.bind_some,e2,Option.bind_some,e3,Option.bind_some,Zuh,Option.bind_some,if_neg (by decide),if_neg (by simp)]
 rcases hcase with ⟨k1,k2⟩ | ⟨k1,k2,k3,K,i,hi,hall,ka,kc,ht⟩
 ·rw [k1,if_neg (by decide),Ye.j5,if_neg (by decide),k1,if_pos (by decide),k2];rfl
 ·have hwz:x.text.data.toList.length=x.text.size:=rfl
  have hKl:(Vf K).length<=1048577:=by
   rcases ht with h | h
   ·rw [h] at hwz;omega
   ·rw [h,List.length_append] at hwz;omega
  have hcl:=Zth (K:=K) i;have hcne:Vf (K.drop i)≠[]:=Zti (by intro e;have:=congrArg List.length e;rw [List.length_drop,List.length_nil] at this;omega) (λk hk=>(hall k (List.mem_of_mem_drop hk)).1);have hsplit:K.drop i=K[i]::K.drop (i+1):=List.drop_eq_getElem_cons hi;have hKi:=(hall K[i] (List.getElem_mem hi)).1;have hU:∀ u:List UInt8,u.length<=1099511627700->(u=Vf (K.drop i)\/∃ p,u=p++46::Vf (K.drop i))->Vl.f (⟨1,bA u,0,0,0,0,0,0,0,0,0⟩:S10) (⟨1,aa.1,0,0,0,0,0,0,0,0,0⟩:S10)=some true:=λu hu h=>by rw [kc];exact Zzl u _ hcne hu h
  have hKu:Vf K=Vf (K.drop i)\/∃ p,Vf K=p++46::Vf (K.drop i):=by
   by_cases h0:0<i
   ·exact .inr ⟨_,Zna h0 hi⟩
   ·left;rw [show i=0 by omega];rfl
  have hcs:aa.1.size=(Vf (K.drop i)).length:=by rw [kc,Zef]
  have has:ac.1.size=(Vf (K.drop (i+1))).length:=by rw [ka,Zef]
  have hsame:Xi.f ab.1 x x=some true:=by rw [Xi.f,k3,Option.bind_some,if_neg (by decide),Option.bind_some,Xi.j2,if_neg (by decide),e3,Option.bind_some,Option.bind_some,k1,if_pos rfl,Xi.j1,if_pos rfl,decide_eq_true rfl]
  have j2:Ye.j2 x ab aa (bA (Vf K))=some true:=by
   rw [Ye.j2,hU _ (by omega) hKu,Option.bind_some,if_pos rfl,hsame,Option.bind_some,if_pos rfl];have e:(⟨#[120,46]⟩:ByteArray)++aa.1=bA (120::46::Vf (K.drop i)):=by rw [kc,show (⟨#[120,46]⟩:ByteArray)=bA [120,46] from rfl,Zz4];rfl
   rw [e,hU (120::46::Vf (K.drop i)) (by simp;omega) (.inr ⟨[120],rfl⟩)];rfl
  have j4:Ye.j4 x ab aa false=some true:=by
   have hne:0<(Vf K).length:=by
    rcases hKu with h | ⟨p,h⟩
    ·rw [h];exact List.length_pos_iff.2 hcne
    ·rw [h,List.length_append,List.length_cons];omega
   have hpos:0<x.text.size:=by
    rcases ht with h | h
    ·rw [h] at hwz;omega
    ·rw [h,List.length_append] at hwz;omega
   rw [Ye.j4,if_neg (by decide),if_pos (by omega),w64 (by omega) (by omega),if_pos ⟨by omega,by omega⟩,Ye.j3]
   rcases ht with h | h
   ·have hno:¬ bt x.text ((x.text.size:Int)-1)=46:=λhb=>by
     have hlt:x.text.size-1<x.text.data.toList.length:=by rw [hwz];omega
     have h46:x.text.data.toList[x.text.size-1]=46:=by rw [Z0c x.text ((x.text.size:Int)-1) (x.text.size-1) (by omega) hlt] at hb;exact UInt8.toNat_inj.1 (by show _=46;omega)
     have hp:Vf K=(Vf K).take (x.text.size-1)++[46]:=by
      conv=>lhs;rw [<- List.take_append_drop (x.text.size-1) (Vf K)]
      rw [<- h,List.drop_eq_getElem_cons hlt,h46,List.drop_eq_nil_of_le (by omega)]
     obtain ⟨k,_,hk,_⟩:=Zu6 (λz hz=>(hall z hz).2) hp;exact (hall [] (by rw [hk];simp)).1 rfl
    rw [decide_eq_false hno,if_neg (by decide),<- Zl0 x.text,h]
    exact j2
   ·obtain ⟨b1,b2,_⟩:=Z1j x.text h hx
    rw [w64 (by omega) (by omega)] at b1;rw [b1,decide_eq_true rfl,if_pos rfl,w64 (by omega) (by omega),if_pos ⟨by omega,by omega,by omega⟩,show ((x.text.size:Int)-1).toNat=x.text.size-1 by omega,Int.toNat_zero,b2];exact j2
  rw [k1,if_pos rfl,k2,Ye.j5,if_neg (by decide),k1,if_neg (by decide)];have h2z:(⟨#[120,46]⟩:ByteArray).size=2:=rfl;by_cases hl:K.drop (i+1)=[]
  ·have ez:ac.1=⟨#[]⟩:=by rw [ka,hl];rfl
   have ez2:ac.1.size=0:=by rw [ez];rfl
   have:0<aa.1.size:=by rw [hcs];exact List.length_pos_iff.2 hcne
   rw [if_pos (by omega),if_neg (by omega),if_neg (λh=>h ez)];exact j4
  ·have hj:Vf (K.drop i)=K[i]++46::Vf (K.drop (i+1)):=by rw [hsplit,Zd9 _ hl]
   have hane:Vf (K.drop (i+1))≠[]:=Zti hl (λk hk=>(hall k (List.mem_of_mem_drop hk)).1);have hsz:aa.1.size=K[i].length+(ac.1.size+1):=by rw [hcs,has,hj];simp
   have hext:aa.1.extract (K[i].length+1) aa.1.size=ac.1:=by
    rw [Zm2 _ _ _ (Nat.le_refl _),kc,Zeg,ka,Zef,hj];have ed:(K[i]++46::Vf (K.drop (i+1))).drop (K[i].length+1)=Vf (K.drop (i+1)):=by simp
    rw [ed,List.take_of_length_le (by simp only [List.length_append,List.length_cons];omega)]
   have hbt:bt aa.1 ((K[i].length:Nat):Int)=46:=by
    have:aa.1.data.toList[K[i].length]?=some 46:=by rw [kc,Zeg,hj];simp
    obtain ⟨q1,q2⟩:=List.getElem?_eq_some_iff.1 this;rw [Z0c aa.1 _ K[i].length rfl q1,q2];rfl
   rw [if_pos (by omega),if_neg (by omega),if_pos (by rw [ka];exact Zz8 hane),w64 (x:=(aa.1.size:Int)-(ac.1.size:Int)) (by omega) (by omega),if_pos ⟨by omega,by omega,by omega⟩,
    show ((aa.1.size:Int)-(ac.1.size:Int)).toNat=K[i].length+1 by omega,Int.toNat_natCast,hext,if_neg (λh=>h rfl),w64 (by omega) (by omega),show ((aa.1.size:Int)-(ac.1.size:Int)-1)=((K[i].length:Nat):Int) by omega,if_pos ⟨by omega,by omega⟩,hbt]
   exact j4
section
section
variable {H:Type} {enc:TypeId×Value->H} {P:Program} {W:World}
def U2 {α:Type} (enc:TypeId×Value->H) (P:Program) (W:World) (t:TypeId) (r:Rep α) (sz:α->Nat) (wf:α->Prop):Prop:=
 ∀ fuel cs d ps,DataW.trod enc P W 0 (λ_=>true) true fuel t cs=some (d,ps)->∃ x,r.R (seen W) cs x/\sz x<=Rows.uptoBulk d/\wf x
theorem Z6x (h:(Lit.int k n).wf=true):InK k n:=by
 simp only [Lit.wf,Bool.and_eq_true,decide_eq_true_eq] at h;cases k<;>simp only [InK]<;>simp [IntKind.min,IntKind.max,IntKind.signed,IntKind.bits] at h<;>omega
theorem U2.int {t:TypeId} (hu:P.underlying t=some (.int k)):U2 enc P W t (Rep.int k) (λ_=>1) (InK k):=by
 intro fuel cs d ps h;obtain ⟨n,rfl,he,hw⟩:=DataW.trod_int hu h;simp only [Prod.mk.injEq] at he;obtain ⟨rfl,rfl⟩:=he;exact ⟨n,rfl,by simp [Rows.uptoBulk],Z6x hw⟩
theorem U2.bool {t:TypeId} (hu:P.underlying t=some .bool):U2 enc P W t Rep.bool (λ_=>1) (λ_=>True):=by
 intro fuel cs d ps h;obtain ⟨b,rfl,he⟩:=DataW.trod_bool hu h;simp only [Prod.mk.injEq] at he;obtain ⟨rfl,rfl⟩:=he;exact ⟨b,rfl,by simp [Rows.uptoBulk],trivial⟩
theorem U2.str {t:TypeId} (hu:P.underlying t=some .string):U2 enc P W t Rep.str (λs=>s.size+1) (λ_=>True):=by
 intro fuel cs d ps h;obtain ⟨s,rfl,he,hw⟩:=DataW.trod_string hu h;simp only [Prod.mk.injEq] at he;obtain ⟨rfl,rfl⟩:=he;exact ⟨s,rfl,by simp [Rows.uptoBulk],trivial⟩
theorem Zj3 {α β:Type} {f:α->Option β}:∀ {l:List α} {ys:List β},l.mapM f=some ys->ys.length=l.length/\∀ (i:Nat) (x:α),l[i]?=some x->f x=ys[i]?
 | [],ys,h=>by simp at h;subst h;exact ⟨rfl,λi x hx=>by simp at hx⟩
 | a::l,ys,h=>by
  rw [List.mapM_cons] at h
  simp only [bind,Option.bind_eq_some_iff,pure,Option.some.injEq] at h
  obtain ⟨y,hy,ys',hys,rfl⟩:=h
  obtain ⟨h1,h2⟩:=Zj3 hys
  refine ⟨by simp [h1],λi x hx=>?_⟩
  cases i with
  | zero=>simp at hx;subst hx;simpa using hy
  | succ i=>simpa using h2 i x (by simpa using hx)
theorem Zst {w:World} {cs:List Value} (h:w.cells? 0 a n=some cs):cs.length=n/\∀ j u,cs[j]?=some u->w.cell? (a.add j)=some u:=by
 unfold World.cells? at h;simp only [Nat.zero_le,if_true] at h;obtain ⟨h1,h2⟩:=Zj3 h;refine ⟨by simpa using h1,λj u hu=>?_⟩;have hj:j<n:=by have:=(List.getElem?_eq_some_iff.1 hu).1;simp at h1;omega
 rw [h2 j j (by simp [hj]),hu]
theorem Zp8 {w:World} {v:Value} (h:w.cell? a=some v):a.spot=none:=by
 unfold World.cell? at h;split at h
 ·split at h
  ·cases h
  ·rename_i hs
   cases hsp:a.spot with
   | none=>rfl
   | some x=>rw [hsp] at hs;simp at hs
 ·cases h
def szL {α:Type} (sz:α->Nat):List α->Nat
 | []=>1
 | x::t=>sz x+szL sz t
theorem Zc9 {α:Type} {sz:α->Nat} (h1:∀ x,1<=sz x):∀ xs:List α,xs.length<szL sz xs
 | []=>by simp [szL]
 | x::t=>by have:=Zc9 h1 t;have:=h1 x;simp [szL];omega
theorem Zxl {α:Type} {sz:α->Nat} {x:α}:∀ {xs:List α},x∈xs->sz x<szL sz xs
 | y::t,h=>by
  rcases List.mem_cons.1 h with rfl | h
  ·have:∀ l:List α,1<=szL sz l:=λl=>by induction l with
    | nil=>simp [szL]
    | cons a l ih=>simp [szL];omega
   have:=this t
   simp [szL];omega
  ·have:=Zxl (sz:=sz) h
   simp [szL];omega
theorem U2.slice {α:Type} {t e sz' bytes:Nat} {r:Rep α} {sz:α->Nat} {wf:α->Prop} (he:Uh P t e sz' bytes) (hr:r.sz=sz') (h:U2 enc P W e r sz wf):U2 enc P W t (Rep.slice r) (szL sz) (λxs=>∀ x∈xs,wf x):=by
 intro fuel cs d ps h1;obtain ⟨inf,z,hi,_,hsz,_,_⟩:=he.info;have hc:P.cellsOf e=r.sz:=by simp [Program.cellsOf,hi,hsz,hr]
 have hpos:0<r.sz:=hr▸he.pos
 rcases DataW.trod_slice he.under h1 with ⟨rfl,hx⟩ | ⟨a,len,cap,elems,rest,n,_,rfl,hx,_,hl,hm,hlen,hel,_,_⟩
 ·simp only [Prod.mk.injEq] at hx
  obtain ⟨rfl,rfl⟩:=hx;exact ⟨[],⟨_,rfl,.inl ⟨rfl,none,0,rfl⟩⟩,by simp [szL,Rows.uptoBulk],λx hx=>by cases hx⟩
 ·simp only [Prod.mk.injEq] at hx
  obtain ⟨rfl,_⟩:=hx;rw [hc] at hel;have key:∀ (es:List (DataW H×List MemPlace)) (k:Nat),k+es.length=len->(∀ i y,es[i]?=some y->elems[k+i]?=some y)->
    ∃ xs:List α,xs.length=es.length/\szL sz xs<=Rows.uptoBulkAll (es.map (·.1))+1/\(∀ x∈xs,wf x)/\∀ i x,xs[i]?=some x->a.spot=none/\∃ c,r.R (seen W) c x/\∀ j u,c[j]?=some u->W.cell? ⟨a.block,a.off+(k+i)*r.sz+j,none⟩=some u:=by
   intro es
   induction es with
   | nil=>intro k _ _;exact ⟨[],rfl,by simp [szL,Rows.uptoBulkAll],λx hx=>(by cases hx),λi x hx=>(by simp at hx)⟩
   | cons y es ih=>
    intro k hk hes;have hy:=hes 0 y rfl;have h2:=hel k (by simp at hk;omega);rw [Nat.add_zero] at hy;rw [hy] at h2;obtain ⟨c,hc1,hc2⟩:=Option.bind_eq_some_iff.1 h2;obtain ⟨hc3,hc4⟩:=Zst hc1;obtain ⟨x,hx1,hx2,hx3⟩:=h n c y.1 y.2 hc2;obtain ⟨xs,e1,e2,e3,e4⟩:=ih (k+1) (by simp at hk;omega) (λi z hz=>by
     have:=hes (i+1) z (by simpa using hz);rwa [show k+1+i=k+(i+1) by omega])
    have hlc:c.length=r.sz:=r.len hx1;have hsp:a.spot=none:=by
     have h5:=hc4 0 c[0] (List.getElem?_eq_getElem (by omega));simp only [Addr.add,if_true] at h5;have h6:=Zp8 h5;by_cases hk0:k*r.sz=0
     ·simpa [hk0] using h6
     ·have h7:=hel 0 (by simp at hk;omega)
      have h8:elems[0]?≠none:=by rw [ne_eq,List.getElem?_eq_none_iff];simp at hk;omega
      obtain ⟨z0,hz0⟩:=Option.ne_none_iff_exists'.1 h8;rw [hz0] at h7;obtain ⟨c0,hd1,hd2⟩:=Option.bind_eq_some_iff.1 h7;obtain ⟨hd3,hd4⟩:=Zst hd1;have:=hd4 0 c0[0] (List.getElem?_eq_getElem (by omega));simp only [Nat.zero_mul,Addr.add,if_true] at this;exact Zp8 this
    have hadd:∀ m j,(a.add m).add j=⟨a.block,a.off+m+j,none⟩:=by
     intro m j
     cases a with
     | mk ab ao asp=>
      simp only at hsp;subst hsp;rw [Addr.add_lit,Addr.add_lit]
    refine ⟨x::xs,by simp [e1],?_,?_,?_⟩
    ·simp only [szL,List.map_cons,Rows.uptoBulkAll];omega
    ·intro z hz
     rcases List.mem_cons.1 hz with rfl | hz
     ·exact hx3
     ·exact e3 z hz
    ·intro i z hz
     cases i with
     | zero=>
      simp at hz;subst hz;refine ⟨hsp,c,hx1,λj u hu=>?_⟩;have:=hc4 j u hu;rw [hadd] at this;exact this
     | succ i=>
      obtain ⟨_,c',f1,f2⟩:=e4 i z (by simpa using hz);refine ⟨hsp,c',f1,λj u hu=>?_⟩;have:=f2 j u hu;rwa [show k+1+i=k+(i+1) by omega] at this
  obtain ⟨xs,e1,e2,e3,e4⟩:=key elems 0 (by omega) (λi y hy=>by rwa [Nat.zero_add]);refine ⟨xs,⟨_,rfl,?_⟩,by simp only [Rows.uptoBulk];omega,e3⟩
  cases hxs:xs with
  | nil=>
   subst hxs;have h0:len=0:=by simp at e1;omega
   subst h0;exact .inl ⟨rfl,_,_,rfl⟩
  | cons x0 xs0=>
   rw [<- hxs];have hsp:=(e4 0 x0 (by rw [hxs];rfl)).1;refine .inr ⟨a.block,a.off,cap,?_,by omega,λi x hx=>?_⟩
   ·rw [e1,hlen]
    cases a with
    | mk ab ao asp=>simp only at hsp;subst hsp;rfl
   ·obtain ⟨_,c,f1,f2⟩:=e4 i x hx
    exact ⟨c,f1,λj u hu=>by have:=f2 j u hu;rw [Nat.zero_add] at this;exact this⟩
end
end
end Go.Proofs.YtamfohpmmklhpaaGreatDoor
