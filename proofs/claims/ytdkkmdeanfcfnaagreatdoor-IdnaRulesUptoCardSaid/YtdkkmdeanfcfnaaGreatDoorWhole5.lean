/- Texts of this repo, merged for the claim: PureS, PureA, PureT, PureU, PureV, PureW, PureB, PureC, PureD, PureE, PureF, PureG, PureH, PureI, PureJ, PureK, PureX, PureCR, PureLI, PureLB, PureLC, PureLW, PureLD, PureLE, PureLF. -/
import Derived.Test.YtdkkmdeanfcfnaaGreatDoorWhole0
import Derived.Test.YtdkkmdeanfcfnaaGreatDoorWhole4
import Derived.Test.YtdkkmdeanfcfnaaGreatDoorWhole1
import Derived.Test.YtdkkmdeanfcfnaaGreatDoorWhole2
import Derived.Test.YtdkkmdeanfcfnaaGreatDoorWhole3
namespace Go.Proofs.YtdkkmdeanfcfnaaGreatDoor
section

section
variable {α:Type} (key:α->Int)
def Zkk (x:α):List α->List α
 | []=>[x]
 | y::t=>if key x<=key y then x::y::t else y::Zkk x t
def Vg:List α->List α
 | []=>[]
 | x::t=>Zkk key x (Vg t)
def Srt:List α->Prop
 | []=>True
 | x::t=>(∀ y∈t,key x<=key y)/\Srt t
def Feq (a b:List α):Prop:=∀ c,a.filter (λx=>decide (key x=c))=b.filter (λx=>decide (key x=c))
theorem Feq.refl (a:List α):Feq key a a:=λ_=>rfl
theorem Feq.symm {a b:List α} (h:Feq key a b):Feq key b a:=λc=>(h c).symm
theorem Feq.trans {a b c:List α} (h:Feq key a b) (g:Feq key b c):Feq key a c:=λd=>(h d).trans (g d)
theorem Feq.app {a a' b b':List α} (h:Feq key a a') (g:Feq key b b'):Feq key (a++b) (a'++b'):=λc=>by rw [List.filter_append,List.filter_append,h c,g c]
theorem Feq.mem {a b:List α} (h:Feq key a b) {x:α} (hx:x∈a):x∈b:=by
 have:x∈a.filter (λy=>decide (key y=key x)):=List.mem_filter.2 ⟨hx,by simp⟩;rw [h] at this;exact (List.mem_filter.1 this).1
theorem Zze {x y:α} {t:List α}:y∈Zkk key x t↔y=x\/y∈t:=by
 induction t with
 | nil=>simp [Zkk]
 | cons z t ih=>
  unfold Zkk;split
  ·simp
  ·simp only [List.mem_cons,ih]
   constructor
   ·rintro (h | h | h)<;>simp [h]
   ·rintro (h | h | h)<;>simp [h]
theorem Ztd {x:α}:∀ {t:List α},Srt key t->Srt key (Zkk key x t)
 | [],_=>⟨λy hy=>(by cases hy),trivial⟩
 | y::t,h=>by
  unfold Zkk
  split
  ·rename_i c
   refine ⟨λz hz=>?_,h⟩
   rcases List.mem_cons.1 hz with rfl | hz
   ·exact c
   ·exact Int.le_trans c (h.1 z hz)
  ·rename_i c
   refine ⟨λz hz=>?_,Ztd h.2⟩
   rcases (Zze key).1 hz with rfl | hz
   ·omega
   ·exact h.1 z hz
theorem Zso (x:α):∀ (t:List α),Feq key (Zkk key x t) (x::t)
 | [],_=>rfl
 | y::t,c=>by
  unfold Zkk
  split
  ·rfl
  ·rename_i h
   have ih:=Zso x t c
   simp only [List.filter_cons] at ih ⊢
   rw [ih]
   by_cases c1:key y=c
   ·have:¬ key x=c:=by omega
    simp [c1,this]
   ·simp [c1]
theorem Zbx:∀ (l:List α),Srt key (Vg key l)
 | []=>trivial
 | _::t=>Ztd key (Zbx t)
theorem Zba:∀ (l:List α),Feq key (Vg key l) l
 | [],_=>rfl
 | x::t,c=>by
  rw [Vg,Zso key x _ c,List.filter_cons,List.filter_cons,Zba t c]
theorem Zgx:∀ {a b:List α},Srt key a->Srt key b->Feq key a b->a=b
 | [],[],_,_,_=>rfl
 | [],y::b,_,_,h=>by have:=Feq.mem key (Feq.symm key h) (List.mem_cons_self (a:=y) (l:=b));cases this
 | x::a,[],_,_,h=>by have:=Feq.mem key h (List.mem_cons_self (a:=x) (l:=a));cases this
 | x::a,y::b,ha,hb,h=>by
  have h1:key y<=key x:=by
   rcases List.mem_cons.1 (Feq.mem key h (List.mem_cons_self (a:=x) (l:=a))) with e | e
   ·rw [e];exact Int.le_refl _
   ·exact hb.1 x e
  have h2:key x<=key y:=by
   rcases List.mem_cons.1 (Feq.mem key (Feq.symm key h) (List.mem_cons_self (a:=y) (l:=b))) with e | e
   ·rw [e];exact Int.le_refl _
   ·exact ha.1 y e
  have hk:key x=key y:=by omega
  have h3:=h (key x);rw [List.filter_cons,List.filter_cons,if_pos (by simp),if_pos (by simp [hk])] at h3;have hxy:x=y:=(List.cons.inj h3).1;subst hxy;rw [Zgx ha.2 hb.2 (λc=>by
   by_cases e:key x=c
   ·subst e;exact (List.cons.inj h3).2
   ·have:=h c
    rw [List.filter_cons,List.filter_cons,if_neg (by simp [e]),if_neg (by simp [e])] at this;exact this)]
theorem Zle {a b:List α} (h:Feq key a b):Vg key a=Vg key b:=
 Zgx key (Zbx key a) (Zbx key b) (Feq.trans key (Zba key a) (Feq.trans key h (Feq.symm key (Zba key b))))
theorem Zjo {a b:List α} (h:Srt key b) (g:Feq key a b):Vg key a=b:=
 Zgx key (Zbx key a) h (Feq.trans key (Zba key a) g)
theorem Zqo {l:List α} {x:α} (h:x∈Vg key l):x∈l:=Feq.mem key (Zba key l) h
theorem Zbc:∀ (l:List α),(Vg key l).length=l.length:=by
 have ins:∀ (x:α) (t:List α),(Zkk key x t).length=t.length+1:=by
  intro x t
  induction t with
  | nil=>rfl
  | cons y t ih=>unfold Zkk;split<;>simp [ih]
 intro l
 induction l with
 | nil=>rfl
 | cons x t ih=>rw [Vg,ins,ih];rfl
theorem Zkf {x y:List α} (h:∀ a∈x,∀ b∈y,key b<key a):Feq key (x++y) (y++x):=by
 intro c;rw [List.filter_append,List.filter_append];by_cases e:x.filter (λz=>decide (key z=c))=[]
 ·rw [e];simp
 ·obtain ⟨a,ha⟩:=List.exists_mem_of_ne_nil _ e
  have ha:=List.mem_filter.1 ha;have:y.filter (λz=>decide (key z=c))=[]:=by
   rw [List.filter_eq_nil_iff];intro b hb;have:=h a ha.1 b hb;have e2:key a=c:=by simpa using ha.2
   simp;omega
  rw [this];simp
theorem Zjp:∀ {a b:List α},Srt key a->Srt key b->(∀ x∈a,∀ y∈b,key x<=key y)->Srt key (a++b)
 | [],_,_,hb,_=>hb
 | x::a,b,ha,hb,h=>by
  refine ⟨λz hz=>?_,Zjp ha.2 hb λu hu v hv=>h u (List.mem_cons_of_mem _ hu) v hv⟩
  rcases List.mem_append.1 hz with hz | hz
  ·exact ha.1 z hz
  ·exact h x (List.mem_cons_self ..) z hz
theorem Hv {b:List α}:∀ {a:List α},Srt key (a++b)->Srt key a/\Srt key b/\∀ x∈a,∀ y∈b,key x<=key y
 | [],h=>⟨trivial,h,λx hx=>(by cases hx)⟩
 | x::a,h=>by
  obtain ⟨h1,h2,h3⟩:=Hv h.2
  refine ⟨⟨λy hy=>h.1 y (List.mem_append_left _ hy),h1⟩,h2,λu hu v hv=>?_⟩
  rcases List.mem_cons.1 hu with rfl | hu
  ·exact h.1 v (List.mem_append_right _ hv)
  ·exact h3 u hu v hv

def Zij (acc:List α):List α->List α
 | []=>Vg key acc
 | x::t=>if key x=0 then Vg key acc++x::Zij [] t else Zij (acc++[x]) t
def Zik (l:List α):List α:=Zij key [] l
theorem Zk2:∀ (s:List α) (acc l:List α),(∀ x∈s,key x≠0)->Zij key acc (s++l)=Zij key (acc++s) l
 | [],acc,l,_=>by simp
 | x::s,acc,l,h=>by
  rw [List.cons_append,Zij,if_neg (h x (List.mem_cons_self ..)),Zk2 s _ l λy hy=>h y (List.mem_cons_of_mem _ hy)]
  simp
theorem Zk1:∀ (l acc:List α),(Zij key acc l).length=acc.length+l.length
 | [],acc=>by simp [Zij,Zbc]
 | x::t,acc=>by
  unfold Zij
  split
  ·simp [Zbc,Zk1 t]
  ·simp [Zk1 t];omega
theorem Zzg (l:List α):(Zik key l).length=l.length:=by simp [Zik,Zk1]
theorem Zp9 {a x y b:List α} (h1:Srt key (a++x)) (h2:Srt key (y++b)) (h3:∀ u∈x,∀ v∈y,key v<key u) (h4:∀ u∈a,∀ v∈b,key u<=key v):
  Vg key ((a++x)++(y++b))=Vg key (a++y)++Vg key (x++b):=by
 obtain ⟨_,_,h1c⟩:=Hv key h1;obtain ⟨_,_,h2c⟩:=Hv key h2;refine Zjo key (Zjp key (Zbx key _) (Zbx key _) λu hu v hv=>?_) ?_
 ·rcases List.mem_append.1 (Zqo key hu) with hu | hu<;>rcases List.mem_append.1 (Zqo key hv) with hv | hv
  ·exact h1c u hu v hv
  ·exact h4 u hu v hv
  ·exact Int.le_of_lt (h3 v hv u hu)
  ·exact h2c u hu v hv
 ·refine Feq.trans key ?_ (Feq.app key (Feq.symm key (Zba key (a++y))) (Feq.symm key (Zba key (x++b))))
  have:=Feq.app key (Feq.app key (Feq.refl key a) (Zkf key h3)) (Feq.refl key b);simpa [List.append_assoc] using this
theorem Zp8 {u:α} {y b:List α} (h2:Srt key (y++b)) (h3:∀ v∈y,key v<key u) (h4:∀ v∈b,key u<=key v):Vg key (u::(y++b))=y++u::b:=by
 obtain ⟨hy,hb,hc⟩:=Hv key h2;refine Zjo key (Zjp key hy ⟨h4,hb⟩ λv hv w hw=>?_) ?_
 ·rcases List.mem_cons.1 hw with rfl | hw
  ·exact Int.le_of_lt (h3 v hv)
  ·exact hc v hv w hw
 ·have:=Feq.app key (Zkf key (x:=[u]) (y:=y) λa ha v hv=>by rw [List.mem_singleton.1 ha];exact h3 v hv) (Feq.refl key b)
  simpa using this
theorem Zkq {v:α} {a x:List α} (h1:Srt key (a++x)) (h3:∀ u∈x,key v<key u) (h4:∀ u∈a,key u<=key v):Vg key (a++x++[v])=a++v::x:=by
 obtain ⟨ha,hx,hc⟩:=Hv key h1;refine Zjo key (Zjp key ha ⟨λu hu=>Int.le_of_lt (h3 u hu),hx⟩ λu hu w hw=>?_) ?_
 ·rcases List.mem_cons.1 hw with rfl | hw
  ·exact h4 u hu
  ·exact hc u hu w hw
 ·have:=Feq.app key (Feq.refl key a) (Zkf key (x:=x) (y:=[v]) λu hu w hw=>by rw [List.mem_singleton.1 hw];exact h3 u hu)
  simpa [List.append_assoc] using this
theorem Zr6 (a b:List α):Vg key (Vg key a++b)=Vg key (a++b):=Zle key (Feq.app key (Zba key a) (Feq.refl key b))
theorem Zf1 {a:List α} (h:Srt key a):Vg key a=a:=Zjo key h (Feq.refl key a)
end
end
section
open Go.IntKind (i8 i16 i32 i64 u8 u16 u32 u64)
open Go.RowKit

theorem w32 {x:Int} (h0:-2147483648<=x) (h1:x<=2147483647):i32.wrap x=x:=by rw [IntKind.wrap_i32];omega
theorem w64 {x:Int} (h0:-9223372036854775808<=x) (h1:x<=9223372036854775807):i64.wrap x=x:=by rw [IntKind.wrap_i64];omega
theorem w16 {x:Int} (h0:0<=x) (h1:x<65536):u16.wrap x=x:=by rw [IntKind.wrap_u16];omega

def Z2:Nat:=1099511627776
theorem mid {α:Type} [Inhabited α] {xs pre t:List α} {x:α} (e:xs=pre++x::t):rd xs (pre.length:Int)=x/\((0:Int)<=(pre.length:Int)/\(pre.length:Int)<(xs.length:Int)):=by
 subst e;refine ⟨by simp [rd],by omega,by simp;omega⟩
theorem nxt {α:Type} {xs pre t:List α} {x:α} (hx:xs.length<=Z2) (e:xs=pre++x::t):i64.wrap ((pre.length:Int)+1)=(pre.length:Int)+1:=by
 have:xs.length=pre.length+(t.length+1):=by rw [e];simp
 unfold Z2 at hx;exact w64 (by omega) (by omega)
theorem Qf {α σ β:Type} (L:Nat->Int->σ->Option β) (xs:List α) (Spec:List α->List α->σ->Option β->Prop)
  (hnil:∀ s k,Spec xs [] s (L (k+1) (xs.length:Int) s))
  (hcons:∀ pre x t s k,xs=pre++x::t->(∀ s',Spec (pre++[x]) t s' (L k ((pre.length:Int)+1) s'))->Spec pre (x::t) s (L (k+1) (pre.length:Int) s)):
  ∀ s k,xs.length<k->Spec [] xs s (L k 0 s):=by
 have key:∀ t pre s k,xs=pre++t->t.length<k->Spec pre t s (L k (pre.length:Int) s):=by
  intro t
  induction t with
  | nil=>
   intro pre s k e hk;obtain ⟨k,rfl⟩:∃ j,k=j+1:=⟨k-1,by simp at hk;omega⟩;have:xs=pre:=by rw [e];simp
   subst this;exact hnil s k
  | cons x t ih=>
   intro pre s k e hk;obtain ⟨k,rfl⟩:∃ j,k=j+1:=⟨k-1,by simp at hk;omega⟩;refine hcons pre x t s k e (λs'=>?_);have:=ih (pre++[x]) s' k (by rw [e];simp) (by simp at hk;omega);simpa using this
 intro s k hk;have:=key xs [] s k rfl hk;simpa using this
theorem ltK {n:Nat} (h:n<=Z2):n<K0:=by unfold Z2 at h;unfold K0;omega

def Zaw (r:Int) (b:Bool):Prop:=(b=true/\r=-1)\/(b=false/\0<=r)
theorem Zaw.val {r:Int} {b:Bool} (h:Zaw r b):(decide (0<=r))=!b:=by
 rcases h with ⟨rfl,rfl⟩ | ⟨rfl,h⟩<;>simp [*]

def Vj {α:Type} (lo hi:α->Int) (may:α->Bool):Int->List α->Bool
 | _,[]=>true
 | last,x::t=>decide (last<lo x)&&decide (lo x<=hi x)&&decide (hi x<=1114111)&&may x&&Vj lo hi may (hi x) t
theorem Qz {α:Type} {lo hi:α->Int} {may:α->Bool} {last:Int} {x:α} {t:List α} (h:lo x<=last\/hi x<lo x\/1114111<hi x\/may x=false):Vj lo hi may last (x::t)=false:=by
 rcases h with h | h | h | h
 ·simp [Vj,show ¬ last<lo x by omega]
 ·simp [Vj,show ¬ lo x<=hi x by omega]
 ·simp [Vj,show ¬ hi x<=1114111 by omega]
 ·simp [Vj,h]
theorem Za6 {α:Type} {lo hi:α->Int} {may:α->Bool} {last:Int} {x:α} {t:List α} (h1:¬ lo x<=last) (h2:¬ hi x<lo x) (h3:¬ 1114111<hi x) (h4:may x=true):Vj lo hi may last (x::t)=Vj lo hi may (hi x) t:=by
 simp [Vj,h4,show last<lo x by omega,show lo x<=hi x by omega,show hi x<=1114111 by omega]

def H0 (c:Int):Bool:=decide (97<=c/\c<=122)||decide (65<=c/\c<=90)
theorem Zul:∀ n:Fin 256,(decide (97<=bOr .u8 (n.val:Int) 32)&&decide (bOr .u8 (n.val:Int) 32<=122))=H0 (n.val:Int):=by decide +kernel
def Zkt (s:ByteArray):Bool:=decide (1<=s.size)&&decide (s.size<=32)&&(Vh s).all H0
theorem Zhb {s:ByteArray} {c:Int} (h:c∈Vh s):∃ n:Fin 256,c=(n.val:Int):=by
 simp only [Vh,List.mem_map] at h;obtain ⟨b,_,rfl⟩:=h;exact ⟨⟨b.toNat,b.toNat_lt⟩,rfl⟩
theorem Zj9 (s:ByteArray) (i:Int):bt s i=rd (Vh s) i:=by
 simp only [bt,rd,Vh,List.getD_eq_getElem?_getD,List.getElem?_map,Array.getElem?_toList,Array.getD_eq_getD_getElem?];cases s.data[i.toNat]?<;>rfl
theorem Zp5 (s:ByteArray) (hs:s.size<=32):Qe.l1 K0 s 0=some ((Vh s).all H0):=by
 have hl:(Vh s).length<=Z2:=by rw [K2];unfold Z2;omega
 refine Qf (λk i (_:Unit)=>Qe.l1 k s i) (Vh s) (λpre t _ o=>o=some (t.all H0)) ?_ ?_ () K0 (ltK hl)
 ·intro _ k
  simp only [Qe.l1,if_neg (show ¬ ((Vh s).length:Int)<((Vh s).length:Int) by omega),List.all_nil]
 ·intro pre x t _ k e ih
  obtain ⟨h1,h2⟩:=mid e;obtain ⟨n,hn⟩:=Zhb (s:=s) (c:=x) (by rw [e];simp);have hx:=Zul n;rw [<- hn] at hx;simp only [Qe.l1,if_pos h2.2,if_pos h2,h1,Qe.j1,nxt hl e,List.all_cons];by_cases c1:bOr .u8 x 32<97
  ·have:H0 x=false:=by rw [<- hx];simp [show ¬ 97<=bOr .u8 x 32 by omega]
   simp [c1,this]
  ·by_cases c2:122<bOr .u8 x 32
   ·have:H0 x=false:=by rw [<- hx];simp [show ¬ bOr .u8 x 32<=122 by omega]
    simp [c1,c2,this]
   ·have:H0 x=true:=by rw [<- hx];simp [show 97<=bOr .u8 x 32 by omega,show bOr .u8 x 32<=122 by omega]
    simp only [if_neg c1,c2,decide_false,Bool.false_eq_true,if_false,this,Bool.true_and];exact ih ()
theorem Zug (s:ByteArray):Qe.f s=some (Zkt s):=by
 unfold Qe.f Qe.j2 Zkt;by_cases h1:(s.size:Int)<1
 ·rw [if_pos h1,if_pos rfl];simp [show ¬ 1<=s.size by omega]
 ·by_cases h2:(32:Int)<s.size
  ·rw [if_neg h1,if_pos (by simpa using h2)];simp [show ¬ s.size<=32 by omega]
  ·rw [if_neg h1,if_neg (by simpa using h2),Zp5 s (by omega)]
   simp [show 1<=s.size by omega,show s.size<=32 by omega]
theorem Zro (s:ByteArray) (hs:s.size<=32):Xx.l1 K0 s 0=some ((Vh s).all H0):=by
 have hl:(Vh s).length<=Z2:=by rw [K2];unfold Z2;omega
 refine Qf (λk i (_:Unit)=>Xx.l1 k s i) (Vh s) (λpre t _ o=>o=some (t.all H0)) ?_ ?_ () K0 (ltK hl)
 ·intro _ k
  simp only [Xx.l1,K2,if_neg (show ¬ (s.size:Int)<(s.size:Int) by omega),List.all_nil]
 ·intro pre x t _ k e ih
  obtain ⟨h1,h2⟩:=mid e;have h3:=h2;rw [K2] at h3;simp only [Xx.l1,if_pos h3.2,if_pos h3,Zj9,h1,Xx.j1,nxt hl e,List.all_cons];have ih:=ih ();by_cases c1:97<=x
  ·by_cases c2:x<=122
   ·have:H0 x=true:=by simp [H0,c1,c2]
    simpa [c1,c2,this] using ih
   ·by_cases c3:65<=x
    ·have:H0 x=false:=by simp [H0];omega
     simp [c1,c2,c3,this,show ¬ x<=90 by omega]
    ·omega
  ·by_cases c3:65<=x
   ·by_cases c4:x<=90
    ·have:H0 x=true:=by simp [H0,c3,c4]
     simpa [c1,c3,c4,this] using ih
    ·have:H0 x=false:=by simp [H0];omega
     simp [c1,c3,c4,this]
   ·have:H0 x=false:=by simp [H0];omega
    simp [c1,c3,this]
theorem Zw6 (s:ByteArray):Xx.f s=some (Zkt s):=by
 unfold Xx.f Xx.j2 Zkt;by_cases h1:(s.size:Int)<1
 ·rw [if_pos h1,if_pos rfl];simp [show ¬ 1<=s.size by omega]
 ·by_cases h2:(32:Int)<s.size
  ·rw [if_neg h1,if_pos (by simpa using h2)];simp [show ¬ s.size<=32 by omega]
  ·rw [if_neg h1,if_neg (by simpa using h2),Zro s (by omega)]
   simp [show 1<=s.size by omega,show s.size<=32 by omega]

def Ze3:List ByteArray->ByteArray->Bool
 | [],_=>false
 | x::t,y=>decide (x=y)||Ze3 t y
theorem Zjq {α:Type} {xs pre t:List α} (e:xs=pre++t):sub xs 0 (pre.length:Int)=pre:=by
 subst e;simp [sub]
theorem Zwq (l:List ByteArray) (hl:l.length<=Z2) (y:ByteArray):∃ r,Xe.f l y=some r/\Zaw r (!Ze3 l y):=by
 refine Qf (λk i (_:Unit)=>Xe.l1 k l y i) l (λpre t _ o=>∃ r,o=some r/\Zaw r (!Ze3 t y)) ?_ ?_ () K0 (ltK hl)
 ·intro _ k
  exact ⟨-1,by simp only [Xe.l1,if_neg (show ¬ (l.length:Int)<(l.length:Int) by omega)],.inl ⟨rfl,rfl⟩⟩
 ·intro pre x t _ k e ih
  obtain ⟨h1,h2⟩:=mid e;simp only [Xe.l1,if_pos h2.2,if_pos h2,h1,nxt hl e];by_cases c:y=x
  ·exact ⟨pre.length,by rw [if_pos c],.inr ⟨by simp [Ze3,c],by omega⟩⟩
  ·rw [if_neg c]
   obtain ⟨r,h3,h4⟩:=ih ();refine ⟨r,h3,?_⟩;have:Ze3 (x::t) y=Ze3 t y:=by simp [Ze3,Ne.symm c]
   rwa [this]
theorem Zpq (l:List ByteArray) (hl:l.length<=Z2) (y:ByteArray):Kw.f l y=some (Ze3 l y):=by
 obtain ⟨r,h1,h2⟩:=Zwq l hl y;simp only [Kw.f,h1,Option.bind_some,h2.val,Bool.not_not]
def Zf0:List ByteArray->List ByteArray->Bool
 | _,[]=>true
 | pre,s::t=>Zkt s&&!Ze3 pre s&&Zf0 (pre++[s]) t
def Zku (l:List ByteArray):Bool:=decide (l.length<=64)&&Zf0 [] l
theorem Zw7 (l:List ByteArray):∃ r,J5.f l=some r/\Zaw r (Zku l):=by
 unfold J5.f Zku;by_cases h:(64:Int)<l.length
 ·exact ⟨64,by rw [if_pos h],.inr ⟨by simp [show ¬ l.length<=64 by omega],by decide⟩⟩
 ·rw [if_neg h]
  have hl:l.length<=Z2:=by unfold Z2;omega
  simp only [show l.length<=64 by omega,decide_true,Bool.true_and];refine Qf (λk i (_:Unit)=>J5.l1 k l i) l (λpre t _ o=>∃ r,o=some r/\Zaw r (Zf0 pre t)) ?_ ?_ () K0 (ltK hl)
  ·intro _ k
   exact ⟨-1,by simp only [J5.l1,if_neg (show ¬ (l.length:Int)<(l.length:Int) by omega)],.inl ⟨rfl,rfl⟩⟩
  ·intro pre x t _ k e ih
   obtain ⟨h1,h2⟩:=mid e;have hp:pre.length<=Z2:=by rw [e] at hl;simp at hl;omega
   simp only [J5.l1,if_pos h2.2,if_pos h2,h1,Zug,Option.bind_some,J5.j1,nxt hl e,Zf0]
   cases c:Zkt x with
   | false=>exact ⟨pre.length,by simp,.inr ⟨by simp,by omega⟩⟩
   | true=>
    simp only [Bool.not_true,Bool.false_eq_true,if_false];rw [if_pos ⟨by decide,h2.1,by omega⟩,Zjq e,Zpq pre hp,Option.bind_some]
    cases c2:Ze3 pre x with
    | true=>exact ⟨pre.length,by simp,.inr ⟨by simp,by omega⟩⟩
    | false=>simpa using ih ()
theorem Zon (l pre t:List ByteArray) (x:ByteArray) (hl:l.length<=Z2) (e:l=pre++x::t) (go:Int->Option Int):
  Qu.l1 go K0 l (pre.length:Int) 0=if Ze3 pre x=true then some (pre.length:Int) else go (i64.wrap ((pre.length:Int)+1)):=by
 have hp:pre.length<=Z2:=by rw [e] at hl;simp at hl;omega
 obtain ⟨h1,h2⟩:=mid e;refine Qf (λk i (_:Unit)=>Qu.l1 go k l (pre.length:Int) i) pre (λ_ u _ o=>o=if Ze3 u x=true then some (pre.length:Int) else go (i64.wrap ((pre.length:Int)+1))) ?_ ?_ () K0 (ltK hp)
 ·intro _ k
  simp only [Qu.l1,Zjq e,if_neg (show ¬ (pre.length:Int)<(pre.length:Int) by omega)];simp [Ze3]
 ·intro p y u _ k e2 ih
  obtain ⟨h3,h4⟩:=mid e2;simp only [Qu.l1,Zjq e,if_pos h4.2,if_pos h4,h3,h1,nxt hp e2];by_cases c:y=x
  ·simp [Ze3,c]
  ·rw [if_neg c]
   have:Ze3 (y::u) x=Ze3 u x:=by simp [Ze3,c]
   rw [this];exact ih ()
theorem Zom (l:List ByteArray):∃ r,Qu.f l=some r/\Zaw r (Zku l):=by
 unfold Qu.f Zku;by_cases h:(64:Int)<l.length
 ·exact ⟨64,by rw [if_pos h],.inr ⟨by simp [show ¬ l.length<=64 by omega],by decide⟩⟩
 ·rw [if_neg h]
  have hl:l.length<=Z2:=by unfold Z2;omega
  simp only [show l.length<=64 by omega,decide_true,Bool.true_and];refine Qf (λk i (_:Unit)=>Qu.l2 k l i) l (λpre t _ o=>∃ r,o=some r/\Zaw r (Zf0 pre t)) ?_ ?_ () K0 (ltK hl)
  ·intro _ k
   exact ⟨-1,by simp only [Qu.l2,if_neg (show ¬ (l.length:Int)<(l.length:Int) by omega)],.inl ⟨rfl,rfl⟩⟩
  ·intro pre x t _ k e ih
   obtain ⟨h1,h2⟩:=mid e;simp only [Qu.l2,if_pos h2.2,if_pos h2,h1,Zw6,Option.bind_some,Zf0]
   cases c:Zkt x with
   | false=>exact ⟨pre.length,by simp,.inr ⟨by simp,by omega⟩⟩
   | true=>
    simp only [Bool.not_true,Bool.false_eq_true,if_false];rw [if_pos ⟨by decide,h2.1,by omega⟩,Zon l pre t x hl e,nxt hl e]
    cases c2:Ze3 pre x with
    | true=>exact ⟨pre.length,by simp,.inr ⟨by simp,by omega⟩⟩
    | false=>simpa using ih ()
end
section
open Go.IntKind (i8 i16 i32 i64 u8 u16 u32 u64)
open Go.RowKit

theorem Zc3 {A B:List Int} {x i:Int} (h:i=(A.length:Int)):rd (A++x::B) i=x:=by subst h;simp [rd]
theorem Zrs {A B:List Int} {u v i:Int} (h:i=(A.length:Int)+1):rd (A++u::v::B) i=v:=by
 have:=Zc3 (A:=A++[u]) (B:=B) (x:=v) (i:=i) (by simp;omega);simpa using this
theorem Z1l {A C D:List Int} {x y i:Int} (h:i=(A.length:Int)+1+C.length):rd (A++x::(C++y::D)) i=y:=by
 have:=Zc3 (A:=A++x::C) (B:=D) (x:=y) (i:=i) (by simp;omega);simpa using this
theorem Ziq {A B:List Int} {x y:Int} {n:Nat} (h:n=A.length):(A++x::B).set n y=A++y::B:=by
 subst h;rw [List.set_append_right _ _ (Nat.le_refl _)];simp
theorem Zor {A B:List Int} {u v y:Int} {n:Nat} (h:n=A.length+1):(A++u::v::B).set n y=A++u::y::B:=by
 have:=Ziq (A:=A++[u]) (B:=B) (x:=v) (y:=y) (n:=n) (by simp [h]);simpa using this
theorem Zzr {A C D:List Int} {x y z:Int} {n:Nat} (h:n=A.length+1+C.length):(A++x::(C++y::D)).set n z=A++x::(C++z::D):=by
 have:=Ziq (A:=A++x::C) (B:=D) (x:=y) (y:=z) (n:=n) (by simp [h];omega);simpa using this
theorem Zwn {x:Int} (h0:0<=x) (h1:x<4611686018427387904):i64.wrap ((u64.wrap (i64.wrap x)).fdiv (2^(min (1:Int).toNat u64.bits)))=x/2:=by
 rw [w64 (x:=x) (by omega) (by omega),show u64.wrap x=x from by rw [IntKind.wrap_u64];omega];have:(2:Int)^(min (1:Int).toNat u64.bits)=2:=by decide
 rw [this,Int.fdiv_eq_ediv_of_nonneg _ (by omega)];exact w64 (by omega) (by omega)

def cI (a b:Int):Int:=if a<b then -1 else if b<a then 1 else 0
theorem Ziy {a b:Int}:cI a b<0↔a<b:=by
 unfold cI;by_cases h:a<b
 ·rw [if_pos h];omega
 ·rw [if_neg h];by_cases h2:b<a
  ·rw [if_pos h2];omega
  ·rw [if_neg h2];omega
def Cmp (t:Option Tbs) (key:Int->Int):Prop:=∀ a b,Kz.f a b t=some (cI (key a) (key b))

section
variable {t:Option Tbs} {key:Int->Int}
theorem Zue (hc:Cmp t key) (go:List Int->Int->Option (List Int)) (P:List Int) (v i:Int):∀ (n:Nat) (S rest:List Int) (k:Nat),S.length=n->n<k->P.length+n+1+rest.length<=Z2->
  ∃ S1 S2,S=S1++S2/\(∀ u∈S2,key v<key u)/\(∀ S' u,S1=S'++[u]->¬ key v<key u)/\
   Zf.l1 go k t (P.length:Int) i (P++(S++v::rest)) ((P.length:Int)+n)=go (P++(S1++v::(S2++rest))) (i64.wrap (i+1)):=by
 intro n
 induction n with
 | zero=>
  intro S rest k hS hk hb;obtain rfl:=List.eq_nil_of_length_eq_zero hS;obtain ⟨k,rfl⟩:∃ j,k=j+1:=⟨k-1,by omega⟩;refine ⟨[],[],rfl,λu hu=>(by cases hu),λS' u h=>(by simp at h),?_⟩;simp only [Zf.l1,if_neg (show ¬ (P.length:Int)<(P.length:Int)+((0:Nat):Int) by omega),Zf.j1,Bool.false_eq_true,if_false,List.nil_append]
 | succ n ih=>
  intro S rest k hS hk hb;obtain ⟨k,rfl⟩:∃ j,k=j+1:=⟨k-1,by omega⟩
  rcases List.eq_nil_or_concat S with rfl | ⟨S',u,rfl⟩
  ·simp at hS
  have hS':S'.length=n:=by simpa using hS
  have hb':=hb;unfold Z2 at hb';have e:P++((S'++[u])++v::rest)=(P++S')++u::v::rest:=by simp
  have hl:((P++S')++u::v::rest).length=P.length+n+2+rest.length:=by simp [hS'];omega
  have e1:i64.wrap ((P.length:Int)+((n+1:Nat):Int)-1)=(P.length:Int)+n:=by rw [w64 (by omega) (by omega)];omega
  have r1:rd ((P++S')++u::v::rest) ((P.length:Int)+((n+1:Nat):Int))=v:=Zrs (by simp [hS'];omega);have r2:rd ((P++S')++u::v::rest) ((P.length:Int)+(n:Int))=u:=Zc3 (by simp [hS']);rw [List.concat_eq_append,e];simp only [Zf.l1,if_pos (show (P.length:Int)<(P.length:Int)+((n+1:Nat):Int) by omega),e1,hl,if_pos (show (0:Int)<=(P.length:Int)+((n+1:Nat):Int)/\(P.length:Int)+((n+1:Nat):Int)<((P.length+n+2+rest.length:Nat):Int) by omega),
   if_pos (show (0:Int)<=(P.length:Int)+(n:Int)/\(P.length:Int)+(n:Int)<((P.length+n+2+rest.length:Nat):Int) by omega),r1,r2,hc v u,Option.bind_some]
  by_cases c:key v<key u
  ·have c':decide (cI (key v) (key u)<0)=true:=decide_eq_true (Ziy.2 c)
   rw [c'];simp only [Zf.j1,if_true,List.length_set,e1,hl,if_pos (show (0:Int)<=(P.length:Int)+((n+1:Nat):Int)/\(P.length:Int)+((n+1:Nat):Int)<((P.length+n+2+rest.length:Nat):Int) by omega),
    if_pos (show (0:Int)<=(P.length:Int)+(n:Int)/\(P.length:Int)+(n:Int)<((P.length+n+2+rest.length:Nat):Int) by omega),r1,r2]
   rw [Zor (by simp [hS'];omega),Ziq (by simp [hS'];omega)];obtain ⟨S1,S2,h1,h2,h3,h4⟩:=ih S' (u::rest) k hS' (by omega) (by simp;omega);refine ⟨S1,S2++[u],by rw [h1];simp,λw hw=>?_,h3,?_⟩
   ·rcases List.mem_append.1 hw with hw | hw
    ·exact h2 w hw
    ·rw [List.mem_singleton.1 hw];exact c
   ·have e2:P++S'++v::u::rest=P++(S'++v::u::rest):=by simp
    rw [e2,h4];simp
  ·have c':decide (cI (key v) (key u)<0)=false:=decide_eq_false (λh=>c (Ziy.1 h))
   rw [c'];simp only [Zf.j1,Bool.false_eq_true,if_false];refine ⟨S'++[u],[],by simp,λw hw=>(by cases hw),λS'' w h=>?_,by simp⟩;have:=List.append_inj' h rfl;obtain ⟨_,h2⟩:=this;simp at h2;subst h2;exact c
theorem Zs3 {S1:List Int} {v:Int} (h:Srt key S1) (hl:∀ S' u,S1=S'++[u]->¬ key v<key u):∀ u∈S1,key u<=key v:=by
 intro u hu
 rcases List.eq_nil_or_concat S1 with rfl | ⟨S',w,rfl⟩
 ·cases hu
 rw [List.concat_eq_append] at*
 have hw:=hl S' w rfl;obtain ⟨_,_,h3⟩:=Hv key h
 rcases List.mem_append.1 hu with hu | hu
 ·have:=h3 u hu w (by simp);omega
 ·rw [List.mem_singleton.1 hu];omega
theorem Zuf (hc:Cmp t key) (P Q:List Int):∀ (R S:List Int) (k:Nat),R.length<k->Srt key S->P.length+S.length+R.length+Q.length<=Z2->
  Zf.l2 k t (P.length:Int) ((P.length:Int)+S.length+R.length) (P++(S++(R++Q))) ((P.length:Int)+S.length)=some (P++(Vg key (S++R)++Q)):=by
 intro R
 induction R with
 | nil=>
  intro S k hk hs hb;obtain ⟨k,rfl⟩:∃ j,k=j+1:=⟨k-1,by omega⟩;simp only [Zf.l2,if_neg (show ¬ (P.length:Int)+(S.length:Int)<(P.length:Int)+S.length+(([]:List Int).length:Int) by simp),List.nil_append,List.append_nil,Zf1 key hs]
 | cons v R ih=>
  intro S k hk hs hb;obtain ⟨k,rfl⟩:∃ j,k=j+1:=⟨k-1,by omega⟩;have hb':=hb;unfold Z2 at hb';simp only [List.length_cons] at hk hb' hb;simp only [Zf.l2,if_pos (show (P.length:Int)+(S.length:Int)<(P.length:Int)+S.length+((v::R).length:Int) by simp;omega)];obtain ⟨S1,S2,h1,h2,h3,h4⟩:=Zue hc (Zf.l2 k t (P.length:Int) ((P.length:Int)+S.length+((v::R).length:Int))) P v ((P.length:Int)+S.length) S.length S (R++Q) K0 rfl (ltK (by unfold Z2;omega)) (by simp;omega);rw [List.cons_append,h4,w64 (by omega) (by omega)];subst h1;obtain ⟨hs1,hs2,hs12⟩:=Hv key hs;have hm:=Zkq key (a:=S1) (x:=S2) (v:=v) hs h2 (Zs3 hs1 h3);have hsn:Srt key (S1++v::S2):=by rw [<- hm];exact Zbx key _
  have:=ih (S1++v::S2) k (by omega) hsn (by simp at hb ⊢;omega);have e1:((P.length:Int)+((S1++S2).length:Int)+((v::R).length:Int))=(P.length:Int)+((S1++v::S2).length:Int)+(R.length:Int):=by simp;omega
  have e2:(P.length:Int)+((S1++S2).length:Int)+1=(P.length:Int)+((S1++v::S2).length:Int):=by simp;omega
  have e3:P++(S1++v::(S2++(R++Q)))=P++((S1++v::S2)++(R++Q)):=by simp
  rw [e1,e2,e3,this];congr 3;rw [<- hm,Zr6];simp
theorem Zwr (hc:Cmp t key) (P X Q:List Int) (hb:P.length+X.length+Q.length<=Z2):
  Zf.f (P.length:Int) ((P.length:Int)+X.length) (P++(X++Q)) t=some (P++(Vg key X++Q)):=by
 unfold Zf.f;have hb':=hb;unfold Z2 at hb';rw [w64 (by omega) (by omega)]
 cases X with
 | nil=>
  have:K0=(K0-1)+1:=by unfold K0;rfl
  rw [this];simp only [Zf.l2,if_neg (show ¬ (P.length:Int)+1<(P.length:Int)+(([]:List Int).length:Int) by simp;omega)];rfl
 | cons x X=>
  simp only [List.length_cons] at hb hb';have:=Zuf hc P Q X [x] K0 (ltK (by unfold Z2;omega)) ⟨λy hy=>(by cases hy),trivial⟩ (by simp;omega);have e1:(P.length:Int)+(([x]:List Int).length:Int)+(X.length:Int)=(P.length:Int)+((x::X).length:Int):=by simp;omega
  rw [e1] at this;simpa using this
theorem Zzt (P M Q:List Int):∀ (X2 Y2 X1 Y1:List Int) (k:Nat),X2.length=Y2.length->X1.length=Y1.length->X2.length<k->P.length+2*(X1.length+X2.length)+M.length+Q.length<=Z2->
  Z6.l1 k (P.length:Int) ((P.length:Int)+(X1.length+X2.length)+M.length) ((X1.length:Int)+X2.length) (P++((Y1++X2)++(M++((X1++Y2)++Q)))) (X1.length:Int)=some (P++((Y1++Y2)++(M++((X1++X2)++Q)))):=by
 intro X2
 induction X2 with
 | nil=>
  intro Y2 X1 Y1 k h1 h2 hk hb;obtain ⟨k,rfl⟩:∃ j,k=j+1:=⟨k-1,by omega⟩;obtain rfl:=List.eq_nil_of_length_eq_zero h1.symm;simp only [Z6.l1,if_neg (show ¬ (X1.length:Int)<(X1.length:Int)+(([]:List Int).length:Int) by simp)]
 | cons x X2 ih=>
  intro Y2 X1 Y1 k h1 h2 hk hb;obtain ⟨k,rfl⟩:∃ j,k=j+1:=⟨k-1,by omega⟩
  cases Y2 with
  | nil=>simp at h1
  | cons y Y2=>
   simp only [List.length_cons] at h1 hk hb;have hb':=hb;unfold Z2 at hb';have e:P++((Y1++x::X2)++(M++((X1++y::Y2)++Q)))=(P++Y1)++x::((X2++(M++X1))++y::(Y2++Q)):=by simp
   have w1:i64.wrap ((P.length:Int)+(X1.length:Int))=(P.length:Int)+X1.length:=w64 (by omega) (by omega);have w2:i64.wrap ((P.length:Int)+((X1.length:Int)+((x::X2).length:Int))+(M.length:Int)+(X1.length:Int))=(P.length:Int)+(X1.length+X2.length+1)+M.length+X1.length:=by rw [w64 (by simp;omega) (by simp;omega)];simp;omega
   have hl:((P++Y1)++x::((X2++(M++X1))++y::(Y2++Q))).length=P.length+2*(X1.length+(X2.length+1))+M.length+Q.length:=by simp;omega
   have r1:rd ((P++Y1)++x::((X2++(M++X1))++y::(Y2++Q))) ((P.length:Int)+X1.length)=x:=Zc3 (by simp;omega);have r2:rd ((P++Y1)++x::((X2++(M++X1))++y::(Y2++Q))) ((P.length:Int)+(X1.length+X2.length+1)+M.length+X1.length)=y:=Z1l (by simp;omega);rw [e];simp only [Z6.l1,if_pos (show (X1.length:Int)<(X1.length:Int)+((x::X2).length:Int) by simp;omega),w1,w2,List.length_set,hl,
    if_pos (show (0:Int)<=(P.length:Int)+(X1.length+X2.length+1)+M.length+X1.length/\(P.length:Int)+(X1.length+X2.length+1)+M.length+X1.length<((P.length+2*(X1.length+(X2.length+1))+M.length+Q.length:Nat):Int) by omega),
    if_pos (show (0:Int)<=(P.length:Int)+X1.length/\(P.length:Int)+X1.length<((P.length+2*(X1.length+(X2.length+1))+M.length+Q.length:Nat):Int) by omega),r1,r2]
   rw [Ziq (by simp;omega),Zzr (by simp;omega),w64 (by omega) (by omega)];have:=ih Y2 (X1++[x]) (Y1++[y]) k (by omega) (by simp;omega) (by omega) (by simp;omega);have e1:(P.length:Int)+(((X1++[x]).length:Int)+(X2.length:Int))+(M.length:Int)=(P.length:Int)+((X1.length:Int)+((x::X2).length:Int))+(M.length:Int):=by simp;omega
   have e2:((X1++[x]).length:Int)+(X2.length:Int)=(X1.length:Int)+((x::X2).length:Int):=by simp;omega
   have e3:((X1++[x]).length:Int)=(X1.length:Int)+1:=by simp
   rw [e1,e2,e3] at this;simpa using this
theorem Zou (P X M Y Q:List Int) (h:X.length=Y.length) (hb:P.length+2*X.length+M.length+Q.length<=Z2):
  Z6.f (P.length:Int) ((P.length:Int)+X.length+M.length) (X.length:Int) (P++(X++(M++(Y++Q)))) t=some (P++(Y++(M++(X++Q)))):=by
 have hb':=hb;unfold Z2 at hb';have:=Zzt P M Q X Y [] [] K0 h rfl (ltK (by unfold Z2;omega)) (by simpa using hb);unfold Z6.f;simpa using this
theorem Z1p:∀ (n:Nat) (P X Y Q:List Int) (k:Nat),X.length+Y.length<=n->n<k->0<X.length->0<Y.length->P.length+X.length+Y.length+Q.length<=Z2->
  Yi.l1 k t ((P.length:Int)+X.length) (P++(X++(Y++Q))) (X.length:Int) (Y.length:Int)=some (P++(Y++(X++Q))):=by
 intro n
 induction n with
 | zero=>intro P X Y Q k h1 h2 h3;omega
 | succ n ih=>
  intro P X Y Q k h1 h2 h3 h4 hb;obtain ⟨k,rfl⟩:∃ j,k=j+1:=⟨k-1,by omega⟩;have hb':=hb;unfold Z2 at hb';have w1:i64.wrap ((P.length:Int)+(X.length:Int)-(X.length:Int))=(P.length:Int):=by rw [w64 (by omega) (by omega)];omega
  by_cases c1:(X.length:Int)=(Y.length:Int)
  ·simp only [Yi.l1,if_neg (show ¬ (X.length:Int)≠(Y.length:Int) by omega),w1]
   have:=Zou (t:=t) P X [] Y Q (by omega) (by simp;omega);have e:(P.length:Int)+(X.length:Int)+(([]:List Int).length:Int)=(P.length:Int)+X.length:=by simp
   rw [e] at this;simp only [List.nil_append] at this;rw [this];rfl
  ·by_cases c2:(Y.length:Int)<(X.length:Int)
   ·simp only [Yi.l1,if_pos (show (X.length:Int)≠(Y.length:Int) from c1),if_pos c2,w1]
    obtain ⟨X1,X2,rfl,hx1⟩:∃ X1 X2,X=X1++X2/\X1.length=Y.length:=⟨X.take Y.length,X.drop Y.length,by simp,by simp;omega⟩;have hx2:0<X2.length:=by simp at c2;omega
    have:=Zou (t:=t) P X1 X2 Y Q hx1 (by simp at hb;omega);have e:(P.length:Int)+((X1++X2).length:Int)=(P.length:Int)+X1.length+X2.length:=by simp;omega
    rw [hx1] at this;rw [e,hx1];have e2:P++(X1++X2++(Y++Q))=P++(X1++(X2++(Y++Q))):=by simp
    rw [e2,this,Option.bind_some];have w2:i64.wrap (((X1++X2).length:Int)-(Y.length:Int))=(X2.length:Int):=by rw [w64 (by simp;omega) (by simp;omega)];simp;omega
    rw [w2];have:=ih (P++Y) X2 X1 Q k (by simp at h1;omega) (by omega) hx2 (by omega) (by simp at hb ⊢;omega);have e3:((P++Y).length:Int)+(X2.length:Int)=(P.length:Int)+Y.length+X2.length:=by simp
    rw [e3,hx1] at this;have e4:P++(Y++(X2++(X1++Q)))=P++Y++(X2++(X1++Q)):=by simp
    rw [e4,this];simp
   ·simp only [Yi.l1,if_pos (show (X.length:Int)≠(Y.length:Int) from c1),if_neg c2,w1]
    obtain ⟨Y1,Y2,rfl,hy1⟩:∃ Y1 Y2,Y=Y1++Y2/\Y2.length=X.length:=⟨Y.take (Y.length-X.length),Y.drop (Y.length-X.length),by simp,by simp;omega⟩;have hy0:0<Y1.length:=by simp at c1 c2;omega
    have:=Zou (t:=t) P X Y1 Y2 Q hy1.symm (by simp at hb;omega);have w3:i64.wrap (i64.wrap ((P.length:Int)+(X.length:Int)+((Y1++Y2).length:Int))-(X.length:Int))=(P.length:Int)+X.length+Y1.length:=by
     have hyl:(Y1++Y2).length=Y1.length+Y2.length:=by simp
     rw [w64 (x:=(P.length:Int)+(X.length:Int)+((Y1++Y2).length:Int)) (by omega) (by omega),w64 (x:=(P.length:Int)+(X.length:Int)+((Y1++Y2).length:Int)-(X.length:Int)) (by omega) (by omega)];omega
    rw [w3];have e2:P++(X++(Y1++Y2++Q))=P++(X++(Y1++(Y2++Q))):=by simp
    rw [e2,this,Option.bind_some];have hyl:(Y1++Y2).length=Y1.length+Y2.length:=by simp
    have w2:i64.wrap (((Y1++Y2).length:Int)-(X.length:Int))=(Y1.length:Int):=by rw [w64 (by omega) (by omega)];omega
    rw [w2];have:=ih P Y2 Y1 (X++Q) k (by simp at h1;omega) (by omega) (by omega) hy0 (by simp at hb ⊢;omega);rw [hy1] at this;rw [this];simp
theorem Z1o (P X Y Q:List Int) (h3:0<X.length) (h4:0<Y.length) (hb:P.length+X.length+Y.length+Q.length<=Z2):
  Yi.f (P.length:Int) ((P.length:Int)+X.length) ((P.length:Int)+X.length+Y.length) (P++(X++(Y++Q))) t=some (P++(Y++(X++Q))):=by
 have hb':=hb;unfold Z2 at hb';unfold Yi.f;have w1:i64.wrap ((P.length:Int)+(X.length:Int)-(P.length:Int))=(X.length:Int):=by rw [w64 (by omega) (by omega)];omega
 have w2:i64.wrap ((P.length:Int)+(X.length:Int)+(Y.length:Int)-((P.length:Int)+(X.length:Int)))=(Y.length:Int):=by rw [w64 (by omega) (by omega)];omega
 rw [w1,w2];exact Z1p (X.length+Y.length) P X Y Q K0 (Nat.le_refl _) (ltK (by unfold Z2;omega)) h3 h4 hb
end
end
section
open Go.IntKind (i8 i16 i32 i64 u8 u16 u32 u64)
open Go.RowKit
section
variable {t:Option Tbs} {key:Int->Int}
theorem Zup (P Q:List Int) (u:Int):∀ (Y2 Y1:List Int) (k:Nat),Y2.length<k->P.length+Y1.length+Y2.length+1+Q.length<=Z2->
  Za.l1 k ((P.length:Int)+Y1.length+Y2.length+1) (P++(Y1++u::(Y2++Q))) ((P.length:Int)+Y1.length)=some (P++(Y1++(Y2++u::Q))):=by
 intro Y2
 induction Y2 with
 | nil=>
  intro Y1 k hk hb;obtain ⟨k,rfl⟩:∃ j,k=j+1:=⟨k-1,by omega⟩;unfold Z2 at hb;have w1:i64.wrap ((P.length:Int)+Y1.length+(([]:List Int).length:Int)+1-1)=(P.length:Int)+Y1.length:=by rw [w64 (by simp;omega) (by simp;omega)];simp
  simp only [Za.l1,w1,if_neg (show ¬ (P.length:Int)+(Y1.length:Int)<(P.length:Int)+Y1.length by omega),List.nil_append]
 | cons y Y2 ih=>
  intro Y1 k hk hb;obtain ⟨k,rfl⟩:∃ j,k=j+1:=⟨k-1,by omega⟩;simp only [List.length_cons] at hk hb;have hb':=hb;unfold Z2 at hb';have w1:i64.wrap ((P.length:Int)+Y1.length+((y::Y2).length:Int)+1-1)=(P.length:Int)+Y1.length+Y2.length+1:=by rw [w64 (by simp;omega) (by simp;omega)];simp;omega
  have w2:i64.wrap ((P.length:Int)+Y1.length+1)=(P.length:Int)+Y1.length+1:=w64 (by omega) (by omega);have e:P++(Y1++u::((y::Y2)++Q))=(P++Y1)++u::y::(Y2++Q):=by simp
  have hl:((P++Y1)++u::y::(Y2++Q)).length=P.length+Y1.length+Y2.length+2+Q.length:=by simp;omega
  have r1:rd ((P++Y1)++u::y::(Y2++Q)) ((P.length:Int)+Y1.length)=u:=Zc3 (by simp);have r2:rd ((P++Y1)++u::y::(Y2++Q)) ((P.length:Int)+Y1.length+1)=y:=Zrs (by simp);rw [e];simp only [Za.l1,w1,if_pos (show (P.length:Int)+(Y1.length:Int)<(P.length:Int)+Y1.length+Y2.length+1 by omega),w2,List.length_set,hl,
   if_pos (show (0:Int)<=(P.length:Int)+Y1.length+1/\(P.length:Int)+Y1.length+1<((P.length+Y1.length+Y2.length+2+Q.length:Nat):Int) by omega),
   if_pos (show (0:Int)<=(P.length:Int)+Y1.length/\(P.length:Int)+Y1.length<((P.length+Y1.length+Y2.length+2+Q.length:Nat):Int) by omega),r1,r2]
  rw [Ziq (by simp;omega),Zor (by simp;omega)];have:=ih (Y1++[y]) k (by omega) (by simp;omega);have e1:(P.length:Int)+((Y1++[y]).length:Int)+(Y2.length:Int)+1=(P.length:Int)+Y1.length+((y::Y2).length:Int)+1:=by simp;omega
  have e2:(P.length:Int)+((Y1++[y]).length:Int)=(P.length:Int)+Y1.length+1:=by simp;omega
  rw [e1,e2] at this;simpa using this
theorem Zvw (hc:Cmp t key) (ys:List Int) (a m b:Int) (u:Int) (hb:ys.length<=Z2) (ha:0<=a/\a<ys.length) (hu:rd ys a=u) (hm:0<=m) (hbl:b<=ys.length):∀ (n:Nat) (i j:Int) (k:Nat),(j-i).toNat<=n->n<k->m<=i->i<=j->j<=b->
  (m<i->key (rd ys (i-1))<key u)->(j<b->¬ key (rd ys j)<key u)->
  ∃ s,m<=s/\s<=b/\(m<s->key (rd ys (s-1))<key u)/\(s<b->¬ key (rd ys s)<key u)/\Za.l2 k ys t a i j=Za.l1 K0 s ys a:=by
 intro n;have hb':=hb;unfold Z2 at hb'
 induction n with
 | zero=>
  intro i j k h1 h2 h3 h4 h5 h6 h7;obtain ⟨k,rfl⟩:∃ j,k=j+1:=⟨k-1,by omega⟩;obtain rfl:i=j:=by omega
  exact ⟨i,h3,h5,h6,h7,by simp only [Za.l2,if_neg (show ¬ i<i by omega)]⟩
 | succ n ih=>
  intro i j k h1 h2 h3 h4 h5 h6 h7;obtain ⟨k,rfl⟩:∃ j,k=j+1:=⟨k-1,by omega⟩;by_cases c:i<j
  ·have hh:=Zwn (x:=i+j) (by omega) (by omega)
   have w1:i64.wrap ((i+j)/2+1)=(i+j)/2+1:=w64 (by omega) (by omega);simp only [Za.l2,if_pos c,hh,if_pos (show (0:Int)<=(i+j)/2/\(i+j)/2<(ys.length:Int) by omega),if_pos (show (0:Int)<=a/\a<(ys.length:Int) from ha),hu,hc _ u,Option.bind_some,w1];by_cases d:key (rd ys ((i+j)/2))<key u
   ·rw [if_pos (Ziy.2 d)]
    exact ih _ _ k (by omega) (by omega) (by omega) (by omega) h5 (λ_=>by rw [show (i+j)/2+1-1=(i+j)/2 by omega];exact d) h7
   ·rw [if_neg (λh=>d (Ziy.1 h))]
    exact ih _ _ k (by omega) (by omega) h3 (by omega) (by omega) h6 (λ_=>d)
  ·obtain rfl:i=j:=by omega
   exact ⟨i,h3,h5,h6,h7,by simp only [Za.l2,if_neg c]⟩
theorem Z02 {Y1 Y2:List Int} {u:Int} (h:Srt key (Y1++Y2)) (h1:∀ A y,Y1=A++[y]->key y<key u) (h2:∀ y B,Y2=y::B->¬ key y<key u):(∀ v∈Y1,key v<key u)/\(∀ v∈Y2,key u<=key v):=by
 obtain ⟨a,b,_⟩:=Hv key h;refine ⟨λv hv=>?_,λv hv=>?_⟩
 ·rcases List.eq_nil_or_concat Y1 with rfl | ⟨A,w,rfl⟩
  ·cases hv
  rw [List.concat_eq_append] at*
  have hw:=h1 A w rfl;obtain ⟨_,_,h3⟩:=Hv key a
  rcases List.mem_append.1 hv with hv | hv
  ·have:=h3 v hv w (by simp);omega
  ·rw [List.mem_singleton.1 hv];exact hw
 ·cases Y2 with
  | nil=>cases hv
  | cons y B=>
   have:=h2 y B rfl
   rcases List.mem_cons.1 hv with rfl | hv
   ·omega
   ·have:=b.1 v hv;omega
theorem Z01 {X1 X2:List Int} {v:Int} (h:Srt key (X1++X2)) (h1:∀ A x,X1=A++[x]->¬ key v<key x) (h2:∀ x B,X2=x::B->key v<key x):(∀ u∈X1,key u<=key v)/\(∀ u∈X2,key v<key u):=by
 obtain ⟨a,b,_⟩:=Hv key h;refine ⟨λw hw=>Zs3 a h1 w hw,λw hw=>?_⟩
 cases X2 with
 | nil=>cases hw
 | cons y B=>
  have:=h2 y B rfl
  rcases List.mem_cons.1 hw with rfl | hw
  ·exact this
  ·have:=b.1 w hw;omega
theorem Zfo (Y:List Int) (n:Nat) (h:n<=Y.length):∃ Y1 Y2,Y=Y1++Y2/\Y1.length=n:=⟨Y.take n,Y.drop n,by simp,by simp;omega⟩
theorem Zu8 (hc:Cmp t key) (P Y Q:List Int) (u:Int) (hY:Srt key Y) (hb:P.length+1+Y.length+Q.length<=Z2):
  Za.l2 K0 (P++(u::(Y++Q))) t (P.length:Int) ((P.length:Int)+1) ((P.length:Int)+1+Y.length)=some (P++(Vg key (u::Y)++Q)):=by
 have hb':=hb;unfold Z2 at hb';have hl:(P++(u::(Y++Q))).length=P.length+1+Y.length+Q.length:=by simp;omega
 obtain ⟨s,s1,s2,s3,s4,s5⟩:=Zvw hc (P++(u::(Y++Q))) (P.length:Int) ((P.length:Int)+1) ((P.length:Int)+1+Y.length) u (by omega) (by omega) (Zc3 rfl) (by omega) (by omega) (Z2) ((P.length:Int)+1) ((P.length:Int)+1+Y.length) K0 (by unfold Z2;omega) (ltK (Nat.le_refl _)) (by omega) (by omega) (by omega) (λh=>by omega) (λh=>by omega);rw [s5];obtain ⟨Y1,Y2,rfl,hn⟩:=Zfo Y (s-(P.length+1)).toNat (by omega);have hyl:(Y1++Y2).length=Y1.length+Y2.length:=by simp
 have es:s=(P.length:Int)+(([]:List Int).length:Int)+Y1.length+1:=by simp;omega
 have hcut:=Z02 (u:=u) hY (λA y e=>by
  subst e;have hr:rd (P++(u::(((A++[y])++Y2)++Q))) (s-1)=y:=by have:=Zc3 (A:=P++u::A) (B:=Y2++Q) (x:=y) (i:=s-1) (by simp at hn ⊢;omega);simpa using this
  have:=s3 (by simp at hn;omega);rwa [hr] at this) (λy B e=>by
  subst e;have hr:rd (P++(u::((Y1++y::B)++Q))) s=y:=by have:=Zc3 (A:=P++u::Y1) (B:=B++Q) (x:=y) (i:=s) (by simp;omega);simpa using this
  have:=s4 (by simp at hyl ⊢;omega);rwa [hr] at this)
 have:=Zup P (Y2++Q) u Y1 [] K0 (ltK (by unfold Z2;omega)) (by simp;omega);rw [es,Zp8 key hY hcut.1 hcut.2];simpa using this
theorem Zw3 (P Q:List Int) (v:Int):∀ (n:Nat) (X2 X1 Z:List Int) (k:Nat),X2.length=n->n<k->P.length+X1.length+n+Z.length+1+Q.length<=Z2->
  Za.l3 k ((P.length:Int)+X1.length) (P++(X1++(X2++v::(Z++Q)))) ((P.length:Int)+X1.length+n)=some (P++(X1++v::(X2++(Z++Q)))):=by
 intro n
 induction n with
 | zero=>
  intro X2 X1 Z k h1 hk hb;obtain ⟨k,rfl⟩:∃ j,k=j+1:=⟨k-1,by omega⟩;obtain rfl:=List.eq_nil_of_length_eq_zero h1;simp only [Za.l3,if_neg (show ¬ (P.length:Int)+(X1.length:Int)<(P.length:Int)+X1.length+((0:Nat):Int) by omega),List.nil_append]
 | succ n ih=>
  intro X2 X1 Z k h1 hk hb;obtain ⟨k,rfl⟩:∃ j,k=j+1:=⟨k-1,by omega⟩;have hb':=hb;unfold Z2 at hb'
  rcases List.eq_nil_or_concat X2 with rfl | ⟨X',x,rfl⟩
  ·simp at h1
  have hX:X'.length=n:=by simpa using h1
  rw [List.concat_eq_append];have w1:i64.wrap ((P.length:Int)+X1.length+((n+1:Nat):Int)-1)=(P.length:Int)+X1.length+n:=by rw [w64 (by omega) (by omega)];omega
  have e:P++(X1++((X'++[x])++v::(Z++Q)))=(P++(X1++X'))++x::v::(Z++Q):=by simp
  have hl:((P++(X1++X'))++x::v::(Z++Q)).length=P.length+X1.length+n+2+Z.length+Q.length:=by simp [hX];omega
  have r1:rd ((P++(X1++X'))++x::v::(Z++Q)) ((P.length:Int)+X1.length+((n+1:Nat):Int))=v:=Zrs (by simp [hX];omega);have r2:rd ((P++(X1++X'))++x::v::(Z++Q)) ((P.length:Int)+X1.length+(n:Int))=x:=Zc3 (by simp [hX];omega);rw [e];simp only [Za.l3,if_pos (show (P.length:Int)+(X1.length:Int)<(P.length:Int)+X1.length+((n+1:Nat):Int) by omega),w1,List.length_set,hl,
   if_pos (show (0:Int)<=(P.length:Int)+X1.length+((n+1:Nat):Int)/\(P.length:Int)+X1.length+((n+1:Nat):Int)<((P.length+X1.length+n+2+Z.length+Q.length:Nat):Int) by omega),
   if_pos (show (0:Int)<=(P.length:Int)+X1.length+(n:Int)/\(P.length:Int)+X1.length+(n:Int)<((P.length+X1.length+n+2+Z.length+Q.length:Nat):Int) by omega),r1,r2]
  rw [Zor (by simp [hX];omega),Ziq (by simp [hX];omega)];have:=ih X' X1 (x::Z) k hX (by omega) (by simp;omega);simpa using this
theorem Zyv (hc:Cmp t key) (ys:List Int) (a m:Int) (v:Int) (hb:ys.length<=Z2) (ha:0<=a) (hm:0<=m/\m<ys.length) (hv:rd ys m=v):∀ (n:Nat) (i j:Int) (k:Nat),(j-i).toNat<=n->n<k->a<=i->i<=j->j<=m->
  (a<i->¬ key v<key (rd ys (i-1)))->(j<m->key v<key (rd ys j))->
  ∃ s,a<=s/\s<=m/\(a<s->¬ key v<key (rd ys (s-1)))/\(s<m->key v<key (rd ys s))/\Za.l4 k ys t m i j=Za.l3 K0 s ys m:=by
 intro n;have hb':=hb;unfold Z2 at hb'
 induction n with
 | zero=>
  intro i j k h1 h2 h3 h4 h5 h6 h7;obtain ⟨k,rfl⟩:∃ j,k=j+1:=⟨k-1,by omega⟩;obtain rfl:i=j:=by omega
  exact ⟨i,h3,h5,h6,h7,by simp only [Za.l4,if_neg (show ¬ i<i by omega)]⟩
 | succ n ih=>
  intro i j k h1 h2 h3 h4 h5 h6 h7;obtain ⟨k,rfl⟩:∃ j,k=j+1:=⟨k-1,by omega⟩;by_cases c:i<j
  ·have hh:=Zwn (x:=i+j) (by omega) (by omega)
   have w1:i64.wrap ((i+j)/2+1)=(i+j)/2+1:=w64 (by omega) (by omega);simp only [Za.l4,if_pos c,hh,if_pos (show (0:Int)<=m/\m<(ys.length:Int) from hm),if_pos (show (0:Int)<=(i+j)/2/\(i+j)/2<(ys.length:Int) by omega),hv,hc v _,Option.bind_some,w1];by_cases d:key v<key (rd ys ((i+j)/2))
   ·rw [if_neg (λh=>h (Ziy.2 d))]
    exact ih _ _ k (by omega) (by omega) h3 (by omega) (by omega) h6 (λ_=>d)
   ·rw [if_pos (λh=>d (Ziy.1 h))]
    exact ih _ _ k (by omega) (by omega) (by omega) (by omega) h5 (λ_=>by rw [show (i+j)/2+1-1=(i+j)/2 by omega];exact d) h7
  ·obtain rfl:i=j:=by omega
   exact ⟨i,h3,h5,h6,h7,by simp only [Za.l4,if_neg c]⟩
theorem Zx1 (hc:Cmp t key) (P X Q:List Int) (v:Int) (hX:Srt key X) (hb:P.length+X.length+1+Q.length<=Z2):
  Za.l4 K0 (P++(X++(v::Q))) t ((P.length:Int)+X.length) (P.length:Int) ((P.length:Int)+X.length)=some (P++(Vg key (X++[v])++Q)):=by
 have hb':=hb;unfold Z2 at hb';have hl:(P++(X++(v::Q))).length=P.length+X.length+1+Q.length:=by simp;omega
 have hr:rd (P++(X++(v::Q))) ((P.length:Int)+X.length)=v:=by have:=Zc3 (A:=P++X) (B:=Q) (x:=v) (i:=(P.length:Int)+X.length) (by simp);simpa using this
 obtain ⟨s,s1,s2,s3,s4,s5⟩:=Zyv hc (P++(X++(v::Q))) (P.length:Int) ((P.length:Int)+X.length) v (by omega) (by omega) (by omega) hr Z2 (P.length:Int) ((P.length:Int)+X.length) K0 (by unfold Z2;omega) (ltK (Nat.le_refl _)) (by omega) (by omega) (by omega) (λh=>by omega) (λh=>by omega);rw [s5];obtain ⟨X1,X2,rfl,hn⟩:=Zfo X (s-P.length).toNat (by omega);have hxl:(X1++X2).length=X1.length+X2.length:=by simp
 have es:s=(P.length:Int)+X1.length:=by omega
 have hcut:=Z01 (v:=v) hX (λA y e=>by
  subst e;have hr:rd (P++(((A++[y])++X2)++(v::Q))) (s-1)=y:=by have:=Zc3 (A:=P++A) (B:=X2++v::Q) (x:=y) (i:=s-1) (by simp at hn ⊢;omega);simpa using this
  have:=s3 (by simp at hn;omega);rwa [hr] at this) (λy B e=>by
  subst e;have hr:rd (P++((X1++y::B)++(v::Q))) s=y:=by have:=Zc3 (A:=P++X1) (B:=B++v::Q) (x:=y) (i:=s) (by simp;omega);simpa using this
  have:=s4 (by simp at hxl ⊢;omega);rwa [hr] at this)
 have:=Zw3 P Q v X2.length X2 X1 [] K0 rfl (ltK (by unfold Z2;omega)) (by simp;omega);rw [es,Zkq key hX hcut.2 hcut.1];have e:(P.length:Int)+((X1++X2).length:Int)=(P.length:Int)+X1.length+X2.length:=by omega
 rw [e];simpa using this
end
end
section
open Go.IntKind (i8 i16 i32 i64 u8 u16 u32 u64)
open Go.RowKit
section
variable {t:Option Tbs} {key:Int->Int}
theorem Zvx (hc:Cmp t key) (rec:Int->Int->Int->List Int->Option Tbs->Option (List Int)) (ys:List Int) (a m b mid lo hi:Int) (hb:ys.length<=Z2) (ha:0<=a) (hbb:0<=b/\b<=1099511627776/\a<=1099511627776) (hm:0<=m/\m<=1099511627776) (hmid:mid=(a+b)/2)
  (hg:∀ c,lo<=c->c<hi->(0<=c/\c<(ys.length:Int))/\(0<=mid+m-1-c/\mid+m-1-c<(ys.length:Int))) (hlo:0<=lo) (hhi:hi<=1099511627776):∀ (n:Nat) (i j:Int) (k:Nat),(j-i).toNat<=n->n<k->lo<=i->i<=j->j<=hi->
  (lo<i->¬ key (rd ys (mid+m-i))<key (rd ys (i-1)))->(j<hi->key (rd ys (mid+m-1-j))<key (rd ys j))->
  ∃ s,lo<=s/\s<=hi/\(lo<s->¬ key (rd ys (mid+m-s))<key (rd ys (s-1)))/\(s<hi->key (rd ys (mid+m-1-s))<key (rd ys s))/\
   Za.l5 k rec ys t a m b i j=(if s<m then Za.j5 rec ys t a m b s (decide (m<mid+m-s)) else Za.j5 rec ys t a m b s false):=by
 have hb':=hb;unfold Z2 at hb';have e0:=Zwn (x:=a+b) (by omega) (by omega);rw [<- hmid] at e0;have e1:i64.wrap (mid+m)=mid+m:=w64 (by omega) (by omega);have e2:i64.wrap (mid+m-1)=mid+m-1:=w64 (by omega) (by omega);have fin:∀ (i:Int) (k:Nat),lo<=i->i<=hi->Za.l5 (k+1) rec ys t a m b i i=(if i<m then Za.j5 rec ys t a m b i (decide (m<mid+m-i)) else Za.j5 rec ys t a m b i false):=by intro i k h3 h4;have e3:i64.wrap (mid+m-i)=mid+m-i:=w64 (by omega) (by omega);simp only [Za.l5,if_neg (show ¬ i<i by omega),e0,e1,e3]
 intro n
 induction n with
 | zero=>
  intro i j k h1 h2 h3 h4 h5 h6 h7;obtain ⟨k,rfl⟩:∃ j,k=j+1:=⟨k-1,by omega⟩;obtain rfl:i=j:=by omega
  exact ⟨i,h3,h5,h6,h7,fin i k h3 h5⟩
 | succ n ih=>
  intro i j k h1 h2 h3 h4 h5 h6 h7;obtain ⟨k,rfl⟩:∃ j,k=j+1:=⟨k-1,by omega⟩;by_cases c:i<j
  ·have hh:=Zwn (x:=i+j) (by omega) (by omega)
   obtain ⟨g1,g2⟩:=hg ((i+j)/2) (by omega) (by omega);have w1:i64.wrap ((i+j)/2+1)=(i+j)/2+1:=w64 (by omega) (by omega);have w2:i64.wrap (mid+m-1-(i+j)/2)=mid+m-1-(i+j)/2:=w64 (by omega) (by omega);simp only [Za.l5,if_pos c,e0,e1,e2,hh,w1,w2,if_pos g1,if_pos g2,hc _ _,Option.bind_some];by_cases d:key (rd ys (mid+m-1-(i+j)/2))<key (rd ys ((i+j)/2))
   ·rw [if_neg (λh=>h (Ziy.2 d))]
    exact ih _ _ k (by omega) (by omega) h3 (by omega) (by omega) h6 (λ_=>d)
   ·rw [if_pos (λh=>d (Ziy.1 h))]
    exact ih _ _ k (by omega) (by omega) (by omega) (by omega) h5 (λ_=>by rw [show (i+j)/2+1-1=(i+j)/2 by omega,show mid+m-((i+j)/2+1)=mid+m-1-(i+j)/2 by omega];exact d) h7
  ·obtain rfl:i=j:=by omega
   exact ⟨i,h3,h5,h6,h7,fin i k h3 h5⟩
theorem Zr7 {Y:List Int} (h:Srt key Y):Vg key ([]++Y)=Y:=by rw [List.nil_append];exact Zf1 key h
theorem Zlf {X:List Int} (h:Srt key X):Vg key (X++[])=X:=by rw [List.append_nil];exact Zf1 key h
theorem Zx0 (hc:Cmp t key):∀ (n:Nat) (P X Y Q:List Int) (k:Nat),X.length+Y.length<=n->n<k->0<X.length->0<Y.length->Srt key X->Srt key Y->P.length+X.length+Y.length+Q.length<=Z2->
  Za.f k (P.length:Int) ((P.length:Int)+X.length) ((P.length:Int)+X.length+Y.length) (P++(X++(Y++Q))) t=some (P++(Vg key (X++Y)++Q)):=by
 intro n
 induction n with
 | zero=>intro P X Y Q k h1 h2 h3;omega
 | succ n ih=>
  intro P X Y Q k h1 h2 h3 h4 hX hY hb;obtain ⟨k,rfl⟩:∃ j,k=j+1:=⟨k-1,by omega⟩;have hb':=hb;unfold Z2 at hb';have w1:i64.wrap ((P.length:Int)+X.length-P.length)=X.length:=by rw [w64 (by omega) (by omega)];omega
  have w2:i64.wrap ((P.length:Int)+X.length+Y.length-((P.length:Int)+X.length))=Y.length:=by rw [w64 (by omega) (by omega)];omega
  simp only [Za.f,Za.b,w1,w2];by_cases c1:(X.length:Int)=1
  ·rw [if_pos c1]
   obtain ⟨u,rfl⟩:∃ u,X=[u]:=by
    cases X with
    | nil=>simp at h3
    | cons u X'=>exact ⟨u,by rw [List.eq_nil_of_length_eq_zero (l:=X') (by simp at c1;omega)]⟩
   have:=Zu8 hc P Y Q u hY (by simp at hb;omega);simpa using this
  ·rw [if_neg c1]
   by_cases c2:(Y.length:Int)=1
   ·rw [if_pos c2]
    obtain ⟨v,rfl⟩:∃ v,Y=[v]:=by
     cases Y with
     | nil=>simp at h4
     | cons u X'=>exact ⟨u,by rw [List.eq_nil_of_length_eq_zero (l:=X') (by simp at c2;omega)]⟩
    have:=Zx1 hc P X Q v hX (by simp at hb;omega);simpa using this
   ·rw [if_neg c2]
    obtain ⟨mid,hmid⟩:∃ mid:Int,mid=((P.length:Int)+((P.length:Int)+X.length+Y.length))/2:=⟨_,rfl⟩;have e0:=Zwn (x:=(P.length:Int)+((P.length:Int)+X.length+Y.length)) (by omega) (by omega);rw [<- hmid] at e0;have e1:i64.wrap (mid+((P.length:Int)+X.length))=mid+((P.length:Int)+X.length):=w64 (by omega) (by omega);have e2:i64.wrap (mid+((P.length:Int)+X.length)-((P.length:Int)+X.length+Y.length))=mid-Y.length:=by rw [w64 (by omega) (by omega)];omega
    simp only [e0,e1,e2,Za.j6];have hl:(P++(X++(Y++Q))).length=P.length+X.length+Y.length+Q.length:=by simp;omega
    have hs:∃ s,(P.length:Int)<=s/\s<=(P.length:Int)+X.length/\s<=mid/\mid-Y.length<=s/\
      ((P.length:Int)<s->mid-Y.length<s->¬ key (rd (P++(X++(Y++Q))) (mid+((P.length:Int)+X.length)-s))<key (rd (P++(X++(Y++Q))) (s-1)))/\
      (s<(P.length:Int)+X.length->s<mid->key (rd (P++(X++(Y++Q))) (mid+((P.length:Int)+X.length)-1-s))<key (rd (P++(X++(Y++Q))) s))/\
      (if mid<(P.length:Int)+X.length then Za.l5 K0 (Za.f k) (P++(X++(Y++Q))) t (P.length:Int) ((P.length:Int)+X.length) ((P.length:Int)+X.length+Y.length) (mid-Y.length) mid
       else Za.l5 K0 (Za.f k) (P++(X++(Y++Q))) t (P.length:Int) ((P.length:Int)+X.length) ((P.length:Int)+X.length+Y.length) (P.length:Int) ((P.length:Int)+X.length))=
      (if s<(P.length:Int)+X.length then Za.j5 (Za.f k) (P++(X++(Y++Q))) t (P.length:Int) ((P.length:Int)+X.length) ((P.length:Int)+X.length+Y.length) s (decide ((P.length:Int)+X.length<mid+((P.length:Int)+X.length)-s))
       else Za.j5 (Za.f k) (P++(X++(Y++Q))) t (P.length:Int) ((P.length:Int)+X.length) ((P.length:Int)+X.length+Y.length) s false):=by
     by_cases c3:mid<(P.length:Int)+X.length
     ·rw [if_pos c3]
      obtain ⟨s,s1,s2,s3,s4,s5⟩:=Zvx hc (Za.f k) (P++(X++(Y++Q))) (P.length:Int) ((P.length:Int)+X.length) ((P.length:Int)+X.length+Y.length) mid (mid-Y.length) mid (by omega) (by omega) ⟨by omega,by omega,by omega⟩ ⟨by omega,by omega⟩ hmid
       (λc hc1 hc2=>⟨⟨by omega,by omega⟩,by omega,by omega⟩) (by omega) (by omega) Z2 (mid-Y.length) mid K0 (by unfold Z2;omega) (ltK (Nat.le_refl _)) (by omega) (by omega) (by omega) (λh=>by omega) (λh=>by omega)
      exact ⟨s,by omega,by omega,s2,s1,λ_ h=>s3 h,λ_ h=>s4 h,s5⟩
     ·rw [if_neg c3]
      obtain ⟨s,s1,s2,s3,s4,s5⟩:=Zvx hc (Za.f k) (P++(X++(Y++Q))) (P.length:Int) ((P.length:Int)+X.length) ((P.length:Int)+X.length+Y.length) mid (P.length:Int) ((P.length:Int)+X.length) (by omega) (by omega) ⟨by omega,by omega,by omega⟩ ⟨by omega,by omega⟩ hmid
       (λc hc1 hc2=>⟨⟨by omega,by omega⟩,by omega,by omega⟩) (by omega) (by omega) Z2 (P.length:Int) ((P.length:Int)+X.length) K0 (by unfold Z2;omega) (ltK (Nat.le_refl _)) (by omega) (by omega) (by omega) (λh=>by omega) (λh=>by omega)
      exact ⟨s,s1,s2,by omega,by omega,λh _=>s3 h,λh _=>s4 h,s5⟩
    obtain ⟨s,s1,s2,s3,s4,s5,s6,s7⟩:=hs;rw [s7];clear s7;obtain ⟨X1,X2,rfl,hn⟩:=Zfo X (s-P.length).toNat (by omega);obtain ⟨Y1,Y2,rfl,hn2⟩:=Zfo Y (mid-s).toNat (by omega);have hxl:(X1++X2).length=X1.length+X2.length:=by simp
    have hyl:(Y1++Y2).length=Y1.length+Y2.length:=by simp
    have es:s=(P.length:Int)+X1.length:=by omega
    have em:mid=(P.length:Int)+X1.length+Y1.length:=by omega
    obtain ⟨hX1,hX2,_⟩:=Hv key hX;obtain ⟨hY1,hY2,_⟩:=Hv key hY;have q3:∀ u∈X2,∀ v∈Y1,key v<key u:=by
     intro u hu v hv
     rcases List.eq_nil_or_concat Y1 with rfl | ⟨A,w,rfl⟩
     ·cases hv
     cases X2 with
     | nil=>cases hu
     | cons x B=>
      rw [List.concat_eq_append] at*
      have hx':(x::B).length=B.length+1:=rfl;have ha':(A++[w]).length=A.length+1:=by simp
      have hlen:(P++(X1++x::B)++A).length=P.length+(X1++x::B).length+A.length:=by simp;omega
      have h6:=s6 (by omega) (by omega);have r1:rd (P++((X1++x::B)++(((A++[w])++Y2)++Q))) s=x:=by have:=Zc3 (A:=P++X1) (B:=B++(A++[w]++Y2++Q)) (x:=x) (i:=s) (by simp;omega);simpa using this
      have r2:rd (P++((X1++x::B)++(((A++[w])++Y2)++Q))) (mid+((P.length:Int)+((X1++x::B).length:Int))-1-s)=w:=by have:=Zc3 (A:=P++(X1++x::B)++A) (B:=Y2++Q) (x:=w) (i:=mid+((P.length:Int)+((X1++x::B).length:Int))-1-s) (by omega);simpa using this
      rw [r1,r2] at h6;have a1:key v<=key w:=by
       obtain ⟨_,_,h⟩:=Hv key hY1
       rcases List.mem_append.1 hv with hv | hv
       ·exact h v hv w (by simp)
       ·rw [List.mem_singleton.1 hv];omega
      have a2:key x<=key u:=by
       rcases List.mem_cons.1 hu with rfl | hu
       ·omega
       ·exact hX2.1 u hu
      omega
    have q4:∀ u∈X1,∀ v∈Y2,key u<=key v:=by
     intro u hu v hv
     rcases List.eq_nil_or_concat X1 with rfl | ⟨A,w,rfl⟩
     ·cases hu
     cases Y2 with
     | nil=>cases hv
     | cons y B=>
      rw [List.concat_eq_append] at*
      have hy':(y::B).length=B.length+1:=rfl;have ha':(A++[w]).length=A.length+1:=by simp
      have hlen:(P++A).length=P.length+A.length:=by simp
      have hlen2:(P++((A++[w])++X2)++Y1).length=P.length+((A++[w])++X2).length+Y1.length:=by simp;omega
      have h5:=s5 (by omega) (by omega);have r1:rd (P++(((A++[w])++X2)++((Y1++y::B)++Q))) (s-1)=w:=by have:=Zc3 (A:=P++A) (B:=X2++(Y1++y::B++Q)) (x:=w) (i:=s-1) (by omega);simpa using this
      have r2:rd (P++(((A++[w])++X2)++((Y1++y::B)++Q))) (mid+((P.length:Int)+(((A++[w])++X2).length:Int))-s)=y:=by have:=Zc3 (A:=P++((A++[w])++X2)++Y1) (B:=B++Q) (x:=y) (i:=mid+((P.length:Int)+(((A++[w])++X2).length:Int))-s) (by omega);simpa using this
      rw [r1,r2] at h5;have a1:key u<=key w:=by
       obtain ⟨_,_,h⟩:=Hv key hX1
       rcases List.mem_append.1 hu with hu | hu
       ·exact h u hu w (by simp)
       ·rw [List.mem_singleton.1 hu];omega
      have a2:key y<=key v:=by
       rcases List.mem_cons.1 hv with rfl | hv
       ·omega
       ·exact hY2.1 v hv
      omega
    have e3:i64.wrap (mid+((P.length:Int)+((X1++X2).length:Int))-s)=mid+X2.length:=by rw [w64 (by omega) (by omega)];omega
    have hj2:∀ Z:List Int,Z.length=X1.length+Y1.length->Za.j2 (Za.f k) t (P.length:Int) ((P.length:Int)+((X1++X2).length:Int)) ((P.length:Int)+((X1++X2).length:Int)+((Y1++Y2).length:Int)) s (P++(Z++(X2++(Y2++Q))))=some (P++(Z++(Vg key (X2++Y2)++Q))):=by
     intro Z hZ;simp only [Za.j2,Za.j1,e0,e1,e3];by_cases d1:mid<mid+X2.length
     ·rw [if_pos d1]
      by_cases d2:mid+X2.length<(P.length:Int)+((X1++X2).length:Int)+((Y1++Y2).length:Int)
      ·rw [decide_eq_true d2,if_pos rfl]
       have:=ih (P++Z) X2 Y2 Q k (by omega) (by omega) (by omega) (by omega) hX2 hY2 (by simp;omega);have f1:((P++Z).length:Int)=mid:=by simp;omega
       have f2:mid+(X2.length:Int)+Y2.length=(P.length:Int)+((X1++X2).length:Int)+((Y1++Y2).length:Int):=by omega
       rw [f1,f2] at this;have f3:P++(Z++(X2++(Y2++Q)))=P++Z++(X2++(Y2++Q)):=by simp
       rw [f3,this];simp
      ·rw [decide_eq_false d2]
       have:Y2=[]:=List.eq_nil_of_length_eq_zero (by omega);subst this;simp only [Bool.false_eq_true,if_false,Zlf hX2,List.nil_append]
     ·rw [if_neg d1]
      have:X2=[]:=List.eq_nil_of_length_eq_zero (by omega);subst this;simp only [Bool.false_eq_true,if_false,List.nil_append,Zf1 key hY2]
    have hj4:Za.j4 (Za.f k) t (P.length:Int) ((P.length:Int)+((X1++X2).length:Int)) ((P.length:Int)+((X1++X2).length:Int)+((Y1++Y2).length:Int)) s (P++(X1++(Y1++(X2++(Y2++Q)))))=some (P++(Vg key (X1++Y1)++(Vg key (X2++Y2)++Q))):=by
     have hz:=hj2 (Vg key (X1++Y1)) (by rw [Zbc];simp);simp only [Za.j4,Za.j3,e0];by_cases d1:(P.length:Int)<s
     ·rw [if_pos d1]
      by_cases d2:s<mid
      ·rw [decide_eq_true d2,if_pos rfl]
       have:=ih P X1 Y1 (X2++(Y2++Q)) k (by omega) (by omega) (by omega) (by omega) hX1 hY1 (by simp;omega);rw [<- es,show s+(Y1.length:Int)=mid by omega] at this;rw [this,Option.bind_some,hz]
      ·rw [decide_eq_false d2]
       have:Y1=[]:=List.eq_nil_of_length_eq_zero (by omega);subst this;rw [Zlf hX1] at hz ⊢;simp only [Bool.false_eq_true,if_false,List.nil_append] at hz ⊢;exact hz
     ·rw [if_neg d1]
      have:X1=[]:=List.eq_nil_of_length_eq_zero (by omega);subst this;rw [Zr7 hY1] at hz ⊢;simp only [Bool.false_eq_true,if_false,List.nil_append] at hz ⊢;exact hz
    have goal:P++(Vg key ((X1++X2)++(Y1++Y2))++Q)=P++(Vg key (X1++Y1)++(Vg key (X2++Y2)++Q)):=by rw [Zp9 key hX hY q3 q4];simp
    rw [goal,<- hj4];have f4:P++((X1++X2)++((Y1++Y2)++Q))=P++(X1++(X2++(Y1++(Y2++Q)))):=by simp
    rw [f4];have f5:mid+((P.length:Int)+((X1++X2).length:Int))-s=mid+X2.length:=by omega
    rw [f5];by_cases d1:s<(P.length:Int)+((X1++X2).length:Int)
    ·rw [if_pos d1]
     by_cases d2:(P.length:Int)+((X1++X2).length:Int)<mid+X2.length
     ·rw [decide_eq_true d2]
      simp only [Za.j5,if_true,e0,e1,e3];have:=Z1o (t:=t) (P++X1) X2 Y1 (Y2++Q) (by omega) (by omega) (by simp;omega);have f1:((P++X1).length:Int)=s:=by simp;omega
      have f2:s+(X2.length:Int)=(P.length:Int)+((X1++X2).length:Int):=by omega
      have f3:(P.length:Int)+((X1++X2).length:Int)+(Y1.length:Int)=mid+X2.length:=by omega
      rw [f1,f2,f3] at this;have f6:P++(X1++(X2++(Y1++(Y2++Q))))=P++X1++(X2++(Y1++(Y2++Q))):=by simp
      rw [f6,this,Option.bind_some];simp
     ·rw [decide_eq_false d2]
      have:Y1=[]:=List.eq_nil_of_length_eq_zero (by omega);subst this;simp only [Za.j5,Bool.false_eq_true,if_false,List.nil_append]
    ·rw [if_neg d1]
     have:X2=[]:=List.eq_nil_of_length_eq_zero (by omega);subst this;simp only [Za.j5,Bool.false_eq_true,if_false,List.nil_append]
end
end
section
open Go.IntKind (i8 i16 i32 i64 u8 u16 u32 u64)
open Go.RowKit
section
variable {t:Option Tbs} {key:Int->Int}
def Zo3 (key:Int->Int) (n:Nat) (Bs:List (List Int)):Prop:=∀ B∈Bs,Srt key B/\B.length=n
theorem Zj8 {n:Nat}:∀ {Bs:List (List Int)},Zo3 key n Bs->Bs.flatten.length=Bs.length*n
 | [],_=>by simp
 | B::Bs,h=>by
  have h1:=(h B (by simp)).2
  have h2:=Zj8 (Bs:=Bs) (λC hC=>h C (by simp [hC]))
  simp [h1,h2,Nat.add_mul];omega
theorem Zzk (hc:Cmp t key) (go:List Int->Int->Option (List Int)) (bs N:Nat) (h0:0<bs):∀ (n:Nat) (Bs:List (List Int)) (D E:List Int) (k:Nat),Bs.length<=n->n<k->Zo3 key bs Bs->Srt key E->E.length<bs->D.length+Bs.flatten.length+E.length=N->N<=Z2->bs<N->
  ∃ Cs E',Zo3 key (2*bs) Cs/\Srt key E'/\E'.length<2*bs/\Feq key (Cs.flatten++E') (Bs.flatten++E)/\(Cs.flatten++E').length=(Bs.flatten++E).length/\
   Zh.l1 go k t (N:Int) (bs:Int) (D++(Bs.flatten++E)) (D.length:Int) ((D.length:Int)+2*bs)=go (D++(Cs.flatten++E')) (2*(bs:Int)):=by
 intro n
 induction n with
 | zero=>
  intro Bs D E k h1 hk hB hE hl hN hb hbs;obtain ⟨k,rfl⟩:∃ j,k=j+1:=⟨k-1,by omega⟩;obtain rfl:=List.eq_nil_of_length_eq_zero (Nat.le_zero.1 h1);unfold Z2 at hb;simp only [List.flatten_nil,List.length_nil,Nat.add_zero] at hN;refine ⟨[],E,λC hC=>(by cases hC),hE,by omega,Feq.refl key _,rfl,?_⟩;have w1:i64.wrap ((D.length:Int)+bs)=(D.length:Int)+bs:=w64 (by omega) (by omega);have w2:i64.wrap ((bs:Int)*2)=2*(bs:Int):=by rw [w64 (by omega) (by omega)];omega
  simp only [Zh.l1,if_neg (show ¬ (D.length:Int)+2*bs<=(N:Int) by omega),w1,if_neg (show ¬ (D.length:Int)+bs<(N:Int) by omega),Zh.j1,w2]
 | succ n ih=>
  intro Bs D E k h1 hk hB hE hl hN hb hbs;obtain ⟨k,rfl⟩:∃ j,k=j+1:=⟨k-1,by omega⟩;have hb':=hb;unfold Z2 at hb';have w2:i64.wrap ((bs:Int)*2)=2*(bs:Int):=by rw [w64 (by omega) (by omega)];omega
  match Bs,h1,hB,hN with
  | [],h1,hB,hN=>
   simp only [List.flatten_nil,List.length_nil,Nat.add_zero] at hN;refine ⟨[],E,λC hC=>(by cases hC),hE,by omega,Feq.refl key _,rfl,?_⟩;have w1:i64.wrap ((D.length:Int)+bs)=(D.length:Int)+bs:=w64 (by omega) (by omega);simp only [Zh.l1,if_neg (show ¬ (D.length:Int)+2*bs<=(N:Int) by omega),w1,if_neg (show ¬ (D.length:Int)+bs<(N:Int) by omega),Zh.j1,w2]
  | [B],h1,hB,hN=>
   obtain ⟨hBs,hBl⟩:=hB B (by simp);simp only [List.flatten_cons,List.flatten_nil,List.append_nil] at hN;have w1:i64.wrap ((D.length:Int)+bs)=(D.length:Int)+bs:=w64 (by omega) (by omega);simp only [Zh.l1,if_neg (show ¬ (D.length:Int)+2*bs<=(N:Int) by omega),w1,Zh.j1,w2,List.flatten_cons,List.flatten_nil,List.append_nil];by_cases c:(D.length:Int)+bs<(N:Int)
   ·rw [if_pos c]
    have:=Zx0 hc (B.length+E.length) D B E [] K0 (Nat.le_refl _) (ltK (by unfold Z2;omega)) (by omega) (by omega) hBs hE (by simp;omega);rw [hBl] at this;have e1:(D.length:Int)+(bs:Int)+E.length=(N:Int):=by omega
    rw [e1] at this;simp only [List.append_nil] at this;rw [this,Option.bind_some];exact ⟨[],Vg key (B++E),λC hC=>(by cases hC),Zbx key _,by rw [Zbc];simp;omega,by simpa using Zba key (B++E),by simp [Zbc],rfl⟩
   ·rw [if_neg c]
    obtain rfl:=List.eq_nil_of_length_eq_zero (show E.length=0 by omega);exact ⟨[],B,λC hC=>(by cases hC),hBs,by omega,by simpa using Feq.refl key B,by simp,by simp⟩
  | B1::B2::Bs,h1,hB,hN=>
   obtain ⟨hs1,hl1⟩:=hB B1 (by simp);obtain ⟨hs2,hl2⟩:=hB B2 (by simp);have hBs:Zo3 key bs Bs:=λC hC=>hB C (by simp [hC]);simp only [List.flatten_cons,List.length_append] at hN;have w1:i64.wrap ((D.length:Int)+bs)=(D.length:Int)+bs:=w64 (by omega) (by omega);have w3:i64.wrap (2*(bs:Int))=2*(bs:Int):=w64 (by omega) (by omega);have w4:i64.wrap ((D.length:Int)+2*bs+2*bs)=(D.length:Int)+2*bs+2*bs:=w64 (by omega) (by omega);have:=Zx0 hc (B1.length+B2.length) D B1 B2 (Bs.flatten++E) K0 (Nat.le_refl _) (ltK (by unfold Z2;omega)) (by omega) (by omega) hs1 hs2 (by rw [List.length_append];omega);rw [hl1,hl2] at this;have e1:(D.length:Int)+(bs:Int)+bs=(D.length:Int)+2*bs:=by omega
   rw [e1] at this;have e2:D++((B1::B2::Bs).flatten++E)=D++(B1++(B2++(Bs.flatten++E))):=by simp
   simp only [Zh.l1,if_pos (show (D.length:Int)+2*bs<=(N:Int) by omega),w1,w3,w4,e2,this,Option.bind_some];have hsl:(Vg key (B1++B2)).length=2*bs:=by rw [Zbc];simp;omega
   obtain ⟨Cs,E',c1,c2,c3,c4,c5,c6⟩:=ih Bs (D++Vg key (B1++B2)) E k (by simp at h1;omega) (by omega) hBs hE hl (by rw [List.length_append,hsl];omega) hb hbs;have e3:((D++Vg key (B1++B2)).length:Int)=(D.length:Int)+2*bs:=by simp [hsl]
   rw [e3] at c6;have e4:D++(Vg key (B1++B2)++(Bs.flatten++E))=D++Vg key (B1++B2)++(Bs.flatten++E):=by simp
   rw [e4,c6];refine ⟨Vg key (B1++B2)::Cs,E',λC hC=>?_,c2,c3,?_,?_,by simp⟩
   ·rcases List.mem_cons.1 hC with rfl | hC
    ·exact ⟨Zbx key _,hsl⟩
    ·exact c1 C hC
   ·have:=Feq.app key (Zba key (B1++B2)) c4
    simpa using this
   ·simp only [List.flatten_cons,List.length_append] at c5 ⊢
    omega
theorem Zuo (hc:Cmp t key) (N:Nat) (hb:N<=Z2):∀ (n bs:Nat) (Bs:List (List Int)) (E:List Int) (k:Nat),0<bs->N-bs<=n->n<k->Zo3 key bs Bs->Srt key E->E.length<bs->(Bs.flatten++E).length=N->
  Zh.l2 k t (N:Int) (Bs.flatten++E) (bs:Int)=some (Vg key (Bs.flatten++E)):=by
 intro n;have hb':=hb;unfold Z2 at hb';have fin:∀ (bs:Nat) (Bs:List (List Int)) (E:List Int),0<bs->N<=bs->Zo3 key bs Bs->Srt key E->E.length<bs->(Bs.flatten++E).length=N->Srt key (Bs.flatten++E):=by
  intro bs Bs E h0 h1 hB hE hl hN;have:=Zj8 hB;simp only [List.length_append] at hN
  match Bs,hB,this with
  | [],_,_=>simpa using hE
  | [B],hB,this=>
   have e:=(hB B (by simp)).2;simp at this hN;obtain rfl:=List.eq_nil_of_length_eq_zero (show E.length=0 by omega);simpa using (hB B (by simp)).1
  | B1::B2::Bs,hB,this=>
   simp only [List.length_cons] at this;rw [Nat.add_mul,Nat.add_mul] at this;omega
 induction n with
 | zero=>
  intro bs Bs E k h0 h1 hk hB hE hl hN;obtain ⟨k,rfl⟩:∃ j,k=j+1:=⟨k-1,by omega⟩;simp only [Zh.l2,if_neg (show ¬ (bs:Int)<(N:Int) by omega),Zf1 key (fin bs Bs E h0 (by omega) hB hE hl hN)]
 | succ n ih=>
  intro bs Bs E k h0 h1 hk hB hE hl hN;obtain ⟨k,rfl⟩:∃ j,k=j+1:=⟨k-1,by omega⟩;by_cases c:(bs:Int)<(N:Int)
  ·have w3:i64.wrap (2*(bs:Int))=2*(bs:Int):=w64 (by omega) (by omega)
   have hfl:=Zj8 hB;have hBl:Bs.length<=N:=by simp only [List.length_append] at hN;have:Bs.length*1<=Bs.length*bs:=Nat.mul_le_mul_left _ h0;omega
   obtain ⟨Cs,E',c1,c2,c3,c4,c5,c6⟩:=Zzk hc (Zh.l2 k t (N:Int)) bs N h0 N Bs [] E K0 hBl (ltK hb) hB hE hl (by simpa using hN) hb (by omega);simp only [List.length_nil,List.nil_append] at c6;have e1:((0:Nat):Int)+2*(bs:Int)=2*bs:=by omega
   rw [e1] at c6;simp only [Zh.l2,if_pos c,w3];have e2:((0:Nat):Int)=0:=rfl;rw [e2] at c6;rw [c6];have:=ih (2*bs) Cs E' k (by omega) (by omega) (by omega) c1 c2 c3 (by rw [c5,hN]);have e3:((2*bs:Nat):Int)=2*(bs:Int):=by omega
   rw [e3] at this;rw [this,Zle key c4]
  ·simp only [Zh.l2,if_neg c,Zf1 key (fin bs Bs E h0 (by omega) hB hE hl hN)]
theorem Zrb (hc:Cmp t key) (N:Nat) (hb:N<=Z2):∀ (n:Nat) (R D:List Int) (k:Nat),R.length<=n->n<k->D.length+R.length=N->
  ∃ Bs E,Zo3 key 20 Bs/\Srt key E/\E.length<20/\Feq key (Bs.flatten++E) R/\(Bs.flatten++E).length=R.length/\
   Zh.l3 k t (N:Int) (D++R) (D.length:Int) ((D.length:Int)+20)=Zh.l2 K0 t (N:Int) (D++(Bs.flatten++E)) 20:=by
 intro n;have hb':=hb;unfold Z2 at hb';have fin:∀ (R D:List Int) (k:Nat),D.length+R.length=N->R.length<20->∃ Bs E,Zo3 key 20 Bs/\Srt key E/\E.length<20/\Feq key (Bs.flatten++E) R/\(Bs.flatten++E).length=R.length/\
   Zh.l3 (k+1) t (N:Int) (D++R) (D.length:Int) ((D.length:Int)+20)=Zh.l2 K0 t (N:Int) (D++(Bs.flatten++E)) 20:=by
  intro R D k hN hR;have:=Zwr hc D R [] (by simp;omega);have e1:(D.length:Int)+R.length=(N:Int):=by omega
  rw [e1] at this;simp only [List.append_nil] at this;refine ⟨[],Vg key R,λC hC=>(by cases hC),Zbx key _,by rw [Zbc];omega,by simpa using Zba key R,by simp [Zbc],?_⟩;simp only [Zh.l3,if_neg (show ¬ (D.length:Int)+20<=(N:Int) by omega),this,Option.bind_some,List.flatten_nil,List.nil_append]
 induction n with
 | zero=>
  intro R D k h1 hk hN;obtain ⟨k,rfl⟩:∃ j,k=j+1:=⟨k-1,by omega⟩;exact fin R D k hN (by omega)
 | succ n ih=>
  intro R D k h1 hk hN;obtain ⟨k,rfl⟩:∃ j,k=j+1:=⟨k-1,by omega⟩;by_cases c:R.length<20
  ·exact fin R D k hN c
  ·obtain ⟨B,R,rfl,hB⟩:=Zfo R 20 (by omega)
   have hrl:(B++R).length=B.length+R.length:=by simp
   have:=Zwr hc D B R (by omega);rw [hB] at this;have w1:i64.wrap ((D.length:Int)+20+20)=(D.length:Int)+20+20:=w64 (by omega) (by omega);have e0:((20:Nat):Int)=20:=rfl;rw [e0] at this;simp only [Zh.l3,if_pos (show (D.length:Int)+20<=(N:Int) by omega),this,Option.bind_some,w1];have hsl:(Vg key B).length=20:=by rw [Zbc];exact hB
   have hdl:(D++Vg key B).length=D.length+20:=by simp [hsl]
   obtain ⟨Bs,E,c1,c2,c3,c4,c5,c6⟩:=ih R (D++Vg key B) k (by omega) (by omega) (by omega);have e3:((D++Vg key B).length:Int)=(D.length:Int)+20:=by omega
   rw [e3] at c6;have e4:D++(Vg key B++R)=D++Vg key B++R:=by simp
   rw [e4,c6];refine ⟨Vg key B::Bs,E,λC hC=>?_,c2,c3,?_,?_,by simp⟩
   ·rcases List.mem_cons.1 hC with rfl | hC
    ·exact ⟨Zbx key _,hsl⟩
    ·exact c1 C hC
   ·have:=Feq.app key (Zba key B) c4
    simpa using this
   ·simp only [List.flatten_cons,List.length_append] at c5 ⊢
    omega
theorem Z2r (hc:Cmp t key) (ys:List Int) (hb:ys.length<=Z2):Qt.f ys t=some (Vg key ys):=by
 unfold Qt.f Zh.f;obtain ⟨Bs,E,c1,c2,c3,c4,c5,c6⟩:=Zrb hc ys.length hb ys.length ys [] K0 (Nat.le_refl _) (ltK hb) (by simp);simp only [List.length_nil,List.nil_append] at c6;have e1:((0:Nat):Int)+20=20:=rfl;have e2:((0:Nat):Int)=0:=rfl;rw [e1,e2] at c6;rw [c6];have:=Zuo hc ys.length hb ys.length 20 Bs E K0 (by omega) (by omega) (ltK hb) c1 c2 c3 c5;have e3:((20:Nat):Int)=20:=rfl;rw [e3] at this;rw [this,Option.bind_some,Zle key c4]

def Cls (t:Option Tbs) (key:Int->Int):Prop:=∀ p,Kd.f t p=some (key p)
theorem Cls.cmp (h:Cls t key):Cmp t key:=by
 intro a b;simp only [Kz.f,h a,h b,Option.bind_some,Zah.f,H2.f,ne_eq,not_true_eq_false,decide_false,Bool.false_eq_true,if_false,cI];by_cases c:key a<key b
 ·simp [c]
 ·simp only [if_neg c]
  by_cases d:key b<key a
  ·simp [d]
  ·simp [d]
theorem Zxs (h:Cls t key) (go:List Int->Int->Option (List Int)) (A:List Int):∀ (R S:List Int) (k:Nat),R.length<k->(∀ x∈S,key x≠0)->A.length+S.length+R.length<=Z2->
  ∃ S' R',S++R=S'++R'/\(∀ x∈S',key x≠0)/\(∀ x B,R'=x::B->key x=0)/\
   Xj.l1 go k t (A++(S++R)) (A.length:Int) ((A.length:Int)+S.length)=go (A++(Vg key S'++R')) ((A.length:Int)+S'.length+1):=by
 have done:∀ (S R:List Int) (r:Option (List Int)) (go':Int->Option (List Int)),A.length+S.length+R.length<=Z2->Xj.j1 go go' t (A++(S++R)) (A.length:Int) ((A.length:Int)+S.length) false=go (A++(Vg key S++R)) ((A.length:Int)+S.length+1):=by
  intro S R _ go' hb;have hb':=hb;unfold Z2 at hb';have hl:(A++(S++R)).length=A.length+S.length+R.length:=by simp;omega
  have e1:sub (A++(S++R)) (A.length:Int) ((A.length:Int)+S.length)=S:=by
   have:((A.length:Int)+S.length).toNat=A.length+S.length:=by omega
   simp [sub,this,List.take_append]
  have e2:(A++(S++R)).take (A.length:Int).toNat=A:=by simp
  have e3:(A++(S++R)).drop ((A.length:Int)+S.length).toNat=R:=by
   have:((A.length:Int)+S.length).toNat=A.length+S.length:=by omega
   rw [this,<- List.append_assoc,List.drop_append_of_le_length (by simp)];simp
  simp only [Xj.j1,Bool.false_eq_true,if_false,hl,if_pos (show (0:Int)<=(A.length:Int)/\(A.length:Int)<=(A.length:Int)+S.length/\(A.length:Int)+(S.length:Int)<=((A.length+S.length+R.length:Nat):Int) by omega),e1,e2,e3,
   Z2r h.cmp S (by unfold Z2;omega),Option.bind_some,w64 (x:=(A.length:Int)+S.length+1) (by omega) (by omega)]
 intro R
 induction R with
 | nil=>
  intro S k hk hS hb;obtain ⟨k,rfl⟩:∃ j,k=j+1:=⟨k-1,by omega⟩;refine ⟨S,[],rfl,hS,λx B e=>(by cases e),?_⟩;have hl:(A++(S++[])).length=A.length+S.length:=by simp
  simp only [Xj.l1,hl,if_neg (show ¬ (A.length:Int)+S.length<((A.length+S.length:Nat):Int) by omega)];exact done S [] none _ hb
 | cons x R ih=>
  intro S k hk hS hb;obtain ⟨k,rfl⟩:∃ j,k=j+1:=⟨k-1,by omega⟩;have hb':=hb;unfold Z2 at hb';simp only [List.length_cons] at hk hb';have hl:(A++(S++x::R)).length=A.length+S.length+R.length+1:=by simp;omega
  have r1:rd (A++(S++x::R)) ((A.length:Int)+S.length)=x:=by have:=Zc3 (A:=A++S) (B:=R) (x:=x) (i:=(A.length:Int)+S.length) (by simp);simpa using this
  have g1:(0:Int)<=(A.length:Int)+S.length/\(A.length:Int)+(S.length:Int)<((A.length+S.length+R.length+1:Nat):Int):=by omega
  simp only [Xj.l1,hl,if_pos g1.2,if_pos g1,r1,h x,Option.bind_some];by_cases c:key x=0
  ·have:decide (key x≠0)=false:=by simp [c]
   rw [this];refine ⟨S,x::R,rfl,hS,λy B e=>?_,done S (x::R) none _ hb⟩;cases e;exact c
  ·have:decide (key x≠0)=true:=by simp [c]
   rw [this];simp only [Xj.j1,if_true,w64 (x:=(A.length:Int)+S.length+1) (by omega) (by omega)];obtain ⟨S',R',q1,q2,q3,q4⟩:=ih (S++[x]) k (by omega) (λy hy=>by
    rcases List.mem_append.1 hy with hy | hy
    ·exact hS y hy
    ·rw [List.mem_singleton.1 hy];exact c) (by simp at hb ⊢;omega)
   have e1:(A.length:Int)+((S++[x]).length:Int)=(A.length:Int)+S.length+1:=by simp;omega
   rw [e1] at q4;have e2:A++(S++x::R)=A++(S++[x]++R):=by simp
   rw [e2,q4];exact ⟨S',R',by rw [<- q1];simp,q2,q3,rfl⟩
theorem Zxb (h:Cls t key):∀ (n:Nat) (R A:List Int) (k:Nat),R.length<=n->n+1<k->A.length+R.length<=Z2->
  Xj.l2 k t (A++R) (A.length:Int)=some (A++Zik key R):=by
 intro n
 induction n with
 | zero=>
  intro R A k h1 hk hb;obtain ⟨k,rfl⟩:∃ j,k=j+1:=⟨k-1,by omega⟩;obtain rfl:=List.eq_nil_of_length_eq_zero (Nat.le_zero.1 h1);simp only [Xj.l2,List.append_nil,if_neg (show ¬ (A.length:Int)<(A.length:Int) by omega)];simp [Zik,Zij,Vg]
 | succ n ih=>
  intro R A k h1 hk hb;obtain ⟨k,rfl⟩:∃ j,k=j+1:=⟨k-1,by omega⟩;have hb':=hb;unfold Z2 at hb';by_cases c:R.length=0
  ·obtain rfl:=List.eq_nil_of_length_eq_zero c
   simp only [Xj.l2,List.append_nil,if_neg (show ¬ (A.length:Int)<(A.length:Int) by omega)];simp [Zik,Zij,Vg]
  ·have hl:(A++R).length=A.length+R.length:=by simp
   simp only [Xj.l2,hl,if_pos (show (A.length:Int)<((A.length+R.length:Nat):Int) by omega)];obtain ⟨S,R',q1,q2,q3,q4⟩:=Zxs h (Xj.l2 k t) A R [] K0 (ltK (by unfold Z2;omega)) (λx hx=>(by cases hx)) (by simpa using hb);simp only [List.nil_append] at q1 q4;have e1:(A.length:Int)+(([]:List Int).length:Int)=(A.length:Int):=by simp
   rw [e1] at q4;rw [q4];subst q1
   cases R' with
   | nil=>
    obtain ⟨k,rfl⟩:∃ j,k=j+1:=⟨k-1,by omega⟩;have hl2:(A++(Vg key S++[])).length=A.length+S.length:=by simp [Zbc]
    simp only [Xj.l2,hl2,if_neg (show ¬ (A.length:Int)+S.length+1<((A.length+S.length:Nat):Int) by omega)];have:=Zk2 key S [] [] q2;simp only [List.append_nil,List.nil_append] at this;simp only [Zik,List.append_nil,this,Zij]
   | cons x B=>
    have hx:=q3 x B rfl;have:=ih B (A++(Vg key S++[x])) k (by simp at h1;omega) (by omega) (by simp [Zbc] at hb ⊢;omega);have e2:((A++(Vg key S++[x])).length:Int)=(A.length:Int)+S.length+1:=by simp [Zbc];omega
    rw [e2] at this;have e3:A++(Vg key S++x::B)=A++(Vg key S++[x])++B:=by simp
    rw [e3,this];have h2:=Zk2 key S [] (x::B) q2;simp only [List.nil_append] at h2;simp only [Zik,h2,Zij,if_pos hx];simp
theorem Zxa (h:Cls t key) (l:List Int) (hb:l.length<=Z2):Xj.f t l=some (Zik key l):=by
 have hcl:Y7.f l=some l:=by rw [Y7.f,if_pos (by unfold Z2 at hb;unfold most;simp;omega)];rfl
 unfold Xj.f;rw [hcl,Option.bind_some];have:=Zxb h l.length l [] K0 (Nat.le_refl _) (by unfold Z2 at hb;unfold K0;omega) (by simpa using hb);simpa using this
end
end
section
open Go.RowKit

def H1 (lo hi:Int):Bool:=(decide (lo<=4370)&&decide (4352<=hi))||(decide (lo<=4469)&&decide (4449<=hi))||(decide (lo<=4546)&&decide (4520<=hi))||(decide (lo<=55203)&&decide (44032<=hi))
def Zki (p:Int):Bool:=(decide (4352<=p)&&decide (p<=4370))||(decide (4449<=p)&&decide (p<=4469))||(decide (4520<=p)&&decide (p<=4546))||(decide (44032<=p)&&decide (p<=55203))
def Zdk (p:Int):Bool:=(decide (0<=p)&&decide (p<55296))||(decide (57343<p)&&decide (p<=1114111))
theorem Zi6 (lo hi:Int):Y3.f lo hi=some (H1 lo hi):=by
 unfold Y3.f H1;simp only [Y3.j1];repeat' split
 all_goals (simp [*]<;>try omega)
theorem Zru (p:Int):Xu.f p=some (Zki p):=by
 unfold Xu.f Zki;simp only [Xu.j1];repeat' split
 all_goals (simp [*]<;>try omega)
theorem Zlb (p:Int):Vb.f p=some (Zdk p):=by
 unfold Vb.f Zdk;simp only [Vb.j1];repeat' split
 all_goals (simp [*]<;>try omega)
theorem Zql (p:Int):J8.f p=some (!Zdk p):=by
 unfold J8.f Zdk;simp only [J8.j1];by_cases a:p<0
 ·simp [a,show ¬ 0<=p by omega,show ¬ 57343<p by omega]
 ·by_cases b:1114111<p
  ·simp [a,b,show ¬ p<55296 by omega,show ¬ p<=1114111 by omega]
  ·by_cases c:55296<=p
   ·by_cases d:p<=57343
    ·simp [a,b,c,d,show ¬ p<55296 by omega,show ¬ 57343<p by omega]
    ·simp [a,b,c,d,show ¬ p<55296 by omega,show 57343<p by omega,show p<=1114111 by omega]
   ·simp [a,b,c,show 0<=p by omega,show p<55296 by omega]
theorem Zp3 (l:List Int) (hl:l.length<=Z2):∃ r,Yt.f l=some r/\Zaw r (l.all Zdk):=by
 refine Qf (λk i (_:Unit)=>Yt.l1 k l i) l (λpre t _ o=>∃ r,o=some r/\Zaw r (t.all Zdk)) ?_ ?_ () K0 (ltK hl)
 ·intro _ k
  exact ⟨-1,by simp only [Yt.l1,if_neg (show ¬ (l.length:Int)<(l.length:Int) by omega)],.inl ⟨rfl,rfl⟩⟩
 ·intro pre x t _ k e ih
  obtain ⟨h1,h2⟩:=mid e;simp only [Yt.l1,if_pos h2.2,if_pos h2,h1,Zql,Option.bind_some,nxt hl e,List.all_cons]
  cases c:Zdk x with
  | false=>exact ⟨pre.length,by simp,.inr ⟨by simp,by omega⟩⟩
  | true=>simpa using ih ()
def Hd (l:List Int) (a b:Int):Bool:=decide (a<=(l.length:Int))&&decide ((l.length:Int)<=b)&&l.all Zdk
theorem Zdl (l:List Int) (a b:Int) (hb:b<=1000):Kh.f l a b=some (Hd l a b):=by
 unfold Kh.f Hd;by_cases h1:a<=(l.length:Int)
 ·by_cases h2:(l.length:Int)<=b
  ·obtain ⟨r,h3,h4⟩:=Zp3 l (by unfold Z2;omega)
   simp only [if_pos h1,if_pos h2,Kp.f,h3,Option.bind_some,h4.val,Kh.j1,Bool.not_not];simp [h1,h2]
  ·simp [h1,h2,Kh.j1]
 ·simp [h1,Kh.j1]
theorem Zp4 (lo hi:Int) (l:List Spn) (hl:l.length<=Z2):∃ r,Ya.f l lo hi=some r/\Zaw r (!l.any λh=>decide (lo<=h.hi)&&decide (h.lo<=hi)):=by
 refine Qf (λk i (_:Unit)=>Ya.l1 k lo hi l i) l (λpre t _ o=>∃ r,o=some r/\Zaw r (!t.any λh=>decide (lo<=h.hi)&&decide (h.lo<=hi))) ?_ ?_ () K0 (ltK hl)
 ·intro _ k
  exact ⟨-1,by simp only [Ya.l1,if_neg (show ¬ (l.length:Int)<(l.length:Int) by omega)],.inl ⟨rfl,rfl⟩⟩
 ·intro pre x t _ k e ih
  obtain ⟨h1,h2⟩:=mid e;simp only [Ya.l1,if_pos h2.2,if_pos h2,h1,K5.f,K5.j1,nxt hl e,List.any_cons];by_cases c1:lo<=x.hi
  ·by_cases c2:x.lo<=hi
   ·exact ⟨pre.length,by simp [c1,c2],.inr ⟨by simp [c1,c2],by omega⟩⟩
   ·simpa [c1,c2] using ih ()
  ·simpa [c1] using ih ()
theorem Zr8 (s:Spn):Za4.f s=some (H1 s.lo s.hi):=by
 unfold Za4.f Zcd.f;simp only [Option.bind_some,Qm.f];obtain ⟨r,h1,h2⟩:=Zp4 s.lo s.hi [⟨4352,4370⟩,⟨4449,4469⟩,⟨4520,4546⟩,⟨44032,55203⟩] (by decide);rw [h1];simp only [Option.bind_some,h2.val,Bool.not_not];congr 1;exact (show ∀ a b c d:Bool,(a||(b||(c||(d||false))))=(a||b||c||d) by decide) _ _ _ _
theorem Zmm (s:Spn):Zak.f s=some true:=rfl
theorem Zh7 (s:Spn):U0.f s=some (!H1 s.lo s.hi):=by
 unfold U0.f;rw [Zr8,Option.bind_some]
theorem Zt6 (x:Chs):Za3.f x=some (Hd x.is_ 1 18):=by
 unfold Za3.f;rw [Zdl x.is_ 1 18 (by decide),Option.bind_some]
theorem Zsa (x:Val) (a b:Int):Ki.f x a b=some (decide (a<=x.n)&&decide (x.n<=b)):=by
 unfold Ki.f;simp only [Ki.j1,V2.f,Zmm,Option.bind_some];by_cases h1:a<=x.n
 ·by_cases h2:x.n<=b<;>simp [h1,h2]
 ·simp [h1]
theorem Zsb (x:Val) (a b:Int):Kj.f x a b=some (decide (a<=x.n)&&decide (x.n<=b)&&!H1 x.lo x.hi):=by
 unfold Kj.f;simp only [Kj.j1,V2.f,Zh7,Option.bind_some];by_cases h1:a<=x.n
 ·by_cases h2:x.n<=b<;>simp [h1,h2]
 ·simp [h1]
def Zbh (x:Chs):Bool:=decide (x.lo=x.hi)&&Hd [x.lo] 1 1&&Hd x.is_ 1 2&&!H1 x.lo x.hi
theorem Zt7 (x:Chs):Qy.f x=some (Zbh x):=by
 unfold Qy.f Zbh;simp only [Qy.j1,Va.f,Zh7,Option.bind_some,Zdl [x.lo] 1 1 (by decide),Zdl x.is_ 1 2 (by decide)];by_cases h1:x.lo=x.hi
 ·rw [if_pos h1,decide_eq_true h1]
  cases h2:Hd [x.lo] 1 1<;>cases h3:Hd x.is_ 1 2<;>simp
 ·rw [if_neg h1,decide_eq_false h1];simp
def H4 {α:Type} (lo hi:α->Int) (may:α->Bool) (l:List α):Bool:=decide (l.length<=65536)&&Vj lo hi may (-1) l
theorem Zhs (a b:Int) (l:List Val):∃ r,Zv.f l a b=some r/\Zaw r (H4 (·.lo) (·.hi) (λx:Val=>decide (a<=x.n)&&decide (x.n<=b)) l):=by
 unfold Zv.f H4;by_cases h:(65536:Int)<l.length
 ·exact ⟨65536,by rw [if_pos h],.inr ⟨by simp [show ¬ l.length<=65536 by omega],by decide⟩⟩
 ·rw [if_neg h]
  have hl:l.length<=Z2:=by unfold Z2;omega
  simp only [show l.length<=65536 by omega,decide_true,Bool.true_and];refine Qf (λk i last=>Zv.l1 k a b l last i) l (λpre t last o=>∃ r,o=some r/\Zaw r (Vj (·.lo) (·.hi) (λx:Val=>decide (a<=x.n)&&decide (x.n<=b)) last t)) ?_ ?_ (-1) K0 (ltK hl)
  ·intro last k
   exact ⟨-1,by simp only [Zv.l1,if_neg (show ¬ (l.length:Int)<(l.length:Int) by omega)],.inl ⟨rfl,rfl⟩⟩
  ·intro pre x t last k e ih
   obtain ⟨h1,h2⟩:=mid e;simp only [Zv.l1,if_pos h2.2,if_pos h2,h1,V2.f,Option.bind_some,Zsa,Zv.j1,nxt hl e];by_cases c1:x.lo<=last
   ·exact ⟨pre.length,by simp [c1],.inr ⟨Qz (.inl c1),by omega⟩⟩
   ·by_cases c2:x.hi<x.lo
    ·exact ⟨pre.length,by simp [c1,c2],.inr ⟨Qz (.inr (.inl c2)),by omega⟩⟩
    ·by_cases c3:1114111<x.hi
     ·exact ⟨pre.length,by simp [c1,c2,c3],.inr ⟨Qz (.inr (.inr (.inl c3))),by omega⟩⟩
     ·rw [if_neg c1,if_neg c2,if_neg c3]
      cases c4:(decide (a<=x.n)&&decide (x.n<=b)) with
      | false=>exact ⟨pre.length,by simp,.inr ⟨Qz (.inr (.inr (.inr c4))),by omega⟩⟩
      | true=>
       rw [Za6 c1 c2 c3 c4];simpa using ih x.hi
theorem Zry (a b:Int) (l:List Val):∃ r,Zw.f l a b=some r/\Zaw r (H4 (·.lo) (·.hi) (λx:Val=>decide (a<=x.n)&&decide (x.n<=b)&&!H1 x.lo x.hi) l):=by
 unfold Zw.f H4;by_cases h:(65536:Int)<l.length
 ·exact ⟨65536,by rw [if_pos h],.inr ⟨by simp [show ¬ l.length<=65536 by omega],by decide⟩⟩
 ·rw [if_neg h]
  have hl:l.length<=Z2:=by unfold Z2;omega
  simp only [show l.length<=65536 by omega,decide_true,Bool.true_and];refine Qf (λk i last=>Zw.l1 k a b l last i) l (λpre t last o=>∃ r,o=some r/\Zaw r (Vj (·.lo) (·.hi) (λx:Val=>decide (a<=x.n)&&decide (x.n<=b)&&!H1 x.lo x.hi) last t)) ?_ ?_ (-1) K0 (ltK hl)
  ·intro last k
   exact ⟨-1,by simp only [Zw.l1,if_neg (show ¬ (l.length:Int)<(l.length:Int) by omega)],.inl ⟨rfl,rfl⟩⟩
  ·intro pre x t last k e ih
   obtain ⟨h1,h2⟩:=mid e;simp only [Zw.l1,if_pos h2.2,if_pos h2,h1,V2.f,Option.bind_some,Zsb,Zw.j1,nxt hl e];by_cases c1:x.lo<=last
   ·exact ⟨pre.length,by simp [c1],.inr ⟨Qz (.inl c1),by omega⟩⟩
   ·by_cases c2:x.hi<x.lo
    ·exact ⟨pre.length,by simp [c1,c2],.inr ⟨Qz (.inr (.inl c2)),by omega⟩⟩
    ·by_cases c3:1114111<x.hi
     ·exact ⟨pre.length,by simp [c1,c2,c3],.inr ⟨Qz (.inr (.inr (.inl c3))),by omega⟩⟩
     ·rw [if_neg c1,if_neg c2,if_neg c3]
      cases c4:(decide (a<=x.n)&&decide (x.n<=b)&&!H1 x.lo x.hi) with
      | false=>exact ⟨pre.length,by simp,.inr ⟨Qz (.inr (.inr (.inr c4))),by omega⟩⟩
      | true=>
       rw [Za6 c1 c2 c3 c4];simpa using ih x.hi
theorem Zqg (l:List Chs):∃ r,Zu.f l=some r/\Zaw r (H4 (·.lo) (·.hi) Zbh l):=by
 unfold Zu.f H4;by_cases h:(65536:Int)<l.length
 ·exact ⟨65536,by rw [if_pos h],.inr ⟨by simp [show ¬ l.length<=65536 by omega],by decide⟩⟩
 ·rw [if_neg h]
  have hl:l.length<=Z2:=by unfold Z2;omega
  simp only [show l.length<=65536 by omega,decide_true,Bool.true_and];refine Qf (λk i last=>Zu.l1 k l last i) l (λpre t last o=>∃ r,o=some r/\Zaw r (Vj (·.lo) (·.hi) Zbh last t)) ?_ ?_ (-1) K0 (ltK hl)
  ·intro last k
   exact ⟨-1,by simp only [Zu.l1,if_neg (show ¬ (l.length:Int)<(l.length:Int) by omega)],.inl ⟨rfl,rfl⟩⟩
  ·intro pre x t last k e ih
   obtain ⟨h1,h2⟩:=mid e;simp only [Zu.l1,if_pos h2.2,if_pos h2,h1,Va.f,Option.bind_some,Zt7,Zu.j1,nxt hl e];by_cases c1:x.lo<=last
   ·exact ⟨pre.length,by simp [c1],.inr ⟨Qz (.inl c1),by omega⟩⟩
   ·by_cases c2:x.hi<x.lo
    ·exact ⟨pre.length,by simp [c1,c2],.inr ⟨Qz (.inr (.inl c2)),by omega⟩⟩
    ·by_cases c3:1114111<x.hi
     ·exact ⟨pre.length,by simp [c1,c2,c3],.inr ⟨Qz (.inr (.inr (.inl c3))),by omega⟩⟩
     ·rw [if_neg c1,if_neg c2,if_neg c3]
      cases c4:Zbh x with
      | false=>exact ⟨pre.length,by simp,.inr ⟨Qz (.inr (.inr (.inr c4))),by omega⟩⟩
      | true=>
       rw [Za6 c1 c2 c3 c4];simpa using ih x.hi
theorem Zu2 (l:List Spn):∃ r,Z5.f l=some r/\Zaw r (H4 (·.lo) (·.hi) (λx:Spn=>!H1 x.lo x.hi) l):=by
 unfold Z5.f H4;by_cases h:(65536:Int)<l.length
 ·exact ⟨65536,by rw [if_pos h],.inr ⟨by simp [show ¬ l.length<=65536 by omega],by decide⟩⟩
 ·rw [if_neg h]
  have hl:l.length<=Z2:=by unfold Z2;omega
  simp only [show l.length<=65536 by omega,decide_true,Bool.true_and];refine Qf (λk i last=>Z5.l1 k l last i) l (λpre t last o=>∃ r,o=some r/\Zaw r (Vj (·.lo) (·.hi) (λx:Spn=>!H1 x.lo x.hi) last t)) ?_ ?_ (-1) K0 (ltK hl)
  ·intro last k
   exact ⟨-1,by simp only [Z5.l1,if_neg (show ¬ (l.length:Int)<(l.length:Int) by omega)],.inl ⟨rfl,rfl⟩⟩
  ·intro pre x t last k e ih
   obtain ⟨h1,h2⟩:=mid e;simp only [Z5.l1,if_pos h2.2,if_pos h2,h1,Zal.f,Option.bind_some,Zh7,Z5.j1,nxt hl e];by_cases c1:x.lo<=last
   ·exact ⟨pre.length,by simp [c1],.inr ⟨Qz (.inl c1),by omega⟩⟩
   ·by_cases c2:x.hi<x.lo
    ·exact ⟨pre.length,by simp [c1,c2],.inr ⟨Qz (.inr (.inl c2)),by omega⟩⟩
    ·by_cases c3:1114111<x.hi
     ·exact ⟨pre.length,by simp [c1,c2,c3],.inr ⟨Qz (.inr (.inr (.inl c3))),by omega⟩⟩
     ·rw [if_neg c1,if_neg c2,if_neg c3]
      cases c4:(!H1 x.lo x.hi) with
      | false=>exact ⟨pre.length,by simp,.inr ⟨Qz (.inr (.inr (.inr c4))),by omega⟩⟩
      | true=>
       rw [Za6 c1 c2 c3 c4];simpa using ih x.hi
theorem Zrx (l:List Spn):∃ r,Z4.f l=some r/\Zaw r (H4 (·.lo) (·.hi) (λ_:Spn=>true) l):=by
 unfold Z4.f H4;by_cases h:(65536:Int)<l.length
 ·exact ⟨65536,by rw [if_pos h],.inr ⟨by simp [show ¬ l.length<=65536 by omega],by decide⟩⟩
 ·rw [if_neg h]
  have hl:l.length<=Z2:=by unfold Z2;omega
  simp only [show l.length<=65536 by omega,decide_true,Bool.true_and];refine Qf (λk i last=>Z4.l1 k l last i) l (λpre t last o=>∃ r,o=some r/\Zaw r (Vj (·.lo) (·.hi) (λ_:Spn=>true) last t)) ?_ ?_ (-1) K0 (ltK hl)
  ·intro last k
   exact ⟨-1,by simp only [Z4.l1,if_neg (show ¬ (l.length:Int)<(l.length:Int) by omega)],.inl ⟨rfl,rfl⟩⟩
  ·intro pre x t last k e ih
   obtain ⟨h1,h2⟩:=mid e;simp only [Z4.l1,if_pos h2.2,if_pos h2,h1,Zal.f,Option.bind_some,Zmm,Z4.j1,nxt hl e];by_cases c1:x.lo<=last
   ·exact ⟨pre.length,by simp [c1],.inr ⟨Qz (.inl c1),by omega⟩⟩
   ·by_cases c2:x.hi<x.lo
    ·exact ⟨pre.length,by simp [c1,c2],.inr ⟨Qz (.inr (.inl c2)),by omega⟩⟩
    ·by_cases c3:1114111<x.hi
     ·exact ⟨pre.length,by simp [c1,c2,c3],.inr ⟨Qz (.inr (.inr (.inl c3))),by omega⟩⟩
     ·rw [if_neg c1,if_neg c2,if_neg c3]
      rw [Za6 c1 c2 c3 rfl];simpa using ih x.hi
theorem Zu3 (l:List Chs):∃ r,Zt.f l=some r/\Zaw r (H4 (·.lo) (·.hi) (λx:Chs=>Hd x.is_ 1 18) l):=by
 unfold Zt.f H4;by_cases h:(65536:Int)<l.length
 ·exact ⟨65536,by rw [if_pos h],.inr ⟨by simp [show ¬ l.length<=65536 by omega],by decide⟩⟩
 ·rw [if_neg h]
  have hl:l.length<=Z2:=by unfold Z2;omega
  simp only [show l.length<=65536 by omega,decide_true,Bool.true_and];refine Qf (λk i last=>Zt.l1 k l last i) l (λpre t last o=>∃ r,o=some r/\Zaw r (Vj (·.lo) (·.hi) (λx:Chs=>Hd x.is_ 1 18) last t)) ?_ ?_ (-1) K0 (ltK hl)
  ·intro last k
   exact ⟨-1,by simp only [Zt.l1,if_neg (show ¬ (l.length:Int)<(l.length:Int) by omega)],.inl ⟨rfl,rfl⟩⟩
  ·intro pre x t last k e ih
   obtain ⟨h1,h2⟩:=mid e;simp only [Zt.l1,if_pos h2.2,if_pos h2,h1,Va.f,Option.bind_some,Zt6,Zt.j1,nxt hl e];by_cases c1:x.lo<=last
   ·exact ⟨pre.length,by simp [c1],.inr ⟨Qz (.inl c1),by omega⟩⟩
   ·by_cases c2:x.hi<x.lo
    ·exact ⟨pre.length,by simp [c1,c2],.inr ⟨Qz (.inr (.inl c2)),by omega⟩⟩
    ·by_cases c3:1114111<x.hi
     ·exact ⟨pre.length,by simp [c1,c2,c3],.inr ⟨Qz (.inr (.inr (.inl c3))),by omega⟩⟩
     ·rw [if_neg c1,if_neg c2,if_neg c3]
      cases c4:Hd x.is_ 1 18 with
      | false=>exact ⟨pre.length,by simp,.inr ⟨Qz (.inr (.inr (.inr c4))),by omega⟩⟩
      | true=>
       rw [Za6 c1 c2 c3 c4];simpa using ih x.hi
end
section
open Go.IntKind (i8 i16 i32 i64 u8 u16 u32 u64)
open Go.RowKit

theorem Zoi {a b:Nat} (h:a<=Z2) (hb:b<=1):a+b<=most:=by unfold Z2 at h;unfold most;omega
theorem Zdh {α β:Type} (L:Nat->Int->List β->Option (List β)) (xs:List α) (f:α->β) (hl:xs.length<=Z2)
  (hnil:∀ s k,L (k+1) (xs.length:Int) s=some s)
  (hcons:∀ pre x t s k,xs=pre++x::t->s.length+1<=most->L (k+1) (pre.length:Int) s=L k ((pre.length:Int)+1) (s++[f x])):L K0 0 []=some (xs.map f):=by
 have:=Qf (λk i s=>L k i s) xs (λpre t s o=>s.length=pre.length->o=some (s++t.map f)) (λs k hs=>by simp [hnil]) (λpre x t s k e ih hs=>by
  have hp:pre.length<=Z2:=by rw [e] at hl;simp at hl;omega
  show L (k+1) (pre.length:Int) s=_;rw [hcons pre x t s k e (by rw [hs];exact Zoi hp (Nat.le_refl _)),ih (s++[f x]) (by simp [hs])];simp) [] K0 (ltK hl) rfl
 simpa using this
theorem Zeg (l:List Val) (hl:l.length<=Z2):Q4.f l=some (l.map λx=>(⟨x.lo,x.hi⟩:Spn)):=by
 refine Zdh (λk i s=>Q4.l1 k l s i) l _ hl ?_ ?_
 ·intro s k
  simp only [Q4.l1,if_neg (show ¬ (l.length:Int)<(l.length:Int) by omega)]
 ·intro pre x t s k e hs
  obtain ⟨h1,h2⟩:=mid e;simp only [Q4.l1,if_pos h2.2,if_pos h2,h1,nxt hl e];exact if_pos hs
theorem Zfk (l:List Chs) (hl:l.length<=Z2):Ka.f l=some (l.map λx=>(⟨x.lo,x.hi⟩:Spn)):=by
 refine Zdh (λk i s=>Ka.l1 k l s i) l _ hl ?_ ?_
 ·intro s k
  simp only [Ka.l1,if_neg (show ¬ (l.length:Int)<(l.length:Int) by omega)]
 ·intro pre x t s k e hs
  obtain ⟨h1,h2⟩:=mid e;simp only [Ka.l1,if_pos h2.2,if_pos h2,h1,nxt hl e];exact if_pos hs
def Zcp (a b:Int) (apart:Bool) (x:Val):Bool:=decide (x.n<a)||decide (b<x.n)||(apart&&H1 x.lo x.hi)
theorem Zcm (l:List Val) (a b:Int) (apart:Bool) (hl:l.length<=Z2):Yo.f l a b apart=some (l.map (Zcp a b apart)):=by
 refine Zdh (λk i s=>Yo.l1 k l a b apart s i) l _ hl ?_ ?_
 ·intro s k
  simp only [Yo.l1,if_neg (show ¬ (l.length:Int)<(l.length:Int) by omega)]
 ·intro pre x t s k e hs
  obtain ⟨h1,h2⟩:=mid e;simp only [Yo.l1,if_pos h2.2,if_pos h2,h1,nxt hl e,Yo.j1,Zi6,Option.bind_some];have hone:∀ c:Bool,s.length+[c].length<=most:=λc=>hs;by_cases c1:x.n<a
  ·rw [if_pos c1,if_pos (hone _)];simp [Zcp,c1]
  ·rw [if_neg c1]
   by_cases c2:b<x.n
   ·rw [if_pos c2,if_pos (hone _)];simp [Zcp,c2]
   ·rw [if_neg c2]
    cases apart with
    | true=>rw [if_pos rfl,if_pos (hone _)];simp [Zcp,c1,c2]
    | false=>rw [if_neg (by decide),if_pos (hone _)];simp [Zcp,c1,c2]
def U5 (b:Int) (x:Chs):Bool:=!Hd x.is_ 1 b
theorem Zfm (x0:List Chs) (acc:List Bool) (i:Int) (go:List Bool->Int->Option (List Bool)) (l:List Int) (e:(rd x0 i).is_=l) (hl:l.length<=Z2) (b0:Bool) (hacc:acc.length+1<=most):
  Yg.l1 go K0 x0 acc i b0 0=go (acc++[b0||!l.all Zdk]) (i64.wrap (i+1)):=by
 refine Qf (λk j b=>Yg.l1 go k x0 acc i b j) l (λpre t b o=>o=go (acc++[b||!t.all Zdk]) (i64.wrap (i+1))) ?_ ?_ b0 K0 (ltK hl)
 ·intro b k
  simp only [Yg.l1,e,if_neg (show ¬ (l.length:Int)<(l.length:Int) by omega)];rw [if_pos (show acc.length+[b].length<=most from hacc)];simp
 ·intro pre x t b k e2 ih
  obtain ⟨h1,h2⟩:=mid e2;simp only [Yg.l1,e,if_pos h2.2,if_pos h2,h1,Yg.j1,nxt hl e2,Zlb,Option.bind_some]
  cases b with
  | true=>rw [if_pos rfl];simpa using ih true
  | false=>
   rw [if_neg (by decide),ih (!Zdk x)];cases h:Zdk x<;>simp [h]
theorem Zfl (l:List Chs) (b:Int) (hl:l.length<=Z2) (hi:∀ x∈l,x.is_.length<=Z2):Yg.f l b=some (l.map (U5 b)):=by
 refine Zdh (λk i s=>Yg.l2 k l b s i) l _ hl ?_ ?_
 ·intro s k
  simp only [Yg.l2,if_neg (show ¬ (l.length:Int)<(l.length:Int) by omega)]
 ·intro pre x t s k e hs
  obtain ⟨h1,h2⟩:=mid e;have hx:=hi x (by rw [e];simp);simp only [Yg.l2,if_pos h2.2,if_pos h2,h1,Yg.j2];by_cases c1:(x.is_.length:Int)<1
  ·rw [if_pos c1,Zfm l s _ _ x.is_ (by rw [h1]) hx true hs,nxt hl e]
   simp [U5,Hd,show ¬ (1:Int)<=(x.is_.length:Int) by omega]
  ·rw [if_neg c1,Zfm l s _ _ x.is_ (by rw [h1]) hx _ hs,nxt hl e]
   by_cases c2:b<(x.is_.length:Int)
   ·simp [U5,Hd,c2,show ¬ (x.is_.length:Int)<=b by omega]
   ·simp [U5,Hd,c2,show (1:Int)<=(x.is_.length:Int) by omega,show (x.is_.length:Int)<=b by omega]
def Zco (w:Bool) (x:Chs):Bool:=w||decide (x.lo≠x.hi)||Zki x.lo||!Zdk x.lo
theorem Zk9 (l:List Chs) (hl:l.length<=Z2) (hi:∀ x∈l,x.is_.length<=Z2):Yw.f l=some (l.map λx=>Zco (U5 2 x) x):=by
 unfold Yw.f;rw [Zfl l 2 hl hi,Option.bind_some];have:=Qf (λk i ws=>Yw.l1 k l ws i) l (λpre t ws o=>ws=(pre.map λx=>Zco (U5 2 x) x)++t.map (U5 2)->o=some (l.map λx=>Zco (U5 2 x) x)) (λws k hw=>by
  simp only [Yw.l1,if_neg (show ¬ (l.length:Int)<(l.length:Int) by omega)];simp [hw]) (λpre x t ws k e ih hw=>by
  obtain ⟨h1,h2⟩:=mid e;have hwl:ws.length=l.length:=by rw [hw,e];simp
  have hmid:=mid (xs:=ws) (pre:=pre.map λx=>Zco (U5 2 x) x) (x:=U5 2 x) (t:=t.map (U5 2)) (by rw [hw];simp);simp only [List.length_map] at hmid;have hset:∀ c:Bool,ws.set (pre.length:Int).toNat c=(pre.map λx=>Zco (U5 2 x) x)++c::t.map (U5 2):=λc=>by
   rw [hw,Int.toNat_natCast,List.set_append_right _ _ (by simp)];simp
  have fin:∀ c:Bool,c=Zco (U5 2 x) x->Yw.l1 k l (ws.set (pre.length:Int).toNat c) ((pre.length:Int)+1)=some (l.map λx=>Zco (U5 2 x) x):=λc hc=>by
   rw [hset];exact ih _ (by rw [hc];simp)
  simp only [Yw.l1,if_pos h2.2,if_pos h2,if_pos hmid.2,h1,hmid.1,Yw.j1,nxt hl e,Zru,Zlb,Option.bind_some];by_cases c1:U5 2 x=true
  ·rw [if_pos c1];exact fin true (by simp [Zco,c1])
  ·rw [if_neg c1]
   by_cases c2:x.lo≠x.hi
   ·rw [if_pos c2];exact fin true (by simp [Zco,c2])
   ·rw [if_neg c2]
    have c2':x.lo=x.hi:=Classical.not_not.1 c2;by_cases c3:Zki x.lo=true
    ·rw [if_pos c3];exact fin true (by simp [Zco,c3])
    ·rw [if_neg c3];exact fin _ (by simp at c1 c3;simp [Zco,c1,c2',c3];rw [<- c2'];simp [c3]))
  (l.map (U5 2)) K0 (ltK hl) (by simp)
 exact this
def Zgb (pre:List Spn):Int:=(pre.getLast?.map (·.hi)).getD (-1)
theorem Zzn (xs pre t:List Spn) (x:Spn) (hl:xs.length<=Z2) (e:xs=pre++x::t) (hpre:∀ y∈pre,0<=y.hi):
  U8.f xs (pre.length:Int)=some (decide (Zgb pre<x.lo)&&decide (x.lo<=x.hi)&&decide (x.hi<=1114111)):=by
 obtain ⟨h1,h2⟩:=mid e;unfold U8.f;simp only [if_pos h2,h1,U8.j1]
 rcases List.eq_nil_or_concat pre with hp | ⟨p,z,hp⟩
 ·subst hp
  simp only [Zgb,List.getLast?_nil,Option.map_none,Option.getD_none];by_cases c1:0<=x.lo
  ·by_cases c2:x.lo<=x.hi
   ·by_cases c3:x.hi<=1114111
    ·simp [c1,c2,c3,show (-1:Int)<x.lo by omega]
    ·simp [c1,c2,c3]
   ·simp [c1,c2]
  ·simp [c1,show ¬ (-1:Int)<x.lo by omega]
 ·subst hp
  have hz:0<=z.hi:=hpre z (by simp);obtain ⟨h3,h4⟩:=mid (xs:=xs) (pre:=p) (x:=z) (t:=x::t) (by rw [e];simp);have hlen:xs.length=p.length+1+(t.length+1):=by rw [e];simp;omega
  unfold Z2 at hl;have hw:i64.wrap (((p++[z]).length:Int)-1)=(p.length:Int):=by
   have e1:((p++[z]).length:Int)-1=(p.length:Int):=by simp
   rw [e1];exact w64 (by omega) (by omega)
  have hend:Zgb (p++[z])=z.hi:=by simp [Zgb]
  rw [List.concat_eq_append] at*
  simp only [hw,hend,h3,if_pos h4];have hne:¬ (((p++[z]).length:Int)=0):=by simp;omega
  by_cases c1:0<=x.lo
  ·by_cases c2:x.lo<=x.hi
   ·by_cases c3:x.hi<=1114111
    ·rw [if_pos c1,if_pos c2,if_pos c3,if_neg hne];simp [c2,c3]
    ·simp [c1,c2,c3]
   ·simp [c1,c2]
  ·simp [c1,show ¬ z.hi<x.lo by omega]
theorem Zxo (xs:List Spn) (ws:List Bool) (hw:ws.length=xs.length):∃ r,Yz.f xs ws=some r/\Zaw r (H4 (λp:Spn×Bool=>p.1.lo) (λp=>p.1.hi) (λp=>!p.2) (xs.zip ws)):=by
 unfold Yz.f H4;have hz:(xs.zip ws).length=xs.length:=by simp [hw]
 rw [hz];by_cases h:(65536:Int)<xs.length
 ·exact ⟨65536,by rw [if_pos h],.inr ⟨by simp [show ¬ xs.length<=65536 by omega],by decide⟩⟩
 ·rw [if_neg h]
  have hl:xs.length<=Z2:=by unfold Z2;omega
  simp only [show xs.length<=65536 by omega,decide_true,Bool.true_and];have:=Qf (λk i (_:Unit)=>Yz.l1 k xs ws i) (xs.zip ws) (λpre t _ o=>(∀ y∈pre.map Prod.fst,0<=y.hi)->∃ r,o=some r/\Zaw r (Vj (λp:Spn×Bool=>p.1.lo) (λp=>p.1.hi) (λp=>!p.2) (Zgb (pre.map Prod.fst)) t)) (λ_ k _=>
   ⟨-1,by simp only [hz,Yz.l1,if_neg (show ¬ (xs.length:Int)<(xs.length:Int) by omega)],.inl ⟨rfl,rfl⟩⟩) (λpre x t _ k e ih hpre=>by
   obtain ⟨y,b⟩:=x;have ex:xs=pre.map Prod.fst++y::t.map Prod.fst:=by have:=congrArg (List.map Prod.fst) e;rw [List.map_fst_zip (by omega)] at this;simpa using this
   have ew:ws=pre.map Prod.snd++b::t.map Prod.snd:=by have:=congrArg (List.map Prod.snd) e;rw [List.map_snd_zip (by omega)] at this;simpa using this
   obtain ⟨h1,h2⟩:=mid ex;obtain ⟨h3,h4⟩:=mid ew;have hr:=Zzn xs _ _ y hl ex hpre;have hn:=nxt hl ex;simp only [List.length_map] at h1 h2 h3 h4 hr hn;simp only [Yz.l1,if_pos h2.2,hr,Option.bind_some,if_pos h4,h3,Yz.j1,hn];by_cases c1:Zgb (pre.map Prod.fst)<y.lo
   ·by_cases c2:y.lo<=y.hi
    ·by_cases c3:y.hi<=1114111
     ·simp only [c1,c2,c3,decide_true,Bool.and_self,Bool.not_true,Bool.false_eq_true,if_false]
      cases b with
      | true=>exact ⟨pre.length,by simp,.inr ⟨Qz (.inr (.inr (.inr rfl))),by omega⟩⟩
      | false=>
       rw [Za6 (lo:=λp:Spn×Bool=>p.1.lo) (hi:=λp:Spn×Bool=>p.1.hi) (may:=λp:Spn×Bool=>!p.2) (x:=(y,false)) (show ¬ y.lo<=_ by omega) (show ¬ y.hi<y.lo by omega) (show ¬ 1114111<y.hi by omega) rfl];have hend:Zgb ((pre++[(y,false)]).map Prod.fst)=y.hi:=by simp [Zgb]
       have hge:-1<=Zgb (pre.map Prod.fst):=by
        unfold Zgb
        cases hg:(pre.map Prod.fst).getLast? with
        | none=>simp
        | some z=>simp;have:=hpre z (List.mem_of_getLast? hg);omega
       have:=ih () (λz hz=>by
        simp only [List.map_append,List.map_cons,List.map_nil,List.mem_append,List.mem_singleton] at hz
        rcases hz with hz | rfl
        ·exact hpre z hz
        ·omega)
       rw [hend] at this;simpa using this
     ·exact ⟨pre.length,by simp [c3],.inr ⟨Qz (.inr (.inr (.inl (by show 1114111<y.hi;omega)))),by omega⟩⟩
    ·exact ⟨pre.length,by simp [c2],.inr ⟨Qz (.inr (.inl (by show y.hi<y.lo;omega))),by omega⟩⟩
   ·exact ⟨pre.length,by simp [c1],.inr ⟨Qz (.inl (by show y.lo<=_;omega)),by omega⟩⟩) () K0 (by rw [hz];exact ltK hl) (λy hy=>by simp at hy)
  exact this
theorem Zky {α β:Type} (f:β->α) (lo hi:α->Int) (may:α->Bool):∀ (last:Int) (l:List β),Vj lo hi may last (l.map f)=Vj (λx=>lo (f x)) (λx=>hi (f x)) (λx=>may (f x)) last l
 | _,[]=>rfl
 | last,x::t=>by simp only [List.map_cons,Vj,Zky f lo hi may (hi (f x)) t]
theorem Zol {α:Type} (l:List α) (sp:α->Spn) (wr:α->Bool):∃ r,Yz.f (l.map sp) (l.map wr)=some r/\Zaw r (H4 (λx=>(sp x).lo) (λx=>(sp x).hi) (λx=>!wr x) l):=by
 obtain ⟨r,h1,h2⟩:=Zxo (l.map sp) (l.map wr) (by simp);refine ⟨r,h1,?_⟩;have e:(l.map sp).zip (l.map wr)=l.map λx=>(sp x,wr x):=by rw [List.zip_map']
 rw [e] at h2;unfold H4 at h2 ⊢;rw [Zky] at h2;simpa using h2
end
section
open Go.RowKit

def Zcj (x:Chs) (y:Val):Bool:=decide (y.lo<=x.hi)&&decide (x.lo<=y.hi)
def Zho (st:List Val) (x:Chs):Bool:=Hd x.is_ 1 18&&!st.any (Zcj x)
def Zms (x:Chs):List Val->Bool
 | []=>true
 | y::_=>decide (x.hi<y.lo)
theorem Zqz (st:List Val) (x:Chs) (hst:st.length<=Z2):∀ (rest done:List Val) (k:Nat),st=done++rest->rest.length<k->
  ∃ done' rest',st=done'++rest'/\(∃ p,done'=done++p/\∀ y∈p,y.hi<x.lo)/\(∀ y,rest'.head?=some y->¬ y.hi<x.lo)/\
   Yj.l1 k st x (done.length:Int)=some (Hd x.is_ 1 18&&Zms x rest',(done'.length:Int)):=by
 intro rest
 induction rest with
 | nil=>
  intro done k e hk;obtain ⟨k,rfl⟩:∃ j,k=j+1:=⟨k-1,by simp at hk;omega⟩;have hd:st.length=done.length:=by rw [e];simp
  refine ⟨done,[],e,⟨[],by simp,λy hy=>by cases hy⟩,λy hy=>by simp at hy,?_⟩;rw [Yj.l1,if_neg (by rw [hd];omega)];simp only [Yj.j2,Yj.j1,Zdl x.is_ 1 18 (by decide),Option.bind_some,Bool.false_eq_true,if_false]
  cases Hd x.is_ 1 18 with
  | false=>simp
  | true=>simp [hd,Zms]
 | cons y rest ih=>
  intro done k e hk;obtain ⟨k,rfl⟩:∃ j,k=j+1:=⟨k-1,by simp at hk;omega⟩;obtain ⟨h1,h2⟩:=mid e;by_cases c:y.hi<x.lo
  ·obtain ⟨done',rest',e1,⟨p,e2,e3⟩,e4,e5⟩:=ih (done++[y]) k (by rw [e];simp) (by simp at hk;omega)
   refine ⟨done',rest',e1,⟨y::p,by rw [e2];simp,λz hz=>?_⟩,e4,?_⟩
   ·rcases List.mem_cons.1 hz with rfl | hz
    ·exact c
    ·exact e3 z hz
   ·rw [Yj.l1,if_pos h2.2,if_pos h2,h1]
    simp only [Yj.j2,c,decide_true,if_true,nxt hst e];simpa using e5
  ·refine ⟨done,y::rest,e,⟨[],by simp,λz hz=>by cases hz⟩,λz hz=>by simp at hz;subst hz;exact c,?_⟩
   rw [Yj.l1,if_pos h2.2,if_pos h2,h1];simp only [Yj.j2,Yj.j1,c,decide_false,Zdl x.is_ 1 18 (by decide),Option.bind_some,Bool.false_eq_true,if_false]
   cases Hd x.is_ 1 18 with
   | false=>simp
   | true=>
    rw [if_pos rfl,if_neg (by omega),if_pos h2,h1];simp [Zms]
theorem Zcf {α:Type} {lo hi:α->Int} {may:α->Bool}:∀ {l:List α} {last:Int},Vj lo hi may last l=true->∀ y∈l,last<lo y/\lo y<=hi y/\hi y<=1114111/\may y=true
 | [],_,_,y,hy=>by cases hy
 | x::t,last,h,y,hy=>by
  simp only [Vj,Bool.and_eq_true,decide_eq_true_eq] at h
  obtain ⟨⟨⟨⟨h1,h2⟩,h3⟩,h4⟩,h5⟩:=h
  rcases List.mem_cons.1 hy with rfl | hy
  ·exact ⟨h1,h2,h3,h4⟩
  ·obtain ⟨a,b,c,d⟩:=Zcf h5 y hy
   exact ⟨by omega,b,c,d⟩
theorem Zkx {α:Type} {lo hi:α->Int} {may:α->Bool}:∀ {a b:List α} {last:Int},Vj lo hi may last (a++b)=true->∃ last',Vj lo hi may last' b=true
 | [],b,last,h=>⟨last,h⟩
 | x::a,b,last,h=>by
  simp only [List.cons_append,Vj,Bool.and_eq_true] at h
  exact Zkx h.2
theorem Zrg {st done rest:List Val} {x:Chs} (hs:∃ may:Val->Bool,Vj (·.lo) (·.hi) may (-1) st=true) (e:st=done++rest) (hd:∀ y∈done,y.hi<x.lo) (hr:∀ y,rest.head?=some y->¬ y.hi<x.lo) (hx:x.lo<=x.hi):Zms x rest=!st.any (Zcj x):=by
 obtain ⟨may,hs⟩:=hs;have hdone:done.any (Zcj x)=false:=by rw [List.any_eq_false];intro y hy;have:=hd y hy;simp [Zcj,show ¬ x.lo<=y.hi by omega]
 rw [e,List.any_append,hdone,Bool.false_or];rw [e] at hs;obtain ⟨last,hs⟩:=Zkx hs
 cases rest with
 | nil=>rfl
 | cons y t=>
  have hy:=hr y rfl;simp only [Vj,Bool.and_eq_true,decide_eq_true_eq] at hs;by_cases c:x.hi<y.lo
  ·have ht:(y::t).any (Zcj x)=false:=by
    rw [List.any_eq_false];intro z hz
    rcases List.mem_cons.1 hz with rfl | hz
    ·simp [Zcj,show ¬ z.lo<=x.hi by omega]
    ·have:=(Zcf hs.2 z hz).1
     simp [Zcj,show ¬ z.lo<=x.hi by omega]
   simp [Zms,c,ht]
  ·have:Zcj x y=true:=by simp [Zcj];omega
   simp [Zms,c,this]
theorem Zu4 (b:Bk) (hs:∃ may:Val->Bool,Vj (·.lo) (·.hi) may (-1) b.status=true) (hst:b.status.length<=Z2):∃ r,Zbs.f b=some r/\Zaw r (H4 (·.lo) (·.hi) (Zho b.status) b.maps):=by
 unfold Zbs.f Zz.f H4;by_cases h:(65536:Int)<b.maps.length
 ·exact ⟨65536,by rw [if_pos h];rfl,.inr ⟨by simp [show ¬ b.maps.length<=65536 by omega],by decide⟩⟩
 ·rw [if_neg h]
  have hl:b.maps.length<=Z2:=by unfold Z2;omega
  simp only [show b.maps.length<=65536 by omega,decide_true,Bool.true_and];have:=Qf (λk i (s:Int×Int)=>Zz.l1 k b.names b.status b.maps b.class_ b.decomp b.excl b.bidi b.join b.marks b.script b.like b.maps s.1 s.2 i) b.maps
   (λpre t s o=>(∃ done rest,b.status=done++rest/\s.1=(done.length:Int)/\∀ y∈done,y.hi<=s.2)->∃ r,(o.bind λr=>some r.1)=some r/\Zaw r (Vj (·.lo) (·.hi) (Zho b.status) s.2 t))
   (λs k _=>⟨-1,by simp only [Zz.l1,if_neg (show ¬ (b.maps.length:Int)<(b.maps.length:Int) by omega)];rfl,.inl ⟨rfl,rfl⟩⟩)
   (λpre x t s k e ih hinv=>by
    obtain ⟨h1,h2⟩:=mid e
    obtain ⟨done,rest,e1,e2,e3⟩:=hinv
    simp only [Zz.l1,if_pos h2.2,if_pos h2,h1,Va.f,Option.bind_some,Zz.j1,nxt hl e]
    by_cases c1:x.lo<=s.2
    ·exact ⟨pre.length,by simp [c1],.inr ⟨Qz (.inl c1),by omega⟩⟩
    ·by_cases c2:x.hi<x.lo
     ·exact ⟨pre.length,by simp [c1,c2],.inr ⟨Qz (.inr (.inl c2)),by omega⟩⟩
     ·by_cases c3:1114111<x.hi
      ·exact ⟨pre.length,by simp [c1,c2,c3],.inr ⟨Qz (.inr (.inr (.inl c3))),by omega⟩⟩
      ·rw [if_neg c1,if_neg c2,if_neg c3]
       have hrl:rest.length<K0:=ltK (by rw [e1] at hst;simp at hst;omega)
       obtain ⟨done',rest',f1,⟨p,f2,f3⟩,f4,f5⟩:=Zqz b.status x hst rest done K0 e1 hrl
       have hd':∀ y∈done',y.hi<x.lo:=by
        intro y hy
        rw [f2] at hy
        rcases List.mem_append.1 hy with hy | hy
        ·have:=e3 y hy;omega
        ·exact f3 y hy
       have hfree:=Zrg hs f1 hd' f4 (by omega)
       have happ:Yj.f x s.1 b.names b.status b.maps b.class_ b.decomp b.excl b.bidi b.join b.marks b.script b.like=some (Zho b.status x,(done'.length:Int)):=by
        unfold Yj.f
        rw [e2,f5,hfree];rfl
       rw [happ,Option.bind_some]
       cases c4:Zho b.status x with
       | false=>exact ⟨pre.length,by simp,.inr ⟨Qz (.inr (.inr (.inr c4))),by omega⟩⟩
       | true=>
        rw [Za6 c1 c2 c3 c4]
        have:=ih ((done'.length:Int),x.hi) ⟨done',rest',f1,rfl,λy hy=>by have:=hd' y hy;show y.hi<=x.hi;omega⟩
        simpa using this) (0,-1) K0 (ltK hl) ⟨[],b.status,rfl,rfl,λy hy=>by cases hy⟩
  exact this
theorem Zu1 (x:Chs) (st:List Val) (hst:st.length<=Z2):Kt.f x st=some (st.any (Zcj x)):=by
 refine Qf (λk i (_:Unit)=>Kt.l1 k x st i) st (λpre t _ o=>o=some (t.any (Zcj x))) ?_ ?_ () K0 (ltK hst)
 ·intro _ k
  simp only [Kt.l1,if_neg (show ¬ (st.length:Int)<(st.length:Int) by omega)];rfl
 ·intro pre y t _ k e ih
  obtain ⟨h1,h2⟩:=mid e;simp only [Kt.l1,if_pos h2.2,if_pos h2,h1,Kt.j1,nxt hst e,List.any_cons];have ih:=ih ();by_cases c1:y.lo<=x.hi
  ·by_cases c2:x.lo<=y.hi
   ·simp [c1,c2,Zcj]
   ·simpa [c1,c2,Zcj] using ih
  ·simpa [c1,Zcj] using ih
end
section
open Go.RowKit

theorem Zec {κ ν:Type} [DecidableEq κ] (l:List (κ×ν)) (x y:κ) (v:ν):Ul (Zau l x v) y=if y=x then some v else Ul l y:=by
 induction l with
 | nil=>simp [Zau,Ul]
 | cons p l ih=>
  simp only [Zau];by_cases h:x=p.1
  ·rw [if_pos h]
   simp only [Ul,h];by_cases h2:y=p.1<;>simp [h2]
  ·rw [if_neg h]
   simp only [Ul,ih];by_cases h2:y=p.1
   ·have:¬ y=x:=λe=>h (e▸h2)
    simp [h2,show ¬ p.1=x from λe=>h e.symm]
   ·simp [h2]
theorem Zns {α:Type} {p q:α->Bool}:∀ {l:List α},(∀ x∈l,p x=true->q x=true)->l.countP p<=l.countP q:=λh=>List.countP_mono_left h
theorem Zq2 {α:Type} {p q:α->Bool}:∀ {l:List α} {a:α},a∈l->(∀ x∈l,p x=true->q x=true)->p a=false->q a=true->l.countP p<l.countP q
 | [],_,ha,_,_,_=>by cases ha
 | b::l,a,ha,h,h1,h2=>by
  have hl:=Zns (l:=l) (λx hx=>h x (List.mem_cons_of_mem _ hx))
  simp only [List.countP_cons]
  rcases List.mem_cons.1 ha with rfl | ha
  ·simp [h1,h2];omega
  ·have:=Zq2 ha (λx hx=>h x (List.mem_cons_of_mem _ hx)) h1 h2
   have hb:=h b (List.mem_cons_self ..)
   cases hpb:p b with
   | false=>simp;omega
   | true=>rw [hpb] at hb;simp [hb rfl];omega

def paP:List Chs->Int->List Int
 | [],_=>[]
 | x::t,c=>if x.lo<=c/\c<=x.hi then x.is_ else paP t c
theorem Zm5 (D:List Chs) (c:Int) (hl:D.length<=Z2):Ks.f D c=some (paP D c):=by
 refine Qf (λk i (_:Unit)=>Ks.l1 k D c i) D (λpre t _ o=>o=some (paP t c)) ?_ ?_ () K0 (ltK hl)
 ·intro _ k
  simp only [Ks.l1,if_neg (show ¬ (D.length:Int)<(D.length:Int) by omega)];rfl
 ·intro pre x t _ k e ih
  obtain ⟨h1,h2⟩:=mid e;have ih:=ih ();simp only [Ks.l1,if_pos h2.2,if_pos h2,h1,Ks.j1,nxt hl e,paP];by_cases c1:x.lo<=c
  ·by_cases c2:c<=x.hi
   ·simp [c1,c2]
   ·simpa [c1,c2] using ih
  ·simpa [c1] using ih
def Zax (f:Int->Int):List Int->Int
 | []=>0
 | c::t=>f c+Zax f t
theorem Zf2 {f g:Int->Int}:∀ {l:List Int},(∀ c∈l,f c<=g c)->Zax f l<=Zax g l
 | [],_=>Int.le_refl _
 | c::t,h=>by
  have:=Zf2 (l:=t) (λx hx=>h x (List.mem_cons_of_mem _ hx))
  have:=h c (List.mem_cons_self ..)
  simp only [Zax];omega
theorem Zgy {f g:Int->Int}:∀ {l:List Int},(∀ c∈l,f c=g c)->Zax f l=Zax g l
 | [],_=>rfl
 | c::t,h=>by
  rw [Zax,Zax,h c (List.mem_cons_self ..),Zgy (l:=t) (λx hx=>h x (List.mem_cons_of_mem _ hx))]
theorem Zdm {f:Int->Int}:∀ {l:List Int},(∀ c∈l,1<=f c)->(l.length:Int)<=Zax f l
 | [],_=>by simp [Zax]
 | c::t,h=>by
  have:=Zdm (l:=t) (λx hx=>h x (List.mem_cons_of_mem _ hx))
  have:=h c (List.mem_cons_self ..)
  simp only [Zax,List.length_cons];omega
theorem Zjs {f:Int->Int}:∀ {l:List Int},(∀ c∈l,1<=f c)->∀ c∈l,f c<=Zax f l
 | [],_,c,hc=>by cases hc
 | d::t,h,c,hc=>by
  have h1:=h d (List.mem_cons_self ..)
  have h2:=Zdm (l:=t) (λx hx=>h x (List.mem_cons_of_mem _ hx))
  simp only [Zax]
  rcases List.mem_cons.1 hc with rfl | hc
  ·omega
  ·have:=Zjs (l:=t) (λx hx=>h x (List.mem_cons_of_mem _ hx)) c hc
   omega
theorem Zlj (f:Int->Int):∀ (a b:List Int),Zax f (a++b)=Zax f a+Zax f b
 | [],b=>by simp [Zax]
 | c::a,b=>by simp only [List.cons_append,Zax,Zlj f a b];omega
def cap (s:Int):Int:=if 18<s then 19 else s
def Lc (P:Int->List Int):Nat->Int->Int
 | 0,c=>if P c=[] then 1 else 19
 | n+1,c=>if P c=[] then 1 else cap (Zax (Lc P n) (P c))
theorem Zb0 {P:Int->List Int} {c:Int} (h:P c=[]) (n:Nat):Lc P n c=1:=by cases n<;>simp [Lc,h]
theorem Zb7 (P:Int->List Int):∀ (n:Nat) (c:Int),1<=Lc P n c/\Lc P n c<=19
 | 0,c=>by unfold Lc;split<;>omega
 | n+1,c=>by
  unfold Lc
  by_cases h:P c=[]
  ·rw [if_pos h];omega
  ·rw [if_neg h]
   have h1:=Zdm (f:=Lc P n) (l:=P c) (λx _=>(Zb7 P n x).1)
   have h2:0<(P c).length:=List.length_pos_iff.2 h
   unfold cap;split<;>omega
theorem Zpm {a b:Int} (h:a<=b):cap a<=cap b:=by unfold cap;split<;>split<;>omega
theorem Zju (P:Int->List Int):∀ (n:Nat) (c:Int),Lc P (n+1) c<=Lc P n c
 | 0,c=>by
  by_cases h:P c=[]
  ·rw [Zb0 h,Zb0 h];omega
  ·have:=(Zb7 P 1 c).2
   rw [show Lc P 0 c=19 by simp [Lc,h]];exact this
 | n+1,c=>by
  by_cases h:P c=[]
  ·rw [Zb0 h,Zb0 h];omega
  ·rw [Lc,if_neg h,Lc,if_neg h]
   exact Zpm (Zf2 λx _=>Zju P n x)
theorem Zyi (P:Int->List Int) {n m:Nat} (h:n<=m) (c:Int):Lc P m c<=Lc P n c:=by
 induction h with
 | refl=>exact Int.le_refl _
 | step _ ih=>exact Int.le_trans (Zju P _ c) ih
theorem Zo4 (P:Int->List Int):∀ (n:Nat) (c:Int),Lc P n c<=18->Lc P (n+1) c=Lc P n c
 | 0,c,h=>by
  by_cases e:P c=[]
  ·rw [Zb0 e,Zb0 e]
  ·simp [Lc,e] at h
 | n+1,c,h=>by
  by_cases e:P c=[]
  ·rw [Zb0 e,Zb0 e]
  ·rw [Lc,if_neg e] at h
   have hs:Zax (Lc P n) (P c)<=18:=by unfold cap at h;split at h<;>omega
   rw [Lc,if_neg e,Lc,if_neg e,Zgy (λx hx=>Zo4 P n x ?_)]
   have:=Zjs (f:=Lc P n) (l:=P c) (λx _=>(Zb7 P n x).1) x hx
   omega
theorem Zfs (P:Int->List Int) {n m:Nat} (h:n<=m) {c:Int} (hc:Lc P n c<=18):Lc P m c=Lc P n c:=by
 induction h with
 | refl=>rfl
 | step _ ih=>rw [Zo4 P _ c (by rw [ih];exact hc),ih]
theorem Z1t (P:Int->List Int) {e:Nat} {c:Int} (h:Lc P e c<=18) (d:Nat):Lc P e c<=Lc P d c:=by
 rcases Nat.le_total e d with h1 | h1
 ·rw [Zfs P h1 h];exact Int.le_refl _
 ·exact Zyi P h1 c

theorem Zxn (b:Bk) (hD:b.decomp.length<=65536) (hP:∀ c,(paP b.decomp c).length<=2):∀ (n:Nat),n<=b.decomp.length+1->∀ (k:Nat) (c lvl:Int),lvl=(b.decomp.length:Int)+1-n->n<k->
  X5.f k b c lvl=some (Lc (paP b.decomp) n c):=by
 intro n;have hl:b.decomp.length<=Z2:=by unfold Z2;omega
 induction n with
 | zero=>
  intro _ k c lvl e hk;obtain ⟨k,rfl⟩:∃ j,k=j+1:=⟨k-1,by omega⟩;rw [X5.f,X5.b,Zbw.f,Zm5 _ _ hl,Option.bind_some,Option.bind_some];by_cases h:paP b.decomp c=[]
  ·rw [if_pos (by rw [h];rfl),Zb0 h]
  ·rw [if_neg (by intro h2;exact h (List.length_eq_zero_iff.1 (by omega))),if_pos (by omega)]
   simp [Lc,h]
 | succ n ih=>
  intro hn k c lvl e hk;obtain ⟨k,rfl⟩:∃ j,k=j+1:=⟨k-1,by omega⟩;rw [X5.f,X5.b,Zbw.f,Zm5 _ _ hl,Option.bind_some,Option.bind_some];by_cases h:paP b.decomp c=[]
  ·rw [if_pos (by rw [h];rfl),Zb0 h]
  ·rw [if_neg (by intro h2;exact h (List.length_eq_zero_iff.1 (by omega))),if_neg (by omega),Lc,if_neg h]
   have hpl:(paP b.decomp c).length<=Z2:=by have:=hP c;unfold Z2;omega
   have:=Qf (λkk i s=>X5.l1 kk (X5.f k) b lvl (paP b.decomp c) s i) (paP b.decomp c)
    (λpre t s o=>0<=s->s<=37->o=some (cap (s+Zax (Lc (paP b.decomp) n) t)))
    (λs kk h0 h1=>by
     simp only [X5.l1,if_neg (show ¬ ((paP b.decomp c).length:Int)<((paP b.decomp c).length:Int) by omega),Zax,cap,Int.add_zero]
     split<;>rfl)
    (λpre x t s kk e2 ih2 h0 h1=>by
     obtain ⟨h3,h4⟩:=mid e2
     simp only [X5.l1,if_pos h4.2,if_pos h4,h3,X5.j1,nxt hpl e2]
     have hx:=Zb7 (paP b.decomp) n x
     by_cases c1:s<=18
     ·rw [if_pos c1,w64 (by omega) (by omega),ih (by omega) k x (lvl+1) (by omega) (by omega),Option.bind_some,w64 (by omega) (by omega)]
      rw [ih2 _ (by omega) (by omega),Zax,Int.add_assoc]
     ·rw [if_neg c1,ih2 _ h0 h1]
      have h5:(0:Int)<=Zax (Lc (paP b.decomp) n) t:=by
       have:=Zdm (f:=Lc (paP b.decomp) n) (l:=t) (λy _=>(Zb7 _ n y).1)
       omega
      have h6:18<s+Zax (Lc (paP b.decomp) n) (x::t):=by simp only [Zax];omega
      rw [cap,cap,if_pos (by omega),if_pos h6]) 0 K0 (ltK hpl) (by omega) (by omega)
   rw [Int.zero_add] at this;exact this

abbrev Mem:=List (Int×Int)
def Z2g (D:List Chs) (m:Mem):Prop:=∀ c,(Ul m c=none->paP D c=[])/\(∀ j,Ul m c=some j->0<=j/\j<(D.length:Int)/\(rd D j).lo=c)
def un (N:Nat) (M:Mem):Nat:=(List.range N).countP (λj:Nat=>(Ul M (j:Int)).isNone)
def pos (N:Nat) (M:Mem):Nat:=(List.range N).countP (λj:Nat=>decide (0<(Ul M (j:Int)).getD 0))
def Mok (D:List Chs) (M:Mem):Prop:=∀ j n,Ul M j=some n->0<=j/\j<(D.length:Int)/\(n=0\/(0<n/\n<=18/\Lc (paP D) (pos D.length M) (rd D j).lo=n))
def Ext (M M':Mem):Prop:=(∀ j n,Ul M j=some n->Ul M' j=some n)/\(∀ j,Ul M' j=some 0->Ul M j=some 0)
def Zer (D:List Chs) (M:Mem) (d:Nat):Prop:=∀ j,Ul M j=some 0->18<Lc (paP D) d (rd D j).lo
theorem Ext.refl (M:Mem):Ext M M:=⟨λ_ _ h=>h,λ_ h=>h⟩
theorem Ext.trans {a b c:Mem} (h:Ext a b) (g:Ext b c):Ext a c:=⟨λj n e=>g.1 j n (h.1 j n e),λj e=>h.2 j (g.2 j e)⟩
theorem Ext.un {M M':Mem} (h:Ext M M') (N:Nat):un N M'<=un N M:=Zns λj _ hj=>by
 cases e:Ul M (j:Int) with
 | none=>rfl
 | some n=>rw [h.1 _ _ e] at hj;simp at hj
theorem Ext.pos {M M':Mem} (h:Ext M M') (N:Nat):pos N M<=pos N M':=Zns λj _ hj=>by
 cases e:Ul M (j:Int) with
 | none=>rw [e] at hj;simp at hj
 | some n=>rw [h.1 _ _ e];rw [e] at hj;exact hj
theorem Mok.grow {D:List Chs} {M M':Mem} (h:Mok D M) (hp:pos D.length M<=pos D.length M') {j n:Int} (e:Ul M j=some n):0<=j/\j<(D.length:Int)/\(n=0\/(0<n/\n<=18/\Lc (paP D) (pos D.length M') (rd D j).lo=n)):=by
 obtain ⟨a,b,c⟩:=h j n e;refine ⟨a,b,?_⟩
 rcases c with c | ⟨c1,c2,c3⟩
 ·exact .inl c
 ·exact .inr ⟨c1,c2,by rw [Zfs _ hp (by omega)];exact c3⟩
theorem Zim {α:Type} [Inhabited α] {D:List α} {i:Int} (h0:0<=i) (h1:i<(D.length:Int)):rd D i∈D:=List.mem_of_getElem? (Zok h0 h1)
def Z1y (D:List Chs) (M:Mem) (i:Int) (o:Option (Int×Mem)):Prop:=∃ r M',o=some (r,M')/\
 ((r=0/\∀ d,Zer D M d->18<Lc (paP D) d (rd D i).lo)\/(0<r/\r<=18/\Mok D M'/\Lc (paP D) (pos D.length M') (rd D i).lo=r/\Ext M M'))
theorem Zx8 {D:List Chs} {m:Mem} (hD:D.length<=65536) (hix:Z2g D m) (hrow:∀ x∈D,paP D x.lo=x.is_) (hk:∀ x∈D,1<=x.is_.length/\x.is_.length<=2):
  ∀ (k:Nat) (M:Mem) (i:Int),Mok D M->0<=i->i<(D.length:Int)->un D.length M<k->Z1y D M i (Zx.f k i D m M):=by
 intro k
 induction k with
 | zero=>intro M i _ _ _ h;omega
 | succ k ih=>
  intro M i hM hi0 hi1 hun;rw [Zx.f,Zx.b]
  cases e:Ul M i with
  | some n=>
   refine ⟨n,M,by simp,?_⟩;obtain ⟨_,_,c⟩:=hM i n e
   rcases c with rfl | ⟨c1,c2,c3⟩
   ·exact .inl ⟨rfl,λd hz=>hz i e⟩
   ·exact .inr ⟨c1,c2,hM,c3,Ext.refl M⟩
  | none=>
   rw [if_neg (by simp),if_pos ⟨hi0,hi1⟩];have hmem:=Zim hi0 hi1;have hpa:=hrow _ hmem;have hlen:=hk _ hmem;have hpn:paP D (rd D i).lo≠[]:=by rw [hpa];intro h;rw [h] at hlen;simp at hlen
   have hi2:((i.toNat:Nat):Int)=i:=by omega
   have him:i.toNat∈List.range D.length:=by rw [List.mem_range];omega
   have g0:=Zec M i;have hp0:pos D.length M<=pos D.length (Zau M i 0):=Zns λj _ hj=>by
    rw [g0];by_cases c:(j:Int)=i
    ·rw [c,e] at hj;simp at hj
    ·rw [if_neg c];exact hj
   have hM0:Mok D (Zau M i 0):=by
    intro j n ej;rw [g0] at ej;by_cases c:j=i
    ·rw [if_pos c] at ej
     have:(0:Int)=n:=by simpa using ej
     exact ⟨by omega,by omega,.inl this.symm⟩
    ·rw [if_neg c] at ej
     exact hM.grow hp0 ej
   have hu0:un D.length (Zau M i 0)<un D.length M:=Zq2 him (λj _ hj=>by
     rw [g0] at hj;by_cases c:(j:Int)=i
     ·rw [if_pos c] at hj;simp at hj
     ·rw [if_neg c] at hj;exact hj) (by simp [hi2,g0]) (by simp [hi2,e])
   have hz0:∀ M1 d,Ext (Zau M i 0) M1->Zer D M d->18<Lc (paP D) d (rd D i).lo->Zer D M1 d:=by
    intro M1 d hx hz h j ej;have:=hx.2 j ej;rw [g0] at this;by_cases c:j=i
    ·rw [c];exact h
    ·rw [if_neg c] at this;exact hz j this
   have h19:Lc (paP D) 0 (rd D i).lo=19:=by simp [Lc,hpn]
   have hl:(rd D i).is_.length<=Z2:=by unfold Z2;omega
   refine Qf (λkk x (s:Mem×Int)=>Zx.l1 kk (Zx.f k) D m i s.1 s.2 x) (rd D i).is_
    (λpre t s o=>Mok D s.1->Ext (Zau M i 0) s.1->0<=s.2->s.2<=18*(pre.length:Int)->(∀ c∈pre,Lc (paP D) (pos D.length s.1) c<=18)->s.2=Zax (Lc (paP D) (pos D.length s.1)) pre->Z1y D M i o)
    ?_ ?_ (Zau M i 0,0) K0 (ltK hl) hM0 (Ext.refl _) (Int.le_refl _) (by simp) (λc hc=>by cases hc) rfl
   ·intro ⟨M1,s⟩ kk hM1 hx h0 h1 h2 h3
    simp only at hM1 hx h0 h1 h2 h3;simp only [Zx.l1,if_neg (show ¬ (((rd D i).is_).length:Int)<(((rd D i).is_).length:Int) by omega)];by_cases c:18<s
    ·rw [if_pos c]
     refine ⟨0,M1,rfl,.inl ⟨rfl,λd _=>?_⟩⟩
     cases d with
     | zero=>rw [h19];omega
     | succ d=>
      rw [Lc,if_neg hpn,hpa];have:s<=Zax (Lc (paP D) d) (rd D i).is_:=by rw [h3];exact Zf2 λx hx=>Z1t _ (h2 x hx) d
      unfold cap;rw [if_pos (by omega)];omega
    ·rw [if_neg c]
     have hs1:1<=s:=by have:=Zdm (f:=Lc (paP D) (pos D.length M1)) (l:=(rd D i).is_) (λy _=>(Zb7 _ _ y).1);omega
     have e1:Ul M1 i=some 0:=hx.1 i 0 (by rw [g0,if_pos rfl]);have g1:=Zec M1 i;have hp1:pos D.length M1<pos D.length (Zau M1 i s):=Zq2 him (λj _ hj=>by
       rw [g1];by_cases c:(j:Int)=i
       ·rw [c,e1] at hj;simp at hj
       ·rw [if_neg c];exact hj) (by simp [hi2,e1]) (by simp only [hi2,g1,if_true,Option.getD_some];simp;omega)
     have hL:Lc (paP D) (pos D.length M1+1) (rd D i).lo=s:=by rw [Lc,if_neg hpn,hpa,<- h3];unfold cap;rw [if_neg c]
     have hL2:Lc (paP D) (pos D.length (Zau M1 i s)) (rd D i).lo=s:=by rw [Zfs _ hp1 (by rw [hL];omega),hL]
     refine ⟨s,_,rfl,.inr ⟨by omega,by omega,?_,hL2,?_,?_⟩⟩
     ·intro j n ej
      rw [g1] at ej;by_cases c:j=i
      ·rw [if_pos c] at ej
       have:s=n:=by simpa using ej
       subst this;exact ⟨by omega,by omega,.inr ⟨by omega,by omega,by rw [c];exact hL2⟩⟩
      ·rw [if_neg c] at ej
       exact hM1.grow (Nat.le_of_lt hp1) ej
     ·intro j n ej
      have hne:j≠i:=λh=>by rw [h,e] at ej;cases ej
      rw [g1,if_neg hne];exact hx.1 j n (by rw [g0,if_neg hne];exact ej)
     ·intro j ej
      rw [g1] at ej;by_cases c:j=i
      ·rw [if_pos c] at ej
       have:s=0:=by simpa using ej
       omega
      ·rw [if_neg c] at ej
       have:=hx.2 j ej;rw [g0,if_neg c] at this;exact this
   ·intro pre c t ⟨M1,s⟩ kk e2 ih2 hM1 hx h0 h1 h2 h3
    simp only at hM1 hx h0 h1 h2 h3;obtain ⟨h4,h5⟩:=mid e2;have hpl:pre.length<=1:=by
     have:(rd D i).is_.length=pre.length+(t.length+1):=by rw [e2];simp
     omega
    simp only [Zx.l1,if_pos h5.2,if_pos h5,h4,Zx.j1,nxt hl e2];have hin:c∈(rd D i).is_:=by rw [e2];simp
    cases em:Ul m c with
    | none=>
     simp only [Option.isSome_none,Bool.false_eq_true,if_false];rw [if_neg (by decide),w64 (by omega) (by omega)];have hc:=Zb0 ((hix c).1 em);refine ih2 (M1,s+1) hM1 hx (by show 0<=s+1;omega) (by show s+1<=_;simp;omega) ?_ ?_
     ·intro d hd
      rcases List.mem_append.1 hd with hd | hd
      ·exact h2 d hd
      ·rw [List.mem_singleton.1 hd,hc];omega
     ·show s+1=_
      rw [Zlj,<- h3];simp [Zax,hc]
    | some j=>
     obtain ⟨j0,j1,j2⟩:=(hix c).2 j em;simp only [Option.isSome_some,if_true,Option.getD_some];obtain ⟨r,M2,er,hr⟩:=ih M1 j hM1 j0 j1 (by have:=hx.un D.length;omega);rw [er,Option.bind_some];rw [j2] at hr
     rcases hr with ⟨rfl,hr⟩ | ⟨r0,r1,hM2,r2,hx2⟩
     ·rw [if_pos rfl]
      refine ⟨0,M2,rfl,.inl ⟨rfl,λd=>?_⟩⟩
      induction d with
      | zero=>intro _;rw [h19];omega
      | succ d ihd=>
       intro hz;have hz':Zer D M d:=λj ej=>Int.lt_of_lt_of_le (hz j ej) (Zju _ d _);have h6:=hr d (hz0 M1 d hx hz' (ihd hz'));rw [Lc,if_neg hpn,hpa];have:=Zjs (f:=Lc (paP D) d) (l:=(rd D i).is_) (λy _=>(Zb7 _ _ y).1) c hin;unfold cap;rw [if_pos (by omega)];omega
     ·rw [if_neg (by omega),w64 (by omega) (by omega)]
      have hp:=hx2.pos D.length;refine ih2 (M2,s+r) hM2 (hx.trans hx2) (by show 0<=s+r;omega) (by show s+r<=_;simp;omega) ?_ ?_
      ·intro d hd
       rcases List.mem_append.1 hd with hd | hd
       ·show Lc _ (pos D.length M2) d<=18
        rw [Zfs _ hp (h2 d hd)];exact h2 d hd
       ·rw [List.mem_singleton.1 hd];show Lc _ (pos D.length M2) c<=18;omega
      ·show s+r=Zax (Lc (paP D) (pos D.length M2)) _
       rw [Zlj,Zgy (λd hd=>Zfs _ hp (h2 d hd)),<- h3];simp [Zax,r2]
end
section
open Go.RowKit

def Zis (x y:Chs):Bool:=decide ((x.is_.length:Int)=2)&&decide ((y.is_.length:Int)=2)&&decide (rd x.is_ 0=rd y.is_ 0)&&decide (rd x.is_ 1=rd y.is_ 1)
def Zdg (D:List Chs):List Chs->List Chs->Bool
 | _,[]=>true
 | pre,x::t=>decide (Lc (paP D) (D.length+1) x.lo<=18)&&!pre.any (Zis x)&&Zdg D (pre++[x]) t
def Zlm (x:Chs):Vector Int 2:=#v[rd x.is_ 0,rd x.is_ 1]
theorem Ztj (x y:Chs):Zlm x=Zlm y↔rd x.is_ 0=rd y.is_ 0/\rd x.is_ 1=rd y.is_ 1:=by
 unfold Zlm;constructor
 ·intro h
  have h:=congrArg Vector.toList h;simpa using h
 ·rintro ⟨h1,h2⟩
  rw [h1,h2]
structure Dok (D:List Chs):Prop where
 len:D.length<=65536
 one:∀ x∈D,x.lo=x.hi
 row:∀ x∈D,paP D x.lo=x.is_
 kid:∀ x∈D,1<=x.is_.length/\x.is_.length<=2
theorem Zs8:∀ (D:List Chs) (last:Int),Vj (·.lo) (·.hi) Zbh last D=true->∀ x∈D,paP D x.lo=x.is_
 | [],_,_,x,hx=>by cases hx
 | y::t,last,h,x,hx=>by
  simp only [Vj,Bool.and_eq_true,decide_eq_true_eq] at h
  rcases List.mem_cons.1 hx with rfl | hx
  ·rw [paP,if_pos (by omega)]
  ·have:=(Zcf h.2 x hx).1
   rw [paP,if_neg (by omega)]
   exact Zs8 t _ h.2 x hx
theorem Dok.mk' {D:List Chs} (h:H4 (·.lo) (·.hi) Zbh D=true):Dok D:=by
 simp only [H4,Bool.and_eq_true,decide_eq_true_eq] at h;have g:∀ x∈D,Zbh x=true:=λx hx=>(Zcf h.2 x hx).2.2.2;refine ⟨h.1,λx hx=>?_,Zs8 D _ h.2,λx hx=>?_⟩
 ·have:=g x hx;simp only [Zbh,Bool.and_eq_true,decide_eq_true_eq] at this;exact this.1.1.1
 ·have:=g x hx;simp only [Zbh,Hd,Bool.and_eq_true,decide_eq_true_eq] at this
  have:=this.1.2.1;omega
theorem Dok.none {D:List Chs} {c:Int}:∀ {l:List Chs},(∀ x∈l,x.lo=x.hi)->(∀ x∈l,x.lo≠c)->paP l c=[]
 | [],_,_=>rfl
 | x::t,h1,h2=>by
  have a:=h1 x (List.mem_cons_self ..)
  have b:=h2 x (List.mem_cons_self ..)
  rw [paP,if_neg (by omega)]
  exact Dok.none (D:=D) (λy hy=>h1 y (List.mem_cons_of_mem _ hy)) (λy hy=>h2 y (List.mem_cons_of_mem _ hy))
theorem Zzj {D:List Chs} (h:Dok D) (c:Int):(paP D c).length<=2:=by
 have:∀ l:List Chs,(∀ x∈l,x.is_.length<=2)->(paP l c).length<=2:=by
  intro l
  induction l with
  | nil=>intro _;simp [paP]
  | cons x t ih=>
   intro h;unfold paP;split
   ·exact h x (List.mem_cons_self ..)
   ·exact ih λy hy=>h y (List.mem_cons_of_mem _ hy)
 exact this D λx hx=>(h.kid x hx).2
theorem Z1k (N:Nat) (M:Mem):pos N M<=N:=by
 have:=List.countP_le_length (p:=λj:Nat=>decide (0<(Ul M (j:Int)).getD 0)) (l:=List.range N);simpa [pos] using this
theorem Z2z (N:Nat) (M:Mem):un N M<=N:=by
 have:=List.countP_le_length (p:=λj:Nat=>(Ul M (j:Int)).isNone) (l:=List.range N);simpa [un] using this
theorem Zpi {D:List Chs} {m:Mem} (h:Dok D) (hix:Z2g D m):∃ r,Qi.l1 K0 D m [] [] 0=some r/\Zaw r (Zdg D [] D):=by
 have hl:D.length<=Z2:=by have:=h.len;unfold Z2;omega
 refine Qf (λk i (s:List (Vector Int 2×Bool)×Mem)=>Qi.l1 k D m s.1 s.2 i) D
  (λpre t s o=>Mok D s.2->(∀ j,Ul s.2 j≠some 0)->(∀ v,(Ul s.1 v).getD false=true↔∃ x∈pre,(x.is_.length:Int)=2/\Zlm x=v)->∃ r,o=some r/\Zaw r (Zdg D pre t))
  ?_ ?_ ([],[]) K0 (ltK hl) (λj n e=>by cases e) (λj e=>by cases e) (λv=>by simp [Ul])
 ·intro ⟨S,M⟩ k _ _ _
  exact ⟨-1,by simp only [Qi.l1,if_neg (show ¬ (D.length:Int)<(D.length:Int) by omega)],.inl ⟨rfl,rfl⟩⟩
 ·intro pre x t ⟨S,M⟩ k e ih hM hz hS
  simp only at hM hz hS;obtain ⟨h1,h2⟩:=mid e;have hx:x∈D:=by rw [e];simp
  obtain ⟨r,M',er,hr⟩:=Zx8 h.len hix h.row h.kid K0 M (pre.length:Int) hM h2.1 h2.2 (Nat.lt_of_le_of_lt (Z2z _ _) (ltK hl));rw [h1] at hr;simp only [Qi.l1,if_pos h2.2,if_pos h2,er,Option.bind_some,h1,Qi.j1,nxt hl e,Zdg]
  rcases hr with ⟨rfl,hr⟩ | ⟨r0,r1,hM',r2,hE⟩
  ·have:=hr (D.length+1) λj ej=>absurd ej (hz j)
   exact ⟨_,by rw [if_pos rfl],.inr ⟨by simp [show ¬ Lc (paP D) (D.length+1) x.lo<=18 by omega],by omega⟩⟩
  ·rw [if_neg (by omega)]
   have hL:Lc (paP D) (D.length+1) x.lo<=18:=by rw [Zfs _ (Nat.le_succ_of_le (Z1k D.length M')) (by omega)];omega
   have hz':∀ j,Ul M' j≠some 0:=λj ej=>hz j (hE.2 j ej);simp only [hL,decide_true,Bool.true_and];by_cases c:(x.is_.length:Int)=2
   ·rw [if_pos c,if_pos ⟨Int.le_refl _,by omega⟩,if_pos ⟨by omega,by omega⟩]
    have hany:(pre.any (Zis x))=(Ul S (Zlm x)).getD false:=by
     rw [Bool.eq_iff_iff,hS,List.any_eq_true];constructor
     ·rintro ⟨y,hy,ht⟩
      simp only [Zis,Bool.and_eq_true,decide_eq_true_eq] at ht;exact ⟨y,hy,ht.1.1.2,((Ztj x y).2 ⟨ht.1.2,ht.2⟩).symm⟩
     ·rintro ⟨y,hy,hy2,ht⟩
      have:=(Ztj x y).1 ht.symm;exact ⟨y,hy,by simp [Zis,c,hy2,this.1,this.2]⟩
    rw [hany]
    cases c2:(Ul S (Zlm x)).getD false with
    | true=>exact ⟨(pre.length:Int),by rw [show (#v[rd x.is_ 0,rd x.is_ 1]:Vector Int 2)=Zlm x from rfl,if_pos c2],.inr ⟨by simp,by omega⟩⟩
    | false=>
     rw [show (#v[rd x.is_ 0,rd x.is_ 1]:Vector Int 2)=Zlm x from rfl,if_neg (by simp [c2])];simp only [Bool.not_false,Bool.true_and];refine ih (Zau S (Zlm x) true,M') hM' hz' λv=>?_;show (Ul (Zau S (Zlm x) true) v).getD false=true↔_;rw [Zec];by_cases c3:v=Zlm x
     ·rw [if_pos c3];simp only [Option.getD_some,true_iff];exact ⟨x,by simp,c,c3.symm⟩
     ·rw [if_neg c3,hS]
      constructor
      ·rintro ⟨y,hy,h3⟩;exact ⟨y,by simp [hy],h3⟩
      ·rintro ⟨y,hy,h3,h4⟩
       rcases List.mem_append.1 hy with hy | hy
       ·exact ⟨y,hy,h3,h4⟩
       ·rw [List.mem_singleton.1 hy] at h4;exact absurd h4.symm c3
   ·rw [if_neg c]
    have hany:pre.any (Zis x)=false:=by rw [List.any_eq_false];intro y _;simp [Zis,c]
    rw [hany];simp only [Bool.not_false,Bool.true_and];refine ih (S,M') hM' hz' λv=>?_;show (Ul S v).getD false=true↔_;rw [hS];constructor
    ·rintro ⟨y,hy,h3⟩;exact ⟨y,by simp [hy],h3⟩
    ·rintro ⟨y,hy,h3,h4⟩
     rcases List.mem_append.1 hy with hy | hy
     ·exact ⟨y,hy,h3,h4⟩
     ·rw [List.mem_singleton.1 hy] at h3;exact absurd h3 c
theorem Zlu {D:List Chs} (h:Dok D):∃ r,Qi.f D=some r/\Zaw r (Zdg D [] D):=by
 have hl:D.length<=Z2:=by have:=h.len;unfold Z2;omega
 unfold Qi.f;refine Qf (λk i (s:Mem)=>Qi.l2 k D s i) D
  (λpre t s o=>(∀ c,Ul s c=none->∀ x∈pre,x.lo≠c)->(∀ c j,Ul s c=some j->0<=j/\j<(D.length:Int)/\(rd D j).lo=c)->∃ r,o=some r/\Zaw r (Zdg D [] D))
  ?_ ?_ [] K0 (ltK hl) (λc _ x hx=>by cases hx) (λc j hj=>by cases hj)
 ·intro M k h1 h2
  simp only [Qi.l2,if_neg (show ¬ (D.length:Int)<(D.length:Int) by omega)];exact Zpi h λc=>⟨λe=>Dok.none (D:=D) h.one (h1 c e),λj e=>h2 c j e⟩
 ·intro pre x t M k e ih h1 h2
  obtain ⟨h3,h4⟩:=mid e;simp only [Qi.l2,if_pos h4.2,if_pos h4,h3,nxt hl e];refine ih _ ?_ ?_
  ·intro c hc y hy
   rw [Zec] at hc;by_cases c1:c=x.lo
   ·rw [if_pos c1] at hc;cases hc
   ·rw [if_neg c1] at hc
    rcases List.mem_append.1 hy with hy | hy
    ·exact h1 c hc y hy
    ·rw [List.mem_singleton.1 hy];exact λh=>c1 h.symm
  ·intro c j hj
   rw [Zec] at hj;by_cases c1:c=x.lo
   ·rw [if_pos c1] at hj
    have:(pre.length:Int)=j:=by simpa using hj
    subst this;exact ⟨h4.1,h4.2,by rw [h3,c1]⟩
   ·rw [if_neg c1] at hj;exact h2 c j hj
theorem Zoo (b:Bk) (h:Dok b.decomp):∃ r,Xl.f b=some r/\Zaw r (Zdg b.decomp [] b.decomp):=by
 have hl:b.decomp.length<=Z2:=by have:=h.len;unfold Z2;omega
 unfold Xl.f;refine Qf (λk i (_:Unit)=>Xl.l2 k b i) b.decomp
  (λpre t _ o=>∃ r,o=some r/\Zaw r (Zdg b.decomp pre t)) ?_ ?_ () K0 (ltK hl)
 ·intro _ k
  exact ⟨-1,by simp only [Xl.l2,if_neg (show ¬ (b.decomp.length:Int)<(b.decomp.length:Int) by omega)],.inl ⟨rfl,rfl⟩⟩
 ·intro pre x t _ k e ih
  obtain ⟨h1,h2⟩:=mid e;have ih:=ih ();have hlong:=Zxn b h.len (Zzj h) (b.decomp.length+1) (Nat.le_refl _) K0 x.lo 0 (by omega) (by have:=h.len;unfold K0;omega);simp only [Xl.l2,if_pos h2.2,if_pos h2,h1,hlong,Option.bind_some,Zdg];by_cases c:18<Lc (paP b.decomp) (b.decomp.length+1) x.lo
  ·exact ⟨_,by rw [if_pos c],.inr ⟨by simp [show ¬ Lc (paP b.decomp) (b.decomp.length+1) x.lo<=18 by omega],by omega⟩⟩
  ·rw [if_neg c,if_pos ⟨Int.le_refl _,h2.1,by omega⟩]
   simp only [show Lc (paP b.decomp) (b.decomp.length+1) x.lo<=18 by omega,decide_true,Bool.true_and];have hs:sub b.decomp 0 (pre.length:Int)=pre:=Zjq e;have hpl:pre.length<=Z2:=by rw [e] at hl;simp at hl;omega
   have:=Qf (λkk i (_:Unit)=>Xl.l1 (Xl.l2 k b) kk b (pre.length:Int) i) pre
    (λdone rest _ o=>o=if rest.any (Zis x) then some (pre.length:Int) else Xl.l2 k b ((pre.length:Int)+1))
    (λ_ kk=>by simp only [Xl.l1,hs,if_neg (show ¬ (pre.length:Int)<(pre.length:Int) by omega),nxt hl e];rfl)
    (λdone y rest _ kk e2 ih2=>by
     obtain ⟨h3,h4⟩:=mid e2
     have ih2:=ih2 ()
     simp only [Xl.l1,hs,if_pos h4.2,if_pos h4,h1,h3,Xl.j1,nxt hpl e2,List.any_cons]
     by_cases c1:(x.is_.length:Int)=2
     ·by_cases c2:(y.is_.length:Int)=2
      ·rw [if_pos c1,if_pos c2,if_pos ⟨Int.le_refl _,by omega⟩,if_pos ⟨Int.le_refl _,by omega⟩]
       by_cases c3:rd x.is_ 0=rd y.is_ 0
       ·rw [if_pos c3,if_pos ⟨by omega,by omega⟩,if_pos ⟨by omega,by omega⟩]
        by_cases c4:rd x.is_ 1=rd y.is_ 1
        ·simp [c4,Zis,c1,c2,c3]
        ·simpa [c4,Zis] using ih2
       ·simpa [c3,Zis] using ih2
      ·rw [if_pos c1,if_neg c2];simpa [Zis,c2] using ih2
     ·rw [if_neg c1];simpa [Zis,c1] using ih2) () K0 (ltK hpl)
   rw [this]
   cases c5:pre.any (Zis x) with
   | true=>exact ⟨(pre.length:Int),by simp,.inr ⟨by simp,by omega⟩⟩
   | false=>simpa using ih
end
section
open Go.IntKind (i8 i16 i32 i64 u8 u16 u32 u64)
open Go.RowKit

structure Few (b:Bk):Prop where
 names:b.names.length<=Z2
 status:b.status.length<=Z2
 maps:b.maps.length<=Z2
 class_:b.class_.length<=Z2
 decomp:b.decomp.length<=Z2
 excl:b.excl.length<=Z2
 bidi:b.bidi.length<=Z2
 join:b.join.length<=Z2
 marks:b.marks.length<=Z2
 script:b.script.length<=Z2
 like:b.like.length<=Z2
 mapsI:∀ x∈b.maps,x.is_.length<=Z2
 decompI:∀ x∈b.decomp,x.is_.length<=Z2
 likeI:∀ x∈b.like,x.is_.length<=Z2
def Zqa (a b:Int) (l:List Val):Bool:=H4 (·.lo) (·.hi) (λx:Val=>decide (a<=x.n)&&decide (x.n<=b)) l
def Zyw (a b:Int) (l:List Val):Bool:=H4 (·.lo) (·.hi) (λx:Val=>decide (a<=x.n)&&decide (x.n<=b)&&!H1 x.lo x.hi) l
def Z2s (x:Val):Bool:=decide (1<=x.n)&&decide (x.n<=3)
def okB (b:Bk):Bool:=
 Zku b.names&&(Zqa 1 3 b.status&&(H4 (·.lo) (·.hi) (Zho b.status) b.maps&&(Zyw 1 254 b.class_&&(H4 (·.lo) (·.hi) Zbh b.decomp&&
 (H4 (·.lo) (·.hi) (λx:Spn=>!H1 x.lo x.hi) b.excl&&(Zqa 0 22 b.bidi&&(Zqa 0 5 b.join&&(H4 (·.lo) (·.hi) (λ_:Spn=>true) b.marks&&
 (Zqa 1 (b.names.length:Int) b.script&&(H4 (·.lo) (·.hi) (λx:Chs=>Hd x.is_ 1 18) b.like&&Zdg b.decomp [] b.decomp))))))))))
theorem Zaw.cases' {r:Int} {w:Bool} (h:Zaw r w):(w=false/\0<=r)\/(w=true/\¬ 0<=r):=by
 rcases h with ⟨rfl,rfl⟩ | ⟨rfl,h⟩
 ·exact .inr ⟨rfl,by decide⟩
 ·exact .inl ⟨rfl,h⟩
theorem Zai {w w':Bool} {p:Wh} {r:Int} {o o':Option (Wh×Int)} (hs:Zaw r w) (h:w=true->∃ p,o'=some (p,if w' then 0 else 100)) (e:o=if 0<=r then some (p,100) else o'):
  ∃ p,o=some (p,if w&&w' then 0 else 100):=by
 rcases hs.cases' with ⟨rfl,hr⟩ | ⟨rfl,hr⟩
 ·exact ⟨p,by rw [e,if_pos hr];rfl⟩
 ·obtain ⟨q,hq⟩:=h rfl
  exact ⟨q,by rw [e,if_neg hr,hq];rfl⟩
theorem Zga (b:Bk):∃ p,Vw.f b=some (p,if okB b then 0 else 100):=by
 unfold Vw.f okB;obtain ⟨r1,e1,s1⟩:=Zw7 b.names;rw [H5.f,e1];refine Zai s1 (λh1=>?_) rfl;obtain ⟨r2,e2,s2⟩:=Zhs 1 3 b.status;rw [H6.f,show Qg.f b.status 1 3=some r2 from by first | exact e2 | (simp only [Qg.f,Vv.f,e2];rfl)]
 refine Zai s2 (λh2=>?_) rfl;have hst:b.status.length<=Z2/\Vj (·.lo) (·.hi) Z2s (-1) b.status=true:=by simp only [Zqa,H4,Bool.and_eq_true,decide_eq_true_eq] at h2;exact ⟨by unfold Z2;omega,h2.2⟩
 obtain ⟨r3,e3,s3⟩:=Zu4 b ⟨_,hst.2⟩ hst.1;rw [H7.f,show Zbs.f (⟨b.names,b.status,b.maps,b.class_,b.decomp,b.excl,b.bidi,b.join,b.marks,b.script,b.like⟩:Bk)=some r3 from by first | exact e3 | (simp only [Qg.f,Vv.f,e3];rfl)]
 refine Zai s3 (λ_=>?_) rfl;obtain ⟨r4,e4,s4⟩:=Zry 1 254 b.class_;rw [H8.f,show Vv.f b.class_ 1 254=some r4 from by first | exact e4 | (simp only [Qg.f,Vv.f,e4];rfl)]
 refine Zai s4 (λ_=>?_) rfl;obtain ⟨r5,e5,s5⟩:=Zqg b.decomp;rw [H9.f,e5];refine Zai s5 (λh5=>?_) rfl;obtain ⟨r6,e6,s6⟩:=Zu2 b.excl;rw [Zaa.f,e6];refine Zai s6 (λ_=>?_) rfl;obtain ⟨r7,e7,s7⟩:=Zhs 0 22 b.bidi;rw [Hm.f,show Zag.f=some _ from rfl,Option.bind_some,show (i64.wrap _:Int)=22 from by rw [w64 (by simp) (by simp)];rfl,show Qg.f b.bidi 0 22=some r7 from by first | exact e7 | (simp only [Qg.f,Vv.f,e7];rfl)]
 refine Zai s7 (λ_=>?_) rfl;obtain ⟨r8,e8,s8⟩:=Zhs 0 5 b.join;rw [Hn.f,show Zbd.f=some _ from rfl,Option.bind_some,show (i64.wrap _:Int)=5 from by rw [w64 (by simp) (by simp)];rfl,show Qg.f b.join 0 5=some r8 from by first | exact e8 | (simp only [Qg.f,Vv.f,e8];rfl)]
 refine Zai s8 (λ_=>?_) rfl;obtain ⟨r9,e9,s9⟩:=Zrx b.marks;rw [Ho.f,e9];refine Zai s9 (λ_=>?_) rfl;obtain ⟨r10,e10,s10⟩:=Zhs 1 (b.names.length:Int) b.script;rw [Hq.f,show Qg.f b.script 1 _=some r10 from by first | exact e10 | (simp only [Qg.f,Vv.f,e10];rfl)]
 refine Zai s10 (λ_=>?_) rfl;obtain ⟨r11,e11,s11⟩:=Zu3 b.like;rw [Hr.f,e11];refine Zai s11 (λ_=>?_) rfl;obtain ⟨r12,e12,s12⟩:=Zlu (Dok.mk' h5);rw [Hs.f,e12];obtain ⟨p,hp⟩:=Zai (w':=true) (o':=some ((⟨0,0⟩:Wh),0)) s12 (λ_=>⟨_,rfl⟩) rfl;exact ⟨p,by rw [Bool.and_true] at hp;exact hp⟩
end
section
open Go.RowKit

theorem Zrh (p:Int):H1 p p=Zki p:=by
 unfold H1 Zki;rw [Bool.eq_iff_iff];simp only [Bool.or_eq_true,Bool.and_eq_true,decide_eq_true_eq];omega
theorem Zo2 (x:Chs):(!Zco (U5 2 x) x)=Zbh x:=by
 unfold Zco U5 Zbh;by_cases c:x.lo=x.hi
 ·rw [<- c,Zrh]
  have:Hd [x.lo] 1 1=Zdk x.lo:=by simp [Hd]
  rw [this];cases Hd x.is_ 1 2<;>cases Zki x.lo<;>cases Zdk x.lo<;>simp
 ·simp [c]
theorem Zf4 (a b:Int) (x:Val):(!Zcp a b false x)=(decide (a<=x.n)&&decide (x.n<=b)):=by
 unfold Zcp;rw [Bool.eq_iff_iff];simp
theorem Zvc (a b:Int) (x:Val):(!Zcp a b true x)=(decide (a<=x.n)&&decide (x.n<=b)&&!H1 x.lo x.hi):=by
 unfold Zcp;rw [Bool.eq_iff_iff];simp
theorem Zbe {α:Type} (l:List α) (sp:α->Spn) (wr may:α->Bool) (h:∀ x,(!wr x)=may x):∃ r,Yz.f (l.map sp) (l.map wr)=some r/\Zaw r (H4 (λx=>(sp x).lo) (λx=>(sp x).hi) may l):=by
 obtain ⟨r,h1,h2⟩:=Zol l sp wr;rw [show (λx=>!wr x)=may from funext h] at h2;exact ⟨r,h1,h2⟩
theorem Zzd {α:Type} (l:List α):l.map (λx=>x)=l:=by simp
theorem Zc5 {r:Int} {w:Bool} (h:Zaw r w):decide (r<0)=w:=by
 rcases h with ⟨rfl,rfl⟩ | ⟨rfl,h⟩
 ·rfl
 ·simp;omega
theorem Zrv (b:Bk) (a1 a2 a3 a4 a5 a6 a7 a8 a9 a10 a11:Int) (h:a5<0->Dok b.decomp):
  ∃ p q,Ze.l1 K0 b a1 a2 a3 a4 a5 a6 a7 a8 a9 a10 a11 0=some (p,q,if [a1,a2,a3,a4,a5,a6,a7,a8,a9,a10,a11].all (λx=>decide (x<0))&&Zdg b.decomp [] b.decomp then 0 else 100):=by
 have hl:[a1,a2,a3,a4,a5,a6,a7,a8,a9,a10,a11].length<=Z2:=by unfold Z2;simp
 refine Qf (λk i (_:Unit)=>Ze.l1 k b a1 a2 a3 a4 a5 a6 a7 a8 a9 a10 a11 i) [a1,a2,a3,a4,a5,a6,a7,a8,a9,a10,a11]
  (λpre t _ o=>(∀ x∈pre,x<0)->∃ p q,o=some (p,q,if t.all (λx=>decide (x<0))&&Zdg b.decomp [] b.decomp then 0 else 100)) ?_ ?_ () K0 (ltK hl) (λx hx=>by cases hx)
 ·intro _ k hx
  have h5:=h (hx a5 (by simp));obtain ⟨r,e,s⟩:=Zoo b h5;simp only [Ze.l1];rw [if_neg (show ¬ (([a1,a2,a3,a4,a5,a6,a7,a8,a9,a10,a11]:List Int).length:Int)<(([a1,a2,a3,a4,a5,a6,a7,a8,a9,a10,a11]:List Int).length:Int) by omega),e,Option.bind_some]
  rcases s.cases' with ⟨s1,s2⟩ | ⟨s1,s2⟩
  ·exact ⟨5,r,by rw [if_pos s2,s1];rfl⟩
  ·exact ⟨0,0,by rw [if_neg s2,s1];rfl⟩
 ·intro pre x t _ k e ih hx
  obtain ⟨h1,h2⟩:=mid e;simp only [Ze.l1];rw [if_pos h2.2,if_pos h2,h1,nxt hl e,List.all_cons];by_cases c:0<=x
  ·exact ⟨_,_,by rw [if_pos c,show decide (x<0)=false by simp;omega];rfl⟩
  ·rw [if_neg c,show decide (x<0)=true by simp;omega,Bool.true_and]
   exact ih () λy hy=>by
    rcases List.mem_append.1 hy with hy | hy
    ·exact hx y hy
    ·rw [List.mem_singleton.1 hy];omega
theorem Zun {b:Bk} (hb:Few b) {ms:List Bool}:Ze.l2 K0 b ms [] 0=Ze.t20 b ms (b.excl.map λx=>H1 x.lo x.hi):=by
 have:=Qf (λk i s=>Ze.l2 k b ms s i) b.excl
  (λpre t s o=>s=pre.map (λx=>H1 x.lo x.hi)->o=Ze.t20 b ms (b.excl.map λx=>H1 x.lo x.hi))
  (λs k hs=>by
   simp only [Ze.l2,if_neg (show ¬ (b.excl.length:Int)<(b.excl.length:Int) by omega)]
   rw [if_pos ⟨by omega,by have:=hb.marks;unfold Z2 at this;unfold most;omega⟩,hs])
  (λpre x t s k e ih hs=>by
   obtain ⟨h1,h2⟩:=mid e
   have hp:pre.length<=Z2:=by have:=hb.excl;rw [e] at this;simp at this;omega
   simp only [Ze.l2,if_pos h2.2,if_pos h2,h1,Zi6,Option.bind_some,nxt hb.excl e]
   rw [if_pos (by rw [hs,List.length_map];exact Zoi hp (Nat.le_refl _))]
   exact ih _ (by rw [hs];simp)) [] K0 (ltK hb.excl) rfl
 exact this
theorem Zhr (b:Bk) (hb:Few b):∃ p q,Ze.f b=some (p,q,if okB b then 0 else 100):=by
 have hw:=Zfl b.maps 18 hb.maps hb.mapsI;rw [Ze.f,hw,Option.bind_some];have hl3:=Qf (λk i s=>Ze.l3 k b s i) b.maps
  (λpre t s o=>s=(pre.map λx=>!Zho b.status x)++t.map (U5 18)->o=Ze.l2 K0 b (b.maps.map λx=>!Zho b.status x) [] 0)
  (λs k hs=>by
   simp only [Ze.l3,if_neg (show ¬ (b.maps.length:Int)<(b.maps.length:Int) by omega),hs,List.map_nil,List.append_nil])
  (λpre x t s k e ih hs=>by
   obtain ⟨h1,h2⟩:=mid e
   have hlen:s.length=b.maps.length:=by rw [hs,e];simp
   have hr:rd s (pre.length:Int)=U5 18 x:=by rw [hs];simp [rd]
   have hset:∀ w:Bool,w=!Zho b.status x->s.set ((pre.length:Int).toNat) w=((pre++[x]).map λx=>!Zho b.status x)++t.map (U5 18):=by
    intro w ew
    rw [hs,ew];simp
   simp only [Ze.l3,if_pos h2.2,if_pos h2,h1,hr,Ze.j1,nxt hb.maps e,Zu1 x b.status hb.status,Option.bind_some]
   rw [if_pos ⟨h2.1,by omega⟩]
   by_cases c:U5 18 x=true
   ·rw [if_pos c]
    refine ih _ (hset _ ?_)
    have:Hd x.is_ 1 18=false:=by unfold U5 at c;simpa using c
    simp [Zho,this]
   ·rw [if_neg c]
    refine ih _ (hset _ ?_)
    have:Hd x.is_ 1 18=true:=by unfold U5 at c;simpa using c
    simp [Zho,this]) (b.maps.map (U5 18)) K0 (ltK hb.maps) (by simp)
 rw [hl3];rw [Zun hb];obtain ⟨r1,e1,s1⟩:=Zom b.names;obtain ⟨r2,e2,s2⟩:=Zbe b.status (λx=>(⟨x.lo,x.hi⟩:Spn)) (Zcp 1 3 false) _ (Zf4 1 3);obtain ⟨r3,e3,s3⟩:=Zbe b.maps (λx=>(⟨x.lo,x.hi⟩:Spn)) (λx=>!Zho b.status x) (Zho b.status) (λx=>by simp);obtain ⟨r4,e4,s4⟩:=Zbe b.class_ (λx=>(⟨x.lo,x.hi⟩:Spn)) (Zcp 1 254 true) _ (Zvc 1 254);obtain ⟨r5,e5,s5⟩:=Zbe b.decomp (λx=>(⟨x.lo,x.hi⟩:Spn)) (λx=>Zco (U5 2 x) x) Zbh Zo2;obtain ⟨r6,e6,s6⟩:=Zbe b.excl (λx=>x) (λx=>H1 x.lo x.hi) (λx=>!H1 x.lo x.hi) (λx=>rfl);obtain ⟨r7,e7,s7⟩:=Zbe b.bidi (λx=>(⟨x.lo,x.hi⟩:Spn)) (Zcp 0 22 false) _ (Zf4 0 22);obtain ⟨r8,e8,s8⟩:=Zbe b.join (λx=>(⟨x.lo,x.hi⟩:Spn)) (Zcp 0 5 false) _ (Zf4 0 5);obtain ⟨r9,e9,s9⟩:=Zbe b.marks (λx=>x) (λ_=>false) (λ_=>true) (λx=>rfl);obtain ⟨r10,e10,s10⟩:=Zbe b.script (λx=>(⟨x.lo,x.hi⟩:Spn)) (Zcp 1 (b.names.length:Int) false) _ (Zf4 1 (b.names.length:Int));obtain ⟨r11,e11,s11⟩:=Zbe b.like (λx=>(⟨x.lo,x.hi⟩:Spn)) (U5 18) (λx=>Hd x.is_ 1 18) (λx=>by simp [U5]);rw [Zzd] at e6 e9;have e9':List.map (λ_:Spn=>false) b.marks=List.replicate (b.marks.length:Int).toNat false:=by rw [Int.toNat_natCast,List.map_const']
 rw [e9'] at e9;rw [Ze.t20,e1,Option.bind_some,Ze.t19,Zeg _ hb.status,Option.bind_some,Ze.t18,Zcm _ _ _ _ hb.status,Option.bind_some,Ze.t17,e2,Option.bind_some,
  Ze.t16,Zfk _ hb.maps,Option.bind_some,Ze.t15,e3,Option.bind_some,Ze.t14,Zeg _ hb.class_,Option.bind_some,Ze.t13,Zcm _ _ _ _ hb.class_,Option.bind_some,
  Ze.t12,e4,Option.bind_some,Ze.t11,Zfk _ hb.decomp,Option.bind_some,Ze.t10,Zk9 _ hb.decomp hb.decompI,Option.bind_some,Ze.t9,e5,Option.bind_some,
  Ze.t8,e6,Option.bind_some,Ze.t7,Zeg _ hb.bidi,Option.bind_some,Ze.t6,Zcm _ _ _ _ hb.bidi,Option.bind_some,Ze.t5,e7,Option.bind_some,
  Ze.t4,Zeg _ hb.join,Option.bind_some,Ze.t3,Zcm _ _ _ _ hb.join,Option.bind_some,Ze.t2,e8,Option.bind_some,Ze.t1,e9,Option.bind_some,
  Zeg _ hb.script,Option.bind_some,Zcm _ _ _ _ hb.script,Option.bind_some,e10,Option.bind_some,Zfk _ hb.like,Option.bind_some,Zfl _ _ hb.like hb.likeI,Option.bind_some,e11,Option.bind_some]
 obtain ⟨p,q,e⟩:=Zrv b r1 r2 r3 r4 r5 r6 r7 r8 r9 r10 r11 (λh=>Dok.mk' (by have:=Zc5 s5;simp [h] at this;exact this));refine ⟨p,q,?_⟩;rw [e];simp only [List.all_cons,List.all_nil,Bool.and_true,Zc5 s1,Zc5 s2,Zc5 s3,Zc5 s4,Zc5 s5,Zc5 s6,Zc5 s7,Zc5 s8,Zc5 s9,Zc5 s10,Zc5 s11];unfold okB Zqa Zyw;simp only [Bool.and_assoc]
end
section
open Go.IntKind (i8 i16 i32 i64 u8 u16 u32 u64)
open Go.RowKit

theorem Zog {σ β:Type} (L:Nat->Int->σ->Option β) (hi:Int) (Spec:Int->σ->Option β->Prop)
  (hend:∀ s k,Spec hi s (L (k+1) hi s))
  (hstep:∀ i s k,i<hi->(∀ s',Spec (i+1) s' (L k (i+1) s'))->Spec i s (L (k+1) i s)):
  ∀ (n:Nat) i s k,hi=i+n->n<k->Spec i s (L k i s):=by
 intro n
 induction n with
 | zero=>
  intro i s k e hk;obtain ⟨k,rfl⟩:∃ j,k=j+1:=⟨k-1,by omega⟩;have:hi=i:=by omega
  subst this;exact hend s k
 | succ n ih=>
  intro i s k e hk;obtain ⟨k,rfl⟩:∃ j,k=j+1:=⟨k-1,by omega⟩;exact hstep i s k (by omega) λs'=>ih (i+1) s' k (by omega) (by omega)
def inB (p:Int) (x:Val):Bool:=decide (x.lo<=p)&&decide (p<=x.hi)
def Za1:List Val->Int->Int
 | [],_=>0
 | x::t,p=>if inB p x=true then x.n else Za1 t p
theorem Zln {p:Int}:∀ {l:List Val},(∀ x∈l,inB p x=false)->Za1 l p=0
 | [],_=>rfl
 | x::t,h=>by
  rw [Za1,if_neg (by rw [h x (List.mem_cons_self ..)];decide)]
  exact Zln λy hy=>h y (List.mem_cons_of_mem _ hy)
theorem Zg1 {p:Int} {b:List Val}:∀ {a:List Val},(∀ x∈a,inB p x=false)->Za1 (a++b) p=Za1 b p
 | [],_=>rfl
 | x::t,h=>by
  rw [List.cons_append,Za1,if_neg (by rw [h x (List.mem_cons_self ..)];decide)]
  exact Zg1 λy hy=>h y (List.mem_cons_of_mem _ hy)
theorem Zg2 {p:Int} {b:List Val}:∀ {a:List Val},(∀ x∈b,inB p x=false)->Za1 (a++b) p=Za1 a p
 | [],h=>Zln h
 | x::t,h=>by
  rw [List.cons_append,Za1,Za1,Zg2 (a:=t) h]
theorem Zkz {α:Type} {lo hi:α->Int} {may:α->Bool}:∀ {a:List α} {last:Int} {x:α} {t:List α},Vj lo hi may last (a++x::t)=true->
  (∀ y∈a,hi y<lo x)/\(∀ z∈t,hi x<lo z)/\last<lo x/\lo x<=hi x/\hi x<=1114111/\may x=true
 | [],last,x,t,h=>by
  simp only [List.nil_append,Vj,Bool.and_eq_true,decide_eq_true_eq] at h
  obtain ⟨⟨⟨⟨h1,h2⟩,h3⟩,h4⟩,h5⟩:=h
  exact ⟨λy hy=>(by cases hy),λz hz=>(Zcf h5 z hz).1,h1,h2,h3,h4⟩
 | y::a,last,x,t,h=>by
  simp only [List.cons_append,Vj,Bool.and_eq_true,decide_eq_true_eq] at h
  obtain ⟨⟨⟨⟨h1,h2⟩,h3⟩,h4⟩,h5⟩:=h
  have g:=Zkz h5
  obtain ⟨g1,g2,g3,g4,g5,g6⟩:=g
  refine ⟨λz hz=>?_,g2,by omega,g4,g5,g6⟩
  rcases List.mem_cons.1 hz with rfl | hz
  ·exact g3
  ·exact g1 z hz
theorem Zjr {α:Type} {xs pre t:List α} (e:xs=pre++t):sub xs (pre.length:Int) (xs.length:Int)=t:=by
 subst e;rw [sub,Int.toNat_natCast,Int.toNat_natCast,List.take_length,List.drop_left]
theorem Ztm {m:Nat} (y:Vector Int m) {i j:Int} (z:Int) (hi0:0<=i) (hi1:i<(m:Int)) (hj0:0<=j) (hj1:j<(m:Int)):vg (Zdo y i z) j=if i=j then z else vg y j:=by
 have h1:i.toNat<m:=by omega
 have h2:j.toNat<m:=by omega
 simp only [vg,Zdo,Vector.toList,List.getD_eq_getElem?_getD,Array.getElem?_toList,Array.getElem?_setIfInBounds];by_cases c:i=j
 ·simp [c,h2]
 ·rw [if_neg c,if_neg (by omega)]
theorem Zz4 {m:Nat} {j:Int}:vg (Vector.replicate m (0:Int)) j=0:=by
 simp only [vg,List.getD_eq_getElem?_getD];by_cases c:j.toNat<m
 ·simp [c]
 ·simp [c]
def Zc6 (x:Val):Bool:=decide (0<=x.n)&&decide (x.n<=65535)
def Za2 (l:List Val):Prop:=l.length<=65536/\Vj (·.lo) (·.hi) Zc6 (-1) l=true
abbrev Blk:=Vector Int 128
def Zc8:Blk:=Vector.replicate 128 0
def Ziu (v:Blk) (l:List Val) (p:Int):Prop:=∀ j:Int,0<=j->j<128->vg v j=Za1 l (p+j)
theorem Zlh {l:List Val} (h:Za2 l):Xn.f l=some (0,0):=by
 have hl:l.length<=Z2:=by have:=h.1;unfold Z2;omega
 unfold Xn.f;rw [if_neg (by have:=h.1;omega)];exact Qf (λk i last=>Xn.l1 k l last i) l (λpre t last o=>Vj (·.lo) (·.hi) Zc6 last t=true->o=some (0,0))
  (λs k _=>by simp only [Xn.l1,if_neg (show ¬ (l.length:Int)<(l.length:Int) by omega)])
  (λpre x t s k e ih hs=>by
   obtain ⟨h1,h2⟩:=mid e
   simp only [Vj,Zc6,Bool.and_eq_true,decide_eq_true_eq] at hs
   obtain ⟨⟨⟨⟨g1,g2⟩,g3⟩,g4,g5⟩,g6⟩:=hs
   simp only [Xn.l1,if_pos h2.2,if_pos h2,h1,Xn.j2,Xn.j1,nxt hl e]
   rw [if_neg (by omega),if_neg (by omega),if_neg (by simp;omega),if_neg (by omega),if_neg (by simp;omega)]
   exact ih x.hi g6) (-1) K0 (ltK hl) h.2
structure Z3o (l:List Val) (k p:Int) where
 done:List Val
 rest:List Val
 eq:l=done++rest
 len:k=(done.length:Int)
 old:∀ x∈done,x.hi<p
theorem Zy8 (go:Blk->Bool->Int->Option (Bool×Int×Blk)) (l done rest:List Val) (p i:Int) (x:Val) (v:Blk) (hp:0<=p) (hp1:p<=1113984) (el:l=done++rest) (ei:rd rest i=x)
  (hx0:p<=x.hi) (hx1:x.lo<=p+127) (hx2:x.lo<=x.hi) (hx3:0<=x.lo) (hx4:x.hi<=1114111) (hn:0<=x.n/\x.n<=65535) (hi:i64.wrap (i+1)=i+1):
  ∃ v',Z9.l1 go K0 l p (done.length:Int) i v (max x.lo p)=go v' true (i+1)/\∀ j:Int,0<=j->j<128->vg v' j=if inB (p+j) x=true then x.n else vg v j:=by
 have hs:sub l (done.length:Int) (l.length:Int)=rest:=Zjr el;have hlast:i32.wrap ((i32.wrap (p+128))-1)=p+127:=by rw [w32 (x:=p+128) (by omega) (by omega),w32 (by omega) (by omega)];omega
 have hstart:max x.lo p<=min x.hi (p+127):=by omega
 have:=Zog (λk q v=>Z9.l1 go k l p (done.length:Int) i v q) (min x.hi (p+127)+1)
  (λq (w:Blk) o=>max x.lo p<=q->(∀ j:Int,0<=j->j<128->vg w j=if max x.lo p<=p+j/\p+j<q then x.n else vg v j)->
   ∃ v',o=go v' true (i+1)/\∀ j:Int,0<=j->j<128->vg v' j=if inB (p+j) x=true then x.n else vg v j)
  (λw k _ hw=>by
   simp only [Z9.l1,hs,ei,hlast]
   rw [if_neg (by omega),hi]
   refine ⟨w,rfl,λj h0 h1=>?_⟩
   rw [hw j h0 h1]
   simp only [inB,Bool.and_eq_true,decide_eq_true_eq]
   by_cases c:x.lo<=p+j/\p+j<=x.hi
   ·rw [if_pos c,if_pos (by omega)]
   ·rw [if_neg c,if_neg (by omega)])
  (λq w k hq ih hq0 hw=>by
   simp only [Z9.l1,hs,ei,hlast]
   rw [if_pos (by omega),w32 (x:=q-p) (by omega) (by omega),if_pos ⟨by omega,by omega⟩,w16 hn.1 (by omega),w32 (x:=q+1) (by omega) (by omega)]
   refine ih _ (by omega) λj h0 h1=>?_
   rw [Ztm w x.n (by omega) (by omega) h0 (by omega),hw j h0 h1]
   by_cases c:q-p=j
   ·rw [if_pos c,if_pos (by omega)]
   ·rw [if_neg c]
    by_cases c2:max x.lo p<=p+j/\p+j<q
    ·rw [if_pos c2,if_pos (by omega)]
    ·rw [if_neg c2,if_neg (by omega)])
  (min x.hi (p+127)+1-max x.lo p).toNat (max x.lo p) v K0 (by omega) (by unfold K0;omega) (Int.le_refl _)
  (λj h0 h1=>by rw [if_neg (by omega)])
 exact this
end
section
open Go.IntKind (i8 i16 i32 i64 u8 u16 u32 u64)
open Go.RowKit

def Zsl (v0:Blk) (l:List Val) (p:Int) (o:Option (Bool×Int×Blk)):Prop:=
 ∃ any v' done' rest',o=some (any,(done'.length:Int),v')/\l=done'++rest'/\(∀ x∈done',x.hi<p)/\Ziu v' l p/\(any=false->v'=v0)
theorem Zwv (l done rest:List Val) (p:Int) (hl:Za2 l) (hp:0<=p) (hp1:p<=1113984) (el:l=done++rest) (hd:∀ x∈done,x.hi<p) (hr:∀ x,rest.head?=some x->¬ x.hi<p):
  Zsl Zc8 l p (Z9.l2 K0 l p (done.length:Int) Zc8 false 0):=by
 have hb:l.length<=Z2:=by have:=hl.1;unfold Z2;omega
 have hrl:rest.length<=Z2:=by rw [el] at hb;simp at hb;omega
 have hs:sub l (done.length:Int) (l.length:Int)=rest:=Zjr el;have hlast:i32.wrap ((i32.wrap (p+128))-1)=p+127:=by rw [w32 (x:=p+128) (by omega) (by omega),w32 (by omega) (by omega)];omega
 have hdn:∀ (b:List Val) (j:Int),0<=j->Za1 (done++b) (p+j)=Za1 b (p+j):=λb j h0=>Zg1 λx hx=>by
  have:=hd x hx;simp [inB,show ¬ p+j<=x.hi by omega]
 refine Qf (λk i (s:Blk×Bool)=>Z9.l2 k l p (done.length:Int) s.1 s.2 i) rest
  (λpre t s o=>Ziu s.1 pre p->(s.2=false->s.1=Zc8)->Zsl Zc8 l p o) ?_ ?_ (Zc8,false) K0 (ltK hrl) (λj _ _=>by rw [Za1];exact Zz4) (λ_=>rfl)
 ·intro ⟨v,any⟩ k hv ha
  simp only [Z9.l2,hs,Z9.j1];rw [if_neg (by omega)];exact ⟨any,v,done,rest,rfl,el,hd,λj h0 h1=>by rw [el,hdn _ _ h0];exact hv j h0 h1,ha⟩
 ·intro pre x t ⟨v,any⟩ k e ih hv ha
  simp only at hv ha;obtain ⟨h1,h2⟩:=mid e;have e2:l=(done++pre)++x::t:=by rw [el,e];simp
  have hok:=hl.2;rw [e2] at hok;obtain ⟨g1,g2,g3,g4,g5,g6⟩:=Zkz hok;simp only [Zc6,Bool.and_eq_true,decide_eq_true_eq] at g6;simp only [Z9.l2,hs,h1,hlast,Z9.j1];rw [if_pos h2.2,if_pos h2];by_cases c:p+127<x.lo
  ·rw [if_pos c]
   refine ⟨any,v,done,rest,rfl,el,hd,λj h0 h1=>?_,ha⟩;rw [el,hdn _ _ h0,e,Zg2 (λy hy=>?_)]
   ·exact hv j h0 h1
   ·rcases List.mem_cons.1 hy with rfl | hy
    ·simp [inB,show ¬ y.lo<=p+j by omega]
    ·have:=g2 y hy
     simp [inB,show ¬ y.lo<=p+j by omega]
  ·rw [if_neg c]
   have hx0:p<=x.hi:=by
    cases pre with
    | nil=>have:=hr x (by rw [e];rfl);omega
    | cons y pre=>
     have h3:=hr y (by rw [e];rfl);have h4:=g1 y (by simp);omega
   obtain ⟨v',f1,f2⟩:=Zy8 (Z9.l2 k l p (done.length:Int)) l done rest p (pre.length:Int) x v hp hp1 el h1 hx0 (by omega) g4 (by omega) g5 g6 (nxt hrl e);rw [f1];refine ih (v',true) (λj h0 h1=>?_) (λh=>by cases h);show vg v' j=_;rw [f2 j h0 h1];by_cases c2:inB (p+j) x=true
   ·have:∀ y∈pre,inB (p+j) y=false:=λy hy=>by
     have:=g1 y (by simp [hy]);simp only [inB,Bool.and_eq_true,decide_eq_true_eq] at c2;simp [inB,show ¬ p+j<=y.hi by omega]
    rw [if_pos c2,Zg1 this,Za1,if_pos c2]
   ·rw [if_neg c2,Zg2 (λy hy=>by rw [List.mem_singleton.1 hy];simpa using c2)]
    exact hv j h0 h1
theorem Z1g (l:List Val) (p:Int) (hl:Za2 l) (hp:0<=p) (hp1:p<=1113984):∀ (rest done:List Val),l=done++rest->(∀ x∈done,x.hi<p)->Zsl Zc8 l p (Z9.f l p (done.length:Int) Zc8):=by
 have hb:l.length<=Z2:=by have:=hl.1;unfold Z2;omega
 have key:∀ (rest done:List Val) (k:Nat),rest.length<k->l=done++rest->(∀ x∈done,x.hi<p)->Zsl Zc8 l p (Z9.l3 k Zc8 l p (done.length:Int)):=by
  intro rest
  induction rest with
  | nil=>
   intro done k hk e hd;obtain ⟨k,rfl⟩:∃ j,k=j+1:=⟨k-1,by simp at hk;omega⟩;have hlen:l.length=done.length:=by rw [e];simp
   simp only [Z9.l3,Z9.j2];rw [if_neg (by omega),if_neg (by decide),if_pos ⟨by omega,by omega,by omega⟩];exact Zwv l done [] p hl hp hp1 e hd (λx hx=>by cases hx)
  | cons x t ih=>
   intro done k hk e hd;obtain ⟨k,rfl⟩:∃ j,k=j+1:=⟨k-1,by simp at hk;omega⟩;obtain ⟨h1,h2⟩:=mid e;simp only [Z9.l3,Z9.j2,h1];rw [if_pos h2.2,if_pos h2];by_cases c:x.hi<p
   ·rw [if_pos (by simpa using c),nxt hb e]
    have:=ih (done++[x]) k (by simp at hk;omega) (by rw [e];simp) (λy hy=>by
     rcases List.mem_append.1 hy with hy | hy
     ·exact hd y hy
     ·rw [List.mem_singleton.1 hy];exact c)
    simpa using this
   ·rw [if_neg (by simpa using c),if_pos ⟨by omega,by omega,by omega⟩]
    exact Zwv l done (x::t) p hl hp hp1 e hd (λy hy=>by simp at hy;subst hy;exact c)
 intro rest done e hd;exact key rest done K0 (ltK (by rw [e] at hb;simp at hb;omega)) e hd
theorem Zzh (l:List Val) (p:Int) (hl:Za2 l) (hp:0<=p) (hp1:p<=1113984) (rest done:List Val) (e:l=done++rest) (hd:∀ x∈done,x.hi<p):
  ∃ any v' done' rest',Xh.f p Zc8 none l (done.length:Int)=some (any,v',(done'.length:Int))/\l=done'++rest'/\(∀ x∈done',x.hi<p)/\Ziu v' l p/\(any=false->v'=Zc8):=by
 obtain ⟨any,v',done',rest',f1,f2,f3,f4,f5⟩:=Z1g l p hl hp hp1 rest done e hd;refine ⟨any,v',done',rest',?_,f2,f3,f4,f5⟩;rw [Xh.f,if_neg (by decide),Xh.j2,f1,Option.bind_some];cases any<;>rfl
theorem Zud (v:Blk):∃ w,X6.f v=some w:=by
 unfold X6.f;exact Zog (λk i (_:Unit)=>X6.l1 k v i) 128 (λi _ o=>0<=i->∃ w,o=some w)
  (λ_ k _=>⟨true,by simp only [X6.l1];rw [if_neg (by decide)]⟩)
  (λi _ k hi ih h0=>by
   simp only [X6.l1]
   rw [if_pos hi,if_pos ⟨h0,by omega⟩,if_pos ⟨by omega,by omega⟩]
   by_cases c:vg v i≠vg v 0
   ·exact ⟨false,by rw [if_pos c]⟩
   ·rw [if_neg c,w64 (by omega) (by omega)]
    exact ih () (by omega)) 128 0 () K0 (by omega) (by unfold K0;omega) (Int.le_refl _)
structure Z1u where
 flat:List Bool
 blks:List Blk
 seen:List (Blk×Int)
 which:Vector Int 8704
 past:Int
 plain:Int
structure Z0p (l:List Val) (i:Int) (s:Z1u):Prop where
 few:(s.blks.length:Int)<=i
 flat:s.flat.length=s.blks.length
 seen:∀ v j,Ul s.seen v=some j->0<=j/\j<(s.blks.length:Int)/\rd s.blks j=v
 which:∀ b:Int,0<=b->b<i->0<=vg s.which b/\vg s.which b<(s.blks.length:Int)/\Ziu (rd s.blks (vg s.which b)) l (128*b)
 plain:0<=s.plain->s.plain<(s.blks.length:Int)/\rd s.blks s.plain=Zc8
 past:∃ done rest,l=done++rest/\s.past=(done.length:Int)/\∀ x∈done,x.hi<128*i
def Zf8 (l:List Val) (T:Tab):Prop:=∀ b:Int,0<=b->b<8704->0<=vg T.which b/\vg T.which b<(T.unlike.length:Int)/\Ziu (rd T.unlike (vg T.which b)) l (128*b)
theorem Zxi {α:Type} [Inhabited α] {a b:List α} {i:Int} (h0:0<=i) (h1:i<(a.length:Int)):rd (a++b) i=rd a i:=by
 unfold rd;rw [List.getD_eq_getElem?_getD,List.getD_eq_getElem?_getD,List.getElem?_append_left (by omega)]
theorem Zxh {α:Type} [Inhabited α] {a:List α} {x:α}:rd (a++[x]) (a.length:Int)=x:=by simp [rd]
theorem Zkv {l:List Val} {i w:Int} {W:Vector Int 8704} {U U':List Blk} {v:Blk} (hi0:0<=i) (hi1:i<8704) (hw0:0<=w) (hw1:w<(U'.length:Int)) (hv:rd U' w=v) (hh:Ziu v l (128*i))
  (hU:∀ j:Int,0<=j->j<(U.length:Int)->j<(U'.length:Int)/\rd U' j=rd U j)
  (h:∀ b:Int,0<=b->b<i->0<=vg W b/\vg W b<(U.length:Int)/\Ziu (rd U (vg W b)) l (128*b)):
  ∀ b:Int,0<=b->b<i+1->0<=vg (Zdo W i w) b/\vg (Zdo W i w) b<(U'.length:Int)/\Ziu (rd U' (vg (Zdo W i w) b)) l (128*b):=by
 intro b h0 h1;rw [Ztm W w hi0 (by omega) h0 (by omega)];by_cases c:i=b
 ·rw [if_pos c]
  subst c;exact ⟨hw0,hw1,by rw [hv];exact hh⟩
 ·rw [if_neg c]
  obtain ⟨a1,a2,a3⟩:=h b h0 (by omega);obtain ⟨b1,b2⟩:=hU _ a1 a2;exact ⟨a1,b1,by rw [b2];exact a3⟩
theorem Zzc (l:List Val) (hl:Za2 l):∃ T r,Z8.f none l 0=some (some T,r)/\Zf8 l T:=by
 refine Zog (λk i (s:Z1u)=>Z8.l1 k none l s.flat s.blks Zc8 s.seen s.which s.past s.plain i) 8704
  (λi s o=>0<=i->Z0p l i s->∃ T r,o=some (some T,r)/\Zf8 l T) ?_ ?_ 8704 0 ⟨[],[],[],Vector.replicate 8704 0,0,-1⟩ K0 (by omega) (by unfold K0;omega) (Int.le_refl _) ?_
 ·intro s k _ h
  refine ⟨⟨s.which,s.blks,s.flat⟩,s.past,?_,h.which⟩;show Z8.l1 (k+1) none l s.flat s.blks Zc8 s.seen s.which s.past s.plain 8704=_;rw [Z8.l1,if_neg (by decide)]
 ·intro i s k hi ih h0 h
  obtain ⟨done,rest,e1,e2,e3⟩:=h.past;have hpi:i32.wrap (i64.wrap (i*128))=128*i:=by rw [w64 (by omega) (by omega),w32 (by omega) (by omega)];omega
  obtain ⟨any,v',done',rest',f1,f2,f3,f4,f5⟩:=Zzh l (128*i) hl (by omega) (by omega) rest done e1 e3;have hpast:∃ d r,l=d++r/\(done'.length:Int)=(d.length:Int)/\∀ x∈d,x.hi<128*(i+1):=⟨done',rest',f2,rfl,λx hx=>by have:=f3 x hx;omega⟩;have hfew:=h.few;have hmost:∀ n:Nat,(n:Int)<=i->n+1<=most:=λn hn=>by unfold most;omega
  have hmostL:∀ n:Nat,(n:Int)<=i->n+1<=Zs5:=λn hn=>by unfold Zs5;omega
  have hbl:(Vector.replicate 128 0:Vector Int 128)=Zc8:=rfl;show ∃ T r,Z8.l1 (k+1) none l s.flat s.blks Zc8 s.seen s.which s.past s.plain i=some (some T,r)/\Zf8 l T;rw [Z8.l1,if_pos hi,hpi,e2,f1,Option.bind_some];have fin:∀ (F:List Bool) (U:List Blk) (S:List (Blk×Int)) (w:Int),(U.length:Int)<=i+1->F.length=U.length->(∀ v j,Ul S v=some j->0<=j/\j<(U.length:Int)/\rd U j=v)->
    (∀ j:Int,0<=j->j<(s.blks.length:Int)->j<(U.length:Int)/\rd U j=rd s.blks j)->0<=w->w<(U.length:Int)->rd U w=v'->
    ∃ T r,Z8.j2 (Z8.l1 k none l) s.which s.plain i (any,v',(done'.length:Int)) F U S w=some (some T,r)/\Zf8 l T:=by
   intro F U S w a1 a2 a3 a4 a5 a6 a7;rw [Z8.j2,if_pos ⟨h0,by omega⟩];have hwhich:=Zkv h0 hi a5 a6 a7 f4 a4 h.which
   cases any with
   | true=>
    rw [if_pos rfl,Z8.j1,w64 (x:=i+1) (by omega) (by omega),hbl];exact ih ⟨F,U,S,Zdo s.which i w,(done'.length:Int),s.plain⟩ (by omega) ⟨a1,a2,a3,hwhich,λhp=>by obtain ⟨c1,c2⟩:=h.plain hp;obtain ⟨d1,d2⟩:=a4 _ hp c1;exact ⟨d1,by rw [d2];exact c2⟩,hpast⟩
   | false=>
    have hv:=f5 rfl;rw [if_neg (by simp),Z8.j1,w64 (x:=i+1) (by omega) (by omega),w64 (x:=w) (by omega) (by omega)];show ∃ T r,Z8.l1 k none l F U v' S (Zdo s.which i w) (done'.length:Int) w (i+1)=some (some T,r)/\Zf8 l T;rw [hv];exact ih ⟨F,U,S,Zdo s.which i w,(done'.length:Int),w⟩ (by omega) ⟨a1,a2,a3,hwhich,λ_=>⟨a6,by rw [a7,hv]⟩,hpast⟩
  have look:∃ T r,Z8.j3 (Z8.l1 k none l) s.flat s.blks s.seen s.which s.plain i (any,v',(done'.length:Int)) false=some (some T,r)/\Zf8 l T:=by
   rw [Z8.j3,if_neg (by decide)]
   cases em:Ul s.seen v' with
   | none=>
    obtain ⟨w,hw⟩:=Zud v';dsimp only;rw [if_pos (by rfl),if_pos (show s.blks.length+[v'].length<=Zs5 from hmostL _ hfew),hw,Option.bind_some,if_pos (show s.flat.length+[w].length<=most from hmost _ (by rw [h.flat];exact hfew)),w16 (by omega) (by omega)];refine fin _ _ _ _ (by simp;omega) (by simp [h.flat]) (λv j ej=>?_) (λj j0 j1=>⟨by simp;omega,Zxi j0 j1⟩) (by omega) (by simp;omega) Zxh;rw [Zec] at ej;by_cases c:v=v'
    ·rw [if_pos c] at ej
     have:(s.blks.length:Int)=j:=by simpa using ej
     subst this;exact ⟨by omega,by simp;omega,by rw [Zxh,c]⟩
    ·rw [if_neg c] at ej
     obtain ⟨c1,c2,c3⟩:=h.seen v j ej;exact ⟨c1,by simp;omega,by rw [Zxi c1 c2];exact c3⟩
   | some w=>
    obtain ⟨c1,c2,c3⟩:=h.seen v' w em;rw [if_neg (by simp)];exact fin _ _ _ _ (by omega) h.flat h.seen (λj j0 j1=>⟨j1,rfl⟩) c1 c2 c3
  cases any with
  | true=>rw [if_neg (by simp)];exact look
  | false=>
   rw [if_pos (by rfl)];by_cases c:0<=s.plain
   ·obtain ⟨c1,c2⟩:=h.plain c
    have hv:=f5 rfl;rw [Z8.j3,if_pos (by simpa using c),if_pos ⟨h0,by omega⟩,Z8.j1,w64 (x:=i+1) (by omega) (by omega),w16 c (by omega)];show ∃ T r,Z8.l1 k none l s.flat s.blks v' s.seen (Zdo s.which i s.plain) (done'.length:Int) s.plain (i+1)=some (some T,r)/\Zf8 l T;rw [hv];rw [hv] at f4;exact ih ⟨s.flat,s.blks,s.seen,Zdo s.which i s.plain,(done'.length:Int),s.plain⟩ (by omega) ⟨by show (s.blks.length:Int)<=i+1;omega,h.flat,h.seen,Zkv h0 hi c c1 c2 f4 (λj j0 j1=>⟨j1,rfl⟩) h.which,h.plain,hpast⟩
   ·rw [show decide (0<=s.plain)=false by simpa using c];exact look
 ·exact ⟨by simp,rfl,λv j e=>(by cases e),λb h0 h1=>(by omega),λh=>absurd h (by decide),[],l,rfl,rfl,λx hx=>(by cases hx)⟩
theorem Zvy (l:List Val) (hl:Za2 l):∃ T,Ux.f l=some (some T,0,0)/\Zf8 l T:=by
 obtain ⟨T,r,h1,h2⟩:=Zzc l hl;refine ⟨T,?_,h2⟩;rw [Ux.f,Hf.f,Zlh hl,Option.bind_some,if_neg (by decide),h1];rfl
theorem Zjb {l:List Val} (h:∀ x∈l,0<=x.n/\x.n<=65535) (p:Int):0<=Za1 l p/\Za1 l p<=65535:=by
 induction l with
 | nil=>simp [Za1]
 | cons x t ih=>
  unfold Za1;split
  ·exact h x (List.mem_cons_self ..)
  ·exact ih λy hy=>h y (List.mem_cons_of_mem _ hy)
theorem Zza {l:List Val} (hl:Za2 l) {T:Tab} (hT:Zf8 l T) (p:Int) (h0:0<=p) (h1:p<=1114111):Z1.f (some T) p=some (Za1 l p):=by
 have hq:p.tdiv 128=p/128:=Int.tdiv_eq_ediv_of_nonneg h0;have hm:p.tmod 128=p%128:=Int.tmod_eq_emod_of_nonneg h0;obtain ⟨a1,a2,a3⟩:=hT (p/128) (by omega) (by omega);have hv:=a3 (p%128) (by omega) (by omega);rw [show 128*(p/128)+p%128=p by omega] at hv;have hr:=Zjb (l:=l) (λx hx=>by
  have:=(Zcf hl.2 x hx).2.2.2;simpa [Zc6] using this) p
 simp only [Z1.f,Z1.j1,hq,hm];rw [if_neg (by simp),if_neg (by omega),if_neg (by simp;omega),if_pos (by rfl),w32 (by omega) (by omega),if_pos ⟨by omega,by omega⟩];simp only [Option.getD_some];rw [if_pos ⟨a1,a2⟩,if_pos ⟨by omega,by omega⟩,hv,w64 (by omega) (by omega)]
theorem Zko (T:Option Tab) (p:Int) (h:p<0\/1114111<p):Z1.f T p=some 0:=by
 simp only [Z1.f,Z1.j1];split
 ·rfl
 ·split
  ·rfl
  ·rw [if_pos (by simp;omega)]
end
section
open Go.RowKit

theorem Zpo (l:List Val):∃ a e,Xn.f l=some (a,e)/\(e=0->Za2 l):=by
 unfold Xn.f;by_cases c:(65536:Int)<l.length
 ·exact ⟨_,_,by rw [if_pos c],λh=>absurd h (by decide)⟩
 ·rw [if_neg c]
  have hl:l.length<=Z2:=by unfold Z2;omega
  have:=Qf (λk i last=>Xn.l1 k l last i) l (λpre t last o=>∃ a e,o=some (a,e)/\(e=0->Vj (·.lo) (·.hi) Zc6 last t=true))
   (λs k=>⟨0,0,by simp only [Xn.l1,if_neg (show ¬ (l.length:Int)<(l.length:Int) by omega)],λ_=>rfl⟩)
   (λpre x t s k e ih=>by
    obtain ⟨h1,h2⟩:=mid e
    simp only [Xn.l1,if_pos h2.2,if_pos h2,h1,Xn.j2,Xn.j1,nxt hl e]
    by_cases c1:x.lo<=s
    ·exact ⟨_,80,by rw [if_pos c1,if_pos True.intro],λh=>absurd h (by decide)⟩
    ·rw [if_neg c1]
     by_cases c2:x.hi<x.lo
     ·exact ⟨_,80,by rw [if_pos c2,if_pos True.intro],λh=>absurd h (by decide)⟩
     ·rw [if_neg c2]
      by_cases c3:1114111<x.hi
      ·exact ⟨_,80,by rw [if_pos (by simpa using c3)],λh=>absurd h (by decide)⟩
      ·rw [if_neg (by simpa using c3)]
       by_cases c4:x.n<0
       ·exact ⟨_,81,by rw [if_pos c4,if_pos True.intro],λh=>absurd h (by decide)⟩
       ·rw [if_neg c4]
        by_cases c5:65535<x.n
        ·exact ⟨_,81,by rw [if_pos (by simpa using c5)],λh=>absurd h (by decide)⟩
        ·rw [if_neg (by simpa using c5)]
         obtain ⟨a,e2,h3,h4⟩:=ih x.hi
         refine ⟨a,e2,h3,λh=>?_⟩
         rw [Za6 c1 c2 c3 (by simp only [Zc6,Bool.and_eq_true,decide_eq_true_eq];omega)]
         exact h4 h) (-1) K0 (ltK hl)
  obtain ⟨a,e,h1,h2⟩:=this;exact ⟨a,e,h1,λh=>⟨by omega,h2 h⟩⟩
def Zcb (l:List Val) (T:Option Tab):Prop:=(¬ Za2 l->T=none)/\(Za2 l->∃ t,T=some t/\Zf8 l t)
theorem Zh6 (l:List Val):∃ T x y,Ux.f l=some (T,x,y)/\Zcb l T:=by
 by_cases c:Za2 l
 ·obtain ⟨T,h1,h2⟩:=Zvy l c
  exact ⟨some T,0,0,h1,λh=>absurd c h,λ_=>⟨T,rfl,h2⟩⟩
 ·obtain ⟨a,e,h1,h2⟩:=Zpo l
  have he:e≠0:=λh=>c (h2 h);refine ⟨none,a,e,?_,λ_=>rfl,λh=>absurd h c⟩;rw [Ux.f,Hf.f,h1,Option.bind_some,if_pos he];rfl
theorem Zll {l:List Val} {T:Option Tab} (h:Zcb l T) (hl:Za2 l) (p:Int) (h0:0<=p) (h1:p<=1114111):Z1.f T p=some (Za1 l p):=by
 obtain ⟨t,rfl,ht⟩:=h.2 hl;exact Zza hl ht p h0 h1
theorem Ze8 (l:List Val):∃ T,Q2.f l=some T/\Zcb l T:=by
 obtain ⟨T,x,y,h1,h2⟩:=Zh6 l;exact ⟨T,by rw [Q2.f,h1];rfl,h2⟩
def Zi3 (l:List Spn):List Val:=l.map λx=>⟨x.lo,x.hi,1⟩
theorem Zmx (l:List Spn) (hl:l.length<=Z2):∃ T,Vn.f l=some T/\Zcb (Zi3 l) T:=by
 obtain ⟨T,x,y,h1,h2⟩:=Zh6 (Zi3 l);refine ⟨T,?_,h2⟩;refine Qf (λk i s=>Vn.l1 k l s i) l (λpre t s o=>s=Zi3 pre->o=some T) ?_ ?_ [] K0 (ltK hl) rfl
 ·intro s k hs
  simp only [Vn.l1,if_neg (show ¬ (l.length:Int)<(l.length:Int) by omega),hs,h1];rfl
 ·intro pre x t s k e ih hs
  obtain ⟨h3,h4⟩:=mid e;have hp:pre.length<=Z2:=by rw [e] at hl;simp at hl;omega
  simp only [Vn.l1,if_pos h4.2,if_pos h4,h3,nxt hl e];rw [if_pos (by rw [hs,Zi3,List.length_map];exact Zoi hp (Nat.le_refl _))];exact ih _ (by rw [hs];simp [Zi3])
def Zdr:Int->List Chs->List Val
 | _,[]=>[]
 | i,x::t=>⟨x.lo,x.hi,i+1⟩::Zdr (i+1) t
theorem Zqc:∀ (i:Int) (l:List Chs),(Zdr i l).length=l.length
 | _,[]=>rfl
 | i,x::t=>by simp [Zdr,Zqc (i+1) t]
theorem Zqb:∀ (i:Int) (a b:List Chs),Zdr i (a++b)=Zdr i a++Zdr (i+a.length) b
 | i,[],b=>by simp [Zdr]
 | i,x::a,b=>by
  simp only [List.cons_append,Zdr,Zqb (i+1) a b,List.length_cons]
  rw [show i+1+(a.length:Int)=i+((a.length+1:Nat):Int) by omega]
theorem Zfj (l:List Chs) (hl:l.length<=Z2):∃ T,Yc.f l=some T/\Zcb (Zdr 0 l) T:=by
 obtain ⟨T,x,y,h1,h2⟩:=Zh6 (Zdr 0 l);refine ⟨T,?_,h2⟩;refine Qf (λk i s=>Yc.l1 k l s i) l (λpre t s o=>s=Zdr 0 pre->o=some T) ?_ ?_ [] K0 (ltK hl) rfl
 ·intro s k hs
  simp only [Yc.l1,if_neg (show ¬ (l.length:Int)<(l.length:Int) by omega),hs,h1];rfl
 ·intro pre x t s k e ih hs
  obtain ⟨h3,h4⟩:=mid e;have hp:pre.length<=Z2:=by rw [e] at hl;simp at hl;omega
  simp only [Yc.l1,if_pos h4.2,if_pos h4,h3,Va.f,Option.bind_some,nxt hl e];rw [if_pos (by rw [hs,Zqc];exact Zoi hp (Nat.le_refl _))];exact ih _ (by rw [hs,Zqb];simp [Zdr])
theorem Zem {α:Type} {n:Nat} (h:n<=Z2):([]:List α).length+n<=most:=by unfold Z2 at h;unfold most;simp;omega
theorem Zka (l:List Val) (h:l.length<=Z2):Yp.f l=some l:=by rw [Yp.f,if_pos (Zem h)];rfl
theorem Z00 (l:List ByteArray) (h:l.length<=Z2):J9.f l=some l:=by rw [J9.f,if_pos (Zem h)];rfl
theorem Z0z (l:List Chs) (h:l.length<=Z2):Ke.f l=some l:=by rw [Ke.f,if_pos (Zem h)];rfl
theorem Zvz (l:List Spn) (h:l.length<=Z2):Qk.f l=some l:=by rw [Qk.f,if_pos (Zem h)];rfl
theorem Ze7 (l:List Int) (h:l.length<=Z2):Y7.f l=some l:=by rw [Y7.f,if_pos (Zem h)];rfl
theorem Zrq (l:List Chs) (hl:l.length<=Z2) (hi:∀ x∈l,x.is_.length<=Z2):Uv.f l=some l:=by
 rw [Uv.f,Z0z l hl,Option.bind_some];refine Qf (λk i s=>Uv.l1 k l s i) l (λpre t s o=>s=l->o=some l) ?_ ?_ l K0 (ltK hl) rfl
 ·intro s k hs
  simp only [Uv.l1,if_neg (show ¬ (l.length:Int)<(l.length:Int) by omega),hs]
 ·intro pre x t s k e ih hs
  obtain ⟨h3,h4⟩:=mid e;rw [hs];simp only [Uv.l1,if_pos h4.2,if_pos h4,h3,nxt hl e,Ze7 _ (hi x (by rw [e];simp)),Option.bind_some];refine ih _ ?_;rw [Int.toNat_natCast];rw [e];simp
theorem Zt8 (b:Bk) (hb:Few b):Zbt.f b=some b:=by
 rw [Zbt.f,Z00 _ hb.names,Option.bind_some,Zka _ hb.status,Option.bind_some,Zrq _ hb.maps hb.mapsI,Option.bind_some,Zka _ hb.class_,Option.bind_some,
  Zrq _ hb.decomp hb.decompI,Option.bind_some,Zvz _ hb.excl,Option.bind_some,Zka _ hb.bidi,Option.bind_some,Zka _ hb.join,Option.bind_some,Zvz _ hb.marks,Option.bind_some,
  Zka _ hb.script,Option.bind_some,Zrq _ hb.like hb.likeI,Option.bind_some]
theorem Zdj (l:List Val) (hl:l.length<=Z2):Q6.f l=some l:=by
 have:=Zdh (λk i s=>Q6.l1 k l s i) l (λx=>(⟨x.lo,x.hi,x.n⟩:Val)) hl
  (λs k=>by simp only [Q6.l1,if_neg (show ¬ (l.length:Int)<(l.length:Int) by omega)])
  (λpre x t s k e hs=>by
   obtain ⟨h1,h2⟩:=mid e
   simp only [Q6.l1,if_pos h2.2,if_pos h2,h1,nxt hl e]
   exact if_pos hs)
 rw [Q6.f,this];simp
theorem Zm6 (l:List Spn) (hl:l.length<=Z2):Vt.f l=some l:=by
 have:=Zdh (λk i s=>Vt.l1 k l s i) l (λx=>(⟨x.lo,x.hi⟩:Spn)) hl
  (λs k=>by simp only [Vt.l1,if_neg (show ¬ (l.length:Int)<(l.length:Int) by omega)])
  (λpre x t s k e hs=>by
   obtain ⟨h1,h2⟩:=mid e
   simp only [Vt.l1,if_pos h2.2,if_pos h2,h1,nxt hl e]
   exact if_pos hs)
 rw [Vt.f,this];simp
theorem Zin (l:List Chs) (hl:l.length<=Z2) (hi:∀ x∈l,x.is_.length<=Z2):Ve.f l=some l:=by
 have:=Zdh (λk i s=>Ve.l1 k l s i) l (λx=>(⟨x.lo,x.hi,x.is_⟩:Chs)) hl
  (λs k=>by simp only [Ve.l1,if_neg (show ¬ (l.length:Int)<(l.length:Int) by omega)])
  (λpre x t s k e hs=>by
   obtain ⟨h1,h2⟩:=mid e
   simp only [Ve.l1,if_pos h2.2,if_pos h2,h1,nxt hl e]
   rw [if_pos (Zem (hi x (by rw [e];simp)))]
   exact if_pos hs)
 rw [Ve.f,this];simp
theorem Z0b (b:Bk) (hb:Few b):Zdi.f b=some b:=by
 rw [Zdi.f,if_pos (Zem hb.names),Zdj _ hb.status,Option.bind_some,Zin _ hb.maps hb.mapsI,Option.bind_some,Zdj _ hb.class_,Option.bind_some,
  Zin _ hb.decomp hb.decompI,Option.bind_some,Zm6 _ hb.excl,Option.bind_some,Zdj _ hb.bidi,Option.bind_some,Zdj _ hb.join,Option.bind_some,Zm6 _ hb.marks,Option.bind_some,
  Zdj _ hb.script,Option.bind_some,Zin _ hb.like hb.likeI,Option.bind_some]
 rfl
structure Znl (b:Bk) (t:Tbs):Prop where
 book:t.b=b
 status:Zcb b.status t.status
 class_:Zcb b.class_ t.class_
 bidi:Zcb b.bidi t.bidi
 join:Zcb b.join t.join
 script:Zcb b.script t.script
 excl:Zcb (Zi3 b.excl) t.excl
 mark:Zcb (Zi3 b.marks) t.mark
 maps:Zcb (Zdr 0 b.maps) t.maps
 decomp:Zcb (Zdr 0 b.decomp) t.decomp
 likes:Zcb (Zdr 0 b.like) t.likes
 pairs:b.decomp=[]->t.pairs=[]
theorem Zcv (l:List Val) (T:Option Tab) (h:Zcb l T) (p:Int):∃ r,Z1.f T p=some r:=by
 by_cases c:p<0\/1114111<p
 ·exact ⟨_,Zko T p c⟩
 ·by_cases hl:Za2 l
  ·exact ⟨_,Zll h hl p (by omega) (by omega)⟩
  ·exact ⟨0,by rw [h.1 hl,Z1.f];simp [Z1.j1]⟩
theorem Znt (b:Bk) (hb:Dok b.decomp) {T1 T2 T3 T4 T5 T6 T7 T8 T9 T10:Option Tab} (h2:Zcb b.class_ T2) (h6:Zcb (Zi3 b.excl) T6):
  ∃ ps,Zl.l1 K0 b T1 T2 T3 T4 T5 T6 T7 T8 T9 T10 [] 0=some (some ⟨b,T1,T2,T3,T4,T5,T6,T7,T8,T9,T10,ps⟩,0)/\(b.decomp=[]->ps=[]):=by
 by_cases hnil:b.decomp=[]
 ·refine ⟨[],?_,λ_=>rfl⟩
  obtain ⟨k,hk⟩:∃ k,K0=k+1:=⟨1180591620717411303423,rfl⟩;rw [hk];have hz:¬ (0:Int)<(b.decomp.length:Int):=by rw [hnil];simp
  simp only [Zl.l1,if_neg hz]
 suffices h:∃ ps,Zl.l1 K0 b T1 T2 T3 T4 T5 T6 T7 T8 T9 T10 [] 0=some (some ⟨b,T1,T2,T3,T4,T5,T6,T7,T8,T9,T10,ps⟩,0) from h.imp λ_ h=>⟨h,λe=>absurd e hnil⟩;have hl:b.decomp.length<=Z2:=by have:=hb.len;unfold Z2;omega
 refine Qf (λk i s=>Zl.l1 k b T1 T2 T3 T4 T5 T6 T7 T8 T9 T10 s i) b.decomp
  (λpre t s o=>∃ ps,o=some (some ⟨b,T1,T2,T3,T4,T5,T6,T7,T8,T9,T10,ps⟩,0)) ?_ ?_ [] K0 (ltK hl)
 ·intro s k
  exact ⟨s,by simp only [Zl.l1,if_neg (show ¬ (b.decomp.length:Int)<(b.decomp.length:Int) by omega)]⟩
 ·intro pre x t s k e ih
  obtain ⟨h3,h4⟩:=mid e;obtain ⟨r1,e1⟩:=Zcv _ _ h6 x.lo;obtain ⟨r2,e2⟩:=Zcv _ _ h2 x.lo;obtain ⟨r3,e3⟩:=Zcv _ _ h2 (rd x.is_ 0);simp only [Zl.l1,if_pos h4.2,if_pos h4,h3,Zl.j2,Zl.j1,nxt hl e,e1,e2,e3,Option.bind_some];by_cases c1:(x.is_.length:Int)=2
  ·rw [if_pos c1]
   by_cases c2:r1=0
   ·rw [if_pos c2]
    by_cases c3:r2=0
    ·rw [if_pos c3,if_pos ⟨Int.le_refl _,by omega⟩]
     by_cases c4:r3=0
     ·rw [if_pos (by simpa using c4),if_pos ⟨by omega,by omega⟩,if_pos ⟨by omega,by omega⟩];exact ih _
     ·rw [if_neg (by simpa using c4)];exact ih _
    ·rw [if_neg c3,if_neg (by decide)];exact ih _
   ·rw [if_neg c2,if_neg (by decide)];exact ih _
  ·rw [if_neg c1,if_neg (by decide)];exact ih _
theorem Zkw {b:Bk} (h:okB b=true):Dok b.decomp:=by
 unfold okB at h;simp only [Bool.and_eq_true] at h;exact Dok.mk' h.2.2.2.2.1
theorem Zq3 (b:Bk) (hb:Few b) (h:okB b=true):∃ t,Zl.f b=some (some t,0)/\Znl b t:=by
 obtain ⟨p,hp⟩:=Zga b;rw [h] at hp;obtain ⟨T1,e1,h1⟩:=Ze8 b.status;obtain ⟨T2,e2,h2⟩:=Ze8 b.class_;obtain ⟨T3,e3,h3⟩:=Ze8 b.bidi;obtain ⟨T4,e4,h4⟩:=Ze8 b.join;obtain ⟨T5,e5,h5⟩:=Ze8 b.script;obtain ⟨T6,e6,h6⟩:=Zmx b.excl hb.excl;obtain ⟨T7,e7,h7⟩:=Zmx b.marks hb.marks;obtain ⟨T8,e8,h8⟩:=Zfj b.maps hb.maps;obtain ⟨T9,e9,h9⟩:=Zfj b.decomp hb.decomp;obtain ⟨T10,e10,h10⟩:=Zfj b.like hb.like;obtain ⟨ps,hps,hpn⟩:=Znt b (Zkw h) (T1:=T1) (T3:=T3) (T4:=T4) (T5:=T5) (T7:=T7) (T8:=T8) (T9:=T9) (T10:=T10) h2 h6;refine ⟨⟨b,T1,T2,T3,T4,T5,T6,T7,T8,T9,T10,ps⟩,?_,⟨rfl,h1,h2,h3,h4,h5,h6,h7,h8,h9,h10,hpn⟩⟩;rw [Zl.f,hp,Option.bind_some,if_neg (by simp),Zt8 b hb,Option.bind_some,Zl.t10,e1,Option.bind_some,Zl.t9,e2,Option.bind_some,Zl.t8,e3,Option.bind_some,
  Zl.t7,e4,Option.bind_some,Zl.t6,e5,Option.bind_some,Zl.t5,e6,Option.bind_some,Zl.t4,e7,Option.bind_some,Zl.t3,e8,Option.bind_some,
  Zl.t2,e9,Option.bind_some,Zl.t1,e10,Option.bind_some,Zl.j3,hps]
end
section
open Go.IntKind (i8 i16 i32 i64 u8 u16 u32 u64)
open Go.RowKit

structure Tb (t:Option Tbs) (key:Int->Int) (pa:Int->List Int) (n:Nat):Prop where
 cls:Cls t key
 nn:∀ p,0<=key p
 parts:∀ p,U1.f t p=some (pa p)
 dep:∀ c,Lc pa n c<=18
 few:n<=Z2
theorem Zzv:Tb none (λ_=>0) (λ_=>[]) 0:=by
 refine ⟨λp=>rfl,λp=>Int.le_refl 0,λp=>rfl,λc=>?_,by unfold Z2;omega⟩;simp [Lc]
theorem Zve {P Q:Int->List Int} (h:∀ c,P c=Q c\/P c=[]):∀ (n:Nat) (c:Int),Lc P n c<=Lc Q n c
 | 0,c=>by
  rcases h c with e | e
  ·simp [Lc,e]
  ·rw [Zb0 e];exact (Zb7 Q 0 c).1
 | n+1,c=>by
  rcases h c with e | e
  ·by_cases e0:Q c=[]
   ·rw [Zb0 e0,Zb0 (e.trans e0)];omega
   ·rw [Lc,if_neg (by rw [e];exact e0),Lc,if_neg e0,e]
    exact Zpm (Zf2 λx _=>Zve h n x)
  ·rw [Zb0 e];exact (Zb7 Q (n+1) c).1
theorem Zs6 (p:Int):∀ (D:List Chs) (i:Int),(Za1 (Zdr i D) p=0/\paP D p=[])\/(0<=i->∃ j:Nat,j<D.length/\Za1 (Zdr i D) p=i+j+1/\(rd D (j:Int)).is_=paP D p)\/i<0
 | [],i=>.inl ⟨rfl,rfl⟩
 | x::D,i=>by
  by_cases hi:i<0
  ·exact .inr (.inr hi)
  by_cases c:x.lo<=p/\p<=x.hi
  ·refine .inr (.inl λ_=>⟨0,by simp,?_,?_⟩)
   ·simp [Zdr,Za1,inB,c.1,c.2]
   ·simp [rd,paP,c.1,c.2]
  ·have hb:inB p ⟨x.lo,x.hi,i+1⟩=false:=by
    simp only [inB,Bool.and_eq_false_iff,decide_eq_false_iff_not];by_cases c1:x.lo<=p
    ·exact .inr λc2=>c ⟨c1,c2⟩
    ·exact .inl c1
   rcases Zs6 p D (i+1) with ⟨h1,h2⟩ | h | h
   ·refine .inl ⟨?_,?_⟩
    ·rw [Zdr,Za1,if_neg (by rw [hb];decide)];exact h1
    ·rw [paP,if_neg c];exact h2
   ·refine .inr (.inl λ_=>?_)
    obtain ⟨j,h1,h2,h3⟩:=h (by omega);refine ⟨j+1,by simp;omega,?_,?_⟩
    ·rw [Zdr,Za1,if_neg (by rw [hb];decide),h2];omega
    ·rw [paP,if_neg c,<- h3]
     unfold rd;have e1:((j+1:Nat):Int).toNat=j+1:=by omega
     have e2:((j:Nat):Int).toNat=j:=by omega
     rw [e1,e2];rfl
   ·exact .inr (.inr (by omega))
theorem Zrz {D:List Chs} {T:Option Tab} (hT:Zcb (Zdr 0 D) T) (hl:∀ x∈D,x.is_.length<=Z2) (hD:D.length<=Z2) (p:Int):∃ l,Zat.f T D p=some l/\(l=paP D p\/l=[]):=by
 have hz:Z1.f T p=some 0->∃ l,Zat.f T D p=some l/\(l=paP D p\/l=[]):=by intro h;exact ⟨[],by rw [Zat.f,h,Option.bind_some,if_pos rfl],.inr rfl⟩
 by_cases c:p<0\/1114111<p
 ·exact hz (Zko T p c)
 ·by_cases hr:Za2 (Zdr 0 D)
  ·have hv:=Zll hT hr p (by omega) (by omega)
   rcases Zs6 p D 0 with ⟨h1,h2⟩ | h | h
   ·exact hz (by rw [hv,h1])
   ·obtain ⟨j,h1,h2,h3⟩:=h (Int.le_refl _)
    rw [h2] at hv;unfold Z2 at hD;have w1:i64.wrap (0+(j:Int)+1-1)=(j:Int):=by rw [w64 (by omega) (by omega)];omega
    refine ⟨paP D p,?_,.inl rfl⟩;rw [Zat.f,hv,Option.bind_some,if_neg (by omega),w1,if_pos ⟨by omega,by omega⟩,h3];have hm:(paP D p).length<=Z2:=by rw [<- h3];exact hl _ (Zim (by omega) (by omega))
    rw [Ze7 _ hm];rfl
   ·omega
  ·have:=hT.1 hr
   exact hz (by rw [this,Z1.f];simp [Z1.j1])
theorem Zv0 {a b:Int} {l:List Val} (h:Zyw a b l=true) (ha:0<=a) (hb:b<=65535):Za2 l:=by
 simp only [Zyw,H4,Bool.and_eq_true,decide_eq_true_eq] at h;refine ⟨h.1,?_⟩;have:∀ (l:List Val) (last:Int),Vj (·.lo) (·.hi) (λx:Val=>decide (a<=x.n)&&decide (x.n<=b)&&!H1 x.lo x.hi) last l=true->Vj (·.lo) (·.hi) Zc6 last l=true:=by
  intro l
  induction l with
  | nil=>intro _ _;rfl
  | cons x t ih=>
   intro last h;simp only [Vj,Bool.and_eq_true,decide_eq_true_eq] at h ⊢;refine ⟨⟨h.1.1,?_⟩,ih _ h.2⟩;have:=h.1.2.1;simp only [Zc6,Bool.and_eq_true,decide_eq_true_eq];omega
 exact this l _ h.2
theorem Zof (l:List Val) (T:Option Tab) (h:Zcb l T) (hl:Za2 l) (p:Int):∃ r,Z1.f T p=some r/\0<=r:=by
 by_cases c:p<0\/1114111<p
 ·exact ⟨_,Zko T p c,Int.le_refl _⟩
 ·exact ⟨_,Zll h hl p (by omega) (by omega),(Zjb (λx hx=>by
   have:=(Zcf hl.2 x hx).2.2.2;simpa [Zc6] using this) p).1⟩
theorem Zmz {b:Bk} (h:okB b=true):Za2 b.class_:=by
 unfold okB at h;simp only [Bool.and_eq_true] at h;exact Zv0 h.2.2.2.1 (by omega) (by omega)
theorem Zw9 {b:Bk} (h:okB b=true):Zdg b.decomp [] b.decomp=true:=by
 unfold okB at h;simp only [Bool.and_eq_true] at h;exact h.2.2.2.2.2.2.2.2.2.2.2
theorem Zp1 {D:List Chs}:∀ {l pre:List Chs},Zdg D pre l=true->∀ x∈l,Lc (paP D) (D.length+1) x.lo<=18
 | [],_,_,_,hx=>by cases hx
 | y::l,pre,h,x,hx=>by
  simp only [Zdg,Bool.and_eq_true,decide_eq_true_eq] at h
  rcases List.mem_cons.1 hx with rfl | hx
  ·exact h.1.1
  ·exact Zp1 h.2 x hx
theorem Zut {D:List Chs} (h:∀ x∈D,x.lo=x.hi) (c:Int):paP D c=[]\/∃ x∈D,x.lo=c:=by
 induction D with
 | nil=>exact .inl rfl
 | cons x D ih=>
  by_cases e:x.lo=c
  ·exact .inr ⟨x,by simp,e⟩
  ·have:=h x (by simp)
   rw [paP,if_neg (by omega)]
   rcases ih (λy hy=>h y (by simp [hy])) with h1 | ⟨y,h1,h2⟩
   ·exact .inl h1
   ·exact .inr ⟨y,by simp [h1],h2⟩
theorem Zzw {b:Bk} {t:Tbs} (hb:Few b) (h:okB b=true) (ht:Znl b t):∃ key pa,Tb (some t) key pa (b.decomp.length+1):=by
 have hD:=Zkw h;refine ⟨λp=>(Z1.f t.class_ p).getD 0,λp=>(Zat.f t.decomp b.decomp p).getD [],λp=>?_,λp=>?_,λp=>?_,λc=>?_,by have:=hD.len;unfold Z2;omega⟩
 ·obtain ⟨r,h1,_⟩:=Zof _ _ ht.class_ (Zmz h) p
  simp only [Kd.f,Option.isNone_some,Bool.false_eq_true,if_false,Option.isSome_some,if_true,Option.getD_some,h1,Option.bind_some]
 ·obtain ⟨r,h1,h2⟩:=Zof _ _ ht.class_ (Zmz h) p
  simp only [h1,Option.getD_some];exact h2
 ·obtain ⟨l,h1,_⟩:=Zrz ht.decomp hb.decompI hb.decomp p
  simp only [U1.f,Option.isNone_some,Bool.false_eq_true,if_false,Option.isSome_some,if_true,Option.getD_some,ht.book,h1,Option.bind_some]
 ·refine Int.le_trans (Zve (Q:=paP b.decomp) (λc=>?_) _ c) ?_
  ·obtain ⟨l,h1,h2⟩:=Zrz ht.decomp hb.decompI hb.decomp c
   simp only [h1,Option.getD_some];exact h2
  ·rcases Zut hD.one c with e | ⟨x,hx,rfl⟩
   ·rw [Zb0 e];omega
   ·exact Zp1 (Zw9 h) x hx

def Zje (c:Int):Int×Int×Int×Bool:=(Qs.f c).getD default
theorem Zxz (c:Int):Qs.f c=some (Zje c):=by
 have:∃ r,Qs.f c=some r:=by
  unfold Qs.f;simp only [Qs.j2,Qs.j1];split
  ·exact ⟨_,if_pos trivial⟩
  ·split
   ·exact ⟨_,rfl⟩
   ·split<;>exact ⟨_,rfl⟩
 obtain ⟨r,hr⟩:=this;rw [Zje,hr];rfl
def Zu7 (c:Int):List Int:=if (Zje c).2.2.1=0 then [(Zje c).1,(Zje c).2.1] else [(Zje c).1,(Zje c).2.1,(Zje c).2.2.1]
def Zcs (pa:Int->List Int):Nat->Int->List Int
 | 0,c=>if (Zje c).2.2.2=true then Zu7 c else [c]
 | n+1,c=>if (Zje c).2.2.2=true then Zu7 c else if pa c=[] then [c] else (pa c).flatMap (Zcs pa n)
theorem Ztf (c:Int):(Zu7 c).length<=3:=by unfold Zu7;split<;>simp
theorem Zhm {pa:Int->List Int}:∀ (n:Nat) (c:Int),Lc pa n c<=18->((Zcs pa n c).length:Int)<=3*Lc pa n c
 | 0,c,h=>by
  have:=Zb7 pa 0 c
  have:=Ztf c
  unfold Zcs
  split
  ·omega
  ·simp;omega
 | n+1,c,h=>by
  have h1:=Zb7 pa (n+1) c
  have h2:=Ztf c
  unfold Zcs
  split
  ·omega
  ·split
   ·simp;omega
   ·rename_i _ e
    rw [Lc,if_neg e] at h ⊢
    have hs:Zax (Lc pa n) (pa c)<=18:=by unfold cap at h;split at h<;>omega
    have hcap:cap (Zax (Lc pa n) (pa c))=Zax (Lc pa n) (pa c):=by unfold cap;rw [if_neg (by omega)]
    rw [hcap]
    have:∀ l:List Int,Zax (Lc pa n) l<=18->((l.flatMap (Zcs pa n)).length:Int)<=3*Zax (Lc pa n) l:=by
     intro l
     induction l with
     | nil=>intro _;simp [Zax]
     | cons x l ih=>
      intro hl;simp only [Zax] at hl ⊢;have a1:=Zb7 pa n x;have a2:0<=Zax (Lc pa n) l:=by have:=Zdm (f:=Lc pa n) (l:=l) (λy _=>(Zb7 pa n y).1);omega
      have:=Zhm (pa:=pa) n x (by omega);have:=ih (by omega);simp only [List.flatMap_cons,List.length_append];omega
    exact this _ hs
theorem Zy7 {t:Option Tbs} {key:Int->Int} {pa:Int->List Int} {m:Nat} (h:Tb t key pa m):∀ (n:Nat) (c:Int) (k:Nat),Lc pa n c<=18->n<k->Q7.f k t c=some (Zcs pa n c):=by
 intro n
 induction n with
 | zero=>
  intro c k hc hk;obtain ⟨k,rfl⟩:∃ j,k=j+1:=⟨k-1,by omega⟩;rw [Q7.f,Q7.b,Zxz,Option.bind_some,Zcs];by_cases s1:(Zje c).2.2.2=true
  ·rw [if_pos s1,if_pos s1,Zu7];split<;>rfl
  ·have e:pa c=[]:=by
    by_cases e:pa c=[]
    ·exact e
    ·simp [Lc,e] at hc
   rw [if_neg s1,if_neg s1,h.parts c,Option.bind_some,e,if_pos (by simp)]
 | succ n ih=>
  intro c k hc hk;obtain ⟨k,rfl⟩:∃ j,k=j+1:=⟨k-1,by omega⟩;rw [Q7.f,Q7.b,Zxz,Option.bind_some,Zcs];by_cases s1:(Zje c).2.2.2=true
  ·rw [if_pos s1,if_pos s1,Zu7];split<;>rfl
  ·rw [if_neg s1,if_neg s1,h.parts c,Option.bind_some]
   by_cases e:pa c=[]
   ·rw [if_pos e,e,if_pos (by simp)]
   ·rw [if_neg e,if_neg (by have:=List.length_pos_iff.2 e;omega)]
    rw [Lc,if_neg e] at hc;have hs:Zax (Lc pa n) (pa c)<=18:=by unfold cap at hc;split at hc<;>omega
    have hl:((pa c).length:Int)<=18:=by have:=Zdm (f:=Lc pa n) (l:=pa c) (λy _=>(Zb7 pa n y).1);omega
    have hk1:∀ x∈pa c,Lc pa n x<=18:=λx hx=>by
     have:=Zjs (f:=Lc pa n) (l:=pa c) (λy _=>(Zb7 pa n y).1) x hx;omega
    have key:∀ (l acc:List Int) (pre:List Int) (q:Nat),pa c=pre++l->l.length<q->acc.length+54*l.length<=5400->Q7.l1 q (Q7.f k) t (pa c) acc (pre.length:Int)=some (acc++l.flatMap (Zcs pa n)):=by
     intro l
     induction l with
     | nil=>
      intro acc pre q e1 hq ha;obtain ⟨q,rfl⟩:∃ j,q=j+1:=⟨q-1,by omega⟩;have:(pa c).length=pre.length:=by rw [e1];simp
      simp only [Q7.l1,this,if_neg (show ¬ (pre.length:Int)<(pre.length:Int) by omega)];simp
     | cons x l ihl=>
      intro acc pre q e1 hq ha;obtain ⟨q,rfl⟩:∃ j,q=j+1:=⟨q-1,by omega⟩;simp only [List.length_cons] at hq ha;obtain ⟨m1,m2⟩:=mid e1;have hx:=hk1 x (by rw [e1];simp);have hfl:=Zhm n x hx;have hlen:(pa c).length<=Z2:=by unfold Z2;omega
      simp only [Q7.l1,if_pos m2.2,if_pos m2,m1,ih x k hx (by omega),Option.bind_some,nxt hlen e1];rw [if_pos (by unfold most;omega)];have:=ihl (acc++Zcs pa n x) (pre++[x]) q (by rw [e1];simp) (by omega) (by simp;omega);have e2:((pre++[x]).length:Int)=(pre.length:Int)+1:=by simp
      rw [e2] at this;rw [this];simp
    have:=key (pa c) [] [] K0 rfl (ltK (by unfold Z2;omega)) (by simp;omega);simpa using this
theorem Zxc {t:Option Tbs} {key:Int->Int} {pa:Int->List Int} {n:Nat} (h:Tb t key pa n) (l:List Int) (hl:54*l.length<=Z2):V7.f t l=some (l.flatMap (Zcs pa n)):=by
 have key:∀ (r acc pre:List Int) (q:Nat),l=pre++r->r.length<q->acc.length+54*r.length<=Z2->V7.l1 q t l acc (pre.length:Int)=some (acc++r.flatMap (Zcs pa n)):=by
  intro r
  induction r with
  | nil=>
   intro acc pre q e1 hq ha;obtain ⟨q,rfl⟩:∃ j,q=j+1:=⟨q-1,by omega⟩;have:l.length=pre.length:=by rw [e1];simp
   simp only [V7.l1,this,if_neg (show ¬ (pre.length:Int)<(pre.length:Int) by omega)];simp
  | cons x r ihl=>
   intro acc pre q e1 hq ha;obtain ⟨q,rfl⟩:∃ j,q=j+1:=⟨q-1,by omega⟩;simp only [List.length_cons] at hq ha;obtain ⟨m1,m2⟩:=mid e1;have hx:=h.dep x;have hfl:=Zhm n x hx;have hlen:l.length<=Z2:=by omega
   have hbig:=ha;unfold Z2 at hbig;simp only [V7.l1,if_pos m2.2,if_pos m2,m1,Zy7 h n x K0 hx (ltK h.few),Option.bind_some,nxt hlen e1];rw [if_pos (by unfold most;omega)];have:=ihl (acc++Zcs pa n x) (pre++[x]) q (by rw [e1];simp) (by omega) (by simp;omega);have e2:((pre++[x]).length:Int)=(pre.length:Int)+1:=by simp
   rw [e2] at this;rw [this];simp
 have:=key l [] [] K0 rfl (ltK (by omega)) (by simpa using hl);simpa [V7.f] using this
theorem Zfe {t:Option Tbs} {key:Int->Int} {pa:Int->List Int} {n:Nat} (h:Tb t key pa n):∀ (l:List Int),(l.flatMap (Zcs pa n)).length<=54*l.length
 | []=>by simp
 | x::l=>by
  have:=Zfe h l
  have:=Zhm n x (h.dep x)
  have:=h.dep x
  simp only [List.flatMap_cons,List.length_append,List.length_cons];omega
theorem Znv {t:Option Tbs} {key:Int->Int} {pa:Int->List Int} {n:Nat} (h:Tb t key pa n) (l:List Int) (hl:54*l.length<=Z2):Hy.f t l=some (Zik key (l.flatMap (Zcs pa n))):=by
 have:=Zfe h l;rw [Hy.f,Zxc h l hl,Option.bind_some,Zxa h.cls _ (by omega)];rfl
end
section
open Go.RowKit

theorem Zxt (a b:List Int) (hb:a.length<=Z2):H3.f a b=some (decide (a=b)):=by
 unfold H3.f;by_cases c:(a.length:Int)=(b.length:Int)
 ·rw [if_neg (by omega)]
  have key:∀ (s pre u preb:List Int) (q:Nat),a=pre++s->b=preb++u->pre=preb->s.length<q->H3.l1 q a b (pre.length:Int)=some (decide (s=u)):=by
   intro s
   induction s with
   | nil=>
    intro pre u preb q e1 e2 e3 hq;obtain ⟨q,rfl⟩:∃ j,q=j+1:=⟨q-1,by omega⟩;have hl:a.length=pre.length:=by rw [e1];simp
    obtain rfl:u=[]:=by
     apply List.eq_nil_of_length_eq_zero;have:b.length=preb.length+u.length:=by rw [e2];simp
     subst e3;omega
    simp only [H3.l1,hl,if_neg (show ¬ (pre.length:Int)<(pre.length:Int) by omega)];rfl
   | cons x s ih=>
    intro pre u preb q e1 e2 e3 hq;obtain ⟨q,rfl⟩:∃ j,q=j+1:=⟨q-1,by omega⟩;simp only [List.length_cons] at hq;have la:a.length=pre.length+(s.length+1):=by rw [e1];simp
    have lb:b.length=preb.length+u.length:=by rw [e2];simp
    cases u with
    | nil=>subst e3;simp at lb;omega
    | cons y u=>
     subst e3;obtain ⟨m1,m2⟩:=mid e1;obtain ⟨m3,m4⟩:=mid e2;simp only [H3.l1,if_pos m2.2,if_pos m2,if_pos m4,m1,m3,nxt hb e1];by_cases d:x=y
     ·subst d
      rw [if_neg (by simp)];have:=ih (pre++[x]) u (pre++[x]) q (by rw [e1];simp) (by rw [e2];simp) rfl (by omega);have e4:((pre++[x]).length:Int)=(pre.length:Int)+1:=by simp
      rw [e4] at this;rw [this];simp
     ·rw [if_pos d];simp [d]
  have:=key a [] b [] K0 rfl rfl rfl (ltK hb);simpa using this
 ·rw [if_pos c,decide_eq_false (λe=>c (by rw [e]))]
end
section
open Go.RowKit

def fIx {α:Type} (p:α->Bool):List α->Nat->Int
 | [],_=>-1
 | x::t,n=>if p x=true then (n:Int) else fIx p t (n+1)
theorem Zhh {α:Type} [Inhabited α] (L:Nat->Int->Option Int) (xs:List α) (p:α->Bool) (hx:xs.length<=Z2) (h0:∀ k,L (k+1) (xs.length:Int)=some (-1))
  (h1:∀ k pre x t,xs=pre++x::t->L (k+1) (pre.length:Int)=if p x=true then some (pre.length:Int) else L k ((pre.length:Int)+1)):L K0 0=some (fIx p xs 0):=by
 refine Qf (λk i (_:Unit)=>L k i) xs (λpre t _ o=>o=some (fIx p t pre.length)) (λ_ k=>h0 k) (λpre x t _ k e ih=>?_) () K0 (ltK hx);show L (k+1) _=_;have h2:=ih ();have h3:L k ((pre.length:Int)+1)=some (fIx p t (pre.length+1)):=by simpa using h2
 rw [h1 k pre x t e,h3,fIx];split<;>rfl
theorem Zjg {α:Type} (p:α->Bool):∀ (xs:List α) (n:Nat),decide (0<=fIx p xs n)=xs.any p
 | [],n=>by simp [fIx]
 | x::t,n=>by
  rw [fIx,List.any_cons]
  by_cases c:p x=true
  ·rw [if_pos c,c];simp
  ·rw [if_neg c,Zjg p t,Bool.eq_false_iff.2 c];rfl
theorem Zib {α:Type} (p:α->Bool):∀ (xs:List α) (n:Nat),(fIx p xs n=-1/\∀ x∈xs,p x=false)\/∃ a x r,xs=a++x::r/\p x=true/\(∀ x∈a,p x=false)/\fIx p xs n=((n+a.length:Nat):Int)
 | [],n=>.inl ⟨rfl,λ_ h=>by cases h⟩
 | x::t,n=>by
  rw [fIx]
  by_cases c:p x=true
  ·exact .inr ⟨[],x,t,rfl,c,(λ_ h=>by cases h),by rw [if_pos c];simp⟩
  ·rw [if_neg c]
   rcases Zib p t (n+1) with ⟨h1,h2⟩ | ⟨a,y,r,h1,h2,h3,h4⟩
   ·refine .inl ⟨h1,λy hy=>?_⟩
    rcases List.mem_cons.1 hy with rfl | hy
    ·exact Bool.eq_false_iff.2 c
    ·exact h2 y hy
   ·refine .inr ⟨x::a,y,r,by rw [h1];rfl,h2,λz hz=>?_,by rw [h4];simp;omega⟩
    rcases List.mem_cons.1 hz with rfl | hz
    ·exact Bool.eq_false_iff.2 c
    ·exact h3 z hz
theorem Zig (xs:List Int) (v:Int) (hx:xs.length<=Z2):Xg.f xs v=some (fIx (λx=>decide (v=x)) xs 0):=by
 rw [Xg.f];refine Zhh (λk i=>Xg.l1 k xs v i) xs _ hx (λk=>?_) (λk pre x t e=>?_)
 ·simp only [Xg.l1,if_neg (show ¬ (xs.length:Int)<(xs.length:Int) by omega)]
 ·obtain ⟨m1,m2⟩:=mid e
  simp only [Xg.l1,if_pos m2.2,if_pos m2,m1,nxt hx e,decide_eq_true_eq]

end
section
open Go.IntKind (i8 i16 i32 i64 u8 u16 u32 u64)
open Go.RowKit

structure Tq (t:Option Tbs) (key:Int->Int) (pa:Int->List Int) (n:Nat) (pr:Int->Int->Int×Bool) (mk kp:Int->Bool) (jn:Int->Int):Prop where
 tb:Tb t key pa n
 pair:∀ a b,Qa.f t a b=some (pr a b)
 mark:∀ p,Ky.f t p=some (mk p)
 kept:∀ p,Kx.f t p=some (kp p)
 join:∀ p,V5.f t p=some (jn p)
variable {t:Option Tbs} {key:Int->Int} {pa:Int->List Int} {n:Nat} {pr:Int->Int->Int×Bool} {mk kp:Int->Bool} {jn:Int->Int}

def Zd6 (key:Int->Int) (pr:Int->Int->Int×Bool) (s:List Int×Int×Int) (c:Int):List Int×Int×Int:=
 if 0<=s.2.1/\¬ (s.2.1<(s.1.length:Int)-1/\key c<=s.2.2)/\(pr (rd s.1 s.2.1) c).2=true then (s.1.set s.2.1.toNat (pr (rd s.1 s.2.1) c).1,s.2.1,s.2.2)
 else if key c=0 then (s.1++[c],(s.1.length:Int),0) else (s.1++[c],s.2.1,max s.2.2 (key c))
def Ze9 (key:Int->Int) (pr:Int->Int->Int×Bool) (l:List Int):List Int:=(l.foldl (Zd6 key pr) ([],-1,0)).1
theorem Zq4 (h:Tq t key pa n pr mk kp jn) (l:List Int) (hl:l.length<=Z2):Zo.f t l=some (Ze9 key pr l):=by
 have step:∀ (r pre:List Int) (s:List Int×Int×Int) (k:Nat),l=pre++r->r.length<k->s.1.length+r.length<=l.length->-1<=s.2.1->s.2.1<(s.1.length:Int)->Zo.l1 k t l s.1 s.2.1 s.2.2 (pre.length:Int)=some (r.foldl (Zd6 key pr) s).1:=by
  intro r
  induction r with
  | nil=>
   intro pre s k e hk h1 h2 h3;obtain ⟨k,rfl⟩:∃ j,k=j+1:=⟨k-1,by omega⟩;have:l.length=pre.length:=by rw [e];simp
   simp only [Zo.l1,this,if_neg (show ¬ (pre.length:Int)<(pre.length:Int) by omega),List.foldl_nil]
  | cons c r ih=>
   intro pre s k e hk h1 h2 h3;obtain ⟨k,rfl⟩:∃ j,k=j+1:=⟨k-1,by omega⟩;simp only [List.length_cons] at hk h1;obtain ⟨m1,m2⟩:=mid e;have hbig:=hl;unfold Z2 at hbig;obtain ⟨out,st,mo⟩:=s;simp only at h1 h2 h3;have e4:((pre++[c]).length:Int)=(pre.length:Int)+1:=by simp
   have fin:∀ s':List Int×Int×Int,s'.1.length<=out.length+1->-1<=s'.2.1->s'.2.1<(s'.1.length:Int)->Zd6 key pr (out,st,mo) c=s'->Zo.l1 k t l s'.1 s'.2.1 s'.2.2 ((pre.length:Int)+1)=some ((c::r).foldl (Zd6 key pr) (out,st,mo)).1:=by intro s' g1 g2 g3 g4;have:=ih (pre++[c]) s' k (by rw [e];simp) (by omega) (by omega) g2 g3;rw [e4] at this;rw [List.foldl_cons,g4,this]
   have put:Zo.j3 (Zo.l1 k t l) l out st mo (pre.length:Int) (key c)=if key c=0 then Zo.l1 k t l (out++[c]) (out.length:Int) 0 ((pre.length:Int)+1) else Zo.l1 k t l (out++[c]) st (max mo (key c)) ((pre.length:Int)+1):=by
    simp only [Zo.j3,Zo.j2,Zo.j1,m1,nxt hl e];by_cases c0:key c=0
    ·rw [if_pos c0,if_pos c0,if_pos (by unfold most;simp;omega)]
    ·rw [if_neg c0,if_neg c0,if_pos (by unfold most;simp;omega)]
   have put2:¬ (0<=st/\¬ (st<(out.length:Int)-1/\key c<=mo)/\(pr (rd out st) c).2=true)->Zo.j3 (Zo.l1 k t l) l out st mo (pre.length:Int) (key c)=some ((c::r).foldl (Zd6 key pr) (out,st,mo)).1:=by
    intro hc;rw [put];by_cases c0:key c=0
    ·rw [if_pos c0]
     exact fin (out++[c],(out.length:Int),0) (by simp) (by show (-1:Int)<=(out.length:Int);omega) (by show (out.length:Int)<((out++[c]).length:Int);simp;omega) (by simp only [Zd6,if_neg hc,if_pos c0])
    ·rw [if_neg c0]
     exact fin (out++[c],st,max mo (key c)) (by simp) h2 (by simp<;>omega) (by simp only [Zd6,if_neg hc,if_neg c0])
   simp only [Zo.l1,if_pos m2.2,if_pos m2,m1,h.tb.cls c,Option.bind_some,Zo.j5];by_cases a1:0<=st
   ·rw [if_pos a1,w64 (by omega) (by omega)]
    have j4:∀ bl:Bool,(bl=true↔(st<(out.length:Int)-1/\key c<=mo))->Zo.j4 (Zo.l1 k t l) t l out st mo (pre.length:Int) (key c) (!bl)=some ((c::r).foldl (Zd6 key pr) (out,st,mo)).1:=by
     intro bl hb;simp only [Zo.j4,m1];by_cases a2:bl=true
     ·rw [a2,if_neg (by simp)]
      exact put2 (λhh=>hh.2.1 (hb.1 a2))
     ·rw [Bool.eq_false_iff.2 a2,if_pos (by simp),if_pos ⟨a1,h3⟩,h.pair,Option.bind_some]
      by_cases a3:(pr (rd out st) c).2=true
      ·rw [if_pos a3]
       simp only [Zo.j1,nxt hl e];exact fin (out.set st.toNat (pr (rd out st) c).1,st,mo) (by simp) h2 (by simpa using h3) (by simp only [Zd6];rw [if_pos ⟨a1,λhh=>a2 (hb.2 hh),a3⟩])
      ·rw [if_neg a3]
       exact put2 (λhh=>a3 hh.2.2)
    by_cases a4:st<(out.length:Int)-1
    ·rw [if_pos a4,if_pos a1]
     exact j4 _ (by simp [a4])
    ·rw [if_neg a4,if_pos a1]
     exact j4 false (by simp [a4])
   ·rw [if_neg a1,if_neg a1]
    simp only [Zo.j4,if_neg (show ¬ false=true by simp)];exact put2 (λhh=>a1 hh.1)
 have:=step l [] ([],-1,0) K0 rfl (ltK hl) (by simp) (by simp) (by simp);simpa [Zo.f,Ze9] using this
theorem Zfa (key:Int->Int) (pr:Int->Int->Int×Bool):∀ (l:List Int) (s:List Int×Int×Int),(l.foldl (Zd6 key pr) s).1.length<=s.1.length+l.length
 | [],s=>by simp
 | c::l,s=>by
  have h1:(Zd6 key pr s c).1.length<=s.1.length+1:=by
   unfold Zd6;split
   ·simp
   ·split<;>simp
  have:=Zfa key pr l (Zd6 key pr s c);simp only [List.foldl_cons,List.length_cons];omega
def Zc9 (key:Int->Int) (pa:Int->List Int) (n:Nat) (pr:Int->Int->Int×Bool) (l:List Int):List Int:=Ze9 key pr (Zik key (l.flatMap (Zcs pa n)))
theorem Zk3 (key:Int->Int) (l:List Int):(Zik key l).length=l.length:=Zzg key l
theorem Zmy (h:Tq t key pa n pr mk kp jn) (l:List Int) (hl:54*l.length<=Z2):U2.f t l=some (Zc9 key pa n pr l):=by
 have:=Zfe h.tb l;rw [U2.f,Znv h.tb l hl,Option.bind_some,Zq4 h _ (by rw [Zk3];omega)];rfl
theorem Zv6 (a b:List Int) (hb:a.length<=Z2):X4.f a b=some (decide (a=b)):=by
 rw [X4.f];have e:∀ q a b i,X4.l1 q a b i=H3.l1 q a b i:=by
  intro q
  induction q with
  | zero=>intros;rfl
  | succ q ih=>intro a b i;simp only [X4.l1,H3.l1,ih]
 rw [e];exact Zxt a b hb
theorem Z2f (h:Tq t key pa n pr mk kp jn) (l:List Int) (hl:54*l.length<=Z2):Zb8.f t l=some (decide (Zc9 key pa n pr l=l)):=by
 have h1:=Zfe h.tb l;have h2:=Zfa key pr (Zik key (l.flatMap (Zcs pa n))) ([],-1,0);rw [Zb8.f,Zmy h l hl,Option.bind_some,Zv6 _ _ (by rw [Zk3] at h2;simp only [List.length_nil,Nat.zero_add] at h2;unfold Zc9 Ze9;omega)];rfl
theorem Ziw (h:Tq t key pa n pr mk kp jn) (l:List Int) (hl:l.length<=Z2):∀ (k:Nat) (i:Int),i<(l.length:Int)->i+1<(k:Int)->-1<=i->∃ r,Uc.l1 k t l i=some r
 | 0,i,_,h2,h3=>by omega
 | k+1,i,h1,h2,h3=>by
  have hb:=hl
  unfold Z2 at hb
  simp only [Uc.l1]
  by_cases c:0<=i
  ·rw [if_pos c,if_pos ⟨c,h1⟩,h.join,Option.bind_some]
   split
   ·exact ⟨_,rfl⟩
   ·rw [w64 (by omega) (by omega)];exact Ziw h l hl k (i-1) (by omega) (by omega) (by omega)
  ·exact ⟨0,by rw [if_neg c]⟩
theorem Zg9 (h:Tq t key pa n pr mk kp jn) (l:List Int) (hl:l.length<=Z2):∀ (k:Nat) (i:Int),(l.length:Int)-i<(k:Int)->0<=i->i<=(l.length:Int)->∃ r,Vz.l1 k t l i=some r
 | 0,i,h1,h2,h3=>by omega
 | k+1,i,h1,h2,h3=>by
  have hb:=hl
  unfold Z2 at hb
  simp only [Vz.l1]
  by_cases c:i<(l.length:Int)
  ·rw [if_pos c,if_pos ⟨h2,c⟩,h.join,Option.bind_some]
   split
   ·exact ⟨_,rfl⟩
   ·rw [w64 (by omega) (by omega)];exact Zg9 h l hl k (i+1) (by omega) (by omega) (by omega)
  ·exact ⟨0,by rw [if_neg c]⟩
theorem Zlt (h:Tq t key pa n pr mk kp jn) (l:List Int) (hl:l.length<=Z2) (i:Int) (h0:0<=i) (h1:i<(l.length:Int)):∃ r,Y0.f t l i=some r/\(rd l i≠8204->rd l i≠8205->r=true):=by
 have hb:=hl;unfold Z2 at hb;have hK:(K0:Int)=1180591620717411303424:=rfl;have e0:Y0.f t l i=Y0.j3 t l i false:=by rw [Y0.f,if_neg (by omega),decide_eq_false (by omega)]
 have es:Vy.f (rd l i)=some (decide (rd l i=8204\/rd l i=8205)):=by unfold Vy.f Vy.j1;split<;>simp [*]
 rw [e0];simp only [Y0.j3,if_neg (show ¬ false=true by simp),if_pos (And.intro h0 h1),es,Option.bind_some];by_cases c:rd l i=8204\/rd l i=8205
 ·rw [decide_eq_true c,if_neg (by simp)]
  suffices hs:∃ r,(if 0<i then (if (0:Int)<=i64.wrap (i-1)/\i64.wrap (i-1)<(l.length:Int) then ((Zaq.f t (rd l (i64.wrap (i-1)))).bind λag=>(Y0.j2 t l i ag)) else none) else (Y0.j2 t l i false))=some r by
   obtain ⟨r,hr⟩:=hs;exact ⟨r,hr,λa b=>absurd c (by simp [a,b])⟩
  have hj2:∀ b,∃ r,Y0.j2 t l i b=some r:=by
   intro b;obtain ⟨ra,ha⟩:=Ziw h l hl K0 (i-1) (by omega) (by omega) (by omega);obtain ⟨rb,hb'⟩:=Zg9 h l hl K0 (i+1) (by omega) (by omega) (by omega);simp only [Y0.j2,Y0.j1,Uc.f,Vz.f,w64 (x:=i-1) (by omega) (by omega),w64 (x:=i+1) (by omega) (by omega),ha,hb',Option.bind_some];repeat' split
   all_goals exact ⟨_,rfl⟩
  split
  ·rw [w64 (by omega) (by omega),if_pos ⟨by omega,by omega⟩,Zaq.f,h.tb.cls,Option.bind_some,Option.bind_some]
   exact hj2 _
  ·exact hj2 _
 ·rw [decide_eq_false c]
  exact ⟨true,by rw [if_pos (by simp)],λ_ _=>rfl⟩
theorem Znr (h:Tq t key pa n pr mk kp jn) (l:List Int) (hl:l.length<=Z2):∃ r,Vu.f t l=some r/\((∀ x∈l,x≠8204/\x≠8205)->r=-1):=by
 rw [Vu.f];refine Qf (λk i (_:Unit)=>Vu.l1 k t l i) l (λpre r _ o=>∃ q,o=some q/\((∀ x∈r,x≠8204/\x≠8205)->q=-1)) (λ_ k=>?_) (λpre x r _ k e ih=>?_) () K0 (ltK hl)
 ·exact ⟨-1,by simp only [Vu.l1,if_neg (show ¬ (l.length:Int)<(l.length:Int) by omega)],λ_=>rfl⟩
 ·obtain ⟨m1,m2⟩:=mid e
  obtain ⟨b,hb,hb2⟩:=Zlt h l hl _ m2.1 m2.2;simp only [Vu.l1,if_pos m2.2,hb,Option.bind_some,nxt hl e]
  cases b with
  | true=>
   rw [if_neg (by simp)];obtain ⟨q,h1,h2⟩:=ih ();exact ⟨q,h1,λhx=>h2 λy hy=>hx y (by simp [hy])⟩
  | false=>
   rw [if_pos (by simp)];exact ⟨_,rfl,λhx=>by have:=hx x (by simp);rw [m1] at hb2;exact absurd (hb2 this.1 this.2) (by simp)⟩
def Zdq (n:Int) (has:Bool) (l:List Int):List Int:=if has=true then l++[n] else l
theorem Zd9 (n:Int) (has:Bool) (l:List Int):(Zdq n has l).length<=l.length+1:=by unfold Zdq;split<;>simp
theorem Zdf (n:Int) (has:Bool) (l:List Int) (hl:l.length<=10):X3.f n has l=some (Zdq n has l):=by
 unfold X3.f Zdq;split
 ·rw [if_pos (by unfold most;simp;omega)]
 ·rfl
def Zhd (l:List Int):Bool:=decide (4<=(l.length:Int))&&decide (runesBytes (sub l 0 4)=(⟨#[120,110,45,45]⟩:ByteArray))
theorem Zhe (l:List Int):Uh.f l=some (Zhd l):=by
 unfold Uh.f Zhd Uh.j1;split
 ·rename_i h
  rw [if_pos ⟨by omega,by omega,h⟩,decide_eq_true h];rfl
 ·rename_i h
  rw [decide_eq_false h];rfl
def Zp2 (mk:Int->Bool):List Int->Bool
 | []=>false
 | x::_=>mk x
def Zjh (is cod st mk ks jo:Bool):List Int:=Zdq 6 jo (Zdq 5 ks (Zdq 4 mk (Zdq 3 st (Zdq 2 cod (Zdq 1 (!is) [])))))
theorem Zmr (h:Tq t key pa n pr mk kp jn) (l:List Int) (hl:54*l.length<=Z2):∃ jo,Qj.f t l=some (Zjh (decide (Zc9 key pa n pr l=l)) (Zhd l) (l.any λx=>decide (46=x)) (Zp2 mk l) (l.any λx=>!kp x) jo)/\((∀ x∈l,x≠8204/\x≠8205)->jo=false):=by
 have hlb:l.length<=Z2:=by omega
 obtain ⟨q,hq,hq2⟩:=Znr h l hlb;have hk:Q8.f l t=some (l.any λx=>!kp x):=by
  rw [Q8.f,Ys.f];have:=Zhh (λk i=>Ys.l1 k t l i) l (λx=>!kp x) hlb (λk=>?_) (λk pre x r e=>?_)
  ·rw [this,Option.bind_some,Zjg]
  ·simp only [Ys.l1,if_neg (show ¬ (l.length:Int)<(l.length:Int) by omega)]
  ·obtain ⟨m1,m2⟩:=mid e
   simp only [Ys.l1,if_pos m2.2,if_pos m2,m1,He.f,h.kept,Option.bind_some,nxt hlb e]
 have hc:Vk.f l 46=some (l.any λx=>decide (46=x)):=by rw [Vk.f,Zig l 46 hlb,Option.bind_some,Zjg]
 refine ⟨decide (0<=q),?_,λhx=>by rw [hq2 hx];rfl⟩;have l1:=Zd9 1 (!(decide (Zc9 key pa n pr l=l))) [];have l2:=Zd9 2 (Zhd l) (Zdq 1 (!(decide (Zc9 key pa n pr l=l))) []);have l3:=Zd9 3 (l.any λx=>decide (46=x)) (Zdq 2 (Zhd l) (Zdq 1 (!(decide (Zc9 key pa n pr l=l))) []));have l4:=Zd9 4 (Zp2 mk l) (Zdq 3 (l.any λx=>decide (46=x)) (Zdq 2 (Zhd l) (Zdq 1 (!(decide (Zc9 key pa n pr l=l))) [])));have l5:=Zd9 5 (l.any λx=>!kp x) (Zdq 4 (Zp2 mk l) (Zdq 3 (l.any λx=>decide (46=x)) (Zdq 2 (Zhd l) (Zdq 1 (!(decide (Zc9 key pa n pr l=l))) []))));simp only [List.length_nil] at l1;rw [Qj.f,Z2f h l hl,Option.bind_some,Zdf _ _ _ (by simp),Option.bind_some,Zhe,Option.bind_some,Zdf _ _ _ (by omega),Option.bind_some,hc,Option.bind_some,Zdf _ _ _ (by omega),Option.bind_some];have hj:∀ aa,aa.length<=4->Qj.j1 t l aa=some (Zdq 6 (decide (0<=q)) (Zdq 5 (l.any λx=>!kp x) aa)):=by intro aa ha;have:=Zd9 5 (l.any λx=>!kp x) aa;rw [Qj.j1,hk,Option.bind_some,Zdf _ _ _ (by omega),Option.bind_some,hq,Option.bind_some,Zdf _ _ _ (by omega)];rfl
 cases l with
 | nil=>
  rw [if_neg (by simp),Zdf _ _ _ (by omega),Option.bind_some,hj _ (by simp only [Zp2] at l4;omega)];rfl
 | cons x r=>
  rw [if_pos (by simp<;>omega),if_pos ⟨by omega,by simp<;>omega⟩,show rd (x::r) 0=x from rfl,h.mark,Option.bind_some,Zdf _ _ _ (by omega),Option.bind_some,hj _ (by simp only [Zp2] at l4;omega)];rfl
theorem Zpy (l:List Int):Zam.f l=some (l.headD 0):=by
 cases l with
 | nil=>rfl
 | cons x r=>rw [Zam.f,if_neg (by simp<;>omega),if_pos ⟨by omega,by simp<;>omega⟩];rfl
def Zck (l:List Int):Bool:=!(l.any λp=>decide (p<0\/128<=p))
theorem Zhq (l:List Int) (hl:l.length<=Z2):Hl.f l=some (Zck l):=by
 rw [Hl.f,Kq.f,Yu.f];have:=Zhh (λk i=>Yu.l1 k l i) l (λp=>decide (p<0\/128<=p)) hl (λk=>?_) (λk pre x r e=>?_)
 ·rw [this,Option.bind_some,Zjg];rfl
 ·simp only [Yu.l1,if_neg (show ¬ (l.length:Int)<(l.length:Int) by omega)]
 ·obtain ⟨m1,m2⟩:=mid e
  have ep:V6.f x=some (decide (x<0\/128<=x)):=by unfold V6.f V6.j1;split<;>simp [*]
  simp only [Yu.l1,if_pos m2.2,if_pos m2,m1,ep,Option.bind_some,nxt hl e]
end
section
open Go.RowKit

def eL (r:Int):List UInt8:=(Utf8.encode r).data.toList
theorem Zpr {r:Int} (h0:0<=r) (h1:r<128):eL r=[UInt8.ofNat r.toNat]:=by
 have hv:Utf8.valid r=true:=by simp [Utf8.valid];omega
 have:r.toNat<128:=by omega
 simp only [eL,Utf8.encode,hv,if_true];rw [if_pos (by omega)]
theorem Zx9 {n:Nat} (h0:128<=n) (h1:n<256):128<=(UInt8.ofNat n).toNat:=by
 rw [UInt8.toNat_ofNat'];omega
theorem Zyy {r:Int} (h:r<0\/128<=r):∃ x t,eL r=x::t/\128<=x.toNat:=by
 have hc:∃ c,(if Utf8.valid r then r.toNat else Utf8.runeError)=c/\128<=c/\c<1114112:=by
  refine ⟨_,rfl,?_⟩;by_cases hv:Utf8.valid r=true
  ·rw [if_pos hv]
   simp [Utf8.valid] at hv;omega
  ·rw [if_neg hv]
   unfold Utf8.runeError;omega
 obtain ⟨c,e,h1,h2⟩:=hc;unfold eL Utf8.encode;simp only [e];rw [if_neg (by omega)];split
 ·exact ⟨_,_,rfl,Zx9 (by omega) (by omega)⟩
 ·split
  ·exact ⟨_,_,rfl,Zx9 (by omega) (by omega)⟩
  ·exact ⟨_,_,rfl,Zx9 (by omega) (by omega)⟩
theorem Zr2 (l:List Int):∀ (s:ByteArray),(l.foldl (λr n=>r++Utf8.encode n) s).data.toList=s.data.toList++l.flatMap eL:=by
 induction l with
 | nil=>intro s;simp
 | cons x l ih=>intro s;rw [List.foldl_cons,ih];simp [eL,ByteArray.data_append]
theorem Ze1 (l:List Int):(runesBytes l).data.toList=l.flatMap eL:=by
 rw [runesBytes,Zr2];rfl
theorem Zq1 (l:List Int):∀ (s:ByteArray),(l.foldl (λr n=>r.push (UInt8.ofNat n.toNat)) s).data.toList=s.data.toList++l.map λn=>UInt8.ofNat n.toNat:=by
 induction l with
 | nil=>intro s;simp
 | cons x l ih=>intro s;rw [List.foldl_cons,ih];simp [ByteArray.push]
theorem Zix (l:List Int):(Zao l).data.toList=l.map λn=>UInt8.ofNat n.toNat:=by
 rw [Zao,Zq1];rfl
theorem Z0y {a b:ByteArray} (h:a.data.toList=b.data.toList):a=b:=by
 cases a;cases b;simp only at h;congr;exact Array.ext' h
theorem Zjf {r:Int} {x:UInt8} {s t:List UInt8} (hx:x.toNat<128) (h:eL r++s=x::t):r=(x.toNat:Int)/\s=t:=by
 by_cases c:0<=r/\r<128
 ·rw [Zpr c.1 c.2] at h
  simp only [List.cons_append,List.nil_append,List.cons.injEq] at h;refine ⟨?_,h.2⟩;rw [<- h.1,UInt8.toNat_ofNat'];omega
 ·obtain ⟨y,u,e,hy⟩:=Zyy (r:=r) (by omega)
  rw [e,List.cons_append] at h;simp only [List.cons.injEq] at h;rw [h.1] at hy;omega
theorem Zv1 (l:List Int):Zhd l=true↔∃ r,l=120::110::45::45::r:=by
 unfold Zhd;simp only [Bool.and_eq_true,decide_eq_true_eq];constructor
 ·rintro ⟨h,e⟩
  match l,h with
  | a::b::c::d::r,_=>
   have e1:=congrArg (λs:ByteArray=>s.data.toList) e;simp only [Ze1] at e1;have e2:sub (a::b::c::d::r) 0 4=[a,b,c,d]:=rfl;rw [e2] at e1;simp only [List.flatMap_cons,List.flatMap_nil] at e1;obtain ⟨h1,e1⟩:=Zjf (by decide) e1;obtain ⟨h2,e1⟩:=Zjf (by decide) e1;obtain ⟨h3,e1⟩:=Zjf (by decide) e1;obtain ⟨h4,e1⟩:=Zjf (by decide) e1;exact ⟨r,by rw [h1,h2,h3,h4];rfl⟩
 ·rintro ⟨r,rfl⟩
  refine ⟨by simp;omega,?_⟩;show runesBytes [120,110,45,45]=_;rfl
end
section
open Go.RowKit

def pr0 (a b:Int):Int×Bool:=(Qa.f none a b).getD (0,false)
theorem Zbi {α:Type} {p:Prop} [Decidable p] {A B:Option α} (ha:∃ r,A=some r) (hb:∃ r,B=some r):∃ r,(if p then A else B)=some r:=by
 by_cases c:p
 ·rw [if_pos c];exact ha
 ·rw [if_neg c];exact hb
theorem Zk4 {t:Option Tbs} (h:∀ a b,∃ r,Uu.f t a b=some r) (a b:Int):∃ r,Qa.f t a b=some r:=by
 have j1:∀ x,∃ r,Qa.j1 t a b x=some r:=by intro x;obtain ⟨r,hr⟩:=h a b;rw [Qa.j1,hr];exact Zbi ⟨_,rfl⟩ ⟨_,rfl⟩
 have j2:∀ x,∃ r,Qa.j2 t a b x=some r:=by intro x;rw [Qa.j2];repeat' first | exact j1 _ | exact ⟨_,rfl⟩ | apply Zbi
 rw [Qa.f];repeat' first | exact j2 _ | exact ⟨_,rfl⟩ | apply Zbi
theorem Zuu (a b:Int):Qa.f none a b=some (pr0 a b):=by
 obtain ⟨r,hr⟩:=Zk4 (t:=none) (λ_ _=>⟨_,rfl⟩) a b;rw [pr0,hr];rfl
end
section
open Go.IntKind (i8 i16 i32 i64 u8 u16 u32 u64)
open Go.RowKit

theorem Zm2 {l:List Int} (h:Zck l=true):∀ x∈l,0<=x/\x<128:=by
 intro x hx;simp only [Zck,Bool.not_eq_true',List.any_eq_false,decide_eq_true_eq] at h;have:=h x hx;omega
theorem Zhz {x:Int} (h0:0<=x) (h1:x<256):u8.wrap x=x:=by rw [IntKind.wrap_u8];omega
theorem Zi5 {l:List Int} (h:Zck l=true):runesBytes l=Zao l:=by
 apply Z0y;rw [Ze1,Zix];have:∀ m:List Int,(∀ x∈m,0<=x/\x<128)->m.flatMap eL=m.map λn=>UInt8.ofNat n.toNat:=by
  intro m
  induction m with
  | nil=>intro _;rfl
  | cons x m ih=>
   intro hm;have hx:=hm x (by simp);rw [List.flatMap_cons,Zpr hx.1 hx.2,ih λy hy=>hm y (by simp [hy])];rfl
 exact this l (Zm2 h)
end
section
open Go.IntKind (i8 i16 i32 i64 u8 u16 u32 u64)
open Go.RowKit

abbrev pU:S13:=⟨36,1,26,38,700,72,128,45⟩
theorem Zox (k b:Int):Vf.f pU k b=Hb.f k b:=by
 unfold Vf.f Hb.f;simp only;split
 ·congr 1;omega
 ·split<;>(congr 1;omega)
theorem Zti (k b:Int):∃ t,Hb.f k b=some t/\1<=t/\t<=26:=by
 unfold Hb.f;split
 ·exact ⟨1,rfl,by omega,by omega⟩
 ·split
  ·exact ⟨26,rfl,by omega,by omega⟩
  ·exact ⟨_,rfl,by omega,by omega⟩
theorem Zih (d:Int):Za0.f d=Zcl.f d:=rfl
theorem Zv3 (c:Int):K6.f c=J7.f c:=by
 simp only [K6.f,J7.f,K6.j3,J7.j3,K6.j2,J7.j2,K6.j1,J7.j1]
theorem Zmp (c:Int) (h0:0<=c) (h1:c<256):∃ d,J7.f c=some d/\-1<=d/\d<36:=by
 have w8:∀ x:Int,0<=x->x<256->u8.wrap x=x:=λx a b=>Zhz a b;simp only [J7.f,J7.j3,J7.j2,J7.j1];by_cases a1:97<=c
 ·rw [if_pos a1]
  by_cases a2:c<=122
  ·rw [decide_eq_true a2,if_pos rfl,w8 _ (by omega) (by omega),w64 (by omega) (by omega)];exact ⟨_,rfl,by omega,by omega⟩
  ·rw [decide_eq_false a2,if_neg (by decide),if_pos (by omega),decide_eq_false (by omega),if_neg (by decide),if_pos (by omega),decide_eq_false (by omega),if_neg (by decide)];exact ⟨_,rfl,by omega,by omega⟩
 ·rw [if_neg a1,if_neg (by decide)]
  by_cases a3:65<=c
  ·rw [if_pos a3]
   by_cases a4:c<=90
   ·rw [decide_eq_true a4,if_pos rfl,w8 _ (by omega) (by omega),w64 (by omega) (by omega)];exact ⟨_,rfl,by omega,by omega⟩
   ·rw [decide_eq_false a4,if_neg (by decide),if_pos (by omega),decide_eq_false (by omega),if_neg (by decide)];exact ⟨_,rfl,by omega,by omega⟩
  ·rw [if_neg a3,if_neg (by decide)]
   by_cases a5:48<=c
   ·rw [if_pos a5]
    by_cases a6:c<=57
    ·rw [decide_eq_true a6,if_pos rfl,w8 _ (by omega) (by omega),w64 (x:=c-48) (by omega) (by omega),w64 (by omega) (by omega)];exact ⟨_,rfl,by omega,by omega⟩
    ·rw [decide_eq_false a6,if_neg (by decide)];exact ⟨_,rfl,by omega,by omega⟩
   ·rw [if_neg a5,if_neg (by decide)];exact ⟨_,rfl,by omega,by omega⟩
theorem Zt3 (c:Int) (h0:0<=c) (h1:c<256):Ha.f pU c=J7.f c:=by
 obtain ⟨d,h2,h3,h4⟩:=Zmp c h0 h1;rw [Ha.f,Zv3,h2,Option.bind_some,if_pos (by exact h4)]
theorem Zpf:∀ (k:Nat) (a b:Int),Xq.l1 k pU a b=Ku.l1 k a b
 | 0,_,_=>rfl
 | k+1,a,b=>by
  have e1:i64.wrap (36-1)=35:=by rw [IntKind.wrap_i64];decide
  have e2:i64.wrap (35*26)=910:=by rw [IntKind.wrap_i64];decide
  have e3:i64.wrap ((910:Int).tdiv 2)=455:=by rw [IntKind.wrap_i64];decide
  have e4:i64.wrap (35+1)=36:=by rw [IntKind.wrap_i64];decide
  simp only [Xq.l1,Ku.l1,e1,e2,e3,e4,Zpf k,ne_eq,if_pos (show ¬ (35:Int)=0 by decide)]
theorem Zpe (d p:Int) (f:Bool):Xq.f pU d p f=Ku.f d p f:=by
 simp only [Xq.f,Ku.f,Xq.j1,Ku.j1,Zpf,ne_eq,if_pos (show ¬ (700:Int)=0 by decide)]
end
section
open Go.IntKind (i8 i16 i32 i64 u8 u16 u32 u64)
open Go.RowKit

theorem Zxx (a0:List Int->Int->Int->Int->Int->Option (List Int×Int×Int)) (aa:List Int) (ag ae ac ab ao a7 p:Int) (hp:i64.wrap (ac+i64.wrap (ao*ab))=p) {i:Nat} (hm:p.tmod (i64.wrap ((aa.length:Int)+1))=(i:Int)) (hl:aa.length+1<=Z2):
  ∀ (j:Nat) (z:Int) (k:Nat),i<=j->j<=aa.length->j<k->
   Yl.l1 a0 k aa ag ae ac ab ao a7 (aa.take j++z::aa.drop j) (j:Int)=
    a0 (Zeq aa (i:Int) (i32.wrap (i64.wrap (ag+(i64.wrap (p.tdiv (i64.wrap ((aa.length:Int)+1)))))))) (i64.wrap (ae+1)) (i64.wrap (ag+(i64.wrap (p.tdiv (i64.wrap ((aa.length:Int)+1)))))) (i64.wrap ((i:Int)+1)) a7:=by
 have hb:=hl;unfold Z2 at hb;intro j
 induction j with
 | zero=>
  intro z k h1 h2 h3;obtain ⟨k,rfl⟩:∃ q,k=q+1:=⟨k-1,by omega⟩;obtain rfl:i=0:=by omega
  simp only [Yl.l1,hp,hm];rw [if_neg (by omega),if_pos ⟨by omega,by simp<;>omega⟩];simp [Zeq]
 | succ j ih=>
  intro z k h1 h2 h3;obtain ⟨k,rfl⟩:∃ q,k=q+1:=⟨k-1,by omega⟩;have hlen:(aa.take (j+1)++z::aa.drop (j+1)).length=aa.length+1:=by simp;omega
  simp only [Yl.l1,hp,hm];by_cases c:i=j+1
  ·subst c
   rw [if_neg (by omega),if_pos ⟨by omega,by rw [hlen];omega⟩];congr 1;have e:((j+1:Nat):Int).toNat=j+1:=by omega
   rw [Zeq,e,List.set_append_right _ _ (by simp;omega)];congr 1;have:j+1-(aa.take (j+1)).length=0:=by simp;omega
   rw [this];rfl
  ·have w1:i64.wrap (((j+1:Nat):Int)-1)=(j:Int):=by rw [w64 (by omega) (by omega)];omega
   rw [if_pos (by omega),w1,if_pos ⟨by omega,by rw [hlen];omega⟩,if_pos ⟨by omega,by rw [hlen];omega⟩];have hj:j<aa.length:=by omega
   have e:((j+1:Nat):Int).toNat=j+1:=by omega
   have er:rd (aa.take (j+1)++z::aa.drop (j+1)) (j:Int)=aa[j]:=by
    unfold rd;have e2:((j:Nat):Int).toNat=j:=by omega
    rw [e2];rw [List.getD_eq_getElem?_getD,List.getElem?_append_left (by simp;omega),List.getElem?_take,if_pos (by omega),List.getElem?_eq_getElem hj];rfl
   have es:(aa.take (j+1)++z::aa.drop (j+1)).set (j+1) aa[j]=aa.take j++aa[j]::aa.drop j:=by
    rw [List.set_append_right _ _ (by simp;omega)];have:j+1-(aa.take (j+1)).length=0:=by simp;omega
    have e3:aa.take (j+1)=aa.take j++[aa[j]]:=by rw [List.take_add_one,List.getElem?_eq_getElem hj];rfl
    have e4:aa.drop j=aa[j]::aa.drop (j+1):=List.drop_eq_getElem_cons hj;rw [this,List.set_cons_zero,e3,List.append_assoc,e4];rfl
   rw [e,er,es];exact ih aa[j] k (by omega) (by omega) (by omega)
def Z0f (a0:List Int->Int->Int->Int->Int->Option (List Int×Int×Int)) (aa:List Int) (ag ai ae ac ab ao:Int):Option (List Int×Int×Int):=
 (Ku.f (i64.wrap ((i64.wrap (ac+(i64.wrap (ao*ab))))-ai)) (i64.wrap ((aa.length:Int)+1)) (decide (ai=0))).bind λa7=>(if (i64.wrap ((aa.length:Int)+1))≠0 then (if 1114111<(i64.wrap (ag+(i64.wrap ((i64.wrap (ac+(i64.wrap (ao*ab)))).tdiv (i64.wrap ((aa.length:Int)+1)))))) then (some (([]:List Int),ae,142)) else ((Vc.f (i32.wrap (i64.wrap (ag+(i64.wrap ((i64.wrap (ac+(i64.wrap (ao*ab)))).tdiv (i64.wrap ((aa.length:Int)+1)))))))).bind λb2=>(if (!b2)=true then (some (([]:List Int),ae,143)) else (if aa.length+([0]).length<=most then (Yl.l1 a0 K0 aa ag ae ac ab ao a7 (aa++([0])) (i64.wrap (((aa++([0])).length:Int)-1))) else none)))) else none)
theorem Zha (s:ByteArray) (i:Int) (h0:0<=i) (h1:i<(s.size:Int)):0<=bt s i/\bt s i<256:=by
 rw [Zj9];obtain ⟨n,hn⟩:=Zhb (s:=s) (Zim (D:=Vh s) h0 (by rw [K2];exact h1));rw [hn];have:=n.isLt;omega
theorem Zus (a0:List Int->Int->Int->Int->Int->Option (List Int×Int×Int)) (s:ByteArray) (hs:s.size<=Z2) (aa:List Int) (ag ai aj:Int):
  ∀ (k:Nat) (ae ac ab ar:Int),(s.size:Int)-ae<(k:Int)->0<=ae->ae<=(s.size:Int)->0<=ac->ac<=2147483648->1<=ab->ab<=2147483647->36<=ar->ar<=36*(ae+1)->
   ∃ pl e at' i',Qb.l1 k 36 1 26 38 700 72 128 45 s aj ae ac ab ar=some (pl,e,at',i')/\(e≠0->Yl.l2 a0 k s aa ag ai aj ae ac ab ar=some ([],pl,e))/\
    (e=0->ae<at'/\at'<=(s.size:Int)/\ac<=i'/\i'<=2147483647/\∃ ac' ab' ao',i64.wrap (ac'+i64.wrap (ao'*ab'))=i'/\Yl.l2 a0 k s aa ag ai aj ae ac ab ar=Z0f a0 aa ag ai (at'-1) ac' ab' ao'):=by
 have hb:=hs;unfold Z2 at hb;intro k
 induction k with
 | zero=>intro ae ac ab ar h;omega
 | succ k ih=>
  intro ae ac ab ar h1 h2 h3 h4 h5 h6 h7 h8 h9;simp only [Qb.l1,Yl.l2];by_cases c:ae=(s.size:Int)
  ·rw [if_pos c,if_pos c]
   exact ⟨_,_,_,_,rfl,λ_=>rfl,λh=>absurd h (by decide)⟩
  ·rw [if_neg c,if_neg c,if_pos ⟨h2,by omega⟩,if_pos ⟨h2,by omega⟩]
   obtain ⟨r1,r2⟩:=Zha s ae h2 (by omega);obtain ⟨d,g1,g2,g3⟩:=Zmp _ r1 r2;rw [show Ha.f ⟨36,1,26,38,700,72,128,45⟩ (bt s ae)=some d from by rw [Zt3 _ r1 r2,g1],g1,Option.bind_some,Option.bind_some];by_cases c2:d<0
   ·rw [if_pos c2,if_pos c2]
    exact ⟨_,_,_,_,rfl,λ_=>rfl,λh=>absurd h (by decide)⟩
   ·have hdb:0<=d*ab/\d*ab<=75161927645:=by
     constructor
     ·exact Int.mul_nonneg (by omega) (by omega)
     ·have:d*ab<=35*ab:=Int.mul_le_mul_of_nonneg_right (by omega) (by omega)
      omega
    have w1:i64.wrap (d*ab)=d*ab:=w64 (by omega) (by omega)
    have w2:i64.wrap (ac+d*ab)=ac+d*ab:=w64 (by omega) (by omega)
    have w3:i64.wrap (ae+1)=ae+1:=w64 (by omega) (by omega)
    have w4:i64.wrap (ar+36)=ar+36:=w64 (by omega) (by omega)
    rw [if_neg c2,if_neg c2]
    by_cases c3:2147483647<i64.wrap (ac+i64.wrap (d*ab))
    ·rw [if_pos c3,if_pos c3]
     exact ⟨_,_,_,_,rfl,λ_=>rfl,λh=>absurd h (by decide)⟩
    ·obtain ⟨t,t1,t2,t3⟩:=Zti ar aj
     rw [if_neg c3,if_neg c3,show Vf.f ⟨36,1,26,38,700,72,128,45⟩ ar aj=some t from by rw [Zox,t1],t1,Option.bind_some,Option.bind_some]
     by_cases c4:d<t
     ·rw [if_pos c4,if_pos c4]
      refine ⟨_,_,_,_,rfl,λh=>absurd rfl h,λ_=>⟨by omega,by omega,by rw [w1,w2];omega,by omega,ac,ab,d,rfl,?_⟩⟩
      rw [w3,show ae+1-1=ae by omega];rfl
     ·rw [if_neg c4,if_neg c4]
      have w5:i64.wrap (36-t)=36-t:=w64 (by omega) (by omega)
      have hab:0<=ab*(36-t)/\ab*(36-t)<=75161927645/\1<=ab*(36-t):=by
       have a1:ab*1<=ab*(36-t):=Int.mul_le_mul_of_nonneg_left (by omega) (by omega)
       have a2:ab*(36-t)<=ab*35:=Int.mul_le_mul_of_nonneg_left (by omega) (by omega)
       omega
      have w6:i64.wrap (ab*(36-t))=ab*(36-t):=w64 (by omega) (by omega)
      by_cases c5:2147483647<i64.wrap (ab*i64.wrap (36-t))
      ·rw [if_pos c5,if_pos c5]
       exact ⟨_,_,_,_,rfl,λ_=>rfl,λh=>absurd h (by decide)⟩
      ·rw [if_neg c5,if_neg c5]
       rw [w5,w6] at c5 ⊢
       rw [w1,w2] at c3 ⊢
       rw [w3,w4]
       obtain ⟨pl,e,at',i',q1,q2,q3⟩:=ih (ae+1) (ac+d*ab) (ab*(36-t)) (ar+36) (by omega) (by omega) (by omega) (by omega) (by omega) (by omega) (by omega) (by omega) (by omega)
       refine ⟨pl,e,at',i',q1,q2,λhe=>?_⟩
       obtain ⟨p1,p2,p3,p4⟩:=q3 he
       exact ⟨by omega,p2,by omega,p4⟩
theorem Zoq (x:Int):Hi.f x=Vc.f x:=by
 simp only [Hi.f,Xi.f,Xi.j2,Xi.j1,Vc.f,Vc.j1];by_cases a:0<=x
 ·rw [if_pos a,if_pos a]
  by_cases b:x<55296
  ·simp [b]
  ·simp only [b,decide_false,if_false,Bool.false_eq_true]
   by_cases c:57343<x
   ·by_cases d:x<=1114111<;>simp [c,d]
   ·simp [c]
 ·rw [if_neg a,if_neg a]
  simp [show ¬ 57343<x by omega]
theorem Zqk (x:Int):∃ b,Vc.f x=some b:=by
 unfold Vc.f Vc.j1;repeat' first | exact ⟨_,rfl⟩ | apply Zbi
theorem Zj1:∀ (k:Nat) (a b:Int),0<=a->a<=8589934592->a<(k:Int)->∃ r,Ku.l1 k a b=some r
 | 0,a,b,h0,_,h2=>by omega
 | k+1,a,b,h0,h1,h2=>by
  simp only [Ku.l1]
  by_cases c:455<a
  ·have ht:a.tdiv 35=a/35:=Int.tdiv_eq_ediv_of_nonneg h0
   have hw:i64.wrap (a.tdiv 35)=a/35:=by rw [ht];exact w64 (by omega) (by omega)
   rw [if_pos c,hw]
   exact Zj1 k _ _ (by omega) (by omega) (by omega)
  ·rw [if_neg c,w64 (x:=a+38) (by omega) (by omega),if_pos (by omega)]
   exact ⟨_,rfl⟩
theorem Zmb (d p:Int) (f:Bool) (h0:0<=d) (h1:d<=2147483648) (hp:1<=p):∃ r,Ku.f d p f=some r:=by
 have hK:(K0:Int)=1180591620717411303424:=rfl;have key:∀ c:Int,0<=c->c<=2147483648->∃ r,Ku.j1 p c=some r:=by intro c c0 c1;have e1:c.tdiv p=c/p:=Int.tdiv_eq_ediv_of_nonneg c0;have e2:0<=c/p:=Int.ediv_nonneg c0 (by omega);have e3:c/p<=c:=Int.ediv_le_self p c0;rw [Ku.j1,if_pos (by omega),e1,w64 (x:=c/p) (by omega) (by omega),w64 (by omega) (by omega)];exact Zj1 K0 _ _ (by omega) (by omega) (by omega)
 have t1:d.tdiv 700=d/700:=Int.tdiv_eq_ediv_of_nonneg h0;have t2:d.tdiv 2=d/2:=Int.tdiv_eq_ediv_of_nonneg h0;rw [Ku.f,t1,t2,w64 (x:=d/700) (by omega) (by omega),w64 (x:=d/2) (by omega) (by omega)];split
 ·exact key _ (by omega) (by omega)
 ·exact key _ (by omega) (by omega)
theorem Zs9 (s:ByteArray) (hs:2*s.size<=Z2):∀ (q:Nat) (out:List Int) (at' n i b:Int) (k:Nat),(s.size:Int)-at'<=(q:Int)->q<k->0<=at'->(out.length:Int)<=at'->at'<=(s.size:Int)+1->0<=n->n<=1114111->0<=i->i<=(out.length:Int)->i<=2147483648->
  ∃ l a e,Xk.l1 k pU s out at' n i b=some (l,a,e)/\Yl.l3 k s out at' n i b=some (l,a,e)/\(l.length:Int)<=(s.size:Int)+1:=by
 have hb:=hs;unfold Z2 at hb;have hK:(K0:Int)=1180591620717411303424:=rfl;intro q
 induction q with
 | zero=>
  intro out at' n i b k h1 h2 h3 h4 h5 h6 h7 h8 h9 h10;obtain ⟨k,rfl⟩:∃ j,k=j+1:=⟨k-1,by omega⟩;simp only [Xk.l1,Yl.l3];rw [if_neg (by omega),if_neg (by omega)];exact ⟨_,_,_,rfl,rfl,by first | omega | (simp;omega)⟩
 | succ q ih=>
  intro out at' n i b k h1 h2 h3 h4 h5 h6 h7 h8 h9 h10;obtain ⟨k,rfl⟩:∃ j,k=j+1:=⟨k-1,by omega⟩;simp only [Xk.l1,Yl.l3];by_cases c:at'<(s.size:Int)
  ·rw [if_pos c,if_pos c]
   obtain ⟨pl,e,at2,i2,q1,q2,q3⟩:=Zus (Yl.l3 k s) s (by unfold Z2;omega) out n i b K0 at' i 1 36 (by omega) h3 (by omega) h8 (by omega) (by omega) (by omega) (by omega) (by omega);simp only [Uw.f,Qb.f,q1,Option.bind_some];by_cases he:e=0
   ·obtain ⟨p1,p2,p3,p4,ac,ab,ao,p5,p6⟩:=q3 he
    rw [p6];have wl:i64.wrap ((out.length:Int)+1)=(out.length:Int)+1:=w64 (by omega) (by omega);have hpos:(0:Int)<(out.length:Int)+1:=by omega
    have td:i2.tdiv ((out.length:Int)+1)=i2/((out.length:Int)+1):=Int.tdiv_eq_ediv_of_nonneg (by omega);have tm:i2.tmod ((out.length:Int)+1)=i2%((out.length:Int)+1):=Int.tmod_eq_emod_of_nonneg (by omega);have d0:0<=i2/((out.length:Int)+1):=Int.ediv_nonneg (by omega) (by omega);have d1:i2/((out.length:Int)+1)<=i2:=Int.ediv_le_self _ (by omega);have m0:0<=i2%((out.length:Int)+1):=Int.emod_nonneg _ (by omega);have m1:i2%((out.length:Int)+1)<(out.length:Int)+1:=Int.emod_lt_of_pos _ hpos;have m2:i2%((out.length:Int)+1)<=i2:=by have:=Int.mul_ediv_add_emod i2 ((out.length:Int)+1);have:=Int.mul_nonneg (show (0:Int)<=(out.length:Int)+1 by omega) d0;omega
    have wd:i64.wrap (i2-i)=i2-i:=w64 (by omega) (by omega);have w1:i64.wrap (i2/((out.length:Int)+1))=i2/((out.length:Int)+1):=w64 (by omega) (by omega);have w2:i64.wrap (n+i2/((out.length:Int)+1))=n+i2/((out.length:Int)+1):=w64 (by omega) (by omega);have w3:i64.wrap (at2-1)=at2-1:=w64 (by omega) (by omega);have w4:i64.wrap (i2%((out.length:Int)+1)+1)=i2%((out.length:Int)+1)+1:=w64 (by omega) (by omega);have w5:i64.wrap (at2-1+1)=at2:=by rw [w64 (by omega) (by omega)];omega
    obtain ⟨ad,had⟩:=Zmb (i2-i) ((out.length:Int)+1) (decide (i=0)) (by omega) (by omega) (by omega);have hne:¬ (out.length:Int)+1=0:=by omega
    simp only [he,ne_eq,not_true_eq_false,if_false,Z0f,p5,wl,Zpe,wd,had,Option.bind_some,hne,not_false_eq_true,if_true,td,tm,w1,w2,w3,w4];by_cases c2:1114111<n+i2/((out.length:Int)+1)
    ·simp only [if_pos c2,Option.bind_some]
     exact ⟨_,_,_,rfl,rfl,by first | omega | (simp;omega)⟩
    ·simp only [if_neg c2,Zoq]
     obtain ⟨sb,hsb⟩:=Zqk (i32.wrap (n+i2/((out.length:Int)+1)));simp only [hsb,Option.bind_some]
     cases sb with
     | false=>exact ⟨_,_,_,rfl,rfl,by first | omega | (simp;omega)⟩
     | true=>
      have hms:out.length+1<=most:=by unfold most;omega
      obtain ⟨im,him⟩:∃ im:Nat,i2%((out.length:Int)+1)=(im:Int):=⟨(i2%((out.length:Int)+1)).toNat,by omega⟩;have hsh:=Zxx (Yl.l3 k s) out n (at2-1) ac ab ao ad i2 p5 (i:=im) (by rw [wl,tm,him]) (by unfold Z2;omega) out.length 0 K0 (by omega) (Nat.le_refl _) (by omega);have e1:out.take out.length++(0:Int)::out.drop out.length=out++[0]:=by simp
      have e2:i64.wrap (((out++[(0:Int)]).length:Int)-1)=(out.length:Int):=by rw [List.length_append,w64 (by simp<;>omega) (by simp<;>omega)];simp
      rw [e1,wl,td,w1,w2,w5,<- him,w4] at hsh;have hil:(Zeq out (i2%((out.length:Int)+1)) (i32.wrap (n+i2/((out.length:Int)+1)))).length=out.length+1:=by simp [Zeq];omega
      obtain ⟨l,a,e',r1,r2,r3⟩:=ih (Zeq out (i2%((out.length:Int)+1)) (i32.wrap (n+i2/((out.length:Int)+1)))) at2 (n+i2/((out.length:Int)+1)) (i2%((out.length:Int)+1)+1) ad k (by omega) (by omega) (by omega) (by rw [hil];omega) (by omega) (by omega) (by omega) (by omega) (by rw [hil];omega) (by omega);refine ⟨l,a,e',?_,?_,r3⟩
      ·rw [if_neg (by decide),if_pos ⟨m0,by omega,hms⟩,Option.bind_some,if_neg (by simp)]
       exact r1
      ·rw [if_neg (by decide),if_pos (by simpa using hms),e2,hsh]
       exact r2
   ·rw [q2 he]
    simp only [ne_eq,he,not_false_eq_true,if_true,Option.bind_some];exact ⟨_,_,_,rfl,rfl,by first | omega | (simp;omega)⟩
  ·rw [if_neg c,if_neg c]
   exact ⟨_,_,_,rfl,rfl,by first | omega | (simp;omega)⟩
end
end Go.Proofs.YtdkkmdeanfcfnaaGreatDoor
