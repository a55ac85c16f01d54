/- Texts of this repo, merged for the claim: PureS, PureA, PureT, PureU, PureV, PureW, PureB, PureC, PureD, PureE, PureF, PureG, PureH, PureI, PureJ, PureK, PureX, PureCR, PureLI, PureLB, PureLC, PureLW, PureLD, PureLE. -/
import Derived.Test.YthoicbafdanmkaaGreatDoorWhole0
import Derived.Test.YthoicbafdanmkaaGreatDoorWhole4
import Derived.Test.YthoicbafdanmkaaGreatDoorWhole1
import Derived.Test.YthoicbafdanmkaaGreatDoorWhole2
import Derived.Test.YthoicbafdanmkaaGreatDoorWhole3
/- Plain laws of the canonical order: a stable sort of each stretch without class 0; what is ordered in pieces is ordered in all. Own work of this repo; it needs no walk. -/
namespace Go.Proofs.YthoicbafdanmkaaGreatDoor

section
variable {α:Type} (key:α→Int)
def Zjs (x:α):List α→List α
 | []=>[x]
 | y::t=>if key x≤key y then x::y::t else y::Zjs x t
def Ky:List α→List α
 | []=>[]
 | x::t=>Zjs key x (Ky t)
def Srt:List α→Prop
 | []=>True
 | x::t=>(∀ y∈t,key x≤key y)∧Srt t
def Feq (a b:List α):Prop:=∀ c,a.filter (fun x=>decide (key x=c))=b.filter (fun x=>decide (key x=c))
theorem Feq.refl (a:List α):Feq key a a:=fun _=>rfl
theorem Feq.symm {a b:List α} (h:Feq key a b):Feq key b a:=fun c=>(h c).symm
theorem Feq.trans {a b c:List α} (h:Feq key a b) (g:Feq key b c):Feq key a c:=fun d=>(h d).trans (g d)
theorem Feq.app {a a' b b':List α} (h:Feq key a a') (g:Feq key b b'):Feq key (a++b) (a'++b'):=fun c=>by rw [List.filter_append,List.filter_append,h c,g c]
theorem Feq.mem {a b:List α} (h:Feq key a b) {x:α} (hx:x∈a):x∈b:=by
 have:x∈a.filter (fun y=>decide (key y=key x)):=List.mem_filter.2 ⟨hx,by simp⟩
 rw [h] at this
 exact (List.mem_filter.1 this).1
theorem Zwz {x y:α} {t:List α}:y∈Zjs key x t↔y=x∨y∈t:=by
 induction t with
 | nil=>simp [Zjs]
 | cons z t ih=>
  unfold Zjs
  split
  ·simp
  ·simp only [List.mem_cons,ih]
   constructor
   ·rintro (h | h | h)<;>simp [h]
   ·rintro (h | h | h)<;>simp [h]
theorem Zsf {x:α}:∀ {t:List α},Srt key t→Srt key (Zjs key x t)
 | [],_=>⟨fun y hy=>(by cases hy),trivial⟩
 | y::t,h=>by
  unfold Zjs
  split
  ·rename_i c
   refine ⟨fun z hz=>?_,h⟩
   rcases List.mem_cons.1 hz with rfl | hz
   ·exact c
   ·exact Int.le_trans c (h.1 z hz)
  ·rename_i c
   refine ⟨fun z hz=>?_,Zsf h.2⟩
   rcases (Zwz key).1 hz with rfl | hz
   ·omega
   ·exact h.1 z hz
theorem Zrs (x:α):∀ (t:List α),Feq key (Zjs key x t) (x::t)
 | [],_=>rfl
 | y::t,c=>by
  unfold Zjs
  split
  ·rfl
  ·rename_i h
   have ih:=Zrs x t c
   simp only [List.filter_cons] at ih ⊢
   rw [ih]
   by_cases c1:key y=c
   ·have:¬ key x=c:=by omega
    simp [c1,this]
   ·simp [c1]
theorem Zas:∀ (l:List α),Srt key (Ky key l)
 | []=>trivial
 | _::t=>Zsf key (Zas t)
theorem Zaf:∀ (l:List α),Feq key (Ky key l) l
 | [],_=>rfl
 | x::t,c=>by
  rw [Ky,Zrs key x _ c,List.filter_cons,List.filter_cons,Zaf t c]
theorem Zf0:∀ {a b:List α},Srt key a→Srt key b→Feq key a b→a=b
 | [],[],_,_,_=>rfl
 | [],y::b,_,_,h=>by have:=Feq.mem key (Feq.symm key h) (List.mem_cons_self (a:=y) (l:=b));cases this
 | x::a,[],_,_,h=>by have:=Feq.mem key h (List.mem_cons_self (a:=x) (l:=a));cases this
 | x::a,y::b,ha,hb,h=>by
  have h1:key y≤key x:=by
   rcases List.mem_cons.1 (Feq.mem key h (List.mem_cons_self (a:=x) (l:=a))) with e | e
   ·rw [e];exact Int.le_refl _
   ·exact hb.1 x e
  have h2:key x≤key y:=by
   rcases List.mem_cons.1 (Feq.mem key (Feq.symm key h) (List.mem_cons_self (a:=y) (l:=b))) with e | e
   ·rw [e];exact Int.le_refl _
   ·exact ha.1 y e
  have hk:key x=key y:=by omega
  have h3:=h (key x)
  rw [List.filter_cons,List.filter_cons,if_pos (by simp),if_pos (by simp [hk])] at h3
  have hxy:x=y:=(List.cons.inj h3).1
  subst hxy
  rw [Zf0 ha.2 hb.2 (fun c=>by
   by_cases e:key x=c
   ·subst e;exact (List.cons.inj h3).2
   ·have:=h c
    rw [List.filter_cons,List.filter_cons,if_neg (by simp [e]),if_neg (by simp [e])] at this
    exact this)]
theorem Zkm {a b:List α} (h:Feq key a b):Ky key a=Ky key b:=
 Zf0 key (Zas key a) (Zas key b) (Feq.trans key (Zaf key a) (Feq.trans key h (Feq.symm key (Zaf key b))))
theorem Ziu {a b:List α} (h:Srt key b) (g:Feq key a b):Ky key a=b:=
 Zf0 key (Zas key a) h (Feq.trans key (Zaf key a) g)
theorem Znz {l:List α} {x:α} (h:x∈Ky key l):x∈l:=Feq.mem key (Zaf key l) h
theorem Zag:∀ (l:List α),(Ky key l).length=l.length:=by
 have ins:∀ (x:α) (t:List α),(Zjs key x t).length=t.length+1:=by
  intro x t
  induction t with
  | nil=>rfl
  | cons y t ih=>unfold Zjs;split<;>simp [ih]
 intro l
 induction l with
 | nil=>rfl
 | cons x t ih=>rw [Ky,ins,ih];rfl
theorem Zjg {x y:List α} (h:∀ a∈x,∀ b∈y,key b<key a):Feq key (x++y) (y++x):=by
 intro c
 rw [List.filter_append,List.filter_append]
 by_cases e:x.filter (fun z=>decide (key z=c))=[]
 ·rw [e];simp
 ·obtain ⟨a,ha⟩:=List.exists_mem_of_ne_nil _ e
  have ha:=List.mem_filter.1 ha
  have:y.filter (fun z=>decide (key z=c))=[]:=by
   rw [List.filter_eq_nil_iff]
   intro b hb
   have:=h a ha.1 b hb
   have e2:key a=c:=by simpa using ha.2
   simp;omega
  rw [this];simp
theorem Zim:∀ {a b:List α},Srt key a→Srt key b→(∀ x∈a,∀ y∈b,key x≤key y)→Srt key (a++b)
 | [],_,_,hb,_=>hb
 | x::a,b,ha,hb,h=>by
  refine ⟨fun z hz=>?_,Zim ha.2 hb fun u hu v hv=>h u (List.mem_cons_of_mem _ hu) v hv⟩
  rcases List.mem_append.1 hz with hz | hz
  ·exact ha.1 z hz
  ·exact h x (List.mem_cons_self ..) z hz
theorem Uv {b:List α}:∀ {a:List α},Srt key (a++b)→Srt key a∧Srt key b∧∀ x∈a,∀ y∈b,key x≤key y
 | [],h=>⟨trivial,h,fun x hx=>(by cases hx)⟩
 | x::a,h=>by
  obtain ⟨h1,h2,h3⟩:=Uv h.2
  refine ⟨⟨fun y hy=>h.1 y (List.mem_append_left _ hy),h1⟩,h2,fun u hu v hv=>?_⟩
  rcases List.mem_cons.1 hu with rfl | hu
  ·exact h.1 v (List.mem_append_right _ hv)
  ·exact h3 u hu v hv

def Zhq (acc:List α):List α→List α
 | []=>Ky key acc
 | x::t=>if key x=0 then Ky key acc++x::Zhq [] t else Zhq (acc++[x]) t
def Zif (l:List α):List α:=Zhq key [] l
theorem Zjh:∀ (s:List α) (acc l:List α),(∀ x∈s,key x≠0)→Zhq key acc (s++l)=Zhq key (acc++s) l
 | [],acc,l,_=>by simp
 | x::s,acc,l,h=>by
  rw [List.cons_append,Zhq,if_neg (h x (List.mem_cons_self ..)),Zjh s _ l fun y hy=>h y (List.mem_cons_of_mem _ hy)]
  simp
theorem Zj5:∀ (l acc:List α),(Zhq key acc l).length=acc.length+l.length
 | [],acc=>by simp [Zhq,Zag]
 | x::t,acc=>by
  unfold Zhq
  split
  ·simp [Zag,Zj5 t]
  ·simp [Zj5 t];omega
theorem Zx0 (l:List α):(Zif key l).length=l.length:=by simp [Zif,Zj5]
theorem Zos {a x y b:List α} (h1:Srt key (a++x)) (h2:Srt key (y++b)) (h3:∀ u∈x,∀ v∈y,key v<key u) (h4:∀ u∈a,∀ v∈b,key u≤key v):
  Ky key ((a++x)++(y++b))=Ky key (a++y)++Ky key (x++b):=by
 obtain ⟨_,_,h1c⟩:=Uv key h1
 obtain ⟨_,_,h2c⟩:=Uv key h2
 refine Ziu key (Zim key (Zas key _) (Zas key _) fun u hu v hv=>?_) ?_
 ·rcases List.mem_append.1 (Znz key hu) with hu | hu<;>rcases List.mem_append.1 (Znz key hv) with hv | hv
  ·exact h1c u hu v hv
  ·exact h4 u hu v hv
  ·exact Int.le_of_lt (h3 v hv u hu)
  ·exact h2c u hu v hv
 ·refine Feq.trans key ?_ (Feq.app key (Feq.symm key (Zaf key (a++y))) (Feq.symm key (Zaf key (x++b))))
  have:=Feq.app key (Feq.app key (Feq.refl key a) (Zjg key h3)) (Feq.refl key b)
  simpa [List.append_assoc] using this
theorem Zoz {u:α} {y b:List α} (h2:Srt key (y++b)) (h3:∀ v∈y,key v<key u) (h4:∀ v∈b,key u≤key v):Ky key (u::(y++b))=y++u::b:=by
 obtain ⟨hy,hb,hc⟩:=Uv key h2
 refine Ziu key (Zim key hy ⟨h4,hb⟩ fun v hv w hw=>?_) ?_
 ·rcases List.mem_cons.1 hw with rfl | hw
  ·exact Int.le_of_lt (h3 v hv)
  ·exact hc v hv w hw
 ·have:=Feq.app key (Zjg key (x:=[u]) (y:=y) fun a ha v hv=>by rw [List.mem_singleton.1 ha];exact h3 v hv) (Feq.refl key b)
  simpa using this
theorem Zkq {v:α} {a x:List α} (h1:Srt key (a++x)) (h3:∀ u∈x,key v<key u) (h4:∀ u∈a,key u≤key v):Ky key (a++x++[v])=a++v::x:=by
 obtain ⟨ha,hx,hc⟩:=Uv key h1
 refine Ziu key (Zim key ha ⟨fun u hu=>Int.le_of_lt (h3 u hu),hx⟩ fun u hu w hw=>?_) ?_
 ·rcases List.mem_cons.1 hw with rfl | hw
  ·exact h4 u hu
  ·exact hc u hu w hw
 ·have:=Feq.app key (Feq.refl key a) (Zjg key (x:=x) (y:=[v]) fun u hu w hw=>by rw [List.mem_singleton.1 hw];exact h3 u hu)
  simpa [List.append_assoc] using this
theorem Zp4 (a b:List α):Ky key (Ky key a++b)=Ky key (a++b):=Zkm key (Feq.app key (Zaf key a) (Feq.refl key b))
theorem Ze3 {a:List α} (h:Srt key a):Ky key a=a:=Ziu key h (Feq.refl key a)
end
end Go.Proofs.YthoicbafdanmkaaGreatDoor
/- Plain laws, first part: loops over lists; what each check of a book says. Own work of this repo. -/
namespace Go.Proofs.YthoicbafdanmkaaGreatDoor
open Go.IntKind (i8 i16 i32 i64 u8 u16 u32 u64)
open Go.RowKit

theorem w32 {x:Int} (h0:-2147483648≤x) (h1:x≤2147483647):i32.wrap x=x:=by rw [IntKind.wrap_i32];omega
theorem w64 {x:Int} (h0:-9223372036854775808≤x) (h1:x≤9223372036854775807):i64.wrap x=x:=by rw [IntKind.wrap_i64];omega
theorem w16 {x:Int} (h0:0≤x) (h1:x<65536):u16.wrap x=x:=by rw [IntKind.wrap_u16];omega

def Z5:Nat:=1073741824
theorem mid {α:Type} [Inhabited α] {xs pre t:List α} {x:α} (e:xs=pre++x::t):rd xs (pre.length:Int)=x∧((0:Int)≤(pre.length:Int)∧(pre.length:Int)<(xs.length:Int)):=by
 subst e
 refine ⟨by simp [rd],by omega,by simp;omega⟩
theorem nxt {α:Type} {xs pre t:List α} {x:α} (hx:xs.length≤Z5) (e:xs=pre++x::t):i64.wrap ((pre.length:Int)+1)=(pre.length:Int)+1:=by
 have:xs.length=pre.length+(t.length+1):=by rw [e];simp
 unfold Z5 at hx
 exact w64 (by omega) (by omega)
theorem Xp {α σ β:Type} (L:Nat→Int→σ→Option β) (xs:List α) (Spec:List α→List α→σ→Option β→Prop)
  (hnil:∀ s k,Spec xs [] s (L (k+1) (xs.length:Int) s))
  (hcons:∀ pre x t s k,xs=pre++x::t→(∀ s',Spec (pre++[x]) t s' (L k ((pre.length:Int)+1) s'))→Spec pre (x::t) s (L (k+1) (pre.length:Int) s)):
  ∀ s k,xs.length<k→Spec [] xs s (L k 0 s):=by
 have key:∀ t pre s k,xs=pre++t→t.length<k→Spec pre t s (L k (pre.length:Int) s):=by
  intro t
  induction t with
  | nil=>
   intro pre s k e hk
   obtain ⟨k,rfl⟩:∃ j,k=j+1:=⟨k-1,by simp at hk;omega⟩
   have:xs=pre:=by rw [e];simp
   subst this
   exact hnil s k
  | cons x t ih=>
   intro pre s k e hk
   obtain ⟨k,rfl⟩:∃ j,k=j+1:=⟨k-1,by simp at hk;omega⟩
   refine hcons pre x t s k e (fun s'=>?_)
   have:=ih (pre++[x]) s' k (by rw [e];simp) (by simp at hk;omega)
   simpa using this
 intro s k hk
 have:=key xs [] s k rfl hk
 simpa using this
theorem ltK {n:Nat} (h:n≤Z5):n<K0:=by unfold Z5 at h;unfold K0;omega

def H5 (r:Int) (b:Bool):Prop:=(b=true∧r=-1)∨(b=false∧0≤r)
theorem H5.val {r:Int} {b:Bool} (h:H5 r b):(decide (0≤r))=!b:=by
 rcases h with ⟨rfl,rfl⟩ | ⟨rfl,h⟩<;>simp [*]

def K9 {α:Type} (lo hi:α→Int) (may:α→Bool):Int→List α→Bool
 | _,[]=>true
 | last,x::t=>decide (last<lo x)&&decide (lo x≤hi x)&&decide (hi x≤1114111)&&may x&&K9 lo hi may (hi x) t
theorem Qd {α:Type} {lo hi:α→Int} {may:α→Bool} {last:Int} {x:α} {t:List α} (h:lo x≤last∨hi x<lo x∨1114111<hi x∨may x=false):K9 lo hi may last (x::t)=false:=by
 rcases h with h | h | h | h
 ·simp [K9,show ¬ last<lo x by omega]
 ·simp [K9,show ¬ lo x≤hi x by omega]
 ·simp [K9,show ¬ hi x≤1114111 by omega]
 ·simp [K9,h]
theorem Zab {α:Type} {lo hi:α→Int} {may:α→Bool} {last:Int} {x:α} {t:List α} (h1:¬ lo x≤last) (h2:¬ hi x<lo x) (h3:¬ 1114111<hi x) (h4:may x=true):K9 lo hi may last (x::t)=K9 lo hi may (hi x) t:=by
 simp [K9,h4,show last<lo x by omega,show lo x≤hi x by omega,show hi x≤1114111 by omega]

def U4 (c:Int):Bool:=decide (97≤c∧c≤122)||decide (65≤c∧c≤90)
theorem Zs9:∀ n:Fin 256,(decide (97≤bOr .u8 (n.val:Int) 32)&&decide (bOr .u8 (n.val:Int) 32≤122))=U4 (n.val:Int):=by decide +kernel
def Zji (s:ByteArray):Bool:=decide (1≤s.size)&&decide (s.size≤32)&&(Qs s).all U4
theorem Zge {s:ByteArray} {c:Int} (h:c∈Qs s):∃ n:Fin 256,c=(n.val:Int):=by
 simp only [Qs,List.mem_map] at h
 obtain ⟨b,_,rfl⟩:=h
 exact ⟨⟨b.toNat,b.toNat_lt⟩,rfl⟩
theorem Zdt (s:ByteArray) (i:Int):bt s i=rd (Qs s) i:=by
 simp only [bt,rd,Qs,List.getD_eq_getElem?_getD,List.getElem?_map,Array.getElem?_toList,Array.getD_eq_getD_getElem?]
 cases s.data[i.toNat]?<;>rfl
theorem Zpb (s:ByteArray) (hs:s.size≤32):Xt.l1 K0 s 0=some ((Qs s).all U4):=by
 have hl:(Qs s).length≤Z5:=by rw [X0];unfold Z5;omega
 refine Xp (fun k i (_:Unit)=>Xt.l1 k s i) (Qs s) (fun pre t _ o=>o=some (t.all U4)) ?_ ?_ () K0 (ltK hl)
 ·intro _ k
  simp only [Xt.l1,if_neg (show ¬ ((Qs s).length:Int)<((Qs s).length:Int) by omega),List.all_nil]
 ·intro pre x t _ k e ih
  obtain ⟨h1,h2⟩:=mid e
  obtain ⟨n,hn⟩:=Zge (s:=s) (c:=x) (by rw [e];simp)
  have hx:=Zs9 n
  rw [← hn] at hx
  simp only [Xt.l1,if_pos h2.2,if_pos h2,h1,Xt.j1,nxt hl e,List.all_cons]
  by_cases c1:bOr .u8 x 32<97
  ·have:U4 x=false:=by rw [← hx];simp [show ¬ 97≤bOr .u8 x 32 by omega]
   simp [c1,this]
  ·by_cases c2:122<bOr .u8 x 32
   ·have:U4 x=false:=by rw [← hx];simp [show ¬ bOr .u8 x 32≤122 by omega]
    simp [c1,c2,this]
   ·have:U4 x=true:=by rw [← hx];simp [show 97≤bOr .u8 x 32 by omega,show bOr .u8 x 32≤122 by omega]
    simp only [if_neg c1,c2,decide_false,Bool.false_eq_true,if_false,this,Bool.true_and]
    exact ih ()
theorem Zsp (s:ByteArray):Xt.f s=some (Zji s):=by
 unfold Xt.f Xt.j2 Zji
 by_cases h1:(s.size:Int)<1
 ·rw [if_pos h1,if_pos rfl];simp [show ¬ 1≤s.size by omega]
 ·by_cases h2:(32:Int)<s.size
  ·rw [if_neg h1,if_pos (by simpa using h2)];simp [show ¬ s.size≤32 by omega]
  ·rw [if_neg h1,if_neg (by simpa using h2),Zpb s (by omega)]
   simp [show 1≤s.size by omega,show s.size≤32 by omega]
theorem Zpw (s:ByteArray) (hs:s.size≤32):Xd.l1 K0 s 0=some ((Qs s).all U4):=by
 have hl:(Qs s).length≤Z5:=by rw [X0];unfold Z5;omega
 refine Xp (fun k i (_:Unit)=>Xd.l1 k s i) (Qs s) (fun pre t _ o=>o=some (t.all U4)) ?_ ?_ () K0 (ltK hl)
 ·intro _ k
  simp only [Xd.l1,X0,if_neg (show ¬ (s.size:Int)<(s.size:Int) by omega),List.all_nil]
 ·intro pre x t _ k e ih
  obtain ⟨h1,h2⟩:=mid e
  have h3:=h2
  rw [X0] at h3
  simp only [Xd.l1,if_pos h3.2,if_pos h3,Zdt,h1,Xd.j1,nxt hl e,List.all_cons]
  have ih:=ih ()
  by_cases c1:97≤x
  ·by_cases c2:x≤122
   ·have:U4 x=true:=by simp [U4,c1,c2]
    simpa [c1,c2,this] using ih
   ·by_cases c3:65≤x
    ·have:U4 x=false:=by simp [U4];omega
     simp [c1,c2,c3,this,show ¬ x≤90 by omega]
    ·omega
  ·by_cases c3:65≤x
   ·by_cases c4:x≤90
    ·have:U4 x=true:=by simp [U4,c3,c4]
     simpa [c1,c3,c4,this] using ih
    ·have:U4 x=false:=by simp [U4];omega
     simp [c1,c3,c4,this]
   ·have:U4 x=false:=by simp [U4];omega
    simp [c1,c3,this]
theorem Ztt (s:ByteArray):Xd.f s=some (Zji s):=by
 unfold Xd.f Xd.j2 Zji
 by_cases h1:(s.size:Int)<1
 ·rw [if_pos h1,if_pos rfl];simp [show ¬ 1≤s.size by omega]
 ·by_cases h2:(32:Int)<s.size
  ·rw [if_neg h1,if_pos (by simpa using h2)];simp [show ¬ s.size≤32 by omega]
  ·rw [if_neg h1,if_neg (by simpa using h2),Zpw s (by omega)]
   simp [show 1≤s.size by omega,show s.size≤32 by omega]

def Zd1:List ByteArray→ByteArray→Bool
 | [],_=>false
 | x::t,y=>decide (x=y)||Zd1 t y
theorem Ziv {α:Type} {xs pre t:List α} (e:xs=pre++t):sub xs 0 (pre.length:Int)=pre:=by
 subst e
 simp [sub]
theorem Zu7 (l:List ByteArray) (hl:l.length≤Z5) (y:ByteArray):∃ r,Yy.f l y=some r∧H5 r (!Zd1 l y):=by
 refine Xp (fun k i (_:Unit)=>Yy.l1 k l y i) l (fun pre t _ o=>∃ r,o=some r∧H5 r (!Zd1 t y)) ?_ ?_ () K0 (ltK hl)
 ·intro _ k
  exact ⟨-1,by simp only [Yy.l1,if_neg (show ¬ (l.length:Int)<(l.length:Int) by omega)],.inl ⟨rfl,rfl⟩⟩
 ·intro pre x t _ k e ih
  obtain ⟨h1,h2⟩:=mid e
  simp only [Yy.l1,if_pos h2.2,if_pos h2,h1,nxt hl e]
  by_cases c:y=x
  ·exact ⟨pre.length,by rw [if_pos c],.inr ⟨by simp [Zd1,c],by omega⟩⟩
  ·rw [if_neg c]
   obtain ⟨r,h3,h4⟩:=ih ()
   refine ⟨r,h3,?_⟩
   have:Zd1 (x::t) y=Zd1 t y:=by simp [Zd1,Ne.symm c]
   rwa [this]
theorem Zn1 (l:List ByteArray) (hl:l.length≤Z5) (y:ByteArray):Kb.f l y=some (Zd1 l y):=by
 obtain ⟨r,h1,h2⟩:=Zu7 l hl y
 simp only [Kb.f,h1,Option.bind_some,h2.val,Bool.not_not]
def Ze8:List ByteArray→List ByteArray→Bool
 | _,[]=>true
 | pre,s::t=>Zji s&&!Zd1 pre s&&Ze8 (pre++[s]) t
def Zjz (l:List ByteArray):Bool:=decide (l.length≤64)&&Ze8 [] l
theorem Zu9 (l:List ByteArray):∃ r,Km.f l=some r∧H5 r (Zjz l):=by
 unfold Km.f Zjz
 by_cases h:(64:Int)<l.length
 ·exact ⟨64,by rw [if_pos h],.inr ⟨by simp [show ¬ l.length≤64 by omega],by decide⟩⟩
 ·rw [if_neg h]
  have hl:l.length≤Z5:=by unfold Z5;omega
  simp only [show l.length≤64 by omega,decide_true,Bool.true_and]
  refine Xp (fun k i (_:Unit)=>Km.l1 k l i) l (fun pre t _ o=>∃ r,o=some r∧H5 r (Ze8 pre t)) ?_ ?_ () K0 (ltK hl)
  ·intro _ k
   exact ⟨-1,by simp only [Km.l1,if_neg (show ¬ (l.length:Int)<(l.length:Int) by omega)],.inl ⟨rfl,rfl⟩⟩
  ·intro pre x t _ k e ih
   obtain ⟨h1,h2⟩:=mid e
   have hp:pre.length≤Z5:=by rw [e] at hl;simp at hl;omega
   simp only [Km.l1,if_pos h2.2,if_pos h2,h1,Zsp,Option.bind_some,Km.j1,nxt hl e,Ze8]
   cases c:Zji x with
   | false=>exact ⟨pre.length,by simp,.inr ⟨by simp,by omega⟩⟩
   | true=>
    simp only [Bool.not_true,Bool.false_eq_true,if_false]
    rw [if_pos ⟨by decide,h2.1,by omega⟩,Ziv e,Zn1 pre hp,Option.bind_some]
    cases c2:Zd1 pre x with
    | true=>exact ⟨pre.length,by simp,.inr ⟨by simp,by omega⟩⟩
    | false=>simpa using ih ()
theorem Zm6 (l pre t:List ByteArray) (x:ByteArray) (hl:l.length≤Z5) (e:l=pre++x::t) (go:Int→Option Int):
  Qc.l1 go K0 l (pre.length:Int) 0=if Zd1 pre x=true then some (pre.length:Int) else go (i64.wrap ((pre.length:Int)+1)):=by
 have hp:pre.length≤Z5:=by rw [e] at hl;simp at hl;omega
 obtain ⟨h1,h2⟩:=mid e
 refine Xp (fun k i (_:Unit)=>Qc.l1 go k l (pre.length:Int) i) pre (fun _ u _ o=>o=if Zd1 u x=true then some (pre.length:Int) else go (i64.wrap ((pre.length:Int)+1))) ?_ ?_ () K0 (ltK hp)
 ·intro _ k
  simp only [Qc.l1,Ziv e,if_neg (show ¬ (pre.length:Int)<(pre.length:Int) by omega)]
  simp [Zd1]
 ·intro p y u _ k e2 ih
  obtain ⟨h3,h4⟩:=mid e2
  simp only [Qc.l1,Ziv e,if_pos h4.2,if_pos h4,h3,h1,nxt hp e2]
  by_cases c:y=x
  ·simp [Zd1,c]
  ·rw [if_neg c]
   have:Zd1 (y::u) x=Zd1 u x:=by simp [Zd1,c]
   rw [this];exact ih ()
theorem Zmq (l:List ByteArray):∃ r,Qc.f l=some r∧H5 r (Zjz l):=by
 unfold Qc.f Zjz
 by_cases h:(64:Int)<l.length
 ·exact ⟨64,by rw [if_pos h],.inr ⟨by simp [show ¬ l.length≤64 by omega],by decide⟩⟩
 ·rw [if_neg h]
  have hl:l.length≤Z5:=by unfold Z5;omega
  simp only [show l.length≤64 by omega,decide_true,Bool.true_and]
  refine Xp (fun k i (_:Unit)=>Qc.l2 k l i) l (fun pre t _ o=>∃ r,o=some r∧H5 r (Ze8 pre t)) ?_ ?_ () K0 (ltK hl)
  ·intro _ k
   exact ⟨-1,by simp only [Qc.l2,if_neg (show ¬ (l.length:Int)<(l.length:Int) by omega)],.inl ⟨rfl,rfl⟩⟩
  ·intro pre x t _ k e ih
   obtain ⟨h1,h2⟩:=mid e
   simp only [Qc.l2,if_pos h2.2,if_pos h2,h1,Ztt,Option.bind_some,Ze8]
   cases c:Zji x with
   | false=>exact ⟨pre.length,by simp,.inr ⟨by simp,by omega⟩⟩
   | true=>
    simp only [Bool.not_true,Bool.false_eq_true,if_false]
    rw [if_pos ⟨by decide,h2.1,by omega⟩,Zm6 l pre t x hl e,nxt hl e]
    cases c2:Zd1 pre x with
    | true=>exact ⟨pre.length,by simp,.inr ⟨by simp,by omega⟩⟩
    | false=>simpa using ih ()
end Go.Proofs.YthoicbafdanmkaaGreatDoor
/- Plain laws of slices.SortStableFunc as the canonical order calls it: it sorts stably by class. Own work of this repo. -/
namespace Go.Proofs.YthoicbafdanmkaaGreatDoor
open Go.IntKind (i8 i16 i32 i64 u8 u16 u32 u64)
open Go.RowKit

theorem Zbu {A B:List Int} {x i:Int} (h:i=(A.length:Int)):rd (A++x::B) i=x:=by subst h;simp [rd]
theorem Zp7 {A B:List Int} {u v i:Int} (h:i=(A.length:Int)+1):rd (A++u::v::B) i=v:=by
 have:=Zbu (A:=A++[u]) (B:=B) (x:=v) (i:=i) (by simp;omega)
 simpa using this
theorem Zy8 {A C D:List Int} {x y i:Int} (h:i=(A.length:Int)+1+C.length):rd (A++x::(C++y::D)) i=y:=by
 have:=Zbu (A:=A++x::C) (B:=D) (x:=y) (i:=i) (by simp;omega)
 simpa using this
theorem Zhf {A B:List Int} {x y:Int} {n:Nat} (h:n=A.length):(A++x::B).set n y=A++y::B:=by
 subst h;rw [List.set_append_right _ _ (Nat.le_refl _)];simp
theorem Zmv {A B:List Int} {u v y:Int} {n:Nat} (h:n=A.length+1):(A++u::v::B).set n y=A++u::y::B:=by
 have:=Zhf (A:=A++[u]) (B:=B) (x:=v) (y:=y) (n:=n) (by simp [h])
 simpa using this
theorem Zw6 {A C D:List Int} {x y z:Int} {n:Nat} (h:n=A.length+1+C.length):(A++x::(C++y::D)).set n z=A++x::(C++z::D):=by
 have:=Zhf (A:=A++x::C) (B:=D) (x:=y) (y:=z) (n:=n) (by simp [h];omega)
 simpa using this
theorem Zwf {x:Int} (h0:0≤x) (h1:x<4611686018427387904):i64.wrap ((u64.wrap (i64.wrap x)).fdiv (2^(min (1:Int).toNat u64.bits)))=x/2:=by
 rw [w64 (x:=x) (by omega) (by omega),show u64.wrap x=x from by rw [IntKind.wrap_u64];omega]
 have:(2:Int)^(min (1:Int).toNat u64.bits)=2:=by decide
 rw [this,Int.fdiv_eq_ediv_of_nonneg _ (by omega)]
 exact w64 (by omega) (by omega)

def cI (a b:Int):Int:=if a<b then -1 else if b<a then 1 else 0
theorem Zh3 {a b:Int}:cI a b<0↔a<b:=by
 unfold cI
 by_cases h:a<b
 ·rw [if_pos h];omega
 ·rw [if_neg h];by_cases h2:b<a
  ·rw [if_pos h2];omega
  ·rw [if_neg h2];omega
def Cmp (t:Option Tbs) (key:Int→Int):Prop:=∀ a b,Ke.f a b t=some (cI (key a) (key b))

section
variable {t:Option Tbs} {key:Int→Int}
theorem Zsi (hc:Cmp t key) (go:List Int→Int→Option (List Int)) (P:List Int) (v i:Int):∀ (n:Nat) (S rest:List Int) (k:Nat),S.length=n→n<k→P.length+n+1+rest.length≤Z5→
  ∃ S1 S2,S=S1++S2∧(∀ u∈S2,key v<key u)∧(∀ S' u,S1=S'++[u]→¬ key v<key u)∧
   Zg.l1 go k t (P.length:Int) i (P++(S++v::rest)) ((P.length:Int)+n)=go (P++(S1++v::(S2++rest))) (i64.wrap (i+1)):=by
 intro n
 induction n with
 | zero=>
  intro S rest k hS hk hb
  obtain rfl:=List.eq_nil_of_length_eq_zero hS
  obtain ⟨k,rfl⟩:∃ j,k=j+1:=⟨k-1,by omega⟩
  refine ⟨[],[],rfl,fun u hu=>(by cases hu),fun S' u h=>(by simp at h),?_⟩
  simp only [Zg.l1,if_neg (show ¬ (P.length:Int)<(P.length:Int)+((0:Nat):Int) by omega),Zg.j1,Bool.false_eq_true,if_false,List.nil_append]
 | succ n ih=>
  intro S rest k hS hk hb
  obtain ⟨k,rfl⟩:∃ j,k=j+1:=⟨k-1,by omega⟩
  rcases List.eq_nil_or_concat S with rfl | ⟨S',u,rfl⟩
  ·simp at hS
  have hS':S'.length=n:=by simpa using hS
  have hb':=hb
  unfold Z5 at hb'
  have e:P++((S'++[u])++v::rest)=(P++S')++u::v::rest:=by simp
  have hl:((P++S')++u::v::rest).length=P.length+n+2+rest.length:=by simp [hS'];omega
  have e1:i64.wrap ((P.length:Int)+((n+1:Nat):Int)-1)=(P.length:Int)+n:=by rw [w64 (by omega) (by omega)];omega
  have r1:rd ((P++S')++u::v::rest) ((P.length:Int)+((n+1:Nat):Int))=v:=Zp7 (by simp [hS'];omega)
  have r2:rd ((P++S')++u::v::rest) ((P.length:Int)+(n:Int))=u:=Zbu (by simp [hS'])
  rw [List.concat_eq_append,e]
  simp only [Zg.l1,if_pos (show (P.length:Int)<(P.length:Int)+((n+1:Nat):Int) by omega),e1,hl,if_pos (show (0:Int)≤(P.length:Int)+((n+1:Nat):Int)∧(P.length:Int)+((n+1:Nat):Int)<((P.length+n+2+rest.length:Nat):Int) by omega),
   if_pos (show (0:Int)≤(P.length:Int)+(n:Int)∧(P.length:Int)+(n:Int)<((P.length+n+2+rest.length:Nat):Int) by omega),r1,r2,hc v u,Option.bind_some]
  by_cases c:key v<key u
  ·have c':decide (cI (key v) (key u)<0)=true:=decide_eq_true (Zh3.2 c)
   rw [c']
   simp only [Zg.j1,if_true,List.length_set,e1,hl,if_pos (show (0:Int)≤(P.length:Int)+((n+1:Nat):Int)∧(P.length:Int)+((n+1:Nat):Int)<((P.length+n+2+rest.length:Nat):Int) by omega),
    if_pos (show (0:Int)≤(P.length:Int)+(n:Int)∧(P.length:Int)+(n:Int)<((P.length+n+2+rest.length:Nat):Int) by omega),r1,r2]
   rw [Zmv (by simp [hS'];omega),Zhf (by simp [hS'];omega)]
   obtain ⟨S1,S2,h1,h2,h3,h4⟩:=ih S' (u::rest) k hS' (by omega) (by simp;omega)
   refine ⟨S1,S2++[u],by rw [h1];simp,fun w hw=>?_,h3,?_⟩
   ·rcases List.mem_append.1 hw with hw | hw
    ·exact h2 w hw
    ·rw [List.mem_singleton.1 hw];exact c
   ·have e2:P++S'++v::u::rest=P++(S'++v::u::rest):=by simp
    rw [e2,h4];simp
  ·have c':decide (cI (key v) (key u)<0)=false:=decide_eq_false (fun h=>c (Zh3.1 h))
   rw [c']
   simp only [Zg.j1,Bool.false_eq_true,if_false]
   refine ⟨S'++[u],[],by simp,fun w hw=>(by cases hw),fun S'' w h=>?_,by simp⟩
   have:=List.append_inj' h rfl
   obtain ⟨_,h2⟩:=this
   simp at h2;subst h2;exact c
theorem Zqu {S1:List Int} {v:Int} (h:Srt key S1) (hl:∀ S' u,S1=S'++[u]→¬ key v<key u):∀ u∈S1,key u≤key v:=by
 intro u hu
 rcases List.eq_nil_or_concat S1 with rfl | ⟨S',w,rfl⟩
 ·cases hu
 rw [List.concat_eq_append] at*
 have hw:=hl S' w rfl
 obtain ⟨_,_,h3⟩:=Uv key h
 rcases List.mem_append.1 hu with hu | hu
 ·have:=h3 u hu w (by simp);omega
 ·rw [List.mem_singleton.1 hu];omega
theorem Zsm (hc:Cmp t key) (P Q:List Int):∀ (R S:List Int) (k:Nat),R.length<k→Srt key S→P.length+S.length+R.length+Q.length≤Z5→
  Zg.l2 k t (P.length:Int) ((P.length:Int)+S.length+R.length) (P++(S++(R++Q))) ((P.length:Int)+S.length)=some (P++(Ky key (S++R)++Q)):=by
 intro R
 induction R with
 | nil=>
  intro S k hk hs hb
  obtain ⟨k,rfl⟩:∃ j,k=j+1:=⟨k-1,by omega⟩
  simp only [Zg.l2,if_neg (show ¬ (P.length:Int)+(S.length:Int)<(P.length:Int)+S.length+(([]:List Int).length:Int) by simp),List.nil_append,List.append_nil,Ze3 key hs]
 | cons v R ih=>
  intro S k hk hs hb
  obtain ⟨k,rfl⟩:∃ j,k=j+1:=⟨k-1,by omega⟩
  have hb':=hb
  unfold Z5 at hb'
  simp only [List.length_cons] at hk hb' hb
  simp only [Zg.l2,if_pos (show (P.length:Int)+(S.length:Int)<(P.length:Int)+S.length+((v::R).length:Int) by simp;omega)]
  obtain ⟨S1,S2,h1,h2,h3,h4⟩:=Zsi hc (Zg.l2 k t (P.length:Int) ((P.length:Int)+S.length+((v::R).length:Int))) P v ((P.length:Int)+S.length) S.length S (R++Q) K0 rfl (ltK (by unfold Z5;omega)) (by simp;omega)
  rw [List.cons_append,h4,w64 (by omega) (by omega)]
  subst h1
  obtain ⟨hs1,hs2,hs12⟩:=Uv key hs
  have hm:=Zkq key (a:=S1) (x:=S2) (v:=v) hs h2 (Zqu hs1 h3)
  have hsn:Srt key (S1++v::S2):=by rw [← hm];exact Zas key _
  have:=ih (S1++v::S2) k (by omega) hsn (by simp at hb ⊢;omega)
  have e1:((P.length:Int)+((S1++S2).length:Int)+((v::R).length:Int))=(P.length:Int)+((S1++v::S2).length:Int)+(R.length:Int):=by simp;omega
  have e2:(P.length:Int)+((S1++S2).length:Int)+1=(P.length:Int)+((S1++v::S2).length:Int):=by simp;omega
  have e3:P++(S1++v::(S2++(R++Q)))=P++((S1++v::S2)++(R++Q)):=by simp
  rw [e1,e2,e3,this]
  congr 3
  rw [← hm,Zp4];simp
theorem Zuc (hc:Cmp t key) (P X Q:List Int) (hb:P.length+X.length+Q.length≤Z5):
  Zg.f (P.length:Int) ((P.length:Int)+X.length) (P++(X++Q)) t=some (P++(Ky key X++Q)):=by
 unfold Zg.f
 have hb':=hb
 unfold Z5 at hb'
 rw [w64 (by omega) (by omega)]
 cases X with
 | nil=>
  have:K0=(K0-1)+1:=by unfold K0;rfl
  rw [this]
  simp only [Zg.l2,if_neg (show ¬ (P.length:Int)+1<(P.length:Int)+(([]:List Int).length:Int) by simp;omega)]
  rfl
 | cons x X=>
  simp only [List.length_cons] at hb hb'
  have:=Zsm hc P Q X [x] K0 (ltK (by unfold Z5;omega)) ⟨fun y hy=>(by cases hy),trivial⟩ (by simp;omega)
  have e1:(P.length:Int)+(([x]:List Int).length:Int)+(X.length:Int)=(P.length:Int)+((x::X).length:Int):=by simp;omega
  rw [e1] at this
  simpa using this
theorem Zwo (P M Q:List Int):∀ (X2 Y2 X1 Y1:List Int) (k:Nat),X2.length=Y2.length→X1.length=Y1.length→X2.length<k→P.length+2*(X1.length+X2.length)+M.length+Q.length≤Z5→
  Z2.l1 k (P.length:Int) ((P.length:Int)+(X1.length+X2.length)+M.length) ((X1.length:Int)+X2.length) (P++((Y1++X2)++(M++((X1++Y2)++Q)))) (X1.length:Int)=some (P++((Y1++Y2)++(M++((X1++X2)++Q)))):=by
 intro X2
 induction X2 with
 | nil=>
  intro Y2 X1 Y1 k h1 h2 hk hb
  obtain ⟨k,rfl⟩:∃ j,k=j+1:=⟨k-1,by omega⟩
  obtain rfl:=List.eq_nil_of_length_eq_zero h1.symm
  simp only [Z2.l1,if_neg (show ¬ (X1.length:Int)<(X1.length:Int)+(([]:List Int).length:Int) by simp)]
 | cons x X2 ih=>
  intro Y2 X1 Y1 k h1 h2 hk hb
  obtain ⟨k,rfl⟩:∃ j,k=j+1:=⟨k-1,by omega⟩
  cases Y2 with
  | nil=>simp at h1
  | cons y Y2=>
   simp only [List.length_cons] at h1 hk hb
   have hb':=hb
   unfold Z5 at hb'
   have e:P++((Y1++x::X2)++(M++((X1++y::Y2)++Q)))=(P++Y1)++x::((X2++(M++X1))++y::(Y2++Q)):=by simp
   have w1:i64.wrap ((P.length:Int)+(X1.length:Int))=(P.length:Int)+X1.length:=w64 (by omega) (by omega)
   have w2:i64.wrap ((P.length:Int)+((X1.length:Int)+((x::X2).length:Int))+(M.length:Int)+(X1.length:Int))=(P.length:Int)+(X1.length+X2.length+1)+M.length+X1.length:=by rw [w64 (by simp;omega) (by simp;omega)];simp;omega
   have hl:((P++Y1)++x::((X2++(M++X1))++y::(Y2++Q))).length=P.length+2*(X1.length+(X2.length+1))+M.length+Q.length:=by simp;omega
   have r1:rd ((P++Y1)++x::((X2++(M++X1))++y::(Y2++Q))) ((P.length:Int)+X1.length)=x:=Zbu (by simp;omega)
   have r2:rd ((P++Y1)++x::((X2++(M++X1))++y::(Y2++Q))) ((P.length:Int)+(X1.length+X2.length+1)+M.length+X1.length)=y:=Zy8 (by simp;omega)
   rw [e]
   simp only [Z2.l1,if_pos (show (X1.length:Int)<(X1.length:Int)+((x::X2).length:Int) by simp;omega),w1,w2,List.length_set,hl,
    if_pos (show (0:Int)≤(P.length:Int)+(X1.length+X2.length+1)+M.length+X1.length∧(P.length:Int)+(X1.length+X2.length+1)+M.length+X1.length<((P.length+2*(X1.length+(X2.length+1))+M.length+Q.length:Nat):Int) by omega),
    if_pos (show (0:Int)≤(P.length:Int)+X1.length∧(P.length:Int)+X1.length<((P.length+2*(X1.length+(X2.length+1))+M.length+Q.length:Nat):Int) by omega),r1,r2]
   rw [Zhf (by simp;omega),Zw6 (by simp;omega),w64 (by omega) (by omega)]
   have:=ih Y2 (X1++[x]) (Y1++[y]) k (by omega) (by simp;omega) (by omega) (by simp;omega)
   have e1:(P.length:Int)+(((X1++[x]).length:Int)+(X2.length:Int))+(M.length:Int)=(P.length:Int)+((X1.length:Int)+((x::X2).length:Int))+(M.length:Int):=by simp;omega
   have e2:((X1++[x]).length:Int)+(X2.length:Int)=(X1.length:Int)+((x::X2).length:Int):=by simp;omega
   have e3:((X1++[x]).length:Int)=(X1.length:Int)+1:=by simp
   rw [e1,e2,e3] at this
   simpa using this
theorem Znk (P X M Y Q:List Int) (h:X.length=Y.length) (hb:P.length+2*X.length+M.length+Q.length≤Z5):
  Z2.f (P.length:Int) ((P.length:Int)+X.length+M.length) (X.length:Int) (P++(X++(M++(Y++Q)))) t=some (P++(Y++(M++(X++Q)))):=by
 have hb':=hb
 unfold Z5 at hb'
 have:=Zwo P M Q X Y [] [] K0 h rfl (ltK (by unfold Z5;omega)) (by simpa using hb)
 unfold Z2.f
 simpa using this
theorem Zzb:∀ (n:Nat) (P X Y Q:List Int) (k:Nat),X.length+Y.length≤n→n<k→0<X.length→0<Y.length→P.length+X.length+Y.length+Q.length≤Z5→
  Yf.l1 k t ((P.length:Int)+X.length) (P++(X++(Y++Q))) (X.length:Int) (Y.length:Int)=some (P++(Y++(X++Q))):=by
 intro n
 induction n with
 | zero=>intro P X Y Q k h1 h2 h3;omega
 | succ n ih=>
  intro P X Y Q k h1 h2 h3 h4 hb
  obtain ⟨k,rfl⟩:∃ j,k=j+1:=⟨k-1,by omega⟩
  have hb':=hb
  unfold Z5 at hb'
  have w1:i64.wrap ((P.length:Int)+(X.length:Int)-(X.length:Int))=(P.length:Int):=by rw [w64 (by omega) (by omega)];omega
  by_cases c1:(X.length:Int)=(Y.length:Int)
  ·simp only [Yf.l1,if_neg (show ¬ (X.length:Int)≠(Y.length:Int) by omega),w1]
   have:=Znk (t:=t) P X [] Y Q (by omega) (by simp;omega)
   have e:(P.length:Int)+(X.length:Int)+(([]:List Int).length:Int)=(P.length:Int)+X.length:=by simp
   rw [e] at this
   simp only [List.nil_append] at this
   rw [this];rfl
  ·by_cases c2:(Y.length:Int)<(X.length:Int)
   ·simp only [Yf.l1,if_pos (show (X.length:Int)≠(Y.length:Int) from c1),if_pos c2,w1]
    obtain ⟨X1,X2,rfl,hx1⟩:∃ X1 X2,X=X1++X2∧X1.length=Y.length:=⟨X.take Y.length,X.drop Y.length,by simp,by simp;omega⟩
    have hx2:0<X2.length:=by simp at c2;omega
    have:=Znk (t:=t) P X1 X2 Y Q hx1 (by simp at hb;omega)
    have e:(P.length:Int)+((X1++X2).length:Int)=(P.length:Int)+X1.length+X2.length:=by simp;omega
    rw [hx1] at this
    rw [e,hx1]
    have e2:P++(X1++X2++(Y++Q))=P++(X1++(X2++(Y++Q))):=by simp
    rw [e2,this,Option.bind_some]
    have w2:i64.wrap (((X1++X2).length:Int)-(Y.length:Int))=(X2.length:Int):=by rw [w64 (by simp;omega) (by simp;omega)];simp;omega
    rw [w2]
    have:=ih (P++Y) X2 X1 Q k (by simp at h1;omega) (by omega) hx2 (by omega) (by simp at hb ⊢;omega)
    have e3:((P++Y).length:Int)+(X2.length:Int)=(P.length:Int)+Y.length+X2.length:=by simp
    rw [e3,hx1] at this
    have e4:P++(Y++(X2++(X1++Q)))=P++Y++(X2++(X1++Q)):=by simp
    rw [e4,this];simp
   ·simp only [Yf.l1,if_pos (show (X.length:Int)≠(Y.length:Int) from c1),if_neg c2,w1]
    obtain ⟨Y1,Y2,rfl,hy1⟩:∃ Y1 Y2,Y=Y1++Y2∧Y2.length=X.length:=⟨Y.take (Y.length-X.length),Y.drop (Y.length-X.length),by simp,by simp;omega⟩
    have hy0:0<Y1.length:=by simp at c1 c2;omega
    have:=Znk (t:=t) P X Y1 Y2 Q hy1.symm (by simp at hb;omega)
    have w3:i64.wrap (i64.wrap ((P.length:Int)+(X.length:Int)+((Y1++Y2).length:Int))-(X.length:Int))=(P.length:Int)+X.length+Y1.length:=by
     have hyl:(Y1++Y2).length=Y1.length+Y2.length:=by simp
     rw [w64 (x:=(P.length:Int)+(X.length:Int)+((Y1++Y2).length:Int)) (by omega) (by omega),w64 (x:=(P.length:Int)+(X.length:Int)+((Y1++Y2).length:Int)-(X.length:Int)) (by omega) (by omega)];omega
    rw [w3]
    have e2:P++(X++(Y1++Y2++Q))=P++(X++(Y1++(Y2++Q))):=by simp
    rw [e2,this,Option.bind_some]
    have hyl:(Y1++Y2).length=Y1.length+Y2.length:=by simp
    have w2:i64.wrap (((Y1++Y2).length:Int)-(X.length:Int))=(Y1.length:Int):=by rw [w64 (by omega) (by omega)];omega
    rw [w2]
    have:=ih P Y2 Y1 (X++Q) k (by simp at h1;omega) (by omega) (by omega) hy0 (by simp at hb ⊢;omega)
    rw [hy1] at this
    rw [this];simp
theorem Zy7 (P X Y Q:List Int) (h3:0<X.length) (h4:0<Y.length) (hb:P.length+X.length+Y.length+Q.length≤Z5):
  Yf.f (P.length:Int) ((P.length:Int)+X.length) ((P.length:Int)+X.length+Y.length) (P++(X++(Y++Q))) t=some (P++(Y++(X++Q))):=by
 have hb':=hb
 unfold Z5 at hb'
 unfold Yf.f
 have w1:i64.wrap ((P.length:Int)+(X.length:Int)-(P.length:Int))=(X.length:Int):=by rw [w64 (by omega) (by omega)];omega
 have w2:i64.wrap ((P.length:Int)+(X.length:Int)+(Y.length:Int)-((P.length:Int)+(X.length:Int)))=(Y.length:Int):=by rw [w64 (by omega) (by omega)];omega
 rw [w1,w2]
 exact Zzb (X.length+Y.length) P X Y Q K0 (Nat.le_refl _) (ltK (by unfold Z5;omega)) h3 h4 hb
end
end Go.Proofs.YthoicbafdanmkaaGreatDoor
/- Plain laws of slices.SortStableFunc: merging in place, and the whole. Own work of this repo. -/
namespace Go.Proofs.YthoicbafdanmkaaGreatDoor
open Go.IntKind (i8 i16 i32 i64 u8 u16 u32 u64)
open Go.RowKit
section
variable {t:Option Tbs} {key:Int→Int}
theorem Zsx (P Q:List Int) (u:Int):∀ (Y2 Y1:List Int) (k:Nat),Y2.length<k→P.length+Y1.length+Y2.length+1+Q.length≤Z5→
  Za.l1 k ((P.length:Int)+Y1.length+Y2.length+1) (P++(Y1++u::(Y2++Q))) ((P.length:Int)+Y1.length)=some (P++(Y1++(Y2++u::Q))):=by
 intro Y2
 induction Y2 with
 | nil=>
  intro Y1 k hk hb
  obtain ⟨k,rfl⟩:∃ j,k=j+1:=⟨k-1,by omega⟩
  unfold Z5 at hb
  have w1:i64.wrap ((P.length:Int)+Y1.length+(([]:List Int).length:Int)+1-1)=(P.length:Int)+Y1.length:=by rw [w64 (by simp;omega) (by simp;omega)];simp
  simp only [Za.l1,w1,if_neg (show ¬ (P.length:Int)+(Y1.length:Int)<(P.length:Int)+Y1.length by omega),List.nil_append]
 | cons y Y2 ih=>
  intro Y1 k hk hb
  obtain ⟨k,rfl⟩:∃ j,k=j+1:=⟨k-1,by omega⟩
  simp only [List.length_cons] at hk hb
  have hb':=hb
  unfold Z5 at hb'
  have w1:i64.wrap ((P.length:Int)+Y1.length+((y::Y2).length:Int)+1-1)=(P.length:Int)+Y1.length+Y2.length+1:=by rw [w64 (by simp;omega) (by simp;omega)];simp;omega
  have w2:i64.wrap ((P.length:Int)+Y1.length+1)=(P.length:Int)+Y1.length+1:=w64 (by omega) (by omega)
  have e:P++(Y1++u::((y::Y2)++Q))=(P++Y1)++u::y::(Y2++Q):=by simp
  have hl:((P++Y1)++u::y::(Y2++Q)).length=P.length+Y1.length+Y2.length+2+Q.length:=by simp;omega
  have r1:rd ((P++Y1)++u::y::(Y2++Q)) ((P.length:Int)+Y1.length)=u:=Zbu (by simp)
  have r2:rd ((P++Y1)++u::y::(Y2++Q)) ((P.length:Int)+Y1.length+1)=y:=Zp7 (by simp)
  rw [e]
  simp only [Za.l1,w1,if_pos (show (P.length:Int)+(Y1.length:Int)<(P.length:Int)+Y1.length+Y2.length+1 by omega),w2,List.length_set,hl,
   if_pos (show (0:Int)≤(P.length:Int)+Y1.length+1∧(P.length:Int)+Y1.length+1<((P.length+Y1.length+Y2.length+2+Q.length:Nat):Int) by omega),
   if_pos (show (0:Int)≤(P.length:Int)+Y1.length∧(P.length:Int)+Y1.length<((P.length+Y1.length+Y2.length+2+Q.length:Nat):Int) by omega),r1,r2]
  rw [Zhf (by simp;omega),Zmv (by simp;omega)]
  have:=ih (Y1++[y]) k (by omega) (by simp;omega)
  have e1:(P.length:Int)+((Y1++[y]).length:Int)+(Y2.length:Int)+1=(P.length:Int)+Y1.length+((y::Y2).length:Int)+1:=by simp;omega
  have e2:(P.length:Int)+((Y1++[y]).length:Int)=(P.length:Int)+Y1.length+1:=by simp;omega
  rw [e1,e2] at this
  simpa using this
theorem Zud (hc:Cmp t key) (ys:List Int) (a m b:Int) (u:Int) (hb:ys.length≤Z5) (ha:0≤a∧a<ys.length) (hu:rd ys a=u) (hm:0≤m) (hbl:b≤ys.length):∀ (n:Nat) (i j:Int) (k:Nat),(j-i).toNat≤n→n<k→m≤i→i≤j→j≤b→
  (m<i→key (rd ys (i-1))<key u)→(j<b→¬ key (rd ys j)<key u)→
  ∃ s,m≤s∧s≤b∧(m<s→key (rd ys (s-1))<key u)∧(s<b→¬ key (rd ys s)<key u)∧Za.l2 k ys t a i j=Za.l1 K0 s ys a:=by
 intro n
 have hb':=hb
 unfold Z5 at hb'
 induction n with
 | zero=>
  intro i j k h1 h2 h3 h4 h5 h6 h7
  obtain ⟨k,rfl⟩:∃ j,k=j+1:=⟨k-1,by omega⟩
  obtain rfl:i=j:=by omega
  exact ⟨i,h3,h5,h6,h7,by simp only [Za.l2,if_neg (show ¬ i<i by omega)]⟩
 | succ n ih=>
  intro i j k h1 h2 h3 h4 h5 h6 h7
  obtain ⟨k,rfl⟩:∃ j,k=j+1:=⟨k-1,by omega⟩
  by_cases c:i<j
  ·have hh:=Zwf (x:=i+j) (by omega) (by omega)
   have w1:i64.wrap ((i+j)/2+1)=(i+j)/2+1:=w64 (by omega) (by omega)
   simp only [Za.l2,if_pos c,hh,if_pos (show (0:Int)≤(i+j)/2∧(i+j)/2<(ys.length:Int) by omega),if_pos (show (0:Int)≤a∧a<(ys.length:Int) from ha),hu,hc _ u,Option.bind_some,w1]
   by_cases d:key (rd ys ((i+j)/2))<key u
   ·rw [if_pos (Zh3.2 d)]
    exact ih _ _ k (by omega) (by omega) (by omega) (by omega) h5 (fun _=>by rw [show (i+j)/2+1-1=(i+j)/2 by omega];exact d) h7
   ·rw [if_neg (fun h=>d (Zh3.1 h))]
    exact ih _ _ k (by omega) (by omega) h3 (by omega) (by omega) h6 (fun _=>d)
  ·obtain rfl:i=j:=by omega
   exact ⟨i,h3,h5,h6,h7,by simp only [Za.l2,if_neg c]⟩
theorem Zzh {Y1 Y2:List Int} {u:Int} (h:Srt key (Y1++Y2)) (h1:∀ A y,Y1=A++[y]→key y<key u) (h2:∀ y B,Y2=y::B→¬ key y<key u):(∀ v∈Y1,key v<key u)∧(∀ v∈Y2,key u≤key v):=by
 obtain ⟨a,b,_⟩:=Uv key h
 refine ⟨fun v hv=>?_,fun v hv=>?_⟩
 ·rcases List.eq_nil_or_concat Y1 with rfl | ⟨A,w,rfl⟩
  ·cases hv
  rw [List.concat_eq_append] at*
  have hw:=h1 A w rfl
  obtain ⟨_,_,h3⟩:=Uv key a
  rcases List.mem_append.1 hv with hv | hv
  ·have:=h3 v hv w (by simp);omega
  ·rw [List.mem_singleton.1 hv];exact hw
 ·cases Y2 with
  | nil=>cases hv
  | cons y B=>
   have:=h2 y B rfl
   rcases List.mem_cons.1 hv with rfl | hv
   ·omega
   ·have:=b.1 v hv;omega
theorem Zy6 {X1 X2:List Int} {v:Int} (h:Srt key (X1++X2)) (h1:∀ A x,X1=A++[x]→¬ key v<key x) (h2:∀ x B,X2=x::B→key v<key x):(∀ u∈X1,key u≤key v)∧(∀ u∈X2,key v<key u):=by
 obtain ⟨a,b,_⟩:=Uv key h
 refine ⟨fun w hw=>Zqu a h1 w hw,fun w hw=>?_⟩
 cases X2 with
 | nil=>cases hw
 | cons y B=>
  have:=h2 y B rfl
  rcases List.mem_cons.1 hw with rfl | hw
  ·exact this
  ·have:=b.1 w hw;omega
theorem Zei (Y:List Int) (n:Nat) (h:n≤Y.length):∃ Y1 Y2,Y=Y1++Y2∧Y1.length=n:=⟨Y.take n,Y.drop n,by simp,by simp;omega⟩
theorem Zsv (hc:Cmp t key) (P Y Q:List Int) (u:Int) (hY:Srt key Y) (hb:P.length+1+Y.length+Q.length≤Z5):
  Za.l2 K0 (P++(u::(Y++Q))) t (P.length:Int) ((P.length:Int)+1) ((P.length:Int)+1+Y.length)=some (P++(Ky key (u::Y)++Q)):=by
 have hb':=hb
 unfold Z5 at hb'
 have hl:(P++(u::(Y++Q))).length=P.length+1+Y.length+Q.length:=by simp;omega
 obtain ⟨s,s1,s2,s3,s4,s5⟩:=Zud hc (P++(u::(Y++Q))) (P.length:Int) ((P.length:Int)+1) ((P.length:Int)+1+Y.length) u (by omega) (by omega) (Zbu rfl) (by omega) (by omega) (Z5) ((P.length:Int)+1) ((P.length:Int)+1+Y.length) K0 (by unfold Z5;omega) (ltK (Nat.le_refl _)) (by omega) (by omega) (by omega) (fun h=>by omega) (fun h=>by omega)
 rw [s5]
 obtain ⟨Y1,Y2,rfl,hn⟩:=Zei Y (s-(P.length+1)).toNat (by omega)
 have hyl:(Y1++Y2).length=Y1.length+Y2.length:=by simp
 have es:s=(P.length:Int)+(([]:List Int).length:Int)+Y1.length+1:=by simp;omega
 have hcut:=Zzh (u:=u) hY (fun A y e=>by
  subst e
  have hr:rd (P++(u::(((A++[y])++Y2)++Q))) (s-1)=y:=by
   have:=Zbu (A:=P++u::A) (B:=Y2++Q) (x:=y) (i:=s-1) (by simp at hn ⊢;omega)
   simpa using this
  have:=s3 (by simp at hn;omega)
  rwa [hr] at this) (fun y B e=>by
  subst e
  have hr:rd (P++(u::((Y1++y::B)++Q))) s=y:=by
   have:=Zbu (A:=P++u::Y1) (B:=B++Q) (x:=y) (i:=s) (by simp;omega)
   simpa using this
  have:=s4 (by simp at hyl ⊢;omega)
  rwa [hr] at this)
 have:=Zsx P (Y2++Q) u Y1 [] K0 (ltK (by unfold Z5;omega)) (by simp;omega)
 rw [es,Zoz key hY hcut.1 hcut.2]
 simpa using this
theorem Zu8 (P Q:List Int) (v:Int):∀ (n:Nat) (X2 X1 Z:List Int) (k:Nat),X2.length=n→n<k→P.length+X1.length+n+Z.length+1+Q.length≤Z5→
  Za.l3 k ((P.length:Int)+X1.length) (P++(X1++(X2++v::(Z++Q)))) ((P.length:Int)+X1.length+n)=some (P++(X1++v::(X2++(Z++Q)))):=by
 intro n
 induction n with
 | zero=>
  intro X2 X1 Z k h1 hk hb
  obtain ⟨k,rfl⟩:∃ j,k=j+1:=⟨k-1,by omega⟩
  obtain rfl:=List.eq_nil_of_length_eq_zero h1
  simp only [Za.l3,if_neg (show ¬ (P.length:Int)+(X1.length:Int)<(P.length:Int)+X1.length+((0:Nat):Int) by omega),List.nil_append]
 | succ n ih=>
  intro X2 X1 Z k h1 hk hb
  obtain ⟨k,rfl⟩:∃ j,k=j+1:=⟨k-1,by omega⟩
  have hb':=hb
  unfold Z5 at hb'
  rcases List.eq_nil_or_concat X2 with rfl | ⟨X',x,rfl⟩
  ·simp at h1
  have hX:X'.length=n:=by simpa using h1
  rw [List.concat_eq_append]
  have w1:i64.wrap ((P.length:Int)+X1.length+((n+1:Nat):Int)-1)=(P.length:Int)+X1.length+n:=by rw [w64 (by omega) (by omega)];omega
  have e:P++(X1++((X'++[x])++v::(Z++Q)))=(P++(X1++X'))++x::v::(Z++Q):=by simp
  have hl:((P++(X1++X'))++x::v::(Z++Q)).length=P.length+X1.length+n+2+Z.length+Q.length:=by simp [hX];omega
  have r1:rd ((P++(X1++X'))++x::v::(Z++Q)) ((P.length:Int)+X1.length+((n+1:Nat):Int))=v:=Zp7 (by simp [hX];omega)
  have r2:rd ((P++(X1++X'))++x::v::(Z++Q)) ((P.length:Int)+X1.length+(n:Int))=x:=Zbu (by simp [hX];omega)
  rw [e]
  simp only [Za.l3,if_pos (show (P.length:Int)+(X1.length:Int)<(P.length:Int)+X1.length+((n+1:Nat):Int) by omega),w1,List.length_set,hl,
   if_pos (show (0:Int)≤(P.length:Int)+X1.length+((n+1:Nat):Int)∧(P.length:Int)+X1.length+((n+1:Nat):Int)<((P.length+X1.length+n+2+Z.length+Q.length:Nat):Int) by omega),
   if_pos (show (0:Int)≤(P.length:Int)+X1.length+(n:Int)∧(P.length:Int)+X1.length+(n:Int)<((P.length+X1.length+n+2+Z.length+Q.length:Nat):Int) by omega),r1,r2]
  rw [Zmv (by simp [hX];omega),Zhf (by simp [hX];omega)]
  have:=ih X' X1 (x::Z) k hX (by omega) (by simp;omega)
  simpa using this
theorem Zxz (hc:Cmp t key) (ys:List Int) (a m:Int) (v:Int) (hb:ys.length≤Z5) (ha:0≤a) (hm:0≤m∧m<ys.length) (hv:rd ys m=v):∀ (n:Nat) (i j:Int) (k:Nat),(j-i).toNat≤n→n<k→a≤i→i≤j→j≤m→
  (a<i→¬ key v<key (rd ys (i-1)))→(j<m→key v<key (rd ys j))→
  ∃ s,a≤s∧s≤m∧(a<s→¬ key v<key (rd ys (s-1)))∧(s<m→key v<key (rd ys s))∧Za.l4 k ys t m i j=Za.l3 K0 s ys m:=by
 intro n
 have hb':=hb
 unfold Z5 at hb'
 induction n with
 | zero=>
  intro i j k h1 h2 h3 h4 h5 h6 h7
  obtain ⟨k,rfl⟩:∃ j,k=j+1:=⟨k-1,by omega⟩
  obtain rfl:i=j:=by omega
  exact ⟨i,h3,h5,h6,h7,by simp only [Za.l4,if_neg (show ¬ i<i by omega)]⟩
 | succ n ih=>
  intro i j k h1 h2 h3 h4 h5 h6 h7
  obtain ⟨k,rfl⟩:∃ j,k=j+1:=⟨k-1,by omega⟩
  by_cases c:i<j
  ·have hh:=Zwf (x:=i+j) (by omega) (by omega)
   have w1:i64.wrap ((i+j)/2+1)=(i+j)/2+1:=w64 (by omega) (by omega)
   simp only [Za.l4,if_pos c,hh,if_pos (show (0:Int)≤m∧m<(ys.length:Int) from hm),if_pos (show (0:Int)≤(i+j)/2∧(i+j)/2<(ys.length:Int) by omega),hv,hc v _,Option.bind_some,w1]
   by_cases d:key v<key (rd ys ((i+j)/2))
   ·rw [if_neg (fun h=>h (Zh3.2 d))]
    exact ih _ _ k (by omega) (by omega) h3 (by omega) (by omega) h6 (fun _=>d)
   ·rw [if_pos (fun h=>d (Zh3.1 h))]
    exact ih _ _ k (by omega) (by omega) (by omega) (by omega) h5 (fun _=>by rw [show (i+j)/2+1-1=(i+j)/2 by omega];exact d) h7
  ·obtain rfl:i=j:=by omega
   exact ⟨i,h3,h5,h6,h7,by simp only [Za.l4,if_neg c]⟩
theorem Zvg (hc:Cmp t key) (P X Q:List Int) (v:Int) (hX:Srt key X) (hb:P.length+X.length+1+Q.length≤Z5):
  Za.l4 K0 (P++(X++(v::Q))) t ((P.length:Int)+X.length) (P.length:Int) ((P.length:Int)+X.length)=some (P++(Ky key (X++[v])++Q)):=by
 have hb':=hb
 unfold Z5 at hb'
 have hl:(P++(X++(v::Q))).length=P.length+X.length+1+Q.length:=by simp;omega
 have hr:rd (P++(X++(v::Q))) ((P.length:Int)+X.length)=v:=by
  have:=Zbu (A:=P++X) (B:=Q) (x:=v) (i:=(P.length:Int)+X.length) (by simp)
  simpa using this
 obtain ⟨s,s1,s2,s3,s4,s5⟩:=Zxz hc (P++(X++(v::Q))) (P.length:Int) ((P.length:Int)+X.length) v (by omega) (by omega) (by omega) hr Z5 (P.length:Int) ((P.length:Int)+X.length) K0 (by unfold Z5;omega) (ltK (Nat.le_refl _)) (by omega) (by omega) (by omega) (fun h=>by omega) (fun h=>by omega)
 rw [s5]
 obtain ⟨X1,X2,rfl,hn⟩:=Zei X (s-P.length).toNat (by omega)
 have hxl:(X1++X2).length=X1.length+X2.length:=by simp
 have es:s=(P.length:Int)+X1.length:=by omega
 have hcut:=Zy6 (v:=v) hX (fun A y e=>by
  subst e
  have hr:rd (P++(((A++[y])++X2)++(v::Q))) (s-1)=y:=by
   have:=Zbu (A:=P++A) (B:=X2++v::Q) (x:=y) (i:=s-1) (by simp at hn ⊢;omega)
   simpa using this
  have:=s3 (by simp at hn;omega)
  rwa [hr] at this) (fun y B e=>by
  subst e
  have hr:rd (P++((X1++y::B)++(v::Q))) s=y:=by
   have:=Zbu (A:=P++X1) (B:=B++v::Q) (x:=y) (i:=s) (by simp;omega)
   simpa using this
  have:=s4 (by simp at hxl ⊢;omega)
  rwa [hr] at this)
 have:=Zu8 P Q v X2.length X2 X1 [] K0 rfl (ltK (by unfold Z5;omega)) (by simp;omega)
 rw [es,Zkq key hX hcut.2 hcut.1]
 have e:(P.length:Int)+((X1++X2).length:Int)=(P.length:Int)+X1.length+X2.length:=by omega
 rw [e]
 simpa using this
end
end Go.Proofs.YthoicbafdanmkaaGreatDoor
/- Plain laws of slices.SortStableFunc and canon.Order: the whole. Own work of this repo. -/
namespace Go.Proofs.YthoicbafdanmkaaGreatDoor
open Go.IntKind (i8 i16 i32 i64 u8 u16 u32 u64)
open Go.RowKit
section
variable {t:Option Tbs} {key:Int→Int}
theorem Zwe (hc:Cmp t key) (rec:Int→Int→Int→List Int→Option Tbs→Option (List Int)) (ys:List Int) (a m b mid lo hi:Int) (hb:ys.length≤Z5) (ha:0≤a) (hbb:0≤b∧b≤1073741824∧a≤1073741824) (hm:0≤m∧m≤1073741824) (hmid:mid=(a+b)/2)
  (hg:∀ c,lo≤c→c<hi→(0≤c∧c<(ys.length:Int))∧(0≤mid+m-1-c∧mid+m-1-c<(ys.length:Int))) (hlo:0≤lo) (hhi:hi≤1073741824):∀ (n:Nat) (i j:Int) (k:Nat),(j-i).toNat≤n→n<k→lo≤i→i≤j→j≤hi→
  (lo<i→¬ key (rd ys (mid+m-i))<key (rd ys (i-1)))→(j<hi→key (rd ys (mid+m-1-j))<key (rd ys j))→
  ∃ s,lo≤s∧s≤hi∧(lo<s→¬ key (rd ys (mid+m-s))<key (rd ys (s-1)))∧(s<hi→key (rd ys (mid+m-1-s))<key (rd ys s))∧
   Za.l5 k rec ys t a m b i j=(if s<m then Za.j5 rec ys t a m b s (decide (m<mid+m-s)) else Za.j5 rec ys t a m b s false):=by
 have hb':=hb
 unfold Z5 at hb'
 have e0:=Zwf (x:=a+b) (by omega) (by omega)
 rw [← hmid] at e0
 have e1:i64.wrap (mid+m)=mid+m:=w64 (by omega) (by omega)
 have e2:i64.wrap (mid+m-1)=mid+m-1:=w64 (by omega) (by omega)
 have fin:∀ (i:Int) (k:Nat),lo≤i→i≤hi→Za.l5 (k+1) rec ys t a m b i i=(if i<m then Za.j5 rec ys t a m b i (decide (m<mid+m-i)) else Za.j5 rec ys t a m b i false):=by
  intro i k h3 h4
  have e3:i64.wrap (mid+m-i)=mid+m-i:=w64 (by omega) (by omega)
  simp only [Za.l5,if_neg (show ¬ i<i by omega),e0,e1,e3]
 intro n
 induction n with
 | zero=>
  intro i j k h1 h2 h3 h4 h5 h6 h7
  obtain ⟨k,rfl⟩:∃ j,k=j+1:=⟨k-1,by omega⟩
  obtain rfl:i=j:=by omega
  exact ⟨i,h3,h5,h6,h7,fin i k h3 h5⟩
 | succ n ih=>
  intro i j k h1 h2 h3 h4 h5 h6 h7
  obtain ⟨k,rfl⟩:∃ j,k=j+1:=⟨k-1,by omega⟩
  by_cases c:i<j
  ·have hh:=Zwf (x:=i+j) (by omega) (by omega)
   obtain ⟨g1,g2⟩:=hg ((i+j)/2) (by omega) (by omega)
   have w1:i64.wrap ((i+j)/2+1)=(i+j)/2+1:=w64 (by omega) (by omega)
   have w2:i64.wrap (mid+m-1-(i+j)/2)=mid+m-1-(i+j)/2:=w64 (by omega) (by omega)
   simp only [Za.l5,if_pos c,e0,e1,e2,hh,w1,w2,if_pos g1,if_pos g2,hc _ _,Option.bind_some]
   by_cases d:key (rd ys (mid+m-1-(i+j)/2))<key (rd ys ((i+j)/2))
   ·rw [if_neg (fun h=>h (Zh3.2 d))]
    exact ih _ _ k (by omega) (by omega) h3 (by omega) (by omega) h6 (fun _=>d)
   ·rw [if_pos (fun h=>d (Zh3.1 h))]
    exact ih _ _ k (by omega) (by omega) (by omega) (by omega) h5 (fun _=>by rw [show (i+j)/2+1-1=(i+j)/2 by omega,show mid+m-((i+j)/2+1)=mid+m-1-(i+j)/2 by omega];exact d) h7
  ·obtain rfl:i=j:=by omega
   exact ⟨i,h3,h5,h6,h7,fin i k h3 h5⟩
theorem Zqd {Y:List Int} (h:Srt key Y):Ky key ([]++Y)=Y:=by rw [List.nil_append];exact Ze3 key h
theorem Zjb {X:List Int} (h:Srt key X):Ky key (X++[])=X:=by rw [List.append_nil];exact Ze3 key h
theorem Zvs (hc:Cmp t key):∀ (n:Nat) (P X Y Q:List Int) (k:Nat),X.length+Y.length≤n→n<k→0<X.length→0<Y.length→Srt key X→Srt key Y→P.length+X.length+Y.length+Q.length≤Z5→
  Za.f k (P.length:Int) ((P.length:Int)+X.length) ((P.length:Int)+X.length+Y.length) (P++(X++(Y++Q))) t=some (P++(Ky key (X++Y)++Q)):=by
 intro n
 induction n with
 | zero=>intro P X Y Q k h1 h2 h3;omega
 | succ n ih=>
  intro P X Y Q k h1 h2 h3 h4 hX hY hb
  obtain ⟨k,rfl⟩:∃ j,k=j+1:=⟨k-1,by omega⟩
  have hb':=hb
  unfold Z5 at hb'
  have w1:i64.wrap ((P.length:Int)+X.length-P.length)=X.length:=by rw [w64 (by omega) (by omega)];omega
  have w2:i64.wrap ((P.length:Int)+X.length+Y.length-((P.length:Int)+X.length))=Y.length:=by rw [w64 (by omega) (by omega)];omega
  simp only [Za.f,Za.b,w1,w2]
  by_cases c1:(X.length:Int)=1
  ·rw [if_pos c1]
   obtain ⟨u,rfl⟩:∃ u,X=[u]:=by
    cases X with
    | nil=>simp at h3
    | cons u X'=>exact ⟨u,by rw [List.eq_nil_of_length_eq_zero (l:=X') (by simp at c1;omega)]⟩
   have:=Zsv hc P Y Q u hY (by simp at hb;omega)
   simpa using this
  ·rw [if_neg c1]
   by_cases c2:(Y.length:Int)=1
   ·rw [if_pos c2]
    obtain ⟨v,rfl⟩:∃ v,Y=[v]:=by
     cases Y with
     | nil=>simp at h4
     | cons u X'=>exact ⟨u,by rw [List.eq_nil_of_length_eq_zero (l:=X') (by simp at c2;omega)]⟩
    have:=Zvg hc P X Q v hX (by simp at hb;omega)
    simpa using this
   ·rw [if_neg c2]
    obtain ⟨mid,hmid⟩:∃ mid:Int,mid=((P.length:Int)+((P.length:Int)+X.length+Y.length))/2:=⟨_,rfl⟩
    have e0:=Zwf (x:=(P.length:Int)+((P.length:Int)+X.length+Y.length)) (by omega) (by omega)
    rw [← hmid] at e0
    have e1:i64.wrap (mid+((P.length:Int)+X.length))=mid+((P.length:Int)+X.length):=w64 (by omega) (by omega)
    have e2:i64.wrap (mid+((P.length:Int)+X.length)-((P.length:Int)+X.length+Y.length))=mid-Y.length:=by rw [w64 (by omega) (by omega)];omega
    simp only [e0,e1,e2,Za.j6]
    have hl:(P++(X++(Y++Q))).length=P.length+X.length+Y.length+Q.length:=by simp;omega
    -- the search
    have hs:∃ s,(P.length:Int)≤s∧s≤(P.length:Int)+X.length∧s≤mid∧mid-Y.length≤s∧
      ((P.length:Int)<s→mid-Y.length<s→¬ key (rd (P++(X++(Y++Q))) (mid+((P.length:Int)+X.length)-s))<key (rd (P++(X++(Y++Q))) (s-1)))∧
      (s<(P.length:Int)+X.length→s<mid→key (rd (P++(X++(Y++Q))) (mid+((P.length:Int)+X.length)-1-s))<key (rd (P++(X++(Y++Q))) s))∧
      (if mid<(P.length:Int)+X.length then Za.l5 K0 (Za.f k) (P++(X++(Y++Q))) t (P.length:Int) ((P.length:Int)+X.length) ((P.length:Int)+X.length+Y.length) (mid-Y.length) mid
       else Za.l5 K0 (Za.f k) (P++(X++(Y++Q))) t (P.length:Int) ((P.length:Int)+X.length) ((P.length:Int)+X.length+Y.length) (P.length:Int) ((P.length:Int)+X.length))=
      (if s<(P.length:Int)+X.length then Za.j5 (Za.f k) (P++(X++(Y++Q))) t (P.length:Int) ((P.length:Int)+X.length) ((P.length:Int)+X.length+Y.length) s (decide ((P.length:Int)+X.length<mid+((P.length:Int)+X.length)-s))
       else Za.j5 (Za.f k) (P++(X++(Y++Q))) t (P.length:Int) ((P.length:Int)+X.length) ((P.length:Int)+X.length+Y.length) s false):=by
     by_cases c3:mid<(P.length:Int)+X.length
     ·rw [if_pos c3]
      obtain ⟨s,s1,s2,s3,s4,s5⟩:=Zwe hc (Za.f k) (P++(X++(Y++Q))) (P.length:Int) ((P.length:Int)+X.length) ((P.length:Int)+X.length+Y.length) mid (mid-Y.length) mid (by omega) (by omega) ⟨by omega,by omega,by omega⟩ ⟨by omega,by omega⟩ hmid
       (fun c hc1 hc2=>⟨⟨by omega,by omega⟩,by omega,by omega⟩) (by omega) (by omega) Z5 (mid-Y.length) mid K0 (by unfold Z5;omega) (ltK (Nat.le_refl _)) (by omega) (by omega) (by omega) (fun h=>by omega) (fun h=>by omega)
      exact ⟨s,by omega,by omega,s2,s1,fun _ h=>s3 h,fun _ h=>s4 h,s5⟩
     ·rw [if_neg c3]
      obtain ⟨s,s1,s2,s3,s4,s5⟩:=Zwe hc (Za.f k) (P++(X++(Y++Q))) (P.length:Int) ((P.length:Int)+X.length) ((P.length:Int)+X.length+Y.length) mid (P.length:Int) ((P.length:Int)+X.length) (by omega) (by omega) ⟨by omega,by omega,by omega⟩ ⟨by omega,by omega⟩ hmid
       (fun c hc1 hc2=>⟨⟨by omega,by omega⟩,by omega,by omega⟩) (by omega) (by omega) Z5 (P.length:Int) ((P.length:Int)+X.length) K0 (by unfold Z5;omega) (ltK (Nat.le_refl _)) (by omega) (by omega) (by omega) (fun h=>by omega) (fun h=>by omega)
      exact ⟨s,s1,s2,by omega,by omega,fun h _=>s3 h,fun h _=>s4 h,s5⟩
    obtain ⟨s,s1,s2,s3,s4,s5,s6,s7⟩:=hs
    rw [s7]
    clear s7
    obtain ⟨X1,X2,rfl,hn⟩:=Zei X (s-P.length).toNat (by omega)
    obtain ⟨Y1,Y2,rfl,hn2⟩:=Zei Y (mid-s).toNat (by omega)
    have hxl:(X1++X2).length=X1.length+X2.length:=by simp
    have hyl:(Y1++Y2).length=Y1.length+Y2.length:=by simp
    have es:s=(P.length:Int)+X1.length:=by omega
    have em:mid=(P.length:Int)+X1.length+Y1.length:=by omega
    obtain ⟨hX1,hX2,_⟩:=Uv key hX
    obtain ⟨hY1,hY2,_⟩:=Uv key hY
    -- the first of X2 and the last of Y1; the last of X1 and the first of Y2
    have q3:∀ u∈X2,∀ v∈Y1,key v<key u:=by
     intro u hu v hv
     rcases List.eq_nil_or_concat Y1 with rfl | ⟨A,w,rfl⟩
     ·cases hv
     cases X2 with
     | nil=>cases hu
     | cons x B=>
      rw [List.concat_eq_append] at*
      have hx':(x::B).length=B.length+1:=rfl
      have ha':(A++[w]).length=A.length+1:=by simp
      have hlen:(P++(X1++x::B)++A).length=P.length+(X1++x::B).length+A.length:=by simp;omega
      have h6:=s6 (by omega) (by omega)
      have r1:rd (P++((X1++x::B)++(((A++[w])++Y2)++Q))) s=x:=by
       have:=Zbu (A:=P++X1) (B:=B++(A++[w]++Y2++Q)) (x:=x) (i:=s) (by simp;omega)
       simpa using this
      have r2:rd (P++((X1++x::B)++(((A++[w])++Y2)++Q))) (mid+((P.length:Int)+((X1++x::B).length:Int))-1-s)=w:=by
       have:=Zbu (A:=P++(X1++x::B)++A) (B:=Y2++Q) (x:=w) (i:=mid+((P.length:Int)+((X1++x::B).length:Int))-1-s) (by omega)
       simpa using this
      rw [r1,r2] at h6
      have a1:key v≤key w:=by
       obtain ⟨_,_,h⟩:=Uv key hY1
       rcases List.mem_append.1 hv with hv | hv
       ·exact h v hv w (by simp)
       ·rw [List.mem_singleton.1 hv];omega
      have a2:key x≤key u:=by
       rcases List.mem_cons.1 hu with rfl | hu
       ·omega
       ·exact hX2.1 u hu
      omega
    have q4:∀ u∈X1,∀ v∈Y2,key u≤key v:=by
     intro u hu v hv
     rcases List.eq_nil_or_concat X1 with rfl | ⟨A,w,rfl⟩
     ·cases hu
     cases Y2 with
     | nil=>cases hv
     | cons y B=>
      rw [List.concat_eq_append] at*
      have hy':(y::B).length=B.length+1:=rfl
      have ha':(A++[w]).length=A.length+1:=by simp
      have hlen:(P++A).length=P.length+A.length:=by simp
      have hlen2:(P++((A++[w])++X2)++Y1).length=P.length+((A++[w])++X2).length+Y1.length:=by simp;omega
      have h5:=s5 (by omega) (by omega)
      have r1:rd (P++(((A++[w])++X2)++((Y1++y::B)++Q))) (s-1)=w:=by
       have:=Zbu (A:=P++A) (B:=X2++(Y1++y::B++Q)) (x:=w) (i:=s-1) (by omega)
       simpa using this
      have r2:rd (P++(((A++[w])++X2)++((Y1++y::B)++Q))) (mid+((P.length:Int)+(((A++[w])++X2).length:Int))-s)=y:=by
       have:=Zbu (A:=P++((A++[w])++X2)++Y1) (B:=B++Q) (x:=y) (i:=mid+((P.length:Int)+(((A++[w])++X2).length:Int))-s) (by omega)
       simpa using this
      rw [r1,r2] at h5
      have a1:key u≤key w:=by
       obtain ⟨_,_,h⟩:=Uv key hX1
       rcases List.mem_append.1 hu with hu | hu
       ·exact h u hu w (by simp)
       ·rw [List.mem_singleton.1 hu];omega
      have a2:key y≤key v:=by
       rcases List.mem_cons.1 hv with rfl | hv
       ·omega
       ·exact hY2.1 v hv
      omega
    have e3:i64.wrap (mid+((P.length:Int)+((X1++X2).length:Int))-s)=mid+X2.length:=by rw [w64 (by omega) (by omega)];omega
    have hj2:∀ Z:List Int,Z.length=X1.length+Y1.length→Za.j2 (Za.f k) t (P.length:Int) ((P.length:Int)+((X1++X2).length:Int)) ((P.length:Int)+((X1++X2).length:Int)+((Y1++Y2).length:Int)) s (P++(Z++(X2++(Y2++Q))))=some (P++(Z++(Ky key (X2++Y2)++Q))):=by
     intro Z hZ
     simp only [Za.j2,Za.j1,e0,e1,e3]
     by_cases d1:mid<mid+X2.length
     ·rw [if_pos d1]
      by_cases d2:mid+X2.length<(P.length:Int)+((X1++X2).length:Int)+((Y1++Y2).length:Int)
      ·rw [decide_eq_true d2,if_pos rfl]
       have:=ih (P++Z) X2 Y2 Q k (by omega) (by omega) (by omega) (by omega) hX2 hY2 (by simp;omega)
       have f1:((P++Z).length:Int)=mid:=by simp;omega
       have f2:mid+(X2.length:Int)+Y2.length=(P.length:Int)+((X1++X2).length:Int)+((Y1++Y2).length:Int):=by omega
       rw [f1,f2] at this
       have f3:P++(Z++(X2++(Y2++Q)))=P++Z++(X2++(Y2++Q)):=by simp
       rw [f3,this];simp
      ·rw [decide_eq_false d2]
       have:Y2=[]:=List.eq_nil_of_length_eq_zero (by omega)
       subst this
       simp only [Bool.false_eq_true,if_false,Zjb hX2,List.nil_append]
     ·rw [if_neg d1]
      have:X2=[]:=List.eq_nil_of_length_eq_zero (by omega)
      subst this
      simp only [Bool.false_eq_true,if_false,List.nil_append,Ze3 key hY2]
    have hj4:Za.j4 (Za.f k) t (P.length:Int) ((P.length:Int)+((X1++X2).length:Int)) ((P.length:Int)+((X1++X2).length:Int)+((Y1++Y2).length:Int)) s (P++(X1++(Y1++(X2++(Y2++Q)))))=some (P++(Ky key (X1++Y1)++(Ky key (X2++Y2)++Q))):=by
     have hz:=hj2 (Ky key (X1++Y1)) (by rw [Zag];simp)
     simp only [Za.j4,Za.j3,e0]
     by_cases d1:(P.length:Int)<s
     ·rw [if_pos d1]
      by_cases d2:s<mid
      ·rw [decide_eq_true d2,if_pos rfl]
       have:=ih P X1 Y1 (X2++(Y2++Q)) k (by omega) (by omega) (by omega) (by omega) hX1 hY1 (by simp;omega)
       rw [← es,show s+(Y1.length:Int)=mid by omega] at this
       rw [this,Option.bind_some,hz]
      ·rw [decide_eq_false d2]
       have:Y1=[]:=List.eq_nil_of_length_eq_zero (by omega)
       subst this
       rw [Zjb hX1] at hz ⊢
       simp only [Bool.false_eq_true,if_false,List.nil_append] at hz ⊢
       exact hz
     ·rw [if_neg d1]
      have:X1=[]:=List.eq_nil_of_length_eq_zero (by omega)
      subst this
      rw [Zqd hY1] at hz ⊢
      simp only [Bool.false_eq_true,if_false,List.nil_append] at hz ⊢
      exact hz
    have goal:P++(Ky key ((X1++X2)++(Y1++Y2))++Q)=P++(Ky key (X1++Y1)++(Ky key (X2++Y2)++Q)):=by
     rw [Zos key hX hY q3 q4];simp
    rw [goal,← hj4]
    have f4:P++((X1++X2)++((Y1++Y2)++Q))=P++(X1++(X2++(Y1++(Y2++Q)))):=by simp
    rw [f4]
    have f5:mid+((P.length:Int)+((X1++X2).length:Int))-s=mid+X2.length:=by omega
    rw [f5]
    by_cases d1:s<(P.length:Int)+((X1++X2).length:Int)
    ·rw [if_pos d1]
     by_cases d2:(P.length:Int)+((X1++X2).length:Int)<mid+X2.length
     ·rw [decide_eq_true d2]
      simp only [Za.j5,if_true,e0,e1,e3]
      have:=Zy7 (t:=t) (P++X1) X2 Y1 (Y2++Q) (by omega) (by omega) (by simp;omega)
      have f1:((P++X1).length:Int)=s:=by simp;omega
      have f2:s+(X2.length:Int)=(P.length:Int)+((X1++X2).length:Int):=by omega
      have f3:(P.length:Int)+((X1++X2).length:Int)+(Y1.length:Int)=mid+X2.length:=by omega
      rw [f1,f2,f3] at this
      have f6:P++(X1++(X2++(Y1++(Y2++Q))))=P++X1++(X2++(Y1++(Y2++Q))):=by simp
      rw [f6,this,Option.bind_some];simp
     ·rw [decide_eq_false d2]
      have:Y1=[]:=List.eq_nil_of_length_eq_zero (by omega)
      subst this
      simp only [Za.j5,Bool.false_eq_true,if_false,List.nil_append]
    ·rw [if_neg d1]
     have:X2=[]:=List.eq_nil_of_length_eq_zero (by omega)
     subst this
     simp only [Za.j5,Bool.false_eq_true,if_false,List.nil_append]
end
end Go.Proofs.YthoicbafdanmkaaGreatDoor
/- Plain laws of slices.SortStableFunc and canon.Order: blocks, the whole, each stretch. Own work of this repo. -/
namespace Go.Proofs.YthoicbafdanmkaaGreatDoor
open Go.IntKind (i8 i16 i32 i64 u8 u16 u32 u64)
open Go.RowKit
section
variable {t:Option Tbs} {key:Int→Int}
def Zpg (key:Int→Int) (n:Nat) (Bs:List (List Int)):Prop:=∀ B∈Bs,Srt key B∧B.length=n
theorem Zi7 {n:Nat}:∀ {Bs:List (List Int)},Zpg key n Bs→Bs.flatten.length=Bs.length*n
 | [],_=>by simp
 | B::Bs,h=>by
  have h1:=(h B (by simp)).2
  have h2:=Zi7 (Bs:=Bs) (fun C hC=>h C (by simp [hC]))
  simp [h1,h2,Nat.add_mul];omega
theorem Zw8 (hc:Cmp t key) (go:List Int→Int→Option (List Int)) (bs N:Nat) (h0:0<bs):∀ (n:Nat) (Bs:List (List Int)) (D E:List Int) (k:Nat),Bs.length≤n→n<k→Zpg key bs Bs→Srt key E→E.length<bs→D.length+Bs.flatten.length+E.length=N→N≤Z5→bs<N→
  ∃ Cs E',Zpg key (2*bs) Cs∧Srt key E'∧E'.length<2*bs∧Feq key (Cs.flatten++E') (Bs.flatten++E)∧(Cs.flatten++E').length=(Bs.flatten++E).length∧
   Zh.l1 go k t (N:Int) (bs:Int) (D++(Bs.flatten++E)) (D.length:Int) ((D.length:Int)+2*bs)=go (D++(Cs.flatten++E')) (2*(bs:Int)):=by
 intro n
 induction n with
 | zero=>
  intro Bs D E k h1 hk hB hE hl hN hb hbs
  obtain ⟨k,rfl⟩:∃ j,k=j+1:=⟨k-1,by omega⟩
  obtain rfl:=List.eq_nil_of_length_eq_zero (Nat.le_zero.1 h1)
  unfold Z5 at hb
  simp only [List.flatten_nil,List.length_nil,Nat.add_zero] at hN
  refine ⟨[],E,fun C hC=>(by cases hC),hE,by omega,Feq.refl key _,rfl,?_⟩
  have w1:i64.wrap ((D.length:Int)+bs)=(D.length:Int)+bs:=w64 (by omega) (by omega)
  have w2:i64.wrap ((bs:Int)*2)=2*(bs:Int):=by rw [w64 (by omega) (by omega)];omega
  simp only [Zh.l1,if_neg (show ¬ (D.length:Int)+2*bs≤(N:Int) by omega),w1,if_neg (show ¬ (D.length:Int)+bs<(N:Int) by omega),Zh.j1,w2]
 | succ n ih=>
  intro Bs D E k h1 hk hB hE hl hN hb hbs
  obtain ⟨k,rfl⟩:∃ j,k=j+1:=⟨k-1,by omega⟩
  have hb':=hb
  unfold Z5 at hb'
  have w2:i64.wrap ((bs:Int)*2)=2*(bs:Int):=by rw [w64 (by omega) (by omega)];omega
  match Bs,h1,hB,hN with
  | [],h1,hB,hN=>
   simp only [List.flatten_nil,List.length_nil,Nat.add_zero] at hN
   refine ⟨[],E,fun C hC=>(by cases hC),hE,by omega,Feq.refl key _,rfl,?_⟩
   have w1:i64.wrap ((D.length:Int)+bs)=(D.length:Int)+bs:=w64 (by omega) (by omega)
   simp only [Zh.l1,if_neg (show ¬ (D.length:Int)+2*bs≤(N:Int) by omega),w1,if_neg (show ¬ (D.length:Int)+bs<(N:Int) by omega),Zh.j1,w2]
  | [B],h1,hB,hN=>
   obtain ⟨hBs,hBl⟩:=hB B (by simp)
   simp only [List.flatten_cons,List.flatten_nil,List.append_nil] at hN
   have w1:i64.wrap ((D.length:Int)+bs)=(D.length:Int)+bs:=w64 (by omega) (by omega)
   simp only [Zh.l1,if_neg (show ¬ (D.length:Int)+2*bs≤(N:Int) by omega),w1,Zh.j1,w2,List.flatten_cons,List.flatten_nil,List.append_nil]
   by_cases c:(D.length:Int)+bs<(N:Int)
   ·rw [if_pos c]
    have:=Zvs hc (B.length+E.length) D B E [] K0 (Nat.le_refl _) (ltK (by unfold Z5;omega)) (by omega) (by omega) hBs hE (by simp;omega)
    rw [hBl] at this
    have e1:(D.length:Int)+(bs:Int)+E.length=(N:Int):=by omega
    rw [e1] at this
    simp only [List.append_nil] at this
    rw [this,Option.bind_some]
    exact ⟨[],Ky key (B++E),fun C hC=>(by cases hC),Zas key _,by rw [Zag];simp;omega,by simpa using Zaf key (B++E),by simp [Zag],rfl⟩
   ·rw [if_neg c]
    obtain rfl:=List.eq_nil_of_length_eq_zero (show E.length=0 by omega)
    exact ⟨[],B,fun C hC=>(by cases hC),hBs,by omega,by simpa using Feq.refl key B,by simp,by simp⟩
  | B1::B2::Bs,h1,hB,hN=>
   obtain ⟨hs1,hl1⟩:=hB B1 (by simp)
   obtain ⟨hs2,hl2⟩:=hB B2 (by simp)
   have hBs:Zpg key bs Bs:=fun C hC=>hB C (by simp [hC])
   simp only [List.flatten_cons,List.length_append] at hN
   have w1:i64.wrap ((D.length:Int)+bs)=(D.length:Int)+bs:=w64 (by omega) (by omega)
   have w3:i64.wrap (2*(bs:Int))=2*(bs:Int):=w64 (by omega) (by omega)
   have w4:i64.wrap ((D.length:Int)+2*bs+2*bs)=(D.length:Int)+2*bs+2*bs:=w64 (by omega) (by omega)
   have:=Zvs hc (B1.length+B2.length) D B1 B2 (Bs.flatten++E) K0 (Nat.le_refl _) (ltK (by unfold Z5;omega)) (by omega) (by omega) hs1 hs2 (by rw [List.length_append];omega)
   rw [hl1,hl2] at this
   have e1:(D.length:Int)+(bs:Int)+bs=(D.length:Int)+2*bs:=by omega
   rw [e1] at this
   have e2:D++((B1::B2::Bs).flatten++E)=D++(B1++(B2++(Bs.flatten++E))):=by simp
   simp only [Zh.l1,if_pos (show (D.length:Int)+2*bs≤(N:Int) by omega),w1,w3,w4,e2,this,Option.bind_some]
   have hsl:(Ky key (B1++B2)).length=2*bs:=by rw [Zag];simp;omega
   obtain ⟨Cs,E',c1,c2,c3,c4,c5,c6⟩:=ih Bs (D++Ky key (B1++B2)) E k (by simp at h1;omega) (by omega) hBs hE hl (by rw [List.length_append,hsl];omega) hb hbs
   have e3:((D++Ky key (B1++B2)).length:Int)=(D.length:Int)+2*bs:=by simp [hsl]
   rw [e3] at c6
   have e4:D++(Ky key (B1++B2)++(Bs.flatten++E))=D++Ky key (B1++B2)++(Bs.flatten++E):=by simp
   rw [e4,c6]
   refine ⟨Ky key (B1++B2)::Cs,E',fun C hC=>?_,c2,c3,?_,?_,by simp⟩
   ·rcases List.mem_cons.1 hC with rfl | hC
    ·exact ⟨Zas key _,hsl⟩
    ·exact c1 C hC
   ·have:=Feq.app key (Zaf key (B1++B2)) c4
    simpa using this
   ·simp only [List.flatten_cons,List.length_append] at c5 ⊢
    omega
theorem Zto (hc:Cmp t key) (N:Nat) (hb:N≤Z5):∀ (n bs:Nat) (Bs:List (List Int)) (E:List Int) (k:Nat),0<bs→N-bs≤n→n<k→Zpg key bs Bs→Srt key E→E.length<bs→(Bs.flatten++E).length=N→
  Zh.l2 k t (N:Int) (Bs.flatten++E) (bs:Int)=some (Ky key (Bs.flatten++E)):=by
 intro n
 have hb':=hb
 unfold Z5 at hb'
 have fin:∀ (bs:Nat) (Bs:List (List Int)) (E:List Int),0<bs→N≤bs→Zpg key bs Bs→Srt key E→E.length<bs→(Bs.flatten++E).length=N→Srt key (Bs.flatten++E):=by
  intro bs Bs E h0 h1 hB hE hl hN
  have:=Zi7 hB
  simp only [List.length_append] at hN
  match Bs,hB,this with
  | [],_,_=>simpa using hE
  | [B],hB,this=>
   have e:=(hB B (by simp)).2
   simp at this hN
   obtain rfl:=List.eq_nil_of_length_eq_zero (show E.length=0 by omega)
   simpa using (hB B (by simp)).1
  | B1::B2::Bs,hB,this=>
   simp only [List.length_cons] at this
   rw [Nat.add_mul,Nat.add_mul] at this
   omega
 induction n with
 | zero=>
  intro bs Bs E k h0 h1 hk hB hE hl hN
  obtain ⟨k,rfl⟩:∃ j,k=j+1:=⟨k-1,by omega⟩
  simp only [Zh.l2,if_neg (show ¬ (bs:Int)<(N:Int) by omega),Ze3 key (fin bs Bs E h0 (by omega) hB hE hl hN)]
 | succ n ih=>
  intro bs Bs E k h0 h1 hk hB hE hl hN
  obtain ⟨k,rfl⟩:∃ j,k=j+1:=⟨k-1,by omega⟩
  by_cases c:(bs:Int)<(N:Int)
  ·have w3:i64.wrap (2*(bs:Int))=2*(bs:Int):=w64 (by omega) (by omega)
   have hfl:=Zi7 hB
   have hBl:Bs.length≤N:=by
    simp only [List.length_append] at hN
    have:Bs.length*1≤Bs.length*bs:=Nat.mul_le_mul_left _ h0
    omega
   obtain ⟨Cs,E',c1,c2,c3,c4,c5,c6⟩:=Zw8 hc (Zh.l2 k t (N:Int)) bs N h0 N Bs [] E K0 hBl (ltK hb) hB hE hl (by simpa using hN) hb (by omega)
   simp only [List.length_nil,List.nil_append] at c6
   have e1:((0:Nat):Int)+2*(bs:Int)=2*bs:=by omega
   rw [e1] at c6
   simp only [Zh.l2,if_pos c,w3]
   have e2:((0:Nat):Int)=0:=rfl
   rw [e2] at c6
   rw [c6]
   have:=ih (2*bs) Cs E' k (by omega) (by omega) (by omega) c1 c2 c3 (by rw [c5,hN])
   have e3:((2*bs:Nat):Int)=2*(bs:Int):=by omega
   rw [e3] at this
   rw [this,Zkm key c4]
  ·simp only [Zh.l2,if_neg c,Ze3 key (fin bs Bs E h0 (by omega) hB hE hl hN)]
theorem Zpq (hc:Cmp t key) (N:Nat) (hb:N≤Z5):∀ (n:Nat) (R D:List Int) (k:Nat),R.length≤n→n<k→D.length+R.length=N→
  ∃ Bs E,Zpg key 20 Bs∧Srt key E∧E.length<20∧Feq key (Bs.flatten++E) R∧(Bs.flatten++E).length=R.length∧
   Zh.l3 k t (N:Int) (D++R) (D.length:Int) ((D.length:Int)+20)=Zh.l2 K0 t (N:Int) (D++(Bs.flatten++E)) 20:=by
 intro n
 have hb':=hb
 unfold Z5 at hb'
 have fin:∀ (R D:List Int) (k:Nat),D.length+R.length=N→R.length<20→∃ Bs E,Zpg key 20 Bs∧Srt key E∧E.length<20∧Feq key (Bs.flatten++E) R∧(Bs.flatten++E).length=R.length∧
   Zh.l3 (k+1) t (N:Int) (D++R) (D.length:Int) ((D.length:Int)+20)=Zh.l2 K0 t (N:Int) (D++(Bs.flatten++E)) 20:=by
  intro R D k hN hR
  have:=Zuc hc D R [] (by simp;omega)
  have e1:(D.length:Int)+R.length=(N:Int):=by omega
  rw [e1] at this
  simp only [List.append_nil] at this
  refine ⟨[],Ky key R,fun C hC=>(by cases hC),Zas key _,by rw [Zag];omega,by simpa using Zaf key R,by simp [Zag],?_⟩
  simp only [Zh.l3,if_neg (show ¬ (D.length:Int)+20≤(N:Int) by omega),this,Option.bind_some,List.flatten_nil,List.nil_append]
 induction n with
 | zero=>
  intro R D k h1 hk hN
  obtain ⟨k,rfl⟩:∃ j,k=j+1:=⟨k-1,by omega⟩
  exact fin R D k hN (by omega)
 | succ n ih=>
  intro R D k h1 hk hN
  obtain ⟨k,rfl⟩:∃ j,k=j+1:=⟨k-1,by omega⟩
  by_cases c:R.length<20
  ·exact fin R D k hN c
  ·obtain ⟨B,R,rfl,hB⟩:=Zei R 20 (by omega)
   have hrl:(B++R).length=B.length+R.length:=by simp
   have:=Zuc hc D B R (by omega)
   rw [hB] at this
   have w1:i64.wrap ((D.length:Int)+20+20)=(D.length:Int)+20+20:=w64 (by omega) (by omega)
   have e0:((20:Nat):Int)=20:=rfl
   rw [e0] at this
   simp only [Zh.l3,if_pos (show (D.length:Int)+20≤(N:Int) by omega),this,Option.bind_some,w1]
   have hsl:(Ky key B).length=20:=by rw [Zag];exact hB
   have hdl:(D++Ky key B).length=D.length+20:=by simp [hsl]
   obtain ⟨Bs,E,c1,c2,c3,c4,c5,c6⟩:=ih R (D++Ky key B) k (by omega) (by omega) (by omega)
   have e3:((D++Ky key B).length:Int)=(D.length:Int)+20:=by omega
   rw [e3] at c6
   have e4:D++(Ky key B++R)=D++Ky key B++R:=by simp
   rw [e4,c6]
   refine ⟨Ky key B::Bs,E,fun C hC=>?_,c2,c3,?_,?_,by simp⟩
   ·rcases List.mem_cons.1 hC with rfl | hC
    ·exact ⟨Zas key _,hsl⟩
    ·exact c1 C hC
   ·have:=Feq.app key (Zaf key B) c4
    simpa using this
   ·simp only [List.flatten_cons,List.length_append] at c5 ⊢
    omega
theorem Zzt (hc:Cmp t key) (ys:List Int) (hb:ys.length≤Z5):Qa.f ys t=some (Ky key ys):=by
 unfold Qa.f Zh.f
 obtain ⟨Bs,E,c1,c2,c3,c4,c5,c6⟩:=Zpq hc ys.length hb ys.length ys [] K0 (Nat.le_refl _) (ltK hb) (by simp)
 simp only [List.length_nil,List.nil_append] at c6
 have e1:((0:Nat):Int)+20=20:=rfl
 have e2:((0:Nat):Int)=0:=rfl
 rw [e1,e2] at c6
 rw [c6]
 have:=Zto hc ys.length hb ys.length 20 Bs E K0 (by omega) (by omega) (ltK hb) c1 c2 c3 c5
 have e3:((20:Nat):Int)=20:=rfl
 rw [e3] at this
 rw [this,Option.bind_some,Zkm key c4]

def Cls (t:Option Tbs) (key:Int→Int):Prop:=∀ p,Qf.f t p=some (key p)
theorem Cls.cmp (h:Cls t key):Cmp t key:=by
 intro a b
 simp only [Ke.f,h a,h b,Option.bind_some,Hq.f,U7.f,ne_eq,not_true_eq_false,decide_false,Bool.false_eq_true,if_false,cI]
 by_cases c:key a<key b
 ·simp [c]
 ·simp only [if_neg c]
  by_cases d:key b<key a
  ·simp [d]
  ·simp [d]
theorem Ztw (h:Cls t key) (go:List Int→Int→Option (List Int)) (A:List Int):∀ (R S:List Int) (k:Nat),R.length<k→(∀ x∈S,key x≠0)→A.length+S.length+R.length≤Z5→
  ∃ S' R',S++R=S'++R'∧(∀ x∈S',key x≠0)∧(∀ x B,R'=x::B→key x=0)∧
   Y3.l1 go k t (A++(S++R)) (A.length:Int) ((A.length:Int)+S.length)=go (A++(Ky key S'++R')) ((A.length:Int)+S'.length+1):=by
 have done:∀ (S R:List Int) (r:Option (List Int)) (go':Int→Option (List Int)),A.length+S.length+R.length≤Z5→Y3.j1 go go' t (A++(S++R)) (A.length:Int) ((A.length:Int)+S.length) false=go (A++(Ky key S++R)) ((A.length:Int)+S.length+1):=by
  intro S R _ go' hb
  have hb':=hb
  unfold Z5 at hb'
  have hl:(A++(S++R)).length=A.length+S.length+R.length:=by simp;omega
  have e1:sub (A++(S++R)) (A.length:Int) ((A.length:Int)+S.length)=S:=by
   have:((A.length:Int)+S.length).toNat=A.length+S.length:=by omega
   simp [sub,this,List.take_append]
  have e2:(A++(S++R)).take (A.length:Int).toNat=A:=by simp
  have e3:(A++(S++R)).drop ((A.length:Int)+S.length).toNat=R:=by
   have:((A.length:Int)+S.length).toNat=A.length+S.length:=by omega
   rw [this,← List.append_assoc,List.drop_append_of_le_length (by simp)]
   simp
  simp only [Y3.j1,Bool.false_eq_true,if_false,hl,if_pos (show (0:Int)≤(A.length:Int)∧(A.length:Int)≤(A.length:Int)+S.length∧(A.length:Int)+(S.length:Int)≤((A.length+S.length+R.length:Nat):Int) by omega),e1,e2,e3,
   Zzt h.cmp S (by unfold Z5;omega),Option.bind_some,w64 (x:=(A.length:Int)+S.length+1) (by omega) (by omega)]
 intro R
 induction R with
 | nil=>
  intro S k hk hS hb
  obtain ⟨k,rfl⟩:∃ j,k=j+1:=⟨k-1,by omega⟩
  refine ⟨S,[],rfl,hS,fun x B e=>(by cases e),?_⟩
  have hl:(A++(S++[])).length=A.length+S.length:=by simp
  simp only [Y3.l1,hl,if_neg (show ¬ (A.length:Int)+S.length<((A.length+S.length:Nat):Int) by omega)]
  exact done S [] none _ hb
 | cons x R ih=>
  intro S k hk hS hb
  obtain ⟨k,rfl⟩:∃ j,k=j+1:=⟨k-1,by omega⟩
  have hb':=hb
  unfold Z5 at hb'
  simp only [List.length_cons] at hk hb'
  have hl:(A++(S++x::R)).length=A.length+S.length+R.length+1:=by simp;omega
  have r1:rd (A++(S++x::R)) ((A.length:Int)+S.length)=x:=by
   have:=Zbu (A:=A++S) (B:=R) (x:=x) (i:=(A.length:Int)+S.length) (by simp)
   simpa using this
  have g1:(0:Int)≤(A.length:Int)+S.length∧(A.length:Int)+(S.length:Int)<((A.length+S.length+R.length+1:Nat):Int):=by omega
  simp only [Y3.l1,hl,if_pos g1.2,if_pos g1,r1,h x,Option.bind_some]
  by_cases c:key x=0
  ·have:decide (key x≠0)=false:=by simp [c]
   rw [this]
   refine ⟨S,x::R,rfl,hS,fun y B e=>?_,done S (x::R) none _ hb⟩
   cases e;exact c
  ·have:decide (key x≠0)=true:=by simp [c]
   rw [this]
   simp only [Y3.j1,if_true,w64 (x:=(A.length:Int)+S.length+1) (by omega) (by omega)]
   obtain ⟨S',R',q1,q2,q3,q4⟩:=ih (S++[x]) k (by omega) (fun y hy=>by
    rcases List.mem_append.1 hy with hy | hy
    ·exact hS y hy
    ·rw [List.mem_singleton.1 hy];exact c) (by simp at hb ⊢;omega)
   have e1:(A.length:Int)+((S++[x]).length:Int)=(A.length:Int)+S.length+1:=by simp;omega
   rw [e1] at q4
   have e2:A++(S++x::R)=A++(S++[x]++R):=by simp
   rw [e2,q4]
   exact ⟨S',R',by rw [← q1];simp,q2,q3,rfl⟩
theorem Zv2 (h:Cls t key):∀ (n:Nat) (R A:List Int) (k:Nat),R.length≤n→n+1<k→A.length+R.length≤Z5→
  Y3.l2 k t (A++R) (A.length:Int)=some (A++Zif key R):=by
 intro n
 induction n with
 | zero=>
  intro R A k h1 hk hb
  obtain ⟨k,rfl⟩:∃ j,k=j+1:=⟨k-1,by omega⟩
  obtain rfl:=List.eq_nil_of_length_eq_zero (Nat.le_zero.1 h1)
  simp only [Y3.l2,List.append_nil,if_neg (show ¬ (A.length:Int)<(A.length:Int) by omega)]
  simp [Zif,Zhq,Ky]
 | succ n ih=>
  intro R A k h1 hk hb
  obtain ⟨k,rfl⟩:∃ j,k=j+1:=⟨k-1,by omega⟩
  have hb':=hb
  unfold Z5 at hb'
  by_cases c:R.length=0
  ·obtain rfl:=List.eq_nil_of_length_eq_zero c
   simp only [Y3.l2,List.append_nil,if_neg (show ¬ (A.length:Int)<(A.length:Int) by omega)]
   simp [Zif,Zhq,Ky]
  ·have hl:(A++R).length=A.length+R.length:=by simp
   simp only [Y3.l2,hl,if_pos (show (A.length:Int)<((A.length+R.length:Nat):Int) by omega)]
   obtain ⟨S,R',q1,q2,q3,q4⟩:=Ztw h (Y3.l2 k t) A R [] K0 (ltK (by unfold Z5;omega)) (fun x hx=>(by cases hx)) (by simpa using hb)
   simp only [List.nil_append] at q1 q4
   have e1:(A.length:Int)+(([]:List Int).length:Int)=(A.length:Int):=by simp
   rw [e1] at q4
   rw [q4]
   subst q1
   cases R' with
   | nil=>
    obtain ⟨k,rfl⟩:∃ j,k=j+1:=⟨k-1,by omega⟩
    have hl2:(A++(Ky key S++[])).length=A.length+S.length:=by simp [Zag]
    simp only [Y3.l2,hl2,if_neg (show ¬ (A.length:Int)+S.length+1<((A.length+S.length:Nat):Int) by omega)]
    have:=Zjh key S [] [] q2
    simp only [List.append_nil,List.nil_append] at this
    simp only [Zif,List.append_nil,this,Zhq]
   | cons x B=>
    have hx:=q3 x B rfl
    have:=ih B (A++(Ky key S++[x])) k (by simp at h1;omega) (by omega) (by simp [Zag] at hb ⊢;omega)
    have e2:((A++(Ky key S++[x])).length:Int)=(A.length:Int)+S.length+1:=by simp [Zag];omega
    rw [e2] at this
    have e3:A++(Ky key S++x::B)=A++(Ky key S++[x])++B:=by simp
    rw [e3,this]
    have h2:=Zjh key S [] (x::B) q2
    simp only [List.nil_append] at h2
    simp only [Zif,h2,Zhq,if_pos hx]
    simp
theorem Zty (h:Cls t key) (l:List Int) (hb:l.length≤Z5):Y3.f t l=some (Zif key l):=by
 have hcl:Xk.f l=some l:=by
  rw [Xk.f,if_pos (by unfold Z5 at hb;unfold most;simp;omega)];rfl
 unfold Y3.f
 rw [hcl,Option.bind_some]
 have:=Zv2 h l.length l [] K0 (Nat.le_refl _) (by unfold Z5 at hb;unfold K0;omega) (by simpa using hb)
 simpa using this
end
end Go.Proofs.YthoicbafdanmkaaGreatDoor
/- Plain laws, second part: rows that rise, in the program and in the reference. Own work of this repo. -/
namespace Go.Proofs.YthoicbafdanmkaaGreatDoor
open Go.RowKit

def U5 (lo hi:Int):Bool:=(decide (lo≤4370)&&decide (4352≤hi))||(decide (lo≤4469)&&decide (4449≤hi))||(decide (lo≤4546)&&decide (4520≤hi))||(decide (lo≤55203)&&decide (44032≤hi))
def Zi8 (p:Int):Bool:=(decide (4352≤p)&&decide (p≤4370))||(decide (4449≤p)&&decide (p≤4469))||(decide (4520≤p)&&decide (p≤4546))||(decide (44032≤p)&&decide (p≤55203))
def Zb7 (p:Int):Bool:=(decide (0≤p)&&decide (p<55296))||(decide (57343<p)&&decide (p≤1114111))
theorem Zh8 (lo hi:Int):Yv.f lo hi=some (U5 lo hi):=by
 unfold Yv.f U5
 simp only [Yv.j1]
 repeat' split
 all_goals (simp [*]<;>try omega)
theorem Zql (p:Int):Xc.f p=some (Zi8 p):=by
 unfold Xc.f Zi8
 simp only [Xc.j1]
 repeat' split
 all_goals (simp [*]<;>try omega)
theorem Zj0 (p:Int):Ku.f p=some (Zb7 p):=by
 unfold Ku.f Zb7
 simp only [Ku.j1]
 repeat' split
 all_goals (simp [*]<;>try omega)
theorem Zph (p:Int):Kq.f p=some (!Zb7 p):=by
 unfold Kq.f Zb7
 simp only [Kq.j1]
 by_cases a:p<0
 ·simp [a,show ¬ 0≤p by omega,show ¬ 57343<p by omega]
 ·by_cases b:1114111<p
  ·simp [a,b,show ¬ p<55296 by omega,show ¬ p≤1114111 by omega]
  ·by_cases c:55296≤p
   ·by_cases d:p≤57343
    ·simp [a,b,c,d,show ¬ p<55296 by omega,show ¬ 57343<p by omega]
    ·simp [a,b,c,d,show ¬ p<55296 by omega,show 57343<p by omega,show p≤1114111 by omega]
   ·simp [a,b,c,show 0≤p by omega,show p<55296 by omega]
theorem Zn9 (l:List Int) (hl:l.length≤Z5):∃ r,Yo.f l=some r∧H5 r (l.all Zb7):=by
 refine Xp (fun k i (_:Unit)=>Yo.l1 k l i) l (fun pre t _ o=>∃ r,o=some r∧H5 r (t.all Zb7)) ?_ ?_ () K0 (ltK hl)
 ·intro _ k
  exact ⟨-1,by simp only [Yo.l1,if_neg (show ¬ (l.length:Int)<(l.length:Int) by omega)],.inl ⟨rfl,rfl⟩⟩
 ·intro pre x t _ k e ih
  obtain ⟨h1,h2⟩:=mid e
  simp only [Yo.l1,if_pos h2.2,if_pos h2,h1,Zph,Option.bind_some,nxt hl e,List.all_cons]
  cases c:Zb7 x with
  | false=>exact ⟨pre.length,by simp,.inr ⟨by simp,by omega⟩⟩
  | true=>simpa using ih ()
def Ur (l:List Int) (a b:Int):Bool:=decide (a≤(l.length:Int))&&decide ((l.length:Int)≤b)&&l.all Zb7
theorem Zb8 (l:List Int) (a b:Int) (hb:b≤1000):Qz.f l a b=some (Ur l a b):=by
 unfold Qz.f Ur
 by_cases h1:a≤(l.length:Int)
 ·by_cases h2:(l.length:Int)≤b
  ·obtain ⟨r,h3,h4⟩:=Zn9 l (by unfold Z5;omega)
   simp only [if_pos h1,if_pos h2,Q6.f,h3,Option.bind_some,h4.val,Qz.j1,Bool.not_not]
   simp [h1,h2]
  ·simp [h1,h2,Qz.j1]
 ·simp [h1,Qz.j1]
theorem Zop (lo hi:Int) (l:List Spn) (hl:l.length≤Z5):∃ r,Z9.f l lo hi=some r∧H5 r (!l.any fun h=>decide (lo≤h.hi)&&decide (h.lo≤hi)):=by
 refine Xp (fun k i (_:Unit)=>Z9.l1 k lo hi l i) l (fun pre t _ o=>∃ r,o=some r∧H5 r (!t.any fun h=>decide (lo≤h.hi)&&decide (h.lo≤hi))) ?_ ?_ () K0 (ltK hl)
 ·intro _ k
  exact ⟨-1,by simp only [Z9.l1,if_neg (show ¬ (l.length:Int)<(l.length:Int) by omega)],.inl ⟨rfl,rfl⟩⟩
 ·intro pre x t _ k e ih
  obtain ⟨h1,h2⟩:=mid e
  simp only [Z9.l1,if_pos h2.2,if_pos h2,h1,Kg.f,Kg.j1,nxt hl e,List.any_cons]
  by_cases c1:lo≤x.hi
  ·by_cases c2:x.lo≤hi
   ·exact ⟨pre.length,by simp [c1,c2],.inr ⟨by simp [c1,c2],by omega⟩⟩
   ·simpa [c1,c2] using ih ()
  ·simpa [c1] using ih ()
theorem Zps (s:Spn):Zad.f s=some (U5 s.lo s.hi):=by
 unfold Zad.f Zbf.f
 simp only [Option.bind_some,X3.f]
 obtain ⟨r,h1,h2⟩:=Zop s.lo s.hi [⟨4352,4370⟩,⟨4449,4469⟩,⟨4520,4546⟩,⟨44032,55203⟩] (by decide)
 rw [h1]
 simp only [Option.bind_some,h2.val,Bool.not_not]
 congr 1
 exact (show ∀ a b c d:Bool,(a||(b||(c||(d||false))))=(a||b||c||d) by decide) _ _ _ _
theorem Zlx (s:Spn):Hx.f s=some true:=rfl
theorem Zhs (s:Spn):Ue.f s=some (!U5 s.lo s.hi):=by
 unfold Ue.f
 rw [Zps,Option.bind_some]
theorem Zst (x:Chs):Zaa.f x=some (Ur x.is_ 1 18):=by
 unfold Zaa.f
 rw [Zb8 x.is_ 1 18 (by decide),Option.bind_some]
theorem Zpx (x:Val) (a b:Int):Q2.f x a b=some (decide (a≤x.n)&&decide (x.n≤b)):=by
 unfold Q2.f
 simp only [Q2.j1,Vk.f,Zlx,Option.bind_some]
 by_cases h1:a≤x.n
 ·by_cases h2:x.n≤b<;>simp [h1,h2]
 ·simp [h1]
theorem Zqr (x:Val) (a b:Int):Q1.f x a b=some (decide (a≤x.n)&&decide (x.n≤b)&&!U5 x.lo x.hi):=by
 unfold Q1.f
 simp only [Q1.j1,Vk.f,Zhs,Option.bind_some]
 by_cases h1:a≤x.n
 ·by_cases h2:x.n≤b<;>simp [h1,h2]
 ·simp [h1]
def Zaq (x:Chs):Bool:=decide (x.lo=x.hi)&&Ur [x.lo] 1 1&&Ur x.is_ 1 2&&!U5 x.lo x.hi
theorem Zs8 (x:Chs):Qe.f x=some (Zaq x):=by
 unfold Qe.f Zaq
 simp only [Qe.j1,Ks.f,Zhs,Option.bind_some,Zb8 [x.lo] 1 1 (by decide),Zb8 x.is_ 1 2 (by decide)]
 by_cases h1:x.lo=x.hi
 ·rw [if_pos h1,decide_eq_true h1]
  cases h2:Ur [x.lo] 1 1<;>cases h3:Ur x.is_ 1 2<;>simp
 ·rw [if_neg h1,decide_eq_false h1];simp
def Hm {α:Type} (lo hi:α→Int) (may:α→Bool) (l:List α):Bool:=decide (l.length≤65536)&&K9 lo hi may (-1) l
theorem Zgl (a b:Int) (l:List Val):∃ r,Zr.f l a b=some r∧H5 r (Hm (·.lo) (·.hi) (fun x:Val=>decide (a≤x.n)&&decide (x.n≤b)) l):=by
 unfold Zr.f Hm
 by_cases h:(65536:Int)<l.length
 ·exact ⟨65536,by rw [if_pos h],.inr ⟨by simp [show ¬ l.length≤65536 by omega],by decide⟩⟩
 ·rw [if_neg h]
  have hl:l.length≤Z5:=by unfold Z5;omega
  simp only [show l.length≤65536 by omega,decide_true,Bool.true_and]
  refine Xp (fun k i last=>Zr.l1 k a b l last i) l (fun pre t last o=>∃ r,o=some r∧H5 r (K9 (·.lo) (·.hi) (fun x:Val=>decide (a≤x.n)&&decide (x.n≤b)) last t)) ?_ ?_ (-1) K0 (ltK hl)
  ·intro last k
   exact ⟨-1,by simp only [Zr.l1,if_neg (show ¬ (l.length:Int)<(l.length:Int) by omega)],.inl ⟨rfl,rfl⟩⟩
  ·intro pre x t last k e ih
   obtain ⟨h1,h2⟩:=mid e
   simp only [Zr.l1,if_pos h2.2,if_pos h2,h1,Vk.f,Option.bind_some,Zpx,Zr.j1,nxt hl e]
   by_cases c1:x.lo≤last
   ·exact ⟨pre.length,by simp [c1],.inr ⟨Qd (.inl c1),by omega⟩⟩
   ·by_cases c2:x.hi<x.lo
    ·exact ⟨pre.length,by simp [c1,c2],.inr ⟨Qd (.inr (.inl c2)),by omega⟩⟩
    ·by_cases c3:1114111<x.hi
     ·exact ⟨pre.length,by simp [c1,c2,c3],.inr ⟨Qd (.inr (.inr (.inl c3))),by omega⟩⟩
     ·rw [if_neg c1,if_neg c2,if_neg c3]
      cases c4:(decide (a≤x.n)&&decide (x.n≤b)) with
      | false=>exact ⟨pre.length,by simp,.inr ⟨Qd (.inr (.inr (.inr c4))),by omega⟩⟩
      | true=>
       rw [Zab c1 c2 c3 c4]
       simpa using ih x.hi
theorem Zqm (a b:Int) (l:List Val):∃ r,Zs.f l a b=some r∧H5 r (Hm (·.lo) (·.hi) (fun x:Val=>decide (a≤x.n)&&decide (x.n≤b)&&!U5 x.lo x.hi) l):=by
 unfold Zs.f Hm
 by_cases h:(65536:Int)<l.length
 ·exact ⟨65536,by rw [if_pos h],.inr ⟨by simp [show ¬ l.length≤65536 by omega],by decide⟩⟩
 ·rw [if_neg h]
  have hl:l.length≤Z5:=by unfold Z5;omega
  simp only [show l.length≤65536 by omega,decide_true,Bool.true_and]
  refine Xp (fun k i last=>Zs.l1 k a b l last i) l (fun pre t last o=>∃ r,o=some r∧H5 r (K9 (·.lo) (·.hi) (fun x:Val=>decide (a≤x.n)&&decide (x.n≤b)&&!U5 x.lo x.hi) last t)) ?_ ?_ (-1) K0 (ltK hl)
  ·intro last k
   exact ⟨-1,by simp only [Zs.l1,if_neg (show ¬ (l.length:Int)<(l.length:Int) by omega)],.inl ⟨rfl,rfl⟩⟩
  ·intro pre x t last k e ih
   obtain ⟨h1,h2⟩:=mid e
   simp only [Zs.l1,if_pos h2.2,if_pos h2,h1,Vk.f,Option.bind_some,Zqr,Zs.j1,nxt hl e]
   by_cases c1:x.lo≤last
   ·exact ⟨pre.length,by simp [c1],.inr ⟨Qd (.inl c1),by omega⟩⟩
   ·by_cases c2:x.hi<x.lo
    ·exact ⟨pre.length,by simp [c1,c2],.inr ⟨Qd (.inr (.inl c2)),by omega⟩⟩
    ·by_cases c3:1114111<x.hi
     ·exact ⟨pre.length,by simp [c1,c2,c3],.inr ⟨Qd (.inr (.inr (.inl c3))),by omega⟩⟩
     ·rw [if_neg c1,if_neg c2,if_neg c3]
      cases c4:(decide (a≤x.n)&&decide (x.n≤b)&&!U5 x.lo x.hi) with
      | false=>exact ⟨pre.length,by simp,.inr ⟨Qd (.inr (.inr (.inr c4))),by omega⟩⟩
      | true=>
       rw [Zab c1 c2 c3 c4]
       simpa using ih x.hi
theorem Zon (l:List Chs):∃ r,Zt.f l=some r∧H5 r (Hm (·.lo) (·.hi) Zaq l):=by
 unfold Zt.f Hm
 by_cases h:(65536:Int)<l.length
 ·exact ⟨65536,by rw [if_pos h],.inr ⟨by simp [show ¬ l.length≤65536 by omega],by decide⟩⟩
 ·rw [if_neg h]
  have hl:l.length≤Z5:=by unfold Z5;omega
  simp only [show l.length≤65536 by omega,decide_true,Bool.true_and]
  refine Xp (fun k i last=>Zt.l1 k l last i) l (fun pre t last o=>∃ r,o=some r∧H5 r (K9 (·.lo) (·.hi) Zaq last t)) ?_ ?_ (-1) K0 (ltK hl)
  ·intro last k
   exact ⟨-1,by simp only [Zt.l1,if_neg (show ¬ (l.length:Int)<(l.length:Int) by omega)],.inl ⟨rfl,rfl⟩⟩
  ·intro pre x t last k e ih
   obtain ⟨h1,h2⟩:=mid e
   simp only [Zt.l1,if_pos h2.2,if_pos h2,h1,Ks.f,Option.bind_some,Zs8,Zt.j1,nxt hl e]
   by_cases c1:x.lo≤last
   ·exact ⟨pre.length,by simp [c1],.inr ⟨Qd (.inl c1),by omega⟩⟩
   ·by_cases c2:x.hi<x.lo
    ·exact ⟨pre.length,by simp [c1,c2],.inr ⟨Qd (.inr (.inl c2)),by omega⟩⟩
    ·by_cases c3:1114111<x.hi
     ·exact ⟨pre.length,by simp [c1,c2,c3],.inr ⟨Qd (.inr (.inr (.inl c3))),by omega⟩⟩
     ·rw [if_neg c1,if_neg c2,if_neg c3]
      cases c4:Zaq x with
      | false=>exact ⟨pre.length,by simp,.inr ⟨Qd (.inr (.inr (.inr c4))),by omega⟩⟩
      | true=>
       rw [Zab c1 c2 c3 c4]
       simpa using ih x.hi
theorem Zsw (l:List Spn):∃ r,Zz.f l=some r∧H5 r (Hm (·.lo) (·.hi) (fun x:Spn=>!U5 x.lo x.hi) l):=by
 unfold Zz.f Hm
 by_cases h:(65536:Int)<l.length
 ·exact ⟨65536,by rw [if_pos h],.inr ⟨by simp [show ¬ l.length≤65536 by omega],by decide⟩⟩
 ·rw [if_neg h]
  have hl:l.length≤Z5:=by unfold Z5;omega
  simp only [show l.length≤65536 by omega,decide_true,Bool.true_and]
  refine Xp (fun k i last=>Zz.l1 k l last i) l (fun pre t last o=>∃ r,o=some r∧H5 r (K9 (·.lo) (·.hi) (fun x:Spn=>!U5 x.lo x.hi) last t)) ?_ ?_ (-1) K0 (ltK hl)
  ·intro last k
   exact ⟨-1,by simp only [Zz.l1,if_neg (show ¬ (l.length:Int)<(l.length:Int) by omega)],.inl ⟨rfl,rfl⟩⟩
  ·intro pre x t last k e ih
   obtain ⟨h1,h2⟩:=mid e
   simp only [Zz.l1,if_pos h2.2,if_pos h2,h1,Ht.f,Option.bind_some,Zhs,Zz.j1,nxt hl e]
   by_cases c1:x.lo≤last
   ·exact ⟨pre.length,by simp [c1],.inr ⟨Qd (.inl c1),by omega⟩⟩
   ·by_cases c2:x.hi<x.lo
    ·exact ⟨pre.length,by simp [c1,c2],.inr ⟨Qd (.inr (.inl c2)),by omega⟩⟩
    ·by_cases c3:1114111<x.hi
     ·exact ⟨pre.length,by simp [c1,c2,c3],.inr ⟨Qd (.inr (.inr (.inl c3))),by omega⟩⟩
     ·rw [if_neg c1,if_neg c2,if_neg c3]
      cases c4:(!U5 x.lo x.hi) with
      | false=>exact ⟨pre.length,by simp,.inr ⟨Qd (.inr (.inr (.inr c4))),by omega⟩⟩
      | true=>
       rw [Zab c1 c2 c3 c4]
       simpa using ih x.hi
theorem Zpn (l:List Spn):∃ r,Z0.f l=some r∧H5 r (Hm (·.lo) (·.hi) (fun _:Spn=>true) l):=by
 unfold Z0.f Hm
 by_cases h:(65536:Int)<l.length
 ·exact ⟨65536,by rw [if_pos h],.inr ⟨by simp [show ¬ l.length≤65536 by omega],by decide⟩⟩
 ·rw [if_neg h]
  have hl:l.length≤Z5:=by unfold Z5;omega
  simp only [show l.length≤65536 by omega,decide_true,Bool.true_and]
  refine Xp (fun k i last=>Z0.l1 k l last i) l (fun pre t last o=>∃ r,o=some r∧H5 r (K9 (·.lo) (·.hi) (fun _:Spn=>true) last t)) ?_ ?_ (-1) K0 (ltK hl)
  ·intro last k
   exact ⟨-1,by simp only [Z0.l1,if_neg (show ¬ (l.length:Int)<(l.length:Int) by omega)],.inl ⟨rfl,rfl⟩⟩
  ·intro pre x t last k e ih
   obtain ⟨h1,h2⟩:=mid e
   simp only [Z0.l1,if_pos h2.2,if_pos h2,h1,Ht.f,Option.bind_some,Zlx,Z0.j1,nxt hl e]
   by_cases c1:x.lo≤last
   ·exact ⟨pre.length,by simp [c1],.inr ⟨Qd (.inl c1),by omega⟩⟩
   ·by_cases c2:x.hi<x.lo
    ·exact ⟨pre.length,by simp [c1,c2],.inr ⟨Qd (.inr (.inl c2)),by omega⟩⟩
    ·by_cases c3:1114111<x.hi
     ·exact ⟨pre.length,by simp [c1,c2,c3],.inr ⟨Qd (.inr (.inr (.inl c3))),by omega⟩⟩
     ·rw [if_neg c1,if_neg c2,if_neg c3]
      rw [Zab c1 c2 c3 rfl]
      simpa using ih x.hi
theorem Zth (l:List Chs):∃ r,Zu.f l=some r∧H5 r (Hm (·.lo) (·.hi) (fun x:Chs=>Ur x.is_ 1 18) l):=by
 unfold Zu.f Hm
 by_cases h:(65536:Int)<l.length
 ·exact ⟨65536,by rw [if_pos h],.inr ⟨by simp [show ¬ l.length≤65536 by omega],by decide⟩⟩
 ·rw [if_neg h]
  have hl:l.length≤Z5:=by unfold Z5;omega
  simp only [show l.length≤65536 by omega,decide_true,Bool.true_and]
  refine Xp (fun k i last=>Zu.l1 k l last i) l (fun pre t last o=>∃ r,o=some r∧H5 r (K9 (·.lo) (·.hi) (fun x:Chs=>Ur x.is_ 1 18) last t)) ?_ ?_ (-1) K0 (ltK hl)
  ·intro last k
   exact ⟨-1,by simp only [Zu.l1,if_neg (show ¬ (l.length:Int)<(l.length:Int) by omega)],.inl ⟨rfl,rfl⟩⟩
  ·intro pre x t last k e ih
   obtain ⟨h1,h2⟩:=mid e
   simp only [Zu.l1,if_pos h2.2,if_pos h2,h1,Ks.f,Option.bind_some,Zst,Zu.j1,nxt hl e]
   by_cases c1:x.lo≤last
   ·exact ⟨pre.length,by simp [c1],.inr ⟨Qd (.inl c1),by omega⟩⟩
   ·by_cases c2:x.hi<x.lo
    ·exact ⟨pre.length,by simp [c1,c2],.inr ⟨Qd (.inr (.inl c2)),by omega⟩⟩
    ·by_cases c3:1114111<x.hi
     ·exact ⟨pre.length,by simp [c1,c2,c3],.inr ⟨Qd (.inr (.inr (.inl c3))),by omega⟩⟩
     ·rw [if_neg c1,if_neg c2,if_neg c3]
      cases c4:Ur x.is_ 1 18 with
      | false=>exact ⟨pre.length,by simp,.inr ⟨Qd (.inr (.inr (.inr c4))),by omega⟩⟩
      | true=>
       rw [Zab c1 c2 c3 c4]
       simpa using ih x.hi
end Go.Proofs.YthoicbafdanmkaaGreatDoor
/- Plain laws, third part: what the reference says of rows. Own work of this repo. -/
namespace Go.Proofs.YthoicbafdanmkaaGreatDoor
open Go.IntKind (i8 i16 i32 i64 u8 u16 u32 u64)
open Go.RowKit

theorem Zmo {a b:Nat} (h:a≤Z5) (hb:b≤1):a+b≤most:=by unfold Z5 at h;unfold most;omega
theorem Zcb {α β:Type} (L:Nat→Int→List β→Option (List β)) (xs:List α) (f:α→β) (hl:xs.length≤Z5)
  (hnil:∀ s k,L (k+1) (xs.length:Int) s=some s)
  (hcons:∀ pre x t s k,xs=pre++x::t→s.length+1≤most→L (k+1) (pre.length:Int) s=L k ((pre.length:Int)+1) (s++[f x])):L K0 0 []=some (xs.map f):=by
 have:=Xp (fun k i s=>L k i s) xs (fun pre t s o=>s.length=pre.length→o=some (s++t.map f)) (fun s k hs=>by simp [hnil]) (fun pre x t s k e ih hs=>by
  have hp:pre.length≤Z5:=by rw [e] at hl;simp at hl;omega
  show L (k+1) (pre.length:Int) s=_
  rw [hcons pre x t s k e (by rw [hs];exact Zmo hp (Nat.le_refl _)),ih (s++[f x]) (by simp [hs])]
  simp) [] K0 (ltK hl) rfl
 simpa using this
theorem Zc7 (l:List Val) (hl:l.length≤Z5):Qj.f l=some (l.map fun x=>(⟨x.lo,x.hi⟩:Spn)):=by
 refine Zcb (fun k i s=>Qj.l1 k l s i) l _ hl ?_ ?_
 ·intro s k
  simp only [Qj.l1,if_neg (show ¬ (l.length:Int)<(l.length:Int) by omega)]
 ·intro pre x t s k e hs
  obtain ⟨h1,h2⟩:=mid e
  simp only [Qj.l1,if_pos h2.2,if_pos h2,h1,nxt hl e]
  exact if_pos hs
theorem Zeq (l:List Chs) (hl:l.length≤Z5):Qq.f l=some (l.map fun x=>(⟨x.lo,x.hi⟩:Spn)):=by
 refine Zcb (fun k i s=>Qq.l1 k l s i) l _ hl ?_ ?_
 ·intro s k
  simp only [Qq.l1,if_neg (show ¬ (l.length:Int)<(l.length:Int) by omega)]
 ·intro pre x t s k e hs
  obtain ⟨h1,h2⟩:=mid e
  simp only [Qq.l1,if_pos h2.2,if_pos h2,h1,nxt hl e]
  exact if_pos hs
def Zbn (a b:Int) (apart:Bool) (x:Val):Bool:=decide (x.n<a)||decide (b<x.n)||(apart&&U5 x.lo x.hi)
theorem Zbm (l:List Val) (a b:Int) (apart:Bool) (hl:l.length≤Z5):Yk.f l a b apart=some (l.map (Zbn a b apart)):=by
 refine Zcb (fun k i s=>Yk.l1 k l a b apart s i) l _ hl ?_ ?_
 ·intro s k
  simp only [Yk.l1,if_neg (show ¬ (l.length:Int)<(l.length:Int) by omega)]
 ·intro pre x t s k e hs
  obtain ⟨h1,h2⟩:=mid e
  simp only [Yk.l1,if_pos h2.2,if_pos h2,h1,nxt hl e,Yk.j1,Zh8,Option.bind_some]
  have hone:∀ c:Bool,s.length+[c].length≤most:=fun c=>hs
  by_cases c1:x.n<a
  ·rw [if_pos c1,if_pos (hone _)];simp [Zbn,c1]
  ·rw [if_neg c1]
   by_cases c2:b<x.n
   ·rw [if_pos c2,if_pos (hone _)];simp [Zbn,c2]
   ·rw [if_neg c2]
    cases apart with
    | true=>rw [if_pos rfl,if_pos (hone _)];simp [Zbn,c1,c2]
    | false=>rw [if_neg (by decide),if_pos (hone _)];simp [Zbn,c1,c2]
def Ud (b:Int) (x:Chs):Bool:=!Ur x.is_ 1 b
theorem Zeb (x0:List Chs) (acc:List Bool) (i:Int) (go:List Bool→Int→Option (List Bool)) (l:List Int) (e:(rd x0 i).is_=l) (hl:l.length≤Z5) (b0:Bool) (hacc:acc.length+1≤most):
  Yc.l1 go K0 x0 acc i b0 0=go (acc++[b0||!l.all Zb7]) (i64.wrap (i+1)):=by
 refine Xp (fun k j b=>Yc.l1 go k x0 acc i b j) l (fun pre t b o=>o=go (acc++[b||!t.all Zb7]) (i64.wrap (i+1))) ?_ ?_ b0 K0 (ltK hl)
 ·intro b k
  simp only [Yc.l1,e,if_neg (show ¬ (l.length:Int)<(l.length:Int) by omega)]
  rw [if_pos (show acc.length+[b].length≤most from hacc)]
  simp
 ·intro pre x t b k e2 ih
  obtain ⟨h1,h2⟩:=mid e2
  simp only [Yc.l1,e,if_pos h2.2,if_pos h2,h1,Yc.j1,nxt hl e2,Zj0,Option.bind_some]
  cases b with
  | true=>rw [if_pos rfl];simpa using ih true
  | false=>
   rw [if_neg (by decide),ih (!Zb7 x)]
   cases h:Zb7 x<;>simp [h]
theorem Zeu (l:List Chs) (b:Int) (hl:l.length≤Z5) (hi:∀ x∈l,x.is_.length≤Z5):Yc.f l b=some (l.map (Ud b)):=by
 refine Zcb (fun k i s=>Yc.l2 k l b s i) l _ hl ?_ ?_
 ·intro s k
  simp only [Yc.l2,if_neg (show ¬ (l.length:Int)<(l.length:Int) by omega)]
 ·intro pre x t s k e hs
  obtain ⟨h1,h2⟩:=mid e
  have hx:=hi x (by rw [e];simp)
  simp only [Yc.l2,if_pos h2.2,if_pos h2,h1,Yc.j2]
  by_cases c1:(x.is_.length:Int)<1
  ·rw [if_pos c1,Zeb l s _ _ x.is_ (by rw [h1]) hx true hs,nxt hl e]
   simp [Ud,Ur,show ¬ (1:Int)≤(x.is_.length:Int) by omega]
  ·rw [if_neg c1,Zeb l s _ _ x.is_ (by rw [h1]) hx _ hs,nxt hl e]
   by_cases c2:b<(x.is_.length:Int)
   ·simp [Ud,Ur,c2,show ¬ (x.is_.length:Int)≤b by omega]
   ·simp [Ud,Ur,c2,show (1:Int)≤(x.is_.length:Int) by omega,show (x.is_.length:Int)≤b by omega]
def Zbl (w:Bool) (x:Chs):Bool:=w||decide (x.lo≠x.hi)||Zi8 x.lo||!Zb7 x.lo
theorem Zjp (l:List Chs) (hl:l.length≤Z5) (hi:∀ x∈l,x.is_.length≤Z5):Yr.f l=some (l.map fun x=>Zbl (Ud 2 x) x):=by
 unfold Yr.f
 rw [Zeu l 2 hl hi,Option.bind_some]
 have:=Xp (fun k i ws=>Yr.l1 k l ws i) l (fun pre t ws o=>ws=(pre.map fun x=>Zbl (Ud 2 x) x)++t.map (Ud 2)→o=some (l.map fun x=>Zbl (Ud 2 x) x)) (fun ws k hw=>by
  simp only [Yr.l1,if_neg (show ¬ (l.length:Int)<(l.length:Int) by omega)]
  simp [hw]) (fun pre x t ws k e ih hw=>by
  obtain ⟨h1,h2⟩:=mid e
  have hwl:ws.length=l.length:=by rw [hw,e];simp
  have hmid:=mid (xs:=ws) (pre:=pre.map fun x=>Zbl (Ud 2 x) x) (x:=Ud 2 x) (t:=t.map (Ud 2)) (by rw [hw];simp)
  simp only [List.length_map] at hmid
  have hset:∀ c:Bool,ws.set (pre.length:Int).toNat c=(pre.map fun x=>Zbl (Ud 2 x) x)++c::t.map (Ud 2):=fun c=>by
   rw [hw,Int.toNat_natCast,List.set_append_right _ _ (by simp)]
   simp
  have fin:∀ c:Bool,c=Zbl (Ud 2 x) x→Yr.l1 k l (ws.set (pre.length:Int).toNat c) ((pre.length:Int)+1)=some (l.map fun x=>Zbl (Ud 2 x) x):=fun c hc=>by
   rw [hset]
   exact ih _ (by rw [hc];simp)
  simp only [Yr.l1,if_pos h2.2,if_pos h2,if_pos hmid.2,h1,hmid.1,Yr.j1,nxt hl e,Zql,Zj0,Option.bind_some]
  by_cases c1:Ud 2 x=true
  ·rw [if_pos c1];exact fin true (by simp [Zbl,c1])
  ·rw [if_neg c1]
   by_cases c2:x.lo≠x.hi
   ·rw [if_pos c2];exact fin true (by simp [Zbl,c2])
   ·rw [if_neg c2]
    have c2':x.lo=x.hi:=Classical.not_not.1 c2
    by_cases c3:Zi8 x.lo=true
    ·rw [if_pos c3];exact fin true (by simp [Zbl,c3])
    ·rw [if_neg c3];exact fin _ (by simp at c1 c3;simp [Zbl,c1,c2',c3];rw [← c2'];simp [c3]))
  (l.map (Ud 2)) K0 (ltK hl) (by simp)
 exact this
def Zfl (pre:List Spn):Int:=(pre.getLast?.map (·.hi)).getD (-1)
theorem Zxa (xs pre t:List Spn) (x:Spn) (hl:xs.length≤Z5) (e:xs=pre++x::t) (hpre:∀ y∈pre,0≤y.hi):
  Uf.f xs (pre.length:Int)=some (decide (Zfl pre<x.lo)&&decide (x.lo≤x.hi)&&decide (x.hi≤1114111)):=by
 obtain ⟨h1,h2⟩:=mid e
 unfold Uf.f
 simp only [if_pos h2,h1,Uf.j1]
 rcases List.eq_nil_or_concat pre with hp | ⟨p,z,hp⟩
 ·subst hp
  simp only [Zfl,List.getLast?_nil,Option.map_none,Option.getD_none]
  by_cases c1:0≤x.lo
  ·by_cases c2:x.lo≤x.hi
   ·by_cases c3:x.hi≤1114111
    ·simp [c1,c2,c3,show (-1:Int)<x.lo by omega]
    ·simp [c1,c2,c3]
   ·simp [c1,c2]
  ·simp [c1,show ¬ (-1:Int)<x.lo by omega]
 ·subst hp
  have hz:0≤z.hi:=hpre z (by simp)
  obtain ⟨h3,h4⟩:=mid (xs:=xs) (pre:=p) (x:=z) (t:=x::t) (by rw [e];simp)
  have hlen:xs.length=p.length+1+(t.length+1):=by rw [e];simp;omega
  unfold Z5 at hl
  have hw:i64.wrap (((p++[z]).length:Int)-1)=(p.length:Int):=by
   have e1:((p++[z]).length:Int)-1=(p.length:Int):=by simp
   rw [e1];exact w64 (by omega) (by omega)
  have hend:Zfl (p++[z])=z.hi:=by simp [Zfl]
  rw [List.concat_eq_append] at*
  simp only [hw,hend,h3,if_pos h4]
  have hne:¬ (((p++[z]).length:Int)=0):=by simp;omega
  by_cases c1:0≤x.lo
  ·by_cases c2:x.lo≤x.hi
   ·by_cases c3:x.hi≤1114111
    ·rw [if_pos c1,if_pos c2,if_pos c3,if_neg hne];simp [c2,c3]
    ·simp [c1,c2,c3]
   ·simp [c1,c2]
  ·simp [c1,show ¬ z.hi<x.lo by omega]
theorem Zu3 (xs:List Spn) (ws:List Bool) (hw:ws.length=xs.length):∃ r,Ys.f xs ws=some r∧H5 r (Hm (fun p:Spn×Bool=>p.1.lo) (fun p=>p.1.hi) (fun p=>!p.2) (xs.zip ws)):=by
 unfold Ys.f Hm
 have hz:(xs.zip ws).length=xs.length:=by simp [hw]
 rw [hz]
 by_cases h:(65536:Int)<xs.length
 ·exact ⟨65536,by rw [if_pos h],.inr ⟨by simp [show ¬ xs.length≤65536 by omega],by decide⟩⟩
 ·rw [if_neg h]
  have hl:xs.length≤Z5:=by unfold Z5;omega
  simp only [show xs.length≤65536 by omega,decide_true,Bool.true_and]
  have:=Xp (fun k i (_:Unit)=>Ys.l1 k xs ws i) (xs.zip ws) (fun pre t _ o=>(∀ y∈pre.map Prod.fst,0≤y.hi)→∃ r,o=some r∧H5 r (K9 (fun p:Spn×Bool=>p.1.lo) (fun p=>p.1.hi) (fun p=>!p.2) (Zfl (pre.map Prod.fst)) t)) (fun _ k _=>
   ⟨-1,by simp only [hz,Ys.l1,if_neg (show ¬ (xs.length:Int)<(xs.length:Int) by omega)],.inl ⟨rfl,rfl⟩⟩) (fun pre x t _ k e ih hpre=>by
   obtain ⟨y,b⟩:=x
   have ex:xs=pre.map Prod.fst++y::t.map Prod.fst:=by
    have:=congrArg (List.map Prod.fst) e
    rw [List.map_fst_zip (by omega)] at this
    simpa using this
   have ew:ws=pre.map Prod.snd++b::t.map Prod.snd:=by
    have:=congrArg (List.map Prod.snd) e
    rw [List.map_snd_zip (by omega)] at this
    simpa using this
   obtain ⟨h1,h2⟩:=mid ex
   obtain ⟨h3,h4⟩:=mid ew
   have hr:=Zxa xs _ _ y hl ex hpre
   have hn:=nxt hl ex
   simp only [List.length_map] at h1 h2 h3 h4 hr hn
   simp only [Ys.l1,if_pos h2.2,hr,Option.bind_some,if_pos h4,h3,Ys.j1,hn]
   by_cases c1:Zfl (pre.map Prod.fst)<y.lo
   ·by_cases c2:y.lo≤y.hi
    ·by_cases c3:y.hi≤1114111
     ·simp only [c1,c2,c3,decide_true,Bool.and_self,Bool.not_true,Bool.false_eq_true,if_false]
      cases b with
      | true=>exact ⟨pre.length,by simp,.inr ⟨Qd (.inr (.inr (.inr rfl))),by omega⟩⟩
      | false=>
       rw [Zab (lo:=fun p:Spn×Bool=>p.1.lo) (hi:=fun p:Spn×Bool=>p.1.hi) (may:=fun p:Spn×Bool=>!p.2) (x:=(y,false)) (show ¬ y.lo≤_ by omega) (show ¬ y.hi<y.lo by omega) (show ¬ 1114111<y.hi by omega) rfl]
       have hend:Zfl ((pre++[(y,false)]).map Prod.fst)=y.hi:=by simp [Zfl]
       have hge:-1≤Zfl (pre.map Prod.fst):=by
        unfold Zfl
        cases hg:(pre.map Prod.fst).getLast? with
        | none=>simp
        | some z=>simp;have:=hpre z (List.mem_of_getLast? hg);omega
       have:=ih () (fun z hz=>by
        simp only [List.map_append,List.map_cons,List.map_nil,List.mem_append,List.mem_singleton] at hz
        rcases hz with hz | rfl
        ·exact hpre z hz
        ·omega)
       rw [hend] at this
       simpa using this
     ·exact ⟨pre.length,by simp [c3],.inr ⟨Qd (.inr (.inr (.inl (by show 1114111<y.hi;omega)))),by omega⟩⟩
    ·exact ⟨pre.length,by simp [c2],.inr ⟨Qd (.inr (.inl (by show y.hi<y.lo;omega))),by omega⟩⟩
   ·exact ⟨pre.length,by simp [c1],.inr ⟨Qd (.inl (by show y.lo≤_;omega)),by omega⟩⟩) () K0 (by rw [hz];exact ltK hl) (fun y hy=>by simp at hy)
  exact this
theorem Zkd {α β:Type} (f:β→α) (lo hi:α→Int) (may:α→Bool):∀ (last:Int) (l:List β),K9 lo hi may last (l.map f)=K9 (fun x=>lo (f x)) (fun x=>hi (f x)) (fun x=>may (f x)) last l
 | _,[]=>rfl
 | last,x::t=>by simp only [List.map_cons,K9,Zkd f lo hi may (hi (f x)) t]
theorem Zmy {α:Type} (l:List α) (sp:α→Spn) (wr:α→Bool):∃ r,Ys.f (l.map sp) (l.map wr)=some r∧H5 r (Hm (fun x=>(sp x).lo) (fun x=>(sp x).hi) (fun x=>!wr x) l):=by
 obtain ⟨r,h1,h2⟩:=Zu3 (l.map sp) (l.map wr) (by simp)
 refine ⟨r,h1,?_⟩
 have e:(l.map sp).zip (l.map wr)=l.map fun x=>(sp x,wr x):=by
  rw [List.zip_map']
 rw [e] at h2
 unfold Hm at h2 ⊢
 rw [Zkd] at h2
 simpa using h2
end Go.Proofs.YthoicbafdanmkaaGreatDoor
/- Plain laws, fourth part: the rows of Maps lie apart from those of Status. Own work of this repo. -/
namespace Go.Proofs.YthoicbafdanmkaaGreatDoor
open Go.RowKit

def Zbk (x:Chs) (y:Val):Bool:=decide (y.lo≤x.hi)&&decide (x.lo≤y.hi)
def Zhv (st:List Val) (x:Chs):Bool:=Ur x.is_ 1 18&&!st.any (Zbk x)
def Zl1 (x:Chs):List Val→Bool
 | []=>true
 | y::_=>decide (x.hi<y.lo)
theorem Zqg (st:List Val) (x:Chs) (hst:st.length≤Z5):∀ (rest done:List Val) (k:Nat),st=done++rest→rest.length<k→
  ∃ done' rest',st=done'++rest'∧(∃ p,done'=done++p∧∀ y∈p,y.hi<x.lo)∧(∀ y,rest'.head?=some y→¬ y.hi<x.lo)∧
   Yh.l1 k st x (done.length:Int)=some (Ur x.is_ 1 18&&Zl1 x rest',(done'.length:Int)):=by
 intro rest
 induction rest with
 | nil=>
  intro done k e hk
  obtain ⟨k,rfl⟩:∃ j,k=j+1:=⟨k-1,by simp at hk;omega⟩
  have hd:st.length=done.length:=by rw [e];simp
  refine ⟨done,[],e,⟨[],by simp,fun y hy=>by cases hy⟩,fun y hy=>by simp at hy,?_⟩
  rw [Yh.l1,if_neg (by rw [hd];omega)]
  simp only [Yh.j2,Yh.j1,Zb8 x.is_ 1 18 (by decide),Option.bind_some,Bool.false_eq_true,if_false]
  cases Ur x.is_ 1 18 with
  | false=>simp
  | true=>simp [hd,Zl1]
 | cons y rest ih=>
  intro done k e hk
  obtain ⟨k,rfl⟩:∃ j,k=j+1:=⟨k-1,by simp at hk;omega⟩
  obtain ⟨h1,h2⟩:=mid e
  by_cases c:y.hi<x.lo
  ·obtain ⟨done',rest',e1,⟨p,e2,e3⟩,e4,e5⟩:=ih (done++[y]) k (by rw [e];simp) (by simp at hk;omega)
   refine ⟨done',rest',e1,⟨y::p,by rw [e2];simp,fun z hz=>?_⟩,e4,?_⟩
   ·rcases List.mem_cons.1 hz with rfl | hz
    ·exact c
    ·exact e3 z hz
   ·rw [Yh.l1,if_pos h2.2,if_pos h2,h1]
    simp only [Yh.j2,c,decide_true,if_true,nxt hst e]
    simpa using e5
  ·refine ⟨done,y::rest,e,⟨[],by simp,fun z hz=>by cases hz⟩,fun z hz=>by simp at hz;subst hz;exact c,?_⟩
   rw [Yh.l1,if_pos h2.2,if_pos h2,h1]
   simp only [Yh.j2,Yh.j1,c,decide_false,Zb8 x.is_ 1 18 (by decide),Option.bind_some,Bool.false_eq_true,if_false]
   cases Ur x.is_ 1 18 with
   | false=>simp
   | true=>
    rw [if_pos rfl,if_neg (by omega),if_pos h2,h1]
    simp [Zl1]
theorem Zbq {α:Type} {lo hi:α→Int} {may:α→Bool}:∀ {l:List α} {last:Int},K9 lo hi may last l=true→∀ y∈l,last<lo y∧lo y≤hi y∧hi y≤1114111∧may y=true
 | [],_,_,y,hy=>by cases hy
 | x::t,last,h,y,hy=>by
  simp only [K9,Bool.and_eq_true,decide_eq_true_eq] at h
  obtain ⟨⟨⟨⟨h1,h2⟩,h3⟩,h4⟩,h5⟩:=h
  rcases List.mem_cons.1 hy with rfl | hy
  ·exact ⟨h1,h2,h3,h4⟩
  ·obtain ⟨a,b,c,d⟩:=Zbq h5 y hy
   exact ⟨by omega,b,c,d⟩
theorem Zje {α:Type} {lo hi:α→Int} {may:α→Bool}:∀ {a b:List α} {last:Int},K9 lo hi may last (a++b)=true→∃ last',K9 lo hi may last' b=true
 | [],b,last,h=>⟨last,h⟩
 | x::a,b,last,h=>by
  simp only [List.cons_append,K9,Bool.and_eq_true] at h
  exact Zje h.2
theorem Zqj {st done rest:List Val} {x:Chs} (hs:∃ may:Val→Bool,K9 (·.lo) (·.hi) may (-1) st=true) (e:st=done++rest) (hd:∀ y∈done,y.hi<x.lo) (hr:∀ y,rest.head?=some y→¬ y.hi<x.lo) (hx:x.lo≤x.hi):Zl1 x rest=!st.any (Zbk x):=by
 obtain ⟨may,hs⟩:=hs
 have hdone:done.any (Zbk x)=false:=by
  rw [List.any_eq_false]
  intro y hy
  have:=hd y hy
  simp [Zbk,show ¬ x.lo≤y.hi by omega]
 rw [e,List.any_append,hdone,Bool.false_or]
 rw [e] at hs
 obtain ⟨last,hs⟩:=Zje hs
 cases rest with
 | nil=>rfl
 | cons y t=>
  have hy:=hr y rfl
  simp only [K9,Bool.and_eq_true,decide_eq_true_eq] at hs
  by_cases c:x.hi<y.lo
  ·have ht:(y::t).any (Zbk x)=false:=by
    rw [List.any_eq_false]
    intro z hz
    rcases List.mem_cons.1 hz with rfl | hz
    ·simp [Zbk,show ¬ z.lo≤x.hi by omega]
    ·have:=(Zbq hs.2 z hz).1
     simp [Zbk,show ¬ z.lo≤x.hi by omega]
   simp [Zl1,c,ht]
  ·have:Zbk x y=true:=by simp [Zbk];omega
   simp [Zl1,c,this]
theorem Zs4 (b:Bk) (hs:∃ may:Val→Bool,K9 (·.lo) (·.hi) may (-1) b.status=true) (hst:b.status.length≤Z5):∃ r,Zav.f b=some r∧H5 r (Hm (·.lo) (·.hi) (Zhv b.status) b.maps):=by
 unfold Zav.f Zy.f Hm
 by_cases h:(65536:Int)<b.maps.length
 ·exact ⟨65536,by rw [if_pos h];rfl,.inr ⟨by simp [show ¬ b.maps.length≤65536 by omega],by decide⟩⟩
 ·rw [if_neg h]
  have hl:b.maps.length≤Z5:=by unfold Z5;omega
  simp only [show b.maps.length≤65536 by omega,decide_true,Bool.true_and]
  have:=Xp (fun k i (s:Int×Int)=>Zy.l1 k b.names b.status b.maps b.class_ b.decomp b.excl b.bidi b.join b.marks b.script b.like b.maps s.1 s.2 i) b.maps
   (fun pre t s o=>(∃ done rest,b.status=done++rest∧s.1=(done.length:Int)∧∀ y∈done,y.hi≤s.2)→∃ r,(o.bind fun r=>some r.1)=some r∧H5 r (K9 (·.lo) (·.hi) (Zhv b.status) s.2 t))
   (fun s k _=>⟨-1,by simp only [Zy.l1,if_neg (show ¬ (b.maps.length:Int)<(b.maps.length:Int) by omega)];rfl,.inl ⟨rfl,rfl⟩⟩)
   (fun pre x t s k e ih hinv=>by
    obtain ⟨h1,h2⟩:=mid e
    obtain ⟨done,rest,e1,e2,e3⟩:=hinv
    simp only [Zy.l1,if_pos h2.2,if_pos h2,h1,Ks.f,Option.bind_some,Zy.j1,nxt hl e]
    by_cases c1:x.lo≤s.2
    ·exact ⟨pre.length,by simp [c1],.inr ⟨Qd (.inl c1),by omega⟩⟩
    ·by_cases c2:x.hi<x.lo
     ·exact ⟨pre.length,by simp [c1,c2],.inr ⟨Qd (.inr (.inl c2)),by omega⟩⟩
     ·by_cases c3:1114111<x.hi
      ·exact ⟨pre.length,by simp [c1,c2,c3],.inr ⟨Qd (.inr (.inr (.inl c3))),by omega⟩⟩
      ·rw [if_neg c1,if_neg c2,if_neg c3]
       have hrl:rest.length<K0:=ltK (by rw [e1] at hst;simp at hst;omega)
       obtain ⟨done',rest',f1,⟨p,f2,f3⟩,f4,f5⟩:=Zqg b.status x hst rest done K0 e1 hrl
       have hd':∀ y∈done',y.hi<x.lo:=by
        intro y hy
        rw [f2] at hy
        rcases List.mem_append.1 hy with hy | hy
        ·have:=e3 y hy;omega
        ·exact f3 y hy
       have hfree:=Zqj hs f1 hd' f4 (by omega)
       have happ:Yh.f x s.1 b.names b.status b.maps b.class_ b.decomp b.excl b.bidi b.join b.marks b.script b.like=some (Zhv b.status x,(done'.length:Int)):=by
        unfold Yh.f
        rw [e2,f5,hfree];rfl
       rw [happ,Option.bind_some]
       cases c4:Zhv b.status x with
       | false=>exact ⟨pre.length,by simp,.inr ⟨Qd (.inr (.inr (.inr c4))),by omega⟩⟩
       | true=>
        rw [Zab c1 c2 c3 c4]
        have:=ih ((done'.length:Int),x.hi) ⟨done',rest',f1,rfl,fun y hy=>by have:=hd' y hy;show y.hi≤x.hi;omega⟩
        simpa using this) (0,-1) K0 (ltK hl) ⟨[],b.status,rfl,rfl,fun y hy=>by cases hy⟩
  exact this
theorem Zsq (x:Chs) (st:List Val) (hst:st.length≤Z5):Kc.f x st=some (st.any (Zbk x)):=by
 refine Xp (fun k i (_:Unit)=>Kc.l1 k x st i) st (fun pre t _ o=>o=some (t.any (Zbk x))) ?_ ?_ () K0 (ltK hst)
 ·intro _ k
  simp only [Kc.l1,if_neg (show ¬ (st.length:Int)<(st.length:Int) by omega)]
  rfl
 ·intro pre y t _ k e ih
  obtain ⟨h1,h2⟩:=mid e
  simp only [Kc.l1,if_pos h2.2,if_pos h2,h1,Kc.j1,nxt hst e,List.any_cons]
  have ih:=ih ()
  by_cases c1:y.lo≤x.hi
  ·by_cases c2:x.lo≤y.hi
   ·simp [c1,c2,Zbk]
   ·simpa [c1,c2,Zbk] using ih
  ·simpa [c1,Zbk] using ih
end Go.Proofs.YthoicbafdanmkaaGreatDoor
/- Plain laws, fifth part: how long what a code point decomposes to is; the whole of the decompositions. Own work of this repo. -/
namespace Go.Proofs.YthoicbafdanmkaaGreatDoor
open Go.RowKit

theorem Zde {κ ν:Type} [DecidableEq κ] (l:List (κ×ν)) (x y:κ) (v:ν):Vw (H1 l x v) y=if y=x then some v else Vw l y:=by
 induction l with
 | nil=>simp [H1,Vw]
 | cons p l ih=>
  simp only [H1]
  by_cases h:x=p.1
  ·rw [if_pos h]
   simp only [Vw,h]
   by_cases h2:y=p.1<;>simp [h2]
  ·rw [if_neg h]
   simp only [Vw,ih]
   by_cases h2:y=p.1
   ·have:¬ y=x:=fun e=>h (e▸h2)
    simp [h2,show ¬ p.1=x from fun e=>h e.symm]
   ·simp [h2]
theorem Zmh {α:Type} {p q:α→Bool}:∀ {l:List α},(∀ x∈l,p x=true→q x=true)→l.countP p≤l.countP q:=fun h=>List.countP_mono_left h
theorem Zp1 {α:Type} {p q:α→Bool}:∀ {l:List α} {a:α},a∈l→(∀ x∈l,p x=true→q x=true)→p a=false→q a=true→l.countP p<l.countP q
 | [],_,ha,_,_,_=>by cases ha
 | b::l,a,ha,h,h1,h2=>by
  have hl:=Zmh (l:=l) (fun x hx=>h x (List.mem_cons_of_mem _ hx))
  simp only [List.countP_cons]
  rcases List.mem_cons.1 ha with rfl | ha
  ·simp [h1,h2];omega
  ·have:=Zp1 ha (fun x hx=>h x (List.mem_cons_of_mem _ hx)) h1 h2
   have hb:=h b (List.mem_cons_self ..)
   cases hpb:p b with
   | false=>simp;omega
   | true=>rw [hpb] at hb;simp [hb rfl];omega

def paP:List Chs→Int→List Int
 | [],_=>[]
 | x::t,c=>if x.lo≤c∧c≤x.hi then x.is_ else paP t c
theorem Zlm (D:List Chs) (c:Int) (hl:D.length≤Z5):Ka.f D c=some (paP D c):=by
 refine Xp (fun k i (_:Unit)=>Ka.l1 k D c i) D (fun pre t _ o=>o=some (paP t c)) ?_ ?_ () K0 (ltK hl)
 ·intro _ k
  simp only [Ka.l1,if_neg (show ¬ (D.length:Int)<(D.length:Int) by omega)]
  rfl
 ·intro pre x t _ k e ih
  obtain ⟨h1,h2⟩:=mid e
  have ih:=ih ()
  simp only [Ka.l1,if_pos h2.2,if_pos h2,h1,Ka.j1,nxt hl e,paP]
  by_cases c1:x.lo≤c
  ·by_cases c2:c≤x.hi
   ·simp [c1,c2]
   ·simpa [c1,c2] using ih
  ·simpa [c1] using ih
def H6 (f:Int→Int):List Int→Int
 | []=>0
 | c::t=>f c+H6 f t
theorem Ze2 {f g:Int→Int}:∀ {l:List Int},(∀ c∈l,f c≤g c)→H6 f l≤H6 g l
 | [],_=>Int.le_refl _
 | c::t,h=>by
  have:=Ze2 (l:=t) (fun x hx=>h x (List.mem_cons_of_mem _ hx))
  have:=h c (List.mem_cons_self ..)
  simp only [H6];omega
theorem Zfv {f g:Int→Int}:∀ {l:List Int},(∀ c∈l,f c=g c)→H6 f l=H6 g l
 | [],_=>rfl
 | c::t,h=>by
  rw [H6,H6,h c (List.mem_cons_self ..),Zfv (l:=t) (fun x hx=>h x (List.mem_cons_of_mem _ hx))]
theorem Zce {f:Int→Int}:∀ {l:List Int},(∀ c∈l,1≤f c)→(l.length:Int)≤H6 f l
 | [],_=>by simp [H6]
 | c::t,h=>by
  have:=Zce (l:=t) (fun x hx=>h x (List.mem_cons_of_mem _ hx))
  have:=h c (List.mem_cons_self ..)
  simp only [H6,List.length_cons];omega
theorem Zip {f:Int→Int}:∀ {l:List Int},(∀ c∈l,1≤f c)→∀ c∈l,f c≤H6 f l
 | [],_,c,hc=>by cases hc
 | d::t,h,c,hc=>by
  have h1:=h d (List.mem_cons_self ..)
  have h2:=Zce (l:=t) (fun x hx=>h x (List.mem_cons_of_mem _ hx))
  simp only [H6]
  rcases List.mem_cons.1 hc with rfl | hc
  ·omega
  ·have:=Zip (l:=t) (fun x hx=>h x (List.mem_cons_of_mem _ hx)) c hc
   omega
theorem Zi0 (f:Int→Int):∀ (a b:List Int),H6 f (a++b)=H6 f a+H6 f b
 | [],b=>by simp [H6]
 | c::a,b=>by simp only [List.cons_append,H6,Zi0 f a b];omega
def cap (s:Int):Int:=if 18<s then 19 else s
def Lc (P:Int→List Int):Nat→Int→Int
 | 0,c=>if P c=[] then 1 else 19
 | n+1,c=>if P c=[] then 1 else cap (H6 (Lc P n) (P c))
theorem Za0 {P:Int→List Int} {c:Int} (h:P c=[]) (n:Nat):Lc P n c=1:=by cases n<;>simp [Lc,h]
theorem Zbd (P:Int→List Int):∀ (n:Nat) (c:Int),1≤Lc P n c∧Lc P n c≤19
 | 0,c=>by unfold Lc;split<;>omega
 | n+1,c=>by
  unfold Lc
  by_cases h:P c=[]
  ·rw [if_pos h];omega
  ·rw [if_neg h]
   have h1:=Zce (f:=Lc P n) (l:=P c) (fun x _=>(Zbd P n x).1)
   have h2:0<(P c).length:=List.length_pos_iff.2 h
   unfold cap;split<;>omega
theorem Zo7 {a b:Int} (h:a≤b):cap a≤cap b:=by unfold cap;split<;>split<;>omega
theorem Ziy (P:Int→List Int):∀ (n:Nat) (c:Int),Lc P (n+1) c≤Lc P n c
 | 0,c=>by
  by_cases h:P c=[]
  ·rw [Za0 h,Za0 h];omega
  ·have:=(Zbd P 1 c).2
   rw [show Lc P 0 c=19 by simp [Lc,h]];exact this
 | n+1,c=>by
  by_cases h:P c=[]
  ·rw [Za0 h,Za0 h];omega
  ·rw [Lc,if_neg h,Lc,if_neg h]
   exact Zo7 (Ze2 fun x _=>Ziy P n x)
theorem Zwl (P:Int→List Int) {n m:Nat} (h:n≤m) (c:Int):Lc P m c≤Lc P n c:=by
 induction h with
 | refl=>exact Int.le_refl _
 | step _ ih=>exact Int.le_trans (Ziy P _ c) ih
theorem Znx (P:Int→List Int):∀ (n:Nat) (c:Int),Lc P n c≤18→Lc P (n+1) c=Lc P n c
 | 0,c,h=>by
  by_cases e:P c=[]
  ·rw [Za0 e,Za0 e]
  ·simp [Lc,e] at h
 | n+1,c,h=>by
  by_cases e:P c=[]
  ·rw [Za0 e,Za0 e]
  ·rw [Lc,if_neg e] at h
   have hs:H6 (Lc P n) (P c)≤18:=by unfold cap at h;split at h<;>omega
   rw [Lc,if_neg e,Lc,if_neg e,Zfv (fun x hx=>Znx P n x ?_)]
   have:=Zip (f:=Lc P n) (l:=P c) (fun x _=>(Zbd P n x).1) x hx
   omega
theorem Zey (P:Int→List Int) {n m:Nat} (h:n≤m) {c:Int} (hc:Lc P n c≤18):Lc P m c=Lc P n c:=by
 induction h with
 | refl=>rfl
 | step _ ih=>rw [Znx P _ c (by rw [ih];exact hc),ih]
theorem Z0o (P:Int→List Int) {e:Nat} {c:Int} (h:Lc P e c≤18) (d:Nat):Lc P e c≤Lc P d c:=by
 rcases Nat.le_total e d with h1 | h1
 ·rw [Zey P h1 h];exact Int.le_refl _
 ·exact Zwl P h1 c

theorem Zv5 (b:Bk) (hD:b.decomp.length≤65536) (hP:∀ c,(paP b.decomp c).length≤2):∀ (n:Nat),n≤b.decomp.length+1→∀ (k:Nat) (c lvl:Int),lvl=(b.decomp.length:Int)+1-n→n<k→
  Xm.f k b c lvl=some (Lc (paP b.decomp) n c):=by
 intro n
 have hl:b.decomp.length≤Z5:=by unfold Z5;omega
 induction n with
 | zero=>
  intro _ k c lvl e hk
  obtain ⟨k,rfl⟩:∃ j,k=j+1:=⟨k-1,by omega⟩
  rw [Xm.f,Xm.b,Zau.f,Zlm _ _ hl,Option.bind_some,Option.bind_some]
  by_cases h:paP b.decomp c=[]
  ·rw [if_pos (by rw [h];rfl),Za0 h]
  ·rw [if_neg (by intro h2;exact h (List.length_eq_zero_iff.1 (by omega))),if_pos (by omega)]
   simp [Lc,h]
 | succ n ih=>
  intro hn k c lvl e hk
  obtain ⟨k,rfl⟩:∃ j,k=j+1:=⟨k-1,by omega⟩
  rw [Xm.f,Xm.b,Zau.f,Zlm _ _ hl,Option.bind_some,Option.bind_some]
  by_cases h:paP b.decomp c=[]
  ·rw [if_pos (by rw [h];rfl),Za0 h]
  ·rw [if_neg (by intro h2;exact h (List.length_eq_zero_iff.1 (by omega))),if_neg (by omega),Lc,if_neg h]
   have hpl:(paP b.decomp c).length≤Z5:=by have:=hP c;unfold Z5;omega
   have:=Xp (fun kk i s=>Xm.l1 kk (Xm.f k) b lvl (paP b.decomp c) s i) (paP b.decomp c)
    (fun pre t s o=>0≤s→s≤37→o=some (cap (s+H6 (Lc (paP b.decomp) n) t)))
    (fun s kk h0 h1=>by
     simp only [Xm.l1,if_neg (show ¬ ((paP b.decomp c).length:Int)<((paP b.decomp c).length:Int) by omega),H6,cap,Int.add_zero]
     split<;>rfl)
    (fun pre x t s kk e2 ih2 h0 h1=>by
     obtain ⟨h3,h4⟩:=mid e2
     simp only [Xm.l1,if_pos h4.2,if_pos h4,h3,Xm.j1,nxt hpl e2]
     have hx:=Zbd (paP b.decomp) n x
     by_cases c1:s≤18
     ·rw [if_pos c1,w64 (by omega) (by omega),ih (by omega) k x (lvl+1) (by omega) (by omega),Option.bind_some,w64 (by omega) (by omega)]
      rw [ih2 _ (by omega) (by omega),H6,Int.add_assoc]
     ·rw [if_neg c1,ih2 _ h0 h1]
      have h5:(0:Int)≤H6 (Lc (paP b.decomp) n) t:=by
       have:=Zce (f:=Lc (paP b.decomp) n) (l:=t) (fun y _=>(Zbd _ n y).1)
       omega
      have h6:18<s+H6 (Lc (paP b.decomp) n) (x::t):=by simp only [H6];omega
      rw [cap,cap,if_pos (by omega),if_pos h6]) 0 K0 (ltK hpl) (by omega) (by omega)
   rw [Int.zero_add] at this
   exact this

abbrev Mem:=List (Int×Int)
def Zz5 (D:List Chs) (m:Mem):Prop:=∀ c,(Vw m c=none→paP D c=[])∧(∀ j,Vw m c=some j→0≤j∧j<(D.length:Int)∧(rd D j).lo=c)
def un (N:Nat) (M:Mem):Nat:=(List.range N).countP (fun j:Nat=>(Vw M (j:Int)).isNone)
def pos (N:Nat) (M:Mem):Nat:=(List.range N).countP (fun j:Nat=>decide (0<(Vw M (j:Int)).getD 0))
def Mok (D:List Chs) (M:Mem):Prop:=∀ j n,Vw M j=some n→0≤j∧j<(D.length:Int)∧(n=0∨(0<n∧n≤18∧Lc (paP D) (pos D.length M) (rd D j).lo=n))
def Ext (M M':Mem):Prop:=(∀ j n,Vw M j=some n→Vw M' j=some n)∧(∀ j,Vw M' j=some 0→Vw M j=some 0)
def Zer (D:List Chs) (M:Mem) (d:Nat):Prop:=∀ j,Vw M j=some 0→18<Lc (paP D) d (rd D j).lo
theorem Ext.refl (M:Mem):Ext M M:=⟨fun _ _ h=>h,fun _ h=>h⟩
theorem Ext.trans {a b c:Mem} (h:Ext a b) (g:Ext b c):Ext a c:=⟨fun j n e=>g.1 j n (h.1 j n e),fun j e=>h.2 j (g.2 j e)⟩
theorem Ext.un {M M':Mem} (h:Ext M M') (N:Nat):un N M'≤un N M:=Zmh fun j _ hj=>by
 cases e:Vw M (j:Int) with
 | none=>rfl
 | some n=>rw [h.1 _ _ e] at hj;simp at hj
theorem Ext.pos {M M':Mem} (h:Ext M M') (N:Nat):pos N M≤pos N M':=Zmh fun j _ hj=>by
 cases e:Vw M (j:Int) with
 | none=>rw [e] at hj;simp at hj
 | some n=>rw [h.1 _ _ e];rw [e] at hj;exact hj
theorem Mok.grow {D:List Chs} {M M':Mem} (h:Mok D M) (hp:pos D.length M≤pos D.length M') {j n:Int} (e:Vw M j=some n):0≤j∧j<(D.length:Int)∧(n=0∨(0<n∧n≤18∧Lc (paP D) (pos D.length M') (rd D j).lo=n)):=by
 obtain ⟨a,b,c⟩:=h j n e
 refine ⟨a,b,?_⟩
 rcases c with c | ⟨c1,c2,c3⟩
 ·exact .inl c
 ·exact .inr ⟨c1,c2,by rw [Zey _ hp (by omega)];exact c3⟩
theorem Zf5 {α:Type} [Inhabited α] {D:List α} {i:Int} (h0:0≤i) (h1:i<(D.length:Int)):rd D i∈D:=List.mem_of_getElem? (Zmz h0 h1)
def Zzm (D:List Chs) (M:Mem) (i:Int) (o:Option (Int×Mem)):Prop:=∃ r M',o=some (r,M')∧
 ((r=0∧∀ d,Zer D M d→18<Lc (paP D) d (rd D i).lo)∨(0<r∧r≤18∧Mok D M'∧Lc (paP D) (pos D.length M') (rd D i).lo=r∧Ext M M'))
theorem Zvr {D:List Chs} {m:Mem} (hD:D.length≤65536) (hix:Zz5 D m) (hrow:∀ x∈D,paP D x.lo=x.is_) (hk:∀ x∈D,1≤x.is_.length∧x.is_.length≤2):
  ∀ (k:Nat) (M:Mem) (i:Int),Mok D M→0≤i→i<(D.length:Int)→un D.length M<k→Zzm D M i (Zv.f k i D m M):=by
 intro k
 induction k with
 | zero=>intro M i _ _ _ h;omega
 | succ k ih=>
  intro M i hM hi0 hi1 hun
  rw [Zv.f,Zv.b]
  cases e:Vw M i with
  | some n=>
   refine ⟨n,M,by simp,?_⟩
   obtain ⟨_,_,c⟩:=hM i n e
   rcases c with rfl | ⟨c1,c2,c3⟩
   ·exact .inl ⟨rfl,fun d hz=>hz i e⟩
   ·exact .inr ⟨c1,c2,hM,c3,Ext.refl M⟩
  | none=>
   rw [if_neg (by simp),if_pos ⟨hi0,hi1⟩]
   have hmem:=Zf5 hi0 hi1
   have hpa:=hrow _ hmem
   have hlen:=hk _ hmem
   have hpn:paP D (rd D i).lo≠[]:=by rw [hpa];intro h;rw [h] at hlen;simp at hlen
   have hi2:((i.toNat:Nat):Int)=i:=by omega
   have him:i.toNat∈List.range D.length:=by rw [List.mem_range];omega
   have g0:=Zde M i
   have hp0:pos D.length M≤pos D.length (H1 M i 0):=Zmh fun j _ hj=>by
    rw [g0]
    by_cases c:(j:Int)=i
    ·rw [c,e] at hj;simp at hj
    ·rw [if_neg c];exact hj
   have hM0:Mok D (H1 M i 0):=by
    intro j n ej
    rw [g0] at ej
    by_cases c:j=i
    ·rw [if_pos c] at ej
     have:(0:Int)=n:=by simpa using ej
     exact ⟨by omega,by omega,.inl this.symm⟩
    ·rw [if_neg c] at ej
     exact hM.grow hp0 ej
   have hu0:un D.length (H1 M i 0)<un D.length M:=Zp1 him (fun j _ hj=>by
     rw [g0] at hj
     by_cases c:(j:Int)=i
     ·rw [if_pos c] at hj;simp at hj
     ·rw [if_neg c] at hj;exact hj) (by simp [hi2,g0]) (by simp [hi2,e])
   have hz0:∀ M1 d,Ext (H1 M i 0) M1→Zer D M d→18<Lc (paP D) d (rd D i).lo→Zer D M1 d:=by
    intro M1 d hx hz h j ej
    have:=hx.2 j ej
    rw [g0] at this
    by_cases c:j=i
    ·rw [c];exact h
    ·rw [if_neg c] at this;exact hz j this
   have h19:Lc (paP D) 0 (rd D i).lo=19:=by simp [Lc,hpn]
   have hl:(rd D i).is_.length≤Z5:=by unfold Z5;omega
   refine Xp (fun kk x (s:Mem×Int)=>Zv.l1 kk (Zv.f k) D m i s.1 s.2 x) (rd D i).is_
    (fun pre t s o=>Mok D s.1→Ext (H1 M i 0) s.1→0≤s.2→s.2≤18*(pre.length:Int)→(∀ c∈pre,Lc (paP D) (pos D.length s.1) c≤18)→s.2=H6 (Lc (paP D) (pos D.length s.1)) pre→Zzm D M i o)
    ?_ ?_ (H1 M i 0,0) K0 (ltK hl) hM0 (Ext.refl _) (Int.le_refl _) (by simp) (fun c hc=>by cases hc) rfl
   ·intro ⟨M1,s⟩ kk hM1 hx h0 h1 h2 h3
    simp only at hM1 hx h0 h1 h2 h3
    simp only [Zv.l1,if_neg (show ¬ (((rd D i).is_).length:Int)<(((rd D i).is_).length:Int) by omega)]
    by_cases c:18<s
    ·rw [if_pos c]
     refine ⟨0,M1,rfl,.inl ⟨rfl,fun d _=>?_⟩⟩
     cases d with
     | zero=>rw [h19];omega
     | succ d=>
      rw [Lc,if_neg hpn,hpa]
      have:s≤H6 (Lc (paP D) d) (rd D i).is_:=by rw [h3];exact Ze2 fun x hx=>Z0o _ (h2 x hx) d
      unfold cap;rw [if_pos (by omega)];omega
    ·rw [if_neg c]
     have hs1:1≤s:=by
      have:=Zce (f:=Lc (paP D) (pos D.length M1)) (l:=(rd D i).is_) (fun y _=>(Zbd _ _ y).1)
      omega
     have e1:Vw M1 i=some 0:=hx.1 i 0 (by rw [g0,if_pos rfl])
     have g1:=Zde M1 i
     have hp1:pos D.length M1<pos D.length (H1 M1 i s):=Zp1 him (fun j _ hj=>by
       rw [g1]
       by_cases c:(j:Int)=i
       ·rw [c,e1] at hj;simp at hj
       ·rw [if_neg c];exact hj) (by simp [hi2,e1]) (by simp only [hi2,g1,if_true,Option.getD_some];simp;omega)
     have hL:Lc (paP D) (pos D.length M1+1) (rd D i).lo=s:=by
      rw [Lc,if_neg hpn,hpa,← h3];unfold cap;rw [if_neg c]
     have hL2:Lc (paP D) (pos D.length (H1 M1 i s)) (rd D i).lo=s:=by
      rw [Zey _ hp1 (by rw [hL];omega),hL]
     refine ⟨s,_,rfl,.inr ⟨by omega,by omega,?_,hL2,?_,?_⟩⟩
     ·intro j n ej
      rw [g1] at ej
      by_cases c:j=i
      ·rw [if_pos c] at ej
       have:s=n:=by simpa using ej
       subst this
       exact ⟨by omega,by omega,.inr ⟨by omega,by omega,by rw [c];exact hL2⟩⟩
      ·rw [if_neg c] at ej
       exact hM1.grow (Nat.le_of_lt hp1) ej
     ·intro j n ej
      have hne:j≠i:=fun h=>by rw [h,e] at ej;cases ej
      rw [g1,if_neg hne]
      exact hx.1 j n (by rw [g0,if_neg hne];exact ej)
     ·intro j ej
      rw [g1] at ej
      by_cases c:j=i
      ·rw [if_pos c] at ej
       have:s=0:=by simpa using ej
       omega
      ·rw [if_neg c] at ej
       have:=hx.2 j ej
       rw [g0,if_neg c] at this
       exact this
   ·intro pre c t ⟨M1,s⟩ kk e2 ih2 hM1 hx h0 h1 h2 h3
    simp only at hM1 hx h0 h1 h2 h3
    obtain ⟨h4,h5⟩:=mid e2
    have hpl:pre.length≤1:=by
     have:(rd D i).is_.length=pre.length+(t.length+1):=by rw [e2];simp
     omega
    simp only [Zv.l1,if_pos h5.2,if_pos h5,h4,Zv.j1,nxt hl e2]
    have hin:c∈(rd D i).is_:=by rw [e2];simp
    cases em:Vw m c with
    | none=>
     simp only [Option.isSome_none,Bool.false_eq_true,if_false]
     rw [if_neg (by decide),w64 (by omega) (by omega)]
     have hc:=Za0 ((hix c).1 em)
     refine ih2 (M1,s+1) hM1 hx (by show 0≤s+1;omega) (by show s+1≤_;simp;omega) ?_ ?_
     ·intro d hd
      rcases List.mem_append.1 hd with hd | hd
      ·exact h2 d hd
      ·rw [List.mem_singleton.1 hd,hc];omega
     ·show s+1=_
      rw [Zi0,← h3];simp [H6,hc]
    | some j=>
     obtain ⟨j0,j1,j2⟩:=(hix c).2 j em
     simp only [Option.isSome_some,if_true,Option.getD_some]
     obtain ⟨r,M2,er,hr⟩:=ih M1 j hM1 j0 j1 (by have:=hx.un D.length;omega)
     rw [er,Option.bind_some]
     rw [j2] at hr
     rcases hr with ⟨rfl,hr⟩ | ⟨r0,r1,hM2,r2,hx2⟩
     ·rw [if_pos rfl]
      refine ⟨0,M2,rfl,.inl ⟨rfl,fun d=>?_⟩⟩
      induction d with
      | zero=>intro _;rw [h19];omega
      | succ d ihd=>
       intro hz
       have hz':Zer D M d:=fun j ej=>Int.lt_of_lt_of_le (hz j ej) (Ziy _ d _)
       have h6:=hr d (hz0 M1 d hx hz' (ihd hz'))
       rw [Lc,if_neg hpn,hpa]
       have:=Zip (f:=Lc (paP D) d) (l:=(rd D i).is_) (fun y _=>(Zbd _ _ y).1) c hin
       unfold cap;rw [if_pos (by omega)];omega
     ·rw [if_neg (by omega),w64 (by omega) (by omega)]
      have hp:=hx2.pos D.length
      refine ih2 (M2,s+r) hM2 (hx.trans hx2) (by show 0≤s+r;omega) (by show s+r≤_;simp;omega) ?_ ?_
      ·intro d hd
       rcases List.mem_append.1 hd with hd | hd
       ·show Lc _ (pos D.length M2) d≤18
        rw [Zey _ hp (h2 d hd)];exact h2 d hd
       ·rw [List.mem_singleton.1 hd];show Lc _ (pos D.length M2) c≤18;omega
      ·show s+r=H6 (Lc (paP D) (pos D.length M2)) _
       rw [Zi0,Zfv (fun d hd=>Zey _ hp (h2 d hd)),← h3];simp [H6,r2]
end Go.Proofs.YthoicbafdanmkaaGreatDoor
/- Plain laws, sixth part: the whole of the decompositions, by the book and by the reference. Own work of this repo. -/
namespace Go.Proofs.YthoicbafdanmkaaGreatDoor
open Go.RowKit

def Zhy (x y:Chs):Bool:=decide ((x.is_.length:Int)=2)&&decide ((y.is_.length:Int)=2)&&decide (rd x.is_ 0=rd y.is_ 0)&&decide (rd x.is_ 1=rd y.is_ 1)
def Zcl (D:List Chs):List Chs→List Chs→Bool
 | _,[]=>true
 | pre,x::t=>decide (Lc (paP D) (D.length+1) x.lo≤18)&&!pre.any (Zhy x)&&Zcl D (pre++[x]) t
def Zkn (x:Chs):Vector Int 2:=#v[rd x.is_ 0,rd x.is_ 1]
theorem Zq2 (x y:Chs):Zkn x=Zkn y↔rd x.is_ 0=rd y.is_ 0∧rd x.is_ 1=rd y.is_ 1:=by
 unfold Zkn
 constructor
 ·intro h
  have h:=congrArg Vector.toList h
  simpa using h
 ·rintro ⟨h1,h2⟩
  rw [h1,h2]
structure Dok (D:List Chs):Prop where
 len:D.length≤65536
 one:∀ x∈D,x.lo=x.hi
 row:∀ x∈D,paP D x.lo=x.is_
 kid:∀ x∈D,1≤x.is_.length∧x.is_.length≤2
theorem Zrz:∀ (D:List Chs) (last:Int),K9 (·.lo) (·.hi) Zaq last D=true→∀ x∈D,paP D x.lo=x.is_
 | [],_,_,x,hx=>by cases hx
 | y::t,last,h,x,hx=>by
  simp only [K9,Bool.and_eq_true,decide_eq_true_eq] at h
  rcases List.mem_cons.1 hx with rfl | hx
  ·rw [paP,if_pos (by omega)]
  ·have:=(Zbq h.2 x hx).1
   rw [paP,if_neg (by omega)]
   exact Zrz t _ h.2 x hx
theorem Dok.mk' {D:List Chs} (h:Hm (·.lo) (·.hi) Zaq D=true):Dok D:=by
 simp only [Hm,Bool.and_eq_true,decide_eq_true_eq] at h
 have g:∀ x∈D,Zaq x=true:=fun x hx=>(Zbq h.2 x hx).2.2.2
 refine ⟨h.1,fun x hx=>?_,Zrz D _ h.2,fun x hx=>?_⟩
 ·have:=g x hx;simp only [Zaq,Bool.and_eq_true,decide_eq_true_eq] at this;exact this.1.1.1
 ·have:=g x hx;simp only [Zaq,Ur,Bool.and_eq_true,decide_eq_true_eq] at this
  have:=this.1.2.1;omega
theorem Dok.none {D:List Chs} {c:Int}:∀ {l:List Chs},(∀ x∈l,x.lo=x.hi)→(∀ x∈l,x.lo≠c)→paP l c=[]
 | [],_,_=>rfl
 | x::t,h1,h2=>by
  have a:=h1 x (List.mem_cons_self ..)
  have b:=h2 x (List.mem_cons_self ..)
  rw [paP,if_neg (by omega)]
  exact Dok.none (D:=D) (fun y hy=>h1 y (List.mem_cons_of_mem _ hy)) (fun y hy=>h2 y (List.mem_cons_of_mem _ hy))
theorem Zxk {D:List Chs} (h:Dok D) (c:Int):(paP D c).length≤2:=by
 have:∀ l:List Chs,(∀ x∈l,x.is_.length≤2)→(paP l c).length≤2:=by
  intro l
  induction l with
  | nil=>intro _;simp [paP]
  | cons x t ih=>
   intro h
   unfold paP
   split
   ·exact h x (List.mem_cons_self ..)
   ·exact ih fun y hy=>h y (List.mem_cons_of_mem _ hy)
 exact this D fun x hx=>(h.kid x hx).2
theorem Zy0 (N:Nat) (M:Mem):pos N M≤N:=by
 have:=List.countP_le_length (p:=fun j:Nat=>decide (0<(Vw M (j:Int)).getD 0)) (l:=List.range N)
 simpa [pos] using this
theorem Z0e (N:Nat) (M:Mem):un N M≤N:=by
 have:=List.countP_le_length (p:=fun j:Nat=>(Vw M (j:Int)).isNone) (l:=List.range N)
 simpa [un] using this
theorem Zok {D:List Chs} {m:Mem} (h:Dok D) (hix:Zz5 D m):∃ r,Xx.l1 K0 D m [] [] 0=some r∧H5 r (Zcl D [] D):=by
 have hl:D.length≤Z5:=by have:=h.len;unfold Z5;omega
 refine Xp (fun k i (s:List (Vector Int 2×Bool)×Mem)=>Xx.l1 k D m s.1 s.2 i) D
  (fun pre t s o=>Mok D s.2→(∀ j,Vw s.2 j≠some 0)→(∀ v,(Vw s.1 v).getD false=true↔∃ x∈pre,(x.is_.length:Int)=2∧Zkn x=v)→∃ r,o=some r∧H5 r (Zcl D pre t))
  ?_ ?_ ([],[]) K0 (ltK hl) (fun j n e=>by cases e) (fun j e=>by cases e) (fun v=>by simp [Vw])
 ·intro ⟨S,M⟩ k _ _ _
  exact ⟨-1,by simp only [Xx.l1,if_neg (show ¬ (D.length:Int)<(D.length:Int) by omega)],.inl ⟨rfl,rfl⟩⟩
 ·intro pre x t ⟨S,M⟩ k e ih hM hz hS
  simp only at hM hz hS
  obtain ⟨h1,h2⟩:=mid e
  have hx:x∈D:=by rw [e];simp
  obtain ⟨r,M',er,hr⟩:=Zvr h.len hix h.row h.kid K0 M (pre.length:Int) hM h2.1 h2.2 (Nat.lt_of_le_of_lt (Z0e _ _) (ltK hl))
  rw [h1] at hr
  simp only [Xx.l1,if_pos h2.2,if_pos h2,er,Option.bind_some,h1,Xx.j1,nxt hl e,Zcl]
  rcases hr with ⟨rfl,hr⟩ | ⟨r0,r1,hM',r2,hE⟩
  ·have:=hr (D.length+1) fun j ej=>absurd ej (hz j)
   exact ⟨_,by rw [if_pos rfl],.inr ⟨by simp [show ¬ Lc (paP D) (D.length+1) x.lo≤18 by omega],by omega⟩⟩
  ·rw [if_neg (by omega)]
   have hL:Lc (paP D) (D.length+1) x.lo≤18:=by
    rw [Zey _ (Nat.le_succ_of_le (Zy0 D.length M')) (by omega)];omega
   have hz':∀ j,Vw M' j≠some 0:=fun j ej=>hz j (hE.2 j ej)
   simp only [hL,decide_true,Bool.true_and]
   by_cases c:(x.is_.length:Int)=2
   ·rw [if_pos c,if_pos ⟨Int.le_refl _,by omega⟩,if_pos ⟨by omega,by omega⟩]
    have hany:(pre.any (Zhy x))=(Vw S (Zkn x)).getD false:=by
     rw [Bool.eq_iff_iff,hS,List.any_eq_true]
     constructor
     ·rintro ⟨y,hy,ht⟩
      simp only [Zhy,Bool.and_eq_true,decide_eq_true_eq] at ht
      exact ⟨y,hy,ht.1.1.2,((Zq2 x y).2 ⟨ht.1.2,ht.2⟩).symm⟩
     ·rintro ⟨y,hy,hy2,ht⟩
      have:=(Zq2 x y).1 ht.symm
      exact ⟨y,hy,by simp [Zhy,c,hy2,this.1,this.2]⟩
    rw [hany]
    cases c2:(Vw S (Zkn x)).getD false with
    | true=>exact ⟨(pre.length:Int),by rw [show (#v[rd x.is_ 0,rd x.is_ 1]:Vector Int 2)=Zkn x from rfl,if_pos c2],.inr ⟨by simp,by omega⟩⟩
    | false=>
     rw [show (#v[rd x.is_ 0,rd x.is_ 1]:Vector Int 2)=Zkn x from rfl,if_neg (by simp [c2])]
     simp only [Bool.not_false,Bool.true_and]
     refine ih (H1 S (Zkn x) true,M') hM' hz' fun v=>?_
     show (Vw (H1 S (Zkn x) true) v).getD false=true↔_
     rw [Zde]
     by_cases c3:v=Zkn x
     ·rw [if_pos c3];simp only [Option.getD_some,true_iff];exact ⟨x,by simp,c,c3.symm⟩
     ·rw [if_neg c3,hS]
      constructor
      ·rintro ⟨y,hy,h3⟩;exact ⟨y,by simp [hy],h3⟩
      ·rintro ⟨y,hy,h3,h4⟩
       rcases List.mem_append.1 hy with hy | hy
       ·exact ⟨y,hy,h3,h4⟩
       ·rw [List.mem_singleton.1 hy] at h4;exact absurd h4.symm c3
   ·rw [if_neg c]
    have hany:pre.any (Zhy x)=false:=by
     rw [List.any_eq_false];intro y _;simp [Zhy,c]
    rw [hany]
    simp only [Bool.not_false,Bool.true_and]
    refine ih (S,M') hM' hz' fun v=>?_
    show (Vw S v).getD false=true↔_
    rw [hS]
    constructor
    ·rintro ⟨y,hy,h3⟩;exact ⟨y,by simp [hy],h3⟩
    ·rintro ⟨y,hy,h3,h4⟩
     rcases List.mem_append.1 hy with hy | hy
     ·exact ⟨y,hy,h3,h4⟩
     ·rw [List.mem_singleton.1 hy] at h3;exact absurd h3 c
theorem Zkv {D:List Chs} (h:Dok D):∃ r,Xx.f D=some r∧H5 r (Zcl D [] D):=by
 have hl:D.length≤Z5:=by have:=h.len;unfold Z5;omega
 unfold Xx.f
 refine Xp (fun k i (s:Mem)=>Xx.l2 k D s i) D
  (fun pre t s o=>(∀ c,Vw s c=none→∀ x∈pre,x.lo≠c)→(∀ c j,Vw s c=some j→0≤j∧j<(D.length:Int)∧(rd D j).lo=c)→∃ r,o=some r∧H5 r (Zcl D [] D))
  ?_ ?_ [] K0 (ltK hl) (fun c _ x hx=>by cases hx) (fun c j hj=>by cases hj)
 ·intro M k h1 h2
  simp only [Xx.l2,if_neg (show ¬ (D.length:Int)<(D.length:Int) by omega)]
  exact Zok h fun c=>⟨fun e=>Dok.none (D:=D) h.one (h1 c e),fun j e=>h2 c j e⟩
 ·intro pre x t M k e ih h1 h2
  obtain ⟨h3,h4⟩:=mid e
  simp only [Xx.l2,if_pos h4.2,if_pos h4,h3,nxt hl e]
  refine ih _ ?_ ?_
  ·intro c hc y hy
   rw [Zde] at hc
   by_cases c1:c=x.lo
   ·rw [if_pos c1] at hc;cases hc
   ·rw [if_neg c1] at hc
    rcases List.mem_append.1 hy with hy | hy
    ·exact h1 c hc y hy
    ·rw [List.mem_singleton.1 hy];exact fun h=>c1 h.symm
  ·intro c j hj
   rw [Zde] at hj
   by_cases c1:c=x.lo
   ·rw [if_pos c1] at hj
    have:(pre.length:Int)=j:=by simpa using hj
    subst this
    exact ⟨h4.1,h4.2,by rw [h3,c1]⟩
   ·rw [if_neg c1] at hj;exact h2 c j hj
theorem Zng (b:Bk) (h:Dok b.decomp):∃ r,Y4.f b=some r∧H5 r (Zcl b.decomp [] b.decomp):=by
 have hl:b.decomp.length≤Z5:=by have:=h.len;unfold Z5;omega
 unfold Y4.f
 refine Xp (fun k i (_:Unit)=>Y4.l2 k b i) b.decomp
  (fun pre t _ o=>∃ r,o=some r∧H5 r (Zcl b.decomp pre t)) ?_ ?_ () K0 (ltK hl)
 ·intro _ k
  exact ⟨-1,by simp only [Y4.l2,if_neg (show ¬ (b.decomp.length:Int)<(b.decomp.length:Int) by omega)],.inl ⟨rfl,rfl⟩⟩
 ·intro pre x t _ k e ih
  obtain ⟨h1,h2⟩:=mid e
  have ih:=ih ()
  have hlong:=Zv5 b h.len (Zxk h) (b.decomp.length+1) (Nat.le_refl _) K0 x.lo 0 (by omega) (by have:=h.len;unfold K0;omega)
  simp only [Y4.l2,if_pos h2.2,if_pos h2,h1,hlong,Option.bind_some,Zcl]
  by_cases c:18<Lc (paP b.decomp) (b.decomp.length+1) x.lo
  ·exact ⟨_,by rw [if_pos c],.inr ⟨by simp [show ¬ Lc (paP b.decomp) (b.decomp.length+1) x.lo≤18 by omega],by omega⟩⟩
  ·rw [if_neg c,if_pos ⟨Int.le_refl _,h2.1,by omega⟩]
   simp only [show Lc (paP b.decomp) (b.decomp.length+1) x.lo≤18 by omega,decide_true,Bool.true_and]
   have hs:sub b.decomp 0 (pre.length:Int)=pre:=Ziv e
   have hpl:pre.length≤Z5:=by rw [e] at hl;simp at hl;omega
   have:=Xp (fun kk i (_:Unit)=>Y4.l1 (Y4.l2 k b) kk b (pre.length:Int) i) pre
    (fun done rest _ o=>o=if rest.any (Zhy x) then some (pre.length:Int) else Y4.l2 k b ((pre.length:Int)+1))
    (fun _ kk=>by simp only [Y4.l1,hs,if_neg (show ¬ (pre.length:Int)<(pre.length:Int) by omega),nxt hl e];rfl)
    (fun done y rest _ kk e2 ih2=>by
     obtain ⟨h3,h4⟩:=mid e2
     have ih2:=ih2 ()
     simp only [Y4.l1,hs,if_pos h4.2,if_pos h4,h1,h3,Y4.j1,nxt hpl e2,List.any_cons]
     by_cases c1:(x.is_.length:Int)=2
     ·by_cases c2:(y.is_.length:Int)=2
      ·rw [if_pos c1,if_pos c2,if_pos ⟨Int.le_refl _,by omega⟩,if_pos ⟨Int.le_refl _,by omega⟩]
       by_cases c3:rd x.is_ 0=rd y.is_ 0
       ·rw [if_pos c3,if_pos ⟨by omega,by omega⟩,if_pos ⟨by omega,by omega⟩]
        by_cases c4:rd x.is_ 1=rd y.is_ 1
        ·simp [c4,Zhy,c1,c2,c3]
        ·simpa [c4,Zhy] using ih2
       ·simpa [c3,Zhy] using ih2
      ·rw [if_pos c1,if_neg c2];simpa [Zhy,c2] using ih2
     ·rw [if_neg c1];simpa [Zhy,c1] using ih2) () K0 (ltK hpl)
   rw [this]
   cases c5:pre.any (Zhy x) with
   | true=>exact ⟨(pre.length:Int),by simp,.inr ⟨by simp,by omega⟩⟩
   | false=>simpa using ih
end Go.Proofs.YthoicbafdanmkaaGreatDoor
/- Plain laws, seventh part: what is a sound book; the book's own check and the reference's. Own work of this repo. -/
namespace Go.Proofs.YthoicbafdanmkaaGreatDoor
open Go.IntKind (i8 i16 i32 i64 u8 u16 u32 u64)
open Go.RowKit

structure Few (b:Bk):Prop where
 names:b.names.length≤Z5
 status:b.status.length≤Z5
 maps:b.maps.length≤Z5
 class_:b.class_.length≤Z5
 decomp:b.decomp.length≤Z5
 excl:b.excl.length≤Z5
 bidi:b.bidi.length≤Z5
 join:b.join.length≤Z5
 marks:b.marks.length≤Z5
 script:b.script.length≤Z5
 like:b.like.length≤Z5
 mapsI:∀ x∈b.maps,x.is_.length≤Z5
 decompI:∀ x∈b.decomp,x.is_.length≤Z5
 likeI:∀ x∈b.like,x.is_.length≤Z5
def Zsh (a b:Int) (l:List Val):Bool:=Hm (·.lo) (·.hi) (fun x:Val=>decide (a≤x.n)&&decide (x.n≤b)) l
def Zxc (a b:Int) (l:List Val):Bool:=Hm (·.lo) (·.hi) (fun x:Val=>decide (a≤x.n)&&decide (x.n≤b)&&!U5 x.lo x.hi) l
def Zz1 (x:Val):Bool:=decide (1≤x.n)&&decide (x.n≤3)
def okB (b:Bk):Bool:=
 Zjz b.names&&(Zsh 1 3 b.status&&(Hm (·.lo) (·.hi) (Zhv b.status) b.maps&&(Zxc 1 254 b.class_&&(Hm (·.lo) (·.hi) Zaq b.decomp&&
 (Hm (·.lo) (·.hi) (fun x:Spn=>!U5 x.lo x.hi) b.excl&&(Zsh 0 22 b.bidi&&(Zsh 0 5 b.join&&(Hm (·.lo) (·.hi) (fun _:Spn=>true) b.marks&&
 (Zsh 1 (b.names.length:Int) b.script&&(Hm (·.lo) (·.hi) (fun x:Chs=>Ur x.is_ 1 18) b.like&&Zcl b.decomp [] b.decomp))))))))))
theorem H5.cases' {r:Int} {w:Bool} (h:H5 r w):(w=false∧0≤r)∨(w=true∧¬ 0≤r):=by
 rcases h with ⟨rfl,rfl⟩ | ⟨rfl,h⟩
 ·exact .inr ⟨rfl,by decide⟩
 ·exact .inl ⟨rfl,h⟩
theorem Hs {w w':Bool} {p:Wh} {r:Int} {o o':Option (Wh×Int)} (hs:H5 r w) (h:w=true→∃ p,o'=some (p,if w' then 0 else 100)) (e:o=if 0≤r then some (p,100) else o'):
  ∃ p,o=some (p,if w&&w' then 0 else 100):=by
 rcases hs.cases' with ⟨rfl,hr⟩ | ⟨rfl,hr⟩
 ·exact ⟨p,by rw [e,if_pos hr];rfl⟩
 ·obtain ⟨q,hq⟩:=h rfl
  exact ⟨q,by rw [e,if_neg hr,hq];rfl⟩
theorem Zfh (b:Bk):∃ p,Vb.f b=some (p,if okB b then 0 else 100):=by
 unfold Vb.f okB
 obtain ⟨r1,e1,s1⟩:=Zu9 b.names
 rw [He.f,e1]
 refine Hs s1 (fun h1=>?_) rfl
 obtain ⟨r2,e2,s2⟩:=Zgl 1 3 b.status
 rw [Hb.f,show Xu.f b.status 1 3=some r2 from by first | exact e2 | (simp only [Xu.f,J9.f,e2];rfl)]
 refine Hs s2 (fun h2=>?_) rfl
 have hst:b.status.length≤Z5∧K9 (·.lo) (·.hi) Zz1 (-1) b.status=true:=by
  simp only [Zsh,Hm,Bool.and_eq_true,decide_eq_true_eq] at h2
  exact ⟨by unfold Z5;omega,h2.2⟩
 obtain ⟨r3,e3,s3⟩:=Zs4 b ⟨_,hst.2⟩ hst.1
 rw [Hc.f,show Zav.f (⟨b.names,b.status,b.maps,b.class_,b.decomp,b.excl,b.bidi,b.join,b.marks,b.script,b.like⟩:Bk)=some r3 from by first | exact e3 | (simp only [Xu.f,J9.f,e3];rfl)]
 refine Hs s3 (fun _=>?_) rfl
 obtain ⟨r4,e4,s4⟩:=Zqm 1 254 b.class_
 rw [Hd.f,show J9.f b.class_ 1 254=some r4 from by first | exact e4 | (simp only [Xu.f,J9.f,e4];rfl)]
 refine Hs s4 (fun _=>?_) rfl
 obtain ⟨r5,e5,s5⟩:=Zon b.decomp
 rw [U9.f,e5]
 refine Hs s5 (fun h5=>?_) rfl
 obtain ⟨r6,e6,s6⟩:=Zsw b.excl
 rw [U8.f,e6]
 refine Hs s6 (fun _=>?_) rfl
 obtain ⟨r7,e7,s7⟩:=Zgl 0 22 b.bidi
 rw [Ux.f,show Hr.f=some _ from rfl,Option.bind_some,show (i64.wrap _:Int)=22 from by rw [w64 (by simp) (by simp)];rfl,show Xu.f b.bidi 0 22=some r7 from by first | exact e7 | (simp only [Xu.f,J9.f,e7];rfl)]
 refine Hs s7 (fun _=>?_) rfl
 obtain ⟨r8,e8,s8⟩:=Zgl 0 5 b.join
 rw [U0.f,show Zah.f=some _ from rfl,Option.bind_some,show (i64.wrap _:Int)=5 from by rw [w64 (by simp) (by simp)];rfl,show Xu.f b.join 0 5=some r8 from by first | exact e8 | (simp only [Xu.f,J9.f,e8];rfl)]
 refine Hs s8 (fun _=>?_) rfl
 obtain ⟨r9,e9,s9⟩:=Zpn b.marks
 rw [U1.f,e9]
 refine Hs s9 (fun _=>?_) rfl
 obtain ⟨r10,e10,s10⟩:=Zgl 1 (b.names.length:Int) b.script
 rw [Us.f,show Xu.f b.script 1 _=some r10 from by first | exact e10 | (simp only [Xu.f,J9.f,e10];rfl)]
 refine Hs s10 (fun _=>?_) rfl
 obtain ⟨r11,e11,s11⟩:=Zth b.like
 rw [Uw.f,e11]
 refine Hs s11 (fun _=>?_) rfl
 obtain ⟨r12,e12,s12⟩:=Zkv (Dok.mk' h5)
 rw [Uu.f,e12]
 obtain ⟨p,hp⟩:=Hs (w':=true) (o':=some ((⟨0,0⟩:Wh),0)) s12 (fun _=>⟨_,rfl⟩) rfl
 exact ⟨p,by rw [Bool.and_true] at hp;exact hp⟩
end Go.Proofs.YthoicbafdanmkaaGreatDoor
/- Plain laws, eighth part: the reference's check of a book says the same. Own work of this repo. -/
namespace Go.Proofs.YthoicbafdanmkaaGreatDoor
open Go.RowKit

theorem Zqi (p:Int):U5 p p=Zi8 p:=by
 unfold U5 Zi8
 rw [Bool.eq_iff_iff]
 simp only [Bool.or_eq_true,Bool.and_eq_true,decide_eq_true_eq]
 omega
theorem Znp (x:Chs):(!Zbl (Ud 2 x) x)=Zaq x:=by
 unfold Zbl Ud Zaq
 by_cases c:x.lo=x.hi
 ·rw [← c,Zqi]
  have:Ur [x.lo] 1 1=Zb7 x.lo:=by simp [Ur]
  rw [this]
  cases Ur x.is_ 1 2<;>cases Zi8 x.lo<;>cases Zb7 x.lo<;>simp
 ·simp [c]
theorem Ze0 (a b:Int) (x:Val):(!Zbn a b false x)=(decide (a≤x.n)&&decide (x.n≤b)):=by
 unfold Zbn
 rw [Bool.eq_iff_iff];simp
theorem Zti (a b:Int) (x:Val):(!Zbn a b true x)=(decide (a≤x.n)&&decide (x.n≤b)&&!U5 x.lo x.hi):=by
 unfold Zbn
 rw [Bool.eq_iff_iff];simp
theorem Zai {α:Type} (l:List α) (sp:α→Spn) (wr may:α→Bool) (h:∀ x,(!wr x)=may x):∃ r,Ys.f (l.map sp) (l.map wr)=some r∧H5 r (Hm (fun x=>(sp x).lo) (fun x=>(sp x).hi) may l):=by
 obtain ⟨r,h1,h2⟩:=Zmy l sp wr
 rw [show (fun x=>!wr x)=may from funext h] at h2
 exact ⟨r,h1,h2⟩
theorem Zw0 {α:Type} (l:List α):l.map (fun x=>x)=l:=by simp
theorem Zb0 {r:Int} {w:Bool} (h:H5 r w):decide (r<0)=w:=by
 rcases h with ⟨rfl,rfl⟩ | ⟨rfl,h⟩
 ·rfl
 ·simp;omega
theorem Zpl (b:Bk) (a1 a2 a3 a4 a5 a6 a7 a8 a9 a10 a11:Int) (h:a5<0→Dok b.decomp):
  ∃ p q,Zf.l1 K0 b a1 a2 a3 a4 a5 a6 a7 a8 a9 a10 a11 0=some (p,q,if [a1,a2,a3,a4,a5,a6,a7,a8,a9,a10,a11].all (fun x=>decide (x<0))&&Zcl b.decomp [] b.decomp then 0 else 100):=by
 have hl:[a1,a2,a3,a4,a5,a6,a7,a8,a9,a10,a11].length≤Z5:=by unfold Z5;simp
 refine Xp (fun k i (_:Unit)=>Zf.l1 k b a1 a2 a3 a4 a5 a6 a7 a8 a9 a10 a11 i) [a1,a2,a3,a4,a5,a6,a7,a8,a9,a10,a11]
  (fun pre t _ o=>(∀ x∈pre,x<0)→∃ p q,o=some (p,q,if t.all (fun x=>decide (x<0))&&Zcl b.decomp [] b.decomp then 0 else 100)) ?_ ?_ () K0 (ltK hl) (fun x hx=>by cases hx)
 ·intro _ k hx
  have h5:=h (hx a5 (by simp))
  obtain ⟨r,e,s⟩:=Zng b h5
  simp only [Zf.l1]
  rw [if_neg (show ¬ (([a1,a2,a3,a4,a5,a6,a7,a8,a9,a10,a11]:List Int).length:Int)<(([a1,a2,a3,a4,a5,a6,a7,a8,a9,a10,a11]:List Int).length:Int) by omega),e,Option.bind_some]
  rcases s.cases' with ⟨s1,s2⟩ | ⟨s1,s2⟩
  ·exact ⟨5,r,by rw [if_pos s2,s1];rfl⟩
  ·exact ⟨0,0,by rw [if_neg s2,s1];rfl⟩
 ·intro pre x t _ k e ih hx
  obtain ⟨h1,h2⟩:=mid e
  simp only [Zf.l1]
  rw [if_pos h2.2,if_pos h2,h1,nxt hl e,List.all_cons]
  by_cases c:0≤x
  ·exact ⟨_,_,by rw [if_pos c,show decide (x<0)=false by simp;omega];rfl⟩
  ·rw [if_neg c,show decide (x<0)=true by simp;omega,Bool.true_and]
   exact ih () fun y hy=>by
    rcases List.mem_append.1 hy with hy | hy
    ·exact hx y hy
    ·rw [List.mem_singleton.1 hy];omega
theorem Ztm {b:Bk} (hb:Few b) {ms:List Bool}:Zf.l2 K0 b ms [] 0=Zf.t20 b ms (b.excl.map fun x=>U5 x.lo x.hi):=by
 have:=Xp (fun k i s=>Zf.l2 k b ms s i) b.excl
  (fun pre t s o=>s=pre.map (fun x=>U5 x.lo x.hi)→o=Zf.t20 b ms (b.excl.map fun x=>U5 x.lo x.hi))
  (fun s k hs=>by
   simp only [Zf.l2,if_neg (show ¬ (b.excl.length:Int)<(b.excl.length:Int) by omega)]
   rw [if_pos ⟨by omega,by have:=hb.marks;unfold Z5 at this;unfold most;omega⟩,hs])
  (fun pre x t s k e ih hs=>by
   obtain ⟨h1,h2⟩:=mid e
   have hp:pre.length≤Z5:=by have:=hb.excl;rw [e] at this;simp at this;omega
   simp only [Zf.l2,if_pos h2.2,if_pos h2,h1,Zh8,Option.bind_some,nxt hb.excl e]
   rw [if_pos (by rw [hs,List.length_map];exact Zmo hp (Nat.le_refl _))]
   exact ih _ (by rw [hs];simp)) [] K0 (ltK hb.excl) rfl
 exact this
theorem Zgd (b:Bk) (hb:Few b):∃ p q,Zf.f b=some (p,q,if okB b then 0 else 100):=by
 have hw:=Zeu b.maps 18 hb.maps hb.mapsI
 rw [Zf.f,hw,Option.bind_some]
 -- the rows of Maps
 have hl3:=Xp (fun k i s=>Zf.l3 k b s i) b.maps
  (fun pre t s o=>s=(pre.map fun x=>!Zhv b.status x)++t.map (Ud 18)→o=Zf.l2 K0 b (b.maps.map fun x=>!Zhv b.status x) [] 0)
  (fun s k hs=>by
   simp only [Zf.l3,if_neg (show ¬ (b.maps.length:Int)<(b.maps.length:Int) by omega),hs,List.map_nil,List.append_nil])
  (fun pre x t s k e ih hs=>by
   obtain ⟨h1,h2⟩:=mid e
   have hlen:s.length=b.maps.length:=by rw [hs,e];simp
   have hr:rd s (pre.length:Int)=Ud 18 x:=by rw [hs];simp [rd]
   have hset:∀ w:Bool,w=!Zhv b.status x→s.set ((pre.length:Int).toNat) w=((pre++[x]).map fun x=>!Zhv b.status x)++t.map (Ud 18):=by
    intro w ew
    rw [hs,ew];simp
   simp only [Zf.l3,if_pos h2.2,if_pos h2,h1,hr,Zf.j1,nxt hb.maps e,Zsq x b.status hb.status,Option.bind_some]
   rw [if_pos ⟨h2.1,by omega⟩]
   by_cases c:Ud 18 x=true
   ·rw [if_pos c]
    refine ih _ (hset _ ?_)
    have:Ur x.is_ 1 18=false:=by unfold Ud at c;simpa using c
    simp [Zhv,this]
   ·rw [if_neg c]
    refine ih _ (hset _ ?_)
    have:Ur x.is_ 1 18=true:=by unfold Ud at c;simpa using c
    simp [Zhv,this]) (b.maps.map (Ud 18)) K0 (ltK hb.maps) (by simp)
 rw [hl3]
 rw [Ztm hb]
 obtain ⟨r1,e1,s1⟩:=Zmq b.names
 obtain ⟨r2,e2,s2⟩:=Zai b.status (fun x=>(⟨x.lo,x.hi⟩:Spn)) (Zbn 1 3 false) _ (Ze0 1 3)
 obtain ⟨r3,e3,s3⟩:=Zai b.maps (fun x=>(⟨x.lo,x.hi⟩:Spn)) (fun x=>!Zhv b.status x) (Zhv b.status) (fun x=>by simp)
 obtain ⟨r4,e4,s4⟩:=Zai b.class_ (fun x=>(⟨x.lo,x.hi⟩:Spn)) (Zbn 1 254 true) _ (Zti 1 254)
 obtain ⟨r5,e5,s5⟩:=Zai b.decomp (fun x=>(⟨x.lo,x.hi⟩:Spn)) (fun x=>Zbl (Ud 2 x) x) Zaq Znp
 obtain ⟨r6,e6,s6⟩:=Zai b.excl (fun x=>x) (fun x=>U5 x.lo x.hi) (fun x=>!U5 x.lo x.hi) (fun x=>rfl)
 obtain ⟨r7,e7,s7⟩:=Zai b.bidi (fun x=>(⟨x.lo,x.hi⟩:Spn)) (Zbn 0 22 false) _ (Ze0 0 22)
 obtain ⟨r8,e8,s8⟩:=Zai b.join (fun x=>(⟨x.lo,x.hi⟩:Spn)) (Zbn 0 5 false) _ (Ze0 0 5)
 obtain ⟨r9,e9,s9⟩:=Zai b.marks (fun x=>x) (fun _=>false) (fun _=>true) (fun x=>rfl)
 obtain ⟨r10,e10,s10⟩:=Zai b.script (fun x=>(⟨x.lo,x.hi⟩:Spn)) (Zbn 1 (b.names.length:Int) false) _ (Ze0 1 (b.names.length:Int))
 obtain ⟨r11,e11,s11⟩:=Zai b.like (fun x=>(⟨x.lo,x.hi⟩:Spn)) (Ud 18) (fun x=>Ur x.is_ 1 18) (fun x=>by simp [Ud])
 rw [Zw0] at e6 e9
 have e9':List.map (fun _:Spn=>false) b.marks=List.replicate (b.marks.length:Int).toNat false:=by rw [Int.toNat_natCast,List.map_const']
 rw [e9'] at e9
 rw [Zf.t20,e1,Option.bind_some,Zf.t19,Zc7 _ hb.status,Option.bind_some,Zf.t18,Zbm _ _ _ _ hb.status,Option.bind_some,Zf.t17,e2,Option.bind_some,
  Zf.t16,Zeq _ hb.maps,Option.bind_some,Zf.t15,e3,Option.bind_some,Zf.t14,Zc7 _ hb.class_,Option.bind_some,Zf.t13,Zbm _ _ _ _ hb.class_,Option.bind_some,
  Zf.t12,e4,Option.bind_some,Zf.t11,Zeq _ hb.decomp,Option.bind_some,Zf.t10,Zjp _ hb.decomp hb.decompI,Option.bind_some,Zf.t9,e5,Option.bind_some,
  Zf.t8,e6,Option.bind_some,Zf.t7,Zc7 _ hb.bidi,Option.bind_some,Zf.t6,Zbm _ _ _ _ hb.bidi,Option.bind_some,Zf.t5,e7,Option.bind_some,
  Zf.t4,Zc7 _ hb.join,Option.bind_some,Zf.t3,Zbm _ _ _ _ hb.join,Option.bind_some,Zf.t2,e8,Option.bind_some,Zf.t1,e9,Option.bind_some,
  Zc7 _ hb.script,Option.bind_some,Zbm _ _ _ _ hb.script,Option.bind_some,e10,Option.bind_some,Zeq _ hb.like,Option.bind_some,Zeu _ _ hb.like hb.likeI,Option.bind_some,e11,Option.bind_some]
 obtain ⟨p,q,e⟩:=Zpl b r1 r2 r3 r4 r5 r6 r7 r8 r9 r10 r11 (fun h=>Dok.mk' (by have:=Zb0 s5;simp [h] at this;exact this))
 refine ⟨p,q,?_⟩
 rw [e]
 simp only [List.all_cons,List.all_nil,Bool.and_true,Zb0 s1,Zb0 s2,Zb0 s3,Zb0 s4,Zb0 s5,Zb0 s6,Zb0 s7,Zb0 s8,Zb0 s9,Zb0 s10,Zb0 s11]
 unfold okB Zsh Zxc
 simp only [Bool.and_assoc]
end Go.Proofs.YthoicbafdanmkaaGreatDoor
/- Plain laws, ninth part: a block of a staged table is laid from its rows. Own work of this repo. -/
namespace Go.Proofs.YthoicbafdanmkaaGreatDoor
open Go.IntKind (i8 i16 i32 i64 u8 u16 u32 u64)
open Go.RowKit

theorem Zm8 {σ β:Type} (L:Nat→Int→σ→Option β) (hi:Int) (Spec:Int→σ→Option β→Prop)
  (hend:∀ s k,Spec hi s (L (k+1) hi s))
  (hstep:∀ i s k,i<hi→(∀ s',Spec (i+1) s' (L k (i+1) s'))→Spec i s (L (k+1) i s)):
  ∀ (n:Nat) i s k,hi=i+n→n<k→Spec i s (L k i s):=by
 intro n
 induction n with
 | zero=>
  intro i s k e hk
  obtain ⟨k,rfl⟩:∃ j,k=j+1:=⟨k-1,by omega⟩
  have:hi=i:=by omega
  subst this
  exact hend s k
 | succ n ih=>
  intro i s k e hk
  obtain ⟨k,rfl⟩:∃ j,k=j+1:=⟨k-1,by omega⟩
  exact hstep i s k (by omega) fun s'=>ih (i+1) s' k (by omega) (by omega)
def inB (p:Int) (x:Val):Bool:=decide (x.lo≤p)&&decide (p≤x.hi)
def Hn:List Val→Int→Int
 | [],_=>0
 | x::t,p=>if inB p x=true then x.n else Hn t p
theorem Zi1 {p:Int}:∀ {l:List Val},(∀ x∈l,inB p x=false)→Hn l p=0
 | [],_=>rfl
 | x::t,h=>by
  rw [Hn,if_neg (by rw [h x (List.mem_cons_self ..)];decide)]
  exact Zi1 fun y hy=>h y (List.mem_cons_of_mem _ hy)
theorem Zf3 {p:Int} {b:List Val}:∀ {a:List Val},(∀ x∈a,inB p x=false)→Hn (a++b) p=Hn b p
 | [],_=>rfl
 | x::t,h=>by
  rw [List.cons_append,Hn,if_neg (by rw [h x (List.mem_cons_self ..)];decide)]
  exact Zf3 fun y hy=>h y (List.mem_cons_of_mem _ hy)
theorem Zf1 {p:Int} {b:List Val}:∀ {a:List Val},(∀ x∈b,inB p x=false)→Hn (a++b) p=Hn a p
 | [],h=>Zi1 h
 | x::t,h=>by
  rw [List.cons_append,Hn,Hn,Zf1 (a:=t) h]
theorem Zkp {α:Type} {lo hi:α→Int} {may:α→Bool}:∀ {a:List α} {last:Int} {x:α} {t:List α},K9 lo hi may last (a++x::t)=true→
  (∀ y∈a,hi y<lo x)∧(∀ z∈t,hi x<lo z)∧last<lo x∧lo x≤hi x∧hi x≤1114111∧may x=true
 | [],last,x,t,h=>by
  simp only [List.nil_append,K9,Bool.and_eq_true,decide_eq_true_eq] at h
  obtain ⟨⟨⟨⟨h1,h2⟩,h3⟩,h4⟩,h5⟩:=h
  exact ⟨fun y hy=>(by cases hy),fun z hz=>(Zbq h5 z hz).1,h1,h2,h3,h4⟩
 | y::a,last,x,t,h=>by
  simp only [List.cons_append,K9,Bool.and_eq_true,decide_eq_true_eq] at h
  obtain ⟨⟨⟨⟨h1,h2⟩,h3⟩,h4⟩,h5⟩:=h
  have g:=Zkp h5
  obtain ⟨g1,g2,g3,g4,g5,g6⟩:=g
  refine ⟨fun z hz=>?_,g2,by omega,g4,g5,g6⟩
  rcases List.mem_cons.1 hz with rfl | hz
  ·exact g3
  ·exact g1 z hz
theorem Znt {α:Type} {xs pre t:List α} (e:xs=pre++t):sub xs (pre.length:Int) (xs.length:Int)=t:=by
 subst e
 rw [sub,Int.toNat_natCast,Int.toNat_natCast,List.take_length,List.drop_left]
theorem Zrq {m:Nat} (y:Vector Int m) {i j:Int} (z:Int) (hi0:0≤i) (hi1:i<(m:Int)) (hj0:0≤j) (hj1:j<(m:Int)):vg (Zcj y i z) j=if i=j then z else vg y j:=by
 have h1:i.toNat<m:=by omega
 have h2:j.toNat<m:=by omega
 simp only [vg,Zcj,Vector.toList,List.getD_eq_getElem?_getD,Array.getElem?_toList,Array.getElem?_setIfInBounds]
 by_cases c:i=j
 ·simp [c,h2]
 ·rw [if_neg c,if_neg (by omega)]
theorem Zxn {m:Nat} {j:Int}:vg (Vector.replicate m (0:Int)) j=0:=by
 simp only [vg,List.getD_eq_getElem?_getD]
 by_cases c:j.toNat<m
 ·simp [c]
 ·simp [c]
def Zcw (x:Val):Bool:=decide (0≤x.n)&&decide (x.n≤65535)
def Zaj (l:List Val):Prop:=l.length≤65536∧K9 (·.lo) (·.hi) Zcw (-1) l=true
abbrev Blk:=Vector Int 128
def Zb2:Blk:=Vector.replicate 128 0
def Zh4 (v:Blk) (l:List Val) (p:Int):Prop:=∀ j:Int,0≤j→j<128→vg v j=Hn l (p+j)
theorem Zj1 {l:List Val} (h:Zaj l):Y7.f l=some (0,0):=by
 have hl:l.length≤Z5:=by have:=h.1;unfold Z5;omega
 unfold Y7.f
 rw [if_neg (by have:=h.1;omega)]
 exact Xp (fun k i last=>Y7.l1 k l last i) l (fun pre t last o=>K9 (·.lo) (·.hi) Zcw last t=true→o=some (0,0))
  (fun s k _=>by simp only [Y7.l1,if_neg (show ¬ (l.length:Int)<(l.length:Int) by omega)])
  (fun pre x t s k e ih hs=>by
   obtain ⟨h1,h2⟩:=mid e
   simp only [K9,Zcw,Bool.and_eq_true,decide_eq_true_eq] at hs
   obtain ⟨⟨⟨⟨g1,g2⟩,g3⟩,g4,g5⟩,g6⟩:=hs
   simp only [Y7.l1,if_pos h2.2,if_pos h2,h1,Y7.j2,Y7.j1,nxt hl e]
   rw [if_neg (by omega),if_neg (by omega),if_neg (by simp;omega),if_neg (by omega),if_neg (by simp;omega)]
   exact ih x.hi g6) (-1) K0 (ltK hl) h.2
structure Z02 (l:List Val) (k p:Int) where
 done:List Val
 rest:List Val
 eq:l=done++rest
 len:k=(done.length:Int)
 old:∀ x∈done,x.hi<p
theorem Zxr (go:Blk→Bool→Int→Option (Bool×Int×Blk)) (l done rest:List Val) (p i:Int) (x:Val) (v:Blk) (hp:0≤p) (hp1:p≤1113984) (el:l=done++rest) (ei:rd rest i=x)
  (hx0:p≤x.hi) (hx1:x.lo≤p+127) (hx2:x.lo≤x.hi) (hx3:0≤x.lo) (hx4:x.hi≤1114111) (hn:0≤x.n∧x.n≤65535) (hi:i64.wrap (i+1)=i+1):
  ∃ v',Z7.l1 go K0 l p (done.length:Int) i v (max x.lo p)=go v' true (i+1)∧∀ j:Int,0≤j→j<128→vg v' j=if inB (p+j) x=true then x.n else vg v j:=by
 have hs:sub l (done.length:Int) (l.length:Int)=rest:=Znt el
 have hlast:i32.wrap ((i32.wrap (p+128))-1)=p+127:=by rw [w32 (x:=p+128) (by omega) (by omega),w32 (by omega) (by omega)];omega
 have hstart:max x.lo p≤min x.hi (p+127):=by omega
 have:=Zm8 (fun k q v=>Z7.l1 go k l p (done.length:Int) i v q) (min x.hi (p+127)+1)
  (fun q (w:Blk) o=>max x.lo p≤q→(∀ j:Int,0≤j→j<128→vg w j=if max x.lo p≤p+j∧p+j<q then x.n else vg v j)→
   ∃ v',o=go v' true (i+1)∧∀ j:Int,0≤j→j<128→vg v' j=if inB (p+j) x=true then x.n else vg v j)
  (fun w k _ hw=>by
   simp only [Z7.l1,hs,ei,hlast]
   rw [if_neg (by omega),hi]
   refine ⟨w,rfl,fun j h0 h1=>?_⟩
   rw [hw j h0 h1]
   simp only [inB,Bool.and_eq_true,decide_eq_true_eq]
   by_cases c:x.lo≤p+j∧p+j≤x.hi
   ·rw [if_pos c,if_pos (by omega)]
   ·rw [if_neg c,if_neg (by omega)])
  (fun q w k hq ih hq0 hw=>by
   simp only [Z7.l1,hs,ei,hlast]
   rw [if_pos (by omega),w32 (x:=q-p) (by omega) (by omega),if_pos ⟨by omega,by omega⟩,w16 hn.1 (by omega),w32 (x:=q+1) (by omega) (by omega)]
   refine ih _ (by omega) fun j h0 h1=>?_
   rw [Zrq w x.n (by omega) (by omega) h0 (by omega),hw j h0 h1]
   by_cases c:q-p=j
   ·rw [if_pos c,if_pos (by omega)]
   ·rw [if_neg c]
    by_cases c2:max x.lo p≤p+j∧p+j<q
    ·rw [if_pos c2,if_pos (by omega)]
    ·rw [if_neg c2,if_neg (by omega)])
  (min x.hi (p+127)+1-max x.lo p).toNat (max x.lo p) v K0 (by omega) (by unfold K0;omega) (Int.le_refl _)
  (fun j h0 h1=>by rw [if_neg (by omega)])
 exact this
end Go.Proofs.YthoicbafdanmkaaGreatDoor
/- Plain laws, tenth part: a whole block, all blocks, a table, and what it tells. Own work of this repo. -/
namespace Go.Proofs.YthoicbafdanmkaaGreatDoor
open Go.IntKind (i8 i16 i32 i64 u8 u16 u32 u64)
open Go.RowKit

def Zra (v0:Blk) (l:List Val) (p:Int) (o:Option (Bool×Int×Blk)):Prop:=
 ∃ any v' done' rest',o=some (any,(done'.length:Int),v')∧l=done'++rest'∧(∀ x∈done',x.hi<p)∧Zh4 v' l p∧(any=false→v'=v0)
theorem Zuq (l done rest:List Val) (p:Int) (hl:Zaj l) (hp:0≤p) (hp1:p≤1113984) (el:l=done++rest) (hd:∀ x∈done,x.hi<p) (hr:∀ x,rest.head?=some x→¬ x.hi<p):
  Zra Zb2 l p (Z7.l2 K0 l p (done.length:Int) Zb2 false 0):=by
 have hb:l.length≤Z5:=by have:=hl.1;unfold Z5;omega
 have hrl:rest.length≤Z5:=by rw [el] at hb;simp at hb;omega
 have hs:sub l (done.length:Int) (l.length:Int)=rest:=Znt el
 have hlast:i32.wrap ((i32.wrap (p+128))-1)=p+127:=by rw [w32 (x:=p+128) (by omega) (by omega),w32 (by omega) (by omega)];omega
 have hdn:∀ (b:List Val) (j:Int),0≤j→Hn (done++b) (p+j)=Hn b (p+j):=fun b j h0=>Zf3 fun x hx=>by
  have:=hd x hx
  simp [inB,show ¬ p+j≤x.hi by omega]
 refine Xp (fun k i (s:Blk×Bool)=>Z7.l2 k l p (done.length:Int) s.1 s.2 i) rest
  (fun pre t s o=>Zh4 s.1 pre p→(s.2=false→s.1=Zb2)→Zra Zb2 l p o) ?_ ?_ (Zb2,false) K0 (ltK hrl) (fun j _ _=>by rw [Hn];exact Zxn) (fun _=>rfl)
 ·intro ⟨v,any⟩ k hv ha
  simp only [Z7.l2,hs,Z7.j1]
  rw [if_neg (by omega)]
  exact ⟨any,v,done,rest,rfl,el,hd,fun j h0 h1=>by rw [el,hdn _ _ h0];exact hv j h0 h1,ha⟩
 ·intro pre x t ⟨v,any⟩ k e ih hv ha
  simp only at hv ha
  obtain ⟨h1,h2⟩:=mid e
  have e2:l=(done++pre)++x::t:=by rw [el,e];simp
  have hok:=hl.2
  rw [e2] at hok
  obtain ⟨g1,g2,g3,g4,g5,g6⟩:=Zkp hok
  simp only [Zcw,Bool.and_eq_true,decide_eq_true_eq] at g6
  simp only [Z7.l2,hs,h1,hlast,Z7.j1]
  rw [if_pos h2.2,if_pos h2]
  by_cases c:p+127<x.lo
  ·rw [if_pos c]
   refine ⟨any,v,done,rest,rfl,el,hd,fun j h0 h1=>?_,ha⟩
   rw [el,hdn _ _ h0,e,Zf1 (fun y hy=>?_)]
   ·exact hv j h0 h1
   ·rcases List.mem_cons.1 hy with rfl | hy
    ·simp [inB,show ¬ y.lo≤p+j by omega]
    ·have:=g2 y hy
     simp [inB,show ¬ y.lo≤p+j by omega]
  ·rw [if_neg c]
   have hx0:p≤x.hi:=by
    cases pre with
    | nil=>have:=hr x (by rw [e];rfl);omega
    | cons y pre=>
     have h3:=hr y (by rw [e];rfl)
     have h4:=g1 y (by simp)
     omega
   obtain ⟨v',f1,f2⟩:=Zxr (Z7.l2 k l p (done.length:Int)) l done rest p (pre.length:Int) x v hp hp1 el h1 hx0 (by omega) g4 (by omega) g5 g6 (nxt hrl e)
   rw [f1]
   refine ih (v',true) (fun j h0 h1=>?_) (fun h=>by cases h)
   show vg v' j=_
   rw [f2 j h0 h1]
   by_cases c2:inB (p+j) x=true
   ·have:∀ y∈pre,inB (p+j) y=false:=fun y hy=>by
     have:=g1 y (by simp [hy])
     simp only [inB,Bool.and_eq_true,decide_eq_true_eq] at c2
     simp [inB,show ¬ p+j≤y.hi by omega]
    rw [if_pos c2,Zf3 this,Hn,if_pos c2]
   ·rw [if_neg c2,Zf1 (fun y hy=>by rw [List.mem_singleton.1 hy];simpa using c2)]
    exact hv j h0 h1
theorem Zy5 (l:List Val) (p:Int) (hl:Zaj l) (hp:0≤p) (hp1:p≤1113984):∀ (rest done:List Val),l=done++rest→(∀ x∈done,x.hi<p)→Zra Zb2 l p (Z7.f l p (done.length:Int) Zb2):=by
 have hb:l.length≤Z5:=by have:=hl.1;unfold Z5;omega
 have key:∀ (rest done:List Val) (k:Nat),rest.length<k→l=done++rest→(∀ x∈done,x.hi<p)→Zra Zb2 l p (Z7.l3 k Zb2 l p (done.length:Int)):=by
  intro rest
  induction rest with
  | nil=>
   intro done k hk e hd
   obtain ⟨k,rfl⟩:∃ j,k=j+1:=⟨k-1,by simp at hk;omega⟩
   have hlen:l.length=done.length:=by rw [e];simp
   simp only [Z7.l3,Z7.j2]
   rw [if_neg (by omega),if_neg (by decide),if_pos ⟨by omega,by omega,by omega⟩]
   exact Zuq l done [] p hl hp hp1 e hd (fun x hx=>by cases hx)
  | cons x t ih=>
   intro done k hk e hd
   obtain ⟨k,rfl⟩:∃ j,k=j+1:=⟨k-1,by simp at hk;omega⟩
   obtain ⟨h1,h2⟩:=mid e
   simp only [Z7.l3,Z7.j2,h1]
   rw [if_pos h2.2,if_pos h2]
   by_cases c:x.hi<p
   ·rw [if_pos (by simpa using c),nxt hb e]
    have:=ih (done++[x]) k (by simp at hk;omega) (by rw [e];simp) (fun y hy=>by
     rcases List.mem_append.1 hy with hy | hy
     ·exact hd y hy
     ·rw [List.mem_singleton.1 hy];exact c)
    simpa using this
   ·rw [if_neg (by simpa using c),if_pos ⟨by omega,by omega,by omega⟩]
    exact Zuq l done (x::t) p hl hp hp1 e hd (fun y hy=>by simp at hy;subst hy;exact c)
 intro rest done e hd
 exact key rest done K0 (ltK (by rw [e] at hb;simp at hb;omega)) e hd
theorem Zw9 (l:List Val) (p:Int) (hl:Zaj l) (hp:0≤p) (hp1:p≤1113984) (rest done:List Val) (e:l=done++rest) (hd:∀ x∈done,x.hi<p):
  ∃ any v' done' rest',Y0.f p Zb2 none l (done.length:Int)=some (any,v',(done'.length:Int))∧l=done'++rest'∧(∀ x∈done',x.hi<p)∧Zh4 v' l p∧(any=false→v'=Zb2):=by
 obtain ⟨any,v',done',rest',f1,f2,f3,f4,f5⟩:=Zy5 l p hl hp hp1 rest done e hd
 refine ⟨any,v',done',rest',?_,f2,f3,f4,f5⟩
 rw [Y0.f,if_neg (by decide),Y0.j2,f1,Option.bind_some]
 cases any<;>rfl
theorem Zsk (v:Blk):∃ w,Xo.f v=some w:=by
 unfold Xo.f
 exact Zm8 (fun k i (_:Unit)=>Xo.l1 k v i) 128 (fun i _ o=>0≤i→∃ w,o=some w)
  (fun _ k _=>⟨true,by simp only [Xo.l1];rw [if_neg (by decide)]⟩)
  (fun i _ k hi ih h0=>by
   simp only [Xo.l1]
   rw [if_pos hi,if_pos ⟨h0,by omega⟩,if_pos ⟨by omega,by omega⟩]
   by_cases c:vg v i≠vg v 0
   ·exact ⟨false,by rw [if_pos c]⟩
   ·rw [if_neg c,w64 (by omega) (by omega)]
    exact ih () (by omega)) 128 0 () K0 (by omega) (by unfold K0;omega) (Int.le_refl _)
structure Zzz where
 flat:List Bool
 blks:List Blk
 seen:List (Blk×Int)
 which:Vector Int 8704
 past:Int
 plain:Int
structure Zy1 (l:List Val) (i:Int) (s:Zzz):Prop where
 few:(s.blks.length:Int)≤i
 flat:s.flat.length=s.blks.length
 seen:∀ v j,Vw s.seen v=some j→0≤j∧j<(s.blks.length:Int)∧rd s.blks j=v
 which:∀ b:Int,0≤b→b<i→0≤vg s.which b∧vg s.which b<(s.blks.length:Int)∧Zh4 (rd s.blks (vg s.which b)) l (128*b)
 plain:0≤s.plain→s.plain<(s.blks.length:Int)∧rd s.blks s.plain=Zb2
 past:∃ done rest,l=done++rest∧s.past=(done.length:Int)∧∀ x∈done,x.hi<128*i
def Zfg (l:List Val) (T:Tab):Prop:=∀ b:Int,0≤b→b<8704→0≤vg T.which b∧vg T.which b<(T.unlike.length:Int)∧Zh4 (rd T.unlike (vg T.which b)) l (128*b)
theorem Zv4 {α:Type} [Inhabited α] {a b:List α} {i:Int} (h0:0≤i) (h1:i<(a.length:Int)):rd (a++b) i=rd a i:=by
 unfold rd
 rw [List.getD_eq_getElem?_getD,List.getD_eq_getElem?_getD,List.getElem?_append_left (by omega)]
theorem Zwd {α:Type} [Inhabited α] {a:List α} {x:α}:rd (a++[x]) (a.length:Int)=x:=by simp [rd]
theorem Zjt {l:List Val} {i w:Int} {W:Vector Int 8704} {U U':List Blk} {v:Blk} (hi0:0≤i) (hi1:i<8704) (hw0:0≤w) (hw1:w<(U'.length:Int)) (hv:rd U' w=v) (hh:Zh4 v l (128*i))
  (hU:∀ j:Int,0≤j→j<(U.length:Int)→j<(U'.length:Int)∧rd U' j=rd U j)
  (h:∀ b:Int,0≤b→b<i→0≤vg W b∧vg W b<(U.length:Int)∧Zh4 (rd U (vg W b)) l (128*b)):
  ∀ b:Int,0≤b→b<i+1→0≤vg (Zcj W i w) b∧vg (Zcj W i w) b<(U'.length:Int)∧Zh4 (rd U' (vg (Zcj W i w) b)) l (128*b):=by
 intro b h0 h1
 rw [Zrq W w hi0 (by omega) h0 (by omega)]
 by_cases c:i=b
 ·rw [if_pos c]
  subst c
  exact ⟨hw0,hw1,by rw [hv];exact hh⟩
 ·rw [if_neg c]
  obtain ⟨a1,a2,a3⟩:=h b h0 (by omega)
  obtain ⟨b1,b2⟩:=hU _ a1 a2
  exact ⟨a1,b1,by rw [b2];exact a3⟩
theorem Zxx (l:List Val) (hl:Zaj l):∃ T r,Z6.f none l 0=some (some T,r)∧Zfg l T:=by
 refine Zm8 (fun k i (s:Zzz)=>Z6.l1 k none l s.flat s.blks Zb2 s.seen s.which s.past s.plain i) 8704
  (fun i s o=>0≤i→Zy1 l i s→∃ T r,o=some (some T,r)∧Zfg l T) ?_ ?_ 8704 0 ⟨[],[],[],Vector.replicate 8704 0,0,-1⟩ K0 (by omega) (by unfold K0;omega) (Int.le_refl _) ?_
 ·intro s k _ h
  refine ⟨⟨s.which,s.blks,s.flat⟩,s.past,?_,h.which⟩
  show Z6.l1 (k+1) none l s.flat s.blks Zb2 s.seen s.which s.past s.plain 8704=_
  rw [Z6.l1,if_neg (by decide)]
 ·intro i s k hi ih h0 h
  obtain ⟨done,rest,e1,e2,e3⟩:=h.past
  have hpi:i32.wrap (i64.wrap (i*128))=128*i:=by rw [w64 (by omega) (by omega),w32 (by omega) (by omega)];omega
  obtain ⟨any,v',done',rest',f1,f2,f3,f4,f5⟩:=Zw9 l (128*i) hl (by omega) (by omega) rest done e1 e3
  have hpast:∃ d r,l=d++r∧(done'.length:Int)=(d.length:Int)∧∀ x∈d,x.hi<128*(i+1):=⟨done',rest',f2,rfl,fun x hx=>by have:=f3 x hx;omega⟩
  have hfew:=h.few
  have hmost:∀ n:Nat,(n:Int)≤i→n+1≤most:=fun n hn=>by unfold most;omega
  have hbl:(Vector.replicate 128 0:Vector Int 128)=Zb2:=rfl
  show ∃ T r,Z6.l1 (k+1) none l s.flat s.blks Zb2 s.seen s.which s.past s.plain i=some (some T,r)∧Zfg l T
  rw [Z6.l1,if_pos hi,hpi,e2,f1,Option.bind_some]
  have fin:∀ (F:List Bool) (U:List Blk) (S:List (Blk×Int)) (w:Int),(U.length:Int)≤i+1→F.length=U.length→(∀ v j,Vw S v=some j→0≤j∧j<(U.length:Int)∧rd U j=v)→
    (∀ j:Int,0≤j→j<(s.blks.length:Int)→j<(U.length:Int)∧rd U j=rd s.blks j)→0≤w→w<(U.length:Int)→rd U w=v'→
    ∃ T r,Z6.j2 (Z6.l1 k none l) s.which s.plain i (any,v',(done'.length:Int)) F U S w=some (some T,r)∧Zfg l T:=by
   intro F U S w a1 a2 a3 a4 a5 a6 a7
   rw [Z6.j2,if_pos ⟨h0,by omega⟩]
   have hwhich:=Zjt h0 hi a5 a6 a7 f4 a4 h.which
   cases any with
   | true=>
    rw [if_pos rfl,Z6.j1,w64 (x:=i+1) (by omega) (by omega),hbl]
    exact ih ⟨F,U,S,Zcj s.which i w,(done'.length:Int),s.plain⟩ (by omega) ⟨a1,a2,a3,hwhich,fun hp=>by obtain ⟨c1,c2⟩:=h.plain hp;obtain ⟨d1,d2⟩:=a4 _ hp c1;exact ⟨d1,by rw [d2];exact c2⟩,hpast⟩
   | false=>
    have hv:=f5 rfl
    rw [if_neg (by simp),Z6.j1,w64 (x:=i+1) (by omega) (by omega),w64 (x:=w) (by omega) (by omega)]
    show ∃ T r,Z6.l1 k none l F U v' S (Zcj s.which i w) (done'.length:Int) w (i+1)=some (some T,r)∧Zfg l T
    rw [hv]
    exact ih ⟨F,U,S,Zcj s.which i w,(done'.length:Int),w⟩ (by omega) ⟨a1,a2,a3,hwhich,fun _=>⟨a6,by rw [a7,hv]⟩,hpast⟩
  have look:∃ T r,Z6.j3 (Z6.l1 k none l) s.flat s.blks s.seen s.which s.plain i (any,v',(done'.length:Int)) false=some (some T,r)∧Zfg l T:=by
   rw [Z6.j3,if_neg (by decide)]
   cases em:Vw s.seen v' with
   | none=>
    obtain ⟨w,hw⟩:=Zsk v'
    dsimp only
    rw [if_pos (by rfl),if_pos (show s.blks.length+[v'].length≤most from hmost _ hfew),hw,Option.bind_some,if_pos (show s.flat.length+[w].length≤most from hmost _ (by rw [h.flat];exact hfew)),w16 (by omega) (by omega)]
    refine fin _ _ _ _ (by simp;omega) (by simp [h.flat]) (fun v j ej=>?_) (fun j j0 j1=>⟨by simp;omega,Zv4 j0 j1⟩) (by omega) (by simp;omega) Zwd
    rw [Zde] at ej
    by_cases c:v=v'
    ·rw [if_pos c] at ej
     have:(s.blks.length:Int)=j:=by simpa using ej
     subst this
     exact ⟨by omega,by simp;omega,by rw [Zwd,c]⟩
    ·rw [if_neg c] at ej
     obtain ⟨c1,c2,c3⟩:=h.seen v j ej
     exact ⟨c1,by simp;omega,by rw [Zv4 c1 c2];exact c3⟩
   | some w=>
    obtain ⟨c1,c2,c3⟩:=h.seen v' w em
    rw [if_neg (by simp)]
    exact fin _ _ _ _ (by omega) h.flat h.seen (fun j j0 j1=>⟨j1,rfl⟩) c1 c2 c3
  cases any with
  | true=>rw [if_neg (by simp)];exact look
  | false=>
   rw [if_pos (by rfl)]
   by_cases c:0≤s.plain
   ·obtain ⟨c1,c2⟩:=h.plain c
    have hv:=f5 rfl
    rw [Z6.j3,if_pos (by simpa using c),if_pos ⟨h0,by omega⟩,Z6.j1,w64 (x:=i+1) (by omega) (by omega),w16 c (by omega)]
    show ∃ T r,Z6.l1 k none l s.flat s.blks v' s.seen (Zcj s.which i s.plain) (done'.length:Int) s.plain (i+1)=some (some T,r)∧Zfg l T
    rw [hv]
    rw [hv] at f4
    exact ih ⟨s.flat,s.blks,s.seen,Zcj s.which i s.plain,(done'.length:Int),s.plain⟩ (by omega) ⟨by show (s.blks.length:Int)≤i+1;omega,h.flat,h.seen,Zjt h0 hi c c1 c2 f4 (fun j j0 j1=>⟨j1,rfl⟩) h.which,h.plain,hpast⟩
   ·rw [show decide (0≤s.plain)=false by simpa using c];exact look
 ·exact ⟨by simp,rfl,fun v j e=>(by cases e),fun b h0 h1=>(by omega),fun h=>absurd h (by decide),[],l,rfl,rfl,fun x hx=>(by cases hx)⟩
theorem Zuz (l:List Val) (hl:Zaj l):∃ T,V7.f l=some (some T,0,0)∧Zfg l T:=by
 obtain ⟨T,r,h1,h2⟩:=Zxx l hl
 refine ⟨T,?_,h2⟩
 rw [V7.f,Ul.f,Zj1 hl,Option.bind_some,if_neg (by decide),h1]
 rfl
theorem Zh2 {l:List Val} (h:∀ x∈l,0≤x.n∧x.n≤65535) (p:Int):0≤Hn l p∧Hn l p≤65535:=by
 induction l with
 | nil=>simp [Hn]
 | cons x t ih=>
  unfold Hn
  split
  ·exact h x (List.mem_cons_self ..)
  ·exact ih fun y hy=>h y (List.mem_cons_of_mem _ hy)
theorem Zwv {l:List Val} (hl:Zaj l) {T:Tab} (hT:Zfg l T) (p:Int) (h0:0≤p) (h1:p≤1114111):Z1.f (some T) p=some (Hn l p):=by
 have hq:p.tdiv 128=p/128:=Int.tdiv_eq_ediv_of_nonneg h0
 have hm:p.tmod 128=p%128:=Int.tmod_eq_emod_of_nonneg h0
 obtain ⟨a1,a2,a3⟩:=hT (p/128) (by omega) (by omega)
 have hv:=a3 (p%128) (by omega) (by omega)
 rw [show 128*(p/128)+p%128=p by omega] at hv
 have hr:=Zh2 (l:=l) (fun x hx=>by
  have:=(Zbq hl.2 x hx).2.2.2
  simpa [Zcw] using this) p
 simp only [Z1.f,Z1.j1,hq,hm]
 rw [if_neg (by simp),if_neg (by omega),if_neg (by simp;omega),if_pos (by rfl),w32 (by omega) (by omega),if_pos ⟨by omega,by omega⟩]
 simp only [Option.getD_some]
 rw [if_pos ⟨a1,a2⟩,if_pos ⟨by omega,by omega⟩,hv,w64 (by omega) (by omega)]
theorem Zea (T:Option Tab) (p:Int) (h:p<0∨1114111<p):Z1.f T p=some 0:=by
 simp only [Z1.f,Z1.j1]
 split
 ·rfl
 ·split
  ·rfl
  ·rw [if_pos (by simp;omega)]
end Go.Proofs.YthoicbafdanmkaaGreatDoor
/- Plain laws, eleventh part: compiling a book: its copy, its tables; the reference's own copy. Own work of this repo. -/
namespace Go.Proofs.YthoicbafdanmkaaGreatDoor
open Go.RowKit

theorem Zn2 (l:List Val):∃ a e,Y7.f l=some (a,e)∧(e=0→Zaj l):=by
 unfold Y7.f
 by_cases c:(65536:Int)<l.length
 ·exact ⟨_,_,by rw [if_pos c],fun h=>absurd h (by decide)⟩
 ·rw [if_neg c]
  have hl:l.length≤Z5:=by unfold Z5;omega
  have:=Xp (fun k i last=>Y7.l1 k l last i) l (fun pre t last o=>∃ a e,o=some (a,e)∧(e=0→K9 (·.lo) (·.hi) Zcw last t=true))
   (fun s k=>⟨0,0,by simp only [Y7.l1,if_neg (show ¬ (l.length:Int)<(l.length:Int) by omega)],fun _=>rfl⟩)
   (fun pre x t s k e ih=>by
    obtain ⟨h1,h2⟩:=mid e
    simp only [Y7.l1,if_pos h2.2,if_pos h2,h1,Y7.j2,Y7.j1,nxt hl e]
    by_cases c1:x.lo≤s
    ·exact ⟨_,80,by rw [if_pos c1,if_pos True.intro],fun h=>absurd h (by decide)⟩
    ·rw [if_neg c1]
     by_cases c2:x.hi<x.lo
     ·exact ⟨_,80,by rw [if_pos c2,if_pos True.intro],fun h=>absurd h (by decide)⟩
     ·rw [if_neg c2]
      by_cases c3:1114111<x.hi
      ·exact ⟨_,80,by rw [if_pos (by simpa using c3)],fun h=>absurd h (by decide)⟩
      ·rw [if_neg (by simpa using c3)]
       by_cases c4:x.n<0
       ·exact ⟨_,81,by rw [if_pos c4,if_pos True.intro],fun h=>absurd h (by decide)⟩
       ·rw [if_neg c4]
        by_cases c5:65535<x.n
        ·exact ⟨_,81,by rw [if_pos (by simpa using c5)],fun h=>absurd h (by decide)⟩
        ·rw [if_neg (by simpa using c5)]
         obtain ⟨a,e2,h3,h4⟩:=ih x.hi
         refine ⟨a,e2,h3,fun h=>?_⟩
         rw [Zab c1 c2 c3 (by simp only [Zcw,Bool.and_eq_true,decide_eq_true_eq];omega)]
         exact h4 h) (-1) K0 (ltK hl)
  obtain ⟨a,e,h1,h2⟩:=this
  exact ⟨a,e,h1,fun h=>⟨by omega,h2 h⟩⟩
def Za3 (l:List Val) (T:Option Tab):Prop:=(¬ Zaj l→T=none)∧(Zaj l→∃ t,T=some t∧Zfg l t)
theorem Zhd (l:List Val):∃ T x y,V7.f l=some (T,x,y)∧Za3 l T:=by
 by_cases c:Zaj l
 ·obtain ⟨T,h1,h2⟩:=Zuz l c
  exact ⟨some T,0,0,h1,fun h=>absurd c h,fun _=>⟨T,rfl,h2⟩⟩
 ·obtain ⟨a,e,h1,h2⟩:=Zn2 l
  have he:e≠0:=fun h=>c (h2 h)
  refine ⟨none,a,e,?_,fun _=>rfl,fun h=>absurd h c⟩
  rw [V7.f,Ul.f,h1,Option.bind_some,if_pos he]
  rfl
theorem Zed {l:List Val} {T:Option Tab} (h:Za3 l T) (hl:Zaj l) (p:Int) (h0:0≤p) (h1:p≤1114111):Z1.f T p=some (Hn l p):=by
 obtain ⟨t,rfl,ht⟩:=h.2 hl
 exact Zwv hl ht p h0 h1
theorem Zek (l:List Val):∃ T,Qi.f l=some T∧Za3 l T:=by
 obtain ⟨T,x,y,h1,h2⟩:=Zhd l
 exact ⟨T,by rw [Qi.f,h1];rfl,h2⟩
def Zid (l:List Spn):List Val:=l.map fun x=>⟨x.lo,x.hi,1⟩
theorem Zk9 (l:List Spn) (hl:l.length≤Z5):∃ T,K7.f l=some T∧Za3 (Zid l) T:=by
 obtain ⟨T,x,y,h1,h2⟩:=Zhd (Zid l)
 refine ⟨T,?_,h2⟩
 refine Xp (fun k i s=>K7.l1 k l s i) l (fun pre t s o=>s=Zid pre→o=some T) ?_ ?_ [] K0 (ltK hl) rfl
 ·intro s k hs
  simp only [K7.l1,if_neg (show ¬ (l.length:Int)<(l.length:Int) by omega),hs,h1]
  rfl
 ·intro pre x t s k e ih hs
  obtain ⟨h3,h4⟩:=mid e
  have hp:pre.length≤Z5:=by rw [e] at hl;simp at hl;omega
  simp only [K7.l1,if_pos h4.2,if_pos h4,h3,nxt hl e]
  rw [if_pos (by rw [hs,Zid,List.length_map];exact Zmo hp (Nat.le_refl _))]
  exact ih _ (by rw [hs];simp [Zid])
def Zcm:Int→List Chs→List Val
 | _,[]=>[]
 | i,x::t=>⟨x.lo,x.hi,i+1⟩::Zcm (i+1) t
theorem Zo2:∀ (i:Int) (l:List Chs),(Zcm i l).length=l.length
 | _,[]=>rfl
 | i,x::t=>by simp [Zcm,Zo2 (i+1) t]
theorem Znw:∀ (i:Int) (a b:List Chs),Zcm i (a++b)=Zcm i a++Zcm (i+a.length) b
 | i,[],b=>by simp [Zcm]
 | i,x::a,b=>by
  simp only [List.cons_append,Zcm,Znw (i+1) a b,List.length_cons]
  rw [show i+1+(a.length:Int)=i+((a.length+1:Nat):Int) by omega]
theorem Zen (l:List Chs) (hl:l.length≤Z5):∃ T,Ya.f l=some T∧Za3 (Zcm 0 l) T:=by
 obtain ⟨T,x,y,h1,h2⟩:=Zhd (Zcm 0 l)
 refine ⟨T,?_,h2⟩
 refine Xp (fun k i s=>Ya.l1 k l s i) l (fun pre t s o=>s=Zcm 0 pre→o=some T) ?_ ?_ [] K0 (ltK hl) rfl
 ·intro s k hs
  simp only [Ya.l1,if_neg (show ¬ (l.length:Int)<(l.length:Int) by omega),hs,h1]
  rfl
 ·intro pre x t s k e ih hs
  obtain ⟨h3,h4⟩:=mid e
  have hp:pre.length≤Z5:=by rw [e] at hl;simp at hl;omega
  simp only [Ya.l1,if_pos h4.2,if_pos h4,h3,Ks.f,Option.bind_some,nxt hl e]
  rw [if_pos (by rw [hs,Zo2];exact Zmo hp (Nat.le_refl _))]
  exact ih _ (by rw [hs,Znw];simp [Zcm])
theorem Zdo {α:Type} {n:Nat} (h:n≤Z5):([]:List α).length+n≤most:=by unfold Z5 at h;unfold most;simp;omega
theorem Zkb (l:List Val) (h:l.length≤Z5):Yj.f l=some l:=by rw [Yj.f,if_pos (Zdo h)];rfl
theorem Zyt (l:List ByteArray) (h:l.length≤Z5):Kr.f l=some l:=by rw [Kr.f,if_pos (Zdo h)];rfl
theorem Zy9 (l:List Chs) (h:l.length≤Z5):Qu.f l=some l:=by rw [Qu.f,if_pos (Zdo h)];rfl
theorem Zt6 (l:List Spn) (h:l.length≤Z5):Xy.f l=some l:=by rw [Xy.f,if_pos (Zdo h)];rfl
theorem Zhu (l:List Int) (h:l.length≤Z5):Xk.f l=some l:=by rw [Xk.f,if_pos (Zdo h)];rfl
theorem Zpt (l:List Chs) (hl:l.length≤Z5) (hi:∀ x∈l,x.is_.length≤Z5):V8.f l=some l:=by
 rw [V8.f,Zy9 l hl,Option.bind_some]
 refine Xp (fun k i s=>V8.l1 k l s i) l (fun pre t s o=>s=l→o=some l) ?_ ?_ l K0 (ltK hl) rfl
 ·intro s k hs
  simp only [V8.l1,if_neg (show ¬ (l.length:Int)<(l.length:Int) by omega),hs]
 ·intro pre x t s k e ih hs
  obtain ⟨h3,h4⟩:=mid e
  rw [hs]
  simp only [V8.l1,if_pos h4.2,if_pos h4,h3,nxt hl e,Zhu _ (hi x (by rw [e];simp)),Option.bind_some]
  refine ih _ ?_
  rw [Int.toNat_natCast]
  rw [e]
  simp
theorem Ztn (b:Bk) (hb:Few b):Zat.f b=some b:=by
 rw [Zat.f,Zyt _ hb.names,Option.bind_some,Zkb _ hb.status,Option.bind_some,Zpt _ hb.maps hb.mapsI,Option.bind_some,Zkb _ hb.class_,Option.bind_some,
  Zpt _ hb.decomp hb.decompI,Option.bind_some,Zt6 _ hb.excl,Option.bind_some,Zkb _ hb.bidi,Option.bind_some,Zkb _ hb.join,Option.bind_some,Zt6 _ hb.marks,Option.bind_some,
  Zkb _ hb.script,Option.bind_some,Zpt _ hb.like hb.likeI,Option.bind_some]
theorem Zcf (l:List Val) (hl:l.length≤Z5):Qk.f l=some l:=by
 have:=Zcb (fun k i s=>Qk.l1 k l s i) l (fun x=>(⟨x.lo,x.hi,x.n⟩:Val)) hl
  (fun s k=>by simp only [Qk.l1,if_neg (show ¬ (l.length:Int)<(l.length:Int) by omega)])
  (fun pre x t s k e hs=>by
   obtain ⟨h1,h2⟩:=mid e
   simp only [Qk.l1,if_pos h2.2,if_pos h2,h1,nxt hl e]
   exact if_pos hs)
 rw [Qk.f,this];simp
theorem Zk7 (l:List Spn) (hl:l.length≤Z5):J5.f l=some l:=by
 have:=Zcb (fun k i s=>J5.l1 k l s i) l (fun x=>(⟨x.lo,x.hi⟩:Spn)) hl
  (fun s k=>by simp only [J5.l1,if_neg (show ¬ (l.length:Int)<(l.length:Int) by omega)])
  (fun pre x t s k e hs=>by
   obtain ⟨h1,h2⟩:=mid e
   simp only [J5.l1,if_pos h2.2,if_pos h2,h1,nxt hl e]
   exact if_pos hs)
 rw [J5.f,this];simp
theorem Zg9 (l:List Chs) (hl:l.length≤Z5) (hi:∀ x∈l,x.is_.length≤Z5):Kx.f l=some l:=by
 have:=Zcb (fun k i s=>Kx.l1 k l s i) l (fun x=>(⟨x.lo,x.hi,x.is_⟩:Chs)) hl
  (fun s k=>by simp only [Kx.l1,if_neg (show ¬ (l.length:Int)<(l.length:Int) by omega)])
  (fun pre x t s k e hs=>by
   obtain ⟨h1,h2⟩:=mid e
   simp only [Kx.l1,if_pos h2.2,if_pos h2,h1,nxt hl e]
   rw [if_pos (Zdo (hi x (by rw [e];simp)))]
   exact if_pos hs)
 rw [Kx.f,this];simp
theorem Zya (b:Bk) (hb:Few b):Zcc.f b=some b:=by
 rw [Zcc.f,if_pos (Zdo hb.names),Zcf _ hb.status,Option.bind_some,Zg9 _ hb.maps hb.mapsI,Option.bind_some,Zcf _ hb.class_,Option.bind_some,
  Zg9 _ hb.decomp hb.decompI,Option.bind_some,Zk7 _ hb.excl,Option.bind_some,Zcf _ hb.bidi,Option.bind_some,Zcf _ hb.join,Option.bind_some,Zk7 _ hb.marks,Option.bind_some,
  Zcf _ hb.script,Option.bind_some,Zg9 _ hb.like hb.likeI,Option.bind_some]
 rfl
structure Zhn (b:Bk) (t:Tbs):Prop where
 book:t.b=b
 status:Za3 b.status t.status
 class_:Za3 b.class_ t.class_
 bidi:Za3 b.bidi t.bidi
 join:Za3 b.join t.join
 script:Za3 b.script t.script
 excl:Za3 (Zid b.excl) t.excl
 mark:Za3 (Zid b.marks) t.mark
 maps:Za3 (Zcm 0 b.maps) t.maps
 decomp:Za3 (Zcm 0 b.decomp) t.decomp
 likes:Za3 (Zcm 0 b.like) t.likes
 pairs:b.decomp=[]→t.pairs=[]
theorem Zbp (l:List Val) (T:Option Tab) (h:Za3 l T) (p:Int):∃ r,Z1.f T p=some r:=by
 by_cases c:p<0∨1114111<p
 ·exact ⟨_,Zea T p c⟩
 ·by_cases hl:Zaj l
  ·exact ⟨_,Zed h hl p (by omega) (by omega)⟩
  ·exact ⟨0,by rw [h.1 hl,Z1.f];simp [Z1.j1]⟩
theorem Znb (b:Bk) (hb:Dok b.decomp) {T1 T2 T3 T4 T5 T6 T7 T8 T9 T10:Option Tab} (h2:Za3 b.class_ T2) (h6:Za3 (Zid b.excl) T6):
  ∃ ps,Zk.l1 K0 b T1 T2 T3 T4 T5 T6 T7 T8 T9 T10 [] 0=some (some ⟨b,T1,T2,T3,T4,T5,T6,T7,T8,T9,T10,ps⟩,0)∧(b.decomp=[]→ps=[]):=by
 by_cases hnil:b.decomp=[]
 ·refine ⟨[],?_,fun _=>rfl⟩
  obtain ⟨k,hk⟩:∃ k,K0=k+1:=⟨1180591620717411303423,rfl⟩
  rw [hk]
  have hz:¬ (0:Int)<(b.decomp.length:Int):=by rw [hnil];simp
  simp only [Zk.l1,if_neg hz]
 suffices h:∃ ps,Zk.l1 K0 b T1 T2 T3 T4 T5 T6 T7 T8 T9 T10 [] 0=some (some ⟨b,T1,T2,T3,T4,T5,T6,T7,T8,T9,T10,ps⟩,0) from h.imp fun _ h=>⟨h,fun e=>absurd e hnil⟩
 have hl:b.decomp.length≤Z5:=by have:=hb.len;unfold Z5;omega
 refine Xp (fun k i s=>Zk.l1 k b T1 T2 T3 T4 T5 T6 T7 T8 T9 T10 s i) b.decomp
  (fun pre t s o=>∃ ps,o=some (some ⟨b,T1,T2,T3,T4,T5,T6,T7,T8,T9,T10,ps⟩,0)) ?_ ?_ [] K0 (ltK hl)
 ·intro s k
  exact ⟨s,by simp only [Zk.l1,if_neg (show ¬ (b.decomp.length:Int)<(b.decomp.length:Int) by omega)]⟩
 ·intro pre x t s k e ih
  obtain ⟨h3,h4⟩:=mid e
  obtain ⟨r1,e1⟩:=Zbp _ _ h6 x.lo
  obtain ⟨r2,e2⟩:=Zbp _ _ h2 x.lo
  obtain ⟨r3,e3⟩:=Zbp _ _ h2 (rd x.is_ 0)
  simp only [Zk.l1,if_pos h4.2,if_pos h4,h3,Zk.j2,Zk.j1,nxt hl e,e1,e2,e3,Option.bind_some]
  by_cases c1:(x.is_.length:Int)=2
  ·rw [if_pos c1]
   by_cases c2:r1=0
   ·rw [if_pos c2]
    by_cases c3:r2=0
    ·rw [if_pos c3,if_pos ⟨Int.le_refl _,by omega⟩]
     by_cases c4:r3=0
     ·rw [if_pos (by simpa using c4),if_pos ⟨by omega,by omega⟩,if_pos ⟨by omega,by omega⟩];exact ih _
     ·rw [if_neg (by simpa using c4)];exact ih _
    ·rw [if_neg c3,if_neg (by decide)];exact ih _
   ·rw [if_neg c2,if_neg (by decide)];exact ih _
  ·rw [if_neg c1,if_neg (by decide)];exact ih _
theorem Zkh {b:Bk} (h:okB b=true):Dok b.decomp:=by
 unfold okB at h
 simp only [Bool.and_eq_true] at h
 exact Dok.mk' h.2.2.2.2.1
theorem Zj4 (b:Bk) (hb:Few b) (h:okB b=true):∃ t,Zk.f b=some (some t,0)∧Zhn b t:=by
 obtain ⟨p,hp⟩:=Zfh b
 rw [h] at hp
 obtain ⟨T1,e1,h1⟩:=Zek b.status
 obtain ⟨T2,e2,h2⟩:=Zek b.class_
 obtain ⟨T3,e3,h3⟩:=Zek b.bidi
 obtain ⟨T4,e4,h4⟩:=Zek b.join
 obtain ⟨T5,e5,h5⟩:=Zek b.script
 obtain ⟨T6,e6,h6⟩:=Zk9 b.excl hb.excl
 obtain ⟨T7,e7,h7⟩:=Zk9 b.marks hb.marks
 obtain ⟨T8,e8,h8⟩:=Zen b.maps hb.maps
 obtain ⟨T9,e9,h9⟩:=Zen b.decomp hb.decomp
 obtain ⟨T10,e10,h10⟩:=Zen b.like hb.like
 obtain ⟨ps,hps,hpn⟩:=Znb b (Zkh h) (T1:=T1) (T3:=T3) (T4:=T4) (T5:=T5) (T7:=T7) (T8:=T8) (T9:=T9) (T10:=T10) h2 h6
 refine ⟨⟨b,T1,T2,T3,T4,T5,T6,T7,T8,T9,T10,ps⟩,?_,⟨rfl,h1,h2,h3,h4,h5,h6,h7,h8,h9,h10,hpn⟩⟩
 rw [Zk.f,hp,Option.bind_some,if_neg (by simp),Ztn b hb,Option.bind_some,Zk.t10,e1,Option.bind_some,Zk.t9,e2,Option.bind_some,Zk.t8,e3,Option.bind_some,
  Zk.t7,e4,Option.bind_some,Zk.t6,e5,Option.bind_some,Zk.t5,e6,Option.bind_some,Zk.t4,e7,Option.bind_some,Zk.t3,e8,Option.bind_some,
  Zk.t2,e9,Option.bind_some,Zk.t1,e10,Option.bind_some,Zk.j3,hps]
end Go.Proofs.YthoicbafdanmkaaGreatDoor
/- Plain laws: what tables say of classes and parts; full decompositions; canon.Decompose. Own work of this repo. -/
namespace Go.Proofs.YthoicbafdanmkaaGreatDoor
open Go.IntKind (i8 i16 i32 i64 u8 u16 u32 u64)
open Go.RowKit

structure Tb (t:Option Tbs) (key:Int→Int) (pa:Int→List Int) (n:Nat):Prop where
 cls:Cls t key
 nn:∀ p,0≤key p
 parts:∀ p,V1.f t p=some (pa p)
 dep:∀ c,Lc pa n c≤18
 few:n≤Z5
theorem Zx2:Tb none (fun _=>0) (fun _=>[]) 0:=by
 refine ⟨fun p=>rfl,fun p=>Int.le_refl 0,fun p=>rfl,fun c=>?_,by unfold Z5;omega⟩
 simp [Lc]
theorem Zu0 {P Q:Int→List Int} (h:∀ c,P c=Q c∨P c=[]):∀ (n:Nat) (c:Int),Lc P n c≤Lc Q n c
 | 0,c=>by
  rcases h c with e | e
  ·simp [Lc,e]
  ·rw [Za0 e];exact (Zbd Q 0 c).1
 | n+1,c=>by
  rcases h c with e | e
  ·by_cases e0:Q c=[]
   ·rw [Za0 e0,Za0 (e.trans e0)];omega
   ·rw [Lc,if_neg (by rw [e];exact e0),Lc,if_neg e0,e]
    exact Zo7 (Ze2 fun x _=>Zu0 h n x)
  ·rw [Za0 e];exact (Zbd Q (n+1) c).1
theorem Zr0 (p:Int):∀ (D:List Chs) (i:Int),(Hn (Zcm i D) p=0∧paP D p=[])∨(0≤i→∃ j:Nat,j<D.length∧Hn (Zcm i D) p=i+j+1∧(rd D (j:Int)).is_=paP D p)∨i<0
 | [],i=>.inl ⟨rfl,rfl⟩
 | x::D,i=>by
  by_cases hi:i<0
  ·exact .inr (.inr hi)
  by_cases c:x.lo≤p∧p≤x.hi
  ·refine .inr (.inl fun _=>⟨0,by simp,?_,?_⟩)
   ·simp [Zcm,Hn,inB,c.1,c.2]
   ·simp [rd,paP,c.1,c.2]
  ·have hb:inB p ⟨x.lo,x.hi,i+1⟩=false:=by
    simp only [inB,Bool.and_eq_false_iff,decide_eq_false_iff_not]
    by_cases c1:x.lo≤p
    ·exact .inr fun c2=>c ⟨c1,c2⟩
    ·exact .inl c1
   rcases Zr0 p D (i+1) with ⟨h1,h2⟩ | h | h
   ·refine .inl ⟨?_,?_⟩
    ·rw [Zcm,Hn,if_neg (by rw [hb];decide)];exact h1
    ·rw [paP,if_neg c];exact h2
   ·refine .inr (.inl fun _=>?_)
    obtain ⟨j,h1,h2,h3⟩:=h (by omega)
    refine ⟨j+1,by simp;omega,?_,?_⟩
    ·rw [Zcm,Hn,if_neg (by rw [hb];decide),h2];omega
    ·rw [paP,if_neg c,← h3]
     unfold rd
     have e1:((j+1:Nat):Int).toNat=j+1:=by omega
     have e2:((j:Nat):Int).toNat=j:=by omega
     rw [e1,e2];rfl
   ·exact .inr (.inr (by omega))
theorem Zul {D:List Chs} {T:Option Tab} (hT:Za3 (Zcm 0 D) T) (hl:∀ x∈D,x.is_.length≤Z5) (hD:D.length≤Z5) (p:Int):∃ l,Zax.f T D p=some l∧(l=paP D p∨l=[]):=by
 have hz:Z1.f T p=some 0→∃ l,Zax.f T D p=some l∧(l=paP D p∨l=[]):=by
  intro h
  exact ⟨[],by rw [Zax.f,h,Option.bind_some,if_pos rfl],.inr rfl⟩
 by_cases c:p<0∨1114111<p
 ·exact hz (Zea T p c)
 ·by_cases hr:Zaj (Zcm 0 D)
  ·have hv:=Zed hT hr p (by omega) (by omega)
   rcases Zr0 p D 0 with ⟨h1,h2⟩ | h | h
   ·exact hz (by rw [hv,h1])
   ·obtain ⟨j,h1,h2,h3⟩:=h (Int.le_refl _)
    rw [h2] at hv
    unfold Z5 at hD
    have w1:i64.wrap (0+(j:Int)+1-1)=(j:Int):=by rw [w64 (by omega) (by omega)];omega
    refine ⟨paP D p,?_,.inl rfl⟩
    rw [Zax.f,hv,Option.bind_some,if_neg (by omega),w1,if_pos ⟨by omega,by omega⟩,h3]
    have hm:(paP D p).length≤Z5:=by
     rw [← h3]
     exact hl _ (Zf5 (by omega) (by omega))
    rw [Zhu _ hm];rfl
   ·omega
  ·have:=hT.1 hr
   exact hz (by rw [this,Z1.f];simp [Z1.j1])
theorem Zu4 {a b:Int} {l:List Val} (h:Zxc a b l=true) (ha:0≤a) (hb:b≤65535):Zaj l:=by
 simp only [Zxc,Hm,Bool.and_eq_true,decide_eq_true_eq] at h
 refine ⟨h.1,?_⟩
 have:∀ (l:List Val) (last:Int),K9 (·.lo) (·.hi) (fun x:Val=>decide (a≤x.n)&&decide (x.n≤b)&&!U5 x.lo x.hi) last l=true→K9 (·.lo) (·.hi) Zcw last l=true:=by
  intro l
  induction l with
  | nil=>intro _ _;rfl
  | cons x t ih=>
   intro last h
   simp only [K9,Bool.and_eq_true,decide_eq_true_eq] at h ⊢
   refine ⟨⟨h.1.1,?_⟩,ih _ h.2⟩
   have:=h.1.2.1
   simp only [Zcw,Bool.and_eq_true,decide_eq_true_eq];omega
 exact this l _ h.2
theorem Zq4 (l:List Val) (T:Option Tab) (h:Za3 l T) (hl:Zaj l) (p:Int):∃ r,Z1.f T p=some r∧0≤r:=by
 by_cases c:p<0∨1114111<p
 ·exact ⟨_,Zea T p c,Int.le_refl _⟩
 ·exact ⟨_,Zed h hl p (by omega) (by omega),(Zh2 (fun x hx=>by
   have:=(Zbq hl.2 x hx).2.2.2
   simpa [Zcw] using this) p).1⟩
theorem Zl5 {b:Bk} (h:okB b=true):Zaj b.class_:=by
 unfold okB at h
 simp only [Bool.and_eq_true] at h
 exact Zu4 h.2.2.2.1 (by omega) (by omega)
theorem Zts {b:Bk} (h:okB b=true):Zcl b.decomp [] b.decomp=true:=by
 unfold okB at h
 simp only [Bool.and_eq_true] at h
 exact h.2.2.2.2.2.2.2.2.2.2.2
theorem Zoa {D:List Chs}:∀ {l pre:List Chs},Zcl D pre l=true→∀ x∈l,Lc (paP D) (D.length+1) x.lo≤18
 | [],_,_,_,hx=>by cases hx
 | y::l,pre,h,x,hx=>by
  simp only [Zcl,Bool.and_eq_true,decide_eq_true_eq] at h
  rcases List.mem_cons.1 hx with rfl | hx
  ·exact h.1.1
  ·exact Zoa h.2 x hx
theorem Zs6 {D:List Chs} (h:∀ x∈D,x.lo=x.hi) (c:Int):paP D c=[]∨∃ x∈D,x.lo=c:=by
 induction D with
 | nil=>exact .inl rfl
 | cons x D ih=>
  by_cases e:x.lo=c
  ·exact .inr ⟨x,by simp,e⟩
  ·have:=h x (by simp)
   rw [paP,if_neg (by omega)]
   rcases ih (fun y hy=>h y (by simp [hy])) with h1 | ⟨y,h1,h2⟩
   ·exact .inl h1
   ·exact .inr ⟨y,by simp [h1],h2⟩
theorem Zxj {b:Bk} {t:Tbs} (hb:Few b) (h:okB b=true) (ht:Zhn b t):∃ key pa,Tb (some t) key pa (b.decomp.length+1):=by
 have hD:=Zkh h
 refine ⟨fun p=>(Z1.f t.class_ p).getD 0,fun p=>(Zax.f t.decomp b.decomp p).getD [],fun p=>?_,fun p=>?_,fun p=>?_,fun c=>?_,by have:=hD.len;unfold Z5;omega⟩
 ·obtain ⟨r,h1,_⟩:=Zq4 _ _ ht.class_ (Zl5 h) p
  simp only [Qf.f,Option.isNone_some,Bool.false_eq_true,if_false,Option.isSome_some,if_true,Option.getD_some,h1,Option.bind_some]
 ·obtain ⟨r,h1,h2⟩:=Zq4 _ _ ht.class_ (Zl5 h) p
  simp only [h1,Option.getD_some];exact h2
 ·obtain ⟨l,h1,_⟩:=Zul ht.decomp hb.decompI hb.decomp p
  simp only [V1.f,Option.isNone_some,Bool.false_eq_true,if_false,Option.isSome_some,if_true,Option.getD_some,ht.book,h1,Option.bind_some]
 ·refine Int.le_trans (Zu0 (Q:=paP b.decomp) (fun c=>?_) _ c) ?_
  ·obtain ⟨l,h1,h2⟩:=Zul ht.decomp hb.decompI hb.decomp c
   simp only [h1,Option.getD_some];exact h2
  ·rcases Zs6 hD.one c with e | ⟨x,hx,rfl⟩
   ·rw [Za0 e];omega
   ·exact Zoa (Zts h) x hx

def Zij (c:Int):Int×Int×Int×Bool:=(X9.f c).getD default
theorem Zt0 (c:Int):X9.f c=some (Zij c):=by
 have:∃ r,X9.f c=some r:=by
  unfold X9.f
  simp only [X9.j2,X9.j1]
  split
  ·exact ⟨_,if_pos trivial⟩
  ·split
   ·exact ⟨_,rfl⟩
   ·split<;>exact ⟨_,rfl⟩
 obtain ⟨r,hr⟩:=this
 rw [Zij,hr];rfl
def Zsr (c:Int):List Int:=if (Zij c).2.2.1=0 then [(Zij c).1,(Zij c).2.1] else [(Zij c).1,(Zij c).2.1,(Zij c).2.2.1]
def Zby (pa:Int→List Int):Nat→Int→List Int
 | 0,c=>if (Zij c).2.2.2=true then Zsr c else [c]
 | n+1,c=>if (Zij c).2.2.2=true then Zsr c else if pa c=[] then [c] else (pa c).flatMap (Zby pa n)
theorem Zrp (c:Int):(Zsr c).length≤3:=by unfold Zsr;split<;>simp
theorem Zgz {pa:Int→List Int}:∀ (n:Nat) (c:Int),Lc pa n c≤18→((Zby pa n c).length:Int)≤3*Lc pa n c
 | 0,c,h=>by
  have:=Zbd pa 0 c
  have:=Zrp c
  unfold Zby
  split
  ·omega
  ·simp;omega
 | n+1,c,h=>by
  have h1:=Zbd pa (n+1) c
  have h2:=Zrp c
  unfold Zby
  split
  ·omega
  ·split
   ·simp;omega
   ·rename_i _ e
    rw [Lc,if_neg e] at h ⊢
    have hs:H6 (Lc pa n) (pa c)≤18:=by unfold cap at h;split at h<;>omega
    have hcap:cap (H6 (Lc pa n) (pa c))=H6 (Lc pa n) (pa c):=by unfold cap;rw [if_neg (by omega)]
    rw [hcap]
    have:∀ l:List Int,H6 (Lc pa n) l≤18→((l.flatMap (Zby pa n)).length:Int)≤3*H6 (Lc pa n) l:=by
     intro l
     induction l with
     | nil=>intro _;simp [H6]
     | cons x l ih=>
      intro hl
      simp only [H6] at hl ⊢
      have a1:=Zbd pa n x
      have a2:0≤H6 (Lc pa n) l:=by
       have:=Zce (f:=Lc pa n) (l:=l) (fun y _=>(Zbd pa n y).1)
       omega
      have:=Zgz (pa:=pa) n x (by omega)
      have:=ih (by omega)
      simp only [List.flatMap_cons,List.length_append];omega
    exact this _ hs
theorem Zxh {t:Option Tbs} {key:Int→Int} {pa:Int→List Int} {m:Nat} (h:Tb t key pa m):∀ (n:Nat) (c:Int) (k:Nat),Lc pa n c≤18→n<k→Ql.f k t c=some (Zby pa n c):=by
 intro n
 induction n with
 | zero=>
  intro c k hc hk
  obtain ⟨k,rfl⟩:∃ j,k=j+1:=⟨k-1,by omega⟩
  rw [Ql.f,Ql.b,Zt0,Option.bind_some,Zby]
  by_cases s1:(Zij c).2.2.2=true
  ·rw [if_pos s1,if_pos s1,Zsr];split<;>rfl
  ·have e:pa c=[]:=by
    by_cases e:pa c=[]
    ·exact e
    ·simp [Lc,e] at hc
   rw [if_neg s1,if_neg s1,h.parts c,Option.bind_some,e,if_pos (by simp)]
 | succ n ih=>
  intro c k hc hk
  obtain ⟨k,rfl⟩:∃ j,k=j+1:=⟨k-1,by omega⟩
  rw [Ql.f,Ql.b,Zt0,Option.bind_some,Zby]
  by_cases s1:(Zij c).2.2.2=true
  ·rw [if_pos s1,if_pos s1,Zsr];split<;>rfl
  ·rw [if_neg s1,if_neg s1,h.parts c,Option.bind_some]
   by_cases e:pa c=[]
   ·rw [if_pos e,e,if_pos (by simp)]
   ·rw [if_neg e,if_neg (by have:=List.length_pos_iff.2 e;omega)]
    rw [Lc,if_neg e] at hc
    have hs:H6 (Lc pa n) (pa c)≤18:=by unfold cap at hc;split at hc<;>omega
    have hl:((pa c).length:Int)≤18:=by
     have:=Zce (f:=Lc pa n) (l:=pa c) (fun y _=>(Zbd pa n y).1)
     omega
    have hk1:∀ x∈pa c,Lc pa n x≤18:=fun x hx=>by
     have:=Zip (f:=Lc pa n) (l:=pa c) (fun y _=>(Zbd pa n y).1) x hx
     omega
    have key:∀ (l acc:List Int) (pre:List Int) (q:Nat),pa c=pre++l→l.length<q→acc.length+54*l.length≤5400→Ql.l1 q (Ql.f k) t (pa c) acc (pre.length:Int)=some (acc++l.flatMap (Zby pa n)):=by
     intro l
     induction l with
     | nil=>
      intro acc pre q e1 hq ha
      obtain ⟨q,rfl⟩:∃ j,q=j+1:=⟨q-1,by omega⟩
      have:(pa c).length=pre.length:=by rw [e1];simp
      simp only [Ql.l1,this,if_neg (show ¬ (pre.length:Int)<(pre.length:Int) by omega)]
      simp
     | cons x l ihl=>
      intro acc pre q e1 hq ha
      obtain ⟨q,rfl⟩:∃ j,q=j+1:=⟨q-1,by omega⟩
      simp only [List.length_cons] at hq ha
      obtain ⟨m1,m2⟩:=mid e1
      have hx:=hk1 x (by rw [e1];simp)
      have hfl:=Zgz n x hx
      have hlen:(pa c).length≤Z5:=by unfold Z5;omega
      simp only [Ql.l1,if_pos m2.2,if_pos m2,m1,ih x k hx (by omega),Option.bind_some,nxt hlen e1]
      rw [if_pos (by unfold most;omega)]
      have:=ihl (acc++Zby pa n x) (pre++[x]) q (by rw [e1];simp) (by omega) (by simp;omega)
      have e2:((pre++[x]).length:Int)=(pre.length:Int)+1:=by simp
      rw [e2] at this
      rw [this];simp
    have:=key (pa c) [] [] K0 rfl (ltK (by unfold Z5;omega)) (by simp;omega)
    simpa using this
theorem Zt5 {t:Option Tbs} {key:Int→Int} {pa:Int→List Int} {n:Nat} (h:Tb t key pa n) (l:List Int) (hl:54*l.length≤Z5):Vm.f t l=some (l.flatMap (Zby pa n)):=by
 have key:∀ (r acc pre:List Int) (q:Nat),l=pre++r→r.length<q→acc.length+54*r.length≤Z5→Vm.l1 q t l acc (pre.length:Int)=some (acc++r.flatMap (Zby pa n)):=by
  intro r
  induction r with
  | nil=>
   intro acc pre q e1 hq ha
   obtain ⟨q,rfl⟩:∃ j,q=j+1:=⟨q-1,by omega⟩
   have:l.length=pre.length:=by rw [e1];simp
   simp only [Vm.l1,this,if_neg (show ¬ (pre.length:Int)<(pre.length:Int) by omega)]
   simp
  | cons x r ihl=>
   intro acc pre q e1 hq ha
   obtain ⟨q,rfl⟩:∃ j,q=j+1:=⟨q-1,by omega⟩
   simp only [List.length_cons] at hq ha
   obtain ⟨m1,m2⟩:=mid e1
   have hx:=h.dep x
   have hfl:=Zgz n x hx
   have hlen:l.length≤Z5:=by omega
   have hbig:=ha
   unfold Z5 at hbig
   simp only [Vm.l1,if_pos m2.2,if_pos m2,m1,Zxh h n x K0 hx (ltK h.few),Option.bind_some,nxt hlen e1]
   rw [if_pos (by unfold most;omega)]
   have:=ihl (acc++Zby pa n x) (pre++[x]) q (by rw [e1];simp) (by omega) (by simp;omega)
   have e2:((pre++[x]).length:Int)=(pre.length:Int)+1:=by simp
   rw [e2] at this
   rw [this];simp
 have:=key l [] [] K0 rfl (ltK (by omega)) (by simpa using hl)
 simpa [Vm.f] using this
theorem Zgt {t:Option Tbs} {key:Int→Int} {pa:Int→List Int} {n:Nat} (h:Tb t key pa n):∀ (l:List Int),(l.flatMap (Zby pa n)).length≤54*l.length
 | []=>by simp
 | x::l=>by
  have:=Zgt h l
  have:=Zgz n x (h.dep x)
  have:=h.dep x
  simp only [List.flatMap_cons,List.length_append,List.length_cons];omega
theorem Zmm {t:Option Tbs} {key:Int→Int} {pa:Int→List Int} {n:Nat} (h:Tb t key pa n) (l:List Int) (hl:54*l.length≤Z5):U3.f t l=some (Zif key (l.flatMap (Zby pa n))):=by
 have:=Zgt h l
 rw [U3.f,Zt5 h l hl,Option.bind_some,Zty h.cls _ (by omega)];rfl
end Go.Proofs.YthoicbafdanmkaaGreatDoor
/- Plain laws: two lists, compared. Own work of this repo. -/
namespace Go.Proofs.YthoicbafdanmkaaGreatDoor
open Go.RowKit

theorem Zjf (a b:List Int) (hb:a.length≤Z5):Kw.f a b=some (decide (a=b)):=by
 unfold Kw.f
 by_cases c:(a.length:Int)=(b.length:Int)
 ·rw [if_neg (by omega)]
  have key:∀ (s pre u preb:List Int) (q:Nat),a=pre++s→b=preb++u→pre=preb→s.length<q→Kw.l1 q a b (pre.length:Int)=some (decide (s=u)):=by
   intro s
   induction s with
   | nil=>
    intro pre u preb q e1 e2 e3 hq
    obtain ⟨q,rfl⟩:∃ j,q=j+1:=⟨q-1,by omega⟩
    have hl:a.length=pre.length:=by rw [e1];simp
    obtain rfl:u=[]:=by
     apply List.eq_nil_of_length_eq_zero
     have:b.length=preb.length+u.length:=by rw [e2];simp
     subst e3;omega
    simp only [Kw.l1,hl,if_neg (show ¬ (pre.length:Int)<(pre.length:Int) by omega)]
    rfl
   | cons x s ih=>
    intro pre u preb q e1 e2 e3 hq
    obtain ⟨q,rfl⟩:∃ j,q=j+1:=⟨q-1,by omega⟩
    simp only [List.length_cons] at hq
    have la:a.length=pre.length+(s.length+1):=by rw [e1];simp
    have lb:b.length=preb.length+u.length:=by rw [e2];simp
    cases u with
    | nil=>subst e3;simp at lb;omega
    | cons y u=>
     subst e3
     obtain ⟨m1,m2⟩:=mid e1
     obtain ⟨m3,m4⟩:=mid e2
     simp only [Kw.l1,if_pos m2.2,if_pos m2,if_pos m4,m1,m3,nxt hb e1]
     by_cases d:x=y
     ·subst d
      rw [if_neg (by simp)]
      have:=ih (pre++[x]) u (pre++[x]) q (by rw [e1];simp) (by rw [e2];simp) rfl (by omega)
      have e4:((pre++[x]).length:Int)=(pre.length:Int)+1:=by simp
      rw [e4] at this
      rw [this];simp
     ·rw [if_pos d];simp [d]
  have:=key a [] b [] K0 rfl rfl rfl (ltK hb)
  simpa using this
 ·rw [if_pos c,decide_eq_false (fun e=>c (by rw [e]))]
end Go.Proofs.YthoicbafdanmkaaGreatDoor
/- Plain laws: first places in lists. Own work of this repo. -/
namespace Go.Proofs.YthoicbafdanmkaaGreatDoor
open Go.RowKit

def fIx {α:Type} (p:α→Bool):List α→Nat→Int
 | [],_=>-1
 | x::t,n=>if p x=true then (n:Int) else fIx p t (n+1)
theorem Zgw {α:Type} [Inhabited α] (L:Nat→Int→Option Int) (xs:List α) (p:α→Bool) (hx:xs.length≤Z5) (h0:∀ k,L (k+1) (xs.length:Int)=some (-1))
  (h1:∀ k pre x t,xs=pre++x::t→L (k+1) (pre.length:Int)=if p x=true then some (pre.length:Int) else L k ((pre.length:Int)+1)):L K0 0=some (fIx p xs 0):=by
 refine Xp (fun k i (_:Unit)=>L k i) xs (fun pre t _ o=>o=some (fIx p t pre.length)) (fun _ k=>h0 k) (fun pre x t _ k e ih=>?_) () K0 (ltK hx)
 show L (k+1) _=_
 have h2:=ih ()
 have h3:L k ((pre.length:Int)+1)=some (fIx p t (pre.length+1)):=by simpa using h2
 rw [h1 k pre x t e,h3,fIx]
 split<;>rfl
theorem Zil {α:Type} (p:α→Bool):∀ (xs:List α) (n:Nat),decide (0≤fIx p xs n)=xs.any p
 | [],n=>by simp [fIx]
 | x::t,n=>by
  rw [fIx,List.any_cons]
  by_cases c:p x=true
  ·rw [if_pos c,c];simp
  ·rw [if_neg c,Zil p t,Bool.eq_false_iff.2 c];rfl
theorem Zez {α:Type} (p:α→Bool):∀ (xs:List α) (n:Nat),(fIx p xs n=-1∧∀ x∈xs,p x=false)∨∃ a x r,xs=a++x::r∧p x=true∧(∀ x∈a,p x=false)∧fIx p xs n=((n+a.length:Nat):Int)
 | [],n=>.inl ⟨rfl,fun _ h=>by cases h⟩
 | x::t,n=>by
  rw [fIx]
  by_cases c:p x=true
  ·exact .inr ⟨[],x,t,rfl,c,(fun _ h=>by cases h),by rw [if_pos c];simp⟩
  ·rw [if_neg c]
   rcases Zez p t (n+1) with ⟨h1,h2⟩ | ⟨a,y,r,h1,h2,h3,h4⟩
   ·refine .inl ⟨h1,fun y hy=>?_⟩
    rcases List.mem_cons.1 hy with rfl | hy
    ·exact Bool.eq_false_iff.2 c
    ·exact h2 y hy
   ·refine .inr ⟨x::a,y,r,by rw [h1];rfl,h2,fun z hz=>?_,by rw [h4];simp;omega⟩
    rcases List.mem_cons.1 hz with rfl | hz
    ·exact Bool.eq_false_iff.2 c
    ·exact h3 z hz
theorem Ztj (xs:List Int) (v:Int) (hx:xs.length≤Z5):Xe.f xs v=some (fIx (fun x=>decide (v=x)) xs 0):=by
 rw [Xe.f]
 refine Zgw (fun k i=>Xe.l1 k xs v i) xs _ hx (fun k=>?_) (fun k pre x t e=>?_)
 ·simp only [Xe.l1,if_neg (show ¬ (xs.length:Int)<(xs.length:Int) by omega)]
 ·obtain ⟨m1,m2⟩:=mid e
  simp only [Xe.l1,if_pos m2.2,if_pos m2,m1,nxt hx e,decide_eq_true_eq]

end Go.Proofs.YthoicbafdanmkaaGreatDoor
/- Plain laws: composing, joiners, the faults of a label. Own work of this repo. -/
namespace Go.Proofs.YthoicbafdanmkaaGreatDoor
open Go.IntKind (i8 i16 i32 i64 u8 u16 u32 u64)
open Go.RowKit

structure Tq (t:Option Tbs) (key:Int→Int) (pa:Int→List Int) (n:Nat) (pr:Int→Int→Int×Bool) (mk kp:Int→Bool) (jn:Int→Int):Prop where
 tb:Tb t key pa n
 pair:∀ a b,Xg.f t a b=some (pr a b)
 mark:∀ p,Qw.f t p=some (mk p)
 kept:∀ p,Qv.f t p=some (kp p)
 join:∀ p,Vd.f t p=some (jn p)
variable {t:Option Tbs} {key:Int→Int} {pa:Int→List Int} {n:Nat} {pr:Int→Int→Int×Bool} {mk kp:Int→Bool} {jn:Int→Int}

def Zdh (key:Int→Int) (pr:Int→Int→Int×Bool) (s:List Int×Int×Int) (c:Int):List Int×Int×Int:=
 if 0≤s.2.1∧¬ (s.2.1<(s.1.length:Int)-1∧key c≤s.2.2)∧(pr (rd s.1 s.2.1) c).2=true then (s.1.set s.2.1.toNat (pr (rd s.1 s.2.1) c).1,s.2.1,s.2.2)
 else if key c=0 then (s.1++[c],(s.1.length:Int),0) else (s.1++[c],s.2.1,max s.2.2 (key c))
def Zgx (key:Int→Int) (pr:Int→Int→Int×Bool) (l:List Int):List Int:=(l.foldl (Zdh key pr) ([],-1,0)).1
theorem Zpr (h:Tq t key pa n pr mk kp jn) (l:List Int) (hl:l.length≤Z5):Zo.f t l=some (Zgx key pr l):=by
 have step:∀ (r pre:List Int) (s:List Int×Int×Int) (k:Nat),l=pre++r→r.length<k→s.1.length+r.length≤l.length→-1≤s.2.1→s.2.1<(s.1.length:Int)→Zo.l1 k t l s.1 s.2.1 s.2.2 (pre.length:Int)=some (r.foldl (Zdh key pr) s).1:=by
  intro r
  induction r with
  | nil=>
   intro pre s k e hk h1 h2 h3
   obtain ⟨k,rfl⟩:∃ j,k=j+1:=⟨k-1,by omega⟩
   have:l.length=pre.length:=by rw [e];simp
   simp only [Zo.l1,this,if_neg (show ¬ (pre.length:Int)<(pre.length:Int) by omega),List.foldl_nil]
  | cons c r ih=>
   intro pre s k e hk h1 h2 h3
   obtain ⟨k,rfl⟩:∃ j,k=j+1:=⟨k-1,by omega⟩
   simp only [List.length_cons] at hk h1
   obtain ⟨m1,m2⟩:=mid e
   have hbig:=hl
   unfold Z5 at hbig
   obtain ⟨out,st,mo⟩:=s
   simp only at h1 h2 h3
   have e4:((pre++[c]).length:Int)=(pre.length:Int)+1:=by simp
   have fin:∀ s':List Int×Int×Int,s'.1.length≤out.length+1→-1≤s'.2.1→s'.2.1<(s'.1.length:Int)→Zdh key pr (out,st,mo) c=s'→Zo.l1 k t l s'.1 s'.2.1 s'.2.2 ((pre.length:Int)+1)=some ((c::r).foldl (Zdh key pr) (out,st,mo)).1:=by
    intro s' g1 g2 g3 g4
    have:=ih (pre++[c]) s' k (by rw [e];simp) (by omega) (by omega) g2 g3
    rw [e4] at this
    rw [List.foldl_cons,g4,this]
   have put:Zo.j3 (Zo.l1 k t l) l out st mo (pre.length:Int) (key c)=if key c=0 then Zo.l1 k t l (out++[c]) (out.length:Int) 0 ((pre.length:Int)+1) else Zo.l1 k t l (out++[c]) st (max mo (key c)) ((pre.length:Int)+1):=by
    simp only [Zo.j3,Zo.j2,Zo.j1,m1,nxt hl e]
    by_cases c0:key c=0
    ·rw [if_pos c0,if_pos c0,if_pos (by unfold most;simp;omega)]
    ·rw [if_neg c0,if_neg c0,if_pos (by unfold most;simp;omega)]
   have put2:¬ (0≤st∧¬ (st<(out.length:Int)-1∧key c≤mo)∧(pr (rd out st) c).2=true)→Zo.j3 (Zo.l1 k t l) l out st mo (pre.length:Int) (key c)=some ((c::r).foldl (Zdh key pr) (out,st,mo)).1:=by
    intro hc
    rw [put]
    by_cases c0:key c=0
    ·rw [if_pos c0]
     exact fin (out++[c],(out.length:Int),0) (by simp) (by show (-1:Int)≤(out.length:Int);omega) (by show (out.length:Int)<((out++[c]).length:Int);simp;omega) (by simp only [Zdh,if_neg hc,if_pos c0])
    ·rw [if_neg c0]
     exact fin (out++[c],st,max mo (key c)) (by simp) h2 (by simp<;>omega) (by simp only [Zdh,if_neg hc,if_neg c0])
   simp only [Zo.l1,if_pos m2.2,if_pos m2,m1,h.tb.cls c,Option.bind_some,Zo.j5]
   by_cases a1:0≤st
   ·rw [if_pos a1,w64 (by omega) (by omega)]
    have j4:∀ bl:Bool,(bl=true↔(st<(out.length:Int)-1∧key c≤mo))→Zo.j4 (Zo.l1 k t l) t l out st mo (pre.length:Int) (key c) (!bl)=some ((c::r).foldl (Zdh key pr) (out,st,mo)).1:=by
     intro bl hb
     simp only [Zo.j4,m1]
     by_cases a2:bl=true
     ·rw [a2,if_neg (by simp)]
      exact put2 (fun hh=>hh.2.1 (hb.1 a2))
     ·rw [Bool.eq_false_iff.2 a2,if_pos (by simp),if_pos ⟨a1,h3⟩,h.pair,Option.bind_some]
      by_cases a3:(pr (rd out st) c).2=true
      ·rw [if_pos a3]
       simp only [Zo.j1,nxt hl e]
       exact fin (out.set st.toNat (pr (rd out st) c).1,st,mo) (by simp) h2 (by simpa using h3) (by simp only [Zdh];rw [if_pos ⟨a1,fun hh=>a2 (hb.2 hh),a3⟩])
      ·rw [if_neg a3]
       exact put2 (fun hh=>a3 hh.2.2)
    by_cases a4:st<(out.length:Int)-1
    ·rw [if_pos a4,if_pos a1]
     exact j4 _ (by simp [a4])
    ·rw [if_neg a4,if_pos a1]
     exact j4 false (by simp [a4])
   ·rw [if_neg a1,if_neg a1]
    simp only [Zo.j4,if_neg (show ¬ false=true by simp)]
    exact put2 (fun hh=>a1 hh.1)
 have:=step l [] ([],-1,0) K0 rfl (ltK hl) (by simp) (by simp) (by simp)
 simpa [Zo.f,Zgx] using this
theorem Zh7 (key:Int→Int) (pr:Int→Int→Int×Bool):∀ (l:List Int) (s:List Int×Int×Int),(l.foldl (Zdh key pr) s).1.length≤s.1.length+l.length
 | [],s=>by simp
 | c::l,s=>by
  have h1:(Zdh key pr s c).1.length≤s.1.length+1:=by
   unfold Zdh
   split
   ·simp
   ·split<;>simp
  have:=Zh7 key pr l (Zdh key pr s c)
  simp only [List.foldl_cons,List.length_cons];omega
def Zd9 (key:Int→Int) (pa:Int→List Int) (n:Nat) (pr:Int→Int→Int×Bool) (l:List Int):List Int:=Zgx key pr (Zif key (l.flatMap (Zby pa n)))
theorem Zpk (key:Int→Int) (l:List Int):(Zif key l).length=l.length:=Zx0 key l
theorem Zsn (h:Tq t key pa n pr mk kp jn) (l:List Int) (hl:54*l.length≤Z5):Hj.f t l=some (Zd9 key pa n pr l):=by
 have:=Zgt h.tb l
 rw [Hj.f,Zmm h.tb l hl,Option.bind_some,Zpr h _ (by rw [Zpk];omega)];rfl
theorem Zua (a b:List Int) (hb:a.length≤Z5):Xj.f a b=some (decide (a=b)):=by
 rw [Xj.f]
 have e:∀ q a b i,Xj.l1 q a b i=Kw.l1 q a b i:=by
  intro q
  induction q with
  | zero=>intros;rfl
  | succ q ih=>intro a b i;simp only [Xj.l1,Kw.l1,ih]
 rw [e]
 exact Zjf a b hb
theorem Zz7 (h:Tq t key pa n pr mk kp jn) (l:List Int) (hl:54*l.length≤Z5):Zbc.f t l=some (decide (Zd9 key pa n pr l=l)):=by
 have h1:=Zgt h.tb l
 have h2:=Zh7 key pr (Zif key (l.flatMap (Zby pa n))) ([],-1,0)
 rw [Zbc.f,Zsn h l hl,Option.bind_some,Zua _ _ (by rw [Zpk] at h2;simp only [List.length_nil,Nat.zero_add] at h2;unfold Zd9 Zgx;omega)];rfl
theorem Zia (h:Tq t key pa n pr mk kp jn) (l:List Int) (hl:l.length≤Z5):∀ (k:Nat) (i:Int),i<(l.length:Int)→i+1<(k:Int)→-1≤i→∃ r,Vo.l1 k t l i=some r
 | 0,i,_,h2,h3=>by omega
 | k+1,i,h1,h2,h3=>by
  have hb:=hl
  unfold Z5 at hb
  simp only [Vo.l1]
  by_cases c:0≤i
  ·rw [if_pos c,if_pos ⟨c,h1⟩,h.join,Option.bind_some]
   split
   ·exact ⟨_,rfl⟩
   ·rw [w64 (by omega) (by omega)];exact Zia h l hl k (i-1) (by omega) (by omega) (by omega)
  ·exact ⟨0,by rw [if_neg c]⟩
theorem Zg6 (h:Tq t key pa n pr mk kp jn) (l:List Int) (hl:l.length≤Z5):∀ (k:Nat) (i:Int),(l.length:Int)-i<(k:Int)→0≤i→i≤(l.length:Int)→∃ r,Vg.l1 k t l i=some r
 | 0,i,h1,h2,h3=>by omega
 | k+1,i,h1,h2,h3=>by
  have hb:=hl
  unfold Z5 at hb
  simp only [Vg.l1]
  by_cases c:i<(l.length:Int)
  ·rw [if_pos c,if_pos ⟨h2,c⟩,h.join,Option.bind_some]
   split
   ·exact ⟨_,rfl⟩
   ·rw [w64 (by omega) (by omega)];exact Zg6 h l hl k (i+1) (by omega) (by omega) (by omega)
  ·exact ⟨0,by rw [if_neg c]⟩
theorem Zkw (h:Tq t key pa n pr mk kp jn) (l:List Int) (hl:l.length≤Z5) (i:Int) (h0:0≤i) (h1:i<(l.length:Int)):∃ r,Yu.f t l i=some r∧(rd l i≠8204→rd l i≠8205→r=true):=by
 have hb:=hl
 unfold Z5 at hb
 have hK:(K0:Int)=1180591620717411303424:=rfl
 have e0:Yu.f t l i=Yu.j3 t l i false:=by rw [Yu.f,if_neg (by omega),decide_eq_false (by omega)]
 have es:Vf.f (rd l i)=some (decide (rd l i=8204∨rd l i=8205)):=by
  unfold Vf.f Vf.j1
  split<;>simp [*]
 rw [e0]
 simp only [Yu.j3,if_neg (show ¬ false=true by simp),if_pos (And.intro h0 h1),es,Option.bind_some]
 by_cases c:rd l i=8204∨rd l i=8205
 ·rw [decide_eq_true c,if_neg (by simp)]
  suffices hs:∃ r,(if 0<i then (if (0:Int)≤i64.wrap (i-1)∧i64.wrap (i-1)<(l.length:Int) then ((Hy.f t (rd l (i64.wrap (i-1)))).bind fun ag=>(Yu.j2 t l i ag)) else none) else (Yu.j2 t l i false))=some r by
   obtain ⟨r,hr⟩:=hs
   exact ⟨r,hr,fun a b=>absurd c (by simp [a,b])⟩
  have hj2:∀ b,∃ r,Yu.j2 t l i b=some r:=by
   intro b
   obtain ⟨ra,ha⟩:=Zia h l hl K0 (i-1) (by omega) (by omega) (by omega)
   obtain ⟨rb,hb'⟩:=Zg6 h l hl K0 (i+1) (by omega) (by omega) (by omega)
   simp only [Yu.j2,Yu.j1,Vo.f,Vg.f,w64 (x:=i-1) (by omega) (by omega),w64 (x:=i+1) (by omega) (by omega),ha,hb',Option.bind_some]
   repeat' split
   all_goals exact ⟨_,rfl⟩
  split
  ·rw [w64 (by omega) (by omega),if_pos ⟨by omega,by omega⟩,Hy.f,h.tb.cls,Option.bind_some,Option.bind_some]
   exact hj2 _
  ·exact hj2 _
 ·rw [decide_eq_false c]
  exact ⟨true,by rw [if_pos (by simp)],fun _ _=>rfl⟩
theorem Zmf (h:Tq t key pa n pr mk kp jn) (l:List Int) (hl:l.length≤Z5):∃ r,J8.f t l=some r∧((∀ x∈l,x≠8204∧x≠8205)→r=-1):=by
 rw [J8.f]
 refine Xp (fun k i (_:Unit)=>J8.l1 k t l i) l (fun pre r _ o=>∃ q,o=some q∧((∀ x∈r,x≠8204∧x≠8205)→q=-1)) (fun _ k=>?_) (fun pre x r _ k e ih=>?_) () K0 (ltK hl)
 ·exact ⟨-1,by simp only [J8.l1,if_neg (show ¬ (l.length:Int)<(l.length:Int) by omega)],fun _=>rfl⟩
 ·obtain ⟨m1,m2⟩:=mid e
  obtain ⟨b,hb,hb2⟩:=Zkw h l hl _ m2.1 m2.2
  simp only [J8.l1,if_pos m2.2,hb,Option.bind_some,nxt hl e]
  cases b with
  | true=>
   rw [if_neg (by simp)]
   obtain ⟨q,h1,h2⟩:=ih ()
   exact ⟨q,h1,fun hx=>h2 fun y hy=>hx y (by simp [hy])⟩
  | false=>
   rw [if_pos (by simp)]
   exact ⟨_,rfl,fun hx=>by have:=hx x (by simp);rw [m1] at hb2;exact absurd (hb2 this.1 this.2) (by simp)⟩
def Zcn (n:Int) (has:Bool) (l:List Int):List Int:=if has=true then l++[n] else l
theorem Zdb (n:Int) (has:Bool) (l:List Int):(Zcn n has l).length≤l.length+1:=by unfold Zcn;split<;>simp
theorem Zb9 (n:Int) (has:Bool) (l:List Int) (hl:l.length≤10):Xi.f n has l=some (Zcn n has l):=by
 unfold Xi.f Zcn
 split
 ·rw [if_pos (by unfold most;simp;omega)]
 ·rfl
def Zes (l:List Int):Bool:=decide (4≤(l.length:Int))&&decide (runesBytes (sub l 0 4)=(⟨#[120,110,45,45]⟩:ByteArray))
theorem Zd8 (l:List Int):Vt.f l=some (Zes l):=by
 unfold Vt.f Zes Vt.j1
 split
 ·rename_i h
  rw [if_pos ⟨by omega,by omega,h⟩,decide_eq_true h];rfl
 ·rename_i h
  rw [decide_eq_false h];rfl
def Zll (mk:Int→Bool):List Int→Bool
 | []=>false
 | x::_=>mk x
def Zmi (is cod st mk ks jo:Bool):List Int:=Zcn 6 jo (Zcn 5 ks (Zcn 4 mk (Zcn 3 st (Zcn 2 cod (Zcn 1 (!is) [])))))
theorem Zl8 (h:Tq t key pa n pr mk kp jn) (l:List Int) (hl:54*l.length≤Z5):∃ jo,Qy.f t l=some (Zmi (decide (Zd9 key pa n pr l=l)) (Zes l) (l.any fun x=>decide (46=x)) (Zll mk l) (l.any fun x=>!kp x) jo)∧((∀ x∈l,x≠8204∧x≠8205)→jo=false):=by
 have hlb:l.length≤Z5:=by omega
 obtain ⟨q,hq,hq2⟩:=Zmf h l hlb
 have hk:Qn.f l t=some (l.any fun x=>!kp x):=by
  rw [Qn.f,Yp.f]
  have:=Zgw (fun k i=>Yp.l1 k t l i) l (fun x=>!kp x) hlb (fun k=>?_) (fun k pre x r e=>?_)
  ·rw [this,Option.bind_some,Zil]
  ·simp only [Yp.l1,if_neg (show ¬ (l.length:Int)<(l.length:Int) by omega)]
  ·obtain ⟨m1,m2⟩:=mid e
   simp only [Yp.l1,if_pos m2.2,if_pos m2,m1,Uj.f,h.kept,Option.bind_some,nxt hlb e]
 have hc:K2.f l 46=some (l.any fun x=>decide (46=x)):=by
  rw [K2.f,Ztj l 46 hlb,Option.bind_some,Zil]
 refine ⟨decide (0≤q),?_,fun hx=>by rw [hq2 hx];rfl⟩
 have l1:=Zdb 1 (!(decide (Zd9 key pa n pr l=l))) []
 have l2:=Zdb 2 (Zes l) (Zcn 1 (!(decide (Zd9 key pa n pr l=l))) [])
 have l3:=Zdb 3 (l.any fun x=>decide (46=x)) (Zcn 2 (Zes l) (Zcn 1 (!(decide (Zd9 key pa n pr l=l))) []))
 have l4:=Zdb 4 (Zll mk l) (Zcn 3 (l.any fun x=>decide (46=x)) (Zcn 2 (Zes l) (Zcn 1 (!(decide (Zd9 key pa n pr l=l))) [])))
 have l5:=Zdb 5 (l.any fun x=>!kp x) (Zcn 4 (Zll mk l) (Zcn 3 (l.any fun x=>decide (46=x)) (Zcn 2 (Zes l) (Zcn 1 (!(decide (Zd9 key pa n pr l=l))) []))))
 simp only [List.length_nil] at l1
 rw [Qy.f,Zz7 h l hl,Option.bind_some,Zb9 _ _ _ (by simp),Option.bind_some,Zd8,Option.bind_some,Zb9 _ _ _ (by omega),Option.bind_some,hc,Option.bind_some,Zb9 _ _ _ (by omega),Option.bind_some]
 have hj:∀ aa,aa.length≤4→Qy.j1 t l aa=some (Zcn 6 (decide (0≤q)) (Zcn 5 (l.any fun x=>!kp x) aa)):=by
  intro aa ha
  have:=Zdb 5 (l.any fun x=>!kp x) aa
  rw [Qy.j1,hk,Option.bind_some,Zb9 _ _ _ (by omega),Option.bind_some,hq,Option.bind_some,Zb9 _ _ _ (by omega)];rfl
 cases l with
 | nil=>
  rw [if_neg (by simp),Zb9 _ _ _ (by omega),Option.bind_some,hj _ (by simp only [Zll] at l4;omega)];rfl
 | cons x r=>
  rw [if_pos (by simp<;>omega),if_pos ⟨by omega,by simp<;>omega⟩,show rd (x::r) 0=x from rfl,h.mark,Option.bind_some,Zb9 _ _ _ (by omega),Option.bind_some,hj _ (by simp only [Zll] at l4;omega)];rfl
theorem Zkf (l:List Int):Hw.f l=some (l.headD 0):=by
 cases l with
 | nil=>rfl
 | cons x r=>rw [Hw.f,if_neg (by simp<;>omega),if_pos ⟨by omega,by simp<;>omega⟩];rfl
def Ho (l:List Int):Bool:=!(l.any fun p=>decide (p<0∨128≤p))
theorem Zbv (l:List Int) (hl:l.length≤Z5):Up.f l=some (Ho l):=by
 rw [Up.f,Q7.f,Yq.f]
 have:=Zgw (fun k i=>Yq.l1 k l i) l (fun p=>decide (p<0∨128≤p)) hl (fun k=>?_) (fun k pre x r e=>?_)
 ·rw [this,Option.bind_some,Zil];rfl
 ·simp only [Yq.l1,if_neg (show ¬ (l.length:Int)<(l.length:Int) by omega)]
 ·obtain ⟨m1,m2⟩:=mid e
  have ep:Vl.f x=some (decide (x<0∨128≤x)):=by
   unfold Vl.f Vl.j1
   split<;>simp [*]
  simp only [Yq.l1,if_pos m2.2,if_pos m2,m1,ep,Option.bind_some,nxt hl e]
theorem Zki {l F:List Int} (h:Qy.f t l=some F):Uh.f t l=some (decide (F=[])):=by
 rw [Uh.f,h,Option.bind_some]
 cases F<;>simp
 omega
end Go.Proofs.YthoicbafdanmkaaGreatDoor
/- Plain laws: prefixes, hyphens, ASCII labels: the program and the document say the same. Own work of this repo. -/
namespace Go.Proofs.YthoicbafdanmkaaGreatDoor
open Go.RowKit

def eL (r:Int):List UInt8:=(Utf8.encode r).data.toList
theorem Zpe {r:Int} (h0:0≤r) (h1:r<128):eL r=[UInt8.ofNat r.toNat]:=by
 have hv:Utf8.valid r=true:=by simp [Utf8.valid];omega
 have:r.toNat<128:=by omega
 simp only [eL,Utf8.encode,hv,if_true]
 rw [if_pos (by omega)]
theorem Zv6 {n:Nat} (h0:128≤n) (h1:n<256):128≤(UInt8.ofNat n).toNat:=by
 rw [UInt8.toNat_ofNat']
 omega
theorem Zxu {r:Int} (h:r<0∨128≤r):∃ x t,eL r=x::t∧128≤x.toNat:=by
 have hc:∃ c,(if Utf8.valid r then r.toNat else Utf8.runeError)=c∧128≤c∧c<1114112:=by
  refine ⟨_,rfl,?_⟩
  by_cases hv:Utf8.valid r=true
  ·rw [if_pos hv]
   simp [Utf8.valid] at hv
   omega
  ·rw [if_neg hv]
   unfold Utf8.runeError
   omega
 obtain ⟨c,e,h1,h2⟩:=hc
 unfold eL Utf8.encode
 simp only [e]
 rw [if_neg (by omega)]
 split
 ·exact ⟨_,_,rfl,Zv6 (by omega) (by omega)⟩
 ·split
  ·exact ⟨_,_,rfl,Zv6 (by omega) (by omega)⟩
  ·exact ⟨_,_,rfl,Zv6 (by omega) (by omega)⟩
theorem Zqh (l:List Int):∀ (s:ByteArray),(l.foldl (fun r n=>r++Utf8.encode n) s).data.toList=s.data.toList++l.flatMap eL:=by
 induction l with
 | nil=>intro s;simp
 | cons x l ih=>intro s;rw [List.foldl_cons,ih];simp [eL,ByteArray.data_append]
theorem Zdu (l:List Int):(runesBytes l).data.toList=l.flatMap eL:=by
 rw [runesBytes,Zqh];rfl
theorem Zp2 (l:List Int):∀ (s:ByteArray),(l.foldl (fun r n=>r.push (UInt8.ofNat n.toNat)) s).data.toList=s.data.toList++l.map fun n=>UInt8.ofNat n.toNat:=by
 induction l with
 | nil=>intro s;simp
 | cons x l ih=>intro s;rw [List.foldl_cons,ih];simp [ByteArray.push]
theorem Zcq (l:List Int):(K5 l).data.toList=l.map fun n=>UInt8.ofNat n.toNat:=by
 rw [K5,Zp2];rfl
theorem Zuv {a b:ByteArray} (h:a.data.toList=b.data.toList):a=b:=by
 cases a;cases b
 simp only at h
 congr
 exact Array.ext' h
theorem Ziw {r:Int} {x:UInt8} {s t:List UInt8} (hx:x.toNat<128) (h:eL r++s=x::t):r=(x.toNat:Int)∧s=t:=by
 by_cases c:0≤r∧r<128
 ·rw [Zpe c.1 c.2] at h
  simp only [List.cons_append,List.nil_append,List.cons.injEq] at h
  refine ⟨?_,h.2⟩
  rw [← h.1,UInt8.toNat_ofNat']
  omega
 ·obtain ⟨y,u,e,hy⟩:=Zxu (r:=r) (by omega)
  rw [e,List.cons_append] at h
  simp only [List.cons.injEq] at h
  rw [h.1] at hy
  omega
theorem Zjx (l:List Int):Zes l=true↔∃ r,l=120::110::45::45::r:=by
 unfold Zes
 simp only [Bool.and_eq_true,decide_eq_true_eq]
 constructor
 ·rintro ⟨h,e⟩
  match l,h with
  | a::b::c::d::r,_=>
   have e1:=congrArg (fun s:ByteArray=>s.data.toList) e
   simp only [Zdu] at e1
   have e2:sub (a::b::c::d::r) 0 4=[a,b,c,d]:=rfl
   rw [e2] at e1
   simp only [List.flatMap_cons,List.flatMap_nil] at e1
   obtain ⟨h1,e1⟩:=Ziw (by decide) e1
   obtain ⟨h2,e1⟩:=Ziw (by decide) e1
   obtain ⟨h3,e1⟩:=Ziw (by decide) e1
   obtain ⟨h4,e1⟩:=Ziw (by decide) e1
   exact ⟨r,by rw [h1,h2,h3,h4];rfl⟩
 ·rintro ⟨r,rfl⟩
  refine ⟨by simp;omega,?_⟩
  show runesBytes [120,110,45,45]=_
  rfl
end Go.Proofs.YthoicbafdanmkaaGreatDoor
/- Plain laws: what the statements of layer 18 are awake by. Own work of this repo. -/
namespace Go.Proofs.YthoicbafdanmkaaGreatDoor
open Go.RowKit

theorem Zzs:J6.f (⟨#[98,99,104,101,114,45,107,118,97]⟩:ByteArray)=some ([98,252,99,104,101,114],0,0):=by kernel_rfl
theorem Zz0:Vz.f [98,252]=some ((⟨#[98,45,101,104,97]⟩:ByteArray),0,0):=by kernel_rfl
def aB:Bk:=⟨[],[⟨97,122,1⟩,⟨252,252,1⟩],[],[],[],[],[],[],[],[],[]⟩
theorem Zyw:Few aB:=by constructor<;>simp [aB,Z5]
theorem Z0i:okB aB=true:=by kernel_rfl
theorem Zv7:Zaj []:=⟨by simp,rfl⟩
theorem Zex {T:Option Tab} (h:Za3 [] T) (p:Int):Z1.f T p=some 0:=by
 by_cases c:p<0∨1114111<p
 ·exact Zea T p c
 ·exact Zed h Zv7 p (by omega) (by omega)
def pr0 (a b:Int):Int×Bool:=(Xg.f none a b).getD (0,false)
theorem Zgo {α:Type} {p:Prop} [Decidable p] {A B:Option α} (ha:∃ r,A=some r) (hb:∃ r,B=some r):∃ r,(if p then A else B)=some r:=by
 by_cases c:p
 ·rw [if_pos c];exact ha
 ·rw [if_neg c];exact hb
theorem Zj3 {t:Option Tbs} (h:∀ a b,∃ r,Va.f t a b=some r) (a b:Int):∃ r,Xg.f t a b=some r:=by
 have j1:∀ x,∃ r,Xg.j1 t a b x=some r:=by
  intro x
  obtain ⟨r,hr⟩:=h a b
  rw [Xg.j1,hr]
  exact Zgo ⟨_,rfl⟩ ⟨_,rfl⟩
 have j2:∀ x,∃ r,Xg.j2 t a b x=some r:=by
  intro x
  rw [Xg.j2]
  repeat' first | exact j1 _ | exact ⟨_,rfl⟩ | apply Zgo
 rw [Xg.f]
 repeat' first | exact j2 _ | exact ⟨_,rfl⟩ | apply Zgo
theorem Zle (a b:Int):Xg.f none a b=some (pr0 a b):=by
 obtain ⟨r,hr⟩:=Zj3 (t:=none) (fun _ _=>⟨_,rfl⟩) a b
 rw [pr0,hr];rfl
def kp0 (p:Int):Bool:=if p<0∨1114111<p then false else decide (Hn aB.status p=1∨Hn aB.status p=3)
theorem Zvc {t:Tbs} (h:Zhn aB t):Tq (some t) (fun _=>0) (fun _=>[]) 0 pr0 (fun _=>false) kp0 (fun _=>0):=by
 have hd:=Zex h.decomp
 have hc:=Zex h.class_
 have hm:=Zex h.mark
 have hp:=Zex h.maps
 have hj:=Zex h.join
 refine ⟨⟨fun p=>?_,fun _=>Int.le_refl 0,fun p=>?_,fun c=>by simp [Lc],by unfold Z5;omega⟩,fun a b=>?_,fun p=>?_,fun p=>?_,fun p=>?_⟩
 ·simp only [Qf.f,Option.isNone_some,Bool.false_eq_true,if_false,Option.isSome_some,if_true,Option.getD_some,hc,Option.bind_some]
 ·simp only [V1.f,Zax.f,Option.isNone_some,Bool.false_eq_true,if_false,Option.isSome_some,if_true,Option.getD_some,hd,Option.bind_some]
 ·have e:∀ a b,Va.f (some t) a b=Va.f none a b:=fun a b=>by
   simp only [Va.f,Option.isNone_some,Bool.false_eq_true,if_false,Option.isSome_some,if_true,Option.getD_some,h.pairs rfl]
   rfl
  rw [← Zle a b]
  simp only [Xg.f,Xg.j2,Xg.j1,e]
 ·simp only [Qw.f,Qw.j1,Option.isSome_some,if_true,Option.getD_some,hm,Option.bind_some];rfl
 ·have hs:Z1.f t.status p=some (if p<0∨1114111<p then 0 else Hn aB.status p):=by
   by_cases c:p<0∨1114111<p
   ·rw [if_pos c];exact Zea _ p c
   ·rw [if_neg c];exact Zed h.status ⟨by simp [aB],by kernel_rfl⟩ p (by omega) (by omega)
  simp only [Qv.f,Qv.j1,Kp.f,Option.isNone_some,Bool.false_eq_true,if_false,Option.isSome_some,if_true,Option.getD_some,hp,Option.bind_some,Int.lt_irrefl,hs,kp0]
  by_cases c:p<0∨1114111<p
  ·simp [c]
  ·simp only [if_neg c]
   by_cases c1:Hn aB.status p=1
   ·simp [c1]
   ·simp [c1]
 ·simp only [Vd.f,Option.isNone_some,Bool.false_eq_true,if_false,Option.isSome_some,if_true,Option.getD_some,hj,Option.bind_some]
theorem Zgq {t:Tbs} (h:Zhn aB t) (l:List Int) (hl:54*l.length≤Z5) (h1:Zd9 (fun _=>0) (fun _=>[]) 0 pr0 l=l) (h2:Zes l=false) (h3:(l.any fun x=>decide (46=x))=false) (h4:(l.any fun x=>!kp0 x)=false) (h5:∀ x∈l,x≠8204∧x≠8205):
  Qy.f (some t) l=some []:=by
 obtain ⟨jo,e,hj⟩:=Zl8 (Zvc h) l hl
 have hh:Zll (fun _=>false) l=false:=by cases l<;>rfl
 rw [e,hj h5,h1,h2,h3,h4,hh,decide_eq_true rfl];rfl
theorem Zwq:K4.f=some true:=by
 obtain ⟨t,h1,h2⟩:=Zj4 aB Zyw Z0i
 have hw:([98,252,99,104,101,114]:List Int).length≤Z5:=by unfold Z5;simp
 have f1:=Zgq h2 [98,252,99,104,101,114] (by unfold Z5;simp) (by kernel_rfl) (by kernel_rfl) (by kernel_rfl) (by kernel_rfl) (by decide)
 have f2:=Zgq h2 [97] (by unfold Z5;simp) (by kernel_rfl) (by kernel_rfl) (by kernel_rfl) (by kernel_rfl) (by decide)
 have r1:Vq.f (some t) [120,110,45,45,98,99,104,101,114,45,107,118,97]=some ⟨[98,252,99,104,101,114],true,0⟩:=by
  have e1:Zes [120,110,45,45,98,99,104,101,114,45,107,118,97]=true:=by kernel_rfl
  have e2:Ho [120,110,45,45,98,99,104,101,114,45,107,118,97]=true:=by kernel_rfl
  have e3:Ho [98,252,99,104,101,114]=false:=by kernel_rfl
  have e4:runesBytes (sub [120,110,45,45,98,99,104,101,114,45,107,118,97] 4 (([120,110,45,45,98,99,104,101,114,45,107,118,97]:List Int).length:Int))=⟨#[98,99,104,101,114,45,107,118,97]⟩:=by kernel_rfl
  rw [Vq.f,Zhu _ (by unfold Z5;simp),Option.bind_some,Zd8,Option.bind_some,e1,if_neg (by decide),Zbv _ (by unfold Z5;simp),Option.bind_some,e2,if_neg (by decide),if_pos (by simp),e4,Zzs,Option.bind_some,if_neg (by simp)]
  simp only [Zbv _ hw,e3,Option.bind_some,Bool.false_eq_true,if_false,f1,Zkf];rfl
 have r2:V0.f [98,252]=some ((⟨#[120,110,45,45,98,45,101,104,97]⟩:ByteArray),0,0):=by
  have e1:Ho [98,252]=false:=by kernel_rfl
  rw [V0.f,Zbv _ (by unfold Z5;simp),Option.bind_some,e1,if_neg (by decide),Zz0,Option.bind_some,if_neg (by simp),if_pos (by decide)]
  rfl
 have r3:=Zki f2
 rw [K4.f]
 rw [show (⟨([]:List ByteArray),[(⟨97,122,1⟩:Val),(⟨252,252,1⟩:Val)],([]:List Chs),([]:List Val),([]:List Chs),([]:List Spn),([]:List Val),([]:List Val),([]:List Spn),([]:List Val),([]:List Chs)⟩:Bk)=aB from rfl,h1,Option.bind_some]
 simp only [r1,r2,r3,Option.bind_some,K4.j1,if_true]
 rfl
end Go.Proofs.YthoicbafdanmkaaGreatDoor
/- Plain laws: a label in ASCII, but for what has to be encoded. Own work of this repo. -/
namespace Go.Proofs.YthoicbafdanmkaaGreatDoor
open Go.IntKind (i8 i16 i32 i64 u8 u16 u32 u64)
open Go.RowKit

theorem Zhh {l:List Int} (h:Ho l=true):∀ x∈l,0≤x∧x<128:=by
 intro x hx
 simp only [Ho,Bool.not_eq_true',List.any_eq_false,decide_eq_true_eq] at h
 have:=h x hx
 omega
theorem Zef {x:Int} (h0:0≤x) (h1:x<256):u8.wrap x=x:=by rw [IntKind.wrap_u8];omega
theorem Zib {l:List Int} (h:Ho l=true):runesBytes l=K5 l:=by
 apply Zuv
 rw [Zdu,Zcq]
 have:∀ m:List Int,(∀ x∈m,0≤x∧x<128)→m.flatMap eL=m.map fun n=>UInt8.ofNat n.toNat:=by
  intro m
  induction m with
  | nil=>intro _;rfl
  | cons x m ih=>
   intro hm
   have hx:=hm x (by simp)
   rw [List.flatMap_cons,Zpe hx.1 hx.2,ih fun y hy=>hm y (by simp [hy])];rfl
 exact this l (Zhh h)
end Go.Proofs.YthoicbafdanmkaaGreatDoor
/- Plain laws: the parts of Punycode that the program and the document share. Own work of this repo. -/
namespace Go.Proofs.YthoicbafdanmkaaGreatDoor
open Go.IntKind (i8 i16 i32 i64 u8 u16 u32 u64)
open Go.RowKit

abbrev pU:S11:=⟨36,1,26,38,700,72,128,45⟩
theorem Zkc (k b:Int):Kl.f pU k b=Ug.f k b:=by
 unfold Kl.f Ug.f
 simp only
 split
 ·congr 1;omega
 ·split<;>(congr 1;omega)
theorem Zq7 (k b:Int):∃ t,Ug.f k b=some t∧1≤t∧t≤26:=by
 unfold Ug.f
 split
 ·exact ⟨1,rfl,by omega,by omega⟩
 ·split
  ·exact ⟨26,rfl,by omega,by omega⟩
  ·exact ⟨_,rfl,by omega,by omega⟩
theorem Zhk (d:Int):H9.f d=Zbh.f d:=rfl
theorem Zt3 (c:Int):Kh.f c=Q8.f c:=by
 simp only [Kh.f,Q8.f,Kh.j3,Q8.j3,Kh.j2,Q8.j2,Kh.j1,Q8.j1]
theorem Zhg (c:Int) (h0:0≤c) (h1:c<256):∃ d,Q8.f c=some d∧-1≤d∧d<36:=by
 have w8:∀ x:Int,0≤x→x<256→u8.wrap x=x:=fun x a b=>Zef a b
 simp only [Q8.f,Q8.j3,Q8.j2,Q8.j1]
 by_cases a1:97≤c
 ·rw [if_pos a1]
  by_cases a2:c≤122
  ·rw [decide_eq_true a2,if_pos rfl,w8 _ (by omega) (by omega),w64 (by omega) (by omega)];exact ⟨_,rfl,by omega,by omega⟩
  ·rw [decide_eq_false a2,if_neg (by decide),if_pos (by omega),decide_eq_false (by omega),if_neg (by decide),if_pos (by omega),decide_eq_false (by omega),if_neg (by decide)];exact ⟨_,rfl,by omega,by omega⟩
 ·rw [if_neg a1,if_neg (by decide)]
  by_cases a3:65≤c
  ·rw [if_pos a3]
   by_cases a4:c≤90
   ·rw [decide_eq_true a4,if_pos rfl,w8 _ (by omega) (by omega),w64 (by omega) (by omega)];exact ⟨_,rfl,by omega,by omega⟩
   ·rw [decide_eq_false a4,if_neg (by decide),if_pos (by omega),decide_eq_false (by omega),if_neg (by decide)];exact ⟨_,rfl,by omega,by omega⟩
  ·rw [if_neg a3,if_neg (by decide)]
   by_cases a5:48≤c
   ·rw [if_pos a5]
    by_cases a6:c≤57
    ·rw [decide_eq_true a6,if_pos rfl,w8 _ (by omega) (by omega),w64 (x:=c-48) (by omega) (by omega),w64 (by omega) (by omega)];exact ⟨_,rfl,by omega,by omega⟩
    ·rw [decide_eq_false a6,if_neg (by decide)];exact ⟨_,rfl,by omega,by omega⟩
   ·rw [if_neg a5,if_neg (by decide)];exact ⟨_,rfl,by omega,by omega⟩
theorem Zli (c:Int) (h0:0≤c) (h1:c<256):V5.f pU c=Q8.f c:=by
 obtain ⟨d,h2,h3,h4⟩:=Zhg c h0 h1
 rw [V5.f,Zt3,h2,Option.bind_some,if_pos (by exact h4)]
theorem Zn7:∀ (k:Nat) (a b:Int),Y9.l1 k pU a b=Q9.l1 k a b
 | 0,_,_=>rfl
 | k+1,a,b=>by
  have e1:i64.wrap (36-1)=35:=by rw [IntKind.wrap_i64];decide
  have e2:i64.wrap (35*26)=910:=by rw [IntKind.wrap_i64];decide
  have e3:i64.wrap ((910:Int).tdiv 2)=455:=by rw [IntKind.wrap_i64];decide
  have e4:i64.wrap (35+1)=36:=by rw [IntKind.wrap_i64];decide
  simp only [Y9.l1,Q9.l1,e1,e2,e3,e4,Zn7 k,ne_eq,if_pos (show ¬ (35:Int)=0 by decide)]
theorem Zjn (d p:Int) (f:Bool):Y9.f pU d p f=Q9.f d p f:=by
 simp only [Y9.f,Q9.f,Y9.j1,Q9.j1,Zn7,ne_eq,if_pos (show ¬ (700:Int)=0 by decide)]
end Go.Proofs.YthoicbafdanmkaaGreatDoor
