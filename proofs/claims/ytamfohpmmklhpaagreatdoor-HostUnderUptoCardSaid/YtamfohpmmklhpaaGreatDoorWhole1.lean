/- Texts of this repo, merged for the claim: EngZ, EngZ9, EngX, EngY, EngY2, Facts, Shel, Hpe, EngW, Ia, Hia, Join, Data, TP0, TP1. -/
import Derived.Test.YtamfohpmmklhpaaGreatDoorWhole0
import Derived.Test.YtamfohpmmklhpaaGreatDoorChecked
import Derived.Shelf.Strings.Builder1
import Derived.Shelf.Strconv.Itoa3
import Derived.Shelf.Strings.Search3
import Derived.Shelf.Strings.Count
import Derived.Shelf.Strings.IndexAnyAll
import Derived.Shelf.Unicode.DecodeAny
import Derived.Laws.RangeString
import Derived.Scope
import Derived.Test.YtamfohpmmklhpaaGreatDoorProg
import Derived.KernelRfl
import Derived.Laws.IdiomRangeMap
import Derived.Shelf.RegionOpenPlain
import Derived.Laws.Runes
import Derived.Shelf.Small.Utf8
import Derived.LoopN
set_option autoImplicit true
set_option relaxedAutoImplicit true
namespace Go.Proofs.YtamfohpmmklhpaaGreatDoor
open Tryz
open Go.RowKit
set_option maxRecDepth 100000
set_option maxHeartbeats 4000000
open Go.IntKind (i8 i16 i32 i64 u8 u16 u32 u64)
set_option linter.unusedVariables false
section
section
variable {P:Program} {n:Nat} {N:Nxt} {X:Nat->Nxt} {R:Nxt} {L:Loc} {w w0:World} {ops:Array Oper} {rest:List Oper} {d t:Nat} {pos:String} {aft:Array Edge} {ρ:Hp} {Γ:List Kh} {x y:Operand}
def ikn:IntKind->Nat
 | .i8=>0 | .i16=>1 | .i32=>2 | .i64=>3 | .u8=>4 | .u16=>5 | .u32=>6 | .u64=>7
theorem Z4e:∀ {a b:IntKind},Nat.beq (ikn a) (ikn b)=true->a=b:=by
 intro a b h;cases a<;>cases b<;>first | rfl | (exact absurd h (by decide))
def Z6k (k:IntKind) (p q:Int):BinOp->Option Value
 | .add=>some (.int k (k.wrap (p+q)))
 | .sub=>some (.int k (k.wrap (p-q)))
 | .mul=>some (.int k (k.wrap (p*q)))
 | .eql=>some (.bool (decide (p=q)))
 | .neq=>some (.bool (decide (p≠q)))
 | .lss=>some (.bool (decide (p<q)))
 | .leq=>some (.bool (decide (p<=q)))
 | .gtr=>some (.bool (decide (q<p)))
 | .geq=>some (.bool (decide (q<=p)))
 | _=>none
def opV (L:Loc):Op->Option Value
 | .move x=>ev L x
 | .assign x=>ev L x
 | .pick c x y=>match ev L c with
  | some (.bool true)=>ev L x
  | some (.bool false)=>ev L y
  | _=>none
 | .extract tu i=>match ev L tu with
  | some (.tuple vs)=>vs[i]?
  | _=>none
 | .unOp .not _ x=>match ev L x with
  | some (.bool b)=>some (.bool (!b))
  | _=>none
 | .nilCheck x=>match ev L x with
  | some (.pointer (some a))=>some (.pointer (some a))
  | _=>none
 | .binOp op _ x y _=>match ev L x with
  | some (.int k p)=>match ev L y with
   | some (.int k' q)=>bif Nat.beq (ikn k) (ikn k') then Z6k k p q op else none
   | _=>none
  | _=>none
 | _=>none
theorem Z74 (h:opV L op=some v):Y P n L w op t v:=by
 unfold opV at h;split at h
 ·exact Qf h
 ·exact Y8 h
 ·split at h
  ·rename_i e;exact Kp e h
  ·rename_i e;exact Ql e h
  ·cases h
 ·split at h
  ·rename_i e;exact Zx1 e h
  ·cases h
 ·split at h
  ·rename_i e;cases h;exact Zzy e
  ·cases h
 ·split at h
  ·rename_i e;cases h;exact V3 e
  ·cases h
 ·split at h
  ·rename_i e1
   split at h
   ·rename_i k p _ k' q e2
    cases hb:Nat.beq (ikn k) (ikn k') with
    | false=>rw [hb] at h;cases h
    | true=>
     rw [hb] at h;have h:Z6k k p q _=some v:=h;obtain rfl:=Z4e hb;unfold Z6k at h;split at h<;>first | cases h;done | (cases h;first | exact Zb0 e1 e2 | exact Zet e1 e2 | exact Z7o e1 e2 | exact Zcd e1 e2 | exact Zwe e1 e2 | exact Zda e1 e2 | exact Zsh e1 e2 | exact Zje e1 e2 | exact Zsg e1 e2)
   ·cases h
  ·cases h
 ·cases h
def gU:Option Value->Bool
 | some (.tuple ⟨[]⟩)=>true
 | _=>false
theorem Z4d (h:gU o=true):o=some undef:=by
 unfold gU at h;split at h
 ·rfl
 ·cases h
def Zly (n:Nat) (ops:Array Oper):Nat->List Oper->Loc->Option (List Oper×Loc)
 | 0,l,L=>some (l,L)
 | _+1,[],_=>none
 | k+1,⟨dst,op,t,pos,aft,g⟩::l,L=>match g with
  | none=>match dst with
   | some d=>bif Nat.blt d n then (match opV L op with
    | some v=>Zly n ops k l ((d,v)::L)
    | none=>none) else none
   | none=>none
  | some (j,b)=>bif gB (gdv ops L j) b then Zly n ops k (⟨dst,op,t,pos,aft,none⟩::l) L else
   bif gB (gdv ops L j) (!b) then (match dst with
    | some d=>bif Nat.blt d n then Zly n ops k l ((d,undef)::L) else none
    | none=>none) else
   bif gU (gdv ops L j) then (match dst with
    | some d=>bif Nat.blt d n then Zly n ops k l ((d,undef)::L) else none
    | none=>none) else none
theorem Zh1:∀ (k:Nat) {l l':List Oper} {L L':Loc},Zly n ops k l L=some (l',L')->O P n ops l' N L' w->O P n ops l N L w
 | 0,l,l',L,L',h,K=>by
  simp only [Zly,Option.some.injEq,Prod.mk.injEq] at h
  obtain ⟨rfl,rfl⟩:=h
  exact K
 | k+1,[],_,_,_,h,_=>by simp [Zly] at h
 | k+1,⟨dst,op,t,pos,aft,g⟩::l,l',L,L',h,K=>by
  rw [Zly.eq_def] at h
  simp only at h
  cases g with
  | none=>
   simp only at h
   cases dst with
   | none=>cases h
   | some d=>
    simp only at h
    cases hd:Nat.blt d n with
    | false=>rw [hd] at h;cases h
    | true=>
     rw [hd] at h
     simp only [cond_true] at h
     split at h
     ·rename_i v hv
      exact O_y hd (Z74 hv) (Zh1 k h K)
     ·cases h
  | some jb=>
   obtain ⟨j,b⟩:=jb
   simp only at h
   cases hg:gB (gdv ops L j) b with
   | true=>rw [hg] at h;exact Oe hg (Zh1 k h K)
   | false=>
    rw [hg] at h
    simp only [cond_false] at h
    cases hg2:gB (gdv ops L j) (!b) with
    | false=>
     rw [hg2] at h
     simp only [cond_false] at h
     cases hu:gU (gdv ops L j) with
     | false=>rw [hu] at h;cases h
     | true=>
      rw [hu] at h
      simp only [cond_true] at h
      cases dst with
      | none=>cases h
      | some d=>
       simp only at h
       cases hd:Nat.blt d n with
       | false=>rw [hd] at h;cases h
       | true=>
        rw [hd] at h
        obtain ⟨dj,h1,h2⟩:=Zf4 (Z4d hu)
        exact Qa h1 h2 hd (Zh1 k h K)
    | true=>
     rw [hg2] at h
     simp only [cond_true] at h
     cases dst with
     | none=>cases h
     | some d=>
      simp only at h
      cases hd:Nat.blt d n with
      | false=>rw [hd] at h;cases h
      | true=>rw [hd] at h;exact On (by rw [hd,hg2];rfl) (Zh1 k h K)
theorem Rn (k:Nat) (h:Zly n ops k rest L=some (l',L')) (K:O P n ops l' N L' w):O P n ops rest N L w:=Zh1 k h K
theorem Rx (k:Nat) (h:Zly n ops k rest L=some ([],L')) (K:N L' w):O P n ops rest N L w:=Zh1 k h (Zf K)
section
variable {id:Nat} {l:List Oper} {c:Code}
theorem Wsq (h:W P n c1 (W P n c2 N X R) X R L w):W P n (.seq c1 c2) N X R L w:=by
 intro a ha;refine wp_seq (wp_mono (h a ha) ?_);intro e a' w' hq
 cases e with
 | normal=>obtain ⟨L',hs,hw⟩:=hq;exact hw a' hs
 | exit i=>exact hq
 | ret=>exact hq
 | goto l=>exact hq
 | panic c=>exact hq
 | outgrown=>exact hq
theorem Wbk (h:W P n c N (λj L w=>bif Nat.beq j i then N L w else X j L w) R L w):W P n (.block i c) N X R L w:=by
 intro a ha;refine wp_block (wp_mono (h a ha) ?_);intro e a' w' hq
 cases e with
 | exit j=>
  obtain ⟨L',hs,hx⟩:=hq;simp only [Exit.inBlock];by_cases hj:j=i
  ·subst hj;simp at hx;rw [if_pos rfl];exact ⟨L',hs,hx⟩
  ·rw [if_neg hj]
   have:Nat.beq j i=false:=by
    cases hb:Nat.beq j i with
    | false=>rfl
    | true=>exact absurd (Nat.eq_of_beq_eq_true hb) hj
   rw [this] at hx;exact ⟨L',hs,hx⟩
 | normal=>exact hq
 | ret=>exact hq
 | goto l=>exact hq
 | panic c=>exact hq
 | outgrown=>exact hq
theorem We (h:N L w):W P n (.exit i) M (λj L w=>bif Nat.beq j i then N L w else X j L w) R L w:=Zfr (by rw [Nat.beq_refl];exact h)
theorem Wq (h:O P n l.toArray l (W P n c N X R) L w):W P n (.seq (.region id l.toArray false) c) N X R L w:=Wsq (Zc h)
theorem Wn (k:Nat) (h:Zly n l.toArray k l L=some (l',L')) (K:O P n l.toArray l' (W P n c N X R) L' w):W P n (.seq (.region id l.toArray false) c) N X R L w:=Wq (Rn k h K)
theorem Wa (k:Nat) (h:Zly n l.toArray k l L=some ([],L')) (K:W P n c N X R L' w):W P n (.seq (.region id l.toArray false) c) N X R L w:=Wq (Rx k h K)
end
section
variable {α β γ δ ε:Type} {A:Type} {r:A} {c:Code}
theorem Lp1 (F:α->Loc) (h:Nat->α->Option A) (J:α->World->Prop) (a0:α) (hs:Sub (F a0) L) (H:h K0 a0=some r) (h0:J a0 w) (round:∀ {N':Nxt} (f:Nat) (a:α) (w:World),h (f+1) a=some r->J a w->(∀ a' {L' w'},Sub (F a') L'->h f a'=some r->J a' w'->N' L' w')->W P n c N' X R (F a) w) (hz:∀ a,h 0 a=none:=by intros;rfl):W P n (.loop c) N X R L w:=
 Zen (σ:=Nat×α) (λs=>F s.2) (λs w=>h s.1 s.2=some r/\J s.2 w) (λs=>s.1) (K0,a0) hs ⟨H,h0⟩ (λs w N' hi k=>by
  obtain ⟨f,a⟩:=s
  cases f with
  | zero=>have:=hi.1;rw [hz] at this;cases this
  | succ f=>exact round f a w hi.1 hi.2 λa' L' w' h1 h2 h3=>k (f,a') L' w' h1 ⟨h2,h3⟩ (Nat.lt_succ_self _))
theorem Lp2 (F:α->β->Loc) (h:Nat->α->β->Option A) (J:α->β->World->Prop) (a0:α) (b0:β) (hs:Sub (F a0 b0) L) (H:h K0 a0 b0=some r) (h0:J a0 b0 w) (round:∀ {N':Nxt} (f:Nat) (a:α) (b:β) (w:World),h (f+1) a b=some r->J a b w->(∀ a' b' {L' w'},Sub (F a' b') L'->h f a' b'=some r->J a' b' w'->N' L' w')->W P n c N' X R (F a b) w) (hz:∀ a b,h 0 a b=none:=by intros;rfl):W P n (.loop c) N X R L w:=
 Lp1 (λs:α×β=>F s.1 s.2) (λf s=>h f s.1 s.2) (λs w=>J s.1 s.2 w) (a0,b0) hs H h0 (λf s w H hs k=>round f s.1 s.2 w H hs λa b L' w' x y z=>k (a,b) x y z) (λ_=>hz ..)
theorem Lp3 (F:α->β->γ->Loc) (h:Nat->α->β->γ->Option A) (J:α->β->γ->World->Prop) (a0:α) (b0:β) (c0:γ) (hs:Sub (F a0 b0 c0) L) (H:h K0 a0 b0 c0=some r) (h0:J a0 b0 c0 w) (round:∀ {N':Nxt} (f:Nat) (a:α) (b:β) (e:γ) (w:World),h (f+1) a b e=some r->J a b e w->(∀ a' b' c' {L' w'},Sub (F a' b' c') L'->h f a' b' c'=some r->J a' b' c' w'->N' L' w')->W P n c N' X R (F a b e) w) (hz:∀ a b e,h 0 a b e=none:=by intros;rfl):W P n (.loop c) N X R L w:=
 Lp2 (λa (s:β×γ)=>F a s.1 s.2) (λf a s=>h f a s.1 s.2) (λa s w=>J a s.1 s.2 w) a0 (b0,c0) hs H h0 (λf a s w H hs k=>round f a s.1 s.2 w H hs λa b e L' w' x y z=>k a (b,e) x y z) (λ_ _=>hz ..)
theorem Lp4 (F:α->β->γ->δ->Loc) (h:Nat->α->β->γ->δ->Option A) (J:α->β->γ->δ->World->Prop) (a0:α) (b0:β) (c0:γ) (d0:δ) (hs:Sub (F a0 b0 c0 d0) L) (H:h K0 a0 b0 c0 d0=some r) (h0:J a0 b0 c0 d0 w) (round:∀ {N':Nxt} (f:Nat) (a:α) (b:β) (e:γ) (g:δ) (w:World),h (f+1) a b e g=some r->J a b e g w->(∀ a' b' c' d' {L' w'},Sub (F a' b' c' d') L'->h f a' b' c' d'=some r->J a' b' c' d' w'->N' L' w')->W P n c N' X R (F a b e g) w) (hz:∀ a b e g,h 0 a b e g=none:=by intros;rfl):W P n (.loop c) N X R L w:=
 Lp3 (λa b (s:γ×δ)=>F a b s.1 s.2) (λf a b s=>h f a b s.1 s.2) (λa b s w=>J a b s.1 s.2 w) a0 b0 (c0,d0) hs H h0 (λf a b s w H hs k=>round f a b s.1 s.2 w H hs λa b e g L' w' x y z=>k a b (e,g) x y z) (λ_ _ _=>hz ..)
theorem Lp5 (F:α->β->γ->δ->ε->Loc) (h:Nat->α->β->γ->δ->ε->Option A) (J:α->β->γ->δ->ε->World->Prop) (a0:α) (b0:β) (c0:γ) (d0:δ) (e0:ε) (hs:Sub (F a0 b0 c0 d0 e0) L) (H:h K0 a0 b0 c0 d0 e0=some r) (h0:J a0 b0 c0 d0 e0 w) (round:∀ {N':Nxt} (f:Nat) (a:α) (b:β) (e:γ) (g:δ) (i:ε) (w:World),h (f+1) a b e g i=some r->J a b e g i w->(∀ a' b' c' d' e' {L' w'},Sub (F a' b' c' d' e') L'->h f a' b' c' d' e'=some r->J a' b' c' d' e' w'->N' L' w')->W P n c N' X R (F a b e g i) w) (hz:∀ a b e g i,h 0 a b e g i=none:=by intros;rfl):W P n (.loop c) N X R L w:=
 Lp4 (λa b e (s:δ×ε)=>F a b e s.1 s.2) (λf a b e s=>h f a b e s.1 s.2) (λa b e s w=>J a b e s.1 s.2 w) a0 b0 c0 (d0,e0) hs H h0 (λf a b e s w H hs k=>round f a b e s.1 s.2 w H hs λa b e g i L' w' x y z=>k a b e (g,i) x y z) (λ_ _ _ _=>hz ..)
end
end
end
section
section
variable {P:Program} {n:Nat} {N:Nxt} {X:Nat->Nxt} {R:Nxt} {L:Loc} {w w0:World} {ρ:Hp} {Γ:List Kh} {α:Type} {a b e:Option α} {x y:Code} {o:Operand}
theorem gR (H:some c=some r) {F:α->Value} {Q:World->Prop} (hr:rtv fn L=some (F c)) (h:Q w):W P n .ret N X (Ret P n fn λv w'=>v=F r/\Q w') L w:=by
 cases H;exact Zh (r1 hr ⟨rfl,h⟩)
section
variable {p:Prop} [Decidable p] (H:(if p then a else b)=e) (hc:ev L o=some (.bool (decide p)))
include H hc
theorem gIW (ht:p->a=e->W P n x N X R L w) (hf:¬ p->b=e->W P n y N X R L w):W P n (.cond o x y) N X R L w:=Yp hc (λh=>ht h ((if_pos h).symm.trans H)) (λh=>hf h ((if_neg h).symm.trans H))
theorem gIV (ht:a=e->W P n x N X R L w) (hf:b=e->W P n y N X R L w):W P n (.cond o x y) N X R L w:=gIW H hc (λ_=>ht) (λ_=>hf)
end
section
variable {t:Bool} (H:(if t=true then a else b)=e) (hc:ev L o=some (.bool t))
include H hc
theorem gJW (ht:t=true->a=e->W P n x N X R L w) (hf:t=false->b=e->W P n y N X R L w):W P n (.cond o x y) N X R L w:=Yo hc (λh=>ht h ((if_pos h).symm.trans H)) (λh=>hf h ((if_neg (by rw [h];exact Bool.false_ne_true)).symm.trans H))
theorem gJV (ht:a=e->W P n x N X R L w) (hf:b=e->W P n y N X R L w):W P n (.cond o x y) N X R L w:=gJW H hc (λ_=>ht) (λ_=>hf)
end
theorem gI1 {p:Prop} [Decidable p] {Q S T:Prop} (H:(if p then a else b)=e) (k:(p->Q)->(¬ p->S)->T) (f:a=e->Q) (g:b=e->S):T:=k (λh=>f ((if_pos h).symm.trans H)) (λh=>g ((if_neg h).symm.trans H))
theorem gJ1 {Q S T:Prop} (H:(if t=true then a else b)=e) (k:(t=true->Q)->(t=false->S)->T) (f:a=e->Q) (g:b=e->S):T:=k (λh=>f ((if_pos h).symm.trans H)) (λh=>g ((if_neg (by rw [h];exact Bool.false_ne_true)).symm.trans H))
end
abbrev gK (f:FuncId) (vs:List Value) (w0:World) (ρ:Hp) (Γ:List Kh) (w:World) (X:Value):Prop:=Zk prog f vs w λv w'=>v=X/\St w0 ρ Γ w'
end
section
open Go.RowKit Go.MapKept
section
variable {P:Program} {n:Nat} {L:Loc} {w:World} {t xt yt:TypeId} {x y:Operand}
structure ArT (P:Program) (t e m:Nat) (k:IntKind):Prop where
 under:P.underlying t=some (.array m e)
 info:(P.info? e).isSome=true
 one:P.cellsOf e=1
 int:P.underlying e=some (.int k)
 flat:Y9 P e=some false
 agg:Y9 P t=some true
 size:Qi P t=some m
 free:P.eqGuardType P.depth t=false
theorem ArT.eq (h:ArT P t e m k) (h1:xs.length=m) (h2:ys.length=m) (w:World):(Op.equalIn (d+1+1) t (.agg (acs k xs).toArray) (.agg (acs k ys).toArray)).run P w=.ok (decide (xs=ys)) w:=by
 obtain ⟨inf,hi⟩:=Option.isSome_iff_exists.1 h.info;rw [run_equalIn_array w (d+1) _ _ h.under hi,h.one,Zfu h.int h.flat d xs ys (by omega) (List.range m) (λi hi=>by rw [h1];exact List.mem_range.1 hi),Zjj h1 h2]
theorem Zwp:∀ (ks:List FK) (xs ys:List Value) (b:Bool),eqK ks xs ys=some b->xs.length=ks.length/\ys.length=ks.length
 | [],[],[],_,_=>⟨rfl,rfl⟩
 | [],[],_::_,_,h=>by simp [eqK] at h
 | [],_::_,_,_,h=>by simp [eqK] at h
 | k::ks,[],ys,_,h=>by cases k<;>simp [eqK] at h
 | k::ks,x::xs,[],_,h=>by cases k<;>cases x<;>simp [eqK] at h
 | k::ks,x::xs,y::ys,b,h=>by
  have key:∃ r,eqK ks xs ys=some r:=by
   cases k<;>cases x<;>cases y<;>first
    | (simp [eqK] at h;done)
    | (unfold eqK at h;split at h;(obtain ⟨r,hr,_⟩:=Option.map_eq_some_iff.1 h;exact ⟨r,hr⟩);(cases h;done))
    | (obtain ⟨r,hr,_⟩:=Option.map_eq_some_iff.1 h;exact ⟨r,hr⟩)
  obtain ⟨r,hr⟩:=key
  have:=Zwp ks xs ys r hr
  exact ⟨by rw [List.length_cons,List.length_cons,this.1],by rw [List.length_cons,List.length_cons,this.2]⟩
theorem Zpp:∀ {fs:List Field} {o:Nat} {ks:List FK},Zpo P o fs=some ks->ks.length=fs.length
 | [],_,_,h=>by obtain rfl:=Option.some.inj h;rfl
 | f::fs,o,ks,h=>by
  unfold Zpo at h
  cases hb:((f.name == "_")||!(Nat.beq f.offset o)) with
  | true=>rw [hb] at h;cases h
  | false=>
   rw [hb] at h
   simp only [cond_false] at h
   split at h
   ·rename_i k ks' hk hks
    obtain rfl:=Option.some.inj h
    rw [List.length_cons,List.length_cons,Zpp hks]
   ·cases h
theorem Zie (d:Nat) (T:List Field):∀ (fs:List Field) (ks:List FK) (pre pre' xs ys zs zs':List Value) (b b':Bool),Zpo P pre.length fs=some ks->pre.length=pre'.length->eqK ks xs ys=some b->
  (∀ w,(Op.eqFields (d+1) (pre++(xs++zs)).toArray (pre'++(ys++zs')).toArray T).run P w=.ok b' w)->∀ w,(Op.eqFields (d+1) (pre++(xs++zs)).toArray (pre'++(ys++zs')).toArray (fs++T)).run P w=.ok (b&&b') w
 | [],ks,pre,pre',xs,ys,zs,zs',b,b',h1,_,h3,hT,w=>by
  obtain rfl:=Option.some.inj h1
  cases xs with
  | nil=>
   cases ys with
   | nil=>obtain rfl:=Option.some.inj h3;rw [List.nil_append,Bool.true_and];exact hT w
   | cons _ _=>cases h3
  | cons _ _=>cases h3
 | f::fs,ks,pre,pre',xs,ys,zs,zs',b,b',h1,h2,h3,hT,w=>by
  unfold Zpo at h1
  cases hb:((f.name == "_")||!(Nat.beq f.offset pre.length)) with
  | true=>rw [hb] at h1;cases h1
  | false=>
   rw [hb] at h1
   simp only [cond_false] at h1
   simp only [Bool.or_eq_false_iff,Bool.not_eq_false'] at hb
   obtain ⟨hn,ho⟩:=hb
   have ho:=Nat.eq_of_beq_eq_true ho
   have hn:f.name≠ "_":=λe=>by rw [e] at hn;exact absurd hn (by decide)
   split at h1
   ·rename_i k ks' hk hks
    obtain rfl:=Option.some.inj h1
    obtain ⟨td,hu,hk⟩:=Option.bind_eq_some_iff.1 hk
    have step:∀ (u v:Value) (us vs:List Value) (c r:Bool),xs=u::us->ys=v::vs->(Op.equalIn (d+1) f.type u v).run P w=.ok c w->eqK ks' us vs=some r->b=(c&&r)->(Op.eqFields (d+1) (pre++(xs++zs)).toArray (pre'++(ys++zs')).toArray (f::fs++T)).run P w=.ok (b&&b') w:=by
     rintro u v us vs c r rfl rfl he hr rfl;have e2:pre'.length=f.offset:=by omega
     have p1:=Zp7 hu hk pre u (us++zs) w;have p2:=Zp7 hu hk pre' v (vs++zs') w;rw [<- ho] at p1;rw [e2] at p2;simp only [List.cons_append,Op.eqFields,if_pos hn,Sem.run_bind,p1,p2,Result.andThen,he]
     cases c with
     | false=>rfl
     | true=>
      simp only [Bool.not_true,Bool.false_eq_true,if_false,Bool.true_and];have:=Zie d T fs ks' (pre++[u]) (pre'++[v]) us vs zs zs' r b' (by rw [List.length_append];exact hks) (by simp [h2]) hr (λw=>by simpa using hT w) w;simpa using this
    cases k with
    | b=>
     cases xs with
     | nil=>cases h3
     | cons u us=>
      cases ys with
      | nil=>cases u<;>cases h3
      | cons v vs=>
       cases u with
       | bool a=>
        cases v with
        | bool c=>
         obtain ⟨r,hr,rfl⟩:=Option.map_eq_some_iff.1 (show (eqK ks' us vs).map ((a == c)&&·)=some b from h3)
         have:td=.bool:=by cases td<;>first | rfl | cases hk
         subst this
         exact step _ _ us vs _ r rfl rfl (run_equalIn_bool' w d f.type a c hu) hr rfl
        | _=>cases h3
       | _=>cases h3
    | i=>
     cases xs with
     | nil=>cases h3
     | cons u us=>
      cases ys with
      | nil=>cases u<;>cases h3
      | cons v vs=>
       cases u with
       | int k a=>
        cases v with
        | int k' c=>
         have h3:(if k=k' then (eqK ks' us vs).map ((a == c)&&·) else none)=some b:=h3
         by_cases ek:k=k'
         ·rw [if_pos ek] at h3
          obtain ⟨r,hr,rfl⟩:=Option.map_eq_some_iff.1 h3
          subst ek
          obtain ⟨kk,rfl⟩:∃ kk,td=.int kk:=by cases td<;>first | exact ⟨_,rfl⟩ | cases hk
          exact step _ _ us vs _ r rfl rfl (run_equalIn_int w d f.type k kk a c hu) hr rfl
         ·rw [if_neg ek] at h3;cases h3
        | _=>cases h3
       | _=>cases h3
    | s=>
     cases xs with
     | nil=>cases h3
     | cons u us=>
      cases ys with
      | nil=>cases u<;>cases h3
      | cons v vs=>
       cases u with
       | string a=>
        cases v with
        | string c=>
         obtain ⟨r,hr,rfl⟩:=Option.map_eq_some_iff.1 (show (eqK ks' us vs).map (decide (a=c)&&·)=some b from h3)
         have:td=.string:=by cases td<;>first | rfl | cases hk
         subst this
         exact step _ _ us vs _ r rfl rfl (by rw [run_equalIn_string w d f.type a c hu,Zmv]) hr rfl
        | _=>cases h3
       | _=>cases h3
   ·cases h1
def Zl5 (P:Program) (t:TypeId):Option (List FK×TypeId):=bif P.stoodInHeld t||P.eqGuardType P.depth t then none else match P.underlying t with
 | some (.struct fs)=>match fs.toList.getLast? with
  | some fa=>bif (fa.name == "_")||!(Nat.beq fa.offset fs.toList.dropLast.length) then none else (Zpo P 0 fs.toList.dropLast).map λks=>(ks,fa.type)
  | none=>none
 | _=>none
theorem Zj7 (hk:Zl5 P xt=some (ks,ft)) (ha:ArT P ft e m k) (he:eqK ks cs ds=some r) (h1:xs.length=m) (h2:ys.length=m) (w:World):
  (Op.equalIn 10000 xt (.agg (cs++acs k xs).toArray) (.agg (ds++acs k ys).toArray)).run P w=.ok (r&&decide (xs=ys)) w/\P.eqGuardType P.depth xt=false:=by
 unfold Zl5 at hk
 cases hb:(P.stoodInHeld xt||P.eqGuardType P.depth xt) with
 | true=>rw [hb] at hk;cases hk
 | false=>
  rw [hb] at hk;simp only [cond_false] at hk;simp only [Bool.or_eq_false_iff] at hb;split at hk
  ·rename_i fs hfs
   split at hk
   ·rename_i fa hfa
    cases hq:((fa.name == "_")||!(Nat.beq fa.offset fs.toList.dropLast.length)) with
    | true=>rw [hq] at hk;cases hk
    | false=>
     rw [hq] at hk;simp only [cond_false] at hk;simp only [Bool.or_eq_false_iff,Bool.not_eq_false'] at hq;obtain ⟨ks',hks,e1⟩:=Option.map_eq_some_iff.1 hk;simp only [Prod.mk.injEq] at e1;obtain ⟨rfl,rfl⟩:=e1;have hF:P.fieldsOf xt=fs:=by unfold Program.fieldsOf;rw [hfs]
     have h3:=run_equalIn_struct (P:=P) w 9999 xt (cs++acs k xs).toArray (ds++acs k ys).toArray (by rw [hF];exact hfs) hb.1;rw [hF] at h3;refine ⟨?_,hb.2⟩;rw [h3];have hl:fs.toList=fs.toList.dropLast++[fa]:=by obtain ⟨l0,h5⟩:=List.getLast?_eq_some_iff.1 hfa;rw [h5,List.dropLast_concat]
     rw [hl];have hn:fa.name≠ "_":=λe=>by have:=hq.1;rw [e] at this;exact absurd this (by decide)
     have ho:=Nat.eq_of_beq_eq_true hq.2;obtain ⟨l1,l2⟩:=Zwp _ _ _ _ he;have l3:=Zpp hks;have hpart:∀ (bs:List Value) (zs:List Int),bs.length=fa.offset->zs.length=m->∀ w,(part fa.type (bs++acs k zs).toArray fa.offset).run P w=.ok (.agg (acs k zs).toArray) w:=by
      intro bs zs e1 e2 w;simp only [part,Sem.run_bind,Yg ha.agg,Result.andThen,if_true,Zs ha.size,Sem.run_pure];have e3:(acs k zs).length=m:=by simp [acs,e2]
      congr 2;apply Array.toList_inj.1;simp only [Array.toList_extract,List.extract_eq_take_drop];rw [show fa.offset+m-fa.offset=m by omega,List.drop_append_of_le_length (by omega),List.drop_of_length_le (by omega),List.nil_append,List.take_of_length_le (by omega)]
     refine Zie 9998 [fa] fs.toList.dropLast ks' [] [] cs ds (acs k xs) (acs k ys) r _ hks rfl he (λw=>?_) w;simp only [List.nil_append,Op.eqFields,if_pos hn,Sem.run_bind,hpart cs xs (by omega) h1,hpart ds ys (by omega) h2,Result.andThen,ha.eq (d:=9997) h1 h2];cases decide (xs=ys)<;>rfl
   ·cases hk
  ·cases hk
theorem Zql (cs ds:List Value) (xs ys:List Int) (hk:Zl5 P xt=some (ks,ft)) (ha:ArT P ft e m k) (hx:ev L x=some (.agg (cs++acs k xs).toArray)) (hy:ev L y=some (.agg (ds++acs k ys).toArray)) (he:eqK ks cs ds=some r) (h1:xs.length=m) (h2:ys.length=m):Y P n L w (.binOp .eql xt x y yt) t (.bool (r&&decide (xs=ys))):=
 Zld hx hy (run_eqGuard_agg w _ _ _ _ _ _ (Zj7 hk ha he h1 h2 w).2) (by rw [run_eql_struct,(Zj7 hk ha he h1 h2 w).1];rfl)
theorem CA.slice {x:Vector Int m} (h:CA ρ b 0 (vcs (Value.int k) x)):SlR (Rep.int k) ρ (.slice (some ⟨b,0,none⟩) m m) x.toList:=by
 right;refine ⟨b,0,m,by simp,by simp,λi z hz=>⟨[.int k z],rfl,λj u hu=>?_⟩⟩
 cases j with
 | zero=>
  obtain rfl:Value.int k z=u:=by simpa using hu
  have:=h i (.int k z) (by simp only [vcs,List.getElem?_map];rw [hz];rfl);simpa [Rep.int] using this
 | succ j=>simp at hu
end
section
variable {P:Program} {n:Nat} {ops:Array Oper} {late done:List Nat} {J:World->Prop} {N:Nxt} {L:Loc} {w:World} {fuel:Nat} {m:Nat} {ms ap tm:List Nat}
end
end
section
open Go.RowKit Go.Shelf Go.Sort
section
variable {P:Program} {w0 w:World} {ρ:Hp} {Γ:List Kh} {ρs:Ren}
theorem TabIs.lt (hL:Lib.TabIs P w nm k zs):∃ g,P.globalNamed nm=some g/\g<w.heap.size:=by
 unfold Lib.TabIs World.var? at hL;obtain ⟨g,hg,h⟩:=Option.bind_eq_some_iff.1 hL;refine ⟨g,hg,?_⟩;split at h
 ·rename_i e
  exact (Array.getElem?_eq_some_iff.1 e).1
 ·cases h
def Bd (T e:TypeId) (w1:World) (b:Nat) (l:List UInt8) (w:World):Prop:=Below w1.heap.size w1 w/\Lib.IsBuilder T e w1.heap.size b (Lib.byteCells l) w
variable {T e:TypeId} {w1:World} {b:Nat} {l:List UInt8}
theorem Bd.st (h:Bd T e w1 b l w) (hs:St w0 ρ Γ w1):St w0 ρ Γ w:=hs.under h.1
theorem Zro (h:w.ownsRow B e 1 v n xs) (hb:Below w.heap.size w w'):w'.ownsRow B e 1 v n xs:=by
 refine ⟨h.1,?_⟩
 rcases h.2 with h2 | ⟨g,cap,cur,h3,h4,h5,h6⟩
 ·exact .inl h2
 ·exact .inr ⟨g,cap,cur,h3,h4,by rw [hb.block g (Array.getElem?_eq_some_iff.1 h5).1];exact h5,h6⟩
theorem Zjo (h:Lib.BuilderAt T e B b p bs w) (hb:Below w.heap.size w w'):Lib.BuilderAt T e B b p bs w':=by
 obtain ⟨h1,v,h2,h3,h4⟩:=h;exact ⟨h1,v,by rw [hb.block b (Array.getElem?_eq_some_iff.1 h2).1];exact h2,Zro h3 hb,h4⟩
theorem Bd.keep (h:Bd T e w1 b l w) (hb:Below w.heap.size w w'):Bd T e w1 b l w':=
 ⟨h.1.trans (hb.mono h.1.size),h.2.imp (Zjo · hb) (Zjo · hb)⟩
theorem Bd.ws (L:Lays.n166 P ρs) (X:Builder.Extra P ρs) (hE:Zfq P (ρs.f 166)) (h:Bd (ρs.t 72) (ρs.t 5) w1 b l w) (s:ByteArray) (hlen:l.length+s.size<=140737488355328):
  Zk P (ρs.f 166) [.pointer (some ⟨b,0,none⟩),.string s] w (λv w'=>v=.tuple #[.int .i64 s.size,.nilIface]/\Bd (ρs.t 72) (ρs.t 5) w1 b (l++s.data.toList) w'):=by
 refine ⟨hE,(Any.Builder_WriteString L X w1.heap.size b _ s w h.2 (by rw [Lib.byteCells_length];exact hlen) h.1.size).mono λe w' k=>?_⟩;obtain ⟨rfl,k1,k2⟩:=k;refine ⟨_,rfl,rfl,h.1.trans k2,.inr ?_⟩;have e1:Lib.byteCells (l++s.data.toList)=Lib.byteCells l++Lib.strCells s:=by simp [Lib.byteCells,Lib.strCells]
 rw [e1];exact k1
theorem Bd.wb (L:Lays.n167 P ρs) (X:Builder.Extra P ρs) (hE:Zfq P (ρs.f 167)) (h:Bd (ρs.t 72) (ρs.t 5) w1 b l w) (c:UInt8) (hlen:l.length+1<=140737488355328):
  Zk P (ρs.f 167) [.pointer (some ⟨b,0,none⟩),.int .u8 c.toNat] w (λv w'=>v=.nilIface/\Bd (ρs.t 72) (ρs.t 5) w1 b (l++[c]) w'):=by
 refine ⟨hE,(Any.Builder_WriteByte L X w1.heap.size b _ (c.toNat:Int) w h.2 (by rw [Lib.byteCells_length];exact hlen) h.1.size).mono λe w' k=>?_⟩;obtain ⟨rfl,k1,k2⟩:=k;refine ⟨_,rfl,rfl,h.1.trans k2,.inr ?_⟩;have e1:Lib.byteCells (l++[c])=Lib.byteCells l++[.int .u8 c.toNat]:=by simp [Lib.byteCells]
 rw [e1];exact k1
theorem Bd.str (L:Lays.n169 P ρs) (X:Builder.Extra P ρs) (hE:Zfq P (ρs.f 169)) (h:Bd (ρs.t 72) (ρs.t 5) w1 b l w) (hs:St w0 ρ Γ w1):Zk P (ρs.f 169) [.pointer (some ⟨b,0,none⟩)] w (λv w'=>v=.string ⟨l.toArray⟩/\St w0 ρ Γ w'):=by
 refine ⟨hE,(Any.Builder_String_any L X w1.heap.size b l w h.2 h.1.size).mono λe w' k=>?_⟩;obtain ⟨rfl,k2⟩:=k;exact ⟨_,rfl,rfl,hs.under (h.1.trans k2)⟩
end
section
variable {P:Program} {n:Nat} {N:Nxt} {L:Loc} {w:World} {ops:Array Oper} {rest:List Oper} {d t:Nat} {pos:String} {aft:Array Edge}
theorem Zxy {T e:TypeId} (hz:V0 P T=some [.pointer none,.slice none 0 0]) (hd:Nat.blt d n=true) (k:∀ b w',Bd T e w b [] w'->O P n ops rest N ((d,.pointer (some ⟨b,0,none⟩))::L) w'):O P n ops (⟨some d,.alloc T,t,pos,aft,none⟩::rest) N L w:=by
 refine Yn hz (St.refl w) hd λb w' hs=>k b w' ⟨hs.below,.inl ?_⟩;have hok:=hs.ok _ (List.mem_cons_self ..);have hb:=hs.base b (by simp [Kh.blk]);exact ⟨hb,.slice none 0 0,hok,World.ownsRow_nil w' _ e 1,λh=>by cases h⟩
end
end
section
open Go.RowKit Go.Shelf
section
variable {P:Program} {n:Nat} {N:Nxt} {X:Nat->Nxt} {R:Nxt} {L:Loc} {w w0:World} {ρ:Hp} {Γ:List Kh} {ops:Array Oper} {rest:List Oper} {d t:Nat} {pos:String} {aft:Array Edge} {x:Operand}
theorem Zzu {mt:TypeId} (hu:P.underlying mt=some .string) (hs:St w0 ρ Γ w) (hx:ev L x=some (.string s)) (hd:Nat.blt d n=true) (k:∀ r w',St w0 ρ (.obj r (.stringIter s 0)::Γ) w'->O P n ops rest N ((d,.pointer (some ⟨r,0,none⟩))::L) w'):O P n ops (⟨some d,.range mt x,t,pos,aft,none⟩::rest) N L w:=by
 refine Zij hd λa ha=>⟨_,_,?_,k w.heap.size (w.iter s 0) (hs.push _ _ rfl ⟨heap_alloc_new w _,λ_ _ _ h=>by cases h⟩)⟩;simp only [execOp,ha.ev hx,Sem.run_bind,run_range_string w mt s hu,Result.andThen];rfl
theorem Z3k (hs:St w0 ρ Γ w) (hi:Γ[i]?=some (.obj r (.stringIter s p))) (hx:ev L x=some (.pointer (some ⟨r,0,none⟩))) (hd:Nat.blt d n=true) (k0:¬ p<s.size->O P n ops rest N ((d,.tuple #[.bool false])::L) w) (k1:p<s.size->∀ w',St w0 ρ (Γ.set i (.obj r (.stringIter s (p+(Utf8.decode s p).2)))) w'->O P n ops rest N ((d,.tuple #[.bool true,.int .i64 (p:Int),.int .i32 ((Utf8.decode s p).1:Int)])::L) w'):
  O P n ops (⟨some d,.next x true,t,pos,aft,none⟩::rest) N L w:=by
 have hr:w.heap[r]?=some (.stringIter s p):=(hs.ok _ (List.mem_of_getElem? hi)).1;by_cases h:p<s.size
 ·refine Zij hd λa ha=>⟨_,_,?_,k1 h _ (hs.putObj hi (λ_ _ _ h=>by cases h))⟩
  simp only [execOp,ha.ev hx,Instr.next,getObj,setObj,Sem.run_bind,Sem.run,hr,Result.andThen,h,if_true];simp [goInt,Sem.run,hr]
 ·refine Zij hd λa ha=>⟨_,_,?_,k0 h⟩
  simp only [execOp,ha.ev hx,Instr.next,getObj,Sem.run_bind,Sem.run,hr,Result.andThen,h,if_false];rfl
end
def Za4.f (s sub:ByteArray):Option Bool:=match sub.data.toList with
 | [c]=>some (decide (0<=Lib.indexByte s.data.toList c))
 | _=>none
def Zaw.f (s sub:ByteArray):Option Int:=match sub.data.toList with
 | [c]=>some (Lib.indexByte s.data.toList c)
 | _=>none
def Zbq.f (s sub:ByteArray):Option Int:=match sub.data.toList with
 | [c]=>some ((s.data.toList.count c:Nat):Int)
 | _=>none
theorem Zve {x:ByteArray} {c:UInt8} (e:x.data.toList=[c]):x=⟨#[c]⟩:=by
 obtain ⟨d⟩:=x;have:d=#[c]:=Array.toList_inj.1 e;rw [this]
def V6.f (s:ByteArray):Option (Int×Int):=some (((Lib.decodeGo s).1:Int),((Lib.decodeGo s).2:Int))
section
variable {P:Program} {w0 w:World} {ρ:Hp} {Γ:List Kh} {ρs:Ren}
theorem Zmy (L:Lays.n144 P ρs) (hE:Zfq P (ρs.f 144)) (hs:St w0 ρ Γ w) (H:Za4.f x0 x1=some r):Zk P (ρs.f 144) [.string x0,.string x1] w (λv w'=>v=.bool r/\St w0 ρ Γ w'):=by
 simp only [Za4.f] at H;split at H
 ·rename_i c e
  obtain rfl:=Zn H;obtain rfl:=Zve e;refine ⟨hE,(Any.strings_Contains_one L x0 c w).mono λe w' h=>?_⟩;obtain ⟨rfl,rfl⟩:=h;exact ⟨_,rfl,rfl,hs⟩
 ·cases H
theorem Ztf (L:Lays.n143 P ρs) (hE:Zfq P (ρs.f 143)) (hs:St w0 ρ Γ w) (H:Zaw.f x0 x1=some r):Zk P (ρs.f 143) [.string x0,.string x1] w (λv w'=>v=.int .i64 r/\St w0 ρ Γ w'):=by
 simp only [Zaw.f] at H;split at H
 ·rename_i c e
  obtain rfl:=Zn H;obtain rfl:=Zve e;refine ⟨hE,(Any.strings_Index_one L x0 c w).mono λe w' h=>?_⟩;obtain ⟨rfl,rfl⟩:=h;exact ⟨_,rfl,rfl,hs⟩
 ·cases H
theorem Zsx (L:Lays.n138 P ρs) (hE:Zfq P (ρs.f 138)) (hs:St w0 ρ Γ w) (H:Zbq.f x0 x1=some r):Zk P (ρs.f 138) [.string x0,.string x1] w (λv w'=>v=.int .i64 r/\St w0 ρ Γ w'):=by
 simp only [Zbq.f] at H;split at H
 ·rename_i c e
  obtain rfl:=Zn H;obtain rfl:=Zve e;refine ⟨hE,(Any.strings_Count_one L x0 c w).mono λe w' h=>?_⟩;obtain ⟨rfl,rfl⟩:=h;exact ⟨_,rfl,rfl,hs⟩
 ·cases H
theorem St.tabs (hs:St w0 ρ Γ w) (h:Lib.Utf8Tabs a b w0):Lib.Utf8Tabs a b w:=Utf8Tabs_below h hs.below
theorem Zqs (L:Lays.n197 P ρs) (hE:Zfq P (ρs.f 197)) (hs:St w0 ρ Γ w) (hL:Lib.Utf8Tabs (ρs.g 3) (ρs.g 4) w0) (H:V6.f x0=some r):Zk P (ρs.f 197) [.string x0] w (λv w'=>v=.tuple #[.int .i32 r.1,.int .i64 r.2]/\St w0 ρ Γ w'):=by
 obtain rfl:=Zn H;refine ⟨hE,(Any.utf8_DecodeRuneInString L x0 w (hs.tabs hL)).mono λe w' h=>?_⟩;obtain ⟨rfl,hb⟩:=h;exact ⟨_,rfl,rfl,hs.under hb⟩
end
end
theorem mixed:Tryz.prog.follows .mixedOrders=true:=by kernel_rfl
theorem Zqn:Y9 prog 27=some true:=by kernel_rfl
theorem Zox:Qi prog 27=some 11:=by kernel_rfl
theorem Zh8:Qi prog 39=some 11:=by kernel_rfl
theorem Zzn:V0 prog 39=some [.slice none 0 0,.slice none 0 0,.slice none 0 0,.slice none 0 0,.slice none 0 0,.slice none 0 0,.slice none 0 0,.slice none 0 0,.slice none 0 0,.slice none 0 0,.slice none 0 0]:=by kernel_rfl
theorem Zoz:Tryz.prog.underlying 34=some (.pointer 86):=by kernel_rfl
theorem un9:Tryz.prog.underlying 9=some .string:=by kernel_rfl
theorem Zce:Y9 prog 33=some true:=by kernel_rfl
theorem Zbz:Qi prog 33=some 11:=by kernel_rfl
theorem Z9c:Tryz.prog.underlying 42=some (.pointer 59):=by kernel_rfl
theorem Zi9:V0 prog 33=some [.int .i64 0,.string ⟨#[]⟩,.int .u32 0,.int .u16 0,.int .u16 0,.int .u16 0,.int .u16 0,.int .u16 0,.int .u16 0,.int .u16 0,.int .u16 0]:=by kernel_rfl
theorem Ztu:Un prog 33=some [(0,1),(1,1),(2,1),(3,8)]:=by kernel_rfl
theorem un3:Tryz.prog.underlying 3=some (.int .i64):=by kernel_rfl
theorem un5:Tryz.prog.underlying 5=some (.int .u8):=by kernel_rfl
theorem Zgk:Yj prog 33 1=some 1:=by kernel_rfl
theorem ag9:Y9 prog 9=some false:=by kernel_rfl
theorem sz9:Qi prog 9=some 1:=by kernel_rfl
theorem Zmo:Y9 prog 39=some true:=by kernel_rfl
theorem Z8c:Un prog 39=some [(0,1),(1,1),(2,1),(3,1),(4,1),(5,1),(6,1),(7,1),(8,1),(9,1),(10,1)]:=by kernel_rfl
theorem Zbs:Tryz.prog.underlying 22=some (.slice 9):=by kernel_rfl
theorem Zcr:Uh prog 22 9 1 16:=Hd Zbs (by kernel_rfl) rfl rfl
theorem Z8l:Tryz.prog.underlying 57=some (.map 9 4):=by kernel_rfl
theorem zv4:∀ w:World,(zeroValue 4).run prog w=.ok (.bool false) w:=λ_=>by kernel_rfl
theorem Z83:Y9 prog 59=some true:=by kernel_rfl
theorem Z9e:V0 prog 59=some [.map none]:=by kernel_rfl
theorem Z86:Un prog 59=some [(0,1)]:=by kernel_rfl
theorem Z06:Yj prog 59 0=some 0:=by kernel_rfl
theorem Z7u:Y9 prog 57=some false:=by kernel_rfl
theorem un4:Tryz.prog.underlying 4=some .bool:=by kernel_rfl
theorem Zkt:Yj prog 33 0=some 0:=by kernel_rfl
theorem ag3:Y9 prog 3=some false:=by kernel_rfl
theorem sz3:Qi prog 3=some 1:=by kernel_rfl
theorem Z6h:ArT prog 31 29 8 .u16:=⟨by kernel_rfl,by kernel_rfl,by kernel_rfl,by kernel_rfl,by kernel_rfl,by kernel_rfl,by kernel_rfl,by kernel_rfl⟩
theorem Z0s:Zl5 prog 33=some ([FK.i,FK.s,FK.i],31):=by kernel_rfl
theorem Zeb:Qi prog 70=some 2:=by kernel_rfl
theorem Zja:V0 prog 70=some [.int .i64 0,.int .i64 0]:=by kernel_rfl
theorem Zhh:Yj prog 27 1=some 1:=by kernel_rfl
theorem Zei:Y9 prog 23=some false:=by kernel_rfl
theorem Zkh:Tryz.prog.underlying 23=some (.slice 148):=by kernel_rfl
theorem Zf1:Uh prog 23 148 3 16:=Hd Zkh (by kernel_rfl) rfl rfl
theorem Zq3:Yj prog 27 3=some 3:=by kernel_rfl
theorem Zq5:Yj prog 27 6=some 6:=by kernel_rfl
theorem Zq6:Yj prog 27 7=some 7:=by kernel_rfl
theorem Zq8:Yj prog 27 9=some 9:=by kernel_rfl
theorem Zq4:Yj prog 27 5=some 5:=by kernel_rfl
theorem Zsm:Y9 prog 25=some false:=by kernel_rfl
theorem Zoy:Tryz.prog.underlying 25=some (.slice 131):=by kernel_rfl
theorem Zoo:Uh prog 25 131 2 8:=Hd Zoy (by kernel_rfl) rfl rfl
theorem Zq7:Yj prog 27 8=some 8:=by kernel_rfl
theorem Zm6:Yj prog 27 2=some 2:=by kernel_rfl
theorem Zg6:Y9 prog 24=some false:=by kernel_rfl
theorem Zi3:Tryz.prog.underlying 24=some (.slice 82):=by kernel_rfl
theorem Zhd:Uh prog 24 82 3 32:=Hd Zi3 (by kernel_rfl) rfl rfl
theorem Ziq:Yj prog 27 4=some 4:=by kernel_rfl
theorem Zl7:Yj prog 27 10=some 10:=by kernel_rfl
theorem Z8m:Tryz.prog.underlying 84=some (.map 88 21):=by kernel_rfl
theorem Z5f:Tryz.prog.underlying 88=some (.array 2 21):=by kernel_rfl
theorem Zdd:Tryz.prog.underlying 21=some (.int .i32):=by kernel_rfl
theorem Zkb:Qi prog 21=some 1:=by kernel_rfl
theorem Qb:Y9 prog 21=some false:=by kernel_rfl
def Zcz:Hl prog 88 (Vector Int 2):=Hl.vec Z5f (by kernel_rfl) (by kernel_rfl) Zkb Zdd Qb
theorem Z9h:∀ w:World,(zeroValue 21).run prog w=.ok (.int .i32 0) w:=λ_=>by kernel_rfl
theorem Z7w:Y9 prog 86=some true:=by kernel_rfl
theorem Z8z:V0 prog 86=some [.slice none 0 0,.slice none 0 0,.slice none 0 0,.slice none 0 0,.slice none 0 0,.slice none 0 0,.slice none 0 0,.slice none 0 0,.slice none 0 0,.slice none 0 0,.slice none 0 0,.pointer none,.pointer none,.pointer none,.pointer none,.pointer none,.pointer none,.pointer none,.pointer none,.pointer none,.pointer none,.map none]:=by kernel_rfl
theorem Z8d:Un prog 86=some [(0,11),(11,1),(12,1),(13,1),(14,1),(15,1),(16,1),(17,1),(18,1),(19,1),(20,1),(21,1)]:=by kernel_rfl
theorem Zh6:Y9 prog 82=some true:=by kernel_rfl
theorem Ze0:Qi prog 82=some 3:=by kernel_rfl
theorem Zud:V0 prog 82=some [.int .i32 0,.int .i32 0,.slice none 0 0]:=by kernel_rfl
theorem Zdm:Yj prog 82 2=some 2:=by kernel_rfl
theorem Zcf:Y9 prog 80=some false:=by kernel_rfl
theorem Z22:Qi prog 80=some 1:=by kernel_rfl
theorem Ht:Tryz.prog.underlying 80=some (.slice 21):=by kernel_rfl
theorem Kv:Uh prog 80 21 1 4:=Hd Ht (by kernel_rfl) rfl rfl
theorem Z6t:Yj prog 86 6=some 16:=by kernel_rfl
theorem Zin:Y9 prog 74=some false:=by kernel_rfl
theorem Zgl:Yj prog 82 0=some 0:=by kernel_rfl
theorem Z7b:Tryz.prog.underlying 74=some (.pointer 156):=by kernel_rfl
theorem Zu1:Yj prog 86 2=some 12:=by kernel_rfl
theorem Zw4:Yj prog 86 11=some 21:=by kernel_rfl
theorem Z7v:Y9 prog 84=some false:=by kernel_rfl
theorem Z7x:Y9 prog 88=some true:=by kernel_rfl
theorem Z7a:Qi prog 88=some 2:=by kernel_rfl
set_option maxRecDepth 1000000 in
theorem Z7e:(V0 prog 88).map (·.length)=some 2:=by kernel_rfl
theorem Zq2:Yj prog 27 0=some 0:=by kernel_rfl
theorem Zx6:Y9 prog 22=some false:=by kernel_rfl
theorem Zu0:Yj prog 39 2=some 2:=by kernel_rfl
theorem Zmn:Y9 prog 36=some false:=by kernel_rfl
theorem Zr5:Tryz.prog.underlying 36=some (.slice 94):=by kernel_rfl
theorem Zm0:Uh prog 36 94 3 32:=Hd Zr5 (by kernel_rfl) rfl rfl
theorem Zqo:Y9 prog 94=some true:=by kernel_rfl
theorem Zi2:Qi prog 94=some 3:=by kernel_rfl
theorem Zue:V0 prog 94=some [.int .i32 0,.int .i32 0,.slice none 0 0]:=by kernel_rfl
theorem Z9d:Tryz.prog.underlying 92=some (.slice 4):=by kernel_rfl
theorem Zba:Uh prog 92 4 1 1:=Hd Z9d (by kernel_rfl) rfl rfl
theorem ag4:Y9 prog 4=some false:=by kernel_rfl
theorem sz4:Qi prog 4=some 1:=by kernel_rfl
theorem Zuz:Yj prog 39 1=some 1:=by kernel_rfl
theorem Zmm:Y9 prog 35=some false:=by kernel_rfl
theorem Z5e:Tryz.prog.underlying 35=some (.slice 157):=by kernel_rfl
theorem Zyg:Uh prog 35 157 3 16:=Hd Z5e (by kernel_rfl) rfl rfl
theorem Z01:Yj prog 39 5=some 5:=by kernel_rfl
theorem Z3r:Y9 prog 37=some false:=by kernel_rfl
theorem Z29:Tryz.prog.underlying 37=some (.slice 97):=by kernel_rfl
theorem Zlw:Uh prog 37 97 2 8:=Hd Z29 (by kernel_rfl) rfl rfl
theorem Zz2:Y9 prog 97=some true:=by kernel_rfl
theorem Z46:Qi prog 97=some 2:=by kernel_rfl
theorem Z3d:V0 prog 97=some [.int .i32 0,.int .i32 0]:=by kernel_rfl
theorem Zrb:Yj prog 97 0=some 0:=by kernel_rfl
theorem Zrc:Yj prog 97 1=some 1:=by kernel_rfl
theorem Z0z:Yj prog 39 0=some 0:=by kernel_rfl
theorem Z00:Yj prog 39 3=some 3:=by kernel_rfl
theorem Zku:Yj prog 39 4=some 4:=by kernel_rfl
theorem Z02:Yj prog 39 6=some 6:=by kernel_rfl
theorem Z03:Yj prog 39 7=some 7:=by kernel_rfl
theorem Z04:Yj prog 39 8=some 8:=by kernel_rfl
theorem zr4:V0 prog 4=some [.bool false]:=by kernel_rfl
theorem Z05:Yj prog 39 9=some 9:=by kernel_rfl
theorem Zw3:Yj prog 39 10=some 10:=by kernel_rfl
theorem Zih:Tryz.prog.underlying 105=some (.slice 3):=by kernel_rfl
theorem Zb1:Uh prog 105 3 1 8:=Hd Zih (by kernel_rfl) rfl rfl
theorem Z8s:V0 prog 122=some [.pointer none,.slice none 0 0]:=by kernel_rfl
theorem Z0x:Yj prog 33 2=some 2:=by kernel_rfl
theorem Z81:Y9 prog 28=some false:=by kernel_rfl
theorem Z9a:Qi prog 28=some 1:=by kernel_rfl
theorem Z0y:Yj prog 33 3=some 3:=by kernel_rfl
theorem Z82:Y9 prog 31=some true:=by kernel_rfl
theorem Z8k:Qi prog 31=some 8:=by kernel_rfl
theorem Zej:Y9 prog 70=some true:=by kernel_rfl
theorem Z5r:Qi prog 132=some 1:=by kernel_rfl
theorem Z54:V0 prog 132=some [.nilFunc]:=by kernel_rfl
theorem Z8i:Qi prog 134=some 1:=by kernel_rfl
theorem Z8t:V0 prog 134=some [.nilFunc]:=by kernel_rfl
theorem Zcm:Y9 prog 136=some true:=by kernel_rfl
theorem Zcp:Qi prog 136=some 2:=by kernel_rfl
theorem Zcq:V0 prog 136=some [.int .i64 0,.nilFunc]:=by kernel_rfl
theorem Zgw:Un prog 136=some [(0,1),(1,1)]:=by kernel_rfl
theorem Z5v:Tryz.prog.underlying 144=some (.slice 136):=by kernel_rfl
theorem Zf0:Uh prog 144 136 2 16:=Hd Z5v (by kernel_rfl) rfl rfl
theorem Zdj:Yj prog 136 1=some 1:=by kernel_rfl
theorem Zgt:Y9 prog 135=some false:=by kernel_rfl
theorem Zdi:Yj prog 136 0=some 0:=by kernel_rfl
theorem Zk1:Un prog 70=some [(0,1),(1,1)]:=by kernel_rfl
theorem Z8x:V0 prog 27=some [.slice none 0 0,.slice none 0 0,.slice none 0 0,.slice none 0 0,.slice none 0 0,.slice none 0 0,.slice none 0 0,.slice none 0 0,.slice none 0 0,.slice none 0 0,.slice none 0 0]:=by kernel_rfl
theorem Z85:Un prog 27=some [(0,1),(1,1),(2,1),(3,1),(4,1),(5,1),(6,1),(7,1),(8,1),(9,1),(10,1)]:=by kernel_rfl
theorem Zdo:Y9 prog 131=some true:=by kernel_rfl
theorem Zbm:Qi prog 131=some 2:=by kernel_rfl
theorem Zdh:V0 prog 131=some [.int .i32 0,.int .i32 0]:=by kernel_rfl
theorem Zap:Yj prog 131 0=some 0:=by kernel_rfl
theorem Hb:Yj prog 131 1=some 1:=by kernel_rfl
theorem Zfx:Y9 prog 148=some true:=by kernel_rfl
theorem Zew:Qi prog 148=some 3:=by kernel_rfl
theorem Zoj:V0 prog 148=some [.int .i32 0,.int .i32 0,.int .i64 0]:=by kernel_rfl
theorem Z5q:Un prog 148=some [(0,1),(1,1),(2,1)]:=by kernel_rfl
theorem Zq9:Yj prog 82 1=some 1:=by kernel_rfl
theorem Zp0:Un prog 131=some [(0,1),(1,1)]:=by kernel_rfl
theorem Zjw:Yj prog 156 1=some 8704:=by kernel_rfl
theorem Zwh:Y9 prog 154=some false:=by kernel_rfl
theorem Z8j:Qi prog 154=some 1:=by kernel_rfl
theorem Zl6:Yj prog 156 0=some 0:=by kernel_rfl
theorem Zxq:Tryz.prog.underlying 153=some (.array 8704 29):=by kernel_rfl
theorem Zk8:Qi prog 29=some 1:=by kernel_rfl
theorem Zx7:Y9 prog 29=some false:=by kernel_rfl
theorem Z5w:Tryz.prog.underlying 154=some (.slice 152):=by kernel_rfl
theorem Zwn:Uh prog 154 152 128 256:=Hd Z5w (by kernel_rfl) rfl rfl
theorem Zqd:Tryz.prog.underlying 152=some (.array 128 29):=by kernel_rfl
theorem Zzk:Tryz.prog.underlying 29=some (.int .u16):=by kernel_rfl
theorem Zgj:Yj prog 148 0=some 0:=by kernel_rfl
theorem Zfm:Yj prog 148 1=some 1:=by kernel_rfl
theorem Zfn:Yj prog 148 2=some 2:=by kernel_rfl
theorem Zwi:Y9 prog 157=some true:=by kernel_rfl
theorem Zqb:Qi prog 157=some 3:=by kernel_rfl
theorem Zxu:V0 prog 157=some [.int .i32 0,.int .i32 0,.int .i64 0]:=by kernel_rfl
theorem Z76:Un prog 157=some [(0,1),(1,1),(2,1)]:=by kernel_rfl
theorem Z87:Un prog 94=some [(0,1),(1,1),(2,1)]:=by kernel_rfl
theorem Z63:Un prog 97=some [(0,1),(1,1)]:=by kernel_rfl
theorem Zfs:Yj prog 94 2=some 2:=by kernel_rfl
theorem Zqz:Yj prog 157 0=some 0:=by kernel_rfl
theorem Zra:Yj prog 94 1=some 1:=by kernel_rfl
theorem Zq0:Yj prog 157 1=some 1:=by kernel_rfl
theorem Zir:Yj prog 94 0=some 0:=by kernel_rfl
theorem Zws:Yj prog 157 2=some 2:=by kernel_rfl
theorem zr9:V0 prog 9=some [.string ⟨#[]⟩]:=by kernel_rfl
theorem Zkg:Tryz.prog.underlying 120=some (.slice 5):=by kernel_rfl
theorem Ze4:Uh prog 120 5 1 1:=Hd Zkg (by kernel_rfl) rfl rfl
theorem Zia:Y9 prog 132=some false:=by kernel_rfl
theorem zr3:V0 prog 3=some [.int .i64 0]:=by kernel_rfl
theorem Z7q:Y9 prog 134=some false:=by kernel_rfl
theorem Z5x:Tryz.prog.underlying 188=some (.map 21 3):=by kernel_rfl
theorem zv3:∀ w:World,(zeroValue 3).run prog w=.ok (.int .i64 0) w:=λ_=>by kernel_rfl
theorem Z27:Tryz.prog.underlying 189=some (.map 3 3):=by kernel_rfl
theorem Z7r:Y9 prog 191=some true:=by kernel_rfl
theorem Z8w:V0 prog 191=some [.slice none 0 0,.map none,.map none]:=by kernel_rfl
theorem Z77:Un prog 191=some [(0,1),(1,1),(2,1)]:=by kernel_rfl
theorem Zwt:Yj prog 191 1=some 1:=by kernel_rfl
theorem Z5k:Y9 prog 188=some false:=by kernel_rfl
theorem Z5y:Tryz.prog.underlying 192=some (.map 88 4):=by kernel_rfl
set_option maxRecDepth 1000000 in
theorem Z9g:V0 prog 88=some ([]++(vcs (Value.int .i32) (Vector.replicate 2 (0:Int))++[])):=by kernel_rfl
theorem Z28:Tryz.prog.underlying 209=some (.slice 212):=by kernel_rfl
theorem Zwo:Uh prog 209 212 4 24:=Hd Z28 (by kernel_rfl) rfl rfl
theorem Zji:Y9 prog 212=some true:=by kernel_rfl
theorem Zgg:Qi prog 212=some 4:=by kernel_rfl
theorem Zok:V0 prog 212=some [.int .i64 0,.int .i64 0,.int .i32 0,.bool false]:=by kernel_rfl
theorem Zwv:Yj prog 212 2=some 2:=by kernel_rfl
theorem Zwu:Yj prog 212 0=some 0:=by kernel_rfl
theorem J8:Qi prog 220=some 4:=by kernel_rfl
set_option maxRecDepth 1000000 in
theorem Zex:V0 prog 220=some ([]++(vcs (Value.int .u64) (Vector.replicate 4 (0:Int))++[])):=by kernel_rfl
theorem Hk:Y9 prog 220=some true:=by kernel_rfl
theorem Zog:Tryz.prog.underlying 220=some (.array 4 218):=by kernel_rfl
theorem Zkc:Qi prog 218=some 1:=by kernel_rfl
theorem Zwj:Y9 prog 218=some false:=by kernel_rfl
theorem ag5:Y9 prog 5=some false:=by kernel_rfl
theorem Zq1:Yj prog 191 2=some 2:=by kernel_rfl
theorem Zz1:Y9 prog 189=some false:=by kernel_rfl
theorem Z32:Yj prog 191 0=some 0:=by kernel_rfl
set_option maxRecDepth 1000000 in
theorem Z8v:V0 prog 156=some ([]++(vcs (Value.int .u16) (Vector.replicate 8704 (0:Int))++[.slice none 0 0,.slice none 0 0])):=by kernel_rfl
theorem Z75:Un prog 156=some [(0,8704),(8704,1),(8705,1)]:=by kernel_rfl
theorem Z5z:Tryz.prog.underlying 234=some (.map 152 29):=by kernel_rfl
def Zj1:Hl prog 152 (Vector Int 128):=Hl.vec Zqd (by kernel_rfl) (by kernel_rfl) Zk8 Zzk Zx7
theorem Z9i:∀ w:World,(zeroValue 29).run prog w=.ok (.int .u16 0) w:=λ_=>by kernel_rfl
theorem Zqa:Qi prog 152=some 128:=by kernel_rfl
set_option maxRecDepth 1000000 in
theorem Z8u:V0 prog 152=some ([]++(vcs (Value.int .u16) (Vector.replicate 128 (0:Int))++[])):=by kernel_rfl
theorem Zwg:Y9 prog 152=some true:=by kernel_rfl
theorem Zwr:Yj prog 156 2=some 8705:=by kernel_rfl
theorem Z84:Y9 prog 92=some false:=by kernel_rfl
theorem Z9b:Qi prog 92=some 1:=by kernel_rfl
set_option maxRecDepth 1000000 in
theorem Z8q:V0 prog 152=some (vcs (Value.int .u16) (Vector.replicate 128 (0:Int))):=by kernel_rfl
theorem Zsl:Y9 prog 207=some true:=by kernel_rfl
theorem Zt7:Qi prog 207=some 5:=by kernel_rfl
theorem Z50:Tryz.prog.underlying 237=some (.slice 275):=by kernel_rfl
theorem Zhc:Uh prog 237 275 2 16:=Hd Z50 (by kernel_rfl) rfl rfl
theorem Z55:V0 prog 207=some [.bool false,.bool false,.bool false,.bool false,.bool false]:=by kernel_rfl
theorem Z78:Un prog 207=some [(0,1),(1,1),(2,1),(3,1),(4,1)]:=by kernel_rfl
theorem Z38:Yj prog 212 1=some 1:=by kernel_rfl
theorem Z51:Tryz.prog.underlying 281=some (.slice 220):=by kernel_rfl
theorem Z0l:Uh prog 281 220 4 32:=Hd Z51 (by kernel_rfl) rfl rfl
set_option maxRecDepth 1000000 in
theorem Z8r:V0 prog 220=some (vcs (Value.int .u64) (Vector.replicate 4 (0:Int))):=by kernel_rfl
theorem Zqe:Tryz.prog.underlying 270=some (.slice 80):=by kernel_rfl
theorem Zhe:Uh prog 270 80 1 24:=Hd Zqe (by kernel_rfl) rfl rfl
theorem Zsn:Y9 prog 275=some true:=by kernel_rfl
theorem Zuc:V0 prog 275=some [.int .i64 0,.int .i64 0]:=by kernel_rfl
theorem Ztt:Un prog 275=some [(0,1),(1,1)]:=by kernel_rfl
theorem Z37:Yj prog 207 4=some 4:=by kernel_rfl
theorem Z14:Un prog 212=some [(0,1),(1,1),(2,1),(3,1)]:=by kernel_rfl
theorem Z52:Tryz.prog.underlying 285=some (.slice 288):=by kernel_rfl
theorem Z0m:Uh prog 285 288 3 40:=Hd Z52 (by kernel_rfl) rfl rfl
theorem Zfy:Y9 prog 288=some true:=by kernel_rfl
theorem Zd1:Qi prog 288=some 3:=by kernel_rfl
theorem Zxv:V0 prog 288=some [.slice none 0 0,.bool false,.int .i64 0]:=by kernel_rfl
theorem Zjx:Yj prog 288 0=some 0:=by kernel_rfl
theorem Z34:Yj prog 207 1=some 1:=by kernel_rfl
theorem Z31:fieldAt prog 291 0=some (0,4):=by kernel_rfl
theorem Zww:Yj prog 288 1=some 1:=by kernel_rfl
theorem Zey:Yj prog 288 2=some 2:=by kernel_rfl
theorem Z35:Yj prog 207 2=some 2:=by kernel_rfl
theorem Z33:Yj prog 207 0=some 0:=by kernel_rfl
theorem Z36:Yj prog 207 3=some 3:=by kernel_rfl
theorem Zo5:Y9 prog 291=some true:=by kernel_rfl
theorem Zqc:Qi prog 291=some 3:=by kernel_rfl
theorem Zxw:V0 prog 291=some [.bool false,.int .i64 0,.int .i64 0]:=by kernel_rfl
theorem Z15:Un prog 291=some [(0,1),(1,1),(2,1)]:=by kernel_rfl
theorem Zol:Y9 prog 34=some false:=by kernel_rfl
theorem Z79:Un prog 288=some [(0,1),(1,1),(2,1)]:=by kernel_rfl
theorem Z21:Qi prog 105=some 1:=by kernel_rfl
theorem Z53:V0 prog 105=some [.slice none 0 0]:=by kernel_rfl
theorem Zwf:Y9 prog 105=some false:=by kernel_rfl
theorem Z5l:Y9 prog 308=some true:=by kernel_rfl
theorem Z5s:Qi prog 308=some 8:=by kernel_rfl
theorem Z56:V0 prog 308=some [.int .i64 0,.int .i64 0,.int .i64 0,.int .i64 0,.int .i64 0,.int .i64 0,.int .i64 0,.int .u8 0]:=by kernel_rfl
theorem Z8a:Un prog 308=some [(0,1),(1,1),(2,1),(3,1),(4,1),(5,1),(6,1),(7,1)]:=by kernel_rfl
theorem Zgu:Y9 prog 307=some true:=by kernel_rfl
theorem Zgy:Qi prog 307=some 8:=by kernel_rfl
theorem Zw0:Yj prog 307 7=some 7:=by kernel_rfl
theorem Zl8:Yj prog 307 6=some 6:=by kernel_rfl
theorem Zwz:Yj prog 307 5=some 5:=by kernel_rfl
theorem Z9f:V0 prog 80=some [.slice none 0 0]:=by kernel_rfl
theorem Z6u:Yj prog 86 7=some 17:=by kernel_rfl
theorem Z6r:Yj prog 86 3=some 13:=by kernel_rfl
theorem Zeh:Yj prog 307 0=some 0:=by kernel_rfl
theorem Z4a:Yj prog 307 4=some 4:=by kernel_rfl
theorem Zwx:Yj prog 307 1=some 1:=by kernel_rfl
theorem Zwy:Yj prog 307 2=some 2:=by kernel_rfl
theorem Z39:Yj prog 307 3=some 3:=by kernel_rfl
theorem Z7t:Y9 prog 336=some true:=by kernel_rfl
theorem Z8y:V0 prog 336=some [.int .i64 0,.int .i64 0,.int .i64 0,.int .i64 0,.int .i64 0,.int .i64 0,.int .i64 0,.int .u8 0,.string ⟨#[]⟩,.int .i64 0,.slice none 0 0,.int .i64 0,.int .i64 0,.int .i64 0]:=by kernel_rfl
theorem Z8b:Un prog 336=some [(0,8),(8,1),(9,1),(10,1),(11,1),(12,1),(13,1)]:=by kernel_rfl
theorem Zjy:Yj prog 336 3=some 10:=by kernel_rfl
theorem Zez:Yj prog 336 2=some 9:=by kernel_rfl
theorem Z08:Yj prog 86 8=some 18:=by kernel_rfl
theorem Z6q:Yj prog 86 1=some 11:=by kernel_rfl
theorem Z7s:Y9 prog 319=some false:=by kernel_rfl
theorem Zdt:Yj prog 336 5=some 12:=by kernel_rfl
theorem Zhw:Yj prog 336 0=some 0:=by kernel_rfl
theorem Zw2:Yj prog 336 6=some 13:=by kernel_rfl
theorem Zjz:Yj prog 336 4=some 11:=by kernel_rfl
theorem Z07:Yj prog 86 0=some 0:=by kernel_rfl
theorem Zw1:Yj prog 336 1=some 8:=by kernel_rfl
theorem Z6s:Yj prog 86 4=some 14:=by kernel_rfl
theorem Z6v:Yj prog 86 9=some 19:=by kernel_rfl
theorem Zlu:Tryz.prog.underlying 165=some (.int .u64):=by kernel_rfl
section
open Go.RowKit Go.Shelf
def Zk4:Ren:=⟨Ztw [(119,100),(137,99),(138,97),(143,98),(144,106),(146,14),(152,45),(153,15),(195,137),(197,138),(217,141),(218,139),(219,140),(221,44),(224,101),(225,102),(226,46),(227,47),(228,48),(260,163),(266,165),(267,164),(268,96),(314,188)],Ztw [(0,0),(3,3),(4,4),(5,5),(9,9),(21,21),(31,22),(46,165),(51,28),(105,203),(116,111),(117,112),(119,264),(124,166),(138,266),(139,267),(146,268)],Ztw [(1,0),(3,1),(4,2)]⟩
theorem Z5o:Lays.n146 prog Zk4 where
 mixed:=mixed
 f138:=Tryz.func97.trans (congrArg some (by kernel_rfl))
 f143:=Tryz.func98.trans (congrArg some (by kernel_rfl))
 f146:=Tryz.func14.trans (congrArg some (by kernel_rfl))
 f195:=Tryz.func137.trans (congrArg some (by kernel_rfl))
 f197:=Tryz.func138.trans (congrArg some (by kernel_rfl))
 f217:=Tryz.func141.trans (congrArg some (by kernel_rfl))
 f218:=Tryz.func139.trans (congrArg some (by kernel_rfl))
 f219:=Tryz.func140.trans (congrArg some (by kernel_rfl))
 f221:=Tryz.func44.trans (congrArg some (by kernel_rfl))
 f224:=Tryz.func101.trans (congrArg some (by kernel_rfl))
 f225:=Tryz.func102.trans (congrArg some (by kernel_rfl))
 f260:=Tryz.func163.trans (congrArg some (by kernel_rfl))
 f266:=Tryz.func165.trans (congrArg some (by kernel_rfl))
 f267:=Tryz.func164.trans (congrArg some (by kernel_rfl))
 f268:=Tryz.func96.trans (congrArg some (by kernel_rfl))
 f314:=Tryz.func188.trans (congrArg some (by kernel_rfl))
 t0:=by kernel_rfl
 a0:=λ_=>Yg (by kernel_rfl)
 z0:=λ_=>Zs (by kernel_rfl)
 v0:=λ_=>Yw (by kernel_rfl)
 t3:=by kernel_rfl
 a3:=λ_=>Yg (by kernel_rfl)
 z3:=λ_=>Zs (by kernel_rfl)
 v3:=λ_=>Yw (by kernel_rfl)
 t4:=by kernel_rfl
 a4:=λ_=>Yg (by kernel_rfl)
 z4:=λ_=>Zs (by kernel_rfl)
 v4:=λ_=>Yw (by kernel_rfl)
 t5:=by kernel_rfl
 a5:=λ_=>Yg (by kernel_rfl)
 z5:=λ_=>Zs (by kernel_rfl)
 v5:=λ_=>Yw (by kernel_rfl)
 t9:=by kernel_rfl
 a9:=λ_=>Yg (by kernel_rfl)
 z9:=λ_=>Zs (by kernel_rfl)
 v9:=λ_=>Yw (by kernel_rfl)
 t21:=by kernel_rfl
 a21:=λ_=>Yg (by kernel_rfl)
 z21:=λ_=>Zs (by kernel_rfl)
 v21:=λ_=>Yw (by kernel_rfl)
 t31:=by kernel_rfl
 a31:=λ_=>Yg (by kernel_rfl)
 z31:=λ_=>Zs (by kernel_rfl)
 v31:=λ_=>Yw (by kernel_rfl)
 t46:=by kernel_rfl
 a46:=λ_=>Yg (by kernel_rfl)
 z46:=λ_=>Zs (by kernel_rfl)
 v46:=λ_=>Yw (by kernel_rfl)
 t51:=by kernel_rfl
 a51:=λ_=>Yg (by kernel_rfl)
 z51:=λ_=>Zs (by kernel_rfl)
 v51:=λ_=>Yw (by kernel_rfl)
 t105:=by kernel_rfl
 a105:=λ_=>Yg (by kernel_rfl)
 z105:=λ_=>Zs (by kernel_rfl)
 v105:=λ_=>Yw (by kernel_rfl)
 t119:=by kernel_rfl
 a119:=λ_=>Yg (by kernel_rfl)
 z119:=λ_=>Zs (by kernel_rfl)
 t138:=by kernel_rfl
 a138:=λ_=>Yg (by kernel_rfl)
 z138:=λ_=>Zs (by kernel_rfl)
 v138:=λ_=>Yw (by kernel_rfl)
 t139:=by kernel_rfl
 a139:=λ_=>Yg (by kernel_rfl)
 z139:=λ_=>Zs (by kernel_rfl)
 v139:=λ_=>Yw (by kernel_rfl)
 t146:=by kernel_rfl
 a146:=λ_=>Yg (by kernel_rfl)
 z146:=λ_=>Zs (by kernel_rfl)
 v146:=λ_=>Yw (by kernel_rfl)
 g1:=by kernel_rfl
 g3:=by kernel_rfl
 g4:=by kernel_rfl
theorem Z72:Lays.n144 prog Zk4 where
 mixed:=mixed
 f143:=Tryz.func98.trans (congrArg some (by kernel_rfl))
 f144:=Tryz.func106.trans (congrArg some (by kernel_rfl))
 f217:=Tryz.func141.trans (congrArg some (by kernel_rfl))
 f219:=Tryz.func140.trans (congrArg some (by kernel_rfl))
 f224:=Tryz.func101.trans (congrArg some (by kernel_rfl))
 f225:=Tryz.func102.trans (congrArg some (by kernel_rfl))
 f266:=Tryz.func165.trans (congrArg some (by kernel_rfl))
 f267:=Tryz.func164.trans (congrArg some (by kernel_rfl))
 f314:=Tryz.func188.trans (congrArg some (by kernel_rfl))
 t3:=by kernel_rfl
 a3:=λ_=>Yg (by kernel_rfl)
 z3:=λ_=>Zs (by kernel_rfl)
 v3:=λ_=>Yw (by kernel_rfl)
 t4:=by kernel_rfl
 a4:=λ_=>Yg (by kernel_rfl)
 z4:=λ_=>Zs (by kernel_rfl)
 v4:=λ_=>Yw (by kernel_rfl)
 t5:=by kernel_rfl
 a5:=λ_=>Yg (by kernel_rfl)
 z5:=λ_=>Zs (by kernel_rfl)
 v5:=λ_=>Yw (by kernel_rfl)
 t9:=by kernel_rfl
 a9:=λ_=>Yg (by kernel_rfl)
 z9:=λ_=>Zs (by kernel_rfl)
 v9:=λ_=>Yw (by kernel_rfl)
 t46:=by kernel_rfl
 a46:=λ_=>Yg (by kernel_rfl)
 z46:=λ_=>Zs (by kernel_rfl)
 v46:=λ_=>Yw (by kernel_rfl)
 t51:=by kernel_rfl
 a51:=λ_=>Yg (by kernel_rfl)
 z51:=λ_=>Zs (by kernel_rfl)
 v51:=λ_=>Yw (by kernel_rfl)
 t146:=by kernel_rfl
 a146:=λ_=>Yg (by kernel_rfl)
 z146:=λ_=>Zs (by kernel_rfl)
 v146:=λ_=>Yw (by kernel_rfl)
 g1:=by kernel_rfl
theorem Z5m:Lays.n197 prog Zk4 where
 mixed:=mixed
 f197:=Tryz.func138.trans (congrArg some (by kernel_rfl))
 f260:=Tryz.func163.trans (congrArg some (by kernel_rfl))
 t0:=by kernel_rfl
 a0:=λ_=>Yg (by kernel_rfl)
 z0:=λ_=>Zs (by kernel_rfl)
 v0:=λ_=>Yw (by kernel_rfl)
 t3:=by kernel_rfl
 a3:=λ_=>Yg (by kernel_rfl)
 z3:=λ_=>Zs (by kernel_rfl)
 v3:=λ_=>Yw (by kernel_rfl)
 t4:=by kernel_rfl
 a4:=λ_=>Yg (by kernel_rfl)
 z4:=λ_=>Zs (by kernel_rfl)
 v4:=λ_=>Yw (by kernel_rfl)
 t5:=by kernel_rfl
 a5:=λ_=>Yg (by kernel_rfl)
 z5:=λ_=>Zs (by kernel_rfl)
 v5:=λ_=>Yw (by kernel_rfl)
 t9:=by kernel_rfl
 a9:=λ_=>Yg (by kernel_rfl)
 z9:=λ_=>Zs (by kernel_rfl)
 v9:=λ_=>Yw (by kernel_rfl)
 t21:=by kernel_rfl
 a21:=λ_=>Yg (by kernel_rfl)
 z21:=λ_=>Zs (by kernel_rfl)
 v21:=λ_=>Yw (by kernel_rfl)
 t46:=by kernel_rfl
 a46:=λ_=>Yg (by kernel_rfl)
 z46:=λ_=>Zs (by kernel_rfl)
 v46:=λ_=>Yw (by kernel_rfl)
 t105:=by kernel_rfl
 a105:=λ_=>Yg (by kernel_rfl)
 z105:=λ_=>Zs (by kernel_rfl)
 v105:=λ_=>Yw (by kernel_rfl)
 t119:=by kernel_rfl
 a119:=λ_=>Yg (by kernel_rfl)
 z119:=λ_=>Zs (by kernel_rfl)
 t138:=by kernel_rfl
 a138:=λ_=>Yg (by kernel_rfl)
 z138:=λ_=>Zs (by kernel_rfl)
 v138:=λ_=>Yw (by kernel_rfl)
 t139:=by kernel_rfl
 a139:=λ_=>Yg (by kernel_rfl)
 z139:=λ_=>Zs (by kernel_rfl)
 v139:=λ_=>Yw (by kernel_rfl)
 g3:=by kernel_rfl
 g4:=by kernel_rfl
theorem Z73:Lays.n152 prog Zk4 where
 mixed:=mixed
 f119:=Tryz.func100.trans (congrArg some (by kernel_rfl))
 f137:=Tryz.func99.trans (congrArg some (by kernel_rfl))
 f152:=Tryz.func45.trans (congrArg some (by kernel_rfl))
 f217:=Tryz.func141.trans (congrArg some (by kernel_rfl))
 f224:=Tryz.func101.trans (congrArg some (by kernel_rfl))
 f225:=Tryz.func102.trans (congrArg some (by kernel_rfl))
 f266:=Tryz.func165.trans (congrArg some (by kernel_rfl))
 t0:=by kernel_rfl
 a0:=λ_=>Yg (by kernel_rfl)
 z0:=λ_=>Zs (by kernel_rfl)
 v0:=λ_=>Yw (by kernel_rfl)
 t3:=by kernel_rfl
 a3:=λ_=>Yg (by kernel_rfl)
 z3:=λ_=>Zs (by kernel_rfl)
 v3:=λ_=>Yw (by kernel_rfl)
 t4:=by kernel_rfl
 a4:=λ_=>Yg (by kernel_rfl)
 z4:=λ_=>Zs (by kernel_rfl)
 v4:=λ_=>Yw (by kernel_rfl)
 t5:=by kernel_rfl
 a5:=λ_=>Yg (by kernel_rfl)
 z5:=λ_=>Zs (by kernel_rfl)
 v5:=λ_=>Yw (by kernel_rfl)
 t9:=by kernel_rfl
 a9:=λ_=>Yg (by kernel_rfl)
 z9:=λ_=>Zs (by kernel_rfl)
 v9:=λ_=>Yw (by kernel_rfl)
 t21:=by kernel_rfl
 a21:=λ_=>Yg (by kernel_rfl)
 z21:=λ_=>Zs (by kernel_rfl)
 v21:=λ_=>Yw (by kernel_rfl)
 t46:=by kernel_rfl
 a46:=λ_=>Yg (by kernel_rfl)
 z46:=λ_=>Zs (by kernel_rfl)
 v46:=λ_=>Yw (by kernel_rfl)
theorem Z5n:Lays.n153 prog Zk4 where
 mixed:=mixed
 f119:=Tryz.func100.trans (congrArg some (by kernel_rfl))
 f137:=Tryz.func99.trans (congrArg some (by kernel_rfl))
 f152:=Tryz.func45.trans (congrArg some (by kernel_rfl))
 f153:=Tryz.func15.trans (congrArg some (by kernel_rfl))
 f217:=Tryz.func141.trans (congrArg some (by kernel_rfl))
 f224:=Tryz.func101.trans (congrArg some (by kernel_rfl))
 f225:=Tryz.func102.trans (congrArg some (by kernel_rfl))
 f226:=Tryz.func46.trans (congrArg some (by kernel_rfl))
 f227:=Tryz.func47.trans (congrArg some (by kernel_rfl))
 f228:=Tryz.func48.trans (congrArg some (by kernel_rfl))
 f266:=Tryz.func165.trans (congrArg some (by kernel_rfl))
 t0:=by kernel_rfl
 a0:=λ_=>Yg (by kernel_rfl)
 z0:=λ_=>Zs (by kernel_rfl)
 v0:=λ_=>Yw (by kernel_rfl)
 t3:=by kernel_rfl
 a3:=λ_=>Yg (by kernel_rfl)
 z3:=λ_=>Zs (by kernel_rfl)
 v3:=λ_=>Yw (by kernel_rfl)
 t4:=by kernel_rfl
 a4:=λ_=>Yg (by kernel_rfl)
 z4:=λ_=>Zs (by kernel_rfl)
 v4:=λ_=>Yw (by kernel_rfl)
 t5:=by kernel_rfl
 a5:=λ_=>Yg (by kernel_rfl)
 z5:=λ_=>Zs (by kernel_rfl)
 v5:=λ_=>Yw (by kernel_rfl)
 t9:=by kernel_rfl
 a9:=λ_=>Yg (by kernel_rfl)
 z9:=λ_=>Zs (by kernel_rfl)
 v9:=λ_=>Yw (by kernel_rfl)
 t21:=by kernel_rfl
 a21:=λ_=>Yg (by kernel_rfl)
 z21:=λ_=>Zs (by kernel_rfl)
 v21:=λ_=>Yw (by kernel_rfl)
 t46:=by kernel_rfl
 a46:=λ_=>Yg (by kernel_rfl)
 z46:=λ_=>Zs (by kernel_rfl)
 v46:=λ_=>Yw (by kernel_rfl)
 t116:=by kernel_rfl
 a116:=λ_=>Yg (by kernel_rfl)
 z116:=λ_=>Zs (by kernel_rfl)
 t117:=by kernel_rfl
 a117:=λ_=>Yg (by kernel_rfl)
 z117:=λ_=>Zs (by kernel_rfl)
 v117:=λ_=>Yw (by kernel_rfl)
 t124:=by kernel_rfl
 a124:=λ_=>Yg (by kernel_rfl)
 z124:=λ_=>Zs (by kernel_rfl)
 v124:=λ_=>Yw (by kernel_rfl)
section
variable {w0 w:World} {ρ:Hp} {Γ:List Kh}
theorem Zaw.c (hs:St w0 ρ Γ w) (H:Zaw.f x0 x1=some r):Zk prog 98 [.string x0,.string x1] w (λv w'=>v=.int .i64 r/\St w0 ρ Γ w'):=
 Ztf (ρs:=Zk4) { Z5o with } (Zbe func98 (by kernel_rfl) (by kernel_rfl)) hs H
theorem Zbq.c (hs:St w0 ρ Γ w) (H:Zbq.f x0 x1=some r):Zk prog 97 [.string x0,.string x1] w (λv w'=>v=.int .i64 r/\St w0 ρ Γ w'):=
 Zsx (ρs:=Zk4) { Z5o with } (Zbe func97 (by kernel_rfl) (by kernel_rfl)) hs H
theorem Za4.c (hs:St w0 ρ Γ w) (H:Za4.f x0 x1=some r):Zk prog 106 [.string x0,.string x1] w (λv w'=>v=.bool r/\St w0 ρ Γ w'):=
 Zmy (ρs:=Zk4) Z72 (Zbe func106 (by kernel_rfl) (by kernel_rfl)) hs H
def Zdr (w0:World):Prop:=Lib.Utf8Tabs 1 2 w0
theorem V6.c (hs:St w0 ρ Γ w) (hL:Zdr w0) (H:V6.f x0=some r):Zk prog 138 [.string x0] w (λv w'=>v=.tuple #[.int .i32 r.1,.int .i64 r.2]/\St w0 ρ Γ w'):=
 Zqs (ρs:=Zk4) Z5m (Zbe func138 (by kernel_rfl) (by kernel_rfl)) hs hL H
def Z67:Ren:=⟨Ztw [(169,56),(240,110),(276,145)],Ztw [(0,0),(3,3),(4,4),(5,5),(9,9),(20,20),(37,120),(70,119),(72,122),(75,125),(80,128),(127,172),(164,213)],λn=>n⟩
theorem Z1m:Lays.n169 prog Z67 where
 mixed:=mixed
 f169:=Tryz.func56.trans (congrArg some (by kernel_rfl))
 t0:=by kernel_rfl
 a0:=λ_=>Yg (by kernel_rfl)
 z0:=λ_=>Zs (by kernel_rfl)
 v0:=λ_=>Yw (by kernel_rfl)
 t3:=by kernel_rfl
 a3:=λ_=>Yg (by kernel_rfl)
 z3:=λ_=>Zs (by kernel_rfl)
 v3:=λ_=>Yw (by kernel_rfl)
 t9:=by kernel_rfl
 a9:=λ_=>Yg (by kernel_rfl)
 z9:=λ_=>Zs (by kernel_rfl)
 v9:=λ_=>Yw (by kernel_rfl)
 t37:=by kernel_rfl
 a37:=λ_=>Yg (by kernel_rfl)
 z37:=λ_=>Zs (by kernel_rfl)
 v37:=λ_=>Yw (by kernel_rfl)
 t70:=by kernel_rfl
 a70:=λ_=>Yg (by kernel_rfl)
 z70:=λ_=>Zs (by kernel_rfl)
 v70:=λ_=>Yw (by kernel_rfl)
 t72:=by kernel_rfl
 a72:=λ_=>Yg (by kernel_rfl)
 z72:=λ_=>Zs (by kernel_rfl)
 v72:=λ_=>Yw (by kernel_rfl)
 t127:=by kernel_rfl
 a127:=λ_=>Yg (by kernel_rfl)
 z127:=λ_=>Zs (by kernel_rfl)
 v127:=λ_=>Yw (by kernel_rfl)
theorem Z6p:Builder.Extra prog Z67 where
 sizeBuilder:=by kernel_rfl
 liesBuilder:=by kernel_rfl
 infoByte:=by kernel_rfl
 cellsByte:=by kernel_rfl
 sizeByte:=by kernel_rfl
 t5:=by kernel_rfl
 neB5:=by decide
 a5:=λ_=>Yg (by kernel_rfl)
 z5:=λ_=>Zs (by kernel_rfl)
 v5:=λ_=>Yw (by kernel_rfl)
theorem Z3t (h:Bd 122 5 w1 b l w) (hs:St w0 ρ Γ w1):Zk prog 56 [.pointer (some ⟨b,0,none⟩)] w (λv w'=>v=.string ⟨l.toArray⟩/\St w0 ρ Γ w'):=
 Bd.str (ρs:=Z67) Z1m Z6p (Zbe func56 (by kernel_rfl) (by kernel_rfl)) h hs
end
end
section
variable {w0 w:World} {ρ:Hp} {Γ:List Kh}
def Zdv.f (x0:ByteArray) (_:Vector Int 4):Option ByteArray:=if x0=(⟨#[]⟩:ByteArray) then some (⟨#[]⟩:ByteArray) else none
theorem Zdv.c (hs:St w0 ρ (Γ) w) (H:Zdv.f x0 x1=some r):Zk prog 150 [.string x0,.agg (vcs (Value.int .u64) x1).toArray] w (λv w'=>v=.string r/\St w0 ρ Γ w'):=by
 obtain ⟨e,H⟩:=gd H;obtain rfl:=Zn H;subst e;refine Et func150 ntmps150 rfl<|Wr λ_ a1=>Zjd hs rfl rfl (λag w hs=>As rfl<|Ox a1<|Wr λ_ a2=>Zxy (e:=5) Z8s rfl λb w1 hb=>Ox a2 ?_);refine V2 λ_ a3=>Wr λ_ a4=>Mv rfl<|O_y rfl (U8 un9 rfl)<|Mv rfl<|Ox a4<|Zed λ_ a5 _=>Zen (σ:=Unit) (λ_=>[(5,.pointer (some ⟨b,0,none⟩)),(8,.int .i64 0),(9,.int .i64 0)]) (λ_ w'=>Bd 122 5 w b [] w') (λ_=>0) () sbn hb ?_;rintro _ wl a8 hb a9;refine Wr λ_ b1=>Ols rfl<|Ox b1<|V2 λ_ b2=>Yp rfl (λc=>absurd c (by decide)) (λ_=>Zfr (a5 _ _ (a3 _ _<|Wr λ_ z1=>Oc rfl (Z3t hb hs) (λv w' hp=>?_))));obtain ⟨rfl,hs⟩:=hp;refine As rfl<|Ox z1<|Zh ?_;exact r1 rfl ⟨rfl,hs.sub (ssk ssr)⟩
end
section
open Go.RowKit Go.MapKept
section
variable {P:Program} {n:Nat} {N:Nxt} {L:Loc} {w w0:World} {ρ:Hp} {Γ:List Kh} {ops:Array Oper} {rest:List Oper} {d t:Nat} {pos:String} {aft:Array Edge} {x:Operand}
variable {κ ν:Type} [DecidableEq κ] {enc:κ->Value} {E:ν->Value} {m:List (κ×ν)}
omit [DecidableEq κ] in
omit [DecidableEq κ] in
theorem Zs4 (enc:κ->Value):∀ (l:List (κ×Value)) (b j:Nat),(Za7 enc l b)[j]?=(l[j]?).map λp=>(⟨enc p.1,p.2,b+j⟩:MapEntry)
 | [],_,_=>by simp [Za7]
 | p::l,b,0=>by simp [Za7]
 | p::l,b,j+1=>by simp [Za7,Zs4 enc l (b+1) j,Nat.add_assoc,Nat.add_comm 1 j]
theorem St.drewOne (hs:St w0 ρ Γ w):St w0 ρ Γ w.drew:=hs.under ⟨rfl,rfl,rfl,Nat.le_refl _,λ_ _=>rfl⟩
theorem Zzt {mt kt e:TypeId} (hu:P.underlying mt=some (.map kt e)) (hm:Zjb enc E ρ v m) (hs:St w0 ρ Γ w) (hx:ev L x=some v) (hd:Nat.blt d n=true) (k:∀ b r w',v=.map (some b)->St w0 ρ (.obj r (.mapIter (some b) m.length #[] m.length)::Γ) w'->O P n ops rest N ((d,.pointer (some ⟨r,0,none⟩))::L) w'):O P n ops (⟨some d,.range mt x,t,pos,aft,none⟩::rest) N L w:=by
 obtain ⟨b,rfl,hb⟩:=hm.obj hs;have hl:(vs E m).length=m.length:=by simp [vs]
 rw [hl] at hb;refine Zij hd λa ha=>⟨_,_,?_,k b w.heap.size (w.alloc (.mapIter (some b) m.length #[] m.length)) rfl (hs.push _ _ rfl ⟨heap_alloc_new w _,λ_ _ _ h=>by cases h⟩)⟩;simp only [execOp,ha.ev hx,Instr.range,Sem.run_bind,run_underlying hu,Result.andThen,MapKept.run_getObj_map hb,newObj];rfl
theorem Z6a {seen:Array Nat} (hs:St w0 ρ Γ w) (hi:Γ[i]?=some (.obj r (.mapIter (some b) m.length seen m.length))) (hm:Zjb enc E ρ (.map (some b)) m) (hx:ev L x=some (.pointer (some ⟨r,0,none⟩))) (hd:Nat.blt d n=true) (k0:∀ w',St w0 ρ Γ w'->(∀ j,j<m.length->j∈seen.toList)->O P n ops rest N ((d,.tuple #[.bool false])::L) w') (k1:∀ j p w',m[j]?=some p->j∉seen.toList->St w0 ρ (Γ.set i (.obj r (.mapIter (some b) m.length (seen.push j) m.length))) w'->O P n ops rest N ((d,.tuple #[.bool true,enc p.1,E p.2])::L) w'):
  O P n ops (⟨some d,.next x false,t,pos,aft,none⟩::rest) N L w:=by
 obtain ⟨b',hb',hb⟩:=hm.obj hs
 obtain rfl:b=b':=by simpa using hb'
 have hl:(vs E m).length=m.length:=by simp [vs]
 rw [hl] at hb
 have hr:w.heap[r]?=some (.mapIter (some b) m.length seen m.length):=(hs.ok _ (List.mem_of_getElem? hi)).1
 have hget:∀ j,(Za7 enc (vs E m) 0)[j]?=(m[j]?).map λp=>(⟨enc p.1,E p.2,j⟩:MapEntry):=by
  intro j
  rw [Zs4]
  simp only [vs,List.getElem?_map,Option.map_map,Nat.zero_add]
  rfl
 have hold:∀ y∈(Za7 enc (vs E m) 0).toArray.toList,y.born<m.length:=by
  intro y hy
  obtain ⟨j,hj⟩:=List.mem_iff_getElem?.1 (by simpa using hy)
  rw [hget] at hj
  obtain ⟨p,hp,rfl⟩:=Option.map_eq_some_iff.1 hj
  exact (List.getElem?_eq_some_iff.1 hp).1
 have hgr:(getObj r).run P w=.ok (.mapIter (some b) m.length seen m.length) w:=by simp only [getObj,Sem.run,hr]
 have hset:∀ (w1:World),w1.heap=w.heap->∀ o,(setObj r o).run P w1=.ok () { w1 with heap:=w1.heap.setIfInBounds r o }:=by
  intro w1 h1 o
  simp only [setObj,Sem.run,h1,hr]
 have hmem:∀ y,y∈(leftOf (Za7 enc (vs E m) 0).toArray seen).toList->∃ j p,m[j]?=some p/\j∉seen.toList/\y=(⟨enc p.1,E p.2,j⟩:MapEntry):=by
  intro y hy
  simp only [leftOf,Array.toList_filter,List.mem_filter] at hy
  obtain ⟨j,hj⟩:=List.mem_iff_getElem?.1 hy.1
  rw [hget] at hj
  obtain ⟨p,hp,rfl⟩:=Option.map_eq_some_iff.1 hj
  exact ⟨j,p,hp,by simpa using hy.2,rfl⟩
 have hnext:((leftOf (Za7 enc (vs E m) 0).toArray seen).size=0/\(Instr.next (.pointer (some ⟨r,0,none⟩)) false t).run P w=.ok (.tuple #[.bool false]) w)\/
   ∃ y∈(leftOf (Za7 enc (vs E m) 0).toArray seen).toList,∃ w1:World,(w1=w\/w1=w.drew)/\(Instr.next (.pointer (some ⟨r,0,none⟩)) false t).run P w=.ok (.tuple #[.bool true,y.key,y.val]) { w1 with heap:=w1.heap.setIfInBounds r (.mapIter (some b) m.length (seen.push y.born) m.length) }:=by
  simp only [Instr.next,Sem.run_bind,hgr,MapKept.run_getObj_map hb,Result.andThen,next_test_false seen (Za7 enc (vs E m) 0).toArray m.length m.length hold (Nat.le_refl _),Bool.false_eq_true,if_false]
  unfold leftOf
  have hm2:∀ y∈(Array.filter (λe=>!seen.contains e.born) (Za7 enc (vs E m) 0).toArray).toList,y.born<m.length:=λy hy=>hold y (by simp at hy ⊢;exact hy.1)
  generalize Array.filter (λe=>!seen.contains e.born) (Za7 enc (vs E m) 0).toArray=Q at hm2 ⊢
  have e1:Q.filter (λy=>decide (y.born<m.length))=Q:=Array.filter_eq_self.2 (λy hy=>by simpa using hm2 y (by simpa using hy))
  have e2:Q.filter (λy=>decide (y.born>=m.length))=#[]:=by
   rw [Array.filter_eq_empty_iff]
   intro y hy
   have:=hm2 y (by simpa using hy)
   simp
   omega
  simp only [e1,e2,Array.append_empty]
  by_cases h0:Q.size=0
  ·left
   obtain rfl:=Array.eq_empty_of_size_eq_zero h0
   refine ⟨rfl,?_⟩
   simp [choose,Sem.run,Question.forced]
  ·right
   have hne:Q.isEmpty=false:=by simp [Array.isEmpty,h0]
   simp only [hne,Bool.false_eq_true,if_false,Array.empty_append,Array.size_map]
   have hch:∃ (j:Nat) (w1:World),j<Q.size/\(w1=w\/w1=w.drew)/\w1.heap=w.heap/\(choose (Question.mapNext Q.size)).run P w=.ok j w1:=by
    by_cases hf:Q.size<=1
    ·exact ⟨0,w,by omega,.inl rfl,rfl,by simp [choose,Sem.run,Question.forced,hf]⟩
    ·exact ⟨_,w.drew,Nat.mod_lt _ (by omega),.inr rfl,rfl,by
      simp only [choose,Sem.run,Question.forced,decide_eq_true_eq,hf,if_false,Question.cut]
      rfl⟩
   obtain ⟨j,w1,hj,hw1,hh,hrun⟩:=hch
   refine ⟨Q[j],by simp,w1,hw1,?_⟩
   simp only [hrun,Array.getElem?_map,Array.getElem?_eq_getElem hj,Option.map_some,Sem.run_bind,hset w1 hh,Result.andThen]
   rfl
 rcases hnext with ⟨h0,hrun⟩ | ⟨y,hy,w1,hw1,hrun⟩
 ·refine Zij hd λa ha=>⟨_,_,by simp only [execOp,ha.ev hx,Sem.run_bind,hrun,Result.andThen];rfl,k0 w hs λj hj=>?_⟩
  apply Classical.byContradiction
  intro hn
  have hq:=hget j
  rw [List.getElem?_eq_getElem hj,Option.map_some] at hq
  have:(⟨enc m[j].1,E m[j].2,j⟩:MapEntry)∈(leftOf (Za7 enc (vs E m) 0).toArray seen).toList:=by
   simp only [leftOf,Array.toList_filter,List.mem_filter]
   exact ⟨List.mem_of_getElem? hq,by simpa using hn⟩
  rw [Array.eq_empty_of_size_eq_zero h0] at this
  cases this
 ·obtain ⟨j,p,hp,hjs,rfl⟩:=hmem y hy
  have hs1:St w0 ρ Γ w1:=by rcases hw1 with rfl | rfl;exact hs;exact hs.drewOne
  refine Zij hd λa ha=>⟨_,_,by simp only [execOp,ha.ev hx,Sem.run_bind,hrun,Result.andThen];rfl,k1 j p _ hp hjs (hs1.putObj hi (λ_ _ _ h=>by cases h))⟩
omit [DecidableEq κ] in
theorem Zpk (enc:κ->Value):∀ (l:List (κ×Value)) (b j:Nat) (p:κ×Value),l[j]?=some p->(Za7 enc l b).find? (λe=>e.born == b+j)=some ⟨enc p.1,p.2,b+j⟩
 | [],_,_,_,h=>by simp at h
 | q::l,b,0,p,h=>by
  obtain rfl:q=p:=by simpa using h
  simp [Za7]
 | q::l,b,j+1,p,h=>by
  have:=Zpk enc l (b+1) j p (by simpa using h)
  rw [show b+1+j=b+(j+1) by omega] at this
  simp only [Za7,List.find?_cons]
  rw [show (b == b+(j+1))=false by simp]
  exact this
theorem Z3j {i r b j:Nat} {seen:Array Nat} {p:κ×ν} (hs:St w0 ρ Γ w) (hi:Γ[i]?=some (.obj r (.mapIter (some b) m.length (seen.push j) m.length))) (hm:Zjb enc E ρ (.map (some b)) m) (hp:m[j]?=some p) (hx:ev L x=some (.pointer (some ⟨r,0,none⟩))) (hd:Nat.blt d n=true) (k:O P n ops rest N ((d,.tuple #[enc p.1,E p.2])::L) w):O P n ops (⟨some d,.entry x,t,pos,aft,none⟩::rest) N L w:=by
 obtain ⟨b',hb',hb⟩:=hm.obj hs;obtain rfl:b=b':=by simpa using hb'
 have hl:(vs E m).length=m.length:=by simp [vs]
 rw [hl] at hb;have hr:w.heap[r]?=some (.mapIter (some b) m.length (seen.push j) m.length):=(hs.ok _ (List.mem_of_getElem? hi)).1;have hgr:(getObj r).run P w=.ok (.mapIter (some b) m.length (seen.push j) m.length) w:=by simp only [getObj,Sem.run,hr]
 have hf:=Zpk enc (vs E m) 0 j (p.1,E p.2) (by simp [vs,hp]);rw [Nat.zero_add] at hf;refine Zij hd λa ha=>⟨_,_,?_,k⟩;simp only [execOp,ha.ev hx,Instr.entry,Sem.run_bind,hgr,Result.andThen,Array.back?_push,MapKept.run_getObj_map hb,List.find?_toArray,hf];simp [Sem.run_pure]
end
end
section
open Go.Shelf Go.RowKit Go.Lib
variable {P:Program} {ρ:Ren}
set_option maxHeartbeats 4000000 in
set_option maxRecDepth 1000000 in
theorem Zre (L:Lays.n152 P ρ) (s:ByteArray) (y:UInt8) (hs2:s.size=2) (hy:s[1]'(by omega)=y) (hyn:y.toNat<128) (r:Int) (w:World) (h0:128<=r) (hv:Lib.validRune r=true) (hne:r≠65533):
  Calls P (ρ.f 152) #[.string s,.int .i32 r] w λe w'=>e=.returned (.int .i64 (-1))/\Below w.heap.size w w':=by
 have hlt:¬ r<128:=by omega
 have h00:(0:Int)<=r:=by omega
 obtain ⟨E,hE⟩:∃ E,Utf8.encode r=E:=⟨_,rfl⟩;obtain ⟨e1,e2,e3⟩:=encode_facts r (by rw [validRune_eq];exact hv) h0;rw [hE] at e1 e2 e3;have mixed:=L.mixed;have t0:=L.t0;have a0:=L.a0;have z0:=L.z0;have v0:=L.v0;have t3:=L.t3;have a3:=L.a3;have z3:=L.z3;have v3:=L.v3;have t4:=L.t4;have a4:=L.a4;have z4:=L.z4;have v4:=L.v4;have t5:=L.t5;have a5:=L.a5;have z5:=L.z5;have v5:=L.v5;have t9:=L.t9;have a9:=L.a9;have z9:=L.z9;have v9:=L.v9;have t21:=L.t21;have a21:=L.a21;have z21:=L.z21;have v21:=L.v21;have e137:∀ args w,(callFunc (ρ.f 137) args).run P w=.ok (.enter (ρ.f 137) args) w:=Zbe L.f137 (by kernel_rfl) rfl;have e119:∀ args w,(callFunc (ρ.f 119) args).run P w=.ok (.enter (ρ.f 119) args) w:=Zbe L.f119 (by kernel_rfl) rfl;by_cases h2:E.size=2
 ·have e4:=e3 (by omega)
  simp only [h2] at e4;obtain ⟨x,hx⟩:∃ x,E[1]'(by omega)=x:=⟨_,rfl⟩;have hx2:128<=x.toNat:=by rw [<- hx];exact e4
  have hn:((y.toNat:Int) != (x.toNat:Int))=true:=by simp;omega
  have hxe:s.extract 2 2=⟨#[]⟩:=by apply ByteArray.ext;apply Array.toList_inj.1;simp
  clear e4 e3;go_enter L.f152,Body.n152_ntmps ρ
  go_wp2_with (go_at_fn (ρ.f 119);refine (Any.utf8_ValidRune { L with } _ _).mono ?_;rintro e w' ⟨rfl,hw⟩;rw [hw,hv])
  go_step3;go_wp2;refine wp_loop_once ?_;go_wp2;go_step3;go_wp2;go_region_o;go_wp2
  go_region_with_o (refine (Any.strings_IndexByte { L with } _ _ _).mono ?_;rintro e w' ⟨rfl,hw⟩;rw [hw])
  all_goals
   simp only [Exit.noGoto,Exit.inBlock,Exit.then]
   go_wp2
   simp +zetaDelta only [Exit.noGoto,Exit.inBlock,Exit.then]
   go_ret
   exact ⟨rfl,(Below.refl _ _).drew.drew⟩
 ·clear e3
  have hge:¬ ((E.size:Int)-1<2):=by omega
  go_enter L.f152,Body.n152_ntmps ρ
  go_wp2_with (go_at_fn (ρ.f 119);refine (Any.utf8_ValidRune { L with } _ _).mono ?_;rintro e w' ⟨rfl,hw⟩;rw [hw,hv])
  go_step3;go_wp2;refine wp_loop_once ?_;go_wp2;simp only [Exit.noGoto,Exit.inBlock,Exit.then];go_ret;exact ⟨rfl,Below.refl _ _⟩
set_option maxHeartbeats 4000000 in
set_option maxRecDepth 1000000 in
theorem Zos (L:Lays.n152 P ρ) (s:ByteArray) (x y:UInt8) (hs2:s.size=2) (hx:s[0]'(by omega)=x) (hy:s[1]'(by omega)=y) (hxn:x.toNat<128) (hyn:y.toNat<128) (w:World):
  Calls P (ρ.f 152) #[.string s,.int .i32 65533] w λe w'=>e=.returned (.int .i64 (-1))/\Below w.heap.size w w':=by
 have mixed:=L.mixed;have t0:=L.t0;have a0:=L.a0;have z0:=L.z0;have v0:=L.v0;have t3:=L.t3;have a3:=L.a3;have z3:=L.z3;have v3:=L.v3;have t4:=L.t4;have a4:=L.a4;have z4:=L.z4;have v4:=L.v4;have t5:=L.t5;have a5:=L.a5;have z5:=L.z5;have v5:=L.v5;have t9:=L.t9;have a9:=L.a9;have z9:=L.z9;have v9:=L.v9;have t21:=L.t21;have a21:=L.a21;have z21:=L.z21;have v21:=L.v21;have n0:=λty=>run_next_ascii (P:=P) w s 0 ty (by omega) (by rw [hx];exact hxn);have n1:=λty=>run_next_ascii (P:=P) w s 1 ty (by omega) (by rw [hy];exact hyn);have n2:=λty=>run_next_end (P:=P) w s 2 ty (by omega);rw [hx] at n0;rw [hy] at n1;have b0:((x.toNat:Int) == 65533)=false:=by simp;omega
 have b1:((y.toNat:Int) == 65533)=false:=by simp;omega
 go_enter L.f152,Body.n152_ntmps ρ;go_wp2;refine wp_loop_rounds 3 ?_;simp only [Code.rounds];go_wp2;go_ret;exact ⟨rfl,(Below.refl _ _).alloc (Nat.le_refl _) _⟩
def ws:ByteArray:=⟨#[32,9]⟩
theorem Zqu (s:ByteArray) (i:Nat):Lib.validRune ((Utf8.decode s i).1:Int)=true:=by
 have lo:∀ n:Nat,n<55296->Lib.validRune (n:Int)=true:=λn h=>decide_eq_true (by omega);have va:∀ n:Nat,Utf8.valid (n:Int)=true->Lib.validRune (n:Int)=true:=λn h=>by rw [validRune_eq] at h;exact h
 have er:Lib.validRune ((Utf8.runeError:Nat):Int)=true:=by decide
 simp only [Utf8.decode];repeat' split
 all_goals first
  | exact lo _ (by omega)
  | (rename_i h;simp only [Bool.and_eq_true] at h;exact va _ h.2)
  | exact er
theorem Zup (s:ByteArray) (i:Nat):1<=(Utf8.decode s i).2:=by
 simp only [Utf8.decode];repeat' split
 all_goals first | exact (by decide:1<=1) | exact (by decide:1<=2) | exact (by decide:1<=3) | exact (by decide:1<=4)
theorem Zor (L:Lays.n152 P ρ) (c:Int) (w:World) (h0:0<=c) (hv:Lib.validRune c=true):
  Calls P (ρ.f 152) #[.string ws,.int .i32 c] w λe w'=>∃ n,e=.returned (.int .i64 n)/\decide (0<=n)=decide (c=32\/c=9)/\Below w.heap.size w w':=by
 by_cases h:c<128
 ·refine (Any.strings_IndexRune_ascii L ws c w h0 h).mono λe w' k=>?_
  obtain ⟨rfl,rfl⟩:=k;refine ⟨_,rfl,?_,Below.refl _ _⟩;have key:∀ c:Nat,c<128->decide (0<=Lib.indexByte ws.data.toList c.toUInt8)=decide (c=32\/c=9):=by decide +kernel
  have:=key c.toNat (by omega);rw [this];apply decide_eq_decide.2;omega
 ·have hf:decide (c=32\/c=9)=false:=decide_eq_false (by omega)
  rw [hf];by_cases he:c=65533
  ·subst he
   exact (Zos L ws 32 9 rfl rfl rfl (by decide) (by decide) w).mono λe w' k=>⟨-1,k.1,rfl,k.2⟩
  ·exact (Zre L ws 9 rfl rfl (by decide) c w (by omega) hv he).mono λe w' k=>⟨-1,k.1,rfl,k.2⟩
end
section
open Go.RowKit Go.Shelf
variable {w0 w:World} {ρ:Hp} {Γ:List Kh}
def Zso (s:ByteArray):Nat->Nat->Option Int
 | 0,_=>none
 | f+1,i=>if i<s.size then (if (Utf8.decode s i).1=32\/(Utf8.decode s i).1=9 then some (i:Int) else Zso s f (i+(Utf8.decode s i).2)) else some (-1)
def H7.f (s chars:ByteArray):Option Int:=if chars=ws then (if s.size<=8 then Zso s K0 0 else if s.size<4294967281 then some (Lib.indexAny s.data.toList ws.data.toList) else none) else none
theorem Zrd (hs:St w0 ρ Γ w) (c:Int) (h0:0<=c) (hv:Lib.validRune c=true):Zk prog 45 [.string ws,.int .i32 c] w (λv w'=>∃ n,v=.int .i64 n/\decide (0<=n)=decide (c=32\/c=9)/\St w0 ρ Γ w'):=
 ⟨Zbe func45 (by kernel_rfl) (by kernel_rfl),(Zor (ρ:=Zk4) Z73 c w h0 hv).mono λe w' ⟨n,h1,h2,h3⟩=>⟨_,h1,n,rfl,h2,hs.under h3⟩⟩
theorem Z7c (n:Int):Zk prog 46 [.int .i64 n] w (λv w'=>v=.bool (decide (8<n))/\w'=w):=
 ⟨Zbe func46 (by kernel_rfl) (by kernel_rfl),(Any.strings_shouldUseASCIISet (ρ:=Zk4) { Z5n with } n w).mono λe w' ⟨h1,h2⟩=>⟨_,h1,rfl,h2⟩⟩
theorem Z3c (j:Nat) (b:UInt8) (h:ws.data.toList[j]?=some b):b.toNat<128:=by
 have:=List.mem_of_getElem? h;have k:b=32\/b=9:=by simpa [ws] using this
 rcases k with rfl | rfl<;>decide
theorem H7.c (hs:St w0 ρ Γ w) (H:H7.f x0 x1=some r):Zk prog 15 [.string x0,.string x1] w (λv w'=>v=.int .i64 r/\St w0 ρ Γ w'):=by
 rw [H7.f] at H;obtain ⟨e,H2⟩:=gd H;clear H;subst e;have H:=H2;clear H2;by_cases h8:x0.size<=8
 ·rw [if_pos h8] at H
  refine Et func15 ntmps15 rfl<|Wa 1 rfl<|Wsq<|Wn 1 rfl<|O_y rfl (Zb7 rfl rfl)<|Zf<|Yp rfl (λh=>absurd h (by decide)) λ_=>Ze<|Wsq<|Wn 1 rfl<|O_y rfl (U8 un9 rfl)<|Rx 1 rfl<|Yp rfl (λh=>absurd h (by decide)) λ_=>Ze<|Wsq<|Wn 1 rfl<|O_y rfl (U8 un9 rfl)<|Oc rfl (Z7c _) λv w' hp=>?_;obtain ⟨rfl,rfl⟩:=hp;refine Zf<|Yp rfl (λh=>absurd h (by omega)) λ_=>Ze<|Wsq<|Wn 1 rfl<|Zzu un9 hs rfl rfl λb w hs=>Zf<|Wbk<|?_;refine Lp1 (λ_=>[(0,.string x0),(1,.string ws),(45,.pointer (some ⟨b,0,none⟩))]) (λf i=>Zso x0 f i) (λi w=>St w0 ρ (.obj b (.stringIter x0 i)::Γ) w) 0 (T3 rfl) H hs λf i w H hs k=>?_;rw [Zso] at H;refine Wq<|Z3k (i:=0) hs rfl rfl rfl (λh=>?_) (λh w' hs=>?_)
  ·rw [if_neg h] at H
   refine Rx 1 rfl<|Wsq<|Zb6 rfl<|We<|Wa 1 rfl<|Zh ?_;obtain rfl:=Zn H;exact r1 rfl ⟨rfl,hs.sub (ssk ssr)⟩
  ·rw [if_pos h] at H
   refine Rx 1 rfl<|Wsq<|H0 rfl<|Ze<|Wbk<|Wa 4 rfl<|Wn 2 rfl<|Oc rfl (Zrd hs _ (by omega) (Zqu x0 i)) λv w2 hp=>?_;obtain ⟨n,rfl,hn,hs⟩:=hp;have e:decide (((Utf8.decode x0 i).1:Int)=32\/((Utf8.decode x0 i).1:Int)=9)=decide ((Utf8.decode x0 i).1=32\/(Utf8.decode x0 i).1=9):=decide_eq_decide.2 (by omega);refine Rx 1 rfl<|Yo rfl (λc=>?_) (λc=>?_)
   ·rw [hn,e] at c
    rw [if_pos (of_decide_eq_true c)] at H;refine Wa 2 rfl<|Zh ?_;obtain rfl:=Zn H;exact r1 rfl ⟨rfl,hs.sub (ssk ssr)⟩
   ·rw [hn,e] at c
    rw [if_neg (of_decide_eq_false c)] at H;exact Ze (k _ (T3 rfl) H hs)
 ·rw [if_neg h8] at H
  obtain ⟨h2,H⟩:=gd H;obtain rfl:=Zn H;refine ⟨Zbe func15 (by kernel_rfl) (by kernel_rfl),(Any.strings_IndexAny_long (ρ:=Zk4) Z5n (λw=>Yw (by kernel_rfl)) (by kernel_rfl) x0 ws w (by decide) (by omega) h2 (by decide) Z3c).mono λe w' h=>?_⟩;obtain ⟨rfl,rfl⟩:=h;exact ⟨_,rfl,rfl,hs.under (((Below.refl _ _).alloc (Nat.le_refl _) _).alloc (by simp) _)⟩
end
section
open Go.RowKit Go.Shelf
def Zvo:Ren:=⟨Ztw [(156,19),(165,54),(166,55),(169,56),(240,110),(241,111),(276,145),(277,146)],Ztw [(0,0),(3,3),(4,4),(5,5),(9,9),(20,20),(31,22),(37,120),(70,119),(72,122),(75,125),(76,126),(80,128),(127,172),(164,213)],λn=>n⟩
theorem Z4h:Lays.n156 prog Zvo where
 mixed:=mixed
 f156:=Tryz.func19.trans (congrArg some (by kernel_rfl))
 f165:=Tryz.func54.trans (congrArg some (by kernel_rfl))
 f166:=Tryz.func55.trans (congrArg some (by kernel_rfl))
 f169:=Tryz.func56.trans (congrArg some (by kernel_rfl))
 f240:=Tryz.func110.trans (congrArg some (by kernel_rfl))
 f241:=Tryz.func111.trans (congrArg some (by kernel_rfl))
 f276:=Tryz.func145.trans (congrArg some (by kernel_rfl))
 f277:=Tryz.func146.trans (congrArg some (by kernel_rfl))
 t0:=by kernel_rfl
 a0:=λ_=>Yg (by kernel_rfl)
 z0:=λ_=>Zs (by kernel_rfl)
 v0:=λ_=>Yw (by kernel_rfl)
 t3:=by kernel_rfl
 a3:=λ_=>Yg (by kernel_rfl)
 z3:=λ_=>Zs (by kernel_rfl)
 v3:=λ_=>Yw (by kernel_rfl)
 t4:=by kernel_rfl
 a4:=λ_=>Yg (by kernel_rfl)
 z4:=λ_=>Zs (by kernel_rfl)
 v4:=λ_=>Yw (by kernel_rfl)
 t9:=by kernel_rfl
 a9:=λ_=>Yg (by kernel_rfl)
 z9:=λ_=>Zs (by kernel_rfl)
 v9:=λ_=>Yw (by kernel_rfl)
 t20:=by kernel_rfl
 a20:=λ_=>Yg (by kernel_rfl)
 z20:=λ_=>Zs (by kernel_rfl)
 v20:=λ_=>Yw (by kernel_rfl)
 t31:=by kernel_rfl
 a31:=λ_=>Yg (by kernel_rfl)
 z31:=λ_=>Zs (by kernel_rfl)
 v31:=λ_=>Yw (by kernel_rfl)
 t37:=by kernel_rfl
 a37:=λ_=>Yg (by kernel_rfl)
 z37:=λ_=>Zs (by kernel_rfl)
 v37:=λ_=>Yw (by kernel_rfl)
 t70:=by kernel_rfl
 a70:=λ_=>Yg (by kernel_rfl)
 z70:=λ_=>Zs (by kernel_rfl)
 v70:=λ_=>Yw (by kernel_rfl)
 t72:=by kernel_rfl
 a72:=λ_=>Yg (by kernel_rfl)
 z72:=λ_=>Zs (by kernel_rfl)
 v72:=λ_=>Yw (by kernel_rfl)
 t75:=by kernel_rfl
 a75:=λ_=>Yg (by kernel_rfl)
 z75:=λ_=>Zs (by kernel_rfl)
 v75:=λ_=>Yw (by kernel_rfl)
 t76:=by kernel_rfl
 a76:=λ_=>Yg (by kernel_rfl)
 z76:=λ_=>Zs (by kernel_rfl)
 v76:=λ_=>Yw (by kernel_rfl)
 t127:=by kernel_rfl
 a127:=λ_=>Yg (by kernel_rfl)
 z127:=λ_=>Zs (by kernel_rfl)
 v127:=λ_=>Yw (by kernel_rfl)
 t164:=by kernel_rfl
 a164:=λ_=>Yg (by kernel_rfl)
 z164:=λ_=>Zs (by kernel_rfl)
 v164:=λ_=>Yw (by kernel_rfl)
theorem Z0p:Builder.Extra prog Zvo where
 sizeBuilder:=by kernel_rfl
 liesBuilder:=by kernel_rfl
 infoByte:=by kernel_rfl
 cellsByte:=by kernel_rfl
 sizeByte:=by kernel_rfl
 t5:=by kernel_rfl
 neB5:=by decide
 a5:=λ_=>Yg (by kernel_rfl)
 z5:=λ_=>Zs (by kernel_rfl)
 v5:=λ_=>Yw (by kernel_rfl)
theorem Kz.c (hs:St w0 ρ Γ w) (h0:SlR Rep.str ρ v0 x0) (H:Kz.f x0 x1=some r):Zk prog 19 [v0,.string x1] w (λv w'=>v=.string r/\St w0 ρ Γ w'):=
 Zu7 (ρs:=Zvo) Z4h Z0p (Zbe func19 (by kernel_rfl) (by kernel_rfl)) hs h0 H
end
structure S8 where
 x:Int
 y:Int
 signed:Bool
 code:Int
 deriving Inhabited
structure S9 where
 msg:ByteArray
 addr:Int
 deriving Inhabited
structure Val where
 lo:Int
 hi:Int
 n:Int
 deriving Inhabited
def Kc:Rep Val:=⟨3,λρ cs x=>cs=[.int .i32 x.lo,.int .i32 x.hi,.int .i64 x.n],λh=>by obtain rfl:=h;rfl,λhle h=>by obtain rfl:=h;exact rfl,λh=>by obtain rfl:=h;exact (Zb rfl (Zb rfl (Zb rfl Z9)))⟩
structure Chs where
 lo:Int
 hi:Int
 is_:List Int
 deriving Inhabited
def V1:Rep Chs:=⟨3,λρ cs x=>∃ v2:Value,cs=[.int .i32 x.lo,.int .i32 x.hi,v2]/\SlR (Rep.int .i32) ρ v2 x.is_,λh=>by obtain ⟨v2,rfl,f0⟩:=h;rfl,λhle h=>by obtain ⟨v2,rfl,f0⟩:=h;exact ⟨v2,rfl,f0.mono hle⟩,λh=>by obtain ⟨v2,rfl,f0⟩:=h;exact (Zb rfl (Zb rfl (Zb f0.one Z9)))⟩
structure Spn where
 lo:Int
 hi:Int
 deriving Inhabited
def Vd:Rep Spn:=⟨2,λρ cs x=>cs=[.int .i32 x.lo,.int .i32 x.hi],λh=>by obtain rfl:=h;rfl,λhle h=>by obtain rfl:=h;exact rfl,λh=>by obtain rfl:=h;exact (Zb rfl (Zb rfl Z9))⟩
structure Bk where
 names:List ByteArray
 status:List Val
 maps:List Chs
 class_:List Val
 decomp:List Chs
 excl:List Spn
 bidi:List Val
 join:List Val
 marks:List Spn
 script:List Val
 like:List Chs
 deriving Inhabited
def rBk:Rep Bk:=⟨11,λρ cs x=>∃ v0 v1 v2 v3 v4 v5 v6 v7 v8 v9 v10:Value,cs=[v0,v1,v2,v3,v4,v5,v6,v7,v8,v9,v10]/\SlR Rep.str ρ v0 x.names/\SlR Kc ρ v1 x.status/\SlR V1 ρ v2 x.maps/\SlR Kc ρ v3 x.class_/\SlR V1 ρ v4 x.decomp/\SlR Vd ρ v5 x.excl/\SlR Kc ρ v6 x.bidi/\SlR Kc ρ v7 x.join/\SlR Vd ρ v8 x.marks/\SlR Kc ρ v9 x.script/\SlR V1 ρ v10 x.like,λh=>by obtain ⟨v0,v1,v2,v3,v4,v5,v6,v7,v8,v9,v10,rfl,f0,f1,f2,f3,f4,f5,f6,f7,f8,f9,f10⟩:=h;rfl,λhle h=>by obtain ⟨v0,v1,v2,v3,v4,v5,v6,v7,v8,v9,v10,rfl,f0,f1,f2,f3,f4,f5,f6,f7,f8,f9,f10⟩:=h;exact ⟨v0,v1,v2,v3,v4,v5,v6,v7,v8,v9,v10,rfl,f0.mono hle,f1.mono hle,f2.mono hle,f3.mono hle,f4.mono hle,f5.mono hle,f6.mono hle,f7.mono hle,f8.mono hle,f9.mono hle,f10.mono hle⟩,λh=>by obtain ⟨v0,v1,v2,v3,v4,v5,v6,v7,v8,v9,v10,rfl,f0,f1,f2,f3,f4,f5,f6,f7,f8,f9,f10⟩:=h;exact (Zb f0.one (Zb f1.one (Zb f2.one (Zb f3.one (Zb f4.one (Zb f5.one (Zb f6.one (Zb f7.one (Zb f8.one (Zb f9.one (Zb f10.one Z9)))))))))))⟩
structure S10 where
 kind:Int
 text:ByteArray
 four:Int
 six0:Int
 six1:Int
 six2:Int
 six3:Int
 six4:Int
 six5:Int
 six6:Int
 six7:Int
 deriving Inhabited
def Zel:Rep S10:=⟨11,λρ cs x=>cs=[.int .i64 x.kind,.string x.text,.int .u32 x.four,.int .u16 x.six0,.int .u16 x.six1,.int .u16 x.six2,.int .u16 x.six3,.int .u16 x.six4,.int .u16 x.six5,.int .u16 x.six6,.int .u16 x.six7],λh=>by obtain rfl:=h;rfl,λhle h=>by obtain rfl:=h;exact rfl,λh=>by obtain rfl:=h;exact (Zb rfl (Zb rfl (Zb rfl (Zb rfl (Zb rfl (Zb rfl (Zb rfl (Zb rfl (Zb rfl (Zb rfl (Zb rfl Z9)))))))))))⟩
structure Tab where
 which:Vector Int 8704
 unlike:List (Vector Int 128)
 plain:List Bool
 deriving Inhabited
def Um:Rep Tab:=⟨8706,λρ cs x=>∃ v1 v2:Value,cs=[]++(vcs (Value.int .u16) x.which++[v1,v2])/\SlR (Rep.arr (Value.int .u16) (Q0 .u16) 128) ρ v1 x.unlike/\SlR Rep.bool ρ v2 x.plain,λh=>by obtain ⟨v1,v2,rfl,f0,f1⟩:=h;simp,λhle h=>by obtain ⟨v1,v2,rfl,f0,f1⟩:=h;exact ⟨v1,v2,rfl,f0.mono hle,f1.mono hle⟩,λh=>by obtain ⟨v1,v2,rfl,f0,f1⟩:=h;exact (Zxc Z9 (Zxc (Zr6 (Q0 .u16) _) (Zb f0.one (Zb f1.one Z9))))⟩
structure Tbs where
 b:Bk
 status:Option Tab
 class_:Option Tab
 bidi:Option Tab
 join:Option Tab
 script:Option Tab
 excl:Option Tab
 mark:Option Tab
 maps:Option Tab
 decomp:Option Tab
 likes:Option Tab
 pairs:List (Vector Int 2×Int)
 deriving Inhabited
def Ha:Rep Tbs:=⟨22,λρ cs x=>∃ v0 v1 v2 v3 v4 v5 v6 v7 v8 v9 v10 v11 v12 v13 v14 v15 v16 v17 v18 v19 v20 v21:Value,cs=[v0,v1,v2,v3,v4,v5,v6,v7,v8,v9,v10,v11,v12,v13,v14,v15,v16,v17,v18,v19,v20,v21]/\SlR Rep.str ρ v0 x.b.names/\SlR Kc ρ v1 x.b.status/\SlR V1 ρ v2 x.b.maps/\SlR Kc ρ v3 x.b.class_/\SlR V1 ρ v4 x.b.decomp/\SlR Vd ρ v5 x.b.excl/\SlR Kc ρ v6 x.b.bidi/\SlR Kc ρ v7 x.b.join/\SlR Vd ρ v8 x.b.marks/\SlR Kc ρ v9 x.b.script/\SlR V1 ρ v10 x.b.like/\Xq Um ρ v11 x.status/\Xq Um ρ v12 x.class_/\Xq Um ρ v13 x.bidi/\Xq Um ρ v14 x.join/\Xq Um ρ v15 x.script/\Xq Um ρ v16 x.excl/\Xq Um ρ v17 x.mark/\Xq Um ρ v18 x.maps/\Xq Um ρ v19 x.decomp/\Xq Um ρ v20 x.likes/\Zjb (λy:Vector Int 2=>Value.agg (acs .i32 y.toList).toArray) (Value.int .i32) ρ v21 x.pairs,λh=>by obtain ⟨v0,v1,v2,v3,v4,v5,v6,v7,v8,v9,v10,v11,v12,v13,v14,v15,v16,v17,v18,v19,v20,v21,rfl,f0,f1,f2,f3,f4,f5,f6,f7,f8,f9,f10,f11,f12,f13,f14,f15,f16,f17,f18,f19,f20,f21⟩:=h;rfl,λhle h=>by obtain ⟨v0,v1,v2,v3,v4,v5,v6,v7,v8,v9,v10,v11,v12,v13,v14,v15,v16,v17,v18,v19,v20,v21,rfl,f0,f1,f2,f3,f4,f5,f6,f7,f8,f9,f10,f11,f12,f13,f14,f15,f16,f17,f18,f19,f20,f21⟩:=h;exact ⟨v0,v1,v2,v3,v4,v5,v6,v7,v8,v9,v10,v11,v12,v13,v14,v15,v16,v17,v18,v19,v20,v21,rfl,f0.mono hle,f1.mono hle,f2.mono hle,f3.mono hle,f4.mono hle,f5.mono hle,f6.mono hle,f7.mono hle,f8.mono hle,f9.mono hle,f10.mono hle,f11.mono hle,f12.mono hle,f13.mono hle,f14.mono hle,f15.mono hle,f16.mono hle,f17.mono hle,f18.mono hle,f19.mono hle,f20.mono hle,f21.mono hle⟩,λh=>by obtain ⟨v0,v1,v2,v3,v4,v5,v6,v7,v8,v9,v10,v11,v12,v13,v14,v15,v16,v17,v18,v19,v20,v21,rfl,f0,f1,f2,f3,f4,f5,f6,f7,f8,f9,f10,f11,f12,f13,f14,f15,f16,f17,f18,f19,f20,f21⟩:=h;exact (Zb f0.one (Zb f1.one (Zb f2.one (Zb f3.one (Zb f4.one (Zb f5.one (Zb f6.one (Zb f7.one (Zb f8.one (Zb f9.one (Zb f10.one (Zb f11.one (Zb f12.one (Zb f13.one (Zb f14.one (Zb f15.one (Zb f16.one (Zb f17.one (Zb f18.one (Zb f19.one (Zb f20.one (Zb f21.one Z9))))))))))))))))))))))⟩
structure S11 where
 rules:List (ByteArray×Bool)
 deriving Inhabited
def Zrp:Rep S11:=⟨1,λρ cs x=>∃ v0:Value,cs=[v0]/\Zjb Value.string Value.bool ρ v0 x.rules,λh=>by obtain ⟨v0,rfl,f0⟩:=h;rfl,λhle h=>by obtain ⟨v0,rfl,f0⟩:=h;exact ⟨v0,rfl,f0.mono hle⟩,λh=>by obtain ⟨v0,rfl,f0⟩:=h;exact (Zb f0.one Z9)⟩
structure Wh where
 list:Int
 row:Int
 deriving Inhabited
def rWh:Rep Wh:=⟨2,λρ cs x=>cs=[.int .i64 x.list,.int .i64 x.row],λh=>by obtain rfl:=h;rfl,λhle h=>by obtain rfl:=h;exact rfl,λh=>by obtain rfl:=h;exact (Zb rfl (Zb rfl Z9))⟩
structure S12 where
 l:List Chs
 rows:List (Int×Int)
 long:List (Int×Int)
 deriving Inhabited
structure S13 where
 hyphens:Bool
 bidi:Bool
 joiners:Bool
 std:Bool
 lengths:Bool
 deriving Inhabited
def Zvj:Rep S13:=⟨5,λρ cs x=>cs=[.bool x.hyphens,.bool x.bidi,.bool x.joiners,.bool x.std,.bool x.lengths],λh=>by obtain rfl:=h;rfl,λhle h=>by obtain rfl:=h;exact rfl,λh=>by obtain rfl:=h;exact (Zb rfl (Zb rfl (Zb rfl (Zb rfl (Zb rfl Z9)))))⟩
structure S14 where
 at_:Int
 size:Int
 rune:Int
 wrong:Bool
 deriving Inhabited
def Zlx:Rep S14:=⟨4,λρ cs x=>cs=[.int .i64 x.at_,.int .i64 x.size,.int .i32 x.rune,.bool x.wrong],λh=>by obtain rfl:=h;rfl,λhle h=>by obtain rfl:=h;exact rfl,λh=>by obtain rfl:=h;exact (Zb rfl (Zb rfl (Zb rfl (Zb rfl Z9))))⟩
structure S15 where
 where_:Int
 pieces:Int
 gap:Bool
 digits:Int
 number:Int
 value:Int
 deriving Inhabited
structure S16 where
 lo:Int
 hi:Int
 deriving Inhabited
structure S17 where
 says:List Int
 coded:Bool
 fault:Int
 deriving Inhabited
def Ziu:Rep S17:=⟨3,λρ cs x=>∃ v0:Value,cs=[v0,.bool x.coded,.int .i64 x.fault]/\SlR (Rep.int .i32) ρ v0 x.says,λh=>by obtain ⟨v0,rfl,f0⟩:=h;rfl,λhle h=>by obtain ⟨v0,rfl,f0⟩:=h;exact ⟨v0,rfl,f0.mono hle⟩,λh=>by obtain ⟨v0,rfl,f0⟩:=h;exact (Zb f0.one (Zb rfl (Zb rfl Z9)))⟩
structure S18 where
 bidi:Bool
 label:Int
 rule:Int
 deriving Inhabited
def Z88:Rep S18:=⟨3,λρ cs x=>cs=[.bool x.bidi,.int .i64 x.label,.int .i64 x.rule],λh=>by obtain rfl:=h;rfl,λhle h=>by obtain rfl:=h;exact rfl,λh=>by obtain rfl:=h;exact (Zb rfl (Zb rfl (Zb rfl Z9)))⟩
structure S19 where
 base:Int
 least:Int
 most:Int
 skew:Int
 damp:Int
 bias:Int
 first:Int
 between:Int
 deriving Inhabited
def Zg1:Rep S19:=⟨8,λρ cs x=>cs=[.int .i64 x.base,.int .i64 x.least,.int .i64 x.most,.int .i64 x.skew,.int .i64 x.damp,.int .i64 x.bias,.int .i64 x.first,.int .u8 x.between],λh=>by obtain rfl:=h;rfl,λhle h=>by obtain rfl:=h;exact rfl,λh=>by obtain rfl:=h;exact (Zb rfl (Zb rfl (Zb rfl (Zb rfl (Zb rfl (Zb rfl (Zb rfl (Zb rfl Z9))))))))⟩
structure S20 where
 p:S19
 s:ByteArray
 at_:Int
 out:List Int
 n:Int
 i:Int
 bias:Int
 deriving Inhabited
section
variable {w0 w:World} {ρ:Hp} {Γ:List Kh}
def Qw.j1 (ae:Int->Option Bool) (aa:Int) (ab:Bool):Option Bool:=if ab=true then (some false) else (ae (i64.wrap (aa+1)))
def Qw.l1:Nat->ByteArray->Int->Option Bool
  | 0,_,_=>none
  | ad+1,x0,aa=>if aa<((Vw x0).length:Int) then (if (0:Int)<=aa/\aa<((Vw x0).length:Int) then (if (bOr .u8 (rd (Vw x0) aa) 32)<97 then (Qw.j1 (Qw.l1 ad x0) aa true) else (Qw.j1 (Qw.l1 ad x0) aa (decide (122<(bOr .u8 (rd (Vw x0) aa) 32))))) else none) else (some true)
def Qw.j2 (x0:ByteArray) (ac:Bool):Option Bool:=if ac=true then (some false) else (Qw.l1 K0 x0 0)
def Qw.f (x0:ByteArray):Option Bool:=if (x0.size:Int)<1 then (Qw.j2 x0 true) else (Qw.j2 x0 (decide (32<(x0.size:Int))))
theorem Qw.c (hs:St w0 ρ (Γ) w) (H:Qw.f x0=some r):gK 123 [.string x0] w0 ρ Γ w (.bool r):=by
 rw [Qw.f] at H;refine Et func123 ntmps123 V<|Wa 1 V<|Wsq<|Z8 λaz a0 ao=>?_;have ap ac w (H:Qw.j2 x0 ac=some r) (hs:St w0 ρ (Γ) w):az [(0,.string x0),(12,.bool ac)] w:=by
  rw [Qw.j2] at H;refine a0 _ _<|gJV H V (λH=>Wa 1 V<|gR H V hs) λH=>Ze<|Wsq<|Wn 1 V<|Zv9 un9 Zkg un5 hs V V (λaq ak w ai hs ar=>O_y V (Yk Zkg ar V)<|Rx 1 V<|Wbk<|Lp1 (λaa=>[(14,ak),(15,Lk ((Vw x0).length:Int)),(16,Lk aa)]) (λad aa=>Qw.l1 ad x0 aa) (λaa w=>St w0 aq (Γ) w) 0 (T3 V) H hs λad aa w H hs af=>?_);rw [Qw.l1] at H;refine Wa 1 V<|Wsq<|gIV H V (λH=>?_) λH=>?_;refine Ze<|Wsq<|Wbk<|Wsq<|Zc ?_;obtain ⟨au,H⟩:=gd H;obtain ⟨bu,bv,a9,ba⟩:=ar.ix Ze4 au.1 au.2;refine O_y V (ba V V)<|O_y V (Y5 ag5 V (hs.see a9.int))<|Rx 1 V<|Z8 λbb bc av=>?_;have aw ab w (H:Qw.j1 (Qw.l1 ad x0) aa ab=some r) (hs:St w0 aq (Γ) w):bb [(14,ak),(15,Lk ((Vw x0).length:Int)),(16,Lk aa),(27,.bool ab)] w:=by rw [Qw.j1] at H;refine bc _ _<|gJV H V (λH=>Wa 1 V<|gR H V (hs.less ai)) λH=>Ze<|Zc<|Rx 2 V (af (i64.wrap (aa+1)) (T3 V) H hs)
  refine Zc<|Rn 1 V<|O_y V (Z3q V V)<|Rn 2 V<|gI1 H (X9 (dj:=23) V) (λH=>?_) λH=>?_;refine Rx 4 V (av _ _ _ (T4 V) (aw true _ H hs));refine Rn 3 V<|O_y V (Z3q V V)<|Rx 3 V (av _ _ _ (T4 V) (aw (decide (122<(bOr .u8 (rd (Vw x0) aa) 32))) _ H hs));exact We<|Wa 1 V<|gR H V (hs.less ai)
 refine Zc<|Rn 1 V<|O_y V (U8 un9 V)<|Rn 2 V<|gI1 H (X9 (dj:=8) V) (λH=>?_) λH=>?_;refine Rx 4 V (ao _ _ _ (T2 V) (ap true _ H hs));refine Rn 3 V<|O_y V (U8 un9 V)<|Rx 3 V (ao _ _ _ (T2 V) (ap (decide (32<(x0.size:Int))) _ H hs))
def Xx.l1:Nat->List ByteArray->ByteArray->Int->Option Int
  | 0,_,_,_=>none
  | ab+1,x0,x1,aa=>if aa<(x0.length:Int) then (if (0:Int)<=aa/\aa<(x0.length:Int) then (if x1=(rd x0 aa) then (some aa) else ((Xx.l1 ab x0 x1) (i64.wrap (aa+1)))) else none) else (some (-1))
def Xx.f (x0:List ByteArray) (x1:ByteArray):Option Int:=Xx.l1 K0 x0 x1 0
theorem Xx.c (hs:St w0 ρ (Γ) w) (h0:SlR Rep.str ρ v0 x0) (H:Xx.f x0 x1=some r):gK 160 [v0,.string x1] w0 ρ Γ w (Lk r):=by
 rw [Xx.f] at H;refine Et func160 ntmps160 V<|Wa 1 V<|Wsq<|Wn 1 V<|O_y V (Yk Zbs h0 V)<|Rx 1 V<|Wbk<|Lp1 (λaa=>[(0,v0),(1,.string x1),(7,Lk (x0.length:Int)),(8,Lk aa)]) (λab aa=>Xx.l1 ab x0 x1 aa) (λaa w=>St w0 ρ (Γ) w) 0 (T4 V) H hs λab aa w H hs ac=>?_;rw [Xx.l1] at H;refine Wa 1 V<|Wsq<|gIV H V (λH=>?_) λH=>?_;refine Ze<|Wsq<|Wbk<|Wa 2 V<|Wn 3 V ?_;obtain ⟨af,H⟩:=gd H;obtain ⟨a9,ba,ap,aq⟩:=h0.ix Zcr af.1 af.2;refine O_y V (aq V V)<|O_y V (Y5 ag9 V (hs.see ap.str))<|O_y V (Zb7 V V)<|Zf<|gIV H V (λH=>Wa 2 V<|W.weak [(4,_)] (S1 V)<|gR H V hs) λH=>Ze<|Zc<|Rx 2 V (ac (i64.wrap (aa+1)) (T4 V) H hs);exact We<|Wa 1 V<|gR H V hs
def K7.f (x0:List ByteArray) (x1:ByteArray):Option Bool:=(Xx.f x0 x1).bind λab=>(some (decide (0<=ab)))
theorem K7.c (hs:St w0 ρ (Γ) w) (h0:SlR Rep.str ρ v0 x0) (H:K7.f x0 x1=some r):gK 124 [v0,.string x1] w0 ρ Γ w (.bool r):=by
 refine Et func124 ntmps124 V<|Wa 1 V<|Wn 2 V<|Rc H λab aa H=>Oc V (Xx.c hs h0 aa)<|Ra λw hs=>Rx 2 V<|gR H V hs
def Vj.j1 (ad:Int->Option Int) (aa:Int) (ab:Bool):Option Int:=if ab=true then (some aa) else (ad (i64.wrap (aa+1)))
def Vj.l1:Nat->List ByteArray->Int->Option Int
  | 0,_,_=>none
  | ac+1,x0,aa=>if aa<(x0.length:Int) then (if (0:Int)<=aa/\aa<(x0.length:Int) then ((Qw.f (rd x0 aa)).bind λaq=>(if (!aq)=true then (Vj.j1 (Vj.l1 ac x0) aa true) else (if (0:Int)<=0/\0<=aa/\aa<=(x0.length:Int) then ((K7.f (sub x0 0 aa) (rd x0 aa)).bind λae=>(Vj.j1 (Vj.l1 ac x0) aa ae)) else none))) else none) else (some (-1))
def Vj.f (x0:List ByteArray):Option Int:=if 64<(x0.length:Int) then (some 64) else (Vj.l1 K0 x0 0)
theorem Vj.c (hs:St w0 ρ (Γ) w) (h0:SlR Rep.str ρ v0 x0) (H:Vj.f x0=some r):gK 65 [v0] w0 ρ Γ w (Lk r):=by
 rw [Vj.f] at H;refine Et func65 ntmps65 V<|Wa 1 V<|Wsq<|Wn 1 V<|O_y V (Yk Zbs h0 V)<|Rx 1 V<|gIV H V (λH=>Wa 1 V<|gR H V hs) λH=>Ze<|Wsq<|Wn 1 V<|O_y V (Yk Zbs h0 V)<|Rx 1 V<|Wbk<|Lp1 (λaa=>[(0,v0),(8,v0),(9,Lk (x0.length:Int)),(10,Lk aa)]) (λac aa=>Vj.l1 ac x0 aa) (λaa w=>St w0 ρ (Γ) w) 0 (T4 V) H hs λac aa w H hs af=>?_;rw [Vj.l1] at H;refine Wa 1 V<|Wsq<|gIV H V (λH=>?_) λH=>?_;refine Ze<|Wsq<|Wbk<|Wn 1 V ?_;obtain ⟨ar,H⟩:=gd H;obtain ⟨bu,bv,a7,a8⟩:=h0.ix Zcr ar.1 ar.2;refine O_y V (a8 V V)<|O_y V (Y5 ag9 V (hs.see a7.str))<|Rx 2 V<|Z8 λa9 ba au=>?_;have av ab w (H:Vj.j1 (Vj.l1 ac x0) aa ab=some r) (hs:St w0 ρ (Γ) w):a9 [(0,v0),(3,Lk aa),(8,v0),(9,Lk (x0.length:Int)),(10,Lk aa),(24,.bool ab)] w:=by rw [Vj.j1] at H;refine ba _ _<|gJV H V (λH=>Wa 2 V<|gR H V hs) λH=>Ze<|Zc<|Rx 2 V (af (i64.wrap (aa+1)) (T4 V) H hs)
 refine Zc<|Rn 1 V<|Rc H λaq ak H=>Oc V (Qw.c hs ak)<|Ra λw hs=>Rn 2 V<|gJ1 H (V9 (dj:=18) V) (λH=>?_) λH=>?_;refine Rx 6 V (au _ _ _ sbn (av true _ H hs));refine Rn 4 V ?_;obtain ⟨am,H⟩:=gd H;obtain ⟨bz,an,ao⟩:=h0.cut Zcr am.1 am.2.1 am.2.2;refine Rn 1 V<|O_y V (ao V (.inl ⟨V,V⟩) (.inr ⟨_,_,V,V⟩))<|Rn 3 V<|Rc H λae ag H=>Oc V (K7.c hs an ag)<|Ra λw hs=>Rx 1 V (au _ _ _ sbn (av ae _ H hs));exact We<|Wa 1 V<|gR H V hs
def Zax.f (y0_0:List ByteArray) (y0_1:List Val) (y0_2:List Chs) (y0_3:List Val) (y0_4:List Chs) (y0_5:List Spn) (y0_6 y0_7:List Val) (y0_8:List Spn) (y0_9:List Val) (y0_10:List Chs):Option Int:=(Vj.f y0_0).bind λab=>(some ab)
theorem Zax.c (hs:St w0 ρ ((.box pb0 27 ([w0_0,w0_1,w0_2,w0_3,w0_4,w0_5,w0_6,w0_7,w0_8,w0_9,w0_10]))::Γ) w) (g0_0:SlR Rep.str ρ w0_0 y0_0) (g0_1:SlR Kc ρ w0_1 y0_1) (g0_2:SlR V1 ρ w0_2 y0_2) (g0_3:SlR Kc ρ w0_3 y0_3) (g0_4:SlR V1 ρ w0_4 y0_4) (g0_5:SlR Vd ρ w0_5 y0_5) (g0_6:SlR Kc ρ w0_6 y0_6) (g0_7:SlR Kc ρ w0_7 y0_7) (g0_8:SlR Vd ρ w0_8 y0_8) (g0_9:SlR Kc ρ w0_9 y0_9) (g0_10:SlR V1 ρ w0_10 y0_10) (H:Zax.f y0_0 y0_1 y0_2 y0_3 y0_4 y0_5 y0_6 y0_7 y0_8 y0_9 y0_10=some r):gK 64 [Ll pb0] w0 ρ ((.box pb0 27 ([w0_0,w0_1,w0_2,w0_3,w0_4,w0_5,w0_6,w0_7,w0_8,w0_9,w0_10]))::Γ) w (Lk r):=by
 refine Et func64 ntmps64 V<|Wa 1 V<|Wq<|Ofd Zq2 V<|Obx 0 Zx6 hs V<|Rc H λab aa H=>Oc V (Vj.c hs g0_0 aa)<|Ra λw hs=>Rx 1 V<|gR H V hs
def Uj.f (x0:Val):Option Spn:=some (⟨x0.lo,x0.hi⟩:Spn)
theorem Uj.c (hs:St w0 ρ (Γ) w) (h0:Kc.R ρ c0 x0) (H:Uj.f x0=some r):Zk prog 126 [.agg c0.toArray] w (λv w'=>∃ (ρ':Hp) (cs0:List Value),v=.agg cs0.toArray/\Le ρ ρ'/\St w0 ρ' (Γ) w'/\Vd.R ρ' cs0 r):=by
 rw [Uj.f] at H;refine Et func126 ntmps126 V ?_;have aa:=h0;obtain rfl:=aa;refine Wq<|Kw (cs:=[Lj x0.lo,Lj x0.hi,Lk x0.n]) hs V V (λae w hs=>Yn Zdh hs V (λaf w hs=>Zf<|Wr λag ac=>Ofd Zgj V<|Obx 1 Qb hs V<|Ofd Zfm V<|Obx 1 Qb hs V<|O_y V (X4 (cs:=[Lj x0.lo,Lj x0.hi]) Zdh Zp0 ((Zp.cons V V (Zp.cons V V Zp.nil))) Zdo (by kernel_rfl))<|Z2 (i:=0) Zbm hs V V V V V (Zb V (Zb V Z9)) (λw hs=>Zf (ac _ _<|Zh ?_))));cases H;exact Zgq (i:=0) V V Zdo Zbm hs V V ⟨_,_,V,Le.rfl' _,(hs.sub (ssk (ssk ssr))),V⟩
def Zbj.f (x0:Spn):Option Bool:=some true
theorem Zbj.c (hs:St w0 ρ (Γ) w) (h0:Vd.R ρ c0 x0) (H:Zbj.f x0=some r):gK 59 [.agg c0.toArray] w0 ρ Γ w (.bool r):=by
 rw [Zbj.f] at H;refine Et func59 ntmps59 V ?_;have aa:=h0;obtain rfl:=aa;refine Wq<|Kw (cs:=[Lj x0.lo,Lj x0.hi]) hs V V (λae w hs=>Rx 1 V<|Wa 1 V<|Zh ?_);cases H;exact r1 V ⟨V,(hs.sub (ssk ssr))⟩
def Kt.j1 (aa:Bool):Option Bool:=some aa
def Kt.f (x0:Val) (y0_0 y1_0:Int):Option Bool:=if y0_0<=x0.n then (if x0.n<=y1_0 then ((Uj.f x0).bind λal=>((Zbj.f al).bind λae=>(Kt.j1 ae))) else (Kt.j1 false)) else (Kt.j1 false)
theorem Kt.c (hs:St w0 ρ ((.box pb0 3 ([Lk y0_0]))::(.box pb1 3 ([Lk y1_0]))::(.box pb2 132 ([.func (.func 59) #[] #[]]))::Γ) w) (h0:Kc.R ρ c0 x0) (H:Kt.f x0 y0_0 y1_0=some r):gK 127 [.agg c0.toArray,Ll pb0,Ll pb1,Ll pb2] w0 ρ ((.box pb0 3 ([Lk y0_0]))::(.box pb1 3 ([Lk y1_0]))::(.box pb2 132 ([.func (.func 59) #[] #[]]))::Γ) w (.bool r):=by
 rw [Kt.f] at H;refine Et func127 ntmps127 V ?_;have ao:=h0;obtain rfl:=ao;refine Wq<|Kw (cs:=[Lj x0.lo,Lj x0.hi,Lk x0.n]) hs V V (λam w hs=>Rx 1 V<|Z8 λaq ar af=>?_);have ag aa (ab:Hp) w (H:Kt.j1 aa=some r) (ad:Le ρ ab) (hs:St w0 ab ((.box am 148 ([Lj x0.lo,Lj x0.hi,Lk x0.n]))::(.box pb0 3 ([Lk y0_0]))::(.box pb1 3 ([Lk y1_0]))::(.box pb2 132 ([.func (.func 59) #[] #[]]))::Γ) w):aq [(5,.bool aa)] w:=by rw [Kt.j1] at H;exact ar _ _<|gR H V ((hs.sub (ssk (ssc (ssc (ssc ssr))))).less ad)
 refine Qz 17 [0,1,0,6,8,16,48,16,208,272,528,1024,1024,5120,11264,17408,65535] [65532,65524,65523,65504,63488,65408,65152,65120,64512,63488,0,45056,51200,34816,0,0,0] [0,1,0,7,15,31,63,31,255,511,1023,2047,2047,6143,16383,32767,65535] [] (λw=>St w0 ρ ((.box am 148 ([Lj x0.lo,Lj x0.hi,Lk x0.n]))::(.box pb0 3 ([Lk y0_0]))::(.box pb1 3 ([Lk y1_0]))::(.box pb2 132 ([.func (.func 59) #[] #[]]))::Γ) w) mixed (by kernel_rfl) (λsh=>?_);have hs:=hs.drew;refine Fp 0 sh V (λw=>Zt Zfn V)<|Fy 1 sh V hs (λw hs=>Yb 0 ag3 hs V V V)<|Fy 2 sh V hs (λw hs=>Yb 1 ag3 hs V V V)<|Fp 3 sh V (λw=>Zsg V V)<|Fm 4 sh V<|gI1 H (Zbg (dj:=10) V) (λH=>?_) λH=>?_;refine Fp 5 sh V (λw=>Zt Zfn V)<|Fy 6 sh V hs (λw hs=>Yb 0 ag3 hs V V V)<|Fy 7 sh V hs (λw hs=>Yb 2 ag3 hs V V V)<|Fp 8 sh V (λw=>Zsh V V)<|Fp 9 sh V (λw=>Kp V V)<|Fm 10 sh V<|gI1 H (Zbg (dj:=16) V) (λH=>?_) λH=>?_;refine Fy 11 sh V hs (λw hs=>Yb 3 Zia hs V V V)<|Fy 12 sh V hs (λw hs=>Ys (i:=0) Zfx Zew hs V V V V)<|F1 13 sh V (λa0 au=>Rn 1 V<|Rc H λal aj H=>Oc V (Uj.c hs h0 aj) (λa1 w hpost=>?_));obtain ⟨av,aw,rfl,ac,hs,an⟩:=hpost;have ax:=an;obtain rfl:=ax;refine Zf (au _ _ (λ_ _=>(hs.less ac))<|F1 14 sh V (λa2 ay=>Rn 1 V ?_));obtain ⟨ae,ak,H⟩:=bnd H;refine Xz V V V (Zbj.c hs an ak) (λa3 w hpost=>?_);obtain ⟨rfl,hs⟩:=hpost;refine Zf (ay _ _ (λ_ _=>(hs.less ac))<|Fp 15 sh V (λw=>Kp V V)<|Fp 16 sh V (λw=>Y8 V)<|FE sh (af _ _ _ (S1 V) (ag ae av _ H ac hs)));refine Fn 11 sh V<|Fn 12 sh V<|Fn 13 sh V<|Fn 14 sh V<|Fp 15 sh V (λw=>Ql V V)<|Fp 16 sh V (λw=>Y8 V)<|FE sh (af _ _ _ (S1 V) (ag false ρ _ H (Le.rfl' _) hs));refine Fn 5 sh V<|Fn 6 sh V<|Fn 7 sh V<|Fn 8 sh V<|Fp 9 sh V (λw=>Ql V V)<|Fm 10 sh V<|Fn 11 sh V<|Fn 12 sh V<|Fn 13 sh V<|Fn 14 sh V<|Fp 15 sh V (λw=>Ql V V)<|Fp 16 sh V (λw=>Y8 V)<|FE sh (af _ _ _ (S1 V) (ag false ρ _ H (Le.rfl' _) hs))
def Zz.j1 (ak:Int->Int->Option Int) (aa:Int) (ae:Spn) (ab:Bool):Option Int:=if ab=true then (some aa) else (ak ae.hi (i64.wrap (aa+1)))
def Zz.l1:Nat->Int->Int->List Val->Int->Int->Option Int
  | 0,_,_,_,_,_=>none
  | ac+1,y0_0,y1_0,x0,ad,aa=>if aa<(x0.length:Int) then (if (0:Int)<=aa/\aa<(x0.length:Int) then ((Uj.f (rd x0 aa)).bind λae=>(if ae.lo<=ad then (Zz.j1 (Zz.l1 ac y0_0 y1_0 x0) aa ae true) else (if ae.hi<ae.lo then (Zz.j1 (Zz.l1 ac y0_0 y1_0 x0) aa ae true) else (if 1114111<ae.hi then (Zz.j1 (Zz.l1 ac y0_0 y1_0 x0) aa ae true) else ((Kt.f (rd x0 aa) y0_0 y1_0).bind λal=>(Zz.j1 (Zz.l1 ac y0_0 y1_0 x0) aa ae (!al))))))) else none) else (some (-1))
def Zz.f (x0:List Val) (y0_0 y1_0:Int):Option Int:=if 65536<(x0.length:Int) then (some 65536) else (Zz.l1 K0 y0_0 y1_0 x0 (-1) 0)
theorem Zz.c (hs:St w0 ρ ((.box pb0 3 ([Lk y0_0]))::(.box pb1 3 ([Lk y1_0]))::(.box pb2 132 ([.func (.func 59) #[] #[]]))::Γ) w) (h0:SlR Kc ρ v0 x0) (H:Zz.f x0 y0_0 y1_0=some r):gK 125 [v0,.func (.func 126) #[] #[],.func (.func 127) #[] #[Ll pb0,Ll pb1,Ll pb2]] w0 ρ ((.box pb0 3 ([Lk y0_0]))::(.box pb1 3 ([Lk y1_0]))::(.box pb2 132 ([.func (.func 59) #[] #[]]))::Γ) w (Lk r):=by
 rw [Zz.f] at H;refine Et func125 ntmps125 V<|Wa 1 V<|Wsq<|Wn 1 V<|O_y V (Yk Zkh h0 V)<|Rx 1 V<|gIV H V (λH=>Wa 1 V<|gR H V hs) λH=>Ze<|Wa 1 V<|Wsq<|Wn 1 V<|O_y V (Yk Zkh h0 V)<|Rx 1 V<|Wbk<|Lp3 (λad aa ag=>[(1,.func (.func 126) #[] #[]),(2,.func (.func 127) #[] #[Ll pb0,Ll pb1,Ll pb2]),(7,Lj ad),(14,v0),(15,Lk (x0.length:Int)),(16,Lk aa)]) (λac ad aa ag=>Zz.l1 ac y0_0 y1_0 x0 ad aa) (λad aa ag w=>Le ρ ag/\St w0 ag ((.box pb0 3 ([Lk y0_0]))::(.box pb1 3 ([Lk y1_0]))::(.box pb2 132 ([.func (.func 59) #[] #[]]))::Γ) w) (-1) 0 ρ sbn H (Ai (Le.rfl' _) hs) λac ad aa ag w H ⟨af,hs⟩ am=>?_;rw [Zz.l1] at H;refine Wa 1 V<|Wsq<|gIV H V (λH=>?_) λH=>?_;refine Ze<|Wsq<|Wbk<|Wn 1 V ?_;obtain ⟨a4,H⟩:=gd H;obtain ⟨cb,cc,bi,bj⟩:=(h0.mono af).ix Zf1 a4.1 a4.2;obtain ⟨_,rfl,bk⟩:=bi;refine O_y V (bj V V)<|O_y V (Kg Zfx Zew V V (λj u hu=>hs.see (bk j u hu)))<|Yn Zoj hs V (λbl w hs=>Rn 1 V<|Z2 (i:=0) Zew hs V V V V V (Zb V (Zb V (Zb V Z9))) (λw hs=>Zf<|Wn 1 V<|O_y V (Ys (i:=0) Zfx Zew hs V V V V) ?_));obtain ⟨ae,ax,H⟩:=bnd H;refine Xz V V V (Uj.c hs V ax) (λce w hpost=>?_);obtain ⟨a5,bn,rfl,aj,hs,bo⟩:=hpost;have ay:=bo;obtain rfl:=ay;refine Yn Zdh hs V (λar w hs=>Z2 (i:=0) Zbm hs V V V V V (Zb V (Zb V Z9)) (λw hs=>Zf<|W.weak [(1,_),(2,_),(7,_),(8,_),(9,_),(10,_),(14,_),(15,_),(16,_)] sbn<|Wsq<|Z8 λa0 a1 ah=>?_));have ai ab w (H:Zz.j1 (Zz.l1 ac y0_0 y1_0 x0) aa ae ab=some r) (hs:St w0 a5 ((.box ar 131 ([Lj ae.lo,Lj ae.hi]))::(.box bl 148 ([Lj ((rd x0 aa).lo),Lj ((rd x0 aa).hi),Lk ((rd x0 aa).n)]))::(.box pb0 3 ([Lk y0_0]))::(.box pb1 3 ([Lk y1_0]))::(.box pb2 132 ([.func (.func 59) #[] #[]]))::Γ) w):a0 [(1,.func (.func 126) #[] #[]),(2,.func (.func 127) #[] #[Ll pb0,Ll pb1,Ll pb2]),(8,Lk aa),(10,Ll ar),(14,v0),(15,Lk (x0.length:Int)),(16,Lk aa),(45,.bool ab)] w:=by rw [Zz.j1] at H;refine a1 _ _<|gJV H V (λH=>Wa 2 V<|gR H V ((hs.sub (ssk (ssk (ssc (ssc (ssc ssr)))))).less (af.trans aj))) λH=>Ze<|Zc<|Ofd Hb V<|Obx 0 Qb hs V<|Rx 1 V<|Zc<|Rx 2 V (am ae.hi (i64.wrap (aa+1)) a5 sbn H (Ai (af.trans aj) (hs.sub (ssk (ssk (ssc (ssc (ssc ssr))))))))
 refine Zc<|Ofd Zap V<|Obx 0 Qb hs V<|Rn 3 V<|gI1 H (X9 (dj:=28) V) (λH=>?_) λH=>?_;refine Rn 14 V<|Rx 3 V (ah _ _ _ sbn (ai true _ H hs));refine Rn 1 V<|Ofd Hb V<|Rn 1 V<|Obx 0 Qb hs V<|Rn 1 V<|Ofd Zap V<|Rn 1 V<|Obx 0 Qb hs V<|Rn 4 V<|gI1 H (X9 (dj:=35) V) (λH=>?_) λH=>?_;refine Rx 10 V (ah _ _ _ sbn (ai true _ H hs));refine Rn 1 V<|Ofd Hb V<|Rn 1 V<|Obx 0 Qb hs V<|Rn 4 V<|gI1 H (X9 (dj:=40) V) (λH=>?_) λH=>?_;refine Rx 5 V (ah _ _ _ sbn (ai true _ H hs));refine Rn 3 V<|O_y V (Ys (i:=1) Zfx Zew hs V V V V)<|Rn 1 V ?_;have hs:=hs.front 4 V;have hs:=hs.front 4 V;have hs:=hs.front 4 V;obtain ⟨al,au,H⟩:=bnd H;refine Xz V V V (Kt.c hs V au) (λbr w hpost=>?_);obtain ⟨rfl,hs⟩:=hpost;have hs:=hs.sink 4;have hs:=hs.sink 4;have hs:=hs.sink 4;refine Rx 3 V (ah _ _ _ sbn (ai (!al) _ H hs));exact We<|Wa 1 V<|gR H V (hs.less af)
def Qp.f (x0:List Val) (x1 x2:Int):Option Int:=(Zz.f x0 x1 x2).bind λab=>(some ab)
theorem Qp.c (hs:St w0 ρ (Γ) w) (h0:SlR Kc ρ v0 x0) (H:Qp.f x0 x1 x2=some r):gK 67 [v0,Lk x1,Lk x2,.func (.func 59) #[] #[]] w0 ρ Γ w (Lk r):=by
 refine Et func67 ntmps67 V<|Wq<|Zd6 hs V V V (λaf w hs=>Zd6 hs V V V (λag w hs=>Zd6 hs V V V (λah w hs=>Rx 1 V<|Wn 1 V<|O_y V (Hz V) ?_)));have hs:=hs.front 1 V;have hs:=hs.front 2 V;refine Rc H λab aa H=>Oc V (Zz.c hs h0 aa)<|Ra λw hs=>?_;have hs:=hs.sink 2;have hs:=hs.sink 1;exact Rx 1 V<|gR H V (hs.sub (ssk (ssk (ssk ssr))))
def Zay.f (y0_0:List ByteArray) (y0_1:List Val) (y0_2:List Chs) (y0_3:List Val) (y0_4:List Chs) (y0_5:List Spn) (y0_6 y0_7:List Val) (y0_8:List Spn) (y0_9:List Val) (y0_10:List Chs):Option Int:=(Qp.f y0_1 1 3).bind λab=>(some ab)
theorem Zay.c (hs:St w0 ρ ((.box pb0 27 ([w0_0,w0_1,w0_2,w0_3,w0_4,w0_5,w0_6,w0_7,w0_8,w0_9,w0_10]))::(.box pb1 132 ([.func (.func 59) #[] #[]]))::Γ) w) (g0_0:SlR Rep.str ρ w0_0 y0_0) (g0_1:SlR Kc ρ w0_1 y0_1) (g0_2:SlR V1 ρ w0_2 y0_2) (g0_3:SlR Kc ρ w0_3 y0_3) (g0_4:SlR V1 ρ w0_4 y0_4) (g0_5:SlR Vd ρ w0_5 y0_5) (g0_6:SlR Kc ρ w0_6 y0_6) (g0_7:SlR Kc ρ w0_7 y0_7) (g0_8:SlR Vd ρ w0_8 y0_8) (g0_9:SlR Kc ρ w0_9 y0_9) (g0_10:SlR V1 ρ w0_10 y0_10) (H:Zay.f y0_0 y0_1 y0_2 y0_3 y0_4 y0_5 y0_6 y0_7 y0_8 y0_9 y0_10=some r):gK 66 [Ll pb0,Ll pb1] w0 ρ ((.box pb0 27 ([w0_0,w0_1,w0_2,w0_3,w0_4,w0_5,w0_6,w0_7,w0_8,w0_9,w0_10]))::(.box pb1 132 ([.func (.func 59) #[] #[]]))::Γ) w (Lk r):=by
 refine Et func66 ntmps66 V<|Wa 1 V<|Wq<|Ofd Zhh V<|Obx 0 Zei hs V<|Obx 1 Zia hs V<|Rc H λab aa H=>Oc V (Qp.c hs g0_1 aa)<|Ra λw hs=>Rx 1 V<|gR H V hs
def Vn.f (x0:Chs):Option Spn:=some (⟨x0.lo,x0.hi⟩:Spn)
theorem Vn.c (hs:St w0 ρ (Γ) w) (h0:V1.R ρ c0 x0) (H:Vn.f x0=some r):Zk prog 29 [.agg c0.toArray] w (λv w'=>∃ (ρ':Hp) (cs0:List Value),v=.agg cs0.toArray/\Le ρ ρ'/\St w0 ρ' (Γ) w'/\Vd.R ρ' cs0 r):=by
 rw [Vn.f] at H;refine Et func29 ntmps29 V ?_;have aa:=h0;obtain ⟨ab,rfl,ae⟩:=aa;refine Wq<|Kw (cs:=[Lj x0.lo,Lj x0.hi,ab]) hs V V (λag w hs=>Yn Zdh hs V (λah w hs=>Zf<|Wr λai ad=>Ofd Zgl V<|Obx 1 Qb hs V<|Ofd Zq9 V<|Obx 1 Qb hs V<|O_y V (X4 (cs:=[Lj x0.lo,Lj x0.hi]) Zdh Zp0 ((Zp.cons V V (Zp.cons V V Zp.nil))) Zdo (by kernel_rfl))<|Z2 (i:=0) Zbm hs V V V V V (Zb V (Zb V Z9)) (λw hs=>Zf (ad _ _<|Zh ?_))));cases H;exact Zgq (i:=0) V V Zdo Zbm hs V V ⟨_,_,V,Le.rfl' _,(hs.sub (ssk (ssk ssr))),V⟩
def Vk.j1 (aa:Bool):Option Bool:=some aa
def Vk.f (x0:Int):Option Bool:=if x0<0 then (Vk.j1 true) else (if 1114111<x0 then (Vk.j1 true) else (if 55296<=x0 then (Vk.j1 (decide (x0<=57343))) else (Vk.j1 false)))
theorem Vk.c (hs:St w0 ρ (Γ) w) (H:Vk.f x0=some r):gK 122 [Lj x0] w0 ρ Γ w (.bool r):=by
 rw [Vk.f] at H;refine Et func122 ntmps122 V<|Wa 1 V<|Z8 λah ai ab=>?_;have ac aa w (H:Vk.j1 aa=some r) (hs:St w0 ρ (Γ) w):ah [(2,.bool aa)] w:=by rw [Vk.j1] at H;exact ai _ _<|gR H V hs
 refine Zc<|Rn 3 V<|gI1 H (X9 (dj:=5) V) (λH=>?_) λH=>?_;refine Rn 7 V<|Qa V V V<|Qa V V V<|Rx 3 V (ab _ _ _ (S1 V) (ac true _ H hs));refine Rn 6 V<|gI1 H (X9 (dj:=9) V) (λH=>?_) λH=>?_;refine Rn 3 V<|Qa V V V<|Qa V V V<|Rx 3 V (ab _ _ _ (S1 V) (ac true _ H hs));refine Rn 6 V<|gI1 H (X9 (dj:=12) V) (λH=>?_) λH=>?_;refine Rx 8 V (ab _ _ _ (S1 V) (ac (decide (x0<=57343)) _ H hs));refine Rx 6 V (ab _ _ _ (S1 V) (ac false _ H hs))
def Xc.l1:Nat->List Int->Int->Option Int
  | 0,_,_=>none
  | ab+1,x0,aa=>if aa<(x0.length:Int) then (if (0:Int)<=aa/\aa<(x0.length:Int) then ((Vk.f (rd x0 aa)).bind λag=>(if ag=true then (some aa) else ((Xc.l1 ab x0) (i64.wrap (aa+1))))) else none) else (some (-1))
def Xc.f (x0:List Int):Option Int:=Xc.l1 K0 x0 0
theorem Xc.c (hs:St w0 ρ (Γ) w) (h0:SlR (Rep.int .i32) ρ v0 x0) (H:Xc.f x0=some r):gK 154 [v0,.func (.func 122) #[] #[]] w0 ρ Γ w (Lk r):=by
 rw [Xc.f] at H;refine Et func154 ntmps154 V<|Wa 1 V<|Wsq<|Wn 1 V<|O_y V (Yk Ht h0 V)<|Rx 1 V<|Wbk<|Lp1 (λaa=>[(0,v0),(1,.func (.func 122) #[] #[]),(7,Lk (x0.length:Int)),(8,Lk aa)]) (λab aa=>Xc.l1 ab x0 aa) (λaa w=>St w0 ρ (Γ) w) 0 (T4 V) H hs λab aa w H hs ac=>?_;rw [Xc.l1] at H;refine Wa 1 V<|Wsq<|gIV H V (λH=>?_) λH=>?_;refine Ze<|Wsq<|Wbk<|Wa 2 V<|Wn 3 V ?_;obtain ⟨ah,H⟩:=gd H;obtain ⟨bb,bc,ar,au⟩:=h0.ix Kv ah.1 ah.2;refine O_y V (au V V)<|O_y V (Y5 Qb V (hs.see ar.int)) ?_;obtain ⟨ag,ae,H⟩:=bnd H;refine Xz V V V (Vk.c hs ae) (λbd w hpost=>?_);obtain ⟨rfl,hs⟩:=hpost;refine Zf<|gJV H V (λH=>Wa 2 V<|W.weak [(4,_)] (S1 V)<|gR H V hs) λH=>Ze<|Zc<|Rx 2 V (ac (i64.wrap (aa+1)) (T4 V) H hs);exact We<|Wa 1 V<|gR H V hs
def K4.f (x0:List Int):Option Bool:=(Xc.f x0).bind λab=>(some (decide (0<=ab)))
theorem K4.c (hs:St w0 ρ (Γ) w) (h0:SlR (Rep.int .i32) ρ v0 x0) (H:K4.f x0=some r):gK 121 [v0,.func (.func 122) #[] #[]] w0 ρ Γ w (.bool r):=by
 refine Et func121 ntmps121 V<|Wa 1 V<|Wn 2 V<|Rc H λab aa H=>Oc V (Xc.c hs h0 aa)<|Ra λw hs=>Rx 2 V<|gR H V hs
def Ks.j1 (aa:Bool):Option Bool:=some aa
def Ks.f (x0:List Int) (x1 x2:Int):Option Bool:=if x1<=(x0.length:Int) then (if (x0.length:Int)<=x2 then ((K4.f x0).bind λab=>(Ks.j1 (!ab))) else (Ks.j1 false)) else (Ks.j1 false)
theorem Ks.c (hs:St w0 ρ (Γ) w) (h0:SlR (Rep.int .i32) ρ v0 x0) (H:Ks.f x0 x1 x2=some r):gK 63 [v0,Lk x1,Lk x2] w0 ρ Γ w (.bool r):=by
 rw [Ks.f] at H;refine Et func63 ntmps63 V<|Wa 1 V<|Z8 λai aj ac=>?_;have ad aa w (H:Ks.j1 aa=some r) (hs:St w0 ρ (Γ) w):ai [(6,.bool aa)] w:=by rw [Ks.j1] at H;exact aj _ _<|gR H V hs
 refine Zc<|Rn 1 V<|O_y V (Yk Ht h0 V)<|Rn 3 V<|gI1 H (X9 (dj:=11) V) (λH=>?_) λH=>?_;refine Rn 3 V<|O_y V (Yk Ht h0 V)<|Rn 6 V<|gI1 H (X9 (dj:=17) V) (λH=>?_) λH=>?_;refine Rn 3 V<|Rc H λab ag H=>Oc V (K4.c hs h0 ag)<|Ra λw hs=>Rx 4 V (ac _ _ _ (S1 V) (ad (!ab) _ H hs));refine Rx 5 V (ac _ _ _ (S1 V) (ad false _ H hs));refine Rx 11 V (ac _ _ _ (S1 V) (ad false _ H hs))
def Yv.j1 (aa:Int) (ad:Bool):Option (Bool×Int):=some (ad,aa)
def Yv.j2 (af:Int->Option (Bool×Int)) (y1_1:List Val) (x0:Chs) (aa:Int) (ab:Bool):Option (Bool×Int):=if ab=true then (af (i64.wrap (aa+1))) else ((Ks.f x0.is_ 1 18).bind λap=>(if ap=true then (if aa=(y1_1.length:Int) then (Yv.j1 aa true) else (if (0:Int)<=aa/\aa<(y1_1.length:Int) then (Yv.j1 aa (decide (x0.hi<((rd y1_1 aa).lo)))) else none)) else (Yv.j1 aa false)))
def Yv.l1:Nat->List Val->Chs->Int->Option (Bool×Int)
  | 0,_,_,_=>none
  | ac+1,y1_1,x0,aa=>if aa<(y1_1.length:Int) then (if (0:Int)<=aa/\aa<(y1_1.length:Int) then (Yv.j2 (Yv.l1 ac y1_1 x0) y1_1 x0 aa (decide (((rd y1_1 aa).hi)<x0.lo))) else none) else (Yv.j2 (Yv.l1 ac y1_1 x0) y1_1 x0 aa false)
def Yv.f (x0:Chs) (y0_0:Int) (y1_0:List ByteArray) (y1_1:List Val) (y1_2:List Chs) (y1_3:List Val) (y1_4:List Chs) (y1_5:List Spn) (y1_6 y1_7:List Val) (y1_8:List Spn) (y1_9:List Val) (y1_10:List Chs):Option (Bool×Int):=Yv.l1 K0 y1_1 x0 y0_0
theorem Yv.c (hs:St w0 ρ ((.box pb0 3 ([Lk y0_0]))::(.box pb1 27 ([w1_0,w1_1,w1_2,w1_3,w1_4,w1_5,w1_6,w1_7,w1_8,w1_9,w1_10]))::Γ) w) (h0:V1.R ρ c0 x0) (g1_0:SlR Rep.str ρ w1_0 y1_0) (g1_1:SlR Kc ρ w1_1 y1_1) (g1_2:SlR V1 ρ w1_2 y1_2) (g1_3:SlR Kc ρ w1_3 y1_3) (g1_4:SlR V1 ρ w1_4 y1_4) (g1_5:SlR Vd ρ w1_5 y1_5) (g1_6:SlR Kc ρ w1_6 y1_6) (g1_7:SlR Kc ρ w1_7 y1_7) (g1_8:SlR Vd ρ w1_8 y1_8) (g1_9:SlR Kc ρ w1_9 y1_9) (g1_10:SlR V1 ρ w1_10 y1_10) (H:Yv.f x0 y0_0 y1_0 y1_1 y1_2 y1_3 y1_4 y1_5 y1_6 y1_7 y1_8 y1_9 y1_10=some r):gK 128 [.agg c0.toArray,Ll pb0,Ll pb1] w0 ρ ((.box pb0 3 ([Lk r.2]))::(.box pb1 27 ([w1_0,w1_1,w1_2,w1_3,w1_4,w1_5,w1_6,w1_7,w1_8,w1_9,w1_10]))::Γ) w (.bool r.1):=by
 rw [Yv.f] at H;refine Et func128 ntmps128 V ?_;have aw:=h0;obtain ⟨ah,rfl,ax⟩:=aw;refine Wq<|Kw (cs:=[Lj x0.lo,Lj x0.hi,ah]) hs V V (λae w hs=>Rx 1 V<|Wsq<|Wbk<|Lp1 (λaa=>[(1,Ll pb0),(2,Ll pb1),(3,Ll ae)]) (λac aa=>Yv.l1 ac y1_1 x0 aa) (λaa w=>St w0 ρ ((.box ae 82 ([Lj x0.lo,Lj x0.hi,ah]))::(.box pb0 3 ([Lk aa]))::(.box pb1 27 ([w1_0,w1_1,w1_2,w1_3,w1_4,w1_5,w1_6,w1_7,w1_8,w1_9,w1_10]))::Γ) w) y0_0 (T3 V) H hs λac aa w H hs ag=>?_);rw [Yv.l1] at H;refine Wsq<|Z8 λa2 a3 aq=>?_;have ar ab w (H:Yv.j2 (Yv.l1 ac y1_1 x0) y1_1 x0 aa ab=some r) (hs:St w0 ρ ((.box ae 82 ([Lj x0.lo,Lj x0.hi,ah]))::(.box pb0 3 ([Lk aa]))::(.box pb1 27 ([w1_0,w1_1,w1_2,w1_3,w1_4,w1_5,w1_6,w1_7,w1_8,w1_9,w1_10]))::Γ) w):a2 [(1,Ll pb0),(2,Ll pb1),(3,Ll ae),(20,.bool ab)] w:=by
  rw [Yv.j2] at H;refine a3 _ _<|gJV H V (λH=>?_) λH=>?_;refine Ze<|Wbk<|Zc<|Obx 1 ag3 hs V<|Rn 1 V<|Ui (i:=1) sz3 hs V V V V V (λw hs=>Zf (ag (i64.wrap (aa+1)) (T3 V) H hs));refine We<|Z8 λa4 a5 aj=>?_;have ak ad w (H:Yv.j1 aa ad=some r) (hs:St w0 ρ ((.box ae 82 ([Lj x0.lo,Lj x0.hi,ah]))::(.box pb0 3 ([Lk aa]))::(.box pb1 27 ([w1_0,w1_1,w1_2,w1_3,w1_4,w1_5,w1_6,w1_7,w1_8,w1_9,w1_10]))::Γ) w):a4 [(4,.bool ad)] w:=by rw [Yv.j1] at H;refine a5 _ _<|Zh ?_;cases H;exact r1 V ⟨V,(hs.sub (ssk (ssc (ssc ssr))))⟩
  refine Qz 22 [0,1,2,4,8,8,40,72,152,264,512,1536,512,6656,8704,16896,512,66048,164352,262664,524296,2097151] [2097148,2097144,2097136,523264,2096864,2097040,2096912,2096656,2096128,1048576,2093056,2084864,2083840,2064384,2031616,1769472,1899520,1637376,1048576,0,0,0] [0,1,3,7,15,15,47,111,255,511,1023,2047,1023,8191,16383,32767,1023,66559,262143,524287,1048575,2097151] [2,3,4,5,6,7,8,9,10,11,12,13,14,15,16,17,18,19,20,21] (λw=>St w0 ρ ((.box ae 82 ([Lj x0.lo,Lj x0.hi,ah]))::(.box pb0 3 ([Lk aa]))::(.box pb1 27 ([w1_0,w1_1,w1_2,w1_3,w1_4,w1_5,w1_6,w1_7,w1_8,w1_9,w1_10]))::Γ) w) mixed (by kernel_rfl) (λsh=>?_);have hs:=hs.drew;refine Fp 0 sh V (λw=>Zt Zdm V)<|Fy 1 sh V hs (λw hs=>Yb 0 Zcf hs V V V)<|F1 2 sh V (λbm a6=>Rc H λap al H=>Oc V (Ks.c hs ax al)<|Ra λw hs=>Zf (a6 _ _ (λh _=>absurd h (by decide))<|K1 sh [] hs (by kernel_rfl)<|Fm 3 sh V<|Zjc (dj:=26) V (λam=>?_) (λam=>?_)));rw [if_pos am] at H;refine Fy 4 sh V hs (λw hs=>Yb 1 ag3 hs V V V)<|Fp 5 sh V (λw=>Zt Zhh V)<|Fy 6 sh V hs (λw hs=>Yb 2 Zei hs V V V)<|Fp 7 sh V (λw=>Yk Zkh g1_1 V)<|Fp 8 sh V (λw=>Zcd V V)<|Fp 9 sh V (λw=>Qf V)<|gI1 H (Zbg (dj:=32) V) (λH=>?_) λH=>?_;refine Fn 10 sh V<|Fn 11 sh V<|Fn 12 sh V<|Fn 13 sh V<|Fn 14 sh V<|Fn 15 sh V<|Fn 16 sh V<|Fn 17 sh V<|Fn 18 sh V<|Fp 19 sh V (λw=>Kp V V)<|Fp 20 sh V (λw=>Kp V V)<|Fp 21 sh V (λw=>Y8 V)<|FE sh (aj _ _ _ (S1 V) (ak true _ H hs));refine Fp 10 sh V (λw=>Zt Zhh V)<|Fy 11 sh V hs (λw hs=>Yb 2 Zei hs V V V)<|Fy 12 sh V hs (λw hs=>Yb 1 ag3 hs V V V) ?_;obtain ⟨au,H⟩:=gd H;obtain ⟨bo,bp,a7,a8⟩:=g1_1.ix Zf1 au.1 au.2;obtain ⟨_,rfl,a9⟩:=a7;refine Fp 13 sh V (λw=>a8 V V)<|Fp 14 sh V (λw=>Zt Zgj V)<|Fy 15 sh V hs (λw hs=>Y5 Qb V (hs.see (a9 0 _ V)))<|Fp 16 sh V (λw=>Zt Zq9 V)<|Fy 17 sh V hs (λw hs=>Yb 0 Qb hs V V V)<|Fp 18 sh V (λw=>Zje V V)<|Fp 19 sh V (λw=>Ql V V)<|Fp 20 sh V (λw=>Kp V V)<|Fp 21 sh V (λw=>Y8 V)<|FE sh (aj _ _ _ (S1 V) (ak (decide (x0.hi<((rd y1_1 aa).lo))) _ H hs));rw [if_neg (bft am)] at H;refine Fn 4 sh V<|Fn 5 sh V<|Fn 6 sh V<|Fn 7 sh V<|Fn 8 sh V<|Fn 9 sh V<|Fu 10 sh V<|Fu 11 sh V<|Fu 12 sh V<|Fu 13 sh V<|Fu 14 sh V<|Fu 15 sh V<|Fu 16 sh V<|Fu 17 sh V<|Fu 18 sh V<|Fn 19 sh V<|Fp 20 sh V (λw=>Ql V V)<|Fp 21 sh V (λw=>Y8 V)<|FE sh (aj _ _ _ (S1 V) (ak false _ H hs))
 refine Qz 16 [0,0,2,4,9,16,32,96,32,416,544,1056,32,4128,10272,16416] [65518,65529,65521,65505,65472,0,65280,64768,64704,63488,61440,45056,53184,36800,0,0] [0,0,2,6,15,31,63,127,63,511,1023,2047,63,4159,16383,32767] [] (λw=>St w0 ρ ((.box ae 82 ([Lj x0.lo,Lj x0.hi,ah]))::(.box pb0 3 ([Lk aa]))::(.box pb1 27 ([w1_0,w1_1,w1_2,w1_3,w1_4,w1_5,w1_6,w1_7,w1_8,w1_9,w1_10]))::Γ) w) mixed (by kernel_rfl) (λsh=>?_);have hs:=hs.drew;refine Fy 0 sh V hs (λw hs=>Yb 1 ag3 hs V V V)<|Fp 1 sh V (λw=>Zt Zhh V)<|Fy 2 sh V hs (λw hs=>Yb 2 Zei hs V V V)<|Fp 3 sh V (λw=>Yk Zkh g1_1 V)<|Fp 4 sh V (λw=>Zda V V)<|Fm 5 sh V<|gI1 H (Zbg (dj:=10) V) (λH=>?_) λH=>?_;refine Fp 6 sh V (λw=>Zt Zhh V)<|Fy 7 sh V hs (λw hs=>Yb 2 Zei hs V V V)<|Fy 8 sh V hs (λw hs=>Yb 1 ag3 hs V V V) ?_;obtain ⟨av,H⟩:=gd H;obtain ⟨bq,br,ba,bb⟩:=g1_1.ix Zf1 av.1 av.2;obtain ⟨_,rfl,bc⟩:=ba;refine Fp 9 sh V (λw=>bb V V)<|Fp 10 sh V (λw=>Zt Zfm V)<|Fy 11 sh V hs (λw hs=>Y5 Qb V (hs.see (bc 1 _ V)))<|Fp 12 sh V (λw=>Zt Zgl V)<|Fy 13 sh V hs (λw hs=>Yb 0 Qb hs V V V)<|Fp 14 sh V (λw=>Zda V V)<|Fp 15 sh V (λw=>Kp V V)<|FE sh (aq _ _ _ (T4 V) (ar (decide (((rd y1_1 aa).hi)<x0.lo)) _ H hs));refine Fn 6 sh V<|Fn 7 sh V<|Fn 8 sh V<|Fn 9 sh V<|Fn 10 sh V<|Fn 11 sh V<|Fn 12 sh V<|Fn 13 sh V<|Fn 14 sh V<|Fp 15 sh V (λw=>Ql V V)<|FE sh (aq _ _ _ (T4 V) (ar false _ H hs))
def Z5.j1 (an:Int->Int->Int->Option (Int×Int)) (aa:Int) (ai:Spn) (ac:Int) (af:Bool):Option (Int×Int):=if af=true then (some (aa,ac)) else (an ac ai.hi (i64.wrap (aa+1)))
def Z5.l1:Nat->List ByteArray->List Val->List Chs->List Val->List Chs->List Spn->List Val->List Val->List Spn->List Val->List Chs->List Chs->Int->Int->Int->Option (Int×Int)
  | 0,_,_,_,_,_,_,_,_,_,_,_,_,_,_,_=>none
  | ag+1,y1_0,y1_1,y1_2,y1_3,y1_4,y1_5,y1_6,y1_7,y1_8,y1_9,y1_10,x0,ab,ah,aa=>if aa<(x0.length:Int) then (if (0:Int)<=aa/\aa<(x0.length:Int) then ((Vn.f (rd x0 aa)).bind λai=>(if ai.lo<=ah then (Z5.j1 (Z5.l1 ag y1_0 y1_1 y1_2 y1_3 y1_4 y1_5 y1_6 y1_7 y1_8 y1_9 y1_10 x0) aa ai ab true) else (if ai.hi<ai.lo then (Z5.j1 (Z5.l1 ag y1_0 y1_1 y1_2 y1_3 y1_4 y1_5 y1_6 y1_7 y1_8 y1_9 y1_10 x0) aa ai ab true) else (if 1114111<ai.hi then (Z5.j1 (Z5.l1 ag y1_0 y1_1 y1_2 y1_3 y1_4 y1_5 y1_6 y1_7 y1_8 y1_9 y1_10 x0) aa ai ab true) else ((Yv.f (rd x0 aa) ab y1_0 y1_1 y1_2 y1_3 y1_4 y1_5 y1_6 y1_7 y1_8 y1_9 y1_10).bind λaj=>(Z5.j1 (Z5.l1 ag y1_0 y1_1 y1_2 y1_3 y1_4 y1_5 y1_6 y1_7 y1_8 y1_9 y1_10 x0) aa ai aj.2 (!aj.1))))))) else none) else (some ((-1),ab))
def Z5.f (x0:List Chs) (y0_0:Int) (y1_0:List ByteArray) (y1_1:List Val) (y1_2:List Chs) (y1_3:List Val) (y1_4:List Chs) (y1_5:List Spn) (y1_6 y1_7:List Val) (y1_8:List Spn) (y1_9:List Val) (y1_10:List Chs):Option (Int×Int):=if 65536<(x0.length:Int) then (some (65536,y0_0)) else (Z5.l1 K0 y1_0 y1_1 y1_2 y1_3 y1_4 y1_5 y1_6 y1_7 y1_8 y1_9 y1_10 x0 y0_0 (-1) 0)
theorem Z5.c (hs:St w0 ρ ((.box pb0 3 ([Lk y0_0]))::(.box pb1 27 ([w1_0,w1_1,w1_2,w1_3,w1_4,w1_5,w1_6,w1_7,w1_8,w1_9,w1_10]))::Γ) w) (h0:SlR V1 ρ v0 x0) (g1_0:SlR Rep.str ρ w1_0 y1_0) (g1_1:SlR Kc ρ w1_1 y1_1) (g1_2:SlR V1 ρ w1_2 y1_2) (g1_3:SlR Kc ρ w1_3 y1_3) (g1_4:SlR V1 ρ w1_4 y1_4) (g1_5:SlR Vd ρ w1_5 y1_5) (g1_6:SlR Kc ρ w1_6 y1_6) (g1_7:SlR Kc ρ w1_7 y1_7) (g1_8:SlR Vd ρ w1_8 y1_8) (g1_9:SlR Kc ρ w1_9 y1_9) (g1_10:SlR V1 ρ w1_10 y1_10) (H:Z5.f x0 y0_0 y1_0 y1_1 y1_2 y1_3 y1_4 y1_5 y1_6 y1_7 y1_8 y1_9 y1_10=some r):gK 72 [v0,.func (.func 29) #[] #[],.func (.func 128) #[] #[Ll pb0,Ll pb1]] w0 ρ ((.box pb0 3 ([Lk r.2]))::(.box pb1 27 ([w1_0,w1_1,w1_2,w1_3,w1_4,w1_5,w1_6,w1_7,w1_8,w1_9,w1_10]))::Γ) w (Lk r.1):=by
 rw [Z5.f] at H;refine Et func72 ntmps72 V<|Wa 1 V<|Wsq<|Wn 1 V<|O_y V (Yk Zi3 h0 V)<|Rx 1 V<|gIV H V (λH=>?_) λH=>?_;refine Wa 1 V<|Zh ?_;cases H;exact r1 V ⟨V,hs⟩;refine Ze<|Wa 1 V<|Wsq<|Wn 1 V<|O_y V (Yk Zi3 h0 V)<|Rx 1 V<|Wbk<|Lp4 (λab ah aa ak=>[(1,.func (.func 29) #[] #[]),(2,.func (.func 128) #[] #[Ll pb0,Ll pb1]),(7,Lj ah),(14,v0),(15,Lk (x0.length:Int)),(16,Lk aa)]) (λag ab ah aa ak=>Z5.l1 ag y1_0 y1_1 y1_2 y1_3 y1_4 y1_5 y1_6 y1_7 y1_8 y1_9 y1_10 x0 ab ah aa) (λab ah aa ak w=>Le ρ ak/\St w0 ak ((.box pb0 3 ([Lk ab]))::(.box pb1 27 ([w1_0,w1_1,w1_2,w1_3,w1_4,w1_5,w1_6,w1_7,w1_8,w1_9,w1_10]))::Γ) w) y0_0 (-1) 0 ρ sbn H (Ai (Le.rfl' _) hs) λag ab ah aa ak w H ⟨ad,hs⟩ ao=>?_;rw [Z5.l1] at H;refine Wa 1 V<|Wsq<|gIV H V (λH=>?_) λH=>?_;refine Ze<|Wsq<|Wbk<|Wn 1 V ?_;obtain ⟨a9,H⟩:=gd H;obtain ⟨cf,cg,bm,bn⟩:=(h0.mono ad).ix Zhd a9.1 a9.2;obtain ⟨_,⟨bo,rfl,a0⟩,bp⟩:=bm;refine O_y V (bn V V)<|O_y V (Kg Zh6 Ze0 V V (λj u hu=>hs.see (bp j u hu)))<|Yn Zud hs V (λbq w hs=>Rn 1 V<|Z2 (i:=0) Ze0 hs V V V V V (Zb V (Zb V (Zb a0.one Z9))) (λw hs=>Zf<|Wn 1 V<|O_y V (Ys (i:=0) Zh6 Ze0 hs V V V V) ?_));obtain ⟨ai,a1,H⟩:=bnd H;refine Xz V V V (Vn.c hs ⟨_,V,a0⟩ a1) (λci w hpost=>?_);obtain ⟨av,bs,rfl,ae,hs,a2⟩:=hpost;have a3:=a2;obtain rfl:=a3;refine Yn Zdh hs V (λaw w hs=>Z2 (i:=0) Zbm hs V V V V V (Zb V (Zb V Z9)) (λw hs=>Zf<|W.weak [(1,_),(2,_),(7,_),(8,_),(9,_),(10,_),(14,_),(15,_),(16,_)] sbn<|Wsq<|Z8 λa5 a6 al=>?_));have am (ac:Int) af w (H:Z5.j1 (Z5.l1 ag y1_0 y1_1 y1_2 y1_3 y1_4 y1_5 y1_6 y1_7 y1_8 y1_9 y1_10 x0) aa ai ac af=some r) (hs:St w0 av ((.box aw 131 ([Lj ai.lo,Lj ai.hi]))::(.box bq 82 ([Lj ((rd x0 aa).lo),Lj ((rd x0 aa).hi),bo]))::(.box pb0 3 ([Lk ac]))::(.box pb1 27 ([w1_0,w1_1,w1_2,w1_3,w1_4,w1_5,w1_6,w1_7,w1_8,w1_9,w1_10]))::Γ) w):a5 [(1,.func (.func 29) #[] #[]),(2,.func (.func 128) #[] #[Ll pb0,Ll pb1]),(8,Lk aa),(10,Ll aw),(14,v0),(15,Lk (x0.length:Int)),(16,Lk aa),(45,.bool af)] w:=by rw [Z5.j1] at H;refine a6 _ _<|gJV H V (λH=>?_) λH=>?_;refine Wa 2 V<|Zh ?_;cases H;exact r1 V ⟨V,((hs.sub (ssk (ssk (ssc (ssc ssr))))).less (ad.trans ae))⟩;refine Ze<|Zc<|Ofd Hb V<|Obx 0 Qb hs V<|Rx 1 V<|Zc<|Rx 2 V (ao ac ai.hi (i64.wrap (aa+1)) av sbn H (Ai (ad.trans ae) (hs.sub (ssk (ssk (ssc (ssc ssr)))))))
 refine Zc<|Ofd Zap V<|Obx 0 Qb hs V<|Rn 3 V<|gI1 H (X9 (dj:=28) V) (λH=>?_) λH=>?_;refine Rn 14 V<|Rx 3 V (al _ _ _ sbn (am ab true _ H hs));refine Rn 1 V<|Ofd Hb V<|Rn 1 V<|Obx 0 Qb hs V<|Rn 1 V<|Ofd Zap V<|Rn 1 V<|Obx 0 Qb hs V<|Rn 4 V<|gI1 H (X9 (dj:=35) V) (λH=>?_) λH=>?_;refine Rx 10 V (al _ _ _ sbn (am ab true _ H hs));refine Rn 1 V<|Ofd Hb V<|Rn 1 V<|Obx 0 Qb hs V<|Rn 4 V<|gI1 H (X9 (dj:=40) V) (λH=>?_) λH=>?_;refine Rx 5 V (al _ _ _ sbn (am ab true _ H hs));refine Rn 3 V<|O_y V (Ys (i:=1) Zh6 Ze0 hs V V V V)<|Rn 1 V ?_;have hs:=hs.front 3 V;have hs:=hs.front 3 V;obtain ⟨aj,ax,H⟩:=bnd H;refine Xz V V V (Yv.c hs ⟨_,V,(a0.mono ae)⟩ (g1_0.mono (ad.trans ae)) (g1_1.mono (ad.trans ae)) (g1_2.mono (ad.trans ae)) (g1_3.mono (ad.trans ae)) (g1_4.mono (ad.trans ae)) (g1_5.mono (ad.trans ae)) (g1_6.mono (ad.trans ae)) (g1_7.mono (ad.trans ae)) (g1_8.mono (ad.trans ae)) (g1_9.mono (ad.trans ae)) (g1_10.mono (ad.trans ae)) ax) (λbv w hpost=>?_);obtain ⟨rfl,hs⟩:=hpost;have hs:=hs.sink 3;have hs:=hs.sink 3;refine Rx 3 V (al _ _ _ sbn (am aj.2 (!aj.1) _ H hs));refine We<|Wa 1 V<|Zh ?_;cases H;exact r1 V ⟨V,(hs.less ad)⟩
def Zcw.f (x0:Bk):Option Int:=(Z5.f x0.maps 0 x0.names x0.status x0.maps x0.class_ x0.decomp x0.excl x0.bidi x0.join x0.marks x0.script x0.like).bind λab=>(some ab.1)
theorem Zcw.c (hs:St w0 ρ (Γ) w) (h0:rBk.R ρ c0 x0) (H:Zcw.f x0=some r):gK 69 [.agg c0.toArray] w0 ρ Γ w (Lk r):=by
 refine Et func69 ntmps69 V ?_;have ad:=h0;obtain ⟨ae,af,ag,ah,ai,aj,ak,al,am,an,ao,rfl,ap,aq,ac,ar,au,av,aw,ax,ay,az,a0⟩:=ad;refine Wq<|Kw (cs:=[ae,af,ag,ah,ai,aj,ak,al,am,an,ao]) hs V V (λa5 w hs=>Rx 1 V<|Wq<|Yn zr3 hs V (λa7 w hs=>Ui (i:=0) sz3 hs V V V V V (λw hs=>Zf<|Wq<|Ofd Zm6 V<|Obx 1 Zg6 hs V<|O_y V (Hz V) ?_)));have hs:=hs.front 1 V;have hs:=hs.front 1 V;refine Rc H λab aa H=>Oc V (Z5.c hs ac ap aq ac ar au av aw ax ay az a0 aa)<|Ra λw hs=>?_;have hs:=hs.sink 1;have hs:=hs.sink 1;exact Rx 1 V<|gR H V (hs.sub (ssk (ssk ssr)))
def Zaz.f (y0_0:List ByteArray) (y0_1:List Val) (y0_2:List Chs) (y0_3:List Val) (y0_4:List Chs) (y0_5:List Spn) (y0_6 y0_7:List Val) (y0_8:List Spn) (y0_9:List Val) (y0_10:List Chs):Option Int:=(Zcw.f (⟨y0_0,y0_1,y0_2,y0_3,y0_4,y0_5,y0_6,y0_7,y0_8,y0_9,y0_10⟩:Bk)).bind λab=>(some ab)
theorem Zaz.c (hs:St w0 ρ ((.box pb0 27 ([w0_0,w0_1,w0_2,w0_3,w0_4,w0_5,w0_6,w0_7,w0_8,w0_9,w0_10]))::Γ) w) (g0_0:SlR Rep.str ρ w0_0 y0_0) (g0_1:SlR Kc ρ w0_1 y0_1) (g0_2:SlR V1 ρ w0_2 y0_2) (g0_3:SlR Kc ρ w0_3 y0_3) (g0_4:SlR V1 ρ w0_4 y0_4) (g0_5:SlR Vd ρ w0_5 y0_5) (g0_6:SlR Kc ρ w0_6 y0_6) (g0_7:SlR Kc ρ w0_7 y0_7) (g0_8:SlR Vd ρ w0_8 y0_8) (g0_9:SlR Kc ρ w0_9 y0_9) (g0_10:SlR V1 ρ w0_10 y0_10) (H:Zaz.f y0_0 y0_1 y0_2 y0_3 y0_4 y0_5 y0_6 y0_7 y0_8 y0_9 y0_10=some r):gK 68 [Ll pb0] w0 ρ ((.box pb0 27 ([w0_0,w0_1,w0_2,w0_3,w0_4,w0_5,w0_6,w0_7,w0_8,w0_9,w0_10]))::Γ) w (Lk r):=by
 refine Et func68 ntmps68 V<|Wa 1 V<|Wq<|O_y V (Ys (i:=0) Zqn Zox hs V V V V)<|Rc H λab aa H=>Oc V (Zcw.c hs ⟨_,_,_,_,_,_,_,_,_,_,_,V,g0_0,g0_1,g0_2,g0_3,g0_4,g0_5,g0_6,g0_7,g0_8,g0_9,g0_10⟩ aa)<|Ra λw hs=>Rx 1 V<|gR H V hs
def Zdp.f:Option (List Spn):=some ([(⟨4352,4370⟩:Spn),(⟨4449,4469⟩:Spn),(⟨4520,4546⟩:Spn),(⟨44032,55203⟩:Spn)])
theorem Zdp.c (hs:St w0 ρ (Γ) w) (H:Zdp.f=some r):Zk prog 119 [] w (λv w'=>∃ (ρ':Hp) (v0:Value) (cs0:List Value),v=v0/\Le ρ ρ'/\St w0 ρ' (.row v0 131 Vd.sz r.length cs0::Γ) w'/\Zm Vd ρ' cs0 r):=by
 rw [Zdp.f] at H;refine Et func119 ntmps119 V<|Wa 1 V<|Wq<|O_y V (X4 (cs:=[Lj 4352,Lj 4370]) Zdh Zp0 ((Zp.cons V V (Zp.cons V V Zp.nil))) Zdo (by kernel_rfl))<|O_y V (X4 (cs:=[Lj 4449,Lj 4469]) Zdh Zp0 ((Zp.cons V V (Zp.cons V V Zp.nil))) Zdo (by kernel_rfl))<|O_y V (X4 (cs:=[Lj 4520,Lj 4546]) Zdh Zp0 ((Zp.cons V V (Zp.cons V V Zp.nil))) Zdo (by kernel_rfl))<|O_y V (X4 (cs:=[Lj 44032,Lj 55203]) Zdh Zp0 ((Zp.cons V V (Zp.cons V V Zp.nil))) Zdo (by kernel_rfl))<|Q1 (xs:=[.tmp 1,.tmp 2,.tmp 3,.tmp 4]) (cs:=[Lj 4352,Lj 4370,Lj 4449,Lj 4469,Lj 4520,Lj 4546,Lj 44032,Lj 55203]) Zoo hs V V V (by decide) (by decide) V (Yf V (Yf V (Yf V (Yf V Qm)))) (Zq V (Zq V (Zq V (Zq V Xh)))) (λaf w hs=>?_);have ac:Zm Vd ρ ([Lj 4352,Lj 4370,Lj 4449,Lj 4469,Lj 4520,Lj 4546,Lj 44032,Lj 55203]) [(⟨4352,4370⟩:Spn),(⟨4449,4469⟩:Spn),(⟨4520,4546⟩:Spn),(⟨44032,55203⟩:Spn)]:=Zm.cons (c:=[Lj 4352,Lj 4370]) (x:=(⟨4352,4370⟩:Spn)) V (Zm.cons (c:=[Lj 4449,Lj 4469]) (x:=(⟨4449,4469⟩:Spn)) V (Zm.cons (c:=[Lj 4520,Lj 4546]) (x:=(⟨4520,4546⟩:Spn)) V (Zm.cons (c:=[Lj 44032,Lj 55203]) (x:=(⟨44032,55203⟩:Spn)) V (Zm.nil _ _))));refine Rx 1 V<|Zh ?_;cases H;exact r1 V ⟨_,_,_,V,Le.rfl' _,hs,ac⟩
def J3.j1 (aa:Bool):Option Bool:=some aa
def J3.f (x0:Spn) (y0_0 y0_1:Int):Option Bool:=if y0_0<=x0.hi then (J3.j1 (decide (x0.lo<=y0_1))) else (J3.j1 false)
theorem J3.c (hs:St w0 ρ ((.box pb0 131 ([Lj y0_0,Lj y0_1]))::Γ) w) (h0:Vd.R ρ c0 x0) (H:J3.f x0 y0_0 y0_1=some r):gK 120 [.agg c0.toArray,Ll pb0] w0 ρ ((.box pb0 131 ([Lj y0_0,Lj y0_1]))::Γ) w (.bool r):=by
 rw [J3.f] at H;refine Et func120 ntmps120 V ?_;have ae:=h0;obtain rfl:=ae;refine Wq<|Kw (cs:=[Lj x0.lo,Lj x0.hi]) hs V V (λag w hs=>Rx 1 V<|Z8 λah ai ac=>?_);have ad aa w (H:J3.j1 aa=some r) (hs:St w0 ρ ((.box ag 131 ([Lj x0.lo,Lj x0.hi]))::(.box pb0 131 ([Lj y0_0,Lj y0_1]))::Γ) w):ah [(3,.bool aa)] w:=by rw [J3.j1] at H;exact ai _ _<|gR H V (hs.sub (ssk (ssc ssr)))
 refine Zc<|Ofd Zap V<|Obx 1 Qb hs V<|Ofd Hb V<|Obx 0 Qb hs V<|Rn 2 V<|gI1 H (X9 (dj:=9) V) (λH=>?_) λH=>?_;refine Rn 1 V<|Ofd Zap V<|Rn 1 V<|Obx 0 Qb hs V<|Rn 1 V<|Ofd Hb V<|Rn 1 V<|Obx 1 Qb hs V<|Rx 4 V (ac _ _ _ (S1 V) (ad (decide (x0.lo<=y0_1)) _ H hs));refine Rx 7 V (ac _ _ _ (S1 V) (ad false _ H hs))
def Yl.l1:Nat->Int->Int->List Spn->Int->Option Int
  | 0,_,_,_,_=>none
  | ab+1,y0_0,y0_1,x0,aa=>if aa<(x0.length:Int) then (if (0:Int)<=aa/\aa<(x0.length:Int) then ((J3.f (rd x0 aa) y0_0 y0_1).bind λag=>(if ag=true then (some aa) else ((Yl.l1 ab y0_0 y0_1 x0) (i64.wrap (aa+1))))) else none) else (some (-1))
def Yl.f (x0:List Spn) (y0_0 y0_1:Int):Option Int:=Yl.l1 K0 y0_0 y0_1 x0 0
theorem Yl.c (hs:St w0 ρ ((.box pb0 131 ([Lj y0_0,Lj y0_1]))::Γ) w) (h0:SlR Vd ρ v0 x0) (H:Yl.f x0 y0_0 y0_1=some r):gK 159 [v0,.func (.func 120) #[] #[Ll pb0]] w0 ρ ((.box pb0 131 ([Lj y0_0,Lj y0_1]))::Γ) w (Lk r):=by
 rw [Yl.f] at H;refine Et func159 ntmps159 V<|Wa 1 V<|Wsq<|Wn 1 V<|O_y V (Yk Zoy h0 V)<|Rx 1 V<|Wbk<|Lp1 (λaa=>[(0,v0),(1,.func (.func 120) #[] #[Ll pb0]),(7,Lk (x0.length:Int)),(8,Lk aa)]) (λab aa=>Yl.l1 ab y0_0 y0_1 x0 aa) (λaa w=>St w0 ρ ((.box pb0 131 ([Lj y0_0,Lj y0_1]))::Γ) w) 0 (T4 V) H hs λab aa w H hs ac=>?_;rw [Yl.l1] at H;refine Wa 1 V<|Wsq<|gIV H V (λH=>?_) λH=>?_;refine Ze<|Wsq<|Wbk<|Wa 2 V<|Wn 3 V ?_;obtain ⟨ah,H⟩:=gd H;obtain ⟨bc,bd,ar,au⟩:=h0.ix Zoo ah.1 ah.2;obtain ⟨_,rfl,av⟩:=ar;refine O_y V (au V V)<|O_y V (Kg Zdo Zbm V V (λj u hu=>hs.see (av j u hu))) ?_;obtain ⟨ag,ae,H⟩:=bnd H;refine Xz V V V (J3.c hs V ae) (λbe w hpost=>?_);obtain ⟨rfl,hs⟩:=hpost;refine Zf<|gJV H V (λH=>Wa 2 V<|W.weak [(4,_)] (S1 V)<|gR H V hs) λH=>Ze<|Zc<|Rx 2 V (ac (i64.wrap (aa+1)) (T4 V) H hs);exact We<|Wa 1 V<|gR H V hs
def Qx.f (x0:List Spn) (y0_0 y0_1:Int):Option Bool:=(Yl.f x0 y0_0 y0_1).bind λab=>(some (decide (0<=ab)))
theorem Qx.c (hs:St w0 ρ ((.box pb0 131 ([Lj y0_0,Lj y0_1]))::Γ) w) (h0:SlR Vd ρ v0 x0) (H:Qx.f x0 y0_0 y0_1=some r):gK 118 [v0,.func (.func 120) #[] #[Ll pb0]] w0 ρ ((.box pb0 131 ([Lj y0_0,Lj y0_1]))::Γ) w (.bool r):=by
 refine Et func118 ntmps118 V<|Wa 1 V<|Wn 2 V<|Rc H λab aa H=>Oc V (Yl.c hs h0 aa)<|Ra λw hs=>Rx 2 V<|gR H V hs
def Zb9.f (x0:Spn):Option Bool:=(Zdp.f).bind λae=>((Qx.f ae x0.lo x0.hi).bind λaf=>(some af))
theorem Zb9.c (hs:St w0 ρ (Γ) w) (h0:Vd.R ρ c0 x0) (H:Zb9.f x0=some r):gK 61 [.agg c0.toArray] w0 ρ Γ w (.bool r):=by
 refine Et func61 ntmps61 V ?_;have ag:=h0;obtain rfl:=ag;refine Wq<|Kw (cs:=[Lj x0.lo,Lj x0.hi]) hs V V (λan w hs=>Rx 1 V<|Wsq<|Zc<|Rc H λae aa H=>Oc V (Zdp.c hs aa) (λap w hpost=>?_));obtain ⟨aq,ar,aj,rfl,ab,hs,ak⟩:=hpost;refine O_y V (Hz V) ?_;obtain ⟨au,ac,hs,al⟩:=hs.rowEnd (j:=0) ak V;refine Rc H λaf ad H=>Oc V (Qx.c hs al ad)<|Ra λw hs=>Rx 1 V<|gR H V ((hs.sub (ssk ssr)).less (ab.trans ac))
def Hn.f (x0:Spn):Option Bool:=(Zb9.f x0).bind λab=>(some (!ab))
theorem Hn.c (hs:St w0 ρ (Γ) w) (h0:Vd.R ρ c0 x0) (H:Hn.f x0=some r):gK 60 [.agg c0.toArray] w0 ρ Γ w (.bool r):=by
 refine Et func60 ntmps60 V ?_;have ac:=h0;obtain rfl:=ac;refine Wq<|Kw (cs:=[Lj x0.lo,Lj x0.hi]) hs V V (λag w hs=>Rx 1 V<|Wq<|O_y V (Ys (i:=0) Zdo Zbm hs V V V V)<|Rc H λab aa H=>Oc V (Zb9.c hs h0 aa)<|Ra λw hs=>Rx 2 V<|gR H V (hs.sub (ssk ssr)))
def Ku.j1 (aa:Bool):Option Bool:=some aa
def Ku.f (x0:Val) (y0_0 y1_0:Int):Option Bool:=if y0_0<=x0.n then (if x0.n<=y1_0 then ((Uj.f x0).bind λal=>((Hn.f al).bind λae=>(Ku.j1 ae))) else (Ku.j1 false)) else (Ku.j1 false)
theorem Ku.c (hs:St w0 ρ ((.box pb0 3 ([Lk y0_0]))::(.box pb1 3 ([Lk y1_0]))::(.box pb2 132 ([.func (.func 60) #[] #[]]))::Γ) w) (h0:Kc.R ρ c0 x0) (H:Ku.f x0 y0_0 y1_0=some r):gK 127 [.agg c0.toArray,Ll pb0,Ll pb1,Ll pb2] w0 ρ ((.box pb0 3 ([Lk y0_0]))::(.box pb1 3 ([Lk y1_0]))::(.box pb2 132 ([.func (.func 60) #[] #[]]))::Γ) w (.bool r):=by
 rw [Ku.f] at H;refine Et func127 ntmps127 V ?_;have ao:=h0;obtain rfl:=ao;refine Wq<|Kw (cs:=[Lj x0.lo,Lj x0.hi,Lk x0.n]) hs V V (λam w hs=>Rx 1 V<|Z8 λaq ar af=>?_);have ag aa (ab:Hp) w (H:Ku.j1 aa=some r) (ad:Le ρ ab) (hs:St w0 ab ((.box am 148 ([Lj x0.lo,Lj x0.hi,Lk x0.n]))::(.box pb0 3 ([Lk y0_0]))::(.box pb1 3 ([Lk y1_0]))::(.box pb2 132 ([.func (.func 60) #[] #[]]))::Γ) w):aq [(5,.bool aa)] w:=by rw [Ku.j1] at H;exact ar _ _<|gR H V ((hs.sub (ssk (ssc (ssc (ssc ssr))))).less ad)
 refine Qz 17 [0,1,0,6,8,16,48,16,208,272,528,1024,1024,5120,11264,17408,65535] [65532,65524,65523,65504,63488,65408,65152,65120,64512,63488,0,45056,51200,34816,0,0,0] [0,1,0,7,15,31,63,31,255,511,1023,2047,2047,6143,16383,32767,65535] [] (λw=>St w0 ρ ((.box am 148 ([Lj x0.lo,Lj x0.hi,Lk x0.n]))::(.box pb0 3 ([Lk y0_0]))::(.box pb1 3 ([Lk y1_0]))::(.box pb2 132 ([.func (.func 60) #[] #[]]))::Γ) w) mixed (by kernel_rfl) (λsh=>?_);have hs:=hs.drew;refine Fp 0 sh V (λw=>Zt Zfn V)<|Fy 1 sh V hs (λw hs=>Yb 0 ag3 hs V V V)<|Fy 2 sh V hs (λw hs=>Yb 1 ag3 hs V V V)<|Fp 3 sh V (λw=>Zsg V V)<|Fm 4 sh V<|gI1 H (Zbg (dj:=10) V) (λH=>?_) λH=>?_;refine Fp 5 sh V (λw=>Zt Zfn V)<|Fy 6 sh V hs (λw hs=>Yb 0 ag3 hs V V V)<|Fy 7 sh V hs (λw hs=>Yb 2 ag3 hs V V V)<|Fp 8 sh V (λw=>Zsh V V)<|Fp 9 sh V (λw=>Kp V V)<|Fm 10 sh V<|gI1 H (Zbg (dj:=16) V) (λH=>?_) λH=>?_;refine Fy 11 sh V hs (λw hs=>Yb 3 Zia hs V V V)<|Fy 12 sh V hs (λw hs=>Ys (i:=0) Zfx Zew hs V V V V)<|F1 13 sh V (λa0 au=>Rn 1 V<|Rc H λal aj H=>Oc V (Uj.c hs h0 aj) (λa1 w hpost=>?_));obtain ⟨av,aw,rfl,ac,hs,an⟩:=hpost;have ax:=an;obtain rfl:=ax;refine Zf (au _ _ (λ_ _=>(hs.less ac))<|F1 14 sh V (λa2 ay=>Rn 1 V ?_));obtain ⟨ae,ak,H⟩:=bnd H;refine Xz V V V (Hn.c hs an ak) (λa3 w hpost=>?_);obtain ⟨rfl,hs⟩:=hpost;refine Zf (ay _ _ (λ_ _=>(hs.less ac))<|Fp 15 sh V (λw=>Kp V V)<|Fp 16 sh V (λw=>Y8 V)<|FE sh (af _ _ _ (S1 V) (ag ae av _ H ac hs)));refine Fn 11 sh V<|Fn 12 sh V<|Fn 13 sh V<|Fn 14 sh V<|Fp 15 sh V (λw=>Ql V V)<|Fp 16 sh V (λw=>Y8 V)<|FE sh (af _ _ _ (S1 V) (ag false ρ _ H (Le.rfl' _) hs));refine Fn 5 sh V<|Fn 6 sh V<|Fn 7 sh V<|Fn 8 sh V<|Fp 9 sh V (λw=>Ql V V)<|Fm 10 sh V<|Fn 11 sh V<|Fn 12 sh V<|Fn 13 sh V<|Fn 14 sh V<|Fp 15 sh V (λw=>Ql V V)<|Fp 16 sh V (λw=>Y8 V)<|FE sh (af _ _ _ (S1 V) (ag false ρ _ H (Le.rfl' _) hs))
def Z0.j1 (ak:Int->Int->Option Int) (aa:Int) (ae:Spn) (ab:Bool):Option Int:=if ab=true then (some aa) else (ak ae.hi (i64.wrap (aa+1)))
def Z0.l1:Nat->Int->Int->List Val->Int->Int->Option Int
  | 0,_,_,_,_,_=>none
  | ac+1,y0_0,y1_0,x0,ad,aa=>if aa<(x0.length:Int) then (if (0:Int)<=aa/\aa<(x0.length:Int) then ((Uj.f (rd x0 aa)).bind λae=>(if ae.lo<=ad then (Z0.j1 (Z0.l1 ac y0_0 y1_0 x0) aa ae true) else (if ae.hi<ae.lo then (Z0.j1 (Z0.l1 ac y0_0 y1_0 x0) aa ae true) else (if 1114111<ae.hi then (Z0.j1 (Z0.l1 ac y0_0 y1_0 x0) aa ae true) else ((Ku.f (rd x0 aa) y0_0 y1_0).bind λal=>(Z0.j1 (Z0.l1 ac y0_0 y1_0 x0) aa ae (!al))))))) else none) else (some (-1))
def Z0.f (x0:List Val) (y0_0 y1_0:Int):Option Int:=if 65536<(x0.length:Int) then (some 65536) else (Z0.l1 K0 y0_0 y1_0 x0 (-1) 0)
theorem Z0.c (hs:St w0 ρ ((.box pb0 3 ([Lk y0_0]))::(.box pb1 3 ([Lk y1_0]))::(.box pb2 132 ([.func (.func 60) #[] #[]]))::Γ) w) (h0:SlR Kc ρ v0 x0) (H:Z0.f x0 y0_0 y1_0=some r):gK 125 [v0,.func (.func 126) #[] #[],.func (.func 127) #[] #[Ll pb0,Ll pb1,Ll pb2]] w0 ρ ((.box pb0 3 ([Lk y0_0]))::(.box pb1 3 ([Lk y1_0]))::(.box pb2 132 ([.func (.func 60) #[] #[]]))::Γ) w (Lk r):=by
 rw [Z0.f] at H;refine Et func125 ntmps125 V<|Wa 1 V<|Wsq<|Wn 1 V<|O_y V (Yk Zkh h0 V)<|Rx 1 V<|gIV H V (λH=>Wa 1 V<|gR H V hs) λH=>Ze<|Wa 1 V<|Wsq<|Wn 1 V<|O_y V (Yk Zkh h0 V)<|Rx 1 V<|Wbk<|Lp3 (λad aa ag=>[(1,.func (.func 126) #[] #[]),(2,.func (.func 127) #[] #[Ll pb0,Ll pb1,Ll pb2]),(7,Lj ad),(14,v0),(15,Lk (x0.length:Int)),(16,Lk aa)]) (λac ad aa ag=>Z0.l1 ac y0_0 y1_0 x0 ad aa) (λad aa ag w=>Le ρ ag/\St w0 ag ((.box pb0 3 ([Lk y0_0]))::(.box pb1 3 ([Lk y1_0]))::(.box pb2 132 ([.func (.func 60) #[] #[]]))::Γ) w) (-1) 0 ρ sbn H (Ai (Le.rfl' _) hs) λac ad aa ag w H ⟨af,hs⟩ am=>?_;rw [Z0.l1] at H;refine Wa 1 V<|Wsq<|gIV H V (λH=>?_) λH=>?_;refine Ze<|Wsq<|Wbk<|Wn 1 V ?_;obtain ⟨a4,H⟩:=gd H;obtain ⟨cb,cc,bi,bj⟩:=(h0.mono af).ix Zf1 a4.1 a4.2;obtain ⟨_,rfl,bk⟩:=bi;refine O_y V (bj V V)<|O_y V (Kg Zfx Zew V V (λj u hu=>hs.see (bk j u hu)))<|Yn Zoj hs V (λbl w hs=>Rn 1 V<|Z2 (i:=0) Zew hs V V V V V (Zb V (Zb V (Zb V Z9))) (λw hs=>Zf<|Wn 1 V<|O_y V (Ys (i:=0) Zfx Zew hs V V V V) ?_));obtain ⟨ae,ax,H⟩:=bnd H;refine Xz V V V (Uj.c hs V ax) (λce w hpost=>?_);obtain ⟨a5,bn,rfl,aj,hs,bo⟩:=hpost;have ay:=bo;obtain rfl:=ay;refine Yn Zdh hs V (λar w hs=>Z2 (i:=0) Zbm hs V V V V V (Zb V (Zb V Z9)) (λw hs=>Zf<|W.weak [(1,_),(2,_),(7,_),(8,_),(9,_),(10,_),(14,_),(15,_),(16,_)] sbn<|Wsq<|Z8 λa0 a1 ah=>?_));have ai ab w (H:Z0.j1 (Z0.l1 ac y0_0 y1_0 x0) aa ae ab=some r) (hs:St w0 a5 ((.box ar 131 ([Lj ae.lo,Lj ae.hi]))::(.box bl 148 ([Lj ((rd x0 aa).lo),Lj ((rd x0 aa).hi),Lk ((rd x0 aa).n)]))::(.box pb0 3 ([Lk y0_0]))::(.box pb1 3 ([Lk y1_0]))::(.box pb2 132 ([.func (.func 60) #[] #[]]))::Γ) w):a0 [(1,.func (.func 126) #[] #[]),(2,.func (.func 127) #[] #[Ll pb0,Ll pb1,Ll pb2]),(8,Lk aa),(10,Ll ar),(14,v0),(15,Lk (x0.length:Int)),(16,Lk aa),(45,.bool ab)] w:=by rw [Z0.j1] at H;refine a1 _ _<|gJV H V (λH=>Wa 2 V<|gR H V ((hs.sub (ssk (ssk (ssc (ssc (ssc ssr)))))).less (af.trans aj))) λH=>Ze<|Zc<|Ofd Hb V<|Obx 0 Qb hs V<|Rx 1 V<|Zc<|Rx 2 V (am ae.hi (i64.wrap (aa+1)) a5 sbn H (Ai (af.trans aj) (hs.sub (ssk (ssk (ssc (ssc (ssc ssr))))))))
 refine Zc<|Ofd Zap V<|Obx 0 Qb hs V<|Rn 3 V<|gI1 H (X9 (dj:=28) V) (λH=>?_) λH=>?_;refine Rn 14 V<|Rx 3 V (ah _ _ _ sbn (ai true _ H hs));refine Rn 1 V<|Ofd Hb V<|Rn 1 V<|Obx 0 Qb hs V<|Rn 1 V<|Ofd Zap V<|Rn 1 V<|Obx 0 Qb hs V<|Rn 4 V<|gI1 H (X9 (dj:=35) V) (λH=>?_) λH=>?_;refine Rx 10 V (ah _ _ _ sbn (ai true _ H hs));refine Rn 1 V<|Ofd Hb V<|Rn 1 V<|Obx 0 Qb hs V<|Rn 4 V<|gI1 H (X9 (dj:=40) V) (λH=>?_) λH=>?_;refine Rx 5 V (ah _ _ _ sbn (ai true _ H hs));refine Rn 3 V<|O_y V (Ys (i:=1) Zfx Zew hs V V V V)<|Rn 1 V ?_;have hs:=hs.front 4 V;have hs:=hs.front 4 V;have hs:=hs.front 4 V;obtain ⟨al,au,H⟩:=bnd H;refine Xz V V V (Ku.c hs V au) (λbr w hpost=>?_);obtain ⟨rfl,hs⟩:=hpost;have hs:=hs.sink 4;have hs:=hs.sink 4;have hs:=hs.sink 4;refine Rx 3 V (ah _ _ _ sbn (ai (!al) _ H hs));exact We<|Wa 1 V<|gR H V (hs.less af)
def Ua.f (x0:List Val) (x1 x2:Int):Option Int:=(Z0.f x0 x1 x2).bind λab=>(some ab)
theorem Ua.c (hs:St w0 ρ (Γ) w) (h0:SlR Kc ρ v0 x0) (H:Ua.f x0 x1 x2=some r):gK 67 [v0,Lk x1,Lk x2,.func (.func 60) #[] #[]] w0 ρ Γ w (Lk r):=by
 refine Et func67 ntmps67 V<|Wq<|Zd6 hs V V V (λaf w hs=>Zd6 hs V V V (λag w hs=>Zd6 hs V V V (λah w hs=>Rx 1 V<|Wn 1 V<|O_y V (Hz V) ?_)));have hs:=hs.front 1 V;have hs:=hs.front 2 V;refine Rc H λab aa H=>Oc V (Z0.c hs h0 aa)<|Ra λw hs=>?_;have hs:=hs.sink 2;have hs:=hs.sink 1;exact Rx 1 V<|gR H V (hs.sub (ssk (ssk (ssk ssr))))
def Za0.f (y0_0:List ByteArray) (y0_1:List Val) (y0_2:List Chs) (y0_3:List Val) (y0_4:List Chs) (y0_5:List Spn) (y0_6 y0_7:List Val) (y0_8:List Spn) (y0_9:List Val) (y0_10:List Chs):Option Int:=(Ua.f y0_3 1 254).bind λab=>(some ab)
theorem Za0.c (hs:St w0 ρ ((.box pb0 27 ([w0_0,w0_1,w0_2,w0_3,w0_4,w0_5,w0_6,w0_7,w0_8,w0_9,w0_10]))::(.box pb1 132 ([.func (.func 60) #[] #[]]))::Γ) w) (g0_0:SlR Rep.str ρ w0_0 y0_0) (g0_1:SlR Kc ρ w0_1 y0_1) (g0_2:SlR V1 ρ w0_2 y0_2) (g0_3:SlR Kc ρ w0_3 y0_3) (g0_4:SlR V1 ρ w0_4 y0_4) (g0_5:SlR Vd ρ w0_5 y0_5) (g0_6:SlR Kc ρ w0_6 y0_6) (g0_7:SlR Kc ρ w0_7 y0_7) (g0_8:SlR Vd ρ w0_8 y0_8) (g0_9:SlR Kc ρ w0_9 y0_9) (g0_10:SlR V1 ρ w0_10 y0_10) (H:Za0.f y0_0 y0_1 y0_2 y0_3 y0_4 y0_5 y0_6 y0_7 y0_8 y0_9 y0_10=some r):gK 70 [Ll pb0,Ll pb1] w0 ρ ((.box pb0 27 ([w0_0,w0_1,w0_2,w0_3,w0_4,w0_5,w0_6,w0_7,w0_8,w0_9,w0_10]))::(.box pb1 132 ([.func (.func 60) #[] #[]]))::Γ) w (Lk r):=by
 refine Et func70 ntmps70 V<|Wa 1 V<|Wq<|Ofd Zq3 V<|Obx 0 Zei hs V<|Obx 1 Zia hs V<|Rc H λab aa H=>Oc V (Ua.c hs g0_3 aa)<|Ra λw hs=>Rx 1 V<|gR H V hs
def Q7.j1 (aa:Bool):Option Bool:=some aa
def Q7.f (x0:Chs):Option Bool:=if x0.lo=x0.hi then ((Ks.f ([x0.lo]) 1 1).bind λaq=>(if aq=true then ((Ks.f x0.is_ 1 2).bind λar=>(if ar=true then ((Vn.f x0).bind λau=>((Hn.f au).bind λah=>(Q7.j1 ah))) else (Q7.j1 false))) else (Q7.j1 false))) else (Q7.j1 false)
theorem Q7.c (hs:St w0 ρ ((.box pb0 132 ([.func (.func 60) #[] #[]]))::Γ) w) (h0:V1.R ρ c0 x0) (H:Q7.f x0=some r):gK 73 [.agg c0.toArray,Ll pb0] w0 ρ ((.box pb0 132 ([.func (.func 60) #[] #[]]))::Γ) w (.bool r):=by
 rw [Q7.f] at H;refine Et func73 ntmps73 V ?_;have az:=h0;obtain ⟨ai,rfl,a0⟩:=az;refine Wq<|Kw (cs:=[Lj x0.lo,Lj x0.hi,ai]) hs V V (λav w hs=>Rx 1 V<|Z8 λa2 a3 af=>?_);have ag aa (ac:Hp) w (H:Q7.j1 aa=some r) (ae:Le ρ ac) (hs:St w0 ac ((.box av 82 ([Lj x0.lo,Lj x0.hi,ai]))::(.box pb0 132 ([.func (.func 60) #[] #[]]))::Γ) w):a2 [(3,.bool aa)] w:=by rw [Q7.j1] at H;exact a3 _ _<|gR H V ((hs.sub (ssk (ssc ssr))).less ae)
 refine Qz 23 [0,1,0,4,10,16,32,96,160,288,544,1536,2048,6144,10240,18432,49152,65536,65536,327680,720896,1114112,4194303] [4194300,4194284,4194291,4194275,4194240,4192256,4194048,4193792,4193280,4190208,4190208,4128768,4177920,4161536,4063232,4063232,0,2883584,3276800,2228224,0,0,0] [0,1,0,4,15,31,63,127,255,511,1023,2047,4095,8191,16383,32767,65535,131071,131071,393215,1048575,2097151,4194303] [8,9,10,11,12,13,14,15,16,17,18,19,20,21,22] (λw=>St w0 ρ ((.box av 82 ([Lj x0.lo,Lj x0.hi,ai]))::(.box pb0 132 ([.func (.func 60) #[] #[]]))::Γ) w) mixed (by kernel_rfl) (λsh=>?_);have hs:=hs.drew;refine Fp 0 sh V (λw=>Zt Zgl V)<|Fy 1 sh V hs (λw hs=>Yb 0 Qb hs V V V)<|Fp 2 sh V (λw=>Zt Zq9 V)<|Fy 3 sh V hs (λw hs=>Yb 0 Qb hs V V V)<|Fp 4 sh V (λw=>Zcd V V)<|Fm 5 sh V<|gI1 H (Zbg (dj:=9) V) (λH=>?_) λH=>?_;refine Fp 6 sh V (λw=>Zt Zgl V)<|Fy 7 sh V hs (λw hs=>Yb 0 Qb hs V V V)<|F1 8 sh V (λbg a4=>Rn 1 V<|Q1 (xs:=[.tmp 11]) (cs:=[Lj x0.lo]) Kv hs V V V (by decide) (by decide) V (Yf V Qm) (Zq V Xh) (λbh w hs=>?_));have a5:Zm (Rep.int .i32) ρ ([Lj x0.lo]) [x0.lo]:=Zm.cons (c:=[Lj x0.lo]) (x:=x0.lo) V (Zm.nil _ _);refine Zf (a4 _ _ (λh _=>absurd h (by decide))<|K1 sh [9,10,11,12,13,14,15,16,17,18,19,20,21,22] hs (by kernel_rfl) ?_);have aw:=hs;obtain ⟨ax,ab,hs,a6⟩:=hs.rowEnd (j:=0) a5 V;refine F1 9 sh V (λbi a7=>Rn 1 V<|Rc H λaq ak H=>Oc V (Ks.c hs a6 ak)<|Ra λw hs=>Zf (a7 _ _ (λh _=>absurd h (by decide))<|K1 sh [14,15,16,17,18,19,20,21,22] hs (by kernel_rfl)<|Fp 10 sh V (λw=>Kp V V)<|Fm 11 sh V<|Zjc (dj:=15) V (λal=>?_) (λal=>?_)));rw [if_pos al] at H;refine Fp 12 sh V (λw=>Zt Zdm V)<|Fy 13 sh V hs (λw hs=>Yb 0 Zcf hs V V V)<|F1 14 sh V (λbk a8=>Rn 1 V<|Rc H λar am H=>Oc V (Ks.c hs (a0.mono ab) am)<|Ra λw hs=>Zf (a8 _ _ (λh _=>absurd h (by decide))<|K1 sh [] hs (by kernel_rfl)<|Fp 15 sh V (λw=>Kp V V)<|Fm 16 sh V<|Zjc (dj:=20) V (λan=>?_) (λan=>?_)));rw [if_pos an] at H;refine Fy 17 sh V hs (λw hs=>Yb 1 Zia hs V V V)<|Fy 18 sh V hs (λw hs=>Ys (i:=0) Zh6 Ze0 hs V V V V)<|F1 19 sh V (λbm a9=>Rn 1 V ?_);obtain ⟨au,ao,H⟩:=bnd H;refine Oc V (Vn.c hs (V1.mono ab h0) ao) (λbn w hpost=>?_);obtain ⟨ba,bb,rfl,ad,hs,ay⟩:=hpost;have bc:=ab.trans ad;have bd:=ay;obtain rfl:=bd;refine Zf (a9 _ _ (λ_ _=>(hs.less ad))<|F1 20 sh V (λbo be=>Rn 1 V ?_));obtain ⟨ah,ap,H⟩:=bnd H;refine Xz V V V (Hn.c hs ay ap) (λbp w hpost=>?_);obtain ⟨rfl,hs⟩:=hpost;refine Zf (be _ _ (λ_ _=>(hs.less ad))<|Fp 21 sh V (λw=>Kp V V)<|Fp 22 sh V (λw=>Y8 V)<|FE sh (af _ _ _ (S1 V) (ag ah ba _ H bc hs)));rw [if_neg (bft an)] at H;refine Fn 17 sh V<|Fn 18 sh V<|Fn 19 sh V<|Fn 20 sh V<|Fp 21 sh V (λw=>Ql V V)<|Fp 22 sh V (λw=>Y8 V)<|FE sh (af _ _ _ (S1 V) (ag false ax _ H ab hs));rw [if_neg (bft al)] at H
 refine Fn 12 sh V<|Fn 13 sh V<|Fn 14 sh V<|Fp 15 sh V (λw=>Ql V V)<|Fm 16 sh V<|Fn 17 sh V<|Fn 18 sh V<|Fn 19 sh V<|Fn 20 sh V<|Fp 21 sh V (λw=>Ql V V)<|Fp 22 sh V (λw=>Y8 V)<|FE sh (af _ _ _ (S1 V) (ag false ax _ H ab hs));refine Fn 6 sh V<|Fn 7 sh V<|Fn 8 sh V<|Fn 9 sh V<|Fp 10 sh V (λw=>Ql V V)<|Fm 11 sh V<|Fn 12 sh V<|Fn 13 sh V<|Fn 14 sh V<|Fp 15 sh V (λw=>Ql V V)<|Fm 16 sh V<|Fn 17 sh V<|Fn 18 sh V<|Fn 19 sh V<|Fn 20 sh V<|Fp 21 sh V (λw=>Ql V V)<|Fp 22 sh V (λw=>Y8 V)<|FE sh (af _ _ _ (S1 V) (ag false ρ _ H (Le.rfl' _) hs))
def Zy.j1 (ak:Int->Int->Option Int) (aa:Int) (ae:Spn) (ab:Bool):Option Int:=if ab=true then (some aa) else (ak ae.hi (i64.wrap (aa+1)))
def Zy.l1:Nat->List Chs->Int->Int->Option Int
  | 0,_,_,_=>none
  | ac+1,x0,ad,aa=>if aa<(x0.length:Int) then (if (0:Int)<=aa/\aa<(x0.length:Int) then ((Vn.f (rd x0 aa)).bind λae=>(if ae.lo<=ad then (Zy.j1 (Zy.l1 ac x0) aa ae true) else (if ae.hi<ae.lo then (Zy.j1 (Zy.l1 ac x0) aa ae true) else (if 1114111<ae.hi then (Zy.j1 (Zy.l1 ac x0) aa ae true) else ((Q7.f (rd x0 aa)).bind λal=>(Zy.j1 (Zy.l1 ac x0) aa ae (!al))))))) else none) else (some (-1))
def Zy.f (x0:List Chs):Option Int:=if 65536<(x0.length:Int) then (some 65536) else (Zy.l1 K0 x0 (-1) 0)
theorem Zy.c (hs:St w0 ρ ((.box pb0 132 ([.func (.func 60) #[] #[]]))::Γ) w) (h0:SlR V1 ρ v0 x0) (H:Zy.f x0=some r):gK 72 [v0,.func (.func 29) #[] #[],.func (.func 73) #[] #[Ll pb0]] w0 ρ ((.box pb0 132 ([.func (.func 60) #[] #[]]))::Γ) w (Lk r):=by
 rw [Zy.f] at H;refine Et func72 ntmps72 V<|Wa 1 V<|Wsq<|Wn 1 V<|O_y V (Yk Zi3 h0 V)<|Rx 1 V<|gIV H V (λH=>Wa 1 V<|gR H V hs) λH=>Ze<|Wa 1 V<|Wsq<|Wn 1 V<|O_y V (Yk Zi3 h0 V)<|Rx 1 V<|Wbk<|Lp3 (λad aa ah=>[(1,.func (.func 29) #[] #[]),(2,.func (.func 73) #[] #[Ll pb0]),(7,Lj ad),(14,v0),(15,Lk (x0.length:Int)),(16,Lk aa)]) (λac ad aa ah=>Zy.l1 ac x0 ad aa) (λad aa ah w=>Le ρ ah/\St w0 ah ((.box pb0 132 ([.func (.func 60) #[] #[]]))::Γ) w) (-1) 0 ρ sbn H (Ai (Le.rfl' _) hs) λac ad aa ah w H ⟨af,hs⟩ am=>?_;rw [Zy.l1] at H;refine Wa 1 V<|Wsq<|gIV H V (λH=>?_) λH=>?_;refine Ze<|Wsq<|Wbk<|Wn 1 V ?_;obtain ⟨a7,H⟩:=gd H;obtain ⟨cd,ce,bk,bl⟩:=(h0.mono af).ix Zhd a7.1 a7.2;obtain ⟨_,⟨bm,rfl,ay⟩,bn⟩:=bk;refine O_y V (bl V V)<|O_y V (Kg Zh6 Ze0 V V (λj u hu=>hs.see (bn j u hu)))<|Yn Zud hs V (λbo w hs=>Rn 1 V<|Z2 (i:=0) Ze0 hs V V V V V (Zb V (Zb V (Zb ay.one Z9))) (λw hs=>Zf<|Wn 1 V<|O_y V (Ys (i:=0) Zh6 Ze0 hs V V V V) ?_));obtain ⟨ae,az,H⟩:=bnd H;refine Xz V V V (Vn.c hs ⟨_,V,ay⟩ az) (λcg w hpost=>?_);obtain ⟨ar,bq,rfl,ag,hs,a0⟩:=hpost;have a1:=a0;obtain rfl:=a1;refine Yn Zdh hs V (λau w hs=>Z2 (i:=0) Zbm hs V V V V V (Zb V (Zb V Z9)) (λw hs=>Zf<|W.weak [(1,_),(2,_),(7,_),(8,_),(9,_),(10,_),(14,_),(15,_),(16,_)] sbn<|Wsq<|Z8 λa3 a4 ai=>?_));have aj ab w (H:Zy.j1 (Zy.l1 ac x0) aa ae ab=some r) (hs:St w0 ar ((.box au 131 ([Lj ae.lo,Lj ae.hi]))::(.box bo 82 ([Lj ((rd x0 aa).lo),Lj ((rd x0 aa).hi),bm]))::(.box pb0 132 ([.func (.func 60) #[] #[]]))::Γ) w):a3 [(1,.func (.func 29) #[] #[]),(2,.func (.func 73) #[] #[Ll pb0]),(8,Lk aa),(10,Ll au),(14,v0),(15,Lk (x0.length:Int)),(16,Lk aa),(45,.bool ab)] w:=by rw [Zy.j1] at H;refine a4 _ _<|gJV H V (λH=>Wa 2 V<|gR H V ((hs.sub (ssk (ssk (ssc ssr)))).less (af.trans ag))) λH=>Ze<|Zc<|Ofd Hb V<|Obx 0 Qb hs V<|Rx 1 V<|Zc<|Rx 2 V (am ae.hi (i64.wrap (aa+1)) ar sbn H (Ai (af.trans ag) (hs.sub (ssk (ssk (ssc ssr))))))
 refine Zc<|Ofd Zap V<|Obx 0 Qb hs V<|Rn 3 V<|gI1 H (X9 (dj:=28) V) (λH=>?_) λH=>?_;refine Rn 14 V<|Rx 3 V (ai _ _ _ sbn (aj true _ H hs));refine Rn 1 V<|Ofd Hb V<|Rn 1 V<|Obx 0 Qb hs V<|Rn 1 V<|Ofd Zap V<|Rn 1 V<|Obx 0 Qb hs V<|Rn 4 V<|gI1 H (X9 (dj:=35) V) (λH=>?_) λH=>?_;refine Rx 10 V (ai _ _ _ sbn (aj true _ H hs));refine Rn 1 V<|Ofd Hb V<|Rn 1 V<|Obx 0 Qb hs V<|Rn 4 V<|gI1 H (X9 (dj:=40) V) (λH=>?_) λH=>?_;refine Rx 5 V (ai _ _ _ sbn (aj true _ H hs));refine Rn 3 V<|O_y V (Ys (i:=1) Zh6 Ze0 hs V V V V)<|Rn 1 V ?_;have hs:=hs.front 2 V;obtain ⟨al,av,H⟩:=bnd H;refine Xz V V V (Q7.c hs ⟨_,V,(ay.mono ag)⟩ av) (λbt w hpost=>?_);obtain ⟨rfl,hs⟩:=hpost;have hs:=hs.sink 2;refine Rx 3 V (ai _ _ _ sbn (aj (!al) _ H hs));exact We<|Wa 1 V<|gR H V (hs.less af)
def Za1.f (y0_0:List ByteArray) (y0_1:List Val) (y0_2:List Chs) (y0_3:List Val) (y0_4:List Chs) (y0_5:List Spn) (y0_6 y0_7:List Val) (y0_8:List Spn) (y0_9:List Val) (y0_10:List Chs):Option Int:=(Zy.f y0_4).bind λab=>(some ab)
theorem Za1.c (hs:St w0 ρ ((.box pb0 27 ([w0_0,w0_1,w0_2,w0_3,w0_4,w0_5,w0_6,w0_7,w0_8,w0_9,w0_10]))::(.box pb1 132 ([.func (.func 60) #[] #[]]))::Γ) w) (g0_0:SlR Rep.str ρ w0_0 y0_0) (g0_1:SlR Kc ρ w0_1 y0_1) (g0_2:SlR V1 ρ w0_2 y0_2) (g0_3:SlR Kc ρ w0_3 y0_3) (g0_4:SlR V1 ρ w0_4 y0_4) (g0_5:SlR Vd ρ w0_5 y0_5) (g0_6:SlR Kc ρ w0_6 y0_6) (g0_7:SlR Kc ρ w0_7 y0_7) (g0_8:SlR Vd ρ w0_8 y0_8) (g0_9:SlR Kc ρ w0_9 y0_9) (g0_10:SlR V1 ρ w0_10 y0_10) (H:Za1.f y0_0 y0_1 y0_2 y0_3 y0_4 y0_5 y0_6 y0_7 y0_8 y0_9 y0_10=some r):gK 71 [Ll pb0,Ll pb1] w0 ρ ((.box pb0 27 ([w0_0,w0_1,w0_2,w0_3,w0_4,w0_5,w0_6,w0_7,w0_8,w0_9,w0_10]))::(.box pb1 132 ([.func (.func 60) #[] #[]]))::Γ) w (Lk r):=by
 refine Et func71 ntmps71 V<|Wa 1 V<|Wq<|Ofd Ziq V<|Obx 0 Zg6 hs V<|O_y V (Hz V) ?_;have hs:=hs.front 1 V;refine Rc H λab aa H=>Oc V (Zy.c hs g0_4 aa)<|Ra λw hs=>?_;have hs:=hs.sink 1;exact Rx 1 V<|gR H V hs
def Zbk.f (x0:Spn):Option Spn:=some x0
theorem Zbk.c (hs:St w0 ρ (Γ) w) (h0:Vd.R ρ c0 x0) (H:Zbk.f x0=some r):Zk prog 76 [.agg c0.toArray] w (λv w'=>∃ (ρ':Hp) (cs0:List Value),v=.agg cs0.toArray/\Le ρ ρ'/\St w0 ρ' (Γ) w'/\Vd.R ρ' cs0 r):=by
 rw [Zbk.f] at H;refine Et func76 ntmps76 V ?_;have aa:=h0;obtain rfl:=aa;refine Wq<|Kw (cs:=[Lj x0.lo,Lj x0.hi]) hs V V (λae w hs=>Yn Zdh hs V (λaf w hs=>Zf<|Wq<|O_y V (Ys (i:=1) Zdo Zbm hs V V V V)<|Z2 (i:=0) Zbm hs V V V V V (Zb V (Zb V Z9)) (λw hs=>Zf<|Zh ?_)));cases H;exact Zgq (i:=0) V V Zdo Zbm hs V V ⟨_,_,V,Le.rfl' _,(hs.sub (ssk (ssk ssr))),h0⟩
def Z7.j1 (ak:Int->Int->Option Int) (aa:Int) (ae:Spn) (ab:Bool):Option Int:=if ab=true then (some aa) else (ak ae.hi (i64.wrap (aa+1)))
def Z7.l1:Nat->List Spn->Int->Int->Option Int
  | 0,_,_,_=>none
  | ac+1,x0,ad,aa=>if aa<(x0.length:Int) then (if (0:Int)<=aa/\aa<(x0.length:Int) then ((Zbk.f (rd x0 aa)).bind λae=>(if ae.lo<=ad then (Z7.j1 (Z7.l1 ac x0) aa ae true) else (if ae.hi<ae.lo then (Z7.j1 (Z7.l1 ac x0) aa ae true) else (if 1114111<ae.hi then (Z7.j1 (Z7.l1 ac x0) aa ae true) else ((Hn.f (rd x0 aa)).bind λal=>(Z7.j1 (Z7.l1 ac x0) aa ae (!al))))))) else none) else (some (-1))
def Z7.f (x0:List Spn):Option Int:=if 65536<(x0.length:Int) then (some 65536) else (Z7.l1 K0 x0 (-1) 0)
theorem Z7.c (hs:St w0 ρ (Γ) w) (h0:SlR Vd ρ v0 x0) (H:Z7.f x0=some r):gK 75 [v0,.func (.func 76) #[] #[],.func (.func 60) #[] #[]] w0 ρ Γ w (Lk r):=by
 rw [Z7.f] at H;refine Et func75 ntmps75 V<|Wa 1 V<|Wsq<|Wn 1 V<|O_y V (Yk Zoy h0 V)<|Rx 1 V<|gIV H V (λH=>Wa 1 V<|gR H V hs) λH=>Ze<|Wa 1 V<|Wsq<|Wn 1 V<|O_y V (Yk Zoy h0 V)<|Rx 1 V<|Wbk<|Lp3 (λad aa ag=>[(1,.func (.func 76) #[] #[]),(2,.func (.func 60) #[] #[]),(7,Lj ad),(14,v0),(15,Lk (x0.length:Int)),(16,Lk aa)]) (λac ad aa ag=>Z7.l1 ac x0 ad aa) (λad aa ag w=>Le ρ ag/\St w0 ag (Γ) w) (-1) 0 ρ sbn H (Ai (Le.rfl' _) hs) λac ad aa ag w H ⟨af,hs⟩ am=>?_;rw [Z7.l1] at H;refine Wa 1 V<|Wsq<|gIV H V (λH=>?_) λH=>?_;refine Ze<|Wsq<|Wbk<|Wn 1 V ?_;obtain ⟨a4,H⟩:=gd H;obtain ⟨cb,cc,bi,bj⟩:=(h0.mono af).ix Zoo a4.1 a4.2;obtain ⟨_,rfl,bk⟩:=bi;refine O_y V (bj V V)<|O_y V (Kg Zdo Zbm V V (λj u hu=>hs.see (bk j u hu)))<|Yn Zdh hs V (λbl w hs=>Rn 1 V<|Z2 (i:=0) Zbm hs V V V V V (Zb V (Zb V Z9)) (λw hs=>Zf<|Wn 1 V<|O_y V (Ys (i:=0) Zdo Zbm hs V V V V) ?_));obtain ⟨ae,ax,H⟩:=bnd H;refine Xz V V V (Zbk.c hs V ax) (λce w hpost=>?_);obtain ⟨a5,bn,rfl,aj,hs,bo⟩:=hpost;have ay:=bo;obtain rfl:=ay;refine Yn Zdh hs V (λar w hs=>Z2 (i:=0) Zbm hs V V V V V (Zb V (Zb V Z9)) (λw hs=>Zf<|W.weak [(1,_),(2,_),(7,_),(8,_),(9,_),(10,_),(14,_),(15,_),(16,_)] sbn<|Wsq<|Z8 λa0 a1 ah=>?_));have ai ab w (H:Z7.j1 (Z7.l1 ac x0) aa ae ab=some r) (hs:St w0 a5 ((.box ar 131 ([Lj ae.lo,Lj ae.hi]))::(.box bl 131 ([Lj ((rd x0 aa).lo),Lj ((rd x0 aa).hi)]))::Γ) w):a0 [(1,.func (.func 76) #[] #[]),(2,.func (.func 60) #[] #[]),(8,Lk aa),(10,Ll ar),(14,v0),(15,Lk (x0.length:Int)),(16,Lk aa),(45,.bool ab)] w:=by rw [Z7.j1] at H;refine a1 _ _<|gJV H V (λH=>Wa 2 V<|gR H V ((hs.sub (ssk (ssk ssr))).less (af.trans aj))) λH=>Ze<|Zc<|Ofd Hb V<|Obx 0 Qb hs V<|Rx 1 V<|Zc<|Rx 2 V (am ae.hi (i64.wrap (aa+1)) a5 sbn H (Ai (af.trans aj) (hs.sub (ssk (ssk ssr)))))
 refine Zc<|Ofd Zap V<|Obx 0 Qb hs V<|Rn 3 V<|gI1 H (X9 (dj:=28) V) (λH=>?_) λH=>?_;refine Rn 14 V<|Rx 3 V (ah _ _ _ sbn (ai true _ H hs));refine Rn 1 V<|Ofd Hb V<|Rn 1 V<|Obx 0 Qb hs V<|Rn 1 V<|Ofd Zap V<|Rn 1 V<|Obx 0 Qb hs V<|Rn 4 V<|gI1 H (X9 (dj:=35) V) (λH=>?_) λH=>?_;refine Rx 10 V (ah _ _ _ sbn (ai true _ H hs));refine Rn 1 V<|Ofd Hb V<|Rn 1 V<|Obx 0 Qb hs V<|Rn 4 V<|gI1 H (X9 (dj:=40) V) (λH=>?_) λH=>?_;refine Rx 5 V (ah _ _ _ sbn (ai true _ H hs));refine Rn 3 V<|O_y V (Ys (i:=1) Zdo Zbm hs V V V V)<|Rn 1 V ?_;obtain ⟨al,au,H⟩:=bnd H;refine Xz V V V (Hn.c hs V au) (λbr w hpost=>?_);obtain ⟨rfl,hs⟩:=hpost;refine Rx 3 V (ah _ _ _ sbn (ai (!al) _ H hs));exact We<|Wa 1 V<|gR H V (hs.less af)
def Za2.f (y0_0:List ByteArray) (y0_1:List Val) (y0_2:List Chs) (y0_3:List Val) (y0_4:List Chs) (y0_5:List Spn) (y0_6 y0_7:List Val) (y0_8:List Spn) (y0_9:List Val) (y0_10:List Chs):Option Int:=(Z7.f y0_5).bind λab=>(some ab)
theorem Za2.c (hs:St w0 ρ ((.box pb0 27 ([w0_0,w0_1,w0_2,w0_3,w0_4,w0_5,w0_6,w0_7,w0_8,w0_9,w0_10]))::(.box pb1 132 ([.func (.func 60) #[] #[]]))::Γ) w) (g0_0:SlR Rep.str ρ w0_0 y0_0) (g0_1:SlR Kc ρ w0_1 y0_1) (g0_2:SlR V1 ρ w0_2 y0_2) (g0_3:SlR Kc ρ w0_3 y0_3) (g0_4:SlR V1 ρ w0_4 y0_4) (g0_5:SlR Vd ρ w0_5 y0_5) (g0_6:SlR Kc ρ w0_6 y0_6) (g0_7:SlR Kc ρ w0_7 y0_7) (g0_8:SlR Vd ρ w0_8 y0_8) (g0_9:SlR Kc ρ w0_9 y0_9) (g0_10:SlR V1 ρ w0_10 y0_10) (H:Za2.f y0_0 y0_1 y0_2 y0_3 y0_4 y0_5 y0_6 y0_7 y0_8 y0_9 y0_10=some r):gK 74 [Ll pb0,Ll pb1] w0 ρ ((.box pb0 27 ([w0_0,w0_1,w0_2,w0_3,w0_4,w0_5,w0_6,w0_7,w0_8,w0_9,w0_10]))::(.box pb1 132 ([.func (.func 60) #[] #[]]))::Γ) w (Lk r):=by
 refine Et func74 ntmps74 V<|Wa 1 V<|Wq<|Ofd Zq4 V<|Obx 0 Zsm hs V<|Obx 1 Zia hs V<|Rc H λab aa H=>Oc V (Z7.c hs g0_5 aa)<|Ra λw hs=>Rx 1 V<|gR H V hs
def Zbc.f:Option (List ByteArray):=some ([(⟨#[76]⟩:ByteArray),(⟨#[82]⟩:ByteArray),(⟨#[65,76]⟩:ByteArray),(⟨#[69,78]⟩:ByteArray),(⟨#[69,83]⟩:ByteArray),(⟨#[69,84]⟩:ByteArray),(⟨#[65,78]⟩:ByteArray),(⟨#[67,83]⟩:ByteArray),(⟨#[78,83,77]⟩:ByteArray),(⟨#[66,78]⟩:ByteArray),(⟨#[79,78]⟩:ByteArray),(⟨#[66]⟩:ByteArray),(⟨#[83]⟩:ByteArray),(⟨#[87,83]⟩:ByteArray),(⟨#[76,82,69]⟩:ByteArray),(⟨#[76,82,79]⟩:ByteArray),(⟨#[82,76,69]⟩:ByteArray),(⟨#[82,76,79]⟩:ByteArray),(⟨#[80,68,70]⟩:ByteArray),(⟨#[76,82,73]⟩:ByteArray),(⟨#[82,76,73]⟩:ByteArray),(⟨#[70,83,73]⟩:ByteArray),(⟨#[80,68,73]⟩:ByteArray)])
theorem Zbc.c (hs:St w0 ρ (Γ) w) (H:Zbc.f=some r):Zk prog 78 [] w (λv w'=>∃ (ρ':Hp) (v0:Value) (cs0:List Value),v=v0/\Le ρ ρ'/\St w0 ρ' (.row v0 9 Rep.str.sz r.length cs0::Γ) w'/\Zm Rep.str ρ' cs0 r):=by
 rw [Zbc.f] at H;refine Et func78 ntmps78 V<|Wa 1 V<|Wq<|Q1 (xs:=[.const (.string (⟨#[76]⟩:ByteArray)),.const (.string (⟨#[82]⟩:ByteArray)),.const (.string (⟨#[65,76]⟩:ByteArray)),.const (.string (⟨#[69,78]⟩:ByteArray)),.const (.string (⟨#[69,83]⟩:ByteArray)),.const (.string (⟨#[69,84]⟩:ByteArray)),.const (.string (⟨#[65,78]⟩:ByteArray)),.const (.string (⟨#[67,83]⟩:ByteArray)),.const (.string (⟨#[78,83,77]⟩:ByteArray)),.const (.string (⟨#[66,78]⟩:ByteArray)),.const (.string (⟨#[79,78]⟩:ByteArray)),.const (.string (⟨#[66]⟩:ByteArray)),.const (.string (⟨#[83]⟩:ByteArray)),.const (.string (⟨#[87,83]⟩:ByteArray)),.const (.string (⟨#[76,82,69]⟩:ByteArray)),.const (.string (⟨#[76,82,79]⟩:ByteArray)),.const (.string (⟨#[82,76,69]⟩:ByteArray)),.const (.string (⟨#[82,76,79]⟩:ByteArray)),.const (.string (⟨#[80,68,70]⟩:ByteArray)),.const (.string (⟨#[76,82,73]⟩:ByteArray)),.const (.string (⟨#[82,76,73]⟩:ByteArray)),.const (.string (⟨#[70,83,73]⟩:ByteArray)),.const (.string (⟨#[80,68,73]⟩:ByteArray))]) (cs:=[.string (⟨#[76]⟩:ByteArray),.string (⟨#[82]⟩:ByteArray),.string (⟨#[65,76]⟩:ByteArray),.string (⟨#[69,78]⟩:ByteArray),.string (⟨#[69,83]⟩:ByteArray),.string (⟨#[69,84]⟩:ByteArray),.string (⟨#[65,78]⟩:ByteArray),.string (⟨#[67,83]⟩:ByteArray),.string (⟨#[78,83,77]⟩:ByteArray),.string (⟨#[66,78]⟩:ByteArray),.string (⟨#[79,78]⟩:ByteArray),.string (⟨#[66]⟩:ByteArray),.string (⟨#[83]⟩:ByteArray),.string (⟨#[87,83]⟩:ByteArray),.string (⟨#[76,82,69]⟩:ByteArray),.string (⟨#[76,82,79]⟩:ByteArray),.string (⟨#[82,76,69]⟩:ByteArray),.string (⟨#[82,76,79]⟩:ByteArray),.string (⟨#[80,68,70]⟩:ByteArray),.string (⟨#[76,82,73]⟩:ByteArray),.string (⟨#[82,76,73]⟩:ByteArray),.string (⟨#[70,83,73]⟩:ByteArray),.string (⟨#[80,68,73]⟩:ByteArray)]) Zcr hs V V V (by decide) (by decide) V (Yf V (Yf V (Yf V (Yf V (Yf V (Yf V (Yf V (Yf V (Yf V (Yf V (Yf V (Yf V (Yf V (Yf V (Yf V (Yf V (Yf V (Yf V (Yf V (Yf V (Yf V (Yf V (Yf V Qm))))))))))))))))))))))) (Zq V (Zq V (Zq V (Zq V (Zq V (Zq V (Zq V (Zq V (Zq V (Zq V (Zq V (Zq V (Zq V (Zq V (Zq V (Zq V (Zq V (Zq V (Zq V (Zq V (Zq V (Zq V (Zq V Xh))))))))))))))))))))))) (λaf w hs=>?_)
 have ac:Zm Rep.str ρ ([.string (⟨#[76]⟩:ByteArray),.string (⟨#[82]⟩:ByteArray),.string (⟨#[65,76]⟩:ByteArray),.string (⟨#[69,78]⟩:ByteArray),.string (⟨#[69,83]⟩:ByteArray),.string (⟨#[69,84]⟩:ByteArray),.string (⟨#[65,78]⟩:ByteArray),.string (⟨#[67,83]⟩:ByteArray),.string (⟨#[78,83,77]⟩:ByteArray),.string (⟨#[66,78]⟩:ByteArray),.string (⟨#[79,78]⟩:ByteArray),.string (⟨#[66]⟩:ByteArray),.string (⟨#[83]⟩:ByteArray),.string (⟨#[87,83]⟩:ByteArray),.string (⟨#[76,82,69]⟩:ByteArray),.string (⟨#[76,82,79]⟩:ByteArray),.string (⟨#[82,76,69]⟩:ByteArray),.string (⟨#[82,76,79]⟩:ByteArray),.string (⟨#[80,68,70]⟩:ByteArray),.string (⟨#[76,82,73]⟩:ByteArray),.string (⟨#[82,76,73]⟩:ByteArray),.string (⟨#[70,83,73]⟩:ByteArray),.string (⟨#[80,68,73]⟩:ByteArray)]) [(⟨#[76]⟩:ByteArray),(⟨#[82]⟩:ByteArray),(⟨#[65,76]⟩:ByteArray),(⟨#[69,78]⟩:ByteArray),(⟨#[69,83]⟩:ByteArray),(⟨#[69,84]⟩:ByteArray),(⟨#[65,78]⟩:ByteArray),(⟨#[67,83]⟩:ByteArray),(⟨#[78,83,77]⟩:ByteArray),(⟨#[66,78]⟩:ByteArray),(⟨#[79,78]⟩:ByteArray),(⟨#[66]⟩:ByteArray),(⟨#[83]⟩:ByteArray),(⟨#[87,83]⟩:ByteArray),(⟨#[76,82,69]⟩:ByteArray),(⟨#[76,82,79]⟩:ByteArray),(⟨#[82,76,69]⟩:ByteArray),(⟨#[82,76,79]⟩:ByteArray),(⟨#[80,68,70]⟩:ByteArray),(⟨#[76,82,73]⟩:ByteArray),(⟨#[82,76,73]⟩:ByteArray),(⟨#[70,83,73]⟩:ByteArray),(⟨#[80,68,73]⟩:ByteArray)]:=Zm.cons (c:=[.string (⟨#[76]⟩:ByteArray)]) (x:=(⟨#[76]⟩:ByteArray)) V (Zm.cons (c:=[.string (⟨#[82]⟩:ByteArray)]) (x:=(⟨#[82]⟩:ByteArray)) V (Zm.cons (c:=[.string (⟨#[65,76]⟩:ByteArray)]) (x:=(⟨#[65,76]⟩:ByteArray)) V (Zm.cons (c:=[.string (⟨#[69,78]⟩:ByteArray)]) (x:=(⟨#[69,78]⟩:ByteArray)) V (Zm.cons (c:=[.string (⟨#[69,83]⟩:ByteArray)]) (x:=(⟨#[69,83]⟩:ByteArray)) V (Zm.cons (c:=[.string (⟨#[69,84]⟩:ByteArray)]) (x:=(⟨#[69,84]⟩:ByteArray)) V (Zm.cons (c:=[.string (⟨#[65,78]⟩:ByteArray)]) (x:=(⟨#[65,78]⟩:ByteArray)) V (Zm.cons (c:=[.string (⟨#[67,83]⟩:ByteArray)]) (x:=(⟨#[67,83]⟩:ByteArray)) V (Zm.cons (c:=[.string (⟨#[78,83,77]⟩:ByteArray)]) (x:=(⟨#[78,83,77]⟩:ByteArray)) V (Zm.cons (c:=[.string (⟨#[66,78]⟩:ByteArray)]) (x:=(⟨#[66,78]⟩:ByteArray)) V (Zm.cons (c:=[.string (⟨#[79,78]⟩:ByteArray)]) (x:=(⟨#[79,78]⟩:ByteArray)) V (Zm.cons (c:=[.string (⟨#[66]⟩:ByteArray)]) (x:=(⟨#[66]⟩:ByteArray)) V (Zm.cons (c:=[.string (⟨#[83]⟩:ByteArray)]) (x:=(⟨#[83]⟩:ByteArray)) V (Zm.cons (c:=[.string (⟨#[87,83]⟩:ByteArray)]) (x:=(⟨#[87,83]⟩:ByteArray)) V (Zm.cons (c:=[.string (⟨#[76,82,69]⟩:ByteArray)]) (x:=(⟨#[76,82,69]⟩:ByteArray)) V (Zm.cons (c:=[.string (⟨#[76,82,79]⟩:ByteArray)]) (x:=(⟨#[76,82,79]⟩:ByteArray)) V (Zm.cons (c:=[.string (⟨#[82,76,69]⟩:ByteArray)]) (x:=(⟨#[82,76,69]⟩:ByteArray)) V (Zm.cons (c:=[.string (⟨#[82,76,79]⟩:ByteArray)]) (x:=(⟨#[82,76,79]⟩:ByteArray)) V (Zm.cons (c:=[.string (⟨#[80,68,70]⟩:ByteArray)]) (x:=(⟨#[80,68,70]⟩:ByteArray)) V (Zm.cons (c:=[.string (⟨#[76,82,73]⟩:ByteArray)]) (x:=(⟨#[76,82,73]⟩:ByteArray)) V (Zm.cons (c:=[.string (⟨#[82,76,73]⟩:ByteArray)]) (x:=(⟨#[82,76,73]⟩:ByteArray)) V (Zm.cons (c:=[.string (⟨#[70,83,73]⟩:ByteArray)]) (x:=(⟨#[70,83,73]⟩:ByteArray)) V (Zm.cons (c:=[.string (⟨#[80,68,73]⟩:ByteArray)]) (x:=(⟨#[80,68,73]⟩:ByteArray)) V (Zm.nil _ _)))))))))))))))))))))))
 refine Rx 1 V<|Zh ?_;cases H;exact r1 V ⟨_,_,_,V,Le.rfl' _,hs,ac⟩
def Zac.f (y0_0:List ByteArray) (y0_1:List Val) (y0_2:List Chs) (y0_3:List Val) (y0_4:List Chs) (y0_5:List Spn) (y0_6 y0_7:List Val) (y0_8:List Spn) (y0_9:List Val) (y0_10:List Chs):Option Int:=(Zbc.f).bind λaf=>((Qp.f y0_6 0 (i64.wrap ((af.length:Int)-1))).bind λag=>(some ag))
theorem Zac.c (hs:St w0 ρ ((.box pb0 27 ([w0_0,w0_1,w0_2,w0_3,w0_4,w0_5,w0_6,w0_7,w0_8,w0_9,w0_10]))::(.box pb1 132 ([.func (.func 59) #[] #[]]))::Γ) w) (g0_0:SlR Rep.str ρ w0_0 y0_0) (g0_1:SlR Kc ρ w0_1 y0_1) (g0_2:SlR V1 ρ w0_2 y0_2) (g0_3:SlR Kc ρ w0_3 y0_3) (g0_4:SlR V1 ρ w0_4 y0_4) (g0_5:SlR Vd ρ w0_5 y0_5) (g0_6:SlR Kc ρ w0_6 y0_6) (g0_7:SlR Kc ρ w0_7 y0_7) (g0_8:SlR Vd ρ w0_8 y0_8) (g0_9:SlR Kc ρ w0_9 y0_9) (g0_10:SlR V1 ρ w0_10 y0_10) (H:Zac.f y0_0 y0_1 y0_2 y0_3 y0_4 y0_5 y0_6 y0_7 y0_8 y0_9 y0_10=some r):gK 77 [Ll pb0,Ll pb1] w0 ρ ((.box pb0 27 ([w0_0,w0_1,w0_2,w0_3,w0_4,w0_5,w0_6,w0_7,w0_8,w0_9,w0_10]))::(.box pb1 132 ([.func (.func 59) #[] #[]]))::Γ) w (Lk r):=by
 refine Et func77 ntmps77 V<|Wa 1 V<|V2 λap ai=>Qz 8 [0,1,0,4,8,0,54,127] [124,60,51,99,35,31,0,0] [0,1,0,4,12,0,63,127] [] (λw=>St w0 ρ ((.box pb0 27 ([w0_0,w0_1,w0_2,w0_3,w0_4,w0_5,w0_6,w0_7,w0_8,w0_9,w0_10]))::(.box pb1 132 ([.func (.func 59) #[] #[]]))::Γ) w) mixed (by kernel_rfl) (λsh=>?_);have hs:=hs.drew;refine Fp 0 sh V (λw=>Zt Zq5 V)<|Fy 1 sh V hs (λw hs=>Yb 0 Zei hs V V V)<|Fy 5 sh V hs (λw hs=>Yb 1 Zia hs V V V)<|F1 2 sh V (λaq aj=>Rc H λaf ab H=>Oc V (Zbc.c hs ab) (λar w hpost=>?_));obtain ⟨au,av,ak,rfl,aa,hs,al⟩:=hpost;refine Zf (aj _ _ (λ_ _=>((hs.less aa).sub (ssk (ssc (ssc ssr))))) ?_);obtain ⟨aw,ac,hs,am⟩:=hs.rowEnd (j:=0) al V;have ad:=aa.trans ac;refine Fp 3 sh V (λw=>Yk Zbs am V)<|Fp 4 sh V (λw=>Zet V V)<|F1 6 sh V (λax an=>Rc H λag ae H=>Oc V (Qp.c hs (g0_6.mono ad) ae)<|Ra λw hs=>Zf (an _ _ (λ_ _=>(hs.less ad))<|Fp 7 sh V (λw=>Y8 V)<|FE sh (ai _ _<|Zh ?_)));cases H;exact r1 V ⟨V,(hs.less ad)⟩
def Zcj.f:Option (List ByteArray):=some ([(⟨#[85]⟩:ByteArray),(⟨#[76]⟩:ByteArray),(⟨#[82]⟩:ByteArray),(⟨#[68]⟩:ByteArray),(⟨#[84]⟩:ByteArray),(⟨#[67]⟩:ByteArray)])
theorem Zcj.c (hs:St w0 ρ (Γ) w) (H:Zcj.f=some r):Zk prog 80 [] w (λv w'=>∃ (ρ':Hp) (v0:Value) (cs0:List Value),v=v0/\Le ρ ρ'/\St w0 ρ' (.row v0 9 Rep.str.sz r.length cs0::Γ) w'/\Zm Rep.str ρ' cs0 r):=by
 rw [Zcj.f] at H;refine Et func80 ntmps80 V<|Wa 1 V<|Wq<|Q1 (xs:=[.const (.string (⟨#[85]⟩:ByteArray)),.const (.string (⟨#[76]⟩:ByteArray)),.const (.string (⟨#[82]⟩:ByteArray)),.const (.string (⟨#[68]⟩:ByteArray)),.const (.string (⟨#[84]⟩:ByteArray)),.const (.string (⟨#[67]⟩:ByteArray))]) (cs:=[.string (⟨#[85]⟩:ByteArray),.string (⟨#[76]⟩:ByteArray),.string (⟨#[82]⟩:ByteArray),.string (⟨#[68]⟩:ByteArray),.string (⟨#[84]⟩:ByteArray),.string (⟨#[67]⟩:ByteArray)]) Zcr hs V V V (by decide) (by decide) V (Yf V (Yf V (Yf V (Yf V (Yf V (Yf V Qm)))))) (Zq V (Zq V (Zq V (Zq V (Zq V (Zq V Xh)))))) (λaf w hs=>?_);have ac:Zm Rep.str ρ ([.string (⟨#[85]⟩:ByteArray),.string (⟨#[76]⟩:ByteArray),.string (⟨#[82]⟩:ByteArray),.string (⟨#[68]⟩:ByteArray),.string (⟨#[84]⟩:ByteArray),.string (⟨#[67]⟩:ByteArray)]) [(⟨#[85]⟩:ByteArray),(⟨#[76]⟩:ByteArray),(⟨#[82]⟩:ByteArray),(⟨#[68]⟩:ByteArray),(⟨#[84]⟩:ByteArray),(⟨#[67]⟩:ByteArray)]:=Zm.cons (c:=[.string (⟨#[85]⟩:ByteArray)]) (x:=(⟨#[85]⟩:ByteArray)) V (Zm.cons (c:=[.string (⟨#[76]⟩:ByteArray)]) (x:=(⟨#[76]⟩:ByteArray)) V (Zm.cons (c:=[.string (⟨#[82]⟩:ByteArray)]) (x:=(⟨#[82]⟩:ByteArray)) V (Zm.cons (c:=[.string (⟨#[68]⟩:ByteArray)]) (x:=(⟨#[68]⟩:ByteArray)) V (Zm.cons (c:=[.string (⟨#[84]⟩:ByteArray)]) (x:=(⟨#[84]⟩:ByteArray)) V (Zm.cons (c:=[.string (⟨#[67]⟩:ByteArray)]) (x:=(⟨#[67]⟩:ByteArray)) V (Zm.nil _ _))))));refine Rx 1 V<|Zh ?_;cases H;exact r1 V ⟨_,_,_,V,Le.rfl' _,hs,ac⟩
def Zad.f (y0_0:List ByteArray) (y0_1:List Val) (y0_2:List Chs) (y0_3:List Val) (y0_4:List Chs) (y0_5:List Spn) (y0_6 y0_7:List Val) (y0_8:List Spn) (y0_9:List Val) (y0_10:List Chs):Option Int:=(Zcj.f).bind λaf=>((Qp.f y0_7 0 (i64.wrap ((af.length:Int)-1))).bind λag=>(some ag))
theorem Zad.c (hs:St w0 ρ ((.box pb0 27 ([w0_0,w0_1,w0_2,w0_3,w0_4,w0_5,w0_6,w0_7,w0_8,w0_9,w0_10]))::(.box pb1 132 ([.func (.func 59) #[] #[]]))::Γ) w) (g0_0:SlR Rep.str ρ w0_0 y0_0) (g0_1:SlR Kc ρ w0_1 y0_1) (g0_2:SlR V1 ρ w0_2 y0_2) (g0_3:SlR Kc ρ w0_3 y0_3) (g0_4:SlR V1 ρ w0_4 y0_4) (g0_5:SlR Vd ρ w0_5 y0_5) (g0_6:SlR Kc ρ w0_6 y0_6) (g0_7:SlR Kc ρ w0_7 y0_7) (g0_8:SlR Vd ρ w0_8 y0_8) (g0_9:SlR Kc ρ w0_9 y0_9) (g0_10:SlR V1 ρ w0_10 y0_10) (H:Zad.f y0_0 y0_1 y0_2 y0_3 y0_4 y0_5 y0_6 y0_7 y0_8 y0_9 y0_10=some r):gK 79 [Ll pb0,Ll pb1] w0 ρ ((.box pb0 27 ([w0_0,w0_1,w0_2,w0_3,w0_4,w0_5,w0_6,w0_7,w0_8,w0_9,w0_10]))::(.box pb1 132 ([.func (.func 59) #[] #[]]))::Γ) w (Lk r):=by
 refine Et func79 ntmps79 V<|Wa 1 V<|V2 λap ai=>Qz 8 [0,1,0,4,8,0,54,127] [124,60,51,99,35,31,0,0] [0,1,0,4,12,0,63,127] [] (λw=>St w0 ρ ((.box pb0 27 ([w0_0,w0_1,w0_2,w0_3,w0_4,w0_5,w0_6,w0_7,w0_8,w0_9,w0_10]))::(.box pb1 132 ([.func (.func 59) #[] #[]]))::Γ) w) mixed (by kernel_rfl) (λsh=>?_);have hs:=hs.drew;refine Fp 0 sh V (λw=>Zt Zq6 V)<|Fy 1 sh V hs (λw hs=>Yb 0 Zei hs V V V)<|Fy 5 sh V hs (λw hs=>Yb 1 Zia hs V V V)<|F1 2 sh V (λaq aj=>Rc H λaf ab H=>Oc V (Zcj.c hs ab) (λar w hpost=>?_));obtain ⟨au,av,ak,rfl,aa,hs,al⟩:=hpost;refine Zf (aj _ _ (λ_ _=>((hs.less aa).sub (ssk (ssc (ssc ssr))))) ?_);obtain ⟨aw,ac,hs,am⟩:=hs.rowEnd (j:=0) al V;have ad:=aa.trans ac;refine Fp 3 sh V (λw=>Yk Zbs am V)<|Fp 4 sh V (λw=>Zet V V)<|F1 6 sh V (λax an=>Rc H λag ae H=>Oc V (Qp.c hs (g0_7.mono ad) ae)<|Ra λw hs=>Zf (an _ _ (λ_ _=>(hs.less ad))<|Fp 7 sh V (λw=>Y8 V)<|FE sh (ai _ _<|Zh ?_)));cases H;exact r1 V ⟨V,(hs.less ad)⟩
def Z6.j1 (ak:Int->Int->Option Int) (aa:Int) (ae:Spn) (ab:Bool):Option Int:=if ab=true then (some aa) else (ak ae.hi (i64.wrap (aa+1)))
def Z6.l1:Nat->List Spn->Int->Int->Option Int
  | 0,_,_,_=>none
  | ac+1,x0,ad,aa=>if aa<(x0.length:Int) then (if (0:Int)<=aa/\aa<(x0.length:Int) then ((Zbk.f (rd x0 aa)).bind λae=>(if ae.lo<=ad then (Z6.j1 (Z6.l1 ac x0) aa ae true) else (if ae.hi<ae.lo then (Z6.j1 (Z6.l1 ac x0) aa ae true) else (if 1114111<ae.hi then (Z6.j1 (Z6.l1 ac x0) aa ae true) else ((Zbj.f (rd x0 aa)).bind λal=>(Z6.j1 (Z6.l1 ac x0) aa ae (!al))))))) else none) else (some (-1))
def Z6.f (x0:List Spn):Option Int:=if 65536<(x0.length:Int) then (some 65536) else (Z6.l1 K0 x0 (-1) 0)
theorem Z6.c (hs:St w0 ρ (Γ) w) (h0:SlR Vd ρ v0 x0) (H:Z6.f x0=some r):gK 75 [v0,.func (.func 76) #[] #[],.func (.func 59) #[] #[]] w0 ρ Γ w (Lk r):=by
 rw [Z6.f] at H;refine Et func75 ntmps75 V<|Wa 1 V<|Wsq<|Wn 1 V<|O_y V (Yk Zoy h0 V)<|Rx 1 V<|gIV H V (λH=>Wa 1 V<|gR H V hs) λH=>Ze<|Wa 1 V<|Wsq<|Wn 1 V<|O_y V (Yk Zoy h0 V)<|Rx 1 V<|Wbk<|Lp3 (λad aa ag=>[(1,.func (.func 76) #[] #[]),(2,.func (.func 59) #[] #[]),(7,Lj ad),(14,v0),(15,Lk (x0.length:Int)),(16,Lk aa)]) (λac ad aa ag=>Z6.l1 ac x0 ad aa) (λad aa ag w=>Le ρ ag/\St w0 ag (Γ) w) (-1) 0 ρ sbn H (Ai (Le.rfl' _) hs) λac ad aa ag w H ⟨af,hs⟩ am=>?_;rw [Z6.l1] at H;refine Wa 1 V<|Wsq<|gIV H V (λH=>?_) λH=>?_;refine Ze<|Wsq<|Wbk<|Wn 1 V ?_;obtain ⟨a4,H⟩:=gd H;obtain ⟨cb,cc,bi,bj⟩:=(h0.mono af).ix Zoo a4.1 a4.2;obtain ⟨_,rfl,bk⟩:=bi;refine O_y V (bj V V)<|O_y V (Kg Zdo Zbm V V (λj u hu=>hs.see (bk j u hu)))<|Yn Zdh hs V (λbl w hs=>Rn 1 V<|Z2 (i:=0) Zbm hs V V V V V (Zb V (Zb V Z9)) (λw hs=>Zf<|Wn 1 V<|O_y V (Ys (i:=0) Zdo Zbm hs V V V V) ?_));obtain ⟨ae,ax,H⟩:=bnd H;refine Xz V V V (Zbk.c hs V ax) (λce w hpost=>?_);obtain ⟨a5,bn,rfl,aj,hs,bo⟩:=hpost;have ay:=bo;obtain rfl:=ay;refine Yn Zdh hs V (λar w hs=>Z2 (i:=0) Zbm hs V V V V V (Zb V (Zb V Z9)) (λw hs=>Zf<|W.weak [(1,_),(2,_),(7,_),(8,_),(9,_),(10,_),(14,_),(15,_),(16,_)] sbn<|Wsq<|Z8 λa0 a1 ah=>?_));have ai ab w (H:Z6.j1 (Z6.l1 ac x0) aa ae ab=some r) (hs:St w0 a5 ((.box ar 131 ([Lj ae.lo,Lj ae.hi]))::(.box bl 131 ([Lj ((rd x0 aa).lo),Lj ((rd x0 aa).hi)]))::Γ) w):a0 [(1,.func (.func 76) #[] #[]),(2,.func (.func 59) #[] #[]),(8,Lk aa),(10,Ll ar),(14,v0),(15,Lk (x0.length:Int)),(16,Lk aa),(45,.bool ab)] w:=by rw [Z6.j1] at H;refine a1 _ _<|gJV H V (λH=>Wa 2 V<|gR H V ((hs.sub (ssk (ssk ssr))).less (af.trans aj))) λH=>Ze<|Zc<|Ofd Hb V<|Obx 0 Qb hs V<|Rx 1 V<|Zc<|Rx 2 V (am ae.hi (i64.wrap (aa+1)) a5 sbn H (Ai (af.trans aj) (hs.sub (ssk (ssk ssr)))))
 refine Zc<|Ofd Zap V<|Obx 0 Qb hs V<|Rn 3 V<|gI1 H (X9 (dj:=28) V) (λH=>?_) λH=>?_;refine Rn 14 V<|Rx 3 V (ah _ _ _ sbn (ai true _ H hs));refine Rn 1 V<|Ofd Hb V<|Rn 1 V<|Obx 0 Qb hs V<|Rn 1 V<|Ofd Zap V<|Rn 1 V<|Obx 0 Qb hs V<|Rn 4 V<|gI1 H (X9 (dj:=35) V) (λH=>?_) λH=>?_;refine Rx 10 V (ah _ _ _ sbn (ai true _ H hs));refine Rn 1 V<|Ofd Hb V<|Rn 1 V<|Obx 0 Qb hs V<|Rn 4 V<|gI1 H (X9 (dj:=40) V) (λH=>?_) λH=>?_;refine Rx 5 V (ah _ _ _ sbn (ai true _ H hs));refine Rn 3 V<|O_y V (Ys (i:=1) Zdo Zbm hs V V V V)<|Rn 1 V ?_;obtain ⟨al,au,H⟩:=bnd H;refine Xz V V V (Zbj.c hs V au) (λbr w hpost=>?_);obtain ⟨rfl,hs⟩:=hpost;refine Rx 3 V (ah _ _ _ sbn (ai (!al) _ H hs));exact We<|Wa 1 V<|gR H V (hs.less af)
def Zae.f (y0_0:List ByteArray) (y0_1:List Val) (y0_2:List Chs) (y0_3:List Val) (y0_4:List Chs) (y0_5:List Spn) (y0_6 y0_7:List Val) (y0_8:List Spn) (y0_9:List Val) (y0_10:List Chs):Option Int:=(Z6.f y0_8).bind λab=>(some ab)
theorem Zae.c (hs:St w0 ρ ((.box pb0 27 ([w0_0,w0_1,w0_2,w0_3,w0_4,w0_5,w0_6,w0_7,w0_8,w0_9,w0_10]))::(.box pb1 132 ([.func (.func 59) #[] #[]]))::Γ) w) (g0_0:SlR Rep.str ρ w0_0 y0_0) (g0_1:SlR Kc ρ w0_1 y0_1) (g0_2:SlR V1 ρ w0_2 y0_2) (g0_3:SlR Kc ρ w0_3 y0_3) (g0_4:SlR V1 ρ w0_4 y0_4) (g0_5:SlR Vd ρ w0_5 y0_5) (g0_6:SlR Kc ρ w0_6 y0_6) (g0_7:SlR Kc ρ w0_7 y0_7) (g0_8:SlR Vd ρ w0_8 y0_8) (g0_9:SlR Kc ρ w0_9 y0_9) (g0_10:SlR V1 ρ w0_10 y0_10) (H:Zae.f y0_0 y0_1 y0_2 y0_3 y0_4 y0_5 y0_6 y0_7 y0_8 y0_9 y0_10=some r):gK 81 [Ll pb0,Ll pb1] w0 ρ ((.box pb0 27 ([w0_0,w0_1,w0_2,w0_3,w0_4,w0_5,w0_6,w0_7,w0_8,w0_9,w0_10]))::(.box pb1 132 ([.func (.func 59) #[] #[]]))::Γ) w (Lk r):=by
 refine Et func81 ntmps81 V<|Wa 1 V<|Wq<|Ofd Zq7 V<|Obx 0 Zsm hs V<|Obx 1 Zia hs V<|Rc H λab aa H=>Oc V (Z6.c hs g0_8 aa)<|Ra λw hs=>Rx 1 V<|gR H V hs
def Zaf.f (y0_0:List ByteArray) (y0_1:List Val) (y0_2:List Chs) (y0_3:List Val) (y0_4:List Chs) (y0_5:List Spn) (y0_6 y0_7:List Val) (y0_8:List Spn) (y0_9:List Val) (y0_10:List Chs):Option Int:=(Qp.f y0_9 1 (y0_0.length:Int)).bind λab=>(some ab)
theorem Zaf.c (hs:St w0 ρ ((.box pb0 27 ([w0_0,w0_1,w0_2,w0_3,w0_4,w0_5,w0_6,w0_7,w0_8,w0_9,w0_10]))::(.box pb1 132 ([.func (.func 59) #[] #[]]))::Γ) w) (g0_0:SlR Rep.str ρ w0_0 y0_0) (g0_1:SlR Kc ρ w0_1 y0_1) (g0_2:SlR V1 ρ w0_2 y0_2) (g0_3:SlR Kc ρ w0_3 y0_3) (g0_4:SlR V1 ρ w0_4 y0_4) (g0_5:SlR Vd ρ w0_5 y0_5) (g0_6:SlR Kc ρ w0_6 y0_6) (g0_7:SlR Kc ρ w0_7 y0_7) (g0_8:SlR Vd ρ w0_8 y0_8) (g0_9:SlR Kc ρ w0_9 y0_9) (g0_10:SlR V1 ρ w0_10 y0_10) (H:Zaf.f y0_0 y0_1 y0_2 y0_3 y0_4 y0_5 y0_6 y0_7 y0_8 y0_9 y0_10=some r):gK 82 [Ll pb0,Ll pb1] w0 ρ ((.box pb0 27 ([w0_0,w0_1,w0_2,w0_3,w0_4,w0_5,w0_6,w0_7,w0_8,w0_9,w0_10]))::(.box pb1 132 ([.func (.func 59) #[] #[]]))::Γ) w (Lk r):=by
 refine Et func82 ntmps82 V<|Wa 1 V<|Wq<|Ofd Zq8 V<|Obx 0 Zei hs V<|Ofd Zq2 V<|Obx 0 Zx6 hs V<|O_y V (Yk Zbs g0_0 V)<|Obx 1 Zia hs V<|Rc H λab aa H=>Oc V (Qp.c hs g0_9 aa)<|Ra λw hs=>Rx 1 V<|gR H V hs
def Zb8.f (x0:Chs):Option Bool:=(Ks.f x0.is_ 1 18).bind λab=>(some ab)
theorem Zb8.c (hs:St w0 ρ (Γ) w) (h0:V1.R ρ c0 x0) (H:Zb8.f x0=some r):gK 62 [.agg c0.toArray] w0 ρ Γ w (.bool r):=by
 refine Et func62 ntmps62 V ?_;have ac:=h0;obtain ⟨ad,rfl,ae⟩:=ac;refine Wq<|Kw (cs:=[Lj x0.lo,Lj x0.hi,ad]) hs V V (λai w hs=>Rx 1 V<|Wq<|Ofd Zdm V<|Obx 0 Zcf hs V<|Rc H λab aa H=>Oc V (Ks.c hs ae aa)<|Ra λw hs=>Rx 1 V<|gR H V (hs.sub (ssk ssr)))
def Zx.j1 (ak:Int->Int->Option Int) (aa:Int) (ae:Spn) (ab:Bool):Option Int:=if ab=true then (some aa) else (ak ae.hi (i64.wrap (aa+1)))
def Zx.l1:Nat->List Chs->Int->Int->Option Int
  | 0,_,_,_=>none
  | ac+1,x0,ad,aa=>if aa<(x0.length:Int) then (if (0:Int)<=aa/\aa<(x0.length:Int) then ((Vn.f (rd x0 aa)).bind λae=>(if ae.lo<=ad then (Zx.j1 (Zx.l1 ac x0) aa ae true) else (if ae.hi<ae.lo then (Zx.j1 (Zx.l1 ac x0) aa ae true) else (if 1114111<ae.hi then (Zx.j1 (Zx.l1 ac x0) aa ae true) else ((Zb8.f (rd x0 aa)).bind λal=>(Zx.j1 (Zx.l1 ac x0) aa ae (!al))))))) else none) else (some (-1))
def Zx.f (x0:List Chs):Option Int:=if 65536<(x0.length:Int) then (some 65536) else (Zx.l1 K0 x0 (-1) 0)
theorem Zx.c (hs:St w0 ρ (Γ) w) (h0:SlR V1 ρ v0 x0) (H:Zx.f x0=some r):gK 72 [v0,.func (.func 29) #[] #[],.func (.func 62) #[] #[]] w0 ρ Γ w (Lk r):=by
 rw [Zx.f] at H;refine Et func72 ntmps72 V<|Wa 1 V<|Wsq<|Wn 1 V<|O_y V (Yk Zi3 h0 V)<|Rx 1 V<|gIV H V (λH=>Wa 1 V<|gR H V hs) λH=>Ze<|Wa 1 V<|Wsq<|Wn 1 V<|O_y V (Yk Zi3 h0 V)<|Rx 1 V<|Wbk<|Lp3 (λad aa ah=>[(1,.func (.func 29) #[] #[]),(2,.func (.func 62) #[] #[]),(7,Lj ad),(14,v0),(15,Lk (x0.length:Int)),(16,Lk aa)]) (λac ad aa ah=>Zx.l1 ac x0 ad aa) (λad aa ah w=>Le ρ ah/\St w0 ah (Γ) w) (-1) 0 ρ sbn H (Ai (Le.rfl' _) hs) λac ad aa ah w H ⟨af,hs⟩ am=>?_;rw [Zx.l1] at H;refine Wa 1 V<|Wsq<|gIV H V (λH=>?_) λH=>?_;refine Ze<|Wsq<|Wbk<|Wn 1 V ?_;obtain ⟨a7,H⟩:=gd H;obtain ⟨cd,ce,bk,bl⟩:=(h0.mono af).ix Zhd a7.1 a7.2;obtain ⟨_,⟨bm,rfl,ay⟩,bn⟩:=bk;refine O_y V (bl V V)<|O_y V (Kg Zh6 Ze0 V V (λj u hu=>hs.see (bn j u hu)))<|Yn Zud hs V (λbo w hs=>Rn 1 V<|Z2 (i:=0) Ze0 hs V V V V V (Zb V (Zb V (Zb ay.one Z9))) (λw hs=>Zf<|Wn 1 V<|O_y V (Ys (i:=0) Zh6 Ze0 hs V V V V) ?_));obtain ⟨ae,az,H⟩:=bnd H;refine Xz V V V (Vn.c hs ⟨_,V,ay⟩ az) (λcg w hpost=>?_);obtain ⟨ar,bq,rfl,ag,hs,a0⟩:=hpost;have a1:=a0;obtain rfl:=a1;refine Yn Zdh hs V (λau w hs=>Z2 (i:=0) Zbm hs V V V V V (Zb V (Zb V Z9)) (λw hs=>Zf<|W.weak [(1,_),(2,_),(7,_),(8,_),(9,_),(10,_),(14,_),(15,_),(16,_)] sbn<|Wsq<|Z8 λa3 a4 ai=>?_));have aj ab w (H:Zx.j1 (Zx.l1 ac x0) aa ae ab=some r) (hs:St w0 ar ((.box au 131 ([Lj ae.lo,Lj ae.hi]))::(.box bo 82 ([Lj ((rd x0 aa).lo),Lj ((rd x0 aa).hi),bm]))::Γ) w):a3 [(1,.func (.func 29) #[] #[]),(2,.func (.func 62) #[] #[]),(8,Lk aa),(10,Ll au),(14,v0),(15,Lk (x0.length:Int)),(16,Lk aa),(45,.bool ab)] w:=by rw [Zx.j1] at H;refine a4 _ _<|gJV H V (λH=>Wa 2 V<|gR H V ((hs.sub (ssk (ssk ssr))).less (af.trans ag))) λH=>Ze<|Zc<|Ofd Hb V<|Obx 0 Qb hs V<|Rx 1 V<|Zc<|Rx 2 V (am ae.hi (i64.wrap (aa+1)) ar sbn H (Ai (af.trans ag) (hs.sub (ssk (ssk ssr)))))
 refine Zc<|Ofd Zap V<|Obx 0 Qb hs V<|Rn 3 V<|gI1 H (X9 (dj:=28) V) (λH=>?_) λH=>?_;refine Rn 14 V<|Rx 3 V (ai _ _ _ sbn (aj true _ H hs));refine Rn 1 V<|Ofd Hb V<|Rn 1 V<|Obx 0 Qb hs V<|Rn 1 V<|Ofd Zap V<|Rn 1 V<|Obx 0 Qb hs V<|Rn 4 V<|gI1 H (X9 (dj:=35) V) (λH=>?_) λH=>?_;refine Rx 10 V (ai _ _ _ sbn (aj true _ H hs));refine Rn 1 V<|Ofd Hb V<|Rn 1 V<|Obx 0 Qb hs V<|Rn 4 V<|gI1 H (X9 (dj:=40) V) (λH=>?_) λH=>?_;refine Rx 5 V (ai _ _ _ sbn (aj true _ H hs));refine Rn 3 V<|O_y V (Ys (i:=1) Zh6 Ze0 hs V V V V)<|Rn 1 V ?_;obtain ⟨al,av,H⟩:=bnd H;refine Xz V V V (Zb8.c hs ⟨_,V,(ay.mono ag)⟩ av) (λbt w hpost=>?_);obtain ⟨rfl,hs⟩:=hpost;refine Rx 3 V (ai _ _ _ sbn (aj (!al) _ H hs));exact We<|Wa 1 V<|gR H V (hs.less af)
def Zag.f (y0_0:List ByteArray) (y0_1:List Val) (y0_2:List Chs) (y0_3:List Val) (y0_4:List Chs) (y0_5:List Spn) (y0_6 y0_7:List Val) (y0_8:List Spn) (y0_9:List Val) (y0_10:List Chs):Option Int:=(Zx.f y0_10).bind λab=>(some ab)
theorem Zag.c (hs:St w0 ρ ((.box pb0 27 ([w0_0,w0_1,w0_2,w0_3,w0_4,w0_5,w0_6,w0_7,w0_8,w0_9,w0_10]))::(.box pb1 134 ([.func (.func 62) #[] #[]]))::Γ) w) (g0_0:SlR Rep.str ρ w0_0 y0_0) (g0_1:SlR Kc ρ w0_1 y0_1) (g0_2:SlR V1 ρ w0_2 y0_2) (g0_3:SlR Kc ρ w0_3 y0_3) (g0_4:SlR V1 ρ w0_4 y0_4) (g0_5:SlR Vd ρ w0_5 y0_5) (g0_6:SlR Kc ρ w0_6 y0_6) (g0_7:SlR Kc ρ w0_7 y0_7) (g0_8:SlR Vd ρ w0_8 y0_8) (g0_9:SlR Kc ρ w0_9 y0_9) (g0_10:SlR V1 ρ w0_10 y0_10) (H:Zag.f y0_0 y0_1 y0_2 y0_3 y0_4 y0_5 y0_6 y0_7 y0_8 y0_9 y0_10=some r):gK 83 [Ll pb0,Ll pb1] w0 ρ ((.box pb0 27 ([w0_0,w0_1,w0_2,w0_3,w0_4,w0_5,w0_6,w0_7,w0_8,w0_9,w0_10]))::(.box pb1 134 ([.func (.func 62) #[] #[]]))::Γ) w (Lk r):=by
 refine Et func83 ntmps83 V<|Wa 1 V<|Wq<|Ofd Zl7 V<|Obx 0 Zg6 hs V<|Obx 1 Z7q hs V<|Rc H λab aa H=>Oc V (Zx.c hs g0_10 aa)<|Ra λw hs=>Rx 1 V<|gR H V hs
def Zw.j1 (ah:(List (Int×Int))->Int->Int->Option (Int×(List (Int×Int)))) (ad aa:Int) (ac:List (Int×Int)) (ae:Int):Option (Int×(List (Int×Int))):=if ae=0 then (some (0,ac)) else (ah ac (i64.wrap (ad+ae)) (i64.wrap (aa+1)))
def Zw.l1:Nat->(Int->List Chs->(List (Int×Int))->(List (Int×Int))->Option (Int×(List (Int×Int))))->List Chs->(List (Int×Int))->Int->(List (Int×Int))->Int->Int->Option (Int×(List (Int×Int)))
  | 0,_,_,_,_,_,_,_=>none
  | af+1,rec,y0_0,y1,x1,ab,ad,aa=>if aa<(((rd y0_0 x1).is_).length:Int) then (if (0:Int)<=aa/\aa<(((rd y0_0 x1).is_).length:Int) then (if ((U7 y1 (rd ((rd y0_0 x1).is_) aa)).isSome)=true then ((rec ((U7 y1 (rd ((rd y0_0 x1).is_) aa)).getD 0) y0_0 y1 ab).bind λag=>(Zw.j1 (Zw.l1 af rec y0_0 y1 x1) ad aa ag.2 ag.1)) else (Zw.j1 (Zw.l1 af rec y0_0 y1 x1) ad aa ab 1)) else none) else (if 18<ad then (some (0,ab)) else (some (ad,Zbb ab x1 ad)))
def Zw.b (rec:Int->List Chs->(List (Int×Int))->(List (Int×Int))->Option (Int×(List (Int×Int)))) (x1:Int) (y0_0:List Chs) (y1:List (Int×Int)) (y2:List (Int×Int)):Option (Int×(List (Int×Int))):=if ((U7 y2 x1).isSome)=true then (some ((U7 y2 x1).getD 0,y2)) else (if (0:Int)<=x1/\x1<(y0_0.length:Int) then (Zw.l1 K0 rec y0_0 y1 x1 (Zbb y2 x1 0) 0 0) else none)
def Zw.f:Nat->Int->List Chs->(List (Int×Int))->(List (Int×Int))->Option (Int×(List (Int×Int)))
  | 0,_,_,_,_=>none
  | k+1,x1,y0_0,y1,y2=>Zw.b (Zw.f k) x1 y0_0 y1 y2
def Zw.Spec (rec:Int->List Chs->(List (Int×Int))->(List (Int×Int))->Option (Int×(List (Int×Int)))):Prop:=∀ {w0 w:World} {ρ:Hp} {Γ:List Kh} {pb0:Nat} {w0_0:Value} {y0_0:List Chs} {pm1:Nat} {y1:List (Int×Int)} {pm2:Nat} {y2:List (Int×Int)} (hs:St w0 ρ ((.box pb0 191 ([w0_0,.map (some pm1),.map (some pm2)]))::(.obj pm1 (Qr (Hl.int Zdd).enc (vs (Value.int .i64) y1)))::(.obj pm2 (Qr (Hl.int un3).enc (vs (Value.int .i64) y2)))::Γ) w) {x1:Int} (g0_0:SlR V1 ρ w0_0 y0_0) {r:Int×(List (Int×Int))},rec x1 y0_0 y1 y2=some r->Zk prog 129 [Ll pb0,Lk x1] w (λv w'=>v=Lk r.1/\St w0 ρ ((.box pb0 191 ([w0_0,.map (some pm1),.map (some pm2)]))::(.obj pm1 (Qr (Hl.int Zdd).enc (vs (Value.int .i64) y1)))::(.obj pm2 (Qr (Hl.int un3).enc (vs (Value.int .i64) r.2)))::Γ) w')
theorem Zw.cb (rec:Int->List Chs->(List (Int×Int))->(List (Int×Int))->Option (Int×(List (Int×Int)))) (hrec:Zw.Spec rec) (hs:St w0 ρ ((.box pb0 191 ([w0_0,.map (some pm1),.map (some pm2)]))::(.obj pm1 (Qr (Hl.int Zdd).enc (vs (Value.int .i64) y1)))::(.obj pm2 (Qr (Hl.int un3).enc (vs (Value.int .i64) y2)))::Γ) w) (g0_0:SlR V1 ρ w0_0 y0_0) (H:Zw.b rec x1 y0_0 y1 y2=some r):gK 129 [Ll pb0,Lk x1] w0 ρ ((.box pb0 191 ([w0_0,.map (some pm1),.map (some pm2)]))::(.obj pm1 (Qr (Hl.int Zdd).enc (vs (Value.int .i64) y1)))::(.obj pm2 (Qr (Hl.int un3).enc (vs (Value.int .i64) r.2)))::Γ) w (Lk r.1):=by
 rw [Zw.b] at H;refine Et func129 ntmps129 V<|Wa 1 V<|Wsq<|Wn 2 V<|Ofd Zq1 V<|Obx 0 Zz1 hs V<|Rn 1 V<|O_y V (Zkm (i:=2) (m:=y2) (x:=x1) (E:=(Value.int .i64)) Z27 (Hl.int un3) trivial (λ_ _=>trivial) zv3 hs V V V)<|Rx 5 V<|Wa 1 V<|W.weak [(0,_),(1,_),(5,_),(22,_)] (T4 V)<|gJV H V (λH=>?_) λH=>?_;refine Wa 2 V<|Zh ?_;cases H;exact r1 V ⟨V,hs⟩;refine Ze<|Wn 2 V<|Ofd Zq1 V<|Obx 0 Zz1 hs V<|Rn 1 V<|Ze2 (i:=2) (m:=y2) (x:=x1) (v:=0) (E:=(Value.int .i64)) Z27 (Hl.int un3) trivial (λ_ _=>trivial) hs V V V V (λw hs=>Zf<|Wr λcd bi=>Rx 1 V (bi _ _<|Wsq<|Wn 2 V<|Ofd Z32 V<|Obx 0 Zg6 hs V<|Rn 1 V ?_));obtain ⟨a9,H⟩:=gd H;obtain ⟨cg,ch,bl,bm⟩:=g0_0.ix Zhd a9.1 a9.2;obtain ⟨_,⟨aq,rfl,ba⟩,bn⟩:=bl;refine O_y V (bm V V)<|Ofd Zdm V<|O_y V (Y5 Zcf V (hs.see (bn 2 _ V)))<|O_y V (Yk Ht ba V)<|Rx 1 V<|W.weak [(0,_),(1,_),(7,_),(36,_),(37,_),(38,_)] sbn<|Wbk<|Lp3 (λab ad aa=>[(0,Ll pb0),(1,Lk x1),(7,Lk ad),(36,aq),(37,Lk (((rd y0_0 x1).is_).length:Int)),(38,Lk aa)]) (λaf ab ad aa=>Zw.l1 af rec y0_0 y1 x1 ab ad aa) (λab ad aa w=>St w0 ρ ((.box pb0 191 ([w0_0,.map (some pm1),.map (some pm2)]))::(.obj pm1 (Qr (Hl.int Zdd).enc (vs (Value.int .i64) y1)))::(.obj pm2 (Qr (Hl.int un3).enc (vs (Value.int .i64) ab)))::Γ) w) (Zbb y2 x1 0) 0 0 sbn H hs λaf ab ad aa w H hs ai=>?_;rw [Zw.l1] at H;refine Wa 1 V<|Wsq<|gIV H V (λH=>?_) λH=>?_;refine Ze<|Wsq<|Wbk<|Wsq<|Zc ?_;obtain ⟨bb,H⟩:=gd H;obtain ⟨cs,ct,au,av⟩:=ba.ix Kv bb.1 bb.2;refine O_y V (av V V)<|O_y V (Y5 Qb V (hs.see au.int))<|Rx 1 V<|Wa 1 V<|Z8 λax ay am=>?_;have an (ac:List (Int×Int)) (ae:Int) w (H:Zw.j1 (Zw.l1 af rec y0_0 y1 x1) ad aa ac ae=some r) (hs:St w0 ρ ((.box pb0 191 ([w0_0,.map (some pm1),.map (some pm2)]))::(.obj pm1 (Qr (Hl.int Zdd).enc (vs (Value.int .i64) y1)))::(.obj pm2 (Qr (Hl.int un3).enc (vs (Value.int .i64) ac)))::Γ) w):ax [(0,Ll pb0),(1,Lk x1),(7,Lk ad),(10,Lk ae),(36,aq),(37,Lk (((rd y0_0 x1).is_).length:Int)),(38,Lk aa)] w:=by rw [Zw.j1] at H;refine ay _ _<|Wsq<|Wa 2 V<|gIV H V (λH=>?_) λH=>?_;refine Wa 1 V<|Zh ?_;cases H;exact r1 V ⟨V,hs⟩;refine Ze<|Zc<|Rx 4 V<|Zc<|Rx 2 V (ai ac (i64.wrap (ad+ae)) (i64.wrap (aa+1)) sbn H hs)
 refine Wr λbx a2=>Rn 2 V<|Ofd Zwt V<|Obx 0 Z5k hs V<|Rn 1 V<|O_y V (Zkm (i:=1) (m:=y1) (x:=rd ((rd y0_0 x1).is_) aa) (E:=(Value.int .i64)) Z5x (Hl.int Zdd) trivial (λ_ _=>trivial) zv3 hs V V V)<|Rx 5 V (a2 _ _<|W.weak [(0,_),(1,_),(7,_),(10,_),(11,_),(12,_),(36,_),(37,_),(38,_)] sbn<|Wa 1 V<|gJV H V (λH=>?_) λH=>?_);refine Zc<|Rn 2 V ?_;have hs:=hs.front 2 V;have hs:=hs.front 2 V;have hs:=hs.front 2 V;refine Rc H λag ao H=>Oc V (hrec hs g0_0 ao)<|Ra λw hs=>?_;have hs:=hs.sink 2;have hs:=hs.sink 2;have hs:=hs.sink 2;refine Rx 1 V (am _ _ _ sbn (an ag.2 ag.1 _ H hs));exact Ze (am _ _ _ sbn (an ab 1 _ H hs));refine We<|Wsq<|Wa 2 V<|gIV H V (λH=>?_) λH=>?_;refine Wa 1 V<|Zh ?_;cases H;exact r1 V ⟨V,hs⟩;refine Ze<|Wn 2 V<|Ofd Zq1 V<|Obx 0 Zz1 hs V<|Rn 2 V<|Ze2 (i:=2) (m:=ab) (x:=x1) (v:=ad) (E:=(Value.int .i64)) Z27 (Hl.int un3) trivial (λ_ _=>trivial) hs V V V V (λw hs=>Zf<|W.weak [(7,_)] (S1 V)<|Wsq<|Zc<|Rx 2 V<|Zh ?_);cases H;exact r1 V ⟨V,hs⟩
theorem Zw.c (k:Nat):Zw.Spec (Zw.f k):=by
 induction k with
 | zero=>intro w0 w ρ Γ pb0 w0_0 y0_0 pm1 y1 pm2 y2 hs x1 g0_0 r H;exact nomatch (show (none:Option _)=some _ from H)
 | succ k ih=>intro w0 w ρ Γ pb0 w0_0 y0_0 pm1 y1 pm2 y2 hs x1 g0_0 r H;exact Zw.cb (Zw.f k) ih hs g0_0 H
def Q3.j1 (an:(List (Vector Int 2×Bool))->(List (Int×Int))->Int->Option Int) (aa:Int) (ae:List (Vector Int 2×Bool)) (af:List (Int×Int)):Option Int:=an ae af (i64.wrap (aa+1))
def Q3.l1:Nat->List Chs->(List (Int×Int))->(List (Vector Int 2×Bool))->(List (Int×Int))->Int->Option Int
  | 0,_,_,_,_,_=>none
  | ah+1,x0,ab,ac,ag,aa=>if aa<(x0.length:Int) then (if (0:Int)<=aa/\aa<(x0.length:Int) then ((Zw.f K0 aa x0 ab ag).bind λaj=>(if aj.1=0 then (some aa) else (if (((rd x0 aa).is_).length:Int)=2 then (if (0:Int)<=0/\0<(((rd x0 aa).is_).length:Int) then (if (0:Int)<=1/\1<(((rd x0 aa).is_).length:Int) then (if ((U7 ac (#v[rd ((rd x0 aa).is_) 0,rd ((rd x0 aa).is_) 1])).getD false)=true then (some aa) else (Q3.j1 (Q3.l1 ah x0 ab) aa (Zbb ac (#v[rd ((rd x0 aa).is_) 0,rd ((rd x0 aa).is_) 1]) true) aj.2)) else none) else none) else (Q3.j1 (Q3.l1 ah x0 ab) aa ac aj.2)))) else none) else (some (-1))
def Q3.l2:Nat->List Chs->(List (Int×Int))->Int->Option Int
  | 0,_,_,_=>none
  | ai+1,x0,ab,ad=>if ad<(x0.length:Int) then (if (0:Int)<=ad/\ad<(x0.length:Int) then ((Q3.l2 ai x0) (Zbb ab ((rd x0 ad).lo) ad) (i64.wrap (ad+1))) else none) else (Q3.l1 K0 x0 ab ([]:List (Vector Int 2×Bool)) ([]:List (Int×Int)) 0)
def Q3.f (x0:List Chs):Option Int:=Q3.l2 K0 x0 ([]:List (Int×Int)) 0
theorem Q3.c (hs:St w0 ρ (Γ) w) (h0:SlR V1 ρ v0 x0) (H:Q3.f x0=some r):gK 85 [v0] w0 ρ Γ w (Lk r):=by
 rw [Q3.f] at H;refine Et func85 ntmps85 V<|Wa 1 V<|Wr λdj bz=>Rn 1 V<|Zao (Hl.int Zdd).enc (Value.int .i64) hs V (λak w hs=>Zao (Hl.int un3).enc (Value.int .i64) hs V (λal w hs=>O_y V (X4 (cs:=[v0,.map (some ak),.map (some al)]) Z8w Z77 ((Zp.cons V h0.cellsL (Zp.cons V V (Zp.cons V V Zp.nil)))) Z7r (by kernel_rfl))<|Kw (cs:=[v0,.map (some ak),.map (some al)]) hs V V (λam w hs=>Rx 1 V (bz _ _<|Wsq<|Wn 1 V<|O_y V (Yk Zi3 h0 V)<|Rx 1 V<|Wbk<|Lp2 (λab ad=>[(0,v0),(3,Ll am),(15,v0),(16,Lk (x0.length:Int)),(17,Lk ad)]) (λai ab ad=>Q3.l2 ai x0 ab ad) (λab ad w=>St w0 ρ ((.box am 191 ([v0,.map (some ak),.map (some al)]))::(.obj al (Qr (Hl.int un3).enc (vs (Value.int .i64) ([]:List (Int×Int)))))::(.obj ak (Qr (Hl.int Zdd).enc (vs (Value.int .i64) ab)))::Γ) w) ([]:List (Int×Int)) 0 sbn H hs λai ab ad w H hs aq=>?_))));rw [Q3.l2] at H;refine Wa 1 V<|Wsq<|gIV H V (λH=>?_) λH=>?_;refine Ze<|V2 λds b5=>Wbk<|Wn 1 V ?_;obtain ⟨bv,H⟩:=gd H;obtain ⟨dx,dy,b7,b8⟩:=h0.ix Zhd bv.1 bv.2;obtain ⟨_,⟨b9,rfl,ca⟩,cb⟩:=b7;refine O_y V (b8 V V)<|O_y V (Kg Zh6 Ze0 V V (λj u hu=>hs.see (cb j u hu)))<|Yn Zud hs V (λcc w hs=>Rn 1 V<|Z2 (i:=0) Ze0 hs V V V V V (Zb V (Zb V (Zb ca.one Z9))) (λw hs=>Zf<|Qz 8 [0,1,2,4,0,16,0,127] [124,120,112,112,79,79,63,0] [0,1,3,7,0,16,0,127] [7] (λw=>St w0 ρ ((.box cc 82 ([Lj ((rd x0 ad).lo),Lj ((rd x0 ad).hi),b9]))::(.box am 191 ([v0,.map (some ak),.map (some al)]))::(.obj al (Qr (Hl.int un3).enc (vs (Value.int .i64) ([]:List (Int×Int)))))::(.obj ak (Qr (Hl.int Zdd).enc (vs (Value.int .i64) ab)))::Γ) w) mixed (by kernel_rfl) (λsh=>?_)));have hs:=hs.drew;refine Fm 0 sh V<|Fp 1 sh V (λw=>V3 V)<|Fp 2 sh V (λw=>Zt Zwt V)<|Fy 3 sh V hs (λw hs=>Yb 1 Z5k hs V V V)<|Fp 4 sh V (λw=>Zt Zgl V)<|Fy 5 sh V hs (λw hs=>Yb 0 Qb hs V V V)<|Fm 6 sh V<|F1 7 sh V (λdz cd=>Ze2 (i:=3) (m:=ab) (x:=(rd x0 ad).lo) (v:=ad) (E:=(Value.int .i64)) Z5x (Hl.int Zdd) trivial (λ_ _=>trivial) hs V V V V (λw hs=>Zf (cd _ _ (λh _=>absurd h (by decide))<|FE sh (b5 _ _<|W.weak [(0,_),(3,_),(15,_),(16,_),(17,_)] sbn<|Zc<|Rx 2 V (aq (Zbb ab ((rd x0 ad).lo) ad) (i64.wrap (ad+1)) sbn H (hs.sub (ssk (ssc (ssc (ssc ssr))))))))));refine We<|Wq<|Zao Zcz.enc Value.bool hs V (λax w hs=>Rx 1 V<|Wsq<|Wn 1 V<|O_y V (Yk Zi3 h0 V)<|Rx 1 V<|Wbk<|Lp3 (λac ag aa=>[(3,Ll am),(6,.map (some ax)),(31,v0),(32,Lk (x0.length:Int)),(33,Lk aa)]) (λah ac ag aa=>Q3.l1 ah x0 ab ac ag aa) (λac ag aa w=>St w0 ρ ((.obj ax (Qr Zcz.enc (vs Value.bool ac)))::(.box am 191 ([v0,.map (some ak),.map (some al)]))::(.obj al (Qr (Hl.int un3).enc (vs (Value.int .i64) ag)))::(.obj ak (Qr (Hl.int Zdd).enc (vs (Value.int .i64) ab)))::Γ) w) ([]:List (Vector Int 2×Bool)) ([]:List (Int×Int)) 0 sbn H hs λah ac ag aa w H hs ao=>?_);rw [Q3.l1] at H;refine Wa 1 V<|Wsq<|gIV H V (λH=>?_) λH=>?_
 refine Ze<|Z8 λa8 a9 ay=>?_;have az (ae:List (Vector Int 2×Bool)) (af:List (Int×Int)) w (H:Q3.j1 (Q3.l1 ah x0 ab) aa ae af=some r) (hs:St w0 ρ ((.obj ax (Qr Zcz.enc (vs Value.bool ae)))::(.box am 191 ([v0,.map (some ak),.map (some al)]))::(.obj al (Qr (Hl.int un3).enc (vs (Value.int .i64) af)))::(.obj ak (Qr (Hl.int Zdd).enc (vs (Value.int .i64) ab)))::Γ) w):a8 [(3,Ll am),(6,.map (some ax)),(31,v0),(32,Lk (x0.length:Int)),(33,Lk aa)] w:=by rw [Q3.j1] at H;refine a9 _ _<|Zc<|Rx 2 V (ao ae af (i64.wrap (aa+1)) sbn H hs)
 refine Wbk<|Wn 1 V ?_;obtain ⟨a0,H⟩:=gd H;obtain ⟨cp,cq,bb,bc⟩:=h0.ix Zhd a0.1 a0.2;obtain ⟨_,⟨bd,rfl,ap⟩,be⟩:=bb;refine O_y V (bc V V)<|O_y V (Kg Zh6 Ze0 V V (λj u hu=>hs.see (be j u hu)))<|Yn Zud hs V (λbf w hs=>Rn 1 V<|Z2 (i:=0) Ze0 hs V V V V V (Zb V (Zb V (Zb ap.one Z9))) (λw hs=>Zf<|Wsq<|Wn 2 V ?_));have hs:=hs.front 3 V;have hs:=hs.front 4 V;have hs:=hs.front 4 V;refine Rc H λaj a1 H=>Oc V ((Zw.c K0) hs h0 a1)<|Ra λw hs=>?_;have hs:=hs.sink 4;have hs:=hs.sink 4;have hs:=hs.sink 3;refine Rx 1 V<|W.weak [(3,_),(6,_),(7,_),(8,_),(31,_),(32,_),(33,_),(41,_)] sbn<|gIV H V (λH=>Wa 2 V<|gR H V (hs.sub (ssk (ssk (ssk (ssk (ssk ssr))))))) λH=>Ze<|Wq<|Ofd Zdm V<|Obx 0 Zcf hs V<|O_y V (Yk Ht ap V)<|Rx 1 V<|gIV H V (λH=>?_) λH=>?_;refine V2 λcx bk=>Qz 11 [0,1,2,4,0,16,32,64,136,0,1023] [1020,1016,1008,752,975,911,783,527,512,511,0] [0,1,3,7,0,16,48,112,255,0,1023] [10] (λw=>St w0 ρ ((.box bf 82 ([Lj ((rd x0 aa).lo),Lj ((rd x0 aa).hi),bd]))::(.obj ax (Qr Zcz.enc (vs Value.bool ac)))::(.box am 191 ([v0,.map (some ak),.map (some al)]))::(.obj al (Qr (Hl.int un3).enc (vs (Value.int .i64) aj.2)))::(.obj ak (Qr (Hl.int Zdd).enc (vs (Value.int .i64) ab)))::Γ) w) mixed (by kernel_rfl) (λsh=>?_);have hs:=hs.drew;refine Fp 0 sh V (λw=>Zt Zdm V)<|Fy 1 sh V hs (λw hs=>Yb 0 Zcf hs V V V) ?_;obtain ⟨a2,H⟩:=gd H;obtain ⟨cy,cz,bl,bm⟩:=ap.ix Kv a2.1 a2.2;refine Fp 2 sh V (λw=>bm V V)<|Fy 3 sh V hs (λw hs=>Y5 Qb V (hs.see bl.int))<|Fp 4 sh V (λw=>Zt Zdm V)<|Fy 5 sh V hs (λw hs=>Yb 0 Zcf hs V V V) ?_;obtain ⟨a3,H⟩:=gd H;obtain ⟨da,db,bn,bo⟩:=ap.ix Kv a3.1 a3.2;refine Fp 6 sh V (λw=>bo V V)<|Fy 7 sh V hs (λw hs=>Y5 Qb V (hs.see bn.int))<|Fp 8 sh V (λw=>Zil (xs:=[.tmp 50,.tmp 54]) (zs:=vcs (Value.int .i32) #v[rd ((rd x0 aa).is_) 0,rd ((rd x0 aa).is_) 1]) Z5f Zkb Z7e V V V (Zgf V (Zgf V Zr2)) V)<|F1 9 sh V (λdc bp=>Yn Z9g hs V (λbw w hs=>Zf (bp _ _ (λ_ _=>(hs.sub (ssk (ssc (ssc (ssc (ssc (ssc ssr))))))))<|F1 10 sh V (λdd bq=>Ke (j:=0) (u:=#v[rd ((rd x0 aa).is_) 0,rd ((rd x0 aa).is_) 1]) Z7a (Q0 .i32) hs V V V (λw hs=>Zf (bq _ _ (λh _=>absurd h (by decide))<|FE sh (bk _ _<|W.weak [(3,_),(6,_),(7,_),(9,_),(31,_),(32,_),(33,_)] sbn<|Wsq<|Wn 1 V<|O_y V (K8 (j:=0) Z7x Z7a hs V V)<|O_y V (Zx4 (i:=2) (m:=ac) (x:=#v[rd ((rd x0 aa).is_) 0,rd ((rd x0 aa).is_) 1]) (E:=Value.bool) Z5y Zcz trivial (λ_ _=>trivial) zv4 hs V V V)<|Zf<|gJV H V (λH=>Wa 2 V<|gR H V (hs.sub (ssk (ssk (ssk (ssk (ssk (ssk ssr)))))))) λH=>?_)))))))
 refine Ze<|Zc<|Rn 1 V<|O_y V (K8 (j:=0) Z7x Z7a hs V V)<|Ze2 (i:=2) (m:=ac) (x:=#v[rd ((rd x0 aa).is_) 0,rd ((rd x0 aa).is_) 1]) (v:=true) (E:=Value.bool) Z5y Zcz trivial (λ_ _=>trivial) hs V V V V (λw hs=>Zf (ay _ _ _ sbn (az (Zbb ac (#v[rd ((rd x0 aa).is_) 0,rd ((rd x0 aa).is_) 1]) true) aj.2 _ H (hs.sub (ssk (ssk (ssc (ssc (ssc (ssc ssr))))))))));exact Ze (ay _ _ _ sbn (az ac aj.2 _ H (hs.sub (ssk (ssc (ssc (ssc (ssc ssr))))))));exact We<|Wa 1 V<|gR H V (hs.sub (ssk (ssk (ssk (ssk ssr)))))
def Zah.f (y0_0:List ByteArray) (y0_1:List Val) (y0_2:List Chs) (y0_3:List Val) (y0_4:List Chs) (y0_5:List Spn) (y0_6 y0_7:List Val) (y0_8:List Spn) (y0_9:List Val) (y0_10:List Chs):Option Int:=(Q3.f y0_4).bind λab=>(some ab)
theorem Zah.c (hs:St w0 ρ ((.box pb0 27 ([w0_0,w0_1,w0_2,w0_3,w0_4,w0_5,w0_6,w0_7,w0_8,w0_9,w0_10]))::Γ) w) (g0_0:SlR Rep.str ρ w0_0 y0_0) (g0_1:SlR Kc ρ w0_1 y0_1) (g0_2:SlR V1 ρ w0_2 y0_2) (g0_3:SlR Kc ρ w0_3 y0_3) (g0_4:SlR V1 ρ w0_4 y0_4) (g0_5:SlR Vd ρ w0_5 y0_5) (g0_6:SlR Kc ρ w0_6 y0_6) (g0_7:SlR Kc ρ w0_7 y0_7) (g0_8:SlR Vd ρ w0_8 y0_8) (g0_9:SlR Kc ρ w0_9 y0_9) (g0_10:SlR V1 ρ w0_10 y0_10) (H:Zah.f y0_0 y0_1 y0_2 y0_3 y0_4 y0_5 y0_6 y0_7 y0_8 y0_9 y0_10=some r):gK 84 [Ll pb0] w0 ρ ((.box pb0 27 ([w0_0,w0_1,w0_2,w0_3,w0_4,w0_5,w0_6,w0_7,w0_8,w0_9,w0_10]))::Γ) w (Lk r):=by
 refine Et func84 ntmps84 V<|Wa 1 V<|Wq<|Ofd Ziq V<|Obx 0 Zg6 hs V<|Rc H λab aa H=>Oc V (Q3.c hs g0_4 aa)<|Ra λw hs=>Rx 1 V<|gR H V hs
end
end Go.Proofs.YtamfohpmmklhpaaGreatDoor
