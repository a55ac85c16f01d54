/- Texts of this repo, merged for the claim: EngA, EngB, EngC, EngD, EngE, EngF, EngG, EngH, EngI, EngJ, EngK, EngL, EngM, EngN, EngO, EngP, EngQ, EngS, EngU, EngX, EngV, EngY, Facts, Shel. -/
import Derived.WalkKit
import Derived.Orders
import Derived.Laws.AppendOwnNone
import Derived.WideLaws
import Derived.WalkSpells
import Derived.MapKept
import Derived.Lib.ConvBytes
import Derived.ChangeKeysEq
import Derived.Laws.MakeOwn
import Derived.Laws.BytesString
import Derived.Laws.IdiomStrings
import Derived.Laws.Cover4
import Derived.Laws.IdiomCopy
import Derived.Lib.AppendZerosOnto
import Derived.Lib.Overlaps
import Derived.Laws.StructEq
import Derived.Room.Shelf.Join48
import Derived.Shelf.Strings.Split
import Derived.Shelf.Strings.Builder1
import Derived.Shelf.Strconv.Itoa3
import Derived.Test.YtkjnmjhkekknnaaGreatDoorProg
import Derived.KernelRfl
namespace Go.Proofs.YtkjnmjhkekknnaaGreatDoor
section
abbrev Ll (a:Nat):Value:=.pointer (some ⟨a,0,none⟩)
abbrev Lk (n:Int):Value:=.int .i64 n
abbrev Lj (n:Int):Value:=.int .i32 n
abbrev Lz:Value:=.slice none 0 0
theorem Z {α:Type} {c:Prop} [Decidable c] {a b x:Option α} {P Q R:Prop} (H:(if c then a else b)=x) (k:(c→P)→(¬c→Q)→R) (p:c→a=x→P) (q:¬c→b=x→Q):R:=k (fun h=>p h ((if_pos h).symm.trans H)) (fun h=>q h ((if_neg h).symm.trans H))
theorem Ra {α:Type} {c:Bool} {a b x:Option α} {P Q R:Prop} (H:(if c=true then a else b)=x) (k:(c=true→P)→(c=false→Q)→R) (p:c=true→a=x→P) (q:c=false→b=x→Q):R:=k (fun h=>p h ((if_pos h).symm.trans H)) (fun h=>q h ((if_neg (by rw [h];exact Bool.false_ne_true)).symm.trans H))
theorem V {V:Type} {α:Type} {X:V} {Q:α→Prop} {G:V→α→Prop} (k:∀ w,Q w→G X w):∀ v w,(v=X∧Q w)→G v w:=fun _ w h=>h.1▸k w h.2
theorem M {α β:Type} {o:Option α} {f:α→Option β} {b:β} {P:Prop} (H:o.bind f=some b) (k:∀ a,o=some a→f a=some b→P):P:=let ⟨a,x,y⟩:=Option.bind_eq_some_iff.1 H;k a x y
theorem G {α:Type} {p:Prop} [Decidable p] {x:Option α} {r:α} {P:Prop} (H:(if p then x else none)=some r) (k:p→x=some r→P):P:=if c:p then k c ((if_pos c).symm.trans H) else nomatch (if_neg c).symm.trans H
theorem U {α:Sort _} {a:α}:a=a:=Eq.refl a
end
section

abbrev Loc:=List (Nat×Value)

def lk (d:Nat):Loc->Option Value
 | []=>none
 | (e,v)::t=>bif Nat.beq e d then some v else lk d t

structure Sat (n:Nat) (L:Loc) (a:Act):Prop where
 size:a.tmps.size=n
 nod:a.defers=[]
 get:∀ d v,lk d L=some v->a.tmps.getD d undef=v

def ev (L:Loc):Operand->Option Value
 | .tmp t=>lk t L
 | .const v=>some v
 | .global g=>some (.pointer (some ⟨g,0,none⟩))
 | .func f=>some (.func (.func f) #[] #[])

def evs (L:Loc):List Operand->Option (List Value)
 | []=>some []
 | x::t=>match ev L x,evs L t with
  | some v,some vs=>some (v::vs)
  | _,_=>none

section
variable {n:Nat} {L:Loc} {a:Act}
theorem Sat.ev (h:Sat n L a) {x:Operand} {v:Value} (hx:ev L x=some v):a.eval x=v:=by
 cases x with
 | tmp t=>exact h.get t v hx
 | const c=>simpa [Go.Proofs.YtkjnmjhkekknnaaGreatDoor.ev,Act.eval] using hx
 | global g=>simpa [Go.Proofs.YtkjnmjhkekknnaaGreatDoor.ev,Act.eval] using hx
 | func f=>simpa [Go.Proofs.YtkjnmjhkekknnaaGreatDoor.ev,Act.eval] using hx
theorem Sat.evs (h:Sat n L a):∀ {xs:List Operand} {vs:List Value},evs L xs=some vs->xs.map a.eval=vs
 | [],vs,hx=>by simpa [Go.Proofs.YtkjnmjhkekknnaaGreatDoor.evs] using hx
 | x::t,vs,hx=>by
  simp only [Go.Proofs.YtkjnmjhkekknnaaGreatDoor.evs] at hx
  split at hx
  ·rename_i v vs' hv hvs
   simp only [Option.some.injEq] at hx
   subst hx
   rw [List.map_cons,h.ev hv,Sat.evs h hvs]
  ·cases hx
theorem Sat.put (h:Sat n L a) {d:Nat} (hd:Nat.blt d n=true) (v:Value):Sat n ((d,v)::L) (a.put (some d) v):=by
 have hlt:d<a.tmps.size:=by rw [h.size];exact Nat.le_of_ble_eq_true hd
 refine ⟨by simp [Act.put,h.size],h.nod,λe u he=>?_⟩;simp only [lk] at he;by_cases hde:d=e
 ·subst hde
  simp at he;simp [Act.put,hlt,he]
 ·have:Nat.beq d e=false:=by
   cases hb:Nat.beq d e with
   | false=>rfl
   | true=>exact absurd (Nat.eq_of_beq_eq_true hb) hde
  rw [this] at he
  have:=h.get e u he
  simpa [Act.put,Array.getElem?_setIfInBounds_ne hde] using this
theorem Sat.skip (h:Sat n L a):Sat n L a:=h
end

def Sub:Loc->Loc->Prop
 | [],_=>True
 | (d,v)::t,L=>lk d L=some v/\Sub t L

theorem Sub.lk {L:Loc}:∀ {L':Loc},Sub L' L->∀ d v,lk d L'=some v->lk d L=some v
 | [],_,_,_,h=>by simp [Go.Proofs.YtkjnmjhkekknnaaGreatDoor.lk] at h
 | (e,u)::t,hs,d,v,h=>by
  simp only [Go.Proofs.YtkjnmjhkekknnaaGreatDoor.lk] at h
  cases hb:Nat.beq e d with
  | true=>rw [hb] at h;simp at h;subst h;rw [<- Nat.eq_of_beq_eq_true hb];exact hs.1
  | false=>rw [hb] at h;exact hs.2.lk d v h
theorem Sat.weak {n:Nat} {L L':Loc} {a:Act} (h:Sat n L a) (hs:Sub L' L):Sat n L' a:=
 ⟨h.size,h.nod,λd v hd=>h.get d v (hs.lk d v hd)⟩

abbrev Nxt:=Loc->World->Prop

def Out (n:Nat) (N:Nxt) (X:Nat->Nxt) (R:Nxt):Exit->Act->World->Prop
 | .normal,a,w=>∃ L,Sat n L a/\N L w
 | .exit i,a,w=>∃ L,Sat n L a/\X i L w
 | .ret,a,w=>∃ L,Sat n L a/\R L w
 | _,_,_=>False

def W (P:Program) (n:Nat) (c:Code) (N:Nxt) (X:Nat->Nxt) (R:Nxt) (L:Loc) (w:World):Prop:=
 ∀ a,Sat n L a->c.wp P (Out n N X R) a w

section
variable {P:Program} {n:Nat} {N:Nxt} {X:Nat->Nxt} {R:Nxt} {L:Loc} {w:World}

theorem W.weak {c:Code} (L':Loc) (hs:Sub L' L) (h:W P n c N X R L' w):W P n c N X R L w:=λa ha=>h a (ha.weak hs)
theorem Xw (h:N L w):W P n .skip N X R L w:=λ_ ha=>wp_skip ⟨L,ha,h⟩
theorem Zv (h:R L w):W P n .ret N X R L w:=λ_ ha=>wp_ret ⟨L,ha,h⟩
theorem Y2 {i:Nat} (h:X i L w):W P n (.exit i) N X R L w:=λ_ ha=>wp_exit ⟨L,ha,h⟩
theorem Zn {x y:Code} (h:∀ N':Nxt,(∀ L w,W P n y N X R L w->N' L w)->W P n x N' X R L w):W P n (.seq x y) N X R L w:=by
 intro a ha;refine wp_seq (wp_mono (h (λL w=>W P n y N X R L w) (λ_ _ h=>h) a ha) ?_);intro e a' w' hq
 cases e with
 | normal=>obtain ⟨L',hs,hw⟩:=hq;exact hw a' hs
 | exit i=>exact hq
 | ret=>exact hq
 | goto l=>exact hq
 | panic c=>exact hq
 | outgrown=>exact hq
theorem Zu {i:Nat} {c:Code} (h:∀ X':Nat->Nxt,(∀ L w,N L w->X' i L w)->(∀ j L w,Nat.beq j i=false->X j L w->X' j L w)->W P n c N X' R L w):
  W P n (.block i c) N X R L w:=by
 intro a ha;refine wp_block (wp_mono (h (λj L w=>bif Nat.beq j i then N L w else X j L w) (λL w h=>by simp [h]) (λj L w hj h=>by simp [hj,h]) a ha) ?_);intro e a' w' hq
 cases e with
 | exit j=>
  obtain ⟨L',hs,hx⟩:=hq;simp only [Exit.inBlock];by_cases hj:j=i
  ·subst hj;simp at hx;rw [if_pos rfl];exact ⟨L',hs,hx⟩
  ·rw [if_neg hj]
   have:Nat.beq j i=false:=by
    cases hb:Nat.beq j i with
    | false=>rfl
    | true=>exact absurd (Nat.eq_of_beq_eq_true hb) hj
   rw [this] at hx;exact ⟨L',hs,hx⟩
 | normal=>exact hq
 | ret=>exact hq
 | goto l=>exact hq
 | panic c=>exact hq
 | outgrown=>exact hq
theorem Y5 {c:Operand} {x y:Code} {t:Bool} (hc:ev L c=some (.bool t)) (ht:t=true->W P n x N X R L w) (hf:t=false->W P n y N X R L w):
  W P n (.cond c x y) N X R L w:=λa ha=>wp_cond_split (ha.ev hc) (λh=>ht h a ha) (λh=>hf h a ha)
theorem Yu {c:Operand} {x y:Code} {p:Prop} [Decidable p] (hc:ev L c=some (.bool (decide p))) (ht:p->W P n x N X R L w) (hf:¬ p->W P n y N X R L w):
  W P n (.cond c x y) N X R L w:=Y5 hc (λh=>ht (of_decide_eq_true h)) (λh=>hf (of_decide_eq_false h))
theorem Xa {σ:Type} {c:Code} (F:σ->Loc) (I:σ->World->Prop) (μ:σ->Nat) (s0:σ) (hs:Sub (F s0) L) (h0:I s0 w)
  (round:∀ (s:σ) (w:World) (N':Nxt),I s w->(∀ (s':σ) (L':Loc) (w':World),Sub (F s') L'->I s' w'->μ s'<μ s->N' L' w')->W P n c N' X R (F s) w):
  W P n (.loop c) N X R L w:=by
 intro a ha b kk cs;have key:∀ (k:Nat) (s:σ) (w:World) (a:Act),μ s=k->I s w->Sat n (F s) a->
   ∃ e a' w',Out n N X R e a' w'/\Arrives P (lone (b.at a (.code c::.inLoop c::kk)) cs w) b kk cs e a' w':=by
  intro k
  induction k using Nat.strongRecOn with
  | _ k ih=>
   intro s w a hk hI hsat;obtain ⟨e,a',w',hq,harr⟩:=round s w (λL' w'=>∃ s',Sub (F s') L'/\I s' w'/\μ s'<μ s) hI (λs' L' w' h1 h2 h3=>⟨s',h1,h2,h3⟩) a hsat b (.inLoop c::kk) cs
   cases e with
   | normal=>
    obtain ⟨L',hs',s',hsub,hI',hlt⟩:=hq;obtain ⟨e₂,a₂,w₂,hq₂,harr₂⟩:=ih (μ s') (hk▸hlt) s' w' a' rfl hI' (hs'.weak hsub);exact ⟨e₂,a₂,w₂,hq₂,.of_steps (Steps.trans harr (.one step_inLoop)) harr₂⟩
   | exit i=>exact ⟨.exit i,a',w',hq,.pass (x:=.inLoop c) rfl (λ_ _=>.inl (by simp)) harr⟩
   | goto l=>exact hq.elim
   | ret=>exact ⟨.ret,a',w',hq,.pass (x:=.inLoop c) rfl (λ_ _=>.inl (by simp)) harr⟩
   | panic ch=>exact hq.elim
   | outgrown=>exact hq.elim
 obtain ⟨e,a',w',hq,harr⟩:=key _ s0 w a rfl h0 (ha.weak hs);exact ⟨e,a',w',hq,.of_steps (.one step_loop) harr⟩

def O (P:Program) (n:Nat) (ops:Array Oper) (rest:List Oper) (N:Nxt) (L:Loc) (w:World):Prop:=
 ∀ a,Sat n L a->wpList P ops (λe a' w'=>e=.normal/\∃ L',Sat n L' a'/\N L' w') rest a w

theorem Zg {id:Nat} {l:List Oper} (h:O P n l.toArray l N L w):W P n (.region id l.toArray false) N X R L w:=λa ha=>
 wp_mono (wp_region_lit (h a ha)) (λe a' w' hq=>by obtain ⟨rfl,hq⟩:=hq;exact hq)

variable {ops:Array Oper} {rest:List Oper} {d t:Nat} {pos:String} {aft:Array Edge}
theorem O.weak (L':Loc) (hs:Sub L' L) (h:O P n ops rest N L' w):O P n ops rest N L w:=λa ha=>h a (ha.weak hs)
theorem Zh (h:N L w):O P n ops [] N L w:=λa ha=>⟨rfl,L,ha,h⟩
theorem Zcq {op:Op} (hd:Nat.blt d n=true) (h:∀ a,Sat n L a->∃ v w',(execOp a.eval ⟨some d,op,t,pos,aft,none⟩).run P w=.ok (.value v) w'/\O P n ops rest N ((d,v)::L) w'):
  O P n ops (⟨some d,op,t,pos,aft,none⟩::rest) N L w:=by
 intro a ha;refine wpList_plain rfl λK hK=>?_;obtain ⟨v,w',hr,ho⟩:=h a ha;unfold Oper.wp;rw [hr,Oper.upon_value];exact hK _ _ (ho _ (ha.put hd v))
theorem Zc8 {op:Op} {v:Value} (hd:Nat.blt d n=true) (h:∀ a,Sat n L a->(execOp a.eval ⟨some d,op,t,pos,aft,none⟩).run P w=.ok (.value v) w) (k:O P n ops rest N ((d,v)::L) w):
  O P n ops (⟨some d,op,t,pos,aft,none⟩::rest) N L w:=Zcq hd λa ha=>⟨v,w,h a ha,k⟩
theorem Hw {op:Op} {w':World} (h:∀ a,Sat n L a->(execOp a.eval ⟨none,op,t,pos,aft,none⟩).run P w=.ok .skip w') (k:O P n ops rest N L w'):
  O P n ops (⟨none,op,t,pos,aft,none⟩::rest) N L w:=by
 intro a ha;refine wpList_plain rfl λK hK=>?_;unfold Oper.wp;rw [h a ha,Oper.upon_skip];exact hK _ _ (k _ ha)
theorem Zc9 {j:Nat} {b:Bool} {dst:Option Nat} {dj:Nat} {op:Op} (hj:(ops[j]?).bind (·.dst)=some dj) (hl:lk dj L=some (.bool b))
  (h:O P n ops (⟨dst,op,t,pos,aft,none⟩::rest) N L w):O P n ops (⟨dst,op,t,pos,aft,some (j,b)⟩::rest) N L w:=by
 intro a ha;have h1:=h a ha;have hy:yielded ops a.tmps j=some b:=by
  unfold yielded;rw [hj];have:=ha.get dj _ hl;simp only [Option.bind_some]
  cases hx:a.tmps[dj]? with
  | none=>simp [hx,undef] at this
  | some u=>simp [hx] at this;subst this;rfl
 unfold wpList at h1 ⊢;simp only [Region.wanted,if_true] at h1;simp only [Region.wanted,hy,BEq.rfl,if_true];exact h1
theorem Zd2 {j:Nat} {b c:Bool} {dj:Nat} {op:Op} (hj:(ops[j]?).bind (·.dst)=some dj) (hl:lk dj L=some (.bool c)) (hc:c=!b) (hd:Nat.blt d n=true)
  (h:O P n ops rest N ((d,undef)::L) w):O P n ops (⟨some d,op,t,pos,aft,some (j,b)⟩::rest) N L w:=by
 intro a ha;have hy:yielded ops a.tmps j=some c:=by
  unfold yielded;rw [hj];have:=ha.get dj _ hl;simp only [Option.bind_some]
  cases hx:a.tmps[dj]? with
  | none=>simp [hx,undef] at this
  | some u=>simp [hx] at this;subst this;rfl
 unfold wpList;simp only [Region.wanted,hy];have:(some c == some b)=false:=by subst hc;cases b<;>rfl
 rw [this];simp only [Bool.false_eq_true,if_false];exact h _ (ha.put hd undef)
theorem Xv {dj:Nat} {b:Bool} (hl:lk dj L=some (.bool b)) (ht:b=true->O P n ops rest N ((dj,.bool true)::L) w) (hf:b=false->O P n ops rest N ((dj,.bool false)::L) w):O P n ops rest N L w:=by
 intro a ha;have key:∀ c,b=c->Sat n ((dj,.bool c)::L) a:=λc hc=>⟨ha.size,ha.nod,λd v hv=>by
  simp only [lk] at hv
  cases hb:Nat.beq dj d with
  | true=>rw [hb] at hv;simp at hv;subst hv;rw [<- Nat.eq_of_beq_eq_true hb,<- hc];exact ha.get dj _ hl
  | false=>rw [hb] at hv;exact ha.get d v hv⟩
 cases b with
 | true=>exact ht rfl a (key true rfl)
 | false=>exact hf rfl a (key false rfl)
theorem X4 {dj:Nat} {p:Prop} [Decidable p] (hl:lk dj L=some (.bool (decide p))) (ht:p->O P n ops rest N ((dj,.bool true)::L) w) (hf:¬ p->O P n ops rest N ((dj,.bool false)::L) w):O P n ops rest N L w:=
 Xv hl (λh=>ht (of_decide_eq_true h)) (λh=>hf (of_decide_eq_false h))

def Q9 (P:Program) (f:FuncId):Prop:=∀ args w,(callFunc f args).run P w=.ok (.enter f args) w
theorem Xy {f:FuncId} {fn:Func} (hf:P.funcs[f]?=some fn) (hb:fn.body.isNone=false) (hn:(fn.name == "runtime.NumGoroutine")=false):Q9 P f:=by
 intro args w;have h1:¬ (fn.name == "runtime.NumGoroutine")=true:=by rw [hn];exact Bool.false_ne_true
 have h2:¬ fn.body.isNone=true:=by rw [hb];exact Bool.false_ne_true
 simp only [callFunc,program,bind_pure_comp,Sem.run_bind,Sem.run,Result.andThen,hf,if_neg h1,if_neg h2,Sem.run_pure]

def Zt (P:Program) (f:FuncId) (args:List Value) (w:World) (S:Value->World->Prop):Prop:=
 Q9 P f/\Calls P f args.toArray w (λe w'=>∃ v,e=.returned v/\S v w')
theorem Zt.mono {f:FuncId} {args:List Value} {S S':Value->World->Prop} (h:Zt P f args w S) (hs:∀ v w',S v w'->S' v w'):Zt P f args w S':=
 ⟨h.1,h.2.mono λ_ _ ⟨v,he,hv⟩=>⟨v,he,hs _ _ hv⟩⟩

theorem Zcp {f:FuncId} {xs:List Operand} {ts:Array TypeId} {vs:List Value} {S:Value->World->Prop} (hd:Nat.blt d n=true) (hx:evs L xs=some vs)
  (hc:Zt P f vs w S) (k:∀ v w',S v w'->O P n ops rest N ((d,v)::L) w'):
  O P n ops (⟨some d,.call { callee:=.value (.func f),args:=xs.toArray,argTypes:=ts },t,pos,aft,none⟩::rest) N L w:=by
 intro a ha;refine wpList_plain rfl λK hK=>?_;unfold Oper.wp;have hr:(execOp a.eval ⟨some d,.call { callee:=.value (.func f),args:=xs.toArray,argTypes:=ts },t,pos,aft,none⟩).run P w=.ok (.enter f vs.toArray) w:=by have:=ha.evs hx;simp [execOp,resolve,Act.eval,Deferred.ofValue,invoke,this,go_sem];exact hc.1 _ _
 rw [hr,Oper.upon_enter];refine hc.2.mono λe w' he=>?_;obtain ⟨v,rfl,hv⟩:=he;exact hK _ _ (k v w' hv _ (ha.put hd v))
def Qx:Nat->List Value->Loc
 | _,[]=>[]
 | i,v::t=>(i,v)::Qx (i+1) t
theorem Jn:∀ (vs:List Value) (i d:Nat) (v:Value),lk d (Qx i vs)=some v->i<=d/\vs[d-i]?=some v
 | [],i,d,v,h=>by simp [Qx,lk] at h
 | u::t,i,d,v,h=>by
  simp only [Qx,lk] at h
  cases hb:Nat.beq i d with
  | true=>rw [hb] at h;have:=Nat.eq_of_beq_eq_true hb;subst this;simp at h;simp [h]
  | false=>
   rw [hb] at h
   obtain ⟨h1,h2⟩:=Jn t (i+1) d v h
   refine ⟨by omega,?_⟩
   rw [show d-i=(d-(i+1))+1 from by omega,List.getElem?_cons_succ]
   exact h2

def Ret (P:Program) (n:Nat) (fn:Func) (S:Value->World->Prop):Nxt:=λL w=>∃ v,(∀ a,Sat n L a->(results fn a.tmps).run P w=.ok v w)/\S v w
theorem enter {f:FuncId} {fn:Func} {c:Code} {args:List Value} {S:Value->World->Prop} (hf:P.funcs[f]?=some fn) (hn:fn.ntmps=n) (hb:fn.body=some c)
  (hname:(fn.name == "runtime.NumGoroutine")=false) (hs:Nat.ble args.length n=true)
  (h:W P n c (Ret P n fn S) (λ_ _ _=>False) (Ret P n fn S) (Qx 0 args) w):
  Zt P f args w S:=by
 refine ⟨Xy hf (by rw [hb];rfl) hname,calls_of_wp hf hb (wp_mono (h { tmps:=args.toArray++Array.replicate (fn.ntmps-args.toArray.size) undef,defers:=[] } ⟨?_,rfl,?_⟩) ?_)⟩
 ·have:=Nat.le_of_ble_eq_true hs
  simp;omega
 ·intro d v hd
  obtain ⟨_,h2⟩:=Jn args 0 d v hd;obtain ⟨hlt,hv⟩:=List.getElem?_eq_some_iff.1 h2;simp only [Nat.sub_zero] at hlt hv;simp [Array.getElem?_append,hlt,hv]
 ·intro e a' w' hq
  cases e with
  | normal=>obtain ⟨L',hs',v,hr,hv⟩:=hq;exact ⟨hs'.nod,v,hr a' hs',v,rfl,hv⟩
  | ret=>obtain ⟨L',hs',v,hr,hv⟩:=hq;exact ⟨hs'.nod,v,hr a' hs',v,rfl,hv⟩
  | exit i=>obtain ⟨_,_,hx⟩:=hq;exact hx.elim
  | goto l=>exact hq.elim
  | panic ch=>exact hq.elim
  | outgrown=>exact hq.elim
theorem Zd5 {fn:Func} {S:Value->World->Prop} {t:Nat} {v:Value} (hr:fn.results=#[.tmp t]) (hl:lk t L=some v) (h:S v w):Ret P n fn S L w:=
 ⟨v,λa ha=>by rw [results_tmp hr,ha.get t v hl],h⟩
theorem Jq {fn:Func} {S:Value->World->Prop} {t u:Nat} {v x:Value} (hr:fn.results=#[.tmp t,.tmp u]) (hl:lk t L=some v) (hl2:lk u L=some x) (h:S (.tuple #[v,x]) w):
  Ret P n fn S L w:=
 ⟨_,λa ha=>by rw [results_tmp2 hr,ha.get t v hl,ha.get u x hl2],h⟩
theorem Zdv {fn:Func} {S:Value->World->Prop} {t u z:Nat} {v x y:Value} (hr:fn.results=#[.tmp t,.tmp u,.tmp z]) (hl:lk t L=some v) (hl2:lk u L=some x) (hl3:lk z L=some y) (h:S (.tuple #[v,x,y]) w):
  Ret P n fn S L w:=
 ⟨_,λa ha=>by rw [results_tmp3 hr,ha.get t v hl,ha.get u x hl2,ha.get z y hl3],h⟩
end
end
section
open Go.RowKit

abbrev Hp:=Addr->Option Value
def Ji (es:Array MapEntry) (n:Nat):Value:=.tuple (#[.int .i64 n]++(es.map λe=>.tuple #[e.key,e.val,.int .i64 e.born]))
def Hi (cs:Array Value) (T:TypeId) (fr:Nat×Nat):Value:=.agg #[.agg cs,.int .i64 (T:Nat),.int .i64 fr.1,.int .i64 fr.2]
def Jr (w:World) (a:Addr):Option Value:=
 match a.spot with
 | none=>w.cell? a
 | some _=>match w.heap[a.block]? with
  | some (.map es n)=>some (Ji es n)
  | some (.cells cs T fr)=>some (Hi cs T fr)
  | _=>none
theorem Kp {w w':World} {a:Addr} (h:w'.heap[a.block]?=w.heap[a.block]?):Jr w' a=Jr w a:=by
 unfold Jr;rw [World.cell?_of_block h,h]
theorem Zbx {w:World} {a:Addr} {v:Value} (h:Jr w a=some v):a.block<w.heap.size:=by
 unfold Jr at h;split at h
 ·exact World.block_lt_of_cell? w a h
 ·rcases Nat.lt_or_ge a.block w.heap.size with h' | h'
  ·exact h'
  ·simp [Array.getElem?_eq_none h'] at h
def Zcr (ρ:Hp) (w:World):Prop:=∀ a v,ρ a=some v->Jr w a=some v
def Le (ρ ρ':Hp):Prop:=∀ a v,ρ a=some v->ρ' a=some v
theorem Le.rfl' (ρ:Hp):Le ρ ρ:=λ_ _ h=>h
theorem Le.trans {a b c:Hp} (h:Le a b) (k:Le b c):Le a c:=λx v hx=>k x v (h x v hx)

inductive Yd where
 | box (b:Nat) (T:TypeId) (cs:List Value)
 | row (v:Value) (e:TypeId) (sz n:Nat) (cs:List Value)
 | obj (b:Nat) (o:Obj)
def Yd.blk:Yd->Option Nat
 | .box b _ _=>some b
 | .row v _ _ _ _=>v.ownBlock
 | .obj b _=>some b
def Yd.ok (w:World):Yd->Prop
 | .box b T cs=>w.heap[b]?=some (.cells cs.toArray T (0,0))
 | .row v e sz n cs=>w.ownsRow 0 e sz v n cs
 | .obj b o=>w.heap[b]?=some o/\(∀ c t f,o≠.cells c t f)

structure St (w0:World) (ρ:Hp) (Γ:List Yd) (w:World):Prop where
 below:Below w0.heap.size w0 w
 sees:Zcr ρ w
 ok:∀ it∈Γ,it.ok w
 nodup:(Γ.filterMap Yd.blk).Nodup
 base:∀ b∈Γ.filterMap Yd.blk,w0.heap.size<=b
 clean:∀ a v,ρ a=some v->a.block∉Γ.filterMap Yd.blk

theorem Yd.ok_lt {w:World} {it:Yd} (h:it.ok w) {b:Nat} (hb:it.blk=some b):b<w.heap.size:=by
 cases it with
 | box c T cs=>simp only [Yd.blk,Option.some.injEq] at hb;subst hb;exact (Array.getElem?_eq_some_iff.1 h).1
 | row v e sz n cs=>exact (World.ownsRow.lt h b hb).2
 | obj c o=>simp only [Yd.blk,Option.some.injEq] at hb;subst hb;exact (Array.getElem?_eq_some_iff.1 h.1).1
theorem Yd.ok_keep {w w':World} {it:Yd} (h:it.ok w) (hk:∀ b,it.blk=some b->w'.heap[b]?=w.heap[b]?):it.ok w':=by
 cases it with
 | box c T cs=>simp only [Yd.ok] at h ⊢;rw [hk c rfl];exact h
 | row v e sz n cs=>
  refine ⟨h.1,?_⟩
  rcases h.2 with hn | ⟨g,cap,cur,rfl,hb,hg,rest⟩
  ·exact .inl hn
  ·exact .inr ⟨g,cap,cur,rfl,hb,by rw [hk g rfl];exact hg,rest⟩
 | obj c o=>simp only [Yd.ok] at h ⊢;rw [hk c rfl];exact h
theorem Zcr.lt {ρ:Hp} {w:World} (h:Zcr ρ w) {a:Addr} {v:Value} (ha:ρ a=some v):a.block<w.heap.size:=Zbx (h a v ha)

theorem J0 {l:List Yd} (h:(l.filterMap Yd.blk).Nodup) {i:Nat} {it:Yd} (hi:l[i]?=some it) {b:Nat} (hb:it.blk=some b):
  ∀ j it',l[j]?=some it'->it'.blk=some b->j=i:=by
 induction l generalizing i with
 | nil=>simp at hi
 | cons x t ih=>
  intro j it' hj hb'
  cases hx:x.blk with
  | none=>
   rw [List.filterMap_cons,hx] at h
   cases i with
   | zero=>simp at hi;subst hi;rw [hx] at hb;cases hb
   | succ i=>
    cases j with
    | zero=>simp at hj;subst hj;rw [hx] at hb';cases hb'
    | succ j=>simp at hi hj;rw [ih h hi j it' hj hb']
  | some c=>
   rw [List.filterMap_cons,hx] at h;simp only [List.nodup_cons,List.mem_filterMap,not_exists,not_and] at h
   cases i with
   | zero=>
    simp at hi;subst hi;rw [hx] at hb;obtain rfl:=Option.some.inj hb
    cases j with
    | zero=>rfl
    | succ j=>simp at hj;exact absurd hb' (h.1 it' (List.mem_of_getElem? hj))
   | succ i=>
    simp at hi
    cases j with
    | zero=>
     simp at hj;subst hj;rw [hx] at hb';obtain rfl:=Option.some.inj hb';exact absurd hb (h.1 it (List.mem_of_getElem? hi))
    | succ j=>simp at hj;rw [ih h.2 hi j it' hj hb']

section
variable {w0 w w':World} {ρ ρ':Hp} {Γ:List Yd}

theorem St.refl (w:World):St w (Jr w) [] w:=⟨Below.refl _ _,λ_ _ h=>h,λ_ h=>by simp at h,by simp,λ_ h=>by simp at h,λ_ _ _=>by simp⟩
theorem St.lt (h:St w0 ρ Γ w) {b:Nat} (hb:b∈Γ.filterMap Yd.blk):b<w.heap.size:=by
 obtain ⟨it,hit,hbb⟩:=List.mem_filterMap.1 hb;exact Yd.ok_lt (h.ok it hit) hbb
theorem St.see (h:St w0 ρ Γ w) {b o:Nat} {v:Value} (hv:ρ ⟨b,o,none⟩=some v):w.cell? ⟨b,o,none⟩=some v:=h.sees _ _ hv
theorem St.drew (h:St w0 ρ Γ w):St w0 ρ Γ { w with drawn:=w.drawn+1 }:=⟨h.below.drew,h.sees,h.ok,h.nodup,h.base,h.clean⟩
theorem St.sub {Γ':List Yd} (h:St w0 ρ Γ w) (hs:Γ'.Sublist Γ):St w0 ρ Γ' w:=
 ⟨h.below,h.sees,λit hi=>h.ok it (hs.subset hi),(hs.filterMap _).nodup h.nodup,λb hb=>h.base b ((hs.filterMap _).subset hb),λa v ha hb=>h.clean a v ha ((hs.filterMap _).subset hb)⟩
theorem St.less (h:St w0 ρ Γ w) (hle:Le ρ' ρ):St w0 ρ' Γ w:=⟨h.below,λa v ha=>h.sees a v (hle a v ha),h.ok,h.nodup,h.base,λa v ha=>h.clean a v (hle a v ha)⟩
theorem St.keep (h:St w0 ρ Γ w) (hb:Below w0.heap.size w w') (hk:∀ b,b<w.heap.size->(b∈Γ.filterMap Yd.blk\/∃ a v,ρ a=some v/\a.block=b)->w'.heap[b]?=w.heap[b]?):St w0 ρ Γ w':=by
 refine ⟨h.below.trans hb,λa v ha=>?_,λit hi=>?_,h.nodup,h.base,h.clean⟩
 ·rw [Kp (hk a.block (h.sees.lt ha) (.inr ⟨a,v,ha,rfl⟩))];exact h.sees a v ha
 ·exact Yd.ok_keep (h.ok it hi) λb hb=>hk b (Yd.ok_lt (h.ok it hi) hb) (.inl (List.mem_filterMap.2 ⟨it,hi,hb⟩))

theorem St.push (h:St w0 ρ Γ w) (o:Obj) (it:Yd) (hb:it.blk=some w.heap.size) (hok:it.ok (w.alloc o)):St w0 ρ (it::Γ) (w.alloc o):=by
 have hsz:=h.below.size;have h1:St w0 ρ Γ (w.alloc o):=h.keep ((Below.refl _ _).alloc hsz o) (λb hlt _=>Below.heap_alloc w o b hlt);have hfresh:w.heap.size∉Γ.filterMap Yd.blk:=λhm=>Nat.lt_irrefl _ (h.lt hm);refine ⟨h1.below,h1.sees,?_,?_,?_,?_⟩
 ·intro i hi
  rcases List.mem_cons.1 hi with rfl | hi
  ·exact hok
  ·exact h1.ok i hi
 ·rw [List.filterMap_cons,hb]
  exact List.nodup_cons.2 ⟨hfresh,h.nodup⟩
 ·intro b hm
  rw [List.filterMap_cons,hb] at hm
  rcases List.mem_cons.1 hm with rfl | hm
  ·exact hsz
  ·exact h.base b hm
 ·intro a v ha hm
  rw [List.filterMap_cons,hb] at hm
  rcases List.mem_cons.1 hm with hm | hm
  ·have:=h.sees.lt ha;omega
  ·exact h.clean a v ha hm
theorem St.box (h:St w0 ρ Γ w) (T:TypeId) (cs:List Value):St w0 ρ (.box w.heap.size T cs::Γ) (w.alloc (.cells cs.toArray T)):=
 h.push _ _ rfl (heap_alloc_new w _)
theorem St.rowNil (h:St w0 ρ Γ w) (e:TypeId) (sz:Nat):St w0 ρ (.row (.slice none 0 0) e sz 0 []::Γ) w:=
 ⟨h.below,h.sees,λi hi=>by
  rcases List.mem_cons.1 hi with rfl | hi
  ·exact World.ownsRow_nil w 0 e sz
  ·exact h.ok i hi,h.nodup,h.base,h.clean⟩
theorem St.rowFull (h:St w0 ρ Γ w) (T:TypeId) (n sz:Nat) (cs:List Value) (hl:cs.length=n*sz) (hm:n<=maxLen):
  St w0 ρ (.row (.slice (some ⟨w.heap.size,0,none⟩) n n) T sz n cs::Γ) (w.alloc (.cells cs.toArray T)):=
 h.push _ _ rfl ⟨hl,.inr ⟨w.heap.size,n,cs.toArray,rfl,Nat.zero_le _,heap_alloc_new w _,Nat.le_refl _,hm,by simp [hl],by simp [<- hl]⟩⟩

theorem St.turn (h:St w0 ρ Γ w) {i:Nat} {it it':Yd} (hi:Γ[i]?=some it) (hb:Below w0.heap.size w w') (hk:∀ b,b<w.heap.size->it.blk≠some b->w'.heap[b]?=w.heap[b]?)
  (hok:it'.ok w') (hblk:it'.blk=it.blk\/∀ b,it'.blk=some b->w.heap.size<=b):St w0 ρ (Γ.set i it') w':=by
 have hap:=λ{b} (hbb:it.blk=some b)=>J0 h.nodup hi hbb;have hsz:=h.below.size;have hmem:it∈Γ:=List.mem_of_getElem? hi;have hlt:i<Γ.length:=(List.getElem?_eq_some_iff.1 hi).1;have hin:∀ b,b∈(Γ.set i it').filterMap Yd.blk->b∈Γ.filterMap Yd.blk\/(it'.blk=some b/\w.heap.size<=b):=by
  intro b hm;obtain ⟨x,hx,hxb⟩:=List.mem_filterMap.1 hm;obtain ⟨j,hj⟩:=List.getElem?_of_mem hx;rw [List.getElem?_set] at hj;split at hj
  ·simp at hj;subst hj
   ·rcases hblk with he | he
    ·exact .inl (List.mem_filterMap.2 ⟨it,hmem,by rw [<- he];exact hxb⟩)
    ·exact .inr ⟨hxb,he b hxb⟩
  ·exact .inl (List.mem_filterMap.2 ⟨x,List.mem_of_getElem? hj,hxb⟩)
 refine ⟨h.below.trans hb,?_,?_,?_,?_,?_⟩
 ·intro a v ha
  have hlt':=h.sees.lt ha;rw [Kp (hk a.block hlt' (λe=>h.clean a v ha (List.mem_filterMap.2 ⟨it,hmem,e⟩)))];exact h.sees a v ha
 ·intro x hx
  obtain ⟨j,hj⟩:=List.getElem?_of_mem hx;rw [List.getElem?_set] at hj;split at hj
  ·simp at hj;subst hj;exact hok
  ·rename_i hne
   have hx0:=h.ok x (List.mem_of_getElem? hj);refine Yd.ok_keep hx0 λb hbb=>hk b (Yd.ok_lt hx0 hbb) (λe=>hne (hap e j x hj hbb).symm)
 ·
  have key:∀ (l:List Yd) (i:Nat),l[i]?=some it->(l.filterMap Yd.blk).Nodup->(∀ b∈l.filterMap Yd.blk,b<w.heap.size)->((l.set i it').filterMap Yd.blk).Nodup:=by
   intro l
   induction l with
   | nil=>intro i hi;simp at hi
   | cons x t ih=>
    intro i hi hn hlt
    cases i with
    | zero=>
     simp at hi;subst hi;simp only [List.set_cons_zero]
     cases hx':it'.blk with
     | none=>
      rw [List.filterMap_cons,hx']
      cases hx:x.blk with
      | none=>rw [List.filterMap_cons,hx] at hn;exact hn
      | some c=>rw [List.filterMap_cons,hx] at hn;exact (List.nodup_cons.1 hn).2
     | some c=>
      rw [List.filterMap_cons,hx'];refine List.nodup_cons.2 ⟨?_,?_⟩
      ·rcases hblk with he | he
       ·rw [List.filterMap_cons,<- he,hx'] at hn;exact (List.nodup_cons.1 hn).1
       ·intro hm
        have:=hlt c (by
         cases hx:x.blk with
         | none=>rw [List.filterMap_cons,hx];exact hm
         | some _=>rw [List.filterMap_cons,hx];exact List.mem_cons_of_mem _ hm)
        have:=he c hx';omega
      ·cases hx:x.blk with
       | none=>rw [List.filterMap_cons,hx] at hn;exact hn
       | some d=>rw [List.filterMap_cons,hx] at hn;exact (List.nodup_cons.1 hn).2
    | succ i=>
     simp at hi;simp only [List.set_cons_succ]
     cases hx:x.blk with
     | none=>
      rw [List.filterMap_cons,hx] at hn hlt ⊢;exact ih i hi hn hlt
     | some c=>
      rw [List.filterMap_cons,hx] at hn hlt ⊢;obtain ⟨h1,h2⟩:=List.nodup_cons.1 hn;refine List.nodup_cons.2 ⟨?_,ih i hi h2 (λb hb=>hlt b (List.mem_cons_of_mem _ hb))⟩;intro hm;obtain ⟨y,hy,hyb⟩:=List.mem_filterMap.1 hm
      rcases List.mem_or_eq_of_mem_set hy with hy | rfl
      ·exact h1 (List.mem_filterMap.2 ⟨y,hy,hyb⟩)
      ·rcases hblk with he | he
       ·exact h1 (List.mem_filterMap.2 ⟨it,List.mem_of_getElem? hi,by rw [<- he];exact hyb⟩)
       ·have:=he c hyb
        have:=hlt c (List.mem_cons_self ..);omega
  exact key Γ i hi h.nodup (λb hb=>h.lt hb)
 ·intro b hm
  rcases hin b hm with hm | ⟨_,hm⟩
  ·exact h.base b hm
  ·omega
 ·intro a v ha hm
  rcases hin _ hm with hm | ⟨_,hm⟩
  ·exact h.clean a v ha hm
  ·have:=h.sees.lt ha;omega

theorem St.boxCell (h:St w0 ρ Γ w) {i b T k:Nat} {cs:List Value} {v:Value} (hi:Γ[i]?=some (.box b T cs)) (hk:cs[k]?=some v):w.cell? ⟨b,k,none⟩=some v:=by
 have:=h.ok _ (List.mem_of_getElem? hi);simp only [Yd.ok] at this;rw [cell_of_row w b k _ _ _ this];simpa using hk
theorem St.boxFree (h:St w0 ρ Γ w) {i b T k:Nat} {cs:List Value} (hi:Γ[i]?=some (.box b T cs)):w.frozen? ⟨b,k,none⟩=false:=by
 have:=h.ok _ (List.mem_of_getElem? hi);simp only [Yd.ok] at this;simp [World.frozen?,this]
theorem St.boxSet (h:St w0 ρ Γ w) {i b T k:Nat} {cs:List Value} (hi:Γ[i]?=some (.box b T cs)) (v:Value):St w0 ρ (Γ.set i (.box b T (cs.set k v))) (w.setCell ⟨b,k,none⟩ v):=by
 have hok:=h.ok _ (List.mem_of_getElem? hi);simp only [Yd.ok] at hok;have hbase:=h.base b (List.mem_filterMap.2 ⟨_,List.mem_of_getElem? hi,rfl⟩);refine h.turn hi ((Below.refl _ _).setCell (p:=⟨b,k,none⟩) hbase v) (λc _ hc=>Below.heap_setCell _ _ _ _ (λe=>hc (by rw [e];rfl))) ?_ (.inl rfl);simp only [Yd.ok,World.setCell,Array.getElem?_modify,hok];simp
structure Src (w:World) (sz:Nat) (v:Value) (m:Nat) (cs:List Value):Prop where
 shape:∃ a c,v=.slice a m c/\(a=none->m=0)/\∀ ad,a=some ad->∀ j u,cs[j]?=some u->w.cell? (ad.add j)=some u
 len:cs.length=m*sz
 one:∀ u∈cs,u.oneCell'=true
end

structure Y9 (P:Program) (t e sz bytes:Nat):Prop where
 under:P.underlying t=some (.slice e)
 info:∃ i z,P.info? e=some i/\i.zero=some z/\i.size=sz/\i.bytes=bytes/\z.cells.size=sz
 pos:0<sz
 small:bytes<=256
theorem Qh {P:Program} {t e sz bytes:Nat} (h1:P.underlying t=some (.slice e)) (h2:(P.info? e).map (λi=>(i.zero.map (·.cells.size),i.size,i.bytes))=some (some sz,sz,bytes)) (h3:Nat.blt 0 sz=true) (h4:Nat.ble bytes 256=true):Y9 P t e sz bytes:=by
 obtain ⟨i,hi,hz⟩:=Option.map_eq_some_iff.1 h2;simp only [Prod.mk.injEq] at hz;obtain ⟨hz1,hz2,hz3⟩:=hz;obtain ⟨z,hz,hzs⟩:=Option.map_eq_some_iff.1 hz1;exact ⟨h1,⟨i,z,hi,hz,hz2,hz3,hzs⟩,Nat.le_of_ble_eq_true h3,Nat.le_of_ble_eq_true h4⟩

def most:Nat:=2199023255552
def G0 (lim bytes:Nat):Bool:=Nat.ble lim 2199023255552&&Nat.ble (lim*bytes) 140737488355328
theorem Uv {lim bytes n:Nat} (hl:G0 lim bytes=true) (h:n<=lim):n<=2199023255552/\n*bytes<=140737488355328:=by
 rw [G0,Bool.and_eq_true] at hl;exact ⟨Nat.le_trans h (Nat.le_of_ble_eq_true hl.1),Nat.le_trans (Nat.mul_le_mul_right bytes h) (Nat.le_of_ble_eq_true hl.2)⟩

theorem Gd {P:Program} {w0 w:World} {ρ:Hp} {Γ:List Yd} (hs:St w0 ρ Γ w) {t e sz bytes ty:Nat} (he:Y9 P t e sz bytes) {i n m:Nat} {v x:Value} {cs news:List Value}
  (hi:Γ[i]?=some (.row v e sz n cs)) (hx:Src w sz x m news) {lim:Nat} (hb:n+m<=lim) (hl:G0 lim bytes=true):
  ∃ v' w',(Builtin.append_ #[t,t] ty #[v,x]).run P w=.ok v' w'/\St w0 ρ (Γ.set i (.row v' e sz (n+m) (cs++news))) w':=by
 obtain ⟨j,z,hj,hz,hsz,hby,hzs⟩:=he.info;obtain ⟨a,c,rfl,hnone,hcell⟩:=hx.shape;have hown:=hs.ok _ (List.mem_of_getElem? hi);simp only [Yd.ok] at hown;have hle:=(Uv hl hb).1;have hm:n+m<=maxLen:=by simp only [maxLen];omega
 have h63:n+m<=9223372036854775807:=by omega
 have hbytes:(n+m)*bytes<=140737488355328:=(Uv hl hb).2;have hbase:∀ b,v.ownBlock=some b->w0.heap.size<=b:=λb hv=>hs.base b (List.mem_filterMap.2 ⟨_,List.mem_of_getElem? hi,hv⟩)
 cases a with
 | none=>
  obtain rfl:=hnone rfl;have hn:news=[]:=List.eq_nil_of_length_eq_zero (by simpa using hx.len);subst hn;have hc:c=0\/c≠0:=by omega
  refine ⟨v,w,?_,?_⟩
  ·rcases hown.2 with ⟨rfl,rfl⟩ | ⟨g,cap,cur,rfl,_,hg,hnc,_,hcs,_⟩
   ·simp [Builtin.append_,run_underlying he.under,sizeOf,typeInfo,hj,Builtin.lenOf,Builtin.firstCells]
   ·simp [Builtin.append_,run_underlying he.under,sizeOf,typeInfo,hj,Builtin.lenOf,Builtin.firstCells,hnc,storeCells]
  ·simp only [Nat.add_zero,List.append_nil]
   exact hs.turn hi (Below.refl _ _) (λ_ _ _=>rfl) hown (.inl rfl)
 | some ad=>
  obtain ⟨v',w',hr,ho,hg,hnn⟩:=run_append_own (P:=P) w 0 t ty e j z sz bytes he.under hj hz hsz hby hzs he.pos v n cs hown ad m c news hx.len (hcell ad rfl) hx.one hm hbytes (Nat.zero_le _);refine ⟨v',w',hr,?_⟩;have hblk:(Yd.row v' e sz (n+m) (cs++news)).blk=(Yd.row v e sz n cs).blk\/∀ b,(Yd.row v' e sz (n+m) (cs++news)).blk=some b->w.heap.size<=b:=by
   by_cases hlt:∃ b,v'.ownBlock=some b/\b<w.heap.size
   ·obtain ⟨b,hb',hlt⟩:=hlt
    left;simp only [Yd.blk];rw [hb']
    rcases hown.2 with ⟨rfl,rfl⟩ | ⟨g,cap,cur,rfl,_,hgg,hnc,hcm,hcs,htk⟩
    ·by_cases hm0:m=0
     ·subst hm0
      have hnil:news=[]:=List.eq_nil_of_length_eq_zero (by simpa using hx.len);subst hnil;have:v'=.slice none 0 0:=hnn.2 ⟨rfl,rfl⟩;subst this;cases hb'
     ·have hr2:=run_append_nil (P:=P) w t ty e j z he.under hj hz ad m c news (by rw [hsz];exact hx.len) (hcell ad rfl) (by omega) (by omega) (by rw [hby];have hb:=hbytes;simp only [Nat.zero_add] at hb;omega)
      rw [hr2] at hr;simp only [Result.ok.injEq] at hr;obtain ⟨rfl,rfl⟩:=hr;simp only [Value.ownBlock,Option.some.injEq] at hb';omega
    ·by_cases hroom:n+m<=cap
     ·have hr2:=run_append_room (P:=P) w t ty e j he.under hj g n cap cur hgg ad m c news (by rw [hsz];exact hx.len) (hcell ad rfl) hx.one hroom (by rw [hx.len,hcs,hsz,<- Nat.add_mul];exact Nat.mul_le_mul_right _ hroom)
      rw [hr2] at hr;simp only [Result.ok.injEq] at hr;obtain ⟨rfl,rfl⟩:=hr;simpa [Value.ownBlock] using hb'.symm
     ·have holds:∀ j u,cs[j]?=some u->w.cell? ((⟨g,0,none⟩:Addr).add j)=some u:=hown.cells (g:=g) rfl
      have hr2:=run_append_grow (P:=P) w t ty e j z he.under hj hz ⟨g,0,none⟩ n cap cs (by rw [hsz];exact hown.1) holds ad m c news (by rw [hsz];exact hx.len) (hcell ad rfl) (by omega) (by omega) (by rw [hby];exact growslice_fits (by omega) hbytes);rw [hr2] at hr;simp only [Result.ok.injEq] at hr;obtain ⟨rfl,rfl⟩:=hr;simp only [Value.ownBlock,Option.some.injEq] at hb';omega
   ·right
    intro b hb';simp only [Yd.blk] at hb'
    rcases Nat.lt_or_ge b w.heap.size with h | h
    ·exact absurd ⟨b,hb',h⟩ hlt
    ·exact h
  refine hs.turn hi ((Below.refl _ _).grown hg hs.below.size hbase) (λb hlt hne=>hg.block b hlt (λe=>hne (by simp only [Yd.blk];exact e.symm))) ho hblk
end
section
open Go.RowKit
section
variable {P:Program} {n:Nat} {N:Nxt} {L:Loc} {w:World} {ops:Array Oper} {rest:List Oper} {d t:Nat} {pos:String} {aft:Array Edge}

def Y (P:Program) (n:Nat) (L:Loc) (w:World) (op:Op) (t:TypeId) (v:Value):Prop:=
 ∀ a,Sat n L a->∀ dst pos aft g,(execOp a.eval ⟨dst,op,t,pos,aft,g⟩).run P w=.ok (.value v) w
theorem O_y {op:Op} {v:Value} (hd:Nat.blt d n=true) (hy:Y P n L w op t v) (k:O P n ops rest N ((d,v)::L) w):O P n ops (⟨some d,op,t,pos,aft,none⟩::rest) N L w:=
 Zc8 hd (λa ha=>hy a ha _ _ _ _) k
theorem Xi {x:Operand} {v:Value} (hx:ev L x=some v):Y P n L w (.move x) t (v):=
 λa ha _ _ _ _=>by simp [execOp,ha.ev hx]
theorem Yz {x:Operand} {v:Value} (hx:ev L x=some v):Y P n L w (.assign x) t (v):=
 λa ha _ _ _ _=>by simp [execOp,ha.ev hx]
theorem Y6 {c x y:Operand} {v:Value} (hc:ev L c=some (.bool true)) (hx:ev L x=some v):Y P n L w (.pick c x y) t (v):=
 λa ha _ _ _ _=>by simp [execOp,ha.ev hx,ha.ev hc,asBool]
theorem Yw {c x y:Operand} {v:Value} (hc:ev L c=some (.bool false)) (hx:ev L y=some v):Y P n L w (.pick c x y) t (v):=
 λa ha _ _ _ _=>by simp [execOp,ha.ev hx,ha.ev hc,asBool]

section
variable {xt yt:TypeId} {x y:Operand} {k:IntKind} {p q:Int}
theorem Hr (op:BinOp) (hop:op≠.shl/\op≠.shr) (a b:Int):(do eqGuard op xt x y (.int k a) (.int k b);binOp op xt (.int k a) (.int k b):Sem Value).run P w=
  (match op with
  | .add | .sub | .mul=>Op.intArith op k a b
  | .quo | .rem=>Op.intDiv op k a b
  | .and | .or | .xor | .andNot=>Op.intBits op k a b
  | _=>Op.intCmp op a b:Sem Value).run P w:=by
 cases op<;>first | exact absurd rfl hop.1 | exact absurd rfl hop.2 | simp [eqGuard,binOp]
theorem Qu {op:BinOp} {v:Value} (hop:op≠.shl/\op≠.shr) (hx:ev L x=some (.int k p)) (hy:ev L y=some (.int k q))
  (hr:∀ w:World,(match op with
  | .add | .sub | .mul=>Op.intArith op k p q
  | .quo | .rem=>Op.intDiv op k p q
  | .and | .or | .xor | .andNot=>Op.intBits op k p q
  | _=>Op.intCmp op p q:Sem Value).run P w=.ok v w)
  : Y P n L w (.binOp op xt x y yt) t (v):=
 λa ha _ _ _ _=>by
  have h1:=Hr (P:=P) (w:=w) (xt:=xt) (x:=x) (y:=y) (k:=k) op hop p q
  rw [hr] at h1
  simp only [execOp,ha.ev hx,ha.ev hy,bind_pure_comp,Sem.run_map]
  rw [h1];rfl
theorem Zdb (hx:ev L x=some (.int k p)) (hy:ev L y=some (.int k q)):Y P n L w (.binOp .add xt x y yt) t (.int k (k.wrap (p+q))):=
 Qu (by decide) hx hy (λ_=>rfl)
theorem Gk (hx:ev L x=some (.int k p)) (hy:ev L y=some (.int k q)):Y P n L w (.binOp .sub xt x y yt) t (.int k (k.wrap (p-q))):=
 Qu (by decide) hx hy (λ_=>rfl)
theorem Zdf (hx:ev L x=some (.int k p)) (hy:ev L y=some (.int k q)):Y P n L w (.binOp .mul xt x y yt) t (.int k (k.wrap (p*q))):=
 Qu (by decide) hx hy (λ_=>rfl)
theorem Vv (hx:ev L x=some (.int k p)) (hy:ev L y=some (.int k q)) (hq:q≠0):Y P n L w (.binOp .quo xt x y yt) t (.int k (k.wrap (p.tdiv q))):=
 Qu (by decide) hx hy (λ_=>by simp [Op.intDiv,hq])
theorem Jy (hx:ev L x=some (.int k p)) (hy:ev L y=some (.int k q)) (hq:q≠0):Y P n L w (.binOp .rem xt x y yt) t (.int k (p.tmod q)):=
 Qu (by decide) hx hy (λ_=>by simp [Op.intDiv,hq])
theorem Zcc (hx:ev L x=some (.int k p)) (hy:ev L y=some (.int k q)):Y P n L w (.binOp .eql xt x y yt) t (.bool (decide (p=q))):=
 Qu (by decide) hx hy (λ_=>rfl)
theorem Zdg (hx:ev L x=some (.int k p)) (hy:ev L y=some (.int k q)):Y P n L w (.binOp .neq xt x y yt) t (.bool (decide (p≠q))):=
 Qu (by decide) hx hy (λ_=>by simp only [Op.intCmp,Sem.run_pure];by_cases e:p=q<;>simp [e,bne])
theorem Zde (hx:ev L x=some (.int k p)) (hy:ev L y=some (.int k q)):Y P n L w (.binOp .lss xt x y yt) t (.bool (decide (p<q))):=
 Qu (by decide) hx hy (λ_=>rfl)
theorem Zdd (hx:ev L x=some (.int k p)) (hy:ev L y=some (.int k q)):Y P n L w (.binOp .leq xt x y yt) t (.bool (decide (p<=q))):=
 Qu (by decide) hx hy (λ_=>rfl)
theorem Zcd (hx:ev L x=some (.int k p)) (hy:ev L y=some (.int k q)):Y P n L w (.binOp .gtr xt x y yt) t (.bool (decide (q<p))):=
 Qu (by decide) hx hy (λ_=>rfl)
theorem Zdc (hx:ev L x=some (.int k p)) (hy:ev L y=some (.int k q)):Y P n L w (.binOp .geq xt x y yt) t (.bool (decide (q<=p))):=
 Qu (by decide) hx hy (λ_=>rfl)
theorem Hc {yk:IntKind} (hx:ev L x=some (.int k p)) (hy:ev L y=some (.int yk q)) (hq:0<=q):Y P n L w (.binOp .shr xt x y yt) t (.int k (p.fdiv (2^(min q.toNat k.bits)))):=
 λa ha _ _ _ _=>by
  simp only [execOp,ha.ev hx,ha.ev hy,bind_pure_comp,Sem.run_map,eqGuard,binOp,Sem.run_bind,Op.shift]
  simp [show ¬ q<0 from by omega]
theorem Zdi {yk:IntKind} (hx:ev L x=some (.int k p)) (hy:ev L y=some (.int yk q)) (hq:0<=q):Y P n L w (.binOp .shl xt x y yt) t (.int k (k.wrap (p*2^(min q.toNat k.bits)))):=
 λa ha _ _ _ _=>by
  simp only [execOp,ha.ev hx,ha.ev hy,bind_pure_comp,Sem.run_map,eqGuard,binOp,Sem.run_bind,Op.shift]
  simp [show ¬ q<0 from by omega]
theorem Zce {b:Bool} (hx:ev L x=some (.bool b)):Y P n L w (.unOp .not xt x) t (.bool (!b)):=
 λa ha _ _ _ _=>by simp only [execOp,ha.ev hx,Op.unary];rfl
theorem Xh {src dst:TypeId} {k':IntKind} {td:TypeDesc} (hs:P.underlying src=some td) (ht:P.underlying dst=some (.int k')) (hx:ev L x=some (.int k p)):Y P n L w (.convert src dst x) t (.int k' (k'.wrap p)):=
 λa ha _ _ _ _=>by simp [execOp,ha.ev hx,convert,run_underlying hs,run_underlying ht,Conv.intToInt]
end

section
variable {xt yt:TypeId} {x y:Operand}
theorem Vu {op:BinOp} {u v r:Value} (hx:ev L x=some u) (hy:ev L y=some v) (hg:(eqGuard op xt x y u v).run P w=.ok () w) (hr:(binOp op xt u v).run P w=.ok r w):Y P n L w (.binOp op xt x y yt) t (r):=
 λc hc _ _ _ _=>by
  simp only [execOp,hc.ev hx,hc.ev hy,bind_pure_comp,Sem.run_map,Sem.run_bind,hg,hr,Result.andThen]
theorem Jp (bs:ByteArray):∀ (k i:Nat) (r:List UInt8),bs.size-i=k->ByteArray.toList.loop bs i r=r.reverse++bs.data.toList.drop i
 | 0,i,r,h=>by
  rw [ByteArray.toList.loop,if_neg (by omega),List.drop_of_length_le (by simp;have:bs.size=bs.data.size:=rfl;omega),List.append_nil]
 | k+1,i,r,h=>by
  have hlt:i<bs.size:=by omega
  have hlt':i<bs.data.toList.length:=by simpa using hlt
  rw [ByteArray.toList.loop,if_pos hlt,Jp bs k (i+1) _ (by omega),List.reverse_cons,List.append_assoc,List.drop_eq_getElem_cons hlt']
  have hg:bs.get! i=bs.data.toList[i]:=by
   have:i<bs.data.size:=hlt;simp [ByteArray.get!,getElem!_pos bs.data i this]
  rw [hg];rfl
theorem K3 (bs:ByteArray):bs.toList=bs.data.toList:=by
 have:=Jp bs (bs.size) 0 [] (by omega);simpa [ByteArray.toList] using this
theorem J2 (a b:ByteArray):(a.toList == b.toList)=decide (a=b):=by
 rw [K3,K3];by_cases e:a=b
 ·subst e;simp
 ·have:¬ a.data=b.data:=λh=>e (by cases a;cases b;simp at h;simp [h])
  simp [e,this]
theorem Q0 {a b:ByteArray} (hx:ev L x=some (.string a)) (hy:ev L y=some (.string b)):Y P n L w (.binOp .eql xt x y yt) t (.bool (decide (a=b))):=
 Vu hx hy rfl (by
  simp only [binOp,Op.stringOp,Sem.run_pure,J2])
theorem Kt {a b:ByteArray} (hx:ev L x=some (.string a)) (hy:ev L y=some (.string b)):Y P n L w (.binOp .neq xt x y yt) t (.bool (decide (a≠b))):=
 Vu hx hy rfl (by
  simp only [binOp,Op.stringOp,Sem.run_pure,J2]
  by_cases e:a=b<;>simp [e])
theorem Vf (ht:P.underlying xt=some .bool) (a b:Bool):(Op.equal xt (.bool a) (.bool b)).run P w=.ok (a == b) w:=by
 show (Op.equalIn (9999+1) xt (.bool a) (.bool b)).run P w=_;unfold Op.equalIn;simp only [Sem.run_bind,run_underlying ht,Result.andThen,Sem.run_pure]
theorem Ks {a b:Bool} (ht:P.underlying xt=some .bool) (hx:ev L x=some (.bool a)) (hy:ev L y=some (.bool b)):Y P n L w (.binOp .neq xt x y yt) t (.bool (a != b)):=
 Vu hx hy rfl (by simp only [binOp,Sem.run_bind,Vf ht,Result.andThen,Sem.run_pure];rfl)
theorem Gw {tu:Operand} {i:Nat} {vs:Array Value} {v:Value} (hx:ev L tu=some (.tuple vs)) (hi:vs[i]?=some v):Y P n L w (.extract tu i) t (v):=
 λa ha _ _ _ _=>by simp [execOp,ha.ev hx,Instr.extract,hi]
def Xb (P:Program) (s i:Nat):Option Nat:=
 match P.underlying s with
 | some (.struct fs)=>(fs[i]?).bind λf=>(P.info? f.type).bind λinf=>if inf.size=0 then none else some f.offset
 | _=>none
theorem Qg {s i off b o:Nat} (hf:Xb P s i=some off) (hx:ev L x=some (.pointer (some ⟨b,o,none⟩))):Y P n L w (.fieldAddr s x i) t (.pointer (some ⟨b,o+off,none⟩)):=
 λc hc _ _ _ _=>by
  unfold Xb at hf
  split at hf
  ·rename_i fs hfs
   cases h1:fs[i]? with
   | none=>rw [h1] at hf;cases hf
   | some f=>
    rw [h1] at hf
    simp only [Option.bind_some] at hf
    cases h2:P.info? f.type with
    | none=>rw [h2] at hf;cases hf
    | some inf=>
     rw [h2] at hf
     simp only [Option.bind_some] at hf
     split at hf
     ·cases hf
     ·rename_i hne
      simp only [Option.some.injEq] at hf
      subst hf
      simp [execOp,hc.ev hx,Instr.fieldAt,run_underlying hfs,h1,Instr.sureAddr,fieldPlace,sizeOf,typeInfo,h2,hne,Addr.add_lit]
  ·cases hf

def Z4 (P:Program) (t:Nat):Option Bool:=(P.underlying t).map λ| .struct _ | .array _ _=>true | _=>false
theorem Ze {t:Nat} {b:Bool} (h:Z4 P t=some b):(isAgg t).run P w=.ok b w:=by
 unfold Z4 at h;obtain ⟨td,htd,hb⟩:=Option.map_eq_some_iff.1 h;subst hb;simp only [isAgg,Sem.run_bind,run_underlying htd,Result.andThen];cases td<;>rfl
def Yc (P:Program) (t:Nat):Option Nat:=(P.info? t).map (·.size)
theorem Zc {t k:Nat} (h:Yc P t=some k):(sizeOf t).run P w=.ok k w:=by
 obtain ⟨i,hi,rfl⟩:=Option.map_eq_some_iff.1 h;simp [sizeOf,typeInfo,hi]
theorem Ka {ty:Nat} {a:Addr} {v:Value} (ha:Z4 P ty=some false) (hx:ev L x=some (.pointer (some a))) (hv:w.cell? a=some v):Y P n L w (.load ty x) t (v):=
 λc hc _ _ _ _=>by simp [execOp,hc.ev hx,Instr.loadAt,Instr.sureAddr,loadVar,Ze ha,load,Sem.run,hv]
theorem Yy {a:Addr}:∀ (cs:List Value) (i:Nat) (acc:Array Value),(∀ j u,cs[j]?=some u->w.cell? (a.add (i+j))=some u)->(loadCellsFrom a i cs.length acc).run P w=.ok (acc++cs.toArray) w
 | [],i,acc,_=>by simp [loadCellsFrom]
 | u::t,i,acc,h=>by
  have h0:=h 0 u rfl
  have:=Yy t (i+1) (acc.push u) (λj v hv=>by rw [show i+1+j=i+(j+1) from by omega];exact h (j+1) v hv)
  simp only [List.length_cons,loadCellsFrom,load,Sem.run_bind,Sem.run,show a.add i=a.add (i+0) from rfl,h0,Result.andThen,this]
  simp
theorem Jt {ty b o k:Nat} {cs:List Value} (ha:Z4 P ty=some true) (hsz:Yc P ty=some k) (hl:cs.length=k) (hx:ev L x=some (.pointer (some ⟨b,o,none⟩))) (hv:∀ j u,cs[j]?=some u->w.cell? ⟨b,o+j,none⟩=some u):Y P n L w (.load ty x) t (.agg cs.toArray):=
 λc hc _ _ _ _=>by
  subst hl
  have:=Yy (P:=P) (w:=w) (a:=⟨b,o,none⟩) cs 0 #[] (λj u hu=>by rw [Nat.zero_add,Addr.add_lit];exact hv j u hu)
  simp [execOp,hc.ev hx,Instr.loadAt,Instr.sureAddr,loadVar,Ze ha,Zc hsz,loadCells,this]
end
end
end
section
open Go.RowKit
section
variable {P:Program} {n:Nat} {N:Nxt} {L:Loc} {w w0:World} {ops:Array Oper} {rest:List Oper} {d t:Nat} {pos:String} {aft:Array Edge} {ρ:Hp} {Γ:List Yd} {x y:Operand}

theorem Gi {op:Op} {v:Value} {w':World} (hd:Nat.blt d n=true) (h:∀ a,Sat n L a->(execOp a.eval ⟨some d,op,t,pos,aft,none⟩).run P w=.ok (.value v) w') (k:O P n ops rest N ((d,v)::L) w'):
  O P n ops (⟨some d,op,t,pos,aft,none⟩::rest) N L w:=Zcq hd λa ha=>⟨v,w',h a ha,k⟩

theorem Zca {ty:Nat} {v:Value} (hs:St w0 ρ Γ w) (hd:Nat.blt d n=true) (hx:ev L x=some v)
  (k:∀ b w',St w0 ρ (.box b ty v.cells.toList::Γ) w'->O P n ops rest N ((d,.pointer (some ⟨b,0,none⟩))::L) w'):O P n ops (⟨some d,.box ty x,t,pos,aft,none⟩::rest) N L w:=
 Gi (w':=w.alloc (.cells v.cells ty)) hd (λc hc=>by simp only [execOp,hc.ev hx,Instr.box,newVar,newRow,newObj];rfl) (k _ _ (by simpa using hs.box ty v.cells.toList))
theorem X0 {ty:Nat} {cs:List Value} (hs:St w0 ρ Γ w) (hd:Nat.blt d n=true) (hx:ev L x=some (.agg cs.toArray))
  (k:∀ b w',St w0 ρ (.box b ty cs::Γ) w'->O P n ops rest N ((d,.pointer (some ⟨b,0,none⟩))::L) w'):O P n ops (⟨some d,.box ty x,t,pos,aft,none⟩::rest) N L w:=
 Zca hs hd hx λb w' h=>k b w' h
def Xn (P:Program) (ty:Nat):Option (List Value):=(P.info? ty).bind λi=>i.zero.map (·.cells.toList)
theorem Zx {ty:Nat} {zs:List Value} (hz:Xn P ty=some zs) (hs:St w0 ρ Γ w) (hd:Nat.blt d n=true)
  (k:∀ b w',St w0 ρ (.box b ty zs::Γ) w'->O P n ops rest N ((d,.pointer (some ⟨b,0,none⟩))::L) w'):O P n ops (⟨some d,.alloc ty,t,pos,aft,none⟩::rest) N L w:=by
 obtain ⟨i,hi,hz⟩:=Option.bind_eq_some_iff.1 hz;obtain ⟨z,hzz,rfl⟩:=Option.map_eq_some_iff.1 hz;refine Gi (w':=w.alloc (.cells z.cells ty)) hd (λc hc=>?_) (k _ _ (by simpa using hs.box ty z.cells.toList));have hz':i.zero=some z:=by assumption
 have hzv:(zeroValue ty).run P w=.ok z w:=by simp [zeroValue,typeInfo,hi,hz']
 simp only [execOp,Instr.alloc,newVar,newRow,newObj,bind_pure_comp,Sem.run_map,Sem.run_bind,hzv,Result.andThen,Sem.run];rfl
theorem Kv {a:Addr} {v u:Value} (hv:w.cell? a=some u) (hf:w.frozen? a=false) (h1:v.oneCell'=true):(store a v).run P w=.ok () (w.setCell a v):=by
 cases v with
 | agg cs=>cases h1
 | tuple vs=>cases h1
 | _=>simp [store,Sem.run,hv,hf]
theorem Ul {ty b o i T:Nat} {cs:List Value} {v:Value} (hsz:Yc P ty=some 1) (hs:St w0 ρ Γ w) (hi:Γ[i]?=some (.box b T cs)) (ho:Nat.blt o cs.length=true) (hx:ev L x=some (.pointer (some ⟨b,o,none⟩))) (hy:ev L y=some v) (h1:v.oneCell'=true)
  (k:∀ w',St w0 ρ (Γ.set i (.box b T (cs.set o v))) w'->O P n ops rest N L w'):O P n ops (⟨none,.store ty x y,t,pos,aft,none⟩::rest) N L w:=by
 have ho:=Nat.le_of_ble_eq_true ho;have hc:cs[o]?=some cs[o]:=List.getElem?_eq_getElem ho;refine Hw (w':=w.setCell ⟨b,o,none⟩ v) (λc hcs=>?_) (k _ (hs.boxSet hi v));have hcell:=hs.boxCell hi hc;have hfree:=hs.boxFree (k:=o) hi;have hvc:v.cells=#[v]:=by cases v<;>first | rfl | cases h1
 have hadd:(⟨b,o,none⟩:Addr).add 0=⟨b,o,none⟩:=rfl;simp only [execOp,hcs.ev hx,hcs.ev hy,Instr.storeAt,Instr.sureAddr,storeVar,Sem.run_bind,Sem.run_pure,Result.andThen,Zc hsz,hvc];simp [storeCells,hadd,Kv (P:=P) hcell hfree h1]
theorem Za2 {α:Type} {l:List α} {i:Nat} {x:α} (h:l[i]?=some x):l.set i x=l:=by
 obtain ⟨hlt,hx⟩:=List.getElem?_eq_some_iff.1 h;subst hx;exact List.set_getElem_self hlt
theorem Jb {P:Program} {w0:World} {ρ:Hp} {i b T:Nat}:∀ (Γ:List Yd) (vs:List Value) (j o:Nat) (cs:List Value) (w:World),St w0 ρ Γ w->Γ[i]?=some (.box b T cs)->o+j+vs.length<=cs.length->(∀ v∈vs,v.oneCell'=true)->
  ∃ w',(storeCells ⟨b,o,none⟩ vs j).run P w=.ok () w'/\St w0 ρ (Γ.set i (.box b T (cs.take (o+j)++vs++cs.drop (o+j+vs.length)))) w'
 | Γ,[],j,o,cs,w,hs,hi,hl,_=>⟨w,rfl,by
  simp only [List.append_nil,List.length_nil,Nat.add_zero,List.take_append_drop]
  rwa [Za2 hi]⟩
 | Γ,v::t,j,o,cs,w,hs,hi,hl,h1=>by
  have ho:o+j<cs.length:=by simp at hl;omega
  have hc:cs[o+j]?=some cs[o+j]:=List.getElem?_eq_getElem ho
  have hcell:=hs.boxCell hi hc
  have hfree:=hs.boxFree (k:=o+j) hi
  have hadd:(⟨b,o,none⟩:Addr).add j=⟨b,o+j,none⟩:=Addr.add_lit ..
  have hlt:i<Γ.length:=(List.getElem?_eq_some_iff.1 hi).1
  have hs':=hs.boxSet (k:=o+j) hi v
  have key:∃ w',(storeCells ⟨b,o,none⟩ t (j+1)).run P (w.setCell ⟨b,o+j,none⟩ v)=.ok () w'/\St w0 ρ ((Γ.set i (.box b T (cs.set (o+j) v))).set i (.box b T ((cs.set (o+j) v).take (o+(j+1))++t++(cs.set (o+j) v).drop (o+(j+1)+t.length)))) w':=
   Jb (Γ.set i (.box b T (cs.set (o+j) v))) t (j+1) o (cs.set (o+j) v) _ hs' (by simp [hlt]) (by simp at hl ⊢;omega) (λu hu=>h1 u (List.mem_cons_of_mem _ hu))
  obtain ⟨w',hr,hs''⟩:=key
  refine ⟨w',by simp [storeCells,hadd,Kv (P:=P) hcell hfree (h1 v (List.mem_cons_self ..)),hr],?_⟩
  rw [List.set_set] at hs''
  have e:(cs.set (o+j) v).take (o+(j+1))++t++(cs.set (o+j) v).drop (o+(j+1)+t.length)=cs.take (o+j)++(v::t)++cs.drop (o+j+(v::t).length):=by
   rw [List.take_set,List.drop_set_of_lt (by omega),show o+(j+1)=(o+j)+1 from by omega,List.take_add_one,hc];simp only [Option.toList_some,List.length_cons];rw [List.set_append_right _ _ (by simp;omega)];have hmin:min (o+j) cs.length=o+j:=by omega
   simp [hmin,Nat.add_comm 1 t.length,Nat.add_assoc]
  rwa [e] at hs''
theorem Y1 {ty b o i T m:Nat} {cs:List Value} {vs:Array Value} (hsz:Yc P ty=some m) (hs:St w0 ρ Γ w) (hi:Γ[i]?=some (.box b T cs)) (hm:vs.size=m) (ho:Nat.ble (o+m) cs.length=true) (hx:ev L x=some (.pointer (some ⟨b,o,none⟩))) (hy:ev L y=some (.agg vs))
  (h1:∀ v∈vs.toList,v.oneCell'=true) (k:∀ w',St w0 ρ (Γ.set i (.box b T (cs.take o++vs.toList++cs.drop (o+m)))) w'->O P n ops rest N L w'):O P n ops (⟨none,.store ty x y,t,pos,aft,none⟩::rest) N L w:=by
 obtain ⟨w',hr,hs'⟩:=Jb (P:=P) Γ vs.toList 0 o cs w hs hi (by have:=Nat.le_of_ble_eq_true ho;simp;omega) h1;simp only [Nat.add_zero,Array.length_toList,hm] at hs';refine Hw (w':=w') (λc hcs=>?_) (k _ hs');simp only [execOp,hcs.ev hx,hcs.ev hy,Instr.storeAt,Instr.sureAddr,storeVar,Sem.run_bind,Sem.run_pure,Result.andThen,Zc hsz,Value.cells,hm];simp [hr]
theorem Zbm {ty b o i T:Nat} {cs:List Value} {v:Value} (ha:Z4 P ty=some false) (hs:St w0 ρ Γ w) (hi:Γ[i]?=some (.box b T cs)) (hv:cs[o]?=some v) (hx:ev L x=some (.pointer (some ⟨b,o,none⟩))):Y P n L w (.load ty x) t v:=
 Ka ha hx (hs.boxCell hi hv)
theorem Zq {ty b o i T m:Nat} {cs vs:List Value} (ha:Z4 P ty=some true) (hsz:Yc P ty=some m) (hs:St w0 ρ Γ w) (hi:Γ[i]?=some (.box b T cs)) (hv:(cs.drop o).take m=vs) (hl:vs.length=m) (hx:ev L x=some (.pointer (some ⟨b,o,none⟩))):Y P n L w (.load ty x) t (.agg vs.toArray):=
 Jt ha hsz hl hx (λj u hu=>hs.boxCell hi (by
  subst hv
  rw [List.getElem?_take] at hu
  split at hu
  ·rw [List.getElem?_drop] at hu;exact hu
  ·cases hu))

theorem Hk:∀ (l:List Value) (o k:Nat) (cur:List Value),o+k+l.length<=cur.length->(l.zipIdx k).foldl (λcs p=>cs.set (o+p.2) p.1) cur=cur.take (o+k)++l++cur.drop (o+k+l.length)
 | [],o,k,cur,h=>by simp
 | v::l,o,k,cur,h=>by
  have hlt:o+k<cur.length:=by simp at h;omega
  rw [List.zipIdx_cons,List.foldl_cons,Hk l o (k+1) _ (by simp at h ⊢;omega)]
  rw [List.take_set,List.drop_set_of_lt (by omega),show o+(k+1)=(o+k)+1 from by omega,List.take_add_one,List.getElem?_eq_getElem hlt]
  simp only [Option.toList_some,List.length_cons]
  rw [List.set_append_right _ _ (by simp;omega)]
  have hmin:min (o+k) cur.length=o+k:=by omega
  simp [hmin,Nat.add_comm 1 l.length,Nat.add_assoc]
theorem Kc (l:Array Value) (o:Nat) (cur:Array Value) (h:o+l.size<=cur.size):l.zipIdx.foldl (λcs p=>cs.setIfInBounds (o+p.2) p.1) cur=(cur.toList.take o++l.toList++cur.toList.drop (o+l.size)).toArray:=by
 have key:∀ (ps:List (Value×Nat)) (cur:Array Value),(ps.foldl (λcs p=>cs.setIfInBounds (o+p.2) p.1) cur).toList=ps.foldl (λcs p=>cs.set (o+p.2) p.1) cur.toList:=by
  intro ps
  induction ps with
  | nil=>intro cur;rfl
  | cons p ps ih=>intro cur;rw [List.foldl_cons,List.foldl_cons,ih];simp
 apply Array.ext';rw [<- Array.foldl_toList,key];have:=Hk l.toList o 0 cur.toList (by simp;omega);simpa using this
theorem Jj (sz:Nat):∀ (vs:List Value) (k:Nat) (cur:Array Value),(∀ v∈vs,v.cells.size=sz)->cur.size=(k+vs.length)*sz->
  Instr.fill (λi=>some (i*sz,sz)) cur ((vs.zipIdx k).map λp=>(p.2,p.1))=some (cur.toList.take (k*sz)++vs.flatMap (·.cells.toList)).toArray
 | [],k,cur,_,h=>by
  simp only [List.zipIdx_nil,List.map_nil,Instr.fill,List.flatMap_nil,List.append_nil]
  rw [List.take_of_length_le (by simp at h ⊢;omega)]
 | v::vs,k,cur,hv,h=>by
  have hsz:=hv v (List.mem_cons_self ..)
  simp only [List.zipIdx_cons,List.map_cons,Instr.fill]
  have hfit:k*sz+v.cells.size<=cur.size:=by
   rw [h,hsz,List.length_cons,Nat.add_mul,Nat.add_mul];omega
  have hno:(decide (v.cells.size≠sz)||decide (k*sz+v.cells.size>cur.size))=false:=by simp [hsz] at hfit ⊢;omega
  rw [if_neg (by rw [hno];exact Bool.false_ne_true)]
  rw [Kc v.cells (k*sz) cur hfit]
  rw [Jj sz vs (k+1) _ (λu hu=>hv u (List.mem_cons_of_mem _ hu)) (by
   simp only [List.size_toArray,List.length_append,List.length_take,List.length_drop,Array.length_toList]
   simp only [List.length_cons] at h
   rw [show k+1+vs.length=k+(vs.length+1) from by omega]
   omega)]
  congr 2
  simp only [List.flatMap_cons]
  rw [show (k+1)*sz=k*sz+sz from by rw [Nat.add_mul,Nat.one_mul]]
  rw [List.take_append,List.take_append]
  have e1:(List.take (k*sz) cur.toList).length=k*sz:=by simp;omega
  simp [e1,hsz,List.take_take,hfit]
  rw [List.take_of_length_le (by simp [hsz])]
theorem Zc7 {sl e sz bytes:Nat} {xs:List Operand} {vs:List Value} {ps:List (Nat×Operand)} {m:Nat} (he:Y9 P sl e sz bytes) (hs:St w0 ρ Γ w) (hd:Nat.blt d n=true) (hps:ps=(xs.zipIdx 0).map λp=>(p.2,p.1)) (hml:xs.length=m) (hm:m<=1000) (hsz:sz<=1000)
  (hx:evs L xs=some vs) (hv:∀ v∈vs,v.cells.size=sz)
  (k:∀ b w',St w0 ρ (.row (.slice (some ⟨b,0,none⟩) m m) e sz m (vs.flatMap (·.cells.toList))::Γ) w'->O P n ops rest N ((d,.slice (some ⟨b,0,none⟩) m m)::L) w'):
  O P n ops (⟨some d,.buildSlice sl m ps.toArray,t,pos,aft,none⟩::rest) N L w:=by
 obtain ⟨j,z,hj,hz,hjs,_,hzs⟩:=he.info;have evs_len:∀ {xs:List Operand} {vs:List Value},evs L xs=some vs->vs.length=xs.length:=by
  intro xs
  induction xs with
  | nil=>intro vs h;simp [evs] at h;subst h;rfl
  | cons x xs ih=>
   intro vs h;simp only [evs] at h;split at h
   ·rename_i v vs' _ h2;simp at h;subst h;simp [ih h2]
   ·cases h
 have hvl:vs.length=m:=by rw [evs_len hx,hml]
 have hcs:(vs.flatMap (·.cells.toList)).length=m*sz:=by
  rw [<- hvl];clear hx hvl k
  induction vs with
  | nil=>simp
  | cons v vs ih=>
   have h1:=hv v (List.mem_cons_self ..);have h2:=ih (λu hu=>hv u (List.mem_cons_of_mem _ hu));rw [List.flatMap_cons,List.length_append,h2,List.length_cons,Nat.add_mul];simp [h1];omega
 have hb:=hs.rowFull e m sz _ hcs (by simp only [maxLen];omega);refine Gi (w':=w.alloc (.cells (vs.flatMap (·.cells.toList)).toArray e)) hd (λc hc=>?_) (k _ _ hb);have hbig:¬ m*sz>2^24:=by have:=Nat.mul_le_mul hm hsz;omega
 have hparts:(ps.toArray.map λp=>(p.1,c.eval p.2)).toList=(vs.zipIdx 0).map λp=>(p.2,p.1):=by subst hps;have:=hc.evs hx;rw [<- this];simp only [List.map_toArray,List.map_map,List.zipIdx_map];simp
 have hfill:∀ (cur:Array Value),cur.size=m*sz->Instr.fill (λi=>some (i*sz,sz)) cur (ps.toArray.map λp=>(p.1,c.eval p.2)).toList=some (vs.flatMap (·.cells.toList)).toArray:=by intro cur hcur;rw [hparts,Jj sz vs 0 cur hv (by rw [hcur,hvl];simp)];simp
 by_cases h0:m*sz=0
 ·have hrun:(Instr.buildSlice sl m (ps.toArray.map λp=>(p.1,c.eval p.2))).run P w=.ok (.slice (some ⟨w.heap.size,0,none⟩) m m) (w.alloc (.cells (vs.flatMap (·.cells.toList)).toArray e)):=by
   unfold Instr.buildSlice;simp only [Sem.run_bind,run_underlying he.under,Result.andThen,sizeOf,typeInfo,program,Sem.run,hj,Sem.run_pure,hjs];rw [if_neg hbig];simp only [Sem.run_bind,if_pos h0,Sem.run_pure,Result.andThen];rw [hfill _ (by simp)];rfl
  simp only [execOp,bind_pure_comp,Sem.run_map,hrun,Result.andThen]
 ·have hrun:(Instr.buildSlice sl m (ps.toArray.map λp=>(p.1,c.eval p.2))).run P w=.ok (.slice (some ⟨w.heap.size,0,none⟩) m m) (w.alloc (.cells (vs.flatMap (·.cells.toList)).toArray e)):=by
   unfold Instr.buildSlice;have hzv:(zeroValue e).run P w=.ok z w:=by simp [zeroValue,typeInfo,hj,hz]
   simp only [Sem.run_bind,run_underlying he.under,Result.andThen,sizeOf,typeInfo,program,Sem.run,hj,Sem.run_pure,hjs];rw [if_neg hbig];simp only [Sem.run_bind,if_neg h0,Sem.run_pure,Result.andThen,hzv,bind_pure_comp,Sem.run_map];rw [hfill _ (by simp)];rfl
  simp only [execOp,bind_pure_comp,Sem.run_map,hrun,Result.andThen]
theorem Zac {sl e sz bytes i m c:Nat} {v u:Value} {cs news:List Value} (he:Y9 P sl e sz bytes) (hs:St w0 ρ Γ w) (hi:Γ[i]?=some (.row v e sz m cs)) (hd:Nat.blt d n=true) (hx:ev L x=some v) (hy:ev L y=some u) (hsrc:Src w sz u c news) {lim:Nat} (hb:m+c<=lim)
  (k:∀ v' w',St w0 ρ (Γ.set i (.row v' e sz (m+c) (cs++news))) w'->O P n ops rest N ((d,v')::L) w') (hl:G0 lim bytes=true:=by exact rfl):
  O P n ops (⟨some d,.call { callee:=.builtin .append,args:=#[x,y],argTypes:=#[sl,sl] },t,pos,aft,none⟩::rest) N L w:=by
 refine Zcq hd λa ha=>?_;obtain ⟨v',w',hr,hs'⟩:=Gd (P:=P) hs he (ty:=t) hi hsrc hb hl;exact ⟨v',w',by simp only [execOp,resolve,invoke,builtin,Sem.run_bind,Sem.run_pure,Result.andThen_ok,List.map_toArray,List.map_cons,List.map_nil,ha.ev hx,ha.ev hy,hr],k v' w' hs'⟩
end
end
section
open Go.RowKit

def lst (n:Nat) (done:List Nat):Array Bool:=((List.range n).map λi=>done.contains i).toArray
theorem Zau (n:Nat) (done:List Nat):(lst n done).size=n:=by simp [lst]
theorem Zbw (n:Nat):lst n []=Array.replicate n false:=by
 apply Array.ext
 ·simp [lst]
 ·intro i h1 h2;simp [lst]
theorem Uw {n i:Nat} (done:List Nat):(lst n done).setIfInBounds i true=lst n (i::done):=by
 apply Array.ext
 ·simp [lst]
 ·intro j h1 h2
  simp only [Array.getElem_setIfInBounds,lst];by_cases h:i=j
  ·subst h;simp
  ·simp [h,Ne.symm h]
theorem Gs {n i:Nat} (h:i<n) (done:List Nat) (b:Bool):(lst n done).getD i b=done.contains i:=by
 simp [lst,h]

def YI (P:Program) (ops:Array Oper) (J:World->Prop) (o:Oper) (v:Value) (a:Act):Prop:=
 (Region.wanted o (yielded ops a.tmps)=true/\∀ w,J w->(execOp a.eval o).run P w=.ok (.value v) w)\/(Region.wanted o (yielded ops a.tmps)=false/\v=undef)

def Je (ops:Array Oper):Nat->Nat->Nat->Bool
 | 0,_,_=>false
 | k+1,j,i=>((ops[j]?).map λo=>o.after.any λe=>Region.binds .any e&&(Nat.beq e.on i||Je ops k e.on i)).getD false
def Jh (ops:Array Oper) (listed:Array Bool):Prop:=∀ j o,listed.getD j false=true->ops[j]?=some o->∀ e∈o.after,Region.binds .any e=true->listed.getD e.on false=true
theorem Jf {ops:Array Oper} {listed:Array Bool} (hc:Jh ops listed):∀ (k j i:Nat),Je ops k j i=true->(∀ o,ops[j]?=some o->∀ e∈o.after,Region.binds .any e=true->listed.getD e.on false=true)->listed.getD i false=true
 | 0,_,_,h,_=>by cases h
 | k+1,j,i,h,hj=>by
  simp only [Je] at h
  cases ho:ops[j]? with
  | none=>rw [ho] at h;cases h
  | some o=>
   rw [ho] at h
   simp only [Option.map_some,Option.getD_some,Array.any_eq_true'] at h
   obtain ⟨e,he,hb⟩:=h
   simp only [Bool.and_eq_true,Bool.or_eq_true] at hb
   have hl:=hj o ho e he hb.1
   rcases hb.2 with hb2 | hb2
   ·rw [<- Nat.eq_of_beq_eq_true hb2];exact hl
   ·exact Jf hc k e.on i hb2 (λo' ho' e' he' hb'=>hc e.on o' hl ho' e' he' hb')
theorem Jh.ready {ops:Array Oper} {listed:Array Bool} (hc:Jh ops listed) {i:Nat} (hi:i∈Region.ready .any ops listed):Jh ops (listed.setIfInBounds i true):=by
 intro j o hj ho e he hb;by_cases hji:i=j
 ·subst hji
  obtain ⟨_,o',ho',hall⟩:=mem_ready.1 hi;rw [ho] at ho';obtain rfl:=Option.some.inj ho';exact getD_set_true (hall e he hb)
 ·rw [getD_set_ne false hji] at hj
  exact getD_set_true (hc j o hj ho e he hb)
section
variable {P:Program} {ops:Array Oper} {Q:Exit->Act->World->Prop} {md:Region.Mode} {J:World->Prop} {late:List Nat}
theorem YI.of_same {o:Oper} {v:Value} {a a':Act} (hy:YI P ops J o v a) (he:execOp a'.eval o=execOp a.eval o) (hw:Region.wanted o (yielded ops a'.tmps)=Region.wanted o (yielded ops a.tmps)):YI P ops J o v a':=by
 unfold YI at *;rw [he,hw];exact hy
theorem YI.wpOp {i:Nat} {o:Oper} {v:Value} {a:Act} {w:World} (hi:ops[i]?=some o) (hJ:J w) (hy:YI P ops J o v a) {K:Act->World->Prop} (h:K (a.put o.dst v) w):wpOp P ops Q i K a w:=by
 unfold Go.wpOp;simp only [hi]
 rcases hy with ⟨hw,hv⟩ | ⟨hw,rfl⟩
 ·simp only [hw,if_true,Oper.wp,hv w hJ,Oper.upon];exact .inl h
 ·simp only [hw,Bool.false_eq_true,if_false];exact h

theorem Uj {j:Nat} {oi oj:Oper} {v:Value} (hj:ops[j]?=some oj) (hap:oi.apart ops oj=true)
  (hsi:∀ cs b,oi.op≠.select cs b) (hsj:∀ cs b,oj.op≠.select cs b)
  (hQ:∀ c a w,Q (.panic c) (a.put oi.dst v) w->Q (.panic c) a w) {K:Act->World->Prop} {a:Act} {w:World}
  (hy:YI P ops J oi v a) (h:wpOp P ops Q j K (a.put oi.dst v) w):
  wpOp P ops Q j (λa' w'=>YI P ops J oi v a'/\K (a'.put oi.dst v) w') a w:=by
 obtain ⟨h1,h2,h3⟩:=Oper.apart_spec hap;have keep:∀ (a:Act),YI P ops J oi v a->∀ u,YI P ops J oi v (a.put oj.dst u):=λa hy u=>
  hy.of_same (execOp_put oi hsi a oj.dst u h3) (wanted_put oi a oj.dst u h3)
 have keepD:∀ d,YI P ops J oi v { a with defers:=d::a.defers }:=λd=>hy.of_same rfl rfl
 unfold wpOp at*
 simp only [hj] at*
 rw [wanted_put oj a oi.dst v h1] at h;split
 ·rename_i hw
  simp only [hw,if_true] at h
  rcases h with h | ⟨hasks,hlets⟩
  case inr=>exact .inr ⟨by unfold Oper.asks at *;rw [execOp_put oj hsj a oi.dst v h1] at hasks;exact hasks,hlets⟩
  refine .inl ?_;unfold Oper.wp at*
  rw [execOp_put oj hsj a oi.dst v h1] at h;generalize (execOp a.eval oj).run P w=r at*
  cases r with
  | ok n w'=>
   cases n<;>simp only [Oper.upon] at h ⊢;case value u=>exact ⟨keep a hy u,by rw [<- Act.put_comm a v u h2];exact h⟩
   case skip=>exact ⟨keep a hy _,by rw [<- Act.put_comm a v undef h2];exact h⟩
   case defer d=>
    refine ⟨keep _ (keepD d) _,?_⟩;rw [<- Act.put_comm _ v undef h2,<- Act.put_defers];exact h
   case enter f args=>
    refine Calls.mono h λe w'' he=>?_
    cases e with
    | returned u=>exact ⟨keep a hy u,by rw [<- Act.put_comm a v u h2];exact he⟩
    | panicked c=>exact hQ _ _ _ he
    | outgrown=>exact he
   case row row args=>exact Rows.mono h λu w'' he=>⟨keep a hy u,by rw [<- Act.put_comm a v u h2];exact he⟩
  | halt x w'=>
   cases x<;>simp only [Oper.upon] at h ⊢;case panic u=>exact hQ _ _ _ h
 ·rename_i hw
  simp only [hw] at h;exact ⟨keep a hy _,by rw [<- Act.put_comm a v undef h2];exact h⟩

def Qm (P:Program) (ops:Array Oper) (Q:Exit->Act->World->Prop) (late:List Nat) (J:World->Prop):Nat->Array Bool->Act->World->Prop
 | 0,listed,a,w=>Region.ready .any ops listed=[]/\Q .normal a w
 | fuel+1,listed,a,w=>
  (Region.ready .any ops listed=[]->Q .normal a w)/\
  ∀ i∈Region.ready .any ops listed,wpOp P ops Q i (λa' w'=>(late.contains i=false->J w->J w')/\Qm P ops Q late J fuel (listed.setIfInBounds i true) a' w') a w

theorem Vi:∀ (fuel:Nat) (listed:Array Bool) (a:Act) (w:World),Qm P ops Q late J fuel listed a w->wpAny P .any ops Q fuel listed a w
 | 0,_,_,_,h=>h
 | fuel+1,_,_,_,h=>⟨h.1,λi hi=>wpOp_mono (λa w hk=>Vi fuel _ a w hk.2) (h.2 i hi)⟩

theorem U7 {i:Nat} {oi:Oper} {v:Value} (hi:ops[i]?=some oi) (hlate:∀ j∈late,Je ops ops.size j i=true) (hsel:∀ (j:Nat) (o:Oper) cs b,ops[j]?=some o->o.op≠.select cs b)
  (hQ:∀ c a w,Q (.panic c) (a.put oi.dst v) w->Q (.panic c) a w):
  ∀ (fuel:Nat) (listed:Array Bool) (a:Act) (w:World),Jh ops listed->
   (∀ j oj,ops[j]?=some oj->j≠i->listed.getD j true=false->(∀ e∈oj.after,Region.binds .any e=true->e.on≠i)->oi.apart ops oj=true)->
   i∈Region.ready .any ops listed->J w->YI P ops J oi v a->
   Qm P ops Q late J fuel (listed.setIfInBounds i true) (a.put oi.dst v) w->Qm P ops Q late J (fuel+1) listed a w:=by
 intro fuel
 induction fuel with
 | zero=>
  intro listed a w _ _ hr hJ hy H;refine ⟨λh=>(by rw [h] at hr;cases hr),λj hj=>?_⟩;by_cases hji:j=i
  ·subst hji;exact hy.wpOp hi hJ ⟨λ_ h=>h,H⟩
  ·have:=ready_mono hj hji
   rw [H.1] at this;cases this
 | succ fuel ih=>
  intro listed a w hcl hfree hr hJ hy H;refine ⟨λh=>(by rw [h] at hr;cases hr),λj hj=>?_⟩;by_cases hji:j=i
  ·subst hji;exact hy.wpOp hi hJ ⟨λ_ h=>h,H⟩
  ·have h1:=H.2 j (ready_mono hj hji)
   obtain ⟨hjun,oj,hoj,hall⟩:=mem_ready.1 hj;have hiun:=(mem_ready.1 hr).1;have hilt:i<listed.size:=by
    rcases Nat.lt_or_ge i listed.size with h' | h'
    ·exact h'
    ·simp [Array.getElem?_eq_none h'] at hiun
   have hiun2:listed.getD i false=false:=by simp [hilt] at hiun ⊢;exact hiun
   have hnot:∀ e∈oj.after,Region.binds .any e=true->e.on≠i:=λe he hb heq=>by
    have h1:=hall e he hb;rw [heq,hiun2] at h1;cases h1
   have h2:=Uj hoj (hfree j oj hoj hji hjun hnot) (λcs b=>hsel i oi cs b hi) (λcs b=>hsel j oj cs b hoj) hQ hy h1;have hfree':∀ k ok,ops[k]?=some ok->k≠i->(listed.setIfInBounds j true).getD k true=false->
     (∀ e∈ok.after,Region.binds .any e=true->e.on≠i)->oi.apart ops ok=true:=λk ok hk hki hun hno=>by
    refine hfree k ok hk hki ?_ hno;by_cases hjk:j=k
    ·subst hjk;exact hjun
    ·rw [getD_set_ne true hjk] at hun;exact hun
   have hnl:late.contains j=false:=by
    cases hl:late.contains j with
    | false=>rfl
    | true=>
     have:=Jf hcl ops.size j i (hlate j (by simpa using hl)) (λo ho e he hb=>by rw [hoj] at ho;obtain rfl:=Option.some.inj ho;exact hall e he hb);rw [hiun2] at this;cases this
   refine wpOp_mono (λa' w' h3=>?_) h2;obtain ⟨hy',hI,hk⟩:=h3;rw [Array.setIfInBounds_comm _ _ (Ne.symm hji)] at hk;exact ⟨hI,ih (listed.setIfInBounds j true) a' w' (hcl.ready hj) hfree' (ready_mono hr (Ne.symm hji)) (hI hnl hJ) hy' hk⟩
theorem Vo {i:Nat} {oi:Oper} {v:Value} (hi:ops[i]?=some oi) (hsel:∀ (j:Nat) (o:Oper) cs b,ops[j]?=some o->o.op≠.select cs b)
  (hQ:∀ c a w,Q (.panic c) (a.put oi.dst v) w->Q (.panic c) a w):
  ∀ (fuel:Nat) (listed:Array Bool) (a:Act) (w:World),
   (∀ j oj,ops[j]?=some oj->j≠i->listed.getD j true=false->(∀ e∈oj.after,Region.binds .any e=true->e.on≠i)->oi.apart ops oj=true)->
   i∈Region.ready .any ops listed->YI P ops (λ_=>True) oi v a->
   Qm P ops Q late J fuel (listed.setIfInBounds i true) (a.put oi.dst v) w->Qm P ops Q late J (fuel+1) listed a w:=by
 intro fuel
 induction fuel with
 | zero=>
  intro listed a w _ hr hy H;refine ⟨λh=>(by rw [h] at hr;cases hr),λj hj=>?_⟩;by_cases hji:j=i
  ·subst hji;exact hy.wpOp hi trivial ⟨λ_ h=>h,H⟩
  ·have:=ready_mono hj hji
   rw [H.1] at this;cases this
 | succ fuel ih=>
  intro listed a w hfree hr hy H;refine ⟨λh=>(by rw [h] at hr;cases hr),λj hj=>?_⟩;by_cases hji:j=i
  ·subst hji;exact hy.wpOp hi trivial ⟨λ_ h=>h,H⟩
  ·have h1:=H.2 j (ready_mono hj hji)
   obtain ⟨hjun,oj,hoj,hall⟩:=mem_ready.1 hj;have hiun:=(mem_ready.1 hr).1;have hilt:i<listed.size:=by
    rcases Nat.lt_or_ge i listed.size with h' | h'
    ·exact h'
    ·simp [Array.getElem?_eq_none h'] at hiun
   have hiun2:listed.getD i false=false:=by simp [hilt] at hiun ⊢;exact hiun
   have hnot:∀ e∈oj.after,Region.binds .any e=true->e.on≠i:=λe he hb heq=>by
    have h1:=hall e he hb;rw [heq,hiun2] at h1;cases h1
   have h2:=Uj hoj (hfree j oj hoj hji hjun hnot) (λcs b=>hsel i oi cs b hi) (λcs b=>hsel j oj cs b hoj) hQ hy h1;have hfree':∀ k ok,ops[k]?=some ok->k≠i->(listed.setIfInBounds j true).getD k true=false->
     (∀ e∈ok.after,Region.binds .any e=true->e.on≠i)->oi.apart ops ok=true:=λk ok hk hki hun hno=>by
    refine hfree k ok hk hki ?_ hno;by_cases hjk:j=k
    ·subst hjk;exact hjun
    ·rw [getD_set_ne true hjk] at hun;exact hun
   refine wpOp_mono (λa' w' h3=>?_) h2;obtain ⟨hy',hI,hk⟩:=h3;rw [Array.setIfInBounds_comm _ _ (Ne.symm hji)] at hk;exact ⟨hI,ih (listed.setIfInBounds j true) a' w' hfree' (ready_mono hr (Ne.symm hji)) hy' hk⟩
end

section
variable {P:Program} {n:Nat} {N:Nxt} {X:Nat->Nxt} {R:Nxt} {L:Loc} {w:World} {ops:Array Oper} {late:List Nat} {J:World->Prop} {d t:Nat} {pos:String} {aft:Array Edge} {fuel:Nat} {done:List Nat}

def Qo (n:Nat) (N:Nxt):Exit->Act->World->Prop:=λe a' w'=>e=.normal/\∃ L',Sat n L' a'/\N L' w'
def OD (P:Program) (n:Nat) (ops:Array Oper) (late:List Nat) (J:World->Prop) (fuel:Nat) (done:List Nat) (N:Nxt) (L:Loc) (w:World):Prop:=
 ∀ a,Sat n L a->Qm P ops (Qo n N) late J fuel (lst ops.size done) a w

theorem Zcs {id:Nat} {l:List Oper} (late:List Nat) (J:World->Prop) (hm:P.follows .mixedOrders=true) (h:OD P n l.toArray late J l.length [] N L { w with drawn:=w.drawn+1 }):W P n (.region id l.toArray true) N X R L w:=by
 intro a ha;have h1:=Vi _ _ _ _ (h a ha);rw [Zbw] at h1;refine wp_mono (wp_region_any hm (by simpa using h1)) (λe a' w' hq=>by obtain ⟨rfl,hq⟩:=hq;exact hq)
theorem OD.weak (L':Loc) (hs:Sub L' L) (h:OD P n ops late J fuel done N L' w):OD P n ops late J fuel done N L w:=λa ha=>h a (ha.weak hs)
theorem Zbf (hr:Region.ready .any ops (lst ops.size done)=[]) (h:N L w):OD P n ops late J fuel done N L w:=by
 intro a ha
 cases fuel with
 | zero=>exact ⟨hr,rfl,L,ha,h⟩
 | succ k=>exact ⟨λ_=>⟨rfl,L,ha,h⟩,λi hi=>by rw [hr] at hi;cases hi⟩

theorem Kx {a:Act} (ha:Sat n L a) {j dj:Nat} {b:Bool} (hj:(ops[j]?).bind (·.dst)=some dj) (hl:lk dj L=some (.bool b)):yielded ops a.tmps j=some b:=by
 unfold yielded;rw [hj];have:=ha.get dj _ hl;simp only [Option.bind_some]
 cases hx:a.tmps[dj]? with
 | none=>simp [hx,undef] at this
 | some u=>simp [hx] at this;subst this;rfl
theorem Qa {dj:Nat} {b:Bool} (hl:lk dj L=some (.bool b)) (ht:b=true->OD P n ops late J fuel done N ((dj,.bool true)::L) w) (hf:b=false->OD P n ops late J fuel done N ((dj,.bool false)::L) w):OD P n ops late J fuel done N L w:=by
 intro a ha;have key:∀ c,b=c->Sat n ((dj,.bool c)::L) a:=λc hc=>⟨ha.size,ha.nod,λd v hv=>by
  simp only [lk] at hv
  cases hb:Nat.beq dj d with
  | true=>rw [hb] at hv;simp at hv;subst hv;rw [<- Nat.eq_of_beq_eq_true hb,<- hc];exact ha.get dj _ hl
  | false=>rw [hb] at hv;exact ha.get d v hv⟩
 cases b with
 | true=>exact ht rfl a (key true rfl)
 | false=>exact hf rfl a (key false rfl)
theorem G9 {dj:Nat} {p:Prop} [Decidable p] (hl:lk dj L=some (.bool (decide p))) (ht:p->OD P n ops late J fuel done N ((dj,.bool true)::L) w) (hf:¬ p->OD P n ops late J fuel done N ((dj,.bool false)::L) w):OD P n ops late J fuel done N L w:=
 Qa hl (λh=>ht (of_decide_eq_true h)) (λh=>hf (of_decide_eq_false h))
end
end
section
open Go.RowKit

def InK:IntKind->Int->Prop
 | .i8,x=>-128<=x/\x<=127
 | .i16,x=>-32768<=x/\x<=32767
 | .i32,x=>-2147483648<=x/\x<=2147483647
 | .i64,x=>-9223372036854775808<=x/\x<=9223372036854775807
 | .u8,x=>0<=x/\x<=255
 | .u16,x=>0<=x/\x<=65535
 | .u32,x=>0<=x/\x<=4294967295
 | .u64,x=>0<=x/\x<=18446744073709551615

structure Rep (α:Type) where
 sz:Nat
 R:Hp->List Value->α->Prop
 len:∀ {ρ cs x},R ρ cs x->cs.length=sz
 mono:∀ {ρ ρ' cs x},Le ρ ρ'->R ρ cs x->R ρ' cs x
 one:∀ {ρ cs x},R ρ cs x->∀ u∈cs,u.oneCell'=true

def Rep.int (k:IntKind):Rep Int:=⟨1,λ_ cs x=>cs=[.int k x],λh=>by rw [h];rfl,λ_ h=>h,λh u hu=>by rw [h] at hu;simp at hu;subst hu;rfl⟩
def Rep.bool:Rep Bool:=⟨1,λ_ cs x=>cs=[.bool x],λh=>by rw [h];rfl,λ_ h=>h,λh u hu=>by rw [h] at hu;simp at hu;subst hu;rfl⟩
def Rep.str:Rep ByteArray:=⟨1,λ_ cs x=>cs=[.string x],λh=>by rw [h];rfl,λ_ h=>h,λh u hu=>by rw [h] at hu;simp at hu;subst hu;rfl⟩

def SlR {α:Type} (r:Rep α) (ρ:Hp) (v:Value) (xs:List α):Prop:=
 (xs=[]/\∃ a c,v=.slice a 0 c)\/∃ b o c,v=.slice (some ⟨b,o,none⟩) xs.length c/\xs.length<=c/\∀ i x,xs[i]?=some x->∃ cs,r.R ρ cs x/\∀ j u,cs[j]?=some u->ρ ⟨b,o+i*r.sz+j,none⟩=some u
theorem SlR.mono {α:Type} {r:Rep α} {ρ ρ':Hp} {v:Value} {xs:List α} (hle:Le ρ ρ') (h:SlR r ρ v xs):SlR r ρ' v xs:=by
 rcases h with h | ⟨b,o,c,hv,hc,h⟩
 ·exact .inl h
 ·exact .inr ⟨b,o,c,hv,hc,λi x hx=>by obtain ⟨cs,h1,h2⟩:=h i x hx;exact ⟨cs,r.mono hle h1,λj u hu=>hle _ _ (h2 j u hu)⟩⟩
theorem SlR.shape {α:Type} {r:Rep α} {ρ:Hp} {v:Value} {xs:List α} (h:SlR r ρ v xs):∃ a c,v=.slice a xs.length c:=by
 rcases h with ⟨rfl,a,c,h⟩ | ⟨b,o,c,hv,_⟩
 ·exact ⟨a,c,h⟩
 ·exact ⟨_,c,hv⟩
theorem SlR.fits {α:Type} {r:Rep α} {ρ:Hp} {v:Value} {xs:List α} (h:SlR r ρ v xs):∃ a c,v=.slice a xs.length c/\xs.length<=c:=by
 rcases h with ⟨rfl,a,c,h⟩ | ⟨b,o,c,hv,hc,_⟩
 ·exact ⟨a,c,h,Nat.zero_le _⟩
 ·exact ⟨_,c,hv,hc⟩
theorem SlR.one {α:Type} {r:Rep α} {ρ:Hp} {v:Value} {xs:List α} (h:SlR r ρ v xs):v.oneCell'=true:=by obtain ⟨a,c,rfl⟩:=h.shape;rfl
theorem SlR.cells {α:Type} {r:Rep α} {ρ:Hp} {v:Value} {xs:List α} (h:SlR r ρ v xs):v.cells=#[v]:=by obtain ⟨a,c,rfl⟩:=h.shape;rfl
def Rep.slice {α:Type} (r:Rep α):Rep (List α):=⟨1,λρ cs xs=>∃ v,cs=[v]/\SlR r ρ v xs,λh=>by obtain ⟨v,h,_⟩:=h;rw [h];rfl,λhle h=>by obtain ⟨v,h,hv⟩:=h;exact ⟨v,h,hv.mono hle⟩,λh u hu=>by
 obtain ⟨v,h,hv⟩:=h;rw [h] at hu;simp at hu;subst hu;exact hv.one⟩

def CA (ρ:Hp) (b o:Nat) (cs:List Value):Prop:=∀ j u,cs[j]?=some u->ρ ⟨b,o+j,none⟩=some u
theorem CA.mono {ρ ρ':Hp} {b o:Nat} {cs:List Value} (hle:Le ρ ρ') (h:CA ρ b o cs):CA ρ' b o cs:=λj u hu=>hle _ _ (h j u hu)
def At {α:Type} (ρ:Hp) (r:Rep α) (b o:Nat) (x:α):Prop:=∃ cs,r.R ρ cs x/\CA ρ b o cs
theorem At.mono {α:Type} {ρ ρ':Hp} {r:Rep α} {b o:Nat} {x:α} (hle:Le ρ ρ') (h:At ρ r b o x):At ρ' r b o x:=by
 obtain ⟨cs,h1,h2⟩:=h;exact ⟨cs,r.mono hle h1,λj u hu=>hle _ _ (h2 j u hu)⟩
theorem At.int {ρ:Hp} {k:IntKind} {b o:Nat} {x:Int} (h:At ρ (Rep.int k) b o x):ρ ⟨b,o,none⟩=some (.int k x):=by
 obtain ⟨cs,hcs,h2⟩:=h;subst hcs;exact h2 0 _ rfl
theorem At.bool {ρ:Hp} {b o:Nat} {x:Bool} (h:At ρ Rep.bool b o x):ρ ⟨b,o,none⟩=some (.bool x):=by
 obtain ⟨cs,hcs,h2⟩:=h;subst hcs;exact h2 0 _ rfl
theorem At.str {ρ:Hp} {b o:Nat} {x:ByteArray} (h:At ρ Rep.str b o x):ρ ⟨b,o,none⟩=some (.string x):=by
 obtain ⟨cs,hcs,h2⟩:=h;subst hcs;exact h2 0 _ rfl
theorem At.slice {α:Type} {ρ:Hp} {r:Rep α} {b o:Nat} {xs:List α} (h:At ρ (Rep.slice r) b o xs):∃ v,ρ ⟨b,o,none⟩=some v/\SlR r ρ v xs:=by
 obtain ⟨cs,⟨v,hcs,hv⟩,h2⟩:=h;subst hcs;exact ⟨v,h2 0 _ rfl,hv⟩

def rd {α:Type} [Inhabited α] (xs:List α) (i:Int):α:=xs.getD i.toNat default
theorem Zaz {α:Type} [Inhabited α] {xs:List α} {i:Int} (h0:0<=i) (h1:i<(xs.length:Int)):xs[i.toNat]?=some (rd xs i):=by
 have:i.toNat<xs.length:=by omega
 simp [rd,this]

section
variable {P:Program} {n:Nat} {N:Nxt} {L:Loc} {w w0:World} {ops:Array Oper} {rest:List Oper} {d t:Nat} {pos:String} {aft:Array Edge} {ρ:Hp} {Γ:List Yd} {x y:Operand}

theorem Zad {sl e:Nat} {a:Option Addr} {m c:Nat} (hu:P.underlying sl=some (.slice e)) (hx:ev L x=some (.slice a m c)):Y P n L w (.call { callee:=.builtin .len,args:=#[x],argTypes:=#[sl] }) t (.int .i64 m):=
 λz hz _ _ _ _=>by simp [execOp,resolve,invoke,builtin,hz.ev hx,Builtin.len_,run_underlying hu,goInt]
theorem Um {α:Type} {r:Rep α} {sl e:Nat} {v:Value} {xs:List α} (hu:P.underlying sl=some (.slice e)) (h:SlR r ρ v xs) (hx:ev L x=some v):Y P n L w (.call { callee:=.builtin .len,args:=#[x],argTypes:=#[sl] }) t (.int .i64 xs.length):=by
 obtain ⟨a,c,rfl⟩:=h.shape;exact Zad hu hx
theorem X1 {sl e i sz m:Nat} {v:Value} {cs:List Value} (hu:P.underlying sl=some (.slice e)) (hs:St w0 ρ Γ w) (hi:Γ[i]?=some (.row v e sz m cs)) (hx:ev L x=some v):Y P n L w (.call { callee:=.builtin .len,args:=#[x],argTypes:=#[sl] }) t (.int .i64 m):=by
 have hok:=hs.ok _ (List.mem_of_getElem? hi)
 rcases hok.2 with ⟨rfl,hm⟩ | ⟨g,cap,cur,rfl,_⟩
 ·subst hm;exact Zad hu hx
 ·exact Zad hu hx
theorem Xx {sl:Nat} {s:ByteArray} (hu:P.underlying sl=some .string) (hx:ev L x=some (.string s)):Y P n L w (.call { callee:=.builtin .len,args:=#[x],argTypes:=#[sl] }) t (.int .i64 s.size):=
 λz hz _ _ _ _=>by simp [execOp,resolve,invoke,builtin,hz.ev hx,Builtin.len_,run_underlying hu,goInt]
theorem Zct {sl e sz bytes b o m c:Nat} {k:IntKind} {i:Int} (he:Y9 P sl e sz bytes) (hx:ev L x=some (.slice (some ⟨b,o,none⟩) m c)) (hy:ev L y=some (.int k i)) (h0:0<=i) (h1:i<(m:Int)):Y P n L w (.indexAddr sl x y) t (.pointer (some ⟨b,o+i.toNat*sz,none⟩)):=by
 obtain ⟨j,z,hj,_,hsz,_,_⟩:=he.info;intro a ha _ _ _ _;have hsize:(sizeOf e).run P w=.ok sz w:=by simp [sizeOf,typeInfo,hj,hsz]
 simp only [execOp,Instr.indexAt,ha.ev hx,ha.ev hy,asIntOf,bind_pure_comp,Sem.run_map,Sem.run_bind,Sem.run_pure,Result.andThen,run_underlying he.under];rw [if_pos ⟨h0,h1⟩];simp only [Sem.run_bind,Sem.run_map,hsize,Result.andThen,Addr.add_lit]
theorem SlR.ix {α:Type} [Inhabited α] {r:Rep α} {sl e bytes:Nat} {v:Value} {xs:List α} {i:Int} (h:SlR r ρ v xs) (he:Y9 P sl e r.sz bytes) (h0:0<=i) (h1:i<(xs.length:Int)):
  ∃ b o,At ρ r b o (rd xs i)/\∀ {n:Nat} {L:Loc} {w:World} {x y:Operand} {k:IntKind} {t:TypeId},ev L x=some v->ev L y=some (.int k i)->Y P n L w (.indexAddr sl x y) t (.pointer (some ⟨b,o,none⟩)):=by
 rcases h with ⟨rfl,_⟩ | ⟨b,o,c,rfl,_,h⟩
 ·simp at h1;omega
 ·obtain ⟨cs,h2,h3⟩:=h _ _ (Zaz h0 h1)
  exact ⟨b,o+i.toNat*r.sz,⟨cs,h2,h3⟩,λhx hy=>Zct he hx hy h0 h1⟩
theorem Ki {sl e sz bytes j m:Nat} {v:Value} {cs:List Value} {k:IntKind} {i:Int} {g:Nat} (he:Y9 P sl e sz bytes) (hs:St w0 ρ Γ w) (hi:Γ[j]?=some (.row v e sz m cs)) (hg:v.ownBlock=some g) (hx:ev L x=some v) (hy:ev L y=some (.int k i)) (h0:0<=i) (h1:i<(m:Int)):
  Y P n L w (.indexAddr sl x y) t (.pointer (some ⟨g,i.toNat*sz,none⟩)):=by
 have hok:=hs.ok _ (List.mem_of_getElem? hi)
 rcases hok.2 with ⟨rfl,hm⟩ | ⟨g',cap,cur,rfl,_⟩
 ·cases hg
 ·simp only [Value.ownBlock,Option.some.injEq] at hg
  subst hg;have:=Zct (n:=n) (L:=L) (w:=w) (t:=t) he hx hy h0 h1;simpa using this
theorem St.rowBlock (hs:St w0 ρ Γ w) {j e sz m:Nat} {v:Value} {cs:List Value} (hi:Γ[j]?=some (.row v e sz m cs)) (hm:0<m):∃ g,v.ownBlock=some g:=by
 have hok:=hs.ok _ (List.mem_of_getElem? hi)
 rcases hok.2 with ⟨rfl,h0⟩ | ⟨g',cap,cur,rfl,_⟩
 ·omega
 ·exact ⟨g',rfl⟩
theorem St.rowCell (hs:St w0 ρ Γ w) {j e sz m g k:Nat} {v u:Value} {cs:List Value} (hi:Γ[j]?=some (.row v e sz m cs)) (hg:v.ownBlock=some g) (hu:cs[k]?=some u):w.cell? ⟨g,k,none⟩=some u:=by
 have:=(hs.ok _ (List.mem_of_getElem? hi):w.ownsRow 0 e sz v m cs).cells hg k u hu;simpa [Addr.add_lit] using this
theorem St.rowSet (hs:St w0 ρ Γ w) {j e sz m g k:Nat} {v u:Value} {cs:List Value} (hi:Γ[j]?=some (.row v e sz m cs)) (hg:v.ownBlock=some g) (hk:k<cs.length):St w0 ρ (Γ.set j (.row v e sz m (cs.set k u))) (w.setCell ⟨g,k,none⟩ u):=by
 have hok:w.ownsRow 0 e sz v m cs:=hs.ok _ (List.mem_of_getElem? hi);have hbase:=hs.base g (List.mem_filterMap.2 ⟨_,List.mem_of_getElem? hi,hg⟩);refine hs.turn hi ((Below.refl _ _).setCell (p:=⟨g,k,none⟩) hbase u) (λc _ hc=>Below.heap_setCell _ _ _ _ (λe=>hc (by rw [e];exact hg))) ?_ (.inl rfl);refine ⟨by simp [hok.1],?_⟩
 rcases hok.2 with ⟨rfl,hm⟩ | ⟨g',cap,cur,rfl,h0,hgg,hnc,hcm,hcs,htk⟩
 ·cases hg
 ·simp only [Value.ownBlock,Option.some.injEq] at hg
  subst hg;refine .inr ⟨g',cap,cur.setIfInBounds k u,rfl,h0,?_,hnc,hcm,by simp [hcs],?_⟩
  ·simp [World.setCell,Array.getElem?_modify,hgg]
  ·rw [Array.toList_setIfInBounds,List.take_set,htk]
theorem Hx {ty j e sz m g k:Nat} {v u:Value} {cs:List Value} (hsz:Yc P ty=some 1) (hs:St w0 ρ Γ w) (hi:Γ[j]?=some (.row v e sz m cs)) (hg:v.ownBlock=some g) (hk:k<cs.length) (hx:ev L x=some (.pointer (some ⟨g,k,none⟩))) (hy:ev L y=some u) (h1:u.oneCell'=true)
  (hK:∀ w',St w0 ρ (Γ.set j (.row v e sz m (cs.set k u))) w'->O P n ops rest N L w'):O P n ops (⟨none,.store ty x y,t,pos,aft,none⟩::rest) N L w:=by
 have hc:cs[k]?=some cs[k]:=List.getElem?_eq_getElem hk;refine Hw (w':=w.setCell ⟨g,k,none⟩ u) (λc hcs=>?_) (hK _ (hs.rowSet hi hg hk));have hcell:=hs.rowCell hi hg hc;have hok:w.ownsRow 0 e sz v m cs:=hs.ok _ (List.mem_of_getElem? hi);have hfree:w.frozen? ⟨g,k,none⟩=false:=by
  rcases hok.2 with ⟨rfl,hm⟩ | ⟨g',cap,cur,rfl,h0,hgg,_⟩
  ·cases hg
  ·simp only [Value.ownBlock,Option.some.injEq] at hg
   subst hg;simp [World.frozen?,hgg]
 have hvc:u.cells=#[u]:=by cases u<;>first | rfl | cases h1
 have hadd:(⟨g,k,none⟩:Addr).add 0=⟨g,k,none⟩:=rfl;simp only [execOp,hcs.ev hx,hcs.ev hy,Instr.storeAt,Instr.sureAddr,storeVar,Sem.run_bind,Sem.run_pure,Result.andThen,Zc hsz,hvc];simp [storeCells,hadd,Kv (P:=P) hcell hfree h1]

def Hp.with (ρ:Hp) (g:Nat) (w:World):Hp:=λa=>if a.block=g then Jr w a else ρ a
theorem St.freeze (hs:St w0 ρ Γ w) {j:Nat} {it:Yd} {g:Nat} (hi:Γ[j]?=some it) (hg:it.blk=some g):St w0 (ρ.with g w) (Γ.eraseIdx j) w/\Le ρ (ρ.with g w):=by
 have hsub:(Γ.eraseIdx j).Sublist Γ:=List.eraseIdx_sublist ..;have h1:=hs.sub hsub;have hmem:g∈Γ.filterMap Yd.blk:=List.mem_filterMap.2 ⟨it,List.mem_of_getElem? hi,hg⟩;have hnot:g∉(Γ.eraseIdx j).filterMap Yd.blk:=by
  intro hm;obtain ⟨x,hx,hxb⟩:=List.mem_filterMap.1 hm;obtain ⟨k,hk⟩:=List.getElem?_of_mem hx;rw [List.getElem?_eraseIdx] at hk;split at hk
  ·rename_i hlt
   have:=J0 hs.nodup hi hg k x hk hxb;omega
  ·have:=J0 hs.nodup hi hg (k+1) x hk hxb;omega
 have hle:Le ρ (ρ.with g w):=λa v ha=>by
  unfold Hp.with;rw [if_neg (λe=>hs.clean a v ha (by rw [e];exact hmem))];exact ha
 refine ⟨⟨h1.below,λa v ha=>?_,h1.ok,h1.nodup,h1.base,λa v ha hm=>?_⟩,hle⟩
 ·unfold Hp.with at ha
  split at ha
  ·exact ha
  ·exact hs.sees a v ha
 ·unfold Hp.with at ha
  split at ha
  ·rename_i e;rw [e] at hm;exact hnot hm
  ·exact h1.clean a v ha hm
theorem St.rowDone {α:Type} (hs:St w0 ρ Γ w) (r:Rep α) {j e m:Nat} {v:Value} {cs:List Value} {xs:List α} (hi:Γ[j]?=some (.row v e r.sz m cs)) (hm:m=xs.length)
  (hel:∀ i x,xs[i]?=some x->∃ c,r.R ρ c x/\∀ k u,c[k]?=some u->cs[i*r.sz+k]?=some u):∃ ρ',St w0 ρ' (Γ.eraseIdx j) w/\Le ρ ρ'/\SlR r ρ' v xs:=by
 have hok:w.ownsRow 0 e r.sz v m cs:=hs.ok _ (List.mem_of_getElem? hi)
 cases hg:v.ownBlock with
 | none=>
  rcases hok.2 with ⟨rfl,h0⟩ | ⟨g,cap,cur,rfl,_⟩
  ·refine ⟨ρ,hs.sub (List.eraseIdx_sublist ..),Le.rfl' ρ,.inl ⟨?_,none,0,rfl⟩⟩
   subst h0;exact List.eq_nil_of_length_eq_zero hm.symm
  ·cases hg
 | some g=>
  obtain ⟨h1,h2⟩:=hs.freeze hi hg;refine ⟨_,h1,h2,?_⟩
  rcases hok.2 with ⟨rfl,h0⟩ | ⟨g',cap,cur,rfl,_,_,hnc,_⟩
  ·cases hg
  ·simp only [Value.ownBlock,Option.some.injEq] at hg
   subst hg;refine .inr ⟨g',0,cap,by rw [hm],by omega,λi x hx=>?_⟩;obtain ⟨c,h3,h4⟩:=hel i x hx;refine ⟨c,r.mono h2 h3,λk u hu=>?_⟩;have:=hs.rowCell (g:=g') hi rfl (h4 k u hu);unfold Hp.with;simp only [if_true,Nat.zero_add];exact this
def Z3 {α:Type} (r:Rep α) (ρ:Hp) (cs:List Value) (xs:List α):Prop:=
 cs.length=xs.length*r.sz/\∀ i x,xs[i]?=some x->∃ c,r.R ρ c x/\∀ k u,c[k]?=some u->cs[i*r.sz+k]?=some u
theorem Z3.mono {α:Type} {r:Rep α} {ρ ρ':Hp} {cs:List Value} {xs:List α} (hle:Le ρ ρ') (h:Z3 r ρ cs xs):Z3 r ρ' cs xs:=
 ⟨h.1,λi x hx=>by obtain ⟨c,h1,h2⟩:=h.2 i x hx;exact ⟨c,r.mono hle h1,h2⟩⟩
theorem Z3.nil {α:Type} (r:Rep α) (ρ:Hp):Z3 r ρ [] []:=⟨by simp,λi x hx=>by simp at hx⟩
theorem Z3.one' {α:Type} {r:Rep α} {ρ:Hp} {c:List Value} {x:α} (h:r.R ρ c x):Z3 r ρ c [x]:=
 ⟨by rw [r.len h];simp,λi y hy=>by
  cases i with
  | zero=>simp at hy;subst hy;exact ⟨c,h,λk u hu=>by simpa using hu⟩
  | succ i=>simp at hy⟩
theorem Z3.append {α:Type} {r:Rep α} {ρ:Hp} {cs ds:List Value} {xs ys:List α} (h:Z3 r ρ cs xs) (g:Z3 r ρ ds ys):Z3 r ρ (cs++ds) (xs++ys):=by
 refine ⟨by simp [h.1,g.1,Nat.add_mul],λi x hx=>?_⟩;rw [List.getElem?_append] at hx;split at hx
 ·obtain ⟨c,h1,h2⟩:=h.2 i x hx
  refine ⟨c,h1,λk u hu=>?_⟩;have:=h2 k u hu;rw [List.getElem?_append_left (List.getElem?_eq_some_iff.1 this).1];exact this
 ·obtain ⟨c,h1,h2⟩:=g.2 _ x hx
  refine ⟨c,h1,λk u hu=>?_⟩;have:=h2 k u hu;have hge:xs.length<=i:=by omega
  have e:i*r.sz+k=cs.length+((i-xs.length)*r.sz+k):=by rw [h.1,Nat.sub_mul];have:=Nat.mul_le_mul_right r.sz hge;omega
  rw [e,List.getElem?_append_right (by omega),Nat.add_sub_cancel_left];exact this
theorem Z3.cons {α:Type} {r:Rep α} {ρ:Hp} {c ds:List Value} {x:α} {ys:List α} (h:r.R ρ c x) (g:Z3 r ρ ds ys):Z3 r ρ (c++ds) (x::ys):=(Z3.one' h).append g
theorem Z3.ones {α:Type} {r:Rep α} {ρ:Hp} {cs:List Value} {xs:List α} (h:Z3 r ρ cs xs):∀ u∈cs,u.oneCell'=true:=by
 intro u hu;obtain ⟨p,hp⟩:=List.getElem?_of_mem hu;have hlt:p<xs.length*r.sz:=by rw [<- h.1];exact (List.getElem?_eq_some_iff.1 hp).1
 have hpos:0<r.sz:=by
  rcases Nat.eq_zero_or_pos r.sz with e | e
  ·rw [e] at hlt;omega
  ·exact e
 have hi:p/r.sz<xs.length:=(Nat.div_lt_iff_lt_mul hpos).2 hlt;obtain ⟨c,h1,h2⟩:=h.2 (p/r.sz) _ (List.getElem?_eq_getElem hi);have hk:p%r.sz<c.length:=by rw [r.len h1];exact Nat.mod_lt _ hpos
 have:=h2 (p%r.sz) _ (List.getElem?_eq_getElem hk);rw [Nat.div_add_mod' p r.sz,hp] at this;obtain rfl:=Option.some.inj this;exact r.one h1 _ (List.getElem_mem hk)
theorem Z3.at {α:Type} [Inhabited α] {r:Rep α} {ρ:Hp} {cs:List Value} {xs:List α} (h:Z3 r ρ cs xs) {i:Int} (h0:0<=i) (h1:i<(xs.length:Int)):∃ c,r.R ρ c (rd xs i)/\∀ k u,c[k]?=some u->cs[i.toNat*r.sz+k]?=some u:=h.2 _ _ (Zaz h0 h1)
theorem St.rowEnd {α:Type} {r:Rep α} (hs:St w0 ρ Γ w) {j e:Nat} {v:Value} {cs:List Value} {xs:List α} (hr:Z3 r ρ cs xs) (hi:Γ[j]?=some (.row v e r.sz xs.length cs)):∃ ρ',Le ρ ρ'/\St w0 ρ' (Γ.eraseIdx j) w/\SlR r ρ' v xs:=by
 obtain ⟨ρ',h1,h2,h3⟩:=hs.rowDone r hi rfl hr.2;exact ⟨ρ',h2,h1,h3⟩
theorem Src.row (hs:St w0 ρ Γ w) {j e sz m:Nat} {v:Value} {cs:List Value} (hi:Γ[j]?=some (.row v e sz m cs)) (h1:∀ u∈cs,u.oneCell'=true):Src w sz v m cs:=by
 have hok:w.ownsRow 0 e sz v m cs:=hs.ok _ (List.mem_of_getElem? hi);refine ⟨?_,hok.1,h1⟩
 rcases hok.2 with ⟨rfl,h0⟩ | ⟨g,cap,cur,rfl,_⟩
 ·exact ⟨none,0,by rw [h0],λ_=>h0,λad h=>by cases h⟩
 ·refine ⟨_,cap,rfl,λh=>(by cases h),λad had k u hu=>?_⟩
  obtain rfl:=Option.some.inj had;exact hok.cells rfl k u hu
theorem Src.nil (sz:Nat):Src w sz (.slice none 0 0) 0 []:=⟨⟨none,0,rfl,λ_=>rfl,λ_ h=>by cases h⟩,by simp,λ_ h=>by cases h⟩
theorem Src.sl {α:Type} {r:Rep α} {v:Value} {xs:List α} (hs:St w0 ρ Γ w) (h:SlR r ρ v xs):∃ cs,Src w r.sz v xs.length cs/\Z3 r ρ cs xs:=by
 rcases h with ⟨rfl,a,c,rfl⟩ | ⟨b,o,c,rfl,_,h⟩
 ·exact ⟨[],⟨⟨a,c,rfl,λ_=>rfl,λad _ j u hu=>by simp at hu⟩,by simp,λu hu=>by cases hu⟩,Z3.nil r ρ⟩
 ·
  have key:∀ (m:Nat),m<=xs.length->∃ cs,Z3 r ρ cs (xs.take m)/\∀ j u,cs[j]?=some u->ρ ⟨b,o+j,none⟩=some u:=by
   intro m
   induction m with
   | zero=>intro _;exact ⟨[],by simpa using Z3.nil r ρ,λj u hu=>by simp at hu⟩
   | succ m ih=>
    intro hm;obtain ⟨cs,h1,h2⟩:=ih (by omega);have hlt:m<xs.length:=by omega
    obtain ⟨c,h3,h4⟩:=h m _ (List.getElem?_eq_getElem hlt);refine ⟨cs++c,?_,λj u hu=>?_⟩
    ·rw [List.take_add_one,List.getElem?_eq_getElem hlt]
     exact h1.append (Z3.one' h3)
    ·rw [List.getElem?_append] at hu
     split at hu
     ·exact h2 j u hu
     ·have hl:cs.length=m*r.sz:=by rw [h1.1,List.length_take,Nat.min_eq_left (by omega)]
      have:=h4 _ u hu;rw [hl] at this;rw [show o+j=o+m*r.sz+(j-m*r.sz) from by omega];exact this
  obtain ⟨cs,h1,h2⟩:=key xs.length (Nat.le_refl _);rw [List.take_length] at h1;refine ⟨cs,⟨⟨_,c,rfl,λh=>(by cases h),λad had j u hu=>?_⟩,h1.1,h1.ones⟩,h1⟩;obtain rfl:=Option.some.inj had;rw [Addr.add_lit];exact hs.see (h2 j u hu)
theorem Qt {α:Type} {r:Rep α} {sl e bytes i:Nat} {v u:Value} {cs news:List Value} {xs ys:List α} (he:Y9 P sl e r.sz bytes) (hs:St w0 ρ Γ w) (hi:Γ[i]?=some (.row v e r.sz xs.length cs)) (hr:Z3 r ρ cs xs)
  (hd:Nat.blt d n=true) (hx:ev L x=some v) (hy:ev L y=some u) (hsrc:Src w r.sz u ys.length news) (hn:Z3 r ρ news ys) {lim:Nat} (hb:xs.length+ys.length<=lim)
  (k:∀ v' cs' w',Z3 r ρ cs' (xs++ys)->St w0 ρ (Γ.set i (.row v' e r.sz (xs++ys).length cs')) w'->O P n ops rest N ((d,v')::L) w') (hl:G0 lim bytes=true:=by exact rfl):
  O P n ops (⟨some d,.call { callee:=.builtin .append,args:=#[x,y],argTypes:=#[sl,sl] },t,pos,aft,none⟩::rest) N L w:=
 Zac he hs hi hd hx hy hsrc hb (λv' w' h=>k v' _ w' (hr.append hn) (by rw [List.length_append];exact h)) hl
theorem Src.lit {α:Type} {r:Rep α} (hs:St w0 ρ Γ w) {j e:Nat} {v:Value} {cs:List Value} {ys:List α} (hi:Γ[j]?=some (.row v e r.sz ys.length cs)) (hr:Z3 r ρ cs ys):Src w r.sz v ys.length cs:=Src.row hs hi hr.ones
def sub {α:Type} (xs:List α) (lo hi:Int):List α:=(xs.take hi.toNat).drop lo.toNat
theorem Xz {v:Value} {k:IntKind} {i:Int} {y:Nat} {c:BoundsCode} (hv:v=.int k i) (h0:0<=i) (h1:i<=(y:Int)):(Instr.sliceBound v y c).run P w=.ok i.toNat w:=by
 subst hv;simp only [Instr.sliceBound,asIntOf,Sem.run_bind,Sem.run_pure,Result.andThen,if_pos (And.intro h0 h1)]
theorem SlR.part {α:Type} {r:Rep α} {v:Value} {xs:List α} {lo hi:Int} (h:SlR r ρ v xs) (h0:0<=lo) (h1:lo<=hi) (h2:hi<=(xs.length:Int)) {a:Option Addr} {m c:Nat} (hv:v=.slice a m c) (hm:hi<=(m:Int)) (hmc:m<=c):
  SlR r ρ (.slice (if c=lo.toNat then a else a.map (·.add (lo.toNat*r.sz))) (hi.toNat-lo.toNat) (c-lo.toNat)) (sub xs lo hi):=by
 have hlen:(sub xs lo hi).length=hi.toNat-lo.toNat:=by simp [sub];omega
 by_cases he:hi.toNat-lo.toNat=0
 ·left
  refine ⟨List.eq_nil_of_length_eq_zero (by rw [hlen,he]),?_⟩;rw [he];exact ⟨_,_,rfl⟩
 ·rcases h with ⟨rfl,_⟩ | ⟨b,o,c',hv',_,hx⟩
  ·simp at h2;omega
  ·rw [hv'] at hv
   simp only [Value.slice.injEq] at hv;obtain ⟨rfl,hml,rfl⟩:=hv;have hne:¬ c'=lo.toNat:=by omega
   right;refine ⟨b,o+lo.toNat*r.sz,c'-lo.toNat,?_,by rw [hlen];omega,λi x hi'=>?_⟩
   ·rw [if_neg hne,hlen];simp [Addr.add_lit]
   ·have hi2:xs[lo.toNat+i]?=some x:=by
     simp only [sub,List.getElem?_drop] at hi';rw [List.getElem?_take] at hi';split at hi'
     ·exact hi'
     ·cases hi'
    obtain ⟨cs,h3,h4⟩:=hx _ _ hi2;refine ⟨cs,h3,λj u hu=>?_⟩;have:=h4 j u hu;rw [Nat.add_mul] at this;rw [show o+lo.toNat*r.sz+i*r.sz+j=o+(lo.toNat*r.sz+i*r.sz)+j from by omega];exact this
theorem Zbn {sl e sz bytes:Nat} {a:Option Addr} {m c:Nat} {lo hi:Option Operand} {l h:Int} (he:Y9 P sl e sz bytes) (hx:ev L x=some (.slice a m c)) (hl:(lo=none/\l=0)\/∃ z k,lo=some z/\ev L z=some (.int k l)) (hh:(hi=none/\h=m)\/∃ z k,hi=some z/\ev L z=some (.int k h))
  (h0:0<=l) (h1:l<=h) (h2:h<=(m:Int)) (hmc:m<=c):Y P n L w (.slice sl x lo hi none) t (.slice (if c=l.toNat then a else a.map (·.add (l.toNat*sz))) (h.toNat-l.toNat) (c-l.toNat)):=by
 obtain ⟨j,z,hj,_,hsz,_,_⟩:=he.info;intro q hq _ _ _ _;have hsize:(sizeOf e).run P w=.ok sz w:=by simp [sizeOf,typeInfo,hj,hsz]
 have hb:(Instr.sliceBounds true m c (lo.map q.eval) (hi.map q.eval) none).run P w=.ok (l.toNat,h.toNat,c) w:=by
  rcases hl with ⟨rfl,rfl⟩ | ⟨zl,kl,rfl,hzl⟩<;>rcases hh with ⟨rfl,rfl⟩ | ⟨zh,kh,rfl,hzh⟩
  ·simp [Instr.sliceBounds]
  ·have e1:=Xz (P:=P) (w:=w) (c:=.sliceAcap) (hq.ev hzh) (by omega) (show h<=(c:Int) by omega)
   simp [Instr.sliceBounds,e1]
  ·have e1:=Xz (P:=P) (w:=w) (c:=.sliceB) (hq.ev hzl) h0 h1
   simp [Instr.sliceBounds,e1]
  ·have e1:=Xz (P:=P) (w:=w) (c:=.sliceAcap) (hq.ev hzh) (by omega) (show h<=(c:Int) by omega)
   have e2:=Xz (P:=P) (w:=w) (c:=.sliceB) (hq.ev hzl) h0 (show l<=(h.toNat:Int) by omega);simp [Instr.sliceBounds,e1,e2]
 simp [execOp,Instr.sliceAt,Instr.slice,hq.ev hx,run_underlying he.under,hb,hsize]
theorem SlR.cut {α:Type} {r:Rep α} {v:Value} {xs:List α} {sl e bytes:Nat} (f:SlR r ρ v xs) (he:Y9 P sl e r.sz bytes) {l h:Int} (h0:0<=l) (h1:l<=h) (h2:h<=(xs.length:Int)):
  ∃ v',SlR r ρ v' (sub xs l h)/\∀ {n:Nat} {L:Loc} {w:World} {x:Operand} {t:TypeId} {lo hi:Option Operand},ev L x=some v->((lo=none/\l=0)\/∃ z k,lo=some z/\ev L z=some (.int k l))->((hi=none/\h=(xs.length:Int))\/∃ z k,hi=some z/\ev L z=some (.int k h))->Y P n L w (.slice sl x lo hi none) t v':=by
 obtain ⟨a,c,rfl,hc⟩:=f.fits;exact ⟨_,f.part h0 h1 h2 rfl h2 hc,λhx hl hh=>Zbn he hx hl hh h0 h1 h2 hc⟩
theorem Yt:∀ v∈([]:List Value),v.oneCell'=true:=λ_ h=>by cases h
theorem Za {a:Value} {l:List Value} (h:a.oneCell'=true) (hl:∀ v∈l,v.oneCell'=true):∀ v∈a::l,v.oneCell'=true:=λv hv=>by
 rcases List.mem_cons.1 hv with rfl | hv
 ·exact h
 ·exact hl v hv
theorem X8 {s:Nat}:∀ v∈([]:List Value),v.cells.size=s:=λ_ h=>by cases h
theorem Y8 {a:Value} {s:Nat} {l:List Value} (h:a.cells.size=s) (hl:∀ v∈l,v.cells.size=s):∀ v∈a::l,v.cells.size=s:=λv hv=>by
 rcases List.mem_cons.1 hv with rfl | hv
 ·exact h
 ·exact hl v hv
theorem bnd {α β:Type} {o:Option α} {f:α->Option β} {b:β} (h:o.bind f=some b):∃ a,o=some a/\f a=some b:=Option.bind_eq_some_iff.1 h
end
end
section
open Go.RowKit

def K0:Nat:=1180591620717411303424
theorem Sub.nil {L:Loc}:Sub [] L:=trivial
theorem Sub.cons {L t:Loc} {d:Nat} {v:Value} (h:Go.Proofs.YtkjnmjhkekknnaaGreatDoor.lk d L=some v) (ht:Sub t L):Sub ((d,v)::t) L:=⟨h,ht⟩

section
variable {P:Program} {n:Nat} {N:Nxt} {X:Nat->Nxt} {R:Nxt} {L:Loc} {w w0:World} {ops:Array Oper} {rest:List Oper} {d t:Nat} {pos:String} {aft:Array Edge} {ρ:Hp} {Γ:List Yd} {x y:Operand}

theorem Ye {x y:Code} (h:∀ N':Nxt,(∀ L w,W P n y N X R L w->N' L w)->(∀ L L' w,Sub L' L->N' L' w->N' L w)->W P n x N' X R L w):W P n (.seq x y) N X R L w:=by
 intro a ha;refine wp_seq (wp_mono (h (λL w=>W P n y N X R L w) (λ_ _ h=>h) (λL L' w hs hw=>W.weak L' hs hw) a ha) ?_);intro e a' w' hq
 cases e with
 | normal=>obtain ⟨L',hs,hw⟩:=hq;exact hw a' hs
 | exit i=>exact hq
 | ret=>exact hq
 | goto l=>exact hq
 | panic c=>exact hq
 | outgrown=>exact hq

def bt (s:ByteArray) (i:Int):Int:=((s.data.getD i.toNat 0).toNat:Int)
theorem Vt {sl:Nat} {s:ByteArray} {k:IntKind} {i:Int} (hu:P.underlying sl=some .string) (hx:ev L x=some (.string s)) (hy:ev L y=some (.int k i)) (h0:0<=i) (h1:i<(s.size:Int)):Y P n L w (.index sl x y) t (.int .u8 (bt s i)):=
 λa ha _ _ _ _=>by
  have hlt:i.toNat<s.size:=by omega
  have hlt':i.toNat<s.data.size:=hlt
  have e:s[i.toNat]?=some s[i.toNat]:=getElem?_pos s i.toNat hlt
  simp only [execOp,Instr.index,ha.ev hx,ha.ev hy,asIntOf,bind_pure_comp,Sem.run_map,Sem.run_bind,Sem.run_pure,Result.andThen,run_underlying hu,h0,if_true,e]
  have e2:bt s i=(s[i.toNat].toNat:Int):=by
   simp only [bt,Array.getD_eq_getD_getElem?,getElem?_pos s.data i.toNat hlt',Option.getD_some];rfl
  rw [e2]

def K9 (P:Program) (t:Nat):Option (List (Nat×Nat)):=
 match P.underlying t with
 | some (.struct fs)=>fs.toList.mapM λf=>(P.info? f.type).map λi=>(f.offset,i.size)
 | _=>none
def Xs (L:Loc):List (Nat×Operand)->List (Nat×List Value)->Prop
 | [],[]=>True
 | (i,x)::t,(j,c)::u=>i=j/\(∃ v,ev L x=some v/\v.cells.toList=c)/\Xs L t u
 | _,_=>False
theorem Xs.nil:Xs L [] []:=trivial
theorem Xs.cons {i:Nat} {x:Operand} {c:List Value} {v:Value} {ps:List (Nat×Operand)} {cs:List (Nat×List Value)} (hx:ev L x=some v) (hc:v.cells.toList=c) (h:Xs L ps cs):Xs L ((i,x)::ps) ((i,c)::cs):=⟨rfl,⟨v,hx,hc⟩,h⟩
def Hj (ps:List (Nat×Nat)):List Value->List (Nat×List Value)->Option (List Value)
 | cs,[]=>some cs
 | cs,(i,c)::t=>match ps[i]? with
  | some (off,sz)=>bif Nat.beq c.length sz&&Nat.ble (off+c.length) cs.length then Hj ps (cs.take off++c++cs.drop (off+c.length)) t else none
  | none=>none
theorem J4 (ps:List (Nat×Nat)) {a:Act} (ha:Sat n L a):∀ (parts:List (Nat×Operand)) (css:List (Nat×List Value)) (cs out:List Value),Xs L parts css->Hj ps cs css=some out->
  Instr.fill (ps.toArray[·]?) cs.toArray (parts.map λp=>(p.1,a.eval p.2))=some out.toArray
 | [],[],cs,out,_,h=>by simp only [Hj,Option.some.injEq] at h;subst h;rfl
 | [],_::_,_,_,h,_=>h.elim
 | _::_,[],_,_,h,_=>h.elim
 | (i,x)::t,(j,c)::u,cs,out,h,hf=>by
  obtain ⟨rfl,⟨v,hv,hc⟩,ht⟩:=h
  simp only [Hj] at hf
  cases hp:ps[i]? with
  | none=>rw [hp] at hf;cases hf
  | some q=>
   obtain ⟨off,sz⟩:=q
   rw [hp] at hf
   simp only [] at hf
   cases hb:(Nat.beq c.length sz&&Nat.ble (off+c.length) cs.length) with
   | false=>rw [hb] at hf;cases hf
   | true=>
    rw [hb] at hf
    simp only [cond_true] at hf
    simp only [Bool.and_eq_true] at hb
    have h1:=Nat.eq_of_beq_eq_true hb.1
    have h2:=Nat.le_of_ble_eq_true hb.2
    have hsz:v.cells.size=c.length:=by rw [<- hc];simp
    simp only [List.map_cons,ha.ev hv,Instr.fill]
    have hp':ps.toArray[i]?=some (off,sz):=by simpa using hp
    rw [hp']
    simp only []
    have hno:(decide (v.cells.size≠sz)||decide (off+v.cells.size>cs.toArray.size))=false:=by simp;omega
    rw [if_neg (by rw [hno];exact Bool.false_ne_true)]
    rw [Kc v.cells off cs.toArray (by simp;omega)]
    simp only [hc,hsz]
    exact J4 ps ha t u _ _ ht hf
theorem Kh {ty:Nat} {zs cs:List Value} {ps:List (Nat×Nat)} {parts:List (Nat×Operand)} {css:List (Nat×List Value)} (hz:Xn P ty=some zs) (hp:K9 P ty=some ps) (hx:Xs L parts css) (hs:Z4 P ty=some true) (hf:Hj ps zs css=some cs):Y P n L w (.build ty parts.toArray) t (.agg cs.toArray):=by
 intro a ha _ _ _ _;obtain ⟨i,hi,hzi⟩:=Option.bind_eq_some_iff.1 hz;obtain ⟨z,hzz,rfl⟩:=Option.map_eq_some_iff.1 hzi;have hzv:(zeroValue ty).run P w=.ok z w:=by simp [zeroValue,typeInfo,hi,hzz]
 unfold K9 at hp;split at hp
 ·rename_i fs hfs
  have hm:(fs.mapM λf=>(do pure (f.offset,<- sizeOf f.type):Sem (Nat×Nat))).run P w=.ok ps.toArray w:=by
   have key:∀ (l:List Field) (qs:List (Nat×Nat)),(l.mapM λf=>(P.info? f.type).map λi=>(f.offset,i.size))=some qs->(l.mapM λf=>(do pure (f.offset,<- sizeOf f.type):Sem (Nat×Nat))).run P w=.ok qs w:=by
    intro l
    induction l with
    | nil=>intro qs h;simp at h;subst h;rfl
    | cons f l ih=>
     intro qs h;simp only [List.mapM_cons,bind_pure_comp,Option.bind_eq_bind,Option.bind_eq_some_iff,Option.map_eq_some_iff] at h;obtain ⟨q,⟨inf,hinf,rfl⟩,h⟩:=h;simp only [Option.map_eq_map,Option.map_eq_some_iff] at h;obtain ⟨qs',hqs,rfl⟩:=h;have:=ih qs' hqs;simp [List.mapM_cons,sizeOf,typeInfo,hinf];simp [sizeOf,typeInfo] at this;rw [this];rfl
   have:=key fs.toList ps hp;rw [Array.mapM_eq_mapM_toList];simp only [bind_pure_comp] at this ⊢;rw [Sem.run_map,this];rfl
  have hfill:=J4 ps ha parts css z.cells.toList cs hx hf;simp only [execOp,Instr.build,bind_pure_comp,Sem.run_map,Sem.run_bind,hzv,Result.andThen,run_underlying hfs];simp only [bind_pure_comp] at hm;rw [hm];simp only [Result.andThen];rw [Array.toArray_toList] at hfill;simp only [List.map_toArray];rw [hfill];rfl
 ·cases hp

theorem Hb {α:Type} [Inhabited α] {r:Rep α} {ty j e g:Nat} {v u:Value} {cs:List Value} {xs:List α} {i:Int} {z:α} (hsz:Yc P ty=some 1) (hs:St w0 ρ Γ w) (hi:Γ[j]?=some (.row v e r.sz xs.length cs)) (hg:v.ownBlock=some g) (h0:0<=i) (h1:i<(xs.length:Int)) (hr:Z3 r ρ cs xs) (hx:ev L x=some (.pointer (some ⟨g,i.toNat*r.sz,none⟩))) (hy:ev L y=some u) (hu:r.R ρ [u] z)
  (hK:∀ cs' w',Z3 r ρ cs' (xs.set i.toNat z)->St w0 ρ (Γ.set j (.row v e r.sz (xs.set i.toNat z).length cs')) w'->O P n ops rest N L w'):O P n ops (⟨none,.store ty x y,t,pos,aft,none⟩::rest) N L w:=by
 have h1z:r.sz=1:=by have:=r.len hu;simpa using this.symm
 have hlt:i.toNat<xs.length:=by omega
 have hk:i.toNat*r.sz<cs.length:=by rw [hr.1];rw [h1z];omega
 refine Hx hsz hs hi hg hk hx hy (r.one hu u (List.mem_singleton.2 rfl)) λw' h=>hK _ w' ?_ (by rw [List.length_set];exact h);refine ⟨by simp [hr.1],λp q hq=>?_⟩;rw [List.getElem?_set] at hq;by_cases hp:i.toNat=p
 ·subst hp
  rw [if_pos rfl,if_pos hlt] at hq;obtain rfl:=Option.some.inj hq;refine ⟨[u],hu,λk a ha=>?_⟩
  cases k with
  | zero=>simp at ha;subst ha;simp [hk]
  | succ k=>simp at ha
 ·rw [if_neg hp] at hq
  obtain ⟨c,h2,h3⟩:=hr.2 p q hq;refine ⟨c,h2,λk a ha=>?_⟩;have hkl:k<r.sz:=by rw [<- r.len h2];exact (List.getElem?_eq_some_iff.1 ha).1
  rw [List.getElem?_set_ne (by rw [h1z] at hkl ⊢;omega)];exact h3 k a ha
theorem G2 {fn:Func} {S:Value->World->Prop} {i b T ty k tm:Nat} {cs:List Value} (hr:fn.results=#[.cell tm ty]) (hl:lk tm L=some (.pointer (some ⟨b,0,none⟩))) (ha:Z4 P ty=some true) (hsz:Yc P ty=some k) (hs:St w0 ρ Γ w) (hi:Γ[i]?=some (.box b T cs)) (hk:cs.length=k) (h:S (.agg cs.toArray) w):
  Ret P n fn S L w:=by
 refine ⟨_,λa hsat=>?_,h⟩;subst hk;have:=Yy (P:=P) (w:=w) (a:=⟨b,0,none⟩) cs 0 #[] (λj u hu=>by rw [Nat.zero_add,Addr.add_lit,Nat.zero_add];exact hs.boxCell hi hu);have hx:=hsat.get tm _ hl;have h2:(loadVar ty ⟨b,0,none⟩).run P w=.ok (.agg cs.toArray) w:=by simp [loadVar,Ze ha,Zc hsz,loadCells,this]
 have hx':a.tmps[tm]?.getD undef=.pointer (some ⟨b,0,none⟩):=by simpa using hx
 simp [results,hr,hx',asAddr,h2]
theorem Kq {a:Act} (ha:Sat n L a) {j dj:Nat} (hj:(ops[j]?).bind (·.dst)=some dj) (hl:lk dj L=some undef):yielded ops a.tmps j=none:=by
 unfold yielded;rw [hj];have:=ha.get dj _ hl;simp only [Option.bind_some]
 cases hx:a.tmps[dj]? with
 | none=>rfl
 | some u=>simp [hx] at this;subst this;rfl
theorem Xr {j:Nat} {b:Bool} {dj:Nat} {op:Op} (hj:(ops[j]?).bind (·.dst)=some dj) (hl:lk dj L=some undef) (hd:Nat.blt d n=true)
  (h:O P n ops rest N ((d,undef)::L) w):O P n ops (⟨some d,op,t,pos,aft,some (j,b)⟩::rest) N L w:=by
 intro a ha;unfold wpList;simp only [Region.wanted,Kq ha hj hl];exact h _ (ha.put hd undef)
end
theorem Jg {P:Program} {ops:Array Oper} {Q:Exit->Act->World->Prop} {late late':List Nat} {J J':World->Prop}:∀ (fuel:Nat) (listed:Array Bool) (a:Act) (w:World),(∀ i,listed[i]?=some false->late.contains i=true)->
  Qm P ops Q late' J' fuel listed a w->Qm P ops Q late J fuel listed a w
 | 0,_,_,_,_,h=>h
 | fuel+1,listed,a,w,hl,h=>⟨h.1,λi hi=>by
   refine wpOp_mono (λa' w' hk=>⟨λhn _=>?_,Jg fuel _ a' w' (λj hj=>?_) hk.2⟩) (h.2 i hi)
   ·have hiun:=(mem_ready.1 hi).1
    have hilt:i<listed.size:=by
     rcases Nat.lt_or_ge i listed.size with h' | h'
     ·exact h'
     ·simp [Array.getElem?_eq_none h'] at hiun
    have:=hl i (by simp [hilt] at hiun ⊢;exact hiun);rw [this] at hn;cases hn
   ·apply hl
    rw [Array.getElem?_setIfInBounds] at hj
    split at hj
    ·split at hj<;>cases hj
    ·exact hj⟩
theorem Zab {P:Program} {n:Nat} {ops:Array Oper} {late:List Nat} {J:World->Prop} {fuel:Nat} {done:List Nat} {N:Nxt} {L:Loc} {w:World} (late':List Nat) (J':World->Prop)
  (hl:((List.range ops.size).all λi=>done.contains i||late.contains i)=true) (h:OD P n ops late' J' fuel done N L w):OD P n ops late J fuel done N L w:=by
 intro a ha;refine Jg fuel _ a w (λi hi=>?_) (h a ha);have hlt:i<ops.size:=by have:=(Array.getElem?_eq_some_iff.1 hi).1;simpa [Zau] using this
 have h2:=List.all_eq_true.1 hl i (List.mem_range.2 hlt);have h3:(lst ops.size done).getD i false=false:=by simp [Array.getD_eq_getD_getElem?,hi]
 rw [Gs hlt] at h3;rw [h3] at h2;simpa using h2
def NN (_ρ:Hp) (v:Value) (_x:Unit):Prop:=∃ a:Addr,v=.pointer (some a)
theorem NN.one {ρ:Hp} {v:Value} {x:Unit} (h:NN ρ v x):v.oneCell'=true:=by obtain ⟨a,rfl⟩:=h;rfl
theorem NN.mono {ρ ρ':Hp} {v:Value} {x:Unit} (_:Le ρ ρ') (h:NN ρ v x):NN ρ' v x:=h
end
section
open Go.RowKit Go.MapKept

section
variable {κ:Type} [DecidableEq κ]
def Vj:List (κ×Value)->κ->Nat->Option (Nat×Value)
 | [],_,_=>none
 | p::l,x,i=>if x=p.1 then some (i,p.2) else Vj l x (i+1)
def K6 (enc:κ->Value):List (κ×Value)->Nat->List MapEntry
 | [],_=>[]
 | p::l,i=>⟨enc p.1,p.2,i⟩::K6 enc l (i+1)
omit [DecidableEq κ] in
omit [DecidableEq κ] in
end

structure Uk (P:Program) (t:TypeId) (κ:Type) [DecidableEq κ] where
 enc:κ->Value
 dom:κ->Prop
 fine:∀ (e:Bool) (x:κ) (w:World),dom x->(Instr.checkKey e 10000 t (enc x)).run P w=.ok () w
 find:∀ (l:List (κ×Value)) (x:κ) (w:World),dom x->(∀ p∈l,dom p.1)->(Instr.findKey t (enc x) (K6 enc l 0)).run P w=.ok (Vj l x 0) w
 same:∀ x,dom x->Instr.sameBits 10000 (enc x) (enc x)=true

theorem Zal {P:Program} {t:TypeId} {κ:Type} [DecidableEq κ] {enc:κ->Value} {dom:κ->Prop} (heq:∀ (x y:κ) (w:World),dom x->dom y->(Op.equal t (enc x) (enc y)).run P w=.ok (decide (x=y)) w):
  ∀ (l:List (κ×Value)) (x:κ) (w:World) (i b:Nat),dom x->(∀ p∈l,dom p.1)->(Instr.findAsking t (enc x) (K6 enc l b) i).run P w=.ok (Vj l x i) w:=by
 intro l
 induction l with
 | nil=>intro x w i b _ _;simp [K6,Instr.findAsking,Vj]
 | cons p l ih=>
  intro x w i b hx hl;simp only [K6,Instr.findAsking,Sem.run_bind,heq x p.1 w hx (hl p (List.mem_cons_self ..)),Result.andThen,Vj];by_cases h:x=p.1
  ·simp [h]
  ·simp only [h,decide_false,Bool.false_eq_true,if_false]
   exact ih x w (i+1) (b+1) hx (λq hq=>hl q (List.mem_cons_of_mem _ hq))

theorem V5 (a b:ByteArray):(a == b)=decide (a=b):=by
 by_cases e:a=b
 ·subst e;cases a;rename_i d;show (d == d)=_;simp
 ·cases a;cases b;rename_i c d;show (c == d)=_;simp at e;simp [e]

def Uk.int {P:Program} {t:TypeId} {k:IntKind} (hu:P.underlying t=some (.int k)):Uk P t Int where
 enc x:=.int k x
 dom _:=True
 fine e x w _:=run_checkKey hu (by simp [IsKey]) e 9999
 find l x w _ _:=by
  have key:∀ (l:List (Int×Value)) (i b:Nat),Instr.findNow (.int k) (.int k x) (K6 (λx=>.int k x) l b) i=some (Vj l x i):=by
   intro l
   induction l with
   | nil=>intro i b;rfl
   | cons p l ih=>
    intro i b
    simp only [K6,Instr.findNow,Instr.sameNow,if_true,Vj]
    by_cases h:x=p.1
    ·simp [h]
    ·have:(x == p.1)=false:=by simpa using h
     simp [this,h,ih]
  simp [Instr.findKey,run_underlying hu,key]
 same x _:=by simp [Instr.sameBits]
def Uk.str {P:Program} {t:TypeId} (hu:P.underlying t=some .string):Uk P t ByteArray where
 enc x:=.string x
 dom _:=True
 fine e x w _:=run_checkKey hu (by simp [IsKey]) e 9999
 find l x w _ _:=by
  have key:∀ (l:List (ByteArray×Value)) (i b:Nat),Instr.findNow .string (.string x) (K6 (λx=>.string x) l b) i=some (Vj l x i):=by
   intro l
   induction l with
   | nil=>intro i b;rfl
   | cons p l ih=>
    intro i b
    simp only [K6,Instr.findNow,Instr.sameNow,Vj,V5]
    by_cases h:x=p.1
    ·simp [h]
    ·simp [h,ih]
  simp [Instr.findKey,run_underlying hu,key]
 same x _:=by simp [Instr.sameBits,V5]

section
variable {P:Program} {n:Nat} {N:Nxt} {L:Loc} {w w0:World} {ρ:Hp} {Γ:List Yd} {ops:Array Oper} {rest:List Oper} {d t:Nat} {pos:String} {aft:Array Edge}
variable {κ:Type} [DecidableEq κ]
end
def vs {κ ν:Type} (e:ν->Value) (m:List (κ×ν)):List (κ×Value):=m.map λp=>(p.1,e p.2)
theorem St.perm {w0 w:World} {ρ:Hp} {Γ Γ':List Yd} (h:St w0 ρ Γ w) (hp:Γ'.Perm Γ):St w0 ρ Γ' w:=
 ⟨h.below,h.sees,λit hi=>h.ok it (hp.subset hi),(hp.filterMap _).symm.nodup h.nodup,λb hb=>h.base b ((hp.filterMap _).subset hb),λa v ha hb=>h.clean a v ha ((hp.filterMap _).subset hb)⟩
theorem St.front {w0 w:World} {ρ:Hp} {Γ:List Yd} (i:Nat) {it:Yd} (h:St w0 ρ Γ w) (hi:Γ[i]?=some it):St w0 ρ (it::Γ.eraseIdx i) w:=by
 obtain ⟨hlt,rfl⟩:=List.getElem?_eq_some_iff.1 hi;refine h.perm ?_;clear h hi
 induction Γ generalizing i with
 | nil=>simp at hlt
 | cons a l ih=>
  cases i with
  | zero=>exact .refl _
  | succ i=>exact (List.Perm.swap _ _ _).trans ((ih i (by simpa using hlt)).cons _)
section
variable {P:Program} {n:Nat} {N:Nxt} {L:Loc} {w w0:World} {ρ:Hp} {Γ:List Yd} {ops:Array Oper} {rest:List Oper} {d t:Nat} {pos:String} {aft:Array Edge}
variable {κ ν:Type} [DecidableEq κ]
omit [DecidableEq κ] in
end
def Uo (s:ByteArray):List Int:=s.data.toList.map λb=>(b.toNat:Int)
theorem Qp (s:ByteArray):(Uo s).length=s.size:=by simp [Uo]
theorem He {B:Nat} (w:World) (hB:B<=w.heap.size) (e:TypeId) (s:ByteArray):Below B w (Lib.bytesWorld w e s):=
 ⟨rfl,rfl,rfl,by rw [Lib.bytesWorld_size];omega,λk hk=>Lib.bytesWorld_at_old w e s k (by omega)⟩
theorem St.bytes {w0 w:World} {ρ:Hp} {Γ:List Yd} (h:St w0 ρ Γ w) (e:TypeId) (s:ByteArray):∃ ρ',Le ρ ρ'/\St w0 ρ' Γ (Lib.bytesWorld w e s)/\SlR (Rep.int .u8) ρ' (.slice (some ⟨w.heap.size,0,none⟩) s.size (grownCap w s.size 0 e)) (Uo s):=by
 have h1:St w0 ρ Γ (Lib.bytesWorld w e s):=h.keep (He w h.below.size e s) (λb hb _=>Lib.bytesWorld_at_old w e s b hb);refine ⟨λa=>if a.block=w.heap.size then Jr (Lib.bytesWorld w e s) a else ρ a,λa v ha=>?_,⟨h1.below,λa v ha=>?_,h1.ok,h1.nodup,h1.base,λa v ha hm=>?_⟩,?_⟩
 ·have:=h.sees.lt ha
  show (if a.block=w.heap.size then _ else ρ a)=_;rw [if_neg (by omega)];exact ha
 ·change (if a.block=w.heap.size then _ else ρ a)=some v at ha
  split at ha
  ·exact ha
  ·exact h1.sees a v ha
 ·change (if a.block=w.heap.size then _ else ρ a)=some v at ha
  split at ha
  ·rename_i hb
   have:=h.lt hm;omega
  ·exact h1.clean a v ha hm
 ·refine .inr ⟨w.heap.size,0,grownCap w s.size 0 e,by rw [Qp],by rw [Qp];exact grownCap_ge _ _ _ _,λi x hx=>⟨[.int .u8 x],rfl,λj u hu=>?_⟩⟩
  have hi:i<s.size:=by rw [<- Qp];exact (List.getElem?_eq_some_iff.1 hx).1
  obtain ⟨rfl,rfl⟩:j=0/\u=.int .u8 x:=by
   cases j with
   | zero=>simp at hu;exact ⟨rfl,hu.symm⟩
   | succ j=>simp at hu
  show (if w.heap.size=w.heap.size then _ else _)=_;rw [if_pos rfl];show (Lib.bytesWorld w e s).cell? ⟨w.heap.size,0+i*1+0,none⟩=_;rw [show 0+i*1+0=i by omega,Lib.bytesWorld_cell w e s i hi];simp only [Uo,List.getElem?_map] at hx
  cases hg:s.data.toList[i]? with
  | none=>rw [hg] at hx;cases hx
  | some b=>rw [hg] at hx;simp at hx;simp [List.getD,hg,hx]
def bOr (k:IntKind) (x y:Int):Int:=k.wrap (BitVec.ofInt k.bits x ||| BitVec.ofInt k.bits y).toNat
def Xg (k:IntKind) (x y:Int):Int:=k.wrap (BitVec.ofInt k.bits x &&& BitVec.ofInt k.bits y).toNat
theorem Zdh {P:Program} {n:Nat} {L:Loc} {w:World} {k:IntKind} {p q:Int} {x y:Operand} {xt yt t:TypeId} (hx:ev L x=some (.int k p)) (hy:ev L y=some (.int k q)):Y P n L w (.binOp .or xt x y yt) t (.int k (bOr k p q)):=
 Qu (by decide) hx hy (λ_=>rfl)
theorem Zcb {P:Program} {n:Nat} {L:Loc} {w:World} {k:IntKind} {p q:Int} {x y:Operand} {xt yt t:TypeId} (hx:ev L x=some (.int k p)) (hy:ev L y=some (.int k q)):Y P n L w (.binOp .and xt x y yt) t (.int k (Xg k p q)):=
 Qu (by decide) hx hy (λ_=>rfl)
theorem Kf {P:Program} {n:Nat} {ops:Array Oper} {late:List Nat} {J:World->Prop} {fuel:Nat} {done:List Nat} {N:Nxt} {L:Loc} {w:World} {i:Nat} {o:Oper} (hi:ops[i]?=some o)
  (h:∀ N':Nxt,(∀ L' w',(late.contains i=false->J w->J w')->OD P n ops late J fuel (i::done) N L' w'->N' L' w')->O P n ops [o] N' L w) {a:Act} (ha:Sat n L a):
  wpOp P ops (Qo n N) i (λa' w'=>(late.contains i=false->J w->J w')/\Qm P ops (Qo n N) late J fuel ((lst ops.size done).setIfInBounds i true) a' w') a w:=by
 have h1:=h (λL' w'=>(late.contains i=false->J w->J w')/\OD P n ops late J fuel (i::done) N L' w') (λ_ _ a b=>⟨a,b⟩) a ha;unfold wpOp;simp only [hi];unfold wpList at h1;have conv:∀ (a':Act) (w':World),wpList P ops (λe a' w'=>e=.normal/\∃ L',Sat n L' a'/\(late.contains i=false->J w->J w')/\OD P n ops late J fuel (i::done) N L' w') [] a' w'->
   ((late.contains i=false->J w->J w')/\Qm P ops (Qo n N) late J fuel ((lst ops.size done).setIfInBounds i true) a' w'):=by
  intro a' w' hq;obtain ⟨_,L',hs',hJ',ho⟩:=hq;rw [Uw];exact ⟨hJ',ho a' hs'⟩
 split
 ·rename_i hw
  simp only [hw,if_true] at h1
  rcases h1 with h1 | ⟨_,hlets⟩
  ·refine .inl ?_
   unfold Oper.wp at h1 ⊢;generalize (execOp a.eval o).run P w=r at h1 ⊢
   cases r with
   | ok x w'=>
    cases x<;>simp only [Oper.upon] at h1 ⊢<;>first
     | exact conv _ _ h1
     | (refine Calls.mono h1 λe w'' he=>?_;cases e<;>first | exact conv _ _ he | exact absurd he.1 (by simp) | (obtain ⟨_,_,hh,_⟩:=he;cases hh))
     | exact Rows.mono h1 λ_ _ he=>conv _ _ he
   | halt x w'=>
    cases x<;>simp only [Oper.upon] at h1 ⊢;case panic u=>cases h1.1
  ·obtain ⟨_,_,hh,_⟩:=hlets
   cases hh
 ·rename_i hw
  simp only [hw] at h1;exact conv _ _ h1
end
section
open Go.RowKit Go.MapKept

section
variable {P:Program} {w:World}
def acs (k:IntKind) (xs:List Int):List Value:=xs.map λx=>.int k x
theorem Q4 {e:Nat} {k:IntKind} (hg:Z4 P e=some false) (xs:List Int) {i:Nat} {x:Int} (hi:xs[i]?=some x):(part e (acs k xs).toArray i).run P w=.ok (.int k x) w:=by
 have:(acs k xs).toArray[i]?=some (.int k x):=by simp [acs,hi]
 simp only [part,Sem.run_bind,Ze hg,Result.andThen,Bool.false_eq_true,if_false,this,Sem.run_pure]
theorem Ge {e:Nat} {k:IntKind} (hu:P.underlying e=some (.int k)) (d:Nat) (x y:Int):(Op.equalIn (d+1) e (.int k x) (.int k y)).run P w=.ok (x == y) w:=by
 unfold Op.equalIn;simp only [Sem.run_bind,run_underlying hu,Result.andThen,if_true,Sem.run_pure]
theorem Qs {e:Nat} {k:IntKind} (hu:P.underlying e=some (.int k)) (hg:Z4 P e=some false) (d:Nat) (xs ys:List Int) (hl:xs.length=ys.length):
  ∀ is:List Nat,(∀ i∈is,i<xs.length)->(Op.eqItems (d+1) e 1 (acs k xs).toArray (acs k ys).toArray is).run P w=.ok (is.all λi=>decide (xs[i]?=ys[i]?)) w
 | [],_=>by simp [Op.eqItems]
 | i::is,h=>by
  have hi:=h i (List.mem_cons_self ..)
  have h1:xs[i]?=some xs[i]:=List.getElem?_eq_getElem hi
  have h2:ys[i]?=some (ys[i]'(hl▸hi)):=List.getElem?_eq_getElem _
  have ih:=Qs hu hg d xs ys hl is (λj hj=>h j (List.mem_cons_of_mem _ hj))
  simp only [Op.eqItems,Sem.run_bind,Nat.mul_one,Q4 hg xs h1,Q4 hg ys h2,Ge hu,Result.andThen,List.all_cons]
  by_cases e:xs[i]=ys[i]'(hl▸hi)
  ·simp only [e,BEq.rfl,Bool.not_true,Bool.false_eq_true,if_false,ih,h1,h2,decide_true,Bool.true_and]
  ·simp [e,h1,h2]
theorem K1 {xs ys:List Int} {n:Nat} (h1:xs.length=n) (h2:ys.length=n):((List.range n).all λi=>decide (xs[i]?=ys[i]?))=decide (xs=ys):=by
 by_cases e:xs=ys
 ·subst e;simp
 ·have:∃ i,i<n/\xs[i]?≠ys[i]?:=by
   apply Classical.byContradiction;intro hn;apply e;apply List.ext_getElem?;intro i
   rcases Nat.lt_or_ge i n with h | h
   ·exact Classical.byContradiction λhc=>hn ⟨i,h,hc⟩
   ·rw [List.getElem?_eq_none (by omega),List.getElem?_eq_none (by omega)]
  obtain ⟨i,hi,hne⟩:=this;simp only [e,decide_false,List.all_eq_false,List.mem_range];exact ⟨i,hi,by simpa using hne⟩
theorem Vm {t e n:Nat} {k:IntKind} {inf:TypeInfo} (hu:P.underlying t=some (.array n e)) (hi:P.info? e=some inf) (hc:P.cellsOf e=1) (he:P.underlying e=some (.int k)) (hg:Z4 P e=some false) {xs ys:List Int} (h1:xs.length=n) (h2:ys.length=n):
  (Op.equal t (.agg (acs k xs).toArray) (.agg (acs k ys).toArray)).run P w=.ok (decide (xs=ys)) w:=by
 show (Op.equalIn (9999+1) t _ _).run P w=_;rw [run_equalIn_array w 9999 _ _ hu hi,hc];rw [Qs he hg 9998 xs ys (by omega) (List.range n) (λi hi=>by rw [h1];exact List.mem_range.1 hi),K1 h1 h2]
theorem Vl {t e n:Nat} {k:IntKind} (hu:P.underlying t=some (.array n e)) (hs:Yc P e=some 1) (he:P.underlying e=some (.int k)) (hg:Z4 P e=some false) (em:Bool) {xs:List Int} (h1:xs.length=n):
  (Instr.checkKey em 10000 t (.agg (acs k xs).toArray)).run P w=.ok () w:=by
 show (Instr.checkKey em (9998+1+1) t (.agg (acs k xs).toArray)).run P w=_;rw [Instr.checkKey];simp only [Sem.run_bind,run_underlying hu,Result.andThen];simp only [Std.Legacy.Range.forIn_eq_forIn_range',Std.Legacy.Range.size,Nat.sub_zero,Nat.add_one_sub_one,Nat.div_one];have key:∀ is:List Nat,(∀ i∈is,i<n)->(forIn (m:=Sem) is PUnit.unit λi r=>(do
   let z <- sizeOf e;let v <- part e (acs k xs).toArray (i*z);Instr.checkKey em (9998+1) e v;pure (ForInStep.yield PUnit.unit))).run P w=.ok PUnit.unit w:=by
  intro is
  induction is with
  | nil=>intro _;simp
  | cons i is ih=>
   intro h;have hi:=h i (List.mem_cons_self ..);have hx:xs[i]?=some (xs[i]'(by omega)):=List.getElem?_eq_getElem _;have hk:(Instr.checkKey em (9998+1) e (.int k (xs[i]'(by omega)))).run P w=.ok () w:=run_checkKey he (by simp [IsKey]) em 9998;simp only [List.forIn_cons,Sem.run_bind,Zc hs,Nat.mul_one,Q4 hg xs hx,hk,Result.andThen,Sem.run_pure];exact ih (λj hj=>h j (List.mem_cons_of_mem _ hj))
 have:=key (List.range' 0 n) (λi hi=>by simpa using (List.mem_range'_1.1 hi).2);simp only [bind_pure_comp] at this ⊢;rw [this];rfl
theorem Za1 (k:IntKind) (xs:List Int):Instr.sameBits 10000 (.agg (acs k xs).toArray) (.agg (acs k xs).toArray)=true:=by
 show Instr.sameBits (9999+1) _ _=true;simp only [Instr.sameBits,BEq.rfl,Bool.true_and,List.all_eq_true];intro p hp;obtain ⟨i,hi,e⟩:=List.getElem_of_mem hp;rw [List.getElem_zip] at e;rw [<- e];simp [acs,Instr.sameBits]
end
def Uk.arr {P:Program} {t e n:Nat} {k:IntKind} {κ:Type} [DecidableEq κ] (f:κ->List Int) (inj:∀ x y,f x=f y->x=y) (len:∀ x,(f x).length=n)
  (hu:P.underlying t=some (.array n e)) (hi:(P.info? e).isSome=true) (hc:P.cellsOf e=1) (hs:Yc P e=some 1) (he:P.underlying e=some (.int k)) (hg:Z4 P e=some false):Uk P t κ where
 enc x:=.agg (acs k (f x)).toArray
 dom _:=True
 fine em x w _:=Vl hu hs he hg em (len x)
 find l x w _ _:=by
  have hask:=Zal (P:=P) (t:=t) (enc:=λx=>.agg (acs k (f x)).toArray) (dom:=λ_=>True) (λx y w _ _=>by
   obtain ⟨inf,hinf⟩:=Option.isSome_iff_exists.1 hi
   rw [Vm hu hinf hc he hg (len x) (len y)]
   by_cases h:x=y
   ·simp [h]
   ·have:¬ f x=f y:=λe=>h (inj x y e)
    simp [h,this]) l x w 0 0 trivial (λ_ _=>trivial)
  simp only [Instr.findKey,Sem.run_bind,run_underlying hu,Result.andThen]
  cases l with
  | nil=>simp [K6,Instr.findNow,Vj]
  | cons p l=>
   have:Instr.findNow (.array n e) (.agg (acs k (f x)).toArray) (K6 (λx=>.agg (acs k (f x)).toArray) (p::l) 0) 0=none:=by
    simp [K6,Instr.findNow,Instr.sameNow]
   rw [this]
   exact hask
 same x _:=Za1 k (f x)
def two (p:Int×Int):List Int:=[p.1,p.2]
theorem Zb8 (x y:Int×Int) (h:two x=two y):x=y:=by
 simp only [two,List.cons.injEq,and_true] at h;exact Prod.ext h.1 h.2
def Uk.two {P:Program} {t e:Nat} {k:IntKind} (hu:P.underlying t=some (.array 2 e)) (hi:(P.info? e).isSome=true) (hc:P.cellsOf e=1) (hs:Yc P e=some 1) (he:P.underlying e=some (.int k)) (hg:Z4 P e=some false):Uk P t (Int×Int):=
 Uk.arr Go.Proofs.YtkjnmjhkekknnaaGreatDoor.two Zb8 (λ_=>rfl) hu hi hc hs he hg

section
variable {w0 w:World} {ρ ρ':Hp} {Γ:List Yd}
theorem St.boxEnd (hs:St w0 ρ Γ w) {j b T:Nat} {cs:List Value} (hi:Γ[j]?=some (.box b T cs)):∃ ρ',Le ρ ρ'/\St w0 ρ' (Γ.eraseIdx j) w/\CA ρ' b 0 cs:=by
 obtain ⟨h1,h2⟩:=hs.freeze hi rfl;refine ⟨_,h2,h1,λk u hu=>?_⟩;have:=hs.boxCell hi hu;unfold Hp.with;simp only [if_true,Nat.zero_add];exact this
theorem H3 {es fs:Array MapEntry} {m n:Nat} (h:Ji es m=Ji fs n):es=fs/\m=n:=by
 simp only [Ji,Value.tuple.injEq] at h;have h2:=congrArg Array.toList h;simp only [Array.toList_append,Array.toList_map,List.cons_append,List.nil_append,List.cons.injEq,Value.int.injEq,true_and] at h2;obtain ⟨h3,h4⟩:=h2;refine ⟨?_,by omega⟩;have key:∀ l l':List MapEntry,l.map (λe=>Value.tuple #[e.key,e.val,.int .i64 e.born])=l'.map (λe=>Value.tuple #[e.key,e.val,.int .i64 e.born])->l=l':=by
  intro l
  induction l with
  | nil=>intro l' h;cases l' with
   | nil=>rfl
   | cons=>simp at h
  | cons e l ih=>
   intro l' h
   cases l' with
   | nil=>simp at h
   | cons f l'=>
    simp only [List.map_cons,List.cons.injEq,Value.tuple.injEq,Array.mk.injEq,Value.int.injEq,true_and,and_true] at h;obtain ⟨⟨ha,hb,hc⟩,ht⟩:=h;rw [ih l' ht];congr 1;cases e;cases f;simp at ha hb hc;have hc':=Int.ofNat.inj hc;simp [ha,hb,hc']
 exact Array.ext' (key _ _ h4)
def U8 {κ ν:Type} [DecidableEq κ] (enc:κ->Value) (E:ν->Value) (ρ:Hp) (v:Value) (m:List (κ×ν)):Prop:=
 ∃ b,v=.map (some b)/\ρ ⟨b,0,some 0⟩=some (Ji (K6 enc (vs E m) 0).toArray (vs E m).length)
theorem U8.mono {κ ν:Type} [DecidableEq κ] {enc:κ->Value} {E:ν->Value} {v:Value} {m:List (κ×ν)} (h:U8 enc E ρ v m) (hle:Le ρ ρ'):U8 enc E ρ' v m:=by
 obtain ⟨b,hv,hb⟩:=h;exact ⟨b,hv,hle _ _ hb⟩
theorem U8.one {κ ν:Type} [DecidableEq κ] {enc:κ->Value} {E:ν->Value} {v:Value} {m:List (κ×ν)} (h:U8 enc E ρ v m):v.oneCell'=true:=by
 obtain ⟨b,rfl,_⟩:=h;rfl
theorem U8.obj {κ ν:Type} [DecidableEq κ] {enc:κ->Value} {E:ν->Value} {v:Value} {m:List (κ×ν)} (hs:St w0 ρ Γ w) (h:U8 enc E ρ v m):∃ b,v=.map (some b)/\w.heap[b]?=some (.map (K6 enc (vs E m) 0).toArray (vs E m).length):=by
 obtain ⟨b,hv,hb⟩:=h;refine ⟨b,hv,?_⟩;have:=hs.sees _ _ hb;simp only [Jr] at this;split at this
 ·rename_i es n hg
  obtain ⟨rfl,rfl⟩:=H3 (Option.some.inj this);exact hg
 ·simp [Ji,Hi] at this
 ·cases this
end
section
variable {P:Program} {n:Nat} {N:Nxt} {L:Loc} {w w0:World} {ρ ρ':Hp} {Γ:List Yd} {ops:Array Oper} {rest:List Oper} {d t:Nat} {pos:String} {aft:Array Edge} {x y:Operand}
def Qd {α:Type} (r:Rep α) (ρ:Hp) (v:Value) (x:Option α):Prop:=(v=.pointer none/\x=none)\/∃ b y,v=.pointer (some ⟨b,0,none⟩)/\x=some y/\At ρ r b 0 y
theorem Qd.mono {α:Type} {r:Rep α} {v:Value} {x:Option α} (h:Qd r ρ v x) (hle:Le ρ ρ'):Qd r ρ' v x:=by
 rcases h with h | ⟨b,y,h1,h2,h3⟩
 ·exact .inl h
 ·exact .inr ⟨b,y,h1,h2,h3.mono hle⟩
theorem Qd.one {α:Type} {r:Rep α} {v:Value} {x:Option α} (h:Qd r ρ v x):v.oneCell'=true:=by
 rcases h with ⟨rfl,_⟩ | ⟨b,y,rfl,_⟩<;>rfl
theorem Qd.nil {α:Type} (r:Rep α) (ρ:Hp):Qd r ρ (.pointer none) none:=.inl ⟨rfl,rfl⟩
theorem Qd.val {α:Type} {r:Rep α} {v:Value} {x:Option α} (h:Qd r ρ v x):∃ a,v=.pointer a/\a.isNone=x.isNone/\a.isSome=x.isSome:=by
 rcases h with ⟨rfl,rfl⟩ | ⟨b,y,rfl,rfl,_⟩
 ·exact ⟨_,rfl,rfl,rfl⟩
 ·exact ⟨_,rfl,rfl,rfl⟩
theorem Qd.open {α:Type} [Inhabited α] {r:Rep α} {v:Value} {x:Option α} (h:Qd r ρ v x) (hx:x.isSome=true):∃ b,v=.pointer (some ⟨b,0,none⟩)/\At ρ r b 0 (x.getD default):=by
 rcases h with ⟨rfl,rfl⟩ | ⟨b,y,rfl,rfl,h3⟩
 ·cases hx
 ·exact ⟨b,rfl,h3⟩
end
end
section
open Go.RowKit

section
variable {α:Type} {m:Nat}
def vcs (E:α->Value) (y:Vector α m):List Value:=y.toList.map E
def vg [Inhabited α] (y:Vector α m) (i:Int):α:=y.toList.getD i.toNat default
def U6 (y:Vector α m) (i:Int) (z:α):Vector α m:=⟨y.toArray.setIfInBounds i.toNat z,by simp⟩
@[simp] theorem Vh (E:α->Value) (y:Vector α m):(vcs E y).length=m:=by simp [vcs]
theorem Hu (y:Vector α m) (i:Int) (z:α):(U6 y i z).toList=y.toList.set i.toNat z:=by
 simp [U6,Vector.toList]
theorem Zbc (E:α->Value) (y:Vector α m) (i:Int) (z:α):vcs E (U6 y i z)=(vcs E y).set i.toNat (E z):=by
 simp [vcs,Hu,List.map_set]
theorem Gv [Inhabited α] (E:α->Value) (y:Vector α m) {i:Int} (h0:0<=i) (h1:i<(m:Int)):(vcs E y)[i.toNat]?=some (E (vg y i)):=by
 have:i.toNat<y.toList.length:=by simp;omega
 simp only [vcs,List.getElem?_map,List.getElem?_eq_getElem this,Option.map_some,vg,List.getD_eq_getElem?_getD,Option.getD_some]
theorem Zby [Inhabited α] {E:α->Value} {y:Vector α m} {A B:List Value} {i:Int} {o:Nat} (ho:o=A.length) (h0:0<=i) (h1:i<(m:Int)):(A++(vcs E y++B))[o+i.toNat]?=some (E (vg y i)):=by
 subst ho;rw [List.getElem?_append_right (by omega),Nat.add_sub_cancel_left,List.getElem?_append_left (by simp;omega)];exact Gv E y h0 h1
theorem Zbz {E:α->Value} {y:Vector α m} {A B:List Value} {i:Int} {z:α} {o:Nat} (ho:o=A.length) (h0:0<=i) (h1:i<(m:Int)):(A++(vcs E y++B)).set (o+i.toNat) (E z)=A++(vcs E (U6 y i z)++B):=by
 subst ho;rw [List.set_append_right _ _ (by omega),Nat.add_sub_cancel_left,List.set_append_left _ _ (by simp;omega),Zbc]
theorem U5 {E:α->Value} (hE:∀ x,(E x).oneCell'=true) (y:Vector α m):∀ u∈vcs E y,u.oneCell'=true:=by
 intro u hu;obtain ⟨x,_,rfl⟩:=List.mem_map.1 hu;exact hE x
theorem Gt {l l':List Value} (h:∀ v∈l,v.oneCell'=true) (h':∀ v∈l',v.oneCell'=true):∀ v∈l++l',v.oneCell'=true:=λv hv=>by
 rcases List.mem_append.1 hv with hv | hv
 ·exact h v hv
 ·exact h' v hv
end
def Rep.arr {α:Type} (E:α->Value) (hE:∀ x,(E x).oneCell'=true) (m:Nat):Rep (Vector α m):=⟨m,λ_ cs y=>cs=vcs E y,λh=>by rw [h];simp,λ_ h=>h,λh=>by rw [h];exact U5 hE _⟩
theorem Ya (k:IntKind):∀ x,(Value.int k x).oneCell'=true:=λ_=>rfl
section
variable {P:Program} {n:Nat} {N:Nxt} {L:Loc} {w w0:World} {ρ:Hp} {Γ:List Yd} {ops:Array Oper} {rest:List Oper} {d t:Nat} {pos:String} {aft:Array Edge} {x y:Operand}
variable {α:Type} {m:Nat} {E:α->Value}

theorem Q1 {ty e b o:Nat} {k:IntKind} {i:Int} (hu:P.underlying ty=some (.array m e)) (hs:Yc P e=some 1) (hx:ev L x=some (.pointer (some ⟨b,o,none⟩))) (hy:ev L y=some (.int k i)) (h0:0<=i) (h1:i<(m:Int)):
  Y P n L w (.indexAddr ty x y) t (.pointer (some ⟨b,o+i.toNat,none⟩)):=by
 intro a ha _ _ _ _;simp only [execOp,Instr.indexAt,Instr.sureAddr,ha.ev hx,ha.ev hy,asIntOf,bind_pure_comp,Sem.run_map,Sem.run_bind,Sem.run_pure,Result.andThen,run_underlying hu];rw [if_pos ⟨h0,h1⟩];simp only [Sem.run_bind,Sem.run_map,Zc hs,Result.andThen,Nat.mul_one,Addr.add_lit]
theorem Gj [Inhabited α] {ty e:Nat} {k:IntKind} {i:Int} {z:Vector α m} (hu:P.underlying ty=some (.array m e)) (hs:Yc P e=some 1) (hg:Z4 P e=some false) (hx:ev L x=some (.agg (vcs E z).toArray)) (hy:ev L y=some (.int k i)) (h0:0<=i) (h1:i<(m:Int)):
  Y P n L w (.index ty x y) t (E (vg z i)):=by
 intro a ha _ _ _ _;have h2:(vcs E z).toArray[i.toNat]?=some (E (vg z i)):=by simpa using Gv E z h0 h1
 simp only [execOp,Instr.index,ha.ev hx,ha.ev hy,asIntOf,bind_pure_comp,Sem.run_map,Sem.run_bind,Sem.run_pure,Result.andThen,run_underlying hu];rw [if_pos ⟨h0,h1⟩];simp only [Sem.run_bind,Zc hs,Result.andThen,Nat.mul_one,part,Ze hg,Bool.false_eq_true,if_false,h2,Sem.run_pure]
theorem Qv [Inhabited α] {ty b o T j:Nat} {A B:List Value} {z:Vector α m} {i:Int} (ha:Z4 P ty=some false) (hs:St w0 ρ Γ w) (hj:Γ[j]?=some (.box b T (A++(vcs E z++B)))) (ho:o=A.length) (h0:0<=i) (h1:i<(m:Int)) (hx:ev L x=some (.pointer (some ⟨b,o+i.toNat,none⟩))):
  Y P n L w (.load ty x) t (E (vg z i)):=Ka ha hx (hs.boxCell hj (Zby ho h0 h1))
theorem Jx {ty b o T j:Nat} {A B:List Value} {z:Vector α m} {i:Int} {u:α} (hsz:Yc P ty=some 1) (hE:∀ x,(E x).oneCell'=true) (hs:St w0 ρ Γ w) (hj:Γ[j]?=some (.box b T (A++(vcs E z++B)))) (ho:o=A.length) (h0:0<=i) (h1:i<(m:Int)) (hx:ev L x=some (.pointer (some ⟨b,o+i.toNat,none⟩))) (hy:ev L y=some (E u))
  (k:∀ w',St w0 ρ (Γ.set j (.box b T (A++(vcs E (U6 z i u)++B)))) w'->O P n ops rest N L w'):O P n ops (⟨none,.store ty x y,t,pos,aft,none⟩::rest) N L w:=
 Ul hsz hs hj (by show Nat.ble _ _=true;rw [Nat.ble_eq];simp;omega) hx hy (hE u) (by rw [Zbz ho h0 h1];exact k)
theorem Z8 {ty b T j:Nat} {z:Vector α m} (ha:Z4 P ty=some true) (hsz:Yc P ty=some m) (hs:St w0 ρ Γ w) (hj:Γ[j]?=some (.box b T ([]++(vcs E z++[])))) (hx:ev L x=some (.pointer (some ⟨b,0,none⟩))):Y P n L w (.load ty x) t (.agg (vcs E z).toArray):=
 Zq ha hsz hs hj (by simp;exact List.take_of_length_le (by simp)) (Vh E z) hx
theorem Zw {ty b T j:Nat} {z u:Vector α m} (hsz:Yc P ty=some m) (hE:∀ x,(E x).oneCell'=true) (hs:St w0 ρ Γ w) (hj:Γ[j]?=some (.box b T ([]++(vcs E z++[])))) (hx:ev L x=some (.pointer (some ⟨b,0,none⟩))) (hy:ev L y=some (.agg (vcs E u).toArray))
  (k:∀ w',St w0 ρ (Γ.set j (.box b T ([]++(vcs E u++[])))) w'->O P n ops rest N L w'):O P n ops (⟨none,.store ty x y,t,pos,aft,none⟩::rest) N L w:=
 Y1 hsz hs hj (by simp) (by show Nat.ble _ _=true;rw [Nat.ble_eq];simp) hx hy (by simpa using U5 hE u) (by
  have e:([]++(vcs E z++[])).take 0++(vcs E u).toArray.toList++([]++(vcs E z++[])).drop (0+m)=[]++(vcs E u++[]):=by
   simp [List.drop_of_length_le]
  rw [e];exact k)
theorem Qb {ty:Nat} {z:Vector α m} (hs:St w0 ρ Γ w) (hd:Nat.blt d n=true) (hx:ev L x=some (.agg (vcs E z).toArray))
  (k:∀ b w',St w0 ρ (.box b ty ([]++(vcs E z++[]))::Γ) w'->O P n ops rest N ((d,.pointer (some ⟨b,0,none⟩))::L) w'):O P n ops (⟨some d,.box ty x,t,pos,aft,none⟩::rest) N L w:=
 Zca hs hd hx λb w' h=>k b w' (by simpa [Value.cells] using h)
theorem At.arr {hE:∀ x,(E x).oneCell'=true} {b o:Nat} {z:Vector α m} (h:At ρ (Rep.arr E hE m) b o z):CA ρ b o ([]++(vcs E z++[])):=by
 obtain ⟨cs,rfl,h2⟩:=h;simpa using h2
theorem CA.sub {b o off k:Nat} {cs ds:List Value} (h:CA ρ b o cs) (e:(cs.drop off).take k=ds):CA ρ b (o+off) ds:=λj u hu=>by
 subst e
 rw [List.getElem?_take] at hu
 split at hu
 ·rw [List.getElem?_drop] at hu
  have:=h _ u hu
  rwa [<- Nat.add_assoc] at this
 ·cases hu
end
section
variable {P:Program} {n:Nat} {N:Nxt} {X:Nat->Nxt} {R:Nxt} {L:Loc} {w:World} {c:Code}
def WL (P:Program) (n:Nat) (c:Code) (X:Nat->Nxt) (R:Nxt) (L:Loc) (w:World):Prop:=
 ∀ a,Sat n L a->∀ b kk cs,∃ e a' w',Out n (λ_ _=>False) X R e a' w'/\Arrives P (lone (b.at a (.code c::.inLoop c::kk)) cs w) b kk cs e a' w'
end
end
section
open Go.RowKit
section
variable {P:Program} {n:Nat} {N:Nxt} {L:Loc} {w w0:World} {ρ:Hp} {Γ:List Yd} {ops:Array Oper} {rest:List Oper} {d t:Nat} {pos:String} {aft:Array Edge} {x y:Operand}
def fieldAt (P:Program) (s i:Nat):Option (Nat×Nat):=
 match P.underlying s with
 | some (.struct fs)=>(fs[i]?).map λf=>(f.offset,f.type)
 | _=>none
theorem Hy {ty e m:Nat} {xs:List Operand} {vs:List Value} {ps:List (Nat×Operand)} {zs:List Value} (hu:P.underlying ty=some (.array m e)) (hs:Yc P e=some 1) (hz:(Xn P ty).map (·.length)=some m) (hps:ps=(xs.zipIdx 0).map λp=>(p.2,p.1)) (hml:xs.length=m) (hx:evs L xs=some vs) (h1:∀ v∈vs,v.cells.toList=[v]) (hzs:vs=zs):
  Y P n L w (.build ty ps.toArray) t (.agg zs.toArray):=by
 subst hzs;intro a ha _ _ _ _;obtain ⟨zl,hz1,hz2⟩:=Option.map_eq_some_iff.1 hz;obtain ⟨i,hi,hzi⟩:=Option.bind_eq_some_iff.1 hz1;obtain ⟨z,hzz,rfl⟩:=Option.map_eq_some_iff.1 hzi;have hzv:(zeroValue ty).run P w=.ok z w:=by simp [zeroValue,typeInfo,hi,hzz]
 have hparts:(ps.toArray.map λp=>(p.1,a.eval p.2)).toList=(vs.zipIdx 0).map λp=>(p.2,p.1):=by subst hps;have:=ha.evs hx;rw [<- this];simp only [List.map_toArray,List.map_map,List.zipIdx_map];simp
 have hvl:vs.length=m:=by have:=ha.evs hx;rw [<- this,List.length_map,hml]
 have hsz:∀ v∈vs,v.cells.size=1:=λv hv=>by
  have:=congrArg List.length (h1 v hv);simpa using this
 have hfm:vs.flatMap (·.cells.toList)=vs:=by
  clear hparts hx hvl hsz
  induction vs with
  | nil=>rfl
  | cons v vs ih=>
   rw [List.flatMap_cons,h1 v (List.mem_cons_self ..),ih (λu hu=>h1 u (List.mem_cons_of_mem _ hu))];rfl
 have hfill:Instr.fill (λi=>some (i*1,1)) z.cells (ps.toArray.map λp=>(p.1,a.eval p.2)).toList=some vs.toArray:=by rw [hparts,Jj 1 vs 0 z.cells hsz (by simp at hz2;omega),hfm];simp
 simp only [execOp,Instr.build,bind_pure_comp,Sem.run_map,Sem.run_bind,hzv,Result.andThen,run_underlying hu,Zc hs];rw [hfill];rfl
theorem Zav (v:Value) (m:Nat):madeCells #[v] m=(List.replicate m v).toArray:=by
 apply Array.ext
 ·simp [madeCells]
 ·intro i h1 h2
  simp [madeCells,Nat.mod_one]
theorem Ha {α:Type} {r:Rep α} {sl e bytes:Nat} {k1 k2:IntKind} {m:Int} {x0:α} {v0:Value} (he:Y9 P sl e r.sz bytes) (hz:Xn P e=some [v0]) (h1:r.sz=1) (hr:r.R ρ [v0] x0) (hs:St w0 ρ Γ w) (hd:Nat.blt d n=true) (hx:ev L x=some (.int k1 m)) (hy:ev L y=some (.int k2 m)) (h0:0<=m) (hm:m<=(most:Int))
  (k:∀ b cs w',Z3 r ρ cs (List.replicate m.toNat x0)->St w0 ρ (.row (.slice (some ⟨b,0,none⟩) m.toNat m.toNat) e r.sz (List.replicate m.toNat x0).length cs::Γ) w'->O P n ops rest N ((d,.slice (some ⟨b,0,none⟩) m.toNat m.toNat)::L) w') (hl:G0 most bytes=true:=by exact rfl):
  O P n ops (⟨some d,.makeSlice sl x y,t,pos,aft,none⟩::rest) N L w:=by
 obtain ⟨j,z,hj,hzz,hsz,hby,hzs⟩:=he.info;obtain ⟨i,hi,hz⟩:=Option.bind_eq_some_iff.1 hz;obtain ⟨z',hz',hzc⟩:=Option.map_eq_some_iff.1 hz;rw [hj] at hi;obtain rfl:=Option.some.inj hi;rw [hzz] at hz';obtain rfl:=Option.some.inj hz';have hcells:z.cells=#[v0]:=Array.ext' (by simpa using hzc);have hb:(j.bytes:Int)*m<=281474976710656:=by obtain ⟨q,rfl⟩:∃ q:Nat,m=q:=⟨m.toNat,by omega⟩;have h2:=(Uv hl (Int.ofNat_le.1 hm)).2;rw [hby,<- Int.natCast_mul,Nat.mul_comm];omega
 have h3:m<=2199023255552:=hm;have hrun:=run_make (P:=P) w sl e j z he.under hj hzz k1 k2 m m h0 (Int.le_refl _) hb (by omega);rw [hcells,hsz,h1,Nat.mul_one,Zav] at hrun;have hrow:=hs.rowFull e m.toNat 1 (List.replicate m.toNat v0) (by simp) (by simp only [maxLen];omega);have hR:Z3 r ρ (List.replicate m.toNat v0) (List.replicate m.toNat x0):=⟨by simp [h1],λp q hq=>by
  rw [List.getElem?_replicate] at hq;split at hq
  ·rename_i hlt
   obtain rfl:=Option.some.inj hq;refine ⟨[v0],hr,λk u hu=>?_⟩
   cases k with
   | zero=>simp at hu;subst hu;simp [h1,hlt]
   | succ k=>simp at hu
  ·cases hq⟩
 refine Gi (w':=w.alloc (.cells (List.replicate m.toNat v0).toArray e)) hd (λc hc=>?_) (k w.heap.size _ _ hR (by rw [h1,List.length_replicate];exact hrow));simp only [execOp,hc.ev hx,hc.ev hy,bind_pure_comp,Sem.run_map,hrun,Result.andThen]
theorem Km {α:Type} {m:Nat} (E:α->Value) (y:Vector α m):(Value.agg (vcs E y).toArray).cells.size=m:=by simp [Value.cells]
theorem Xc:([]:List Value).flatMap (·.cells.toList)=[]:=rfl
theorem Ym {v:Value} {l c ds:List Value} (h:v.cells.toList=c) (hl:l.flatMap (·.cells.toList)=ds):(v::l).flatMap (·.cells.toList)=c++ds:=by rw [List.flatMap_cons,h,hl]
theorem X5 {sl e sz bytes:Nat} {xs:List Operand} {vs cs:List Value} {ps:List (Nat×Operand)} {m:Nat} (he:Y9 P sl e sz bytes) (hs:St w0 ρ Γ w) (hd:Nat.blt d n=true) (hps:ps=(xs.zipIdx 0).map λp=>(p.2,p.1)) (hml:xs.length=m) (hm:m<=1000) (hsz:sz<=1000)
  (hx:evs L xs=some vs) (hv:∀ v∈vs,v.cells.size=sz) (hcs:vs.flatMap (·.cells.toList)=cs)
  (k:∀ b w',St w0 ρ (.row (.slice (some ⟨b,0,none⟩) m m) e sz m cs::Γ) w'->O P n ops rest N ((d,.slice (some ⟨b,0,none⟩) m m)::L) w'):
  O P n ops (⟨some d,.buildSlice sl m ps.toArray,t,pos,aft,none⟩::rest) N L w:=by
 subst hcs;exact Zc7 he hs hd hps hml hm hsz hx hv k
theorem Zb3:∀ v∈([]:List Value),v.cells.toList=[v]:=λ_ h=>by cases h
theorem Jc {a:Value} {l:List Value} (h:a.cells.toList=[a]) (hl:∀ v∈l,v.cells.toList=[v]):∀ v∈a::l,v.cells.toList=[v]:=λv hv=>by
 rcases List.mem_cons.1 hv with rfl | hv
 ·exact h
 ·exact hl v hv
theorem Qe {fn:Func} {S:Value->World->Prop} {i b T ty k tm u:Nat} {cs:List Value} {x:Value} (hr:fn.results=#[.cell tm ty,.tmp u]) (hl:lk tm L=some (.pointer (some ⟨b,0,none⟩))) (hu:lk u L=some x) (ha:Z4 P ty=some true) (hsz:Yc P ty=some k) (hs:St w0 ρ Γ w) (hi:Γ[i]?=some (.box b T cs)) (hk:cs.length=k) (h:S (.tuple #[.agg cs.toArray,x]) w):
  Ret P n fn S L w:=by
 refine ⟨_,λa hsat=>?_,h⟩;subst hk;have:=Yy (P:=P) (w:=w) (a:=⟨b,0,none⟩) cs 0 #[] (λj u hu=>by rw [Nat.zero_add,Addr.add_lit,Nat.zero_add];exact hs.boxCell hi hu);have hx:=hsat.get tm _ hl;have hy:=hsat.get u _ hu;have h2:(loadVar ty ⟨b,0,none⟩).run P w=.ok (.agg cs.toArray) w:=by simp [loadVar,Ze ha,Zc hsz,loadCells,this]
 have hx':a.tmps[tm]?.getD undef=.pointer (some ⟨b,0,none⟩):=by simpa using hx
 have hy':a.tmps[u]?.getD undef=x:=by simpa using hy
 simp [results,hr,hx',hy',asAddr,h2]
theorem Za0 {ty:Nat} {zs:List Value} (hz:Xn P ty=some zs):∃ z,(zeroValue ty).run P w=.ok z w/\z.cells=zs.toArray:=by
 obtain ⟨i,hi,hzi⟩:=Option.bind_eq_some_iff.1 hz;obtain ⟨z,hzz,rfl⟩:=Option.map_eq_some_iff.1 hzi;exact ⟨z,by simp [zeroValue,typeInfo,hi,hzz],by simp⟩
theorem Vs {ty e m:Nat} {zs:List Value} (hu:P.underlying ty=some (.array m e)) (hs:Yc P e=some 1) (hz:Xn P ty=some zs):Y P n L w (.build ty #[]) t (.agg zs.toArray):=by
 intro a ha _ _ _ _;obtain ⟨z,h1,h2⟩:=Za0 (w:=w) hz;simp [execOp,Instr.build,h1,h2,run_underlying hu,Zc hs,Instr.fill]
inductive RV (P:Program) (L:Loc) (w:World):List ResultVar->List Value->Prop where
 | nil:RV P L w [] []
 | tmp {t:Nat} {v:Value} {rs:List ResultVar} {vs:List Value} (hl:lk t L=some v) (h:RV P L w rs vs):RV P L w (.tmp t::rs) (v::vs)
 | cell {tm ty b k:Nat} {cs:List Value} {rs:List ResultVar} {vs:List Value} (hl:lk tm L=some (.pointer (some ⟨b,0,none⟩))) (ha:Z4 P ty=some true) (hsz:Yc P ty=some k) (hk:cs.length=k) (hc:∀ j u,cs[j]?=some u->w.cell? ⟨b,j,none⟩=some u) (h:RV P L w rs vs):RV P L w (.cell tm ty::rs) (.agg cs.toArray::vs)
def rvf (tmps:Array Value):ResultVar->Sem Value
 | .tmp t=>pure (tmps.getD t undef)
 | .cell a t=>do loadVar t (<- asAddr (tmps.getD a undef))
theorem RV.run {rs:List ResultVar} {vs:List Value} (h:RV P L w rs vs) {a:Act} (hsat:Sat n L a):(rs.mapM (rvf a.tmps)).run P w=.ok vs w:=by
 induction h with
 | nil=>rfl
 | tmp hl _ ih=>
  have hx:=hsat.get _ _ hl;simp only [List.mapM_cons,Sem.run_bind,rvf,Sem.run_pure,Result.andThen,hx,ih]
 | @cell tm ty b k cs rs vs hl ha hsz hk hc _ ih=>
  subst hk;have hx:=hsat.get _ _ hl;have:=Yy (P:=P) (w:=w) (a:=⟨b,0,none⟩) cs 0 #[] (λj u hu=>by rw [Nat.zero_add,Addr.add_lit,Nat.zero_add];exact hc j u hu);have h2:(loadVar ty ⟨b,0,none⟩).run P w=.ok (.agg cs.toArray) w:=by simp [loadVar,Ze ha,Zc hsz,loadCells,this]
  simp only [List.mapM_cons,Sem.run_bind,rvf,Sem.run_pure,Result.andThen,hx,asAddr,h2,ih]
end
end
section
open Go.RowKit

def tb (m i:Nat):Bool:=Nat.beq (Nat.land 1 (Nat.shiftRight m i)) 1
theorem Ke (m i:Nat):tb m i=m.testBit i:=by
 have h:Nat.land 1 (Nat.shiftRight m i)=1 &&& (m >>> i):=rfl;have h2:(1 &&& (m >>> i))=0\/(1 &&& (m >>> i))=1:=by rw [Nat.one_and_eq_mod_two];omega
 unfold tb Nat.testBit;rw [h]
 rcases h2 with h2 | h2<;>rw [h2]<;>rfl
def Z5:List Nat->Nat
 | []=>0
 | i::t=>Nat.lor (Nat.shiftLeft 1 i) (Z5 t)
theorem Kl (l:List Nat) (i:Nat):tb (Z5 l) i=l.contains i:=by
 induction l with
 | nil=>simp [Z5,Ke]
 | cons a l ih=>
  have h:Z5 (a::l)=(1 <<< a) ||| Z5 l:=rfl;rw [Ke] at ih ⊢;rw [h,Nat.testBit_or,ih,Nat.one_shiftLeft,Nat.testBit_two_pow];simp only [List.contains_cons];congr 1;by_cases e:a=i
  ·subst e;simp
  ·simp [e,Ne.symm e]
def sb (m D:Nat):Bool:=Nat.beq (Nat.land m D) m
theorem Kw {m D:Nat}:sb m D=true↔∀ k,tb m k=true->tb D k=true:=by
 have h:Nat.land m D=m &&& D:=rfl;unfold sb;rw [h,Nat.beq_eq];constructor
 ·intro e k hk
  rw [Ke] at hk ⊢;have:=congrArg (·.testBit k) e;simp only [Nat.testBit_and,hk,Bool.true_and] at this;exact this
 ·intro hh
  apply Nat.eq_of_testBit_eq;intro k;rw [Nat.testBit_and]
  cases hm:m.testBit k with
  | false=>rfl
  | true=>
   have:=hh k (by rw [Ke];exact hm);rw [Ke] at this;simp [this]
def nth:List Nat->Nat->Nat
 | [],_=>0
 | m::t,i=>bif Nat.beq i 0 then m else nth t (i-1)
theorem Qr (m:Nat) (t:List Nat) (i:Nat):nth (m::t) (i+1)=nth t i:=rfl
theorem H7:∀ (l:List Nat) (i:Nat),nth l i=l.getD i 0
 | [],i=>by simp [nth]
 | m::t,0=>rfl
 | m::t,i+1=>by rw [Qr,H7 t i];simp

structure Y4 (ops:Array Oper) (n:Nat) (ms ap tm:List Nat):Prop where
 size:ops.size=n
 len:ms.length=n
 nosel:Region.noSelect ops=true
 dep:∀ j o,ops[j]?=some o->∀ e∈o.after,Region.binds .any e=true->tb (nth ms j) e.on=true/\e.on<n
 dep':∀ j o,ops[j]?=some o->∀ k,tb (nth ms j) k=true->∃ e∈o.after,Region.binds .any e=true/\e.on=k
 apt:∀ i j oi oj,ops[i]?=some oi->ops[j]?=some oj->tb (nth ap i) j=true->oi.apart ops oj=true
 anc:∀ j i,tb (nth tm j) i=true->Je ops ops.size j i=true

def K4 (o:Oper):Nat:=Z5 ((o.after.toList.filter (Region.binds .any)).map (·.on))
def V8 (n:Nat):List Oper->List Nat->Bool
 | [],[]=>true
 | o::t,m::u=>Nat.beq (K4 o) m&&Nat.blt m (2^n)&&V8 n t u
 | _,_=>false
def Vy (ops:Array Oper):List Oper->List Nat->Bool
 | [],_=>true
 | _,[]=>true
 | o::t,m::u=>(Nat.beq m 0||aptIn ops o m 0 ops.toList)&&Vy ops t u
where aptIn (ops:Array Oper) (o:Oper) (m:Nat):Nat->List Oper->Bool
 | _,[]=>true
 | j,q::t=>(!tb m j||o.apart ops q)&&aptIn ops o m (j+1) t
def Jz (ms:List Nat):Nat->List Nat->List Nat->Bool
 | _,[],_=>true
 | j,t::ts,past=>sb t (Nat.lor (nth ms j) (ancUp (nth ms j) (j-1) past))&&Nat.blt (nth ms j) (2^j)&&Jz ms (j+1) ts (t::past)
where ancUp (m:Nat):Nat->List Nat->Nat
 | _,[]=>0
 | k,t::past=>Nat.lor (bif tb m k then t else 0) (ancUp m (k-1) past)
def Gf (ops:Array Oper) (n:Nat) (ms ap tm:List Nat):Bool:=
 Nat.beq ops.size n&&Nat.beq ms.length n&&Nat.beq tm.length n&&Region.noSelect ops&&V8 n ops.toList ms&&Vy ops ops.toList ap&&Jz ms 0 tm []

theorem Kk {n:Nat}:∀ {l:List Oper} {ms:List Nat},V8 n l ms=true->∀ j o,l[j]?=some o->K4 o=nth ms j/\nth ms j<2^n
 | [],_,_,j,o,h=>by simp at h
 | o'::t,[],h,_,_,_=>by simp [V8] at h
 | o'::t,m::u,h,j,o,ho=>by
  simp only [V8,Bool.and_eq_true] at h
  obtain ⟨⟨h1,h2⟩,h3⟩:=h
  cases j with
  | zero=>
   simp at ho;subst ho
   exact ⟨Nat.eq_of_beq_eq_true h1,Nat.le_of_ble_eq_true h2⟩
  | succ j=>rw [Qr];exact Kk h3 j o (by simpa using ho)
theorem V4 {ops:Array Oper} {o:Oper} {m:Nat}:∀ {l:List Oper} {k:Nat},Vy.aptIn ops o m k l=true->∀ j q,l[j]?=some q->tb m (k+j)=true->o.apart ops q=true
 | [],_,_,j,q,h,_=>by simp at h
 | q'::t,k,h,j,q,hq,hb=>by
  simp only [Vy.aptIn,Bool.and_eq_true] at h
  cases j with
  | zero=>
   simp at hq;subst hq
   have:=h.1
   rw [Nat.add_zero] at hb
   rw [hb] at this
   simpa using this
  | succ j=>exact V4 h.2 j q (by simpa using hq) (by rw [show k+1+j=k+(j+1) by omega];exact hb)
theorem Jd (k:Nat):tb 0 k=false:=by rw [Ke];simp
theorem Vz {ops:Array Oper}:∀ {l:List Oper} {ap:List Nat},Vy ops l ap=true->∀ i oi,l[i]?=some oi->∀ j oj,ops[j]?=some oj->tb (nth ap i) j=true->oi.apart ops oj=true
 | [],_,_,i,oi,h,_,_,_,_=>by simp at h
 | o::t,[],_,i,oi,_,j,oj,_,hb=>by simp [nth,Jd] at hb
 | o::t,m::u,h,i,oi,hi,j,oj,hj,hb=>by
  simp only [Vy,Bool.and_eq_true] at h
  cases i with
  | zero=>
   simp at hi;subst hi
   have hb':tb m j=true:=hb
   have h1:=h.1
   have hm:Nat.beq m 0=false:=by
    cases hm:Nat.beq m 0 with
    | false=>rfl
    | true=>rw [Nat.eq_of_beq_eq_true hm,Jd] at hb';cases hb'
   rw [hm,Bool.false_or] at h1
   exact V4 h1 j oj (by simpa using hj) (by rw [Nat.zero_add];exact hb')
  | succ i=>rw [Qr] at hb;exact Vz h.2 i oi (by simpa using hi) j oj hj hb
theorem Zaw {l:List Nat} {k:Nat}:tb (Z5 l) k=true↔k∈l:=by rw [Kl];simp
theorem K5 {o:Oper} {k:Nat}:tb (K4 o) k=true↔∃ e∈o.after,Region.binds .any e=true/\e.on=k:=by
 unfold K4;rw [Zaw];simp only [List.mem_map,List.mem_filter,Array.mem_toList_iff];constructor
 ·rintro ⟨e,⟨h1,h2⟩,h3⟩;exact ⟨e,h1,h2,h3⟩
 ·rintro ⟨e,h1,h2,h3⟩;exact ⟨e,⟨h1,h2⟩,h3⟩
theorem Zcj {m k n:Nat} (h:tb m k=true) (hm:m<2^n):k<n:=by
 rw [Ke] at h
 rcases Nat.lt_or_ge k n with h1 | h1
 ·exact h1
 ·have:=Nat.testBit_lt_two_pow (x:=m) (i:=k) (Nat.lt_of_lt_of_le hm (Nat.pow_le_pow_right (by omega) h1))
  rw [this] at h;cases h
theorem Za7 (a b k:Nat):tb (Nat.lor a b) k=(tb a k||tb b k):=by
 rw [Ke,Ke,Ke];show (a ||| b).testBit k=_;rw [Nat.testBit_or]
theorem Vx {m i:Nat}:∀ {past:List Nat} {k:Nat},tb (Jz.ancUp m k past) i=true->∃ q t,past[q]?=some t/\tb m (k-q)=true/\tb t i=true
 | [],k,h=>by simp [Jz.ancUp,Jd] at h
 | t::past,k,h=>by
  simp only [Jz.ancUp,Za7,Bool.or_eq_true] at h
  rcases h with h | h
  ·cases hm:tb m k with
   | false=>rw [hm] at h;simp [Jd] at h
   | true=>rw [hm] at h;exact ⟨0,t,rfl,by simpa using hm,by simpa using h⟩
  ·obtain ⟨q,t',h1,h2,h3⟩:=Vx h
   exact ⟨q+1,t',by simpa using h1,by rwa [show k-(q+1)=k-1-q by omega],h3⟩
theorem Vw {ops:Array Oper} {n:Nat} {ms:List Nat} (hsz:ops.size=n) (hdep:V8 n ops.toList ms=true) (hml:ms.length=n):∀ (ts past:List Nat) (j:Nat),Jz ms j ts past=true->past.length=j->j+ts.length=n->
  (∀ q t,past[q]?=some t->∀ i,tb t i=true->∀ f,j-1-q<f->Je ops f (j-1-q) i=true)->∀ r t,ts[r]?=some t->∀ i,tb t i=true->∀ f,j+r<f->Je ops f (j+r) i=true
 | [],_,_,_,_,_,_,r,t,hr,_,_,_,_=>by simp at hr
 | t0::ts,past,j,h,hp,hl,hpast,r,t,hr,i,hi,f,hf=>by
  simp only [Jz,Bool.and_eq_true] at h
  obtain ⟨⟨h1,h2⟩,h3⟩:=h
  have hj:j<n:=by simp at hl;omega
  have here:∀ i,tb t0 i=true->∀ f,j<f->Je ops f j i=true:=by
   intro i hi f hf
   cases f with
   | zero=>omega
   | succ f=>
    have hji:=hj;have ho:ops[j]?=some (ops[j]'(by omega)):=Array.getElem?_eq_getElem _;have hm:=(Kk hdep j (ops[j]'(by omega)) (by rw [Array.getElem?_toList];exact ho)).1;have h4:=Kw.1 h1 i hi;rw [Za7,Bool.or_eq_true] at h4;simp only [Je,ho,Option.map_some,Option.getD_some,Array.any_eq_true']
    rcases h4 with h4 | h4
    ·rw [<- hm] at h4
     obtain ⟨e,he1,he2,he3⟩:=K5.1 h4;exact ⟨e,he1,by simp [he2,he3]⟩
    ·obtain ⟨q,t',e1,e2,e3⟩:=Vx h4
     have e2':=e2;rw [<- hm] at e2;obtain ⟨e,he1,he2,he3⟩:=K5.1 e2;have hlt:j-1-q<j:=Zcj e2' (Nat.le_of_ble_eq_true h2);have:=hpast q t' e1 i e3 f (by omega);exact ⟨e,he1,by simp [he2,he3,this]⟩
  cases r with
  | zero=>simp at hr;subst hr;rw [Nat.add_zero] at hf ⊢;exact here i hi f hf
  | succ r=>
   have:=Vw hsz hdep hml ts (t0::past) (j+1) h3 (by simp [hp]) (by simp at hl;omega) (λq t' hq i' hi' f' hf'=>by
    cases q with
    | zero=>simp at hq;subst hq;simp at hf' ⊢;exact here i' hi' f' (by omega)
    | succ q=>
     have:=hpast q t' (by simpa using hq) i' hi' f' (by omega)
     rwa [show j+1-1-(q+1)=j-1-q by omega]) r t (by simpa using hr) i hi f (by omega)
   rwa [show j+1+r=j+(r+1) by omega] at this
theorem Za4 {ops:Array Oper} {n:Nat} {ms ap tm:List Nat} (h:Gf ops n ms ap tm=true):Y4 ops n ms ap tm:=by
 simp only [Gf,Bool.and_eq_true] at h;obtain ⟨⟨⟨⟨⟨⟨h1,h2⟩,h3⟩,h4⟩,h5⟩,h6⟩,h7⟩:=h;have hsz:=Nat.eq_of_beq_eq_true h1;have hml:=Nat.eq_of_beq_eq_true h2;have htl:=Nat.eq_of_beq_eq_true h3;refine ⟨hsz,hml,h4,?_,?_,?_,?_⟩
 ·intro j o ho e he hb
  obtain ⟨e1,e2⟩:=Kk h5 j o (by simpa using ho);have h8:tb (nth ms j) e.on=true:=by rw [<- e1];exact K5.2 ⟨e,he,hb,rfl⟩
  exact ⟨h8,Zcj h8 e2⟩
 ·intro j o ho k hk
  obtain ⟨e1,e2⟩:=Kk h5 j o (by simpa using ho);rw [<- e1] at hk;exact K5.1 hk
 ·intro i j oi oj hi hj hb
  exact Vz h6 i oi (by simpa using hi) j oj hj hb
 ·intro j i hb
  have hj:j<n:=by
   rcases Nat.lt_or_ge j n with h8 | h8
   ·exact h8
   ·rw [H7,List.getD_eq_getElem?_getD,List.getElem?_eq_none (by omega)] at hb
    simp [Jd] at hb
  have ht:tm[j]?=some (nth tm j):=by
   have:j<tm.length:=by omega
   rw [H7,List.getD_eq_getElem?_getD,List.getElem?_eq_getElem this];rfl
  have:=Vw hsz h5 hml tm [] 0 h7 rfl (by omega) (λq t hq=>by simp at hq) j _ ht i hb ops.size (by omega);rwa [Nat.zero_add] at this

section
variable {ops:Array Oper} {m:Nat} {ms ap tm:List Nat}
def H9 (ms:List Nat) (D i:Nat):Bool:=!tb D i&&sb (nth ms i) D
def Jo (D i:Nat):Nat->List Nat->Bool
 | _,[]=>true
 | j,d::t=>(Nat.beq j i||tb D j||!sb d D)&&Jo D i (j+1) t
def Hl (D i a:Nat):Nat->List Nat->Bool
 | _,[]=>true
 | j,d::t=>(Nat.beq j i||tb D j||tb d i||tb a j)&&Hl D i a (j+1) t
def Jm (D:Nat):Nat->List Nat->Bool
 | _,[]=>true
 | j,d::t=>(!tb D j||sb d D)&&Jm D (j+1) t
theorem Uf {D i:Nat}:∀ {l:List Nat} {k:Nat},Jo D i k l=true->∀ j,j<l.length->k+j=i\/tb D (k+j)=true\/sb (nth l j) D=false
 | [],_,_,j,h=>by simp at h
 | d::t,k,h,j,hj=>by
  simp only [Jo,Bool.and_eq_true,Bool.or_eq_true,Bool.not_eq_true'] at h
  cases j with
  | zero=>
   rcases h.1 with (h1 | h1) | h1
   ·left;simpa using Nat.eq_of_beq_eq_true h1
   ·right;left;simpa using h1
   ·right;right;exact h1
  | succ j=>have:=Uf h.2 j (by simpa using hj);rwa [show k+1+j=k+(j+1) by omega] at this
theorem Uc {D i a:Nat}:∀ {l:List Nat} {k:Nat},Hl D i a k l=true->∀ j,j<l.length->k+j=i\/tb D (k+j)=true\/tb (nth l j) i=true\/tb a (k+j)=true
 | [],_,_,j,h=>by simp at h
 | d::t,k,h,j,hj=>by
  simp only [Hl,Bool.and_eq_true,Bool.or_eq_true] at h
  cases j with
  | zero=>
   rcases h.1 with ((h1 | h1) | h1) | h1
   ·left;simpa using Nat.eq_of_beq_eq_true h1
   ·right;left;simpa using h1
   ·right;right;left;exact h1
   ·right;right;right;simpa using h1
  | succ j=>have:=Uc h.2 j (by simpa using hj);rwa [show k+1+j=k+(j+1) by omega] at this
theorem V6 {D:Nat}:∀ {l:List Nat} {k:Nat},Jm D k l=true->∀ j,j<l.length->tb D (k+j)=false\/sb (nth l j) D=true
 | [],_,_,j,h=>by simp at h
 | d::t,k,h,j,hj=>by
  simp only [Jm,Bool.and_eq_true,Bool.or_eq_true,Bool.not_eq_true'] at h
  cases j with
  | zero=>exact h.1
  | succ j=>have:=V6 h.2 j (by simpa using hj);rwa [show k+1+j=k+(j+1) by omega] at this
theorem Qk {n i:Nat} (h:i<n) (done:List Nat) (b:Bool):(lst n done).getD i b=tb (Z5 done) i:=by rw [Gs h,Kl]
theorem Y4.ready (hS:Y4 ops m ms ap tm) {done:List Nat} {i:Nat} (h:H9 ms (Z5 done) i=true) (hi:i<m):i∈Region.ready .any ops (lst ops.size done):=by
 simp only [H9,Bool.and_eq_true,Bool.not_eq_true'] at h;have hlt:i<ops.size:=by rw [hS.size];exact hi
 rw [mem_ready];refine ⟨by rw [Qk hlt];exact h.1,ops[i],Array.getElem?_eq_getElem hlt,λe he hb=>?_⟩;obtain ⟨h1,h2⟩:=hS.dep i _ (Array.getElem?_eq_getElem hlt) e he hb;rw [Qk (by rw [hS.size];exact h2)];exact Kw.1 h.2 _ h1
theorem Y4.only (hS:Y4 ops m ms ap tm) {done:List Nat} {i:Nat} (h:Jo (Z5 done) i 0 ms=true):∀ j∈Region.ready .any ops (lst ops.size done),j=i:=by
 intro j hj;obtain ⟨h1,o,ho,h2⟩:=mem_ready.1 hj;have hlt:j<ops.size:=(Array.getElem?_eq_some_iff.1 ho).1;rw [Qk hlt] at h1
 rcases Uf h j (by rw [hS.len,<- hS.size];exact hlt) with h3 | h3 | h3
 ·omega
 ·rw [Nat.zero_add] at h3;rw [h3] at h1;cases h1
 ·have:sb (nth ms j) (Z5 done)=true:=Kw.2 λk hk=>by
   obtain ⟨e,he,hb,rfl⟩:=hS.dep' j o ho k hk;have:=h2 e he hb;rwa [Qk (by rw [hS.size];exact (hS.dep j o ho e he hb).2)] at this
  rw [this] at h3;cases h3
theorem Y4.free (hS:Y4 ops m ms ap tm) {done:List Nat} {i:Nat} {oi:Oper} (hi:ops[i]?=some oi) (h:Hl (Z5 done) i (nth ap i) 0 ms=true):
  ∀ j oj,ops[j]?=some oj->j≠i->(lst ops.size done).getD j true=false->(∀ e∈oj.after,Region.binds .any e=true->e.on≠i)->oi.apart ops oj=true:=by
 intro j oj hj hne hun hno;have hlt:j<ops.size:=(Array.getElem?_eq_some_iff.1 hj).1;rw [Qk hlt] at hun
 rcases Uc h j (by rw [hS.len,<- hS.size];exact hlt) with h3 | h3 | h3 | h3
 ·omega
 ·rw [Nat.zero_add] at h3;rw [h3] at hun;cases hun
 ·obtain ⟨e,he,hb,hk⟩:=hS.dep' j oj hj i h3
  exact absurd hk (hno e he hb)
 ·rw [Nat.zero_add] at h3;exact hS.apt i j oi oj hi hj h3
theorem Y4.closed (hS:Y4 ops m ms ap tm) {done:List Nat} (h:Jm (Z5 done) 0 ms=true):Jh ops (lst ops.size done):=by
 intro j o hj ho e he hb;have hlt:j<ops.size:=(Array.getElem?_eq_some_iff.1 ho).1;rw [Qk hlt] at hj;obtain ⟨h1,h2⟩:=hS.dep j o ho e he hb
 rcases V6 h j (by rw [hS.len,<- hS.size];exact hlt) with h3 | h3
 ·rw [Nat.zero_add] at h3;rw [h3] at hj;cases hj
 ·rw [Qk (by rw [hS.size];exact h2)];exact Kw.1 h3 _ h1
def Ku (m:Nat) (ms ap:List Nat) (D i:Nat):Bool:=Nat.blt i m&&H9 ms D i&&Hl D i (nth ap i) 0 ms
def J8 (tm:List Nat) (i:Nat):List Nat->Bool
 | []=>true
 | j::t=>tb (nth tm j) i&&J8 tm i t
theorem Ud {i:Nat}:∀ {l:List Nat},J8 tm i l=true->∀ j∈l,tb (nth tm j) i=true
 | [],_,j,h=>by cases h
 | a::l,h,j,hj=>by
  simp only [J8,Bool.and_eq_true] at h
  rcases List.mem_cons.1 hj with rfl | hj
  ·exact h.1
  ·exact Ud h.2 j hj
end
section
variable {P:Program} {n:Nat} {N:Nxt} {X:Nat->Nxt} {R:Nxt} {L:Loc} {w:World} {ops:Array Oper} {late:List Nat} {J:World->Prop} {d t:Nat} {pos:String} {aft:Array Edge} {fuel:Nat} {done:List Nat} {m:Nat} {ms ap tm:List Nat}
theorem X9 {id:Nat} {l:List Oper} (m:Nat) (ms ap tm:List Nat) (late:List Nat) (J:World->Prop) (hm:P.follows .mixedOrders=true) (hB:Gf l.toArray m ms ap tm=true) (h:Y4 l.toArray m ms ap tm->OD P n l.toArray late J l.length [] N L { w with drawn:=w.drawn+1 }):W P n (.region id l.toArray true) N X R L w:=
 Zcs late J hm (h (Za4 hB))
theorem U9 {i:Nat} {op:Op} {v:Value} {g:Option (Nat×Bool)} (hS:Y4 ops m ms ap tm) (hi:ops[i]?=some ⟨some d,op,t,pos,aft,g⟩) (hd:Nat.blt d n=true) (hok:(Ku m ms ap (Z5 done) i&&(Jm (Z5 done) 0 ms&&J8 tm i late))=true) (hJ:J w)
  (hy:∀ a,Sat n L a->YI P ops J ⟨some d,op,t,pos,aft,g⟩ v a) (k:OD P n ops late J fuel (i::done) N ((d,v)::L) w):OD P n ops late J (fuel+1) done N L w:=by
 intro a ha;simp only [Ku,Bool.and_eq_true] at hok;obtain ⟨⟨⟨h1,h2⟩,h3⟩,h4,h5⟩:=hok;refine U7 hi (λj hj=>hS.anc j i (Ud h5 j hj)) (Region.noSelect_spec hS.nosel) (λc a w hq=>by cases hq.1) fuel _ a w (hS.closed h4) (hS.free hi h3) (hS.ready h2 (Nat.le_of_ble_eq_true h1)) hJ (hy a ha) ?_;rw [Uw];exact k _ (ha.put hd v)
theorem Kg {i:Nat} {op:Op} {v:Value} {g:Option (Nat×Bool)} (hS:Y4 ops m ms ap tm) (hi:ops[i]?=some ⟨some d,op,t,pos,aft,g⟩) (hd:Nat.blt d n=true) (hok:Ku m ms ap (Z5 done) i=true)
  (hy:∀ a,Sat n L a->YI P ops (λ_=>True) ⟨some d,op,t,pos,aft,g⟩ v a) (k:OD P n ops late J fuel (i::done) N ((d,v)::L) w):OD P n ops late J (fuel+1) done N L w:=by
 intro a ha;simp only [Ku,Bool.and_eq_true] at hok;obtain ⟨⟨h1,h2⟩,h3⟩:=hok;refine Vo hi (λj o cs b hj=>Region.noSelect_spec hS.nosel j o cs b hj) (λc a w hq=>by cases hq.1) fuel _ a w (hS.free hi h3) (hS.ready h2 (Nat.le_of_ble_eq_true h1)) (hy a ha) ?_;rw [Uw];exact k _ (ha.put hd v)
theorem Zc6 {i:Nat} {op:Op} {v:Value} (hS:Y4 ops m ms ap tm) (hi:ops[i]?=some ⟨some d,op,t,pos,aft,none⟩) (hd:Nat.blt d n=true) (hok:(Ku m ms ap (Z5 done) i&&(Jm (Z5 done) 0 ms&&J8 tm i late))=true) (hJ:J w)
  (hy:∀ w,J w->Y P n L w op t v) (k:OD P n ops late J fuel (i::done) N ((d,v)::L) w):OD P n ops late J (fuel+1) done N L w:=
 U9 hS hi hd hok hJ (λa ha=>.inl ⟨rfl,λw hw=>hy w hw a ha _ _ _ _⟩) k
theorem Zbi {i j dj:Nat} {b:Bool} {op:Op} {v:Value} (hS:Y4 ops m ms ap tm) (hi:ops[i]?=some ⟨some d,op,t,pos,aft,some (j,b)⟩) (hj:(ops[j]?).bind (·.dst)=some dj) (hl:lk dj L=some (.bool b)) (hd:Nat.blt d n=true) (hok:(Ku m ms ap (Z5 done) i&&(Jm (Z5 done) 0 ms&&J8 tm i late))=true) (hJ:J w)
  (hy:∀ w,J w->Y P n L w op t v) (k:OD P n ops late J fuel (i::done) N ((d,v)::L) w):OD P n ops late J (fuel+1) done N L w:=
 U9 hS hi hd hok hJ (λa ha=>.inl ⟨by simp only [Region.wanted,Kx ha hj hl,BEq.rfl],λw hw=>hy w hw a ha _ _ _ _⟩) k
theorem Zb9 {i:Nat} {op:Op} {v:Value} (hS:Y4 ops m ms ap tm) (hi:ops[i]?=some ⟨some d,op,t,pos,aft,none⟩) (hd:Nat.blt d n=true) (hok:Ku m ms ap (Z5 done) i=true)
  (hy:∀ w,Y P n L w op t v) (k:OD P n ops late J fuel (i::done) N ((d,v)::L) w):OD P n ops late J (fuel+1) done N L w:=
 Kg hS hi hd hok (λa ha=>.inl ⟨rfl,λw _=>hy w a ha _ _ _ _⟩) k
theorem Zaa {i j dj:Nat} {b:Bool} {op:Op} {v:Value} (hS:Y4 ops m ms ap tm) (hi:ops[i]?=some ⟨some d,op,t,pos,aft,some (j,b)⟩) (hj:(ops[j]?).bind (·.dst)=some dj) (hl:lk dj L=some (.bool b)) (hd:Nat.blt d n=true) (hok:Ku m ms ap (Z5 done) i=true)
  (hy:∀ w,Y P n L w op t v) (k:OD P n ops late J fuel (i::done) N ((d,v)::L) w):OD P n ops late J (fuel+1) done N L w:=
 Kg hS hi hd hok (λa ha=>.inl ⟨by simp only [Region.wanted,Kx ha hj hl,BEq.rfl],λw _=>hy w a ha _ _ _ _⟩) k
theorem Zco {i j dj:Nat} {b c:Bool} {op:Op} (hS:Y4 ops m ms ap tm) (hi:ops[i]?=some ⟨some d,op,t,pos,aft,some (j,b)⟩) (hj:(ops[j]?).bind (·.dst)=some dj) (hl:lk dj L=some (.bool c)) (hc:c=!b) (hd:Nat.blt d n=true) (hok:Ku m ms ap (Z5 done) i=true)
  (k:OD P n ops late J fuel (i::done) N ((d,undef)::L) w):OD P n ops late J (fuel+1) done N L w:=
 Kg hS hi hd hok (λa ha=>.inr ⟨by
  simp only [Region.wanted,Kx ha hj hl]
  subst hc;cases b<;>rfl,rfl⟩) k
theorem Zbg {i j dj:Nat} {b:Bool} {op:Op} (hS:Y4 ops m ms ap tm) (hi:ops[i]?=some ⟨some d,op,t,pos,aft,some (j,b)⟩) (hj:(ops[j]?).bind (·.dst)=some dj) (hl:lk dj L=some undef) (hd:Nat.blt d n=true) (hok:Ku m ms ap (Z5 done) i=true)
  (k:OD P n ops late J fuel (i::done) N ((d,undef)::L) w):OD P n ops late J (fuel+1) done N L w:=
 Kg hS hi hd hok (λa ha=>.inr ⟨by simp only [Region.wanted,Kq ha hj hl];rfl,rfl⟩) k
theorem Zbh {i:Nat} {o:Oper} (hS:Y4 ops m ms ap tm) (hi:ops[i]?=some o) (hok:(Nat.blt i m&&H9 ms (Z5 done) i&&Jo (Z5 done) i 0 ms)=true)
  (h:∀ N':Nxt,(∀ L' w',(late.contains i=false->J w->J w')->OD P n ops late J fuel (i::done) N L' w'->N' L' w')->O P n ops [o] N' L w):OD P n ops late J (fuel+1) done N L w:=by
 simp only [Bool.and_eq_true] at hok;obtain ⟨⟨h1,h2⟩,h3⟩:=hok;intro a ha;refine ⟨λh0=>(by have:=hS.ready h2 (Nat.le_of_ble_eq_true h1);rw [h0] at this;cases this),λq hq=>?_⟩;obtain rfl:=hS.only h3 q hq;exact Kf hi h ha
def Ux (D i k:Nat):Nat->List Nat->Bool
 | _,[]=>true
 | j,d::t=>(Nat.beq j i||Nat.beq j k||tb D j||!sb d D)&&Ux D i k (j+1) t
theorem J9 {D i q:Nat}:∀ {l:List Nat} {k:Nat},Ux D i q k l=true->∀ j,j<l.length->(k+j=i\/k+j=q)\/tb D (k+j)=true\/sb (nth l j) D=false
 | [],_,_,j,h=>by simp at h
 | d::t,k,h,j,hj=>by
  simp only [Ux,Bool.and_eq_true,Bool.or_eq_true,Bool.not_eq_true'] at h
  cases j with
  | zero=>
   rcases h.1 with ((h1 | h1) | h1) | h1
   ·left;left;simpa using Nat.eq_of_beq_eq_true h1
   ·left;right;simpa using Nat.eq_of_beq_eq_true h1
   ·right;left;simpa using h1
   ·right;right;exact h1
  | succ j=>have:=J9 h.2 j (by simpa using hj);rwa [show k+1+j=k+(j+1) by omega] at this
theorem Qz {i j:Nat} {o u:Oper} (hS:Y4 ops m ms ap tm) (hi:ops[i]?=some o) (hj:ops[j]?=some u) (hok:(Nat.blt i m&&H9 ms (Z5 done) i&&Ux (Z5 done) i j 0 ms)=true)
  (h:∀ N':Nxt,(∀ L' w',(late.contains i=false->J w->J w')->OD P n ops late J fuel (i::done) N L' w'->N' L' w')->O P n ops [o] N' L w)
  (k:∀ N':Nxt,(∀ L' w',(late.contains j=false->J w->J w')->OD P n ops late J fuel (j::done) N L' w'->N' L' w')->O P n ops [u] N' L w):OD P n ops late J (fuel+1) done N L w:=by
 simp only [Bool.and_eq_true] at hok;obtain ⟨⟨h1,h2⟩,h3⟩:=hok;intro a ha;refine ⟨λh0=>(by have:=hS.ready h2 (Nat.le_of_ble_eq_true h1);rw [h0] at this;cases this),λq hq=>?_⟩;obtain ⟨e1,o',ho,e2⟩:=mem_ready.1 hq;have hlt:q<ops.size:=(Array.getElem?_eq_some_iff.1 ho).1;rw [Qk hlt] at e1
 rcases J9 h3 q (by rw [hS.len,<- hS.size];exact hlt) with (h4 | h4) | h4 | h4
 ·obtain rfl:q=i:=by omega
  exact Kf hi h ha
 ·obtain rfl:q=j:=by omega
  exact Kf hj k ha
 ·rw [Nat.zero_add] at h4;rw [h4] at e1;cases e1
 ·have:sb (nth ms q) (Z5 done)=true:=Kw.2 λb hb=>by
   obtain ⟨e,he,hbb,rfl⟩:=hS.dep' q o' ho b hb;have:=e2 e he hbb;rwa [Qk (by rw [hS.size];exact (hS.dep q o' ho e he hbb).2)] at this
  rw [this] at h4;cases h4
theorem G8 (hS:Y4 ops m ms ap tm) (hr:Jo (Z5 done) m 0 ms=true) (h:N L w):OD P n ops late J fuel done N L w:=by
 refine Zbf ?_ h;apply List.eq_nil_iff_forall_not_mem.2;intro q hq;have h1:=hS.only hr q hq;obtain ⟨_,o,ho,_⟩:=mem_ready.1 hq;have:q<ops.size:=(Array.getElem?_eq_some_iff.1 ho).1;rw [hS.size] at this;omega
theorem Yk {w0:World} {ρ:Hp} {Γ:List Yd} (hS:Y4 ops m ms ap tm) (late':List Nat) (hs:St w0 ρ Γ w)
  (hl:sb (Nat.pred (Nat.pow 2 m)) (Nat.lor (Z5 done) (Z5 late))=true) (h:OD P n ops late' (λw=>St w0 ρ Γ w) fuel done N L w):OD P n ops late J fuel done N L w:=by
 refine Zab late' _ ?_ h;rw [List.all_eq_true];intro i hi;have hlt:i<m:=by rw [<- hS.size];exact List.mem_range.1 hi
 have h1:tb (Nat.pred (Nat.pow 2 m)) i=true:=by rw [Ke];show (2^m-1).testBit i=true;rw [Nat.testBit_two_pow_sub_one];simpa using hlt
 have:=Kw.1 hl i h1;rwa [Za7,Kl,Kl] at this
theorem WL.weak {c:Code} (L':Loc) (hs:Sub L' L) (h:WL P n c X R L' w):WL P n c X R L w:=λa ha=>h a (ha.weak hs)
theorem Zcn (h:∀ Q:List Nat->(World->Prop)->Nat->List Nat->Loc->World->Prop,(∀ late J fuel done L w,OD P n ops late J fuel done N L w↔Q late J fuel done L w)->Q late J fuel done L w):OD P n ops late J fuel done N L w:=
 h (λlate J fuel done L w=>OD P n ops late J fuel done N L w) (λ_ _ _ _ _ _=>Iff.rfl)
theorem Zat {k:Nat} {a b:List Nat} (h:Z5 a=Z5 b):lst k a=lst k b:=by
 apply Array.ext
 ·simp [lst]
 ·intro i h1 h2
  simp only [lst,List.getElem_toArray,List.getElem_map,List.getElem_range];rw [<- Kl,<- Kl,h]
theorem Xu {fuel':Nat} {done':List Nat} (hf:fuel=fuel') (hd:Nat.beq (Z5 done) (Z5 done')=true) (h:OD P n ops late J fuel' done' N L w):OD P n ops late J fuel done N L w:=by
 subst hf;intro a ha;rw [Zat (Nat.eq_of_beq_eq_true hd)];exact h a ha
end
end
section
open Go.RowKit
section
variable {P:Program} {n:Nat} {N:Nxt} {L:Loc} {w w0:World} {ops:Array Oper} {rest:List Oper} {d t:Nat} {pos:String} {aft:Array Edge} {ρ:Hp} {Γ:List Yd} {x y:Operand}

def Win (v:Value) (lo m:Nat) (d:Value):Prop:=∃ a c,d=.slice a m c/\m<=c/\(0<m->∃ g,v.ownBlock=some g/\a=some ⟨g,lo,none⟩)
theorem Win.one {v d:Value} {lo m:Nat} (h:Win v lo m d):d.oneCell'=true:=by obtain ⟨a,c,rfl,_⟩:=h;rfl
theorem Zbl {sl e bytes lo m g:Nat} {v d:Value} {k:IntKind} {i:Int} (he:Y9 P sl e 1 bytes) (hw:Win v lo m d) (hg:v.ownBlock=some g) (hx:ev L x=some d) (hy:ev L y=some (.int k i)) (h0:0<=i) (h1:i<(m:Int)):
  Y P n L w (.indexAddr sl x y) t (.pointer (some ⟨g,lo+i.toNat,none⟩)):=by
 obtain ⟨a,c,rfl,hc,hp⟩:=hw;obtain ⟨g',e1,rfl⟩:=hp (by omega);rw [hg] at e1;cases e1;have:=Zct (n:=n) (L:=L) (w:=w) (t:=t) he hx hy h0 h1;simpa using this
theorem Z3.setInt {k:IntKind} {cs:List Value} {xs:List Int} (hr:Z3 (Rep.int k) ρ cs xs) (q:Nat) (z:Int):Z3 (Rep.int k) ρ (cs.set q (.int k z)) (xs.set q z):=by
 have hsz:(Rep.int k).sz=1:=rfl;refine ⟨by simpa using hr.1,λi u hu=>⟨[.int k u],rfl,λj a ha=>?_⟩⟩;rw [hsz,Nat.mul_one]
 cases j with
 | succ j=>simp at ha
 | zero=>
  simp only [List.getElem?_cons_zero,Option.some.injEq] at ha;subst ha;rw [Nat.add_zero];by_cases c:q=i
  ·subst c
   have hl:q<xs.length:=by have:=List.getElem?_eq_some_iff.1 hu;obtain ⟨h,_⟩:=this;simpa using h
   rw [List.getElem?_set_self hl] at hu;rw [List.getElem?_set_self (by rw [hr.1,hsz];omega)];simp only [Option.some.injEq] at hu ⊢;rw [hu]
  ·rw [List.getElem?_set_ne c] at hu
   rw [List.getElem?_set_ne c];obtain ⟨c',h1,h2⟩:=hr.2 i u hu;have h1:c'=[.int k u]:=h1;have:=h2 0 (.int k u) (by rw [h1];rfl);rw [hsz,Nat.mul_one,Nat.add_zero] at this;exact this
end
end
section
open Go.RowKit
section
variable {P:Program} {n:Nat} {N:Nxt} {L:Loc} {w w0:World} {ops:Array Oper} {rest:List Oper} {t:Nat} {pos:String} {aft:Array Edge} {ρ ρ':Hp} {Γ:List Yd} {x y:Operand}
variable {k:IntKind} {rv d:Value} {cs:List Value} {pre post ys:List Int}

def Ky (k:IntKind) (ρ:Hp) (rv:Value) (cs:List Value) (d:Value) (pre post ys:List Int):Prop:=Z3 (Rep.int k) ρ cs (pre++(ys++post))/\Win rv pre.length ys.length d
theorem Ky.mono (hle:Le ρ ρ') (h:Ky k ρ rv cs d pre post ys):Ky k ρ' rv cs d pre post ys:=⟨h.1.mono hle,h.2⟩
theorem Ky.one (h:Ky k ρ rv cs d pre post ys):d.oneCell'=true:=h.2.one
theorem Ky.ix {sl e bytes:Nat} {i:Int} (h:Ky k ρ rv cs d pre post ys) (he:Y9 P sl e (Rep.int k).sz bytes) (h0:0<=i) (h1:i<(ys.length:Int)):
  ∃ g,rv.ownBlock=some g/\∀ {n:Nat} {L:Loc} {w:World} {x y:Operand} {k':IntKind} {t:TypeId},ev L x=some d->ev L y=some (.int k' i)->Y P n L w (.indexAddr sl x y) t (.pointer (some ⟨g,pre.length+i.toNat,none⟩)):=by
 have hw:=h.2;obtain ⟨a,c,hd,hc,hp⟩:=h.2;obtain ⟨g,e1,_⟩:=hp (by omega);exact ⟨g,e1,λhx hy=>Zbl he hw e1 hx hy h0 h1⟩
theorem Zb0 {i:Nat} {z:Int} (h1:i<ys.length):(pre++(ys++post)).set (pre.length+i) z=pre++(ys.set i z++post):=by
 rw [List.set_append_right _ _ (by omega),show pre.length+i-pre.length=i from by omega,List.set_append_left _ _ h1]
theorem Ky.set {i:Int} {z:Int} (h:Ky k ρ rv cs d pre post ys) (h0:0<=i) (h1:i<(ys.length:Int)):Ky k ρ rv (cs.set (pre.length+i.toNat) (.int k z)) d pre post (ys.set i.toNat z):=by
 refine ⟨?_,by rw [List.length_set];exact h.2⟩;have:=h.1.setInt (pre.length+i.toNat) z;rwa [Zb0 (by omega)] at this
theorem Ky.of {xs:List Int} {l h:Int} (hr:Z3 (Rep.int k) ρ cs xs) (hw:Win rv l.toNat (h.toNat-l.toNat) d) (h0:0<=l) (h1:l<=h) (h2:h<=(xs.length:Int)):
  Ky k ρ rv cs d (xs.take l.toNat) (xs.drop h.toNat) (sub xs l h):=by
 have e1:(xs.take l.toNat).length=l.toNat:=by rw [List.length_take];omega
 have e2:(sub xs l h).length=h.toNat-l.toNat:=by simp [sub];omega
 refine ⟨?_,by rw [e1,e2];exact hw⟩;have:xs.take l.toNat++(sub xs l h++xs.drop h.toNat)=xs:=by
  have a1:xs.take h.toNat=xs.take l.toNat++sub xs l h:=by have:=List.take_append_drop l.toNat (xs.take h.toNat);rw [List.take_take,Nat.min_eq_left (by omega)] at this;exact this.symm
  rw [<- List.append_assoc,<- a1,List.take_append_drop]
 rw [this];exact hr
theorem Ky.done {m e j:Nat} (hs:St w0 ρ Γ w) (h:Ky k ρ rv cs d pre post ys) (hi:Γ[j]?=some (.row rv e (Rep.int k).sz m cs)):
  Z3 (Rep.int k) ρ cs (pre++(ys++post))/\m=(pre++(ys++post)).length:=by
 have hok:w.ownsRow 0 e (Rep.int k).sz rv m cs:=hs.ok _ (List.mem_of_getElem? hi);have e1:=hok.1;have e2:=h.1.1;have hs1:(Rep.int k).sz=1:=rfl;rw [hs1,Nat.mul_one] at e1 e2;exact ⟨h.1,by rw [<- e1,e2]⟩
end
end
section
open Go.RowKit
theorem gd {α:Type} {p:Prop} [Decidable p] {x:Option α} {r:α} (H:(if p then x else none)=some r):p/\x=some r:=by
 by_cases c:p
 ·rw [if_pos c] at H;exact ⟨c,H⟩
 ·rw [if_neg c] at H;cases H
theorem Yg {α:Type} {a b:α} (h:some a=some b):a=b:=Option.some.inj h
theorem bft {b:Bool} (h:b=false):¬ b=true:=by rw [h];exact Bool.false_ne_true
theorem Ai {a b:Prop} (h:a) (k:b):a/\b:=⟨h,k⟩
theorem ssr {α:Type} {l:List α}:l.Sublist l:=List.Sublist.refl l
theorem ssk {α:Type} {a:α} {l m:List α} (h:l.Sublist m):l.Sublist (a::m):=h.cons _
theorem ssc {α:Type} {a:α} {l m:List α} (h:l.Sublist m):(a::l).Sublist (a::m):=h.cons_cons _
section
variable {P:Program} {n:Nat} {N:Nxt} {X:Nat->Nxt} {R:Nxt} {L:Loc} {w w0:World} {ops:Array Oper} {rest:List Oper} {d t:Nat} {pos:String} {aft:Array Edge} {ρ:Hp} {Γ:List Yd} {x y:Operand}
theorem S1 {a:Nat} {u:Value} (h:lk a L=some u):Sub [(a,u)] L:=Sub.cons h Sub.nil
theorem S2 {a b:Nat} {u v:Value} (h:lk a L=some u) (k:lk b L=some v):Sub [(a,u),(b,v)] L:=Sub.cons h (S1 k)
theorem Wr {id:Nat} {l:List Oper} {y:Code} (h:∀ N':Nxt,(∀ L w,W P n y N X R L w->N' L w)->O P n l.toArray l N' L w):W P n (.seq (.region id l.toArray false) y) N X R L w:=Zn λN' h'=>Zg (h N' h')
theorem Yb (i:Nat) {ty b o T:Nat} {cs:List Value} {v:Value} (ha:Z4 P ty=some false) (hs:St w0 ρ Γ w) (hi:Γ[i]?=some (.box b T cs)) (hv:cs[o]?=some v) (hx:ev L x=some (.pointer (some ⟨b,o,none⟩))):Y P n L w (.load ty x) t v:=Zbm ha hs hi hv hx
end
section
variable {P:Program} {n:Nat} {ops:Array Oper} {late done:List Nat} {J:World->Prop} {N:Nxt} {L:Loc} {w:World} {d t:Nat} {pos:String} {aft:Array Edge} {fuel:Nat} {m:Nat} {ms ap tm:List Nat}
end
end
section
open Go.IntKind (i8 i16 i32 i64 u8 u16 u32 u64)
open Go.RowKit
section
variable {P:Program} {n:Nat} {N:Nxt} {L:Loc} {w w0:World} {ops:Array Oper} {rest:List Oper} {d t:Nat} {pos:String} {aft:Array Edge} {ρ:Hp} {Γ:List Yd} {x y:Operand} {xt yt:TypeId}
def Xd (xs:List Int):ByteArray:=xs.foldl (λr n=>r.push (UInt8.ofNat n.toNat)) ByteArray.empty
theorem Hs {k:IntKind} {xs:List Int} {b o:Nat} (hs:St w0 ρ Γ w) (h:∀ i x,xs[i]?=some x->∃ cs,(Rep.int k).R ρ cs x/\∀ j u,cs[j]?=some u->ρ ⟨b,o+i*(Rep.int k).sz+j,none⟩=some u):
  (loadCells ⟨b,o,none⟩ xs.length).run P w=.ok (xs.map (Value.int k)).toArray w:=by
 have:=Yy (P:=P) (w:=w) (a:=⟨b,o,none⟩) (xs.map (Value.int k)) 0 #[] (λj u hu=>by
  rw [Nat.zero_add,Addr.add_lit];rw [List.getElem?_map] at hu;obtain ⟨z,hz,rfl⟩:=Option.map_eq_some_iff.1 hu;obtain ⟨cs,h1,h2⟩:=h j z hz;have h1':cs=[.int k z]:=h1;have:=h2 0 (.int k z) (by rw [h1'];rfl);exact hs.see (by simpa [Rep.int] using this))
 rw [List.length_map] at this;simpa [loadCells] using this
theorem Zae {src dst e:TypeId} {v:Value} {xs:List Int} (hu:P.underlying src=some (.slice e)) (he:P.underlying e=some (.int .i32)) (hd:P.underlying dst=some .string) (hs:St w0 ρ Γ w) (f:SlR (Rep.int .i32) ρ v xs) (hx:ev L x=some v):
  Y P n L w (.convert src dst x) t (.string (runesBytes xs)):=λa ha _ _ _ _=>by
 rcases f with ⟨rfl,p,c,rfl⟩ | ⟨b,o,c,rfl,_,h⟩
 ·have:(Conv.runesToString (.slice p 0 c)).run P w=.ok (.string (runesBytes [])) w:=by
   cases p with
   | none=>rfl
   | some p=>exact run_runesToString w p 0 c [] (by simp [loadCells,loadCellsFrom])
  simp [execOp,ha.ev hx,run_convert_runes_string w src dst e p 0 c hu he hd,this]
 ·simp [execOp,ha.ev hx,run_convert_runes_string w src dst e _ _ c hu he hd,run_runesToString w _ xs.length c xs (Hs hs h)]
theorem Kz {src dst e:TypeId} {v:Value} {xs:List Int} (hu:P.underlying src=some (.slice e)) (he:P.underlying e=some (.int .u8)) (hd:P.underlying dst=some .string) (hs:St w0 ρ Γ w) (f:SlR (Rep.int .u8) ρ v xs) (hx:ev L x=some v):
  Y P n L w (.convert src dst x) t (.string (Xd xs)):=λa ha _ _ _ _=>by
 rcases f with ⟨rfl,p,c,rfl⟩ | ⟨b,o,c,rfl,_,h⟩
 ·have:(Conv.bytesToString (.slice p 0 c)).run P w=.ok (.string (Xd [])) w:=by
   cases p with
   | none=>rfl
   | some p=>exact run_bytesToString w p 0 c [] (by simp [loadCells,loadCellsFrom])
  simp [execOp,ha.ev hx,run_convert_bytes_string w src dst e p 0 c hu he hd,this]
 ·simp [execOp,ha.ev hx,run_convert_bytes_string w src dst e _ _ c hu he hd,run_bytesToString w _ xs.length c xs (Hs hs h),Xd]
theorem Qn {a b:ByteArray} (hx:ev L x=some (.string a)) (hy:ev L y=some (.string b)) (h:a.size+b.size<=9223372036854775807):Y P n L w (.binOp .add xt x y yt) t (.string (a++b)):=
 Vu hx hy rfl (by
  have:¬ (((a.size+b.size:Nat):Int)>i64.max):=by show ¬ (_>(9223372036854775807:Int));omega
  simp only [binOp,Op.stringOp,this,if_false,Sem.run_pure])
theorem Kr {sl:TypeId} {s:ByteArray} {lo hi:Option Operand} {l h:Int} (hu:P.underlying sl=some .string) (hx:ev L x=some (.string s)) (hl:(lo=none/\l=0)\/∃ z k,lo=some z/\ev L z=some (.int k l)) (hh:(hi=none/\h=(s.size:Int))\/∃ z k,hi=some z/\ev L z=some (.int k h))
  (h0:0<=l) (h1:l<=h) (h2:h<=(s.size:Int)):Y P n L w (.slice sl x lo hi none) t (.string (s.extract l.toNat h.toNat)):=by
 intro q hq _ _ _ _;have hb:(Instr.sliceBounds false s.size s.size (lo.map q.eval) (hi.map q.eval) none).run P w=.ok (l.toNat,h.toNat,s.size) w:=by
  rcases hl with ⟨rfl,rfl⟩ | ⟨zl,kl,rfl,hzl⟩<;>rcases hh with ⟨rfl,rfl⟩ | ⟨zh,kh,rfl,hzh⟩
  ·simp [Instr.sliceBounds]
  ·have e1:=Xz (P:=P) (w:=w) (c:=.sliceAlen) (hq.ev hzh) (by omega) h2
   simp [Instr.sliceBounds,e1]
  ·have e1:=Xz (P:=P) (w:=w) (c:=.sliceB) (hq.ev hzl) h0 h1
   simp [Instr.sliceBounds,e1]
  ·have e1:=Xz (P:=P) (w:=w) (c:=.sliceAlen) (hq.ev hzh) (by omega) h2
   have e2:=Xz (P:=P) (w:=w) (c:=.sliceB) (hq.ev hzl) h0 (show l<=(h.toNat:Int) by omega);simp [Instr.sliceBounds,e1,e2]
 simp [execOp,Instr.sliceAt,Instr.slice,hq.ev hx,run_underlying hu,hb]
end
end
section
open Go.RowKit
section
variable {P:Program} {n:Nat} {N:Nxt} {L:Loc} {w w0:World} {ops:Array Oper} {rest:List Oper} {d t:Nat} {pos:String} {aft:Array Edge} {ρ:Hp} {Γ:List Yd} {x y:Operand}
def wl:List Value->Nat->List Value->List Value
 | [],_,cs=>cs
 | v::r,o,cs=>wl r (o+1) (cs.set o v)
end
end
section
open Go.RowKit
section
variable {P:Program} {n:Nat} {N:Nxt} {X:Nat->Nxt} {R:Nxt} {L:Loc} {w w0:World} {ops:Array Oper} {rest:List Oper} {d t:Nat} {pos:String} {aft:Array Edge} {ρ:Hp} {Γ:List Yd} {x y:Operand}
def bel {α:Type} (n d:Nat) (o:Option α):Option α:=bif Nat.blt d n then o else none
theorem Yp {α:Type} {n d:Nat} {o:Option α} {a:α} (h:bel n d o=some a):Nat.blt d n=true/\o=some a:=by
 unfold bel at h
 cases hb:Nat.blt d n with
 | true=>rw [hb] at h;exact ⟨rfl,h⟩
 | false=>rw [hb] at h;cases h
def tw2 {α β:Type}:Option α->Option β->Option (α×β)
 | some a,some b=>some (a,b)
 | _,_=>none
theorem Ql {α β:Type} {o:Option α} {p:Option β} {a:α} {b:β} (h:tw2 o p=some (a,b)):o=some a/\p=some b:=by
 cases o<;>cases p<;>simp_all [tw2]
def ev2 (n d:Nat) (L:Loc) (x y:Operand):Option (Value×Value):=bel n d (tw2 (ev L x) (ev L y))
theorem Yf {u v:Value} (h:ev2 n d L x y=some (u,v)):Nat.blt d n=true/\ev L x=some u/\ev L y=some v:=by
 obtain ⟨h1,h2⟩:=Yp h;exact ⟨h1,Ql h2⟩
theorem T2 {a b:Nat} {u v:Value} (h:tw2 (lk a L) (lk b L)=some (u,v)):Sub [(a,u),(b,v)] L:=S2 (Ql h).1 (Ql h).2
theorem T3 {a b c:Nat} {u v z:Value} (h:tw2 (lk a L) (tw2 (lk b L) (lk c L))=some (u,v,z)):Sub [(a,u),(b,v),(c,z)] L:=Sub.cons (Ql h).1 (T2 (Ql h).2)
theorem T4 {a b c e:Nat} {u v z q:Value} (h:tw2 (lk a L) (tw2 (lk b L) (tw2 (lk c L) (lk e L)))=some (u,v,z,q)):Sub [(a,u),(b,v),(c,z),(e,q)] L:=Sub.cons (Ql h).1 (T3 (Ql h).2)
theorem sbn {A B:Loc} (h:Sub A B:=by repeat first | exact Sub.nil | refine Sub.cons rfl ?_):Sub A B:=h
theorem Mv {v:Value} (h:bel n d (ev L x)=some v) (k:O P n ops rest N ((d,v)::L) w):O P n ops (⟨some d,.move x,t,pos,aft,none⟩::rest) N L w:=O_y (Yp h).1 (Xi (Yp h).2) k
theorem As {v:Value} (h:bel n d (ev L x)=some v) (k:O P n ops rest N ((d,v)::L) w):O P n ops (⟨some d,.assign x,t,pos,aft,none⟩::rest) N L w:=O_y (Yp h).1 (Yz (Yp h).2) k
def gdv (ops:Array Oper) (L:Loc) (j:Nat):Option Value:=((ops[j]?).bind (·.dst)).bind (lk · L)
def gB:Option Value->Bool->Bool
 | some (.bool c),b=>c == b
 | _,_=>false
theorem Jv {o:Option Value} {b:Bool} (h:gB o b=true):o=some (.bool b):=by
 unfold gB at h;split at h
 ·rw [eq_of_beq h]
 ·cases h
theorem Kd {j:Nat} {v:Value} (h:gdv ops L j=some v):∃ dj,(ops[j]?).bind (·.dst)=some dj/\lk dj L=some v:=Option.bind_eq_some_iff.1 h
theorem On {j:Nat} {b:Bool} {op:Op} (h:(Nat.blt d n&&gB (gdv ops L j) (!b))=true) (k:O P n ops rest N ((d,undef)::L) w):O P n ops (⟨some d,op,t,pos,aft,some (j,b)⟩::rest) N L w:=by
 rw [Bool.and_eq_true] at h;obtain ⟨dj,h1,h2⟩:=Kd (Jv h.2);exact Zd2 h1 h2 rfl h.1 k
theorem Oe {j:Nat} {b:Bool} {dst:Option Nat} {op:Op} (h:gB (gdv ops L j) b=true) (k:O P n ops (⟨dst,op,t,pos,aft,none⟩::rest) N L w):O P n ops (⟨dst,op,t,pos,aft,some (j,b)⟩::rest) N L w:=by
 obtain ⟨dj,h1,h2⟩:=Kd (Jv h);exact Zc9 h1 h2 k
theorem Oc {f:FuncId} {xs:List Operand} {ts:Array TypeId} {vs:List Value} {S:Value->World->Prop} (hx:bel n d (evs L xs)=some vs) (hc:Zt P f vs w S) (k:∀ v w',S v w'->O P n ops rest N ((d,v)::L) w'):
  O P n ops (⟨some d,.call { callee:=.value (.func f),args:=xs.toArray,argTypes:=ts },t,pos,aft,none⟩::rest) N L w:=Zcp (Yp hx).1 (Yp hx).2 hc k
theorem Ox {A:Nxt} (f:∀ L w,A L w->N L w) (k:A L w):O P n ops [] N L w:=Zh (f _ _ k)
theorem Wx {A:Nxt} (f:∀ L w,A L w->N L w) (k:A L w):W P n .skip N X R L w:=Xw (f _ _ k)
theorem Et {f:FuncId} {fn:Func} {c:Code} {args:List Value} {S:Value->World->Prop} (hf:P.funcs[f]?=some fn) (hn:fn.ntmps=n) (hb:fn.body=some c) (h:W P n c (Ret P n fn S) (λ_ _ _=>False) (Ret P n fn S) (Qx 0 args) w)
  (hname:(fn.name == "runtime.NumGoroutine")=false:=by kernel_rfl) (hs:Nat.ble args.length n=true:=by exact rfl):Zt P f args w S:=enter hf hn hb hname hs h
def rtv (fn:Func) (L:Loc):Option Value:=match fn.results.toList with
 | [.tmp t]=>lk t L
 | _=>none
theorem r1 {fn:Func} {S:Value->World->Prop} {v:Value} (hr:rtv fn L=some v) (h:S v w):Ret P n fn S L w:=by
 unfold rtv at hr;split at hr
 ·rename_i t e
  exact Zd5 (Array.toList_inj.1 e) hr h
 ·cases hr
section
variable {xt yt:TypeId} {k:IntKind} {p q:Int}
theorem Oad (h:ev2 n d L x y=some (.int k p,.int k q)) (c:O P n ops rest N ((d,.int k (k.wrap (p+q)))::L) w):O P n ops (⟨some d,.binOp .add xt x y yt,t,pos,aft,none⟩::rest) N L w:=O_y (Yf h).1 (Zdb (Yf h).2.1 (Yf h).2.2) c
theorem Osu (h:ev2 n d L x y=some (.int k p,.int k q)) (c:O P n ops rest N ((d,.int k (k.wrap (p-q)))::L) w):O P n ops (⟨some d,.binOp .sub xt x y yt,t,pos,aft,none⟩::rest) N L w:=O_y (Yf h).1 (Gk (Yf h).2.1 (Yf h).2.2) c
theorem Oml (h:ev2 n d L x y=some (.int k p,.int k q)) (c:O P n ops rest N ((d,.int k (k.wrap (p*q)))::L) w):O P n ops (⟨some d,.binOp .mul xt x y yt,t,pos,aft,none⟩::rest) N L w:=O_y (Yf h).1 (Zdf (Yf h).2.1 (Yf h).2.2) c
theorem Oeq (h:ev2 n d L x y=some (.int k p,.int k q)) (c:O P n ops rest N ((d,.bool (decide (p=q)))::L) w):O P n ops (⟨some d,.binOp .eql xt x y yt,t,pos,aft,none⟩::rest) N L w:=O_y (Yf h).1 (Zcc (Yf h).2.1 (Yf h).2.2) c
theorem One (h:ev2 n d L x y=some (.int k p,.int k q)) (c:O P n ops rest N ((d,.bool (decide (p≠q)))::L) w):O P n ops (⟨some d,.binOp .neq xt x y yt,t,pos,aft,none⟩::rest) N L w:=O_y (Yf h).1 (Zdg (Yf h).2.1 (Yf h).2.2) c
theorem Ols (h:ev2 n d L x y=some (.int k p,.int k q)) (c:O P n ops rest N ((d,.bool (decide (p<q)))::L) w):O P n ops (⟨some d,.binOp .lss xt x y yt,t,pos,aft,none⟩::rest) N L w:=O_y (Yf h).1 (Zde (Yf h).2.1 (Yf h).2.2) c
theorem Ole (h:ev2 n d L x y=some (.int k p,.int k q)) (c:O P n ops rest N ((d,.bool (decide (p<=q)))::L) w):O P n ops (⟨some d,.binOp .leq xt x y yt,t,pos,aft,none⟩::rest) N L w:=O_y (Yf h).1 (Zdd (Yf h).2.1 (Yf h).2.2) c
theorem Ogt (h:ev2 n d L x y=some (.int k p,.int k q)) (c:O P n ops rest N ((d,.bool (decide (q<p)))::L) w):O P n ops (⟨some d,.binOp .gtr xt x y yt,t,pos,aft,none⟩::rest) N L w:=O_y (Yf h).1 (Zcd (Yf h).2.1 (Yf h).2.2) c
theorem Oge (h:ev2 n d L x y=some (.int k p,.int k q)) (c:O P n ops rest N ((d,.bool (decide (q<=p)))::L) w):O P n ops (⟨some d,.binOp .geq xt x y yt,t,pos,aft,none⟩::rest) N L w:=O_y (Yf h).1 (Zdc (Yf h).2.1 (Yf h).2.2) c
end
def pkv (n d:Nat) (L:Loc) (c x y:Operand):Option Value:=bel n d (match ev L c with
 | some (.bool true)=>ev L x
 | some (.bool false)=>ev L y
 | _=>none)
theorem Opk {c:Operand} {v:Value} (h:pkv n d L c x y=some v) (k:O P n ops rest N ((d,v)::L) w):O P n ops (⟨some d,.pick c x y,t,pos,aft,none⟩::rest) N L w:=by
 obtain ⟨h1,h2⟩:=Yp h;split at h2
 ·rename_i e
  exact O_y h1 (Y6 e h2) k
 ·rename_i e
  exact O_y h1 (Yw e h2) k
 ·cases h2
theorem Oxt {tu:Operand} {i:Nat} {v:Value} (h:bel n d ((ev L tu).bind λ| .tuple vs=>vs[i]? | _=>none)=some v) (k:O P n ops rest N ((d,v)::L) w):O P n ops (⟨some d,.extract tu i,t,pos,aft,none⟩::rest) N L w:=by
 obtain ⟨h1,h2⟩:=Yp h;obtain ⟨u,h3,h4⟩:=Option.bind_eq_some_iff.1 h2;split at h4
 ·exact O_y h1 (Gw h3 h4) k
 ·cases h4
theorem Ont {xt:TypeId} {b:Bool} (h:bel n d (ev L x)=some (.bool b)) (k:O P n ops rest N ((d,.bool (!b))::L) w):O P n ops (⟨some d,.unOp .not xt x,t,pos,aft,none⟩::rest) N L w:=O_y (Yp h).1 (Zce (Yp h).2) k
theorem Ofd {s i off b o:Nat} (hf:Xb P s i=some off) (h:bel n d (ev L x)=some (.pointer (some ⟨b,o,none⟩))) (k:O P n ops rest N ((d,.pointer (some ⟨b,o+off,none⟩))::L) w):O P n ops (⟨some d,.fieldAddr s x i,t,pos,aft,none⟩::rest) N L w:=O_y (Yp h).1 (Qg hf (Yp h).2) k
def bxl (n d:Nat) (L:Loc) (Γ:List Yd) (i:Nat) (x:Operand):Option (Nat×Nat×Value):=match bel n d (ev L x),Γ[i]? with
 | some (.pointer (some ⟨b,o,none⟩)),some (.box b' _ cs)=>(cs[o]?).map λv=>(b,b',v)
 | _,_=>none
theorem Obx (i:Nat) {ty b:Nat} {v:Value} (ha:Z4 P ty=some false) (hs:St w0 ρ Γ w) (h:bxl n d L Γ i x=some (b,b,v)) (k:O P n ops rest N ((d,v)::L) w):O P n ops (⟨some d,.load ty x,t,pos,aft,none⟩::rest) N L w:=by
 unfold bxl at h;split at h
 ·rename_i e1 e2
  obtain ⟨u,h1,h2⟩:=Option.map_eq_some_iff.1 h;simp only [Prod.mk.injEq] at h2;obtain ⟨rfl,rfl,rfl⟩:=h2;exact O_y (Yp e1).1 (Yb i ha hs e2 h1 (Yp e1).2) k
 ·cases h
end
section
variable {P:Program} {n:Nat} {ops:Array Oper} {late done:List Nat} {J:World->Prop} {N:Nxt} {L:Loc} {w:World} {d t:Nat} {pos:String} {aft:Array Edge} {fuel:Nat} {m:Nat} {ms ap tm:List Nat}
def rdy (n:Nat) (ops:Array Oper) (L:Loc) (i:Nat):Option (Bool×Oper):=(ops[i]?).bind λo=>match o.dst with
 | some d=>bel n d (match o.guard with
  | none=>some (true,o)
  | some (j,b)=>bif gB (gdv ops L j) b then some (false,{ o with guard:=none }) else none)
 | none=>none
theorem Ho {i:Nat} {g:Bool} {op:Op} (h:rdy n ops L i=some (g,⟨some d,op,t,pos,aft,none⟩)):Nat.blt d n=true/\(ops[i]?=some ⟨some d,op,t,pos,aft,none⟩\/∃ j b dj,ops[i]?=some ⟨some d,op,t,pos,aft,some (j,b)⟩/\(ops[j]?).bind (·.dst)=some dj/\lk dj L=some (.bool b)):=by
 obtain ⟨o,h1,h2⟩:=Option.bind_eq_some_iff.1 h
 cases o with
 | mk dst op' t' pos' aft' g=>
  cases dst with
  | none=>cases h2
  | some d'=>
   obtain ⟨h3,h4⟩:=Yp h2
   cases g with
   | none=>
    simp only [Option.some.injEq,Prod.mk.injEq,Oper.mk.injEq] at h4;obtain ⟨_,rfl,rfl,rfl,rfl,rfl,_⟩:=h4;exact ⟨h3,.inl h1⟩
   | some jb=>
    obtain ⟨j,b⟩:=jb;simp only at h4
    cases hb:gB (gdv ops L j) b with
    | false=>rw [hb] at h4;cases h4
    | true=>
     rw [hb] at h4;simp only [cond_true,Option.some.injEq,Prod.mk.injEq,Oper.mk.injEq] at h4;obtain ⟨_,rfl,rfl,rfl,rfl,rfl,_⟩:=h4;obtain ⟨dj,h5,h6⟩:=Kd (Jv hb);exact ⟨h3,.inr ⟨j,b,dj,h1,h5,h6⟩⟩
theorem Fp (i:Nat) {g:Bool} {op:Op} {v:Value} (hS:Y4 ops m ms ap tm) (h:rdy n ops L i=some (g,⟨some d,op,t,pos,aft,none⟩)) (hy:∀ w,Y P n L w op t v) (k:OD P n ops late J fuel (i::done) N ((d,v)::L) w) (hok:Ku m ms ap (Z5 done) i=true:=by kernel_rfl):OD P n ops late J (fuel+1) done N L w:=by
 obtain ⟨hd,h | ⟨j,b,dj,h1,h2,h3⟩⟩:=Ho h
 ·exact Zb9 hS h hd hok hy k
 ·exact Zaa hS h1 h2 h3 hd hok hy k
theorem Fy (i:Nat) {g:Bool} {op:Op} {v:Value} (hS:Y4 ops m ms ap tm) (h:rdy n ops L i=some (g,⟨some d,op,t,pos,aft,none⟩)) (hJ:J w) (hy:∀ w,J w->Y P n L w op t v) (k:OD P n ops late J fuel (i::done) N ((d,v)::L) w) (hok:(Ku m ms ap (Z5 done) i&&(Jm (Z5 done) 0 ms&&J8 tm i late))=true:=by kernel_rfl):OD P n ops late J (fuel+1) done N L w:=by
 obtain ⟨hd,h | ⟨j,b,dj,h1,h2,h3⟩⟩:=Ho h
 ·exact Zc6 hS h hd hok hJ hy k
 ·exact Zbi hS h1 h2 h3 hd hok hJ hy k
def rdm (n:Nat) (ops:Array Oper) (L:Loc) (i:Nat):Option (Nat×Value):=match ops[i]? with
 | some ⟨some d,.move x,_,_,_,none⟩=>bel n d ((ev L x).map λv=>(d,v))
 | _=>none
theorem Fm (i:Nat) {v:Value} (hS:Y4 ops m ms ap tm) (h:rdm n ops L i=some (d,v)) (k:OD P n ops late J fuel (i::done) N ((d,v)::L) w) (hok:Ku m ms ap (Z5 done) i=true:=by kernel_rfl):OD P n ops late J (fuel+1) done N L w:=by
 unfold rdm at h;split at h
 ·rename_i e
  obtain ⟨h1,h2⟩:=Yp h;obtain ⟨u,h3,h4⟩:=Option.map_eq_some_iff.1 h2;simp only [Prod.mk.injEq] at h4;obtain ⟨rfl,rfl⟩:=h4;exact Zb9 hS e h1 hok (λ_=>Xi h3) k
 ·cases h
def rdn (n:Nat) (ops:Array Oper) (L:Loc) (i:Nat):Option Nat:=match ops[i]? with
 | some ⟨some d,_,_,_,_,some (j,b)⟩=>bel n d (bif gB (gdv ops L j) (!b) then some d else none)
 | _=>none
theorem Fn (i:Nat) (hS:Y4 ops m ms ap tm) (h:rdn n ops L i=some d) (k:OD P n ops late J fuel (i::done) N ((d,undef)::L) w) (hok:Ku m ms ap (Z5 done) i=true:=by kernel_rfl):OD P n ops late J (fuel+1) done N L w:=by
 unfold rdn at h;split at h
 ·rename_i d' _ _ _ _ j b e
  obtain ⟨h1,h2⟩:=Yp h
  cases hb:gB (gdv ops L j) (!b) with
  | false=>rw [hb] at h2;cases h2
  | true=>
   rw [hb] at h2;obtain rfl:=Option.some.inj h2;obtain ⟨dj,h5,h6⟩:=Kd (Jv hb);exact Zco hS e h5 h6 rfl h1 hok k
 ·cases h
def rdu (n:Nat) (ops:Array Oper) (L:Loc) (i:Nat):Option (Nat×Value):=match ops[i]? with
 | some ⟨some d,_,_,_,_,some (j,_)⟩=>bel n d ((gdv ops L j).map λv=>(d,v))
 | _=>none
theorem Fu (i:Nat) (hS:Y4 ops m ms ap tm) (h:rdu n ops L i=some (d,undef)) (k:OD P n ops late J fuel (i::done) N ((d,undef)::L) w) (hok:Ku m ms ap (Z5 done) i=true:=by kernel_rfl):OD P n ops late J (fuel+1) done N L w:=by
 unfold rdu at h;split at h
 ·rename_i e
  obtain ⟨h1,h2⟩:=Yp h;obtain ⟨u,h3,h4⟩:=Option.map_eq_some_iff.1 h2;simp only [Prod.mk.injEq] at h4;obtain ⟨rfl,rfl⟩:=h4;obtain ⟨dj,h5,h6⟩:=Kd h3;exact Zbg hS e h5 h6 h1 hok k
 ·cases h
theorem F1 (i:Nat) {o:Oper} (hS:Y4 ops m ms ap tm) (hi:ops[i]?=some o) (h:∀ N':Nxt,(∀ L' w',(late.contains i=false->J w->J w')->OD P n ops late J fuel (i::done) N L' w'->N' L' w')->O P n ops [o] N' L w) (hok:(Nat.blt i m&&H9 ms (Z5 done) i&&Jo (Z5 done) i 0 ms)=true:=by kernel_rfl):OD P n ops late J (fuel+1) done N L w:=Zbh hS hi hok h
theorem FE (hS:Y4 ops m ms ap tm) (h:N L w) (hr:Jo (Z5 done) m 0 ms=true:=by kernel_rfl):OD P n ops late J fuel done N L w:=G8 hS hr h
end
end
section
open Go.RowKit

inductive FK
 | b
 | i
 | s
def Zdo:TypeDesc->Option FK
 | .bool=>some .b
 | .int _=>some .i
 | .string=>some .s
 | _=>none
def Ua (P:Program):Nat->List Field->Option (List FK)
 | _,[]=>some []
 | n,f::fs=>bif (f.name == "_")||!(Nat.beq f.offset n) then none else match (P.underlying f.type).bind Zdo,Ua P (n+1) fs with
  | some k,some ks=>some (k::ks)
  | _,_=>none
def eqK:List FK->List Value->List Value->Option Bool
 | [],[],[]=>some true
 | .b::ks,.bool a::xs,.bool b::ys=>(eqK ks xs ys).map ((a == b)&&·)
 | .i::ks,.int k a::xs,.int k' b::ys=>if k=k' then (eqK ks xs ys).map ((a == b)&&·) else none
 | .s::ks,.string a::xs,.string b::ys=>(eqK ks xs ys).map (decide (a=b)&&·)
 | _,_,_=>none
section
variable {P:Program} {n:Nat} {L:Loc} {w:World} {t xt yt:TypeId} {x y:Operand}
theorem Ug {ft:TypeId} {td:TypeDesc} {k:FK} (hu:P.underlying ft=some td) (hk:Zdo td=some k) (cs:List Value) (v:Value) (r:List Value) (w:World):(part ft (cs++v::r).toArray cs.length).run P w=.ok v w:=by
 have ha:Z4 P ft=some false:=by unfold Z4;rw [hu];cases td<;>first | rfl | cases hk
 simp only [part,Sem.run_bind,Ze ha,Result.andThen,Bool.false_eq_true,if_false];have:(cs++v::r).toArray[cs.length]?=some v:=by simp
 rw [this];rfl
end
end
section
open Go.RowKit Go.MapKept
section
variable {P:Program} {n:Nat} {L:Loc} {w:World} {t xt yt:TypeId} {x y:Operand}
structure ArT (P:Program) (t e m:Nat) (k:IntKind):Prop where
 under:P.underlying t=some (.array m e)
 info:(P.info? e).isSome=true
 one:P.cellsOf e=1
 int:P.underlying e=some (.int k)
 flat:Z4 P e=some false
 agg:Z4 P t=some true
 size:Yc P t=some m
 free:P.eqGuardType P.depth t=false
theorem ArT.eq {e m d:Nat} {k:IntKind} (h:ArT P t e m k) {xs ys:List Int} (h1:xs.length=m) (h2:ys.length=m) (w:World):(Op.equalIn (d+1+1) t (.agg (acs k xs).toArray) (.agg (acs k ys).toArray)).run P w=.ok (decide (xs=ys)) w:=by
 obtain ⟨inf,hi⟩:=Option.isSome_iff_exists.1 h.info;rw [run_equalIn_array w (d+1) _ _ h.under hi,h.one,Qs h.int h.flat d xs ys (by omega) (List.range m) (λi hi=>by rw [h1];exact List.mem_range.1 hi),K1 h1 h2]
theorem Zbk {e m:Nat} {k:IntKind} {xs ys:List Int} (h:ArT P xt e m k) (hx:ev L x=some (.agg (acs k xs).toArray)) (hy:ev L y=some (.agg (acs k ys).toArray)) (h1:xs.length=m) (h2:ys.length=m):Y P n L w (.binOp .eql xt x y yt) t (.bool (decide (xs=ys))):=
 Vu hx hy (run_eqGuard_agg w _ _ _ _ _ _ h.free) (by rw [run_eql_struct,h.eq (d:=9998) h1 h2];rfl)
theorem Gm:∀ (ks:List FK) (xs ys:List Value) (b:Bool),eqK ks xs ys=some b->xs.length=ks.length/\ys.length=ks.length
 | [],[],[],_,_=>⟨rfl,rfl⟩
 | [],[],_::_,_,h=>by simp [eqK] at h
 | [],_::_,_,_,h=>by simp [eqK] at h
 | k::ks,[],ys,_,h=>by cases k<;>simp [eqK] at h
 | k::ks,x::xs,[],_,h=>by cases k<;>cases x<;>simp [eqK] at h
 | k::ks,x::xs,y::ys,b,h=>by
  have key:∃ r,eqK ks xs ys=some r:=by
   cases k<;>cases x<;>cases y<;>first
    | (simp [eqK] at h;done)
    | (unfold eqK at h;split at h;(obtain ⟨r,hr,_⟩:=Option.map_eq_some_iff.1 h;exact ⟨r,hr⟩);(cases h;done))
    | (obtain ⟨r,hr,_⟩:=Option.map_eq_some_iff.1 h;exact ⟨r,hr⟩)
  obtain ⟨r,hr⟩:=key
  have:=Gm ks xs ys r hr
  exact ⟨by rw [List.length_cons,List.length_cons,this.1],by rw [List.length_cons,List.length_cons,this.2]⟩
theorem Ub:∀ {fs:List Field} {o:Nat} {ks:List FK},Ua P o fs=some ks->ks.length=fs.length
 | [],_,_,h=>by obtain rfl:=Option.some.inj h;rfl
 | f::fs,o,ks,h=>by
  unfold Ua at h
  cases hb:((f.name == "_")||!(Nat.beq f.offset o)) with
  | true=>rw [hb] at h;cases h
  | false=>
   rw [hb] at h
   simp only [cond_false] at h
   split at h
   ·rename_i k ks' hk hks
    obtain rfl:=Option.some.inj h
    rw [List.length_cons,List.length_cons,Ub hks]
   ·cases h
theorem Ko (d:Nat) (T:List Field):∀ (fs:List Field) (ks:List FK) (pre pre' xs ys zs zs':List Value) (b b':Bool),Ua P pre.length fs=some ks->pre.length=pre'.length->eqK ks xs ys=some b->
  (∀ w,(Op.eqFields (d+1) (pre++(xs++zs)).toArray (pre'++(ys++zs')).toArray T).run P w=.ok b' w)->∀ w,(Op.eqFields (d+1) (pre++(xs++zs)).toArray (pre'++(ys++zs')).toArray (fs++T)).run P w=.ok (b&&b') w
 | [],ks,pre,pre',xs,ys,zs,zs',b,b',h1,_,h3,hT,w=>by
  obtain rfl:=Option.some.inj h1
  cases xs with
  | nil=>
   cases ys with
   | nil=>obtain rfl:=Option.some.inj h3;rw [List.nil_append,Bool.true_and];exact hT w
   | cons _ _=>cases h3
  | cons _ _=>cases h3
 | f::fs,ks,pre,pre',xs,ys,zs,zs',b,b',h1,h2,h3,hT,w=>by
  unfold Ua at h1
  cases hb:((f.name == "_")||!(Nat.beq f.offset pre.length)) with
  | true=>rw [hb] at h1;cases h1
  | false=>
   rw [hb] at h1
   simp only [cond_false] at h1
   simp only [Bool.or_eq_false_iff,Bool.not_eq_false'] at hb
   obtain ⟨hn,ho⟩:=hb
   have ho:=Nat.eq_of_beq_eq_true ho
   have hn:f.name≠ "_":=λe=>by rw [e] at hn;exact absurd hn (by decide)
   split at h1
   ·rename_i k ks' hk hks
    obtain rfl:=Option.some.inj h1
    obtain ⟨td,hu,hk⟩:=Option.bind_eq_some_iff.1 hk
    have step:∀ (u v:Value) (us vs:List Value) (c r:Bool),xs=u::us->ys=v::vs->(Op.equalIn (d+1) f.type u v).run P w=.ok c w->eqK ks' us vs=some r->b=(c&&r)->(Op.eqFields (d+1) (pre++(xs++zs)).toArray (pre'++(ys++zs')).toArray (f::fs++T)).run P w=.ok (b&&b') w:=by
     rintro u v us vs c r rfl rfl he hr rfl;have e2:pre'.length=f.offset:=by omega
     have p1:=Ug hu hk pre u (us++zs) w;have p2:=Ug hu hk pre' v (vs++zs') w;rw [<- ho] at p1;rw [e2] at p2;simp only [List.cons_append,Op.eqFields,if_pos hn,Sem.run_bind,p1,p2,Result.andThen,he]
     cases c with
     | false=>rfl
     | true=>
      simp only [Bool.not_true,Bool.false_eq_true,if_false,Bool.true_and];have:=Ko d T fs ks' (pre++[u]) (pre'++[v]) us vs zs zs' r b' (by rw [List.length_append];exact hks) (by simp [h2]) hr (λw=>by simpa using hT w) w;simpa using this
    cases k with
    | b=>
     cases xs with
     | nil=>cases h3
     | cons u us=>
      cases ys with
      | nil=>cases u<;>cases h3
      | cons v vs=>
       cases u with
       | bool a=>
        cases v with
        | bool c=>
         obtain ⟨r,hr,rfl⟩:=Option.map_eq_some_iff.1 (show (eqK ks' us vs).map ((a == c)&&·)=some b from h3)
         have:td=.bool:=by cases td<;>first | rfl | cases hk
         subst this
         exact step _ _ us vs _ r rfl rfl (run_equalIn_bool' w d f.type a c hu) hr rfl
        | _=>cases h3
       | _=>cases h3
    | i=>
     cases xs with
     | nil=>cases h3
     | cons u us=>
      cases ys with
      | nil=>cases u<;>cases h3
      | cons v vs=>
       cases u with
       | int k a=>
        cases v with
        | int k' c=>
         have h3:(if k=k' then (eqK ks' us vs).map ((a == c)&&·) else none)=some b:=h3
         by_cases ek:k=k'
         ·rw [if_pos ek] at h3
          obtain ⟨r,hr,rfl⟩:=Option.map_eq_some_iff.1 h3
          subst ek
          obtain ⟨kk,rfl⟩:∃ kk,td=.int kk:=by cases td<;>first | exact ⟨_,rfl⟩ | cases hk
          exact step _ _ us vs _ r rfl rfl (run_equalIn_int w d f.type k kk a c hu) hr rfl
         ·rw [if_neg ek] at h3;cases h3
        | _=>cases h3
       | _=>cases h3
    | s=>
     cases xs with
     | nil=>cases h3
     | cons u us=>
      cases ys with
      | nil=>cases u<;>cases h3
      | cons v vs=>
       cases u with
       | string a=>
        cases v with
        | string c=>
         obtain ⟨r,hr,rfl⟩:=Option.map_eq_some_iff.1 (show (eqK ks' us vs).map (decide (a=c)&&·)=some b from h3)
         have:td=.string:=by cases td<;>first | rfl | cases hk
         subst this
         exact step _ _ us vs _ r rfl rfl (by rw [run_equalIn_string w d f.type a c hu,J2]) hr rfl
        | _=>cases h3
       | _=>cases h3
   ·cases h1
def K7 (P:Program) (t:TypeId):Option (List FK×TypeId):=bif P.stoodInHeld t||P.eqGuardType P.depth t then none else match P.underlying t with
 | some (.struct fs)=>match fs.toList.getLast? with
  | some fa=>bif (fa.name == "_")||!(Nat.beq fa.offset fs.toList.dropLast.length) then none else (Ua P 0 fs.toList.dropLast).map λks=>(ks,fa.type)
  | none=>none
 | _=>none
theorem Ja {ks:List FK} {ft e m:Nat} {k:IntKind} {cs ds:List Value} {xs ys:List Int} {r:Bool} (hk:K7 P xt=some (ks,ft)) (ha:ArT P ft e m k) (he:eqK ks cs ds=some r) (h1:xs.length=m) (h2:ys.length=m) (w:World):
  (Op.equalIn 10000 xt (.agg (cs++acs k xs).toArray) (.agg (ds++acs k ys).toArray)).run P w=.ok (r&&decide (xs=ys)) w/\P.eqGuardType P.depth xt=false:=by
 unfold K7 at hk
 cases hb:(P.stoodInHeld xt||P.eqGuardType P.depth xt) with
 | true=>rw [hb] at hk;cases hk
 | false=>
  rw [hb] at hk;simp only [cond_false] at hk;simp only [Bool.or_eq_false_iff] at hb;split at hk
  ·rename_i fs hfs
   split at hk
   ·rename_i fa hfa
    cases hq:((fa.name == "_")||!(Nat.beq fa.offset fs.toList.dropLast.length)) with
    | true=>rw [hq] at hk;cases hk
    | false=>
     rw [hq] at hk;simp only [cond_false] at hk;simp only [Bool.or_eq_false_iff,Bool.not_eq_false'] at hq;obtain ⟨ks',hks,e1⟩:=Option.map_eq_some_iff.1 hk;simp only [Prod.mk.injEq] at e1;obtain ⟨rfl,rfl⟩:=e1;have hF:P.fieldsOf xt=fs:=by unfold Program.fieldsOf;rw [hfs]
     have h3:=run_equalIn_struct (P:=P) w 9999 xt (cs++acs k xs).toArray (ds++acs k ys).toArray (by rw [hF];exact hfs) hb.1;rw [hF] at h3;refine ⟨?_,hb.2⟩;rw [h3];have hl:fs.toList=fs.toList.dropLast++[fa]:=by obtain ⟨l0,h5⟩:=List.getLast?_eq_some_iff.1 hfa;rw [h5,List.dropLast_concat]
     rw [hl];have hn:fa.name≠ "_":=λe=>by have:=hq.1;rw [e] at this;exact absurd this (by decide)
     have ho:=Nat.eq_of_beq_eq_true hq.2;obtain ⟨l1,l2⟩:=Gm _ _ _ _ he;have l3:=Ub hks;have hpart:∀ (bs:List Value) (zs:List Int),bs.length=fa.offset->zs.length=m->∀ w,(part fa.type (bs++acs k zs).toArray fa.offset).run P w=.ok (.agg (acs k zs).toArray) w:=by
      intro bs zs e1 e2 w;simp only [part,Sem.run_bind,Ze ha.agg,Result.andThen,if_true,Zc ha.size,Sem.run_pure];have e3:(acs k zs).length=m:=by simp [acs,e2]
      congr 2;apply Array.toList_inj.1;simp only [Array.toList_extract,List.extract_eq_take_drop];rw [show fa.offset+m-fa.offset=m by omega,List.drop_append_of_le_length (by omega),List.drop_of_length_le (by omega),List.nil_append,List.take_of_length_le (by omega)]
     refine Ko 9998 [fa] fs.toList.dropLast ks' [] [] cs ds (acs k xs) (acs k ys) r _ hks rfl he (λw=>?_) w;simp only [List.nil_append,Op.eqFields,if_pos hn,Sem.run_bind,hpart cs xs (by omega) h1,hpart ds ys (by omega) h2,Result.andThen,ha.eq (d:=9997) h1 h2];cases decide (xs=ys)<;>rfl
   ·cases hk
  ·cases hk
theorem Js {ks:List FK} {ft e m:Nat} {k:IntKind} (cs ds:List Value) (xs ys:List Int) {r:Bool} (hk:K7 P xt=some (ks,ft)) (ha:ArT P ft e m k) (hx:ev L x=some (.agg (cs++acs k xs).toArray)) (hy:ev L y=some (.agg (ds++acs k ys).toArray)) (he:eqK ks cs ds=some r) (h1:xs.length=m) (h2:ys.length=m):Y P n L w (.binOp .eql xt x y yt) t (.bool (r&&decide (xs=ys))):=
 Vu hx hy (run_eqGuard_agg w _ _ _ _ _ _ (Ja hk ha he h1 h2 w).2) (by rw [run_eql_struct,(Ja hk ha he h1 h2 w).1];rfl)
theorem Hz {e m b:Nat} {k:IntKind} (h:ArT P xt e m k) (h0:Nat.blt 0 m=true) (hs:Yc P e=some 1) (hx:ev L x=some (.pointer (some ⟨b,0,none⟩))):Y P n L w (.slice xt x none none none) t (.slice (some ⟨b,0,none⟩) m m):=by
 intro q hq _ _ _ _;have hm:¬ m=0:=by have:=Nat.le_of_ble_eq_true h0;omega
 simp [execOp,Instr.sliceAt,Instr.sureAddr,Instr.sliceBounds,hq.ev hx,run_underlying h.under,Zc hs,hm,Addr.add]
theorem CA.slice {ρ:Hp} {b m:Nat} {k:IntKind} {x:Vector Int m} (h:CA ρ b 0 (vcs (Value.int k) x)):SlR (Rep.int k) ρ (.slice (some ⟨b,0,none⟩) m m) x.toList:=by
 right;refine ⟨b,0,m,by simp,by simp,λi z hz=>⟨[.int k z],rfl,λj u hu=>?_⟩⟩
 cases j with
 | zero=>
  obtain rfl:Value.int k z=u:=by simpa using hu
  have:=h i (.int k z) (by simp only [vcs,List.getElem?_map];rw [hz];rfl);simpa [Rep.int] using this
 | succ j=>simp at hu
end
section
variable {P:Program} {n:Nat} {ops:Array Oper} {late done:List Nat} {J:World->Prop} {N:Nxt} {L:Loc} {w:World} {fuel:Nat} {m:Nat} {ms ap tm:List Nat}
def Uy (D i k l:Nat):Nat->List Nat->Bool
 | _,[]=>true
 | j,d::t=>(Nat.beq j i||Nat.beq j k||Nat.beq j l||tb D j||!sb d D)&&Uy D i k l (j+1) t
theorem Va {D i q p:Nat}:∀ {l:List Nat} {k:Nat},Uy D i q p k l=true->∀ j,j<l.length->(k+j=i\/k+j=q\/k+j=p)\/tb D (k+j)=true\/sb (nth l j) D=false
 | [],_,_,j,h=>by simp at h
 | d::t,k,h,j,hj=>by
  simp only [Uy,Bool.and_eq_true,Bool.or_eq_true,Bool.not_eq_true'] at h
  cases j with
  | zero=>
   rcases h.1 with (((h1 | h1) | h1) | h1) | h1
   ·left;left;simpa using Nat.eq_of_beq_eq_true h1
   ·left;right;left;simpa using Nat.eq_of_beq_eq_true h1
   ·left;right;right;simpa using Nat.eq_of_beq_eq_true h1
   ·right;left;simpa using h1
   ·right;right;exact h1
  | succ j=>have:=Va h.2 j (by simpa using hj);rwa [show k+1+j=k+(j+1) by omega] at this
theorem Vq {i j g:Nat} {o u v:Oper} (hS:Y4 ops m ms ap tm) (hi:ops[i]?=some o) (hj:ops[j]?=some u) (hg:ops[g]?=some v) (hok:(Nat.blt i m&&H9 ms (Z5 done) i&&Uy (Z5 done) i j g 0 ms)=true)
  (h:∀ N':Nxt,(∀ L' w',(late.contains i=false->J w->J w')->OD P n ops late J fuel (i::done) N L' w'->N' L' w')->O P n ops [o] N' L w)
  (k:∀ N':Nxt,(∀ L' w',(late.contains j=false->J w->J w')->OD P n ops late J fuel (j::done) N L' w'->N' L' w')->O P n ops [u] N' L w)
  (l:∀ N':Nxt,(∀ L' w',(late.contains g=false->J w->J w')->OD P n ops late J fuel (g::done) N L' w'->N' L' w')->O P n ops [v] N' L w):OD P n ops late J (fuel+1) done N L w:=by
 simp only [Bool.and_eq_true] at hok;obtain ⟨⟨h1,h2⟩,h3⟩:=hok;intro a ha;refine ⟨λh0=>(by have:=hS.ready h2 (Nat.le_of_ble_eq_true h1);rw [h0] at this;cases this),λq hq=>?_⟩;obtain ⟨e1,o',ho,e2⟩:=mem_ready.1 hq;have hlt:q<ops.size:=(Array.getElem?_eq_some_iff.1 ho).1;rw [Qk hlt] at e1
 rcases Va h3 q (by rw [hS.len,<- hS.size];exact hlt) with (h4 | h4 | h4) | h4 | h4
 ·obtain rfl:q=i:=by omega
  exact Kf hi h ha
 ·obtain rfl:q=j:=by omega
  exact Kf hj k ha
 ·obtain rfl:q=g:=by omega
  exact Kf hg l ha
 ·rw [Nat.zero_add] at h4;rw [h4] at e1;cases e1
 ·have:sb (nth ms q) (Z5 done)=true:=Kw.2 λb hb=>by
   obtain ⟨e,he,hbb,rfl⟩:=hS.dep' q o' ho b hb;have:=e2 e he hbb;rwa [Qk (by rw [hS.size];exact (hS.dep q o' ho e he hbb).2)] at this
  rw [this] at h4;cases h4
end
end
section
open Go.RowKit Go.Shelf
theorem Zf {P:Program} {t:TypeId} {v:Value} (h:(P.info? t).bind (·.zero)=some v) {w:World}:(zeroValue t).run P w=.ok v w:=by
 obtain ⟨i,hi,hz⟩:=Option.bind_eq_some_iff.1 h;simp [zeroValue,typeInfo,hi,hz]
def Vd:List (Nat×Nat)->Nat->Nat
 | [],_=>0
 | (a,b)::t,n=>bif Nat.beq a n then b else Vd t n
def J7 (xs:List ByteArray) (sep:ByteArray):ByteArray:=⟨(Lib.join (xs.map (·.data.toList)) sep.data.toList).toArray⟩
def Xq.f (xs:List ByteArray) (sep:ByteArray):Option ByteArray:=if xs.length<=140737488355328/\(J7 xs sep).size<=281474976710656 then some (J7 xs sep) else none
section
variable {P:Program} {w0 w:World} {ρ:Hp} {Γ:List Yd}
theorem St.under (hs:St w0 ρ Γ w) {w':World} (hb:Below w.heap.size w w'):St w0 ρ Γ w':=by
 refine hs.keep (hb.mono hs.below.size) λb hlt _=>hb.block b hlt
theorem H6 {ρs:Ren} (Ls:Lays.n156 P ρs) (X:Builder.Extra P ρs) (hE:Q9 P (ρs.f 156)) (hs:St w0 ρ Γ w) {v0:Value} {x0:List ByteArray} (h0:SlR Rep.str ρ v0 x0) {x1 r:ByteArray} (H:Xq.f x0 x1=some r):
  Zt P (ρs.f 156) [v0,.string x1] w (λv w'=>v=.string r/\St w0 ρ Γ w'):=by
 obtain ⟨⟨hN,hl⟩,H⟩:=gd H;obtain rfl:=Yg H;refine ⟨hE,?_⟩;have none':∀ (a:Option Addr) (c:Nat),x0=[]->v0=.slice a 0 c->Calls P (ρs.f 156) [v0,.string x1].toArray w (λe w'=>∃ v,e=.returned v/\v=.string (J7 x0 x1)/\St w0 ρ Γ w'):=by rintro a c rfl rfl;have hc:=Any.strings_Join_none Ls X a c x1 w;refine hc.mono λe w' h=>?_;obtain ⟨rfl,rfl⟩:=h;exact ⟨_,rfl,rfl,hs⟩
 rcases h0 with ⟨hx,a,c,hv⟩ | ⟨b,o,c,hv,hc,hx⟩
 ·exact none' a c hx hv
 ·cases hx0:x0 with
  | nil=>
   have:=none' (some ⟨b,o,none⟩) c hx0 (by rw [hv,hx0];rfl);rw [hx0] at this;exact this
  | cons y t=>
   rw [<- hx0];have hcell:∀ (j:Nat) x,x0[j]?=some x->w.cell? ⟨b,o+j,none⟩=some (.string x):=λj x hj=>by
    obtain ⟨cs,h1,h2⟩:=hx j x hj;have h1':cs=[.string x]:=h1;have:=h2 0 (.string x) (by rw [h1'];rfl);have e:o+j*Rep.str.sz+0=o+j:=by show o+j*1+0=o+j;omega
    rw [e] at this;exact hs.see this
   have hlt:b<w.heap.size:=by obtain ⟨cs,h1,h2⟩:=hx 0 y (by rw [hx0];rfl);have h1':cs=[.string y]:=h1;exact hs.sees.lt (h2 0 (.string y) (by rw [h1'];rfl))
   have hc:=Any.strings_Join_48 Ls X b o c x0 x1 w hcell hlt hN hc (by
    have:(J7 x0 x1).size=(Lib.join (x0.map (·.data.toList)) x1.data.toList).length:=by simp [J7,ByteArray.size]
    omega)
   rw [hv];refine hc.mono λe w' h=>?_;obtain ⟨rfl,hb⟩:=h;exact ⟨_,rfl,rfl,hs.under hb⟩
end
end
section
open Go.RowKit Go.Shelf Go.Sort
def Y0.f (s sep:ByteArray):Option (List ByteArray):=if sep.size=1/\s.size<4294967281 then some (Lib.splitB sep 0 (Lib.countB s sep) s) else none
def strconv_Itoa.f (n:Int):Option ByteArray:=if -9223372036854775808<=n/\n<=9223372036854775807 then some ⟨(Lib.itoa n).toArray⟩ else none
section
variable {P:Program} {w0 w:World} {ρ:Hp} {Γ:List Yd} {ρs:Ren}
set_option maxHeartbeats 1000000 in
theorem G5 (L:Lays.n146 P ρs) (hi9:(P.info? (ρs.t 9)).map (λi=>(i.zero,i.size,i.bytes))=some (some (.string ByteArray.empty),1,16)) (s:ByteArray) (c:UInt8) (w:World) (hs:s.size<4294967281):
  Calls P (ρs.f 146) #[.string s,.string ⟨#[c]⟩] w λe w'=>
   e=.returned (.slice (some ⟨w.heap.size,0,none⟩) (Lib.countB s ⟨#[c]⟩+1) (Lib.countB s ⟨#[c]⟩+1))/\w'=w.alloc (.cells ((Lib.splitB ⟨#[c]⟩ 0 (Lib.countB s ⟨#[c]⟩) s).map Value.string).toArray (ρs.t 9)):=by
 have h1:1<=(⟨#[c]⟩:ByteArray).size:=Nat.le_refl 1;have hle:=Lib.countB_le ⟨#[c]⟩ h1 s.size s (Nat.le_refl _);have hlen:=Lib.splitB_all ⟨#[c]⟩ h1 0 _ s rfl
 have cc:=Any.strings_genSplit_core { L with } hi9 s ⟨#[c]⟩ 0 (-1) (Lib.countB s ⟨#[c]⟩+1) w hs h1 (Nat.zero_le _)
  (λx cs _=>(Any.strings_Index_one { L with } x c _).mono λe w' h=>⟨by rw [h.1];exact congrArg (λz=>Ending.returned (Value.int .i64 z)) (Lib.index_one x.data.toList c).symm,h.2⟩)
  ((Any.strings_Count_one { L with } s c w).mono λe w' h=>⟨by rw [h.1];exact congrArg (λz:Nat=>Ending.returned (Value.int .i64 (z:Int))) (Lib.count_one c s.data.toList).symm,h.2⟩)
  (by decide) (by decide) (by rw [if_pos (by decide)];omega)
 rw [Nat.add_sub_cancel,hlen] at cc;have e2:Lib.cellsOf (Lib.splitB ⟨#[c]⟩ 0 (Lib.countB s ⟨#[c]⟩) s) (Lib.countB s ⟨#[c]⟩+1)=((Lib.splitB ⟨#[c]⟩ 0 (Lib.countB s ⟨#[c]⟩) s).map Value.string).toArray:=by rw [<- hlen];exact Lib.cellsOf_full _
 rw [e2] at cc;have t3:=L.t3;have t9:=L.t9;have t31:=L.t31;have a3:=L.a3;have a9:=L.a9;have a31:=L.a31;have z3:=L.z3;have v3:=L.v3;have z9:=L.z9;have v9:=L.v9;have z31:=L.z31;have v31:=L.v31;have e221:∀ args w,(callFunc (ρs.f 221) args).run P w=.ok (.enter (ρs.f 221) args) w:=Xy L.f221 (by kernel_rfl) rfl;go_enter L.f146,Body.n146_ntmps ρs;go_wp2_with (go_at_fn (ρs.f 221);refine cc.mono ?_;rintro e w' ⟨rfl,hw⟩;rw [hw]);go_ret;exact ⟨rfl,rfl⟩
theorem Ht (L:Lays.n146 P ρs) (hi9:(P.info? (ρs.t 9)).map (λi=>(i.zero,i.size,i.bytes))=some (some (.string ByteArray.empty),1,16)) (hE:Q9 P (ρs.f 146)) (hs:St w0 ρ Γ w) {x0 x1:ByteArray} {r:List ByteArray} (H:Y0.f x0 x1=some r):
  Zt P (ρs.f 146) [.string x0,.string x1] w (λv w'=>∃ (ρ':Hp) (v0:Value) (cs0:List Value),v=v0/\Le ρ ρ'/\St w0 ρ' (.row v0 (ρs.t 9) Rep.str.sz r.length cs0::Γ) w'/\Z3 Rep.str ρ' cs0 r):=by
 obtain ⟨⟨h1,h2⟩,H⟩:=gd H;obtain rfl:=Yg H;obtain ⟨c,rfl⟩:=Lib.one_byte x1 h1;refine ⟨hE,(G5 L hi9 x0 c w h2).mono λe w' h=>?_⟩;obtain ⟨rfl,rfl⟩:=h;have hlen:=Lib.splitB_all ⟨#[c]⟩ (Nat.le_refl 1) 0 _ x0 rfl;have hle:=Lib.countB_le ⟨#[c]⟩ (Nat.le_refl 1) x0.size x0 (Nat.le_refl _);have hst:=hs.rowFull (ρs.t 9) (Lib.countB x0 ⟨#[c]⟩+1) 1 ((Lib.splitB ⟨#[c]⟩ 0 (Lib.countB x0 ⟨#[c]⟩) x0).map Value.string) (by rw [List.length_map,hlen,Nat.mul_one]) (by simp only [maxLen];omega);refine ⟨_,rfl,ρ,_,(Lib.splitB ⟨#[c]⟩ 0 (Lib.countB x0 ⟨#[c]⟩) x0).map Value.string,rfl,λ_ _ h=>h,?_,?_⟩
 ·rw [hlen];exact hst
 ·refine ⟨by simp [Rep.str],λi z hz=>⟨[.string z],rfl,λj u hu=>?_⟩⟩
  cases j with
  | zero=>
   obtain rfl:Value.string z=u:=by simpa using hu
   simp [Rep.str,hz]
  | succ j=>simp at hu
theorem St.tab (hs:St w0 ρ Γ w) {nm:String} {k:IntKind} {zs:List Int} {g:Nat} (hg:P.globalNamed nm=some g) (hlt:g<w0.heap.size) (hL:Lib.TabIs P w0 nm k zs):Lib.TabIs P w nm k zs:=by
 unfold Lib.TabIs World.var? at hL ⊢;rw [hg,Option.bind_some] at hL ⊢;rw [hs.below.block g hlt];exact hL
theorem H1 (w:World) (k:Nat) (os:Array Obj):Below w.heap.size w (grow (w.drewN k) os):=by
 have h0:Below w.heap.size w (w.drewN k):=⟨rfl,rfl,rfl,Nat.le_refl _,λ_ _=>rfl⟩;refine h0.trans ⟨rfl,rfl,rfl,by simp [grow],λi hi=>?_⟩;show (w.heap++os)[i]?=w.heap[i]?;exact Array.getElem?_append_left hi
theorem TabIs.lt {nm:String} {k:IntKind} {zs:List Int} (hL:Lib.TabIs P w nm k zs):∃ g,P.globalNamed nm=some g/\g<w.heap.size:=by
 unfold Lib.TabIs World.var? at hL;obtain ⟨g,hg,h⟩:=Option.bind_eq_some_iff.1 hL;refine ⟨g,hg,?_⟩;split at h
 ·rename_i e
  exact (Array.getElem?_eq_some_iff.1 e).1
 ·cases h
theorem H5 (L:LaysM.n171 P ρs) (hE:Q9 P (ρs.f 171)) (hs:St w0 ρ Γ w) (hL:Lib.TabIs P w0 "internal/strconv.uint64pow10" .u64 Lib.pow10Tab) {x0:Int} {r:ByteArray} (H:strconv_Itoa.f x0=some r):Zt P (ρs.f 171) [.int .i64 x0] w (λv w'=>v=.string r/\St w0 ρ Γ w'):=by
 obtain ⟨⟨h1,h2⟩,H⟩:=gd H;obtain rfl:=Yg H;obtain ⟨g,hg,hlt⟩:=TabIs.lt hL;refine ⟨hE,(Any.strconv_Itoa L x0 h1 h2 w (hs.tab hg hlt hL)).mono λe w' h=>?_⟩;obtain ⟨rfl,k,os,rfl⟩:=h;exact ⟨_,rfl,rfl,hs.under (H1 w k os)⟩
def Bd (T e:TypeId) (w1:World) (b:Nat) (l:List UInt8) (w:World):Prop:=Below w1.heap.size w1 w/\Lib.IsBuilder T e w1.heap.size b (Lib.byteCells l) w
variable {T e:TypeId} {w1:World} {b:Nat} {l:List UInt8}
theorem Bd.st (h:Bd T e w1 b l w) (hs:St w0 ρ Γ w1):St w0 ρ Γ w:=hs.under h.1
theorem Uz {B n:Nat} {v:Value} {xs:List Value} {w w':World} (h:w.ownsRow B e 1 v n xs) (hb:Below w.heap.size w w'):w'.ownsRow B e 1 v n xs:=by
 refine ⟨h.1,?_⟩
 rcases h.2 with h2 | ⟨g,cap,cur,h3,h4,h5,h6⟩
 ·exact .inl h2
 ·exact .inr ⟨g,cap,cur,h3,h4,by rw [hb.block g (Array.getElem?_eq_some_iff.1 h5).1];exact h5,h6⟩
theorem K2 {B:Nat} {p:Value} {bs:List Value} {w w':World} (h:Lib.BuilderAt T e B b p bs w) (hb:Below w.heap.size w w'):Lib.BuilderAt T e B b p bs w':=by
 obtain ⟨h1,v,h2,h3,h4⟩:=h;exact ⟨h1,v,by rw [hb.block b (Array.getElem?_eq_some_iff.1 h2).1];exact h2,Uz h3 hb,h4⟩
theorem Bd.keep (h:Bd T e w1 b l w) {w':World} (hb:Below w.heap.size w w'):Bd T e w1 b l w':=
 ⟨h.1.trans (hb.mono h.1.size),h.2.imp (K2 · hb) (K2 · hb)⟩
theorem Bd.ws (L:Lays.n166 P ρs) (X:Builder.Extra P ρs) (hE:Q9 P (ρs.f 166)) (h:Bd (ρs.t 72) (ρs.t 5) w1 b l w) (s:ByteArray) (hlen:l.length+s.size<=140737488355328):
  Zt P (ρs.f 166) [.pointer (some ⟨b,0,none⟩),.string s] w (λv w'=>v=.tuple #[.int .i64 s.size,.nilIface]/\Bd (ρs.t 72) (ρs.t 5) w1 b (l++s.data.toList) w'):=by
 refine ⟨hE,(Any.Builder_WriteString L X w1.heap.size b _ s w h.2 (by rw [Lib.byteCells_length];exact hlen) h.1.size).mono λe w' k=>?_⟩;obtain ⟨rfl,k1,k2⟩:=k;refine ⟨_,rfl,rfl,h.1.trans k2,.inr ?_⟩;have e1:Lib.byteCells (l++s.data.toList)=Lib.byteCells l++Lib.strCells s:=by simp [Lib.byteCells,Lib.strCells]
 rw [e1];exact k1
theorem Bd.wb (L:Lays.n167 P ρs) (X:Builder.Extra P ρs) (hE:Q9 P (ρs.f 167)) (h:Bd (ρs.t 72) (ρs.t 5) w1 b l w) (c:UInt8) (hlen:l.length+1<=140737488355328):
  Zt P (ρs.f 167) [.pointer (some ⟨b,0,none⟩),.int .u8 c.toNat] w (λv w'=>v=.nilIface/\Bd (ρs.t 72) (ρs.t 5) w1 b (l++[c]) w'):=by
 refine ⟨hE,(Any.Builder_WriteByte L X w1.heap.size b _ (c.toNat:Int) w h.2 (by rw [Lib.byteCells_length];exact hlen) h.1.size).mono λe w' k=>?_⟩;obtain ⟨rfl,k1,k2⟩:=k;refine ⟨_,rfl,rfl,h.1.trans k2,.inr ?_⟩;have e1:Lib.byteCells (l++[c])=Lib.byteCells l++[.int .u8 c.toNat]:=by simp [Lib.byteCells]
 rw [e1];exact k1
theorem Bd.str (L:Lays.n169 P ρs) (X:Builder.Extra P ρs) (hE:Q9 P (ρs.f 169)) (h:Bd (ρs.t 72) (ρs.t 5) w1 b l w) (hs:St w0 ρ Γ w1):Zt P (ρs.f 169) [.pointer (some ⟨b,0,none⟩)] w (λv w'=>v=.string ⟨l.toArray⟩/\St w0 ρ Γ w'):=by
 refine ⟨hE,(Any.Builder_String_any L X w1.heap.size b l w h.2 h.1.size).mono λe w' k=>?_⟩;obtain ⟨rfl,k2⟩:=k;exact ⟨_,rfl,rfl,hs.under (h.1.trans k2)⟩
end
section
variable {P:Program} {n:Nat} {N:Nxt} {L:Loc} {w:World} {ops:Array Oper} {rest:List Oper} {d t:Nat} {pos:String} {aft:Array Edge}
theorem Vr {T e:TypeId} (hz:Xn P T=some [.pointer none,.slice none 0 0]) (hd:Nat.blt d n=true) (k:∀ b w',Bd T e w b [] w'->O P n ops rest N ((d,.pointer (some ⟨b,0,none⟩))::L) w'):O P n ops (⟨some d,.alloc T,t,pos,aft,none⟩::rest) N L w:=by
 refine Zx hz (St.refl w) hd λb w' hs=>k b w' ⟨hs.below,.inl ?_⟩;have hok:=hs.ok _ (List.mem_cons_self ..);have hb:=hs.base b (by simp [Yd.blk]);exact ⟨hb,.slice none 0 0,hok,World.ownsRow_nil w' _ e 1,λh=>by cases h⟩
end
end
section
theorem mixed:Tryz.prog.follows .mixedOrders=true:=by kernel_rfl
theorem Xj:Z4 Tryz.prog 27=some true:=by kernel_rfl
theorem Xe:Yc Tryz.prog 27=some 11:=by kernel_rfl
theorem Q8:Yc Tryz.prog 30=some 11:=by kernel_rfl
theorem Qy:Xn Tryz.prog 30=some [.int .i64 0,.string ⟨#[]⟩,.int .u32 0,.int .u16 0,.int .u16 0,.int .u16 0,.int .u16 0,.int .u16 0,.int .u16 0,.int .u16 0,.int .u16 0]:=by kernel_rfl
theorem Kn:Z4 Tryz.prog 30=some true:=by kernel_rfl
theorem un4:Tryz.prog.underlying 4=some .bool:=by kernel_rfl
theorem Zdk:ArT Tryz.prog 28 23 8 .u16:=⟨by kernel_rfl,by kernel_rfl,by kernel_rfl,by kernel_rfl,by kernel_rfl,by kernel_rfl,by kernel_rfl,by kernel_rfl⟩
theorem Zdp:K7 Tryz.prog 30=some ([FK.i,FK.s,FK.i],28):=by kernel_rfl
theorem un9:Tryz.prog.underlying 9=some .string:=by kernel_rfl
theorem J5:Xb Tryz.prog 30 0=some 0:=by kernel_rfl
theorem ag3:Z4 Tryz.prog 3=some false:=by kernel_rfl
theorem un3:Tryz.prog.underlying 3=some (.int .i64):=by kernel_rfl
theorem Zba:Tryz.prog.underlying 36=some (.slice 9):=by kernel_rfl
theorem Ur:Y9 Tryz.prog 36 9 1 16:=Qh Zba (by kernel_rfl) rfl rfl
theorem X6:Xb Tryz.prog 30 1=some 1:=by kernel_rfl
theorem ag9:Z4 Tryz.prog 9=some false:=by kernel_rfl
theorem sz9:Yc Tryz.prog 9=some 1:=by kernel_rfl
theorem Kb:Xb Tryz.prog 27 0=some 0:=by kernel_rfl
theorem Qq:Xb Tryz.prog 27 1=some 1:=by kernel_rfl
theorem Ut:Xb Tryz.prog 27 2=some 2:=by kernel_rfl
theorem Zaf:Z4 Tryz.prog 22=some false:=by kernel_rfl
theorem Zd6:Yc Tryz.prog 22=some 1:=by kernel_rfl
theorem Uu:Xb Tryz.prog 27 3=some 3:=by kernel_rfl
theorem Zcu:Z4 Tryz.prog 25=some true:=by kernel_rfl
theorem Zb5:Yc Tryz.prog 25=some 8:=by kernel_rfl
theorem Zd4:K9 Tryz.prog 30=some [(0,1),(1,1),(2,1),(3,8)]:=by kernel_rfl
theorem Zan:Xb Tryz.prog 30 2=some 2:=by kernel_rfl
theorem Za9:Tryz.prog.underlying 22=some (.int .u32):=by kernel_rfl
theorem Zao:Xb Tryz.prog 30 3=some 3:=by kernel_rfl
theorem Zbp:Z4 Tryz.prog 28=some true:=by kernel_rfl
theorem Zb6:Yc Tryz.prog 28=some 8:=by kernel_rfl
set_option maxRecDepth 1000000 in
theorem Zd9:Xn Tryz.prog 28=some (vcs (Value.int .u16) (Vector.replicate 8 (0:Int))):=by kernel_rfl
theorem Zc3:Tryz.prog.underlying 28=some (.array 8 23):=by kernel_rfl
theorem Zb4:Yc Tryz.prog 23=some 1:=by kernel_rfl
theorem Vp:Xn Tryz.prog 27=some [.int .i64 0,.string ⟨#[]⟩,.int .u32 0,.int .u16 0,.int .u16 0,.int .u16 0,.int .u16 0,.int .u16 0,.int .u16 0,.int .u16 0,.int .u16 0]:=by kernel_rfl
theorem Zax:K9 Tryz.prog 27=some [(0,1),(1,1),(2,1),(3,8)]:=by kernel_rfl
theorem Zbr:ArT Tryz.prog 25 23 8 .u16:=⟨by kernel_rfl,by kernel_rfl,by kernel_rfl,by kernel_rfl,by kernel_rfl,by kernel_rfl,by kernel_rfl,by kernel_rfl⟩
theorem Zam:K7 Tryz.prog 27=some ([FK.i,FK.s,FK.i],25):=by kernel_rfl
theorem un5:Tryz.prog.underlying 5=some (.int .u8):=by kernel_rfl
theorem Zdy:Tryz.prog.underlying 52=some (.array 4 5):=by kernel_rfl
theorem sz5:Yc Tryz.prog 5=some 1:=by kernel_rfl
theorem ag5:Z4 Tryz.prog 5=some false:=by kernel_rfl
theorem Zbo:Z4 Tryz.prog 23=some false:=by kernel_rfl
theorem Zc4:Tryz.prog.underlying 57=some (.slice 23):=by kernel_rfl
theorem Zdm:Y9 Tryz.prog 57 23 1 2:=Qh Zc4 (by kernel_rfl) rfl rfl
theorem Zd8:Tryz.prog.underlying 62=some (.int .u64):=by kernel_rfl
theorem U4:Tryz.prog.underlying 63=some (.slice 5):=by kernel_rfl
theorem J3:Y9 Tryz.prog 63 5 1 1:=Qh U4 (by kernel_rfl) rfl rfl
theorem Zd3:Z4 Tryz.prog 52=some true:=by kernel_rfl
theorem Zdw:Yc Tryz.prog 52=some 4:=by kernel_rfl
set_option maxRecDepth 1000000 in
theorem Zeb:Xn Tryz.prog 52=some ([]++(vcs (Value.int .u8) (Vector.replicate 4 (0:Int))++[])):=by kernel_rfl
set_option maxRecDepth 1000000 in
theorem Zea:(Xn Tryz.prog 52).map (·.length)=some 4:=by kernel_rfl
theorem Zd1:Xn Tryz.prog 67=some [.pointer none,.slice none 0 0]:=by kernel_rfl
theorem Zd7:Tryz.prog.underlying 23=some (.int .u16):=by kernel_rfl
theorem Zdz:Tryz.prog.underlying 85=some (.slice 21):=by kernel_rfl
theorem Zdn:Y9 Tryz.prog 85 21 1 4:=Qh Zdz (by kernel_rfl) rfl rfl
theorem Zdx:Tryz.prog.underlying 21=some (.int .i32):=by kernel_rfl
theorem Zc5:Tryz.prog.underlying 97=some (.int .u64):=by kernel_rfl
theorem Za8:Tryz.prog.underlying 104=some (.slice 107):=by kernel_rfl
theorem Zcg:Y9 Tryz.prog 104 107 4 24:=Qh Za8 (by kernel_rfl) rfl rfl
theorem Zcf:Z4 Tryz.prog 107=some true:=by kernel_rfl
theorem Gu:Yc Tryz.prog 107=some 4:=by kernel_rfl
theorem Zcm:Xn Tryz.prog 107=some [.int .i64 0,.int .i64 0,.int .i32 0,.bool false]:=by kernel_rfl
theorem Gn:Xb Tryz.prog 107 2=some 2:=by kernel_rfl
theorem Zdj:Z4 Tryz.prog 21=some false:=by kernel_rfl
theorem Zbt:Xb Tryz.prog 107 0=some 0:=by kernel_rfl
theorem Z1:Yc Tryz.prog 110=some 4:=by kernel_rfl
set_option maxRecDepth 1000000 in
theorem Qf:Xn Tryz.prog 110=some ([]++(vcs (Value.int .u64) (Vector.replicate 4 (0:Int))++[])):=by kernel_rfl
theorem Yo:Z4 Tryz.prog 110=some true:=by kernel_rfl
theorem Vg:Tryz.prog.underlying 110=some (.array 4 97):=by kernel_rfl
theorem U3:Yc Tryz.prog 97=some 1:=by kernel_rfl
theorem Zbq:Z4 Tryz.prog 97=some false:=by kernel_rfl
theorem zr5:Xn Tryz.prog 5=some [.int .u8 0]:=by kernel_rfl
theorem Zck:Tryz.prog.underlying 178=some (.slice 110):=by kernel_rfl
theorem Zai:Y9 Tryz.prog 178 110 4 32:=Qh Zck (by kernel_rfl) rfl rfl
set_option maxRecDepth 1000000 in
theorem Zd0:Xn Tryz.prog 110=some (vcs (Value.int .u64) (Vector.replicate 4 (0:Int))):=by kernel_rfl
end
section
open Go.RowKit Go.Shelf
set_option maxRecDepth 100000
def Zdu:Ren:=⟨Vd [(138,38),(143,39),(146,17),(195,55),(197,56),(217,82),(218,57),(219,58),(221,26),(224,84),(225,83),(260,81),(266,113),(267,85),(268,37),(314,114)],Vd [(0,0),(3,3),(4,4),(5,5),(9,9),(21,21),(31,36),(46,62),(51,22),(105,99),(119,168),(138,170),(139,171),(146,172)],Vd [(1,0),(3,2),(4,3)]⟩
theorem Zdr:Lays.n146 Tryz.prog Zdu where
 mixed:=mixed
 f138:=Tryz.func38.trans (congrArg some (by kernel_rfl))
 f143:=Tryz.func39.trans (congrArg some (by kernel_rfl))
 f146:=Tryz.func17.trans (congrArg some (by kernel_rfl))
 f195:=Tryz.func55.trans (congrArg some (by kernel_rfl))
 f197:=Tryz.func56.trans (congrArg some (by kernel_rfl))
 f217:=Tryz.func82.trans (congrArg some (by kernel_rfl))
 f218:=Tryz.func57.trans (congrArg some (by kernel_rfl))
 f219:=Tryz.func58.trans (congrArg some (by kernel_rfl))
 f221:=Tryz.func26.trans (congrArg some (by kernel_rfl))
 f224:=Tryz.func84.trans (congrArg some (by kernel_rfl))
 f225:=Tryz.func83.trans (congrArg some (by kernel_rfl))
 f260:=Tryz.func81.trans (congrArg some (by kernel_rfl))
 f266:=Tryz.func113.trans (congrArg some (by kernel_rfl))
 f267:=Tryz.func85.trans (congrArg some (by kernel_rfl))
 f268:=Tryz.func37.trans (congrArg some (by kernel_rfl))
 f314:=Tryz.func114.trans (congrArg some (by kernel_rfl))
 t0:=by kernel_rfl
 a0:=λ_=>Ze (by kernel_rfl)
 z0:=λ_=>Zc (by kernel_rfl)
 v0:=λ_=>Zf (by kernel_rfl)
 t3:=by kernel_rfl
 a3:=λ_=>Ze (by kernel_rfl)
 z3:=λ_=>Zc (by kernel_rfl)
 v3:=λ_=>Zf (by kernel_rfl)
 t4:=by kernel_rfl
 a4:=λ_=>Ze (by kernel_rfl)
 z4:=λ_=>Zc (by kernel_rfl)
 v4:=λ_=>Zf (by kernel_rfl)
 t5:=by kernel_rfl
 a5:=λ_=>Ze (by kernel_rfl)
 z5:=λ_=>Zc (by kernel_rfl)
 v5:=λ_=>Zf (by kernel_rfl)
 t9:=by kernel_rfl
 a9:=λ_=>Ze (by kernel_rfl)
 z9:=λ_=>Zc (by kernel_rfl)
 v9:=λ_=>Zf (by kernel_rfl)
 t21:=by kernel_rfl
 a21:=λ_=>Ze (by kernel_rfl)
 z21:=λ_=>Zc (by kernel_rfl)
 v21:=λ_=>Zf (by kernel_rfl)
 t31:=by kernel_rfl
 a31:=λ_=>Ze (by kernel_rfl)
 z31:=λ_=>Zc (by kernel_rfl)
 v31:=λ_=>Zf (by kernel_rfl)
 t46:=by kernel_rfl
 a46:=λ_=>Ze (by kernel_rfl)
 z46:=λ_=>Zc (by kernel_rfl)
 v46:=λ_=>Zf (by kernel_rfl)
 t51:=by kernel_rfl
 a51:=λ_=>Ze (by kernel_rfl)
 z51:=λ_=>Zc (by kernel_rfl)
 v51:=λ_=>Zf (by kernel_rfl)
 t105:=by kernel_rfl
 a105:=λ_=>Ze (by kernel_rfl)
 z105:=λ_=>Zc (by kernel_rfl)
 v105:=λ_=>Zf (by kernel_rfl)
 t119:=by kernel_rfl
 a119:=λ_=>Ze (by kernel_rfl)
 z119:=λ_=>Zc (by kernel_rfl)
 t138:=by kernel_rfl
 a138:=λ_=>Ze (by kernel_rfl)
 z138:=λ_=>Zc (by kernel_rfl)
 v138:=λ_=>Zf (by kernel_rfl)
 t139:=by kernel_rfl
 a139:=λ_=>Ze (by kernel_rfl)
 z139:=λ_=>Zc (by kernel_rfl)
 v139:=λ_=>Zf (by kernel_rfl)
 t146:=by kernel_rfl
 a146:=λ_=>Ze (by kernel_rfl)
 z146:=λ_=>Zc (by kernel_rfl)
 v146:=λ_=>Zf (by kernel_rfl)
 g1:=by kernel_rfl
 g3:=by kernel_rfl
 g4:=by kernel_rfl
def Zdt:Ren:=⟨Vd [(129,109),(171,23),(243,30),(246,51),(283,75),(284,76),(285,77),(286,78),(317,108),(318,110),(319,111),(320,112),(337,132),(338,133)],Vd [(0,0),(2,2),(3,3),(4,4),(5,5),(9,9),(20,20),(37,63),(46,62),(51,22),(53,97),(171,124),(173,127),(212,164),(213,165),(232,206),(233,207)],Vd [(17,1),(18,4),(19,5)]⟩
theorem Zdq:LaysM.n171 Tryz.prog Zdt where
 mixed:=mixed
 f129:=Tryz.func109.trans (congrArg some (by kernel_rfl))
 f171:=Tryz.func23.trans (congrArg some (by kernel_rfl))
 f243:=Tryz.func30.trans (congrArg some (by kernel_rfl))
 f246:=Tryz.func51.trans (congrArg some (by kernel_rfl))
 f283:=Tryz.func75.trans (congrArg some (by kernel_rfl))
 f284:=Tryz.func76.trans (congrArg some (by kernel_rfl))
 f285:=Tryz.func77.trans (congrArg some (by kernel_rfl))
 f286:=Tryz.func78.trans (congrArg some (by kernel_rfl))
 f317:=Tryz.func108.trans (congrArg some (by kernel_rfl))
 f318:=Tryz.func110.trans (congrArg some (by kernel_rfl))
 f319:=Tryz.func111.trans (congrArg some (by kernel_rfl))
 f320:=Tryz.func112.trans (congrArg some (by kernel_rfl))
 f337:=Tryz.func132.trans (congrArg some (by kernel_rfl))
 f338:=Tryz.func133.trans (congrArg some (by kernel_rfl))
 t0:=by kernel_rfl
 a0:=λ_=>Ze (by kernel_rfl)
 z0:=λ_=>Zc (by kernel_rfl)
 v0:=λ_=>Zf (by kernel_rfl)
 t2:=by kernel_rfl
 a2:=λ_=>Ze (by kernel_rfl)
 z2:=λ_=>Zc (by kernel_rfl)
 v2:=λ_=>Zf (by kernel_rfl)
 t3:=by kernel_rfl
 a3:=λ_=>Ze (by kernel_rfl)
 z3:=λ_=>Zc (by kernel_rfl)
 v3:=λ_=>Zf (by kernel_rfl)
 t4:=by kernel_rfl
 a4:=λ_=>Ze (by kernel_rfl)
 z4:=λ_=>Zc (by kernel_rfl)
 v4:=λ_=>Zf (by kernel_rfl)
 t5:=by kernel_rfl
 a5:=λ_=>Ze (by kernel_rfl)
 z5:=λ_=>Zc (by kernel_rfl)
 v5:=λ_=>Zf (by kernel_rfl)
 t9:=by kernel_rfl
 a9:=λ_=>Ze (by kernel_rfl)
 z9:=λ_=>Zc (by kernel_rfl)
 v9:=λ_=>Zf (by kernel_rfl)
 t20:=by kernel_rfl
 a20:=λ_=>Ze (by kernel_rfl)
 z20:=λ_=>Zc (by kernel_rfl)
 v20:=λ_=>Zf (by kernel_rfl)
 t37:=by kernel_rfl
 a37:=λ_=>Ze (by kernel_rfl)
 z37:=λ_=>Zc (by kernel_rfl)
 v37:=λ_=>Zf (by kernel_rfl)
 t46:=by kernel_rfl
 a46:=λ_=>Ze (by kernel_rfl)
 z46:=λ_=>Zc (by kernel_rfl)
 v46:=λ_=>Zf (by kernel_rfl)
 t51:=by kernel_rfl
 a51:=λ_=>Ze (by kernel_rfl)
 z51:=λ_=>Zc (by kernel_rfl)
 v51:=λ_=>Zf (by kernel_rfl)
 t53:=by kernel_rfl
 a53:=λ_=>Ze (by kernel_rfl)
 z53:=λ_=>Zc (by kernel_rfl)
 v53:=λ_=>Zf (by kernel_rfl)
 t171:=by kernel_rfl
 a171:=λ_=>Ze (by kernel_rfl)
 z171:=λ_=>Zc (by kernel_rfl)
 v171:=λ_=>Zf (by kernel_rfl)
 t173:=by kernel_rfl
 a173:=λ_=>Ze (by kernel_rfl)
 z173:=λ_=>Zc (by kernel_rfl)
 v173:=λ_=>Zf (by kernel_rfl)
 t212:=by kernel_rfl
 a212:=λ_=>Ze (by kernel_rfl)
 z212:=λ_=>Zc (by kernel_rfl)
 v212:=λ_=>Zf (by kernel_rfl)
 t213:=by kernel_rfl
 a213:=λ_=>Ze (by kernel_rfl)
 z213:=λ_=>Zc (by kernel_rfl)
 t232:=by kernel_rfl
 a232:=λ_=>Ze (by kernel_rfl)
 z232:=λ_=>Zc (by kernel_rfl)
 v232:=λ_=>Zf (by kernel_rfl)
 t233:=by kernel_rfl
 a233:=λ_=>Ze (by kernel_rfl)
 z233:=λ_=>Zc (by kernel_rfl)
 v233:=λ_=>Zf (by kernel_rfl)
 g17:=by kernel_rfl
 g18:=by kernel_rfl
 g19:=by kernel_rfl
 i0:=by kernel_rfl
 i2:=by kernel_rfl
 i3:=by kernel_rfl
 i4:=by kernel_rfl
 i5:=by kernel_rfl
 i9:=by kernel_rfl
 i20:=by kernel_rfl
 i37:=by kernel_rfl
 i46:=by kernel_rfl
 i51:=by kernel_rfl
 i53:=by kernel_rfl
 i171:=by kernel_rfl
 i173:=by kernel_rfl
 i212:=by kernel_rfl
 i232:=by kernel_rfl
 i233:=by kernel_rfl
 m17:=by kernel_rfl
 m18:=by kernel_rfl
 m19:=by kernel_rfl
def Gc:Ren:=⟨Vd [(166,32),(167,35),(169,33),(240,52),(276,79)],Vd [(0,0),(3,3),(4,4),(5,5),(9,9),(20,20),(37,63),(70,65),(72,67),(75,70),(76,71),(80,73),(127,95),(164,129)],λn=>n⟩
theorem Zaq:Lays.n166 Tryz.prog Gc where
 mixed:=mixed
 f166:=Tryz.func32.trans (congrArg some (by kernel_rfl))
 f240:=Tryz.func52.trans (congrArg some (by kernel_rfl))
 f276:=Tryz.func79.trans (congrArg some (by kernel_rfl))
 t0:=by kernel_rfl
 a0:=λ_=>Ze (by kernel_rfl)
 z0:=λ_=>Zc (by kernel_rfl)
 v0:=λ_=>Zf (by kernel_rfl)
 t3:=by kernel_rfl
 a3:=λ_=>Ze (by kernel_rfl)
 z3:=λ_=>Zc (by kernel_rfl)
 v3:=λ_=>Zf (by kernel_rfl)
 t4:=by kernel_rfl
 a4:=λ_=>Ze (by kernel_rfl)
 z4:=λ_=>Zc (by kernel_rfl)
 v4:=λ_=>Zf (by kernel_rfl)
 t9:=by kernel_rfl
 a9:=λ_=>Ze (by kernel_rfl)
 z9:=λ_=>Zc (by kernel_rfl)
 v9:=λ_=>Zf (by kernel_rfl)
 t20:=by kernel_rfl
 a20:=λ_=>Ze (by kernel_rfl)
 z20:=λ_=>Zc (by kernel_rfl)
 v20:=λ_=>Zf (by kernel_rfl)
 t37:=by kernel_rfl
 a37:=λ_=>Ze (by kernel_rfl)
 z37:=λ_=>Zc (by kernel_rfl)
 v37:=λ_=>Zf (by kernel_rfl)
 t70:=by kernel_rfl
 a70:=λ_=>Ze (by kernel_rfl)
 z70:=λ_=>Zc (by kernel_rfl)
 v70:=λ_=>Zf (by kernel_rfl)
 t72:=by kernel_rfl
 a72:=λ_=>Ze (by kernel_rfl)
 z72:=λ_=>Zc (by kernel_rfl)
 v72:=λ_=>Zf (by kernel_rfl)
 t75:=by kernel_rfl
 a75:=λ_=>Ze (by kernel_rfl)
 z75:=λ_=>Zc (by kernel_rfl)
 v75:=λ_=>Zf (by kernel_rfl)
 t164:=by kernel_rfl
 a164:=λ_=>Ze (by kernel_rfl)
 z164:=λ_=>Zc (by kernel_rfl)
 v164:=λ_=>Zf (by kernel_rfl)
theorem Zar:Lays.n167 Tryz.prog Gc where
 mixed:=mixed
 f167:=Tryz.func35.trans (congrArg some (by kernel_rfl))
 f240:=Tryz.func52.trans (congrArg some (by kernel_rfl))
 f276:=Tryz.func79.trans (congrArg some (by kernel_rfl))
 t0:=by kernel_rfl
 a0:=λ_=>Ze (by kernel_rfl)
 z0:=λ_=>Zc (by kernel_rfl)
 v0:=λ_=>Zf (by kernel_rfl)
 t4:=by kernel_rfl
 a4:=λ_=>Ze (by kernel_rfl)
 z4:=λ_=>Zc (by kernel_rfl)
 v4:=λ_=>Zf (by kernel_rfl)
 t5:=by kernel_rfl
 a5:=λ_=>Ze (by kernel_rfl)
 z5:=λ_=>Zc (by kernel_rfl)
 v5:=λ_=>Zf (by kernel_rfl)
 t9:=by kernel_rfl
 a9:=λ_=>Ze (by kernel_rfl)
 z9:=λ_=>Zc (by kernel_rfl)
 v9:=λ_=>Zf (by kernel_rfl)
 t20:=by kernel_rfl
 a20:=λ_=>Ze (by kernel_rfl)
 z20:=λ_=>Zc (by kernel_rfl)
 v20:=λ_=>Zf (by kernel_rfl)
 t37:=by kernel_rfl
 a37:=λ_=>Ze (by kernel_rfl)
 z37:=λ_=>Zc (by kernel_rfl)
 v37:=λ_=>Zf (by kernel_rfl)
 t70:=by kernel_rfl
 a70:=λ_=>Ze (by kernel_rfl)
 z70:=λ_=>Zc (by kernel_rfl)
 v70:=λ_=>Zf (by kernel_rfl)
 t72:=by kernel_rfl
 a72:=λ_=>Ze (by kernel_rfl)
 z72:=λ_=>Zc (by kernel_rfl)
 v72:=λ_=>Zf (by kernel_rfl)
 t75:=by kernel_rfl
 a75:=λ_=>Ze (by kernel_rfl)
 z75:=λ_=>Zc (by kernel_rfl)
 v75:=λ_=>Zf (by kernel_rfl)
 t164:=by kernel_rfl
 a164:=λ_=>Ze (by kernel_rfl)
 z164:=λ_=>Zc (by kernel_rfl)
 v164:=λ_=>Zf (by kernel_rfl)
theorem Zas:Lays.n169 Tryz.prog Gc where
 mixed:=mixed
 f169:=Tryz.func33.trans (congrArg some (by kernel_rfl))
 t0:=by kernel_rfl
 a0:=λ_=>Ze (by kernel_rfl)
 z0:=λ_=>Zc (by kernel_rfl)
 v0:=λ_=>Zf (by kernel_rfl)
 t3:=by kernel_rfl
 a3:=λ_=>Ze (by kernel_rfl)
 z3:=λ_=>Zc (by kernel_rfl)
 v3:=λ_=>Zf (by kernel_rfl)
 t9:=by kernel_rfl
 a9:=λ_=>Ze (by kernel_rfl)
 z9:=λ_=>Zc (by kernel_rfl)
 v9:=λ_=>Zf (by kernel_rfl)
 t37:=by kernel_rfl
 a37:=λ_=>Ze (by kernel_rfl)
 z37:=λ_=>Zc (by kernel_rfl)
 v37:=λ_=>Zf (by kernel_rfl)
 t70:=by kernel_rfl
 a70:=λ_=>Ze (by kernel_rfl)
 z70:=λ_=>Zc (by kernel_rfl)
 v70:=λ_=>Zf (by kernel_rfl)
 t72:=by kernel_rfl
 a72:=λ_=>Ze (by kernel_rfl)
 z72:=λ_=>Zc (by kernel_rfl)
 v72:=λ_=>Zf (by kernel_rfl)
 t127:=by kernel_rfl
 a127:=λ_=>Ze (by kernel_rfl)
 z127:=λ_=>Zc (by kernel_rfl)
 v127:=λ_=>Zf (by kernel_rfl)
theorem H4:Builder.Extra Tryz.prog Gc where
 sizeBuilder:=by kernel_rfl
 liesBuilder:=by kernel_rfl
 infoByte:=by kernel_rfl
 cellsByte:=by kernel_rfl
 sizeByte:=by kernel_rfl
 t5:=by kernel_rfl
 neB5:=by decide
 a5:=λ_=>Ze (by kernel_rfl)
 z5:=λ_=>Zc (by kernel_rfl)
 v5:=λ_=>Zf (by kernel_rfl)
section
variable {w0 w:World} {ρ:Hp} {Γ:List Yd}
theorem Y0.c (hs:St w0 ρ Γ w) {x0 x1:ByteArray} {r:List ByteArray} (H:Y0.f x0 x1=some r):Zt Tryz.prog 17 [.string x0,.string x1] w (λv w'=>∃ (ρ':Hp) (v0:Value) (cs0:List Value),v=v0/\Le ρ ρ'/\St w0 ρ' (.row v0 9 Rep.str.sz r.length cs0::Γ) w'/\Z3 Rep.str ρ' cs0 r):=
 Ht (ρs:=Zdu) Zdr (by kernel_rfl) (Xy Tryz.func17 (by kernel_rfl) (by kernel_rfl)) hs H
def Jw (w0:World):Prop:=Lib.TabIs Tryz.prog w0 "internal/strconv.uint64pow10" .u64 Lib.pow10Tab
theorem strconv_Itoa.c (hs:St w0 ρ Γ w) (hL:Jw w0) {x0:Int} {r:ByteArray} (H:strconv_Itoa.f x0=some r):Zt Tryz.prog 23 [.int .i64 x0] w (λv w'=>v=.string r/\St w0 ρ Γ w'):=
 H5 (ρs:=Zdt) Zdq (Xy Tryz.func23 (by kernel_rfl) (by kernel_rfl)) hs hL H
theorem Zag {w1:World} {b:Nat} {l:List UInt8} (h:Bd 67 5 w1 b l w) (s:ByteArray) (hlen:l.length+s.size<=140737488355328):Zt Tryz.prog 32 [.pointer (some ⟨b,0,none⟩),.string s] w (λv w'=>v=.tuple #[.int .i64 s.size,.nilIface]/\Bd 67 5 w1 b (l++s.data.toList) w'):=
 Bd.ws (ρs:=Gc) Zaq H4 (Xy Tryz.func32 (by kernel_rfl) (by kernel_rfl)) h s hlen
theorem Zcv {w1:World} {b:Nat} {l:List UInt8} (h:Bd 67 5 w1 b l w) (c:UInt8) (hlen:l.length+1<=140737488355328):Zt Tryz.prog 35 [.pointer (some ⟨b,0,none⟩),.int .u8 c.toNat] w (λv w'=>v=.nilIface/\Bd 67 5 w1 b (l++[c]) w'):=
 Bd.wb (ρs:=Gc) Zar H4 (Xy Tryz.func35 (by kernel_rfl) (by kernel_rfl)) h c hlen
theorem Gl {w1:World} {b:Nat} {l:List UInt8} (h:Bd 67 5 w1 b l w) (hs:St w0 ρ Γ w1):Zt Tryz.prog 33 [.pointer (some ⟨b,0,none⟩)] w (λv w'=>v=.string ⟨l.toArray⟩/\St w0 ρ Γ w'):=
 Bd.str (ρs:=Gc) Zas H4 (Xy Tryz.func33 (by kernel_rfl) (by kernel_rfl)) h hs
end
end
end Go.Proofs.YtkjnmjhkekknnaaGreatDoor
