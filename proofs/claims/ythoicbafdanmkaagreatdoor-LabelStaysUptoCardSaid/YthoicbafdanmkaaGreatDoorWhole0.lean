/- Texts of this repo, merged for the claim: EngA, EngB, EngC, EngD, EngE, EngF, EngG, EngH, EngI, EngJ, EngK, EngL, EngM, EngN, EngO, EngP. -/
import Derived.WalkKit
import Derived.Orders
import Derived.Laws.AppendOwnNone
import Derived.WideLaws
import Derived.WalkSpells
import Derived.MapKept
import Derived.Lib.ConvBytes
import Derived.ChangeKeysEq
import Derived.Laws.MakeOwn
import Derived.Laws.BytesString
import Derived.Laws.IdiomStrings
import Derived.Laws.Cover4
/- A small logic for walking Go code: what is known of a frame's slots is a list, and each operation has one rule. Own work of this repo; it speaks of any program. -/
namespace Go.Proofs.YthoicbafdanmkaaGreatDoor

abbrev Loc := List (Nat × Value)

def lk (d : Nat) : Loc → Option Value
 | [] => none
 | (e, v) :: t => bif Nat.beq e d then some v else lk d t

structure Sat (n : Nat) (L : Loc) (a : Act) : Prop where
 size : a.tmps.size = n
 nod : a.defers = []
 get : ∀ d v, lk d L = some v → a.tmps.getD d undef = v

def ev (L : Loc) : Operand → Option Value
 | .tmp t => lk t L
 | .const v => some v
 | .global g => some (.pointer (some ⟨g, 0, none⟩))
 | .func f => some (.func (.func f) #[] #[])

def evs (L : Loc) : List Operand → Option (List Value)
 | [] => some []
 | x :: t => match ev L x, evs L t with
  | some v, some vs => some (v :: vs)
  | _, _ => none

section
variable {n : Nat} {L : Loc} {a : Act}
theorem Sat.ev (h : Sat n L a) {x : Operand} {v : Value} (hx : ev L x = some v) : a.eval x = v := by
 cases x with
 | tmp t => exact h.get t v hx
 | const c => simpa [Go.Proofs.YthoicbafdanmkaaGreatDoor.ev, Act.eval] using hx
 | global g => simpa [Go.Proofs.YthoicbafdanmkaaGreatDoor.ev, Act.eval] using hx
 | func f => simpa [Go.Proofs.YthoicbafdanmkaaGreatDoor.ev, Act.eval] using hx
theorem Sat.evs (h : Sat n L a) : ∀ {xs : List Operand} {vs : List Value}, evs L xs = some vs → xs.map a.eval = vs
 | [], vs, hx => by simpa [Go.Proofs.YthoicbafdanmkaaGreatDoor.evs] using hx
 | x :: t, vs, hx => by
  simp only [Go.Proofs.YthoicbafdanmkaaGreatDoor.evs] at hx
  split at hx
  ·rename_i v vs' hv hvs
   simp only [Option.some.injEq] at hx
   subst hx
   rw [List.map_cons, h.ev hv, Sat.evs h hvs]
  ·cases hx
theorem Sat.put (h : Sat n L a) {d : Nat} (hd : Nat.blt d n = true) (v : Value) : Sat n ((d, v) :: L) (a.put (some d) v) := by
 have hlt : d < a.tmps.size := by rw [h.size]; exact Nat.le_of_ble_eq_true hd
 refine ⟨by simp [Act.put, h.size], h.nod, fun e u he => ?_⟩
 simp only [lk] at he
 by_cases hde : d = e
 ·subst hde
  simp at he
  simp [Act.put, hlt, he]
 ·have : Nat.beq d e = false := by
   cases hb : Nat.beq d e with
   | false => rfl
   | true => exact absurd (Nat.eq_of_beq_eq_true hb) hde
  rw [this] at he
  have := h.get e u he
  simpa [Act.put, Array.getElem?_setIfInBounds_ne hde] using this
theorem Sat.skip (h : Sat n L a) : Sat n L a := h
end

def Sub : Loc → Loc → Prop
 | [], _ => True
 | (d, v) :: t, L => lk d L = some v ∧ Sub t L

theorem Sub.lk {L : Loc} : ∀ {L' : Loc}, Sub L' L → ∀ d v, lk d L' = some v → lk d L = some v
 | [], _, _, _, h => by simp [Go.Proofs.YthoicbafdanmkaaGreatDoor.lk] at h
 | (e, u) :: t, hs, d, v, h => by
  simp only [Go.Proofs.YthoicbafdanmkaaGreatDoor.lk] at h
  cases hb : Nat.beq e d with
  | true => rw [hb] at h; simp at h; subst h; rw [← Nat.eq_of_beq_eq_true hb]; exact hs.1
  | false => rw [hb] at h; exact hs.2.lk d v h
theorem Sat.weak {n : Nat} {L L' : Loc} {a : Act} (h : Sat n L a) (hs : Sub L' L) : Sat n L' a :=
 ⟨h.size, h.nod, fun d v hd => h.get d v (hs.lk d v hd)⟩

abbrev Nxt := Loc → World → Prop

def Out (n : Nat) (N : Nxt) (X : Nat → Nxt) (R : Nxt) : Exit → Act → World → Prop
 | .normal, a, w => ∃ L, Sat n L a ∧ N L w
 | .exit i, a, w => ∃ L, Sat n L a ∧ X i L w
 | .ret, a, w => ∃ L, Sat n L a ∧ R L w
 | _, _, _ => False

def W (P : Program) (n : Nat) (c : Code) (N : Nxt) (X : Nat → Nxt) (R : Nxt) (L : Loc) (w : World) : Prop :=
 ∀ a, Sat n L a → c.wp P (Out n N X R) a w

section
variable {P : Program} {n : Nat} {N : Nxt} {X : Nat → Nxt} {R : Nxt} {L : Loc} {w : World}

theorem W.weak {c : Code} (L' : Loc) (hs : Sub L' L) (h : W P n c N X R L' w) : W P n c N X R L w := fun a ha => h a (ha.weak hs)
theorem Ua (h : N L w) : W P n .skip N X R L w := fun _ ha => wp_skip ⟨L, ha, h⟩
theorem Zk (h : R L w) : W P n .ret N X R L w := fun _ ha => wp_ret ⟨L, ha, h⟩
theorem Y4 {i : Nat} (h : X i L w) : W P n (.exit i) N X R L w := fun _ ha => wp_exit ⟨L, ha, h⟩
theorem Zh {x y : Code} (h : ∀ N' : Nxt, (∀ L w, W P n y N X R L w → N' L w) → W P n x N' X R L w) : W P n (.seq x y) N X R L w := by
 intro a ha
 refine wp_seq (wp_mono (h (fun L w => W P n y N X R L w) (fun _ _ h => h) a ha) ?_)
 intro e a' w' hq
 cases e with
 | normal => obtain ⟨L', hs, hw⟩ := hq; exact hw a' hs
 | exit i => exact hq
 | ret => exact hq
 | goto l => exact hq
 | panic c => exact hq
 | outgrown => exact hq
theorem Zj {i : Nat} {c : Code} (h : ∀ X' : Nat → Nxt, (∀ L w, N L w → X' i L w) → (∀ j L w, Nat.beq j i = false → X j L w → X' j L w) → W P n c N X' R L w) :
  W P n (.block i c) N X R L w := by
 intro a ha
 refine wp_block (wp_mono (h (fun j L w => bif Nat.beq j i then N L w else X j L w) (fun L w h => by simp [h]) (fun j L w hj h => by simp [hj, h]) a ha) ?_)
 intro e a' w' hq
 cases e with
 | exit j =>
  obtain ⟨L', hs, hx⟩ := hq
  simp only [Exit.inBlock]
  by_cases hj : j = i
  ·subst hj; simp at hx; rw [if_pos rfl]; exact ⟨L', hs, hx⟩
  ·rw [if_neg hj]
   have : Nat.beq j i = false := by
    cases hb : Nat.beq j i with
    | false => rfl
    | true => exact absurd (Nat.eq_of_beq_eq_true hb) hj
   rw [this] at hx
   exact ⟨L', hs, hx⟩
 | normal => exact hq
 | ret => exact hq
 | goto l => exact hq
 | panic c => exact hq
 | outgrown => exact hq
theorem Xg {c : Operand} {x y : Code} {t : Bool} (hc : ev L c = some (.bool t)) (ht : t = true → W P n x N X R L w) (hf : t = false → W P n y N X R L w) :
  W P n (.cond c x y) N X R L w := fun a ha => wp_cond_split (ha.ev hc) (fun h => ht h a ha) (fun h => hf h a ha)
theorem Y7 {c : Operand} {x y : Code} {p : Prop} [Decidable p] (hc : ev L c = some (.bool (decide p))) (ht : p → W P n x N X R L w) (hf : ¬ p → W P n y N X R L w) :
  W P n (.cond c x y) N X R L w := Xg hc (fun h => ht (of_decide_eq_true h)) (fun h => hf (of_decide_eq_false h))
theorem Zac {c : Operand} {x y : Code} (hc : ev L c = some (.bool true)) (ht : W P n x N X R L w) : W P n (.cond c x y) N X R L w :=
 Xg hc (fun _ => ht) (fun h => by cases h)
theorem Zee {c : Operand} {x y : Code} (hc : ev L c = some (.bool false)) (hf : W P n y N X R L w) : W P n (.cond c x y) N X R L w :=
 Xg hc (fun h => by cases h) (fun _ => hf)

theorem Y9 {σ : Type} {c : Code} (F : σ → Loc) (I : σ → World → Prop) (μ : σ → Nat) (s0 : σ) (hs : Sub (F s0) L) (h0 : I s0 w)
  (round : ∀ (s : σ) (w : World) (N' : Nxt), I s w → (∀ (s' : σ) (L' : Loc) (w' : World), Sub (F s') L' → I s' w' → μ s' < μ s → N' L' w') → W P n c N' X R (F s) w) :
  W P n (.loop c) N X R L w := by
 intro a ha b kk cs
 have key : ∀ (k : Nat) (s : σ) (w : World) (a : Act), μ s = k → I s w → Sat n (F s) a →
   ∃ e a' w', Out n N X R e a' w' ∧ Arrives P (lone (b.at a (.code c :: .inLoop c :: kk)) cs w) b kk cs e a' w' := by
  intro k
  induction k using Nat.strongRecOn with
  | _ k ih =>
   intro s w a hk hI hsat
   obtain ⟨e, a', w', hq, harr⟩ := round s w (fun L' w' => ∃ s', Sub (F s') L' ∧ I s' w' ∧ μ s' < μ s) hI (fun s' L' w' h1 h2 h3 => ⟨s', h1, h2, h3⟩) a hsat b (.inLoop c :: kk) cs
   cases e with
   | normal =>
    obtain ⟨L', hs', s', hsub, hI', hlt⟩ := hq
    obtain ⟨e₂, a₂, w₂, hq₂, harr₂⟩ := ih (μ s') (hk ▸ hlt) s' w' a' rfl hI' (hs'.weak hsub)
    exact ⟨e₂, a₂, w₂, hq₂, .of_steps (Steps.trans harr (.one step_inLoop)) harr₂⟩
   | exit i => exact ⟨.exit i, a', w', hq, .pass (x := .inLoop c) rfl (fun _ _ => .inl (by simp)) harr⟩
   | goto l => exact hq.elim
   | ret => exact ⟨.ret, a', w', hq, .pass (x := .inLoop c) rfl (fun _ _ => .inl (by simp)) harr⟩
   | panic ch => exact hq.elim
   | outgrown => exact hq.elim
 obtain ⟨e, a', w', hq, harr⟩ := key _ s0 w a rfl h0 (ha.weak hs)
 exact ⟨e, a', w', hq, .of_steps (.one step_loop) harr⟩

def O (P : Program) (n : Nat) (ops : Array Oper) (rest : List Oper) (N : Nxt) (L : Loc) (w : World) : Prop :=
 ∀ a, Sat n L a → wpList P ops (fun e a' w' => e = .normal ∧ ∃ L', Sat n L' a' ∧ N L' w') rest a w

theorem Zc {id : Nat} {l : List Oper} (h : O P n l.toArray l N L w) : W P n (.region id l.toArray false) N X R L w := fun a ha =>
 wp_mono (wp_region_lit (h a ha)) (fun e a' w' hq => by obtain ⟨rfl, hq⟩ := hq; exact hq)

variable {ops : Array Oper} {rest : List Oper} {d t : Nat} {pos : String} {aft : Array Edge}
theorem O.weak (L' : Loc) (hs : Sub L' L) (h : O P n ops rest N L' w) : O P n ops rest N L w := fun a ha => h a (ha.weak hs)
theorem Zd (h : N L w) : O P n ops [] N L w := fun a ha => ⟨rfl, L, ha, h⟩
theorem Zl3 {op : Op} (hd : Nat.blt d n = true) (h : ∀ a, Sat n L a → ∃ v w', (execOp a.eval ⟨some d, op, t, pos, aft, none⟩).run P w = .ok (.value v) w' ∧ O P n ops rest N ((d, v) :: L) w') :
  O P n ops (⟨some d, op, t, pos, aft, none⟩ :: rest) N L w := by
 intro a ha
 refine wpList_plain rfl fun K hK => ?_
 obtain ⟨v, w', hr, ho⟩ := h a ha
 unfold Oper.wp
 rw [hr, Oper.upon_value]
 exact hK _ _ (ho _ (ha.put hd v))
theorem Zwq {op : Op} {v : Value} (hd : Nat.blt d n = true) (h : ∀ a, Sat n L a → (execOp a.eval ⟨some d, op, t, pos, aft, none⟩).run P w = .ok (.value v) w) (k : O P n ops rest N ((d, v) :: L) w) :
  O P n ops (⟨some d, op, t, pos, aft, none⟩ :: rest) N L w := Zl3 hd fun a ha => ⟨v, w, h a ha, k⟩
theorem Zko {op : Op} {w' : World} (h : ∀ a, Sat n L a → (execOp a.eval ⟨none, op, t, pos, aft, none⟩).run P w = .ok .skip w') (k : O P n ops rest N L w') :
  O P n ops (⟨none, op, t, pos, aft, none⟩ :: rest) N L w := by
 intro a ha
 refine wpList_plain rfl fun K hK => ?_
 unfold Oper.wp
 rw [h a ha, Oper.upon_skip]
 exact hK _ _ (k _ ha)
theorem Zwx {j : Nat} {b : Bool} {dst : Option Nat} {dj : Nat} {op : Op} (hj : (ops[j]?).bind (·.dst) = some dj) (hl : lk dj L = some (.bool b))
  (h : O P n ops (⟨dst, op, t, pos, aft, none⟩ :: rest) N L w) : O P n ops (⟨dst, op, t, pos, aft, some (j, b)⟩ :: rest) N L w := by
 intro a ha
 have h1 := h a ha
 have hy : yielded ops a.tmps j = some b := by
  unfold yielded
  rw [hj]
  have := ha.get dj _ hl
  simp only [Option.bind_some]
  cases hx : a.tmps[dj]? with
  | none => simp [hx, undef] at this
  | some u => simp [hx] at this; subst this; rfl
 unfold wpList at h1 ⊢
 simp only [Region.wanted, if_true] at h1
 simp only [Region.wanted, hy, BEq.rfl, if_true]
 exact h1
theorem Zxo {j : Nat} {b c : Bool} {dj : Nat} {op : Op} (hj : (ops[j]?).bind (·.dst) = some dj) (hl : lk dj L = some (.bool c)) (hc : c = !b) (hd : Nat.blt d n = true)
  (h : O P n ops rest N ((d, undef) :: L) w) : O P n ops (⟨some d, op, t, pos, aft, some (j, b)⟩ :: rest) N L w := by
 intro a ha
 have hy : yielded ops a.tmps j = some c := by
  unfold yielded
  rw [hj]
  have := ha.get dj _ hl
  simp only [Option.bind_some]
  cases hx : a.tmps[dj]? with
  | none => simp [hx, undef] at this
  | some u => simp [hx] at this; subst this; rfl
 unfold wpList
 simp only [Region.wanted, hy]
 have : (some c == some b) = false := by subst hc; cases b <;> rfl
 rw [this]
 simp only [Bool.false_eq_true, if_false]
 exact h _ (ha.put hd undef)
theorem U8 {dj : Nat} {b : Bool} (hl : lk dj L = some (.bool b)) (ht : b = true → O P n ops rest N ((dj, .bool true) :: L) w) (hf : b = false → O P n ops rest N ((dj, .bool false) :: L) w) : O P n ops rest N L w := by
 intro a ha
 have key : ∀ c, b = c → Sat n ((dj, .bool c) :: L) a := fun c hc => ⟨ha.size, ha.nod, fun d v hv => by
  simp only [lk] at hv
  cases hb : Nat.beq dj d with
  | true => rw [hb] at hv; simp at hv; subst hv; rw [← Nat.eq_of_beq_eq_true hb, ← hc]; exact ha.get dj _ hl
  | false => rw [hb] at hv; exact ha.get d v hv⟩
 cases b with
 | true => exact ht rfl a (key true rfl)
 | false => exact hf rfl a (key false rfl)
theorem X6 {dj : Nat} {p : Prop} [Decidable p] (hl : lk dj L = some (.bool (decide p))) (ht : p → O P n ops rest N ((dj, .bool true) :: L) w) (hf : ¬ p → O P n ops rest N ((dj, .bool false) :: L) w) : O P n ops rest N L w :=
 U8 hl (fun h => ht (of_decide_eq_true h)) (fun h => hf (of_decide_eq_false h))

def Zrb (P : Program) (f : FuncId) : Prop := ∀ args w, (callFunc f args).run P w = .ok (.enter f args) w
theorem Zpv {f : FuncId} {fn : Func} (hf : P.funcs[f]? = some fn) (hb : fn.body.isNone = false) (hn : (fn.name == "runtime.NumGoroutine") = false) : Zrb P f := by
 intro args w
 have h1 : ¬ (fn.name == "runtime.NumGoroutine") = true := by rw [hn]; exact Bool.false_ne_true
 have h2 : ¬ fn.body.isNone = true := by rw [hb]; exact Bool.false_ne_true
 simp only [callFunc, program, bind_pure_comp, Sem.run_bind, Sem.run, Result.andThen, hf, if_neg h1, if_neg h2, Sem.run_pure]

def Zn (P : Program) (f : FuncId) (args : List Value) (w : World) (S : Value → World → Prop) : Prop :=
 Zrb P f ∧ Calls P f args.toArray w (fun e w' => ∃ v, e = .returned v ∧ S v w')
theorem Zn.mono {f : FuncId} {args : List Value} {S S' : Value → World → Prop} (h : Zn P f args w S) (hs : ∀ v w', S v w' → S' v w') : Zn P f args w S' :=
 ⟨h.1, h.2.mono fun _ _ ⟨v, he, hv⟩ => ⟨v, he, hs _ _ hv⟩⟩

theorem Zvp {f : FuncId} {xs : List Operand} {ts : Array TypeId} {vs : List Value} {S : Value → World → Prop} (hd : Nat.blt d n = true) (hx : evs L xs = some vs)
  (hc : Zn P f vs w S) (k : ∀ v w', S v w' → O P n ops rest N ((d, v) :: L) w') :
  O P n ops (⟨some d, .call { callee := .value (.func f), args := xs.toArray, argTypes := ts }, t, pos, aft, none⟩ :: rest) N L w := by
 intro a ha
 refine wpList_plain rfl fun K hK => ?_
 unfold Oper.wp
 have hr : (execOp a.eval ⟨some d, .call { callee := .value (.func f), args := xs.toArray, argTypes := ts }, t, pos, aft, none⟩).run P w = .ok (.enter f vs.toArray) w := by
  have := ha.evs hx
  simp [execOp, resolve, Act.eval, Deferred.ofValue, invoke, this, go_sem]
  exact hc.1 _ _
 rw [hr, Oper.upon_enter]
 refine hc.2.mono fun e w' he => ?_
 obtain ⟨v, rfl, hv⟩ := he
 exact hK _ _ (k v w' hv _ (ha.put hd v))
theorem Xo {f : FuncId} {c : Operand} {first cap : Array Value} {xs : List Operand} {ts : Array TypeId} {vs : List Value} {S : Value → World → Prop} (hd : Nat.blt d n = true)
  (hf : ev L c = some (.func (.func f) first cap)) (hx : evs L xs = some vs) (hc : Zn P f (first.toList ++ vs ++ cap.toList) w S) (k : ∀ v w', S v w' → O P n ops rest N ((d, v) :: L) w') :
  O P n ops (⟨some d, .call { callee := .value c, args := xs.toArray, argTypes := ts }, t, pos, aft, none⟩ :: rest) N L w := by
 intro a ha
 refine wpList_plain rfl fun K hK => ?_
 unfold Oper.wp
 have hr : (execOp a.eval ⟨some d, .call { callee := .value c, args := xs.toArray, argTypes := ts }, t, pos, aft, none⟩).run P w = .ok (.enter f (first.toList ++ vs ++ cap.toList).toArray) w := by
  have h1 := ha.evs hx
  have h2 := ha.ev hf
  have h3 := hc.1 (first.toList ++ vs ++ cap.toList).toArray w
  have e : (first.toList ++ vs ++ cap.toList).toArray = first ++ (vs.toArray ++ cap) := by simp
  rw [e] at h3 ⊢
  have h4 : (xs.toArray.map a.eval) = vs.toArray := by simp [h1]
  simp only [execOp, resolve, h2, h4, Deferred.ofValue, Sem.run_bind, Sem.run_pure, Result.andThen, invoke]
  simpa using h3
 rw [hr, Oper.upon_enter]
 refine hc.2.mono fun e w' he => ?_
 obtain ⟨v, rfl, hv⟩ := he
 exact hK _ _ (k v w' hv _ (ha.put hd v))

def Zc1 : Nat → List Value → Loc
 | _, [] => []
 | i, v :: t => (i, v) :: Zc1 (i + 1) t
theorem Zg3 : ∀ (vs : List Value) (i d : Nat) (v : Value), lk d (Zc1 i vs) = some v → i ≤ d ∧ vs[d - i]? = some v
 | [], i, d, v, h => by simp [Zc1, lk] at h
 | u :: t, i, d, v, h => by
  simp only [Zc1, lk] at h
  cases hb : Nat.beq i d with
  | true => rw [hb] at h; have := Nat.eq_of_beq_eq_true hb; subst this; simp at h; simp [h]
  | false =>
   rw [hb] at h
   obtain ⟨h1, h2⟩ := Zg3 t (i + 1) d v h
   refine ⟨by omega, ?_⟩
   rw [show d - i = (d - (i + 1)) + 1 from by omega, List.getElem?_cons_succ]
   exact h2

def Ret (P : Program) (n : Nat) (fn : Func) (S : Value → World → Prop) : Nxt := fun L w => ∃ v, (∀ a, Sat n L a → (results fn a.tmps).run P w = .ok v w) ∧ S v w
theorem enter {f : FuncId} {fn : Func} {c : Code} {args : List Value} {S : Value → World → Prop} (hf : P.funcs[f]? = some fn) (hn : fn.ntmps = n) (hb : fn.body = some c)
  (hname : (fn.name == "runtime.NumGoroutine") = false) (hs : Nat.ble args.length n = true)
  (h : W P n c (Ret P n fn S) (fun _ _ _ => False) (Ret P n fn S) (Zc1 0 args) w) :
  Zn P f args w S := by
 refine ⟨Zpv hf (by rw [hb]; rfl) hname, calls_of_wp hf hb (wp_mono (h { tmps := args.toArray ++ Array.replicate (fn.ntmps - args.toArray.size) undef, defers := [] } ⟨?_, rfl, ?_⟩) ?_)⟩
 ·have := Nat.le_of_ble_eq_true hs
  simp; omega
 ·intro d v hd
  obtain ⟨_, h2⟩ := Zg3 args 0 d v hd
  obtain ⟨hlt, hv⟩ := List.getElem?_eq_some_iff.1 h2
  simp only [Nat.sub_zero] at hlt hv
  simp [Array.getElem?_append, hlt, hv]
 ·intro e a' w' hq
  cases e with
  | normal => obtain ⟨L', hs', v, hr, hv⟩ := hq; exact ⟨hs'.nod, v, hr a' hs', v, rfl, hv⟩
  | ret => obtain ⟨L', hs', v, hr, hv⟩ := hq; exact ⟨hs'.nod, v, hr a' hs', v, rfl, hv⟩
  | exit i => obtain ⟨_, _, hx⟩ := hq; exact hx.elim
  | goto l => exact hq.elim
  | panic ch => exact hq.elim
  | outgrown => exact hq.elim
theorem Zgj {fn : Func} {S : Value → World → Prop} (hr : fn.results = #[]) (h : S (.tuple #[]) w) : Ret P n fn S L w :=
 ⟨.tuple #[], fun a _ => by simp [results, hr, go_sem], h⟩
theorem Ztn {fn : Func} {S : Value → World → Prop} {t : Nat} {v : Value} (hr : fn.results = #[.tmp t]) (hl : lk t L = some v) (h : S v w) : Ret P n fn S L w :=
 ⟨v, fun a ha => by rw [results_tmp hr, ha.get t v hl], h⟩
theorem Zbs {fn : Func} {S : Value → World → Prop} {t u : Nat} {v x : Value} (hr : fn.results = #[.tmp t, .tmp u]) (hl : lk t L = some v) (hl2 : lk u L = some x) (h : S (.tuple #[v, x]) w) :
  Ret P n fn S L w :=
 ⟨_, fun a ha => by rw [results_tmp2 hr, ha.get t v hl, ha.get u x hl2], h⟩
theorem Zcu {fn : Func} {S : Value → World → Prop} {t u z : Nat} {v x y : Value} (hr : fn.results = #[.tmp t, .tmp u, .tmp z]) (hl : lk t L = some v) (hl2 : lk u L = some x) (hl3 : lk z L = some y) (h : S (.tuple #[v, x, y]) w) :
  Ret P n fn S L w :=
 ⟨_, fun a ha => by rw [results_tmp3 hr, ha.get t v hl, ha.get u x hl2, ha.get z y hl3], h⟩
theorem Zwk {fn : Func} {S : Value → World → Prop} {t u z s : Nat} {v x y y' : Value} (hr : fn.results = #[.tmp t, .tmp u, .tmp z, .tmp s]) (hl : lk t L = some v) (hl2 : lk u L = some x) (hl3 : lk z L = some y) (hl4 : lk s L = some y') (h : S (.tuple #[v, x, y, y']) w) :
  Ret P n fn S L w :=
 ⟨_, fun a ha => by simp [results, hr, go_sem, ← ha.get t v hl, ← ha.get u x hl2, ← ha.get z y hl3, ← ha.get s y' hl4], h⟩
end
end Go.Proofs.YthoicbafdanmkaaGreatDoor
/- Memory for the walks: what never changes is a part 'ρ' of the cells; what the call itself writes is a list of items. Own work of this repo. -/
namespace Go.Proofs.YthoicbafdanmkaaGreatDoor
open Go.RowKit

abbrev Hp := Addr → Option Value
def Zgo (es : Array MapEntry) (n : Nat) : Value := .tuple (#[.int .i64 n] ++ (es.map fun e => .tuple #[e.key, e.val, .int .i64 e.born]))
def Zm7 (cs : Array Value) (T : TypeId) (fr : Nat × Nat) : Value := .agg #[.agg cs, .int .i64 (T : Nat), .int .i64 fr.1, .int .i64 fr.2]
def seen (w : World) (a : Addr) : Option Value :=
 match a.spot with
 | none => w.cell? a
 | some _ => match w.heap[a.block]? with
  | some (.map es n) => some (Zgo es n)
  | some (.cells cs T fr) => some (Zm7 cs T fr)
  | _ => none
theorem Zei {w w' : World} {a : Addr} (h : w'.heap[a.block]? = w.heap[a.block]?) : seen w' a = seen w a := by
 unfold seen
 rw [World.cell?_of_block h, h]
theorem Zui {w : World} {a : Addr} {v : Value} (h : seen w a = some v) : a.block < w.heap.size := by
 unfold seen at h
 split at h
 ·exact World.block_lt_of_cell? w a h
 ·rcases Nat.lt_or_ge a.block w.heap.size with h' | h'
  ·exact h'
  ·simp [Array.getElem?_eq_none h'] at h
def Zvz (ρ : Hp) (w : World) : Prop := ∀ a v, ρ a = some v → seen w a = some v
def Le (ρ ρ' : Hp) : Prop := ∀ a v, ρ a = some v → ρ' a = some v
theorem Le.rfl' (ρ : Hp) : Le ρ ρ := fun _ _ h => h
theorem Le.trans {a b c : Hp} (h : Le a b) (k : Le b c) : Le a c := fun x v hx => k x v (h x v hx)

inductive Q5 where
 | box (b : Nat) (T : TypeId) (cs : List Value)
 | row (v : Value) (e : TypeId) (sz n : Nat) (cs : List Value)
 | obj (b : Nat) (o : Obj)
def Q5.blk : Q5 → Option Nat
 | .box b _ _ => some b
 | .row v _ _ _ _ => v.ownBlock
 | .obj b _ => some b
def Q5.ok (w : World) : Q5 → Prop
 | .box b T cs => w.heap[b]? = some (.cells cs.toArray T (0, 0))
 | .row v e sz n cs => w.ownsRow 0 e sz v n cs
 | .obj b o => w.heap[b]? = some o ∧ (∀ c t f, o ≠ .cells c t f)

structure St (w0 : World) (ρ : Hp) (Γ : List Q5) (w : World) : Prop where
 below : Below w0.heap.size w0 w
 sees : Zvz ρ w
 ok : ∀ it ∈ Γ, it.ok w
 nodup : (Γ.filterMap Q5.blk).Nodup
 base : ∀ b ∈ Γ.filterMap Q5.blk, w0.heap.size ≤ b
 clean : ∀ a v, ρ a = some v → a.block ∉ Γ.filterMap Q5.blk

theorem Q5.ok_lt {w : World} {it : Q5} (h : it.ok w) {b : Nat} (hb : it.blk = some b) : b < w.heap.size := by
 cases it with
 | box c T cs => simp only [Q5.blk, Option.some.injEq] at hb; subst hb; exact (Array.getElem?_eq_some_iff.1 h).1
 | row v e sz n cs => exact (World.ownsRow.lt h b hb).2
 | obj c o => simp only [Q5.blk, Option.some.injEq] at hb; subst hb; exact (Array.getElem?_eq_some_iff.1 h.1).1
theorem Q5.ok_keep {w w' : World} {it : Q5} (h : it.ok w) (hk : ∀ b, it.blk = some b → w'.heap[b]? = w.heap[b]?) : it.ok w' := by
 cases it with
 | box c T cs => simp only [Q5.ok] at h ⊢; rw [hk c rfl]; exact h
 | row v e sz n cs =>
  refine ⟨h.1, ?_⟩
  rcases h.2 with hn | ⟨g, cap, cur, rfl, hb, hg, rest⟩
  ·exact .inl hn
  ·exact .inr ⟨g, cap, cur, rfl, hb, by rw [hk g rfl]; exact hg, rest⟩
 | obj c o => simp only [Q5.ok] at h ⊢; rw [hk c rfl]; exact h
theorem Zvz.lt {ρ : Hp} {w : World} (h : Zvz ρ w) {a : Addr} {v : Value} (ha : ρ a = some v) : a.block < w.heap.size := Zui (h a v ha)

theorem Zhx {l : List Q5} (h : (l.filterMap Q5.blk).Nodup) {i : Nat} {it : Q5} (hi : l[i]? = some it) {b : Nat} (hb : it.blk = some b) :
  ∀ j it', l[j]? = some it' → it'.blk = some b → j = i := by
 induction l generalizing i with
 | nil => simp at hi
 | cons x t ih =>
  intro j it' hj hb'
  cases hx : x.blk with
  | none =>
   rw [List.filterMap_cons, hx] at h
   cases i with
   | zero => simp at hi; subst hi; rw [hx] at hb; cases hb
   | succ i =>
    cases j with
    | zero => simp at hj; subst hj; rw [hx] at hb'; cases hb'
    | succ j => simp at hi hj; rw [ih h hi j it' hj hb']
  | some c =>
   rw [List.filterMap_cons, hx] at h
   simp only [List.nodup_cons, List.mem_filterMap, not_exists, not_and] at h
   cases i with
   | zero =>
    simp at hi; subst hi
    rw [hx] at hb; obtain rfl := Option.some.inj hb
    cases j with
    | zero => rfl
    | succ j => simp at hj; exact absurd hb' (h.1 it' (List.mem_of_getElem? hj))
   | succ i =>
    simp at hi
    cases j with
    | zero =>
     simp at hj; subst hj
     rw [hx] at hb'; obtain rfl := Option.some.inj hb'
     exact absurd hb (h.1 it (List.mem_of_getElem? hi))
    | succ j => simp at hj; rw [ih h.2 hi j it' hj hb']

section
variable {w0 w w' : World} {ρ ρ' : Hp} {Γ : List Q5}

theorem St.refl (w : World) : St w (seen w) [] w := ⟨Below.refl _ _, fun _ _ h => h, fun _ h => by simp at h, by simp, fun _ h => by simp at h, fun _ _ _ => by simp⟩
theorem St.lt (h : St w0 ρ Γ w) {b : Nat} (hb : b ∈ Γ.filterMap Q5.blk) : b < w.heap.size := by
 obtain ⟨it, hit, hbb⟩ := List.mem_filterMap.1 hb
 exact Q5.ok_lt (h.ok it hit) hbb
theorem St.see (h : St w0 ρ Γ w) {b o : Nat} {v : Value} (hv : ρ ⟨b, o, none⟩ = some v) : w.cell? ⟨b, o, none⟩ = some v := h.sees _ _ hv
theorem St.drew (h : St w0 ρ Γ w) : St w0 ρ Γ { w with drawn := w.drawn + 1 } := ⟨h.below.drew, h.sees, h.ok, h.nodup, h.base, h.clean⟩
theorem St.sub {Γ' : List Q5} (h : St w0 ρ Γ w) (hs : Γ'.Sublist Γ) : St w0 ρ Γ' w :=
 ⟨h.below, h.sees, fun it hi => h.ok it (hs.subset hi), (hs.filterMap _).nodup h.nodup, fun b hb => h.base b ((hs.filterMap _).subset hb), fun a v ha hb => h.clean a v ha ((hs.filterMap _).subset hb)⟩
theorem St.less (h : St w0 ρ Γ w) (hle : Le ρ' ρ) : St w0 ρ' Γ w := ⟨h.below, fun a v ha => h.sees a v (hle a v ha), h.ok, h.nodup, h.base, fun a v ha => h.clean a v (hle a v ha)⟩
theorem St.keep (h : St w0 ρ Γ w) (hb : Below w0.heap.size w w') (hk : ∀ b, b < w.heap.size → (b ∈ Γ.filterMap Q5.blk ∨ ∃ a v, ρ a = some v ∧ a.block = b) → w'.heap[b]? = w.heap[b]?) : St w0 ρ Γ w' := by
 refine ⟨h.below.trans hb, fun a v ha => ?_, fun it hi => ?_, h.nodup, h.base, h.clean⟩
 ·rw [Zei (hk a.block (h.sees.lt ha) (.inr ⟨a, v, ha, rfl⟩))]; exact h.sees a v ha
 ·exact Q5.ok_keep (h.ok it hi) fun b hb => hk b (Q5.ok_lt (h.ok it hi) hb) (.inl (List.mem_filterMap.2 ⟨it, hi, hb⟩))

theorem St.push (h : St w0 ρ Γ w) (o : Obj) (it : Q5) (hb : it.blk = some w.heap.size) (hok : it.ok (w.alloc o)) : St w0 ρ (it :: Γ) (w.alloc o) := by
 have hsz := h.below.size
 have h1 : St w0 ρ Γ (w.alloc o) := h.keep ((Below.refl _ _).alloc hsz o) (fun b hlt _ => Below.heap_alloc w o b hlt)
 have hfresh : w.heap.size ∉ Γ.filterMap Q5.blk := fun hm => Nat.lt_irrefl _ (h.lt hm)
 refine ⟨h1.below, h1.sees, ?_, ?_, ?_, ?_⟩
 ·intro i hi
  rcases List.mem_cons.1 hi with rfl | hi
  ·exact hok
  ·exact h1.ok i hi
 ·rw [List.filterMap_cons, hb]
  exact List.nodup_cons.2 ⟨hfresh, h.nodup⟩
 ·intro b hm
  rw [List.filterMap_cons, hb] at hm
  rcases List.mem_cons.1 hm with rfl | hm
  ·exact hsz
  ·exact h.base b hm
 ·intro a v ha hm
  rw [List.filterMap_cons, hb] at hm
  rcases List.mem_cons.1 hm with hm | hm
  ·have := h.sees.lt ha; omega
  ·exact h.clean a v ha hm
theorem St.box (h : St w0 ρ Γ w) (T : TypeId) (cs : List Value) : St w0 ρ (.box w.heap.size T cs :: Γ) (w.alloc (.cells cs.toArray T)) :=
 h.push _ _ rfl (heap_alloc_new w _)
theorem St.rowNil (h : St w0 ρ Γ w) (e : TypeId) (sz : Nat) : St w0 ρ (.row (.slice none 0 0) e sz 0 [] :: Γ) w :=
 ⟨h.below, h.sees, fun i hi => by
  rcases List.mem_cons.1 hi with rfl | hi
  ·exact World.ownsRow_nil w 0 e sz
  ·exact h.ok i hi, h.nodup, h.base, h.clean⟩
theorem St.rowFull (h : St w0 ρ Γ w) (T : TypeId) (n sz : Nat) (cs : List Value) (hl : cs.length = n * sz) (hm : n ≤ maxLen) :
  St w0 ρ (.row (.slice (some ⟨w.heap.size, 0, none⟩) n n) T sz n cs :: Γ) (w.alloc (.cells cs.toArray T)) :=
 h.push _ _ rfl ⟨hl, .inr ⟨w.heap.size, n, cs.toArray, rfl, Nat.zero_le _, heap_alloc_new w _, Nat.le_refl _, hm, by simp [hl], by simp [← hl]⟩⟩

theorem St.turn (h : St w0 ρ Γ w) {i : Nat} {it it' : Q5} (hi : Γ[i]? = some it) (hb : Below w0.heap.size w w') (hk : ∀ b, b < w.heap.size → it.blk ≠ some b → w'.heap[b]? = w.heap[b]?)
  (hok : it'.ok w') (hblk : it'.blk = it.blk ∨ ∀ b, it'.blk = some b → w.heap.size ≤ b) : St w0 ρ (Γ.set i it') w' := by
 have hap := fun {b} (hbb : it.blk = some b) => Zhx h.nodup hi hbb
 have hsz := h.below.size
 have hmem : it ∈ Γ := List.mem_of_getElem? hi
 have hlt : i < Γ.length := (List.getElem?_eq_some_iff.1 hi).1
 -- what the new list's blocks are
 have hin : ∀ b, b ∈ (Γ.set i it').filterMap Q5.blk → b ∈ Γ.filterMap Q5.blk ∨ (it'.blk = some b ∧ w.heap.size ≤ b) := by
  intro b hm
  obtain ⟨x, hx, hxb⟩ := List.mem_filterMap.1 hm
  obtain ⟨j, hj⟩ := List.getElem?_of_mem hx
  rw [List.getElem?_set] at hj
  split at hj
  ·simp at hj; subst hj
   ·rcases hblk with he | he
    ·exact .inl (List.mem_filterMap.2 ⟨it, hmem, by rw [← he]; exact hxb⟩)
    ·exact .inr ⟨hxb, he b hxb⟩
  ·exact .inl (List.mem_filterMap.2 ⟨x, List.mem_of_getElem? hj, hxb⟩)
 refine ⟨h.below.trans hb, ?_, ?_, ?_, ?_, ?_⟩
 ·intro a v ha
  have hlt' := h.sees.lt ha
  rw [Zei (hk a.block hlt' (fun e => h.clean a v ha (List.mem_filterMap.2 ⟨it, hmem, e⟩)))]
  exact h.sees a v ha
 ·intro x hx
  obtain ⟨j, hj⟩ := List.getElem?_of_mem hx
  rw [List.getElem?_set] at hj
  split at hj
  ·simp at hj; subst hj; exact hok
  ·rename_i hne
   have hx0 := h.ok x (List.mem_of_getElem? hj)
   refine Q5.ok_keep hx0 fun b hbb => hk b (Q5.ok_lt hx0 hbb) (fun e => hne (hap e j x hj hbb).symm)
 · -- no two have one block
  have key : ∀ (l : List Q5) (i : Nat), l[i]? = some it → (l.filterMap Q5.blk).Nodup → (∀ b ∈ l.filterMap Q5.blk, b < w.heap.size) → ((l.set i it').filterMap Q5.blk).Nodup := by
   intro l
   induction l with
   | nil => intro i hi; simp at hi
   | cons x t ih =>
    intro i hi hn hlt
    cases i with
    | zero =>
     simp at hi; subst hi
     simp only [List.set_cons_zero]
     cases hx' : it'.blk with
     | none =>
      rw [List.filterMap_cons, hx']
      cases hx : x.blk with
      | none => rw [List.filterMap_cons, hx] at hn; exact hn
      | some c => rw [List.filterMap_cons, hx] at hn; exact (List.nodup_cons.1 hn).2
     | some c =>
      rw [List.filterMap_cons, hx']
      refine List.nodup_cons.2 ⟨?_, ?_⟩
      ·rcases hblk with he | he
       ·rw [List.filterMap_cons, ← he, hx'] at hn; exact (List.nodup_cons.1 hn).1
       ·intro hm
        have := hlt c (by
         cases hx : x.blk with
         | none => rw [List.filterMap_cons, hx]; exact hm
         | some _ => rw [List.filterMap_cons, hx]; exact List.mem_cons_of_mem _ hm)
        have := he c hx'
        omega
      ·cases hx : x.blk with
       | none => rw [List.filterMap_cons, hx] at hn; exact hn
       | some d => rw [List.filterMap_cons, hx] at hn; exact (List.nodup_cons.1 hn).2
    | succ i =>
     simp at hi
     simp only [List.set_cons_succ]
     cases hx : x.blk with
     | none =>
      rw [List.filterMap_cons, hx] at hn hlt ⊢
      exact ih i hi hn hlt
     | some c =>
      rw [List.filterMap_cons, hx] at hn hlt ⊢
      obtain ⟨h1, h2⟩ := List.nodup_cons.1 hn
      refine List.nodup_cons.2 ⟨?_, ih i hi h2 (fun b hb => hlt b (List.mem_cons_of_mem _ hb))⟩
      intro hm
      obtain ⟨y, hy, hyb⟩ := List.mem_filterMap.1 hm
      rcases List.mem_or_eq_of_mem_set hy with hy | rfl
      ·exact h1 (List.mem_filterMap.2 ⟨y, hy, hyb⟩)
      ·rcases hblk with he | he
       ·exact h1 (List.mem_filterMap.2 ⟨it, List.mem_of_getElem? hi, by rw [← he]; exact hyb⟩)
       ·have := he c hyb
        have := hlt c (List.mem_cons_self ..)
        omega
  exact key Γ i hi h.nodup (fun b hb => h.lt hb)
 ·intro b hm
  rcases hin b hm with hm | ⟨_, hm⟩
  ·exact h.base b hm
  ·omega
 ·intro a v ha hm
  rcases hin _ hm with hm | ⟨_, hm⟩
  ·exact h.clean a v ha hm
  ·have := h.sees.lt ha; omega

theorem St.boxCell (h : St w0 ρ Γ w) {i b T k : Nat} {cs : List Value} {v : Value} (hi : Γ[i]? = some (.box b T cs)) (hk : cs[k]? = some v) : w.cell? ⟨b, k, none⟩ = some v := by
 have := h.ok _ (List.mem_of_getElem? hi)
 simp only [Q5.ok] at this
 rw [cell_of_row w b k _ _ _ this]
 simpa using hk
theorem St.boxFree (h : St w0 ρ Γ w) {i b T k : Nat} {cs : List Value} (hi : Γ[i]? = some (.box b T cs)) : w.frozen? ⟨b, k, none⟩ = false := by
 have := h.ok _ (List.mem_of_getElem? hi)
 simp only [Q5.ok] at this
 simp [World.frozen?, this]
theorem St.boxSet (h : St w0 ρ Γ w) {i b T k : Nat} {cs : List Value} (hi : Γ[i]? = some (.box b T cs)) (v : Value) : St w0 ρ (Γ.set i (.box b T (cs.set k v))) (w.setCell ⟨b, k, none⟩ v) := by
 have hok := h.ok _ (List.mem_of_getElem? hi)
 simp only [Q5.ok] at hok
 have hbase := h.base b (List.mem_filterMap.2 ⟨_, List.mem_of_getElem? hi, rfl⟩)
 refine h.turn hi ((Below.refl _ _).setCell (p := ⟨b, k, none⟩) hbase v) (fun c _ hc => Below.heap_setCell _ _ _ _ (fun e => hc (by rw [e]; rfl))) ?_ (.inl rfl)
 simp only [Q5.ok, World.setCell, Array.getElem?_modify, hok]
 simp
structure Src (w : World) (sz : Nat) (v : Value) (m : Nat) (cs : List Value) : Prop where
 shape : ∃ a c, v = .slice a m c ∧ (a = none → m = 0) ∧ ∀ ad, a = some ad → ∀ j u, cs[j]? = some u → w.cell? (ad.add j) = some u
 len : cs.length = m * sz
 one : ∀ u ∈ cs, u.oneCell' = true
end

structure Vn (P : Program) (t e sz bytes : Nat) : Prop where
 under : P.underlying t = some (.slice e)
 info : ∃ i z, P.info? e = some i ∧ i.zero = some z ∧ i.size = sz ∧ i.bytes = bytes ∧ z.cells.size = sz
 pos : 0 < sz
 small : bytes ≤ 65536
theorem U2 {P : Program} {t e sz bytes : Nat} (h1 : P.underlying t = some (.slice e)) (h2 : (P.info? e).map (fun i => (i.zero.map (·.cells.size), i.size, i.bytes)) = some (some sz, sz, bytes)) (h3 : Nat.blt 0 sz = true) (h4 : Nat.ble bytes 65536 = true) : Vn P t e sz bytes := by
 obtain ⟨i, hi, hz⟩ := Option.map_eq_some_iff.1 h2
 simp only [Prod.mk.injEq] at hz
 obtain ⟨hz1, hz2, hz3⟩ := hz
 obtain ⟨z, hz, hzs⟩ := Option.map_eq_some_iff.1 hz1
 exact ⟨h1, ⟨i, z, hi, hz, hz2, hz3, hzs⟩, Nat.le_of_ble_eq_true h3, Nat.le_of_ble_eq_true h4⟩

def most : Nat := 2147483648

theorem Zob {P : Program} {w0 w : World} {ρ : Hp} {Γ : List Q5} (hs : St w0 ρ Γ w) {t e sz bytes ty : Nat} (he : Vn P t e sz bytes) {i n m : Nat} {v x : Value} {cs news : List Value}
  (hi : Γ[i]? = some (.row v e sz n cs)) (hx : Src w sz x m news) (hb : n + m ≤ most) :
  ∃ v' w', (Builtin.append_ #[t, t] ty #[v, x]).run P w = .ok v' w' ∧ St w0 ρ (Γ.set i (.row v' e sz (n + m) (cs ++ news))) w' := by
 obtain ⟨j, z, hj, hz, hsz, hby, hzs⟩ := he.info
 obtain ⟨a, c, rfl, hnone, hcell⟩ := hx.shape
 have hown := hs.ok _ (List.mem_of_getElem? hi)
 simp only [Q5.ok] at hown
 have hm : n + m ≤ maxLen := by unfold most at hb; simp only [maxLen]; omega
 have h63 : n + m ≤ 9223372036854775807 := by unfold most at hb; omega
 have hbytes : (n + m) * bytes ≤ 140737488355328 := by
  have := Nat.mul_le_mul hb he.small
  unfold most at this; omega
 have hbase : ∀ b, v.ownBlock = some b → w0.heap.size ≤ b := fun b hv => hs.base b (List.mem_filterMap.2 ⟨_, List.mem_of_getElem? hi, hv⟩)
 cases a with
 | none =>
  obtain rfl := hnone rfl
  have hn : news = [] := List.eq_nil_of_length_eq_zero (by simpa using hx.len)
  subst hn
  have hc : c = 0 ∨ c ≠ 0 := by omega
  -- nothing is appended
  refine ⟨v, w, ?_, ?_⟩
  ·rcases hown.2 with ⟨rfl, rfl⟩ | ⟨g, cap, cur, rfl, _, hg, hnc, _, hcs, _⟩
   ·simp [Builtin.append_, run_underlying he.under, sizeOf, typeInfo, hj, Builtin.lenOf, Builtin.firstCells]
   ·simp [Builtin.append_, run_underlying he.under, sizeOf, typeInfo, hj, Builtin.lenOf, Builtin.firstCells, hnc, storeCells]
  ·simp only [Nat.add_zero, List.append_nil]
   exact hs.turn hi (Below.refl _ _) (fun _ _ _ => rfl) hown (.inl rfl)
 | some ad =>
  obtain ⟨v', w', hr, ho, hg, hnn⟩ := run_append_own (P := P) w 0 t ty e j z sz bytes he.under hj hz hsz hby hzs he.pos v n cs hown ad m c news hx.len (hcell ad rfl) hx.one hm hbytes (Nat.zero_le _)
  refine ⟨v', w', hr, ?_⟩
  have hblk : (Q5.row v' e sz (n + m) (cs ++ news)).blk = (Q5.row v e sz n cs).blk ∨ ∀ b, (Q5.row v' e sz (n + m) (cs ++ news)).blk = some b → w.heap.size ≤ b := by
   -- the row stays in its block, or lies in a new one
   by_cases hlt : ∃ b, v'.ownBlock = some b ∧ b < w.heap.size
   ·obtain ⟨b, hb', hlt⟩ := hlt
    left
    simp only [Q5.blk]
    rw [hb']
    -- an elder block that holds the row is the elder row's
    rcases hown.2 with ⟨rfl, rfl⟩ | ⟨g, cap, cur, rfl, _, hgg, hnc, hcm, hcs, htk⟩
    ·by_cases hm0 : m = 0
     ·subst hm0
      have hnil : news = [] := List.eq_nil_of_length_eq_zero (by simpa using hx.len)
      subst hnil
      have : v' = .slice none 0 0 := hnn.2 ⟨rfl, rfl⟩
      subst this
      cases hb'
     ·have hr2 := run_append_nil (P := P) w t ty e j z he.under hj hz ad m c news (by rw [hsz]; exact hx.len) (hcell ad rfl) (by omega) (by omega) (by rw [hby]; have hb := hbytes; simp only [Nat.zero_add] at hb; omega)
      rw [hr2] at hr
      simp only [Result.ok.injEq] at hr
      obtain ⟨rfl, rfl⟩ := hr
      simp only [Value.ownBlock, Option.some.injEq] at hb'
      omega
    ·by_cases hroom : n + m ≤ cap
     ·have hr2 := run_append_room (P := P) w t ty e j he.under hj g n cap cur hgg ad m c news (by rw [hsz]; exact hx.len) (hcell ad rfl) hx.one hroom (by rw [hx.len, hcs, hsz, ← Nat.add_mul]; exact Nat.mul_le_mul_right _ hroom)
      rw [hr2] at hr
      simp only [Result.ok.injEq] at hr
      obtain ⟨rfl, rfl⟩ := hr
      simpa [Value.ownBlock] using hb'.symm
     ·have holds : ∀ j u, cs[j]? = some u → w.cell? ((⟨g, 0, none⟩ : Addr).add j) = some u := hown.cells (g := g) rfl
      have hr2 := run_append_grow (P := P) w t ty e j z he.under hj hz ⟨g, 0, none⟩ n cap cs (by rw [hsz]; exact hown.1) holds ad m c news (by rw [hsz]; exact hx.len) (hcell ad rfl) (by omega) (by omega) (by rw [hby]; exact growslice_fits (by omega) hbytes)
      rw [hr2] at hr
      simp only [Result.ok.injEq] at hr
      obtain ⟨rfl, rfl⟩ := hr
      simp only [Value.ownBlock, Option.some.injEq] at hb'
      omega
   ·right
    intro b hb'
    simp only [Q5.blk] at hb'
    rcases Nat.lt_or_ge b w.heap.size with h | h
    ·exact absurd ⟨b, hb', h⟩ hlt
    ·exact h
  refine hs.turn hi ((Below.refl _ _).grown hg hs.below.size hbase) (fun b hlt hne => hg.block b hlt (fun e => hne (by simp only [Q5.blk]; exact e.symm))) ho hblk
end Go.Proofs.YthoicbafdanmkaaGreatDoor
/- One rule for each operation. Own work of this repo. -/
namespace Go.Proofs.YthoicbafdanmkaaGreatDoor
open Go.RowKit
section
variable {P : Program} {n : Nat} {N : Nxt} {L : Loc} {w : World} {ops : Array Oper} {rest : List Oper} {d t : Nat} {pos : String} {aft : Array Edge}

def Y (P : Program) (n : Nat) (L : Loc) (w : World) (op : Op) (t : TypeId) (v : Value) : Prop :=
 ∀ a, Sat n L a → ∀ dst pos aft g, (execOp a.eval ⟨dst, op, t, pos, aft, g⟩).run P w = .ok (.value v) w
theorem O_y {op : Op} {v : Value} (hd : Nat.blt d n = true) (hy : Y P n L w op t v) (k : O P n ops rest N ((d, v) :: L) w) : O P n ops (⟨some d, op, t, pos, aft, none⟩ :: rest) N L w :=
 Zwq hd (fun a ha => hy a ha _ _ _ _) k
theorem Qk {x : Operand} {v : Value} (hx : ev L x = some v) : Y P n L w (.move x) t (v) :=
 fun a ha _ _ _ _ => by simp [execOp, ha.ev hx]
theorem Xv {x : Operand} {v : Value} (hx : ev L x = some v) : Y P n L w (.assign x) t (v) :=
 fun a ha _ _ _ _ => by simp [execOp, ha.ev hx]
theorem J7 {c x y : Operand} {v : Value} (hc : ev L c = some (.bool true)) (hx : ev L x = some v) : Y P n L w (.pick c x y) t (v) :=
 fun a ha _ _ _ _ => by simp [execOp, ha.ev hx, ha.ev hc, asBool]
theorem Qr {c x y : Operand} {v : Value} (hc : ev L c = some (.bool false)) (hx : ev L y = some v) : Y P n L w (.pick c x y) t (v) :=
 fun a ha _ _ _ _ => by simp [execOp, ha.ev hx, ha.ev hc, asBool]

section
variable {xt yt : TypeId} {x y : Operand} {k : IntKind} {p q : Int}
theorem Zl7 (op : BinOp) (hop : op ≠ .shl ∧ op ≠ .shr) (a b : Int) : (do eqGuard op xt x y (.int k a) (.int k b); binOp op xt (.int k a) (.int k b) : Sem Value).run P w =
  (match op with
  | .add | .sub | .mul => Op.intArith op k a b
  | .quo | .rem => Op.intDiv op k a b
  | .and | .or | .xor | .andNot => Op.intBits op k a b
  | _ => Op.intCmp op a b : Sem Value).run P w := by
 cases op <;> first | exact absurd rfl hop.1 | exact absurd rfl hop.2 | simp [eqGuard, binOp]
theorem Zdc {op : BinOp} {v : Value} (hop : op ≠ .shl ∧ op ≠ .shr) (hx : ev L x = some (.int k p)) (hy : ev L y = some (.int k q))
  (hr : ∀ w : World, (match op with
  | .add | .sub | .mul => Op.intArith op k p q
  | .quo | .rem => Op.intDiv op k p q
  | .and | .or | .xor | .andNot => Op.intBits op k p q
  | _ => Op.intCmp op p q : Sem Value).run P w = .ok v w)
  : Y P n L w (.binOp op xt x y yt) t (v) :=
 fun a ha _ _ _ _ => by
  have h1 := Zl7 (P := P) (w := w) (xt := xt) (x := x) (y := y) (k := k) op hop p q
  rw [hr] at h1
  simp only [execOp, ha.ev hx, ha.ev hy, bind_pure_comp, Sem.run_map]
  rw [h1]; rfl
theorem Hy (hx : ev L x = some (.int k p)) (hy : ev L y = some (.int k q)) : Y P n L w (.binOp .add xt x y yt) t (.int k (k.wrap (p + q))) :=
 Zdc (by decide) hx hy (fun _ => rfl)
theorem Zc2 (hx : ev L x = some (.int k p)) (hy : ev L y = some (.int k q)) : Y P n L w (.binOp .sub xt x y yt) t (.int k (k.wrap (p - q))) :=
 Zdc (by decide) hx hy (fun _ => rfl)
theorem Zw3 (hx : ev L x = some (.int k p)) (hy : ev L y = some (.int k q)) : Y P n L w (.binOp .mul xt x y yt) t (.int k (k.wrap (p * q))) :=
 Zdc (by decide) hx hy (fun _ => rfl)
theorem Zc7 (hx : ev L x = some (.int k p)) (hy : ev L y = some (.int k q)) (hq : q ≠ 0) : Y P n L w (.binOp .quo xt x y yt) t (.int k (k.wrap (p.tdiv q))) :=
 Zdc (by decide) hx hy (fun _ => by simp [Op.intDiv, hq])
theorem Zjj (hx : ev L x = some (.int k p)) (hy : ev L y = some (.int k q)) (hq : q ≠ 0) : Y P n L w (.binOp .rem xt x y yt) t (.int k (p.tmod q)) :=
 Zdc (by decide) hx hy (fun _ => by simp [Op.intDiv, hq])
theorem Zbn (hx : ev L x = some (.int k p)) (hy : ev L y = some (.int k q)) : Y P n L w (.binOp .eql xt x y yt) t (.bool (decide (p = q))) :=
 Zdc (by decide) hx hy (fun _ => rfl)
theorem Zo1 (hx : ev L x = some (.int k p)) (hy : ev L y = some (.int k q)) : Y P n L w (.binOp .neq xt x y yt) t (.bool (decide (p ≠ q))) :=
 Zdc (by decide) hx hy (fun _ => by simp only [Op.intCmp, Sem.run_pure]; by_cases e : p = q <;> simp [e, bne])
theorem Zax (hx : ev L x = some (.int k p)) (hy : ev L y = some (.int k q)) : Y P n L w (.binOp .lss xt x y yt) t (.bool (decide (p < q))) :=
 Zdc (by decide) hx hy (fun _ => rfl)
theorem Zmd (hx : ev L x = some (.int k p)) (hy : ev L y = some (.int k q)) : Y P n L w (.binOp .leq xt x y yt) t (.bool (decide (p ≤ q))) :=
 Zdc (by decide) hx hy (fun _ => rfl)
theorem Zjk (hx : ev L x = some (.int k p)) (hy : ev L y = some (.int k q)) : Y P n L w (.binOp .gtr xt x y yt) t (.bool (decide (q < p))) :=
 Zdc (by decide) hx hy (fun _ => rfl)
theorem Zoj (hx : ev L x = some (.int k p)) (hy : ev L y = some (.int k q)) : Y P n L w (.binOp .geq xt x y yt) t (.bool (decide (q ≤ p))) :=
 Zdc (by decide) hx hy (fun _ => rfl)
theorem Zox {yk : IntKind} (hx : ev L x = some (.int k p)) (hy : ev L y = some (.int yk q)) (hq : 0 ≤ q) : Y P n L w (.binOp .shr xt x y yt) t (.int k (p.fdiv (2 ^ (min q.toNat k.bits)))) :=
 fun a ha _ _ _ _ => by
  simp only [execOp, ha.ev hx, ha.ev hy, bind_pure_comp, Sem.run_map, eqGuard, binOp, Sem.run_bind, Op.shift]
  simp [show ¬ q < 0 from by omega]
theorem Zr4 {b : Bool} (hx : ev L x = some (.bool b)) : Y P n L w (.unOp .not xt x) t (.bool (!b)) :=
 fun a ha _ _ _ _ => by simp only [execOp, ha.ev hx, Op.unary]; rfl
theorem Zk5 {p : Prop} [Decidable p] (hx : ev L x = some (.bool (decide p))) : Y P n L w (.unOp .not xt x) t (.bool (decide (¬ p))) :=
 by rw [show decide (¬ p) = (!decide p) from by by_cases h : p <;> simp [h]]; exact Zr4 hx
theorem V4 {src dst : TypeId} {k' : IntKind} {td : TypeDesc} (hs : P.underlying src = some td) (ht : P.underlying dst = some (.int k')) (hx : ev L x = some (.int k p)) : Y P n L w (.convert src dst x) t (.int k' (k'.wrap p)) :=
 fun a ha _ _ _ _ => by simp [execOp, ha.ev hx, convert, run_underlying hs, run_underlying ht, Conv.intToInt]
end

section
variable {xt yt : TypeId} {x y : Operand}
theorem Zid {op : BinOp} {u v r : Value} (hx : ev L x = some u) (hy : ev L y = some v) (hg : (eqGuard op xt x y u v).run P w = .ok () w) (hr : (binOp op xt u v).run P w = .ok r w) : Y P n L w (.binOp op xt x y yt) t (r) :=
 fun c hc _ _ _ _ => by
  simp only [execOp, hc.ev hx, hc.ev hy, bind_pure_comp, Sem.run_map, Sem.run_bind, hg, hr, Result.andThen]
theorem Zgq (bs : ByteArray) : ∀ (k i : Nat) (r : List UInt8), bs.size - i = k → ByteArray.toList.loop bs i r = r.reverse ++ bs.data.toList.drop i
 | 0, i, r, h => by
  rw [ByteArray.toList.loop, if_neg (by omega), List.drop_of_length_le (by simp; have : bs.size = bs.data.size := rfl; omega), List.append_nil]
 | k + 1, i, r, h => by
  have hlt : i < bs.size := by omega
  have hlt' : i < bs.data.toList.length := by simpa using hlt
  rw [ByteArray.toList.loop, if_pos hlt, Zgq bs k (i + 1) _ (by omega), List.reverse_cons, List.append_assoc, List.drop_eq_getElem_cons hlt']
  have hg : bs.get! i = bs.data.toList[i] := by
   have : i < bs.data.size := hlt
   simp [ByteArray.get!, getElem!_pos bs.data i this]
  rw [hg]; rfl
theorem Zfx (bs : ByteArray) : bs.toList = bs.data.toList := by
 have := Zgq bs (bs.size) 0 [] (by omega)
 simpa [ByteArray.toList] using this
theorem Zr8 (a b : ByteArray) : (a.toList == b.toList) = decide (a = b) := by
 rw [Zfx, Zfx]
 by_cases e : a = b
 ·subst e; simp
 ·have : ¬ a.data = b.data := fun h => e (by cases a; cases b; simp at h; simp [h])
  simp [e, this]
theorem Zls {a b : ByteArray} (hx : ev L x = some (.string a)) (hy : ev L y = some (.string b)) : Y P n L w (.binOp .eql xt x y yt) t (.bool (decide (a = b))) :=
 Zid hx hy rfl (by
  simp only [binOp, Op.stringOp, Sem.run_pure, Zr8])
theorem Zdr (ht : P.underlying xt = some .bool) (a b : Bool) : (Op.equal xt (.bool a) (.bool b)).run P w = .ok (a == b) w := by
 show (Op.equalIn (9999 + 1) xt (.bool a) (.bool b)).run P w = _
 unfold Op.equalIn
 simp only [Sem.run_bind, run_underlying ht, Result.andThen, Sem.run_pure]
theorem Zvr {a b : Bool} (ht : P.underlying xt = some .bool) (hx : ev L x = some (.bool a)) (hy : ev L y = some (.bool b)) : Y P n L w (.binOp .eql xt x y yt) t (.bool (a == b)) :=
 Zid hx hy rfl (by simp only [binOp, Sem.run_bind, Zdr ht, Result.andThen, Sem.run_pure])
theorem Zsf {a b : Bool} (ht : P.underlying xt = some .bool) (hx : ev L x = some (.bool a)) (hy : ev L y = some (.bool b)) : Y P n L w (.binOp .neq xt x y yt) t (.bool (a != b)) :=
 Zid hx hy rfl (by simp only [binOp, Sem.run_bind, Zdr ht, Result.andThen, Sem.run_pure]; rfl)
theorem Zce {e : TypeId} (ht : P.underlying xt = some (.pointer e)) (a : Option Addr) : (Op.equal xt (.pointer a) (.pointer none)).run P w = .ok a.isNone w := by
 show (Op.equalIn (9999 + 1) xt (.pointer a) (.pointer none)).run P w = _
 unfold Op.equalIn
 cases a <;> simp only [Sem.run_bind, run_underlying ht, Result.andThen, Sem.run_pure] <;> rfl
theorem Zvy {e : TypeId} {a : Option Addr} (ht : P.underlying xt = some (.pointer e)) (hx : ev L x = some (.pointer a)) (hy : ev L y = some (.pointer none)) : Y P n L w (.binOp .eql xt x y yt) t (.bool a.isNone) :=
 Zid hx hy rfl (by cases a <;> simp only [binOp, Sem.run_bind, Zce ht, Result.andThen, Sem.run_pure])
theorem Zvm {e : TypeId} {a : Option Addr} (ht : P.underlying xt = some (.pointer e)) (hx : ev L x = some (.pointer a)) (hy : ev L y = some (.pointer none)) : Y P n L w (.binOp .neq xt x y yt) t (.bool a.isSome) :=
 Zid hx hy rfl (by cases a <;> simp only [binOp, Sem.run_bind, Zce ht, Result.andThen, Sem.run_pure] <;> rfl)
theorem Zeh {e : TypeId} (ht : P.underlying xt = some (.slice e)) (a : Option Addr) (m c : Nat) : (Op.equal xt (.slice a m c) (.slice none 0 0)).run P w = .ok a.isNone w := by
 show (Op.equalIn (9999 + 1) xt (.slice a m c) (.slice none 0 0)).run P w = _
 unfold Op.equalIn
 cases a <;> simp only [Sem.run_bind, run_underlying ht, Result.andThen, Sem.run_pure] <;> rfl
theorem Zbj {e : TypeId} {a : Option Addr} {m c : Nat} (ht : P.underlying xt = some (.slice e)) (hx : ev L x = some (.slice a m c)) (hy : ev L y = some (.slice none 0 0)) : Y P n L w (.binOp .eql xt x y yt) t (.bool a.isNone) :=
 Zid hx hy rfl (by cases a <;> simp only [binOp, Sem.run_bind, Zeh ht, Result.andThen, Sem.run_pure])
theorem Zpp {tu : Operand} {i : Nat} {vs : Array Value} {v : Value} (hx : ev L tu = some (.tuple vs)) (hi : vs[i]? = some v) : Y P n L w (.extract tu i) t (v) :=
 fun a ha _ _ _ _ => by simp [execOp, ha.ev hx, Instr.extract, hi]
theorem K1 {a : Addr} (hx : ev L x = some (.pointer (some a))) : Y P n L w (.nilCheck x) t (.pointer (some a)) :=
 fun c hc _ _ _ _ => by simp [execOp, hc.ev hx]
def Yl (P : Program) (s i : Nat) : Option Nat :=
 match P.underlying s with
 | some (.struct fs) => (fs[i]?).bind fun f => (P.info? f.type).bind fun inf => if inf.size = 0 then none else some f.offset
 | _ => none
theorem Zp {s i off b o : Nat} (hf : Yl P s i = some off) (hx : ev L x = some (.pointer (some ⟨b, o, none⟩))) : Y P n L w (.fieldAddr s x i) t (.pointer (some ⟨b, o + off, none⟩)) :=
 fun c hc _ _ _ _ => by
  unfold Yl at hf
  split at hf
  ·rename_i fs hfs
   cases h1 : fs[i]? with
   | none => rw [h1] at hf; cases hf
   | some f =>
    rw [h1] at hf
    simp only [Option.bind_some] at hf
    cases h2 : P.info? f.type with
    | none => rw [h2] at hf; cases hf
    | some inf =>
     rw [h2] at hf
     simp only [Option.bind_some] at hf
     split at hf
     ·cases hf
     ·rename_i hne
      simp only [Option.some.injEq] at hf
      subst hf
      simp [execOp, hc.ev hx, Instr.fieldAt, run_underlying hfs, h1, Instr.sureAddr, fieldPlace, sizeOf, typeInfo, h2, hne, Addr.add_lit]
  ·cases hf

def Xe (P : Program) (t : Nat) : Option Bool := (P.underlying t).map fun | .struct _ | .array _ _ => true | _ => false
theorem Zbv {t : Nat} {b : Bool} (h : Xe P t = some b) : (isAgg t).run P w = .ok b w := by
 unfold Xe at h
 obtain ⟨td, htd, hb⟩ := Option.map_eq_some_iff.1 h
 subst hb
 simp only [isAgg, Sem.run_bind, run_underlying htd, Result.andThen]
 cases td <;> rfl
def Qm (P : Program) (t : Nat) : Option Nat := (P.info? t).map (·.size)
theorem Us {t k : Nat} (h : Qm P t = some k) : (sizeOf t).run P w = .ok k w := by
 obtain ⟨i, hi, rfl⟩ := Option.map_eq_some_iff.1 h
 simp [sizeOf, typeInfo, hi]
theorem Xp {ty : Nat} {a : Addr} {v : Value} (ha : Xe P ty = some false) (hx : ev L x = some (.pointer (some a))) (hv : w.cell? a = some v) : Y P n L w (.load ty x) t (v) :=
 fun c hc _ _ _ _ => by simp [execOp, hc.ev hx, Instr.loadAt, Instr.sureAddr, loadVar, Zbv ha, load, Sem.run, hv]
theorem Ur {a : Addr} : ∀ (cs : List Value) (i : Nat) (acc : Array Value), (∀ j u, cs[j]? = some u → w.cell? (a.add (i + j)) = some u) → (loadCellsFrom a i cs.length acc).run P w = .ok (acc ++ cs.toArray) w
 | [], i, acc, _ => by simp [loadCellsFrom]
 | u :: t, i, acc, h => by
  have h0 := h 0 u rfl
  have := Ur t (i + 1) (acc.push u) (fun j v hv => by rw [show i + 1 + j = i + (j + 1) from by omega]; exact h (j + 1) v hv)
  simp only [List.length_cons, loadCellsFrom, load, Sem.run_bind, Sem.run, show a.add i = a.add (i + 0) from rfl, h0, Result.andThen, this]
  simp
theorem Qv {ty b o k : Nat} {cs : List Value} (ha : Xe P ty = some true) (hsz : Qm P ty = some k) (hl : cs.length = k) (hx : ev L x = some (.pointer (some ⟨b, o, none⟩))) (hv : ∀ j u, cs[j]? = some u → w.cell? ⟨b, o + j, none⟩ = some u) : Y P n L w (.load ty x) t (.agg cs.toArray) :=
 fun c hc _ _ _ _ => by
  subst hl
  have := Ur (P := P) (w := w) (a := ⟨b, o, none⟩) cs 0 #[] (fun j u hu => by rw [Nat.zero_add, Addr.add_lit]; exact hv j u hu)
  simp [execOp, hc.ev hx, Instr.loadAt, Instr.sureAddr, loadVar, Zbv ha, Us hsz, loadCells, this]
end
end
end Go.Proofs.YthoicbafdanmkaaGreatDoor
/- Rules for operations that touch memory. Own work of this repo. -/
namespace Go.Proofs.YthoicbafdanmkaaGreatDoor
open Go.RowKit
section
variable {P : Program} {n : Nat} {N : Nxt} {L : Loc} {w w0 : World} {ops : Array Oper} {rest : List Oper} {d t : Nat} {pos : String} {aft : Array Edge} {ρ : Hp} {Γ : List Q5} {x y : Operand}

theorem Zo7 {op : Op} {v : Value} {w' : World} (hd : Nat.blt d n = true) (h : ∀ a, Sat n L a → (execOp a.eval ⟨some d, op, t, pos, aft, none⟩).run P w = .ok (.value v) w') (k : O P n ops rest N ((d, v) :: L) w') :
  O P n ops (⟨some d, op, t, pos, aft, none⟩ :: rest) N L w := Zl3 hd fun a ha => ⟨v, w', h a ha, k⟩

theorem Zvg {ty : Nat} {v : Value} (hs : St w0 ρ Γ w) (hd : Nat.blt d n = true) (hx : ev L x = some v)
  (k : ∀ b w', St w0 ρ (.box b ty v.cells.toList :: Γ) w' → O P n ops rest N ((d, .pointer (some ⟨b, 0, none⟩)) :: L) w') : O P n ops (⟨some d, .box ty x, t, pos, aft, none⟩ :: rest) N L w :=
 Zo7 (w' := w.alloc (.cells v.cells ty)) hd (fun c hc => by simp only [execOp, hc.ev hx, Instr.box, newVar, newRow, newObj]; rfl) (k _ _ (by simpa using hs.box ty v.cells.toList))
theorem Zcj {ty : Nat} {v : Value} (hs : St w0 ρ Γ w) (hd : Nat.blt d n = true) (hx : ev L x = some v) (h1 : v.oneCell' = true)
  (k : ∀ b w', St w0 ρ (.box b ty [v] :: Γ) w' → O P n ops rest N ((d, .pointer (some ⟨b, 0, none⟩)) :: L) w') : O P n ops (⟨some d, .box ty x, t, pos, aft, none⟩ :: rest) N L w :=
 Zvg hs hd hx fun b w' h => k b w' (by
  have hvc : v.cells = #[v] := by cases v <;> first | rfl | cases h1
  rw [hvc] at h; exact h)
theorem Vg {ty : Nat} {cs : List Value} (hs : St w0 ρ Γ w) (hd : Nat.blt d n = true) (hx : ev L x = some (.agg cs.toArray))
  (k : ∀ b w', St w0 ρ (.box b ty cs :: Γ) w' → O P n ops rest N ((d, .pointer (some ⟨b, 0, none⟩)) :: L) w') : O P n ops (⟨some d, .box ty x, t, pos, aft, none⟩ :: rest) N L w :=
 Zvg hs hd hx fun b w' h => k b w' h
def Vp (P : Program) (ty : Nat) : Option (List Value) := (P.info? ty).bind fun i => i.zero.map (·.cells.toList)
theorem Y6 {ty : Nat} {zs : List Value} (hz : Vp P ty = some zs) (hs : St w0 ρ Γ w) (hd : Nat.blt d n = true)
  (k : ∀ b w', St w0 ρ (.box b ty zs :: Γ) w' → O P n ops rest N ((d, .pointer (some ⟨b, 0, none⟩)) :: L) w') : O P n ops (⟨some d, .alloc ty, t, pos, aft, none⟩ :: rest) N L w := by
 obtain ⟨i, hi, hz⟩ := Option.bind_eq_some_iff.1 hz
 obtain ⟨z, hzz, rfl⟩ := Option.map_eq_some_iff.1 hz
 refine Zo7 (w' := w.alloc (.cells z.cells ty)) hd (fun c hc => ?_) (k _ _ (by simpa using hs.box ty z.cells.toList))
 have hz' : i.zero = some z := by assumption
 have hzv : (zeroValue ty).run P w = .ok z w := by simp [zeroValue, typeInfo, hi, hz']
 simp only [execOp, Instr.alloc, newVar, newRow, newObj, bind_pure_comp, Sem.run_map, Sem.run_bind, hzv, Result.andThen, Sem.run]
 rfl
theorem Zex {a : Addr} {v u : Value} (hv : w.cell? a = some u) (hf : w.frozen? a = false) (h1 : v.oneCell' = true) : (store a v).run P w = .ok () (w.setCell a v) := by
 cases v with
 | agg cs => cases h1
 | tuple vs => cases h1
 | _ => simp [store, Sem.run, hv, hf]
theorem Vu {ty b o i T : Nat} {cs : List Value} {v : Value} (hsz : Qm P ty = some 1) (hs : St w0 ρ Γ w) (hi : Γ[i]? = some (.box b T cs)) (ho : Nat.blt o cs.length = true) (hx : ev L x = some (.pointer (some ⟨b, o, none⟩))) (hy : ev L y = some v) (h1 : v.oneCell' = true)
  (k : ∀ w', St w0 ρ (Γ.set i (.box b T (cs.set o v))) w' → O P n ops rest N L w') : O P n ops (⟨none, .store ty x y, t, pos, aft, none⟩ :: rest) N L w := by
 have ho := Nat.le_of_ble_eq_true ho
 have hc : cs[o]? = some cs[o] := List.getElem?_eq_getElem ho
 refine Zko (w' := w.setCell ⟨b, o, none⟩ v) (fun c hcs => ?_) (k _ (hs.boxSet hi v))
 have hcell := hs.boxCell hi hc
 have hfree := hs.boxFree (k := o) hi
 have hvc : v.cells = #[v] := by cases v <;> first | rfl | cases h1
 have hadd : (⟨b, o, none⟩ : Addr).add 0 = ⟨b, o, none⟩ := rfl
 simp only [execOp, hcs.ev hx, hcs.ev hy, Instr.storeAt, Instr.sureAddr, storeVar, Sem.run_bind, Sem.run_pure, Result.andThen, Us hsz, hvc]
 simp [storeCells, hadd, Zex (P := P) hcell hfree h1]
theorem Zrn {α : Type} {l : List α} {i : Nat} {x : α} (h : l[i]? = some x) : l.set i x = l := by
 obtain ⟨hlt, hx⟩ := List.getElem?_eq_some_iff.1 h
 subst hx
 exact List.set_getElem_self hlt
theorem Zfo {P : Program} {w0 : World} {ρ : Hp} {i b T : Nat} : ∀ (Γ : List Q5) (vs : List Value) (j o : Nat) (cs : List Value) (w : World), St w0 ρ Γ w → Γ[i]? = some (.box b T cs) → o + j + vs.length ≤ cs.length → (∀ v ∈ vs, v.oneCell' = true) →
  ∃ w', (storeCells ⟨b, o, none⟩ vs j).run P w = .ok () w' ∧ St w0 ρ (Γ.set i (.box b T (cs.take (o + j) ++ vs ++ cs.drop (o + j + vs.length)))) w'
 | Γ, [], j, o, cs, w, hs, hi, hl, _ => ⟨w, rfl, by
  simp only [List.append_nil, List.length_nil, Nat.add_zero, List.take_append_drop]
  rwa [Zrn hi]⟩
 | Γ, v :: t, j, o, cs, w, hs, hi, hl, h1 => by
  have ho : o + j < cs.length := by simp at hl; omega
  have hc : cs[o + j]? = some cs[o + j] := List.getElem?_eq_getElem ho
  have hcell := hs.boxCell hi hc
  have hfree := hs.boxFree (k := o + j) hi
  have hadd : (⟨b, o, none⟩ : Addr).add j = ⟨b, o + j, none⟩ := Addr.add_lit ..
  have hlt : i < Γ.length := (List.getElem?_eq_some_iff.1 hi).1
  have hs' := hs.boxSet (k := o + j) hi v
  -- the rest, over the turned items
  have key : ∃ w', (storeCells ⟨b, o, none⟩ t (j + 1)).run P (w.setCell ⟨b, o + j, none⟩ v) = .ok () w' ∧ St w0 ρ ((Γ.set i (.box b T (cs.set (o + j) v))).set i (.box b T ((cs.set (o + j) v).take (o + (j + 1)) ++ t ++ (cs.set (o + j) v).drop (o + (j + 1) + t.length)))) w' :=
   Zfo (Γ.set i (.box b T (cs.set (o + j) v))) t (j + 1) o (cs.set (o + j) v) _ hs' (by simp [hlt]) (by simp at hl ⊢; omega) (fun u hu => h1 u (List.mem_cons_of_mem _ hu))
  obtain ⟨w', hr, hs''⟩ := key
  refine ⟨w', by simp [storeCells, hadd, Zex (P := P) hcell hfree (h1 v (List.mem_cons_self ..)), hr], ?_⟩
  rw [List.set_set] at hs''
  have e : (cs.set (o + j) v).take (o + (j + 1)) ++ t ++ (cs.set (o + j) v).drop (o + (j + 1) + t.length) = cs.take (o + j) ++ (v :: t) ++ cs.drop (o + j + (v :: t).length) := by
   rw [List.take_set, List.drop_set_of_lt (by omega), show o + (j + 1) = (o + j) + 1 from by omega, List.take_add_one, hc]
   simp only [Option.toList_some, List.length_cons]
   rw [List.set_append_right _ _ (by simp; omega)]
   have hmin : min (o + j) cs.length = o + j := by omega
   simp [hmin, Nat.add_comm 1 t.length, Nat.add_assoc]
  rwa [e] at hs''
theorem Ye {ty b o i T m : Nat} {cs : List Value} {vs : Array Value} (hsz : Qm P ty = some m) (hs : St w0 ρ Γ w) (hi : Γ[i]? = some (.box b T cs)) (hm : vs.size = m) (ho : Nat.ble (o + m) cs.length = true) (hx : ev L x = some (.pointer (some ⟨b, o, none⟩))) (hy : ev L y = some (.agg vs))
  (h1 : ∀ v ∈ vs.toList, v.oneCell' = true) (k : ∀ w', St w0 ρ (Γ.set i (.box b T (cs.take o ++ vs.toList ++ cs.drop (o + m)))) w' → O P n ops rest N L w') : O P n ops (⟨none, .store ty x y, t, pos, aft, none⟩ :: rest) N L w := by
 obtain ⟨w', hr, hs'⟩ := Zfo (P := P) Γ vs.toList 0 o cs w hs hi (by have := Nat.le_of_ble_eq_true ho; simp; omega) h1
 simp only [Nat.add_zero, Array.length_toList, hm] at hs'
 refine Zko (w' := w') (fun c hcs => ?_) (k _ hs')
 simp only [execOp, hcs.ev hx, hcs.ev hy, Instr.storeAt, Instr.sureAddr, storeVar, Sem.run_bind, Sem.run_pure, Result.andThen, Us hsz, Value.cells, hm]
 simp [hr]
theorem Zuo {ty b o i T : Nat} {cs : List Value} {v : Value} (ha : Xe P ty = some false) (hs : St w0 ρ Γ w) (hi : Γ[i]? = some (.box b T cs)) (hv : cs[o]? = some v) (hx : ev L x = some (.pointer (some ⟨b, o, none⟩))) : Y P n L w (.load ty x) t v :=
 Xp ha hx (hs.boxCell hi hv)
theorem Xk {ty b o i T m : Nat} {cs vs : List Value} (ha : Xe P ty = some true) (hsz : Qm P ty = some m) (hs : St w0 ρ Γ w) (hi : Γ[i]? = some (.box b T cs)) (hv : (cs.drop o).take m = vs) (hl : vs.length = m) (hx : ev L x = some (.pointer (some ⟨b, o, none⟩))) : Y P n L w (.load ty x) t (.agg vs.toArray) :=
 Qv ha hsz hl hx (fun j u hu => hs.boxCell hi (by
  subst hv
  rw [List.getElem?_take] at hu
  split at hu
  ·rw [List.getElem?_drop] at hu; exact hu
  ·cases hu))

theorem Zmj : ∀ (l : List Value) (o k : Nat) (cur : List Value), o + k + l.length ≤ cur.length → (l.zipIdx k).foldl (fun cs p => cs.set (o + p.2) p.1) cur = cur.take (o + k) ++ l ++ cur.drop (o + k + l.length)
 | [], o, k, cur, h => by simp
 | v :: l, o, k, cur, h => by
  have hlt : o + k < cur.length := by simp at h; omega
  rw [List.zipIdx_cons, List.foldl_cons, Zmj l o (k + 1) _ (by simp at h ⊢; omega)]
  rw [List.take_set, List.drop_set_of_lt (by omega), show o + (k + 1) = (o + k) + 1 from by omega, List.take_add_one, List.getElem?_eq_getElem hlt]
  simp only [Option.toList_some, List.length_cons]
  rw [List.set_append_right _ _ (by simp; omega)]
  have hmin : min (o + k) cur.length = o + k := by omega
  simp [hmin, Nat.add_comm 1 l.length, Nat.add_assoc]
theorem Zdy (l : Array Value) (o : Nat) (cur : Array Value) (h : o + l.size ≤ cur.size) : l.zipIdx.foldl (fun cs p => cs.setIfInBounds (o + p.2) p.1) cur = (cur.toList.take o ++ l.toList ++ cur.toList.drop (o + l.size)).toArray := by
 have key : ∀ (ps : List (Value × Nat)) (cur : Array Value), (ps.foldl (fun cs p => cs.setIfInBounds (o + p.2) p.1) cur).toList = ps.foldl (fun cs p => cs.set (o + p.2) p.1) cur.toList := by
  intro ps
  induction ps with
  | nil => intro cur; rfl
  | cons p ps ih => intro cur; rw [List.foldl_cons, List.foldl_cons, ih]; simp
 apply Array.ext'
 rw [← Array.foldl_toList, key]
 have := Zmj l.toList o 0 cur.toList (by simp; omega)
 simpa using this
theorem Zf5 (sz : Nat) : ∀ (vs : List Value) (k : Nat) (cur : Array Value), (∀ v ∈ vs, v.cells.size = sz) → cur.size = (k + vs.length) * sz →
  Instr.fill (fun i => some (i * sz, sz)) cur ((vs.zipIdx k).map fun p => (p.2, p.1)) = some (cur.toList.take (k * sz) ++ vs.flatMap (·.cells.toList)).toArray
 | [], k, cur, _, h => by
  simp only [List.zipIdx_nil, List.map_nil, Instr.fill, List.flatMap_nil, List.append_nil]
  rw [List.take_of_length_le (by simp at h ⊢; omega)]
 | v :: vs, k, cur, hv, h => by
  have hsz := hv v (List.mem_cons_self ..)
  simp only [List.zipIdx_cons, List.map_cons, Instr.fill]
  have hfit : k * sz + v.cells.size ≤ cur.size := by
   rw [h, hsz, List.length_cons, Nat.add_mul, Nat.add_mul]; omega
  have hno : (decide (v.cells.size ≠ sz) || decide (k * sz + v.cells.size > cur.size)) = false := by simp [hsz] at hfit ⊢; omega
  rw [if_neg (by rw [hno]; exact Bool.false_ne_true)]
  rw [Zdy v.cells (k * sz) cur hfit]
  rw [Zf5 sz vs (k + 1) _ (fun u hu => hv u (List.mem_cons_of_mem _ hu)) (by
   simp only [List.size_toArray, List.length_append, List.length_take, List.length_drop, Array.length_toList]
   simp only [List.length_cons] at h
   rw [show k + 1 + vs.length = k + (vs.length + 1) from by omega]
   omega)]
  congr 2
  simp only [List.flatMap_cons]
  rw [show (k + 1) * sz = k * sz + sz from by rw [Nat.add_mul, Nat.one_mul]]
  rw [List.take_append, List.take_append]
  have e1 : (List.take (k * sz) cur.toList).length = k * sz := by simp; omega
  simp [e1, hsz, List.take_take, hfit]
  rw [List.take_of_length_le (by simp [hsz])]
theorem Zhz {sl e sz bytes : Nat} {xs : List Operand} {vs : List Value} {ps : List (Nat × Operand)} {m : Nat} (he : Vn P sl e sz bytes) (hs : St w0 ρ Γ w) (hd : Nat.blt d n = true) (hps : ps = (xs.zipIdx 0).map fun p => (p.2, p.1)) (hml : xs.length = m) (hm : m ≤ 1000) (hsz : sz ≤ 1000)
  (hx : evs L xs = some vs) (hv : ∀ v ∈ vs, v.cells.size = sz)
  (k : ∀ b w', St w0 ρ (.row (.slice (some ⟨b, 0, none⟩) m m) e sz m (vs.flatMap (·.cells.toList)) :: Γ) w' → O P n ops rest N ((d, .slice (some ⟨b, 0, none⟩) m m) :: L) w') :
  O P n ops (⟨some d, .buildSlice sl m ps.toArray, t, pos, aft, none⟩ :: rest) N L w := by
 obtain ⟨j, z, hj, hz, hjs, _, hzs⟩ := he.info
 have evs_len : ∀ {xs : List Operand} {vs : List Value}, evs L xs = some vs → vs.length = xs.length := by
  intro xs
  induction xs with
  | nil => intro vs h; simp [evs] at h; subst h; rfl
  | cons x xs ih =>
   intro vs h
   simp only [evs] at h
   split at h
   ·rename_i v vs' _ h2; simp at h; subst h; simp [ih h2]
   ·cases h
 have hvl : vs.length = m := by rw [evs_len hx, hml]
 have hcs : (vs.flatMap (·.cells.toList)).length = m * sz := by
  rw [← hvl]
  clear hx hvl k
  induction vs with
  | nil => simp
  | cons v vs ih =>
   have h1 := hv v (List.mem_cons_self ..)
   have h2 := ih (fun u hu => hv u (List.mem_cons_of_mem _ hu))
   rw [List.flatMap_cons, List.length_append, h2, List.length_cons, Nat.add_mul]
   simp [h1]; omega
 have hb := hs.rowFull e m sz _ hcs (by simp only [maxLen]; omega)
 refine Zo7 (w' := w.alloc (.cells (vs.flatMap (·.cells.toList)).toArray e)) hd (fun c hc => ?_) (k _ _ hb)
 have hbig : ¬ m * sz > 2 ^ 24 := by
  have := Nat.mul_le_mul hm hsz
  omega
 have hparts : (ps.toArray.map fun p => (p.1, c.eval p.2)).toList = (vs.zipIdx 0).map fun p => (p.2, p.1) := by
  subst hps
  have := hc.evs hx
  rw [← this]
  simp only [List.map_toArray, List.map_map, List.zipIdx_map]
  simp
 have hfill : ∀ (cur : Array Value), cur.size = m * sz → Instr.fill (fun i => some (i * sz, sz)) cur (ps.toArray.map fun p => (p.1, c.eval p.2)).toList = some (vs.flatMap (·.cells.toList)).toArray := by
  intro cur hcur
  rw [hparts, Zf5 sz vs 0 cur hv (by rw [hcur, hvl]; simp)]
  simp
 by_cases h0 : m * sz = 0
 ·have hrun : (Instr.buildSlice sl m (ps.toArray.map fun p => (p.1, c.eval p.2))).run P w = .ok (.slice (some ⟨w.heap.size, 0, none⟩) m m) (w.alloc (.cells (vs.flatMap (·.cells.toList)).toArray e)) := by
   unfold Instr.buildSlice
   simp only [Sem.run_bind, run_underlying he.under, Result.andThen, sizeOf, typeInfo, program, Sem.run, hj, Sem.run_pure, hjs]
   rw [if_neg hbig]
   simp only [Sem.run_bind, if_pos h0, Sem.run_pure, Result.andThen]
   rw [hfill _ (by simp)]
   rfl
  simp only [execOp, bind_pure_comp, Sem.run_map, hrun, Result.andThen]
 ·have hrun : (Instr.buildSlice sl m (ps.toArray.map fun p => (p.1, c.eval p.2))).run P w = .ok (.slice (some ⟨w.heap.size, 0, none⟩) m m) (w.alloc (.cells (vs.flatMap (·.cells.toList)).toArray e)) := by
   unfold Instr.buildSlice
   have hzv : (zeroValue e).run P w = .ok z w := by simp [zeroValue, typeInfo, hj, hz]
   simp only [Sem.run_bind, run_underlying he.under, Result.andThen, sizeOf, typeInfo, program, Sem.run, hj, Sem.run_pure, hjs]
   rw [if_neg hbig]
   simp only [Sem.run_bind, if_neg h0, Sem.run_pure, Result.andThen, hzv, bind_pure_comp, Sem.run_map]
   rw [hfill _ (by simp)]
   rfl
  simp only [execOp, bind_pure_comp, Sem.run_map, hrun, Result.andThen]
theorem Zm6 {sl e sz bytes i m c : Nat} {v u : Value} {cs news : List Value} (he : Vn P sl e sz bytes) (hs : St w0 ρ Γ w) (hi : Γ[i]? = some (.row v e sz m cs)) (hd : Nat.blt d n = true) (hx : ev L x = some v) (hy : ev L y = some u) (hsrc : Src w sz u c news) (hb : m + c ≤ most)
  (k : ∀ v' w', St w0 ρ (Γ.set i (.row v' e sz (m + c) (cs ++ news))) w' → O P n ops rest N ((d, v') :: L) w') :
  O P n ops (⟨some d, .call { callee := .builtin .append, args := #[x, y], argTypes := #[sl, sl] }, t, pos, aft, none⟩ :: rest) N L w := by
 refine Zl3 hd fun a ha => ?_
 obtain ⟨v', w', hr, hs'⟩ := Zob (P := P) hs he (ty := t) hi hsrc hb
 exact ⟨v', w', by simp only [execOp, resolve, invoke, builtin, Sem.run_bind, Sem.run_pure, Result.andThen_ok, List.map_toArray, List.map_cons, List.map_nil, ha.ev hx, ha.ev hy, hr], k v' w' hs'⟩
end
end Go.Proofs.YthoicbafdanmkaaGreatDoor
/- Regions whose order Go leaves open: what only reads is taken first, where the rest keeps what it reads. Own work of this repo. -/
namespace Go.Proofs.YthoicbafdanmkaaGreatDoor
open Go.RowKit

def lst (n : Nat) (done : List Nat) : Array Bool := ((List.range n).map fun i => done.contains i).toArray
theorem Zrp (n : Nat) (done : List Nat) : (lst n done).size = n := by simp [lst]
theorem Zt5 (n : Nat) : lst n [] = Array.replicate n false := by
 apply Array.ext
 ·simp [lst]
 ·intro i h1 h2; simp [lst]
theorem Zlm {n i : Nat} (done : List Nat) : (lst n done).setIfInBounds i true = lst n (i :: done) := by
 apply Array.ext
 ·simp [lst]
 ·intro j h1 h2
  simp only [Array.getElem_setIfInBounds, lst]
  by_cases h : i = j
  ·subst h; simp
  ·simp [h, Ne.symm h]
theorem Zog {n i : Nat} (h : i < n) (done : List Nat) (b : Bool) : (lst n done).getD i b = done.contains i := by
 simp [lst, h]

def YI (P : Program) (ops : Array Oper) (J : World → Prop) (o : Oper) (v : Value) (a : Act) : Prop :=
 (Region.wanted o (yielded ops a.tmps) = true ∧ ∀ w, J w → (execOp a.eval o).run P w = .ok (.value v) w) ∨ (Region.wanted o (yielded ops a.tmps) = false ∧ v = undef)

def Zfp (ops : Array Oper) : Nat → Nat → Nat → Bool
 | 0, _, _ => false
 | k + 1, j, i => ((ops[j]?).map fun o => o.after.any fun e => Region.binds .any e && (Nat.beq e.on i || Zfp ops k e.on i)).getD false
def Zgm (ops : Array Oper) (listed : Array Bool) : Prop := ∀ j o, listed.getD j false = true → ops[j]? = some o → ∀ e ∈ o.after, Region.binds .any e = true → listed.getD e.on false = true
theorem Zfs {ops : Array Oper} {listed : Array Bool} (hc : Zgm ops listed) : ∀ (k j i : Nat), Zfp ops k j i = true → (∀ o, ops[j]? = some o → ∀ e ∈ o.after, Region.binds .any e = true → listed.getD e.on false = true) → listed.getD i false = true
 | 0, _, _, h, _ => by cases h
 | k + 1, j, i, h, hj => by
  simp only [Zfp] at h
  cases ho : ops[j]? with
  | none => rw [ho] at h; cases h
  | some o =>
   rw [ho] at h
   simp only [Option.map_some, Option.getD_some, Array.any_eq_true'] at h
   obtain ⟨e, he, hb⟩ := h
   simp only [Bool.and_eq_true, Bool.or_eq_true] at hb
   have hl := hj o ho e he hb.1
   rcases hb.2 with hb2 | hb2
   ·rw [← Nat.eq_of_beq_eq_true hb2]; exact hl
   ·exact Zfs hc k e.on i hb2 (fun o' ho' e' he' hb' => hc e.on o' hl ho' e' he' hb')
theorem Zgm.ready {ops : Array Oper} {listed : Array Bool} (hc : Zgm ops listed) {i : Nat} (hi : i ∈ Region.ready .any ops listed) : Zgm ops (listed.setIfInBounds i true) := by
 intro j o hj ho e he hb
 by_cases hji : i = j
 ·subst hji
  obtain ⟨_, o', ho', hall⟩ := mem_ready.1 hi
  rw [ho] at ho'; obtain rfl := Option.some.inj ho'
  exact getD_set_true (hall e he hb)
 ·rw [getD_set_ne false hji] at hj
  exact getD_set_true (hc j o hj ho e he hb)
section
variable {P : Program} {ops : Array Oper} {Q : Exit → Act → World → Prop} {md : Region.Mode} {J : World → Prop} {late : List Nat}
theorem YI.of_same {o : Oper} {v : Value} {a a' : Act} (hy : YI P ops J o v a) (he : execOp a'.eval o = execOp a.eval o) (hw : Region.wanted o (yielded ops a'.tmps) = Region.wanted o (yielded ops a.tmps)) : YI P ops J o v a' := by
 unfold YI at *; rw [he, hw]; exact hy
theorem YI.wpOp {i : Nat} {o : Oper} {v : Value} {a : Act} {w : World} (hi : ops[i]? = some o) (hJ : J w) (hy : YI P ops J o v a) {K : Act → World → Prop} (h : K (a.put o.dst v) w) : wpOp P ops Q i K a w := by
 unfold Go.wpOp
 simp only [hi]
 rcases hy with ⟨hw, hv⟩ | ⟨hw, rfl⟩
 ·simp only [hw, if_true, Oper.wp, hv w hJ, Oper.upon]; exact .inl h
 ·simp only [hw, Bool.false_eq_true, if_false]; exact h

theorem Zju {j : Nat} {oi oj : Oper} {v : Value} (hj : ops[j]? = some oj) (hap : oi.apart ops oj = true)
  (hsi : ∀ cs b, oi.op ≠ .select cs b) (hsj : ∀ cs b, oj.op ≠ .select cs b)
  (hQ : ∀ c a w, Q (.panic c) (a.put oi.dst v) w → Q (.panic c) a w) {K : Act → World → Prop} {a : Act} {w : World}
  (hy : YI P ops J oi v a) (h : wpOp P ops Q j K (a.put oi.dst v) w) :
  wpOp P ops Q j (fun a' w' => YI P ops J oi v a' ∧ K (a'.put oi.dst v) w') a w := by
 obtain ⟨h1, h2, h3⟩ := Oper.apart_spec hap
 have keep : ∀ (a : Act), YI P ops J oi v a → ∀ u, YI P ops J oi v (a.put oj.dst u) := fun a hy u =>
  hy.of_same (execOp_put oi hsi a oj.dst u h3) (wanted_put oi a oj.dst u h3)
 have keepD : ∀ d, YI P ops J oi v { a with defers := d :: a.defers } := fun d => hy.of_same rfl rfl
 unfold wpOp at *
 simp only [hj] at *
 rw [wanted_put oj a oi.dst v h1] at h
 split
 ·rename_i hw
  simp only [hw, if_true] at h
  rcases h with h | ⟨hasks, hlets⟩
  case inr => exact .inr ⟨by unfold Oper.asks at *; rw [execOp_put oj hsj a oi.dst v h1] at hasks; exact hasks, hlets⟩
  refine .inl ?_
  unfold Oper.wp at *
  rw [execOp_put oj hsj a oi.dst v h1] at h
  generalize (execOp a.eval oj).run P w = r at *
  cases r with
  | ok n w' =>
   cases n <;> simp only [Oper.upon] at h ⊢
   case value u => exact ⟨keep a hy u, by rw [← Act.put_comm a v u h2]; exact h⟩
   case skip => exact ⟨keep a hy _, by rw [← Act.put_comm a v undef h2]; exact h⟩
   case defer d =>
    refine ⟨keep _ (keepD d) _, ?_⟩
    rw [← Act.put_comm _ v undef h2, ← Act.put_defers]
    exact h
   case enter f args =>
    refine Calls.mono h fun e w'' he => ?_
    cases e with
    | returned u => exact ⟨keep a hy u, by rw [← Act.put_comm a v u h2]; exact he⟩
    | panicked c => exact hQ _ _ _ he
    | outgrown => exact he
   case row row args => exact Rows.mono h fun u w'' he => ⟨keep a hy u, by rw [← Act.put_comm a v u h2]; exact he⟩
  | halt x w' =>
   cases x <;> simp only [Oper.upon] at h ⊢
   case panic u => exact hQ _ _ _ h
 ·rename_i hw
  simp only [hw] at h
  exact ⟨keep a hy _, by rw [← Act.put_comm a v undef h2]; exact h⟩

def Zb0 (P : Program) (ops : Array Oper) (Q : Exit → Act → World → Prop) (late : List Nat) (J : World → Prop) : Nat → Array Bool → Act → World → Prop
 | 0, listed, a, w => Region.ready .any ops listed = [] ∧ Q .normal a w
 | fuel + 1, listed, a, w =>
  (Region.ready .any ops listed = [] → Q .normal a w) ∧
  ∀ i ∈ Region.ready .any ops listed, wpOp P ops Q i (fun a' w' => (late.contains i = false → J w → J w') ∧ Zb0 P ops Q late J fuel (listed.setIfInBounds i true) a' w') a w

theorem Zic : ∀ (fuel : Nat) (listed : Array Bool) (a : Act) (w : World), Zb0 P ops Q late J fuel listed a w → wpAny P .any ops Q fuel listed a w
 | 0, _, _, _, h => h
 | fuel + 1, _, _, _, h => ⟨h.1, fun i hi => wpOp_mono (fun a w hk => Zic fuel _ a w hk.2) (h.2 i hi)⟩

theorem Zkj {i : Nat} {oi : Oper} {v : Value} (hi : ops[i]? = some oi) (hlate : ∀ j ∈ late, Zfp ops ops.size j i = true) (hsel : ∀ (j : Nat) (o : Oper) cs b, ops[j]? = some o → o.op ≠ .select cs b)
  (hQ : ∀ c a w, Q (.panic c) (a.put oi.dst v) w → Q (.panic c) a w) :
  ∀ (fuel : Nat) (listed : Array Bool) (a : Act) (w : World), Zgm ops listed →
   (∀ j oj, ops[j]? = some oj → j ≠ i → listed.getD j true = false → (∀ e ∈ oj.after, Region.binds .any e = true → e.on ≠ i) → oi.apart ops oj = true) →
   i ∈ Region.ready .any ops listed → J w → YI P ops J oi v a →
   Zb0 P ops Q late J fuel (listed.setIfInBounds i true) (a.put oi.dst v) w → Zb0 P ops Q late J (fuel + 1) listed a w := by
 intro fuel
 induction fuel with
 | zero =>
  intro listed a w _ _ hr hJ hy H
  refine ⟨fun h => (by rw [h] at hr; cases hr), fun j hj => ?_⟩
  by_cases hji : j = i
  ·subst hji; exact hy.wpOp hi hJ ⟨fun _ h => h, H⟩
  ·have := ready_mono hj hji
   rw [H.1] at this
   cases this
 | succ fuel ih =>
  intro listed a w hcl hfree hr hJ hy H
  refine ⟨fun h => (by rw [h] at hr; cases hr), fun j hj => ?_⟩
  by_cases hji : j = i
  ·subst hji; exact hy.wpOp hi hJ ⟨fun _ h => h, H⟩
  ·have h1 := H.2 j (ready_mono hj hji)
   obtain ⟨hjun, oj, hoj, hall⟩ := mem_ready.1 hj
   have hiun := (mem_ready.1 hr).1
   have hilt : i < listed.size := by
    rcases Nat.lt_or_ge i listed.size with h' | h'
    ·exact h'
    ·simp [Array.getElem?_eq_none h'] at hiun
   have hiun2 : listed.getD i false = false := by simp [hilt] at hiun ⊢; exact hiun
   have hnot : ∀ e ∈ oj.after, Region.binds .any e = true → e.on ≠ i := fun e he hb heq => by
    have h1 := hall e he hb
    rw [heq, hiun2] at h1; cases h1
   have h2 := Zju hoj (hfree j oj hoj hji hjun hnot) (fun cs b => hsel i oi cs b hi) (fun cs b => hsel j oj cs b hoj) hQ hy h1
   have hfree' : ∀ k ok, ops[k]? = some ok → k ≠ i → (listed.setIfInBounds j true).getD k true = false →
     (∀ e ∈ ok.after, Region.binds .any e = true → e.on ≠ i) → oi.apart ops ok = true := fun k ok hk hki hun hno => by
    refine hfree k ok hk hki ?_ hno
    by_cases hjk : j = k
    ·subst hjk; exact hjun
    ·rw [getD_set_ne true hjk] at hun; exact hun
   -- 'j' could come ahead of 'i': so it is none of the late ones
   have hnl : late.contains j = false := by
    cases hl : late.contains j with
    | false => rfl
    | true =>
     have := Zfs hcl ops.size j i (hlate j (by simpa using hl)) (fun o ho e he hb => by rw [hoj] at ho; obtain rfl := Option.some.inj ho; exact hall e he hb)
     rw [hiun2] at this; cases this
   refine wpOp_mono (fun a' w' h3 => ?_) h2
   obtain ⟨hy', hI, hk⟩ := h3
   rw [Array.setIfInBounds_comm _ _ (Ne.symm hji)] at hk
   exact ⟨hI, ih (listed.setIfInBounds j true) a' w' (hcl.ready hj) hfree' (ready_mono hr (Ne.symm hji)) (hI hnl hJ) hy' hk⟩
theorem Zi4 {i : Nat} {oi : Oper} {v : Value} (hi : ops[i]? = some oi) (hsel : ∀ (j : Nat) (o : Oper) cs b, ops[j]? = some o → o.op ≠ .select cs b)
  (hQ : ∀ c a w, Q (.panic c) (a.put oi.dst v) w → Q (.panic c) a w) :
  ∀ (fuel : Nat) (listed : Array Bool) (a : Act) (w : World), 
   (∀ j oj, ops[j]? = some oj → j ≠ i → listed.getD j true = false → (∀ e ∈ oj.after, Region.binds .any e = true → e.on ≠ i) → oi.apart ops oj = true) →
   i ∈ Region.ready .any ops listed → YI P ops (fun _ => True) oi v a →
   Zb0 P ops Q late J fuel (listed.setIfInBounds i true) (a.put oi.dst v) w → Zb0 P ops Q late J (fuel + 1) listed a w := by
 intro fuel
 induction fuel with
 | zero =>
  intro listed a w _ hr hy H
  refine ⟨fun h => (by rw [h] at hr; cases hr), fun j hj => ?_⟩
  by_cases hji : j = i
  ·subst hji; exact hy.wpOp hi trivial ⟨fun _ h => h, H⟩
  ·have := ready_mono hj hji
   rw [H.1] at this
   cases this
 | succ fuel ih =>
  intro listed a w hfree hr hy H
  refine ⟨fun h => (by rw [h] at hr; cases hr), fun j hj => ?_⟩
  by_cases hji : j = i
  ·subst hji; exact hy.wpOp hi trivial ⟨fun _ h => h, H⟩
  ·have h1 := H.2 j (ready_mono hj hji)
   obtain ⟨hjun, oj, hoj, hall⟩ := mem_ready.1 hj
   have hiun := (mem_ready.1 hr).1
   have hilt : i < listed.size := by
    rcases Nat.lt_or_ge i listed.size with h' | h'
    ·exact h'
    ·simp [Array.getElem?_eq_none h'] at hiun
   have hiun2 : listed.getD i false = false := by simp [hilt] at hiun ⊢; exact hiun
   have hnot : ∀ e ∈ oj.after, Region.binds .any e = true → e.on ≠ i := fun e he hb heq => by
    have h1 := hall e he hb
    rw [heq, hiun2] at h1; cases h1
   have h2 := Zju hoj (hfree j oj hoj hji hjun hnot) (fun cs b => hsel i oi cs b hi) (fun cs b => hsel j oj cs b hoj) hQ hy h1
   have hfree' : ∀ k ok, ops[k]? = some ok → k ≠ i → (listed.setIfInBounds j true).getD k true = false →
     (∀ e ∈ ok.after, Region.binds .any e = true → e.on ≠ i) → oi.apart ops ok = true := fun k ok hk hki hun hno => by
    refine hfree k ok hk hki ?_ hno
    by_cases hjk : j = k
    ·subst hjk; exact hjun
    ·rw [getD_set_ne true hjk] at hun; exact hun
   refine wpOp_mono (fun a' w' h3 => ?_) h2
   obtain ⟨hy', hI, hk⟩ := h3
   rw [Array.setIfInBounds_comm _ _ (Ne.symm hji)] at hk
   exact ⟨hI, ih (listed.setIfInBounds j true) a' w' hfree' (ready_mono hr (Ne.symm hji)) hy' hk⟩
end

section
variable {P : Program} {n : Nat} {N : Nxt} {X : Nat → Nxt} {R : Nxt} {L : Loc} {w : World} {ops : Array Oper} {late : List Nat} {J : World → Prop} {d t : Nat} {pos : String} {aft : Array Edge} {fuel : Nat} {done : List Nat}

def Qo (n : Nat) (N : Nxt) : Exit → Act → World → Prop := fun e a' w' => e = .normal ∧ ∃ L', Sat n L' a' ∧ N L' w'
def OD (P : Program) (n : Nat) (ops : Array Oper) (late : List Nat) (J : World → Prop) (fuel : Nat) (done : List Nat) (N : Nxt) (L : Loc) (w : World) : Prop :=
 ∀ a, Sat n L a → Zb0 P ops (Qo n N) late J fuel (lst ops.size done) a w

theorem Zv0 {id : Nat} {l : List Oper} (late : List Nat) (J : World → Prop) (hm : P.follows .mixedOrders = true) (h : OD P n l.toArray late J l.length [] N L { w with drawn := w.drawn + 1 }) : W P n (.region id l.toArray true) N X R L w := by
 intro a ha
 have h1 := Zic _ _ _ _ (h a ha)
 rw [Zt5] at h1
 refine wp_mono (wp_region_any hm (by simpa using h1)) (fun e a' w' hq => by obtain ⟨rfl, hq⟩ := hq; exact hq)
theorem OD.weak (L' : Loc) (hs : Sub L' L) (h : OD P n ops late J fuel done N L' w) : OD P n ops late J fuel done N L w := fun a ha => h a (ha.weak hs)
theorem Zue (hr : Region.ready .any ops (lst ops.size done) = []) (h : N L w) : OD P n ops late J fuel done N L w := by
 intro a ha
 cases fuel with
 | zero => exact ⟨hr, rfl, L, ha, h⟩
 | succ k => exact ⟨fun _ => ⟨rfl, L, ha, h⟩, fun i hi => by rw [hr] at hi; cases hi⟩

theorem Ze4 {a : Act} (ha : Sat n L a) {j dj : Nat} {b : Bool} (hj : (ops[j]?).bind (·.dst) = some dj) (hl : lk dj L = some (.bool b)) : yielded ops a.tmps j = some b := by
 unfold yielded
 rw [hj]
 have := ha.get dj _ hl
 simp only [Option.bind_some]
 cases hx : a.tmps[dj]? with
 | none => simp [hx, undef] at this
 | some u => simp [hx] at this; subst this; rfl
theorem Zfw {dj : Nat} {b : Bool} (hl : lk dj L = some (.bool b)) (ht : b = true → OD P n ops late J fuel done N ((dj, .bool true) :: L) w) (hf : b = false → OD P n ops late J fuel done N ((dj, .bool false) :: L) w) : OD P n ops late J fuel done N L w := by
 intro a ha
 have key : ∀ c, b = c → Sat n ((dj, .bool c) :: L) a := fun c hc => ⟨ha.size, ha.nod, fun d v hv => by
  simp only [lk] at hv
  cases hb : Nat.beq dj d with
  | true => rw [hb] at hv; simp at hv; subst hv; rw [← Nat.eq_of_beq_eq_true hb, ← hc]; exact ha.get dj _ hl
  | false => rw [hb] at hv; exact ha.get d v hv⟩
 cases b with
 | true => exact ht rfl a (key true rfl)
 | false => exact hf rfl a (key false rfl)
theorem Zav {dj : Nat} {p : Prop} [Decidable p] (hl : lk dj L = some (.bool (decide p))) (ht : p → OD P n ops late J fuel done N ((dj, .bool true) :: L) w) (hf : ¬ p → OD P n ops late J fuel done N ((dj, .bool false) :: L) w) : OD P n ops late J fuel done N L w :=
 Zfw hl (fun h => ht (of_decide_eq_true h)) (fun h => hf (of_decide_eq_false h))
end
end Go.Proofs.YthoicbafdanmkaaGreatDoor
/- Data in memory that never changes, and the operations that read it. Own work of this repo. -/
namespace Go.Proofs.YthoicbafdanmkaaGreatDoor
open Go.RowKit

def InK : IntKind → Int → Prop
 | .i8, x => -128 ≤ x ∧ x ≤ 127
 | .i16, x => -32768 ≤ x ∧ x ≤ 32767
 | .i32, x => -2147483648 ≤ x ∧ x ≤ 2147483647
 | .i64, x => -9223372036854775808 ≤ x ∧ x ≤ 9223372036854775807
 | .u8, x => 0 ≤ x ∧ x ≤ 255
 | .u16, x => 0 ≤ x ∧ x ≤ 65535
 | .u32, x => 0 ≤ x ∧ x ≤ 4294967295
 | .u64, x => 0 ≤ x ∧ x ≤ 18446744073709551615

structure Rep (α : Type) where
 sz : Nat
 R : Hp → List Value → α → Prop
 len : ∀ {ρ cs x}, R ρ cs x → cs.length = sz
 mono : ∀ {ρ ρ' cs x}, Le ρ ρ' → R ρ cs x → R ρ' cs x
 one : ∀ {ρ cs x}, R ρ cs x → ∀ u ∈ cs, u.oneCell' = true

def Rep.int (k : IntKind) : Rep Int := ⟨1, fun _ cs x => cs = [.int k x], fun h => by rw [h]; rfl, fun _ h => h, fun h u hu => by rw [h] at hu; simp at hu; subst hu; rfl⟩
def Rep.bool : Rep Bool := ⟨1, fun _ cs x => cs = [.bool x], fun h => by rw [h]; rfl, fun _ h => h, fun h u hu => by rw [h] at hu; simp at hu; subst hu; rfl⟩
def Rep.str : Rep ByteArray := ⟨1, fun _ cs x => cs = [.string x], fun h => by rw [h]; rfl, fun _ h => h, fun h u hu => by rw [h] at hu; simp at hu; subst hu; rfl⟩

def SlR {α : Type} (r : Rep α) (ρ : Hp) (v : Value) (xs : List α) : Prop :=
 (xs = [] ∧ ∃ a c, v = .slice a 0 c) ∨ ∃ b o c, v = .slice (some ⟨b, o, none⟩) xs.length c ∧ xs.length ≤ c ∧ ∀ i x, xs[i]? = some x → ∃ cs, r.R ρ cs x ∧ ∀ j u, cs[j]? = some u → ρ ⟨b, o + i * r.sz + j, none⟩ = some u
theorem SlR.mono {α : Type} {r : Rep α} {ρ ρ' : Hp} {v : Value} {xs : List α} (hle : Le ρ ρ') (h : SlR r ρ v xs) : SlR r ρ' v xs := by
 rcases h with h | ⟨b, o, c, hv, hc, h⟩
 ·exact .inl h
 ·exact .inr ⟨b, o, c, hv, hc, fun i x hx => by obtain ⟨cs, h1, h2⟩ := h i x hx; exact ⟨cs, r.mono hle h1, fun j u hu => hle _ _ (h2 j u hu)⟩⟩
theorem SlR.shape {α : Type} {r : Rep α} {ρ : Hp} {v : Value} {xs : List α} (h : SlR r ρ v xs) : ∃ a c, v = .slice a xs.length c := by
 rcases h with ⟨rfl, a, c, h⟩ | ⟨b, o, c, hv, _⟩
 ·exact ⟨a, c, h⟩
 ·exact ⟨_, c, hv⟩
theorem SlR.fits {α : Type} {r : Rep α} {ρ : Hp} {v : Value} {xs : List α} (h : SlR r ρ v xs) : ∃ a c, v = .slice a xs.length c ∧ xs.length ≤ c := by
 rcases h with ⟨rfl, a, c, h⟩ | ⟨b, o, c, hv, hc, _⟩
 ·exact ⟨a, c, h, Nat.zero_le _⟩
 ·exact ⟨_, c, hv, hc⟩
theorem SlR.one {α : Type} {r : Rep α} {ρ : Hp} {v : Value} {xs : List α} (h : SlR r ρ v xs) : v.oneCell' = true := by obtain ⟨a, c, rfl⟩ := h.shape; rfl
theorem SlR.cellsL {α : Type} {r : Rep α} {ρ : Hp} {v : Value} {xs : List α} (h : SlR r ρ v xs) : v.cells.toList = [v] := by obtain ⟨a, c, rfl⟩ := h.shape; rfl
theorem SlR.cells {α : Type} {r : Rep α} {ρ : Hp} {v : Value} {xs : List α} (h : SlR r ρ v xs) : v.cells = #[v] := by obtain ⟨a, c, rfl⟩ := h.shape; rfl
def Rep.slice {α : Type} (r : Rep α) : Rep (List α) := ⟨1, fun ρ cs xs => ∃ v, cs = [v] ∧ SlR r ρ v xs, fun h => by obtain ⟨v, h, _⟩ := h; rw [h]; rfl, fun hle h => by obtain ⟨v, h, hv⟩ := h; exact ⟨v, h, hv.mono hle⟩, fun h u hu => by
 obtain ⟨v, h, hv⟩ := h; rw [h] at hu; simp at hu; subst hu; exact hv.one⟩

def CA (ρ : Hp) (b o : Nat) (cs : List Value) : Prop := ∀ j u, cs[j]? = some u → ρ ⟨b, o + j, none⟩ = some u
theorem CA.mono {ρ ρ' : Hp} {b o : Nat} {cs : List Value} (hle : Le ρ ρ') (h : CA ρ b o cs) : CA ρ' b o cs := fun j u hu => hle _ _ (h j u hu)
def At {α : Type} (ρ : Hp) (r : Rep α) (b o : Nat) (x : α) : Prop := ∃ cs, r.R ρ cs x ∧ CA ρ b o cs
theorem At.mono {α : Type} {ρ ρ' : Hp} {r : Rep α} {b o : Nat} {x : α} (hle : Le ρ ρ') (h : At ρ r b o x) : At ρ' r b o x := by
 obtain ⟨cs, h1, h2⟩ := h; exact ⟨cs, r.mono hle h1, fun j u hu => hle _ _ (h2 j u hu)⟩
theorem At.int {ρ : Hp} {k : IntKind} {b o : Nat} {x : Int} (h : At ρ (Rep.int k) b o x) : ρ ⟨b, o, none⟩ = some (.int k x) := by
 obtain ⟨cs, hcs, h2⟩ := h; subst hcs; exact h2 0 _ rfl
theorem At.bool {ρ : Hp} {b o : Nat} {x : Bool} (h : At ρ Rep.bool b o x) : ρ ⟨b, o, none⟩ = some (.bool x) := by
 obtain ⟨cs, hcs, h2⟩ := h; subst hcs; exact h2 0 _ rfl
theorem At.str {ρ : Hp} {b o : Nat} {x : ByteArray} (h : At ρ Rep.str b o x) : ρ ⟨b, o, none⟩ = some (.string x) := by
 obtain ⟨cs, hcs, h2⟩ := h; subst hcs; exact h2 0 _ rfl
theorem At.slice {α : Type} {ρ : Hp} {r : Rep α} {b o : Nat} {xs : List α} (h : At ρ (Rep.slice r) b o xs) : ∃ v, ρ ⟨b, o, none⟩ = some v ∧ SlR r ρ v xs := by
 obtain ⟨cs, ⟨v, hcs, hv⟩, h2⟩ := h; subst hcs; exact ⟨v, h2 0 _ rfl, hv⟩

def rd {α : Type} [Inhabited α] (xs : List α) (i : Int) : α := xs.getD i.toNat default
theorem Zlr {α : Type} [Inhabited α] {xs : List α} {i : Int} (h0 : 0 ≤ i) (h1 : i < (xs.length : Int)) : xs[i.toNat]? = some (rd xs i) := by
 have : i.toNat < xs.length := by omega
 simp [rd, this]

section
variable {P : Program} {n : Nat} {N : Nxt} {L : Loc} {w w0 : World} {ops : Array Oper} {rest : List Oper} {d t : Nat} {pos : String} {aft : Array Edge} {ρ : Hp} {Γ : List Q5} {x y : Operand}

theorem Zoo {sl e : Nat} {a : Option Addr} {m c : Nat} (hu : P.underlying sl = some (.slice e)) (hx : ev L x = some (.slice a m c)) : Y P n L w (.call { callee := .builtin .len, args := #[x], argTypes := #[sl] }) t (.int .i64 m) :=
 fun z hz _ _ _ _ => by simp [execOp, resolve, invoke, builtin, hz.ev hx, Builtin.len_, run_underlying hu, goInt]
theorem Yv {α : Type} {r : Rep α} {sl e : Nat} {v : Value} {xs : List α} (hu : P.underlying sl = some (.slice e)) (h : SlR r ρ v xs) (hx : ev L x = some v) : Y P n L w (.call { callee := .builtin .len, args := #[x], argTypes := #[sl] }) t (.int .i64 xs.length) := by
 obtain ⟨a, c, rfl⟩ := h.shape; exact Zoo hu hx
theorem V8 {sl e i sz m : Nat} {v : Value} {cs : List Value} (hu : P.underlying sl = some (.slice e)) (hs : St w0 ρ Γ w) (hi : Γ[i]? = some (.row v e sz m cs)) (hx : ev L x = some v) : Y P n L w (.call { callee := .builtin .len, args := #[x], argTypes := #[sl] }) t (.int .i64 m) := by
 have hok := hs.ok _ (List.mem_of_getElem? hi)
 rcases hok.2 with ⟨rfl, hm⟩ | ⟨g, cap, cur, rfl, _⟩
 ·subst hm; exact Zoo hu hx
 ·exact Zoo hu hx
theorem Zd0 {sl : Nat} {s : ByteArray} (hu : P.underlying sl = some .string) (hx : ev L x = some (.string s)) : Y P n L w (.call { callee := .builtin .len, args := #[x], argTypes := #[sl] }) t (.int .i64 s.size) :=
 fun z hz _ _ _ _ => by simp [execOp, resolve, invoke, builtin, hz.ev hx, Builtin.len_, run_underlying hu, goInt]
theorem Zvv {sl e sz bytes b o m c : Nat} {k : IntKind} {i : Int} (he : Vn P sl e sz bytes) (hx : ev L x = some (.slice (some ⟨b, o, none⟩) m c)) (hy : ev L y = some (.int k i)) (h0 : 0 ≤ i) (h1 : i < (m : Int)) : Y P n L w (.indexAddr sl x y) t (.pointer (some ⟨b, o + i.toNat * sz, none⟩)) := by
 obtain ⟨j, z, hj, _, hsz, _, _⟩ := he.info
 intro a ha _ _ _ _
 have hsize : (sizeOf e).run P w = .ok sz w := by simp [sizeOf, typeInfo, hj, hsz]
 simp only [execOp, Instr.indexAt, ha.ev hx, ha.ev hy, asIntOf, bind_pure_comp, Sem.run_map, Sem.run_bind, Sem.run_pure, Result.andThen, run_underlying he.under]
 rw [if_pos ⟨h0, h1⟩]
 simp only [Sem.run_bind, Sem.run_map, hsize, Result.andThen, Addr.add_lit]
theorem SlR.ix {α : Type} [Inhabited α] {r : Rep α} {sl e bytes : Nat} {v : Value} {xs : List α} {i : Int} (h : SlR r ρ v xs) (he : Vn P sl e r.sz bytes) (h0 : 0 ≤ i) (h1 : i < (xs.length : Int)) :
  ∃ b o, At ρ r b o (rd xs i) ∧ ∀ {n : Nat} {L : Loc} {w : World} {x y : Operand} {k : IntKind} {t : TypeId}, ev L x = some v → ev L y = some (.int k i) → Y P n L w (.indexAddr sl x y) t (.pointer (some ⟨b, o, none⟩)) := by
 rcases h with ⟨rfl, _⟩ | ⟨b, o, c, rfl, _, h⟩
 ·simp at h1; omega
 ·obtain ⟨cs, h2, h3⟩ := h _ _ (Zlr h0 h1)
  exact ⟨b, o + i.toNat * r.sz, ⟨cs, h2, h3⟩, fun hx hy => Zvv he hx hy h0 h1⟩
theorem Vm {sl e sz bytes j m : Nat} {v : Value} {cs : List Value} {k : IntKind} {i : Int} {g : Nat} (he : Vn P sl e sz bytes) (hs : St w0 ρ Γ w) (hi : Γ[j]? = some (.row v e sz m cs)) (hg : v.ownBlock = some g) (hx : ev L x = some v) (hy : ev L y = some (.int k i)) (h0 : 0 ≤ i) (h1 : i < (m : Int)) :
  Y P n L w (.indexAddr sl x y) t (.pointer (some ⟨g, i.toNat * sz, none⟩)) := by
 have hok := hs.ok _ (List.mem_of_getElem? hi)
 rcases hok.2 with ⟨rfl, hm⟩ | ⟨g', cap, cur, rfl, _⟩
 ·cases hg
 ·simp only [Value.ownBlock, Option.some.injEq] at hg
  subst hg
  have := Zvv (n := n) (L := L) (w := w) (t := t) he hx hy h0 h1
  simpa using this
theorem St.rowBlock (hs : St w0 ρ Γ w) {j e sz m : Nat} {v : Value} {cs : List Value} (hi : Γ[j]? = some (.row v e sz m cs)) (hm : 0 < m) : ∃ g, v.ownBlock = some g := by
 have hok := hs.ok _ (List.mem_of_getElem? hi)
 rcases hok.2 with ⟨rfl, h0⟩ | ⟨g', cap, cur, rfl, _⟩
 ·omega
 ·exact ⟨g', rfl⟩
theorem St.rowCell (hs : St w0 ρ Γ w) {j e sz m g k : Nat} {v u : Value} {cs : List Value} (hi : Γ[j]? = some (.row v e sz m cs)) (hg : v.ownBlock = some g) (hu : cs[k]? = some u) : w.cell? ⟨g, k, none⟩ = some u := by
 have := (hs.ok _ (List.mem_of_getElem? hi) : w.ownsRow 0 e sz v m cs).cells hg k u hu
 simpa [Addr.add_lit] using this
theorem St.rowSet (hs : St w0 ρ Γ w) {j e sz m g k : Nat} {v u : Value} {cs : List Value} (hi : Γ[j]? = some (.row v e sz m cs)) (hg : v.ownBlock = some g) (hk : k < cs.length) : St w0 ρ (Γ.set j (.row v e sz m (cs.set k u))) (w.setCell ⟨g, k, none⟩ u) := by
 have hok : w.ownsRow 0 e sz v m cs := hs.ok _ (List.mem_of_getElem? hi)
 have hbase := hs.base g (List.mem_filterMap.2 ⟨_, List.mem_of_getElem? hi, hg⟩)
 refine hs.turn hi ((Below.refl _ _).setCell (p := ⟨g, k, none⟩) hbase u) (fun c _ hc => Below.heap_setCell _ _ _ _ (fun e => hc (by rw [e]; exact hg))) ?_ (.inl rfl)
 refine ⟨by simp [hok.1], ?_⟩
 rcases hok.2 with ⟨rfl, hm⟩ | ⟨g', cap, cur, rfl, h0, hgg, hnc, hcm, hcs, htk⟩
 ·cases hg
 ·simp only [Value.ownBlock, Option.some.injEq] at hg
  subst hg
  refine .inr ⟨g', cap, cur.setIfInBounds k u, rfl, h0, ?_, hnc, hcm, by simp [hcs], ?_⟩
  ·simp [World.setCell, Array.getElem?_modify, hgg]
  ·rw [Array.toList_setIfInBounds, List.take_set, htk]
theorem Zet {ty j e sz m g k : Nat} {v u : Value} {cs : List Value} (hsz : Qm P ty = some 1) (hs : St w0 ρ Γ w) (hi : Γ[j]? = some (.row v e sz m cs)) (hg : v.ownBlock = some g) (hk : k < cs.length) (hx : ev L x = some (.pointer (some ⟨g, k, none⟩))) (hy : ev L y = some u) (h1 : u.oneCell' = true)
  (hK : ∀ w', St w0 ρ (Γ.set j (.row v e sz m (cs.set k u))) w' → O P n ops rest N L w') : O P n ops (⟨none, .store ty x y, t, pos, aft, none⟩ :: rest) N L w := by
 have hc : cs[k]? = some cs[k] := List.getElem?_eq_getElem hk
 refine Zko (w' := w.setCell ⟨g, k, none⟩ u) (fun c hcs => ?_) (hK _ (hs.rowSet hi hg hk))
 have hcell := hs.rowCell hi hg hc
 have hok : w.ownsRow 0 e sz v m cs := hs.ok _ (List.mem_of_getElem? hi)
 have hfree : w.frozen? ⟨g, k, none⟩ = false := by
  rcases hok.2 with ⟨rfl, hm⟩ | ⟨g', cap, cur, rfl, h0, hgg, _⟩
  ·cases hg
  ·simp only [Value.ownBlock, Option.some.injEq] at hg
   subst hg
   simp [World.frozen?, hgg]
 have hvc : u.cells = #[u] := by cases u <;> first | rfl | cases h1
 have hadd : (⟨g, k, none⟩ : Addr).add 0 = ⟨g, k, none⟩ := rfl
 simp only [execOp, hcs.ev hx, hcs.ev hy, Instr.storeAt, Instr.sureAddr, storeVar, Sem.run_bind, Sem.run_pure, Result.andThen, Us hsz, hvc]
 simp [storeCells, hadd, Zex (P := P) hcell hfree h1]

def Hp.with (ρ : Hp) (g : Nat) (w : World) : Hp := fun a => if a.block = g then seen w a else ρ a
theorem St.freeze (hs : St w0 ρ Γ w) {j : Nat} {it : Q5} {g : Nat} (hi : Γ[j]? = some it) (hg : it.blk = some g) : St w0 (ρ.with g w) (Γ.eraseIdx j) w ∧ Le ρ (ρ.with g w) := by
 have hsub : (Γ.eraseIdx j).Sublist Γ := List.eraseIdx_sublist ..
 have h1 := hs.sub hsub
 have hmem : g ∈ Γ.filterMap Q5.blk := List.mem_filterMap.2 ⟨it, List.mem_of_getElem? hi, hg⟩
 have hnot : g ∉ (Γ.eraseIdx j).filterMap Q5.blk := by
  intro hm
  obtain ⟨x, hx, hxb⟩ := List.mem_filterMap.1 hm
  obtain ⟨k, hk⟩ := List.getElem?_of_mem hx
  rw [List.getElem?_eraseIdx] at hk
  split at hk
  ·rename_i hlt
   have := Zhx hs.nodup hi hg k x hk hxb; omega
  ·have := Zhx hs.nodup hi hg (k + 1) x hk hxb; omega
 have hle : Le ρ (ρ.with g w) := fun a v ha => by
  unfold Hp.with
  rw [if_neg (fun e => hs.clean a v ha (by rw [e]; exact hmem))]
  exact ha
 refine ⟨⟨h1.below, fun a v ha => ?_, h1.ok, h1.nodup, h1.base, fun a v ha hm => ?_⟩, hle⟩
 ·unfold Hp.with at ha
  split at ha
  ·exact ha
  ·exact hs.sees a v ha
 ·unfold Hp.with at ha
  split at ha
  ·rename_i e; rw [e] at hm; exact hnot hm
  ·exact h1.clean a v ha hm
theorem St.rowDone {α : Type} (hs : St w0 ρ Γ w) (r : Rep α) {j e m : Nat} {v : Value} {cs : List Value} {xs : List α} (hi : Γ[j]? = some (.row v e r.sz m cs)) (hm : m = xs.length)
  (hel : ∀ i x, xs[i]? = some x → ∃ c, r.R ρ c x ∧ ∀ k u, c[k]? = some u → cs[i * r.sz + k]? = some u) : ∃ ρ', St w0 ρ' (Γ.eraseIdx j) w ∧ Le ρ ρ' ∧ SlR r ρ' v xs := by
 have hok : w.ownsRow 0 e r.sz v m cs := hs.ok _ (List.mem_of_getElem? hi)
 cases hg : v.ownBlock with
 | none =>
  rcases hok.2 with ⟨rfl, h0⟩ | ⟨g, cap, cur, rfl, _⟩
  ·refine ⟨ρ, hs.sub (List.eraseIdx_sublist ..), Le.rfl' ρ, .inl ⟨?_, none, 0, rfl⟩⟩
   subst h0; exact List.eq_nil_of_length_eq_zero hm.symm
  ·cases hg
 | some g =>
  obtain ⟨h1, h2⟩ := hs.freeze hi hg
  refine ⟨_, h1, h2, ?_⟩
  rcases hok.2 with ⟨rfl, h0⟩ | ⟨g', cap, cur, rfl, _, _, hnc, _⟩
  ·cases hg
  ·simp only [Value.ownBlock, Option.some.injEq] at hg
   subst hg
   refine .inr ⟨g', 0, cap, by rw [hm], by omega, fun i x hx => ?_⟩
   obtain ⟨c, h3, h4⟩ := hel i x hx
   refine ⟨c, r.mono h2 h3, fun k u hu => ?_⟩
   have := hs.rowCell (g := g') hi rfl (h4 k u hu)
   unfold Hp.with
   simp only [if_true, Nat.zero_add]
   exact this
def Zm {α : Type} (r : Rep α) (ρ : Hp) (cs : List Value) (xs : List α) : Prop :=
 cs.length = xs.length * r.sz ∧ ∀ i x, xs[i]? = some x → ∃ c, r.R ρ c x ∧ ∀ k u, c[k]? = some u → cs[i * r.sz + k]? = some u
theorem Zm.mono {α : Type} {r : Rep α} {ρ ρ' : Hp} {cs : List Value} {xs : List α} (hle : Le ρ ρ') (h : Zm r ρ cs xs) : Zm r ρ' cs xs :=
 ⟨h.1, fun i x hx => by obtain ⟨c, h1, h2⟩ := h.2 i x hx; exact ⟨c, r.mono hle h1, h2⟩⟩
theorem Zm.nil {α : Type} (r : Rep α) (ρ : Hp) : Zm r ρ [] [] := ⟨by simp, fun i x hx => by simp at hx⟩
theorem Zm.one' {α : Type} {r : Rep α} {ρ : Hp} {c : List Value} {x : α} (h : r.R ρ c x) : Zm r ρ c [x] :=
 ⟨by rw [r.len h]; simp, fun i y hy => by
  cases i with
  | zero => simp at hy; subst hy; exact ⟨c, h, fun k u hu => by simpa using hu⟩
  | succ i => simp at hy⟩
theorem Zm.append {α : Type} {r : Rep α} {ρ : Hp} {cs ds : List Value} {xs ys : List α} (h : Zm r ρ cs xs) (g : Zm r ρ ds ys) : Zm r ρ (cs ++ ds) (xs ++ ys) := by
 refine ⟨by simp [h.1, g.1, Nat.add_mul], fun i x hx => ?_⟩
 rw [List.getElem?_append] at hx
 split at hx
 ·obtain ⟨c, h1, h2⟩ := h.2 i x hx
  refine ⟨c, h1, fun k u hu => ?_⟩
  have := h2 k u hu
  rw [List.getElem?_append_left (List.getElem?_eq_some_iff.1 this).1]
  exact this
 ·obtain ⟨c, h1, h2⟩ := g.2 _ x hx
  refine ⟨c, h1, fun k u hu => ?_⟩
  have := h2 k u hu
  have hge : xs.length ≤ i := by omega
  have e : i * r.sz + k = cs.length + ((i - xs.length) * r.sz + k) := by
   rw [h.1, Nat.sub_mul]
   have := Nat.mul_le_mul_right r.sz hge
   omega
  rw [e, List.getElem?_append_right (by omega), Nat.add_sub_cancel_left]
  exact this
theorem Zm.cons {α : Type} {r : Rep α} {ρ : Hp} {c ds : List Value} {x : α} {ys : List α} (h : r.R ρ c x) (g : Zm r ρ ds ys) : Zm r ρ (c ++ ds) (x :: ys) := (Zm.one' h).append g
theorem Zm.ones {α : Type} {r : Rep α} {ρ : Hp} {cs : List Value} {xs : List α} (h : Zm r ρ cs xs) : ∀ u ∈ cs, u.oneCell' = true := by
 intro u hu
 obtain ⟨p, hp⟩ := List.getElem?_of_mem hu
 have hlt : p < xs.length * r.sz := by rw [← h.1]; exact (List.getElem?_eq_some_iff.1 hp).1
 have hpos : 0 < r.sz := by
  rcases Nat.eq_zero_or_pos r.sz with e | e
  ·rw [e] at hlt; omega
  ·exact e
 have hi : p / r.sz < xs.length := (Nat.div_lt_iff_lt_mul hpos).2 hlt
 obtain ⟨c, h1, h2⟩ := h.2 (p / r.sz) _ (List.getElem?_eq_getElem hi)
 have hk : p % r.sz < c.length := by rw [r.len h1]; exact Nat.mod_lt _ hpos
 have := h2 (p % r.sz) _ (List.getElem?_eq_getElem hk)
 rw [Nat.div_add_mod' p r.sz, hp] at this
 obtain rfl := Option.some.inj this
 exact r.one h1 _ (List.getElem_mem hk)
theorem Zm.at {α : Type} [Inhabited α] {r : Rep α} {ρ : Hp} {cs : List Value} {xs : List α} (h : Zm r ρ cs xs) {i : Int} (h0 : 0 ≤ i) (h1 : i < (xs.length : Int)) : ∃ c, r.R ρ c (rd xs i) ∧ ∀ k u, c[k]? = some u → cs[i.toNat * r.sz + k]? = some u := h.2 _ _ (Zlr h0 h1)
theorem St.rowEnd {α : Type} {r : Rep α} (hs : St w0 ρ Γ w) {j e : Nat} {v : Value} {cs : List Value} {xs : List α} (hr : Zm r ρ cs xs) (hi : Γ[j]? = some (.row v e r.sz xs.length cs)) : ∃ ρ', Le ρ ρ' ∧ St w0 ρ' (Γ.eraseIdx j) w ∧ SlR r ρ' v xs := by
 obtain ⟨ρ', h1, h2, h3⟩ := hs.rowDone r hi rfl hr.2
 exact ⟨ρ', h2, h1, h3⟩
theorem Src.row (hs : St w0 ρ Γ w) {j e sz m : Nat} {v : Value} {cs : List Value} (hi : Γ[j]? = some (.row v e sz m cs)) (h1 : ∀ u ∈ cs, u.oneCell' = true) : Src w sz v m cs := by
 have hok : w.ownsRow 0 e sz v m cs := hs.ok _ (List.mem_of_getElem? hi)
 refine ⟨?_, hok.1, h1⟩
 rcases hok.2 with ⟨rfl, h0⟩ | ⟨g, cap, cur, rfl, _⟩
 ·exact ⟨none, 0, by rw [h0], fun _ => h0, fun ad h => by cases h⟩
 ·refine ⟨_, cap, rfl, fun h => (by cases h), fun ad had k u hu => ?_⟩
  obtain rfl := Option.some.inj had
  exact hok.cells rfl k u hu
theorem Src.nil (sz : Nat) : Src w sz (.slice none 0 0) 0 [] := ⟨⟨none, 0, rfl, fun _ => rfl, fun _ h => by cases h⟩, by simp, fun _ h => by cases h⟩
theorem Src.sl {α : Type} {r : Rep α} {v : Value} {xs : List α} (hs : St w0 ρ Γ w) (h : SlR r ρ v xs) : ∃ cs, Src w r.sz v xs.length cs ∧ Zm r ρ cs xs := by
 rcases h with ⟨rfl, a, c, rfl⟩ | ⟨b, o, c, rfl, _, h⟩
 ·exact ⟨[], ⟨⟨a, c, rfl, fun _ => rfl, fun ad _ j u hu => by simp at hu⟩, by simp, fun u hu => by cases hu⟩, Zm.nil r ρ⟩
 · -- element by element
  have key : ∀ (m : Nat), m ≤ xs.length → ∃ cs, Zm r ρ cs (xs.take m) ∧ ∀ j u, cs[j]? = some u → ρ ⟨b, o + j, none⟩ = some u := by
   intro m
   induction m with
   | zero => intro _; exact ⟨[], by simpa using Zm.nil r ρ, fun j u hu => by simp at hu⟩
   | succ m ih =>
    intro hm
    obtain ⟨cs, h1, h2⟩ := ih (by omega)
    have hlt : m < xs.length := by omega
    obtain ⟨c, h3, h4⟩ := h m _ (List.getElem?_eq_getElem hlt)
    refine ⟨cs ++ c, ?_, fun j u hu => ?_⟩
    ·rw [List.take_add_one, List.getElem?_eq_getElem hlt]
     exact h1.append (Zm.one' h3)
    ·rw [List.getElem?_append] at hu
     split at hu
     ·exact h2 j u hu
     ·have hl : cs.length = m * r.sz := by rw [h1.1, List.length_take, Nat.min_eq_left (by omega)]
      have := h4 _ u hu
      rw [hl] at this
      rw [show o + j = o + m * r.sz + (j - m * r.sz) from by omega]
      exact this
  obtain ⟨cs, h1, h2⟩ := key xs.length (Nat.le_refl _)
  rw [List.take_length] at h1
  refine ⟨cs, ⟨⟨_, c, rfl, fun h => (by cases h), fun ad had j u hu => ?_⟩, h1.1, h1.ones⟩, h1⟩
  obtain rfl := Option.some.inj had
  rw [Addr.add_lit]
  exact hs.see (h2 j u hu)
theorem Qt {α : Type} {r : Rep α} {sl e bytes i : Nat} {v u : Value} {cs news : List Value} {xs ys : List α} (he : Vn P sl e r.sz bytes) (hs : St w0 ρ Γ w) (hi : Γ[i]? = some (.row v e r.sz xs.length cs)) (hr : Zm r ρ cs xs)
  (hd : Nat.blt d n = true) (hx : ev L x = some v) (hy : ev L y = some u) (hsrc : Src w r.sz u ys.length news) (hn : Zm r ρ news ys) (hb : xs.length + ys.length ≤ most)
  (k : ∀ v' cs' w', Zm r ρ cs' (xs ++ ys) → St w0 ρ (Γ.set i (.row v' e r.sz (xs ++ ys).length cs')) w' → O P n ops rest N ((d, v') :: L) w') :
  O P n ops (⟨some d, .call { callee := .builtin .append, args := #[x, y], argTypes := #[sl, sl] }, t, pos, aft, none⟩ :: rest) N L w :=
 Zm6 he hs hi hd hx hy hsrc hb fun v' w' h => k v' _ w' (hr.append hn) (by rw [List.length_append]; exact h)
theorem Src.lit {α : Type} {r : Rep α} (hs : St w0 ρ Γ w) {j e : Nat} {v : Value} {cs : List Value} {ys : List α} (hi : Γ[j]? = some (.row v e r.sz ys.length cs)) (hr : Zm r ρ cs ys) : Src w r.sz v ys.length cs := Src.row hs hi hr.ones
def sub {α : Type} (xs : List α) (lo hi : Int) : List α := (xs.take hi.toNat).drop lo.toNat
theorem Zat {v : Value} {k : IntKind} {i : Int} {y : Nat} {c : BoundsCode} (hv : v = .int k i) (h0 : 0 ≤ i) (h1 : i ≤ (y : Int)) : (Instr.sliceBound v y c).run P w = .ok i.toNat w := by
 subst hv
 simp only [Instr.sliceBound, asIntOf, Sem.run_bind, Sem.run_pure, Result.andThen, if_pos (And.intro h0 h1)]
theorem SlR.part {α : Type} {r : Rep α} {v : Value} {xs : List α} {lo hi : Int} (h : SlR r ρ v xs) (h0 : 0 ≤ lo) (h1 : lo ≤ hi) (h2 : hi ≤ (xs.length : Int)) {a : Option Addr} {m c : Nat} (hv : v = .slice a m c) (hm : hi ≤ (m : Int)) (hmc : m ≤ c) :
  SlR r ρ (.slice (if c = lo.toNat then a else a.map (·.add (lo.toNat * r.sz))) (hi.toNat - lo.toNat) (c - lo.toNat)) (sub xs lo hi) := by
 have hlen : (sub xs lo hi).length = hi.toNat - lo.toNat := by simp [sub]; omega
 by_cases he : hi.toNat - lo.toNat = 0
 ·left
  refine ⟨List.eq_nil_of_length_eq_zero (by rw [hlen, he]), ?_⟩
  rw [he]; exact ⟨_, _, rfl⟩
 ·rcases h with ⟨rfl, _⟩ | ⟨b, o, c', hv', _, hx⟩
  ·simp at h2; omega
  ·rw [hv'] at hv
   simp only [Value.slice.injEq] at hv
   obtain ⟨rfl, hml, rfl⟩ := hv
   have hne : ¬ c' = lo.toNat := by omega
   right
   refine ⟨b, o + lo.toNat * r.sz, c' - lo.toNat, ?_, by rw [hlen]; omega, fun i x hi' => ?_⟩
   ·rw [if_neg hne, hlen]; simp [Addr.add_lit]
   ·have hi2 : xs[lo.toNat + i]? = some x := by
     simp only [sub, List.getElem?_drop] at hi'
     rw [List.getElem?_take] at hi'
     split at hi'
     ·exact hi'
     ·cases hi'
    obtain ⟨cs, h3, h4⟩ := hx _ _ hi2
    refine ⟨cs, h3, fun j u hu => ?_⟩
    have := h4 j u hu
    rw [Nat.add_mul] at this
    rw [show o + lo.toNat * r.sz + i * r.sz + j = o + (lo.toNat * r.sz + i * r.sz) + j from by omega]
    exact this
theorem Zfj {sl e sz bytes : Nat} {a : Option Addr} {m c : Nat} {lo hi : Option Operand} {l h : Int} (he : Vn P sl e sz bytes) (hx : ev L x = some (.slice a m c)) (hl : (lo = none ∧ l = 0) ∨ ∃ z k, lo = some z ∧ ev L z = some (.int k l)) (hh : (hi = none ∧ h = m) ∨ ∃ z k, hi = some z ∧ ev L z = some (.int k h))
  (h0 : 0 ≤ l) (h1 : l ≤ h) (h2 : h ≤ (m : Int)) (hmc : m ≤ c) : Y P n L w (.slice sl x lo hi none) t (.slice (if c = l.toNat then a else a.map (·.add (l.toNat * sz))) (h.toNat - l.toNat) (c - l.toNat)) := by
 obtain ⟨j, z, hj, _, hsz, _, _⟩ := he.info
 intro q hq _ _ _ _
 have hsize : (sizeOf e).run P w = .ok sz w := by simp [sizeOf, typeInfo, hj, hsz]
 have hb : (Instr.sliceBounds true m c (lo.map q.eval) (hi.map q.eval) none).run P w = .ok (l.toNat, h.toNat, c) w := by
  rcases hl with ⟨rfl, rfl⟩ | ⟨zl, kl, rfl, hzl⟩ <;> rcases hh with ⟨rfl, rfl⟩ | ⟨zh, kh, rfl, hzh⟩
  ·simp [Instr.sliceBounds]
  ·have e1 := Zat (P := P) (w := w) (c := .sliceAcap) (hq.ev hzh) (by omega) (show h ≤ (c : Int) by omega)
   simp [Instr.sliceBounds, e1]
  ·have e1 := Zat (P := P) (w := w) (c := .sliceB) (hq.ev hzl) h0 h1
   simp [Instr.sliceBounds, e1]
  ·have e1 := Zat (P := P) (w := w) (c := .sliceAcap) (hq.ev hzh) (by omega) (show h ≤ (c : Int) by omega)
   have e2 := Zat (P := P) (w := w) (c := .sliceB) (hq.ev hzl) h0 (show l ≤ (h.toNat : Int) by omega)
   simp [Instr.sliceBounds, e1, e2]
 simp [execOp, Instr.sliceAt, Instr.slice, hq.ev hx, run_underlying he.under, hb, hsize]
theorem SlR.cut {α : Type} {r : Rep α} {v : Value} {xs : List α} {sl e bytes : Nat} (f : SlR r ρ v xs) (he : Vn P sl e r.sz bytes) {l h : Int} (h0 : 0 ≤ l) (h1 : l ≤ h) (h2 : h ≤ (xs.length : Int)) :
  ∃ v', SlR r ρ v' (sub xs l h) ∧ ∀ {n : Nat} {L : Loc} {w : World} {x : Operand} {t : TypeId} {lo hi : Option Operand}, ev L x = some v → ((lo = none ∧ l = 0) ∨ ∃ z k, lo = some z ∧ ev L z = some (.int k l)) → ((hi = none ∧ h = (xs.length : Int)) ∨ ∃ z k, hi = some z ∧ ev L z = some (.int k h)) → Y P n L w (.slice sl x lo hi none) t v' := by
 obtain ⟨a, c, rfl, hc⟩ := f.fits
 exact ⟨_, f.part h0 h1 h2 rfl h2 hc, fun hx hl hh => Zfj he hx hl hh h0 h1 h2 hc⟩
theorem Yj : ∀ v ∈ ([] : List Value), v.oneCell' = true := fun _ h => by cases h
theorem Zb {a : Value} {l : List Value} (h : a.oneCell' = true) (hl : ∀ v ∈ l, v.oneCell' = true) : ∀ v ∈ a :: l, v.oneCell' = true := fun v hv => by
 rcases List.mem_cons.1 hv with rfl | hv
 ·exact h
 ·exact hl v hv
theorem Kb {s : Nat} : ∀ v ∈ ([] : List Value), v.cells.size = s := fun _ h => by cases h
theorem Yc {a : Value} {s : Nat} {l : List Value} (h : a.cells.size = s) (hl : ∀ v ∈ l, v.cells.size = s) : ∀ v ∈ a :: l, v.cells.size = s := fun v hv => by
 rcases List.mem_cons.1 hv with rfl | hv
 ·exact h
 ·exact hl v hv
theorem bnd {α β : Type} {o : Option α} {f : α → Option β} {b : β} (h : o.bind f = some b) : ∃ a, o = some a ∧ f a = some b := Option.bind_eq_some_iff.1 h
end
end Go.Proofs.YthoicbafdanmkaaGreatDoor
/- What the generator's texts use besides. Own work of this repo. -/
namespace Go.Proofs.YthoicbafdanmkaaGreatDoor
open Go.RowKit

def K0 : Nat := 1180591620717411303424
theorem Sub.nil {L : Loc} : Sub [] L := trivial
theorem Sub.cons {L t : Loc} {d : Nat} {v : Value} (h : Go.Proofs.YthoicbafdanmkaaGreatDoor.lk d L = some v) (ht : Sub t L) : Sub ((d, v) :: t) L := ⟨h, ht⟩

section
variable {P : Program} {n : Nat} {N : Nxt} {X : Nat → Nxt} {R : Nxt} {L : Loc} {w w0 : World} {ops : Array Oper} {rest : List Oper} {d t : Nat} {pos : String} {aft : Array Edge} {ρ : Hp} {Γ : List Q5} {x y : Operand}

theorem Yu {x y : Code} (h : ∀ N' : Nxt, (∀ L w, W P n y N X R L w → N' L w) → (∀ L L' w, Sub L' L → N' L' w → N' L w) → W P n x N' X R L w) : W P n (.seq x y) N X R L w := by
 intro a ha
 refine wp_seq (wp_mono (h (fun L w => W P n y N X R L w) (fun _ _ h => h) (fun L L' w hs hw => W.weak L' hs hw) a ha) ?_)
 intro e a' w' hq
 cases e with
 | normal => obtain ⟨L', hs, hw⟩ := hq; exact hw a' hs
 | exit i => exact hq
 | ret => exact hq
 | goto l => exact hq
 | panic c => exact hq
 | outgrown => exact hq

theorem St.rowOne {j e sz m : Nat} {v : Value} {cs : List Value} (hs : St w0 ρ Γ w) (hi : Γ[j]? = some (.row v e sz m cs)) : v.oneCell' = true := by
 have hok := hs.ok _ (List.mem_of_getElem? hi)
 rcases hok.2 with ⟨rfl, _⟩ | ⟨g, cap, cur, rfl, _⟩ <;> rfl
theorem Ux {f : FuncId} {caps : List Operand} {vs : List Value} (hx : evs L caps = some vs) : Y P n L w (.makeFunc (.func f) #[] caps.toArray) t (.func (.func f) #[] vs.toArray) :=
 fun a ha _ _ _ _ => by
  have := ha.evs hx
  simp [execOp, Instr.makeFunc, this]
theorem Zrj {k : IntKind} {p q : Int} {ts : Array TypeId} (hx : ev L x = some (.int k p)) (hy : ev L y = some (.int k q)) : Y P n L w (.call { callee := .builtin .max, args := #[x, y], argTypes := ts }) t (.int k (max p q)) :=
 fun a ha _ _ _ _ => by
  have e : (Builtin.max_ ts t #[.int k p, .int k q]).run P w = .ok (.int k (max p q)) w := by
   simp only [Builtin.max_, List.foldlM, Builtin.max2, bind_pure_comp, Sem.run_bind, Sem.run_pure, Result.andThen]
   congr 2; omega
  simp [execOp, resolve, invoke, builtin, ha.ev hx, ha.ev hy, e]
theorem Zr1 {k : IntKind} {p q : Int} {ts : Array TypeId} (hx : ev L x = some (.int k p)) (hy : ev L y = some (.int k q)) : Y P n L w (.call { callee := .builtin .min, args := #[x, y], argTypes := ts }) t (.int k (min p q)) :=
 fun a ha _ _ _ _ => by
  have e : (Builtin.min_ ts t #[.int k p, .int k q]).run P w = .ok (.int k (min p q)) w := by
   simp only [Builtin.min_, List.foldlM, Builtin.min2, bind_pure_comp, Sem.run_bind, Sem.run_pure, Result.andThen]
   congr 2; omega
  simp [execOp, resolve, invoke, builtin, ha.ev hx, ha.ev hy, e]
def bt (s : ByteArray) (i : Int) : Int := ((s.data.getD i.toNat 0).toNat : Int)
theorem Zs4 {sl : Nat} {s : ByteArray} {k : IntKind} {i : Int} (hu : P.underlying sl = some .string) (hx : ev L x = some (.string s)) (hy : ev L y = some (.int k i)) (h0 : 0 ≤ i) (h1 : i < (s.size : Int)) : Y P n L w (.index sl x y) t (.int .u8 (bt s i)) :=
 fun a ha _ _ _ _ => by
  have hlt : i.toNat < s.size := by omega
  have hlt' : i.toNat < s.data.size := hlt
  have e : s[i.toNat]? = some s[i.toNat] := getElem?_pos s i.toNat hlt
  simp only [execOp, Instr.index, ha.ev hx, ha.ev hy, asIntOf, bind_pure_comp, Sem.run_map, Sem.run_bind, Sem.run_pure, Result.andThen, run_underlying hu, h0, if_true, e]
  have e2 : bt s i = (s[i.toNat].toNat : Int) := by
   simp only [bt, Array.getD_eq_getD_getElem?, getElem?_pos s.data i.toNat hlt', Option.getD_some]; rfl
  rw [e2]

def V5 (P : Program) (t : Nat) : Option (List (Nat × Nat)) :=
 match P.underlying t with
 | some (.struct fs) => fs.toList.mapM fun f => (P.info? f.type).map fun i => (f.offset, i.size)
 | _ => none
def Z2 (L : Loc) : List (Nat × Operand) → List (Nat × List Value) → Prop
 | [], [] => True
 | (i, x) :: t, (j, c) :: u => i = j ∧ (∃ v, ev L x = some v ∧ v.cells.toList = c) ∧ Z2 L t u
 | _, _ => False
theorem Z2.nil : Z2 L [] [] := trivial
theorem Z2.cons {i : Nat} {x : Operand} {c : List Value} {v : Value} {ps : List (Nat × Operand)} {cs : List (Nat × List Value)} (hx : ev L x = some v) (hc : v.cells.toList = c) (h : Z2 L ps cs) : Z2 L ((i, x) :: ps) ((i, c) :: cs) := ⟨rfl, ⟨v, hx, hc⟩, h⟩
def Zma (ps : List (Nat × Nat)) : List Value → List (Nat × List Value) → Option (List Value)
 | cs, [] => some cs
 | cs, (i, c) :: t => match ps[i]? with
  | some (off, sz) => bif Nat.beq c.length sz && Nat.ble (off + c.length) cs.length then Zma ps (cs.take off ++ c ++ cs.drop (off + c.length)) t else none
  | none => none
theorem Zij (ps : List (Nat × Nat)) {a : Act} (ha : Sat n L a) : ∀ (parts : List (Nat × Operand)) (css : List (Nat × List Value)) (cs out : List Value), Z2 L parts css → Zma ps cs css = some out →
  Instr.fill (ps.toArray[·]?) cs.toArray (parts.map fun p => (p.1, a.eval p.2)) = some out.toArray
 | [], [], cs, out, _, h => by simp only [Zma, Option.some.injEq] at h; subst h; rfl
 | [], _ :: _, _, _, h, _ => h.elim
 | _ :: _, [], _, _, h, _ => h.elim
 | (i, x) :: t, (j, c) :: u, cs, out, h, hf => by
  obtain ⟨rfl, ⟨v, hv, hc⟩, ht⟩ := h
  simp only [Zma] at hf
  cases hp : ps[i]? with
  | none => rw [hp] at hf; cases hf
  | some q =>
   obtain ⟨off, sz⟩ := q
   rw [hp] at hf
   simp only [] at hf
   cases hb : (Nat.beq c.length sz && Nat.ble (off + c.length) cs.length) with
   | false => rw [hb] at hf; cases hf
   | true =>
    rw [hb] at hf
    simp only [cond_true] at hf
    simp only [Bool.and_eq_true] at hb
    have h1 := Nat.eq_of_beq_eq_true hb.1
    have h2 := Nat.le_of_ble_eq_true hb.2
    have hsz : v.cells.size = c.length := by rw [← hc]; simp
    simp only [List.map_cons, ha.ev hv, Instr.fill]
    have hp' : ps.toArray[i]? = some (off, sz) := by simpa using hp
    rw [hp']
    simp only []
    have hno : (decide (v.cells.size ≠ sz) || decide (off + v.cells.size > cs.toArray.size)) = false := by simp; omega
    rw [if_neg (by rw [hno]; exact Bool.false_ne_true)]
    rw [Zdy v.cells off cs.toArray (by simp; omega)]
    simp only [hc, hsz]
    exact Zij ps ha t u _ _ ht hf
theorem Qe {ty : Nat} {zs cs : List Value} {ps : List (Nat × Nat)} {parts : List (Nat × Operand)} {css : List (Nat × List Value)} (hz : Vp P ty = some zs) (hp : V5 P ty = some ps) (hx : Z2 L parts css) (hs : Xe P ty = some true) (hf : Zma ps zs css = some cs) : Y P n L w (.build ty parts.toArray) t (.agg cs.toArray) := by
 intro a ha _ _ _ _
 obtain ⟨i, hi, hzi⟩ := Option.bind_eq_some_iff.1 hz
 obtain ⟨z, hzz, rfl⟩ := Option.map_eq_some_iff.1 hzi
 have hzv : (zeroValue ty).run P w = .ok z w := by simp [zeroValue, typeInfo, hi, hzz]
 unfold V5 at hp
 split at hp
 ·rename_i fs hfs
  have hm : (fs.mapM fun f => (do pure (f.offset, ← sizeOf f.type) : Sem (Nat × Nat))).run P w = .ok ps.toArray w := by
   have key : ∀ (l : List Field) (qs : List (Nat × Nat)), (l.mapM fun f => (P.info? f.type).map fun i => (f.offset, i.size)) = some qs → (l.mapM fun f => (do pure (f.offset, ← sizeOf f.type) : Sem (Nat × Nat))).run P w = .ok qs w := by
    intro l
    induction l with
    | nil => intro qs h; simp at h; subst h; rfl
    | cons f l ih =>
     intro qs h
     simp only [List.mapM_cons, bind_pure_comp, Option.bind_eq_bind, Option.bind_eq_some_iff, Option.map_eq_some_iff] at h
     obtain ⟨q, ⟨inf, hinf, rfl⟩, h⟩ := h
     simp only [Option.map_eq_map, Option.map_eq_some_iff] at h
     obtain ⟨qs', hqs, rfl⟩ := h
     have := ih qs' hqs
     simp [List.mapM_cons, sizeOf, typeInfo, hinf]
     simp [sizeOf, typeInfo] at this
     rw [this]; rfl
   have := key fs.toList ps hp
   rw [Array.mapM_eq_mapM_toList]
   simp only [bind_pure_comp] at this ⊢
   rw [Sem.run_map, this]; rfl
  have hfill := Zij ps ha parts css z.cells.toList cs hx hf
  simp only [execOp, Instr.build, bind_pure_comp, Sem.run_map, Sem.run_bind, hzv, Result.andThen, run_underlying hfs]
  simp only [bind_pure_comp] at hm
  rw [hm]
  simp only [Result.andThen]
  rw [Array.toArray_toList] at hfill
  simp only [List.map_toArray]
  rw [hfill]
  rfl
 ·cases hp

theorem Zaq {α : Type} [Inhabited α] {r : Rep α} {ty j e g : Nat} {v u : Value} {cs : List Value} {xs : List α} {i : Int} {z : α} (hsz : Qm P ty = some 1) (hs : St w0 ρ Γ w) (hi : Γ[j]? = some (.row v e r.sz xs.length cs)) (hg : v.ownBlock = some g) (h0 : 0 ≤ i) (h1 : i < (xs.length : Int)) (hr : Zm r ρ cs xs) (hx : ev L x = some (.pointer (some ⟨g, i.toNat * r.sz, none⟩))) (hy : ev L y = some u) (hu : r.R ρ [u] z)
  (hK : ∀ cs' w', Zm r ρ cs' (xs.set i.toNat z) → St w0 ρ (Γ.set j (.row v e r.sz (xs.set i.toNat z).length cs')) w' → O P n ops rest N L w') : O P n ops (⟨none, .store ty x y, t, pos, aft, none⟩ :: rest) N L w := by
 have h1z : r.sz = 1 := by have := r.len hu; simpa using this.symm
 have hlt : i.toNat < xs.length := by omega
 have hk : i.toNat * r.sz < cs.length := by rw [hr.1]; rw [h1z]; omega
 refine Zet hsz hs hi hg hk hx hy (r.one hu u (List.mem_singleton.2 rfl)) fun w' h => hK _ w' ?_ (by rw [List.length_set]; exact h)
 refine ⟨by simp [hr.1], fun p q hq => ?_⟩
 rw [List.getElem?_set] at hq
 by_cases hp : i.toNat = p
 ·subst hp
  rw [if_pos rfl, if_pos hlt] at hq
  obtain rfl := Option.some.inj hq
  refine ⟨[u], hu, fun k a ha => ?_⟩
  cases k with
  | zero => simp at ha; subst ha; simp [hk]
  | succ k => simp at ha
 ·rw [if_neg hp] at hq
  obtain ⟨c, h2, h3⟩ := hr.2 p q hq
  refine ⟨c, h2, fun k a ha => ?_⟩
  have hkl : k < r.sz := by rw [← r.len h2]; exact (List.getElem?_eq_some_iff.1 ha).1
  rw [List.getElem?_set_ne (by rw [h1z] at hkl ⊢; omega)]
  exact h3 k a ha
theorem Zit {fn : Func} {S : Value → World → Prop} {i b T ty k tm : Nat} {cs : List Value} (hr : fn.results = #[.cell tm ty]) (hl : lk tm L = some (.pointer (some ⟨b, 0, none⟩))) (ha : Xe P ty = some true) (hsz : Qm P ty = some k) (hs : St w0 ρ Γ w) (hi : Γ[i]? = some (.box b T cs)) (hk : cs.length = k) (h : S (.agg cs.toArray) w) :
  Ret P n fn S L w := by
 refine ⟨_, fun a hsat => ?_, h⟩
 subst hk
 have := Ur (P := P) (w := w) (a := ⟨b, 0, none⟩) cs 0 #[] (fun j u hu => by rw [Nat.zero_add, Addr.add_lit, Nat.zero_add]; exact hs.boxCell hi hu)
 have hx := hsat.get tm _ hl
 have h2 : (loadVar ty ⟨b, 0, none⟩).run P w = .ok (.agg cs.toArray) w := by simp [loadVar, Zbv ha, Us hsz, loadCells, this]
 have hx' : a.tmps[tm]?.getD undef = .pointer (some ⟨b, 0, none⟩) := by simpa using hx
 simp [results, hr, hx', asAddr, h2]
theorem Zel {a : Act} (ha : Sat n L a) {j dj : Nat} (hj : (ops[j]?).bind (·.dst) = some dj) (hl : lk dj L = some undef) : yielded ops a.tmps j = none := by
 unfold yielded
 rw [hj]
 have := ha.get dj _ hl
 simp only [Option.bind_some]
 cases hx : a.tmps[dj]? with
 | none => rfl
 | some u => simp [hx] at this; subst this; rfl
theorem Kh {j : Nat} {b : Bool} {dj : Nat} {op : Op} (hj : (ops[j]?).bind (·.dst) = some dj) (hl : lk dj L = some undef) (hd : Nat.blt d n = true)
  (h : O P n ops rest N ((d, undef) :: L) w) : O P n ops (⟨some d, op, t, pos, aft, some (j, b)⟩ :: rest) N L w := by
 intro a ha
 unfold wpList
 simp only [Region.wanted, Zel ha hj hl]
 exact h _ (ha.put hd undef)
end
theorem Zff {P : Program} {ops : Array Oper} {Q : Exit → Act → World → Prop} {late late' : List Nat} {J J' : World → Prop} : ∀ (fuel : Nat) (listed : Array Bool) (a : Act) (w : World), (∀ i, listed[i]? = some false → late.contains i = true) →
  Zb0 P ops Q late' J' fuel listed a w → Zb0 P ops Q late J fuel listed a w
 | 0, _, _, _, _, h => h
 | fuel + 1, listed, a, w, hl, h => ⟨h.1, fun i hi => by
   refine wpOp_mono (fun a' w' hk => ⟨fun hn _ => ?_, Zff fuel _ a' w' (fun j hj => ?_) hk.2⟩) (h.2 i hi)
   ·have hiun := (mem_ready.1 hi).1
    have hilt : i < listed.size := by
     rcases Nat.lt_or_ge i listed.size with h' | h'
     ·exact h'
     ·simp [Array.getElem?_eq_none h'] at hiun
    have := hl i (by simp [hilt] at hiun ⊢; exact hiun)
    rw [this] at hn; cases hn
   ·apply hl
    rw [Array.getElem?_setIfInBounds] at hj
    split at hj
    ·split at hj <;> cases hj
    ·exact hj⟩
theorem Zs6 {P : Program} {n : Nat} {ops : Array Oper} {late : List Nat} {J : World → Prop} {fuel : Nat} {done : List Nat} {N : Nxt} {L : Loc} {w : World} (late' : List Nat) (J' : World → Prop)
  (hl : ((List.range ops.size).all fun i => done.contains i || late.contains i) = true) (h : OD P n ops late' J' fuel done N L w) : OD P n ops late J fuel done N L w := by
 intro a ha
 refine Zff fuel _ a w (fun i hi => ?_) (h a ha)
 have hlt : i < ops.size := by
  have := (Array.getElem?_eq_some_iff.1 hi).1
  simpa [Zrp] using this
 have h2 := List.all_eq_true.1 hl i (List.mem_range.2 hlt)
 have h3 : (lst ops.size done).getD i false = false := by simp [Array.getD_eq_getD_getElem?, hi]
 rw [Zog hlt] at h3
 rw [h3] at h2
 simpa using h2
theorem SlR.nilEmpty {α : Type} {r : Rep α} {ρ : Hp} {m c : Nat} {xs : List α} (h : SlR r ρ (.slice none m c) xs) : xs = [] := by
 rcases h with ⟨h, _⟩ | ⟨b, o, c', hv, _⟩
 ·exact h
 ·cases hv
def NN (_ρ : Hp) (v : Value) (_x : Unit) : Prop := ∃ a : Addr, v = .pointer (some a)
theorem NN.one {ρ : Hp} {v : Value} {x : Unit} (h : NN ρ v x) : v.oneCell' = true := by obtain ⟨a, rfl⟩ := h; rfl
theorem NN.mono {ρ ρ' : Hp} {v : Value} {x : Unit} (_ : Le ρ ρ') (h : NN ρ v x) : NN ρ' v x := h
end Go.Proofs.YthoicbafdanmkaaGreatDoor
/- Maps: an own map is an item of the state; what it holds is a list of keys and values, in the order in which they came. Own work of this repo. -/
namespace Go.Proofs.YthoicbafdanmkaaGreatDoor
open Go.RowKit Go.MapKept

section
variable {κ : Type} [DecidableEq κ]
def Vo {ν : Type} : List (κ × ν) → κ → Option ν
 | [], _ => none
 | p :: l, x => if x = p.1 then some p.2 else Vo l x
def Zct : List (κ × Value) → κ → Nat → Option (Nat × Value)
 | [], _, _ => none
 | p :: l, x, i => if x = p.1 then some (i, p.2) else Zct l x (i + 1)
def Ht {ν : Type} : List (κ × ν) → κ → ν → List (κ × ν)
 | [], x, v => [(x, v)]
 | p :: l, x, v => if x = p.1 then (x, v) :: l else p :: Ht l x v
def Za2 (enc : κ → Value) : List (κ × Value) → Nat → List MapEntry
 | [], _ => []
 | p :: l, i => ⟨enc p.1, p.2, i⟩ :: Za2 enc l (i + 1)
theorem Zi0 (l : List (κ × Value)) (x : κ) (i : Nat) : (Zct l x i).map (·.2) = Vo l x := by
 induction l generalizing i with
 | nil => rfl
 | cons p l ih => simp only [Zct, Vo]; split <;> simp [ih]
omit [DecidableEq κ] in
omit [DecidableEq κ] in
theorem Zmp (enc : κ → Value) (l : List (κ × Value)) (x : κ) (v : Value) (i : Nat) : Za2 enc (l ++ [(x, v)]) i = Za2 enc l i ++ [⟨enc x, v, i + l.length⟩] := by
 induction l generalizing i with
 | nil => simp [Za2]
 | cons p l ih => simp [Za2, ih]; omega
theorem Zru {l : List (κ × Value)} {x : κ} (v : Value) {i : Nat} (h : Zct l x i = none) : Ht l x v = l ++ [(x, v)] := by
 induction l generalizing i with
 | nil => rfl
 | cons p l ih =>
  simp only [Zct] at h
  split at h
  ·cases h
  ·rename_i hn; simp only [Ht, if_neg hn, ih h, List.cons_append]
theorem Ztd {enc : κ → Value} {l : List (κ × Value)} {x : κ} (v : Value) {i j b : Nat} {u : Value} (h : Zct l x i = some (j, u)) :
  i ≤ j ∧ ((Za2 enc l b)[j - i]?).map (·.key) = some (enc x) ∧ (Za2 enc l b).modify (j - i) (fun e => { e with key := enc x, val := v }) = Za2 enc (Ht l x v) b ∧ (Ht l x v).length = l.length := by
 induction l generalizing i b with
 | nil => cases h
 | cons p l ih =>
  simp only [Zct] at h
  split at h
  ·rename_i hx
   simp only [Option.some.injEq, Prod.mk.injEq] at h
   obtain ⟨rfl, rfl⟩ := h
   simp [Za2, Ht, hx]
  ·rename_i hn
   obtain ⟨h1, h2, h3, h4⟩ := ih (b := b + 1) h
   refine ⟨by omega, ?_, ?_, ?_⟩
   ·rw [show j - i = (j - (i + 1)) + 1 by omega]; simpa [Za2] using h2
   ·rw [show j - i = (j - (i + 1)) + 1 by omega]; simp only [Za2, Ht, if_neg hn, List.modify_succ_cons, h3]
   ·simp [Ht, if_neg hn, h4]
end

structure Ug (P : Program) (t : TypeId) (κ : Type) [DecidableEq κ] where
 enc : κ → Value
 dom : κ → Prop
 fine : ∀ (e : Bool) (x : κ) (w : World), dom x → (Instr.checkKey e 10000 t (enc x)).run P w = .ok () w
 find : ∀ (l : List (κ × Value)) (x : κ) (w : World), dom x → (∀ p ∈ l, dom p.1) → (Instr.findKey t (enc x) (Za2 enc l 0)).run P w = .ok (Zct l x 0) w
 same : ∀ x, dom x → Instr.sameBits 10000 (enc x) (enc x) = true

theorem Zrm {P : Program} {t : TypeId} {κ : Type} [DecidableEq κ] {enc : κ → Value} {dom : κ → Prop} (heq : ∀ (x y : κ) (w : World), dom x → dom y → (Op.equal t (enc x) (enc y)).run P w = .ok (decide (x = y)) w) :
  ∀ (l : List (κ × Value)) (x : κ) (w : World) (i b : Nat), dom x → (∀ p ∈ l, dom p.1) → (Instr.findAsking t (enc x) (Za2 enc l b) i).run P w = .ok (Zct l x i) w := by
 intro l
 induction l with
 | nil => intro x w i b _ _; simp [Za2, Instr.findAsking, Zct]
 | cons p l ih =>
  intro x w i b hx hl
  simp only [Za2, Instr.findAsking, Sem.run_bind, heq x p.1 w hx (hl p (List.mem_cons_self ..)), Result.andThen, Zct]
  by_cases h : x = p.1
  ·simp [h]
  ·simp only [h, decide_false, Bool.false_eq_true, if_false]
   exact ih x w (i + 1) (b + 1) hx (fun q hq => hl q (List.mem_cons_of_mem _ hq))

theorem Zjo (a b : ByteArray) : (a == b) = decide (a = b) := by
 by_cases e : a = b
 ·subst e; cases a; rename_i d; show (d == d) = _; simp
 ·cases a; cases b; rename_i c d; show (c == d) = _; simp at e; simp [e]

def Ug.int {P : Program} {t : TypeId} {k : IntKind} (hu : P.underlying t = some (.int k)) : Ug P t Int where
 enc x := .int k x
 dom _ := True
 fine e x w _ := run_checkKey hu (by simp [IsKey]) e 9999
 find l x w _ _ := by
  have key : ∀ (l : List (Int × Value)) (i b : Nat), Instr.findNow (.int k) (.int k x) (Za2 (fun x => .int k x) l b) i = some (Zct l x i) := by
   intro l
   induction l with
   | nil => intro i b; rfl
   | cons p l ih =>
    intro i b
    simp only [Za2, Instr.findNow, Instr.sameNow, if_true, Zct]
    by_cases h : x = p.1
    ·simp [h]
    ·have : (x == p.1) = false := by simpa using h
     simp [this, h, ih]
  simp [Instr.findKey, run_underlying hu, key]
 same x _ := by simp [Instr.sameBits]
def Ug.str {P : Program} {t : TypeId} (hu : P.underlying t = some .string) : Ug P t ByteArray where
 enc x := .string x
 dom _ := True
 fine e x w _ := run_checkKey hu (by simp [IsKey]) e 9999
 find l x w _ _ := by
  have key : ∀ (l : List (ByteArray × Value)) (i b : Nat), Instr.findNow .string (.string x) (Za2 (fun x => .string x) l b) i = some (Zct l x i) := by
   intro l
   induction l with
   | nil => intro i b; rfl
   | cons p l ih =>
    intro i b
    simp only [Za2, Instr.findNow, Instr.sameNow, Zct, Zjo]
    by_cases h : x = p.1
    ·simp [h]
    ·simp [h, ih]
  simp [Instr.findKey, run_underlying hu, key]
 same x _ := by simp [Instr.sameBits, Zjo]

def X4 {κ : Type} (enc : κ → Value) [DecidableEq κ] (l : List (κ × Value)) : Obj := .map (Za2 enc l 0).toArray l.length
theorem Zjp {κ : Type} [DecidableEq κ] (enc : κ → Value) (l : List (κ × Value)) : ∀ c t f, X4 enc l ≠ .cells c t f := by intro c t f h; cases h

section
variable {P : Program} {n : Nat} {N : Nxt} {L : Loc} {w w0 : World} {ρ : Hp} {Γ : List Q5} {ops : Array Oper} {rest : List Oper} {d t : Nat} {pos : String} {aft : Array Edge}
variable {κ : Type} [DecidableEq κ]
theorem Zp6 {mt : TypeId} (enc : κ → Value) (hs : St w0 ρ Γ w) (hd : Nat.blt d n = true)
  (k : ∀ b w', St w0 ρ (.obj b (X4 enc []) :: Γ) w' → O P n ops rest N ((d, .map (some b)) :: L) w') : O P n ops (⟨some d, .makeMap mt none, t, pos, aft, none⟩ :: rest) N L w := by
 refine Zl3 hd fun a ha => ⟨_, _, ?_, k w.heap.size (w.alloc (X4 enc [])) (hs.push _ _ rfl ⟨heap_alloc_new w _, Zjp enc []⟩)⟩
 simp only [execOp, Instr.makeMap, newObj, X4, Za2]
 rfl
theorem St.putObj {b i : Nat} {o o' : Obj} (hs : St w0 ρ Γ w) (hi : Γ[i]? = some (.obj b o)) (ho : ∀ c t f, o' ≠ .cells c t f) : St w0 ρ (Γ.set i (.obj b o')) { w with heap := w.heap.setIfInBounds b o' } := by
 have hb : w.heap[b]? = some o := (hs.ok _ (List.mem_of_getElem? hi)).1
 have hlt : b < w.heap.size := (Array.getElem?_eq_some_iff.1 hb).1
 have hbase : w0.heap.size ≤ b := hs.base b (List.mem_filterMap.2 ⟨_, List.mem_of_getElem? hi, rfl⟩)
 have hne : ∀ c, c ≠ b → (w.heap.setIfInBounds b o')[c]? = w.heap[c]? := fun c hc => by
  rw [Array.getElem?_setIfInBounds, if_neg (Ne.symm hc)]
 refine hs.turn hi ⟨rfl, rfl, rfl, by simp, fun k hk => hne k (by omega)⟩ (fun c hc hn => hne c (fun h => hn (by rw [h]; rfl))) ⟨?_, ho⟩ (.inl rfl)
 simp [hlt]
theorem Zl9 {mt kt e : TypeId} {b i : Nat} {l : List (κ × Value)} {m y z : Operand} (hu : P.underlying mt = some (.map kt e)) (K : Ug P kt κ) {x : κ} {v : Value} (hx : K.dom x) (hl : ∀ p ∈ l, K.dom p.1) (hs : St w0 ρ Γ w) (hi : Γ[i]? = some (.obj b (X4 K.enc l)))
  (hm : ev L m = some (.map (some b))) (hy : ev L y = some (K.enc x)) (hz : ev L z = some v)
  (k : ∀ w', St w0 ρ (Γ.set i (.obj b (X4 K.enc (Ht l x v)))) w' → O P n ops rest N L w') : O P n ops (⟨none, .mapUpdate mt m y z, t, pos, aft, none⟩ :: rest) N L w := by
 have hb : w.heap[b]? = some (.map (Za2 K.enc l 0).toArray l.length) := (hs.ok _ (List.mem_of_getElem? hi)).1
 refine Zko (w' := { w with heap := w.heap.setIfInBounds b (X4 K.enc (Ht l x v)) }) (fun c hcs => ?_) (k _ (hs.putObj hi (Zjp _ _)))
 simp only [execOp, hcs.ev hm, hcs.ev hy, hcs.ev hz, Instr.mapUpdate, Sem.run_bind, run_underlying hu, Result.andThen, MapKept.run_getObj_map hb, K.fine false x w hx, K.find l x w hx hl]
 cases hp : Zct l x 0 with
 | none =>
  simp only [Sem.run_bind, run_setObj_map _ hb, Result.andThen]
  rw [Zru v hp]
  simp [X4, Zmp]
 | some q =>
  obtain ⟨j, u⟩ := q
  obtain ⟨_, h2, h3, h4⟩ := Ztd (enc := K.enc) (b := 0) v hp
  rw [Nat.sub_zero] at h2 h3
  have hk : (((Za2 K.enc l 0).toArray[j]?).map (·.key)).getD (K.enc x) = K.enc x := by simp [h2]
  simp only [hk, Instr.keyThatStays, K.same x hx, if_true, Sem.run_bind, Sem.run_pure, Result.andThen, run_setObj_map _ hb]
  simp [X4, ← h3, h4]
theorem Zp3 {mt kt e : TypeId} {b i : Nat} {l : List (κ × Value)} {m y : Operand} {zv : Value} (hu : P.underlying mt = some (.map kt e)) (K : Ug P kt κ) {x : κ} (hx : K.dom x) (hl : ∀ p ∈ l, K.dom p.1) (hzv : ∀ w, (zeroValue e).run P w = .ok zv w) (hs : St w0 ρ Γ w) (hi : Γ[i]? = some (.obj b (X4 K.enc l)))
  (hm : ev L m = some (.map (some b))) (hy : ev L y = some (K.enc x)) :
  Y P n L w (.lookup mt m y true) t (.tuple #[(Vo l x).getD zv, .bool (Vo l x).isSome]) := by
 intro a ha _ _ _ _
 have hb : w.heap[b]? = some (.map (Za2 K.enc l 0).toArray l.length) := (hs.ok _ (List.mem_of_getElem? hi)).1
 have hg := Zi0 l x 0
 simp only [execOp, ha.ev hm, ha.ev hy, Instr.lookup, bind_pure_comp, Sem.run_map, Sem.run_bind, run_underlying hu, Result.andThen, MapKept.run_getObj_map hb, Sem.run_pure, K.fine _ x w hx, K.find l x w hx hl]
 cases hp : Zct l x 0 with
 | none => rw [hp] at hg; simp [← hg, hzv]
 | some q => rw [hp] at hg; simp [← hg]
theorem Zp7 {mt kt e : TypeId} {b i : Nat} {l : List (κ × Value)} {m y : Operand} {zv : Value} (hu : P.underlying mt = some (.map kt e)) (K : Ug P kt κ) {x : κ} (hx : K.dom x) (hl : ∀ p ∈ l, K.dom p.1) (hzv : ∀ w, (zeroValue e).run P w = .ok zv w) (hs : St w0 ρ Γ w) (hi : Γ[i]? = some (.obj b (X4 K.enc l)))
  (hm : ev L m = some (.map (some b))) (hy : ev L y = some (K.enc x)) :
  Y P n L w (.lookup mt m y false) t ((Vo l x).getD zv) := by
 intro a ha _ _ _ _
 have hb : w.heap[b]? = some (.map (Za2 K.enc l 0).toArray l.length) := (hs.ok _ (List.mem_of_getElem? hi)).1
 have hg := Zi0 l x 0
 simp only [execOp, ha.ev hm, ha.ev hy, Instr.lookup, bind_pure_comp, Sem.run_map, Sem.run_bind, run_underlying hu, Result.andThen, MapKept.run_getObj_map hb, Sem.run_pure, K.fine _ x w hx, K.find l x w hx hl]
 cases hp : Zct l x 0 with
 | none => rw [hp] at hg; simp [← hg, hzv]
 | some q => rw [hp] at hg; simp [← hg]
end
def vs {κ ν : Type} (e : ν → Value) (m : List (κ × ν)) : List (κ × Value) := m.map fun p => (p.1, e p.2)
theorem Zn0 {κ ν : Type} [DecidableEq κ] (e : ν → Value) (m : List (κ × ν)) (x : κ) : Vo (vs e m) x = (Vo m x).map e := by
 induction m with
 | nil => rfl
 | cons p m ih =>
  show (if x = p.1 then some (e p.2) else Vo (vs e m) x) = _
  simp only [Vo]
  split <;> simp [ih]
theorem Zv3 {κ ν : Type} [DecidableEq κ] (e : ν → Value) (m : List (κ × ν)) (x : κ) (v : ν) : Ht (vs e m) x (e v) = vs e (Ht m x v) := by
 induction m with
 | nil => rfl
 | cons p m ih =>
  show (if x = p.1 then (x, e v) :: vs e m else (p.1, e p.2) :: Ht (vs e m) x (e v)) = _
  simp only [Ht]
  split <;> simp [vs, ih] <;> exact ih
theorem St.perm {w0 w : World} {ρ : Hp} {Γ Γ' : List Q5} (h : St w0 ρ Γ w) (hp : Γ'.Perm Γ) : St w0 ρ Γ' w :=
 ⟨h.below, h.sees, fun it hi => h.ok it (hp.subset hi), (hp.filterMap _).symm.nodup h.nodup, fun b hb => h.base b ((hp.filterMap _).subset hb), fun a v ha hb => h.clean a v ha ((hp.filterMap _).subset hb)⟩
theorem St.front {w0 w : World} {ρ : Hp} {Γ : List Q5} (i : Nat) {it : Q5} (h : St w0 ρ Γ w) (hi : Γ[i]? = some it) : St w0 ρ (it :: Γ.eraseIdx i) w := by
 obtain ⟨hlt, rfl⟩ := List.getElem?_eq_some_iff.1 hi
 refine h.perm ?_
 clear h hi
 induction Γ generalizing i with
 | nil => simp at hlt
 | cons a l ih =>
  cases i with
  | zero => exact .refl _
  | succ i => exact (List.Perm.swap _ _ _).trans ((ih i (by simpa using hlt)).cons _)
theorem St.sink {w0 w : World} {ρ : Hp} {Γ : List Q5} (k : Nat) {it : Q5} (h : St w0 ρ (it :: Γ) w) : St w0 ρ (Γ.insertIdx k it) w := by
 by_cases hk : k ≤ Γ.length
 ·exact h.perm (List.perm_insertIdx it Γ hk)
 ·rw [List.insertIdx_of_length_lt (by omega)]
  exact h.sub (.cons _ (List.Sublist.refl _))

section
variable {P : Program} {n : Nat} {N : Nxt} {L : Loc} {w w0 : World} {ρ : Hp} {Γ : List Q5} {ops : Array Oper} {rest : List Oper} {d t : Nat} {pos : String} {aft : Array Edge}
variable {κ ν : Type} [DecidableEq κ]
omit [DecidableEq κ] in
theorem Zk9 {E : ν → Value} {m : List (κ × ν)} {D : κ → Prop} (h : ∀ p ∈ m, D p.1) : ∀ p ∈ vs E m, D p.1 := by
 intro p hp
 obtain ⟨q, hq, rfl⟩ := List.mem_map.1 hp
 exact h q hq
theorem U6 {mt : TypeId} (enc : κ → Value) (E : ν → Value) (hs : St w0 ρ Γ w) (hd : Nat.blt d n = true)
  (k : ∀ b w', St w0 ρ (.obj b (X4 enc (vs E [])) :: Γ) w' → O P n ops rest N ((d, .map (some b)) :: L) w') : O P n ops (⟨some d, .makeMap mt none, t, pos, aft, none⟩ :: rest) N L w :=
 Zp6 enc hs hd k
theorem Zcp {mt kt e : TypeId} {b i : Nat} {m : List (κ × ν)} {x : κ} {v : ν} {E : ν → Value} {o y z : Operand} (hu : P.underlying mt = some (.map kt e)) (K : Ug P kt κ) (hx : K.dom x) (hl : ∀ p ∈ m, K.dom p.1) (hs : St w0 ρ Γ w) (hi : Γ[i]? = some (.obj b (X4 K.enc (vs E m))))
  (hm : ev L o = some (.map (some b))) (hy : ev L y = some (K.enc x)) (hz : ev L z = some (E v))
  (k : ∀ w', St w0 ρ (Γ.set i (.obj b (X4 K.enc (vs E (Ht m x v))))) w' → O P n ops rest N L w') : O P n ops (⟨none, .mapUpdate mt o y z, t, pos, aft, none⟩ :: rest) N L w :=
 Zl9 hu K hx (Zk9 hl) hs hi hm hy hz (by rw [Zv3]; exact k)
theorem Zgd {mt kt e : TypeId} {b i : Nat} {m : List (κ × ν)} {x : κ} {E : ν → Value} {z0 : ν} {o y : Operand} (hu : P.underlying mt = some (.map kt e)) (K : Ug P kt κ) (hx : K.dom x) (hl : ∀ p ∈ m, K.dom p.1) (hzv : ∀ w, (zeroValue e).run P w = .ok (E z0) w) (hs : St w0 ρ Γ w) (hi : Γ[i]? = some (.obj b (X4 K.enc (vs E m))))
  (hm : ev L o = some (.map (some b))) (hy : ev L y = some (K.enc x)) : Y P n L w (.lookup mt o y true) t (.tuple #[E ((Vo m x).getD z0), .bool (Vo m x).isSome]) := by
 have := Zp3 (t := t) (n := n) hu K hx (Zk9 hl) hzv hs hi hm hy
 rw [Zn0] at this
 cases hg : Vo m x <;> rw [hg] at this <;> simpa using this
theorem Zp9 {mt kt e : TypeId} {b i : Nat} {m : List (κ × ν)} {x : κ} {E : ν → Value} {z0 : ν} {o y : Operand} (hu : P.underlying mt = some (.map kt e)) (K : Ug P kt κ) (hx : K.dom x) (hl : ∀ p ∈ m, K.dom p.1) (hzv : ∀ w, (zeroValue e).run P w = .ok (E z0) w) (hs : St w0 ρ Γ w) (hi : Γ[i]? = some (.obj b (X4 K.enc (vs E m))))
  (hm : ev L o = some (.map (some b))) (hy : ev L y = some (K.enc x)) : Y P n L w (.lookup mt o y false) t (E ((Vo m x).getD z0)) := by
 have := Zp7 (t := t) (n := n) hu K hx (Zk9 hl) hzv hs hi hm hy
 rw [Zn0] at this
 cases hg : Vo m x <;> rw [hg] at this <;> simpa using this
end
def Kr (s : ByteArray) : List Int := s.data.toList.map fun b => (b.toNat : Int)
theorem Q9 (s : ByteArray) : (Kr s).length = s.size := by simp [Kr]
theorem Zmg {B : Nat} (w : World) (hB : B ≤ w.heap.size) (e : TypeId) (s : ByteArray) : Below B w (Lib.bytesWorld w e s) :=
 ⟨rfl, rfl, rfl, by rw [Lib.bytesWorld_size]; omega, fun k hk => Lib.bytesWorld_at_old w e s k (by omega)⟩
theorem St.bytes {w0 w : World} {ρ : Hp} {Γ : List Q5} (h : St w0 ρ Γ w) (e : TypeId) (s : ByteArray) : ∃ ρ', Le ρ ρ' ∧ St w0 ρ' Γ (Lib.bytesWorld w e s) ∧ SlR (Rep.int .u8) ρ' (.slice (some ⟨w.heap.size, 0, none⟩) s.size (grownCap w s.size 0 e)) (Kr s) := by
 have h1 : St w0 ρ Γ (Lib.bytesWorld w e s) := h.keep (Zmg w h.below.size e s) (fun b hb _ => Lib.bytesWorld_at_old w e s b hb)
 refine ⟨fun a => if a.block = w.heap.size then seen (Lib.bytesWorld w e s) a else ρ a, fun a v ha => ?_, ⟨h1.below, fun a v ha => ?_, h1.ok, h1.nodup, h1.base, fun a v ha hm => ?_⟩, ?_⟩
 ·have := h.sees.lt ha
  show (if a.block = w.heap.size then _ else ρ a) = _
  rw [if_neg (by omega)]; exact ha
 ·change (if a.block = w.heap.size then _ else ρ a) = some v at ha
  split at ha
  ·exact ha
  ·exact h1.sees a v ha
 ·change (if a.block = w.heap.size then _ else ρ a) = some v at ha
  split at ha
  ·rename_i hb
   have := h.lt hm
   omega
  ·exact h1.clean a v ha hm
 ·refine .inr ⟨w.heap.size, 0, grownCap w s.size 0 e, by rw [Q9], by rw [Q9]; exact grownCap_ge _ _ _ _, fun i x hx => ⟨[.int .u8 x], rfl, fun j u hu => ?_⟩⟩
  have hi : i < s.size := by rw [← Q9]; exact (List.getElem?_eq_some_iff.1 hx).1
  obtain ⟨rfl, rfl⟩ : j = 0 ∧ u = .int .u8 x := by
   cases j with
   | zero => simp at hu; exact ⟨rfl, hu.symm⟩
   | succ j => simp at hu
  show (if w.heap.size = w.heap.size then _ else _) = _
  rw [if_pos rfl]
  show (Lib.bytesWorld w e s).cell? ⟨w.heap.size, 0 + i * 1 + 0, none⟩ = _
  rw [show 0 + i * 1 + 0 = i by omega, Lib.bytesWorld_cell w e s i hi]
  simp only [Kr, List.getElem?_map] at hx
  cases hg : s.data.toList[i]? with
  | none => rw [hg] at hx; cases hx
  | some b => rw [hg] at hx; simp at hx; simp [List.getD, hg, hx]
theorem Zpf {P : Program} {n : Nat} {N : Nxt} {L : Loc} {w w0 : World} {ρ : Hp} {Γ : List Q5} {ops : Array Oper} {rest : List Oper} {d t : Nat} {pos : String} {aft : Array Edge} {src dst e : TypeId} {s : ByteArray} {x : Operand}
  (hu : P.underlying src = some .string) (hd' : P.underlying dst = some (.slice e)) (he : P.underlying e = some (.int .u8)) (hs : St w0 ρ Γ w) (hd : Nat.blt d n = true) (hx : ev L x = some (.string s))
  (k : ∀ ρ' v w', Le ρ ρ' → St w0 ρ' Γ w' → SlR (Rep.int .u8) ρ' v (Kr s) → O P n ops rest N ((d, v) :: L) w') : O P n ops (⟨some d, .convert src dst x, t, pos, aft, none⟩ :: rest) N L w := by
 obtain ⟨ρ', h1, h2, h3⟩ := hs.bytes e s
 refine Zl3 hd fun a ha => ⟨_, _, ?_, k ρ' _ _ h1 h2 h3⟩
 simp [execOp, ha.ev hx, Lib.run_convert_string_bytes w src dst e s hu hd' he]
def bOr (k : IntKind) (x y : Int) : Int := k.wrap (BitVec.ofInt k.bits x ||| BitVec.ofInt k.bits y).toNat
theorem Zwt {P : Program} {n : Nat} {L : Loc} {w : World} {k : IntKind} {p q : Int} {x y : Operand} {xt yt t : TypeId} (hx : ev L x = some (.int k p)) (hy : ev L y = some (.int k q)) : Y P n L w (.binOp .or xt x y yt) t (.int k (bOr k p q)) :=
 Zdc (by decide) hx hy (fun _ => rfl)
theorem Zky {P : Program} {n : Nat} {ops : Array Oper} {late : List Nat} {J : World → Prop} {fuel : Nat} {done : List Nat} {N : Nxt} {L : Loc} {w : World} {i : Nat} {o : Oper} (hi : ops[i]? = some o)
  (h : ∀ N' : Nxt, (∀ L' w', (late.contains i = false → J w → J w') → OD P n ops late J fuel (i :: done) N L' w' → N' L' w') → O P n ops [o] N' L w) {a : Act} (ha : Sat n L a) :
  wpOp P ops (Qo n N) i (fun a' w' => (late.contains i = false → J w → J w') ∧ Zb0 P ops (Qo n N) late J fuel ((lst ops.size done).setIfInBounds i true) a' w') a w := by
 have h1 := h (fun L' w' => (late.contains i = false → J w → J w') ∧ OD P n ops late J fuel (i :: done) N L' w') (fun _ _ a b => ⟨a, b⟩) a ha
 unfold wpOp
 simp only [hi]
 unfold wpList at h1
 have conv : ∀ (a' : Act) (w' : World), wpList P ops (fun e a' w' => e = .normal ∧ ∃ L', Sat n L' a' ∧ (late.contains i = false → J w → J w') ∧ OD P n ops late J fuel (i :: done) N L' w') [] a' w' →
   ((late.contains i = false → J w → J w') ∧ Zb0 P ops (Qo n N) late J fuel ((lst ops.size done).setIfInBounds i true) a' w') := by
  intro a' w' hq
  obtain ⟨_, L', hs', hJ', ho⟩ := hq
  rw [Zlm]
  exact ⟨hJ', ho a' hs'⟩
 split
 ·rename_i hw
  simp only [hw, if_true] at h1
  rcases h1 with h1 | ⟨_, hlets⟩
  ·refine .inl ?_
   unfold Oper.wp at h1 ⊢
   generalize (execOp a.eval o).run P w = r at h1 ⊢
   cases r with
   | ok x w' =>
    cases x <;> simp only [Oper.upon] at h1 ⊢ <;> first
     | exact conv _ _ h1
     | (refine Calls.mono h1 fun e w'' he => ?_; cases e <;> first | exact conv _ _ he | exact absurd he.1 (by simp) | (obtain ⟨_, _, hh, _⟩ := he; cases hh))
     | exact Rows.mono h1 fun _ _ he => conv _ _ he
   | halt x w' =>
    cases x <;> simp only [Oper.upon] at h1 ⊢
    case panic u => cases h1.1
  ·obtain ⟨_, _, hh, _⟩ := hlets
   cases hh
 ·rename_i hw
  simp only [hw] at h1
  exact conv _ _ h1
end Go.Proofs.YthoicbafdanmkaaGreatDoor
/- Keys that are short arrays; maps, boxes and pointers that never change any more. Own work of this repo. -/
namespace Go.Proofs.YthoicbafdanmkaaGreatDoor
open Go.RowKit Go.MapKept

section
variable {P : Program} {w : World}
def acs (k : IntKind) (xs : List Int) : List Value := xs.map fun x => .int k x
theorem Zc4 {e : Nat} {k : IntKind} (hg : Xe P e = some false) (xs : List Int) {i : Nat} {x : Int} (hi : xs[i]? = some x) : (part e (acs k xs).toArray i).run P w = .ok (.int k x) w := by
 have : (acs k xs).toArray[i]? = some (.int k x) := by simp [acs, hi]
 simp only [part, Sem.run_bind, Zbv hg, Result.andThen, Bool.false_eq_true, if_false, this, Sem.run_pure]
theorem Znf {e : Nat} {k : IntKind} (hu : P.underlying e = some (.int k)) (d : Nat) (x y : Int) : (Op.equalIn (d + 1) e (.int k x) (.int k y)).run P w = .ok (x == y) w := by
 unfold Op.equalIn
 simp only [Sem.run_bind, run_underlying hu, Result.andThen, if_true, Sem.run_pure]
theorem Zeo {e : Nat} {k : IntKind} (hu : P.underlying e = some (.int k)) (hg : Xe P e = some false) (d : Nat) (xs ys : List Int) (hl : xs.length = ys.length) :
  ∀ is : List Nat, (∀ i ∈ is, i < xs.length) → (Op.eqItems (d + 1) e 1 (acs k xs).toArray (acs k ys).toArray is).run P w = .ok (is.all fun i => decide (xs[i]? = ys[i]?)) w
 | [], _ => by simp [Op.eqItems]
 | i :: is, h => by
  have hi := h i (List.mem_cons_self ..)
  have h1 : xs[i]? = some xs[i] := List.getElem?_eq_getElem hi
  have h2 : ys[i]? = some (ys[i]'(hl ▸ hi)) := List.getElem?_eq_getElem _
  have ih := Zeo hu hg d xs ys hl is (fun j hj => h j (List.mem_cons_of_mem _ hj))
  simp only [Op.eqItems, Sem.run_bind, Nat.mul_one, Zc4 hg xs h1, Zc4 hg ys h2, Znf hu, Result.andThen, List.all_cons]
  by_cases e : xs[i] = ys[i]'(hl ▸ hi)
  ·simp only [e, BEq.rfl, Bool.not_true, Bool.false_eq_true, if_false, ih, h1, h2, decide_true, Bool.true_and]
  ·simp [e, h1, h2]
theorem Zkq {xs ys : List Int} {n : Nat} (h1 : xs.length = n) (h2 : ys.length = n) : ((List.range n).all fun i => decide (xs[i]? = ys[i]?)) = decide (xs = ys) := by
 by_cases e : xs = ys
 ·subst e; simp
 ·have : ∃ i, i < n ∧ xs[i]? ≠ ys[i]? := by
   apply Classical.byContradiction
   intro hn
   apply e
   apply List.ext_getElem?
   intro i
   rcases Nat.lt_or_ge i n with h | h
   ·exact Classical.byContradiction fun hc => hn ⟨i, h, hc⟩
   ·rw [List.getElem?_eq_none (by omega), List.getElem?_eq_none (by omega)]
  obtain ⟨i, hi, hne⟩ := this
  simp only [e, decide_false, List.all_eq_false, List.mem_range]
  exact ⟨i, hi, by simpa using hne⟩
theorem Zi9 {t e n : Nat} {k : IntKind} {inf : TypeInfo} (hu : P.underlying t = some (.array n e)) (hi : P.info? e = some inf) (hc : P.cellsOf e = 1) (he : P.underlying e = some (.int k)) (hg : Xe P e = some false) {xs ys : List Int} (h1 : xs.length = n) (h2 : ys.length = n) :
  (Op.equal t (.agg (acs k xs).toArray) (.agg (acs k ys).toArray)).run P w = .ok (decide (xs = ys)) w := by
 show (Op.equalIn (9999 + 1) t _ _).run P w = _
 rw [run_equalIn_array w 9999 _ _ hu hi, hc]
 rw [Zeo he hg 9998 xs ys (by omega) (List.range n) (fun i hi => by rw [h1]; exact List.mem_range.1 hi), Zkq h1 h2]
theorem Zjc {t e n : Nat} {k : IntKind} (hu : P.underlying t = some (.array n e)) (hs : Qm P e = some 1) (he : P.underlying e = some (.int k)) (hg : Xe P e = some false) (em : Bool) {xs : List Int} (h1 : xs.length = n) :
  (Instr.checkKey em 10000 t (.agg (acs k xs).toArray)).run P w = .ok () w := by
 show (Instr.checkKey em (9998 + 1 + 1) t (.agg (acs k xs).toArray)).run P w = _
 rw [Instr.checkKey]
 simp only [Sem.run_bind, run_underlying hu, Result.andThen]
 simp only [Std.Legacy.Range.forIn_eq_forIn_range', Std.Legacy.Range.size, Nat.sub_zero, Nat.add_one_sub_one, Nat.div_one]
 have key : ∀ is : List Nat, (∀ i ∈ is, i < n) → (forIn (m := Sem) is PUnit.unit fun i r => (do
   let z ← sizeOf e
   let v ← part e (acs k xs).toArray (i * z)
   Instr.checkKey em (9998 + 1) e v
   pure (ForInStep.yield PUnit.unit))).run P w = .ok PUnit.unit w := by
  intro is
  induction is with
  | nil => intro _; simp
  | cons i is ih =>
   intro h
   have hi := h i (List.mem_cons_self ..)
   have hx : xs[i]? = some (xs[i]'(by omega)) := List.getElem?_eq_getElem _
   have hk : (Instr.checkKey em (9998 + 1) e (.int k (xs[i]'(by omega)))).run P w = .ok () w := run_checkKey he (by simp [IsKey]) em 9998
   simp only [List.forIn_cons, Sem.run_bind, Us hs, Nat.mul_one, Zc4 hg xs hx, hk, Result.andThen, Sem.run_pure]
   exact ih (fun j hj => h j (List.mem_cons_of_mem _ hj))
 have := key (List.range' 0 n) (fun i hi => by simpa using (List.mem_range'_1.1 hi).2)
 simp only [bind_pure_comp] at this ⊢
 rw [this]
 rfl
theorem Zsw (k : IntKind) (xs : List Int) : Instr.sameBits 10000 (.agg (acs k xs).toArray) (.agg (acs k xs).toArray) = true := by
 show Instr.sameBits (9999 + 1) _ _ = true
 simp only [Instr.sameBits, BEq.rfl, Bool.true_and, List.all_eq_true]
 intro p hp
 obtain ⟨i, hi, e⟩ := List.getElem_of_mem hp
 rw [List.getElem_zip] at e
 rw [← e]
 simp [acs, Instr.sameBits]
end
def Ug.arr {P : Program} {t e n : Nat} {k : IntKind} {κ : Type} [DecidableEq κ] (f : κ → List Int) (inj : ∀ x y, f x = f y → x = y) (len : ∀ x, (f x).length = n)
  (hu : P.underlying t = some (.array n e)) (hi : (P.info? e).isSome = true) (hc : P.cellsOf e = 1) (hs : Qm P e = some 1) (he : P.underlying e = some (.int k)) (hg : Xe P e = some false) : Ug P t κ where
 enc x := .agg (acs k (f x)).toArray
 dom _ := True
 fine em x w _ := Zjc hu hs he hg em (len x)
 find l x w _ _ := by
  have hask := Zrm (P := P) (t := t) (enc := fun x => .agg (acs k (f x)).toArray) (dom := fun _ => True) (fun x y w _ _ => by
   obtain ⟨inf, hinf⟩ := Option.isSome_iff_exists.1 hi
   rw [Zi9 hu hinf hc he hg (len x) (len y)]
   by_cases h : x = y
   ·simp [h]
   ·have : ¬ f x = f y := fun e => h (inj x y e)
    simp [h, this]) l x w 0 0 trivial (fun _ _ => trivial)
  simp only [Instr.findKey, Sem.run_bind, run_underlying hu, Result.andThen]
  cases l with
  | nil => simp [Za2, Instr.findNow, Zct]
  | cons p l =>
   have : Instr.findNow (.array n e) (.agg (acs k (f x)).toArray) (Za2 (fun x => .agg (acs k (f x)).toArray) (p :: l) 0) 0 = none := by
    simp [Za2, Instr.findNow, Instr.sameNow]
   rw [this]
   exact hask
 same x _ := Zsw k (f x)
def two (p : Int × Int) : List Int := [p.1, p.2]
theorem Zum (x y : Int × Int) (h : two x = two y) : x = y := by
 simp only [two, List.cons.injEq, and_true] at h
 exact Prod.ext h.1 h.2
def Ug.two {P : Program} {t e : Nat} {k : IntKind} (hu : P.underlying t = some (.array 2 e)) (hi : (P.info? e).isSome = true) (hc : P.cellsOf e = 1) (hs : Qm P e = some 1) (he : P.underlying e = some (.int k)) (hg : Xe P e = some false) : Ug P t (Int × Int) :=
 Ug.arr Go.Proofs.YthoicbafdanmkaaGreatDoor.two Zum (fun _ => rfl) hu hi hc hs he hg

section
variable {w0 w : World} {ρ ρ' : Hp} {Γ : List Q5}
theorem St.boxEnd (hs : St w0 ρ Γ w) {j b T : Nat} {cs : List Value} (hi : Γ[j]? = some (.box b T cs)) : ∃ ρ', Le ρ ρ' ∧ St w0 ρ' (Γ.eraseIdx j) w ∧ CA ρ' b 0 cs := by
 obtain ⟨h1, h2⟩ := hs.freeze hi rfl
 refine ⟨_, h2, h1, fun k u hu => ?_⟩
 have := hs.boxCell hi hu
 unfold Hp.with
 simp only [if_true, Nat.zero_add]
 exact this
theorem Znv {es fs : Array MapEntry} {m n : Nat} (h : Zgo es m = Zgo fs n) : es = fs ∧ m = n := by
 simp only [Zgo, Value.tuple.injEq] at h
 have h2 := congrArg Array.toList h
 simp only [Array.toList_append, Array.toList_map, List.cons_append, List.nil_append, List.cons.injEq, Value.int.injEq, true_and] at h2
 obtain ⟨h3, h4⟩ := h2
 refine ⟨?_, by omega⟩
 have key : ∀ l l' : List MapEntry, l.map (fun e => Value.tuple #[e.key, e.val, .int .i64 e.born]) = l'.map (fun e => Value.tuple #[e.key, e.val, .int .i64 e.born]) → l = l' := by
  intro l
  induction l with
  | nil => intro l' h; cases l' with
   | nil => rfl
   | cons => simp at h
  | cons e l ih =>
   intro l' h
   cases l' with
   | nil => simp at h
   | cons f l' =>
    simp only [List.map_cons, List.cons.injEq, Value.tuple.injEq, Array.mk.injEq, Value.int.injEq, true_and, and_true] at h
    obtain ⟨⟨ha, hb, hc⟩, ht⟩ := h
    rw [ih l' ht]
    congr 1
    cases e; cases f
    simp at ha hb hc
    have hc' := Int.ofNat.inj hc
    simp [ha, hb, hc']
 exact Array.ext' (key _ _ h4)
def Zi6 {κ ν : Type} [DecidableEq κ] (enc : κ → Value) (E : ν → Value) (ρ : Hp) (v : Value) (m : List (κ × ν)) : Prop :=
 ∃ b, v = .map (some b) ∧ ρ ⟨b, 0, some 0⟩ = some (Zgo (Za2 enc (vs E m) 0).toArray (vs E m).length)
theorem Zi6.mono {κ ν : Type} [DecidableEq κ] {enc : κ → Value} {E : ν → Value} {v : Value} {m : List (κ × ν)} (h : Zi6 enc E ρ v m) (hle : Le ρ ρ') : Zi6 enc E ρ' v m := by
 obtain ⟨b, hv, hb⟩ := h; exact ⟨b, hv, hle _ _ hb⟩
theorem Zi6.one {κ ν : Type} [DecidableEq κ] {enc : κ → Value} {E : ν → Value} {v : Value} {m : List (κ × ν)} (h : Zi6 enc E ρ v m) : v.oneCell' = true := by
 obtain ⟨b, rfl, _⟩ := h; rfl
theorem Zi6.obj {κ ν : Type} [DecidableEq κ] {enc : κ → Value} {E : ν → Value} {v : Value} {m : List (κ × ν)} (hs : St w0 ρ Γ w) (h : Zi6 enc E ρ v m) : ∃ b, v = .map (some b) ∧ w.heap[b]? = some (.map (Za2 enc (vs E m) 0).toArray (vs E m).length) := by
 obtain ⟨b, hv, hb⟩ := h
 refine ⟨b, hv, ?_⟩
 have := hs.sees _ _ hb
 simp only [seen] at this
 split at this
 ·rename_i es n hg
  obtain ⟨rfl, rfl⟩ := Znv (Option.some.inj this)
  exact hg
 ·simp [Zgo, Zm7] at this
 ·cases this
theorem St.objEnd {κ ν : Type} [DecidableEq κ] {enc : κ → Value} {E : ν → Value} {m : List (κ × ν)} (hs : St w0 ρ Γ w) {j b : Nat} (hi : Γ[j]? = some (.obj b (X4 enc (vs E m)))) : ∃ ρ', Le ρ ρ' ∧ St w0 ρ' (Γ.eraseIdx j) w ∧ Zi6 enc E ρ' (.map (some b)) m := by
 obtain ⟨h1, h2⟩ := hs.freeze hi rfl
 refine ⟨_, h2, h1, b, rfl, ?_⟩
 have hb : w.heap[b]? = some (X4 enc (vs E m)) := (hs.ok _ (List.mem_of_getElem? hi)).1
 unfold Hp.with
 simp only [if_true, seen, hb, X4]
end
section
variable {P : Program} {n : Nat} {N : Nxt} {L : Loc} {w w0 : World} {ρ ρ' : Hp} {Γ : List Q5} {ops : Array Oper} {rest : List Oper} {d t : Nat} {pos : String} {aft : Array Edge} {x y : Operand}
theorem Zne {κ : Type} [DecidableEq κ] {mt kt e : TypeId} {b : Nat} {l : List (κ × Value)} {m y : Operand} {zv : Value} {two : Bool} (hu : P.underlying mt = some (.map kt e)) (K : Ug P kt κ) {x : κ} (hx : K.dom x) (hl : ∀ p ∈ l, K.dom p.1) (hzv : ∀ w, (zeroValue e).run P w = .ok zv w)
  (hb : w.heap[b]? = some (.map (Za2 K.enc l 0).toArray l.length)) (hm : ev L m = some (.map (some b))) (hy : ev L y = some (K.enc x)) :
  Y P n L w (.lookup mt m y two) t (bif two then .tuple #[(Vo l x).getD zv, .bool (Vo l x).isSome] else (Vo l x).getD zv) := by
 intro a ha _ _ _ _
 have hg := Zi0 l x 0
 simp only [execOp, ha.ev hm, ha.ev hy, Instr.lookup, bind_pure_comp, Sem.run_map, Sem.run_bind, run_underlying hu, Result.andThen, MapKept.run_getObj_map hb, Sem.run_pure, K.fine _ x w hx, K.find l x w hx hl]
 cases hp : Zct l x 0 with
 | none => rw [hp] at hg; cases two <;> simp [← hg, hzv]
 | some q => rw [hp] at hg; cases two <;> simp [← hg]
theorem Zpw {κ ν : Type} [DecidableEq κ] {mt kt e : TypeId} {v : Value} {m : List (κ × ν)} {x : κ} {E : ν → Value} {z0 : ν} {o y : Operand} (two : Bool) (hu : P.underlying mt = some (.map kt e)) (K : Ug P kt κ) (hx : K.dom x) (hl : ∀ p ∈ m, K.dom p.1) (hzv : ∀ w, (zeroValue e).run P w = .ok (E z0) w) (hs : St w0 ρ Γ w)
  (hr : Zi6 K.enc E ρ v m) (hm : ev L o = some v) (hy : ev L y = some (K.enc x)) : Y P n L w (.lookup mt o y two) t (bif two then .tuple #[E ((Vo m x).getD z0), .bool (Vo m x).isSome] else E ((Vo m x).getD z0)) := by
 obtain ⟨b, rfl, hb⟩ := hr.obj hs
 have := Zne (t := t) (n := n) (two := two) hu K hx (Zk9 hl) hzv hb hm hy
 rw [Zn0] at this
 cases hg : Vo m x <;> rw [hg] at this <;> simpa using this
def Xs {α : Type} (r : Rep α) (ρ : Hp) (v : Value) (x : Option α) : Prop := (v = .pointer none ∧ x = none) ∨ ∃ b y, v = .pointer (some ⟨b, 0, none⟩) ∧ x = some y ∧ At ρ r b 0 y
theorem Xs.mono {α : Type} {r : Rep α} {v : Value} {x : Option α} (h : Xs r ρ v x) (hle : Le ρ ρ') : Xs r ρ' v x := by
 rcases h with h | ⟨b, y, h1, h2, h3⟩
 ·exact .inl h
 ·exact .inr ⟨b, y, h1, h2, h3.mono hle⟩
theorem Xs.one {α : Type} {r : Rep α} {v : Value} {x : Option α} (h : Xs r ρ v x) : v.oneCell' = true := by
 rcases h with ⟨rfl, _⟩ | ⟨b, y, rfl, _⟩ <;> rfl
theorem Xs.cellsL {α : Type} {r : Rep α} {v : Value} {x : Option α} (h : Xs r ρ v x) : v.cells.toList = [v] := by
 rcases h with ⟨rfl, _⟩ | ⟨b, y, rfl, _⟩ <;> rfl
theorem Xs.nil {α : Type} (r : Rep α) (ρ : Hp) : Xs r ρ (.pointer none) none := .inl ⟨rfl, rfl⟩
theorem Xs.val {α : Type} {r : Rep α} {v : Value} {x : Option α} (h : Xs r ρ v x) : ∃ a, v = .pointer a ∧ a.isNone = x.isNone ∧ a.isSome = x.isSome := by
 rcases h with ⟨rfl, rfl⟩ | ⟨b, y, rfl, rfl, _⟩
 ·exact ⟨_, rfl, rfl, rfl⟩
 ·exact ⟨_, rfl, rfl, rfl⟩
theorem Xs.open {α : Type} [Inhabited α] {r : Rep α} {v : Value} {x : Option α} (h : Xs r ρ v x) (hx : x.isSome = true) : ∃ b, v = .pointer (some ⟨b, 0, none⟩) ∧ At ρ r b 0 (x.getD default) := by
 rcases h with ⟨rfl, rfl⟩ | ⟨b, y, rfl, rfl, h3⟩
 ·cases hx
 ·exact ⟨b, rfl, h3⟩
theorem Xs.eqn {α : Type} {r : Rep α} {v : Value} {z : Option α} (h : Xs r ρ v z) {xt yt e : TypeId} (ht : P.underlying xt = some (.pointer e)) (hx : ev L x = some v) (hy : ev L y = some (.pointer none)) : Y P n L w (.binOp .eql xt x y yt) t (.bool z.isNone) := by
 obtain ⟨a, rfl, h1, h2⟩ := h.val; rw [← h1]; exact Zvy ht hx hy
theorem Xs.nen {α : Type} {r : Rep α} {v : Value} {z : Option α} (h : Xs r ρ v z) {xt yt e : TypeId} (ht : P.underlying xt = some (.pointer e)) (hx : ev L x = some v) (hy : ev L y = some (.pointer none)) : Y P n L w (.binOp .neq xt x y yt) t (.bool z.isSome) := by
 obtain ⟨a, rfl, h1, h2⟩ := h.val; rw [← h2]; exact Zvm ht hx hy
end
end Go.Proofs.YthoicbafdanmkaaGreatDoor
/- Arrays: a stretch of cells in a box or in what never changes, as a Vector. Own work of this repo. -/
namespace Go.Proofs.YthoicbafdanmkaaGreatDoor
open Go.RowKit

section
variable {α : Type} {m : Nat}
def vcs (E : α → Value) (y : Vector α m) : List Value := y.toList.map E
def vg [Inhabited α] (y : Vector α m) (i : Int) : α := y.toList.getD i.toNat default
def Zb3 (y : Vector α m) (i : Int) (z : α) : Vector α m := ⟨y.toArray.setIfInBounds i.toNat z, by simp⟩
@[simp] theorem Zia (E : α → Value) (y : Vector α m) : (vcs E y).length = m := by simp [vcs]
theorem Zmm (y : Vector α m) (i : Int) (z : α) : (Zb3 y i z).toList = y.toList.set i.toNat z := by
 simp [Zb3, Vector.toList]
theorem Zq0 (E : α → Value) (y : Vector α m) (i : Int) (z : α) : vcs E (Zb3 y i z) = (vcs E y).set i.toNat (E z) := by
 simp [vcs, Zmm, List.map_set]
theorem Zuq [Inhabited α] (E : α → Value) (y : Vector α m) {i : Int} (h0 : 0 ≤ i) (h1 : i < (m : Int)) : (vcs E y)[i.toNat]? = some (E (vg y i)) := by
 have : i.toNat < y.toList.length := by simp; omega
 simp only [vcs, List.getElem?_map, List.getElem?_eq_getElem this, Option.map_some, vg, List.getD_eq_getElem?_getD, Option.getD_some]
theorem Zpg [Inhabited α] {E : α → Value} {y : Vector α m} {A B : List Value} {i : Int} {o : Nat} (ho : o = A.length) (h0 : 0 ≤ i) (h1 : i < (m : Int)) : (A ++ (vcs E y ++ B))[o + i.toNat]? = some (E (vg y i)) := by
 subst ho
 rw [List.getElem?_append_right (by omega), Nat.add_sub_cancel_left, List.getElem?_append_left (by simp; omega)]
 exact Zuq E y h0 h1
theorem Zuk {E : α → Value} {y : Vector α m} {A B : List Value} {i : Int} {z : α} {o : Nat} (ho : o = A.length) (h0 : 0 ≤ i) (h1 : i < (m : Int)) : (A ++ (vcs E y ++ B)).set (o + i.toNat) (E z) = A ++ (vcs E (Zb3 y i z) ++ B) := by
 subst ho
 rw [List.set_append_right _ _ (by omega), Nat.add_sub_cancel_left, List.set_append_left _ _ (by simp; omega), Zq0]
theorem Zfq {E : α → Value} {y : Vector α m} {A B : List Value} {o q : Nat} {v : Value} (ho : o = A.length + m + q) (hv : B[q]? = some v) : (A ++ (vcs E y ++ B))[o]? = some v := by
 subst ho
 rw [List.getElem?_append_right (by omega), List.getElem?_append_right (by simp; omega)]
 rw [← hv]; congr 1; simp; omega
theorem Zod {E : α → Value} {y : Vector α m} {A B : List Value} {o q : Nat} {v : Value} (ho : o = A.length + m + q) : (A ++ (vcs E y ++ B)).set o v = A ++ (vcs E y ++ B.set q v) := by
 subst ho
 rw [List.set_append_right _ _ (by omega), List.set_append_right _ _ (by simp; omega)]
 congr 3; simp; omega
theorem Zkt {E : α → Value} (hE : ∀ x, (E x).oneCell' = true) (y : Vector α m) : ∀ u ∈ vcs E y, u.oneCell' = true := by
 intro u hu
 obtain ⟨x, _, rfl⟩ := List.mem_map.1 hu
 exact hE x
theorem Zo4 {l l' : List Value} (h : ∀ v ∈ l, v.oneCell' = true) (h' : ∀ v ∈ l', v.oneCell' = true) : ∀ v ∈ l ++ l', v.oneCell' = true := fun v hv => by
 rcases List.mem_append.1 hv with hv | hv
 ·exact h v hv
 ·exact h' v hv
end
def Rep.arr {α : Type} (E : α → Value) (hE : ∀ x, (E x).oneCell' = true) (m : Nat) : Rep (Vector α m) := ⟨m, fun _ cs y => cs = vcs E y, fun h => by rw [h]; simp, fun _ h => h, fun h => by rw [h]; exact Zkt hE _⟩
theorem Ue (k : IntKind) : ∀ x, (Value.int k x).oneCell' = true := fun _ => rfl
section
variable {P : Program} {n : Nat} {N : Nxt} {L : Loc} {w w0 : World} {ρ : Hp} {Γ : List Q5} {ops : Array Oper} {rest : List Oper} {d t : Nat} {pos : String} {aft : Array Edge} {x y : Operand}
variable {α : Type} {m : Nat} {E : α → Value}

theorem Zcd {ty e b o : Nat} {k : IntKind} {i : Int} (hu : P.underlying ty = some (.array m e)) (hs : Qm P e = some 1) (hx : ev L x = some (.pointer (some ⟨b, o, none⟩))) (hy : ev L y = some (.int k i)) (h0 : 0 ≤ i) (h1 : i < (m : Int)) :
  Y P n L w (.indexAddr ty x y) t (.pointer (some ⟨b, o + i.toNat, none⟩)) := by
 intro a ha _ _ _ _
 simp only [execOp, Instr.indexAt, Instr.sureAddr, ha.ev hx, ha.ev hy, asIntOf, bind_pure_comp, Sem.run_map, Sem.run_bind, Sem.run_pure, Result.andThen, run_underlying hu]
 rw [if_pos ⟨h0, h1⟩]
 simp only [Sem.run_bind, Sem.run_map, Us hs, Result.andThen, Nat.mul_one, Addr.add_lit]
theorem Zjy [Inhabited α] {ty b o T j : Nat} {A B : List Value} {z : Vector α m} {i : Int} (ha : Xe P ty = some false) (hs : St w0 ρ Γ w) (hj : Γ[j]? = some (.box b T (A ++ (vcs E z ++ B)))) (ho : o = A.length) (h0 : 0 ≤ i) (h1 : i < (m : Int)) (hx : ev L x = some (.pointer (some ⟨b, o + i.toNat, none⟩))) :
  Y P n L w (.load ty x) t (E (vg z i)) := Xp ha hx (hs.boxCell hj (Zpg ho h0 h1))
theorem Zew {ty b o T j : Nat} {A B : List Value} {z : Vector α m} {i : Int} {u : α} (hsz : Qm P ty = some 1) (hE : ∀ x, (E x).oneCell' = true) (hs : St w0 ρ Γ w) (hj : Γ[j]? = some (.box b T (A ++ (vcs E z ++ B)))) (ho : o = A.length) (h0 : 0 ≤ i) (h1 : i < (m : Int)) (hx : ev L x = some (.pointer (some ⟨b, o + i.toNat, none⟩))) (hy : ev L y = some (E u))
  (k : ∀ w', St w0 ρ (Γ.set j (.box b T (A ++ (vcs E (Zb3 z i u) ++ B)))) w' → O P n ops rest N L w') : O P n ops (⟨none, .store ty x y, t, pos, aft, none⟩ :: rest) N L w :=
 Vu hsz hs hj (by show Nat.ble _ _ = true; rw [Nat.ble_eq]; simp; omega) hx hy (hE u) (by rw [Zuk ho h0 h1]; exact k)
theorem Zis {ty b o T j q : Nat} {A B : List Value} {z : Vector α m} {u : Value} (hsz : Qm P ty = some 1) (hs : St w0 ρ Γ w) (hj : Γ[j]? = some (.box b T (A ++ (vcs E z ++ B)))) (ho : o = A.length + m + q) (hq : Nat.blt q B.length = true) (hx : ev L x = some (.pointer (some ⟨b, o, none⟩))) (hy : ev L y = some u) (hu : u.oneCell' = true)
  (k : ∀ w', St w0 ρ (Γ.set j (.box b T (A ++ (vcs E z ++ B.set q u)))) w' → O P n ops rest N L w') : O P n ops (⟨none, .store ty x y, t, pos, aft, none⟩ :: rest) N L w :=
 Vu hsz hs hj (by have := Nat.le_of_ble_eq_true hq; show Nat.ble _ _ = true; rw [Nat.ble_eq]; simp; omega) hx hy hu (by rw [Zod ho]; exact k)
theorem Zcn {ty b T j : Nat} {z : Vector α m} (ha : Xe P ty = some true) (hsz : Qm P ty = some m) (hs : St w0 ρ Γ w) (hj : Γ[j]? = some (.box b T ([] ++ (vcs E z ++ [])))) (hx : ev L x = some (.pointer (some ⟨b, 0, none⟩))) : Y P n L w (.load ty x) t (.agg (vcs E z).toArray) :=
 Xk ha hsz hs hj (by simp; exact List.take_of_length_le (by simp)) (Zia E z) hx
theorem Ze6 {ty b T j : Nat} {z u : Vector α m} (hsz : Qm P ty = some m) (hE : ∀ x, (E x).oneCell' = true) (hs : St w0 ρ Γ w) (hj : Γ[j]? = some (.box b T ([] ++ (vcs E z ++ [])))) (hx : ev L x = some (.pointer (some ⟨b, 0, none⟩))) (hy : ev L y = some (.agg (vcs E u).toArray))
  (k : ∀ w', St w0 ρ (Γ.set j (.box b T ([] ++ (vcs E u ++ [])))) w' → O P n ops rest N L w') : O P n ops (⟨none, .store ty x y, t, pos, aft, none⟩ :: rest) N L w :=
 Ye hsz hs hj (by simp) (by show Nat.ble _ _ = true; rw [Nat.ble_eq]; simp) hx hy (by simpa using Zkt hE u) (by
  have e : ([] ++ (vcs E z ++ [])).take 0 ++ (vcs E u).toArray.toList ++ ([] ++ (vcs E z ++ [])).drop (0 + m) = [] ++ (vcs E u ++ []) := by
   simp [List.drop_of_length_le]
  rw [e]; exact k)
theorem At.arr {hE : ∀ x, (E x).oneCell' = true} {b o : Nat} {z : Vector α m} (h : At ρ (Rep.arr E hE m) b o z) : CA ρ b o ([] ++ (vcs E z ++ [])) := by
 obtain ⟨cs, rfl, h2⟩ := h
 simpa using h2
theorem CA.seg [Inhabited α] {A B : List Value} {b o q : Nat} {z : Vector α m} {i : Int} (h : CA ρ b o (A ++ (vcs E z ++ B))) (hq : q = A.length) (h0 : 0 ≤ i) (h1 : i < (m : Int)) : ρ ⟨b, o + q + i.toNat, none⟩ = some (E (vg z i)) := by
 have := h (q + i.toNat) _ (Zpg hq h0 h1)
 rwa [← Nat.add_assoc] at this
theorem Zbp {op : Op} {v v' : Value} (h : Y P n L w op t v) (e : v = v') : Y P n L w op t v' := e ▸ h
theorem CA.sub {b o off k : Nat} {cs ds : List Value} (h : CA ρ b o cs) (e : (cs.drop off).take k = ds) : CA ρ b (o + off) ds := fun j u hu => by
 subst e
 rw [List.getElem?_take] at hu
 split at hu
 ·rw [List.getElem?_drop] at hu
  have := h _ u hu
  rwa [← Nat.add_assoc] at this
 ·cases hu
theorem H9 {o k : Nat} {cs ds : List Value} (e : (cs.drop o).take k = ds) : ∀ (j : Nat) (u : Value), ds[j]? = some u → cs[o + j]? = some u := fun j u hu => by
 subst e
 rw [List.getElem?_take] at hu
 split at hu
 ·rw [List.getElem?_drop] at hu; exact hu
 ·cases hu
theorem Zlx {β : Type} [Inhabited β] {r : Rep β} {ty j e g off : Nat} {v u : Value} {cs : List Value} {xs : List β} {i : Int} {z : β} (hsz : Qm P ty = some 1) (hs : St w0 ρ Γ w) (hi : Γ[j]? = some (.row v e r.sz xs.length cs)) (hg : v.ownBlock = some g) (h0 : 0 ≤ i) (h1 : i < (xs.length : Int)) (hoff : off < r.sz) (hr : Zm r ρ cs xs) (hx : ev L x = some (.pointer (some ⟨g, i.toNat * r.sz + off, none⟩))) (hy : ev L y = some u) (hu : u.oneCell' = true)
  (hz : ∀ c, r.R ρ c (rd xs i) → r.R ρ (c.set off u) z)
  (hK : ∀ cs' w', Zm r ρ cs' (xs.set i.toNat z) → St w0 ρ (Γ.set j (.row v e r.sz (xs.set i.toNat z).length cs')) w' → O P n ops rest N L w') : O P n ops (⟨none, .store ty x y, t, pos, aft, none⟩ :: rest) N L w := by
 have hlt : i.toNat < xs.length := by omega
 have hle : i.toNat * r.sz + r.sz ≤ xs.length * r.sz := by
  rw [← Nat.succ_mul]; exact Nat.mul_le_mul_right _ hlt
 have hk : i.toNat * r.sz + off < cs.length := by rw [hr.1]; omega
 refine Zet hsz hs hi hg hk hx hy hu fun w' h => hK _ w' ?_ (by rw [List.length_set]; exact h)
 refine ⟨by simp [hr.1], fun p q hq => ?_⟩
 rw [List.getElem?_set] at hq
 by_cases hp : i.toNat = p
 ·subst hp
  rw [if_pos rfl, if_pos hlt] at hq
  obtain rfl := Option.some.inj hq
  obtain ⟨c, h2, h3⟩ := hr.at h0 h1
  refine ⟨c.set off u, hz c h2, fun k a ha => ?_⟩
  rw [List.getElem?_set] at ha
  split at ha
  ·rename_i e
   subst e
   split at ha
   ·rw [List.getElem?_set, if_pos rfl, if_pos hk]; exact ha
   ·cases ha
  ·rename_i e
   rw [List.getElem?_set_ne (by omega)]
   exact h3 k a ha
 ·rw [if_neg hp] at hq
  obtain ⟨c, h2, h3⟩ := hr.2 p q hq
  refine ⟨c, h2, fun k a ha => ?_⟩
  have hkl : k < r.sz := by rw [← r.len h2]; exact (List.getElem?_eq_some_iff.1 ha).1
  have hne : i.toNat * r.sz + off ≠ p * r.sz + k := by
   intro e
   rcases Nat.lt_or_gt_of_ne hp with hlt' | hgt
   ·have := Nat.mul_le_mul_right r.sz (show i.toNat + 1 ≤ p from hlt'); rw [Nat.succ_mul] at this; omega
   ·have := Nat.mul_le_mul_right r.sz (show p + 1 ≤ i.toNat from hgt); rw [Nat.succ_mul] at this; omega
  rw [List.getElem?_set_ne hne]
  exact h3 k a ha
end
section
variable {P : Program} {n : Nat} {N : Nxt} {X : Nat → Nxt} {R : Nxt} {L : Loc} {w : World} {c : Code}
def WL (P : Program) (n : Nat) (c : Code) (X : Nat → Nxt) (R : Nxt) (L : Loc) (w : World) : Prop :=
 ∀ a, Sat n L a → ∀ b kk cs, ∃ e a' w', Out n (fun _ _ => False) X R e a' w' ∧ Arrives P (lone (b.at a (.code c :: .inLoop c :: kk)) cs w) b kk cs e a' w'
theorem Hu (h : ∀ N' : Nxt, (∀ L w, WL P n c X R L w → N' L w) → W P n c N' X R L w) : WL P n c X R L w := by
 intro a ha b kk cs
 obtain ⟨e, a', w', hq, harr⟩ := h (fun L w => WL P n c X R L w) (fun _ _ h => h) a ha b (.inLoop c :: kk) cs
 cases e with
 | normal =>
  obtain ⟨L', hs', hWL⟩ := hq
  obtain ⟨e₂, a₂, w₂, hq₂, harr₂⟩ := hWL a' hs' b kk cs
  exact ⟨e₂, a₂, w₂, hq₂, .of_steps (Steps.trans harr (.one step_inLoop)) harr₂⟩
 | exit i => exact ⟨.exit i, a', w', hq, .pass (x := .inLoop c) rfl (fun _ _ => .inl (by simp)) harr⟩
 | goto l => exact hq.elim
 | ret => exact ⟨.ret, a', w', hq, .pass (x := .inLoop c) rfl (fun _ _ => .inl (by simp)) harr⟩
 | panic ch => exact hq.elim
 | outgrown => exact hq.elim
theorem Zwu (h : WL P n c X R L w) : W P n (.loop c) N X R L w := by
 intro a ha b kk cs
 obtain ⟨e, a', w', hq, harr⟩ := h a ha b kk cs
 refine ⟨e, a', w', ?_, .of_steps (.one step_loop) harr⟩
 cases e with
 | normal => obtain ⟨_, _, hf⟩ := hq; exact hf.elim
 | exit i => exact hq
 | goto l => exact hq
 | ret => exact hq
 | panic ch => exact hq
 | outgrown => exact hq
end
def Ug.vec {P : Program} {t e m : Nat} {k : IntKind} (hu : P.underlying t = some (.array m e)) (hi : (P.info? e).isSome = true) (hc : P.cellsOf e = 1) (hs : Qm P e = some 1) (he : P.underlying e = some (.int k)) (hg : Xe P e = some false) : Ug P t (Vector Int m) :=
 Ug.arr (fun y => y.toList) (fun x y h => Vector.toList_inj.1 h) (fun y => Vector.length_toList) hu hi hc hs he hg
end Go.Proofs.YthoicbafdanmkaaGreatDoor
/- More operations: fields of a struct's value, arrays written out, slices that are made. Own work of this repo. -/
namespace Go.Proofs.YthoicbafdanmkaaGreatDoor
open Go.RowKit
section
variable {P : Program} {n : Nat} {N : Nxt} {L : Loc} {w w0 : World} {ρ : Hp} {Γ : List Q5} {ops : Array Oper} {rest : List Oper} {d t : Nat} {pos : String} {aft : Array Edge} {x y : Operand}
def fieldAt (P : Program) (s i : Nat) : Option (Nat × Nat) :=
 match P.underlying s with
 | some (.struct fs) => (fs[i]?).map fun f => (f.offset, f.type)
 | _ => none
theorem Ze0 {ty e m : Nat} {xs : List Operand} {vs : List Value} {ps : List (Nat × Operand)} {zs : List Value} (hu : P.underlying ty = some (.array m e)) (hs : Qm P e = some 1) (hz : (Vp P ty).map (·.length) = some m) (hps : ps = (xs.zipIdx 0).map fun p => (p.2, p.1)) (hml : xs.length = m) (hx : evs L xs = some vs) (h1 : ∀ v ∈ vs, v.cells.toList = [v]) (hzs : vs = zs) :
  Y P n L w (.build ty ps.toArray) t (.agg zs.toArray) := by
 subst hzs
 intro a ha _ _ _ _
 obtain ⟨zl, hz1, hz2⟩ := Option.map_eq_some_iff.1 hz
 obtain ⟨i, hi, hzi⟩ := Option.bind_eq_some_iff.1 hz1
 obtain ⟨z, hzz, rfl⟩ := Option.map_eq_some_iff.1 hzi
 have hzv : (zeroValue ty).run P w = .ok z w := by simp [zeroValue, typeInfo, hi, hzz]
 have hparts : (ps.toArray.map fun p => (p.1, a.eval p.2)).toList = (vs.zipIdx 0).map fun p => (p.2, p.1) := by
  subst hps
  have := ha.evs hx
  rw [← this]
  simp only [List.map_toArray, List.map_map, List.zipIdx_map]
  simp
 have hvl : vs.length = m := by
  have := ha.evs hx
  rw [← this, List.length_map, hml]
 have hsz : ∀ v ∈ vs, v.cells.size = 1 := fun v hv => by
  have := congrArg List.length (h1 v hv)
  simpa using this
 have hfm : vs.flatMap (·.cells.toList) = vs := by
  clear hparts hx hvl hsz
  induction vs with
  | nil => rfl
  | cons v vs ih =>
   rw [List.flatMap_cons, h1 v (List.mem_cons_self ..), ih (fun u hu => h1 u (List.mem_cons_of_mem _ hu))]
   rfl
 have hfill : Instr.fill (fun i => some (i * 1, 1)) z.cells (ps.toArray.map fun p => (p.1, a.eval p.2)).toList = some vs.toArray := by
  rw [hparts, Zf5 1 vs 0 z.cells hsz (by simp at hz2; omega), hfm]
  simp
 simp only [execOp, Instr.build, bind_pure_comp, Sem.run_map, Sem.run_bind, hzv, Result.andThen, run_underlying hu, Us hs]
 rw [hfill]
 rfl
theorem Zsr (v : Value) (m : Nat) : madeCells #[v] m = (List.replicate m v).toArray := by
 apply Array.ext
 ·simp [madeCells]
 ·intro i h1 h2
  simp [madeCells, Nat.mod_one]
theorem Kn {α : Type} {r : Rep α} {sl e bytes : Nat} {k1 k2 : IntKind} {m : Int} {x0 : α} {v0 : Value} (he : Vn P sl e r.sz bytes) (hz : Vp P e = some [v0]) (h1 : r.sz = 1) (hr : r.R ρ [v0] x0) (hs : St w0 ρ Γ w) (hd : Nat.blt d n = true) (hx : ev L x = some (.int k1 m)) (hy : ev L y = some (.int k2 m)) (h0 : 0 ≤ m) (hm : m ≤ (most : Int))
  (k : ∀ b cs w', Zm r ρ cs (List.replicate m.toNat x0) → St w0 ρ (.row (.slice (some ⟨b, 0, none⟩) m.toNat m.toNat) e r.sz (List.replicate m.toNat x0).length cs :: Γ) w' → O P n ops rest N ((d, .slice (some ⟨b, 0, none⟩) m.toNat m.toNat) :: L) w') :
  O P n ops (⟨some d, .makeSlice sl x y, t, pos, aft, none⟩ :: rest) N L w := by
 obtain ⟨j, z, hj, hzz, hsz, hby, hzs⟩ := he.info
 obtain ⟨i, hi, hz⟩ := Option.bind_eq_some_iff.1 hz
 obtain ⟨z', hz', hzc⟩ := Option.map_eq_some_iff.1 hz
 rw [hj] at hi
 obtain rfl := Option.some.inj hi
 rw [hzz] at hz'
 obtain rfl := Option.some.inj hz'
 have hcells : z.cells = #[v0] := Array.ext' (by simpa using hzc)
 have hb : (j.bytes : Int) * m ≤ 281474976710656 := by
  have h2 : (j.bytes : Int) ≤ 65536 := by rw [hby]; exact Int.ofNat_le.2 he.small
  have h3 : m ≤ 2147483648 := hm
  exact Int.le_trans (Int.mul_le_mul_of_nonneg_right h2 h0) (Int.le_trans (Int.mul_le_mul_of_nonneg_left h3 (by decide)) (by decide))
 have h3 : m ≤ 2147483648 := hm
 have hrun := run_make (P := P) w sl e j z he.under hj hzz k1 k2 m m h0 (Int.le_refl _) hb (by omega)
 rw [hcells, hsz, h1, Nat.mul_one, Zsr] at hrun
 have hrow := hs.rowFull e m.toNat 1 (List.replicate m.toNat v0) (by simp) (by simp only [maxLen]; omega)
 have hR : Zm r ρ (List.replicate m.toNat v0) (List.replicate m.toNat x0) := ⟨by simp [h1], fun p q hq => by
  rw [List.getElem?_replicate] at hq
  split at hq
  ·rename_i hlt
   obtain rfl := Option.some.inj hq
   refine ⟨[v0], hr, fun k u hu => ?_⟩
   cases k with
   | zero => simp at hu; subst hu; simp [h1, hlt]
   | succ k => simp at hu
  ·cases hq⟩
 refine Zo7 (w' := w.alloc (.cells (List.replicate m.toNat v0).toArray e)) hd (fun c hc => ?_) (k w.heap.size _ _ hR (by rw [h1, List.length_replicate]; exact hrow))
 simp only [execOp, hc.ev hx, hc.ev hy, bind_pure_comp, Sem.run_map, hrun, Result.andThen]
theorem Zql {α : Type} {m : Nat} (E : α → Value) (y : Vector α m) : (Value.agg (vcs E y).toArray).cells.size = m := by simp [Value.cells]
theorem Xy : ([] : List Value).flatMap (·.cells.toList) = [] := rfl
theorem Zv {v : Value} {l c ds : List Value} (h : v.cells.toList = c) (hl : l.flatMap (·.cells.toList) = ds) : (v :: l).flatMap (·.cells.toList) = c ++ ds := by rw [List.flatMap_cons, h, hl]
theorem Ku {sl e sz bytes : Nat} {xs : List Operand} {vs cs : List Value} {ps : List (Nat × Operand)} {m : Nat} (he : Vn P sl e sz bytes) (hs : St w0 ρ Γ w) (hd : Nat.blt d n = true) (hps : ps = (xs.zipIdx 0).map fun p => (p.2, p.1)) (hml : xs.length = m) (hm : m ≤ 1000) (hsz : sz ≤ 1000)
  (hx : evs L xs = some vs) (hv : ∀ v ∈ vs, v.cells.size = sz) (hcs : vs.flatMap (·.cells.toList) = cs)
  (k : ∀ b w', St w0 ρ (.row (.slice (some ⟨b, 0, none⟩) m m) e sz m cs :: Γ) w' → O P n ops rest N ((d, .slice (some ⟨b, 0, none⟩) m m) :: L) w') :
  O P n ops (⟨some d, .buildSlice sl m ps.toArray, t, pos, aft, none⟩ :: rest) N L w := by
 subst hcs
 exact Zhz he hs hd hps hml hm hsz hx hv k
theorem Zki : ∀ v ∈ ([] : List Value), v.cells.toList = [v] := fun _ h => by cases h
theorem Zcz {a : Value} {l : List Value} (h : a.cells.toList = [a]) (hl : ∀ v ∈ l, v.cells.toList = [v]) : ∀ v ∈ a :: l, v.cells.toList = [v] := fun v hv => by
 rcases List.mem_cons.1 hv with rfl | hv
 ·exact h
 ·exact hl v hv
theorem Zcx {fn : Func} {S : Value → World → Prop} {i b T ty k tm u : Nat} {cs : List Value} {x : Value} (hr : fn.results = #[.cell tm ty, .tmp u]) (hl : lk tm L = some (.pointer (some ⟨b, 0, none⟩))) (hu : lk u L = some x) (ha : Xe P ty = some true) (hsz : Qm P ty = some k) (hs : St w0 ρ Γ w) (hi : Γ[i]? = some (.box b T cs)) (hk : cs.length = k) (h : S (.tuple #[.agg cs.toArray, x]) w) :
  Ret P n fn S L w := by
 refine ⟨_, fun a hsat => ?_, h⟩
 subst hk
 have := Ur (P := P) (w := w) (a := ⟨b, 0, none⟩) cs 0 #[] (fun j u hu => by rw [Nat.zero_add, Addr.add_lit, Nat.zero_add]; exact hs.boxCell hi hu)
 have hx := hsat.get tm _ hl
 have hy := hsat.get u _ hu
 have h2 : (loadVar ty ⟨b, 0, none⟩).run P w = .ok (.agg cs.toArray) w := by simp [loadVar, Zbv ha, Us hsz, loadCells, this]
 have hx' : a.tmps[tm]?.getD undef = .pointer (some ⟨b, 0, none⟩) := by simpa using hx
 have hy' : a.tmps[u]?.getD undef = x := by simpa using hy
 simp [results, hr, hx', hy', asAddr, h2]
theorem Zm4 {ty : Nat} {zs : List Value} (hz : Vp P ty = some zs) : ∃ z, (zeroValue ty).run P w = .ok z w ∧ z.cells = zs.toArray := by
 obtain ⟨i, hi, hzi⟩ := Option.bind_eq_some_iff.1 hz
 obtain ⟨z, hzz, rfl⟩ := Option.map_eq_some_iff.1 hzi
 exact ⟨z, by simp [zeroValue, typeInfo, hi, hzz], by simp⟩
theorem Zqc {ty e m : Nat} {zs : List Value} (hu : P.underlying ty = some (.array m e)) (hs : Qm P e = some 1) (hz : Vp P ty = some zs) : Y P n L w (.build ty #[]) t (.agg zs.toArray) := by
 intro a ha _ _ _ _
 obtain ⟨z, h1, h2⟩ := Zm4 (w := w) hz
 simp [execOp, Instr.build, h1, h2, run_underlying hu, Us hs, Instr.fill]
theorem Zpz {ty : Nat} {zs : List Value} {ps : List (Nat × Nat)} (hz : Vp P ty = some zs) (hp : V5 P ty = some ps) : Y P n L w (.build ty #[]) t (.agg zs.toArray) := by
 intro a ha _ _ _ _
 obtain ⟨z, h1, h2⟩ := Zm4 (w := w) hz
 unfold V5 at hp
 split at hp
 ·rename_i fs hfs
  have hm : ∃ r, (fs.mapM fun f => (do pure (f.offset, ← sizeOf f.type) : Sem (Nat × Nat))).run P w = .ok r w := by
   have key : ∀ (l : List Field) (qs : List (Nat × Nat)), (l.mapM fun f => (P.info? f.type).map fun i => (f.offset, i.size)) = some qs → (l.mapM fun f => (do pure (f.offset, ← sizeOf f.type) : Sem (Nat × Nat))).run P w = .ok qs w := by
    intro l
    induction l with
    | nil => intro qs h; simp at h; subst h; rfl
    | cons f l ih =>
     intro qs h
     simp only [List.mapM_cons, bind_pure_comp, Option.bind_eq_bind, Option.bind_eq_some_iff, Option.map_eq_some_iff] at h
     obtain ⟨q, ⟨inf, hinf, rfl⟩, h⟩ := h
     simp only [Option.map_eq_map, Option.map_eq_some_iff] at h
     obtain ⟨qs', hqs, rfl⟩ := h
     have := ih qs' hqs
     simp [List.mapM_cons, sizeOf, typeInfo, hinf]
     simp [sizeOf, typeInfo] at this
     rw [this]; rfl
   have := key fs.toList ps hp
   rw [Array.mapM_eq_mapM_toList]
   simp only [bind_pure_comp] at this ⊢
   rw [Sem.run_map, this]
   exact ⟨_, rfl⟩
  obtain ⟨r, hm⟩ := hm
  simp only [bind_pure_comp] at hm
  simp only [execOp, Instr.build, bind_pure_comp, Sem.run_map, Sem.run_bind, h1, h2, Result.andThen, run_underlying hfs, hm, List.map_toArray, List.map_nil, Instr.fill]
  try rfl
 ·cases hp
inductive RV (P : Program) (L : Loc) (w : World) : List ResultVar → List Value → Prop where
 | nil : RV P L w [] []
 | tmp {t : Nat} {v : Value} {rs : List ResultVar} {vs : List Value} (hl : lk t L = some v) (h : RV P L w rs vs) : RV P L w (.tmp t :: rs) (v :: vs)
 | cell {tm ty b k : Nat} {cs : List Value} {rs : List ResultVar} {vs : List Value} (hl : lk tm L = some (.pointer (some ⟨b, 0, none⟩))) (ha : Xe P ty = some true) (hsz : Qm P ty = some k) (hk : cs.length = k) (hc : ∀ j u, cs[j]? = some u → w.cell? ⟨b, j, none⟩ = some u) (h : RV P L w rs vs) : RV P L w (.cell tm ty :: rs) (.agg cs.toArray :: vs)
def rvf (tmps : Array Value) : ResultVar → Sem Value
 | .tmp t => pure (tmps.getD t undef)
 | .cell a t => do loadVar t (← asAddr (tmps.getD a undef))
theorem Zmv (fn : Func) (tmps : Array Value) : results fn tmps = (do
  let vs ← fn.results.mapM (rvf tmps)
  pure (if h : vs.size = 1 then vs[0] else .tuple vs)) := rfl
theorem RV.run {rs : List ResultVar} {vs : List Value} (h : RV P L w rs vs) {a : Act} (hsat : Sat n L a) : (rs.mapM (rvf a.tmps)).run P w = .ok vs w := by
 induction h with
 | nil => rfl
 | tmp hl _ ih =>
  have hx := hsat.get _ _ hl
  simp only [List.mapM_cons, Sem.run_bind, rvf, Sem.run_pure, Result.andThen, hx, ih]
 | @cell tm ty b k cs rs vs hl ha hsz hk hc _ ih =>
  subst hk
  have hx := hsat.get _ _ hl
  have := Ur (P := P) (w := w) (a := ⟨b, 0, none⟩) cs 0 #[] (fun j u hu => by rw [Nat.zero_add, Addr.add_lit, Nat.zero_add]; exact hc j u hu)
  have h2 : (loadVar ty ⟨b, 0, none⟩).run P w = .ok (.agg cs.toArray) w := by simp [loadVar, Zbv ha, Us hsz, loadCells, this]
  simp only [List.mapM_cons, Sem.run_bind, rvf, Sem.run_pure, Result.andThen, hx, asAddr, h2, ih]
theorem Zw9 {fn : Func} {S : Value → World → Prop} {rs : List ResultVar} {vs : List Value} (hr : fn.results = rs.toArray) (h : RV P L w rs vs) (h1 : vs.length ≠ 1) (hS : S (.tuple vs.toArray) w) : Ret P n fn S L w := by
 refine ⟨_, fun a hsat => ?_, hS⟩
 have := h.run hsat
 rw [Zmv, hr, Array.mapM_eq_mapM_toList]
 simp only [bind_pure_comp, Sem.run_map, this, Result.andThen]
 simp [h1]
end
end Go.Proofs.YthoicbafdanmkaaGreatDoor
/- Regions whose order is open, by bits: what waits for what is computed once for a region, and each step asks numbers alone. Own work of this repo. -/
namespace Go.Proofs.YthoicbafdanmkaaGreatDoor
open Go.RowKit

def tb (m i : Nat) : Bool := Nat.beq (Nat.land 1 (Nat.shiftRight m i)) 1
theorem Zdx (m i : Nat) : tb m i = m.testBit i := by
 have h : Nat.land 1 (Nat.shiftRight m i) = 1 &&& (m >>> i) := rfl
 have h2 : (1 &&& (m >>> i)) = 0 ∨ (1 &&& (m >>> i)) = 1 := by rw [Nat.one_and_eq_mod_two]; omega
 unfold tb Nat.testBit
 rw [h]
 rcases h2 with h2 | h2 <;> rw [h2] <;> rfl
def Kq : List Nat → Nat
 | [] => 0
 | i :: t => Nat.lor (Nat.shiftLeft 1 i) (Kq t)
theorem Zd7 (l : List Nat) (i : Nat) : tb (Kq l) i = l.contains i := by
 induction l with
 | nil => simp [Kq, Zdx]
 | cons a l ih =>
  have h : Kq (a :: l) = (1 <<< a) ||| Kq l := rfl
  rw [Zdx] at ih ⊢
  rw [h, Nat.testBit_or, ih, Nat.one_shiftLeft, Nat.testBit_two_pow]
  simp only [List.contains_cons]
  congr 1
  by_cases e : a = i
  ·subst e; simp
  ·simp [e, Ne.symm e]
def sb (m D : Nat) : Bool := Nat.beq (Nat.land m D) m
theorem Zgl {m D : Nat} : sb m D = true ↔ ∀ k, tb m k = true → tb D k = true := by
 have h : Nat.land m D = m &&& D := rfl
 unfold sb
 rw [h, Nat.beq_eq]
 constructor
 ·intro e k hk
  rw [Zdx] at hk ⊢
  have := congrArg (·.testBit k) e
  simp only [Nat.testBit_and, hk, Bool.true_and] at this
  exact this
 ·intro hh
  apply Nat.eq_of_testBit_eq
  intro k
  rw [Nat.testBit_and]
  cases hm : m.testBit k with
  | false => rfl
  | true =>
   have := hh k (by rw [Zdx]; exact hm)
   rw [Zdx] at this
   simp [this]
def nth : List Nat → Nat → Nat
 | [], _ => 0
 | m :: t, i => bif Nat.beq i 0 then m else nth t (i - 1)
theorem Zch (m : Nat) (t : List Nat) (i : Nat) : nth (m :: t) (i + 1) = nth t i := rfl
theorem Znm : ∀ (l : List Nat) (i : Nat), nth l i = l.getD i 0
 | [], i => by simp [nth]
 | m :: t, 0 => rfl
 | m :: t, i + 1 => by rw [Zch, Znm t i]; simp

structure Hi (ops : Array Oper) (n : Nat) (ms ap tm : List Nat) : Prop where
 size : ops.size = n
 len : ms.length = n
 nosel : Region.noSelect ops = true
 dep : ∀ j o, ops[j]? = some o → ∀ e ∈ o.after, Region.binds .any e = true → tb (nth ms j) e.on = true ∧ e.on < n
 dep' : ∀ j o, ops[j]? = some o → ∀ k, tb (nth ms j) k = true → ∃ e ∈ o.after, Region.binds .any e = true ∧ e.on = k
 apt : ∀ i j oi oj, ops[i]? = some oi → ops[j]? = some oj → tb (nth ap i) j = true → oi.apart ops oj = true
 anc : ∀ j i, tb (nth tm j) i = true → Zfp ops ops.size j i = true

def Zfh (o : Oper) : Nat := Kq ((o.after.toList.filter (Region.binds .any)).map (·.on))
def Zjl (n : Nat) : List Oper → List Nat → Bool
 | [], [] => true
 | o :: t, m :: u => Nat.beq (Zfh o) m && Nat.blt m (2 ^ n) && Zjl n t u
 | _, _ => false
def Zkb (ops : Array Oper) : List Oper → List Nat → Bool
 | [], _ => true
 | _, [] => true
 | o :: t, m :: u => (Nat.beq m 0 || aptIn ops o m 0 ops.toList) && Zkb ops t u
where aptIn (ops : Array Oper) (o : Oper) (m : Nat) : Nat → List Oper → Bool
 | _, [] => true
 | j, q :: t => (!tb m j || o.apart ops q) && aptIn ops o m (j + 1) t
def Zil (ms : List Nat) : Nat → List Nat → List Nat → Bool
 | _, [], _ => true
 | j, t :: ts, past => sb t (Nat.lor (nth ms j) (ancUp (nth ms j) (j - 1) past)) && Nat.blt (nth ms j) (2 ^ j) && Zil ms (j + 1) ts (t :: past)
where ancUp (m : Nat) : Nat → List Nat → Nat
 | _, [] => 0
 | k, t :: past => Nat.lor (bif tb m k then t else 0) (ancUp m (k - 1) past)
def Znt (ops : Array Oper) (n : Nat) (ms ap tm : List Nat) : Bool :=
 Nat.beq ops.size n && Nat.beq ms.length n && Nat.beq tm.length n && Region.noSelect ops && Zjl n ops.toList ms && Zkb ops ops.toList ap && Zil ms 0 tm []

theorem Zec {n : Nat} : ∀ {l : List Oper} {ms : List Nat}, Zjl n l ms = true → ∀ j o, l[j]? = some o → Zfh o = nth ms j ∧ nth ms j < 2 ^ n
 | [], _, _, j, o, h => by simp at h
 | o' :: t, [], h, _, _, _ => by simp [Zjl] at h
 | o' :: t, m :: u, h, j, o, ho => by
  simp only [Zjl, Bool.and_eq_true] at h
  obtain ⟨⟨h1, h2⟩, h3⟩ := h
  cases j with
  | zero =>
   simp at ho; subst ho
   exact ⟨Nat.eq_of_beq_eq_true h1, Nat.le_of_ble_eq_true h2⟩
  | succ j => rw [Zch]; exact Zec h3 j o (by simpa using ho)
theorem Zkc {ops : Array Oper} {o : Oper} {m : Nat} : ∀ {l : List Oper} {k : Nat}, Zkb.aptIn ops o m k l = true → ∀ j q, l[j]? = some q → tb m (k + j) = true → o.apart ops q = true
 | [], _, _, j, q, h, _ => by simp at h
 | q' :: t, k, h, j, q, hq, hb => by
  simp only [Zkb.aptIn, Bool.and_eq_true] at h
  cases j with
  | zero =>
   simp at hq; subst hq
   have := h.1
   rw [Nat.add_zero] at hb
   rw [hb] at this
   simpa using this
  | succ j => exact Zkc h.2 j q (by simpa using hq) (by rw [show k + 1 + j = k + (j + 1) by omega]; exact hb)
theorem Ze9 (k : Nat) : tb 0 k = false := by rw [Zdx]; simp
theorem Zjh {ops : Array Oper} : ∀ {l : List Oper} {ap : List Nat}, Zkb ops l ap = true → ∀ i oi, l[i]? = some oi → ∀ j oj, ops[j]? = some oj → tb (nth ap i) j = true → oi.apart ops oj = true
 | [], _, _, i, oi, h, _, _, _, _ => by simp at h
 | o :: t, [], _, i, oi, _, j, oj, _, hb => by simp [nth, Ze9] at hb
 | o :: t, m :: u, h, i, oi, hi, j, oj, hj, hb => by
  simp only [Zkb, Bool.and_eq_true] at h
  cases i with
  | zero =>
   simp at hi; subst hi
   have hb' : tb m j = true := hb
   have h1 := h.1
   have hm : Nat.beq m 0 = false := by
    cases hm : Nat.beq m 0 with
    | false => rfl
    | true => rw [Nat.eq_of_beq_eq_true hm, Ze9] at hb'; cases hb'
   rw [hm, Bool.false_or] at h1
   exact Zkc h1 j oj (by simpa using hj) (by rw [Nat.zero_add]; exact hb')
  | succ i => rw [Zch] at hb; exact Zjh h.2 i oi (by simpa using hi) j oj hj hb
theorem Zqx {l : List Nat} {k : Nat} : tb (Kq l) k = true ↔ k ∈ l := by rw [Zd7]; simp
theorem Zf1 {o : Oper} {k : Nat} : tb (Zfh o) k = true ↔ ∃ e ∈ o.after, Region.binds .any e = true ∧ e.on = k := by
 unfold Zfh
 rw [Zqx]
 simp only [List.mem_map, List.mem_filter, Array.mem_toList_iff]
 constructor
 ·rintro ⟨e, ⟨h1, h2⟩, h3⟩; exact ⟨e, h1, h2, h3⟩
 ·rintro ⟨e, h1, h2, h3⟩; exact ⟨e, ⟨h1, h2⟩, h3⟩
theorem Zu6 {m k n : Nat} (h : tb m k = true) (hm : m < 2 ^ n) : k < n := by
 rw [Zdx] at h
 rcases Nat.lt_or_ge k n with h1 | h1
 ·exact h1
 ·have := Nat.testBit_lt_two_pow (x := m) (i := k) (Nat.lt_of_lt_of_le hm (Nat.pow_le_pow_right (by omega) h1))
  rw [this] at h; cases h
theorem Zrx (a b k : Nat) : tb (Nat.lor a b) k = (tb a k || tb b k) := by
 rw [Zdx, Zdx, Zdx]
 show (a ||| b).testBit k = _
 rw [Nat.testBit_or]
theorem Zka {m i : Nat} : ∀ {past : List Nat} {k : Nat}, tb (Zil.ancUp m k past) i = true → ∃ q t, past[q]? = some t ∧ tb m (k - q) = true ∧ tb t i = true
 | [], k, h => by simp [Zil.ancUp, Ze9] at h
 | t :: past, k, h => by
  simp only [Zil.ancUp, Zrx, Bool.or_eq_true] at h
  rcases h with h | h
  ·cases hm : tb m k with
   | false => rw [hm] at h; simp [Ze9] at h
   | true => rw [hm] at h; exact ⟨0, t, rfl, by simpa using hm, by simpa using h⟩
  ·obtain ⟨q, t', h1, h2, h3⟩ := Zka h
   exact ⟨q + 1, t', by simpa using h1, by rwa [show k - (q + 1) = k - 1 - q by omega], h3⟩
theorem Zjr {ops : Array Oper} {n : Nat} {ms : List Nat} (hsz : ops.size = n) (hdep : Zjl n ops.toList ms = true) (hml : ms.length = n) : ∀ (ts past : List Nat) (j : Nat), Zil ms j ts past = true → past.length = j → j + ts.length = n →
  (∀ q t, past[q]? = some t → ∀ i, tb t i = true → ∀ f, j - 1 - q < f → Zfp ops f (j - 1 - q) i = true) → ∀ r t, ts[r]? = some t → ∀ i, tb t i = true → ∀ f, j + r < f → Zfp ops f (j + r) i = true
 | [], _, _, _, _, _, _, r, t, hr, _, _, _, _ => by simp at hr
 | t0 :: ts, past, j, h, hp, hl, hpast, r, t, hr, i, hi, f, hf => by
  simp only [Zil, Bool.and_eq_true] at h
  obtain ⟨⟨h1, h2⟩, h3⟩ := h
  have hj : j < n := by simp at hl; omega
  have here : ∀ i, tb t0 i = true → ∀ f, j < f → Zfp ops f j i = true := by
   intro i hi f hf
   cases f with
   | zero => omega
   | succ f =>
    have hji := hj
    have ho : ops[j]? = some (ops[j]'(by omega)) := Array.getElem?_eq_getElem _
    have hm := (Zec hdep j (ops[j]'(by omega)) (by rw [Array.getElem?_toList]; exact ho)).1
    have h4 := Zgl.1 h1 i hi
    rw [Zrx, Bool.or_eq_true] at h4
    simp only [Zfp, ho, Option.map_some, Option.getD_some, Array.any_eq_true']
    rcases h4 with h4 | h4
    ·rw [← hm] at h4
     obtain ⟨e, he1, he2, he3⟩ := Zf1.1 h4
     exact ⟨e, he1, by simp [he2, he3]⟩
    ·obtain ⟨q, t', e1, e2, e3⟩ := Zka h4
     have e2' := e2
     rw [← hm] at e2
     obtain ⟨e, he1, he2, he3⟩ := Zf1.1 e2
     have hlt : j - 1 - q < j := Zu6 e2' (Nat.le_of_ble_eq_true h2)
     have := hpast q t' e1 i e3 f (by omega)
     exact ⟨e, he1, by simp [he2, he3, this]⟩
  cases r with
  | zero => simp at hr; subst hr; rw [Nat.add_zero] at hf ⊢; exact here i hi f hf
  | succ r =>
   have := Zjr hsz hdep hml ts (t0 :: past) (j + 1) h3 (by simp [hp]) (by simp at hl; omega) (fun q t' hq i' hi' f' hf' => by
    cases q with
    | zero => simp at hq; subst hq; simp at hf' ⊢; exact here i' hi' f' (by omega)
    | succ q =>
     have := hpast q t' (by simpa using hq) i' hi' f' (by omega)
     rwa [show j + 1 - 1 - (q + 1) = j - 1 - q by omega]) r t (by simpa using hr) i hi f (by omega)
   rwa [show j + 1 + r = j + (r + 1) by omega] at this
theorem Zsa {ops : Array Oper} {n : Nat} {ms ap tm : List Nat} (h : Znt ops n ms ap tm = true) : Hi ops n ms ap tm := by
 simp only [Znt, Bool.and_eq_true] at h
 obtain ⟨⟨⟨⟨⟨⟨h1, h2⟩, h3⟩, h4⟩, h5⟩, h6⟩, h7⟩ := h
 have hsz := Nat.eq_of_beq_eq_true h1
 have hml := Nat.eq_of_beq_eq_true h2
 have htl := Nat.eq_of_beq_eq_true h3
 refine ⟨hsz, hml, h4, ?_, ?_, ?_, ?_⟩
 ·intro j o ho e he hb
  obtain ⟨e1, e2⟩ := Zec h5 j o (by simpa using ho)
  have h8 : tb (nth ms j) e.on = true := by rw [← e1]; exact Zf1.2 ⟨e, he, hb, rfl⟩
  exact ⟨h8, Zu6 h8 e2⟩
 ·intro j o ho k hk
  obtain ⟨e1, e2⟩ := Zec h5 j o (by simpa using ho)
  rw [← e1] at hk
  exact Zf1.1 hk
 ·intro i j oi oj hi hj hb
  exact Zjh h6 i oi (by simpa using hi) j oj hj hb
 ·intro j i hb
  have hj : j < n := by
   rcases Nat.lt_or_ge j n with h8 | h8
   ·exact h8
   ·rw [Znm, List.getD_eq_getElem?_getD, List.getElem?_eq_none (by omega)] at hb
    simp [Ze9] at hb
  have ht : tm[j]? = some (nth tm j) := by
   have : j < tm.length := by omega
   rw [Znm, List.getD_eq_getElem?_getD, List.getElem?_eq_getElem this]; rfl
  have := Zjr hsz h5 hml tm [] 0 h7 rfl (by omega) (fun q t hq => by simp at hq) j _ ht i hb ops.size (by omega)
  rwa [Nat.zero_add] at this

section
variable {ops : Array Oper} {m : Nat} {ms ap tm : List Nat}
def Zp8 (ms : List Nat) (D i : Nat) : Bool := !tb D i && sb (nth ms i) D
def Zgw (D i : Nat) : Nat → List Nat → Bool
 | _, [] => true
 | j, d :: t => (Nat.beq j i || tb D j || !sb d D) && Zgw D i (j + 1) t
def Zl4 (D i a : Nat) : Nat → List Nat → Bool
 | _, [] => true
 | j, d :: t => (Nat.beq j i || tb D j || tb d i || tb a j) && Zl4 D i a (j + 1) t
def Zgu (D : Nat) : Nat → List Nat → Bool
 | _, [] => true
 | j, d :: t => (!tb D j || sb d D) && Zgu D (j + 1) t
theorem Zj8 {D i : Nat} : ∀ {l : List Nat} {k : Nat}, Zgw D i k l = true → ∀ j, j < l.length → k + j = i ∨ tb D (k + j) = true ∨ sb (nth l j) D = false
 | [], _, _, j, h => by simp at h
 | d :: t, k, h, j, hj => by
  simp only [Zgw, Bool.and_eq_true, Bool.or_eq_true, Bool.not_eq_true'] at h
  cases j with
  | zero =>
   rcases h.1 with (h1 | h1) | h1
   ·left; simpa using Nat.eq_of_beq_eq_true h1
   ·right; left; simpa using h1
   ·right; right; exact h1
  | succ j => have := Zj8 h.2 j (by simpa using hj); rwa [show k + 1 + j = k + (j + 1) by omega] at this
theorem Zjm {D i a : Nat} : ∀ {l : List Nat} {k : Nat}, Zl4 D i a k l = true → ∀ j, j < l.length → k + j = i ∨ tb D (k + j) = true ∨ tb (nth l j) i = true ∨ tb a (k + j) = true
 | [], _, _, j, h => by simp at h
 | d :: t, k, h, j, hj => by
  simp only [Zl4, Bool.and_eq_true, Bool.or_eq_true] at h
  cases j with
  | zero =>
   rcases h.1 with ((h1 | h1) | h1) | h1
   ·left; simpa using Nat.eq_of_beq_eq_true h1
   ·right; left; simpa using h1
   ·right; right; left; exact h1
   ·right; right; right; simpa using h1
  | succ j => have := Zjm h.2 j (by simpa using hj); rwa [show k + 1 + j = k + (j + 1) by omega] at this
theorem Zj1 {D : Nat} : ∀ {l : List Nat} {k : Nat}, Zgu D k l = true → ∀ j, j < l.length → tb D (k + j) = false ∨ sb (nth l j) D = true
 | [], _, _, j, h => by simp at h
 | d :: t, k, h, j, hj => by
  simp only [Zgu, Bool.and_eq_true, Bool.or_eq_true, Bool.not_eq_true'] at h
  cases j with
  | zero => exact h.1
  | succ j => have := Zj1 h.2 j (by simpa using hj); rwa [show k + 1 + j = k + (j + 1) by omega] at this
theorem Zc3 {n i : Nat} (h : i < n) (done : List Nat) (b : Bool) : (lst n done).getD i b = tb (Kq done) i := by rw [Zog h, Zd7]
theorem Hi.ready (hS : Hi ops m ms ap tm) {done : List Nat} {i : Nat} (h : Zp8 ms (Kq done) i = true) (hi : i < m) : i ∈ Region.ready .any ops (lst ops.size done) := by
 simp only [Zp8, Bool.and_eq_true, Bool.not_eq_true'] at h
 have hlt : i < ops.size := by rw [hS.size]; exact hi
 rw [mem_ready]
 refine ⟨by rw [Zc3 hlt]; exact h.1, ops[i], Array.getElem?_eq_getElem hlt, fun e he hb => ?_⟩
 obtain ⟨h1, h2⟩ := hS.dep i _ (Array.getElem?_eq_getElem hlt) e he hb
 rw [Zc3 (by rw [hS.size]; exact h2)]
 exact Zgl.1 h.2 _ h1
theorem Hi.only (hS : Hi ops m ms ap tm) {done : List Nat} {i : Nat} (h : Zgw (Kq done) i 0 ms = true) : ∀ j ∈ Region.ready .any ops (lst ops.size done), j = i := by
 intro j hj
 obtain ⟨h1, o, ho, h2⟩ := mem_ready.1 hj
 have hlt : j < ops.size := (Array.getElem?_eq_some_iff.1 ho).1
 rw [Zc3 hlt] at h1
 rcases Zj8 h j (by rw [hS.len, ← hS.size]; exact hlt) with h3 | h3 | h3
 ·omega
 ·rw [Nat.zero_add] at h3; rw [h3] at h1; cases h1
 ·have : sb (nth ms j) (Kq done) = true := Zgl.2 fun k hk => by
   obtain ⟨e, he, hb, rfl⟩ := hS.dep' j o ho k hk
   have := h2 e he hb
   rwa [Zc3 (by rw [hS.size]; exact (hS.dep j o ho e he hb).2)] at this
  rw [this] at h3; cases h3
theorem Hi.free (hS : Hi ops m ms ap tm) {done : List Nat} {i : Nat} {oi : Oper} (hi : ops[i]? = some oi) (h : Zl4 (Kq done) i (nth ap i) 0 ms = true) :
  ∀ j oj, ops[j]? = some oj → j ≠ i → (lst ops.size done).getD j true = false → (∀ e ∈ oj.after, Region.binds .any e = true → e.on ≠ i) → oi.apart ops oj = true := by
 intro j oj hj hne hun hno
 have hlt : j < ops.size := (Array.getElem?_eq_some_iff.1 hj).1
 rw [Zc3 hlt] at hun
 rcases Zjm h j (by rw [hS.len, ← hS.size]; exact hlt) with h3 | h3 | h3 | h3
 ·omega
 ·rw [Nat.zero_add] at h3; rw [h3] at hun; cases hun
 ·obtain ⟨e, he, hb, hk⟩ := hS.dep' j oj hj i h3
  exact absurd hk (hno e he hb)
 ·rw [Nat.zero_add] at h3; exact hS.apt i j oi oj hi hj h3
theorem Hi.closed (hS : Hi ops m ms ap tm) {done : List Nat} (h : Zgu (Kq done) 0 ms = true) : Zgm ops (lst ops.size done) := by
 intro j o hj ho e he hb
 have hlt : j < ops.size := (Array.getElem?_eq_some_iff.1 ho).1
 rw [Zc3 hlt] at hj
 obtain ⟨h1, h2⟩ := hS.dep j o ho e he hb
 rcases Zj1 h j (by rw [hS.len, ← hS.size]; exact hlt) with h3 | h3
 ·rw [Nat.zero_add] at h3; rw [h3] at hj; cases hj
 ·rw [Zc3 (by rw [hS.size]; exact h2)]; exact Zgl.1 h3 _ h1
def Ze3 (m : Nat) (ms ap : List Nat) (D i : Nat) : Bool := Nat.blt i m && Zp8 ms D i && Zl4 D i (nth ap i) 0 ms
def Zh6 (tm : List Nat) (i : Nat) : List Nat → Bool
 | [] => true
 | j :: t => tb (nth tm j) i && Zh6 tm i t
theorem Zj3 {i : Nat} : ∀ {l : List Nat}, Zh6 tm i l = true → ∀ j ∈ l, tb (nth tm j) i = true
 | [], _, j, h => by cases h
 | a :: l, h, j, hj => by
  simp only [Zh6, Bool.and_eq_true] at h
  rcases List.mem_cons.1 hj with rfl | hj
  ·exact h.1
  ·exact Zj3 h.2 j hj
end
section
variable {P : Program} {n : Nat} {N : Nxt} {X : Nat → Nxt} {R : Nxt} {L : Loc} {w : World} {ops : Array Oper} {late : List Nat} {J : World → Prop} {d t : Nat} {pos : String} {aft : Array Edge} {fuel : Nat} {done : List Nat} {m : Nat} {ms ap tm : List Nat}
theorem Qn {id : Nat} {l : List Oper} (m : Nat) (ms ap tm : List Nat) (late : List Nat) (J : World → Prop) (hm : P.follows .mixedOrders = true) (hB : Znt l.toArray m ms ap tm = true) (h : Hi l.toArray m ms ap tm → OD P n l.toArray late J l.length [] N L { w with drawn := w.drawn + 1 }) : W P n (.region id l.toArray true) N X R L w :=
 Zv0 late J hm (h (Zsa hB))
theorem Zme {i : Nat} {op : Op} {v : Value} {g : Option (Nat × Bool)} (hS : Hi ops m ms ap tm) (hi : ops[i]? = some ⟨some d, op, t, pos, aft, g⟩) (hd : Nat.blt d n = true) (hok : (Ze3 m ms ap (Kq done) i && (Zgu (Kq done) 0 ms && Zh6 tm i late)) = true) (hJ : J w)
  (hy : ∀ a, Sat n L a → YI P ops J ⟨some d, op, t, pos, aft, g⟩ v a) (k : OD P n ops late J fuel (i :: done) N ((d, v) :: L) w) : OD P n ops late J (fuel + 1) done N L w := by
 intro a ha
 simp only [Ze3, Bool.and_eq_true] at hok
 obtain ⟨⟨⟨h1, h2⟩, h3⟩, h4, h5⟩ := hok
 refine Zkj hi (fun j hj => hS.anc j i (Zj3 h5 j hj)) (Region.noSelect_spec hS.nosel) (fun c a w hq => by cases hq.1) fuel _ a w (hS.closed h4) (hS.free hi h3) (hS.ready h2 (Nat.le_of_ble_eq_true h1)) hJ (hy a ha) ?_
 rw [Zlm]
 exact k _ (ha.put hd v)
theorem Zd6 {i : Nat} {op : Op} {v : Value} {g : Option (Nat × Bool)} (hS : Hi ops m ms ap tm) (hi : ops[i]? = some ⟨some d, op, t, pos, aft, g⟩) (hd : Nat.blt d n = true) (hok : Ze3 m ms ap (Kq done) i = true)
  (hy : ∀ a, Sat n L a → YI P ops (fun _ => True) ⟨some d, op, t, pos, aft, g⟩ v a) (k : OD P n ops late J fuel (i :: done) N ((d, v) :: L) w) : OD P n ops late J (fuel + 1) done N L w := by
 intro a ha
 simp only [Ze3, Bool.and_eq_true] at hok
 obtain ⟨⟨h1, h2⟩, h3⟩ := hok
 refine Zi4 hi (fun j o cs b hj => Region.noSelect_spec hS.nosel j o cs b hj) (fun c a w hq => by cases hq.1) fuel _ a w (hS.free hi h3) (hS.ready h2 (Nat.le_of_ble_eq_true h1)) (hy a ha) ?_
 rw [Zlm]
 exact k _ (ha.put hd v)
theorem Zwy {i : Nat} {op : Op} {v : Value} (hS : Hi ops m ms ap tm) (hi : ops[i]? = some ⟨some d, op, t, pos, aft, none⟩) (hd : Nat.blt d n = true) (hok : (Ze3 m ms ap (Kq done) i && (Zgu (Kq done) 0 ms && Zh6 tm i late)) = true) (hJ : J w)
  (hy : ∀ w, J w → Y P n L w op t v) (k : OD P n ops late J fuel (i :: done) N ((d, v) :: L) w) : OD P n ops late J (fuel + 1) done N L w :=
 Zme hS hi hd hok hJ (fun a ha => .inl ⟨rfl, fun w hw => hy w hw a ha _ _ _ _⟩) k
theorem Zt0 {i j dj : Nat} {b : Bool} {op : Op} {v : Value} (hS : Hi ops m ms ap tm) (hi : ops[i]? = some ⟨some d, op, t, pos, aft, some (j, b)⟩) (hj : (ops[j]?).bind (·.dst) = some dj) (hl : lk dj L = some (.bool b)) (hd : Nat.blt d n = true) (hok : (Ze3 m ms ap (Kq done) i && (Zgu (Kq done) 0 ms && Zh6 tm i late)) = true) (hJ : J w)
  (hy : ∀ w, J w → Y P n L w op t v) (k : OD P n ops late J fuel (i :: done) N ((d, v) :: L) w) : OD P n ops late J (fuel + 1) done N L w :=
 Zme hS hi hd hok hJ (fun a ha => .inl ⟨by simp only [Region.wanted, Ze4 ha hj hl, BEq.rfl], fun w hw => hy w hw a ha _ _ _ _⟩) k
theorem Zbf {i : Nat} {op : Op} {v : Value} (hS : Hi ops m ms ap tm) (hi : ops[i]? = some ⟨some d, op, t, pos, aft, none⟩) (hd : Nat.blt d n = true) (hok : Ze3 m ms ap (Kq done) i = true)
  (hy : ∀ w, Y P n L w op t v) (k : OD P n ops late J fuel (i :: done) N ((d, v) :: L) w) : OD P n ops late J (fuel + 1) done N L w :=
 Zd6 hS hi hd hok (fun a ha => .inl ⟨rfl, fun w _ => hy w a ha _ _ _ _⟩) k
theorem Zsx {i j dj : Nat} {b : Bool} {op : Op} {v : Value} (hS : Hi ops m ms ap tm) (hi : ops[i]? = some ⟨some d, op, t, pos, aft, some (j, b)⟩) (hj : (ops[j]?).bind (·.dst) = some dj) (hl : lk dj L = some (.bool b)) (hd : Nat.blt d n = true) (hok : Ze3 m ms ap (Kq done) i = true)
  (hy : ∀ w, Y P n L w op t v) (k : OD P n ops late J fuel (i :: done) N ((d, v) :: L) w) : OD P n ops late J (fuel + 1) done N L w :=
 Zd6 hS hi hd hok (fun a ha => .inl ⟨by simp only [Region.wanted, Ze4 ha hj hl, BEq.rfl], fun w _ => hy w a ha _ _ _ _⟩) k
theorem Zvx {i j dj : Nat} {b c : Bool} {op : Op} (hS : Hi ops m ms ap tm) (hi : ops[i]? = some ⟨some d, op, t, pos, aft, some (j, b)⟩) (hj : (ops[j]?).bind (·.dst) = some dj) (hl : lk dj L = some (.bool c)) (hc : c = !b) (hd : Nat.blt d n = true) (hok : Ze3 m ms ap (Kq done) i = true)
  (k : OD P n ops late J fuel (i :: done) N ((d, undef) :: L) w) : OD P n ops late J (fuel + 1) done N L w :=
 Zd6 hS hi hd hok (fun a ha => .inr ⟨by
  simp only [Region.wanted, Ze4 ha hj hl]
  subst hc; cases b <;> rfl, rfl⟩) k
theorem Ztg {i j dj : Nat} {b : Bool} {op : Op} (hS : Hi ops m ms ap tm) (hi : ops[i]? = some ⟨some d, op, t, pos, aft, some (j, b)⟩) (hj : (ops[j]?).bind (·.dst) = some dj) (hl : lk dj L = some undef) (hd : Nat.blt d n = true) (hok : Ze3 m ms ap (Kq done) i = true)
  (k : OD P n ops late J fuel (i :: done) N ((d, undef) :: L) w) : OD P n ops late J (fuel + 1) done N L w :=
 Zd6 hS hi hd hok (fun a ha => .inr ⟨by simp only [Region.wanted, Zel ha hj hl]; rfl, rfl⟩) k
theorem Zlj {i : Nat} {o : Oper} (hS : Hi ops m ms ap tm) (hi : ops[i]? = some o) (hok : (Nat.blt i m && Zp8 ms (Kq done) i && Zgw (Kq done) i 0 ms) = true)
  (h : ∀ N' : Nxt, (∀ L' w', (late.contains i = false → J w → J w') → OD P n ops late J fuel (i :: done) N L' w' → N' L' w') → O P n ops [o] N' L w) : OD P n ops late J (fuel + 1) done N L w := by
 simp only [Bool.and_eq_true] at hok
 obtain ⟨⟨h1, h2⟩, h3⟩ := hok
 intro a ha
 refine ⟨fun h0 => (by have := hS.ready h2 (Nat.le_of_ble_eq_true h1); rw [h0] at this; cases this), fun q hq => ?_⟩
 obtain rfl := hS.only h3 q hq
 exact Zky hi h ha
def Zll (D i k : Nat) : Nat → List Nat → Bool
 | _, [] => true
 | j, d :: t => (Nat.beq j i || Nat.beq j k || tb D j || !sb d D) && Zll D i k (j + 1) t
theorem Zif {D i q : Nat} : ∀ {l : List Nat} {k : Nat}, Zll D i q k l = true → ∀ j, j < l.length → (k + j = i ∨ k + j = q) ∨ tb D (k + j) = true ∨ sb (nth l j) D = false
 | [], _, _, j, h => by simp at h
 | d :: t, k, h, j, hj => by
  simp only [Zll, Bool.and_eq_true, Bool.or_eq_true, Bool.not_eq_true'] at h
  cases j with
  | zero =>
   rcases h.1 with ((h1 | h1) | h1) | h1
   ·left; left; simpa using Nat.eq_of_beq_eq_true h1
   ·left; right; simpa using Nat.eq_of_beq_eq_true h1
   ·right; left; simpa using h1
   ·right; right; exact h1
  | succ j => have := Zif h.2 j (by simpa using hj); rwa [show k + 1 + j = k + (j + 1) by omega] at this
theorem Vk {i j : Nat} {o u : Oper} (hS : Hi ops m ms ap tm) (hi : ops[i]? = some o) (hj : ops[j]? = some u) (hok : (Nat.blt i m && Zp8 ms (Kq done) i && Zll (Kq done) i j 0 ms) = true)
  (h : ∀ N' : Nxt, (∀ L' w', (late.contains i = false → J w → J w') → OD P n ops late J fuel (i :: done) N L' w' → N' L' w') → O P n ops [o] N' L w)
  (k : ∀ N' : Nxt, (∀ L' w', (late.contains j = false → J w → J w') → OD P n ops late J fuel (j :: done) N L' w' → N' L' w') → O P n ops [u] N' L w) : OD P n ops late J (fuel + 1) done N L w := by
 simp only [Bool.and_eq_true] at hok
 obtain ⟨⟨h1, h2⟩, h3⟩ := hok
 intro a ha
 refine ⟨fun h0 => (by have := hS.ready h2 (Nat.le_of_ble_eq_true h1); rw [h0] at this; cases this), fun q hq => ?_⟩
 obtain ⟨e1, o', ho, e2⟩ := mem_ready.1 hq
 have hlt : q < ops.size := (Array.getElem?_eq_some_iff.1 ho).1
 rw [Zc3 hlt] at e1
 rcases Zif h3 q (by rw [hS.len, ← hS.size]; exact hlt) with (h4 | h4) | h4 | h4
 ·obtain rfl : q = i := by omega
  exact Zky hi h ha
 ·obtain rfl : q = j := by omega
  exact Zky hj k ha
 ·rw [Nat.zero_add] at h4; rw [h4] at e1; cases e1
 ·have : sb (nth ms q) (Kq done) = true := Zgl.2 fun b hb => by
   obtain ⟨e, he, hbb, rfl⟩ := hS.dep' q o' ho b hb
   have := e2 e he hbb
   rwa [Zc3 (by rw [hS.size]; exact (hS.dep q o' ho e he hbb).2)] at this
  rw [this] at h4; cases h4
theorem Zhn (hS : Hi ops m ms ap tm) (hr : Zgw (Kq done) m 0 ms = true) (h : N L w) : OD P n ops late J fuel done N L w := by
 refine Zue ?_ h
 apply List.eq_nil_iff_forall_not_mem.2
 intro q hq
 have h1 := hS.only hr q hq
 obtain ⟨_, o, ho, _⟩ := mem_ready.1 hq
 have : q < ops.size := (Array.getElem?_eq_some_iff.1 ho).1
 rw [hS.size] at this; omega
theorem Ke {w0 : World} {ρ : Hp} {Γ : List Q5} (hS : Hi ops m ms ap tm) (late' : List Nat) (hs : St w0 ρ Γ w)
  (hl : sb (Nat.pred (Nat.pow 2 m)) (Nat.lor (Kq done) (Kq late)) = true) (h : OD P n ops late' (fun w => St w0 ρ Γ w) fuel done N L w) : OD P n ops late J fuel done N L w := by
 refine Zs6 late' _ ?_ h
 rw [List.all_eq_true]
 intro i hi
 have hlt : i < m := by rw [← hS.size]; exact List.mem_range.1 hi
 have h1 : tb (Nat.pred (Nat.pow 2 m)) i = true := by
  rw [Zdx]
  show (2 ^ m - 1).testBit i = true
  rw [Nat.testBit_two_pow_sub_one]; simpa using hlt
 have := Zgl.1 hl i h1
 rwa [Zrx, Zd7, Zd7] at this
theorem WL.weak {c : Code} (L' : Loc) (hs : Sub L' L) (h : WL P n c X R L' w) : WL P n c X R L w := fun a ha => h a (ha.weak hs)
theorem Zsl (h : ∀ Q : List Nat → (World → Prop) → Nat → List Nat → Loc → World → Prop, (∀ late J fuel done L w, OD P n ops late J fuel done N L w ↔ Q late J fuel done L w) → Q late J fuel done L w) : OD P n ops late J fuel done N L w :=
 h (fun late J fuel done L w => OD P n ops late J fuel done N L w) (fun _ _ _ _ _ _ => Iff.rfl)
theorem Zsm {k : Nat} {a b : List Nat} (h : Kq a = Kq b) : lst k a = lst k b := by
 apply Array.ext
 ·simp [lst]
 ·intro i h1 h2
  simp only [lst, List.getElem_toArray, List.getElem_map, List.getElem_range]
  rw [← Zd7, ← Zd7, h]
theorem Xr {fuel' : Nat} {done' : List Nat} (hf : fuel = fuel') (hd : Nat.beq (Kq done) (Kq done') = true) (h : OD P n ops late J fuel' done' N L w) : OD P n ops late J fuel done N L w := by
 subst hf
 intro a ha
 rw [Zsm (Nat.eq_of_beq_eq_true hd)]
 exact h a ha
end
end Go.Proofs.YthoicbafdanmkaaGreatDoor
/- Windows: a stretch of an own row is handed down as a slice, is read and is written. Own work of this repo. -/
namespace Go.Proofs.YthoicbafdanmkaaGreatDoor
open Go.RowKit
section
variable {P : Program} {n : Nat} {N : Nxt} {L : Loc} {w w0 : World} {ops : Array Oper} {rest : List Oper} {d t : Nat} {pos : String} {aft : Array Edge} {ρ : Hp} {Γ : List Q5} {x y : Operand}

def Win (v : Value) (lo m : Nat) (d : Value) : Prop := ∃ a c, d = .slice a m c ∧ m ≤ c ∧ (0 < m → ∃ g, v.ownBlock = some g ∧ a = some ⟨g, lo, none⟩)
theorem Win.one {v d : Value} {lo m : Nat} (h : Win v lo m d) : d.oneCell' = true := by obtain ⟨a, c, rfl, _⟩ := h; rfl
theorem Ztr {sl e bytes lo m g : Nat} {v d : Value} {k : IntKind} {i : Int} (he : Vn P sl e 1 bytes) (hw : Win v lo m d) (hg : v.ownBlock = some g) (hx : ev L x = some d) (hy : ev L y = some (.int k i)) (h0 : 0 ≤ i) (h1 : i < (m : Int)) :
  Y P n L w (.indexAddr sl x y) t (.pointer (some ⟨g, lo + i.toNat, none⟩)) := by
 obtain ⟨a, c, rfl, hc, hp⟩ := hw
 obtain ⟨g', e1, rfl⟩ := hp (by omega)
 rw [hg] at e1
 cases e1
 have := Zvv (n := n) (L := L) (w := w) (t := t) he hx hy h0 h1
 simpa using this
theorem Zt3 {ty j e m g q : Nat} {v : Value} {cs : List Value} {xs : List Int} {k : IntKind} (ha : Xe P ty = some false) (hs : St w0 ρ Γ w) (hi : Γ[j]? = some (.row v e 1 m cs)) (hg : v.ownBlock = some g) (hr : Zm (Rep.int k) ρ cs xs) (hq : q < xs.length)
  (hx : ev L x = some (.pointer (some ⟨g, q, none⟩))) : Y P n L w (.load ty x) t (.int k (rd xs (q : Int))) := by
 obtain ⟨c, hc, hcs⟩ := hr.2 q (rd xs (q : Int)) (by have := Zlr (xs := xs) (i := (q : Int)) (by omega) (by omega); simpa using this)
 have hc : c = [.int k (rd xs (q : Int))] := hc
 have := hcs 0 (.int k (rd xs (q : Int))) (by rw [hc]; rfl)
 have hsz : (Rep.int k).sz = 1 := rfl
 rw [hsz, Nat.mul_one, Nat.add_zero] at this
 exact Xp ha hx (hs.rowCell hi hg this)
theorem Zm.setInt {k : IntKind} {cs : List Value} {xs : List Int} (hr : Zm (Rep.int k) ρ cs xs) (q : Nat) (z : Int) : Zm (Rep.int k) ρ (cs.set q (.int k z)) (xs.set q z) := by
 have hsz : (Rep.int k).sz = 1 := rfl
 refine ⟨by simpa using hr.1, fun i u hu => ⟨[.int k u], rfl, fun j a ha => ?_⟩⟩
 rw [hsz, Nat.mul_one]
 cases j with
 | succ j => simp at ha
 | zero =>
  simp only [List.getElem?_cons_zero, Option.some.injEq] at ha
  subst ha
  rw [Nat.add_zero]
  by_cases c : q = i
  ·subst c
   have hl : q < xs.length := by
    have := List.getElem?_eq_some_iff.1 hu
    obtain ⟨h, _⟩ := this; simpa using h
   rw [List.getElem?_set_self hl] at hu
   rw [List.getElem?_set_self (by rw [hr.1, hsz]; omega)]
   simp only [Option.some.injEq] at hu ⊢
   rw [hu]
  ·rw [List.getElem?_set_ne c] at hu
   rw [List.getElem?_set_ne c]
   obtain ⟨c', h1, h2⟩ := hr.2 i u hu
   have h1 : c' = [.int k u] := h1
   have := h2 0 (.int k u) (by rw [h1]; rfl)
   rw [hsz, Nat.mul_one, Nat.add_zero] at this
   exact this
end
end Go.Proofs.YthoicbafdanmkaaGreatDoor
/- Windows as lists: what a stretch of an own row holds, handed down, is read and written as a list of its own; what stands ahead of it and behind it stays. Own work of this repo. -/
namespace Go.Proofs.YthoicbafdanmkaaGreatDoor
open Go.RowKit
section
variable {P : Program} {n : Nat} {N : Nxt} {L : Loc} {w w0 : World} {ops : Array Oper} {rest : List Oper} {t : Nat} {pos : String} {aft : Array Edge} {ρ ρ' : Hp} {Γ : List Q5} {x y : Operand}
variable {k : IntKind} {rv d : Value} {cs : List Value} {pre post ys : List Int}

def Ha (k : IntKind) (ρ : Hp) (rv : Value) (cs : List Value) (d : Value) (pre post ys : List Int) : Prop := Zm (Rep.int k) ρ cs (pre ++ (ys ++ post)) ∧ Win rv pre.length ys.length d
theorem Ha.mono (hle : Le ρ ρ') (h : Ha k ρ rv cs d pre post ys) : Ha k ρ' rv cs d pre post ys := ⟨h.1.mono hle, h.2⟩
theorem Ha.one (h : Ha k ρ rv cs d pre post ys) : d.oneCell' = true := h.2.one
theorem Zs8 {sl e : Nat} (hu : P.underlying sl = some (.slice e)) (h : Ha k ρ rv cs d pre post ys) (hx : ev L x = some d) : Y P n L w (.call { callee := .builtin .len, args := #[x], argTypes := #[sl] }) t (.int .i64 (ys.length : Int)) := by
 obtain ⟨_, a, c, rfl, _⟩ := h
 exact Zoo hu hx
theorem Ha.ix {sl e bytes : Nat} {i : Int} (h : Ha k ρ rv cs d pre post ys) (he : Vn P sl e (Rep.int k).sz bytes) (h0 : 0 ≤ i) (h1 : i < (ys.length : Int)) :
  ∃ g, rv.ownBlock = some g ∧ ∀ {n : Nat} {L : Loc} {w : World} {x y : Operand} {k' : IntKind} {t : TypeId}, ev L x = some d → ev L y = some (.int k' i) → Y P n L w (.indexAddr sl x y) t (.pointer (some ⟨g, pre.length + i.toNat, none⟩)) := by
 have hw := h.2
 obtain ⟨a, c, hd, hc, hp⟩ := h.2
 obtain ⟨g, e1, _⟩ := hp (by omega)
 exact ⟨g, e1, fun hx hy => Ztr he hw e1 hx hy h0 h1⟩
theorem Zv7 {i : Int} (h0 : 0 ≤ i) (h1 : i < (ys.length : Int)) : rd (pre ++ (ys ++ post)) ((pre.length + i.toNat : Nat) : Int) = rd ys i := by
 have hl : i.toNat < ys.length := by omega
 unfold rd
 rw [Int.toNat_natCast, List.getD_eq_getElem?_getD, List.getD_eq_getElem?_getD, List.getElem?_append_right (by omega), show pre.length + i.toNat - pre.length = i.toNat from by omega, List.getElem?_append_left hl]
theorem Ztw {i : Nat} {z : Int} (h1 : i < ys.length) : (pre ++ (ys ++ post)).set (pre.length + i) z = pre ++ (ys.set i z ++ post) := by
 rw [List.set_append_right _ _ (by omega), show pre.length + i - pre.length = i from by omega, List.set_append_left _ _ h1]
theorem Ho {ty j e m g : Nat} {i : Int} (ha : Xe P ty = some false) (hs : St w0 ρ Γ w) (hi : Γ[j]? = some (.row rv e (Rep.int k).sz m cs)) (hg : rv.ownBlock = some g) (h : Ha k ρ rv cs d pre post ys) (h0 : 0 ≤ i) (h1 : i < (ys.length : Int))
  (hx : ev L x = some (.pointer (some ⟨g, pre.length + i.toNat, none⟩))) : Y P n L w (.load ty x) t (.int k (rd ys i)) := by
 have := Zt3 (n := n) (t := t) ha hs hi hg h.1 (q := pre.length + i.toNat) (by simp only [List.length_append]; omega) hx
 rwa [Zv7 h0 h1] at this
theorem Ha.set {i : Int} {z : Int} (h : Ha k ρ rv cs d pre post ys) (h0 : 0 ≤ i) (h1 : i < (ys.length : Int)) : Ha k ρ rv (cs.set (pre.length + i.toNat) (.int k z)) d pre post (ys.set i.toNat z) := by
 refine ⟨?_, by rw [List.length_set]; exact h.2⟩
 have := h.1.setInt (pre.length + i.toNat) z
 rwa [Ztw (by omega)] at this
theorem Zcb {ty j e m g : Nat} {i z : Int} (hsz : Qm P ty = some 1) (hs : St w0 ρ Γ w) (hi : Γ[j]? = some (.row rv e (Rep.int k).sz m cs)) (hg : rv.ownBlock = some g) (h : Ha k ρ rv cs d pre post ys) (h0 : 0 ≤ i) (h1 : i < (ys.length : Int))
  (hx : ev L x = some (.pointer (some ⟨g, pre.length + i.toNat, none⟩))) (hy : ev L y = some (.int k z))
  (hK : ∀ cs' w', Ha k ρ rv cs' d pre post (ys.set i.toNat z) → St w0 ρ (Γ.set j (.row rv e (Rep.int k).sz m cs')) w' → O P n ops rest N L w') : O P n ops (⟨none, .store ty x y, t, pos, aft, none⟩ :: rest) N L w := by
 have hr := h.1
 exact Zet hsz hs hi hg (by have e1 := hr.1; have hs1 : (Rep.int k).sz = 1 := rfl; rw [hs1] at e1; simp only [List.length_append] at e1; omega) hx hy rfl fun w' hw' => hK _ w' (h.set h0 h1) hw'
theorem Ha.of {xs : List Int} {l h : Int} (hr : Zm (Rep.int k) ρ cs xs) (hw : Win rv l.toNat (h.toNat - l.toNat) d) (h0 : 0 ≤ l) (h1 : l ≤ h) (h2 : h ≤ (xs.length : Int)) :
  Ha k ρ rv cs d (xs.take l.toNat) (xs.drop h.toNat) (sub xs l h) := by
 have e1 : (xs.take l.toNat).length = l.toNat := by rw [List.length_take]; omega
 have e2 : (sub xs l h).length = h.toNat - l.toNat := by simp [sub]; omega
 refine ⟨?_, by rw [e1, e2]; exact hw⟩
 have : xs.take l.toNat ++ (sub xs l h ++ xs.drop h.toNat) = xs := by
  have a1 : xs.take h.toNat = xs.take l.toNat ++ sub xs l h := by
   have := List.take_append_drop l.toNat (xs.take h.toNat)
   rw [List.take_take, Nat.min_eq_left (by omega)] at this
   exact this.symm
  rw [← List.append_assoc, ← a1, List.take_append_drop]
 rw [this]; exact hr
theorem Zl8 {sl e bytes j : Nat} {v : Value} {xs : List Int} {l h : Int} (he : Vn P sl e (Rep.int k).sz bytes) (hs : St w0 ρ Γ w) (hi' : Γ[j]? = some (.row v e (Rep.int k).sz xs.length cs)) (h0 : 0 ≤ l) (h1 : l ≤ h) (h2 : h ≤ (xs.length : Int)) :
  ∃ d, Win v l.toNat (h.toNat - l.toNat) d ∧ ∀ {n : Nat} {L : Loc} {w : World} {x : Operand} {t : TypeId} {lo hi : Option Operand}, ev L x = some v → ((lo = none ∧ l = 0) ∨ ∃ z k, lo = some z ∧ ev L z = some (.int k l)) → ((hi = none ∧ h = (xs.length : Int)) ∨ ∃ z k, hi = some z ∧ ev L z = some (.int k h)) → Y P n L w (.slice sl x lo hi none) t d := by
 have hok : w.ownsRow 0 e (Rep.int k).sz v xs.length cs := hs.ok _ (List.mem_of_getElem? hi')
 rcases hok.2 with ⟨rfl, hm⟩ | ⟨g, cap, cur, rfl, _, _, hcm, _⟩
 ·refine ⟨_, ?_, fun hx hl hh => Zfj (m := 0) (c := 0) he hx hl (hh.imp (fun ab => ⟨ab.1, by have := ab.2; omega⟩) id) h0 h1 (by omega) (Nat.le_refl _)⟩
  exact ⟨_, _, rfl, by omega, fun hp => by omega⟩
 ·refine ⟨_, ?_, fun hx hl hh => Zfj he hx hl hh h0 h1 h2 (by omega)⟩
  have hs1 : (Rep.int k).sz = 1 := rfl
  refine ⟨_, _, rfl, by omega, fun hp => ⟨g, rfl, ?_⟩⟩
  rw [if_neg (by omega), hs1]
  simp [Addr.add]
  try omega
theorem St.rowLen {e sz m m' j : Nat} {v : Value} (hs : St w0 ρ Γ w) (hi : Γ[j]? = some (.row v e sz m cs)) (hm : m = m') : St w0 ρ (Γ.set j (.row v e sz m' cs)) w := by
 subst hm
 have : Γ.set j (.row v e sz m cs) = Γ := by
  apply List.ext_getElem? 
  intro q
  rw [List.getElem?_set]
  split
  ·rename_i h; subst h; split
   ·exact hi.symm
   ·rename_i h2; rw [List.getElem?_eq_none (by omega)]
  ·rfl
 rw [this]; exact hs
theorem Ha.done {m e j : Nat} (hs : St w0 ρ Γ w) (h : Ha k ρ rv cs d pre post ys) (hi : Γ[j]? = some (.row rv e (Rep.int k).sz m cs)) :
  Zm (Rep.int k) ρ cs (pre ++ (ys ++ post)) ∧ m = (pre ++ (ys ++ post)).length := by
 have hok : w.ownsRow 0 e (Rep.int k).sz rv m cs := hs.ok _ (List.mem_of_getElem? hi)
 have e1 := hok.1
 have e2 := h.1.1
 have hs1 : (Rep.int k).sz = 1 := rfl
 rw [hs1, Nat.mul_one] at e1 e2
 exact ⟨h.1, by rw [← e1, e2]⟩
end
end Go.Proofs.YthoicbafdanmkaaGreatDoor
/- Short names for the steps that come most often. Own work of this repo. -/
namespace Go.Proofs.YthoicbafdanmkaaGreatDoor
open Go.RowKit
theorem gd {α : Type} {p : Prop} [Decidable p] {x : Option α} {r : α} (H : (if p then x else none) = some r) : p ∧ x = some r := by
 by_cases c : p
 ·rw [if_pos c] at H; exact ⟨c, H⟩
 ·rw [if_neg c] at H; cases H
theorem Zz {α : Type} {a b : α} (h : some a = some b) : a = b := Option.some.inj h
theorem bft {b : Bool} (h : b = false) : ¬ b = true := by rw [h]; exact Bool.false_ne_true
theorem Ai {a b : Prop} (h : a) (k : b) : a ∧ b := ⟨h, k⟩
theorem ssr {α : Type} {l : List α} : l.Sublist l := List.Sublist.refl l
theorem ssk {α : Type} {a : α} {l m : List α} (h : l.Sublist m) : l.Sublist (a :: m) := h.cons _
theorem ssc {α : Type} {a : α} {l m : List α} (h : l.Sublist m) : (a :: l).Sublist (a :: m) := h.cons_cons _
section
variable {P : Program} {n : Nat} {N : Nxt} {X : Nat → Nxt} {R : Nxt} {L : Loc} {w w0 : World} {ops : Array Oper} {rest : List Oper} {d t : Nat} {pos : String} {aft : Array Edge} {ρ : Hp} {Γ : List Q5} {x y : Operand}
theorem S1 {a : Nat} {u : Value} (h : lk a L = some u) : Sub [(a, u)] L := Sub.cons h Sub.nil
theorem S2 {a b : Nat} {u v : Value} (h : lk a L = some u) (k : lk b L = some v) : Sub [(a, u), (b, v)] L := Sub.cons h (S1 k)
theorem Wr {id : Nat} {l : List Oper} {y : Code} (h : ∀ N' : Nxt, (∀ L w, W P n y N X R L w → N' L w) → O P n l.toArray l N' L w) : W P n (.seq (.region id l.toArray false) y) N X R L w := Zh fun N' h' => Zc (h N' h')
theorem Yb (i : Nat) {ty b o T : Nat} {cs : List Value} {v : Value} (ha : Xe P ty = some false) (hs : St w0 ρ Γ w) (hi : Γ[i]? = some (.box b T cs)) (hv : cs[o]? = some v) (hx : ev L x = some (.pointer (some ⟨b, o, none⟩))) : Y P n L w (.load ty x) t v := Zuo ha hs hi hv hx
end
section
variable {P : Program} {n : Nat} {ops : Array Oper} {late done : List Nat} {J : World → Prop} {N : Nxt} {L : Loc} {w : World} {d t : Nat} {pos : String} {aft : Array Edge} {fuel : Nat} {m : Nat} {ms ap tm : List Nat}
end
end Go.Proofs.YthoicbafdanmkaaGreatDoor
/- Strings: conversions, parts, one behind the other. Own work of this repo. -/
namespace Go.Proofs.YthoicbafdanmkaaGreatDoor
open Go.IntKind (i8 i16 i32 i64 u8 u16 u32 u64)
open Go.RowKit
section
variable {P : Program} {n : Nat} {N : Nxt} {L : Loc} {w w0 : World} {ops : Array Oper} {rest : List Oper} {d t : Nat} {pos : String} {aft : Array Edge} {ρ : Hp} {Γ : List Q5} {x y : Operand} {xt yt : TypeId}
def Za4 (xs : List Int) : ByteArray := xs.foldl (fun r n => r.push (UInt8.ofNat n.toNat)) ByteArray.empty
theorem Zly {k : IntKind} {xs : List Int} {b o : Nat} (hs : St w0 ρ Γ w) (h : ∀ i x, xs[i]? = some x → ∃ cs, (Rep.int k).R ρ cs x ∧ ∀ j u, cs[j]? = some u → ρ ⟨b, o + i * (Rep.int k).sz + j, none⟩ = some u) :
  (loadCells ⟨b, o, none⟩ xs.length).run P w = .ok (xs.map (Value.int k)).toArray w := by
 have := Ur (P := P) (w := w) (a := ⟨b, o, none⟩) (xs.map (Value.int k)) 0 #[] (fun j u hu => by
  rw [Nat.zero_add, Addr.add_lit]
  rw [List.getElem?_map] at hu
  obtain ⟨z, hz, rfl⟩ := Option.map_eq_some_iff.1 hu
  obtain ⟨cs, h1, h2⟩ := h j z hz
  have h1' : cs = [.int k z] := h1
  have := h2 0 (.int k z) (by rw [h1']; rfl)
  exact hs.see (by simpa [Rep.int] using this))
 rw [List.length_map] at this
 simpa [loadCells] using this
theorem Zht {src dst e : TypeId} {v : Value} {xs : List Int} (hu : P.underlying src = some (.slice e)) (he : P.underlying e = some (.int .i32)) (hd : P.underlying dst = some .string) (hs : St w0 ρ Γ w) (f : SlR (Rep.int .i32) ρ v xs) (hx : ev L x = some v) :
  Y P n L w (.convert src dst x) t (.string (runesBytes xs)) := fun a ha _ _ _ _ => by
 rcases f with ⟨rfl, p, c, rfl⟩ | ⟨b, o, c, rfl, _, h⟩
 ·have : (Conv.runesToString (.slice p 0 c)).run P w = .ok (.string (runesBytes [])) w := by
   cases p with
   | none => rfl
   | some p => exact run_runesToString w p 0 c [] (by simp [loadCells, loadCellsFrom])
  simp [execOp, ha.ev hx, run_convert_runes_string w src dst e p 0 c hu he hd, this]
 ·simp [execOp, ha.ev hx, run_convert_runes_string w src dst e _ _ c hu he hd, run_runesToString w _ xs.length c xs (Zly hs h)]
theorem Zsp {src dst e : TypeId} {v : Value} {xs : List Int} (hu : P.underlying src = some (.slice e)) (he : P.underlying e = some (.int .u8)) (hd : P.underlying dst = some .string) (hs : St w0 ρ Γ w) (f : SlR (Rep.int .u8) ρ v xs) (hx : ev L x = some v) :
  Y P n L w (.convert src dst x) t (.string (Za4 xs)) := fun a ha _ _ _ _ => by
 rcases f with ⟨rfl, p, c, rfl⟩ | ⟨b, o, c, rfl, _, h⟩
 ·have : (Conv.bytesToString (.slice p 0 c)).run P w = .ok (.string (Za4 [])) w := by
   cases p with
   | none => rfl
   | some p => exact run_bytesToString w p 0 c [] (by simp [loadCells, loadCellsFrom])
  simp [execOp, ha.ev hx, run_convert_bytes_string w src dst e p 0 c hu he hd, this]
 ·simp [execOp, ha.ev hx, run_convert_bytes_string w src dst e _ _ c hu he hd, run_bytesToString w _ xs.length c xs (Zly hs h), Za4]
def Hq (s : ByteArray) : List Int := (Conv.runesFrom s s.size 0 #[]).toList.map fun v => match v with | .int _ n => n | _ => 0
theorem Zd2 (s : ByteArray) : ∀ (b i : Nat) (acc : Array Value), (∃ l : List Int, acc.toList = l.map (Value.int .i32)) → ∃ l : List Int, (Conv.runesFrom s b i acc).toList = l.map (Value.int .i32)
 | 0, i, acc, h => by simpa [Conv.runesFrom] using h
 | b + 1, i, acc, ⟨l, hl⟩ => by
  unfold Conv.runesFrom
  split
  ·exact Zd2 s b _ _ ⟨l ++ [Int.ofNat (Utf8.decode s i).1], by rw [Array.toList_push, hl, List.map_append]; rfl⟩
  ·exact ⟨l, hl⟩
theorem Zf9 (s : ByteArray) : (Conv.runesFrom s s.size 0 #[]).toList = (Hq s).map (Value.int .i32) := by
 obtain ⟨l, hl⟩ := Zd2 s s.size 0 #[] ⟨[], rfl⟩
 have e : Hq s = l := by
  rw [Hq, hl, List.map_map]
  have : ((fun v : Value => match v with | .int _ n => n | _ => 0) ∘ Value.int .i32) = id := rfl
  rw [this, List.map_id]
 rw [hl, e]
theorem Zcf (s : ByteArray) : (Conv.runesFrom s s.size 0 #[]).size = (Hq s).length := by
 have := congrArg List.length (Zf9 s)
 simpa using this
theorem Ztm {src dst e : TypeId} {s : ByteArray} (hu : P.underlying src = some .string) (hd' : P.underlying dst = some (.slice e)) (he : P.underlying e = some (.int .i32)) (hs : St w0 ρ Γ w) (hd : Nat.blt d n = true) (hx : ev L x = some (.string s)) (hm : (Hq s).length ≤ most)
  (k : ∀ v cs w', St w0 ρ (.row v e 1 (Hq s).length cs :: Γ) w' → Zm (Rep.int .i32) ρ cs (Hq s) → O P n ops rest N ((d, v) :: L) w') : O P n ops (⟨some d, .convert src dst x, t, pos, aft, none⟩ :: rest) N L w := by
 have hbig : most = 2147483648 := rfl
 have h46 : (Conv.runesFrom s s.size 0 #[]).size ≤ 70368744177664 := by rw [Zcf]; omega
 refine Zl3 hd fun a ha => ?_
 have hr := run_runes_of_string (P := P) w src dst e s hu hd' he h46
 rw [Zcf] at hr
 refine ⟨_, _, by simp only [execOp, ha.ev hx, Sem.run_bind, hr, Result.andThen]; rfl, k (.slice (some ⟨w.heap.size, 0, none⟩) (Hq s).length (grownCap w (Hq s).length 0 e)) ((Hq s).map (Value.int .i32)) _ ?_ ?_⟩
 ·have hs' : St w0 ρ Γ w.drew := hs.drew
  refine hs'.push _ (.row (.slice (some ⟨w.heap.size, 0, none⟩) (Hq s).length (grownCap w (Hq s).length 0 e)) e 1 (Hq s).length ((Hq s).map (Value.int .i32))) rfl ⟨by simp, .inr ⟨w.heap.size, grownCap w (Hq s).length 0 e, _, rfl, Nat.zero_le _, heap_alloc_new w.drew _, grownCap_ge _ _ _ _, grownCap_le_maxLen w _ _ e (by unfold maxLen; omega), ?_, ?_⟩⟩
  ·have := grownCap_ge w (Hq s).length 0 e
   simp [Zcf]
   omega
  ·rw [Array.toList_append, List.take_append_of_le_length (by simp [Zcf]), Zf9, List.take_of_length_le (by simp)]
 ·refine ⟨by simp [Rep.int], fun i z hz => ⟨[.int .i32 z], rfl, fun j u hu => ?_⟩⟩
  cases j with
  | zero => simp at hu; subst hu; simpa [Rep.int] using hz
  | succ j => simp at hu
theorem Zxa {a b : ByteArray} (hx : ev L x = some (.string a)) (hy : ev L y = some (.string b)) (h : a.size + b.size ≤ 9223372036854775807) : Y P n L w (.binOp .add xt x y yt) t (.string (a ++ b)) :=
 Zid hx hy rfl (by
  have : ¬ (((a.size + b.size : Nat) : Int) > i64.max) := by show ¬ (_ > (9223372036854775807 : Int)); omega
  simp only [binOp, Op.stringOp, this, if_false, Sem.run_pure])
theorem Zq2 {sl : TypeId} {s : ByteArray} {lo hi : Option Operand} {l h : Int} (hu : P.underlying sl = some .string) (hx : ev L x = some (.string s)) (hl : (lo = none ∧ l = 0) ∨ ∃ z k, lo = some z ∧ ev L z = some (.int k l)) (hh : (hi = none ∧ h = (s.size : Int)) ∨ ∃ z k, hi = some z ∧ ev L z = some (.int k h))
  (h0 : 0 ≤ l) (h1 : l ≤ h) (h2 : h ≤ (s.size : Int)) : Y P n L w (.slice sl x lo hi none) t (.string (s.extract l.toNat h.toNat)) := by
 intro q hq _ _ _ _
 have hb : (Instr.sliceBounds false s.size s.size (lo.map q.eval) (hi.map q.eval) none).run P w = .ok (l.toNat, h.toNat, s.size) w := by
  rcases hl with ⟨rfl, rfl⟩ | ⟨zl, kl, rfl, hzl⟩ <;> rcases hh with ⟨rfl, rfl⟩ | ⟨zh, kh, rfl, hzh⟩
  ·simp [Instr.sliceBounds]
  ·have e1 := Zat (P := P) (w := w) (c := .sliceAlen) (hq.ev hzh) (by omega) h2
   simp [Instr.sliceBounds, e1]
  ·have e1 := Zat (P := P) (w := w) (c := .sliceB) (hq.ev hzl) h0 h1
   simp [Instr.sliceBounds, e1]
  ·have e1 := Zat (P := P) (w := w) (c := .sliceAlen) (hq.ev hzh) (by omega) h2
   have e2 := Zat (P := P) (w := w) (c := .sliceB) (hq.ev hzl) h0 (show l ≤ (h.toNat : Int) by omega)
   simp [Instr.sliceBounds, e1, e2]
 simp [execOp, Instr.sliceAt, Instr.slice, hq.ev hx, run_underlying hu, hb]
end
end Go.Proofs.YthoicbafdanmkaaGreatDoor
