/- A small logic for walking Go code: what is known of a frame's slots is a list, and each operation has one rule. Own work of this repo; it speaks of any program. -/
import Derived.WalkKit
import Derived.Orders
namespace Go.Proofs.YtekafkokpnihfaaGreat

abbrev Loc := List (Nat × Value)

def lk (d : Nat) : Loc → Option Value
  | [] => none
  | (e, v) :: t => bif Nat.beq e d then some v else lk d t

structure Sat (n : Nat) (L : Loc) (a : Act) : Prop where
  size : a.tmps.size = n
  nod : a.defers = []
  get : ∀ d v, lk d L = some v → a.tmps.getD d undef = v

def ev (L : Loc) : Operand → Option Value
  | .tmp t => lk t L
  | .const v => some v
  | .global g => some (.pointer (some ⟨g, 0, none⟩))
  | .func f => some (.func (.func f) #[] #[])

def evs (L : Loc) : List Operand → Option (List Value)
  | [] => some []
  | x :: t => match ev L x, evs L t with
    | some v, some vs => some (v :: vs)
    | _, _ => none

section
variable {n : Nat} {L : Loc} {a : Act}
theorem Sat.ev (h : Sat n L a) {x : Operand} {v : Value} (hx : ev L x = some v) : a.eval x = v := by
  cases x with
  | tmp t => exact h.get t v hx
  | const c => simpa [Go.Proofs.YtekafkokpnihfaaGreat.ev, Act.eval] using hx
  | global g => simpa [Go.Proofs.YtekafkokpnihfaaGreat.ev, Act.eval] using hx
  | func f => simpa [Go.Proofs.YtekafkokpnihfaaGreat.ev, Act.eval] using hx
theorem Sat.evs (h : Sat n L a) : ∀ {xs : List Operand} {vs : List Value}, evs L xs = some vs → xs.map a.eval = vs
  | [], vs, hx => by simpa [Go.Proofs.YtekafkokpnihfaaGreat.evs] using hx
  | x :: t, vs, hx => by
    simp only [Go.Proofs.YtekafkokpnihfaaGreat.evs] at hx
    split at hx
    · rename_i v vs' hv hvs
      simp only [Option.some.injEq] at hx
      subst hx
      rw [List.map_cons, h.ev hv, Sat.evs h hvs]
    · cases hx
theorem Sat.put (h : Sat n L a) {d : Nat} (hd : Nat.blt d n = true) (v : Value) : Sat n ((d, v) :: L) (a.put (some d) v) := by
  have hlt : d < a.tmps.size := by rw [h.size]; exact Nat.le_of_ble_eq_true hd
  refine ⟨by simp [Act.put, h.size], h.nod, fun e u he => ?_⟩
  simp only [lk] at he
  by_cases hde : d = e
  · subst hde
    simp at he
    simp [Act.put, hlt, he]
  · have : Nat.beq d e = false := by
      cases hb : Nat.beq d e with
      | false => rfl
      | true => exact absurd (Nat.eq_of_beq_eq_true hb) hde
    rw [this] at he
    have := h.get e u he
    simpa [Act.put, Array.getElem?_setIfInBounds_ne hde] using this
theorem Sat.skip (h : Sat n L a) : Sat n L a := h
end

def Sub : Loc → Loc → Prop
  | [], _ => True
  | (d, v) :: t, L => lk d L = some v ∧ Sub t L

theorem Sub.lk {L : Loc} : ∀ {L' : Loc}, Sub L' L → ∀ d v, lk d L' = some v → lk d L = some v
  | [], _, _, _, h => by simp [Go.Proofs.YtekafkokpnihfaaGreat.lk] at h
  | (e, u) :: t, hs, d, v, h => by
    simp only [Go.Proofs.YtekafkokpnihfaaGreat.lk] at h
    cases hb : Nat.beq e d with
    | true => rw [hb] at h; simp at h; subst h; rw [← Nat.eq_of_beq_eq_true hb]; exact hs.1
    | false => rw [hb] at h; exact hs.2.lk d v h
theorem Sat.weak {n : Nat} {L L' : Loc} {a : Act} (h : Sat n L a) (hs : Sub L' L) : Sat n L' a :=
  ⟨h.size, h.nod, fun d v hd => h.get d v (hs.lk d v hd)⟩

abbrev Nxt := Loc → World → Prop

def Out (n : Nat) (N : Nxt) (X : Nat → Nxt) (R : Nxt) : Exit → Act → World → Prop
  | .normal, a, w => ∃ L, Sat n L a ∧ N L w
  | .exit i, a, w => ∃ L, Sat n L a ∧ X i L w
  | .ret, a, w => ∃ L, Sat n L a ∧ R L w
  | _, _, _ => False

def W (P : Program) (n : Nat) (c : Code) (N : Nxt) (X : Nat → Nxt) (R : Nxt) (L : Loc) (w : World) : Prop :=
  ∀ a, Sat n L a → c.wp P (Out n N X R) a w

section
variable {P : Program} {n : Nat} {N : Nxt} {X : Nat → Nxt} {R : Nxt} {L : Loc} {w : World}

theorem W.weak {c : Code} (L' : Loc) (hs : Sub L' L) (h : W P n c N X R L' w) : W P n c N X R L w := fun a ha => h a (ha.weak hs)
theorem W_skip (h : N L w) : W P n .skip N X R L w := fun _ ha => wp_skip ⟨L, ha, h⟩
theorem W_ret (h : R L w) : W P n .ret N X R L w := fun _ ha => wp_ret ⟨L, ha, h⟩
theorem W_exit {i : Nat} (h : X i L w) : W P n (.exit i) N X R L w := fun _ ha => wp_exit ⟨L, ha, h⟩
theorem W_seq {x y : Code} (h : ∀ N' : Nxt, (∀ L w, W P n y N X R L w → N' L w) → W P n x N' X R L w) : W P n (.seq x y) N X R L w := by
  intro a ha
  refine wp_seq (wp_mono (h (fun L w => W P n y N X R L w) (fun _ _ h => h) a ha) ?_)
  intro e a' w' hq
  cases e with
  | normal => obtain ⟨L', hs, hw⟩ := hq; exact hw a' hs
  | exit i => exact hq
  | ret => exact hq
  | goto l => exact hq
  | panic c => exact hq
  | outgrown => exact hq
theorem W_block {i : Nat} {c : Code} (h : ∀ X' : Nat → Nxt, (∀ L w, N L w → X' i L w) → (∀ j L w, Nat.beq j i = false → X j L w → X' j L w) → W P n c N X' R L w) :
    W P n (.block i c) N X R L w := by
  intro a ha
  refine wp_block (wp_mono (h (fun j L w => bif Nat.beq j i then N L w else X j L w) (fun L w h => by simp [h]) (fun j L w hj h => by simp [hj, h]) a ha) ?_)
  intro e a' w' hq
  cases e with
  | exit j =>
    obtain ⟨L', hs, hx⟩ := hq
    simp only [Exit.inBlock]
    by_cases hj : j = i
    · subst hj; simp at hx; rw [if_pos rfl]; exact ⟨L', hs, hx⟩
    · rw [if_neg hj]
      have : Nat.beq j i = false := by
        cases hb : Nat.beq j i with
        | false => rfl
        | true => exact absurd (Nat.eq_of_beq_eq_true hb) hj
      rw [this] at hx
      exact ⟨L', hs, hx⟩
  | normal => exact hq
  | ret => exact hq
  | goto l => exact hq
  | panic c => exact hq
  | outgrown => exact hq
theorem W_cond {c : Operand} {x y : Code} {t : Bool} (hc : ev L c = some (.bool t)) (ht : t = true → W P n x N X R L w) (hf : t = false → W P n y N X R L w) :
    W P n (.cond c x y) N X R L w := fun a ha => wp_cond_split (ha.ev hc) (fun h => ht h a ha) (fun h => hf h a ha)
theorem W_if {c : Operand} {x y : Code} {p : Prop} [Decidable p] (hc : ev L c = some (.bool (decide p))) (ht : p → W P n x N X R L w) (hf : ¬ p → W P n y N X R L w) :
    W P n (.cond c x y) N X R L w := W_cond hc (fun h => ht (of_decide_eq_true h)) (fun h => hf (of_decide_eq_false h))
theorem W_true {c : Operand} {x y : Code} (hc : ev L c = some (.bool true)) (ht : W P n x N X R L w) : W P n (.cond c x y) N X R L w :=
  W_cond hc (fun _ => ht) (fun h => by cases h)
theorem W_false {c : Operand} {x y : Code} (hc : ev L c = some (.bool false)) (hf : W P n y N X R L w) : W P n (.cond c x y) N X R L w :=
  W_cond hc (fun h => by cases h) (fun _ => hf)

theorem W_loop {σ : Type} {c : Code} (F : σ → Loc) (I : σ → World → Prop) (μ : σ → Nat) (s0 : σ) (hs : Sub (F s0) L) (h0 : I s0 w)
    (round : ∀ (s : σ) (w : World) (N' : Nxt), I s w → (∀ (s' : σ) (L' : Loc) (w' : World), Sub (F s') L' → I s' w' → μ s' < μ s → N' L' w') → W P n c N' X R (F s) w) :
    W P n (.loop c) N X R L w := by
  intro a ha b kk cs
  have key : ∀ (k : Nat) (s : σ) (w : World) (a : Act), μ s = k → I s w → Sat n (F s) a →
      ∃ e a' w', Out n N X R e a' w' ∧ Arrives P (lone (b.at a (.code c :: .inLoop c :: kk)) cs w) b kk cs e a' w' := by
    intro k
    induction k using Nat.strongRecOn with
    | _ k ih =>
      intro s w a hk hI hsat
      obtain ⟨e, a', w', hq, harr⟩ := round s w (fun L' w' => ∃ s', Sub (F s') L' ∧ I s' w' ∧ μ s' < μ s) hI (fun s' L' w' h1 h2 h3 => ⟨s', h1, h2, h3⟩) a hsat b (.inLoop c :: kk) cs
      cases e with
      | normal =>
        obtain ⟨L', hs', s', hsub, hI', hlt⟩ := hq
        obtain ⟨e₂, a₂, w₂, hq₂, harr₂⟩ := ih (μ s') (hk ▸ hlt) s' w' a' rfl hI' (hs'.weak hsub)
        exact ⟨e₂, a₂, w₂, hq₂, .of_steps (Steps.trans harr (.one step_inLoop)) harr₂⟩
      | exit i => exact ⟨.exit i, a', w', hq, .pass (x := .inLoop c) rfl (fun _ _ => .inl (by simp)) harr⟩
      | goto l => exact hq.elim
      | ret => exact ⟨.ret, a', w', hq, .pass (x := .inLoop c) rfl (fun _ _ => .inl (by simp)) harr⟩
      | panic ch => exact hq.elim
      | outgrown => exact hq.elim
  obtain ⟨e, a', w', hq, harr⟩ := key _ s0 w a rfl h0 (ha.weak hs)
  exact ⟨e, a', w', hq, .of_steps (.one step_loop) harr⟩

def O (P : Program) (n : Nat) (ops : Array Oper) (rest : List Oper) (N : Nxt) (L : Loc) (w : World) : Prop :=
  ∀ a, Sat n L a → wpList P ops (fun e a' w' => e = .normal ∧ ∃ L', Sat n L' a' ∧ N L' w') rest a w

theorem W_region {id : Nat} {l : List Oper} (h : O P n l.toArray l N L w) : W P n (.region id l.toArray false) N X R L w := fun a ha =>
  wp_mono (wp_region_lit (h a ha)) (fun e a' w' hq => by obtain ⟨rfl, hq⟩ := hq; exact hq)

variable {ops : Array Oper} {rest : List Oper} {d t : Nat} {pos : String} {aft : Array Edge}
theorem O.weak (L' : Loc) (hs : Sub L' L) (h : O P n ops rest N L' w) : O P n ops rest N L w := fun a ha => h a (ha.weak hs)
theorem O_nil (h : N L w) : O P n ops [] N L w := fun a ha => ⟨rfl, L, ha, h⟩
theorem O_op {op : Op} (hd : Nat.blt d n = true) (h : ∀ a, Sat n L a → ∃ v w', (execOp a.eval ⟨some d, op, t, pos, aft, none⟩).run P w = .ok (.value v) w' ∧ O P n ops rest N ((d, v) :: L) w') :
    O P n ops (⟨some d, op, t, pos, aft, none⟩ :: rest) N L w := by
  intro a ha
  refine wpList_plain rfl fun K hK => ?_
  obtain ⟨v, w', hr, ho⟩ := h a ha
  unfold Oper.wp
  rw [hr, Oper.upon_value]
  exact hK _ _ (ho _ (ha.put hd v))
theorem O_val {op : Op} {v : Value} (hd : Nat.blt d n = true) (h : ∀ a, Sat n L a → (execOp a.eval ⟨some d, op, t, pos, aft, none⟩).run P w = .ok (.value v) w) (k : O P n ops rest N ((d, v) :: L) w) :
    O P n ops (⟨some d, op, t, pos, aft, none⟩ :: rest) N L w := O_op hd fun a ha => ⟨v, w, h a ha, k⟩
theorem O_skip {op : Op} {w' : World} (h : ∀ a, Sat n L a → (execOp a.eval ⟨none, op, t, pos, aft, none⟩).run P w = .ok .skip w') (k : O P n ops rest N L w') :
    O P n ops (⟨none, op, t, pos, aft, none⟩ :: rest) N L w := by
  intro a ha
  refine wpList_plain rfl fun K hK => ?_
  unfold Oper.wp
  rw [h a ha, Oper.upon_skip]
  exact hK _ _ (k _ ha)
theorem O_yes {j : Nat} {b : Bool} {dst : Option Nat} {dj : Nat} {op : Op} (hj : (ops[j]?).bind (·.dst) = some dj) (hl : lk dj L = some (.bool b))
    (h : O P n ops (⟨dst, op, t, pos, aft, none⟩ :: rest) N L w) : O P n ops (⟨dst, op, t, pos, aft, some (j, b)⟩ :: rest) N L w := by
  intro a ha
  have h1 := h a ha
  have hy : yielded ops a.tmps j = some b := by
    unfold yielded
    rw [hj]
    have := ha.get dj _ hl
    simp only [Option.bind_some]
    cases hx : a.tmps[dj]? with
    | none => simp [hx, undef] at this
    | some u => simp [hx] at this; subst this; rfl
  unfold wpList at h1 ⊢
  simp only [Region.wanted, if_true] at h1
  simp only [Region.wanted, hy, BEq.rfl, if_true]
  exact h1
theorem O_no {j : Nat} {b c : Bool} {dj : Nat} {op : Op} (hj : (ops[j]?).bind (·.dst) = some dj) (hl : lk dj L = some (.bool c)) (hc : c = !b) (hd : Nat.blt d n = true)
    (h : O P n ops rest N ((d, undef) :: L) w) : O P n ops (⟨some d, op, t, pos, aft, some (j, b)⟩ :: rest) N L w := by
  intro a ha
  have hy : yielded ops a.tmps j = some c := by
    unfold yielded
    rw [hj]
    have := ha.get dj _ hl
    simp only [Option.bind_some]
    cases hx : a.tmps[dj]? with
    | none => simp [hx, undef] at this
    | some u => simp [hx] at this; subst this; rfl
  unfold wpList
  simp only [Region.wanted, hy]
  have : (some c == some b) = false := by subst hc; cases b <;> rfl
  rw [this]
  simp only [Bool.false_eq_true, if_false]
  exact h _ (ha.put hd undef)
theorem O_cases {dj : Nat} {b : Bool} (hl : lk dj L = some (.bool b)) (ht : b = true → O P n ops rest N ((dj, .bool true) :: L) w) (hf : b = false → O P n ops rest N ((dj, .bool false) :: L) w) : O P n ops rest N L w := by
  intro a ha
  have key : ∀ c, b = c → Sat n ((dj, .bool c) :: L) a := fun c hc => ⟨ha.size, ha.nod, fun d v hv => by
    simp only [lk] at hv
    cases hb : Nat.beq dj d with
    | true => rw [hb] at hv; simp at hv; subst hv; rw [← Nat.eq_of_beq_eq_true hb, ← hc]; exact ha.get dj _ hl
    | false => rw [hb] at hv; exact ha.get d v hv⟩
  cases b with
  | true => exact ht rfl a (key true rfl)
  | false => exact hf rfl a (key false rfl)
theorem O_if {dj : Nat} {p : Prop} [Decidable p] (hl : lk dj L = some (.bool (decide p))) (ht : p → O P n ops rest N ((dj, .bool true) :: L) w) (hf : ¬ p → O P n ops rest N ((dj, .bool false) :: L) w) : O P n ops rest N L w :=
  O_cases hl (fun h => ht (of_decide_eq_true h)) (fun h => hf (of_decide_eq_false h))

def Enters (P : Program) (f : FuncId) : Prop := ∀ args w, (callFunc f args).run P w = .ok (.enter f args) w
theorem enters_of {f : FuncId} {fn : Func} (hf : P.funcs[f]? = some fn) (hb : fn.body.isNone = false) (hn : (fn.name == "runtime.NumGoroutine") = false) : Enters P f := by
  intro args w
  have h1 : ¬ (fn.name == "runtime.NumGoroutine") = true := by rw [hn]; exact Bool.false_ne_true
  have h2 : ¬ fn.body.isNone = true := by rw [hb]; exact Bool.false_ne_true
  simp only [callFunc, program, bind_pure_comp, Sem.run_bind, Sem.run, Result.andThen, hf, if_neg h1, if_neg h2, Sem.run_pure]

def CallsR (P : Program) (f : FuncId) (args : List Value) (w : World) (S : Value → World → Prop) : Prop :=
  Enters P f ∧ Calls P f args.toArray w (fun e w' => ∃ v, e = .returned v ∧ S v w')
theorem CallsR.mono {f : FuncId} {args : List Value} {S S' : Value → World → Prop} (h : CallsR P f args w S) (hs : ∀ v w', S v w' → S' v w') : CallsR P f args w S' :=
  ⟨h.1, h.2.mono fun _ _ ⟨v, he, hv⟩ => ⟨v, he, hs _ _ hv⟩⟩

theorem O_call {f : FuncId} {xs : List Operand} {ts : Array TypeId} {vs : List Value} {S : Value → World → Prop} (hd : Nat.blt d n = true) (hx : evs L xs = some vs)
    (hc : CallsR P f vs w S) (k : ∀ v w', S v w' → O P n ops rest N ((d, v) :: L) w') :
    O P n ops (⟨some d, .call { callee := .value (.func f), args := xs.toArray, argTypes := ts }, t, pos, aft, none⟩ :: rest) N L w := by
  intro a ha
  refine wpList_plain rfl fun K hK => ?_
  unfold Oper.wp
  have hr : (execOp a.eval ⟨some d, .call { callee := .value (.func f), args := xs.toArray, argTypes := ts }, t, pos, aft, none⟩).run P w = .ok (.enter f vs.toArray) w := by
    have := ha.evs hx
    simp [execOp, resolve, Act.eval, Deferred.ofValue, invoke, this, go_sem]
    exact hc.1 _ _
  rw [hr, Oper.upon_enter]
  refine hc.2.mono fun e w' he => ?_
  obtain ⟨v, rfl, hv⟩ := he
  exact hK _ _ (k v w' hv _ (ha.put hd v))
theorem O_callv {f : FuncId} {c : Operand} {first cap : Array Value} {xs : List Operand} {ts : Array TypeId} {vs : List Value} {S : Value → World → Prop} (hd : Nat.blt d n = true)
    (hf : ev L c = some (.func (.func f) first cap)) (hx : evs L xs = some vs) (hc : CallsR P f (first.toList ++ vs ++ cap.toList) w S) (k : ∀ v w', S v w' → O P n ops rest N ((d, v) :: L) w') :
    O P n ops (⟨some d, .call { callee := .value c, args := xs.toArray, argTypes := ts }, t, pos, aft, none⟩ :: rest) N L w := by
  intro a ha
  refine wpList_plain rfl fun K hK => ?_
  unfold Oper.wp
  have hr : (execOp a.eval ⟨some d, .call { callee := .value c, args := xs.toArray, argTypes := ts }, t, pos, aft, none⟩).run P w = .ok (.enter f (first.toList ++ vs ++ cap.toList).toArray) w := by
    have h1 := ha.evs hx
    have h2 := ha.ev hf
    have h3 := hc.1 (first.toList ++ vs ++ cap.toList).toArray w
    have e : (first.toList ++ vs ++ cap.toList).toArray = first ++ (vs.toArray ++ cap) := by simp
    rw [e] at h3 ⊢
    have h4 : (xs.toArray.map a.eval) = vs.toArray := by simp [h1]
    simp only [execOp, resolve, h2, h4, Deferred.ofValue, Sem.run_bind, Sem.run_pure, Result.andThen, invoke]
    simpa using h3
  rw [hr, Oper.upon_enter]
  refine hc.2.mono fun e w' he => ?_
  obtain ⟨v, rfl, hv⟩ := he
  exact hK _ _ (k v w' hv _ (ha.put hd v))

def rowsFrom : Nat → List Value → Loc
  | _, [] => []
  | i, v :: t => (i, v) :: rowsFrom (i + 1) t
theorem lk_rowsFrom : ∀ (vs : List Value) (i d : Nat) (v : Value), lk d (rowsFrom i vs) = some v → i ≤ d ∧ vs[d - i]? = some v
  | [], i, d, v, h => by simp [rowsFrom, lk] at h
  | u :: t, i, d, v, h => by
    simp only [rowsFrom, lk] at h
    cases hb : Nat.beq i d with
    | true => rw [hb] at h; have := Nat.eq_of_beq_eq_true hb; subst this; simp at h; simp [h]
    | false =>
      rw [hb] at h
      obtain ⟨h1, h2⟩ := lk_rowsFrom t (i + 1) d v h
      refine ⟨by omega, ?_⟩
      rw [show d - i = (d - (i + 1)) + 1 from by omega, List.getElem?_cons_succ]
      exact h2

def Ret (P : Program) (n : Nat) (fn : Func) (S : Value → World → Prop) : Nxt := fun L w => ∃ v, (∀ a, Sat n L a → (results fn a.tmps).run P w = .ok v w) ∧ S v w
theorem enter {f : FuncId} {fn : Func} {c : Code} {args : List Value} {S : Value → World → Prop} (hf : P.funcs[f]? = some fn) (hn : fn.ntmps = n) (hb : fn.body = some c)
    (hname : (fn.name == "runtime.NumGoroutine") = false) (hs : Nat.ble args.length n = true)
    (h : W P n c (Ret P n fn S) (fun _ _ _ => False) (Ret P n fn S) (rowsFrom 0 args) w) :
    CallsR P f args w S := by
  refine ⟨enters_of hf (by rw [hb]; rfl) hname, calls_of_wp hf hb (wp_mono (h { tmps := args.toArray ++ Array.replicate (fn.ntmps - args.toArray.size) undef, defers := [] } ⟨?_, rfl, ?_⟩) ?_)⟩
  · have := Nat.le_of_ble_eq_true hs
    simp; omega
  · intro d v hd
    obtain ⟨_, h2⟩ := lk_rowsFrom args 0 d v hd
    obtain ⟨hlt, hv⟩ := List.getElem?_eq_some_iff.1 h2
    simp only [Nat.sub_zero] at hlt hv
    simp [Array.getElem?_append, hlt, hv]
  · intro e a' w' hq
    cases e with
    | normal => obtain ⟨L', hs', v, hr, hv⟩ := hq; exact ⟨hs'.nod, v, hr a' hs', v, rfl, hv⟩
    | ret => obtain ⟨L', hs', v, hr, hv⟩ := hq; exact ⟨hs'.nod, v, hr a' hs', v, rfl, hv⟩
    | exit i => obtain ⟨_, _, hx⟩ := hq; exact hx.elim
    | goto l => exact hq.elim
    | panic ch => exact hq.elim
    | outgrown => exact hq.elim
theorem ret0 {fn : Func} {S : Value → World → Prop} (hr : fn.results = #[]) (h : S (.tuple #[]) w) : Ret P n fn S L w :=
  ⟨.tuple #[], fun a _ => by simp [results, hr, go_sem], h⟩
theorem ret1 {fn : Func} {S : Value → World → Prop} {t : Nat} {v : Value} (hr : fn.results = #[.tmp t]) (hl : lk t L = some v) (h : S v w) : Ret P n fn S L w :=
  ⟨v, fun a ha => by rw [results_tmp hr, ha.get t v hl], h⟩
theorem ret2 {fn : Func} {S : Value → World → Prop} {t u : Nat} {v x : Value} (hr : fn.results = #[.tmp t, .tmp u]) (hl : lk t L = some v) (hl2 : lk u L = some x) (h : S (.tuple #[v, x]) w) :
    Ret P n fn S L w :=
  ⟨_, fun a ha => by rw [results_tmp2 hr, ha.get t v hl, ha.get u x hl2], h⟩
theorem ret3 {fn : Func} {S : Value → World → Prop} {t u z : Nat} {v x y : Value} (hr : fn.results = #[.tmp t, .tmp u, .tmp z]) (hl : lk t L = some v) (hl2 : lk u L = some x) (hl3 : lk z L = some y) (h : S (.tuple #[v, x, y]) w) :
    Ret P n fn S L w :=
  ⟨_, fun a ha => by rw [results_tmp3 hr, ha.get t v hl, ha.get u x hl2, ha.get z y hl3], h⟩
theorem ret4 {fn : Func} {S : Value → World → Prop} {t u z s : Nat} {v x y y' : Value} (hr : fn.results = #[.tmp t, .tmp u, .tmp z, .tmp s]) (hl : lk t L = some v) (hl2 : lk u L = some x) (hl3 : lk z L = some y) (hl4 : lk s L = some y') (h : S (.tuple #[v, x, y, y']) w) :
    Ret P n fn S L w :=
  ⟨_, fun a ha => by simp [results, hr, go_sem, ← ha.get t v hl, ← ha.get u x hl2, ← ha.get z y hl3, ← ha.get s y' hl4], h⟩
end
end Go.Proofs.YtekafkokpnihfaaGreat
