/- Regions whose order Go leaves open: what only reads is taken first, where the rest keeps what it reads. Own work of this repo. -/
import Derived.Test.YtekafkokpnihfaaGreatEngD
namespace Go.Proofs.YtekafkokpnihfaaGreat
open Go.RowKit

def lst (n : Nat) (done : List Nat) : Array Bool := ((List.range n).map fun i => done.contains i).toArray
theorem lst_size (n : Nat) (done : List Nat) : (lst n done).size = n := by simp [lst]
theorem lst_nil (n : Nat) : lst n [] = Array.replicate n false := by
  apply Array.ext
  · simp [lst]
  · intro i h1 h2; simp [lst]
theorem lst_set {n i : Nat} (done : List Nat) : (lst n done).setIfInBounds i true = lst n (i :: done) := by
  apply Array.ext
  · simp [lst]
  · intro j h1 h2
    simp only [Array.getElem_setIfInBounds, lst]
    by_cases h : i = j
    · subst h; simp
    · simp [h, Ne.symm h]
theorem lst_get {n i : Nat} (h : i < n) (done : List Nat) (b : Bool) : (lst n done).getD i b = done.contains i := by
  simp [lst, h]

def YI (P : Program) (ops : Array Oper) (J : World → Prop) (o : Oper) (v : Value) (a : Act) : Prop :=
  (Region.wanted o (yielded ops a.tmps) = true ∧ ∀ w, J w → (execOp a.eval o).run P w = .ok (.value v) w) ∨ (Region.wanted o (yielded ops a.tmps) = false ∧ v = undef)

def waits (ops : Array Oper) : Nat → Nat → Nat → Bool
  | 0, _, _ => false
  | k + 1, j, i => ((ops[j]?).map fun o => o.after.any fun e => Region.binds .any e && (Nat.beq e.on i || waits ops k e.on i)).getD false
def Closed (ops : Array Oper) (listed : Array Bool) : Prop := ∀ j o, listed.getD j false = true → ops[j]? = some o → ∀ e ∈ o.after, Region.binds .any e = true → listed.getD e.on false = true
theorem waits_listed {ops : Array Oper} {listed : Array Bool} (hc : Closed ops listed) : ∀ (k j i : Nat), waits ops k j i = true → (∀ o, ops[j]? = some o → ∀ e ∈ o.after, Region.binds .any e = true → listed.getD e.on false = true) → listed.getD i false = true
  | 0, _, _, h, _ => by cases h
  | k + 1, j, i, h, hj => by
    simp only [waits] at h
    cases ho : ops[j]? with
    | none => rw [ho] at h; cases h
    | some o =>
      rw [ho] at h
      simp only [Option.map_some, Option.getD_some, Array.any_eq_true'] at h
      obtain ⟨e, he, hb⟩ := h
      simp only [Bool.and_eq_true, Bool.or_eq_true] at hb
      have hl := hj o ho e he hb.1
      rcases hb.2 with hb2 | hb2
      · rw [← Nat.eq_of_beq_eq_true hb2]; exact hl
      · exact waits_listed hc k e.on i hb2 (fun o' ho' e' he' hb' => hc e.on o' hl ho' e' he' hb')
theorem Closed.ready {ops : Array Oper} {listed : Array Bool} (hc : Closed ops listed) {i : Nat} (hi : i ∈ Region.ready .any ops listed) : Closed ops (listed.setIfInBounds i true) := by
  intro j o hj ho e he hb
  by_cases hji : i = j
  · subst hji
    obtain ⟨_, o', ho', hall⟩ := mem_ready.1 hi
    rw [ho] at ho'; obtain rfl := Option.some.inj ho'
    exact getD_set_true (hall e he hb)
  · rw [getD_set_ne false hji] at hj
    exact getD_set_true (hc j o hj ho e he hb)
section
variable {P : Program} {ops : Array Oper} {Q : Exit → Act → World → Prop} {md : Region.Mode} {J : World → Prop} {late : List Nat}
theorem YI.of_same {o : Oper} {v : Value} {a a' : Act} (hy : YI P ops J o v a) (he : execOp a'.eval o = execOp a.eval o) (hw : Region.wanted o (yielded ops a'.tmps) = Region.wanted o (yielded ops a.tmps)) : YI P ops J o v a' := by
  unfold YI at *; rw [he, hw]; exact hy
theorem YI.wpOp {i : Nat} {o : Oper} {v : Value} {a : Act} {w : World} (hi : ops[i]? = some o) (hJ : J w) (hy : YI P ops J o v a) {K : Act → World → Prop} (h : K (a.put o.dst v) w) : wpOp P ops Q i K a w := by
  unfold Go.wpOp
  simp only [hi]
  rcases hy with ⟨hw, hv⟩ | ⟨hw, rfl⟩
  · simp only [hw, if_true, Oper.wp, hv w hJ, Oper.upon]; exact .inl h
  · simp only [hw, Bool.false_eq_true, if_false]; exact h

theorem wpOp_putI {j : Nat} {oi oj : Oper} {v : Value} (hj : ops[j]? = some oj) (hap : oi.apart ops oj = true)
    (hsi : ∀ cs b, oi.op ≠ .select cs b) (hsj : ∀ cs b, oj.op ≠ .select cs b)
    (hQ : ∀ c a w, Q (.panic c) (a.put oi.dst v) w → Q (.panic c) a w) {K : Act → World → Prop} {a : Act} {w : World}
    (hy : YI P ops J oi v a) (h : wpOp P ops Q j K (a.put oi.dst v) w) :
    wpOp P ops Q j (fun a' w' => YI P ops J oi v a' ∧ K (a'.put oi.dst v) w') a w := by
  obtain ⟨h1, h2, h3⟩ := Oper.apart_spec hap
  have keep : ∀ (a : Act), YI P ops J oi v a → ∀ u, YI P ops J oi v (a.put oj.dst u) := fun a hy u =>
    hy.of_same (execOp_put oi hsi a oj.dst u h3) (wanted_put oi a oj.dst u h3)
  have keepD : ∀ d, YI P ops J oi v { a with defers := d :: a.defers } := fun d => hy.of_same rfl rfl
  unfold wpOp at *
  simp only [hj] at *
  rw [wanted_put oj a oi.dst v h1] at h
  split
  · rename_i hw
    simp only [hw, if_true] at h
    rcases h with h | ⟨hasks, hlets⟩
    case inr => exact .inr ⟨by unfold Oper.asks at *; rw [execOp_put oj hsj a oi.dst v h1] at hasks; exact hasks, hlets⟩
    refine .inl ?_
    unfold Oper.wp at *
    rw [execOp_put oj hsj a oi.dst v h1] at h
    generalize (execOp a.eval oj).run P w = r at *
    cases r with
    | ok n w' =>
      cases n <;> simp only [Oper.upon] at h ⊢
      case value u => exact ⟨keep a hy u, by rw [← Act.put_comm a v u h2]; exact h⟩
      case skip => exact ⟨keep a hy _, by rw [← Act.put_comm a v undef h2]; exact h⟩
      case defer d =>
        refine ⟨keep _ (keepD d) _, ?_⟩
        rw [← Act.put_comm _ v undef h2, ← Act.put_defers]
        exact h
      case enter f args =>
        refine Calls.mono h fun e w'' he => ?_
        cases e with
        | returned u => exact ⟨keep a hy u, by rw [← Act.put_comm a v u h2]; exact he⟩
        | panicked c => exact hQ _ _ _ he
        | outgrown => exact he
      case row row args => exact Rows.mono h fun u w'' he => ⟨keep a hy u, by rw [← Act.put_comm a v u h2]; exact he⟩
    | halt x w' =>
      cases x <;> simp only [Oper.upon] at h ⊢
      case panic u => exact hQ _ _ _ h
  · rename_i hw
    simp only [hw] at h
    exact ⟨keep a hy _, by rw [← Act.put_comm a v undef h2]; exact h⟩

def wpAnyI (P : Program) (ops : Array Oper) (Q : Exit → Act → World → Prop) (late : List Nat) (J : World → Prop) : Nat → Array Bool → Act → World → Prop
  | 0, listed, a, w => Region.ready .any ops listed = [] ∧ Q .normal a w
  | fuel + 1, listed, a, w =>
    (Region.ready .any ops listed = [] → Q .normal a w) ∧
    ∀ i ∈ Region.ready .any ops listed, wpOp P ops Q i (fun a' w' => (late.contains i = false → J w → J w') ∧ wpAnyI P ops Q late J fuel (listed.setIfInBounds i true) a' w') a w

theorem wpAnyI_any : ∀ (fuel : Nat) (listed : Array Bool) (a : Act) (w : World), wpAnyI P ops Q late J fuel listed a w → wpAny P .any ops Q fuel listed a w
  | 0, _, _, _, h => h
  | fuel + 1, _, _, _, h => ⟨h.1, fun i hi => wpOp_mono (fun a w hk => wpAnyI_any fuel _ a w hk.2) (h.2 i hi)⟩

theorem wpAnyI_first {i : Nat} {oi : Oper} {v : Value} (hi : ops[i]? = some oi) (hlate : ∀ j ∈ late, waits ops ops.size j i = true) (hsel : ∀ (j : Nat) (o : Oper) cs b, ops[j]? = some o → o.op ≠ .select cs b)
    (hQ : ∀ c a w, Q (.panic c) (a.put oi.dst v) w → Q (.panic c) a w) :
    ∀ (fuel : Nat) (listed : Array Bool) (a : Act) (w : World), Closed ops listed →
      (∀ j oj, ops[j]? = some oj → j ≠ i → listed.getD j true = false → (∀ e ∈ oj.after, Region.binds .any e = true → e.on ≠ i) → oi.apart ops oj = true) →
      i ∈ Region.ready .any ops listed → J w → YI P ops J oi v a →
      wpAnyI P ops Q late J fuel (listed.setIfInBounds i true) (a.put oi.dst v) w → wpAnyI P ops Q late J (fuel + 1) listed a w := by
  intro fuel
  induction fuel with
  | zero =>
    intro listed a w _ _ hr hJ hy H
    refine ⟨fun h => (by rw [h] at hr; cases hr), fun j hj => ?_⟩
    by_cases hji : j = i
    · subst hji; exact hy.wpOp hi hJ ⟨fun _ h => h, H⟩
    · have := ready_mono hj hji
      rw [H.1] at this
      cases this
  | succ fuel ih =>
    intro listed a w hcl hfree hr hJ hy H
    refine ⟨fun h => (by rw [h] at hr; cases hr), fun j hj => ?_⟩
    by_cases hji : j = i
    · subst hji; exact hy.wpOp hi hJ ⟨fun _ h => h, H⟩
    · have h1 := H.2 j (ready_mono hj hji)
      obtain ⟨hjun, oj, hoj, hall⟩ := mem_ready.1 hj
      have hiun := (mem_ready.1 hr).1
      have hilt : i < listed.size := by
        rcases Nat.lt_or_ge i listed.size with h' | h'
        · exact h'
        · simp [Array.getElem?_eq_none h'] at hiun
      have hiun2 : listed.getD i false = false := by simp [hilt] at hiun ⊢; exact hiun
      have hnot : ∀ e ∈ oj.after, Region.binds .any e = true → e.on ≠ i := fun e he hb heq => by
        have h1 := hall e he hb
        rw [heq, hiun2] at h1; cases h1
      have h2 := wpOp_putI hoj (hfree j oj hoj hji hjun hnot) (fun cs b => hsel i oi cs b hi) (fun cs b => hsel j oj cs b hoj) hQ hy h1
      have hfree' : ∀ k ok, ops[k]? = some ok → k ≠ i → (listed.setIfInBounds j true).getD k true = false →
          (∀ e ∈ ok.after, Region.binds .any e = true → e.on ≠ i) → oi.apart ops ok = true := fun k ok hk hki hun hno => by
        refine hfree k ok hk hki ?_ hno
        by_cases hjk : j = k
        · subst hjk; exact hjun
        · rw [getD_set_ne true hjk] at hun; exact hun
      -- 'j' could come ahead of 'i': so it is none of the late ones
      have hnl : late.contains j = false := by
        cases hl : late.contains j with
        | false => rfl
        | true =>
          have := waits_listed hcl ops.size j i (hlate j (by simpa using hl)) (fun o ho e he hb => by rw [hoj] at ho; obtain rfl := Option.some.inj ho; exact hall e he hb)
          rw [hiun2] at this; cases this
      refine wpOp_mono (fun a' w' h3 => ?_) h2
      obtain ⟨hy', hI, hk⟩ := h3
      rw [Array.setIfInBounds_comm _ _ (Ne.symm hji)] at hk
      exact ⟨hI, ih (listed.setIfInBounds j true) a' w' (hcl.ready hj) hfree' (ready_mono hr (Ne.symm hji)) (hI hnl hJ) hy' hk⟩
theorem wpAnyI_firstP {i : Nat} {oi : Oper} {v : Value} (hi : ops[i]? = some oi) (hsel : ∀ (j : Nat) (o : Oper) cs b, ops[j]? = some o → o.op ≠ .select cs b)
    (hQ : ∀ c a w, Q (.panic c) (a.put oi.dst v) w → Q (.panic c) a w) :
    ∀ (fuel : Nat) (listed : Array Bool) (a : Act) (w : World), 
      (∀ j oj, ops[j]? = some oj → j ≠ i → listed.getD j true = false → (∀ e ∈ oj.after, Region.binds .any e = true → e.on ≠ i) → oi.apart ops oj = true) →
      i ∈ Region.ready .any ops listed → YI P ops (fun _ => True) oi v a →
      wpAnyI P ops Q late J fuel (listed.setIfInBounds i true) (a.put oi.dst v) w → wpAnyI P ops Q late J (fuel + 1) listed a w := by
  intro fuel
  induction fuel with
  | zero =>
    intro listed a w _ hr hy H
    refine ⟨fun h => (by rw [h] at hr; cases hr), fun j hj => ?_⟩
    by_cases hji : j = i
    · subst hji; exact hy.wpOp hi trivial ⟨fun _ h => h, H⟩
    · have := ready_mono hj hji
      rw [H.1] at this
      cases this
  | succ fuel ih =>
    intro listed a w hfree hr hy H
    refine ⟨fun h => (by rw [h] at hr; cases hr), fun j hj => ?_⟩
    by_cases hji : j = i
    · subst hji; exact hy.wpOp hi trivial ⟨fun _ h => h, H⟩
    · have h1 := H.2 j (ready_mono hj hji)
      obtain ⟨hjun, oj, hoj, hall⟩ := mem_ready.1 hj
      have hiun := (mem_ready.1 hr).1
      have hilt : i < listed.size := by
        rcases Nat.lt_or_ge i listed.size with h' | h'
        · exact h'
        · simp [Array.getElem?_eq_none h'] at hiun
      have hiun2 : listed.getD i false = false := by simp [hilt] at hiun ⊢; exact hiun
      have hnot : ∀ e ∈ oj.after, Region.binds .any e = true → e.on ≠ i := fun e he hb heq => by
        have h1 := hall e he hb
        rw [heq, hiun2] at h1; cases h1
      have h2 := wpOp_putI hoj (hfree j oj hoj hji hjun hnot) (fun cs b => hsel i oi cs b hi) (fun cs b => hsel j oj cs b hoj) hQ hy h1
      have hfree' : ∀ k ok, ops[k]? = some ok → k ≠ i → (listed.setIfInBounds j true).getD k true = false →
          (∀ e ∈ ok.after, Region.binds .any e = true → e.on ≠ i) → oi.apart ops ok = true := fun k ok hk hki hun hno => by
        refine hfree k ok hk hki ?_ hno
        by_cases hjk : j = k
        · subst hjk; exact hjun
        · rw [getD_set_ne true hjk] at hun; exact hun
      refine wpOp_mono (fun a' w' h3 => ?_) h2
      obtain ⟨hy', hI, hk⟩ := h3
      rw [Array.setIfInBounds_comm _ _ (Ne.symm hji)] at hk
      exact ⟨hI, ih (listed.setIfInBounds j true) a' w' hfree' (ready_mono hr (Ne.symm hji)) hy' hk⟩
end

section
variable {P : Program} {n : Nat} {N : Nxt} {X : Nat → Nxt} {R : Nxt} {L : Loc} {w : World} {ops : Array Oper} {late : List Nat} {J : World → Prop} {d t : Nat} {pos : String} {aft : Array Edge} {fuel : Nat} {done : List Nat}

def Qo (n : Nat) (N : Nxt) : Exit → Act → World → Prop := fun e a' w' => e = .normal ∧ ∃ L', Sat n L' a' ∧ N L' w'
def OD (P : Program) (n : Nat) (ops : Array Oper) (late : List Nat) (J : World → Prop) (fuel : Nat) (done : List Nat) (N : Nxt) (L : Loc) (w : World) : Prop :=
  ∀ a, Sat n L a → wpAnyI P ops (Qo n N) late J fuel (lst ops.size done) a w

theorem W_draw {id : Nat} {l : List Oper} (late : List Nat) (J : World → Prop) (hm : P.follows .mixedOrders = true) (h : OD P n l.toArray late J l.length [] N L { w with drawn := w.drawn + 1 }) : W P n (.region id l.toArray true) N X R L w := by
  intro a ha
  have h1 := wpAnyI_any _ _ _ _ (h a ha)
  rw [lst_nil] at h1
  refine wp_mono (wp_region_any hm (by simpa using h1)) (fun e a' w' hq => by obtain ⟨rfl, hq⟩ := hq; exact hq)
theorem OD.weak (L' : Loc) (hs : Sub L' L) (h : OD P n ops late J fuel done N L' w) : OD P n ops late J fuel done N L w := fun a ha => h a (ha.weak hs)
theorem OD_done (hr : Region.ready .any ops (lst ops.size done) = []) (h : N L w) : OD P n ops late J fuel done N L w := by
  intro a ha
  cases fuel with
  | zero => exact ⟨hr, rfl, L, ha, h⟩
  | succ k => exact ⟨fun _ => ⟨rfl, L, ha, h⟩, fun i hi => by rw [hr] at hi; cases hi⟩

theorem yielded_of {a : Act} (ha : Sat n L a) {j dj : Nat} {b : Bool} (hj : (ops[j]?).bind (·.dst) = some dj) (hl : lk dj L = some (.bool b)) : yielded ops a.tmps j = some b := by
  unfold yielded
  rw [hj]
  have := ha.get dj _ hl
  simp only [Option.bind_some]
  cases hx : a.tmps[dj]? with
  | none => simp [hx, undef] at this
  | some u => simp [hx] at this; subst this; rfl
theorem OD_cases {dj : Nat} {b : Bool} (hl : lk dj L = some (.bool b)) (ht : b = true → OD P n ops late J fuel done N ((dj, .bool true) :: L) w) (hf : b = false → OD P n ops late J fuel done N ((dj, .bool false) :: L) w) : OD P n ops late J fuel done N L w := by
  intro a ha
  have key : ∀ c, b = c → Sat n ((dj, .bool c) :: L) a := fun c hc => ⟨ha.size, ha.nod, fun d v hv => by
    simp only [lk] at hv
    cases hb : Nat.beq dj d with
    | true => rw [hb] at hv; simp at hv; subst hv; rw [← Nat.eq_of_beq_eq_true hb, ← hc]; exact ha.get dj _ hl
    | false => rw [hb] at hv; exact ha.get d v hv⟩
  cases b with
  | true => exact ht rfl a (key true rfl)
  | false => exact hf rfl a (key false rfl)
theorem OD_if {dj : Nat} {p : Prop} [Decidable p] (hl : lk dj L = some (.bool (decide p))) (ht : p → OD P n ops late J fuel done N ((dj, .bool true) :: L) w) (hf : ¬ p → OD P n ops late J fuel done N ((dj, .bool false) :: L) w) : OD P n ops late J fuel done N L w :=
  OD_cases hl (fun h => ht (of_decide_eq_true h)) (fun h => hf (of_decide_eq_false h))
end
end Go.Proofs.YtekafkokpnihfaaGreat
