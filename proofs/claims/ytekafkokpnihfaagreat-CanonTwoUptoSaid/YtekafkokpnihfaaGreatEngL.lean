/- Regions whose order is open, by bits: what waits for what is computed once for a region, and each step asks numbers alone. Own work of this repo. -/
import Derived.Test.YtekafkokpnihfaaGreatEngK
namespace Go.Proofs.YtekafkokpnihfaaGreat
open Go.RowKit

def tb (m i : Nat) : Bool := Nat.beq (Nat.land 1 (Nat.shiftRight m i)) 1
theorem tb_eq (m i : Nat) : tb m i = m.testBit i := by
  have h : Nat.land 1 (Nat.shiftRight m i) = 1 &&& (m >>> i) := rfl
  have h2 : (1 &&& (m >>> i)) = 0 ∨ (1 &&& (m >>> i)) = 1 := by rw [Nat.one_and_eq_mod_two]; omega
  unfold tb Nat.testBit
  rw [h]
  rcases h2 with h2 | h2 <;> rw [h2] <;> rfl
def maskOf : List Nat → Nat
  | [] => 0
  | i :: t => Nat.lor (Nat.shiftLeft 1 i) (maskOf t)
theorem tb_mask (l : List Nat) (i : Nat) : tb (maskOf l) i = l.contains i := by
  induction l with
  | nil => simp [maskOf, tb_eq]
  | cons a l ih =>
    have h : maskOf (a :: l) = (1 <<< a) ||| maskOf l := rfl
    rw [tb_eq] at ih ⊢
    rw [h, Nat.testBit_or, ih, Nat.one_shiftLeft, Nat.testBit_two_pow]
    simp only [List.contains_cons]
    congr 1
    by_cases e : a = i
    · subst e; simp
    · simp [e, Ne.symm e]
def sb (m D : Nat) : Bool := Nat.beq (Nat.land m D) m
theorem sb_iff {m D : Nat} : sb m D = true ↔ ∀ k, tb m k = true → tb D k = true := by
  have h : Nat.land m D = m &&& D := rfl
  unfold sb
  rw [h, Nat.beq_eq]
  constructor
  · intro e k hk
    rw [tb_eq] at hk ⊢
    have := congrArg (·.testBit k) e
    simp only [Nat.testBit_and, hk, Bool.true_and] at this
    exact this
  · intro hh
    apply Nat.eq_of_testBit_eq
    intro k
    rw [Nat.testBit_and]
    cases hm : m.testBit k with
    | false => rfl
    | true =>
      have := hh k (by rw [tb_eq]; exact hm)
      rw [tb_eq] at this
      simp [this]
def nth : List Nat → Nat → Nat
  | [], _ => 0
  | m :: t, i => bif Nat.beq i 0 then m else nth t (i - 1)
theorem nth_cons_succ (m : Nat) (t : List Nat) (i : Nat) : nth (m :: t) (i + 1) = nth t i := rfl
theorem nth_eq : ∀ (l : List Nat) (i : Nat), nth l i = l.getD i 0
  | [], i => by simp [nth]
  | m :: t, 0 => rfl
  | m :: t, i + 1 => by rw [nth_cons_succ, nth_eq t i]; simp

structure Shape (ops : Array Oper) (n : Nat) (ms ap tm : List Nat) : Prop where
  size : ops.size = n
  len : ms.length = n
  nosel : Region.noSelect ops = true
  dep : ∀ j o, ops[j]? = some o → ∀ e ∈ o.after, Region.binds .any e = true → tb (nth ms j) e.on = true ∧ e.on < n
  dep' : ∀ j o, ops[j]? = some o → ∀ k, tb (nth ms j) k = true → ∃ e ∈ o.after, Region.binds .any e = true ∧ e.on = k
  apt : ∀ i j oi oj, ops[i]? = some oi → ops[j]? = some oj → tb (nth ap i) j = true → oi.apart ops oj = true
  anc : ∀ j i, tb (nth tm j) i = true → waits ops ops.size j i = true

def edgeMask (o : Oper) : Nat := maskOf ((o.after.toList.filter (Region.binds .any)).map (·.on))
def depGo (n : Nat) : List Oper → List Nat → Bool
  | [], [] => true
  | o :: t, m :: u => Nat.beq (edgeMask o) m && Nat.blt m (2 ^ n) && depGo n t u
  | _, _ => false
def aptGo (ops : Array Oper) : List Oper → List Nat → Bool
  | [], _ => true
  | _, [] => true
  | o :: t, m :: u => (Nat.beq m 0 || aptIn ops o m 0 ops.toList) && aptGo ops t u
where aptIn (ops : Array Oper) (o : Oper) (m : Nat) : Nat → List Oper → Bool
  | _, [] => true
  | j, q :: t => (!tb m j || o.apart ops q) && aptIn ops o m (j + 1) t
def ancGo (ms : List Nat) : Nat → List Nat → List Nat → Bool
  | _, [], _ => true
  | j, t :: ts, past => sb t (Nat.lor (nth ms j) (ancUp (nth ms j) (j - 1) past)) && Nat.blt (nth ms j) (2 ^ j) && ancGo ms (j + 1) ts (t :: past)
where ancUp (m : Nat) : Nat → List Nat → Nat
  | _, [] => 0
  | k, t :: past => Nat.lor (bif tb m k then t else 0) (ancUp m (k - 1) past)
def shapeB (ops : Array Oper) (n : Nat) (ms ap tm : List Nat) : Bool :=
  Nat.beq ops.size n && Nat.beq ms.length n && Nat.beq tm.length n && Region.noSelect ops && depGo n ops.toList ms && aptGo ops ops.toList ap && ancGo ms 0 tm []

theorem depGo_get {n : Nat} : ∀ {l : List Oper} {ms : List Nat}, depGo n l ms = true → ∀ j o, l[j]? = some o → edgeMask o = nth ms j ∧ nth ms j < 2 ^ n
  | [], _, _, j, o, h => by simp at h
  | o' :: t, [], h, _, _, _ => by simp [depGo] at h
  | o' :: t, m :: u, h, j, o, ho => by
    simp only [depGo, Bool.and_eq_true] at h
    obtain ⟨⟨h1, h2⟩, h3⟩ := h
    cases j with
    | zero =>
      simp at ho; subst ho
      exact ⟨Nat.eq_of_beq_eq_true h1, Nat.le_of_ble_eq_true h2⟩
    | succ j => rw [nth_cons_succ]; exact depGo_get h3 j o (by simpa using ho)
theorem aptIn_get {ops : Array Oper} {o : Oper} {m : Nat} : ∀ {l : List Oper} {k : Nat}, aptGo.aptIn ops o m k l = true → ∀ j q, l[j]? = some q → tb m (k + j) = true → o.apart ops q = true
  | [], _, _, j, q, h, _ => by simp at h
  | q' :: t, k, h, j, q, hq, hb => by
    simp only [aptGo.aptIn, Bool.and_eq_true] at h
    cases j with
    | zero =>
      simp at hq; subst hq
      have := h.1
      rw [Nat.add_zero] at hb
      rw [hb] at this
      simpa using this
    | succ j => exact aptIn_get h.2 j q (by simpa using hq) (by rw [show k + 1 + j = k + (j + 1) by omega]; exact hb)
theorem tb_zero (k : Nat) : tb 0 k = false := by rw [tb_eq]; simp
theorem aptGo_get {ops : Array Oper} : ∀ {l : List Oper} {ap : List Nat}, aptGo ops l ap = true → ∀ i oi, l[i]? = some oi → ∀ j oj, ops[j]? = some oj → tb (nth ap i) j = true → oi.apart ops oj = true
  | [], _, _, i, oi, h, _, _, _, _ => by simp at h
  | o :: t, [], _, i, oi, _, j, oj, _, hb => by simp [nth, tb_zero] at hb
  | o :: t, m :: u, h, i, oi, hi, j, oj, hj, hb => by
    simp only [aptGo, Bool.and_eq_true] at h
    cases i with
    | zero =>
      simp at hi; subst hi
      have hb' : tb m j = true := hb
      have h1 := h.1
      have hm : Nat.beq m 0 = false := by
        cases hm : Nat.beq m 0 with
        | false => rfl
        | true => rw [Nat.eq_of_beq_eq_true hm, tb_zero] at hb'; cases hb'
      rw [hm, Bool.false_or] at h1
      exact aptIn_get h1 j oj (by simpa using hj) (by rw [Nat.zero_add]; exact hb')
    | succ i => rw [nth_cons_succ] at hb; exact aptGo_get h.2 i oi (by simpa using hi) j oj hj hb
theorem mask_mem {l : List Nat} {k : Nat} : tb (maskOf l) k = true ↔ k ∈ l := by rw [tb_mask]; simp
theorem edge_mem {o : Oper} {k : Nat} : tb (edgeMask o) k = true ↔ ∃ e ∈ o.after, Region.binds .any e = true ∧ e.on = k := by
  unfold edgeMask
  rw [mask_mem]
  simp only [List.mem_map, List.mem_filter, Array.mem_toList_iff]
  constructor
  · rintro ⟨e, ⟨h1, h2⟩, h3⟩; exact ⟨e, h1, h2, h3⟩
  · rintro ⟨e, h1, h2, h3⟩; exact ⟨e, ⟨h1, h2⟩, h3⟩
theorem tb_lt {m k n : Nat} (h : tb m k = true) (hm : m < 2 ^ n) : k < n := by
  rw [tb_eq] at h
  rcases Nat.lt_or_ge k n with h1 | h1
  · exact h1
  · have := Nat.testBit_lt_two_pow (x := m) (i := k) (Nat.lt_of_lt_of_le hm (Nat.pow_le_pow_right (by omega) h1))
    rw [this] at h; cases h
theorem tb_or (a b k : Nat) : tb (Nat.lor a b) k = (tb a k || tb b k) := by
  rw [tb_eq, tb_eq, tb_eq]
  show (a ||| b).testBit k = _
  rw [Nat.testBit_or]
theorem ancUp_mem {m i : Nat} : ∀ {past : List Nat} {k : Nat}, tb (ancGo.ancUp m k past) i = true → ∃ q t, past[q]? = some t ∧ tb m (k - q) = true ∧ tb t i = true
  | [], k, h => by simp [ancGo.ancUp, tb_zero] at h
  | t :: past, k, h => by
    simp only [ancGo.ancUp, tb_or, Bool.or_eq_true] at h
    rcases h with h | h
    · cases hm : tb m k with
      | false => rw [hm] at h; simp [tb_zero] at h
      | true => rw [hm] at h; exact ⟨0, t, rfl, by simpa using hm, by simpa using h⟩
    · obtain ⟨q, t', h1, h2, h3⟩ := ancUp_mem h
      exact ⟨q + 1, t', by simpa using h1, by rwa [show k - (q + 1) = k - 1 - q by omega], h3⟩
theorem ancGo_get {ops : Array Oper} {n : Nat} {ms : List Nat} (hsz : ops.size = n) (hdep : depGo n ops.toList ms = true) (hml : ms.length = n) : ∀ (ts past : List Nat) (j : Nat), ancGo ms j ts past = true → past.length = j → j + ts.length = n →
    (∀ q t, past[q]? = some t → ∀ i, tb t i = true → ∀ f, j - 1 - q < f → waits ops f (j - 1 - q) i = true) → ∀ r t, ts[r]? = some t → ∀ i, tb t i = true → ∀ f, j + r < f → waits ops f (j + r) i = true
  | [], _, _, _, _, _, _, r, t, hr, _, _, _, _ => by simp at hr
  | t0 :: ts, past, j, h, hp, hl, hpast, r, t, hr, i, hi, f, hf => by
    simp only [ancGo, Bool.and_eq_true] at h
    obtain ⟨⟨h1, h2⟩, h3⟩ := h
    have hj : j < n := by simp at hl; omega
    have here : ∀ i, tb t0 i = true → ∀ f, j < f → waits ops f j i = true := by
      intro i hi f hf
      cases f with
      | zero => omega
      | succ f =>
        have hji := hj
        have ho : ops[j]? = some (ops[j]'(by omega)) := Array.getElem?_eq_getElem _
        have hm := (depGo_get hdep j (ops[j]'(by omega)) (by rw [Array.getElem?_toList]; exact ho)).1
        have h4 := sb_iff.1 h1 i hi
        rw [tb_or, Bool.or_eq_true] at h4
        simp only [waits, ho, Option.map_some, Option.getD_some, Array.any_eq_true']
        rcases h4 with h4 | h4
        · rw [← hm] at h4
          obtain ⟨e, he1, he2, he3⟩ := edge_mem.1 h4
          exact ⟨e, he1, by simp [he2, he3]⟩
        · obtain ⟨q, t', e1, e2, e3⟩ := ancUp_mem h4
          have e2' := e2
          rw [← hm] at e2
          obtain ⟨e, he1, he2, he3⟩ := edge_mem.1 e2
          have hlt : j - 1 - q < j := tb_lt e2' (Nat.le_of_ble_eq_true h2)
          have := hpast q t' e1 i e3 f (by omega)
          exact ⟨e, he1, by simp [he2, he3, this]⟩
    cases r with
    | zero => simp at hr; subst hr; rw [Nat.add_zero] at hf ⊢; exact here i hi f hf
    | succ r =>
      have := ancGo_get hsz hdep hml ts (t0 :: past) (j + 1) h3 (by simp [hp]) (by simp at hl; omega) (fun q t' hq i' hi' f' hf' => by
        cases q with
        | zero => simp at hq; subst hq; simp at hf' ⊢; exact here i' hi' f' (by omega)
        | succ q =>
          have := hpast q t' (by simpa using hq) i' hi' f' (by omega)
          rwa [show j + 1 - 1 - (q + 1) = j - 1 - q by omega]) r t (by simpa using hr) i hi f (by omega)
      rwa [show j + 1 + r = j + (r + 1) by omega] at this
theorem shape_of {ops : Array Oper} {n : Nat} {ms ap tm : List Nat} (h : shapeB ops n ms ap tm = true) : Shape ops n ms ap tm := by
  simp only [shapeB, Bool.and_eq_true] at h
  obtain ⟨⟨⟨⟨⟨⟨h1, h2⟩, h3⟩, h4⟩, h5⟩, h6⟩, h7⟩ := h
  have hsz := Nat.eq_of_beq_eq_true h1
  have hml := Nat.eq_of_beq_eq_true h2
  have htl := Nat.eq_of_beq_eq_true h3
  refine ⟨hsz, hml, h4, ?_, ?_, ?_, ?_⟩
  · intro j o ho e he hb
    obtain ⟨e1, e2⟩ := depGo_get h5 j o (by simpa using ho)
    have h8 : tb (nth ms j) e.on = true := by rw [← e1]; exact edge_mem.2 ⟨e, he, hb, rfl⟩
    exact ⟨h8, tb_lt h8 e2⟩
  · intro j o ho k hk
    obtain ⟨e1, e2⟩ := depGo_get h5 j o (by simpa using ho)
    rw [← e1] at hk
    exact edge_mem.1 hk
  · intro i j oi oj hi hj hb
    exact aptGo_get h6 i oi (by simpa using hi) j oj hj hb
  · intro j i hb
    have hj : j < n := by
      rcases Nat.lt_or_ge j n with h8 | h8
      · exact h8
      · rw [nth_eq, List.getD_eq_getElem?_getD, List.getElem?_eq_none (by omega)] at hb
        simp [tb_zero] at hb
    have ht : tm[j]? = some (nth tm j) := by
      have : j < tm.length := by omega
      rw [nth_eq, List.getD_eq_getElem?_getD, List.getElem?_eq_getElem this]; rfl
    have := ancGo_get hsz h5 hml tm [] 0 h7 rfl (by omega) (fun q t hq => by simp at hq) j _ ht i hb ops.size (by omega)
    rwa [Nat.zero_add] at this

section
variable {ops : Array Oper} {m : Nat} {ms ap tm : List Nat}
def rdyM (ms : List Nat) (D i : Nat) : Bool := !tb D i && sb (nth ms i) D
def onlyM (D i : Nat) : Nat → List Nat → Bool
  | _, [] => true
  | j, d :: t => (Nat.beq j i || tb D j || !sb d D) && onlyM D i (j + 1) t
def freeM (D i a : Nat) : Nat → List Nat → Bool
  | _, [] => true
  | j, d :: t => (Nat.beq j i || tb D j || tb d i || tb a j) && freeM D i a (j + 1) t
def closM (D : Nat) : Nat → List Nat → Bool
  | _, [] => true
  | j, d :: t => (!tb D j || sb d D) && closM D (j + 1) t
theorem onlyM_get {D i : Nat} : ∀ {l : List Nat} {k : Nat}, onlyM D i k l = true → ∀ j, j < l.length → k + j = i ∨ tb D (k + j) = true ∨ sb (nth l j) D = false
  | [], _, _, j, h => by simp at h
  | d :: t, k, h, j, hj => by
    simp only [onlyM, Bool.and_eq_true, Bool.or_eq_true, Bool.not_eq_true'] at h
    cases j with
    | zero =>
      rcases h.1 with (h1 | h1) | h1
      · left; simpa using Nat.eq_of_beq_eq_true h1
      · right; left; simpa using h1
      · right; right; exact h1
    | succ j => have := onlyM_get h.2 j (by simpa using hj); rwa [show k + 1 + j = k + (j + 1) by omega] at this
theorem freeM_get {D i a : Nat} : ∀ {l : List Nat} {k : Nat}, freeM D i a k l = true → ∀ j, j < l.length → k + j = i ∨ tb D (k + j) = true ∨ tb (nth l j) i = true ∨ tb a (k + j) = true
  | [], _, _, j, h => by simp at h
  | d :: t, k, h, j, hj => by
    simp only [freeM, Bool.and_eq_true, Bool.or_eq_true] at h
    cases j with
    | zero =>
      rcases h.1 with ((h1 | h1) | h1) | h1
      · left; simpa using Nat.eq_of_beq_eq_true h1
      · right; left; simpa using h1
      · right; right; left; exact h1
      · right; right; right; simpa using h1
    | succ j => have := freeM_get h.2 j (by simpa using hj); rwa [show k + 1 + j = k + (j + 1) by omega] at this
theorem closM_get {D : Nat} : ∀ {l : List Nat} {k : Nat}, closM D k l = true → ∀ j, j < l.length → tb D (k + j) = false ∨ sb (nth l j) D = true
  | [], _, _, j, h => by simp at h
  | d :: t, k, h, j, hj => by
    simp only [closM, Bool.and_eq_true, Bool.or_eq_true, Bool.not_eq_true'] at h
    cases j with
    | zero => exact h.1
    | succ j => have := closM_get h.2 j (by simpa using hj); rwa [show k + 1 + j = k + (j + 1) by omega] at this
theorem lst_tb {n i : Nat} (h : i < n) (done : List Nat) (b : Bool) : (lst n done).getD i b = tb (maskOf done) i := by rw [lst_get h, tb_mask]
theorem Shape.ready (hS : Shape ops m ms ap tm) {done : List Nat} {i : Nat} (h : rdyM ms (maskOf done) i = true) (hi : i < m) : i ∈ Region.ready .any ops (lst ops.size done) := by
  simp only [rdyM, Bool.and_eq_true, Bool.not_eq_true'] at h
  have hlt : i < ops.size := by rw [hS.size]; exact hi
  rw [mem_ready]
  refine ⟨by rw [lst_tb hlt]; exact h.1, ops[i], Array.getElem?_eq_getElem hlt, fun e he hb => ?_⟩
  obtain ⟨h1, h2⟩ := hS.dep i _ (Array.getElem?_eq_getElem hlt) e he hb
  rw [lst_tb (by rw [hS.size]; exact h2)]
  exact sb_iff.1 h.2 _ h1
theorem Shape.only (hS : Shape ops m ms ap tm) {done : List Nat} {i : Nat} (h : onlyM (maskOf done) i 0 ms = true) : ∀ j ∈ Region.ready .any ops (lst ops.size done), j = i := by
  intro j hj
  obtain ⟨h1, o, ho, h2⟩ := mem_ready.1 hj
  have hlt : j < ops.size := (Array.getElem?_eq_some_iff.1 ho).1
  rw [lst_tb hlt] at h1
  rcases onlyM_get h j (by rw [hS.len, ← hS.size]; exact hlt) with h3 | h3 | h3
  · omega
  · rw [Nat.zero_add] at h3; rw [h3] at h1; cases h1
  · have : sb (nth ms j) (maskOf done) = true := sb_iff.2 fun k hk => by
      obtain ⟨e, he, hb, rfl⟩ := hS.dep' j o ho k hk
      have := h2 e he hb
      rwa [lst_tb (by rw [hS.size]; exact (hS.dep j o ho e he hb).2)] at this
    rw [this] at h3; cases h3
theorem Shape.free (hS : Shape ops m ms ap tm) {done : List Nat} {i : Nat} {oi : Oper} (hi : ops[i]? = some oi) (h : freeM (maskOf done) i (nth ap i) 0 ms = true) :
    ∀ j oj, ops[j]? = some oj → j ≠ i → (lst ops.size done).getD j true = false → (∀ e ∈ oj.after, Region.binds .any e = true → e.on ≠ i) → oi.apart ops oj = true := by
  intro j oj hj hne hun hno
  have hlt : j < ops.size := (Array.getElem?_eq_some_iff.1 hj).1
  rw [lst_tb hlt] at hun
  rcases freeM_get h j (by rw [hS.len, ← hS.size]; exact hlt) with h3 | h3 | h3 | h3
  · omega
  · rw [Nat.zero_add] at h3; rw [h3] at hun; cases hun
  · obtain ⟨e, he, hb, hk⟩ := hS.dep' j oj hj i h3
    exact absurd hk (hno e he hb)
  · rw [Nat.zero_add] at h3; exact hS.apt i j oi oj hi hj h3
theorem Shape.closed (hS : Shape ops m ms ap tm) {done : List Nat} (h : closM (maskOf done) 0 ms = true) : Closed ops (lst ops.size done) := by
  intro j o hj ho e he hb
  have hlt : j < ops.size := (Array.getElem?_eq_some_iff.1 ho).1
  rw [lst_tb hlt] at hj
  obtain ⟨h1, h2⟩ := hS.dep j o ho e he hb
  rcases closM_get h j (by rw [hS.len, ← hS.size]; exact hlt) with h3 | h3
  · rw [Nat.zero_add] at h3; rw [h3] at hj; cases hj
  · rw [lst_tb (by rw [hS.size]; exact h2)]; exact sb_iff.1 h3 _ h1
def okPM (m : Nat) (ms ap : List Nat) (D i : Nat) : Bool := Nat.blt i m && rdyM ms D i && freeM D i (nth ap i) 0 ms
def lateM (tm : List Nat) (i : Nat) : List Nat → Bool
  | [] => true
  | j :: t => tb (nth tm j) i && lateM tm i t
theorem lateM_get {i : Nat} : ∀ {l : List Nat}, lateM tm i l = true → ∀ j ∈ l, tb (nth tm j) i = true
  | [], _, j, h => by cases h
  | a :: l, h, j, hj => by
    simp only [lateM, Bool.and_eq_true] at h
    rcases List.mem_cons.1 hj with rfl | hj
    · exact h.1
    · exact lateM_get h.2 j hj
end
section
variable {P : Program} {n : Nat} {N : Nxt} {X : Nat → Nxt} {R : Nxt} {L : Loc} {w : World} {ops : Array Oper} {late : List Nat} {J : World → Prop} {d t : Nat} {pos : String} {aft : Array Edge} {fuel : Nat} {done : List Nat} {m : Nat} {ms ap tm : List Nat}
theorem W_drawS {id : Nat} {l : List Oper} (m : Nat) (ms ap tm : List Nat) (late : List Nat) (J : World → Prop) (hm : P.follows .mixedOrders = true) (hB : shapeB l.toArray m ms ap tm = true) (h : Shape l.toArray m ms ap tm → OD P n l.toArray late J l.length [] N L { w with drawn := w.drawn + 1 }) : W P n (.region id l.toArray true) N X R L w :=
  W_draw late J hm (h (shape_of hB))
theorem OD_takeS {i : Nat} {op : Op} {v : Value} {g : Option (Nat × Bool)} (hS : Shape ops m ms ap tm) (hi : ops[i]? = some ⟨some d, op, t, pos, aft, g⟩) (hd : Nat.blt d n = true) (hok : (okPM m ms ap (maskOf done) i && (closM (maskOf done) 0 ms && lateM tm i late)) = true) (hJ : J w)
    (hy : ∀ a, Sat n L a → YI P ops J ⟨some d, op, t, pos, aft, g⟩ v a) (k : OD P n ops late J fuel (i :: done) N ((d, v) :: L) w) : OD P n ops late J (fuel + 1) done N L w := by
  intro a ha
  simp only [okPM, Bool.and_eq_true] at hok
  obtain ⟨⟨⟨h1, h2⟩, h3⟩, h4, h5⟩ := hok
  refine wpAnyI_first hi (fun j hj => hS.anc j i (lateM_get h5 j hj)) (Region.noSelect_spec hS.nosel) (fun c a w hq => by cases hq.1) fuel _ a w (hS.closed h4) (hS.free hi h3) (hS.ready h2 (Nat.le_of_ble_eq_true h1)) hJ (hy a ha) ?_
  rw [lst_set]
  exact k _ (ha.put hd v)
theorem OD_takePS {i : Nat} {op : Op} {v : Value} {g : Option (Nat × Bool)} (hS : Shape ops m ms ap tm) (hi : ops[i]? = some ⟨some d, op, t, pos, aft, g⟩) (hd : Nat.blt d n = true) (hok : okPM m ms ap (maskOf done) i = true)
    (hy : ∀ a, Sat n L a → YI P ops (fun _ => True) ⟨some d, op, t, pos, aft, g⟩ v a) (k : OD P n ops late J fuel (i :: done) N ((d, v) :: L) w) : OD P n ops late J (fuel + 1) done N L w := by
  intro a ha
  simp only [okPM, Bool.and_eq_true] at hok
  obtain ⟨⟨h1, h2⟩, h3⟩ := hok
  refine wpAnyI_firstP hi (fun j o cs b hj => Region.noSelect_spec hS.nosel j o cs b hj) (fun c a w hq => by cases hq.1) fuel _ a w (hS.free hi h3) (hS.ready h2 (Nat.le_of_ble_eq_true h1)) (hy a ha) ?_
  rw [lst_set]
  exact k _ (ha.put hd v)
theorem OD_yS {i : Nat} {op : Op} {v : Value} (hS : Shape ops m ms ap tm) (hi : ops[i]? = some ⟨some d, op, t, pos, aft, none⟩) (hd : Nat.blt d n = true) (hok : (okPM m ms ap (maskOf done) i && (closM (maskOf done) 0 ms && lateM tm i late)) = true) (hJ : J w)
    (hy : ∀ w, J w → Y P n L w op t v) (k : OD P n ops late J fuel (i :: done) N ((d, v) :: L) w) : OD P n ops late J (fuel + 1) done N L w :=
  OD_takeS hS hi hd hok hJ (fun a ha => .inl ⟨rfl, fun w hw => hy w hw a ha _ _ _ _⟩) k
theorem OD_yesS {i j dj : Nat} {b : Bool} {op : Op} {v : Value} (hS : Shape ops m ms ap tm) (hi : ops[i]? = some ⟨some d, op, t, pos, aft, some (j, b)⟩) (hj : (ops[j]?).bind (·.dst) = some dj) (hl : lk dj L = some (.bool b)) (hd : Nat.blt d n = true) (hok : (okPM m ms ap (maskOf done) i && (closM (maskOf done) 0 ms && lateM tm i late)) = true) (hJ : J w)
    (hy : ∀ w, J w → Y P n L w op t v) (k : OD P n ops late J fuel (i :: done) N ((d, v) :: L) w) : OD P n ops late J (fuel + 1) done N L w :=
  OD_takeS hS hi hd hok hJ (fun a ha => .inl ⟨by simp only [Region.wanted, yielded_of ha hj hl, BEq.rfl], fun w hw => hy w hw a ha _ _ _ _⟩) k
theorem OD_pS {i : Nat} {op : Op} {v : Value} (hS : Shape ops m ms ap tm) (hi : ops[i]? = some ⟨some d, op, t, pos, aft, none⟩) (hd : Nat.blt d n = true) (hok : okPM m ms ap (maskOf done) i = true)
    (hy : ∀ w, Y P n L w op t v) (k : OD P n ops late J fuel (i :: done) N ((d, v) :: L) w) : OD P n ops late J (fuel + 1) done N L w :=
  OD_takePS hS hi hd hok (fun a ha => .inl ⟨rfl, fun w _ => hy w a ha _ _ _ _⟩) k
theorem OD_pyesS {i j dj : Nat} {b : Bool} {op : Op} {v : Value} (hS : Shape ops m ms ap tm) (hi : ops[i]? = some ⟨some d, op, t, pos, aft, some (j, b)⟩) (hj : (ops[j]?).bind (·.dst) = some dj) (hl : lk dj L = some (.bool b)) (hd : Nat.blt d n = true) (hok : okPM m ms ap (maskOf done) i = true)
    (hy : ∀ w, Y P n L w op t v) (k : OD P n ops late J fuel (i :: done) N ((d, v) :: L) w) : OD P n ops late J (fuel + 1) done N L w :=
  OD_takePS hS hi hd hok (fun a ha => .inl ⟨by simp only [Region.wanted, yielded_of ha hj hl, BEq.rfl], fun w _ => hy w a ha _ _ _ _⟩) k
theorem OD_noS {i j dj : Nat} {b c : Bool} {op : Op} (hS : Shape ops m ms ap tm) (hi : ops[i]? = some ⟨some d, op, t, pos, aft, some (j, b)⟩) (hj : (ops[j]?).bind (·.dst) = some dj) (hl : lk dj L = some (.bool c)) (hc : c = !b) (hd : Nat.blt d n = true) (hok : okPM m ms ap (maskOf done) i = true)
    (k : OD P n ops late J fuel (i :: done) N ((d, undef) :: L) w) : OD P n ops late J (fuel + 1) done N L w :=
  OD_takePS hS hi hd hok (fun a ha => .inr ⟨by
    simp only [Region.wanted, yielded_of ha hj hl]
    subst hc; cases b <;> rfl, rfl⟩) k
theorem OD_nouS {i j dj : Nat} {b : Bool} {op : Op} (hS : Shape ops m ms ap tm) (hi : ops[i]? = some ⟨some d, op, t, pos, aft, some (j, b)⟩) (hj : (ops[j]?).bind (·.dst) = some dj) (hl : lk dj L = some undef) (hd : Nat.blt d n = true) (hok : okPM m ms ap (maskOf done) i = true)
    (k : OD P n ops late J fuel (i :: done) N ((d, undef) :: L) w) : OD P n ops late J (fuel + 1) done N L w :=
  OD_takePS hS hi hd hok (fun a ha => .inr ⟨by simp only [Region.wanted, yielded_undef ha hj hl]; rfl, rfl⟩) k
theorem OD_oneS {i : Nat} {o : Oper} (hS : Shape ops m ms ap tm) (hi : ops[i]? = some o) (hok : (Nat.blt i m && rdyM ms (maskOf done) i && onlyM (maskOf done) i 0 ms) = true)
    (h : ∀ N' : Nxt, (∀ L' w', (late.contains i = false → J w → J w') → OD P n ops late J fuel (i :: done) N L' w' → N' L' w') → O P n ops [o] N' L w) : OD P n ops late J (fuel + 1) done N L w := by
  simp only [Bool.and_eq_true] at hok
  obtain ⟨⟨h1, h2⟩, h3⟩ := hok
  intro a ha
  refine ⟨fun h0 => (by have := hS.ready h2 (Nat.le_of_ble_eq_true h1); rw [h0] at this; cases this), fun q hq => ?_⟩
  obtain rfl := hS.only h3 q hq
  exact OD_step hi h ha
def only2M (D i k : Nat) : Nat → List Nat → Bool
  | _, [] => true
  | j, d :: t => (Nat.beq j i || Nat.beq j k || tb D j || !sb d D) && only2M D i k (j + 1) t
theorem only2M_get {D i q : Nat} : ∀ {l : List Nat} {k : Nat}, only2M D i q k l = true → ∀ j, j < l.length → (k + j = i ∨ k + j = q) ∨ tb D (k + j) = true ∨ sb (nth l j) D = false
  | [], _, _, j, h => by simp at h
  | d :: t, k, h, j, hj => by
    simp only [only2M, Bool.and_eq_true, Bool.or_eq_true, Bool.not_eq_true'] at h
    cases j with
    | zero =>
      rcases h.1 with ((h1 | h1) | h1) | h1
      · left; left; simpa using Nat.eq_of_beq_eq_true h1
      · left; right; simpa using Nat.eq_of_beq_eq_true h1
      · right; left; simpa using h1
      · right; right; exact h1
    | succ j => have := only2M_get h.2 j (by simpa using hj); rwa [show k + 1 + j = k + (j + 1) by omega] at this
theorem OD_twoS {i j : Nat} {o u : Oper} (hS : Shape ops m ms ap tm) (hi : ops[i]? = some o) (hj : ops[j]? = some u) (hok : (Nat.blt i m && rdyM ms (maskOf done) i && only2M (maskOf done) i j 0 ms) = true)
    (h : ∀ N' : Nxt, (∀ L' w', (late.contains i = false → J w → J w') → OD P n ops late J fuel (i :: done) N L' w' → N' L' w') → O P n ops [o] N' L w)
    (k : ∀ N' : Nxt, (∀ L' w', (late.contains j = false → J w → J w') → OD P n ops late J fuel (j :: done) N L' w' → N' L' w') → O P n ops [u] N' L w) : OD P n ops late J (fuel + 1) done N L w := by
  simp only [Bool.and_eq_true] at hok
  obtain ⟨⟨h1, h2⟩, h3⟩ := hok
  intro a ha
  refine ⟨fun h0 => (by have := hS.ready h2 (Nat.le_of_ble_eq_true h1); rw [h0] at this; cases this), fun q hq => ?_⟩
  obtain ⟨e1, o', ho, e2⟩ := mem_ready.1 hq
  have hlt : q < ops.size := (Array.getElem?_eq_some_iff.1 ho).1
  rw [lst_tb hlt] at e1
  rcases only2M_get h3 q (by rw [hS.len, ← hS.size]; exact hlt) with (h4 | h4) | h4 | h4
  · obtain rfl : q = i := by omega
    exact OD_step hi h ha
  · obtain rfl : q = j := by omega
    exact OD_step hj k ha
  · rw [Nat.zero_add] at h4; rw [h4] at e1; cases e1
  · have : sb (nth ms q) (maskOf done) = true := sb_iff.2 fun b hb => by
      obtain ⟨e, he, hbb, rfl⟩ := hS.dep' q o' ho b hb
      have := e2 e he hbb
      rwa [lst_tb (by rw [hS.size]; exact (hS.dep q o' ho e he hbb).2)] at this
    rw [this] at h4; cases h4
theorem OD_doneS (hS : Shape ops m ms ap tm) (hr : onlyM (maskOf done) m 0 ms = true) (h : N L w) : OD P n ops late J fuel done N L w := by
  refine OD_done ?_ h
  apply List.eq_nil_iff_forall_not_mem.2
  intro q hq
  have h1 := hS.only hr q hq
  obtain ⟨_, o, ho, _⟩ := mem_ready.1 hq
  have : q < ops.size := (Array.getElem?_eq_some_iff.1 ho).1
  rw [hS.size] at this; omega
theorem OD_resetS {w0 : World} {ρ : Hp} {Γ : List Item} (hS : Shape ops m ms ap tm) (late' : List Nat) (hs : St w0 ρ Γ w)
    (hl : sb (Nat.pred (Nat.pow 2 m)) (Nat.lor (maskOf done) (maskOf late)) = true) (h : OD P n ops late' (fun w => St w0 ρ Γ w) fuel done N L w) : OD P n ops late J fuel done N L w := by
  refine OD_reset late' _ ?_ h
  rw [List.all_eq_true]
  intro i hi
  have hlt : i < m := by rw [← hS.size]; exact List.mem_range.1 hi
  have h1 : tb (Nat.pred (Nat.pow 2 m)) i = true := by
    rw [tb_eq]
    show (2 ^ m - 1).testBit i = true
    rw [Nat.testBit_two_pow_sub_one]; simpa using hlt
  have := sb_iff.1 hl i h1
  rwa [tb_or, tb_mask, tb_mask] at this
theorem WL.weak {c : Code} (L' : Loc) (hs : Sub L' L) (h : WL P n c X R L' w) : WL P n c X R L w := fun a ha => h a (ha.weak hs)
theorem OD_abs (h : ∀ Q : List Nat → (World → Prop) → Nat → List Nat → Loc → World → Prop, (∀ late J fuel done L w, OD P n ops late J fuel done N L w ↔ Q late J fuel done L w) → Q late J fuel done L w) : OD P n ops late J fuel done N L w :=
  h (fun late J fuel done L w => OD P n ops late J fuel done N L w) (fun _ _ _ _ _ _ => Iff.rfl)
theorem lst_mask {k : Nat} {a b : List Nat} (h : maskOf a = maskOf b) : lst k a = lst k b := by
  apply Array.ext
  · simp [lst]
  · intro i h1 h2
    simp only [lst, List.getElem_toArray, List.getElem_map, List.getElem_range]
    rw [← tb_mask, ← tb_mask, h]
theorem OD_land {fuel' : Nat} {done' : List Nat} (hf : fuel = fuel') (hd : Nat.beq (maskOf done) (maskOf done') = true) (h : OD P n ops late J fuel' done' N L w) : OD P n ops late J fuel done N L w := by
  subst hf
  intro a ha
  rw [lst_mask (Nat.eq_of_beq_eq_true hd)]
  exact h a ha
end
end Go.Proofs.YtekafkokpnihfaaGreat
