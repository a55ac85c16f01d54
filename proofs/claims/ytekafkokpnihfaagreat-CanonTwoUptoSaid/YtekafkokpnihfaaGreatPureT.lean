/- Plain laws of slices.SortStableFunc as the canonical order calls it: it sorts stably by class. Own work of this repo. -/
import Derived.Test.YtekafkokpnihfaaGreatPureS
import Derived.Test.YtekafkokpnihfaaGreatPureA
import Derived.Test.YtekafkokpnihfaaGreatTC0
namespace Go.Proofs.YtekafkokpnihfaaGreat
open Go.RowKit

theorem rd_at {A B : List Int} {x i : Int} (h : i = (A.length : Int)) : rd (A ++ x :: B) i = x := by subst h; simp [rd]
theorem rd_at1 {A B : List Int} {u v i : Int} (h : i = (A.length : Int) + 1) : rd (A ++ u :: v :: B) i = v := by
  have := rd_at (A := A ++ [u]) (B := B) (x := v) (i := i) (by simp; omega)
  simpa using this
theorem rd_far {A C D : List Int} {x y i : Int} (h : i = (A.length : Int) + 1 + C.length) : rd (A ++ x :: (C ++ y :: D)) i = y := by
  have := rd_at (A := A ++ x :: C) (B := D) (x := y) (i := i) (by simp; omega)
  simpa using this
theorem set_at {A B : List Int} {x y : Int} {n : Nat} (h : n = A.length) : (A ++ x :: B).set n y = A ++ y :: B := by
  subst h; rw [List.set_append_right _ _ (Nat.le_refl _)]; simp
theorem set_at1 {A B : List Int} {u v y : Int} {n : Nat} (h : n = A.length + 1) : (A ++ u :: v :: B).set n y = A ++ u :: y :: B := by
  have := set_at (A := A ++ [u]) (B := B) (x := v) (y := y) (n := n) (by simp [h])
  simpa using this
theorem set_far {A C D : List Int} {x y z : Int} {n : Nat} (h : n = A.length + 1 + C.length) : (A ++ x :: (C ++ y :: D)).set n z = A ++ x :: (C ++ z :: D) := by
  have := set_at (A := A ++ x :: C) (B := D) (x := y) (y := z) (n := n) (by simp [h]; omega)
  simpa using this
theorem half {x : Int} (h0 : 0 ≤ x) (h1 : x < 4611686018427387904) : IntKind.i64.wrap ((IntKind.u64.wrap (IntKind.i64.wrap x)).fdiv (2 ^ (min (1 : Int).toNat IntKind.u64.bits))) = x / 2 := by
  rw [w64 (x := x) (by omega) (by omega), show IntKind.u64.wrap x = x from by rw [IntKind.wrap_u64]; omega]
  have : (2 : Int) ^ (min (1 : Int).toNat IntKind.u64.bits) = 2 := by decide
  rw [this, Int.fdiv_eq_ediv_of_nonneg _ (by omega)]
  exact w64 (by omega) (by omega)

def cI (a b : Int) : Int := if a < b then -1 else if b < a then 1 else 0
theorem cI_lt {a b : Int} : cI a b < 0 ↔ a < b := by
  unfold cI
  by_cases h : a < b
  · rw [if_pos h]; omega
  · rw [if_neg h]; by_cases h2 : b < a
    · rw [if_pos h2]; omega
    · rw [if_neg h2]; omega
def Cmp (t : Option Tbs) (key : Int → Int) : Prop := ∀ a b, canon_Order_1_ccl.f a b t = some (cI (key a) (key b))

section
variable {t : Option Tbs} {key : Int → Int}
theorem ins_inner (hc : Cmp t key) (go : List Int → Int → Option (List Int)) (P : List Int) (v i : Int) : ∀ (n : Nat) (S rest : List Int) (k : Nat), S.length = n → n < k → P.length + n + 1 + rest.length ≤ bigN →
    ∃ S1 S2, S = S1 ++ S2 ∧ (∀ u ∈ S2, key v < key u) ∧ (∀ S' u, S1 = S' ++ [u] → ¬ key v < key u) ∧
      slices_insertionSortCmpFunc_rune_lbg.l1 go k t (P.length : Int) i (P ++ (S ++ v :: rest)) ((P.length : Int) + n) = go (P ++ (S1 ++ v :: (S2 ++ rest))) (IntKind.i64.wrap (i + 1)) := by
  intro n
  induction n with
  | zero =>
    intro S rest k hS hk hb
    obtain rfl := List.eq_nil_of_length_eq_zero hS
    obtain ⟨k, rfl⟩ : ∃ j, k = j + 1 := ⟨k - 1, by omega⟩
    refine ⟨[], [], rfl, fun u hu => (by cases hu), fun S' u h => (by simp at h), ?_⟩
    simp only [slices_insertionSortCmpFunc_rune_lbg.l1, if_neg (show ¬ (P.length : Int) < (P.length : Int) + ((0 : Nat) : Int) by omega), slices_insertionSortCmpFunc_rune_lbg.j1, Bool.false_eq_true, if_false, List.nil_append]
  | succ n ih =>
    intro S rest k hS hk hb
    obtain ⟨k, rfl⟩ : ∃ j, k = j + 1 := ⟨k - 1, by omega⟩
    rcases List.eq_nil_or_concat S with rfl | ⟨S', u, rfl⟩
    · simp at hS
    have hS' : S'.length = n := by simpa using hS
    have hb' := hb
    unfold bigN at hb'
    have e : P ++ ((S' ++ [u]) ++ v :: rest) = (P ++ S') ++ u :: v :: rest := by simp
    have hl : ((P ++ S') ++ u :: v :: rest).length = P.length + n + 2 + rest.length := by simp [hS']; omega
    have e1 : IntKind.i64.wrap ((P.length : Int) + ((n + 1 : Nat) : Int) - 1) = (P.length : Int) + n := by rw [w64 (by omega) (by omega)]; omega
    have r1 : rd ((P ++ S') ++ u :: v :: rest) ((P.length : Int) + ((n + 1 : Nat) : Int)) = v := rd_at1 (by simp [hS']; omega)
    have r2 : rd ((P ++ S') ++ u :: v :: rest) ((P.length : Int) + (n : Int)) = u := rd_at (by simp [hS'])
    rw [List.concat_eq_append, e]
    simp only [slices_insertionSortCmpFunc_rune_lbg.l1, if_pos (show (P.length : Int) < (P.length : Int) + ((n + 1 : Nat) : Int) by omega), e1, hl, if_pos (show (0 : Int) ≤ (P.length : Int) + ((n + 1 : Nat) : Int) ∧ (P.length : Int) + ((n + 1 : Nat) : Int) < ((P.length + n + 2 + rest.length : Nat) : Int) by omega),
      if_pos (show (0 : Int) ≤ (P.length : Int) + (n : Int) ∧ (P.length : Int) + (n : Int) < ((P.length + n + 2 + rest.length : Nat) : Int) by omega), r1, r2, hc v u, Option.bind_some]
    by_cases c : key v < key u
    · have c' : decide (cI (key v) (key u) < 0) = true := decide_eq_true (cI_lt.2 c)
      rw [c']
      simp only [slices_insertionSortCmpFunc_rune_lbg.j1, if_true, List.length_set, e1, hl, if_pos (show (0 : Int) ≤ (P.length : Int) + ((n + 1 : Nat) : Int) ∧ (P.length : Int) + ((n + 1 : Nat) : Int) < ((P.length + n + 2 + rest.length : Nat) : Int) by omega),
        if_pos (show (0 : Int) ≤ (P.length : Int) + (n : Int) ∧ (P.length : Int) + (n : Int) < ((P.length + n + 2 + rest.length : Nat) : Int) by omega), r1, r2]
      rw [set_at1 (by simp [hS']; omega), set_at (by simp [hS']; omega)]
      obtain ⟨S1, S2, h1, h2, h3, h4⟩ := ih S' (u :: rest) k hS' (by omega) (by simp; omega)
      refine ⟨S1, S2 ++ [u], by rw [h1]; simp, fun w hw => ?_, h3, ?_⟩
      · rcases List.mem_append.1 hw with hw | hw
        · exact h2 w hw
        · rw [List.mem_singleton.1 hw]; exact c
      · have e2 : P ++ S' ++ v :: u :: rest = P ++ (S' ++ v :: u :: rest) := by simp
        rw [e2, h4]; simp
    · have c' : decide (cI (key v) (key u) < 0) = false := decide_eq_false (fun h => c (cI_lt.1 h))
      rw [c']
      simp only [slices_insertionSortCmpFunc_rune_lbg.j1, Bool.false_eq_true, if_false]
      refine ⟨S' ++ [u], [], by simp, fun w hw => (by cases hw), fun S'' w h => ?_, by simp⟩
      have := List.append_inj' h rfl
      obtain ⟨_, h2⟩ := this
      simp at h2; subst h2; exact c
theorem last_le {S1 : List Int} {v : Int} (h : Srt key S1) (hl : ∀ S' u, S1 = S' ++ [u] → ¬ key v < key u) : ∀ u ∈ S1, key u ≤ key v := by
  intro u hu
  rcases List.eq_nil_or_concat S1 with rfl | ⟨S', w, rfl⟩
  · cases hu
  rw [List.concat_eq_append] at *
  have hw := hl S' w rfl
  obtain ⟨_, _, h3⟩ := srt_parts key h
  rcases List.mem_append.1 hu with hu | hu
  · have := h3 u hu w (by simp); omega
  · rw [List.mem_singleton.1 hu]; omega
theorem ins_outer (hc : Cmp t key) (P Q : List Int) : ∀ (R S : List Int) (k : Nat), R.length < k → Srt key S → P.length + S.length + R.length + Q.length ≤ bigN →
    slices_insertionSortCmpFunc_rune_lbg.l2 k t (P.length : Int) ((P.length : Int) + S.length + R.length) (P ++ (S ++ (R ++ Q))) ((P.length : Int) + S.length) = some (P ++ (sortL key (S ++ R) ++ Q)) := by
  intro R
  induction R with
  | nil =>
    intro S k hk hs hb
    obtain ⟨k, rfl⟩ : ∃ j, k = j + 1 := ⟨k - 1, by omega⟩
    simp only [slices_insertionSortCmpFunc_rune_lbg.l2, if_neg (show ¬ (P.length : Int) + (S.length : Int) < (P.length : Int) + S.length + (([] : List Int).length : Int) by simp), List.nil_append, List.append_nil, sort_id key hs]
  | cons v R ih =>
    intro S k hk hs hb
    obtain ⟨k, rfl⟩ : ∃ j, k = j + 1 := ⟨k - 1, by omega⟩
    have hb' := hb
    unfold bigN at hb'
    simp only [List.length_cons] at hk hb' hb
    simp only [slices_insertionSortCmpFunc_rune_lbg.l2, if_pos (show (P.length : Int) + (S.length : Int) < (P.length : Int) + S.length + ((v :: R).length : Int) by simp; omega)]
    obtain ⟨S1, S2, h1, h2, h3, h4⟩ := ins_inner hc (slices_insertionSortCmpFunc_rune_lbg.l2 k t (P.length : Int) ((P.length : Int) + S.length + ((v :: R).length : Int))) P v ((P.length : Int) + S.length) S.length S (R ++ Q) K0 rfl (ltK (by unfold bigN; omega)) (by simp; omega)
    rw [List.cons_append, h4, w64 (by omega) (by omega)]
    subst h1
    obtain ⟨hs1, hs2, hs12⟩ := srt_parts key hs
    have hm := merge_last key (a := S1) (x := S2) (v := v) hs h2 (last_le hs1 h3)
    have hsn : Srt key (S1 ++ v :: S2) := by rw [← hm]; exact srt_sort key _
    have := ih (S1 ++ v :: S2) k (by omega) hsn (by simp at hb ⊢; omega)
    have e1 : ((P.length : Int) + ((S1 ++ S2).length : Int) + ((v :: R).length : Int)) = (P.length : Int) + ((S1 ++ v :: S2).length : Int) + (R.length : Int) := by simp; omega
    have e2 : (P.length : Int) + ((S1 ++ S2).length : Int) + 1 = (P.length : Int) + ((S1 ++ v :: S2).length : Int) := by simp; omega
    have e3 : P ++ (S1 ++ v :: (S2 ++ (R ++ Q))) = P ++ ((S1 ++ v :: S2) ++ (R ++ Q)) := by simp
    rw [e1, e2, e3, this]
    congr 3
    rw [← hm, sort_front]; simp
theorem ins_eq (hc : Cmp t key) (P X Q : List Int) (hb : P.length + X.length + Q.length ≤ bigN) :
    slices_insertionSortCmpFunc_rune_lbg.f (P.length : Int) ((P.length : Int) + X.length) (P ++ (X ++ Q)) t = some (P ++ (sortL key X ++ Q)) := by
  unfold slices_insertionSortCmpFunc_rune_lbg.f
  have hb' := hb
  unfold bigN at hb'
  rw [w64 (by omega) (by omega)]
  cases X with
  | nil =>
    have : K0 = (K0 - 1) + 1 := by unfold K0; rfl
    rw [this]
    simp only [slices_insertionSortCmpFunc_rune_lbg.l2, if_neg (show ¬ (P.length : Int) + 1 < (P.length : Int) + (([] : List Int).length : Int) by simp; omega)]
    rfl
  | cons x X =>
    simp only [List.length_cons] at hb hb'
    have := ins_outer hc P Q X [x] K0 (ltK (by unfold bigN; omega)) ⟨fun y hy => (by cases hy), trivial⟩ (by simp; omega)
    have e1 : (P.length : Int) + (([x] : List Int).length : Int) + (X.length : Int) = (P.length : Int) + ((x :: X).length : Int) := by simp; omega
    rw [e1] at this
    simpa using this
theorem swap_in (P M Q : List Int) : ∀ (X2 Y2 X1 Y1 : List Int) (k : Nat), X2.length = Y2.length → X1.length = Y1.length → X2.length < k → P.length + 2 * (X1.length + X2.length) + M.length + Q.length ≤ bigN →
    slices_swapRangeCmpFunc_rune_bji.l1 k (P.length : Int) ((P.length : Int) + (X1.length + X2.length) + M.length) ((X1.length : Int) + X2.length) (P ++ ((Y1 ++ X2) ++ (M ++ ((X1 ++ Y2) ++ Q)))) (X1.length : Int) = some (P ++ ((Y1 ++ Y2) ++ (M ++ ((X1 ++ X2) ++ Q)))) := by
  intro X2
  induction X2 with
  | nil =>
    intro Y2 X1 Y1 k h1 h2 hk hb
    obtain ⟨k, rfl⟩ : ∃ j, k = j + 1 := ⟨k - 1, by omega⟩
    obtain rfl := List.eq_nil_of_length_eq_zero h1.symm
    simp only [slices_swapRangeCmpFunc_rune_bji.l1, if_neg (show ¬ (X1.length : Int) < (X1.length : Int) + (([] : List Int).length : Int) by simp)]
  | cons x X2 ih =>
    intro Y2 X1 Y1 k h1 h2 hk hb
    obtain ⟨k, rfl⟩ : ∃ j, k = j + 1 := ⟨k - 1, by omega⟩
    cases Y2 with
    | nil => simp at h1
    | cons y Y2 =>
      simp only [List.length_cons] at h1 hk hb
      have hb' := hb
      unfold bigN at hb'
      have e : P ++ ((Y1 ++ x :: X2) ++ (M ++ ((X1 ++ y :: Y2) ++ Q))) = (P ++ Y1) ++ x :: ((X2 ++ (M ++ X1)) ++ y :: (Y2 ++ Q)) := by simp
      have w1 : IntKind.i64.wrap ((P.length : Int) + (X1.length : Int)) = (P.length : Int) + X1.length := w64 (by omega) (by omega)
      have w2 : IntKind.i64.wrap ((P.length : Int) + ((X1.length : Int) + ((x :: X2).length : Int)) + (M.length : Int) + (X1.length : Int)) = (P.length : Int) + (X1.length + X2.length + 1) + M.length + X1.length := by rw [w64 (by simp; omega) (by simp; omega)]; simp; omega
      have hl : ((P ++ Y1) ++ x :: ((X2 ++ (M ++ X1)) ++ y :: (Y2 ++ Q))).length = P.length + 2 * (X1.length + (X2.length + 1)) + M.length + Q.length := by simp; omega
      have r1 : rd ((P ++ Y1) ++ x :: ((X2 ++ (M ++ X1)) ++ y :: (Y2 ++ Q))) ((P.length : Int) + X1.length) = x := rd_at (by simp; omega)
      have r2 : rd ((P ++ Y1) ++ x :: ((X2 ++ (M ++ X1)) ++ y :: (Y2 ++ Q))) ((P.length : Int) + (X1.length + X2.length + 1) + M.length + X1.length) = y := rd_far (by simp; omega)
      rw [e]
      simp only [slices_swapRangeCmpFunc_rune_bji.l1, if_pos (show (X1.length : Int) < (X1.length : Int) + ((x :: X2).length : Int) by simp; omega), w1, w2, List.length_set, hl,
        if_pos (show (0 : Int) ≤ (P.length : Int) + (X1.length + X2.length + 1) + M.length + X1.length ∧ (P.length : Int) + (X1.length + X2.length + 1) + M.length + X1.length < ((P.length + 2 * (X1.length + (X2.length + 1)) + M.length + Q.length : Nat) : Int) by omega),
        if_pos (show (0 : Int) ≤ (P.length : Int) + X1.length ∧ (P.length : Int) + X1.length < ((P.length + 2 * (X1.length + (X2.length + 1)) + M.length + Q.length : Nat) : Int) by omega), r1, r2]
      rw [set_at (by simp; omega), set_far (by simp; omega), w64 (by omega) (by omega)]
      have := ih Y2 (X1 ++ [x]) (Y1 ++ [y]) k (by omega) (by simp; omega) (by omega) (by simp; omega)
      have e1 : (P.length : Int) + (((X1 ++ [x]).length : Int) + (X2.length : Int)) + (M.length : Int) = (P.length : Int) + ((X1.length : Int) + ((x :: X2).length : Int)) + (M.length : Int) := by simp; omega
      have e2 : ((X1 ++ [x]).length : Int) + (X2.length : Int) = (X1.length : Int) + ((x :: X2).length : Int) := by simp; omega
      have e3 : ((X1 ++ [x]).length : Int) = (X1.length : Int) + 1 := by simp
      rw [e1, e2, e3] at this
      simpa using this
theorem swap_eq (P X M Y Q : List Int) (h : X.length = Y.length) (hb : P.length + 2 * X.length + M.length + Q.length ≤ bigN) :
    slices_swapRangeCmpFunc_rune_bji.f (P.length : Int) ((P.length : Int) + X.length + M.length) (X.length : Int) (P ++ (X ++ (M ++ (Y ++ Q)))) t = some (P ++ (Y ++ (M ++ (X ++ Q)))) := by
  have hb' := hb
  unfold bigN at hb'
  have := swap_in P M Q X Y [] [] K0 h rfl (ltK (by unfold bigN; omega)) (by simpa using hb)
  unfold slices_swapRangeCmpFunc_rune_bji.f
  simpa using this
theorem rot_in : ∀ (n : Nat) (P X Y Q : List Int) (k : Nat), X.length + Y.length ≤ n → n < k → 0 < X.length → 0 < Y.length → P.length + X.length + Y.length + Q.length ≤ bigN →
    slices_rotateCmpFunc_rune_bji.l1 k t ((P.length : Int) + X.length) (P ++ (X ++ (Y ++ Q))) (X.length : Int) (Y.length : Int) = some (P ++ (Y ++ (X ++ Q))) := by
  intro n
  induction n with
  | zero => intro P X Y Q k h1 h2 h3; omega
  | succ n ih =>
    intro P X Y Q k h1 h2 h3 h4 hb
    obtain ⟨k, rfl⟩ : ∃ j, k = j + 1 := ⟨k - 1, by omega⟩
    have hb' := hb
    unfold bigN at hb'
    have w1 : IntKind.i64.wrap ((P.length : Int) + (X.length : Int) - (X.length : Int)) = (P.length : Int) := by rw [w64 (by omega) (by omega)]; omega
    by_cases c1 : (X.length : Int) = (Y.length : Int)
    · simp only [slices_rotateCmpFunc_rune_bji.l1, if_neg (show ¬ (X.length : Int) ≠ (Y.length : Int) by omega), w1]
      have := swap_eq (t := t) P X [] Y Q (by omega) (by simp; omega)
      have e : (P.length : Int) + (X.length : Int) + (([] : List Int).length : Int) = (P.length : Int) + X.length := by simp
      rw [e] at this
      simp only [List.nil_append] at this
      rw [this]; rfl
    · by_cases c2 : (Y.length : Int) < (X.length : Int)
      · simp only [slices_rotateCmpFunc_rune_bji.l1, if_pos (show (X.length : Int) ≠ (Y.length : Int) from c1), if_pos c2, w1]
        obtain ⟨X1, X2, rfl, hx1⟩ : ∃ X1 X2, X = X1 ++ X2 ∧ X1.length = Y.length := ⟨X.take Y.length, X.drop Y.length, by simp, by simp; omega⟩
        have hx2 : 0 < X2.length := by simp at c2; omega
        have := swap_eq (t := t) P X1 X2 Y Q hx1 (by simp at hb; omega)
        have e : (P.length : Int) + ((X1 ++ X2).length : Int) = (P.length : Int) + X1.length + X2.length := by simp; omega
        rw [hx1] at this
        rw [e, hx1]
        have e2 : P ++ (X1 ++ X2 ++ (Y ++ Q)) = P ++ (X1 ++ (X2 ++ (Y ++ Q))) := by simp
        rw [e2, this, Option.bind_some]
        have w2 : IntKind.i64.wrap (((X1 ++ X2).length : Int) - (Y.length : Int)) = (X2.length : Int) := by rw [w64 (by simp; omega) (by simp; omega)]; simp; omega
        rw [w2]
        have := ih (P ++ Y) X2 X1 Q k (by simp at h1; omega) (by omega) hx2 (by omega) (by simp at hb ⊢; omega)
        have e3 : ((P ++ Y).length : Int) + (X2.length : Int) = (P.length : Int) + Y.length + X2.length := by simp
        rw [e3, hx1] at this
        have e4 : P ++ (Y ++ (X2 ++ (X1 ++ Q))) = P ++ Y ++ (X2 ++ (X1 ++ Q)) := by simp
        rw [e4, this]; simp
      · simp only [slices_rotateCmpFunc_rune_bji.l1, if_pos (show (X.length : Int) ≠ (Y.length : Int) from c1), if_neg c2, w1]
        obtain ⟨Y1, Y2, rfl, hy1⟩ : ∃ Y1 Y2, Y = Y1 ++ Y2 ∧ Y2.length = X.length := ⟨Y.take (Y.length - X.length), Y.drop (Y.length - X.length), by simp, by simp; omega⟩
        have hy0 : 0 < Y1.length := by simp at c1 c2; omega
        have := swap_eq (t := t) P X Y1 Y2 Q hy1.symm (by simp at hb; omega)
        have w3 : IntKind.i64.wrap (IntKind.i64.wrap ((P.length : Int) + (X.length : Int) + ((Y1 ++ Y2).length : Int)) - (X.length : Int)) = (P.length : Int) + X.length + Y1.length := by
          have hyl : (Y1 ++ Y2).length = Y1.length + Y2.length := by simp
          rw [w64 (x := (P.length : Int) + (X.length : Int) + ((Y1 ++ Y2).length : Int)) (by omega) (by omega), w64 (x := (P.length : Int) + (X.length : Int) + ((Y1 ++ Y2).length : Int) - (X.length : Int)) (by omega) (by omega)]; omega
        rw [w3]
        have e2 : P ++ (X ++ (Y1 ++ Y2 ++ Q)) = P ++ (X ++ (Y1 ++ (Y2 ++ Q))) := by simp
        rw [e2, this, Option.bind_some]
        have hyl : (Y1 ++ Y2).length = Y1.length + Y2.length := by simp
        have w2 : IntKind.i64.wrap (((Y1 ++ Y2).length : Int) - (X.length : Int)) = (Y1.length : Int) := by rw [w64 (by omega) (by omega)]; omega
        rw [w2]
        have := ih P Y2 Y1 (X ++ Q) k (by simp at h1; omega) (by omega) (by omega) hy0 (by simp at hb ⊢; omega)
        rw [hy1] at this
        rw [this]; simp
theorem rot_eq (P X Y Q : List Int) (h3 : 0 < X.length) (h4 : 0 < Y.length) (hb : P.length + X.length + Y.length + Q.length ≤ bigN) :
    slices_rotateCmpFunc_rune_bji.f (P.length : Int) ((P.length : Int) + X.length) ((P.length : Int) + X.length + Y.length) (P ++ (X ++ (Y ++ Q))) t = some (P ++ (Y ++ (X ++ Q))) := by
  have hb' := hb
  unfold bigN at hb'
  unfold slices_rotateCmpFunc_rune_bji.f
  have w1 : IntKind.i64.wrap ((P.length : Int) + (X.length : Int) - (P.length : Int)) = (X.length : Int) := by rw [w64 (by omega) (by omega)]; omega
  have w2 : IntKind.i64.wrap ((P.length : Int) + (X.length : Int) + (Y.length : Int) - ((P.length : Int) + (X.length : Int))) = (Y.length : Int) := by rw [w64 (by omega) (by omega)]; omega
  rw [w1, w2]
  exact rot_in (X.length + Y.length) P X Y Q K0 (Nat.le_refl _) (ltK (by unfold bigN; omega)) h3 h4 hb
end
end Go.Proofs.YtekafkokpnihfaaGreat
