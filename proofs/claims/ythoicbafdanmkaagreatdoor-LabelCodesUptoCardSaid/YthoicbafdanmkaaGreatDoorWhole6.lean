/- Texts of this repo, merged for the claim: PureT, PureU, PureV, PureW, PureB, PureC, PureD, PureE, PureF, PureG, PureI, PureJ, PureK, PureX, PureCR, PureLI, PureLB, PureLC, PureLW, PureLD, PureLE. -/
import Derived.Test.YthoicbafdanmkaaGreatDoorWhole4
import Derived.Test.YthoicbafdanmkaaGreatDoorWhole5
import Derived.Test.YthoicbafdanmkaaGreatDoorWhole3
import Derived.Test.YthoicbafdanmkaaGreatDoorWhole1
import Derived.Test.YthoicbafdanmkaaGreatDoorWhole2
/- Plain laws of slices.SortStableFunc as the canonical order calls it: it sorts stably by class. Own work of this repo. -/
namespace Go.Proofs.YthoicbafdanmkaaGreatDoor
open Go.RowKit

theorem rd_at {A B : List Int} {x i : Int} (h : i = (A.length : Int)) : rd (A ++ x :: B) i = x := by subst h; simp [rd]
theorem rd_at1 {A B : List Int} {u v i : Int} (h : i = (A.length : Int) + 1) : rd (A ++ u :: v :: B) i = v := by
  have := rd_at (A := A ++ [u]) (B := B) (x := v) (i := i) (by simp; omega)
  simpa using this
theorem rd_far {A C D : List Int} {x y i : Int} (h : i = (A.length : Int) + 1 + C.length) : rd (A ++ x :: (C ++ y :: D)) i = y := by
  have := rd_at (A := A ++ x :: C) (B := D) (x := y) (i := i) (by simp; omega)
  simpa using this
theorem set_at {A B : List Int} {x y : Int} {n : Nat} (h : n = A.length) : (A ++ x :: B).set n y = A ++ y :: B := by
  subst h; rw [List.set_append_right _ _ (Nat.le_refl _)]; simp
theorem set_at1 {A B : List Int} {u v y : Int} {n : Nat} (h : n = A.length + 1) : (A ++ u :: v :: B).set n y = A ++ u :: y :: B := by
  have := set_at (A := A ++ [u]) (B := B) (x := v) (y := y) (n := n) (by simp [h])
  simpa using this
theorem set_far {A C D : List Int} {x y z : Int} {n : Nat} (h : n = A.length + 1 + C.length) : (A ++ x :: (C ++ y :: D)).set n z = A ++ x :: (C ++ z :: D) := by
  have := set_at (A := A ++ x :: C) (B := D) (x := y) (y := z) (n := n) (by simp [h]; omega)
  simpa using this
theorem half {x : Int} (h0 : 0 ≤ x) (h1 : x < 4611686018427387904) : IntKind.i64.wrap ((IntKind.u64.wrap (IntKind.i64.wrap x)).fdiv (2 ^ (min (1 : Int).toNat IntKind.u64.bits))) = x / 2 := by
  rw [w64 (x := x) (by omega) (by omega), show IntKind.u64.wrap x = x from by rw [IntKind.wrap_u64]; omega]
  have : (2 : Int) ^ (min (1 : Int).toNat IntKind.u64.bits) = 2 := by decide
  rw [this, Int.fdiv_eq_ediv_of_nonneg _ (by omega)]
  exact w64 (by omega) (by omega)

def cI (a b : Int) : Int := if a < b then -1 else if b < a then 1 else 0
theorem cI_lt {a b : Int} : cI a b < 0 ↔ a < b := by
  unfold cI
  by_cases h : a < b
  · rw [if_pos h]; omega
  · rw [if_neg h]; by_cases h2 : b < a
    · rw [if_pos h2]; omega
    · rw [if_neg h2]; omega
def Cmp (t : Option Tbs) (key : Int → Int) : Prop := ∀ a b, canon_Order_1_ccl.f a b t = some (cI (key a) (key b))

section
variable {t : Option Tbs} {key : Int → Int}
theorem ins_inner (hc : Cmp t key) (go : List Int → Int → Option (List Int)) (P : List Int) (v i : Int) : ∀ (n : Nat) (S rest : List Int) (k : Nat), S.length = n → n < k → P.length + n + 1 + rest.length ≤ bigN →
    ∃ S1 S2, S = S1 ++ S2 ∧ (∀ u ∈ S2, key v < key u) ∧ (∀ S' u, S1 = S' ++ [u] → ¬ key v < key u) ∧
      slices_insertionSortCmpFunc_rune_lbg.l1 go k t (P.length : Int) i (P ++ (S ++ v :: rest)) ((P.length : Int) + n) = go (P ++ (S1 ++ v :: (S2 ++ rest))) (IntKind.i64.wrap (i + 1)) := by
  intro n
  induction n with
  | zero =>
    intro S rest k hS hk hb
    obtain rfl := List.eq_nil_of_length_eq_zero hS
    obtain ⟨k, rfl⟩ : ∃ j, k = j + 1 := ⟨k - 1, by omega⟩
    refine ⟨[], [], rfl, fun u hu => (by cases hu), fun S' u h => (by simp at h), ?_⟩
    simp only [slices_insertionSortCmpFunc_rune_lbg.l1, if_neg (show ¬ (P.length : Int) < (P.length : Int) + ((0 : Nat) : Int) by omega), slices_insertionSortCmpFunc_rune_lbg.j1, Bool.false_eq_true, if_false, List.nil_append]
  | succ n ih =>
    intro S rest k hS hk hb
    obtain ⟨k, rfl⟩ : ∃ j, k = j + 1 := ⟨k - 1, by omega⟩
    rcases List.eq_nil_or_concat S with rfl | ⟨S', u, rfl⟩
    · simp at hS
    have hS' : S'.length = n := by simpa using hS
    have hb' := hb
    unfold bigN at hb'
    have e : P ++ ((S' ++ [u]) ++ v :: rest) = (P ++ S') ++ u :: v :: rest := by simp
    have hl : ((P ++ S') ++ u :: v :: rest).length = P.length + n + 2 + rest.length := by simp [hS']; omega
    have e1 : IntKind.i64.wrap ((P.length : Int) + ((n + 1 : Nat) : Int) - 1) = (P.length : Int) + n := by rw [w64 (by omega) (by omega)]; omega
    have r1 : rd ((P ++ S') ++ u :: v :: rest) ((P.length : Int) + ((n + 1 : Nat) : Int)) = v := rd_at1 (by simp [hS']; omega)
    have r2 : rd ((P ++ S') ++ u :: v :: rest) ((P.length : Int) + (n : Int)) = u := rd_at (by simp [hS'])
    rw [List.concat_eq_append, e]
    simp only [slices_insertionSortCmpFunc_rune_lbg.l1, if_pos (show (P.length : Int) < (P.length : Int) + ((n + 1 : Nat) : Int) by omega), e1, hl, if_pos (show (0 : Int) ≤ (P.length : Int) + ((n + 1 : Nat) : Int) ∧ (P.length : Int) + ((n + 1 : Nat) : Int) < ((P.length + n + 2 + rest.length : Nat) : Int) by omega),
      if_pos (show (0 : Int) ≤ (P.length : Int) + (n : Int) ∧ (P.length : Int) + (n : Int) < ((P.length + n + 2 + rest.length : Nat) : Int) by omega), r1, r2, hc v u, Option.bind_some]
    by_cases c : key v < key u
    · have c' : decide (cI (key v) (key u) < 0) = true := decide_eq_true (cI_lt.2 c)
      rw [c']
      simp only [slices_insertionSortCmpFunc_rune_lbg.j1, if_true, List.length_set, e1, hl, if_pos (show (0 : Int) ≤ (P.length : Int) + ((n + 1 : Nat) : Int) ∧ (P.length : Int) + ((n + 1 : Nat) : Int) < ((P.length + n + 2 + rest.length : Nat) : Int) by omega),
        if_pos (show (0 : Int) ≤ (P.length : Int) + (n : Int) ∧ (P.length : Int) + (n : Int) < ((P.length + n + 2 + rest.length : Nat) : Int) by omega), r1, r2]
      rw [set_at1 (by simp [hS']; omega), set_at (by simp [hS']; omega)]
      obtain ⟨S1, S2, h1, h2, h3, h4⟩ := ih S' (u :: rest) k hS' (by omega) (by simp; omega)
      refine ⟨S1, S2 ++ [u], by rw [h1]; simp, fun w hw => ?_, h3, ?_⟩
      · rcases List.mem_append.1 hw with hw | hw
        · exact h2 w hw
        · rw [List.mem_singleton.1 hw]; exact c
      · have e2 : P ++ S' ++ v :: u :: rest = P ++ (S' ++ v :: u :: rest) := by simp
        rw [e2, h4]; simp
    · have c' : decide (cI (key v) (key u) < 0) = false := decide_eq_false (fun h => c (cI_lt.1 h))
      rw [c']
      simp only [slices_insertionSortCmpFunc_rune_lbg.j1, Bool.false_eq_true, if_false]
      refine ⟨S' ++ [u], [], by simp, fun w hw => (by cases hw), fun S'' w h => ?_, by simp⟩
      have := List.append_inj' h rfl
      obtain ⟨_, h2⟩ := this
      simp at h2; subst h2; exact c
theorem last_le {S1 : List Int} {v : Int} (h : Srt key S1) (hl : ∀ S' u, S1 = S' ++ [u] → ¬ key v < key u) : ∀ u ∈ S1, key u ≤ key v := by
  intro u hu
  rcases List.eq_nil_or_concat S1 with rfl | ⟨S', w, rfl⟩
  · cases hu
  rw [List.concat_eq_append] at *
  have hw := hl S' w rfl
  obtain ⟨_, _, h3⟩ := srt_parts key h
  rcases List.mem_append.1 hu with hu | hu
  · have := h3 u hu w (by simp); omega
  · rw [List.mem_singleton.1 hu]; omega
theorem ins_outer (hc : Cmp t key) (P Q : List Int) : ∀ (R S : List Int) (k : Nat), R.length < k → Srt key S → P.length + S.length + R.length + Q.length ≤ bigN →
    slices_insertionSortCmpFunc_rune_lbg.l2 k t (P.length : Int) ((P.length : Int) + S.length + R.length) (P ++ (S ++ (R ++ Q))) ((P.length : Int) + S.length) = some (P ++ (sortL key (S ++ R) ++ Q)) := by
  intro R
  induction R with
  | nil =>
    intro S k hk hs hb
    obtain ⟨k, rfl⟩ : ∃ j, k = j + 1 := ⟨k - 1, by omega⟩
    simp only [slices_insertionSortCmpFunc_rune_lbg.l2, if_neg (show ¬ (P.length : Int) + (S.length : Int) < (P.length : Int) + S.length + (([] : List Int).length : Int) by simp), List.nil_append, List.append_nil, sort_id key hs]
  | cons v R ih =>
    intro S k hk hs hb
    obtain ⟨k, rfl⟩ : ∃ j, k = j + 1 := ⟨k - 1, by omega⟩
    have hb' := hb
    unfold bigN at hb'
    simp only [List.length_cons] at hk hb' hb
    simp only [slices_insertionSortCmpFunc_rune_lbg.l2, if_pos (show (P.length : Int) + (S.length : Int) < (P.length : Int) + S.length + ((v :: R).length : Int) by simp; omega)]
    obtain ⟨S1, S2, h1, h2, h3, h4⟩ := ins_inner hc (slices_insertionSortCmpFunc_rune_lbg.l2 k t (P.length : Int) ((P.length : Int) + S.length + ((v :: R).length : Int))) P v ((P.length : Int) + S.length) S.length S (R ++ Q) K0 rfl (ltK (by unfold bigN; omega)) (by simp; omega)
    rw [List.cons_append, h4, w64 (by omega) (by omega)]
    subst h1
    obtain ⟨hs1, hs2, hs12⟩ := srt_parts key hs
    have hm := merge_last key (a := S1) (x := S2) (v := v) hs h2 (last_le hs1 h3)
    have hsn : Srt key (S1 ++ v :: S2) := by rw [← hm]; exact srt_sort key _
    have := ih (S1 ++ v :: S2) k (by omega) hsn (by simp at hb ⊢; omega)
    have e1 : ((P.length : Int) + ((S1 ++ S2).length : Int) + ((v :: R).length : Int)) = (P.length : Int) + ((S1 ++ v :: S2).length : Int) + (R.length : Int) := by simp; omega
    have e2 : (P.length : Int) + ((S1 ++ S2).length : Int) + 1 = (P.length : Int) + ((S1 ++ v :: S2).length : Int) := by simp; omega
    have e3 : P ++ (S1 ++ v :: (S2 ++ (R ++ Q))) = P ++ ((S1 ++ v :: S2) ++ (R ++ Q)) := by simp
    rw [e1, e2, e3, this]
    congr 3
    rw [← hm, sort_front]; simp
theorem ins_eq (hc : Cmp t key) (P X Q : List Int) (hb : P.length + X.length + Q.length ≤ bigN) :
    slices_insertionSortCmpFunc_rune_lbg.f (P.length : Int) ((P.length : Int) + X.length) (P ++ (X ++ Q)) t = some (P ++ (sortL key X ++ Q)) := by
  unfold slices_insertionSortCmpFunc_rune_lbg.f
  have hb' := hb
  unfold bigN at hb'
  rw [w64 (by omega) (by omega)]
  cases X with
  | nil =>
    have : K0 = (K0 - 1) + 1 := by unfold K0; rfl
    rw [this]
    simp only [slices_insertionSortCmpFunc_rune_lbg.l2, if_neg (show ¬ (P.length : Int) + 1 < (P.length : Int) + (([] : List Int).length : Int) by simp; omega)]
    rfl
  | cons x X =>
    simp only [List.length_cons] at hb hb'
    have := ins_outer hc P Q X [x] K0 (ltK (by unfold bigN; omega)) ⟨fun y hy => (by cases hy), trivial⟩ (by simp; omega)
    have e1 : (P.length : Int) + (([x] : List Int).length : Int) + (X.length : Int) = (P.length : Int) + ((x :: X).length : Int) := by simp; omega
    rw [e1] at this
    simpa using this
theorem swap_in (P M Q : List Int) : ∀ (X2 Y2 X1 Y1 : List Int) (k : Nat), X2.length = Y2.length → X1.length = Y1.length → X2.length < k → P.length + 2 * (X1.length + X2.length) + M.length + Q.length ≤ bigN →
    slices_swapRangeCmpFunc_rune_bji.l1 k (P.length : Int) ((P.length : Int) + (X1.length + X2.length) + M.length) ((X1.length : Int) + X2.length) (P ++ ((Y1 ++ X2) ++ (M ++ ((X1 ++ Y2) ++ Q)))) (X1.length : Int) = some (P ++ ((Y1 ++ Y2) ++ (M ++ ((X1 ++ X2) ++ Q)))) := by
  intro X2
  induction X2 with
  | nil =>
    intro Y2 X1 Y1 k h1 h2 hk hb
    obtain ⟨k, rfl⟩ : ∃ j, k = j + 1 := ⟨k - 1, by omega⟩
    obtain rfl := List.eq_nil_of_length_eq_zero h1.symm
    simp only [slices_swapRangeCmpFunc_rune_bji.l1, if_neg (show ¬ (X1.length : Int) < (X1.length : Int) + (([] : List Int).length : Int) by simp)]
  | cons x X2 ih =>
    intro Y2 X1 Y1 k h1 h2 hk hb
    obtain ⟨k, rfl⟩ : ∃ j, k = j + 1 := ⟨k - 1, by omega⟩
    cases Y2 with
    | nil => simp at h1
    | cons y Y2 =>
      simp only [List.length_cons] at h1 hk hb
      have hb' := hb
      unfold bigN at hb'
      have e : P ++ ((Y1 ++ x :: X2) ++ (M ++ ((X1 ++ y :: Y2) ++ Q))) = (P ++ Y1) ++ x :: ((X2 ++ (M ++ X1)) ++ y :: (Y2 ++ Q)) := by simp
      have w1 : IntKind.i64.wrap ((P.length : Int) + (X1.length : Int)) = (P.length : Int) + X1.length := w64 (by omega) (by omega)
      have w2 : IntKind.i64.wrap ((P.length : Int) + ((X1.length : Int) + ((x :: X2).length : Int)) + (M.length : Int) + (X1.length : Int)) = (P.length : Int) + (X1.length + X2.length + 1) + M.length + X1.length := by rw [w64 (by simp; omega) (by simp; omega)]; simp; omega
      have hl : ((P ++ Y1) ++ x :: ((X2 ++ (M ++ X1)) ++ y :: (Y2 ++ Q))).length = P.length + 2 * (X1.length + (X2.length + 1)) + M.length + Q.length := by simp; omega
      have r1 : rd ((P ++ Y1) ++ x :: ((X2 ++ (M ++ X1)) ++ y :: (Y2 ++ Q))) ((P.length : Int) + X1.length) = x := rd_at (by simp; omega)
      have r2 : rd ((P ++ Y1) ++ x :: ((X2 ++ (M ++ X1)) ++ y :: (Y2 ++ Q))) ((P.length : Int) + (X1.length + X2.length + 1) + M.length + X1.length) = y := rd_far (by simp; omega)
      rw [e]
      simp only [slices_swapRangeCmpFunc_rune_bji.l1, if_pos (show (X1.length : Int) < (X1.length : Int) + ((x :: X2).length : Int) by simp; omega), w1, w2, List.length_set, hl,
        if_pos (show (0 : Int) ≤ (P.length : Int) + (X1.length + X2.length + 1) + M.length + X1.length ∧ (P.length : Int) + (X1.length + X2.length + 1) + M.length + X1.length < ((P.length + 2 * (X1.length + (X2.length + 1)) + M.length + Q.length : Nat) : Int) by omega),
        if_pos (show (0 : Int) ≤ (P.length : Int) + X1.length ∧ (P.length : Int) + X1.length < ((P.length + 2 * (X1.length + (X2.length + 1)) + M.length + Q.length : Nat) : Int) by omega), r1, r2]
      rw [set_at (by simp; omega), set_far (by simp; omega), w64 (by omega) (by omega)]
      have := ih Y2 (X1 ++ [x]) (Y1 ++ [y]) k (by omega) (by simp; omega) (by omega) (by simp; omega)
      have e1 : (P.length : Int) + (((X1 ++ [x]).length : Int) + (X2.length : Int)) + (M.length : Int) = (P.length : Int) + ((X1.length : Int) + ((x :: X2).length : Int)) + (M.length : Int) := by simp; omega
      have e2 : ((X1 ++ [x]).length : Int) + (X2.length : Int) = (X1.length : Int) + ((x :: X2).length : Int) := by simp; omega
      have e3 : ((X1 ++ [x]).length : Int) = (X1.length : Int) + 1 := by simp
      rw [e1, e2, e3] at this
      simpa using this
theorem swap_eq (P X M Y Q : List Int) (h : X.length = Y.length) (hb : P.length + 2 * X.length + M.length + Q.length ≤ bigN) :
    slices_swapRangeCmpFunc_rune_bji.f (P.length : Int) ((P.length : Int) + X.length + M.length) (X.length : Int) (P ++ (X ++ (M ++ (Y ++ Q)))) t = some (P ++ (Y ++ (M ++ (X ++ Q)))) := by
  have hb' := hb
  unfold bigN at hb'
  have := swap_in P M Q X Y [] [] K0 h rfl (ltK (by unfold bigN; omega)) (by simpa using hb)
  unfold slices_swapRangeCmpFunc_rune_bji.f
  simpa using this
theorem rot_in : ∀ (n : Nat) (P X Y Q : List Int) (k : Nat), X.length + Y.length ≤ n → n < k → 0 < X.length → 0 < Y.length → P.length + X.length + Y.length + Q.length ≤ bigN →
    slices_rotateCmpFunc_rune_bji.l1 k t ((P.length : Int) + X.length) (P ++ (X ++ (Y ++ Q))) (X.length : Int) (Y.length : Int) = some (P ++ (Y ++ (X ++ Q))) := by
  intro n
  induction n with
  | zero => intro P X Y Q k h1 h2 h3; omega
  | succ n ih =>
    intro P X Y Q k h1 h2 h3 h4 hb
    obtain ⟨k, rfl⟩ : ∃ j, k = j + 1 := ⟨k - 1, by omega⟩
    have hb' := hb
    unfold bigN at hb'
    have w1 : IntKind.i64.wrap ((P.length : Int) + (X.length : Int) - (X.length : Int)) = (P.length : Int) := by rw [w64 (by omega) (by omega)]; omega
    by_cases c1 : (X.length : Int) = (Y.length : Int)
    · simp only [slices_rotateCmpFunc_rune_bji.l1, if_neg (show ¬ (X.length : Int) ≠ (Y.length : Int) by omega), w1]
      have := swap_eq (t := t) P X [] Y Q (by omega) (by simp; omega)
      have e : (P.length : Int) + (X.length : Int) + (([] : List Int).length : Int) = (P.length : Int) + X.length := by simp
      rw [e] at this
      simp only [List.nil_append] at this
      rw [this]; rfl
    · by_cases c2 : (Y.length : Int) < (X.length : Int)
      · simp only [slices_rotateCmpFunc_rune_bji.l1, if_pos (show (X.length : Int) ≠ (Y.length : Int) from c1), if_pos c2, w1]
        obtain ⟨X1, X2, rfl, hx1⟩ : ∃ X1 X2, X = X1 ++ X2 ∧ X1.length = Y.length := ⟨X.take Y.length, X.drop Y.length, by simp, by simp; omega⟩
        have hx2 : 0 < X2.length := by simp at c2; omega
        have := swap_eq (t := t) P X1 X2 Y Q hx1 (by simp at hb; omega)
        have e : (P.length : Int) + ((X1 ++ X2).length : Int) = (P.length : Int) + X1.length + X2.length := by simp; omega
        rw [hx1] at this
        rw [e, hx1]
        have e2 : P ++ (X1 ++ X2 ++ (Y ++ Q)) = P ++ (X1 ++ (X2 ++ (Y ++ Q))) := by simp
        rw [e2, this, Option.bind_some]
        have w2 : IntKind.i64.wrap (((X1 ++ X2).length : Int) - (Y.length : Int)) = (X2.length : Int) := by rw [w64 (by simp; omega) (by simp; omega)]; simp; omega
        rw [w2]
        have := ih (P ++ Y) X2 X1 Q k (by simp at h1; omega) (by omega) hx2 (by omega) (by simp at hb ⊢; omega)
        have e3 : ((P ++ Y).length : Int) + (X2.length : Int) = (P.length : Int) + Y.length + X2.length := by simp
        rw [e3, hx1] at this
        have e4 : P ++ (Y ++ (X2 ++ (X1 ++ Q))) = P ++ Y ++ (X2 ++ (X1 ++ Q)) := by simp
        rw [e4, this]; simp
      · simp only [slices_rotateCmpFunc_rune_bji.l1, if_pos (show (X.length : Int) ≠ (Y.length : Int) from c1), if_neg c2, w1]
        obtain ⟨Y1, Y2, rfl, hy1⟩ : ∃ Y1 Y2, Y = Y1 ++ Y2 ∧ Y2.length = X.length := ⟨Y.take (Y.length - X.length), Y.drop (Y.length - X.length), by simp, by simp; omega⟩
        have hy0 : 0 < Y1.length := by simp at c1 c2; omega
        have := swap_eq (t := t) P X Y1 Y2 Q hy1.symm (by simp at hb; omega)
        have w3 : IntKind.i64.wrap (IntKind.i64.wrap ((P.length : Int) + (X.length : Int) + ((Y1 ++ Y2).length : Int)) - (X.length : Int)) = (P.length : Int) + X.length + Y1.length := by
          have hyl : (Y1 ++ Y2).length = Y1.length + Y2.length := by simp
          rw [w64 (x := (P.length : Int) + (X.length : Int) + ((Y1 ++ Y2).length : Int)) (by omega) (by omega), w64 (x := (P.length : Int) + (X.length : Int) + ((Y1 ++ Y2).length : Int) - (X.length : Int)) (by omega) (by omega)]; omega
        rw [w3]
        have e2 : P ++ (X ++ (Y1 ++ Y2 ++ Q)) = P ++ (X ++ (Y1 ++ (Y2 ++ Q))) := by simp
        rw [e2, this, Option.bind_some]
        have hyl : (Y1 ++ Y2).length = Y1.length + Y2.length := by simp
        have w2 : IntKind.i64.wrap (((Y1 ++ Y2).length : Int) - (X.length : Int)) = (Y1.length : Int) := by rw [w64 (by omega) (by omega)]; omega
        rw [w2]
        have := ih P Y2 Y1 (X ++ Q) k (by simp at h1; omega) (by omega) (by omega) hy0 (by simp at hb ⊢; omega)
        rw [hy1] at this
        rw [this]; simp
theorem rot_eq (P X Y Q : List Int) (h3 : 0 < X.length) (h4 : 0 < Y.length) (hb : P.length + X.length + Y.length + Q.length ≤ bigN) :
    slices_rotateCmpFunc_rune_bji.f (P.length : Int) ((P.length : Int) + X.length) ((P.length : Int) + X.length + Y.length) (P ++ (X ++ (Y ++ Q))) t = some (P ++ (Y ++ (X ++ Q))) := by
  have hb' := hb
  unfold bigN at hb'
  unfold slices_rotateCmpFunc_rune_bji.f
  have w1 : IntKind.i64.wrap ((P.length : Int) + (X.length : Int) - (P.length : Int)) = (X.length : Int) := by rw [w64 (by omega) (by omega)]; omega
  have w2 : IntKind.i64.wrap ((P.length : Int) + (X.length : Int) + (Y.length : Int) - ((P.length : Int) + (X.length : Int))) = (Y.length : Int) := by rw [w64 (by omega) (by omega)]; omega
  rw [w1, w2]
  exact rot_in (X.length + Y.length) P X Y Q K0 (Nat.le_refl _) (ltK (by unfold bigN; omega)) h3 h4 hb
end
end Go.Proofs.YthoicbafdanmkaaGreatDoor
/- Plain laws of slices.SortStableFunc: merging in place, and the whole. Own work of this repo. -/
namespace Go.Proofs.YthoicbafdanmkaaGreatDoor
open Go.RowKit
section
variable {t : Option Tbs} {key : Int → Int}
theorem mov_right (P Q : List Int) (u : Int) : ∀ (Y2 Y1 : List Int) (k : Nat), Y2.length < k → P.length + Y1.length + Y2.length + 1 + Q.length ≤ bigN →
    slices_symMergeCmpFunc_rune_bji.l1 k ((P.length : Int) + Y1.length + Y2.length + 1) (P ++ (Y1 ++ u :: (Y2 ++ Q))) ((P.length : Int) + Y1.length) = some (P ++ (Y1 ++ (Y2 ++ u :: Q))) := by
  intro Y2
  induction Y2 with
  | nil =>
    intro Y1 k hk hb
    obtain ⟨k, rfl⟩ : ∃ j, k = j + 1 := ⟨k - 1, by omega⟩
    unfold bigN at hb
    have w1 : IntKind.i64.wrap ((P.length : Int) + Y1.length + (([] : List Int).length : Int) + 1 - 1) = (P.length : Int) + Y1.length := by rw [w64 (by simp; omega) (by simp; omega)]; simp
    simp only [slices_symMergeCmpFunc_rune_bji.l1, w1, if_neg (show ¬ (P.length : Int) + (Y1.length : Int) < (P.length : Int) + Y1.length by omega), List.nil_append]
  | cons y Y2 ih =>
    intro Y1 k hk hb
    obtain ⟨k, rfl⟩ : ∃ j, k = j + 1 := ⟨k - 1, by omega⟩
    simp only [List.length_cons] at hk hb
    have hb' := hb
    unfold bigN at hb'
    have w1 : IntKind.i64.wrap ((P.length : Int) + Y1.length + ((y :: Y2).length : Int) + 1 - 1) = (P.length : Int) + Y1.length + Y2.length + 1 := by rw [w64 (by simp; omega) (by simp; omega)]; simp; omega
    have w2 : IntKind.i64.wrap ((P.length : Int) + Y1.length + 1) = (P.length : Int) + Y1.length + 1 := w64 (by omega) (by omega)
    have e : P ++ (Y1 ++ u :: ((y :: Y2) ++ Q)) = (P ++ Y1) ++ u :: y :: (Y2 ++ Q) := by simp
    have hl : ((P ++ Y1) ++ u :: y :: (Y2 ++ Q)).length = P.length + Y1.length + Y2.length + 2 + Q.length := by simp; omega
    have r1 : rd ((P ++ Y1) ++ u :: y :: (Y2 ++ Q)) ((P.length : Int) + Y1.length) = u := rd_at (by simp)
    have r2 : rd ((P ++ Y1) ++ u :: y :: (Y2 ++ Q)) ((P.length : Int) + Y1.length + 1) = y := rd_at1 (by simp)
    rw [e]
    simp only [slices_symMergeCmpFunc_rune_bji.l1, w1, if_pos (show (P.length : Int) + (Y1.length : Int) < (P.length : Int) + Y1.length + Y2.length + 1 by omega), w2, List.length_set, hl,
      if_pos (show (0 : Int) ≤ (P.length : Int) + Y1.length + 1 ∧ (P.length : Int) + Y1.length + 1 < ((P.length + Y1.length + Y2.length + 2 + Q.length : Nat) : Int) by omega),
      if_pos (show (0 : Int) ≤ (P.length : Int) + Y1.length ∧ (P.length : Int) + Y1.length < ((P.length + Y1.length + Y2.length + 2 + Q.length : Nat) : Int) by omega), r1, r2]
    rw [set_at (by simp; omega), set_at1 (by simp; omega)]
    have := ih (Y1 ++ [y]) k (by omega) (by simp; omega)
    have e1 : (P.length : Int) + ((Y1 ++ [y]).length : Int) + (Y2.length : Int) + 1 = (P.length : Int) + Y1.length + ((y :: Y2).length : Int) + 1 := by simp; omega
    have e2 : (P.length : Int) + ((Y1 ++ [y]).length : Int) = (P.length : Int) + Y1.length + 1 := by simp; omega
    rw [e1, e2] at this
    simpa using this
theorem bs_first (hc : Cmp t key) (ys : List Int) (a m b : Int) (u : Int) (hb : ys.length ≤ bigN) (ha : 0 ≤ a ∧ a < ys.length) (hu : rd ys a = u) (hm : 0 ≤ m) (hbl : b ≤ ys.length) : ∀ (n : Nat) (i j : Int) (k : Nat), (j - i).toNat ≤ n → n < k → m ≤ i → i ≤ j → j ≤ b →
    (m < i → key (rd ys (i - 1)) < key u) → (j < b → ¬ key (rd ys j) < key u) →
    ∃ s, m ≤ s ∧ s ≤ b ∧ (m < s → key (rd ys (s - 1)) < key u) ∧ (s < b → ¬ key (rd ys s) < key u) ∧ slices_symMergeCmpFunc_rune_bji.l2 k ys t a i j = slices_symMergeCmpFunc_rune_bji.l1 K0 s ys a := by
  intro n
  have hb' := hb
  unfold bigN at hb'
  induction n with
  | zero =>
    intro i j k h1 h2 h3 h4 h5 h6 h7
    obtain ⟨k, rfl⟩ : ∃ j, k = j + 1 := ⟨k - 1, by omega⟩
    obtain rfl : i = j := by omega
    exact ⟨i, h3, h5, h6, h7, by simp only [slices_symMergeCmpFunc_rune_bji.l2, if_neg (show ¬ i < i by omega)]⟩
  | succ n ih =>
    intro i j k h1 h2 h3 h4 h5 h6 h7
    obtain ⟨k, rfl⟩ : ∃ j, k = j + 1 := ⟨k - 1, by omega⟩
    by_cases c : i < j
    · have hh := half (x := i + j) (by omega) (by omega)
      have w1 : IntKind.i64.wrap ((i + j) / 2 + 1) = (i + j) / 2 + 1 := w64 (by omega) (by omega)
      simp only [slices_symMergeCmpFunc_rune_bji.l2, if_pos c, hh, if_pos (show (0 : Int) ≤ (i + j) / 2 ∧ (i + j) / 2 < (ys.length : Int) by omega), if_pos (show (0 : Int) ≤ a ∧ a < (ys.length : Int) from ha), hu, hc _ u, Option.bind_some, w1]
      by_cases d : key (rd ys ((i + j) / 2)) < key u
      · rw [if_pos (cI_lt.2 d)]
        exact ih _ _ k (by omega) (by omega) (by omega) (by omega) h5 (fun _ => by rw [show (i + j) / 2 + 1 - 1 = (i + j) / 2 by omega]; exact d) h7
      · rw [if_neg (fun h => d (cI_lt.1 h))]
        exact ih _ _ k (by omega) (by omega) h3 (by omega) (by omega) h6 (fun _ => d)
    · obtain rfl : i = j := by omega
      exact ⟨i, h3, h5, h6, h7, by simp only [slices_symMergeCmpFunc_rune_bji.l2, if_neg c]⟩
theorem cut_lt {Y1 Y2 : List Int} {u : Int} (h : Srt key (Y1 ++ Y2)) (h1 : ∀ A y, Y1 = A ++ [y] → key y < key u) (h2 : ∀ y B, Y2 = y :: B → ¬ key y < key u) : (∀ v ∈ Y1, key v < key u) ∧ (∀ v ∈ Y2, key u ≤ key v) := by
  obtain ⟨a, b, _⟩ := srt_parts key h
  refine ⟨fun v hv => ?_, fun v hv => ?_⟩
  · rcases List.eq_nil_or_concat Y1 with rfl | ⟨A, w, rfl⟩
    · cases hv
    rw [List.concat_eq_append] at *
    have hw := h1 A w rfl
    obtain ⟨_, _, h3⟩ := srt_parts key a
    rcases List.mem_append.1 hv with hv | hv
    · have := h3 v hv w (by simp); omega
    · rw [List.mem_singleton.1 hv]; exact hw
  · cases Y2 with
    | nil => cases hv
    | cons y B =>
      have := h2 y B rfl
      rcases List.mem_cons.1 hv with rfl | hv
      · omega
      · have := b.1 v hv; omega
theorem cut_le {X1 X2 : List Int} {v : Int} (h : Srt key (X1 ++ X2)) (h1 : ∀ A x, X1 = A ++ [x] → ¬ key v < key x) (h2 : ∀ x B, X2 = x :: B → key v < key x) : (∀ u ∈ X1, key u ≤ key v) ∧ (∀ u ∈ X2, key v < key u) := by
  obtain ⟨a, b, _⟩ := srt_parts key h
  refine ⟨fun w hw => last_le a h1 w hw, fun w hw => ?_⟩
  cases X2 with
  | nil => cases hw
  | cons y B =>
    have := h2 y B rfl
    rcases List.mem_cons.1 hw with rfl | hw
    · exact this
    · have := b.1 w hw; omega
theorem split_at (Y : List Int) (n : Nat) (h : n ≤ Y.length) : ∃ Y1 Y2, Y = Y1 ++ Y2 ∧ Y1.length = n := ⟨Y.take n, Y.drop n, by simp, by simp; omega⟩
theorem sym_first (hc : Cmp t key) (P Y Q : List Int) (u : Int) (hY : Srt key Y) (hb : P.length + 1 + Y.length + Q.length ≤ bigN) :
    slices_symMergeCmpFunc_rune_bji.l2 K0 (P ++ (u :: (Y ++ Q))) t (P.length : Int) ((P.length : Int) + 1) ((P.length : Int) + 1 + Y.length) = some (P ++ (sortL key (u :: Y) ++ Q)) := by
  have hb' := hb
  unfold bigN at hb'
  have hl : (P ++ (u :: (Y ++ Q))).length = P.length + 1 + Y.length + Q.length := by simp; omega
  obtain ⟨s, s1, s2, s3, s4, s5⟩ := bs_first hc (P ++ (u :: (Y ++ Q))) (P.length : Int) ((P.length : Int) + 1) ((P.length : Int) + 1 + Y.length) u (by omega) (by omega) (rd_at rfl) (by omega) (by omega) (bigN) ((P.length : Int) + 1) ((P.length : Int) + 1 + Y.length) K0 (by unfold bigN; omega) (ltK (Nat.le_refl _)) (by omega) (by omega) (by omega) (fun h => by omega) (fun h => by omega)
  rw [s5]
  obtain ⟨Y1, Y2, rfl, hn⟩ := split_at Y (s - (P.length + 1)).toNat (by omega)
  have hyl : (Y1 ++ Y2).length = Y1.length + Y2.length := by simp
  have es : s = (P.length : Int) + (([] : List Int).length : Int) + Y1.length + 1 := by simp; omega
  have hcut := cut_lt (u := u) hY (fun A y e => by
    subst e
    have hr : rd (P ++ (u :: (((A ++ [y]) ++ Y2) ++ Q))) (s - 1) = y := by
      have := rd_at (A := P ++ u :: A) (B := Y2 ++ Q) (x := y) (i := s - 1) (by simp at hn ⊢; omega)
      simpa using this
    have := s3 (by simp at hn; omega)
    rwa [hr] at this) (fun y B e => by
    subst e
    have hr : rd (P ++ (u :: ((Y1 ++ y :: B) ++ Q))) s = y := by
      have := rd_at (A := P ++ u :: Y1) (B := B ++ Q) (x := y) (i := s) (by simp; omega)
      simpa using this
    have := s4 (by simp at hyl ⊢; omega)
    rwa [hr] at this)
  have := mov_right P (Y2 ++ Q) u Y1 [] K0 (ltK (by unfold bigN; omega)) (by simp; omega)
  rw [es, merge_first key hY hcut.1 hcut.2]
  simpa using this
theorem mov_left (P Q : List Int) (v : Int) : ∀ (n : Nat) (X2 X1 Z : List Int) (k : Nat), X2.length = n → n < k → P.length + X1.length + n + Z.length + 1 + Q.length ≤ bigN →
    slices_symMergeCmpFunc_rune_bji.l3 k ((P.length : Int) + X1.length) (P ++ (X1 ++ (X2 ++ v :: (Z ++ Q)))) ((P.length : Int) + X1.length + n) = some (P ++ (X1 ++ v :: (X2 ++ (Z ++ Q)))) := by
  intro n
  induction n with
  | zero =>
    intro X2 X1 Z k h1 hk hb
    obtain ⟨k, rfl⟩ : ∃ j, k = j + 1 := ⟨k - 1, by omega⟩
    obtain rfl := List.eq_nil_of_length_eq_zero h1
    simp only [slices_symMergeCmpFunc_rune_bji.l3, if_neg (show ¬ (P.length : Int) + (X1.length : Int) < (P.length : Int) + X1.length + ((0 : Nat) : Int) by omega), List.nil_append]
  | succ n ih =>
    intro X2 X1 Z k h1 hk hb
    obtain ⟨k, rfl⟩ : ∃ j, k = j + 1 := ⟨k - 1, by omega⟩
    have hb' := hb
    unfold bigN at hb'
    rcases List.eq_nil_or_concat X2 with rfl | ⟨X', x, rfl⟩
    · simp at h1
    have hX : X'.length = n := by simpa using h1
    rw [List.concat_eq_append]
    have w1 : IntKind.i64.wrap ((P.length : Int) + X1.length + ((n + 1 : Nat) : Int) - 1) = (P.length : Int) + X1.length + n := by rw [w64 (by omega) (by omega)]; omega
    have e : P ++ (X1 ++ ((X' ++ [x]) ++ v :: (Z ++ Q))) = (P ++ (X1 ++ X')) ++ x :: v :: (Z ++ Q) := by simp
    have hl : ((P ++ (X1 ++ X')) ++ x :: v :: (Z ++ Q)).length = P.length + X1.length + n + 2 + Z.length + Q.length := by simp [hX]; omega
    have r1 : rd ((P ++ (X1 ++ X')) ++ x :: v :: (Z ++ Q)) ((P.length : Int) + X1.length + ((n + 1 : Nat) : Int)) = v := rd_at1 (by simp [hX]; omega)
    have r2 : rd ((P ++ (X1 ++ X')) ++ x :: v :: (Z ++ Q)) ((P.length : Int) + X1.length + (n : Int)) = x := rd_at (by simp [hX]; omega)
    rw [e]
    simp only [slices_symMergeCmpFunc_rune_bji.l3, if_pos (show (P.length : Int) + (X1.length : Int) < (P.length : Int) + X1.length + ((n + 1 : Nat) : Int) by omega), w1, List.length_set, hl,
      if_pos (show (0 : Int) ≤ (P.length : Int) + X1.length + ((n + 1 : Nat) : Int) ∧ (P.length : Int) + X1.length + ((n + 1 : Nat) : Int) < ((P.length + X1.length + n + 2 + Z.length + Q.length : Nat) : Int) by omega),
      if_pos (show (0 : Int) ≤ (P.length : Int) + X1.length + (n : Int) ∧ (P.length : Int) + X1.length + (n : Int) < ((P.length + X1.length + n + 2 + Z.length + Q.length : Nat) : Int) by omega), r1, r2]
    rw [set_at1 (by simp [hX]; omega), set_at (by simp [hX]; omega)]
    have := ih X' X1 (x :: Z) k hX (by omega) (by simp; omega)
    simpa using this
theorem bs_last (hc : Cmp t key) (ys : List Int) (a m : Int) (v : Int) (hb : ys.length ≤ bigN) (ha : 0 ≤ a) (hm : 0 ≤ m ∧ m < ys.length) (hv : rd ys m = v) : ∀ (n : Nat) (i j : Int) (k : Nat), (j - i).toNat ≤ n → n < k → a ≤ i → i ≤ j → j ≤ m →
    (a < i → ¬ key v < key (rd ys (i - 1))) → (j < m → key v < key (rd ys j)) →
    ∃ s, a ≤ s ∧ s ≤ m ∧ (a < s → ¬ key v < key (rd ys (s - 1))) ∧ (s < m → key v < key (rd ys s)) ∧ slices_symMergeCmpFunc_rune_bji.l4 k ys t m i j = slices_symMergeCmpFunc_rune_bji.l3 K0 s ys m := by
  intro n
  have hb' := hb
  unfold bigN at hb'
  induction n with
  | zero =>
    intro i j k h1 h2 h3 h4 h5 h6 h7
    obtain ⟨k, rfl⟩ : ∃ j, k = j + 1 := ⟨k - 1, by omega⟩
    obtain rfl : i = j := by omega
    exact ⟨i, h3, h5, h6, h7, by simp only [slices_symMergeCmpFunc_rune_bji.l4, if_neg (show ¬ i < i by omega)]⟩
  | succ n ih =>
    intro i j k h1 h2 h3 h4 h5 h6 h7
    obtain ⟨k, rfl⟩ : ∃ j, k = j + 1 := ⟨k - 1, by omega⟩
    by_cases c : i < j
    · have hh := half (x := i + j) (by omega) (by omega)
      have w1 : IntKind.i64.wrap ((i + j) / 2 + 1) = (i + j) / 2 + 1 := w64 (by omega) (by omega)
      simp only [slices_symMergeCmpFunc_rune_bji.l4, if_pos c, hh, if_pos (show (0 : Int) ≤ m ∧ m < (ys.length : Int) from hm), if_pos (show (0 : Int) ≤ (i + j) / 2 ∧ (i + j) / 2 < (ys.length : Int) by omega), hv, hc v _, Option.bind_some, w1]
      by_cases d : key v < key (rd ys ((i + j) / 2))
      · rw [if_neg (fun h => h (cI_lt.2 d))]
        exact ih _ _ k (by omega) (by omega) h3 (by omega) (by omega) h6 (fun _ => d)
      · rw [if_pos (fun h => d (cI_lt.1 h))]
        exact ih _ _ k (by omega) (by omega) (by omega) (by omega) h5 (fun _ => by rw [show (i + j) / 2 + 1 - 1 = (i + j) / 2 by omega]; exact d) h7
    · obtain rfl : i = j := by omega
      exact ⟨i, h3, h5, h6, h7, by simp only [slices_symMergeCmpFunc_rune_bji.l4, if_neg c]⟩
theorem sym_last (hc : Cmp t key) (P X Q : List Int) (v : Int) (hX : Srt key X) (hb : P.length + X.length + 1 + Q.length ≤ bigN) :
    slices_symMergeCmpFunc_rune_bji.l4 K0 (P ++ (X ++ (v :: Q))) t ((P.length : Int) + X.length) (P.length : Int) ((P.length : Int) + X.length) = some (P ++ (sortL key (X ++ [v]) ++ Q)) := by
  have hb' := hb
  unfold bigN at hb'
  have hl : (P ++ (X ++ (v :: Q))).length = P.length + X.length + 1 + Q.length := by simp; omega
  have hr : rd (P ++ (X ++ (v :: Q))) ((P.length : Int) + X.length) = v := by
    have := rd_at (A := P ++ X) (B := Q) (x := v) (i := (P.length : Int) + X.length) (by simp)
    simpa using this
  obtain ⟨s, s1, s2, s3, s4, s5⟩ := bs_last hc (P ++ (X ++ (v :: Q))) (P.length : Int) ((P.length : Int) + X.length) v (by omega) (by omega) (by omega) hr bigN (P.length : Int) ((P.length : Int) + X.length) K0 (by unfold bigN; omega) (ltK (Nat.le_refl _)) (by omega) (by omega) (by omega) (fun h => by omega) (fun h => by omega)
  rw [s5]
  obtain ⟨X1, X2, rfl, hn⟩ := split_at X (s - P.length).toNat (by omega)
  have hxl : (X1 ++ X2).length = X1.length + X2.length := by simp
  have es : s = (P.length : Int) + X1.length := by omega
  have hcut := cut_le (v := v) hX (fun A y e => by
    subst e
    have hr : rd (P ++ (((A ++ [y]) ++ X2) ++ (v :: Q))) (s - 1) = y := by
      have := rd_at (A := P ++ A) (B := X2 ++ v :: Q) (x := y) (i := s - 1) (by simp at hn ⊢; omega)
      simpa using this
    have := s3 (by simp at hn; omega)
    rwa [hr] at this) (fun y B e => by
    subst e
    have hr : rd (P ++ ((X1 ++ y :: B) ++ (v :: Q))) s = y := by
      have := rd_at (A := P ++ X1) (B := B ++ v :: Q) (x := y) (i := s) (by simp; omega)
      simpa using this
    have := s4 (by simp at hxl ⊢; omega)
    rwa [hr] at this)
  have := mov_left P Q v X2.length X2 X1 [] K0 rfl (ltK (by unfold bigN; omega)) (by simp; omega)
  rw [es, merge_last key hX hcut.2 hcut.1]
  have e : (P.length : Int) + ((X1 ++ X2).length : Int) = (P.length : Int) + X1.length + X2.length := by omega
  rw [e]
  simpa using this
end
end Go.Proofs.YthoicbafdanmkaaGreatDoor
/- Plain laws of slices.SortStableFunc and canon.Order: the whole. Own work of this repo. -/
namespace Go.Proofs.YthoicbafdanmkaaGreatDoor
open Go.RowKit
section
variable {t : Option Tbs} {key : Int → Int}
theorem bs_mid (hc : Cmp t key) (rec : Int → Int → Int → List Int → Option Tbs → Option (List Int)) (ys : List Int) (a m b mid lo hi : Int) (hb : ys.length ≤ bigN) (ha : 0 ≤ a) (hbb : 0 ≤ b ∧ b ≤ 1073741824 ∧ a ≤ 1073741824) (hm : 0 ≤ m ∧ m ≤ 1073741824) (hmid : mid = (a + b) / 2)
    (hg : ∀ c, lo ≤ c → c < hi → (0 ≤ c ∧ c < (ys.length : Int)) ∧ (0 ≤ mid + m - 1 - c ∧ mid + m - 1 - c < (ys.length : Int))) (hlo : 0 ≤ lo) (hhi : hi ≤ 1073741824) : ∀ (n : Nat) (i j : Int) (k : Nat), (j - i).toNat ≤ n → n < k → lo ≤ i → i ≤ j → j ≤ hi →
    (lo < i → ¬ key (rd ys (mid + m - i)) < key (rd ys (i - 1))) → (j < hi → key (rd ys (mid + m - 1 - j)) < key (rd ys j)) →
    ∃ s, lo ≤ s ∧ s ≤ hi ∧ (lo < s → ¬ key (rd ys (mid + m - s)) < key (rd ys (s - 1))) ∧ (s < hi → key (rd ys (mid + m - 1 - s)) < key (rd ys s)) ∧
      slices_symMergeCmpFunc_rune_bji.l5 k rec ys t a m b i j = (if s < m then slices_symMergeCmpFunc_rune_bji.j5 rec ys t a m b s (decide (m < mid + m - s)) else slices_symMergeCmpFunc_rune_bji.j5 rec ys t a m b s false) := by
  have hb' := hb
  unfold bigN at hb'
  have e0 := half (x := a + b) (by omega) (by omega)
  rw [← hmid] at e0
  have e1 : IntKind.i64.wrap (mid + m) = mid + m := w64 (by omega) (by omega)
  have e2 : IntKind.i64.wrap (mid + m - 1) = mid + m - 1 := w64 (by omega) (by omega)
  have fin : ∀ (i : Int) (k : Nat), lo ≤ i → i ≤ hi → slices_symMergeCmpFunc_rune_bji.l5 (k + 1) rec ys t a m b i i = (if i < m then slices_symMergeCmpFunc_rune_bji.j5 rec ys t a m b i (decide (m < mid + m - i)) else slices_symMergeCmpFunc_rune_bji.j5 rec ys t a m b i false) := by
    intro i k h3 h4
    have e3 : IntKind.i64.wrap (mid + m - i) = mid + m - i := w64 (by omega) (by omega)
    simp only [slices_symMergeCmpFunc_rune_bji.l5, if_neg (show ¬ i < i by omega), e0, e1, e3]
  intro n
  induction n with
  | zero =>
    intro i j k h1 h2 h3 h4 h5 h6 h7
    obtain ⟨k, rfl⟩ : ∃ j, k = j + 1 := ⟨k - 1, by omega⟩
    obtain rfl : i = j := by omega
    exact ⟨i, h3, h5, h6, h7, fin i k h3 h5⟩
  | succ n ih =>
    intro i j k h1 h2 h3 h4 h5 h6 h7
    obtain ⟨k, rfl⟩ : ∃ j, k = j + 1 := ⟨k - 1, by omega⟩
    by_cases c : i < j
    · have hh := half (x := i + j) (by omega) (by omega)
      obtain ⟨g1, g2⟩ := hg ((i + j) / 2) (by omega) (by omega)
      have w1 : IntKind.i64.wrap ((i + j) / 2 + 1) = (i + j) / 2 + 1 := w64 (by omega) (by omega)
      have w2 : IntKind.i64.wrap (mid + m - 1 - (i + j) / 2) = mid + m - 1 - (i + j) / 2 := w64 (by omega) (by omega)
      simp only [slices_symMergeCmpFunc_rune_bji.l5, if_pos c, e0, e1, e2, hh, w1, w2, if_pos g1, if_pos g2, hc _ _, Option.bind_some]
      by_cases d : key (rd ys (mid + m - 1 - (i + j) / 2)) < key (rd ys ((i + j) / 2))
      · rw [if_neg (fun h => h (cI_lt.2 d))]
        exact ih _ _ k (by omega) (by omega) h3 (by omega) (by omega) h6 (fun _ => d)
      · rw [if_pos (fun h => d (cI_lt.1 h))]
        exact ih _ _ k (by omega) (by omega) (by omega) (by omega) h5 (fun _ => by rw [show (i + j) / 2 + 1 - 1 = (i + j) / 2 by omega, show mid + m - ((i + j) / 2 + 1) = mid + m - 1 - (i + j) / 2 by omega]; exact d) h7
    · obtain rfl : i = j := by omega
      exact ⟨i, h3, h5, h6, h7, fin i k h3 h5⟩
theorem sort_nil_l {Y : List Int} (h : Srt key Y) : sortL key ([] ++ Y) = Y := by rw [List.nil_append]; exact sort_id key h
theorem sort_nil_r {X : List Int} (h : Srt key X) : sortL key (X ++ []) = X := by rw [List.append_nil]; exact sort_id key h
theorem sym_eq (hc : Cmp t key) : ∀ (n : Nat) (P X Y Q : List Int) (k : Nat), X.length + Y.length ≤ n → n < k → 0 < X.length → 0 < Y.length → Srt key X → Srt key Y → P.length + X.length + Y.length + Q.length ≤ bigN →
    slices_symMergeCmpFunc_rune_bji.f k (P.length : Int) ((P.length : Int) + X.length) ((P.length : Int) + X.length + Y.length) (P ++ (X ++ (Y ++ Q))) t = some (P ++ (sortL key (X ++ Y) ++ Q)) := by
  intro n
  induction n with
  | zero => intro P X Y Q k h1 h2 h3; omega
  | succ n ih =>
    intro P X Y Q k h1 h2 h3 h4 hX hY hb
    obtain ⟨k, rfl⟩ : ∃ j, k = j + 1 := ⟨k - 1, by omega⟩
    have hb' := hb
    unfold bigN at hb'
    have w1 : IntKind.i64.wrap ((P.length : Int) + X.length - P.length) = X.length := by rw [w64 (by omega) (by omega)]; omega
    have w2 : IntKind.i64.wrap ((P.length : Int) + X.length + Y.length - ((P.length : Int) + X.length)) = Y.length := by rw [w64 (by omega) (by omega)]; omega
    simp only [slices_symMergeCmpFunc_rune_bji.f, slices_symMergeCmpFunc_rune_bji.b, w1, w2]
    by_cases c1 : (X.length : Int) = 1
    · rw [if_pos c1]
      obtain ⟨u, rfl⟩ : ∃ u, X = [u] := by
        cases X with
        | nil => simp at h3
        | cons u X' => exact ⟨u, by rw [List.eq_nil_of_length_eq_zero (l := X') (by simp at c1; omega)]⟩
      have := sym_first hc P Y Q u hY (by simp at hb; omega)
      simpa using this
    · rw [if_neg c1]
      by_cases c2 : (Y.length : Int) = 1
      · rw [if_pos c2]
        obtain ⟨v, rfl⟩ : ∃ v, Y = [v] := by
          cases Y with
          | nil => simp at h4
          | cons u X' => exact ⟨u, by rw [List.eq_nil_of_length_eq_zero (l := X') (by simp at c2; omega)]⟩
        have := sym_last hc P X Q v hX (by simp at hb; omega)
        simpa using this
      · rw [if_neg c2]
        obtain ⟨mid, hmid⟩ : ∃ mid : Int, mid = ((P.length : Int) + ((P.length : Int) + X.length + Y.length)) / 2 := ⟨_, rfl⟩
        have e0 := half (x := (P.length : Int) + ((P.length : Int) + X.length + Y.length)) (by omega) (by omega)
        rw [← hmid] at e0
        have e1 : IntKind.i64.wrap (mid + ((P.length : Int) + X.length)) = mid + ((P.length : Int) + X.length) := w64 (by omega) (by omega)
        have e2 : IntKind.i64.wrap (mid + ((P.length : Int) + X.length) - ((P.length : Int) + X.length + Y.length)) = mid - Y.length := by rw [w64 (by omega) (by omega)]; omega
        simp only [e0, e1, e2, slices_symMergeCmpFunc_rune_bji.j6]
        have hl : (P ++ (X ++ (Y ++ Q))).length = P.length + X.length + Y.length + Q.length := by simp; omega
        -- the search
        have hs : ∃ s, (P.length : Int) ≤ s ∧ s ≤ (P.length : Int) + X.length ∧ s ≤ mid ∧ mid - Y.length ≤ s ∧
            ((P.length : Int) < s → mid - Y.length < s → ¬ key (rd (P ++ (X ++ (Y ++ Q))) (mid + ((P.length : Int) + X.length) - s)) < key (rd (P ++ (X ++ (Y ++ Q))) (s - 1))) ∧
            (s < (P.length : Int) + X.length → s < mid → key (rd (P ++ (X ++ (Y ++ Q))) (mid + ((P.length : Int) + X.length) - 1 - s)) < key (rd (P ++ (X ++ (Y ++ Q))) s)) ∧
            (if mid < (P.length : Int) + X.length then slices_symMergeCmpFunc_rune_bji.l5 K0 (slices_symMergeCmpFunc_rune_bji.f k) (P ++ (X ++ (Y ++ Q))) t (P.length : Int) ((P.length : Int) + X.length) ((P.length : Int) + X.length + Y.length) (mid - Y.length) mid
              else slices_symMergeCmpFunc_rune_bji.l5 K0 (slices_symMergeCmpFunc_rune_bji.f k) (P ++ (X ++ (Y ++ Q))) t (P.length : Int) ((P.length : Int) + X.length) ((P.length : Int) + X.length + Y.length) (P.length : Int) ((P.length : Int) + X.length)) =
            (if s < (P.length : Int) + X.length then slices_symMergeCmpFunc_rune_bji.j5 (slices_symMergeCmpFunc_rune_bji.f k) (P ++ (X ++ (Y ++ Q))) t (P.length : Int) ((P.length : Int) + X.length) ((P.length : Int) + X.length + Y.length) s (decide ((P.length : Int) + X.length < mid + ((P.length : Int) + X.length) - s))
              else slices_symMergeCmpFunc_rune_bji.j5 (slices_symMergeCmpFunc_rune_bji.f k) (P ++ (X ++ (Y ++ Q))) t (P.length : Int) ((P.length : Int) + X.length) ((P.length : Int) + X.length + Y.length) s false) := by
          by_cases c3 : mid < (P.length : Int) + X.length
          · rw [if_pos c3]
            obtain ⟨s, s1, s2, s3, s4, s5⟩ := bs_mid hc (slices_symMergeCmpFunc_rune_bji.f k) (P ++ (X ++ (Y ++ Q))) (P.length : Int) ((P.length : Int) + X.length) ((P.length : Int) + X.length + Y.length) mid (mid - Y.length) mid (by omega) (by omega) ⟨by omega, by omega, by omega⟩ ⟨by omega, by omega⟩ hmid
              (fun c hc1 hc2 => ⟨⟨by omega, by omega⟩, by omega, by omega⟩) (by omega) (by omega) bigN (mid - Y.length) mid K0 (by unfold bigN; omega) (ltK (Nat.le_refl _)) (by omega) (by omega) (by omega) (fun h => by omega) (fun h => by omega)
            exact ⟨s, by omega, by omega, s2, s1, fun _ h => s3 h, fun _ h => s4 h, s5⟩
          · rw [if_neg c3]
            obtain ⟨s, s1, s2, s3, s4, s5⟩ := bs_mid hc (slices_symMergeCmpFunc_rune_bji.f k) (P ++ (X ++ (Y ++ Q))) (P.length : Int) ((P.length : Int) + X.length) ((P.length : Int) + X.length + Y.length) mid (P.length : Int) ((P.length : Int) + X.length) (by omega) (by omega) ⟨by omega, by omega, by omega⟩ ⟨by omega, by omega⟩ hmid
              (fun c hc1 hc2 => ⟨⟨by omega, by omega⟩, by omega, by omega⟩) (by omega) (by omega) bigN (P.length : Int) ((P.length : Int) + X.length) K0 (by unfold bigN; omega) (ltK (Nat.le_refl _)) (by omega) (by omega) (by omega) (fun h => by omega) (fun h => by omega)
            exact ⟨s, s1, s2, by omega, by omega, fun h _ => s3 h, fun h _ => s4 h, s5⟩
        obtain ⟨s, s1, s2, s3, s4, s5, s6, s7⟩ := hs
        rw [s7]
        clear s7
        obtain ⟨X1, X2, rfl, hn⟩ := split_at X (s - P.length).toNat (by omega)
        obtain ⟨Y1, Y2, rfl, hn2⟩ := split_at Y (mid - s).toNat (by omega)
        have hxl : (X1 ++ X2).length = X1.length + X2.length := by simp
        have hyl : (Y1 ++ Y2).length = Y1.length + Y2.length := by simp
        have es : s = (P.length : Int) + X1.length := by omega
        have em : mid = (P.length : Int) + X1.length + Y1.length := by omega
        obtain ⟨hX1, hX2, _⟩ := srt_parts key hX
        obtain ⟨hY1, hY2, _⟩ := srt_parts key hY
        -- the first of X2 and the last of Y1; the last of X1 and the first of Y2
        have q3 : ∀ u ∈ X2, ∀ v ∈ Y1, key v < key u := by
          intro u hu v hv
          rcases List.eq_nil_or_concat Y1 with rfl | ⟨A, w, rfl⟩
          · cases hv
          cases X2 with
          | nil => cases hu
          | cons x B =>
            rw [List.concat_eq_append] at *
            have hx' : (x :: B).length = B.length + 1 := rfl
            have ha' : (A ++ [w]).length = A.length + 1 := by simp
            have hlen : (P ++ (X1 ++ x :: B) ++ A).length = P.length + (X1 ++ x :: B).length + A.length := by simp; omega
            have h6 := s6 (by omega) (by omega)
            have r1 : rd (P ++ ((X1 ++ x :: B) ++ (((A ++ [w]) ++ Y2) ++ Q))) s = x := by
              have := rd_at (A := P ++ X1) (B := B ++ (A ++ [w] ++ Y2 ++ Q)) (x := x) (i := s) (by simp; omega)
              simpa using this
            have r2 : rd (P ++ ((X1 ++ x :: B) ++ (((A ++ [w]) ++ Y2) ++ Q))) (mid + ((P.length : Int) + ((X1 ++ x :: B).length : Int)) - 1 - s) = w := by
              have := rd_at (A := P ++ (X1 ++ x :: B) ++ A) (B := Y2 ++ Q) (x := w) (i := mid + ((P.length : Int) + ((X1 ++ x :: B).length : Int)) - 1 - s) (by omega)
              simpa using this
            rw [r1, r2] at h6
            have a1 : key v ≤ key w := by
              obtain ⟨_, _, h⟩ := srt_parts key hY1
              rcases List.mem_append.1 hv with hv | hv
              · exact h v hv w (by simp)
              · rw [List.mem_singleton.1 hv]; omega
            have a2 : key x ≤ key u := by
              rcases List.mem_cons.1 hu with rfl | hu
              · omega
              · exact hX2.1 u hu
            omega
        have q4 : ∀ u ∈ X1, ∀ v ∈ Y2, key u ≤ key v := by
          intro u hu v hv
          rcases List.eq_nil_or_concat X1 with rfl | ⟨A, w, rfl⟩
          · cases hu
          cases Y2 with
          | nil => cases hv
          | cons y B =>
            rw [List.concat_eq_append] at *
            have hy' : (y :: B).length = B.length + 1 := rfl
            have ha' : (A ++ [w]).length = A.length + 1 := by simp
            have hlen : (P ++ A).length = P.length + A.length := by simp
            have hlen2 : (P ++ ((A ++ [w]) ++ X2) ++ Y1).length = P.length + ((A ++ [w]) ++ X2).length + Y1.length := by simp; omega
            have h5 := s5 (by omega) (by omega)
            have r1 : rd (P ++ (((A ++ [w]) ++ X2) ++ ((Y1 ++ y :: B) ++ Q))) (s - 1) = w := by
              have := rd_at (A := P ++ A) (B := X2 ++ (Y1 ++ y :: B ++ Q)) (x := w) (i := s - 1) (by omega)
              simpa using this
            have r2 : rd (P ++ (((A ++ [w]) ++ X2) ++ ((Y1 ++ y :: B) ++ Q))) (mid + ((P.length : Int) + (((A ++ [w]) ++ X2).length : Int)) - s) = y := by
              have := rd_at (A := P ++ ((A ++ [w]) ++ X2) ++ Y1) (B := B ++ Q) (x := y) (i := mid + ((P.length : Int) + (((A ++ [w]) ++ X2).length : Int)) - s) (by omega)
              simpa using this
            rw [r1, r2] at h5
            have a1 : key u ≤ key w := by
              obtain ⟨_, _, h⟩ := srt_parts key hX1
              rcases List.mem_append.1 hu with hu | hu
              · exact h u hu w (by simp)
              · rw [List.mem_singleton.1 hu]; omega
            have a2 : key y ≤ key v := by
              rcases List.mem_cons.1 hv with rfl | hv
              · omega
              · exact hY2.1 v hv
            omega
        have e3 : IntKind.i64.wrap (mid + ((P.length : Int) + ((X1 ++ X2).length : Int)) - s) = mid + X2.length := by rw [w64 (by omega) (by omega)]; omega
        have hj2 : ∀ Z : List Int, Z.length = X1.length + Y1.length → slices_symMergeCmpFunc_rune_bji.j2 (slices_symMergeCmpFunc_rune_bji.f k) t (P.length : Int) ((P.length : Int) + ((X1 ++ X2).length : Int)) ((P.length : Int) + ((X1 ++ X2).length : Int) + ((Y1 ++ Y2).length : Int)) s (P ++ (Z ++ (X2 ++ (Y2 ++ Q)))) = some (P ++ (Z ++ (sortL key (X2 ++ Y2) ++ Q))) := by
          intro Z hZ
          simp only [slices_symMergeCmpFunc_rune_bji.j2, slices_symMergeCmpFunc_rune_bji.j1, e0, e1, e3]
          by_cases d1 : mid < mid + X2.length
          · rw [if_pos d1]
            by_cases d2 : mid + X2.length < (P.length : Int) + ((X1 ++ X2).length : Int) + ((Y1 ++ Y2).length : Int)
            · rw [decide_eq_true d2, if_pos rfl]
              have := ih (P ++ Z) X2 Y2 Q k (by omega) (by omega) (by omega) (by omega) hX2 hY2 (by simp; omega)
              have f1 : ((P ++ Z).length : Int) = mid := by simp; omega
              have f2 : mid + (X2.length : Int) + Y2.length = (P.length : Int) + ((X1 ++ X2).length : Int) + ((Y1 ++ Y2).length : Int) := by omega
              rw [f1, f2] at this
              have f3 : P ++ (Z ++ (X2 ++ (Y2 ++ Q))) = P ++ Z ++ (X2 ++ (Y2 ++ Q)) := by simp
              rw [f3, this]; simp
            · rw [decide_eq_false d2]
              have : Y2 = [] := List.eq_nil_of_length_eq_zero (by omega)
              subst this
              simp only [Bool.false_eq_true, if_false, sort_nil_r hX2, List.nil_append]
          · rw [if_neg d1]
            have : X2 = [] := List.eq_nil_of_length_eq_zero (by omega)
            subst this
            simp only [Bool.false_eq_true, if_false, List.nil_append, sort_id key hY2]
        have hj4 : slices_symMergeCmpFunc_rune_bji.j4 (slices_symMergeCmpFunc_rune_bji.f k) t (P.length : Int) ((P.length : Int) + ((X1 ++ X2).length : Int)) ((P.length : Int) + ((X1 ++ X2).length : Int) + ((Y1 ++ Y2).length : Int)) s (P ++ (X1 ++ (Y1 ++ (X2 ++ (Y2 ++ Q))))) = some (P ++ (sortL key (X1 ++ Y1) ++ (sortL key (X2 ++ Y2) ++ Q))) := by
          have hz := hj2 (sortL key (X1 ++ Y1)) (by rw [sort_len]; simp)
          simp only [slices_symMergeCmpFunc_rune_bji.j4, slices_symMergeCmpFunc_rune_bji.j3, e0]
          by_cases d1 : (P.length : Int) < s
          · rw [if_pos d1]
            by_cases d2 : s < mid
            · rw [decide_eq_true d2, if_pos rfl]
              have := ih P X1 Y1 (X2 ++ (Y2 ++ Q)) k (by omega) (by omega) (by omega) (by omega) hX1 hY1 (by simp; omega)
              rw [← es, show s + (Y1.length : Int) = mid by omega] at this
              rw [this, Option.bind_some, hz]
            · rw [decide_eq_false d2]
              have : Y1 = [] := List.eq_nil_of_length_eq_zero (by omega)
              subst this
              rw [sort_nil_r hX1] at hz ⊢
              simp only [Bool.false_eq_true, if_false, List.nil_append] at hz ⊢
              exact hz
          · rw [if_neg d1]
            have : X1 = [] := List.eq_nil_of_length_eq_zero (by omega)
            subst this
            rw [sort_nil_l hY1] at hz ⊢
            simp only [Bool.false_eq_true, if_false, List.nil_append] at hz ⊢
            exact hz
        have goal : P ++ (sortL key ((X1 ++ X2) ++ (Y1 ++ Y2)) ++ Q) = P ++ (sortL key (X1 ++ Y1) ++ (sortL key (X2 ++ Y2) ++ Q)) := by
          rw [merge_split key hX hY q3 q4]; simp
        rw [goal, ← hj4]
        have f4 : P ++ ((X1 ++ X2) ++ ((Y1 ++ Y2) ++ Q)) = P ++ (X1 ++ (X2 ++ (Y1 ++ (Y2 ++ Q)))) := by simp
        rw [f4]
        have f5 : mid + ((P.length : Int) + ((X1 ++ X2).length : Int)) - s = mid + X2.length := by omega
        rw [f5]
        by_cases d1 : s < (P.length : Int) + ((X1 ++ X2).length : Int)
        · rw [if_pos d1]
          by_cases d2 : (P.length : Int) + ((X1 ++ X2).length : Int) < mid + X2.length
          · rw [decide_eq_true d2]
            simp only [slices_symMergeCmpFunc_rune_bji.j5, if_true, e0, e1, e3]
            have := rot_eq (t := t) (P ++ X1) X2 Y1 (Y2 ++ Q) (by omega) (by omega) (by simp; omega)
            have f1 : ((P ++ X1).length : Int) = s := by simp; omega
            have f2 : s + (X2.length : Int) = (P.length : Int) + ((X1 ++ X2).length : Int) := by omega
            have f3 : (P.length : Int) + ((X1 ++ X2).length : Int) + (Y1.length : Int) = mid + X2.length := by omega
            rw [f1, f2, f3] at this
            have f6 : P ++ (X1 ++ (X2 ++ (Y1 ++ (Y2 ++ Q)))) = P ++ X1 ++ (X2 ++ (Y1 ++ (Y2 ++ Q))) := by simp
            rw [f6, this, Option.bind_some]; simp
          · rw [decide_eq_false d2]
            have : Y1 = [] := List.eq_nil_of_length_eq_zero (by omega)
            subst this
            simp only [slices_symMergeCmpFunc_rune_bji.j5, Bool.false_eq_true, if_false, List.nil_append]
        · rw [if_neg d1]
          have : X2 = [] := List.eq_nil_of_length_eq_zero (by omega)
          subst this
          simp only [slices_symMergeCmpFunc_rune_bji.j5, Bool.false_eq_true, if_false, List.nil_append]
end
end Go.Proofs.YthoicbafdanmkaaGreatDoor
/- Plain laws of slices.SortStableFunc and canon.Order: blocks, the whole, each stretch. Own work of this repo. -/
namespace Go.Proofs.YthoicbafdanmkaaGreatDoor
open Go.RowKit
section
variable {t : Option Tbs} {key : Int → Int}
def Blks (key : Int → Int) (n : Nat) (Bs : List (List Int)) : Prop := ∀ B ∈ Bs, Srt key B ∧ B.length = n
theorem blks_len {n : Nat} : ∀ {Bs : List (List Int)}, Blks key n Bs → Bs.flatten.length = Bs.length * n
  | [], _ => by simp
  | B :: Bs, h => by
    have h1 := (h B (by simp)).2
    have h2 := blks_len (Bs := Bs) (fun C hC => h C (by simp [hC]))
    simp [h1, h2, Nat.add_mul]; omega
theorem pass_eq (hc : Cmp t key) (go : List Int → Int → Option (List Int)) (bs N : Nat) (h0 : 0 < bs) : ∀ (n : Nat) (Bs : List (List Int)) (D E : List Int) (k : Nat), Bs.length ≤ n → n < k → Blks key bs Bs → Srt key E → E.length < bs → D.length + Bs.flatten.length + E.length = N → N ≤ bigN → bs < N →
    ∃ Cs E', Blks key (2 * bs) Cs ∧ Srt key E' ∧ E'.length < 2 * bs ∧ Feq key (Cs.flatten ++ E') (Bs.flatten ++ E) ∧ (Cs.flatten ++ E').length = (Bs.flatten ++ E).length ∧
      slices_stableCmpFunc_rune_ian.l1 go k t (N : Int) (bs : Int) (D ++ (Bs.flatten ++ E)) (D.length : Int) ((D.length : Int) + 2 * bs) = go (D ++ (Cs.flatten ++ E')) (2 * (bs : Int)) := by
  intro n
  induction n with
  | zero =>
    intro Bs D E k h1 hk hB hE hl hN hb hbs
    obtain ⟨k, rfl⟩ : ∃ j, k = j + 1 := ⟨k - 1, by omega⟩
    obtain rfl := List.eq_nil_of_length_eq_zero (Nat.le_zero.1 h1)
    unfold bigN at hb
    simp only [List.flatten_nil, List.length_nil, Nat.add_zero] at hN
    refine ⟨[], E, fun C hC => (by cases hC), hE, by omega, Feq.refl key _, rfl, ?_⟩
    have w1 : IntKind.i64.wrap ((D.length : Int) + bs) = (D.length : Int) + bs := w64 (by omega) (by omega)
    have w2 : IntKind.i64.wrap ((bs : Int) * 2) = 2 * (bs : Int) := by rw [w64 (by omega) (by omega)]; omega
    simp only [slices_stableCmpFunc_rune_ian.l1, if_neg (show ¬ (D.length : Int) + 2 * bs ≤ (N : Int) by omega), w1, if_neg (show ¬ (D.length : Int) + bs < (N : Int) by omega), slices_stableCmpFunc_rune_ian.j1, w2]
  | succ n ih =>
    intro Bs D E k h1 hk hB hE hl hN hb hbs
    obtain ⟨k, rfl⟩ : ∃ j, k = j + 1 := ⟨k - 1, by omega⟩
    have hb' := hb
    unfold bigN at hb'
    have w2 : IntKind.i64.wrap ((bs : Int) * 2) = 2 * (bs : Int) := by rw [w64 (by omega) (by omega)]; omega
    match Bs, h1, hB, hN with
    | [], h1, hB, hN =>
      simp only [List.flatten_nil, List.length_nil, Nat.add_zero] at hN
      refine ⟨[], E, fun C hC => (by cases hC), hE, by omega, Feq.refl key _, rfl, ?_⟩
      have w1 : IntKind.i64.wrap ((D.length : Int) + bs) = (D.length : Int) + bs := w64 (by omega) (by omega)
      simp only [slices_stableCmpFunc_rune_ian.l1, if_neg (show ¬ (D.length : Int) + 2 * bs ≤ (N : Int) by omega), w1, if_neg (show ¬ (D.length : Int) + bs < (N : Int) by omega), slices_stableCmpFunc_rune_ian.j1, w2]
    | [B], h1, hB, hN =>
      obtain ⟨hBs, hBl⟩ := hB B (by simp)
      simp only [List.flatten_cons, List.flatten_nil, List.append_nil] at hN
      have w1 : IntKind.i64.wrap ((D.length : Int) + bs) = (D.length : Int) + bs := w64 (by omega) (by omega)
      simp only [slices_stableCmpFunc_rune_ian.l1, if_neg (show ¬ (D.length : Int) + 2 * bs ≤ (N : Int) by omega), w1, slices_stableCmpFunc_rune_ian.j1, w2, List.flatten_cons, List.flatten_nil, List.append_nil]
      by_cases c : (D.length : Int) + bs < (N : Int)
      · rw [if_pos c]
        have := sym_eq hc (B.length + E.length) D B E [] K0 (Nat.le_refl _) (ltK (by unfold bigN; omega)) (by omega) (by omega) hBs hE (by simp; omega)
        rw [hBl] at this
        have e1 : (D.length : Int) + (bs : Int) + E.length = (N : Int) := by omega
        rw [e1] at this
        simp only [List.append_nil] at this
        rw [this, Option.bind_some]
        exact ⟨[], sortL key (B ++ E), fun C hC => (by cases hC), srt_sort key _, by rw [sort_len]; simp; omega, by simpa using feq_sort key (B ++ E), by simp [sort_len], rfl⟩
      · rw [if_neg c]
        obtain rfl := List.eq_nil_of_length_eq_zero (show E.length = 0 by omega)
        exact ⟨[], B, fun C hC => (by cases hC), hBs, by omega, by simpa using Feq.refl key B, by simp, by simp⟩
    | B1 :: B2 :: Bs, h1, hB, hN =>
      obtain ⟨hs1, hl1⟩ := hB B1 (by simp)
      obtain ⟨hs2, hl2⟩ := hB B2 (by simp)
      have hBs : Blks key bs Bs := fun C hC => hB C (by simp [hC])
      simp only [List.flatten_cons, List.length_append] at hN
      have w1 : IntKind.i64.wrap ((D.length : Int) + bs) = (D.length : Int) + bs := w64 (by omega) (by omega)
      have w3 : IntKind.i64.wrap (2 * (bs : Int)) = 2 * (bs : Int) := w64 (by omega) (by omega)
      have w4 : IntKind.i64.wrap ((D.length : Int) + 2 * bs + 2 * bs) = (D.length : Int) + 2 * bs + 2 * bs := w64 (by omega) (by omega)
      have := sym_eq hc (B1.length + B2.length) D B1 B2 (Bs.flatten ++ E) K0 (Nat.le_refl _) (ltK (by unfold bigN; omega)) (by omega) (by omega) hs1 hs2 (by rw [List.length_append]; omega)
      rw [hl1, hl2] at this
      have e1 : (D.length : Int) + (bs : Int) + bs = (D.length : Int) + 2 * bs := by omega
      rw [e1] at this
      have e2 : D ++ ((B1 :: B2 :: Bs).flatten ++ E) = D ++ (B1 ++ (B2 ++ (Bs.flatten ++ E))) := by simp
      simp only [slices_stableCmpFunc_rune_ian.l1, if_pos (show (D.length : Int) + 2 * bs ≤ (N : Int) by omega), w1, w3, w4, e2, this, Option.bind_some]
      have hsl : (sortL key (B1 ++ B2)).length = 2 * bs := by rw [sort_len]; simp; omega
      obtain ⟨Cs, E', c1, c2, c3, c4, c5, c6⟩ := ih Bs (D ++ sortL key (B1 ++ B2)) E k (by simp at h1; omega) (by omega) hBs hE hl (by rw [List.length_append, hsl]; omega) hb hbs
      have e3 : ((D ++ sortL key (B1 ++ B2)).length : Int) = (D.length : Int) + 2 * bs := by simp [hsl]
      rw [e3] at c6
      have e4 : D ++ (sortL key (B1 ++ B2) ++ (Bs.flatten ++ E)) = D ++ sortL key (B1 ++ B2) ++ (Bs.flatten ++ E) := by simp
      rw [e4, c6]
      refine ⟨sortL key (B1 ++ B2) :: Cs, E', fun C hC => ?_, c2, c3, ?_, ?_, by simp⟩
      · rcases List.mem_cons.1 hC with rfl | hC
        · exact ⟨srt_sort key _, hsl⟩
        · exact c1 C hC
      · have := Feq.app key (feq_sort key (B1 ++ B2)) c4
        simpa using this
      · simp only [List.flatten_cons, List.length_append] at c5 ⊢
        omega
theorem merge_all (hc : Cmp t key) (N : Nat) (hb : N ≤ bigN) : ∀ (n bs : Nat) (Bs : List (List Int)) (E : List Int) (k : Nat), 0 < bs → N - bs ≤ n → n < k → Blks key bs Bs → Srt key E → E.length < bs → (Bs.flatten ++ E).length = N →
    slices_stableCmpFunc_rune_ian.l2 k t (N : Int) (Bs.flatten ++ E) (bs : Int) = some (sortL key (Bs.flatten ++ E)) := by
  intro n
  have hb' := hb
  unfold bigN at hb'
  have fin : ∀ (bs : Nat) (Bs : List (List Int)) (E : List Int), 0 < bs → N ≤ bs → Blks key bs Bs → Srt key E → E.length < bs → (Bs.flatten ++ E).length = N → Srt key (Bs.flatten ++ E) := by
    intro bs Bs E h0 h1 hB hE hl hN
    have := blks_len hB
    simp only [List.length_append] at hN
    match Bs, hB, this with
    | [], _, _ => simpa using hE
    | [B], hB, this =>
      have e := (hB B (by simp)).2
      simp at this hN
      obtain rfl := List.eq_nil_of_length_eq_zero (show E.length = 0 by omega)
      simpa using (hB B (by simp)).1
    | B1 :: B2 :: Bs, hB, this =>
      simp only [List.length_cons] at this
      rw [Nat.add_mul, Nat.add_mul] at this
      omega
  induction n with
  | zero =>
    intro bs Bs E k h0 h1 hk hB hE hl hN
    obtain ⟨k, rfl⟩ : ∃ j, k = j + 1 := ⟨k - 1, by omega⟩
    simp only [slices_stableCmpFunc_rune_ian.l2, if_neg (show ¬ (bs : Int) < (N : Int) by omega), sort_id key (fin bs Bs E h0 (by omega) hB hE hl hN)]
  | succ n ih =>
    intro bs Bs E k h0 h1 hk hB hE hl hN
    obtain ⟨k, rfl⟩ : ∃ j, k = j + 1 := ⟨k - 1, by omega⟩
    by_cases c : (bs : Int) < (N : Int)
    · have w3 : IntKind.i64.wrap (2 * (bs : Int)) = 2 * (bs : Int) := w64 (by omega) (by omega)
      have hfl := blks_len hB
      have hBl : Bs.length ≤ N := by
        simp only [List.length_append] at hN
        have : Bs.length * 1 ≤ Bs.length * bs := Nat.mul_le_mul_left _ h0
        omega
      obtain ⟨Cs, E', c1, c2, c3, c4, c5, c6⟩ := pass_eq hc (slices_stableCmpFunc_rune_ian.l2 k t (N : Int)) bs N h0 N Bs [] E K0 hBl (ltK hb) hB hE hl (by simpa using hN) hb (by omega)
      simp only [List.length_nil, List.nil_append] at c6
      have e1 : ((0 : Nat) : Int) + 2 * (bs : Int) = 2 * bs := by omega
      rw [e1] at c6
      simp only [slices_stableCmpFunc_rune_ian.l2, if_pos c, w3]
      have e2 : ((0 : Nat) : Int) = 0 := rfl
      rw [e2] at c6
      rw [c6]
      have := ih (2 * bs) Cs E' k (by omega) (by omega) (by omega) c1 c2 c3 (by rw [c5, hN])
      have e3 : ((2 * bs : Nat) : Int) = 2 * (bs : Int) := by omega
      rw [e3] at this
      rw [this, sort_feq key c4]
    · simp only [slices_stableCmpFunc_rune_ian.l2, if_neg c, sort_id key (fin bs Bs E h0 (by omega) hB hE hl hN)]
theorem first_pass (hc : Cmp t key) (N : Nat) (hb : N ≤ bigN) : ∀ (n : Nat) (R D : List Int) (k : Nat), R.length ≤ n → n < k → D.length + R.length = N →
    ∃ Bs E, Blks key 20 Bs ∧ Srt key E ∧ E.length < 20 ∧ Feq key (Bs.flatten ++ E) R ∧ (Bs.flatten ++ E).length = R.length ∧
      slices_stableCmpFunc_rune_ian.l3 k t (N : Int) (D ++ R) (D.length : Int) ((D.length : Int) + 20) = slices_stableCmpFunc_rune_ian.l2 K0 t (N : Int) (D ++ (Bs.flatten ++ E)) 20 := by
  intro n
  have hb' := hb
  unfold bigN at hb'
  have fin : ∀ (R D : List Int) (k : Nat), D.length + R.length = N → R.length < 20 → ∃ Bs E, Blks key 20 Bs ∧ Srt key E ∧ E.length < 20 ∧ Feq key (Bs.flatten ++ E) R ∧ (Bs.flatten ++ E).length = R.length ∧
      slices_stableCmpFunc_rune_ian.l3 (k + 1) t (N : Int) (D ++ R) (D.length : Int) ((D.length : Int) + 20) = slices_stableCmpFunc_rune_ian.l2 K0 t (N : Int) (D ++ (Bs.flatten ++ E)) 20 := by
    intro R D k hN hR
    have := ins_eq hc D R [] (by simp; omega)
    have e1 : (D.length : Int) + R.length = (N : Int) := by omega
    rw [e1] at this
    simp only [List.append_nil] at this
    refine ⟨[], sortL key R, fun C hC => (by cases hC), srt_sort key _, by rw [sort_len]; omega, by simpa using feq_sort key R, by simp [sort_len], ?_⟩
    simp only [slices_stableCmpFunc_rune_ian.l3, if_neg (show ¬ (D.length : Int) + 20 ≤ (N : Int) by omega), this, Option.bind_some, List.flatten_nil, List.nil_append]
  induction n with
  | zero =>
    intro R D k h1 hk hN
    obtain ⟨k, rfl⟩ : ∃ j, k = j + 1 := ⟨k - 1, by omega⟩
    exact fin R D k hN (by omega)
  | succ n ih =>
    intro R D k h1 hk hN
    obtain ⟨k, rfl⟩ : ∃ j, k = j + 1 := ⟨k - 1, by omega⟩
    by_cases c : R.length < 20
    · exact fin R D k hN c
    · obtain ⟨B, R, rfl, hB⟩ := split_at R 20 (by omega)
      have hrl : (B ++ R).length = B.length + R.length := by simp
      have := ins_eq hc D B R (by omega)
      rw [hB] at this
      have w1 : IntKind.i64.wrap ((D.length : Int) + 20 + 20) = (D.length : Int) + 20 + 20 := w64 (by omega) (by omega)
      have e0 : ((20 : Nat) : Int) = 20 := rfl
      rw [e0] at this
      simp only [slices_stableCmpFunc_rune_ian.l3, if_pos (show (D.length : Int) + 20 ≤ (N : Int) by omega), this, Option.bind_some, w1]
      have hsl : (sortL key B).length = 20 := by rw [sort_len]; exact hB
      have hdl : (D ++ sortL key B).length = D.length + 20 := by simp [hsl]
      obtain ⟨Bs, E, c1, c2, c3, c4, c5, c6⟩ := ih R (D ++ sortL key B) k (by omega) (by omega) (by omega)
      have e3 : ((D ++ sortL key B).length : Int) = (D.length : Int) + 20 := by omega
      rw [e3] at c6
      have e4 : D ++ (sortL key B ++ R) = D ++ sortL key B ++ R := by simp
      rw [e4, c6]
      refine ⟨sortL key B :: Bs, E, fun C hC => ?_, c2, c3, ?_, ?_, by simp⟩
      · rcases List.mem_cons.1 hC with rfl | hC
        · exact ⟨srt_sort key _, hsl⟩
        · exact c1 C hC
      · have := Feq.app key (feq_sort key B) c4
        simpa using this
      · simp only [List.flatten_cons, List.length_append] at c5 ⊢
        omega
theorem sorts (hc : Cmp t key) (ys : List Int) (hb : ys.length ≤ bigN) : slices_SortStableFunc_rune_rune_mmi.f ys t = some (sortL key ys) := by
  unfold slices_SortStableFunc_rune_rune_mmi.f slices_stableCmpFunc_rune_ian.f
  obtain ⟨Bs, E, c1, c2, c3, c4, c5, c6⟩ := first_pass hc ys.length hb ys.length ys [] K0 (Nat.le_refl _) (ltK hb) (by simp)
  simp only [List.length_nil, List.nil_append] at c6
  have e1 : ((0 : Nat) : Int) + 20 = 20 := rfl
  have e2 : ((0 : Nat) : Int) = 0 := rfl
  rw [e1, e2] at c6
  rw [c6]
  have := merge_all hc ys.length hb ys.length 20 Bs E K0 (by omega) (by omega) (ltK hb) c1 c2 c3 c5
  have e3 : ((20 : Nat) : Int) = 20 := rfl
  rw [e3] at this
  rw [this, Option.bind_some, sort_feq key c4]

def Cls (t : Option Tbs) (key : Int → Int) : Prop := ∀ p, book_Tables_Class.f t p = some (key p)
theorem Cls.cmp (h : Cls t key) : Cmp t key := by
  intro a b
  simp only [canon_Order_1_ccl.f, h a, h b, Option.bind_some, cmp_Compare_int.f, cmp_isNaN_int.f, ne_eq, not_true_eq_false, decide_false, Bool.false_eq_true, if_false, cI]
  by_cases c : key a < key b
  · simp [c]
  · simp only [if_neg c]
    by_cases d : key b < key a
    · simp [d]
    · simp [d]
theorem run_find (h : Cls t key) (go : List Int → Int → Option (List Int)) (A : List Int) : ∀ (R S : List Int) (k : Nat), R.length < k → (∀ x ∈ S, key x ≠ 0) → A.length + S.length + R.length ≤ bigN →
    ∃ S' R', S ++ R = S' ++ R' ∧ (∀ x ∈ S', key x ≠ 0) ∧ (∀ x B, R' = x :: B → key x = 0) ∧
      canon_Order.l1 go k t (A ++ (S ++ R)) (A.length : Int) ((A.length : Int) + S.length) = go (A ++ (sortL key S' ++ R')) ((A.length : Int) + S'.length + 1) := by
  have done : ∀ (S R : List Int) (r : Option (List Int)) (go' : Int → Option (List Int)), A.length + S.length + R.length ≤ bigN → canon_Order.j1 go go' t (A ++ (S ++ R)) (A.length : Int) ((A.length : Int) + S.length) false = go (A ++ (sortL key S ++ R)) ((A.length : Int) + S.length + 1) := by
    intro S R _ go' hb
    have hb' := hb
    unfold bigN at hb'
    have hl : (A ++ (S ++ R)).length = A.length + S.length + R.length := by simp; omega
    have e1 : sub (A ++ (S ++ R)) (A.length : Int) ((A.length : Int) + S.length) = S := by
      have : ((A.length : Int) + S.length).toNat = A.length + S.length := by omega
      simp [sub, this, List.take_append]
    have e2 : (A ++ (S ++ R)).take (A.length : Int).toNat = A := by simp
    have e3 : (A ++ (S ++ R)).drop ((A.length : Int) + S.length).toNat = R := by
      have : ((A.length : Int) + S.length).toNat = A.length + S.length := by omega
      rw [this, ← List.append_assoc, List.drop_append_of_le_length (by simp)]
      simp
    simp only [canon_Order.j1, Bool.false_eq_true, if_false, hl, if_pos (show (0 : Int) ≤ (A.length : Int) ∧ (A.length : Int) ≤ (A.length : Int) + S.length ∧ (A.length : Int) + (S.length : Int) ≤ ((A.length + S.length + R.length : Nat) : Int) by omega), e1, e2, e3,
      sorts h.cmp S (by unfold bigN; omega), Option.bind_some, w64 (x := (A.length : Int) + S.length + 1) (by omega) (by omega)]
  intro R
  induction R with
  | nil =>
    intro S k hk hS hb
    obtain ⟨k, rfl⟩ : ∃ j, k = j + 1 := ⟨k - 1, by omega⟩
    refine ⟨S, [], rfl, hS, fun x B e => (by cases e), ?_⟩
    have hl : (A ++ (S ++ [])).length = A.length + S.length := by simp
    simp only [canon_Order.l1, hl, if_neg (show ¬ (A.length : Int) + S.length < ((A.length + S.length : Nat) : Int) by omega)]
    exact done S [] none _ hb
  | cons x R ih =>
    intro S k hk hS hb
    obtain ⟨k, rfl⟩ : ∃ j, k = j + 1 := ⟨k - 1, by omega⟩
    have hb' := hb
    unfold bigN at hb'
    simp only [List.length_cons] at hk hb'
    have hl : (A ++ (S ++ x :: R)).length = A.length + S.length + R.length + 1 := by simp; omega
    have r1 : rd (A ++ (S ++ x :: R)) ((A.length : Int) + S.length) = x := by
      have := rd_at (A := A ++ S) (B := R) (x := x) (i := (A.length : Int) + S.length) (by simp)
      simpa using this
    have g1 : (0 : Int) ≤ (A.length : Int) + S.length ∧ (A.length : Int) + (S.length : Int) < ((A.length + S.length + R.length + 1 : Nat) : Int) := by omega
    simp only [canon_Order.l1, hl, if_pos g1.2, if_pos g1, r1, h x, Option.bind_some]
    by_cases c : key x = 0
    · have : decide (key x ≠ 0) = false := by simp [c]
      rw [this]
      refine ⟨S, x :: R, rfl, hS, fun y B e => ?_, done S (x :: R) none _ hb⟩
      cases e; exact c
    · have : decide (key x ≠ 0) = true := by simp [c]
      rw [this]
      simp only [canon_Order.j1, if_true, w64 (x := (A.length : Int) + S.length + 1) (by omega) (by omega)]
      obtain ⟨S', R', q1, q2, q3, q4⟩ := ih (S ++ [x]) k (by omega) (fun y hy => by
        rcases List.mem_append.1 hy with hy | hy
        · exact hS y hy
        · rw [List.mem_singleton.1 hy]; exact c) (by simp at hb ⊢; omega)
      have e1 : (A.length : Int) + ((S ++ [x]).length : Int) = (A.length : Int) + S.length + 1 := by simp; omega
      rw [e1] at q4
      have e2 : A ++ (S ++ x :: R) = A ++ (S ++ [x] ++ R) := by simp
      rw [e2, q4]
      exact ⟨S', R', by rw [← q1]; simp, q2, q3, rfl⟩
theorem order_in (h : Cls t key) : ∀ (n : Nat) (R A : List Int) (k : Nat), R.length ≤ n → n + 1 < k → A.length + R.length ≤ bigN →
    canon_Order.l2 k t (A ++ R) (A.length : Int) = some (A ++ ordL key R) := by
  intro n
  induction n with
  | zero =>
    intro R A k h1 hk hb
    obtain ⟨k, rfl⟩ : ∃ j, k = j + 1 := ⟨k - 1, by omega⟩
    obtain rfl := List.eq_nil_of_length_eq_zero (Nat.le_zero.1 h1)
    simp only [canon_Order.l2, List.append_nil, if_neg (show ¬ (A.length : Int) < (A.length : Int) by omega)]
    simp [ordL, ordA, sortL]
  | succ n ih =>
    intro R A k h1 hk hb
    obtain ⟨k, rfl⟩ : ∃ j, k = j + 1 := ⟨k - 1, by omega⟩
    have hb' := hb
    unfold bigN at hb'
    by_cases c : R.length = 0
    · obtain rfl := List.eq_nil_of_length_eq_zero c
      simp only [canon_Order.l2, List.append_nil, if_neg (show ¬ (A.length : Int) < (A.length : Int) by omega)]
      simp [ordL, ordA, sortL]
    · have hl : (A ++ R).length = A.length + R.length := by simp
      simp only [canon_Order.l2, hl, if_pos (show (A.length : Int) < ((A.length + R.length : Nat) : Int) by omega)]
      obtain ⟨S, R', q1, q2, q3, q4⟩ := run_find h (canon_Order.l2 k t) A R [] K0 (ltK (by unfold bigN; omega)) (fun x hx => (by cases hx)) (by simpa using hb)
      simp only [List.nil_append] at q1 q4
      have e1 : (A.length : Int) + (([] : List Int).length : Int) = (A.length : Int) := by simp
      rw [e1] at q4
      rw [q4]
      subst q1
      cases R' with
      | nil =>
        obtain ⟨k, rfl⟩ : ∃ j, k = j + 1 := ⟨k - 1, by omega⟩
        have hl2 : (A ++ (sortL key S ++ [])).length = A.length + S.length := by simp [sort_len]
        simp only [canon_Order.l2, hl2, if_neg (show ¬ (A.length : Int) + S.length + 1 < ((A.length + S.length : Nat) : Int) by omega)]
        have := ordA_run key S [] [] q2
        simp only [List.append_nil, List.nil_append] at this
        simp only [ordL, List.append_nil, this, ordA]
      | cons x B =>
        have hx := q3 x B rfl
        have := ih B (A ++ (sortL key S ++ [x])) k (by simp at h1; omega) (by omega) (by simp [sort_len] at hb ⊢; omega)
        have e2 : ((A ++ (sortL key S ++ [x])).length : Int) = (A.length : Int) + S.length + 1 := by simp [sort_len]; omega
        rw [e2] at this
        have e3 : A ++ (sortL key S ++ x :: B) = A ++ (sortL key S ++ [x]) ++ B := by simp
        rw [e3, this]
        have h2 := ordA_run key S [] (x :: B) q2
        simp only [List.nil_append] at h2
        simp only [ordL, h2, ordA, if_pos hx]
        simp
theorem order_eq (h : Cls t key) (l : List Int) (hb : l.length ≤ bigN) : canon_Order.f t l = some (ordL key l) := by
  have hcl : slices_Clone_rune_rune.f l = some l := by
    rw [slices_Clone_rune_rune.f, if_pos (by unfold bigN at hb; unfold most; simp; omega)]; rfl
  unfold canon_Order.f
  rw [hcl, Option.bind_some]
  have := order_in h l.length l [] K0 (Nat.le_refl _) (by unfold bigN at hb; unfold K0; omega) (by simpa using hb)
  simpa using this
end
end Go.Proofs.YthoicbafdanmkaaGreatDoor
/- Plain laws, second part: rows that rise, in the program and in the reference. Own work of this repo. -/
namespace Go.Proofs.YthoicbafdanmkaaGreatDoor
open Go.RowKit

def touchB (lo hi : Int) : Bool := (decide (lo ≤ 4370) && decide (4352 ≤ hi)) || (decide (lo ≤ 4469) && decide (4449 ≤ hi)) || (decide (lo ≤ 4546) && decide (4520 ≤ hi)) || (decide (lo ≤ 55203) && decide (44032 ≤ hi))
def scalB (p : Int) : Bool := (decide (0 ≤ p) && decide (p < 55296)) || (decide (57343 < p) && decide (p ≤ 1114111))
theorem scalars1_eq (p : Int) : book_scalars_1.f p = some (!scalB p) := by
  unfold book_scalars_1.f scalB
  simp only [book_scalars_1.j1]
  by_cases a : p < 0
  · simp [a, show ¬ 0 ≤ p by omega, show ¬ 57343 < p by omega]
  · by_cases b : 1114111 < p
    · simp [a, b, show ¬ p < 55296 by omega, show ¬ p ≤ 1114111 by omega]
    · by_cases c : 55296 ≤ p
      · by_cases d : p ≤ 57343
        · simp [a, b, c, d, show ¬ p < 55296 by omega, show ¬ 57343 < p by omega]
        · simp [a, b, c, d, show ¬ p < 55296 by omega, show 57343 < p by omega, show p ≤ 1114111 by omega]
      · simp [a, b, c, show 0 ≤ p by omega, show p < 55296 by omega]
theorem indexBad_eq (l : List Int) (hl : l.length ≤ bigN) : ∃ r, slices_IndexFunc_rune_rune_igm.f l = some r ∧ Says r (l.all scalB) := by
  refine loop_ind (fun k i (_ : Unit) => slices_IndexFunc_rune_rune_igm.l1 k l i) l (fun pre t _ o => ∃ r, o = some r ∧ Says r (t.all scalB)) ?_ ?_ () K0 (ltK hl)
  · intro _ k
    exact ⟨-1, by simp only [slices_IndexFunc_rune_rune_igm.l1, if_neg (show ¬ (l.length : Int) < (l.length : Int) by omega)], .inl ⟨rfl, rfl⟩⟩
  · intro pre x t _ k e ih
    obtain ⟨h1, h2⟩ := mid e
    simp only [slices_IndexFunc_rune_rune_igm.l1, if_pos h2.2, if_pos h2, h1, scalars1_eq, Option.bind_some, nxt hl e, List.all_cons]
    cases c : scalB x with
    | false => exact ⟨pre.length, by simp, .inr ⟨by simp, by omega⟩⟩
    | true => simpa using ih ()
def charsB (l : List Int) (a b : Int) : Bool := decide (a ≤ (l.length : Int)) && decide ((l.length : Int) ≤ b) && l.all scalB
theorem scalars_eq (l : List Int) (a b : Int) (hb : b ≤ 1000) : book_scalars.f l a b = some (charsB l a b) := by
  unfold book_scalars.f charsB
  by_cases h1 : a ≤ (l.length : Int)
  · by_cases h2 : (l.length : Int) ≤ b
    · obtain ⟨r, h3, h4⟩ := indexBad_eq l (by unfold bigN; omega)
      simp only [if_pos h1, if_pos h2, slices_ContainsFunc_rune_rune_igm.f, h3, Option.bind_some, h4.val, book_scalars.j1, Bool.not_not]
      simp [h1, h2]
    · simp [h1, h2, book_scalars.j1]
  · simp [h1, book_scalars.j1]
theorem indexHan_eq (lo hi : Int) (l : List Spn) (hl : l.length ≤ bigN) : ∃ r, slices_IndexFunc_api_Span_api_Span_fdc.f l lo hi = some r ∧ Says r (!l.any fun h => decide (lo ≤ h.hi) && decide (h.lo ≤ hi)) := by
  refine loop_ind (fun k i (_ : Unit) => slices_IndexFunc_api_Span_api_Span_fdc.l1 k lo hi l i) l (fun pre t _ o => ∃ r, o = some r ∧ Says r (!t.any fun h => decide (lo ≤ h.hi) && decide (h.lo ≤ hi))) ?_ ?_ () K0 (ltK hl)
  · intro _ k
    exact ⟨-1, by simp only [slices_IndexFunc_api_Span_api_Span_fdc.l1, if_neg (show ¬ (l.length : Int) < (l.length : Int) by omega)], .inl ⟨rfl, rfl⟩⟩
  · intro pre x t _ k e ih
    obtain ⟨h1, h2⟩ := mid e
    simp only [slices_IndexFunc_api_Span_api_Span_fdc.l1, if_pos h2.2, if_pos h2, h1, book_touches_1_aek.f, book_touches_1_aek.j1, nxt hl e, List.any_cons]
    by_cases c1 : lo ≤ x.hi
    · by_cases c2 : x.lo ≤ hi
      · exact ⟨pre.length, by simp [c1, c2], .inr ⟨by simp [c1, c2], by omega⟩⟩
      · simpa [c1, c2] using ih ()
    · simpa [c1] using ih ()
theorem touches_eq (s : Spn) : book_touches.f s = some (touchB s.lo s.hi) := by
  unfold book_touches.f book_hangul.f
  simp only [Option.bind_some, slices_ContainsFunc_api_Span_api_Span_fdc.f]
  obtain ⟨r, h1, h2⟩ := indexHan_eq s.lo s.hi [⟨4352, 4370⟩, ⟨4449, 4469⟩, ⟨4520, 4546⟩, ⟨44032, 55203⟩] (by decide)
  rw [h1]
  simp only [Option.bind_some, h2.val, Bool.not_not]
  congr 1
  exact (show ∀ a b c d : Bool, (a || (b || (c || (d || false)))) = (a || b || c || d) by decide) _ _ _ _
theorem check1_eq (s : Spn) : book_Check_1.f s = some true := rfl
theorem check2_eq (s : Spn) : book_Check_2.f s = some (!touchB s.lo s.hi) := by
  unfold book_Check_2.f
  rw [touches_eq, Option.bind_some]
theorem check3_eq (x : Chs) : book_Check_3.f x = some (charsB x.is_ 1 18) := by
  unfold book_Check_3.f
  rw [scalars_eq x.is_ 1 18 (by decide), Option.bind_some]
theorem values1_eq (x : Val) (a b : Int) : book_values_1_ifo.f x a b = some (decide (a ≤ x.n) && decide (x.n ≤ b)) := by
  unfold book_values_1_ifo.f
  simp only [book_values_1_ifo.j1, book_ofValue.f, check1_eq, Option.bind_some]
  by_cases h1 : a ≤ x.n
  · by_cases h2 : x.n ≤ b <;> simp [h1, h2]
  · simp [h1]
theorem values2_eq (x : Val) (a b : Int) : book_values_1_nlj.f x a b = some (decide (a ≤ x.n) && decide (x.n ≤ b) && !touchB x.lo x.hi) := by
  unfold book_values_1_nlj.f
  simp only [book_values_1_nlj.j1, book_ofValue.f, check2_eq, Option.bind_some]
  by_cases h1 : a ≤ x.n
  · by_cases h2 : x.n ≤ b <;> simp [h1, h2]
  · simp [h1]
def decompB (x : Chs) : Bool := decide (x.lo = x.hi) && charsB [x.lo] 1 1 && charsB x.is_ 1 2 && !touchB x.lo x.hi
theorem check8_eq (x : Chs) : book_Check_8_1_kid.f x = some (decompB x) := by
  unfold book_Check_8_1_kid.f decompB
  simp only [book_Check_8_1_kid.j1, book_ofChars.f, check2_eq, Option.bind_some, scalars_eq [x.lo] 1 1 (by decide), scalars_eq x.is_ 1 2 (by decide)]
  by_cases h1 : x.lo = x.hi
  · rw [if_pos h1, decide_eq_true h1]
    cases h2 : charsB [x.lo] 1 1 <;> cases h3 : charsB x.is_ 1 2 <;> simp
  · rw [if_neg h1, decide_eq_false h1]; simp
def rowsB {α : Type} (lo hi : α → Int) (may : α → Bool) (l : List α) : Bool := decide (l.length ≤ 65536) && okRows lo hi may (-1) l
theorem rise_val (a b : Int) (l : List Val) : ∃ r, book_rising_api_Value_dif.f l a b = some r ∧ Says r (rowsB (·.lo) (·.hi) (fun x : Val => decide (a ≤ x.n) && decide (x.n ≤ b)) l) := by
  unfold book_rising_api_Value_dif.f rowsB
  by_cases h : (65536 : Int) < l.length
  · exact ⟨65536, by rw [if_pos h], .inr ⟨by simp [show ¬ l.length ≤ 65536 by omega], by decide⟩⟩
  · rw [if_neg h]
    have hl : l.length ≤ bigN := by unfold bigN; omega
    simp only [show l.length ≤ 65536 by omega, decide_true, Bool.true_and]
    refine loop_ind (fun k i last => book_rising_api_Value_dif.l1 k a b l last i) l (fun pre t last o => ∃ r, o = some r ∧ Says r (okRows (·.lo) (·.hi) (fun x : Val => decide (a ≤ x.n) && decide (x.n ≤ b)) last t)) ?_ ?_ (-1) K0 (ltK hl)
    · intro last k
      exact ⟨-1, by simp only [book_rising_api_Value_dif.l1, if_neg (show ¬ (l.length : Int) < (l.length : Int) by omega)], .inl ⟨rfl, rfl⟩⟩
    · intro pre x t last k e ih
      obtain ⟨h1, h2⟩ := mid e
      simp only [book_rising_api_Value_dif.l1, if_pos h2.2, if_pos h2, h1, book_ofValue.f, Option.bind_some, values1_eq, book_rising_api_Value_dif.j1, nxt hl e]
      by_cases c1 : x.lo ≤ last
      · exact ⟨pre.length, by simp [c1], .inr ⟨okRows_no1 (.inl c1), by omega⟩⟩
      · by_cases c2 : x.hi < x.lo
        · exact ⟨pre.length, by simp [c1, c2], .inr ⟨okRows_no1 (.inr (.inl c2)), by omega⟩⟩
        · by_cases c3 : 1114111 < x.hi
          · exact ⟨pre.length, by simp [c1, c2, c3], .inr ⟨okRows_no1 (.inr (.inr (.inl c3))), by omega⟩⟩
          · rw [if_neg c1, if_neg c2, if_neg c3]
            cases c4 : (decide (a ≤ x.n) && decide (x.n ≤ b)) with
            | false => exact ⟨pre.length, by simp, .inr ⟨okRows_no1 (.inr (.inr (.inr c4))), by omega⟩⟩
            | true =>
              rw [okRows_yes c1 c2 c3 c4]
              simpa using ih x.hi
theorem rise_plain (a b : Int) (l : List Val) : ∃ r, book_rising_api_Value_ion.f l a b = some r ∧ Says r (rowsB (·.lo) (·.hi) (fun x : Val => decide (a ≤ x.n) && decide (x.n ≤ b) && !touchB x.lo x.hi) l) := by
  unfold book_rising_api_Value_ion.f rowsB
  by_cases h : (65536 : Int) < l.length
  · exact ⟨65536, by rw [if_pos h], .inr ⟨by simp [show ¬ l.length ≤ 65536 by omega], by decide⟩⟩
  · rw [if_neg h]
    have hl : l.length ≤ bigN := by unfold bigN; omega
    simp only [show l.length ≤ 65536 by omega, decide_true, Bool.true_and]
    refine loop_ind (fun k i last => book_rising_api_Value_ion.l1 k a b l last i) l (fun pre t last o => ∃ r, o = some r ∧ Says r (okRows (·.lo) (·.hi) (fun x : Val => decide (a ≤ x.n) && decide (x.n ≤ b) && !touchB x.lo x.hi) last t)) ?_ ?_ (-1) K0 (ltK hl)
    · intro last k
      exact ⟨-1, by simp only [book_rising_api_Value_ion.l1, if_neg (show ¬ (l.length : Int) < (l.length : Int) by omega)], .inl ⟨rfl, rfl⟩⟩
    · intro pre x t last k e ih
      obtain ⟨h1, h2⟩ := mid e
      simp only [book_rising_api_Value_ion.l1, if_pos h2.2, if_pos h2, h1, book_ofValue.f, Option.bind_some, values2_eq, book_rising_api_Value_ion.j1, nxt hl e]
      by_cases c1 : x.lo ≤ last
      · exact ⟨pre.length, by simp [c1], .inr ⟨okRows_no1 (.inl c1), by omega⟩⟩
      · by_cases c2 : x.hi < x.lo
        · exact ⟨pre.length, by simp [c1, c2], .inr ⟨okRows_no1 (.inr (.inl c2)), by omega⟩⟩
        · by_cases c3 : 1114111 < x.hi
          · exact ⟨pre.length, by simp [c1, c2, c3], .inr ⟨okRows_no1 (.inr (.inr (.inl c3))), by omega⟩⟩
          · rw [if_neg c1, if_neg c2, if_neg c3]
            cases c4 : (decide (a ≤ x.n) && decide (x.n ≤ b) && !touchB x.lo x.hi) with
            | false => exact ⟨pre.length, by simp, .inr ⟨okRows_no1 (.inr (.inr (.inr c4))), by omega⟩⟩
            | true =>
              rw [okRows_yes c1 c2 c3 c4]
              simpa using ih x.hi
theorem rise_decomp (l : List Chs) : ∃ r, book_rising_api_Chars_mbg.f l = some r ∧ Says r (rowsB (·.lo) (·.hi) decompB l) := by
  unfold book_rising_api_Chars_mbg.f rowsB
  by_cases h : (65536 : Int) < l.length
  · exact ⟨65536, by rw [if_pos h], .inr ⟨by simp [show ¬ l.length ≤ 65536 by omega], by decide⟩⟩
  · rw [if_neg h]
    have hl : l.length ≤ bigN := by unfold bigN; omega
    simp only [show l.length ≤ 65536 by omega, decide_true, Bool.true_and]
    refine loop_ind (fun k i last => book_rising_api_Chars_mbg.l1 k l last i) l (fun pre t last o => ∃ r, o = some r ∧ Says r (okRows (·.lo) (·.hi) decompB last t)) ?_ ?_ (-1) K0 (ltK hl)
    · intro last k
      exact ⟨-1, by simp only [book_rising_api_Chars_mbg.l1, if_neg (show ¬ (l.length : Int) < (l.length : Int) by omega)], .inl ⟨rfl, rfl⟩⟩
    · intro pre x t last k e ih
      obtain ⟨h1, h2⟩ := mid e
      simp only [book_rising_api_Chars_mbg.l1, if_pos h2.2, if_pos h2, h1, book_ofChars.f, Option.bind_some, check8_eq, book_rising_api_Chars_mbg.j1, nxt hl e]
      by_cases c1 : x.lo ≤ last
      · exact ⟨pre.length, by simp [c1], .inr ⟨okRows_no1 (.inl c1), by omega⟩⟩
      · by_cases c2 : x.hi < x.lo
        · exact ⟨pre.length, by simp [c1, c2], .inr ⟨okRows_no1 (.inr (.inl c2)), by omega⟩⟩
        · by_cases c3 : 1114111 < x.hi
          · exact ⟨pre.length, by simp [c1, c2, c3], .inr ⟨okRows_no1 (.inr (.inr (.inl c3))), by omega⟩⟩
          · rw [if_neg c1, if_neg c2, if_neg c3]
            cases c4 : decompB x with
            | false => exact ⟨pre.length, by simp, .inr ⟨okRows_no1 (.inr (.inr (.inr c4))), by omega⟩⟩
            | true =>
              rw [okRows_yes c1 c2 c3 c4]
              simpa using ih x.hi
theorem rise_excl (l : List Spn) : ∃ r, book_rising_api_Span_fbg.f l = some r ∧ Says r (rowsB (·.lo) (·.hi) (fun x : Spn => !touchB x.lo x.hi) l) := by
  unfold book_rising_api_Span_fbg.f rowsB
  by_cases h : (65536 : Int) < l.length
  · exact ⟨65536, by rw [if_pos h], .inr ⟨by simp [show ¬ l.length ≤ 65536 by omega], by decide⟩⟩
  · rw [if_neg h]
    have hl : l.length ≤ bigN := by unfold bigN; omega
    simp only [show l.length ≤ 65536 by omega, decide_true, Bool.true_and]
    refine loop_ind (fun k i last => book_rising_api_Span_fbg.l1 k l last i) l (fun pre t last o => ∃ r, o = some r ∧ Says r (okRows (·.lo) (·.hi) (fun x : Spn => !touchB x.lo x.hi) last t)) ?_ ?_ (-1) K0 (ltK hl)
    · intro last k
      exact ⟨-1, by simp only [book_rising_api_Span_fbg.l1, if_neg (show ¬ (l.length : Int) < (l.length : Int) by omega)], .inl ⟨rfl, rfl⟩⟩
    · intro pre x t last k e ih
      obtain ⟨h1, h2⟩ := mid e
      simp only [book_rising_api_Span_fbg.l1, if_pos h2.2, if_pos h2, h1, book_ofSpan.f, Option.bind_some, check2_eq, book_rising_api_Span_fbg.j1, nxt hl e]
      by_cases c1 : x.lo ≤ last
      · exact ⟨pre.length, by simp [c1], .inr ⟨okRows_no1 (.inl c1), by omega⟩⟩
      · by_cases c2 : x.hi < x.lo
        · exact ⟨pre.length, by simp [c1, c2], .inr ⟨okRows_no1 (.inr (.inl c2)), by omega⟩⟩
        · by_cases c3 : 1114111 < x.hi
          · exact ⟨pre.length, by simp [c1, c2, c3], .inr ⟨okRows_no1 (.inr (.inr (.inl c3))), by omega⟩⟩
          · rw [if_neg c1, if_neg c2, if_neg c3]
            cases c4 : (!touchB x.lo x.hi) with
            | false => exact ⟨pre.length, by simp, .inr ⟨okRows_no1 (.inr (.inr (.inr c4))), by omega⟩⟩
            | true =>
              rw [okRows_yes c1 c2 c3 c4]
              simpa using ih x.hi
theorem rise_marks (l : List Spn) : ∃ r, book_rising_api_Span_and.f l = some r ∧ Says r (rowsB (·.lo) (·.hi) (fun _ : Spn => true) l) := by
  unfold book_rising_api_Span_and.f rowsB
  by_cases h : (65536 : Int) < l.length
  · exact ⟨65536, by rw [if_pos h], .inr ⟨by simp [show ¬ l.length ≤ 65536 by omega], by decide⟩⟩
  · rw [if_neg h]
    have hl : l.length ≤ bigN := by unfold bigN; omega
    simp only [show l.length ≤ 65536 by omega, decide_true, Bool.true_and]
    refine loop_ind (fun k i last => book_rising_api_Span_and.l1 k l last i) l (fun pre t last o => ∃ r, o = some r ∧ Says r (okRows (·.lo) (·.hi) (fun _ : Spn => true) last t)) ?_ ?_ (-1) K0 (ltK hl)
    · intro last k
      exact ⟨-1, by simp only [book_rising_api_Span_and.l1, if_neg (show ¬ (l.length : Int) < (l.length : Int) by omega)], .inl ⟨rfl, rfl⟩⟩
    · intro pre x t last k e ih
      obtain ⟨h1, h2⟩ := mid e
      simp only [book_rising_api_Span_and.l1, if_pos h2.2, if_pos h2, h1, book_ofSpan.f, Option.bind_some, check1_eq, book_rising_api_Span_and.j1, nxt hl e]
      by_cases c1 : x.lo ≤ last
      · exact ⟨pre.length, by simp [c1], .inr ⟨okRows_no1 (.inl c1), by omega⟩⟩
      · by_cases c2 : x.hi < x.lo
        · exact ⟨pre.length, by simp [c1, c2], .inr ⟨okRows_no1 (.inr (.inl c2)), by omega⟩⟩
        · by_cases c3 : 1114111 < x.hi
          · exact ⟨pre.length, by simp [c1, c2, c3], .inr ⟨okRows_no1 (.inr (.inr (.inl c3))), by omega⟩⟩
          · rw [if_neg c1, if_neg c2, if_neg c3]
            rw [okRows_yes c1 c2 c3 rfl]
            simpa using ih x.hi
theorem rise_like (l : List Chs) : ∃ r, book_rising_api_Chars_hdj.f l = some r ∧ Says r (rowsB (·.lo) (·.hi) (fun x : Chs => charsB x.is_ 1 18) l) := by
  unfold book_rising_api_Chars_hdj.f rowsB
  by_cases h : (65536 : Int) < l.length
  · exact ⟨65536, by rw [if_pos h], .inr ⟨by simp [show ¬ l.length ≤ 65536 by omega], by decide⟩⟩
  · rw [if_neg h]
    have hl : l.length ≤ bigN := by unfold bigN; omega
    simp only [show l.length ≤ 65536 by omega, decide_true, Bool.true_and]
    refine loop_ind (fun k i last => book_rising_api_Chars_hdj.l1 k l last i) l (fun pre t last o => ∃ r, o = some r ∧ Says r (okRows (·.lo) (·.hi) (fun x : Chs => charsB x.is_ 1 18) last t)) ?_ ?_ (-1) K0 (ltK hl)
    · intro last k
      exact ⟨-1, by simp only [book_rising_api_Chars_hdj.l1, if_neg (show ¬ (l.length : Int) < (l.length : Int) by omega)], .inl ⟨rfl, rfl⟩⟩
    · intro pre x t last k e ih
      obtain ⟨h1, h2⟩ := mid e
      simp only [book_rising_api_Chars_hdj.l1, if_pos h2.2, if_pos h2, h1, book_ofChars.f, Option.bind_some, check3_eq, book_rising_api_Chars_hdj.j1, nxt hl e]
      by_cases c1 : x.lo ≤ last
      · exact ⟨pre.length, by simp [c1], .inr ⟨okRows_no1 (.inl c1), by omega⟩⟩
      · by_cases c2 : x.hi < x.lo
        · exact ⟨pre.length, by simp [c1, c2], .inr ⟨okRows_no1 (.inr (.inl c2)), by omega⟩⟩
        · by_cases c3 : 1114111 < x.hi
          · exact ⟨pre.length, by simp [c1, c2, c3], .inr ⟨okRows_no1 (.inr (.inr (.inl c3))), by omega⟩⟩
          · rw [if_neg c1, if_neg c2, if_neg c3]
            cases c4 : charsB x.is_ 1 18 with
            | false => exact ⟨pre.length, by simp, .inr ⟨okRows_no1 (.inr (.inr (.inr c4))), by omega⟩⟩
            | true =>
              rw [okRows_yes c1 c2 c3 c4]
              simpa using ih x.hi
end Go.Proofs.YthoicbafdanmkaaGreatDoor
/- Plain laws, third part: what the reference says of rows. Own work of this repo. -/
namespace Go.Proofs.YthoicbafdanmkaaGreatDoor
open Go.RowKit

theorem mostle {a b : Nat} (h : a ≤ bigN) (hb : b ≤ 1) : a + b ≤ most := by unfold bigN at h; unfold most; omega
end Go.Proofs.YthoicbafdanmkaaGreatDoor
/- Plain laws, fourth part: the rows of Maps lie apart from those of Status. Own work of this repo. -/
namespace Go.Proofs.YthoicbafdanmkaaGreatDoor
open Go.RowKit

def meetsB (x : Chs) (y : Val) : Bool := decide (y.lo ≤ x.hi) && decide (x.lo ≤ y.hi)
def mapB (st : List Val) (x : Chs) : Bool := charsB x.is_ 1 18 && !st.any (meetsB x)
def freeB (x : Chs) : List Val → Bool
  | [] => true
  | y :: _ => decide (x.hi < y.lo)
theorem apart_step (st : List Val) (x : Chs) (hst : st.length ≤ bigN) : ∀ (rest done : List Val) (k : Nat), st = done ++ rest → rest.length < k →
    ∃ done' rest', st = done' ++ rest' ∧ (∃ p, done' = done ++ p ∧ ∀ y ∈ p, y.hi < x.lo) ∧ (∀ y, rest'.head? = some y → ¬ y.hi < x.lo) ∧
      book_apart_1_cbj.l1 k st x (done.length : Int) = some (charsB x.is_ 1 18 && freeB x rest', (done'.length : Int)) := by
  intro rest
  induction rest with
  | nil =>
    intro done k e hk
    obtain ⟨k, rfl⟩ : ∃ j, k = j + 1 := ⟨k - 1, by simp at hk; omega⟩
    have hd : st.length = done.length := by rw [e]; simp
    refine ⟨done, [], e, ⟨[], by simp, fun y hy => by cases hy⟩, fun y hy => by simp at hy, ?_⟩
    rw [book_apart_1_cbj.l1, if_neg (by rw [hd]; omega)]
    simp only [book_apart_1_cbj.j2, book_apart_1_cbj.j1, scalars_eq x.is_ 1 18 (by decide), Option.bind_some, Bool.false_eq_true, if_false]
    cases charsB x.is_ 1 18 with
    | false => simp
    | true => simp [hd, freeB]
  | cons y rest ih =>
    intro done k e hk
    obtain ⟨k, rfl⟩ : ∃ j, k = j + 1 := ⟨k - 1, by simp at hk; omega⟩
    obtain ⟨h1, h2⟩ := mid e
    by_cases c : y.hi < x.lo
    · obtain ⟨done', rest', e1, ⟨p, e2, e3⟩, e4, e5⟩ := ih (done ++ [y]) k (by rw [e]; simp) (by simp at hk; omega)
      refine ⟨done', rest', e1, ⟨y :: p, by rw [e2]; simp, fun z hz => ?_⟩, e4, ?_⟩
      · rcases List.mem_cons.1 hz with rfl | hz
        · exact c
        · exact e3 z hz
      · rw [book_apart_1_cbj.l1, if_pos h2.2, if_pos h2, h1]
        simp only [book_apart_1_cbj.j2, c, decide_true, if_true, nxt hst e]
        simpa using e5
    · refine ⟨done, y :: rest, e, ⟨[], by simp, fun z hz => by cases hz⟩, fun z hz => by simp at hz; subst hz; exact c, ?_⟩
      rw [book_apart_1_cbj.l1, if_pos h2.2, if_pos h2, h1]
      simp only [book_apart_1_cbj.j2, book_apart_1_cbj.j1, c, decide_false, scalars_eq x.is_ 1 18 (by decide), Option.bind_some, Bool.false_eq_true, if_false]
      cases charsB x.is_ 1 18 with
      | false => simp
      | true =>
        rw [if_pos rfl, if_neg (by omega), if_pos h2, h1]
        simp [freeB]
theorem okRows_lt {α : Type} {lo hi : α → Int} {may : α → Bool} : ∀ {l : List α} {last : Int}, okRows lo hi may last l = true → ∀ y ∈ l, last < lo y ∧ lo y ≤ hi y ∧ hi y ≤ 1114111 ∧ may y = true
  | [], _, _, y, hy => by cases hy
  | x :: t, last, h, y, hy => by
    simp only [okRows, Bool.and_eq_true, decide_eq_true_eq] at h
    obtain ⟨⟨⟨⟨h1, h2⟩, h3⟩, h4⟩, h5⟩ := h
    rcases List.mem_cons.1 hy with rfl | hy
    · exact ⟨h1, h2, h3, h4⟩
    · obtain ⟨a, b, c, d⟩ := okRows_lt h5 y hy
      exact ⟨by omega, b, c, d⟩
theorem okRows_app {α : Type} {lo hi : α → Int} {may : α → Bool} : ∀ {a b : List α} {last : Int}, okRows lo hi may last (a ++ b) = true → ∃ last', okRows lo hi may last' b = true
  | [], b, last, h => ⟨last, h⟩
  | x :: a, b, last, h => by
    simp only [List.cons_append, okRows, Bool.and_eq_true] at h
    exact okRows_app h.2
theorem free_meets {st done rest : List Val} {x : Chs} (hs : ∃ may : Val → Bool, okRows (·.lo) (·.hi) may (-1) st = true) (e : st = done ++ rest) (hd : ∀ y ∈ done, y.hi < x.lo) (hr : ∀ y, rest.head? = some y → ¬ y.hi < x.lo) (hx : x.lo ≤ x.hi) : freeB x rest = !st.any (meetsB x) := by
  obtain ⟨may, hs⟩ := hs
  have hdone : done.any (meetsB x) = false := by
    rw [List.any_eq_false]
    intro y hy
    have := hd y hy
    simp [meetsB, show ¬ x.lo ≤ y.hi by omega]
  rw [e, List.any_append, hdone, Bool.false_or]
  rw [e] at hs
  obtain ⟨last, hs⟩ := okRows_app hs
  cases rest with
  | nil => rfl
  | cons y t =>
    have hy := hr y rfl
    simp only [okRows, Bool.and_eq_true, decide_eq_true_eq] at hs
    by_cases c : x.hi < y.lo
    · have ht : (y :: t).any (meetsB x) = false := by
        rw [List.any_eq_false]
        intro z hz
        rcases List.mem_cons.1 hz with rfl | hz
        · simp [meetsB, show ¬ z.lo ≤ x.hi by omega]
        · have := (okRows_lt hs.2 z hz).1
          simp [meetsB, show ¬ z.lo ≤ x.hi by omega]
      simp [freeB, c, ht]
    · have : meetsB x y = true := by simp [meetsB]; omega
      simp [freeB, c, this]
theorem rise_maps (b : Bk) (hs : ∃ may : Val → Bool, okRows (·.lo) (·.hi) may (-1) b.status = true) (hst : b.status.length ≤ bigN) : ∃ r, book_apart.f b = some r ∧ Says r (rowsB (·.lo) (·.hi) (mapB b.status) b.maps) := by
  unfold book_apart.f book_rising_api_Chars_mdm.f rowsB
  by_cases h : (65536 : Int) < b.maps.length
  · exact ⟨65536, by rw [if_pos h]; rfl, .inr ⟨by simp [show ¬ b.maps.length ≤ 65536 by omega], by decide⟩⟩
  · rw [if_neg h]
    have hl : b.maps.length ≤ bigN := by unfold bigN; omega
    simp only [show b.maps.length ≤ 65536 by omega, decide_true, Bool.true_and]
    have := loop_ind (fun k i (s : Int × Int) => book_rising_api_Chars_mdm.l1 k b.names b.status b.maps b.class_ b.decomp b.excl b.bidi b.join b.marks b.script b.like b.maps s.1 s.2 i) b.maps
      (fun pre t s o => (∃ done rest, b.status = done ++ rest ∧ s.1 = (done.length : Int) ∧ ∀ y ∈ done, y.hi ≤ s.2) → ∃ r, (o.bind fun r => some r.1) = some r ∧ Says r (okRows (·.lo) (·.hi) (mapB b.status) s.2 t))
      (fun s k _ => ⟨-1, by simp only [book_rising_api_Chars_mdm.l1, if_neg (show ¬ (b.maps.length : Int) < (b.maps.length : Int) by omega)]; rfl, .inl ⟨rfl, rfl⟩⟩)
      (fun pre x t s k e ih hinv => by
        obtain ⟨h1, h2⟩ := mid e
        obtain ⟨done, rest, e1, e2, e3⟩ := hinv
        simp only [book_rising_api_Chars_mdm.l1, if_pos h2.2, if_pos h2, h1, book_ofChars.f, Option.bind_some, book_rising_api_Chars_mdm.j1, nxt hl e]
        by_cases c1 : x.lo ≤ s.2
        · exact ⟨pre.length, by simp [c1], .inr ⟨okRows_no1 (.inl c1), by omega⟩⟩
        · by_cases c2 : x.hi < x.lo
          · exact ⟨pre.length, by simp [c1, c2], .inr ⟨okRows_no1 (.inr (.inl c2)), by omega⟩⟩
          · by_cases c3 : 1114111 < x.hi
            · exact ⟨pre.length, by simp [c1, c2, c3], .inr ⟨okRows_no1 (.inr (.inr (.inl c3))), by omega⟩⟩
            · rw [if_neg c1, if_neg c2, if_neg c3]
              have hrl : rest.length < K0 := ltK (by rw [e1] at hst; simp at hst; omega)
              obtain ⟨done', rest', f1, ⟨p, f2, f3⟩, f4, f5⟩ := apart_step b.status x hst rest done K0 e1 hrl
              have hd' : ∀ y ∈ done', y.hi < x.lo := by
                intro y hy
                rw [f2] at hy
                rcases List.mem_append.1 hy with hy | hy
                · have := e3 y hy; omega
                · exact f3 y hy
              have hfree := free_meets hs f1 hd' f4 (by omega)
              have happ : book_apart_1_cbj.f x s.1 b.names b.status b.maps b.class_ b.decomp b.excl b.bidi b.join b.marks b.script b.like = some (mapB b.status x, (done'.length : Int)) := by
                unfold book_apart_1_cbj.f
                rw [e2, f5, hfree]; rfl
              rw [happ, Option.bind_some]
              cases c4 : mapB b.status x with
              | false => exact ⟨pre.length, by simp, .inr ⟨okRows_no1 (.inr (.inr (.inr c4))), by omega⟩⟩
              | true =>
                rw [okRows_yes c1 c2 c3 c4]
                have := ih ((done'.length : Int), x.hi) ⟨done', rest', f1, rfl, fun y hy => by have := hd' y hy; show y.hi ≤ x.hi; omega⟩
                simpa using this) (0, -1) K0 (ltK hl) ⟨[], b.status, rfl, rfl, fun y hy => by cases hy⟩
    exact this
end Go.Proofs.YthoicbafdanmkaaGreatDoor
/- Plain laws, fifth part: how long what a code point decomposes to is; the whole of the decompositions. Own work of this repo. -/
namespace Go.Proofs.YthoicbafdanmkaaGreatDoor
open Go.RowKit

theorem mget_put {κ ν : Type} [DecidableEq κ] (l : List (κ × ν)) (x y : κ) (v : ν) : mget (mput l x v) y = if y = x then some v else mget l y := by
  induction l with
  | nil => simp [mput, mget]
  | cons p l ih =>
    simp only [mput]
    by_cases h : x = p.1
    · rw [if_pos h]
      simp only [mget, h]
      by_cases h2 : y = p.1 <;> simp [h2]
    · rw [if_neg h]
      simp only [mget, ih]
      by_cases h2 : y = p.1
      · have : ¬ y = x := fun e => h (e ▸ h2)
        simp [h2, show ¬ p.1 = x from fun e => h e.symm]
      · simp [h2]
theorem cnt_le {α : Type} {p q : α → Bool} : ∀ {l : List α}, (∀ x ∈ l, p x = true → q x = true) → l.countP p ≤ l.countP q := fun h => List.countP_mono_left h
theorem cnt_lt {α : Type} {p q : α → Bool} : ∀ {l : List α} {a : α}, a ∈ l → (∀ x ∈ l, p x = true → q x = true) → p a = false → q a = true → l.countP p < l.countP q
  | [], _, ha, _, _, _ => by cases ha
  | b :: l, a, ha, h, h1, h2 => by
    have hl := cnt_le (l := l) (fun x hx => h x (List.mem_cons_of_mem _ hx))
    simp only [List.countP_cons]
    rcases List.mem_cons.1 ha with rfl | ha
    · simp [h1, h2]; omega
    · have := cnt_lt ha (fun x hx => h x (List.mem_cons_of_mem _ hx)) h1 h2
      have hb := h b (List.mem_cons_self ..)
      cases hpb : p b with
      | false => simp; omega
      | true => rw [hpb] at hb; simp [hb rfl]; omega

def paP : List Chs → Int → List Int
  | [], _ => []
  | x :: t, c => if x.lo ≤ c ∧ c ≤ x.hi then x.is_ else paP t c
def sumI (f : Int → Int) : List Int → Int
  | [] => 0
  | c :: t => f c + sumI f t
theorem sumI_mono {f g : Int → Int} : ∀ {l : List Int}, (∀ c ∈ l, f c ≤ g c) → sumI f l ≤ sumI g l
  | [], _ => Int.le_refl _
  | c :: t, h => by
    have := sumI_mono (l := t) (fun x hx => h x (List.mem_cons_of_mem _ hx))
    have := h c (List.mem_cons_self ..)
    simp only [sumI]; omega
theorem sumI_congr {f g : Int → Int} : ∀ {l : List Int}, (∀ c ∈ l, f c = g c) → sumI f l = sumI g l
  | [], _ => rfl
  | c :: t, h => by
    rw [sumI, sumI, h c (List.mem_cons_self ..), sumI_congr (l := t) (fun x hx => h x (List.mem_cons_of_mem _ hx))]
theorem sumI_len {f : Int → Int} : ∀ {l : List Int}, (∀ c ∈ l, 1 ≤ f c) → (l.length : Int) ≤ sumI f l
  | [], _ => by simp [sumI]
  | c :: t, h => by
    have := sumI_len (l := t) (fun x hx => h x (List.mem_cons_of_mem _ hx))
    have := h c (List.mem_cons_self ..)
    simp only [sumI, List.length_cons]; omega
theorem sumI_ge {f : Int → Int} : ∀ {l : List Int}, (∀ c ∈ l, 1 ≤ f c) → ∀ c ∈ l, f c ≤ sumI f l
  | [], _, c, hc => by cases hc
  | d :: t, h, c, hc => by
    have h1 := h d (List.mem_cons_self ..)
    have h2 := sumI_len (l := t) (fun x hx => h x (List.mem_cons_of_mem _ hx))
    simp only [sumI]
    rcases List.mem_cons.1 hc with rfl | hc
    · omega
    · have := sumI_ge (l := t) (fun x hx => h x (List.mem_cons_of_mem _ hx)) c hc
      omega
theorem sumI_app (f : Int → Int) : ∀ (a b : List Int), sumI f (a ++ b) = sumI f a + sumI f b
  | [], b => by simp [sumI]
  | c :: a, b => by simp only [List.cons_append, sumI, sumI_app f a b]; omega
def cap (s : Int) : Int := if 18 < s then 19 else s
def Lc (P : Int → List Int) : Nat → Int → Int
  | 0, c => if P c = [] then 1 else 19
  | n + 1, c => if P c = [] then 1 else cap (sumI (Lc P n) (P c))
theorem Lc_one {P : Int → List Int} {c : Int} (h : P c = []) (n : Nat) : Lc P n c = 1 := by cases n <;> simp [Lc, h]
theorem Lc_pos (P : Int → List Int) : ∀ (n : Nat) (c : Int), 1 ≤ Lc P n c ∧ Lc P n c ≤ 19
  | 0, c => by unfold Lc; split <;> omega
  | n + 1, c => by
    unfold Lc
    by_cases h : P c = []
    · rw [if_pos h]; omega
    · rw [if_neg h]
      have h1 := sumI_len (f := Lc P n) (l := P c) (fun x _ => (Lc_pos P n x).1)
      have h2 : 0 < (P c).length := List.length_pos_iff.2 h
      unfold cap; split <;> omega
theorem cap_mono {a b : Int} (h : a ≤ b) : cap a ≤ cap b := by unfold cap; split <;> split <;> omega
theorem Lc_anti1 (P : Int → List Int) : ∀ (n : Nat) (c : Int), Lc P (n + 1) c ≤ Lc P n c
  | 0, c => by
    by_cases h : P c = []
    · rw [Lc_one h, Lc_one h]; omega
    · have := (Lc_pos P 1 c).2
      rw [show Lc P 0 c = 19 by simp [Lc, h]]; exact this
  | n + 1, c => by
    by_cases h : P c = []
    · rw [Lc_one h, Lc_one h]; omega
    · rw [Lc, if_neg h, Lc, if_neg h]
      exact cap_mono (sumI_mono fun x _ => Lc_anti1 P n x)
theorem Lc_anti (P : Int → List Int) {n m : Nat} (h : n ≤ m) (c : Int) : Lc P m c ≤ Lc P n c := by
  induction h with
  | refl => exact Int.le_refl _
  | step _ ih => exact Int.le_trans (Lc_anti1 P _ c) ih
theorem Lc_stay1 (P : Int → List Int) : ∀ (n : Nat) (c : Int), Lc P n c ≤ 18 → Lc P (n + 1) c = Lc P n c
  | 0, c, h => by
    by_cases e : P c = []
    · rw [Lc_one e, Lc_one e]
    · simp [Lc, e] at h
  | n + 1, c, h => by
    by_cases e : P c = []
    · rw [Lc_one e, Lc_one e]
    · rw [Lc, if_neg e] at h
      have hs : sumI (Lc P n) (P c) ≤ 18 := by unfold cap at h; split at h <;> omega
      rw [Lc, if_neg e, Lc, if_neg e, sumI_congr (fun x hx => Lc_stay1 P n x ?_)]
      have := sumI_ge (f := Lc P n) (l := P c) (fun x _ => (Lc_pos P n x).1) x hx
      omega
theorem Lc_stay (P : Int → List Int) {n m : Nat} (h : n ≤ m) {c : Int} (hc : Lc P n c ≤ 18) : Lc P m c = Lc P n c := by
  induction h with
  | refl => rfl
  | step _ ih => rw [Lc_stay1 P _ c (by rw [ih]; exact hc), ih]
theorem Lc_ge (P : Int → List Int) {e : Nat} {c : Int} (h : Lc P e c ≤ 18) (d : Nat) : Lc P e c ≤ Lc P d c := by
  rcases Nat.le_total e d with h1 | h1
  · rw [Lc_stay P h1 h]; exact Int.le_refl _
  · exact Lc_anti P h1 c

abbrev Mem := List (Int × Int)
def ixok (D : List Chs) (m : Mem) : Prop := ∀ c, (mget m c = none → paP D c = []) ∧ (∀ j, mget m c = some j → 0 ≤ j ∧ j < (D.length : Int) ∧ (rd D j).lo = c)
def un (N : Nat) (M : Mem) : Nat := (List.range N).countP (fun j : Nat => (mget M (j : Int)).isNone)
def pos (N : Nat) (M : Mem) : Nat := (List.range N).countP (fun j : Nat => decide (0 < (mget M (j : Int)).getD 0))
def Mok (D : List Chs) (M : Mem) : Prop := ∀ j n, mget M j = some n → 0 ≤ j ∧ j < (D.length : Int) ∧ (n = 0 ∨ (0 < n ∧ n ≤ 18 ∧ Lc (paP D) (pos D.length M) (rd D j).lo = n))
def Ext (M M' : Mem) : Prop := (∀ j n, mget M j = some n → mget M' j = some n) ∧ (∀ j, mget M' j = some 0 → mget M j = some 0)
def Zer (D : List Chs) (M : Mem) (d : Nat) : Prop := ∀ j, mget M j = some 0 → 18 < Lc (paP D) d (rd D j).lo
theorem Ext.refl (M : Mem) : Ext M M := ⟨fun _ _ h => h, fun _ h => h⟩
theorem Ext.trans {a b c : Mem} (h : Ext a b) (g : Ext b c) : Ext a c := ⟨fun j n e => g.1 j n (h.1 j n e), fun j e => h.2 j (g.2 j e)⟩
theorem Ext.un {M M' : Mem} (h : Ext M M') (N : Nat) : un N M' ≤ un N M := cnt_le fun j _ hj => by
  cases e : mget M (j : Int) with
  | none => rfl
  | some n => rw [h.1 _ _ e] at hj; simp at hj
theorem Ext.pos {M M' : Mem} (h : Ext M M') (N : Nat) : pos N M ≤ pos N M' := cnt_le fun j _ hj => by
  cases e : mget M (j : Int) with
  | none => rw [e] at hj; simp at hj
  | some n => rw [h.1 _ _ e]; rw [e] at hj; exact hj
theorem Mok.grow {D : List Chs} {M M' : Mem} (h : Mok D M) (hp : pos D.length M ≤ pos D.length M') {j n : Int} (e : mget M j = some n) : 0 ≤ j ∧ j < (D.length : Int) ∧ (n = 0 ∨ (0 < n ∧ n ≤ 18 ∧ Lc (paP D) (pos D.length M') (rd D j).lo = n)) := by
  obtain ⟨a, b, c⟩ := h j n e
  refine ⟨a, b, ?_⟩
  rcases c with c | ⟨c1, c2, c3⟩
  · exact .inl c
  · exact .inr ⟨c1, c2, by rw [Lc_stay _ hp (by omega)]; exact c3⟩
theorem rd_mem {α : Type} [Inhabited α] {D : List α} {i : Int} (h0 : 0 ≤ i) (h1 : i < (D.length : Int)) : rd D i ∈ D := List.mem_of_getElem? (rd_get h0 h1)
def Told (D : List Chs) (M : Mem) (i : Int) (o : Option (Int × Mem)) : Prop := ∃ r M', o = some (r, M') ∧
  ((r = 0 ∧ ∀ d, Zer D M d → 18 < Lc (paP D) d (rd D i).lo) ∨ (0 < r ∧ r ≤ 18 ∧ Mok D M' ∧ Lc (paP D) (pos D.length M') (rd D i).lo = r ∧ Ext M M'))
theorem tree_len {D : List Chs} {m : Mem} (hD : D.length ≤ 65536) (hix : ixok D m) (hrow : ∀ x ∈ D, paP D x.lo = x.is_) (hk : ∀ x ∈ D, 1 ≤ x.is_.length ∧ x.is_.length ≤ 2) :
    ∀ (k : Nat) (M : Mem) (i : Int), Mok D M → 0 ≤ i → i < (D.length : Int) → un D.length M < k → Told D M i (book_tree_length_bjo.f k i D m M) := by
  intro k
  induction k with
  | zero => intro M i _ _ _ h; omega
  | succ k ih =>
    intro M i hM hi0 hi1 hun
    rw [book_tree_length_bjo.f, book_tree_length_bjo.b]
    cases e : mget M i with
    | some n =>
      refine ⟨n, M, by simp, ?_⟩
      obtain ⟨_, _, c⟩ := hM i n e
      rcases c with rfl | ⟨c1, c2, c3⟩
      · exact .inl ⟨rfl, fun d hz => hz i e⟩
      · exact .inr ⟨c1, c2, hM, c3, Ext.refl M⟩
    | none =>
      rw [if_neg (by simp), if_pos ⟨hi0, hi1⟩]
      have hmem := rd_mem hi0 hi1
      have hpa := hrow _ hmem
      have hlen := hk _ hmem
      have hpn : paP D (rd D i).lo ≠ [] := by rw [hpa]; intro h; rw [h] at hlen; simp at hlen
      have hi2 : ((i.toNat : Nat) : Int) = i := by omega
      have him : i.toNat ∈ List.range D.length := by rw [List.mem_range]; omega
      have g0 := mget_put M i
      have hp0 : pos D.length M ≤ pos D.length (mput M i 0) := cnt_le fun j _ hj => by
        rw [g0]
        by_cases c : (j : Int) = i
        · rw [c, e] at hj; simp at hj
        · rw [if_neg c]; exact hj
      have hM0 : Mok D (mput M i 0) := by
        intro j n ej
        rw [g0] at ej
        by_cases c : j = i
        · rw [if_pos c] at ej
          have : (0 : Int) = n := by simpa using ej
          exact ⟨by omega, by omega, .inl this.symm⟩
        · rw [if_neg c] at ej
          exact hM.grow hp0 ej
      have hu0 : un D.length (mput M i 0) < un D.length M := cnt_lt him (fun j _ hj => by
          rw [g0] at hj
          by_cases c : (j : Int) = i
          · rw [if_pos c] at hj; simp at hj
          · rw [if_neg c] at hj; exact hj) (by simp [hi2, g0]) (by simp [hi2, e])
      have hz0 : ∀ M1 d, Ext (mput M i 0) M1 → Zer D M d → 18 < Lc (paP D) d (rd D i).lo → Zer D M1 d := by
        intro M1 d hx hz h j ej
        have := hx.2 j ej
        rw [g0] at this
        by_cases c : j = i
        · rw [c]; exact h
        · rw [if_neg c] at this; exact hz j this
      have h19 : Lc (paP D) 0 (rd D i).lo = 19 := by simp [Lc, hpn]
      have hl : (rd D i).is_.length ≤ bigN := by unfold bigN; omega
      refine loop_ind (fun kk x (s : Mem × Int) => book_tree_length_bjo.l1 kk (book_tree_length_bjo.f k) D m i s.1 s.2 x) (rd D i).is_
        (fun pre t s o => Mok D s.1 → Ext (mput M i 0) s.1 → 0 ≤ s.2 → s.2 ≤ 18 * (pre.length : Int) → (∀ c ∈ pre, Lc (paP D) (pos D.length s.1) c ≤ 18) → s.2 = sumI (Lc (paP D) (pos D.length s.1)) pre → Told D M i o)
        ?_ ?_ (mput M i 0, 0) K0 (ltK hl) hM0 (Ext.refl _) (Int.le_refl _) (by simp) (fun c hc => by cases hc) rfl
      · intro ⟨M1, s⟩ kk hM1 hx h0 h1 h2 h3
        simp only at hM1 hx h0 h1 h2 h3
        simp only [book_tree_length_bjo.l1, if_neg (show ¬ (((rd D i).is_).length : Int) < (((rd D i).is_).length : Int) by omega)]
        by_cases c : 18 < s
        · rw [if_pos c]
          refine ⟨0, M1, rfl, .inl ⟨rfl, fun d _ => ?_⟩⟩
          cases d with
          | zero => rw [h19]; omega
          | succ d =>
            rw [Lc, if_neg hpn, hpa]
            have : s ≤ sumI (Lc (paP D) d) (rd D i).is_ := by rw [h3]; exact sumI_mono fun x hx => Lc_ge _ (h2 x hx) d
            unfold cap; rw [if_pos (by omega)]; omega
        · rw [if_neg c]
          have hs1 : 1 ≤ s := by
            have := sumI_len (f := Lc (paP D) (pos D.length M1)) (l := (rd D i).is_) (fun y _ => (Lc_pos _ _ y).1)
            omega
          have e1 : mget M1 i = some 0 := hx.1 i 0 (by rw [g0, if_pos rfl])
          have g1 := mget_put M1 i
          have hp1 : pos D.length M1 < pos D.length (mput M1 i s) := cnt_lt him (fun j _ hj => by
              rw [g1]
              by_cases c : (j : Int) = i
              · rw [c, e1] at hj; simp at hj
              · rw [if_neg c]; exact hj) (by simp [hi2, e1]) (by simp only [hi2, g1, if_true, Option.getD_some]; simp; omega)
          have hL : Lc (paP D) (pos D.length M1 + 1) (rd D i).lo = s := by
            rw [Lc, if_neg hpn, hpa, ← h3]; unfold cap; rw [if_neg c]
          have hL2 : Lc (paP D) (pos D.length (mput M1 i s)) (rd D i).lo = s := by
            rw [Lc_stay _ hp1 (by rw [hL]; omega), hL]
          refine ⟨s, _, rfl, .inr ⟨by omega, by omega, ?_, hL2, ?_, ?_⟩⟩
          · intro j n ej
            rw [g1] at ej
            by_cases c : j = i
            · rw [if_pos c] at ej
              have : s = n := by simpa using ej
              subst this
              exact ⟨by omega, by omega, .inr ⟨by omega, by omega, by rw [c]; exact hL2⟩⟩
            · rw [if_neg c] at ej
              exact hM1.grow (Nat.le_of_lt hp1) ej
          · intro j n ej
            have hne : j ≠ i := fun h => by rw [h, e] at ej; cases ej
            rw [g1, if_neg hne]
            exact hx.1 j n (by rw [g0, if_neg hne]; exact ej)
          · intro j ej
            rw [g1] at ej
            by_cases c : j = i
            · rw [if_pos c] at ej
              have : s = 0 := by simpa using ej
              omega
            · rw [if_neg c] at ej
              have := hx.2 j ej
              rw [g0, if_neg c] at this
              exact this
      · intro pre c t ⟨M1, s⟩ kk e2 ih2 hM1 hx h0 h1 h2 h3
        simp only at hM1 hx h0 h1 h2 h3
        obtain ⟨h4, h5⟩ := mid e2
        have hpl : pre.length ≤ 1 := by
          have : (rd D i).is_.length = pre.length + (t.length + 1) := by rw [e2]; simp
          omega
        simp only [book_tree_length_bjo.l1, if_pos h5.2, if_pos h5, h4, book_tree_length_bjo.j1, nxt hl e2]
        have hin : c ∈ (rd D i).is_ := by rw [e2]; simp
        cases em : mget m c with
        | none =>
          simp only [Option.isSome_none, Bool.false_eq_true, if_false]
          rw [if_neg (by decide), w64 (by omega) (by omega)]
          have hc := Lc_one ((hix c).1 em)
          refine ih2 (M1, s + 1) hM1 hx (by show 0 ≤ s + 1; omega) (by show s + 1 ≤ _; simp; omega) ?_ ?_
          · intro d hd
            rcases List.mem_append.1 hd with hd | hd
            · exact h2 d hd
            · rw [List.mem_singleton.1 hd, hc]; omega
          · show s + 1 = _
            rw [sumI_app, ← h3]; simp [sumI, hc]
        | some j =>
          obtain ⟨j0, j1, j2⟩ := (hix c).2 j em
          simp only [Option.isSome_some, if_true, Option.getD_some]
          obtain ⟨r, M2, er, hr⟩ := ih M1 j hM1 j0 j1 (by have := hx.un D.length; omega)
          rw [er, Option.bind_some]
          rw [j2] at hr
          rcases hr with ⟨rfl, hr⟩ | ⟨r0, r1, hM2, r2, hx2⟩
          · rw [if_pos rfl]
            refine ⟨0, M2, rfl, .inl ⟨rfl, fun d => ?_⟩⟩
            induction d with
            | zero => intro _; rw [h19]; omega
            | succ d ihd =>
              intro hz
              have hz' : Zer D M d := fun j ej => Int.lt_of_lt_of_le (hz j ej) (Lc_anti1 _ d _)
              have h6 := hr d (hz0 M1 d hx hz' (ihd hz'))
              rw [Lc, if_neg hpn, hpa]
              have := sumI_ge (f := Lc (paP D) d) (l := (rd D i).is_) (fun y _ => (Lc_pos _ _ y).1) c hin
              unfold cap; rw [if_pos (by omega)]; omega
          · rw [if_neg (by omega), w64 (by omega) (by omega)]
            have hp := hx2.pos D.length
            refine ih2 (M2, s + r) hM2 (hx.trans hx2) (by show 0 ≤ s + r; omega) (by show s + r ≤ _; simp; omega) ?_ ?_
            · intro d hd
              rcases List.mem_append.1 hd with hd | hd
              · show Lc _ (pos D.length M2) d ≤ 18
                rw [Lc_stay _ hp (h2 d hd)]; exact h2 d hd
              · rw [List.mem_singleton.1 hd]; show Lc _ (pos D.length M2) c ≤ 18; omega
            · show s + r = sumI (Lc (paP D) (pos D.length M2)) _
              rw [sumI_app, sumI_congr (fun d hd => Lc_stay _ hp (h2 d hd)), ← h3]; simp [sumI, r2]
end Go.Proofs.YthoicbafdanmkaaGreatDoor
/- Plain laws, sixth part: the whole of the decompositions, by the book and by the reference. Own work of this repo. -/
namespace Go.Proofs.YthoicbafdanmkaaGreatDoor
open Go.RowKit

def twin (x y : Chs) : Bool := decide ((x.is_.length : Int) = 2) && decide ((y.is_.length : Int) = 2) && decide (rd x.is_ 0 = rd y.is_ 0) && decide (rd x.is_ 1 = rd y.is_ 1)
def goodB (D : List Chs) : List Chs → List Chs → Bool
  | _, [] => true
  | pre, x :: t => decide (Lc (paP D) (D.length + 1) x.lo ≤ 18) && !pre.any (twin x) && goodB D (pre ++ [x]) t
def twoV (x : Chs) : Vector Int 2 := #v[rd x.is_ 0, rd x.is_ 1]
theorem twoV_eq (x y : Chs) : twoV x = twoV y ↔ rd x.is_ 0 = rd y.is_ 0 ∧ rd x.is_ 1 = rd y.is_ 1 := by
  unfold twoV
  constructor
  · intro h
    have h := congrArg Vector.toList h
    simpa using h
  · rintro ⟨h1, h2⟩
    rw [h1, h2]
structure Dok (D : List Chs) : Prop where
  len : D.length ≤ 65536
  one : ∀ x ∈ D, x.lo = x.hi
  row : ∀ x ∈ D, paP D x.lo = x.is_
  kid : ∀ x ∈ D, 1 ≤ x.is_.length ∧ x.is_.length ≤ 2
theorem paP_row : ∀ (D : List Chs) (last : Int), okRows (·.lo) (·.hi) decompB last D = true → ∀ x ∈ D, paP D x.lo = x.is_
  | [], _, _, x, hx => by cases hx
  | y :: t, last, h, x, hx => by
    simp only [okRows, Bool.and_eq_true, decide_eq_true_eq] at h
    rcases List.mem_cons.1 hx with rfl | hx
    · rw [paP, if_pos (by omega)]
    · have := (okRows_lt h.2 x hx).1
      rw [paP, if_neg (by omega)]
      exact paP_row t _ h.2 x hx
theorem Dok.mk' {D : List Chs} (h : rowsB (·.lo) (·.hi) decompB D = true) : Dok D := by
  simp only [rowsB, Bool.and_eq_true, decide_eq_true_eq] at h
  have g : ∀ x ∈ D, decompB x = true := fun x hx => (okRows_lt h.2 x hx).2.2.2
  refine ⟨h.1, fun x hx => ?_, paP_row D _ h.2, fun x hx => ?_⟩
  · have := g x hx; simp only [decompB, Bool.and_eq_true, decide_eq_true_eq] at this; exact this.1.1.1
  · have := g x hx; simp only [decompB, charsB, Bool.and_eq_true, decide_eq_true_eq] at this
    have := this.1.2.1; omega
theorem Dok.none {D : List Chs} {c : Int} : ∀ {l : List Chs}, (∀ x ∈ l, x.lo = x.hi) → (∀ x ∈ l, x.lo ≠ c) → paP l c = []
  | [], _, _ => rfl
  | x :: t, h1, h2 => by
    have a := h1 x (List.mem_cons_self ..)
    have b := h2 x (List.mem_cons_self ..)
    rw [paP, if_neg (by omega)]
    exact Dok.none (D := D) (fun y hy => h1 y (List.mem_cons_of_mem _ hy)) (fun y hy => h2 y (List.mem_cons_of_mem _ hy))
theorem pos_le (N : Nat) (M : Mem) : pos N M ≤ N := by
  have := List.countP_le_length (p := fun j : Nat => decide (0 < (mget M (j : Int)).getD 0)) (l := List.range N)
  simpa [pos] using this
theorem un_le (N : Nat) (M : Mem) : un N M ≤ N := by
  have := List.countP_le_length (p := fun j : Nat => (mget M (j : Int)).isNone) (l := List.range N)
  simpa [un] using this
theorem book_whole1 {D : List Chs} {m : Mem} (h : Dok D) (hix : ixok D m) : ∃ r, book_whole.l1 K0 D m [] [] 0 = some r ∧ Says r (goodB D [] D) := by
  have hl : D.length ≤ bigN := by have := h.len; unfold bigN; omega
  refine loop_ind (fun k i (s : List (Vector Int 2 × Bool) × Mem) => book_whole.l1 k D m s.1 s.2 i) D
    (fun pre t s o => Mok D s.2 → (∀ j, mget s.2 j ≠ some 0) → (∀ v, (mget s.1 v).getD false = true ↔ ∃ x ∈ pre, (x.is_.length : Int) = 2 ∧ twoV x = v) → ∃ r, o = some r ∧ Says r (goodB D pre t))
    ?_ ?_ ([], []) K0 (ltK hl) (fun j n e => by cases e) (fun j e => by cases e) (fun v => by simp [mget])
  · intro ⟨S, M⟩ k _ _ _
    exact ⟨-1, by simp only [book_whole.l1, if_neg (show ¬ (D.length : Int) < (D.length : Int) by omega)], .inl ⟨rfl, rfl⟩⟩
  · intro pre x t ⟨S, M⟩ k e ih hM hz hS
    simp only at hM hz hS
    obtain ⟨h1, h2⟩ := mid e
    have hx : x ∈ D := by rw [e]; simp
    obtain ⟨r, M', er, hr⟩ := tree_len h.len hix h.row h.kid K0 M (pre.length : Int) hM h2.1 h2.2 (Nat.lt_of_le_of_lt (un_le _ _) (ltK hl))
    rw [h1] at hr
    simp only [book_whole.l1, if_pos h2.2, if_pos h2, er, Option.bind_some, h1, book_whole.j1, nxt hl e, goodB]
    rcases hr with ⟨rfl, hr⟩ | ⟨r0, r1, hM', r2, hE⟩
    · have := hr (D.length + 1) fun j ej => absurd ej (hz j)
      exact ⟨_, by rw [if_pos rfl], .inr ⟨by simp [show ¬ Lc (paP D) (D.length + 1) x.lo ≤ 18 by omega], by omega⟩⟩
    · rw [if_neg (by omega)]
      have hL : Lc (paP D) (D.length + 1) x.lo ≤ 18 := by
        rw [Lc_stay _ (Nat.le_succ_of_le (pos_le D.length M')) (by omega)]; omega
      have hz' : ∀ j, mget M' j ≠ some 0 := fun j ej => hz j (hE.2 j ej)
      simp only [hL, decide_true, Bool.true_and]
      by_cases c : (x.is_.length : Int) = 2
      · rw [if_pos c, if_pos ⟨Int.le_refl _, by omega⟩, if_pos ⟨by omega, by omega⟩]
        have hany : (pre.any (twin x)) = (mget S (twoV x)).getD false := by
          rw [Bool.eq_iff_iff, hS, List.any_eq_true]
          constructor
          · rintro ⟨y, hy, ht⟩
            simp only [twin, Bool.and_eq_true, decide_eq_true_eq] at ht
            exact ⟨y, hy, ht.1.1.2, ((twoV_eq x y).2 ⟨ht.1.2, ht.2⟩).symm⟩
          · rintro ⟨y, hy, hy2, ht⟩
            have := (twoV_eq x y).1 ht.symm
            exact ⟨y, hy, by simp [twin, c, hy2, this.1, this.2]⟩
        rw [hany]
        cases c2 : (mget S (twoV x)).getD false with
        | true => exact ⟨(pre.length : Int), by rw [show (#v[rd x.is_ 0, rd x.is_ 1] : Vector Int 2) = twoV x from rfl, if_pos c2], .inr ⟨by simp, by omega⟩⟩
        | false =>
          rw [show (#v[rd x.is_ 0, rd x.is_ 1] : Vector Int 2) = twoV x from rfl, if_neg (by simp [c2])]
          simp only [Bool.not_false, Bool.true_and]
          refine ih (mput S (twoV x) true, M') hM' hz' fun v => ?_
          show (mget (mput S (twoV x) true) v).getD false = true ↔ _
          rw [mget_put]
          by_cases c3 : v = twoV x
          · rw [if_pos c3]; simp only [Option.getD_some, true_iff]; exact ⟨x, by simp, c, c3.symm⟩
          · rw [if_neg c3, hS]
            constructor
            · rintro ⟨y, hy, h3⟩; exact ⟨y, by simp [hy], h3⟩
            · rintro ⟨y, hy, h3, h4⟩
              rcases List.mem_append.1 hy with hy | hy
              · exact ⟨y, hy, h3, h4⟩
              · rw [List.mem_singleton.1 hy] at h4; exact absurd h4.symm c3
      · rw [if_neg c]
        have hany : pre.any (twin x) = false := by
          rw [List.any_eq_false]; intro y _; simp [twin, c]
        rw [hany]
        simp only [Bool.not_false, Bool.true_and]
        refine ih (S, M') hM' hz' fun v => ?_
        show (mget S v).getD false = true ↔ _
        rw [hS]
        constructor
        · rintro ⟨y, hy, h3⟩; exact ⟨y, by simp [hy], h3⟩
        · rintro ⟨y, hy, h3, h4⟩
          rcases List.mem_append.1 hy with hy | hy
          · exact ⟨y, hy, h3, h4⟩
          · rw [List.mem_singleton.1 hy] at h3; exact absurd h3 c
theorem book_whole_eq {D : List Chs} (h : Dok D) : ∃ r, book_whole.f D = some r ∧ Says r (goodB D [] D) := by
  have hl : D.length ≤ bigN := by have := h.len; unfold bigN; omega
  unfold book_whole.f
  refine loop_ind (fun k i (s : Mem) => book_whole.l2 k D s i) D
    (fun pre t s o => (∀ c, mget s c = none → ∀ x ∈ pre, x.lo ≠ c) → (∀ c j, mget s c = some j → 0 ≤ j ∧ j < (D.length : Int) ∧ (rd D j).lo = c) → ∃ r, o = some r ∧ Says r (goodB D [] D))
    ?_ ?_ [] K0 (ltK hl) (fun c _ x hx => by cases hx) (fun c j hj => by cases hj)
  · intro M k h1 h2
    simp only [book_whole.l2, if_neg (show ¬ (D.length : Int) < (D.length : Int) by omega)]
    exact book_whole1 h fun c => ⟨fun e => Dok.none (D := D) h.one (h1 c e), fun j e => h2 c j e⟩
  · intro pre x t M k e ih h1 h2
    obtain ⟨h3, h4⟩ := mid e
    simp only [book_whole.l2, if_pos h4.2, if_pos h4, h3, nxt hl e]
    refine ih _ ?_ ?_
    · intro c hc y hy
      rw [mget_put] at hc
      by_cases c1 : c = x.lo
      · rw [if_pos c1] at hc; cases hc
      · rw [if_neg c1] at hc
        rcases List.mem_append.1 hy with hy | hy
        · exact h1 c hc y hy
        · rw [List.mem_singleton.1 hy]; exact fun h => c1 h.symm
    · intro c j hj
      rw [mget_put] at hj
      by_cases c1 : c = x.lo
      · rw [if_pos c1] at hj
        have : (pre.length : Int) = j := by simpa using hj
        subst this
        exact ⟨h4.1, h4.2, by rw [h3, c1]⟩
      · rw [if_neg c1] at hj; exact h2 c j hj
end Go.Proofs.YthoicbafdanmkaaGreatDoor
/- Plain laws, seventh part: what is a sound book; the book's own check and the reference's. Own work of this repo. -/
namespace Go.Proofs.YthoicbafdanmkaaGreatDoor
open Go.RowKit

structure Few (b : Bk) : Prop where
  names : b.names.length ≤ bigN
  status : b.status.length ≤ bigN
  maps : b.maps.length ≤ bigN
  class_ : b.class_.length ≤ bigN
  decomp : b.decomp.length ≤ bigN
  excl : b.excl.length ≤ bigN
  bidi : b.bidi.length ≤ bigN
  join : b.join.length ≤ bigN
  marks : b.marks.length ≤ bigN
  script : b.script.length ≤ bigN
  like : b.like.length ≤ bigN
  mapsI : ∀ x ∈ b.maps, x.is_.length ≤ bigN
  decompI : ∀ x ∈ b.decomp, x.is_.length ≤ bigN
  likeI : ∀ x ∈ b.like, x.is_.length ≤ bigN
def numB (a b : Int) (l : List Val) : Bool := rowsB (·.lo) (·.hi) (fun x : Val => decide (a ≤ x.n) && decide (x.n ≤ b)) l
def claB (a b : Int) (l : List Val) : Bool := rowsB (·.lo) (·.hi) (fun x : Val => decide (a ≤ x.n) && decide (x.n ≤ b) && !touchB x.lo x.hi) l
def stMay (x : Val) : Bool := decide (1 ≤ x.n) && decide (x.n ≤ 3)
def okB (b : Bk) : Bool :=
  namesB b.names && (numB 1 3 b.status && (rowsB (·.lo) (·.hi) (mapB b.status) b.maps && (claB 1 254 b.class_ && (rowsB (·.lo) (·.hi) decompB b.decomp &&
  (rowsB (·.lo) (·.hi) (fun x : Spn => !touchB x.lo x.hi) b.excl && (numB 0 22 b.bidi && (numB 0 5 b.join && (rowsB (·.lo) (·.hi) (fun _ : Spn => true) b.marks &&
  (numB 1 (b.names.length : Int) b.script && (rowsB (·.lo) (·.hi) (fun x : Chs => charsB x.is_ 1 18) b.like && goodB b.decomp [] b.decomp))))))))))
theorem Says.cases' {r : Int} {w : Bool} (h : Says r w) : (w = false ∧ 0 ≤ r) ∨ (w = true ∧ ¬ 0 ≤ r) := by
  rcases h with ⟨rfl, rfl⟩ | ⟨rfl, h⟩
  · exact .inr ⟨rfl, by decide⟩
  · exact .inl ⟨rfl, h⟩
theorem one_check {w w' : Bool} {p : Wh} {r : Int} {o o' : Option (Wh × Int)} (hs : Says r w) (h : w = true → ∃ p, o' = some (p, if w' then 0 else 100)) (e : o = if 0 ≤ r then some (p, 100) else o') :
    ∃ p, o = some (p, if w && w' then 0 else 100) := by
  rcases hs.cases' with ⟨rfl, hr⟩ | ⟨rfl, hr⟩
  · exact ⟨p, by rw [e, if_pos hr]; rfl⟩
  · obtain ⟨q, hq⟩ := h rfl
    exact ⟨q, by rw [e, if_neg hr, hq]; rfl⟩
theorem book_check_eq (b : Bk) : ∃ p, book_Check.f b = some (p, if okB b then 0 else 100) := by
  unfold book_Check.f okB
  obtain ⟨r1, e1, s1⟩ := names_eq b.names
  rw [book_Check_4_mae.f, e1]
  refine one_check s1 (fun h1 => ?_) rfl
  obtain ⟨r2, e2, s2⟩ := rise_val 1 3 b.status
  rw [book_Check_5_ion.f, show book_values_bpe.f b.status 1 3 = some r2 from by first | exact e2 | (simp only [book_values_bpe.f, book_values_pcd.f, e2]; rfl)]
  refine one_check s2 (fun h2 => ?_) rfl
  have hst : b.status.length ≤ bigN ∧ okRows (·.lo) (·.hi) stMay (-1) b.status = true := by
    simp only [numB, rowsB, Bool.and_eq_true, decide_eq_true_eq] at h2
    exact ⟨by unfold bigN; omega, h2.2⟩
  obtain ⟨r3, e3, s3⟩ := rise_maps b ⟨_, hst.2⟩ hst.1
  rw [book_Check_6_mae.f, show book_apart.f (⟨b.names, b.status, b.maps, b.class_, b.decomp, b.excl, b.bidi, b.join, b.marks, b.script, b.like⟩ : Bk) = some r3 from by first | exact e3 | (simp only [book_values_bpe.f, book_values_pcd.f, e3]; rfl)]
  refine one_check s3 (fun _ => ?_) rfl
  obtain ⟨r4, e4, s4⟩ := rise_plain 1 254 b.class_
  rw [book_Check_7_hpj.f, show book_values_pcd.f b.class_ 1 254 = some r4 from by first | exact e4 | (simp only [book_values_bpe.f, book_values_pcd.f, e4]; rfl)]
  refine one_check s4 (fun _ => ?_) rfl
  obtain ⟨r5, e5, s5⟩ := rise_decomp b.decomp
  rw [book_Check_8_hpj.f, e5]
  refine one_check s5 (fun h5 => ?_) rfl
  obtain ⟨r6, e6, s6⟩ := rise_excl b.excl
  rw [book_Check_9_hpj.f, e6]
  refine one_check s6 (fun _ => ?_) rfl
  obtain ⟨r7, e7, s7⟩ := rise_val 0 22 b.bidi
  rw [book_Check_10_ion.f, show book_directions.f = some _ from rfl, Option.bind_some, show (IntKind.i64.wrap _ : Int) = 22 from by rw [w64 (by simp) (by simp)]; rfl, show book_values_bpe.f b.bidi 0 22 = some r7 from by first | exact e7 | (simp only [book_values_bpe.f, book_values_pcd.f, e7]; rfl)]
  refine one_check s7 (fun _ => ?_) rfl
  obtain ⟨r8, e8, s8⟩ := rise_val 0 5 b.join
  rw [book_Check_11_ion.f, show book_joinings.f = some _ from rfl, Option.bind_some, show (IntKind.i64.wrap _ : Int) = 5 from by rw [w64 (by simp) (by simp)]; rfl, show book_values_bpe.f b.join 0 5 = some r8 from by first | exact e8 | (simp only [book_values_bpe.f, book_values_pcd.f, e8]; rfl)]
  refine one_check s8 (fun _ => ?_) rfl
  obtain ⟨r9, e9, s9⟩ := rise_marks b.marks
  rw [book_Check_12_ion.f, e9]
  refine one_check s9 (fun _ => ?_) rfl
  obtain ⟨r10, e10, s10⟩ := rise_val 1 (b.names.length : Int) b.script
  rw [book_Check_13_ion.f, show book_values_bpe.f b.script 1 _ = some r10 from by first | exact e10 | (simp only [book_values_bpe.f, book_values_pcd.f, e10]; rfl)]
  refine one_check s10 (fun _ => ?_) rfl
  obtain ⟨r11, e11, s11⟩ := rise_like b.like
  rw [book_Check_14_gdi.f, e11]
  refine one_check s11 (fun _ => ?_) rfl
  obtain ⟨r12, e12, s12⟩ := book_whole_eq (Dok.mk' h5)
  rw [book_Check_15_mae.f, e12]
  obtain ⟨p, hp⟩ := one_check (w' := true) (o' := some ((⟨0, 0⟩ : Wh), 0)) s12 (fun _ => ⟨_, rfl⟩) rfl
  exact ⟨p, by rw [Bool.and_true] at hp; exact hp⟩
end Go.Proofs.YthoicbafdanmkaaGreatDoor
/- Plain laws, ninth part: a block of a staged table is laid from its rows. Own work of this repo. -/
namespace Go.Proofs.YthoicbafdanmkaaGreatDoor
open Go.RowKit

theorem loop_to {σ β : Type} (L : Nat → Int → σ → Option β) (hi : Int) (Spec : Int → σ → Option β → Prop)
    (hend : ∀ s k, Spec hi s (L (k + 1) hi s))
    (hstep : ∀ i s k, i < hi → (∀ s', Spec (i + 1) s' (L k (i + 1) s')) → Spec i s (L (k + 1) i s)) :
    ∀ (n : Nat) i s k, hi = i + n → n < k → Spec i s (L k i s) := by
  intro n
  induction n with
  | zero =>
    intro i s k e hk
    obtain ⟨k, rfl⟩ : ∃ j, k = j + 1 := ⟨k - 1, by omega⟩
    have : hi = i := by omega
    subst this
    exact hend s k
  | succ n ih =>
    intro i s k e hk
    obtain ⟨k, rfl⟩ : ∃ j, k = j + 1 := ⟨k - 1, by omega⟩
    exact hstep i s k (by omega) fun s' => ih (i + 1) s' k (by omega) (by omega)
def inB (p : Int) (x : Val) : Bool := decide (x.lo ≤ p) && decide (p ≤ x.hi)
def valAt : List Val → Int → Int
  | [], _ => 0
  | x :: t, p => if inB p x = true then x.n else valAt t p
theorem valAt_none {p : Int} : ∀ {l : List Val}, (∀ x ∈ l, inB p x = false) → valAt l p = 0
  | [], _ => rfl
  | x :: t, h => by
    rw [valAt, if_neg (by rw [h x (List.mem_cons_self ..)]; decide)]
    exact valAt_none fun y hy => h y (List.mem_cons_of_mem _ hy)
theorem valAt_skip {p : Int} {b : List Val} : ∀ {a : List Val}, (∀ x ∈ a, inB p x = false) → valAt (a ++ b) p = valAt b p
  | [], _ => rfl
  | x :: t, h => by
    rw [List.cons_append, valAt, if_neg (by rw [h x (List.mem_cons_self ..)]; decide)]
    exact valAt_skip fun y hy => h y (List.mem_cons_of_mem _ hy)
theorem valAt_stop {p : Int} {b : List Val} : ∀ {a : List Val}, (∀ x ∈ b, inB p x = false) → valAt (a ++ b) p = valAt a p
  | [], h => valAt_none h
  | x :: t, h => by
    rw [List.cons_append, valAt, valAt, valAt_stop (a := t) h]
theorem okRows_ord {α : Type} {lo hi : α → Int} {may : α → Bool} : ∀ {a : List α} {last : Int} {x : α} {t : List α}, okRows lo hi may last (a ++ x :: t) = true →
    (∀ y ∈ a, hi y < lo x) ∧ (∀ z ∈ t, hi x < lo z) ∧ last < lo x ∧ lo x ≤ hi x ∧ hi x ≤ 1114111 ∧ may x = true
  | [], last, x, t, h => by
    simp only [List.nil_append, okRows, Bool.and_eq_true, decide_eq_true_eq] at h
    obtain ⟨⟨⟨⟨h1, h2⟩, h3⟩, h4⟩, h5⟩ := h
    exact ⟨fun y hy => (by cases hy), fun z hz => (okRows_lt h5 z hz).1, h1, h2, h3, h4⟩
  | y :: a, last, x, t, h => by
    simp only [List.cons_append, okRows, Bool.and_eq_true, decide_eq_true_eq] at h
    obtain ⟨⟨⟨⟨h1, h2⟩, h3⟩, h4⟩, h5⟩ := h
    have g := okRows_ord h5
    obtain ⟨g1, g2, g3, g4, g5, g6⟩ := g
    refine ⟨fun z hz => ?_, g2, by omega, g4, g5, g6⟩
    rcases List.mem_cons.1 hz with rfl | hz
    · exact g3
    · exact g1 z hz
theorem sub_suf {α : Type} {xs pre t : List α} (e : xs = pre ++ t) : sub xs (pre.length : Int) (xs.length : Int) = t := by
  subst e
  rw [sub, Int.toNat_natCast, Int.toNat_natCast, List.take_length, List.drop_left]
theorem vg_vset {m : Nat} (y : Vector Int m) {i j : Int} (z : Int) (hi0 : 0 ≤ i) (hi1 : i < (m : Int)) (hj0 : 0 ≤ j) (hj1 : j < (m : Int)) : vg (vset y i z) j = if i = j then z else vg y j := by
  have h1 : i.toNat < m := by omega
  have h2 : j.toNat < m := by omega
  simp only [vg, vset, Vector.toList, List.getD_eq_getElem?_getD, Array.getElem?_toList, Array.getElem?_setIfInBounds]
  by_cases c : i = j
  · simp [c, h2]
  · rw [if_neg c, if_neg (by omega)]
theorem vg_zero {m : Nat} {j : Int} : vg (Vector.replicate m (0 : Int)) j = 0 := by
  simp only [vg, List.getD_eq_getElem?_getD]
  by_cases c : j.toNat < m
  · simp [c]
  · simp [c]
def rowMay (x : Val) : Bool := decide (0 ≤ x.n) && decide (x.n ≤ 65535)
def RowsOk (l : List Val) : Prop := l.length ≤ 65536 ∧ okRows (·.lo) (·.hi) rowMay (-1) l = true
abbrev Blk := Vector Int 128
def blank : Blk := Vector.replicate 128 0
def Holds (v : Blk) (l : List Val) (p : Int) : Prop := ∀ j : Int, 0 ≤ j → j < 128 → vg v j = valAt l (p + j)
theorem stage_check_eq {l : List Val} (h : RowsOk l) : stage_check.f l = some (0, 0) := by
  have hl : l.length ≤ bigN := by have := h.1; unfold bigN; omega
  unfold stage_check.f
  rw [if_neg (by have := h.1; omega)]
  exact loop_ind (fun k i last => stage_check.l1 k l last i) l (fun pre t last o => okRows (·.lo) (·.hi) rowMay last t = true → o = some (0, 0))
    (fun s k _ => by simp only [stage_check.l1, if_neg (show ¬ (l.length : Int) < (l.length : Int) by omega)])
    (fun pre x t s k e ih hs => by
      obtain ⟨h1, h2⟩ := mid e
      simp only [okRows, rowMay, Bool.and_eq_true, decide_eq_true_eq] at hs
      obtain ⟨⟨⟨⟨g1, g2⟩, g3⟩, g4, g5⟩, g6⟩ := hs
      simp only [stage_check.l1, if_pos h2.2, if_pos h2, h1, stage_check.j2, stage_check.j1, nxt hl e]
      rw [if_neg (by omega), if_neg (by omega), if_neg (by simp; omega), if_neg (by omega), if_neg (by simp; omega)]
      exact ih x.hi g6) (-1) K0 (ltK hl) h.2
structure Past (l : List Val) (k p : Int) where
  done : List Val
  rest : List Val
  eq : l = done ++ rest
  len : k = (done.length : Int)
  old : ∀ x ∈ done, x.hi < p
theorem lay_row (go : Blk → Bool → Int → Option (Bool × Int × Blk)) (l done rest : List Val) (p i : Int) (x : Val) (v : Blk) (hp : 0 ≤ p) (hp1 : p ≤ 1113984) (el : l = done ++ rest) (ei : rd rest i = x)
    (hx0 : p ≤ x.hi) (hx1 : x.lo ≤ p + 127) (hx2 : x.lo ≤ x.hi) (hx3 : 0 ≤ x.lo) (hx4 : x.hi ≤ 1114111) (hn : 0 ≤ x.n ∧ x.n ≤ 65535) (hi : IntKind.i64.wrap (i + 1) = i + 1) :
    ∃ v', stage_lay_fod.l1 go K0 l p (done.length : Int) i v (max x.lo p) = go v' true (i + 1) ∧ ∀ j : Int, 0 ≤ j → j < 128 → vg v' j = if inB (p + j) x = true then x.n else vg v j := by
  have hs : sub l (done.length : Int) (l.length : Int) = rest := sub_suf el
  have hlast : IntKind.i32.wrap ((IntKind.i32.wrap (p + 128)) - 1) = p + 127 := by rw [w32 (x := p + 128) (by omega) (by omega), w32 (by omega) (by omega)]; omega
  have hstart : max x.lo p ≤ min x.hi (p + 127) := by omega
  have := loop_to (fun k q v => stage_lay_fod.l1 go k l p (done.length : Int) i v q) (min x.hi (p + 127) + 1)
    (fun q (w : Blk) o => max x.lo p ≤ q → (∀ j : Int, 0 ≤ j → j < 128 → vg w j = if max x.lo p ≤ p + j ∧ p + j < q then x.n else vg v j) →
      ∃ v', o = go v' true (i + 1) ∧ ∀ j : Int, 0 ≤ j → j < 128 → vg v' j = if inB (p + j) x = true then x.n else vg v j)
    (fun w k _ hw => by
      simp only [stage_lay_fod.l1, hs, ei, hlast]
      rw [if_neg (by omega), hi]
      refine ⟨w, rfl, fun j h0 h1 => ?_⟩
      rw [hw j h0 h1]
      simp only [inB, Bool.and_eq_true, decide_eq_true_eq]
      by_cases c : x.lo ≤ p + j ∧ p + j ≤ x.hi
      · rw [if_pos c, if_pos (by omega)]
      · rw [if_neg c, if_neg (by omega)])
    (fun q w k hq ih hq0 hw => by
      simp only [stage_lay_fod.l1, hs, ei, hlast]
      rw [if_pos (by omega), w32 (x := q - p) (by omega) (by omega), if_pos ⟨by omega, by omega⟩, w16 hn.1 (by omega), w32 (x := q + 1) (by omega) (by omega)]
      refine ih _ (by omega) fun j h0 h1 => ?_
      rw [vg_vset w x.n (by omega) (by omega) h0 (by omega), hw j h0 h1]
      by_cases c : q - p = j
      · rw [if_pos c, if_pos (by omega)]
      · rw [if_neg c]
        by_cases c2 : max x.lo p ≤ p + j ∧ p + j < q
        · rw [if_pos c2, if_pos (by omega)]
        · rw [if_neg c2, if_neg (by omega)])
    (min x.hi (p + 127) + 1 - max x.lo p).toNat (max x.lo p) v K0 (by omega) (by unfold K0; omega) (Int.le_refl _)
    (fun j h0 h1 => by rw [if_neg (by omega)])
  exact this
end Go.Proofs.YthoicbafdanmkaaGreatDoor
/- Plain laws, tenth part: a whole block, all blocks, a table, and what it tells. Own work of this repo. -/
namespace Go.Proofs.YthoicbafdanmkaaGreatDoor
open Go.RowKit

def blkAt (v0 : Blk) (l : List Val) (p : Int) (o : Option (Bool × Int × Blk)) : Prop :=
  ∃ any v' done' rest', o = some (any, (done'.length : Int), v') ∧ l = done' ++ rest' ∧ (∀ x ∈ done', x.hi < p) ∧ Holds v' l p ∧ (any = false → v' = v0)
theorem lay_in (l done rest : List Val) (p : Int) (hl : RowsOk l) (hp : 0 ≤ p) (hp1 : p ≤ 1113984) (el : l = done ++ rest) (hd : ∀ x ∈ done, x.hi < p) (hr : ∀ x, rest.head? = some x → ¬ x.hi < p) :
    blkAt blank l p (stage_lay_fod.l2 K0 l p (done.length : Int) blank false 0) := by
  have hb : l.length ≤ bigN := by have := hl.1; unfold bigN; omega
  have hrl : rest.length ≤ bigN := by rw [el] at hb; simp at hb; omega
  have hs : sub l (done.length : Int) (l.length : Int) = rest := sub_suf el
  have hlast : IntKind.i32.wrap ((IntKind.i32.wrap (p + 128)) - 1) = p + 127 := by rw [w32 (x := p + 128) (by omega) (by omega), w32 (by omega) (by omega)]; omega
  have hdn : ∀ (b : List Val) (j : Int), 0 ≤ j → valAt (done ++ b) (p + j) = valAt b (p + j) := fun b j h0 => valAt_skip fun x hx => by
    have := hd x hx
    simp [inB, show ¬ p + j ≤ x.hi by omega]
  refine loop_ind (fun k i (s : Blk × Bool) => stage_lay_fod.l2 k l p (done.length : Int) s.1 s.2 i) rest
    (fun pre t s o => Holds s.1 pre p → (s.2 = false → s.1 = blank) → blkAt blank l p o) ?_ ?_ (blank, false) K0 (ltK hrl) (fun j _ _ => by rw [valAt]; exact vg_zero) (fun _ => rfl)
  · intro ⟨v, any⟩ k hv ha
    simp only [stage_lay_fod.l2, hs, stage_lay_fod.j1]
    rw [if_neg (by omega)]
    exact ⟨any, v, done, rest, rfl, el, hd, fun j h0 h1 => by rw [el, hdn _ _ h0]; exact hv j h0 h1, ha⟩
  · intro pre x t ⟨v, any⟩ k e ih hv ha
    simp only at hv ha
    obtain ⟨h1, h2⟩ := mid e
    have e2 : l = (done ++ pre) ++ x :: t := by rw [el, e]; simp
    have hok := hl.2
    rw [e2] at hok
    obtain ⟨g1, g2, g3, g4, g5, g6⟩ := okRows_ord hok
    simp only [rowMay, Bool.and_eq_true, decide_eq_true_eq] at g6
    simp only [stage_lay_fod.l2, hs, h1, hlast, stage_lay_fod.j1]
    rw [if_pos h2.2, if_pos h2]
    by_cases c : p + 127 < x.lo
    · rw [if_pos c]
      refine ⟨any, v, done, rest, rfl, el, hd, fun j h0 h1 => ?_, ha⟩
      rw [el, hdn _ _ h0, e, valAt_stop (fun y hy => ?_)]
      · exact hv j h0 h1
      · rcases List.mem_cons.1 hy with rfl | hy
        · simp [inB, show ¬ y.lo ≤ p + j by omega]
        · have := g2 y hy
          simp [inB, show ¬ y.lo ≤ p + j by omega]
    · rw [if_neg c]
      have hx0 : p ≤ x.hi := by
        cases pre with
        | nil => have := hr x (by rw [e]; rfl); omega
        | cons y pre =>
          have h3 := hr y (by rw [e]; rfl)
          have h4 := g1 y (by simp)
          omega
      obtain ⟨v', f1, f2⟩ := lay_row (stage_lay_fod.l2 k l p (done.length : Int)) l done rest p (pre.length : Int) x v hp hp1 el h1 hx0 (by omega) g4 (by omega) g5 g6 (nxt hrl e)
      rw [f1]
      refine ih (v', true) (fun j h0 h1 => ?_) (fun h => by cases h)
      show vg v' j = _
      rw [f2 j h0 h1]
      by_cases c2 : inB (p + j) x = true
      · have : ∀ y ∈ pre, inB (p + j) y = false := fun y hy => by
          have := g1 y (by simp [hy])
          simp only [inB, Bool.and_eq_true, decide_eq_true_eq] at c2
          simp [inB, show ¬ p + j ≤ y.hi by omega]
        rw [if_pos c2, valAt_skip this, valAt, if_pos c2]
      · rw [if_neg c2, valAt_stop (fun y hy => by rw [List.mem_singleton.1 hy]; simpa using c2)]
        exact hv j h0 h1
theorem lay_eq (l : List Val) (p : Int) (hl : RowsOk l) (hp : 0 ≤ p) (hp1 : p ≤ 1113984) : ∀ (rest done : List Val), l = done ++ rest → (∀ x ∈ done, x.hi < p) → blkAt blank l p (stage_lay_fod.f l p (done.length : Int) blank) := by
  have hb : l.length ≤ bigN := by have := hl.1; unfold bigN; omega
  have key : ∀ (rest done : List Val) (k : Nat), rest.length < k → l = done ++ rest → (∀ x ∈ done, x.hi < p) → blkAt blank l p (stage_lay_fod.l3 k blank l p (done.length : Int)) := by
    intro rest
    induction rest with
    | nil =>
      intro done k hk e hd
      obtain ⟨k, rfl⟩ : ∃ j, k = j + 1 := ⟨k - 1, by simp at hk; omega⟩
      have hlen : l.length = done.length := by rw [e]; simp
      simp only [stage_lay_fod.l3, stage_lay_fod.j2]
      rw [if_neg (by omega), if_neg (by decide), if_pos ⟨by omega, by omega, by omega⟩]
      exact lay_in l done [] p hl hp hp1 e hd (fun x hx => by cases hx)
    | cons x t ih =>
      intro done k hk e hd
      obtain ⟨k, rfl⟩ : ∃ j, k = j + 1 := ⟨k - 1, by simp at hk; omega⟩
      obtain ⟨h1, h2⟩ := mid e
      simp only [stage_lay_fod.l3, stage_lay_fod.j2, h1]
      rw [if_pos h2.2, if_pos h2]
      by_cases c : x.hi < p
      · rw [if_pos (by simpa using c), nxt hb e]
        have := ih (done ++ [x]) k (by simp at hk; omega) (by rw [e]; simp) (fun y hy => by
          rcases List.mem_append.1 hy with hy | hy
          · exact hd y hy
          · rw [List.mem_singleton.1 hy]; exact c)
        simpa using this
      · rw [if_neg (by simpa using c), if_pos ⟨by omega, by omega, by omega⟩]
        exact lay_in l done (x :: t) p hl hp hp1 e hd (fun y hy => by simp at hy; subst hy; exact c)
  intro rest done e hd
  exact key rest done K0 (ltK (by rw [e] at hb; simp at hb; omega)) e hd
theorem over_eq (l : List Val) (p : Int) (hl : RowsOk l) (hp : 0 ≤ p) (hp1 : p ≤ 1113984) (rest done : List Val) (e : l = done ++ rest) (hd : ∀ x ∈ done, x.hi < p) :
    ∃ any v' done' rest', stage_Table_Over_1_aek.f p blank none l (done.length : Int) = some (any, v', (done'.length : Int)) ∧ l = done' ++ rest' ∧ (∀ x ∈ done', x.hi < p) ∧ Holds v' l p ∧ (any = false → v' = blank) := by
  obtain ⟨any, v', done', rest', f1, f2, f3, f4, f5⟩ := lay_eq l p hl hp hp1 rest done e hd
  refine ⟨any, v', done', rest', ?_, f2, f3, f4, f5⟩
  rw [stage_Table_Over_1_aek.f, if_neg (by decide), stage_Table_Over_1_aek.j2, f1, Option.bind_some]
  cases any <;> rfl
theorem flat_some (v : Blk) : ∃ w, stage_block_flat_ejg.f v = some w := by
  unfold stage_block_flat_ejg.f
  exact loop_to (fun k i (_ : Unit) => stage_block_flat_ejg.l1 k v i) 128 (fun i _ o => 0 ≤ i → ∃ w, o = some w)
    (fun _ k _ => ⟨true, by simp only [stage_block_flat_ejg.l1]; rw [if_neg (by decide)]⟩)
    (fun i _ k hi ih h0 => by
      simp only [stage_block_flat_ejg.l1]
      rw [if_pos hi, if_pos ⟨h0, by omega⟩, if_pos ⟨by omega, by omega⟩]
      by_cases c : vg v i ≠ vg v 0
      · exact ⟨false, by rw [if_pos c]⟩
      · rw [if_neg c, w64 (by omega) (by omega)]
        exact ih () (by omega)) 128 0 () K0 (by omega) (by unfold K0; omega) (Int.le_refl _)
structure Made where
  flat : List Bool
  blks : List Blk
  seen : List (Blk × Int)
  which : Vector Int 8704
  past : Int
  plain : Int
structure MadeOk (l : List Val) (i : Int) (s : Made) : Prop where
  few : (s.blks.length : Int) ≤ i
  flat : s.flat.length = s.blks.length
  seen : ∀ v j, mget s.seen v = some j → 0 ≤ j ∧ j < (s.blks.length : Int) ∧ rd s.blks j = v
  which : ∀ b : Int, 0 ≤ b → b < i → 0 ≤ vg s.which b ∧ vg s.which b < (s.blks.length : Int) ∧ Holds (rd s.blks (vg s.which b)) l (128 * b)
  plain : 0 ≤ s.plain → s.plain < (s.blks.length : Int) ∧ rd s.blks s.plain = blank
  past : ∃ done rest, l = done ++ rest ∧ s.past = (done.length : Int) ∧ ∀ x ∈ done, x.hi < 128 * i
def TabOk (l : List Val) (T : Tab) : Prop := ∀ b : Int, 0 ≤ b → b < 8704 → 0 ≤ vg T.which b ∧ vg T.which b < (T.unlike.length : Int) ∧ Holds (rd T.unlike (vg T.which b)) l (128 * b)
theorem rd_pre {α : Type} [Inhabited α] {a b : List α} {i : Int} (h0 : 0 ≤ i) (h1 : i < (a.length : Int)) : rd (a ++ b) i = rd a i := by
  unfold rd
  rw [List.getD_eq_getElem?_getD, List.getD_eq_getElem?_getD, List.getElem?_append_left (by omega)]
theorem rd_end {α : Type} [Inhabited α] {a : List α} {x : α} : rd (a ++ [x]) (a.length : Int) = x := by simp [rd]
theorem note_which {l : List Val} {i w : Int} {W : Vector Int 8704} {U U' : List Blk} {v : Blk} (hi0 : 0 ≤ i) (hi1 : i < 8704) (hw0 : 0 ≤ w) (hw1 : w < (U'.length : Int)) (hv : rd U' w = v) (hh : Holds v l (128 * i))
    (hU : ∀ j : Int, 0 ≤ j → j < (U.length : Int) → j < (U'.length : Int) ∧ rd U' j = rd U j)
    (h : ∀ b : Int, 0 ≤ b → b < i → 0 ≤ vg W b ∧ vg W b < (U.length : Int) ∧ Holds (rd U (vg W b)) l (128 * b)) :
    ∀ b : Int, 0 ≤ b → b < i + 1 → 0 ≤ vg (vset W i w) b ∧ vg (vset W i w) b < (U'.length : Int) ∧ Holds (rd U' (vg (vset W i w) b)) l (128 * b) := by
  intro b h0 h1
  rw [vg_vset W w hi0 (by omega) h0 (by omega)]
  by_cases c : i = b
  · rw [if_pos c]
    subst c
    exact ⟨hw0, hw1, by rw [hv]; exact hh⟩
  · rw [if_neg c]
    obtain ⟨a1, a2, a3⟩ := h b h0 (by omega)
    obtain ⟨b1, b2⟩ := hU _ a1 a2
    exact ⟨a1, b1, by rw [b2]; exact a3⟩
theorem made_eq (l : List Val) (hl : RowsOk l) : ∃ T r, stage_made_mbk.f none l 0 = some (some T, r) ∧ TabOk l T := by
  refine loop_to (fun k i (s : Made) => stage_made_mbk.l1 k none l s.flat s.blks blank s.seen s.which s.past s.plain i) 8704
    (fun i s o => 0 ≤ i → MadeOk l i s → ∃ T r, o = some (some T, r) ∧ TabOk l T) ?_ ?_ 8704 0 ⟨[], [], [], Vector.replicate 8704 0, 0, -1⟩ K0 (by omega) (by unfold K0; omega) (Int.le_refl _) ?_
  · intro s k _ h
    refine ⟨⟨s.which, s.blks, s.flat⟩, s.past, ?_, h.which⟩
    show stage_made_mbk.l1 (k + 1) none l s.flat s.blks blank s.seen s.which s.past s.plain 8704 = _
    rw [stage_made_mbk.l1, if_neg (by decide)]
  · intro i s k hi ih h0 h
    obtain ⟨done, rest, e1, e2, e3⟩ := h.past
    have hpi : IntKind.i32.wrap (IntKind.i64.wrap (i * 128)) = 128 * i := by rw [w64 (by omega) (by omega), w32 (by omega) (by omega)]; omega
    obtain ⟨any, v', done', rest', f1, f2, f3, f4, f5⟩ := over_eq l (128 * i) hl (by omega) (by omega) rest done e1 e3
    have hpast : ∃ d r, l = d ++ r ∧ (done'.length : Int) = (d.length : Int) ∧ ∀ x ∈ d, x.hi < 128 * (i + 1) := ⟨done', rest', f2, rfl, fun x hx => by have := f3 x hx; omega⟩
    have hfew := h.few
    have hmost : ∀ n : Nat, (n : Int) ≤ i → n + 1 ≤ most := fun n hn => by unfold most; omega
    have hbl : (Vector.replicate 128 0 : Vector Int 128) = blank := rfl
    show ∃ T r, stage_made_mbk.l1 (k + 1) none l s.flat s.blks blank s.seen s.which s.past s.plain i = some (some T, r) ∧ TabOk l T
    rw [stage_made_mbk.l1, if_pos hi, hpi, e2, f1, Option.bind_some]
    have fin : ∀ (F : List Bool) (U : List Blk) (S : List (Blk × Int)) (w : Int), (U.length : Int) ≤ i + 1 → F.length = U.length → (∀ v j, mget S v = some j → 0 ≤ j ∧ j < (U.length : Int) ∧ rd U j = v) →
        (∀ j : Int, 0 ≤ j → j < (s.blks.length : Int) → j < (U.length : Int) ∧ rd U j = rd s.blks j) → 0 ≤ w → w < (U.length : Int) → rd U w = v' →
        ∃ T r, stage_made_mbk.j2 (stage_made_mbk.l1 k none l) s.which s.plain i (any, v', (done'.length : Int)) F U S w = some (some T, r) ∧ TabOk l T := by
      intro F U S w a1 a2 a3 a4 a5 a6 a7
      rw [stage_made_mbk.j2, if_pos ⟨h0, by omega⟩]
      have hwhich := note_which h0 hi a5 a6 a7 f4 a4 h.which
      cases any with
      | true =>
        rw [if_pos rfl, stage_made_mbk.j1, w64 (x := i + 1) (by omega) (by omega), hbl]
        exact ih ⟨F, U, S, vset s.which i w, (done'.length : Int), s.plain⟩ (by omega) ⟨a1, a2, a3, hwhich, fun hp => by obtain ⟨c1, c2⟩ := h.plain hp; obtain ⟨d1, d2⟩ := a4 _ hp c1; exact ⟨d1, by rw [d2]; exact c2⟩, hpast⟩
      | false =>
        have hv := f5 rfl
        rw [if_neg (by simp), stage_made_mbk.j1, w64 (x := i + 1) (by omega) (by omega), w64 (x := w) (by omega) (by omega)]
        show ∃ T r, stage_made_mbk.l1 k none l F U v' S (vset s.which i w) (done'.length : Int) w (i + 1) = some (some T, r) ∧ TabOk l T
        rw [hv]
        exact ih ⟨F, U, S, vset s.which i w, (done'.length : Int), w⟩ (by omega) ⟨a1, a2, a3, hwhich, fun _ => ⟨a6, by rw [a7, hv]⟩, hpast⟩
    have look : ∃ T r, stage_made_mbk.j3 (stage_made_mbk.l1 k none l) s.flat s.blks s.seen s.which s.plain i (any, v', (done'.length : Int)) false = some (some T, r) ∧ TabOk l T := by
      rw [stage_made_mbk.j3, if_neg (by decide)]
      cases em : mget s.seen v' with
      | none =>
        obtain ⟨w, hw⟩ := flat_some v'
        dsimp only
        rw [if_pos (by rfl), if_pos (show s.blks.length + [v'].length ≤ most from hmost _ hfew), hw, Option.bind_some, if_pos (show s.flat.length + [w].length ≤ most from hmost _ (by rw [h.flat]; exact hfew)), w16 (by omega) (by omega)]
        refine fin _ _ _ _ (by simp; omega) (by simp [h.flat]) (fun v j ej => ?_) (fun j j0 j1 => ⟨by simp; omega, rd_pre j0 j1⟩) (by omega) (by simp; omega) rd_end
        rw [mget_put] at ej
        by_cases c : v = v'
        · rw [if_pos c] at ej
          have : (s.blks.length : Int) = j := by simpa using ej
          subst this
          exact ⟨by omega, by simp; omega, by rw [rd_end, c]⟩
        · rw [if_neg c] at ej
          obtain ⟨c1, c2, c3⟩ := h.seen v j ej
          exact ⟨c1, by simp; omega, by rw [rd_pre c1 c2]; exact c3⟩
      | some w =>
        obtain ⟨c1, c2, c3⟩ := h.seen v' w em
        rw [if_neg (by simp)]
        exact fin _ _ _ _ (by omega) h.flat h.seen (fun j j0 j1 => ⟨j1, rfl⟩) c1 c2 c3
    cases any with
    | true => rw [if_neg (by simp)]; exact look
    | false =>
      rw [if_pos (by rfl)]
      by_cases c : 0 ≤ s.plain
      · obtain ⟨c1, c2⟩ := h.plain c
        have hv := f5 rfl
        rw [stage_made_mbk.j3, if_pos (by simpa using c), if_pos ⟨h0, by omega⟩, stage_made_mbk.j1, w64 (x := i + 1) (by omega) (by omega), w16 c (by omega)]
        show ∃ T r, stage_made_mbk.l1 k none l s.flat s.blks v' s.seen (vset s.which i s.plain) (done'.length : Int) s.plain (i + 1) = some (some T, r) ∧ TabOk l T
        rw [hv]
        rw [hv] at f4
        exact ih ⟨s.flat, s.blks, s.seen, vset s.which i s.plain, (done'.length : Int), s.plain⟩ (by omega) ⟨by show (s.blks.length : Int) ≤ i + 1; omega, h.flat, h.seen, note_which h0 hi c c1 c2 f4 (fun j j0 j1 => ⟨j1, rfl⟩) h.which, h.plain, hpast⟩
      · rw [show decide (0 ≤ s.plain) = false by simpa using c]; exact look
  · exact ⟨by simp, rfl, fun v j e => (by cases e), fun b h0 h1 => (by omega), fun h => absurd h (by decide), [], l, rfl, rfl, fun x hx => (by cases hx)⟩
theorem build_eq (l : List Val) (hl : RowsOk l) : ∃ T, stage_Build.f l = some (some T, 0, 0) ∧ TabOk l T := by
  obtain ⟨T, r, h1, h2⟩ := made_eq l hl
  refine ⟨T, ?_, h2⟩
  rw [stage_Build.f, stage_Table_Over.f, stage_check_eq hl, Option.bind_some, if_neg (by decide), h1]
  rfl
theorem valAt_range {l : List Val} (h : ∀ x ∈ l, 0 ≤ x.n ∧ x.n ≤ 65535) (p : Int) : 0 ≤ valAt l p ∧ valAt l p ≤ 65535 := by
  induction l with
  | nil => simp [valAt]
  | cons x t ih =>
    unfold valAt
    split
    · exact h x (List.mem_cons_self ..)
    · exact ih fun y hy => h y (List.mem_cons_of_mem _ hy)
theorem look_eq {l : List Val} (hl : RowsOk l) {T : Tab} (hT : TabOk l T) (p : Int) (h0 : 0 ≤ p) (h1 : p ≤ 1114111) : stage_Table_Look.f (some T) p = some (valAt l p) := by
  have hq : p.tdiv 128 = p / 128 := Int.tdiv_eq_ediv_of_nonneg h0
  have hm : p.tmod 128 = p % 128 := Int.tmod_eq_emod_of_nonneg h0
  obtain ⟨a1, a2, a3⟩ := hT (p / 128) (by omega) (by omega)
  have hv := a3 (p % 128) (by omega) (by omega)
  rw [show 128 * (p / 128) + p % 128 = p by omega] at hv
  have hr := valAt_range (l := l) (fun x hx => by
    have := (okRows_lt hl.2 x hx).2.2.2
    simpa [rowMay] using this) p
  simp only [stage_Table_Look.f, stage_Table_Look.j1, hq, hm]
  rw [if_neg (by simp), if_neg (by omega), if_neg (by simp; omega), if_pos (by rfl), w32 (by omega) (by omega), if_pos ⟨by omega, by omega⟩]
  simp only [Option.getD_some]
  rw [if_pos ⟨a1, a2⟩, if_pos ⟨by omega, by omega⟩, hv, w64 (by omega) (by omega)]
theorem look_out (T : Option Tab) (p : Int) (h : p < 0 ∨ 1114111 < p) : stage_Table_Look.f T p = some 0 := by
  simp only [stage_Table_Look.f, stage_Table_Look.j1]
  split
  · rfl
  · split
    · rfl
    · rw [if_pos (by simp; omega)]
end Go.Proofs.YthoicbafdanmkaaGreatDoor
/- Plain laws, eleventh part: compiling a book: its copy, its tables; the reference's own copy. Own work of this repo. -/
namespace Go.Proofs.YthoicbafdanmkaaGreatDoor
open Go.RowKit

theorem check_total (l : List Val) : ∃ a e, stage_check.f l = some (a, e) ∧ (e = 0 → RowsOk l) := by
  unfold stage_check.f
  by_cases c : (65536 : Int) < l.length
  · exact ⟨_, _, by rw [if_pos c], fun h => absurd h (by decide)⟩
  · rw [if_neg c]
    have hl : l.length ≤ bigN := by unfold bigN; omega
    have := loop_ind (fun k i last => stage_check.l1 k l last i) l (fun pre t last o => ∃ a e, o = some (a, e) ∧ (e = 0 → okRows (·.lo) (·.hi) rowMay last t = true))
      (fun s k => ⟨0, 0, by simp only [stage_check.l1, if_neg (show ¬ (l.length : Int) < (l.length : Int) by omega)], fun _ => rfl⟩)
      (fun pre x t s k e ih => by
        obtain ⟨h1, h2⟩ := mid e
        simp only [stage_check.l1, if_pos h2.2, if_pos h2, h1, stage_check.j2, stage_check.j1, nxt hl e]
        by_cases c1 : x.lo ≤ s
        · exact ⟨_, 80, by rw [if_pos c1, if_pos True.intro], fun h => absurd h (by decide)⟩
        · rw [if_neg c1]
          by_cases c2 : x.hi < x.lo
          · exact ⟨_, 80, by rw [if_pos c2, if_pos True.intro], fun h => absurd h (by decide)⟩
          · rw [if_neg c2]
            by_cases c3 : 1114111 < x.hi
            · exact ⟨_, 80, by rw [if_pos (by simpa using c3)], fun h => absurd h (by decide)⟩
            · rw [if_neg (by simpa using c3)]
              by_cases c4 : x.n < 0
              · exact ⟨_, 81, by rw [if_pos c4, if_pos True.intro], fun h => absurd h (by decide)⟩
              · rw [if_neg c4]
                by_cases c5 : 65535 < x.n
                · exact ⟨_, 81, by rw [if_pos (by simpa using c5)], fun h => absurd h (by decide)⟩
                · rw [if_neg (by simpa using c5)]
                  obtain ⟨a, e2, h3, h4⟩ := ih x.hi
                  refine ⟨a, e2, h3, fun h => ?_⟩
                  rw [okRows_yes c1 c2 c3 (by simp only [rowMay, Bool.and_eq_true, decide_eq_true_eq]; omega)]
                  exact h4 h) (-1) K0 (ltK hl)
    obtain ⟨a, e, h1, h2⟩ := this
    exact ⟨a, e, h1, fun h => ⟨by omega, h2 h⟩⟩
def TabOf (l : List Val) (T : Option Tab) : Prop := (¬ RowsOk l → T = none) ∧ (RowsOk l → ∃ t, T = some t ∧ TabOk l t)
theorem build_any (l : List Val) : ∃ T x y, stage_Build.f l = some (T, x, y) ∧ TabOf l T := by
  by_cases c : RowsOk l
  · obtain ⟨T, h1, h2⟩ := build_eq l c
    exact ⟨some T, 0, 0, h1, fun h => absurd c h, fun _ => ⟨T, rfl, h2⟩⟩
  · obtain ⟨a, e, h1, h2⟩ := check_total l
    have he : e ≠ 0 := fun h => c (h2 h)
    refine ⟨none, a, e, ?_, fun _ => rfl, fun h => absurd h c⟩
    rw [stage_Build.f, stage_Table_Over.f, h1, Option.bind_some, if_pos he]
    rfl
theorem tab_look {l : List Val} {T : Option Tab} (h : TabOf l T) (hl : RowsOk l) (p : Int) (h0 : 0 ≤ p) (h1 : p ≤ 1114111) : stage_Table_Look.f T p = some (valAt l p) := by
  obtain ⟨t, rfl, ht⟩ := h.2 hl
  exact look_eq hl ht p h0 h1
theorem compile1 (l : List Val) : ∃ T, book_Compile_1.f l = some T ∧ TabOf l T := by
  obtain ⟨T, x, y, h1, h2⟩ := build_any l
  exact ⟨T, by rw [book_Compile_1.f, h1]; rfl, h2⟩
def markF (l : List Spn) : List Val := l.map fun x => ⟨x.lo, x.hi, 1⟩
theorem marked_eq (l : List Spn) (hl : l.length ≤ bigN) : ∃ T, book_marked.f l = some T ∧ TabOf (markF l) T := by
  obtain ⟨T, x, y, h1, h2⟩ := build_any (markF l)
  refine ⟨T, ?_, h2⟩
  refine loop_ind (fun k i s => book_marked.l1 k l s i) l (fun pre t s o => s = markF pre → o = some T) ?_ ?_ [] K0 (ltK hl) rfl
  · intro s k hs
    simp only [book_marked.l1, if_neg (show ¬ (l.length : Int) < (l.length : Int) by omega), hs, h1]
    rfl
  · intro pre x t s k e ih hs
    obtain ⟨h3, h4⟩ := mid e
    have hp : pre.length ≤ bigN := by rw [e] at hl; simp at hl; omega
    simp only [book_marked.l1, if_pos h4.2, if_pos h4, h3, nxt hl e]
    rw [if_pos (by rw [hs, markF, List.length_map]; exact mostle hp (Nat.le_refl _))]
    exact ih _ (by rw [hs]; simp [markF])
def numF : Int → List Chs → List Val
  | _, [] => []
  | i, x :: t => ⟨x.lo, x.hi, i + 1⟩ :: numF (i + 1) t
theorem numF_len : ∀ (i : Int) (l : List Chs), (numF i l).length = l.length
  | _, [] => rfl
  | i, x :: t => by simp [numF, numF_len (i + 1) t]
theorem numF_app : ∀ (i : Int) (a b : List Chs), numF i (a ++ b) = numF i a ++ numF (i + a.length) b
  | i, [], b => by simp [numF]
  | i, x :: a, b => by
    simp only [List.cons_append, numF, numF_app (i + 1) a b, List.length_cons]
    rw [show i + 1 + (a.length : Int) = i + ((a.length + 1 : Nat) : Int) by omega]
theorem numbered_eq (l : List Chs) (hl : l.length ≤ bigN) : ∃ T, book_numbered_api_Chars_fhb.f l = some T ∧ TabOf (numF 0 l) T := by
  obtain ⟨T, x, y, h1, h2⟩ := build_any (numF 0 l)
  refine ⟨T, ?_, h2⟩
  refine loop_ind (fun k i s => book_numbered_api_Chars_fhb.l1 k l s i) l (fun pre t s o => s = numF 0 pre → o = some T) ?_ ?_ [] K0 (ltK hl) rfl
  · intro s k hs
    simp only [book_numbered_api_Chars_fhb.l1, if_neg (show ¬ (l.length : Int) < (l.length : Int) by omega), hs, h1]
    rfl
  · intro pre x t s k e ih hs
    obtain ⟨h3, h4⟩ := mid e
    have hp : pre.length ≤ bigN := by rw [e] at hl; simp at hl; omega
    simp only [book_numbered_api_Chars_fhb.l1, if_pos h4.2, if_pos h4, h3, book_ofChars.f, Option.bind_some, nxt hl e]
    rw [if_pos (by rw [hs, numF_len]; exact mostle hp (Nat.le_refl _))]
    exact ih _ (by rw [hs, numF_app]; simp [numF])
theorem cl_most {α : Type} {n : Nat} (h : n ≤ bigN) : ([] : List α).length + n ≤ most := by unfold bigN at h; unfold most; simp; omega
theorem cl_val (l : List Val) (h : l.length ≤ bigN) : slices_Clone_api_Value_api_Value.f l = some l := by rw [slices_Clone_api_Value_api_Value.f, if_pos (cl_most h)]; rfl
theorem cl_str (l : List ByteArray) (h : l.length ≤ bigN) : slices_Clone_string_string.f l = some l := by rw [slices_Clone_string_string.f, if_pos (cl_most h)]; rfl
theorem cl_chs (l : List Chs) (h : l.length ≤ bigN) : slices_Clone_api_Chars_api_Chars.f l = some l := by rw [slices_Clone_api_Chars_api_Chars.f, if_pos (cl_most h)]; rfl
theorem cl_spn (l : List Spn) (h : l.length ≤ bigN) : slices_Clone_api_Span_api_Span.f l = some l := by rw [slices_Clone_api_Span_api_Span.f, if_pos (cl_most h)]; rfl
theorem cl_int (l : List Int) (h : l.length ≤ bigN) : slices_Clone_rune_rune.f l = some l := by rw [slices_Clone_rune_rune.f, if_pos (cl_most h)]; rfl
theorem own_eq (l : List Chs) (hl : l.length ≤ bigN) (hi : ∀ x ∈ l, x.is_.length ≤ bigN) : book_own.f l = some l := by
  rw [book_own.f, cl_chs l hl, Option.bind_some]
  refine loop_ind (fun k i s => book_own.l1 k l s i) l (fun pre t s o => s = l → o = some l) ?_ ?_ l K0 (ltK hl) rfl
  · intro s k hs
    simp only [book_own.l1, if_neg (show ¬ (l.length : Int) < (l.length : Int) by omega), hs]
  · intro pre x t s k e ih hs
    obtain ⟨h3, h4⟩ := mid e
    rw [hs]
    simp only [book_own.l1, if_pos h4.2, if_pos h4, h3, nxt hl e, cl_int _ (hi x (by rw [e]; simp)), Option.bind_some]
    refine ih _ ?_
    rw [Int.toNat_natCast]
    rw [e]
    simp
theorem copied_eq (b : Bk) (hb : Few b) : book_copied.f b = some b := by
  rw [book_copied.f, cl_str _ hb.names, Option.bind_some, cl_val _ hb.status, Option.bind_some, own_eq _ hb.maps hb.mapsI, Option.bind_some, cl_val _ hb.class_, Option.bind_some,
    own_eq _ hb.decomp hb.decompI, Option.bind_some, cl_spn _ hb.excl, Option.bind_some, cl_val _ hb.bidi, Option.bind_some, cl_val _ hb.join, Option.bind_some, cl_spn _ hb.marks, Option.bind_some,
    cl_val _ hb.script, Option.bind_some, own_eq _ hb.like hb.likeI, Option.bind_some]
structure TabsOf (b : Bk) (t : Tbs) : Prop where
  book : t.b = b
  status : TabOf b.status t.status
  class_ : TabOf b.class_ t.class_
  bidi : TabOf b.bidi t.bidi
  join : TabOf b.join t.join
  script : TabOf b.script t.script
  excl : TabOf (markF b.excl) t.excl
  mark : TabOf (markF b.marks) t.mark
  maps : TabOf (numF 0 b.maps) t.maps
  decomp : TabOf (numF 0 b.decomp) t.decomp
  likes : TabOf (numF 0 b.like) t.likes
  pairs : b.decomp = [] → t.pairs = []
theorem look_some (l : List Val) (T : Option Tab) (h : TabOf l T) (p : Int) : ∃ r, stage_Table_Look.f T p = some r := by
  by_cases c : p < 0 ∨ 1114111 < p
  · exact ⟨_, look_out T p c⟩
  · by_cases hl : RowsOk l
    · exact ⟨_, tab_look h hl p (by omega) (by omega)⟩
    · exact ⟨0, by rw [h.1 hl, stage_Table_Look.f]; simp [stage_Table_Look.j1]⟩
theorem compile_loop (b : Bk) (hb : Dok b.decomp) {T1 T2 T3 T4 T5 T6 T7 T8 T9 T10 : Option Tab} (h2 : TabOf b.class_ T2) (h6 : TabOf (markF b.excl) T6) :
    ∃ ps, book_Compile.l1 K0 b T1 T2 T3 T4 T5 T6 T7 T8 T9 T10 [] 0 = some (some ⟨b, T1, T2, T3, T4, T5, T6, T7, T8, T9, T10, ps⟩, 0) ∧ (b.decomp = [] → ps = []) := by
  by_cases hnil : b.decomp = []
  · refine ⟨[], ?_, fun _ => rfl⟩
    obtain ⟨k, hk⟩ : ∃ k, K0 = k + 1 := ⟨1180591620717411303423, rfl⟩
    rw [hk]
    have hz : ¬ (0 : Int) < (b.decomp.length : Int) := by rw [hnil]; simp
    simp only [book_Compile.l1, if_neg hz]
  suffices h : ∃ ps, book_Compile.l1 K0 b T1 T2 T3 T4 T5 T6 T7 T8 T9 T10 [] 0 = some (some ⟨b, T1, T2, T3, T4, T5, T6, T7, T8, T9, T10, ps⟩, 0) from h.imp fun _ h => ⟨h, fun e => absurd e hnil⟩
  have hl : b.decomp.length ≤ bigN := by have := hb.len; unfold bigN; omega
  refine loop_ind (fun k i s => book_Compile.l1 k b T1 T2 T3 T4 T5 T6 T7 T8 T9 T10 s i) b.decomp
    (fun pre t s o => ∃ ps, o = some (some ⟨b, T1, T2, T3, T4, T5, T6, T7, T8, T9, T10, ps⟩, 0)) ?_ ?_ [] K0 (ltK hl)
  · intro s k
    exact ⟨s, by simp only [book_Compile.l1, if_neg (show ¬ (b.decomp.length : Int) < (b.decomp.length : Int) by omega)]⟩
  · intro pre x t s k e ih
    obtain ⟨h3, h4⟩ := mid e
    obtain ⟨r1, e1⟩ := look_some _ _ h6 x.lo
    obtain ⟨r2, e2⟩ := look_some _ _ h2 x.lo
    obtain ⟨r3, e3⟩ := look_some _ _ h2 (rd x.is_ 0)
    simp only [book_Compile.l1, if_pos h4.2, if_pos h4, h3, book_Compile.j2, book_Compile.j1, nxt hl e, e1, e2, e3, Option.bind_some]
    by_cases c1 : (x.is_.length : Int) = 2
    · rw [if_pos c1]
      by_cases c2 : r1 = 0
      · rw [if_pos c2]
        by_cases c3 : r2 = 0
        · rw [if_pos c3, if_pos ⟨Int.le_refl _, by omega⟩]
          by_cases c4 : r3 = 0
          · rw [if_pos (by simpa using c4), if_pos ⟨by omega, by omega⟩, if_pos ⟨by omega, by omega⟩]; exact ih _
          · rw [if_neg (by simpa using c4)]; exact ih _
        · rw [if_neg c3, if_neg (by decide)]; exact ih _
      · rw [if_neg c2, if_neg (by decide)]; exact ih _
    · rw [if_neg c1, if_neg (by decide)]; exact ih _
theorem okB_decomp {b : Bk} (h : okB b = true) : Dok b.decomp := by
  unfold okB at h
  simp only [Bool.and_eq_true] at h
  exact Dok.mk' h.2.2.2.2.1
theorem compile_eq (b : Bk) (hb : Few b) (h : okB b = true) : ∃ t, book_Compile.f b = some (some t, 0) ∧ TabsOf b t := by
  obtain ⟨p, hp⟩ := book_check_eq b
  rw [h] at hp
  obtain ⟨T1, e1, h1⟩ := compile1 b.status
  obtain ⟨T2, e2, h2⟩ := compile1 b.class_
  obtain ⟨T3, e3, h3⟩ := compile1 b.bidi
  obtain ⟨T4, e4, h4⟩ := compile1 b.join
  obtain ⟨T5, e5, h5⟩ := compile1 b.script
  obtain ⟨T6, e6, h6⟩ := marked_eq b.excl hb.excl
  obtain ⟨T7, e7, h7⟩ := marked_eq b.marks hb.marks
  obtain ⟨T8, e8, h8⟩ := numbered_eq b.maps hb.maps
  obtain ⟨T9, e9, h9⟩ := numbered_eq b.decomp hb.decomp
  obtain ⟨T10, e10, h10⟩ := numbered_eq b.like hb.like
  obtain ⟨ps, hps, hpn⟩ := compile_loop b (okB_decomp h) (T1 := T1) (T3 := T3) (T4 := T4) (T5 := T5) (T7 := T7) (T8 := T8) (T9 := T9) (T10 := T10) h2 h6
  refine ⟨⟨b, T1, T2, T3, T4, T5, T6, T7, T8, T9, T10, ps⟩, ?_, ⟨rfl, h1, h2, h3, h4, h5, h6, h7, h8, h9, h10, hpn⟩⟩
  rw [book_Compile.f, hp, Option.bind_some, if_neg (by simp), copied_eq b hb, Option.bind_some, book_Compile.t10, e1, Option.bind_some, book_Compile.t9, e2, Option.bind_some, book_Compile.t8, e3, Option.bind_some,
    book_Compile.t7, e4, Option.bind_some, book_Compile.t6, e5, Option.bind_some, book_Compile.t5, e6, Option.bind_some, book_Compile.t4, e7, Option.bind_some, book_Compile.t3, e8, Option.bind_some,
    book_Compile.t2, e9, Option.bind_some, book_Compile.t1, e10, Option.bind_some, book_Compile.j3, hps]
end Go.Proofs.YthoicbafdanmkaaGreatDoor
/- Plain laws: what tables say of classes and parts; full decompositions; canon.Decompose. Own work of this repo. -/
namespace Go.Proofs.YthoicbafdanmkaaGreatDoor
open Go.RowKit

structure Tb (t : Option Tbs) (key : Int → Int) (pa : Int → List Int) (n : Nat) : Prop where
  cls : Cls t key
  nn : ∀ p, 0 ≤ key p
  parts : ∀ p, book_Tables_Parts.f t p = some (pa p)
  dep : ∀ c, Lc pa n c ≤ 18
  few : n ≤ bigN
def sylR (c : Int) : Int × Int × Int × Bool := (canon_Syllable.f c).getD default
theorem syl_eq (c : Int) : canon_Syllable.f c = some (sylR c) := by
  have : ∃ r, canon_Syllable.f c = some r := by
    unfold canon_Syllable.f
    simp only [canon_Syllable.j2, canon_Syllable.j1]
    split
    · exact ⟨_, if_pos trivial⟩
    · split
      · exact ⟨_, rfl⟩
      · split <;> exact ⟨_, rfl⟩
  obtain ⟨r, hr⟩ := this
  rw [sylR, hr]; rfl
def sylL (c : Int) : List Int := if (sylR c).2.2.1 = 0 then [(sylR c).1, (sylR c).2.1] else [(sylR c).1, (sylR c).2.1, (sylR c).2.2.1]
def fullN (pa : Int → List Int) : Nat → Int → List Int
  | 0, c => if (sylR c).2.2.2 = true then sylL c else [c]
  | n + 1, c => if (sylR c).2.2.2 = true then sylL c else if pa c = [] then [c] else (pa c).flatMap (fullN pa n)
theorem syl_len (c : Int) : (sylL c).length ≤ 3 := by unfold sylL; split <;> simp
theorem full_len {pa : Int → List Int} : ∀ (n : Nat) (c : Int), Lc pa n c ≤ 18 → ((fullN pa n c).length : Int) ≤ 3 * Lc pa n c
  | 0, c, h => by
    have := Lc_pos pa 0 c
    have := syl_len c
    unfold fullN
    split
    · omega
    · simp; omega
  | n + 1, c, h => by
    have h1 := Lc_pos pa (n + 1) c
    have h2 := syl_len c
    unfold fullN
    split
    · omega
    · split
      · simp; omega
      · rename_i _ e
        rw [Lc, if_neg e] at h ⊢
        have hs : sumI (Lc pa n) (pa c) ≤ 18 := by unfold cap at h; split at h <;> omega
        have hcap : cap (sumI (Lc pa n) (pa c)) = sumI (Lc pa n) (pa c) := by unfold cap; rw [if_neg (by omega)]
        rw [hcap]
        have : ∀ l : List Int, sumI (Lc pa n) l ≤ 18 → ((l.flatMap (fullN pa n)).length : Int) ≤ 3 * sumI (Lc pa n) l := by
          intro l
          induction l with
          | nil => intro _; simp [sumI]
          | cons x l ih =>
            intro hl
            simp only [sumI] at hl ⊢
            have a1 := Lc_pos pa n x
            have a2 : 0 ≤ sumI (Lc pa n) l := by
              have := sumI_len (f := Lc pa n) (l := l) (fun y _ => (Lc_pos pa n y).1)
              omega
            have := full_len (pa := pa) n x (by omega)
            have := ih (by omega)
            simp only [List.flatMap_cons, List.length_append]; omega
        exact this _ hs
theorem full_eq {t : Option Tbs} {key : Int → Int} {pa : Int → List Int} {m : Nat} (h : Tb t key pa m) : ∀ (n : Nat) (c : Int) (k : Nat), Lc pa n c ≤ 18 → n < k → canon_Full.f k t c = some (fullN pa n c) := by
  intro n
  induction n with
  | zero =>
    intro c k hc hk
    obtain ⟨k, rfl⟩ : ∃ j, k = j + 1 := ⟨k - 1, by omega⟩
    rw [canon_Full.f, canon_Full.b, syl_eq, Option.bind_some, fullN]
    by_cases s1 : (sylR c).2.2.2 = true
    · rw [if_pos s1, if_pos s1, sylL]; split <;> rfl
    · have e : pa c = [] := by
        by_cases e : pa c = []
        · exact e
        · simp [Lc, e] at hc
      rw [if_neg s1, if_neg s1, h.parts c, Option.bind_some, e, if_pos (by simp)]
  | succ n ih =>
    intro c k hc hk
    obtain ⟨k, rfl⟩ : ∃ j, k = j + 1 := ⟨k - 1, by omega⟩
    rw [canon_Full.f, canon_Full.b, syl_eq, Option.bind_some, fullN]
    by_cases s1 : (sylR c).2.2.2 = true
    · rw [if_pos s1, if_pos s1, sylL]; split <;> rfl
    · rw [if_neg s1, if_neg s1, h.parts c, Option.bind_some]
      by_cases e : pa c = []
      · rw [if_pos e, e, if_pos (by simp)]
      · rw [if_neg e, if_neg (by have := List.length_pos_iff.2 e; omega)]
        rw [Lc, if_neg e] at hc
        have hs : sumI (Lc pa n) (pa c) ≤ 18 := by unfold cap at hc; split at hc <;> omega
        have hl : ((pa c).length : Int) ≤ 18 := by
          have := sumI_len (f := Lc pa n) (l := pa c) (fun y _ => (Lc_pos pa n y).1)
          omega
        have hk1 : ∀ x ∈ pa c, Lc pa n x ≤ 18 := fun x hx => by
          have := sumI_ge (f := Lc pa n) (l := pa c) (fun y _ => (Lc_pos pa n y).1) x hx
          omega
        have key : ∀ (l acc : List Int) (pre : List Int) (q : Nat), pa c = pre ++ l → l.length < q → acc.length + 54 * l.length ≤ 5400 → canon_Full.l1 q (canon_Full.f k) t (pa c) acc (pre.length : Int) = some (acc ++ l.flatMap (fullN pa n)) := by
          intro l
          induction l with
          | nil =>
            intro acc pre q e1 hq ha
            obtain ⟨q, rfl⟩ : ∃ j, q = j + 1 := ⟨q - 1, by omega⟩
            have : (pa c).length = pre.length := by rw [e1]; simp
            simp only [canon_Full.l1, this, if_neg (show ¬ (pre.length : Int) < (pre.length : Int) by omega)]
            simp
          | cons x l ihl =>
            intro acc pre q e1 hq ha
            obtain ⟨q, rfl⟩ : ∃ j, q = j + 1 := ⟨q - 1, by omega⟩
            simp only [List.length_cons] at hq ha
            obtain ⟨m1, m2⟩ := mid e1
            have hx := hk1 x (by rw [e1]; simp)
            have hfl := full_len n x hx
            have hlen : (pa c).length ≤ bigN := by unfold bigN; omega
            simp only [canon_Full.l1, if_pos m2.2, if_pos m2, m1, ih x k hx (by omega), Option.bind_some, nxt hlen e1]
            rw [if_pos (by unfold most; omega)]
            have := ihl (acc ++ fullN pa n x) (pre ++ [x]) q (by rw [e1]; simp) (by omega) (by simp; omega)
            have e2 : ((pre ++ [x]).length : Int) = (pre.length : Int) + 1 := by simp
            rw [e2] at this
            rw [this]; simp
        have := key (pa c) [] [] K0 rfl (ltK (by unfold bigN; omega)) (by simp; omega)
        simpa using this
theorem parts_eq {t : Option Tbs} {key : Int → Int} {pa : Int → List Int} {n : Nat} (h : Tb t key pa n) (l : List Int) (hl : 54 * l.length ≤ bigN) : canon_parts.f t l = some (l.flatMap (fullN pa n)) := by
  have key : ∀ (r acc pre : List Int) (q : Nat), l = pre ++ r → r.length < q → acc.length + 54 * r.length ≤ bigN → canon_parts.l1 q t l acc (pre.length : Int) = some (acc ++ r.flatMap (fullN pa n)) := by
    intro r
    induction r with
    | nil =>
      intro acc pre q e1 hq ha
      obtain ⟨q, rfl⟩ : ∃ j, q = j + 1 := ⟨q - 1, by omega⟩
      have : l.length = pre.length := by rw [e1]; simp
      simp only [canon_parts.l1, this, if_neg (show ¬ (pre.length : Int) < (pre.length : Int) by omega)]
      simp
    | cons x r ihl =>
      intro acc pre q e1 hq ha
      obtain ⟨q, rfl⟩ : ∃ j, q = j + 1 := ⟨q - 1, by omega⟩
      simp only [List.length_cons] at hq ha
      obtain ⟨m1, m2⟩ := mid e1
      have hx := h.dep x
      have hfl := full_len n x hx
      have hlen : l.length ≤ bigN := by omega
      have hbig := ha
      unfold bigN at hbig
      simp only [canon_parts.l1, if_pos m2.2, if_pos m2, m1, full_eq h n x K0 hx (ltK h.few), Option.bind_some, nxt hlen e1]
      rw [if_pos (by unfold most; omega)]
      have := ihl (acc ++ fullN pa n x) (pre ++ [x]) q (by rw [e1]; simp) (by omega) (by simp; omega)
      have e2 : ((pre ++ [x]).length : Int) = (pre.length : Int) + 1 := by simp
      rw [e2] at this
      rw [this]; simp
  have := key l [] [] K0 rfl (ltK (by omega)) (by simpa using hl)
  simpa [canon_parts.f] using this
theorem flat_len {t : Option Tbs} {key : Int → Int} {pa : Int → List Int} {n : Nat} (h : Tb t key pa n) : ∀ (l : List Int), (l.flatMap (fullN pa n)).length ≤ 54 * l.length
  | [] => by simp
  | x :: l => by
    have := flat_len h l
    have := full_len n x (h.dep x)
    have := h.dep x
    simp only [List.flatMap_cons, List.length_append, List.length_cons]; omega
theorem decompose_eq {t : Option Tbs} {key : Int → Int} {pa : Int → List Int} {n : Nat} (h : Tb t key pa n) (l : List Int) (hl : 54 * l.length ≤ bigN) : canon_Decompose.f t l = some (ordL key (l.flatMap (fullN pa n))) := by
  have := flat_len h l
  rw [canon_Decompose.f, parts_eq h l hl, Option.bind_some, order_eq h.cls _ (by omega)]; rfl
end Go.Proofs.YthoicbafdanmkaaGreatDoor
/- Plain laws: two lists, compared. Own work of this repo. -/
namespace Go.Proofs.YthoicbafdanmkaaGreatDoor
open Go.RowKit

theorem runes_eq (a b : List Int) (hb : a.length ≤ bigN) : ref10_Runes.f a b = some (decide (a = b)) := by
  unfold ref10_Runes.f
  by_cases c : (a.length : Int) = (b.length : Int)
  · rw [if_neg (by omega)]
    have key : ∀ (s pre u preb : List Int) (q : Nat), a = pre ++ s → b = preb ++ u → pre = preb → s.length < q → ref10_Runes.l1 q a b (pre.length : Int) = some (decide (s = u)) := by
      intro s
      induction s with
      | nil =>
        intro pre u preb q e1 e2 e3 hq
        obtain ⟨q, rfl⟩ : ∃ j, q = j + 1 := ⟨q - 1, by omega⟩
        have hl : a.length = pre.length := by rw [e1]; simp
        obtain rfl : u = [] := by
          apply List.eq_nil_of_length_eq_zero
          have : b.length = preb.length + u.length := by rw [e2]; simp
          subst e3; omega
        simp only [ref10_Runes.l1, hl, if_neg (show ¬ (pre.length : Int) < (pre.length : Int) by omega)]
        rfl
      | cons x s ih =>
        intro pre u preb q e1 e2 e3 hq
        obtain ⟨q, rfl⟩ : ∃ j, q = j + 1 := ⟨q - 1, by omega⟩
        simp only [List.length_cons] at hq
        have la : a.length = pre.length + (s.length + 1) := by rw [e1]; simp
        have lb : b.length = preb.length + u.length := by rw [e2]; simp
        cases u with
        | nil => subst e3; simp at lb; omega
        | cons y u =>
          subst e3
          obtain ⟨m1, m2⟩ := mid e1
          obtain ⟨m3, m4⟩ := mid e2
          simp only [ref10_Runes.l1, if_pos m2.2, if_pos m2, if_pos m4, m1, m3, nxt hb e1]
          by_cases d : x = y
          · subst d
            rw [if_neg (by simp)]
            have := ih (pre ++ [x]) u (pre ++ [x]) q (by rw [e1]; simp) (by rw [e2]; simp) rfl (by omega)
            have e4 : ((pre ++ [x]).length : Int) = (pre.length : Int) + 1 := by simp
            rw [e4] at this
            rw [this]; simp
          · rw [if_pos d]; simp [d]
    have := key a [] b [] K0 rfl rfl rfl (ltK hb)
    simpa using this
  · rw [if_pos c, decide_eq_false (fun e => c (by rw [e]))]
end Go.Proofs.YthoicbafdanmkaaGreatDoor
/- Plain laws: first places in lists. Own work of this repo. -/
namespace Go.Proofs.YthoicbafdanmkaaGreatDoor
open Go.RowKit

def fIx {α : Type} (p : α → Bool) : List α → Nat → Int
  | [], _ => -1
  | x :: t, n => if p x = true then (n : Int) else fIx p t (n + 1)
theorem fIx_loop {α : Type} [Inhabited α] (L : Nat → Int → Option Int) (xs : List α) (p : α → Bool) (hx : xs.length ≤ bigN) (h0 : ∀ k, L (k + 1) (xs.length : Int) = some (-1))
    (h1 : ∀ k pre x t, xs = pre ++ x :: t → L (k + 1) (pre.length : Int) = if p x = true then some (pre.length : Int) else L k ((pre.length : Int) + 1)) : L K0 0 = some (fIx p xs 0) := by
  refine loop_ind (fun k i (_ : Unit) => L k i) xs (fun pre t _ o => o = some (fIx p t pre.length)) (fun _ k => h0 k) (fun pre x t _ k e ih => ?_) () K0 (ltK hx)
  show L (k + 1) _ = _
  have h2 := ih ()
  have h3 : L k ((pre.length : Int) + 1) = some (fIx p t (pre.length + 1)) := by simpa using h2
  rw [h1 k pre x t e, h3, fIx]
  split <;> rfl
theorem fIx_any {α : Type} (p : α → Bool) : ∀ (xs : List α) (n : Nat), decide (0 ≤ fIx p xs n) = xs.any p
  | [], n => by simp [fIx]
  | x :: t, n => by
    rw [fIx, List.any_cons]
    by_cases c : p x = true
    · rw [if_pos c, c]; simp
    · rw [if_neg c, fIx_any p t, Bool.eq_false_iff.2 c]; rfl
theorem fIx_cases {α : Type} (p : α → Bool) : ∀ (xs : List α) (n : Nat), (fIx p xs n = -1 ∧ ∀ x ∈ xs, p x = false) ∨ ∃ a x r, xs = a ++ x :: r ∧ p x = true ∧ (∀ x ∈ a, p x = false) ∧ fIx p xs n = ((n + a.length : Nat) : Int)
  | [], n => .inl ⟨rfl, fun _ h => by cases h⟩
  | x :: t, n => by
    rw [fIx]
    by_cases c : p x = true
    · exact .inr ⟨[], x, t, rfl, c, (fun _ h => by cases h), by rw [if_pos c]; simp⟩
    · rw [if_neg c]
      rcases fIx_cases p t (n + 1) with ⟨h1, h2⟩ | ⟨a, y, r, h1, h2, h3, h4⟩
      · refine .inl ⟨h1, fun y hy => ?_⟩
        rcases List.mem_cons.1 hy with rfl | hy
        · exact Bool.eq_false_iff.2 c
        · exact h2 y hy
      · refine .inr ⟨x :: a, y, r, by rw [h1]; rfl, h2, fun z hz => ?_, by rw [h4]; simp; omega⟩
        rcases List.mem_cons.1 hz with rfl | hz
        · exact Bool.eq_false_iff.2 c
        · exact h3 z hz
theorem indexZ_eq (xs : List Int) (v : Int) (hx : xs.length ≤ bigN) : slices_Index_rune_rune.f xs v = some (fIx (fun x => decide (v = x)) xs 0) := by
  rw [slices_Index_rune_rune.f]
  refine fIx_loop (fun k i => slices_Index_rune_rune.l1 k xs v i) xs _ hx (fun k => ?_) (fun k pre x t e => ?_)
  · simp only [slices_Index_rune_rune.l1, if_neg (show ¬ (xs.length : Int) < (xs.length : Int) by omega)]
  · obtain ⟨m1, m2⟩ := mid e
    simp only [slices_Index_rune_rune.l1, if_pos m2.2, if_pos m2, m1, nxt hx e, decide_eq_true_eq]

end Go.Proofs.YthoicbafdanmkaaGreatDoor
/- Plain laws: composing, joiners, the faults of a label. Own work of this repo. -/
namespace Go.Proofs.YthoicbafdanmkaaGreatDoor
open Go.RowKit

structure Tq (t : Option Tbs) (key : Int → Int) (pa : Int → List Int) (n : Nat) (pr : Int → Int → Int × Bool) (mk kp : Int → Bool) (jn : Int → Int) : Prop where
  tb : Tb t key pa n
  pair : ∀ a b, compose_Pair.f t a b = some (pr a b)
  mark : ∀ p, book_Tables_Mark.f t p = some (mk p)
  kept : ∀ p, book_Tables_Kept.f t p = some (kp p)
  join : ∀ p, book_Tables_Join.f t p = some (jn p)
variable {t : Option Tbs} {key : Int → Int} {pa : Int → List Int} {n : Nat} {pr : Int → Int → Int × Bool} {mk kp : Int → Bool} {jn : Int → Int}

def cstep (key : Int → Int) (pr : Int → Int → Int × Bool) (s : List Int × Int × Int) (c : Int) : List Int × Int × Int :=
  if 0 ≤ s.2.1 ∧ ¬ (s.2.1 < (s.1.length : Int) - 1 ∧ key c ≤ s.2.2) ∧ (pr (rd s.1 s.2.1) c).2 = true then (s.1.set s.2.1.toNat (pr (rd s.1 s.2.1) c).1, s.2.1, s.2.2)
  else if key c = 0 then (s.1 ++ [c], (s.1.length : Int), 0) else (s.1 ++ [c], s.2.1, max s.2.2 (key c))
def composeL (key : Int → Int) (pr : Int → Int → Int × Bool) (l : List Int) : List Int := (l.foldl (cstep key pr) ([], -1, 0)).1
theorem compose_eq (h : Tq t key pa n pr mk kp jn) (l : List Int) (hl : l.length ≤ bigN) : compose_Compose.f t l = some (composeL key pr l) := by
  have step : ∀ (r pre : List Int) (s : List Int × Int × Int) (k : Nat), l = pre ++ r → r.length < k → s.1.length + r.length ≤ l.length → -1 ≤ s.2.1 → s.2.1 < (s.1.length : Int) → compose_Compose.l1 k t l s.1 s.2.1 s.2.2 (pre.length : Int) = some (r.foldl (cstep key pr) s).1 := by
    intro r
    induction r with
    | nil =>
      intro pre s k e hk h1 h2 h3
      obtain ⟨k, rfl⟩ : ∃ j, k = j + 1 := ⟨k - 1, by omega⟩
      have : l.length = pre.length := by rw [e]; simp
      simp only [compose_Compose.l1, this, if_neg (show ¬ (pre.length : Int) < (pre.length : Int) by omega), List.foldl_nil]
    | cons c r ih =>
      intro pre s k e hk h1 h2 h3
      obtain ⟨k, rfl⟩ : ∃ j, k = j + 1 := ⟨k - 1, by omega⟩
      simp only [List.length_cons] at hk h1
      obtain ⟨m1, m2⟩ := mid e
      have hbig := hl
      unfold bigN at hbig
      obtain ⟨out, st, mo⟩ := s
      simp only at h1 h2 h3
      have e4 : ((pre ++ [c]).length : Int) = (pre.length : Int) + 1 := by simp
      have fin : ∀ s' : List Int × Int × Int, s'.1.length ≤ out.length + 1 → -1 ≤ s'.2.1 → s'.2.1 < (s'.1.length : Int) → cstep key pr (out, st, mo) c = s' → compose_Compose.l1 k t l s'.1 s'.2.1 s'.2.2 ((pre.length : Int) + 1) = some ((c :: r).foldl (cstep key pr) (out, st, mo)).1 := by
        intro s' g1 g2 g3 g4
        have := ih (pre ++ [c]) s' k (by rw [e]; simp) (by omega) (by omega) g2 g3
        rw [e4] at this
        rw [List.foldl_cons, g4, this]
      have put : compose_Compose.j3 (compose_Compose.l1 k t l) l out st mo (pre.length : Int) (key c) = if key c = 0 then compose_Compose.l1 k t l (out ++ [c]) (out.length : Int) 0 ((pre.length : Int) + 1) else compose_Compose.l1 k t l (out ++ [c]) st (max mo (key c)) ((pre.length : Int) + 1) := by
        simp only [compose_Compose.j3, compose_Compose.j2, compose_Compose.j1, m1, nxt hl e]
        by_cases c0 : key c = 0
        · rw [if_pos c0, if_pos c0, if_pos (by unfold most; simp; omega)]
        · rw [if_neg c0, if_neg c0, if_pos (by unfold most; simp; omega)]
      have put2 : ¬ (0 ≤ st ∧ ¬ (st < (out.length : Int) - 1 ∧ key c ≤ mo) ∧ (pr (rd out st) c).2 = true) → compose_Compose.j3 (compose_Compose.l1 k t l) l out st mo (pre.length : Int) (key c) = some ((c :: r).foldl (cstep key pr) (out, st, mo)).1 := by
        intro hc
        rw [put]
        by_cases c0 : key c = 0
        · rw [if_pos c0]
          exact fin (out ++ [c], (out.length : Int), 0) (by simp) (by show (-1 : Int) ≤ (out.length : Int); omega) (by show (out.length : Int) < ((out ++ [c]).length : Int); simp; omega) (by simp only [cstep, if_neg hc, if_pos c0])
        · rw [if_neg c0]
          exact fin (out ++ [c], st, max mo (key c)) (by simp) h2 (by simp <;> omega) (by simp only [cstep, if_neg hc, if_neg c0])
      simp only [compose_Compose.l1, if_pos m2.2, if_pos m2, m1, h.tb.cls c, Option.bind_some, compose_Compose.j5]
      by_cases a1 : 0 ≤ st
      · rw [if_pos a1, w64 (by omega) (by omega)]
        have j4 : ∀ bl : Bool, (bl = true ↔ (st < (out.length : Int) - 1 ∧ key c ≤ mo)) → compose_Compose.j4 (compose_Compose.l1 k t l) t l out st mo (pre.length : Int) (key c) (!bl) = some ((c :: r).foldl (cstep key pr) (out, st, mo)).1 := by
          intro bl hb
          simp only [compose_Compose.j4, m1]
          by_cases a2 : bl = true
          · rw [a2, if_neg (by simp)]
            exact put2 (fun hh => hh.2.1 (hb.1 a2))
          · rw [Bool.eq_false_iff.2 a2, if_pos (by simp), if_pos ⟨a1, h3⟩, h.pair, Option.bind_some]
            by_cases a3 : (pr (rd out st) c).2 = true
            · rw [if_pos a3]
              simp only [compose_Compose.j1, nxt hl e]
              exact fin (out.set st.toNat (pr (rd out st) c).1, st, mo) (by simp) h2 (by simpa using h3) (by simp only [cstep]; rw [if_pos ⟨a1, fun hh => a2 (hb.2 hh), a3⟩])
            · rw [if_neg a3]
              exact put2 (fun hh => a3 hh.2.2)
        by_cases a4 : st < (out.length : Int) - 1
        · rw [if_pos a4, if_pos a1]
          exact j4 _ (by simp [a4])
        · rw [if_neg a4, if_pos a1]
          exact j4 false (by simp [a4])
      · rw [if_neg a1, if_neg a1]
        simp only [compose_Compose.j4, if_neg (show ¬ false = true by simp)]
        exact put2 (fun hh => a1 hh.1)
  have := step l [] ([], -1, 0) K0 rfl (ltK hl) (by simp) (by simp) (by simp)
  simpa [compose_Compose.f, composeL] using this
theorem compose_len (key : Int → Int) (pr : Int → Int → Int × Bool) : ∀ (l : List Int) (s : List Int × Int × Int), (l.foldl (cstep key pr) s).1.length ≤ s.1.length + l.length
  | [], s => by simp
  | c :: l, s => by
    have h1 : (cstep key pr s c).1.length ≤ s.1.length + 1 := by
      unfold cstep
      split
      · simp
      · split <;> simp
    have := compose_len key pr l (cstep key pr s c)
    simp only [List.foldl_cons, List.length_cons]; omega
def normL (key : Int → Int) (pa : Int → List Int) (n : Nat) (pr : Int → Int → Int × Bool) (l : List Int) : List Int := composeL key pr (ordL key (l.flatMap (fullN pa n)))
theorem ordL_len (key : Int → Int) (l : List Int) : (ordL key l).length = l.length := ord_len key l
theorem normal_eq (h : Tq t key pa n pr mk kp jn) (l : List Int) (hl : 54 * l.length ≤ bigN) : compose_Normal.f t l = some (normL key pa n pr l) := by
  have := flat_len h.tb l
  rw [compose_Normal.f, decompose_eq h.tb l hl, Option.bind_some, compose_eq h _ (by rw [ordL_len]; omega)]; rfl
theorem equal_eq (a b : List Int) (hb : a.length ≤ bigN) : slices_Equal_rune_rune.f a b = some (decide (a = b)) := by
  rw [slices_Equal_rune_rune.f]
  have e : ∀ q a b i, slices_Equal_rune_rune.l1 q a b i = ref10_Runes.l1 q a b i := by
    intro q
    induction q with
    | zero => intros; rfl
    | succ q ih => intro a b i; simp only [slices_Equal_rune_rune.l1, ref10_Runes.l1, ih]
  rw [e]
  exact runes_eq a b hb
theorem is_eq (h : Tq t key pa n pr mk kp jn) (l : List Int) (hl : 54 * l.length ≤ bigN) : compose_Is.f t l = some (decide (normL key pa n pr l = l)) := by
  have h1 := flat_len h.tb l
  have h2 := compose_len key pr (ordL key (l.flatMap (fullN pa n))) ([], -1, 0)
  rw [compose_Is.f, normal_eq h l hl, Option.bind_some, equal_eq _ _ (by rw [ordL_len] at h2; simp only [List.length_nil, Nat.zero_add] at h2; unfold normL composeL; omega)]; rfl
theorem ahead_total (h : Tq t key pa n pr mk kp jn) (l : List Int) (hl : l.length ≤ bigN) : ∀ (k : Nat) (i : Int), i < (l.length : Int) → i + 1 < (k : Int) → -1 ≤ i → ∃ r, joiner_ahead.l1 k t l i = some r
  | 0, i, _, h2, h3 => by omega
  | k + 1, i, h1, h2, h3 => by
    have hb := hl
    unfold bigN at hb
    simp only [joiner_ahead.l1]
    by_cases c : 0 ≤ i
    · rw [if_pos c, if_pos ⟨c, h1⟩, h.join, Option.bind_some]
      split
      · exact ⟨_, rfl⟩
      · rw [w64 (by omega) (by omega)]; exact ahead_total h l hl k (i - 1) (by omega) (by omega) (by omega)
    · exact ⟨0, by rw [if_neg c]⟩
theorem behind_total (h : Tq t key pa n pr mk kp jn) (l : List Int) (hl : l.length ≤ bigN) : ∀ (k : Nat) (i : Int), (l.length : Int) - i < (k : Int) → 0 ≤ i → i ≤ (l.length : Int) → ∃ r, joiner_behind.l1 k t l i = some r
  | 0, i, h1, h2, h3 => by omega
  | k + 1, i, h1, h2, h3 => by
    have hb := hl
    unfold bigN at hb
    simp only [joiner_behind.l1]
    by_cases c : i < (l.length : Int)
    · rw [if_pos c, if_pos ⟨h2, c⟩, h.join, Option.bind_some]
      split
      · exact ⟨_, rfl⟩
      · rw [w64 (by omega) (by omega)]; exact behind_total h l hl k (i + 1) (by omega) (by omega) (by omega)
    · exact ⟨0, by rw [if_neg c]⟩
theorem allowed_total (h : Tq t key pa n pr mk kp jn) (l : List Int) (hl : l.length ≤ bigN) (i : Int) (h0 : 0 ≤ i) (h1 : i < (l.length : Int)) : ∃ r, joiner_Allowed.f t l i = some r ∧ (rd l i ≠ 8204 → rd l i ≠ 8205 → r = true) := by
  have hb := hl
  unfold bigN at hb
  have hK : (K0 : Int) = 1180591620717411303424 := rfl
  have e0 : joiner_Allowed.f t l i = joiner_Allowed.j3 t l i false := by rw [joiner_Allowed.f, if_neg (by omega), decide_eq_false (by omega)]
  have es : joiner_special.f (rd l i) = some (decide (rd l i = 8204 ∨ rd l i = 8205)) := by
    unfold joiner_special.f joiner_special.j1
    split <;> simp [*]
  rw [e0]
  simp only [joiner_Allowed.j3, if_neg (show ¬ false = true by simp), if_pos (And.intro h0 h1), es, Option.bind_some]
  by_cases c : rd l i = 8204 ∨ rd l i = 8205
  · rw [decide_eq_true c, if_neg (by simp)]
    suffices hs : ∃ r, (if 0 < i then (if (0 : Int) ≤ IntKind.i64.wrap (i - 1) ∧ IntKind.i64.wrap (i - 1) < (l.length : Int) then ((joiner_Virama.f t (rd l (IntKind.i64.wrap (i - 1)))).bind fun ag => (joiner_Allowed.j2 t l i ag)) else none) else (joiner_Allowed.j2 t l i false)) = some r by
      obtain ⟨r, hr⟩ := hs
      exact ⟨r, hr, fun a b => absurd c (by simp [a, b])⟩
    have hj2 : ∀ b, ∃ r, joiner_Allowed.j2 t l i b = some r := by
      intro b
      obtain ⟨ra, ha⟩ := ahead_total h l hl K0 (i - 1) (by omega) (by omega) (by omega)
      obtain ⟨rb, hb'⟩ := behind_total h l hl K0 (i + 1) (by omega) (by omega) (by omega)
      simp only [joiner_Allowed.j2, joiner_Allowed.j1, joiner_ahead.f, joiner_behind.f, w64 (x := i - 1) (by omega) (by omega), w64 (x := i + 1) (by omega) (by omega), ha, hb', Option.bind_some]
      repeat' split
      all_goals exact ⟨_, rfl⟩
    split
    · rw [w64 (by omega) (by omega), if_pos ⟨by omega, by omega⟩, joiner_Virama.f, h.tb.cls, Option.bind_some, Option.bind_some]
      exact hj2 _
    · exact hj2 _
  · rw [decide_eq_false c]
    exact ⟨true, by rw [if_pos (by simp)], fun _ _ => rfl⟩
theorem check_total' (h : Tq t key pa n pr mk kp jn) (l : List Int) (hl : l.length ≤ bigN) : ∃ r, joiner_Check.f t l = some r ∧ ((∀ x ∈ l, x ≠ 8204 ∧ x ≠ 8205) → r = -1) := by
  rw [joiner_Check.f]
  refine loop_ind (fun k i (_ : Unit) => joiner_Check.l1 k t l i) l (fun pre r _ o => ∃ q, o = some q ∧ ((∀ x ∈ r, x ≠ 8204 ∧ x ≠ 8205) → q = -1)) (fun _ k => ?_) (fun pre x r _ k e ih => ?_) () K0 (ltK hl)
  · exact ⟨-1, by simp only [joiner_Check.l1, if_neg (show ¬ (l.length : Int) < (l.length : Int) by omega)], fun _ => rfl⟩
  · obtain ⟨m1, m2⟩ := mid e
    obtain ⟨b, hb, hb2⟩ := allowed_total h l hl _ m2.1 m2.2
    simp only [joiner_Check.l1, if_pos m2.2, hb, Option.bind_some, nxt hl e]
    cases b with
    | true =>
      rw [if_neg (by simp)]
      obtain ⟨q, h1, h2⟩ := ih ()
      exact ⟨q, h1, fun hx => h2 fun y hy => hx y (by simp [hy])⟩
    | false =>
      rw [if_pos (by simp)]
      exact ⟨_, rfl, fun hx => by have := hx x (by simp); rw [m1] at hb2; exact absurd (hb2 this.1 this.2) (by simp)⟩
def fput (n : Int) (has : Bool) (l : List Int) : List Int := if has = true then l ++ [n] else l
theorem fput_len (n : Int) (has : Bool) (l : List Int) : (fput n has l).length ≤ l.length + 1 := by unfold fput; split <;> simp
theorem fault_eq (n : Int) (has : Bool) (l : List Int) (hl : l.length ≤ 10) : label_Faults_1_hil.f n has l = some (fput n has l) := by
  unfold label_Faults_1_hil.f fput
  split
  · rw [if_pos (by unfold most; simp; omega)]
  · rfl
def codB (l : List Int) : Bool := decide (4 ≤ (l.length : Int)) && decide (runesBytes (sub l 0 4) = (⟨#[120, 110, 45, 45]⟩ : ByteArray))
theorem coded_eq (l : List Int) : label_Coded.f l = some (codB l) := by
  unfold label_Coded.f codB label_Coded.j1
  split
  · rename_i h
    rw [if_pos ⟨by omega, by omega, h⟩, decide_eq_true h]; rfl
  · rename_i h
    rw [decide_eq_false h]; rfl
def headB (mk : Int → Bool) : List Int → Bool
  | [] => false
  | x :: _ => mk x
def faultsL (is cod st mk ks jo : Bool) : List Int := fput 6 jo (fput 5 ks (fput 4 mk (fput 3 st (fput 2 cod (fput 1 (!is) [])))))
theorem faults_eq (h : Tq t key pa n pr mk kp jn) (l : List Int) (hl : 54 * l.length ≤ bigN) : ∃ jo, label_Faults.f t l = some (faultsL (decide (normL key pa n pr l = l)) (codB l) (l.any fun x => decide (46 = x)) (headB mk l) (l.any fun x => !kp x) jo) ∧ ((∀ x ∈ l, x ≠ 8204 ∧ x ≠ 8205) → jo = false) := by
  have hlb : l.length ≤ bigN := by omega
  obtain ⟨q, hq, hq2⟩ := check_total' h l hlb
  have hk : slices_ContainsFunc_rune_rune_dco.f l t = some (l.any fun x => !kp x) := by
    rw [slices_ContainsFunc_rune_rune_dco.f, slices_IndexFunc_rune_rune_dco.f]
    have := fIx_loop (fun k i => slices_IndexFunc_rune_rune_dco.l1 k t l i) l (fun x => !kp x) hlb (fun k => ?_) (fun k pre x r e => ?_)
    · rw [this, Option.bind_some, fIx_any]
    · simp only [slices_IndexFunc_rune_rune_dco.l1, if_neg (show ¬ (l.length : Int) < (l.length : Int) by omega)]
    · obtain ⟨m1, m2⟩ := mid e
      simp only [slices_IndexFunc_rune_rune_dco.l1, if_pos m2.2, if_pos m2, m1, label_Faults_2_bfn.f, h.kept, Option.bind_some, nxt hlb e]
  have hc : slices_Contains_rune_rune.f l 46 = some (l.any fun x => decide (46 = x)) := by
    rw [slices_Contains_rune_rune.f, indexZ_eq l 46 hlb, Option.bind_some, fIx_any]
  refine ⟨decide (0 ≤ q), ?_, fun hx => by rw [hq2 hx]; rfl⟩
  have l1 := fput_len 1 (!(decide (normL key pa n pr l = l))) []
  have l2 := fput_len 2 (codB l) (fput 1 (!(decide (normL key pa n pr l = l))) [])
  have l3 := fput_len 3 (l.any fun x => decide (46 = x)) (fput 2 (codB l) (fput 1 (!(decide (normL key pa n pr l = l))) []))
  have l4 := fput_len 4 (headB mk l) (fput 3 (l.any fun x => decide (46 = x)) (fput 2 (codB l) (fput 1 (!(decide (normL key pa n pr l = l))) [])))
  have l5 := fput_len 5 (l.any fun x => !kp x) (fput 4 (headB mk l) (fput 3 (l.any fun x => decide (46 = x)) (fput 2 (codB l) (fput 1 (!(decide (normL key pa n pr l = l))) []))))
  simp only [List.length_nil] at l1
  rw [label_Faults.f, is_eq h l hl, Option.bind_some, fault_eq _ _ _ (by simp), Option.bind_some, coded_eq, Option.bind_some, fault_eq _ _ _ (by omega), Option.bind_some, hc, Option.bind_some, fault_eq _ _ _ (by omega), Option.bind_some]
  have hj : ∀ aa, aa.length ≤ 4 → label_Faults.j1 t l aa = some (fput 6 (decide (0 ≤ q)) (fput 5 (l.any fun x => !kp x) aa)) := by
    intro aa ha
    have := fput_len 5 (l.any fun x => !kp x) aa
    rw [label_Faults.j1, hk, Option.bind_some, fault_eq _ _ _ (by omega), Option.bind_some, hq, Option.bind_some, fault_eq _ _ _ (by omega)]; rfl
  cases l with
  | nil =>
    rw [if_neg (by simp), fault_eq _ _ _ (by omega), Option.bind_some, hj _ (by simp only [headB] at l4; omega)]; rfl
  | cons x r =>
    rw [if_pos (by simp <;> omega), if_pos ⟨by omega, by simp <;> omega⟩, show rd (x :: r) 0 = x from rfl, h.mark, Option.bind_some, fault_eq _ _ _ (by omega), Option.bind_some, hj _ (by simp only [headB] at l4; omega)]; rfl
theorem first_eq (l : List Int) : label_first.f l = some (l.headD 0) := by
  cases l with
  | nil => rfl
  | cons x r => rw [label_first.f, if_neg (by simp <;> omega), if_pos ⟨by omega, by simp <;> omega⟩]; rfl
def plainB (l : List Int) : Bool := !(l.any fun p => decide (p < 0 ∨ 128 ≤ p))
theorem plain_eq (l : List Int) (hl : l.length ≤ bigN) : label_plain.f l = some (plainB l) := by
  rw [label_plain.f, slices_ContainsFunc_rune_rune_lae.f, slices_IndexFunc_rune_rune_lae.f]
  have := fIx_loop (fun k i => slices_IndexFunc_rune_rune_lae.l1 k l i) l (fun p => decide (p < 0 ∨ 128 ≤ p)) hl (fun k => ?_) (fun k pre x r e => ?_)
  · rw [this, Option.bind_some, fIx_any]; rfl
  · simp only [slices_IndexFunc_rune_rune_lae.l1, if_neg (show ¬ (l.length : Int) < (l.length : Int) by omega)]
  · obtain ⟨m1, m2⟩ := mid e
    have ep : label_plain_1.f x = some (decide (x < 0 ∨ 128 ≤ x)) := by
      unfold label_plain_1.f label_plain_1.j1
      split <;> simp [*]
    simp only [slices_IndexFunc_rune_rune_lae.l1, if_pos m2.2, if_pos m2, m1, ep, Option.bind_some, nxt hl e]
theorem valid_eq {l F : List Int} (h : label_Faults.f t l = some F) : label_Valid.f t l = some (decide (F = [])) := by
  rw [label_Valid.f, h, Option.bind_some]
  cases F <;> simp
  omega
end Go.Proofs.YthoicbafdanmkaaGreatDoor
/- Plain laws: prefixes, hyphens, ASCII labels: the program and the document say the same. Own work of this repo. -/
namespace Go.Proofs.YthoicbafdanmkaaGreatDoor
open Go.RowKit

theorem hyphens_eq (l : List Int) (hl : l.length ≤ bigN) : ∃ r, label_Hyphens.f l = some r ∧ ref18_Hyphens.f l = some r := by
  have hb := hl
  unfold bigN at hb
  have e : ref18_Hyphens.f l = label_Hyphens.f l := by
    simp only [label_Hyphens.f, ref18_Hyphens.f, label_Hyphens.j1, ref18_Hyphens.j1]
  rw [e]
  suffices h : ∃ r, label_Hyphens.f l = some r from h.imp fun _ h => ⟨h, h⟩
  simp only [label_Hyphens.f, label_Hyphens.j1]
  by_cases c4 : 4 ≤ (l.length : Int)
  · have w : IntKind.i64.wrap ((l.length : Int) - 1) = (l.length : Int) - 1 := w64 (by omega) (by omega)
    rw [if_pos c4, if_pos ⟨by omega, by omega⟩, w]
    simp only [if_pos (show (0 : Int) ≤ 3 ∧ 3 < (l.length : Int) from ⟨by omega, by omega⟩), if_pos (show 0 < (l.length : Int) by omega), if_pos (show (0 : Int) ≤ 0 ∧ 0 < (l.length : Int) from ⟨by omega, by omega⟩), if_pos (show (0 : Int) ≤ (l.length : Int) - 1 ∧ (l.length : Int) - 1 < (l.length : Int) from ⟨by omega, by omega⟩)]
    split <;> split <;> exact ⟨_, rfl⟩
  · rw [if_neg c4]
    by_cases c0 : 0 < (l.length : Int)
    · have w : IntKind.i64.wrap ((l.length : Int) - 1) = (l.length : Int) - 1 := w64 (by omega) (by omega)
      rw [if_pos c0, if_pos ⟨by omega, c0⟩, w, if_pos (show (0 : Int) ≤ (l.length : Int) - 1 ∧ (l.length : Int) - 1 < (l.length : Int) from ⟨by omega, by omega⟩)]
      split <;> exact ⟨_, rfl⟩
    · rw [if_neg c0]; exact ⟨_, rfl⟩
def eL (r : Int) : List UInt8 := (Utf8.encode r).data.toList
theorem eL_ascii {r : Int} (h0 : 0 ≤ r) (h1 : r < 128) : eL r = [UInt8.ofNat r.toNat] := by
  have hv : Utf8.valid r = true := by simp [Utf8.valid]; omega
  have : r.toNat < 128 := by omega
  simp only [eL, Utf8.encode, hv, if_true]
  rw [if_pos (by omega)]
theorem u8_ge {n : Nat} (h0 : 128 ≤ n) (h1 : n < 256) : 128 ≤ (UInt8.ofNat n).toNat := by
  rw [UInt8.toNat_ofNat']
  omega
theorem eL_high {r : Int} (h : r < 0 ∨ 128 ≤ r) : ∃ x t, eL r = x :: t ∧ 128 ≤ x.toNat := by
  have hc : ∃ c, (if Utf8.valid r then r.toNat else Utf8.runeError) = c ∧ 128 ≤ c ∧ c < 1114112 := by
    refine ⟨_, rfl, ?_⟩
    by_cases hv : Utf8.valid r = true
    · rw [if_pos hv]
      simp [Utf8.valid] at hv
      omega
    · rw [if_neg hv]
      unfold Utf8.runeError
      omega
  obtain ⟨c, e, h1, h2⟩ := hc
  unfold eL Utf8.encode
  simp only [e]
  rw [if_neg (by omega)]
  split
  · exact ⟨_, _, rfl, u8_ge (by omega) (by omega)⟩
  · split
    · exact ⟨_, _, rfl, u8_ge (by omega) (by omega)⟩
    · exact ⟨_, _, rfl, u8_ge (by omega) (by omega)⟩
theorem runes_fold (l : List Int) : ∀ (s : ByteArray), (l.foldl (fun r n => r ++ Utf8.encode n) s).data.toList = s.data.toList ++ l.flatMap eL := by
  induction l with
  | nil => intro s; simp
  | cons x l ih => intro s; rw [List.foldl_cons, ih]; simp [eL, ByteArray.data_append]
theorem runesBytes_list (l : List Int) : (runesBytes l).data.toList = l.flatMap eL := by
  rw [runesBytes, runes_fold]; rfl
theorem bytes_fold (l : List Int) : ∀ (s : ByteArray), (l.foldl (fun r n => r.push (UInt8.ofNat n.toNat)) s).data.toList = s.data.toList ++ l.map fun n => UInt8.ofNat n.toNat := by
  induction l with
  | nil => intro s; simp
  | cons x l ih => intro s; rw [List.foldl_cons, ih]; simp [ByteArray.push]
theorem bytesS_list (l : List Int) : (bytesS l).data.toList = l.map fun n => UInt8.ofNat n.toNat := by
  rw [bytesS, bytes_fold]; rfl
theorem ba_ext {a b : ByteArray} (h : a.data.toList = b.data.toList) : a = b := by
  cases a; cases b
  simp only at h
  congr
  exact Array.ext' h
theorem eL_head {r : Int} {x : UInt8} {s t : List UInt8} (hx : x.toNat < 128) (h : eL r ++ s = x :: t) : r = (x.toNat : Int) ∧ s = t := by
  by_cases c : 0 ≤ r ∧ r < 128
  · rw [eL_ascii c.1 c.2] at h
    simp only [List.cons_append, List.nil_append, List.cons.injEq] at h
    refine ⟨?_, h.2⟩
    rw [← h.1, UInt8.toNat_ofNat']
    omega
  · obtain ⟨y, u, e, hy⟩ := eL_high (r := r) (by omega)
    rw [e, List.cons_append] at h
    simp only [List.cons.injEq] at h
    rw [h.1] at hy
    omega
theorem coded_is (l : List Int) : codB l = true ↔ ∃ r, l = 120 :: 110 :: 45 :: 45 :: r := by
  unfold codB
  simp only [Bool.and_eq_true, decide_eq_true_eq]
  constructor
  · rintro ⟨h, e⟩
    match l, h with
    | a :: b :: c :: d :: r, _ =>
      have e1 := congrArg (fun s : ByteArray => s.data.toList) e
      simp only [runesBytes_list] at e1
      have e2 : sub (a :: b :: c :: d :: r) 0 4 = [a, b, c, d] := rfl
      rw [e2] at e1
      simp only [List.flatMap_cons, List.flatMap_nil] at e1
      obtain ⟨h1, e1⟩ := eL_head (by decide) e1
      obtain ⟨h2, e1⟩ := eL_head (by decide) e1
      obtain ⟨h3, e1⟩ := eL_head (by decide) e1
      obtain ⟨h4, e1⟩ := eL_head (by decide) e1
      exact ⟨r, by rw [h1, h2, h3, h4]; rfl⟩
  · rintro ⟨r, rfl⟩
    refine ⟨by simp; omega, ?_⟩
    show runesBytes [120, 110, 45, 45] = _
    rfl
theorem ref_coded (l : List Int) : ref18_Coded.f l = some (codB l) := by
  have key : ∀ b : Bool, (b = true ↔ ∃ r, l = 120 :: 110 :: 45 :: 45 :: r) → some b = some (codB l) := fun b h => by
    congr 1
    rw [Bool.eq_iff_iff, h, coded_is]
  match l, key with
  | [], key => exact key _ (by simp)
  | [a], key => exact key _ (by simp)
  | [a, b], key => exact key _ (by simp)
  | [a, b, c], key => exact key _ (by simp)
  | a :: b :: c :: d :: r, key =>
    have hn : (4 : Int) ≤ ((a :: b :: c :: d :: r).length : Int) := by simp; omega
    have r0 : rd (a :: b :: c :: d :: r) 0 = a := rfl
    have r1 : rd (a :: b :: c :: d :: r) 1 = b := rfl
    have r2 : rd (a :: b :: c :: d :: r) 2 = c := rfl
    have r3 : rd (a :: b :: c :: d :: r) 3 = d := rfl
    simp only [ref18_Coded.f, ref18_Coded.j1, if_pos hn, r0, r1, r2, r3, if_pos (show (0 : Int) ≤ 0 ∧ 0 < ((a :: b :: c :: d :: r).length : Int) from ⟨by omega, by omega⟩), if_pos (show (0 : Int) ≤ 1 ∧ 1 < ((a :: b :: c :: d :: r).length : Int) from ⟨by omega, by omega⟩), if_pos (show (0 : Int) ≤ 2 ∧ 2 < ((a :: b :: c :: d :: r).length : Int) from ⟨by omega, by omega⟩), if_pos (show (0 : Int) ≤ 3 ∧ 3 < ((a :: b :: c :: d :: r).length : Int) from ⟨by omega, by omega⟩)]
    by_cases c1 : a = 120
    · by_cases c2 : b = 110
      · by_cases c3 : c = 45
        · rw [if_pos c1, if_pos c2, if_pos c3]; exact key _ (by simp [c1, c2, c3])
        · rw [if_pos c1, if_pos c2, if_neg c3]; exact key _ (by simp [c3])
      · rw [if_pos c1, if_neg c2]; exact key _ (by simp [c2])
    · rw [if_neg c1]; exact key _ (by simp [c1])
end Go.Proofs.YthoicbafdanmkaaGreatDoor
/- Plain laws: what the statements of layer 18 are awake by. Own work of this repo. -/
namespace Go.Proofs.YthoicbafdanmkaaGreatDoor
open Go.RowKit

theorem dec_1 : puny_Decode.f (⟨#[98, 99, 104, 101, 114, 45, 107, 118, 97]⟩ : ByteArray) = some ([98, 252, 99, 104, 101, 114], 0, 0) := by kernel_rfl
theorem enc_1 : puny_Encode.f [98, 252] = some ((⟨#[98, 45, 101, 104, 97]⟩ : ByteArray), 0, 0) := by kernel_rfl
def aB : Bk := ⟨[], [⟨97, 122, 1⟩, ⟨252, 252, 1⟩], [], [], [], [], [], [], [], [], []⟩
theorem aB_few : Few aB := by constructor <;> simp [aB, bigN]
theorem aB_ok : okB aB = true := by kernel_rfl
theorem rows_nil : RowsOk [] := ⟨by simp, rfl⟩
theorem look_nil {T : Option Tab} (h : TabOf [] T) (p : Int) : stage_Table_Look.f T p = some 0 := by
  by_cases c : p < 0 ∨ 1114111 < p
  · exact look_out T p c
  · exact tab_look h rows_nil p (by omega) (by omega)
def pr0 (a b : Int) : Int × Bool := (compose_Pair.f none a b).getD (0, false)
theorem ite_tot {α : Type} {p : Prop} [Decidable p] {A B : Option α} (ha : ∃ r, A = some r) (hb : ∃ r, B = some r) : ∃ r, (if p then A else B) = some r := by
  by_cases c : p
  · rw [if_pos c]; exact ha
  · rw [if_neg c]; exact hb
theorem pair_total {t : Option Tbs} (h : ∀ a b, ∃ r, book_Tables_Pair.f t a b = some r) (a b : Int) : ∃ r, compose_Pair.f t a b = some r := by
  have j1 : ∀ x, ∃ r, compose_Pair.j1 t a b x = some r := by
    intro x
    obtain ⟨r, hr⟩ := h a b
    rw [compose_Pair.j1, hr]
    exact ite_tot ⟨_, rfl⟩ ⟨_, rfl⟩
  have j2 : ∀ x, ∃ r, compose_Pair.j2 t a b x = some r := by
    intro x
    rw [compose_Pair.j2]
    repeat' first | exact j1 _ | exact ⟨_, rfl⟩ | apply ite_tot
  rw [compose_Pair.f]
  repeat' first | exact j2 _ | exact ⟨_, rfl⟩ | apply ite_tot
theorem pair_none (a b : Int) : compose_Pair.f none a b = some (pr0 a b) := by
  obtain ⟨r, hr⟩ := pair_total (t := none) (fun _ _ => ⟨_, rfl⟩) a b
  rw [pr0, hr]; rfl
def kp0 (p : Int) : Bool := if p < 0 ∨ 1114111 < p then false else decide (valAt aB.status p = 1 ∨ valAt aB.status p = 3)
theorem tq_awake {t : Tbs} (h : TabsOf aB t) : Tq (some t) (fun _ => 0) (fun _ => []) 0 pr0 (fun _ => false) kp0 (fun _ => 0) := by
  have hd := look_nil h.decomp
  have hc := look_nil h.class_
  have hm := look_nil h.mark
  have hp := look_nil h.maps
  have hj := look_nil h.join
  refine ⟨⟨fun p => ?_, fun _ => Int.le_refl 0, fun p => ?_, fun c => by simp [Lc], by unfold bigN; omega⟩, fun a b => ?_, fun p => ?_, fun p => ?_, fun p => ?_⟩
  · simp only [book_Tables_Class.f, Option.isNone_some, Bool.false_eq_true, if_false, Option.isSome_some, if_true, Option.getD_some, hc, Option.bind_some]
  · simp only [book_Tables_Parts.f, book_row.f, Option.isNone_some, Bool.false_eq_true, if_false, Option.isSome_some, if_true, Option.getD_some, hd, Option.bind_some]
  · have e : ∀ a b, book_Tables_Pair.f (some t) a b = book_Tables_Pair.f none a b := fun a b => by
      simp only [book_Tables_Pair.f, Option.isNone_some, Bool.false_eq_true, if_false, Option.isSome_some, if_true, Option.getD_some, h.pairs rfl]
      rfl
    rw [← pair_none a b]
    simp only [compose_Pair.f, compose_Pair.j2, compose_Pair.j1, e]
  · simp only [book_Tables_Mark.f, book_Tables_Mark.j1, Option.isSome_some, if_true, Option.getD_some, hm, Option.bind_some]; rfl
  · have hs : stage_Table_Look.f t.status p = some (if p < 0 ∨ 1114111 < p then 0 else valAt aB.status p) := by
      by_cases c : p < 0 ∨ 1114111 < p
      · rw [if_pos c]; exact look_out _ p c
      · rw [if_neg c]; exact tab_look h.status ⟨by simp [aB], by kernel_rfl⟩ p (by omega) (by omega)
    simp only [book_Tables_Kept.f, book_Tables_Kept.j1, book_Tables_Status.f, Option.isNone_some, Bool.false_eq_true, if_false, Option.isSome_some, if_true, Option.getD_some, hp, Option.bind_some, Int.lt_irrefl, hs, kp0]
    by_cases c : p < 0 ∨ 1114111 < p
    · simp [c]
    · simp only [if_neg c]
      by_cases c1 : valAt aB.status p = 1
      · simp [c1]
      · simp [c1]
  · simp only [book_Tables_Join.f, Option.isNone_some, Bool.false_eq_true, if_false, Option.isSome_some, if_true, Option.getD_some, hj, Option.bind_some]
theorem faults_awake {t : Tbs} (h : TabsOf aB t) (l : List Int) (hl : 54 * l.length ≤ bigN) (h1 : normL (fun _ => 0) (fun _ => []) 0 pr0 l = l) (h2 : codB l = false) (h3 : (l.any fun x => decide (46 = x)) = false) (h4 : (l.any fun x => !kp0 x) = false) (h5 : ∀ x ∈ l, x ≠ 8204 ∧ x ≠ 8205) :
    label_Faults.f (some t) l = some [] := by
  obtain ⟨jo, e, hj⟩ := faults_eq (tq_awake h) l hl
  have hh : headB (fun _ => false) l = false := by cases l <;> rfl
  rw [e, hj h5, h1, h2, h3, h4, hh, decide_eq_true rfl]; rfl
theorem awake18 : law18_awake.f = some true := by
  obtain ⟨t, h1, h2⟩ := compile_eq aB aB_few aB_ok
  have hw : ([98, 252, 99, 104, 101, 114] : List Int).length ≤ bigN := by unfold bigN; simp
  have f1 := faults_awake h2 [98, 252, 99, 104, 101, 114] (by unfold bigN; simp) (by kernel_rfl) (by kernel_rfl) (by kernel_rfl) (by kernel_rfl) (by decide)
  have f2 := faults_awake h2 [97] (by unfold bigN; simp) (by kernel_rfl) (by kernel_rfl) (by kernel_rfl) (by kernel_rfl) (by decide)
  have r1 : label_Read.f (some t) [120, 110, 45, 45, 98, 99, 104, 101, 114, 45, 107, 118, 97] = some ⟨[98, 252, 99, 104, 101, 114], true, 0⟩ := by
    have e1 : codB [120, 110, 45, 45, 98, 99, 104, 101, 114, 45, 107, 118, 97] = true := by kernel_rfl
    have e2 : plainB [120, 110, 45, 45, 98, 99, 104, 101, 114, 45, 107, 118, 97] = true := by kernel_rfl
    have e3 : plainB [98, 252, 99, 104, 101, 114] = false := by kernel_rfl
    have e4 : runesBytes (sub [120, 110, 45, 45, 98, 99, 104, 101, 114, 45, 107, 118, 97] 4 (([120, 110, 45, 45, 98, 99, 104, 101, 114, 45, 107, 118, 97] : List Int).length : Int)) = ⟨#[98, 99, 104, 101, 114, 45, 107, 118, 97]⟩ := by kernel_rfl
    rw [label_Read.f, cl_int _ (by unfold bigN; simp), Option.bind_some, coded_eq, Option.bind_some, e1, if_neg (by decide), plain_eq _ (by unfold bigN; simp), Option.bind_some, e2, if_neg (by decide), if_pos (by simp), e4, dec_1, Option.bind_some, if_neg (by simp)]
    simp only [plain_eq _ hw, e3, Option.bind_some, Bool.false_eq_true, if_false, f1, first_eq]; rfl
  have r2 : label_ASCII.f [98, 252] = some ((⟨#[120, 110, 45, 45, 98, 45, 101, 104, 97]⟩ : ByteArray), 0, 0) := by
    have e1 : plainB [98, 252] = false := by kernel_rfl
    rw [label_ASCII.f, plain_eq _ (by unfold bigN; simp), Option.bind_some, e1, if_neg (by decide), enc_1, Option.bind_some, if_neg (by simp), if_pos (by decide)]
    rfl
  have r3 := valid_eq f2
  rw [law18_awake.f]
  rw [show (⟨([] : List ByteArray), [(⟨97, 122, 1⟩ : Val), (⟨252, 252, 1⟩ : Val)], ([] : List Chs), ([] : List Val), ([] : List Chs), ([] : List Spn), ([] : List Val), ([] : List Val), ([] : List Spn), ([] : List Val), ([] : List Chs)⟩ : Bk) = aB from rfl, h1, Option.bind_some]
  simp only [r1, r2, r3, Option.bind_some, law18_awake.j1, if_true]
  rfl
end Go.Proofs.YthoicbafdanmkaaGreatDoor
/- Plain laws: a label in ASCII, but for what has to be encoded. Own work of this repo. -/
namespace Go.Proofs.YthoicbafdanmkaaGreatDoor
open Go.RowKit

theorem high_eq (l : List Int) (hl : l.length ≤ bigN) : ref18_high.f l = some (!plainB l) := by
  rw [ref18_high.f]
  have key := loop_ind (fun k i (_ : Unit) => ref18_high.l1 k l i) l (fun _ t _ o => o = some (t.any fun p => decide (p < 0 ∨ 128 ≤ p))) (fun _ k => ?_) (fun pre x t _ k e ih => ?_) () K0 (ltK hl)
  · rw [key]; simp [plainB]
  · simp only [ref18_high.l1, if_neg (show ¬ (l.length : Int) < (l.length : Int) by omega)]; rfl
  · obtain ⟨m1, m2⟩ := mid e
    simp only [ref18_high.l1, if_pos m2.2, if_pos m2, m1, ref18_high.j1, nxt hl e, List.any_cons]
    by_cases c : x < 0
    · rw [if_pos c, if_pos trivial, decide_eq_true (.inl c)]; rfl
    · rw [if_neg c]
      by_cases c2 : 127 < x
      · rw [decide_eq_true c2, if_pos rfl, decide_eq_true (.inr (by omega))]; rfl
      · rw [decide_eq_false c2, if_neg (by decide), ih (), decide_eq_false (by omega)]; rfl
theorem plain_all {l : List Int} (h : plainB l = true) : ∀ x ∈ l, 0 ≤ x ∧ x < 128 := by
  intro x hx
  simp only [plainB, Bool.not_eq_true', List.any_eq_false, decide_eq_true_eq] at h
  have := h x hx
  omega
theorem u8_small {x : Int} (h0 : 0 ≤ x) (h1 : x < 256) : IntKind.u8.wrap x = x := by rw [IntKind.wrap_u8]; omega
theorem plain_bytes {l : List Int} (h : plainB l = true) : runesBytes l = bytesS l := by
  apply ba_ext
  rw [runesBytes_list, bytesS_list]
  have : ∀ m : List Int, (∀ x ∈ m, 0 ≤ x ∧ x < 128) → m.flatMap eL = m.map fun n => UInt8.ofNat n.toNat := by
    intro m
    induction m with
    | nil => intro _; rfl
    | cons x m ih =>
      intro hm
      have hx := hm x (by simp)
      rw [List.flatMap_cons, eL_ascii hx.1 hx.2, ih fun y hy => hm y (by simp [hy])]; rfl
  exact this l (plain_all h)
theorem ref_plain_ascii {l : List Int} (h : plainB l = true) (hl : l.length ≤ bigN) : ref18_ASCII.l1 K0 l [] 0 = some (bytesS l, 0, 0) := by
  have hb := hl
  unfold bigN at hb
  have hp := plain_all h
  have key := loop_ind (fun k i s => ref18_ASCII.l1 k l s i) l (fun pre _ s o => pre = s → o = some (bytesS l, 0, 0)) (fun s k => ?_) (fun pre x t s k e ih => ?_) [] K0 (ltK hl)
  · exact key rfl
  · rintro rfl
    simp only [ref18_ASCII.l1, if_neg (show ¬ (l.length : Int) < (l.length : Int) by omega)]
  · rintro rfl
    obtain ⟨m1, m2⟩ := mid e
    have hx := hp x (by rw [e]; simp)
    have hle : l.length = pre.length + (t.length + 1) := by rw [e]; simp
    simp only [ref18_ASCII.l1, if_pos m2.2, if_pos m2, m1, nxt hl e, u8_small hx.1 (show x < 256 by omega)]
    rw [if_pos (by unfold most; simp; omega)]
    exact ih (pre ++ [x]) rfl
theorem codes_true (l : List Int) (hl : l.length ≤ bigN) (henc : plainB l = false → ∃ s a e, puny_Encode.f l = some (s, a, e) ∧ ref14_Encode.f l = some (s, a, e) ∧ s.size ≤ 9223372036854775800) : law18_LabelCodes.f l = some true := by
  obtain ⟨⟨h1, h2⟩, e1, e2⟩ := hyphens_eq l hl
  have ha : ∃ s a e, label_ASCII.f l = some (s, a, e) ∧ ref18_ASCII.f l = some (s, a, e) := by
    rw [label_ASCII.f, ref18_ASCII.f, plain_eq l hl, high_eq l hl, Option.bind_some, Option.bind_some]
    cases hp : plainB l with
    | true =>
      refine ⟨bytesS l, 0, 0, ?_, ?_⟩
      · rw [if_pos rfl, plain_bytes hp]
      · rw [if_pos (by decide), ref_plain_ascii hp hl]
    | false =>
      obtain ⟨s, a, e, h3, h4, h5⟩ := henc hp
      have hs : (⟨#[120, 110, 45, 45]⟩ : ByteArray).size + s.size ≤ 9223372036854775807 := by
        have : (⟨#[120, 110, 45, 45]⟩ : ByteArray).size = 4 := rfl
        omega
      by_cases c : e = 0
      · refine ⟨⟨#[120, 110, 45, 45]⟩ ++ s, 0, 0, ?_, ?_⟩
        · rw [if_neg (by decide), h3, Option.bind_some, if_neg (by simp [c]), if_pos hs]
        · rw [if_neg (by decide), h4, Option.bind_some, if_neg (by simp [c]), if_pos hs]
      · refine ⟨⟨#[]⟩, a, e, ?_, ?_⟩
        · rw [if_neg (by decide), h3, Option.bind_some, if_pos c]
        · rw [if_neg (by decide), h4, Option.bind_some, if_pos c]
  obtain ⟨s, a, e, h3, h4⟩ := ha
  rw [law18_LabelCodes.f, awake18, Option.bind_some, if_neg (by decide), h3, Option.bind_some, h4, Option.bind_some, e1, Option.bind_some, e2, Option.bind_some, if_pos rfl, if_pos rfl, if_pos rfl, coded_eq, Option.bind_some, ref_coded, Option.bind_some]
  simp [law18_LabelCodes.j1]
end Go.Proofs.YthoicbafdanmkaaGreatDoor
/- Plain laws: the parts of Punycode that the program and the document share. Own work of this repo. -/
namespace Go.Proofs.YthoicbafdanmkaaGreatDoor
open Go.RowKit

abbrev pU : S11 := ⟨36, 1, 26, 38, 700, 72, 128, 45⟩
theorem thr_eq (k b : Int) : puny_boot_threshold.f pU k b = ref14_threshold.f k b := by
  unfold puny_boot_threshold.f ref14_threshold.f
  simp only
  split
  · congr 1; omega
  · split <;> (congr 1; omega)
theorem thr_val (k b : Int) : ∃ t, ref14_threshold.f k b = some t ∧ 1 ≤ t ∧ t ≤ 26 := by
  unfold ref14_threshold.f
  split
  · exact ⟨1, rfl, by omega, by omega⟩
  · split
    · exact ⟨26, rfl, by omega, by omega⟩
    · exact ⟨_, rfl, by omega, by omega⟩
theorem letter_eq (d : Int) : puny_letter.f d = ref14_Letter.f d := rfl
theorem digit_eq (c : Int) : puny_Digit.f c = ref14_Digit.f c := by
  simp only [puny_Digit.f, ref14_Digit.f, puny_Digit.j3, ref14_Digit.j3, puny_Digit.j2, ref14_Digit.j2, puny_Digit.j1, ref14_Digit.j1]
theorem digit_val (c : Int) (h0 : 0 ≤ c) (h1 : c < 256) : ∃ d, ref14_Digit.f c = some d ∧ -1 ≤ d ∧ d < 36 := by
  have w8 : ∀ x : Int, 0 ≤ x → x < 256 → IntKind.u8.wrap x = x := fun x a b => u8_small a b
  simp only [ref14_Digit.f, ref14_Digit.j3, ref14_Digit.j2, ref14_Digit.j1]
  by_cases a1 : 97 ≤ c
  · rw [if_pos a1]
    by_cases a2 : c ≤ 122
    · rw [decide_eq_true a2, if_pos rfl, w8 _ (by omega) (by omega), w64 (by omega) (by omega)]; exact ⟨_, rfl, by omega, by omega⟩
    · rw [decide_eq_false a2, if_neg (by decide), if_pos (by omega), decide_eq_false (by omega), if_neg (by decide), if_pos (by omega), decide_eq_false (by omega), if_neg (by decide)]; exact ⟨_, rfl, by omega, by omega⟩
  · rw [if_neg a1, if_neg (by decide)]
    by_cases a3 : 65 ≤ c
    · rw [if_pos a3]
      by_cases a4 : c ≤ 90
      · rw [decide_eq_true a4, if_pos rfl, w8 _ (by omega) (by omega), w64 (by omega) (by omega)]; exact ⟨_, rfl, by omega, by omega⟩
      · rw [decide_eq_false a4, if_neg (by decide), if_pos (by omega), decide_eq_false (by omega), if_neg (by decide)]; exact ⟨_, rfl, by omega, by omega⟩
    · rw [if_neg a3, if_neg (by decide)]
      by_cases a5 : 48 ≤ c
      · rw [if_pos a5]
        by_cases a6 : c ≤ 57
        · rw [decide_eq_true a6, if_pos rfl, w8 _ (by omega) (by omega), w64 (x := c - 48) (by omega) (by omega), w64 (by omega) (by omega)]; exact ⟨_, rfl, by omega, by omega⟩
        · rw [decide_eq_false a6, if_neg (by decide)]; exact ⟨_, rfl, by omega, by omega⟩
      · rw [if_neg a5, if_neg (by decide)]; exact ⟨_, rfl, by omega, by omega⟩
theorem bdigit_eq (c : Int) (h0 : 0 ≤ c) (h1 : c < 256) : puny_boot_digit.f pU c = ref14_Digit.f c := by
  obtain ⟨d, h2, h3, h4⟩ := digit_val c h0 h1
  rw [puny_boot_digit.f, digit_eq, h2, Option.bind_some, if_pos (by exact h4)]
theorem adapt_l1 : ∀ (k : Nat) (a b : Int), puny_boot_adapted.l1 k pU a b = ref14_Adapt.l1 k a b
  | 0, _, _ => rfl
  | k + 1, a, b => by
    have e1 : IntKind.i64.wrap (36 - 1) = 35 := by rw [IntKind.wrap_i64]; decide
    have e2 : IntKind.i64.wrap (35 * 26) = 910 := by rw [IntKind.wrap_i64]; decide
    have e3 : IntKind.i64.wrap ((910 : Int).tdiv 2) = 455 := by rw [IntKind.wrap_i64]; decide
    have e4 : IntKind.i64.wrap (35 + 1) = 36 := by rw [IntKind.wrap_i64]; decide
    simp only [puny_boot_adapted.l1, ref14_Adapt.l1, e1, e2, e3, e4, adapt_l1 k, ne_eq, if_pos (show ¬ (35 : Int) = 0 by decide)]
theorem adapt_eq (d p : Int) (f : Bool) : puny_boot_adapted.f pU d p f = ref14_Adapt.f d p f := by
  simp only [puny_boot_adapted.f, ref14_Adapt.f, puny_boot_adapted.j1, ref14_Adapt.j1, adapt_l1, ne_eq, if_pos (show ¬ (700 : Int) = 0 by decide)]
end Go.Proofs.YthoicbafdanmkaaGreatDoor
