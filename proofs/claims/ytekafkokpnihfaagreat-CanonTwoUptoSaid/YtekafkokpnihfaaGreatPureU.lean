/- Plain laws of slices.SortStableFunc: merging in place, and the whole. Own work of this repo. -/
import Derived.Test.YtekafkokpnihfaaGreatPureT
namespace Go.Proofs.YtekafkokpnihfaaGreat
open Go.RowKit
section
variable {t : Option Tbs} {key : Int → Int}
theorem mov_right (P Q : List Int) (u : Int) : ∀ (Y2 Y1 : List Int) (k : Nat), Y2.length < k → P.length + Y1.length + Y2.length + 1 + Q.length ≤ bigN →
    slices_symMergeCmpFunc_rune_bji.l1 k ((P.length : Int) + Y1.length + Y2.length + 1) (P ++ (Y1 ++ u :: (Y2 ++ Q))) ((P.length : Int) + Y1.length) = some (P ++ (Y1 ++ (Y2 ++ u :: Q))) := by
  intro Y2
  induction Y2 with
  | nil =>
    intro Y1 k hk hb
    obtain ⟨k, rfl⟩ : ∃ j, k = j + 1 := ⟨k - 1, by omega⟩
    unfold bigN at hb
    have w1 : IntKind.i64.wrap ((P.length : Int) + Y1.length + (([] : List Int).length : Int) + 1 - 1) = (P.length : Int) + Y1.length := by rw [w64 (by simp; omega) (by simp; omega)]; simp
    simp only [slices_symMergeCmpFunc_rune_bji.l1, w1, if_neg (show ¬ (P.length : Int) + (Y1.length : Int) < (P.length : Int) + Y1.length by omega), List.nil_append]
  | cons y Y2 ih =>
    intro Y1 k hk hb
    obtain ⟨k, rfl⟩ : ∃ j, k = j + 1 := ⟨k - 1, by omega⟩
    simp only [List.length_cons] at hk hb
    have hb' := hb
    unfold bigN at hb'
    have w1 : IntKind.i64.wrap ((P.length : Int) + Y1.length + ((y :: Y2).length : Int) + 1 - 1) = (P.length : Int) + Y1.length + Y2.length + 1 := by rw [w64 (by simp; omega) (by simp; omega)]; simp; omega
    have w2 : IntKind.i64.wrap ((P.length : Int) + Y1.length + 1) = (P.length : Int) + Y1.length + 1 := w64 (by omega) (by omega)
    have e : P ++ (Y1 ++ u :: ((y :: Y2) ++ Q)) = (P ++ Y1) ++ u :: y :: (Y2 ++ Q) := by simp
    have hl : ((P ++ Y1) ++ u :: y :: (Y2 ++ Q)).length = P.length + Y1.length + Y2.length + 2 + Q.length := by simp; omega
    have r1 : rd ((P ++ Y1) ++ u :: y :: (Y2 ++ Q)) ((P.length : Int) + Y1.length) = u := rd_at (by simp)
    have r2 : rd ((P ++ Y1) ++ u :: y :: (Y2 ++ Q)) ((P.length : Int) + Y1.length + 1) = y := rd_at1 (by simp)
    rw [e]
    simp only [slices_symMergeCmpFunc_rune_bji.l1, w1, if_pos (show (P.length : Int) + (Y1.length : Int) < (P.length : Int) + Y1.length + Y2.length + 1 by omega), w2, List.length_set, hl,
      if_pos (show (0 : Int) ≤ (P.length : Int) + Y1.length + 1 ∧ (P.length : Int) + Y1.length + 1 < ((P.length + Y1.length + Y2.length + 2 + Q.length : Nat) : Int) by omega),
      if_pos (show (0 : Int) ≤ (P.length : Int) + Y1.length ∧ (P.length : Int) + Y1.length < ((P.length + Y1.length + Y2.length + 2 + Q.length : Nat) : Int) by omega), r1, r2]
    rw [set_at (by simp; omega), set_at1 (by simp; omega)]
    have := ih (Y1 ++ [y]) k (by omega) (by simp; omega)
    have e1 : (P.length : Int) + ((Y1 ++ [y]).length : Int) + (Y2.length : Int) + 1 = (P.length : Int) + Y1.length + ((y :: Y2).length : Int) + 1 := by simp; omega
    have e2 : (P.length : Int) + ((Y1 ++ [y]).length : Int) = (P.length : Int) + Y1.length + 1 := by simp; omega
    rw [e1, e2] at this
    simpa using this
theorem bs_first (hc : Cmp t key) (ys : List Int) (a m b : Int) (u : Int) (hb : ys.length ≤ bigN) (ha : 0 ≤ a ∧ a < ys.length) (hu : rd ys a = u) (hm : 0 ≤ m) (hbl : b ≤ ys.length) : ∀ (n : Nat) (i j : Int) (k : Nat), (j - i).toNat ≤ n → n < k → m ≤ i → i ≤ j → j ≤ b →
    (m < i → key (rd ys (i - 1)) < key u) → (j < b → ¬ key (rd ys j) < key u) →
    ∃ s, m ≤ s ∧ s ≤ b ∧ (m < s → key (rd ys (s - 1)) < key u) ∧ (s < b → ¬ key (rd ys s) < key u) ∧ slices_symMergeCmpFunc_rune_bji.l2 k ys t a i j = slices_symMergeCmpFunc_rune_bji.l1 K0 s ys a := by
  intro n
  have hb' := hb
  unfold bigN at hb'
  induction n with
  | zero =>
    intro i j k h1 h2 h3 h4 h5 h6 h7
    obtain ⟨k, rfl⟩ : ∃ j, k = j + 1 := ⟨k - 1, by omega⟩
    obtain rfl : i = j := by omega
    exact ⟨i, h3, h5, h6, h7, by simp only [slices_symMergeCmpFunc_rune_bji.l2, if_neg (show ¬ i < i by omega)]⟩
  | succ n ih =>
    intro i j k h1 h2 h3 h4 h5 h6 h7
    obtain ⟨k, rfl⟩ : ∃ j, k = j + 1 := ⟨k - 1, by omega⟩
    by_cases c : i < j
    · have hh := half (x := i + j) (by omega) (by omega)
      have w1 : IntKind.i64.wrap ((i + j) / 2 + 1) = (i + j) / 2 + 1 := w64 (by omega) (by omega)
      simp only [slices_symMergeCmpFunc_rune_bji.l2, if_pos c, hh, if_pos (show (0 : Int) ≤ (i + j) / 2 ∧ (i + j) / 2 < (ys.length : Int) by omega), if_pos (show (0 : Int) ≤ a ∧ a < (ys.length : Int) from ha), hu, hc _ u, Option.bind_some, w1]
      by_cases d : key (rd ys ((i + j) / 2)) < key u
      · rw [if_pos (cI_lt.2 d)]
        exact ih _ _ k (by omega) (by omega) (by omega) (by omega) h5 (fun _ => by rw [show (i + j) / 2 + 1 - 1 = (i + j) / 2 by omega]; exact d) h7
      · rw [if_neg (fun h => d (cI_lt.1 h))]
        exact ih _ _ k (by omega) (by omega) h3 (by omega) (by omega) h6 (fun _ => d)
    · obtain rfl : i = j := by omega
      exact ⟨i, h3, h5, h6, h7, by simp only [slices_symMergeCmpFunc_rune_bji.l2, if_neg c]⟩
theorem cut_lt {Y1 Y2 : List Int} {u : Int} (h : Srt key (Y1 ++ Y2)) (h1 : ∀ A y, Y1 = A ++ [y] → key y < key u) (h2 : ∀ y B, Y2 = y :: B → ¬ key y < key u) : (∀ v ∈ Y1, key v < key u) ∧ (∀ v ∈ Y2, key u ≤ key v) := by
  obtain ⟨a, b, _⟩ := srt_parts key h
  refine ⟨fun v hv => ?_, fun v hv => ?_⟩
  · rcases List.eq_nil_or_concat Y1 with rfl | ⟨A, w, rfl⟩
    · cases hv
    rw [List.concat_eq_append] at *
    have hw := h1 A w rfl
    obtain ⟨_, _, h3⟩ := srt_parts key a
    rcases List.mem_append.1 hv with hv | hv
    · have := h3 v hv w (by simp); omega
    · rw [List.mem_singleton.1 hv]; exact hw
  · cases Y2 with
    | nil => cases hv
    | cons y B =>
      have := h2 y B rfl
      rcases List.mem_cons.1 hv with rfl | hv
      · omega
      · have := b.1 v hv; omega
theorem cut_le {X1 X2 : List Int} {v : Int} (h : Srt key (X1 ++ X2)) (h1 : ∀ A x, X1 = A ++ [x] → ¬ key v < key x) (h2 : ∀ x B, X2 = x :: B → key v < key x) : (∀ u ∈ X1, key u ≤ key v) ∧ (∀ u ∈ X2, key v < key u) := by
  obtain ⟨a, b, _⟩ := srt_parts key h
  refine ⟨fun w hw => last_le a h1 w hw, fun w hw => ?_⟩
  cases X2 with
  | nil => cases hw
  | cons y B =>
    have := h2 y B rfl
    rcases List.mem_cons.1 hw with rfl | hw
    · exact this
    · have := b.1 w hw; omega
theorem split_at (Y : List Int) (n : Nat) (h : n ≤ Y.length) : ∃ Y1 Y2, Y = Y1 ++ Y2 ∧ Y1.length = n := ⟨Y.take n, Y.drop n, by simp, by simp; omega⟩
theorem sym_first (hc : Cmp t key) (P Y Q : List Int) (u : Int) (hY : Srt key Y) (hb : P.length + 1 + Y.length + Q.length ≤ bigN) :
    slices_symMergeCmpFunc_rune_bji.l2 K0 (P ++ (u :: (Y ++ Q))) t (P.length : Int) ((P.length : Int) + 1) ((P.length : Int) + 1 + Y.length) = some (P ++ (sortL key (u :: Y) ++ Q)) := by
  have hb' := hb
  unfold bigN at hb'
  have hl : (P ++ (u :: (Y ++ Q))).length = P.length + 1 + Y.length + Q.length := by simp; omega
  obtain ⟨s, s1, s2, s3, s4, s5⟩ := bs_first hc (P ++ (u :: (Y ++ Q))) (P.length : Int) ((P.length : Int) + 1) ((P.length : Int) + 1 + Y.length) u (by omega) (by omega) (rd_at rfl) (by omega) (by omega) (bigN) ((P.length : Int) + 1) ((P.length : Int) + 1 + Y.length) K0 (by unfold bigN; omega) (ltK (Nat.le_refl _)) (by omega) (by omega) (by omega) (fun h => by omega) (fun h => by omega)
  rw [s5]
  obtain ⟨Y1, Y2, rfl, hn⟩ := split_at Y (s - (P.length + 1)).toNat (by omega)
  have hyl : (Y1 ++ Y2).length = Y1.length + Y2.length := by simp
  have es : s = (P.length : Int) + (([] : List Int).length : Int) + Y1.length + 1 := by simp; omega
  have hcut := cut_lt (u := u) hY (fun A y e => by
    subst e
    have hr : rd (P ++ (u :: (((A ++ [y]) ++ Y2) ++ Q))) (s - 1) = y := by
      have := rd_at (A := P ++ u :: A) (B := Y2 ++ Q) (x := y) (i := s - 1) (by simp at hn ⊢; omega)
      simpa using this
    have := s3 (by simp at hn; omega)
    rwa [hr] at this) (fun y B e => by
    subst e
    have hr : rd (P ++ (u :: ((Y1 ++ y :: B) ++ Q))) s = y := by
      have := rd_at (A := P ++ u :: Y1) (B := B ++ Q) (x := y) (i := s) (by simp; omega)
      simpa using this
    have := s4 (by simp at hyl ⊢; omega)
    rwa [hr] at this)
  have := mov_right P (Y2 ++ Q) u Y1 [] K0 (ltK (by unfold bigN; omega)) (by simp; omega)
  rw [es, merge_first key hY hcut.1 hcut.2]
  simpa using this
theorem mov_left (P Q : List Int) (v : Int) : ∀ (n : Nat) (X2 X1 Z : List Int) (k : Nat), X2.length = n → n < k → P.length + X1.length + n + Z.length + 1 + Q.length ≤ bigN →
    slices_symMergeCmpFunc_rune_bji.l3 k ((P.length : Int) + X1.length) (P ++ (X1 ++ (X2 ++ v :: (Z ++ Q)))) ((P.length : Int) + X1.length + n) = some (P ++ (X1 ++ v :: (X2 ++ (Z ++ Q)))) := by
  intro n
  induction n with
  | zero =>
    intro X2 X1 Z k h1 hk hb
    obtain ⟨k, rfl⟩ : ∃ j, k = j + 1 := ⟨k - 1, by omega⟩
    obtain rfl := List.eq_nil_of_length_eq_zero h1
    simp only [slices_symMergeCmpFunc_rune_bji.l3, if_neg (show ¬ (P.length : Int) + (X1.length : Int) < (P.length : Int) + X1.length + ((0 : Nat) : Int) by omega), List.nil_append]
  | succ n ih =>
    intro X2 X1 Z k h1 hk hb
    obtain ⟨k, rfl⟩ : ∃ j, k = j + 1 := ⟨k - 1, by omega⟩
    have hb' := hb
    unfold bigN at hb'
    rcases List.eq_nil_or_concat X2 with rfl | ⟨X', x, rfl⟩
    · simp at h1
    have hX : X'.length = n := by simpa using h1
    rw [List.concat_eq_append]
    have w1 : IntKind.i64.wrap ((P.length : Int) + X1.length + ((n + 1 : Nat) : Int) - 1) = (P.length : Int) + X1.length + n := by rw [w64 (by omega) (by omega)]; omega
    have e : P ++ (X1 ++ ((X' ++ [x]) ++ v :: (Z ++ Q))) = (P ++ (X1 ++ X')) ++ x :: v :: (Z ++ Q) := by simp
    have hl : ((P ++ (X1 ++ X')) ++ x :: v :: (Z ++ Q)).length = P.length + X1.length + n + 2 + Z.length + Q.length := by simp [hX]; omega
    have r1 : rd ((P ++ (X1 ++ X')) ++ x :: v :: (Z ++ Q)) ((P.length : Int) + X1.length + ((n + 1 : Nat) : Int)) = v := rd_at1 (by simp [hX]; omega)
    have r2 : rd ((P ++ (X1 ++ X')) ++ x :: v :: (Z ++ Q)) ((P.length : Int) + X1.length + (n : Int)) = x := rd_at (by simp [hX]; omega)
    rw [e]
    simp only [slices_symMergeCmpFunc_rune_bji.l3, if_pos (show (P.length : Int) + (X1.length : Int) < (P.length : Int) + X1.length + ((n + 1 : Nat) : Int) by omega), w1, List.length_set, hl,
      if_pos (show (0 : Int) ≤ (P.length : Int) + X1.length + ((n + 1 : Nat) : Int) ∧ (P.length : Int) + X1.length + ((n + 1 : Nat) : Int) < ((P.length + X1.length + n + 2 + Z.length + Q.length : Nat) : Int) by omega),
      if_pos (show (0 : Int) ≤ (P.length : Int) + X1.length + (n : Int) ∧ (P.length : Int) + X1.length + (n : Int) < ((P.length + X1.length + n + 2 + Z.length + Q.length : Nat) : Int) by omega), r1, r2]
    rw [set_at1 (by simp [hX]; omega), set_at (by simp [hX]; omega)]
    have := ih X' X1 (x :: Z) k hX (by omega) (by simp; omega)
    simpa using this
theorem bs_last (hc : Cmp t key) (ys : List Int) (a m : Int) (v : Int) (hb : ys.length ≤ bigN) (ha : 0 ≤ a) (hm : 0 ≤ m ∧ m < ys.length) (hv : rd ys m = v) : ∀ (n : Nat) (i j : Int) (k : Nat), (j - i).toNat ≤ n → n < k → a ≤ i → i ≤ j → j ≤ m →
    (a < i → ¬ key v < key (rd ys (i - 1))) → (j < m → key v < key (rd ys j)) →
    ∃ s, a ≤ s ∧ s ≤ m ∧ (a < s → ¬ key v < key (rd ys (s - 1))) ∧ (s < m → key v < key (rd ys s)) ∧ slices_symMergeCmpFunc_rune_bji.l4 k ys t m i j = slices_symMergeCmpFunc_rune_bji.l3 K0 s ys m := by
  intro n
  have hb' := hb
  unfold bigN at hb'
  induction n with
  | zero =>
    intro i j k h1 h2 h3 h4 h5 h6 h7
    obtain ⟨k, rfl⟩ : ∃ j, k = j + 1 := ⟨k - 1, by omega⟩
    obtain rfl : i = j := by omega
    exact ⟨i, h3, h5, h6, h7, by simp only [slices_symMergeCmpFunc_rune_bji.l4, if_neg (show ¬ i < i by omega)]⟩
  | succ n ih =>
    intro i j k h1 h2 h3 h4 h5 h6 h7
    obtain ⟨k, rfl⟩ : ∃ j, k = j + 1 := ⟨k - 1, by omega⟩
    by_cases c : i < j
    · have hh := half (x := i + j) (by omega) (by omega)
      have w1 : IntKind.i64.wrap ((i + j) / 2 + 1) = (i + j) / 2 + 1 := w64 (by omega) (by omega)
      simp only [slices_symMergeCmpFunc_rune_bji.l4, if_pos c, hh, if_pos (show (0 : Int) ≤ m ∧ m < (ys.length : Int) from hm), if_pos (show (0 : Int) ≤ (i + j) / 2 ∧ (i + j) / 2 < (ys.length : Int) by omega), hv, hc v _, Option.bind_some, w1]
      by_cases d : key v < key (rd ys ((i + j) / 2))
      · rw [if_neg (fun h => h (cI_lt.2 d))]
        exact ih _ _ k (by omega) (by omega) h3 (by omega) (by omega) h6 (fun _ => d)
      · rw [if_pos (fun h => d (cI_lt.1 h))]
        exact ih _ _ k (by omega) (by omega) (by omega) (by omega) h5 (fun _ => by rw [show (i + j) / 2 + 1 - 1 = (i + j) / 2 by omega]; exact d) h7
    · obtain rfl : i = j := by omega
      exact ⟨i, h3, h5, h6, h7, by simp only [slices_symMergeCmpFunc_rune_bji.l4, if_neg c]⟩
theorem sym_last (hc : Cmp t key) (P X Q : List Int) (v : Int) (hX : Srt key X) (hb : P.length + X.length + 1 + Q.length ≤ bigN) :
    slices_symMergeCmpFunc_rune_bji.l4 K0 (P ++ (X ++ (v :: Q))) t ((P.length : Int) + X.length) (P.length : Int) ((P.length : Int) + X.length) = some (P ++ (sortL key (X ++ [v]) ++ Q)) := by
  have hb' := hb
  unfold bigN at hb'
  have hl : (P ++ (X ++ (v :: Q))).length = P.length + X.length + 1 + Q.length := by simp; omega
  have hr : rd (P ++ (X ++ (v :: Q))) ((P.length : Int) + X.length) = v := by
    have := rd_at (A := P ++ X) (B := Q) (x := v) (i := (P.length : Int) + X.length) (by simp)
    simpa using this
  obtain ⟨s, s1, s2, s3, s4, s5⟩ := bs_last hc (P ++ (X ++ (v :: Q))) (P.length : Int) ((P.length : Int) + X.length) v (by omega) (by omega) (by omega) hr bigN (P.length : Int) ((P.length : Int) + X.length) K0 (by unfold bigN; omega) (ltK (Nat.le_refl _)) (by omega) (by omega) (by omega) (fun h => by omega) (fun h => by omega)
  rw [s5]
  obtain ⟨X1, X2, rfl, hn⟩ := split_at X (s - P.length).toNat (by omega)
  have hxl : (X1 ++ X2).length = X1.length + X2.length := by simp
  have es : s = (P.length : Int) + X1.length := by omega
  have hcut := cut_le (v := v) hX (fun A y e => by
    subst e
    have hr : rd (P ++ (((A ++ [y]) ++ X2) ++ (v :: Q))) (s - 1) = y := by
      have := rd_at (A := P ++ A) (B := X2 ++ v :: Q) (x := y) (i := s - 1) (by simp at hn ⊢; omega)
      simpa using this
    have := s3 (by simp at hn; omega)
    rwa [hr] at this) (fun y B e => by
    subst e
    have hr : rd (P ++ ((X1 ++ y :: B) ++ (v :: Q))) s = y := by
      have := rd_at (A := P ++ X1) (B := B ++ v :: Q) (x := y) (i := s) (by simp; omega)
      simpa using this
    have := s4 (by simp at hxl ⊢; omega)
    rwa [hr] at this)
  have := mov_left P Q v X2.length X2 X1 [] K0 rfl (ltK (by unfold bigN; omega)) (by simp; omega)
  rw [es, merge_last key hX hcut.2 hcut.1]
  have e : (P.length : Int) + ((X1 ++ X2).length : Int) = (P.length : Int) + X1.length + X2.length := by omega
  rw [e]
  simpa using this
end
end Go.Proofs.YtekafkokpnihfaaGreat
