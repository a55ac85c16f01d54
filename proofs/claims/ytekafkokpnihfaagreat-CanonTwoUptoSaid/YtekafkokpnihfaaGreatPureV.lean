/- Plain laws of slices.SortStableFunc and canon.Order: the whole. Own work of this repo. -/
import Derived.Test.YtekafkokpnihfaaGreatPureU
namespace Go.Proofs.YtekafkokpnihfaaGreat
open Go.RowKit
section
variable {t : Option Tbs} {key : Int → Int}
theorem bs_mid (hc : Cmp t key) (rec : Int → Int → Int → List Int → Option Tbs → Option (List Int)) (ys : List Int) (a m b mid lo hi : Int) (hb : ys.length ≤ bigN) (ha : 0 ≤ a) (hbb : 0 ≤ b ∧ b ≤ 1073741824 ∧ a ≤ 1073741824) (hm : 0 ≤ m ∧ m ≤ 1073741824) (hmid : mid = (a + b) / 2)
    (hg : ∀ c, lo ≤ c → c < hi → (0 ≤ c ∧ c < (ys.length : Int)) ∧ (0 ≤ mid + m - 1 - c ∧ mid + m - 1 - c < (ys.length : Int))) (hlo : 0 ≤ lo) (hhi : hi ≤ 1073741824) : ∀ (n : Nat) (i j : Int) (k : Nat), (j - i).toNat ≤ n → n < k → lo ≤ i → i ≤ j → j ≤ hi →
    (lo < i → ¬ key (rd ys (mid + m - i)) < key (rd ys (i - 1))) → (j < hi → key (rd ys (mid + m - 1 - j)) < key (rd ys j)) →
    ∃ s, lo ≤ s ∧ s ≤ hi ∧ (lo < s → ¬ key (rd ys (mid + m - s)) < key (rd ys (s - 1))) ∧ (s < hi → key (rd ys (mid + m - 1 - s)) < key (rd ys s)) ∧
      slices_symMergeCmpFunc_rune_bji.l5 k rec ys t a m b i j = (if s < m then slices_symMergeCmpFunc_rune_bji.j5 rec ys t a m b s (decide (m < mid + m - s)) else slices_symMergeCmpFunc_rune_bji.j5 rec ys t a m b s false) := by
  have hb' := hb
  unfold bigN at hb'
  have e0 := half (x := a + b) (by omega) (by omega)
  rw [← hmid] at e0
  have e1 : IntKind.i64.wrap (mid + m) = mid + m := w64 (by omega) (by omega)
  have e2 : IntKind.i64.wrap (mid + m - 1) = mid + m - 1 := w64 (by omega) (by omega)
  have fin : ∀ (i : Int) (k : Nat), lo ≤ i → i ≤ hi → slices_symMergeCmpFunc_rune_bji.l5 (k + 1) rec ys t a m b i i = (if i < m then slices_symMergeCmpFunc_rune_bji.j5 rec ys t a m b i (decide (m < mid + m - i)) else slices_symMergeCmpFunc_rune_bji.j5 rec ys t a m b i false) := by
    intro i k h3 h4
    have e3 : IntKind.i64.wrap (mid + m - i) = mid + m - i := w64 (by omega) (by omega)
    simp only [slices_symMergeCmpFunc_rune_bji.l5, if_neg (show ¬ i < i by omega), e0, e1, e3]
  intro n
  induction n with
  | zero =>
    intro i j k h1 h2 h3 h4 h5 h6 h7
    obtain ⟨k, rfl⟩ : ∃ j, k = j + 1 := ⟨k - 1, by omega⟩
    obtain rfl : i = j := by omega
    exact ⟨i, h3, h5, h6, h7, fin i k h3 h5⟩
  | succ n ih =>
    intro i j k h1 h2 h3 h4 h5 h6 h7
    obtain ⟨k, rfl⟩ : ∃ j, k = j + 1 := ⟨k - 1, by omega⟩
    by_cases c : i < j
    · have hh := half (x := i + j) (by omega) (by omega)
      obtain ⟨g1, g2⟩ := hg ((i + j) / 2) (by omega) (by omega)
      have w1 : IntKind.i64.wrap ((i + j) / 2 + 1) = (i + j) / 2 + 1 := w64 (by omega) (by omega)
      have w2 : IntKind.i64.wrap (mid + m - 1 - (i + j) / 2) = mid + m - 1 - (i + j) / 2 := w64 (by omega) (by omega)
      simp only [slices_symMergeCmpFunc_rune_bji.l5, if_pos c, e0, e1, e2, hh, w1, w2, if_pos g1, if_pos g2, hc _ _, Option.bind_some]
      by_cases d : key (rd ys (mid + m - 1 - (i + j) / 2)) < key (rd ys ((i + j) / 2))
      · rw [if_neg (fun h => h (cI_lt.2 d))]
        exact ih _ _ k (by omega) (by omega) h3 (by omega) (by omega) h6 (fun _ => d)
      · rw [if_pos (fun h => d (cI_lt.1 h))]
        exact ih _ _ k (by omega) (by omega) (by omega) (by omega) h5 (fun _ => by rw [show (i + j) / 2 + 1 - 1 = (i + j) / 2 by omega, show mid + m - ((i + j) / 2 + 1) = mid + m - 1 - (i + j) / 2 by omega]; exact d) h7
    · obtain rfl : i = j := by omega
      exact ⟨i, h3, h5, h6, h7, fin i k h3 h5⟩
theorem sort_nil_l {Y : List Int} (h : Srt key Y) : sortL key ([] ++ Y) = Y := by rw [List.nil_append]; exact sort_id key h
theorem sort_nil_r {X : List Int} (h : Srt key X) : sortL key (X ++ []) = X := by rw [List.append_nil]; exact sort_id key h
theorem sym_eq (hc : Cmp t key) : ∀ (n : Nat) (P X Y Q : List Int) (k : Nat), X.length + Y.length ≤ n → n < k → 0 < X.length → 0 < Y.length → Srt key X → Srt key Y → P.length + X.length + Y.length + Q.length ≤ bigN →
    slices_symMergeCmpFunc_rune_bji.f k (P.length : Int) ((P.length : Int) + X.length) ((P.length : Int) + X.length + Y.length) (P ++ (X ++ (Y ++ Q))) t = some (P ++ (sortL key (X ++ Y) ++ Q)) := by
  intro n
  induction n with
  | zero => intro P X Y Q k h1 h2 h3; omega
  | succ n ih =>
    intro P X Y Q k h1 h2 h3 h4 hX hY hb
    obtain ⟨k, rfl⟩ : ∃ j, k = j + 1 := ⟨k - 1, by omega⟩
    have hb' := hb
    unfold bigN at hb'
    have w1 : IntKind.i64.wrap ((P.length : Int) + X.length - P.length) = X.length := by rw [w64 (by omega) (by omega)]; omega
    have w2 : IntKind.i64.wrap ((P.length : Int) + X.length + Y.length - ((P.length : Int) + X.length)) = Y.length := by rw [w64 (by omega) (by omega)]; omega
    simp only [slices_symMergeCmpFunc_rune_bji.f, slices_symMergeCmpFunc_rune_bji.b, w1, w2]
    by_cases c1 : (X.length : Int) = 1
    · rw [if_pos c1]
      obtain ⟨u, rfl⟩ : ∃ u, X = [u] := by
        cases X with
        | nil => simp at h3
        | cons u X' => exact ⟨u, by rw [List.eq_nil_of_length_eq_zero (l := X') (by simp at c1; omega)]⟩
      have := sym_first hc P Y Q u hY (by simp at hb; omega)
      simpa using this
    · rw [if_neg c1]
      by_cases c2 : (Y.length : Int) = 1
      · rw [if_pos c2]
        obtain ⟨v, rfl⟩ : ∃ v, Y = [v] := by
          cases Y with
          | nil => simp at h4
          | cons u X' => exact ⟨u, by rw [List.eq_nil_of_length_eq_zero (l := X') (by simp at c2; omega)]⟩
        have := sym_last hc P X Q v hX (by simp at hb; omega)
        simpa using this
      · rw [if_neg c2]
        obtain ⟨mid, hmid⟩ : ∃ mid : Int, mid = ((P.length : Int) + ((P.length : Int) + X.length + Y.length)) / 2 := ⟨_, rfl⟩
        have e0 := half (x := (P.length : Int) + ((P.length : Int) + X.length + Y.length)) (by omega) (by omega)
        rw [← hmid] at e0
        have e1 : IntKind.i64.wrap (mid + ((P.length : Int) + X.length)) = mid + ((P.length : Int) + X.length) := w64 (by omega) (by omega)
        have e2 : IntKind.i64.wrap (mid + ((P.length : Int) + X.length) - ((P.length : Int) + X.length + Y.length)) = mid - Y.length := by rw [w64 (by omega) (by omega)]; omega
        simp only [e0, e1, e2, slices_symMergeCmpFunc_rune_bji.j6]
        have hl : (P ++ (X ++ (Y ++ Q))).length = P.length + X.length + Y.length + Q.length := by simp; omega
        -- the search
        have hs : ∃ s, (P.length : Int) ≤ s ∧ s ≤ (P.length : Int) + X.length ∧ s ≤ mid ∧ mid - Y.length ≤ s ∧
            ((P.length : Int) < s → mid - Y.length < s → ¬ key (rd (P ++ (X ++ (Y ++ Q))) (mid + ((P.length : Int) + X.length) - s)) < key (rd (P ++ (X ++ (Y ++ Q))) (s - 1))) ∧
            (s < (P.length : Int) + X.length → s < mid → key (rd (P ++ (X ++ (Y ++ Q))) (mid + ((P.length : Int) + X.length) - 1 - s)) < key (rd (P ++ (X ++ (Y ++ Q))) s)) ∧
            (if mid < (P.length : Int) + X.length then slices_symMergeCmpFunc_rune_bji.l5 K0 (slices_symMergeCmpFunc_rune_bji.f k) (P ++ (X ++ (Y ++ Q))) t (P.length : Int) ((P.length : Int) + X.length) ((P.length : Int) + X.length + Y.length) (mid - Y.length) mid
              else slices_symMergeCmpFunc_rune_bji.l5 K0 (slices_symMergeCmpFunc_rune_bji.f k) (P ++ (X ++ (Y ++ Q))) t (P.length : Int) ((P.length : Int) + X.length) ((P.length : Int) + X.length + Y.length) (P.length : Int) ((P.length : Int) + X.length)) =
            (if s < (P.length : Int) + X.length then slices_symMergeCmpFunc_rune_bji.j5 (slices_symMergeCmpFunc_rune_bji.f k) (P ++ (X ++ (Y ++ Q))) t (P.length : Int) ((P.length : Int) + X.length) ((P.length : Int) + X.length + Y.length) s (decide ((P.length : Int) + X.length < mid + ((P.length : Int) + X.length) - s))
              else slices_symMergeCmpFunc_rune_bji.j5 (slices_symMergeCmpFunc_rune_bji.f k) (P ++ (X ++ (Y ++ Q))) t (P.length : Int) ((P.length : Int) + X.length) ((P.length : Int) + X.length + Y.length) s false) := by
          by_cases c3 : mid < (P.length : Int) + X.length
          · rw [if_pos c3]
            obtain ⟨s, s1, s2, s3, s4, s5⟩ := bs_mid hc (slices_symMergeCmpFunc_rune_bji.f k) (P ++ (X ++ (Y ++ Q))) (P.length : Int) ((P.length : Int) + X.length) ((P.length : Int) + X.length + Y.length) mid (mid - Y.length) mid (by omega) (by omega) ⟨by omega, by omega, by omega⟩ ⟨by omega, by omega⟩ hmid
              (fun c hc1 hc2 => ⟨⟨by omega, by omega⟩, by omega, by omega⟩) (by omega) (by omega) bigN (mid - Y.length) mid K0 (by unfold bigN; omega) (ltK (Nat.le_refl _)) (by omega) (by omega) (by omega) (fun h => by omega) (fun h => by omega)
            exact ⟨s, by omega, by omega, s2, s1, fun _ h => s3 h, fun _ h => s4 h, s5⟩
          · rw [if_neg c3]
            obtain ⟨s, s1, s2, s3, s4, s5⟩ := bs_mid hc (slices_symMergeCmpFunc_rune_bji.f k) (P ++ (X ++ (Y ++ Q))) (P.length : Int) ((P.length : Int) + X.length) ((P.length : Int) + X.length + Y.length) mid (P.length : Int) ((P.length : Int) + X.length) (by omega) (by omega) ⟨by omega, by omega, by omega⟩ ⟨by omega, by omega⟩ hmid
              (fun c hc1 hc2 => ⟨⟨by omega, by omega⟩, by omega, by omega⟩) (by omega) (by omega) bigN (P.length : Int) ((P.length : Int) + X.length) K0 (by unfold bigN; omega) (ltK (Nat.le_refl _)) (by omega) (by omega) (by omega) (fun h => by omega) (fun h => by omega)
            exact ⟨s, s1, s2, by omega, by omega, fun h _ => s3 h, fun h _ => s4 h, s5⟩
        obtain ⟨s, s1, s2, s3, s4, s5, s6, s7⟩ := hs
        rw [s7]
        clear s7
        obtain ⟨X1, X2, rfl, hn⟩ := split_at X (s - P.length).toNat (by omega)
        obtain ⟨Y1, Y2, rfl, hn2⟩ := split_at Y (mid - s).toNat (by omega)
        have hxl : (X1 ++ X2).length = X1.length + X2.length := by simp
        have hyl : (Y1 ++ Y2).length = Y1.length + Y2.length := by simp
        have es : s = (P.length : Int) + X1.length := by omega
        have em : mid = (P.length : Int) + X1.length + Y1.length := by omega
        obtain ⟨hX1, hX2, _⟩ := srt_parts key hX
        obtain ⟨hY1, hY2, _⟩ := srt_parts key hY
        -- the first of X2 and the last of Y1; the last of X1 and the first of Y2
        have q3 : ∀ u ∈ X2, ∀ v ∈ Y1, key v < key u := by
          intro u hu v hv
          rcases List.eq_nil_or_concat Y1 with rfl | ⟨A, w, rfl⟩
          · cases hv
          cases X2 with
          | nil => cases hu
          | cons x B =>
            rw [List.concat_eq_append] at *
            have hx' : (x :: B).length = B.length + 1 := rfl
            have ha' : (A ++ [w]).length = A.length + 1 := by simp
            have hlen : (P ++ (X1 ++ x :: B) ++ A).length = P.length + (X1 ++ x :: B).length + A.length := by simp; omega
            have h6 := s6 (by omega) (by omega)
            have r1 : rd (P ++ ((X1 ++ x :: B) ++ (((A ++ [w]) ++ Y2) ++ Q))) s = x := by
              have := rd_at (A := P ++ X1) (B := B ++ (A ++ [w] ++ Y2 ++ Q)) (x := x) (i := s) (by simp; omega)
              simpa using this
            have r2 : rd (P ++ ((X1 ++ x :: B) ++ (((A ++ [w]) ++ Y2) ++ Q))) (mid + ((P.length : Int) + ((X1 ++ x :: B).length : Int)) - 1 - s) = w := by
              have := rd_at (A := P ++ (X1 ++ x :: B) ++ A) (B := Y2 ++ Q) (x := w) (i := mid + ((P.length : Int) + ((X1 ++ x :: B).length : Int)) - 1 - s) (by omega)
              simpa using this
            rw [r1, r2] at h6
            have a1 : key v ≤ key w := by
              obtain ⟨_, _, h⟩ := srt_parts key hY1
              rcases List.mem_append.1 hv with hv | hv
              · exact h v hv w (by simp)
              · rw [List.mem_singleton.1 hv]; omega
            have a2 : key x ≤ key u := by
              rcases List.mem_cons.1 hu with rfl | hu
              · omega
              · exact hX2.1 u hu
            omega
        have q4 : ∀ u ∈ X1, ∀ v ∈ Y2, key u ≤ key v := by
          intro u hu v hv
          rcases List.eq_nil_or_concat X1 with rfl | ⟨A, w, rfl⟩
          · cases hu
          cases Y2 with
          | nil => cases hv
          | cons y B =>
            rw [List.concat_eq_append] at *
            have hy' : (y :: B).length = B.length + 1 := rfl
            have ha' : (A ++ [w]).length = A.length + 1 := by simp
            have hlen : (P ++ A).length = P.length + A.length := by simp
            have hlen2 : (P ++ ((A ++ [w]) ++ X2) ++ Y1).length = P.length + ((A ++ [w]) ++ X2).length + Y1.length := by simp; omega
            have h5 := s5 (by omega) (by omega)
            have r1 : rd (P ++ (((A ++ [w]) ++ X2) ++ ((Y1 ++ y :: B) ++ Q))) (s - 1) = w := by
              have := rd_at (A := P ++ A) (B := X2 ++ (Y1 ++ y :: B ++ Q)) (x := w) (i := s - 1) (by omega)
              simpa using this
            have r2 : rd (P ++ (((A ++ [w]) ++ X2) ++ ((Y1 ++ y :: B) ++ Q))) (mid + ((P.length : Int) + (((A ++ [w]) ++ X2).length : Int)) - s) = y := by
              have := rd_at (A := P ++ ((A ++ [w]) ++ X2) ++ Y1) (B := B ++ Q) (x := y) (i := mid + ((P.length : Int) + (((A ++ [w]) ++ X2).length : Int)) - s) (by omega)
              simpa using this
            rw [r1, r2] at h5
            have a1 : key u ≤ key w := by
              obtain ⟨_, _, h⟩ := srt_parts key hX1
              rcases List.mem_append.1 hu with hu | hu
              · exact h u hu w (by simp)
              · rw [List.mem_singleton.1 hu]; omega
            have a2 : key y ≤ key v := by
              rcases List.mem_cons.1 hv with rfl | hv
              · omega
              · exact hY2.1 v hv
            omega
        have e3 : IntKind.i64.wrap (mid + ((P.length : Int) + ((X1 ++ X2).length : Int)) - s) = mid + X2.length := by rw [w64 (by omega) (by omega)]; omega
        have hj2 : ∀ Z : List Int, Z.length = X1.length + Y1.length → slices_symMergeCmpFunc_rune_bji.j2 (slices_symMergeCmpFunc_rune_bji.f k) t (P.length : Int) ((P.length : Int) + ((X1 ++ X2).length : Int)) ((P.length : Int) + ((X1 ++ X2).length : Int) + ((Y1 ++ Y2).length : Int)) s (P ++ (Z ++ (X2 ++ (Y2 ++ Q)))) = some (P ++ (Z ++ (sortL key (X2 ++ Y2) ++ Q))) := by
          intro Z hZ
          simp only [slices_symMergeCmpFunc_rune_bji.j2, slices_symMergeCmpFunc_rune_bji.j1, e0, e1, e3]
          by_cases d1 : mid < mid + X2.length
          · rw [if_pos d1]
            by_cases d2 : mid + X2.length < (P.length : Int) + ((X1 ++ X2).length : Int) + ((Y1 ++ Y2).length : Int)
            · rw [decide_eq_true d2, if_pos rfl]
              have := ih (P ++ Z) X2 Y2 Q k (by omega) (by omega) (by omega) (by omega) hX2 hY2 (by simp; omega)
              have f1 : ((P ++ Z).length : Int) = mid := by simp; omega
              have f2 : mid + (X2.length : Int) + Y2.length = (P.length : Int) + ((X1 ++ X2).length : Int) + ((Y1 ++ Y2).length : Int) := by omega
              rw [f1, f2] at this
              have f3 : P ++ (Z ++ (X2 ++ (Y2 ++ Q))) = P ++ Z ++ (X2 ++ (Y2 ++ Q)) := by simp
              rw [f3, this]; simp
            · rw [decide_eq_false d2]
              have : Y2 = [] := List.eq_nil_of_length_eq_zero (by omega)
              subst this
              simp only [Bool.false_eq_true, if_false, sort_nil_r hX2, List.nil_append]
          · rw [if_neg d1]
            have : X2 = [] := List.eq_nil_of_length_eq_zero (by omega)
            subst this
            simp only [Bool.false_eq_true, if_false, List.nil_append, sort_id key hY2]
        have hj4 : slices_symMergeCmpFunc_rune_bji.j4 (slices_symMergeCmpFunc_rune_bji.f k) t (P.length : Int) ((P.length : Int) + ((X1 ++ X2).length : Int)) ((P.length : Int) + ((X1 ++ X2).length : Int) + ((Y1 ++ Y2).length : Int)) s (P ++ (X1 ++ (Y1 ++ (X2 ++ (Y2 ++ Q))))) = some (P ++ (sortL key (X1 ++ Y1) ++ (sortL key (X2 ++ Y2) ++ Q))) := by
          have hz := hj2 (sortL key (X1 ++ Y1)) (by rw [sort_len]; simp)
          simp only [slices_symMergeCmpFunc_rune_bji.j4, slices_symMergeCmpFunc_rune_bji.j3, e0]
          by_cases d1 : (P.length : Int) < s
          · rw [if_pos d1]
            by_cases d2 : s < mid
            · rw [decide_eq_true d2, if_pos rfl]
              have := ih P X1 Y1 (X2 ++ (Y2 ++ Q)) k (by omega) (by omega) (by omega) (by omega) hX1 hY1 (by simp; omega)
              rw [← es, show s + (Y1.length : Int) = mid by omega] at this
              rw [this, Option.bind_some, hz]
            · rw [decide_eq_false d2]
              have : Y1 = [] := List.eq_nil_of_length_eq_zero (by omega)
              subst this
              rw [sort_nil_r hX1] at hz ⊢
              simp only [Bool.false_eq_true, if_false, List.nil_append] at hz ⊢
              exact hz
          · rw [if_neg d1]
            have : X1 = [] := List.eq_nil_of_length_eq_zero (by omega)
            subst this
            rw [sort_nil_l hY1] at hz ⊢
            simp only [Bool.false_eq_true, if_false, List.nil_append] at hz ⊢
            exact hz
        have goal : P ++ (sortL key ((X1 ++ X2) ++ (Y1 ++ Y2)) ++ Q) = P ++ (sortL key (X1 ++ Y1) ++ (sortL key (X2 ++ Y2) ++ Q)) := by
          rw [merge_split key hX hY q3 q4]; simp
        rw [goal, ← hj4]
        have f4 : P ++ ((X1 ++ X2) ++ ((Y1 ++ Y2) ++ Q)) = P ++ (X1 ++ (X2 ++ (Y1 ++ (Y2 ++ Q)))) := by simp
        rw [f4]
        have f5 : mid + ((P.length : Int) + ((X1 ++ X2).length : Int)) - s = mid + X2.length := by omega
        rw [f5]
        by_cases d1 : s < (P.length : Int) + ((X1 ++ X2).length : Int)
        · rw [if_pos d1]
          by_cases d2 : (P.length : Int) + ((X1 ++ X2).length : Int) < mid + X2.length
          · rw [decide_eq_true d2]
            simp only [slices_symMergeCmpFunc_rune_bji.j5, if_true, e0, e1, e3]
            have := rot_eq (t := t) (P ++ X1) X2 Y1 (Y2 ++ Q) (by omega) (by omega) (by simp; omega)
            have f1 : ((P ++ X1).length : Int) = s := by simp; omega
            have f2 : s + (X2.length : Int) = (P.length : Int) + ((X1 ++ X2).length : Int) := by omega
            have f3 : (P.length : Int) + ((X1 ++ X2).length : Int) + (Y1.length : Int) = mid + X2.length := by omega
            rw [f1, f2, f3] at this
            have f6 : P ++ (X1 ++ (X2 ++ (Y1 ++ (Y2 ++ Q)))) = P ++ X1 ++ (X2 ++ (Y1 ++ (Y2 ++ Q))) := by simp
            rw [f6, this, Option.bind_some]; simp
          · rw [decide_eq_false d2]
            have : Y1 = [] := List.eq_nil_of_length_eq_zero (by omega)
            subst this
            simp only [slices_symMergeCmpFunc_rune_bji.j5, Bool.false_eq_true, if_false, List.nil_append]
        · rw [if_neg d1]
          have : X2 = [] := List.eq_nil_of_length_eq_zero (by omega)
          subst this
          simp only [slices_symMergeCmpFunc_rune_bji.j5, Bool.false_eq_true, if_false, List.nil_append]
end
end Go.Proofs.YtekafkokpnihfaaGreat
