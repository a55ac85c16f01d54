/- Plain law of posternlaw12.CanonTwo: what two decomposers tell in pieces is what each name decomposes to. Own work of this repo. -/
import Derived.Test.YtekafkokpnihfaaGreatPureCB
import Derived.Test.YtekafkokpnihfaaGreatTE0
namespace Go.Proofs.YtekafkokpnihfaaGreat
open Go.RowKit

theorem ordA_cut (key : Int → Int) (c : Int) (hc : key c = 0) (r : List Int) : ∀ (u acc : List Int), ordA key acc (u ++ c :: r) = ordA key acc u ++ (c :: ordA key [] r)
  | [], acc => by simp [ordA, hc]
  | x :: u, acc => by
    rw [List.cons_append, ordA, ordA]
    split
    · rw [ordA_cut key c hc r u []]; simp
    · rw [ordA_cut key c hc r u _]
theorem ord_cut (key : Int → Int) (c : Int) (hc : key c = 0) (u r : List Int) : ordL key (u ++ c :: r) = ordL key u ++ ordL key (c :: r) := by
  have h2 := ordA_cut key c hc r [] []
  simp only [List.nil_append] at h2
  rw [ordL, ordA_cut key c hc r u [], ordL, ordL, h2]
  simp [ordA, sortL]
theorem feed_eq {t : Option Tbs} {key : Int → Int} {pa : Int → List Int} {n : Nat} (h : Tb t key pa n) (l kept : List Int) (hl : 54 * l.length + kept.length ≤ bigN) :
    ∃ u w, kept ++ l.flatMap (fullN pa n) = u ++ w ∧ canon_Decomposer_Feed_pfg.f l t kept = some (ordL key u, w) ∧ ∀ rest, ordL key ((u ++ w) ++ rest) = ordL key u ++ ordL key (w ++ rest) := by
  have hfl := flat_len h l
  have hb := hl
  unfold bigN at hb
  obtain ⟨B, hB⟩ : ∃ B, B = l.flatMap (fullN pa n) := ⟨_, rfl⟩
  rw [← hB] at hfl ⊢
  have hp := parts_eq h l (by omega)
  rw [← hB] at hp
  unfold canon_Decomposer_Feed_pfg.f
  rw [hp, Option.bind_some, if_pos (by unfold most; omega)]
  have hlen : (kept ++ B).length = kept.length + B.length := by simp
  -- nothing is cut
  have none' : ∀ (c : Int) (go : Int → Option (List Int × List Int)), c ≤ 0 → canon_Decomposer_Feed_pfg.j1 go t kept B c false = some (ordL key [], kept ++ B) := by
    intro c go hc
    simp only [canon_Decomposer_Feed_pfg.j1, Bool.false_eq_true, if_false, if_pos hc]
    rfl
  have loop : ∀ (s v : List Int) (k : Nat), kept ++ B = s ++ v → s.length < k → ∃ u w, kept ++ B = u ++ w ∧ canon_Decomposer_Feed_pfg.l1 k t kept B ((s.length : Int) - 1) = some (ordL key u, w) ∧ ∀ rest, ordL key ((u ++ w) ++ rest) = ordL key u ++ ordL key (w ++ rest) := by
    intro s
    induction hs : s.length generalizing s with
    | zero =>
      intro v k e hk
      obtain ⟨k, rfl⟩ : ∃ j, k = j + 1 := ⟨k - 1, by omega⟩
      refine ⟨[], kept ++ B, rfl, ?_, fun rest => by simp [ordL, ordA, sortL]⟩
      rw [canon_Decomposer_Feed_pfg.l1, if_neg (by omega)]
      exact none' _ _ (by omega)
    | succ m ih =>
      intro v k e hk
      obtain ⟨k, rfl⟩ : ∃ j, k = j + 1 := ⟨k - 1, by omega⟩
      rcases List.eq_nil_or_concat s with rfl | ⟨s', c, rfl⟩
      · simp at hs
      rw [List.concat_eq_append] at e hs
      have hs' : s'.length = m := by simpa using hs
      have hl2 : (kept ++ B).length = m + 1 + v.length := by rw [e]; simp [hs']; try omega
      have rc : rd (kept ++ B) (((m + 1 : Nat) : Int) - 1) = c := by
        have := rd_at (A := s') (B := v) (x := c) (i := ((m + 1 : Nat) : Int) - 1) (by rw [hs']; omega)
        rw [e]; simpa using this
      rw [canon_Decomposer_Feed_pfg.l1, if_pos (by omega), if_pos ⟨by omega, by omega⟩, rc, h.cls c, Option.bind_some]
      by_cases hc : key c = 0
      · rw [decide_eq_false (by simpa using hc)]
        by_cases h0 : m = 0
        · subst h0
          exact ⟨[], kept ++ B, rfl, none' _ _ (by omega), fun rest => by simp [ordL, ordA, sortL]⟩
        · refine ⟨s', c :: v, by rw [e]; simp, ?_, fun rest => ?_⟩
          · have g1 : sub (kept ++ B) 0 (((m + 1 : Nat) : Int) - 1) = s' := by
              have := sub_pre (xs := kept ++ B) (pre := s') (t := c :: v) (by rw [e]; simp)
              rw [hs'] at this
              rw [show ((m + 1 : Nat) : Int) - 1 = (m : Int) by omega]; exact this
            have g2 : sub (kept ++ B) (((m + 1 : Nat) : Int) - 1) ((kept ++ B).length : Int) = c :: v := by
              have := sub_suf (xs := kept ++ B) (pre := s') (t := c :: v) (by rw [e]; simp)
              rw [hs'] at this
              rw [show ((m + 1 : Nat) : Int) - 1 = (m : Int) by omega]; exact this
            simp only [canon_Decomposer_Feed_pfg.j1, Bool.false_eq_true, if_false]
            rw [if_neg (by omega), if_pos ⟨by omega, by omega, by omega⟩, g1, order_eq h.cls s' (by unfold bigN; omega), Option.bind_some, if_pos ⟨by omega, by omega, by omega⟩, g2, cl_int _ (by simp; unfold bigN; omega)]
            rfl
          · have := ord_cut key c hc s' (v ++ rest)
            simpa using this
      · rw [decide_eq_true (by simpa using hc)]
        simp only [canon_Decomposer_Feed_pfg.j1, if_true]
        rw [w64 (by omega) (by omega)]
        have := ih s' hs' (c :: v) k (by rw [e]; simp) (by omega)
        rw [show ((m + 1 : Nat) : Int) - 1 - 1 = (m : Int) - 1 by omega]
        exact this
  have hw : IntKind.i64.wrap (((kept ++ B).length : Int) - 1) = ((kept ++ B).length : Int) - 1 := w64 (by omega) (by omega)
  rw [hw]
  exact loop (kept ++ B) [] K0 (by simp) (ltK (by unfold bigN; omega))
theorem end_eq {t : Option Tbs} {key : Int → Int} {pa : Int → List Int} {n : Nat} (h : Tb t key pa n) (kept : List Int) (hl : kept.length ≤ bigN) : canon_Decomposer_End_hgl.f t kept = some (ordL key kept, []) := by
  rw [canon_Decomposer_End_hgl.f, order_eq h.cls kept hl, Option.bind_some]
def Fed (key : Int → Int) (F : Int → List Int) (all x kept : List Int) : Prop := ∀ rest, ordL key (all.flatMap F ++ rest) = x ++ ordL key (kept ++ rest)
theorem Fed.nil (key : Int → Int) (F : Int → List Int) : Fed key F [] [] [] := fun rest => rfl
theorem Fed.len {key : Int → Int} {F : Int → List Int} {all x kept : List Int} (h : Fed key F all x kept) : x.length + kept.length = (all.flatMap F).length := by
  have := congrArg List.length (h [])
  simpa [ord_len] using this.symm
theorem Fed.all {key : Int → Int} {F : Int → List Int} {all x kept : List Int} (h : Fed key F all x kept) : x ++ ordL key kept = ordL key (all.flatMap F) := by
  have := h []
  simpa using this.symm
theorem Fed.step {key : Int → Int} {F : Int → List Int} {all x kept l u w : List Int} (h : Fed key F all x kept) (e : kept ++ l.flatMap F = u ++ w) (hu : ∀ rest, ordL key ((u ++ w) ++ rest) = ordL key u ++ ordL key (w ++ rest)) : Fed key F (all ++ l) (x ++ ordL key u) w := by
  intro rest
  have := h (l.flatMap F ++ rest)
  rw [List.flatMap_append, List.append_assoc, this, ← List.append_assoc kept, e, hu rest]
  simp
theorem take_more {xs : List (List Int)} {i : Nat} (h : i < xs.length) : (xs.take (i + 1)).flatten = (xs.take i).flatten ++ rd xs (i : Int) := by
  rw [List.take_add_one]
  have : xs[i]? = some (rd xs (i : Int)) := by
    have := rd_get (xs := xs) (i := (i : Int)) (by omega) (by omega)
    simpa using this
  rw [this]; simp
theorem take_end {xs : List (List Int)} {i : Nat} (h : xs.length ≤ i) : (xs.take (i + 1)).flatten = (xs.take i).flatten := by
  rw [List.take_of_length_le h, List.take_of_length_le (by omega)]
theorem take_len (xs : List (List Int)) (i : Nat) : (xs.take i).flatten.length ≤ xs.flatten.length := by
  have : xs.flatten = (xs.take i).flatten ++ (xs.drop i).flatten := by rw [← List.flatten_append, List.take_append_drop]
  rw [this]; simp
section
variable {t : Option Tbs} {key : Int → Int} {pa : Int → List Int} {n : Nat}
theorem two_end (h : Tb t key pa n) (one two : List (List Int)) (r : Option Tbs × Bk × Bool) (d e : S10) (hr : r.1 = t) (hd : d.t = t) (he : e.t = t) (i : Nat) (allX allY x y kx ky : List Int) (k : Nat) (h1 : one.length ≤ i) (h2 : two.length ≤ i)
    (ex : allX.length ≤ 1048577) (ey : allY.length ≤ 1048577) (fx : Fed key (fullN pa n) allX x kx) (fy : Fed key (fullN pa n) allY y ky) :
    law12_CanonTwo.l1 (k + 1) one two r d e allY allX y x ky kx (i : Int) = some true := by
  have lx := fx.len
  have ly := fy.len
  have gx := flat_len h allX
  have gy := flat_len h allY
  have hb : bigN = 1073741824 := rfl
  have hm : most = 2147483648 := rfl
  have dx := decompose_eq h allX (by omega)
  have dy := decompose_eq h allY (by omega)
  rw [law12_CanonTwo.l1, if_neg (by omega), decide_eq_false (by omega)]
  simp only [law12_CanonTwo.j4, Bool.false_eq_true, if_false, hd, he, hr]
  rw [end_eq h kx (by omega), Option.bind_some]
  simp only []
  rw [if_pos (by rw [ord_len]; omega), end_eq h ky (by omega), Option.bind_some]
  simp only []
  rw [if_pos (by rw [ord_len]; omega), dx, Option.bind_some, fx.all, runes_eq _ _ (by rw [ord_len]; omega), Option.bind_some, decide_eq_true rfl, if_neg (by decide), dy, Option.bind_some, fy.all, runes_eq _ _ (by rw [ord_len]; omega), Option.bind_some, decide_eq_true rfl]
  simp only [law12_CanonTwo.j3, Bool.not_true, Bool.false_eq_true, if_false, hr]
  rw [order_eq h.cls allX (by omega), Option.bind_some, if_pos (by rw [ord_len]; omega), if_pos (by rw [ord_len]; omega), dx, Option.bind_some, fx.all, runes_eq _ _ (by rw [ord_len]; omega), Option.bind_some, decide_eq_true rfl]
theorem two_j2 (h : Tb t key pa n) (two : List (List Int)) (e : S10) (he : e.t = t) (bj : List Int → List Int → List Int → List Int → List Int → List Int → Int → Option Bool) (i : Nat) (hi : i ≤ 1048577) (allY y ky a b c : List Int)
    (ht : two.flatten.length ≤ 1048577) (ey : allY = (two.take i).flatten) (fy : Fed key (fullN pa n) allY y ky) :
    ∃ allY' y' ky', allY' = (two.take (i + 1)).flatten ∧ Fed key (fullN pa n) allY' y' ky' ∧ law12_CanonTwo.j2 bj two e allY y ky (i : Int) a b c = bj allY' a y' b ky' c ((i : Int) + 1) := by
  have ly := fy.len
  have gy := flat_len h allY
  have ty := take_len two i
  have ty1 := take_len two (i + 1)
  have hb : bigN = 1073741824 := rfl
  have hm : most = 2147483648 := rfl
  have w1 : IntKind.i64.wrap ((i : Int) + 1) = (i : Int) + 1 := w64 (by omega) (by omega)
  have hay : allY.length ≤ 1048577 := by rw [ey]; omega
  by_cases c1 : i < two.length
  · have tm := take_more c1
    rw [tm, List.length_append] at ty1
    obtain ⟨u, w, q1, q2, q3⟩ := feed_eq h (rd two (i : Int)) ky (by omega)
    have f2 := fy.step q1 q3
    have l2 := f2.len
    have g2 := flat_len h (allY ++ rd two (i : Int))
    simp only [List.length_append] at l2 g2
    refine ⟨allY ++ rd two (i : Int), y ++ ordL key u, w, by rw [tm, ey], f2, ?_⟩
    simp only [law12_CanonTwo.j2, he, law12_CanonTwo.j1, w1]
    rw [if_pos (by omega), if_pos ⟨by omega, by omega⟩, q2, Option.bind_some]
    simp only []
    rw [if_pos (by rw [ord_len] at *; omega), if_pos (by rw [ey]; omega)]
  · refine ⟨allY, y, ky, by rw [take_end (by omega)]; exact ey, fy, ?_⟩
    simp only [law12_CanonTwo.j2, law12_CanonTwo.j1, w1]
    rw [if_neg (by omega)]
theorem two_loop (h : Tb t key pa n) (one two : List (List Int)) (r : Option Tbs × Bk × Bool) (d e : S10) (hr : r.1 = t) (hd : d.t = t) (he : e.t = t)
    (ho : one.flatten.length ≤ 1048577) (ht : two.flatten.length ≤ 1048577) (hlo : one.length ≤ 1048577) (hlt : two.length ≤ 1048577) : ∀ (m i : Nat) (allX allY x y kx ky : List Int) (k : Nat), one.length + two.length ≤ m + i → m < k →
      allX = (one.take i).flatten → allY = (two.take i).flatten → Fed key (fullN pa n) allX x kx → Fed key (fullN pa n) allY y ky →
      law12_CanonTwo.l1 k one two r d e allY allX y x ky kx (i : Int) = some true := by
  intro m
  have hb : bigN = 1073741824 := rfl
  have hmo : most = 2147483648 := rfl
  induction m with
  | zero =>
    intro i allX allY x y kx ky k hm hk ex ey fx fy
    obtain ⟨k, rfl⟩ : ∃ j, k = j + 1 := ⟨k - 1, by omega⟩
    have tx := take_len one i
    have ty := take_len two i
    exact two_end h one two r d e hr hd he i allX allY x y kx ky k (by omega) (by omega) (by rw [ex]; omega) (by rw [ey]; omega) fx fy
  | succ m ih =>
    intro i allX allY x y kx ky k hm hk ex ey fx fy
    obtain ⟨k, rfl⟩ : ∃ j, k = j + 1 := ⟨k - 1, by omega⟩
    have tx := take_len one i
    have tx1 := take_len one (i + 1)
    have ty := take_len two i
    have hax : allX.length ≤ 1048577 := by rw [ex]; omega
    by_cases c0 : one.length ≤ i ∧ two.length ≤ i
    · exact two_end h one two r d e hr hd he i allX allY x y kx ky k c0.1 c0.2 hax (by rw [ey]; omega) fx fy
    have hi : i ≤ 1048577 := by omega
    have e1 : ((i + 1 : Nat) : Int) = (i : Int) + 1 := by omega
    by_cases c1 : i < one.length
    · have tm := take_more c1
      rw [tm, List.length_append] at tx1
      have lx := fx.len
      have gx := flat_len h allX
      obtain ⟨u, w, q1, q2, q3⟩ := feed_eq h (rd one (i : Int)) kx (by omega)
      have f2 := fx.step q1 q3
      have l2 := f2.len
      have g2 := flat_len h (allX ++ rd one (i : Int))
      simp only [List.length_append] at l2 g2
      obtain ⟨allY', y', ky', p1, p2, p3⟩ := two_j2 h two e he (law12_CanonTwo.l1 k one two r d e) i hi allY y ky (allX ++ rd one (i : Int)) (x ++ ordL key u) w ht ey fy
      rw [law12_CanonTwo.l1, if_pos (by omega)]
      simp only [law12_CanonTwo.j4, if_true, hd, List.nil_append, List.length_nil, Nat.zero_add]
      rw [if_pos (by omega), if_pos ⟨by omega, by omega⟩, if_pos (by rw [ex] at *; omega), q2, Option.bind_some]
      simp only []
      rw [if_pos (by rw [ord_len] at *; omega), if_pos (by rw [ex] at *; omega), if_pos (by rw [ex] at *; omega), if_pos (by rw [ord_len] at *; omega), p3, ← e1]
      exact ih (i + 1) _ _ _ _ _ _ k (by omega) (by omega) (by rw [tm, ex]) p1 f2 p2
    · obtain ⟨allY', y', ky', p1, p2, p3⟩ := two_j2 h two e he (law12_CanonTwo.l1 k one two r d e) i hi allY y ky allX x kx ht ey fy
      rw [law12_CanonTwo.l1, if_neg (by omega), decide_eq_true (by omega)]
      simp only [law12_CanonTwo.j4, if_true]
      rw [if_neg (by omega), p3, ← e1]
      exact ih (i + 1) _ _ _ _ _ _ k (by omega) (by omega) (by rw [take_end (by omega)]; exact ex) p1 fx p2
end
theorem canonTwo_true (b : Bk) (hb : Few b) (one two : List (List Int)) (ho : one.flatten.length ≤ 1048577) (ht : two.flatten.length ≤ 1048577) (hlo : one.length ≤ 1048577) (hlt : two.length ≤ 1048577) : law12_CanonTwo.f b one two = some true := by
  obtain ⟨t, c, key, pa, n, h1, h2⟩ := tables12 b hb
  rw [law12_CanonTwo.f, h1, Option.bind_some, awake12, Option.bind_some, if_neg (by simp)]
  rw [law12_CanonTwo.j5, if_neg (by simp), canon_NewDecomposer.f, Option.bind_some, Option.bind_some]
  have := two_loop h2 one two (t, c, true) ⟨t, []⟩ ⟨t, []⟩ rfl rfl rfl ho ht hlo hlt (one.length + two.length) 0 [] [] [] [] [] [] K0 (by omega) (by unfold K0; omega) rfl rfl (Fed.nil _ _) (Fed.nil _ _)
  rw [Int.natCast_zero] at this
  exact this
end Go.Proofs.YtekafkokpnihfaaGreat
