/- Plain laws of slices.SortStableFunc and canon.Order: blocks, the whole, each stretch. Own work of this repo. -/
import Derived.Test.YtekafkokpnihfaaGreatPureV
namespace Go.Proofs.YtekafkokpnihfaaGreat
open Go.RowKit
section
variable {t : Option Tbs} {key : Int → Int}
def Blks (key : Int → Int) (n : Nat) (Bs : List (List Int)) : Prop := ∀ B ∈ Bs, Srt key B ∧ B.length = n
theorem blks_len {n : Nat} : ∀ {Bs : List (List Int)}, Blks key n Bs → Bs.flatten.length = Bs.length * n
  | [], _ => by simp
  | B :: Bs, h => by
    have h1 := (h B (by simp)).2
    have h2 := blks_len (Bs := Bs) (fun C hC => h C (by simp [hC]))
    simp [h1, h2, Nat.add_mul]; omega
theorem pass_eq (hc : Cmp t key) (go : List Int → Int → Option (List Int)) (bs N : Nat) (h0 : 0 < bs) : ∀ (n : Nat) (Bs : List (List Int)) (D E : List Int) (k : Nat), Bs.length ≤ n → n < k → Blks key bs Bs → Srt key E → E.length < bs → D.length + Bs.flatten.length + E.length = N → N ≤ bigN → bs < N →
    ∃ Cs E', Blks key (2 * bs) Cs ∧ Srt key E' ∧ E'.length < 2 * bs ∧ Feq key (Cs.flatten ++ E') (Bs.flatten ++ E) ∧ (Cs.flatten ++ E').length = (Bs.flatten ++ E).length ∧
      slices_stableCmpFunc_rune_ian.l1 go k t (N : Int) (bs : Int) (D ++ (Bs.flatten ++ E)) (D.length : Int) ((D.length : Int) + 2 * bs) = go (D ++ (Cs.flatten ++ E')) (2 * (bs : Int)) := by
  intro n
  induction n with
  | zero =>
    intro Bs D E k h1 hk hB hE hl hN hb hbs
    obtain ⟨k, rfl⟩ : ∃ j, k = j + 1 := ⟨k - 1, by omega⟩
    obtain rfl := List.eq_nil_of_length_eq_zero (Nat.le_zero.1 h1)
    unfold bigN at hb
    simp only [List.flatten_nil, List.length_nil, Nat.add_zero] at hN
    refine ⟨[], E, fun C hC => (by cases hC), hE, by omega, Feq.refl key _, rfl, ?_⟩
    have w1 : IntKind.i64.wrap ((D.length : Int) + bs) = (D.length : Int) + bs := w64 (by omega) (by omega)
    have w2 : IntKind.i64.wrap ((bs : Int) * 2) = 2 * (bs : Int) := by rw [w64 (by omega) (by omega)]; omega
    simp only [slices_stableCmpFunc_rune_ian.l1, if_neg (show ¬ (D.length : Int) + 2 * bs ≤ (N : Int) by omega), w1, if_neg (show ¬ (D.length : Int) + bs < (N : Int) by omega), slices_stableCmpFunc_rune_ian.j1, w2]
  | succ n ih =>
    intro Bs D E k h1 hk hB hE hl hN hb hbs
    obtain ⟨k, rfl⟩ : ∃ j, k = j + 1 := ⟨k - 1, by omega⟩
    have hb' := hb
    unfold bigN at hb'
    have w2 : IntKind.i64.wrap ((bs : Int) * 2) = 2 * (bs : Int) := by rw [w64 (by omega) (by omega)]; omega
    match Bs, h1, hB, hN with
    | [], h1, hB, hN =>
      simp only [List.flatten_nil, List.length_nil, Nat.add_zero] at hN
      refine ⟨[], E, fun C hC => (by cases hC), hE, by omega, Feq.refl key _, rfl, ?_⟩
      have w1 : IntKind.i64.wrap ((D.length : Int) + bs) = (D.length : Int) + bs := w64 (by omega) (by omega)
      simp only [slices_stableCmpFunc_rune_ian.l1, if_neg (show ¬ (D.length : Int) + 2 * bs ≤ (N : Int) by omega), w1, if_neg (show ¬ (D.length : Int) + bs < (N : Int) by omega), slices_stableCmpFunc_rune_ian.j1, w2]
    | [B], h1, hB, hN =>
      obtain ⟨hBs, hBl⟩ := hB B (by simp)
      simp only [List.flatten_cons, List.flatten_nil, List.append_nil] at hN
      have w1 : IntKind.i64.wrap ((D.length : Int) + bs) = (D.length : Int) + bs := w64 (by omega) (by omega)
      simp only [slices_stableCmpFunc_rune_ian.l1, if_neg (show ¬ (D.length : Int) + 2 * bs ≤ (N : Int) by omega), w1, slices_stableCmpFunc_rune_ian.j1, w2, List.flatten_cons, List.flatten_nil, List.append_nil]
      by_cases c : (D.length : Int) + bs < (N : Int)
      · rw [if_pos c]
        have := sym_eq hc (B.length + E.length) D B E [] K0 (Nat.le_refl _) (ltK (by unfold bigN; omega)) (by omega) (by omega) hBs hE (by simp; omega)
        rw [hBl] at this
        have e1 : (D.length : Int) + (bs : Int) + E.length = (N : Int) := by omega
        rw [e1] at this
        simp only [List.append_nil] at this
        rw [this, Option.bind_some]
        exact ⟨[], sortL key (B ++ E), fun C hC => (by cases hC), srt_sort key _, by rw [sort_len]; simp; omega, by simpa using feq_sort key (B ++ E), by simp [sort_len], rfl⟩
      · rw [if_neg c]
        obtain rfl := List.eq_nil_of_length_eq_zero (show E.length = 0 by omega)
        exact ⟨[], B, fun C hC => (by cases hC), hBs, by omega, by simpa using Feq.refl key B, by simp, by simp⟩
    | B1 :: B2 :: Bs, h1, hB, hN =>
      obtain ⟨hs1, hl1⟩ := hB B1 (by simp)
      obtain ⟨hs2, hl2⟩ := hB B2 (by simp)
      have hBs : Blks key bs Bs := fun C hC => hB C (by simp [hC])
      simp only [List.flatten_cons, List.length_append] at hN
      have w1 : IntKind.i64.wrap ((D.length : Int) + bs) = (D.length : Int) + bs := w64 (by omega) (by omega)
      have w3 : IntKind.i64.wrap (2 * (bs : Int)) = 2 * (bs : Int) := w64 (by omega) (by omega)
      have w4 : IntKind.i64.wrap ((D.length : Int) + 2 * bs + 2 * bs) = (D.length : Int) + 2 * bs + 2 * bs := w64 (by omega) (by omega)
      have := sym_eq hc (B1.length + B2.length) D B1 B2 (Bs.flatten ++ E) K0 (Nat.le_refl _) (ltK (by unfold bigN; omega)) (by omega) (by omega) hs1 hs2 (by rw [List.length_append]; omega)
      rw [hl1, hl2] at this
      have e1 : (D.length : Int) + (bs : Int) + bs = (D.length : Int) + 2 * bs := by omega
      rw [e1] at this
      have e2 : D ++ ((B1 :: B2 :: Bs).flatten ++ E) = D ++ (B1 ++ (B2 ++ (Bs.flatten ++ E))) := by simp
      simp only [slices_stableCmpFunc_rune_ian.l1, if_pos (show (D.length : Int) + 2 * bs ≤ (N : Int) by omega), w1, w3, w4, e2, this, Option.bind_some]
      have hsl : (sortL key (B1 ++ B2)).length = 2 * bs := by rw [sort_len]; simp; omega
      obtain ⟨Cs, E', c1, c2, c3, c4, c5, c6⟩ := ih Bs (D ++ sortL key (B1 ++ B2)) E k (by simp at h1; omega) (by omega) hBs hE hl (by rw [List.length_append, hsl]; omega) hb hbs
      have e3 : ((D ++ sortL key (B1 ++ B2)).length : Int) = (D.length : Int) + 2 * bs := by simp [hsl]
      rw [e3] at c6
      have e4 : D ++ (sortL key (B1 ++ B2) ++ (Bs.flatten ++ E)) = D ++ sortL key (B1 ++ B2) ++ (Bs.flatten ++ E) := by simp
      rw [e4, c6]
      refine ⟨sortL key (B1 ++ B2) :: Cs, E', fun C hC => ?_, c2, c3, ?_, ?_, by simp⟩
      · rcases List.mem_cons.1 hC with rfl | hC
        · exact ⟨srt_sort key _, hsl⟩
        · exact c1 C hC
      · have := Feq.app key (feq_sort key (B1 ++ B2)) c4
        simpa using this
      · simp only [List.flatten_cons, List.length_append] at c5 ⊢
        omega
theorem merge_all (hc : Cmp t key) (N : Nat) (hb : N ≤ bigN) : ∀ (n bs : Nat) (Bs : List (List Int)) (E : List Int) (k : Nat), 0 < bs → N - bs ≤ n → n < k → Blks key bs Bs → Srt key E → E.length < bs → (Bs.flatten ++ E).length = N →
    slices_stableCmpFunc_rune_ian.l2 k t (N : Int) (Bs.flatten ++ E) (bs : Int) = some (sortL key (Bs.flatten ++ E)) := by
  intro n
  have hb' := hb
  unfold bigN at hb'
  have fin : ∀ (bs : Nat) (Bs : List (List Int)) (E : List Int), 0 < bs → N ≤ bs → Blks key bs Bs → Srt key E → E.length < bs → (Bs.flatten ++ E).length = N → Srt key (Bs.flatten ++ E) := by
    intro bs Bs E h0 h1 hB hE hl hN
    have := blks_len hB
    simp only [List.length_append] at hN
    match Bs, hB, this with
    | [], _, _ => simpa using hE
    | [B], hB, this =>
      have e := (hB B (by simp)).2
      simp at this hN
      obtain rfl := List.eq_nil_of_length_eq_zero (show E.length = 0 by omega)
      simpa using (hB B (by simp)).1
    | B1 :: B2 :: Bs, hB, this =>
      simp only [List.length_cons] at this
      rw [Nat.add_mul, Nat.add_mul] at this
      omega
  induction n with
  | zero =>
    intro bs Bs E k h0 h1 hk hB hE hl hN
    obtain ⟨k, rfl⟩ : ∃ j, k = j + 1 := ⟨k - 1, by omega⟩
    simp only [slices_stableCmpFunc_rune_ian.l2, if_neg (show ¬ (bs : Int) < (N : Int) by omega), sort_id key (fin bs Bs E h0 (by omega) hB hE hl hN)]
  | succ n ih =>
    intro bs Bs E k h0 h1 hk hB hE hl hN
    obtain ⟨k, rfl⟩ : ∃ j, k = j + 1 := ⟨k - 1, by omega⟩
    by_cases c : (bs : Int) < (N : Int)
    · have w3 : IntKind.i64.wrap (2 * (bs : Int)) = 2 * (bs : Int) := w64 (by omega) (by omega)
      have hfl := blks_len hB
      have hBl : Bs.length ≤ N := by
        simp only [List.length_append] at hN
        have : Bs.length * 1 ≤ Bs.length * bs := Nat.mul_le_mul_left _ h0
        omega
      obtain ⟨Cs, E', c1, c2, c3, c4, c5, c6⟩ := pass_eq hc (slices_stableCmpFunc_rune_ian.l2 k t (N : Int)) bs N h0 N Bs [] E K0 hBl (ltK hb) hB hE hl (by simpa using hN) hb (by omega)
      simp only [List.length_nil, List.nil_append] at c6
      have e1 : ((0 : Nat) : Int) + 2 * (bs : Int) = 2 * bs := by omega
      rw [e1] at c6
      simp only [slices_stableCmpFunc_rune_ian.l2, if_pos c, w3]
      have e2 : ((0 : Nat) : Int) = 0 := rfl
      rw [e2] at c6
      rw [c6]
      have := ih (2 * bs) Cs E' k (by omega) (by omega) (by omega) c1 c2 c3 (by rw [c5, hN])
      have e3 : ((2 * bs : Nat) : Int) = 2 * (bs : Int) := by omega
      rw [e3] at this
      rw [this, sort_feq key c4]
    · simp only [slices_stableCmpFunc_rune_ian.l2, if_neg c, sort_id key (fin bs Bs E h0 (by omega) hB hE hl hN)]
theorem first_pass (hc : Cmp t key) (N : Nat) (hb : N ≤ bigN) : ∀ (n : Nat) (R D : List Int) (k : Nat), R.length ≤ n → n < k → D.length + R.length = N →
    ∃ Bs E, Blks key 20 Bs ∧ Srt key E ∧ E.length < 20 ∧ Feq key (Bs.flatten ++ E) R ∧ (Bs.flatten ++ E).length = R.length ∧
      slices_stableCmpFunc_rune_ian.l3 k t (N : Int) (D ++ R) (D.length : Int) ((D.length : Int) + 20) = slices_stableCmpFunc_rune_ian.l2 K0 t (N : Int) (D ++ (Bs.flatten ++ E)) 20 := by
  intro n
  have hb' := hb
  unfold bigN at hb'
  have fin : ∀ (R D : List Int) (k : Nat), D.length + R.length = N → R.length < 20 → ∃ Bs E, Blks key 20 Bs ∧ Srt key E ∧ E.length < 20 ∧ Feq key (Bs.flatten ++ E) R ∧ (Bs.flatten ++ E).length = R.length ∧
      slices_stableCmpFunc_rune_ian.l3 (k + 1) t (N : Int) (D ++ R) (D.length : Int) ((D.length : Int) + 20) = slices_stableCmpFunc_rune_ian.l2 K0 t (N : Int) (D ++ (Bs.flatten ++ E)) 20 := by
    intro R D k hN hR
    have := ins_eq hc D R [] (by simp; omega)
    have e1 : (D.length : Int) + R.length = (N : Int) := by omega
    rw [e1] at this
    simp only [List.append_nil] at this
    refine ⟨[], sortL key R, fun C hC => (by cases hC), srt_sort key _, by rw [sort_len]; omega, by simpa using feq_sort key R, by simp [sort_len], ?_⟩
    simp only [slices_stableCmpFunc_rune_ian.l3, if_neg (show ¬ (D.length : Int) + 20 ≤ (N : Int) by omega), this, Option.bind_some, List.flatten_nil, List.nil_append]
  induction n with
  | zero =>
    intro R D k h1 hk hN
    obtain ⟨k, rfl⟩ : ∃ j, k = j + 1 := ⟨k - 1, by omega⟩
    exact fin R D k hN (by omega)
  | succ n ih =>
    intro R D k h1 hk hN
    obtain ⟨k, rfl⟩ : ∃ j, k = j + 1 := ⟨k - 1, by omega⟩
    by_cases c : R.length < 20
    · exact fin R D k hN c
    · obtain ⟨B, R, rfl, hB⟩ := split_at R 20 (by omega)
      have hrl : (B ++ R).length = B.length + R.length := by simp
      have := ins_eq hc D B R (by omega)
      rw [hB] at this
      have w1 : IntKind.i64.wrap ((D.length : Int) + 20 + 20) = (D.length : Int) + 20 + 20 := w64 (by omega) (by omega)
      have e0 : ((20 : Nat) : Int) = 20 := rfl
      rw [e0] at this
      simp only [slices_stableCmpFunc_rune_ian.l3, if_pos (show (D.length : Int) + 20 ≤ (N : Int) by omega), this, Option.bind_some, w1]
      have hsl : (sortL key B).length = 20 := by rw [sort_len]; exact hB
      have hdl : (D ++ sortL key B).length = D.length + 20 := by simp [hsl]
      obtain ⟨Bs, E, c1, c2, c3, c4, c5, c6⟩ := ih R (D ++ sortL key B) k (by omega) (by omega) (by omega)
      have e3 : ((D ++ sortL key B).length : Int) = (D.length : Int) + 20 := by omega
      rw [e3] at c6
      have e4 : D ++ (sortL key B ++ R) = D ++ sortL key B ++ R := by simp
      rw [e4, c6]
      refine ⟨sortL key B :: Bs, E, fun C hC => ?_, c2, c3, ?_, ?_, by simp⟩
      · rcases List.mem_cons.1 hC with rfl | hC
        · exact ⟨srt_sort key _, hsl⟩
        · exact c1 C hC
      · have := Feq.app key (feq_sort key B) c4
        simpa using this
      · simp only [List.flatten_cons, List.length_append] at c5 ⊢
        omega
theorem sorts (hc : Cmp t key) (ys : List Int) (hb : ys.length ≤ bigN) : slices_SortStableFunc_rune_rune_mmi.f ys t = some (sortL key ys) := by
  unfold slices_SortStableFunc_rune_rune_mmi.f slices_stableCmpFunc_rune_ian.f
  obtain ⟨Bs, E, c1, c2, c3, c4, c5, c6⟩ := first_pass hc ys.length hb ys.length ys [] K0 (Nat.le_refl _) (ltK hb) (by simp)
  simp only [List.length_nil, List.nil_append] at c6
  have e1 : ((0 : Nat) : Int) + 20 = 20 := rfl
  have e2 : ((0 : Nat) : Int) = 0 := rfl
  rw [e1, e2] at c6
  rw [c6]
  have := merge_all hc ys.length hb ys.length 20 Bs E K0 (by omega) (by omega) (ltK hb) c1 c2 c3 c5
  have e3 : ((20 : Nat) : Int) = 20 := rfl
  rw [e3] at this
  rw [this, Option.bind_some, sort_feq key c4]

def Cls (t : Option Tbs) (key : Int → Int) : Prop := ∀ p, book_Tables_Class.f t p = some (key p)
theorem Cls.cmp (h : Cls t key) : Cmp t key := by
  intro a b
  simp only [canon_Order_1_ccl.f, h a, h b, Option.bind_some, cmp_Compare_int.f, cmp_isNaN_int.f, ne_eq, not_true_eq_false, decide_false, Bool.false_eq_true, if_false, cI]
  by_cases c : key a < key b
  · simp [c]
  · simp only [if_neg c]
    by_cases d : key b < key a
    · simp [d]
    · simp [d]
theorem run_find (h : Cls t key) (go : List Int → Int → Option (List Int)) (A : List Int) : ∀ (R S : List Int) (k : Nat), R.length < k → (∀ x ∈ S, key x ≠ 0) → A.length + S.length + R.length ≤ bigN →
    ∃ S' R', S ++ R = S' ++ R' ∧ (∀ x ∈ S', key x ≠ 0) ∧ (∀ x B, R' = x :: B → key x = 0) ∧
      canon_Order.l1 go k t (A ++ (S ++ R)) (A.length : Int) ((A.length : Int) + S.length) = go (A ++ (sortL key S' ++ R')) ((A.length : Int) + S'.length + 1) := by
  have done : ∀ (S R : List Int) (r : Option (List Int)) (go' : Int → Option (List Int)), A.length + S.length + R.length ≤ bigN → canon_Order.j1 go go' t (A ++ (S ++ R)) (A.length : Int) ((A.length : Int) + S.length) false = go (A ++ (sortL key S ++ R)) ((A.length : Int) + S.length + 1) := by
    intro S R _ go' hb
    have hb' := hb
    unfold bigN at hb'
    have hl : (A ++ (S ++ R)).length = A.length + S.length + R.length := by simp; omega
    have e1 : sub (A ++ (S ++ R)) (A.length : Int) ((A.length : Int) + S.length) = S := by
      have : ((A.length : Int) + S.length).toNat = A.length + S.length := by omega
      simp [sub, this, List.take_append]
    have e2 : (A ++ (S ++ R)).take (A.length : Int).toNat = A := by simp
    have e3 : (A ++ (S ++ R)).drop ((A.length : Int) + S.length).toNat = R := by
      have : ((A.length : Int) + S.length).toNat = A.length + S.length := by omega
      rw [this, ← List.append_assoc, List.drop_append_of_le_length (by simp)]
      simp
    simp only [canon_Order.j1, Bool.false_eq_true, if_false, hl, if_pos (show (0 : Int) ≤ (A.length : Int) ∧ (A.length : Int) ≤ (A.length : Int) + S.length ∧ (A.length : Int) + (S.length : Int) ≤ ((A.length + S.length + R.length : Nat) : Int) by omega), e1, e2, e3,
      sorts h.cmp S (by unfold bigN; omega), Option.bind_some, w64 (x := (A.length : Int) + S.length + 1) (by omega) (by omega)]
  intro R
  induction R with
  | nil =>
    intro S k hk hS hb
    obtain ⟨k, rfl⟩ : ∃ j, k = j + 1 := ⟨k - 1, by omega⟩
    refine ⟨S, [], rfl, hS, fun x B e => (by cases e), ?_⟩
    have hl : (A ++ (S ++ [])).length = A.length + S.length := by simp
    simp only [canon_Order.l1, hl, if_neg (show ¬ (A.length : Int) + S.length < ((A.length + S.length : Nat) : Int) by omega)]
    exact done S [] none _ hb
  | cons x R ih =>
    intro S k hk hS hb
    obtain ⟨k, rfl⟩ : ∃ j, k = j + 1 := ⟨k - 1, by omega⟩
    have hb' := hb
    unfold bigN at hb'
    simp only [List.length_cons] at hk hb'
    have hl : (A ++ (S ++ x :: R)).length = A.length + S.length + R.length + 1 := by simp; omega
    have r1 : rd (A ++ (S ++ x :: R)) ((A.length : Int) + S.length) = x := by
      have := rd_at (A := A ++ S) (B := R) (x := x) (i := (A.length : Int) + S.length) (by simp)
      simpa using this
    have g1 : (0 : Int) ≤ (A.length : Int) + S.length ∧ (A.length : Int) + (S.length : Int) < ((A.length + S.length + R.length + 1 : Nat) : Int) := by omega
    simp only [canon_Order.l1, hl, if_pos g1.2, if_pos g1, r1, h x, Option.bind_some]
    by_cases c : key x = 0
    · have : decide (key x ≠ 0) = false := by simp [c]
      rw [this]
      refine ⟨S, x :: R, rfl, hS, fun y B e => ?_, done S (x :: R) none _ hb⟩
      cases e; exact c
    · have : decide (key x ≠ 0) = true := by simp [c]
      rw [this]
      simp only [canon_Order.j1, if_true, w64 (x := (A.length : Int) + S.length + 1) (by omega) (by omega)]
      obtain ⟨S', R', q1, q2, q3, q4⟩ := ih (S ++ [x]) k (by omega) (fun y hy => by
        rcases List.mem_append.1 hy with hy | hy
        · exact hS y hy
        · rw [List.mem_singleton.1 hy]; exact c) (by simp at hb ⊢; omega)
      have e1 : (A.length : Int) + ((S ++ [x]).length : Int) = (A.length : Int) + S.length + 1 := by simp; omega
      rw [e1] at q4
      have e2 : A ++ (S ++ x :: R) = A ++ (S ++ [x] ++ R) := by simp
      rw [e2, q4]
      exact ⟨S', R', by rw [← q1]; simp, q2, q3, rfl⟩
theorem order_in (h : Cls t key) : ∀ (n : Nat) (R A : List Int) (k : Nat), R.length ≤ n → n + 1 < k → A.length + R.length ≤ bigN →
    canon_Order.l2 k t (A ++ R) (A.length : Int) = some (A ++ ordL key R) := by
  intro n
  induction n with
  | zero =>
    intro R A k h1 hk hb
    obtain ⟨k, rfl⟩ : ∃ j, k = j + 1 := ⟨k - 1, by omega⟩
    obtain rfl := List.eq_nil_of_length_eq_zero (Nat.le_zero.1 h1)
    simp only [canon_Order.l2, List.append_nil, if_neg (show ¬ (A.length : Int) < (A.length : Int) by omega)]
    simp [ordL, ordA, sortL]
  | succ n ih =>
    intro R A k h1 hk hb
    obtain ⟨k, rfl⟩ : ∃ j, k = j + 1 := ⟨k - 1, by omega⟩
    have hb' := hb
    unfold bigN at hb'
    by_cases c : R.length = 0
    · obtain rfl := List.eq_nil_of_length_eq_zero c
      simp only [canon_Order.l2, List.append_nil, if_neg (show ¬ (A.length : Int) < (A.length : Int) by omega)]
      simp [ordL, ordA, sortL]
    · have hl : (A ++ R).length = A.length + R.length := by simp
      simp only [canon_Order.l2, hl, if_pos (show (A.length : Int) < ((A.length + R.length : Nat) : Int) by omega)]
      obtain ⟨S, R', q1, q2, q3, q4⟩ := run_find h (canon_Order.l2 k t) A R [] K0 (ltK (by unfold bigN; omega)) (fun x hx => (by cases hx)) (by simpa using hb)
      simp only [List.nil_append] at q1 q4
      have e1 : (A.length : Int) + (([] : List Int).length : Int) = (A.length : Int) := by simp
      rw [e1] at q4
      rw [q4]
      subst q1
      cases R' with
      | nil =>
        obtain ⟨k, rfl⟩ : ∃ j, k = j + 1 := ⟨k - 1, by omega⟩
        have hl2 : (A ++ (sortL key S ++ [])).length = A.length + S.length := by simp [sort_len]
        simp only [canon_Order.l2, hl2, if_neg (show ¬ (A.length : Int) + S.length + 1 < ((A.length + S.length : Nat) : Int) by omega)]
        have := ordA_run key S [] [] q2
        simp only [List.append_nil, List.nil_append] at this
        simp only [ordL, List.append_nil, this, ordA]
      | cons x B =>
        have hx := q3 x B rfl
        have := ih B (A ++ (sortL key S ++ [x])) k (by simp at h1; omega) (by omega) (by simp [sort_len] at hb ⊢; omega)
        have e2 : ((A ++ (sortL key S ++ [x])).length : Int) = (A.length : Int) + S.length + 1 := by simp [sort_len]; omega
        rw [e2] at this
        have e3 : A ++ (sortL key S ++ x :: B) = A ++ (sortL key S ++ [x]) ++ B := by simp
        rw [e3, this]
        have h2 := ordA_run key S [] (x :: B) q2
        simp only [List.nil_append] at h2
        simp only [ordL, h2, ordA, if_pos hx]
        simp
theorem order_eq (h : Cls t key) (l : List Int) (hb : l.length ≤ bigN) : canon_Order.f t l = some (ordL key l) := by
  have hcl : slices_Clone_rune_rune.f l = some l := by
    rw [slices_Clone_rune_rune.f, if_pos (by unfold bigN at hb; unfold most; simp; omega)]; rfl
  unfold canon_Order.f
  rw [hcl, Option.bind_some]
  have := order_in h l.length l [] K0 (Nat.le_refl _) (by unfold bigN at hb; unfold K0; omega) (by simpa using hb)
  simpa using this
end
end Go.Proofs.YtekafkokpnihfaaGreat
