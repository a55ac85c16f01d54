/- Plain laws, second part: rows that rise, in the program and in the reference. Own work of this repo. -/
import Derived.Test.YtekafkokpnihfaaGreatPureA
namespace Go.Proofs.YtekafkokpnihfaaGreat
open Go.RowKit

def touchB (lo hi : Int) : Bool := (decide (lo ≤ 4370) && decide (4352 ≤ hi)) || (decide (lo ≤ 4469) && decide (4449 ≤ hi)) || (decide (lo ≤ 4546) && decide (4520 ≤ hi)) || (decide (lo ≤ 55203) && decide (44032 ≤ hi))
def hangB (p : Int) : Bool := (decide (4352 ≤ p) && decide (p ≤ 4370)) || (decide (4449 ≤ p) && decide (p ≤ 4469)) || (decide (4520 ≤ p) && decide (p ≤ 4546)) || (decide (44032 ≤ p) && decide (p ≤ 55203))
def scalB (p : Int) : Bool := (decide (0 ≤ p) && decide (p < 55296)) || (decide (57343 < p) && decide (p ≤ 1114111))
theorem ref_touches (lo hi : Int) : ref10_touches.f lo hi = some (touchB lo hi) := by
  unfold ref10_touches.f touchB
  simp only [ref10_touches.j1]
  repeat' split
  all_goals (simp [*] <;> try omega)
theorem ref_hangul (p : Int) : ref10_hangul.f p = some (hangB p) := by
  unfold ref10_hangul.f hangB
  simp only [ref10_hangul.j1]
  repeat' split
  all_goals (simp [*] <;> try omega)
theorem ref_scalar (p : Int) : ref10_scalar.f p = some (scalB p) := by
  unfold ref10_scalar.f scalB
  simp only [ref10_scalar.j1]
  repeat' split
  all_goals (simp [*] <;> try omega)
theorem scalars1_eq (p : Int) : book_scalars_1.f p = some (!scalB p) := by
  unfold book_scalars_1.f scalB
  simp only [book_scalars_1.j1]
  by_cases a : p < 0
  · simp [a, show ¬ 0 ≤ p by omega, show ¬ 57343 < p by omega]
  · by_cases b : 1114111 < p
    · simp [a, b, show ¬ p < 55296 by omega, show ¬ p ≤ 1114111 by omega]
    · by_cases c : 55296 ≤ p
      · by_cases d : p ≤ 57343
        · simp [a, b, c, d, show ¬ p < 55296 by omega, show ¬ 57343 < p by omega]
        · simp [a, b, c, d, show ¬ p < 55296 by omega, show 57343 < p by omega, show p ≤ 1114111 by omega]
      · simp [a, b, c, show 0 ≤ p by omega, show p < 55296 by omega]
theorem indexBad_eq (l : List Int) (hl : l.length ≤ bigN) : ∃ r, slices_IndexFunc_rune_rune_igm.f l = some r ∧ Says r (l.all scalB) := by
  refine loop_ind (fun k i (_ : Unit) => slices_IndexFunc_rune_rune_igm.l1 k l i) l (fun pre t _ o => ∃ r, o = some r ∧ Says r (t.all scalB)) ?_ ?_ () K0 (ltK hl)
  · intro _ k
    exact ⟨-1, by simp only [slices_IndexFunc_rune_rune_igm.l1, if_neg (show ¬ (l.length : Int) < (l.length : Int) by omega)], .inl ⟨rfl, rfl⟩⟩
  · intro pre x t _ k e ih
    obtain ⟨h1, h2⟩ := mid e
    simp only [slices_IndexFunc_rune_rune_igm.l1, if_pos h2.2, if_pos h2, h1, scalars1_eq, Option.bind_some, nxt hl e, List.all_cons]
    cases c : scalB x with
    | false => exact ⟨pre.length, by simp, .inr ⟨by simp, by omega⟩⟩
    | true => simpa using ih ()
def charsB (l : List Int) (a b : Int) : Bool := decide (a ≤ (l.length : Int)) && decide ((l.length : Int) ≤ b) && l.all scalB
theorem scalars_eq (l : List Int) (a b : Int) (hb : b ≤ 1000) : book_scalars.f l a b = some (charsB l a b) := by
  unfold book_scalars.f charsB
  by_cases h1 : a ≤ (l.length : Int)
  · by_cases h2 : (l.length : Int) ≤ b
    · obtain ⟨r, h3, h4⟩ := indexBad_eq l (by unfold bigN; omega)
      simp only [if_pos h1, if_pos h2, slices_ContainsFunc_rune_rune_igm.f, h3, Option.bind_some, h4.val, book_scalars.j1, Bool.not_not]
      simp [h1, h2]
    · simp [h1, h2, book_scalars.j1]
  · simp [h1, book_scalars.j1]
theorem indexHan_eq (lo hi : Int) (l : List Spn) (hl : l.length ≤ bigN) : ∃ r, slices_IndexFunc_api_Span_api_Span_fdc.f l lo hi = some r ∧ Says r (!l.any fun h => decide (lo ≤ h.hi) && decide (h.lo ≤ hi)) := by
  refine loop_ind (fun k i (_ : Unit) => slices_IndexFunc_api_Span_api_Span_fdc.l1 k lo hi l i) l (fun pre t _ o => ∃ r, o = some r ∧ Says r (!t.any fun h => decide (lo ≤ h.hi) && decide (h.lo ≤ hi))) ?_ ?_ () K0 (ltK hl)
  · intro _ k
    exact ⟨-1, by simp only [slices_IndexFunc_api_Span_api_Span_fdc.l1, if_neg (show ¬ (l.length : Int) < (l.length : Int) by omega)], .inl ⟨rfl, rfl⟩⟩
  · intro pre x t _ k e ih
    obtain ⟨h1, h2⟩ := mid e
    simp only [slices_IndexFunc_api_Span_api_Span_fdc.l1, if_pos h2.2, if_pos h2, h1, book_touches_1_aek.f, book_touches_1_aek.j1, nxt hl e, List.any_cons]
    by_cases c1 : lo ≤ x.hi
    · by_cases c2 : x.lo ≤ hi
      · exact ⟨pre.length, by simp [c1, c2], .inr ⟨by simp [c1, c2], by omega⟩⟩
      · simpa [c1, c2] using ih ()
    · simpa [c1] using ih ()
theorem touches_eq (s : Spn) : book_touches.f s = some (touchB s.lo s.hi) := by
  unfold book_touches.f book_hangul.f
  simp only [Option.bind_some, slices_ContainsFunc_api_Span_api_Span_fdc.f]
  obtain ⟨r, h1, h2⟩ := indexHan_eq s.lo s.hi [⟨4352, 4370⟩, ⟨4449, 4469⟩, ⟨4520, 4546⟩, ⟨44032, 55203⟩] (by decide)
  rw [h1]
  simp only [Option.bind_some, h2.val, Bool.not_not]
  congr 1
  exact (show ∀ a b c d : Bool, (a || (b || (c || (d || false)))) = (a || b || c || d) by decide) _ _ _ _
theorem check1_eq (s : Spn) : book_Check_1.f s = some true := rfl
theorem check2_eq (s : Spn) : book_Check_2.f s = some (!touchB s.lo s.hi) := by
  unfold book_Check_2.f
  rw [touches_eq, Option.bind_some]
theorem check3_eq (x : Chs) : book_Check_3.f x = some (charsB x.is_ 1 18) := by
  unfold book_Check_3.f
  rw [scalars_eq x.is_ 1 18 (by decide), Option.bind_some]
theorem values1_eq (x : Val) (a b : Int) : book_values_1_ifo.f x a b = some (decide (a ≤ x.n) && decide (x.n ≤ b)) := by
  unfold book_values_1_ifo.f
  simp only [book_values_1_ifo.j1, book_ofValue.f, check1_eq, Option.bind_some]
  by_cases h1 : a ≤ x.n
  · by_cases h2 : x.n ≤ b <;> simp [h1, h2]
  · simp [h1]
theorem values2_eq (x : Val) (a b : Int) : book_values_1_nlj.f x a b = some (decide (a ≤ x.n) && decide (x.n ≤ b) && !touchB x.lo x.hi) := by
  unfold book_values_1_nlj.f
  simp only [book_values_1_nlj.j1, book_ofValue.f, check2_eq, Option.bind_some]
  by_cases h1 : a ≤ x.n
  · by_cases h2 : x.n ≤ b <;> simp [h1, h2]
  · simp [h1]
def decompB (x : Chs) : Bool := decide (x.lo = x.hi) && charsB [x.lo] 1 1 && charsB x.is_ 1 2 && !touchB x.lo x.hi
theorem check8_eq (x : Chs) : book_Check_8_1_kid.f x = some (decompB x) := by
  unfold book_Check_8_1_kid.f decompB
  simp only [book_Check_8_1_kid.j1, book_ofChars.f, check2_eq, Option.bind_some, scalars_eq [x.lo] 1 1 (by decide), scalars_eq x.is_ 1 2 (by decide)]
  by_cases h1 : x.lo = x.hi
  · rw [if_pos h1, decide_eq_true h1]
    cases h2 : charsB [x.lo] 1 1 <;> cases h3 : charsB x.is_ 1 2 <;> simp
  · rw [if_neg h1, decide_eq_false h1]; simp
def rowsB {α : Type} (lo hi : α → Int) (may : α → Bool) (l : List α) : Bool := decide (l.length ≤ 65536) && okRows lo hi may (-1) l
theorem rise_val (a b : Int) (l : List Val) : ∃ r, book_rising_api_Value_dif.f l a b = some r ∧ Says r (rowsB (·.lo) (·.hi) (fun x : Val => decide (a ≤ x.n) && decide (x.n ≤ b)) l) := by
  unfold book_rising_api_Value_dif.f rowsB
  by_cases h : (65536 : Int) < l.length
  · exact ⟨65536, by rw [if_pos h], .inr ⟨by simp [show ¬ l.length ≤ 65536 by omega], by decide⟩⟩
  · rw [if_neg h]
    have hl : l.length ≤ bigN := by unfold bigN; omega
    simp only [show l.length ≤ 65536 by omega, decide_true, Bool.true_and]
    refine loop_ind (fun k i last => book_rising_api_Value_dif.l1 k a b l last i) l (fun pre t last o => ∃ r, o = some r ∧ Says r (okRows (·.lo) (·.hi) (fun x : Val => decide (a ≤ x.n) && decide (x.n ≤ b)) last t)) ?_ ?_ (-1) K0 (ltK hl)
    · intro last k
      exact ⟨-1, by simp only [book_rising_api_Value_dif.l1, if_neg (show ¬ (l.length : Int) < (l.length : Int) by omega)], .inl ⟨rfl, rfl⟩⟩
    · intro pre x t last k e ih
      obtain ⟨h1, h2⟩ := mid e
      simp only [book_rising_api_Value_dif.l1, if_pos h2.2, if_pos h2, h1, book_ofValue.f, Option.bind_some, values1_eq, book_rising_api_Value_dif.j1, nxt hl e]
      by_cases c1 : x.lo ≤ last
      · exact ⟨pre.length, by simp [c1], .inr ⟨okRows_no1 (.inl c1), by omega⟩⟩
      · by_cases c2 : x.hi < x.lo
        · exact ⟨pre.length, by simp [c1, c2], .inr ⟨okRows_no1 (.inr (.inl c2)), by omega⟩⟩
        · by_cases c3 : 1114111 < x.hi
          · exact ⟨pre.length, by simp [c1, c2, c3], .inr ⟨okRows_no1 (.inr (.inr (.inl c3))), by omega⟩⟩
          · rw [if_neg c1, if_neg c2, if_neg c3]
            cases c4 : (decide (a ≤ x.n) && decide (x.n ≤ b)) with
            | false => exact ⟨pre.length, by simp, .inr ⟨okRows_no1 (.inr (.inr (.inr c4))), by omega⟩⟩
            | true =>
              rw [okRows_yes c1 c2 c3 c4]
              simpa using ih x.hi
theorem rise_plain (a b : Int) (l : List Val) : ∃ r, book_rising_api_Value_ion.f l a b = some r ∧ Says r (rowsB (·.lo) (·.hi) (fun x : Val => decide (a ≤ x.n) && decide (x.n ≤ b) && !touchB x.lo x.hi) l) := by
  unfold book_rising_api_Value_ion.f rowsB
  by_cases h : (65536 : Int) < l.length
  · exact ⟨65536, by rw [if_pos h], .inr ⟨by simp [show ¬ l.length ≤ 65536 by omega], by decide⟩⟩
  · rw [if_neg h]
    have hl : l.length ≤ bigN := by unfold bigN; omega
    simp only [show l.length ≤ 65536 by omega, decide_true, Bool.true_and]
    refine loop_ind (fun k i last => book_rising_api_Value_ion.l1 k a b l last i) l (fun pre t last o => ∃ r, o = some r ∧ Says r (okRows (·.lo) (·.hi) (fun x : Val => decide (a ≤ x.n) && decide (x.n ≤ b) && !touchB x.lo x.hi) last t)) ?_ ?_ (-1) K0 (ltK hl)
    · intro last k
      exact ⟨-1, by simp only [book_rising_api_Value_ion.l1, if_neg (show ¬ (l.length : Int) < (l.length : Int) by omega)], .inl ⟨rfl, rfl⟩⟩
    · intro pre x t last k e ih
      obtain ⟨h1, h2⟩ := mid e
      simp only [book_rising_api_Value_ion.l1, if_pos h2.2, if_pos h2, h1, book_ofValue.f, Option.bind_some, values2_eq, book_rising_api_Value_ion.j1, nxt hl e]
      by_cases c1 : x.lo ≤ last
      · exact ⟨pre.length, by simp [c1], .inr ⟨okRows_no1 (.inl c1), by omega⟩⟩
      · by_cases c2 : x.hi < x.lo
        · exact ⟨pre.length, by simp [c1, c2], .inr ⟨okRows_no1 (.inr (.inl c2)), by omega⟩⟩
        · by_cases c3 : 1114111 < x.hi
          · exact ⟨pre.length, by simp [c1, c2, c3], .inr ⟨okRows_no1 (.inr (.inr (.inl c3))), by omega⟩⟩
          · rw [if_neg c1, if_neg c2, if_neg c3]
            cases c4 : (decide (a ≤ x.n) && decide (x.n ≤ b) && !touchB x.lo x.hi) with
            | false => exact ⟨pre.length, by simp, .inr ⟨okRows_no1 (.inr (.inr (.inr c4))), by omega⟩⟩
            | true =>
              rw [okRows_yes c1 c2 c3 c4]
              simpa using ih x.hi
theorem rise_decomp (l : List Chs) : ∃ r, book_rising_api_Chars_mbg.f l = some r ∧ Says r (rowsB (·.lo) (·.hi) decompB l) := by
  unfold book_rising_api_Chars_mbg.f rowsB
  by_cases h : (65536 : Int) < l.length
  · exact ⟨65536, by rw [if_pos h], .inr ⟨by simp [show ¬ l.length ≤ 65536 by omega], by decide⟩⟩
  · rw [if_neg h]
    have hl : l.length ≤ bigN := by unfold bigN; omega
    simp only [show l.length ≤ 65536 by omega, decide_true, Bool.true_and]
    refine loop_ind (fun k i last => book_rising_api_Chars_mbg.l1 k l last i) l (fun pre t last o => ∃ r, o = some r ∧ Says r (okRows (·.lo) (·.hi) decompB last t)) ?_ ?_ (-1) K0 (ltK hl)
    · intro last k
      exact ⟨-1, by simp only [book_rising_api_Chars_mbg.l1, if_neg (show ¬ (l.length : Int) < (l.length : Int) by omega)], .inl ⟨rfl, rfl⟩⟩
    · intro pre x t last k e ih
      obtain ⟨h1, h2⟩ := mid e
      simp only [book_rising_api_Chars_mbg.l1, if_pos h2.2, if_pos h2, h1, book_ofChars.f, Option.bind_some, check8_eq, book_rising_api_Chars_mbg.j1, nxt hl e]
      by_cases c1 : x.lo ≤ last
      · exact ⟨pre.length, by simp [c1], .inr ⟨okRows_no1 (.inl c1), by omega⟩⟩
      · by_cases c2 : x.hi < x.lo
        · exact ⟨pre.length, by simp [c1, c2], .inr ⟨okRows_no1 (.inr (.inl c2)), by omega⟩⟩
        · by_cases c3 : 1114111 < x.hi
          · exact ⟨pre.length, by simp [c1, c2, c3], .inr ⟨okRows_no1 (.inr (.inr (.inl c3))), by omega⟩⟩
          · rw [if_neg c1, if_neg c2, if_neg c3]
            cases c4 : decompB x with
            | false => exact ⟨pre.length, by simp, .inr ⟨okRows_no1 (.inr (.inr (.inr c4))), by omega⟩⟩
            | true =>
              rw [okRows_yes c1 c2 c3 c4]
              simpa using ih x.hi
theorem rise_excl (l : List Spn) : ∃ r, book_rising_api_Span_fbg.f l = some r ∧ Says r (rowsB (·.lo) (·.hi) (fun x : Spn => !touchB x.lo x.hi) l) := by
  unfold book_rising_api_Span_fbg.f rowsB
  by_cases h : (65536 : Int) < l.length
  · exact ⟨65536, by rw [if_pos h], .inr ⟨by simp [show ¬ l.length ≤ 65536 by omega], by decide⟩⟩
  · rw [if_neg h]
    have hl : l.length ≤ bigN := by unfold bigN; omega
    simp only [show l.length ≤ 65536 by omega, decide_true, Bool.true_and]
    refine loop_ind (fun k i last => book_rising_api_Span_fbg.l1 k l last i) l (fun pre t last o => ∃ r, o = some r ∧ Says r (okRows (·.lo) (·.hi) (fun x : Spn => !touchB x.lo x.hi) last t)) ?_ ?_ (-1) K0 (ltK hl)
    · intro last k
      exact ⟨-1, by simp only [book_rising_api_Span_fbg.l1, if_neg (show ¬ (l.length : Int) < (l.length : Int) by omega)], .inl ⟨rfl, rfl⟩⟩
    · intro pre x t last k e ih
      obtain ⟨h1, h2⟩ := mid e
      simp only [book_rising_api_Span_fbg.l1, if_pos h2.2, if_pos h2, h1, book_ofSpan.f, Option.bind_some, check2_eq, book_rising_api_Span_fbg.j1, nxt hl e]
      by_cases c1 : x.lo ≤ last
      · exact ⟨pre.length, by simp [c1], .inr ⟨okRows_no1 (.inl c1), by omega⟩⟩
      · by_cases c2 : x.hi < x.lo
        · exact ⟨pre.length, by simp [c1, c2], .inr ⟨okRows_no1 (.inr (.inl c2)), by omega⟩⟩
        · by_cases c3 : 1114111 < x.hi
          · exact ⟨pre.length, by simp [c1, c2, c3], .inr ⟨okRows_no1 (.inr (.inr (.inl c3))), by omega⟩⟩
          · rw [if_neg c1, if_neg c2, if_neg c3]
            cases c4 : (!touchB x.lo x.hi) with
            | false => exact ⟨pre.length, by simp, .inr ⟨okRows_no1 (.inr (.inr (.inr c4))), by omega⟩⟩
            | true =>
              rw [okRows_yes c1 c2 c3 c4]
              simpa using ih x.hi
theorem rise_marks (l : List Spn) : ∃ r, book_rising_api_Span_and.f l = some r ∧ Says r (rowsB (·.lo) (·.hi) (fun _ : Spn => true) l) := by
  unfold book_rising_api_Span_and.f rowsB
  by_cases h : (65536 : Int) < l.length
  · exact ⟨65536, by rw [if_pos h], .inr ⟨by simp [show ¬ l.length ≤ 65536 by omega], by decide⟩⟩
  · rw [if_neg h]
    have hl : l.length ≤ bigN := by unfold bigN; omega
    simp only [show l.length ≤ 65536 by omega, decide_true, Bool.true_and]
    refine loop_ind (fun k i last => book_rising_api_Span_and.l1 k l last i) l (fun pre t last o => ∃ r, o = some r ∧ Says r (okRows (·.lo) (·.hi) (fun _ : Spn => true) last t)) ?_ ?_ (-1) K0 (ltK hl)
    · intro last k
      exact ⟨-1, by simp only [book_rising_api_Span_and.l1, if_neg (show ¬ (l.length : Int) < (l.length : Int) by omega)], .inl ⟨rfl, rfl⟩⟩
    · intro pre x t last k e ih
      obtain ⟨h1, h2⟩ := mid e
      simp only [book_rising_api_Span_and.l1, if_pos h2.2, if_pos h2, h1, book_ofSpan.f, Option.bind_some, check1_eq, book_rising_api_Span_and.j1, nxt hl e]
      by_cases c1 : x.lo ≤ last
      · exact ⟨pre.length, by simp [c1], .inr ⟨okRows_no1 (.inl c1), by omega⟩⟩
      · by_cases c2 : x.hi < x.lo
        · exact ⟨pre.length, by simp [c1, c2], .inr ⟨okRows_no1 (.inr (.inl c2)), by omega⟩⟩
        · by_cases c3 : 1114111 < x.hi
          · exact ⟨pre.length, by simp [c1, c2, c3], .inr ⟨okRows_no1 (.inr (.inr (.inl c3))), by omega⟩⟩
          · rw [if_neg c1, if_neg c2, if_neg c3]
            rw [okRows_yes c1 c2 c3 rfl]
            simpa using ih x.hi
theorem rise_like (l : List Chs) : ∃ r, book_rising_api_Chars_hdj.f l = some r ∧ Says r (rowsB (·.lo) (·.hi) (fun x : Chs => charsB x.is_ 1 18) l) := by
  unfold book_rising_api_Chars_hdj.f rowsB
  by_cases h : (65536 : Int) < l.length
  · exact ⟨65536, by rw [if_pos h], .inr ⟨by simp [show ¬ l.length ≤ 65536 by omega], by decide⟩⟩
  · rw [if_neg h]
    have hl : l.length ≤ bigN := by unfold bigN; omega
    simp only [show l.length ≤ 65536 by omega, decide_true, Bool.true_and]
    refine loop_ind (fun k i last => book_rising_api_Chars_hdj.l1 k l last i) l (fun pre t last o => ∃ r, o = some r ∧ Says r (okRows (·.lo) (·.hi) (fun x : Chs => charsB x.is_ 1 18) last t)) ?_ ?_ (-1) K0 (ltK hl)
    · intro last k
      exact ⟨-1, by simp only [book_rising_api_Chars_hdj.l1, if_neg (show ¬ (l.length : Int) < (l.length : Int) by omega)], .inl ⟨rfl, rfl⟩⟩
    · intro pre x t last k e ih
      obtain ⟨h1, h2⟩ := mid e
      simp only [book_rising_api_Chars_hdj.l1, if_pos h2.2, if_pos h2, h1, book_ofChars.f, Option.bind_some, check3_eq, book_rising_api_Chars_hdj.j1, nxt hl e]
      by_cases c1 : x.lo ≤ last
      · exact ⟨pre.length, by simp [c1], .inr ⟨okRows_no1 (.inl c1), by omega⟩⟩
      · by_cases c2 : x.hi < x.lo
        · exact ⟨pre.length, by simp [c1, c2], .inr ⟨okRows_no1 (.inr (.inl c2)), by omega⟩⟩
        · by_cases c3 : 1114111 < x.hi
          · exact ⟨pre.length, by simp [c1, c2, c3], .inr ⟨okRows_no1 (.inr (.inr (.inl c3))), by omega⟩⟩
          · rw [if_neg c1, if_neg c2, if_neg c3]
            cases c4 : charsB x.is_ 1 18 with
            | false => exact ⟨pre.length, by simp, .inr ⟨okRows_no1 (.inr (.inr (.inr c4))), by omega⟩⟩
            | true =>
              rw [okRows_yes c1 c2 c3 c4]
              simpa using ih x.hi
end Go.Proofs.YtekafkokpnihfaaGreat
