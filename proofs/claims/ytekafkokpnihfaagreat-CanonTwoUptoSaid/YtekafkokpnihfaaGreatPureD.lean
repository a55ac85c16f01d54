/- Plain laws, fourth part: the rows of Maps lie apart from those of Status. Own work of this repo. -/
import Derived.Test.YtekafkokpnihfaaGreatPureC
namespace Go.Proofs.YtekafkokpnihfaaGreat
open Go.RowKit

def meetsB (x : Chs) (y : Val) : Bool := decide (y.lo ≤ x.hi) && decide (x.lo ≤ y.hi)
def mapB (st : List Val) (x : Chs) : Bool := charsB x.is_ 1 18 && !st.any (meetsB x)
def freeB (x : Chs) : List Val → Bool
  | [] => true
  | y :: _ => decide (x.hi < y.lo)
theorem apart_step (st : List Val) (x : Chs) (hst : st.length ≤ bigN) : ∀ (rest done : List Val) (k : Nat), st = done ++ rest → rest.length < k →
    ∃ done' rest', st = done' ++ rest' ∧ (∃ p, done' = done ++ p ∧ ∀ y ∈ p, y.hi < x.lo) ∧ (∀ y, rest'.head? = some y → ¬ y.hi < x.lo) ∧
      book_apart_1_cbj.l1 k st x (done.length : Int) = some (charsB x.is_ 1 18 && freeB x rest', (done'.length : Int)) := by
  intro rest
  induction rest with
  | nil =>
    intro done k e hk
    obtain ⟨k, rfl⟩ : ∃ j, k = j + 1 := ⟨k - 1, by simp at hk; omega⟩
    have hd : st.length = done.length := by rw [e]; simp
    refine ⟨done, [], e, ⟨[], by simp, fun y hy => by cases hy⟩, fun y hy => by simp at hy, ?_⟩
    rw [book_apart_1_cbj.l1, if_neg (by rw [hd]; omega)]
    simp only [book_apart_1_cbj.j2, book_apart_1_cbj.j1, scalars_eq x.is_ 1 18 (by decide), Option.bind_some, Bool.false_eq_true, if_false]
    cases charsB x.is_ 1 18 with
    | false => simp
    | true => simp [hd, freeB]
  | cons y rest ih =>
    intro done k e hk
    obtain ⟨k, rfl⟩ : ∃ j, k = j + 1 := ⟨k - 1, by simp at hk; omega⟩
    obtain ⟨h1, h2⟩ := mid e
    by_cases c : y.hi < x.lo
    · obtain ⟨done', rest', e1, ⟨p, e2, e3⟩, e4, e5⟩ := ih (done ++ [y]) k (by rw [e]; simp) (by simp at hk; omega)
      refine ⟨done', rest', e1, ⟨y :: p, by rw [e2]; simp, fun z hz => ?_⟩, e4, ?_⟩
      · rcases List.mem_cons.1 hz with rfl | hz
        · exact c
        · exact e3 z hz
      · rw [book_apart_1_cbj.l1, if_pos h2.2, if_pos h2, h1]
        simp only [book_apart_1_cbj.j2, c, decide_true, if_true, nxt hst e]
        simpa using e5
    · refine ⟨done, y :: rest, e, ⟨[], by simp, fun z hz => by cases hz⟩, fun z hz => by simp at hz; subst hz; exact c, ?_⟩
      rw [book_apart_1_cbj.l1, if_pos h2.2, if_pos h2, h1]
      simp only [book_apart_1_cbj.j2, book_apart_1_cbj.j1, c, decide_false, scalars_eq x.is_ 1 18 (by decide), Option.bind_some, Bool.false_eq_true, if_false]
      cases charsB x.is_ 1 18 with
      | false => simp
      | true =>
        rw [if_pos rfl, if_neg (by omega), if_pos h2, h1]
        simp [freeB]
theorem okRows_lt {α : Type} {lo hi : α → Int} {may : α → Bool} : ∀ {l : List α} {last : Int}, okRows lo hi may last l = true → ∀ y ∈ l, last < lo y ∧ lo y ≤ hi y ∧ hi y ≤ 1114111 ∧ may y = true
  | [], _, _, y, hy => by cases hy
  | x :: t, last, h, y, hy => by
    simp only [okRows, Bool.and_eq_true, decide_eq_true_eq] at h
    obtain ⟨⟨⟨⟨h1, h2⟩, h3⟩, h4⟩, h5⟩ := h
    rcases List.mem_cons.1 hy with rfl | hy
    · exact ⟨h1, h2, h3, h4⟩
    · obtain ⟨a, b, c, d⟩ := okRows_lt h5 y hy
      exact ⟨by omega, b, c, d⟩
theorem okRows_app {α : Type} {lo hi : α → Int} {may : α → Bool} : ∀ {a b : List α} {last : Int}, okRows lo hi may last (a ++ b) = true → ∃ last', okRows lo hi may last' b = true
  | [], b, last, h => ⟨last, h⟩
  | x :: a, b, last, h => by
    simp only [List.cons_append, okRows, Bool.and_eq_true] at h
    exact okRows_app h.2
theorem free_meets {st done rest : List Val} {x : Chs} (hs : ∃ may : Val → Bool, okRows (·.lo) (·.hi) may (-1) st = true) (e : st = done ++ rest) (hd : ∀ y ∈ done, y.hi < x.lo) (hr : ∀ y, rest.head? = some y → ¬ y.hi < x.lo) (hx : x.lo ≤ x.hi) : freeB x rest = !st.any (meetsB x) := by
  obtain ⟨may, hs⟩ := hs
  have hdone : done.any (meetsB x) = false := by
    rw [List.any_eq_false]
    intro y hy
    have := hd y hy
    simp [meetsB, show ¬ x.lo ≤ y.hi by omega]
  rw [e, List.any_append, hdone, Bool.false_or]
  rw [e] at hs
  obtain ⟨last, hs⟩ := okRows_app hs
  cases rest with
  | nil => rfl
  | cons y t =>
    have hy := hr y rfl
    simp only [okRows, Bool.and_eq_true, decide_eq_true_eq] at hs
    by_cases c : x.hi < y.lo
    · have ht : (y :: t).any (meetsB x) = false := by
        rw [List.any_eq_false]
        intro z hz
        rcases List.mem_cons.1 hz with rfl | hz
        · simp [meetsB, show ¬ z.lo ≤ x.hi by omega]
        · have := (okRows_lt hs.2 z hz).1
          simp [meetsB, show ¬ z.lo ≤ x.hi by omega]
      simp [freeB, c, ht]
    · have : meetsB x y = true := by simp [meetsB]; omega
      simp [freeB, c, this]
theorem rise_maps (b : Bk) (hs : ∃ may : Val → Bool, okRows (·.lo) (·.hi) may (-1) b.status = true) (hst : b.status.length ≤ bigN) : ∃ r, book_apart.f b = some r ∧ Says r (rowsB (·.lo) (·.hi) (mapB b.status) b.maps) := by
  unfold book_apart.f book_rising_api_Chars_mdm.f rowsB
  by_cases h : (65536 : Int) < b.maps.length
  · exact ⟨65536, by rw [if_pos h]; rfl, .inr ⟨by simp [show ¬ b.maps.length ≤ 65536 by omega], by decide⟩⟩
  · rw [if_neg h]
    have hl : b.maps.length ≤ bigN := by unfold bigN; omega
    simp only [show b.maps.length ≤ 65536 by omega, decide_true, Bool.true_and]
    have := loop_ind (fun k i (s : Int × Int) => book_rising_api_Chars_mdm.l1 k b.names b.status b.maps b.class_ b.decomp b.excl b.bidi b.join b.marks b.script b.like b.maps s.1 s.2 i) b.maps
      (fun pre t s o => (∃ done rest, b.status = done ++ rest ∧ s.1 = (done.length : Int) ∧ ∀ y ∈ done, y.hi ≤ s.2) → ∃ r, (o.bind fun r => some r.1) = some r ∧ Says r (okRows (·.lo) (·.hi) (mapB b.status) s.2 t))
      (fun s k _ => ⟨-1, by simp only [book_rising_api_Chars_mdm.l1, if_neg (show ¬ (b.maps.length : Int) < (b.maps.length : Int) by omega)]; rfl, .inl ⟨rfl, rfl⟩⟩)
      (fun pre x t s k e ih hinv => by
        obtain ⟨h1, h2⟩ := mid e
        obtain ⟨done, rest, e1, e2, e3⟩ := hinv
        simp only [book_rising_api_Chars_mdm.l1, if_pos h2.2, if_pos h2, h1, book_ofChars.f, Option.bind_some, book_rising_api_Chars_mdm.j1, nxt hl e]
        by_cases c1 : x.lo ≤ s.2
        · exact ⟨pre.length, by simp [c1], .inr ⟨okRows_no1 (.inl c1), by omega⟩⟩
        · by_cases c2 : x.hi < x.lo
          · exact ⟨pre.length, by simp [c1, c2], .inr ⟨okRows_no1 (.inr (.inl c2)), by omega⟩⟩
          · by_cases c3 : 1114111 < x.hi
            · exact ⟨pre.length, by simp [c1, c2, c3], .inr ⟨okRows_no1 (.inr (.inr (.inl c3))), by omega⟩⟩
            · rw [if_neg c1, if_neg c2, if_neg c3]
              have hrl : rest.length < K0 := ltK (by rw [e1] at hst; simp at hst; omega)
              obtain ⟨done', rest', f1, ⟨p, f2, f3⟩, f4, f5⟩ := apart_step b.status x hst rest done K0 e1 hrl
              have hd' : ∀ y ∈ done', y.hi < x.lo := by
                intro y hy
                rw [f2] at hy
                rcases List.mem_append.1 hy with hy | hy
                · have := e3 y hy; omega
                · exact f3 y hy
              have hfree := free_meets hs f1 hd' f4 (by omega)
              have happ : book_apart_1_cbj.f x s.1 b.names b.status b.maps b.class_ b.decomp b.excl b.bidi b.join b.marks b.script b.like = some (mapB b.status x, (done'.length : Int)) := by
                unfold book_apart_1_cbj.f
                rw [e2, f5, hfree]; rfl
              rw [happ, Option.bind_some]
              cases c4 : mapB b.status x with
              | false => exact ⟨pre.length, by simp, .inr ⟨okRows_no1 (.inr (.inr (.inr c4))), by omega⟩⟩
              | true =>
                rw [okRows_yes c1 c2 c3 c4]
                have := ih ((done'.length : Int), x.hi) ⟨done', rest', f1, rfl, fun y hy => by have := hd' y hy; show y.hi ≤ x.hi; omega⟩
                simpa using this) (0, -1) K0 (ltK hl) ⟨[], b.status, rfl, rfl, fun y hy => by cases hy⟩
    exact this
theorem ref_meets (x : Chs) (st : List Val) (hst : st.length ≤ bigN) : ref10_meets.f x st = some (st.any (meetsB x)) := by
  refine loop_ind (fun k i (_ : Unit) => ref10_meets.l1 k x st i) st (fun pre t _ o => o = some (t.any (meetsB x))) ?_ ?_ () K0 (ltK hst)
  · intro _ k
    simp only [ref10_meets.l1, if_neg (show ¬ (st.length : Int) < (st.length : Int) by omega)]
    rfl
  · intro pre y t _ k e ih
    obtain ⟨h1, h2⟩ := mid e
    simp only [ref10_meets.l1, if_pos h2.2, if_pos h2, h1, ref10_meets.j1, nxt hst e, List.any_cons]
    have ih := ih ()
    by_cases c1 : y.lo ≤ x.hi
    · by_cases c2 : x.lo ≤ y.hi
      · simp [c1, c2, meetsB]
      · simpa [c1, c2, meetsB] using ih
    · simpa [c1, meetsB] using ih
end Go.Proofs.YtekafkokpnihfaaGreat
