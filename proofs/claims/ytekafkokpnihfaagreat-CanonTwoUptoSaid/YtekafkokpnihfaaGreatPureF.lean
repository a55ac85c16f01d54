/- Plain laws, sixth part: the whole of the decompositions, by the book and by the reference. Own work of this repo. -/
import Derived.Test.YtekafkokpnihfaaGreatPureE
namespace Go.Proofs.YtekafkokpnihfaaGreat
open Go.RowKit

def twin (x y : Chs) : Bool := decide ((x.is_.length : Int) = 2) && decide ((y.is_.length : Int) = 2) && decide (rd x.is_ 0 = rd y.is_ 0) && decide (rd x.is_ 1 = rd y.is_ 1)
def goodB (D : List Chs) : List Chs → List Chs → Bool
  | _, [] => true
  | pre, x :: t => decide (Lc (paP D) (D.length + 1) x.lo ≤ 18) && !pre.any (twin x) && goodB D (pre ++ [x]) t
def twoV (x : Chs) : Vector Int 2 := #v[rd x.is_ 0, rd x.is_ 1]
theorem twoV_eq (x y : Chs) : twoV x = twoV y ↔ rd x.is_ 0 = rd y.is_ 0 ∧ rd x.is_ 1 = rd y.is_ 1 := by
  unfold twoV
  constructor
  · intro h
    have h := congrArg Vector.toList h
    simpa using h
  · rintro ⟨h1, h2⟩
    rw [h1, h2]
structure Dok (D : List Chs) : Prop where
  len : D.length ≤ 65536
  one : ∀ x ∈ D, x.lo = x.hi
  row : ∀ x ∈ D, paP D x.lo = x.is_
  kid : ∀ x ∈ D, 1 ≤ x.is_.length ∧ x.is_.length ≤ 2
theorem paP_row : ∀ (D : List Chs) (last : Int), okRows (·.lo) (·.hi) decompB last D = true → ∀ x ∈ D, paP D x.lo = x.is_
  | [], _, _, x, hx => by cases hx
  | y :: t, last, h, x, hx => by
    simp only [okRows, Bool.and_eq_true, decide_eq_true_eq] at h
    rcases List.mem_cons.1 hx with rfl | hx
    · rw [paP, if_pos (by omega)]
    · have := (okRows_lt h.2 x hx).1
      rw [paP, if_neg (by omega)]
      exact paP_row t _ h.2 x hx
theorem Dok.mk' {D : List Chs} (h : rowsB (·.lo) (·.hi) decompB D = true) : Dok D := by
  simp only [rowsB, Bool.and_eq_true, decide_eq_true_eq] at h
  have g : ∀ x ∈ D, decompB x = true := fun x hx => (okRows_lt h.2 x hx).2.2.2
  refine ⟨h.1, fun x hx => ?_, paP_row D _ h.2, fun x hx => ?_⟩
  · have := g x hx; simp only [decompB, Bool.and_eq_true, decide_eq_true_eq] at this; exact this.1.1.1
  · have := g x hx; simp only [decompB, charsB, Bool.and_eq_true, decide_eq_true_eq] at this
    have := this.1.2.1; omega
theorem Dok.none {D : List Chs} {c : Int} : ∀ {l : List Chs}, (∀ x ∈ l, x.lo = x.hi) → (∀ x ∈ l, x.lo ≠ c) → paP l c = []
  | [], _, _ => rfl
  | x :: t, h1, h2 => by
    have a := h1 x (List.mem_cons_self ..)
    have b := h2 x (List.mem_cons_self ..)
    rw [paP, if_neg (by omega)]
    exact Dok.none (D := D) (fun y hy => h1 y (List.mem_cons_of_mem _ hy)) (fun y hy => h2 y (List.mem_cons_of_mem _ hy))
theorem paP_two {D : List Chs} (h : Dok D) (c : Int) : (paP D c).length ≤ 2 := by
  have : ∀ l : List Chs, (∀ x ∈ l, x.is_.length ≤ 2) → (paP l c).length ≤ 2 := by
    intro l
    induction l with
    | nil => intro _; simp [paP]
    | cons x t ih =>
      intro h
      unfold paP
      split
      · exact h x (List.mem_cons_self ..)
      · exact ih fun y hy => h y (List.mem_cons_of_mem _ hy)
  exact this D fun x hx => (h.kid x hx).2
theorem pos_le (N : Nat) (M : Mem) : pos N M ≤ N := by
  have := List.countP_le_length (p := fun j : Nat => decide (0 < (mget M (j : Int)).getD 0)) (l := List.range N)
  simpa [pos] using this
theorem un_le (N : Nat) (M : Mem) : un N M ≤ N := by
  have := List.countP_le_length (p := fun j : Nat => (mget M (j : Int)).isNone) (l := List.range N)
  simpa [un] using this
theorem book_whole1 {D : List Chs} {m : Mem} (h : Dok D) (hix : ixok D m) : ∃ r, book_whole.l1 K0 D m [] [] 0 = some r ∧ Says r (goodB D [] D) := by
  have hl : D.length ≤ bigN := by have := h.len; unfold bigN; omega
  refine loop_ind (fun k i (s : List (Vector Int 2 × Bool) × Mem) => book_whole.l1 k D m s.1 s.2 i) D
    (fun pre t s o => Mok D s.2 → (∀ j, mget s.2 j ≠ some 0) → (∀ v, (mget s.1 v).getD false = true ↔ ∃ x ∈ pre, (x.is_.length : Int) = 2 ∧ twoV x = v) → ∃ r, o = some r ∧ Says r (goodB D pre t))
    ?_ ?_ ([], []) K0 (ltK hl) (fun j n e => by cases e) (fun j e => by cases e) (fun v => by simp [mget])
  · intro ⟨S, M⟩ k _ _ _
    exact ⟨-1, by simp only [book_whole.l1, if_neg (show ¬ (D.length : Int) < (D.length : Int) by omega)], .inl ⟨rfl, rfl⟩⟩
  · intro pre x t ⟨S, M⟩ k e ih hM hz hS
    simp only at hM hz hS
    obtain ⟨h1, h2⟩ := mid e
    have hx : x ∈ D := by rw [e]; simp
    obtain ⟨r, M', er, hr⟩ := tree_len h.len hix h.row h.kid K0 M (pre.length : Int) hM h2.1 h2.2 (Nat.lt_of_le_of_lt (un_le _ _) (ltK hl))
    rw [h1] at hr
    simp only [book_whole.l1, if_pos h2.2, if_pos h2, er, Option.bind_some, h1, book_whole.j1, nxt hl e, goodB]
    rcases hr with ⟨rfl, hr⟩ | ⟨r0, r1, hM', r2, hE⟩
    · have := hr (D.length + 1) fun j ej => absurd ej (hz j)
      exact ⟨_, by rw [if_pos rfl], .inr ⟨by simp [show ¬ Lc (paP D) (D.length + 1) x.lo ≤ 18 by omega], by omega⟩⟩
    · rw [if_neg (by omega)]
      have hL : Lc (paP D) (D.length + 1) x.lo ≤ 18 := by
        rw [Lc_stay _ (Nat.le_succ_of_le (pos_le D.length M')) (by omega)]; omega
      have hz' : ∀ j, mget M' j ≠ some 0 := fun j ej => hz j (hE.2 j ej)
      simp only [hL, decide_true, Bool.true_and]
      by_cases c : (x.is_.length : Int) = 2
      · rw [if_pos c, if_pos ⟨Int.le_refl _, by omega⟩, if_pos ⟨by omega, by omega⟩]
        have hany : (pre.any (twin x)) = (mget S (twoV x)).getD false := by
          rw [Bool.eq_iff_iff, hS, List.any_eq_true]
          constructor
          · rintro ⟨y, hy, ht⟩
            simp only [twin, Bool.and_eq_true, decide_eq_true_eq] at ht
            exact ⟨y, hy, ht.1.1.2, ((twoV_eq x y).2 ⟨ht.1.2, ht.2⟩).symm⟩
          · rintro ⟨y, hy, hy2, ht⟩
            have := (twoV_eq x y).1 ht.symm
            exact ⟨y, hy, by simp [twin, c, hy2, this.1, this.2]⟩
        rw [hany]
        cases c2 : (mget S (twoV x)).getD false with
        | true => exact ⟨(pre.length : Int), by rw [show (#v[rd x.is_ 0, rd x.is_ 1] : Vector Int 2) = twoV x from rfl, if_pos c2], .inr ⟨by simp, by omega⟩⟩
        | false =>
          rw [show (#v[rd x.is_ 0, rd x.is_ 1] : Vector Int 2) = twoV x from rfl, if_neg (by simp [c2])]
          simp only [Bool.not_false, Bool.true_and]
          refine ih (mput S (twoV x) true, M') hM' hz' fun v => ?_
          show (mget (mput S (twoV x) true) v).getD false = true ↔ _
          rw [mget_put]
          by_cases c3 : v = twoV x
          · rw [if_pos c3]; simp only [Option.getD_some, true_iff]; exact ⟨x, by simp, c, c3.symm⟩
          · rw [if_neg c3, hS]
            constructor
            · rintro ⟨y, hy, h3⟩; exact ⟨y, by simp [hy], h3⟩
            · rintro ⟨y, hy, h3, h4⟩
              rcases List.mem_append.1 hy with hy | hy
              · exact ⟨y, hy, h3, h4⟩
              · rw [List.mem_singleton.1 hy] at h4; exact absurd h4.symm c3
      · rw [if_neg c]
        have hany : pre.any (twin x) = false := by
          rw [List.any_eq_false]; intro y _; simp [twin, c]
        rw [hany]
        simp only [Bool.not_false, Bool.true_and]
        refine ih (S, M') hM' hz' fun v => ?_
        show (mget S v).getD false = true ↔ _
        rw [hS]
        constructor
        · rintro ⟨y, hy, h3⟩; exact ⟨y, by simp [hy], h3⟩
        · rintro ⟨y, hy, h3, h4⟩
          rcases List.mem_append.1 hy with hy | hy
          · exact ⟨y, hy, h3, h4⟩
          · rw [List.mem_singleton.1 hy] at h3; exact absurd h3 c
theorem book_whole_eq {D : List Chs} (h : Dok D) : ∃ r, book_whole.f D = some r ∧ Says r (goodB D [] D) := by
  have hl : D.length ≤ bigN := by have := h.len; unfold bigN; omega
  unfold book_whole.f
  refine loop_ind (fun k i (s : Mem) => book_whole.l2 k D s i) D
    (fun pre t s o => (∀ c, mget s c = none → ∀ x ∈ pre, x.lo ≠ c) → (∀ c j, mget s c = some j → 0 ≤ j ∧ j < (D.length : Int) ∧ (rd D j).lo = c) → ∃ r, o = some r ∧ Says r (goodB D [] D))
    ?_ ?_ [] K0 (ltK hl) (fun c _ x hx => by cases hx) (fun c j hj => by cases hj)
  · intro M k h1 h2
    simp only [book_whole.l2, if_neg (show ¬ (D.length : Int) < (D.length : Int) by omega)]
    exact book_whole1 h fun c => ⟨fun e => Dok.none (D := D) h.one (h1 c e), fun j e => h2 c j e⟩
  · intro pre x t M k e ih h1 h2
    obtain ⟨h3, h4⟩ := mid e
    simp only [book_whole.l2, if_pos h4.2, if_pos h4, h3, nxt hl e]
    refine ih _ ?_ ?_
    · intro c hc y hy
      rw [mget_put] at hc
      by_cases c1 : c = x.lo
      · rw [if_pos c1] at hc; cases hc
      · rw [if_neg c1] at hc
        rcases List.mem_append.1 hy with hy | hy
        · exact h1 c hc y hy
        · rw [List.mem_singleton.1 hy]; exact fun h => c1 h.symm
    · intro c j hj
      rw [mget_put] at hj
      by_cases c1 : c = x.lo
      · rw [if_pos c1] at hj
        have : (pre.length : Int) = j := by simpa using hj
        subst this
        exact ⟨h4.1, h4.2, by rw [h3, c1]⟩
      · rw [if_neg c1] at hj; exact h2 c j hj
theorem ref_whole_eq (b : Bk) (h : Dok b.decomp) : ∃ r, ref10_whole.f b = some r ∧ Says r (goodB b.decomp [] b.decomp) := by
  have hl : b.decomp.length ≤ bigN := by have := h.len; unfold bigN; omega
  unfold ref10_whole.f
  refine loop_ind (fun k i (_ : Unit) => ref10_whole.l2 k b i) b.decomp
    (fun pre t _ o => ∃ r, o = some r ∧ Says r (goodB b.decomp pre t)) ?_ ?_ () K0 (ltK hl)
  · intro _ k
    exact ⟨-1, by simp only [ref10_whole.l2, if_neg (show ¬ (b.decomp.length : Int) < (b.decomp.length : Int) by omega)], .inl ⟨rfl, rfl⟩⟩
  · intro pre x t _ k e ih
    obtain ⟨h1, h2⟩ := mid e
    have ih := ih ()
    have hlong := ref_long b h.len (paP_two h) (b.decomp.length + 1) (Nat.le_refl _) K0 x.lo 0 (by omega) (by have := h.len; unfold K0; omega)
    simp only [ref10_whole.l2, if_pos h2.2, if_pos h2, h1, hlong, Option.bind_some, goodB]
    by_cases c : 18 < Lc (paP b.decomp) (b.decomp.length + 1) x.lo
    · exact ⟨_, by rw [if_pos c], .inr ⟨by simp [show ¬ Lc (paP b.decomp) (b.decomp.length + 1) x.lo ≤ 18 by omega], by omega⟩⟩
    · rw [if_neg c, if_pos ⟨Int.le_refl _, h2.1, by omega⟩]
      simp only [show Lc (paP b.decomp) (b.decomp.length + 1) x.lo ≤ 18 by omega, decide_true, Bool.true_and]
      have hs : sub b.decomp 0 (pre.length : Int) = pre := sub_pre e
      have hpl : pre.length ≤ bigN := by rw [e] at hl; simp at hl; omega
      have := loop_ind (fun kk i (_ : Unit) => ref10_whole.l1 (ref10_whole.l2 k b) kk b (pre.length : Int) i) pre
        (fun done rest _ o => o = if rest.any (twin x) then some (pre.length : Int) else ref10_whole.l2 k b ((pre.length : Int) + 1))
        (fun _ kk => by simp only [ref10_whole.l1, hs, if_neg (show ¬ (pre.length : Int) < (pre.length : Int) by omega), nxt hl e]; rfl)
        (fun done y rest _ kk e2 ih2 => by
          obtain ⟨h3, h4⟩ := mid e2
          have ih2 := ih2 ()
          simp only [ref10_whole.l1, hs, if_pos h4.2, if_pos h4, h1, h3, ref10_whole.j1, nxt hpl e2, List.any_cons]
          by_cases c1 : (x.is_.length : Int) = 2
          · by_cases c2 : (y.is_.length : Int) = 2
            · rw [if_pos c1, if_pos c2, if_pos ⟨Int.le_refl _, by omega⟩, if_pos ⟨Int.le_refl _, by omega⟩]
              by_cases c3 : rd x.is_ 0 = rd y.is_ 0
              · rw [if_pos c3, if_pos ⟨by omega, by omega⟩, if_pos ⟨by omega, by omega⟩]
                by_cases c4 : rd x.is_ 1 = rd y.is_ 1
                · simp [c4, twin, c1, c2, c3]
                · simpa [c4, twin] using ih2
              · simpa [c3, twin] using ih2
            · rw [if_pos c1, if_neg c2]; simpa [twin, c2] using ih2
          · rw [if_neg c1]; simpa [twin, c1] using ih2) () K0 (ltK hpl)
      rw [this]
      cases c5 : pre.any (twin x) with
      | true => exact ⟨(pre.length : Int), by simp, .inr ⟨by simp, by omega⟩⟩
      | false => simpa using ih
end Go.Proofs.YtekafkokpnihfaaGreat
