/- Plain laws, ninth part: a block of a staged table is laid from its rows. Own work of this repo. -/
import Derived.Test.YtekafkokpnihfaaGreatPureH
namespace Go.Proofs.YtekafkokpnihfaaGreat
open Go.RowKit

theorem loop_to {σ β : Type} (L : Nat → Int → σ → Option β) (hi : Int) (Spec : Int → σ → Option β → Prop)
    (hend : ∀ s k, Spec hi s (L (k + 1) hi s))
    (hstep : ∀ i s k, i < hi → (∀ s', Spec (i + 1) s' (L k (i + 1) s')) → Spec i s (L (k + 1) i s)) :
    ∀ (n : Nat) i s k, hi = i + n → n < k → Spec i s (L k i s) := by
  intro n
  induction n with
  | zero =>
    intro i s k e hk
    obtain ⟨k, rfl⟩ : ∃ j, k = j + 1 := ⟨k - 1, by omega⟩
    have : hi = i := by omega
    subst this
    exact hend s k
  | succ n ih =>
    intro i s k e hk
    obtain ⟨k, rfl⟩ : ∃ j, k = j + 1 := ⟨k - 1, by omega⟩
    exact hstep i s k (by omega) fun s' => ih (i + 1) s' k (by omega) (by omega)
def inB (p : Int) (x : Val) : Bool := decide (x.lo ≤ p) && decide (p ≤ x.hi)
def valAt : List Val → Int → Int
  | [], _ => 0
  | x :: t, p => if inB p x = true then x.n else valAt t p
theorem valAt_none {p : Int} : ∀ {l : List Val}, (∀ x ∈ l, inB p x = false) → valAt l p = 0
  | [], _ => rfl
  | x :: t, h => by
    rw [valAt, if_neg (by rw [h x (List.mem_cons_self ..)]; decide)]
    exact valAt_none fun y hy => h y (List.mem_cons_of_mem _ hy)
theorem valAt_skip {p : Int} {b : List Val} : ∀ {a : List Val}, (∀ x ∈ a, inB p x = false) → valAt (a ++ b) p = valAt b p
  | [], _ => rfl
  | x :: t, h => by
    rw [List.cons_append, valAt, if_neg (by rw [h x (List.mem_cons_self ..)]; decide)]
    exact valAt_skip fun y hy => h y (List.mem_cons_of_mem _ hy)
theorem valAt_stop {p : Int} {b : List Val} : ∀ {a : List Val}, (∀ x ∈ b, inB p x = false) → valAt (a ++ b) p = valAt a p
  | [], h => valAt_none h
  | x :: t, h => by
    rw [List.cons_append, valAt, valAt, valAt_stop (a := t) h]
theorem okRows_ord {α : Type} {lo hi : α → Int} {may : α → Bool} : ∀ {a : List α} {last : Int} {x : α} {t : List α}, okRows lo hi may last (a ++ x :: t) = true →
    (∀ y ∈ a, hi y < lo x) ∧ (∀ z ∈ t, hi x < lo z) ∧ last < lo x ∧ lo x ≤ hi x ∧ hi x ≤ 1114111 ∧ may x = true
  | [], last, x, t, h => by
    simp only [List.nil_append, okRows, Bool.and_eq_true, decide_eq_true_eq] at h
    obtain ⟨⟨⟨⟨h1, h2⟩, h3⟩, h4⟩, h5⟩ := h
    exact ⟨fun y hy => (by cases hy), fun z hz => (okRows_lt h5 z hz).1, h1, h2, h3, h4⟩
  | y :: a, last, x, t, h => by
    simp only [List.cons_append, okRows, Bool.and_eq_true, decide_eq_true_eq] at h
    obtain ⟨⟨⟨⟨h1, h2⟩, h3⟩, h4⟩, h5⟩ := h
    have g := okRows_ord h5
    obtain ⟨g1, g2, g3, g4, g5, g6⟩ := g
    refine ⟨fun z hz => ?_, g2, by omega, g4, g5, g6⟩
    rcases List.mem_cons.1 hz with rfl | hz
    · exact g3
    · exact g1 z hz
theorem sub_suf {α : Type} {xs pre t : List α} (e : xs = pre ++ t) : sub xs (pre.length : Int) (xs.length : Int) = t := by
  subst e
  rw [sub, Int.toNat_natCast, Int.toNat_natCast, List.take_length, List.drop_left]
theorem vg_vset {m : Nat} (y : Vector Int m) {i j : Int} (z : Int) (hi0 : 0 ≤ i) (hi1 : i < (m : Int)) (hj0 : 0 ≤ j) (hj1 : j < (m : Int)) : vg (vset y i z) j = if i = j then z else vg y j := by
  have h1 : i.toNat < m := by omega
  have h2 : j.toNat < m := by omega
  simp only [vg, vset, Vector.toList, List.getD_eq_getElem?_getD, Array.getElem?_toList, Array.getElem?_setIfInBounds]
  by_cases c : i = j
  · simp [c, h2]
  · rw [if_neg c, if_neg (by omega)]
theorem vg_zero {m : Nat} {j : Int} : vg (Vector.replicate m (0 : Int)) j = 0 := by
  simp only [vg, List.getD_eq_getElem?_getD]
  by_cases c : j.toNat < m
  · simp [c]
  · simp [c]
def rowMay (x : Val) : Bool := decide (0 ≤ x.n) && decide (x.n ≤ 65535)
def RowsOk (l : List Val) : Prop := l.length ≤ 65536 ∧ okRows (·.lo) (·.hi) rowMay (-1) l = true
abbrev Blk := Vector Int 128
def blank : Blk := Vector.replicate 128 0
def Holds (v : Blk) (l : List Val) (p : Int) : Prop := ∀ j : Int, 0 ≤ j → j < 128 → vg v j = valAt l (p + j)
theorem stage_check_eq {l : List Val} (h : RowsOk l) : stage_check.f l = some (0, 0) := by
  have hl : l.length ≤ bigN := by have := h.1; unfold bigN; omega
  unfold stage_check.f
  rw [if_neg (by have := h.1; omega)]
  exact loop_ind (fun k i last => stage_check.l1 k l last i) l (fun pre t last o => okRows (·.lo) (·.hi) rowMay last t = true → o = some (0, 0))
    (fun s k _ => by simp only [stage_check.l1, if_neg (show ¬ (l.length : Int) < (l.length : Int) by omega)])
    (fun pre x t s k e ih hs => by
      obtain ⟨h1, h2⟩ := mid e
      simp only [okRows, rowMay, Bool.and_eq_true, decide_eq_true_eq] at hs
      obtain ⟨⟨⟨⟨g1, g2⟩, g3⟩, g4, g5⟩, g6⟩ := hs
      simp only [stage_check.l1, if_pos h2.2, if_pos h2, h1, stage_check.j2, stage_check.j1, nxt hl e]
      rw [if_neg (by omega), if_neg (by omega), if_neg (by simp; omega), if_neg (by omega), if_neg (by simp; omega)]
      exact ih x.hi g6) (-1) K0 (ltK hl) h.2
structure Past (l : List Val) (k p : Int) where
  done : List Val
  rest : List Val
  eq : l = done ++ rest
  len : k = (done.length : Int)
  old : ∀ x ∈ done, x.hi < p
theorem lay_row (go : Blk → Bool → Int → Option (Bool × Int × Blk)) (l done rest : List Val) (p i : Int) (x : Val) (v : Blk) (hp : 0 ≤ p) (hp1 : p ≤ 1113984) (el : l = done ++ rest) (ei : rd rest i = x)
    (hx0 : p ≤ x.hi) (hx1 : x.lo ≤ p + 127) (hx2 : x.lo ≤ x.hi) (hx3 : 0 ≤ x.lo) (hx4 : x.hi ≤ 1114111) (hn : 0 ≤ x.n ∧ x.n ≤ 65535) (hi : IntKind.i64.wrap (i + 1) = i + 1) :
    ∃ v', stage_lay_fod.l1 go K0 l p (done.length : Int) i v (max x.lo p) = go v' true (i + 1) ∧ ∀ j : Int, 0 ≤ j → j < 128 → vg v' j = if inB (p + j) x = true then x.n else vg v j := by
  have hs : sub l (done.length : Int) (l.length : Int) = rest := sub_suf el
  have hlast : IntKind.i32.wrap ((IntKind.i32.wrap (p + 128)) - 1) = p + 127 := by rw [w32 (x := p + 128) (by omega) (by omega), w32 (by omega) (by omega)]; omega
  have hstart : max x.lo p ≤ min x.hi (p + 127) := by omega
  have := loop_to (fun k q v => stage_lay_fod.l1 go k l p (done.length : Int) i v q) (min x.hi (p + 127) + 1)
    (fun q (w : Blk) o => max x.lo p ≤ q → (∀ j : Int, 0 ≤ j → j < 128 → vg w j = if max x.lo p ≤ p + j ∧ p + j < q then x.n else vg v j) →
      ∃ v', o = go v' true (i + 1) ∧ ∀ j : Int, 0 ≤ j → j < 128 → vg v' j = if inB (p + j) x = true then x.n else vg v j)
    (fun w k _ hw => by
      simp only [stage_lay_fod.l1, hs, ei, hlast]
      rw [if_neg (by omega), hi]
      refine ⟨w, rfl, fun j h0 h1 => ?_⟩
      rw [hw j h0 h1]
      simp only [inB, Bool.and_eq_true, decide_eq_true_eq]
      by_cases c : x.lo ≤ p + j ∧ p + j ≤ x.hi
      · rw [if_pos c, if_pos (by omega)]
      · rw [if_neg c, if_neg (by omega)])
    (fun q w k hq ih hq0 hw => by
      simp only [stage_lay_fod.l1, hs, ei, hlast]
      rw [if_pos (by omega), w32 (x := q - p) (by omega) (by omega), if_pos ⟨by omega, by omega⟩, w16 hn.1 (by omega), w32 (x := q + 1) (by omega) (by omega)]
      refine ih _ (by omega) fun j h0 h1 => ?_
      rw [vg_vset w x.n (by omega) (by omega) h0 (by omega), hw j h0 h1]
      by_cases c : q - p = j
      · rw [if_pos c, if_pos (by omega)]
      · rw [if_neg c]
        by_cases c2 : max x.lo p ≤ p + j ∧ p + j < q
        · rw [if_pos c2, if_pos (by omega)]
        · rw [if_neg c2, if_neg (by omega)])
    (min x.hi (p + 127) + 1 - max x.lo p).toNat (max x.lo p) v K0 (by omega) (by unfold K0; omega) (Int.le_refl _)
    (fun j h0 h1 => by rw [if_neg (by omega)])
  exact this
end Go.Proofs.YtekafkokpnihfaaGreat
