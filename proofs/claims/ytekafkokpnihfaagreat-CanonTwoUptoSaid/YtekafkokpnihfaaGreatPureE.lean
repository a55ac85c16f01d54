/- Plain laws, fifth part: how long what a code point decomposes to is; the whole of the decompositions. Own work of this repo. -/
import Derived.Test.YtekafkokpnihfaaGreatPureD
namespace Go.Proofs.YtekafkokpnihfaaGreat
open Go.RowKit

theorem mget_put {κ ν : Type} [DecidableEq κ] (l : List (κ × ν)) (x y : κ) (v : ν) : mget (mput l x v) y = if y = x then some v else mget l y := by
  induction l with
  | nil => simp [mput, mget]
  | cons p l ih =>
    simp only [mput]
    by_cases h : x = p.1
    · rw [if_pos h]
      simp only [mget, h]
      by_cases h2 : y = p.1 <;> simp [h2]
    · rw [if_neg h]
      simp only [mget, ih]
      by_cases h2 : y = p.1
      · have : ¬ y = x := fun e => h (e ▸ h2)
        simp [h2, show ¬ p.1 = x from fun e => h e.symm]
      · simp [h2]
theorem cnt_le {α : Type} {p q : α → Bool} : ∀ {l : List α}, (∀ x ∈ l, p x = true → q x = true) → l.countP p ≤ l.countP q := fun h => List.countP_mono_left h
theorem cnt_lt {α : Type} {p q : α → Bool} : ∀ {l : List α} {a : α}, a ∈ l → (∀ x ∈ l, p x = true → q x = true) → p a = false → q a = true → l.countP p < l.countP q
  | [], _, ha, _, _, _ => by cases ha
  | b :: l, a, ha, h, h1, h2 => by
    have hl := cnt_le (l := l) (fun x hx => h x (List.mem_cons_of_mem _ hx))
    simp only [List.countP_cons]
    rcases List.mem_cons.1 ha with rfl | ha
    · simp [h1, h2]; omega
    · have := cnt_lt ha (fun x hx => h x (List.mem_cons_of_mem _ hx)) h1 h2
      have hb := h b (List.mem_cons_self ..)
      cases hpb : p b with
      | false => simp; omega
      | true => rw [hpb] at hb; simp [hb rfl]; omega

def paP : List Chs → Int → List Int
  | [], _ => []
  | x :: t, c => if x.lo ≤ c ∧ c ≤ x.hi then x.is_ else paP t c
theorem ref_chars (D : List Chs) (c : Int) (hl : D.length ≤ bigN) : ref10_chars.f D c = some (paP D c) := by
  refine loop_ind (fun k i (_ : Unit) => ref10_chars.l1 k D c i) D (fun pre t _ o => o = some (paP t c)) ?_ ?_ () K0 (ltK hl)
  · intro _ k
    simp only [ref10_chars.l1, if_neg (show ¬ (D.length : Int) < (D.length : Int) by omega)]
    rfl
  · intro pre x t _ k e ih
    obtain ⟨h1, h2⟩ := mid e
    have ih := ih ()
    simp only [ref10_chars.l1, if_pos h2.2, if_pos h2, h1, ref10_chars.j1, nxt hl e, paP]
    by_cases c1 : x.lo ≤ c
    · by_cases c2 : c ≤ x.hi
      · simp [c1, c2]
      · simpa [c1, c2] using ih
    · simpa [c1] using ih
def sumI (f : Int → Int) : List Int → Int
  | [] => 0
  | c :: t => f c + sumI f t
theorem sumI_mono {f g : Int → Int} : ∀ {l : List Int}, (∀ c ∈ l, f c ≤ g c) → sumI f l ≤ sumI g l
  | [], _ => Int.le_refl _
  | c :: t, h => by
    have := sumI_mono (l := t) (fun x hx => h x (List.mem_cons_of_mem _ hx))
    have := h c (List.mem_cons_self ..)
    simp only [sumI]; omega
theorem sumI_congr {f g : Int → Int} : ∀ {l : List Int}, (∀ c ∈ l, f c = g c) → sumI f l = sumI g l
  | [], _ => rfl
  | c :: t, h => by
    rw [sumI, sumI, h c (List.mem_cons_self ..), sumI_congr (l := t) (fun x hx => h x (List.mem_cons_of_mem _ hx))]
theorem sumI_len {f : Int → Int} : ∀ {l : List Int}, (∀ c ∈ l, 1 ≤ f c) → (l.length : Int) ≤ sumI f l
  | [], _ => by simp [sumI]
  | c :: t, h => by
    have := sumI_len (l := t) (fun x hx => h x (List.mem_cons_of_mem _ hx))
    have := h c (List.mem_cons_self ..)
    simp only [sumI, List.length_cons]; omega
theorem sumI_ge {f : Int → Int} : ∀ {l : List Int}, (∀ c ∈ l, 1 ≤ f c) → ∀ c ∈ l, f c ≤ sumI f l
  | [], _, c, hc => by cases hc
  | d :: t, h, c, hc => by
    have h1 := h d (List.mem_cons_self ..)
    have h2 := sumI_len (l := t) (fun x hx => h x (List.mem_cons_of_mem _ hx))
    simp only [sumI]
    rcases List.mem_cons.1 hc with rfl | hc
    · omega
    · have := sumI_ge (l := t) (fun x hx => h x (List.mem_cons_of_mem _ hx)) c hc
      omega
theorem sumI_app (f : Int → Int) : ∀ (a b : List Int), sumI f (a ++ b) = sumI f a + sumI f b
  | [], b => by simp [sumI]
  | c :: a, b => by simp only [List.cons_append, sumI, sumI_app f a b]; omega
def cap (s : Int) : Int := if 18 < s then 19 else s
def Lc (P : Int → List Int) : Nat → Int → Int
  | 0, c => if P c = [] then 1 else 19
  | n + 1, c => if P c = [] then 1 else cap (sumI (Lc P n) (P c))
theorem Lc_one {P : Int → List Int} {c : Int} (h : P c = []) (n : Nat) : Lc P n c = 1 := by cases n <;> simp [Lc, h]
theorem Lc_pos (P : Int → List Int) : ∀ (n : Nat) (c : Int), 1 ≤ Lc P n c ∧ Lc P n c ≤ 19
  | 0, c => by unfold Lc; split <;> omega
  | n + 1, c => by
    unfold Lc
    by_cases h : P c = []
    · rw [if_pos h]; omega
    · rw [if_neg h]
      have h1 := sumI_len (f := Lc P n) (l := P c) (fun x _ => (Lc_pos P n x).1)
      have h2 : 0 < (P c).length := List.length_pos_iff.2 h
      unfold cap; split <;> omega
theorem cap_mono {a b : Int} (h : a ≤ b) : cap a ≤ cap b := by unfold cap; split <;> split <;> omega
theorem Lc_anti1 (P : Int → List Int) : ∀ (n : Nat) (c : Int), Lc P (n + 1) c ≤ Lc P n c
  | 0, c => by
    by_cases h : P c = []
    · rw [Lc_one h, Lc_one h]; omega
    · have := (Lc_pos P 1 c).2
      rw [show Lc P 0 c = 19 by simp [Lc, h]]; exact this
  | n + 1, c => by
    by_cases h : P c = []
    · rw [Lc_one h, Lc_one h]; omega
    · rw [Lc, if_neg h, Lc, if_neg h]
      exact cap_mono (sumI_mono fun x _ => Lc_anti1 P n x)
theorem Lc_anti (P : Int → List Int) {n m : Nat} (h : n ≤ m) (c : Int) : Lc P m c ≤ Lc P n c := by
  induction h with
  | refl => exact Int.le_refl _
  | step _ ih => exact Int.le_trans (Lc_anti1 P _ c) ih
theorem Lc_stay1 (P : Int → List Int) : ∀ (n : Nat) (c : Int), Lc P n c ≤ 18 → Lc P (n + 1) c = Lc P n c
  | 0, c, h => by
    by_cases e : P c = []
    · rw [Lc_one e, Lc_one e]
    · simp [Lc, e] at h
  | n + 1, c, h => by
    by_cases e : P c = []
    · rw [Lc_one e, Lc_one e]
    · rw [Lc, if_neg e] at h
      have hs : sumI (Lc P n) (P c) ≤ 18 := by unfold cap at h; split at h <;> omega
      rw [Lc, if_neg e, Lc, if_neg e, sumI_congr (fun x hx => Lc_stay1 P n x ?_)]
      have := sumI_ge (f := Lc P n) (l := P c) (fun x _ => (Lc_pos P n x).1) x hx
      omega
theorem Lc_stay (P : Int → List Int) {n m : Nat} (h : n ≤ m) {c : Int} (hc : Lc P n c ≤ 18) : Lc P m c = Lc P n c := by
  induction h with
  | refl => rfl
  | step _ ih => rw [Lc_stay1 P _ c (by rw [ih]; exact hc), ih]
theorem Lc_ge (P : Int → List Int) {e : Nat} {c : Int} (h : Lc P e c ≤ 18) (d : Nat) : Lc P e c ≤ Lc P d c := by
  rcases Nat.le_total e d with h1 | h1
  · rw [Lc_stay P h1 h]; exact Int.le_refl _
  · exact Lc_anti P h1 c

theorem ref_long (b : Bk) (hD : b.decomp.length ≤ 65536) (hP : ∀ c, (paP b.decomp c).length ≤ 2) : ∀ (n : Nat), n ≤ b.decomp.length + 1 → ∀ (k : Nat) (c lvl : Int), lvl = (b.decomp.length : Int) + 1 - n → n < k →
    ref10_long.f k b c lvl = some (Lc (paP b.decomp) n c) := by
  intro n
  have hl : b.decomp.length ≤ bigN := by unfold bigN; omega
  induction n with
  | zero =>
    intro _ k c lvl e hk
    obtain ⟨k, rfl⟩ : ∃ j, k = j + 1 := ⟨k - 1, by omega⟩
    rw [ref10_long.f, ref10_long.b, ref10_Parts.f, ref_chars _ _ hl, Option.bind_some, Option.bind_some]
    by_cases h : paP b.decomp c = []
    · rw [if_pos (by rw [h]; rfl), Lc_one h]
    · rw [if_neg (by intro h2; exact h (List.length_eq_zero_iff.1 (by omega))), if_pos (by omega)]
      simp [Lc, h]
  | succ n ih =>
    intro hn k c lvl e hk
    obtain ⟨k, rfl⟩ : ∃ j, k = j + 1 := ⟨k - 1, by omega⟩
    rw [ref10_long.f, ref10_long.b, ref10_Parts.f, ref_chars _ _ hl, Option.bind_some, Option.bind_some]
    by_cases h : paP b.decomp c = []
    · rw [if_pos (by rw [h]; rfl), Lc_one h]
    · rw [if_neg (by intro h2; exact h (List.length_eq_zero_iff.1 (by omega))), if_neg (by omega), Lc, if_neg h]
      have hpl : (paP b.decomp c).length ≤ bigN := by have := hP c; unfold bigN; omega
      have := loop_ind (fun kk i s => ref10_long.l1 kk (ref10_long.f k) b lvl (paP b.decomp c) s i) (paP b.decomp c)
        (fun pre t s o => 0 ≤ s → s ≤ 37 → o = some (cap (s + sumI (Lc (paP b.decomp) n) t)))
        (fun s kk h0 h1 => by
          simp only [ref10_long.l1, if_neg (show ¬ ((paP b.decomp c).length : Int) < ((paP b.decomp c).length : Int) by omega), sumI, cap, Int.add_zero]
          split <;> rfl)
        (fun pre x t s kk e2 ih2 h0 h1 => by
          obtain ⟨h3, h4⟩ := mid e2
          simp only [ref10_long.l1, if_pos h4.2, if_pos h4, h3, ref10_long.j1, nxt hpl e2]
          have hx := Lc_pos (paP b.decomp) n x
          by_cases c1 : s ≤ 18
          · rw [if_pos c1, w64 (by omega) (by omega), ih (by omega) k x (lvl + 1) (by omega) (by omega), Option.bind_some, w64 (by omega) (by omega)]
            rw [ih2 _ (by omega) (by omega), sumI, Int.add_assoc]
          · rw [if_neg c1, ih2 _ h0 h1]
            have h5 : (0 : Int) ≤ sumI (Lc (paP b.decomp) n) t := by
              have := sumI_len (f := Lc (paP b.decomp) n) (l := t) (fun y _ => (Lc_pos _ n y).1)
              omega
            have h6 : 18 < s + sumI (Lc (paP b.decomp) n) (x :: t) := by simp only [sumI]; omega
            rw [cap, cap, if_pos (by omega), if_pos h6]) 0 K0 (ltK hpl) (by omega) (by omega)
      rw [Int.zero_add] at this
      exact this

abbrev Mem := List (Int × Int)
def ixok (D : List Chs) (m : Mem) : Prop := ∀ c, (mget m c = none → paP D c = []) ∧ (∀ j, mget m c = some j → 0 ≤ j ∧ j < (D.length : Int) ∧ (rd D j).lo = c)
def un (N : Nat) (M : Mem) : Nat := (List.range N).countP (fun j : Nat => (mget M (j : Int)).isNone)
def pos (N : Nat) (M : Mem) : Nat := (List.range N).countP (fun j : Nat => decide (0 < (mget M (j : Int)).getD 0))
def Mok (D : List Chs) (M : Mem) : Prop := ∀ j n, mget M j = some n → 0 ≤ j ∧ j < (D.length : Int) ∧ (n = 0 ∨ (0 < n ∧ n ≤ 18 ∧ Lc (paP D) (pos D.length M) (rd D j).lo = n))
def Ext (M M' : Mem) : Prop := (∀ j n, mget M j = some n → mget M' j = some n) ∧ (∀ j, mget M' j = some 0 → mget M j = some 0)
def Zer (D : List Chs) (M : Mem) (d : Nat) : Prop := ∀ j, mget M j = some 0 → 18 < Lc (paP D) d (rd D j).lo
theorem Ext.refl (M : Mem) : Ext M M := ⟨fun _ _ h => h, fun _ h => h⟩
theorem Ext.trans {a b c : Mem} (h : Ext a b) (g : Ext b c) : Ext a c := ⟨fun j n e => g.1 j n (h.1 j n e), fun j e => h.2 j (g.2 j e)⟩
theorem Ext.un {M M' : Mem} (h : Ext M M') (N : Nat) : un N M' ≤ un N M := cnt_le fun j _ hj => by
  cases e : mget M (j : Int) with
  | none => rfl
  | some n => rw [h.1 _ _ e] at hj; simp at hj
theorem Ext.pos {M M' : Mem} (h : Ext M M') (N : Nat) : pos N M ≤ pos N M' := cnt_le fun j _ hj => by
  cases e : mget M (j : Int) with
  | none => rw [e] at hj; simp at hj
  | some n => rw [h.1 _ _ e]; rw [e] at hj; exact hj
theorem Mok.grow {D : List Chs} {M M' : Mem} (h : Mok D M) (hp : pos D.length M ≤ pos D.length M') {j n : Int} (e : mget M j = some n) : 0 ≤ j ∧ j < (D.length : Int) ∧ (n = 0 ∨ (0 < n ∧ n ≤ 18 ∧ Lc (paP D) (pos D.length M') (rd D j).lo = n)) := by
  obtain ⟨a, b, c⟩ := h j n e
  refine ⟨a, b, ?_⟩
  rcases c with c | ⟨c1, c2, c3⟩
  · exact .inl c
  · exact .inr ⟨c1, c2, by rw [Lc_stay _ hp (by omega)]; exact c3⟩
theorem rd_mem {α : Type} [Inhabited α] {D : List α} {i : Int} (h0 : 0 ≤ i) (h1 : i < (D.length : Int)) : rd D i ∈ D := List.mem_of_getElem? (rd_get h0 h1)
def Told (D : List Chs) (M : Mem) (i : Int) (o : Option (Int × Mem)) : Prop := ∃ r M', o = some (r, M') ∧
  ((r = 0 ∧ ∀ d, Zer D M d → 18 < Lc (paP D) d (rd D i).lo) ∨ (0 < r ∧ r ≤ 18 ∧ Mok D M' ∧ Lc (paP D) (pos D.length M') (rd D i).lo = r ∧ Ext M M'))
theorem tree_len {D : List Chs} {m : Mem} (hD : D.length ≤ 65536) (hix : ixok D m) (hrow : ∀ x ∈ D, paP D x.lo = x.is_) (hk : ∀ x ∈ D, 1 ≤ x.is_.length ∧ x.is_.length ≤ 2) :
    ∀ (k : Nat) (M : Mem) (i : Int), Mok D M → 0 ≤ i → i < (D.length : Int) → un D.length M < k → Told D M i (book_tree_length_bjo.f k i D m M) := by
  intro k
  induction k with
  | zero => intro M i _ _ _ h; omega
  | succ k ih =>
    intro M i hM hi0 hi1 hun
    rw [book_tree_length_bjo.f, book_tree_length_bjo.b]
    cases e : mget M i with
    | some n =>
      refine ⟨n, M, by simp, ?_⟩
      obtain ⟨_, _, c⟩ := hM i n e
      rcases c with rfl | ⟨c1, c2, c3⟩
      · exact .inl ⟨rfl, fun d hz => hz i e⟩
      · exact .inr ⟨c1, c2, hM, c3, Ext.refl M⟩
    | none =>
      rw [if_neg (by simp), if_pos ⟨hi0, hi1⟩]
      have hmem := rd_mem hi0 hi1
      have hpa := hrow _ hmem
      have hlen := hk _ hmem
      have hpn : paP D (rd D i).lo ≠ [] := by rw [hpa]; intro h; rw [h] at hlen; simp at hlen
      have hi2 : ((i.toNat : Nat) : Int) = i := by omega
      have him : i.toNat ∈ List.range D.length := by rw [List.mem_range]; omega
      have g0 := mget_put M i
      have hp0 : pos D.length M ≤ pos D.length (mput M i 0) := cnt_le fun j _ hj => by
        rw [g0]
        by_cases c : (j : Int) = i
        · rw [c, e] at hj; simp at hj
        · rw [if_neg c]; exact hj
      have hM0 : Mok D (mput M i 0) := by
        intro j n ej
        rw [g0] at ej
        by_cases c : j = i
        · rw [if_pos c] at ej
          have : (0 : Int) = n := by simpa using ej
          exact ⟨by omega, by omega, .inl this.symm⟩
        · rw [if_neg c] at ej
          exact hM.grow hp0 ej
      have hu0 : un D.length (mput M i 0) < un D.length M := cnt_lt him (fun j _ hj => by
          rw [g0] at hj
          by_cases c : (j : Int) = i
          · rw [if_pos c] at hj; simp at hj
          · rw [if_neg c] at hj; exact hj) (by simp [hi2, g0]) (by simp [hi2, e])
      have hz0 : ∀ M1 d, Ext (mput M i 0) M1 → Zer D M d → 18 < Lc (paP D) d (rd D i).lo → Zer D M1 d := by
        intro M1 d hx hz h j ej
        have := hx.2 j ej
        rw [g0] at this
        by_cases c : j = i
        · rw [c]; exact h
        · rw [if_neg c] at this; exact hz j this
      have h19 : Lc (paP D) 0 (rd D i).lo = 19 := by simp [Lc, hpn]
      have hl : (rd D i).is_.length ≤ bigN := by unfold bigN; omega
      refine loop_ind (fun kk x (s : Mem × Int) => book_tree_length_bjo.l1 kk (book_tree_length_bjo.f k) D m i s.1 s.2 x) (rd D i).is_
        (fun pre t s o => Mok D s.1 → Ext (mput M i 0) s.1 → 0 ≤ s.2 → s.2 ≤ 18 * (pre.length : Int) → (∀ c ∈ pre, Lc (paP D) (pos D.length s.1) c ≤ 18) → s.2 = sumI (Lc (paP D) (pos D.length s.1)) pre → Told D M i o)
        ?_ ?_ (mput M i 0, 0) K0 (ltK hl) hM0 (Ext.refl _) (Int.le_refl _) (by simp) (fun c hc => by cases hc) rfl
      · intro ⟨M1, s⟩ kk hM1 hx h0 h1 h2 h3
        simp only at hM1 hx h0 h1 h2 h3
        simp only [book_tree_length_bjo.l1, if_neg (show ¬ (((rd D i).is_).length : Int) < (((rd D i).is_).length : Int) by omega)]
        by_cases c : 18 < s
        · rw [if_pos c]
          refine ⟨0, M1, rfl, .inl ⟨rfl, fun d _ => ?_⟩⟩
          cases d with
          | zero => rw [h19]; omega
          | succ d =>
            rw [Lc, if_neg hpn, hpa]
            have : s ≤ sumI (Lc (paP D) d) (rd D i).is_ := by rw [h3]; exact sumI_mono fun x hx => Lc_ge _ (h2 x hx) d
            unfold cap; rw [if_pos (by omega)]; omega
        · rw [if_neg c]
          have hs1 : 1 ≤ s := by
            have := sumI_len (f := Lc (paP D) (pos D.length M1)) (l := (rd D i).is_) (fun y _ => (Lc_pos _ _ y).1)
            omega
          have e1 : mget M1 i = some 0 := hx.1 i 0 (by rw [g0, if_pos rfl])
          have g1 := mget_put M1 i
          have hp1 : pos D.length M1 < pos D.length (mput M1 i s) := cnt_lt him (fun j _ hj => by
              rw [g1]
              by_cases c : (j : Int) = i
              · rw [c, e1] at hj; simp at hj
              · rw [if_neg c]; exact hj) (by simp [hi2, e1]) (by simp only [hi2, g1, if_true, Option.getD_some]; simp; omega)
          have hL : Lc (paP D) (pos D.length M1 + 1) (rd D i).lo = s := by
            rw [Lc, if_neg hpn, hpa, ← h3]; unfold cap; rw [if_neg c]
          have hL2 : Lc (paP D) (pos D.length (mput M1 i s)) (rd D i).lo = s := by
            rw [Lc_stay _ hp1 (by rw [hL]; omega), hL]
          refine ⟨s, _, rfl, .inr ⟨by omega, by omega, ?_, hL2, ?_, ?_⟩⟩
          · intro j n ej
            rw [g1] at ej
            by_cases c : j = i
            · rw [if_pos c] at ej
              have : s = n := by simpa using ej
              subst this
              exact ⟨by omega, by omega, .inr ⟨by omega, by omega, by rw [c]; exact hL2⟩⟩
            · rw [if_neg c] at ej
              exact hM1.grow (Nat.le_of_lt hp1) ej
          · intro j n ej
            have hne : j ≠ i := fun h => by rw [h, e] at ej; cases ej
            rw [g1, if_neg hne]
            exact hx.1 j n (by rw [g0, if_neg hne]; exact ej)
          · intro j ej
            rw [g1] at ej
            by_cases c : j = i
            · rw [if_pos c] at ej
              have : s = 0 := by simpa using ej
              omega
            · rw [if_neg c] at ej
              have := hx.2 j ej
              rw [g0, if_neg c] at this
              exact this
      · intro pre c t ⟨M1, s⟩ kk e2 ih2 hM1 hx h0 h1 h2 h3
        simp only at hM1 hx h0 h1 h2 h3
        obtain ⟨h4, h5⟩ := mid e2
        have hpl : pre.length ≤ 1 := by
          have : (rd D i).is_.length = pre.length + (t.length + 1) := by rw [e2]; simp
          omega
        simp only [book_tree_length_bjo.l1, if_pos h5.2, if_pos h5, h4, book_tree_length_bjo.j1, nxt hl e2]
        have hin : c ∈ (rd D i).is_ := by rw [e2]; simp
        cases em : mget m c with
        | none =>
          simp only [Option.isSome_none, Bool.false_eq_true, if_false]
          rw [if_neg (by decide), w64 (by omega) (by omega)]
          have hc := Lc_one ((hix c).1 em)
          refine ih2 (M1, s + 1) hM1 hx (by show 0 ≤ s + 1; omega) (by show s + 1 ≤ _; simp; omega) ?_ ?_
          · intro d hd
            rcases List.mem_append.1 hd with hd | hd
            · exact h2 d hd
            · rw [List.mem_singleton.1 hd, hc]; omega
          · show s + 1 = _
            rw [sumI_app, ← h3]; simp [sumI, hc]
        | some j =>
          obtain ⟨j0, j1, j2⟩ := (hix c).2 j em
          simp only [Option.isSome_some, if_true, Option.getD_some]
          obtain ⟨r, M2, er, hr⟩ := ih M1 j hM1 j0 j1 (by have := hx.un D.length; omega)
          rw [er, Option.bind_some]
          rw [j2] at hr
          rcases hr with ⟨rfl, hr⟩ | ⟨r0, r1, hM2, r2, hx2⟩
          · rw [if_pos rfl]
            refine ⟨0, M2, rfl, .inl ⟨rfl, fun d => ?_⟩⟩
            induction d with
            | zero => intro _; rw [h19]; omega
            | succ d ihd =>
              intro hz
              have hz' : Zer D M d := fun j ej => Int.lt_of_lt_of_le (hz j ej) (Lc_anti1 _ d _)
              have h6 := hr d (hz0 M1 d hx hz' (ihd hz'))
              rw [Lc, if_neg hpn, hpa]
              have := sumI_ge (f := Lc (paP D) d) (l := (rd D i).is_) (fun y _ => (Lc_pos _ _ y).1) c hin
              unfold cap; rw [if_pos (by omega)]; omega
          · rw [if_neg (by omega), w64 (by omega) (by omega)]
            have hp := hx2.pos D.length
            refine ih2 (M2, s + r) hM2 (hx.trans hx2) (by show 0 ≤ s + r; omega) (by show s + r ≤ _; simp; omega) ?_ ?_
            · intro d hd
              rcases List.mem_append.1 hd with hd | hd
              · show Lc _ (pos D.length M2) d ≤ 18
                rw [Lc_stay _ hp (h2 d hd)]; exact h2 d hd
              · rw [List.mem_singleton.1 hd]; show Lc _ (pos D.length M2) c ≤ 18; omega
            · show s + r = sumI (Lc (paP D) (pos D.length M2)) _
              rw [sumI_app, sumI_congr (fun d hd => Lc_stay _ hp (h2 d hd)), ← h3]; simp [sumI, r2]
end Go.Proofs.YtekafkokpnihfaaGreat
