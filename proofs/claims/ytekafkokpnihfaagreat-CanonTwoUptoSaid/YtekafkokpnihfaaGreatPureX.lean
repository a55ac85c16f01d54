/- Plain laws: what tables say of classes and parts; full decompositions; canon.Decompose. Own work of this repo. -/
import Derived.Test.YtekafkokpnihfaaGreatPureW
import Derived.Test.YtekafkokpnihfaaGreatPureK
import Derived.Test.YtekafkokpnihfaaGreatTC1
namespace Go.Proofs.YtekafkokpnihfaaGreat
open Go.RowKit

structure Tb (t : Option Tbs) (key : Int → Int) (pa : Int → List Int) (n : Nat) : Prop where
  cls : Cls t key
  nn : ∀ p, 0 ≤ key p
  parts : ∀ p, book_Tables_Parts.f t p = some (pa p)
  dep : ∀ c, Lc pa n c ≤ 18
  few : n ≤ bigN
theorem tb_none : Tb none (fun _ => 0) (fun _ => []) 0 := by
  refine ⟨fun p => rfl, fun p => Int.le_refl 0, fun p => rfl, fun c => ?_, by unfold bigN; omega⟩
  simp [Lc]
theorem Lc_sub {P Q : Int → List Int} (h : ∀ c, P c = Q c ∨ P c = []) : ∀ (n : Nat) (c : Int), Lc P n c ≤ Lc Q n c
  | 0, c => by
    rcases h c with e | e
    · simp [Lc, e]
    · rw [Lc_one e]; exact (Lc_pos Q 0 c).1
  | n + 1, c => by
    rcases h c with e | e
    · by_cases e0 : Q c = []
      · rw [Lc_one e0, Lc_one (e.trans e0)]; omega
      · rw [Lc, if_neg (by rw [e]; exact e0), Lc, if_neg e0, e]
        exact cap_mono (sumI_mono fun x _ => Lc_sub h n x)
    · rw [Lc_one e]; exact (Lc_pos Q (n + 1) c).1
theorem numF_at (p : Int) : ∀ (D : List Chs) (i : Int), (valAt (numF i D) p = 0 ∧ paP D p = []) ∨ (0 ≤ i → ∃ j : Nat, j < D.length ∧ valAt (numF i D) p = i + j + 1 ∧ (rd D (j : Int)).is_ = paP D p) ∨ i < 0
  | [], i => .inl ⟨rfl, rfl⟩
  | x :: D, i => by
    by_cases hi : i < 0
    · exact .inr (.inr hi)
    by_cases c : x.lo ≤ p ∧ p ≤ x.hi
    · refine .inr (.inl fun _ => ⟨0, by simp, ?_, ?_⟩)
      · simp [numF, valAt, inB, c.1, c.2]
      · simp [rd, paP, c.1, c.2]
    · have hb : inB p ⟨x.lo, x.hi, i + 1⟩ = false := by
        simp only [inB, Bool.and_eq_false_iff, decide_eq_false_iff_not]
        by_cases c1 : x.lo ≤ p
        · exact .inr fun c2 => c ⟨c1, c2⟩
        · exact .inl c1
      rcases numF_at p D (i + 1) with ⟨h1, h2⟩ | h | h
      · refine .inl ⟨?_, ?_⟩
        · rw [numF, valAt, if_neg (by rw [hb]; decide)]; exact h1
        · rw [paP, if_neg c]; exact h2
      · refine .inr (.inl fun _ => ?_)
        obtain ⟨j, h1, h2, h3⟩ := h (by omega)
        refine ⟨j + 1, by simp; omega, ?_, ?_⟩
        · rw [numF, valAt, if_neg (by rw [hb]; decide), h2]; omega
        · rw [paP, if_neg c, ← h3]
          unfold rd
          have e1 : ((j + 1 : Nat) : Int).toNat = j + 1 := by omega
          have e2 : ((j : Nat) : Int).toNat = j := by omega
          rw [e1, e2]; rfl
      · exact .inr (.inr (by omega))
theorem row_eq {D : List Chs} {T : Option Tab} (hT : TabOf (numF 0 D) T) (hl : ∀ x ∈ D, x.is_.length ≤ bigN) (hD : D.length ≤ bigN) (p : Int) : ∃ l, book_row.f T D p = some l ∧ (l = paP D p ∨ l = []) := by
  have hz : stage_Table_Look.f T p = some 0 → ∃ l, book_row.f T D p = some l ∧ (l = paP D p ∨ l = []) := by
    intro h
    exact ⟨[], by rw [book_row.f, h, Option.bind_some, if_pos rfl], .inr rfl⟩
  by_cases c : p < 0 ∨ 1114111 < p
  · exact hz (look_out T p c)
  · by_cases hr : RowsOk (numF 0 D)
    · have hv := tab_look hT hr p (by omega) (by omega)
      rcases numF_at p D 0 with ⟨h1, h2⟩ | h | h
      · exact hz (by rw [hv, h1])
      · obtain ⟨j, h1, h2, h3⟩ := h (Int.le_refl _)
        rw [h2] at hv
        unfold bigN at hD
        have w1 : IntKind.i64.wrap (0 + (j : Int) + 1 - 1) = (j : Int) := by rw [w64 (by omega) (by omega)]; omega
        refine ⟨paP D p, ?_, .inl rfl⟩
        rw [book_row.f, hv, Option.bind_some, if_neg (by omega), w1, if_pos ⟨by omega, by omega⟩, h3]
        have hm : (paP D p).length ≤ bigN := by
          rw [← h3]
          exact hl _ (rd_mem (by omega) (by omega))
        rw [cl_int _ hm]; rfl
      · omega
    · have := hT.1 hr
      exact hz (by rw [this, stage_Table_Look.f]; simp [stage_Table_Look.j1])
theorem cla_rows {a b : Int} {l : List Val} (h : claB a b l = true) (ha : 0 ≤ a) (hb : b ≤ 65535) : RowsOk l := by
  simp only [claB, rowsB, Bool.and_eq_true, decide_eq_true_eq] at h
  refine ⟨h.1, ?_⟩
  have : ∀ (l : List Val) (last : Int), okRows (·.lo) (·.hi) (fun x : Val => decide (a ≤ x.n) && decide (x.n ≤ b) && !touchB x.lo x.hi) last l = true → okRows (·.lo) (·.hi) rowMay last l = true := by
    intro l
    induction l with
    | nil => intro _ _; rfl
    | cons x t ih =>
      intro last h
      simp only [okRows, Bool.and_eq_true, decide_eq_true_eq] at h ⊢
      refine ⟨⟨h.1.1, ?_⟩, ih _ h.2⟩
      have := h.1.2.1
      simp only [rowMay, Bool.and_eq_true, decide_eq_true_eq]; omega
  exact this l _ h.2
theorem look_nn (l : List Val) (T : Option Tab) (h : TabOf l T) (hl : RowsOk l) (p : Int) : ∃ r, stage_Table_Look.f T p = some r ∧ 0 ≤ r := by
  by_cases c : p < 0 ∨ 1114111 < p
  · exact ⟨_, look_out T p c, Int.le_refl _⟩
  · exact ⟨_, tab_look h hl p (by omega) (by omega), (valAt_range (fun x hx => by
      have := (okRows_lt hl.2 x hx).2.2.2
      simpa [rowMay] using this) p).1⟩
theorem okB_class {b : Bk} (h : okB b = true) : RowsOk b.class_ := by
  unfold okB at h
  simp only [Bool.and_eq_true] at h
  exact cla_rows h.2.2.2.1 (by omega) (by omega)
theorem okB_good {b : Bk} (h : okB b = true) : goodB b.decomp [] b.decomp = true := by
  unfold okB at h
  simp only [Bool.and_eq_true] at h
  exact h.2.2.2.2.2.2.2.2.2.2.2
theorem good_row {D : List Chs} : ∀ {l pre : List Chs}, goodB D pre l = true → ∀ x ∈ l, Lc (paP D) (D.length + 1) x.lo ≤ 18
  | [], _, _, _, hx => by cases hx
  | y :: l, pre, h, x, hx => by
    simp only [goodB, Bool.and_eq_true, decide_eq_true_eq] at h
    rcases List.mem_cons.1 hx with rfl | hx
    · exact h.1.1
    · exact good_row h.2 x hx
theorem paP_cases {D : List Chs} (h : ∀ x ∈ D, x.lo = x.hi) (c : Int) : paP D c = [] ∨ ∃ x ∈ D, x.lo = c := by
  induction D with
  | nil => exact .inl rfl
  | cons x D ih =>
    by_cases e : x.lo = c
    · exact .inr ⟨x, by simp, e⟩
    · have := h x (by simp)
      rw [paP, if_neg (by omega)]
      rcases ih (fun y hy => h y (by simp [hy])) with h1 | ⟨y, h1, h2⟩
      · exact .inl h1
      · exact .inr ⟨y, by simp [h1], h2⟩
theorem tb_some {b : Bk} {t : Tbs} (hb : Few b) (h : okB b = true) (ht : TabsOf b t) : ∃ key pa, Tb (some t) key pa (b.decomp.length + 1) := by
  have hD := okB_decomp h
  refine ⟨fun p => (stage_Table_Look.f t.class_ p).getD 0, fun p => (book_row.f t.decomp b.decomp p).getD [], fun p => ?_, fun p => ?_, fun p => ?_, fun c => ?_, by have := hD.len; unfold bigN; omega⟩
  · obtain ⟨r, h1, _⟩ := look_nn _ _ ht.class_ (okB_class h) p
    simp only [book_Tables_Class.f, Option.isNone_some, Bool.false_eq_true, if_false, Option.isSome_some, if_true, Option.getD_some, h1, Option.bind_some]
  · obtain ⟨r, h1, h2⟩ := look_nn _ _ ht.class_ (okB_class h) p
    simp only [h1, Option.getD_some]; exact h2
  · obtain ⟨l, h1, _⟩ := row_eq ht.decomp hb.decompI hb.decomp p
    simp only [book_Tables_Parts.f, Option.isNone_some, Bool.false_eq_true, if_false, Option.isSome_some, if_true, Option.getD_some, ht.book, h1, Option.bind_some]
  · refine Int.le_trans (Lc_sub (Q := paP b.decomp) (fun c => ?_) _ c) ?_
    · obtain ⟨l, h1, h2⟩ := row_eq ht.decomp hb.decompI hb.decomp c
      simp only [h1, Option.getD_some]; exact h2
    · rcases paP_cases hD.one c with e | ⟨x, hx, rfl⟩
      · rw [Lc_one e]; omega
      · exact good_row (okB_good h) x hx

def sylR (c : Int) : Int × Int × Int × Bool := (canon_Syllable.f c).getD default
theorem syl_eq (c : Int) : canon_Syllable.f c = some (sylR c) := by
  have : ∃ r, canon_Syllable.f c = some r := by
    unfold canon_Syllable.f
    simp only [canon_Syllable.j2, canon_Syllable.j1]
    split
    · exact ⟨_, if_pos trivial⟩
    · split
      · exact ⟨_, rfl⟩
      · split <;> exact ⟨_, rfl⟩
  obtain ⟨r, hr⟩ := this
  rw [sylR, hr]; rfl
def sylL (c : Int) : List Int := if (sylR c).2.2.1 = 0 then [(sylR c).1, (sylR c).2.1] else [(sylR c).1, (sylR c).2.1, (sylR c).2.2.1]
def fullN (pa : Int → List Int) : Nat → Int → List Int
  | 0, c => if (sylR c).2.2.2 = true then sylL c else [c]
  | n + 1, c => if (sylR c).2.2.2 = true then sylL c else if pa c = [] then [c] else (pa c).flatMap (fullN pa n)
theorem syl_len (c : Int) : (sylL c).length ≤ 3 := by unfold sylL; split <;> simp
theorem full_len {pa : Int → List Int} : ∀ (n : Nat) (c : Int), Lc pa n c ≤ 18 → ((fullN pa n c).length : Int) ≤ 3 * Lc pa n c
  | 0, c, h => by
    have := Lc_pos pa 0 c
    have := syl_len c
    unfold fullN
    split
    · omega
    · simp; omega
  | n + 1, c, h => by
    have h1 := Lc_pos pa (n + 1) c
    have h2 := syl_len c
    unfold fullN
    split
    · omega
    · split
      · simp; omega
      · rename_i _ e
        rw [Lc, if_neg e] at h ⊢
        have hs : sumI (Lc pa n) (pa c) ≤ 18 := by unfold cap at h; split at h <;> omega
        have hcap : cap (sumI (Lc pa n) (pa c)) = sumI (Lc pa n) (pa c) := by unfold cap; rw [if_neg (by omega)]
        rw [hcap]
        have : ∀ l : List Int, sumI (Lc pa n) l ≤ 18 → ((l.flatMap (fullN pa n)).length : Int) ≤ 3 * sumI (Lc pa n) l := by
          intro l
          induction l with
          | nil => intro _; simp [sumI]
          | cons x l ih =>
            intro hl
            simp only [sumI] at hl ⊢
            have a1 := Lc_pos pa n x
            have a2 : 0 ≤ sumI (Lc pa n) l := by
              have := sumI_len (f := Lc pa n) (l := l) (fun y _ => (Lc_pos pa n y).1)
              omega
            have := full_len (pa := pa) n x (by omega)
            have := ih (by omega)
            simp only [List.flatMap_cons, List.length_append]; omega
        exact this _ hs
theorem full_eq {t : Option Tbs} {key : Int → Int} {pa : Int → List Int} {m : Nat} (h : Tb t key pa m) : ∀ (n : Nat) (c : Int) (k : Nat), Lc pa n c ≤ 18 → n < k → canon_Full.f k t c = some (fullN pa n c) := by
  intro n
  induction n with
  | zero =>
    intro c k hc hk
    obtain ⟨k, rfl⟩ : ∃ j, k = j + 1 := ⟨k - 1, by omega⟩
    rw [canon_Full.f, canon_Full.b, syl_eq, Option.bind_some, fullN]
    by_cases s1 : (sylR c).2.2.2 = true
    · rw [if_pos s1, if_pos s1, sylL]; split <;> rfl
    · have e : pa c = [] := by
        by_cases e : pa c = []
        · exact e
        · simp [Lc, e] at hc
      rw [if_neg s1, if_neg s1, h.parts c, Option.bind_some, e, if_pos (by simp)]
  | succ n ih =>
    intro c k hc hk
    obtain ⟨k, rfl⟩ : ∃ j, k = j + 1 := ⟨k - 1, by omega⟩
    rw [canon_Full.f, canon_Full.b, syl_eq, Option.bind_some, fullN]
    by_cases s1 : (sylR c).2.2.2 = true
    · rw [if_pos s1, if_pos s1, sylL]; split <;> rfl
    · rw [if_neg s1, if_neg s1, h.parts c, Option.bind_some]
      by_cases e : pa c = []
      · rw [if_pos e, e, if_pos (by simp)]
      · rw [if_neg e, if_neg (by have := List.length_pos_iff.2 e; omega)]
        rw [Lc, if_neg e] at hc
        have hs : sumI (Lc pa n) (pa c) ≤ 18 := by unfold cap at hc; split at hc <;> omega
        have hl : ((pa c).length : Int) ≤ 18 := by
          have := sumI_len (f := Lc pa n) (l := pa c) (fun y _ => (Lc_pos pa n y).1)
          omega
        have hk1 : ∀ x ∈ pa c, Lc pa n x ≤ 18 := fun x hx => by
          have := sumI_ge (f := Lc pa n) (l := pa c) (fun y _ => (Lc_pos pa n y).1) x hx
          omega
        have key : ∀ (l acc : List Int) (pre : List Int) (q : Nat), pa c = pre ++ l → l.length < q → acc.length + 54 * l.length ≤ 5400 → canon_Full.l1 q (canon_Full.f k) t (pa c) acc (pre.length : Int) = some (acc ++ l.flatMap (fullN pa n)) := by
          intro l
          induction l with
          | nil =>
            intro acc pre q e1 hq ha
            obtain ⟨q, rfl⟩ : ∃ j, q = j + 1 := ⟨q - 1, by omega⟩
            have : (pa c).length = pre.length := by rw [e1]; simp
            simp only [canon_Full.l1, this, if_neg (show ¬ (pre.length : Int) < (pre.length : Int) by omega)]
            simp
          | cons x l ihl =>
            intro acc pre q e1 hq ha
            obtain ⟨q, rfl⟩ : ∃ j, q = j + 1 := ⟨q - 1, by omega⟩
            simp only [List.length_cons] at hq ha
            obtain ⟨m1, m2⟩ := mid e1
            have hx := hk1 x (by rw [e1]; simp)
            have hfl := full_len n x hx
            have hlen : (pa c).length ≤ bigN := by unfold bigN; omega
            simp only [canon_Full.l1, if_pos m2.2, if_pos m2, m1, ih x k hx (by omega), Option.bind_some, nxt hlen e1]
            rw [if_pos (by unfold most; omega)]
            have := ihl (acc ++ fullN pa n x) (pre ++ [x]) q (by rw [e1]; simp) (by omega) (by simp; omega)
            have e2 : ((pre ++ [x]).length : Int) = (pre.length : Int) + 1 := by simp
            rw [e2] at this
            rw [this]; simp
        have := key (pa c) [] [] K0 rfl (ltK (by unfold bigN; omega)) (by simp; omega)
        simpa using this
theorem parts_eq {t : Option Tbs} {key : Int → Int} {pa : Int → List Int} {n : Nat} (h : Tb t key pa n) (l : List Int) (hl : 54 * l.length ≤ bigN) : canon_parts.f t l = some (l.flatMap (fullN pa n)) := by
  have key : ∀ (r acc pre : List Int) (q : Nat), l = pre ++ r → r.length < q → acc.length + 54 * r.length ≤ bigN → canon_parts.l1 q t l acc (pre.length : Int) = some (acc ++ r.flatMap (fullN pa n)) := by
    intro r
    induction r with
    | nil =>
      intro acc pre q e1 hq ha
      obtain ⟨q, rfl⟩ : ∃ j, q = j + 1 := ⟨q - 1, by omega⟩
      have : l.length = pre.length := by rw [e1]; simp
      simp only [canon_parts.l1, this, if_neg (show ¬ (pre.length : Int) < (pre.length : Int) by omega)]
      simp
    | cons x r ihl =>
      intro acc pre q e1 hq ha
      obtain ⟨q, rfl⟩ : ∃ j, q = j + 1 := ⟨q - 1, by omega⟩
      simp only [List.length_cons] at hq ha
      obtain ⟨m1, m2⟩ := mid e1
      have hx := h.dep x
      have hfl := full_len n x hx
      have hlen : l.length ≤ bigN := by omega
      have hbig := ha
      unfold bigN at hbig
      simp only [canon_parts.l1, if_pos m2.2, if_pos m2, m1, full_eq h n x K0 hx (ltK h.few), Option.bind_some, nxt hlen e1]
      rw [if_pos (by unfold most; omega)]
      have := ihl (acc ++ fullN pa n x) (pre ++ [x]) q (by rw [e1]; simp) (by omega) (by simp; omega)
      have e2 : ((pre ++ [x]).length : Int) = (pre.length : Int) + 1 := by simp
      rw [e2] at this
      rw [this]; simp
  have := key l [] [] K0 rfl (ltK (by omega)) (by simpa using hl)
  simpa [canon_parts.f] using this
theorem flat_len {t : Option Tbs} {key : Int → Int} {pa : Int → List Int} {n : Nat} (h : Tb t key pa n) : ∀ (l : List Int), (l.flatMap (fullN pa n)).length ≤ 54 * l.length
  | [] => by simp
  | x :: l => by
    have := flat_len h l
    have := full_len n x (h.dep x)
    have := h.dep x
    simp only [List.flatMap_cons, List.length_append, List.length_cons]; omega
theorem decompose_eq {t : Option Tbs} {key : Int → Int} {pa : Int → List Int} {n : Nat} (h : Tb t key pa n) (l : List Int) (hl : 54 * l.length ≤ bigN) : canon_Decompose.f t l = some (ordL key (l.flatMap (fullN pa n))) := by
  have := flat_len h l
  rw [canon_Decompose.f, parts_eq h l hl, Option.bind_some, order_eq h.cls _ (by omega)]; rfl
end Go.Proofs.YtekafkokpnihfaaGreat
