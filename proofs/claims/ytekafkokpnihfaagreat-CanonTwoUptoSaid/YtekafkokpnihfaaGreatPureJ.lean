/- Plain laws, tenth part: a whole block, all blocks, a table, and what it tells. Own work of this repo. -/
import Derived.Test.YtekafkokpnihfaaGreatPureI
namespace Go.Proofs.YtekafkokpnihfaaGreat
open Go.RowKit

def blkAt (v0 : Blk) (l : List Val) (p : Int) (o : Option (Bool × Int × Blk)) : Prop :=
  ∃ any v' done' rest', o = some (any, (done'.length : Int), v') ∧ l = done' ++ rest' ∧ (∀ x ∈ done', x.hi < p) ∧ Holds v' l p ∧ (any = false → v' = v0)
theorem lay_in (l done rest : List Val) (p : Int) (hl : RowsOk l) (hp : 0 ≤ p) (hp1 : p ≤ 1113984) (el : l = done ++ rest) (hd : ∀ x ∈ done, x.hi < p) (hr : ∀ x, rest.head? = some x → ¬ x.hi < p) :
    blkAt blank l p (stage_lay_fod.l2 K0 l p (done.length : Int) blank false 0) := by
  have hb : l.length ≤ bigN := by have := hl.1; unfold bigN; omega
  have hrl : rest.length ≤ bigN := by rw [el] at hb; simp at hb; omega
  have hs : sub l (done.length : Int) (l.length : Int) = rest := sub_suf el
  have hlast : IntKind.i32.wrap ((IntKind.i32.wrap (p + 128)) - 1) = p + 127 := by rw [w32 (x := p + 128) (by omega) (by omega), w32 (by omega) (by omega)]; omega
  have hdn : ∀ (b : List Val) (j : Int), 0 ≤ j → valAt (done ++ b) (p + j) = valAt b (p + j) := fun b j h0 => valAt_skip fun x hx => by
    have := hd x hx
    simp [inB, show ¬ p + j ≤ x.hi by omega]
  refine loop_ind (fun k i (s : Blk × Bool) => stage_lay_fod.l2 k l p (done.length : Int) s.1 s.2 i) rest
    (fun pre t s o => Holds s.1 pre p → (s.2 = false → s.1 = blank) → blkAt blank l p o) ?_ ?_ (blank, false) K0 (ltK hrl) (fun j _ _ => by rw [valAt]; exact vg_zero) (fun _ => rfl)
  · intro ⟨v, any⟩ k hv ha
    simp only [stage_lay_fod.l2, hs, stage_lay_fod.j1]
    rw [if_neg (by omega)]
    exact ⟨any, v, done, rest, rfl, el, hd, fun j h0 h1 => by rw [el, hdn _ _ h0]; exact hv j h0 h1, ha⟩
  · intro pre x t ⟨v, any⟩ k e ih hv ha
    simp only at hv ha
    obtain ⟨h1, h2⟩ := mid e
    have e2 : l = (done ++ pre) ++ x :: t := by rw [el, e]; simp
    have hok := hl.2
    rw [e2] at hok
    obtain ⟨g1, g2, g3, g4, g5, g6⟩ := okRows_ord hok
    simp only [rowMay, Bool.and_eq_true, decide_eq_true_eq] at g6
    simp only [stage_lay_fod.l2, hs, h1, hlast, stage_lay_fod.j1]
    rw [if_pos h2.2, if_pos h2]
    by_cases c : p + 127 < x.lo
    · rw [if_pos c]
      refine ⟨any, v, done, rest, rfl, el, hd, fun j h0 h1 => ?_, ha⟩
      rw [el, hdn _ _ h0, e, valAt_stop (fun y hy => ?_)]
      · exact hv j h0 h1
      · rcases List.mem_cons.1 hy with rfl | hy
        · simp [inB, show ¬ y.lo ≤ p + j by omega]
        · have := g2 y hy
          simp [inB, show ¬ y.lo ≤ p + j by omega]
    · rw [if_neg c]
      have hx0 : p ≤ x.hi := by
        cases pre with
        | nil => have := hr x (by rw [e]; rfl); omega
        | cons y pre =>
          have h3 := hr y (by rw [e]; rfl)
          have h4 := g1 y (by simp)
          omega
      obtain ⟨v', f1, f2⟩ := lay_row (stage_lay_fod.l2 k l p (done.length : Int)) l done rest p (pre.length : Int) x v hp hp1 el h1 hx0 (by omega) g4 (by omega) g5 g6 (nxt hrl e)
      rw [f1]
      refine ih (v', true) (fun j h0 h1 => ?_) (fun h => by cases h)
      show vg v' j = _
      rw [f2 j h0 h1]
      by_cases c2 : inB (p + j) x = true
      · have : ∀ y ∈ pre, inB (p + j) y = false := fun y hy => by
          have := g1 y (by simp [hy])
          simp only [inB, Bool.and_eq_true, decide_eq_true_eq] at c2
          simp [inB, show ¬ p + j ≤ y.hi by omega]
        rw [if_pos c2, valAt_skip this, valAt, if_pos c2]
      · rw [if_neg c2, valAt_stop (fun y hy => by rw [List.mem_singleton.1 hy]; simpa using c2)]
        exact hv j h0 h1
theorem lay_eq (l : List Val) (p : Int) (hl : RowsOk l) (hp : 0 ≤ p) (hp1 : p ≤ 1113984) : ∀ (rest done : List Val), l = done ++ rest → (∀ x ∈ done, x.hi < p) → blkAt blank l p (stage_lay_fod.f l p (done.length : Int) blank) := by
  have hb : l.length ≤ bigN := by have := hl.1; unfold bigN; omega
  have key : ∀ (rest done : List Val) (k : Nat), rest.length < k → l = done ++ rest → (∀ x ∈ done, x.hi < p) → blkAt blank l p (stage_lay_fod.l3 k blank l p (done.length : Int)) := by
    intro rest
    induction rest with
    | nil =>
      intro done k hk e hd
      obtain ⟨k, rfl⟩ : ∃ j, k = j + 1 := ⟨k - 1, by simp at hk; omega⟩
      have hlen : l.length = done.length := by rw [e]; simp
      simp only [stage_lay_fod.l3, stage_lay_fod.j2]
      rw [if_neg (by omega), if_neg (by decide), if_pos ⟨by omega, by omega, by omega⟩]
      exact lay_in l done [] p hl hp hp1 e hd (fun x hx => by cases hx)
    | cons x t ih =>
      intro done k hk e hd
      obtain ⟨k, rfl⟩ : ∃ j, k = j + 1 := ⟨k - 1, by simp at hk; omega⟩
      obtain ⟨h1, h2⟩ := mid e
      simp only [stage_lay_fod.l3, stage_lay_fod.j2, h1]
      rw [if_pos h2.2, if_pos h2]
      by_cases c : x.hi < p
      · rw [if_pos (by simpa using c), nxt hb e]
        have := ih (done ++ [x]) k (by simp at hk; omega) (by rw [e]; simp) (fun y hy => by
          rcases List.mem_append.1 hy with hy | hy
          · exact hd y hy
          · rw [List.mem_singleton.1 hy]; exact c)
        simpa using this
      · rw [if_neg (by simpa using c), if_pos ⟨by omega, by omega, by omega⟩]
        exact lay_in l done (x :: t) p hl hp hp1 e hd (fun y hy => by simp at hy; subst hy; exact c)
  intro rest done e hd
  exact key rest done K0 (ltK (by rw [e] at hb; simp at hb; omega)) e hd
theorem over_eq (l : List Val) (p : Int) (hl : RowsOk l) (hp : 0 ≤ p) (hp1 : p ≤ 1113984) (rest done : List Val) (e : l = done ++ rest) (hd : ∀ x ∈ done, x.hi < p) :
    ∃ any v' done' rest', stage_Table_Over_1_aek.f p blank none l (done.length : Int) = some (any, v', (done'.length : Int)) ∧ l = done' ++ rest' ∧ (∀ x ∈ done', x.hi < p) ∧ Holds v' l p ∧ (any = false → v' = blank) := by
  obtain ⟨any, v', done', rest', f1, f2, f3, f4, f5⟩ := lay_eq l p hl hp hp1 rest done e hd
  refine ⟨any, v', done', rest', ?_, f2, f3, f4, f5⟩
  rw [stage_Table_Over_1_aek.f, if_neg (by decide), stage_Table_Over_1_aek.j2, f1, Option.bind_some]
  cases any <;> rfl
theorem flat_some (v : Blk) : ∃ w, stage_block_flat_ejg.f v = some w := by
  unfold stage_block_flat_ejg.f
  exact loop_to (fun k i (_ : Unit) => stage_block_flat_ejg.l1 k v i) 128 (fun i _ o => 0 ≤ i → ∃ w, o = some w)
    (fun _ k _ => ⟨true, by simp only [stage_block_flat_ejg.l1]; rw [if_neg (by decide)]⟩)
    (fun i _ k hi ih h0 => by
      simp only [stage_block_flat_ejg.l1]
      rw [if_pos hi, if_pos ⟨h0, by omega⟩, if_pos ⟨by omega, by omega⟩]
      by_cases c : vg v i ≠ vg v 0
      · exact ⟨false, by rw [if_pos c]⟩
      · rw [if_neg c, w64 (by omega) (by omega)]
        exact ih () (by omega)) 128 0 () K0 (by omega) (by unfold K0; omega) (Int.le_refl _)
structure Made where
  flat : List Bool
  blks : List Blk
  seen : List (Blk × Int)
  which : Vector Int 8704
  past : Int
  plain : Int
structure MadeOk (l : List Val) (i : Int) (s : Made) : Prop where
  few : (s.blks.length : Int) ≤ i
  flat : s.flat.length = s.blks.length
  seen : ∀ v j, mget s.seen v = some j → 0 ≤ j ∧ j < (s.blks.length : Int) ∧ rd s.blks j = v
  which : ∀ b : Int, 0 ≤ b → b < i → 0 ≤ vg s.which b ∧ vg s.which b < (s.blks.length : Int) ∧ Holds (rd s.blks (vg s.which b)) l (128 * b)
  plain : 0 ≤ s.plain → s.plain < (s.blks.length : Int) ∧ rd s.blks s.plain = blank
  past : ∃ done rest, l = done ++ rest ∧ s.past = (done.length : Int) ∧ ∀ x ∈ done, x.hi < 128 * i
def TabOk (l : List Val) (T : Tab) : Prop := ∀ b : Int, 0 ≤ b → b < 8704 → 0 ≤ vg T.which b ∧ vg T.which b < (T.unlike.length : Int) ∧ Holds (rd T.unlike (vg T.which b)) l (128 * b)
theorem rd_pre {α : Type} [Inhabited α] {a b : List α} {i : Int} (h0 : 0 ≤ i) (h1 : i < (a.length : Int)) : rd (a ++ b) i = rd a i := by
  unfold rd
  rw [List.getD_eq_getElem?_getD, List.getD_eq_getElem?_getD, List.getElem?_append_left (by omega)]
theorem rd_end {α : Type} [Inhabited α] {a : List α} {x : α} : rd (a ++ [x]) (a.length : Int) = x := by simp [rd]
theorem note_which {l : List Val} {i w : Int} {W : Vector Int 8704} {U U' : List Blk} {v : Blk} (hi0 : 0 ≤ i) (hi1 : i < 8704) (hw0 : 0 ≤ w) (hw1 : w < (U'.length : Int)) (hv : rd U' w = v) (hh : Holds v l (128 * i))
    (hU : ∀ j : Int, 0 ≤ j → j < (U.length : Int) → j < (U'.length : Int) ∧ rd U' j = rd U j)
    (h : ∀ b : Int, 0 ≤ b → b < i → 0 ≤ vg W b ∧ vg W b < (U.length : Int) ∧ Holds (rd U (vg W b)) l (128 * b)) :
    ∀ b : Int, 0 ≤ b → b < i + 1 → 0 ≤ vg (vset W i w) b ∧ vg (vset W i w) b < (U'.length : Int) ∧ Holds (rd U' (vg (vset W i w) b)) l (128 * b) := by
  intro b h0 h1
  rw [vg_vset W w hi0 (by omega) h0 (by omega)]
  by_cases c : i = b
  · rw [if_pos c]
    subst c
    exact ⟨hw0, hw1, by rw [hv]; exact hh⟩
  · rw [if_neg c]
    obtain ⟨a1, a2, a3⟩ := h b h0 (by omega)
    obtain ⟨b1, b2⟩ := hU _ a1 a2
    exact ⟨a1, b1, by rw [b2]; exact a3⟩
theorem made_eq (l : List Val) (hl : RowsOk l) : ∃ T r, stage_made_mbk.f none l 0 = some (some T, r) ∧ TabOk l T := by
  refine loop_to (fun k i (s : Made) => stage_made_mbk.l1 k none l s.flat s.blks blank s.seen s.which s.past s.plain i) 8704
    (fun i s o => 0 ≤ i → MadeOk l i s → ∃ T r, o = some (some T, r) ∧ TabOk l T) ?_ ?_ 8704 0 ⟨[], [], [], Vector.replicate 8704 0, 0, -1⟩ K0 (by omega) (by unfold K0; omega) (Int.le_refl _) ?_
  · intro s k _ h
    refine ⟨⟨s.which, s.blks, s.flat⟩, s.past, ?_, h.which⟩
    show stage_made_mbk.l1 (k + 1) none l s.flat s.blks blank s.seen s.which s.past s.plain 8704 = _
    rw [stage_made_mbk.l1, if_neg (by decide)]
  · intro i s k hi ih h0 h
    obtain ⟨done, rest, e1, e2, e3⟩ := h.past
    have hpi : IntKind.i32.wrap (IntKind.i64.wrap (i * 128)) = 128 * i := by rw [w64 (by omega) (by omega), w32 (by omega) (by omega)]; omega
    obtain ⟨any, v', done', rest', f1, f2, f3, f4, f5⟩ := over_eq l (128 * i) hl (by omega) (by omega) rest done e1 e3
    have hpast : ∃ d r, l = d ++ r ∧ (done'.length : Int) = (d.length : Int) ∧ ∀ x ∈ d, x.hi < 128 * (i + 1) := ⟨done', rest', f2, rfl, fun x hx => by have := f3 x hx; omega⟩
    have hfew := h.few
    have hmost : ∀ n : Nat, (n : Int) ≤ i → n + 1 ≤ most := fun n hn => by unfold most; omega
    have hbl : (Vector.replicate 128 0 : Vector Int 128) = blank := rfl
    show ∃ T r, stage_made_mbk.l1 (k + 1) none l s.flat s.blks blank s.seen s.which s.past s.plain i = some (some T, r) ∧ TabOk l T
    rw [stage_made_mbk.l1, if_pos hi, hpi, e2, f1, Option.bind_some]
    have fin : ∀ (F : List Bool) (U : List Blk) (S : List (Blk × Int)) (w : Int), (U.length : Int) ≤ i + 1 → F.length = U.length → (∀ v j, mget S v = some j → 0 ≤ j ∧ j < (U.length : Int) ∧ rd U j = v) →
        (∀ j : Int, 0 ≤ j → j < (s.blks.length : Int) → j < (U.length : Int) ∧ rd U j = rd s.blks j) → 0 ≤ w → w < (U.length : Int) → rd U w = v' →
        ∃ T r, stage_made_mbk.j2 (stage_made_mbk.l1 k none l) s.which s.plain i (any, v', (done'.length : Int)) F U S w = some (some T, r) ∧ TabOk l T := by
      intro F U S w a1 a2 a3 a4 a5 a6 a7
      rw [stage_made_mbk.j2, if_pos ⟨h0, by omega⟩]
      have hwhich := note_which h0 hi a5 a6 a7 f4 a4 h.which
      cases any with
      | true =>
        rw [if_pos rfl, stage_made_mbk.j1, w64 (x := i + 1) (by omega) (by omega), hbl]
        exact ih ⟨F, U, S, vset s.which i w, (done'.length : Int), s.plain⟩ (by omega) ⟨a1, a2, a3, hwhich, fun hp => by obtain ⟨c1, c2⟩ := h.plain hp; obtain ⟨d1, d2⟩ := a4 _ hp c1; exact ⟨d1, by rw [d2]; exact c2⟩, hpast⟩
      | false =>
        have hv := f5 rfl
        rw [if_neg (by simp), stage_made_mbk.j1, w64 (x := i + 1) (by omega) (by omega), w64 (x := w) (by omega) (by omega)]
        show ∃ T r, stage_made_mbk.l1 k none l F U v' S (vset s.which i w) (done'.length : Int) w (i + 1) = some (some T, r) ∧ TabOk l T
        rw [hv]
        exact ih ⟨F, U, S, vset s.which i w, (done'.length : Int), w⟩ (by omega) ⟨a1, a2, a3, hwhich, fun _ => ⟨a6, by rw [a7, hv]⟩, hpast⟩
    have look : ∃ T r, stage_made_mbk.j3 (stage_made_mbk.l1 k none l) s.flat s.blks s.seen s.which s.plain i (any, v', (done'.length : Int)) false = some (some T, r) ∧ TabOk l T := by
      rw [stage_made_mbk.j3, if_neg (by decide)]
      cases em : mget s.seen v' with
      | none =>
        obtain ⟨w, hw⟩ := flat_some v'
        dsimp only
        rw [if_pos (by rfl), if_pos (show s.blks.length + [v'].length ≤ most from hmost _ hfew), hw, Option.bind_some, if_pos (show s.flat.length + [w].length ≤ most from hmost _ (by rw [h.flat]; exact hfew)), w16 (by omega) (by omega)]
        refine fin _ _ _ _ (by simp; omega) (by simp [h.flat]) (fun v j ej => ?_) (fun j j0 j1 => ⟨by simp; omega, rd_pre j0 j1⟩) (by omega) (by simp; omega) rd_end
        rw [mget_put] at ej
        by_cases c : v = v'
        · rw [if_pos c] at ej
          have : (s.blks.length : Int) = j := by simpa using ej
          subst this
          exact ⟨by omega, by simp; omega, by rw [rd_end, c]⟩
        · rw [if_neg c] at ej
          obtain ⟨c1, c2, c3⟩ := h.seen v j ej
          exact ⟨c1, by simp; omega, by rw [rd_pre c1 c2]; exact c3⟩
      | some w =>
        obtain ⟨c1, c2, c3⟩ := h.seen v' w em
        rw [if_neg (by simp)]
        exact fin _ _ _ _ (by omega) h.flat h.seen (fun j j0 j1 => ⟨j1, rfl⟩) c1 c2 c3
    cases any with
    | true => rw [if_neg (by simp)]; exact look
    | false =>
      rw [if_pos (by rfl)]
      by_cases c : 0 ≤ s.plain
      · obtain ⟨c1, c2⟩ := h.plain c
        have hv := f5 rfl
        rw [stage_made_mbk.j3, if_pos (by simpa using c), if_pos ⟨h0, by omega⟩, stage_made_mbk.j1, w64 (x := i + 1) (by omega) (by omega), w16 c (by omega)]
        show ∃ T r, stage_made_mbk.l1 k none l s.flat s.blks v' s.seen (vset s.which i s.plain) (done'.length : Int) s.plain (i + 1) = some (some T, r) ∧ TabOk l T
        rw [hv]
        rw [hv] at f4
        exact ih ⟨s.flat, s.blks, s.seen, vset s.which i s.plain, (done'.length : Int), s.plain⟩ (by omega) ⟨by show (s.blks.length : Int) ≤ i + 1; omega, h.flat, h.seen, note_which h0 hi c c1 c2 f4 (fun j j0 j1 => ⟨j1, rfl⟩) h.which, h.plain, hpast⟩
      · rw [show decide (0 ≤ s.plain) = false by simpa using c]; exact look
  · exact ⟨by simp, rfl, fun v j e => (by cases e), fun b h0 h1 => (by omega), fun h => absurd h (by decide), [], l, rfl, rfl, fun x hx => (by cases hx)⟩
theorem build_eq (l : List Val) (hl : RowsOk l) : ∃ T, stage_Build.f l = some (some T, 0, 0) ∧ TabOk l T := by
  obtain ⟨T, r, h1, h2⟩ := made_eq l hl
  refine ⟨T, ?_, h2⟩
  rw [stage_Build.f, stage_Table_Over.f, stage_check_eq hl, Option.bind_some, if_neg (by decide), h1]
  rfl
theorem valAt_range {l : List Val} (h : ∀ x ∈ l, 0 ≤ x.n ∧ x.n ≤ 65535) (p : Int) : 0 ≤ valAt l p ∧ valAt l p ≤ 65535 := by
  induction l with
  | nil => simp [valAt]
  | cons x t ih =>
    unfold valAt
    split
    · exact h x (List.mem_cons_self ..)
    · exact ih fun y hy => h y (List.mem_cons_of_mem _ hy)
theorem look_eq {l : List Val} (hl : RowsOk l) {T : Tab} (hT : TabOk l T) (p : Int) (h0 : 0 ≤ p) (h1 : p ≤ 1114111) : stage_Table_Look.f (some T) p = some (valAt l p) := by
  have hq : p.tdiv 128 = p / 128 := Int.tdiv_eq_ediv_of_nonneg h0
  have hm : p.tmod 128 = p % 128 := Int.tmod_eq_emod_of_nonneg h0
  obtain ⟨a1, a2, a3⟩ := hT (p / 128) (by omega) (by omega)
  have hv := a3 (p % 128) (by omega) (by omega)
  rw [show 128 * (p / 128) + p % 128 = p by omega] at hv
  have hr := valAt_range (l := l) (fun x hx => by
    have := (okRows_lt hl.2 x hx).2.2.2
    simpa [rowMay] using this) p
  simp only [stage_Table_Look.f, stage_Table_Look.j1, hq, hm]
  rw [if_neg (by simp), if_neg (by omega), if_neg (by simp; omega), if_pos (by rfl), w32 (by omega) (by omega), if_pos ⟨by omega, by omega⟩]
  simp only [Option.getD_some]
  rw [if_pos ⟨a1, a2⟩, if_pos ⟨by omega, by omega⟩, hv, w64 (by omega) (by omega)]
theorem look_out (T : Option Tab) (p : Int) (h : p < 0 ∨ 1114111 < p) : stage_Table_Look.f T p = some 0 := by
  simp only [stage_Table_Look.f, stage_Table_Look.j1]
  split
  · rfl
  · split
    · rfl
    · rw [if_pos (by simp; omega)]
end Go.Proofs.YtekafkokpnihfaaGreat
