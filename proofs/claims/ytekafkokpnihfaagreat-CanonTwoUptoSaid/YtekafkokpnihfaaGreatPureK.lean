/- Plain laws, eleventh part: compiling a book: its copy, its tables; the reference's own copy. Own work of this repo. -/
import Derived.Test.YtekafkokpnihfaaGreatPureJ
import Derived.Test.YtekafkokpnihfaaGreatTA7
namespace Go.Proofs.YtekafkokpnihfaaGreat
open Go.RowKit

theorem check_total (l : List Val) : ∃ a e, stage_check.f l = some (a, e) ∧ (e = 0 → RowsOk l) := by
  unfold stage_check.f
  by_cases c : (65536 : Int) < l.length
  · exact ⟨_, _, by rw [if_pos c], fun h => absurd h (by decide)⟩
  · rw [if_neg c]
    have hl : l.length ≤ bigN := by unfold bigN; omega
    have := loop_ind (fun k i last => stage_check.l1 k l last i) l (fun pre t last o => ∃ a e, o = some (a, e) ∧ (e = 0 → okRows (·.lo) (·.hi) rowMay last t = true))
      (fun s k => ⟨0, 0, by simp only [stage_check.l1, if_neg (show ¬ (l.length : Int) < (l.length : Int) by omega)], fun _ => rfl⟩)
      (fun pre x t s k e ih => by
        obtain ⟨h1, h2⟩ := mid e
        simp only [stage_check.l1, if_pos h2.2, if_pos h2, h1, stage_check.j2, stage_check.j1, nxt hl e]
        by_cases c1 : x.lo ≤ s
        · exact ⟨_, 80, by rw [if_pos c1, if_pos True.intro], fun h => absurd h (by decide)⟩
        · rw [if_neg c1]
          by_cases c2 : x.hi < x.lo
          · exact ⟨_, 80, by rw [if_pos c2, if_pos True.intro], fun h => absurd h (by decide)⟩
          · rw [if_neg c2]
            by_cases c3 : 1114111 < x.hi
            · exact ⟨_, 80, by rw [if_pos (by simpa using c3)], fun h => absurd h (by decide)⟩
            · rw [if_neg (by simpa using c3)]
              by_cases c4 : x.n < 0
              · exact ⟨_, 81, by rw [if_pos c4, if_pos True.intro], fun h => absurd h (by decide)⟩
              · rw [if_neg c4]
                by_cases c5 : 65535 < x.n
                · exact ⟨_, 81, by rw [if_pos (by simpa using c5)], fun h => absurd h (by decide)⟩
                · rw [if_neg (by simpa using c5)]
                  obtain ⟨a, e2, h3, h4⟩ := ih x.hi
                  refine ⟨a, e2, h3, fun h => ?_⟩
                  rw [okRows_yes c1 c2 c3 (by simp only [rowMay, Bool.and_eq_true, decide_eq_true_eq]; omega)]
                  exact h4 h) (-1) K0 (ltK hl)
    obtain ⟨a, e, h1, h2⟩ := this
    exact ⟨a, e, h1, fun h => ⟨by omega, h2 h⟩⟩
def TabOf (l : List Val) (T : Option Tab) : Prop := (¬ RowsOk l → T = none) ∧ (RowsOk l → ∃ t, T = some t ∧ TabOk l t)
theorem build_any (l : List Val) : ∃ T x y, stage_Build.f l = some (T, x, y) ∧ TabOf l T := by
  by_cases c : RowsOk l
  · obtain ⟨T, h1, h2⟩ := build_eq l c
    exact ⟨some T, 0, 0, h1, fun h => absurd c h, fun _ => ⟨T, rfl, h2⟩⟩
  · obtain ⟨a, e, h1, h2⟩ := check_total l
    have he : e ≠ 0 := fun h => c (h2 h)
    refine ⟨none, a, e, ?_, fun _ => rfl, fun h => absurd h c⟩
    rw [stage_Build.f, stage_Table_Over.f, h1, Option.bind_some, if_pos he]
    rfl
theorem tab_look {l : List Val} {T : Option Tab} (h : TabOf l T) (hl : RowsOk l) (p : Int) (h0 : 0 ≤ p) (h1 : p ≤ 1114111) : stage_Table_Look.f T p = some (valAt l p) := by
  obtain ⟨t, rfl, ht⟩ := h.2 hl
  exact look_eq hl ht p h0 h1
theorem compile1 (l : List Val) : ∃ T, book_Compile_1.f l = some T ∧ TabOf l T := by
  obtain ⟨T, x, y, h1, h2⟩ := build_any l
  exact ⟨T, by rw [book_Compile_1.f, h1]; rfl, h2⟩
def markF (l : List Spn) : List Val := l.map fun x => ⟨x.lo, x.hi, 1⟩
theorem marked_eq (l : List Spn) (hl : l.length ≤ bigN) : ∃ T, book_marked.f l = some T ∧ TabOf (markF l) T := by
  obtain ⟨T, x, y, h1, h2⟩ := build_any (markF l)
  refine ⟨T, ?_, h2⟩
  refine loop_ind (fun k i s => book_marked.l1 k l s i) l (fun pre t s o => s = markF pre → o = some T) ?_ ?_ [] K0 (ltK hl) rfl
  · intro s k hs
    simp only [book_marked.l1, if_neg (show ¬ (l.length : Int) < (l.length : Int) by omega), hs, h1]
    rfl
  · intro pre x t s k e ih hs
    obtain ⟨h3, h4⟩ := mid e
    have hp : pre.length ≤ bigN := by rw [e] at hl; simp at hl; omega
    simp only [book_marked.l1, if_pos h4.2, if_pos h4, h3, nxt hl e]
    rw [if_pos (by rw [hs, markF, List.length_map]; exact mostle hp (Nat.le_refl _))]
    exact ih _ (by rw [hs]; simp [markF])
def numF : Int → List Chs → List Val
  | _, [] => []
  | i, x :: t => ⟨x.lo, x.hi, i + 1⟩ :: numF (i + 1) t
theorem numF_len : ∀ (i : Int) (l : List Chs), (numF i l).length = l.length
  | _, [] => rfl
  | i, x :: t => by simp [numF, numF_len (i + 1) t]
theorem numF_app : ∀ (i : Int) (a b : List Chs), numF i (a ++ b) = numF i a ++ numF (i + a.length) b
  | i, [], b => by simp [numF]
  | i, x :: a, b => by
    simp only [List.cons_append, numF, numF_app (i + 1) a b, List.length_cons]
    rw [show i + 1 + (a.length : Int) = i + ((a.length + 1 : Nat) : Int) by omega]
theorem numbered_eq (l : List Chs) (hl : l.length ≤ bigN) : ∃ T, book_numbered_api_Chars_fhb.f l = some T ∧ TabOf (numF 0 l) T := by
  obtain ⟨T, x, y, h1, h2⟩ := build_any (numF 0 l)
  refine ⟨T, ?_, h2⟩
  refine loop_ind (fun k i s => book_numbered_api_Chars_fhb.l1 k l s i) l (fun pre t s o => s = numF 0 pre → o = some T) ?_ ?_ [] K0 (ltK hl) rfl
  · intro s k hs
    simp only [book_numbered_api_Chars_fhb.l1, if_neg (show ¬ (l.length : Int) < (l.length : Int) by omega), hs, h1]
    rfl
  · intro pre x t s k e ih hs
    obtain ⟨h3, h4⟩ := mid e
    have hp : pre.length ≤ bigN := by rw [e] at hl; simp at hl; omega
    simp only [book_numbered_api_Chars_fhb.l1, if_pos h4.2, if_pos h4, h3, book_ofChars.f, Option.bind_some, nxt hl e]
    rw [if_pos (by rw [hs, numF_len]; exact mostle hp (Nat.le_refl _))]
    exact ih _ (by rw [hs, numF_app]; simp [numF])
theorem cl_most {α : Type} {n : Nat} (h : n ≤ bigN) : ([] : List α).length + n ≤ most := by unfold bigN at h; unfold most; simp; omega
theorem cl_val (l : List Val) (h : l.length ≤ bigN) : slices_Clone_api_Value_api_Value.f l = some l := by rw [slices_Clone_api_Value_api_Value.f, if_pos (cl_most h)]; rfl
theorem cl_str (l : List ByteArray) (h : l.length ≤ bigN) : slices_Clone_string_string.f l = some l := by rw [slices_Clone_string_string.f, if_pos (cl_most h)]; rfl
theorem cl_chs (l : List Chs) (h : l.length ≤ bigN) : slices_Clone_api_Chars_api_Chars.f l = some l := by rw [slices_Clone_api_Chars_api_Chars.f, if_pos (cl_most h)]; rfl
theorem cl_spn (l : List Spn) (h : l.length ≤ bigN) : slices_Clone_api_Span_api_Span.f l = some l := by rw [slices_Clone_api_Span_api_Span.f, if_pos (cl_most h)]; rfl
theorem cl_int (l : List Int) (h : l.length ≤ bigN) : slices_Clone_rune_rune.f l = some l := by rw [slices_Clone_rune_rune.f, if_pos (cl_most h)]; rfl
theorem own_eq (l : List Chs) (hl : l.length ≤ bigN) (hi : ∀ x ∈ l, x.is_.length ≤ bigN) : book_own.f l = some l := by
  rw [book_own.f, cl_chs l hl, Option.bind_some]
  refine loop_ind (fun k i s => book_own.l1 k l s i) l (fun pre t s o => s = l → o = some l) ?_ ?_ l K0 (ltK hl) rfl
  · intro s k hs
    simp only [book_own.l1, if_neg (show ¬ (l.length : Int) < (l.length : Int) by omega), hs]
  · intro pre x t s k e ih hs
    obtain ⟨h3, h4⟩ := mid e
    rw [hs]
    simp only [book_own.l1, if_pos h4.2, if_pos h4, h3, nxt hl e, cl_int _ (hi x (by rw [e]; simp)), Option.bind_some]
    refine ih _ ?_
    rw [Int.toNat_natCast]
    rw [e]
    simp
theorem copied_eq (b : Bk) (hb : Few b) : book_copied.f b = some b := by
  rw [book_copied.f, cl_str _ hb.names, Option.bind_some, cl_val _ hb.status, Option.bind_some, own_eq _ hb.maps hb.mapsI, Option.bind_some, cl_val _ hb.class_, Option.bind_some,
    own_eq _ hb.decomp hb.decompI, Option.bind_some, cl_spn _ hb.excl, Option.bind_some, cl_val _ hb.bidi, Option.bind_some, cl_val _ hb.join, Option.bind_some, cl_spn _ hb.marks, Option.bind_some,
    cl_val _ hb.script, Option.bind_some, own_eq _ hb.like hb.likeI, Option.bind_some]
theorem ref_values (l : List Val) (hl : l.length ≤ bigN) : ref10_values.f l = some l := by
  have := loop_map (fun k i s => ref10_values.l1 k l s i) l (fun x => (⟨x.lo, x.hi, x.n⟩ : Val)) hl
    (fun s k => by simp only [ref10_values.l1, if_neg (show ¬ (l.length : Int) < (l.length : Int) by omega)])
    (fun pre x t s k e hs => by
      obtain ⟨h1, h2⟩ := mid e
      simp only [ref10_values.l1, if_pos h2.2, if_pos h2, h1, nxt hl e]
      exact if_pos hs)
  rw [ref10_values.f, this]; simp
theorem ref_plain (l : List Spn) (hl : l.length ≤ bigN) : ref10_plain.f l = some l := by
  have := loop_map (fun k i s => ref10_plain.l1 k l s i) l (fun x => (⟨x.lo, x.hi⟩ : Spn)) hl
    (fun s k => by simp only [ref10_plain.l1, if_neg (show ¬ (l.length : Int) < (l.length : Int) by omega)])
    (fun pre x t s k e hs => by
      obtain ⟨h1, h2⟩ := mid e
      simp only [ref10_plain.l1, if_pos h2.2, if_pos h2, h1, nxt hl e]
      exact if_pos hs)
  rw [ref10_plain.f, this]; simp
theorem ref_lists (l : List Chs) (hl : l.length ≤ bigN) (hi : ∀ x ∈ l, x.is_.length ≤ bigN) : ref10_lists.f l = some l := by
  have := loop_map (fun k i s => ref10_lists.l1 k l s i) l (fun x => (⟨x.lo, x.hi, x.is_⟩ : Chs)) hl
    (fun s k => by simp only [ref10_lists.l1, if_neg (show ¬ (l.length : Int) < (l.length : Int) by omega)])
    (fun pre x t s k e hs => by
      obtain ⟨h1, h2⟩ := mid e
      simp only [ref10_lists.l1, if_pos h2.2, if_pos h2, h1, nxt hl e]
      rw [if_pos (cl_most (hi x (by rw [e]; simp)))]
      exact if_pos hs)
  rw [ref10_lists.f, this]; simp
theorem of_eq (b : Bk) (hb : Few b) : ref10_Of.f b = some b := by
  rw [ref10_Of.f, if_pos (cl_most hb.names), ref_values _ hb.status, Option.bind_some, ref_lists _ hb.maps hb.mapsI, Option.bind_some, ref_values _ hb.class_, Option.bind_some,
    ref_lists _ hb.decomp hb.decompI, Option.bind_some, ref_plain _ hb.excl, Option.bind_some, ref_values _ hb.bidi, Option.bind_some, ref_values _ hb.join, Option.bind_some, ref_plain _ hb.marks, Option.bind_some,
    ref_values _ hb.script, Option.bind_some, ref_lists _ hb.like hb.likeI, Option.bind_some]
  rfl
structure TabsOf (b : Bk) (t : Tbs) : Prop where
  book : t.b = b
  status : TabOf b.status t.status
  class_ : TabOf b.class_ t.class_
  bidi : TabOf b.bidi t.bidi
  join : TabOf b.join t.join
  script : TabOf b.script t.script
  excl : TabOf (markF b.excl) t.excl
  mark : TabOf (markF b.marks) t.mark
  maps : TabOf (numF 0 b.maps) t.maps
  decomp : TabOf (numF 0 b.decomp) t.decomp
  likes : TabOf (numF 0 b.like) t.likes
theorem look_some (l : List Val) (T : Option Tab) (h : TabOf l T) (p : Int) : ∃ r, stage_Table_Look.f T p = some r := by
  by_cases c : p < 0 ∨ 1114111 < p
  · exact ⟨_, look_out T p c⟩
  · by_cases hl : RowsOk l
    · exact ⟨_, tab_look h hl p (by omega) (by omega)⟩
    · exact ⟨0, by rw [h.1 hl, stage_Table_Look.f]; simp [stage_Table_Look.j1]⟩
theorem compile_loop (b : Bk) (hb : Dok b.decomp) {T1 T2 T3 T4 T5 T6 T7 T8 T9 T10 : Option Tab} (h2 : TabOf b.class_ T2) (h6 : TabOf (markF b.excl) T6) :
    ∃ ps, book_Compile.l1 K0 b T1 T2 T3 T4 T5 T6 T7 T8 T9 T10 [] 0 = some (some ⟨b, T1, T2, T3, T4, T5, T6, T7, T8, T9, T10, ps⟩, 0) := by
  have hl : b.decomp.length ≤ bigN := by have := hb.len; unfold bigN; omega
  refine loop_ind (fun k i s => book_Compile.l1 k b T1 T2 T3 T4 T5 T6 T7 T8 T9 T10 s i) b.decomp
    (fun pre t s o => ∃ ps, o = some (some ⟨b, T1, T2, T3, T4, T5, T6, T7, T8, T9, T10, ps⟩, 0)) ?_ ?_ [] K0 (ltK hl)
  · intro s k
    exact ⟨s, by simp only [book_Compile.l1, if_neg (show ¬ (b.decomp.length : Int) < (b.decomp.length : Int) by omega)]⟩
  · intro pre x t s k e ih
    obtain ⟨h3, h4⟩ := mid e
    obtain ⟨r1, e1⟩ := look_some _ _ h6 x.lo
    obtain ⟨r2, e2⟩ := look_some _ _ h2 x.lo
    obtain ⟨r3, e3⟩ := look_some _ _ h2 (rd x.is_ 0)
    simp only [book_Compile.l1, if_pos h4.2, if_pos h4, h3, book_Compile.j2, book_Compile.j1, nxt hl e, e1, e2, e3, Option.bind_some]
    by_cases c1 : (x.is_.length : Int) = 2
    · rw [if_pos c1]
      by_cases c2 : r1 = 0
      · rw [if_pos c2]
        by_cases c3 : r2 = 0
        · rw [if_pos c3, if_pos ⟨Int.le_refl _, by omega⟩]
          by_cases c4 : r3 = 0
          · rw [if_pos (by simpa using c4), if_pos ⟨by omega, by omega⟩, if_pos ⟨by omega, by omega⟩]; exact ih _
          · rw [if_neg (by simpa using c4)]; exact ih _
        · rw [if_neg c3, if_neg (by decide)]; exact ih _
      · rw [if_neg c2, if_neg (by decide)]; exact ih _
    · rw [if_neg c1, if_neg (by decide)]; exact ih _
theorem okB_decomp {b : Bk} (h : okB b = true) : Dok b.decomp := by
  unfold okB at h
  simp only [Bool.and_eq_true] at h
  exact Dok.mk' h.2.2.2.2.1
theorem compile_eq (b : Bk) (hb : Few b) (h : okB b = true) : ∃ t, book_Compile.f b = some (some t, 0) ∧ TabsOf b t := by
  obtain ⟨p, hp⟩ := book_check_eq b
  rw [h] at hp
  obtain ⟨T1, e1, h1⟩ := compile1 b.status
  obtain ⟨T2, e2, h2⟩ := compile1 b.class_
  obtain ⟨T3, e3, h3⟩ := compile1 b.bidi
  obtain ⟨T4, e4, h4⟩ := compile1 b.join
  obtain ⟨T5, e5, h5⟩ := compile1 b.script
  obtain ⟨T6, e6, h6⟩ := marked_eq b.excl hb.excl
  obtain ⟨T7, e7, h7⟩ := marked_eq b.marks hb.marks
  obtain ⟨T8, e8, h8⟩ := numbered_eq b.maps hb.maps
  obtain ⟨T9, e9, h9⟩ := numbered_eq b.decomp hb.decomp
  obtain ⟨T10, e10, h10⟩ := numbered_eq b.like hb.like
  obtain ⟨ps, hps⟩ := compile_loop b (okB_decomp h) (T1 := T1) (T3 := T3) (T4 := T4) (T5 := T5) (T7 := T7) (T8 := T8) (T9 := T9) (T10 := T10) h2 h6
  refine ⟨⟨b, T1, T2, T3, T4, T5, T6, T7, T8, T9, T10, ps⟩, ?_, ⟨rfl, h1, h2, h3, h4, h5, h6, h7, h8, h9, h10⟩⟩
  rw [book_Compile.f, hp, Option.bind_some, if_neg (by simp), copied_eq b hb, Option.bind_some, book_Compile.t10, e1, Option.bind_some, book_Compile.t9, e2, Option.bind_some, book_Compile.t8, e3, Option.bind_some,
    book_Compile.t7, e4, Option.bind_some, book_Compile.t6, e5, Option.bind_some, book_Compile.t5, e6, Option.bind_some, book_Compile.t4, e7, Option.bind_some, book_Compile.t3, e8, Option.bind_some,
    book_Compile.t2, e9, Option.bind_some, book_Compile.t1, e10, Option.bind_some, book_Compile.j3, hps]
end Go.Proofs.YtekafkokpnihfaaGreat
