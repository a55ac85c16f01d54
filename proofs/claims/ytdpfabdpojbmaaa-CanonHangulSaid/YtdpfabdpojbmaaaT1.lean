/- Written by this repo's gen.py: for each Go function a Lean function with the same answers and the walk that shows it. -/
import Derived.Test.YtdpfabdpojbmaaaT0
import Derived.Test.YtdpfabdpojbmaaaData
import Derived.Test.YtdpfabdpojbmaaaFacts
namespace Go.Proofs.Ytdpfabdpojbmaaa
open Go.RowKit
set_option linter.unusedVariables false
/-! ### postern/posternlaw12.CanonHangul: function 3 -/
def law12_CanonHangul.j107 (j107_4 : Bool) : Option Bool := some j107_4
def law12_CanonHangul.j90 (x0 : Int) (r67 : Int × Int × Int × Bool) (j90_82 : Bool) : Option Bool := if j90_82 = true then (some false) else (if r67.2.2.2 = true then ((canon_Hangul.f r67.1 r67.2.1 r67.2.2.1).bind fun r101 => (if r101.1 = x0 then (law12_CanonHangul.j107 r101.2) else (law12_CanonHangul.j107 false))) else (some true))
def law12_CanonHangul.f (x0 : Int) (x1 : Jam) : Option Bool := (law12_awake.f).bind fun r59 => (if (!r59) = true then (some false) else ((canon_Syllable.f x0).bind fun r67 => ((ref12_Syllable.f x0).bind fun r72 => ((canon_Hangul.f x1.l x1.v x1.t).bind fun r77 => ((ref12_Hangul.f x1.l x1.v x1.t).bind fun r82 => (if r67.1 ≠ r72.1 then (law12_CanonHangul.j90 x0 r67 true) else (if r67.2.1 ≠ r72.2.1 then (law12_CanonHangul.j90 x0 r67 true) else (if r67.2.2.1 ≠ r72.2.2.1 then (law12_CanonHangul.j90 x0 r67 true) else (if (r67.2.2.2 != r72.2.2.2) = true then (law12_CanonHangul.j90 x0 r67 true) else (if r77.1 ≠ r82.1 then (law12_CanonHangul.j90 x0 r67 true) else (law12_CanonHangul.j90 x0 r67 (r77.2 != r82.2))))))))))))
set_option maxRecDepth 100000 in
set_option maxHeartbeats 4000000 in
theorem law12_CanonHangul.c {w0 w : World} {ρ : Hp} {Γ : List Item} (hs : St w0 ρ Γ w) {x0 : Int} {c1 : List Value} {x1 : Jam} (h1 : rJam.R ρ c1 x1) {r : Bool} (H : law12_CanonHangul.f x0 x1 = some r) : CallsR Try.prog 3 [.int .i32 x0, .agg c1.toArray] w (fun v w' => v = .bool r ∧ St w0 ρ Γ w') := by
  rw [law12_CanonHangul.f] at H
  refine enter Try.func3 Try.ntmps3 rfl (by kernel_rfl) rfl ?_
  have k51 := h1
  obtain rfl := k51
  refine W_seq fun N52 n53 => ?_
  refine W_region ?_
  refine O_boxN (cs := [.int .i32 x1.l, .int .i32 x1.v, .int .i32 x1.t]) hs rfl rfl (fun b54 w hs => ?_)
  refine O_y rfl (Y_assign rfl) ?_
  refine O_nil (n53 _ _ ?_)
  refine W_seq fun N55 n56 => ?_
  refine W_seq fun N57 n58 => ?_
  refine W_region ?_
  obtain ⟨r59, hr60, H⟩ := bnd H
  refine O_call rfl rfl (law12_awake.c hs hr60) (fun v61 w hpost => ?_)
  obtain ⟨rfl, hs⟩ := hpost
  refine O_y rfl (Y_not rfl) ?_
  refine O_nil (n58 _ _ ?_)
  refine W_cond rfl (fun c62 => ?_) (fun c62 => ?_)
  · rw [if_pos c62] at H
    refine W_seq fun N63 n64 => ?_
    refine W_region ?_
    refine O_y rfl (Y_assign rfl) ?_
    refine O_nil (n64 _ _ ?_)
    refine W_ret ?_
    obtain rfl := Option.some.inj H
    exact ret1 rfl rfl ⟨rfl, (hs.sub (.cons _ (List.Sublist.refl _)))⟩
  · rw [if_neg (by rw [c62]; exact Bool.false_ne_true)] at H
    refine W_skip (n56 _ _ ?_)
    refine W_seq fun N65 n66 => ?_
    refine W_region ?_
    refine O_y rfl (Y_move rfl) ?_
    obtain ⟨r67, hr68, H⟩ := bnd H
    refine O_call rfl rfl (canon_Syllable.c hs hr68) (fun v69 w hpost => ?_)
    obtain ⟨rfl, hs⟩ := hpost
    refine O_y rfl (Y_move rfl) ?_
    refine O_y rfl (Y_extract rfl rfl) ?_
    refine O_y rfl (Y_extract rfl rfl) ?_
    refine O_y rfl (Y_extract rfl rfl) ?_
    refine O_y rfl (Y_extract rfl rfl) ?_
    refine O_y rfl (Y_assign rfl) ?_
    refine O_y rfl (Y_assign rfl) ?_
    refine O_y rfl (Y_assign rfl) ?_
    refine O_y rfl (Y_assign rfl) ?_
    refine O_nil (n66 _ _ ?_)
    refine W.weak [(0, _), (3, _), (5, _), (6, _), (7, _), (8, _)] (Sub.cons rfl (Sub.cons rfl (Sub.cons rfl (Sub.cons rfl (Sub.cons rfl (Sub.cons rfl Sub.nil)))))) ?_
    refine W_seq fun N70 n71 => ?_
    refine W_region ?_
    refine O_y rfl (Y_move rfl) ?_
    obtain ⟨r72, hr73, H⟩ := bnd H
    refine O_call rfl rfl (ref12_Syllable.c hs hr73) (fun v74 w hpost => ?_)
    obtain ⟨rfl, hs⟩ := hpost
    refine O_y rfl (Y_move rfl) ?_
    refine O_y rfl (Y_extract rfl rfl) ?_
    refine O_y rfl (Y_extract rfl rfl) ?_
    refine O_y rfl (Y_extract rfl rfl) ?_
    refine O_y rfl (Y_extract rfl rfl) ?_
    refine O_y rfl (Y_assign rfl) ?_
    refine O_y rfl (Y_assign rfl) ?_
    refine O_y rfl (Y_assign rfl) ?_
    refine O_y rfl (Y_assign rfl) ?_
    refine O_nil (n71 _ _ ?_)
    refine W.weak [(0, _), (3, _), (5, _), (6, _), (7, _), (8, _), (9, _), (10, _), (11, _), (12, _)] (Sub.cons rfl (Sub.cons rfl (Sub.cons rfl (Sub.cons rfl (Sub.cons rfl (Sub.cons rfl (Sub.cons rfl (Sub.cons rfl (Sub.cons rfl (Sub.cons rfl Sub.nil)))))))))) ?_
    refine W_seq fun N75 n76 => ?_
    refine W_region ?_
    refine O_y rfl (Y_field fo23_0 rfl) ?_
    refine O_y rfl (Y_loadb (i := 0) ag21 hs rfl rfl rfl) ?_
    refine O_y rfl (Y_field fo23_1 rfl) ?_
    refine O_y rfl (Y_loadb (i := 0) ag21 hs rfl rfl rfl) ?_
    refine O_y rfl (Y_field fo23_2 rfl) ?_
    refine O_y rfl (Y_loadb (i := 0) ag21 hs rfl rfl rfl) ?_
    obtain ⟨r77, hr78, H⟩ := bnd H
    refine O_call rfl rfl (canon_Hangul.c hs hr78) (fun v79 w hpost => ?_)
    obtain ⟨rfl, hs⟩ := hpost
    refine O_y rfl (Y_move rfl) ?_
    refine O_y rfl (Y_extract rfl rfl) ?_
    refine O_y rfl (Y_extract rfl rfl) ?_
    refine O_y rfl (Y_assign rfl) ?_
    refine O_y rfl (Y_assign rfl) ?_
    refine O_nil (n76 _ _ ?_)
    refine W.weak [(0, _), (3, _), (5, _), (6, _), (7, _), (8, _), (9, _), (10, _), (11, _), (12, _), (13, _), (14, _)] (Sub.cons rfl (Sub.cons rfl (Sub.cons rfl (Sub.cons rfl (Sub.cons rfl (Sub.cons rfl (Sub.cons rfl (Sub.cons rfl (Sub.cons rfl (Sub.cons rfl (Sub.cons rfl (Sub.cons rfl Sub.nil)))))))))))) ?_
    refine W_seq fun N80 n81 => ?_
    refine W_region ?_
    refine O_y rfl (Y_field fo23_0 rfl) ?_
    refine O_y rfl (Y_loadb (i := 0) ag21 hs rfl rfl rfl) ?_
    refine O_y rfl (Y_field fo23_1 rfl) ?_
    refine O_y rfl (Y_loadb (i := 0) ag21 hs rfl rfl rfl) ?_
    refine O_y rfl (Y_field fo23_2 rfl) ?_
    refine O_y rfl (Y_loadb (i := 0) ag21 hs rfl rfl rfl) ?_
    obtain ⟨r82, hr83, H⟩ := bnd H
    refine O_call rfl rfl (ref12_Hangul.c hs hr83) (fun v84 w hpost => ?_)
    obtain ⟨rfl, hs⟩ := hpost
    refine O_y rfl (Y_move rfl) ?_
    refine O_y rfl (Y_extract rfl rfl) ?_
    refine O_y rfl (Y_extract rfl rfl) ?_
    refine O_y rfl (Y_assign rfl) ?_
    refine O_y rfl (Y_assign rfl) ?_
    refine O_nil (n81 _ _ ?_)
    refine W.weak [(0, _), (5, _), (6, _), (7, _), (8, _), (9, _), (10, _), (11, _), (12, _), (13, _), (14, _), (15, _), (16, _)] (Sub.cons rfl (Sub.cons rfl (Sub.cons rfl (Sub.cons rfl (Sub.cons rfl (Sub.cons rfl (Sub.cons rfl (Sub.cons rfl (Sub.cons rfl (Sub.cons rfl (Sub.cons rfl (Sub.cons rfl (Sub.cons rfl Sub.nil))))))))))))) ?_
    refine W_seq fun N85 n86 => ?_
    refine W_seqj fun N87 n88 s89 => ?_
    have j90 : ∀ (j90_82 : Bool) (w : World), law12_CanonHangul.j90 x0 r67 j90_82 = some r → St w0 ρ ((.box b54 23 [.int .i32 x1.l, .int .i32 x1.v, .int .i32 x1.t]) :: Γ) w → N87 [(0, .int .i32 x0), (5, .int .i32 r67.1), (6, .int .i32 r67.2.1), (7, .int .i32 r67.2.2.1), (8, .bool r67.2.2.2), (82, .bool j90_82)] w := by
      intro j90_82 w H hs
      rw [law12_CanonHangul.j90] at H
      refine n88 _ _ ?_
      refine W_cond rfl (fun c91 => ?_) (fun c91 => ?_)
      · rw [if_pos c91] at H
        refine W_seq fun N92 n93 => ?_
        refine W_region ?_
        refine O_y rfl (Y_assign rfl) ?_
        refine O_nil (n93 _ _ ?_)
        refine W_ret ?_
        obtain rfl := Option.some.inj H
        exact ret1 rfl rfl ⟨rfl, (hs.sub (.cons _ (List.Sublist.refl _)))⟩
      · rw [if_neg (by rw [c91]; exact Bool.false_ne_true)] at H
        refine W_skip (n86 _ _ ?_)
        refine W_seq fun N94 n95 => ?_
        refine W_seq fun N96 n97 => ?_
        refine W_region ?_
        refine O_y rfl (Y_move rfl) ?_
        refine O_nil (n97 _ _ ?_)
        refine W_cond rfl (fun c98 => ?_) (fun c98 => ?_)
        · rw [if_pos c98] at H
          refine W_seq fun N99 n100 => ?_
          refine W_region ?_
          refine O_y rfl (Y_move rfl) ?_
          refine O_y rfl (Y_move rfl) ?_
          refine O_y rfl (Y_move rfl) ?_
          obtain ⟨r101, hr102, H⟩ := bnd H
          refine O_call rfl rfl (canon_Hangul.c hs hr102) (fun v103 w hpost => ?_)
          obtain ⟨rfl, hs⟩ := hpost
          refine O_y rfl (Y_move rfl) ?_
          refine O_y rfl (Y_extract rfl rfl) ?_
          refine O_y rfl (Y_extract rfl rfl) ?_
          refine O_y rfl (Y_assign rfl) ?_
          refine O_y rfl (Y_assign rfl) ?_
          refine O_nil (n100 _ _ ?_)
          refine W.weak [(0, _), (17, _), (18, _)] (Sub.cons rfl (Sub.cons rfl (Sub.cons rfl Sub.nil))) ?_
          refine W_seqj fun N104 n105 s106 => ?_
          have j107 : ∀ (j107_4 : Bool) (w : World), law12_CanonHangul.j107 j107_4 = some r → St w0 ρ ((.box b54 23 [.int .i32 x1.l, .int .i32 x1.v, .int .i32 x1.t]) :: Γ) w → N104 [(4, .bool j107_4)] w := by
            intro j107_4 w H hs
            rw [law12_CanonHangul.j107] at H
            refine n105 _ _ ?_
            refine W_ret ?_
            obtain rfl := Option.some.inj H
            exact ret1 rfl rfl ⟨rfl, (hs.sub (.cons _ (List.Sublist.refl _)))⟩
          refine W_region ?_
          refine O_y rfl (Y_move rfl) ?_
          refine O_y rfl (Y_move rfl) ?_
          refine O_y rfl (Y_eql rfl rfl) ?_
          refine O_y rfl (Y_move rfl) ?_
          refine O_if (dj := 94) rfl (fun c108 => ?_) (fun c108 => ?_)
          · rw [if_pos c108] at H
            refine O_yes rfl rfl ?_
            refine O_y rfl (Y_move rfl) ?_
            refine O_y rfl (Y_pick_t rfl rfl) ?_
            refine O_y rfl (Y_assign rfl) ?_
            exact O_nil (s106 _ _ _ (Sub.cons rfl Sub.nil) (j107 r101.2 _ H hs))
          · rw [if_neg c108] at H
            refine O_no rfl rfl rfl rfl ?_
            refine O_y rfl (Y_pick_f rfl rfl) ?_
            refine O_y rfl (Y_assign rfl) ?_
            exact O_nil (s106 _ _ _ (Sub.cons rfl Sub.nil) (j107 false _ H hs))
        · rw [if_neg (by rw [c98]; exact Bool.false_ne_true)] at H
          refine W_skip (n95 _ _ ?_)
          refine W_seq fun N109 n110 => ?_
          refine W_region ?_
          refine O_y rfl (Y_assign rfl) ?_
          refine O_nil (n110 _ _ ?_)
          refine W_ret ?_
          obtain rfl := Option.some.inj H
          exact ret1 rfl rfl ⟨rfl, (hs.sub (.cons _ (List.Sublist.refl _)))⟩
    refine W_region ?_
    refine O_y rfl (Y_move rfl) ?_
    refine O_y rfl (Y_move rfl) ?_
    refine O_y rfl (Y_neq rfl rfl) ?_
    refine O_y rfl (Y_move rfl) ?_
    refine O_if (dj := 58) rfl (fun c111 => ?_) (fun c111 => ?_)
    · rw [if_pos c111] at H
      refine O_no rfl rfl rfl rfl ?_
      refine O_no rfl rfl rfl rfl ?_
      refine O_no rfl rfl rfl rfl ?_
      refine O_y rfl (Y_pick_t rfl rfl) ?_
      refine O_y rfl (Y_move rfl) ?_
      refine O_no rfl rfl rfl rfl ?_
      refine O_no rfl rfl rfl rfl ?_
      refine O_no rfl rfl rfl rfl ?_
      refine O_y rfl (Y_pick_t rfl rfl) ?_
      refine O_y rfl (Y_move rfl) ?_
      refine O_no rfl rfl rfl rfl ?_
      refine O_no rfl rfl rfl rfl ?_
      refine O_no rfl rfl rfl rfl ?_
      refine O_y rfl (Y_pick_t rfl rfl) ?_
      refine O_y rfl (Y_move rfl) ?_
      refine O_no rfl rfl rfl rfl ?_
      refine O_no rfl rfl rfl rfl ?_
      refine O_no rfl rfl rfl rfl ?_
      refine O_y rfl (Y_pick_t rfl rfl) ?_
      refine O_y rfl (Y_move rfl) ?_
      refine O_no rfl rfl rfl rfl ?_
      refine O_no rfl rfl rfl rfl ?_
      refine O_no rfl rfl rfl rfl ?_
      refine O_y rfl (Y_pick_t rfl rfl) ?_
      exact O_nil (s89 _ _ _ (Sub.cons rfl (Sub.cons rfl (Sub.cons rfl (Sub.cons rfl (Sub.cons rfl (Sub.cons rfl Sub.nil)))))) (j90 true _ H hs))
    · rw [if_neg c111] at H
      refine O_yes rfl rfl ?_
      refine O_y rfl (Y_move rfl) ?_
      refine O_yes rfl rfl ?_
      refine O_y rfl (Y_move rfl) ?_
      refine O_yes rfl rfl ?_
      refine O_y rfl (Y_neq rfl rfl) ?_
      refine O_y rfl (Y_pick_f rfl rfl) ?_
      refine O_y rfl (Y_move rfl) ?_
      refine O_if (dj := 63) rfl (fun c112 => ?_) (fun c112 => ?_)
      · rw [if_pos c112] at H
        refine O_no rfl rfl rfl rfl ?_
        refine O_no rfl rfl rfl rfl ?_
        refine O_no rfl rfl rfl rfl ?_
        refine O_y rfl (Y_pick_t rfl rfl) ?_
        refine O_y rfl (Y_move rfl) ?_
        refine O_no rfl rfl rfl rfl ?_
        refine O_no rfl rfl rfl rfl ?_
        refine O_no rfl rfl rfl rfl ?_
        refine O_y rfl (Y_pick_t rfl rfl) ?_
        refine O_y rfl (Y_move rfl) ?_
        refine O_no rfl rfl rfl rfl ?_
        refine O_no rfl rfl rfl rfl ?_
        refine O_no rfl rfl rfl rfl ?_
        refine O_y rfl (Y_pick_t rfl rfl) ?_
        refine O_y rfl (Y_move rfl) ?_
        refine O_no rfl rfl rfl rfl ?_
        refine O_no rfl rfl rfl rfl ?_
        refine O_no rfl rfl rfl rfl ?_
        refine O_y rfl (Y_pick_t rfl rfl) ?_
        exact O_nil (s89 _ _ _ (Sub.cons rfl (Sub.cons rfl (Sub.cons rfl (Sub.cons rfl (Sub.cons rfl (Sub.cons rfl Sub.nil)))))) (j90 true _ H hs))
      · rw [if_neg c112] at H
        refine O_yes rfl rfl ?_
        refine O_y rfl (Y_move rfl) ?_
        refine O_yes rfl rfl ?_
        refine O_y rfl (Y_move rfl) ?_
        refine O_yes rfl rfl ?_
        refine O_y rfl (Y_neq rfl rfl) ?_
        refine O_y rfl (Y_pick_f rfl rfl) ?_
        refine O_y rfl (Y_move rfl) ?_
        refine O_if (dj := 68) rfl (fun c113 => ?_) (fun c113 => ?_)
        · rw [if_pos c113] at H
          refine O_no rfl rfl rfl rfl ?_
          refine O_no rfl rfl rfl rfl ?_
          refine O_no rfl rfl rfl rfl ?_
          refine O_y rfl (Y_pick_t rfl rfl) ?_
          refine O_y rfl (Y_move rfl) ?_
          refine O_no rfl rfl rfl rfl ?_
          refine O_no rfl rfl rfl rfl ?_
          refine O_no rfl rfl rfl rfl ?_
          refine O_y rfl (Y_pick_t rfl rfl) ?_
          refine O_y rfl (Y_move rfl) ?_
          refine O_no rfl rfl rfl rfl ?_
          refine O_no rfl rfl rfl rfl ?_
          refine O_no rfl rfl rfl rfl ?_
          refine O_y rfl (Y_pick_t rfl rfl) ?_
          exact O_nil (s89 _ _ _ (Sub.cons rfl (Sub.cons rfl (Sub.cons rfl (Sub.cons rfl (Sub.cons rfl (Sub.cons rfl Sub.nil)))))) (j90 true _ H hs))
        · rw [if_neg c113] at H
          refine O_yes rfl rfl ?_
          refine O_y rfl (Y_move rfl) ?_
          refine O_yes rfl rfl ?_
          refine O_y rfl (Y_move rfl) ?_
          refine O_yes rfl rfl ?_
          refine O_y rfl (Y_neqb un4 rfl rfl) ?_
          refine O_y rfl (Y_pick_f rfl rfl) ?_
          refine O_y rfl (Y_move rfl) ?_
          refine O_cases (dj := 73) rfl (fun c114 => ?_) (fun c114 => ?_)
          · rw [if_pos c114] at H
            refine O_no rfl rfl rfl rfl ?_
            refine O_no rfl rfl rfl rfl ?_
            refine O_no rfl rfl rfl rfl ?_
            refine O_y rfl (Y_pick_t rfl rfl) ?_
            refine O_y rfl (Y_move rfl) ?_
            refine O_no rfl rfl rfl rfl ?_
            refine O_no rfl rfl rfl rfl ?_
            refine O_no rfl rfl rfl rfl ?_
            refine O_y rfl (Y_pick_t rfl rfl) ?_
            exact O_nil (s89 _ _ _ (Sub.cons rfl (Sub.cons rfl (Sub.cons rfl (Sub.cons rfl (Sub.cons rfl (Sub.cons rfl Sub.nil)))))) (j90 true _ H hs))
          · rw [if_neg (by rw [c114]; exact Bool.false_ne_true)] at H
            refine O_yes rfl rfl ?_
            refine O_y rfl (Y_move rfl) ?_
            refine O_yes rfl rfl ?_
            refine O_y rfl (Y_move rfl) ?_
            refine O_yes rfl rfl ?_
            refine O_y rfl (Y_neq rfl rfl) ?_
            refine O_y rfl (Y_pick_f rfl rfl) ?_
            refine O_y rfl (Y_move rfl) ?_
            refine O_if (dj := 78) rfl (fun c115 => ?_) (fun c115 => ?_)
            · rw [if_pos c115] at H
              refine O_no rfl rfl rfl rfl ?_
              refine O_no rfl rfl rfl rfl ?_
              refine O_no rfl rfl rfl rfl ?_
              refine O_y rfl (Y_pick_t rfl rfl) ?_
              exact O_nil (s89 _ _ _ (Sub.cons rfl (Sub.cons rfl (Sub.cons rfl (Sub.cons rfl (Sub.cons rfl (Sub.cons rfl Sub.nil)))))) (j90 true _ H hs))
            · rw [if_neg c115] at H
              refine O_yes rfl rfl ?_
              refine O_y rfl (Y_move rfl) ?_
              refine O_yes rfl rfl ?_
              refine O_y rfl (Y_move rfl) ?_
              refine O_yes rfl rfl ?_
              refine O_y rfl (Y_neqb un4 rfl rfl) ?_
              refine O_y rfl (Y_pick_f rfl rfl) ?_
              exact O_nil (s89 _ _ _ (Sub.cons rfl (Sub.cons rfl (Sub.cons rfl (Sub.cons rfl (Sub.cons rfl (Sub.cons rfl Sub.nil)))))) (j90 (r77.2 != r82.2) _ H hs))

/-! ### postern/posternlaw12.CanonSyllables: function 4 -/
def law12_CanonSyllables.j119 (go_l108 : Int → Int → Option Bool) (l108_8 : Int) (j119_5 : Int) : Option Bool := go_l108 j119_5 (IntKind.i32.wrap (l108_8 + 1))
def law12_CanonSyllables.j149 (go_l108 : Int → Int → Option Bool) (l108_5 : Int) (l108_8 : Int) (j149_71 : Bool) : Option Bool := if j149_71 = true then (some false) else (law12_CanonSyllables.j119 go_l108 l108_8 (IntKind.i64.wrap (l108_5 + 1)))
def law12_CanonSyllables.j128 (go_l108 : Int → Int → Option Bool) (l72_6 : Int) (l90_7 : Int) (l108_5 : Int) (l108_8 : Int) (j128_9 : Int) : Option Bool := (canon_Hangul.f l72_6 l90_7 j128_9).bind fun r131 => (if (!r131.2) = true then (law12_CanonSyllables.j119 go_l108 l108_8 l108_5) else ((canon_Syllable.f r131.1).bind fun r143 => (if r143.1 ≠ l72_6 then (law12_CanonSyllables.j149 go_l108 l108_5 l108_8 true) else (if r143.2.1 ≠ l90_7 then (law12_CanonSyllables.j149 go_l108 l108_5 l108_8 true) else (if r143.2.2.1 ≠ j128_9 then (law12_CanonSyllables.j149 go_l108 l108_5 l108_8 true) else (law12_CanonSyllables.j149 go_l108 l108_5 l108_8 (!r143.2.2.2)))))))
def law12_CanonSyllables.l108 (go_l90 : Int → Int → Option Bool) : Nat → Int → Int → Int → Int → Option Bool
  | 0, _, _, _, _ => none
  | kl108 + 1, l72_6, l90_7, l108_5, l108_8 => if l108_8 < 4550 then (if l108_8 = 4519 then (law12_CanonSyllables.j128 (law12_CanonSyllables.l108 go_l90 kl108 l72_6 l90_7) l72_6 l90_7 l108_5 l108_8 0) else (law12_CanonSyllables.j128 (law12_CanonSyllables.l108 go_l90 kl108 l72_6 l90_7) l72_6 l90_7 l108_5 l108_8 l108_8)) else (go_l90 l108_5 (IntKind.i32.wrap (l90_7 + 1)))
def law12_CanonSyllables.l90 (go_l72 : Int → Int → Option Bool) : Nat → Int → Int → Int → Option Bool
  | 0, _, _, _ => none
  | kl90 + 1, l72_6, l90_5, l90_7 => if l90_7 < 4480 then (law12_CanonSyllables.l108 (law12_CanonSyllables.l90 go_l72 kl90 l72_6) K0 l72_6 l90_7 l90_5 4518) else (go_l72 l90_5 (IntKind.i32.wrap (l72_6 + 1)))
def law12_CanonSyllables.j164 (l72_5 : Int) (j164_77 : Bool) : Option Bool := if j164_77 = true then (some (decide (l72_5 < 11172))) else (some (decide (l72_5 = 11172)))
def law12_CanonSyllables.l72 : Nat → Int → Int → Int → Int → Option Bool
  | 0, _, _, _, _ => none
  | kl72 + 1, x0, x1, l72_5, l72_6 => if l72_6 < (min x1 4400) then (law12_CanonSyllables.l90 (law12_CanonSyllables.l72 kl72 x0 x1) K0 l72_6 l72_5 4440) else (if 4352 < x0 then (law12_CanonSyllables.j164 l72_5 true) else (law12_CanonSyllables.j164 l72_5 (decide (x1 < 4371))))
def law12_CanonSyllables.f (x0 : Int) (x1 : Int) : Option Bool := (law12_awake.f).bind fun r57 => (if (!r57) = true then (some false) else (law12_CanonSyllables.l72 K0 x0 x1 0 (max x0 4300)))
set_option maxRecDepth 100000 in
set_option maxHeartbeats 4000000 in
theorem law12_CanonSyllables.c {w0 w : World} {ρ : Hp} {Γ : List Item} (hs : St w0 ρ Γ w) {x0 : Int} {x1 : Int} {r : Bool} (H : law12_CanonSyllables.f x0 x1 = some r) : CallsR Try.prog 4 [.int .i32 x0, .int .i32 x1] w (fun v w' => v = .bool r ∧ St w0 ρ Γ w') := by
  rw [law12_CanonSyllables.f] at H
  refine enter Try.func4 Try.ntmps4 rfl (by kernel_rfl) rfl ?_
  refine W_seq fun N51 n52 => ?_
  refine W_region ?_
  refine O_y rfl (Y_assign rfl) ?_
  refine O_nil (n52 _ _ ?_)
  refine W_seq fun N53 n54 => ?_
  refine W_seq fun N55 n56 => ?_
  refine W_region ?_
  obtain ⟨r57, hr58, H⟩ := bnd H
  refine O_call rfl rfl (law12_awake.c hs hr58) (fun v59 w hpost => ?_)
  obtain ⟨rfl, hs⟩ := hpost
  refine O_y rfl (Y_not rfl) ?_
  refine O_nil (n56 _ _ ?_)
  refine W_cond rfl (fun c60 => ?_) (fun c60 => ?_)
  · rw [if_pos c60] at H
    refine W_seq fun N61 n62 => ?_
    refine W_region ?_
    refine O_y rfl (Y_assign rfl) ?_
    refine O_nil (n62 _ _ ?_)
    refine W_ret ?_
    obtain rfl := Option.some.inj H
    exact ret1 rfl rfl ⟨rfl, hs⟩
  · rw [if_neg (by rw [c60]; exact Bool.false_ne_true)] at H
    refine W_skip (n54 _ _ ?_)
    refine W_seq fun N63 n64 => ?_
    refine W_region ?_
    refine O_y rfl (Y_assign rfl) ?_
    refine O_nil (n64 _ _ ?_)
    refine W_seq fun N65 n66 => ?_
    refine W_seq fun N67 n68 => ?_
    refine W_region ?_
    refine O_y rfl (Y_move rfl) ?_
    refine O_y rfl (Y_max rfl rfl) ?_
    refine O_y rfl (Y_assign rfl) ?_
    refine O_nil (n68 _ _ ?_)
    refine W_block fun X69 x70 y71 => ?_
    refine W_loop (σ := Nat × Int × Int) (fun (kl72, l72_5, l72_6) => [(0, .int .i32 x0), (1, .int .i32 x1), (5, .int .i64 l72_5), (6, .int .i32 l72_6)]) (fun (kl72, l72_5, l72_6) w => law12_CanonSyllables.l72 kl72 x0 x1 l72_5 l72_6 = some r ∧ St w0 ρ (Γ) w) (fun s => s.1) (K0, 0, (max x0 4300)) (Sub.cons rfl (Sub.cons rfl (Sub.cons rfl (Sub.cons rfl Sub.nil)))) (And.intro H hs) ?_
    rintro ⟨kl72, l72_5, l72_6⟩ w N73 ⟨H, hs⟩ back74
    show W _ _ _ _ _ _ [(0, .int .i32 x0), (1, .int .i32 x1), (5, .int .i64 l72_5), (6, .int .i32 l72_6)] w
    cases kl72 with
    | zero => rw [law12_CanonSyllables.l72] at H; cases H
    | succ kl72 =>
    rw [law12_CanonSyllables.l72] at H
    refine W_seq fun N75 n76 => ?_
    refine W_seq fun N77 n78 => ?_
    refine W_region ?_
    refine O_y rfl (Y_move rfl) ?_
    refine O_y rfl (Y_move rfl) ?_
    refine O_y rfl (Y_min rfl rfl) ?_
    refine O_y rfl (Y_lss rfl rfl) ?_
    refine O_nil (n78 _ _ ?_)
    refine W_if rfl (fun c79 => ?_) (fun c79 => ?_)
    · rw [if_pos c79] at H
      refine W_skip (n76 _ _ ?_)
      refine W_seq fun N80 n81 => ?_
      refine W_block fun X82 x83 y84 => ?_
      refine W_seq fun N85 n86 => ?_
      refine W_region ?_
      refine O_y rfl (Y_assign rfl) ?_
      refine O_nil (n86 _ _ ?_)
      refine W_block fun X87 x88 y89 => ?_
      refine W_loop (σ := Nat × Int × Int) (fun (kl90, l90_5, l90_7) => [(0, .int .i32 x0), (1, .int .i32 x1), (5, .int .i64 l90_5), (6, .int .i32 l72_6), (7, .int .i32 l90_7)]) (fun (kl90, l90_5, l90_7) w => law12_CanonSyllables.l90 (law12_CanonSyllables.l72 kl72 x0 x1) kl90 l72_6 l90_5 l90_7 = some r ∧ St w0 ρ (Γ) w) (fun s => s.1) (K0, l72_5, 4440) (Sub.cons rfl (Sub.cons rfl (Sub.cons rfl (Sub.cons rfl (Sub.cons rfl Sub.nil))))) (And.intro H hs) ?_
      rintro ⟨kl90, l90_5, l90_7⟩ w N91 ⟨H, hs⟩ back92
      show W _ _ _ _ _ _ [(0, .int .i32 x0), (1, .int .i32 x1), (5, .int .i64 l90_5), (6, .int .i32 l72_6), (7, .int .i32 l90_7)] w
      cases kl90 with
      | zero => rw [law12_CanonSyllables.l90] at H; cases H
      | succ kl90 =>
      rw [law12_CanonSyllables.l90] at H
      refine W_seq fun N93 n94 => ?_
      refine W_seq fun N95 n96 => ?_
      refine W_region ?_
      refine O_y rfl (Y_move rfl) ?_
      refine O_y rfl (Y_lss rfl rfl) ?_
      refine O_nil (n96 _ _ ?_)
      refine W_if rfl (fun c97 => ?_) (fun c97 => ?_)
      · rw [if_pos c97] at H
        refine W_skip (n94 _ _ ?_)
        refine W_seq fun N98 n99 => ?_
        refine W_block fun X100 x101 y102 => ?_
        refine W_seq fun N103 n104 => ?_
        refine W_region ?_
        refine O_y rfl (Y_assign rfl) ?_
        refine O_nil (n104 _ _ ?_)
        refine W_block fun X105 x106 y107 => ?_
        refine W_loop (σ := Nat × Int × Int) (fun (kl108, l108_5, l108_8) => [(0, .int .i32 x0), (1, .int .i32 x1), (5, .int .i64 l108_5), (6, .int .i32 l72_6), (7, .int .i32 l90_7), (8, .int .i32 l108_8)]) (fun (kl108, l108_5, l108_8) w => law12_CanonSyllables.l108 (law12_CanonSyllables.l90 (law12_CanonSyllables.l72 kl72 x0 x1) kl90 l72_6) kl108 l72_6 l90_7 l108_5 l108_8 = some r ∧ St w0 ρ (Γ) w) (fun s => s.1) (K0, l90_5, 4518) (Sub.cons rfl (Sub.cons rfl (Sub.cons rfl (Sub.cons rfl (Sub.cons rfl (Sub.cons rfl Sub.nil)))))) (And.intro H hs) ?_
        rintro ⟨kl108, l108_5, l108_8⟩ w N109 ⟨H, hs⟩ back110
        show W _ _ _ _ _ _ [(0, .int .i32 x0), (1, .int .i32 x1), (5, .int .i64 l108_5), (6, .int .i32 l72_6), (7, .int .i32 l90_7), (8, .int .i32 l108_8)] w
        cases kl108 with
        | zero => rw [law12_CanonSyllables.l108] at H; cases H
        | succ kl108 =>
        rw [law12_CanonSyllables.l108] at H
        refine W_seq fun N111 n112 => ?_
        refine W_seq fun N113 n114 => ?_
        refine W_region ?_
        refine O_y rfl (Y_move rfl) ?_
        refine O_y rfl (Y_lss rfl rfl) ?_
        refine O_nil (n114 _ _ ?_)
        refine W_if rfl (fun c115 => ?_) (fun c115 => ?_)
        · rw [if_pos c115] at H
          refine W_skip (n112 _ _ ?_)
          refine W_seqj fun N116 n117 s118 => ?_
          have j119 : ∀ (j119_5 : Int) (w : World), law12_CanonSyllables.j119 (law12_CanonSyllables.l108 (law12_CanonSyllables.l90 (law12_CanonSyllables.l72 kl72 x0 x1) kl90 l72_6) kl108 l72_6 l90_7) l108_8 j119_5 = some r → St w0 ρ (Γ) w → N116 [(0, .int .i32 x0), (1, .int .i32 x1), (5, .int .i64 j119_5), (6, .int .i32 l72_6), (7, .int .i32 l90_7), (8, .int .i32 l108_8)] w := by
            intro j119_5 w H hs
            rw [law12_CanonSyllables.j119] at H
            refine n117 _ _ ?_
            refine W_region ?_
            refine O_y rfl (Y_move rfl) ?_
            refine O_y rfl (Y_add rfl rfl) ?_
            refine O_y rfl (Y_assign rfl) ?_
            exact O_nil (back110 (kl108, j119_5, (IntKind.i32.wrap (l108_8 + 1))) _ _ (Sub.cons rfl (Sub.cons rfl (Sub.cons rfl (Sub.cons rfl (Sub.cons rfl (Sub.cons rfl Sub.nil)))))) (And.intro H hs) (Nat.lt_succ_self _))
          refine W_block fun X120 x121 y122 => ?_
          refine W_seq fun N123 n124 => ?_
          refine W_region ?_
          refine O_y rfl (Y_move rfl) ?_
          refine O_y rfl (Y_assign rfl) ?_
          refine O_nil (n124 _ _ ?_)
          refine W_seqj fun N125 n126 s127 => ?_
          have j128 : ∀ (j128_9 : Int) (w : World), law12_CanonSyllables.j128 (law12_CanonSyllables.l108 (law12_CanonSyllables.l90 (law12_CanonSyllables.l72 kl72 x0 x1) kl90 l72_6) kl108 l72_6 l90_7) l72_6 l90_7 l108_5 l108_8 j128_9 = some r → St w0 ρ (Γ) w → N125 [(0, .int .i32 x0), (1, .int .i32 x1), (5, .int .i64 l108_5), (6, .int .i32 l72_6), (7, .int .i32 l90_7), (8, .int .i32 l108_8), (9, .int .i32 j128_9)] w := by
            intro j128_9 w H hs
            rw [law12_CanonSyllables.j128] at H
            refine n126 _ _ ?_
            refine W_seq fun N129 n130 => ?_
            refine W_region ?_
            refine O_y rfl (Y_move rfl) ?_
            refine O_y rfl (Y_move rfl) ?_
            refine O_y rfl (Y_move rfl) ?_
            obtain ⟨r131, hr132, H⟩ := bnd H
            refine O_call rfl rfl (canon_Hangul.c hs hr132) (fun v133 w hpost => ?_)
            obtain ⟨rfl, hs⟩ := hpost
            refine O_y rfl (Y_move rfl) ?_
            refine O_y rfl (Y_extract rfl rfl) ?_
            refine O_y rfl (Y_extract rfl rfl) ?_
            refine O_y rfl (Y_assign rfl) ?_
            refine O_y rfl (Y_assign rfl) ?_
            refine O_nil (n130 _ _ ?_)
            refine W.weak [(0, _), (1, _), (5, _), (6, _), (7, _), (8, _), (9, _), (10, _), (11, _)] (Sub.cons rfl (Sub.cons rfl (Sub.cons rfl (Sub.cons rfl (Sub.cons rfl (Sub.cons rfl (Sub.cons rfl (Sub.cons rfl (Sub.cons rfl Sub.nil))))))))) ?_
            refine W_seq fun N134 n135 => ?_
            refine W_seq fun N136 n137 => ?_
            refine W_region ?_
            refine O_y rfl (Y_move rfl) ?_
            refine O_y rfl (Y_not rfl) ?_
            refine O_nil (n137 _ _ ?_)
            refine W_cond rfl (fun c138 => ?_) (fun c138 => ?_)
            · rw [if_pos c138] at H
              exact W_exit (x121 _ _ (s118 _ _ _ (Sub.cons rfl (Sub.cons rfl (Sub.cons rfl (Sub.cons rfl (Sub.cons rfl (Sub.cons rfl Sub.nil)))))) (j119 l108_5 _ H hs)))
            · rw [if_neg (by rw [c138]; exact Bool.false_ne_true)] at H
              refine W_skip (n135 _ _ ?_)
              refine W_seq fun N139 n140 => ?_
              refine W_region ?_
              refine O_y rfl (Y_move rfl) ?_
              refine O_y rfl (Y_add rfl rfl) ?_
              refine O_y rfl (Y_assign rfl) ?_
              refine O_nil (n140 _ _ ?_)
              refine W_seq fun N141 n142 => ?_
              refine W_region ?_
              refine O_y rfl (Y_move rfl) ?_
              obtain ⟨r143, hr144, H⟩ := bnd H
              refine O_call rfl rfl (canon_Syllable.c hs hr144) (fun v145 w hpost => ?_)
              obtain ⟨rfl, hs⟩ := hpost
              refine O_y rfl (Y_move rfl) ?_
              refine O_y rfl (Y_extract rfl rfl) ?_
              refine O_y rfl (Y_extract rfl rfl) ?_
              refine O_y rfl (Y_extract rfl rfl) ?_
              refine O_y rfl (Y_extract rfl rfl) ?_
              refine O_y rfl (Y_assign rfl) ?_
              refine O_y rfl (Y_assign rfl) ?_
              refine O_y rfl (Y_assign rfl) ?_
              refine O_y rfl (Y_assign rfl) ?_
              refine O_nil (n142 _ _ ?_)
              refine W.weak [(0, _), (1, _), (5, _), (6, _), (7, _), (8, _), (9, _), (12, _), (13, _), (14, _), (15, _)] (Sub.cons rfl (Sub.cons rfl (Sub.cons rfl (Sub.cons rfl (Sub.cons rfl (Sub.cons rfl (Sub.cons rfl (Sub.cons rfl (Sub.cons rfl (Sub.cons rfl (Sub.cons rfl Sub.nil))))))))))) ?_
              refine W_seqj fun N146 n147 s148 => ?_
              have j149 : ∀ (j149_71 : Bool) (w : World), law12_CanonSyllables.j149 (law12_CanonSyllables.l108 (law12_CanonSyllables.l90 (law12_CanonSyllables.l72 kl72 x0 x1) kl90 l72_6) kl108 l72_6 l90_7) l108_5 l108_8 j149_71 = some r → St w0 ρ (Γ) w → N146 [(0, .int .i32 x0), (1, .int .i32 x1), (5, .int .i64 (IntKind.i64.wrap (l108_5 + 1))), (6, .int .i32 l72_6), (7, .int .i32 l90_7), (8, .int .i32 l108_8), (71, .bool j149_71)] w := by
                intro j149_71 w H hs
                rw [law12_CanonSyllables.j149] at H
                refine n147 _ _ ?_
                refine W_cond rfl (fun c150 => ?_) (fun c150 => ?_)
                · rw [if_pos c150] at H
                  refine W_seq fun N151 n152 => ?_
                  refine W_region ?_
                  refine O_y rfl (Y_assign rfl) ?_
                  refine O_nil (n152 _ _ ?_)
                  refine W_ret ?_
                  obtain rfl := Option.some.inj H
                  exact ret1 rfl rfl ⟨rfl, hs⟩
                · rw [if_neg (by rw [c150]; exact Bool.false_ne_true)] at H
                  exact W_skip (s118 _ _ _ (Sub.cons rfl (Sub.cons rfl (Sub.cons rfl (Sub.cons rfl (Sub.cons rfl (Sub.cons rfl Sub.nil)))))) (j119 (IntKind.i64.wrap (l108_5 + 1)) _ H hs))
              refine W_region ?_
              refine O_y rfl (Y_move rfl) ?_
              refine O_y rfl (Y_move rfl) ?_
              refine O_y rfl (Y_neq rfl rfl) ?_
              refine O_y rfl (Y_move rfl) ?_
              refine O_if (dj := 58) rfl (fun c153 => ?_) (fun c153 => ?_)
              · rw [if_pos c153] at H
                refine O_no rfl rfl rfl rfl ?_
                refine O_no rfl rfl rfl rfl ?_
                refine O_no rfl rfl rfl rfl ?_
                refine O_y rfl (Y_pick_t rfl rfl) ?_
                refine O_y rfl (Y_move rfl) ?_
                refine O_no rfl rfl rfl rfl ?_
                refine O_no rfl rfl rfl rfl ?_
                refine O_no rfl rfl rfl rfl ?_
                refine O_y rfl (Y_pick_t rfl rfl) ?_
                refine O_y rfl (Y_move rfl) ?_
                refine O_no rfl rfl rfl rfl ?_
                refine O_no rfl rfl rfl rfl ?_
                refine O_y rfl (Y_pick_t rfl rfl) ?_
                exact O_nil (s148 _ _ _ (Sub.cons rfl (Sub.cons rfl (Sub.cons rfl (Sub.cons rfl (Sub.cons rfl (Sub.cons rfl (Sub.cons rfl Sub.nil))))))) (j149 true _ H hs))
              · rw [if_neg c153] at H
                refine O_yes rfl rfl ?_
                refine O_y rfl (Y_move rfl) ?_
                refine O_yes rfl rfl ?_
                refine O_y rfl (Y_move rfl) ?_
                refine O_yes rfl rfl ?_
                refine O_y rfl (Y_neq rfl rfl) ?_
                refine O_y rfl (Y_pick_f rfl rfl) ?_
                refine O_y rfl (Y_move rfl) ?_
                refine O_if (dj := 63) rfl (fun c154 => ?_) (fun c154 => ?_)
                · rw [if_pos c154] at H
                  refine O_no rfl rfl rfl rfl ?_
                  refine O_no rfl rfl rfl rfl ?_
                  refine O_no rfl rfl rfl rfl ?_
                  refine O_y rfl (Y_pick_t rfl rfl) ?_
                  refine O_y rfl (Y_move rfl) ?_
                  refine O_no rfl rfl rfl rfl ?_
                  refine O_no rfl rfl rfl rfl ?_
                  refine O_y rfl (Y_pick_t rfl rfl) ?_
                  exact O_nil (s148 _ _ _ (Sub.cons rfl (Sub.cons rfl (Sub.cons rfl (Sub.cons rfl (Sub.cons rfl (Sub.cons rfl (Sub.cons rfl Sub.nil))))))) (j149 true _ H hs))
                · rw [if_neg c154] at H
                  refine O_yes rfl rfl ?_
                  refine O_y rfl (Y_move rfl) ?_
                  refine O_yes rfl rfl ?_
                  refine O_y rfl (Y_move rfl) ?_
                  refine O_yes rfl rfl ?_
                  refine O_y rfl (Y_neq rfl rfl) ?_
                  refine O_y rfl (Y_pick_f rfl rfl) ?_
                  refine O_y rfl (Y_move rfl) ?_
                  refine O_if (dj := 68) rfl (fun c155 => ?_) (fun c155 => ?_)
                  · rw [if_pos c155] at H
                    refine O_no rfl rfl rfl rfl ?_
                    refine O_no rfl rfl rfl rfl ?_
                    refine O_y rfl (Y_pick_t rfl rfl) ?_
                    exact O_nil (s148 _ _ _ (Sub.cons rfl (Sub.cons rfl (Sub.cons rfl (Sub.cons rfl (Sub.cons rfl (Sub.cons rfl (Sub.cons rfl Sub.nil))))))) (j149 true _ H hs))
                  · rw [if_neg c155] at H
                    refine O_yes rfl rfl ?_
                    refine O_y rfl (Y_move rfl) ?_
                    refine O_yes rfl rfl ?_
                    refine O_y rfl (Y_not rfl) ?_
                    refine O_y rfl (Y_pick_f rfl rfl) ?_
                    exact O_nil (s148 _ _ _ (Sub.cons rfl (Sub.cons rfl (Sub.cons rfl (Sub.cons rfl (Sub.cons rfl (Sub.cons rfl (Sub.cons rfl Sub.nil))))))) (j149 (!r143.2.2.2) _ H hs))
          refine W_seq fun N156 n157 => ?_
          refine W_region ?_
          refine O_y rfl (Y_move rfl) ?_
          refine O_y rfl (Y_eql rfl rfl) ?_
          refine O_nil (n157 _ _ ?_)
          refine W_if rfl (fun c158 => ?_) (fun c158 => ?_)
          · rw [if_pos c158] at H
            refine W_region ?_
            refine O_y rfl (Y_assign rfl) ?_
            exact O_nil (s127 _ _ _ (Sub.cons rfl (Sub.cons rfl (Sub.cons rfl (Sub.cons rfl (Sub.cons rfl (Sub.cons rfl (Sub.cons rfl Sub.nil))))))) (j128 0 _ H hs))
          · rw [if_neg c158] at H
            exact W_skip (s127 _ _ _ (Sub.cons rfl (Sub.cons rfl (Sub.cons rfl (Sub.cons rfl (Sub.cons rfl (Sub.cons rfl (Sub.cons rfl Sub.nil))))))) (j128 l108_8 _ H hs))
        · rw [if_neg c115] at H
          refine W_exit (x106 _ _ (n99 _ _ ?_))
          refine W_region ?_
          refine O_y rfl (Y_move rfl) ?_
          refine O_y rfl (Y_add rfl rfl) ?_
          refine O_y rfl (Y_assign rfl) ?_
          exact O_nil (back92 (kl90, l108_5, (IntKind.i32.wrap (l90_7 + 1))) _ _ (Sub.cons rfl (Sub.cons rfl (Sub.cons rfl (Sub.cons rfl (Sub.cons rfl Sub.nil))))) (And.intro H hs) (Nat.lt_succ_self _))
      · rw [if_neg c97] at H
        refine W_exit (x88 _ _ (n81 _ _ ?_))
        refine W_region ?_
        refine O_y rfl (Y_move rfl) ?_
        refine O_y rfl (Y_add rfl rfl) ?_
        refine O_y rfl (Y_assign rfl) ?_
        exact O_nil (back74 (kl72, l90_5, (IntKind.i32.wrap (l72_6 + 1))) _ _ (Sub.cons rfl (Sub.cons rfl (Sub.cons rfl (Sub.cons rfl Sub.nil)))) (And.intro H hs) (Nat.lt_succ_self _))
    · rw [if_neg c79] at H
      refine W_exit (x70 _ _ (n66 _ _ ?_))
      refine W_seq fun N159 n160 => ?_
      refine W_seqj fun N161 n162 s163 => ?_
      have j164 : ∀ (j164_77 : Bool) (w : World), law12_CanonSyllables.j164 l72_5 j164_77 = some r → St w0 ρ (Γ) w → N161 [(5, .int .i64 l72_5), (77, .bool j164_77)] w := by
        intro j164_77 w H hs
        rw [law12_CanonSyllables.j164] at H
        refine n162 _ _ ?_
        refine W_cond rfl (fun c165 => ?_) (fun c165 => ?_)
        · rw [if_pos c165] at H
          refine W_seq fun N166 n167 => ?_
          refine W_region ?_
          refine O_y rfl (Y_move rfl) ?_
          refine O_y rfl (Y_lss rfl rfl) ?_
          refine O_y rfl (Y_assign rfl) ?_
          refine O_nil (n167 _ _ ?_)
          refine W_ret ?_
          obtain rfl := Option.some.inj H
          exact ret1 rfl rfl ⟨rfl, hs⟩
        · rw [if_neg (by rw [c165]; exact Bool.false_ne_true)] at H
          refine W_skip (n160 _ _ ?_)
          refine W_seq fun N168 n169 => ?_
          refine W_region ?_
          refine O_y rfl (Y_move rfl) ?_
          refine O_y rfl (Y_eql rfl rfl) ?_
          refine O_y rfl (Y_assign rfl) ?_
          refine O_nil (n169 _ _ ?_)
          refine W_ret ?_
          obtain rfl := Option.some.inj H
          exact ret1 rfl rfl ⟨rfl, hs⟩
      refine W_region ?_
      refine O_y rfl (Y_move rfl) ?_
      refine O_y rfl (Y_gtr rfl rfl) ?_
      refine O_y rfl (Y_move rfl) ?_
      refine O_if (dj := 74) rfl (fun c170 => ?_) (fun c170 => ?_)
      · rw [if_pos c170] at H
        refine O_no rfl rfl rfl rfl ?_
        refine O_no rfl rfl rfl rfl ?_
        refine O_y rfl (Y_pick_t rfl rfl) ?_
        exact O_nil (s163 _ _ _ (Sub.cons rfl (Sub.cons rfl Sub.nil)) (j164 true _ H hs))
      · rw [if_neg c170] at H
        refine O_yes rfl rfl ?_
        refine O_y rfl (Y_move rfl) ?_
        refine O_yes rfl rfl ?_
        refine O_y rfl (Y_lss rfl rfl) ?_
        refine O_y rfl (Y_pick_f rfl rfl) ?_
        exact O_nil (s163 _ _ _ (Sub.cons rfl (Sub.cons rfl Sub.nil)) (j164 (decide (x1 < 4371)) _ H hs))

end Go.Proofs.Ytdpfabdpojbmaaa
