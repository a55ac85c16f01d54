/- Written by this repo's gen.py: for each Go function a Lean function with the same answers and the walk that shows it. -/
import Derived.Test.YtdpfabdpojbmaaaData
import Derived.Test.YtdpfabdpojbmaaaFacts
namespace Go.Proofs.Ytdpfabdpojbmaaa
open Go.RowKit
set_option linter.unusedVariables false
/-! ### postern/posternref10.Runes: function 10 -/
def ref10_Runes.l67 : Nat → List Int → List Int → Int → Option Bool
  | 0, _, _, _ => none
  | kl67 + 1, x0, x1, l67_13 => if l67_13 < (x0.length : Int) then (if (0 : Int) ≤ l67_13 ∧ l67_13 < (x0.length : Int) then (if (0 : Int) ≤ l67_13 ∧ l67_13 < (x1.length : Int) then (if (rd x0 l67_13) ≠ (rd x1 l67_13) then (some false) else ((ref10_Runes.l67 kl67 x0 x1) (IntKind.i64.wrap (l67_13 + 1)))) else none) else none) else (some true)
def ref10_Runes.f (x0 : List Int) (x1 : List Int) : Option Bool := if (x0.length : Int) ≠ (x1.length : Int) then (some false) else (ref10_Runes.l67 K0 x0 x1 0)
set_option maxRecDepth 100000 in
set_option maxHeartbeats 4000000 in
theorem ref10_Runes.c {w0 w : World} {ρ : Hp} {Γ : List Item} (hs : St w0 ρ Γ w) {v0 : Value} {x0 : List Int} (h0 : SlR (Rep.int .i32) ρ v0 x0) {v1 : Value} {x1 : List Int} (h1 : SlR (Rep.int .i32) ρ v1 x1) {r : Bool} (H : ref10_Runes.f x0 x1 = some r) : CallsR Try.prog 10 [v0, v1] w (fun v w' => v = .bool r ∧ St w0 ρ Γ w') := by
  rw [ref10_Runes.f] at H
  refine enter Try.func10 Try.ntmps10 rfl (by kernel_rfl) rfl ?_
  refine W_seq fun N51 n52 => ?_
  refine W_region ?_
  refine O_y rfl (Y_assign rfl) ?_
  refine O_nil (n52 _ _ ?_)
  refine W_seq fun N53 n54 => ?_
  refine W_seq fun N55 n56 => ?_
  refine W_region ?_
  refine O_y rfl (Y_move rfl) ?_
  refine O_y rfl (Y_lenR un32 h0 rfl) ?_
  refine O_y rfl (Y_move rfl) ?_
  refine O_y rfl (Y_lenR un32 h1 rfl) ?_
  refine O_y rfl (Y_neq rfl rfl) ?_
  refine O_nil (n56 _ _ ?_)
  refine W_if rfl (fun c57 => ?_) (fun c57 => ?_)
  · rw [if_pos c57] at H
    refine W_seq fun N58 n59 => ?_
    refine W_region ?_
    refine O_y rfl (Y_assign rfl) ?_
    refine O_nil (n59 _ _ ?_)
    refine W_ret ?_
    obtain rfl := Option.some.inj H
    exact ret1 rfl rfl ⟨rfl, hs⟩
  · rw [if_neg c57] at H
    refine W_skip (n54 _ _ ?_)
    refine W_seq fun N60 n61 => ?_
    refine W_seq fun N62 n63 => ?_
    refine W_region ?_
    refine O_y rfl (Y_move rfl) ?_
    refine O_y rfl (Y_lenR un32 h0 rfl) ?_
    refine O_y rfl (Y_move rfl) ?_
    refine O_nil (n63 _ _ ?_)
    refine W_block fun X64 x65 y66 => ?_
    refine W_loop (σ := Nat × Int) (fun (kl67, l67_13) => [(0, v0), (1, v1), (12, .int .i64 (x0.length : Int)), (13, .int .i64 l67_13)]) (fun (kl67, l67_13) w => ref10_Runes.l67 kl67 x0 x1 l67_13 = some r ∧ St w0 ρ (Γ) w) (fun s => s.1) (K0, 0) (Sub.cons rfl (Sub.cons rfl (Sub.cons rfl (Sub.cons rfl Sub.nil)))) (And.intro H hs) ?_
    rintro ⟨kl67, l67_13⟩ w N68 ⟨H, hs⟩ back69
    show W _ _ _ _ _ _ [(0, v0), (1, v1), (12, .int .i64 (x0.length : Int)), (13, .int .i64 l67_13)] w
    cases kl67 with
    | zero => rw [ref10_Runes.l67] at H; cases H
    | succ kl67 =>
    rw [ref10_Runes.l67] at H
    refine W_seq fun N70 n71 => ?_
    refine W_region ?_
    refine O_y rfl (Y_lss rfl rfl) ?_
    refine O_nil (n71 _ _ ?_)
    refine W_seq fun N72 n73 => ?_
    refine W_if rfl (fun c74 => ?_) (fun c74 => ?_)
    · rw [if_pos c74] at H
      refine W_skip (n73 _ _ ?_)
      refine W_seq fun N75 n76 => ?_
      refine W_block fun X77 x78 y79 => ?_
      refine W_seq fun N80 n81 => ?_
      refine W_region ?_
      refine O_y rfl (Y_move rfl) ?_
      refine O_y rfl (Y_assign rfl) ?_
      refine O_nil (n81 _ _ ?_)
      refine W_seq fun N82 n83 => ?_
      refine W_draw [] (fun w => St w0 ρ (Γ) w) mixed ?_
      have hs := hs.drew
      refine OD_y (i := 0) rfl rfl (by kernel_rfl) hs (fun w hs => Y_move rfl) ?_
      refine OD_y (i := 1) rfl rfl (by kernel_rfl) hs (fun w hs => Y_move rfl) ?_
      by_cases c84 : (0 : Int) ≤ l67_13 ∧ l67_13 < (x0.length : Int)
      case neg => rw [if_neg c84] at H; cases H
      rw [if_pos c84] at H
      obtain ⟨b85, o86, a87, y88⟩ := h0.ix el32 c84.1 c84.2
      refine OD_y (i := 2) rfl rfl (by kernel_rfl) hs (fun w hs => y88 rfl rfl) ?_
      refine OD_y (i := 3) rfl rfl (by kernel_rfl) hs (fun w hs => Y_load ag21 rfl (hs.sees _ _ a87.int)) ?_
      refine OD_y (i := 4) rfl rfl (by kernel_rfl) hs (fun w hs => Y_move rfl) ?_
      refine OD_y (i := 5) rfl rfl (by kernel_rfl) hs (fun w hs => Y_move rfl) ?_
      by_cases c89 : (0 : Int) ≤ l67_13 ∧ l67_13 < (x1.length : Int)
      case neg => rw [if_neg c89] at H; cases H
      rw [if_pos c89] at H
      obtain ⟨b90, o91, a92, y93⟩ := h1.ix el32 c89.1 c89.2
      refine OD_y (i := 6) rfl rfl (by kernel_rfl) hs (fun w hs => y93 rfl rfl) ?_
      refine OD_y (i := 7) rfl rfl (by kernel_rfl) hs (fun w hs => Y_load ag21 rfl (hs.sees _ _ a92.int)) ?_
      refine OD_y (i := 8) rfl rfl (by kernel_rfl) hs (fun w hs => Y_neq rfl rfl) ?_
      refine OD_done (by kernel_rfl) (n83 _ _ ?_)
      refine W.weak [(0, _), (1, _), (12, _), (13, _), (24, _)] (Sub.cons rfl (Sub.cons rfl (Sub.cons rfl (Sub.cons rfl (Sub.cons rfl Sub.nil))))) ?_
      refine W_if rfl (fun c94 => ?_) (fun c94 => ?_)
      · rw [if_pos c94] at H
        refine W_seq fun N95 n96 => ?_
        refine W_region ?_
        refine O_y rfl (Y_assign rfl) ?_
        refine O_nil (n96 _ _ ?_)
        refine W_ret ?_
        obtain rfl := Option.some.inj H
        exact ret1 rfl rfl ⟨rfl, hs⟩
      · rw [if_neg c94] at H
        refine W_skip (n76 _ _ ?_)
        refine W_region ?_
        refine O_y rfl (Y_add rfl rfl) ?_
        refine O_y rfl (Y_move rfl) ?_
        exact O_nil (back69 (kl67, (IntKind.i64.wrap (l67_13 + 1))) _ _ (Sub.cons rfl (Sub.cons rfl (Sub.cons rfl (Sub.cons rfl Sub.nil)))) (And.intro H hs) (Nat.lt_succ_self _))
    · rw [if_neg c74] at H
      refine W_exit (x65 _ _ (n61 _ _ ?_))
      refine W_seq fun N97 n98 => ?_
      refine W_region ?_
      refine O_y rfl (Y_assign rfl) ?_
      refine O_nil (n98 _ _ ?_)
      refine W_ret ?_
      obtain rfl := Option.some.inj H
      exact ret1 rfl rfl ⟨rfl, hs⟩

/-! ### slices.Clone[[]rune,rune]: function 15 -/
def slices_Clone_rune_rune.f (x0 : List Int) : Option (List Int) := if ([] : List Int).length + x0.length ≤ most then (some (([] : List Int) ++ x0)) else none
theorem slices_Clone_rune_rune.c {w0 w : World} {ρ : Hp} {Γ : List Item} (hs : St w0 ρ Γ w) {v0 : Value} {x0 : List Int} (h0 : SlR (Rep.int .i32) ρ v0 x0) {r : List Int} (H : slices_Clone_rune_rune.f x0 = some r) : CallsR Try.prog 15 [v0] w (fun v w' => ∃ (ρ' : Hp) (v0 : Value) (cs0 : List Value), v = v0 ∧ Le ρ ρ' ∧ St w0 ρ' (.row v0 21 (Rep.int .i32).sz r.length cs0 :: Γ) w' ∧ RowR (Rep.int .i32) ρ' cs0 r) := by
  rw [slices_Clone_rune_rune.f] at H
  refine enter Try.func15 Try.ntmps15 rfl (by kernel_rfl) rfl ?_
  refine W_seq fun N51 n52 => ?_
  refine W_region ?_
  refine O_y rfl (Y_assign rfl) ?_
  refine O_nil (n52 _ _ ?_)
  refine W_seq fun N53 n54 => ?_
  refine W_seq fun N55 n56 => ?_
  refine W_region ?_
  refine O_y rfl (Y_move rfl) ?_
  obtain ⟨ad, c, rfl⟩ := h0.shape
  cases ad with
  | none =>
    obtain rfl : x0 = [] := h0.nilEmpty
    refine O_y rfl (Y_eqlsl un32 rfl rfl) ?_
    refine O_nil (n56 _ _ ?_)
    refine W_true rfl ?_
    refine W_seq fun N57 n58 => ?_
    refine W_region ?_
    refine O_y rfl (Y_assign rfl) ?_
    refine O_nil (n58 _ _ ?_)
    refine W_ret ?_
    rw [if_pos (by decide)] at H
    obtain rfl := Option.some.inj H
    have hs := hs.rowNil 21 (Rep.int .i32).sz
    exact ret1 rfl rfl ⟨_, _, _, rfl, Le.rfl' _, hs, RowR.nil _ _⟩
  | some ad =>
    refine O_y rfl (Y_eqlsl un32 rfl rfl) ?_
    refine O_nil (n56 _ _ ?_)
    refine W_false rfl ?_
    refine W_skip (n54 _ _ ?_)
    refine W_seq fun N57 n58 => ?_
    refine W_region ?_
    refine O_lit (xs := []) el32 hs rfl rfl rfl (by decide) (by decide) rfl sz_nil (fun b59 w hs => ?_)
    have f60 : RowR (Rep.int .i32) ρ [] ([] : List Int) := RowR.nil _ _
    refine O_y rfl (Y_move rfl) ?_
    obtain ⟨cs62, sr63, rw64⟩ := Src.sl hs h0
    by_cases c65 : ([] : List Int).length + x0.length ≤ most
    case neg => rw [if_neg c65] at H; cases H
    rw [if_pos c65] at H
    refine O_appendR (i := 0) el32 hs rfl f60 rfl rfl rfl sr63 rw64 c65 (fun v66 cs67 w f68 hs => ?_)
    refine O_y rfl (Y_assign rfl) ?_
    refine O_nil (n58 _ _ ?_)
    refine W_ret ?_
    obtain rfl := Option.some.inj H
    exact ret1 rfl rfl ⟨_, _, _, rfl, Le.rfl' _, hs, f68⟩

/-! ### (*postern/book.Tables).Class: function 16 -/
def book_Tables_Class.f (x1 : Int) : Option Int := some 0
set_option maxRecDepth 100000 in
set_option maxHeartbeats 4000000 in
theorem book_Tables_Class.c {w0 w : World} {ρ : Hp} {Γ : List Item} (hs : St w0 ρ Γ w) {x1 : Int} {r : Int} (H : book_Tables_Class.f x1 = some r) : CallsR Try.prog 16 [.pointer none, .int .i32 x1] w (fun v w' => v = .int .i64 r ∧ St w0 ρ Γ w') := by
  rw [book_Tables_Class.f] at H
  refine enter Try.func16 Try.ntmps16 rfl (by kernel_rfl) rfl ?_
  refine W_seq fun N51 n52 => ?_
  refine W_region ?_
  refine O_y rfl (Y_assign rfl) ?_
  refine O_nil (n52 _ _ ?_)
  refine W_seq fun N53 n54 => ?_
  refine W_seq fun N55 n56 => ?_
  refine W_region ?_
  refine O_y rfl (Y_move rfl) ?_
  refine O_y rfl (Y_eqlp un36 rfl rfl) ?_
  refine O_nil (n56 _ _ ?_)
  refine W_true rfl ?_
  refine W_seq fun N57 n58 => ?_
  refine W_region ?_
  refine O_y rfl (Y_assign rfl) ?_
  refine O_nil (n58 _ _ ?_)
  refine W_ret ?_
  obtain rfl := Option.some.inj H
  exact ret1 rfl rfl ⟨rfl, hs⟩

/-! ### slices.insertionSortCmpFunc[rune]: function 25 -/
def slices_insertionSortCmpFunc_rune.l74 (go_l56 : Int → Option Unit) : Nat → List Int → Int → Int → Option Unit
  | 0, _, _, _ => none
  | kl74 + 1, x0, x1, l56_8 => if x1 < l56_8 then (if (0 : Int) ≤ l56_8 ∧ l56_8 < (x0.length : Int) then (if (0 : Int) ≤ IntKind.i64.wrap (l56_8 - 1) ∧ IntKind.i64.wrap (l56_8 - 1) < (x0.length : Int) then none else none) else none) else (go_l56 (IntKind.i64.wrap (l56_8 + 1)))
def slices_insertionSortCmpFunc_rune.l56 : Nat → List Int → Int → Int → Int → Option Unit
  | 0, _, _, _, _ => none
  | kl56 + 1, x0, x1, x2, l56_8 => if l56_8 < x2 then (slices_insertionSortCmpFunc_rune.l74 (slices_insertionSortCmpFunc_rune.l56 kl56 x0 x1 x2) K0 x0 x1 l56_8 ) else (some ())
def slices_insertionSortCmpFunc_rune.f (x0 : List Int) (x1 : Int) (x2 : Int) : Option Unit := slices_insertionSortCmpFunc_rune.l56 K0 x0 x1 x2 (IntKind.i64.wrap (x1 + 1))
set_option maxRecDepth 100000 in
set_option maxHeartbeats 4000000 in
theorem slices_insertionSortCmpFunc_rune.c {w0 w : World} {ρ : Hp} {Γ : List Item} (hs : St w0 ρ Γ w) {v0 : Value} {x0 : List Int} (h0 : SlR (Rep.int .i32) ρ v0 x0) {x1 : Int} {x2 : Int} {v3 : Value} {r : Unit} (H : slices_insertionSortCmpFunc_rune.f x0 x1 x2 = some r) : CallsR Try.prog 25 [v0, .int .i64 x1, .int .i64 x2, v3] w (fun v w' => v = .tuple #[] ∧ St w0 ρ Γ w') := by
  rw [slices_insertionSortCmpFunc_rune.f] at H
  refine enter Try.func25 Try.ntmps25 rfl (by kernel_rfl) rfl ?_
  refine W_seq fun N51 n52 => ?_
  refine W_region ?_
  refine O_y rfl (Y_move rfl) ?_
  refine O_y rfl (Y_add rfl rfl) ?_
  refine O_y rfl (Y_assign rfl) ?_
  refine O_nil (n52 _ _ ?_)
  refine W_block fun X53 x54 y55 => ?_
  refine W_loop (σ := Nat × Int) (fun (kl56, l56_8) => [(0, v0), (1, .int .i64 x1), (2, .int .i64 x2), (3, v3), (8, .int .i64 l56_8)]) (fun (kl56, l56_8) w => slices_insertionSortCmpFunc_rune.l56 kl56 x0 x1 x2 l56_8 = some r ∧ St w0 ρ (Γ) w) (fun s => s.1) (K0, (IntKind.i64.wrap (x1 + 1))) (Sub.cons rfl (Sub.cons rfl (Sub.cons rfl (Sub.cons rfl (Sub.cons rfl Sub.nil))))) (And.intro H hs) ?_
  rintro ⟨kl56, l56_8⟩ w N57 ⟨H, hs⟩ back58
  show W _ _ _ _ _ _ [(0, v0), (1, .int .i64 x1), (2, .int .i64 x2), (3, v3), (8, .int .i64 l56_8)] w
  cases kl56 with
  | zero => rw [slices_insertionSortCmpFunc_rune.l56] at H; cases H
  | succ kl56 =>
  rw [slices_insertionSortCmpFunc_rune.l56] at H
  refine W_seq fun N59 n60 => ?_
  refine W_seq fun N61 n62 => ?_
  refine W_region ?_
  refine O_y rfl (Y_move rfl) ?_
  refine O_y rfl (Y_move rfl) ?_
  refine O_y rfl (Y_lss rfl rfl) ?_
  refine O_nil (n62 _ _ ?_)
  refine W_if rfl (fun c63 => ?_) (fun c63 => ?_)
  · rw [if_pos c63] at H
    refine W_skip (n60 _ _ ?_)
    refine W_seq fun N64 n65 => ?_
    refine W_block fun X66 x67 y68 => ?_
    refine W_seq fun N69 n70 => ?_
    refine W_region ?_
    refine O_y rfl (Y_move rfl) ?_
    refine O_y rfl (Y_assign rfl) ?_
    refine O_nil (n70 _ _ ?_)
    refine W_block fun X71 x72 y73 => ?_
    refine W_loop (σ := Nat) (fun kl74 => [(0, v0), (1, .int .i64 x1), (2, .int .i64 x2), (3, v3), (8, .int .i64 l56_8), (9, .int .i64 l56_8)]) (fun kl74 w => slices_insertionSortCmpFunc_rune.l74 (slices_insertionSortCmpFunc_rune.l56 kl56 x0 x1 x2) kl74 x0 x1 l56_8 = some r ∧ St w0 ρ (Γ) w) (fun s => s) (K0) (Sub.cons rfl (Sub.cons rfl (Sub.cons rfl (Sub.cons rfl (Sub.cons rfl (Sub.cons rfl Sub.nil)))))) (And.intro H hs) ?_
    rintro kl74 w N75 ⟨H, hs⟩ back76
    show W _ _ _ _ _ _ [(0, v0), (1, .int .i64 x1), (2, .int .i64 x2), (3, v3), (8, .int .i64 l56_8), (9, .int .i64 l56_8)] w
    cases kl74 with
    | zero => rw [slices_insertionSortCmpFunc_rune.l74] at H; cases H
    | succ kl74 =>
    rw [slices_insertionSortCmpFunc_rune.l74] at H
    refine W_seq fun N77 n78 => ?_
    refine W_seq fun N79 n80 => ?_
    refine W_draw [] (fun w => St w0 ρ (Γ) w) mixed ?_
    have hs := hs.drew
    refine OD_y (i := 0) rfl rfl (by kernel_rfl) hs (fun w hs => Y_move rfl) ?_
    refine OD_y (i := 1) rfl rfl (by kernel_rfl) hs (fun w hs => Y_move rfl) ?_
    refine OD_y (i := 2) rfl rfl (by kernel_rfl) hs (fun w hs => Y_gtr rfl rfl) ?_
    refine OD_y (i := 3) rfl rfl (by kernel_rfl) hs (fun w hs => Y_move rfl) ?_
    refine OD_if (dj := 21) rfl (fun c82 => ?_) (fun c82 => ?_)
    · rw [if_pos c82] at H
      refine OD_yes (i := 4) rfl rfl rfl rfl (by kernel_rfl) hs (fun w hs => Y_move rfl) ?_
      refine OD_yes (i := 5) rfl rfl rfl rfl (by kernel_rfl) hs (fun w hs => Y_move rfl) ?_
      refine OD_yes (i := 6) rfl rfl rfl rfl (by kernel_rfl) hs (fun w hs => Y_move rfl) ?_
      by_cases c83 : (0 : Int) ≤ l56_8 ∧ l56_8 < (x0.length : Int)
      case neg => rw [if_neg c83] at H; cases H
      rw [if_pos c83] at H
      obtain ⟨b84, o85, a86, y87⟩ := h0.ix el32 c83.1 c83.2
      refine OD_yes (i := 7) rfl rfl rfl rfl (by kernel_rfl) hs (fun w hs => y87 rfl rfl) ?_
      refine OD_yes (i := 8) rfl rfl rfl rfl (by kernel_rfl) hs (fun w hs => Y_load ag21 rfl (hs.sees _ _ a86.int)) ?_
      refine OD_yes (i := 9) rfl rfl rfl rfl (by kernel_rfl) hs (fun w hs => Y_move rfl) ?_
      refine OD_yes (i := 10) rfl rfl rfl rfl (by kernel_rfl) hs (fun w hs => Y_move rfl) ?_
      refine OD_yes (i := 11) rfl rfl rfl rfl (by kernel_rfl) hs (fun w hs => Y_sub rfl rfl) ?_
      by_cases c88 : (0 : Int) ≤ IntKind.i64.wrap (l56_8 - 1) ∧ IntKind.i64.wrap (l56_8 - 1) < (x0.length : Int)
      case neg => rw [if_neg c88] at H; cases H
      rw [if_pos c88] at H
      obtain ⟨b89, o90, a91, y92⟩ := h0.ix el32 c88.1 c88.2
      refine OD_yes (i := 12) rfl rfl rfl rfl (by kernel_rfl) hs (fun w hs => y92 rfl rfl) ?_
      refine OD_yes (i := 13) rfl rfl rfl rfl (by kernel_rfl) hs (fun w hs => Y_load ag21 rfl (hs.sees _ _ a91.int)) ?_
      cases H
    · rw [if_neg c82] at H
      refine OD_no (i := 4) rfl rfl rfl rfl rfl (by kernel_rfl) hs ?_
      refine OD_no (i := 5) rfl rfl rfl rfl rfl (by kernel_rfl) hs ?_
      refine OD_no (i := 6) rfl rfl rfl rfl rfl (by kernel_rfl) hs ?_
      refine OD_no (i := 7) rfl rfl rfl rfl rfl (by kernel_rfl) hs ?_
      refine OD_no (i := 8) rfl rfl rfl rfl rfl (by kernel_rfl) hs ?_
      refine OD_no (i := 9) rfl rfl rfl rfl rfl (by kernel_rfl) hs ?_
      refine OD_no (i := 10) rfl rfl rfl rfl rfl (by kernel_rfl) hs ?_
      refine OD_no (i := 11) rfl rfl rfl rfl rfl (by kernel_rfl) hs ?_
      refine OD_no (i := 12) rfl rfl rfl rfl rfl (by kernel_rfl) hs ?_
      refine OD_no (i := 13) rfl rfl rfl rfl rfl (by kernel_rfl) hs ?_
      refine OD_no (i := 14) rfl rfl rfl rfl rfl (by kernel_rfl) hs ?_
      refine OD_no (i := 15) rfl rfl rfl rfl rfl (by kernel_rfl) hs ?_
      refine OD_y (i := 16) rfl rfl (by kernel_rfl) hs (fun w hs => Y_pick_f rfl rfl) ?_
      refine OD_done (by kernel_rfl) (n80 _ _ ?_)
      refine W.weak [(0, _), (1, _), (2, _), (3, _), (8, _), (9, _), (22, _), (23, _), (24, _), (25, _), (26, _), (27, _), (28, _), (29, _), (30, _), (31, _), (32, _), (33, _), (34, _)] (Sub.cons rfl (Sub.cons rfl (Sub.cons rfl (Sub.cons rfl (Sub.cons rfl (Sub.cons rfl (Sub.cons rfl (Sub.cons rfl (Sub.cons rfl (Sub.cons rfl (Sub.cons rfl (Sub.cons rfl (Sub.cons rfl (Sub.cons rfl (Sub.cons rfl (Sub.cons rfl (Sub.cons rfl (Sub.cons rfl (Sub.cons rfl Sub.nil))))))))))))))))))) ?_
      refine W_false rfl ?_
      refine W_exit (x72 _ _ (n65 _ _ ?_))
      refine W.weak [(0, _), (1, _), (2, _), (3, _), (8, _), (22, _), (23, _), (24, _), (25, _), (26, _), (27, _), (28, _), (29, _), (30, _), (31, _), (32, _), (33, _)] (Sub.cons rfl (Sub.cons rfl (Sub.cons rfl (Sub.cons rfl (Sub.cons rfl (Sub.cons rfl (Sub.cons rfl (Sub.cons rfl (Sub.cons rfl (Sub.cons rfl (Sub.cons rfl (Sub.cons rfl (Sub.cons rfl (Sub.cons rfl (Sub.cons rfl (Sub.cons rfl (Sub.cons rfl Sub.nil))))))))))))))))) ?_
      refine W_region ?_
      refine O_y rfl (Y_move rfl) ?_
      refine O_y rfl (Y_add rfl rfl) ?_
      refine O_y rfl (Y_assign rfl) ?_
      exact O_nil (back58 (kl56, (IntKind.i64.wrap (l56_8 + 1))) _ _ (Sub.cons rfl (Sub.cons rfl (Sub.cons rfl (Sub.cons rfl (Sub.cons rfl Sub.nil))))) (And.intro H hs) (Nat.lt_succ_self _))
  · rw [if_neg c63] at H
    refine W_exit (x54 _ _ ?_)
    obtain rfl := Option.some.inj H
    exact ret0 rfl ⟨rfl, hs⟩

/-! ### slices.stableCmpFunc[rune]: function 22 -/
def slices_stableCmpFunc_rune.l104 (go_l86 : Int → Option Unit) : Nat → Int → Int → Option Unit
  | 0, _, _ => none
  | kl104 + 1, x1, l86_6 => if (IntKind.i64.wrap (2 * l86_6)) ≤ x1 then none else (if (IntKind.i64.wrap (0 + l86_6)) < x1 then none else (go_l86 (IntKind.i64.wrap (l86_6 * 2))))
def slices_stableCmpFunc_rune.l86 : Nat → Int → Int → Option Unit
  | 0, _, _ => none
  | kl86 + 1, x1, l86_6 => if l86_6 < x1 then (slices_stableCmpFunc_rune.l104 (slices_stableCmpFunc_rune.l86 kl86 x1) K0 x1 l86_6 ) else (some ())
def slices_stableCmpFunc_rune.l60 : Nat → List Int → Int → Int → Int → Option Unit
  | 0, _, _, _, _ => none
  | kl60 + 1, x0, x1, l60_7, l60_8 => if l60_8 ≤ x1 then ((slices_insertionSortCmpFunc_rune.f x0 l60_7 l60_8).bind fun r73 => ((slices_stableCmpFunc_rune.l60 kl60 x0 x1) l60_8 (IntKind.i64.wrap (l60_8 + 20)))) else ((slices_insertionSortCmpFunc_rune.f x0 l60_7 x1).bind fun r80 => (slices_stableCmpFunc_rune.l86 K0 x1 20))
def slices_stableCmpFunc_rune.f (x0 : List Int) (x1 : Int) : Option Unit := slices_stableCmpFunc_rune.l60 K0 x0 x1 0 20
set_option maxRecDepth 100000 in
set_option maxHeartbeats 4000000 in
theorem slices_stableCmpFunc_rune.c {w0 w : World} {ρ : Hp} {Γ : List Item} (hs : St w0 ρ Γ w) {v0 : Value} {x0 : List Int} (h0 : SlR (Rep.int .i32) ρ v0 x0) {x1 : Int} {v2 : Value} {r : Unit} (H : slices_stableCmpFunc_rune.f x0 x1 = some r) : CallsR Try.prog 22 [v0, .int .i64 x1, v2] w (fun v w' => v = .tuple #[] ∧ St w0 ρ Γ w') := by
  rw [slices_stableCmpFunc_rune.f] at H
  refine enter Try.func22 Try.ntmps22 rfl (by kernel_rfl) rfl ?_
  refine W_seq fun N51 n52 => ?_
  refine W_region ?_
  refine O_y rfl (Y_assign rfl) ?_
  refine O_nil (n52 _ _ ?_)
  refine W_seq fun N53 n54 => ?_
  refine W_region ?_
  refine O_y rfl (Y_move rfl) ?_
  refine O_y rfl (Y_assign rfl) ?_
  refine O_y rfl (Y_assign rfl) ?_
  refine O_nil (n54 _ _ ?_)
  refine W_seq fun N55 n56 => ?_
  refine W_block fun X57 x58 y59 => ?_
  refine W_loop (σ := Nat × Int × Int) (fun (kl60, l60_7, l60_8) => [(0, v0), (1, .int .i64 x1), (2, v2), (6, .int .i64 20), (7, .int .i64 l60_7), (8, .int .i64 l60_8)]) (fun (kl60, l60_7, l60_8) w => slices_stableCmpFunc_rune.l60 kl60 x0 x1 l60_7 l60_8 = some r ∧ St w0 ρ (Γ) w) (fun s => s.1) (K0, 0, 20) (Sub.cons rfl (Sub.cons rfl (Sub.cons rfl (Sub.cons rfl (Sub.cons rfl (Sub.cons rfl Sub.nil)))))) (And.intro H hs) ?_
  rintro ⟨kl60, l60_7, l60_8⟩ w N61 ⟨H, hs⟩ back62
  show W _ _ _ _ _ _ [(0, v0), (1, .int .i64 x1), (2, v2), (6, .int .i64 20), (7, .int .i64 l60_7), (8, .int .i64 l60_8)] w
  cases kl60 with
  | zero => rw [slices_stableCmpFunc_rune.l60] at H; cases H
  | succ kl60 =>
  rw [slices_stableCmpFunc_rune.l60] at H
  refine W_seq fun N63 n64 => ?_
  refine W_seq fun N65 n66 => ?_
  refine W_region ?_
  refine O_y rfl (Y_move rfl) ?_
  refine O_y rfl (Y_move rfl) ?_
  refine O_y rfl (Y_leq rfl rfl) ?_
  refine O_nil (n66 _ _ ?_)
  refine W_if rfl (fun c67 => ?_) (fun c67 => ?_)
  · rw [if_pos c67] at H
    refine W_skip (n64 _ _ ?_)
    refine W_block fun X68 x69 y70 => ?_
    refine W_seq fun N71 n72 => ?_
    refine W_region ?_
    refine O_y rfl (Y_move rfl) ?_
    refine O_y rfl (Y_move rfl) ?_
    refine O_y rfl (Y_move rfl) ?_
    refine O_y rfl (Y_move rfl) ?_
    obtain ⟨r73, hr74, H⟩ := bnd H
    refine O_call rfl rfl (slices_insertionSortCmpFunc_rune.c hs h0 hr74) (fun v75 w hpost => ?_)
    obtain ⟨rfl, hs⟩ := hpost
    refine O_nil (n72 _ _ ?_)
    refine W_seq fun N76 n77 => ?_
    refine W_region ?_
    refine O_y rfl (Y_move rfl) ?_
    refine O_y rfl (Y_assign rfl) ?_
    refine O_nil (n77 _ _ ?_)
    refine W.weak [(0, _), (1, _), (2, _), (6, _), (7, _), (8, _)] (Sub.cons rfl (Sub.cons rfl (Sub.cons rfl (Sub.cons rfl (Sub.cons rfl (Sub.cons rfl Sub.nil)))))) ?_
    refine W_region ?_
    refine O_y rfl (Y_move rfl) ?_
    refine O_y rfl (Y_move rfl) ?_
    refine O_y rfl (Y_add rfl rfl) ?_
    refine O_y rfl (Y_assign rfl) ?_
    exact O_nil (back62 (kl60, l60_8, (IntKind.i64.wrap (l60_8 + 20))) _ _ (Sub.cons rfl (Sub.cons rfl (Sub.cons rfl (Sub.cons rfl (Sub.cons rfl (Sub.cons rfl Sub.nil)))))) (And.intro H hs) (Nat.lt_succ_self _))
  · rw [if_neg c67] at H
    refine W_exit (x58 _ _ (n56 _ _ ?_))
    refine W_seq fun N78 n79 => ?_
    refine W_region ?_
    refine O_y rfl (Y_move rfl) ?_
    refine O_y rfl (Y_move rfl) ?_
    refine O_y rfl (Y_move rfl) ?_
    refine O_y rfl (Y_move rfl) ?_
    obtain ⟨r80, hr81, H⟩ := bnd H
    refine O_call rfl rfl (slices_insertionSortCmpFunc_rune.c hs h0 hr81) (fun v82 w hpost => ?_)
    obtain ⟨rfl, hs⟩ := hpost
    refine O_nil (n79 _ _ ?_)
    refine W_block fun X83 x84 y85 => ?_
    refine W_loop (σ := Nat × Int) (fun (kl86, l86_6) => [(0, v0), (1, .int .i64 x1), (2, v2), (6, .int .i64 l86_6)]) (fun (kl86, l86_6) w => slices_stableCmpFunc_rune.l86 kl86 x1 l86_6 = some r ∧ St w0 ρ (Γ) w) (fun s => s.1) (K0, 20) (Sub.cons rfl (Sub.cons rfl (Sub.cons rfl (Sub.cons rfl Sub.nil)))) (And.intro H hs) ?_
    rintro ⟨kl86, l86_6⟩ w N87 ⟨H, hs⟩ back88
    show W _ _ _ _ _ _ [(0, v0), (1, .int .i64 x1), (2, v2), (6, .int .i64 l86_6)] w
    cases kl86 with
    | zero => rw [slices_stableCmpFunc_rune.l86] at H; cases H
    | succ kl86 =>
    rw [slices_stableCmpFunc_rune.l86] at H
    refine W_seq fun N89 n90 => ?_
    refine W_seq fun N91 n92 => ?_
    refine W_region ?_
    refine O_y rfl (Y_move rfl) ?_
    refine O_y rfl (Y_move rfl) ?_
    refine O_y rfl (Y_lss rfl rfl) ?_
    refine O_nil (n92 _ _ ?_)
    refine W_if rfl (fun c93 => ?_) (fun c93 => ?_)
    · rw [if_pos c93] at H
      refine W_skip (n90 _ _ ?_)
      refine W_block fun X94 x95 y96 => ?_
      refine W_seq fun N97 n98 => ?_
      refine W_region ?_
      refine O_y rfl (Y_move rfl) ?_
      refine O_y rfl (Y_mul rfl rfl) ?_
      refine O_y rfl (Y_assign rfl) ?_
      refine O_y rfl (Y_assign rfl) ?_
      refine O_nil (n98 _ _ ?_)
      refine W_seq fun N99 n100 => ?_
      refine W_block fun X101 x102 y103 => ?_
      refine W_loop (σ := Nat) (fun kl104 => [(0, v0), (1, .int .i64 x1), (2, v2), (6, .int .i64 l86_6), (7, .int .i64 0), (8, .int .i64 (IntKind.i64.wrap (2 * l86_6)))]) (fun kl104 w => slices_stableCmpFunc_rune.l104 (slices_stableCmpFunc_rune.l86 kl86 x1) kl104 x1 l86_6 = some r ∧ St w0 ρ (Γ) w) (fun s => s) (K0) (Sub.cons rfl (Sub.cons rfl (Sub.cons rfl (Sub.cons rfl (Sub.cons rfl (Sub.cons rfl Sub.nil)))))) (And.intro H hs) ?_
      rintro kl104 w N105 ⟨H, hs⟩ back106
      show W _ _ _ _ _ _ [(0, v0), (1, .int .i64 x1), (2, v2), (6, .int .i64 l86_6), (7, .int .i64 0), (8, .int .i64 (IntKind.i64.wrap (2 * l86_6)))] w
      cases kl104 with
      | zero => rw [slices_stableCmpFunc_rune.l104] at H; cases H
      | succ kl104 =>
      rw [slices_stableCmpFunc_rune.l104] at H
      refine W_seq fun N107 n108 => ?_
      refine W_seq fun N109 n110 => ?_
      refine W_region ?_
      refine O_y rfl (Y_move rfl) ?_
      refine O_y rfl (Y_move rfl) ?_
      refine O_y rfl (Y_leq rfl rfl) ?_
      refine O_nil (n110 _ _ ?_)
      refine W_if rfl (fun c111 => ?_) (fun c111 => ?_)
      · rw [if_pos c111] at H
        refine W_skip (n108 _ _ ?_)
        refine W_block fun X112 x113 y114 => ?_
        refine W_seq fun N115 n116 => ?_
        refine W_region ?_
        refine O_y rfl (Y_move rfl) ?_
        refine O_y rfl (Y_move rfl) ?_
        refine O_y rfl (Y_move rfl) ?_
        refine O_y rfl (Y_move rfl) ?_
        refine O_y rfl (Y_add rfl rfl) ?_
        refine O_y rfl (Y_move rfl) ?_
        refine O_y rfl (Y_move rfl) ?_
        cases H
      · rw [if_neg c111] at H
        refine W_exit (x102 _ _ (n100 _ _ ?_))
        refine W_seq fun N117 n118 => ?_
        refine W_seq fun N120 n121 => ?_
        refine W_region ?_
        refine O_y rfl (Y_move rfl) ?_
        refine O_y rfl (Y_move rfl) ?_
        refine O_y rfl (Y_add rfl rfl) ?_
        refine O_y rfl (Y_assign rfl) ?_
        refine O_nil (n121 _ _ ?_)
        refine W_seq fun N122 n123 => ?_
        refine W_region ?_
        refine O_y rfl (Y_move rfl) ?_
        refine O_y rfl (Y_move rfl) ?_
        refine O_y rfl (Y_lss rfl rfl) ?_
        refine O_nil (n123 _ _ ?_)
        refine W.weak [(0, _), (1, _), (2, _), (6, _), (7, _), (9, _), (54, _)] (Sub.cons rfl (Sub.cons rfl (Sub.cons rfl (Sub.cons rfl (Sub.cons rfl (Sub.cons rfl (Sub.cons rfl Sub.nil))))))) ?_
        refine W_if rfl (fun c124 => ?_) (fun c124 => ?_)
        · rw [if_pos c124] at H
          refine W_region ?_
          refine O_y rfl (Y_move rfl) ?_
          refine O_y rfl (Y_move rfl) ?_
          refine O_y rfl (Y_move rfl) ?_
          refine O_y rfl (Y_move rfl) ?_
          refine O_y rfl (Y_move rfl) ?_
          cases H
        · rw [if_neg c124] at H
          refine W_skip (n118 _ _ ?_)
          refine W_region ?_
          refine O_y rfl (Y_move rfl) ?_
          refine O_y rfl (Y_mul rfl rfl) ?_
          refine O_y rfl (Y_assign rfl) ?_
          exact O_nil (back88 (kl86, (IntKind.i64.wrap (l86_6 * 2))) _ _ (Sub.cons rfl (Sub.cons rfl (Sub.cons rfl (Sub.cons rfl Sub.nil)))) (And.intro H hs) (Nat.lt_succ_self _))
    · rw [if_neg c93] at H
      refine W_exit (x84 _ _ ?_)
      obtain rfl := Option.some.inj H
      exact ret0 rfl ⟨rfl, hs⟩

/-! ### slices.SortStableFunc[[]rune,rune]: function 17 -/
def slices_SortStableFunc_rune_rune.f (x0 : List Int) : Option Unit := (slices_stableCmpFunc_rune.f x0 (x0.length : Int)).bind fun r51 => (some ())
set_option maxRecDepth 100000 in
set_option maxHeartbeats 4000000 in
theorem slices_SortStableFunc_rune_rune.c {w0 w : World} {ρ : Hp} {Γ : List Item} (hs : St w0 ρ Γ w) {v0 : Value} {x0 : List Int} (h0 : SlR (Rep.int .i32) ρ v0 x0) {v1 : Value} {r : Unit} (H : slices_SortStableFunc_rune_rune.f x0 = some r) : CallsR Try.prog 17 [v0, v1] w (fun v w' => v = .tuple #[] ∧ St w0 ρ Γ w') := by
  rw [slices_SortStableFunc_rune_rune.f] at H
  refine enter Try.func17 Try.ntmps17 rfl (by kernel_rfl) rfl ?_
  refine W_region ?_
  refine O_y rfl (Y_move rfl) ?_
  refine O_y rfl (Y_move rfl) ?_
  refine O_y rfl (Y_lenR un32 h0 rfl) ?_
  refine O_y rfl (Y_move rfl) ?_
  obtain ⟨r51, hr52, H⟩ := bnd H
  refine O_call rfl rfl (slices_stableCmpFunc_rune.c hs h0 hr52) (fun v53 w hpost => ?_)
  obtain ⟨rfl, hs⟩ := hpost
  refine O_nil ?_
  obtain rfl := Option.some.inj H
  exact ret0 rfl ⟨rfl, hs⟩

/-! ### cmp.isNaN[int]: function 23 -/
def cmp_isNaN_int.f (x0 : Int) : Option Bool := some (decide (x0 ≠ x0))
set_option maxRecDepth 100000 in
set_option maxHeartbeats 4000000 in
theorem cmp_isNaN_int.c {w0 w : World} {ρ : Hp} {Γ : List Item} (hs : St w0 ρ Γ w) {x0 : Int} {r : Bool} (H : cmp_isNaN_int.f x0 = some r) : CallsR Try.prog 23 [.int .i64 x0] w (fun v w' => v = .bool r ∧ St w0 ρ Γ w') := by
  rw [cmp_isNaN_int.f] at H
  refine enter Try.func23 Try.ntmps23 rfl (by kernel_rfl) rfl ?_
  refine W_seq fun N51 n52 => ?_
  refine W_region ?_
  refine O_y rfl (Y_assign rfl) ?_
  refine O_nil (n52 _ _ ?_)
  refine W_seq fun N53 n54 => ?_
  refine W_region ?_
  refine O_y rfl (Y_move rfl) ?_
  refine O_y rfl (Y_move rfl) ?_
  refine O_y rfl (Y_neq rfl rfl) ?_
  refine O_y rfl (Y_assign rfl) ?_
  refine O_nil (n54 _ _ ?_)
  refine W_ret ?_
  obtain rfl := Option.some.inj H
  exact ret1 rfl rfl ⟨rfl, hs⟩

/-! ### cmp.Compare[int]: function 19 -/
def cmp_Compare_int.f (x0 : Int) (x1 : Int) : Option Int := (cmp_isNaN_int.f x0).bind fun r55 => ((cmp_isNaN_int.f x1).bind fun r60 => (if r55 = true then (if r60 = true then (some 0) else (some (-1))) else (if r60 = true then (some 1) else (if x0 < x1 then (some (-1)) else (if x1 < x0 then (some 1) else (some 0))))))
set_option maxRecDepth 100000 in
set_option maxHeartbeats 4000000 in
theorem cmp_Compare_int.c {w0 w : World} {ρ : Hp} {Γ : List Item} (hs : St w0 ρ Γ w) {x0 : Int} {x1 : Int} {r : Int} (H : cmp_Compare_int.f x0 x1 = some r) : CallsR Try.prog 19 [.int .i64 x0, .int .i64 x1] w (fun v w' => v = .int .i64 r ∧ St w0 ρ Γ w') := by
  rw [cmp_Compare_int.f] at H
  refine enter Try.func19 Try.ntmps19 rfl (by kernel_rfl) rfl ?_
  refine W_seq fun N51 n52 => ?_
  refine W_region ?_
  refine O_y rfl (Y_assign rfl) ?_
  refine O_nil (n52 _ _ ?_)
  refine W_seq fun N53 n54 => ?_
  refine W_region ?_
  refine O_y rfl (Y_move rfl) ?_
  obtain ⟨r55, hr56, H⟩ := bnd H
  refine O_call rfl rfl (cmp_isNaN_int.c hs hr56) (fun v57 w hpost => ?_)
  obtain ⟨rfl, hs⟩ := hpost
  refine O_y rfl (Y_assign rfl) ?_
  refine O_nil (n54 _ _ ?_)
  refine W_seq fun N58 n59 => ?_
  refine W_region ?_
  refine O_y rfl (Y_move rfl) ?_
  obtain ⟨r60, hr61, H⟩ := bnd H
  refine O_call rfl rfl (cmp_isNaN_int.c hs hr61) (fun v62 w hpost => ?_)
  obtain ⟨rfl, hs⟩ := hpost
  refine O_y rfl (Y_assign rfl) ?_
  refine O_nil (n59 _ _ ?_)
  refine W_seq fun N63 n64 => ?_
  refine W_seq fun N65 n66 => ?_
  refine W_region ?_
  refine O_y rfl (Y_move rfl) ?_
  refine O_nil (n66 _ _ ?_)
  refine W_cond rfl (fun c67 => ?_) (fun c67 => ?_)
  · rw [if_pos c67] at H
    refine W_seq fun N68 n69 => ?_
    refine W_seq fun N70 n71 => ?_
    refine W_region ?_
    refine O_y rfl (Y_move rfl) ?_
    refine O_nil (n71 _ _ ?_)
    refine W_cond rfl (fun c72 => ?_) (fun c72 => ?_)
    · rw [if_pos c72] at H
      refine W_seq fun N73 n74 => ?_
      refine W_region ?_
      refine O_y rfl (Y_assign rfl) ?_
      refine O_nil (n74 _ _ ?_)
      refine W_ret ?_
      obtain rfl := Option.some.inj H
      exact ret1 rfl rfl ⟨rfl, hs⟩
    · rw [if_neg (by rw [c72]; exact Bool.false_ne_true)] at H
      refine W_skip (n69 _ _ ?_)
      refine W_seq fun N75 n76 => ?_
      refine W_region ?_
      refine O_y rfl (Y_assign rfl) ?_
      refine O_nil (n76 _ _ ?_)
      refine W_ret ?_
      obtain rfl := Option.some.inj H
      exact ret1 rfl rfl ⟨rfl, hs⟩
  · rw [if_neg (by rw [c67]; exact Bool.false_ne_true)] at H
    refine W_skip (n64 _ _ ?_)
    refine W_seq fun N77 n78 => ?_
    refine W_seq fun N79 n80 => ?_
    refine W_region ?_
    refine O_y rfl (Y_move rfl) ?_
    refine O_nil (n80 _ _ ?_)
    refine W_cond rfl (fun c81 => ?_) (fun c81 => ?_)
    · rw [if_pos c81] at H
      refine W_seq fun N82 n83 => ?_
      refine W_region ?_
      refine O_y rfl (Y_assign rfl) ?_
      refine O_nil (n83 _ _ ?_)
      refine W_ret ?_
      obtain rfl := Option.some.inj H
      exact ret1 rfl rfl ⟨rfl, hs⟩
    · rw [if_neg (by rw [c81]; exact Bool.false_ne_true)] at H
      refine W_skip (n78 _ _ ?_)
      refine W_seq fun N84 n85 => ?_
      refine W_seq fun N86 n87 => ?_
      refine W_region ?_
      refine O_y rfl (Y_move rfl) ?_
      refine O_y rfl (Y_move rfl) ?_
      refine O_y rfl (Y_lss rfl rfl) ?_
      refine O_nil (n87 _ _ ?_)
      refine W_if rfl (fun c88 => ?_) (fun c88 => ?_)
      · rw [if_pos c88] at H
        refine W_seq fun N89 n90 => ?_
        refine W_region ?_
        refine O_y rfl (Y_assign rfl) ?_
        refine O_nil (n90 _ _ ?_)
        refine W_ret ?_
        obtain rfl := Option.some.inj H
        exact ret1 rfl rfl ⟨rfl, hs⟩
      · rw [if_neg c88] at H
        refine W_skip (n85 _ _ ?_)
        refine W_seq fun N91 n92 => ?_
        refine W_seq fun N93 n94 => ?_
        refine W_region ?_
        refine O_y rfl (Y_move rfl) ?_
        refine O_y rfl (Y_move rfl) ?_
        refine O_y rfl (Y_gtr rfl rfl) ?_
        refine O_nil (n94 _ _ ?_)
        refine W.weak [(19, _)] (Sub.cons rfl Sub.nil) ?_
        refine W_if rfl (fun c95 => ?_) (fun c95 => ?_)
        · rw [if_pos c95] at H
          refine W_seq fun N96 n97 => ?_
          refine W_region ?_
          refine O_y rfl (Y_assign rfl) ?_
          refine O_nil (n97 _ _ ?_)
          refine W_ret ?_
          obtain rfl := Option.some.inj H
          exact ret1 rfl rfl ⟨rfl, hs⟩
        · rw [if_neg c95] at H
          refine W_skip (n92 _ _ ?_)
          refine W_seq fun N98 n99 => ?_
          refine W_region ?_
          refine O_y rfl (Y_assign rfl) ?_
          refine O_nil (n99 _ _ ?_)
          refine W_ret ?_
          obtain rfl := Option.some.inj H
          exact ret1 rfl rfl ⟨rfl, hs⟩

/-! ### postern/canon.Order: function 13 -/
def canon_Order.j103 (go_l75 : Int → Option (List Int)) (go_l95 : Int → Option (List Int)) (r56 : List Int) (l75_6 : Int) (l95_7 : Int) (j103_29 : Bool) : Option (List Int) := if j103_29 = true then (go_l95 (IntKind.i64.wrap (l95_7 + 1))) else (if (0 : Int) ≤ l75_6 ∧ l75_6 ≤ l95_7 ∧ l95_7 ≤ (r56.length : Int) then ((slices_SortStableFunc_rune_rune.f (sub r56 l75_6 l95_7)).bind fun r114 => (go_l75 (IntKind.i64.wrap (l95_7 + 1)))) else none)
def canon_Order.l95 (go_l75 : Int → Option (List Int)) : Nat → List Int → Int → Int → Option (List Int)
  | 0, _, _, _ => none
  | kl95 + 1, r56, l75_6, l95_7 => if l95_7 < (r56.length : Int) then (if (0 : Int) ≤ l95_7 ∧ l95_7 < (r56.length : Int) then ((book_Tables_Class.f (rd r56 l95_7)).bind fun r125 => (canon_Order.j103 go_l75 (canon_Order.l95 go_l75 kl95 r56 l75_6) r56 l75_6 l95_7 (decide (r125 ≠ 0)))) else none) else (canon_Order.j103 go_l75 (canon_Order.l95 go_l75 kl95 r56 l75_6) r56 l75_6 l95_7 false)
def canon_Order.l75 : Nat → List Int → Int → Option (List Int)
  | 0, _, _ => none
  | kl75 + 1, r56, l75_6 => if l75_6 < (r56.length : Int) then (canon_Order.l95 (canon_Order.l75 kl75 r56) K0 r56 l75_6 l75_6) else (some r56)
def canon_Order.f (x1 : List Int) : Option (List Int) := (slices_Clone_rune_rune.f x1).bind fun r56 => (canon_Order.l75 K0 r56 0)
set_option maxRecDepth 100000 in
set_option maxHeartbeats 4000000 in
theorem canon_Order.c {w0 w : World} {ρ : Hp} {Γ : List Item} (hs : St w0 ρ Γ w) {v1 : Value} {x1 : List Int} (h1 : SlR (Rep.int .i32) ρ v1 x1) {r : List Int} (H : canon_Order.f x1 = some r) : CallsR Try.prog 13 [.pointer none, v1] w (fun v w' => ∃ (ρ' : Hp) (v0 : Value), v = v0 ∧ Le ρ ρ' ∧ St w0 ρ' (Γ) w' ∧ SlR (Rep.int .i32) ρ' v0 r) := by
  rw [canon_Order.f] at H
  refine enter Try.func13 Try.ntmps13 rfl (by kernel_rfl) rfl ?_
  refine W_seq fun N51 n52 => ?_
  refine W_region ?_
  refine O_box1 hs rfl rfl rfl (fun b53 w hs => ?_)
  refine O_y rfl (Y_assign rfl) ?_
  refine O_nil (n52 _ _ ?_)
  refine W_seq fun N54 n55 => ?_
  refine W_region ?_
  refine O_y rfl (Y_move rfl) ?_
  obtain ⟨r56, hr57, H⟩ := bnd H
  refine O_call rfl rfl (slices_Clone_rune_rune.c hs h1 hr57) (fun v58 w hpost => ?_)
  obtain ⟨ρ63, v59, cs60, rfl, le64, hs, f61⟩ := hpost
  obtain ⟨ρ65, le66, hs, f67⟩ := hs.rowEnd (j := 0) f61 rfl
  refine O_y rfl (Y_assign rfl) ?_
  refine O_nil (n55 _ _ ?_)
  refine W_seq fun N68 n69 => ?_
  refine W_seq fun N70 n71 => ?_
  refine W_region ?_
  refine O_y rfl (Y_assign rfl) ?_
  refine O_nil (n71 _ _ ?_)
  refine W_block fun X72 x73 y74 => ?_
  refine W_loop (σ := Nat × Int) (fun (kl75, l75_6) => [(2, .pointer (some ⟨b53, 0, none⟩)), (5, v58), (6, .int .i64 l75_6)]) (fun (kl75, l75_6) w => canon_Order.l75 kl75 r56 l75_6 = some r ∧ St w0 ρ65 ((.box b53 36 [.pointer none]) :: Γ) w) (fun s => s.1) (K0, 0) (Sub.cons rfl (Sub.cons rfl (Sub.cons rfl Sub.nil))) (And.intro H hs) ?_
  rintro ⟨kl75, l75_6⟩ w N76 ⟨H, hs⟩ back77
  show W _ _ _ _ _ _ [(2, .pointer (some ⟨b53, 0, none⟩)), (5, v58), (6, .int .i64 l75_6)] w
  cases kl75 with
  | zero => rw [canon_Order.l75] at H; cases H
  | succ kl75 =>
  rw [canon_Order.l75] at H
  refine W_seq fun N78 n79 => ?_
  refine W_seq fun N80 n81 => ?_
  refine W_region ?_
  refine O_y rfl (Y_move rfl) ?_
  refine O_y rfl (Y_move rfl) ?_
  refine O_y rfl (Y_lenR un32 f67 rfl) ?_
  refine O_y rfl (Y_lss rfl rfl) ?_
  refine O_nil (n81 _ _ ?_)
  refine W_if rfl (fun c82 => ?_) (fun c82 => ?_)
  · rw [if_pos c82] at H
    refine W_skip (n79 _ _ ?_)
    refine W_seq fun N83 n84 => ?_
    refine W_block fun X85 x86 y87 => ?_
    refine W_seq fun N88 n89 => ?_
    refine W_region ?_
    refine O_y rfl (Y_move rfl) ?_
    refine O_y rfl (Y_assign rfl) ?_
    refine O_nil (n89 _ _ ?_)
    refine W_seq fun N90 n91 => ?_
    refine W_block fun X92 x93 y94 => ?_
    refine W_loop (σ := Nat × Int) (fun (kl95, l95_7) => [(2, .pointer (some ⟨b53, 0, none⟩)), (5, v58), (6, .int .i64 l75_6), (7, .int .i64 l95_7)]) (fun (kl95, l95_7) w => canon_Order.l95 (canon_Order.l75 kl75 r56) kl95 r56 l75_6 l95_7 = some r ∧ St w0 ρ65 ((.box b53 36 [.pointer none]) :: Γ) w) (fun s => s.1) (K0, l75_6) (Sub.cons rfl (Sub.cons rfl (Sub.cons rfl (Sub.cons rfl Sub.nil)))) (And.intro H hs) ?_
    rintro ⟨kl95, l95_7⟩ w N96 ⟨H, hs⟩ back97
    show W _ _ _ _ _ _ [(2, .pointer (some ⟨b53, 0, none⟩)), (5, v58), (6, .int .i64 l75_6), (7, .int .i64 l95_7)] w
    cases kl95 with
    | zero => rw [canon_Order.l95] at H; cases H
    | succ kl95 =>
    rw [canon_Order.l95] at H
    refine W_seq fun N98 n99 => ?_
    refine W_seqj fun N100 n101 s102 => ?_
    have j103 : ∀ (j103_29 : Bool) (w : World), canon_Order.j103 (canon_Order.l75 kl75 r56) (canon_Order.l95 (canon_Order.l75 kl75 r56) kl95 r56 l75_6) r56 l75_6 l95_7 j103_29 = some r → St w0 ρ65 ((.box b53 36 [.pointer none]) :: Γ) w → N100 [(2, .pointer (some ⟨b53, 0, none⟩)), (5, v58), (6, .int .i64 l75_6), (7, .int .i64 l95_7), (29, .bool j103_29)] w := by
      intro j103_29 w H hs
      rw [canon_Order.j103] at H
      refine n101 _ _ ?_
      refine W_cond rfl (fun c104 => ?_) (fun c104 => ?_)
      · rw [if_pos c104] at H
        refine W_skip (n99 _ _ ?_)
        refine W_block fun X105 x106 y107 => ?_
        refine W_region ?_
        refine O_y rfl (Y_move rfl) ?_
        refine O_y rfl (Y_add rfl rfl) ?_
        refine O_y rfl (Y_assign rfl) ?_
        exact O_nil (back97 (kl95, (IntKind.i64.wrap (l95_7 + 1))) _ _ (Sub.cons rfl (Sub.cons rfl (Sub.cons rfl (Sub.cons rfl Sub.nil)))) (And.intro H hs) (Nat.lt_succ_self _))
      · rw [if_neg (by rw [c104]; exact Bool.false_ne_true)] at H
        refine W_exit (x93 _ _ (n91 _ _ ?_))
        refine W_seq fun N108 n109 => ?_
        refine W_region ?_
        refine O_y rfl (Y_move rfl) ?_
        refine O_y rfl (Y_move rfl) ?_
        refine O_y rfl (Y_move rfl) ?_
        by_cases c110 : (0 : Int) ≤ l75_6 ∧ l75_6 ≤ l95_7 ∧ l95_7 ≤ (r56.length : Int)
        case neg => rw [if_neg c110] at H; cases H
        rw [if_pos c110] at H
        obtain ⟨v111, f112, y113⟩ := f67.cut el32 c110.1 c110.2.1 c110.2.2
        refine O_y rfl (y113 rfl (.inr ⟨_, _, rfl, rfl⟩) (.inr ⟨_, _, rfl, rfl⟩)) ?_
        refine O_y rfl (Y_func rfl) ?_
        obtain ⟨r114, hr115, H⟩ := bnd H
        refine O_call rfl rfl (slices_SortStableFunc_rune_rune.c hs f112 hr115) (fun v116 w hpost => ?_)
        obtain ⟨rfl, hs⟩ := hpost
        refine O_nil (n109 _ _ ?_)
        refine W_region ?_
        refine O_y rfl (Y_move rfl) ?_
        refine O_y rfl (Y_assign rfl) ?_
        refine O_nil (n84 _ _ ?_)
        refine W_region ?_
        refine O_y rfl (Y_move rfl) ?_
        refine O_y rfl (Y_add rfl rfl) ?_
        refine O_y rfl (Y_assign rfl) ?_
        exact O_nil (back77 (kl75, (IntKind.i64.wrap (l95_7 + 1))) _ _ (Sub.cons rfl (Sub.cons rfl (Sub.cons rfl Sub.nil))) (And.intro H hs) (Nat.lt_succ_self _))
    refine W_draw [] (fun w => St w0 ρ65 ((.box b53 36 [.pointer none]) :: Γ) w) mixed ?_
    have hs := hs.drew
    refine OD_y (i := 0) rfl rfl (by kernel_rfl) hs (fun w hs => Y_move rfl) ?_
    refine OD_y (i := 1) rfl rfl (by kernel_rfl) hs (fun w hs => Y_move rfl) ?_
    refine OD_y (i := 2) rfl rfl (by kernel_rfl) hs (fun w hs => Y_lenR un32 f67 rfl) ?_
    refine OD_y (i := 3) rfl rfl (by kernel_rfl) hs (fun w hs => Y_lss rfl rfl) ?_
    refine OD_y (i := 4) rfl rfl (by kernel_rfl) hs (fun w hs => Y_move rfl) ?_
    refine OD_if (dj := 21) rfl (fun c117 => ?_) (fun c117 => ?_)
    · rw [if_pos c117] at H
      refine OD_yes (i := 5) rfl rfl rfl rfl (by kernel_rfl) hs (fun w hs => Y_loadb (i := 0) ag36 hs rfl rfl rfl) ?_
      refine OD_yes (i := 6) rfl rfl rfl rfl (by kernel_rfl) hs (fun w hs => Y_move rfl) ?_
      refine OD_yes (i := 7) rfl rfl rfl rfl (by kernel_rfl) hs (fun w hs => Y_move rfl) ?_
      by_cases c118 : (0 : Int) ≤ l95_7 ∧ l95_7 < (r56.length : Int)
      case neg => rw [if_neg c118] at H; cases H
      rw [if_pos c118] at H
      obtain ⟨b119, o120, a121, y122⟩ := f67.ix el32 c118.1 c118.2
      refine OD_yes (i := 8) rfl rfl rfl rfl (by kernel_rfl) hs (fun w hs => y122 rfl rfl) ?_
      refine OD_yes (i := 9) rfl rfl rfl rfl (by kernel_rfl) hs (fun w hs => Y_load ag21 rfl (hs.sees _ _ a121.int)) ?_
      refine OD_one (i := 10) rfl (by kernel_rfl) (fun N123 n124 => ?_)
      refine O_yes rfl rfl ?_
      obtain ⟨r125, hr126, H⟩ := bnd H
      refine O_call rfl rfl (book_Tables_Class.c hs hr126) (fun v127 w hpost => ?_)
      obtain ⟨rfl, hs⟩ := hpost
      refine O_nil (n124 _ _ (fun _ => hs) ?_)
      refine OD_yes (i := 11) rfl rfl rfl rfl (by kernel_rfl) hs (fun w hs => Y_neq rfl rfl) ?_
      refine OD_y (i := 12) rfl rfl (by kernel_rfl) hs (fun w hs => Y_pick_t rfl rfl) ?_
      exact OD_done (by kernel_rfl) (s102 _ _ _ (Sub.cons rfl (Sub.cons rfl (Sub.cons rfl (Sub.cons rfl (Sub.cons rfl Sub.nil))))) (j103 (decide (r125 ≠ 0)) _ H hs))
    · rw [if_neg c117] at H
      refine OD_no (i := 5) rfl rfl rfl rfl rfl (by kernel_rfl) hs ?_
      refine OD_no (i := 6) rfl rfl rfl rfl rfl (by kernel_rfl) hs ?_
      refine OD_no (i := 7) rfl rfl rfl rfl rfl (by kernel_rfl) hs ?_
      refine OD_no (i := 8) rfl rfl rfl rfl rfl (by kernel_rfl) hs ?_
      refine OD_no (i := 9) rfl rfl rfl rfl rfl (by kernel_rfl) hs ?_
      refine OD_no (i := 10) rfl rfl rfl rfl rfl (by kernel_rfl) hs ?_
      refine OD_no (i := 11) rfl rfl rfl rfl rfl (by kernel_rfl) hs ?_
      refine OD_y (i := 12) rfl rfl (by kernel_rfl) hs (fun w hs => Y_pick_f rfl rfl) ?_
      exact OD_done (by kernel_rfl) (s102 _ _ _ (Sub.cons rfl (Sub.cons rfl (Sub.cons rfl (Sub.cons rfl (Sub.cons rfl Sub.nil))))) (j103 false _ H hs))
  · rw [if_neg c82] at H
    refine W_exit (x73 _ _ (n69 _ _ ?_))
    refine W_seq fun N128 n129 => ?_
    refine W_region ?_
    refine O_y rfl (Y_move rfl) ?_
    refine O_y rfl (Y_assign rfl) ?_
    refine O_nil (n129 _ _ ?_)
    refine W_ret ?_
    obtain rfl := Option.some.inj H
    exact ret1 rfl rfl ⟨_, _, rfl, (le64.trans le66), (hs.sub (.cons _ (List.Sublist.refl _))), f67⟩

/-! ### postern/canon.Syllable: function 6 -/
def canon_Syllable.j69 (x0 : Int) (j69_7 : Int) : Option (Int × Int × Int × Bool) := some (IntKind.i32.wrap (4352 + (IntKind.i32.wrap ((IntKind.i32.wrap (x0 - 44032)).tdiv 588))), IntKind.i32.wrap (4449 + ((IntKind.i32.wrap ((IntKind.i32.wrap (x0 - 44032)).tdiv 28)).tmod 21)), j69_7, true)
def canon_Syllable.j60 (x0 : Int) (j60_15 : Bool) : Option (Int × Int × Int × Bool) := if j60_15 = true then (some (0, 0, 0, false)) else (if (IntKind.i32.wrap (4519 + ((IntKind.i32.wrap (x0 - 44032)).tmod 28))) = 4519 then (canon_Syllable.j69 x0 0) else (canon_Syllable.j69 x0 (IntKind.i32.wrap (4519 + ((IntKind.i32.wrap (x0 - 44032)).tmod 28)))))
def canon_Syllable.f (x0 : Int) : Option (Int × Int × Int × Bool) := if x0 < 44032 then (canon_Syllable.j60 x0 true) else (canon_Syllable.j60 x0 (decide (11172 ≤ (IntKind.i32.wrap (x0 - 44032)))))
set_option maxRecDepth 100000 in
set_option maxHeartbeats 4000000 in
theorem canon_Syllable.c {w0 w : World} {ρ : Hp} {Γ : List Item} (hs : St w0 ρ Γ w) {x0 : Int} {r : Int × Int × Int × Bool} (H : canon_Syllable.f x0 = some r) : CallsR Try.prog 6 [.int .i32 x0] w (fun v w' => v = .tuple #[.int .i32 r.1, .int .i32 r.2.1, .int .i32 r.2.2.1, .bool r.2.2.2] ∧ St w0 ρ Γ w') := by
  rw [canon_Syllable.f] at H
  refine enter Try.func6 Try.ntmps6 rfl (by kernel_rfl) rfl ?_
  refine W_seq fun N51 n52 => ?_
  refine W_region ?_
  refine O_y rfl (Y_assign rfl) ?_
  refine O_y rfl (Y_assign rfl) ?_
  refine O_y rfl (Y_assign rfl) ?_
  refine O_y rfl (Y_assign rfl) ?_
  refine O_nil (n52 _ _ ?_)
  refine W_seq fun N53 n54 => ?_
  refine W_region ?_
  refine O_y rfl (Y_move rfl) ?_
  refine O_y rfl (Y_sub rfl rfl) ?_
  refine O_y rfl (Y_assign rfl) ?_
  refine O_nil (n54 _ _ ?_)
  refine W_seq fun N55 n56 => ?_
  refine W_seqj fun N57 n58 s59 => ?_
  have j60 : ∀ (j60_15 : Bool) (w : World), canon_Syllable.j60 x0 j60_15 = some r → St w0 ρ (Γ) w → N57 [(6, .int .i32 (IntKind.i32.wrap (x0 - 44032))), (15, .bool j60_15)] w := by
    intro j60_15 w H hs
    rw [canon_Syllable.j60] at H
    refine n58 _ _ ?_
    refine W_cond rfl (fun c61 => ?_) (fun c61 => ?_)
    · rw [if_pos c61] at H
      refine W_seq fun N62 n63 => ?_
      refine W_region ?_
      refine O_y rfl (Y_assign rfl) ?_
      refine O_y rfl (Y_assign rfl) ?_
      refine O_y rfl (Y_assign rfl) ?_
      refine O_y rfl (Y_assign rfl) ?_
      refine O_nil (n63 _ _ ?_)
      refine W_ret ?_
      obtain rfl := Option.some.inj H
      exact ret4 rfl rfl rfl rfl rfl ⟨rfl, hs⟩
    · rw [if_neg (by rw [c61]; exact Bool.false_ne_true)] at H
      refine W_skip (n56 _ _ ?_)
      refine W_seq fun N64 n65 => ?_
      refine W_region ?_
      refine O_y rfl (Y_move rfl) ?_
      refine O_y rfl (Y_rem rfl rfl (by decide)) ?_
      refine O_y rfl (Y_add rfl rfl) ?_
      refine O_y rfl (Y_assign rfl) ?_
      refine O_nil (n65 _ _ ?_)
      refine W_seqj fun N66 n67 s68 => ?_
      have j69 : ∀ (j69_7 : Int) (w : World), canon_Syllable.j69 x0 j69_7 = some r → St w0 ρ (Γ) w → N66 [(6, .int .i32 (IntKind.i32.wrap (x0 - 44032))), (7, .int .i32 j69_7)] w := by
        intro j69_7 w H hs
        rw [canon_Syllable.j69] at H
        refine n67 _ _ ?_
        refine W_seq fun N70 n71 => ?_
        refine W_region ?_
        refine O_y rfl (Y_move rfl) ?_
        refine O_y rfl (Y_quo rfl rfl (by decide)) ?_
        refine O_y rfl (Y_add rfl rfl) ?_
        refine O_y rfl (Y_move rfl) ?_
        refine O_y rfl (Y_quo rfl rfl (by decide)) ?_
        refine O_y rfl (Y_rem rfl rfl (by decide)) ?_
        refine O_y rfl (Y_add rfl rfl) ?_
        refine O_y rfl (Y_move rfl) ?_
        refine O_y rfl (Y_assign rfl) ?_
        refine O_y rfl (Y_assign rfl) ?_
        refine O_y rfl (Y_assign rfl) ?_
        refine O_y rfl (Y_assign rfl) ?_
        refine O_nil (n71 _ _ ?_)
        refine W_ret ?_
        obtain rfl := Option.some.inj H
        exact ret4 rfl rfl rfl rfl rfl ⟨rfl, hs⟩
      refine W_seq fun N72 n73 => ?_
      refine W_region ?_
      refine O_y rfl (Y_move rfl) ?_
      refine O_y rfl (Y_eql rfl rfl) ?_
      refine O_nil (n73 _ _ ?_)
      refine W_if rfl (fun c74 => ?_) (fun c74 => ?_)
      · rw [if_pos c74] at H
        refine W_region ?_
        refine O_y rfl (Y_assign rfl) ?_
        exact O_nil (s68 _ _ _ (Sub.cons rfl (Sub.cons rfl Sub.nil)) (j69 0 _ H hs))
      · rw [if_neg c74] at H
        exact W_skip (s68 _ _ _ (Sub.cons rfl (Sub.cons rfl Sub.nil)) (j69 (IntKind.i32.wrap (4519 + ((IntKind.i32.wrap (x0 - 44032)).tmod 28))) _ H hs))
  refine W_region ?_
  refine O_y rfl (Y_move rfl) ?_
  refine O_y rfl (Y_lss rfl rfl) ?_
  refine O_y rfl (Y_move rfl) ?_
  refine O_if (dj := 12) rfl (fun c75 => ?_) (fun c75 => ?_)
  · rw [if_pos c75] at H
    refine O_no rfl rfl rfl rfl ?_
    refine O_no rfl rfl rfl rfl ?_
    refine O_y rfl (Y_pick_t rfl rfl) ?_
    exact O_nil (s59 _ _ _ (Sub.cons rfl (Sub.cons rfl Sub.nil)) (j60 true _ H hs))
  · rw [if_neg c75] at H
    refine O_yes rfl rfl ?_
    refine O_y rfl (Y_move rfl) ?_
    refine O_yes rfl rfl ?_
    refine O_y rfl (Y_geq rfl rfl) ?_
    refine O_y rfl (Y_pick_f rfl rfl) ?_
    exact O_nil (s59 _ _ _ (Sub.cons rfl (Sub.cons rfl Sub.nil)) (j60 (decide (11172 ≤ (IntKind.i32.wrap (x0 - 44032)))) _ H hs))

/-! ### (*postern/book.Tables).Parts: function 24 -/
def book_Tables_Parts.f (x1 : Int) : Option (List Int) := some ([] : List Int)
set_option maxRecDepth 100000 in
set_option maxHeartbeats 4000000 in
theorem book_Tables_Parts.c {w0 w : World} {ρ : Hp} {Γ : List Item} (hs : St w0 ρ Γ w) {x1 : Int} {r : List Int} (H : book_Tables_Parts.f x1 = some r) : CallsR Try.prog 24 [.pointer none, .int .i32 x1] w (fun v w' => ∃ (ρ' : Hp) (v0 : Value) (cs0 : List Value), v = v0 ∧ Le ρ ρ' ∧ St w0 ρ' (.row v0 21 (Rep.int .i32).sz r.length cs0 :: Γ) w' ∧ RowR (Rep.int .i32) ρ' cs0 r) := by
  rw [book_Tables_Parts.f] at H
  refine enter Try.func24 Try.ntmps24 rfl (by kernel_rfl) rfl ?_
  refine W_seq fun N51 n52 => ?_
  refine W_region ?_
  refine O_y rfl (Y_assign rfl) ?_
  refine O_nil (n52 _ _ ?_)
  refine W_seq fun N53 n54 => ?_
  refine W_seq fun N55 n56 => ?_
  refine W_region ?_
  refine O_y rfl (Y_move rfl) ?_
  refine O_y rfl (Y_eqlp un36 rfl rfl) ?_
  refine O_nil (n56 _ _ ?_)
  refine W_true rfl ?_
  refine W_seq fun N57 n58 => ?_
  refine W_region ?_
  refine O_y rfl (Y_assign rfl) ?_
  refine O_nil (n58 _ _ ?_)
  refine W_ret ?_
  have hs := hs.rowNil 21 (Rep.int .i32).sz
  have f60 := RowR.nil (Rep.int .i32) ρ
  obtain rfl := Option.some.inj H
  exact ret1 rfl rfl ⟨_, _, _, rfl, Le.rfl' _, hs, f60⟩

/-! ### postern/canon.Full: function 20 -/
def canon_Full.l110 : Nat → (Int → Option (List Int)) → List Int → List Int → Int → Option (List Int)
  | 0, _, _, _, _ => none
  | kl110 + 1, rec, r80, l110_xr101, l110_40 => if l110_40 < (r80.length : Int) then (if (0 : Int) ≤ l110_40 ∧ l110_40 < (r80.length : Int) then ((rec (rd r80 l110_40)).bind fun r131 => (if l110_xr101.length + r131.length ≤ most then ((canon_Full.l110 kl110 rec r80) (l110_xr101 ++ r131) (IntKind.i64.wrap (l110_40 + 1))) else none)) else none) else (some l110_xr101)
def canon_Full.b (rec : Int → Option (List Int)) (x1 : Int) : Option (List Int) := (canon_Syllable.f x1).bind fun r57 => (if r57.2.2.2 = true then (if r57.2.2.1 = 0 then (some ([r57.1, r57.2.1])) else (some ([r57.1, r57.2.1, r57.2.2.1]))) else ((book_Tables_Parts.f x1).bind fun r80 => (if (r80.length : Int) = 0 then (some ([x1])) else (canon_Full.l110 K0 rec r80 ([] : List Int) 0))))
def canon_Full.f : Nat → Int → Option (List Int)
  | 0, _ => none
  | k + 1, x1 => canon_Full.b (canon_Full.f k) x1
def canon_Full.Spec (rec : Int → Option (List Int)) : Prop := ∀ {w0 w : World} {ρ : Hp} {Γ : List Item} (hs : St w0 ρ Γ w) {x1 : Int} {r : List Int}, rec x1 = some r → CallsR Try.prog 20 [.pointer none, .int .i32 x1] w (fun v w' => ∃ (ρ' : Hp) (v0 : Value) (cs0 : List Value), v = v0 ∧ Le ρ ρ' ∧ St w0 ρ' (.row v0 21 (Rep.int .i32).sz r.length cs0 :: Γ) w' ∧ RowR (Rep.int .i32) ρ' cs0 r)
set_option maxRecDepth 100000 in
set_option maxHeartbeats 4000000 in
theorem canon_Full.cb (rec : Int → Option (List Int)) (hrec : canon_Full.Spec rec) {w0 w : World} {ρ : Hp} {Γ : List Item} (hs : St w0 ρ Γ w) {x1 : Int} {r : List Int} (H : canon_Full.b rec x1 = some r) : CallsR Try.prog 20 [.pointer none, .int .i32 x1] w (fun v w' => ∃ (ρ' : Hp) (v0 : Value) (cs0 : List Value), v = v0 ∧ Le ρ ρ' ∧ St w0 ρ' (.row v0 21 (Rep.int .i32).sz r.length cs0 :: Γ) w' ∧ RowR (Rep.int .i32) ρ' cs0 r) := by
  rw [canon_Full.b] at H
  refine enter Try.func20 Try.ntmps20 rfl (by kernel_rfl) rfl ?_
  refine W_seq fun N51 n52 => ?_
  refine W_region ?_
  refine O_y rfl (Y_assign rfl) ?_
  refine O_nil (n52 _ _ ?_)
  refine W_seq fun N53 n54 => ?_
  refine W_seq fun N55 n56 => ?_
  refine W_region ?_
  refine O_y rfl (Y_move rfl) ?_
  obtain ⟨r57, hr58, H⟩ := bnd H
  refine O_call rfl rfl (canon_Syllable.c hs hr58) (fun v59 w hpost => ?_)
  obtain ⟨rfl, hs⟩ := hpost
  refine O_y rfl (Y_move rfl) ?_
  refine O_y rfl (Y_extract rfl rfl) ?_
  refine O_y rfl (Y_extract rfl rfl) ?_
  refine O_y rfl (Y_extract rfl rfl) ?_
  refine O_y rfl (Y_extract rfl rfl) ?_
  refine O_y rfl (Y_assign rfl) ?_
  refine O_y rfl (Y_assign rfl) ?_
  refine O_y rfl (Y_assign rfl) ?_
  refine O_y rfl (Y_assign rfl) ?_
  refine O_nil (n56 _ _ ?_)
  refine W_seq fun N60 n61 => ?_
  refine W_region ?_
  refine O_y rfl (Y_move rfl) ?_
  refine O_nil (n61 _ _ ?_)
  refine W.weak [(0, _), (1, _), (5, _), (6, _), (7, _), (20, _)] (Sub.cons rfl (Sub.cons rfl (Sub.cons rfl (Sub.cons rfl (Sub.cons rfl (Sub.cons rfl Sub.nil)))))) ?_
  refine W_cond rfl (fun c62 => ?_) (fun c62 => ?_)
  · rw [if_pos c62] at H
    refine W_seq fun N63 n64 => ?_
    refine W_seq fun N65 n66 => ?_
    refine W_region ?_
    refine O_y rfl (Y_move rfl) ?_
    refine O_y rfl (Y_eql rfl rfl) ?_
    refine O_nil (n66 _ _ ?_)
    refine W_if rfl (fun c67 => ?_) (fun c67 => ?_)
    · rw [if_pos c67] at H
      refine W_seq fun N68 n69 => ?_
      refine W_region ?_
      refine O_y rfl (Y_move rfl) ?_
      refine O_y rfl (Y_move rfl) ?_
      refine O_lit (xs := [.tmp 23, .tmp 24]) el32 hs rfl rfl rfl (by decide) (by decide) rfl (sz_cons rfl (sz_cons rfl sz_nil)) (fun b70 w hs => ?_)
      have f71 : RowR (Rep.int .i32) ρ [.int .i32 r57.1, .int .i32 r57.2.1] [r57.1, r57.2.1] := RowR.cons (c := [.int .i32 r57.1]) (x := r57.1) rfl (RowR.cons (c := [.int .i32 r57.2.1]) (x := r57.2.1) rfl (RowR.nil _ _))
      refine O_y rfl (Y_assign rfl) ?_
      refine O_nil (n69 _ _ ?_)
      refine W_ret ?_
      obtain rfl := Option.some.inj H
      exact ret1 rfl rfl ⟨_, _, _, rfl, Le.rfl' _, hs, f71⟩
    · rw [if_neg c67] at H
      refine W_skip (n64 _ _ ?_)
      refine W_seq fun N73 n74 => ?_
      refine W_region ?_
      refine O_y rfl (Y_move rfl) ?_
      refine O_y rfl (Y_move rfl) ?_
      refine O_y rfl (Y_move rfl) ?_
      refine O_lit (xs := [.tmp 26, .tmp 27, .tmp 28]) el32 hs rfl rfl rfl (by decide) (by decide) rfl (sz_cons rfl (sz_cons rfl (sz_cons rfl sz_nil))) (fun b75 w hs => ?_)
      have f76 : RowR (Rep.int .i32) ρ [.int .i32 r57.1, .int .i32 r57.2.1, .int .i32 r57.2.2.1] [r57.1, r57.2.1, r57.2.2.1] := RowR.cons (c := [.int .i32 r57.1]) (x := r57.1) rfl (RowR.cons (c := [.int .i32 r57.2.1]) (x := r57.2.1) rfl (RowR.cons (c := [.int .i32 r57.2.2.1]) (x := r57.2.2.1) rfl (RowR.nil _ _)))
      refine O_y rfl (Y_assign rfl) ?_
      refine O_nil (n74 _ _ ?_)
      refine W_ret ?_
      obtain rfl := Option.some.inj H
      exact ret1 rfl rfl ⟨_, _, _, rfl, Le.rfl' _, hs, f76⟩
  · rw [if_neg (by rw [c62]; exact Bool.false_ne_true)] at H
    refine W_skip (n54 _ _ ?_)
    refine W_seq fun N78 n79 => ?_
    refine W_region ?_
    refine O_y rfl (Y_move rfl) ?_
    refine O_y rfl (Y_move rfl) ?_
    obtain ⟨r80, hr81, H⟩ := bnd H
    refine O_call rfl rfl (book_Tables_Parts.c hs hr81) (fun v82 w hpost => ?_)
    obtain ⟨ρ87, v83, cs84, rfl, le88, hs, f85⟩ := hpost
    refine O_y rfl (Y_assign rfl) ?_
    refine O_nil (n79 _ _ ?_)
    refine W_seq fun N89 n90 => ?_
    refine W_seq fun N91 n92 => ?_
    refine W_region ?_
    refine O_y rfl (Y_move rfl) ?_
    refine O_y rfl (Y_lenRow (i := 0) un32 hs rfl rfl) ?_
    refine O_y rfl (Y_eql rfl rfl) ?_
    refine O_nil (n92 _ _ ?_)
    refine W_if rfl (fun c93 => ?_) (fun c93 => ?_)
    · rw [if_pos c93] at H
      refine W_seq fun N94 n95 => ?_
      refine W_region ?_
      refine O_y rfl (Y_move rfl) ?_
      refine O_lit (xs := [.tmp 36]) el32 hs rfl rfl rfl (by decide) (by decide) rfl (sz_cons rfl sz_nil) (fun b96 w hs => ?_)
      have f97 : RowR (Rep.int .i32) ρ87 [.int .i32 x1] [x1] := RowR.cons (c := [.int .i32 x1]) (x := x1) rfl (RowR.nil _ _)
      refine O_y rfl (Y_assign rfl) ?_
      refine O_nil (n95 _ _ ?_)
      refine W.weak [(4, _)] (Sub.cons rfl Sub.nil) ?_
      refine W_ret ?_
      obtain rfl := Option.some.inj H
      exact ret1 rfl rfl ⟨_, _, _, rfl, le88, (hs.sub (.cons_cons _ (.cons _ (List.Sublist.refl _)))), f97⟩
    · rw [if_neg c93] at H
      refine W_skip (n90 _ _ ?_)
      refine W_seq fun N99 n100 => ?_
      refine W_region ?_
      refine O_y rfl (Y_assign rfl) ?_
      have hs := hs.rowNil 21 (Rep.int .i32).sz
      have f102 := RowR.nil (Rep.int .i32) ρ87
      refine O_nil (n100 _ _ ?_)
      refine W_seq fun N103 n104 => ?_
      refine W_seq fun N105 n106 => ?_
      refine W_region ?_
      refine O_y rfl (Y_move rfl) ?_
      refine O_y rfl (Y_lenRow (i := 1) un32 hs rfl rfl) ?_
      refine O_y rfl (Y_move rfl) ?_
      refine O_nil (n106 _ _ ?_)
      refine W.weak [(0, _), (10, _), (38, _), (39, _), (40, _)] (Sub.cons rfl (Sub.cons rfl (Sub.cons rfl (Sub.cons rfl (Sub.cons rfl Sub.nil))))) ?_
      refine W_block fun X107 x108 y109 => ?_
      refine W_loop (σ := Nat × List Int × Int × Value × List Value × Hp) (fun (kl110, l110_xr101, l110_40, l110_vr101, l110_cr101, l110ρ) => [(0, .pointer none), (10, l110_vr101), (38, v82), (39, .int .i64 (r80.length : Int)), (40, .int .i64 l110_40)]) (fun (kl110, l110_xr101, l110_40, l110_vr101, l110_cr101, l110ρ) w => canon_Full.l110 kl110 rec r80 l110_xr101 l110_40 = some r ∧ Le ρ87 l110ρ ∧ St w0 l110ρ ((.row l110_vr101 21 ((Rep.int .i32).sz) l110_xr101.length l110_cr101) :: (.row v82 21 ((Rep.int .i32).sz) r80.length cs84) :: Γ) w ∧ RowR (Rep.int .i32) l110ρ l110_cr101 l110_xr101) (fun s => s.1) (K0, ([] : List Int), 0, (.slice none 0 0), ([]), ρ87) (Sub.cons rfl (Sub.cons rfl (Sub.cons rfl (Sub.cons rfl (Sub.cons rfl Sub.nil))))) (And.intro H (And.intro (Le.rfl' _) (And.intro hs f102))) ?_
      rintro ⟨kl110, l110_xr101, l110_40, l110_vr101, l110_cr101, l110ρ⟩ w N111 ⟨H, l110le, hs, l110_fr101⟩ back112
      show W _ _ _ _ _ _ [(0, .pointer none), (10, l110_vr101), (38, v82), (39, .int .i64 (r80.length : Int)), (40, .int .i64 l110_40)] w
      cases kl110 with
      | zero => rw [canon_Full.l110] at H; cases H
      | succ kl110 =>
      rw [canon_Full.l110] at H
      refine W_seq fun N113 n114 => ?_
      refine W_region ?_
      refine O_y rfl (Y_lss rfl rfl) ?_
      refine O_nil (n114 _ _ ?_)
      refine W_seq fun N115 n116 => ?_
      refine W_if rfl (fun c117 => ?_) (fun c117 => ?_)
      · rw [if_pos c117] at H
        refine W_skip (n116 _ _ ?_)
        refine W_seq fun N118 n119 => ?_
        refine W_block fun X120 x121 y122 => ?_
        refine W_seq fun N123 n124 => ?_
        refine W_region ?_
        by_cases c125 : (0 : Int) ≤ l110_40 ∧ l110_40 < (r80.length : Int)
        case neg => rw [if_neg c125] at H; cases H
        rw [if_pos c125] at H
        obtain ⟨g126, gf127⟩ := hs.rowBlock (j := 1) rfl (by have := c125.2; omega)
        obtain ⟨_, rfl, ca130⟩ := (f85.mono l110le).at c125.1 c125.2
        refine O_y rfl (Y_ixRow (j := 1) el32 hs rfl gf127 rfl rfl c125.1 c125.2) ?_
        refine O_y rfl (Y_load ag21 rfl (hs.rowCell (j := 1) rfl gf127 (ca130 0 _ rfl))) ?_
        refine O_y rfl (Y_assign rfl) ?_
        refine O_nil (n124 _ _ ?_)
        refine W_region ?_
        refine O_y rfl (Y_move rfl) ?_
        refine O_y rfl (Y_move rfl) ?_
        refine O_y rfl (Y_move rfl) ?_
        obtain ⟨r131, hr132, H⟩ := bnd H
        refine O_call rfl rfl (hrec hs hr132) (fun v133 w hpost => ?_)
        obtain ⟨ρ138, v134, cs135, rfl, le139, hs, f136⟩ := hpost
        by_cases c140 : l110_xr101.length + r131.length ≤ most
        case neg => rw [if_neg c140] at H; cases H
        rw [if_pos c140] at H
        refine O_appendR (i := 1) el32 hs rfl (l110_fr101.mono le139) rfl rfl rfl (Src.lit (j := 0) hs rfl f136) f136 c140 (fun v141 cs142 w f143 hs => ?_)
        refine O_y rfl (Y_assign rfl) ?_
        refine O_nil (n119 _ _ ?_)
        refine W_region ?_
        refine O_y rfl (Y_add rfl rfl) ?_
        refine O_y rfl (Y_move rfl) ?_
        exact O_nil (back112 (kl110, (l110_xr101 ++ r131), (IntKind.i64.wrap (l110_40 + 1)), v141, cs142, ρ138) _ _ (Sub.cons rfl (Sub.cons rfl (Sub.cons rfl (Sub.cons rfl (Sub.cons rfl Sub.nil))))) (And.intro H (And.intro (l110le.trans le139) (And.intro (hs.sub (.cons _ (.cons_cons _ (.cons_cons _ (List.Sublist.refl _))))) f143))) (Nat.lt_succ_self _))
      · rw [if_neg c117] at H
        refine W_exit (x108 _ _ (n104 _ _ ?_))
        refine W_seq fun N144 n145 => ?_
        refine W_region ?_
        refine O_y rfl (Y_move rfl) ?_
        refine O_y rfl (Y_assign rfl) ?_
        refine O_nil (n145 _ _ ?_)
        refine W_ret ?_
        obtain rfl := Option.some.inj H
        exact ret1 rfl rfl ⟨_, _, _, rfl, (le88.trans l110le), (hs.sub (.cons_cons _ (.cons _ (List.Sublist.refl _)))), l110_fr101⟩
theorem canon_Full.c (k : Nat) : canon_Full.Spec (canon_Full.f k) := by
  induction k with
  | zero => intro w0 w ρ Γ hs x1 r H; exact nomatch (show (none : Option _) = some _ from H)
  | succ k ih => intro w0 w ρ Γ hs x1 r H; exact canon_Full.cb (canon_Full.f k) ih hs H

/-! ### postern/canon.parts: function 14 -/
def canon_parts.l64 : Nat → List Int → List Int → Int → Option (List Int)
  | 0, _, _, _ => none
  | kl64 + 1, x1, l64_xr55, l64_10 => if l64_10 < (x1.length : Int) then (if (0 : Int) ≤ l64_10 ∧ l64_10 < (x1.length : Int) then ((canon_Full.f K0 (rd x1 l64_10)).bind fun r84 => (if l64_xr55.length + r84.length ≤ most then ((canon_parts.l64 kl64 x1) (l64_xr55 ++ r84) (IntKind.i64.wrap (l64_10 + 1))) else none)) else none) else (some l64_xr55)
def canon_parts.f (x1 : List Int) : Option (List Int) := canon_parts.l64 K0 x1 ([] : List Int) 0
set_option maxRecDepth 100000 in
set_option maxHeartbeats 4000000 in
theorem canon_parts.c {w0 w : World} {ρ : Hp} {Γ : List Item} (hs : St w0 ρ Γ w) {v1 : Value} {x1 : List Int} (h1 : SlR (Rep.int .i32) ρ v1 x1) {r : List Int} (H : canon_parts.f x1 = some r) : CallsR Try.prog 14 [.pointer none, v1] w (fun v w' => ∃ (ρ' : Hp) (v0 : Value) (cs0 : List Value), v = v0 ∧ Le ρ ρ' ∧ St w0 ρ' (.row v0 21 (Rep.int .i32).sz r.length cs0 :: Γ) w' ∧ RowR (Rep.int .i32) ρ' cs0 r) := by
  rw [canon_parts.f] at H
  refine enter Try.func14 Try.ntmps14 rfl (by kernel_rfl) rfl ?_
  refine W_seq fun N51 n52 => ?_
  refine W_region ?_
  refine O_y rfl (Y_assign rfl) ?_
  refine O_nil (n52 _ _ ?_)
  refine W_seq fun N53 n54 => ?_
  refine W_region ?_
  refine O_y rfl (Y_assign rfl) ?_
  have hs := hs.rowNil 21 (Rep.int .i32).sz
  have f56 := RowR.nil (Rep.int .i32) ρ
  refine O_nil (n54 _ _ ?_)
  refine W_seq fun N57 n58 => ?_
  refine W_seq fun N59 n60 => ?_
  refine W_region ?_
  refine O_y rfl (Y_move rfl) ?_
  refine O_y rfl (Y_lenR un32 h1 rfl) ?_
  refine O_y rfl (Y_move rfl) ?_
  refine O_nil (n60 _ _ ?_)
  refine W_block fun X61 x62 y63 => ?_
  refine W_loop (σ := Nat × List Int × Int × Value × List Value × Hp) (fun (kl64, l64_xr55, l64_10, l64_vr55, l64_cr55, l64ρ) => [(0, .pointer none), (5, l64_vr55), (8, v1), (9, .int .i64 (x1.length : Int)), (10, .int .i64 l64_10)]) (fun (kl64, l64_xr55, l64_10, l64_vr55, l64_cr55, l64ρ) w => canon_parts.l64 kl64 x1 l64_xr55 l64_10 = some r ∧ Le ρ l64ρ ∧ St w0 l64ρ ((.row l64_vr55 21 ((Rep.int .i32).sz) l64_xr55.length l64_cr55) :: Γ) w ∧ RowR (Rep.int .i32) l64ρ l64_cr55 l64_xr55) (fun s => s.1) (K0, ([] : List Int), 0, (.slice none 0 0), ([]), ρ) (Sub.cons rfl (Sub.cons rfl (Sub.cons rfl (Sub.cons rfl (Sub.cons rfl Sub.nil))))) (And.intro H (And.intro (Le.rfl' _) (And.intro hs f56))) ?_
  rintro ⟨kl64, l64_xr55, l64_10, l64_vr55, l64_cr55, l64ρ⟩ w N65 ⟨H, l64le, hs, l64_fr55⟩ back66
  show W _ _ _ _ _ _ [(0, .pointer none), (5, l64_vr55), (8, v1), (9, .int .i64 (x1.length : Int)), (10, .int .i64 l64_10)] w
  cases kl64 with
  | zero => rw [canon_parts.l64] at H; cases H
  | succ kl64 =>
  rw [canon_parts.l64] at H
  refine W_seq fun N67 n68 => ?_
  refine W_region ?_
  refine O_y rfl (Y_lss rfl rfl) ?_
  refine O_nil (n68 _ _ ?_)
  refine W_seq fun N69 n70 => ?_
  refine W_if rfl (fun c71 => ?_) (fun c71 => ?_)
  · rw [if_pos c71] at H
    refine W_skip (n70 _ _ ?_)
    refine W_seq fun N72 n73 => ?_
    refine W_block fun X74 x75 y76 => ?_
    refine W_seq fun N77 n78 => ?_
    refine W_region ?_
    by_cases c79 : (0 : Int) ≤ l64_10 ∧ l64_10 < (x1.length : Int)
    case neg => rw [if_neg c79] at H; cases H
    rw [if_pos c79] at H
    obtain ⟨b80, o81, a82, y83⟩ := (h1.mono l64le).ix el32 c79.1 c79.2
    refine O_y rfl (y83 rfl rfl) ?_
    refine O_y rfl (Y_load ag21 rfl (hs.sees _ _ a82.int)) ?_
    refine O_y rfl (Y_assign rfl) ?_
    refine O_nil (n78 _ _ ?_)
    refine W_region ?_
    refine O_y rfl (Y_move rfl) ?_
    refine O_y rfl (Y_move rfl) ?_
    refine O_y rfl (Y_move rfl) ?_
    obtain ⟨r84, hr85, H⟩ := bnd H
    refine O_call rfl rfl ((canon_Full.c K0) hs hr85) (fun v86 w hpost => ?_)
    obtain ⟨ρ91, v87, cs88, rfl, le92, hs, f89⟩ := hpost
    by_cases c93 : l64_xr55.length + r84.length ≤ most
    case neg => rw [if_neg c93] at H; cases H
    rw [if_pos c93] at H
    refine O_appendR (i := 1) el32 hs rfl (l64_fr55.mono le92) rfl rfl rfl (Src.lit (j := 0) hs rfl f89) f89 c93 (fun v94 cs95 w f96 hs => ?_)
    refine O_y rfl (Y_assign rfl) ?_
    refine O_nil (n73 _ _ ?_)
    refine W_region ?_
    refine O_y rfl (Y_add rfl rfl) ?_
    refine O_y rfl (Y_move rfl) ?_
    exact O_nil (back66 (kl64, (l64_xr55 ++ r84), (IntKind.i64.wrap (l64_10 + 1)), v94, cs95, ρ91) _ _ (Sub.cons rfl (Sub.cons rfl (Sub.cons rfl (Sub.cons rfl (Sub.cons rfl Sub.nil))))) (And.intro H (And.intro (l64le.trans le92) (And.intro (hs.sub (.cons _ (.cons_cons _ (List.Sublist.refl _)))) f96))) (Nat.lt_succ_self _))
  · rw [if_neg c71] at H
    refine W_exit (x62 _ _ (n58 _ _ ?_))
    refine W_seq fun N97 n98 => ?_
    refine W_region ?_
    refine O_y rfl (Y_move rfl) ?_
    refine O_y rfl (Y_assign rfl) ?_
    refine O_nil (n98 _ _ ?_)
    refine W_ret ?_
    obtain rfl := Option.some.inj H
    exact ret1 rfl rfl ⟨_, _, _, rfl, l64le, hs, l64_fr55⟩

/-! ### postern/canon.Decompose: function 11 -/
def canon_Decompose.f (x1 : List Int) : Option (List Int) := (canon_parts.f x1).bind fun r55 => ((canon_Order.f r55).bind fun r67 => (some r67))
set_option maxRecDepth 100000 in
set_option maxHeartbeats 4000000 in
theorem canon_Decompose.c {w0 w : World} {ρ : Hp} {Γ : List Item} (hs : St w0 ρ Γ w) {v1 : Value} {x1 : List Int} (h1 : SlR (Rep.int .i32) ρ v1 x1) {r : List Int} (H : canon_Decompose.f x1 = some r) : CallsR Try.prog 11 [.pointer none, v1] w (fun v w' => ∃ (ρ' : Hp) (v0 : Value), v = v0 ∧ Le ρ ρ' ∧ St w0 ρ' (Γ) w' ∧ SlR (Rep.int .i32) ρ' v0 r) := by
  rw [canon_Decompose.f] at H
  refine enter Try.func11 Try.ntmps11 rfl (by kernel_rfl) rfl ?_
  refine W_seq fun N51 n52 => ?_
  refine W_region ?_
  refine O_y rfl (Y_assign rfl) ?_
  refine O_nil (n52 _ _ ?_)
  refine W_seq fun N53 n54 => ?_
  refine W_region ?_
  refine O_y rfl (Y_move rfl) ?_
  refine O_y rfl (Y_move rfl) ?_
  refine O_y rfl (Y_move rfl) ?_
  obtain ⟨r55, hr56, H⟩ := bnd H
  refine O_call rfl rfl (canon_parts.c hs h1 hr56) (fun v57 w hpost => ?_)
  obtain ⟨ρ62, v58, cs59, rfl, le63, hs, f60⟩ := hpost
  obtain ⟨ρ64, le65, hs, f66⟩ := hs.rowEnd (j := 0) f60 rfl
  obtain ⟨r67, hr68, H⟩ := bnd H
  refine O_call rfl rfl (canon_Order.c hs f66 hr68) (fun v69 w hpost => ?_)
  obtain ⟨ρ72, v70, rfl, le73, hs, f71⟩ := hpost
  refine O_y rfl (Y_assign rfl) ?_
  refine O_nil (n54 _ _ ?_)
  refine W_ret ?_
  obtain rfl := Option.some.inj H
  exact ret1 rfl rfl ⟨_, _, rfl, ((le63.trans le65).trans le73), hs, f71⟩

/-! ### postern/canon.NewDecomposer: function 12 -/
def canon_NewDecomposer.f : Option Unit := some ()
set_option maxRecDepth 100000 in
set_option maxHeartbeats 4000000 in
theorem canon_NewDecomposer.c {w0 w : World} {ρ : Hp} {Γ : List Item} (hs : St w0 ρ Γ w) {r : Unit} (H : canon_NewDecomposer.f = some r) : CallsR Try.prog 12 [.pointer none] w (fun v w' => ∃ (ρ' : Hp) (v0 : Value), v = v0 ∧ Le ρ ρ' ∧ St w0 ρ' (Γ) w' ∧ NN ρ' v0 r) := by
  rw [canon_NewDecomposer.f] at H
  refine enter Try.func12 Try.ntmps12 rfl (by kernel_rfl) rfl ?_
  refine W_seq fun N51 n52 => ?_
  refine W_region ?_
  refine O_y rfl (Y_assign rfl) ?_
  refine O_nil (n52 _ _ ?_)
  refine W_seq fun N53 n54 => ?_
  refine W_region ?_
  refine O_y rfl (Y_move rfl) ?_
  refine O_y rfl (Y_build zr38 pl38 ((Parts.cons rfl rfl Parts.nil)) ag38 rfl) ?_
  refine O_boxN (cs := [.pointer none, .slice none 0 0]) hs rfl rfl (fun b55 w hs => ?_)
  refine O_y rfl (Y_assign rfl) ?_
  refine O_nil (n54 _ _ ?_)
  refine W_ret ?_
  obtain rfl := Option.some.inj H
  exact ret1 rfl rfl ⟨_, _, rfl, Le.rfl' _, (hs.sub (.cons _ (List.Sublist.refl _))), ⟨_, rfl⟩⟩

/-! ### postern/posternlaw12.awake: function 5 -/
def law12_awake.j56 (j56_0 : Bool) : Option Bool := some j56_0
def law12_awake.f : Option Bool := (canon_Decompose.f ([65, 44032])).bind fun r63 => ((ref10_Runes.f r63 ([65, 4352, 4449])).bind fun r76 => (if r76 = true then ((canon_NewDecomposer.f).bind fun r80 => (law12_awake.j56 true)) else (law12_awake.j56 false)))
set_option maxRecDepth 100000 in
set_option maxHeartbeats 4000000 in
theorem law12_awake.c {w0 w : World} {ρ : Hp} {Γ : List Item} (hs : St w0 ρ Γ w) {r : Bool} (H : law12_awake.f = some r) : CallsR Try.prog 5 [] w (fun v w' => v = .bool r ∧ St w0 ρ Γ w') := by
  rw [law12_awake.f] at H
  refine enter Try.func5 Try.ntmps5 rfl (by kernel_rfl) rfl ?_
  refine W_seq fun N51 n52 => ?_
  refine W_region ?_
  refine O_y rfl (Y_assign rfl) ?_
  refine O_nil (n52 _ _ ?_)
  refine W_seqj fun N53 n54 s55 => ?_
  have j56 : ∀ (j56_0 : Bool) (j56ρ : Hp) (w : World), law12_awake.j56 j56_0 = some r → Le ρ j56ρ → St w0 j56ρ (Γ) w → N53 [(0, .bool j56_0)] w := by
    intro j56_0 j56ρ w H j56le hs
    rw [law12_awake.j56] at H
    refine n54 _ _ ?_
    refine W_ret ?_
    obtain rfl := Option.some.inj H
    exact ret1 rfl rfl ⟨rfl, (hs.less j56le)⟩
  refine W_region ?_
  refine O_lit (xs := [.const (.int .i32 65), .const (.int .i32 44032)]) el32 hs rfl rfl rfl (by decide) (by decide) rfl (sz_cons rfl (sz_cons rfl sz_nil)) (fun b57 w hs => ?_)
  have f58 : RowR (Rep.int .i32) ρ [.int .i32 65, .int .i32 44032] [65, 44032] := RowR.cons (c := [.int .i32 65]) (x := 65) rfl (RowR.cons (c := [.int .i32 44032]) (x := 44032) rfl (RowR.nil _ _))
  obtain ⟨ρ60, le61, hs, f62⟩ := hs.rowEnd (j := 0) f58 rfl
  obtain ⟨r63, hr64, H⟩ := bnd H
  refine O_call rfl rfl (canon_Decompose.c hs f62 hr64) (fun v65 w hpost => ?_)
  obtain ⟨ρ68, v66, rfl, le69, hs, f67⟩ := hpost
  refine O_lit (xs := [.const (.int .i32 65), .const (.int .i32 4352), .const (.int .i32 4449)]) el32 hs rfl rfl rfl (by decide) (by decide) rfl (sz_cons rfl (sz_cons rfl (sz_cons rfl sz_nil))) (fun b70 w hs => ?_)
  have f71 : RowR (Rep.int .i32) ρ68 [.int .i32 65, .int .i32 4352, .int .i32 4449] [65, 4352, 4449] := RowR.cons (c := [.int .i32 65]) (x := 65) rfl (RowR.cons (c := [.int .i32 4352]) (x := 4352) rfl (RowR.cons (c := [.int .i32 4449]) (x := 4449) rfl (RowR.nil _ _)))
  obtain ⟨ρ73, le74, hs, f75⟩ := hs.rowEnd (j := 0) f71 rfl
  obtain ⟨r76, hr77, H⟩ := bnd H
  refine O_call rfl rfl (ref10_Runes.c hs (f67.mono le74) f75 hr77) (fun v78 w hpost => ?_)
  obtain ⟨rfl, hs⟩ := hpost
  refine O_y rfl (Y_move rfl) ?_
  refine O_cases (dj := 5) rfl (fun c79 => ?_) (fun c79 => ?_)
  · rw [if_pos c79] at H
    refine O_yes rfl rfl ?_
    obtain ⟨r80, hr81, H⟩ := bnd H
    refine O_call rfl rfl (canon_NewDecomposer.c hs hr81) (fun v82 w hpost => ?_)
    obtain ⟨ρ85, v83, rfl, le86, hs, f84⟩ := hpost
    obtain ⟨a87, rfl⟩ := f84
    refine O_yes rfl rfl ?_
    refine O_y rfl (Y_neqp un34 rfl rfl) ?_
    refine O_y rfl (Y_pick_t rfl rfl) ?_
    refine O_y rfl (Y_assign rfl) ?_
    exact O_nil (s55 _ _ _ (Sub.cons rfl Sub.nil) (j56 true ρ85 _ H (((le61.trans le69).trans le74).trans le86) hs))
  · rw [if_neg (by rw [c79]; exact Bool.false_ne_true)] at H
    refine O_no rfl rfl rfl rfl ?_
    refine O_no rfl rfl rfl rfl ?_
    refine O_y rfl (Y_pick_f rfl rfl) ?_
    refine O_y rfl (Y_assign rfl) ?_
    exact O_nil (s55 _ _ _ (Sub.cons rfl Sub.nil) (j56 false ρ73 _ H ((le61.trans le69).trans le74) hs))

/-! ### postern/posternref12.Syllable: function 7 -/
def ref12_Syllable.j58 (x0 : Int) (j58_12 : Bool) : Option (Int × Int × Int × Bool) := if j58_12 = true then (some (0, 0, 0, false)) else (if ((IntKind.i32.wrap (x0 - 44032)).tmod 28) = 0 then (some (IntKind.i32.wrap (4352 + (IntKind.i32.wrap ((IntKind.i32.wrap (x0 - 44032)).tdiv 588))), IntKind.i32.wrap (4449 + (IntKind.i32.wrap (((IntKind.i32.wrap (x0 - 44032)).tmod 588).tdiv 28))), 0, true)) else (some (IntKind.i32.wrap (4352 + (IntKind.i32.wrap ((IntKind.i32.wrap (x0 - 44032)).tdiv 588))), IntKind.i32.wrap (4449 + (IntKind.i32.wrap (((IntKind.i32.wrap (x0 - 44032)).tmod 588).tdiv 28))), IntKind.i32.wrap (4519 + ((IntKind.i32.wrap (x0 - 44032)).tmod 28)), true)))
def ref12_Syllable.f (x0 : Int) : Option (Int × Int × Int × Bool) := if x0 < 44032 then (ref12_Syllable.j58 x0 true) else (ref12_Syllable.j58 x0 (decide (55203 < x0)))
set_option maxRecDepth 100000 in
set_option maxHeartbeats 4000000 in
theorem ref12_Syllable.c {w0 w : World} {ρ : Hp} {Γ : List Item} (hs : St w0 ρ Γ w) {x0 : Int} {r : Int × Int × Int × Bool} (H : ref12_Syllable.f x0 = some r) : CallsR Try.prog 7 [.int .i32 x0] w (fun v w' => v = .tuple #[.int .i32 r.1, .int .i32 r.2.1, .int .i32 r.2.2.1, .bool r.2.2.2] ∧ St w0 ρ Γ w') := by
  rw [ref12_Syllable.f] at H
  refine enter Try.func7 Try.ntmps7 rfl (by kernel_rfl) rfl ?_
  refine W_seq fun N51 n52 => ?_
  refine W_region ?_
  refine O_y rfl (Y_assign rfl) ?_
  refine O_y rfl (Y_assign rfl) ?_
  refine O_y rfl (Y_assign rfl) ?_
  refine O_y rfl (Y_assign rfl) ?_
  refine O_nil (n52 _ _ ?_)
  refine W_seq fun N53 n54 => ?_
  refine W_seqj fun N55 n56 s57 => ?_
  have j58 : ∀ (j58_12 : Bool) (w : World), ref12_Syllable.j58 x0 j58_12 = some r → St w0 ρ (Γ) w → N55 [(0, .int .i32 x0), (12, .bool j58_12)] w := by
    intro j58_12 w H hs
    rw [ref12_Syllable.j58] at H
    refine n56 _ _ ?_
    refine W_cond rfl (fun c59 => ?_) (fun c59 => ?_)
    · rw [if_pos c59] at H
      refine W_seq fun N60 n61 => ?_
      refine W_region ?_
      refine O_y rfl (Y_assign rfl) ?_
      refine O_y rfl (Y_assign rfl) ?_
      refine O_y rfl (Y_assign rfl) ?_
      refine O_y rfl (Y_assign rfl) ?_
      refine O_nil (n61 _ _ ?_)
      refine W_ret ?_
      obtain rfl := Option.some.inj H
      exact ret4 rfl rfl rfl rfl rfl ⟨rfl, hs⟩
    · rw [if_neg (by rw [c59]; exact Bool.false_ne_true)] at H
      refine W_skip (n54 _ _ ?_)
      refine W_seq fun N62 n63 => ?_
      refine W_region ?_
      refine O_y rfl (Y_move rfl) ?_
      refine O_y rfl (Y_sub rfl rfl) ?_
      refine O_y rfl (Y_assign rfl) ?_
      refine O_nil (n63 _ _ ?_)
      refine W_seq fun N64 n65 => ?_
      refine W_seq fun N66 n67 => ?_
      refine W_region ?_
      refine O_y rfl (Y_move rfl) ?_
      refine O_y rfl (Y_rem rfl rfl (by decide)) ?_
      refine O_y rfl (Y_eql rfl rfl) ?_
      refine O_nil (n67 _ _ ?_)
      refine W_if rfl (fun c68 => ?_) (fun c68 => ?_)
      · rw [if_pos c68] at H
        refine W_seq fun N69 n70 => ?_
        refine W_region ?_
        refine O_y rfl (Y_move rfl) ?_
        refine O_y rfl (Y_quo rfl rfl (by decide)) ?_
        refine O_y rfl (Y_add rfl rfl) ?_
        refine O_y rfl (Y_move rfl) ?_
        refine O_y rfl (Y_rem rfl rfl (by decide)) ?_
        refine O_y rfl (Y_quo rfl rfl (by decide)) ?_
        refine O_y rfl (Y_add rfl rfl) ?_
        refine O_y rfl (Y_assign rfl) ?_
        refine O_y rfl (Y_assign rfl) ?_
        refine O_y rfl (Y_assign rfl) ?_
        refine O_y rfl (Y_assign rfl) ?_
        refine O_nil (n70 _ _ ?_)
        refine W.weak [(2, _), (3, _), (4, _), (5, _)] (Sub.cons rfl (Sub.cons rfl (Sub.cons rfl (Sub.cons rfl Sub.nil)))) ?_
        refine W_ret ?_
        obtain rfl := Option.some.inj H
        exact ret4 rfl rfl rfl rfl rfl ⟨rfl, hs⟩
      · rw [if_neg c68] at H
        refine W_skip (n65 _ _ ?_)
        refine W_seq fun N71 n72 => ?_
        refine W_region ?_
        refine O_y rfl (Y_move rfl) ?_
        refine O_y rfl (Y_quo rfl rfl (by decide)) ?_
        refine O_y rfl (Y_add rfl rfl) ?_
        refine O_y rfl (Y_move rfl) ?_
        refine O_y rfl (Y_rem rfl rfl (by decide)) ?_
        refine O_y rfl (Y_quo rfl rfl (by decide)) ?_
        refine O_y rfl (Y_add rfl rfl) ?_
        refine O_y rfl (Y_move rfl) ?_
        refine O_y rfl (Y_rem rfl rfl (by decide)) ?_
        refine O_y rfl (Y_add rfl rfl) ?_
        refine O_y rfl (Y_assign rfl) ?_
        refine O_y rfl (Y_assign rfl) ?_
        refine O_y rfl (Y_assign rfl) ?_
        refine O_y rfl (Y_assign rfl) ?_
        refine O_nil (n72 _ _ ?_)
        refine W.weak [(2, _), (3, _), (4, _), (5, _)] (Sub.cons rfl (Sub.cons rfl (Sub.cons rfl (Sub.cons rfl Sub.nil)))) ?_
        refine W_ret ?_
        obtain rfl := Option.some.inj H
        exact ret4 rfl rfl rfl rfl rfl ⟨rfl, hs⟩
  refine W_region ?_
  refine O_y rfl (Y_move rfl) ?_
  refine O_y rfl (Y_lss rfl rfl) ?_
  refine O_y rfl (Y_move rfl) ?_
  refine O_if (dj := 9) rfl (fun c73 => ?_) (fun c73 => ?_)
  · rw [if_pos c73] at H
    refine O_no rfl rfl rfl rfl ?_
    refine O_no rfl rfl rfl rfl ?_
    refine O_y rfl (Y_pick_t rfl rfl) ?_
    exact O_nil (s57 _ _ _ (Sub.cons rfl (Sub.cons rfl Sub.nil)) (j58 true _ H hs))
  · rw [if_neg c73] at H
    refine O_yes rfl rfl ?_
    refine O_y rfl (Y_move rfl) ?_
    refine O_yes rfl rfl ?_
    refine O_y rfl (Y_gtr rfl rfl) ?_
    refine O_y rfl (Y_pick_f rfl rfl) ?_
    exact O_nil (s57 _ _ _ (Sub.cons rfl (Sub.cons rfl Sub.nil)) (j58 (decide (55203 < x0)) _ H hs))

/-! ### postern/canon.Hangul: function 8 -/
def canon_Hangul.j62 (x0 : Int) (x1 : Int) (j56_2 : Int) (j62_33 : Bool) : Option (Int × Bool) := if j62_33 = true then (some (0, false)) else (some (IntKind.i32.wrap ((IntKind.i32.wrap ((IntKind.i32.wrap (44032 + (IntKind.i32.wrap ((IntKind.i32.wrap ((IntKind.i32.wrap ((IntKind.i32.wrap ((IntKind.i32.wrap (x0 - 4352)) * 21)) + x1)) - 4449)) * 28)))) + j56_2)) - 4519), true))
def canon_Hangul.j56 (x0 : Int) (x1 : Int) (j56_2 : Int) : Option (Int × Bool) := if x0 < 4352 then (canon_Hangul.j62 x0 x1 j56_2 true) else (if 4371 ≤ x0 then (canon_Hangul.j62 x0 x1 j56_2 true) else (if x1 < 4449 then (canon_Hangul.j62 x0 x1 j56_2 true) else (if 4470 ≤ x1 then (canon_Hangul.j62 x0 x1 j56_2 true) else (if j56_2 < 4519 then (canon_Hangul.j62 x0 x1 j56_2 true) else (canon_Hangul.j62 x0 x1 j56_2 (decide (4547 ≤ j56_2)))))))
def canon_Hangul.f (x0 : Int) (x1 : Int) (x2 : Int) : Option (Int × Bool) := if x2 = 0 then (canon_Hangul.j56 x0 x1 4519) else (if x2 = 4519 then (some (0, false)) else (canon_Hangul.j56 x0 x1 x2))
set_option maxRecDepth 100000 in
set_option maxHeartbeats 4000000 in
theorem canon_Hangul.c {w0 w : World} {ρ : Hp} {Γ : List Item} (hs : St w0 ρ Γ w) {x0 : Int} {x1 : Int} {x2 : Int} {r : Int × Bool} (H : canon_Hangul.f x0 x1 x2 = some r) : CallsR Try.prog 8 [.int .i32 x0, .int .i32 x1, .int .i32 x2] w (fun v w' => v = .tuple #[.int .i32 r.1, .bool r.2] ∧ St w0 ρ Γ w') := by
  rw [canon_Hangul.f] at H
  refine enter Try.func8 Try.ntmps8 rfl (by kernel_rfl) rfl ?_
  refine W_seq fun N51 n52 => ?_
  refine W_region ?_
  refine O_y rfl (Y_assign rfl) ?_
  refine O_y rfl (Y_assign rfl) ?_
  refine O_nil (n52 _ _ ?_)
  refine W_seqj fun N53 n54 s55 => ?_
  have j56 : ∀ (j56_2 : Int) (w : World), canon_Hangul.j56 x0 x1 j56_2 = some r → St w0 ρ (Γ) w → N53 [(0, .int .i32 x0), (1, .int .i32 x1), (2, .int .i32 j56_2)] w := by
    intro j56_2 w H hs
    rw [canon_Hangul.j56] at H
    refine n54 _ _ ?_
    refine W_seq fun N57 n58 => ?_
    refine W_seqj fun N59 n60 s61 => ?_
    have j62 : ∀ (j62_33 : Bool) (w : World), canon_Hangul.j62 x0 x1 j56_2 j62_33 = some r → St w0 ρ (Γ) w → N59 [(0, .int .i32 x0), (1, .int .i32 x1), (2, .int .i32 j56_2), (33, .bool j62_33)] w := by
      intro j62_33 w H hs
      rw [canon_Hangul.j62] at H
      refine n60 _ _ ?_
      refine W_cond rfl (fun c63 => ?_) (fun c63 => ?_)
      · rw [if_pos c63] at H
        refine W_seq fun N64 n65 => ?_
        refine W_region ?_
        refine O_y rfl (Y_assign rfl) ?_
        refine O_y rfl (Y_assign rfl) ?_
        refine O_nil (n65 _ _ ?_)
        refine W_ret ?_
        obtain rfl := Option.some.inj H
        exact ret2 rfl rfl rfl ⟨rfl, hs⟩
      · rw [if_neg (by rw [c63]; exact Bool.false_ne_true)] at H
        refine W_skip (n58 _ _ ?_)
        refine W_seq fun N66 n67 => ?_
        refine W_region ?_
        refine O_y rfl (Y_move rfl) ?_
        refine O_y rfl (Y_sub rfl rfl) ?_
        refine O_y rfl (Y_mul rfl rfl) ?_
        refine O_y rfl (Y_move rfl) ?_
        refine O_y rfl (Y_add rfl rfl) ?_
        refine O_y rfl (Y_sub rfl rfl) ?_
        refine O_y rfl (Y_mul rfl rfl) ?_
        refine O_y rfl (Y_add rfl rfl) ?_
        refine O_y rfl (Y_move rfl) ?_
        refine O_y rfl (Y_add rfl rfl) ?_
        refine O_y rfl (Y_sub rfl rfl) ?_
        refine O_y rfl (Y_assign rfl) ?_
        refine O_y rfl (Y_assign rfl) ?_
        refine O_nil (n67 _ _ ?_)
        refine W.weak [(6, _), (7, _)] (Sub.cons rfl (Sub.cons rfl Sub.nil)) ?_
        refine W_ret ?_
        obtain rfl := Option.some.inj H
        exact ret2 rfl rfl rfl ⟨rfl, hs⟩
    refine W_region ?_
    refine O_y rfl (Y_move rfl) ?_
    refine O_y rfl (Y_lss rfl rfl) ?_
    refine O_y rfl (Y_move rfl) ?_
    refine O_if (dj := 14) rfl (fun c68 => ?_) (fun c68 => ?_)
    · rw [if_pos c68] at H
      refine O_no rfl rfl rfl rfl ?_
      refine O_no rfl rfl rfl rfl ?_
      refine O_y rfl (Y_pick_t rfl rfl) ?_
      refine O_y rfl (Y_move rfl) ?_
      refine O_no rfl rfl rfl rfl ?_
      refine O_no rfl rfl rfl rfl ?_
      refine O_y rfl (Y_pick_t rfl rfl) ?_
      refine O_y rfl (Y_move rfl) ?_
      refine O_no rfl rfl rfl rfl ?_
      refine O_no rfl rfl rfl rfl ?_
      refine O_y rfl (Y_pick_t rfl rfl) ?_
      refine O_y rfl (Y_move rfl) ?_
      refine O_no rfl rfl rfl rfl ?_
      refine O_no rfl rfl rfl rfl ?_
      refine O_y rfl (Y_pick_t rfl rfl) ?_
      refine O_y rfl (Y_move rfl) ?_
      refine O_no rfl rfl rfl rfl ?_
      refine O_no rfl rfl rfl rfl ?_
      refine O_y rfl (Y_pick_t rfl rfl) ?_
      exact O_nil (s61 _ _ _ (Sub.cons rfl (Sub.cons rfl (Sub.cons rfl (Sub.cons rfl Sub.nil)))) (j62 true _ H hs))
    · rw [if_neg c68] at H
      refine O_yes rfl rfl ?_
      refine O_y rfl (Y_move rfl) ?_
      refine O_yes rfl rfl ?_
      refine O_y rfl (Y_geq rfl rfl) ?_
      refine O_y rfl (Y_pick_f rfl rfl) ?_
      refine O_y rfl (Y_move rfl) ?_
      refine O_if (dj := 18) rfl (fun c69 => ?_) (fun c69 => ?_)
      · rw [if_pos c69] at H
        refine O_no rfl rfl rfl rfl ?_
        refine O_no rfl rfl rfl rfl ?_
        refine O_y rfl (Y_pick_t rfl rfl) ?_
        refine O_y rfl (Y_move rfl) ?_
        refine O_no rfl rfl rfl rfl ?_
        refine O_no rfl rfl rfl rfl ?_
        refine O_y rfl (Y_pick_t rfl rfl) ?_
        refine O_y rfl (Y_move rfl) ?_
        refine O_no rfl rfl rfl rfl ?_
        refine O_no rfl rfl rfl rfl ?_
        refine O_y rfl (Y_pick_t rfl rfl) ?_
        refine O_y rfl (Y_move rfl) ?_
        refine O_no rfl rfl rfl rfl ?_
        refine O_no rfl rfl rfl rfl ?_
        refine O_y rfl (Y_pick_t rfl rfl) ?_
        exact O_nil (s61 _ _ _ (Sub.cons rfl (Sub.cons rfl (Sub.cons rfl (Sub.cons rfl Sub.nil)))) (j62 true _ H hs))
      · rw [if_neg c69] at H
        refine O_yes rfl rfl ?_
        refine O_y rfl (Y_move rfl) ?_
        refine O_yes rfl rfl ?_
        refine O_y rfl (Y_lss rfl rfl) ?_
        refine O_y rfl (Y_pick_f rfl rfl) ?_
        refine O_y rfl (Y_move rfl) ?_
        refine O_if (dj := 22) rfl (fun c70 => ?_) (fun c70 => ?_)
        · rw [if_pos c70] at H
          refine O_no rfl rfl rfl rfl ?_
          refine O_no rfl rfl rfl rfl ?_
          refine O_y rfl (Y_pick_t rfl rfl) ?_
          refine O_y rfl (Y_move rfl) ?_
          refine O_no rfl rfl rfl rfl ?_
          refine O_no rfl rfl rfl rfl ?_
          refine O_y rfl (Y_pick_t rfl rfl) ?_
          refine O_y rfl (Y_move rfl) ?_
          refine O_no rfl rfl rfl rfl ?_
          refine O_no rfl rfl rfl rfl ?_
          refine O_y rfl (Y_pick_t rfl rfl) ?_
          exact O_nil (s61 _ _ _ (Sub.cons rfl (Sub.cons rfl (Sub.cons rfl (Sub.cons rfl Sub.nil)))) (j62 true _ H hs))
        · rw [if_neg c70] at H
          refine O_yes rfl rfl ?_
          refine O_y rfl (Y_move rfl) ?_
          refine O_yes rfl rfl ?_
          refine O_y rfl (Y_geq rfl rfl) ?_
          refine O_y rfl (Y_pick_f rfl rfl) ?_
          refine O_y rfl (Y_move rfl) ?_
          refine O_if (dj := 26) rfl (fun c71 => ?_) (fun c71 => ?_)
          · rw [if_pos c71] at H
            refine O_no rfl rfl rfl rfl ?_
            refine O_no rfl rfl rfl rfl ?_
            refine O_y rfl (Y_pick_t rfl rfl) ?_
            refine O_y rfl (Y_move rfl) ?_
            refine O_no rfl rfl rfl rfl ?_
            refine O_no rfl rfl rfl rfl ?_
            refine O_y rfl (Y_pick_t rfl rfl) ?_
            exact O_nil (s61 _ _ _ (Sub.cons rfl (Sub.cons rfl (Sub.cons rfl (Sub.cons rfl Sub.nil)))) (j62 true _ H hs))
          · rw [if_neg c71] at H
            refine O_yes rfl rfl ?_
            refine O_y rfl (Y_move rfl) ?_
            refine O_yes rfl rfl ?_
            refine O_y rfl (Y_lss rfl rfl) ?_
            refine O_y rfl (Y_pick_f rfl rfl) ?_
            refine O_y rfl (Y_move rfl) ?_
            refine O_if (dj := 30) rfl (fun c72 => ?_) (fun c72 => ?_)
            · rw [if_pos c72] at H
              refine O_no rfl rfl rfl rfl ?_
              refine O_no rfl rfl rfl rfl ?_
              refine O_y rfl (Y_pick_t rfl rfl) ?_
              exact O_nil (s61 _ _ _ (Sub.cons rfl (Sub.cons rfl (Sub.cons rfl (Sub.cons rfl Sub.nil)))) (j62 true _ H hs))
            · rw [if_neg c72] at H
              refine O_yes rfl rfl ?_
              refine O_y rfl (Y_move rfl) ?_
              refine O_yes rfl rfl ?_
              refine O_y rfl (Y_geq rfl rfl) ?_
              refine O_y rfl (Y_pick_f rfl rfl) ?_
              exact O_nil (s61 _ _ _ (Sub.cons rfl (Sub.cons rfl (Sub.cons rfl (Sub.cons rfl Sub.nil)))) (j62 (decide (4547 ≤ j56_2)) _ H hs))
  refine W_seq fun N73 n74 => ?_
  refine W_region ?_
  refine O_y rfl (Y_move rfl) ?_
  refine O_y rfl (Y_eql rfl rfl) ?_
  refine O_nil (n74 _ _ ?_)
  refine W_if rfl (fun c75 => ?_) (fun c75 => ?_)
  · rw [if_pos c75] at H
    refine W_region ?_
    refine O_y rfl (Y_assign rfl) ?_
    exact O_nil (s55 _ _ _ (Sub.cons rfl (Sub.cons rfl (Sub.cons rfl Sub.nil))) (j56 4519 _ H hs))
  · rw [if_neg c75] at H
    refine W_seq fun N76 n77 => ?_
    refine W_region ?_
    refine O_y rfl (Y_move rfl) ?_
    refine O_y rfl (Y_eql rfl rfl) ?_
    refine O_nil (n77 _ _ ?_)
    refine W_if rfl (fun c78 => ?_) (fun c78 => ?_)
    · rw [if_pos c78] at H
      refine W_seq fun N79 n80 => ?_
      refine W_region ?_
      refine O_y rfl (Y_assign rfl) ?_
      refine O_y rfl (Y_assign rfl) ?_
      refine O_nil (n80 _ _ ?_)
      refine W_ret ?_
      obtain rfl := Option.some.inj H
      exact ret2 rfl rfl rfl ⟨rfl, hs⟩
    · rw [if_neg c78] at H
      exact W_skip (s55 _ _ _ (Sub.cons rfl (Sub.cons rfl (Sub.cons rfl Sub.nil))) (j56 x2 _ H hs))

/-! ### postern/posternref12.Hangul: function 9 -/
def ref12_Hangul.j67 (j67_8 : Int) : Option (Int × Bool) := some (j67_8, true)
def ref12_Hangul.j58 (x0 : Int) (x1 : Int) (x2 : Int) (j58_34 : Bool) : Option (Int × Bool) := if j58_34 = true then (some (0, false)) else (if x2 ≠ 0 then (ref12_Hangul.j67 (IntKind.i32.wrap ((IntKind.i32.wrap ((IntKind.i32.wrap (44032 + (IntKind.i32.wrap (588 * (IntKind.i32.wrap (x0 - 4352)))))) + (IntKind.i32.wrap (28 * (IntKind.i32.wrap (x1 - 4449)))))) + (IntKind.i32.wrap (x2 - 4519))))) else (ref12_Hangul.j67 (IntKind.i32.wrap ((IntKind.i32.wrap (44032 + (IntKind.i32.wrap (588 * (IntKind.i32.wrap (x0 - 4352)))))) + (IntKind.i32.wrap (28 * (IntKind.i32.wrap (x1 - 4449))))))))
def ref12_Hangul.f (x0 : Int) (x1 : Int) (x2 : Int) : Option (Int × Bool) := if x0 < 4352 then (ref12_Hangul.j58 x0 x1 x2 true) else (if 4370 < x0 then (ref12_Hangul.j58 x0 x1 x2 true) else (if x1 < 4449 then (ref12_Hangul.j58 x0 x1 x2 true) else (if 4469 < x1 then (ref12_Hangul.j58 x0 x1 x2 true) else (if x2 ≠ 0 then (if x2 < 4520 then (ref12_Hangul.j58 x0 x1 x2 true) else (ref12_Hangul.j58 x0 x1 x2 (decide (4546 < x2)))) else (ref12_Hangul.j58 x0 x1 x2 false)))))
set_option maxRecDepth 100000 in
set_option maxHeartbeats 4000000 in
theorem ref12_Hangul.c {w0 w : World} {ρ : Hp} {Γ : List Item} (hs : St w0 ρ Γ w) {x0 : Int} {x1 : Int} {x2 : Int} {r : Int × Bool} (H : ref12_Hangul.f x0 x1 x2 = some r) : CallsR Try.prog 9 [.int .i32 x0, .int .i32 x1, .int .i32 x2] w (fun v w' => v = .tuple #[.int .i32 r.1, .bool r.2] ∧ St w0 ρ Γ w') := by
  rw [ref12_Hangul.f] at H
  refine enter Try.func9 Try.ntmps9 rfl (by kernel_rfl) rfl ?_
  refine W_seq fun N51 n52 => ?_
  refine W_region ?_
  refine O_y rfl (Y_assign rfl) ?_
  refine O_y rfl (Y_assign rfl) ?_
  refine O_nil (n52 _ _ ?_)
  refine W_seq fun N53 n54 => ?_
  refine W_seqj fun N55 n56 s57 => ?_
  have j58 : ∀ (j58_34 : Bool) (w : World), ref12_Hangul.j58 x0 x1 x2 j58_34 = some r → St w0 ρ (Γ) w → N55 [(0, .int .i32 x0), (1, .int .i32 x1), (2, .int .i32 x2), (34, .bool j58_34)] w := by
    intro j58_34 w H hs
    rw [ref12_Hangul.j58] at H
    refine n56 _ _ ?_
    refine W_cond rfl (fun c59 => ?_) (fun c59 => ?_)
    · rw [if_pos c59] at H
      refine W_seq fun N60 n61 => ?_
      refine W_region ?_
      refine O_y rfl (Y_assign rfl) ?_
      refine O_y rfl (Y_assign rfl) ?_
      refine O_nil (n61 _ _ ?_)
      refine W_ret ?_
      obtain rfl := Option.some.inj H
      exact ret2 rfl rfl rfl ⟨rfl, hs⟩
    · rw [if_neg (by rw [c59]; exact Bool.false_ne_true)] at H
      refine W_skip (n54 _ _ ?_)
      refine W_seq fun N62 n63 => ?_
      refine W_region ?_
      refine O_y rfl (Y_move rfl) ?_
      refine O_y rfl (Y_sub rfl rfl) ?_
      refine O_y rfl (Y_mul rfl rfl) ?_
      refine O_y rfl (Y_add rfl rfl) ?_
      refine O_y rfl (Y_move rfl) ?_
      refine O_y rfl (Y_sub rfl rfl) ?_
      refine O_y rfl (Y_mul rfl rfl) ?_
      refine O_y rfl (Y_add rfl rfl) ?_
      refine O_y rfl (Y_assign rfl) ?_
      refine O_nil (n63 _ _ ?_)
      refine W_seqj fun N64 n65 s66 => ?_
      have j67 : ∀ (j67_8 : Int) (w : World), ref12_Hangul.j67 j67_8 = some r → St w0 ρ (Γ) w → N64 [(8, .int .i32 j67_8)] w := by
        intro j67_8 w H hs
        rw [ref12_Hangul.j67] at H
        refine n65 _ _ ?_
        refine W_seq fun N68 n69 => ?_
        refine W_region ?_
        refine O_y rfl (Y_move rfl) ?_
        refine O_y rfl (Y_assign rfl) ?_
        refine O_y rfl (Y_assign rfl) ?_
        refine O_nil (n69 _ _ ?_)
        refine W_ret ?_
        obtain rfl := Option.some.inj H
        exact ret2 rfl rfl rfl ⟨rfl, hs⟩
      refine W_seq fun N70 n71 => ?_
      refine W_region ?_
      refine O_y rfl (Y_move rfl) ?_
      refine O_y rfl (Y_neq rfl rfl) ?_
      refine O_nil (n71 _ _ ?_)
      refine W.weak [(2, _), (8, _), (44, _)] (Sub.cons rfl (Sub.cons rfl (Sub.cons rfl Sub.nil))) ?_
      refine W_if rfl (fun c72 => ?_) (fun c72 => ?_)
      · rw [if_pos c72] at H
        refine W_region ?_
        refine O_y rfl (Y_move rfl) ?_
        refine O_y rfl (Y_move rfl) ?_
        refine O_y rfl (Y_sub rfl rfl) ?_
        refine O_y rfl (Y_add rfl rfl) ?_
        refine O_y rfl (Y_assign rfl) ?_
        exact O_nil (s66 _ _ _ (Sub.cons rfl Sub.nil) (j67 (IntKind.i32.wrap ((IntKind.i32.wrap ((IntKind.i32.wrap (44032 + (IntKind.i32.wrap (588 * (IntKind.i32.wrap (x0 - 4352)))))) + (IntKind.i32.wrap (28 * (IntKind.i32.wrap (x1 - 4449)))))) + (IntKind.i32.wrap (x2 - 4519)))) _ H hs))
      · rw [if_neg c72] at H
        exact W_skip (s66 _ _ _ (Sub.cons rfl Sub.nil) (j67 (IntKind.i32.wrap ((IntKind.i32.wrap (44032 + (IntKind.i32.wrap (588 * (IntKind.i32.wrap (x0 - 4352)))))) + (IntKind.i32.wrap (28 * (IntKind.i32.wrap (x1 - 4449)))))) _ H hs))
  refine W_region ?_
  refine O_y rfl (Y_move rfl) ?_
  refine O_y rfl (Y_lss rfl rfl) ?_
  refine O_y rfl (Y_move rfl) ?_
  refine O_if (dj := 11) rfl (fun c73 => ?_) (fun c73 => ?_)
  · rw [if_pos c73] at H
    refine O_no rfl rfl rfl rfl ?_
    refine O_no rfl rfl rfl rfl ?_
    refine O_y rfl (Y_pick_t rfl rfl) ?_
    refine O_y rfl (Y_move rfl) ?_
    refine O_no rfl rfl rfl rfl ?_
    refine O_no rfl rfl rfl rfl ?_
    refine O_y rfl (Y_pick_t rfl rfl) ?_
    refine O_y rfl (Y_move rfl) ?_
    refine O_no rfl rfl rfl rfl ?_
    refine O_no rfl rfl rfl rfl ?_
    refine O_y rfl (Y_pick_t rfl rfl) ?_
    refine O_y rfl (Y_move rfl) ?_
    refine O_no rfl rfl rfl rfl ?_
    refine O_no rfl rfl rfl rfl ?_
    refine O_no rfl rfl rfl rfl ?_
    refine O_nou rfl rfl rfl ?_
    refine O_nou rfl rfl rfl ?_
    refine O_nou rfl rfl rfl ?_
    refine O_nou rfl rfl rfl ?_
    refine O_nou rfl rfl rfl ?_
    refine O_nou rfl rfl rfl ?_
    refine O_no rfl rfl rfl rfl ?_
    refine O_y rfl (Y_pick_t rfl rfl) ?_
    exact O_nil (s57 _ _ _ (Sub.cons rfl (Sub.cons rfl (Sub.cons rfl (Sub.cons rfl Sub.nil)))) (j58 true _ H hs))
  · rw [if_neg c73] at H
    refine O_yes rfl rfl ?_
    refine O_y rfl (Y_move rfl) ?_
    refine O_yes rfl rfl ?_
    refine O_y rfl (Y_gtr rfl rfl) ?_
    refine O_y rfl (Y_pick_f rfl rfl) ?_
    refine O_y rfl (Y_move rfl) ?_
    refine O_if (dj := 15) rfl (fun c74 => ?_) (fun c74 => ?_)
    · rw [if_pos c74] at H
      refine O_no rfl rfl rfl rfl ?_
      refine O_no rfl rfl rfl rfl ?_
      refine O_y rfl (Y_pick_t rfl rfl) ?_
      refine O_y rfl (Y_move rfl) ?_
      refine O_no rfl rfl rfl rfl ?_
      refine O_no rfl rfl rfl rfl ?_
      refine O_y rfl (Y_pick_t rfl rfl) ?_
      refine O_y rfl (Y_move rfl) ?_
      refine O_no rfl rfl rfl rfl ?_
      refine O_no rfl rfl rfl rfl ?_
      refine O_no rfl rfl rfl rfl ?_
      refine O_nou rfl rfl rfl ?_
      refine O_nou rfl rfl rfl ?_
      refine O_nou rfl rfl rfl ?_
      refine O_nou rfl rfl rfl ?_
      refine O_nou rfl rfl rfl ?_
      refine O_nou rfl rfl rfl ?_
      refine O_no rfl rfl rfl rfl ?_
      refine O_y rfl (Y_pick_t rfl rfl) ?_
      exact O_nil (s57 _ _ _ (Sub.cons rfl (Sub.cons rfl (Sub.cons rfl (Sub.cons rfl Sub.nil)))) (j58 true _ H hs))
    · rw [if_neg c74] at H
      refine O_yes rfl rfl ?_
      refine O_y rfl (Y_move rfl) ?_
      refine O_yes rfl rfl ?_
      refine O_y rfl (Y_lss rfl rfl) ?_
      refine O_y rfl (Y_pick_f rfl rfl) ?_
      refine O_y rfl (Y_move rfl) ?_
      refine O_if (dj := 19) rfl (fun c75 => ?_) (fun c75 => ?_)
      · rw [if_pos c75] at H
        refine O_no rfl rfl rfl rfl ?_
        refine O_no rfl rfl rfl rfl ?_
        refine O_y rfl (Y_pick_t rfl rfl) ?_
        refine O_y rfl (Y_move rfl) ?_
        refine O_no rfl rfl rfl rfl ?_
        refine O_no rfl rfl rfl rfl ?_
        refine O_no rfl rfl rfl rfl ?_
        refine O_nou rfl rfl rfl ?_
        refine O_nou rfl rfl rfl ?_
        refine O_nou rfl rfl rfl ?_
        refine O_nou rfl rfl rfl ?_
        refine O_nou rfl rfl rfl ?_
        refine O_nou rfl rfl rfl ?_
        refine O_no rfl rfl rfl rfl ?_
        refine O_y rfl (Y_pick_t rfl rfl) ?_
        exact O_nil (s57 _ _ _ (Sub.cons rfl (Sub.cons rfl (Sub.cons rfl (Sub.cons rfl Sub.nil)))) (j58 true _ H hs))
      · rw [if_neg c75] at H
        refine O_yes rfl rfl ?_
        refine O_y rfl (Y_move rfl) ?_
        refine O_yes rfl rfl ?_
        refine O_y rfl (Y_gtr rfl rfl) ?_
        refine O_y rfl (Y_pick_f rfl rfl) ?_
        refine O_y rfl (Y_move rfl) ?_
        refine O_if (dj := 23) rfl (fun c76 => ?_) (fun c76 => ?_)
        · rw [if_pos c76] at H
          refine O_no rfl rfl rfl rfl ?_
          refine O_no rfl rfl rfl rfl ?_
          refine O_no rfl rfl rfl rfl ?_
          refine O_nou rfl rfl rfl ?_
          refine O_nou rfl rfl rfl ?_
          refine O_nou rfl rfl rfl ?_
          refine O_nou rfl rfl rfl ?_
          refine O_nou rfl rfl rfl ?_
          refine O_nou rfl rfl rfl ?_
          refine O_no rfl rfl rfl rfl ?_
          refine O_y rfl (Y_pick_t rfl rfl) ?_
          exact O_nil (s57 _ _ _ (Sub.cons rfl (Sub.cons rfl (Sub.cons rfl (Sub.cons rfl Sub.nil)))) (j58 true _ H hs))
        · rw [if_neg c76] at H
          refine O_yes rfl rfl ?_
          refine O_y rfl (Y_move rfl) ?_
          refine O_yes rfl rfl ?_
          refine O_y rfl (Y_neq rfl rfl) ?_
          refine O_yes rfl rfl ?_
          refine O_y rfl (Y_move rfl) ?_
          refine O_if (dj := 26) rfl (fun c77 => ?_) (fun c77 => ?_)
          · rw [if_pos c77] at H
            refine O_yes rfl rfl ?_
            refine O_y rfl (Y_move rfl) ?_
            refine O_yes rfl rfl ?_
            refine O_y rfl (Y_lss rfl rfl) ?_
            refine O_yes rfl rfl ?_
            refine O_y rfl (Y_move rfl) ?_
            refine O_if (dj := 29) rfl (fun c78 => ?_) (fun c78 => ?_)
            · rw [if_pos c78] at H
              refine O_no rfl rfl rfl rfl ?_
              refine O_no rfl rfl rfl rfl ?_
              refine O_yes rfl rfl ?_
              refine O_y rfl (Y_pick_t rfl rfl) ?_
              refine O_yes rfl rfl ?_
              refine O_y rfl (Y_pick_t rfl rfl) ?_
              refine O_y rfl (Y_pick_f rfl rfl) ?_
              exact O_nil (s57 _ _ _ (Sub.cons rfl (Sub.cons rfl (Sub.cons rfl (Sub.cons rfl Sub.nil)))) (j58 true _ H hs))
            · rw [if_neg c78] at H
              refine O_yes rfl rfl ?_
              refine O_y rfl (Y_move rfl) ?_
              refine O_yes rfl rfl ?_
              refine O_y rfl (Y_gtr rfl rfl) ?_
              refine O_yes rfl rfl ?_
              refine O_y rfl (Y_pick_f rfl rfl) ?_
              refine O_yes rfl rfl ?_
              refine O_y rfl (Y_pick_t rfl rfl) ?_
              refine O_y rfl (Y_pick_f rfl rfl) ?_
              exact O_nil (s57 _ _ _ (Sub.cons rfl (Sub.cons rfl (Sub.cons rfl (Sub.cons rfl Sub.nil)))) (j58 (decide (4546 < x2)) _ H hs))
          · rw [if_neg c77] at H
            refine O_no rfl rfl rfl rfl ?_
            refine O_no rfl rfl rfl rfl ?_
            refine O_no rfl rfl rfl rfl ?_
            refine O_nou rfl rfl rfl ?_
            refine O_nou rfl rfl rfl ?_
            refine O_no rfl rfl rfl rfl ?_
            refine O_yes rfl rfl ?_
            refine O_y rfl (Y_pick_f rfl rfl) ?_
            refine O_y rfl (Y_pick_f rfl rfl) ?_
            exact O_nil (s57 _ _ _ (Sub.cons rfl (Sub.cons rfl (Sub.cons rfl (Sub.cons rfl Sub.nil)))) (j58 false _ H hs))

end Go.Proofs.Ytdpfabdpojbmaaa
