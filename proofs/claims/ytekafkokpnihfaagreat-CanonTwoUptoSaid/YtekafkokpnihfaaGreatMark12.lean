/- posternlaw12.mark, by hand: two lists of one's own are written over and let go. Own work of this repo. -/
import Derived.Test.YtekafkokpnihfaaGreatData
import Derived.Test.YtekafkokpnihfaaGreatFacts
namespace Go.Proofs.YtekafkokpnihfaaGreat
open Go.RowKit
set_option maxRecDepth 100000 in
set_option maxHeartbeats 4000000 in
theorem law12_mark.c {w0 w : World} {ρ : Hp} {Γ : List Item} {v a b : Value} {m n : Nat} {cs ds : List Value} (hs : St w0 ρ ((.row v 28 1 2 [a, b]) :: (.row a 21 1 m cs) :: (.row b 21 1 n ds) :: Γ) w) (hm : m + 5 ≤ most) (hn : n + 5 ≤ most) :
    CallsR Tryz.prog 15 [v] w (fun u w' => u = .tuple #[] ∧ St w0 ρ Γ w') := by
  have hbig : most = 2147483648 := rfl
  refine enter Tryz.func15 Tryz.ntmps15 rfl (by kernel_rfl) rfl ?_
  refine W_seq fun N1 n1 => ?_
  refine W_region ?_
  refine O_y rfl (Y_move rfl) ?_
  refine O_y rfl (Y_lenRow (i := 0) un43 hs rfl rfl) ?_
  refine O_y rfl (Y_move rfl) ?_
  refine O_nil (n1 _ _ ?_)
  refine W_block fun X1 x1 y1 => ?_
  refine W_loop (σ := Nat) (fun i => [(5, v), (6, .int .i64 ((2 : Nat) : Int)), (7, .int .i64 (i : Int))]) (fun i w => (i = 0 ∧ St w0 ρ ((.row v 28 1 2 [a, b]) :: (.row a 21 1 m cs) :: (.row b 21 1 n ds) :: Γ) w) ∨ (i = 1 ∧ St w0 ρ ((.row v 28 1 2 [a, b]) :: (.row b 21 1 n ds) :: Γ) w) ∨ (i = 2 ∧ St w0 ρ Γ w))
    (fun i => 3 - i) 0 (Sub.cons rfl (Sub.cons rfl (Sub.cons rfl Sub.nil))) (.inl ⟨rfl, hs⟩) ?_
  intro i w N2 hI back1
  show W _ _ _ _ _ _ [(5, v), (6, .int .i64 ((2 : Nat) : Int)), (7, .int .i64 (i : Int))] w
  refine W_seq fun N3 n3 => ?_
  refine W_region ?_
  refine O_y rfl (Y_lss rfl rfl) ?_
  refine O_nil (n3 _ _ ?_)
  refine W_seq fun N4 n4 => ?_
  refine W_if rfl (fun c => ?_) (fun c => ?_)
  · have hi2 : i < 2 := by omega
    have hcur : ∃ (u : Value) (q : Nat) (es : List Value) (Δ : List Item), q + 5 ≤ most ∧ ([a, b] : List Value)[(i : Int).toNat * 1]? = some u ∧ St w0 ρ ((.row v 28 1 2 [a, b]) :: (.row u 21 1 q es) :: Δ) w ∧
        (∀ w', St w0 ρ ((.row v 28 1 2 [a, b]) :: Δ) w' → (i + 1 = 0 ∧ St w0 ρ ((.row v 28 1 2 [a, b]) :: (.row a 21 1 m cs) :: (.row b 21 1 n ds) :: Γ) w') ∨ (i + 1 = 1 ∧ St w0 ρ ((.row v 28 1 2 [a, b]) :: (.row b 21 1 n ds) :: Γ) w') ∨ (i + 1 = 2 ∧ St w0 ρ Γ w')) := by
      rcases hI with ⟨rfl, h⟩ | ⟨rfl, h⟩ | ⟨rfl, h⟩
      · exact ⟨a, m, cs, _, hm, rfl, h, fun w' h' => .inr (.inl ⟨rfl, h'⟩)⟩
      · exact ⟨b, n, ds, _, hn, rfl, h, fun w' h' => .inr (.inr ⟨rfl, h'.sub (.cons _ (List.Sublist.refl _))⟩)⟩
      · omega
    clear hI hs hm hn
    obtain ⟨u, q, es, Δ, hq, hcell, hs, hend⟩ := hcur
    refine W_skip (n4 _ _ ?_)
    refine W_seq fun N5 n5 => ?_
    refine W_block fun X2 x2 y2 => ?_
    refine W_seq fun N6 n6 => ?_
    refine W_region ?_
    obtain ⟨g, gf⟩ := hs.rowBlock (j := 0) rfl (by decide)
    refine O_y rfl (Y_ixRow (j := 0) el43 hs rfl gf rfl rfl (by omega) (by omega)) ?_
    refine O_y rfl (Y_load ag28 rfl (hs.rowCell (j := 0) rfl gf hcell)) ?_
    refine O_y rfl (Y_assign rfl) ?_
    refine O_nil (n6 _ _ ?_)
    refine W_seq fun N7 n7 => ?_
    refine W_seq fun N8 n8 => ?_
    refine W_region ?_
    refine O_y rfl (Y_move rfl) ?_
    refine O_y rfl (Y_lenRow (i := 1) un28 hs rfl rfl) ?_
    refine O_y rfl (Y_move rfl) ?_
    refine O_nil (n8 _ _ ?_)
    refine W_block fun X3 x3 y3 => ?_
    refine W_loop (σ := Nat × List Value) (fun (k, es) => [(3, u), (5, v), (6, .int .i64 ((2 : Nat) : Int)), (7, .int .i64 (i : Int)), (12, .int .i64 (q : Int)), (13, .int .i64 (k : Int))]) (fun (k, es) w => k ≤ q ∧ St w0 ρ ((.row v 28 1 2 [a, b]) :: (.row u 21 1 q es) :: Δ) w)
      (fun s => q + 1 - s.1) (0, es) (by repeat first | exact Sub.nil | refine Sub.cons rfl ?_) ⟨Nat.zero_le _, hs⟩ ?_
    rintro ⟨k, es⟩ w N9 ⟨hk, hs⟩ back2
    show W _ _ _ _ _ _ [(3, u), (5, v), (6, .int .i64 ((2 : Nat) : Int)), (7, .int .i64 (i : Int)), (12, .int .i64 (q : Int)), (13, .int .i64 (k : Int))] w
    refine W_seq fun N10 n10 => ?_
    refine W_region ?_
    refine O_y rfl (Y_lss rfl rfl) ?_
    refine O_nil (n10 _ _ ?_)
    refine W_seq fun N11 n11 => ?_
    refine W_if rfl (fun c2 => ?_) (fun c2 => ?_)
    · refine W_skip (n11 _ _ ?_)
      refine W_seq fun N12 n12 => ?_
      refine W_block fun X4 x4 y4 => ?_
      refine W_seq fun N13 n13 => ?_
      refine W_region ?_
      refine O_y rfl (Y_move rfl) ?_
      refine O_y rfl (Y_assign rfl) ?_
      refine O_nil (n13 _ _ ?_)
      refine W_region ?_
      refine O_y rfl (Y_move rfl) ?_
      refine O_y rfl (Y_move rfl) ?_
      obtain ⟨g2, gf2⟩ := hs.rowBlock (j := 1) rfl (by omega)
      refine O_y rfl (Y_ixRow (j := 1) el28 hs rfl gf2 rfl rfl (by omega) (by omega)) ?_
      have hlen : es.length = q * 1 := (hs.ok _ (List.mem_of_getElem? (i := 1) rfl) : w.ownsRow 0 21 1 u q es).1
      refine O_storeRow (j := 1) sz21 hs rfl gf2 (by omega) rfl rfl rfl (fun w hs => ?_)
      refine O_nil (n12 _ _ ?_)
      refine W_region ?_
      refine O_y rfl (Y_add rfl rfl) ?_
      have w1 : IntKind.i64.wrap ((k : Int) + 1) = ((k + 1 : Nat) : Int) := by rw [IntKind.wrap_i64]; omega
      rw [w1]
      refine O_y rfl (Y_move rfl) ?_
      exact O_nil (back2 (k + 1, _) _ _ (by repeat first | exact Sub.nil | refine Sub.cons rfl ?_) ⟨by omega, hs⟩ (by show q + 1 - (k + 1) < q + 1 - k; omega))
    · refine W_exit (x3 _ _ (n7 _ _ ?_))
      refine W_seq fun N14 n14 => ?_
      refine W_region ?_
      refine O_y rfl (Y_move rfl) ?_
      refine O_nil (n14 _ _ ?_)
      refine W_block fun X5 x5 y5 => ?_
      refine W_loop (σ := Nat × Value × Nat × List Value) (fun (k, u, q, es) => [(3, u), (5, v), (6, .int .i64 ((2 : Nat) : Int)), (7, .int .i64 (i : Int)), (20, .int .i64 (k : Int))]) (fun (k, u, q, es) w => k ≤ 5 ∧ q + (5 - k) ≤ most ∧ St w0 ρ ((.row v 28 1 2 [a, b]) :: (.row u 21 1 q es) :: Δ) w)
        (fun s => 6 - s.1) (0, u, q, es) (by repeat first | exact Sub.nil | refine Sub.cons rfl ?_) ⟨Nat.zero_le _, by omega, hs⟩ ?_
      clear hs hq gf back2
      rintro ⟨k, u, q, es⟩ w N15 ⟨hk, hq, hs⟩ back3
      show W _ _ _ _ _ _ [(3, u), (5, v), (6, .int .i64 ((2 : Nat) : Int)), (7, .int .i64 (i : Int)), (20, .int .i64 (k : Int))] w
      refine W_seq fun N16 n16 => ?_
      refine W_region ?_
      refine O_y rfl (Y_lss rfl rfl) ?_
      refine O_nil (n16 _ _ ?_)
      refine W_seq fun N17 n17 => ?_
      refine W_if rfl (fun c3 => ?_) (fun c3 => ?_)
      · refine W_skip (n17 _ _ ?_)
        refine W_seq fun N18 n18 => ?_
        refine W_block fun X6 x6 y6 => ?_
        refine W_region ?_
        refine O_y rfl (Y_move rfl) ?_
        refine O_lit (xs := [.const (.int .i32 (-6))]) el28 hs rfl rfl rfl (by decide) (by decide) rfl (sz_cons rfl sz_nil) (fun b2 w hs => ?_)
        refine O_append (i := 2) el28 hs rfl rfl rfl rfl (Src.row hs (j := 0) rfl (by intro z hz; simp [Value.cells] at hz; subst hz; rfl)) (by omega) (fun u2 w hs => ?_)
        refine O_y rfl (Y_assign rfl) ?_
        refine O_nil (n18 _ _ ?_)
        have hs := hs.sub (.cons _ (List.Sublist.refl _))
        refine W_region ?_
        refine O_y rfl (Y_add rfl rfl) ?_
        have w1 : IntKind.i64.wrap ((k : Int) + 1) = ((k + 1 : Nat) : Int) := by rw [IntKind.wrap_i64]; omega
        rw [w1]
        refine O_y rfl (Y_move rfl) ?_
        exact O_nil (back3 (k + 1, _, _, _) _ _ (by repeat first | exact Sub.nil | refine Sub.cons rfl ?_) ⟨by omega, by omega, hs⟩ (by show 6 - (k + 1) < 6 - k; omega))
      · refine W_exit (x5 _ _ (n5 _ _ ?_))
        have hs := hs.sub (.cons_cons _ (.cons _ (List.Sublist.refl _)))
        refine W_region ?_
        refine O_y rfl (Y_add rfl rfl) ?_
        have w1 : IntKind.i64.wrap ((i : Int) + 1) = ((i + 1 : Nat) : Int) := by rw [IntKind.wrap_i64]; omega
        rw [w1]
        refine O_y rfl (Y_move rfl) ?_
        exact O_nil (back1 (i + 1) _ _ (by repeat first | exact Sub.nil | refine Sub.cons rfl ?_) (hend _ hs) (by show 3 - (i + 1) < 3 - i; omega))
  · have hs : St w0 ρ Γ w := by
      rcases hI with ⟨rfl, h⟩ | ⟨rfl, h⟩ | ⟨rfl, h⟩
      · exact absurd (by decide) c
      · exact absurd (by decide) c
      · exact h
    refine W_exit (x1 _ _ ?_)
    exact ret0 rfl ⟨rfl, hs⟩
end Go.Proofs.YtekafkokpnihfaaGreat
