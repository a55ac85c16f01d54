/- Written by this repo's gen.py: for each Go function a Lean function with the same answers and the walk that shows it. -/
import Derived.Test.YtekafkokpnihfaaGreatTA4
import Derived.Test.YtekafkokpnihfaaGreatTA6
import Derived.Test.YtekafkokpnihfaaGreatTA7
import Derived.Test.YtekafkokpnihfaaGreatTC0
import Derived.Test.YtekafkokpnihfaaGreatTC1
import Derived.Test.YtekafkokpnihfaaGreatData
import Derived.Test.YtekafkokpnihfaaGreatFacts
namespace Go.Proofs.YtekafkokpnihfaaGreat
open Go.RowKit
set_option maxRecDepth 100000
set_option maxHeartbeats 4000000
set_option linter.unusedVariables false
def law12_tables.j1 (ae : Bk) (ac : Option Tbs × Int) (ab : Bool) : Option (Option Tbs × Bk × Bool) := some (ac.1, ae, ab)
def law12_tables.f (x0 : Bk) : Option (Option Tbs × Bk × Bool) := (ref10_Of.f x0).bind fun ae => ((ref10_Check.f ae).bind fun af => ((book_Compile.f x0).bind fun ac => (if af.2.2 ≠ 0 then (some (none, (⟨([] : List ByteArray), ([] : List Val), ([] : List Chs), ([] : List Val), ([] : List Chs), ([] : List Spn), ([] : List Val), ([] : List Val), ([] : List Spn), ([] : List Val), ([] : List Chs)⟩ : Bk), decide (ac.2 = af.2.2))) else (if ac.2 = 0 then (law12_tables.j1 ae ac ((ac.1).isSome)) else (law12_tables.j1 ae ac false)))))
theorem law12_tables.c {w0 w : World} {ρ : Hp} {Γ : List Item} (hs : St w0 ρ (Γ) w) {c0 : List Value} {x0 : Bk} (h0 : rBk.R ρ c0 x0) {r : Option Tbs × Bk × Bool} (H : law12_tables.f x0 = some r) : CallsR Tryz.prog 5 [.agg c0.toArray] w (fun v w' => ∃ (ρ' : Hp) (v0 : Value) (cs1 : List Value), v = .tuple #[v0, .agg cs1.toArray, .bool r.2.2] ∧ Le ρ ρ' ∧ St w0 ρ' (Γ) w' ∧ PtrR rTbs ρ' v0 r.1 ∧ rBk.R ρ' cs1 r.2.1) := by
  rw [law12_tables.f] at H
  refine enter Tryz.func5 Tryz.ntmps5 rfl (by kernel_rfl) rfl ?_
  have cg := h0
  obtain ⟨a0, a1, a2, a3, a4, a5, a6, a7, a8, a9, ba, rfl, cu, cv, cw, cx, cy, cz, da, db, dc, dd, de⟩ := cg
  refine Wr fun df ch => O_boxN (cs := [a0, a1, a2, a3, a4, a5, a6, a7, a8, a9, ba]) hs rfl rfl (fun cf w hs => Oa rfl rfl <| O_alloc zr34 hs rfl (fun bb w hs => Oa rfl rfl <| O_nil (ch _ _ <| Wr fun dg ci => O_y rfl (Y_loadbN (i := 1) ag27 sz27 hs rfl rfl rfl rfl) ?_)))
  obtain ⟨ae, bc, H⟩ := bnd H
  refine O_call rfl rfl (ref10_Of.c hs h0 bc) (fun dh w hpost => ?_)
  obtain ⟨di, cj, rfl, ag, hs, bd⟩ := hpost
  have be := bd
  obtain ⟨bf, bg, bh, bi, bj, bk, bl, ah, ai, aj, ak, rfl, bm, bn, bo, bp, bq, br, al, am, an, ao, ap⟩ := be
  refine O_alloc zr34 hs rfl (fun au w hs => O_storeN (i := 0) sz34 hs rfl rfl rfl rfl rfl (one_cons bm.one (one_cons bn.one (one_cons bo.one (one_cons bp.one (one_cons bq.one (one_cons br.one (one_cons al.one (one_cons am.one (one_cons an.one (one_cons ao.one (one_cons ap.one one_nil))))))))))) (fun w hs => O_nil (ci _ _ <| Wr fun ck bs => O_y rfl (Y_loadbN (i := 0) ag34 sz34 hs rfl rfl rfl rfl) ?_)))
  obtain ⟨af, av, H⟩ := bnd H
  refine O_call rfl rfl (ref10_Check.c hs bd av) (fun cl w hpost => ?_)
  obtain ⟨rfl, hs⟩ := hpost
  refine Om rfl rfl <| O_y rfl (Y_extract rfl rfl) <| O_y rfl (Y_extract rfl rfl) <| O_y rfl (Y_extract rfl rfl) <| Oa rfl rfl <| Oa rfl rfl <| Oa rfl rfl <| O_nil (bs _ _ <| W.weak [(1, _), (3, _), (5, _), (8, _)] (S4 rfl rfl rfl rfl) <| Wr fun cm bt => O_y rfl (Y_loadbN (i := 2) ag27 sz27 hs rfl rfl rfl rfl) ?_)
  obtain ⟨ac, aw, H⟩ := bnd H
  refine O_call rfl rfl (book_Compile.c hs (rBk.mono ag h0) aw) (fun cn w hpost => ?_)
  obtain ⟨aa, bu, rfl, ad, hs, ax⟩ := hpost
  refine Om rfl rfl <| O_y rfl (Y_extract rfl rfl) <| O_y rfl (Y_extract rfl rfl) <| Oa rfl rfl <| Oa rfl rfl <| O_nil (bt _ _ <| W_seq fun co bv => Wr fun cp bw => Om rfl rfl <| O_y rfl (Y_neq rfl rfl) <| O_nil (bw _ _ <| W_if rfl (fun aq => ?_) (fun aq => ?_)))
  ·rw [if_pos aq] at H
   refine Wr fun cq bx => O_y rfl (Y_build (cs := [.slice none 0 0, .slice none 0 0, .slice none 0 0, .slice none 0 0, .slice none 0 0, .slice none 0 0, .slice none 0 0, .slice none 0 0, .slice none 0 0, .slice none 0 0, .slice none 0 0]) zr34 pl34 (Parts.nil) ag34 (by kernel_rfl)) <| Om rfl rfl <| Om rfl rfl <| O_y rfl (Y_eql rfl rfl) <| Oa rfl rfl <| O_storeN (i := 1) sz34 hs rfl rfl rfl rfl rfl (one_cons rfl (one_cons rfl (one_cons rfl (one_cons rfl (one_cons rfl (one_cons rfl (one_cons rfl (one_cons rfl (one_cons rfl (one_cons rfl (one_cons rfl one_nil))))))))))) (fun w hs => Oa rfl rfl <| O_nil (bx _ _ <| W.weak [(2, _), (3, _), (4, _)] (S3 rfl rfl rfl) <| W_ret ?_))
   have bz : PtrR rTbs aa (.pointer none) none := PtrR.nil _ _
   have b0 : SlR Rep.str aa (.slice none 0 0) [] := .inl ⟨rfl, none, 0, rfl⟩
   have b1 : SlR rVal aa (.slice none 0 0) [] := .inl ⟨rfl, none, 0, rfl⟩
   have b2 : SlR rChs aa (.slice none 0 0) [] := .inl ⟨rfl, none, 0, rfl⟩
   have b3 : SlR rVal aa (.slice none 0 0) [] := .inl ⟨rfl, none, 0, rfl⟩
   have b4 : SlR rChs aa (.slice none 0 0) [] := .inl ⟨rfl, none, 0, rfl⟩
   have b5 : SlR rSpn aa (.slice none 0 0) [] := .inl ⟨rfl, none, 0, rfl⟩
   have b6 : SlR rVal aa (.slice none 0 0) [] := .inl ⟨rfl, none, 0, rfl⟩
   have b7 : SlR rVal aa (.slice none 0 0) [] := .inl ⟨rfl, none, 0, rfl⟩
   have b8 : SlR rSpn aa (.slice none 0 0) [] := .inl ⟨rfl, none, 0, rfl⟩
   have b9 : SlR rVal aa (.slice none 0 0) [] := .inl ⟨rfl, none, 0, rfl⟩
   have ca : SlR rChs aa (.slice none 0 0) [] := .inl ⟨rfl, none, 0, rfl⟩
   obtain rfl := sinj H
   exact retN rfl (RV.tmp rfl (RV.cell rfl ag34 sz34 rfl (fun j u hu => hs.boxCell (i := 1) rfl hu) (RV.tmp rfl RV.nil))) (by simp) ⟨_, _, _, rfl, (ag.trans ad), (hs.sub (ssk (ssk (ssk ssr)))), bz, ⟨_, _, _, _, _, _, _, _, _, _, _, rfl, b0, b1, b2, b3, b4, b5, b6, b7, b8, b9, ca⟩⟩
  ·rw [if_neg aq] at H
   refine W_skip (bv _ _ <| W_seqj fun cb cc ay => ?_)
   have az : ∀ (ab : Bool) (w : World), law12_tables.j1 ae ac ab = some r → St w0 aa ((.box au 34 ([bf, bg, bh, bi, bj, bk, bl, ah, ai, aj, ak])) :: (.box bb 34 ([bf, bg, bh, bi, bj, bk, bl, ah, ai, aj, ak])) :: (.box cf 27 ([a0, a1, a2, a3, a4, a5, a6, a7, a8, a9, ba])) :: Γ) w → cb [(2, bu), (3, .pointer (some ⟨bb, 0, none⟩)), (4, .bool ab)] w := by
    intro ab w H hs
    rw [law12_tables.j1] at H
    refine cc _ _ <| W_ret ?_
    obtain rfl := sinj H
    exact retN rfl (RV.tmp rfl (RV.cell rfl ag34 sz34 rfl (fun j u hu => hs.boxCell (i := 1) rfl hu) (RV.tmp rfl RV.nil))) (by simp) ⟨_, _, _, rfl, (ag.trans ad), (hs.sub (ssk (ssk (ssk ssr)))), ax, (rBk.mono ad bd)⟩
   refine W_drawS 11 [0, 0, 0, 4, 8, 16, 48, 80, 17, 259, 1023] [254, 509, 1011, 995, 515, 899, 771, 771, 226, 0, 0] [0, 0, 0, 4, 12, 28, 60, 124, 29, 287, 1023] [9, 10] (fun w => St w0 aa ((.box au 34 ([bf, bg, bh, bi, bj, bk, bl, ah, ai, aj, ak])) :: (.box bb 34 ([.slice none 0 0, .slice none 0 0, .slice none 0 0, .slice none 0 0, .slice none 0 0, .slice none 0 0, .slice none 0 0, .slice none 0 0, .slice none 0 0, .slice none 0 0, .slice none 0 0])) :: (.box cf 27 ([a0, a1, a2, a3, a4, a5, a6, a7, a8, a9, ba])) :: Γ) w) mixed (by kernel_rfl) (fun sh => ?_)
   have hs := hs.drew
   refine Dm 0 sh rfl rfl (by kernel_rfl) rfl <| Dy 1 sh rfl rfl (by kernel_rfl) hs (fun w hs => Y_loadbN (i := 0) ag34 sz34 hs rfl rfl rfl rfl) <| Dm 2 sh rfl rfl (by kernel_rfl) rfl <| Dp 3 sh rfl rfl (by kernel_rfl) (fun w => Y_eql rfl rfl) <| Dm 4 sh rfl rfl (by kernel_rfl) rfl <| OD_if (dj := 34) rfl (fun ar => ?_) (fun ar => ?_)
   ·rw [if_pos ar] at H
    refine Dq 5 sh rfl rfl rfl rfl (by kernel_rfl) (fun w => Y_move rfl) <| Dq 6 sh rfl rfl rfl rfl (by kernel_rfl) (fun w => (ax.nen un29 rfl rfl)) <| Dp 7 sh rfl rfl (by kernel_rfl) (fun w => Y_pick_t rfl rfl) <| Dp 8 sh rfl rfl (by kernel_rfl) (fun w => Y_assign rfl) <| D1 9 sh rfl (by kernel_rfl) (fun cr cd => O_storeN (i := 1) sz34 hs rfl rfl rfl rfl rfl (one_cons bm.one (one_cons bn.one (one_cons bo.one (one_cons bp.one (one_cons bq.one (one_cons br.one (one_cons al.one (one_cons am.one (one_cons an.one (one_cons ao.one (one_cons ap.one one_nil))))))))))) (fun w hs => O_nil (cd _ _ (fun _ _ => by first | contradiction | (rename_i h; cases h)) <| OD_resetS sh [] hs (by kernel_rfl) <| Dp 10 sh rfl rfl (by kernel_rfl) (fun w => Y_assign rfl) <| OD_doneS sh (by kernel_rfl) (ay _ _ _ (S3 rfl rfl rfl) (az ((ac.1).isSome) _ H hs)))))
   ·rw [if_neg ar] at H
    refine Dn 5 sh rfl rfl rfl rfl rfl (by kernel_rfl) <| Dn 6 sh rfl rfl rfl rfl rfl (by kernel_rfl) <| Dp 7 sh rfl rfl (by kernel_rfl) (fun w => Y_pick_f rfl rfl) <| Dp 8 sh rfl rfl (by kernel_rfl) (fun w => Y_assign rfl) <| D1 9 sh rfl (by kernel_rfl) (fun ct ce => O_storeN (i := 1) sz34 hs rfl rfl rfl rfl rfl (one_cons bm.one (one_cons bn.one (one_cons bo.one (one_cons bp.one (one_cons bq.one (one_cons br.one (one_cons al.one (one_cons am.one (one_cons an.one (one_cons ao.one (one_cons ap.one one_nil))))))))))) (fun w hs => O_nil (ce _ _ (fun _ _ => by first | contradiction | (rename_i h; cases h)) <| OD_resetS sh [] hs (by kernel_rfl) <| Dp 10 sh rfl rfl (by kernel_rfl) (fun w => Y_assign rfl) <| OD_doneS sh (by kernel_rfl) (ay _ _ _ (S3 rfl rfl rfl) (az false _ H hs)))))

def ref10_Runes.l1 : Nat → List Int → List Int → Int → Option Bool
  | 0, _, _, _ => none
  | ab + 1, x0, x1, aa => if aa < (x0.length : Int) then (if (0 : Int) ≤ aa ∧ aa < (x0.length : Int) then (if (0 : Int) ≤ aa ∧ aa < (x1.length : Int) then (if (rd x0 aa) ≠ (rd x1 aa) then (some false) else ((ref10_Runes.l1 ab x0 x1) (IntKind.i64.wrap (aa + 1)))) else none) else none) else (some true)
def ref10_Runes.f (x0 x1 : List Int) : Option Bool := if (x0.length : Int) ≠ (x1.length : Int) then (some false) else (ref10_Runes.l1 K0 x0 x1 0)
theorem ref10_Runes.c {w0 w : World} {ρ : Hp} {Γ : List Item} (hs : St w0 ρ (Γ) w) {v0 : Value} {x0 : List Int} (h0 : SlR (Rep.int .i32) ρ v0 x0) {v1 : Value} {x1 : List Int} (h1 : SlR (Rep.int .i32) ρ v1 x1) {r : Bool} (H : ref10_Runes.f x0 x1 = some r) : CallsR Tryz.prog 9 [v0, v1] w (fun v w' => v = .bool r ∧ St w0 ρ Γ w') := by
  rw [ref10_Runes.f] at H
  refine enter Tryz.func9 Tryz.ntmps9 rfl (by kernel_rfl) rfl <| Wr fun a2 ai => Oa rfl rfl <| O_nil (ai _ _ <| W_seq fun a3 aj => Wr fun a4 ak => Om rfl rfl <| O_y rfl (Y_lenR un28 h0 rfl) <| Om rfl rfl <| O_y rfl (Y_lenR un28 h1 rfl) <| O_y rfl (Y_neq rfl rfl) <| O_nil (ak _ _ ?_))
  refine W_if rfl (fun ad => ?_) (fun ad => ?_)
  ·rw [if_pos ad] at H
   refine Wr fun a5 al => Oa rfl rfl <| O_nil (al _ _ <| W_ret ?_)
   obtain rfl := sinj H
   exact ret1 rfl rfl ⟨rfl, hs⟩
  ·rw [if_neg ad] at H
   refine W_skip (aj _ _ <| W_seq fun a6 am => Wr fun a7 an => Om rfl rfl <| O_y rfl (Y_lenR un28 h0 rfl) <| Om rfl rfl <| O_nil (an _ _ <| W_block fun a8 ao a9 => W_loop (σ := Nat × Int) (fun (ab, aa) => [(0, v0), (1, v1), (12, .int .i64 (x0.length : Int)), (13, .int .i64 aa)]) (fun (ab, aa) w => ref10_Runes.l1 ab x0 x1 aa = some r ∧ St w0 ρ (Γ) w) (fun s => s.1) (K0, 0) (S4 rfl rfl rfl rfl) (Ai H hs) ?_))
   rintro ⟨ab, aa⟩ w ba ⟨H, hs⟩ ac
   show W _ _ _ _ _ _ [(0, v0), (1, v1), (12, .int .i64 (x0.length : Int)), (13, .int .i64 aa)] w
   cases ab with
   | zero => rw [ref10_Runes.l1] at H; cases H
   | succ ab =>
   rw [ref10_Runes.l1] at H
   refine Wr fun bb ap => O_y rfl (Y_lss rfl rfl) <| O_nil (ap _ _ <| W_seq fun bc aq => W_if rfl (fun ae => ?_) (fun ae => ?_))
   ·rw [if_pos ae] at H
    refine W_skip (aq _ _ <| W_seq fun bd ar => W_block fun be bf bg => Wr fun bh au => Om rfl rfl <| Oa rfl rfl <| O_nil (au _ _ <| W_seq fun bi av => W_drawS 9 [0, 0, 3, 4, 0, 0, 48, 64, 136] [506, 505, 496, 240, 431, 415, 271, 15, 0] [0, 0, 3, 7, 0, 0, 48, 112, 255] [] (fun w => St w0 ρ (Γ) w) mixed (by kernel_rfl) (fun sh => ?_)))
    have hs := hs.drew
    refine Dm 0 sh rfl rfl (by kernel_rfl) rfl <| Dm 1 sh rfl rfl (by kernel_rfl) rfl ?_
    obtain ⟨ag, H⟩ := gd H
    obtain ⟨bj, bk, aw, ax⟩ := h0.ix el28 ag.1 ag.2
    refine Dp 2 sh rfl rfl (by kernel_rfl) (fun w => ax rfl rfl) <| Dy 3 sh rfl rfl (by kernel_rfl) hs (fun w hs => Y_load ag21 rfl (hs.see aw.int)) <| Dm 4 sh rfl rfl (by kernel_rfl) rfl <| Dm 5 sh rfl rfl (by kernel_rfl) rfl ?_
    obtain ⟨ah, H⟩ := gd H
    obtain ⟨bl, bm, ay, az⟩ := h1.ix el28 ah.1 ah.2
    refine Dp 6 sh rfl rfl (by kernel_rfl) (fun w => az rfl rfl) <| Dy 7 sh rfl rfl (by kernel_rfl) hs (fun w hs => Y_load ag21 rfl (hs.see ay.int)) <| Dp 8 sh rfl rfl (by kernel_rfl) (fun w => Y_neq rfl rfl) <| OD_doneS sh (by kernel_rfl) (av _ _ <| W.weak [(0, _), (1, _), (12, _), (13, _), (24, _)] (by repeat first | exact Sub.nil | refine Sub.cons rfl ?_) ?_)
    refine W_if rfl (fun af => ?_) (fun af => ?_)
    ·rw [if_pos af] at H
     refine Wr fun bn a0 => Oa rfl rfl <| O_nil (a0 _ _ <| W_ret ?_)
     obtain rfl := sinj H
     exact ret1 rfl rfl ⟨rfl, hs⟩
    ·rw [if_neg af] at H
     refine W_skip (ar _ _ <| W_region <| O_y rfl (Y_add rfl rfl) <| Om rfl rfl <| O_nil (ac (ab, (IntKind.i64.wrap (aa + 1))) _ _ (S4 rfl rfl rfl rfl) (Ai H hs) (Nat.lt_succ_self _)))
   ·rw [if_neg ae] at H
    refine W_exit (ao _ _ (am _ _ <| Wr fun bo a1 => Oa rfl rfl <| O_nil (a1 _ _ <| W_ret ?_)))
    obtain rfl := sinj H
    exact ret1 rfl rfl ⟨rfl, hs⟩

def canon_NewDecomposer.f (x0 : Option Tbs) : Option S10 := some (⟨x0, ([] : List Int)⟩ : S10)
theorem canon_NewDecomposer.c {w0 w : World} {ρ : Hp} {Γ : List Item} (hs : St w0 ρ (Γ) w) {v0 : Value} {x0 : Option Tbs} (h0 : PtrR rTbs ρ v0 x0) {r : S10} (H : canon_NewDecomposer.f x0 = some r) : CallsR Tryz.prog 13 [v0] w (fun v w' => ∃ (ρ' : Hp) (b0 : Nat) (v0_0 v0_1 : Value) (cs0_1 : List Value), v = .pointer (some ⟨b0, 0, none⟩) ∧ Le ρ ρ' ∧ St w0 ρ' (.box b0 64 ([v0_0, v0_1]) :: .row v0_1 21 (Rep.int .i32).sz r.kept.length cs0_1 :: Γ) w' ∧ PtrR rTbs ρ' v0_0 r.t ∧ RowR (Rep.int .i32) ρ' cs0_1 r.kept) := by
  rw [canon_NewDecomposer.f] at H
  refine enter Tryz.func13 Tryz.ntmps13 rfl (by kernel_rfl) rfl <| Wr fun ad aa => Oa rfl rfl <| O_nil (aa _ _ <| Wr fun ae ab => Om rfl rfl <| O_y rfl (Y_build (cs := [v0, .slice none 0 0]) zr64 pl64 ((Parts.cons rfl h0.cellsL Parts.nil)) ag64 (by kernel_rfl)) <| O_boxN (cs := [v0, .slice none 0 0]) hs rfl rfl (fun af w hs => Oa rfl rfl <| O_nil (ab _ _ <| W_ret ?_)))
  have hs := hs.rowNil 21 (Rep.int .i32).sz
  have ac := RowR.nil (Rep.int .i32) ρ
  have hs := hs.front 1 rfl
  obtain rfl := sinj H
  exact ret1 rfl rfl ⟨_, _, _, _, _, rfl, Le.rfl' _, hs, h0, ac⟩

def law12_awake.j1 (aa : Bool) : Option Bool := some aa
def law12_awake.f : Option Bool := (canon_Decompose.f none ([65, 44032])).bind fun am => ((ref10_Runes.f am ([65, 4352, 4449])).bind fun an => (if an = true then ((canon_NewDecomposer.f none).bind fun ar => (law12_awake.j1 true)) else (law12_awake.j1 false)))
theorem law12_awake.c {w0 w : World} {ρ : Hp} {Γ : List Item} (hs : St w0 ρ (Γ) w) {r : Bool} (H : law12_awake.f = some r) : CallsR Tryz.prog 6 [] w (fun v w' => v = .bool r ∧ St w0 ρ Γ w') := by
  rw [law12_awake.f] at H
  refine enter Tryz.func6 Tryz.ntmps6 rfl (by kernel_rfl) rfl <| Wr fun a9 au => Oa rfl rfl <| O_nil (au _ _ <| W_seqj fun av aw ao => ?_)
  have ap : ∀ (aa : Bool) (ab : Hp) (w : World), law12_awake.j1 aa = some r → Le ρ ab → St w0 ab (Γ) w → av [(0, .bool aa)] w := by
   intro aa ab w H af hs
   rw [law12_awake.j1] at H
   refine aw _ _ <| W_ret ?_
   obtain rfl := sinj H
   exact ret1 rfl rfl ⟨rfl, (hs.less af)⟩
  refine W_region <| O_lit2 (xs := [.const (.int .i32 65), .const (.int .i32 44032)]) (cs := [.int .i32 65, .int .i32 44032]) el28 hs rfl rfl rfl (by decide) (by decide) rfl (sz_cons rfl (sz_cons rfl sz_nil)) (flat_cons rfl (flat_cons rfl flat_nil)) (fun ba w hs => ?_)
  have ax : RowR (Rep.int .i32) ρ ([.int .i32 65, .int .i32 44032]) [65, 44032] := RowR.cons (c := [.int .i32 65]) (x := 65) rfl (RowR.cons (c := [.int .i32 44032]) (x := 44032) rfl (RowR.nil _ _))
  have ay : PtrR rTbs ρ (.pointer none) none := PtrR.nil _ _
  obtain ⟨bb, ac, hs, az⟩ := hs.rowEnd (j := 0) ax rfl
  obtain ⟨am, ah, H⟩ := bnd H
  refine O_call rfl rfl (canon_Decompose.c hs (ay.mono ac) az ah) (fun bc w hpost => ?_)
  obtain ⟨a0, bd, a1, rfl, ag, hs, a2⟩ := hpost
  refine O_lit2 (xs := [.const (.int .i32 65), .const (.int .i32 4352), .const (.int .i32 4449)]) (cs := [.int .i32 65, .int .i32 4352, .int .i32 4449]) el28 hs rfl rfl rfl (by decide) (by decide) rfl (sz_cons rfl (sz_cons rfl (sz_cons rfl sz_nil))) (flat_cons rfl (flat_cons rfl (flat_cons rfl flat_nil))) (fun be w hs => ?_)
  have a3 : RowR (Rep.int .i32) a0 ([.int .i32 65, .int .i32 4352, .int .i32 4449]) [65, 4352, 4449] := RowR.cons (c := [.int .i32 65]) (x := 65) rfl (RowR.cons (c := [.int .i32 4352]) (x := 4352) rfl (RowR.cons (c := [.int .i32 4449]) (x := 4449) rfl (RowR.nil _ _)))
  obtain ⟨bf, ad, hs, a4⟩ := hs.rowEnd (j := 1) a2 rfl
  obtain ⟨aq, ae, hs, a5⟩ := hs.rowEnd (j := 0) (a3.mono ad) rfl
  obtain ⟨an, ai, H⟩ := bnd H
  refine O_call rfl rfl (ref10_Runes.c hs (a4.mono ae) a5 ai) (fun bg w hpost => ?_)
  obtain ⟨rfl, hs⟩ := hpost
  refine Om rfl rfl <| O_cases (dj := 5) rfl (fun aj => ?_) (fun aj => ?_)
  ·rw [if_pos aj] at H
   have a6 : PtrR rTbs aq (.pointer none) none := PtrR.nil _ _
   refine O_yes rfl rfl ?_
   obtain ⟨ar, ak, H⟩ := bnd H
   refine O_call rfl rfl (canon_NewDecomposer.c hs a6 ak) (fun bh w hpost => ?_)
   obtain ⟨a7, bi, bj, bk, a8, rfl, al, hs, bl, bm⟩ := hpost
   refine O_yes rfl rfl <| O_y rfl (Y_neqp un44 rfl rfl) <| O_y rfl (Y_pick_t rfl rfl) <| Oa rfl rfl <| O_nil (ao _ _ _ (S1 rfl) (ap true a7 _ H ((((ac.trans ag).trans ad).trans ae).trans al) (hs.sub (ssk (ssk ssr)))))
  ·rw [if_neg (bft aj)] at H
   refine O_no rfl rfl rfl rfl <| O_no rfl rfl rfl rfl <| O_y rfl (Y_pick_f rfl rfl) <| Oa rfl rfl <| O_nil (ao _ _ _ (S1 rfl) (ap false aq _ H (((ac.trans ag).trans ad).trans ae) hs))

def canon_Ordered.j1 (af : Int → Int → Option Int) (aa ae : Int) (ac : Bool) : Option Int := if ac = true then (some aa) else (af ae (IntKind.i64.wrap (aa + 1)))
def canon_Ordered.l1 : Nat → Option Tbs → List Int → Int → Int → Option Int
  | 0, _, _, _, _ => none
  | ad + 1, x0, x1, ab, aa => if aa < (x1.length : Int) then (if (0 : Int) ≤ aa ∧ aa < (x1.length : Int) then ((book_Tables_Class.f x0 (rd x1 aa)).bind fun ae => (if ae ≠ 0 then (canon_Ordered.j1 (canon_Ordered.l1 ad x0 x1) aa ae (decide (ae < ab))) else (canon_Ordered.j1 (canon_Ordered.l1 ad x0 x1) aa ae false))) else none) else (some (-1))
def canon_Ordered.f (x0 : Option Tbs) (x1 : List Int) : Option Int := canon_Ordered.l1 K0 x0 x1 0 0
theorem canon_Ordered.c {w0 w : World} {ρ : Hp} {Γ : List Item} (hs : St w0 ρ (Γ) w) {v0 : Value} {x0 : Option Tbs} (h0 : PtrR rTbs ρ v0 x0) {v1 : Value} {x1 : List Int} (h1 : SlR (Rep.int .i32) ρ v1 x1) {r : Int} (H : canon_Ordered.f x0 x1 = some r) : CallsR Tryz.prog 8 [v0, v1] w (fun v w' => v = .int .i64 r ∧ St w0 ρ Γ w') := by
  rw [canon_Ordered.f] at H
  refine enter Tryz.func8 Tryz.ntmps8 rfl (by kernel_rfl) rfl <| Wr fun a7 ao => Oa rfl rfl <| O_nil (ao _ _ <| Wr fun a8 ap => Oa rfl rfl <| O_nil (ap _ _ <| W_seq fun a9 aq => Wr fun ba ar => Om rfl rfl <| O_y rfl (Y_lenR un28 h1 rfl) ?_))
  refine Om rfl rfl <| O_nil (ar _ _ <| W_block fun bb au bc => W_loop (σ := Nat × Int × Int) (fun (ad, ab, aa) => [(0, v0), (5, .int .i64 ab), (9, v1), (10, .int .i64 (x1.length : Int)), (11, .int .i64 aa)]) (fun (ad, ab, aa) w => canon_Ordered.l1 ad x0 x1 ab aa = some r ∧ St w0 ρ (Γ) w) (fun s => s.1) (K0, 0, 0) (by repeat first | exact Sub.nil | refine Sub.cons rfl ?_) (Ai H hs) ?_)
  rintro ⟨ad, ab, aa⟩ w bd ⟨H, hs⟩ ag
  show W _ _ _ _ _ _ [(0, v0), (5, .int .i64 ab), (9, v1), (10, .int .i64 (x1.length : Int)), (11, .int .i64 aa)] w
  cases ad with
  | zero => rw [canon_Ordered.l1] at H; cases H
  | succ ad =>
  rw [canon_Ordered.l1] at H
  refine Wr fun be av => O_y rfl (Y_lss rfl rfl) <| O_nil (av _ _ <| W_seq fun bf aw => W_if rfl (fun ah => ?_) (fun ah => ?_))
  ·rw [if_pos ah] at H
   refine W_skip (aw _ _ <| W_seq fun bg ax => W_block fun bh bi bj => Wr fun bk ay => Om rfl rfl ?_)
   obtain ⟨al, H⟩ := gd H
   obtain ⟨bl, bm, az, a0⟩ := h1.ix el28 al.1 al.2
   refine O_y rfl (a0 rfl rfl) <| O_y rfl (Y_load ag21 rfl (hs.see az.int)) <| Oa rfl rfl <| Oa rfl rfl <| O_nil (ay _ _ <| Wr fun bn a1 => Om rfl rfl <| Om rfl rfl ?_)
   obtain ⟨ae, ai, H⟩ := bnd H
   refine O_call rfl rfl (book_Tables_Class.c hs h0 ai) (fun bo w hpost => ?_)
   obtain ⟨rfl, hs⟩ := hpost
   refine Oa rfl rfl <| O_nil (a1 _ _ <| W.weak [(0, _), (5, _), (6, _), (8, _), (9, _), (10, _), (11, _)] (by repeat first | exact Sub.nil | refine Sub.cons rfl ?_) ?_)
   refine W_seq fun bp a2 => W_seqj fun a3 a4 am => ?_
   have an : ∀ (ac : Bool) (w : World), canon_Ordered.j1 (canon_Ordered.l1 ad x0 x1) aa ae ac = some r → St w0 ρ (Γ) w → a3 [(0, v0), (6, .int .i64 aa), (8, .int .i64 ae), (9, v1), (10, .int .i64 (x1.length : Int)), (11, .int .i64 aa), (25, .bool ac)] w := by
    intro ac w H hs
    rw [canon_Ordered.j1] at H
    refine a4 _ _ <| W_cond rfl (fun aj => ?_) (fun aj => ?_)
    ·rw [if_pos aj] at H
     refine Wr fun bq a5 => Om rfl rfl <| Oa rfl rfl <| O_nil (a5 _ _ <| W_ret ?_)
     obtain rfl := sinj H
     exact ret1 rfl rfl ⟨rfl, hs⟩
    ·rw [if_neg (bft aj)] at H
     refine W_skip (a2 _ _ <| W_region <| Om rfl rfl <| Oa rfl rfl <| O_nil (ax _ _ <| W_region <| O_y rfl (Y_add rfl rfl) <| Om rfl rfl <| O_nil (ag (ad, ae, (IntKind.i64.wrap (aa + 1))) _ _ (by repeat first | exact Sub.nil | refine Sub.cons rfl ?_) (Ai H hs) (Nat.lt_succ_self _))))
   refine W_region <| Om rfl rfl <| O_y rfl (Y_neq rfl rfl) <| Om rfl rfl <| O_if (dj := 21) rfl (fun ak => ?_) (fun ak => ?_)
   ·rw [if_pos ak] at H
    refine O_yes rfl rfl <| Om rfl rfl <| O_yes rfl rfl <| Om rfl rfl <| O_yes rfl rfl <| O_y rfl (Y_lss rfl rfl) <| O_y rfl (Y_pick_t rfl rfl) <| O_nil (am _ _ _ (by repeat first | exact Sub.nil | refine Sub.cons rfl ?_) (an (decide (ae < ab)) _ H hs))
   ·rw [if_neg ak] at H
    refine O_no rfl rfl rfl rfl <| O_no rfl rfl rfl rfl <| O_no rfl rfl rfl rfl <| O_y rfl (Y_pick_f rfl rfl) <| O_nil (am _ _ _ (by repeat first | exact Sub.nil | refine Sub.cons rfl ?_) (an false _ H hs))
  ·rw [if_neg ah] at H
   refine W_exit (au _ _ (aq _ _ <| Wr fun br a6 => Oa rfl rfl <| O_nil (a6 _ _ <| W_ret ?_)))
   obtain rfl := sinj H
   exact ret1 rfl rfl ⟨rfl, hs⟩

def law12_shuffled.j1 (an : Int → Int → Option Bool) (ac ah : Int) : Option Bool := an ah (IntKind.i64.wrap (ac + 1))
def law12_shuffled.j2 (al : Int → Int → Option Bool) (ab ai : Int) : Option Bool := al ai (IntKind.i64.wrap (ab + 1))
def law12_shuffled.l1 (ag : Int → Option Bool) : Nat → List Int → List Int → Int → Int → Int → Option Bool
  | 0, _, _, _, _, _ => none
  | af + 1, x0, x1, aa, ad, ab => if ab < (x1.length : Int) then (if (0 : Int) ≤ ab ∧ ab < (x1.length : Int) then (if (rd x0 aa) = (rd x1 ab) then (law12_shuffled.j2 (law12_shuffled.l1 ag af x0 x1 aa) ab (IntKind.i64.wrap (ad - 1))) else (law12_shuffled.j2 (law12_shuffled.l1 ag af x0 x1 aa) ab ad)) else none) else (if ad ≠ 0 then (some false) else (ag (IntKind.i64.wrap (aa + 1))))
def law12_shuffled.l2 (ag : Int → Option Bool) : Nat → List Int → List Int → Int → Int → Int → Option Bool
  | 0, _, _, _, _, _ => none
  | ak + 1, x0, x1, aa, ae, ac => if ac < (x0.length : Int) then (if (0 : Int) ≤ ac ∧ ac < (x0.length : Int) then (if (rd x0 aa) = (rd x0 ac) then (law12_shuffled.j1 (law12_shuffled.l2 ag ak x0 x1 aa) ac (IntKind.i64.wrap (ae + 1))) else (law12_shuffled.j1 (law12_shuffled.l2 ag ak x0 x1 aa) ac ae)) else none) else (law12_shuffled.l1 ag K0 x0 x1 aa ae 0)
def law12_shuffled.l3 : Nat → List Int → List Int → Int → Option Bool
  | 0, _, _, _ => none
  | aj + 1, x0, x1, aa => if aa < (x0.length : Int) then (if (0 : Int) ≤ aa ∧ aa < (x0.length : Int) then (law12_shuffled.l2 (law12_shuffled.l3 aj x0 x1) K0 x0 x1 aa 0 0) else none) else (some (decide ((x0.length : Int) = (x1.length : Int))))
def law12_shuffled.f (x0 x1 : List Int) : Option Bool := law12_shuffled.l3 K0 x0 x1 0
theorem law12_shuffled.c {w0 w : World} {ρ : Hp} {Γ : List Item} (hs : St w0 ρ (Γ) w) {v0 : Value} {x0 : List Int} (h0 : SlR (Rep.int .i32) ρ v0 x0) {v1 : Value} {x1 : List Int} (h1 : SlR (Rep.int .i32) ρ v1 x1) {r : Bool} (H : law12_shuffled.f x0 x1 = some r) : CallsR Tryz.prog 11 [v0, v1] w (fun v w' => v = .bool r ∧ St w0 ρ Γ w') := by
  rw [law12_shuffled.f] at H
  refine enter Tryz.func11 Tryz.ntmps11 rfl (by kernel_rfl) rfl <| Wr fun cu bn => Oa rfl rfl <| O_nil (bn _ _ <| W_seq fun cv bo => Wr fun cw bp => Om rfl rfl <| O_y rfl (Y_lenR un28 h0 rfl) <| Om rfl rfl <| O_nil (bp _ _ <| W_block fun cx bq cy => W_loop (σ := Nat × Int) (fun (aj, aa) => [(0, v0), (1, v1), (12, v0), (13, .int .i64 (x0.length : Int)), (14, .int .i64 aa)]) (fun (aj, aa) w => law12_shuffled.l3 aj x0 x1 aa = some r ∧ St w0 ρ (Γ) w) (fun s => s.1) (K0, 0) (by repeat first | exact Sub.nil | refine Sub.cons rfl ?_) (Ai H hs) ?_))
  rintro ⟨aj, aa⟩ w cz ⟨H, hs⟩ ao
  show W _ _ _ _ _ _ [(0, v0), (1, v1), (12, v0), (13, .int .i64 (x0.length : Int)), (14, .int .i64 aa)] w
  cases aj with
  | zero => rw [law12_shuffled.l3] at H; cases H
  | succ aj =>
  rw [law12_shuffled.l3] at H
  refine Wr fun da br => O_y rfl (Y_lss rfl rfl) <| O_nil (br _ _ <| W_seq fun db bs => W_if rfl (fun a1 => ?_) (fun a1 => ?_))
  ·rw [if_pos a1] at H
   refine W_skip (bs _ _ <| W_seq fun dc bt => W_block fun dd de df => W_seq fun dg bu => W_region ?_)
   obtain ⟨bl, H⟩ := gd H
   obtain ⟨dh, di, bv, bw⟩ := h0.ix el28 bl.1 bl.2
   refine O_y rfl (bw rfl rfl) <| O_y rfl (Y_load ag21 rfl (hs.see bv.int)) <| Oa rfl rfl <| O_nil (bu _ _ <| Wr fun dj bx => Oa rfl rfl <| O_nil (bx _ _ <| W_seq fun dk bz => Wr fun dl b0 => Om rfl rfl <| O_y rfl (Y_lenR un28 h0 rfl) <| Om rfl rfl ?_))
   refine O_nil (b0 _ _ <| W_block fun dm b1 dn => W_loop (σ := Nat × Int × Int) (fun (ak, ae, ac) => [(0, v0), (1, v1), (6, .int .i32 (rd x0 aa)), (7, .int .i64 ae), (12, v0), (13, .int .i64 (x0.length : Int)), (14, .int .i64 aa), (18, v0), (19, .int .i64 (x0.length : Int)), (20, .int .i64 ac)]) (fun (ak, ae, ac) w => law12_shuffled.l2 (law12_shuffled.l3 aj x0 x1) ak x0 x1 aa ae ac = some r ∧ St w0 ρ (Γ) w) (fun s => s.1) (K0, 0, 0) (by repeat first | exact Sub.nil | refine Sub.cons rfl ?_) (Ai H hs) ?_)
   rintro ⟨ak, ae, ac⟩ w dp ⟨H, hs⟩ ap
   show W _ _ _ _ _ _ [(0, v0), (1, v1), (6, .int .i32 (rd x0 aa)), (7, .int .i64 ae), (12, v0), (13, .int .i64 (x0.length : Int)), (14, .int .i64 aa), (18, v0), (19, .int .i64 (x0.length : Int)), (20, .int .i64 ac)] w
   cases ak with
   | zero => rw [law12_shuffled.l2] at H; cases H
   | succ ak =>
   rw [law12_shuffled.l2] at H
   refine Wr fun dq b2 => O_y rfl (Y_lss rfl rfl) <| O_nil (b2 _ _ <| W_seq fun dr b3 => W_if rfl (fun a2 => ?_) (fun a2 => ?_))
   ·rw [if_pos a2] at H
    refine W_skip (b3 _ _ <| W_seqj fun b4 b5 bm => ?_)
    have aw : ∀ (ah : Int) (w : World), law12_shuffled.j1 (law12_shuffled.l2 (law12_shuffled.l3 aj x0 x1) ak x0 x1 aa) ac ah = some r → St w0 ρ (Γ) w → b4 [(0, v0), (1, v1), (6, .int .i32 (rd x0 aa)), (7, .int .i64 ah), (12, v0), (13, .int .i64 (x0.length : Int)), (14, .int .i64 aa), (18, v0), (19, .int .i64 (x0.length : Int)), (20, .int .i64 ac)] w := by
     intro ah w H hs
     rw [law12_shuffled.j1] at H
     refine b5 _ _ <| W_region <| O_y rfl (Y_add rfl rfl) <| Om rfl rfl <| O_nil (ap (ak, ah, (IntKind.i64.wrap (ac + 1))) _ _ (by repeat first | exact Sub.nil | refine Sub.cons rfl ?_) (Ai H hs) (Nat.lt_succ_self _))
    refine W_block fun b6 b7 b8 => W_seq fun b9 a3 => W_region ?_
    obtain ⟨ax, H⟩ := gd H
    obtain ⟨ca, cb, a4, a5⟩ := h0.ix el28 ax.1 ax.2
    refine O_y rfl (a5 rfl rfl) <| O_y rfl (Y_load ag21 rfl (hs.see a4.int)) <| Oa rfl rfl <| O_nil (a3 _ _ <| Wr fun cc a6 => Om rfl rfl <| Om rfl rfl <| O_y rfl (Y_eql rfl rfl) <| O_nil (a6 _ _ <| W.weak [(0, _), (1, _), (6, _), (7, _), (12, _), (13, _), (14, _), (18, _), (19, _), (20, _), (26, _)] (by repeat first | exact Sub.nil | refine Sub.cons rfl ?_) ?_))
    refine W_if rfl (fun aq => ?_) (fun aq => ?_)
    ·rw [if_pos aq] at H
     refine W_region <| Om rfl rfl <| O_y rfl (Y_add rfl rfl) <| Oa rfl rfl <| O_nil (bm _ _ _ (by repeat first | exact Sub.nil | refine Sub.cons rfl ?_) (aw (IntKind.i64.wrap (ae + 1)) _ H hs))
    ·rw [if_neg aq] at H
     exact W_skip (bm _ _ _ (by repeat first | exact Sub.nil | refine Sub.cons rfl ?_) (aw ae _ H hs))
   ·rw [if_neg a2] at H
    refine W_exit (b1 _ _ (bz _ _ <| W_seq fun cd a7 => Wr fun ce a8 => Om rfl rfl <| O_y rfl (Y_lenR un28 h1 rfl) <| Om rfl rfl <| O_nil (a8 _ _ <| W_block fun cf a9 cg => W_loop (σ := Nat × Int × Int) (fun (af, ad, ab) => [(0, v0), (1, v1), (6, .int .i32 (rd x0 aa)), (7, .int .i64 ad), (12, v0), (13, .int .i64 (x0.length : Int)), (14, .int .i64 aa), (30, v1), (31, .int .i64 (x1.length : Int)), (32, .int .i64 ab)]) (fun (af, ad, ab) w => law12_shuffled.l1 (law12_shuffled.l3 aj x0 x1) af x0 x1 aa ad ab = some r ∧ St w0 ρ (Γ) w) (fun s => s.1) (K0, ae, 0) (by repeat first | exact Sub.nil | refine Sub.cons rfl ?_) (Ai H hs) ?_)))
    rintro ⟨af, ad, ab⟩ w ch ⟨H, hs⟩ am
    show W _ _ _ _ _ _ [(0, v0), (1, v1), (6, .int .i32 (rd x0 aa)), (7, .int .i64 ad), (12, v0), (13, .int .i64 (x0.length : Int)), (14, .int .i64 aa), (30, v1), (31, .int .i64 (x1.length : Int)), (32, .int .i64 ab)] w
    cases af with
    | zero => rw [law12_shuffled.l1] at H; cases H
    | succ af =>
    rw [law12_shuffled.l1] at H
    refine Wr fun ci ba => O_y rfl (Y_lss rfl rfl) <| O_nil (ba _ _ <| W_seq fun cj bb => W_if rfl (fun ar => ?_) (fun ar => ?_))
    ·rw [if_pos ar] at H
     refine W_skip (bb _ _ <| W_seqj fun bc bd ay => ?_)
     have az : ∀ (ai : Int) (w : World), law12_shuffled.j2 (law12_shuffled.l1 (law12_shuffled.l3 aj x0 x1) af x0 x1 aa) ab ai = some r → St w0 ρ (Γ) w → bc [(0, v0), (1, v1), (6, .int .i32 (rd x0 aa)), (7, .int .i64 ai), (12, v0), (13, .int .i64 (x0.length : Int)), (14, .int .i64 aa), (30, v1), (31, .int .i64 (x1.length : Int)), (32, .int .i64 ab)] w := by
      intro ai w H hs
      rw [law12_shuffled.j2] at H
      refine bd _ _ <| W_region <| O_y rfl (Y_add rfl rfl) <| Om rfl rfl <| O_nil (am (af, ai, (IntKind.i64.wrap (ab + 1))) _ _ (by repeat first | exact Sub.nil | refine Sub.cons rfl ?_) (Ai H hs) (Nat.lt_succ_self _))
     refine W_block fun ck cl cm => W_seq fun cn be => W_region ?_
     obtain ⟨a0, H⟩ := gd H
     obtain ⟨co, cp, bf, bg⟩ := h1.ix el28 a0.1 a0.2
     refine O_y rfl (bg rfl rfl) <| O_y rfl (Y_load ag21 rfl (hs.see bf.int)) <| Oa rfl rfl <| O_nil (be _ _ <| Wr fun cq bh => Om rfl rfl <| Om rfl rfl <| O_y rfl (Y_eql rfl rfl) <| O_nil (bh _ _ <| W.weak [(0, _), (1, _), (6, _), (7, _), (12, _), (13, _), (14, _), (30, _), (31, _), (32, _), (38, _)] (by repeat first | exact Sub.nil | refine Sub.cons rfl ?_) ?_))
     refine W_if rfl (fun au => ?_) (fun au => ?_)
     ·rw [if_pos au] at H
      refine W_region <| Om rfl rfl <| O_y rfl (Y_sub rfl rfl) <| Oa rfl rfl <| O_nil (ay _ _ _ (by repeat first | exact Sub.nil | refine Sub.cons rfl ?_) (az (IntKind.i64.wrap (ad - 1)) _ H hs))
     ·rw [if_neg au] at H
      exact W_skip (ay _ _ _ (by repeat first | exact Sub.nil | refine Sub.cons rfl ?_) (az ad _ H hs))
    ·rw [if_neg ar] at H
     refine W_exit (a9 _ _ (a7 _ _ <| Wr fun cr bi => Om rfl rfl <| O_y rfl (Y_neq rfl rfl) <| O_nil (bi _ _ <| W_if rfl (fun av => ?_) (fun av => ?_))))
     ·rw [if_pos av] at H
      refine Wr fun cs bj => Oa rfl rfl <| O_nil (bj _ _ <| W_ret ?_)
      obtain rfl := sinj H
      exact ret1 rfl rfl ⟨rfl, hs⟩
     ·rw [if_neg av] at H
      refine W_skip (bt _ _ <| W_region <| O_y rfl (Y_add rfl rfl) <| Om rfl rfl <| O_nil (ao (aj, (IntKind.i64.wrap (aa + 1))) _ _ (by repeat first | exact Sub.nil | refine Sub.cons rfl ?_) (Ai H hs) (Nat.lt_succ_self _)))
  ·rw [if_neg a1] at H
   refine W_exit (bq _ _ (bo _ _ <| Wr fun ct bk => Om rfl rfl <| O_y rfl (Y_lenR un28 h0 rfl) <| Om rfl rfl <| O_y rfl (Y_lenR un28 h1 rfl) <| O_y rfl (Y_eql rfl rfl) <| Oa rfl rfl <| O_nil (bk _ _ <| W_ret ?_)))
   obtain rfl := sinj H
   exact ret1 rfl rfl ⟨rfl, hs⟩

def law12_CanonOrders.j1 (ag : Int → Int → Option Bool) (aa aj : Int) : Option Bool := ag aj (IntKind.i64.wrap (aa + 1))
def law12_CanonOrders.j2 (ag : Int → Int → Option Bool) (aa : Int) (ak : Bool) : Option Bool := if ak = true then (some false) else (law12_CanonOrders.j1 ag aa aa)
def law12_CanonOrders.j3 (ag : Int → Int → Option Bool) (x1 ac : List Int) (ab aa : Int) (al : Bool) : Option Bool := if al = true then (law12_CanonOrders.j1 ag aa ab) else (if aa < (x1.length : Int) then (if (0 : Int) ≤ aa ∧ aa < (ac.length : Int) then (if (0 : Int) ≤ aa ∧ aa < (x1.length : Int) then (if (rd ac aa) ≠ (rd x1 aa) then (law12_CanonOrders.j2 ag aa true) else (if (0 : Int) ≤ ab ∧ ab ≤ aa ∧ aa ≤ (ac.length : Int) then (if (0 : Int) ≤ ab ∧ ab ≤ aa ∧ aa ≤ (x1.length : Int) then ((law12_shuffled.f (sub ac ab aa) (sub x1 ab aa)).bind fun bq => (law12_CanonOrders.j2 ag aa (!bq))) else none) else none)) else none) else none) else (if (0 : Int) ≤ ab ∧ ab ≤ aa ∧ aa ≤ (ac.length : Int) then (if (0 : Int) ≤ ab ∧ ab ≤ aa ∧ aa ≤ (x1.length : Int) then ((law12_shuffled.f (sub ac ab aa) (sub x1 ab aa)).bind fun br => (law12_CanonOrders.j2 ag aa (!br))) else none) else none))
def law12_CanonOrders.l1 : Nat → List Int → List Int → (Option Tbs × Bk × Bool) → List Int → Int → Int → Option Bool
  | 0, _, _, _, _, _, _ => none
  | ah + 1, x1, x2, ap, ac, ab, aa => if aa ≤ (x1.length : Int) then (if aa < (x1.length : Int) then (if (0 : Int) ≤ aa ∧ aa < (x1.length : Int) then ((book_Tables_Class.f ap.1 (rd x1 aa)).bind fun bs => (law12_CanonOrders.j3 (law12_CanonOrders.l1 ah x1 x2 ap ac) x1 ac ab aa (decide (bs ≠ 0)))) else none) else (law12_CanonOrders.j3 (law12_CanonOrders.l1 ah x1 x2 ap ac) x1 ac ab aa false)) else ((canon_Decompose.f ap.1 x1).bind fun ba => ((canon_Decompose.f ap.1 x2).bind fun bt => (if ([] : List Int).length + x1.length ≤ most then (if (([] : List Int) ++ x1).length + x2.length ≤ most then ((canon_Decompose.f ap.1 ((([] : List Int) ++ x1) ++ x2)).bind fun co => (if ([] : List Int).length + ba.length ≤ most then (if (([] : List Int) ++ ba).length + bt.length ≤ most then ((canon_Order.f ap.1 ((([] : List Int) ++ ba) ++ bt)).bind fun cp => ((ref10_Runes.f co cp).bind fun cq => (some cq))) else none) else none)) else none) else none)))
def law12_CanonOrders.j4 (x1 x2 : List Int) (ap : Option Tbs × Bk × Bool) (ac : List Int) (am : Bool) : Option Bool := if am = true then (some false) else (law12_CanonOrders.l1 K0 x1 x2 ap ac 0 0)
def law12_CanonOrders.j5 (x1 x2 : List Int) (ap : Option Tbs × Bk × Bool) (an : Bool) : Option Bool := if an = true then (some false) else ((canon_Order.f ap.1 x1).bind fun aq => (if (aq.length : Int) ≠ (x1.length : Int) then (law12_CanonOrders.j4 x1 x2 ap aq true) else ((canon_Ordered.f ap.1 aq).bind fun cr => (if cr ≠ (-1) then (law12_CanonOrders.j4 x1 x2 ap aq true) else ((canon_Order.f ap.1 aq).bind fun ct => ((ref10_Runes.f ct aq).bind fun bu => (law12_CanonOrders.j4 x1 x2 ap aq (!bu))))))))
def law12_CanonOrders.f (x0 : Bk) (x1 x2 : List Int) : Option Bool := (law12_tables.f x0).bind fun ap => ((law12_awake.f).bind fun cu => (if (!cu) = true then (law12_CanonOrders.j5 x1 x2 ap true) else (law12_CanonOrders.j5 x1 x2 ap (!ap.2.2))))
theorem law12_CanonOrders.c {w0 w : World} {ρ : Hp} {Γ : List Item} (hs : St w0 ρ (Γ) w) {c0 : List Value} {x0 : Bk} (h0 : rBk.R ρ c0 x0) {v1 : Value} {x1 : List Int} (h1 : SlR (Rep.int .i32) ρ v1 x1) {v2 : Value} {x2 : List Int} (h2 : SlR (Rep.int .i32) ρ v2 x2) {r : Bool} (H : law12_CanonOrders.f x0 x1 x2 = some r) : CallsR Tryz.prog 3 [.agg c0.toArray, v1, v2] w (fun v w' => v = .bool r ∧ St w0 ρ Γ w') := by
  rw [law12_CanonOrders.f] at H
  refine enter Tryz.func3 Tryz.ntmps3 rfl (by kernel_rfl) rfl ?_
  have gz := h0
  obtain ⟨bc, bd, be, bf, bg, bh, bi, bj, bk, bl, bm, rfl, j7, j8, j9, ka, kb, kc, kd, ke, kf, kg, kh⟩ := gz
  refine Wr fun ki ha => O_boxN (cs := [bc, bd, be, bf, bg, bh, bi, bj, bk, bl, bm]) hs rfl rfl (fun bv w hs => Oa rfl rfl <| O_nil (ha _ _ <| Wr fun kj hb => O_y rfl (Y_loadbN (i := 0) ag27 sz27 hs rfl rfl rfl rfl) ?_))
  obtain ⟨ap, ea, H⟩ := bnd H
  refine O_call rfl rfl (law12_tables.c hs h0 ea) (fun kk w hpost => ?_)
  obtain ⟨hc, bw, hd, rfl, ai, hs, bn, he⟩ := hpost
  have eb := he
  obtain ⟨bx, bz, b0, b1, b2, b3, a0, a1, a2, a3, a4, rfl, hf, hg, hh, hi, hj, hk, ec, ed, ee, ef, eg⟩ := eb
  refine Om rfl rfl <| O_y rfl (Y_extract rfl rfl) <| O_y rfl (Y_extract rfl rfl) <| O_y rfl (Y_extract rfl rfl) <| O_alloc zr34 hs rfl (fun a5 w hs => Oa rfl rfl <| O_storeN (i := 0) sz34 hs rfl rfl rfl rfl rfl (one_cons hf.one (one_cons hg.one (one_cons hh.one (one_cons hi.one (one_cons hj.one (one_cons hk.one (one_cons ec.one (one_cons ed.one (one_cons ee.one (one_cons ef.one (one_cons eg.one one_nil))))))))))) (fun w hs => Oa rfl rfl <| O_nil (hb _ _ <| W_seq fun hl eh => W_seqj fun ei ej cv => ?_)))
  have cw : ∀ (an : Bool) (w : World), law12_CanonOrders.j5 x1 x2 ap an = some r → St w0 hc ((.box a5 34 ([bx, bz, b0, b1, b2, b3, a0, a1, a2, a3, a4])) :: (.box bv 27 ([bc, bd, be, bf, bg, bh, bi, bj, bk, bl, bm])) :: Γ) w → ei [(1, v1), (2, v2), (7, bw), (27, .bool an)] w := by
   intro an w H hs
   rw [law12_CanonOrders.j5] at H
   refine ej _ _ <| W_cond rfl (fun b4 => ?_) (fun b4 => ?_)
   ·rw [if_pos b4] at H
    refine Wr fun hm ek => Oa rfl rfl <| O_nil (ek _ _ <| W_ret ?_)
    obtain rfl := sinj H
    exact ret1 rfl rfl ⟨rfl, ((hs.sub (ssk (ssk ssr))).less ai)⟩
   ·rw [if_neg (bft b4)] at H
    refine W_skip (eh _ _ <| Wr fun hn el => Om rfl rfl <| Om rfl rfl ?_)
    obtain ⟨aq, cx, H⟩ := bnd H
    refine O_call rfl rfl (canon_Order.c hs bn (h1.mono ai) cx) (fun b5 w hpost => ?_)
    obtain ⟨em, ho, gn, rfl, ae, hs, en⟩ := hpost
    refine Oa rfl rfl <| O_nil (el _ _ <| W_seq fun hp eo => W_seqj fun ep eq b6 => ?_)
    have b7 : ∀ (ac : List Int) (am : Bool) (af : Value) (ao : Hp) (w : World), law12_CanonOrders.j4 x1 x2 ap ac am = some r → Le em ao → St w0 ao ((.box a5 34 ([bx, bz, b0, b1, b2, b3, a0, a1, a2, a3, a4])) :: (.box bv 27 ([bc, bd, be, bf, bg, bh, bi, bj, bk, bl, bm])) :: Γ) w → SlR (Rep.int .i32) ao af ac → ep [(1, v1), (2, v2), (7, bw), (10, af), (49, .bool am)] w := by
     intro ac am af ao w H ad hs ar
     rw [law12_CanonOrders.j4] at H
     refine eq _ _ <| W_cond rfl (fun b8 => ?_) (fun b8 => ?_)
     ·rw [if_pos b8] at H
      refine Wr fun hq er => Oa rfl rfl <| O_nil (er _ _ <| W_ret ?_)
      obtain rfl := sinj H
      exact ret1 rfl rfl ⟨rfl, ((hs.sub (ssk (ssk ssr))).less ((ai.trans ae).trans ad))⟩
     ·rw [if_neg (bft b8)] at H
      refine W_skip (eo _ _ <| Wr fun hr es => Oa rfl rfl <| O_nil (es _ _ <| W_seq fun ht et => Wr fun hu eu => Oa rfl rfl <| O_nil (eu _ _ <| W_block fun hv ev hw => W_loop (σ := Nat × Int × Int) (fun (ah, ab, aa) => [(1, v1), (2, v2), (7, bw), (10, af), (11, .int .i64 ab), (12, .int .i64 aa)]) (fun (ah, ab, aa) w => law12_CanonOrders.l1 ah x1 x2 ap ac ab aa = some r ∧ St w0 ao ((.box a5 34 ([bx, bz, b0, b1, b2, b3, a0, a1, a2, a3, a4])) :: (.box bv 27 ([bc, bd, be, bf, bg, bh, bi, bj, bk, bl, bm])) :: Γ) w) (fun s => s.1) (K0, 0, 0) (by repeat first | exact Sub.nil | refine Sub.cons rfl ?_) (Ai H hs) ?_)))
      rintro ⟨ah, ab, aa⟩ w hx ⟨H, hs⟩ bb
      show W _ _ _ _ _ _ [(1, v1), (2, v2), (7, bw), (10, af), (11, .int .i64 ab), (12, .int .i64 aa)] w
      cases ah with
      | zero => rw [law12_CanonOrders.l1] at H; cases H
      | succ ah =>
      rw [law12_CanonOrders.l1] at H
      refine W_seq fun hy ew => Wr fun hz ex => Om rfl rfl <| Om rfl rfl <| O_y rfl (Y_lenR un28 (h1.mono ((ai.trans ae).trans ad)) rfl) <| O_y rfl (Y_leq rfl rfl) <| O_nil (ex _ _ <| W_if rfl (fun b9 => ?_) (fun b9 => ?_))
      ·rw [if_pos b9] at H
       refine W_skip (ew _ _ <| W_seqj fun ey ez cy => ?_)
       have cz : ∀ (aj : Int) (w : World), law12_CanonOrders.j1 (law12_CanonOrders.l1 ah x1 x2 ap ac) aa aj = some r → St w0 ao ((.box a5 34 ([bx, bz, b0, b1, b2, b3, a0, a1, a2, a3, a4])) :: (.box bv 27 ([bc, bd, be, bf, bg, bh, bi, bj, bk, bl, bm])) :: Γ) w → ey [(1, v1), (2, v2), (7, bw), (10, af), (11, .int .i64 aj), (12, .int .i64 aa)] w := by
        intro aj w H hs
        rw [law12_CanonOrders.j1] at H
        refine ez _ _ <| W_region <| Om rfl rfl <| O_y rfl (Y_add rfl rfl) <| Oa rfl rfl <| O_nil (bb (ah, aj, (IntKind.i64.wrap (aa + 1))) _ _ (by repeat first | exact Sub.nil | refine Sub.cons rfl ?_) (Ai H hs) (Nat.lt_succ_self _))
       refine W_block fun ia e0 ib => W_seq fun ic e1 => W_seqj fun e2 e3 da => ?_
       have db : ∀ (al : Bool) (w : World), law12_CanonOrders.j3 (law12_CanonOrders.l1 ah x1 x2 ap ac) x1 ac ab aa al = some r → St w0 ao ((.box a5 34 ([bx, bz, b0, b1, b2, b3, a0, a1, a2, a3, a4])) :: (.box bv 27 ([bc, bd, be, bf, bg, bh, bi, bj, bk, bl, bm])) :: Γ) w → e2 [(1, v1), (2, v2), (7, bw), (10, af), (11, .int .i64 ab), (12, .int .i64 aa), (68, .bool al)] w := by
        intro al w H hs
        rw [law12_CanonOrders.j3] at H
        refine e3 _ _ <| W_cond rfl (fun ca => ?_) (fun ca => ?_)
        ·rw [if_pos ca] at H
         exact W_exit (e0 _ _ (cy _ _ _ (by repeat first | exact Sub.nil | refine Sub.cons rfl ?_) (cz ab _ H hs)))
        ·rw [if_neg (bft ca)] at H
         refine W_skip (e1 _ _ <| W_seq fun id e4 => W_seqj fun e5 e6 cb => ?_)
         have cc : ∀ (ak : Bool) (w : World), law12_CanonOrders.j2 (law12_CanonOrders.l1 ah x1 x2 ap ac) aa ak = some r → St w0 ao ((.box a5 34 ([bx, bz, b0, b1, b2, b3, a0, a1, a2, a3, a4])) :: (.box bv 27 ([bc, bd, be, bf, bg, bh, bi, bj, bk, bl, bm])) :: Γ) w → e5 [(1, v1), (2, v2), (7, bw), (10, af), (12, .int .i64 aa), (95, .bool ak)] w := by
          intro ak w H hs
          rw [law12_CanonOrders.j2] at H
          refine e6 _ _ <| W_cond rfl (fun cd => ?_) (fun cd => ?_)
          ·rw [if_pos cd] at H
           refine Wr fun ie e7 => Oa rfl rfl <| O_nil (e7 _ _ <| W_ret ?_)
           obtain rfl := sinj H
           exact ret1 rfl rfl ⟨rfl, ((hs.sub (ssk (ssk ssr))).less ((ai.trans ae).trans ad))⟩
          ·rw [if_neg (bft cd)] at H
           refine W_skip (e4 _ _ <| W_region <| Om rfl rfl <| Oa rfl rfl <| O_nil (cy _ _ _ (by repeat first | exact Sub.nil | refine Sub.cons rfl ?_) (cz aa _ H hs)))
         refine W_drawS 27 [0, 0, 2, 5, 8, 16, 16, 112, 144, 16, 16, 1552, 2064, 4368, 8208, 16400, 32768, 32768, 32768, 491520, 32768, 32768, 32768, 7372800, 8945664, 16809984, 33587200] [134217718, 134217721, 134217713, 134217696, 134152192, 134217536, 134217504, 134217216, 134209024, 134215136, 134214624, 134210016, 134201824, 134184960, 134152192, 0, 133562368, 133496832, 133365760, 116391936, 124715008, 123666432, 121569280, 101646336, 67108864, 0, 0] [0, 0, 2, 7, 15, 31, 31, 127, 255, 31, 31, 1567, 3615, 8191, 16383, 32767, 65535, 65535, 65535, 524287, 65535, 65535, 65535, 7405567, 16777215, 33554431, 67108863] [24, 25, 26] (fun w => St w0 ao ((.box a5 34 ([bx, bz, b0, b1, b2, b3, a0, a1, a2, a3, a4])) :: (.box bv 27 ([bc, bd, be, bf, bg, bh, bi, bj, bk, bl, bm])) :: Γ) w) mixed (by kernel_rfl) (fun sh => ?_)
         have hs := hs.drew
         refine Dm 0 sh rfl rfl (by kernel_rfl) rfl <| Dm 1 sh rfl rfl (by kernel_rfl) rfl <| Dp 2 sh rfl rfl (by kernel_rfl) (fun w => Y_lenR un28 (h1.mono ((ai.trans ae).trans ad)) rfl) <| Dp 3 sh rfl rfl (by kernel_rfl) (fun w => Y_lss rfl rfl) <| Dm 4 sh rfl rfl (by kernel_rfl) rfl <| OD_if (dj := 73) rfl (fun ce => ?_) (fun ce => ?_)
         ·rw [if_pos ce] at H
          refine Dq 5 sh rfl rfl rfl rfl (by kernel_rfl) (fun w => Y_move rfl) <| Dq 6 sh rfl rfl rfl rfl (by kernel_rfl) (fun w => Y_move rfl) ?_
          obtain ⟨dc, H⟩ := gd H
          obtain ⟨ig, ih, e8, e9⟩ := ar.ix el28 dc.1 dc.2
          refine Dq 7 sh rfl rfl rfl rfl (by kernel_rfl) (fun w => e9 rfl rfl) <| Dz 8 sh rfl rfl rfl rfl (by kernel_rfl) hs (fun w hs => Y_load ag21 rfl (hs.see e8.int)) <| Dq 9 sh rfl rfl rfl rfl (by kernel_rfl) (fun w => Y_move rfl) <| Dq 10 sh rfl rfl rfl rfl (by kernel_rfl) (fun w => Y_move rfl) ?_
          obtain ⟨dd, H⟩ := gd H
          obtain ⟨ii, ij, fa, fb⟩ := (h1.mono ((ai.trans ae).trans ad)).ix el28 dd.1 dd.2
          refine Dq 11 sh rfl rfl rfl rfl (by kernel_rfl) (fun w => fb rfl rfl) <| Dz 12 sh rfl rfl rfl rfl (by kernel_rfl) hs (fun w hs => Y_load ag21 rfl (hs.see fa.int)) <| Dq 13 sh rfl rfl rfl rfl (by kernel_rfl) (fun w => Y_neq rfl rfl) <| Dp 14 sh rfl rfl (by kernel_rfl) (fun w => Y_pick_t rfl rfl) <| Dm 15 sh rfl rfl (by kernel_rfl) rfl <| OD_if (dj := 84) rfl (fun cf => ?_) (fun cf => ?_)
          ·rw [if_pos cf] at H
           refine Dn 16 sh rfl rfl rfl rfl rfl (by kernel_rfl) <| Dn 17 sh rfl rfl rfl rfl rfl (by kernel_rfl) <| Dn 18 sh rfl rfl rfl rfl rfl (by kernel_rfl) <| Dn 19 sh rfl rfl rfl rfl rfl (by kernel_rfl) <| Dn 20 sh rfl rfl rfl rfl rfl (by kernel_rfl) <| Dn 21 sh rfl rfl rfl rfl rfl (by kernel_rfl) <| Dn 22 sh rfl rfl rfl rfl rfl (by kernel_rfl) <| Dn 23 sh rfl rfl rfl rfl rfl (by kernel_rfl) <| Dn 24 sh rfl rfl rfl rfl rfl (by kernel_rfl) <| Dn 25 sh rfl rfl rfl rfl rfl (by kernel_rfl) <| Dp 26 sh rfl rfl (by kernel_rfl) (fun w => Y_pick_t rfl rfl) <| OD_doneS sh (by kernel_rfl) (cb _ _ _ (by repeat first | exact Sub.nil | refine Sub.cons rfl ?_) (cc true _ H hs))
          ·rw [if_neg cf] at H
           refine Dq 16 sh rfl rfl rfl rfl (by kernel_rfl) (fun w => Y_move rfl) <| Dq 17 sh rfl rfl rfl rfl (by kernel_rfl) (fun w => Y_move rfl) <| Dq 18 sh rfl rfl rfl rfl (by kernel_rfl) (fun w => Y_move rfl) ?_
           obtain ⟨cg, H⟩ := gd H
           obtain ⟨ik, fc, fd⟩ := ar.cut el28 cg.1 cg.2.1 cg.2.2
           refine Dq 19 sh rfl rfl rfl rfl (by kernel_rfl) (fun w => fd rfl (.inr ⟨_, _, rfl, rfl⟩) (.inr ⟨_, _, rfl, rfl⟩)) <| Dq 20 sh rfl rfl rfl rfl (by kernel_rfl) (fun w => Y_move rfl) <| Dq 21 sh rfl rfl rfl rfl (by kernel_rfl) (fun w => Y_move rfl) <| Dq 22 sh rfl rfl rfl rfl (by kernel_rfl) (fun w => Y_move rfl) ?_
           obtain ⟨ch, H⟩ := gd H
           obtain ⟨il, fe, ff⟩ := (h1.mono ((ai.trans ae).trans ad)).cut el28 ch.1 ch.2.1 ch.2.2
           refine Dq 23 sh rfl rfl rfl rfl (by kernel_rfl) (fun w => ff rfl (.inr ⟨_, _, rfl, rfl⟩) (.inr ⟨_, _, rfl, rfl⟩)) <| D1 24 sh rfl (by kernel_rfl) (fun im fg => O_yes rfl rfl ?_)
           obtain ⟨bq, de, H⟩ := bnd H
           refine O_call rfl rfl (law12_shuffled.c hs fc fe de) (fun io w hpost => ?_)
           obtain ⟨rfl, hs⟩ := hpost
           refine O_nil (fg _ _ (fun _ _ => by first | contradiction | (rename_i h; cases h)) <| OD_resetS sh [] hs (by kernel_rfl) <| Dq 25 sh rfl rfl rfl rfl (by kernel_rfl) (fun w => Y_not rfl) <| Dp 26 sh rfl rfl (by kernel_rfl) (fun w => Y_pick_f rfl rfl) <| OD_doneS sh (by kernel_rfl) (cb _ _ _ (by repeat first | exact Sub.nil | refine Sub.cons rfl ?_) (cc (!bq) _ H hs)))
         ·rw [if_neg ce] at H
          refine Dn 5 sh rfl rfl rfl rfl rfl (by kernel_rfl) <| Dn 6 sh rfl rfl rfl rfl rfl (by kernel_rfl) <| Dn 7 sh rfl rfl rfl rfl rfl (by kernel_rfl) <| Dn 8 sh rfl rfl rfl rfl rfl (by kernel_rfl) <| Dn 9 sh rfl rfl rfl rfl rfl (by kernel_rfl) <| Dn 10 sh rfl rfl rfl rfl rfl (by kernel_rfl) <| Dn 11 sh rfl rfl rfl rfl rfl (by kernel_rfl) <| Dn 12 sh rfl rfl rfl rfl rfl (by kernel_rfl) <| Dn 13 sh rfl rfl rfl rfl rfl (by kernel_rfl) <| Dp 14 sh rfl rfl (by kernel_rfl) (fun w => Y_pick_f rfl rfl) <| Dm 15 sh rfl rfl (by kernel_rfl) rfl <| Dq 16 sh rfl rfl rfl rfl (by kernel_rfl) (fun w => Y_move rfl) <| Dq 17 sh rfl rfl rfl rfl (by kernel_rfl) (fun w => Y_move rfl) <| Dq 18 sh rfl rfl rfl rfl (by kernel_rfl) (fun w => Y_move rfl) ?_
          obtain ⟨ci, H⟩ := gd H
          obtain ⟨ip, fh, fi⟩ := ar.cut el28 ci.1 ci.2.1 ci.2.2
          refine Dq 19 sh rfl rfl rfl rfl (by kernel_rfl) (fun w => fi rfl (.inr ⟨_, _, rfl, rfl⟩) (.inr ⟨_, _, rfl, rfl⟩)) <| Dq 20 sh rfl rfl rfl rfl (by kernel_rfl) (fun w => Y_move rfl) <| Dq 21 sh rfl rfl rfl rfl (by kernel_rfl) (fun w => Y_move rfl) <| Dq 22 sh rfl rfl rfl rfl (by kernel_rfl) (fun w => Y_move rfl) ?_
          obtain ⟨cj, H⟩ := gd H
          obtain ⟨iq, fj, fk⟩ := (h1.mono ((ai.trans ae).trans ad)).cut el28 cj.1 cj.2.1 cj.2.2
          refine Dq 23 sh rfl rfl rfl rfl (by kernel_rfl) (fun w => fk rfl (.inr ⟨_, _, rfl, rfl⟩) (.inr ⟨_, _, rfl, rfl⟩)) <| D1 24 sh rfl (by kernel_rfl) (fun ir fl => O_yes rfl rfl ?_)
          obtain ⟨br, df, H⟩ := bnd H
          refine O_call rfl rfl (law12_shuffled.c hs fh fj df) (fun it w hpost => ?_)
          obtain ⟨rfl, hs⟩ := hpost
          refine O_nil (fl _ _ (fun _ _ => by first | contradiction | (rename_i h; cases h)) <| OD_resetS sh [] hs (by kernel_rfl) <| Dq 25 sh rfl rfl rfl rfl (by kernel_rfl) (fun w => Y_not rfl) <| Dp 26 sh rfl rfl (by kernel_rfl) (fun w => Y_pick_f rfl rfl) <| OD_doneS sh (by kernel_rfl) (cb _ _ _ (by repeat first | exact Sub.nil | refine Sub.cons rfl ?_) (cc (!br) _ H hs)))
       refine W_region <| Om rfl rfl <| Om rfl rfl <| O_y rfl (Y_lenR un28 (h1.mono ((ai.trans ae).trans ad)) rfl) <| O_y rfl (Y_lss rfl rfl) <| Om rfl rfl <| O_if (dj := 60) rfl (fun ck => ?_) (fun ck => ?_)
       ·rw [if_pos ck] at H
        refine O_yes rfl rfl <| Om rfl rfl <| O_yes rfl rfl <| Om rfl rfl <| O_yes rfl rfl <| Om rfl rfl ?_
        obtain ⟨dg, H⟩ := gd H
        obtain ⟨iu, iv, fm, fn⟩ := (h1.mono ((ai.trans ae).trans ad)).ix el28 dg.1 dg.2
        refine O_yes rfl rfl <| O_y rfl (fn rfl rfl) <| O_yes rfl rfl <| O_y rfl (Y_load ag21 rfl (hs.see fm.int)) <| O_yes rfl rfl ?_
        obtain ⟨bs, dh, H⟩ := bnd H
        refine O_call rfl rfl (book_Tables_Class.c hs (bn.mono (ae.trans ad)) dh) (fun iw w hpost => ?_)
        obtain ⟨rfl, hs⟩ := hpost
        refine O_yes rfl rfl <| O_y rfl (Y_neq rfl rfl) <| O_y rfl (Y_pick_t rfl rfl) <| O_nil (da _ _ _ (by repeat first | exact Sub.nil | refine Sub.cons rfl ?_) (db (decide (bs ≠ 0)) _ H hs))
       ·rw [if_neg ck] at H
        refine O_no rfl rfl rfl rfl <| O_no rfl rfl rfl rfl <| O_no rfl rfl rfl rfl <| O_no rfl rfl rfl rfl <| O_no rfl rfl rfl rfl <| O_no rfl rfl rfl rfl <| O_no rfl rfl rfl rfl <| O_y rfl (Y_pick_f rfl rfl) <| O_nil (da _ _ _ (by repeat first | exact Sub.nil | refine Sub.cons rfl ?_) (db false _ H hs))
      ·rw [if_neg b9] at H
       refine W_exit (ev _ _ (et _ _ <| Wr fun iy fo => Om rfl rfl <| Om rfl rfl ?_))
       obtain ⟨ba, di, H⟩ := bnd H
       refine O_call rfl rfl (canon_Decompose.c hs (bn.mono (ae.trans ad)) (h1.mono ((ai.trans ae).trans ad)) di) (fun iz w hpost => ?_)
       obtain ⟨ja, jb, go, rfl, au, hs, dk⟩ := hpost
       refine Om rfl rfl <| Om rfl rfl ?_
       obtain ⟨bt, dl, H⟩ := bnd H
       refine O_call rfl rfl (canon_Decompose.c hs (bn.mono ((ae.trans ad).trans au)) (h2.mono (((ai.trans ae).trans ad).trans au)) dl) (fun jc w hpost => ?_)
       obtain ⟨fp, jd, gp, rfl, av, hs, dm⟩ := hpost
       refine Oa rfl rfl <| Oa rfl rfl <| O_nil (fo _ _ <| W.weak [(1, _), (2, _), (7, _), (13, _), (14, _)] (by repeat first | exact Sub.nil | refine Sub.cons rfl ?_) ?_)
       refine Wr fun je fq => Om rfl rfl <| O_lit2 (xs := []) (cs := []) el28 hs rfl rfl rfl (by decide) (by decide) rfl sz_nil flat_nil (fun jf w hs => ?_)
       have fr : RowR (Rep.int .i32) fp ([]) ([] : List Int) := RowR.nil _ _
       refine Om rfl rfl ?_
       obtain ⟨gq, dn, dp⟩ := Src.sl hs (h1.mono ((((ai.trans ae).trans ad).trans au).trans av))
       obtain ⟨fs, H⟩ := gd H
       refine O_appendR (i := 0) el28 hs rfl fr rfl rfl rfl dn dp fs (fun jg gr w ft hs => Om rfl rfl ?_)
       obtain ⟨gs, dq, dr⟩ := Src.sl hs (h2.mono ((((ai.trans ae).trans ad).trans au).trans av))
       obtain ⟨fu, H⟩ := gd H
       refine O_appendR (i := 0) el28 hs rfl ft rfl rfl rfl dq dr fu (fun jh gt w fv hs => ?_)
       obtain ⟨ji, aw, hs, fw⟩ := hs.rowEnd (j := 0) fv rfl
       obtain ⟨co, ds, H⟩ := bnd H
       refine O_call rfl rfl (canon_Decompose.c hs (bn.mono ((((ae.trans ad).trans au).trans av).trans aw)) fw ds) (fun jj w hpost => ?_)
       obtain ⟨jk, jl, gu, rfl, ax, hs, fx⟩ := hpost
       refine Oa rfl rfl <| O_nil (fq _ _ <| W_seq fun jm fy => ?_)
       obtain ⟨fz, ay, hs, ga⟩ := hs.rowEnd (j := 0) fx rfl
       refine W_region <| Om rfl rfl <| Om rfl rfl <| O_lit2 (xs := []) (cs := []) el28 hs rfl rfl rfl (by decide) (by decide) rfl sz_nil flat_nil (fun jn w hs => ?_)
       have gb : RowR (Rep.int .i32) fz ([]) ([] : List Int) := RowR.nil _ _
       refine Om rfl rfl ?_
       obtain ⟨gc, H⟩ := gd H
       refine O_appendR (i := 0) el28 hs rfl gb rfl rfl rfl (Src.lit (j := 2) hs rfl (dk.mono (((av.trans aw).trans ax).trans ay))) (dk.mono (((av.trans aw).trans ax).trans ay)) gc (fun jo gv w ge hs => Om rfl rfl ?_)
       obtain ⟨gf, H⟩ := gd H
       refine O_appendR (i := 0) el28 hs rfl ge rfl rfl rfl (Src.lit (j := 1) hs rfl (dm.mono ((aw.trans ax).trans ay))) (dm.mono ((aw.trans ax).trans ay)) gf (fun jp gw w gg hs => ?_)
       obtain ⟨jq, a7, hs, gh⟩ := hs.rowEnd (j := 0) gg rfl
       obtain ⟨cp, dt, H⟩ := bnd H
       refine O_call rfl rfl (canon_Order.c hs (bn.mono (((((((ae.trans ad).trans au).trans av).trans aw).trans ax).trans ay).trans a7)) gh dt) (fun jr w hpost => ?_)
       obtain ⟨js, jt, gx, rfl, bo, hs, gi⟩ := hpost
       obtain ⟨ju, bp, hs, gj⟩ := hs.rowEnd (j := 0) gi rfl
       obtain ⟨cq, du, H⟩ := bnd H
       refine O_call rfl rfl (ref10_Runes.c hs (ga.mono ((a7.trans bo).trans bp)) gj du) (fun jv w hpost => ?_)
       obtain ⟨rfl, hs⟩ := hpost
       refine Oa rfl rfl <| O_nil (fy _ _ <| W.weak [(6, _)] (S1 rfl) <| W_ret ?_)
       obtain rfl := sinj H
       exact ret1 rfl rfl ⟨rfl, ((hs.sub (ssk (ssk (ssk (ssk ssr))))).less ((((((((((ai.trans ae).trans ad).trans au).trans av).trans aw).trans ax).trans ay).trans a7).trans bo).trans bp))⟩
    obtain ⟨dv, az, hs, a6⟩ := hs.rowEnd (j := 0) en rfl
    refine W_region <| Om rfl rfl <| O_y rfl (Y_lenR un28 a6 rfl) <| Om rfl rfl <| O_y rfl (Y_lenR un28 (h1.mono ((ai.trans ae).trans az)) rfl) <| O_y rfl (Y_neq rfl rfl) <| Om rfl rfl <| O_if (dj := 36) rfl (fun cl => ?_) (fun cl => ?_)
    ·rw [if_pos cl] at H
     refine O_no rfl rfl rfl rfl <| O_no rfl rfl rfl rfl <| O_no rfl rfl rfl rfl <| O_no rfl rfl rfl rfl <| O_y rfl (Y_pick_t rfl rfl) <| Om rfl rfl <| O_no rfl rfl rfl rfl <| O_no rfl rfl rfl rfl <| O_no rfl rfl rfl rfl <| O_no rfl rfl rfl rfl <| O_no rfl rfl rfl rfl <| O_no rfl rfl rfl rfl <| O_y rfl (Y_pick_t rfl rfl) <| O_nil (b6 _ _ _ (by repeat first | exact Sub.nil | refine Sub.cons rfl ?_) (b7 aq true b5 dv _ H az hs a6))
    ·rw [if_neg cl] at H
     refine O_yes rfl rfl <| Om rfl rfl <| O_yes rfl rfl <| Om rfl rfl <| O_yes rfl rfl ?_
     obtain ⟨cr, dw, H⟩ := bnd H
     refine O_call rfl rfl (canon_Ordered.c hs (bn.mono (ae.trans az)) a6 dw) (fun jw w hpost => ?_)
     obtain ⟨rfl, hs⟩ := hpost
     refine O_yes rfl rfl <| O_y rfl (Y_neq rfl rfl) <| O_y rfl (Y_pick_f rfl rfl) <| Om rfl rfl <| O_if (dj := 42) rfl (fun cm => ?_) (fun cm => ?_)
     ·rw [if_pos cm] at H
      refine O_no rfl rfl rfl rfl <| O_no rfl rfl rfl rfl <| O_no rfl rfl rfl rfl <| O_no rfl rfl rfl rfl <| O_no rfl rfl rfl rfl <| O_no rfl rfl rfl rfl <| O_y rfl (Y_pick_t rfl rfl) <| O_nil (b6 _ _ _ (by repeat first | exact Sub.nil | refine Sub.cons rfl ?_) (b7 aq true b5 dv _ H az hs a6))
     ·rw [if_neg cm] at H
      refine O_yes rfl rfl <| Om rfl rfl <| O_yes rfl rfl <| Om rfl rfl <| O_yes rfl rfl ?_
      obtain ⟨ct, dx, H⟩ := bnd H
      refine O_call rfl rfl (canon_Order.c hs (bn.mono (ae.trans az)) a6 dx) (fun jx w hpost => ?_)
      obtain ⟨jy, jz, gy, rfl, a8, hs, gk⟩ := hpost
      refine O_yes rfl rfl <| Om rfl rfl ?_
      obtain ⟨gl, a9, hs, gm⟩ := hs.rowEnd (j := 0) gk rfl
      refine O_yes rfl rfl ?_
      obtain ⟨bu, dy, H⟩ := bnd H
      refine O_call rfl rfl (ref10_Runes.c hs gm (a6.mono (a8.trans a9)) dy) (fun j0 w hpost => ?_)
      obtain ⟨rfl, hs⟩ := hpost
      refine O_yes rfl rfl <| O_y rfl (Y_not rfl) <| O_y rfl (Y_pick_f rfl rfl) <| O_nil (b6 _ _ _ (by repeat first | exact Sub.nil | refine Sub.cons rfl ?_) (b7 aq (!bu) b5 gl _ H ((az.trans a8).trans a9) hs (a6.mono (a8.trans a9))))
  refine W_region ?_
  obtain ⟨cu, dz, H⟩ := bnd H
  refine O_call rfl rfl (law12_awake.c hs dz) (fun j6 w hpost => ?_)
  obtain ⟨rfl, hs⟩ := hpost
  refine O_y rfl (Y_not rfl) <| Om rfl rfl <| O_cases (dj := 24) rfl (fun cn => ?_) (fun cn => ?_)
  ·rw [if_pos cn] at H
   refine O_no rfl rfl rfl rfl <| O_no rfl rfl rfl rfl <| O_y rfl (Y_pick_t rfl rfl) <| O_nil (cv _ _ _ (S4 rfl rfl rfl rfl) (cw true _ H hs))
  ·rw [if_neg (bft cn)] at H
   refine O_yes rfl rfl <| Om rfl rfl <| O_yes rfl rfl <| O_y rfl (Y_not rfl) <| O_y rfl (Y_pick_f rfl rfl) <| O_nil (cv _ _ _ (S4 rfl rfl rfl rfl) (cw (!ap.2.2) _ H hs))

end Go.Proofs.YtekafkokpnihfaaGreat
