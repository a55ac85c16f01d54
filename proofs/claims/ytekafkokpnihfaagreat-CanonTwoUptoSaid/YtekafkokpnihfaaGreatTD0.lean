/- Written by this repo's gen.py: for each Go function a Lean function with the same answers and the walk that shows it. -/
import Derived.Test.YtekafkokpnihfaaGreatTA4
import Derived.Test.YtekafkokpnihfaaGreatTA6
import Derived.Test.YtekafkokpnihfaaGreatTA7
import Derived.Test.YtekafkokpnihfaaGreatTC1
import Derived.Test.YtekafkokpnihfaaGreatData
import Derived.Test.YtekafkokpnihfaaGreatFacts
namespace Go.Proofs.YtekafkokpnihfaaGreat
open Go.RowKit
set_option maxRecDepth 100000
set_option maxHeartbeats 4000000
set_option linter.unusedVariables false
def law12_tables.j1 (ae : Bk) (ac : Option Tbs × Int) (ab : Bool) : Option (Option Tbs × Bk × Bool) := some (ac.1, ae, ab)
def law12_tables.f (x0 : Bk) : Option (Option Tbs × Bk × Bool) := (ref10_Of.f x0).bind fun ae => ((ref10_Check.f ae).bind fun af => ((book_Compile.f x0).bind fun ac => (if af.2.2 ≠ 0 then (some (none, (⟨([] : List ByteArray), ([] : List Val), ([] : List Chs), ([] : List Val), ([] : List Chs), ([] : List Spn), ([] : List Val), ([] : List Val), ([] : List Spn), ([] : List Val), ([] : List Chs)⟩ : Bk), decide (ac.2 = af.2.2))) else (if ac.2 = 0 then (law12_tables.j1 ae ac ((ac.1).isSome)) else (law12_tables.j1 ae ac false)))))
theorem law12_tables.c {w0 w : World} {ρ : Hp} {Γ : List Item} (hs : St w0 ρ (Γ) w) {c0 : List Value} {x0 : Bk} (h0 : rBk.R ρ c0 x0) {r : Option Tbs × Bk × Bool} (H : law12_tables.f x0 = some r) : CallsR Tryz.prog 5 [.agg c0.toArray] w (fun v w' => ∃ (ρ' : Hp) (v0 : Value) (cs1 : List Value), v = .tuple #[v0, .agg cs1.toArray, .bool r.2.2] ∧ Le ρ ρ' ∧ St w0 ρ' (Γ) w' ∧ PtrR rTbs ρ' v0 r.1 ∧ rBk.R ρ' cs1 r.2.1) := by
  rw [law12_tables.f] at H
  refine enter Tryz.func5 Tryz.ntmps5 rfl (by kernel_rfl) rfl ?_
  have cg := h0
  obtain ⟨a0, a1, a2, a3, a4, a5, a6, a7, a8, a9, ba, rfl, cu, cv, cw, cx, cy, cz, da, db, dc, dd, de⟩ := cg
  refine Wr fun df ch => O_boxN (cs := [a0, a1, a2, a3, a4, a5, a6, a7, a8, a9, ba]) hs rfl rfl (fun cf w hs => Oa rfl rfl <| O_alloc zr34 hs rfl (fun bb w hs => Oa rfl rfl <| O_nil (ch _ _ <| Wr fun dg ci => O_y rfl (Y_loadbN (i := 1) ag27 sz27 hs rfl rfl rfl rfl) ?_)))
  obtain ⟨ae, bc, H⟩ := bnd H
  refine O_call rfl rfl (ref10_Of.c hs h0 bc) (fun dh w hpost => ?_)
  obtain ⟨di, cj, rfl, ag, hs, bd⟩ := hpost
  have be := bd
  obtain ⟨bf, bg, bh, bi, bj, bk, bl, ah, ai, aj, ak, rfl, bm, bn, bo, bp, bq, br, al, am, an, ao, ap⟩ := be
  refine O_alloc zr34 hs rfl (fun au w hs => O_storeN (i := 0) sz34 hs rfl rfl rfl rfl rfl (one_cons bm.one (one_cons bn.one (one_cons bo.one (one_cons bp.one (one_cons bq.one (one_cons br.one (one_cons al.one (one_cons am.one (one_cons an.one (one_cons ao.one (one_cons ap.one one_nil))))))))))) (fun w hs => O_nil (ci _ _ <| Wr fun ck bs => O_y rfl (Y_loadbN (i := 0) ag34 sz34 hs rfl rfl rfl rfl) ?_)))
  obtain ⟨af, av, H⟩ := bnd H
  refine O_call rfl rfl (ref10_Check.c hs bd av) (fun cl w hpost => ?_)
  obtain ⟨rfl, hs⟩ := hpost
  refine Om rfl rfl <| O_y rfl (Y_extract rfl rfl) <| O_y rfl (Y_extract rfl rfl) <| O_y rfl (Y_extract rfl rfl) <| Oa rfl rfl <| Oa rfl rfl <| Oa rfl rfl <| O_nil (bs _ _ <| W.weak [(1, _), (3, _), (5, _), (8, _)] (S4 rfl rfl rfl rfl) <| Wr fun cm bt => O_y rfl (Y_loadbN (i := 2) ag27 sz27 hs rfl rfl rfl rfl) ?_)
  obtain ⟨ac, aw, H⟩ := bnd H
  refine O_call rfl rfl (book_Compile.c hs (rBk.mono ag h0) aw) (fun cn w hpost => ?_)
  obtain ⟨aa, bu, rfl, ad, hs, ax⟩ := hpost
  refine Om rfl rfl <| O_y rfl (Y_extract rfl rfl) <| O_y rfl (Y_extract rfl rfl) <| Oa rfl rfl <| Oa rfl rfl <| O_nil (bt _ _ <| W_seq fun co bv => Wr fun cp bw => Om rfl rfl <| O_y rfl (Y_neq rfl rfl) <| O_nil (bw _ _ <| W_if rfl (fun aq => ?_) (fun aq => ?_)))
  ·rw [if_pos aq] at H
   refine Wr fun cq bx => O_y rfl (Y_build (cs := [.slice none 0 0, .slice none 0 0, .slice none 0 0, .slice none 0 0, .slice none 0 0, .slice none 0 0, .slice none 0 0, .slice none 0 0, .slice none 0 0, .slice none 0 0, .slice none 0 0]) zr34 pl34 (Parts.nil) ag34 (by kernel_rfl)) <| Om rfl rfl <| Om rfl rfl <| O_y rfl (Y_eql rfl rfl) <| Oa rfl rfl <| O_storeN (i := 1) sz34 hs rfl rfl rfl rfl rfl (one_cons rfl (one_cons rfl (one_cons rfl (one_cons rfl (one_cons rfl (one_cons rfl (one_cons rfl (one_cons rfl (one_cons rfl (one_cons rfl (one_cons rfl one_nil))))))))))) (fun w hs => Oa rfl rfl <| O_nil (bx _ _ <| W.weak [(2, _), (3, _), (4, _)] (S3 rfl rfl rfl) <| W_ret ?_))
   have bz : PtrR rTbs aa (.pointer none) none := PtrR.nil _ _
   have b0 : SlR Rep.str aa (.slice none 0 0) [] := .inl ⟨rfl, none, 0, rfl⟩
   have b1 : SlR rVal aa (.slice none 0 0) [] := .inl ⟨rfl, none, 0, rfl⟩
   have b2 : SlR rChs aa (.slice none 0 0) [] := .inl ⟨rfl, none, 0, rfl⟩
   have b3 : SlR rVal aa (.slice none 0 0) [] := .inl ⟨rfl, none, 0, rfl⟩
   have b4 : SlR rChs aa (.slice none 0 0) [] := .inl ⟨rfl, none, 0, rfl⟩
   have b5 : SlR rSpn aa (.slice none 0 0) [] := .inl ⟨rfl, none, 0, rfl⟩
   have b6 : SlR rVal aa (.slice none 0 0) [] := .inl ⟨rfl, none, 0, rfl⟩
   have b7 : SlR rVal aa (.slice none 0 0) [] := .inl ⟨rfl, none, 0, rfl⟩
   have b8 : SlR rSpn aa (.slice none 0 0) [] := .inl ⟨rfl, none, 0, rfl⟩
   have b9 : SlR rVal aa (.slice none 0 0) [] := .inl ⟨rfl, none, 0, rfl⟩
   have ca : SlR rChs aa (.slice none 0 0) [] := .inl ⟨rfl, none, 0, rfl⟩
   obtain rfl := sinj H
   exact retN rfl (RV.tmp rfl (RV.cell rfl ag34 sz34 rfl (fun j u hu => hs.boxCell (i := 1) rfl hu) (RV.tmp rfl RV.nil))) (by simp) ⟨_, _, _, rfl, (ag.trans ad), (hs.sub (ssk (ssk (ssk ssr)))), bz, ⟨_, _, _, _, _, _, _, _, _, _, _, rfl, b0, b1, b2, b3, b4, b5, b6, b7, b8, b9, ca⟩⟩
  ·rw [if_neg aq] at H
   refine W_skip (bv _ _ <| W_seqj fun cb cc ay => ?_)
   have az : ∀ (ab : Bool) (w : World), law12_tables.j1 ae ac ab = some r → St w0 aa ((.box au 34 ([bf, bg, bh, bi, bj, bk, bl, ah, ai, aj, ak])) :: (.box bb 34 ([bf, bg, bh, bi, bj, bk, bl, ah, ai, aj, ak])) :: (.box cf 27 ([a0, a1, a2, a3, a4, a5, a6, a7, a8, a9, ba])) :: Γ) w → cb [(2, bu), (3, .pointer (some ⟨bb, 0, none⟩)), (4, .bool ab)] w := by
    intro ab w H hs
    rw [law12_tables.j1] at H
    refine cc _ _ <| W_ret ?_
    obtain rfl := sinj H
    exact retN rfl (RV.tmp rfl (RV.cell rfl ag34 sz34 rfl (fun j u hu => hs.boxCell (i := 1) rfl hu) (RV.tmp rfl RV.nil))) (by simp) ⟨_, _, _, rfl, (ag.trans ad), (hs.sub (ssk (ssk (ssk ssr)))), ax, (rBk.mono ad bd)⟩
   refine W_drawS 11 [0, 0, 0, 4, 8, 16, 48, 80, 17, 259, 1023] [254, 509, 1011, 995, 515, 899, 771, 771, 226, 0, 0] [0, 0, 0, 4, 12, 28, 60, 124, 29, 287, 1023] [9, 10] (fun w => St w0 aa ((.box au 34 ([bf, bg, bh, bi, bj, bk, bl, ah, ai, aj, ak])) :: (.box bb 34 ([.slice none 0 0, .slice none 0 0, .slice none 0 0, .slice none 0 0, .slice none 0 0, .slice none 0 0, .slice none 0 0, .slice none 0 0, .slice none 0 0, .slice none 0 0, .slice none 0 0])) :: (.box cf 27 ([a0, a1, a2, a3, a4, a5, a6, a7, a8, a9, ba])) :: Γ) w) mixed (by kernel_rfl) (fun sh => ?_)
   have hs := hs.drew
   refine Dm 0 sh rfl rfl (by kernel_rfl) rfl <| Dy 1 sh rfl rfl (by kernel_rfl) hs (fun w hs => Y_loadbN (i := 0) ag34 sz34 hs rfl rfl rfl rfl) <| Dm 2 sh rfl rfl (by kernel_rfl) rfl <| Dp 3 sh rfl rfl (by kernel_rfl) (fun w => Y_eql rfl rfl) <| Dm 4 sh rfl rfl (by kernel_rfl) rfl <| OD_if (dj := 34) rfl (fun ar => ?_) (fun ar => ?_)
   ·rw [if_pos ar] at H
    refine Dq 5 sh rfl rfl rfl rfl (by kernel_rfl) (fun w => Y_move rfl) <| Dq 6 sh rfl rfl rfl rfl (by kernel_rfl) (fun w => (ax.nen un29 rfl rfl)) <| Dp 7 sh rfl rfl (by kernel_rfl) (fun w => Y_pick_t rfl rfl) <| Dp 8 sh rfl rfl (by kernel_rfl) (fun w => Y_assign rfl) <| D1 9 sh rfl (by kernel_rfl) (fun cr cd => O_storeN (i := 1) sz34 hs rfl rfl rfl rfl rfl (one_cons bm.one (one_cons bn.one (one_cons bo.one (one_cons bp.one (one_cons bq.one (one_cons br.one (one_cons al.one (one_cons am.one (one_cons an.one (one_cons ao.one (one_cons ap.one one_nil))))))))))) (fun w hs => O_nil (cd _ _ (fun _ _ => by first | contradiction | (rename_i h; cases h)) <| OD_resetS sh [] hs (by kernel_rfl) <| Dp 10 sh rfl rfl (by kernel_rfl) (fun w => Y_assign rfl) <| OD_doneS sh (by kernel_rfl) (ay _ _ _ (S3 rfl rfl rfl) (az ((ac.1).isSome) _ H hs)))))
   ·rw [if_neg ar] at H
    refine Dn 5 sh rfl rfl rfl rfl rfl (by kernel_rfl) <| Dn 6 sh rfl rfl rfl rfl rfl (by kernel_rfl) <| Dp 7 sh rfl rfl (by kernel_rfl) (fun w => Y_pick_f rfl rfl) <| Dp 8 sh rfl rfl (by kernel_rfl) (fun w => Y_assign rfl) <| D1 9 sh rfl (by kernel_rfl) (fun ct ce => O_storeN (i := 1) sz34 hs rfl rfl rfl rfl rfl (one_cons bm.one (one_cons bn.one (one_cons bo.one (one_cons bp.one (one_cons bq.one (one_cons br.one (one_cons al.one (one_cons am.one (one_cons an.one (one_cons ao.one (one_cons ap.one one_nil))))))))))) (fun w hs => O_nil (ce _ _ (fun _ _ => by first | contradiction | (rename_i h; cases h)) <| OD_resetS sh [] hs (by kernel_rfl) <| Dp 10 sh rfl rfl (by kernel_rfl) (fun w => Y_assign rfl) <| OD_doneS sh (by kernel_rfl) (ay _ _ _ (S3 rfl rfl rfl) (az false _ H hs)))))

def ref10_Runes.l1 : Nat → List Int → List Int → Int → Option Bool
  | 0, _, _, _ => none
  | ab + 1, x0, x1, aa => if aa < (x0.length : Int) then (if (0 : Int) ≤ aa ∧ aa < (x0.length : Int) then (if (0 : Int) ≤ aa ∧ aa < (x1.length : Int) then (if (rd x0 aa) ≠ (rd x1 aa) then (some false) else ((ref10_Runes.l1 ab x0 x1) (IntKind.i64.wrap (aa + 1)))) else none) else none) else (some true)
def ref10_Runes.f (x0 x1 : List Int) : Option Bool := if (x0.length : Int) ≠ (x1.length : Int) then (some false) else (ref10_Runes.l1 K0 x0 x1 0)
theorem ref10_Runes.c {w0 w : World} {ρ : Hp} {Γ : List Item} (hs : St w0 ρ (Γ) w) {v0 : Value} {x0 : List Int} (h0 : SlR (Rep.int .i32) ρ v0 x0) {v1 : Value} {x1 : List Int} (h1 : SlR (Rep.int .i32) ρ v1 x1) {r : Bool} (H : ref10_Runes.f x0 x1 = some r) : CallsR Tryz.prog 9 [v0, v1] w (fun v w' => v = .bool r ∧ St w0 ρ Γ w') := by
  rw [ref10_Runes.f] at H
  refine enter Tryz.func9 Tryz.ntmps9 rfl (by kernel_rfl) rfl <| Wr fun a2 ai => Oa rfl rfl <| O_nil (ai _ _ <| W_seq fun a3 aj => Wr fun a4 ak => Om rfl rfl <| O_y rfl (Y_lenR un28 h0 rfl) <| Om rfl rfl <| O_y rfl (Y_lenR un28 h1 rfl) <| O_y rfl (Y_neq rfl rfl) <| O_nil (ak _ _ ?_))
  refine W_if rfl (fun ad => ?_) (fun ad => ?_)
  ·rw [if_pos ad] at H
   refine Wr fun a5 al => Oa rfl rfl <| O_nil (al _ _ <| W_ret ?_)
   obtain rfl := sinj H
   exact ret1 rfl rfl ⟨rfl, hs⟩
  ·rw [if_neg ad] at H
   refine W_skip (aj _ _ <| W_seq fun a6 am => Wr fun a7 an => Om rfl rfl <| O_y rfl (Y_lenR un28 h0 rfl) <| Om rfl rfl <| O_nil (an _ _ <| W_block fun a8 ao a9 => W_loop (σ := Nat × Int) (fun (ab, aa) => [(0, v0), (1, v1), (12, .int .i64 (x0.length : Int)), (13, .int .i64 aa)]) (fun (ab, aa) w => ref10_Runes.l1 ab x0 x1 aa = some r ∧ St w0 ρ (Γ) w) (fun s => s.1) (K0, 0) (S4 rfl rfl rfl rfl) (Ai H hs) ?_))
   rintro ⟨ab, aa⟩ w ba ⟨H, hs⟩ ac
   show W _ _ _ _ _ _ [(0, v0), (1, v1), (12, .int .i64 (x0.length : Int)), (13, .int .i64 aa)] w
   cases ab with
   | zero => rw [ref10_Runes.l1] at H; cases H
   | succ ab =>
   rw [ref10_Runes.l1] at H
   refine Wr fun bb ap => O_y rfl (Y_lss rfl rfl) <| O_nil (ap _ _ <| W_seq fun bc aq => W_if rfl (fun ae => ?_) (fun ae => ?_))
   ·rw [if_pos ae] at H
    refine W_skip (aq _ _ <| W_seq fun bd ar => W_block fun be bf bg => Wr fun bh au => Om rfl rfl <| Oa rfl rfl <| O_nil (au _ _ <| W_seq fun bi av => W_drawS 9 [0, 0, 3, 4, 0, 0, 48, 64, 136] [506, 505, 496, 240, 431, 415, 271, 15, 0] [0, 0, 3, 7, 0, 0, 48, 112, 255] [] (fun w => St w0 ρ (Γ) w) mixed (by kernel_rfl) (fun sh => ?_)))
    have hs := hs.drew
    refine Dm 0 sh rfl rfl (by kernel_rfl) rfl <| Dm 1 sh rfl rfl (by kernel_rfl) rfl ?_
    obtain ⟨ag, H⟩ := gd H
    obtain ⟨bj, bk, aw, ax⟩ := h0.ix el28 ag.1 ag.2
    refine Dp 2 sh rfl rfl (by kernel_rfl) (fun w => ax rfl rfl) <| Dy 3 sh rfl rfl (by kernel_rfl) hs (fun w hs => Y_load ag21 rfl (hs.see aw.int)) <| Dm 4 sh rfl rfl (by kernel_rfl) rfl <| Dm 5 sh rfl rfl (by kernel_rfl) rfl ?_
    obtain ⟨ah, H⟩ := gd H
    obtain ⟨bl, bm, ay, az⟩ := h1.ix el28 ah.1 ah.2
    refine Dp 6 sh rfl rfl (by kernel_rfl) (fun w => az rfl rfl) <| Dy 7 sh rfl rfl (by kernel_rfl) hs (fun w hs => Y_load ag21 rfl (hs.see ay.int)) <| Dp 8 sh rfl rfl (by kernel_rfl) (fun w => Y_neq rfl rfl) <| OD_doneS sh (by kernel_rfl) (av _ _ <| W.weak [(0, _), (1, _), (12, _), (13, _), (24, _)] (by repeat first | exact Sub.nil | refine Sub.cons rfl ?_) ?_)
    refine W_if rfl (fun af => ?_) (fun af => ?_)
    ·rw [if_pos af] at H
     refine Wr fun bn a0 => Oa rfl rfl <| O_nil (a0 _ _ <| W_ret ?_)
     obtain rfl := sinj H
     exact ret1 rfl rfl ⟨rfl, hs⟩
    ·rw [if_neg af] at H
     refine W_skip (ar _ _ <| W_region <| O_y rfl (Y_add rfl rfl) <| Om rfl rfl <| O_nil (ac (ab, (IntKind.i64.wrap (aa + 1))) _ _ (S4 rfl rfl rfl rfl) (Ai H hs) (Nat.lt_succ_self _)))
   ·rw [if_neg ae] at H
    refine W_exit (ao _ _ (am _ _ <| Wr fun bo a1 => Oa rfl rfl <| O_nil (a1 _ _ <| W_ret ?_)))
    obtain rfl := sinj H
    exact ret1 rfl rfl ⟨rfl, hs⟩

def canon_NewDecomposer.f (x0 : Option Tbs) : Option S10 := some (⟨x0, ([] : List Int)⟩ : S10)
theorem canon_NewDecomposer.c {w0 w : World} {ρ : Hp} {Γ : List Item} (hs : St w0 ρ (Γ) w) {v0 : Value} {x0 : Option Tbs} (h0 : PtrR rTbs ρ v0 x0) {r : S10} (H : canon_NewDecomposer.f x0 = some r) : CallsR Tryz.prog 13 [v0] w (fun v w' => ∃ (ρ' : Hp) (b0 : Nat) (v0_0 v0_1 : Value) (cs0_1 : List Value), v = .pointer (some ⟨b0, 0, none⟩) ∧ Le ρ ρ' ∧ St w0 ρ' (.box b0 64 ([v0_0, v0_1]) :: .row v0_1 21 (Rep.int .i32).sz r.kept.length cs0_1 :: Γ) w' ∧ PtrR rTbs ρ' v0_0 r.t ∧ RowR (Rep.int .i32) ρ' cs0_1 r.kept) := by
  rw [canon_NewDecomposer.f] at H
  refine enter Tryz.func13 Tryz.ntmps13 rfl (by kernel_rfl) rfl <| Wr fun ad aa => Oa rfl rfl <| O_nil (aa _ _ <| Wr fun ae ab => Om rfl rfl <| O_y rfl (Y_build (cs := [v0, .slice none 0 0]) zr64 pl64 ((Parts.cons rfl h0.cellsL Parts.nil)) ag64 (by kernel_rfl)) <| O_boxN (cs := [v0, .slice none 0 0]) hs rfl rfl (fun af w hs => Oa rfl rfl <| O_nil (ab _ _ <| W_ret ?_)))
  have hs := hs.rowNil 21 (Rep.int .i32).sz
  have ac := RowR.nil (Rep.int .i32) ρ
  have hs := hs.front 1 rfl
  obtain rfl := sinj H
  exact ret1 rfl rfl ⟨_, _, _, _, _, rfl, Le.rfl' _, hs, h0, ac⟩

def law12_awake.j1 (aa : Bool) : Option Bool := some aa
def law12_awake.f : Option Bool := (canon_Decompose.f none ([65, 44032])).bind fun am => ((ref10_Runes.f am ([65, 4352, 4449])).bind fun an => (if an = true then ((canon_NewDecomposer.f none).bind fun ar => (law12_awake.j1 true)) else (law12_awake.j1 false)))
theorem law12_awake.c {w0 w : World} {ρ : Hp} {Γ : List Item} (hs : St w0 ρ (Γ) w) {r : Bool} (H : law12_awake.f = some r) : CallsR Tryz.prog 6 [] w (fun v w' => v = .bool r ∧ St w0 ρ Γ w') := by
  rw [law12_awake.f] at H
  refine enter Tryz.func6 Tryz.ntmps6 rfl (by kernel_rfl) rfl <| Wr fun a9 au => Oa rfl rfl <| O_nil (au _ _ <| W_seqj fun av aw ao => ?_)
  have ap : ∀ (aa : Bool) (ab : Hp) (w : World), law12_awake.j1 aa = some r → Le ρ ab → St w0 ab (Γ) w → av [(0, .bool aa)] w := by
   intro aa ab w H af hs
   rw [law12_awake.j1] at H
   refine aw _ _ <| W_ret ?_
   obtain rfl := sinj H
   exact ret1 rfl rfl ⟨rfl, (hs.less af)⟩
  refine W_region <| O_lit2 (xs := [.const (.int .i32 65), .const (.int .i32 44032)]) (cs := [.int .i32 65, .int .i32 44032]) el28 hs rfl rfl rfl (by decide) (by decide) rfl (sz_cons rfl (sz_cons rfl sz_nil)) (flat_cons rfl (flat_cons rfl flat_nil)) (fun ba w hs => ?_)
  have ax : RowR (Rep.int .i32) ρ ([.int .i32 65, .int .i32 44032]) [65, 44032] := RowR.cons (c := [.int .i32 65]) (x := 65) rfl (RowR.cons (c := [.int .i32 44032]) (x := 44032) rfl (RowR.nil _ _))
  have ay : PtrR rTbs ρ (.pointer none) none := PtrR.nil _ _
  obtain ⟨bb, ac, hs, az⟩ := hs.rowEnd (j := 0) ax rfl
  obtain ⟨am, ah, H⟩ := bnd H
  refine O_call rfl rfl (canon_Decompose.c hs (ay.mono ac) az ah) (fun bc w hpost => ?_)
  obtain ⟨a0, bd, a1, rfl, ag, hs, a2⟩ := hpost
  refine O_lit2 (xs := [.const (.int .i32 65), .const (.int .i32 4352), .const (.int .i32 4449)]) (cs := [.int .i32 65, .int .i32 4352, .int .i32 4449]) el28 hs rfl rfl rfl (by decide) (by decide) rfl (sz_cons rfl (sz_cons rfl (sz_cons rfl sz_nil))) (flat_cons rfl (flat_cons rfl (flat_cons rfl flat_nil))) (fun be w hs => ?_)
  have a3 : RowR (Rep.int .i32) a0 ([.int .i32 65, .int .i32 4352, .int .i32 4449]) [65, 4352, 4449] := RowR.cons (c := [.int .i32 65]) (x := 65) rfl (RowR.cons (c := [.int .i32 4352]) (x := 4352) rfl (RowR.cons (c := [.int .i32 4449]) (x := 4449) rfl (RowR.nil _ _)))
  obtain ⟨bf, ad, hs, a4⟩ := hs.rowEnd (j := 1) a2 rfl
  obtain ⟨aq, ae, hs, a5⟩ := hs.rowEnd (j := 0) (a3.mono ad) rfl
  obtain ⟨an, ai, H⟩ := bnd H
  refine O_call rfl rfl (ref10_Runes.c hs (a4.mono ae) a5 ai) (fun bg w hpost => ?_)
  obtain ⟨rfl, hs⟩ := hpost
  refine Om rfl rfl <| O_cases (dj := 5) rfl (fun aj => ?_) (fun aj => ?_)
  ·rw [if_pos aj] at H
   have a6 : PtrR rTbs aq (.pointer none) none := PtrR.nil _ _
   refine O_yes rfl rfl ?_
   obtain ⟨ar, ak, H⟩ := bnd H
   refine O_call rfl rfl (canon_NewDecomposer.c hs a6 ak) (fun bh w hpost => ?_)
   obtain ⟨a7, bi, bj, bk, a8, rfl, al, hs, bl, bm⟩ := hpost
   refine O_yes rfl rfl <| O_y rfl (Y_neqp un44 rfl rfl) <| O_y rfl (Y_pick_t rfl rfl) <| Oa rfl rfl <| O_nil (ao _ _ _ (S1 rfl) (ap true a7 _ H ((((ac.trans ag).trans ad).trans ae).trans al) (hs.sub (ssk (ssk ssr)))))
  ·rw [if_neg (bft aj)] at H
   refine O_no rfl rfl rfl rfl <| O_no rfl rfl rfl rfl <| O_y rfl (Y_pick_f rfl rfl) <| Oa rfl rfl <| O_nil (ao _ _ _ (S1 rfl) (ap false aq _ H (((ac.trans ag).trans ad).trans ae) hs))

end Go.Proofs.YtekafkokpnihfaaGreat
