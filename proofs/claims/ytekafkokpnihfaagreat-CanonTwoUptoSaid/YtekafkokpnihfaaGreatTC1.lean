/- Written by this repo's gen.py: for each Go function a Lean function with the same answers and the walk that shows it. -/
import Derived.Test.YtekafkokpnihfaaGreatTA2
import Derived.Test.YtekafkokpnihfaaGreatTA3
import Derived.Test.YtekafkokpnihfaaGreatTC0
import Derived.Test.YtekafkokpnihfaaGreatData
import Derived.Test.YtekafkokpnihfaaGreatFacts
namespace Go.Proofs.YtekafkokpnihfaaGreat
open Go.RowKit
set_option maxRecDepth 100000
set_option maxHeartbeats 4000000
set_option linter.unusedVariables false
def book_row.f (x0 : Option Tab) (x1 : List Chs) (x2 : Int) : Option (List Int) := (stage_Table_Look.f x0 x2).bind fun aa => (if aa = 0 then (some ([] : List Int)) else (if (0 : Int) ≤ IntKind.i64.wrap (aa - 1) ∧ IntKind.i64.wrap (aa - 1) < (x1.length : Int) then ((slices_Clone_rune_rune.f ((rd x1 (IntKind.i64.wrap (aa - 1))).is_)).bind fun af => (some af)) else none))
theorem book_row.c {w0 w : World} {ρ : Hp} {Γ : List Item} (hs : St w0 ρ (Γ) w) {v0 : Value} {x0 : Option Tab} (h0 : PtrR rTab ρ v0 x0) {v1 : Value} {x1 : List Chs} (h1 : SlR rChs ρ v1 x1) {x2 : Int} {r : List Int} (H : book_row.f x0 x1 x2 = some r) : CallsR Tryz.prog 109 [v0, v1, .int .i32 x2] w (fun v w' => ∃ (ρ' : Hp) (v0 : Value) (cs0 : List Value), v = v0 ∧ Le ρ ρ' ∧ St w0 ρ' (.row v0 21 (Rep.int .i32).sz r.length cs0 :: Γ) w' ∧ RowR (Rep.int .i32) ρ' cs0 r) := by
  rw [book_row.f] at H
  refine enter Tryz.func109 Tryz.ntmps109 rfl (by kernel_rfl) rfl <| Wr fun aw ah => Oa rfl rfl <| O_nil (ah _ _ <| Wr fun ax ai => Om rfl rfl <| Om rfl rfl ?_)
  obtain ⟨aa, ab, H⟩ := bnd H
  refine O_call rfl rfl (stage_Table_Look.c hs h0 ab) (fun ay w hpost => ?_)
  obtain ⟨rfl, hs⟩ := hpost
  refine Oa rfl rfl <| O_nil (ai _ _ <| W_seq fun az aj => Wr fun a0 ak => Om rfl rfl <| O_y rfl (Y_eql rfl rfl) <| O_nil (ak _ _ <| W_if rfl (fun ac => ?_) (fun ac => ?_)))
  ·rw [if_pos ac] at H
   refine Wr fun a1 al => Oa rfl rfl <| O_nil (al _ _ <| W_ret ?_)
   have hs := hs.rowNil 21 (Rep.int .i32).sz
   have am := RowR.nil (Rep.int .i32) ρ
   obtain rfl := sinj H
   exact ret1 rfl rfl ⟨_, _, _, rfl, Le.rfl' _, hs, am⟩
  ·rw [if_neg ac] at H
   refine W_skip (aj _ _ <| Wr fun a2 an => Om rfl rfl <| Om rfl rfl <| O_y rfl (Y_sub rfl rfl) ?_)
   obtain ⟨ag, H⟩ := gd H
   obtain ⟨a3, a4, ao, ap⟩ := h1.ix el24 ag.1 ag.2
   obtain ⟨_, ⟨a5, rfl, aq⟩, ar⟩ := ao
   refine O_y rfl (ap rfl rfl) <| O_y rfl (Y_field fo94_2 rfl) <| O_y rfl (Y_load ag28 rfl (hs.see (ar 2 _ rfl))) ?_
   obtain ⟨af, ad, H⟩ := bnd H
   refine O_call rfl rfl (slices_Clone_rune_rune.c hs aq ad) (fun a6 w hpost => ?_)
   obtain ⟨a7, a8, au, rfl, ae, hs, av⟩ := hpost
   refine Oa rfl rfl <| O_nil (an _ _ <| W.weak [(6, _)] (S1 rfl) <| W_ret ?_)
   obtain rfl := sinj H
   exact ret1 rfl rfl ⟨_, _, _, rfl, ae, hs, av⟩

def book_Tables_Parts.f (x0 : Option Tbs) (x1 : Int) : Option (List Int) := if ((x0).isNone) = true then (some ([] : List Int)) else (if x0.isSome = true then ((book_row.f (((x0).getD default).decomp) ((((x0).getD default).b).decomp) x1).bind fun aa => (some aa)) else none)
theorem book_Tables_Parts.c {w0 w : World} {ρ : Hp} {Γ : List Item} (hs : St w0 ρ (Γ) w) {v0 : Value} {x0 : Option Tbs} (h0 : PtrR rTbs ρ v0 x0) {x1 : Int} {r : List Int} (H : book_Tables_Parts.f x0 x1 = some r) : CallsR Tryz.prog 89 [v0, .int .i32 x1] w (fun v w' => ∃ (ρ' : Hp) (v0 : Value) (cs0 : List Value), v = v0 ∧ Le ρ ρ' ∧ St w0 ρ' (.row v0 21 (Rep.int .i32).sz r.length cs0 :: Γ) w' ∧ RowR (Rep.int .i32) ρ' cs0 r) := by
  rw [book_Tables_Parts.f] at H
  refine enter Tryz.func89 Tryz.ntmps89 rfl (by kernel_rfl) rfl <| Wr fun cm ap => Oa rfl rfl <| O_nil (ap _ _ <| W_seq fun cn aq => Wr fun co ar => Om rfl rfl <| O_y rfl ((h0.eqn un29 rfl rfl)) <| O_nil (ar _ _ <| W_cond rfl (fun ae => ?_) (fun ae => ?_)))
  ·rw [if_pos ae] at H
   refine Wr fun cp au => Oa rfl rfl <| O_nil (au _ _ <| W_ret ?_)
   have hs := hs.rowNil 21 (Rep.int .i32).sz
   have av := RowR.nil (Rep.int .i32) ρ
   obtain rfl := sinj H
   exact ret1 rfl rfl ⟨_, _, _, rfl, Le.rfl' _, hs, av⟩
  ·rw [if_neg (bft ae)] at H
   refine W_skip (aq _ _ <| W_seq fun cq aw => W_drawS 12 [0, 1, 2, 4, 0, 16, 32, 64, 128, 0, 776, 2047] [2044, 2040, 2032, 1008, 1999, 1935, 1807, 1551, 527, 511, 0, 0] [0, 1, 3, 7, 0, 16, 48, 112, 240, 0, 1023, 2047] [10, 11] (fun w => St w0 ρ (Γ) w) mixed (by kernel_rfl) (fun sh => ?_))
   have hs := hs.drew
   refine Dm 0 sh rfl rfl (by kernel_rfl) rfl ?_
   obtain ⟨an, H⟩ := gd H
   obtain ⟨cr, af, ax⟩ := h0.open an
   obtain ⟨_, ⟨cs, ct, cu, cv, cw, cx, cy, cz, da, db, dc, dd, de, df, dg, dh, ay, az, a0, a1, a2, a3, rfl, di, dj, dk, dl, dm, dn, dp, dq, dr, ds, dt, du, dv, dw, dx, dy, a4, a5, a6, ag, a7, a8⟩, ah⟩ := ax
   refine Dp 1 sh rfl rfl (by kernel_rfl) (fun w => Y_nilp (congrArg some af)) <| Dp 2 sh rfl rfl (by kernel_rfl) (fun w => Y_field fo62_9 rfl) <| Dy 3 sh rfl rfl (by kernel_rfl) hs (fun w hs => Y_load ag59 rfl (hs.see (ah 19 _ rfl))) <| Dm 4 sh rfl rfl (by kernel_rfl) rfl ?_
   obtain ⟨a9, ab, ai⟩ := h0.open an
   obtain ⟨_, ⟨ba, bb, bc, bd, be, bf, bg, bh, bi, bj, bk, bl, bm, bn, bo, bp, bq, br, bs, bt, bu, bv, rfl, bw, bx, bz, b0, aj, b1, b2, b3, b4, b5, b6, b7, b8, b9, ca, cb, cc, cd, ce, cf, cg, ch⟩, ak⟩ := ai
   refine Dp 5 sh rfl rfl (by kernel_rfl) (fun w => Y_nilp (congrArg some ab)) <| Dp 6 sh rfl rfl (by kernel_rfl) (fun w => Y_field fo62_0 rfl) <| Dp 7 sh rfl rfl (by kernel_rfl) (fun w => Y_field fo27_4 rfl) <| Dy 8 sh rfl rfl (by kernel_rfl) hs (fun w hs => Y_load ag24 rfl (hs.see (ak 4 _ rfl))) <| Dm 9 sh rfl rfl (by kernel_rfl) rfl <| D1 10 sh rfl (by kernel_rfl) (fun ci al => ?_)
   obtain ⟨aa, ac, H⟩ := bnd H
   refine O_call rfl rfl (book_row.c hs ag aj ac) (fun cj w hpost => ?_)
   obtain ⟨ck, cl, ao, rfl, ad, hs, am⟩ := hpost
   refine O_nil (al _ _ (fun _ _ => by first | contradiction | (rename_i h; cases h)) <| OD_resetS sh [] hs (by kernel_rfl) <| Dp 11 sh rfl rfl (by kernel_rfl) (fun w => Y_assign rfl) <| OD_doneS sh (by kernel_rfl) (aw _ _ <| W.weak [(4, _)] (S1 rfl) <| W_ret ?_))
   obtain rfl := sinj H
   exact ret1 rfl rfl ⟨_, _, _, rfl, ad, hs, am⟩

def canon_Full.l1 : Nat → (Option Tbs → Int → Option (List Int)) → Option Tbs → List Int → List Int → Int → Option (List Int)
  | 0, _, _, _, _, _ => none
  | af + 1, rec, x0, aj, aa, ab => if ab < (aj.length : Int) then (if (0 : Int) ≤ ab ∧ ab < (aj.length : Int) then ((rec x0 (rd aj ab)).bind fun al => (if aa.length + al.length ≤ most then ((canon_Full.l1 af rec x0 aj) (aa ++ al) (IntKind.i64.wrap (ab + 1))) else none)) else none) else (some aa)
def canon_Full.b (rec : Option Tbs → Int → Option (List Int)) (x0 : Option Tbs) (x1 : Int) : Option (List Int) := (canon_Syllable.f x1).bind fun ae => (if ae.2.2.2 = true then (if ae.2.2.1 = 0 then (some ([ae.1, ae.2.1])) else (some ([ae.1, ae.2.1, ae.2.2.1]))) else ((book_Tables_Parts.f x0 x1).bind fun aj => (if (aj.length : Int) = 0 then (some ([x1])) else (canon_Full.l1 K0 rec x0 aj ([] : List Int) 0))))
def canon_Full.f : Nat → Option Tbs → Int → Option (List Int)
  | 0, _, _ => none
  | k + 1, x0, x1 => canon_Full.b (canon_Full.f k) x0 x1
def canon_Full.Spec (rec : Option Tbs → Int → Option (List Int)) : Prop := ∀ {w0 w : World} {ρ : Hp} {Γ : List Item} (hs : St w0 ρ (Γ) w) {v0 : Value} {x0 : Option Tbs} (h0 : PtrR rTbs ρ v0 x0) {x1 : Int} {r : List Int}, rec x0 x1 = some r → CallsR Tryz.prog 48 [v0, .int .i32 x1] w (fun v w' => ∃ (ρ' : Hp) (v0 : Value) (cs0 : List Value), v = v0 ∧ Le ρ ρ' ∧ St w0 ρ' (.row v0 21 (Rep.int .i32).sz r.length cs0 :: Γ) w' ∧ RowR (Rep.int .i32) ρ' cs0 r)
theorem canon_Full.cb (rec : Option Tbs → Int → Option (List Int)) (hrec : canon_Full.Spec rec) {w0 w : World} {ρ : Hp} {Γ : List Item} (hs : St w0 ρ (Γ) w) {v0 : Value} {x0 : Option Tbs} (h0 : PtrR rTbs ρ v0 x0) {x1 : Int} {r : List Int} (H : canon_Full.b rec x0 x1 = some r) : CallsR Tryz.prog 48 [v0, .int .i32 x1] w (fun v w' => ∃ (ρ' : Hp) (v0 : Value) (cs0 : List Value), v = v0 ∧ Le ρ ρ' ∧ St w0 ρ' (.row v0 21 (Rep.int .i32).sz r.length cs0 :: Γ) w' ∧ RowR (Rep.int .i32) ρ' cs0 r) := by
  rw [canon_Full.b] at H
  refine enter Tryz.func48 Tryz.ntmps48 rfl (by kernel_rfl) rfl <| Wr fun ci bk => Oa rfl rfl <| O_nil (bk _ _ <| W_seq fun cj bl => Wr fun ck bm => Om rfl rfl ?_)
  obtain ⟨ae, ay, H⟩ := bnd H
  refine O_call rfl rfl (canon_Syllable.c hs ay) (fun cl w hpost => ?_)
  obtain ⟨rfl, hs⟩ := hpost
  refine Om rfl rfl <| O_y rfl (Y_extract rfl rfl) <| O_y rfl (Y_extract rfl rfl) <| O_y rfl (Y_extract rfl rfl) <| O_y rfl (Y_extract rfl rfl) <| Oa rfl rfl <| Oa rfl rfl <| Oa rfl rfl <| Oa rfl rfl <| O_nil (bm _ _ <| Wr fun cm bn => Om rfl rfl <| O_nil (bn _ _ ?_))
  refine W.weak [(0, _), (1, _), (5, _), (6, _), (7, _), (20, _)] (by repeat first | exact Sub.nil | refine Sub.cons rfl ?_) ?_
  refine W_cond rfl (fun az => ?_) (fun az => ?_)
  ·rw [if_pos az] at H
   refine W_seq fun cn bo => Wr fun co bp => Om rfl rfl <| O_y rfl (Y_eql rfl rfl) <| O_nil (bp _ _ <| W_if rfl (fun a0 => ?_) (fun a0 => ?_))
   ·rw [if_pos a0] at H
    refine Wr fun cp bq => Om rfl rfl <| Om rfl rfl <| O_lit2 (xs := [.tmp 23, .tmp 24]) (cs := [.int .i32 ae.1, .int .i32 ae.2.1]) el28 hs rfl rfl rfl (by decide) (by decide) rfl (sz_cons rfl (sz_cons rfl sz_nil)) (flat_cons rfl (flat_cons rfl flat_nil)) (fun cq w hs => ?_)
    have br : RowR (Rep.int .i32) ρ ([.int .i32 ae.1, .int .i32 ae.2.1]) [ae.1, ae.2.1] := RowR.cons (c := [.int .i32 ae.1]) (x := ae.1) rfl (RowR.cons (c := [.int .i32 ae.2.1]) (x := ae.2.1) rfl (RowR.nil _ _))
    refine Oa rfl rfl <| O_nil (bq _ _ <| W_ret ?_)
    obtain rfl := sinj H
    exact ret1 rfl rfl ⟨_, _, _, rfl, Le.rfl' _, hs, br⟩
   ·rw [if_neg a0] at H
    refine W_skip (bo _ _ <| Wr fun cr bs => Om rfl rfl <| Om rfl rfl <| Om rfl rfl <| O_lit2 (xs := [.tmp 26, .tmp 27, .tmp 28]) (cs := [.int .i32 ae.1, .int .i32 ae.2.1, .int .i32 ae.2.2.1]) el28 hs rfl rfl rfl (by decide) (by decide) rfl (sz_cons rfl (sz_cons rfl (sz_cons rfl sz_nil))) (flat_cons rfl (flat_cons rfl (flat_cons rfl flat_nil))) (fun ct w hs => ?_))
    have bt : RowR (Rep.int .i32) ρ ([.int .i32 ae.1, .int .i32 ae.2.1, .int .i32 ae.2.2.1]) [ae.1, ae.2.1, ae.2.2.1] := RowR.cons (c := [.int .i32 ae.1]) (x := ae.1) rfl (RowR.cons (c := [.int .i32 ae.2.1]) (x := ae.2.1) rfl (RowR.cons (c := [.int .i32 ae.2.2.1]) (x := ae.2.2.1) rfl (RowR.nil _ _)))
    refine Oa rfl rfl <| O_nil (bs _ _ <| W_ret ?_)
    obtain rfl := sinj H
    exact ret1 rfl rfl ⟨_, _, _, rfl, Le.rfl' _, hs, bt⟩
  ·rw [if_neg (bft az)] at H
   refine W_skip (bl _ _ <| Wr fun cu bu => Om rfl rfl <| Om rfl rfl ?_)
   obtain ⟨aj, a1, H⟩ := bnd H
   refine O_call rfl rfl (book_Tables_Parts.c hs h0 a1) (fun a2 w hpost => ?_)
   obtain ⟨ax, cv, a3, rfl, ap, hs, bv⟩ := hpost
   refine Oa rfl rfl <| O_nil (bu _ _ <| W_seq fun cw bw => Wr fun cx bx => Om rfl rfl <| O_y rfl (Y_lenRow (i := 0) un28 hs rfl rfl) <| O_y rfl (Y_eql rfl rfl) <| O_nil (bx _ _ <| W_if rfl (fun a4 => ?_) (fun a4 => ?_)))
   ·rw [if_pos a4] at H
    refine Wr fun cy bz => Om rfl rfl <| O_lit2 (xs := [.tmp 36]) (cs := [.int .i32 x1]) el28 hs rfl rfl rfl (by decide) (by decide) rfl (sz_cons rfl sz_nil) (flat_cons rfl flat_nil) (fun cz w hs => ?_)
    have b0 : RowR (Rep.int .i32) ax ([.int .i32 x1]) [x1] := RowR.cons (c := [.int .i32 x1]) (x := x1) rfl (RowR.nil _ _)
    refine Oa rfl rfl <| O_nil (bz _ _ <| W.weak [(4, _)] (S1 rfl) <| W_ret ?_)
    obtain rfl := sinj H
    exact ret1 rfl rfl ⟨_, _, _, rfl, ap, (hs.sub (ssc (ssk ssr))), b0⟩
   ·rw [if_neg a4] at H
    refine W_skip (bw _ _ <| Wr fun da a5 => Oa rfl rfl ?_)
    have hs := hs.rowNil 21 (Rep.int .i32).sz
    have a6 := RowR.nil (Rep.int .i32) ax
    refine O_nil (a5 _ _ <| W_seq fun b1 a7 => Wr fun b2 a8 => Om rfl rfl <| O_y rfl (Y_lenRow (i := 1) un28 hs rfl rfl) <| Om rfl rfl <| O_nil (a8 _ _ <| W.weak [(0, _), (10, _), (38, _), (39, _), (40, _)] (by repeat first | exact Sub.nil | refine Sub.cons rfl ?_) ?_))
    refine W_block fun b3 a9 b4 => W_loop (σ := Nat × List Int × Int × Value × List Value × Hp) (fun (af, aa, ab, ac, ad, ai) => [(0, v0), (10, ac), (38, a2), (39, .int .i64 (aj.length : Int)), (40, .int .i64 ab)]) (fun (af, aa, ab, ac, ad, ai) w => canon_Full.l1 af rec x0 aj aa ab = some r ∧ Le ax ai ∧ St w0 ai ((.row ac 21 ((Rep.int .i32).sz) aa.length ad) :: (.row a2 21 ((Rep.int .i32).sz) aj.length a3) :: Γ) w ∧ RowR (Rep.int .i32) ai ad aa) (fun s => s.1) (K0, ([] : List Int), 0, (.slice none 0 0), ([]), ax) (by repeat first | exact Sub.nil | refine Sub.cons rfl ?_) (Ai H (Ai (Le.rfl' _) (Ai hs a6))) ?_
    rintro ⟨af, aa, ab, ac, ad, ai⟩ w b5 ⟨H, ah, hs, ag⟩ am
    show W _ _ _ _ _ _ [(0, v0), (10, ac), (38, a2), (39, .int .i64 (aj.length : Int)), (40, .int .i64 ab)] w
    cases af with
    | zero => rw [canon_Full.l1] at H; cases H
    | succ af =>
    rw [canon_Full.l1] at H
    refine Wr fun b6 ba => O_y rfl (Y_lss rfl rfl) <| O_nil (ba _ _ <| W_seq fun b7 bb => W_if rfl (fun aq => ?_) (fun aq => ?_))
    ·rw [if_pos aq] at H
     refine W_skip (bb _ _ <| W_seq fun b8 bc => W_block fun b9 ca cc => W_seq fun cd bd => W_region ?_)
     obtain ⟨ak, H⟩ := gd H
     obtain ⟨ce, an⟩ := hs.rowBlock (j := 1) rfl (by have := ak.2; omega)
     obtain ⟨_, rfl, ar⟩ := (bv.mono ah).at ak.1 ak.2
     refine O_y rfl (Y_ixRow (j := 1) el28 hs rfl an rfl rfl ak.1 ak.2) <| O_y rfl (Y_load ag21 rfl (hs.rowCell (j := 1) rfl an (ar 0 _ rfl))) <| Oa rfl rfl <| O_nil (bd _ _ <| W_region <| Om rfl rfl <| Om rfl rfl <| Om rfl rfl ?_)
     obtain ⟨al, au, H⟩ := bnd H
     refine O_call rfl rfl (hrec hs (h0.mono (ap.trans ah)) au) (fun cf w hpost => ?_)
     obtain ⟨be, cg, bj, rfl, ao, hs, av⟩ := hpost
     obtain ⟨bf, H⟩ := gd H
     refine O_appendR (i := 1) el28 hs rfl (ag.mono ao) rfl rfl rfl (Src.lit (j := 0) hs rfl av) av bf (fun bg aw w bh hs => Oa rfl rfl <| O_nil (bc _ _ <| W_region <| O_y rfl (Y_add rfl rfl) <| Om rfl rfl <| O_nil (am (af, (aa ++ al), (IntKind.i64.wrap (ab + 1)), bg, aw, be) _ _ (by repeat first | exact Sub.nil | refine Sub.cons rfl ?_) (Ai H (Ai (ah.trans ao) (Ai (hs.sub (ssk (ssc (ssc ssr)))) bh))) (Nat.lt_succ_self _))))
    ·rw [if_neg aq] at H
     refine W_exit (a9 _ _ (a7 _ _ <| Wr fun ch bi => Om rfl rfl <| Oa rfl rfl <| O_nil (bi _ _ <| W_ret ?_)))
     obtain rfl := sinj H
     exact ret1 rfl rfl ⟨_, _, _, rfl, (ap.trans ah), (hs.sub (ssc (ssk ssr))), ag⟩
theorem canon_Full.c (k : Nat) : canon_Full.Spec (canon_Full.f k) := by
  induction k with
  | zero => intro w0 w ρ Γ hs v0 x0 h0 x1 r H; exact nomatch (show (none : Option _) = some _ from H)
  | succ k ih => intro w0 w ρ Γ hs v0 x0 h0 x1 r H; exact canon_Full.cb (canon_Full.f k) ih hs h0 H

def canon_parts.l1 : Nat → Option Tbs → List Int → List Int → Int → Option (List Int)
  | 0, _, _, _, _ => none
  | ae + 1, x0, x1, aa, ab => if ab < (x1.length : Int) then (if (0 : Int) ≤ ab ∧ ab < (x1.length : Int) then ((canon_Full.f K0 x0 (rd x1 ab)).bind fun ak => (if aa.length + ak.length ≤ most then ((canon_parts.l1 ae x0 x1) (aa ++ ak) (IntKind.i64.wrap (ab + 1))) else none)) else none) else (some aa)
def canon_parts.f (x0 : Option Tbs) (x1 : List Int) : Option (List Int) := canon_parts.l1 K0 x0 x1 ([] : List Int) 0
theorem canon_parts.c {w0 w : World} {ρ : Hp} {Γ : List Item} (hs : St w0 ρ (Γ) w) {v0 : Value} {x0 : Option Tbs} (h0 : PtrR rTbs ρ v0 x0) {v1 : Value} {x1 : List Int} (h1 : SlR (Rep.int .i32) ρ v1 x1) {r : List Int} (H : canon_parts.f x0 x1 = some r) : CallsR Tryz.prog 25 [v0, v1] w (fun v w' => ∃ (ρ' : Hp) (v0 : Value) (cs0 : List Value), v = v0 ∧ Le ρ ρ' ∧ St w0 ρ' (.row v0 21 (Rep.int .i32).sz r.length cs0 :: Γ) w' ∧ RowR (Rep.int .i32) ρ' cs0 r) := by
  rw [canon_parts.f] at H
  refine enter Tryz.func25 Tryz.ntmps25 rfl (by kernel_rfl) rfl <| Wr fun ba aq => Oa rfl rfl <| O_nil (aq _ _ <| Wr fun bb ar => Oa rfl rfl ?_)
  have hs := hs.rowNil 21 (Rep.int .i32).sz
  have au := RowR.nil (Rep.int .i32) ρ
  refine O_nil (ar _ _ <| W_seq fun bc av => Wr fun bd aw => Om rfl rfl <| O_y rfl (Y_lenR un28 h1 rfl) <| Om rfl rfl <| O_nil (aw _ _ <| W_block fun be ax bf => W_loop (σ := Nat × List Int × Int × Value × List Value × Hp) (fun (ae, aa, ab, ac, ad, ah) => [(0, v0), (5, ac), (8, v1), (9, .int .i64 (x1.length : Int)), (10, .int .i64 ab)]) (fun (ae, aa, ab, ac, ad, ah) w => canon_parts.l1 ae x0 x1 aa ab = some r ∧ Le ρ ah ∧ St w0 ah ((.row ac 21 ((Rep.int .i32).sz) aa.length ad) :: Γ) w ∧ RowR (Rep.int .i32) ah ad aa) (fun s => s.1) (K0, ([] : List Int), 0, (.slice none 0 0), ([]), ρ) (by repeat first | exact Sub.nil | refine Sub.cons rfl ?_) (Ai H (Ai (Le.rfl' _) (Ai hs au))) ?_))
  rintro ⟨ae, aa, ab, ac, ad, ah⟩ w bg ⟨H, ag, hs, af⟩ ai
  show W _ _ _ _ _ _ [(0, v0), (5, ac), (8, v1), (9, .int .i64 (x1.length : Int)), (10, .int .i64 ab)] w
  cases ae with
  | zero => rw [canon_parts.l1] at H; cases H
  | succ ae =>
  rw [canon_parts.l1] at H
  refine Wr fun bh ay => O_y rfl (Y_lss rfl rfl) <| O_nil (ay _ _ <| W_seq fun bi az => W_if rfl (fun al => ?_) (fun al => ?_))
  ·rw [if_pos al] at H
   refine W_skip (az _ _ <| W_seq fun bj a0 => W_block fun bk bl bm => W_seq fun bn a1 => W_region ?_)
   obtain ⟨ao, H⟩ := gd H
   obtain ⟨bo, bp, a2, a3⟩ := (h1.mono ag).ix el28 ao.1 ao.2
   refine O_y rfl (a3 rfl rfl) <| O_y rfl (Y_load ag21 rfl (hs.see a2.int)) <| Oa rfl rfl <| O_nil (a1 _ _ <| W_region <| Om rfl rfl <| Om rfl rfl <| Om rfl rfl ?_)
   obtain ⟨ak, am, H⟩ := bnd H
   refine O_call rfl rfl ((canon_Full.c K0) hs (h0.mono ag) am) (fun bq w hpost => ?_)
   obtain ⟨a4, br, a5, rfl, aj, hs, ap⟩ := hpost
   obtain ⟨a6, H⟩ := gd H
   refine O_appendR (i := 1) el28 hs rfl (af.mono aj) rfl rfl rfl (Src.lit (j := 0) hs rfl ap) ap a6 (fun a7 an w a8 hs => Oa rfl rfl <| O_nil (a0 _ _ <| W_region <| O_y rfl (Y_add rfl rfl) <| Om rfl rfl <| O_nil (ai (ae, (aa ++ ak), (IntKind.i64.wrap (ab + 1)), a7, an, a4) _ _ (by repeat first | exact Sub.nil | refine Sub.cons rfl ?_) (Ai H (Ai (ag.trans aj) (Ai (hs.sub (ssk (ssc ssr))) a8))) (Nat.lt_succ_self _))))
  ·rw [if_neg al] at H
   refine W_exit (ax _ _ (av _ _ <| Wr fun bs a9 => Om rfl rfl <| Oa rfl rfl <| O_nil (a9 _ _ <| W_ret ?_)))
   obtain rfl := sinj H
   exact ret1 rfl rfl ⟨_, _, _, rfl, ag, hs, af⟩

def canon_Decompose.f (x0 : Option Tbs) (x1 : List Int) : Option (List Int) := (canon_parts.f x0 x1).bind fun af => ((canon_Order.f x0 af).bind fun ag => (some ag))
theorem canon_Decompose.c {w0 w : World} {ρ : Hp} {Γ : List Item} (hs : St w0 ρ (Γ) w) {v0 : Value} {x0 : Option Tbs} (h0 : PtrR rTbs ρ v0 x0) {v1 : Value} {x1 : List Int} (h1 : SlR (Rep.int .i32) ρ v1 x1) {r : List Int} (H : canon_Decompose.f x0 x1 = some r) : CallsR Tryz.prog 12 [v0, v1] w (fun v w' => ∃ (ρ' : Hp) (v0 : Value) (cs0 : List Value), v = v0 ∧ Le ρ ρ' ∧ St w0 ρ' (.row v0 21 (Rep.int .i32).sz r.length cs0 :: Γ) w' ∧ RowR (Rep.int .i32) ρ' cs0 r) := by
  rw [canon_Decompose.f] at H
  refine enter Tryz.func12 Tryz.ntmps12 rfl (by kernel_rfl) rfl <| Wr fun ao ah => Oa rfl rfl <| O_nil (ah _ _ <| Wr fun ap ai => Om rfl rfl <| Om rfl rfl <| Om rfl rfl ?_)
  obtain ⟨af, ac, H⟩ := bnd H
  refine O_call rfl rfl (canon_parts.c hs h0 h1 ac) (fun aq w hpost => ?_)
  obtain ⟨ar, au, aj, rfl, aa, hs, ak⟩ := hpost
  obtain ⟨av, ab, hs, al⟩ := hs.rowEnd (j := 0) ak rfl
  obtain ⟨ag, ad, H⟩ := bnd H
  refine O_call rfl rfl (canon_Order.c hs (h0.mono (aa.trans ab)) al ad) (fun aw w hpost => ?_)
  obtain ⟨ax, ay, am, rfl, ae, hs, an⟩ := hpost
  refine Oa rfl rfl <| O_nil (ai _ _ <| W_ret ?_)
  obtain rfl := sinj H
  exact ret1 rfl rfl ⟨_, _, _, rfl, ((aa.trans ab).trans ae), hs, an⟩

end Go.Proofs.YtekafkokpnihfaaGreat
