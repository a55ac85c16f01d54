/- Texts of this repo, merged for the claim: TC0, TC1, TL0, Ins. -/
import Derived.Test.YthoicbafdanmkaaGreatDoorWhole1
import Derived.Test.YthoicbafdanmkaaGreatDoorWhole3
/- Written by this repo's gen.py: for each Go function a Lean function with the same answers and the walk that shows it. -/
namespace Go.Proofs.YthoicbafdanmkaaGreatDoor
open Go.RowKit
set_option maxRecDepth 100000
set_option maxHeartbeats 4000000
variable {w0 w : World} {ρ : Hp} {Γ : List Item}
set_option linter.unusedVariables false
def book_Tables_Class.f (x0 : Option Tbs) (x1 : Int) : Option Int := if ((x0).isNone) = true then (some 0) else (if x0.isSome = true then ((stage_Table_Look.f (((x0).getD default).class_) x1).bind fun aa => (some aa)) else none)
theorem book_Tables_Class.c (hs : St w0 ρ (Γ) w) {v0 : Value} {x0 : Option Tbs} (h0 : PtrR rTbs ρ v0 x0) {x1 r : Int} (H : book_Tables_Class.f x0 x1 = some r) : CallsR Tryz.prog 133 [v0, .int .i32 x1] w (fun v w' => v = .int .i64 r ∧ St w0 ρ Γ w') := by
  rw [book_Tables_Class.f] at H
  refine Et Tryz.func133 Tryz.ntmps133 rfl <| Wr fun a0 af => As rfl <| Ox af <| W_seq fun a1 ag => Wr fun a2 ah => Mv rfl <| O_y rfl ((h0.eqn un29 rfl rfl)) <| Ox ah <| W_cond rfl (fun ac => ?_) (fun ac => ?_)
  ·rw [if_pos ac] at H
   refine Wr fun a3 ai => As rfl <| Ox ai <| W_ret ?_
   obtain rfl := sinj H
   exact r1 rfl ⟨rfl, hs⟩
  ·rw [if_neg (bft ac)] at H
   refine Wx ag <| Wr fun a4 aj => Mv rfl ?_
   obtain ⟨ak, H⟩ := gd H
   obtain ⟨a5, ad, al⟩ := h0.open ak
   obtain ⟨_, ⟨a6, a7, a8, a9, ba, bb, bc, bd, be, bf, bg, bh, bi, bj, bk, bl, bm, am, an, ao, ap, aq, rfl, bn, bo, bp, bq, br, bs, bt, bu, bv, bw, bx, bz, ar, b0, b1, b2, b3, au, av, aw, ax, ay⟩, ae⟩ := al
   refine O_y rfl (Y_nilp (congrArg some ad)) <| Ofd fo114_2 rfl <| O_y rfl (Y_load ag104 rfl (hs.see (ae 12 _ rfl))) <| Mv rfl ?_
   obtain ⟨aa, ab, H⟩ := bnd H
   refine Oc rfl (stage_Table_Look.c hs ar ab) (fun az w hpost => ?_)
   obtain ⟨rfl, hs⟩ := hpost
   refine As rfl <| Ox aj <| W_ret ?_
   obtain rfl := sinj H
   exact r1 rfl ⟨rfl, hs⟩

def cmp_isNaN_int.f (x0 : Int) : Option Bool := some (decide (x0 ≠ x0))
theorem cmp_isNaN_int.c (hs : St w0 ρ (Γ) w) {x0 : Int} {r : Bool} (H : cmp_isNaN_int.f x0 = some r) : CallsR Tryz.prog 179 [.int .i64 x0] w (fun v w' => v = .bool r ∧ St w0 ρ Γ w') := by
  rw [cmp_isNaN_int.f] at H
  refine Et Tryz.func179 Tryz.ntmps179 rfl <| Wr fun ac aa => As rfl <| Ox aa <| Wr fun ad ab => Mv rfl <| Mv rfl <| One rfl <| As rfl <| Ox ab <| W_ret ?_
  obtain rfl := sinj H
  exact r1 rfl ⟨rfl, hs⟩

def cmp_Compare_int.f (x0 x1 : Int) : Option Int := (cmp_isNaN_int.f x0).bind fun ai => ((cmp_isNaN_int.f x1).bind fun aa => (if ai = true then (if aa = true then (some 0) else (some (-1))) else (if aa = true then (some 1) else (if x0 < x1 then (some (-1)) else (if x1 < x0 then (some 1) else (some 0))))))
theorem cmp_Compare_int.c (hs : St w0 ρ (Γ) w) {x0 x1 r : Int} (H : cmp_Compare_int.f x0 x1 = some r) : CallsR Tryz.prog 167 [.int .i64 x0, .int .i64 x1] w (fun v w' => v = .int .i64 r ∧ St w0 ρ Γ w') := by
  rw [cmp_Compare_int.f] at H
  refine Et Tryz.func167 Tryz.ntmps167 rfl <| Wr fun a4 aj => As rfl <| Ox aj <| Wr fun a5 ak => Mv rfl ?_
  obtain ⟨ai, ab, H⟩ := bnd H
  refine Oc rfl (cmp_isNaN_int.c hs ab) (fun a6 w hpost => ?_)
  obtain ⟨rfl, hs⟩ := hpost
  refine As rfl <| Ox ak <| Wr fun a7 al => Mv rfl ?_
  obtain ⟨aa, ac, H⟩ := bnd H
  refine Oc rfl (cmp_isNaN_int.c hs ac) (fun a8 w hpost => ?_)
  obtain ⟨rfl, hs⟩ := hpost
  refine As rfl <| Ox al <| W_seq fun a9 am => Wr fun ba an => Mv rfl <| Ox an <| W_cond rfl (fun ad => ?_) (fun ad => ?_)
  ·rw [if_pos ad] at H
   refine W_seq fun bb ao => Wr fun bc ap => Mv rfl <| Ox ap <| W_cond rfl (fun ae => ?_) (fun ae => ?_)
   ·rw [if_pos ae] at H
    refine Wr fun bd aq => As rfl <| Ox aq <| W_ret ?_
    obtain rfl := sinj H
    exact r1 rfl ⟨rfl, hs⟩
   ·rw [if_neg (bft ae)] at H
    refine Wx ao <| Wr fun be ar => As rfl <| Ox ar <| W_ret ?_
    obtain rfl := sinj H
    exact r1 rfl ⟨rfl, hs⟩
  ·rw [if_neg (bft ad)] at H
   refine Wx am <| W_seq fun bf au => Wr fun bg av => Mv rfl <| Ox av <| W_cond rfl (fun af => ?_) (fun af => ?_)
   ·rw [if_pos af] at H
    refine Wr fun bh aw => As rfl <| Ox aw <| W_ret ?_
    obtain rfl := sinj H
    exact r1 rfl ⟨rfl, hs⟩
   ·rw [if_neg (bft af)] at H
    refine Wx au <| W_seq fun bi ax => Wr fun bj ay => Mv rfl <| Mv rfl <| Ols rfl <| Ox ay <| W_if rfl (fun ag => ?_) (fun ag => ?_)
    ·rw [if_pos ag] at H
     refine Wr fun bk az => As rfl <| Ox az <| W_ret ?_
     obtain rfl := sinj H
     exact r1 rfl ⟨rfl, hs⟩
    ·rw [if_neg ag] at H
     refine Wx ax <| W_seq fun bl a0 => Wr fun bm a1 => Mv rfl <| Mv rfl <| Ogt rfl <| Ox a1 <| W.weak [(19, _)] (S1 rfl) <| W_if rfl (fun ah => ?_) (fun ah => ?_)
     ·rw [if_pos ah] at H
      refine Wr fun bn a2 => As rfl <| Ox a2 <| W_ret ?_
      obtain rfl := sinj H
      exact r1 rfl ⟨rfl, hs⟩
     ·rw [if_neg ah] at H
      refine Wx a0 <| Wr fun bo a3 => As rfl <| Ox a3 <| W_ret ?_
      obtain rfl := sinj H
      exact r1 rfl ⟨rfl, hs⟩

def canon_Order_1_ccl.f (x0 x1 : Int) (y0_0 : Option Tbs) : Option Int := (book_Tables_Class.f y0_0 x0).bind fun ad => ((book_Tables_Class.f y0_0 x1).bind fun ae => ((cmp_Compare_int.f ad ae).bind fun af => (some af)))
theorem canon_Order_1_ccl.c {pb0 : Nat} {w0_0 : Value} {y0_0 : Option Tbs} (hs : St w0 ρ ((.box pb0 29 ([w0_0])) :: Γ) w) {x0 x1 : Int} (g0_0 : PtrR rTbs ρ w0_0 y0_0) {r : Int} (H : canon_Order_1_ccl.f x0 x1 y0_0 = some r) : CallsR Tryz.prog 166 [.int .i32 x0, .int .i32 x1, .pointer (some ⟨pb0, 0, none⟩)] w (fun v w' => v = .int .i64 r ∧ St w0 ρ ((.box pb0 29 ([w0_0])) :: Γ) w') := by
  rw [canon_Order_1_ccl.f] at H
  refine Et Tryz.func166 Tryz.ntmps166 rfl <| Wr fun al ag => As rfl <| Ox ag <| W_seq fun am ah => W_drawS 8 [0, 0, 3, 0, 0, 28, 36, 127] [122, 121, 24, 87, 79, 0, 0, 0] [0, 0, 3, 0, 0, 31, 63, 127] [] (fun w => St w0 ρ ((.box pb0 29 ([w0_0])) :: Γ) w) mixed (by kernel_rfl) (fun sh => ?_)
  have hs := hs.drew
  refine Fy 0 sh rfl hs (fun w hs => Yb 0 ag29 hs rfl rfl rfl) <| Fm 1 sh rfl <| Fy 3 sh rfl hs (fun w hs => Yb 0 ag29 hs rfl rfl rfl) <| Fm 4 sh rfl <| F1 2 sh rfl (fun an ai => ?_)
  obtain ⟨ad, aa, H⟩ := bnd H
  refine Oc rfl (book_Tables_Class.c hs g0_0 aa) (fun ao w hpost => ?_)
  obtain ⟨rfl, hs⟩ := hpost
  refine O_nil (ai _ _ (fun _ _ => hs) <| F1 5 sh rfl (fun ap aj => ?_))
  obtain ⟨ae, ab, H⟩ := bnd H
  refine Oc rfl (book_Tables_Class.c hs g0_0 ab) (fun aq w hpost => ?_)
  obtain ⟨rfl, hs⟩ := hpost
  refine O_nil (aj _ _ (fun _ _ => hs) <| F1 6 sh rfl (fun ar ak => ?_))
  obtain ⟨af, ac, H⟩ := bnd H
  refine Oc rfl (cmp_Compare_int.c hs ac) (fun au w hpost => ?_)
  obtain ⟨rfl, hs⟩ := hpost
  refine O_nil (ak _ _ (fun _ _ => hs) <| Fp 7 sh rfl (fun w => Y_assign rfl) <| FE sh (ah _ _ <| W_ret ?_))
  obtain rfl := sinj H
  exact r1 rfl ⟨rfl, hs⟩

def slices_insertionSortCmpFunc_rune_lbg.j1 (ah : List Int → Int → Option (List Int)) (aq : List Int → Int → Option (List Int)) (ac : Int) (aa : List Int) (ab : Int) (ai : Bool) : Option (List Int) := if ai = true then (if (0 : Int) ≤ IntKind.i64.wrap (ab - 1) ∧ IntKind.i64.wrap (ab - 1) < (aa.length : Int) then (if (0 : Int) ≤ ab ∧ ab < (aa.length : Int) then (if (0 : Int) ≤ IntKind.i64.wrap (ab - 1) ∧ IntKind.i64.wrap (ab - 1) < ((aa.set ab.toNat (rd aa (IntKind.i64.wrap (ab - 1)))).length : Int) then (aq ((aa.set ab.toNat (rd aa (IntKind.i64.wrap (ab - 1)))).set (IntKind.i64.wrap (ab - 1)).toNat (rd aa ab)) (IntKind.i64.wrap (ab - 1))) else none) else none) else none) else (ah aa (IntKind.i64.wrap (ac + 1)))
def slices_insertionSortCmpFunc_rune_lbg.l1 (ah : List Int → Int → Option (List Int)) : Nat → Option Tbs → Int → Int → List Int → Int → Option (List Int)
  | 0, _, _, _, _, _ => none
  | ak + 1, y1_0, x1, ac, aa, ab => if x1 < ab then (if (0 : Int) ≤ ab ∧ ab < (aa.length : Int) then (if (0 : Int) ≤ IntKind.i64.wrap (ab - 1) ∧ IntKind.i64.wrap (ab - 1) < (aa.length : Int) then ((canon_Order_1_ccl.f (rd aa ab) (rd aa (IntKind.i64.wrap (ab - 1))) y1_0).bind fun ar => (slices_insertionSortCmpFunc_rune_lbg.j1 ah (slices_insertionSortCmpFunc_rune_lbg.l1 ah ak y1_0 x1 ac) ac aa ab (decide (ar < 0)))) else none) else none) else (slices_insertionSortCmpFunc_rune_lbg.j1 ah (slices_insertionSortCmpFunc_rune_lbg.l1 ah ak y1_0 x1 ac) ac aa ab false)
def slices_insertionSortCmpFunc_rune_lbg.l2 : Nat → Option Tbs → Int → Int → List Int → Int → Option (List Int)
  | 0, _, _, _, _, _ => none
  | aj + 1, y1_0, x1, x2, ae, ac => if ac < x2 then (slices_insertionSortCmpFunc_rune_lbg.l1 (slices_insertionSortCmpFunc_rune_lbg.l2 aj y1_0 x1 x2) K0 y1_0 x1 ac ae ac) else (some ae)
def slices_insertionSortCmpFunc_rune_lbg.f (x1 x2 : Int) (y0 : List Int) (y1_0 : Option Tbs) : Option (List Int) := slices_insertionSortCmpFunc_rune_lbg.l2 K0 y1_0 x1 x2 y0 (IntKind.i64.wrap (x1 + 1))
theorem slices_insertionSortCmpFunc_rune_lbg.c {wr0 wd0 : Value} {d0 : List Value} {wp0 wq0 : List Int} {wm0 : Nat} {y0 : List Int} {pb1 : Nat} {w1_0 : Value} {y1_0 : Option Tbs} (hs : St w0 ρ ((.row wr0 21 ((Rep.int .i32).sz) wm0 d0) :: (.box pb1 29 ([w1_0])) :: Γ) w) {x1 x2 : Int} (g0 : WinR .i32 ρ wr0 d0 wd0 wp0 wq0 y0) (g1_0 : PtrR rTbs ρ w1_0 y1_0) {r : List Int} (H : slices_insertionSortCmpFunc_rune_lbg.f x1 x2 y0 y1_0 = some r) : CallsR Tryz.prog 185 [wd0, .int .i64 x1, .int .i64 x2, .func (.func 166) #[] #[.pointer (some ⟨pb1, 0, none⟩)]] w (fun v w' => ∃ (ρ' : Hp) (ds0 : List Value), v = .tuple #[] ∧ Le ρ ρ' ∧ St w0 ρ' ((.row wr0 21 ((Rep.int .i32).sz) wm0 ds0) :: (.box pb1 29 ([w1_0])) :: Γ) w' ∧ WinR .i32 ρ' wr0 ds0 wd0 wp0 wq0 r) := by
  rw [slices_insertionSortCmpFunc_rune_lbg.f] at H
  refine Et Tryz.func185 Tryz.ntmps185 rfl <| Wr fun b5 bj => Mv rfl <| Oad rfl <| As rfl <| Ox bj <| W_block fun b6 bk b7 => W_loop (σ := Nat × List Int × Int × List Value) (fun (aj, ae, ac, ag) => [(0, wd0), (1, .int .i64 x1), (2, .int .i64 x2), (3, .func (.func 166) #[] #[.pointer (some ⟨pb1, 0, none⟩)]), (8, .int .i64 ac)]) (fun (aj, ae, ac, ag) w => slices_insertionSortCmpFunc_rune_lbg.l2 aj y1_0 x1 x2 ae ac = some r ∧ St w0 ρ ((.row wr0 21 ((Rep.int .i32).sz) wm0 ag) :: (.box pb1 29 ([w1_0])) :: Γ) w ∧ WinR .i32 ρ wr0 ag wd0 wp0 wq0 ae) (fun s => s.1) (K0, y0, (IntKind.i64.wrap (x1 + 1)), d0) sbn (Ai H (Ai hs g0)) ?_
  rintro ⟨aj, ae, ac, ag⟩ w b8 ⟨H, hs, al⟩ au
  show W _ _ _ _ _ _ [(0, wd0), (1, .int .i64 x1), (2, .int .i64 x2), (3, .func (.func 166) #[] #[.pointer (some ⟨pb1, 0, none⟩)]), (8, .int .i64 ac)] w
  cases aj with
  | zero => rw [slices_insertionSortCmpFunc_rune_lbg.l2] at H; cases H
  | succ aj =>
  rw [slices_insertionSortCmpFunc_rune_lbg.l2] at H
  refine W_seq fun b9 bl => Wr fun ca bm => Mv rfl <| Mv rfl <| Ols rfl <| Ox bm <| W_if rfl (fun a4 => ?_) (fun a4 => ?_)
  ·rw [if_pos a4] at H
   refine Wx bl <| W_seq fun cb bn => W_block fun cc cd ce => Wr fun cf bo => Mv rfl <| As rfl <| Ox bo <| W_block fun cg bp ch => W_loop (σ := Nat × List Int × Int × List Value) (fun (ak, aa, ab, af) => [(0, wd0), (1, .int .i64 x1), (2, .int .i64 x2), (3, .func (.func 166) #[] #[.pointer (some ⟨pb1, 0, none⟩)]), (8, .int .i64 ac), (9, .int .i64 ab)]) (fun (ak, aa, ab, af) w => slices_insertionSortCmpFunc_rune_lbg.l1 (slices_insertionSortCmpFunc_rune_lbg.l2 aj y1_0 x1 x2) ak y1_0 x1 ac aa ab = some r ∧ St w0 ρ ((.row wr0 21 ((Rep.int .i32).sz) wm0 af) :: (.box pb1 29 ([w1_0])) :: Γ) w ∧ WinR .i32 ρ wr0 af wd0 wp0 wq0 aa) (fun s => s.1) (K0, ae, ac, ag) sbn (Ai H (Ai hs al)) ?_
   rintro ⟨ak, aa, ab, af⟩ w ci ⟨H, hs, ad⟩ av
   show W _ _ _ _ _ _ [(0, wd0), (1, .int .i64 x1), (2, .int .i64 x2), (3, .func (.func 166) #[] #[.pointer (some ⟨pb1, 0, none⟩)]), (8, .int .i64 ac), (9, .int .i64 ab)] w
   cases ak with
   | zero => rw [slices_insertionSortCmpFunc_rune_lbg.l1] at H; cases H
   | succ ak =>
   rw [slices_insertionSortCmpFunc_rune_lbg.l1] at H
   refine W_seq fun cj bq => W_seqj fun br bs bg => ?_
   have bh : ∀ (ai : Bool) (w : World), slices_insertionSortCmpFunc_rune_lbg.j1 (slices_insertionSortCmpFunc_rune_lbg.l2 aj y1_0 x1 x2) (slices_insertionSortCmpFunc_rune_lbg.l1 (slices_insertionSortCmpFunc_rune_lbg.l2 aj y1_0 x1 x2) ak y1_0 x1 ac) ac aa ab ai = some r → St w0 ρ ((.row wr0 21 ((Rep.int .i32).sz) wm0 af) :: (.box pb1 29 ([w1_0])) :: Γ) w → br [(0, wd0), (1, .int .i64 x1), (2, .int .i64 x2), (3, .func (.func 166) #[] #[.pointer (some ⟨pb1, 0, none⟩)]), (8, .int .i64 ac), (9, .int .i64 ab), (34, .bool ai)] w := by
    intro ai w H hs
    rw [slices_insertionSortCmpFunc_rune_lbg.j1] at H
    refine bs _ _ <| W_cond rfl (fun a5 => ?_) (fun a5 => ?_)
    ·rw [if_pos a5] at H
     refine Wx bq <| W_seq fun ck bt => W_block fun cl cm cn => W_drawS 18 [0, 0, 0, 0, 8, 0, 0, 64, 160, 256, 0, 0, 3072, 4096, 9187, 25571, 65535, 131071] [16382, 16381, 65531, 65511, 65511, 16095, 16191, 15935, 15391, 15391, 60415, 59391, 50175, 1023, 28, 0, 0, 0] [0, 0, 0, 0, 8, 0, 0, 64, 224, 480, 0, 0, 3072, 7168, 16355, 32739, 65535, 131071] [15, 16, 17] (fun w => St w0 ρ ((.row wr0 21 ((Rep.int .i32).sz) wm0 af) :: (.box pb1 29 ([w1_0])) :: Γ) w) mixed (by kernel_rfl) (fun sh => ?_)
     have hs := hs.drew
     refine Fm 0 sh rfl <| Fm 1 sh rfl <| Fm 2 sh rfl <| Fm 3 sh rfl <| Fp 4 sh rfl (fun w => Y_sub rfl rfl) <| Fm 5 sh rfl <| Fm 6 sh rfl <| Fp 7 sh rfl (fun w => Y_sub rfl rfl) ?_
     obtain ⟨a3, H⟩ := gd H
     obtain ⟨co, a6, bu⟩ := ad.ix el28 a3.1 a3.2
     refine Fp 8 sh rfl (fun w => bu rfl rfl) <| Fy 9 sh rfl hs (fun w hs => Y_ldWin (j := 0) ag21 hs rfl a6 ad a3.1 a3.2 rfl) <| Fm 10 sh rfl <| Fm 11 sh rfl ?_
     obtain ⟨ap, H⟩ := gd H
     obtain ⟨cp, a7, bv⟩ := ad.ix el28 ap.1 ap.2
     refine Fp 12 sh rfl (fun w => bv rfl rfl) <| Fy 13 sh rfl hs (fun w hs => Y_ldWin (j := 0) ag21 hs rfl a7 ad ap.1 ap.2 rfl) ?_
     obtain ⟨cq, a8, bw⟩ := ad.ix el28 ap.1 ap.2
     refine Fp 14 sh rfl (fun w => bw rfl rfl) <| F1 15 sh rfl (fun bx a9 => O_stWin (j := 0) sz21 hs rfl a8 ad ap.1 ap.2 rfl rfl (fun bi w ax hs => O_nil (a9 _ _ (fun h _ => absurd h (by decide)) <| OD_resetS sh [17] hs (by kernel_rfl) ?_)))
     obtain ⟨am, H⟩ := gd H
     obtain ⟨bz, ay, ba⟩ := ax.ix el28 am.1 am.2
     refine Fp 16 sh rfl (fun w => ba rfl rfl) <| F1 17 sh rfl (fun b0 bb => O_stWin (j := 0) sz21 hs rfl ay ax am.1 am.2 rfl rfl (fun az w bc hs => O_nil (bb _ _ (fun h _ => absurd h (by decide)) <| FE sh (bt _ _ <| W.weak [(0, _), (1, _), (2, _), (3, _), (8, _), (9, _)] sbn ?_))))
     refine W_region <| Mv rfl <| Osu rfl <| As rfl <| O_nil (av (ak, ((aa.set ab.toNat (rd aa (IntKind.i64.wrap (ab - 1)))).set (IntKind.i64.wrap (ab - 1)).toNat (rd aa ab)), (IntKind.i64.wrap (ab - 1)), az) _ _ sbn (Ai H (Ai hs bc)) (Nat.lt_succ_self _))
    ·rw [if_neg (bft a5)] at H
     refine W_exit (bp _ _ (bn _ _ <| W_region <| Mv rfl <| Oad rfl <| As rfl <| O_nil (au (aj, aa, (IntKind.i64.wrap (ac + 1)), af) _ _ sbn (Ai H (Ai hs ad)) (Nat.lt_succ_self _))))
   refine W_drawS 17 [0, 0, 3, 4, 8, 8, 8, 104, 136, 8, 8, 1032, 2568, 4104, 8472, 16392, 32776] [131066, 131065, 131056, 0, 114656, 130896, 130864, 130576, 114192, 126448, 127984, 123888, 115184, 98800, 65536, 0, 0] [0, 0, 3, 7, 15, 15, 15, 111, 239, 15, 15, 1039, 3599, 7695, 16383, 32767, 65535] [14, 15, 16] (fun w => St w0 ρ ((.row wr0 21 ((Rep.int .i32).sz) wm0 af) :: (.box pb1 29 ([w1_0])) :: Γ) w) mixed (by kernel_rfl) (fun sh => ?_)
   have hs := hs.drew
   refine Fm 0 sh rfl <| Fm 1 sh rfl <| Fp 2 sh rfl (fun w => Y_gtr rfl rfl) <| Fm 3 sh rfl <| OD_if (dj := 21) rfl (fun aw => ?_) (fun aw => ?_)
   ·rw [if_pos aw] at H
    refine Fp 4 sh rfl (fun w => Y_move rfl) <| Fp 5 sh rfl (fun w => Y_move rfl) <| Fp 6 sh rfl (fun w => Y_move rfl) ?_
    obtain ⟨an, H⟩ := gd H
    obtain ⟨b1, a0, bd⟩ := ad.ix el28 an.1 an.2
    refine Fp 7 sh rfl (fun w => bd rfl rfl) <| Fy 8 sh rfl hs (fun w hs => Y_ldWin (j := 0) ag21 hs rfl a0 ad an.1 an.2 rfl) <| Fp 9 sh rfl (fun w => Y_move rfl) <| Fp 10 sh rfl (fun w => Y_move rfl) <| Fp 11 sh rfl (fun w => Y_sub rfl rfl) ?_
    obtain ⟨ao, H⟩ := gd H
    obtain ⟨b2, a1, be⟩ := ad.ix el28 ao.1 ao.2
    refine Fp 12 sh rfl (fun w => be rfl rfl) <| Fy 13 sh rfl hs (fun w hs => Y_ldWin (j := 0) ag21 hs rfl a1 ad ao.1 ao.2 rfl) <| F1 14 sh rfl (fun b3 bf => Oe rfl ?_)
    have hs := hs.front 1 rfl
    obtain ⟨ar, a2, H⟩ := bnd H
    refine O_callv rfl rfl rfl (canon_Order_1_ccl.c hs g1_0 a2) (fun b4 w hpost => ?_)
    obtain ⟨rfl, hs⟩ := hpost
    have hs := hs.sink 1
    refine O_nil (bf _ _ (fun h _ => absurd h (by decide)) <| OD_resetS sh [] hs (by kernel_rfl) <| Fp 15 sh rfl (fun w => Y_lss rfl rfl) <| Fp 16 sh rfl (fun w => Y_pick_t rfl rfl) <| FE sh (bg _ _ _ sbn (bh (decide (ar < 0)) _ H hs)))
   ·rw [if_neg aw] at H
    refine Fn 4 sh rfl <| Fn 5 sh rfl <| Fn 6 sh rfl <| Fn 7 sh rfl <| Fn 8 sh rfl <| Fn 9 sh rfl <| Fn 10 sh rfl <| Fn 11 sh rfl <| Fn 12 sh rfl <| Fn 13 sh rfl <| Fn 14 sh rfl <| Fn 15 sh rfl <| Fp 16 sh rfl (fun w => Y_pick_f rfl rfl) <| FE sh (bg _ _ _ sbn (bh false _ H hs))
  ·rw [if_neg a4] at H
   refine W_exit (bk _ _ ?_)
   obtain rfl := sinj H
   exact ret0 rfl ⟨_, _, rfl, Le.rfl' _, hs, al⟩

def slices_swapRangeCmpFunc_rune_bji.l1 : Nat → Int → Int → Int → List Int → Int → Option (List Int)
  | 0, _, _, _, _, _ => none
  | ae + 1, x1, x2, x3, ab, aa => if aa < x3 then (if (0 : Int) ≤ IntKind.i64.wrap (x2 + aa) ∧ IntKind.i64.wrap (x2 + aa) < (ab.length : Int) then (if (0 : Int) ≤ IntKind.i64.wrap (x1 + aa) ∧ IntKind.i64.wrap (x1 + aa) < (ab.length : Int) then (if (0 : Int) ≤ IntKind.i64.wrap (x2 + aa) ∧ IntKind.i64.wrap (x2 + aa) < ((ab.set (IntKind.i64.wrap (x1 + aa)).toNat (rd ab (IntKind.i64.wrap (x2 + aa)))).length : Int) then ((slices_swapRangeCmpFunc_rune_bji.l1 ae x1 x2 x3) ((ab.set (IntKind.i64.wrap (x1 + aa)).toNat (rd ab (IntKind.i64.wrap (x2 + aa)))).set (IntKind.i64.wrap (x2 + aa)).toNat (rd ab (IntKind.i64.wrap (x1 + aa)))) (IntKind.i64.wrap (aa + 1))) else none) else none) else none) else (some ab)
def slices_swapRangeCmpFunc_rune_bji.f (x1 x2 x3 : Int) (y0 : List Int) (y1_0 : Option Tbs) : Option (List Int) := slices_swapRangeCmpFunc_rune_bji.l1 K0 x1 x2 x3 y0 0
theorem slices_swapRangeCmpFunc_rune_bji.c {wr0 wd0 : Value} {d0 : List Value} {wp0 wq0 : List Int} {wm0 : Nat} {y0 : List Int} {pb1 : Nat} {w1_0 : Value} {y1_0 : Option Tbs} (hs : St w0 ρ ((.row wr0 21 ((Rep.int .i32).sz) wm0 d0) :: (.box pb1 29 ([w1_0])) :: Γ) w) {x1 x2 x3 : Int} (g0 : WinR .i32 ρ wr0 d0 wd0 wp0 wq0 y0) (g1_0 : PtrR rTbs ρ w1_0 y1_0) {r : List Int} (H : slices_swapRangeCmpFunc_rune_bji.f x1 x2 x3 y0 y1_0 = some r) : CallsR Tryz.prog 189 [wd0, .int .i64 x1, .int .i64 x2, .int .i64 x3, .func (.func 166) #[] #[.pointer (some ⟨pb1, 0, none⟩)]] w (fun v w' => ∃ (ρ' : Hp) (ds0 : List Value), v = .tuple #[] ∧ Le ρ ρ' ∧ St w0 ρ' ((.row wr0 21 ((Rep.int .i32).sz) wm0 ds0) :: (.box pb1 29 ([w1_0])) :: Γ) w' ∧ WinR .i32 ρ' wr0 ds0 wd0 wp0 wq0 r) := by
  rw [slices_swapRangeCmpFunc_rune_bji.f] at H
  refine Et Tryz.func189 Tryz.ntmps189 rfl <| Wr fun a5 aq => As rfl <| Ox aq <| W_block fun a6 ar a7 => W_loop (σ := Nat × List Int × Int × List Value) (fun (ae, ab, aa, ad) => [(0, wd0), (1, .int .i64 x1), (2, .int .i64 x2), (3, .int .i64 x3), (10, .int .i64 aa)]) (fun (ae, ab, aa, ad) w => slices_swapRangeCmpFunc_rune_bji.l1 ae x1 x2 x3 ab aa = some r ∧ St w0 ρ ((.row wr0 21 ((Rep.int .i32).sz) wm0 ad) :: (.box pb1 29 ([w1_0])) :: Γ) w ∧ WinR .i32 ρ wr0 ad wd0 wp0 wq0 ab) (fun s => s.1) (K0, y0, 0, d0) sbn (Ai H (Ai hs g0)) ?_
  rintro ⟨ae, ab, aa, ad⟩ w a8 ⟨H, hs, ac⟩ ag
  show W _ _ _ _ _ _ [(0, wd0), (1, .int .i64 x1), (2, .int .i64 x2), (3, .int .i64 x3), (10, .int .i64 aa)] w
  cases ae with
  | zero => rw [slices_swapRangeCmpFunc_rune_bji.l1] at H; cases H
  | succ ae =>
  rw [slices_swapRangeCmpFunc_rune_bji.l1] at H
  refine W_seq fun a9 au => Wr fun ba av => Mv rfl <| Mv rfl <| Ols rfl <| Ox av <| W_if rfl (fun aj => ?_) (fun aj => ?_)
  ·rw [if_pos aj] at H
   refine Wx au <| W_seq fun bb aw => W_block fun bc bd be => W_drawS 24 [0, 0, 0, 6, 0, 0, 0, 96, 0, 0, 0, 1536, 2304, 4096, 0, 0, 0, 98304, 147456, 262144, 540431, 1589007, 4194303, 8388607] [1048574, 1048565, 1048563, 1048561, 4194287, 4194143, 4194111, 4194079, 1044223, 1046015, 1045503, 1040895, 1032447, 1032447, 3915775, 4030463, 3997695, 3702783, 3162111, 16383, 240, 0, 0, 0] [0, 0, 0, 6, 0, 0, 0, 96, 0, 0, 0, 1536, 3840, 7936, 0, 0, 0, 98304, 245760, 507904, 1048335, 2096911, 4194303, 8388607] [21, 22, 23] (fun w => St w0 ρ ((.row wr0 21 ((Rep.int .i32).sz) wm0 ad) :: (.box pb1 29 ([w1_0])) :: Γ) w) mixed (by kernel_rfl) (fun sh => ?_)
   have hs := hs.drew
   refine Fm 0 sh rfl <| Fm 1 sh rfl <| Fm 2 sh rfl <| Fp 3 sh rfl (fun w => Y_add rfl rfl) <| Fm 4 sh rfl <| Fm 5 sh rfl <| Fm 6 sh rfl <| Fp 7 sh rfl (fun w => Y_add rfl rfl) <| Fm 8 sh rfl <| Fm 9 sh rfl <| Fm 10 sh rfl <| Fp 11 sh rfl (fun w => Y_add rfl rfl) ?_
   obtain ⟨ah, H⟩ := gd H
   obtain ⟨bf, ak, ax⟩ := ac.ix el28 ah.1 ah.2
   refine Fp 12 sh rfl (fun w => ax rfl rfl) <| Fy 13 sh rfl hs (fun w hs => Y_ldWin (j := 0) ag21 hs rfl ak ac ah.1 ah.2 rfl) <| Fm 14 sh rfl <| Fm 15 sh rfl <| Fm 16 sh rfl <| Fp 17 sh rfl (fun w => Y_add rfl rfl) ?_
   obtain ⟨af, H⟩ := gd H
   obtain ⟨bg, al, ay⟩ := ac.ix el28 af.1 af.2
   refine Fp 18 sh rfl (fun w => ay rfl rfl) <| Fy 19 sh rfl hs (fun w hs => Y_ldWin (j := 0) ag21 hs rfl al ac af.1 af.2 rfl) ?_
   obtain ⟨bh, am, az⟩ := ac.ix el28 af.1 af.2
   refine Fp 20 sh rfl (fun w => az rfl rfl) <| F1 21 sh rfl (fun bi a0 => O_stWin (j := 0) sz21 hs rfl am ac af.1 af.2 rfl rfl (fun a1 w ap hs => O_nil (a0 _ _ (fun h _ => absurd h (by decide)) <| OD_resetS sh [23] hs (by kernel_rfl) ?_)))
   obtain ⟨ai, H⟩ := gd H
   obtain ⟨bj, an, a2⟩ := ap.ix el28 ai.1 ai.2
   refine Fp 22 sh rfl (fun w => a2 rfl rfl) <| F1 23 sh rfl (fun bk a3 => O_stWin (j := 0) sz21 hs rfl an ap ai.1 ai.2 rfl rfl (fun ao w a4 hs => O_nil (a3 _ _ (fun h _ => absurd h (by decide)) <| FE sh (aw _ _ <| W.weak [(0, _), (1, _), (2, _), (3, _), (10, _)] sbn ?_))))
   refine W_region <| Mv rfl <| Oad rfl <| As rfl <| O_nil (ag (ae, ((ab.set (IntKind.i64.wrap (x1 + aa)).toNat (rd ab (IntKind.i64.wrap (x2 + aa)))).set (IntKind.i64.wrap (x2 + aa)).toNat (rd ab (IntKind.i64.wrap (x1 + aa)))), (IntKind.i64.wrap (aa + 1)), ao) _ _ sbn (Ai H (Ai hs a4)) (Nat.lt_succ_self _))
  ·rw [if_neg aj] at H
   refine W_exit (ar _ _ ?_)
   obtain rfl := sinj H
   exact ret0 rfl ⟨_, _, rfl, Le.rfl' _, hs, ac⟩

def slices_rotateCmpFunc_rune_bji.l1 : Nat → Option Tbs → Int → List Int → Int → Int → Option (List Int)
  | 0, _, _, _, _, _ => none
  | af + 1, y1_0, x2, ac, aa, ab => if aa ≠ ab then (if ab < aa then ((slices_swapRangeCmpFunc_rune_bji.f (IntKind.i64.wrap (x2 - aa)) x2 ab ac y1_0).bind fun aj => ((slices_rotateCmpFunc_rune_bji.l1 af y1_0 x2) aj (IntKind.i64.wrap (aa - ab)) ab)) else ((slices_swapRangeCmpFunc_rune_bji.f (IntKind.i64.wrap (x2 - aa)) (IntKind.i64.wrap ((IntKind.i64.wrap (x2 + ab)) - aa)) aa ac y1_0).bind fun ak => ((slices_rotateCmpFunc_rune_bji.l1 af y1_0 x2) ak aa (IntKind.i64.wrap (ab - aa))))) else ((slices_swapRangeCmpFunc_rune_bji.f (IntKind.i64.wrap (x2 - aa)) x2 aa ac y1_0).bind fun ax => (some ax))
def slices_rotateCmpFunc_rune_bji.f (x1 x2 x3 : Int) (y0 : List Int) (y1_0 : Option Tbs) : Option (List Int) := slices_rotateCmpFunc_rune_bji.l1 K0 y1_0 x2 y0 (IntKind.i64.wrap (x2 - x1)) (IntKind.i64.wrap (x3 - x2))
theorem slices_rotateCmpFunc_rune_bji.c {wr0 wd0 : Value} {d0 : List Value} {wp0 wq0 : List Int} {wm0 : Nat} {y0 : List Int} {pb1 : Nat} {w1_0 : Value} {y1_0 : Option Tbs} (hs : St w0 ρ ((.row wr0 21 ((Rep.int .i32).sz) wm0 d0) :: (.box pb1 29 ([w1_0])) :: Γ) w) {x1 x2 x3 : Int} (g0 : WinR .i32 ρ wr0 d0 wd0 wp0 wq0 y0) (g1_0 : PtrR rTbs ρ w1_0 y1_0) {r : List Int} (H : slices_rotateCmpFunc_rune_bji.f x1 x2 x3 y0 y1_0 = some r) : CallsR Tryz.prog 188 [wd0, .int .i64 x1, .int .i64 x2, .int .i64 x3, .func (.func 166) #[] #[.pointer (some ⟨pb1, 0, none⟩)]] w (fun v w' => ∃ (ρ' : Hp) (ds0 : List Value), v = .tuple #[] ∧ Le ρ ρ' ∧ St w0 ρ' ((.row wr0 21 ((Rep.int .i32).sz) wm0 ds0) :: (.box pb1 29 ([w1_0])) :: Γ) w' ∧ WinR .i32 ρ' wr0 ds0 wd0 wp0 wq0 r) := by
  rw [slices_rotateCmpFunc_rune_bji.f] at H
  refine Et Tryz.func188 Tryz.ntmps188 rfl <| Wr fun bd ay => Mv rfl <| Mv rfl <| Osu rfl <| As rfl <| Ox ay <| Wr fun be az => Mv rfl <| Mv rfl <| Osu rfl <| As rfl ?_
  refine Ox az <| W_seq fun bf a0 => W_block fun bg a1 bh => W_loop (σ := Nat × List Int × Int × Int × List Value × Hp) (fun (af, ac, aa, ab, ad, ah) => [(0, wd0), (2, .int .i64 x2), (4, .func (.func 166) #[] #[.pointer (some ⟨pb1, 0, none⟩)]), (10, .int .i64 aa), (11, .int .i64 ab)]) (fun (af, ac, aa, ab, ad, ah) w => slices_rotateCmpFunc_rune_bji.l1 af y1_0 x2 ac aa ab = some r ∧ Le ρ ah ∧ St w0 ah ((.row wr0 21 ((Rep.int .i32).sz) wm0 ad) :: (.box pb1 29 ([w1_0])) :: Γ) w ∧ WinR .i32 ah wr0 ad wd0 wp0 wq0 ac) (fun s => s.1) (K0, y0, (IntKind.i64.wrap (x2 - x1)), (IntKind.i64.wrap (x3 - x2)), d0, ρ) sbn (Ai H (Ai (Le.rfl' _) (Ai hs g0))) ?_
  rintro ⟨af, ac, aa, ab, ad, ah⟩ w bi ⟨H, ag, hs, ae⟩ ai
  show W _ _ _ _ _ _ [(0, wd0), (2, .int .i64 x2), (4, .func (.func 166) #[] #[.pointer (some ⟨pb1, 0, none⟩)]), (10, .int .i64 aa), (11, .int .i64 ab)] w
  cases af with
  | zero => rw [slices_rotateCmpFunc_rune_bji.l1] at H; cases H
  | succ af =>
  rw [slices_rotateCmpFunc_rune_bji.l1] at H
  refine W_seq fun bj a2 => Wr fun bk a3 => Mv rfl <| Mv rfl <| One rfl <| Ox a3 <| W_if rfl (fun al => ?_) (fun al => ?_)
  ·rw [if_pos al] at H
   refine Wx a2 <| W_block fun bl bm bn => Wr fun bo a4 => Mv rfl <| Mv rfl <| Ogt rfl <| Ox a4 <| W_if rfl (fun am => ?_) (fun am => ?_)
   ·rw [if_pos am] at H
    refine Wr fun bp a5 => Mv rfl <| Mv rfl <| Mv rfl <| Osu rfl <| Mv rfl <| Mv rfl <| Mv rfl ?_
    have hs := hs.front 1 rfl
    have hs := hs.front 1 rfl
    obtain ⟨aj, an, H⟩ := bnd H
    refine Oc rfl (slices_swapRangeCmpFunc_rune_bji.c hs ae (g1_0.mono ag) an) (fun bq w hpost => ?_)
    obtain ⟨a6, ao, rfl, ap, hs, a7⟩ := hpost
    have hs := hs.sink 1
    have hs := hs.sink 1
    refine Ox a5 <| W.weak [(0, _), (2, _), (4, _), (10, _), (11, _)] sbn ?_
    refine W_region <| Mv rfl <| Mv rfl <| Osu rfl <| As rfl <| O_nil (ai (af, aj, (IntKind.i64.wrap (aa - ab)), ab, ao, a6) _ _ sbn (Ai H (Ai (ag.trans ap) (Ai hs a7))) (Nat.lt_succ_self _))
   ·rw [if_neg am] at H
    refine Wr fun br a8 => Mv rfl <| Mv rfl <| Mv rfl <| Osu rfl <| Mv rfl <| Mv rfl <| Oad rfl <| Mv rfl <| Osu rfl <| Mv rfl <| Mv rfl ?_
    have hs := hs.front 1 rfl
    have hs := hs.front 1 rfl
    obtain ⟨ak, aq, H⟩ := bnd H
    refine Oc rfl (slices_swapRangeCmpFunc_rune_bji.c hs ae (g1_0.mono ag) aq) (fun bs w hpost => ?_)
    obtain ⟨a9, ar, rfl, au, hs, ba⟩ := hpost
    have hs := hs.sink 1
    have hs := hs.sink 1
    refine Ox a8 <| W.weak [(0, _), (2, _), (4, _), (10, _), (11, _)] sbn ?_
    refine W_region <| Mv rfl <| Mv rfl <| Osu rfl <| As rfl <| O_nil (ai (af, ak, aa, (IntKind.i64.wrap (ab - aa)), ar, a9) _ _ sbn (Ai H (Ai (ag.trans au) (Ai hs ba))) (Nat.lt_succ_self _))
  ·rw [if_neg al] at H
   refine W_exit (a1 _ _ (a0 _ _ <| W_region <| Mv rfl <| Mv rfl <| Mv rfl <| Osu rfl <| Mv rfl <| Mv rfl <| Mv rfl ?_))
   have hs := hs.front 1 rfl
   have hs := hs.front 1 rfl
   obtain ⟨ax, av, H⟩ := bnd H
   refine Oc rfl (slices_swapRangeCmpFunc_rune_bji.c hs ae (g1_0.mono ag) av) (fun bt w hpost => ?_)
   obtain ⟨bu, bb, rfl, aw, hs, bc⟩ := hpost
   have hs := hs.sink 1
   have hs := hs.sink 1
   refine O_nil ?_
   obtain rfl := sinj H
   exact ret0 rfl ⟨_, _, rfl, (ag.trans aw), hs, bc⟩

def slices_symMergeCmpFunc_rune_bji.l1 : Nat → Int → List Int → Int → Option (List Int)
  | 0, _, _, _ => none
  | a1 + 1, ah, ae, ab => if ab < (IntKind.i64.wrap (ah - 1)) then (if (0 : Int) ≤ IntKind.i64.wrap (ab + 1) ∧ IntKind.i64.wrap (ab + 1) < (ae.length : Int) then (if (0 : Int) ≤ ab ∧ ab < (ae.length : Int) then (if (0 : Int) ≤ IntKind.i64.wrap (ab + 1) ∧ IntKind.i64.wrap (ab + 1) < ((ae.set ab.toNat (rd ae (IntKind.i64.wrap (ab + 1)))).length : Int) then ((slices_symMergeCmpFunc_rune_bji.l1 a1 ah) ((ae.set ab.toNat (rd ae (IntKind.i64.wrap (ab + 1)))).set (IntKind.i64.wrap (ab + 1)).toNat (rd ae ab)) (IntKind.i64.wrap (ab + 1))) else none) else none) else none) else (some ae)
def slices_symMergeCmpFunc_rune_bji.l2 : Nat → List Int → Option Tbs → Int → Int → Int → Option (List Int)
  | 0, _, _, _, _, _ => none
  | a4 + 1, y0, y1_0, x1, ah, al => if ah < al then (if (0 : Int) ≤ IntKind.i64.wrap ((IntKind.u64.wrap (IntKind.i64.wrap (ah + al))).fdiv (2 ^ (min (1 : Int).toNat IntKind.u64.bits))) ∧ IntKind.i64.wrap ((IntKind.u64.wrap (IntKind.i64.wrap (ah + al))).fdiv (2 ^ (min (1 : Int).toNat IntKind.u64.bits))) < (y0.length : Int) then (if (0 : Int) ≤ x1 ∧ x1 < (y0.length : Int) then ((canon_Order_1_ccl.f (rd y0 (IntKind.i64.wrap ((IntKind.u64.wrap (IntKind.i64.wrap (ah + al))).fdiv (2 ^ (min (1 : Int).toNat IntKind.u64.bits))))) (rd y0 x1) y1_0).bind fun gf => (if gf < 0 then ((slices_symMergeCmpFunc_rune_bji.l2 a4 y0 y1_0 x1) (IntKind.i64.wrap ((IntKind.i64.wrap ((IntKind.u64.wrap (IntKind.i64.wrap (ah + al))).fdiv (2 ^ (min (1 : Int).toNat IntKind.u64.bits)))) + 1)) al) else ((slices_symMergeCmpFunc_rune_bji.l2 a4 y0 y1_0 x1) ah (IntKind.i64.wrap ((IntKind.u64.wrap (IntKind.i64.wrap (ah + al))).fdiv (2 ^ (min (1 : Int).toNat IntKind.u64.bits))))))) else none) else none) else (slices_symMergeCmpFunc_rune_bji.l1 K0 ah y0 x1)
def slices_symMergeCmpFunc_rune_bji.l3 : Nat → Int → List Int → Int → Option (List Int)
  | 0, _, _, _ => none
  | a2 + 1, ad, af, ac => if ad < ac then (if (0 : Int) ≤ IntKind.i64.wrap (ac - 1) ∧ IntKind.i64.wrap (ac - 1) < (af.length : Int) then (if (0 : Int) ≤ ac ∧ ac < (af.length : Int) then (if (0 : Int) ≤ IntKind.i64.wrap (ac - 1) ∧ IntKind.i64.wrap (ac - 1) < ((af.set ac.toNat (rd af (IntKind.i64.wrap (ac - 1)))).length : Int) then ((slices_symMergeCmpFunc_rune_bji.l3 a2 ad) ((af.set ac.toNat (rd af (IntKind.i64.wrap (ac - 1)))).set (IntKind.i64.wrap (ac - 1)).toNat (rd af ac)) (IntKind.i64.wrap (ac - 1))) else none) else none) else none) else (some af)
def slices_symMergeCmpFunc_rune_bji.l4 : Nat → List Int → Option Tbs → Int → Int → Int → Option (List Int)
  | 0, _, _, _, _, _ => none
  | az + 1, y0, y1_0, x2, ad, ai => if ad < ai then (if (0 : Int) ≤ x2 ∧ x2 < (y0.length : Int) then (if (0 : Int) ≤ IntKind.i64.wrap ((IntKind.u64.wrap (IntKind.i64.wrap (ad + ai))).fdiv (2 ^ (min (1 : Int).toNat IntKind.u64.bits))) ∧ IntKind.i64.wrap ((IntKind.u64.wrap (IntKind.i64.wrap (ad + ai))).fdiv (2 ^ (min (1 : Int).toNat IntKind.u64.bits))) < (y0.length : Int) then ((canon_Order_1_ccl.f (rd y0 x2) (rd y0 (IntKind.i64.wrap ((IntKind.u64.wrap (IntKind.i64.wrap (ad + ai))).fdiv (2 ^ (min (1 : Int).toNat IntKind.u64.bits))))) y1_0).bind fun b6 => (if ¬ (b6 < 0) then ((slices_symMergeCmpFunc_rune_bji.l4 az y0 y1_0 x2) (IntKind.i64.wrap ((IntKind.i64.wrap ((IntKind.u64.wrap (IntKind.i64.wrap (ad + ai))).fdiv (2 ^ (min (1 : Int).toNat IntKind.u64.bits)))) + 1)) ai) else ((slices_symMergeCmpFunc_rune_bji.l4 az y0 y1_0 x2) ad (IntKind.i64.wrap ((IntKind.u64.wrap (IntKind.i64.wrap (ad + ai))).fdiv (2 ^ (min (1 : Int).toNat IntKind.u64.bits))))))) else none) else none) else (slices_symMergeCmpFunc_rune_bji.l3 K0 ad y0 x2)
def slices_symMergeCmpFunc_rune_bji.j1 (rec : Int → Int → Int → List Int → Option Tbs → Option (List Int)) (y1_0 : Option Tbs) (x1 x2 x3 aa : Int) (ak : List Int) (ar : Bool) : Option (List Int) := if ar = true then ((rec (IntKind.i64.wrap ((IntKind.u64.wrap (IntKind.i64.wrap (x1 + x3))).fdiv (2 ^ (min (1 : Int).toNat IntKind.u64.bits)))) (IntKind.i64.wrap ((IntKind.i64.wrap ((IntKind.i64.wrap ((IntKind.u64.wrap (IntKind.i64.wrap (x1 + x3))).fdiv (2 ^ (min (1 : Int).toNat IntKind.u64.bits)))) + x2)) - aa)) x3 ak y1_0).bind fun b7 => (some b7)) else (some ak)
def slices_symMergeCmpFunc_rune_bji.j2 (rec : Int → Int → Int → List Int → Option Tbs → Option (List Int)) (y1_0 : Option Tbs) (x1 x2 x3 aa : Int) (ak : List Int) : Option (List Int) := if (IntKind.i64.wrap ((IntKind.u64.wrap (IntKind.i64.wrap (x1 + x3))).fdiv (2 ^ (min (1 : Int).toNat IntKind.u64.bits)))) < (IntKind.i64.wrap ((IntKind.i64.wrap ((IntKind.i64.wrap ((IntKind.u64.wrap (IntKind.i64.wrap (x1 + x3))).fdiv (2 ^ (min (1 : Int).toNat IntKind.u64.bits)))) + x2)) - aa)) then (slices_symMergeCmpFunc_rune_bji.j1 rec y1_0 x1 x2 x3 aa ak (decide ((IntKind.i64.wrap ((IntKind.i64.wrap ((IntKind.i64.wrap ((IntKind.u64.wrap (IntKind.i64.wrap (x1 + x3))).fdiv (2 ^ (min (1 : Int).toNat IntKind.u64.bits)))) + x2)) - aa)) < x3))) else (slices_symMergeCmpFunc_rune_bji.j1 rec y1_0 x1 x2 x3 aa ak false)
def slices_symMergeCmpFunc_rune_bji.j3 (rec : Int → Int → Int → List Int → Option Tbs → Option (List Int)) (y1_0 : Option Tbs) (x1 x2 x3 aa : Int) (aj : List Int) (au : Bool) : Option (List Int) := if au = true then ((rec x1 aa (IntKind.i64.wrap ((IntKind.u64.wrap (IntKind.i64.wrap (x1 + x3))).fdiv (2 ^ (min (1 : Int).toNat IntKind.u64.bits)))) aj y1_0).bind fun bp => (slices_symMergeCmpFunc_rune_bji.j2 rec y1_0 x1 x2 x3 aa bp)) else (slices_symMergeCmpFunc_rune_bji.j2 rec y1_0 x1 x2 x3 aa aj)
def slices_symMergeCmpFunc_rune_bji.j4 (rec : Int → Int → Int → List Int → Option Tbs → Option (List Int)) (y1_0 : Option Tbs) (x1 x2 x3 aa : Int) (aj : List Int) : Option (List Int) := if x1 < aa then (slices_symMergeCmpFunc_rune_bji.j3 rec y1_0 x1 x2 x3 aa aj (decide (aa < (IntKind.i64.wrap ((IntKind.u64.wrap (IntKind.i64.wrap (x1 + x3))).fdiv (2 ^ (min (1 : Int).toNat IntKind.u64.bits))))))) else (slices_symMergeCmpFunc_rune_bji.j3 rec y1_0 x1 x2 x3 aa aj false)
def slices_symMergeCmpFunc_rune_bji.j5 (rec : Int → Int → Int → List Int → Option Tbs → Option (List Int)) (y0 : List Int) (y1_0 : Option Tbs) (x1 x2 x3 aa : Int) (av : Bool) : Option (List Int) := if av = true then ((slices_rotateCmpFunc_rune_bji.f aa x2 (IntKind.i64.wrap ((IntKind.i64.wrap ((IntKind.i64.wrap ((IntKind.u64.wrap (IntKind.i64.wrap (x1 + x3))).fdiv (2 ^ (min (1 : Int).toNat IntKind.u64.bits)))) + x2)) - aa)) y0 y1_0).bind fun bq => (slices_symMergeCmpFunc_rune_bji.j4 rec y1_0 x1 x2 x3 aa bq)) else (slices_symMergeCmpFunc_rune_bji.j4 rec y1_0 x1 x2 x3 aa y0)
def slices_symMergeCmpFunc_rune_bji.l5 : Nat → (Int → Int → Int → List Int → Option Tbs → Option (List Int)) → List Int → Option Tbs → Int → Int → Int → Int → Int → Option (List Int)
  | 0, _, _, _, _, _, _, _, _ => none
  | a0 + 1, rec, y0, y1_0, x1, x2, x3, aa, ag => if aa < ag then (if (0 : Int) ≤ IntKind.i64.wrap ((IntKind.i64.wrap ((IntKind.i64.wrap ((IntKind.i64.wrap ((IntKind.u64.wrap (IntKind.i64.wrap (x1 + x3))).fdiv (2 ^ (min (1 : Int).toNat IntKind.u64.bits)))) + x2)) - 1)) - (IntKind.i64.wrap ((IntKind.u64.wrap (IntKind.i64.wrap (aa + ag))).fdiv (2 ^ (min (1 : Int).toNat IntKind.u64.bits))))) ∧ IntKind.i64.wrap ((IntKind.i64.wrap ((IntKind.i64.wrap ((IntKind.i64.wrap ((IntKind.u64.wrap (IntKind.i64.wrap (x1 + x3))).fdiv (2 ^ (min (1 : Int).toNat IntKind.u64.bits)))) + x2)) - 1)) - (IntKind.i64.wrap ((IntKind.u64.wrap (IntKind.i64.wrap (aa + ag))).fdiv (2 ^ (min (1 : Int).toNat IntKind.u64.bits))))) < (y0.length : Int) then (if (0 : Int) ≤ IntKind.i64.wrap ((IntKind.u64.wrap (IntKind.i64.wrap (aa + ag))).fdiv (2 ^ (min (1 : Int).toNat IntKind.u64.bits))) ∧ IntKind.i64.wrap ((IntKind.u64.wrap (IntKind.i64.wrap (aa + ag))).fdiv (2 ^ (min (1 : Int).toNat IntKind.u64.bits))) < (y0.length : Int) then ((canon_Order_1_ccl.f (rd y0 (IntKind.i64.wrap ((IntKind.i64.wrap ((IntKind.i64.wrap ((IntKind.i64.wrap ((IntKind.u64.wrap (IntKind.i64.wrap (x1 + x3))).fdiv (2 ^ (min (1 : Int).toNat IntKind.u64.bits)))) + x2)) - 1)) - (IntKind.i64.wrap ((IntKind.u64.wrap (IntKind.i64.wrap (aa + ag))).fdiv (2 ^ (min (1 : Int).toNat IntKind.u64.bits))))))) (rd y0 (IntKind.i64.wrap ((IntKind.u64.wrap (IntKind.i64.wrap (aa + ag))).fdiv (2 ^ (min (1 : Int).toNat IntKind.u64.bits))))) y1_0).bind fun b8 => (if ¬ (b8 < 0) then ((slices_symMergeCmpFunc_rune_bji.l5 a0 rec y0 y1_0 x1 x2 x3) (IntKind.i64.wrap ((IntKind.i64.wrap ((IntKind.u64.wrap (IntKind.i64.wrap (aa + ag))).fdiv (2 ^ (min (1 : Int).toNat IntKind.u64.bits)))) + 1)) ag) else ((slices_symMergeCmpFunc_rune_bji.l5 a0 rec y0 y1_0 x1 x2 x3) aa (IntKind.i64.wrap ((IntKind.u64.wrap (IntKind.i64.wrap (aa + ag))).fdiv (2 ^ (min (1 : Int).toNat IntKind.u64.bits))))))) else none) else none) else (if aa < x2 then (slices_symMergeCmpFunc_rune_bji.j5 rec y0 y1_0 x1 x2 x3 aa (decide (x2 < (IntKind.i64.wrap ((IntKind.i64.wrap ((IntKind.i64.wrap ((IntKind.u64.wrap (IntKind.i64.wrap (x1 + x3))).fdiv (2 ^ (min (1 : Int).toNat IntKind.u64.bits)))) + x2)) - aa))))) else (slices_symMergeCmpFunc_rune_bji.j5 rec y0 y1_0 x1 x2 x3 aa false))
def slices_symMergeCmpFunc_rune_bji.j6 (rec : Int → Int → Int → List Int → Option Tbs → Option (List Int)) (y0 : List Int) (y1_0 : Option Tbs) (x1 x2 x3 aw ax : Int) : Option (List Int) := slices_symMergeCmpFunc_rune_bji.l5 K0 rec y0 y1_0 x1 x2 x3 aw ax
def slices_symMergeCmpFunc_rune_bji.b (rec : Int → Int → Int → List Int → Option Tbs → Option (List Int)) (x1 x2 x3 : Int) (y0 : List Int) (y1_0 : Option Tbs) : Option (List Int) := if (IntKind.i64.wrap (x2 - x1)) = 1 then (slices_symMergeCmpFunc_rune_bji.l2 K0 y0 y1_0 x1 x2 x3) else (if (IntKind.i64.wrap (x3 - x2)) = 1 then (slices_symMergeCmpFunc_rune_bji.l4 K0 y0 y1_0 x2 x1 x2) else (if (IntKind.i64.wrap ((IntKind.u64.wrap (IntKind.i64.wrap (x1 + x3))).fdiv (2 ^ (min (1 : Int).toNat IntKind.u64.bits)))) < x2 then (slices_symMergeCmpFunc_rune_bji.j6 rec y0 y1_0 x1 x2 x3 (IntKind.i64.wrap ((IntKind.i64.wrap ((IntKind.i64.wrap ((IntKind.u64.wrap (IntKind.i64.wrap (x1 + x3))).fdiv (2 ^ (min (1 : Int).toNat IntKind.u64.bits)))) + x2)) - x3)) (IntKind.i64.wrap ((IntKind.u64.wrap (IntKind.i64.wrap (x1 + x3))).fdiv (2 ^ (min (1 : Int).toNat IntKind.u64.bits))))) else (slices_symMergeCmpFunc_rune_bji.j6 rec y0 y1_0 x1 x2 x3 x1 x2)))
def slices_symMergeCmpFunc_rune_bji.f : Nat → Int → Int → Int → List Int → Option Tbs → Option (List Int)
  | 0, _, _, _, _, _ => none
  | k + 1, x1, x2, x3, y0, y1_0 => slices_symMergeCmpFunc_rune_bji.b (slices_symMergeCmpFunc_rune_bji.f k) x1 x2 x3 y0 y1_0
def slices_symMergeCmpFunc_rune_bji.Spec (rec : Int → Int → Int → List Int → Option Tbs → Option (List Int)) : Prop := ∀ {w0 w : World} {ρ : Hp} {Γ : List Item} {wr0 wd0 : Value} {d0 : List Value} {wp0 wq0 : List Int} {wm0 : Nat} {y0 : List Int} {pb1 : Nat} {w1_0 : Value} {y1_0 : Option Tbs} (hs : St w0 ρ ((.row wr0 21 ((Rep.int .i32).sz) wm0 d0) :: (.box pb1 29 ([w1_0])) :: Γ) w) {x1 x2 x3 : Int} (g0 : WinR .i32 ρ wr0 d0 wd0 wp0 wq0 y0) (g1_0 : PtrR rTbs ρ w1_0 y1_0) {r : List Int}, rec x1 x2 x3 y0 y1_0 = some r → CallsR Tryz.prog 186 [wd0, .int .i64 x1, .int .i64 x2, .int .i64 x3, .func (.func 166) #[] #[.pointer (some ⟨pb1, 0, none⟩)]] w (fun v w' => ∃ (ρ' : Hp) (ds0 : List Value), v = .tuple #[] ∧ Le ρ ρ' ∧ St w0 ρ' ((.row wr0 21 ((Rep.int .i32).sz) wm0 ds0) :: (.box pb1 29 ([w1_0])) :: Γ) w' ∧ WinR .i32 ρ' wr0 ds0 wd0 wp0 wq0 r)
theorem slices_symMergeCmpFunc_rune_bji.cb (rec : Int → Int → Int → List Int → Option Tbs → Option (List Int)) (hrec : slices_symMergeCmpFunc_rune_bji.Spec rec) {w0 w : World} {ρ : Hp} {Γ : List Item} {wr0 wd0 : Value} {d0 : List Value} {wp0 wq0 : List Int} {wm0 : Nat} {y0 : List Int} {pb1 : Nat} {w1_0 : Value} {y1_0 : Option Tbs} (hs : St w0 ρ ((.row wr0 21 ((Rep.int .i32).sz) wm0 d0) :: (.box pb1 29 ([w1_0])) :: Γ) w) {x1 x2 x3 : Int} (g0 : WinR .i32 ρ wr0 d0 wd0 wp0 wq0 y0) (g1_0 : PtrR rTbs ρ w1_0 y1_0) {r : List Int} (H : slices_symMergeCmpFunc_rune_bji.b rec x1 x2 x3 y0 y1_0 = some r) : CallsR Tryz.prog 186 [wd0, .int .i64 x1, .int .i64 x2, .int .i64 x3, .func (.func 166) #[] #[.pointer (some ⟨pb1, 0, none⟩)]] w (fun v w' => ∃ (ρ' : Hp) (ds0 : List Value), v = .tuple #[] ∧ Le ρ ρ' ∧ St w0 ρ' ((.row wr0 21 ((Rep.int .i32).sz) wm0 ds0) :: (.box pb1 29 ([w1_0])) :: Γ) w' ∧ WinR .i32 ρ' wr0 ds0 wd0 wp0 wq0 r) := by
  rw [slices_symMergeCmpFunc_rune_bji.b] at H
  refine Et Tryz.func186 Tryz.ntmps186 rfl <| W_seq fun ka gj => Wr fun kb gk => Mv rfl <| Mv rfl <| Osu rfl <| Oeq rfl <| Ox gk <| W_if rfl (fun dq => ?_) (fun dq => ?_)
  ·rw [if_pos dq] at H
   refine Wr fun kc gl => Mv rfl <| As rfl <| Ox gl <| Wr fun kd gm => Mv rfl <| As rfl <| Ox gm <| W_seq fun ke gn => W_block fun kf go kg => W_loop (σ := Nat × Int × Int) (fun (a4, ah, al) => [(0, wd0), (1, .int .i64 x1), (4, .func (.func 166) #[] #[.pointer (some ⟨pb1, 0, none⟩)]), (10, .int .i64 ah), (11, .int .i64 al)]) (fun (a4, ah, al) w => slices_symMergeCmpFunc_rune_bji.l2 a4 y0 y1_0 x1 ah al = some r ∧ St w0 ρ ((.row wr0 21 ((Rep.int .i32).sz) wm0 d0) :: (.box pb1 29 ([w1_0])) :: Γ) w) (fun s => s.1) (K0, x2, x3) sbn (Ai H hs) ?_
   rintro ⟨a4, ah, al⟩ w kh ⟨H, hs⟩ be
   show W _ _ _ _ _ _ [(0, wd0), (1, .int .i64 x1), (4, .func (.func 166) #[] #[.pointer (some ⟨pb1, 0, none⟩)]), (10, .int .i64 ah), (11, .int .i64 al)] w
   cases a4 with
   | zero => rw [slices_symMergeCmpFunc_rune_bji.l2] at H; cases H
   | succ a4 =>
   rw [slices_symMergeCmpFunc_rune_bji.l2] at H
   refine W_seq fun ki gp => Wr fun kj gq => Mv rfl <| Mv rfl <| Ols rfl <| Ox gq <| W_if rfl (fun dr => ?_) (fun dr => ?_)
   ·rw [if_pos dr] at H
    refine Wx gp <| W_block fun kk kl km => Wr fun kn gr => Mv rfl <| Mv rfl <| Oad rfl <| O_y rfl (Y_conv un3 un215 rfl) <| O_y rfl (Y_shr rfl rfl (by decide)) <| O_y rfl (Y_conv un215 un3 rfl) <| As rfl <| Ox gr <| W.weak [(0, _), (1, _), (4, _), (10, _), (11, _), (12, _)] sbn ?_
    refine W_seq fun ko gs => W_drawS 11 [0, 0, 0, 6, 8, 0, 0, 96, 128, 273, 512] [1534, 2037, 2035, 2017, 1505, 1887, 1855, 1567, 1055, 0, 0] [0, 0, 0, 6, 14, 0, 0, 96, 224, 511, 1023] [9, 10] (fun w => St w0 ρ ((.row wr0 21 ((Rep.int .i32).sz) wm0 d0) :: (.box pb1 29 ([w1_0])) :: Γ) w) mixed (by kernel_rfl) (fun sh => ?_)
    have hs := hs.drew
    refine Fm 0 sh rfl <| Fm 1 sh rfl <| Fm 2 sh rfl ?_
    obtain ⟨dn, H⟩ := gd H
    obtain ⟨kp, ds, gt⟩ := g0.ix el28 dn.1 dn.2
    refine Fp 3 sh rfl (fun w => gt rfl rfl) <| Fy 4 sh rfl hs (fun w hs => Y_ldWin (j := 0) ag21 hs rfl ds g0 dn.1 dn.2 rfl) <| Fm 5 sh rfl <| Fm 6 sh rfl ?_
    obtain ⟨dp, H⟩ := gd H
    obtain ⟨kq, dt, gu⟩ := g0.ix el28 dp.1 dp.2
    refine Fp 7 sh rfl (fun w => gu rfl rfl) <| Fy 8 sh rfl hs (fun w hs => Y_ldWin (j := 0) ag21 hs rfl dt g0 dp.1 dp.2 rfl) <| F1 9 sh rfl (fun kr gv => ?_)
    have hs := hs.front 1 rfl
    obtain ⟨gf, du, H⟩ := bnd H
    refine O_callv rfl rfl rfl (canon_Order_1_ccl.c hs g1_0 du) (fun ks w hpost => ?_)
    obtain ⟨rfl, hs⟩ := hpost
    have hs := hs.sink 1
    refine O_nil (gv _ _ (fun h _ => absurd h (by decide)) <| OD_resetS sh [] hs (by kernel_rfl) <| Fp 10 sh rfl (fun w => Y_lss rfl rfl) <| FE sh (gs _ _ <| W.weak [(0, _), (1, _), (4, _), (10, _), (11, _), (12, _), (50, _)] sbn ?_))
    refine W_if rfl (fun dv => ?_) (fun dv => ?_)
    ·rw [if_pos dv] at H
     refine W_region <| Mv rfl <| Oad rfl <| As rfl <| O_nil (be (a4, (IntKind.i64.wrap ((IntKind.i64.wrap ((IntKind.u64.wrap (IntKind.i64.wrap (ah + al))).fdiv (2 ^ (min (1 : Int).toNat IntKind.u64.bits)))) + 1)), al) _ _ sbn (Ai H hs) (Nat.lt_succ_self _))
    ·rw [if_neg dv] at H
     refine W_region <| Mv rfl <| As rfl <| O_nil (be (a4, ah, (IntKind.i64.wrap ((IntKind.u64.wrap (IntKind.i64.wrap (ah + al))).fdiv (2 ^ (min (1 : Int).toNat IntKind.u64.bits))))) _ _ sbn (Ai H hs) (Nat.lt_succ_self _))
   ·rw [if_neg dr] at H
    refine W_exit (go _ _ (gn _ _ <| W_seq fun kt gw => Wr fun ku gx => Mv rfl <| As rfl <| Ox gx <| W_block fun kv gy gz => W_loop (σ := Nat × List Int × Int × List Value) (fun (a1, ae, ab, ao) => [(0, wd0), (10, .int .i64 ah), (13, .int .i64 ab)]) (fun (a1, ae, ab, ao) w => slices_symMergeCmpFunc_rune_bji.l1 a1 ah ae ab = some r ∧ St w0 ρ ((.row wr0 21 ((Rep.int .i32).sz) wm0 ao) :: (.box pb1 29 ([w1_0])) :: Γ) w ∧ WinR .i32 ρ wr0 ao wd0 wp0 wq0 ae) (fun s => s.1) (K0, y0, x1, d0) (T3 rfl) (Ai H (Ai hs g0)) ?_))
    rintro ⟨a1, ae, ab, ao⟩ w ha ⟨H, hs, am⟩ bf
    show W _ _ _ _ _ _ [(0, wd0), (10, .int .i64 ah), (13, .int .i64 ab)] w
    cases a1 with
    | zero => rw [slices_symMergeCmpFunc_rune_bji.l1] at H; cases H
    | succ a1 =>
    rw [slices_symMergeCmpFunc_rune_bji.l1] at H
    refine W_seq fun hb dw => Wr fun hc dx => Mv rfl <| Mv rfl <| Osu rfl <| Ols rfl <| Ox dx <| W_if rfl (fun br => ?_) (fun br => ?_)
    ·rw [if_pos br] at H
     refine Wx dw <| W_seq fun hd dy => W_block fun he hf hg => W_drawS 18 [0, 0, 0, 0, 8, 0, 0, 64, 160, 256, 0, 0, 3072, 4096, 9187, 25571, 65535, 131071] [16382, 16381, 65531, 65511, 65511, 16095, 16191, 15935, 15391, 15391, 60415, 59391, 50175, 1023, 28, 0, 0, 0] [0, 0, 0, 0, 8, 0, 0, 64, 224, 480, 0, 0, 3072, 7168, 16355, 32739, 65535, 131071] [15, 16, 17] (fun w => St w0 ρ ((.row wr0 21 ((Rep.int .i32).sz) wm0 ao) :: (.box pb1 29 ([w1_0])) :: Γ) w) mixed (by kernel_rfl) (fun sh => ?_)
     have hs := hs.drew
     refine Fm 0 sh rfl <| Fm 1 sh rfl <| Fm 2 sh rfl <| Fm 3 sh rfl <| Fp 4 sh rfl (fun w => Y_add rfl rfl) <| Fm 5 sh rfl <| Fm 6 sh rfl <| Fp 7 sh rfl (fun w => Y_add rfl rfl) ?_
     obtain ⟨bg, H⟩ := gd H
     obtain ⟨hh, b9, dz⟩ := am.ix el28 bg.1 bg.2
     refine Fp 8 sh rfl (fun w => dz rfl rfl) <| Fy 9 sh rfl hs (fun w hs => Y_ldWin (j := 0) ag21 hs rfl b9 am bg.1 bg.2 rfl) <| Fm 10 sh rfl <| Fm 11 sh rfl ?_
     obtain ⟨a8, H⟩ := gd H
     obtain ⟨hi, ca, ea⟩ := am.ix el28 a8.1 a8.2
     refine Fp 12 sh rfl (fun w => ea rfl rfl) <| Fy 13 sh rfl hs (fun w hs => Y_ldWin (j := 0) ag21 hs rfl ca am a8.1 a8.2 rfl) ?_
     obtain ⟨hj, cc, eb⟩ := am.ix el28 a8.1 a8.2
     refine Fp 14 sh rfl (fun w => eb rfl rfl) <| F1 15 sh rfl (fun hk ec => O_stWin (j := 0) sz21 hs rfl cc am a8.1 a8.2 rfl rfl (fun gg w cd hs => O_nil (ec _ _ (fun h _ => absurd h (by decide)) <| OD_resetS sh [17] hs (by kernel_rfl) ?_)))
     obtain ⟨bh, H⟩ := gd H
     obtain ⟨hl, ce, ed⟩ := cd.ix el28 bh.1 bh.2
     refine Fp 16 sh rfl (fun w => ed rfl rfl) <| F1 17 sh rfl (fun hm ee => O_stWin (j := 0) sz21 hs rfl ce cd bh.1 bh.2 rfl rfl (fun cf w ef hs => O_nil (ee _ _ (fun h _ => absurd h (by decide)) <| FE sh (dy _ _ <| W.weak [(0, _), (10, _), (13, _)] (T3 rfl) <| W_region <| Mv rfl <| Oad rfl <| As rfl <| O_nil (bf (a1, ((ae.set ab.toNat (rd ae (IntKind.i64.wrap (ab + 1)))).set (IntKind.i64.wrap (ab + 1)).toNat (rd ae ab)), (IntKind.i64.wrap (ab + 1)), cf) _ _ (T3 rfl) (Ai H (Ai hs ef)) (Nat.lt_succ_self _))))))
    ·rw [if_neg br] at H
     refine W_exit (gy _ _ (gw _ _ <| W_ret ?_))
     obtain rfl := sinj H
     exact ret0 rfl ⟨_, _, rfl, Le.rfl' _, hs, am⟩
  ·rw [if_neg dq] at H
   refine Wx gj <| W_seq fun hn eg => Wr fun ho eh => Mv rfl <| Mv rfl <| Osu rfl <| Oeq rfl <| Ox eh <| W_if rfl (fun bs => ?_) (fun bs => ?_)
   ·rw [if_pos bs] at H
    refine Wr fun hp ei => Mv rfl <| As rfl <| Ox ei <| W.weak [(0, _), (2, _), (4, _), (14, _)] (T4 rfl) <| Wr fun hq ej => Mv rfl <| As rfl <| Ox ej <| W_seq fun hr ek => W_block fun ht el hu => W_loop (σ := Nat × Int × Int) (fun (az, ad, ai) => [(0, wd0), (2, .int .i64 x2), (4, .func (.func 166) #[] #[.pointer (some ⟨pb1, 0, none⟩)]), (14, .int .i64 ad), (15, .int .i64 ai)]) (fun (az, ad, ai) w => slices_symMergeCmpFunc_rune_bji.l4 az y0 y1_0 x2 ad ai = some r ∧ St w0 ρ ((.row wr0 21 ((Rep.int .i32).sz) wm0 d0) :: (.box pb1 29 ([w1_0])) :: Γ) w) (fun s => s.1) (K0, x1, x2) sbn (Ai H hs) ?_
    rintro ⟨az, ad, ai⟩ w hv ⟨H, hs⟩ bc
    show W _ _ _ _ _ _ [(0, wd0), (2, .int .i64 x2), (4, .func (.func 166) #[] #[.pointer (some ⟨pb1, 0, none⟩)]), (14, .int .i64 ad), (15, .int .i64 ai)] w
    cases az with
    | zero => rw [slices_symMergeCmpFunc_rune_bji.l4] at H; cases H
    | succ az =>
    rw [slices_symMergeCmpFunc_rune_bji.l4] at H
    refine W_seq fun hw em => Wr fun hx en => Mv rfl <| Mv rfl <| Ols rfl <| Ox en <| W_if rfl (fun bt => ?_) (fun bt => ?_)
    ·rw [if_pos bt] at H
     refine Wx em <| W_block fun hy hz ia => Wr fun ib eo => Mv rfl <| Mv rfl <| Oad rfl <| O_y rfl (Y_conv un3 un215 rfl) <| O_y rfl (Y_shr rfl rfl (by decide)) <| O_y rfl (Y_conv un215 un3 rfl) <| As rfl <| Ox eo <| W.weak [(0, _), (2, _), (4, _), (14, _), (15, _), (16, _)] sbn ?_
     refine W_seq fun ic ep => W_drawS 12 [0, 0, 0, 6, 8, 0, 0, 96, 128, 273, 512, 1024] [3582, 4085, 4083, 4065, 3553, 3935, 3903, 3615, 3103, 2048, 0, 0] [0, 0, 0, 6, 14, 0, 0, 96, 224, 511, 1023, 2047] [9, 10, 11] (fun w => St w0 ρ ((.row wr0 21 ((Rep.int .i32).sz) wm0 d0) :: (.box pb1 29 ([w1_0])) :: Γ) w) mixed (by kernel_rfl) (fun sh => ?_)
     have hs := hs.drew
     refine Fm 0 sh rfl <| Fm 1 sh rfl <| Fm 2 sh rfl ?_
     obtain ⟨bi, H⟩ := gd H
     obtain ⟨id, cg, eq⟩ := g0.ix el28 bi.1 bi.2
     refine Fp 3 sh rfl (fun w => eq rfl rfl) <| Fy 4 sh rfl hs (fun w hs => Y_ldWin (j := 0) ag21 hs rfl cg g0 bi.1 bi.2 rfl) <| Fm 5 sh rfl <| Fm 6 sh rfl ?_
     obtain ⟨bj, H⟩ := gd H
     obtain ⟨ie, ch, er⟩ := g0.ix el28 bj.1 bj.2
     refine Fp 7 sh rfl (fun w => er rfl rfl) <| Fy 8 sh rfl hs (fun w hs => Y_ldWin (j := 0) ag21 hs rfl ch g0 bj.1 bj.2 rfl) <| F1 9 sh rfl (fun ig es => ?_)
     have hs := hs.front 1 rfl
     obtain ⟨b6, ci, H⟩ := bnd H
     refine O_callv rfl rfl rfl (canon_Order_1_ccl.c hs g1_0 ci) (fun ii w hpost => ?_)
     obtain ⟨rfl, hs⟩ := hpost
     have hs := hs.sink 1
     refine O_nil (es _ _ (fun h _ => absurd h (by decide)) <| OD_resetS sh [] hs (by kernel_rfl) <| Fp 10 sh rfl (fun w => Y_lss rfl rfl) <| Fp 11 sh rfl (fun w => Y_notd rfl) <| FE sh (ep _ _ <| W.weak [(0, _), (2, _), (4, _), (14, _), (15, _), (16, _), (103, _)] sbn ?_))
     refine W_if rfl (fun bu => ?_) (fun bu => ?_)
     ·rw [if_pos bu] at H
      refine W_region <| Mv rfl <| Oad rfl <| As rfl <| O_nil (bc (az, (IntKind.i64.wrap ((IntKind.i64.wrap ((IntKind.u64.wrap (IntKind.i64.wrap (ad + ai))).fdiv (2 ^ (min (1 : Int).toNat IntKind.u64.bits)))) + 1)), ai) _ _ sbn (Ai H hs) (Nat.lt_succ_self _))
     ·rw [if_neg bu] at H
      refine W_region <| Mv rfl <| As rfl <| O_nil (bc (az, ad, (IntKind.i64.wrap ((IntKind.u64.wrap (IntKind.i64.wrap (ad + ai))).fdiv (2 ^ (min (1 : Int).toNat IntKind.u64.bits))))) _ _ sbn (Ai H hs) (Nat.lt_succ_self _))
    ·rw [if_neg bt] at H
     refine W_exit (el _ _ (ek _ _ <| W_seq fun ij et => Wr fun ik eu => Mv rfl <| As rfl <| Ox eu <| W_block fun il ev im => W_loop (σ := Nat × List Int × Int × List Value) (fun (a2, af, ac, ap) => [(0, wd0), (14, .int .i64 ad), (17, .int .i64 ac)]) (fun (a2, af, ac, ap) w => slices_symMergeCmpFunc_rune_bji.l3 a2 ad af ac = some r ∧ St w0 ρ ((.row wr0 21 ((Rep.int .i32).sz) wm0 ap) :: (.box pb1 29 ([w1_0])) :: Γ) w ∧ WinR .i32 ρ wr0 ap wd0 wp0 wq0 af) (fun s => s.1) (K0, y0, x2, d0) (T3 rfl) (Ai H (Ai hs g0)) ?_))
     rintro ⟨a2, af, ac, ap⟩ w io ⟨H, hs, an⟩ bk
     show W _ _ _ _ _ _ [(0, wd0), (14, .int .i64 ad), (17, .int .i64 ac)] w
     cases a2 with
     | zero => rw [slices_symMergeCmpFunc_rune_bji.l3] at H; cases H
     | succ a2 =>
     rw [slices_symMergeCmpFunc_rune_bji.l3] at H
     refine W_seq fun ip ew => Wr fun iq ex => Mv rfl <| Mv rfl <| Ogt rfl <| Ox ex <| W_if rfl (fun bv => ?_) (fun bv => ?_)
     ·rw [if_pos bv] at H
      refine Wx ew <| W_seq fun ir ey => W_block fun it iu iv => W_drawS 18 [0, 0, 0, 0, 8, 0, 0, 64, 160, 256, 0, 0, 3072, 4096, 9187, 25571, 65535, 131071] [16382, 16381, 65531, 65511, 65511, 16095, 16191, 15935, 15391, 15391, 60415, 59391, 50175, 1023, 28, 0, 0, 0] [0, 0, 0, 0, 8, 0, 0, 64, 224, 480, 0, 0, 3072, 7168, 16355, 32739, 65535, 131071] [15, 16, 17] (fun w => St w0 ρ ((.row wr0 21 ((Rep.int .i32).sz) wm0 ap) :: (.box pb1 29 ([w1_0])) :: Γ) w) mixed (by kernel_rfl) (fun sh => ?_)
      have hs := hs.drew
      refine Fm 0 sh rfl <| Fm 1 sh rfl <| Fm 2 sh rfl <| Fm 3 sh rfl <| Fp 4 sh rfl (fun w => Y_sub rfl rfl) <| Fm 5 sh rfl <| Fm 6 sh rfl <| Fp 7 sh rfl (fun w => Y_sub rfl rfl) ?_
      obtain ⟨bl, H⟩ := gd H
      obtain ⟨iw, cj, ez⟩ := an.ix el28 bl.1 bl.2
      refine Fp 8 sh rfl (fun w => ez rfl rfl) <| Fy 9 sh rfl hs (fun w hs => Y_ldWin (j := 0) ag21 hs rfl cj an bl.1 bl.2 rfl) <| Fm 10 sh rfl <| Fm 11 sh rfl ?_
      obtain ⟨a9, H⟩ := gd H
      obtain ⟨iy, ck, e0⟩ := an.ix el28 a9.1 a9.2
      refine Fp 12 sh rfl (fun w => e0 rfl rfl) <| Fy 13 sh rfl hs (fun w hs => Y_ldWin (j := 0) ag21 hs rfl ck an a9.1 a9.2 rfl) ?_
      obtain ⟨iz, cl, e1⟩ := an.ix el28 a9.1 a9.2
      refine Fp 14 sh rfl (fun w => e1 rfl rfl) <| F1 15 sh rfl (fun ja e2 => O_stWin (j := 0) sz21 hs rfl cl an a9.1 a9.2 rfl rfl (fun gh w cm hs => O_nil (e2 _ _ (fun h _ => absurd h (by decide)) <| OD_resetS sh [17] hs (by kernel_rfl) ?_)))
      obtain ⟨bm, H⟩ := gd H
      obtain ⟨jb, cn, e3⟩ := cm.ix el28 bm.1 bm.2
      refine Fp 16 sh rfl (fun w => e3 rfl rfl) <| F1 17 sh rfl (fun jc e4 => O_stWin (j := 0) sz21 hs rfl cn cm bm.1 bm.2 rfl rfl (fun co w e5 hs => O_nil (e4 _ _ (fun h _ => absurd h (by decide)) <| FE sh (ey _ _ <| W.weak [(0, _), (14, _), (17, _)] (T3 rfl) <| W_region <| Mv rfl <| Osu rfl <| As rfl <| O_nil (bk (a2, ((af.set ac.toNat (rd af (IntKind.i64.wrap (ac - 1)))).set (IntKind.i64.wrap (ac - 1)).toNat (rd af ac)), (IntKind.i64.wrap (ac - 1)), co) _ _ (T3 rfl) (Ai H (Ai hs e5)) (Nat.lt_succ_self _))))))
     ·rw [if_neg bv] at H
      refine W_exit (ev _ _ (et _ _ <| W_ret ?_))
      obtain rfl := sinj H
      exact ret0 rfl ⟨_, _, rfl, Le.rfl' _, hs, an⟩
   ·rw [if_neg bs] at H
    refine Wx eg <| Wr fun jd e6 => Mv rfl <| Mv rfl <| Oad rfl <| O_y rfl (Y_conv un3 un215 rfl) <| O_y rfl (Y_shr rfl rfl (by decide)) <| O_y rfl (Y_conv un215 un3 rfl) <| As rfl <| Ox e6 <| W.weak [(0, _), (1, _), (2, _), (3, _), (4, _), (18, _)] sbn ?_
    refine Wr fun je e7 => Mv rfl <| Mv rfl <| Oad rfl <| As rfl <| Ox e7 <| Wr fun jf e8 => As rfl <| As rfl <| Ox e8 <| W_seqj fun e9 fa cp => ?_
    have cq : ∀ (aw ax : Int) (w : World), slices_symMergeCmpFunc_rune_bji.j6 rec y0 y1_0 x1 x2 x3 aw ax = some r → St w0 ρ ((.row wr0 21 ((Rep.int .i32).sz) wm0 d0) :: (.box pb1 29 ([w1_0])) :: Γ) w → e9 [(0, wd0), (1, .int .i64 x1), (2, .int .i64 x2), (3, .int .i64 x3), (4, .func (.func 166) #[] #[.pointer (some ⟨pb1, 0, none⟩)]), (18, .int .i64 (IntKind.i64.wrap ((IntKind.u64.wrap (IntKind.i64.wrap (x1 + x3))).fdiv (2 ^ (min (1 : Int).toNat IntKind.u64.bits))))), (19, .int .i64 (IntKind.i64.wrap ((IntKind.i64.wrap ((IntKind.u64.wrap (IntKind.i64.wrap (x1 + x3))).fdiv (2 ^ (min (1 : Int).toNat IntKind.u64.bits)))) + x2))), (20, .int .i64 aw), (21, .int .i64 ax)] w := by
     intro aw ax w H hs
     rw [slices_symMergeCmpFunc_rune_bji.j6] at H
     refine fa _ _ <| Wr fun jg fb => Mv rfl <| Osu rfl <| As rfl <| Ox fb <| W_seq fun jh fc => W_block fun ji fd jj => W_loop (σ := Nat × Int × Int) (fun (a0, aa, ag) => [(0, wd0), (1, .int .i64 x1), (2, .int .i64 x2), (3, .int .i64 x3), (4, .func (.func 166) #[] #[.pointer (some ⟨pb1, 0, none⟩)]), (18, .int .i64 (IntKind.i64.wrap ((IntKind.u64.wrap (IntKind.i64.wrap (x1 + x3))).fdiv (2 ^ (min (1 : Int).toNat IntKind.u64.bits))))), (19, .int .i64 (IntKind.i64.wrap ((IntKind.i64.wrap ((IntKind.u64.wrap (IntKind.i64.wrap (x1 + x3))).fdiv (2 ^ (min (1 : Int).toNat IntKind.u64.bits)))) + x2))), (20, .int .i64 aa), (21, .int .i64 ag), (22, .int .i64 (IntKind.i64.wrap ((IntKind.i64.wrap ((IntKind.i64.wrap ((IntKind.u64.wrap (IntKind.i64.wrap (x1 + x3))).fdiv (2 ^ (min (1 : Int).toNat IntKind.u64.bits)))) + x2)) - 1)))]) (fun (a0, aa, ag) w => slices_symMergeCmpFunc_rune_bji.l5 a0 rec y0 y1_0 x1 x2 x3 aa ag = some r ∧ St w0 ρ ((.row wr0 21 ((Rep.int .i32).sz) wm0 d0) :: (.box pb1 29 ([w1_0])) :: Γ) w) (fun s => s.1) (K0, aw, ax) sbn (Ai H hs) ?_
     rintro ⟨a0, aa, ag⟩ w jk ⟨H, hs⟩ bd
     show W _ _ _ _ _ _ [(0, wd0), (1, .int .i64 x1), (2, .int .i64 x2), (3, .int .i64 x3), (4, .func (.func 166) #[] #[.pointer (some ⟨pb1, 0, none⟩)]), (18, .int .i64 (IntKind.i64.wrap ((IntKind.u64.wrap (IntKind.i64.wrap (x1 + x3))).fdiv (2 ^ (min (1 : Int).toNat IntKind.u64.bits))))), (19, .int .i64 (IntKind.i64.wrap ((IntKind.i64.wrap ((IntKind.u64.wrap (IntKind.i64.wrap (x1 + x3))).fdiv (2 ^ (min (1 : Int).toNat IntKind.u64.bits)))) + x2))), (20, .int .i64 aa), (21, .int .i64 ag), (22, .int .i64 (IntKind.i64.wrap ((IntKind.i64.wrap ((IntKind.i64.wrap ((IntKind.u64.wrap (IntKind.i64.wrap (x1 + x3))).fdiv (2 ^ (min (1 : Int).toNat IntKind.u64.bits)))) + x2)) - 1)))] w
     cases a0 with
     | zero => rw [slices_symMergeCmpFunc_rune_bji.l5] at H; cases H
     | succ a0 =>
     rw [slices_symMergeCmpFunc_rune_bji.l5] at H
     refine W_seq fun jl fe => Wr fun jm ff => Mv rfl <| Mv rfl <| Ols rfl <| Ox ff <| W_if rfl (fun bw => ?_) (fun bw => ?_)
     ·rw [if_pos bw] at H
      refine Wx fe <| W_block fun jn jo jp => Wr fun jq fg => Mv rfl <| Mv rfl <| Oad rfl <| O_y rfl (Y_conv un3 un215 rfl) <| O_y rfl (Y_shr rfl rfl (by decide)) <| O_y rfl (Y_conv un215 un3 rfl) <| As rfl <| Ox fg <| W.weak [(0, _), (1, _), (2, _), (3, _), (4, _), (18, _), (19, _), (20, _), (21, _), (22, _), (23, _)] sbn ?_
      refine W_seq fun jr fh => W_drawS 14 [0, 0, 0, 0, 12, 18, 32, 0, 0, 384, 512, 1089, 2048, 4096] [14334, 16349, 16363, 16359, 16323, 16257, 14209, 15743, 15615, 14463, 12415, 8192, 0, 0] [0, 0, 0, 0, 12, 30, 62, 0, 0, 384, 896, 2047, 4095, 8191] [11, 12, 13] (fun w => St w0 ρ ((.row wr0 21 ((Rep.int .i32).sz) wm0 d0) :: (.box pb1 29 ([w1_0])) :: Γ) w) mixed (by kernel_rfl) (fun sh => ?_)
      have hs := hs.drew
      refine Fm 0 sh rfl <| Fm 1 sh rfl <| Fm 2 sh rfl <| Fm 3 sh rfl <| Fp 4 sh rfl (fun w => Y_sub rfl rfl) ?_
      obtain ⟨bn, H⟩ := gd H
      obtain ⟨js, cr, fi⟩ := g0.ix el28 bn.1 bn.2
      refine Fp 5 sh rfl (fun w => fi rfl rfl) <| Fy 6 sh rfl hs (fun w hs => Y_ldWin (j := 0) ag21 hs rfl cr g0 bn.1 bn.2 rfl) <| Fm 7 sh rfl <| Fm 8 sh rfl ?_
      obtain ⟨bo, H⟩ := gd H
      obtain ⟨jt, cs, fj⟩ := g0.ix el28 bo.1 bo.2
      refine Fp 9 sh rfl (fun w => fj rfl rfl) <| Fy 10 sh rfl hs (fun w hs => Y_ldWin (j := 0) ag21 hs rfl cs g0 bo.1 bo.2 rfl) <| F1 11 sh rfl (fun ju fk => ?_)
      have hs := hs.front 1 rfl
      obtain ⟨b8, ct, H⟩ := bnd H
      refine O_callv rfl rfl rfl (canon_Order_1_ccl.c hs g1_0 ct) (fun jv w hpost => ?_)
      obtain ⟨rfl, hs⟩ := hpost
      have hs := hs.sink 1
      refine O_nil (fk _ _ (fun h _ => absurd h (by decide)) <| OD_resetS sh [] hs (by kernel_rfl) <| Fp 12 sh rfl (fun w => Y_lss rfl rfl) <| Fp 13 sh rfl (fun w => Y_notd rfl) <| FE sh (fh _ _ <| W.weak [(0, _), (1, _), (2, _), (3, _), (4, _), (18, _), (19, _), (20, _), (21, _), (22, _), (23, _), (171, _)] sbn ?_))
      refine W_if rfl (fun bx => ?_) (fun bx => ?_)
      ·rw [if_pos bx] at H
       refine W_region <| Mv rfl <| Oad rfl <| As rfl <| O_nil (bd (a0, (IntKind.i64.wrap ((IntKind.i64.wrap ((IntKind.u64.wrap (IntKind.i64.wrap (aa + ag))).fdiv (2 ^ (min (1 : Int).toNat IntKind.u64.bits)))) + 1)), ag) _ _ sbn (Ai H hs) (Nat.lt_succ_self _))
      ·rw [if_neg bx] at H
       refine W_region <| Mv rfl <| As rfl <| O_nil (bd (a0, aa, (IntKind.i64.wrap ((IntKind.u64.wrap (IntKind.i64.wrap (aa + ag))).fdiv (2 ^ (min (1 : Int).toNat IntKind.u64.bits))))) _ _ sbn (Ai H hs) (Nat.lt_succ_self _))
     ·rw [if_neg bw] at H
      refine W_exit (fd _ _ (fc _ _ <| Wr fun jw fl => Mv rfl <| Mv rfl <| Osu rfl <| As rfl <| Ox fl <| W.weak [(0, _), (1, _), (2, _), (3, _), (4, _), (18, _), (20, _), (24, _)] sbn ?_))
      refine W_seqj fun fm fn cu => ?_
      have cv : ∀ (aj : List Int) (aq : List Value) (a3 : Hp) (w : World), slices_symMergeCmpFunc_rune_bji.j4 rec y1_0 x1 x2 x3 aa aj = some r → Le ρ a3 → St w0 a3 ((.row wr0 21 ((Rep.int .i32).sz) wm0 aq) :: (.box pb1 29 ([w1_0])) :: Γ) w → WinR .i32 a3 wr0 aq wd0 wp0 wq0 aj → fm [(0, wd0), (1, .int .i64 x1), (3, .int .i64 x3), (4, .func (.func 166) #[] #[.pointer (some ⟨pb1, 0, none⟩)]), (18, .int .i64 (IntKind.i64.wrap ((IntKind.u64.wrap (IntKind.i64.wrap (x1 + x3))).fdiv (2 ^ (min (1 : Int).toNat IntKind.u64.bits))))), (20, .int .i64 aa), (24, .int .i64 (IntKind.i64.wrap ((IntKind.i64.wrap ((IntKind.i64.wrap ((IntKind.u64.wrap (IntKind.i64.wrap (x1 + x3))).fdiv (2 ^ (min (1 : Int).toNat IntKind.u64.bits)))) + x2)) - aa)))] w := by
       intro aj aq a3 w H a7 hs a5
       rw [slices_symMergeCmpFunc_rune_bji.j4] at H
       refine fn _ _ <| W_seqj fun fo fp cw => ?_
       have cx : ∀ (ak : List Int) (ay : List Value) (ba : Hp) (w : World), slices_symMergeCmpFunc_rune_bji.j2 rec y1_0 x1 x2 x3 aa ak = some r → Le a3 ba → St w0 ba ((.row wr0 21 ((Rep.int .i32).sz) wm0 ay) :: (.box pb1 29 ([w1_0])) :: Γ) w → WinR .i32 ba wr0 ay wd0 wp0 wq0 ak → fo [(0, wd0), (3, .int .i64 x3), (4, .func (.func 166) #[] #[.pointer (some ⟨pb1, 0, none⟩)]), (18, .int .i64 (IntKind.i64.wrap ((IntKind.u64.wrap (IntKind.i64.wrap (x1 + x3))).fdiv (2 ^ (min (1 : Int).toNat IntKind.u64.bits))))), (24, .int .i64 (IntKind.i64.wrap ((IntKind.i64.wrap ((IntKind.i64.wrap ((IntKind.u64.wrap (IntKind.i64.wrap (x1 + x3))).fdiv (2 ^ (min (1 : Int).toNat IntKind.u64.bits)))) + x2)) - aa)))] w := by
        intro ak ay ba w H bb hs a6
        rw [slices_symMergeCmpFunc_rune_bji.j2] at H
        refine fp _ _ <| W_seqj fun fq fr cy => ?_
        have cz : ∀ (ar : Bool) (w : World), slices_symMergeCmpFunc_rune_bji.j1 rec y1_0 x1 x2 x3 aa ak ar = some r → St w0 ba ((.row wr0 21 ((Rep.int .i32).sz) wm0 ay) :: (.box pb1 29 ([w1_0])) :: Γ) w → fq [(0, wd0), (3, .int .i64 x3), (4, .func (.func 166) #[] #[.pointer (some ⟨pb1, 0, none⟩)]), (18, .int .i64 (IntKind.i64.wrap ((IntKind.u64.wrap (IntKind.i64.wrap (x1 + x3))).fdiv (2 ^ (min (1 : Int).toNat IntKind.u64.bits))))), (24, .int .i64 (IntKind.i64.wrap ((IntKind.i64.wrap ((IntKind.i64.wrap ((IntKind.u64.wrap (IntKind.i64.wrap (x1 + x3))).fdiv (2 ^ (min (1 : Int).toNat IntKind.u64.bits)))) + x2)) - aa))), (213, .bool ar)] w := by
         intro ar w H hs
         rw [slices_symMergeCmpFunc_rune_bji.j1] at H
         refine fr _ _ <| W_cond rfl (fun bz => ?_) (fun bz => ?_)
         ·rw [if_pos bz] at H
          refine W_region <| Mv rfl <| Mv rfl <| Mv rfl <| Mv rfl <| Mv rfl ?_
          have hs := hs.front 1 rfl
          have hs := hs.front 1 rfl
          obtain ⟨b7, da, H⟩ := bnd H
          refine Oc rfl (hrec hs a6 (g1_0.mono (a7.trans bb)) da) (fun jx w hpost => ?_)
          obtain ⟨jy, gi, rfl, db, hs, fs⟩ := hpost
          have hs := hs.sink 1
          have hs := hs.sink 1
          refine O_nil ?_
          obtain rfl := sinj H
          exact ret0 rfl ⟨_, _, rfl, ((a7.trans bb).trans db), hs, fs⟩
         ·rw [if_neg (bft bz)] at H
          refine W_skip ?_
          obtain rfl := sinj H
          exact ret0 rfl ⟨_, _, rfl, (a7.trans bb), hs, a6⟩
        refine W_region <| Mv rfl <| Mv rfl <| Ols rfl <| Mv rfl <| O_if (dj := 209) rfl (fun b0 => ?_) (fun b0 => ?_)
        ·rw [if_pos b0] at H
         refine Oe rfl <| Mv rfl <| Oe rfl <| Mv rfl <| Oe rfl <| Ols rfl <| Opk rfl <| O_nil (cy _ _ _ sbn (cz (decide ((IntKind.i64.wrap ((IntKind.i64.wrap ((IntKind.i64.wrap ((IntKind.u64.wrap (IntKind.i64.wrap (x1 + x3))).fdiv (2 ^ (min (1 : Int).toNat IntKind.u64.bits)))) + x2)) - aa)) < x3)) _ H hs))
        ·rw [if_neg b0] at H
         refine On rfl <| On rfl <| On rfl <| Opk rfl <| O_nil (cy _ _ _ sbn (cz false _ H hs))
       refine W_seqj fun ft fu dc => ?_
       have dd : ∀ (au : Bool) (w : World), slices_symMergeCmpFunc_rune_bji.j3 rec y1_0 x1 x2 x3 aa aj au = some r → St w0 a3 ((.row wr0 21 ((Rep.int .i32).sz) wm0 aq) :: (.box pb1 29 ([w1_0])) :: Γ) w → ft [(0, wd0), (1, .int .i64 x1), (3, .int .i64 x3), (4, .func (.func 166) #[] #[.pointer (some ⟨pb1, 0, none⟩)]), (18, .int .i64 (IntKind.i64.wrap ((IntKind.u64.wrap (IntKind.i64.wrap (x1 + x3))).fdiv (2 ^ (min (1 : Int).toNat IntKind.u64.bits))))), (20, .int .i64 aa), (24, .int .i64 (IntKind.i64.wrap ((IntKind.i64.wrap ((IntKind.i64.wrap ((IntKind.u64.wrap (IntKind.i64.wrap (x1 + x3))).fdiv (2 ^ (min (1 : Int).toNat IntKind.u64.bits)))) + x2)) - aa))), (199, .bool au)] w := by
        intro au w H hs
        rw [slices_symMergeCmpFunc_rune_bji.j3] at H
        refine fu _ _ <| W_cond rfl (fun b1 => ?_) (fun b1 => ?_)
        ·rw [if_pos b1] at H
         refine W_region <| Mv rfl <| Mv rfl <| Mv rfl <| Mv rfl <| Mv rfl ?_
         have hs := hs.front 1 rfl
         have hs := hs.front 1 rfl
         obtain ⟨bp, de, H⟩ := bnd H
         refine Oc rfl (hrec hs a5 (g1_0.mono a7) de) (fun jz w hpost => ?_)
         obtain ⟨fv, df, rfl, dg, hs, fw⟩ := hpost
         have hs := hs.sink 1
         have hs := hs.sink 1
         exact O_nil (cw _ _ _ sbn (cx bp df fv _ H dg hs fw))
        ·rw [if_neg (bft b1)] at H
         exact W_skip (cw _ _ _ sbn (cx aj aq a3 _ H (Le.rfl' _) hs a5))
       refine W_region <| Mv rfl <| Mv rfl <| Ols rfl <| Mv rfl <| O_if (dj := 195) rfl (fun b2 => ?_) (fun b2 => ?_)
       ·rw [if_pos b2] at H
        refine Oe rfl <| Mv rfl <| Oe rfl <| Mv rfl <| Oe rfl <| Ols rfl <| Opk rfl <| O_nil (dc _ _ _ sbn (dd (decide (aa < (IntKind.i64.wrap ((IntKind.u64.wrap (IntKind.i64.wrap (x1 + x3))).fdiv (2 ^ (min (1 : Int).toNat IntKind.u64.bits)))))) _ H hs))
       ·rw [if_neg b2] at H
        refine On rfl <| On rfl <| On rfl <| Opk rfl <| O_nil (dc _ _ _ sbn (dd false _ H hs))
      refine W_seqj fun fx fy dh => ?_
      have di : ∀ (av : Bool) (w : World), slices_symMergeCmpFunc_rune_bji.j5 rec y0 y1_0 x1 x2 x3 aa av = some r → St w0 ρ ((.row wr0 21 ((Rep.int .i32).sz) wm0 d0) :: (.box pb1 29 ([w1_0])) :: Γ) w → fx [(0, wd0), (1, .int .i64 x1), (2, .int .i64 x2), (3, .int .i64 x3), (4, .func (.func 166) #[] #[.pointer (some ⟨pb1, 0, none⟩)]), (18, .int .i64 (IntKind.i64.wrap ((IntKind.u64.wrap (IntKind.i64.wrap (x1 + x3))).fdiv (2 ^ (min (1 : Int).toNat IntKind.u64.bits))))), (20, .int .i64 aa), (24, .int .i64 (IntKind.i64.wrap ((IntKind.i64.wrap ((IntKind.i64.wrap ((IntKind.u64.wrap (IntKind.i64.wrap (x1 + x3))).fdiv (2 ^ (min (1 : Int).toNat IntKind.u64.bits)))) + x2)) - aa))), (185, .bool av)] w := by
       intro av w H hs
       rw [slices_symMergeCmpFunc_rune_bji.j5] at H
       refine fy _ _ <| W_cond rfl (fun b3 => ?_) (fun b3 => ?_)
       ·rw [if_pos b3] at H
        refine W_region <| Mv rfl <| Mv rfl <| Mv rfl <| Mv rfl <| Mv rfl ?_
        have hs := hs.front 1 rfl
        have hs := hs.front 1 rfl
        obtain ⟨bq, dk, H⟩ := bnd H
        refine Oc rfl (slices_rotateCmpFunc_rune_bji.c hs g0 g1_0 dk) (fun j0 w hpost => ?_)
        obtain ⟨fz, dl, rfl, dm, hs, ga⟩ := hpost
        have hs := hs.sink 1
        have hs := hs.sink 1
        exact O_nil (cu _ _ _ sbn (cv bq dl fz _ H dm hs ga))
       ·rw [if_neg (bft b3)] at H
        exact W_skip (cu _ _ _ sbn (cv y0 d0 ρ _ H (Le.rfl' _) hs g0))
      refine W_region <| Mv rfl <| Mv rfl <| Ols rfl <| Mv rfl <| O_if (dj := 181) rfl (fun b4 => ?_) (fun b4 => ?_)
      ·rw [if_pos b4] at H
       refine Oe rfl <| Mv rfl <| Oe rfl <| Mv rfl <| Oe rfl <| Ols rfl <| Opk rfl <| O_nil (dh _ _ _ sbn (di (decide (x2 < (IntKind.i64.wrap ((IntKind.i64.wrap ((IntKind.i64.wrap ((IntKind.u64.wrap (IntKind.i64.wrap (x1 + x3))).fdiv (2 ^ (min (1 : Int).toNat IntKind.u64.bits)))) + x2)) - aa)))) _ H hs))
      ·rw [if_neg b4] at H
       refine On rfl <| On rfl <| On rfl <| Opk rfl <| O_nil (dh _ _ _ sbn (di false _ H hs))
    refine Wr fun j7 gb => Mv rfl <| Mv rfl <| Ogt rfl <| Ox gb <| W.weak [(0, _), (1, _), (2, _), (3, _), (4, _), (18, _), (19, _), (140, _)] sbn ?_
    refine W_if rfl (fun b5 => ?_) (fun b5 => ?_)
    ·rw [if_pos b5] at H
     refine Wr fun j8 gc => Mv rfl <| Mv rfl <| Osu rfl <| As rfl <| Ox gc <| W_region <| Mv rfl <| As rfl <| O_nil (cp _ _ _ sbn (cq (IntKind.i64.wrap ((IntKind.i64.wrap ((IntKind.i64.wrap ((IntKind.u64.wrap (IntKind.i64.wrap (x1 + x3))).fdiv (2 ^ (min (1 : Int).toNat IntKind.u64.bits)))) + x2)) - x3)) (IntKind.i64.wrap ((IntKind.u64.wrap (IntKind.i64.wrap (x1 + x3))).fdiv (2 ^ (min (1 : Int).toNat IntKind.u64.bits)))) _ H hs))
    ·rw [if_neg b5] at H
     refine Wr fun j9 ge => Mv rfl <| As rfl <| Ox ge <| W_region <| Mv rfl <| As rfl <| O_nil (cp _ _ _ sbn (cq x1 x2 _ H hs))
theorem slices_symMergeCmpFunc_rune_bji.c (k : Nat) : slices_symMergeCmpFunc_rune_bji.Spec (slices_symMergeCmpFunc_rune_bji.f k) := by
  induction k with
  | zero => intro w0 w ρ Γ wr0 wd0 d0 wp0 wq0 wm0 y0 pb1 w1_0 y1_0 hs x1 x2 x3 g0 g1_0 r H; exact nomatch (show (none : Option _) = some _ from H)
  | succ k ih => intro w0 w ρ Γ wr0 wd0 d0 wp0 wq0 wm0 y0 pb1 w1_0 y1_0 hs x1 x2 x3 g0 g1_0 r H; exact slices_symMergeCmpFunc_rune_bji.cb (slices_symMergeCmpFunc_rune_bji.f k) ih hs g0 g1_0 H

def slices_stableCmpFunc_rune_ian.j1 (ap : List Int → Int → Option (List Int)) (aa : Int) (ae : List Int) : Option (List Int) := ap ae (IntKind.i64.wrap (aa * 2))
def slices_stableCmpFunc_rune_ian.l1 (ap : List Int → Int → Option (List Int)) : Nat → Option Tbs → Int → Int → List Int → Int → Int → Option (List Int)
  | 0, _, _, _, _, _, _ => none
  | an + 1, y1_0, x1, aa, ab, af, ad => if ad ≤ x1 then ((slices_symMergeCmpFunc_rune_bji.f K0 af (IntKind.i64.wrap (af + aa)) ad ab y1_0).bind fun a5 => ((slices_stableCmpFunc_rune_ian.l1 ap an y1_0 x1 aa) a5 ad (IntKind.i64.wrap (ad + (IntKind.i64.wrap (2 * aa)))))) else (if (IntKind.i64.wrap (af + aa)) < x1 then ((slices_symMergeCmpFunc_rune_bji.f K0 af (IntKind.i64.wrap (af + aa)) x1 ab y1_0).bind fun a6 => (slices_stableCmpFunc_rune_ian.j1 ap aa a6)) else (slices_stableCmpFunc_rune_ian.j1 ap aa ab))
def slices_stableCmpFunc_rune_ian.l2 : Nat → Option Tbs → Int → List Int → Int → Option (List Int)
  | 0, _, _, _, _ => none
  | ar + 1, y1_0, x1, ac, aa => if aa < x1 then (slices_stableCmpFunc_rune_ian.l1 (slices_stableCmpFunc_rune_ian.l2 ar y1_0 x1) K0 y1_0 x1 aa ac 0 (IntKind.i64.wrap (2 * aa))) else (some ac)
def slices_stableCmpFunc_rune_ian.l3 : Nat → Option Tbs → Int → List Int → Int → Int → Option (List Int)
  | 0, _, _, _, _, _ => none
  | aw + 1, y1_0, x1, ag, ao, ai => if ai ≤ x1 then ((slices_insertionSortCmpFunc_rune_lbg.f ao ai ag y1_0).bind fun bm => ((slices_stableCmpFunc_rune_ian.l3 aw y1_0 x1) bm ai (IntKind.i64.wrap (ai + 20)))) else ((slices_insertionSortCmpFunc_rune_lbg.f ao x1 ag y1_0).bind fun bn => (slices_stableCmpFunc_rune_ian.l2 K0 y1_0 x1 bn 20))
def slices_stableCmpFunc_rune_ian.f (x1 : Int) (y0 : List Int) (y1_0 : Option Tbs) : Option (List Int) := slices_stableCmpFunc_rune_ian.l3 K0 y1_0 x1 y0 0 20
theorem slices_stableCmpFunc_rune_ian.c {wr0 wd0 : Value} {d0 : List Value} {wp0 wq0 : List Int} {wm0 : Nat} {y0 : List Int} {pb1 : Nat} {w1_0 : Value} {y1_0 : Option Tbs} (hs : St w0 ρ ((.row wr0 21 ((Rep.int .i32).sz) wm0 d0) :: (.box pb1 29 ([w1_0])) :: Γ) w) {x1 : Int} (g0 : WinR .i32 ρ wr0 d0 wd0 wp0 wq0 y0) (g1_0 : PtrR rTbs ρ w1_0 y1_0) {r : List Int} (H : slices_stableCmpFunc_rune_ian.f x1 y0 y1_0 = some r) : CallsR Tryz.prog 178 [wd0, .int .i64 x1, .func (.func 166) #[] #[.pointer (some ⟨pb1, 0, none⟩)]] w (fun v w' => ∃ (ρ' : Hp) (ds0 : List Value), v = .tuple #[] ∧ Le ρ ρ' ∧ St w0 ρ' ((.row wr0 21 ((Rep.int .i32).sz) wm0 ds0) :: (.box pb1 29 ([w1_0])) :: Γ) w' ∧ WinR .i32 ρ' wr0 ds0 wd0 wp0 wq0 r) := by
  rw [slices_stableCmpFunc_rune_ian.f] at H
  refine Et Tryz.func178 Tryz.ntmps178 rfl <| Wr fun dj cc => As rfl <| Ox cc <| Wr fun dk cd => Mv rfl <| As rfl <| As rfl <| Ox cd <| W_seq fun dl ce => W_block fun dm cf dn => W_loop (σ := Nat × List Int × Int × Int × List Value × Hp) (fun (aw, ag, ao, ai, al, a3) => [(0, wd0), (1, .int .i64 x1), (2, .func (.func 166) #[] #[.pointer (some ⟨pb1, 0, none⟩)]), (6, .int .i64 20), (7, .int .i64 ao), (8, .int .i64 ai)]) (fun (aw, ag, ao, ai, al, a3) w => slices_stableCmpFunc_rune_ian.l3 aw y1_0 x1 ag ao ai = some r ∧ Le ρ a3 ∧ St w0 a3 ((.row wr0 21 ((Rep.int .i32).sz) wm0 al) :: (.box pb1 29 ([w1_0])) :: Γ) w ∧ WinR .i32 a3 wr0 al wd0 wp0 wq0 ag) (fun s => s.1) (K0, y0, 0, 20, d0, ρ) sbn (Ai H (Ai (Le.rfl' _) (Ai hs g0))) ?_
  rintro ⟨aw, ag, ao, ai, al, a3⟩ w dp ⟨H, au, hs, ax⟩ a7
  show W _ _ _ _ _ _ [(0, wd0), (1, .int .i64 x1), (2, .func (.func 166) #[] #[.pointer (some ⟨pb1, 0, none⟩)]), (6, .int .i64 20), (7, .int .i64 ao), (8, .int .i64 ai)] w
  cases aw with
  | zero => rw [slices_stableCmpFunc_rune_ian.l3] at H; cases H
  | succ aw =>
  rw [slices_stableCmpFunc_rune_ian.l3] at H
  refine W_seq fun dq cg => Wr fun dr ch => Mv rfl <| Mv rfl <| Ole rfl <| Ox ch <| W_if rfl (fun bo => ?_) (fun bo => ?_)
  ·rw [if_pos bo] at H
   refine Wx cg <| W_block fun ds dt du => Wr fun dv ci => Mv rfl <| Mv rfl <| Mv rfl <| Mv rfl ?_
   have hs := hs.front 1 rfl
   have hs := hs.front 1 rfl
   obtain ⟨bm, bp, H⟩ := bnd H
   refine Oc rfl (slices_insertionSortCmpFunc_rune_lbg.c hs ax (g1_0.mono au) bp) (fun dw w hpost => ?_)
   obtain ⟨cj, bq, rfl, br, hs, ck⟩ := hpost
   have hs := hs.sink 1
   have hs := hs.sink 1
   refine Ox ci <| Wr fun dx cl => Mv rfl <| As rfl <| Ox cl <| W.weak [(0, _), (1, _), (2, _), (6, _), (7, _), (8, _)] sbn ?_
   refine W_region <| Mv rfl <| Mv rfl <| Oad rfl <| As rfl <| O_nil (a7 (aw, bm, ai, (IntKind.i64.wrap (ai + 20)), bq, cj) _ _ sbn (Ai H (Ai (au.trans br) (Ai hs ck))) (Nat.lt_succ_self _))
  ·rw [if_neg bo] at H
   refine W_exit (cf _ _ (ce _ _ <| Wr fun dy cm => Mv rfl <| Mv rfl <| Mv rfl <| Mv rfl ?_))
   have hs := hs.front 1 rfl
   have hs := hs.front 1 rfl
   obtain ⟨bn, bs, H⟩ := bnd H
   refine Oc rfl (slices_insertionSortCmpFunc_rune_lbg.c hs ax (g1_0.mono au) bs) (fun dz w hpost => ?_)
   obtain ⟨cb, bt, rfl, a8, hs, cn⟩ := hpost
   have hs := hs.sink 1
   have hs := hs.sink 1
   refine Ox cm <| W_block fun ea co eb => W_loop (σ := Nat × List Int × Int × List Value × Hp) (fun (ar, ac, aa, aj, a0) => [(0, wd0), (1, .int .i64 x1), (2, .func (.func 166) #[] #[.pointer (some ⟨pb1, 0, none⟩)]), (6, .int .i64 aa)]) (fun (ar, ac, aa, aj, a0) w => slices_stableCmpFunc_rune_ian.l2 ar y1_0 x1 ac aa = some r ∧ Le cb a0 ∧ St w0 a0 ((.row wr0 21 ((Rep.int .i32).sz) wm0 aj) :: (.box pb1 29 ([w1_0])) :: Γ) w ∧ WinR .i32 a0 wr0 aj wd0 wp0 wq0 ac) (fun s => s.1) (K0, bn, 20, bt, cb) (T4 rfl) (Ai H (Ai (Le.rfl' _) (Ai hs cn))) ?_
   rintro ⟨ar, ac, aa, aj, a0⟩ w ec ⟨H, a1, hs, ay⟩ a9
   show W _ _ _ _ _ _ [(0, wd0), (1, .int .i64 x1), (2, .func (.func 166) #[] #[.pointer (some ⟨pb1, 0, none⟩)]), (6, .int .i64 aa)] w
   cases ar with
   | zero => rw [slices_stableCmpFunc_rune_ian.l2] at H; cases H
   | succ ar =>
   rw [slices_stableCmpFunc_rune_ian.l2] at H
   refine W_seq fun ed cp => Wr fun ee bu => Mv rfl <| Mv rfl <| Ols rfl <| Ox bu <| W_if rfl (fun ba => ?_) (fun ba => ?_)
   ·rw [if_pos ba] at H
    refine Wx cp <| W_block fun cq cr cs => Wr fun ct bv => Mv rfl <| Oml rfl <| As rfl <| As rfl <| Ox bv <| W_seq fun cu bw => W_block fun cv bx cw => W_loop (σ := Nat × List Int × Int × Int × List Value × Hp) (fun (an, ab, af, ad, ah, aq) => [(0, wd0), (1, .int .i64 x1), (2, .func (.func 166) #[] #[.pointer (some ⟨pb1, 0, none⟩)]), (6, .int .i64 aa), (7, .int .i64 af), (8, .int .i64 ad)]) (fun (an, ab, af, ad, ah, aq) w => slices_stableCmpFunc_rune_ian.l1 (slices_stableCmpFunc_rune_ian.l2 ar y1_0 x1) an y1_0 x1 aa ab af ad = some r ∧ Le a0 aq ∧ St w0 aq ((.row wr0 21 ((Rep.int .i32).sz) wm0 ah) :: (.box pb1 29 ([w1_0])) :: Γ) w ∧ WinR .i32 aq wr0 ah wd0 wp0 wq0 ab) (fun s => s.1) (K0, ac, 0, (IntKind.i64.wrap (2 * aa)), aj, a0) sbn (Ai H (Ai (Le.rfl' _) (Ai hs ay))) ?_
    rintro ⟨an, ab, af, ad, ah, aq⟩ w cx ⟨H, av, hs, am⟩ a4
    show W _ _ _ _ _ _ [(0, wd0), (1, .int .i64 x1), (2, .func (.func 166) #[] #[.pointer (some ⟨pb1, 0, none⟩)]), (6, .int .i64 aa), (7, .int .i64 af), (8, .int .i64 ad)] w
    cases an with
    | zero => rw [slices_stableCmpFunc_rune_ian.l1] at H; cases H
    | succ an =>
    rw [slices_stableCmpFunc_rune_ian.l1] at H
    refine W_seq fun cy bz => Wr fun cz b0 => Mv rfl <| Mv rfl <| Ole rfl <| Ox b0 <| W_if rfl (fun bb => ?_) (fun bb => ?_)
    ·rw [if_pos bb] at H
     refine Wx bz <| W_block fun da db dc => Wr fun dd b1 => Mv rfl <| Mv rfl <| Mv rfl <| Mv rfl <| Oad rfl <| Mv rfl <| Mv rfl ?_
     have hs := hs.front 1 rfl
     have hs := hs.front 1 rfl
     obtain ⟨a5, be, H⟩ := bnd H
     refine Oc rfl ((slices_symMergeCmpFunc_rune_bji.c K0) hs am (g1_0.mono (((au.trans a8).trans a1).trans av)) be) (fun de w hpost => ?_)
     obtain ⟨b2, bf, rfl, bg, hs, b3⟩ := hpost
     have hs := hs.sink 1
     have hs := hs.sink 1
     refine Ox b1 <| W.weak [(0, _), (1, _), (2, _), (6, _), (8, _)] sbn ?_
     refine Wr fun df b4 => Mv rfl <| As rfl <| Ox b4 <| W_region <| Mv rfl <| Mv rfl <| Oml rfl <| Oad rfl <| As rfl <| O_nil (a4 (an, a5, ad, (IntKind.i64.wrap (ad + (IntKind.i64.wrap (2 * aa)))), bf, b2) _ _ sbn (Ai H (Ai (av.trans bg) (Ai hs b3))) (Nat.lt_succ_self _))
    ·rw [if_neg bb] at H
     refine W_exit (bx _ _ (bw _ _ <| W_seqj fun b5 b6 bh => ?_))
     have bi : ∀ (ae : List Int) (ak : List Value) (az : Hp) (w : World), slices_stableCmpFunc_rune_ian.j1 (slices_stableCmpFunc_rune_ian.l2 ar y1_0 x1) aa ae = some r → Le aq az → St w0 az ((.row wr0 21 ((Rep.int .i32).sz) wm0 ak) :: (.box pb1 29 ([w1_0])) :: Γ) w → WinR .i32 az wr0 ak wd0 wp0 wq0 ae → b5 [(0, wd0), (1, .int .i64 x1), (2, .func (.func 166) #[] #[.pointer (some ⟨pb1, 0, none⟩)]), (6, .int .i64 aa)] w := by
      intro ae ak az w H bc hs a2
      rw [slices_stableCmpFunc_rune_ian.j1] at H
      refine b6 _ _ <| W_region <| Mv rfl <| Oml rfl <| As rfl <| O_nil (a9 (ar, ae, (IntKind.i64.wrap (aa * 2)), ak, az) _ _ (T4 rfl) (Ai H (Ai ((a1.trans av).trans bc) (Ai hs a2))) (Nat.lt_succ_self _))
     refine Wr fun dg b7 => Mv rfl <| Mv rfl <| Oad rfl <| As rfl <| Ox b7 <| Wr fun dh b8 => Mv rfl <| Mv rfl <| Ols rfl <| Ox b8 <| W.weak [(0, _), (1, _), (2, _), (6, _), (7, _), (9, _), (54, _)] sbn ?_
     refine W_if rfl (fun bd => ?_) (fun bd => ?_)
     ·rw [if_pos bd] at H
      refine W_region <| Mv rfl <| Mv rfl <| Mv rfl <| Mv rfl <| Mv rfl ?_
      have hs := hs.front 1 rfl
      have hs := hs.front 1 rfl
      obtain ⟨a6, bj, H⟩ := bnd H
      refine Oc rfl ((slices_symMergeCmpFunc_rune_bji.c K0) hs am (g1_0.mono (((au.trans a8).trans a1).trans av)) bj) (fun di w hpost => ?_)
      obtain ⟨b9, bk, rfl, bl, hs, ca⟩ := hpost
      have hs := hs.sink 1
      have hs := hs.sink 1
      exact O_nil (bh _ _ _ (T4 rfl) (bi a6 bk b9 _ H bl hs ca))
     ·rw [if_neg bd] at H
      exact W_skip (bh _ _ _ (T4 rfl) (bi ab ah aq _ H (Le.rfl' _) hs am))
   ·rw [if_neg ba] at H
    refine W_exit (co _ _ ?_)
    obtain rfl := sinj H
    exact ret0 rfl ⟨_, _, rfl, ((au.trans a8).trans a1), hs, ay⟩

def slices_SortStableFunc_rune_rune_mmi.f (y0 : List Int) (y1_0 : Option Tbs) : Option (List Int) := (slices_stableCmpFunc_rune_ian.f (y0.length : Int) y0 y1_0).bind fun ac => (some ac)
theorem slices_SortStableFunc_rune_rune_mmi.c {wr0 wd0 : Value} {d0 : List Value} {wp0 wq0 : List Int} {wm0 : Nat} {y0 : List Int} {pb1 : Nat} {w1_0 : Value} {y1_0 : Option Tbs} (hs : St w0 ρ ((.row wr0 21 ((Rep.int .i32).sz) wm0 d0) :: (.box pb1 29 ([w1_0])) :: Γ) w) (g0 : WinR .i32 ρ wr0 d0 wd0 wp0 wq0 y0) (g1_0 : PtrR rTbs ρ w1_0 y1_0) {r : List Int} (H : slices_SortStableFunc_rune_rune_mmi.f y0 y1_0 = some r) : CallsR Tryz.prog 165 [wd0, .func (.func 166) #[] #[.pointer (some ⟨pb1, 0, none⟩)]] w (fun v w' => ∃ (ρ' : Hp) (ds0 : List Value), v = .tuple #[] ∧ Le ρ ρ' ∧ St w0 ρ' ((.row wr0 21 ((Rep.int .i32).sz) wm0 ds0) :: (.box pb1 29 ([w1_0])) :: Γ) w' ∧ WinR .i32 ρ' wr0 ds0 wd0 wp0 wq0 r) := by
  rw [slices_SortStableFunc_rune_rune_mmi.f] at H
  refine Et Tryz.func165 Tryz.ntmps165 rfl <| W_region <| Mv rfl <| Mv rfl <| O_y rfl (Y_lenWin un28 g0 rfl) <| Mv rfl ?_
  have hs := hs.front 1 rfl
  have hs := hs.front 1 rfl
  obtain ⟨ac, aa, H⟩ := bnd H
  refine Oc rfl (slices_stableCmpFunc_rune_ian.c hs g0 g1_0 aa) (fun af w hpost => ?_)
  obtain ⟨ag, ad, rfl, ab, hs, ae⟩ := hpost
  have hs := hs.sink 1
  have hs := hs.sink 1
  refine O_nil ?_
  obtain rfl := sinj H
  exact ret0 rfl ⟨_, _, rfl, ab, hs, ae⟩

def canon_Order.j1 (ag : List Int → Int → Option (List Int)) (aq : Int → Option (List Int)) (x0 : Option Tbs) (aa : List Int) (ab ad : Int) (af : Bool) : Option (List Int) := if af = true then (aq (IntKind.i64.wrap (ad + 1))) else (if (0 : Int) ≤ ab ∧ ab ≤ ad ∧ ad ≤ (aa.length : Int) then ((slices_SortStableFunc_rune_rune_mmi.f (sub aa ab ad) x0).bind fun ar => (ag (aa.take ab.toNat ++ (ar ++ aa.drop ad.toNat)) (IntKind.i64.wrap (ad + 1)))) else none)
def canon_Order.l1 (ag : List Int → Int → Option (List Int)) : Nat → Option Tbs → List Int → Int → Int → Option (List Int)
  | 0, _, _, _, _ => none
  | aj + 1, x0, aa, ab, ad => if ad < (aa.length : Int) then (if (0 : Int) ≤ ad ∧ ad < (aa.length : Int) then ((book_Tables_Class.f x0 (rd aa ad)).bind fun au => (canon_Order.j1 ag (canon_Order.l1 ag aj x0 aa ab) x0 aa ab ad (decide (au ≠ 0)))) else none) else (canon_Order.j1 ag (canon_Order.l1 ag aj x0 aa ab) x0 aa ab ad false)
def canon_Order.l2 : Nat → Option Tbs → List Int → Int → Option (List Int)
  | 0, _, _, _ => none
  | ah + 1, x0, aa, ab => if ab < (aa.length : Int) then (canon_Order.l1 (canon_Order.l2 ah x0) K0 x0 aa ab ab) else (some aa)
def canon_Order.f (x0 : Option Tbs) (x1 : List Int) : Option (List Int) := (slices_Clone_rune_rune.f x1).bind fun a8 => (canon_Order.l2 K0 x0 a8 0)
theorem canon_Order.c (hs : St w0 ρ (Γ) w) {v0 : Value} {x0 : Option Tbs} (h0 : PtrR rTbs ρ v0 x0) {v1 : Value} {x1 : List Int} (h1 : SlR (Rep.int .i32) ρ v1 x1) {r : List Int} (H : canon_Order.f x0 x1 = some r) : CallsR Tryz.prog 135 [v0, v1] w (fun v w' => ∃ (ρ' : Hp) (v0 : Value) (cs0 : List Value), v = v0 ∧ Le ρ ρ' ∧ St w0 ρ' (.row v0 21 (Rep.int .i32).sz r.length cs0 :: Γ) w' ∧ RowR (Rep.int .i32) ρ' cs0 r) := by
  rw [canon_Order.f] at H
  refine Et Tryz.func135 Tryz.ntmps135 rfl <| Wr fun cc bl => O_box1 hs rfl rfl h0.one (fun ao w hs => As rfl <| Ox bl <| Wr fun cd bm => Mv rfl ?_)
  obtain ⟨a8, a9, H⟩ := bnd H
  refine Oc rfl (slices_Clone_rune_rune.c hs h1 a9) (fun bn w hpost => ?_)
  obtain ⟨bj, ce, ba, rfl, av, hs, bo⟩ := hpost
  refine As rfl <| Ox bm <| W_seq fun cf bp => Wr fun cg bq => As rfl <| Ox bq <| W_block fun ch br ci => W_loop (σ := Nat × List Int × Int × Value × List Value × Hp) (fun (ah, aa, ab, ac, ae, ak) => [(2, .pointer (some ⟨ao, 0, none⟩)), (5, ac), (6, .int .i64 ab)]) (fun (ah, aa, ab, ac, ae, ak) w => canon_Order.l2 ah x0 aa ab = some r ∧ Le bj ak ∧ St w0 ak ((.row ac 21 ((Rep.int .i32).sz) aa.length ae) :: (.box ao 29 ([v0])) :: Γ) w ∧ RowR (Rep.int .i32) ak ae aa) (fun s => s.1) (K0, a8, 0, bn, ba, bj) (T3 rfl) (Ai H (Ai (Le.rfl' _) (Ai hs bo))) ?_
  rintro ⟨ah, aa, ab, ac, ae, ak⟩ w cj ⟨H, al, hs, ai⟩ aw
  show W _ _ _ _ _ _ [(2, .pointer (some ⟨ao, 0, none⟩)), (5, ac), (6, .int .i64 ab)] w
  cases ah with
  | zero => rw [canon_Order.l2] at H; cases H
  | succ ah =>
  rw [canon_Order.l2] at H
  refine W_seq fun ck bs => Wr fun cl bt => Mv rfl <| Mv rfl <| O_y rfl (Y_lenRow (i := 0) un28 hs rfl rfl) <| Ols rfl <| Ox bt <| W_if rfl (fun bb => ?_) (fun bb => ?_)
  ·rw [if_pos bb] at H
   refine Wx bs <| W_seq fun cm bu => W_block fun cn co cp => Wr fun cq bv => Mv rfl <| As rfl <| Ox bv <| W_seq fun cr bw => W_block fun cs bx ct => W_loop (σ := Nat × Int) (fun (aj, ad) => [(2, .pointer (some ⟨ao, 0, none⟩)), (5, ac), (6, .int .i64 ab), (7, .int .i64 ad)]) (fun (aj, ad) w => canon_Order.l1 (canon_Order.l2 ah x0) aj x0 aa ab ad = some r ∧ St w0 ak ((.row ac 21 ((Rep.int .i32).sz) aa.length ae) :: (.box ao 29 ([v0])) :: Γ) w) (fun s => s.1) (K0, ab) (T4 rfl) (Ai H hs) ?_
   rintro ⟨aj, ad⟩ w cu ⟨H, hs⟩ ax
   show W _ _ _ _ _ _ [(2, .pointer (some ⟨ao, 0, none⟩)), (5, ac), (6, .int .i64 ab), (7, .int .i64 ad)] w
   cases aj with
   | zero => rw [canon_Order.l1] at H; cases H
   | succ aj =>
   rw [canon_Order.l1] at H
   refine W_seq fun cv bz => W_seqj fun b0 b1 bk => ?_
   have a0 : ∀ (af : Bool) (w : World), canon_Order.j1 (canon_Order.l2 ah x0) (canon_Order.l1 (canon_Order.l2 ah x0) aj x0 aa ab) x0 aa ab ad af = some r → St w0 ak ((.row ac 21 ((Rep.int .i32).sz) aa.length ae) :: (.box ao 29 ([v0])) :: Γ) w → b0 [(2, .pointer (some ⟨ao, 0, none⟩)), (5, ac), (6, .int .i64 ab), (7, .int .i64 ad), (29, .bool af)] w := by
    intro af w H hs
    rw [canon_Order.j1] at H
    refine b1 _ _ <| W_cond rfl (fun ay => ?_) (fun ay => ?_)
    ·rw [if_pos ay] at H
     refine Wx bz <| W_block fun b2 b3 b4 => W_region <| Mv rfl <| Oad rfl <| As rfl <| O_nil (ax (aj, (IntKind.i64.wrap (ad + 1))) _ _ (T4 rfl) (Ai H hs) (Nat.lt_succ_self _))
    ·rw [if_neg (bft ay)] at H
     refine W_exit (bx _ _ (bw _ _ <| Wr fun b5 bc => Mv rfl <| Mv rfl <| Mv rfl ?_))
     obtain ⟨am, H⟩ := gd H
     obtain ⟨b6, a1, bd⟩ := Y_sliceWin' (k := .i32) el28 hs (j := 0) rfl am.1 am.2.1 am.2.2
     refine O_y rfl (bd rfl (.inr ⟨_, _, rfl, rfl⟩) (.inr ⟨_, _, rfl, rfl⟩)) <| O_y rfl (Y_func rfl) ?_
     have hs := hs.front 1 rfl
     have hs := hs.front 1 rfl
     obtain ⟨ar, a2, H⟩ := bnd H
     refine Oc rfl (slices_SortStableFunc_rune_rune_mmi.c hs (WinR.of ai a1 am.1 am.2.1 am.2.2) (h0.mono (av.trans al)) a2) (fun b7 w hpost => ?_)
     obtain ⟨be, a3, rfl, a4, hs, bf⟩ := hpost
     obtain ⟨bg, a5⟩ := WinR.done hs bf (j := 0) rfl
     have hs := hs.rowLen (j := 0) rfl a5
     have hs := hs.sink 1
     have hs := hs.sink 1
     refine Ox bc <| W_region <| Mv rfl <| As rfl <| Ox bu <| W_region <| Mv rfl <| Oad rfl <| As rfl <| O_nil (aw (ah, (aa.take ab.toNat ++ (ar ++ aa.drop ad.toNat)), (IntKind.i64.wrap (ad + 1)), ac, a3, be) _ _ (T3 rfl) (Ai H (Ai (al.trans a4) (Ai hs bg))) (Nat.lt_succ_self _))
   refine W_drawS 13 [0, 0, 2, 5, 8, 16, 16, 16, 208, 272, 560, 1040, 2064] [8182, 8185, 8177, 8160, 0, 7104, 7840, 7776, 7200, 6176, 4096, 0, 0] [0, 0, 2, 7, 15, 31, 31, 31, 223, 479, 1023, 2047, 4095] [10, 11, 12] (fun w => St w0 ak ((.row ac 21 ((Rep.int .i32).sz) aa.length ae) :: (.box ao 29 ([v0])) :: Γ) w) mixed (by kernel_rfl) (fun sh => ?_)
   have hs := hs.drew
   refine Fm 0 sh rfl <| Fm 1 sh rfl <| Fy 2 sh rfl hs (fun w hs => Y_lenRow (i := 0) un28 hs rfl rfl) <| Fp 3 sh rfl (fun w => Y_lss rfl rfl) <| Fm 4 sh rfl <| OD_if (dj := 21) rfl (fun az => ?_) (fun az => ?_)
   ·rw [if_pos az] at H
    refine Fy 5 sh rfl hs (fun w hs => Yb 1 ag29 hs rfl rfl rfl) <| Fp 6 sh rfl (fun w => Y_move rfl) <| Fp 7 sh rfl (fun w => Y_move rfl) ?_
    obtain ⟨an, H⟩ := gd H
    obtain ⟨b8, ap⟩ := hs.rowBlock (j := 0) rfl (by have := an.2; omega)
    obtain ⟨_, rfl, a6⟩ := ai.at an.1 an.2
    refine Fy 8 sh rfl hs (fun w hs => Y_ixRow (j := 0) el28 hs rfl ap rfl rfl an.1 an.2) <| Fy 9 sh rfl hs (fun w hs => Y_load ag21 rfl (hs.rowCell (j := 0) rfl ap (a6 0 _ rfl))) <| F1 10 sh rfl (fun b9 bh => Oe rfl ?_)
    obtain ⟨au, a7, H⟩ := bnd H
    refine Oc rfl (book_Tables_Class.c hs (h0.mono (av.trans al)) a7) (fun ca w hpost => ?_)
    obtain ⟨rfl, hs⟩ := hpost
    refine O_nil (bh _ _ (fun h _ => absurd h (by decide)) <| OD_resetS sh [] hs (by kernel_rfl) <| Fp 11 sh rfl (fun w => Y_neq rfl rfl) <| Fp 12 sh rfl (fun w => Y_pick_t rfl rfl) <| FE sh (bk _ _ _ sbn (a0 (decide (au ≠ 0)) _ H hs)))
   ·rw [if_neg az] at H
    refine Fn 5 sh rfl <| Fn 6 sh rfl <| Fn 7 sh rfl <| Fn 8 sh rfl <| Fn 9 sh rfl <| Fn 10 sh rfl <| Fn 11 sh rfl <| Fp 12 sh rfl (fun w => Y_pick_f rfl rfl) <| FE sh (bk _ _ _ sbn (a0 false _ H hs))
  ·rw [if_neg bb] at H
   refine W_exit (br _ _ (bp _ _ <| Wr fun cb bi => Mv rfl <| As rfl <| Ox bi <| W_ret ?_))
   obtain rfl := sinj H
   exact r1 rfl ⟨_, _, _, rfl, (av.trans al), (hs.sub (ssc (ssk ssr))), ai⟩

def canon_Syllable.j1 (x0 ab : Int) : Option (Int × Int × Int × Bool) := some (IntKind.i32.wrap (4352 + (IntKind.i32.wrap ((IntKind.i32.wrap (x0 - 44032)).tdiv 588))), IntKind.i32.wrap (4449 + ((IntKind.i32.wrap ((IntKind.i32.wrap (x0 - 44032)).tdiv 28)).tmod 21)), ab, true)
def canon_Syllable.j2 (x0 : Int) (aa : Bool) : Option (Int × Int × Int × Bool) := if aa = true then (some (0, 0, 0, false)) else (if (IntKind.i32.wrap (4519 + ((IntKind.i32.wrap (x0 - 44032)).tmod 28))) = 4519 then (canon_Syllable.j1 x0 0) else (canon_Syllable.j1 x0 (IntKind.i32.wrap (4519 + ((IntKind.i32.wrap (x0 - 44032)).tmod 28)))))
def canon_Syllable.f (x0 : Int) : Option (Int × Int × Int × Bool) := if x0 < 44032 then (canon_Syllable.j2 x0 true) else (canon_Syllable.j2 x0 (decide (11172 ≤ (IntKind.i32.wrap (x0 - 44032)))))
theorem canon_Syllable.c (hs : St w0 ρ (Γ) w) {x0 : Int} {r : Int × Int × Int × Bool} (H : canon_Syllable.f x0 = some r) : CallsR Tryz.prog 180 [.int .i32 x0] w (fun v w' => v = .tuple #[.int .i32 r.1, .int .i32 r.2.1, .int .i32 r.2.2.1, .bool r.2.2.2] ∧ St w0 ρ Γ w') := by
  rw [canon_Syllable.f] at H
  refine Et Tryz.func180 Tryz.ntmps180 rfl <| Wr fun aw aj => As rfl <| As rfl <| As rfl <| As rfl <| Ox aj <| Wr fun ax ak => Mv rfl <| Osu rfl <| As rfl <| O_nil (ak _ _ ?_)
  refine W_seq fun ay al => W_seqj fun am an af => ?_
  have ag : ∀ (aa : Bool) (w : World), canon_Syllable.j2 x0 aa = some r → St w0 ρ (Γ) w → am [(6, .int .i32 (IntKind.i32.wrap (x0 - 44032))), (15, .bool aa)] w := by
   intro aa w H hs
   rw [canon_Syllable.j2] at H
   refine an _ _ <| W_cond rfl (fun ac => ?_) (fun ac => ?_)
   ·rw [if_pos ac] at H
    refine Wr fun az ao => As rfl <| As rfl <| As rfl <| As rfl <| Ox ao <| W_ret ?_
    obtain rfl := sinj H
    exact ret4 rfl rfl rfl rfl rfl ⟨rfl, hs⟩
   ·rw [if_neg (bft ac)] at H
    refine Wx al <| Wr fun a0 ap => Mv rfl <| O_y rfl (Y_rem rfl rfl (by decide)) <| Oad rfl <| As rfl <| Ox ap <| W_seqj fun aq ar ah => ?_
    have ai : ∀ (ab : Int) (w : World), canon_Syllable.j1 x0 ab = some r → St w0 ρ (Γ) w → aq [(6, .int .i32 (IntKind.i32.wrap (x0 - 44032))), (7, .int .i32 ab)] w := by
     intro ab w H hs
     rw [canon_Syllable.j1] at H
     refine ar _ _ <| Wr fun a1 au => Mv rfl <| O_y rfl (Y_quo rfl rfl (by decide)) <| Oad rfl <| Mv rfl <| O_y rfl (Y_quo rfl rfl (by decide)) <| O_y rfl (Y_rem rfl rfl (by decide)) <| Oad rfl <| Mv rfl <| As rfl <| As rfl <| As rfl ?_
     refine As rfl <| Ox au <| W_ret ?_
     obtain rfl := sinj H
     exact ret4 rfl rfl rfl rfl rfl ⟨rfl, hs⟩
    refine Wr fun a2 av => Mv rfl <| Oeq rfl <| Ox av <| W_if rfl (fun ad => ?_) (fun ad => ?_)
    ·rw [if_pos ad] at H
     refine W_region <| As rfl <| O_nil (ah _ _ _ (T2 rfl) (ai 0 _ H hs))
    ·rw [if_neg ad] at H
     exact W_skip (ah _ _ _ (T2 rfl) (ai (IntKind.i32.wrap (4519 + ((IntKind.i32.wrap (x0 - 44032)).tmod 28))) _ H hs))
  refine W_region <| Mv rfl <| Ols rfl <| Mv rfl <| O_if (dj := 12) rfl (fun ae => ?_) (fun ae => ?_)
  ·rw [if_pos ae] at H
   refine On rfl <| On rfl <| Opk rfl <| O_nil (af _ _ _ (T2 rfl) (ag true _ H hs))
  ·rw [if_neg ae] at H
   refine Oe rfl <| Mv rfl <| Oe rfl <| Oge rfl <| Opk rfl <| O_nil (af _ _ _ (T2 rfl) (ag (decide (11172 ≤ (IntKind.i32.wrap (x0 - 44032)))) _ H hs))

end Go.Proofs.YthoicbafdanmkaaGreatDoor
/- Written by this repo's gen.py: for each Go function a Lean function with the same answers and the walk that shows it. -/
namespace Go.Proofs.YthoicbafdanmkaaGreatDoor
open Go.RowKit
set_option maxRecDepth 100000
set_option maxHeartbeats 4000000
variable {w0 w : World} {ρ : Hp} {Γ : List Item}
set_option linter.unusedVariables false
def book_row.f (x0 : Option Tab) (x1 : List Chs) (x2 : Int) : Option (List Int) := (stage_Table_Look.f x0 x2).bind fun aa => (if aa = 0 then (some ([] : List Int)) else (if (0 : Int) ≤ IntKind.i64.wrap (aa - 1) ∧ IntKind.i64.wrap (aa - 1) < (x1.length : Int) then ((slices_Clone_rune_rune.f ((rd x1 (IntKind.i64.wrap (aa - 1))).is_)).bind fun af => (some af)) else none))
theorem book_row.c (hs : St w0 ρ (Γ) w) {v0 : Value} {x0 : Option Tab} (h0 : PtrR rTab ρ v0 x0) {v1 : Value} {x1 : List Chs} (h1 : SlR rChs ρ v1 x1) {x2 : Int} {r : List Int} (H : book_row.f x0 x1 x2 = some r) : CallsR Tryz.prog 137 [v0, v1, .int .i32 x2] w (fun v w' => ∃ (ρ' : Hp) (v0 : Value) (cs0 : List Value), v = v0 ∧ Le ρ ρ' ∧ St w0 ρ' (.row v0 21 (Rep.int .i32).sz r.length cs0 :: Γ) w' ∧ RowR (Rep.int .i32) ρ' cs0 r) := by
  rw [book_row.f] at H
  refine Et Tryz.func137 Tryz.ntmps137 rfl <| Wr fun aw ah => As rfl <| Ox ah <| Wr fun ax ai => Mv rfl <| Mv rfl ?_
  obtain ⟨aa, ab, H⟩ := bnd H
  refine Oc rfl (stage_Table_Look.c hs h0 ab) (fun ay w hpost => ?_)
  obtain ⟨rfl, hs⟩ := hpost
  refine As rfl <| Ox ai <| W_seq fun az aj => Wr fun a0 ak => Mv rfl <| Oeq rfl <| Ox ak <| W_if rfl (fun ac => ?_) (fun ac => ?_)
  ·rw [if_pos ac] at H
   refine Wr fun a1 al => As rfl <| Ox al <| W_ret ?_
   have hs := hs.rowNil 21 (Rep.int .i32).sz
   have am := RowR.nil (Rep.int .i32) ρ
   obtain rfl := sinj H
   exact r1 rfl ⟨_, _, _, rfl, Le.rfl' _, hs, am⟩
  ·rw [if_neg ac] at H
   refine Wx aj <| Wr fun a2 an => Mv rfl <| Mv rfl <| Osu rfl ?_
   obtain ⟨ag, H⟩ := gd H
   obtain ⟨a3, a4, ao, ap⟩ := h1.ix el24 ag.1 ag.2
   obtain ⟨_, ⟨a5, rfl, aq⟩, ar⟩ := ao
   refine O_y rfl (ap rfl rfl) <| Ofd fo110_2 rfl <| O_y rfl (Y_load ag28 rfl (hs.see (ar 2 _ rfl))) ?_
   obtain ⟨af, ad, H⟩ := bnd H
   refine Oc rfl (slices_Clone_rune_rune.c hs aq ad) (fun a6 w hpost => ?_)
   obtain ⟨a7, a8, au, rfl, ae, hs, av⟩ := hpost
   refine As rfl <| Ox an <| W.weak [(6, _)] (S1 rfl) <| W_ret ?_
   obtain rfl := sinj H
   exact r1 rfl ⟨_, _, _, rfl, ae, hs, av⟩

def book_Tables_Parts.f (x0 : Option Tbs) (x1 : Int) : Option (List Int) := if ((x0).isNone) = true then (some ([] : List Int)) else (if x0.isSome = true then ((book_row.f (((x0).getD default).decomp) ((((x0).getD default).b).decomp) x1).bind fun aa => (some aa)) else none)
theorem book_Tables_Parts.c (hs : St w0 ρ (Γ) w) {v0 : Value} {x0 : Option Tbs} (h0 : PtrR rTbs ρ v0 x0) {x1 : Int} {r : List Int} (H : book_Tables_Parts.f x0 x1 = some r) : CallsR Tryz.prog 181 [v0, .int .i32 x1] w (fun v w' => ∃ (ρ' : Hp) (v0 : Value) (cs0 : List Value), v = v0 ∧ Le ρ ρ' ∧ St w0 ρ' (.row v0 21 (Rep.int .i32).sz r.length cs0 :: Γ) w' ∧ RowR (Rep.int .i32) ρ' cs0 r) := by
  rw [book_Tables_Parts.f] at H
  refine Et Tryz.func181 Tryz.ntmps181 rfl <| Wr fun cm ap => As rfl <| Ox ap <| W_seq fun cn aq => Wr fun co ar => Mv rfl <| O_y rfl ((h0.eqn un29 rfl rfl)) <| Ox ar <| W_cond rfl (fun ae => ?_) (fun ae => ?_)
  ·rw [if_pos ae] at H
   refine Wr fun cp au => As rfl <| Ox au <| W_ret ?_
   have hs := hs.rowNil 21 (Rep.int .i32).sz
   have av := RowR.nil (Rep.int .i32) ρ
   obtain rfl := sinj H
   exact r1 rfl ⟨_, _, _, rfl, Le.rfl' _, hs, av⟩
  ·rw [if_neg (bft ae)] at H
   refine Wx aq <| W_seq fun cq aw => W_drawS 12 [0, 1, 2, 4, 0, 16, 32, 64, 128, 0, 776, 2047] [2044, 2040, 2032, 1008, 1999, 1935, 1807, 1551, 527, 511, 0, 0] [0, 1, 3, 7, 0, 16, 48, 112, 240, 0, 1023, 2047] [10, 11] (fun w => St w0 ρ (Γ) w) mixed (by kernel_rfl) (fun sh => ?_)
   have hs := hs.drew
   refine Fm 0 sh rfl ?_
   obtain ⟨an, H⟩ := gd H
   obtain ⟨cr, af, ax⟩ := h0.open an
   obtain ⟨_, ⟨cs, ct, cu, cv, cw, cx, cy, cz, da, db, dc, dd, de, df, dg, dh, ay, az, a0, a1, a2, a3, rfl, di, dj, dk, dl, dm, dn, dp, dq, dr, ds, dt, du, dv, dw, dx, dy, a4, a5, a6, ag, a7, a8⟩, ah⟩ := ax
   refine Fp 1 sh rfl (fun w => Y_nilp (congrArg some af)) <| Fp 2 sh rfl (fun w => Y_field fo114_9 rfl) <| Fy 3 sh rfl hs (fun w hs => Y_load ag104 rfl (hs.see (ah 19 _ rfl))) <| Fm 4 sh rfl ?_
   obtain ⟨a9, ab, ai⟩ := h0.open an
   obtain ⟨_, ⟨ba, bb, bc, bd, be, bf, bg, bh, bi, bj, bk, bl, bm, bn, bo, bp, bq, br, bs, bt, bu, bv, rfl, bw, bx, bz, b0, aj, b1, b2, b3, b4, b5, b6, b7, b8, b9, ca, cb, cc, cd, ce, cf, cg, ch⟩, ak⟩ := ai
   refine Fp 5 sh rfl (fun w => Y_nilp (congrArg some ab)) <| Fp 6 sh rfl (fun w => Y_field fo114_0 rfl) <| Fp 7 sh rfl (fun w => Y_field fo27_4 rfl) <| Fy 8 sh rfl hs (fun w hs => Y_load ag24 rfl (hs.see (ak 4 _ rfl))) <| Fm 9 sh rfl <| F1 10 sh rfl (fun ci al => ?_)
   obtain ⟨aa, ac, H⟩ := bnd H
   refine Oc rfl (book_row.c hs ag aj ac) (fun cj w hpost => ?_)
   obtain ⟨ck, cl, ao, rfl, ad, hs, am⟩ := hpost
   refine O_nil (al _ _ (fun h _ => absurd h (by decide)) <| OD_resetS sh [] hs (by kernel_rfl) <| Fp 11 sh rfl (fun w => Y_assign rfl) <| FE sh (aw _ _ <| W.weak [(4, _)] (S1 rfl) <| W_ret ?_))
   obtain rfl := sinj H
   exact r1 rfl ⟨_, _, _, rfl, ad, hs, am⟩

def canon_Full.l1 : Nat → (Option Tbs → Int → Option (List Int)) → Option Tbs → List Int → List Int → Int → Option (List Int)
  | 0, _, _, _, _, _ => none
  | af + 1, rec, x0, aj, aa, ab => if ab < (aj.length : Int) then (if (0 : Int) ≤ ab ∧ ab < (aj.length : Int) then ((rec x0 (rd aj ab)).bind fun al => (if aa.length + al.length ≤ most then ((canon_Full.l1 af rec x0 aj) (aa ++ al) (IntKind.i64.wrap (ab + 1))) else none)) else none) else (some aa)
def canon_Full.b (rec : Option Tbs → Int → Option (List Int)) (x0 : Option Tbs) (x1 : Int) : Option (List Int) := (canon_Syllable.f x1).bind fun ae => (if ae.2.2.2 = true then (if ae.2.2.1 = 0 then (some ([ae.1, ae.2.1])) else (some ([ae.1, ae.2.1, ae.2.2.1]))) else ((book_Tables_Parts.f x0 x1).bind fun aj => (if (aj.length : Int) = 0 then (some ([x1])) else (canon_Full.l1 K0 rec x0 aj ([] : List Int) 0))))
def canon_Full.f : Nat → Option Tbs → Int → Option (List Int)
  | 0, _, _ => none
  | k + 1, x0, x1 => canon_Full.b (canon_Full.f k) x0 x1
def canon_Full.Spec (rec : Option Tbs → Int → Option (List Int)) : Prop := ∀ {w0 w : World} {ρ : Hp} {Γ : List Item} (hs : St w0 ρ (Γ) w) {v0 : Value} {x0 : Option Tbs} (h0 : PtrR rTbs ρ v0 x0) {x1 : Int} {r : List Int}, rec x0 x1 = some r → CallsR Tryz.prog 168 [v0, .int .i32 x1] w (fun v w' => ∃ (ρ' : Hp) (v0 : Value) (cs0 : List Value), v = v0 ∧ Le ρ ρ' ∧ St w0 ρ' (.row v0 21 (Rep.int .i32).sz r.length cs0 :: Γ) w' ∧ RowR (Rep.int .i32) ρ' cs0 r)
theorem canon_Full.cb (rec : Option Tbs → Int → Option (List Int)) (hrec : canon_Full.Spec rec) {w0 w : World} {ρ : Hp} {Γ : List Item} (hs : St w0 ρ (Γ) w) {v0 : Value} {x0 : Option Tbs} (h0 : PtrR rTbs ρ v0 x0) {x1 : Int} {r : List Int} (H : canon_Full.b rec x0 x1 = some r) : CallsR Tryz.prog 168 [v0, .int .i32 x1] w (fun v w' => ∃ (ρ' : Hp) (v0 : Value) (cs0 : List Value), v = v0 ∧ Le ρ ρ' ∧ St w0 ρ' (.row v0 21 (Rep.int .i32).sz r.length cs0 :: Γ) w' ∧ RowR (Rep.int .i32) ρ' cs0 r) := by
  rw [canon_Full.b] at H
  refine Et Tryz.func168 Tryz.ntmps168 rfl <| Wr fun ci bk => As rfl <| Ox bk <| W_seq fun cj bl => Wr fun ck bm => Mv rfl ?_
  obtain ⟨ae, ay, H⟩ := bnd H
  refine Oc rfl (canon_Syllable.c hs ay) (fun cl w hpost => ?_)
  obtain ⟨rfl, hs⟩ := hpost
  refine Mv rfl <| Oxt rfl <| Oxt rfl <| Oxt rfl <| Oxt rfl <| As rfl <| As rfl <| As rfl <| As rfl <| Ox bm <| Wr fun cm bn => Mv rfl <| O_nil (bn _ _ ?_)
  refine W.weak [(0, _), (1, _), (5, _), (6, _), (7, _), (20, _)] sbn ?_
  refine W_cond rfl (fun az => ?_) (fun az => ?_)
  ·rw [if_pos az] at H
   refine W_seq fun cn bo => Wr fun co bp => Mv rfl <| Oeq rfl <| Ox bp <| W_if rfl (fun a0 => ?_) (fun a0 => ?_)
   ·rw [if_pos a0] at H
    refine Wr fun cp bq => Mv rfl <| Mv rfl <| O_lit2 (xs := [.tmp 23, .tmp 24]) (cs := [.int .i32 ae.1, .int .i32 ae.2.1]) el28 hs rfl rfl rfl (by decide) (by decide) rfl (sz_cons rfl (sz_cons rfl sz_nil)) (flat_cons rfl (flat_cons rfl flat_nil)) (fun cq w hs => ?_)
    have br : RowR (Rep.int .i32) ρ ([.int .i32 ae.1, .int .i32 ae.2.1]) [ae.1, ae.2.1] := RowR.cons (c := [.int .i32 ae.1]) (x := ae.1) rfl (RowR.cons (c := [.int .i32 ae.2.1]) (x := ae.2.1) rfl (RowR.nil _ _))
    refine As rfl <| Ox bq <| W_ret ?_
    obtain rfl := sinj H
    exact r1 rfl ⟨_, _, _, rfl, Le.rfl' _, hs, br⟩
   ·rw [if_neg a0] at H
    refine Wx bo <| Wr fun cr bs => Mv rfl <| Mv rfl <| Mv rfl <| O_lit2 (xs := [.tmp 26, .tmp 27, .tmp 28]) (cs := [.int .i32 ae.1, .int .i32 ae.2.1, .int .i32 ae.2.2.1]) el28 hs rfl rfl rfl (by decide) (by decide) rfl (sz_cons rfl (sz_cons rfl (sz_cons rfl sz_nil))) (flat_cons rfl (flat_cons rfl (flat_cons rfl flat_nil))) (fun ct w hs => ?_)
    have bt : RowR (Rep.int .i32) ρ ([.int .i32 ae.1, .int .i32 ae.2.1, .int .i32 ae.2.2.1]) [ae.1, ae.2.1, ae.2.2.1] := RowR.cons (c := [.int .i32 ae.1]) (x := ae.1) rfl (RowR.cons (c := [.int .i32 ae.2.1]) (x := ae.2.1) rfl (RowR.cons (c := [.int .i32 ae.2.2.1]) (x := ae.2.2.1) rfl (RowR.nil _ _)))
    refine As rfl <| Ox bs <| W_ret ?_
    obtain rfl := sinj H
    exact r1 rfl ⟨_, _, _, rfl, Le.rfl' _, hs, bt⟩
  ·rw [if_neg (bft az)] at H
   refine Wx bl <| Wr fun cu bu => Mv rfl <| Mv rfl ?_
   obtain ⟨aj, a1, H⟩ := bnd H
   refine Oc rfl (book_Tables_Parts.c hs h0 a1) (fun a2 w hpost => ?_)
   obtain ⟨ax, cv, a3, rfl, ap, hs, bv⟩ := hpost
   refine As rfl <| Ox bu <| W_seq fun cw bw => Wr fun cx bx => Mv rfl <| O_y rfl (Y_lenRow (i := 0) un28 hs rfl rfl) <| Oeq rfl <| Ox bx <| W_if rfl (fun a4 => ?_) (fun a4 => ?_)
   ·rw [if_pos a4] at H
    refine Wr fun cy bz => Mv rfl <| O_lit2 (xs := [.tmp 36]) (cs := [.int .i32 x1]) el28 hs rfl rfl rfl (by decide) (by decide) rfl (sz_cons rfl sz_nil) (flat_cons rfl flat_nil) (fun cz w hs => ?_)
    have b0 : RowR (Rep.int .i32) ax ([.int .i32 x1]) [x1] := RowR.cons (c := [.int .i32 x1]) (x := x1) rfl (RowR.nil _ _)
    refine As rfl <| Ox bz <| W.weak [(4, _)] (S1 rfl) <| W_ret ?_
    obtain rfl := sinj H
    exact r1 rfl ⟨_, _, _, rfl, ap, (hs.sub (ssc (ssk ssr))), b0⟩
   ·rw [if_neg a4] at H
    refine Wx bw <| Wr fun da a5 => As rfl ?_
    have hs := hs.rowNil 21 (Rep.int .i32).sz
    have a6 := RowR.nil (Rep.int .i32) ax
    refine Ox a5 <| W_seq fun b1 a7 => Wr fun b2 a8 => Mv rfl <| O_y rfl (Y_lenRow (i := 1) un28 hs rfl rfl) <| Mv rfl <| Ox a8 <| W.weak [(0, _), (10, _), (38, _), (39, _), (40, _)] sbn ?_
    refine W_block fun b3 a9 b4 => W_loop (σ := Nat × List Int × Int × Value × List Value × Hp) (fun (af, aa, ab, ac, ad, ai) => [(0, v0), (10, ac), (38, a2), (39, .int .i64 (aj.length : Int)), (40, .int .i64 ab)]) (fun (af, aa, ab, ac, ad, ai) w => canon_Full.l1 af rec x0 aj aa ab = some r ∧ Le ax ai ∧ St w0 ai ((.row ac 21 ((Rep.int .i32).sz) aa.length ad) :: (.row a2 21 ((Rep.int .i32).sz) aj.length a3) :: Γ) w ∧ RowR (Rep.int .i32) ai ad aa) (fun s => s.1) (K0, ([] : List Int), 0, (.slice none 0 0), ([]), ax) sbn (Ai H (Ai (Le.rfl' _) (Ai hs a6))) ?_
    rintro ⟨af, aa, ab, ac, ad, ai⟩ w b5 ⟨H, ah, hs, ag⟩ am
    show W _ _ _ _ _ _ [(0, v0), (10, ac), (38, a2), (39, .int .i64 (aj.length : Int)), (40, .int .i64 ab)] w
    cases af with
    | zero => rw [canon_Full.l1] at H; cases H
    | succ af =>
    rw [canon_Full.l1] at H
    refine Wr fun b6 ba => Ols rfl <| Ox ba <| W_seq fun b7 bb => W_if rfl (fun aq => ?_) (fun aq => ?_)
    ·rw [if_pos aq] at H
     refine Wx bb <| W_seq fun b8 bc => W_block fun b9 ca cc => W_seq fun cd bd => W_region ?_
     obtain ⟨ak, H⟩ := gd H
     obtain ⟨ce, an⟩ := hs.rowBlock (j := 1) rfl (by have := ak.2; omega)
     obtain ⟨_, rfl, ar⟩ := (bv.mono ah).at ak.1 ak.2
     refine O_y rfl (Y_ixRow (j := 1) el28 hs rfl an rfl rfl ak.1 ak.2) <| O_y rfl (Y_load ag21 rfl (hs.rowCell (j := 1) rfl an (ar 0 _ rfl))) <| As rfl <| Ox bd <| W_region <| Mv rfl <| Mv rfl <| Mv rfl ?_
     obtain ⟨al, au, H⟩ := bnd H
     refine Oc rfl (hrec hs (h0.mono (ap.trans ah)) au) (fun cf w hpost => ?_)
     obtain ⟨be, cg, bj, rfl, ao, hs, av⟩ := hpost
     obtain ⟨bf, H⟩ := gd H
     refine O_appendR (i := 1) el28 hs rfl (ag.mono ao) rfl rfl rfl (Src.lit (j := 0) hs rfl av) av bf (fun bg aw w bh hs => As rfl <| Ox bc <| W_region <| Oad rfl <| Mv rfl <| O_nil (am (af, (aa ++ al), (IntKind.i64.wrap (ab + 1)), bg, aw, be) _ _ sbn (Ai H (Ai (ah.trans ao) (Ai (hs.sub (ssk (ssc (ssc ssr)))) bh))) (Nat.lt_succ_self _)))
    ·rw [if_neg aq] at H
     refine W_exit (a9 _ _ (a7 _ _ <| Wr fun ch bi => Mv rfl <| As rfl <| Ox bi <| W_ret ?_))
     obtain rfl := sinj H
     exact r1 rfl ⟨_, _, _, rfl, (ap.trans ah), (hs.sub (ssc (ssk ssr))), ag⟩
theorem canon_Full.c (k : Nat) : canon_Full.Spec (canon_Full.f k) := by
  induction k with
  | zero => intro w0 w ρ Γ hs v0 x0 h0 x1 r H; exact nomatch (show (none : Option _) = some _ from H)
  | succ k ih => intro w0 w ρ Γ hs v0 x0 h0 x1 r H; exact canon_Full.cb (canon_Full.f k) ih hs h0 H

def canon_parts.l1 : Nat → Option Tbs → List Int → List Int → Int → Option (List Int)
  | 0, _, _, _, _ => none
  | ae + 1, x0, x1, aa, ab => if ab < (x1.length : Int) then (if (0 : Int) ≤ ab ∧ ab < (x1.length : Int) then ((canon_Full.f K0 x0 (rd x1 ab)).bind fun ak => (if aa.length + ak.length ≤ most then ((canon_parts.l1 ae x0 x1) (aa ++ ak) (IntKind.i64.wrap (ab + 1))) else none)) else none) else (some aa)
def canon_parts.f (x0 : Option Tbs) (x1 : List Int) : Option (List Int) := canon_parts.l1 K0 x0 x1 ([] : List Int) 0
theorem canon_parts.c (hs : St w0 ρ (Γ) w) {v0 : Value} {x0 : Option Tbs} (h0 : PtrR rTbs ρ v0 x0) {v1 : Value} {x1 : List Int} (h1 : SlR (Rep.int .i32) ρ v1 x1) {r : List Int} (H : canon_parts.f x0 x1 = some r) : CallsR Tryz.prog 136 [v0, v1] w (fun v w' => ∃ (ρ' : Hp) (v0 : Value) (cs0 : List Value), v = v0 ∧ Le ρ ρ' ∧ St w0 ρ' (.row v0 21 (Rep.int .i32).sz r.length cs0 :: Γ) w' ∧ RowR (Rep.int .i32) ρ' cs0 r) := by
  rw [canon_parts.f] at H
  refine Et Tryz.func136 Tryz.ntmps136 rfl <| Wr fun ba aq => As rfl <| Ox aq <| Wr fun bb ar => As rfl ?_
  have hs := hs.rowNil 21 (Rep.int .i32).sz
  have au := RowR.nil (Rep.int .i32) ρ
  refine Ox ar <| W_seq fun bc av => Wr fun bd aw => Mv rfl <| O_y rfl (Y_lenR un28 h1 rfl) <| Mv rfl <| Ox aw <| W_block fun be ax bf => W_loop (σ := Nat × List Int × Int × Value × List Value × Hp) (fun (ae, aa, ab, ac, ad, ah) => [(0, v0), (5, ac), (8, v1), (9, .int .i64 (x1.length : Int)), (10, .int .i64 ab)]) (fun (ae, aa, ab, ac, ad, ah) w => canon_parts.l1 ae x0 x1 aa ab = some r ∧ Le ρ ah ∧ St w0 ah ((.row ac 21 ((Rep.int .i32).sz) aa.length ad) :: Γ) w ∧ RowR (Rep.int .i32) ah ad aa) (fun s => s.1) (K0, ([] : List Int), 0, (.slice none 0 0), ([]), ρ) sbn (Ai H (Ai (Le.rfl' _) (Ai hs au))) ?_
  rintro ⟨ae, aa, ab, ac, ad, ah⟩ w bg ⟨H, ag, hs, af⟩ ai
  show W _ _ _ _ _ _ [(0, v0), (5, ac), (8, v1), (9, .int .i64 (x1.length : Int)), (10, .int .i64 ab)] w
  cases ae with
  | zero => rw [canon_parts.l1] at H; cases H
  | succ ae =>
  rw [canon_parts.l1] at H
  refine Wr fun bh ay => Ols rfl <| Ox ay <| W_seq fun bi az => W_if rfl (fun al => ?_) (fun al => ?_)
  ·rw [if_pos al] at H
   refine Wx az <| W_seq fun bj a0 => W_block fun bk bl bm => W_seq fun bn a1 => W_region ?_
   obtain ⟨ao, H⟩ := gd H
   obtain ⟨bo, bp, a2, a3⟩ := (h1.mono ag).ix el28 ao.1 ao.2
   refine O_y rfl (a3 rfl rfl) <| O_y rfl (Y_load ag21 rfl (hs.see a2.int)) <| As rfl <| Ox a1 <| W_region <| Mv rfl <| Mv rfl <| Mv rfl ?_
   obtain ⟨ak, am, H⟩ := bnd H
   refine Oc rfl ((canon_Full.c K0) hs (h0.mono ag) am) (fun bq w hpost => ?_)
   obtain ⟨a4, br, a5, rfl, aj, hs, ap⟩ := hpost
   obtain ⟨a6, H⟩ := gd H
   refine O_appendR (i := 1) el28 hs rfl (af.mono aj) rfl rfl rfl (Src.lit (j := 0) hs rfl ap) ap a6 (fun a7 an w a8 hs => As rfl <| Ox a0 <| W_region <| Oad rfl <| Mv rfl <| O_nil (ai (ae, (aa ++ ak), (IntKind.i64.wrap (ab + 1)), a7, an, a4) _ _ sbn (Ai H (Ai (ag.trans aj) (Ai (hs.sub (ssk (ssc ssr))) a8))) (Nat.lt_succ_self _)))
  ·rw [if_neg al] at H
   refine W_exit (ax _ _ (av _ _ <| Wr fun bs a9 => Mv rfl <| As rfl <| Ox a9 <| W_ret ?_))
   obtain rfl := sinj H
   exact r1 rfl ⟨_, _, _, rfl, ag, hs, af⟩

def canon_Decompose.f (x0 : Option Tbs) (x1 : List Int) : Option (List Int) := (canon_parts.f x0 x1).bind fun af => ((canon_Order.f x0 af).bind fun ag => (some ag))
theorem canon_Decompose.c (hs : St w0 ρ (Γ) w) {v0 : Value} {x0 : Option Tbs} (h0 : PtrR rTbs ρ v0 x0) {v1 : Value} {x1 : List Int} (h1 : SlR (Rep.int .i32) ρ v1 x1) {r : List Int} (H : canon_Decompose.f x0 x1 = some r) : CallsR Tryz.prog 80 [v0, v1] w (fun v w' => ∃ (ρ' : Hp) (v0 : Value) (cs0 : List Value), v = v0 ∧ Le ρ ρ' ∧ St w0 ρ' (.row v0 21 (Rep.int .i32).sz r.length cs0 :: Γ) w' ∧ RowR (Rep.int .i32) ρ' cs0 r) := by
  rw [canon_Decompose.f] at H
  refine Et Tryz.func80 Tryz.ntmps80 rfl <| Wr fun ao ah => As rfl <| Ox ah <| Wr fun ap ai => Mv rfl <| Mv rfl <| Mv rfl ?_
  obtain ⟨af, ac, H⟩ := bnd H
  refine Oc rfl (canon_parts.c hs h0 h1 ac) (fun aq w hpost => ?_)
  obtain ⟨ar, au, aj, rfl, aa, hs, ak⟩ := hpost
  obtain ⟨av, ab, hs, al⟩ := hs.rowEnd (j := 0) ak rfl
  obtain ⟨ag, ad, H⟩ := bnd H
  refine Oc rfl (canon_Order.c hs (h0.mono (aa.trans ab)) al ad) (fun aw w hpost => ?_)
  obtain ⟨ax, ay, am, rfl, ae, hs, an⟩ := hpost
  refine As rfl <| Ox ai <| W_ret ?_
  obtain rfl := sinj H
  exact r1 rfl ⟨_, _, _, rfl, ((aa.trans ab).trans ae), hs, an⟩

end Go.Proofs.YthoicbafdanmkaaGreatDoor
/- Written by this repo's gen.py: for each Go function a Lean function with the same answers and the walk that shows it. -/
namespace Go.Proofs.YthoicbafdanmkaaGreatDoor
open Go.RowKit
set_option maxRecDepth 100000
set_option maxHeartbeats 4000000
variable {w0 w : World} {ρ : Hp} {Γ : List Item}
set_option linter.unusedVariables false
def label_Coded.j1 (aa : Bool) : Option Bool := some aa
def label_Coded.f (x0 : List Int) : Option Bool := if 4 ≤ (x0.length : Int) then (if (0 : Int) ≤ 0 ∧ (0 : Int) ≤ 4 ∧ 4 ≤ (x0.length : Int) then (label_Coded.j1 (decide ((runesBytes (sub x0 0 4)) = (⟨#[120, 110, 45, 45]⟩ : ByteArray)))) else none) else (label_Coded.j1 false)
theorem label_Coded.c (hs : St w0 ρ (Γ) w) {v0 : Value} {x0 : List Int} (h0 : SlR (Rep.int .i32) ρ v0 x0) {r : Bool} (H : label_Coded.f x0 = some r) : CallsR Tryz.prog 16 [v0] w (fun v w' => v = .bool r ∧ St w0 ρ Γ w') := by
  rw [label_Coded.f] at H
  refine Et Tryz.func16 Tryz.ntmps16 rfl <| Wr fun ak af => As rfl <| Ox af <| W_seqj fun ag ah ad => ?_
  have ae : ∀ (aa : Bool) (w : World), label_Coded.j1 aa = some r → St w0 ρ (Γ) w → ag [(2, .bool aa)] w := by
   intro aa w H hs
   rw [label_Coded.j1] at H
   refine ah _ _ <| W_ret ?_
   obtain rfl := sinj H
   exact r1 rfl ⟨rfl, hs⟩
  refine W_region <| Mv rfl <| O_y rfl (Y_lenR un28 h0 rfl) <| Oge rfl <| Mv rfl <| O_if (dj := 6) rfl (fun ab => ?_) (fun ab => ?_)
  ·rw [if_pos ab] at H
   refine Oe rfl <| Mv rfl ?_
   obtain ⟨ac, H⟩ := gd H
   obtain ⟨al, ai, aj⟩ := h0.cut el28 ac.1 ac.2.1 ac.2.2
   refine Oe rfl <| O_y rfl (aj rfl (.inl ⟨rfl, rfl⟩) (.inr ⟨_, _, rfl, rfl⟩)) <| Oe rfl <| O_y rfl (Y_srunes un28 un21 un9 hs ai rfl) <| Oe rfl <| O_y rfl (Y_eqls rfl rfl) <| Opk rfl <| As rfl <| O_nil (ad _ _ _ (S1 rfl) (ae (decide ((runesBytes (sub x0 0 4)) = (⟨#[120, 110, 45, 45]⟩ : ByteArray))) _ H hs))
  ·rw [if_neg ab] at H
   refine On rfl <| On rfl <| On rfl <| On rfl <| Opk rfl <| As rfl <| O_nil (ad _ _ _ (S1 rfl) (ae false _ H hs))

def book_Tables_Pair.f (x0 : Option Tbs) (x1 x2 : Int) : Option (Int × Bool) := if ((x0).isNone) = true then (some (0, false)) else (if x0.isSome = true then (some ((mget (((x0).getD default).pairs) (#v[x1, x2])).getD 0, (mget (((x0).getD default).pairs) (#v[x1, x2])).isSome)) else none)
theorem book_Tables_Pair.c (hs : St w0 ρ (Γ) w) {v0 : Value} {x0 : Option Tbs} (h0 : PtrR rTbs ρ v0 x0) {x1 x2 : Int} {r : Int × Bool} (H : book_Tables_Pair.f x0 x1 x2 = some r) : CallsR Tryz.prog 164 [v0, .int .i32 x1, .int .i32 x2] w (fun v w' => v = .tuple #[.int .i32 r.1, .bool r.2] ∧ St w0 ρ Γ w') := by
  rw [book_Tables_Pair.f] at H
  refine Et Tryz.func164 Tryz.ntmps164 rfl <| Wr fun ay af => As rfl <| As rfl <| Ox af <| W_seq fun az ag => Wr fun a0 ah => Mv rfl <| O_y rfl ((h0.eqn un29 rfl rfl)) <| Ox ah <| W_cond rfl (fun aa => ?_) (fun aa => ?_)
  ·rw [if_pos aa] at H
   refine Wr fun a1 ai => As rfl <| As rfl <| Ox ai <| W_ret ?_
   obtain rfl := sinj H
   exact ret2 rfl rfl rfl ⟨rfl, hs⟩
  ·rw [if_neg (bft aa)] at H
   refine Wx ag <| Wr fun a2 aj => Mv rfl ?_
   obtain ⟨ak, H⟩ := gd H
   obtain ⟨a3, ab, al⟩ := h0.open ak
   obtain ⟨_, ⟨a4, a5, a6, a7, a8, a9, ba, bb, bc, bd, be, bf, bg, bh, bi, bj, bk, am, an, ao, ap, aq, rfl, bl, bm, bn, bo, bp, bq, br, bs, bt, bu, bv, bw, bx, bz, b0, b1, b2, ar, au, av, aw, ac⟩, ad⟩ := al
   refine O_y rfl (Y_nilp (congrArg some ab)) <| Ofd fo114_11 rfl <| O_y rfl (Y_load ag112 rfl (hs.see (ad 21 _ rfl))) <| Mv rfl <| Mv rfl <| O_y rfl (Y_buildArr (xs := [.tmp 17, .tmp 18]) (zs := vcs (Value.int .i32) #v[x1, x2]) un115 sz21 zl115 rfl rfl rfl (sz1_cons rfl (sz1_cons rfl sz1_nil)) rfl) <| O_y rfl (Y_mapGetR (m := ((x0).getD default).pairs) (x := #v[x1, x2]) (E := (Value.int .i32)) true un112 kv115 trivial (fun _ _ => trivial) zv21 hs ac rfl rfl) <| Mv rfl <| Oxt rfl <| Oxt rfl <| As rfl <| As rfl <| Ox aj <| W.weak [(8, _), (9, _)] (T2 rfl) ?_
   refine Wr fun ax ae => Mv rfl <| Mv rfl <| As rfl <| As rfl <| Ox ae <| W_ret ?_
   obtain rfl := sinj H
   exact ret2 rfl rfl rfl ⟨rfl, hs⟩

def compose_Pair.j1 (x0 : Option Tbs) (x1 x2 : Int) (aa : Bool) : Option (Int × Bool) := if aa = true then (some (IntKind.i32.wrap ((IntKind.i32.wrap (x1 + x2)) - 4519), true)) else ((book_Tables_Pair.f x0 x1 x2).bind fun ag => (some (ag.1, ag.2)))
def compose_Pair.j2 (x0 : Option Tbs) (x1 x2 : Int) (ab : Bool) : Option (Int × Bool) := if ab = true then (some (IntKind.i32.wrap (44032 + (IntKind.i32.wrap ((IntKind.i32.wrap ((IntKind.i32.wrap ((IntKind.i32.wrap ((IntKind.i32.wrap (x1 - 4352)) * 21)) + x2)) - 4449)) * 28))), true)) else (if 44032 ≤ x1 then (if x1 < 55204 then (if ((IntKind.i32.wrap (x1 - 44032)).tmod 28) = 0 then (if 4519 < x2 then (compose_Pair.j1 x0 x1 x2 (decide (x2 < 4547))) else (compose_Pair.j1 x0 x1 x2 false)) else (compose_Pair.j1 x0 x1 x2 false)) else (compose_Pair.j1 x0 x1 x2 false)) else (compose_Pair.j1 x0 x1 x2 false))
def compose_Pair.f (x0 : Option Tbs) (x1 x2 : Int) : Option (Int × Bool) := if 4352 ≤ x1 then (if x1 < 4371 then (if 4449 ≤ x2 then (compose_Pair.j2 x0 x1 x2 (decide (x2 < 4470))) else (compose_Pair.j2 x0 x1 x2 false)) else (compose_Pair.j2 x0 x1 x2 false)) else (compose_Pair.j2 x0 x1 x2 false)
theorem compose_Pair.c (hs : St w0 ρ (Γ) w) {v0 : Value} {x0 : Option Tbs} (h0 : PtrR rTbs ρ v0 x0) {x1 x2 : Int} {r : Int × Bool} (H : compose_Pair.f x0 x1 x2 = some r) : CallsR Tryz.prog 134 [v0, .int .i32 x1, .int .i32 x2] w (fun v w' => v = .tuple #[.int .i32 r.1, .bool r.2] ∧ St w0 ρ Γ w') := by
  rw [compose_Pair.f] at H
  refine Et Tryz.func134 Tryz.ntmps134 rfl <| Wr fun a2 ar => As rfl <| As rfl <| Ox ar <| W_seq fun a3 au => W_block fun a4 a5 a6 => W_seqj fun av aw ae => ?_
  have af : ∀ (ab : Bool) (w : World), compose_Pair.j2 x0 x1 x2 ab = some r → St w0 ρ (Γ) w → av [(0, v0), (1, .int .i32 x1), (2, .int .i32 x2), (8, .bool ab)] w := by
   intro ab w H hs
   rw [compose_Pair.j2] at H
   refine aw _ _ <| W_cond rfl (fun ah => ?_) (fun ah => ?_)
   ·rw [if_pos ah] at H
    refine Wr fun a7 ax => Mv rfl <| Osu rfl <| Oml rfl <| Mv rfl <| Oad rfl <| Osu rfl <| Oml rfl <| Oad rfl <| As rfl <| As rfl <| Ox ax <| W_ret ?_
    obtain rfl := sinj H
    exact ret2 rfl rfl rfl ⟨rfl, hs⟩
   ·rw [if_neg (bft ah)] at H
    refine W_seqj fun ay az ac => ?_
    have ad : ∀ (aa : Bool) (w : World), compose_Pair.j1 x0 x1 x2 aa = some r → St w0 ρ (Γ) w → ay [(0, v0), (1, .int .i32 x1), (2, .int .i32 x2), (31, .bool aa)] w := by
     intro aa w H hs
     rw [compose_Pair.j1] at H
     refine az _ _ <| W_cond rfl (fun ai => ?_) (fun ai => ?_)
     ·rw [if_pos ai] at H
      refine Wr fun a8 a0 => Mv rfl <| Mv rfl <| Oad rfl <| Osu rfl <| As rfl <| As rfl <| Ox a0 <| W_ret ?_
      obtain rfl := sinj H
      exact ret2 rfl rfl rfl ⟨rfl, hs⟩
     ·rw [if_neg (bft ai)] at H
      refine Wx au <| Wr fun a9 a1 => Mv rfl <| Mv rfl <| Mv rfl ?_
      obtain ⟨ag, aj, H⟩ := bnd H
      refine Oc rfl (book_Tables_Pair.c hs h0 aj) (fun ba w hpost => ?_)
      obtain ⟨rfl, hs⟩ := hpost
      refine Oxt rfl <| Oxt rfl <| As rfl <| As rfl <| Ox a1 <| W_ret ?_
      obtain rfl := sinj H
      exact ret2 rfl rfl rfl ⟨rfl, hs⟩
    refine W_region <| Mv rfl <| Oge rfl <| Mv rfl <| O_if (dj := 34) rfl (fun ak => ?_) (fun ak => ?_)
    ·rw [if_pos ak] at H
     refine Oe rfl <| Mv rfl <| Oe rfl <| Ols rfl <| Opk rfl <| Mv rfl <| O_if (dj := 38) rfl (fun al => ?_) (fun al => ?_)
     ·rw [if_pos al] at H
      refine Oe rfl <| Mv rfl <| Oe rfl <| Osu rfl <| Oe rfl <| O_y rfl (Y_rem rfl rfl (by decide)) <| Oe rfl <| Oeq rfl <| Opk rfl <| Mv rfl <| O_if (dj := 44) rfl (fun am => ?_) (fun am => ?_)
      ·rw [if_pos am] at H
       refine Oe rfl <| Mv rfl <| Oe rfl <| Ogt rfl <| Opk rfl <| Mv rfl <| O_if (dj := 48) rfl (fun an => ?_) (fun an => ?_)
       ·rw [if_pos an] at H
        refine Oe rfl <| Mv rfl <| Oe rfl <| Ols rfl <| Opk rfl <| As rfl <| O_nil (ac _ _ _ (T4 rfl) (ad (decide (x2 < 4547)) _ H hs))
       ·rw [if_neg an] at H
        refine On rfl <| On rfl <| Opk rfl <| As rfl <| O_nil (ac _ _ _ (T4 rfl) (ad false _ H hs))
      ·rw [if_neg am] at H
       refine On rfl <| On rfl <| Opk rfl <| Mv rfl <| On rfl <| On rfl <| Opk rfl <| As rfl <| O_nil (ac _ _ _ (T4 rfl) (ad false _ H hs))
     ·rw [if_neg al] at H
      refine On rfl <| On rfl <| On rfl <| On rfl <| Opk rfl <| Mv rfl <| On rfl <| On rfl <| Opk rfl <| Mv rfl <| On rfl <| On rfl <| Opk rfl <| As rfl ?_
      exact O_nil (ac _ _ _ (T4 rfl) (ad false _ H hs))
    ·rw [if_neg ak] at H
     refine On rfl <| On rfl <| Opk rfl <| Mv rfl <| On rfl <| On rfl <| On rfl <| On rfl <| Opk rfl <| Mv rfl <| On rfl <| On rfl <| Opk rfl <| Mv rfl ?_
     refine On rfl <| On rfl <| Opk rfl <| As rfl <| O_nil (ac _ _ _ (T4 rfl) (ad false _ H hs))
  refine W_region <| Mv rfl <| Oge rfl <| Mv rfl <| O_if (dj := 11) rfl (fun ao => ?_) (fun ao => ?_)
  ·rw [if_pos ao] at H
   refine Oe rfl <| Mv rfl <| Oe rfl <| Ols rfl <| Opk rfl <| Mv rfl <| O_if (dj := 15) rfl (fun ap => ?_) (fun ap => ?_)
   ·rw [if_pos ap] at H
    refine Oe rfl <| Mv rfl <| Oe rfl <| Oge rfl <| Opk rfl <| Mv rfl <| O_if (dj := 19) rfl (fun aq => ?_) (fun aq => ?_)
    ·rw [if_pos aq] at H
     refine Oe rfl <| Mv rfl <| Oe rfl <| Ols rfl <| Opk rfl <| As rfl <| O_nil (ae _ _ _ (T4 rfl) (af (decide (x2 < 4470)) _ H hs))
    ·rw [if_neg aq] at H
     refine On rfl <| On rfl <| Opk rfl <| As rfl <| O_nil (ae _ _ _ (T4 rfl) (af false _ H hs))
   ·rw [if_neg ap] at H
    refine On rfl <| On rfl <| Opk rfl <| Mv rfl <| On rfl <| On rfl <| Opk rfl <| As rfl <| O_nil (ae _ _ _ (T4 rfl) (af false _ H hs))
  ·rw [if_neg ao] at H
   refine On rfl <| On rfl <| Opk rfl <| Mv rfl <| On rfl <| On rfl <| Opk rfl <| Mv rfl <| On rfl <| On rfl <| Opk rfl <| As rfl <| O_nil (ae _ _ _ (T4 rfl) (af false _ H hs))

def compose_Compose.j1 (af : List Int → Int → Int → Int → Option (List Int)) (ab : Int) (ah : List Int) (au av : Int) : Option (List Int) := af ah au av (IntKind.i64.wrap (ab + 1))
def compose_Compose.j2 (af : List Int → Int → Int → Int → Option (List Int)) (x1 aa : List Int) (ab an ao : Int) : Option (List Int) := if aa.length + ([rd x1 ab]).length ≤ most then (compose_Compose.j1 af ab (aa ++ ([rd x1 ab])) an ao) else none
def compose_Compose.j3 (af : List Int → Int → Int → Int → Option (List Int)) (x1 aa : List Int) (ac ae ab ar : Int) : Option (List Int) := if ar = 0 then (compose_Compose.j2 af x1 aa ab (aa.length : Int) 0) else (compose_Compose.j2 af x1 aa ab ac (max ae ar))
def compose_Compose.j4 (af : List Int → Int → Int → Int → Option (List Int)) (x0 : Option Tbs) (x1 aa : List Int) (ac ae ab ar : Int) (ak : Bool) : Option (List Int) := if ak = true then (if (0 : Int) ≤ ac ∧ ac < (aa.length : Int) then ((compose_Pair.f x0 (rd aa ac) (rd x1 ab)).bind fun ax => (if ax.2 = true then (compose_Compose.j1 af ab (aa.set ac.toNat ax.1) ac ae) else (compose_Compose.j3 af x1 aa ac ae ab ar ))) else none) else (compose_Compose.j3 af x1 aa ac ae ab ar )
def compose_Compose.j5 (af : List Int → Int → Int → Int → Option (List Int)) (x0 : Option Tbs) (x1 aa : List Int) (ac ae ab ar : Int) (ap : Bool) : Option (List Int) := if 0 ≤ ac then (compose_Compose.j4 af x0 x1 aa ac ae ab ar (!ap)) else (compose_Compose.j4 af x0 x1 aa ac ae ab ar false)
def compose_Compose.l1 : Nat → Option Tbs → List Int → List Int → Int → Int → Int → Option (List Int)
  | 0, _, _, _, _, _, _ => none
  | aj + 1, x0, x1, aa, ac, ae, ab => if ab < (x1.length : Int) then (if (0 : Int) ≤ ab ∧ ab < (x1.length : Int) then ((book_Tables_Class.f x0 (rd x1 ab)).bind fun ar => (if 0 ≤ ac then (if ac < (IntKind.i64.wrap ((aa.length : Int) - 1)) then (compose_Compose.j5 (compose_Compose.l1 aj x0 x1) x0 x1 aa ac ae ab ar (decide (ar ≤ ae))) else (compose_Compose.j5 (compose_Compose.l1 aj x0 x1) x0 x1 aa ac ae ab ar false)) else (compose_Compose.j5 (compose_Compose.l1 aj x0 x1) x0 x1 aa ac ae ab ar false))) else none) else (some aa)
def compose_Compose.f (x0 : Option Tbs) (x1 : List Int) : Option (List Int) := compose_Compose.l1 K0 x0 x1 ([] : List Int) (-1) 0 0
theorem compose_Compose.c (hs : St w0 ρ (Γ) w) {v0 : Value} {x0 : Option Tbs} (h0 : PtrR rTbs ρ v0 x0) {v1 : Value} {x1 : List Int} (h1 : SlR (Rep.int .i32) ρ v1 x1) {r : List Int} (H : compose_Compose.f x0 x1 = some r) : CallsR Tryz.prog 79 [v0, v1] w (fun v w' => ∃ (ρ' : Hp) (v0 : Value) (cs0 : List Value), v = v0 ∧ Le ρ ρ' ∧ St w0 ρ' (.row v0 21 (Rep.int .i32).sz r.length cs0 :: Γ) w' ∧ RowR (Rep.int .i32) ρ' cs0 r) := by
  rw [compose_Compose.f] at H
  refine Et Tryz.func79 Tryz.ntmps79 rfl <| Wr fun da b5 => As rfl <| Ox b5 <| Wr fun db b6 => As rfl ?_
  have hs := hs.rowNil 21 (Rep.int .i32).sz
  have b7 := RowR.nil (Rep.int .i32) ρ
  refine Ox b6 <| Wr fun dc b8 => As rfl <| As rfl <| Ox b8 <| W_seq fun dd b9 => Wr fun de ca => Mv rfl <| O_y rfl (Y_lenR un28 h1 rfl) <| Mv rfl <| Ox ca <| W_block fun df cb dg => ?_
  refine W_loop (σ := Nat × List Int × Int × Int × Int × Value × List Value) (fun (aj, aa, ac, ae, ab, ad, ag) => [(0, v0), (5, ad), (6, .int .i64 ac), (7, .int .i64 ae), (14, v1), (15, .int .i64 (x1.length : Int)), (16, .int .i64 ab)]) (fun (aj, aa, ac, ae, ab, ad, ag) w => compose_Compose.l1 aj x0 x1 aa ac ae ab = some r ∧ St w0 ρ ((.row ad 21 ((Rep.int .i32).sz) aa.length ag) :: Γ) w ∧ RowR (Rep.int .i32) ρ ag aa) (fun s => s.1) (K0, ([] : List Int), (-1), 0, 0, (.slice none 0 0), ([])) sbn (Ai H (Ai hs b7)) ?_
  rintro ⟨aj, aa, ac, ae, ab, ad, ag⟩ w dh ⟨H, hs, ai⟩ a0
  show W _ _ _ _ _ _ [(0, v0), (5, ad), (6, .int .i64 ac), (7, .int .i64 ae), (14, v1), (15, .int .i64 (x1.length : Int)), (16, .int .i64 ab)] w
  cases aj with
  | zero => rw [compose_Compose.l1] at H; cases H
  | succ aj =>
  rw [compose_Compose.l1] at H
  refine Wr fun di cc => Ols rfl <| Ox cc <| W_seq fun dk cd => W_if rfl (fun bh => ?_) (fun bh => ?_)
  ·rw [if_pos bh] at H
   refine Wx cd <| W_seqj fun ce cf b0 => ?_
   have b1 : ∀ (ah : List Int) (au av : Int) (al : Value) (am : List Value) (w : World), compose_Compose.j1 (compose_Compose.l1 aj x0 x1) ab ah au av = some r → St w0 ρ ((.row al 21 ((Rep.int .i32).sz) ah.length am) :: Γ) w → RowR (Rep.int .i32) ρ am ah → ce [(0, v0), (5, al), (6, .int .i64 au), (7, .int .i64 av), (14, v1), (15, .int .i64 (x1.length : Int)), (16, .int .i64 ab)] w := by
    intro ah au av al am w H hs aw
    rw [compose_Compose.j1] at H
    refine cf _ _ <| W_region <| Oad rfl <| Mv rfl <| O_nil (a0 (aj, ah, au, av, (IntKind.i64.wrap (ab + 1)), al, am) _ _ sbn (Ai H (Ai hs aw)) (Nat.lt_succ_self _))
   refine W_block fun dl cg dm => W_seq fun dn ch => W_region ?_
   obtain ⟨b2, H⟩ := gd H
   obtain ⟨dp, dq, ci, cj⟩ := h1.ix el28 b2.1 b2.2
   refine O_y rfl (cj rfl rfl) <| O_y rfl (Y_load ag21 rfl (hs.see ci.int)) <| As rfl <| Ox ch <| Wr fun dr ck => Mv rfl <| Mv rfl ?_
   obtain ⟨ar, bi, H⟩ := bnd H
   refine Oc rfl (book_Tables_Class.c hs h0 bi) (fun ds w hpost => ?_)
   obtain ⟨rfl, hs⟩ := hpost
   refine As rfl <| Ox ck <| W.weak [(0, _), (5, _), (6, _), (7, _), (9, _), (10, _), (14, _), (15, _), (16, _)] sbn ?_
   refine W_seqj fun cl cm bj => ?_
   have bk : ∀ (ap : Bool) (w : World), compose_Compose.j5 (compose_Compose.l1 aj x0 x1) x0 x1 aa ac ae ab ar ap = some r → St w0 ρ ((.row ad 21 ((Rep.int .i32).sz) aa.length ag) :: Γ) w → cl [(0, v0), (5, ad), (6, .int .i64 ac), (7, .int .i64 ae), (9, .int .i32 (rd x1 ab)), (10, .int .i64 ar), (11, .bool ap), (14, v1), (15, .int .i64 (x1.length : Int)), (16, .int .i64 ab)] w := by
    intro ap w H hs
    rw [compose_Compose.j5] at H
    refine cm _ _ <| W_seqj fun cn co b3 => ?_
    have a7 : ∀ (w : World), compose_Compose.j3 (compose_Compose.l1 aj x0 x1) x1 aa ac ae ab ar = some r → St w0 ρ ((.row ad 21 ((Rep.int .i32).sz) aa.length ag) :: Γ) w → cn [(0, v0), (5, ad), (6, .int .i64 ac), (7, .int .i64 ae), (9, .int .i32 (rd x1 ab)), (10, .int .i64 ar), (14, v1), (15, .int .i64 (x1.length : Int)), (16, .int .i64 ab)] w := by
     intro w H hs
     rw [compose_Compose.j3] at H
     refine co _ _ <| Wr fun cp bl => Mv rfl <| Mv rfl <| O_y rfl (Y_max rfl rfl) <| As rfl <| Ox bl <| W_seqj fun bm bn a8 => ?_
     have a9 : ∀ (an ao : Int) (w : World), compose_Compose.j2 (compose_Compose.l1 aj x0 x1) x1 aa ab an ao = some r → St w0 ρ ((.row ad 21 ((Rep.int .i32).sz) aa.length ag) :: Γ) w → bm [(0, v0), (5, ad), (6, .int .i64 an), (7, .int .i64 ao), (9, .int .i32 (rd x1 ab)), (14, v1), (15, .int .i64 (x1.length : Int)), (16, .int .i64 ab)] w := by
      intro an ao w H hs
      rw [compose_Compose.j2] at H
      refine bn _ _ <| W_region <| Mv rfl <| Mv rfl <| O_lit2 (xs := [.tmp 66]) (cs := [.int .i32 (rd x1 ab)]) el28 hs rfl rfl rfl (by decide) (by decide) rfl (sz_cons rfl sz_nil) (flat_cons rfl flat_nil) (fun cq w hs => ?_)
      have ba : RowR (Rep.int .i32) ρ ([.int .i32 (rd x1 ab)]) [rd x1 ab] := RowR.cons (c := [.int .i32 (rd x1 ab)]) (x := rd x1 ab) rfl (RowR.nil _ _)
      obtain ⟨bo, H⟩ := gd H
      refine O_appendR (i := 1) el28 hs rfl ai rfl rfl rfl (Src.lit (j := 0) hs rfl ba) ba bo (fun bp bb w bq hs => As rfl <| O_nil (b0 _ _ _ sbn (b1 (aa ++ ([rd x1 ab])) an ao bp bb _ H (hs.sub (ssk (ssc ssr))) bq)))
     refine Wr fun cr br => Mv rfl <| Oeq rfl <| Ox br <| W_if rfl (fun a1 => ?_) (fun a1 => ?_)
     ·rw [if_pos a1] at H
      refine W_region <| Mv rfl <| O_y rfl (Y_lenRow (i := 0) un28 hs rfl rfl) <| As rfl <| As rfl <| O_nil (a8 _ _ _ sbn (a9 (aa.length : Int) 0 _ H hs))
     ·rw [if_neg a1] at H
      exact W_skip (a8 _ _ _ sbn (a9 ac (max ae ar) _ H hs))
    refine W_seqj fun bs bt bc => ?_
    have bd : ∀ (ak : Bool) (w : World), compose_Compose.j4 (compose_Compose.l1 aj x0 x1) x0 x1 aa ac ae ab ar ak = some r → St w0 ρ ((.row ad 21 ((Rep.int .i32).sz) aa.length ag) :: Γ) w → bs [(0, v0), (5, ad), (6, .int .i64 ac), (7, .int .i64 ae), (9, .int .i32 (rd x1 ab)), (10, .int .i64 ar), (14, v1), (15, .int .i64 (x1.length : Int)), (16, .int .i64 ab), (42, .bool ak)] w := by
     intro ak w H hs
     rw [compose_Compose.j4] at H
     refine bt _ _ <| W_cond rfl (fun a2 => ?_) (fun a2 => ?_)
     ·rw [if_pos a2] at H
      refine Wr fun ct bu => Mv rfl <| Mv rfl <| Mv rfl ?_
      obtain ⟨aq, H⟩ := gd H
      obtain ⟨cu, ay⟩ := hs.rowBlock (j := 0) rfl (by have := aq.2; omega)
      obtain ⟨_, rfl, be⟩ := ai.at aq.1 aq.2
      refine O_y rfl (Y_ixRow (j := 0) el28 hs rfl ay rfl rfl aq.1 aq.2) <| O_y rfl (Y_load ag21 rfl (hs.rowCell (j := 0) rfl ay (be 0 _ rfl))) <| Mv rfl ?_
      obtain ⟨ax, bf, H⟩ := bnd H
      refine Oc rfl (compose_Pair.c hs h0 bf) (fun cv w hpost => ?_)
      obtain ⟨rfl, hs⟩ := hpost
      refine Mv rfl <| Oxt rfl <| Oxt rfl <| As rfl <| As rfl <| Ox bu <| W.weak [(0, _), (5, _), (6, _), (7, _), (9, _), (10, _), (12, _), (13, _), (14, _), (15, _), (16, _)] sbn ?_
      refine Wr fun cw bv => Mv rfl <| Ox bv <| W_cond rfl (fun a3 => ?_) (fun a3 => ?_)
      ·rw [if_pos a3] at H
       refine Wr fun cx bw => Mv rfl <| Mv rfl <| Mv rfl ?_
       obtain ⟨cy, az⟩ := hs.rowBlock (j := 0) rfl (by have := aq.2; omega)
       obtain ⟨_, rfl, b4⟩ := ai.at aq.1 aq.2
       refine O_y rfl (Y_ixRow (j := 0) el28 hs rfl az rfl rfl aq.1 aq.2) <| O_storeRowR (j := 0) sz21 hs rfl az aq.1 aq.2 ai rfl rfl rfl (fun bg w bx hs => Ox bw <| W.weak [(0, _), (5, _), (6, _), (7, _), (14, _), (15, _), (16, _)] sbn ?_)
       exact W_exit (cg _ _ (b0 _ _ _ sbn (b1 (aa.set ac.toNat ax.1) ac ae ad bg _ H hs bx)))
      ·rw [if_neg (bft a3)] at H
       exact W_skip (b3 _ _ _ sbn (a7 _ H hs))
     ·rw [if_neg (bft a2)] at H
      exact W_skip (b3 _ _ _ sbn (a7 _ H hs))
    refine W_region <| Mv rfl <| Oge rfl <| Mv rfl <| O_if (dj := 39) rfl (fun a4 => ?_) (fun a4 => ?_)
    ·rw [if_pos a4] at H
     refine Oe rfl <| Mv rfl <| Oe rfl <| Ont rfl <| Opk rfl <| O_nil (bc _ _ _ sbn (bd (!ap) _ H hs))
    ·rw [if_neg a4] at H
     refine On rfl <| On rfl <| Opk rfl <| O_nil (bc _ _ _ sbn (bd false _ H hs))
   refine W_region <| Mv rfl <| Oge rfl <| Mv rfl <| O_if (dj := 25) rfl (fun a5 => ?_) (fun a5 => ?_)
   ·rw [if_pos a5] at H
    refine Oe rfl <| Mv rfl <| Oe rfl <| Mv rfl <| Oe rfl <| O_y rfl (Y_lenRow (i := 0) un28 hs rfl rfl) <| Oe rfl <| Osu rfl <| Oe rfl <| Ols rfl <| Opk rfl <| Mv rfl <| O_if (dj := 32) rfl (fun a6 => ?_) (fun a6 => ?_)
    ·rw [if_pos a6] at H
     refine Oe rfl <| Mv rfl <| Oe rfl <| Mv rfl <| Oe rfl <| Oge rfl <| Opk rfl <| As rfl <| O_nil (bj _ _ _ sbn (bk (decide (ar ≤ ae)) _ H hs))
    ·rw [if_neg a6] at H
     refine On rfl <| On rfl <| On rfl <| Opk rfl <| As rfl <| O_nil (bj _ _ _ sbn (bk false _ H hs))
   ·rw [if_neg a5] at H
    refine On rfl <| On rfl <| On rfl <| On rfl <| On rfl <| Opk rfl <| Mv rfl <| On rfl <| On rfl <| On rfl <| Opk rfl <| As rfl <| O_nil (bj _ _ _ sbn (bk false _ H hs))
  ·rw [if_neg bh] at H
   refine W_exit (cb _ _ (b9 _ _ <| Wr fun cz bz => Mv rfl <| As rfl <| Ox bz <| W_ret ?_))
   obtain rfl := sinj H
   exact r1 rfl ⟨_, _, _, rfl, Le.rfl' _, hs, ai⟩

def compose_Normal.f (x0 : Option Tbs) (x1 : List Int) : Option (List Int) := (canon_Decompose.f x0 x1).bind fun af => ((compose_Compose.f x0 af).bind fun ag => (some ag))
theorem compose_Normal.c (hs : St w0 ρ (Γ) w) {v0 : Value} {x0 : Option Tbs} (h0 : PtrR rTbs ρ v0 x0) {v1 : Value} {x1 : List Int} (h1 : SlR (Rep.int .i32) ρ v1 x1) {r : List Int} (H : compose_Normal.f x0 x1 = some r) : CallsR Tryz.prog 44 [v0, v1] w (fun v w' => ∃ (ρ' : Hp) (v0 : Value) (cs0 : List Value), v = v0 ∧ Le ρ ρ' ∧ St w0 ρ' (.row v0 21 (Rep.int .i32).sz r.length cs0 :: Γ) w' ∧ RowR (Rep.int .i32) ρ' cs0 r) := by
  rw [compose_Normal.f] at H
  refine Et Tryz.func44 Tryz.ntmps44 rfl <| Wr fun ao ah => As rfl <| Ox ah <| Wr fun ap ai => Mv rfl <| Mv rfl <| Mv rfl ?_
  obtain ⟨af, ac, H⟩ := bnd H
  refine Oc rfl (canon_Decompose.c hs h0 h1 ac) (fun aq w hpost => ?_)
  obtain ⟨ar, au, aj, rfl, aa, hs, ak⟩ := hpost
  obtain ⟨av, ab, hs, al⟩ := hs.rowEnd (j := 0) ak rfl
  obtain ⟨ag, ad, H⟩ := bnd H
  refine Oc rfl (compose_Compose.c hs (h0.mono (aa.trans ab)) al ad) (fun aw w hpost => ?_)
  obtain ⟨ax, ay, am, rfl, ae, hs, an⟩ := hpost
  refine As rfl <| Ox ai <| W_ret ?_
  obtain rfl := sinj H
  exact r1 rfl ⟨_, _, _, rfl, ((aa.trans ab).trans ae), hs, an⟩

def slices_Equal_rune_rune.l1 : Nat → List Int → List Int → Int → Option Bool
  | 0, _, _, _ => none
  | ab + 1, x0, x1, aa => if aa < (x0.length : Int) then (if (0 : Int) ≤ aa ∧ aa < (x0.length : Int) then (if (0 : Int) ≤ aa ∧ aa < (x1.length : Int) then (if (rd x0 aa) ≠ (rd x1 aa) then (some false) else ((slices_Equal_rune_rune.l1 ab x0 x1) (IntKind.i64.wrap (aa + 1)))) else none) else none) else (some true)
def slices_Equal_rune_rune.f (x0 x1 : List Int) : Option Bool := if (x0.length : Int) ≠ (x1.length : Int) then (some false) else (slices_Equal_rune_rune.l1 K0 x0 x1 0)
theorem slices_Equal_rune_rune.c (hs : St w0 ρ (Γ) w) {v0 : Value} {x0 : List Int} (h0 : SlR (Rep.int .i32) ρ v0 x0) {v1 : Value} {x1 : List Int} (h1 : SlR (Rep.int .i32) ρ v1 x1) {r : Bool} (H : slices_Equal_rune_rune.f x0 x1 = some r) : CallsR Tryz.prog 43 [v0, v1] w (fun v w' => v = .bool r ∧ St w0 ρ Γ w') := by
  rw [slices_Equal_rune_rune.f] at H
  refine Et Tryz.func43 Tryz.ntmps43 rfl <| Wr fun a2 ai => As rfl <| Ox ai <| W_seq fun a3 aj => Wr fun a4 ak => Mv rfl <| O_y rfl (Y_lenR un28 h0 rfl) <| Mv rfl <| O_y rfl (Y_lenR un28 h1 rfl) <| One rfl <| O_nil (ak _ _ ?_)
  refine W_if rfl (fun ad => ?_) (fun ad => ?_)
  ·rw [if_pos ad] at H
   refine Wr fun a5 al => As rfl <| Ox al <| W_ret ?_
   obtain rfl := sinj H
   exact r1 rfl ⟨rfl, hs⟩
  ·rw [if_neg ad] at H
   refine Wx aj <| W_seq fun a6 am => Wr fun a7 an => Mv rfl <| O_y rfl (Y_lenR un28 h0 rfl) <| Mv rfl <| Ox an <| W_block fun a8 ao a9 => W_loop (σ := Nat × Int) (fun (ab, aa) => [(0, v0), (1, v1), (12, .int .i64 (x0.length : Int)), (13, .int .i64 aa)]) (fun (ab, aa) w => slices_Equal_rune_rune.l1 ab x0 x1 aa = some r ∧ St w0 ρ (Γ) w) (fun s => s.1) (K0, 0) (T4 rfl) (Ai H hs) ?_
   rintro ⟨ab, aa⟩ w ba ⟨H, hs⟩ ac
   show W _ _ _ _ _ _ [(0, v0), (1, v1), (12, .int .i64 (x0.length : Int)), (13, .int .i64 aa)] w
   cases ab with
   | zero => rw [slices_Equal_rune_rune.l1] at H; cases H
   | succ ab =>
   rw [slices_Equal_rune_rune.l1] at H
   refine Wr fun bb ap => Ols rfl <| Ox ap <| W_seq fun bc aq => W_if rfl (fun ae => ?_) (fun ae => ?_)
   ·rw [if_pos ae] at H
    refine Wx aq <| W_seq fun bd ar => W_block fun be bf bg => Wr fun bh au => Mv rfl <| As rfl <| Ox au <| W_seq fun bi av => W_drawS 9 [0, 0, 3, 4, 0, 0, 48, 64, 136] [506, 505, 496, 240, 431, 415, 271, 15, 0] [0, 0, 3, 7, 0, 0, 48, 112, 255] [] (fun w => St w0 ρ (Γ) w) mixed (by kernel_rfl) (fun sh => ?_)
    have hs := hs.drew
    refine Fm 0 sh rfl <| Fm 1 sh rfl ?_
    obtain ⟨ag, H⟩ := gd H
    obtain ⟨bj, bk, aw, ax⟩ := h0.ix el28 ag.1 ag.2
    refine Fp 2 sh rfl (fun w => ax rfl rfl) <| Fy 3 sh rfl hs (fun w hs => Y_load ag21 rfl (hs.see aw.int)) <| Fm 4 sh rfl <| Fm 5 sh rfl ?_
    obtain ⟨ah, H⟩ := gd H
    obtain ⟨bl, bm, ay, az⟩ := h1.ix el28 ah.1 ah.2
    refine Fp 6 sh rfl (fun w => az rfl rfl) <| Fy 7 sh rfl hs (fun w hs => Y_load ag21 rfl (hs.see ay.int)) <| Fp 8 sh rfl (fun w => Y_neq rfl rfl) <| FE sh (av _ _ <| W.weak [(0, _), (1, _), (12, _), (13, _), (24, _)] sbn ?_)
    refine W_if rfl (fun af => ?_) (fun af => ?_)
    ·rw [if_pos af] at H
     refine Wr fun bn a0 => As rfl <| Ox a0 <| W_ret ?_
     obtain rfl := sinj H
     exact r1 rfl ⟨rfl, hs⟩
    ·rw [if_neg af] at H
     refine Wx ar <| W_region <| Oad rfl <| Mv rfl <| O_nil (ac (ab, (IntKind.i64.wrap (aa + 1))) _ _ (T4 rfl) (Ai H hs) (Nat.lt_succ_self _))
   ·rw [if_neg ae] at H
    refine W_exit (ao _ _ (am _ _ <| Wr fun bo a1 => As rfl <| Ox a1 <| W_ret ?_))
    obtain rfl := sinj H
    exact r1 rfl ⟨rfl, hs⟩

def compose_Is.f (x0 : Option Tbs) (x1 : List Int) : Option Bool := (compose_Normal.f x0 x1).bind fun ae => ((slices_Equal_rune_rune.f ae x1).bind fun af => (some af))
theorem compose_Is.c (hs : St w0 ρ (Γ) w) {v0 : Value} {x0 : Option Tbs} (h0 : PtrR rTbs ρ v0 x0) {v1 : Value} {x1 : List Int} (h1 : SlR (Rep.int .i32) ρ v1 x1) {r : Bool} (H : compose_Is.f x0 x1 = some r) : CallsR Tryz.prog 23 [v0, v1] w (fun v w' => v = .bool r ∧ St w0 ρ Γ w') := by
  rw [compose_Is.f] at H
  refine Et Tryz.func23 Tryz.ntmps23 rfl <| Wr fun al ag => As rfl <| Ox ag <| Wr fun am ah => Mv rfl <| Mv rfl ?_
  obtain ⟨ae, ac, H⟩ := bnd H
  refine Oc rfl (compose_Normal.c hs h0 h1 ac) (fun an w hpost => ?_)
  obtain ⟨ao, ap, ai, rfl, aa, hs, aj⟩ := hpost
  refine Mv rfl ?_
  obtain ⟨aq, ab, hs, ak⟩ := hs.rowEnd (j := 0) aj rfl
  obtain ⟨af, ad, H⟩ := bnd H
  refine Oc rfl (slices_Equal_rune_rune.c hs ak (h1.mono (aa.trans ab)) ad) (fun ar w hpost => ?_)
  obtain ⟨rfl, hs⟩ := hpost
  refine As rfl <| Ox ah <| W_ret ?_
  obtain rfl := sinj H
  exact r1 rfl ⟨rfl, (hs.less (aa.trans ab))⟩

def label_Faults_1_hil.f (x0 : Int) (x1 : Bool) (y1 : List Int) : Option (List Int) := if x1 = true then (if y1.length + ([x0]).length ≤ most then (some (y1 ++ ([x0]))) else none) else (some y1)
theorem label_Faults_1_hil.c {pb0 : Nat} {w1 : Value} {d1 : List Value} {y1 : List Int} (hs : St w0 ρ ((.box pb0 56 ([w1])) :: (.row w1 3 ((Rep.int .i64).sz) y1.length d1) :: Γ) w) {x0 : Int} {x1 : Bool} (g1 : RowR (Rep.int .i64) ρ d1 y1) {r : List Int} (H : label_Faults_1_hil.f x0 x1 y1 = some r) : CallsR Tryz.prog 36 [.int .i64 x0, .bool x1, .pointer (some ⟨pb0, 0, none⟩)] w (fun v w' => ∃ (ρ' : Hp) (u0 : Value) (ds0 : List Value), v = .tuple #[] ∧ Le ρ ρ' ∧ St w0 ρ' ((.box pb0 56 ([u0])) :: (.row u0 3 ((Rep.int .i64).sz) r.length ds0) :: Γ) w' ∧ RowR (Rep.int .i64) ρ' ds0 r) := by
  rw [label_Faults_1_hil.f] at H
  refine Et Tryz.func36 Tryz.ntmps36 rfl <| Wr fun ag ac => Mv rfl <| Ox ac <| W_cond rfl (fun aa => ?_) (fun aa => ?_)
  ·rw [if_pos aa] at H
   refine W_region <| Obx 0 ag56 hs rfl <| Mv rfl <| O_lit2 (xs := [.tmp 7]) (cs := [.int .i64 x0]) el56 hs rfl rfl rfl (by decide) (by decide) rfl (sz_cons rfl sz_nil) (flat_cons rfl flat_nil) (fun ah w hs => ?_)
   have ab : RowR (Rep.int .i64) ρ ([.int .i64 x0]) [x0] := RowR.cons (c := [.int .i64 x0]) (x := x0) rfl (RowR.nil _ _)
   obtain ⟨ad, H⟩ := gd H
   refine O_appendR (i := 2) el56 hs rfl g1 rfl rfl rfl (Src.lit (j := 0) hs rfl ab) ab ad (fun ai ae w af hs => O_store (i := 1) sz56 hs rfl rfl rfl rfl (St.rowOne hs (j := 2) rfl) (fun w hs => O_nil ?_))
   obtain rfl := sinj H
   exact ret0 rfl ⟨_, _, _, rfl, Le.rfl' _, (hs.sub (ssk (ssc (ssc ssr)))), af⟩
  ·rw [if_neg (bft aa)] at H
   refine W_skip ?_
   obtain rfl := sinj H
   exact ret0 rfl ⟨_, _, _, rfl, Le.rfl' _, hs, g1⟩

def slices_Index_rune_rune.l1 : Nat → List Int → Int → Int → Option Int
  | 0, _, _, _ => none
  | ab + 1, x0, x1, aa => if aa < (x0.length : Int) then (if (0 : Int) ≤ aa ∧ aa < (x0.length : Int) then (if x1 = (rd x0 aa) then (some aa) else ((slices_Index_rune_rune.l1 ab x0 x1) (IntKind.i64.wrap (aa + 1)))) else none) else (some (-1))
def slices_Index_rune_rune.f (x0 : List Int) (x1 : Int) : Option Int := slices_Index_rune_rune.l1 K0 x0 x1 0
theorem slices_Index_rune_rune.c (hs : St w0 ρ (Γ) w) {v0 : Value} {x0 : List Int} (h0 : SlR (Rep.int .i32) ρ v0 x0) {x1 r : Int} (H : slices_Index_rune_rune.f x0 x1 = some r) : CallsR Tryz.prog 35 [v0, .int .i32 x1] w (fun v w' => v = .int .i64 r ∧ St w0 ρ Γ w') := by
  rw [slices_Index_rune_rune.f] at H
  refine Et Tryz.func35 Tryz.ntmps35 rfl <| Wr fun av ag => As rfl <| Ox ag <| W_seq fun aw ah => Wr fun ax ai => Mv rfl <| O_y rfl (Y_lenR un28 h0 rfl) <| Mv rfl <| Ox ai <| W_block fun ay aj az => W_loop (σ := Nat × Int) (fun (ab, aa) => [(0, v0), (1, .int .i32 x1), (7, .int .i64 (x0.length : Int)), (8, .int .i64 aa)]) (fun (ab, aa) w => slices_Index_rune_rune.l1 ab x0 x1 aa = some r ∧ St w0 ρ (Γ) w) (fun s => s.1) (K0, 0) (T4 rfl) (Ai H hs) ?_
  rintro ⟨ab, aa⟩ w a0 ⟨H, hs⟩ ac
  show W _ _ _ _ _ _ [(0, v0), (1, .int .i32 x1), (7, .int .i64 (x0.length : Int)), (8, .int .i64 aa)] w
  cases ab with
  | zero => rw [slices_Index_rune_rune.l1] at H; cases H
  | succ ab =>
  rw [slices_Index_rune_rune.l1] at H
  refine Wr fun a1 ak => Ols rfl <| Ox ak <| W_seq fun a2 al => W_if rfl (fun ad => ?_) (fun ad => ?_)
  ·rw [if_pos ad] at H
   refine Wx al <| W_seq fun a3 am => W_block fun a4 a5 a6 => Wr fun a7 an => Mv rfl <| As rfl <| Ox an <| Wr fun a8 ao => Mv rfl <| Mv rfl <| Mv rfl ?_
   obtain ⟨af, H⟩ := gd H
   obtain ⟨a9, ba, ap, aq⟩ := h0.ix el28 af.1 af.2
   refine O_y rfl (aq rfl rfl) <| O_y rfl (Y_load ag21 rfl (hs.see ap.int)) <| Oeq rfl <| Ox ao <| W_if rfl (fun ae => ?_) (fun ae => ?_)
   ·rw [if_pos ae] at H
    refine Wr fun bb ar => Mv rfl <| As rfl <| Ox ar <| W.weak [(4, _)] (S1 rfl) <| W_ret ?_
    obtain rfl := sinj H
    exact r1 rfl ⟨rfl, hs⟩
   ·rw [if_neg ae] at H
    refine Wx am <| W_region <| Oad rfl <| Mv rfl <| O_nil (ac (ab, (IntKind.i64.wrap (aa + 1))) _ _ (T4 rfl) (Ai H hs) (Nat.lt_succ_self _))
  ·rw [if_neg ad] at H
   refine W_exit (aj _ _ (ah _ _ <| Wr fun bc au => As rfl <| Ox au <| W_ret ?_))
   obtain rfl := sinj H
   exact r1 rfl ⟨rfl, hs⟩

def slices_Contains_rune_rune.f (x0 : List Int) (x1 : Int) : Option Bool := (slices_Index_rune_rune.f x0 x1).bind fun ab => (some (decide (0 ≤ ab)))
theorem slices_Contains_rune_rune.c (hs : St w0 ρ (Γ) w) {v0 : Value} {x0 : List Int} (h0 : SlR (Rep.int .i32) ρ v0 x0) {x1 : Int} {r : Bool} (H : slices_Contains_rune_rune.f x0 x1 = some r) : CallsR Tryz.prog 37 [v0, .int .i32 x1] w (fun v w' => v = .bool r ∧ St w0 ρ Γ w') := by
  rw [slices_Contains_rune_rune.f] at H
  refine Et Tryz.func37 Tryz.ntmps37 rfl <| Wr fun ae ac => As rfl <| Ox ac <| Wr fun af ad => Mv rfl <| Mv rfl ?_
  obtain ⟨ab, aa, H⟩ := bnd H
  refine Oc rfl (slices_Index_rune_rune.c hs h0 aa) (fun ag w hpost => ?_)
  obtain ⟨rfl, hs⟩ := hpost
  refine Oge rfl <| As rfl <| Ox ad <| W_ret ?_
  obtain rfl := sinj H
  exact r1 rfl ⟨rfl, hs⟩

def book_Tables_Mark.j1 (aa : Bool) : Option Bool := some aa
def book_Tables_Mark.f (x0 : Option Tbs) (x1 : Int) : Option Bool := if ((x0).isSome) = true then (if x0.isSome = true then ((stage_Table_Look.f (((x0).getD default).mark) x1).bind fun ab => (book_Tables_Mark.j1 (decide (ab = 1)))) else none) else (book_Tables_Mark.j1 false)
theorem book_Tables_Mark.c (hs : St w0 ρ (Γ) w) {v0 : Value} {x0 : Option Tbs} (h0 : PtrR rTbs ρ v0 x0) {x1 : Int} {r : Bool} (H : book_Tables_Mark.f x0 x1 = some r) : CallsR Tryz.prog 38 [v0, .int .i32 x1] w (fun v w' => v = .bool r ∧ St w0 ρ Γ w') := by
  rw [book_Tables_Mark.f] at H
  refine Et Tryz.func38 Tryz.ntmps38 rfl <| Wr fun ax ai => As rfl <| Ox ai <| W_seqj fun aj ak ag => ?_
  have ah : ∀ (aa : Bool) (w : World), book_Tables_Mark.j1 aa = some r → St w0 ρ (Γ) w → aj [(4, .bool aa)] w := by
   intro aa w H hs
   rw [book_Tables_Mark.j1] at H
   refine ak _ _ <| W_ret ?_
   obtain rfl := sinj H
   exact r1 rfl ⟨rfl, hs⟩
  refine W_region <| Mv rfl <| O_y rfl ((h0.nen un29 rfl rfl)) <| Mv rfl <| O_cases (dj := 7) rfl (fun ad => ?_) (fun ad => ?_)
  ·rw [if_pos ad] at H
   refine Oe rfl <| Mv rfl ?_
   obtain ⟨al, H⟩ := gd H
   obtain ⟨ay, ae, am⟩ := h0.open al
   obtain ⟨_, ⟨az, a0, a1, a2, a3, a4, a5, a6, a7, a8, a9, ba, bb, bc, bd, be, bf, bg, bh, an, ao, ap, rfl, bi, bj, bk, bl, bm, bn, bo, bp, bq, br, bs, bt, bu, bv, bw, bx, bz, aq, b0, ar, au, av⟩, af⟩ := am
   refine Oe rfl <| O_y rfl (Y_nilp (congrArg some ae)) <| Oe rfl <| Ofd fo114_7 rfl <| Oe rfl <| O_y rfl (Y_load ag104 rfl (hs.see (af 17 _ rfl))) <| Oe rfl <| Mv rfl <| Oe rfl ?_
   obtain ⟨ab, ac, H⟩ := bnd H
   refine Oc rfl (stage_Table_Look.c hs aq ac) (fun aw w hpost => ?_)
   obtain ⟨rfl, hs⟩ := hpost
   refine Oe rfl <| Oeq rfl <| Opk rfl <| As rfl <| O_nil (ag _ _ _ (S1 rfl) (ah (decide (ab = 1)) _ H hs))
  ·rw [if_neg (bft ad)] at H
   refine On rfl <| On rfl <| On rfl <| On rfl <| On rfl <| On rfl <| On rfl <| Opk rfl <| As rfl <| O_nil (ag _ _ _ (S1 rfl) (ah false _ H hs))

def book_Tables_Status.f (x0 : Option Tbs) (x1 : Int) : Option Int := if ((x0).isNone) = true then (some 0) else (if x0.isSome = true then ((stage_Table_Look.f (((x0).getD default).maps) x1).bind fun ab => (if 0 < ab then (some 4) else ((stage_Table_Look.f (((x0).getD default).status) x1).bind fun ac => (some ac)))) else none)
theorem book_Tables_Status.c (hs : St w0 ρ (Γ) w) {v0 : Value} {x0 : Option Tbs} (h0 : PtrR rTbs ρ v0 x0) {x1 r : Int} (H : book_Tables_Status.f x0 x1 = some r) : CallsR Tryz.prog 42 [v0, .int .i32 x1] w (fun v w' => v = .int .i64 r ∧ St w0 ρ Γ w') := by
  rw [book_Tables_Status.f] at H
  refine Et Tryz.func42 Tryz.ntmps42 rfl <| Wr fun cn aq => As rfl <| Ox aq <| W_seq fun co ar => W_block fun cp cq cr => Wr fun cs au => Mv rfl <| O_y rfl ((h0.eqn un29 rfl rfl)) <| As rfl <| Ox au <| W_cond rfl (fun ag => ?_) (fun ag => ?_)
  ·rw [if_pos ag] at H
   refine Wr fun ct av => As rfl <| Ox av <| W_ret ?_
   obtain rfl := sinj H
   exact r1 rfl ⟨rfl, hs⟩
  ·rw [if_neg (bft ag)] at H
   refine Wr fun cu aw => Mv rfl ?_
   obtain ⟨ap, H⟩ := gd H
   obtain ⟨cv, ah, ax⟩ := h0.open ap
   obtain ⟨_, ⟨cw, cx, cy, cz, da, db, dc, dd, de, df, dg, dh, di, dj, dk, dl, ay, az, a0, a1, a2, a3, rfl, dm, dn, dp, dq, dr, ds, dt, du, dv, dw, dx, dy, dz, ea, eb, a4, a5, a6, ai, a7, a8, a9⟩, aj⟩ := ax
   refine O_y rfl (Y_nilp (congrArg some ah)) <| Ofd fo114_8 rfl <| O_y rfl (Y_load ag104 rfl (hs.see (aj 18 _ rfl))) <| Mv rfl ?_
   obtain ⟨ab, ad, H⟩ := bnd H
   refine Oc rfl (stage_Table_Look.c hs ai ad) (fun ba w hpost => ?_)
   obtain ⟨rfl, hs⟩ := hpost
   refine Ogt rfl <| As rfl <| Ox aw <| W_if rfl (fun aa => ?_) (fun aa => ?_)
   ·rw [if_pos aa] at H
    refine Wr fun bb ak => As rfl <| Ox ak <| W_ret ?_
    obtain rfl := sinj H
    exact r1 rfl ⟨rfl, hs⟩
   ·rw [if_neg aa] at H
    refine Wx ar <| Wr fun bc al => Mv rfl ?_
    obtain ⟨bd, ae, am⟩ := h0.open ap
    obtain ⟨_, ⟨be, bf, bg, bh, bi, bj, bk, bl, bm, bn, bo, bp, bq, br, bs, bt, bu, bv, bw, bx, bz, b0, rfl, b1, b2, b3, b4, b5, b6, b7, b8, b9, ca, cb, an, cc, cd, ce, cf, cg, ch, ci, cj, ck, cl⟩, ao⟩ := am
    refine O_y rfl (Y_nilp (congrArg some ae)) <| Ofd fo114_1 rfl <| O_y rfl (Y_load ag104 rfl (hs.see (ao 11 _ rfl))) <| Mv rfl ?_
    obtain ⟨ac, af, H⟩ := bnd H
    refine Oc rfl (stage_Table_Look.c hs an af) (fun cm w hpost => ?_)
    obtain ⟨rfl, hs⟩ := hpost
    refine As rfl <| Ox al <| W.weak [(4, _)] (S1 rfl) <| W_ret ?_
    obtain rfl := sinj H
    exact r1 rfl ⟨rfl, hs⟩

def book_Tables_Kept.j1 (aa : Bool) : Option Bool := some aa
def book_Tables_Kept.f (x0 : Option Tbs) (x1 : Int) : Option Bool := (book_Tables_Status.f x0 x1).bind fun ab => (if ab = 1 then (book_Tables_Kept.j1 true) else (book_Tables_Kept.j1 (decide (ab = 3))))
theorem book_Tables_Kept.c (hs : St w0 ρ (Γ) w) {v0 : Value} {x0 : Option Tbs} (h0 : PtrR rTbs ρ v0 x0) {x1 : Int} {r : Bool} (H : book_Tables_Kept.f x0 x1 = some r) : CallsR Tryz.prog 22 [v0, .int .i32 x1] w (fun v w' => v = .bool r ∧ St w0 ρ Γ w') := by
  rw [book_Tables_Kept.f] at H
  refine Et Tryz.func22 Tryz.ntmps22 rfl <| Wr fun ak ag => As rfl <| Ox ag <| Wr fun al ah => Mv rfl <| Mv rfl ?_
  obtain ⟨ab, ac, H⟩ := bnd H
  refine Oc rfl (book_Tables_Status.c hs h0 ac) (fun am w hpost => ?_)
  obtain ⟨rfl, hs⟩ := hpost
  refine As rfl <| Ox ah <| W_seqj fun ai aj ae => ?_
  have af : ∀ (aa : Bool) (w : World), book_Tables_Kept.j1 aa = some r → St w0 ρ (Γ) w → ai [(4, .bool aa)] w := by
   intro aa w H hs
   rw [book_Tables_Kept.j1] at H
   refine aj _ _ <| W_ret ?_
   obtain rfl := sinj H
   exact r1 rfl ⟨rfl, hs⟩
  refine W_region <| Mv rfl <| Oeq rfl <| Mv rfl <| O_if (dj := 11) rfl (fun ad => ?_) (fun ad => ?_)
  ·rw [if_pos ad] at H
   refine On rfl <| On rfl <| Opk rfl <| As rfl <| O_nil (ae _ _ _ (S1 rfl) (af true _ H hs))
  ·rw [if_neg ad] at H
   refine Oe rfl <| Mv rfl <| Oe rfl <| Oeq rfl <| Opk rfl <| As rfl <| O_nil (ae _ _ _ (S1 rfl) (af (decide (ab = 3)) _ H hs))

def label_Faults_2_bfn.f (x0 : Int) (y0_0 : Option Tbs) : Option Bool := (book_Tables_Kept.f y0_0 x0).bind fun ab => (some (!ab))
theorem label_Faults_2_bfn.c {pb0 : Nat} {w0_0 : Value} {y0_0 : Option Tbs} (hs : St w0 ρ ((.box pb0 29 ([w0_0])) :: Γ) w) {x0 : Int} (g0_0 : PtrR rTbs ρ w0_0 y0_0) {r : Bool} (H : label_Faults_2_bfn.f x0 y0_0 = some r) : CallsR Tryz.prog 40 [.int .i32 x0, .pointer (some ⟨pb0, 0, none⟩)] w (fun v w' => v = .bool r ∧ St w0 ρ ((.box pb0 29 ([w0_0])) :: Γ) w') := by
  rw [label_Faults_2_bfn.f] at H
  refine Et Tryz.func40 Tryz.ntmps40 rfl <| Wr fun ae ac => As rfl <| Ox ac <| Wr fun af ad => Obx 0 ag29 hs rfl <| Mv rfl ?_
  obtain ⟨ab, aa, H⟩ := bnd H
  refine Oc rfl (book_Tables_Kept.c hs g0_0 aa) (fun ag w hpost => ?_)
  obtain ⟨rfl, hs⟩ := hpost
  refine Ont rfl <| As rfl <| Ox ad <| W_ret ?_
  obtain rfl := sinj H
  exact r1 rfl ⟨rfl, hs⟩

def slices_IndexFunc_rune_rune_dco.l1 : Nat → Option Tbs → List Int → Int → Option Int
  | 0, _, _, _ => none
  | ab + 1, y0_0, x0, aa => if aa < (x0.length : Int) then (if (0 : Int) ≤ aa ∧ aa < (x0.length : Int) then ((label_Faults_2_bfn.f (rd x0 aa) y0_0).bind fun ag => (if ag = true then (some aa) else ((slices_IndexFunc_rune_rune_dco.l1 ab y0_0 x0) (IntKind.i64.wrap (aa + 1))))) else none) else (some (-1))
def slices_IndexFunc_rune_rune_dco.f (x0 : List Int) (y0_0 : Option Tbs) : Option Int := slices_IndexFunc_rune_rune_dco.l1 K0 y0_0 x0 0
theorem slices_IndexFunc_rune_rune_dco.c {pb0 : Nat} {w0_0 : Value} {y0_0 : Option Tbs} (hs : St w0 ρ ((.box pb0 29 ([w0_0])) :: Γ) w) {v0 : Value} {x0 : List Int} (h0 : SlR (Rep.int .i32) ρ v0 x0) (g0_0 : PtrR rTbs ρ w0_0 y0_0) {r : Int} (H : slices_IndexFunc_rune_rune_dco.f x0 y0_0 = some r) : CallsR Tryz.prog 77 [v0, .func (.func 40) #[] #[.pointer (some ⟨pb0, 0, none⟩)]] w (fun v w' => v = .int .i64 r ∧ St w0 ρ ((.box pb0 29 ([w0_0])) :: Γ) w') := by
  rw [slices_IndexFunc_rune_rune_dco.f] at H
  refine Et Tryz.func77 Tryz.ntmps77 rfl <| Wr fun ax ai => As rfl <| Ox ai <| W_seq fun ay aj => Wr fun az ak => Mv rfl <| O_y rfl (Y_lenR un28 h0 rfl) <| Mv rfl <| Ox ak <| W_block fun a0 al a1 => W_loop (σ := Nat × Int) (fun (ab, aa) => [(0, v0), (1, .func (.func 40) #[] #[.pointer (some ⟨pb0, 0, none⟩)]), (7, .int .i64 (x0.length : Int)), (8, .int .i64 aa)]) (fun (ab, aa) w => slices_IndexFunc_rune_rune_dco.l1 ab y0_0 x0 aa = some r ∧ St w0 ρ ((.box pb0 29 ([w0_0])) :: Γ) w) (fun s => s.1) (K0, 0) (T4 rfl) (Ai H hs) ?_
  rintro ⟨ab, aa⟩ w a2 ⟨H, hs⟩ ac
  show W _ _ _ _ _ _ [(0, v0), (1, .func (.func 40) #[] #[.pointer (some ⟨pb0, 0, none⟩)]), (7, .int .i64 (x0.length : Int)), (8, .int .i64 aa)] w
  cases ab with
  | zero => rw [slices_IndexFunc_rune_rune_dco.l1] at H; cases H
  | succ ab =>
  rw [slices_IndexFunc_rune_rune_dco.l1] at H
  refine Wr fun a3 am => Ols rfl <| Ox am <| W_seq fun a4 an => W_if rfl (fun ad => ?_) (fun ad => ?_)
  ·rw [if_pos ad] at H
   refine Wx an <| W_seq fun a5 ao => W_block fun a6 a7 a8 => Wr fun a9 ap => Mv rfl <| As rfl <| Ox ap <| Wr fun ba aq => Mv rfl <| Mv rfl <| Mv rfl ?_
   obtain ⟨ah, H⟩ := gd H
   obtain ⟨bb, bc, ar, au⟩ := h0.ix el28 ah.1 ah.2
   refine O_y rfl (au rfl rfl) <| O_y rfl (Y_load ag21 rfl (hs.see ar.int)) ?_
   obtain ⟨ag, ae, H⟩ := bnd H
   refine O_callv rfl rfl rfl (label_Faults_2_bfn.c hs g0_0 ae) (fun bd w hpost => ?_)
   obtain ⟨rfl, hs⟩ := hpost
   refine Ox aq <| W_cond rfl (fun af => ?_) (fun af => ?_)
   ·rw [if_pos af] at H
    refine Wr fun be av => Mv rfl <| As rfl <| Ox av <| W.weak [(4, _)] (S1 rfl) <| W_ret ?_
    obtain rfl := sinj H
    exact r1 rfl ⟨rfl, hs⟩
   ·rw [if_neg (bft af)] at H
    refine Wx ao <| W_region <| Oad rfl <| Mv rfl <| O_nil (ac (ab, (IntKind.i64.wrap (aa + 1))) _ _ (T4 rfl) (Ai H hs) (Nat.lt_succ_self _))
  ·rw [if_neg ad] at H
   refine W_exit (al _ _ (aj _ _ <| Wr fun bf aw => As rfl <| Ox aw <| W_ret ?_))
   obtain rfl := sinj H
   exact r1 rfl ⟨rfl, hs⟩

def slices_ContainsFunc_rune_rune_dco.f (x0 : List Int) (y0_0 : Option Tbs) : Option Bool := (slices_IndexFunc_rune_rune_dco.f x0 y0_0).bind fun ab => (some (decide (0 ≤ ab)))
theorem slices_ContainsFunc_rune_rune_dco.c {pb0 : Nat} {w0_0 : Value} {y0_0 : Option Tbs} (hs : St w0 ρ ((.box pb0 29 ([w0_0])) :: Γ) w) {v0 : Value} {x0 : List Int} (h0 : SlR (Rep.int .i32) ρ v0 x0) (g0_0 : PtrR rTbs ρ w0_0 y0_0) {r : Bool} (H : slices_ContainsFunc_rune_rune_dco.f x0 y0_0 = some r) : CallsR Tryz.prog 39 [v0, .func (.func 40) #[] #[.pointer (some ⟨pb0, 0, none⟩)]] w (fun v w' => v = .bool r ∧ St w0 ρ ((.box pb0 29 ([w0_0])) :: Γ) w') := by
  rw [slices_ContainsFunc_rune_rune_dco.f] at H
  refine Et Tryz.func39 Tryz.ntmps39 rfl <| Wr fun ae ac => As rfl <| Ox ac <| Wr fun af ad => Mv rfl <| Mv rfl ?_
  obtain ⟨ab, aa, H⟩ := bnd H
  refine Oc rfl (slices_IndexFunc_rune_rune_dco.c hs h0 g0_0 aa) (fun ag w hpost => ?_)
  obtain ⟨rfl, hs⟩ := hpost
  refine Oge rfl <| As rfl <| Ox ad <| W_ret ?_
  obtain rfl := sinj H
  exact r1 rfl ⟨rfl, hs⟩

def joiner_special.j1 (aa : Bool) : Option Bool := some aa
def joiner_special.f (x0 : Int) : Option Bool := if x0 = 8204 then (joiner_special.j1 true) else (joiner_special.j1 (decide (x0 = 8205)))
theorem joiner_special.c (hs : St w0 ρ (Γ) w) {x0 : Int} {r : Bool} (H : joiner_special.f x0 = some r) : CallsR Tryz.prog 129 [.int .i32 x0] w (fun v w' => v = .bool r ∧ St w0 ρ Γ w') := by
  rw [joiner_special.f] at H
  refine Et Tryz.func129 Tryz.ntmps129 rfl <| Wr fun ah ae => As rfl <| Ox ae <| W_seqj fun af ag ac => ?_
  have ad : ∀ (aa : Bool) (w : World), joiner_special.j1 aa = some r → St w0 ρ (Γ) w → af [(2, .bool aa)] w := by
   intro aa w H hs
   rw [joiner_special.j1] at H
   refine ag _ _ <| W_ret ?_
   obtain rfl := sinj H
   exact r1 rfl ⟨rfl, hs⟩
  refine W_region <| Mv rfl <| Oeq rfl <| Mv rfl <| O_if (dj := 5) rfl (fun ab => ?_) (fun ab => ?_)
  ·rw [if_pos ab] at H
   refine On rfl <| On rfl <| Opk rfl <| As rfl <| O_nil (ac _ _ _ (S1 rfl) (ad true _ H hs))
  ·rw [if_neg ab] at H
   refine Oe rfl <| Mv rfl <| Oe rfl <| Oeq rfl <| Opk rfl <| As rfl <| O_nil (ac _ _ _ (S1 rfl) (ad (decide (x0 = 8205)) _ H hs))

def joiner_Virama.f (x0 : Option Tbs) (x1 : Int) : Option Bool := (book_Tables_Class.f x0 x1).bind fun ab => (some (decide (ab = 9)))
theorem joiner_Virama.c (hs : St w0 ρ (Γ) w) {v0 : Value} {x0 : Option Tbs} (h0 : PtrR rTbs ρ v0 x0) {x1 : Int} {r : Bool} (H : joiner_Virama.f x0 x1 = some r) : CallsR Tryz.prog 130 [v0, .int .i32 x1] w (fun v w' => v = .bool r ∧ St w0 ρ Γ w') := by
  rw [joiner_Virama.f] at H
  refine Et Tryz.func130 Tryz.ntmps130 rfl <| Wr fun ae ac => As rfl <| Ox ac <| Wr fun af ad => Mv rfl <| Mv rfl ?_
  obtain ⟨ab, aa, H⟩ := bnd H
  refine Oc rfl (book_Tables_Class.c hs h0 aa) (fun ag w hpost => ?_)
  obtain ⟨rfl, hs⟩ := hpost
  refine Oeq rfl <| As rfl <| Ox ad <| W_ret ?_
  obtain rfl := sinj H
  exact r1 rfl ⟨rfl, hs⟩

def book_Tables_Join.f (x0 : Option Tbs) (x1 : Int) : Option Int := if ((x0).isNone) = true then (some 0) else (if x0.isSome = true then ((stage_Table_Look.f (((x0).getD default).join) x1).bind fun aa => (some aa)) else none)
theorem book_Tables_Join.c (hs : St w0 ρ (Γ) w) {v0 : Value} {x0 : Option Tbs} (h0 : PtrR rTbs ρ v0 x0) {x1 r : Int} (H : book_Tables_Join.f x0 x1 = some r) : CallsR Tryz.prog 163 [v0, .int .i32 x1] w (fun v w' => v = .int .i64 r ∧ St w0 ρ Γ w') := by
  rw [book_Tables_Join.f] at H
  refine Et Tryz.func163 Tryz.ntmps163 rfl <| Wr fun a0 af => As rfl <| Ox af <| W_seq fun a1 ag => Wr fun a2 ah => Mv rfl <| O_y rfl ((h0.eqn un29 rfl rfl)) <| Ox ah <| W_cond rfl (fun ac => ?_) (fun ac => ?_)
  ·rw [if_pos ac] at H
   refine Wr fun a3 ai => As rfl <| Ox ai <| W_ret ?_
   obtain rfl := sinj H
   exact r1 rfl ⟨rfl, hs⟩
  ·rw [if_neg (bft ac)] at H
   refine Wx ag <| Wr fun a4 aj => Mv rfl ?_
   obtain ⟨ak, H⟩ := gd H
   obtain ⟨a5, ad, al⟩ := h0.open ak
   obtain ⟨_, ⟨a6, a7, a8, a9, ba, bb, bc, bd, be, bf, bg, bh, bi, bj, bk, bl, bm, am, an, ao, ap, aq, rfl, bn, bo, bp, bq, br, bs, bt, bu, bv, bw, bx, bz, b0, b1, ar, b2, b3, au, av, aw, ax, ay⟩, ae⟩ := al
   refine O_y rfl (Y_nilp (congrArg some ad)) <| Ofd fo114_4 rfl <| O_y rfl (Y_load ag104 rfl (hs.see (ae 14 _ rfl))) <| Mv rfl ?_
   obtain ⟨aa, ab, H⟩ := bnd H
   refine Oc rfl (stage_Table_Look.c hs ar ab) (fun az w hpost => ?_)
   obtain ⟨rfl, hs⟩ := hpost
   refine As rfl <| Ox aj <| W_ret ?_
   obtain rfl := sinj H
   exact r1 rfl ⟨rfl, hs⟩

def joiner_ahead.l1 : Nat → Option Tbs → List Int → Int → Option Int
  | 0, _, _, _ => none
  | ab + 1, x0, x1, aa => if 0 ≤ aa then (if (0 : Int) ≤ aa ∧ aa < (x1.length : Int) then ((book_Tables_Join.f x0 (rd x1 aa)).bind fun ad => (if ad ≠ 4 then (some ad) else ((joiner_ahead.l1 ab x0 x1) (IntKind.i64.wrap (aa - 1))))) else none) else (some 0)
def joiner_ahead.f (x0 : Option Tbs) (x1 : List Int) (x2 : Int) : Option Int := joiner_ahead.l1 K0 x0 x1 (IntKind.i64.wrap (x2 - 1))
theorem joiner_ahead.c (hs : St w0 ρ (Γ) w) {v0 : Value} {x0 : Option Tbs} (h0 : PtrR rTbs ρ v0 x0) {v1 : Value} {x1 : List Int} (h1 : SlR (Rep.int .i32) ρ v1 x1) {x2 r : Int} (H : joiner_ahead.f x0 x1 x2 = some r) : CallsR Tryz.prog 131 [v0, v1, .int .i64 x2] w (fun v w' => v = .int .i64 r ∧ St w0 ρ Γ w') := by
  rw [joiner_ahead.f] at H
  refine Et Tryz.func131 Tryz.ntmps131 rfl <| Wr fun ax ai => As rfl <| Ox ai <| W_seq fun ay aj => Wr fun az ak => Mv rfl <| Osu rfl <| As rfl <| Ox ak <| W_block fun a0 al a1 => W_loop (σ := Nat × Int) (fun (ab, aa) => [(0, v0), (1, v1), (2, .int .i64 aa)]) (fun (ab, aa) w => joiner_ahead.l1 ab x0 x1 aa = some r ∧ St w0 ρ (Γ) w) (fun s => s.1) (K0, (IntKind.i64.wrap (x2 - 1))) (T3 rfl) (Ai H hs) ?_
  rintro ⟨ab, aa⟩ w a2 ⟨H, hs⟩ ac
  show W _ _ _ _ _ _ [(0, v0), (1, v1), (2, .int .i64 aa)] w
  cases ab with
  | zero => rw [joiner_ahead.l1] at H; cases H
  | succ ab =>
  rw [joiner_ahead.l1] at H
  refine W_seq fun a3 am => Wr fun a4 an => Mv rfl <| Oge rfl <| Ox an <| W_if rfl (fun ae => ?_) (fun ae => ?_)
  ·rw [if_pos ae] at H
   refine Wx am <| W_seq fun a5 ao => W_block fun a6 a7 a8 => Wr fun a9 ap => Mv rfl <| Mv rfl <| Mv rfl ?_
   obtain ⟨ah, H⟩ := gd H
   obtain ⟨ba, bb, aq, ar⟩ := h1.ix el28 ah.1 ah.2
   refine O_y rfl (ar rfl rfl) <| O_y rfl (Y_load ag21 rfl (hs.see aq.int)) ?_
   obtain ⟨ad, af, H⟩ := bnd H
   refine Oc rfl (book_Tables_Join.c hs h0 af) (fun bc w hpost => ?_)
   obtain ⟨rfl, hs⟩ := hpost
   refine As rfl <| Ox ap <| Wr fun bd au => Mv rfl <| One rfl <| Ox au <| W_if rfl (fun ag => ?_) (fun ag => ?_)
   ·rw [if_pos ag] at H
    refine Wr fun be av => Mv rfl <| As rfl <| Ox av <| W.weak [(6, _)] (S1 rfl) <| W_ret ?_
    obtain rfl := sinj H
    exact r1 rfl ⟨rfl, hs⟩
   ·rw [if_neg ag] at H
    refine Wx ao <| W_region <| Mv rfl <| Osu rfl <| As rfl <| O_nil (ac (ab, (IntKind.i64.wrap (aa - 1))) _ _ (T3 rfl) (Ai H hs) (Nat.lt_succ_self _))
  ·rw [if_neg ae] at H
   refine W_exit (al _ _ (aj _ _ <| Wr fun bf aw => As rfl <| Ox aw <| W_ret ?_))
   obtain rfl := sinj H
   exact r1 rfl ⟨rfl, hs⟩

def joiner_behind.l1 : Nat → Option Tbs → List Int → Int → Option Int
  | 0, _, _, _ => none
  | ab + 1, x0, x1, aa => if aa < (x1.length : Int) then (if (0 : Int) ≤ aa ∧ aa < (x1.length : Int) then ((book_Tables_Join.f x0 (rd x1 aa)).bind fun ad => (if ad ≠ 4 then (some ad) else ((joiner_behind.l1 ab x0 x1) (IntKind.i64.wrap (aa + 1))))) else none) else (some 0)
def joiner_behind.f (x0 : Option Tbs) (x1 : List Int) (x2 : Int) : Option Int := joiner_behind.l1 K0 x0 x1 (IntKind.i64.wrap (x2 + 1))
theorem joiner_behind.c (hs : St w0 ρ (Γ) w) {v0 : Value} {x0 : Option Tbs} (h0 : PtrR rTbs ρ v0 x0) {v1 : Value} {x1 : List Int} (h1 : SlR (Rep.int .i32) ρ v1 x1) {x2 r : Int} (H : joiner_behind.f x0 x1 x2 = some r) : CallsR Tryz.prog 132 [v0, v1, .int .i64 x2] w (fun v w' => v = .int .i64 r ∧ St w0 ρ Γ w') := by
  rw [joiner_behind.f] at H
  refine Et Tryz.func132 Tryz.ntmps132 rfl <| Wr fun ax ai => As rfl <| Ox ai <| W_seq fun ay aj => Wr fun az ak => Mv rfl <| Oad rfl <| As rfl <| Ox ak <| W_block fun a0 al a1 => W_loop (σ := Nat × Int) (fun (ab, aa) => [(0, v0), (1, v1), (2, .int .i64 aa)]) (fun (ab, aa) w => joiner_behind.l1 ab x0 x1 aa = some r ∧ St w0 ρ (Γ) w) (fun s => s.1) (K0, (IntKind.i64.wrap (x2 + 1))) (T3 rfl) (Ai H hs) ?_
  rintro ⟨ab, aa⟩ w a2 ⟨H, hs⟩ ac
  show W _ _ _ _ _ _ [(0, v0), (1, v1), (2, .int .i64 aa)] w
  cases ab with
  | zero => rw [joiner_behind.l1] at H; cases H
  | succ ab =>
  rw [joiner_behind.l1] at H
  refine W_seq fun a3 am => Wr fun a4 an => Mv rfl <| Mv rfl <| O_y rfl (Y_lenR un28 h1 rfl) <| Ols rfl <| Ox an <| W_if rfl (fun ae => ?_) (fun ae => ?_)
  ·rw [if_pos ae] at H
   refine Wx am <| W_seq fun a5 ao => W_block fun a6 a7 a8 => Wr fun a9 ap => Mv rfl <| Mv rfl <| Mv rfl ?_
   obtain ⟨ah, H⟩ := gd H
   obtain ⟨ba, bb, aq, ar⟩ := h1.ix el28 ah.1 ah.2
   refine O_y rfl (ar rfl rfl) <| O_y rfl (Y_load ag21 rfl (hs.see aq.int)) ?_
   obtain ⟨ad, af, H⟩ := bnd H
   refine Oc rfl (book_Tables_Join.c hs h0 af) (fun bc w hpost => ?_)
   obtain ⟨rfl, hs⟩ := hpost
   refine As rfl <| Ox ap <| Wr fun bd au => Mv rfl <| One rfl <| Ox au <| W.weak [(0, _), (1, _), (2, _), (7, _), (23, _)] sbn ?_
   refine W_if rfl (fun ag => ?_) (fun ag => ?_)
   ·rw [if_pos ag] at H
    refine Wr fun be av => Mv rfl <| As rfl <| Ox av <| W_ret ?_
    obtain rfl := sinj H
    exact r1 rfl ⟨rfl, hs⟩
   ·rw [if_neg ag] at H
    refine Wx ao <| W_region <| Mv rfl <| Oad rfl <| As rfl <| O_nil (ac (ab, (IntKind.i64.wrap (aa + 1))) _ _ (T3 rfl) (Ai H hs) (Nat.lt_succ_self _))
  ·rw [if_neg ae] at H
   refine W_exit (al _ _ (aj _ _ <| Wr fun bf aw => As rfl <| Ox aw <| W_ret ?_))
   obtain rfl := sinj H
   exact r1 rfl ⟨rfl, hs⟩

def joiner_Allowed.j1 (aa : Bool) : Option Bool := some aa
def joiner_Allowed.j2 (x0 : Option Tbs) (x1 : List Int) (x2 : Int) (ab : Bool) : Option Bool := if ab = true then (some true) else (if (rd x1 x2) = 8205 then (some false) else ((joiner_ahead.f x0 x1 x2).bind fun ar => ((joiner_behind.f x0 x1 x2).bind fun af => (if ar = 1 then (if af = 2 then (joiner_Allowed.j1 true) else (joiner_Allowed.j1 (decide (af = 3)))) else (if ar = 3 then (if af = 2 then (joiner_Allowed.j1 true) else (joiner_Allowed.j1 (decide (af = 3)))) else (joiner_Allowed.j1 false))))))
def joiner_Allowed.j3 (x0 : Option Tbs) (x1 : List Int) (x2 : Int) (ac : Bool) : Option Bool := if ac = true then (some false) else (if (0 : Int) ≤ x2 ∧ x2 < (x1.length : Int) then ((joiner_special.f (rd x1 x2)).bind fun a4 => (if (!a4) = true then (some true) else (if 0 < x2 then (if (0 : Int) ≤ IntKind.i64.wrap (x2 - 1) ∧ IntKind.i64.wrap (x2 - 1) < (x1.length : Int) then ((joiner_Virama.f x0 (rd x1 (IntKind.i64.wrap (x2 - 1)))).bind fun ag => (joiner_Allowed.j2 x0 x1 x2 ag)) else none) else (joiner_Allowed.j2 x0 x1 x2 false)))) else none)
def joiner_Allowed.f (x0 : Option Tbs) (x1 : List Int) (x2 : Int) : Option Bool := if x2 < 0 then (joiner_Allowed.j3 x0 x1 x2 true) else (joiner_Allowed.j3 x0 x1 x2 (decide ((x1.length : Int) ≤ x2)))
theorem joiner_Allowed.c (hs : St w0 ρ (Γ) w) {v0 : Value} {x0 : Option Tbs} (h0 : PtrR rTbs ρ v0 x0) {v1 : Value} {x1 : List Int} (h1 : SlR (Rep.int .i32) ρ v1 x1) {x2 : Int} {r : Bool} (H : joiner_Allowed.f x0 x1 x2 = some r) : CallsR Tryz.prog 78 [v0, v1, .int .i64 x2] w (fun v w' => v = .bool r ∧ St w0 ρ Γ w') := by
  rw [joiner_Allowed.f] at H
  refine Et Tryz.func78 Tryz.ntmps78 rfl <| Wr fun bu a9 => As rfl <| Ox a9 <| W_seq fun bv ba => W_block fun bw bx bz => W_seqj fun bb bc a5 => ?_
  have a6 : ∀ (ac : Bool) (w : World), joiner_Allowed.j3 x0 x1 x2 ac = some r → St w0 ρ (Γ) w → bb [(0, v0), (1, v1), (2, .int .i64 x2), (9, .bool ac)] w := by
   intro ac w H hs
   rw [joiner_Allowed.j3] at H
   refine bc _ _ <| W_cond rfl (fun au => ?_) (fun au => ?_)
   ·rw [if_pos au] at H
    refine Wr fun b0 bd => As rfl <| Ox bd <| W_ret ?_
    obtain rfl := sinj H
    exact r1 rfl ⟨rfl, hs⟩
   ·rw [if_neg (bft au)] at H
    refine Wr fun b1 be => Mv rfl <| Mv rfl ?_
    obtain ⟨aq, H⟩ := gd H
    obtain ⟨b2, b3, bf, bg⟩ := h1.ix el28 aq.1 aq.2
    refine O_y rfl (bg rfl rfl) <| O_y rfl (Y_load ag21 rfl (hs.see bf.int)) ?_
    obtain ⟨a4, av, H⟩ := bnd H
    refine Oc rfl (joiner_special.c hs av) (fun b4 w hpost => ?_)
    obtain ⟨rfl, hs⟩ := hpost
    refine Ont rfl <| As rfl <| Ox be <| W_cond rfl (fun aw => ?_) (fun aw => ?_)
    ·rw [if_pos aw] at H
     refine Wr fun b5 bh => As rfl <| Ox bh <| W_ret ?_
     obtain rfl := sinj H
     exact r1 rfl ⟨rfl, hs⟩
    ·rw [if_neg (bft aw)] at H
     refine W_seqj fun bi bj a7 => ?_
     have a8 : ∀ (ab : Bool) (w : World), joiner_Allowed.j2 x0 x1 x2 ab = some r → St w0 ρ (Γ) w → bi [(0, v0), (1, v1), (2, .int .i64 x2), (25, .bool ab)] w := by
      intro ab w H hs
      rw [joiner_Allowed.j2] at H
      refine bj _ _ <| W_cond rfl (fun ax => ?_) (fun ax => ?_)
      ·rw [if_pos ax] at H
       refine Wr fun b6 bk => As rfl <| Ox bk <| W_ret ?_
       obtain rfl := sinj H
       exact r1 rfl ⟨rfl, hs⟩
      ·rw [if_neg (bft ax)] at H
       refine Wr fun b7 bl => Mv rfl <| Mv rfl ?_
       obtain ⟨b8, b9, bm, bn⟩ := h1.ix el28 aq.1 aq.2
       refine O_y rfl (bn rfl rfl) <| O_y rfl (Y_load ag21 rfl (hs.see bm.int)) <| Oeq rfl <| As rfl <| Ox bl <| W_if rfl (fun ay => ?_) (fun ay => ?_)
       ·rw [if_pos ay] at H
        refine Wr fun ca bo => As rfl <| Ox bo <| W_ret ?_
        obtain rfl := sinj H
        exact r1 rfl ⟨rfl, hs⟩
       ·rw [if_neg ay] at H
        refine Wx ba <| Wr fun cb bp => Mv rfl <| Mv rfl <| Mv rfl ?_
        obtain ⟨ar, az, H⟩ := bnd H
        refine Oc rfl (joiner_ahead.c hs h0 h1 az) (fun cc w hpost => ?_)
        obtain ⟨rfl, hs⟩ := hpost
        refine Mv rfl <| Mv rfl <| Mv rfl ?_
        obtain ⟨af, an, H⟩ := bnd H
        refine Oc rfl (joiner_behind.c hs h0 h1 an) (fun bq w hpost => ?_)
        obtain ⟨rfl, hs⟩ := hpost
        refine As rfl <| As rfl <| Ox bp <| W.weak [(7, _), (8, _)] (T2 rfl) <| W_seqj fun a0 a1 ad => ?_
        have ae : ∀ (aa : Bool) (w : World), joiner_Allowed.j1 aa = some r → St w0 ρ (Γ) w → a0 [(6, .bool aa)] w := by
         intro aa w H hs
         rw [joiner_Allowed.j1] at H
         refine a1 _ _ <| W_ret ?_
         obtain rfl := sinj H
         exact r1 rfl ⟨rfl, hs⟩
        refine W_region <| Mv rfl <| Oeq rfl <| Mv rfl <| O_if (dj := 53) rfl (fun ah => ?_) (fun ah => ?_)
        ·rw [if_pos ah] at H
         refine On rfl <| On rfl <| Opk rfl <| Mv rfl <| Oe rfl <| Mv rfl <| Oe rfl <| Oeq rfl <| Oe rfl <| Mv rfl <| O_if (dj := 60) rfl (fun ai => ?_) (fun ai => ?_)
         ·rw [if_pos ai] at H
          refine On rfl <| On rfl <| Oe rfl <| Opk rfl <| Opk rfl <| As rfl <| O_nil (ad _ _ _ (S1 rfl) (ae true _ H hs))
         ·rw [if_neg ai] at H
          refine Oe rfl <| Mv rfl <| Oe rfl <| Oeq rfl <| Oe rfl <| Opk rfl <| Opk rfl <| As rfl <| O_nil (ad _ _ _ (S1 rfl) (ae (decide (af = 3)) _ H hs))
        ·rw [if_neg ah] at H
         refine Oe rfl <| Mv rfl <| Oe rfl <| Oeq rfl <| Opk rfl <| Mv rfl <| O_if (dj := 57) rfl (fun aj => ?_) (fun aj => ?_)
         ·rw [if_pos aj] at H
          refine Oe rfl <| Mv rfl <| Oe rfl <| Oeq rfl <| Oe rfl <| Mv rfl <| O_if (dj := 60) rfl (fun ak => ?_) (fun ak => ?_)
          ·rw [if_pos ak] at H
           refine On rfl <| On rfl <| Oe rfl <| Opk rfl <| Opk rfl <| As rfl <| O_nil (ad _ _ _ (S1 rfl) (ae true _ H hs))
          ·rw [if_neg ak] at H
           refine Oe rfl <| Mv rfl <| Oe rfl <| Oeq rfl <| Oe rfl <| Opk rfl <| Opk rfl <| As rfl <| O_nil (ad _ _ _ (S1 rfl) (ae (decide (af = 3)) _ H hs))
         ·rw [if_neg aj] at H
          refine On rfl <| On rfl <| On rfl <| O_nou rfl rfl rfl <| O_nou rfl rfl rfl <| On rfl <| Opk rfl <| As rfl <| O_nil (ad _ _ _ (S1 rfl) (ae false _ H hs))
     refine W_region <| Mv rfl <| Ogt rfl <| Mv rfl <| O_if (dj := 28) rfl (fun al => ?_) (fun al => ?_)
     ·rw [if_pos al] at H
      refine Oe rfl <| Mv rfl <| Oe rfl <| Mv rfl <| Oe rfl <| Mv rfl <| Oe rfl <| Osu rfl ?_
      obtain ⟨ao, H⟩ := gd H
      obtain ⟨br, bs, a2, a3⟩ := h1.ix el28 ao.1 ao.2
      refine Oe rfl <| O_y rfl (a3 rfl rfl) <| Oe rfl <| O_y rfl (Y_load ag21 rfl (hs.see a2.int)) <| Oe rfl ?_
      obtain ⟨ag, ap, H⟩ := bnd H
      refine Oc rfl (joiner_Virama.c hs h0 ap) (fun bt w hpost => ?_)
      obtain ⟨rfl, hs⟩ := hpost
      refine Opk rfl <| As rfl <| O_nil (a7 _ _ _ (T4 rfl) (a8 ag _ H hs))
     ·rw [if_neg al] at H
      refine On rfl <| On rfl <| On rfl <| On rfl <| On rfl <| On rfl <| On rfl <| Opk rfl <| As rfl <| O_nil (a7 _ _ _ (T4 rfl) (a8 false _ H hs))
  refine W_region <| Mv rfl <| Ols rfl <| Mv rfl <| O_if (dj := 12) rfl (fun am => ?_) (fun am => ?_)
  ·rw [if_pos am] at H
   refine On rfl <| On rfl <| On rfl <| On rfl <| Opk rfl <| As rfl <| O_nil (a5 _ _ _ (T4 rfl) (a6 true _ H hs))
  ·rw [if_neg am] at H
   refine Oe rfl <| Mv rfl <| Oe rfl <| Mv rfl <| Oe rfl <| O_y rfl (Y_lenR un28 h1 rfl) <| Oe rfl <| Oge rfl <| Opk rfl <| As rfl <| O_nil (a5 _ _ _ (T4 rfl) (a6 (decide ((x1.length : Int) ≤ x2)) _ H hs))

def joiner_Check.l1 : Nat → Option Tbs → List Int → Int → Option Int
  | 0, _, _, _ => none
  | ab + 1, x0, x1, aa => if aa < (x1.length : Int) then ((joiner_Allowed.f x0 x1 aa).bind fun ag => (if (!ag) = true then (some aa) else ((joiner_Check.l1 ab x0 x1) (IntKind.i64.wrap (aa + 1))))) else (some (-1))
def joiner_Check.f (x0 : Option Tbs) (x1 : List Int) : Option Int := joiner_Check.l1 K0 x0 x1 0
theorem joiner_Check.c (hs : St w0 ρ (Γ) w) {v0 : Value} {x0 : Option Tbs} (h0 : PtrR rTbs ρ v0 x0) {v1 : Value} {x1 : List Int} (h1 : SlR (Rep.int .i32) ρ v1 x1) {r : Int} (H : joiner_Check.f x0 x1 = some r) : CallsR Tryz.prog 41 [v0, v1] w (fun v w' => v = .int .i64 r ∧ St w0 ρ Γ w') := by
  rw [joiner_Check.f] at H
  refine Et Tryz.func41 Tryz.ntmps41 rfl <| Wr fun au ah => As rfl <| Ox ah <| W_seq fun av ai => Wr fun aw aj => Mv rfl <| O_y rfl (Y_lenR un28 h1 rfl) <| Mv rfl <| Ox aj <| W_block fun ax ak ay => W_loop (σ := Nat × Int) (fun (ab, aa) => [(0, v0), (1, v1), (7, .int .i64 (x1.length : Int)), (8, .int .i64 aa)]) (fun (ab, aa) w => joiner_Check.l1 ab x0 x1 aa = some r ∧ St w0 ρ (Γ) w) (fun s => s.1) (K0, 0) (T4 rfl) (Ai H hs) ?_
  rintro ⟨ab, aa⟩ w az ⟨H, hs⟩ ac
  show W _ _ _ _ _ _ [(0, v0), (1, v1), (7, .int .i64 (x1.length : Int)), (8, .int .i64 aa)] w
  cases ab with
  | zero => rw [joiner_Check.l1] at H; cases H
  | succ ab =>
  rw [joiner_Check.l1] at H
  refine Wr fun a0 al => Ols rfl <| Ox al <| W_seq fun a1 am => W_if rfl (fun ad => ?_) (fun ad => ?_)
  ·rw [if_pos ad] at H
   refine Wx am <| W_seq fun a2 an => W_block fun a3 a4 a5 => Wr fun a6 ao => Mv rfl <| As rfl <| Ox ao <| Wr fun a7 ap => Mv rfl <| Mv rfl <| Mv rfl ?_
   obtain ⟨ag, ae, H⟩ := bnd H
   refine Oc rfl (joiner_Allowed.c hs h0 h1 ae) (fun a8 w hpost => ?_)
   obtain ⟨rfl, hs⟩ := hpost
   refine Ont rfl <| Ox ap <| W_cond rfl (fun af => ?_) (fun af => ?_)
   ·rw [if_pos af] at H
    refine Wr fun a9 aq => Mv rfl <| As rfl <| Ox aq <| W_ret ?_
    obtain rfl := sinj H
    exact r1 rfl ⟨rfl, hs⟩
   ·rw [if_neg (bft af)] at H
    refine Wx an <| W_region <| Oad rfl <| Mv rfl <| O_nil (ac (ab, (IntKind.i64.wrap (aa + 1))) _ _ (T4 rfl) (Ai H hs) (Nat.lt_succ_self _))
  ·rw [if_neg ad] at H
   refine W_exit (ak _ _ (ai _ _ <| Wr fun ba ar => As rfl <| Ox ar <| W_ret ?_))
   obtain rfl := sinj H
   exact r1 rfl ⟨rfl, hs⟩

def label_Faults.j1 (x0 : Option Tbs) (x1 aa : List Int) : Option (List Int) := (slices_ContainsFunc_rune_rune_dco.f x1 x0).bind fun an => ((label_Faults_1_hil.f 5 an aa).bind fun ao => ((joiner_Check.f x0 x1).bind fun ap => ((label_Faults_1_hil.f 6 (decide (0 ≤ ap)) ao).bind fun aq => (some aq))))
def label_Faults.f (x0 : Option Tbs) (x1 : List Int) : Option (List Int) := (compose_Is.f x0 x1).bind fun b2 => ((label_Faults_1_hil.f 1 (!b2) ([] : List Int)).bind fun b3 => ((label_Coded.f x1).bind fun b4 => ((label_Faults_1_hil.f 2 b4 b3).bind fun b5 => ((slices_Contains_rune_rune.f x1 46).bind fun b6 => ((label_Faults_1_hil.f 3 b6 b5).bind fun a9 => (if 0 < (x1.length : Int) then (if (0 : Int) ≤ 0 ∧ 0 < (x1.length : Int) then ((book_Tables_Mark.f x0 (rd x1 0)).bind fun ar => ((label_Faults_1_hil.f 4 ar a9).bind fun ak => (label_Faults.j1 x0 x1 ak))) else none) else ((label_Faults_1_hil.f 4 false a9).bind fun al => (label_Faults.j1 x0 x1 al))))))))
theorem label_Faults.c (hs : St w0 ρ (Γ) w) {v0 : Value} {x0 : Option Tbs} (h0 : PtrR rTbs ρ v0 x0) {v1 : Value} {x1 : List Int} (h1 : SlR (Rep.int .i32) ρ v1 x1) {r : List Int} (H : label_Faults.f x0 x1 = some r) : CallsR Tryz.prog 21 [v0, v1] w (fun v w' => ∃ (ρ' : Hp) (v0 : Value) (cs0 : List Value), v = v0 ∧ Le ρ ρ' ∧ St w0 ρ' (.row v0 3 (Rep.int .i64).sz r.length cs0 :: Γ) w' ∧ RowR (Rep.int .i64) ρ' cs0 r) := by
  rw [label_Faults.f] at H
  refine Et Tryz.func21 Tryz.ntmps21 rfl <| Wr fun dg cc => O_box1 hs rfl rfl h0.one (fun bb w hs => As rfl <| Ox cc <| Wr fun dh cd => O_alloc zr56 hs rfl (fun ba w hs => Ox cd <| Wr fun di ce => O_y rfl (Y_func rfl) <| As rfl ?_))
  refine Ox ce <| Wr fun dk cf => Mv rfl <| Obx 1 ag29 hs rfl <| Mv rfl ?_
  obtain ⟨b2, bc, H⟩ := bnd H
  refine Oc rfl (compose_Is.c hs h0 h1 bc) (fun dl w hpost => ?_)
  obtain ⟨rfl, hs⟩ := hpost
  refine Ont rfl ?_
  have hs := hs.rowNil 3 (Rep.int .i64).sz
  have cg := RowR.nil (Rep.int .i64) ρ
  have hs := hs.front 1 rfl
  obtain ⟨b3, bd, H⟩ := bnd H
  refine O_callv rfl rfl rfl (label_Faults_1_hil.c hs cg bd) (fun dm w hpost => ?_)
  obtain ⟨dn, dp, ch, rfl, ae, hs, ci⟩ := hpost
  have hs := hs.sink 1
  refine Ox cf <| Wr fun dq cj => Mv rfl <| Mv rfl ?_
  obtain ⟨b4, be, H⟩ := bnd H
  refine Oc rfl (label_Coded.c hs (h1.mono ae) be) (fun dr w hpost => ?_)
  obtain ⟨rfl, hs⟩ := hpost
  have hs := hs.front 1 rfl
  obtain ⟨b5, bf, H⟩ := bnd H
  refine O_callv rfl rfl rfl (label_Faults_1_hil.c hs ci bf) (fun ds w hpost => ?_)
  obtain ⟨dt, du, ck, rfl, af, hs, cl⟩ := hpost
  have hs := hs.sink 1
  refine Ox cj <| W.weak [(1, _), (2, _), (5, _), (6, _)] (T4 rfl) <| Wr fun dv cm => Mv rfl <| Mv rfl ?_
  obtain ⟨b6, bg, H⟩ := bnd H
  refine Oc rfl (slices_Contains_rune_rune.c hs (h1.mono (ae.trans af)) bg) (fun dw w hpost => ?_)
  obtain ⟨rfl, hs⟩ := hpost
  have hs := hs.front 1 rfl
  obtain ⟨a9, bh, H⟩ := bnd H
  refine O_callv rfl rfl rfl (label_Faults_1_hil.c hs cl bh) (fun dx w hpost => ?_)
  obtain ⟨b7, b8, bi, rfl, ag, hs, b9⟩ := hpost
  have hs := hs.sink 1
  refine Ox cm <| W_seqj fun bj bk au => ?_
  have av : ∀ (aa : List Int) (ab : Value) (ac : List Value) (ah : Hp) (w : World), label_Faults.j1 x0 x1 aa = some r → Le b7 ah → St w0 ah ((.row ab 3 ((Rep.int .i64).sz) aa.length ac) :: (.box ba 56 ([ab])) :: (.box bb 29 ([v0])) :: Γ) w → RowR (Rep.int .i64) ah ac aa → bj [(1, v1), (2, .pointer (some ⟨bb, 0, none⟩)), (5, .pointer (some ⟨ba, 0, none⟩)), (6, .func (.func 36) #[] #[.pointer (some ⟨ba, 0, none⟩)])] w := by
   intro aa ab ac ah w H ad hs ai
   rw [label_Faults.j1] at H
   refine bk _ _ <| Wr fun cn bl => Mv rfl <| Mv rfl <| O_y rfl (Y_func rfl) ?_
   have hs := hs.front 2 rfl
   obtain ⟨an, aw, H⟩ := bnd H
   refine Oc rfl (slices_ContainsFunc_rune_rune_dco.c hs (h1.mono (((ae.trans af).trans ag).trans ad)) (h0.mono (((ae.trans af).trans ag).trans ad)) aw) (fun co w hpost => ?_)
   obtain ⟨rfl, hs⟩ := hpost
   have hs := hs.sink 2
   have hs := hs.front 1 rfl
   obtain ⟨ao, ax, H⟩ := bnd H
   refine O_callv rfl rfl rfl (label_Faults_1_hil.c hs ai ax) (fun cp w hpost => ?_)
   obtain ⟨cq, cr, ca, rfl, aj, hs, bm⟩ := hpost
   have hs := hs.sink 1
   refine Ox bl <| Wr fun cs bn => Mv rfl <| Obx 2 ag29 hs rfl <| Mv rfl ?_
   obtain ⟨ap, ay, H⟩ := bnd H
   refine Oc rfl (joiner_Check.c hs (h0.mono ((((ae.trans af).trans ag).trans ad).trans aj)) (h1.mono ((((ae.trans af).trans ag).trans ad).trans aj)) ay) (fun ct w hpost => ?_)
   obtain ⟨rfl, hs⟩ := hpost
   refine Oge rfl ?_
   have hs := hs.front 1 rfl
   obtain ⟨aq, az, H⟩ := bnd H
   refine O_callv rfl rfl rfl (label_Faults_1_hil.c hs bm az) (fun cu w hpost => ?_)
   obtain ⟨cv, cw, cb, rfl, a0, hs, bo⟩ := hpost
   have hs := hs.sink 1
   refine Ox bn <| W.weak [(5, _)] (S1 rfl) <| Wr fun cx bp => Obx 1 ag56 hs rfl <| As rfl <| Ox bp <| W_ret ?_
   obtain rfl := sinj H
   exact r1 rfl ⟨_, _, _, rfl, (((((ae.trans af).trans ag).trans ad).trans aj).trans a0), (hs.sub (ssc (ssk (ssk ssr)))), bo⟩
  refine W_drawS 12 [0, 0, 2, 4, 8, 16, 16, 80, 144, 304, 528, 1537] [2046, 4089, 4081, 4065, 2049, 3521, 3873, 3617, 3105, 1, 1, 0] [0, 0, 2, 6, 14, 30, 30, 94, 222, 510, 1022, 2047] [9, 10, 11] (fun w => St w0 b7 ((.row b8 3 ((Rep.int .i64).sz) a9.length bi) :: (.box ba 56 ([b8])) :: (.box bb 29 ([v0])) :: Γ) w) mixed (by kernel_rfl) (fun sh => ?_)
  have hs := hs.drew
  refine Fm 0 sh rfl <| Fm 1 sh rfl <| Fp 2 sh rfl (fun w => Y_lenR un28 (h1.mono ((ae.trans af).trans ag)) rfl) <| Fp 3 sh rfl (fun w => Y_gtr rfl rfl) <| Fm 4 sh rfl <| OD_if (dj := 26) rfl (fun am => ?_) (fun am => ?_)
  ·rw [if_pos am] at H
   refine Fy 5 sh rfl hs (fun w hs => Yb 2 ag29 hs rfl rfl rfl) <| Fp 6 sh rfl (fun w => Y_move rfl) ?_
   obtain ⟨a1, H⟩ := gd H
   obtain ⟨cy, cz, bq, br⟩ := (h1.mono ((ae.trans af).trans ag)).ix el28 a1.1 a1.2
   refine Fp 7 sh rfl (fun w => br rfl rfl) <| Fy 8 sh rfl hs (fun w hs => Y_load ag21 rfl (hs.see bq.int)) <| F1 9 sh rfl (fun da bs => Oe rfl ?_)
   obtain ⟨ar, a2, H⟩ := bnd H
   refine Oc rfl (book_Tables_Mark.c hs (h0.mono ((ae.trans af).trans ag)) a2) (fun db w hpost => ?_)
   obtain ⟨rfl, hs⟩ := hpost
   refine O_nil (bs _ _ (fun h _ => absurd h (by decide)) <| OD_resetS sh [11] hs (by kernel_rfl) <| Fp 10 sh rfl (fun w => Y_pick_t rfl rfl) <| F1 11 sh rfl (fun dc bt => ?_))
   have hs := hs.front 1 rfl
   obtain ⟨ak, a3, H⟩ := bnd H
   refine O_callv rfl rfl rfl (label_Faults_1_hil.c hs b9 a3) (fun dd w hpost => ?_)
   obtain ⟨bu, bv, a4, rfl, a5, hs, bw⟩ := hpost
   have hs := hs.sink 1
   refine O_nil (bt _ _ (fun h _ => absurd h (by decide)) <| FE sh (au _ _ _ (T4 rfl) (av ak bv a4 bu _ H a5 hs bw)))
  ·rw [if_neg am] at H
   refine Fn 5 sh rfl <| Fn 6 sh rfl <| Fn 7 sh rfl <| Fn 8 sh rfl <| Fn 9 sh rfl <| Fp 10 sh rfl (fun w => Y_pick_f rfl rfl) <| F1 11 sh rfl (fun de bx => ?_)
   have hs := hs.front 1 rfl
   obtain ⟨al, a6, H⟩ := bnd H
   refine O_callv rfl rfl rfl (label_Faults_1_hil.c hs b9 a6) (fun df w hpost => ?_)
   obtain ⟨bz, b0, a7, rfl, a8, hs, b1⟩ := hpost
   have hs := hs.sink 1
   refine O_nil (bx _ _ (fun h _ => absurd h (by decide)) <| FE sh (au _ _ _ (T4 rfl) (av al b0 a7 bz _ H a8 hs b1)))

def label_first.f (x0 : List Int) : Option Int := if (x0.length : Int) = 0 then (some 0) else (if (0 : Int) ≤ 0 ∧ 0 < (x0.length : Int) then (some (rd x0 0)) else none)
theorem label_first.c (hs : St w0 ρ (Γ) w) {v0 : Value} {x0 : List Int} (h0 : SlR (Rep.int .i64) ρ v0 x0) {r : Int} (H : label_first.f x0 = some r) : CallsR Tryz.prog 31 [v0] w (fun v w' => v = .int .i64 r ∧ St w0 ρ Γ w') := by
  rw [label_first.f] at H
  refine Et Tryz.func31 Tryz.ntmps31 rfl <| Wr fun aj ac => As rfl <| Ox ac <| W_seq fun ak ad => Wr fun al ae => Mv rfl <| O_y rfl (Y_lenR un56 h0 rfl) <| Oeq rfl <| Ox ae <| W_if rfl (fun aa => ?_) (fun aa => ?_)
  ·rw [if_pos aa] at H
   refine Wr fun am af => As rfl <| Ox af <| W_ret ?_
   obtain rfl := sinj H
   exact r1 rfl ⟨rfl, hs⟩
  ·rw [if_neg aa] at H
   refine Wx ad <| Wr fun an ag => Mv rfl ?_
   obtain ⟨ab, H⟩ := gd H
   obtain ⟨ao, ap, ah, ai⟩ := h0.ix el56 ab.1 ab.2
   refine O_y rfl (ai rfl rfl) <| O_y rfl (Y_load ag3 rfl (hs.see ah.int)) <| As rfl <| Ox ag <| W_ret ?_
   obtain rfl := sinj H
   exact r1 rfl ⟨rfl, hs⟩

def label_plain_1.j1 (aa : Bool) : Option Bool := some aa
def label_plain_1.f (x0 : Int) : Option Bool := if x0 < 0 then (label_plain_1.j1 true) else (label_plain_1.j1 (decide (128 ≤ x0)))
theorem label_plain_1.c (hs : St w0 ρ (Γ) w) {x0 : Int} {r : Bool} (H : label_plain_1.f x0 = some r) : CallsR Tryz.prog 68 [.int .i32 x0] w (fun v w' => v = .bool r ∧ St w0 ρ Γ w') := by
  rw [label_plain_1.f] at H
  refine Et Tryz.func68 Tryz.ntmps68 rfl <| Wr fun ah ae => As rfl <| Ox ae <| W_seqj fun af ag ac => ?_
  have ad : ∀ (aa : Bool) (w : World), label_plain_1.j1 aa = some r → St w0 ρ (Γ) w → af [(2, .bool aa)] w := by
   intro aa w H hs
   rw [label_plain_1.j1] at H
   refine ag _ _ <| W_ret ?_
   obtain rfl := sinj H
   exact r1 rfl ⟨rfl, hs⟩
  refine W_region <| Mv rfl <| Ols rfl <| Mv rfl <| O_if (dj := 5) rfl (fun ab => ?_) (fun ab => ?_)
  ·rw [if_pos ab] at H
   refine On rfl <| On rfl <| Opk rfl <| As rfl <| O_nil (ac _ _ _ (S1 rfl) (ad true _ H hs))
  ·rw [if_neg ab] at H
   refine Oe rfl <| Mv rfl <| Oe rfl <| Oge rfl <| Opk rfl <| As rfl <| O_nil (ac _ _ _ (S1 rfl) (ad (decide (128 ≤ x0)) _ H hs))

def slices_IndexFunc_rune_rune_lae.l1 : Nat → List Int → Int → Option Int
  | 0, _, _ => none
  | ab + 1, x0, aa => if aa < (x0.length : Int) then (if (0 : Int) ≤ aa ∧ aa < (x0.length : Int) then ((label_plain_1.f (rd x0 aa)).bind fun ag => (if ag = true then (some aa) else ((slices_IndexFunc_rune_rune_lae.l1 ab x0) (IntKind.i64.wrap (aa + 1))))) else none) else (some (-1))
def slices_IndexFunc_rune_rune_lae.f (x0 : List Int) : Option Int := slices_IndexFunc_rune_rune_lae.l1 K0 x0 0
theorem slices_IndexFunc_rune_rune_lae.c (hs : St w0 ρ (Γ) w) {v0 : Value} {x0 : List Int} (h0 : SlR (Rep.int .i32) ρ v0 x0) {r : Int} (H : slices_IndexFunc_rune_rune_lae.f x0 = some r) : CallsR Tryz.prog 77 [v0, .func (.func 68) #[] #[]] w (fun v w' => v = .int .i64 r ∧ St w0 ρ Γ w') := by
  rw [slices_IndexFunc_rune_rune_lae.f] at H
  refine Et Tryz.func77 Tryz.ntmps77 rfl <| Wr fun ax ai => As rfl <| Ox ai <| W_seq fun ay aj => Wr fun az ak => Mv rfl <| O_y rfl (Y_lenR un28 h0 rfl) <| Mv rfl <| Ox ak <| W_block fun a0 al a1 => W_loop (σ := Nat × Int) (fun (ab, aa) => [(0, v0), (1, .func (.func 68) #[] #[]), (7, .int .i64 (x0.length : Int)), (8, .int .i64 aa)]) (fun (ab, aa) w => slices_IndexFunc_rune_rune_lae.l1 ab x0 aa = some r ∧ St w0 ρ (Γ) w) (fun s => s.1) (K0, 0) (T4 rfl) (Ai H hs) ?_
  rintro ⟨ab, aa⟩ w a2 ⟨H, hs⟩ ac
  show W _ _ _ _ _ _ [(0, v0), (1, .func (.func 68) #[] #[]), (7, .int .i64 (x0.length : Int)), (8, .int .i64 aa)] w
  cases ab with
  | zero => rw [slices_IndexFunc_rune_rune_lae.l1] at H; cases H
  | succ ab =>
  rw [slices_IndexFunc_rune_rune_lae.l1] at H
  refine Wr fun a3 am => Ols rfl <| Ox am <| W_seq fun a4 an => W_if rfl (fun ad => ?_) (fun ad => ?_)
  ·rw [if_pos ad] at H
   refine Wx an <| W_seq fun a5 ao => W_block fun a6 a7 a8 => Wr fun a9 ap => Mv rfl <| As rfl <| Ox ap <| Wr fun ba aq => Mv rfl <| Mv rfl <| Mv rfl ?_
   obtain ⟨ah, H⟩ := gd H
   obtain ⟨bb, bc, ar, au⟩ := h0.ix el28 ah.1 ah.2
   refine O_y rfl (au rfl rfl) <| O_y rfl (Y_load ag21 rfl (hs.see ar.int)) ?_
   obtain ⟨ag, ae, H⟩ := bnd H
   refine O_callv rfl rfl rfl (label_plain_1.c hs ae) (fun bd w hpost => ?_)
   obtain ⟨rfl, hs⟩ := hpost
   refine Ox aq <| W_cond rfl (fun af => ?_) (fun af => ?_)
   ·rw [if_pos af] at H
    refine Wr fun be av => Mv rfl <| As rfl <| Ox av <| W.weak [(4, _)] (S1 rfl) <| W_ret ?_
    obtain rfl := sinj H
    exact r1 rfl ⟨rfl, hs⟩
   ·rw [if_neg (bft af)] at H
    refine Wx ao <| W_region <| Oad rfl <| Mv rfl <| O_nil (ac (ab, (IntKind.i64.wrap (aa + 1))) _ _ (T4 rfl) (Ai H hs) (Nat.lt_succ_self _))
  ·rw [if_neg ad] at H
   refine W_exit (al _ _ (aj _ _ <| Wr fun bf aw => As rfl <| Ox aw <| W_ret ?_))
   obtain rfl := sinj H
   exact r1 rfl ⟨rfl, hs⟩

def slices_ContainsFunc_rune_rune_lae.f (x0 : List Int) : Option Bool := (slices_IndexFunc_rune_rune_lae.f x0).bind fun ab => (some (decide (0 ≤ ab)))
theorem slices_ContainsFunc_rune_rune_lae.c (hs : St w0 ρ (Γ) w) {v0 : Value} {x0 : List Int} (h0 : SlR (Rep.int .i32) ρ v0 x0) {r : Bool} (H : slices_ContainsFunc_rune_rune_lae.f x0 = some r) : CallsR Tryz.prog 39 [v0, .func (.func 68) #[] #[]] w (fun v w' => v = .bool r ∧ St w0 ρ Γ w') := by
  rw [slices_ContainsFunc_rune_rune_lae.f] at H
  refine Et Tryz.func39 Tryz.ntmps39 rfl <| Wr fun ae ac => As rfl <| Ox ac <| Wr fun af ad => Mv rfl <| Mv rfl ?_
  obtain ⟨ab, aa, H⟩ := bnd H
  refine Oc rfl (slices_IndexFunc_rune_rune_lae.c hs h0 aa) (fun ag w hpost => ?_)
  obtain ⟨rfl, hs⟩ := hpost
  refine Oge rfl <| As rfl <| Ox ad <| W_ret ?_
  obtain rfl := sinj H
  exact r1 rfl ⟨rfl, hs⟩

def label_plain.f (x0 : List Int) : Option Bool := (slices_ContainsFunc_rune_rune_lae.f x0).bind fun ab => (some (!ab))
theorem label_plain.c (hs : St w0 ρ (Γ) w) {v0 : Value} {x0 : List Int} (h0 : SlR (Rep.int .i32) ρ v0 x0) {r : Bool} (H : label_plain.f x0 = some r) : CallsR Tryz.prog 28 [v0] w (fun v w' => v = .bool r ∧ St w0 ρ Γ w') := by
  rw [label_plain.f] at H
  refine Et Tryz.func28 Tryz.ntmps28 rfl <| Wr fun ae ac => As rfl <| Ox ac <| Wr fun af ad => Mv rfl ?_
  obtain ⟨ab, aa, H⟩ := bnd H
  refine Oc rfl (slices_ContainsFunc_rune_rune_lae.c hs h0 aa) (fun ag w hpost => ?_)
  obtain ⟨rfl, hs⟩ := hpost
  refine Ont rfl <| As rfl <| Ox ad <| W_ret ?_
  obtain rfl := sinj H
  exact r1 rfl ⟨rfl, hs⟩

def puny_Usual.f : Option S11 := some (⟨36, 1, 26, 38, 700, 72, 128, 45⟩ : S11)
theorem puny_Usual.c (hs : St w0 ρ (Γ) w) {r : S11} (H : puny_Usual.f = some r) : CallsR Tryz.prog 69 [] w (fun v w' => ∃ (ρ' : Hp) (cs0 : List Value), v = .agg cs0.toArray ∧ Le ρ ρ' ∧ St w0 ρ' (Γ) w' ∧ rS11.R ρ' cs0 r) := by
  rw [puny_Usual.f] at H
  refine Et Tryz.func69 Tryz.ntmps69 rfl <| Wr fun ac aa => O_alloc zr118 hs rfl (fun ad w hs => Ox aa <| Wr fun ae ab => O_y rfl (Y_build (cs := [.int .i64 36, .int .i64 1, .int .i64 26, .int .i64 38, .int .i64 700, .int .i64 72, .int .i64 128, .int .u8 45]) zr118 pl118 ((Parts.cons rfl rfl (Parts.cons rfl rfl (Parts.cons rfl rfl (Parts.cons rfl rfl (Parts.cons rfl rfl (Parts.cons rfl rfl (Parts.cons rfl rfl (Parts.cons rfl rfl Parts.nil))))))))) ag118 (by kernel_rfl)) <| O_storeN (i := 0) sz118 hs rfl rfl rfl rfl rfl (one_cons rfl (one_cons rfl (one_cons rfl (one_cons rfl (one_cons rfl (one_cons rfl (one_cons rfl (one_cons rfl one_nil)))))))) (fun w hs => Ox ab <| W_ret ?_))
  obtain rfl := sinj H
  exact retc (i := 0) rfl rfl ag118 sz118 hs rfl rfl ⟨_, _, rfl, Le.rfl' _, (hs.sub (ssk ssr)), (show rS11.R ρ _ (⟨36, 1, 26, 38, 700, 72, 128, 45⟩ : S11) from rfl)⟩

def internal_bytealg_LastIndexByteString.l1 : Nat → ByteArray → Int → Int → Option Int
  | 0, _, _, _ => none
  | ab + 1, x0, x1, aa => if 0 ≤ aa then (if (0 : Int) ≤ aa ∧ aa < (x0.size : Int) then (if (bt x0 aa) = x1 then (some aa) else ((internal_bytealg_LastIndexByteString.l1 ab x0 x1) (IntKind.i64.wrap (aa - 1)))) else none) else (some (-1))
def internal_bytealg_LastIndexByteString.f (x0 : ByteArray) (x1 : Int) : Option Int := internal_bytealg_LastIndexByteString.l1 K0 x0 x1 (IntKind.i64.wrap ((x0.size : Int) - 1))
theorem internal_bytealg_LastIndexByteString.c (hs : St w0 ρ (Γ) w) {x0 : ByteArray} {x1 r : Int} (H : internal_bytealg_LastIndexByteString.f x0 x1 = some r) : CallsR Tryz.prog 159 [.string x0, .int .u8 x1] w (fun v w' => v = .int .i64 r ∧ St w0 ρ Γ w') := by
  rw [internal_bytealg_LastIndexByteString.f] at H
  refine Et Tryz.func159 Tryz.ntmps159 rfl <| Wr fun aq ag => As rfl <| Ox ag <| W_seq fun ar ah => Wr fun au ai => Mv rfl <| O_y rfl (Y_lens un9 rfl) <| Osu rfl <| As rfl <| Ox ai <| W_block fun av aj aw => ?_
  refine W_loop (σ := Nat × Int) (fun (ab, aa) => [(0, .string x0), (1, .int .u8 x1), (5, .int .i64 aa)]) (fun (ab, aa) w => internal_bytealg_LastIndexByteString.l1 ab x0 x1 aa = some r ∧ St w0 ρ (Γ) w) (fun s => s.1) (K0, (IntKind.i64.wrap ((x0.size : Int) - 1))) (T3 rfl) (Ai H hs) ?_
  rintro ⟨ab, aa⟩ w ax ⟨H, hs⟩ ac
  show W _ _ _ _ _ _ [(0, .string x0), (1, .int .u8 x1), (5, .int .i64 aa)] w
  cases ab with
  | zero => rw [internal_bytealg_LastIndexByteString.l1] at H; cases H
  | succ ab =>
  rw [internal_bytealg_LastIndexByteString.l1] at H
  refine W_seq fun ay ak => Wr fun az al => Mv rfl <| Oge rfl <| Ox al <| W_if rfl (fun ad => ?_) (fun ad => ?_)
  ·rw [if_pos ad] at H
   refine Wx ak <| W_seq fun a0 am => W_block fun a1 a2 a3 => Wr fun a4 an => Mv rfl <| Mv rfl ?_
   obtain ⟨af, H⟩ := gd H
   refine O_y rfl (Y_ixs un9 rfl rfl af.1 af.2) <| Mv rfl <| Oeq rfl <| Ox an <| W_if rfl (fun ae => ?_) (fun ae => ?_)
   ·rw [if_pos ae] at H
    refine Wr fun a5 ao => Mv rfl <| As rfl <| Ox ao <| W_ret ?_
    obtain rfl := sinj H
    exact r1 rfl ⟨rfl, hs⟩
   ·rw [if_neg ae] at H
    refine Wx am <| W_region <| Mv rfl <| Osu rfl <| As rfl <| O_nil (ac (ab, (IntKind.i64.wrap (aa - 1))) _ _ (T3 rfl) (Ai H hs) (Nat.lt_succ_self _))
  ·rw [if_neg ad] at H
   refine W_exit (aj _ _ (ah _ _ <| Wr fun a6 ap => As rfl <| Ox ap <| W_ret ?_))
   obtain rfl := sinj H
   exact r1 rfl ⟨rfl, hs⟩

def strings_LastIndexByte.f (x0 : ByteArray) (x1 : Int) : Option Int := (internal_bytealg_LastIndexByteString.f x0 x1).bind fun ab => (some ab)
theorem strings_LastIndexByte.c (hs : St w0 ρ (Γ) w) {x0 : ByteArray} {x1 r : Int} (H : strings_LastIndexByte.f x0 x1 = some r) : CallsR Tryz.prog 124 [.string x0, .int .u8 x1] w (fun v w' => v = .int .i64 r ∧ St w0 ρ Γ w') := by
  rw [strings_LastIndexByte.f] at H
  refine Et Tryz.func124 Tryz.ntmps124 rfl <| Wr fun ae ac => As rfl <| Ox ac <| Wr fun af ad => Mv rfl <| Mv rfl ?_
  obtain ⟨ab, aa, H⟩ := bnd H
  refine Oc rfl (internal_bytealg_LastIndexByteString.c hs aa) (fun ag w hpost => ?_)
  obtain ⟨rfl, hs⟩ := hpost
  refine As rfl <| Ox ad <| W_ret ?_
  obtain rfl := sinj H
  exact r1 rfl ⟨rfl, hs⟩

def unicode_utf8_DecodeRune.j1 : Option (Int × Int) := none
def unicode_utf8_DecodeRune.l1 : Nat → List Int → Option (Int × Int)
  | 0, _ => none
  | aa + 1, x0 => if 0 < (x0.length : Int) then (if (0 : Int) ≤ 0 ∧ 0 < (x0.length : Int) then (if (rd x0 0) < 128 then (some (IntKind.i32.wrap (rd x0 0), 1)) else (unicode_utf8_DecodeRune.j1 )) else none) else (unicode_utf8_DecodeRune.j1 )
def unicode_utf8_DecodeRune.f (x0 : List Int) : Option (Int × Int) := unicode_utf8_DecodeRune.l1 K0 x0 
theorem unicode_utf8_DecodeRune.c (hs : St w0 ρ (Γ) w) {v0 : Value} {x0 : List Int} (h0 : SlR (Rep.int .u8) ρ v0 x0) {r : Int × Int} (H : unicode_utf8_DecodeRune.f x0 = some r) : CallsR Tryz.prog 174 [v0] w (fun v w' => v = .tuple #[.int .i32 r.1, .int .i64 r.2] ∧ St w0 ρ Γ w') := by
  rw [unicode_utf8_DecodeRune.f] at H
  refine Et Tryz.func174 Tryz.ntmps174 rfl <| Wr fun ax ai => As rfl <| As rfl <| Ox ai <| W_seqj fun aj ak ae => ?_
  have af : ∀ (w : World), unicode_utf8_DecodeRune.j1 = some r → St w0 ρ (Γ) w → aj [(0, v0)] w := by
   intro w H hs
   rw [unicode_utf8_DecodeRune.j1] at H
   refine ak _ _ <| Wr fun ay az => Mv rfl ?_
   cases H
  refine Wr fun a0 al => Mv rfl <| O_y rfl (Y_lenR un72 h0 rfl) <| Mv rfl <| Ox al <| W_block fun a1 ag a2 => W_loop (σ := Nat) (fun aa => [(0, v0), (6, v0), (7, .int .i64 (x0.length : Int)), (8, .int .i64 0)]) (fun aa w => unicode_utf8_DecodeRune.l1 aa x0 = some r ∧ St w0 ρ (Γ) w) (fun s => s) (K0) (T4 rfl) (Ai H hs) ?_
  rintro aa w a3 ⟨H, hs⟩ ab
  show W _ _ _ _ _ _ [(0, v0), (6, v0), (7, .int .i64 (x0.length : Int)), (8, .int .i64 0)] w
  cases aa with
  | zero => rw [unicode_utf8_DecodeRune.l1] at H; cases H
  | succ aa =>
  rw [unicode_utf8_DecodeRune.l1] at H
  refine Wr fun a4 am => Ols rfl <| Ox am <| W_seq fun a5 an => W_if rfl (fun ac => ?_) (fun ac => ?_)
  ·rw [if_pos ac] at H
   refine Wx an <| W_seq fun a6 a7 => W_block fun a8 a9 ao => W_seq fun ba ap => W_region ?_
   obtain ⟨ah, H⟩ := gd H
   obtain ⟨bb, bc, aq, ar⟩ := h0.ix el72 ah.1 ah.2
   refine O_y rfl (ar rfl rfl) <| O_y rfl (Y_load ag5 rfl (hs.see aq.int)) <| As rfl <| Ox ap <| W_seq fun bd au => Wr fun be av => Mv rfl <| Ols rfl <| Ox av <| W_if rfl (fun ad => ?_) (fun ad => ?_)
   ·rw [if_pos ad] at H
    refine Wr fun bf aw => Mv rfl <| O_y rfl (Y_conv un5 un21 rfl) <| As rfl <| As rfl <| Ox aw <| W_ret ?_
    obtain rfl := sinj H
    exact ret2 rfl rfl rfl ⟨rfl, hs⟩
   ·rw [if_neg ad] at H
    refine Wx au <| W_exit (ao _ _ _ rfl (ag _ _ (ae _ _ _ (S1 rfl) (af _ H hs))))
  ·rw [if_neg ac] at H
   exact W_exit (ag _ _ (ae _ _ _ (S1 rfl) (af _ H hs)))

def puny_boot_basic.j1 (aa : Bool) : Option Bool := some aa
def puny_boot_basic.f (x0 : S11) (x1 : Int) : Option Bool := if (IntKind.i64.wrap x1) < x0.first then (puny_boot_basic.j1 (decide (x1 < 128))) else (puny_boot_basic.j1 false)
theorem puny_boot_basic.c (hs : St w0 ρ (Γ) w) {c0 : List Value} {x0 : S11} (h0 : rS11.R ρ c0 x0) {x1 : Int} {r : Bool} (H : puny_boot_basic.f x0 x1 = some r) : CallsR Tryz.prog 120 [.agg c0.toArray, .int .i32 x1] w (fun v w' => v = .bool r ∧ St w0 ρ Γ w') := by
  rw [puny_boot_basic.f] at H
  refine Et Tryz.func120 Tryz.ntmps120 rfl ?_
  have ae := h0
  obtain rfl := ae
  refine Wr fun aj af => O_boxN (cs := [.int .i64 x0.base, .int .i64 x0.least, .int .i64 x0.most, .int .i64 x0.skew, .int .i64 x0.damp, .int .i64 x0.bias, .int .i64 x0.first, .int .u8 x0.between]) hs rfl rfl (fun ag w hs => As rfl <| Ox af <| W_seqj fun ah ai ac => ?_)
  have ad : ∀ (aa : Bool) (w : World), puny_boot_basic.j1 aa = some r → St w0 ρ ((.box ag 117 ([.int .i64 x0.base, .int .i64 x0.least, .int .i64 x0.most, .int .i64 x0.skew, .int .i64 x0.damp, .int .i64 x0.bias, .int .i64 x0.first, .int .u8 x0.between])) :: Γ) w → ah [(4, .bool aa)] w := by
   intro aa w H hs
   rw [puny_boot_basic.j1] at H
   refine ai _ _ <| W_ret ?_
   obtain rfl := sinj H
   exact r1 rfl ⟨rfl, (hs.sub (ssk ssr))⟩
  refine W_region <| Mv rfl <| O_y rfl (Y_conv un21 un3 rfl) <| Ofd fo117_6 rfl <| Obx 0 ag3 hs rfl <| Ols rfl <| Mv rfl <| O_if (dj := 10) rfl (fun ab => ?_) (fun ab => ?_)
  ·rw [if_pos ab] at H
   refine Oe rfl <| Mv rfl <| Oe rfl <| Ols rfl <| Opk rfl <| As rfl <| O_nil (ac _ _ _ (S1 rfl) (ad (decide (x1 < 128)) _ H hs))
  ·rw [if_neg ab] at H
   refine On rfl <| On rfl <| Opk rfl <| As rfl <| O_nil (ac _ _ _ (S1 rfl) (ad false _ H hs))

def puny_boot_decode_1_hme.f (x0 y0_0 y0_1 y0_2 y0_3 y0_4 y0_5 y0_6 y0_7 : Int) : Option Bool := (puny_boot_basic.f (⟨y0_0, y0_1, y0_2, y0_3, y0_4, y0_5, y0_6, y0_7⟩ : S11) x0).bind fun ab => (some (!ab))
theorem puny_boot_decode_1_hme.c {pb0 : Nat} {y0_0 y0_1 y0_2 y0_3 y0_4 y0_5 y0_6 y0_7 : Int} (hs : St w0 ρ ((.box pb0 117 ([.int .i64 y0_0, .int .i64 y0_1, .int .i64 y0_2, .int .i64 y0_3, .int .i64 y0_4, .int .i64 y0_5, .int .i64 y0_6, .int .u8 y0_7])) :: Γ) w) {x0 : Int} {r : Bool} (H : puny_boot_decode_1_hme.f x0 y0_0 y0_1 y0_2 y0_3 y0_4 y0_5 y0_6 y0_7 = some r) : CallsR Tryz.prog 126 [.int .i32 x0, .pointer (some ⟨pb0, 0, none⟩)] w (fun v w' => v = .bool r ∧ St w0 ρ ((.box pb0 117 ([.int .i64 y0_0, .int .i64 y0_1, .int .i64 y0_2, .int .i64 y0_3, .int .i64 y0_4, .int .i64 y0_5, .int .i64 y0_6, .int .u8 y0_7])) :: Γ) w') := by
  rw [puny_boot_decode_1_hme.f] at H
  refine Et Tryz.func126 Tryz.ntmps126 rfl <| Wr fun ae ac => As rfl <| Ox ac <| Wr fun af ad => O_y rfl (Y_loadbN (i := 0) ag117 sz117 hs rfl rfl rfl rfl) <| Mv rfl ?_
  obtain ⟨ab, aa, H⟩ := bnd H
  refine Oc rfl (puny_boot_basic.c hs (show rS11.R ρ _ (⟨y0_0, y0_1, y0_2, y0_3, y0_4, y0_5, y0_6, y0_7⟩ : S11) from rfl) aa) (fun ag w hpost => ?_)
  obtain ⟨rfl, hs⟩ := hpost
  refine Ont rfl <| As rfl <| Ox ad <| W_ret ?_
  obtain rfl := sinj H
  exact r1 rfl ⟨rfl, hs⟩

end Go.Proofs.YthoicbafdanmkaaGreatDoor
/- slices.Insert of one rune into a row of one's own, by hand. Own work of this repo. -/
namespace Go.Proofs.YthoicbafdanmkaaGreatDoor
open Go.RowKit
theorem ins_grow (C D zs : List Value) (z : Value) (k : Nat) (hC : C.length = k) (hz : zs.length = D.length + 1) : wl D (k + 1) (wl [z] k (C ++ zs)) = C ++ z :: D := by
  cases zs with
  | nil => simp at hz
  | cons y t =>
    have ht : t.length = D.length := by simpa using hz
    subst hC
    rw [wl_eq [z] _ _ (by simp)]
    have e : (C ++ y :: t).take C.length ++ ([z] ++ (C ++ y :: t).drop (C.length + [z].length)) = (C ++ [z]) ++ t := by
      rw [List.take_left', List.drop_append]
      · simp
      · rfl
    rw [e, wl_eq D _ _ (by simp; omega), List.take_left' (by simp), List.drop_append, List.drop_of_length_le (l := C ++ [z]) (by simp), List.drop_of_length_le (by simp; omega)]
    simp
theorem ins_room (C D : List Value) (y z : Value) (k : Nat) (hC : C.length = k) : wl [z] k (wl D (k + 1) (C ++ D ++ [y])) = C ++ z :: D := by
  subst hC
  obtain ⟨h, t, ht, hl⟩ : ∃ h t, D ++ [y] = h :: t ∧ t.length = D.length := by
    cases hd : D ++ [y] with
    | nil => simp at hd
    | cons h t => exact ⟨h, t, rfl, by have := congrArg List.length hd; simp at this; omega⟩
  rw [List.append_assoc, ht, wl_eq D _ _ (by simp; omega)]
  have e : (C ++ h :: t).take (C.length + 1) ++ (D ++ (C ++ h :: t).drop (C.length + 1 + D.length)) = C ++ (h :: D) := by
    rw [show C ++ h :: t = (C ++ [h]) ++ t by simp, List.take_left' (by simp), List.drop_of_length_le (by simp; omega)]
    simp
  rw [e, wl_eq [z] _ _ (by simp), List.take_left' rfl, List.drop_append]
  simp
set_option maxRecDepth 100000 in
set_option maxHeartbeats 4000000 in
theorem slices_Insert.c {w0 w : World} {ρ : Hp} {Γ : List Item} {v u : Value} {cs ds : List Value} {xs : List Int} {z i : Int} (hs : St w0 ρ ((.row v 21 (Rep.int .i32).sz xs.length cs) :: (.row u 21 (Rep.int .i32).sz 1 ds) :: Γ) w) (f : RowR (Rep.int .i32) ρ cs xs) (g : RowR (Rep.int .i32) ρ ds [z]) (h0 : 0 ≤ i) (h1 : i ≤ (xs.length : Int)) (hm : xs.length + 1 ≤ most) :
    CallsR Tryz.prog 162 [v, .int .i64 i, u] w (fun r w' => ∃ cs', St w0 ρ ((.row r 21 (Rep.int .i32).sz (insZ xs i z).length cs') :: Γ) w' ∧ RowR (Rep.int .i32) ρ cs' (insZ xs i z)) := by
  have hbig : most = 2147483648 := rfl
  have hn : ∃ n, xs.length = n := ⟨_, rfl⟩
  obtain ⟨n, hn⟩ := hn
  obtain ⟨k, rfl⟩ : ∃ k : Nat, i = k := ⟨i.toNat, by omega⟩
  have hil : (insZ xs k z).length = n + 1 := by simp [insZ]; omega
  rw [hil]
  rw [hn] at hs h1 hm
  have hcs := f.ints
  have hds := g.ints
  subst hcs hds
  have hs : St w0 ρ ((.row v 21 1 n (xs.map (Value.int .i32))) :: (.row u 21 1 1 [.int .i32 z]) :: Γ) w := hs
  clear f g
  have hfin : ∀ (r : Value) (w' : World), St w0 ρ ((.row r 21 1 (n + 1) ((insZ xs k z).map (Value.int .i32))) :: Γ) w' → ∃ cs', St w0 ρ ((.row r 21 (Rep.int .i32).sz (n + 1) cs') :: Γ) w' ∧ RowR (Rep.int .i32) ρ cs' (insZ xs k z) := fun r w' h => ⟨_, h, RowR.ofInts _⟩
  have hik : ((k : Int)).toNat = k := by omega
  have hone : ∀ v ∈ xs.map (Value.int .i32), v.oneCell' = true := fun v hv => by
    obtain ⟨y, _, rfl⟩ := List.mem_map.1 hv
    rfl
  have w1 : IntKind.i64.wrap ((n : Int) + ((1 : Nat) : Int)) = ((n + 1 : Nat) : Int) := by rw [IntKind.wrap_i64]; omega
  have w2 : IntKind.i64.wrap ((k : Int) + ((1 : Nat) : Int)) = ((k + 1 : Nat) : Int) := by rw [IntKind.wrap_i64]; omega
  have w3 : IntKind.i64.wrap (((n + 1 : Nat) : Int) - (k : Int)) = ((n + 1 - k : Nat) : Int) := by rw [IntKind.wrap_i64]; omega
  obtain ⟨a, c, rfl, hnc⟩ : ∃ a c, v = .slice a n c ∧ n ≤ c := by
    have hok : w.ownsRow 0 21 1 v n _ := hs.ok _ (List.mem_of_getElem? (i := 0) rfl)
    rcases hok.2 with ⟨rfl, rfl⟩ | ⟨q, cap, cur, rfl, _, _, h, _⟩
    · exact ⟨none, 0, rfl, Nat.le_refl _⟩
    · exact ⟨_, _, rfl, h⟩
  refine enter Tryz.func162 Tryz.ntmps162 rfl (by kernel_rfl) rfl ?_
  refine W_seq fun N1 n1 => ?_
  refine W_region ?_
  refine O_y rfl (Y_assign rfl) ?_
  refine O_nil (n1 _ _ ?_)
  refine W_seq fun N2 n2 => ?_
  refine W_region ?_
  refine O_y rfl (Y_move rfl) ?_
  refine O_y rfl (Y_move rfl) ?_
  refine O_y rfl (Y_slice el28 rfl (.inr ⟨_, _, rfl, rfl⟩) (.inl ⟨rfl, rfl⟩) h0 h1 (Int.le_refl _) hnc) ?_
  refine O_nil (n2 _ _ ?_)
  refine W_seq fun N3 n3 => ?_
  refine W_region ?_
  refine O_y rfl (Y_move rfl) ?_
  refine O_y rfl (Y_lenRow (i := 1) un28 hs rfl rfl) ?_
  refine O_y rfl (Y_assign rfl) ?_
  refine O_nil (n3 _ _ ?_)
  refine W_seq fun N4 n4 => ?_
  refine W_seq fun M4 m4 => ?_
  refine W_region ?_
  refine O_y rfl (Y_move rfl) ?_
  refine O_y rfl (Y_eql rfl rfl) ?_
  refine O_nil (m4 _ _ ?_)
  refine W_if rfl (fun c1 => absurd c1 (by decide)) (fun _ => ?_)
  refine W_skip (n4 _ _ ?_)
  refine W_seq fun N6 n6 => ?_
  refine W_region ?_
  refine O_y rfl (Y_move rfl) ?_
  refine O_y rfl (Y_lenRow (i := 0) un28 hs rfl rfl) ?_
  refine O_y rfl (Y_assign rfl) ?_
  refine O_nil (n6 _ _ ?_)
  refine W_seq fun N7 n7 => ?_
  refine W_seq fun M7 m7 => ?_
  refine W_region ?_
  refine O_y rfl (Y_move rfl) ?_
  refine O_y rfl (Y_move rfl) ?_
  refine O_y rfl (Y_eql rfl rfl) ?_
  refine O_nil (m7 _ _ ?_)
  refine W_if rfl (fun c2 => ?_) (fun c2 => ?_)
  · refine W_seq fun N9 n9 => ?_
    refine W_region ?_
    refine O_y rfl (Y_move rfl) ?_
    refine O_y rfl (Y_move rfl) ?_
    refine O_append (i := 0) el28 hs rfl rfl rfl rfl (Src.row hs (j := 1) rfl (by intro y hy; simp at hy; subst hy; rfl)) hm (fun v' w hs => ?_)
    refine O_y rfl (Y_assign rfl) ?_
    refine O_nil (n9 _ _ ?_)
    refine W_ret ?_
    refine ret1 rfl rfl (hfin _ _ ?_)
    have e : (insZ xs k z).map (Value.int .i32) = xs.map (Value.int .i32) ++ [.int .i32 z] := by
      simp only [insZ, hik]
      rw [List.take_of_length_le (by omega), List.drop_of_length_le (by omega)]
      simp
    rw [e]
    exact hs.sub (.cons_cons _ (.cons _ (List.Sublist.refl _)))
  · have hkn : k < n := by omega
    refine W_skip (n7 _ _ ?_)
    obtain ⟨gb, rfl⟩ : ∃ gb, a = some ⟨gb, 0, none⟩ := by
      have hok : w.ownsRow 0 21 1 (.slice a n c) n _ := hs.ok _ (List.mem_of_getElem? (i := 0) rfl)
      rcases hok.2 with ⟨_, h⟩ | ⟨q, cap, cur, h, _⟩
      · omega
      · cases h; exact ⟨_, rfl⟩
    obtain ⟨gu, cu, rfl⟩ : ∃ gu cu, u = .slice (some ⟨gu, 0, none⟩) 1 cu := by
      have hok : w.ownsRow 0 21 1 u 1 _ := hs.ok _ (List.mem_of_getElem? (i := 1) rfl)
      rcases hok.2 with ⟨_, h⟩ | ⟨q, cap, cur, h, _⟩
      · omega
      · exact ⟨_, _, h⟩
    have hne : gu ≠ gb := by
      have := hs.nodup
      simp only [List.filterMap_cons, Item.blk, Value.ownBlock] at this
      intro e
      subst e
      simp at this
    have hdl : ((xs.map (Value.int .i32)).drop k).length = n - k := by simp; omega
    refine W_seq fun N10 n10 => ?_
    refine W_seq fun M10 m10 => ?_
    refine W_region ?_
    refine O_y rfl (Y_move rfl) ?_
    refine O_y rfl (Y_move rfl) ?_
    refine O_y rfl (Y_add rfl rfl) ?_
    rw [w1]
    refine O_y rfl (Y_move rfl) ?_
    refine O_y rfl (Y_cap un28 rfl) ?_
    refine O_y rfl (Y_gtr rfl rfl) ?_
    refine O_nil (m10 _ _ ?_)
    refine W_if rfl (fun c3 => ?_) (fun c3 => ?_)
    · have hcn : c < k + (n + 1 - k) := by omega
      refine W_seq fun N12 n12 => ?_
      refine W_region ?_
      refine O_y rfl (Y_move rfl) ?_
      refine O_y rfl (Y_move rfl) ?_
      refine O_y rfl (Y_sliceUp el28 rfl rfl h0 (by omega)) ?_
      rw [hik]
      refine O_y rfl (Y_move rfl) ?_
      refine O_y rfl (Y_move rfl) ?_
      refine O_y rfl (Y_add rfl rfl) ?_
      rw [w1]
      refine O_y rfl (Y_move rfl) ?_
      refine O_y rfl (Y_sub rfl rfl) ?_
      rw [w3]
      refine O_appendMake (olds := (xs.map (Value.int .i32)).take k) el28 un3 hs rfl rfl rfl (by simp; omega) (fun j y hj => ?_) (by omega) hcn (by omega) (fun b zs c' w hz hc' hs => ?_)
      · rw [List.getElem?_take] at hj
        split at hj
        · rw [Addr.add_lit, Nat.zero_add]; exact hs.rowCell (j := 0) rfl rfl hj
        · cases hj
      have ek : k + (n + 1 - k) = n + 1 := by omega
      rw [ek] at hs hc' ⊢
      refine O_y rfl (Y_assign rfl) ?_
      refine O_nil (n12 _ _ ?_)
      refine W_seq fun N13 n13 => ?_
      refine W_region ?_
      refine O_y rfl (Y_move rfl) ?_
      refine O_y rfl (Y_move rfl) ?_
      refine O_y rfl (Y_sliceFrom el28 rfl rfl (by omega) (by omega) hc') ?_
      refine O_y rfl (Y_move rfl) ?_
      refine O_copyRow (j := 0) (vs := [.int .i32 z]) (g := b) el28 hs rfl rfl rfl rfl rfl (by simp only [Nat.min_def]; split <;> simp <;> omega) (by simp [hz]; omega) (fun j y hj => ?_) (by intro y hy; simp at hy; subst hy; rfl) (fun w hs => ?_)
      · rw [Addr.add_lit, Nat.zero_add]; exact hs.rowCell (j := 2) rfl rfl hj
      refine O_nil (n13 _ _ ?_)
      refine W_seq fun N15 n15 => ?_
      refine W_drawS 9 [0, 0, 0, 6, 9, 0, 0, 96, 144] [494, 501, 499, 481, 224, 351, 319, 31, 0] [0, 0, 0, 6, 15, 0, 0, 96, 255] [] (fun _ => True) mixed (by kernel_rfl) (fun sh => ?_)
      have hs := hs.drew
      refine OD_pS sh (i := 0) rfl rfl (by kernel_rfl) (fun w => Y_move rfl) ?_
      refine OD_pS sh (i := 1) rfl rfl (by kernel_rfl) (fun w => Y_move rfl) ?_
      refine OD_pS sh (i := 2) rfl rfl (by kernel_rfl) (fun w => Y_move rfl) ?_
      refine OD_pS sh (i := 3) rfl rfl (by kernel_rfl) (fun w => Y_add rfl rfl) ?_
      rw [w2]
      refine OD_pS sh (i := 4) rfl rfl (by kernel_rfl) (fun w => Y_sliceFrom el28 rfl rfl (by omega) (by omega) hc') ?_
      refine OD_pS sh (i := 5) rfl rfl (by kernel_rfl) (fun w => Y_move rfl) ?_
      refine OD_pS sh (i := 6) rfl rfl (by kernel_rfl) (fun w => Y_move rfl) ?_
      refine OD_pS sh (i := 7) rfl rfl (by kernel_rfl) (fun w => Y_sliceFrom el28 rfl rfl (by omega) (by omega) hnc) ?_
      refine OD_oneS sh (i := 8) rfl (by kernel_rfl) (fun N16 n16 => ?_)
      refine O_copyRow (j := 0) (vs := (xs.map (Value.int .i32)).drop k) (g := b) el28 hs rfl rfl rfl rfl rfl (by rw [hdl]; simp only [Nat.min_def]; split <;> omega) (by simp [wl_len, hz]; omega) (fun j y hj => ?_) (fun y hy => hone y (List.mem_of_mem_drop hy)) (fun w hs => ?_)
      · rw [Addr.add_lit, Nat.zero_add]
        rw [List.getElem?_drop] at hj
        exact hs.rowCell (j := 1) rfl rfl hj
      refine O_nil (n16 _ _ (fun _ _ => trivial) ?_)
      refine OD_doneS sh (by kernel_rfl) (n15 _ _ ?_)
      refine W_seq fun N17 n17 => ?_
      refine W_region ?_
      refine O_y rfl (Y_move rfl) ?_
      refine O_y rfl (Y_assign rfl) ?_
      refine O_nil (n17 _ _ ?_)
      refine W_ret ?_
      refine ret1 rfl rfl (hfin _ _ ?_)
      have e : (insZ xs k z).map (Value.int .i32) = wl ((xs.map (Value.int .i32)).drop k) (0 + (k + 1)) (wl [.int .i32 z] (0 + k) ((xs.map (Value.int .i32)).take k ++ zs)) := by
        rw [Nat.zero_add, Nat.zero_add, ins_grow _ _ _ _ k (by simp; omega) (by rw [hdl, hz]; omega)]
        simp [insZ, hik]
      rw [e]
      exact hs.sub (.cons_cons _ (.cons _ (.cons _ (List.Sublist.refl _))))
    · refine W_skip (n10 _ _ ?_)
      have hcn : n + 1 ≤ c := by omega
      refine W_seq fun N12 n12 => ?_
      refine W_region ?_
      refine O_y rfl (Y_move rfl) ?_
      refine O_y rfl (Y_move rfl) ?_
      refine O_y rfl (Y_move rfl) ?_
      refine O_y rfl (Y_add rfl rfl) ?_
      rw [w1]
      refine O_y rfl (Y_sliceUp el28 rfl rfl (by omega) (by omega)) ?_
      have e1 : ((n + 1 : Nat) : Int).toNat = n + 1 := by omega
      rw [e1]
      refine O_y rfl (Y_assign rfl) ?_
      refine O_nil (n12 _ _ ?_)
      obtain ⟨y0, hs⟩ := hs.rowRoom (j := 0) rfl hcn
      refine W_seq fun N13 n13 => ?_
      refine W_seq fun M13 m13 => ?_
      refine W_region ?_
      refine O_y rfl (Y_move rfl) ?_
      refine O_y rfl (Y_move rfl) ?_
      refine O_y rfl (Y_move rfl) ?_
      refine O_y rfl (Y_move rfl) ?_
      refine O_y rfl (Y_add rfl rfl) ?_
      rw [w2]
      refine O_y rfl (Y_sliceFrom el28 rfl rfl (by omega) (by omega) hcn) ?_
      refine O_y rfl (Y_ext (r := .bool false) rfl ?_) ?_
      · have hu : w.ownsRow 0 21 1 (.slice (some ⟨gu, 0, none⟩) 1 cu) 1 _ := hs.ok _ (List.mem_of_getElem? (i := 1) rfl)
        have hv : w.ownsRow 0 21 1 (.slice (some ⟨gb, 0, none⟩) (n + 1) c) (n + 1) _ := hs.ok _ (List.mem_of_getElem? (i := 0) rfl)
        obtain ⟨cA, hA⟩ : ∃ cA, w.heap[gu]? = some (.cells cA 21 (0, 0)) := by
          rcases hu.2 with ⟨h, _⟩ | ⟨q, cap, cur, h, _, hh, _⟩
          · cases h
          · cases h; exact ⟨_, hh⟩
        obtain ⟨cB, hB, hBz⟩ : ∃ cB, w.heap[gb]? = some (.cells cB 21 (0, 0)) ∧ cB.size ≠ 0 := by
          rcases hv.2 with ⟨h, _⟩ | ⟨q, cap, cur, h, _, hh, h3, _, h5, _⟩
          · cases h
          · cases h; exact ⟨_, hh, by omega⟩
        rw [run_callFunc_extern Tryz.func176 (by kernel_rfl) (by kernel_rfl) (by kernel_rfl) (e := Extern.SlicesOverlaps.overlaps #[28, 28] #[4]) (by kernel_rfl),
          Lib.run_overlaps_apart w 28 4 21 un28 1 (fun w => run_sizeOf sz21) ⟨gu, 0, none⟩ ⟨gb, 0 + (k + 1), none⟩ 1 cu _ _ hne 21 21 cA.size cB.size (by simp [World.shape?, hA]) (by simp [World.shape?, hB]) hBz (by simp [World.frozen?, hA]) (by simp [World.frozen?, hA])]
        rfl
      refine O_y rfl (Y_not rfl) ?_
      refine O_nil (m13 _ _ ?_)
      refine W_true rfl ?_
      refine W_seq fun N15 n15 => ?_
      refine W_drawS 9 [0, 0, 0, 6, 9, 0, 0, 96, 144] [494, 501, 499, 481, 224, 351, 319, 31, 0] [0, 0, 0, 6, 15, 0, 0, 96, 255] [] (fun _ => True) mixed (by kernel_rfl) (fun sh => ?_)
      have hs := hs.drew
      refine OD_pS sh (i := 0) rfl rfl (by kernel_rfl) (fun w => Y_move rfl) ?_
      refine OD_pS sh (i := 1) rfl rfl (by kernel_rfl) (fun w => Y_move rfl) ?_
      refine OD_pS sh (i := 2) rfl rfl (by kernel_rfl) (fun w => Y_move rfl) ?_
      refine OD_pS sh (i := 3) rfl rfl (by kernel_rfl) (fun w => Y_add rfl rfl) ?_
      rw [w2]
      refine OD_pS sh (i := 4) rfl rfl (by kernel_rfl) (fun w => Y_sliceFrom el28 rfl rfl (by omega) (by omega) hcn) ?_
      refine OD_pS sh (i := 5) rfl rfl (by kernel_rfl) (fun w => Y_move rfl) ?_
      refine OD_pS sh (i := 6) rfl rfl (by kernel_rfl) (fun w => Y_move rfl) ?_
      refine OD_pS sh (i := 7) rfl rfl (by kernel_rfl) (fun w => Y_sliceFrom el28 rfl rfl (by omega) (by omega) hcn) ?_
      refine OD_oneS sh (i := 8) rfl (by kernel_rfl) (fun N16 n16 => ?_)
      refine O_copyRow (j := 0) (vs := (xs.map (Value.int .i32)).drop k) (g := gb) el28 hs rfl rfl rfl rfl rfl (by rw [hdl]; simp only [Nat.min_def]; split <;> omega) (by simp; omega) (fun j y hj => ?_) (fun y hy => hone y (List.mem_of_mem_drop hy)) (fun w hs => ?_)
      · rw [Addr.add_lit, Nat.zero_add]
        rw [List.getElem?_drop] at hj
        exact hs.rowCell (j := 0) rfl rfl (by rw [List.getElem?_append_left (List.getElem?_eq_some_iff.1 hj).1]; exact hj)
      refine O_nil (n16 _ _ (fun _ _ => trivial) ?_)
      refine OD_doneS sh (by kernel_rfl) (n15 _ _ ?_)
      refine W_seq fun N17 n17 => ?_
      refine W_region ?_
      refine O_y rfl (Y_move rfl) ?_
      refine O_y rfl (Y_move rfl) ?_
      refine O_y rfl (Y_sliceFrom el28 rfl rfl (by omega) (by omega) hcn) ?_
      refine O_y rfl (Y_move rfl) ?_
      refine O_copyRow (j := 0) (vs := [.int .i32 z]) (g := gb) el28 hs rfl rfl rfl rfl rfl (by simp only [Nat.min_def]; split <;> simp <;> omega) (by simp [wl_len]; omega) (fun j y hj => ?_) (by intro y hy; simp at hy; subst hy; rfl) (fun w hs => ?_)
      · rw [Addr.add_lit, Nat.zero_add]; exact hs.rowCell (j := 1) rfl rfl hj
      refine O_nil (n17 _ _ ?_)
      refine W_seq fun N18 n18 => ?_
      refine W_region ?_
      refine O_y rfl (Y_move rfl) ?_
      refine O_y rfl (Y_assign rfl) ?_
      refine O_nil (n18 _ _ ?_)
      refine W_ret ?_
      refine ret1 rfl rfl (hfin _ _ ?_)
      have e : (insZ xs k z).map (Value.int .i32) = wl [.int .i32 z] (0 + k) (wl ((xs.map (Value.int .i32)).drop k) (0 + (k + 1)) (xs.map (Value.int .i32) ++ [y0])) := by
        have e0 : xs.map (Value.int .i32) = (xs.map (Value.int .i32)).take k ++ (xs.map (Value.int .i32)).drop k := (List.take_append_drop k _).symm
        rw [Nat.zero_add, Nat.zero_add]
        rw [show wl ((xs.map (Value.int .i32)).drop k) (k + 1) (xs.map (Value.int .i32) ++ [y0]) = wl ((xs.map (Value.int .i32)).drop k) (k + 1) ((xs.map (Value.int .i32)).take k ++ (xs.map (Value.int .i32)).drop k ++ [y0]) from by rw [← e0]]
        rw [ins_room _ _ _ _ k (by simp; omega)]
        simp [insZ, hik]
      rw [e]
      exact hs.sub (.cons_cons _ (.cons _ (List.Sublist.refl _)))
end Go.Proofs.YthoicbafdanmkaaGreatDoor
