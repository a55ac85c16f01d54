/- Written by this repo's gen.py: for each Go function a Lean function with the same answers and the walk that shows it. -/
import Derived.Test.YtekafkokpnihfaaGreatMark12
import Derived.Test.YtekafkokpnihfaaGreatTA2
import Derived.Test.YtekafkokpnihfaaGreatTC0
import Derived.Test.YtekafkokpnihfaaGreatTC1
import Derived.Test.YtekafkokpnihfaaGreatTD0
import Derived.Test.YtekafkokpnihfaaGreatData
import Derived.Test.YtekafkokpnihfaaGreatFacts
namespace Go.Proofs.YtekafkokpnihfaaGreat
open Go.RowKit
set_option maxRecDepth 100000
set_option maxHeartbeats 4000000
set_option linter.unusedVariables false
def canon_Decomposer_Feed_pfg.j1 (an : Int → Option (List Int × List Int)) (y0_0 : Option Tbs) (y1 ab : List Int) (aa : Int) (ac : Bool) : Option (List Int × List Int) := if ac = true then (an (IntKind.i64.wrap (aa - 1))) else (if aa ≤ 0 then (some (([] : List Int), y1 ++ ab)) else (if (0 : Int) ≤ 0 ∧ 0 ≤ aa ∧ aa ≤ ((y1 ++ ab).length : Int) then ((canon_Order.f y0_0 (sub (y1 ++ ab) 0 aa)).bind fun aw => (if (0 : Int) ≤ aa ∧ aa ≤ ((y1 ++ ab).length : Int) ∧ ((y1 ++ ab).length : Int) ≤ ((y1 ++ ab).length : Int) then ((slices_Clone_rune_rune.f (sub (y1 ++ ab) aa ((y1 ++ ab).length : Int))).bind fun ax => (some (aw, ax))) else none)) else none))
def canon_Decomposer_Feed_pfg.l1 : Nat → Option Tbs → List Int → List Int → Int → Option (List Int × List Int)
  | 0, _, _, _, _ => none
  | ad + 1, y0_0, y1, ab, aa => if 0 ≤ aa then (if (0 : Int) ≤ aa ∧ aa < ((y1 ++ ab).length : Int) then ((book_Tables_Class.f y0_0 (rd (y1 ++ ab) aa)).bind fun ao => (canon_Decomposer_Feed_pfg.j1 (canon_Decomposer_Feed_pfg.l1 ad y0_0 y1 ab) y0_0 y1 ab aa (decide (ao ≠ 0)))) else none) else (canon_Decomposer_Feed_pfg.j1 (canon_Decomposer_Feed_pfg.l1 ad y0_0 y1 ab) y0_0 y1 ab aa false)
def canon_Decomposer_Feed_pfg.f (x1 : List Int) (y0_0 : Option Tbs) (y1 : List Int) : Option (List Int × List Int) := (canon_parts.f y0_0 x1).bind fun ab => (if y1.length + ab.length ≤ most then (canon_Decomposer_Feed_pfg.l1 K0 y0_0 y1 ab (IntKind.i64.wrap (((y1 ++ ab).length : Int) - 1))) else none)
theorem canon_Decomposer_Feed_pfg.c {w0 w : World} {ρ : Hp} {Γ : List Item} {pb0 : Nat} {w0_0 : Value} {y0_0 : Option Tbs} {w1 : Value} {d1 : List Value} {y1 : List Int} (hs : St w0 ρ ((.box pb0 64 ([w0_0, w1])) :: (.row w1 21 ((Rep.int .i32).sz) y1.length d1) :: Γ) w) {v1 : Value} {x1 : List Int} (h1 : SlR (Rep.int .i32) ρ v1 x1) (g0_0 : PtrR rTbs ρ w0_0 y0_0) (g1 : RowR (Rep.int .i32) ρ d1 y1) {r : List Int × List Int} (H : canon_Decomposer_Feed_pfg.f x1 y0_0 y1 = some r) : CallsR Tryz.prog 14 [.pointer (some ⟨pb0, 0, none⟩), v1] w (fun v w' => ∃ (ρ' : Hp) (v0 : Value) (cs0 : List Value) (u0 : Value) (ds0 : List Value), v = v0 ∧ Le ρ ρ' ∧ St w0 ρ' (.row v0 21 (Rep.int .i32).sz r.1.length cs0 :: (.box pb0 64 ([w0_0, u0])) :: (.row u0 21 ((Rep.int .i32).sz) r.2.length ds0) :: Γ) w' ∧ RowR (Rep.int .i32) ρ' cs0 r.1 ∧ RowR (Rep.int .i32) ρ' ds0 r.2) := by
  rw [canon_Decomposer_Feed_pfg.f] at H
  refine enter Tryz.func14 Tryz.ntmps14 rfl (by kernel_rfl) rfl <| Wr fun cr bu => Oa rfl rfl <| O_nil (bu _ _ <| W_seq fun cs bv => Wr fun ct bw => Om rfl rfl <| O_y rfl (Y_eqlp un44 rfl rfl) <| O_nil (bw _ _ <| W_false rfl <| W_skip (bv _ _ <| W_seq fun cu bx => ?_)))
  refine W_drawS 15 [0, 0, 2, 4, 8, 0, 32, 64, 128, 0, 768, 1040, 4095, 8191, 12287] [4094, 4089, 4081, 4065, 2017, 3999, 3871, 3615, 2591, 2559, 31, 1, 16384, 0, 0] [0, 0, 2, 6, 14, 0, 32, 96, 224, 0, 992, 2046, 4095, 8191, 16383] [11, 12, 13, 14] (fun w => St w0 ρ ((.box pb0 64 ([w0_0, w1])) :: (.row w1 21 ((Rep.int .i32).sz) y1.length d1) :: Γ) w) mixed (by kernel_rfl) (fun sh => ?_)
  have hs := hs.drew
  refine Dm 0 sh rfl rfl (by kernel_rfl) rfl <| Dm 1 sh rfl rfl (by kernel_rfl) rfl <| Dp 2 sh rfl rfl (by kernel_rfl) (fun w => Y_nilp rfl) <| Dp 3 sh rfl rfl (by kernel_rfl) (fun w => Y_field fo64_1 rfl) <| Dy 4 sh rfl rfl (by kernel_rfl) hs (fun w hs => Yb 0 ag28 hs rfl rfl rfl) <| Dm 5 sh rfl rfl (by kernel_rfl) rfl <| Dp 6 sh rfl rfl (by kernel_rfl) (fun w => Y_nilp rfl) <| Dp 7 sh rfl rfl (by kernel_rfl) (fun w => Y_field fo64_0 rfl) <| Dy 8 sh rfl rfl (by kernel_rfl) hs (fun w hs => Yb 0 ag29 hs rfl rfl rfl) <| Dm 9 sh rfl rfl (by kernel_rfl) rfl <| D1 10 sh rfl (by kernel_rfl) (fun cv bz => ?_)
  obtain ⟨ab, a5, H⟩ := bnd H
  refine O_call rfl rfl (canon_parts.c hs g0_0 h1 a5) (fun a4 w hpost => ?_)
  obtain ⟨ay, cw, ag, rfl, ae, hs, bp⟩ := hpost
  refine O_nil (bz _ _ (fun _ _ => ((hs.less ae).sub (ssk (ssc (ssc ssr))))) ?_)
  obtain ⟨b0, H⟩ := gd H
  refine D1 11 sh rfl (by kernel_rfl) (fun cx b1 => O_appendR (i := 2) el28 hs rfl (g1.mono ae) rfl rfl rfl (Src.lit (j := 0) hs rfl bp) bp b0 (fun ai ah w a6 hs => O_nil (b1 _ _ (fun _ _ => by first | contradiction | (rename_i h; cases h)) <| OD_resetS sh [14] hs (by kernel_rfl) <| Dp 12 sh rfl rfl (by kernel_rfl) (fun w => Y_nilp rfl) <| Dp 13 sh rfl rfl (by kernel_rfl) (fun w => Y_field fo64_1 rfl) <| D1 14 sh rfl (by kernel_rfl) (fun cy b2 => O_store (i := 1) sz28 hs rfl rfl rfl rfl (St.rowOne hs (j := 2) rfl) (fun w hs => O_nil (b2 _ _ (fun _ _ => by first | contradiction | (rename_i h; cases h)) <| OD_doneS sh (by kernel_rfl) (bx _ _ <| W.weak [(0, _)] (S1 rfl) <| Wr fun cz b3 => Om rfl rfl ?_)))))))
  refine O_y rfl (Y_nilp rfl) <| O_y rfl (Y_field fo64_1 rfl) <| O_y rfl (Yb 1 ag28 hs rfl rfl rfl) <| O_y rfl (Y_lenRow (i := 2) un28 hs rfl rfl) <| O_y rfl (Y_sub rfl rfl) <| Oa rfl rfl <| O_nil (b3 _ _ <| W_seq fun da b4 => W_block fun db b5 dc => W_loop (σ := Nat × Int) (fun (ad, aa) => [(0, .pointer (some ⟨pb0, 0, none⟩)), (5, .int .i64 aa)]) (fun (ad, aa) w => canon_Decomposer_Feed_pfg.l1 ad y0_0 y1 ab aa = some r ∧ St w0 ay ((.row a4 21 ((Rep.int .i32).sz) ab.length ag) :: (.box pb0 64 ([w0_0, ai])) :: (.row ai 21 ((Rep.int .i32).sz) ((y1 ++ ab).length) ah) :: Γ) w) (fun s => s.1) (K0, (IntKind.i64.wrap (((y1 ++ ab).length : Int) - 1))) (S2 rfl rfl) (Ai H hs) ?_)
  rintro ⟨ad, aa⟩ w dd ⟨H, hs⟩ ap
  show W _ _ _ _ _ _ [(0, .pointer (some ⟨pb0, 0, none⟩)), (5, .int .i64 aa)] w
  cases ad with
  | zero => rw [canon_Decomposer_Feed_pfg.l1] at H; cases H
  | succ ad =>
  rw [canon_Decomposer_Feed_pfg.l1] at H
  refine W_seq fun de b6 => W_seqj fun b7 b8 bq => ?_
  have br : ∀ (ac : Bool) (w : World), canon_Decomposer_Feed_pfg.j1 (canon_Decomposer_Feed_pfg.l1 ad y0_0 y1 ab) y0_0 y1 ab aa ac = some r → St w0 ay ((.row a4 21 ((Rep.int .i32).sz) ab.length ag) :: (.box pb0 64 ([w0_0, ai])) :: (.row ai 21 ((Rep.int .i32).sz) ((y1 ++ ab).length) ah) :: Γ) w → b7 [(0, .pointer (some ⟨pb0, 0, none⟩)), (5, .int .i64 aa), (45, .bool ac)] w := by
   intro ac w H hs
   rw [canon_Decomposer_Feed_pfg.j1] at H
   refine b8 _ _ <| W_cond rfl (fun a7 => ?_) (fun a7 => ?_)
   ·rw [if_pos a7] at H
    refine W_skip (b6 _ _ <| W_block fun df dg dh => W_region <| Om rfl rfl <| O_y rfl (Y_sub rfl rfl) <| Oa rfl rfl <| O_nil (ap (ad, (IntKind.i64.wrap (aa - 1))) _ _ (S2 rfl rfl) (Ai H hs) (Nat.lt_succ_self _)))
   ·rw [if_neg (bft a7)] at H
    refine W_exit (b5 _ _ (b4 _ _ <| W_seq fun di b9 => Wr fun dk a8 => Om rfl rfl <| O_y rfl (Y_leq rfl rfl) <| O_nil (a8 _ _ <| W_if rfl (fun aq => ?_) (fun aq => ?_))))
    ·rw [if_pos aq] at H
     refine Wr fun ca a9 => Oa rfl rfl <| O_nil (a9 _ _ <| W_ret ?_)
     have hs := hs.rowNil 21 (Rep.int .i32).sz
     have ba := RowR.nil (Rep.int .i32) ay
     obtain rfl := sinj H
     exact ret1 rfl rfl ⟨_, _, _, _, _, rfl, ae, (hs.sub (ssc (ssk (ssc (ssc ssr))))), ba, a6⟩
    ·rw [if_neg aq] at H
     refine W_skip (b9 _ _ <| W_seq fun cb bb => W_drawS 12 [0, 1, 2, 4, 0, 16, 32, 64, 0, 384, 520, 2047] [2044, 2040, 2032, 1008, 1999, 1935, 1807, 1295, 1279, 15, 0, 0] [0, 1, 3, 7, 0, 16, 48, 112, 0, 496, 1023, 2047] [10, 11] (fun w => St w0 ay ((.row a4 21 ((Rep.int .i32).sz) ab.length ag) :: (.box pb0 64 ([w0_0, ai])) :: (.row ai 21 ((Rep.int .i32).sz) ((y1 ++ ab).length) ah) :: Γ) w) mixed (by kernel_rfl) (fun sh => ?_))
     have hs := hs.drew
     refine Dm 0 sh rfl rfl (by kernel_rfl) rfl <| Dp 1 sh rfl rfl (by kernel_rfl) (fun w => Y_nilp rfl) <| Dp 2 sh rfl rfl (by kernel_rfl) (fun w => Y_field fo64_0 rfl) <| Dy 3 sh rfl rfl (by kernel_rfl) hs (fun w hs => Yb 1 ag29 hs rfl rfl rfl) <| Dm 4 sh rfl rfl (by kernel_rfl) rfl <| Dp 5 sh rfl rfl (by kernel_rfl) (fun w => Y_nilp rfl) <| Dp 6 sh rfl rfl (by kernel_rfl) (fun w => Y_field fo64_1 rfl) <| Dy 7 sh rfl rfl (by kernel_rfl) hs (fun w hs => Yb 1 ag28 hs rfl rfl rfl) <| Dm 8 sh rfl rfl (by kernel_rfl) rfl ?_
     have bc := hs
     obtain ⟨cc, aj, hs, az⟩ := hs.rowEnd (j := 2) a6 rfl
     obtain ⟨ar, H⟩ := gd H
     obtain ⟨cd, bd, be⟩ := az.cut el28 ar.1 ar.2.1 ar.2.2
     refine Dp 9 sh rfl rfl (by kernel_rfl) (fun w => be rfl (.inl ⟨rfl, rfl⟩) (.inr ⟨_, _, rfl, rfl⟩)) <| D1 10 sh rfl (by kernel_rfl) (fun ce bf => ?_)
     obtain ⟨aw, a0, H⟩ := bnd H
     refine O_call rfl rfl (canon_Order.c hs (g0_0.mono (ae.trans aj)) bd a0) (fun cf w hpost => ?_)
     obtain ⟨cg, ch, bs, rfl, ak, hs, bg⟩ := hpost
     have bh := aj.trans ak
     refine O_nil (bf _ _ (fun _ _ => by first | contradiction | (rename_i h; cases h)) <| OD_resetS sh [] hs (by kernel_rfl) <| Dp 11 sh rfl rfl (by kernel_rfl) (fun w => Y_assign rfl) <| OD_doneS sh (by kernel_rfl) (bb _ _ <| W.weak [(0, _), (5, _), (6, _)] (S3 rfl rfl rfl) <| Wr fun ci bi => Om rfl rfl <| Om rfl rfl <| O_y rfl (Y_nilp rfl) <| O_y rfl (Y_field fo64_1 rfl) <| O_y rfl (Yb 2 ag28 hs rfl rfl rfl) <| Om rfl rfl ?_))
     obtain ⟨au, H⟩ := gd H
     obtain ⟨cj, bj, bk⟩ := (az.mono ak).cut el28 au.1 au.2.1 au.2.2
     refine O_y rfl (bk rfl (.inr ⟨_, _, rfl, rfl⟩) (.inl ⟨rfl, rfl⟩)) ?_
     obtain ⟨ax, a1, H⟩ := bnd H
     refine O_call rfl rfl (slices_Clone_rune_rune.c hs bj a1) (fun ck w hpost => ?_)
     obtain ⟨cl, cm, bt, rfl, al, hs, bl⟩ := hpost
     have bm := bh.trans al
     refine O_y rfl (Y_nilp rfl) <| O_y rfl (Y_field fo64_1 rfl) <| O_store (i := 3) sz28 hs rfl rfl rfl rfl (St.rowOne hs (j := 0) rfl) (fun w hs => O_nil (bi _ _ <| Wr fun cn bn => Om rfl rfl <| Oa rfl rfl <| O_nil (bn _ _ <| W.weak [(4, _)] (S1 rfl) <| W_ret ?_)))
     have hs := hs.front 3 rfl
     have hs := hs.front 2 rfl
     obtain rfl := sinj H
     exact ret1 rfl rfl ⟨_, _, _, _, _, rfl, (ae.trans bm), (hs.sub (ssc (ssc (ssc (ssk ssr))))), (bg.mono al), bl⟩
  refine W_drawS 17 [0, 1, 2, 4, 12, 20, 36, 4, 132, 260, 516, 4, 3076, 4100, 8260, 16388, 32772] [131068, 131064, 0, 131040, 131008, 130944, 114560, 130680, 130168, 129144, 125048, 124920, 114808, 98424, 65536, 0, 0] [0, 1, 3, 7, 15, 31, 63, 7, 135, 391, 903, 7, 3975, 8071, 16383, 32767, 65535] [14, 15, 16] (fun w => St w0 ay ((.row a4 21 ((Rep.int .i32).sz) ab.length ag) :: (.box pb0 64 ([w0_0, ai])) :: (.row ai 21 ((Rep.int .i32).sz) ((y1 ++ ab).length) ah) :: Γ) w) mixed (by kernel_rfl) (fun sh => ?_)
  have hs := hs.drew
  refine Dm 0 sh rfl rfl (by kernel_rfl) rfl <| Dp 1 sh rfl rfl (by kernel_rfl) (fun w => Y_geq rfl rfl) <| Dm 2 sh rfl rfl (by kernel_rfl) rfl <| OD_if (dj := 31) rfl (fun av => ?_) (fun av => ?_)
  ·rw [if_pos av] at H
   refine Dq 3 sh rfl rfl rfl rfl (by kernel_rfl) (fun w => Y_move rfl) <| Dq 4 sh rfl rfl rfl rfl (by kernel_rfl) (fun w => Y_nilp rfl) <| Dq 5 sh rfl rfl rfl rfl (by kernel_rfl) (fun w => Y_field fo64_0 rfl) <| Dz 6 sh rfl rfl rfl rfl (by kernel_rfl) hs (fun w hs => Yb 1 ag29 hs rfl rfl rfl) <| Dq 7 sh rfl rfl rfl rfl (by kernel_rfl) (fun w => Y_move rfl) <| Dq 8 sh rfl rfl rfl rfl (by kernel_rfl) (fun w => Y_nilp rfl) <| Dq 9 sh rfl rfl rfl rfl (by kernel_rfl) (fun w => Y_field fo64_1 rfl) <| Dz 10 sh rfl rfl rfl rfl (by kernel_rfl) hs (fun w hs => Yb 1 ag28 hs rfl rfl rfl) <| Dq 11 sh rfl rfl rfl rfl (by kernel_rfl) (fun w => Y_move rfl) ?_
   obtain ⟨af, H⟩ := gd H
   obtain ⟨co, am⟩ := hs.rowBlock (j := 2) rfl (by have := af.2; omega)
   obtain ⟨_, rfl, a2⟩ := a6.at af.1 af.2
   refine Dz 12 sh rfl rfl rfl rfl (by kernel_rfl) hs (fun w hs => Y_ixRow (j := 2) el28 hs rfl am rfl rfl af.1 af.2) <| Dz 13 sh rfl rfl rfl rfl (by kernel_rfl) hs (fun w hs => Y_load ag21 rfl (hs.rowCell (j := 2) rfl am (a2 0 _ rfl))) <| D1 14 sh rfl (by kernel_rfl) (fun cp bo => O_yes rfl rfl ?_)
   obtain ⟨ao, a3, H⟩ := bnd H
   refine O_call rfl rfl (book_Tables_Class.c hs (g0_0.mono ae) a3) (fun cq w hpost => ?_)
   obtain ⟨rfl, hs⟩ := hpost
   refine O_nil (bo _ _ (fun _ _ => by first | contradiction | (rename_i h; cases h)) <| OD_resetS sh [] hs (by kernel_rfl) <| Dq 15 sh rfl rfl rfl rfl (by kernel_rfl) (fun w => Y_neq rfl rfl) <| Dp 16 sh rfl rfl (by kernel_rfl) (fun w => Y_pick_t rfl rfl) <| OD_doneS sh (by kernel_rfl) (bq _ _ _ (S3 rfl rfl rfl) (br (decide (ao ≠ 0)) _ H hs)))
  ·rw [if_neg av] at H
   refine Dn 3 sh rfl rfl rfl rfl rfl (by kernel_rfl) <| Dn 4 sh rfl rfl rfl rfl rfl (by kernel_rfl) <| Dn 5 sh rfl rfl rfl rfl rfl (by kernel_rfl) <| Dn 6 sh rfl rfl rfl rfl rfl (by kernel_rfl) <| Dn 7 sh rfl rfl rfl rfl rfl (by kernel_rfl) <| Dn 8 sh rfl rfl rfl rfl rfl (by kernel_rfl) <| Dn 9 sh rfl rfl rfl rfl rfl (by kernel_rfl) <| Dn 10 sh rfl rfl rfl rfl rfl (by kernel_rfl) <| Dn 11 sh rfl rfl rfl rfl rfl (by kernel_rfl) <| Dn 12 sh rfl rfl rfl rfl rfl (by kernel_rfl) <| Dn 13 sh rfl rfl rfl rfl rfl (by kernel_rfl) <| Dn 14 sh rfl rfl rfl rfl rfl (by kernel_rfl) <| Dn 15 sh rfl rfl rfl rfl rfl (by kernel_rfl) <| Dp 16 sh rfl rfl (by kernel_rfl) (fun w => Y_pick_f rfl rfl) ?_
   exact OD_doneS sh (by kernel_rfl) (bq _ _ _ (S3 rfl rfl rfl) (br false _ H hs))

def canon_Decomposer_End_hgl.f (y0_0 : Option Tbs) (y1 : List Int) : Option (List Int × List Int) := (canon_Order.f y0_0 y1).bind fun ad => (some (ad, ([] : List Int)))
theorem canon_Decomposer_End_hgl.c {w0 w : World} {ρ : Hp} {Γ : List Item} {pb0 : Nat} {w0_0 : Value} {y0_0 : Option Tbs} {w1 : Value} {d1 : List Value} {y1 : List Int} (hs : St w0 ρ ((.box pb0 64 ([w0_0, w1])) :: (.row w1 21 ((Rep.int .i32).sz) y1.length d1) :: Γ) w) (g0_0 : PtrR rTbs ρ w0_0 y0_0) (g1 : RowR (Rep.int .i32) ρ d1 y1) {r : List Int × List Int} (H : canon_Decomposer_End_hgl.f y0_0 y1 = some r) : CallsR Tryz.prog 16 [.pointer (some ⟨pb0, 0, none⟩)] w (fun v w' => ∃ (ρ' : Hp) (v0 : Value) (cs0 : List Value) (u0 : Value) (ds0 : List Value), v = v0 ∧ Le ρ ρ' ∧ St w0 ρ' (.row v0 21 (Rep.int .i32).sz r.1.length cs0 :: (.box pb0 64 ([w0_0, u0])) :: (.row u0 21 ((Rep.int .i32).sz) r.2.length ds0) :: Γ) w' ∧ RowR (Rep.int .i32) ρ' cs0 r.1 ∧ RowR (Rep.int .i32) ρ' ds0 r.2) := by
  rw [canon_Decomposer_End_hgl.f] at H
  refine enter Tryz.func16 Tryz.ntmps16 rfl (by kernel_rfl) rfl <| Wr fun au af => Oa rfl rfl <| O_nil (af _ _ <| W_seq fun av ag => Wr fun aw ah => Om rfl rfl <| O_y rfl (Y_eqlp un44 rfl rfl) <| O_nil (ah _ _ <| W_false rfl <| W_skip (ag _ _ <| W_seq fun ax ai => ?_)))
  refine W_drawS 10 [0, 1, 2, 4, 0, 16, 32, 64, 136, 511] [508, 504, 496, 240, 463, 399, 271, 15, 0, 0] [0, 1, 3, 7, 0, 16, 48, 112, 255, 511] [8, 9] (fun w => St w0 ρ ((.box pb0 64 ([w0_0, w1])) :: (.row w1 21 ((Rep.int .i32).sz) y1.length d1) :: Γ) w) mixed (by kernel_rfl) (fun sh => ?_)
  have hs := hs.drew
  refine Dm 0 sh rfl rfl (by kernel_rfl) rfl <| Dp 1 sh rfl rfl (by kernel_rfl) (fun w => Y_nilp rfl) <| Dp 2 sh rfl rfl (by kernel_rfl) (fun w => Y_field fo64_0 rfl) <| Dy 3 sh rfl rfl (by kernel_rfl) hs (fun w hs => Yb 0 ag29 hs rfl rfl rfl) <| Dm 4 sh rfl rfl (by kernel_rfl) rfl <| Dp 5 sh rfl rfl (by kernel_rfl) (fun w => Y_nilp rfl) <| Dp 6 sh rfl rfl (by kernel_rfl) (fun w => Y_field fo64_1 rfl) <| Dy 7 sh rfl rfl (by kernel_rfl) hs (fun w hs => Yb 0 ag28 hs rfl rfl rfl) ?_
  have ae := hs
  obtain ⟨ay, aa, hs, aj⟩ := hs.rowEnd (j := 1) g1 rfl
  refine D1 8 sh rfl (by kernel_rfl) (fun az ak => ?_)
  obtain ⟨ad, ab, H⟩ := bnd H
  refine O_call rfl rfl (canon_Order.c hs (g0_0.mono aa) aj ab) (fun a0 w hpost => ?_)
  obtain ⟨al, a1, am, rfl, ac, hs, an⟩ := hpost
  have ao := aa.trans ac
  refine O_nil (ak _ _ (fun _ _ => by first | contradiction | (rename_i h; cases h)) <| OD_resetS sh [] hs (by kernel_rfl) <| Dp 9 sh rfl rfl (by kernel_rfl) (fun w => Y_assign rfl) <| OD_doneS sh (by kernel_rfl) (ai _ _ <| Wr fun a2 ap => Om rfl rfl <| O_y rfl (Y_nilp rfl) <| O_y rfl (Y_field fo64_1 rfl) <| O_store (i := 1) sz28 hs rfl rfl rfl rfl rfl (fun w hs => O_nil (ap _ _ <| W.weak [(3, _)] (S1 rfl) <| W_seq fun a3 aq => W_region ?_))))
  refine Om rfl rfl <| Oa rfl rfl <| O_nil (aq _ _ <| W_ret ?_)
  have hs := hs.rowNil 21 (Rep.int .i32).sz
  have ar := RowR.nil (Rep.int .i32) al
  have hs := hs.front 2 rfl
  have hs := hs.front 2 rfl
  obtain rfl := sinj H
  exact ret1 rfl rfl ⟨_, _, _, _, _, rfl, ao, hs, an, ar⟩

def law12_CanonTwo.j1 (bj : List Int → List Int → List Int → List Int → List Int → List Int → Int → Option Bool) (aa : Int) (aw ax ay az a0 a1 : List Int) : Option Bool := bj aw ax ay az a0 a1 (IntKind.i64.wrap (aa + 1))
def law12_CanonTwo.j2 (bj : List Int → List Int → List Int → List Int → List Int → List Int → Int → Option Bool) (x2 : List (List Int)) (bh : S10) (ac ab af : List Int) (aa : Int) (ak al am : List Int) : Option Bool := if aa < (x2.length : Int) then (if (0 : Int) ≤ aa ∧ aa < (x2.length : Int) then ((canon_Decomposer_Feed_pfg.f (rd x2 aa) bh.t af).bind fun cl => (if ab.length + cl.1.length ≤ most then (if ac.length + (rd x2 aa).length ≤ most then (law12_CanonTwo.j1 bj aa (ac ++ (rd x2 aa)) ak (ab ++ cl.1) al cl.2 am) else none) else none)) else none) else (law12_CanonTwo.j1 bj aa ac ak ab al af am)
def law12_CanonTwo.j3 (b8 : Option Tbs × Bk × Bool) (ad ae : List Int) (ce : List Int × List Int) (ct : List Int) (bx : Bool) : Option Bool := if bx = true then (some false) else ((canon_Order.f b8.1 ad).bind fun er => (if ct.length + 5 ≤ most then (if er.length + 5 ≤ most then ((canon_Decompose.f b8.1 ad).bind fun es => ((ref10_Runes.f (ae ++ ce.1) es).bind fun fa => (some fa))) else none) else none))
def law12_CanonTwo.j4 (bj : List Int → List Int → List Int → List Int → List Int → List Int → Int → Option Bool) (x1 : List (List Int)) (x2 : List (List Int)) (b8 : Option Tbs × Bk × Bool) (bz bh : S10) (ac ad ab ae af ag : List Int) (aa : Int) (b9 : Bool) : Option Bool := if b9 = true then (if aa < (x1.length : Int) then (if (0 : Int) ≤ aa ∧ aa < (x1.length : Int) then (if ([] : List Int).length + (rd x1 aa).length ≤ most then ((canon_Decomposer_Feed_pfg.f (([] : List Int) ++ (rd x1 aa)) bz.t ag).bind fun cd => (if ae.length + cd.1.length ≤ most then (if ad.length + (rd x1 aa).length ≤ most then (if (([] : List Int) ++ (rd x1 aa)).length + 5 ≤ most then (if cd.1.length + 5 ≤ most then (law12_CanonTwo.j2 bj x2 bh ac ab af aa (ad ++ (rd x1 aa)) (ae ++ cd.1) cd.2) else none) else none) else none) else none)) else none) else none) else (law12_CanonTwo.j2 bj x2 bh ac ab af aa ad ae ag)) else ((canon_Decomposer_End_hgl.f bz.t ag).bind fun ce => (if ae.length + ce.1.length ≤ most then ((canon_Decomposer_End_hgl.f bh.t af).bind fun dg => (if ab.length + dg.1.length ≤ most then ((canon_Decompose.f b8.1 ad).bind fun ct => ((ref10_Runes.f (ae ++ ce.1) ct).bind fun fb => (if (!fb) = true then (law12_CanonTwo.j3 b8 ad ae ce ct true) else ((canon_Decompose.f b8.1 ac).bind fun et => ((ref10_Runes.f (ab ++ dg.1) et).bind fun eu => (law12_CanonTwo.j3 b8 ad ae ce ct (!eu))))))) else none)) else none))
def law12_CanonTwo.l1 : Nat → List (List Int) → List (List Int) → (Option Tbs × Bk × Bool) → S10 → S10 → List Int → List Int → List Int → List Int → List Int → List Int → Int → Option Bool
  | 0, _, _, _, _, _, _, _, _, _, _, _, _ => none
  | bw + 1, x1, x2, b8, bz, bh, ac, ad, ab, ae, af, ag, aa => if aa < (x1.length : Int) then (law12_CanonTwo.j4 (law12_CanonTwo.l1 bw x1 x2 b8 bz bh) x1 x2 b8 bz bh ac ad ab ae af ag aa true) else (law12_CanonTwo.j4 (law12_CanonTwo.l1 bw x1 x2 b8 bz bh) x1 x2 b8 bz bh ac ad ab ae af ag aa (decide (aa < (x2.length : Int))))
def law12_CanonTwo.j5 (x1 : List (List Int)) (x2 : List (List Int)) (b8 : Option Tbs × Bk × Bool) (ca : Bool) : Option Bool := if ca = true then (some false) else ((canon_NewDecomposer.f b8.1).bind fun bz => ((canon_NewDecomposer.f b8.1).bind fun bh => (law12_CanonTwo.l1 K0 x1 x2 b8 bz bh ([] : List Int) ([] : List Int) ([] : List Int) ([] : List Int) bh.kept bz.kept 0)))
def law12_CanonTwo.f (x0 : Bk) (x1 : List (List Int)) (x2 : List (List Int)) : Option Bool := (law12_tables.f x0).bind fun b8 => ((law12_awake.f).bind fun fc => (if (!fc) = true then (law12_CanonTwo.j5 x1 x2 b8 true) else (law12_CanonTwo.j5 x1 x2 b8 (!b8.2.2))))
theorem law12_CanonTwo.c {w0 w : World} {ρ : Hp} {Γ : List Item} (hs : St w0 ρ (Γ) w) {c0 : List Value} {x0 : Bk} (h0 : rBk.R ρ c0 x0) {v1 : Value} {x1 : List (List Int)} (h1 : SlR (Rep.slice (Rep.int .i32)) ρ v1 x1) {v2 : Value} {x2 : List (List Int)} (h2 : SlR (Rep.slice (Rep.int .i32)) ρ v2 x2) {r : Bool} (H : law12_CanonTwo.f x0 x1 x2 = some r) : CallsR Tryz.prog 4 [.agg c0.toArray, v1, v2] w (fun v w' => v = .bool r ∧ St w0 ρ Γ w') := by
  rw [law12_CanonTwo.f] at H
  refine enter Tryz.func4 Tryz.ntmps4 rfl (by kernel_rfl) rfl ?_
  have mm := h0
  obtain ⟨di, dk, dl, dm, dn, dp, dq, dr, ds, dt, du, rfl, pg, ph, pi, pj, pk, pl, pm, pn, po, pp, pq⟩ := mm
  refine Wr fun pr mn => O_boxN (cs := [di, dk, dl, dm, dn, dp, dq, dr, ds, dt, du]) hs rfl rfl (fun eb w hs => Oa rfl rfl <| O_nil (mn _ _ <| Wr fun ps mo => O_y rfl (Y_loadbN (i := 0) ag27 sz27 hs rfl rfl rfl rfl) ?_))
  obtain ⟨b8, ir, H⟩ := bnd H
  refine O_call rfl rfl (law12_tables.c hs h0 ir) (fun pt w hpost => ?_)
  obtain ⟨mp, ev, mq, rfl, cf, hs, e9, mr⟩ := hpost
  have it := mr
  obtain ⟨ec, ed, ee, ef, eg, eh, cm, cn, co, cp, cq, rfl, ms, mt, mu, mv, mw, mx, iu, iv, iw, iy, iz⟩ := it
  refine Om rfl rfl <| O_y rfl (Y_extract rfl rfl) <| O_y rfl (Y_extract rfl rfl) <| O_y rfl (Y_extract rfl rfl) <| O_alloc zr34 hs rfl (fun cr w hs => Oa rfl rfl <| O_storeN (i := 0) sz34 hs rfl rfl rfl rfl rfl (one_cons ms.one (one_cons mt.one (one_cons mu.one (one_cons mv.one (one_cons mw.one (one_cons mx.one (one_cons iu.one (one_cons iv.one (one_cons iw.one (one_cons iy.one (one_cons iz.one one_nil))))))))))) (fun w hs => Oa rfl rfl <| O_nil (mo _ _ <| W_seq fun my ja => W_seqj fun jb jc fd => ?_)))
  have fe : ∀ (ca : Bool) (w : World), law12_CanonTwo.j5 x1 x2 b8 ca = some r → St w0 mp ((.box cr 34 ([ec, ed, ee, ef, eg, eh, cm, cn, co, cp, cq])) :: (.box eb 27 ([di, dk, dl, dm, dn, dp, dq, dr, ds, dt, du])) :: Γ) w → jb [(1, v1), (2, v2), (7, ev), (32, .bool ca)] w := by
   intro ca w H hs
   rw [law12_CanonTwo.j5] at H
   refine jc _ _ <| W_cond rfl (fun ew => ?_) (fun ew => ?_)
   ·rw [if_pos ew] at H
    refine Wr fun mz jd => Oa rfl rfl <| O_nil (jd _ _ <| W_ret ?_)
    obtain rfl := sinj H
    exact ret1 rfl rfl ⟨rfl, ((hs.sub (ssk (ssk ssr))).less cf)⟩
   ·rw [if_neg (bft ew)] at H
    refine W_skip (ja _ _ <| Wr fun m0 je => Om rfl rfl ?_)
    obtain ⟨bz, ff, H⟩ := bnd H
    refine O_call rfl rfl (canon_NewDecomposer.c hs e9 ff) (fun m1 w hpost => ?_)
    obtain ⟨m2, cb, cu, jf, fg, rfl, bd, hs, fh, jg⟩ := hpost
    refine Om rfl rfl ?_
    obtain ⟨bh, fi, H⟩ := bnd H
    refine O_call rfl rfl (canon_NewDecomposer.c hs (e9.mono bd) fi) (fun m3 w hpost => ?_)
    obtain ⟨dh, cc, cv, jh, fj, rfl, bb, hs, fk, ji⟩ := hpost
    refine Oa rfl rfl <| Oa rfl rfl <| O_nil (je _ _ <| Wr fun m4 jj => Oa rfl rfl ?_)
    have hs := hs.rowNil 21 (Rep.int .i32).sz
    have jk := RowR.nil (Rep.int .i32) dh
    refine Oa rfl rfl ?_
    have hs := hs.rowNil 21 (Rep.int .i32).sz
    have jl := RowR.nil (Rep.int .i32) dh
    refine Oa rfl rfl ?_
    have hs := hs.rowNil 21 (Rep.int .i32).sz
    have jm := RowR.nil (Rep.int .i32) dh
    refine Oa rfl rfl ?_
    have hs := hs.rowNil 21 (Rep.int .i32).sz
    have jn := RowR.nil (Rep.int .i32) dh
    refine O_nil (jj _ _ <| W_seq fun m5 jo => Wr fun m6 jp => Oa rfl rfl <| O_nil (jp _ _ <| W.weak [(1, _), (2, _), (7, _), (10, _), (11, _), (12, _), (13, _), (14, _), (15, _), (16, _)] (by repeat first | exact Sub.nil | refine Sub.cons rfl ?_) ?_))
    refine W_block fun m7 jq m8 => W_loop (σ := Nat × List Int × List Int × List Int × List Int × List Int × List Int × Int × Value × List Value × Value × List Value × Value × List Value × Value × List Value × Value × List Value × Value × List Value × Hp) (fun (bw, ac, ad, ab, ae, af, ag, aa, ah, an, ao, a2, aj, ap, av, a9, ai, aq, a3, ba, be) => [(1, v1), (2, v2), (7, ev), (10, .pointer (some ⟨cb, 0, none⟩)), (11, .pointer (some ⟨cc, 0, none⟩)), (12, av), (13, aj), (14, ao), (15, ah), (16, .int .i64 aa)]) (fun (bw, ac, ad, ab, ae, af, ag, aa, ah, an, ao, a2, aj, ap, av, a9, ai, aq, a3, ba, be) w => law12_CanonTwo.l1 bw x1 x2 b8 bz bh ac ad ab ae af ag aa = some r ∧ Le dh be ∧ St w0 be ((.row ah 21 ((Rep.int .i32).sz) ac.length an) :: (.row ao 21 ((Rep.int .i32).sz) ad.length a2) :: (.row aj 21 ((Rep.int .i32).sz) ab.length ap) :: (.row av 21 ((Rep.int .i32).sz) ae.length a9) :: (.box cc 64 ([cv, ai])) :: (.row ai 21 ((Rep.int .i32).sz) af.length aq) :: (.box cb 64 ([cu, a3])) :: (.row a3 21 ((Rep.int .i32).sz) ag.length ba) :: (.box cr 34 ([ec, ed, ee, ef, eg, eh, cm, cn, co, cp, cq])) :: (.box eb 27 ([di, dk, dl, dm, dn, dp, dq, dr, ds, dt, du])) :: Γ) w ∧ RowR (Rep.int .i32) be an ac ∧ RowR (Rep.int .i32) be a2 ad ∧ RowR (Rep.int .i32) be ap ab ∧ RowR (Rep.int .i32) be a9 ae ∧ RowR (Rep.int .i32) be aq af ∧ RowR (Rep.int .i32) be ba ag) (fun s => s.1) (K0, ([] : List Int), ([] : List Int), ([] : List Int), ([] : List Int), bh.kept, bz.kept, 0, (.slice none 0 0), ([]), (.slice none 0 0), ([]), (.slice none 0 0), ([]), (.slice none 0 0), ([]), jh, fj, jf, fg, dh) (by repeat first | exact Sub.nil | refine Sub.cons rfl ?_) (Ai H (Ai (Le.rfl' _) (Ai hs (Ai jn (Ai jm (Ai jl (Ai jk (Ai ji (jg.mono bb))))))))) ?_
    rintro ⟨bw, ac, ad, ab, ae, af, ag, aa, ah, an, ao, a2, aj, ap, av, a9, ai, aq, a3, ba, be⟩ w m9 ⟨H, ar, hs, b2, bf, b3, b4, b5, b6⟩ ei
    show W _ _ _ _ _ _ [(1, v1), (2, v2), (7, ev), (10, .pointer (some ⟨cb, 0, none⟩)), (11, .pointer (some ⟨cc, 0, none⟩)), (12, av), (13, aj), (14, ao), (15, ah), (16, .int .i64 aa)] w
    cases bw with
    | zero => rw [law12_CanonTwo.l1] at H; cases H
    | succ bw =>
    rw [law12_CanonTwo.l1] at H
    refine W_seq fun na jr => W_seqj fun js jt fl => ?_
    have fm : ∀ (b9 : Bool) (w : World), law12_CanonTwo.j4 (law12_CanonTwo.l1 bw x1 x2 b8 bz bh) x1 x2 b8 bz bh ac ad ab ae af ag aa b9 = some r → St w0 be ((.row ah 21 ((Rep.int .i32).sz) ac.length an) :: (.row ao 21 ((Rep.int .i32).sz) ad.length a2) :: (.row aj 21 ((Rep.int .i32).sz) ab.length ap) :: (.row av 21 ((Rep.int .i32).sz) ae.length a9) :: (.box cc 64 ([cv, ai])) :: (.row ai 21 ((Rep.int .i32).sz) af.length aq) :: (.box cb 64 ([cu, a3])) :: (.row a3 21 ((Rep.int .i32).sz) ag.length ba) :: (.box cr 34 ([ec, ed, ee, ef, eg, eh, cm, cn, co, cp, cq])) :: (.box eb 27 ([di, dk, dl, dm, dn, dp, dq, dr, ds, dt, du])) :: Γ) w → js [(1, v1), (2, v2), (7, ev), (10, .pointer (some ⟨cb, 0, none⟩)), (11, .pointer (some ⟨cc, 0, none⟩)), (12, av), (13, aj), (14, ao), (15, ah), (16, .int .i64 aa), (46, .bool b9)] w := by
     intro b9 w H hs
     rw [law12_CanonTwo.j4] at H
     refine jt _ _ <| W_cond rfl (fun ex => ?_) (fun ex => ?_)
     ·rw [if_pos ex] at H
      refine W_skip (jr _ _ <| W_seqj fun ju jv fn => ?_)
      have fo : ∀ (aw ax ay az a0 a1 : List Int) (bk : Value) (bl : List Value) (bm : Value) (bn : List Value) (bo : Value) (bp : List Value) (bq : Value) (br : List Value) (bs : Value) (bt : List Value) (bu : Value) (bv : List Value) (b1 : Hp) (w : World), law12_CanonTwo.j1 (law12_CanonTwo.l1 bw x1 x2 b8 bz bh) aa aw ax ay az a0 a1 = some r → Le be b1 → St w0 b1 ((.row bk 21 ((Rep.int .i32).sz) aw.length bl) :: (.row bm 21 ((Rep.int .i32).sz) ax.length bn) :: (.row bo 21 ((Rep.int .i32).sz) ay.length bp) :: (.row bq 21 ((Rep.int .i32).sz) az.length br) :: (.box cc 64 ([cv, bs])) :: (.row bs 21 ((Rep.int .i32).sz) a0.length bt) :: (.box cb 64 ([cu, bu])) :: (.row bu 21 ((Rep.int .i32).sz) a1.length bv) :: (.box cr 34 ([ec, ed, ee, ef, eg, eh, cm, cn, co, cp, cq])) :: (.box eb 27 ([di, dk, dl, dm, dn, dp, dq, dr, ds, dt, du])) :: Γ) w → RowR (Rep.int .i32) b1 bl aw → RowR (Rep.int .i32) b1 bn ax → RowR (Rep.int .i32) b1 bp ay → RowR (Rep.int .i32) b1 br az → RowR (Rep.int .i32) b1 bt a0 → RowR (Rep.int .i32) b1 bv a1 → ju [(1, v1), (2, v2), (7, ev), (10, .pointer (some ⟨cb, 0, none⟩)), (11, .pointer (some ⟨cc, 0, none⟩)), (12, bq), (13, bo), (14, bm), (15, bk), (16, .int .i64 aa)] w := by
       intro aw ax ay az a0 a1 bk bl bm bn bo bp bq br bs bt bu bv b1 w H ey hs cx cy cz da db dc
       rw [law12_CanonTwo.j1] at H
       refine jv _ _ <| W_region <| Om rfl rfl <| O_y rfl (Y_add rfl rfl) <| Oa rfl rfl <| O_nil (ei (bw, aw, ax, ay, az, a0, a1, (IntKind.i64.wrap (aa + 1)), bk, bl, bm, bn, bo, bp, bq, br, bs, bt, bu, bv, b1) _ _ (by repeat first | exact Sub.nil | refine Sub.cons rfl ?_) (Ai H (Ai (ar.trans ey) (Ai hs (Ai cx (Ai cy (Ai cz (Ai da (Ai db dc)))))))) (Nat.lt_succ_self _))
      refine W_block fun nb nc nd => W_seqj fun jw jx fp => ?_
      have fq : ∀ (ak al am : List Int) (a4 : Value) (a5 : List Value) (a6 : Value) (a7 : List Value) (au : Value) (a8 : List Value) (cg : Hp) (w : World), law12_CanonTwo.j2 (law12_CanonTwo.l1 bw x1 x2 b8 bz bh) x2 bh ac ab af aa ak al am = some r → Le be cg → St w0 cg ((.row ah 21 ((Rep.int .i32).sz) ac.length an) :: (.row a4 21 ((Rep.int .i32).sz) ak.length a5) :: (.row aj 21 ((Rep.int .i32).sz) ab.length ap) :: (.row a6 21 ((Rep.int .i32).sz) al.length a7) :: (.box cc 64 ([cv, ai])) :: (.row ai 21 ((Rep.int .i32).sz) af.length aq) :: (.box cb 64 ([cu, au])) :: (.row au 21 ((Rep.int .i32).sz) am.length a8) :: (.box cr 34 ([ec, ed, ee, ef, eg, eh, cm, cn, co, cp, cq])) :: (.box eb 27 ([di, dk, dl, dm, dn, dp, dq, dr, ds, dt, du])) :: Γ) w → RowR (Rep.int .i32) cg a5 ak → RowR (Rep.int .i32) cg a7 al → RowR (Rep.int .i32) cg a8 am → jw [(1, v1), (2, v2), (7, ev), (10, .pointer (some ⟨cb, 0, none⟩)), (11, .pointer (some ⟨cc, 0, none⟩)), (12, a6), (13, aj), (14, a4), (15, ah), (16, .int .i64 aa)] w := by
       intro ak al am a4 a5 a6 a7 au a8 cg w H bc hs ch ci cj
       rw [law12_CanonTwo.j2] at H
       refine jx _ _ <| Wr fun ne jy => Om rfl rfl <| Om rfl rfl <| O_y rfl (Y_lenR un43 (h2.mono ((((cf.trans bd).trans bb).trans ar).trans bc)) rfl) <| O_y rfl (Y_lss rfl rfl) <| O_nil (jy _ _ <| W_if rfl (fun ez => ?_) (fun ez => ?_))
       ·rw [if_pos ez] at H
        refine Wr fun nf jz => Om rfl rfl <| Om rfl rfl <| Om rfl rfl ?_
        obtain ⟨ej, H⟩ := gd H
        obtain ⟨ng, nh, j0, j6⟩ := (h2.mono ((((cf.trans bd).trans bb).trans ar).trans bc)).ix el43 ej.1 ej.2
        obtain ⟨ni, j7, j8⟩ := j0.slice
        refine O_y rfl (j6 rfl rfl) <| O_y rfl (Y_load ag28 rfl (hs.see j7)) ?_
        have hs := hs.front 5 rfl
        have hs := hs.front 5 rfl
        obtain ⟨cl, fr, H⟩ := bnd H
        refine O_call rfl rfl (canon_Decomposer_Feed_pfg.c hs j8 (fk.mono (ar.trans bc)) (b5.mono bc) fr) (fun fs w hpost => ?_)
        obtain ⟨e0, nj, el, dv, dw, rfl, ck, hs, ft, j9⟩ := hpost
        have hs := hs.front 1 rfl
        have hs := hs.sink 6
        have hs := hs.front 1 rfl
        have hs := hs.sink 6
        refine Oa rfl rfl <| O_nil (jz _ _ <| W.weak [(1, _), (2, _), (7, _), (10, _), (11, _), (12, _), (13, _), (14, _), (15, _), (16, _), (19, _)] (by repeat first | exact Sub.nil | refine Sub.cons rfl ?_) ?_)
        have hs0 : St w0 e0 ((.row fs 21 ((Rep.int .i32).sz) cl.1.length el) :: (.row a4 21 ((Rep.int .i32).sz) ak.length a5) :: (.row a6 21 ((Rep.int .i32).sz) al.length a7) :: (.box cc 64 ([cv, dv])) :: (.row dv 21 ((Rep.int .i32).sz) cl.2.length dw) :: (.box cb 64 ([cu, au])) :: (.row au 21 ((Rep.int .i32).sz) am.length a8) :: (.box cr 34 ([ec, ed, ee, ef, eg, eh, cm, cn, co, cp, cq])) :: (.box eb 27 ([di, dk, dl, dm, dn, dp, dq, dr, ds, dt, du])) :: Γ) w := hs.sub (ssc (ssk (ssc (ssk (ssc (ssc (ssc (ssc (ssc (ssc (ssc ssr)))))))))))
        refine W_drawS 11 [0, 0, 3, 0, 0, 0, 48, 64, 140, 263, 1023] [506, 505, 248, 759, 943, 927, 783, 527, 0, 0, 0] [0, 0, 3, 0, 0, 0, 48, 112, 255, 511, 1023] [] (fun w => St w0 e0 ((.row fs 21 ((Rep.int .i32).sz) cl.1.length el) :: (.row a4 21 ((Rep.int .i32).sz) ak.length a5) :: (.row a6 21 ((Rep.int .i32).sz) al.length a7) :: (.box cc 64 ([cv, dv])) :: (.row dv 21 ((Rep.int .i32).sz) cl.2.length dw) :: (.box cb 64 ([cu, au])) :: (.row au 21 ((Rep.int .i32).sz) am.length a8) :: (.box cr 34 ([ec, ed, ee, ef, eg, eh, cm, cn, co, cp, cq])) :: (.box eb 27 ([di, dk, dl, dm, dn, dp, dq, dr, ds, dt, du])) :: Γ) w) mixed (by kernel_rfl) (fun sh => ?_)
        have hs := hs.drew
        have hs0 := hs0.drew
        refine Dm 0 sh rfl rfl (by kernel_rfl) rfl <| Dm 1 sh rfl rfl (by kernel_rfl) rfl <| Dm 3 sh rfl rfl (by kernel_rfl) rfl <| Dm 4 sh rfl rfl (by kernel_rfl) rfl <| Dm 5 sh rfl rfl (by kernel_rfl) rfl ?_
        obtain ⟨nk, nl, ka, kb⟩ := (h2.mono (((((cf.trans bd).trans bb).trans ar).trans bc).trans ck)).ix el43 ej.1 ej.2
        obtain ⟨nm, kc, kd⟩ := ka.slice
        refine Dp 6 sh rfl rfl (by kernel_rfl) (fun w => kb rfl rfl) <| Dy 7 sh rfl rfl (by kernel_rfl) (hs.sub (ssc (ssk (ssc (ssk (ssc (ssc (ssc (ssc (ssc (ssc (ssc ssr)))))))))))) (fun w hs => Y_load ag28 rfl (hs.see kc)) ?_
        obtain ⟨ke, H⟩ := gd H
        refine D1 2 sh rfl (by kernel_rfl) (fun nn kf => O_appendR (i := 3) el28 hs rfl (b3.mono (bc.trans ck)) rfl rfl rfl (Src.lit (j := 0) hs rfl ft) ft ke (fun kg fu w kh hs => O_nil (kf _ _ (fun _ _ => (hs.sub (ssc (ssk (ssc (ssk (ssc (ssc (ssc (ssc (ssc (ssc (ssc ssr))))))))))))) ?_)))
        obtain ⟨mj, fv, fw⟩ := Src.sl hs kd
        obtain ⟨ki, H⟩ := gd H
        refine D1 8 sh rfl (by kernel_rfl) (fun no kj => O_appendR (i := 1) el28 hs rfl (b2.mono (bc.trans ck)) rfl rfl rfl fv fw ki (fun kk fx w kl hs => O_nil (kj _ _ (fun _ _ => (hs.sub (ssc (ssk (ssc (ssk (ssc (ssc (ssc (ssc (ssc (ssc (ssc ssr))))))))))))) <| Dp 9 sh rfl rfl (by kernel_rfl) (fun w => Y_assign rfl) <| Dp 10 sh rfl rfl (by kernel_rfl) (fun w => Y_assign rfl) <| OD_doneS sh (by kernel_rfl) (fn _ _ _ (by repeat first | exact Sub.nil | refine Sub.cons rfl ?_) (fo (ac ++ (rd x2 aa)) ak (ab ++ cl.1) al cl.2 am kk fx a4 a5 kg fu a6 a7 dv dw au a8 e0 _ H (bc.trans ck) (hs.sub (ssk (ssc (ssc (ssc (ssc (ssc (ssc (ssc (ssc (ssc (ssc ssr)))))))))))) kl (ch.mono ck) kh (ci.mono ck) j9 (cj.mono ck))))))
       ·rw [if_neg ez] at H
        exact W_skip (fn _ _ _ (by repeat first | exact Sub.nil | refine Sub.cons rfl ?_) (fo ac ak ab al af am ah an a4 a5 aj ap a6 a7 ai aq au a8 cg _ H bc hs (b2.mono bc) ch (b3.mono bc) ci (b5.mono bc) cj))
      refine Wr fun np km => Om rfl rfl <| Om rfl rfl <| O_y rfl (Y_lenR un43 (h1.mono (((cf.trans bd).trans bb).trans ar)) rfl) <| O_y rfl (Y_lss rfl rfl) <| O_nil (km _ _ <| W.weak [(1, _), (2, _), (7, _), (10, _), (11, _), (12, _), (13, _), (14, _), (15, _), (16, _), (52, _)] (by repeat first | exact Sub.nil | refine Sub.cons rfl ?_) ?_)
      refine W_if rfl (fun e1 => ?_) (fun e1 => ?_)
      ·rw [if_pos e1] at H
       refine Wr fun nq kn => O_lit2 (xs := []) (cs := []) el28 hs rfl rfl rfl (by decide) (by decide) rfl sz_nil flat_nil (fun nr w hs => ?_)
       have ko : RowR (Rep.int .i32) be ([]) ([] : List Int) := RowR.nil _ _
       refine Om rfl rfl <| Om rfl rfl ?_
       obtain ⟨ek, H⟩ := gd H
       obtain ⟨ns, nt, kp, kq⟩ := (h1.mono (((cf.trans bd).trans bb).trans ar)).ix el43 ek.1 ek.2
       obtain ⟨nu, kr, ks⟩ := kp.slice
       refine O_y rfl (kq rfl rfl) <| O_y rfl (Y_load ag28 rfl (hs.see kr)) ?_
       obtain ⟨mk, fy, fz⟩ := Src.sl hs ks
       obtain ⟨kt, H⟩ := gd H
       refine O_appendR (i := 0) el28 hs rfl ko rfl rfl rfl fy fz kt (fun e2 em w ku hs => Oa rfl rfl <| O_nil (kn _ _ <| W.weak [(1, _), (2, _), (7, _), (10, _), (11, _), (12, _), (13, _), (14, _), (15, _), (16, _), (17, _)] (by repeat first | exact Sub.nil | refine Sub.cons rfl ?_) ?_))
       refine Wr fun nv kv => Om rfl rfl <| Om rfl rfl ?_
       obtain ⟨nw, en, hs, kw, ga⟩ := hs.lend (j := 0) ku rfl
       have hs := hs.front 7 rfl
       have hs := hs.front 7 rfl
       obtain ⟨cd, gb, H⟩ := bnd H
       refine O_call rfl rfl (canon_Decomposer_Feed_pfg.c hs kw (fh.mono ((bb.trans ar).trans en)) (b6.mono en) gb) (fun e3 w hpost => ?_)
       obtain ⟨nx, ny, dx, dy, dd, rfl, gc, hs, kx, ky⟩ := hpost
       have hs := hs.front 1 rfl
       have hs := hs.sink 8
       have hs := hs.front 1 rfl
       have hs := hs.sink 8
       obtain ⟨dz, de, hs⟩ := ga gc hs
       have ge : RowR (Rep.int .i32) dz dx cd.1 := kx
       have kz : RowR (Rep.int .i32) dz dd cd.2 := ky
       have hs := hs.sink 1
       refine Oa rfl rfl <| O_nil (kv _ _ <| W.weak [(1, _), (2, _), (7, _), (10, _), (11, _), (12, _), (13, _), (14, _), (15, _), (16, _), (17, _), (18, _)] (by repeat first | exact Sub.nil | refine Sub.cons rfl ?_) ?_)
       refine W_seq fun nz k0 => ?_
       have hs0 : St w0 dz ((.row e3 21 ((Rep.int .i32).sz) cd.1.length dx) :: (.row e2 21 ((Rep.int .i32).sz) ((([] : List Int) ++ (rd x1 aa)).length) em) :: (.row ah 21 ((Rep.int .i32).sz) ac.length an) :: (.row aj 21 ((Rep.int .i32).sz) ab.length ap) :: (.box cc 64 ([cv, ai])) :: (.row ai 21 ((Rep.int .i32).sz) af.length aq) :: (.box cb 64 ([cu, dy])) :: (.row dy 21 ((Rep.int .i32).sz) cd.2.length dd) :: (.box cr 34 ([ec, ed, ee, ef, eg, eh, cm, cn, co, cp, cq])) :: (.box eb 27 ([di, dk, dl, dm, dn, dp, dq, dr, ds, dt, du])) :: Γ) w := hs.sub (ssc (ssc (ssc (ssk (ssc (ssk (ssc (ssc (ssc (ssc (ssc (ssc ssr))))))))))))
       refine W_drawS 11 [0, 0, 3, 0, 0, 0, 48, 64, 140, 263, 1023] [506, 505, 248, 759, 943, 927, 783, 527, 0, 0, 0] [0, 0, 3, 0, 0, 0, 48, 112, 255, 511, 1023] [] (fun w => St w0 dz ((.row e3 21 ((Rep.int .i32).sz) cd.1.length dx) :: (.row e2 21 ((Rep.int .i32).sz) ((([] : List Int) ++ (rd x1 aa)).length) em) :: (.row ah 21 ((Rep.int .i32).sz) ac.length an) :: (.row aj 21 ((Rep.int .i32).sz) ab.length ap) :: (.box cc 64 ([cv, ai])) :: (.row ai 21 ((Rep.int .i32).sz) af.length aq) :: (.box cb 64 ([cu, dy])) :: (.row dy 21 ((Rep.int .i32).sz) cd.2.length dd) :: (.box cr 34 ([ec, ed, ee, ef, eg, eh, cm, cn, co, cp, cq])) :: (.box eb 27 ([di, dk, dl, dm, dn, dp, dq, dr, ds, dt, du])) :: Γ) w) mixed (by kernel_rfl) (fun sh => ?_)
       have hs := hs.drew
       have hs0 := hs0.drew
       refine Dm 0 sh rfl rfl (by kernel_rfl) rfl <| Dm 1 sh rfl rfl (by kernel_rfl) rfl <| Dm 3 sh rfl rfl (by kernel_rfl) rfl <| Dm 4 sh rfl rfl (by kernel_rfl) rfl <| Dm 5 sh rfl rfl (by kernel_rfl) rfl ?_
       obtain ⟨n0, n1, k1, k2⟩ := (h1.mono ((((cf.trans bd).trans bb).trans ar).trans de)).ix el43 ek.1 ek.2
       obtain ⟨n2, k3, k4⟩ := k1.slice
       refine Dp 6 sh rfl rfl (by kernel_rfl) (fun w => k2 rfl rfl) <| Dy 7 sh rfl rfl (by kernel_rfl) (hs.sub (ssc (ssc (ssc (ssk (ssc (ssk (ssc (ssc (ssc (ssc (ssc (ssc ssr))))))))))))) (fun w hs => Y_load ag28 rfl (hs.see k3)) ?_
       obtain ⟨k5, H⟩ := gd H
       refine D1 2 sh rfl (by kernel_rfl) (fun n3 k6 => O_appendR (i := 5) el28 hs rfl (b4.mono de) rfl rfl rfl (Src.lit (j := 0) hs rfl ge) ge k5 (fun k7 gf w k8 hs => O_nil (k6 _ _ (fun _ _ => (hs.sub (ssc (ssc (ssc (ssk (ssc (ssk (ssc (ssc (ssc (ssc (ssc (ssc ssr)))))))))))))) ?_)))
       obtain ⟨ml, gg, gh⟩ := Src.sl hs k4
       obtain ⟨k9, H⟩ := gd H
       refine D1 8 sh rfl (by kernel_rfl) (fun n4 la => O_appendR (i := 3) el28 hs rfl (bf.mono de) rfl rfl rfl gg gh k9 (fun lb gi w lc hs => O_nil (la _ _ (fun _ _ => (hs.sub (ssc (ssc (ssc (ssk (ssc (ssk (ssc (ssc (ssc (ssc (ssc (ssc ssr)))))))))))))) <| Dp 9 sh rfl rfl (by kernel_rfl) (fun w => Y_assign rfl) <| Dp 10 sh rfl rfl (by kernel_rfl) (fun w => Y_assign rfl) <| OD_doneS sh (by kernel_rfl) (k0 _ _ <| W.weak [(1, _), (2, _), (7, _), (10, _), (11, _), (12, _), (13, _), (14, _), (15, _), (16, _), (17, _), (18, _)] (by repeat first | exact Sub.nil | refine Sub.cons rfl ?_) ?_))))
       refine W_region <| Om rfl rfl <| Om rfl rfl <| O_lit2 (xs := [.tmp 71, .tmp 72]) (cs := [e2, e3]) el43 hs rfl rfl rfl (by decide) (by decide) rfl (sz_cons (St.rowCellsz hs (j := 1) rfl) (sz_cons (St.rowCellsz hs (j := 0) rfl) sz_nil)) (flat_cons (St.rowCellsL hs (j := 1) rfl) (flat_cons (St.rowCellsL hs (j := 0) rfl) flat_nil)) (fun n5 w hs => ?_)
       obtain ⟨ld, H⟩ := gd H
       obtain ⟨le, H⟩ := gd H
       have hs := hs.front 1 rfl
       have hs := hs.front 2 rfl
       have hs := hs.front 2 rfl
       refine O_call rfl rfl (law12_mark.c hs ld le) (fun n6 w hpost => ?_)
       obtain ⟨rfl, hs⟩ := hpost
       exact O_nil (fp _ _ _ (by repeat first | exact Sub.nil | refine Sub.cons rfl ?_) (fq (ad ++ (rd x1 aa)) (ae ++ cd.1) cd.2 lb gi k7 gf dy dd dz _ H de hs lc k8 kz))
      ·rw [if_neg e1] at H
       exact W_skip (fp _ _ _ (by repeat first | exact Sub.nil | refine Sub.cons rfl ?_) (fq ad ae ag ao a2 av a9 a3 ba be _ H (Le.rfl' _) hs bf b4 b6))
     ·rw [if_neg (bft ex)] at H
      refine W_exit (jq _ _ (jo _ _ <| Wr fun n7 lf => Om rfl rfl <| Om rfl rfl ?_))
      have hs := hs.front 7 rfl
      have hs := hs.front 7 rfl
      obtain ⟨ce, gj, H⟩ := bnd H
      refine O_call rfl rfl (canon_Decomposer_End_hgl.c hs (fh.mono (bb.trans ar)) b6 gj) (fun lg w hpost => ?_)
      obtain ⟨n8, n9, gk, gl, gm, rfl, bg, hs, gn, oa⟩ := hpost
      have hs := hs.front 1 rfl
      have hs := hs.sink 8
      have hs := hs.front 1 rfl
      have hs := hs.sink 8
      obtain ⟨lh, H⟩ := gd H
      refine O_appendR (i := 4) el28 hs rfl (b4.mono bg) rfl rfl rfl (Src.lit (j := 0) hs rfl gn) gn lh (fun go gp w gq hs => Om rfl rfl <| Om rfl rfl ?_)
      have hs := hs.front 6 rfl
      have hs := hs.front 6 rfl
      obtain ⟨dg, gr, H⟩ := bnd H
      refine O_call rfl rfl (canon_Decomposer_End_hgl.c hs (fk.mono (ar.trans bg)) (b5.mono bg) gr) (fun li w hpost => ?_)
      obtain ⟨ob, oc, gs, gt, gu, rfl, bi, hs, gv, od⟩ := hpost
      have hs := hs.front 1 rfl
      have hs := hs.sink 7
      have hs := hs.front 1 rfl
      have hs := hs.sink 7
      obtain ⟨lj, H⟩ := gd H
      refine O_appendR (i := 4) el28 hs rfl (b3.mono (bg.trans bi)) rfl rfl rfl (Src.lit (j := 0) hs rfl gv) gv lj (fun lk gw w ll hs => Oa rfl rfl <| Oa rfl rfl <| O_nil (lf _ _ <| W.weak [(7, _), (12, _), (13, _), (14, _), (15, _)] (by repeat first | exact Sub.nil | refine Sub.cons rfl ?_) ?_))
      refine Wr fun oe lm => Om rfl rfl <| Om rfl rfl ?_
      obtain ⟨og, gx, hs, ln, gy⟩ := hs.lend (j := 3) (bf.mono (bg.trans bi)) rfl
      obtain ⟨ct, gz, H⟩ := bnd H
      refine O_call rfl rfl (canon_Decompose.c hs (e9.mono (((((bd.trans bb).trans ar).trans bg).trans bi).trans gx)) ln gz) (fun e4 w hpost => ?_)
      obtain ⟨oh, oi, eo, rfl, ha, hs, lo⟩ := hpost
      obtain ⟨hb, b0, hs⟩ := gy ha hs
      have lp : RowR (Rep.int .i32) hb eo ct := lo
      have hs := hs.sink 4
      refine Oa rfl rfl <| O_nil (lm _ _ <| W_seq fun oj lq => W_seqj fun lr ls hc => ?_)
      have hd : ∀ (bx : Bool) (ea : Hp) (w : World), law12_CanonTwo.j3 b8 ad ae ce ct bx = some r → Le hb ea → St w0 ea ((.row e4 21 ((Rep.int .i32).sz) ct.length eo) :: (.row li 21 ((Rep.int .i32).sz) dg.1.length gs) :: (.row lg 21 ((Rep.int .i32).sz) ce.1.length gk) :: (.row ah 21 ((Rep.int .i32).sz) ac.length an) :: (.row ao 21 ((Rep.int .i32).sz) ad.length a2) :: (.row lk 21 ((Rep.int .i32).sz) ((ab ++ dg.1).length) gw) :: (.row go 21 ((Rep.int .i32).sz) ((ae ++ ce.1).length) gp) :: (.box cc 64 ([cv, gt])) :: (.row gt 21 ((Rep.int .i32).sz) dg.2.length gu) :: (.box cb 64 ([cu, gl])) :: (.row gl 21 ((Rep.int .i32).sz) ce.2.length gm) :: (.box cr 34 ([ec, ed, ee, ef, eg, eh, cm, cn, co, cp, cq])) :: (.box eb 27 ([di, dk, dl, dm, dn, dp, dq, dr, ds, dt, du])) :: Γ) w → lr [(7, ev), (12, go), (14, ao), (20, e4), (116, .bool bx)] w := by
       intro bx ea w H b7 hs
       rw [law12_CanonTwo.j3] at H
       refine ls _ _ <| W_cond rfl (fun e5 => ?_) (fun e5 => ?_)
       ·rw [if_pos e5] at H
        refine Wr fun ok lt => Oa rfl rfl <| O_nil (lt _ _ <| W_ret ?_)
        obtain rfl := sinj H
        exact ret1 rfl rfl ⟨rfl, ((hs.sub (ssk (ssk (ssk (ssk (ssk (ssk (ssk (ssk (ssk (ssk (ssk (ssk (ssk ssr)))))))))))))).less (((((((cf.trans bd).trans bb).trans ar).trans bg).trans bi).trans b0).trans b7))⟩
       ·rw [if_neg (bft e5)] at H
        refine W_skip (lq _ _ <| Wr fun ol lu => Om rfl rfl <| Om rfl rfl <| Om rfl rfl ?_)
        obtain ⟨om, he, hs, lv, hf⟩ := hs.lend (j := 4) (bf.mono (((bg.trans bi).trans b0).trans b7)) rfl
        obtain ⟨er, hg, H⟩ := bnd H
        refine O_call rfl rfl (canon_Order.c hs (e9.mono (((((((bd.trans bb).trans ar).trans bg).trans bi).trans b0).trans b7).trans he)) lv hg) (fun lw w hpost => ?_)
        obtain ⟨on, oo, hh, rfl, hi, hs, lx⟩ := hpost
        obtain ⟨ly, df, hs⟩ := hf hi hs
        have op : RowR (Rep.int .i32) ly hh er := lx
        have hs := hs.sink 5
        refine O_lit2 (xs := [.tmp 117, .tmp 120]) (cs := [e4, lw]) el43 hs rfl rfl rfl (by decide) (by decide) rfl (sz_cons (St.rowCellsz hs (j := 1) rfl) (sz_cons (St.rowCellsz hs (j := 0) rfl) sz_nil)) (flat_cons (St.rowCellsL hs (j := 1) rfl) (flat_cons (St.rowCellsL hs (j := 0) rfl) flat_nil)) (fun oq w hs => ?_)
        obtain ⟨lz, H⟩ := gd H
        obtain ⟨l0, H⟩ := gd H
        have hs := hs.front 1 rfl
        have hs := hs.front 2 rfl
        have hs := hs.front 2 rfl
        refine O_call rfl rfl (law12_mark.c hs lz l0) (fun os w hpost => ?_)
        obtain ⟨rfl, hs⟩ := hpost
        refine O_nil (lu _ _ <| Wr fun ot l2 => Om rfl rfl <| Om rfl rfl <| Om rfl rfl ?_)
        obtain ⟨ou, hj, hs, l3, hk⟩ := hs.lend (j := 3) (bf.mono ((((bg.trans bi).trans b0).trans b7).trans df)) rfl
        obtain ⟨es, hl, H⟩ := bnd H
        refine O_call rfl rfl (canon_Decompose.c hs (e9.mono ((((((((bd.trans bb).trans ar).trans bg).trans bi).trans b0).trans b7).trans df).trans hj)) l3 hl) (fun ov w hpost => ?_)
        obtain ⟨ow, ox, hm, rfl, hn, hs, l4⟩ := hpost
        obtain ⟨l5, ep, hs⟩ := hk hn hs
        have l6 : RowR (Rep.int .i32) l5 hm es := l4
        have hs := hs.sink 4
        obtain ⟨oy, ho, hs, l7, hp⟩ := hs.lend (j := 6) (gq.mono ((((bi.trans b0).trans b7).trans df).trans ep)) rfl
        obtain ⟨oz, hq, hs, l8, hr⟩ := hs.lend (j := 0) (l6.mono ho) rfl
        obtain ⟨fa, ht, H⟩ := bnd H
        refine O_call rfl rfl (ref10_Runes.c hs (l7.mono hq) l8 ht) (fun o0 w hpost => ?_)
        obtain ⟨rfl, hs⟩ := hpost
        obtain ⟨o1, hu, hs⟩ := hr (Le.rfl' _) hs
        obtain ⟨o2, hv, hs⟩ := hp hu hs
        have hs := hs.sink 6
        refine Oa rfl rfl <| O_nil (l2 _ _ <| W_ret ?_)
        obtain rfl := sinj H
        exact ret1 rfl rfl ⟨rfl, ((hs.sub (ssk (ssk (ssk (ssk (ssk (ssk (ssk (ssk (ssk (ssk (ssk (ssk (ssk ssr)))))))))))))).less ((((((((((cf.trans bd).trans bb).trans ar).trans bg).trans bi).trans b0).trans b7).trans df).trans ep).trans hv))⟩
      refine W_region <| Om rfl rfl <| Om rfl rfl ?_
      obtain ⟨o3, hw, hs, l9, hx⟩ := hs.lend (j := 6) (gq.mono (bi.trans b0)) rfl
      obtain ⟨o4, hy, hs, ma, hz⟩ := hs.lend (j := 0) (lp.mono hw) rfl
      obtain ⟨fb, ia, H⟩ := bnd H
      refine O_call rfl rfl (ref10_Runes.c hs (l9.mono hy) ma ia) (fun o5 w hpost => ?_)
      obtain ⟨rfl, hs⟩ := hpost
      obtain ⟨o6, ib, hs⟩ := hz (Le.rfl' _) hs
      obtain ⟨mb, cw, hs⟩ := hx ib hs
      have hs := hs.sink 6
      refine O_y rfl (Y_not rfl) <| Om rfl rfl <| O_cases (dj := 109) rfl (fun e6 => ?_) (fun e6 => ?_)
      ·rw [if_pos e6] at H
       refine O_no rfl rfl rfl rfl <| O_no rfl rfl rfl rfl <| O_no rfl rfl rfl rfl <| O_no rfl rfl rfl rfl <| O_no rfl rfl rfl rfl <| O_no rfl rfl rfl rfl <| O_y rfl (Y_pick_t rfl rfl) <| O_nil (hc _ _ _ (by repeat first | exact Sub.nil | refine Sub.cons rfl ?_) (hd true mb _ H cw hs))
      ·rw [if_neg (bft e6)] at H
       refine O_yes rfl rfl <| Om rfl rfl <| O_yes rfl rfl <| Om rfl rfl <| O_yes rfl rfl <| Om rfl rfl ?_
       obtain ⟨o7, ic, hs, mc, id⟩ := hs.lend (j := 3) (b2.mono (((bg.trans bi).trans b0).trans cw)) rfl
       refine O_yes rfl rfl ?_
       obtain ⟨et, ie, H⟩ := bnd H
       refine O_call rfl rfl (canon_Decompose.c hs (e9.mono (((((((bd.trans bb).trans ar).trans bg).trans bi).trans b0).trans cw).trans ic)) mc ie) (fun o8 w hpost => ?_)
       obtain ⟨o9, pa, ig, rfl, ih, hs, md⟩ := hpost
       obtain ⟨me, eq, hs⟩ := id ih hs
       have mf : RowR (Rep.int .i32) me ig et := md
       have hs := hs.sink 4
       obtain ⟨pb, ii, hs, mg, ij⟩ := hs.lend (j := 6) (ll.mono ((b0.trans cw).trans eq)) rfl
       obtain ⟨pc, ik, hs, mh, il⟩ := hs.lend (j := 0) (mf.mono ii) rfl
       refine O_yes rfl rfl ?_
       obtain ⟨eu, im, H⟩ := bnd H
       refine O_call rfl rfl (ref10_Runes.c hs (mg.mono ik) mh im) (fun pd w hpost => ?_)
       obtain ⟨rfl, hs⟩ := hpost
       obtain ⟨pe, io, hs⟩ := il (Le.rfl' _) hs
       obtain ⟨mi, ip, hs⟩ := ij io hs
       have hs := hs.sink 6
       refine O_yes rfl rfl <| O_y rfl (Y_not rfl) <| O_y rfl (Y_pick_f rfl rfl) <| O_nil (hc _ _ _ (by repeat first | exact Sub.nil | refine Sub.cons rfl ?_) (hd (!eu) mi _ H ((cw.trans eq).trans ip) (hs.sub (ssk (ssc (ssc (ssc (ssc (ssc (ssc (ssc (ssc (ssc (ssc (ssc (ssc (ssc ssr)))))))))))))))))
    refine W_region <| Om rfl rfl <| Om rfl rfl <| O_y rfl (Y_lenR un43 (h1.mono (((cf.trans bd).trans bb).trans ar)) rfl) <| O_y rfl (Y_lss rfl rfl) <| Om rfl rfl <| O_if (dj := 41) rfl (fun e7 => ?_) (fun e7 => ?_)
    ·rw [if_pos e7] at H
     refine O_no rfl rfl rfl rfl <| O_no rfl rfl rfl rfl <| O_no rfl rfl rfl rfl <| O_no rfl rfl rfl rfl <| O_y rfl (Y_pick_t rfl rfl) <| O_nil (fl _ _ _ (by repeat first | exact Sub.nil | refine Sub.cons rfl ?_) (fm true _ H hs))
    ·rw [if_neg e7] at H
     refine O_yes rfl rfl <| Om rfl rfl <| O_yes rfl rfl <| Om rfl rfl <| O_yes rfl rfl <| O_y rfl (Y_lenR un43 (h2.mono (((cf.trans bd).trans bb).trans ar)) rfl) <| O_yes rfl rfl <| O_y rfl (Y_lss rfl rfl) <| O_y rfl (Y_pick_f rfl rfl) <| O_nil (fl _ _ _ (by repeat first | exact Sub.nil | refine Sub.cons rfl ?_) (fm (decide (aa < (x2.length : Int))) _ H hs))
  refine W_region ?_
  obtain ⟨fc, iq, H⟩ := bnd H
  refine O_call rfl rfl (law12_awake.c hs iq) (fun pf w hpost => ?_)
  obtain ⟨rfl, hs⟩ := hpost
  refine O_y rfl (Y_not rfl) <| Om rfl rfl <| O_cases (dj := 29) rfl (fun e8 => ?_) (fun e8 => ?_)
  ·rw [if_pos e8] at H
   refine O_no rfl rfl rfl rfl <| O_no rfl rfl rfl rfl <| O_y rfl (Y_pick_t rfl rfl) <| O_nil (fd _ _ _ (S4 rfl rfl rfl rfl) (fe true _ H hs))
  ·rw [if_neg (bft e8)] at H
   refine O_yes rfl rfl <| Om rfl rfl <| O_yes rfl rfl <| O_y rfl (Y_not rfl) <| O_y rfl (Y_pick_f rfl rfl) <| O_nil (fd _ _ _ (S4 rfl rfl rfl rfl) (fe (!b8.2.2) _ H hs))

end Go.Proofs.YtekafkokpnihfaaGreat
