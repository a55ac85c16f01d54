/- Texts of this repo, merged for the claim: TP1, TP2. -/
import Derived.Test.YthoicbafdanmkaaGreatDoorWhole1
/- Written by this repo's gen.py: for each Go function a Lean function with the same answers and the walk that shows it. -/
namespace Go.Proofs.YthoicbafdanmkaaGreatDoor
open Go.RowKit
set_option maxRecDepth 100000
set_option maxHeartbeats 4000000
set_option linter.unusedVariables false
def book_Check_8_1_kid.j1 (aa : Bool) : Option Bool := some aa
def book_Check_8_1_kid.f (x0 : Chs) : Option Bool := if x0.lo = x0.hi then ((book_scalars.f ([x0.lo]) 1 1).bind fun aq => (if aq = true then ((book_scalars.f x0.is_ 1 2).bind fun ar => (if ar = true then ((book_ofChars.f x0).bind fun au => ((book_Check_2.f au).bind fun ah => (book_Check_8_1_kid.j1 ah))) else (book_Check_8_1_kid.j1 false))) else (book_Check_8_1_kid.j1 false))) else (book_Check_8_1_kid.j1 false)
theorem book_Check_8_1_kid.c {w0 w : World} {ρ : Hp} {Γ : List Item} {pb0 : Nat} (hs : St w0 ρ ((.box pb0 133 ([.func (.func 88) #[] #[]])) :: Γ) w) {c0 : List Value} {x0 : Chs} (h0 : rChs.R ρ c0 x0) {r : Bool} (H : book_Check_8_1_kid.f x0 = some r) : CallsR Tryz.prog 101 [.agg c0.toArray, .pointer (some ⟨pb0, 0, none⟩)] w (fun v w' => v = .bool r ∧ St w0 ρ ((.box pb0 133 ([.func (.func 88) #[] #[]])) :: Γ) w') := by
  rw [book_Check_8_1_kid.f] at H
  refine enter Tryz.func101 Tryz.ntmps101 rfl (by kernel_rfl) rfl ?_
  have az := h0
  obtain ⟨ai, rfl, a0⟩ := az
  refine Wr fun bf a1 => O_boxN (cs := [.int .i32 x0.lo, .int .i32 x0.hi, ai]) hs rfl rfl (fun av w hs => Oa rfl rfl <| O_nil (a1 _ _ <| W_seqj fun a2 a3 af => ?_))
  have ag : ∀ (aa : Bool) (ac : Hp) (w : World), book_Check_8_1_kid.j1 aa = some r → Le ρ ac → St w0 ac ((.box av 110 ([.int .i32 x0.lo, .int .i32 x0.hi, ai])) :: (.box pb0 133 ([.func (.func 88) #[] #[]])) :: Γ) w → a2 [(3, .bool aa)] w := by
   intro aa ac w H ae hs
   rw [book_Check_8_1_kid.j1] at H
   refine a3 _ _ <| W_ret ?_
   obtain rfl := sinj H
   exact ret1 rfl rfl ⟨rfl, ((hs.sub (ssk (ssc ssr))).less ae)⟩
  refine W_drawS 23 [0, 1, 0, 4, 10, 16, 32, 96, 160, 288, 544, 1536, 2048, 6144, 10240, 18432, 49152, 65536, 65536, 327680, 720896, 1114112, 4194303] [4194300, 4194284, 4194291, 4194275, 4194240, 4192256, 4194048, 4193792, 4193280, 4190208, 4190208, 4128768, 4177920, 4161536, 4063232, 4063232, 0, 2883584, 3276800, 2228224, 0, 0, 0] [0, 1, 0, 4, 15, 31, 63, 127, 255, 511, 1023, 2047, 4095, 8191, 16383, 32767, 65535, 131071, 131071, 393215, 1048575, 2097151, 4194303] [8, 9, 10, 11, 12, 13, 14, 15, 16, 17, 18, 19, 20, 21, 22] (fun w => St w0 ρ ((.box av 110 ([.int .i32 x0.lo, .int .i32 x0.hi, ai])) :: (.box pb0 133 ([.func (.func 88) #[] #[]])) :: Γ) w) mixed (by kernel_rfl) (fun sh => ?_)
  have hs := hs.drew
  refine Dp 0 sh rfl rfl (by kernel_rfl) (fun w => Y_field fo110_0 rfl) <| Dy 1 sh rfl rfl (by kernel_rfl) hs (fun w hs => Yb 0 ag21 hs rfl rfl rfl) <| Dp 2 sh rfl rfl (by kernel_rfl) (fun w => Y_field fo110_1 rfl) <| Dy 3 sh rfl rfl (by kernel_rfl) hs (fun w hs => Yb 0 ag21 hs rfl rfl rfl) <| Dp 4 sh rfl rfl (by kernel_rfl) (fun w => Y_eql rfl rfl) <| Dm 5 sh rfl rfl (by kernel_rfl) rfl <| OD_if (dj := 9) rfl (fun aj => ?_) (fun aj => ?_)
  ·rw [if_pos aj] at H
   refine Dq 6 sh rfl rfl rfl rfl (by kernel_rfl) (fun w => Y_field fo110_0 rfl) <| Dz 7 sh rfl rfl rfl rfl (by kernel_rfl) hs (fun w hs => Yb 0 ag21 hs rfl rfl rfl) <| D1 8 sh rfl (by kernel_rfl) (fun bg a4 => O_yes rfl rfl <| O_lit2 (xs := [.tmp 11]) (cs := [.int .i32 x0.lo]) el28 hs rfl rfl rfl (by decide) (by decide) rfl (sz_cons rfl sz_nil) (flat_cons rfl flat_nil) (fun bh w hs => ?_))
   have a5 : RowR (Rep.int .i32) ρ ([.int .i32 x0.lo]) [x0.lo] := RowR.cons (c := [.int .i32 x0.lo]) (x := x0.lo) rfl (RowR.nil _ _)
   refine O_nil (a4 _ _ (fun h _ => absurd h (by decide)) <| OD_resetS sh [9, 10, 11, 12, 13, 14, 15, 16, 17, 18, 19, 20, 21, 22] hs (by kernel_rfl) ?_)
   have aw := hs
   obtain ⟨ax, ab, hs, a6⟩ := hs.rowEnd (j := 0) a5 rfl
   refine D1 9 sh rfl (by kernel_rfl) (fun bi a7 => O_yes rfl rfl ?_)
   obtain ⟨aq, ak, H⟩ := bnd H
   refine O_call rfl rfl (book_scalars.c hs a6 ak) (fun bj w hpost => ?_)
   obtain ⟨rfl, hs⟩ := hpost
   refine O_nil (a7 _ _ (fun h _ => absurd h (by decide)) <| OD_resetS sh [14, 15, 16, 17, 18, 19, 20, 21, 22] hs (by kernel_rfl) <| Dp 10 sh rfl rfl (by kernel_rfl) (fun w => Y_pick_t rfl rfl) <| Dm 11 sh rfl rfl (by kernel_rfl) rfl <| OD_cases (dj := 15) rfl (fun al => ?_) (fun al => ?_))
   ·rw [if_pos al] at H
    refine Dq 12 sh rfl rfl rfl rfl (by kernel_rfl) (fun w => Y_field fo110_2 rfl) <| Dz 13 sh rfl rfl rfl rfl (by kernel_rfl) hs (fun w hs => Yb 0 ag28 hs rfl rfl rfl) <| D1 14 sh rfl (by kernel_rfl) (fun bk a8 => O_yes rfl rfl ?_)
    obtain ⟨ar, am, H⟩ := bnd H
    refine O_call rfl rfl (book_scalars.c hs (a0.mono ab) am) (fun bl w hpost => ?_)
    obtain ⟨rfl, hs⟩ := hpost
    refine O_nil (a8 _ _ (fun h _ => absurd h (by decide)) <| OD_resetS sh [] hs (by kernel_rfl) <| Dp 15 sh rfl rfl (by kernel_rfl) (fun w => Y_pick_t rfl rfl) <| Dm 16 sh rfl rfl (by kernel_rfl) rfl <| OD_cases (dj := 20) rfl (fun an => ?_) (fun an => ?_))
    ·rw [if_pos an] at H
     refine Dz 17 sh rfl rfl rfl rfl (by kernel_rfl) hs (fun w hs => Yb 1 ag133 hs rfl rfl rfl) <| Dz 18 sh rfl rfl rfl rfl (by kernel_rfl) hs (fun w hs => Y_loadbN (i := 0) ag110 sz110 hs rfl rfl rfl rfl) <| D1 19 sh rfl (by kernel_rfl) (fun bm a9 => O_yes rfl rfl ?_)
     obtain ⟨au, ao, H⟩ := bnd H
     refine O_call rfl rfl (book_ofChars.c hs (rChs.mono ab h0) ao) (fun bn w hpost => ?_)
     obtain ⟨ba, bb, rfl, ad, hs, ay⟩ := hpost
     have bc := ab.trans ad
     have bd := ay
     obtain rfl := bd
     refine O_nil (a9 _ _ (fun _ _ => (hs.less ad)) <| D1 20 sh rfl (by kernel_rfl) (fun bo be => O_yes rfl rfl ?_))
     obtain ⟨ah, ap, H⟩ := bnd H
     refine O_callv rfl rfl rfl (book_Check_2.c hs ay ap) (fun bp w hpost => ?_)
     obtain ⟨rfl, hs⟩ := hpost
     refine O_nil (be _ _ (fun _ _ => (hs.less ad)) <| Dp 21 sh rfl rfl (by kernel_rfl) (fun w => Y_pick_t rfl rfl) <| Dp 22 sh rfl rfl (by kernel_rfl) (fun w => Y_assign rfl) <| OD_doneS sh (by kernel_rfl) (af _ _ _ (S1 rfl) (ag ah ba _ H bc hs)))
    ·rw [if_neg (bft an)] at H
     refine Dn 17 sh rfl rfl rfl rfl rfl (by kernel_rfl) <| Dn 18 sh rfl rfl rfl rfl rfl (by kernel_rfl) <| Dn 19 sh rfl rfl rfl rfl rfl (by kernel_rfl) <| Dn 20 sh rfl rfl rfl rfl rfl (by kernel_rfl) <| Dp 21 sh rfl rfl (by kernel_rfl) (fun w => Y_pick_f rfl rfl) <| Dp 22 sh rfl rfl (by kernel_rfl) (fun w => Y_assign rfl) <| OD_doneS sh (by kernel_rfl) (af _ _ _ (S1 rfl) (ag false ax _ H ab hs))
   ·rw [if_neg (bft al)] at H
    refine Dn 12 sh rfl rfl rfl rfl rfl (by kernel_rfl) <| Dn 13 sh rfl rfl rfl rfl rfl (by kernel_rfl) <| Dn 14 sh rfl rfl rfl rfl rfl (by kernel_rfl) <| Dp 15 sh rfl rfl (by kernel_rfl) (fun w => Y_pick_f rfl rfl) <| Dm 16 sh rfl rfl (by kernel_rfl) rfl <| Dn 17 sh rfl rfl rfl rfl rfl (by kernel_rfl) <| Dn 18 sh rfl rfl rfl rfl rfl (by kernel_rfl) <| Dn 19 sh rfl rfl rfl rfl rfl (by kernel_rfl) <| Dn 20 sh rfl rfl rfl rfl rfl (by kernel_rfl) <| Dp 21 sh rfl rfl (by kernel_rfl) (fun w => Y_pick_f rfl rfl) <| Dp 22 sh rfl rfl (by kernel_rfl) (fun w => Y_assign rfl) <| OD_doneS sh (by kernel_rfl) (af _ _ _ (S1 rfl) (ag false ax _ H ab hs))
  ·rw [if_neg aj] at H
   refine Dn 6 sh rfl rfl rfl rfl rfl (by kernel_rfl) <| Dn 7 sh rfl rfl rfl rfl rfl (by kernel_rfl) <| Dn 8 sh rfl rfl rfl rfl rfl (by kernel_rfl) <| Dn 9 sh rfl rfl rfl rfl rfl (by kernel_rfl) <| Dp 10 sh rfl rfl (by kernel_rfl) (fun w => Y_pick_f rfl rfl) <| Dm 11 sh rfl rfl (by kernel_rfl) rfl <| Dn 12 sh rfl rfl rfl rfl rfl (by kernel_rfl) <| Dn 13 sh rfl rfl rfl rfl rfl (by kernel_rfl) <| Dn 14 sh rfl rfl rfl rfl rfl (by kernel_rfl) <| Dp 15 sh rfl rfl (by kernel_rfl) (fun w => Y_pick_f rfl rfl) <| Dm 16 sh rfl rfl (by kernel_rfl) rfl <| Dn 17 sh rfl rfl rfl rfl rfl (by kernel_rfl) <| Dn 18 sh rfl rfl rfl rfl rfl (by kernel_rfl) <| Dn 19 sh rfl rfl rfl rfl rfl (by kernel_rfl) ?_
   refine Dn 20 sh rfl rfl rfl rfl rfl (by kernel_rfl) <| Dp 21 sh rfl rfl (by kernel_rfl) (fun w => Y_pick_f rfl rfl) <| Dp 22 sh rfl rfl (by kernel_rfl) (fun w => Y_assign rfl) <| OD_doneS sh (by kernel_rfl) (af _ _ _ (S1 rfl) (ag false ρ _ H (Le.rfl' _) hs))

def book_rising_api_Chars_mbg.j1 (ak : Int → Int → Option Int) (aa : Int) (ae : Spn) (ab : Bool) : Option Int := if ab = true then (some aa) else (ak ae.hi (IntKind.i64.wrap (aa + 1)))
def book_rising_api_Chars_mbg.l1 : Nat → List Chs → Int → Int → Option Int
  | 0, _, _, _ => none
  | ac + 1, x0, ad, aa => if aa < (x0.length : Int) then (if (0 : Int) ≤ aa ∧ aa < (x0.length : Int) then ((book_ofChars.f (rd x0 aa)).bind fun ae => (if ae.lo ≤ ad then (book_rising_api_Chars_mbg.j1 (book_rising_api_Chars_mbg.l1 ac x0) aa ae true) else (if ae.hi < ae.lo then (book_rising_api_Chars_mbg.j1 (book_rising_api_Chars_mbg.l1 ac x0) aa ae true) else (if 1114111 < ae.hi then (book_rising_api_Chars_mbg.j1 (book_rising_api_Chars_mbg.l1 ac x0) aa ae true) else ((book_Check_8_1_kid.f (rd x0 aa)).bind fun al => (book_rising_api_Chars_mbg.j1 (book_rising_api_Chars_mbg.l1 ac x0) aa ae (!al))))))) else none) else (some (-1))
def book_rising_api_Chars_mbg.f (x0 : List Chs) : Option Int := if 65536 < (x0.length : Int) then (some 65536) else (book_rising_api_Chars_mbg.l1 K0 x0 (-1) 0)
theorem book_rising_api_Chars_mbg.c {w0 w : World} {ρ : Hp} {Γ : List Item} {pb0 : Nat} (hs : St w0 ρ ((.box pb0 133 ([.func (.func 88) #[] #[]])) :: Γ) w) {v0 : Value} {x0 : List Chs} (h0 : SlR rChs ρ v0 x0) {r : Int} (H : book_rising_api_Chars_mbg.f x0 = some r) : CallsR Tryz.prog 100 [v0, .func (.func 66) #[] #[], .func (.func 101) #[] #[.pointer (some ⟨pb0, 0, none⟩)]] w (fun v w' => v = .int .i64 r ∧ St w0 ρ ((.box pb0 133 ([.func (.func 88) #[] #[]])) :: Γ) w') := by
  rw [book_rising_api_Chars_mbg.f] at H
  refine enter Tryz.func100 Tryz.ntmps100 rfl (by kernel_rfl) rfl <| Wr fun bv a8 => Oa rfl rfl <| O_nil (a8 _ _ <| W_seq fun bw a9 => Wr fun bx ba => Om rfl rfl <| O_y rfl (Y_lenR un24 h0 rfl) <| O_y rfl (Y_gtr rfl rfl) <| O_nil (ba _ _ <| W_if rfl (fun aw => ?_) (fun aw => ?_)))
  ·rw [if_pos aw] at H
   refine Wr fun bz bb => Oa rfl rfl <| O_nil (bb _ _ <| W_ret ?_)
   obtain rfl := sinj H
   exact ret1 rfl rfl ⟨rfl, hs⟩
  ·rw [if_neg aw] at H
   refine W_skip (a9 _ _ <| Wr fun b0 bc => Oa rfl rfl <| O_nil (bc _ _ <| W_seq fun b1 bd => Wr fun b2 be => Om rfl rfl <| O_y rfl (Y_lenR un24 h0 rfl) <| Om rfl rfl <| O_nil (be _ _ <| W_block fun b3 bf b4 => W_loop (σ := Nat × Int × Int × Hp) (fun (ac, ad, aa, ah) => [(1, .func (.func 66) #[] #[]), (2, .func (.func 101) #[] #[.pointer (some ⟨pb0, 0, none⟩)]), (7, .int .i32 ad), (14, v0), (15, .int .i64 (x0.length : Int)), (16, .int .i64 aa)]) (fun (ac, ad, aa, ah) w => book_rising_api_Chars_mbg.l1 ac x0 ad aa = some r ∧ Le ρ ah ∧ St w0 ah ((.box pb0 133 ([.func (.func 88) #[] #[]])) :: Γ) w) (fun s => s.1) (K0, (-1), 0, ρ) (by repeat first | exact Sub.nil | refine Sub.cons rfl ?_) (Ai H (Ai (Le.rfl' _) hs)) ?_)))
   rintro ⟨ac, ad, aa, ah⟩ w b5 ⟨H, af, hs⟩ am
   show W _ _ _ _ _ _ [(1, .func (.func 66) #[] #[]), (2, .func (.func 101) #[] #[.pointer (some ⟨pb0, 0, none⟩)]), (7, .int .i32 ad), (14, v0), (15, .int .i64 (x0.length : Int)), (16, .int .i64 aa)] w
   cases ac with
   | zero => rw [book_rising_api_Chars_mbg.l1] at H; cases H
   | succ ac =>
   rw [book_rising_api_Chars_mbg.l1] at H
   refine Wr fun b6 bg => O_y rfl (Y_lss rfl rfl) <| O_nil (bg _ _ <| W_seq fun b7 bh => W_if rfl (fun ax => ?_) (fun ax => ?_))
   ·rw [if_pos ax] at H
    refine W_skip (bh _ _ <| W_seq fun b8 bi => W_block fun b9 ca cb => Wr fun cc bj => Om rfl rfl ?_)
    obtain ⟨a7, H⟩ := gd H
    obtain ⟨cd, ce, bk, bl⟩ := (h0.mono af).ix el24 a7.1 a7.2
    obtain ⟨_, ⟨bm, rfl, ay⟩, bn⟩ := bk
    refine O_y rfl (bl rfl rfl) <| O_y rfl (Y_loadN ag110 sz110 rfl rfl (fun j u hu => hs.see (bn j u hu))) <| O_alloc zr110 hs rfl (fun bo w hs => Oa rfl rfl <| O_storeN (i := 0) sz110 hs rfl rfl rfl rfl rfl (one_cons rfl (one_cons rfl (one_cons ay.one one_nil))) (fun w hs => O_nil (bj _ _ <| Wr fun cf bp => Om rfl rfl <| O_y rfl (Y_loadbN (i := 0) ag110 sz110 hs rfl rfl rfl rfl) ?_)))
    obtain ⟨ae, az, H⟩ := bnd H
    refine O_callv rfl rfl rfl (book_ofChars.c hs ⟨_, rfl, ay⟩ az) (fun cg w hpost => ?_)
    obtain ⟨ar, bq, rfl, ag, hs, a0⟩ := hpost
    have a1 := a0
    obtain rfl := a1
    refine O_alloc zr129 hs rfl (fun au w hs => O_storeN (i := 0) sz129 hs rfl rfl rfl rfl rfl (one_cons rfl (one_cons rfl one_nil)) (fun w hs => O_nil (bp _ _ <| W.weak [(1, _), (2, _), (7, _), (8, _), (9, _), (10, _), (14, _), (15, _), (16, _)] (by repeat first | exact Sub.nil | refine Sub.cons rfl ?_) ?_)))
    refine W_seq fun br a2 => W_seqj fun a3 a4 ai => ?_
    have aj : ∀ (ab : Bool) (w : World), book_rising_api_Chars_mbg.j1 (book_rising_api_Chars_mbg.l1 ac x0) aa ae ab = some r → St w0 ar ((.box au 129 ([.int .i32 ae.lo, .int .i32 ae.hi])) :: (.box bo 110 ([.int .i32 ((rd x0 aa).lo), .int .i32 ((rd x0 aa).hi), bm])) :: (.box pb0 133 ([.func (.func 88) #[] #[]])) :: Γ) w → a3 [(1, .func (.func 66) #[] #[]), (2, .func (.func 101) #[] #[.pointer (some ⟨pb0, 0, none⟩)]), (8, .int .i64 aa), (10, .pointer (some ⟨au, 0, none⟩)), (14, v0), (15, .int .i64 (x0.length : Int)), (16, .int .i64 aa), (45, .bool ab)] w := by
     intro ab w H hs
     rw [book_rising_api_Chars_mbg.j1] at H
     refine a4 _ _ <| W_cond rfl (fun an => ?_) (fun an => ?_)
     ·rw [if_pos an] at H
      refine Wr fun bs a5 => Om rfl rfl <| Oa rfl rfl <| O_nil (a5 _ _ <| W_ret ?_)
      obtain rfl := sinj H
      exact ret1 rfl rfl ⟨rfl, ((hs.sub (ssk (ssk (ssc ssr)))).less (af.trans ag))⟩
     ·rw [if_neg (bft an)] at H
      refine W_skip (a2 _ _ <| W_region <| O_y rfl (Y_field fo129_1 rfl) <| O_y rfl (Yb 0 ag21 hs rfl rfl rfl) <| Oa rfl rfl <| O_nil (bi _ _ <| W_region <| O_y rfl (Y_add rfl rfl) <| Om rfl rfl <| O_nil (am (ac, ae.hi, (IntKind.i64.wrap (aa + 1)), ar) _ _ (by repeat first | exact Sub.nil | refine Sub.cons rfl ?_) (Ai H (Ai (af.trans ag) (hs.sub (ssk (ssk (ssc ssr)))))) (Nat.lt_succ_self _))))
    refine W_region <| O_y rfl (Y_field fo129_0 rfl) <| O_y rfl (Yb 0 ag21 hs rfl rfl rfl) <| Om rfl rfl <| O_y rfl (Y_leq rfl rfl) <| Om rfl rfl <| O_if (dj := 28) rfl (fun ao => ?_) (fun ao => ?_)
    ·rw [if_pos ao] at H
     refine O_no rfl rfl rfl rfl <| O_no rfl rfl rfl rfl <| O_no rfl rfl rfl rfl <| O_no rfl rfl rfl rfl <| O_no rfl rfl rfl rfl <| O_y rfl (Y_pick_t rfl rfl) <| Om rfl rfl <| O_no rfl rfl rfl rfl <| O_no rfl rfl rfl rfl <| O_no rfl rfl rfl rfl <| O_y rfl (Y_pick_t rfl rfl) <| Om rfl rfl <| O_no rfl rfl rfl rfl <| O_no rfl rfl rfl rfl ?_
     refine O_no rfl rfl rfl rfl <| O_no rfl rfl rfl rfl <| O_y rfl (Y_pick_t rfl rfl) <| O_nil (ai _ _ _ (by repeat first | exact Sub.nil | refine Sub.cons rfl ?_) (aj true _ H hs))
    ·rw [if_neg ao] at H
     refine O_yes rfl rfl <| O_y rfl (Y_field fo129_1 rfl) <| O_yes rfl rfl <| O_y rfl (Yb 0 ag21 hs rfl rfl rfl) <| O_yes rfl rfl <| O_y rfl (Y_field fo129_0 rfl) <| O_yes rfl rfl <| O_y rfl (Yb 0 ag21 hs rfl rfl rfl) <| O_yes rfl rfl <| O_y rfl (Y_lss rfl rfl) <| O_y rfl (Y_pick_f rfl rfl) <| Om rfl rfl <| O_if (dj := 35) rfl (fun ap => ?_) (fun ap => ?_)
     ·rw [if_pos ap] at H
      refine O_no rfl rfl rfl rfl <| O_no rfl rfl rfl rfl <| O_no rfl rfl rfl rfl <| O_y rfl (Y_pick_t rfl rfl) <| Om rfl rfl <| O_no rfl rfl rfl rfl <| O_no rfl rfl rfl rfl <| O_no rfl rfl rfl rfl <| O_no rfl rfl rfl rfl <| O_y rfl (Y_pick_t rfl rfl) <| O_nil (ai _ _ _ (by repeat first | exact Sub.nil | refine Sub.cons rfl ?_) (aj true _ H hs))
     ·rw [if_neg ap] at H
      refine O_yes rfl rfl <| O_y rfl (Y_field fo129_1 rfl) <| O_yes rfl rfl <| O_y rfl (Yb 0 ag21 hs rfl rfl rfl) <| O_yes rfl rfl <| O_y rfl (Y_gtr rfl rfl) <| O_y rfl (Y_pick_f rfl rfl) <| Om rfl rfl <| O_if (dj := 40) rfl (fun aq => ?_) (fun aq => ?_)
      ·rw [if_pos aq] at H
       refine O_no rfl rfl rfl rfl <| O_no rfl rfl rfl rfl <| O_no rfl rfl rfl rfl <| O_no rfl rfl rfl rfl <| O_y rfl (Y_pick_t rfl rfl) <| O_nil (ai _ _ _ (by repeat first | exact Sub.nil | refine Sub.cons rfl ?_) (aj true _ H hs))
      ·rw [if_neg aq] at H
       refine O_yes rfl rfl <| Om rfl rfl <| O_yes rfl rfl <| O_y rfl (Y_loadbN (i := 1) ag110 sz110 hs rfl rfl rfl rfl) <| O_yes rfl rfl ?_
       have hs := hs.front 2 rfl
       obtain ⟨al, av, H⟩ := bnd H
       refine O_callv rfl rfl rfl (book_Check_8_1_kid.c hs ⟨_, rfl, (ay.mono ag)⟩ av) (fun bt w hpost => ?_)
       obtain ⟨rfl, hs⟩ := hpost
       have hs := hs.sink 2
       refine O_yes rfl rfl <| O_y rfl (Y_not rfl) <| O_y rfl (Y_pick_f rfl rfl) <| O_nil (ai _ _ _ (by repeat first | exact Sub.nil | refine Sub.cons rfl ?_) (aj (!al) _ H hs))
   ·rw [if_neg ax] at H
    refine W_exit (bf _ _ (bd _ _ <| Wr fun bu a6 => Oa rfl rfl <| O_nil (a6 _ _ <| W_ret ?_)))
    obtain rfl := sinj H
    exact ret1 rfl rfl ⟨rfl, (hs.less af)⟩

def book_Check_8_hpj.f (y0_0 : List ByteArray) (y0_1 : List Val) (y0_2 : List Chs) (y0_3 : List Val) (y0_4 : List Chs) (y0_5 : List Spn) (y0_6 y0_7 : List Val) (y0_8 : List Spn) (y0_9 : List Val) (y0_10 : List Chs) : Option Int := (book_rising_api_Chars_mbg.f y0_4).bind fun ab => (some ab)
theorem book_Check_8_hpj.c {w0 w : World} {ρ : Hp} {Γ : List Item} {pb0 : Nat} {w0_0 : Value} {y0_0 : List ByteArray} {w0_1 : Value} {y0_1 : List Val} {w0_2 : Value} {y0_2 : List Chs} {w0_3 : Value} {y0_3 : List Val} {w0_4 : Value} {y0_4 : List Chs} {w0_5 : Value} {y0_5 : List Spn} {w0_6 : Value} {y0_6 : List Val} {w0_7 : Value} {y0_7 : List Val} {w0_8 : Value} {y0_8 : List Spn} {w0_9 : Value} {y0_9 : List Val} {w0_10 : Value} {y0_10 : List Chs} {pb1 : Nat} (hs : St w0 ρ ((.box pb0 27 ([w0_0, w0_1, w0_2, w0_3, w0_4, w0_5, w0_6, w0_7, w0_8, w0_9, w0_10])) :: (.box pb1 133 ([.func (.func 88) #[] #[]])) :: Γ) w) (g0_0 : SlR Rep.str ρ w0_0 y0_0) (g0_1 : SlR rVal ρ w0_1 y0_1) (g0_2 : SlR rChs ρ w0_2 y0_2) (g0_3 : SlR rVal ρ w0_3 y0_3) (g0_4 : SlR rChs ρ w0_4 y0_4) (g0_5 : SlR rSpn ρ w0_5 y0_5) (g0_6 : SlR rVal ρ w0_6 y0_6) (g0_7 : SlR rVal ρ w0_7 y0_7) (g0_8 : SlR rSpn ρ w0_8 y0_8) (g0_9 : SlR rVal ρ w0_9 y0_9) (g0_10 : SlR rChs ρ w0_10 y0_10) {r : Int} (H : book_Check_8_hpj.f y0_0 y0_1 y0_2 y0_3 y0_4 y0_5 y0_6 y0_7 y0_8 y0_9 y0_10 = some r) : CallsR Tryz.prog 99 [.pointer (some ⟨pb0, 0, none⟩), .pointer (some ⟨pb1, 0, none⟩)] w (fun v w' => v = .int .i64 r ∧ St w0 ρ ((.box pb0 27 ([w0_0, w0_1, w0_2, w0_3, w0_4, w0_5, w0_6, w0_7, w0_8, w0_9, w0_10])) :: (.box pb1 133 ([.func (.func 88) #[] #[]])) :: Γ) w') := by
  rw [book_Check_8_hpj.f] at H
  refine enter Tryz.func99 Tryz.ntmps99 rfl (by kernel_rfl) rfl <| Wr fun ae ac => Oa rfl rfl <| O_nil (ac _ _ <| Wr fun af ad => O_y rfl (Y_field fo27_4 rfl) <| O_y rfl (Yb 0 ag24 hs rfl rfl rfl) <| O_y rfl (Y_func rfl) ?_)
  have hs := hs.front 1 rfl
  obtain ⟨ab, aa, H⟩ := bnd H
  refine O_call rfl rfl (book_rising_api_Chars_mbg.c hs g0_4 aa) (fun ag w hpost => ?_)
  obtain ⟨rfl, hs⟩ := hpost
  have hs := hs.sink 1
  refine Oa rfl rfl <| O_nil (ad _ _ <| W_ret ?_)
  obtain rfl := sinj H
  exact ret1 rfl rfl ⟨rfl, hs⟩

def book_ofSpan.f (x0 : Spn) : Option Spn := some x0
theorem book_ofSpan.c {w0 w : World} {ρ : Hp} {Γ : List Item} (hs : St w0 ρ (Γ) w) {c0 : List Value} {x0 : Spn} (h0 : rSpn.R ρ c0 x0) {r : Spn} (H : book_ofSpan.f x0 = some r) : CallsR Tryz.prog 104 [.agg c0.toArray] w (fun v w' => ∃ (ρ' : Hp) (cs0 : List Value), v = .agg cs0.toArray ∧ Le ρ ρ' ∧ St w0 ρ' (Γ) w' ∧ rSpn.R ρ' cs0 r) := by
  rw [book_ofSpan.f] at H
  refine enter Tryz.func104 Tryz.ntmps104 rfl (by kernel_rfl) rfl ?_
  have aa := h0
  obtain rfl := aa
  refine Wr fun ad ab => O_boxN (cs := [.int .i32 x0.lo, .int .i32 x0.hi]) hs rfl rfl (fun ae w hs => O_alloc zr129 hs rfl (fun af w hs => O_nil (ab _ _ <| Wr fun ag ac => O_y rfl (Y_loadbN (i := 1) ag129 sz129 hs rfl rfl rfl rfl) <| O_storeN (i := 0) sz129 hs rfl rfl rfl rfl rfl (one_cons rfl (one_cons rfl one_nil)) (fun w hs => O_nil (ac _ _ <| W_ret ?_)))))
  obtain rfl := sinj H
  exact retc (i := 0) rfl rfl ag129 sz129 hs rfl rfl ⟨_, _, rfl, Le.rfl' _, (hs.sub (ssk (ssk ssr))), h0⟩

def book_rising_api_Span_fbg.j1 (ak : Int → Int → Option Int) (aa : Int) (ae : Spn) (ab : Bool) : Option Int := if ab = true then (some aa) else (ak ae.hi (IntKind.i64.wrap (aa + 1)))
def book_rising_api_Span_fbg.l1 : Nat → List Spn → Int → Int → Option Int
  | 0, _, _, _ => none
  | ac + 1, x0, ad, aa => if aa < (x0.length : Int) then (if (0 : Int) ≤ aa ∧ aa < (x0.length : Int) then ((book_ofSpan.f (rd x0 aa)).bind fun ae => (if ae.lo ≤ ad then (book_rising_api_Span_fbg.j1 (book_rising_api_Span_fbg.l1 ac x0) aa ae true) else (if ae.hi < ae.lo then (book_rising_api_Span_fbg.j1 (book_rising_api_Span_fbg.l1 ac x0) aa ae true) else (if 1114111 < ae.hi then (book_rising_api_Span_fbg.j1 (book_rising_api_Span_fbg.l1 ac x0) aa ae true) else ((book_Check_2.f (rd x0 aa)).bind fun al => (book_rising_api_Span_fbg.j1 (book_rising_api_Span_fbg.l1 ac x0) aa ae (!al))))))) else none) else (some (-1))
def book_rising_api_Span_fbg.f (x0 : List Spn) : Option Int := if 65536 < (x0.length : Int) then (some 65536) else (book_rising_api_Span_fbg.l1 K0 x0 (-1) 0)
theorem book_rising_api_Span_fbg.c {w0 w : World} {ρ : Hp} {Γ : List Item} (hs : St w0 ρ (Γ) w) {v0 : Value} {x0 : List Spn} (h0 : SlR rSpn ρ v0 x0) {r : Int} (H : book_rising_api_Span_fbg.f x0 = some r) : CallsR Tryz.prog 103 [v0, .func (.func 104) #[] #[], .func (.func 88) #[] #[]] w (fun v w' => v = .int .i64 r ∧ St w0 ρ Γ w') := by
  rw [book_rising_api_Span_fbg.f] at H
  refine enter Tryz.func103 Tryz.ntmps103 rfl (by kernel_rfl) rfl <| Wr fun bt a6 => Oa rfl rfl <| O_nil (a6 _ _ <| W_seq fun bu a7 => Wr fun bv a8 => Om rfl rfl <| O_y rfl (Y_lenR un25 h0 rfl) <| O_y rfl (Y_gtr rfl rfl) <| O_nil (a8 _ _ <| W_if rfl (fun av => ?_) (fun av => ?_)))
  ·rw [if_pos av] at H
   refine Wr fun bw a9 => Oa rfl rfl <| O_nil (a9 _ _ <| W_ret ?_)
   obtain rfl := sinj H
   exact ret1 rfl rfl ⟨rfl, hs⟩
  ·rw [if_neg av] at H
   refine W_skip (a7 _ _ <| Wr fun bx ba => Oa rfl rfl <| O_nil (ba _ _ <| W_seq fun bz bb => Wr fun b0 bc => Om rfl rfl <| O_y rfl (Y_lenR un25 h0 rfl) <| Om rfl rfl <| O_nil (bc _ _ <| W_block fun b1 bd b2 => W_loop (σ := Nat × Int × Int × Hp) (fun (ac, ad, aa, ag) => [(1, .func (.func 104) #[] #[]), (2, .func (.func 88) #[] #[]), (7, .int .i32 ad), (14, v0), (15, .int .i64 (x0.length : Int)), (16, .int .i64 aa)]) (fun (ac, ad, aa, ag) w => book_rising_api_Span_fbg.l1 ac x0 ad aa = some r ∧ Le ρ ag ∧ St w0 ag (Γ) w) (fun s => s.1) (K0, (-1), 0, ρ) (by repeat first | exact Sub.nil | refine Sub.cons rfl ?_) (Ai H (Ai (Le.rfl' _) hs)) ?_)))
   rintro ⟨ac, ad, aa, ag⟩ w b3 ⟨H, af, hs⟩ am
   show W _ _ _ _ _ _ [(1, .func (.func 104) #[] #[]), (2, .func (.func 88) #[] #[]), (7, .int .i32 ad), (14, v0), (15, .int .i64 (x0.length : Int)), (16, .int .i64 aa)] w
   cases ac with
   | zero => rw [book_rising_api_Span_fbg.l1] at H; cases H
   | succ ac =>
   rw [book_rising_api_Span_fbg.l1] at H
   refine Wr fun b4 be => O_y rfl (Y_lss rfl rfl) <| O_nil (be _ _ <| W_seq fun b5 bf => W_if rfl (fun aw => ?_) (fun aw => ?_))
   ·rw [if_pos aw] at H
    refine W_skip (bf _ _ <| W_seq fun b6 bg => W_block fun b7 b8 b9 => Wr fun ca bh => Om rfl rfl ?_)
    obtain ⟨a4, H⟩ := gd H
    obtain ⟨cb, cc, bi, bj⟩ := (h0.mono af).ix el25 a4.1 a4.2
    obtain ⟨_, rfl, bk⟩ := bi
    refine O_y rfl (bj rfl rfl) <| O_y rfl (Y_loadN ag129 sz129 rfl rfl (fun j u hu => hs.see (bk j u hu))) <| O_alloc zr129 hs rfl (fun bl w hs => Oa rfl rfl <| O_storeN (i := 0) sz129 hs rfl rfl rfl rfl rfl (one_cons rfl (one_cons rfl one_nil)) (fun w hs => O_nil (bh _ _ <| Wr fun cd bm => Om rfl rfl <| O_y rfl (Y_loadbN (i := 0) ag129 sz129 hs rfl rfl rfl rfl) ?_)))
    obtain ⟨ae, ax, H⟩ := bnd H
    refine O_callv rfl rfl rfl (book_ofSpan.c hs rfl ax) (fun ce w hpost => ?_)
    obtain ⟨a5, bn, rfl, aj, hs, bo⟩ := hpost
    have ay := bo
    obtain rfl := ay
    refine O_alloc zr129 hs rfl (fun ar w hs => O_storeN (i := 0) sz129 hs rfl rfl rfl rfl rfl (one_cons rfl (one_cons rfl one_nil)) (fun w hs => O_nil (bm _ _ <| W.weak [(1, _), (2, _), (7, _), (8, _), (9, _), (10, _), (14, _), (15, _), (16, _)] (by repeat first | exact Sub.nil | refine Sub.cons rfl ?_) ?_)))
    refine W_seq fun bp az => W_seqj fun a0 a1 ah => ?_
    have ai : ∀ (ab : Bool) (w : World), book_rising_api_Span_fbg.j1 (book_rising_api_Span_fbg.l1 ac x0) aa ae ab = some r → St w0 a5 ((.box ar 129 ([.int .i32 ae.lo, .int .i32 ae.hi])) :: (.box bl 129 ([.int .i32 ((rd x0 aa).lo), .int .i32 ((rd x0 aa).hi)])) :: Γ) w → a0 [(1, .func (.func 104) #[] #[]), (2, .func (.func 88) #[] #[]), (8, .int .i64 aa), (10, .pointer (some ⟨ar, 0, none⟩)), (14, v0), (15, .int .i64 (x0.length : Int)), (16, .int .i64 aa), (45, .bool ab)] w := by
     intro ab w H hs
     rw [book_rising_api_Span_fbg.j1] at H
     refine a1 _ _ <| W_cond rfl (fun an => ?_) (fun an => ?_)
     ·rw [if_pos an] at H
      refine Wr fun bq a2 => Om rfl rfl <| Oa rfl rfl <| O_nil (a2 _ _ <| W_ret ?_)
      obtain rfl := sinj H
      exact ret1 rfl rfl ⟨rfl, ((hs.sub (ssk (ssk ssr))).less (af.trans aj))⟩
     ·rw [if_neg (bft an)] at H
      refine W_skip (az _ _ <| W_region <| O_y rfl (Y_field fo129_1 rfl) <| O_y rfl (Yb 0 ag21 hs rfl rfl rfl) <| Oa rfl rfl <| O_nil (bg _ _ <| W_region <| O_y rfl (Y_add rfl rfl) <| Om rfl rfl <| O_nil (am (ac, ae.hi, (IntKind.i64.wrap (aa + 1)), a5) _ _ (by repeat first | exact Sub.nil | refine Sub.cons rfl ?_) (Ai H (Ai (af.trans aj) (hs.sub (ssk (ssk ssr))))) (Nat.lt_succ_self _))))
    refine W_region <| O_y rfl (Y_field fo129_0 rfl) <| O_y rfl (Yb 0 ag21 hs rfl rfl rfl) <| Om rfl rfl <| O_y rfl (Y_leq rfl rfl) <| Om rfl rfl <| O_if (dj := 28) rfl (fun ao => ?_) (fun ao => ?_)
    ·rw [if_pos ao] at H
     refine O_no rfl rfl rfl rfl <| O_no rfl rfl rfl rfl <| O_no rfl rfl rfl rfl <| O_no rfl rfl rfl rfl <| O_no rfl rfl rfl rfl <| O_y rfl (Y_pick_t rfl rfl) <| Om rfl rfl <| O_no rfl rfl rfl rfl <| O_no rfl rfl rfl rfl <| O_no rfl rfl rfl rfl <| O_y rfl (Y_pick_t rfl rfl) <| Om rfl rfl <| O_no rfl rfl rfl rfl <| O_no rfl rfl rfl rfl ?_
     refine O_no rfl rfl rfl rfl <| O_no rfl rfl rfl rfl <| O_y rfl (Y_pick_t rfl rfl) <| O_nil (ah _ _ _ (by repeat first | exact Sub.nil | refine Sub.cons rfl ?_) (ai true _ H hs))
    ·rw [if_neg ao] at H
     refine O_yes rfl rfl <| O_y rfl (Y_field fo129_1 rfl) <| O_yes rfl rfl <| O_y rfl (Yb 0 ag21 hs rfl rfl rfl) <| O_yes rfl rfl <| O_y rfl (Y_field fo129_0 rfl) <| O_yes rfl rfl <| O_y rfl (Yb 0 ag21 hs rfl rfl rfl) <| O_yes rfl rfl <| O_y rfl (Y_lss rfl rfl) <| O_y rfl (Y_pick_f rfl rfl) <| Om rfl rfl <| O_if (dj := 35) rfl (fun ap => ?_) (fun ap => ?_)
     ·rw [if_pos ap] at H
      refine O_no rfl rfl rfl rfl <| O_no rfl rfl rfl rfl <| O_no rfl rfl rfl rfl <| O_y rfl (Y_pick_t rfl rfl) <| Om rfl rfl <| O_no rfl rfl rfl rfl <| O_no rfl rfl rfl rfl <| O_no rfl rfl rfl rfl <| O_no rfl rfl rfl rfl <| O_y rfl (Y_pick_t rfl rfl) <| O_nil (ah _ _ _ (by repeat first | exact Sub.nil | refine Sub.cons rfl ?_) (ai true _ H hs))
     ·rw [if_neg ap] at H
      refine O_yes rfl rfl <| O_y rfl (Y_field fo129_1 rfl) <| O_yes rfl rfl <| O_y rfl (Yb 0 ag21 hs rfl rfl rfl) <| O_yes rfl rfl <| O_y rfl (Y_gtr rfl rfl) <| O_y rfl (Y_pick_f rfl rfl) <| Om rfl rfl <| O_if (dj := 40) rfl (fun aq => ?_) (fun aq => ?_)
      ·rw [if_pos aq] at H
       refine O_no rfl rfl rfl rfl <| O_no rfl rfl rfl rfl <| O_no rfl rfl rfl rfl <| O_no rfl rfl rfl rfl <| O_y rfl (Y_pick_t rfl rfl) <| O_nil (ah _ _ _ (by repeat first | exact Sub.nil | refine Sub.cons rfl ?_) (ai true _ H hs))
      ·rw [if_neg aq] at H
       refine O_yes rfl rfl <| Om rfl rfl <| O_yes rfl rfl <| O_y rfl (Y_loadbN (i := 1) ag129 sz129 hs rfl rfl rfl rfl) <| O_yes rfl rfl ?_
       obtain ⟨al, au, H⟩ := bnd H
       refine O_callv rfl rfl rfl (book_Check_2.c hs rfl au) (fun br w hpost => ?_)
       obtain ⟨rfl, hs⟩ := hpost
       refine O_yes rfl rfl <| O_y rfl (Y_not rfl) <| O_y rfl (Y_pick_f rfl rfl) <| O_nil (ah _ _ _ (by repeat first | exact Sub.nil | refine Sub.cons rfl ?_) (ai (!al) _ H hs))
   ·rw [if_neg aw] at H
    refine W_exit (bd _ _ (bb _ _ <| Wr fun bs a3 => Oa rfl rfl <| O_nil (a3 _ _ <| W_ret ?_)))
    obtain rfl := sinj H
    exact ret1 rfl rfl ⟨rfl, (hs.less af)⟩

def book_Check_9_hpj.f (y0_0 : List ByteArray) (y0_1 : List Val) (y0_2 : List Chs) (y0_3 : List Val) (y0_4 : List Chs) (y0_5 : List Spn) (y0_6 y0_7 : List Val) (y0_8 : List Spn) (y0_9 : List Val) (y0_10 : List Chs) : Option Int := (book_rising_api_Span_fbg.f y0_5).bind fun ab => (some ab)
theorem book_Check_9_hpj.c {w0 w : World} {ρ : Hp} {Γ : List Item} {pb0 : Nat} {w0_0 : Value} {y0_0 : List ByteArray} {w0_1 : Value} {y0_1 : List Val} {w0_2 : Value} {y0_2 : List Chs} {w0_3 : Value} {y0_3 : List Val} {w0_4 : Value} {y0_4 : List Chs} {w0_5 : Value} {y0_5 : List Spn} {w0_6 : Value} {y0_6 : List Val} {w0_7 : Value} {y0_7 : List Val} {w0_8 : Value} {y0_8 : List Spn} {w0_9 : Value} {y0_9 : List Val} {w0_10 : Value} {y0_10 : List Chs} {pb1 : Nat} (hs : St w0 ρ ((.box pb0 27 ([w0_0, w0_1, w0_2, w0_3, w0_4, w0_5, w0_6, w0_7, w0_8, w0_9, w0_10])) :: (.box pb1 133 ([.func (.func 88) #[] #[]])) :: Γ) w) (g0_0 : SlR Rep.str ρ w0_0 y0_0) (g0_1 : SlR rVal ρ w0_1 y0_1) (g0_2 : SlR rChs ρ w0_2 y0_2) (g0_3 : SlR rVal ρ w0_3 y0_3) (g0_4 : SlR rChs ρ w0_4 y0_4) (g0_5 : SlR rSpn ρ w0_5 y0_5) (g0_6 : SlR rVal ρ w0_6 y0_6) (g0_7 : SlR rVal ρ w0_7 y0_7) (g0_8 : SlR rSpn ρ w0_8 y0_8) (g0_9 : SlR rVal ρ w0_9 y0_9) (g0_10 : SlR rChs ρ w0_10 y0_10) {r : Int} (H : book_Check_9_hpj.f y0_0 y0_1 y0_2 y0_3 y0_4 y0_5 y0_6 y0_7 y0_8 y0_9 y0_10 = some r) : CallsR Tryz.prog 102 [.pointer (some ⟨pb0, 0, none⟩), .pointer (some ⟨pb1, 0, none⟩)] w (fun v w' => v = .int .i64 r ∧ St w0 ρ ((.box pb0 27 ([w0_0, w0_1, w0_2, w0_3, w0_4, w0_5, w0_6, w0_7, w0_8, w0_9, w0_10])) :: (.box pb1 133 ([.func (.func 88) #[] #[]])) :: Γ) w') := by
  rw [book_Check_9_hpj.f] at H
  refine enter Tryz.func102 Tryz.ntmps102 rfl (by kernel_rfl) rfl <| Wr fun ae ac => Oa rfl rfl <| O_nil (ac _ _ <| Wr fun af ad => O_y rfl (Y_field fo27_5 rfl) <| O_y rfl (Yb 0 ag25 hs rfl rfl rfl) <| O_y rfl (Yb 1 ag133 hs rfl rfl rfl) ?_)
  obtain ⟨ab, aa, H⟩ := bnd H
  refine O_call rfl rfl (book_rising_api_Span_fbg.c hs g0_5 aa) (fun ag w hpost => ?_)
  obtain ⟨rfl, hs⟩ := hpost
  refine Oa rfl rfl <| O_nil (ad _ _ <| W_ret ?_)
  obtain rfl := sinj H
  exact ret1 rfl rfl ⟨rfl, hs⟩

def book_directions.f : Option (List ByteArray) := some ([(⟨#[76]⟩ : ByteArray), (⟨#[82]⟩ : ByteArray), (⟨#[65, 76]⟩ : ByteArray), (⟨#[69, 78]⟩ : ByteArray), (⟨#[69, 83]⟩ : ByteArray), (⟨#[69, 84]⟩ : ByteArray), (⟨#[65, 78]⟩ : ByteArray), (⟨#[67, 83]⟩ : ByteArray), (⟨#[78, 83, 77]⟩ : ByteArray), (⟨#[66, 78]⟩ : ByteArray), (⟨#[79, 78]⟩ : ByteArray), (⟨#[66]⟩ : ByteArray), (⟨#[83]⟩ : ByteArray), (⟨#[87, 83]⟩ : ByteArray), (⟨#[76, 82, 69]⟩ : ByteArray), (⟨#[76, 82, 79]⟩ : ByteArray), (⟨#[82, 76, 69]⟩ : ByteArray), (⟨#[82, 76, 79]⟩ : ByteArray), (⟨#[80, 68, 70]⟩ : ByteArray), (⟨#[76, 82, 73]⟩ : ByteArray), (⟨#[82, 76, 73]⟩ : ByteArray), (⟨#[70, 83, 73]⟩ : ByteArray), (⟨#[80, 68, 73]⟩ : ByteArray)])
theorem book_directions.c {w0 w : World} {ρ : Hp} {Γ : List Item} (hs : St w0 ρ (Γ) w) {r : List ByteArray} (H : book_directions.f = some r) : CallsR Tryz.prog 106 [] w (fun v w' => ∃ (ρ' : Hp) (v0 : Value) (cs0 : List Value), v = v0 ∧ Le ρ ρ' ∧ St w0 ρ' (.row v0 9 Rep.str.sz r.length cs0 :: Γ) w' ∧ RowR Rep.str ρ' cs0 r) := by
  rw [book_directions.f] at H
  refine enter Tryz.func106 Tryz.ntmps106 rfl (by kernel_rfl) rfl <| Wr fun ad aa => Oa rfl rfl <| O_nil (aa _ _ <| Wr fun ae ab => O_lit2 (xs := [.const (.string (⟨#[76]⟩ : ByteArray)), .const (.string (⟨#[82]⟩ : ByteArray)), .const (.string (⟨#[65, 76]⟩ : ByteArray)), .const (.string (⟨#[69, 78]⟩ : ByteArray)), .const (.string (⟨#[69, 83]⟩ : ByteArray)), .const (.string (⟨#[69, 84]⟩ : ByteArray)), .const (.string (⟨#[65, 78]⟩ : ByteArray)), .const (.string (⟨#[67, 83]⟩ : ByteArray)), .const (.string (⟨#[78, 83, 77]⟩ : ByteArray)), .const (.string (⟨#[66, 78]⟩ : ByteArray)), .const (.string (⟨#[79, 78]⟩ : ByteArray)), .const (.string (⟨#[66]⟩ : ByteArray)), .const (.string (⟨#[83]⟩ : ByteArray)), .const (.string (⟨#[87, 83]⟩ : ByteArray)), .const (.string (⟨#[76, 82, 69]⟩ : ByteArray)), .const (.string (⟨#[76, 82, 79]⟩ : ByteArray)), .const (.string (⟨#[82, 76, 69]⟩ : ByteArray)), .const (.string (⟨#[82, 76, 79]⟩ : ByteArray)), .const (.string (⟨#[80, 68, 70]⟩ : ByteArray)), .const (.string (⟨#[76, 82, 73]⟩ : ByteArray)), .const (.string (⟨#[82, 76, 73]⟩ : ByteArray)), .const (.string (⟨#[70, 83, 73]⟩ : ByteArray)), .const (.string (⟨#[80, 68, 73]⟩ : ByteArray))]) (cs := [.string (⟨#[76]⟩ : ByteArray), .string (⟨#[82]⟩ : ByteArray), .string (⟨#[65, 76]⟩ : ByteArray), .string (⟨#[69, 78]⟩ : ByteArray), .string (⟨#[69, 83]⟩ : ByteArray), .string (⟨#[69, 84]⟩ : ByteArray), .string (⟨#[65, 78]⟩ : ByteArray), .string (⟨#[67, 83]⟩ : ByteArray), .string (⟨#[78, 83, 77]⟩ : ByteArray), .string (⟨#[66, 78]⟩ : ByteArray), .string (⟨#[79, 78]⟩ : ByteArray), .string (⟨#[66]⟩ : ByteArray), .string (⟨#[83]⟩ : ByteArray), .string (⟨#[87, 83]⟩ : ByteArray), .string (⟨#[76, 82, 69]⟩ : ByteArray), .string (⟨#[76, 82, 79]⟩ : ByteArray), .string (⟨#[82, 76, 69]⟩ : ByteArray), .string (⟨#[82, 76, 79]⟩ : ByteArray), .string (⟨#[80, 68, 70]⟩ : ByteArray), .string (⟨#[76, 82, 73]⟩ : ByteArray), .string (⟨#[82, 76, 73]⟩ : ByteArray), .string (⟨#[70, 83, 73]⟩ : ByteArray), .string (⟨#[80, 68, 73]⟩ : ByteArray)]) el22 hs rfl rfl rfl (by decide) (by decide) rfl (sz_cons rfl (sz_cons rfl (sz_cons rfl (sz_cons rfl (sz_cons rfl (sz_cons rfl (sz_cons rfl (sz_cons rfl (sz_cons rfl (sz_cons rfl (sz_cons rfl (sz_cons rfl (sz_cons rfl (sz_cons rfl (sz_cons rfl (sz_cons rfl (sz_cons rfl (sz_cons rfl (sz_cons rfl (sz_cons rfl (sz_cons rfl (sz_cons rfl (sz_cons rfl sz_nil))))))))))))))))))))))) (flat_cons rfl (flat_cons rfl (flat_cons rfl (flat_cons rfl (flat_cons rfl (flat_cons rfl (flat_cons rfl (flat_cons rfl (flat_cons rfl (flat_cons rfl (flat_cons rfl (flat_cons rfl (flat_cons rfl (flat_cons rfl (flat_cons rfl (flat_cons rfl (flat_cons rfl (flat_cons rfl (flat_cons rfl (flat_cons rfl (flat_cons rfl (flat_cons rfl (flat_cons rfl flat_nil))))))))))))))))))))))) (fun af w hs => ?_))
  have ac : RowR Rep.str ρ ([.string (⟨#[76]⟩ : ByteArray), .string (⟨#[82]⟩ : ByteArray), .string (⟨#[65, 76]⟩ : ByteArray), .string (⟨#[69, 78]⟩ : ByteArray), .string (⟨#[69, 83]⟩ : ByteArray), .string (⟨#[69, 84]⟩ : ByteArray), .string (⟨#[65, 78]⟩ : ByteArray), .string (⟨#[67, 83]⟩ : ByteArray), .string (⟨#[78, 83, 77]⟩ : ByteArray), .string (⟨#[66, 78]⟩ : ByteArray), .string (⟨#[79, 78]⟩ : ByteArray), .string (⟨#[66]⟩ : ByteArray), .string (⟨#[83]⟩ : ByteArray), .string (⟨#[87, 83]⟩ : ByteArray), .string (⟨#[76, 82, 69]⟩ : ByteArray), .string (⟨#[76, 82, 79]⟩ : ByteArray), .string (⟨#[82, 76, 69]⟩ : ByteArray), .string (⟨#[82, 76, 79]⟩ : ByteArray), .string (⟨#[80, 68, 70]⟩ : ByteArray), .string (⟨#[76, 82, 73]⟩ : ByteArray), .string (⟨#[82, 76, 73]⟩ : ByteArray), .string (⟨#[70, 83, 73]⟩ : ByteArray), .string (⟨#[80, 68, 73]⟩ : ByteArray)]) [(⟨#[76]⟩ : ByteArray), (⟨#[82]⟩ : ByteArray), (⟨#[65, 76]⟩ : ByteArray), (⟨#[69, 78]⟩ : ByteArray), (⟨#[69, 83]⟩ : ByteArray), (⟨#[69, 84]⟩ : ByteArray), (⟨#[65, 78]⟩ : ByteArray), (⟨#[67, 83]⟩ : ByteArray), (⟨#[78, 83, 77]⟩ : ByteArray), (⟨#[66, 78]⟩ : ByteArray), (⟨#[79, 78]⟩ : ByteArray), (⟨#[66]⟩ : ByteArray), (⟨#[83]⟩ : ByteArray), (⟨#[87, 83]⟩ : ByteArray), (⟨#[76, 82, 69]⟩ : ByteArray), (⟨#[76, 82, 79]⟩ : ByteArray), (⟨#[82, 76, 69]⟩ : ByteArray), (⟨#[82, 76, 79]⟩ : ByteArray), (⟨#[80, 68, 70]⟩ : ByteArray), (⟨#[76, 82, 73]⟩ : ByteArray), (⟨#[82, 76, 73]⟩ : ByteArray), (⟨#[70, 83, 73]⟩ : ByteArray), (⟨#[80, 68, 73]⟩ : ByteArray)] := RowR.cons (c := [.string (⟨#[76]⟩ : ByteArray)]) (x := (⟨#[76]⟩ : ByteArray)) rfl (RowR.cons (c := [.string (⟨#[82]⟩ : ByteArray)]) (x := (⟨#[82]⟩ : ByteArray)) rfl (RowR.cons (c := [.string (⟨#[65, 76]⟩ : ByteArray)]) (x := (⟨#[65, 76]⟩ : ByteArray)) rfl (RowR.cons (c := [.string (⟨#[69, 78]⟩ : ByteArray)]) (x := (⟨#[69, 78]⟩ : ByteArray)) rfl (RowR.cons (c := [.string (⟨#[69, 83]⟩ : ByteArray)]) (x := (⟨#[69, 83]⟩ : ByteArray)) rfl (RowR.cons (c := [.string (⟨#[69, 84]⟩ : ByteArray)]) (x := (⟨#[69, 84]⟩ : ByteArray)) rfl (RowR.cons (c := [.string (⟨#[65, 78]⟩ : ByteArray)]) (x := (⟨#[65, 78]⟩ : ByteArray)) rfl (RowR.cons (c := [.string (⟨#[67, 83]⟩ : ByteArray)]) (x := (⟨#[67, 83]⟩ : ByteArray)) rfl (RowR.cons (c := [.string (⟨#[78, 83, 77]⟩ : ByteArray)]) (x := (⟨#[78, 83, 77]⟩ : ByteArray)) rfl (RowR.cons (c := [.string (⟨#[66, 78]⟩ : ByteArray)]) (x := (⟨#[66, 78]⟩ : ByteArray)) rfl (RowR.cons (c := [.string (⟨#[79, 78]⟩ : ByteArray)]) (x := (⟨#[79, 78]⟩ : ByteArray)) rfl (RowR.cons (c := [.string (⟨#[66]⟩ : ByteArray)]) (x := (⟨#[66]⟩ : ByteArray)) rfl (RowR.cons (c := [.string (⟨#[83]⟩ : ByteArray)]) (x := (⟨#[83]⟩ : ByteArray)) rfl (RowR.cons (c := [.string (⟨#[87, 83]⟩ : ByteArray)]) (x := (⟨#[87, 83]⟩ : ByteArray)) rfl (RowR.cons (c := [.string (⟨#[76, 82, 69]⟩ : ByteArray)]) (x := (⟨#[76, 82, 69]⟩ : ByteArray)) rfl (RowR.cons (c := [.string (⟨#[76, 82, 79]⟩ : ByteArray)]) (x := (⟨#[76, 82, 79]⟩ : ByteArray)) rfl (RowR.cons (c := [.string (⟨#[82, 76, 69]⟩ : ByteArray)]) (x := (⟨#[82, 76, 69]⟩ : ByteArray)) rfl (RowR.cons (c := [.string (⟨#[82, 76, 79]⟩ : ByteArray)]) (x := (⟨#[82, 76, 79]⟩ : ByteArray)) rfl (RowR.cons (c := [.string (⟨#[80, 68, 70]⟩ : ByteArray)]) (x := (⟨#[80, 68, 70]⟩ : ByteArray)) rfl (RowR.cons (c := [.string (⟨#[76, 82, 73]⟩ : ByteArray)]) (x := (⟨#[76, 82, 73]⟩ : ByteArray)) rfl (RowR.cons (c := [.string (⟨#[82, 76, 73]⟩ : ByteArray)]) (x := (⟨#[82, 76, 73]⟩ : ByteArray)) rfl (RowR.cons (c := [.string (⟨#[70, 83, 73]⟩ : ByteArray)]) (x := (⟨#[70, 83, 73]⟩ : ByteArray)) rfl (RowR.cons (c := [.string (⟨#[80, 68, 73]⟩ : ByteArray)]) (x := (⟨#[80, 68, 73]⟩ : ByteArray)) rfl (RowR.nil _ _)))))))))))))))))))))))
  refine Oa rfl rfl <| O_nil (ab _ _ <| W_ret ?_)
  obtain rfl := sinj H
  exact ret1 rfl rfl ⟨_, _, _, rfl, Le.rfl' _, hs, ac⟩

def book_Check_10_ion.f (y0_0 : List ByteArray) (y0_1 : List Val) (y0_2 : List Chs) (y0_3 : List Val) (y0_4 : List Chs) (y0_5 : List Spn) (y0_6 y0_7 : List Val) (y0_8 : List Spn) (y0_9 : List Val) (y0_10 : List Chs) : Option Int := (book_directions.f).bind fun af => ((book_values_bpe.f y0_6 0 (IntKind.i64.wrap ((af.length : Int) - 1))).bind fun ag => (some ag))
theorem book_Check_10_ion.c {w0 w : World} {ρ : Hp} {Γ : List Item} {pb0 : Nat} {w0_0 : Value} {y0_0 : List ByteArray} {w0_1 : Value} {y0_1 : List Val} {w0_2 : Value} {y0_2 : List Chs} {w0_3 : Value} {y0_3 : List Val} {w0_4 : Value} {y0_4 : List Chs} {w0_5 : Value} {y0_5 : List Spn} {w0_6 : Value} {y0_6 : List Val} {w0_7 : Value} {y0_7 : List Val} {w0_8 : Value} {y0_8 : List Spn} {w0_9 : Value} {y0_9 : List Val} {w0_10 : Value} {y0_10 : List Chs} {pb1 : Nat} (hs : St w0 ρ ((.box pb0 27 ([w0_0, w0_1, w0_2, w0_3, w0_4, w0_5, w0_6, w0_7, w0_8, w0_9, w0_10])) :: (.box pb1 133 ([.func (.func 87) #[] #[]])) :: Γ) w) (g0_0 : SlR Rep.str ρ w0_0 y0_0) (g0_1 : SlR rVal ρ w0_1 y0_1) (g0_2 : SlR rChs ρ w0_2 y0_2) (g0_3 : SlR rVal ρ w0_3 y0_3) (g0_4 : SlR rChs ρ w0_4 y0_4) (g0_5 : SlR rSpn ρ w0_5 y0_5) (g0_6 : SlR rVal ρ w0_6 y0_6) (g0_7 : SlR rVal ρ w0_7 y0_7) (g0_8 : SlR rSpn ρ w0_8 y0_8) (g0_9 : SlR rVal ρ w0_9 y0_9) (g0_10 : SlR rChs ρ w0_10 y0_10) {r : Int} (H : book_Check_10_ion.f y0_0 y0_1 y0_2 y0_3 y0_4 y0_5 y0_6 y0_7 y0_8 y0_9 y0_10 = some r) : CallsR Tryz.prog 105 [.pointer (some ⟨pb0, 0, none⟩), .pointer (some ⟨pb1, 0, none⟩)] w (fun v w' => v = .int .i64 r ∧ St w0 ρ ((.box pb0 27 ([w0_0, w0_1, w0_2, w0_3, w0_4, w0_5, w0_6, w0_7, w0_8, w0_9, w0_10])) :: (.box pb1 133 ([.func (.func 87) #[] #[]])) :: Γ) w') := by
  rw [book_Check_10_ion.f] at H
  refine enter Tryz.func105 Tryz.ntmps105 rfl (by kernel_rfl) rfl <| Wr fun ao ah => Oa rfl rfl <| O_nil (ah _ _ <| W_seq fun ap ai => W_drawS 8 [0, 1, 0, 4, 8, 0, 54, 127] [124, 60, 51, 99, 35, 31, 0, 0] [0, 1, 0, 4, 12, 0, 63, 127] [] (fun w => St w0 ρ ((.box pb0 27 ([w0_0, w0_1, w0_2, w0_3, w0_4, w0_5, w0_6, w0_7, w0_8, w0_9, w0_10])) :: (.box pb1 133 ([.func (.func 87) #[] #[]])) :: Γ) w) mixed (by kernel_rfl) (fun sh => ?_))
  have hs := hs.drew
  refine Dp 0 sh rfl rfl (by kernel_rfl) (fun w => Y_field fo27_6 rfl) <| Dy 1 sh rfl rfl (by kernel_rfl) hs (fun w hs => Yb 0 ag23 hs rfl rfl rfl) <| Dy 5 sh rfl rfl (by kernel_rfl) hs (fun w hs => Yb 1 ag133 hs rfl rfl rfl) <| D1 2 sh rfl (by kernel_rfl) (fun aq aj => ?_)
  obtain ⟨af, ab, H⟩ := bnd H
  refine O_call rfl rfl (book_directions.c hs ab) (fun ar w hpost => ?_)
  obtain ⟨au, av, ak, rfl, aa, hs, al⟩ := hpost
  refine O_nil (aj _ _ (fun _ _ => ((hs.less aa).sub (ssk (ssc (ssc ssr))))) ?_)
  obtain ⟨aw, ac, hs, am⟩ := hs.rowEnd (j := 0) al rfl
  have ad := aa.trans ac
  refine Dp 3 sh rfl rfl (by kernel_rfl) (fun w => Y_lenR un22 am rfl) <| Dp 4 sh rfl rfl (by kernel_rfl) (fun w => Y_sub rfl rfl) <| D1 6 sh rfl (by kernel_rfl) (fun ax an => ?_)
  obtain ⟨ag, ae, H⟩ := bnd H
  refine O_call rfl rfl (book_values_bpe.c hs (g0_6.mono ad) ae) (fun ay w hpost => ?_)
  obtain ⟨rfl, hs⟩ := hpost
  refine O_nil (an _ _ (fun _ _ => (hs.less ad)) <| Dp 7 sh rfl rfl (by kernel_rfl) (fun w => Y_assign rfl) <| OD_doneS sh (by kernel_rfl) (ai _ _ <| W_ret ?_))
  obtain rfl := sinj H
  exact ret1 rfl rfl ⟨rfl, (hs.less ad)⟩

def book_joinings.f : Option (List ByteArray) := some ([(⟨#[85]⟩ : ByteArray), (⟨#[76]⟩ : ByteArray), (⟨#[82]⟩ : ByteArray), (⟨#[68]⟩ : ByteArray), (⟨#[84]⟩ : ByteArray), (⟨#[67]⟩ : ByteArray)])
theorem book_joinings.c {w0 w : World} {ρ : Hp} {Γ : List Item} (hs : St w0 ρ (Γ) w) {r : List ByteArray} (H : book_joinings.f = some r) : CallsR Tryz.prog 108 [] w (fun v w' => ∃ (ρ' : Hp) (v0 : Value) (cs0 : List Value), v = v0 ∧ Le ρ ρ' ∧ St w0 ρ' (.row v0 9 Rep.str.sz r.length cs0 :: Γ) w' ∧ RowR Rep.str ρ' cs0 r) := by
  rw [book_joinings.f] at H
  refine enter Tryz.func108 Tryz.ntmps108 rfl (by kernel_rfl) rfl <| Wr fun ad aa => Oa rfl rfl <| O_nil (aa _ _ <| Wr fun ae ab => O_lit2 (xs := [.const (.string (⟨#[85]⟩ : ByteArray)), .const (.string (⟨#[76]⟩ : ByteArray)), .const (.string (⟨#[82]⟩ : ByteArray)), .const (.string (⟨#[68]⟩ : ByteArray)), .const (.string (⟨#[84]⟩ : ByteArray)), .const (.string (⟨#[67]⟩ : ByteArray))]) (cs := [.string (⟨#[85]⟩ : ByteArray), .string (⟨#[76]⟩ : ByteArray), .string (⟨#[82]⟩ : ByteArray), .string (⟨#[68]⟩ : ByteArray), .string (⟨#[84]⟩ : ByteArray), .string (⟨#[67]⟩ : ByteArray)]) el22 hs rfl rfl rfl (by decide) (by decide) rfl (sz_cons rfl (sz_cons rfl (sz_cons rfl (sz_cons rfl (sz_cons rfl (sz_cons rfl sz_nil)))))) (flat_cons rfl (flat_cons rfl (flat_cons rfl (flat_cons rfl (flat_cons rfl (flat_cons rfl flat_nil)))))) (fun af w hs => ?_))
  have ac : RowR Rep.str ρ ([.string (⟨#[85]⟩ : ByteArray), .string (⟨#[76]⟩ : ByteArray), .string (⟨#[82]⟩ : ByteArray), .string (⟨#[68]⟩ : ByteArray), .string (⟨#[84]⟩ : ByteArray), .string (⟨#[67]⟩ : ByteArray)]) [(⟨#[85]⟩ : ByteArray), (⟨#[76]⟩ : ByteArray), (⟨#[82]⟩ : ByteArray), (⟨#[68]⟩ : ByteArray), (⟨#[84]⟩ : ByteArray), (⟨#[67]⟩ : ByteArray)] := RowR.cons (c := [.string (⟨#[85]⟩ : ByteArray)]) (x := (⟨#[85]⟩ : ByteArray)) rfl (RowR.cons (c := [.string (⟨#[76]⟩ : ByteArray)]) (x := (⟨#[76]⟩ : ByteArray)) rfl (RowR.cons (c := [.string (⟨#[82]⟩ : ByteArray)]) (x := (⟨#[82]⟩ : ByteArray)) rfl (RowR.cons (c := [.string (⟨#[68]⟩ : ByteArray)]) (x := (⟨#[68]⟩ : ByteArray)) rfl (RowR.cons (c := [.string (⟨#[84]⟩ : ByteArray)]) (x := (⟨#[84]⟩ : ByteArray)) rfl (RowR.cons (c := [.string (⟨#[67]⟩ : ByteArray)]) (x := (⟨#[67]⟩ : ByteArray)) rfl (RowR.nil _ _))))))
  refine Oa rfl rfl <| O_nil (ab _ _ <| W_ret ?_)
  obtain rfl := sinj H
  exact ret1 rfl rfl ⟨_, _, _, rfl, Le.rfl' _, hs, ac⟩

def book_Check_11_ion.f (y0_0 : List ByteArray) (y0_1 : List Val) (y0_2 : List Chs) (y0_3 : List Val) (y0_4 : List Chs) (y0_5 : List Spn) (y0_6 y0_7 : List Val) (y0_8 : List Spn) (y0_9 : List Val) (y0_10 : List Chs) : Option Int := (book_joinings.f).bind fun af => ((book_values_bpe.f y0_7 0 (IntKind.i64.wrap ((af.length : Int) - 1))).bind fun ag => (some ag))
theorem book_Check_11_ion.c {w0 w : World} {ρ : Hp} {Γ : List Item} {pb0 : Nat} {w0_0 : Value} {y0_0 : List ByteArray} {w0_1 : Value} {y0_1 : List Val} {w0_2 : Value} {y0_2 : List Chs} {w0_3 : Value} {y0_3 : List Val} {w0_4 : Value} {y0_4 : List Chs} {w0_5 : Value} {y0_5 : List Spn} {w0_6 : Value} {y0_6 : List Val} {w0_7 : Value} {y0_7 : List Val} {w0_8 : Value} {y0_8 : List Spn} {w0_9 : Value} {y0_9 : List Val} {w0_10 : Value} {y0_10 : List Chs} {pb1 : Nat} (hs : St w0 ρ ((.box pb0 27 ([w0_0, w0_1, w0_2, w0_3, w0_4, w0_5, w0_6, w0_7, w0_8, w0_9, w0_10])) :: (.box pb1 133 ([.func (.func 87) #[] #[]])) :: Γ) w) (g0_0 : SlR Rep.str ρ w0_0 y0_0) (g0_1 : SlR rVal ρ w0_1 y0_1) (g0_2 : SlR rChs ρ w0_2 y0_2) (g0_3 : SlR rVal ρ w0_3 y0_3) (g0_4 : SlR rChs ρ w0_4 y0_4) (g0_5 : SlR rSpn ρ w0_5 y0_5) (g0_6 : SlR rVal ρ w0_6 y0_6) (g0_7 : SlR rVal ρ w0_7 y0_7) (g0_8 : SlR rSpn ρ w0_8 y0_8) (g0_9 : SlR rVal ρ w0_9 y0_9) (g0_10 : SlR rChs ρ w0_10 y0_10) {r : Int} (H : book_Check_11_ion.f y0_0 y0_1 y0_2 y0_3 y0_4 y0_5 y0_6 y0_7 y0_8 y0_9 y0_10 = some r) : CallsR Tryz.prog 107 [.pointer (some ⟨pb0, 0, none⟩), .pointer (some ⟨pb1, 0, none⟩)] w (fun v w' => v = .int .i64 r ∧ St w0 ρ ((.box pb0 27 ([w0_0, w0_1, w0_2, w0_3, w0_4, w0_5, w0_6, w0_7, w0_8, w0_9, w0_10])) :: (.box pb1 133 ([.func (.func 87) #[] #[]])) :: Γ) w') := by
  rw [book_Check_11_ion.f] at H
  refine enter Tryz.func107 Tryz.ntmps107 rfl (by kernel_rfl) rfl <| Wr fun ao ah => Oa rfl rfl <| O_nil (ah _ _ <| W_seq fun ap ai => W_drawS 8 [0, 1, 0, 4, 8, 0, 54, 127] [124, 60, 51, 99, 35, 31, 0, 0] [0, 1, 0, 4, 12, 0, 63, 127] [] (fun w => St w0 ρ ((.box pb0 27 ([w0_0, w0_1, w0_2, w0_3, w0_4, w0_5, w0_6, w0_7, w0_8, w0_9, w0_10])) :: (.box pb1 133 ([.func (.func 87) #[] #[]])) :: Γ) w) mixed (by kernel_rfl) (fun sh => ?_))
  have hs := hs.drew
  refine Dp 0 sh rfl rfl (by kernel_rfl) (fun w => Y_field fo27_7 rfl) <| Dy 1 sh rfl rfl (by kernel_rfl) hs (fun w hs => Yb 0 ag23 hs rfl rfl rfl) <| Dy 5 sh rfl rfl (by kernel_rfl) hs (fun w hs => Yb 1 ag133 hs rfl rfl rfl) <| D1 2 sh rfl (by kernel_rfl) (fun aq aj => ?_)
  obtain ⟨af, ab, H⟩ := bnd H
  refine O_call rfl rfl (book_joinings.c hs ab) (fun ar w hpost => ?_)
  obtain ⟨au, av, ak, rfl, aa, hs, al⟩ := hpost
  refine O_nil (aj _ _ (fun _ _ => ((hs.less aa).sub (ssk (ssc (ssc ssr))))) ?_)
  obtain ⟨aw, ac, hs, am⟩ := hs.rowEnd (j := 0) al rfl
  have ad := aa.trans ac
  refine Dp 3 sh rfl rfl (by kernel_rfl) (fun w => Y_lenR un22 am rfl) <| Dp 4 sh rfl rfl (by kernel_rfl) (fun w => Y_sub rfl rfl) <| D1 6 sh rfl (by kernel_rfl) (fun ax an => ?_)
  obtain ⟨ag, ae, H⟩ := bnd H
  refine O_call rfl rfl (book_values_bpe.c hs (g0_7.mono ad) ae) (fun ay w hpost => ?_)
  obtain ⟨rfl, hs⟩ := hpost
  refine O_nil (an _ _ (fun _ _ => (hs.less ad)) <| Dp 7 sh rfl rfl (by kernel_rfl) (fun w => Y_assign rfl) <| OD_doneS sh (by kernel_rfl) (ai _ _ <| W_ret ?_))
  obtain rfl := sinj H
  exact ret1 rfl rfl ⟨rfl, (hs.less ad)⟩

def book_rising_api_Span_and.j1 (ak : Int → Int → Option Int) (aa : Int) (ae : Spn) (ab : Bool) : Option Int := if ab = true then (some aa) else (ak ae.hi (IntKind.i64.wrap (aa + 1)))
def book_rising_api_Span_and.l1 : Nat → List Spn → Int → Int → Option Int
  | 0, _, _, _ => none
  | ac + 1, x0, ad, aa => if aa < (x0.length : Int) then (if (0 : Int) ≤ aa ∧ aa < (x0.length : Int) then ((book_ofSpan.f (rd x0 aa)).bind fun ae => (if ae.lo ≤ ad then (book_rising_api_Span_and.j1 (book_rising_api_Span_and.l1 ac x0) aa ae true) else (if ae.hi < ae.lo then (book_rising_api_Span_and.j1 (book_rising_api_Span_and.l1 ac x0) aa ae true) else (if 1114111 < ae.hi then (book_rising_api_Span_and.j1 (book_rising_api_Span_and.l1 ac x0) aa ae true) else ((book_Check_1.f (rd x0 aa)).bind fun al => (book_rising_api_Span_and.j1 (book_rising_api_Span_and.l1 ac x0) aa ae (!al))))))) else none) else (some (-1))
def book_rising_api_Span_and.f (x0 : List Spn) : Option Int := if 65536 < (x0.length : Int) then (some 65536) else (book_rising_api_Span_and.l1 K0 x0 (-1) 0)
theorem book_rising_api_Span_and.c {w0 w : World} {ρ : Hp} {Γ : List Item} (hs : St w0 ρ (Γ) w) {v0 : Value} {x0 : List Spn} (h0 : SlR rSpn ρ v0 x0) {r : Int} (H : book_rising_api_Span_and.f x0 = some r) : CallsR Tryz.prog 103 [v0, .func (.func 104) #[] #[], .func (.func 87) #[] #[]] w (fun v w' => v = .int .i64 r ∧ St w0 ρ Γ w') := by
  rw [book_rising_api_Span_and.f] at H
  refine enter Tryz.func103 Tryz.ntmps103 rfl (by kernel_rfl) rfl <| Wr fun bt a6 => Oa rfl rfl <| O_nil (a6 _ _ <| W_seq fun bu a7 => Wr fun bv a8 => Om rfl rfl <| O_y rfl (Y_lenR un25 h0 rfl) <| O_y rfl (Y_gtr rfl rfl) <| O_nil (a8 _ _ <| W_if rfl (fun av => ?_) (fun av => ?_)))
  ·rw [if_pos av] at H
   refine Wr fun bw a9 => Oa rfl rfl <| O_nil (a9 _ _ <| W_ret ?_)
   obtain rfl := sinj H
   exact ret1 rfl rfl ⟨rfl, hs⟩
  ·rw [if_neg av] at H
   refine W_skip (a7 _ _ <| Wr fun bx ba => Oa rfl rfl <| O_nil (ba _ _ <| W_seq fun bz bb => Wr fun b0 bc => Om rfl rfl <| O_y rfl (Y_lenR un25 h0 rfl) <| Om rfl rfl <| O_nil (bc _ _ <| W_block fun b1 bd b2 => W_loop (σ := Nat × Int × Int × Hp) (fun (ac, ad, aa, ag) => [(1, .func (.func 104) #[] #[]), (2, .func (.func 87) #[] #[]), (7, .int .i32 ad), (14, v0), (15, .int .i64 (x0.length : Int)), (16, .int .i64 aa)]) (fun (ac, ad, aa, ag) w => book_rising_api_Span_and.l1 ac x0 ad aa = some r ∧ Le ρ ag ∧ St w0 ag (Γ) w) (fun s => s.1) (K0, (-1), 0, ρ) (by repeat first | exact Sub.nil | refine Sub.cons rfl ?_) (Ai H (Ai (Le.rfl' _) hs)) ?_)))
   rintro ⟨ac, ad, aa, ag⟩ w b3 ⟨H, af, hs⟩ am
   show W _ _ _ _ _ _ [(1, .func (.func 104) #[] #[]), (2, .func (.func 87) #[] #[]), (7, .int .i32 ad), (14, v0), (15, .int .i64 (x0.length : Int)), (16, .int .i64 aa)] w
   cases ac with
   | zero => rw [book_rising_api_Span_and.l1] at H; cases H
   | succ ac =>
   rw [book_rising_api_Span_and.l1] at H
   refine Wr fun b4 be => O_y rfl (Y_lss rfl rfl) <| O_nil (be _ _ <| W_seq fun b5 bf => W_if rfl (fun aw => ?_) (fun aw => ?_))
   ·rw [if_pos aw] at H
    refine W_skip (bf _ _ <| W_seq fun b6 bg => W_block fun b7 b8 b9 => Wr fun ca bh => Om rfl rfl ?_)
    obtain ⟨a4, H⟩ := gd H
    obtain ⟨cb, cc, bi, bj⟩ := (h0.mono af).ix el25 a4.1 a4.2
    obtain ⟨_, rfl, bk⟩ := bi
    refine O_y rfl (bj rfl rfl) <| O_y rfl (Y_loadN ag129 sz129 rfl rfl (fun j u hu => hs.see (bk j u hu))) <| O_alloc zr129 hs rfl (fun bl w hs => Oa rfl rfl <| O_storeN (i := 0) sz129 hs rfl rfl rfl rfl rfl (one_cons rfl (one_cons rfl one_nil)) (fun w hs => O_nil (bh _ _ <| Wr fun cd bm => Om rfl rfl <| O_y rfl (Y_loadbN (i := 0) ag129 sz129 hs rfl rfl rfl rfl) ?_)))
    obtain ⟨ae, ax, H⟩ := bnd H
    refine O_callv rfl rfl rfl (book_ofSpan.c hs rfl ax) (fun ce w hpost => ?_)
    obtain ⟨a5, bn, rfl, aj, hs, bo⟩ := hpost
    have ay := bo
    obtain rfl := ay
    refine O_alloc zr129 hs rfl (fun ar w hs => O_storeN (i := 0) sz129 hs rfl rfl rfl rfl rfl (one_cons rfl (one_cons rfl one_nil)) (fun w hs => O_nil (bm _ _ <| W.weak [(1, _), (2, _), (7, _), (8, _), (9, _), (10, _), (14, _), (15, _), (16, _)] (by repeat first | exact Sub.nil | refine Sub.cons rfl ?_) ?_)))
    refine W_seq fun bp az => W_seqj fun a0 a1 ah => ?_
    have ai : ∀ (ab : Bool) (w : World), book_rising_api_Span_and.j1 (book_rising_api_Span_and.l1 ac x0) aa ae ab = some r → St w0 a5 ((.box ar 129 ([.int .i32 ae.lo, .int .i32 ae.hi])) :: (.box bl 129 ([.int .i32 ((rd x0 aa).lo), .int .i32 ((rd x0 aa).hi)])) :: Γ) w → a0 [(1, .func (.func 104) #[] #[]), (2, .func (.func 87) #[] #[]), (8, .int .i64 aa), (10, .pointer (some ⟨ar, 0, none⟩)), (14, v0), (15, .int .i64 (x0.length : Int)), (16, .int .i64 aa), (45, .bool ab)] w := by
     intro ab w H hs
     rw [book_rising_api_Span_and.j1] at H
     refine a1 _ _ <| W_cond rfl (fun an => ?_) (fun an => ?_)
     ·rw [if_pos an] at H
      refine Wr fun bq a2 => Om rfl rfl <| Oa rfl rfl <| O_nil (a2 _ _ <| W_ret ?_)
      obtain rfl := sinj H
      exact ret1 rfl rfl ⟨rfl, ((hs.sub (ssk (ssk ssr))).less (af.trans aj))⟩
     ·rw [if_neg (bft an)] at H
      refine W_skip (az _ _ <| W_region <| O_y rfl (Y_field fo129_1 rfl) <| O_y rfl (Yb 0 ag21 hs rfl rfl rfl) <| Oa rfl rfl <| O_nil (bg _ _ <| W_region <| O_y rfl (Y_add rfl rfl) <| Om rfl rfl <| O_nil (am (ac, ae.hi, (IntKind.i64.wrap (aa + 1)), a5) _ _ (by repeat first | exact Sub.nil | refine Sub.cons rfl ?_) (Ai H (Ai (af.trans aj) (hs.sub (ssk (ssk ssr))))) (Nat.lt_succ_self _))))
    refine W_region <| O_y rfl (Y_field fo129_0 rfl) <| O_y rfl (Yb 0 ag21 hs rfl rfl rfl) <| Om rfl rfl <| O_y rfl (Y_leq rfl rfl) <| Om rfl rfl <| O_if (dj := 28) rfl (fun ao => ?_) (fun ao => ?_)
    ·rw [if_pos ao] at H
     refine O_no rfl rfl rfl rfl <| O_no rfl rfl rfl rfl <| O_no rfl rfl rfl rfl <| O_no rfl rfl rfl rfl <| O_no rfl rfl rfl rfl <| O_y rfl (Y_pick_t rfl rfl) <| Om rfl rfl <| O_no rfl rfl rfl rfl <| O_no rfl rfl rfl rfl <| O_no rfl rfl rfl rfl <| O_y rfl (Y_pick_t rfl rfl) <| Om rfl rfl <| O_no rfl rfl rfl rfl <| O_no rfl rfl rfl rfl ?_
     refine O_no rfl rfl rfl rfl <| O_no rfl rfl rfl rfl <| O_y rfl (Y_pick_t rfl rfl) <| O_nil (ah _ _ _ (by repeat first | exact Sub.nil | refine Sub.cons rfl ?_) (ai true _ H hs))
    ·rw [if_neg ao] at H
     refine O_yes rfl rfl <| O_y rfl (Y_field fo129_1 rfl) <| O_yes rfl rfl <| O_y rfl (Yb 0 ag21 hs rfl rfl rfl) <| O_yes rfl rfl <| O_y rfl (Y_field fo129_0 rfl) <| O_yes rfl rfl <| O_y rfl (Yb 0 ag21 hs rfl rfl rfl) <| O_yes rfl rfl <| O_y rfl (Y_lss rfl rfl) <| O_y rfl (Y_pick_f rfl rfl) <| Om rfl rfl <| O_if (dj := 35) rfl (fun ap => ?_) (fun ap => ?_)
     ·rw [if_pos ap] at H
      refine O_no rfl rfl rfl rfl <| O_no rfl rfl rfl rfl <| O_no rfl rfl rfl rfl <| O_y rfl (Y_pick_t rfl rfl) <| Om rfl rfl <| O_no rfl rfl rfl rfl <| O_no rfl rfl rfl rfl <| O_no rfl rfl rfl rfl <| O_no rfl rfl rfl rfl <| O_y rfl (Y_pick_t rfl rfl) <| O_nil (ah _ _ _ (by repeat first | exact Sub.nil | refine Sub.cons rfl ?_) (ai true _ H hs))
     ·rw [if_neg ap] at H
      refine O_yes rfl rfl <| O_y rfl (Y_field fo129_1 rfl) <| O_yes rfl rfl <| O_y rfl (Yb 0 ag21 hs rfl rfl rfl) <| O_yes rfl rfl <| O_y rfl (Y_gtr rfl rfl) <| O_y rfl (Y_pick_f rfl rfl) <| Om rfl rfl <| O_if (dj := 40) rfl (fun aq => ?_) (fun aq => ?_)
      ·rw [if_pos aq] at H
       refine O_no rfl rfl rfl rfl <| O_no rfl rfl rfl rfl <| O_no rfl rfl rfl rfl <| O_no rfl rfl rfl rfl <| O_y rfl (Y_pick_t rfl rfl) <| O_nil (ah _ _ _ (by repeat first | exact Sub.nil | refine Sub.cons rfl ?_) (ai true _ H hs))
      ·rw [if_neg aq] at H
       refine O_yes rfl rfl <| Om rfl rfl <| O_yes rfl rfl <| O_y rfl (Y_loadbN (i := 1) ag129 sz129 hs rfl rfl rfl rfl) <| O_yes rfl rfl ?_
       obtain ⟨al, au, H⟩ := bnd H
       refine O_callv rfl rfl rfl (book_Check_1.c hs rfl au) (fun br w hpost => ?_)
       obtain ⟨rfl, hs⟩ := hpost
       refine O_yes rfl rfl <| O_y rfl (Y_not rfl) <| O_y rfl (Y_pick_f rfl rfl) <| O_nil (ah _ _ _ (by repeat first | exact Sub.nil | refine Sub.cons rfl ?_) (ai (!al) _ H hs))
   ·rw [if_neg aw] at H
    refine W_exit (bd _ _ (bb _ _ <| Wr fun bs a3 => Oa rfl rfl <| O_nil (a3 _ _ <| W_ret ?_)))
    obtain rfl := sinj H
    exact ret1 rfl rfl ⟨rfl, (hs.less af)⟩

def book_Check_12_ion.f (y0_0 : List ByteArray) (y0_1 : List Val) (y0_2 : List Chs) (y0_3 : List Val) (y0_4 : List Chs) (y0_5 : List Spn) (y0_6 y0_7 : List Val) (y0_8 : List Spn) (y0_9 : List Val) (y0_10 : List Chs) : Option Int := (book_rising_api_Span_and.f y0_8).bind fun ab => (some ab)
theorem book_Check_12_ion.c {w0 w : World} {ρ : Hp} {Γ : List Item} {pb0 : Nat} {w0_0 : Value} {y0_0 : List ByteArray} {w0_1 : Value} {y0_1 : List Val} {w0_2 : Value} {y0_2 : List Chs} {w0_3 : Value} {y0_3 : List Val} {w0_4 : Value} {y0_4 : List Chs} {w0_5 : Value} {y0_5 : List Spn} {w0_6 : Value} {y0_6 : List Val} {w0_7 : Value} {y0_7 : List Val} {w0_8 : Value} {y0_8 : List Spn} {w0_9 : Value} {y0_9 : List Val} {w0_10 : Value} {y0_10 : List Chs} {pb1 : Nat} (hs : St w0 ρ ((.box pb0 27 ([w0_0, w0_1, w0_2, w0_3, w0_4, w0_5, w0_6, w0_7, w0_8, w0_9, w0_10])) :: (.box pb1 133 ([.func (.func 87) #[] #[]])) :: Γ) w) (g0_0 : SlR Rep.str ρ w0_0 y0_0) (g0_1 : SlR rVal ρ w0_1 y0_1) (g0_2 : SlR rChs ρ w0_2 y0_2) (g0_3 : SlR rVal ρ w0_3 y0_3) (g0_4 : SlR rChs ρ w0_4 y0_4) (g0_5 : SlR rSpn ρ w0_5 y0_5) (g0_6 : SlR rVal ρ w0_6 y0_6) (g0_7 : SlR rVal ρ w0_7 y0_7) (g0_8 : SlR rSpn ρ w0_8 y0_8) (g0_9 : SlR rVal ρ w0_9 y0_9) (g0_10 : SlR rChs ρ w0_10 y0_10) {r : Int} (H : book_Check_12_ion.f y0_0 y0_1 y0_2 y0_3 y0_4 y0_5 y0_6 y0_7 y0_8 y0_9 y0_10 = some r) : CallsR Tryz.prog 109 [.pointer (some ⟨pb0, 0, none⟩), .pointer (some ⟨pb1, 0, none⟩)] w (fun v w' => v = .int .i64 r ∧ St w0 ρ ((.box pb0 27 ([w0_0, w0_1, w0_2, w0_3, w0_4, w0_5, w0_6, w0_7, w0_8, w0_9, w0_10])) :: (.box pb1 133 ([.func (.func 87) #[] #[]])) :: Γ) w') := by
  rw [book_Check_12_ion.f] at H
  refine enter Tryz.func109 Tryz.ntmps109 rfl (by kernel_rfl) rfl <| Wr fun ae ac => Oa rfl rfl <| O_nil (ac _ _ <| Wr fun af ad => O_y rfl (Y_field fo27_8 rfl) <| O_y rfl (Yb 0 ag25 hs rfl rfl rfl) <| O_y rfl (Yb 1 ag133 hs rfl rfl rfl) ?_)
  obtain ⟨ab, aa, H⟩ := bnd H
  refine O_call rfl rfl (book_rising_api_Span_and.c hs g0_8 aa) (fun ag w hpost => ?_)
  obtain ⟨rfl, hs⟩ := hpost
  refine Oa rfl rfl <| O_nil (ad _ _ <| W_ret ?_)
  obtain rfl := sinj H
  exact ret1 rfl rfl ⟨rfl, hs⟩

def book_Check_13_ion.f (y0_0 : List ByteArray) (y0_1 : List Val) (y0_2 : List Chs) (y0_3 : List Val) (y0_4 : List Chs) (y0_5 : List Spn) (y0_6 y0_7 : List Val) (y0_8 : List Spn) (y0_9 : List Val) (y0_10 : List Chs) : Option Int := (book_values_bpe.f y0_9 1 (y0_0.length : Int)).bind fun ab => (some ab)
theorem book_Check_13_ion.c {w0 w : World} {ρ : Hp} {Γ : List Item} {pb0 : Nat} {w0_0 : Value} {y0_0 : List ByteArray} {w0_1 : Value} {y0_1 : List Val} {w0_2 : Value} {y0_2 : List Chs} {w0_3 : Value} {y0_3 : List Val} {w0_4 : Value} {y0_4 : List Chs} {w0_5 : Value} {y0_5 : List Spn} {w0_6 : Value} {y0_6 : List Val} {w0_7 : Value} {y0_7 : List Val} {w0_8 : Value} {y0_8 : List Spn} {w0_9 : Value} {y0_9 : List Val} {w0_10 : Value} {y0_10 : List Chs} {pb1 : Nat} (hs : St w0 ρ ((.box pb0 27 ([w0_0, w0_1, w0_2, w0_3, w0_4, w0_5, w0_6, w0_7, w0_8, w0_9, w0_10])) :: (.box pb1 133 ([.func (.func 87) #[] #[]])) :: Γ) w) (g0_0 : SlR Rep.str ρ w0_0 y0_0) (g0_1 : SlR rVal ρ w0_1 y0_1) (g0_2 : SlR rChs ρ w0_2 y0_2) (g0_3 : SlR rVal ρ w0_3 y0_3) (g0_4 : SlR rChs ρ w0_4 y0_4) (g0_5 : SlR rSpn ρ w0_5 y0_5) (g0_6 : SlR rVal ρ w0_6 y0_6) (g0_7 : SlR rVal ρ w0_7 y0_7) (g0_8 : SlR rSpn ρ w0_8 y0_8) (g0_9 : SlR rVal ρ w0_9 y0_9) (g0_10 : SlR rChs ρ w0_10 y0_10) {r : Int} (H : book_Check_13_ion.f y0_0 y0_1 y0_2 y0_3 y0_4 y0_5 y0_6 y0_7 y0_8 y0_9 y0_10 = some r) : CallsR Tryz.prog 110 [.pointer (some ⟨pb0, 0, none⟩), .pointer (some ⟨pb1, 0, none⟩)] w (fun v w' => v = .int .i64 r ∧ St w0 ρ ((.box pb0 27 ([w0_0, w0_1, w0_2, w0_3, w0_4, w0_5, w0_6, w0_7, w0_8, w0_9, w0_10])) :: (.box pb1 133 ([.func (.func 87) #[] #[]])) :: Γ) w') := by
  rw [book_Check_13_ion.f] at H
  refine enter Tryz.func110 Tryz.ntmps110 rfl (by kernel_rfl) rfl <| Wr fun ae ac => Oa rfl rfl <| O_nil (ac _ _ <| Wr fun af ad => O_y rfl (Y_field fo27_9 rfl) <| O_y rfl (Yb 0 ag23 hs rfl rfl rfl) <| O_y rfl (Y_field fo27_0 rfl) <| O_y rfl (Yb 0 ag22 hs rfl rfl rfl) <| O_y rfl (Y_lenR un22 g0_0 rfl) <| O_y rfl (Yb 1 ag133 hs rfl rfl rfl) ?_)
  obtain ⟨ab, aa, H⟩ := bnd H
  refine O_call rfl rfl (book_values_bpe.c hs g0_9 aa) (fun ag w hpost => ?_)
  obtain ⟨rfl, hs⟩ := hpost
  refine Oa rfl rfl <| O_nil (ad _ _ <| W_ret ?_)
  obtain rfl := sinj H
  exact ret1 rfl rfl ⟨rfl, hs⟩

def book_Check_3.f (x0 : Chs) : Option Bool := (book_scalars.f x0.is_ 1 18).bind fun ab => (some ab)
theorem book_Check_3.c {w0 w : World} {ρ : Hp} {Γ : List Item} (hs : St w0 ρ (Γ) w) {c0 : List Value} {x0 : Chs} (h0 : rChs.R ρ c0 x0) {r : Bool} (H : book_Check_3.f x0 = some r) : CallsR Tryz.prog 90 [.agg c0.toArray] w (fun v w' => v = .bool r ∧ St w0 ρ Γ w') := by
  rw [book_Check_3.f] at H
  refine enter Tryz.func90 Tryz.ntmps90 rfl (by kernel_rfl) rfl ?_
  have ac := h0
  obtain ⟨ad, rfl, ae⟩ := ac
  refine Wr fun ah af => O_boxN (cs := [.int .i32 x0.lo, .int .i32 x0.hi, ad]) hs rfl rfl (fun ai w hs => Oa rfl rfl <| O_nil (af _ _ <| Wr fun aj ag => O_y rfl (Y_field fo110_2 rfl) <| O_y rfl (Yb 0 ag28 hs rfl rfl rfl) ?_))
  obtain ⟨ab, aa, H⟩ := bnd H
  refine O_call rfl rfl (book_scalars.c hs ae aa) (fun ak w hpost => ?_)
  obtain ⟨rfl, hs⟩ := hpost
  refine Oa rfl rfl <| O_nil (ag _ _ <| W_ret ?_)
  obtain rfl := sinj H
  exact ret1 rfl rfl ⟨rfl, (hs.sub (ssk ssr))⟩

def book_rising_api_Chars_hdj.j1 (ak : Int → Int → Option Int) (aa : Int) (ae : Spn) (ab : Bool) : Option Int := if ab = true then (some aa) else (ak ae.hi (IntKind.i64.wrap (aa + 1)))
def book_rising_api_Chars_hdj.l1 : Nat → List Chs → Int → Int → Option Int
  | 0, _, _, _ => none
  | ac + 1, x0, ad, aa => if aa < (x0.length : Int) then (if (0 : Int) ≤ aa ∧ aa < (x0.length : Int) then ((book_ofChars.f (rd x0 aa)).bind fun ae => (if ae.lo ≤ ad then (book_rising_api_Chars_hdj.j1 (book_rising_api_Chars_hdj.l1 ac x0) aa ae true) else (if ae.hi < ae.lo then (book_rising_api_Chars_hdj.j1 (book_rising_api_Chars_hdj.l1 ac x0) aa ae true) else (if 1114111 < ae.hi then (book_rising_api_Chars_hdj.j1 (book_rising_api_Chars_hdj.l1 ac x0) aa ae true) else ((book_Check_3.f (rd x0 aa)).bind fun al => (book_rising_api_Chars_hdj.j1 (book_rising_api_Chars_hdj.l1 ac x0) aa ae (!al))))))) else none) else (some (-1))
def book_rising_api_Chars_hdj.f (x0 : List Chs) : Option Int := if 65536 < (x0.length : Int) then (some 65536) else (book_rising_api_Chars_hdj.l1 K0 x0 (-1) 0)
theorem book_rising_api_Chars_hdj.c {w0 w : World} {ρ : Hp} {Γ : List Item} (hs : St w0 ρ (Γ) w) {v0 : Value} {x0 : List Chs} (h0 : SlR rChs ρ v0 x0) {r : Int} (H : book_rising_api_Chars_hdj.f x0 = some r) : CallsR Tryz.prog 100 [v0, .func (.func 66) #[] #[], .func (.func 90) #[] #[]] w (fun v w' => v = .int .i64 r ∧ St w0 ρ Γ w') := by
  rw [book_rising_api_Chars_hdj.f] at H
  refine enter Tryz.func100 Tryz.ntmps100 rfl (by kernel_rfl) rfl <| Wr fun bv a8 => Oa rfl rfl <| O_nil (a8 _ _ <| W_seq fun bw a9 => Wr fun bx ba => Om rfl rfl <| O_y rfl (Y_lenR un24 h0 rfl) <| O_y rfl (Y_gtr rfl rfl) <| O_nil (ba _ _ <| W_if rfl (fun aw => ?_) (fun aw => ?_)))
  ·rw [if_pos aw] at H
   refine Wr fun bz bb => Oa rfl rfl <| O_nil (bb _ _ <| W_ret ?_)
   obtain rfl := sinj H
   exact ret1 rfl rfl ⟨rfl, hs⟩
  ·rw [if_neg aw] at H
   refine W_skip (a9 _ _ <| Wr fun b0 bc => Oa rfl rfl <| O_nil (bc _ _ <| W_seq fun b1 bd => Wr fun b2 be => Om rfl rfl <| O_y rfl (Y_lenR un24 h0 rfl) <| Om rfl rfl <| O_nil (be _ _ <| W_block fun b3 bf b4 => W_loop (σ := Nat × Int × Int × Hp) (fun (ac, ad, aa, ah) => [(1, .func (.func 66) #[] #[]), (2, .func (.func 90) #[] #[]), (7, .int .i32 ad), (14, v0), (15, .int .i64 (x0.length : Int)), (16, .int .i64 aa)]) (fun (ac, ad, aa, ah) w => book_rising_api_Chars_hdj.l1 ac x0 ad aa = some r ∧ Le ρ ah ∧ St w0 ah (Γ) w) (fun s => s.1) (K0, (-1), 0, ρ) (by repeat first | exact Sub.nil | refine Sub.cons rfl ?_) (Ai H (Ai (Le.rfl' _) hs)) ?_)))
   rintro ⟨ac, ad, aa, ah⟩ w b5 ⟨H, af, hs⟩ am
   show W _ _ _ _ _ _ [(1, .func (.func 66) #[] #[]), (2, .func (.func 90) #[] #[]), (7, .int .i32 ad), (14, v0), (15, .int .i64 (x0.length : Int)), (16, .int .i64 aa)] w
   cases ac with
   | zero => rw [book_rising_api_Chars_hdj.l1] at H; cases H
   | succ ac =>
   rw [book_rising_api_Chars_hdj.l1] at H
   refine Wr fun b6 bg => O_y rfl (Y_lss rfl rfl) <| O_nil (bg _ _ <| W_seq fun b7 bh => W_if rfl (fun ax => ?_) (fun ax => ?_))
   ·rw [if_pos ax] at H
    refine W_skip (bh _ _ <| W_seq fun b8 bi => W_block fun b9 ca cb => Wr fun cc bj => Om rfl rfl ?_)
    obtain ⟨a7, H⟩ := gd H
    obtain ⟨cd, ce, bk, bl⟩ := (h0.mono af).ix el24 a7.1 a7.2
    obtain ⟨_, ⟨bm, rfl, ay⟩, bn⟩ := bk
    refine O_y rfl (bl rfl rfl) <| O_y rfl (Y_loadN ag110 sz110 rfl rfl (fun j u hu => hs.see (bn j u hu))) <| O_alloc zr110 hs rfl (fun bo w hs => Oa rfl rfl <| O_storeN (i := 0) sz110 hs rfl rfl rfl rfl rfl (one_cons rfl (one_cons rfl (one_cons ay.one one_nil))) (fun w hs => O_nil (bj _ _ <| Wr fun cf bp => Om rfl rfl <| O_y rfl (Y_loadbN (i := 0) ag110 sz110 hs rfl rfl rfl rfl) ?_)))
    obtain ⟨ae, az, H⟩ := bnd H
    refine O_callv rfl rfl rfl (book_ofChars.c hs ⟨_, rfl, ay⟩ az) (fun cg w hpost => ?_)
    obtain ⟨ar, bq, rfl, ag, hs, a0⟩ := hpost
    have a1 := a0
    obtain rfl := a1
    refine O_alloc zr129 hs rfl (fun au w hs => O_storeN (i := 0) sz129 hs rfl rfl rfl rfl rfl (one_cons rfl (one_cons rfl one_nil)) (fun w hs => O_nil (bp _ _ <| W.weak [(1, _), (2, _), (7, _), (8, _), (9, _), (10, _), (14, _), (15, _), (16, _)] (by repeat first | exact Sub.nil | refine Sub.cons rfl ?_) ?_)))
    refine W_seq fun br a2 => W_seqj fun a3 a4 ai => ?_
    have aj : ∀ (ab : Bool) (w : World), book_rising_api_Chars_hdj.j1 (book_rising_api_Chars_hdj.l1 ac x0) aa ae ab = some r → St w0 ar ((.box au 129 ([.int .i32 ae.lo, .int .i32 ae.hi])) :: (.box bo 110 ([.int .i32 ((rd x0 aa).lo), .int .i32 ((rd x0 aa).hi), bm])) :: Γ) w → a3 [(1, .func (.func 66) #[] #[]), (2, .func (.func 90) #[] #[]), (8, .int .i64 aa), (10, .pointer (some ⟨au, 0, none⟩)), (14, v0), (15, .int .i64 (x0.length : Int)), (16, .int .i64 aa), (45, .bool ab)] w := by
     intro ab w H hs
     rw [book_rising_api_Chars_hdj.j1] at H
     refine a4 _ _ <| W_cond rfl (fun an => ?_) (fun an => ?_)
     ·rw [if_pos an] at H
      refine Wr fun bs a5 => Om rfl rfl <| Oa rfl rfl <| O_nil (a5 _ _ <| W_ret ?_)
      obtain rfl := sinj H
      exact ret1 rfl rfl ⟨rfl, ((hs.sub (ssk (ssk ssr))).less (af.trans ag))⟩
     ·rw [if_neg (bft an)] at H
      refine W_skip (a2 _ _ <| W_region <| O_y rfl (Y_field fo129_1 rfl) <| O_y rfl (Yb 0 ag21 hs rfl rfl rfl) <| Oa rfl rfl <| O_nil (bi _ _ <| W_region <| O_y rfl (Y_add rfl rfl) <| Om rfl rfl <| O_nil (am (ac, ae.hi, (IntKind.i64.wrap (aa + 1)), ar) _ _ (by repeat first | exact Sub.nil | refine Sub.cons rfl ?_) (Ai H (Ai (af.trans ag) (hs.sub (ssk (ssk ssr))))) (Nat.lt_succ_self _))))
    refine W_region <| O_y rfl (Y_field fo129_0 rfl) <| O_y rfl (Yb 0 ag21 hs rfl rfl rfl) <| Om rfl rfl <| O_y rfl (Y_leq rfl rfl) <| Om rfl rfl <| O_if (dj := 28) rfl (fun ao => ?_) (fun ao => ?_)
    ·rw [if_pos ao] at H
     refine O_no rfl rfl rfl rfl <| O_no rfl rfl rfl rfl <| O_no rfl rfl rfl rfl <| O_no rfl rfl rfl rfl <| O_no rfl rfl rfl rfl <| O_y rfl (Y_pick_t rfl rfl) <| Om rfl rfl <| O_no rfl rfl rfl rfl <| O_no rfl rfl rfl rfl <| O_no rfl rfl rfl rfl <| O_y rfl (Y_pick_t rfl rfl) <| Om rfl rfl <| O_no rfl rfl rfl rfl <| O_no rfl rfl rfl rfl ?_
     refine O_no rfl rfl rfl rfl <| O_no rfl rfl rfl rfl <| O_y rfl (Y_pick_t rfl rfl) <| O_nil (ai _ _ _ (by repeat first | exact Sub.nil | refine Sub.cons rfl ?_) (aj true _ H hs))
    ·rw [if_neg ao] at H
     refine O_yes rfl rfl <| O_y rfl (Y_field fo129_1 rfl) <| O_yes rfl rfl <| O_y rfl (Yb 0 ag21 hs rfl rfl rfl) <| O_yes rfl rfl <| O_y rfl (Y_field fo129_0 rfl) <| O_yes rfl rfl <| O_y rfl (Yb 0 ag21 hs rfl rfl rfl) <| O_yes rfl rfl <| O_y rfl (Y_lss rfl rfl) <| O_y rfl (Y_pick_f rfl rfl) <| Om rfl rfl <| O_if (dj := 35) rfl (fun ap => ?_) (fun ap => ?_)
     ·rw [if_pos ap] at H
      refine O_no rfl rfl rfl rfl <| O_no rfl rfl rfl rfl <| O_no rfl rfl rfl rfl <| O_y rfl (Y_pick_t rfl rfl) <| Om rfl rfl <| O_no rfl rfl rfl rfl <| O_no rfl rfl rfl rfl <| O_no rfl rfl rfl rfl <| O_no rfl rfl rfl rfl <| O_y rfl (Y_pick_t rfl rfl) <| O_nil (ai _ _ _ (by repeat first | exact Sub.nil | refine Sub.cons rfl ?_) (aj true _ H hs))
     ·rw [if_neg ap] at H
      refine O_yes rfl rfl <| O_y rfl (Y_field fo129_1 rfl) <| O_yes rfl rfl <| O_y rfl (Yb 0 ag21 hs rfl rfl rfl) <| O_yes rfl rfl <| O_y rfl (Y_gtr rfl rfl) <| O_y rfl (Y_pick_f rfl rfl) <| Om rfl rfl <| O_if (dj := 40) rfl (fun aq => ?_) (fun aq => ?_)
      ·rw [if_pos aq] at H
       refine O_no rfl rfl rfl rfl <| O_no rfl rfl rfl rfl <| O_no rfl rfl rfl rfl <| O_no rfl rfl rfl rfl <| O_y rfl (Y_pick_t rfl rfl) <| O_nil (ai _ _ _ (by repeat first | exact Sub.nil | refine Sub.cons rfl ?_) (aj true _ H hs))
      ·rw [if_neg aq] at H
       refine O_yes rfl rfl <| Om rfl rfl <| O_yes rfl rfl <| O_y rfl (Y_loadbN (i := 1) ag110 sz110 hs rfl rfl rfl rfl) <| O_yes rfl rfl ?_
       obtain ⟨al, av, H⟩ := bnd H
       refine O_callv rfl rfl rfl (book_Check_3.c hs ⟨_, rfl, (ay.mono ag)⟩ av) (fun bt w hpost => ?_)
       obtain ⟨rfl, hs⟩ := hpost
       refine O_yes rfl rfl <| O_y rfl (Y_not rfl) <| O_y rfl (Y_pick_f rfl rfl) <| O_nil (ai _ _ _ (by repeat first | exact Sub.nil | refine Sub.cons rfl ?_) (aj (!al) _ H hs))
   ·rw [if_neg ax] at H
    refine W_exit (bf _ _ (bd _ _ <| Wr fun bu a6 => Oa rfl rfl <| O_nil (a6 _ _ <| W_ret ?_)))
    obtain rfl := sinj H
    exact ret1 rfl rfl ⟨rfl, (hs.less af)⟩

def book_Check_14_gdi.f (y0_0 : List ByteArray) (y0_1 : List Val) (y0_2 : List Chs) (y0_3 : List Val) (y0_4 : List Chs) (y0_5 : List Spn) (y0_6 y0_7 : List Val) (y0_8 : List Spn) (y0_9 : List Val) (y0_10 : List Chs) : Option Int := (book_rising_api_Chars_hdj.f y0_10).bind fun ab => (some ab)
theorem book_Check_14_gdi.c {w0 w : World} {ρ : Hp} {Γ : List Item} {pb0 : Nat} {w0_0 : Value} {y0_0 : List ByteArray} {w0_1 : Value} {y0_1 : List Val} {w0_2 : Value} {y0_2 : List Chs} {w0_3 : Value} {y0_3 : List Val} {w0_4 : Value} {y0_4 : List Chs} {w0_5 : Value} {y0_5 : List Spn} {w0_6 : Value} {y0_6 : List Val} {w0_7 : Value} {y0_7 : List Val} {w0_8 : Value} {y0_8 : List Spn} {w0_9 : Value} {y0_9 : List Val} {w0_10 : Value} {y0_10 : List Chs} {pb1 : Nat} (hs : St w0 ρ ((.box pb0 27 ([w0_0, w0_1, w0_2, w0_3, w0_4, w0_5, w0_6, w0_7, w0_8, w0_9, w0_10])) :: (.box pb1 135 ([.func (.func 90) #[] #[]])) :: Γ) w) (g0_0 : SlR Rep.str ρ w0_0 y0_0) (g0_1 : SlR rVal ρ w0_1 y0_1) (g0_2 : SlR rChs ρ w0_2 y0_2) (g0_3 : SlR rVal ρ w0_3 y0_3) (g0_4 : SlR rChs ρ w0_4 y0_4) (g0_5 : SlR rSpn ρ w0_5 y0_5) (g0_6 : SlR rVal ρ w0_6 y0_6) (g0_7 : SlR rVal ρ w0_7 y0_7) (g0_8 : SlR rSpn ρ w0_8 y0_8) (g0_9 : SlR rVal ρ w0_9 y0_9) (g0_10 : SlR rChs ρ w0_10 y0_10) {r : Int} (H : book_Check_14_gdi.f y0_0 y0_1 y0_2 y0_3 y0_4 y0_5 y0_6 y0_7 y0_8 y0_9 y0_10 = some r) : CallsR Tryz.prog 111 [.pointer (some ⟨pb0, 0, none⟩), .pointer (some ⟨pb1, 0, none⟩)] w (fun v w' => v = .int .i64 r ∧ St w0 ρ ((.box pb0 27 ([w0_0, w0_1, w0_2, w0_3, w0_4, w0_5, w0_6, w0_7, w0_8, w0_9, w0_10])) :: (.box pb1 135 ([.func (.func 90) #[] #[]])) :: Γ) w') := by
  rw [book_Check_14_gdi.f] at H
  refine enter Tryz.func111 Tryz.ntmps111 rfl (by kernel_rfl) rfl <| Wr fun ae ac => Oa rfl rfl <| O_nil (ac _ _ <| Wr fun af ad => O_y rfl (Y_field fo27_10 rfl) <| O_y rfl (Yb 0 ag24 hs rfl rfl rfl) <| O_y rfl (Yb 1 ag135 hs rfl rfl rfl) ?_)
  obtain ⟨ab, aa, H⟩ := bnd H
  refine O_call rfl rfl (book_rising_api_Chars_hdj.c hs g0_10 aa) (fun ag w hpost => ?_)
  obtain ⟨rfl, hs⟩ := hpost
  refine Oa rfl rfl <| O_nil (ad _ _ <| W_ret ?_)
  obtain rfl := sinj H
  exact ret1 rfl rfl ⟨rfl, hs⟩

def book_tree_length_bjo.j1 (ah : (List (Int × Int)) → Int → Int → Option (Int × (List (Int × Int)))) (ad aa : Int) (ac : List (Int × Int)) (ae : Int) : Option (Int × (List (Int × Int))) := if ae = 0 then (some (0, ac)) else (ah ac (IntKind.i64.wrap (ad + ae)) (IntKind.i64.wrap (aa + 1)))
def book_tree_length_bjo.l1 : Nat → (Int → List Chs → (List (Int × Int)) → (List (Int × Int)) → Option (Int × (List (Int × Int)))) → List Chs → (List (Int × Int)) → Int → (List (Int × Int)) → Int → Int → Option (Int × (List (Int × Int)))
  | 0, _, _, _, _, _, _, _ => none
  | af + 1, rec, y0_0, y1, x1, ab, ad, aa => if aa < (((rd y0_0 x1).is_).length : Int) then (if (0 : Int) ≤ aa ∧ aa < (((rd y0_0 x1).is_).length : Int) then (if ((mget y1 (rd ((rd y0_0 x1).is_) aa)).isSome) = true then ((rec ((mget y1 (rd ((rd y0_0 x1).is_) aa)).getD 0) y0_0 y1 ab).bind fun ag => (book_tree_length_bjo.j1 (book_tree_length_bjo.l1 af rec y0_0 y1 x1) ad aa ag.2 ag.1)) else (book_tree_length_bjo.j1 (book_tree_length_bjo.l1 af rec y0_0 y1 x1) ad aa ab 1)) else none) else (if 18 < ad then (some (0, ab)) else (some (ad, mput ab x1 ad)))
def book_tree_length_bjo.b (rec : Int → List Chs → (List (Int × Int)) → (List (Int × Int)) → Option (Int × (List (Int × Int)))) (x1 : Int) (y0_0 : List Chs) (y1 : List (Int × Int)) (y2 : List (Int × Int)) : Option (Int × (List (Int × Int))) := if ((mget y2 x1).isSome) = true then (some ((mget y2 x1).getD 0, y2)) else (if (0 : Int) ≤ x1 ∧ x1 < (y0_0.length : Int) then (book_tree_length_bjo.l1 K0 rec y0_0 y1 x1 (mput y2 x1 0) 0 0) else none)
def book_tree_length_bjo.f : Nat → Int → List Chs → (List (Int × Int)) → (List (Int × Int)) → Option (Int × (List (Int × Int)))
  | 0, _, _, _, _ => none
  | k + 1, x1, y0_0, y1, y2 => book_tree_length_bjo.b (book_tree_length_bjo.f k) x1 y0_0 y1 y2
def book_tree_length_bjo.Spec (rec : Int → List Chs → (List (Int × Int)) → (List (Int × Int)) → Option (Int × (List (Int × Int)))) : Prop := ∀ {w0 w : World} {ρ : Hp} {Γ : List Item} {pb0 : Nat} {w0_0 : Value} {y0_0 : List Chs} {pm1 : Nat} {y1 : List (Int × Int)} {pm2 : Nat} {y2 : List (Int × Int)} (hs : St w0 ρ ((.box pb0 184 ([w0_0, .map (some pm1), .map (some pm2)])) :: (.obj pm1 (mapObj (KeyK.int un21).enc (vs (Value.int .i64) y1))) :: (.obj pm2 (mapObj (KeyK.int un3).enc (vs (Value.int .i64) y2))) :: Γ) w) {x1 : Int} (g0_0 : SlR rChs ρ w0_0 y0_0) {r : Int × (List (Int × Int))}, rec x1 y0_0 y1 y2 = some r → CallsR Tryz.prog 149 [.pointer (some ⟨pb0, 0, none⟩), .int .i64 x1] w (fun v w' => v = .int .i64 r.1 ∧ St w0 ρ ((.box pb0 184 ([w0_0, .map (some pm1), .map (some pm2)])) :: (.obj pm1 (mapObj (KeyK.int un21).enc (vs (Value.int .i64) y1))) :: (.obj pm2 (mapObj (KeyK.int un3).enc (vs (Value.int .i64) r.2))) :: Γ) w')
theorem book_tree_length_bjo.cb (rec : Int → List Chs → (List (Int × Int)) → (List (Int × Int)) → Option (Int × (List (Int × Int)))) (hrec : book_tree_length_bjo.Spec rec) {w0 w : World} {ρ : Hp} {Γ : List Item} {pb0 : Nat} {w0_0 : Value} {y0_0 : List Chs} {pm1 : Nat} {y1 : List (Int × Int)} {pm2 : Nat} {y2 : List (Int × Int)} (hs : St w0 ρ ((.box pb0 184 ([w0_0, .map (some pm1), .map (some pm2)])) :: (.obj pm1 (mapObj (KeyK.int un21).enc (vs (Value.int .i64) y1))) :: (.obj pm2 (mapObj (KeyK.int un3).enc (vs (Value.int .i64) y2))) :: Γ) w) {x1 : Int} (g0_0 : SlR rChs ρ w0_0 y0_0) {r : Int × (List (Int × Int))} (H : book_tree_length_bjo.b rec x1 y0_0 y1 y2 = some r) : CallsR Tryz.prog 149 [.pointer (some ⟨pb0, 0, none⟩), .int .i64 x1] w (fun v w' => v = .int .i64 r.1 ∧ St w0 ρ ((.box pb0 184 ([w0_0, .map (some pm1), .map (some pm2)])) :: (.obj pm1 (mapObj (KeyK.int un21).enc (vs (Value.int .i64) y1))) :: (.obj pm2 (mapObj (KeyK.int un3).enc (vs (Value.int .i64) r.2))) :: Γ) w') := by
  rw [book_tree_length_bjo.b] at H
  refine enter Tryz.func149 Tryz.ntmps149 rfl (by kernel_rfl) rfl <| Wr fun b6 bc => Oa rfl rfl <| O_nil (bc _ _ <| W_seq fun b7 bd => Wr fun b8 be => Om rfl rfl <| O_y rfl (Y_nilp rfl) <| O_y rfl (Y_field fo184_2 rfl) <| O_y rfl (Yb 0 ag182 hs rfl rfl rfl) <| Om rfl rfl <| O_y rfl (Y_mapGet2 (i := 2) (m := y2) (x := x1) (E := (Value.int .i64)) un182 (KeyK.int un3) trivial (fun _ _ => trivial) zv3 hs rfl rfl rfl) ?_)
  refine Om rfl rfl <| O_y rfl (Y_extract rfl rfl) <| O_y rfl (Y_extract rfl rfl) <| Oa rfl rfl <| Oa rfl rfl <| O_nil (be _ _ <| Wr fun b9 bf => Om rfl rfl <| O_nil (bf _ _ <| W.weak [(0, _), (1, _), (5, _), (22, _)] (S4 rfl rfl rfl rfl) <| W_cond rfl (fun ap => ?_) (fun ap => ?_)))
  ·rw [if_pos ap] at H
   refine Wr fun ca bg => Om rfl rfl <| Oa rfl rfl <| O_nil (bg _ _ <| W_ret ?_)
   obtain rfl := sinj H
   exact ret1 rfl rfl ⟨rfl, hs⟩
  ·rw [if_neg (bft ap)] at H
   refine W_skip (bd _ _ <| Wr fun cc bh => Om rfl rfl <| O_y rfl (Y_nilp rfl) <| O_y rfl (Y_field fo184_2 rfl) <| O_y rfl (Yb 0 ag182 hs rfl rfl rfl) <| Om rfl rfl <| O_mapPut (i := 2) (m := y2) (x := x1) (v := 0) (E := (Value.int .i64)) un182 (KeyK.int un3) trivial (fun _ _ => trivial) hs rfl rfl rfl rfl (fun w hs => O_nil (bh _ _ <| Wr fun cd bi => Oa rfl rfl <| O_nil (bi _ _ ?_))))
   refine W_seq fun ce bj => Wr fun cf bk => Om rfl rfl <| O_y rfl (Y_nilp rfl) <| O_y rfl (Y_field fo184_0 rfl) <| O_y rfl (Yb 0 ag24 hs rfl rfl rfl) <| Om rfl rfl ?_
   obtain ⟨a9, H⟩ := gd H
   obtain ⟨cg, ch, bl, bm⟩ := g0_0.ix el24 a9.1 a9.2
   obtain ⟨_, ⟨aq, rfl, ba⟩, bn⟩ := bl
   refine O_y rfl (bm rfl rfl) <| O_y rfl (Y_field fo110_2 rfl) <| O_y rfl (Y_load ag28 rfl (hs.see (bn 2 _ rfl))) <| O_y rfl (Y_lenR un28 ba rfl) <| Om rfl rfl <| O_nil (bk _ _ <| W.weak [(0, _), (1, _), (7, _), (36, _), (37, _), (38, _)] (by repeat first | exact Sub.nil | refine Sub.cons rfl ?_) ?_)
   refine W_block fun ci bo cj => W_loop (σ := Nat × (List (Int × Int)) × Int × Int) (fun (af, ab, ad, aa) => [(0, .pointer (some ⟨pb0, 0, none⟩)), (1, .int .i64 x1), (7, .int .i64 ad), (36, aq), (37, .int .i64 (((rd y0_0 x1).is_).length : Int)), (38, .int .i64 aa)]) (fun (af, ab, ad, aa) w => book_tree_length_bjo.l1 af rec y0_0 y1 x1 ab ad aa = some r ∧ St w0 ρ ((.box pb0 184 ([w0_0, .map (some pm1), .map (some pm2)])) :: (.obj pm1 (mapObj (KeyK.int un21).enc (vs (Value.int .i64) y1))) :: (.obj pm2 (mapObj (KeyK.int un3).enc (vs (Value.int .i64) ab))) :: Γ) w) (fun s => s.1) (K0, (mput y2 x1 0), 0, 0) (by repeat first | exact Sub.nil | refine Sub.cons rfl ?_) (Ai H hs) ?_
   rintro ⟨af, ab, ad, aa⟩ w ck ⟨H, hs⟩ ai
   show W _ _ _ _ _ _ [(0, .pointer (some ⟨pb0, 0, none⟩)), (1, .int .i64 x1), (7, .int .i64 ad), (36, aq), (37, .int .i64 (((rd y0_0 x1).is_).length : Int)), (38, .int .i64 aa)] w
   cases af with
   | zero => rw [book_tree_length_bjo.l1] at H; cases H
   | succ af =>
   rw [book_tree_length_bjo.l1] at H
   refine Wr fun cl bp => O_y rfl (Y_lss rfl rfl) <| O_nil (bp _ _ <| W_seq fun cm bq => W_if rfl (fun ar => ?_) (fun ar => ?_))
   ·rw [if_pos ar] at H
    refine W_skip (bq _ _ <| W_seq fun cn br => W_block fun co cp cq => W_seq fun cr bs => W_region ?_)
    obtain ⟨bb, H⟩ := gd H
    obtain ⟨cs, ct, au, av⟩ := ba.ix el28 bb.1 bb.2
    refine O_y rfl (av rfl rfl) <| O_y rfl (Y_load ag21 rfl (hs.see au.int)) <| Oa rfl rfl <| O_nil (bs _ _ <| Wr fun bt aw => Oa rfl rfl <| O_nil (aw _ _ <| W_seqj fun ax ay am => ?_))
    have an : ∀ (ac : List (Int × Int)) (ae : Int) (w : World), book_tree_length_bjo.j1 (book_tree_length_bjo.l1 af rec y0_0 y1 x1) ad aa ac ae = some r → St w0 ρ ((.box pb0 184 ([w0_0, .map (some pm1), .map (some pm2)])) :: (.obj pm1 (mapObj (KeyK.int un21).enc (vs (Value.int .i64) y1))) :: (.obj pm2 (mapObj (KeyK.int un3).enc (vs (Value.int .i64) ac))) :: Γ) w → ax [(0, .pointer (some ⟨pb0, 0, none⟩)), (1, .int .i64 x1), (7, .int .i64 ad), (10, .int .i64 ae), (36, aq), (37, .int .i64 (((rd y0_0 x1).is_).length : Int)), (38, .int .i64 aa)] w := by
     intro ac ae w H hs
     rw [book_tree_length_bjo.j1] at H
     refine ay _ _ <| W_seq fun bu az => Wr fun bv a0 => Om rfl rfl <| O_y rfl (Y_eql rfl rfl) <| O_nil (a0 _ _ <| W_if rfl (fun aj => ?_) (fun aj => ?_))
     ·rw [if_pos aj] at H
      refine Wr fun bw a1 => Oa rfl rfl <| O_nil (a1 _ _ <| W_ret ?_)
      obtain rfl := sinj H
      exact ret1 rfl rfl ⟨rfl, hs⟩
     ·rw [if_neg aj] at H
      refine W_skip (az _ _ <| W_region <| Om rfl rfl <| Om rfl rfl <| O_y rfl (Y_add rfl rfl) <| Oa rfl rfl <| O_nil (br _ _ <| W_region <| O_y rfl (Y_add rfl rfl) <| Om rfl rfl <| O_nil (ai (af, ac, (IntKind.i64.wrap (ad + ae)), (IntKind.i64.wrap (aa + 1))) _ _ (by repeat first | exact Sub.nil | refine Sub.cons rfl ?_) (Ai H hs) (Nat.lt_succ_self _))))
    refine Wr fun bx a2 => Om rfl rfl <| O_y rfl (Y_nilp rfl) <| O_y rfl (Y_field fo184_1 rfl) <| O_y rfl (Yb 0 ag181 hs rfl rfl rfl) <| Om rfl rfl <| O_y rfl (Y_mapGet2 (i := 1) (m := y1) (x := rd ((rd y0_0 x1).is_) aa) (E := (Value.int .i64)) un181 (KeyK.int un21) trivial (fun _ _ => trivial) zv3 hs rfl rfl rfl) <| Om rfl rfl <| O_y rfl (Y_extract rfl rfl) <| O_y rfl (Y_extract rfl rfl) <| Oa rfl rfl <| Oa rfl rfl <| O_nil (a2 _ _ ?_)
    refine W.weak [(0, _), (1, _), (7, _), (10, _), (11, _), (12, _), (36, _), (37, _), (38, _)] (by repeat first | exact Sub.nil | refine Sub.cons rfl ?_) ?_
    refine Wr fun bz a3 => Om rfl rfl <| O_nil (a3 _ _ <| W_cond rfl (fun ak => ?_) (fun ak => ?_))
    ·rw [if_pos ak] at H
     refine W_region <| Om rfl rfl <| Om rfl rfl ?_
     have hs := hs.front 2 rfl
     have hs := hs.front 2 rfl
     have hs := hs.front 2 rfl
     obtain ⟨ag, ao, H⟩ := bnd H
     refine O_call rfl rfl (hrec hs g0_0 ao) (fun b0 w hpost => ?_)
     obtain ⟨rfl, hs⟩ := hpost
     have hs := hs.sink 2
     have hs := hs.sink 2
     have hs := hs.sink 2
     refine Oa rfl rfl <| O_nil (am _ _ _ (by repeat first | exact Sub.nil | refine Sub.cons rfl ?_) (an ag.2 ag.1 _ H hs))
    ·rw [if_neg (bft ak)] at H
     exact W_skip (am _ _ _ (by repeat first | exact Sub.nil | refine Sub.cons rfl ?_) (an ab 1 _ H hs))
   ·rw [if_neg ar] at H
    refine W_exit (bo _ _ (bj _ _ <| W_seq fun b1 a4 => Wr fun b2 a5 => Om rfl rfl <| O_y rfl (Y_gtr rfl rfl) <| O_nil (a5 _ _ <| W_if rfl (fun al => ?_) (fun al => ?_))))
    ·rw [if_pos al] at H
     refine Wr fun b3 a6 => Oa rfl rfl <| O_nil (a6 _ _ <| W_ret ?_)
     obtain rfl := sinj H
     exact ret1 rfl rfl ⟨rfl, hs⟩
    ·rw [if_neg al] at H
     refine W_skip (a4 _ _ <| Wr fun b4 a7 => Om rfl rfl <| O_y rfl (Y_nilp rfl) <| O_y rfl (Y_field fo184_2 rfl) <| O_y rfl (Yb 0 ag182 hs rfl rfl rfl) <| Om rfl rfl <| Om rfl rfl <| O_mapPut (i := 2) (m := ab) (x := x1) (v := ad) (E := (Value.int .i64)) un182 (KeyK.int un3) trivial (fun _ _ => trivial) hs rfl rfl rfl rfl (fun w hs => O_nil (a7 _ _ <| W.weak [(7, _)] (S1 rfl) <| W_seq fun b5 a8 => W_region ?_)))
     refine Om rfl rfl <| Oa rfl rfl <| O_nil (a8 _ _ <| W_ret ?_)
     obtain rfl := sinj H
     exact ret1 rfl rfl ⟨rfl, hs⟩
theorem book_tree_length_bjo.c (k : Nat) : book_tree_length_bjo.Spec (book_tree_length_bjo.f k) := by
  induction k with
  | zero => intro w0 w ρ Γ pb0 w0_0 y0_0 pm1 y1 pm2 y2 hs x1 g0_0 r H; exact nomatch (show (none : Option _) = some _ from H)
  | succ k ih => intro w0 w ρ Γ pb0 w0_0 y0_0 pm1 y1 pm2 y2 hs x1 g0_0 r H; exact book_tree_length_bjo.cb (book_tree_length_bjo.f k) ih hs g0_0 H

def book_whole.j1 (an : (List (Vector Int 2 × Bool)) → (List (Int × Int)) → Int → Option Int) (aa : Int) (ae : List (Vector Int 2 × Bool)) (af : List (Int × Int)) : Option Int := an ae af (IntKind.i64.wrap (aa + 1))
def book_whole.l1 : Nat → List Chs → (List (Int × Int)) → (List (Vector Int 2 × Bool)) → (List (Int × Int)) → Int → Option Int
  | 0, _, _, _, _, _ => none
  | ah + 1, x0, ab, ac, ag, aa => if aa < (x0.length : Int) then (if (0 : Int) ≤ aa ∧ aa < (x0.length : Int) then ((book_tree_length_bjo.f K0 aa x0 ab ag).bind fun aj => (if aj.1 = 0 then (some aa) else (if (((rd x0 aa).is_).length : Int) = 2 then (if (0 : Int) ≤ 0 ∧ 0 < (((rd x0 aa).is_).length : Int) then (if (0 : Int) ≤ 1 ∧ 1 < (((rd x0 aa).is_).length : Int) then (if ((mget ac (#v[rd ((rd x0 aa).is_) 0, rd ((rd x0 aa).is_) 1])).getD false) = true then (some aa) else (book_whole.j1 (book_whole.l1 ah x0 ab) aa (mput ac (#v[rd ((rd x0 aa).is_) 0, rd ((rd x0 aa).is_) 1]) true) aj.2)) else none) else none) else (book_whole.j1 (book_whole.l1 ah x0 ab) aa ac aj.2)))) else none) else (some (-1))
def book_whole.l2 : Nat → List Chs → (List (Int × Int)) → Int → Option Int
  | 0, _, _, _ => none
  | ai + 1, x0, ab, ad => if ad < (x0.length : Int) then (if (0 : Int) ≤ ad ∧ ad < (x0.length : Int) then ((book_whole.l2 ai x0) (mput ab ((rd x0 ad).lo) ad) (IntKind.i64.wrap (ad + 1))) else none) else (book_whole.l1 K0 x0 ab ([] : List (Vector Int 2 × Bool)) ([] : List (Int × Int)) 0)
def book_whole.f (x0 : List Chs) : Option Int := book_whole.l2 K0 x0 ([] : List (Int × Int)) 0
theorem book_whole.c {w0 w : World} {ρ : Hp} {Γ : List Item} (hs : St w0 ρ (Γ) w) {v0 : Value} {x0 : List Chs} (h0 : SlR rChs ρ v0 x0) {r : Int} (H : book_whole.f x0 = some r) : CallsR Tryz.prog 113 [v0] w (fun v w' => v = .int .i64 r ∧ St w0 ρ Γ w') := by
  rw [book_whole.f] at H
  refine enter Tryz.func113 Tryz.ntmps113 rfl (by kernel_rfl) rfl <| Wr fun di bx => Oa rfl rfl <| O_nil (bx _ _ <| Wr fun dj bz => Om rfl rfl <| O_mapNew (KeyK.int un21).enc (Value.int .i64) hs rfl (fun ak w hs => O_mapNew (KeyK.int un3).enc (Value.int .i64) hs rfl (fun al w hs => O_y rfl (Y_build (cs := [v0, .map (some ak), .map (some al)]) zr184 pl184 ((Parts.cons rfl h0.cellsL (Parts.cons rfl rfl (Parts.cons rfl rfl Parts.nil)))) ag184 (by kernel_rfl)) <| O_boxN (cs := [v0, .map (some ak), .map (some al)]) hs rfl rfl (fun am w hs => Oa rfl rfl <| O_nil (bz _ _ ?_)))))
  refine W_seq fun dk b0 => Wr fun dl b1 => Om rfl rfl <| O_y rfl (Y_lenR un24 h0 rfl) <| Om rfl rfl <| O_nil (b1 _ _ <| W_block fun dm b2 dn => W_loop (σ := Nat × (List (Int × Int)) × Int) (fun (ai, ab, ad) => [(0, v0), (3, .pointer (some ⟨am, 0, none⟩)), (15, v0), (16, .int .i64 (x0.length : Int)), (17, .int .i64 ad)]) (fun (ai, ab, ad) w => book_whole.l2 ai x0 ab ad = some r ∧ St w0 ρ ((.box am 184 ([v0, .map (some ak), .map (some al)])) :: (.obj al (mapObj (KeyK.int un3).enc (vs (Value.int .i64) ([] : List (Int × Int))))) :: (.obj ak (mapObj (KeyK.int un21).enc (vs (Value.int .i64) ab))) :: Γ) w) (fun s => s.1) (K0, ([] : List (Int × Int)), 0) (by repeat first | exact Sub.nil | refine Sub.cons rfl ?_) (Ai H hs) ?_)
  rintro ⟨ai, ab, ad⟩ w dp ⟨H, hs⟩ aq
  show W _ _ _ _ _ _ [(0, v0), (3, .pointer (some ⟨am, 0, none⟩)), (15, v0), (16, .int .i64 (x0.length : Int)), (17, .int .i64 ad)] w
  cases ai with
  | zero => rw [book_whole.l2] at H; cases H
  | succ ai =>
  rw [book_whole.l2] at H
  refine Wr fun dq b3 => O_y rfl (Y_lss rfl rfl) <| O_nil (b3 _ _ <| W_seq fun dr b4 => W_if rfl (fun a4 => ?_) (fun a4 => ?_))
  ·rw [if_pos a4] at H
   refine W_skip (b4 _ _ <| W_seq fun ds b5 => W_block fun dt du dv => Wr fun dw b6 => Om rfl rfl ?_)
   obtain ⟨bv, H⟩ := gd H
   obtain ⟨dx, dy, b7, b8⟩ := h0.ix el24 bv.1 bv.2
   obtain ⟨_, ⟨b9, rfl, ca⟩, cb⟩ := b7
   refine O_y rfl (b8 rfl rfl) <| O_y rfl (Y_loadN ag110 sz110 rfl rfl (fun j u hu => hs.see (cb j u hu))) <| O_alloc zr110 hs rfl (fun cc w hs => Oa rfl rfl <| O_storeN (i := 0) sz110 hs rfl rfl rfl rfl rfl (one_cons rfl (one_cons rfl (one_cons ca.one one_nil))) (fun w hs => O_nil (b6 _ _ <| W_drawS 8 [0, 1, 2, 4, 0, 16, 0, 127] [124, 120, 112, 112, 79, 79, 63, 0] [0, 1, 3, 7, 0, 16, 0, 127] [7] (fun w => St w0 ρ ((.box cc 110 ([.int .i32 ((rd x0 ad).lo), .int .i32 ((rd x0 ad).hi), b9])) :: (.box am 184 ([v0, .map (some ak), .map (some al)])) :: (.obj al (mapObj (KeyK.int un3).enc (vs (Value.int .i64) ([] : List (Int × Int))))) :: (.obj ak (mapObj (KeyK.int un21).enc (vs (Value.int .i64) ab))) :: Γ) w) mixed (by kernel_rfl) (fun sh => ?_))))
   have hs := hs.drew
   refine Dm 0 sh rfl rfl (by kernel_rfl) rfl <| Dp 1 sh rfl rfl (by kernel_rfl) (fun w => Y_nilp rfl) <| Dp 2 sh rfl rfl (by kernel_rfl) (fun w => Y_field fo184_1 rfl) <| Dy 3 sh rfl rfl (by kernel_rfl) hs (fun w hs => Yb 1 ag181 hs rfl rfl rfl) <| Dp 4 sh rfl rfl (by kernel_rfl) (fun w => Y_field fo110_0 rfl) <| Dy 5 sh rfl rfl (by kernel_rfl) hs (fun w hs => Yb 0 ag21 hs rfl rfl rfl) <| Dm 6 sh rfl rfl (by kernel_rfl) rfl <| D1 7 sh rfl (by kernel_rfl) (fun dz cd => O_mapPut (i := 3) (m := ab) (x := (rd x0 ad).lo) (v := ad) (E := (Value.int .i64)) un181 (KeyK.int un21) trivial (fun _ _ => trivial) hs rfl rfl rfl rfl (fun w hs => O_nil (cd _ _ (fun h _ => absurd h (by decide)) <| OD_doneS sh (by kernel_rfl) (b5 _ _ <| W.weak [(0, _), (3, _), (15, _), (16, _), (17, _)] (by repeat first | exact Sub.nil | refine Sub.cons rfl ?_) ?_))))
   refine W_region <| O_y rfl (Y_add rfl rfl) <| Om rfl rfl <| O_nil (aq (ai, (mput ab ((rd x0 ad).lo) ad), (IntKind.i64.wrap (ad + 1))) _ _ (by repeat first | exact Sub.nil | refine Sub.cons rfl ?_) (Ai H (hs.sub (ssk (ssc (ssc (ssc ssr)))))) (Nat.lt_succ_self _))
  ·rw [if_neg a4] at H
   refine W_exit (b2 _ _ (b0 _ _ <| Wr fun ea ce => O_mapNew kv115.enc Value.bool hs rfl (fun ax w hs => Oa rfl rfl <| O_nil (ce _ _ <| W_seq fun eb cf => Wr fun ec cg => Om rfl rfl <| O_y rfl (Y_lenR un24 h0 rfl) <| Om rfl rfl <| O_nil (cg _ _ <| W_block fun ed a5 ch => ?_)))))
   refine W_loop (σ := Nat × (List (Vector Int 2 × Bool)) × (List (Int × Int)) × Int) (fun (ah, ac, ag, aa) => [(3, .pointer (some ⟨am, 0, none⟩)), (6, .map (some ax)), (31, v0), (32, .int .i64 (x0.length : Int)), (33, .int .i64 aa)]) (fun (ah, ac, ag, aa) w => book_whole.l1 ah x0 ab ac ag aa = some r ∧ St w0 ρ ((.obj ax (mapObj kv115.enc (vs Value.bool ac))) :: (.box am 184 ([v0, .map (some ak), .map (some al)])) :: (.obj al (mapObj (KeyK.int un3).enc (vs (Value.int .i64) ag))) :: (.obj ak (mapObj (KeyK.int un21).enc (vs (Value.int .i64) ab))) :: Γ) w) (fun s => s.1) (K0, ([] : List (Vector Int 2 × Bool)), ([] : List (Int × Int)), 0) (by repeat first | exact Sub.nil | refine Sub.cons rfl ?_) (Ai H hs) ?_
   rintro ⟨ah, ac, ag, aa⟩ w ci ⟨H, hs⟩ ao
   show W _ _ _ _ _ _ [(3, .pointer (some ⟨am, 0, none⟩)), (6, .map (some ax)), (31, v0), (32, .int .i64 (x0.length : Int)), (33, .int .i64 aa)] w
   cases ah with
   | zero => rw [book_whole.l1] at H; cases H
   | succ ah =>
   rw [book_whole.l1] at H
   refine Wr fun cj a6 => O_y rfl (Y_lss rfl rfl) <| O_nil (a6 _ _ <| W_seq fun ck a7 => W_if rfl (fun ar => ?_) (fun ar => ?_))
   ·rw [if_pos ar] at H
    refine W_skip (a7 _ _ <| W_seqj fun a8 a9 ay => ?_)
    have az : ∀ (ae : List (Vector Int 2 × Bool)) (af : List (Int × Int)) (w : World), book_whole.j1 (book_whole.l1 ah x0 ab) aa ae af = some r → St w0 ρ ((.obj ax (mapObj kv115.enc (vs Value.bool ae))) :: (.box am 184 ([v0, .map (some ak), .map (some al)])) :: (.obj al (mapObj (KeyK.int un3).enc (vs (Value.int .i64) af))) :: (.obj ak (mapObj (KeyK.int un21).enc (vs (Value.int .i64) ab))) :: Γ) w → a8 [(3, .pointer (some ⟨am, 0, none⟩)), (6, .map (some ax)), (31, v0), (32, .int .i64 (x0.length : Int)), (33, .int .i64 aa)] w := by
     intro ae af w H hs
     rw [book_whole.j1] at H
     refine a9 _ _ <| W_region <| O_y rfl (Y_add rfl rfl) <| Om rfl rfl <| O_nil (ao (ah, ae, af, (IntKind.i64.wrap (aa + 1))) _ _ (by repeat first | exact Sub.nil | refine Sub.cons rfl ?_) (Ai H hs) (Nat.lt_succ_self _))
    refine W_block fun cl cm cn => Wr fun co ba => Om rfl rfl ?_
    obtain ⟨a0, H⟩ := gd H
    obtain ⟨cp, cq, bb, bc⟩ := h0.ix el24 a0.1 a0.2
    obtain ⟨_, ⟨bd, rfl, ap⟩, be⟩ := bb
    refine O_y rfl (bc rfl rfl) <| O_y rfl (Y_loadN ag110 sz110 rfl rfl (fun j u hu => hs.see (be j u hu))) <| O_alloc zr110 hs rfl (fun bf w hs => Oa rfl rfl <| O_storeN (i := 0) sz110 hs rfl rfl rfl rfl rfl (one_cons rfl (one_cons rfl (one_cons ap.one one_nil))) (fun w hs => O_nil (ba _ _ <| W_seq fun cr bg => Wr fun ct bh => Om rfl rfl <| Om rfl rfl ?_)))
    have hs := hs.front 3 rfl
    have hs := hs.front 4 rfl
    have hs := hs.front 4 rfl
    obtain ⟨aj, a1, H⟩ := bnd H
    refine O_call rfl rfl ((book_tree_length_bjo.c K0) hs h0 a1) (fun cu w hpost => ?_)
    obtain ⟨rfl, hs⟩ := hpost
    have hs := hs.sink 4
    have hs := hs.sink 4
    have hs := hs.sink 3
    refine O_y rfl (Y_eql rfl rfl) <| O_nil (bh _ _ <| W.weak [(3, _), (6, _), (7, _), (8, _), (31, _), (32, _), (33, _), (41, _)] (by repeat first | exact Sub.nil | refine Sub.cons rfl ?_) ?_)
    refine W_if rfl (fun au => ?_) (fun au => ?_)
    ·rw [if_pos au] at H
     refine Wr fun cv bi => Om rfl rfl <| Oa rfl rfl <| O_nil (bi _ _ <| W_ret ?_)
     obtain rfl := sinj H
     exact ret1 rfl rfl ⟨rfl, (hs.sub (ssk (ssk (ssk (ssk (ssk ssr))))))⟩
    ·rw [if_neg au] at H
     refine W_skip (bg _ _ <| Wr fun cw bj => O_y rfl (Y_field fo110_2 rfl) <| O_y rfl (Yb 0 ag28 hs rfl rfl rfl) <| O_y rfl (Y_lenR un28 ap rfl) <| O_y rfl (Y_eql rfl rfl) <| O_nil (bj _ _ <| W_if rfl (fun av => ?_) (fun av => ?_)))
     ·rw [if_pos av] at H
      refine W_seq fun cx bk => W_drawS 11 [0, 1, 2, 4, 0, 16, 32, 64, 136, 0, 1023] [1020, 1016, 1008, 752, 975, 911, 783, 527, 512, 511, 0] [0, 1, 3, 7, 0, 16, 48, 112, 255, 0, 1023] [10] (fun w => St w0 ρ ((.box bf 110 ([.int .i32 ((rd x0 aa).lo), .int .i32 ((rd x0 aa).hi), bd])) :: (.obj ax (mapObj kv115.enc (vs Value.bool ac))) :: (.box am 184 ([v0, .map (some ak), .map (some al)])) :: (.obj al (mapObj (KeyK.int un3).enc (vs (Value.int .i64) aj.2))) :: (.obj ak (mapObj (KeyK.int un21).enc (vs (Value.int .i64) ab))) :: Γ) w) mixed (by kernel_rfl) (fun sh => ?_)
      have hs := hs.drew
      refine Dp 0 sh rfl rfl (by kernel_rfl) (fun w => Y_field fo110_2 rfl) <| Dy 1 sh rfl rfl (by kernel_rfl) hs (fun w hs => Yb 0 ag28 hs rfl rfl rfl) ?_
      obtain ⟨a2, H⟩ := gd H
      obtain ⟨cy, cz, bl, bm⟩ := ap.ix el28 a2.1 a2.2
      refine Dp 2 sh rfl rfl (by kernel_rfl) (fun w => bm rfl rfl) <| Dy 3 sh rfl rfl (by kernel_rfl) hs (fun w hs => Y_load ag21 rfl (hs.see bl.int)) <| Dp 4 sh rfl rfl (by kernel_rfl) (fun w => Y_field fo110_2 rfl) <| Dy 5 sh rfl rfl (by kernel_rfl) hs (fun w hs => Yb 0 ag28 hs rfl rfl rfl) ?_
      obtain ⟨a3, H⟩ := gd H
      obtain ⟨da, db, bn, bo⟩ := ap.ix el28 a3.1 a3.2
      refine Dp 6 sh rfl rfl (by kernel_rfl) (fun w => bo rfl rfl) <| Dy 7 sh rfl rfl (by kernel_rfl) hs (fun w hs => Y_load ag21 rfl (hs.see bn.int)) <| Dp 8 sh rfl rfl (by kernel_rfl) (fun w => Y_buildArr (xs := [.tmp 50, .tmp 54]) (zs := vcs (Value.int .i32) #v[rd ((rd x0 aa).is_) 0, rd ((rd x0 aa).is_) 1]) un115 sz21 zl115 rfl rfl rfl (sz1_cons rfl (sz1_cons rfl sz1_nil)) rfl) <| D1 9 sh rfl (by kernel_rfl) (fun dc bp => O_alloc zr115 hs rfl (fun bw w hs => O_nil (bp _ _ (fun _ _ => (hs.sub (ssk (ssc (ssc (ssc (ssc (ssc ssr)))))))) <| D1 10 sh rfl (by kernel_rfl) (fun dd bq => O_storeArr (j := 0) (u := #v[rd ((rd x0 aa).is_) 0, rd ((rd x0 aa).is_) 1]) sz115 (one_int .i32) hs rfl rfl rfl (fun w hs => O_nil (bq _ _ (fun h _ => absurd h (by decide)) <| OD_doneS sh (by kernel_rfl) (bk _ _ <| W.weak [(3, _), (6, _), (7, _), (9, _), (31, _), (32, _), (33, _)] (by repeat first | exact Sub.nil | refine Sub.cons rfl ?_) ?_)))))))
      refine W_seq fun de br => Wr fun df bs => Om rfl rfl <| O_y rfl (Y_loadArr (j := 0) ag115 sz115 hs rfl rfl) <| O_y rfl (Y_mapGet1 (i := 2) (m := ac) (x := #v[rd ((rd x0 aa).is_) 0, rd ((rd x0 aa).is_) 1]) (E := Value.bool) un185 kv115 trivial (fun _ _ => trivial) zv4 hs rfl rfl rfl) <| O_nil (bs _ _ <| W_cond rfl (fun aw => ?_) (fun aw => ?_))
      ·rw [if_pos aw] at H
       refine Wr fun dg bt => Om rfl rfl <| Oa rfl rfl <| O_nil (bt _ _ <| W_ret ?_)
       obtain rfl := sinj H
       exact ret1 rfl rfl ⟨rfl, (hs.sub (ssk (ssk (ssk (ssk (ssk (ssk ssr)))))))⟩
      ·rw [if_neg (bft aw)] at H
       refine W_skip (br _ _ <| W_region <| Om rfl rfl <| O_y rfl (Y_loadArr (j := 0) ag115 sz115 hs rfl rfl) <| O_mapPut (i := 2) (m := ac) (x := #v[rd ((rd x0 aa).is_) 0, rd ((rd x0 aa).is_) 1]) (v := true) (E := Value.bool) un185 kv115 trivial (fun _ _ => trivial) hs rfl rfl rfl rfl (fun w hs => O_nil (ay _ _ _ (by repeat first | exact Sub.nil | refine Sub.cons rfl ?_) (az (mput ac (#v[rd ((rd x0 aa).is_) 0, rd ((rd x0 aa).is_) 1]) true) aj.2 _ H (hs.sub (ssk (ssk (ssc (ssc (ssc (ssc ssr)))))))))))
     ·rw [if_neg av] at H
      exact W_skip (ay _ _ _ (by repeat first | exact Sub.nil | refine Sub.cons rfl ?_) (az ac aj.2 _ H (hs.sub (ssk (ssc (ssc (ssc (ssc ssr))))))))
   ·rw [if_neg ar] at H
    refine W_exit (a5 _ _ (cf _ _ <| Wr fun dh bu => Oa rfl rfl <| O_nil (bu _ _ <| W_ret ?_)))
    obtain rfl := sinj H
    exact ret1 rfl rfl ⟨rfl, (hs.sub (ssk (ssk (ssk (ssk ssr)))))⟩

def book_Check_15_mae.f (y0_0 : List ByteArray) (y0_1 : List Val) (y0_2 : List Chs) (y0_3 : List Val) (y0_4 : List Chs) (y0_5 : List Spn) (y0_6 y0_7 : List Val) (y0_8 : List Spn) (y0_9 : List Val) (y0_10 : List Chs) : Option Int := (book_whole.f y0_4).bind fun ab => (some ab)
theorem book_Check_15_mae.c {w0 w : World} {ρ : Hp} {Γ : List Item} {pb0 : Nat} {w0_0 : Value} {y0_0 : List ByteArray} {w0_1 : Value} {y0_1 : List Val} {w0_2 : Value} {y0_2 : List Chs} {w0_3 : Value} {y0_3 : List Val} {w0_4 : Value} {y0_4 : List Chs} {w0_5 : Value} {y0_5 : List Spn} {w0_6 : Value} {y0_6 : List Val} {w0_7 : Value} {y0_7 : List Val} {w0_8 : Value} {y0_8 : List Spn} {w0_9 : Value} {y0_9 : List Val} {w0_10 : Value} {y0_10 : List Chs} (hs : St w0 ρ ((.box pb0 27 ([w0_0, w0_1, w0_2, w0_3, w0_4, w0_5, w0_6, w0_7, w0_8, w0_9, w0_10])) :: Γ) w) (g0_0 : SlR Rep.str ρ w0_0 y0_0) (g0_1 : SlR rVal ρ w0_1 y0_1) (g0_2 : SlR rChs ρ w0_2 y0_2) (g0_3 : SlR rVal ρ w0_3 y0_3) (g0_4 : SlR rChs ρ w0_4 y0_4) (g0_5 : SlR rSpn ρ w0_5 y0_5) (g0_6 : SlR rVal ρ w0_6 y0_6) (g0_7 : SlR rVal ρ w0_7 y0_7) (g0_8 : SlR rSpn ρ w0_8 y0_8) (g0_9 : SlR rVal ρ w0_9 y0_9) (g0_10 : SlR rChs ρ w0_10 y0_10) {r : Int} (H : book_Check_15_mae.f y0_0 y0_1 y0_2 y0_3 y0_4 y0_5 y0_6 y0_7 y0_8 y0_9 y0_10 = some r) : CallsR Tryz.prog 112 [.pointer (some ⟨pb0, 0, none⟩)] w (fun v w' => v = .int .i64 r ∧ St w0 ρ ((.box pb0 27 ([w0_0, w0_1, w0_2, w0_3, w0_4, w0_5, w0_6, w0_7, w0_8, w0_9, w0_10])) :: Γ) w') := by
  rw [book_Check_15_mae.f] at H
  refine enter Tryz.func112 Tryz.ntmps112 rfl (by kernel_rfl) rfl <| Wr fun ae ac => Oa rfl rfl <| O_nil (ac _ _ <| Wr fun af ad => O_y rfl (Y_field fo27_4 rfl) <| O_y rfl (Yb 0 ag24 hs rfl rfl rfl) ?_)
  obtain ⟨ab, aa, H⟩ := bnd H
  refine O_call rfl rfl (book_whole.c hs g0_4 aa) (fun ag w hpost => ?_)
  obtain ⟨rfl, hs⟩ := hpost
  refine Oa rfl rfl <| O_nil (ad _ _ <| W_ret ?_)
  obtain rfl := sinj H
  exact ret1 rfl rfl ⟨rfl, hs⟩

end Go.Proofs.YthoicbafdanmkaaGreatDoor
/- Written by this repo's gen.py: for each Go function a Lean function with the same answers and the walk that shows it. -/
namespace Go.Proofs.YthoicbafdanmkaaGreatDoor
open Go.RowKit
set_option maxRecDepth 100000
set_option maxHeartbeats 4000000
set_option linter.unusedVariables false
def book_Check.f (x0 : Bk) : Option (Wh × Int) := (book_Check_4_mae.f x0.names x0.status x0.maps x0.class_ x0.decomp x0.excl x0.bidi x0.join x0.marks x0.script x0.like).bind fun bc => (if 0 ≤ bc then (some ((⟨1, bc⟩ : Wh), 100)) else ((book_Check_5_ion.f x0.names x0.status x0.maps x0.class_ x0.decomp x0.excl x0.bidi x0.join x0.marks x0.script x0.like).bind fun bd => (if 0 ≤ bd then (some ((⟨2, bd⟩ : Wh), 100)) else ((book_Check_6_mae.f x0.names x0.status x0.maps x0.class_ x0.decomp x0.excl x0.bidi x0.join x0.marks x0.script x0.like).bind fun be => (if 0 ≤ be then (some ((⟨3, be⟩ : Wh), 100)) else ((book_Check_7_hpj.f x0.names x0.status x0.maps x0.class_ x0.decomp x0.excl x0.bidi x0.join x0.marks x0.script x0.like).bind fun bf => (if 0 ≤ bf then (some ((⟨4, bf⟩ : Wh), 100)) else ((book_Check_8_hpj.f x0.names x0.status x0.maps x0.class_ x0.decomp x0.excl x0.bidi x0.join x0.marks x0.script x0.like).bind fun bg => (if 0 ≤ bg then (some ((⟨5, bg⟩ : Wh), 100)) else ((book_Check_9_hpj.f x0.names x0.status x0.maps x0.class_ x0.decomp x0.excl x0.bidi x0.join x0.marks x0.script x0.like).bind fun bh => (if 0 ≤ bh then (some ((⟨6, bh⟩ : Wh), 100)) else ((book_Check_10_ion.f x0.names x0.status x0.maps x0.class_ x0.decomp x0.excl x0.bidi x0.join x0.marks x0.script x0.like).bind fun bi => (if 0 ≤ bi then (some ((⟨7, bi⟩ : Wh), 100)) else ((book_Check_11_ion.f x0.names x0.status x0.maps x0.class_ x0.decomp x0.excl x0.bidi x0.join x0.marks x0.script x0.like).bind fun bj => (if 0 ≤ bj then (some ((⟨8, bj⟩ : Wh), 100)) else ((book_Check_12_ion.f x0.names x0.status x0.maps x0.class_ x0.decomp x0.excl x0.bidi x0.join x0.marks x0.script x0.like).bind fun bk => (if 0 ≤ bk then (some ((⟨9, bk⟩ : Wh), 100)) else ((book_Check_13_ion.f x0.names x0.status x0.maps x0.class_ x0.decomp x0.excl x0.bidi x0.join x0.marks x0.script x0.like).bind fun bl => (if 0 ≤ bl then (some ((⟨10, bl⟩ : Wh), 100)) else ((book_Check_14_gdi.f x0.names x0.status x0.maps x0.class_ x0.decomp x0.excl x0.bidi x0.join x0.marks x0.script x0.like).bind fun bm => (if 0 ≤ bm then (some ((⟨11, bm⟩ : Wh), 100)) else ((book_Check_15_mae.f x0.names x0.status x0.maps x0.class_ x0.decomp x0.excl x0.bidi x0.join x0.marks x0.script x0.like).bind fun bn => (if 0 ≤ bn then (some ((⟨5, bn⟩ : Wh), 100)) else (some ((⟨0, 0⟩ : Wh), 0)))))))))))))))))))))))))
theorem book_Check.c {w0 w : World} {ρ : Hp} {Γ : List Item} (hs : St w0 ρ (Γ) w) {c0 : List Value} {x0 : Bk} (h0 : rBk.R ρ c0 x0) {r : Wh × Int} (H : book_Check.f x0 = some r) : CallsR Tryz.prog 60 [.agg c0.toArray] w (fun v w' => ∃ (ρ' : Hp) (cs0 : List Value), v = .tuple #[.agg cs0.toArray, .int .i64 r.2] ∧ Le ρ ρ' ∧ St w0 ρ' (Γ) w' ∧ rWh.R ρ' cs0 r.1) := by
  rw [book_Check.f] at H
  refine enter Tryz.func60 Tryz.ntmps60 rfl (by kernel_rfl) rfl ?_
  have ge := h0
  obtain ⟨ak, al, am, an, ao, ap, aq, ar, au, av, aw, rfl, ay, az, a0, a1, a2, a3, a4, a5, a6, a7, a8⟩ := ge
  refine Wr fun l4 gf => O_boxN (cs := [ak, al, am, an, ao, ap, aq, ar, au, av, aw]) hs rfl rfl (fun aa w hs => O_alloc zr100 hs rfl (fun a9 w hs => Oa rfl rfl <| O_nil (gf _ _ <| Wr fun l5 gg => O_alloc zr133 hs rfl (fun ab w hs => O_store (i := 0) sz133 hs rfl rfl rfl rfl rfl (fun w hs => O_nil (gg _ _ <| Wr fun l6 gh => O_alloc zr133 hs rfl (fun ac w hs => ?_)))))))
  refine O_store (i := 0) sz133 hs rfl rfl rfl rfl rfl (fun w hs => O_nil (gh _ _ <| Wr fun l7 gi => O_alloc zr135 hs rfl (fun ad w hs => O_store (i := 0) sz135 hs rfl rfl rfl rfl rfl (fun w hs => O_nil (gi _ _ <| Wr fun l8 gj => O_y rfl (Y_func rfl) <| O_y rfl (Y_build (cs := [.int .i64 1, .func (.func 92) #[] #[.pointer (some ⟨aa, 0, none⟩)]]) zr137 pl137 ((Parts.cons rfl rfl (Parts.cons rfl rfl Parts.nil))) ag137 (by kernel_rfl)) <| O_y rfl (Y_func rfl) <| O_y rfl (Y_build (cs := [.int .i64 2, .func (.func 94) #[] #[.pointer (some ⟨aa, 0, none⟩), .pointer (some ⟨ab, 0, none⟩)]]) zr137 pl137 ((Parts.cons rfl rfl (Parts.cons rfl rfl Parts.nil))) ag137 (by kernel_rfl)) <| O_y rfl (Y_func rfl) ?_)))))
  refine O_y rfl (Y_build (cs := [.int .i64 3, .func (.func 96) #[] #[.pointer (some ⟨aa, 0, none⟩)]]) zr137 pl137 ((Parts.cons rfl rfl (Parts.cons rfl rfl Parts.nil))) ag137 (by kernel_rfl)) <| O_y rfl (Y_func rfl) <| O_y rfl (Y_build (cs := [.int .i64 4, .func (.func 98) #[] #[.pointer (some ⟨aa, 0, none⟩), .pointer (some ⟨ac, 0, none⟩)]]) zr137 pl137 ((Parts.cons rfl rfl (Parts.cons rfl rfl Parts.nil))) ag137 (by kernel_rfl)) <| O_y rfl (Y_func rfl) <| O_y rfl (Y_build (cs := [.int .i64 5, .func (.func 99) #[] #[.pointer (some ⟨aa, 0, none⟩), .pointer (some ⟨ac, 0, none⟩)]]) zr137 pl137 ((Parts.cons rfl rfl (Parts.cons rfl rfl Parts.nil))) ag137 (by kernel_rfl)) <| O_y rfl (Y_func rfl) <| O_y rfl (Y_build (cs := [.int .i64 6, .func (.func 102) #[] #[.pointer (some ⟨aa, 0, none⟩), .pointer (some ⟨ac, 0, none⟩)]]) zr137 pl137 ((Parts.cons rfl rfl (Parts.cons rfl rfl Parts.nil))) ag137 (by kernel_rfl)) <| O_y rfl (Y_func rfl) <| O_y rfl (Y_build (cs := [.int .i64 7, .func (.func 105) #[] #[.pointer (some ⟨aa, 0, none⟩), .pointer (some ⟨ab, 0, none⟩)]]) zr137 pl137 ((Parts.cons rfl rfl (Parts.cons rfl rfl Parts.nil))) ag137 (by kernel_rfl)) <| O_y rfl (Y_func rfl) <| O_y rfl (Y_build (cs := [.int .i64 8, .func (.func 107) #[] #[.pointer (some ⟨aa, 0, none⟩), .pointer (some ⟨ab, 0, none⟩)]]) zr137 pl137 ((Parts.cons rfl rfl (Parts.cons rfl rfl Parts.nil))) ag137 (by kernel_rfl)) <| O_y rfl (Y_func rfl) <| O_y rfl (Y_build (cs := [.int .i64 9, .func (.func 109) #[] #[.pointer (some ⟨aa, 0, none⟩), .pointer (some ⟨ab, 0, none⟩)]]) zr137 pl137 ((Parts.cons rfl rfl (Parts.cons rfl rfl Parts.nil))) ag137 (by kernel_rfl)) <| O_y rfl (Y_func rfl) ?_
  refine O_y rfl (Y_build (cs := [.int .i64 10, .func (.func 110) #[] #[.pointer (some ⟨aa, 0, none⟩), .pointer (some ⟨ab, 0, none⟩)]]) zr137 pl137 ((Parts.cons rfl rfl (Parts.cons rfl rfl Parts.nil))) ag137 (by kernel_rfl)) <| O_y rfl (Y_func rfl) <| O_y rfl (Y_build (cs := [.int .i64 11, .func (.func 111) #[] #[.pointer (some ⟨aa, 0, none⟩), .pointer (some ⟨ad, 0, none⟩)]]) zr137 pl137 ((Parts.cons rfl rfl (Parts.cons rfl rfl Parts.nil))) ag137 (by kernel_rfl)) <| O_y rfl (Y_func rfl) <| O_y rfl (Y_build (cs := [.int .i64 5, .func (.func 112) #[] #[.pointer (some ⟨aa, 0, none⟩)]]) zr137 pl137 ((Parts.cons rfl rfl (Parts.cons rfl rfl Parts.nil))) ag137 (by kernel_rfl)) <| O_lit (xs := [.tmp 12, .tmp 14, .tmp 16, .tmp 18, .tmp 20, .tmp 22, .tmp 24, .tmp 26, .tmp 28, .tmp 30, .tmp 32, .tmp 34]) el145 hs rfl rfl rfl (by decide) (by decide) rfl (sz_cons rfl (sz_cons rfl (sz_cons rfl (sz_cons rfl (sz_cons rfl (sz_cons rfl (sz_cons rfl (sz_cons rfl (sz_cons rfl (sz_cons rfl (sz_cons rfl (sz_cons rfl sz_nil)))))))))))) (fun ba w hs => Oa rfl rfl <| O_nil (gj _ _ <| W.weak [(2, _), (7, _)] (S2 rfl rfl) <| W_seq fun l9 gk => Wr fun ma gl => Om rfl rfl <| O_y rfl (Y_lenRow (i := 0) un145 hs rfl rfl) ?_))
  refine Om rfl rfl <| O_nil (gl _ _ <| W_block fun mb gm mc => W_unr <| WL_round fun md gn => Wr fun go ct => O_y rfl (Y_to (v' := .bool true) (Y_lss rfl rfl) (by kernel_rfl)) <| O_nil (ct _ _ <| W_seq fun gp cu => W_true rfl <| W_skip (cu _ _ <| W_seq fun gq cv => W_block fun gr gs gt => ?_)))
  refine W_seq fun gu cw => W_region ?_
  obtain ⟨gv, bp⟩ := hs.rowBlock (j := 0) rfl (by decide)
  refine O_y rfl (Y_ixRow (j := 0) el145 hs rfl bp rfl rfl (by decide) (by decide)) <| O_y rfl (Y_loadN ag137 sz137 rfl rfl (fun j u hu => hs.rowCell (j := 0) rfl bp ((get_part (o := 0) (k := 2) rfl) j u hu))) <| O_alloc zr137 hs rfl (fun ae w hs => O_storeN (i := 0) sz137 hs rfl rfl rfl rfl rfl (one_cons rfl (one_cons rfl one_nil)) (fun w hs => O_nil (cw _ _ <| Wr fun gw cx => O_y rfl (Y_field fo137_1 rfl) <| O_y rfl (Yb 0 ag136 hs rfl rfl rfl) ?_)))
  have hs := hs.front 6 rfl
  obtain ⟨bc, cf, H⟩ := bnd H
  refine O_callv rfl rfl rfl (book_Check_4_mae.c hs ay az a0 a1 a2 a3 a4 a5 a6 a7 a8 cf) (fun gx w hpost => ?_)
  obtain ⟨rfl, hs⟩ := hpost
  have hs := hs.sink 6
  refine Oa rfl rfl <| O_nil (cx _ _ <| Wr fun gy cy => Om rfl rfl <| O_y rfl (Y_geq rfl rfl) <| O_nil (cy _ _ <| W.weak [(2, _), (9, _), (10, _), (36, _), (37, _), (38, _), (46, _)] (by repeat first | exact Sub.nil | refine Sub.cons rfl ?_) ?_))
  refine W_if rfl (fun b2 => ?_) (fun b2 => ?_)
  ·rw [if_pos b2] at H
   refine Wr fun gz cz => O_y rfl (Y_field fo137_0 rfl) <| O_y rfl (Yb 0 ag3 hs rfl rfl rfl) <| Om rfl rfl <| O_y rfl (Y_build (cs := [.int .i64 1, .int .i64 bc]) zr100 pl100 ((Parts.cons rfl rfl (Parts.cons rfl rfl Parts.nil))) ag100 (by kernel_rfl)) <| O_storeN (i := 5) sz100 hs rfl rfl rfl rfl rfl (one_cons rfl (one_cons rfl one_nil)) (fun w hs => Oa rfl rfl <| O_nil (cz _ _ <| W_ret ?_))
   obtain rfl := sinj H
   exact retc1 (i := 5) rfl rfl rfl ag100 sz100 hs rfl rfl ⟨_, _, rfl, Le.rfl' _, (hs.sub (ssk (ssk (ssk (ssk (ssk (ssk (ssk ssr)))))))), rfl⟩
  ·rw [if_neg b2] at H
   refine W_skip (cv _ _ <| W_region <| O_y rfl (Y_to (v' := .int .i64 1) (Y_add rfl rfl) (by kernel_rfl)) <| Om rfl rfl <| O_nil (gn _ _ <| WL.weak [(2, _), (36, _), (37, _), (38, _)] (S4 rfl rfl rfl rfl) ?_))
   have hs : St w0 ρ ((.box ae 137 ([.int .i64 1, .func (.func 92) #[] #[.pointer (some ⟨aa, 0, none⟩)]])) :: (.row (.slice (some ⟨ba, 0, none⟩) 12 12) 137 2 12 [.int .i64 1, .func (.func 92) #[] #[.pointer (some ⟨aa, 0, none⟩)], .int .i64 2, .func (.func 94) #[] #[.pointer (some ⟨aa, 0, none⟩), .pointer (some ⟨ab, 0, none⟩)], .int .i64 3, .func (.func 96) #[] #[.pointer (some ⟨aa, 0, none⟩)], .int .i64 4, .func (.func 98) #[] #[.pointer (some ⟨aa, 0, none⟩), .pointer (some ⟨ac, 0, none⟩)], .int .i64 5, .func (.func 99) #[] #[.pointer (some ⟨aa, 0, none⟩), .pointer (some ⟨ac, 0, none⟩)], .int .i64 6, .func (.func 102) #[] #[.pointer (some ⟨aa, 0, none⟩), .pointer (some ⟨ac, 0, none⟩)], .int .i64 7, .func (.func 105) #[] #[.pointer (some ⟨aa, 0, none⟩), .pointer (some ⟨ab, 0, none⟩)], .int .i64 8, .func (.func 107) #[] #[.pointer (some ⟨aa, 0, none⟩), .pointer (some ⟨ab, 0, none⟩)], .int .i64 9, .func (.func 109) #[] #[.pointer (some ⟨aa, 0, none⟩), .pointer (some ⟨ab, 0, none⟩)], .int .i64 10, .func (.func 110) #[] #[.pointer (some ⟨aa, 0, none⟩), .pointer (some ⟨ab, 0, none⟩)], .int .i64 11, .func (.func 111) #[] #[.pointer (some ⟨aa, 0, none⟩), .pointer (some ⟨ad, 0, none⟩)], .int .i64 5, .func (.func 112) #[] #[.pointer (some ⟨aa, 0, none⟩)]]) :: (.box ad 135 ([.func (.func 90) #[] #[]])) :: (.box ac 133 ([.func (.func 88) #[] #[]])) :: (.box ab 133 ([.func (.func 87) #[] #[]])) :: (.box a9 100 ([.int .i64 0, .int .i64 0])) :: (.box aa 27 ([ak, al, am, an, ao, ap, aq, ar, au, av, aw])) :: Γ) w := hs
   refine WL_round fun ha da => Wr fun hb db => O_y rfl (Y_to (v' := .bool true) (Y_lss rfl rfl) (by kernel_rfl)) <| O_nil (db _ _ <| W_seq fun hc dc => W_true rfl <| W_skip (dc _ _ <| W_seq fun hd dd => W_block fun he hf hg => W_seq fun hh de => W_region ?_))
   obtain ⟨hi, bq⟩ := hs.rowBlock (j := 1) rfl (by decide)
   refine O_y rfl (Y_ixRow (j := 1) el145 hs rfl bq rfl rfl (by decide) (by decide)) <| O_y rfl (Y_loadN ag137 sz137 rfl rfl (fun j u hu => hs.rowCell (j := 1) rfl bq ((get_part (o := 2) (k := 2) rfl) j u hu))) <| O_alloc zr137 hs rfl (fun af w hs => O_storeN (i := 0) sz137 hs rfl rfl rfl rfl rfl (one_cons rfl (one_cons rfl one_nil)) (fun w hs => O_nil (de _ _ <| Wr fun hj df => O_y rfl (Y_field fo137_1 rfl) <| O_y rfl (Yb 0 ag136 hs rfl rfl rfl) ?_)))
   have hs := hs.front 5 rfl
   have hs := hs.front 7 rfl
   obtain ⟨bd, cg, H⟩ := bnd H
   refine O_callv rfl rfl rfl (book_Check_5_ion.c hs ay az a0 a1 a2 a3 a4 a5 a6 a7 a8 cg) (fun hk w hpost => ?_)
   obtain ⟨rfl, hs⟩ := hpost
   have hs := hs.sink 7
   have hs := hs.sink 5
   refine Oa rfl rfl <| O_nil (df _ _ <| Wr fun hl dg => Om rfl rfl <| O_y rfl (Y_geq rfl rfl) <| O_nil (dg _ _ <| W_if rfl (fun b3 => ?_) (fun b3 => ?_)))
   ·rw [if_pos b3] at H
    refine Wr fun hm dh => O_y rfl (Y_field fo137_0 rfl) <| O_y rfl (Yb 0 ag3 hs rfl rfl rfl) <| Om rfl rfl <| O_y rfl (Y_build (cs := [.int .i64 2, .int .i64 bd]) zr100 pl100 ((Parts.cons rfl rfl (Parts.cons rfl rfl Parts.nil))) ag100 (by kernel_rfl)) <| O_storeN (i := 6) sz100 hs rfl rfl rfl rfl rfl (one_cons rfl (one_cons rfl one_nil)) (fun w hs => Oa rfl rfl <| O_nil (dh _ _ <| W.weak [(2, _), (3, _)] (S2 rfl rfl) <| W_ret ?_))
    obtain rfl := sinj H
    exact retc1 (i := 6) rfl rfl rfl ag100 sz100 hs rfl rfl ⟨_, _, rfl, Le.rfl' _, (hs.sub (ssk (ssk (ssk (ssk (ssk (ssk (ssk (ssk ssr))))))))), rfl⟩
   ·rw [if_neg b3] at H
    refine W_skip (dd _ _ <| W_region <| O_y rfl (Y_to (v' := .int .i64 2) (Y_add rfl rfl) (by kernel_rfl)) <| Om rfl rfl <| O_nil (da _ _ <| WL.weak [(2, _), (36, _), (37, _), (38, _)] (S4 rfl rfl rfl rfl) ?_))
    have hs : St w0 ρ ((.box af 137 ([.int .i64 2, .func (.func 94) #[] #[.pointer (some ⟨aa, 0, none⟩), .pointer (some ⟨ab, 0, none⟩)]])) :: (.box ae 137 ([.int .i64 1, .func (.func 92) #[] #[.pointer (some ⟨aa, 0, none⟩)]])) :: (.row (.slice (some ⟨ba, 0, none⟩) 12 12) 137 2 12 [.int .i64 1, .func (.func 92) #[] #[.pointer (some ⟨aa, 0, none⟩)], .int .i64 2, .func (.func 94) #[] #[.pointer (some ⟨aa, 0, none⟩), .pointer (some ⟨ab, 0, none⟩)], .int .i64 3, .func (.func 96) #[] #[.pointer (some ⟨aa, 0, none⟩)], .int .i64 4, .func (.func 98) #[] #[.pointer (some ⟨aa, 0, none⟩), .pointer (some ⟨ac, 0, none⟩)], .int .i64 5, .func (.func 99) #[] #[.pointer (some ⟨aa, 0, none⟩), .pointer (some ⟨ac, 0, none⟩)], .int .i64 6, .func (.func 102) #[] #[.pointer (some ⟨aa, 0, none⟩), .pointer (some ⟨ac, 0, none⟩)], .int .i64 7, .func (.func 105) #[] #[.pointer (some ⟨aa, 0, none⟩), .pointer (some ⟨ab, 0, none⟩)], .int .i64 8, .func (.func 107) #[] #[.pointer (some ⟨aa, 0, none⟩), .pointer (some ⟨ab, 0, none⟩)], .int .i64 9, .func (.func 109) #[] #[.pointer (some ⟨aa, 0, none⟩), .pointer (some ⟨ab, 0, none⟩)], .int .i64 10, .func (.func 110) #[] #[.pointer (some ⟨aa, 0, none⟩), .pointer (some ⟨ab, 0, none⟩)], .int .i64 11, .func (.func 111) #[] #[.pointer (some ⟨aa, 0, none⟩), .pointer (some ⟨ad, 0, none⟩)], .int .i64 5, .func (.func 112) #[] #[.pointer (some ⟨aa, 0, none⟩)]]) :: (.box ad 135 ([.func (.func 90) #[] #[]])) :: (.box ac 133 ([.func (.func 88) #[] #[]])) :: (.box ab 133 ([.func (.func 87) #[] #[]])) :: (.box a9 100 ([.int .i64 0, .int .i64 0])) :: (.box aa 27 ([ak, al, am, an, ao, ap, aq, ar, au, av, aw])) :: Γ) w := hs
    refine WL_round fun hn di => Wr fun ho dj => O_y rfl (Y_to (v' := .bool true) (Y_lss rfl rfl) (by kernel_rfl)) <| O_nil (dj _ _ <| W_seq fun hp dk => W_true rfl <| W_skip (dk _ _ <| W_seq fun hq dl => W_block fun hr ht hv => W_seq fun hw dm => W_region ?_))
    obtain ⟨hx, br⟩ := hs.rowBlock (j := 2) rfl (by decide)
    refine O_y rfl (Y_ixRow (j := 2) el145 hs rfl br rfl rfl (by decide) (by decide)) <| O_y rfl (Y_loadN ag137 sz137 rfl rfl (fun j u hu => hs.rowCell (j := 2) rfl br ((get_part (o := 4) (k := 2) rfl) j u hu))) <| O_alloc zr137 hs rfl (fun ag w hs => O_storeN (i := 0) sz137 hs rfl rfl rfl rfl rfl (one_cons rfl (one_cons rfl one_nil)) (fun w hs => O_nil (dm _ _ <| Wr fun hy dn => O_y rfl (Y_field fo137_1 rfl) <| O_y rfl (Yb 0 ag136 hs rfl rfl rfl) ?_)))
    have hs := hs.front 8 rfl
    obtain ⟨be, ch, H⟩ := bnd H
    refine O_callv rfl rfl rfl (book_Check_6_mae.c hs ay az a0 a1 a2 a3 a4 a5 a6 a7 a8 ch) (fun hz w hpost => ?_)
    obtain ⟨rfl, hs⟩ := hpost
    have hs := hs.sink 8
    refine Oa rfl rfl <| O_nil (dn _ _ <| Wr fun ia dp => Om rfl rfl <| O_y rfl (Y_geq rfl rfl) <| O_nil (dp _ _ <| W_if rfl (fun b4 => ?_) (fun b4 => ?_)))
    ·rw [if_pos b4] at H
     refine Wr fun ib dq => O_y rfl (Y_field fo137_0 rfl) <| O_y rfl (Yb 0 ag3 hs rfl rfl rfl) <| Om rfl rfl <| O_y rfl (Y_build (cs := [.int .i64 3, .int .i64 be]) zr100 pl100 ((Parts.cons rfl rfl (Parts.cons rfl rfl Parts.nil))) ag100 (by kernel_rfl)) <| O_storeN (i := 7) sz100 hs rfl rfl rfl rfl rfl (one_cons rfl (one_cons rfl one_nil)) (fun w hs => Oa rfl rfl <| O_nil (dq _ _ <| W.weak [(2, _), (3, _)] (S2 rfl rfl) <| W_ret ?_))
     obtain rfl := sinj H
     exact retc1 (i := 7) rfl rfl rfl ag100 sz100 hs rfl rfl ⟨_, _, rfl, Le.rfl' _, (hs.sub (ssk (ssk (ssk (ssk (ssk (ssk (ssk (ssk (ssk ssr)))))))))), rfl⟩
    ·rw [if_neg b4] at H
     refine W_skip (dl _ _ <| W_region <| O_y rfl (Y_to (v' := .int .i64 3) (Y_add rfl rfl) (by kernel_rfl)) <| Om rfl rfl <| O_nil (di _ _ <| WL.weak [(2, _), (36, _), (37, _), (38, _)] (S4 rfl rfl rfl rfl) ?_))
     have hs : St w0 ρ ((.box ag 137 ([.int .i64 3, .func (.func 96) #[] #[.pointer (some ⟨aa, 0, none⟩)]])) :: (.box af 137 ([.int .i64 2, .func (.func 94) #[] #[.pointer (some ⟨aa, 0, none⟩), .pointer (some ⟨ab, 0, none⟩)]])) :: (.box ae 137 ([.int .i64 1, .func (.func 92) #[] #[.pointer (some ⟨aa, 0, none⟩)]])) :: (.row (.slice (some ⟨ba, 0, none⟩) 12 12) 137 2 12 [.int .i64 1, .func (.func 92) #[] #[.pointer (some ⟨aa, 0, none⟩)], .int .i64 2, .func (.func 94) #[] #[.pointer (some ⟨aa, 0, none⟩), .pointer (some ⟨ab, 0, none⟩)], .int .i64 3, .func (.func 96) #[] #[.pointer (some ⟨aa, 0, none⟩)], .int .i64 4, .func (.func 98) #[] #[.pointer (some ⟨aa, 0, none⟩), .pointer (some ⟨ac, 0, none⟩)], .int .i64 5, .func (.func 99) #[] #[.pointer (some ⟨aa, 0, none⟩), .pointer (some ⟨ac, 0, none⟩)], .int .i64 6, .func (.func 102) #[] #[.pointer (some ⟨aa, 0, none⟩), .pointer (some ⟨ac, 0, none⟩)], .int .i64 7, .func (.func 105) #[] #[.pointer (some ⟨aa, 0, none⟩), .pointer (some ⟨ab, 0, none⟩)], .int .i64 8, .func (.func 107) #[] #[.pointer (some ⟨aa, 0, none⟩), .pointer (some ⟨ab, 0, none⟩)], .int .i64 9, .func (.func 109) #[] #[.pointer (some ⟨aa, 0, none⟩), .pointer (some ⟨ab, 0, none⟩)], .int .i64 10, .func (.func 110) #[] #[.pointer (some ⟨aa, 0, none⟩), .pointer (some ⟨ab, 0, none⟩)], .int .i64 11, .func (.func 111) #[] #[.pointer (some ⟨aa, 0, none⟩), .pointer (some ⟨ad, 0, none⟩)], .int .i64 5, .func (.func 112) #[] #[.pointer (some ⟨aa, 0, none⟩)]]) :: (.box ad 135 ([.func (.func 90) #[] #[]])) :: (.box ac 133 ([.func (.func 88) #[] #[]])) :: (.box ab 133 ([.func (.func 87) #[] #[]])) :: (.box a9 100 ([.int .i64 0, .int .i64 0])) :: (.box aa 27 ([ak, al, am, an, ao, ap, aq, ar, au, av, aw])) :: Γ) w := hs
     refine WL_round fun ic dr => Wr fun id ds => O_y rfl (Y_to (v' := .bool true) (Y_lss rfl rfl) (by kernel_rfl)) <| O_nil (ds _ _ <| W_seq fun ie dt => W_true rfl <| W_skip (dt _ _ <| W_seq fun ig du => W_block fun ih ii ij => W_seq fun ik dv => W_region ?_))
     obtain ⟨il, bs⟩ := hs.rowBlock (j := 3) rfl (by decide)
     refine O_y rfl (Y_ixRow (j := 3) el145 hs rfl bs rfl rfl (by decide) (by decide)) <| O_y rfl (Y_loadN ag137 sz137 rfl rfl (fun j u hu => hs.rowCell (j := 3) rfl bs ((get_part (o := 6) (k := 2) rfl) j u hu))) <| O_alloc zr137 hs rfl (fun ah w hs => O_storeN (i := 0) sz137 hs rfl rfl rfl rfl rfl (one_cons rfl (one_cons rfl one_nil)) (fun w hs => O_nil (dv _ _ <| Wr fun im dw => O_y rfl (Y_field fo137_1 rfl) <| O_y rfl (Yb 0 ag136 hs rfl rfl rfl) ?_)))
     have hs := hs.front 6 rfl
     have hs := hs.front 9 rfl
     obtain ⟨bf, ci, H⟩ := bnd H
     refine O_callv rfl rfl rfl (book_Check_7_hpj.c hs ay az a0 a1 a2 a3 a4 a5 a6 a7 a8 ci) (fun io w hpost => ?_)
     obtain ⟨rfl, hs⟩ := hpost
     have hs := hs.sink 9
     have hs := hs.sink 6
     refine Oa rfl rfl <| O_nil (dw _ _ <| Wr fun ip dx => Om rfl rfl <| O_y rfl (Y_geq rfl rfl) <| O_nil (dx _ _ <| W_if rfl (fun b5 => ?_) (fun b5 => ?_)))
     ·rw [if_pos b5] at H
      refine Wr fun iq dy => O_y rfl (Y_field fo137_0 rfl) <| O_y rfl (Yb 0 ag3 hs rfl rfl rfl) <| Om rfl rfl <| O_y rfl (Y_build (cs := [.int .i64 4, .int .i64 bf]) zr100 pl100 ((Parts.cons rfl rfl (Parts.cons rfl rfl Parts.nil))) ag100 (by kernel_rfl)) <| O_storeN (i := 8) sz100 hs rfl rfl rfl rfl rfl (one_cons rfl (one_cons rfl one_nil)) (fun w hs => Oa rfl rfl <| O_nil (dy _ _ <| W.weak [(2, _), (3, _)] (S2 rfl rfl) <| W_ret ?_))
      obtain rfl := sinj H
      exact retc1 (i := 8) rfl rfl rfl ag100 sz100 hs rfl rfl ⟨_, _, rfl, Le.rfl' _, (hs.sub (ssk (ssk (ssk (ssk (ssk (ssk (ssk (ssk (ssk (ssk ssr))))))))))), rfl⟩
     ·rw [if_neg b5] at H
      refine W_skip (du _ _ <| W_region <| O_y rfl (Y_to (v' := .int .i64 4) (Y_add rfl rfl) (by kernel_rfl)) <| Om rfl rfl <| O_nil (dr _ _ <| WL.weak [(2, _), (36, _), (37, _), (38, _)] (S4 rfl rfl rfl rfl) ?_))
      have hs : St w0 ρ ((.box ah 137 ([.int .i64 4, .func (.func 98) #[] #[.pointer (some ⟨aa, 0, none⟩), .pointer (some ⟨ac, 0, none⟩)]])) :: (.box ag 137 ([.int .i64 3, .func (.func 96) #[] #[.pointer (some ⟨aa, 0, none⟩)]])) :: (.box af 137 ([.int .i64 2, .func (.func 94) #[] #[.pointer (some ⟨aa, 0, none⟩), .pointer (some ⟨ab, 0, none⟩)]])) :: (.box ae 137 ([.int .i64 1, .func (.func 92) #[] #[.pointer (some ⟨aa, 0, none⟩)]])) :: (.row (.slice (some ⟨ba, 0, none⟩) 12 12) 137 2 12 [.int .i64 1, .func (.func 92) #[] #[.pointer (some ⟨aa, 0, none⟩)], .int .i64 2, .func (.func 94) #[] #[.pointer (some ⟨aa, 0, none⟩), .pointer (some ⟨ab, 0, none⟩)], .int .i64 3, .func (.func 96) #[] #[.pointer (some ⟨aa, 0, none⟩)], .int .i64 4, .func (.func 98) #[] #[.pointer (some ⟨aa, 0, none⟩), .pointer (some ⟨ac, 0, none⟩)], .int .i64 5, .func (.func 99) #[] #[.pointer (some ⟨aa, 0, none⟩), .pointer (some ⟨ac, 0, none⟩)], .int .i64 6, .func (.func 102) #[] #[.pointer (some ⟨aa, 0, none⟩), .pointer (some ⟨ac, 0, none⟩)], .int .i64 7, .func (.func 105) #[] #[.pointer (some ⟨aa, 0, none⟩), .pointer (some ⟨ab, 0, none⟩)], .int .i64 8, .func (.func 107) #[] #[.pointer (some ⟨aa, 0, none⟩), .pointer (some ⟨ab, 0, none⟩)], .int .i64 9, .func (.func 109) #[] #[.pointer (some ⟨aa, 0, none⟩), .pointer (some ⟨ab, 0, none⟩)], .int .i64 10, .func (.func 110) #[] #[.pointer (some ⟨aa, 0, none⟩), .pointer (some ⟨ab, 0, none⟩)], .int .i64 11, .func (.func 111) #[] #[.pointer (some ⟨aa, 0, none⟩), .pointer (some ⟨ad, 0, none⟩)], .int .i64 5, .func (.func 112) #[] #[.pointer (some ⟨aa, 0, none⟩)]]) :: (.box ad 135 ([.func (.func 90) #[] #[]])) :: (.box ac 133 ([.func (.func 88) #[] #[]])) :: (.box ab 133 ([.func (.func 87) #[] #[]])) :: (.box a9 100 ([.int .i64 0, .int .i64 0])) :: (.box aa 27 ([ak, al, am, an, ao, ap, aq, ar, au, av, aw])) :: Γ) w := hs
      refine WL_round fun ir dz => Wr fun it ea => O_y rfl (Y_to (v' := .bool true) (Y_lss rfl rfl) (by kernel_rfl)) <| O_nil (ea _ _ <| W_seq fun iu eb => W_true rfl <| W_skip (eb _ _ <| W_seq fun iv ec => W_block fun iw ix iy => W_seq fun iz ed => W_region ?_))
      obtain ⟨ja, bt⟩ := hs.rowBlock (j := 4) rfl (by decide)
      refine O_y rfl (Y_ixRow (j := 4) el145 hs rfl bt rfl rfl (by decide) (by decide)) <| O_y rfl (Y_loadN ag137 sz137 rfl rfl (fun j u hu => hs.rowCell (j := 4) rfl bt ((get_part (o := 8) (k := 2) rfl) j u hu))) <| O_alloc zr137 hs rfl (fun ai w hs => O_storeN (i := 0) sz137 hs rfl rfl rfl rfl rfl (one_cons rfl (one_cons rfl one_nil)) (fun w hs => O_nil (ed _ _ <| Wr fun jb ee => O_y rfl (Y_field fo137_1 rfl) <| O_y rfl (Yb 0 ag136 hs rfl rfl rfl) ?_)))
      have hs := hs.front 7 rfl
      have hs := hs.front 10 rfl
      obtain ⟨bg, cj, H⟩ := bnd H
      refine O_callv rfl rfl rfl (book_Check_8_hpj.c hs ay az a0 a1 a2 a3 a4 a5 a6 a7 a8 cj) (fun jc w hpost => ?_)
      obtain ⟨rfl, hs⟩ := hpost
      have hs := hs.sink 10
      have hs := hs.sink 7
      refine Oa rfl rfl <| O_nil (ee _ _ <| Wr fun jd ef => Om rfl rfl <| O_y rfl (Y_geq rfl rfl) <| O_nil (ef _ _ <| W_if rfl (fun b6 => ?_) (fun b6 => ?_)))
      ·rw [if_pos b6] at H
       refine Wr fun je eg => O_y rfl (Y_field fo137_0 rfl) <| O_y rfl (Yb 0 ag3 hs rfl rfl rfl) <| Om rfl rfl <| O_y rfl (Y_build (cs := [.int .i64 5, .int .i64 bg]) zr100 pl100 ((Parts.cons rfl rfl (Parts.cons rfl rfl Parts.nil))) ag100 (by kernel_rfl)) <| O_storeN (i := 9) sz100 hs rfl rfl rfl rfl rfl (one_cons rfl (one_cons rfl one_nil)) (fun w hs => Oa rfl rfl <| O_nil (eg _ _ <| W.weak [(2, _), (3, _)] (S2 rfl rfl) <| W_ret ?_))
       obtain rfl := sinj H
       exact retc1 (i := 9) rfl rfl rfl ag100 sz100 hs rfl rfl ⟨_, _, rfl, Le.rfl' _, (hs.sub (ssk (ssk (ssk (ssk (ssk (ssk (ssk (ssk (ssk (ssk (ssk ssr)))))))))))), rfl⟩
      ·rw [if_neg b6] at H
       refine W_skip (ec _ _ <| W_region <| O_y rfl (Y_to (v' := .int .i64 5) (Y_add rfl rfl) (by kernel_rfl)) <| Om rfl rfl <| O_nil (dz _ _ <| WL.weak [(2, _), (36, _), (37, _), (38, _)] (S4 rfl rfl rfl rfl) ?_))
       have hs : St w0 ρ ((.box ai 137 ([.int .i64 5, .func (.func 99) #[] #[.pointer (some ⟨aa, 0, none⟩), .pointer (some ⟨ac, 0, none⟩)]])) :: (.box ah 137 ([.int .i64 4, .func (.func 98) #[] #[.pointer (some ⟨aa, 0, none⟩), .pointer (some ⟨ac, 0, none⟩)]])) :: (.box ag 137 ([.int .i64 3, .func (.func 96) #[] #[.pointer (some ⟨aa, 0, none⟩)]])) :: (.box af 137 ([.int .i64 2, .func (.func 94) #[] #[.pointer (some ⟨aa, 0, none⟩), .pointer (some ⟨ab, 0, none⟩)]])) :: (.box ae 137 ([.int .i64 1, .func (.func 92) #[] #[.pointer (some ⟨aa, 0, none⟩)]])) :: (.row (.slice (some ⟨ba, 0, none⟩) 12 12) 137 2 12 [.int .i64 1, .func (.func 92) #[] #[.pointer (some ⟨aa, 0, none⟩)], .int .i64 2, .func (.func 94) #[] #[.pointer (some ⟨aa, 0, none⟩), .pointer (some ⟨ab, 0, none⟩)], .int .i64 3, .func (.func 96) #[] #[.pointer (some ⟨aa, 0, none⟩)], .int .i64 4, .func (.func 98) #[] #[.pointer (some ⟨aa, 0, none⟩), .pointer (some ⟨ac, 0, none⟩)], .int .i64 5, .func (.func 99) #[] #[.pointer (some ⟨aa, 0, none⟩), .pointer (some ⟨ac, 0, none⟩)], .int .i64 6, .func (.func 102) #[] #[.pointer (some ⟨aa, 0, none⟩), .pointer (some ⟨ac, 0, none⟩)], .int .i64 7, .func (.func 105) #[] #[.pointer (some ⟨aa, 0, none⟩), .pointer (some ⟨ab, 0, none⟩)], .int .i64 8, .func (.func 107) #[] #[.pointer (some ⟨aa, 0, none⟩), .pointer (some ⟨ab, 0, none⟩)], .int .i64 9, .func (.func 109) #[] #[.pointer (some ⟨aa, 0, none⟩), .pointer (some ⟨ab, 0, none⟩)], .int .i64 10, .func (.func 110) #[] #[.pointer (some ⟨aa, 0, none⟩), .pointer (some ⟨ab, 0, none⟩)], .int .i64 11, .func (.func 111) #[] #[.pointer (some ⟨aa, 0, none⟩), .pointer (some ⟨ad, 0, none⟩)], .int .i64 5, .func (.func 112) #[] #[.pointer (some ⟨aa, 0, none⟩)]]) :: (.box ad 135 ([.func (.func 90) #[] #[]])) :: (.box ac 133 ([.func (.func 88) #[] #[]])) :: (.box ab 133 ([.func (.func 87) #[] #[]])) :: (.box a9 100 ([.int .i64 0, .int .i64 0])) :: (.box aa 27 ([ak, al, am, an, ao, ap, aq, ar, au, av, aw])) :: Γ) w := hs
       refine WL_round fun jf eh => Wr fun jg ei => O_y rfl (Y_to (v' := .bool true) (Y_lss rfl rfl) (by kernel_rfl)) <| O_nil (ei _ _ <| W_seq fun jh ej => W_true rfl <| W_skip (ej _ _ <| W_seq fun ji ek => W_block fun jj jk jl => W_seq fun jm el => W_region ?_))
       obtain ⟨jn, bu⟩ := hs.rowBlock (j := 5) rfl (by decide)
       refine O_y rfl (Y_ixRow (j := 5) el145 hs rfl bu rfl rfl (by decide) (by decide)) <| O_y rfl (Y_loadN ag137 sz137 rfl rfl (fun j u hu => hs.rowCell (j := 5) rfl bu ((get_part (o := 10) (k := 2) rfl) j u hu))) <| O_alloc zr137 hs rfl (fun aj w hs => O_storeN (i := 0) sz137 hs rfl rfl rfl rfl rfl (one_cons rfl (one_cons rfl one_nil)) (fun w hs => O_nil (el _ _ <| Wr fun jo em => O_y rfl (Y_field fo137_1 rfl) <| O_y rfl (Yb 0 ag136 hs rfl rfl rfl) ?_)))
       have hs := hs.front 8 rfl
       have hs := hs.front 11 rfl
       obtain ⟨bh, ck, H⟩ := bnd H
       refine O_callv rfl rfl rfl (book_Check_9_hpj.c hs ay az a0 a1 a2 a3 a4 a5 a6 a7 a8 ck) (fun jp w hpost => ?_)
       obtain ⟨rfl, hs⟩ := hpost
       have hs := hs.sink 11
       have hs := hs.sink 8
       refine Oa rfl rfl <| O_nil (em _ _ <| Wr fun jq en => Om rfl rfl <| O_y rfl (Y_geq rfl rfl) <| O_nil (en _ _ <| W_if rfl (fun b7 => ?_) (fun b7 => ?_)))
       ·rw [if_pos b7] at H
        refine Wr fun jr eo => O_y rfl (Y_field fo137_0 rfl) <| O_y rfl (Yb 0 ag3 hs rfl rfl rfl) <| Om rfl rfl <| O_y rfl (Y_build (cs := [.int .i64 6, .int .i64 bh]) zr100 pl100 ((Parts.cons rfl rfl (Parts.cons rfl rfl Parts.nil))) ag100 (by kernel_rfl)) <| O_storeN (i := 10) sz100 hs rfl rfl rfl rfl rfl (one_cons rfl (one_cons rfl one_nil)) (fun w hs => Oa rfl rfl <| O_nil (eo _ _ <| W.weak [(2, _), (3, _)] (S2 rfl rfl) <| W_ret ?_))
        obtain rfl := sinj H
        exact retc1 (i := 10) rfl rfl rfl ag100 sz100 hs rfl rfl ⟨_, _, rfl, Le.rfl' _, (hs.sub (ssk (ssk (ssk (ssk (ssk (ssk (ssk (ssk (ssk (ssk (ssk (ssk ssr))))))))))))), rfl⟩
       ·rw [if_neg b7] at H
        refine W_skip (ek _ _ <| W_region <| O_y rfl (Y_to (v' := .int .i64 6) (Y_add rfl rfl) (by kernel_rfl)) <| Om rfl rfl <| O_nil (eh _ _ <| WL.weak [(2, _), (36, _), (37, _), (38, _)] (S4 rfl rfl rfl rfl) ?_))
        have hs : St w0 ρ ((.box aj 137 ([.int .i64 6, .func (.func 102) #[] #[.pointer (some ⟨aa, 0, none⟩), .pointer (some ⟨ac, 0, none⟩)]])) :: (.box ai 137 ([.int .i64 5, .func (.func 99) #[] #[.pointer (some ⟨aa, 0, none⟩), .pointer (some ⟨ac, 0, none⟩)]])) :: (.box ah 137 ([.int .i64 4, .func (.func 98) #[] #[.pointer (some ⟨aa, 0, none⟩), .pointer (some ⟨ac, 0, none⟩)]])) :: (.box ag 137 ([.int .i64 3, .func (.func 96) #[] #[.pointer (some ⟨aa, 0, none⟩)]])) :: (.box af 137 ([.int .i64 2, .func (.func 94) #[] #[.pointer (some ⟨aa, 0, none⟩), .pointer (some ⟨ab, 0, none⟩)]])) :: (.box ae 137 ([.int .i64 1, .func (.func 92) #[] #[.pointer (some ⟨aa, 0, none⟩)]])) :: (.row (.slice (some ⟨ba, 0, none⟩) 12 12) 137 2 12 [.int .i64 1, .func (.func 92) #[] #[.pointer (some ⟨aa, 0, none⟩)], .int .i64 2, .func (.func 94) #[] #[.pointer (some ⟨aa, 0, none⟩), .pointer (some ⟨ab, 0, none⟩)], .int .i64 3, .func (.func 96) #[] #[.pointer (some ⟨aa, 0, none⟩)], .int .i64 4, .func (.func 98) #[] #[.pointer (some ⟨aa, 0, none⟩), .pointer (some ⟨ac, 0, none⟩)], .int .i64 5, .func (.func 99) #[] #[.pointer (some ⟨aa, 0, none⟩), .pointer (some ⟨ac, 0, none⟩)], .int .i64 6, .func (.func 102) #[] #[.pointer (some ⟨aa, 0, none⟩), .pointer (some ⟨ac, 0, none⟩)], .int .i64 7, .func (.func 105) #[] #[.pointer (some ⟨aa, 0, none⟩), .pointer (some ⟨ab, 0, none⟩)], .int .i64 8, .func (.func 107) #[] #[.pointer (some ⟨aa, 0, none⟩), .pointer (some ⟨ab, 0, none⟩)], .int .i64 9, .func (.func 109) #[] #[.pointer (some ⟨aa, 0, none⟩), .pointer (some ⟨ab, 0, none⟩)], .int .i64 10, .func (.func 110) #[] #[.pointer (some ⟨aa, 0, none⟩), .pointer (some ⟨ab, 0, none⟩)], .int .i64 11, .func (.func 111) #[] #[.pointer (some ⟨aa, 0, none⟩), .pointer (some ⟨ad, 0, none⟩)], .int .i64 5, .func (.func 112) #[] #[.pointer (some ⟨aa, 0, none⟩)]]) :: (.box ad 135 ([.func (.func 90) #[] #[]])) :: (.box ac 133 ([.func (.func 88) #[] #[]])) :: (.box ab 133 ([.func (.func 87) #[] #[]])) :: (.box a9 100 ([.int .i64 0, .int .i64 0])) :: (.box aa 27 ([ak, al, am, an, ao, ap, aq, ar, au, av, aw])) :: Γ) w := hs
        refine WL_round fun js ep => Wr fun jt eq => O_y rfl (Y_to (v' := .bool true) (Y_lss rfl rfl) (by kernel_rfl)) <| O_nil (eq _ _ <| W_seq fun ju er => W_true rfl <| W_skip (er _ _ <| W_seq fun jv es => W_block fun jw jx jy => W_seq fun jz et => W_region ?_))
        obtain ⟨j0, bv⟩ := hs.rowBlock (j := 6) rfl (by decide)
        refine O_y rfl (Y_ixRow (j := 6) el145 hs rfl bv rfl rfl (by decide) (by decide)) <| O_y rfl (Y_loadN ag137 sz137 rfl rfl (fun j u hu => hs.rowCell (j := 6) rfl bv ((get_part (o := 12) (k := 2) rfl) j u hu))) <| O_alloc zr137 hs rfl (fun ax w hs => O_storeN (i := 0) sz137 hs rfl rfl rfl rfl rfl (one_cons rfl (one_cons rfl one_nil)) (fun w hs => O_nil (et _ _ <| Wr fun j1 eu => O_y rfl (Y_field fo137_1 rfl) <| O_y rfl (Yb 0 ag136 hs rfl rfl rfl) ?_)))
        have hs := hs.front 10 rfl
        have hs := hs.front 12 rfl
        obtain ⟨bi, cl, H⟩ := bnd H
        refine O_callv rfl rfl rfl (book_Check_10_ion.c hs ay az a0 a1 a2 a3 a4 a5 a6 a7 a8 cl) (fun j2 w hpost => ?_)
        obtain ⟨rfl, hs⟩ := hpost
        have hs := hs.sink 12
        have hs := hs.sink 10
        refine Oa rfl rfl <| O_nil (eu _ _ <| Wr fun j3 ev => Om rfl rfl <| O_y rfl (Y_geq rfl rfl) <| O_nil (ev _ _ <| W_if rfl (fun b8 => ?_) (fun b8 => ?_)))
        ·rw [if_pos b8] at H
         refine Wr fun j4 ew => O_y rfl (Y_field fo137_0 rfl) <| O_y rfl (Yb 0 ag3 hs rfl rfl rfl) <| Om rfl rfl <| O_y rfl (Y_build (cs := [.int .i64 7, .int .i64 bi]) zr100 pl100 ((Parts.cons rfl rfl (Parts.cons rfl rfl Parts.nil))) ag100 (by kernel_rfl)) <| O_storeN (i := 11) sz100 hs rfl rfl rfl rfl rfl (one_cons rfl (one_cons rfl one_nil)) (fun w hs => Oa rfl rfl <| O_nil (ew _ _ <| W.weak [(2, _), (3, _)] (S2 rfl rfl) <| W_ret ?_))
         obtain rfl := sinj H
         exact retc1 (i := 11) rfl rfl rfl ag100 sz100 hs rfl rfl ⟨_, _, rfl, Le.rfl' _, (hs.sub (ssk (ssk (ssk (ssk (ssk (ssk (ssk (ssk (ssk (ssk (ssk (ssk (ssk ssr)))))))))))))), rfl⟩
        ·rw [if_neg b8] at H
         refine W_skip (es _ _ <| W_region <| O_y rfl (Y_to (v' := .int .i64 7) (Y_add rfl rfl) (by kernel_rfl)) <| Om rfl rfl <| O_nil (ep _ _ <| WL.weak [(2, _), (36, _), (37, _), (38, _)] (S4 rfl rfl rfl rfl) ?_))
         have hs : St w0 ρ ((.box ax 137 ([.int .i64 7, .func (.func 105) #[] #[.pointer (some ⟨aa, 0, none⟩), .pointer (some ⟨ab, 0, none⟩)]])) :: (.box aj 137 ([.int .i64 6, .func (.func 102) #[] #[.pointer (some ⟨aa, 0, none⟩), .pointer (some ⟨ac, 0, none⟩)]])) :: (.box ai 137 ([.int .i64 5, .func (.func 99) #[] #[.pointer (some ⟨aa, 0, none⟩), .pointer (some ⟨ac, 0, none⟩)]])) :: (.box ah 137 ([.int .i64 4, .func (.func 98) #[] #[.pointer (some ⟨aa, 0, none⟩), .pointer (some ⟨ac, 0, none⟩)]])) :: (.box ag 137 ([.int .i64 3, .func (.func 96) #[] #[.pointer (some ⟨aa, 0, none⟩)]])) :: (.box af 137 ([.int .i64 2, .func (.func 94) #[] #[.pointer (some ⟨aa, 0, none⟩), .pointer (some ⟨ab, 0, none⟩)]])) :: (.box ae 137 ([.int .i64 1, .func (.func 92) #[] #[.pointer (some ⟨aa, 0, none⟩)]])) :: (.row (.slice (some ⟨ba, 0, none⟩) 12 12) 137 2 12 [.int .i64 1, .func (.func 92) #[] #[.pointer (some ⟨aa, 0, none⟩)], .int .i64 2, .func (.func 94) #[] #[.pointer (some ⟨aa, 0, none⟩), .pointer (some ⟨ab, 0, none⟩)], .int .i64 3, .func (.func 96) #[] #[.pointer (some ⟨aa, 0, none⟩)], .int .i64 4, .func (.func 98) #[] #[.pointer (some ⟨aa, 0, none⟩), .pointer (some ⟨ac, 0, none⟩)], .int .i64 5, .func (.func 99) #[] #[.pointer (some ⟨aa, 0, none⟩), .pointer (some ⟨ac, 0, none⟩)], .int .i64 6, .func (.func 102) #[] #[.pointer (some ⟨aa, 0, none⟩), .pointer (some ⟨ac, 0, none⟩)], .int .i64 7, .func (.func 105) #[] #[.pointer (some ⟨aa, 0, none⟩), .pointer (some ⟨ab, 0, none⟩)], .int .i64 8, .func (.func 107) #[] #[.pointer (some ⟨aa, 0, none⟩), .pointer (some ⟨ab, 0, none⟩)], .int .i64 9, .func (.func 109) #[] #[.pointer (some ⟨aa, 0, none⟩), .pointer (some ⟨ab, 0, none⟩)], .int .i64 10, .func (.func 110) #[] #[.pointer (some ⟨aa, 0, none⟩), .pointer (some ⟨ab, 0, none⟩)], .int .i64 11, .func (.func 111) #[] #[.pointer (some ⟨aa, 0, none⟩), .pointer (some ⟨ad, 0, none⟩)], .int .i64 5, .func (.func 112) #[] #[.pointer (some ⟨aa, 0, none⟩)]]) :: (.box ad 135 ([.func (.func 90) #[] #[]])) :: (.box ac 133 ([.func (.func 88) #[] #[]])) :: (.box ab 133 ([.func (.func 87) #[] #[]])) :: (.box a9 100 ([.int .i64 0, .int .i64 0])) :: (.box aa 27 ([ak, al, am, an, ao, ap, aq, ar, au, av, aw])) :: Γ) w := hs
         refine WL_round fun j5 ex => Wr fun j6 ey => O_y rfl (Y_to (v' := .bool true) (Y_lss rfl rfl) (by kernel_rfl)) <| O_nil (ey _ _ <| W_seq fun j7 ez => W_true rfl <| W_skip (ez _ _ <| W_seq fun j8 e0 => W_block fun j9 ka kb => W_seq fun kc e1 => W_region ?_))
         obtain ⟨kd, bw⟩ := hs.rowBlock (j := 7) rfl (by decide)
         refine O_y rfl (Y_ixRow (j := 7) el145 hs rfl bw rfl rfl (by decide) (by decide)) <| O_y rfl (Y_loadN ag137 sz137 rfl rfl (fun j u hu => hs.rowCell (j := 7) rfl bw ((get_part (o := 14) (k := 2) rfl) j u hu))) <| O_alloc zr137 hs rfl (fun bb w hs => O_storeN (i := 0) sz137 hs rfl rfl rfl rfl rfl (one_cons rfl (one_cons rfl one_nil)) (fun w hs => O_nil (e1 _ _ <| Wr fun ke e2 => O_y rfl (Y_field fo137_1 rfl) <| O_y rfl (Yb 0 ag136 hs rfl rfl rfl) ?_)))
         have hs := hs.front 11 rfl
         have hs := hs.front 13 rfl
         obtain ⟨bj, cm, H⟩ := bnd H
         refine O_callv rfl rfl rfl (book_Check_11_ion.c hs ay az a0 a1 a2 a3 a4 a5 a6 a7 a8 cm) (fun kf w hpost => ?_)
         obtain ⟨rfl, hs⟩ := hpost
         have hs := hs.sink 13
         have hs := hs.sink 11
         refine Oa rfl rfl <| O_nil (e2 _ _ <| Wr fun kg e3 => Om rfl rfl <| O_y rfl (Y_geq rfl rfl) <| O_nil (e3 _ _ <| W_if rfl (fun b9 => ?_) (fun b9 => ?_)))
         ·rw [if_pos b9] at H
          refine Wr fun kh e4 => O_y rfl (Y_field fo137_0 rfl) <| O_y rfl (Yb 0 ag3 hs rfl rfl rfl) <| Om rfl rfl <| O_y rfl (Y_build (cs := [.int .i64 8, .int .i64 bj]) zr100 pl100 ((Parts.cons rfl rfl (Parts.cons rfl rfl Parts.nil))) ag100 (by kernel_rfl)) <| O_storeN (i := 12) sz100 hs rfl rfl rfl rfl rfl (one_cons rfl (one_cons rfl one_nil)) (fun w hs => Oa rfl rfl <| O_nil (e4 _ _ <| W.weak [(2, _), (3, _)] (S2 rfl rfl) <| W_ret ?_))
          obtain rfl := sinj H
          exact retc1 (i := 12) rfl rfl rfl ag100 sz100 hs rfl rfl ⟨_, _, rfl, Le.rfl' _, (hs.sub (ssk (ssk (ssk (ssk (ssk (ssk (ssk (ssk (ssk (ssk (ssk (ssk (ssk (ssk ssr))))))))))))))), rfl⟩
         ·rw [if_neg b9] at H
          refine W_skip (e0 _ _ <| W_region <| O_y rfl (Y_to (v' := .int .i64 8) (Y_add rfl rfl) (by kernel_rfl)) <| Om rfl rfl <| O_nil (ex _ _ <| WL.weak [(2, _), (36, _), (37, _), (38, _)] (S4 rfl rfl rfl rfl) ?_))
          have hs : St w0 ρ ((.box bb 137 ([.int .i64 8, .func (.func 107) #[] #[.pointer (some ⟨aa, 0, none⟩), .pointer (some ⟨ab, 0, none⟩)]])) :: (.box ax 137 ([.int .i64 7, .func (.func 105) #[] #[.pointer (some ⟨aa, 0, none⟩), .pointer (some ⟨ab, 0, none⟩)]])) :: (.box aj 137 ([.int .i64 6, .func (.func 102) #[] #[.pointer (some ⟨aa, 0, none⟩), .pointer (some ⟨ac, 0, none⟩)]])) :: (.box ai 137 ([.int .i64 5, .func (.func 99) #[] #[.pointer (some ⟨aa, 0, none⟩), .pointer (some ⟨ac, 0, none⟩)]])) :: (.box ah 137 ([.int .i64 4, .func (.func 98) #[] #[.pointer (some ⟨aa, 0, none⟩), .pointer (some ⟨ac, 0, none⟩)]])) :: (.box ag 137 ([.int .i64 3, .func (.func 96) #[] #[.pointer (some ⟨aa, 0, none⟩)]])) :: (.box af 137 ([.int .i64 2, .func (.func 94) #[] #[.pointer (some ⟨aa, 0, none⟩), .pointer (some ⟨ab, 0, none⟩)]])) :: (.box ae 137 ([.int .i64 1, .func (.func 92) #[] #[.pointer (some ⟨aa, 0, none⟩)]])) :: (.row (.slice (some ⟨ba, 0, none⟩) 12 12) 137 2 12 [.int .i64 1, .func (.func 92) #[] #[.pointer (some ⟨aa, 0, none⟩)], .int .i64 2, .func (.func 94) #[] #[.pointer (some ⟨aa, 0, none⟩), .pointer (some ⟨ab, 0, none⟩)], .int .i64 3, .func (.func 96) #[] #[.pointer (some ⟨aa, 0, none⟩)], .int .i64 4, .func (.func 98) #[] #[.pointer (some ⟨aa, 0, none⟩), .pointer (some ⟨ac, 0, none⟩)], .int .i64 5, .func (.func 99) #[] #[.pointer (some ⟨aa, 0, none⟩), .pointer (some ⟨ac, 0, none⟩)], .int .i64 6, .func (.func 102) #[] #[.pointer (some ⟨aa, 0, none⟩), .pointer (some ⟨ac, 0, none⟩)], .int .i64 7, .func (.func 105) #[] #[.pointer (some ⟨aa, 0, none⟩), .pointer (some ⟨ab, 0, none⟩)], .int .i64 8, .func (.func 107) #[] #[.pointer (some ⟨aa, 0, none⟩), .pointer (some ⟨ab, 0, none⟩)], .int .i64 9, .func (.func 109) #[] #[.pointer (some ⟨aa, 0, none⟩), .pointer (some ⟨ab, 0, none⟩)], .int .i64 10, .func (.func 110) #[] #[.pointer (some ⟨aa, 0, none⟩), .pointer (some ⟨ab, 0, none⟩)], .int .i64 11, .func (.func 111) #[] #[.pointer (some ⟨aa, 0, none⟩), .pointer (some ⟨ad, 0, none⟩)], .int .i64 5, .func (.func 112) #[] #[.pointer (some ⟨aa, 0, none⟩)]]) :: (.box ad 135 ([.func (.func 90) #[] #[]])) :: (.box ac 133 ([.func (.func 88) #[] #[]])) :: (.box ab 133 ([.func (.func 87) #[] #[]])) :: (.box a9 100 ([.int .i64 0, .int .i64 0])) :: (.box aa 27 ([ak, al, am, an, ao, ap, aq, ar, au, av, aw])) :: Γ) w := hs
          refine WL_round fun ki e5 => Wr fun kj e6 => O_y rfl (Y_to (v' := .bool true) (Y_lss rfl rfl) (by kernel_rfl)) <| O_nil (e6 _ _ <| W_seq fun kk e7 => W_true rfl <| W_skip (e7 _ _ <| W_seq fun kl e8 => W_block fun km kn ko => W_seq fun kp e9 => W_region ?_))
          obtain ⟨kq, bx⟩ := hs.rowBlock (j := 8) rfl (by decide)
          refine O_y rfl (Y_ixRow (j := 8) el145 hs rfl bx rfl rfl (by decide) (by decide)) <| O_y rfl (Y_loadN ag137 sz137 rfl rfl (fun j u hu => hs.rowCell (j := 8) rfl bx ((get_part (o := 16) (k := 2) rfl) j u hu))) <| O_alloc zr137 hs rfl (fun bo w hs => O_storeN (i := 0) sz137 hs rfl rfl rfl rfl rfl (one_cons rfl (one_cons rfl one_nil)) (fun w hs => O_nil (e9 _ _ <| Wr fun kr fa => O_y rfl (Y_field fo137_1 rfl) <| O_y rfl (Yb 0 ag136 hs rfl rfl rfl) ?_)))
          have hs := hs.front 12 rfl
          have hs := hs.front 14 rfl
          obtain ⟨bk, cn, H⟩ := bnd H
          refine O_callv rfl rfl rfl (book_Check_12_ion.c hs ay az a0 a1 a2 a3 a4 a5 a6 a7 a8 cn) (fun ks w hpost => ?_)
          obtain ⟨rfl, hs⟩ := hpost
          have hs := hs.sink 14
          have hs := hs.sink 12
          refine Oa rfl rfl <| O_nil (fa _ _ <| Wr fun kt fb => Om rfl rfl <| O_y rfl (Y_geq rfl rfl) <| O_nil (fb _ _ <| W_if rfl (fun ca => ?_) (fun ca => ?_)))
          ·rw [if_pos ca] at H
           refine Wr fun ku fc => O_y rfl (Y_field fo137_0 rfl) <| O_y rfl (Yb 0 ag3 hs rfl rfl rfl) <| Om rfl rfl <| O_y rfl (Y_build (cs := [.int .i64 9, .int .i64 bk]) zr100 pl100 ((Parts.cons rfl rfl (Parts.cons rfl rfl Parts.nil))) ag100 (by kernel_rfl)) <| O_storeN (i := 13) sz100 hs rfl rfl rfl rfl rfl (one_cons rfl (one_cons rfl one_nil)) (fun w hs => Oa rfl rfl <| O_nil (fc _ _ <| W.weak [(2, _), (3, _)] (S2 rfl rfl) <| W_ret ?_))
           obtain rfl := sinj H
           exact retc1 (i := 13) rfl rfl rfl ag100 sz100 hs rfl rfl ⟨_, _, rfl, Le.rfl' _, (hs.sub (ssk (ssk (ssk (ssk (ssk (ssk (ssk (ssk (ssk (ssk (ssk (ssk (ssk (ssk (ssk ssr)))))))))))))))), rfl⟩
          ·rw [if_neg ca] at H
           refine W_skip (e8 _ _ <| W_region <| O_y rfl (Y_to (v' := .int .i64 9) (Y_add rfl rfl) (by kernel_rfl)) <| Om rfl rfl <| O_nil (e5 _ _ <| WL.weak [(2, _), (36, _), (37, _), (38, _)] (S4 rfl rfl rfl rfl) ?_))
           have hs : St w0 ρ ((.box bo 137 ([.int .i64 9, .func (.func 109) #[] #[.pointer (some ⟨aa, 0, none⟩), .pointer (some ⟨ab, 0, none⟩)]])) :: (.box bb 137 ([.int .i64 8, .func (.func 107) #[] #[.pointer (some ⟨aa, 0, none⟩), .pointer (some ⟨ab, 0, none⟩)]])) :: (.box ax 137 ([.int .i64 7, .func (.func 105) #[] #[.pointer (some ⟨aa, 0, none⟩), .pointer (some ⟨ab, 0, none⟩)]])) :: (.box aj 137 ([.int .i64 6, .func (.func 102) #[] #[.pointer (some ⟨aa, 0, none⟩), .pointer (some ⟨ac, 0, none⟩)]])) :: (.box ai 137 ([.int .i64 5, .func (.func 99) #[] #[.pointer (some ⟨aa, 0, none⟩), .pointer (some ⟨ac, 0, none⟩)]])) :: (.box ah 137 ([.int .i64 4, .func (.func 98) #[] #[.pointer (some ⟨aa, 0, none⟩), .pointer (some ⟨ac, 0, none⟩)]])) :: (.box ag 137 ([.int .i64 3, .func (.func 96) #[] #[.pointer (some ⟨aa, 0, none⟩)]])) :: (.box af 137 ([.int .i64 2, .func (.func 94) #[] #[.pointer (some ⟨aa, 0, none⟩), .pointer (some ⟨ab, 0, none⟩)]])) :: (.box ae 137 ([.int .i64 1, .func (.func 92) #[] #[.pointer (some ⟨aa, 0, none⟩)]])) :: (.row (.slice (some ⟨ba, 0, none⟩) 12 12) 137 2 12 [.int .i64 1, .func (.func 92) #[] #[.pointer (some ⟨aa, 0, none⟩)], .int .i64 2, .func (.func 94) #[] #[.pointer (some ⟨aa, 0, none⟩), .pointer (some ⟨ab, 0, none⟩)], .int .i64 3, .func (.func 96) #[] #[.pointer (some ⟨aa, 0, none⟩)], .int .i64 4, .func (.func 98) #[] #[.pointer (some ⟨aa, 0, none⟩), .pointer (some ⟨ac, 0, none⟩)], .int .i64 5, .func (.func 99) #[] #[.pointer (some ⟨aa, 0, none⟩), .pointer (some ⟨ac, 0, none⟩)], .int .i64 6, .func (.func 102) #[] #[.pointer (some ⟨aa, 0, none⟩), .pointer (some ⟨ac, 0, none⟩)], .int .i64 7, .func (.func 105) #[] #[.pointer (some ⟨aa, 0, none⟩), .pointer (some ⟨ab, 0, none⟩)], .int .i64 8, .func (.func 107) #[] #[.pointer (some ⟨aa, 0, none⟩), .pointer (some ⟨ab, 0, none⟩)], .int .i64 9, .func (.func 109) #[] #[.pointer (some ⟨aa, 0, none⟩), .pointer (some ⟨ab, 0, none⟩)], .int .i64 10, .func (.func 110) #[] #[.pointer (some ⟨aa, 0, none⟩), .pointer (some ⟨ab, 0, none⟩)], .int .i64 11, .func (.func 111) #[] #[.pointer (some ⟨aa, 0, none⟩), .pointer (some ⟨ad, 0, none⟩)], .int .i64 5, .func (.func 112) #[] #[.pointer (some ⟨aa, 0, none⟩)]]) :: (.box ad 135 ([.func (.func 90) #[] #[]])) :: (.box ac 133 ([.func (.func 88) #[] #[]])) :: (.box ab 133 ([.func (.func 87) #[] #[]])) :: (.box a9 100 ([.int .i64 0, .int .i64 0])) :: (.box aa 27 ([ak, al, am, an, ao, ap, aq, ar, au, av, aw])) :: Γ) w := hs
           refine WL_round fun kv fd => Wr fun kw fe => O_y rfl (Y_to (v' := .bool true) (Y_lss rfl rfl) (by kernel_rfl)) <| O_nil (fe _ _ <| W_seq fun kx ff => W_true rfl <| W_skip (ff _ _ <| W_seq fun ky fg => W_block fun kz k0 k1 => W_seq fun k2 fh => W_region ?_))
           obtain ⟨k3, bz⟩ := hs.rowBlock (j := 9) rfl (by decide)
           refine O_y rfl (Y_ixRow (j := 9) el145 hs rfl bz rfl rfl (by decide) (by decide)) <| O_y rfl (Y_loadN ag137 sz137 rfl rfl (fun j u hu => hs.rowCell (j := 9) rfl bz ((get_part (o := 18) (k := 2) rfl) j u hu))) <| O_alloc zr137 hs rfl (fun cb w hs => O_storeN (i := 0) sz137 hs rfl rfl rfl rfl rfl (one_cons rfl (one_cons rfl one_nil)) (fun w hs => O_nil (fh _ _ <| Wr fun k4 fi => O_y rfl (Y_field fo137_1 rfl) <| O_y rfl (Yb 0 ag136 hs rfl rfl rfl) ?_)))
           have hs := hs.front 13 rfl
           have hs := hs.front 15 rfl
           obtain ⟨bl, co, H⟩ := bnd H
           refine O_callv rfl rfl rfl (book_Check_13_ion.c hs ay az a0 a1 a2 a3 a4 a5 a6 a7 a8 co) (fun k5 w hpost => ?_)
           obtain ⟨rfl, hs⟩ := hpost
           have hs := hs.sink 15
           have hs := hs.sink 13
           refine Oa rfl rfl <| O_nil (fi _ _ <| Wr fun k6 fj => Om rfl rfl <| O_y rfl (Y_geq rfl rfl) <| O_nil (fj _ _ <| W_if rfl (fun cc => ?_) (fun cc => ?_)))
           ·rw [if_pos cc] at H
            refine Wr fun k7 fk => O_y rfl (Y_field fo137_0 rfl) <| O_y rfl (Yb 0 ag3 hs rfl rfl rfl) <| Om rfl rfl <| O_y rfl (Y_build (cs := [.int .i64 10, .int .i64 bl]) zr100 pl100 ((Parts.cons rfl rfl (Parts.cons rfl rfl Parts.nil))) ag100 (by kernel_rfl)) <| O_storeN (i := 14) sz100 hs rfl rfl rfl rfl rfl (one_cons rfl (one_cons rfl one_nil)) (fun w hs => Oa rfl rfl <| O_nil (fk _ _ <| W.weak [(2, _), (3, _)] (S2 rfl rfl) <| W_ret ?_))
            obtain rfl := sinj H
            exact retc1 (i := 14) rfl rfl rfl ag100 sz100 hs rfl rfl ⟨_, _, rfl, Le.rfl' _, (hs.sub (ssk (ssk (ssk (ssk (ssk (ssk (ssk (ssk (ssk (ssk (ssk (ssk (ssk (ssk (ssk (ssk ssr))))))))))))))))), rfl⟩
           ·rw [if_neg cc] at H
            refine W_skip (fg _ _ <| W_region <| O_y rfl (Y_to (v' := .int .i64 10) (Y_add rfl rfl) (by kernel_rfl)) <| Om rfl rfl <| O_nil (fd _ _ <| WL.weak [(2, _), (36, _), (37, _), (38, _)] (S4 rfl rfl rfl rfl) ?_))
            have hs : St w0 ρ ((.box cb 137 ([.int .i64 10, .func (.func 110) #[] #[.pointer (some ⟨aa, 0, none⟩), .pointer (some ⟨ab, 0, none⟩)]])) :: (.box bo 137 ([.int .i64 9, .func (.func 109) #[] #[.pointer (some ⟨aa, 0, none⟩), .pointer (some ⟨ab, 0, none⟩)]])) :: (.box bb 137 ([.int .i64 8, .func (.func 107) #[] #[.pointer (some ⟨aa, 0, none⟩), .pointer (some ⟨ab, 0, none⟩)]])) :: (.box ax 137 ([.int .i64 7, .func (.func 105) #[] #[.pointer (some ⟨aa, 0, none⟩), .pointer (some ⟨ab, 0, none⟩)]])) :: (.box aj 137 ([.int .i64 6, .func (.func 102) #[] #[.pointer (some ⟨aa, 0, none⟩), .pointer (some ⟨ac, 0, none⟩)]])) :: (.box ai 137 ([.int .i64 5, .func (.func 99) #[] #[.pointer (some ⟨aa, 0, none⟩), .pointer (some ⟨ac, 0, none⟩)]])) :: (.box ah 137 ([.int .i64 4, .func (.func 98) #[] #[.pointer (some ⟨aa, 0, none⟩), .pointer (some ⟨ac, 0, none⟩)]])) :: (.box ag 137 ([.int .i64 3, .func (.func 96) #[] #[.pointer (some ⟨aa, 0, none⟩)]])) :: (.box af 137 ([.int .i64 2, .func (.func 94) #[] #[.pointer (some ⟨aa, 0, none⟩), .pointer (some ⟨ab, 0, none⟩)]])) :: (.box ae 137 ([.int .i64 1, .func (.func 92) #[] #[.pointer (some ⟨aa, 0, none⟩)]])) :: (.row (.slice (some ⟨ba, 0, none⟩) 12 12) 137 2 12 [.int .i64 1, .func (.func 92) #[] #[.pointer (some ⟨aa, 0, none⟩)], .int .i64 2, .func (.func 94) #[] #[.pointer (some ⟨aa, 0, none⟩), .pointer (some ⟨ab, 0, none⟩)], .int .i64 3, .func (.func 96) #[] #[.pointer (some ⟨aa, 0, none⟩)], .int .i64 4, .func (.func 98) #[] #[.pointer (some ⟨aa, 0, none⟩), .pointer (some ⟨ac, 0, none⟩)], .int .i64 5, .func (.func 99) #[] #[.pointer (some ⟨aa, 0, none⟩), .pointer (some ⟨ac, 0, none⟩)], .int .i64 6, .func (.func 102) #[] #[.pointer (some ⟨aa, 0, none⟩), .pointer (some ⟨ac, 0, none⟩)], .int .i64 7, .func (.func 105) #[] #[.pointer (some ⟨aa, 0, none⟩), .pointer (some ⟨ab, 0, none⟩)], .int .i64 8, .func (.func 107) #[] #[.pointer (some ⟨aa, 0, none⟩), .pointer (some ⟨ab, 0, none⟩)], .int .i64 9, .func (.func 109) #[] #[.pointer (some ⟨aa, 0, none⟩), .pointer (some ⟨ab, 0, none⟩)], .int .i64 10, .func (.func 110) #[] #[.pointer (some ⟨aa, 0, none⟩), .pointer (some ⟨ab, 0, none⟩)], .int .i64 11, .func (.func 111) #[] #[.pointer (some ⟨aa, 0, none⟩), .pointer (some ⟨ad, 0, none⟩)], .int .i64 5, .func (.func 112) #[] #[.pointer (some ⟨aa, 0, none⟩)]]) :: (.box ad 135 ([.func (.func 90) #[] #[]])) :: (.box ac 133 ([.func (.func 88) #[] #[]])) :: (.box ab 133 ([.func (.func 87) #[] #[]])) :: (.box a9 100 ([.int .i64 0, .int .i64 0])) :: (.box aa 27 ([ak, al, am, an, ao, ap, aq, ar, au, av, aw])) :: Γ) w := hs
            refine WL_round fun k8 fl => Wr fun k9 fm => O_y rfl (Y_to (v' := .bool true) (Y_lss rfl rfl) (by kernel_rfl)) <| O_nil (fm _ _ <| W_seq fun la fn => W_true rfl <| W_skip (fn _ _ <| W_seq fun lb fo => W_block fun lc ld le => W_seq fun lf fp => W_region ?_))
            obtain ⟨lg, b0⟩ := hs.rowBlock (j := 10) rfl (by decide)
            refine O_y rfl (Y_ixRow (j := 10) el145 hs rfl b0 rfl rfl (by decide) (by decide)) <| O_y rfl (Y_loadN ag137 sz137 rfl rfl (fun j u hu => hs.rowCell (j := 10) rfl b0 ((get_part (o := 20) (k := 2) rfl) j u hu))) <| O_alloc zr137 hs rfl (fun cp w hs => O_storeN (i := 0) sz137 hs rfl rfl rfl rfl rfl (one_cons rfl (one_cons rfl one_nil)) (fun w hs => O_nil (fp _ _ <| Wr fun lh fq => O_y rfl (Y_field fo137_1 rfl) <| O_y rfl (Yb 0 ag136 hs rfl rfl rfl) ?_)))
            have hs := hs.front 12 rfl
            have hs := hs.front 16 rfl
            obtain ⟨bm, cq, H⟩ := bnd H
            refine O_callv rfl rfl rfl (book_Check_14_gdi.c hs ay az a0 a1 a2 a3 a4 a5 a6 a7 a8 cq) (fun li w hpost => ?_)
            obtain ⟨rfl, hs⟩ := hpost
            have hs := hs.sink 16
            have hs := hs.sink 12
            refine Oa rfl rfl <| O_nil (fq _ _ <| Wr fun lj fr => Om rfl rfl <| O_y rfl (Y_geq rfl rfl) <| O_nil (fr _ _ <| W_if rfl (fun cd => ?_) (fun cd => ?_)))
            ·rw [if_pos cd] at H
             refine Wr fun lk fs => O_y rfl (Y_field fo137_0 rfl) <| O_y rfl (Yb 0 ag3 hs rfl rfl rfl) <| Om rfl rfl <| O_y rfl (Y_build (cs := [.int .i64 11, .int .i64 bm]) zr100 pl100 ((Parts.cons rfl rfl (Parts.cons rfl rfl Parts.nil))) ag100 (by kernel_rfl)) <| O_storeN (i := 15) sz100 hs rfl rfl rfl rfl rfl (one_cons rfl (one_cons rfl one_nil)) (fun w hs => Oa rfl rfl <| O_nil (fs _ _ <| W.weak [(2, _), (3, _)] (S2 rfl rfl) <| W_ret ?_))
             obtain rfl := sinj H
             exact retc1 (i := 15) rfl rfl rfl ag100 sz100 hs rfl rfl ⟨_, _, rfl, Le.rfl' _, (hs.sub (ssk (ssk (ssk (ssk (ssk (ssk (ssk (ssk (ssk (ssk (ssk (ssk (ssk (ssk (ssk (ssk (ssk ssr)))))))))))))))))), rfl⟩
            ·rw [if_neg cd] at H
             refine W_skip (fo _ _ <| W_region <| O_y rfl (Y_to (v' := .int .i64 11) (Y_add rfl rfl) (by kernel_rfl)) <| Om rfl rfl <| O_nil (fl _ _ <| WL.weak [(2, _), (36, _), (37, _), (38, _)] (S4 rfl rfl rfl rfl) ?_))
             have hs : St w0 ρ ((.box cp 137 ([.int .i64 11, .func (.func 111) #[] #[.pointer (some ⟨aa, 0, none⟩), .pointer (some ⟨ad, 0, none⟩)]])) :: (.box cb 137 ([.int .i64 10, .func (.func 110) #[] #[.pointer (some ⟨aa, 0, none⟩), .pointer (some ⟨ab, 0, none⟩)]])) :: (.box bo 137 ([.int .i64 9, .func (.func 109) #[] #[.pointer (some ⟨aa, 0, none⟩), .pointer (some ⟨ab, 0, none⟩)]])) :: (.box bb 137 ([.int .i64 8, .func (.func 107) #[] #[.pointer (some ⟨aa, 0, none⟩), .pointer (some ⟨ab, 0, none⟩)]])) :: (.box ax 137 ([.int .i64 7, .func (.func 105) #[] #[.pointer (some ⟨aa, 0, none⟩), .pointer (some ⟨ab, 0, none⟩)]])) :: (.box aj 137 ([.int .i64 6, .func (.func 102) #[] #[.pointer (some ⟨aa, 0, none⟩), .pointer (some ⟨ac, 0, none⟩)]])) :: (.box ai 137 ([.int .i64 5, .func (.func 99) #[] #[.pointer (some ⟨aa, 0, none⟩), .pointer (some ⟨ac, 0, none⟩)]])) :: (.box ah 137 ([.int .i64 4, .func (.func 98) #[] #[.pointer (some ⟨aa, 0, none⟩), .pointer (some ⟨ac, 0, none⟩)]])) :: (.box ag 137 ([.int .i64 3, .func (.func 96) #[] #[.pointer (some ⟨aa, 0, none⟩)]])) :: (.box af 137 ([.int .i64 2, .func (.func 94) #[] #[.pointer (some ⟨aa, 0, none⟩), .pointer (some ⟨ab, 0, none⟩)]])) :: (.box ae 137 ([.int .i64 1, .func (.func 92) #[] #[.pointer (some ⟨aa, 0, none⟩)]])) :: (.row (.slice (some ⟨ba, 0, none⟩) 12 12) 137 2 12 [.int .i64 1, .func (.func 92) #[] #[.pointer (some ⟨aa, 0, none⟩)], .int .i64 2, .func (.func 94) #[] #[.pointer (some ⟨aa, 0, none⟩), .pointer (some ⟨ab, 0, none⟩)], .int .i64 3, .func (.func 96) #[] #[.pointer (some ⟨aa, 0, none⟩)], .int .i64 4, .func (.func 98) #[] #[.pointer (some ⟨aa, 0, none⟩), .pointer (some ⟨ac, 0, none⟩)], .int .i64 5, .func (.func 99) #[] #[.pointer (some ⟨aa, 0, none⟩), .pointer (some ⟨ac, 0, none⟩)], .int .i64 6, .func (.func 102) #[] #[.pointer (some ⟨aa, 0, none⟩), .pointer (some ⟨ac, 0, none⟩)], .int .i64 7, .func (.func 105) #[] #[.pointer (some ⟨aa, 0, none⟩), .pointer (some ⟨ab, 0, none⟩)], .int .i64 8, .func (.func 107) #[] #[.pointer (some ⟨aa, 0, none⟩), .pointer (some ⟨ab, 0, none⟩)], .int .i64 9, .func (.func 109) #[] #[.pointer (some ⟨aa, 0, none⟩), .pointer (some ⟨ab, 0, none⟩)], .int .i64 10, .func (.func 110) #[] #[.pointer (some ⟨aa, 0, none⟩), .pointer (some ⟨ab, 0, none⟩)], .int .i64 11, .func (.func 111) #[] #[.pointer (some ⟨aa, 0, none⟩), .pointer (some ⟨ad, 0, none⟩)], .int .i64 5, .func (.func 112) #[] #[.pointer (some ⟨aa, 0, none⟩)]]) :: (.box ad 135 ([.func (.func 90) #[] #[]])) :: (.box ac 133 ([.func (.func 88) #[] #[]])) :: (.box ab 133 ([.func (.func 87) #[] #[]])) :: (.box a9 100 ([.int .i64 0, .int .i64 0])) :: (.box aa 27 ([ak, al, am, an, ao, ap, aq, ar, au, av, aw])) :: Γ) w := hs
             refine WL_round fun ll ft => Wr fun lm fu => O_y rfl (Y_to (v' := .bool true) (Y_lss rfl rfl) (by kernel_rfl)) <| O_nil (fu _ _ <| W_seq fun ln fv => W_true rfl <| W_skip (fv _ _ <| W_seq fun lo fw => W_block fun lp lq lr => W_seq fun ls fx => W_region ?_))
             obtain ⟨lt, b1⟩ := hs.rowBlock (j := 11) rfl (by decide)
             refine O_y rfl (Y_ixRow (j := 11) el145 hs rfl b1 rfl rfl (by decide) (by decide)) <| O_y rfl (Y_loadN ag137 sz137 rfl rfl (fun j u hu => hs.rowCell (j := 11) rfl b1 ((get_part (o := 22) (k := 2) rfl) j u hu))) <| O_alloc zr137 hs rfl (fun fy w hs => O_storeN (i := 0) sz137 hs rfl rfl rfl rfl rfl (one_cons rfl (one_cons rfl one_nil)) (fun w hs => O_nil (fx _ _ <| Wr fun lu fz => O_y rfl (Y_field fo137_1 rfl) <| O_y rfl (Yb 0 ag136 hs rfl rfl rfl) ?_)))
             have hs := hs.front 17 rfl
             obtain ⟨bn, cr, H⟩ := bnd H
             refine O_callv rfl rfl rfl (book_Check_15_mae.c hs ay az a0 a1 a2 a3 a4 a5 a6 a7 a8 cr) (fun lv w hpost => ?_)
             obtain ⟨rfl, hs⟩ := hpost
             have hs := hs.sink 17
             refine Oa rfl rfl <| O_nil (fz _ _ <| Wr fun lw ga => Om rfl rfl <| O_y rfl (Y_geq rfl rfl) <| O_nil (ga _ _ <| W_if rfl (fun ce => ?_) (fun ce => ?_)))
             ·rw [if_pos ce] at H
              refine Wr fun lx gb => O_y rfl (Y_field fo137_0 rfl) <| O_y rfl (Yb 0 ag3 hs rfl rfl rfl) <| Om rfl rfl <| O_y rfl (Y_build (cs := [.int .i64 5, .int .i64 bn]) zr100 pl100 ((Parts.cons rfl rfl (Parts.cons rfl rfl Parts.nil))) ag100 (by kernel_rfl)) <| O_storeN (i := 16) sz100 hs rfl rfl rfl rfl rfl (one_cons rfl (one_cons rfl one_nil)) (fun w hs => Oa rfl rfl <| O_nil (gb _ _ <| W.weak [(2, _), (3, _)] (S2 rfl rfl) <| W_ret ?_))
              obtain rfl := sinj H
              exact retc1 (i := 16) rfl rfl rfl ag100 sz100 hs rfl rfl ⟨_, _, rfl, Le.rfl' _, (hs.sub (ssk (ssk (ssk (ssk (ssk (ssk (ssk (ssk (ssk (ssk (ssk (ssk (ssk (ssk (ssk (ssk (ssk (ssk ssr))))))))))))))))))), rfl⟩
             ·rw [if_neg ce] at H
              refine W_skip (fw _ _ <| W_region <| O_y rfl (Y_to (v' := .int .i64 12) (Y_add rfl rfl) (by kernel_rfl)) <| Om rfl rfl <| O_nil (ft _ _ <| WL.weak [(2, _), (36, _), (37, _), (38, _)] (S4 rfl rfl rfl rfl) ?_))
              have hs : St w0 ρ ((.box fy 137 ([.int .i64 5, .func (.func 112) #[] #[.pointer (some ⟨aa, 0, none⟩)]])) :: (.box cp 137 ([.int .i64 11, .func (.func 111) #[] #[.pointer (some ⟨aa, 0, none⟩), .pointer (some ⟨ad, 0, none⟩)]])) :: (.box cb 137 ([.int .i64 10, .func (.func 110) #[] #[.pointer (some ⟨aa, 0, none⟩), .pointer (some ⟨ab, 0, none⟩)]])) :: (.box bo 137 ([.int .i64 9, .func (.func 109) #[] #[.pointer (some ⟨aa, 0, none⟩), .pointer (some ⟨ab, 0, none⟩)]])) :: (.box bb 137 ([.int .i64 8, .func (.func 107) #[] #[.pointer (some ⟨aa, 0, none⟩), .pointer (some ⟨ab, 0, none⟩)]])) :: (.box ax 137 ([.int .i64 7, .func (.func 105) #[] #[.pointer (some ⟨aa, 0, none⟩), .pointer (some ⟨ab, 0, none⟩)]])) :: (.box aj 137 ([.int .i64 6, .func (.func 102) #[] #[.pointer (some ⟨aa, 0, none⟩), .pointer (some ⟨ac, 0, none⟩)]])) :: (.box ai 137 ([.int .i64 5, .func (.func 99) #[] #[.pointer (some ⟨aa, 0, none⟩), .pointer (some ⟨ac, 0, none⟩)]])) :: (.box ah 137 ([.int .i64 4, .func (.func 98) #[] #[.pointer (some ⟨aa, 0, none⟩), .pointer (some ⟨ac, 0, none⟩)]])) :: (.box ag 137 ([.int .i64 3, .func (.func 96) #[] #[.pointer (some ⟨aa, 0, none⟩)]])) :: (.box af 137 ([.int .i64 2, .func (.func 94) #[] #[.pointer (some ⟨aa, 0, none⟩), .pointer (some ⟨ab, 0, none⟩)]])) :: (.box ae 137 ([.int .i64 1, .func (.func 92) #[] #[.pointer (some ⟨aa, 0, none⟩)]])) :: (.row (.slice (some ⟨ba, 0, none⟩) 12 12) 137 2 12 [.int .i64 1, .func (.func 92) #[] #[.pointer (some ⟨aa, 0, none⟩)], .int .i64 2, .func (.func 94) #[] #[.pointer (some ⟨aa, 0, none⟩), .pointer (some ⟨ab, 0, none⟩)], .int .i64 3, .func (.func 96) #[] #[.pointer (some ⟨aa, 0, none⟩)], .int .i64 4, .func (.func 98) #[] #[.pointer (some ⟨aa, 0, none⟩), .pointer (some ⟨ac, 0, none⟩)], .int .i64 5, .func (.func 99) #[] #[.pointer (some ⟨aa, 0, none⟩), .pointer (some ⟨ac, 0, none⟩)], .int .i64 6, .func (.func 102) #[] #[.pointer (some ⟨aa, 0, none⟩), .pointer (some ⟨ac, 0, none⟩)], .int .i64 7, .func (.func 105) #[] #[.pointer (some ⟨aa, 0, none⟩), .pointer (some ⟨ab, 0, none⟩)], .int .i64 8, .func (.func 107) #[] #[.pointer (some ⟨aa, 0, none⟩), .pointer (some ⟨ab, 0, none⟩)], .int .i64 9, .func (.func 109) #[] #[.pointer (some ⟨aa, 0, none⟩), .pointer (some ⟨ab, 0, none⟩)], .int .i64 10, .func (.func 110) #[] #[.pointer (some ⟨aa, 0, none⟩), .pointer (some ⟨ab, 0, none⟩)], .int .i64 11, .func (.func 111) #[] #[.pointer (some ⟨aa, 0, none⟩), .pointer (some ⟨ad, 0, none⟩)], .int .i64 5, .func (.func 112) #[] #[.pointer (some ⟨aa, 0, none⟩)]]) :: (.box ad 135 ([.func (.func 90) #[] #[]])) :: (.box ac 133 ([.func (.func 88) #[] #[]])) :: (.box ab 133 ([.func (.func 87) #[] #[]])) :: (.box a9 100 ([.int .i64 0, .int .i64 0])) :: (.box aa 27 ([ak, al, am, an, ao, ap, aq, ar, au, av, aw])) :: Γ) w := hs
              refine WL_round fun ly lz => Wr fun l0 gc => O_y rfl (Y_to (v' := .bool false) (Y_lss rfl rfl) (by kernel_rfl)) <| O_nil (gc _ _ <| W_seq fun l1 l2 => W_false rfl <| W_exit (gm _ _ (gk _ _ <| Wr fun l3 gd => O_y rfl (Y_build (cs := [.int .i64 0, .int .i64 0]) zr100 pl100 (Parts.nil) ag100 (by kernel_rfl)) <| O_storeN (i := 16) sz100 hs rfl rfl rfl rfl rfl (one_cons rfl (one_cons rfl one_nil)) (fun w hs => Oa rfl rfl <| O_nil (gd _ _ ?_)))))
              refine W_ret ?_
              obtain rfl := sinj H
              exact retc1 (i := 16) rfl rfl rfl ag100 sz100 hs rfl rfl ⟨_, _, rfl, Le.rfl' _, (hs.sub (ssk (ssk (ssk (ssk (ssk (ssk (ssk (ssk (ssk (ssk (ssk (ssk (ssk (ssk (ssk (ssk (ssk (ssk ssr))))))))))))))))))), rfl⟩

def slices_Clone_string_string.f (x0 : List ByteArray) : Option (List ByteArray) := if ([] : List ByteArray).length + x0.length ≤ most then (some (([] : List ByteArray) ++ x0)) else none
theorem slices_Clone_string_string.c {w0 w : World} {ρ : Hp} {Γ : List Item} (hs : St w0 ρ Γ w) {v0 : Value} {x0 : List ByteArray} (h0 : SlR Rep.str ρ v0 x0) {r : List ByteArray} (H : slices_Clone_string_string.f x0 = some r) : CallsR Tryz.prog 114 [v0] w (fun v w' => ∃ (ρ' : Hp) (v0 : Value) (cs0 : List Value), v = v0 ∧ Le ρ ρ' ∧ St w0 ρ' (.row v0 9 Rep.str.sz r.length cs0 :: Γ) w' ∧ RowR Rep.str ρ' cs0 r) := by
  rw [slices_Clone_string_string.f] at H
  refine enter Tryz.func114 Tryz.ntmps114 rfl (by kernel_rfl) rfl <| Wr fun an af => Oa rfl rfl <| O_nil (af _ _ <| W_seq fun ao ag => Wr fun ap ae => Om rfl rfl ?_)
  obtain ⟨ad, c, rfl⟩ := h0.shape
  cases ad with
  | none =>
    obtain rfl : x0 = [] := h0.nilEmpty
    refine O_y rfl (Y_eqlsl un22 rfl rfl) <| O_nil (ae _ _ <| W_true rfl <| Wr fun ah aa => Oa rfl rfl <| O_nil (aa _ _ <| W_ret ?_))
    rw [if_pos (by decide)] at H
    obtain rfl := sinj H
    have hs := hs.rowNil 9 Rep.str.sz
    exact ret1 rfl rfl ⟨_, _, _, rfl, Le.rfl' _, hs, RowR.nil _ _⟩
  | some ad =>
    refine O_y rfl (Y_eqlsl un22 rfl rfl) <| O_nil (ae _ _ <| W_false rfl <| W_skip (ag _ _ <| Wr fun ah aa => O_lit (xs := []) el22 hs rfl rfl rfl (by decide) (by decide) rfl sz_nil (fun aq w hs => ?_)))
    have ai : RowR Rep.str ρ [] ([] : List ByteArray) := RowR.nil _ _
    refine Om rfl rfl ?_
    obtain ⟨aj, ab, ac⟩ := Src.sl hs h0
    obtain ⟨ak, H⟩ := gd H
    refine O_appendR (i := 0) el22 hs rfl ai rfl rfl rfl ab ac ak (fun ar al w am hs => Oa rfl rfl <| O_nil (aa _ _ <| W_ret ?_))
    obtain rfl := sinj H
    exact ret1 rfl rfl ⟨_, _, _, rfl, Le.rfl' _, hs, am⟩

def slices_Clone_api_Value_api_Value.f (x0 : List Val) : Option (List Val) := if ([] : List Val).length + x0.length ≤ most then (some (([] : List Val) ++ x0)) else none
theorem slices_Clone_api_Value_api_Value.c {w0 w : World} {ρ : Hp} {Γ : List Item} (hs : St w0 ρ Γ w) {v0 : Value} {x0 : List Val} (h0 : SlR rVal ρ v0 x0) {r : List Val} (H : slices_Clone_api_Value_api_Value.f x0 = some r) : CallsR Tryz.prog 115 [v0] w (fun v w' => ∃ (ρ' : Hp) (v0 : Value) (cs0 : List Value), v = v0 ∧ Le ρ ρ' ∧ St w0 ρ' (.row v0 67 rVal.sz r.length cs0 :: Γ) w' ∧ RowR rVal ρ' cs0 r) := by
  rw [slices_Clone_api_Value_api_Value.f] at H
  refine enter Tryz.func115 Tryz.ntmps115 rfl (by kernel_rfl) rfl <| Wr fun an af => Oa rfl rfl <| O_nil (af _ _ <| W_seq fun ao ag => Wr fun ap ae => Om rfl rfl ?_)
  obtain ⟨ad, c, rfl⟩ := h0.shape
  cases ad with
  | none =>
    obtain rfl : x0 = [] := h0.nilEmpty
    refine O_y rfl (Y_eqlsl un23 rfl rfl) <| O_nil (ae _ _ <| W_true rfl <| Wr fun ah aa => Oa rfl rfl <| O_nil (aa _ _ <| W_ret ?_))
    rw [if_pos (by decide)] at H
    obtain rfl := sinj H
    have hs := hs.rowNil 67 rVal.sz
    exact ret1 rfl rfl ⟨_, _, _, rfl, Le.rfl' _, hs, RowR.nil _ _⟩
  | some ad =>
    refine O_y rfl (Y_eqlsl un23 rfl rfl) <| O_nil (ae _ _ <| W_false rfl <| W_skip (ag _ _ <| Wr fun ah aa => O_lit (xs := []) el23 hs rfl rfl rfl (by decide) (by decide) rfl sz_nil (fun aq w hs => ?_)))
    have ai : RowR rVal ρ [] ([] : List Val) := RowR.nil _ _
    refine Om rfl rfl ?_
    obtain ⟨aj, ab, ac⟩ := Src.sl hs h0
    obtain ⟨ak, H⟩ := gd H
    refine O_appendR (i := 0) el23 hs rfl ai rfl rfl rfl ab ac ak (fun ar al w am hs => Oa rfl rfl <| O_nil (aa _ _ <| W_ret ?_))
    obtain rfl := sinj H
    exact ret1 rfl rfl ⟨_, _, _, rfl, Le.rfl' _, hs, am⟩

def slices_Clone_api_Chars_api_Chars.f (x0 : List Chs) : Option (List Chs) := if ([] : List Chs).length + x0.length ≤ most then (some (([] : List Chs) ++ x0)) else none
theorem slices_Clone_api_Chars_api_Chars.c {w0 w : World} {ρ : Hp} {Γ : List Item} (hs : St w0 ρ Γ w) {v0 : Value} {x0 : List Chs} (h0 : SlR rChs ρ v0 x0) {r : List Chs} (H : slices_Clone_api_Chars_api_Chars.f x0 = some r) : CallsR Tryz.prog 150 [v0] w (fun v w' => ∃ (ρ' : Hp) (v0 : Value) (cs0 : List Value), v = v0 ∧ Le ρ ρ' ∧ St w0 ρ' (.row v0 110 rChs.sz r.length cs0 :: Γ) w' ∧ RowR rChs ρ' cs0 r) := by
  rw [slices_Clone_api_Chars_api_Chars.f] at H
  refine enter Tryz.func150 Tryz.ntmps150 rfl (by kernel_rfl) rfl <| Wr fun an af => Oa rfl rfl <| O_nil (af _ _ <| W_seq fun ao ag => Wr fun ap ae => Om rfl rfl ?_)
  obtain ⟨ad, c, rfl⟩ := h0.shape
  cases ad with
  | none =>
    obtain rfl : x0 = [] := h0.nilEmpty
    refine O_y rfl (Y_eqlsl un24 rfl rfl) <| O_nil (ae _ _ <| W_true rfl <| Wr fun ah aa => Oa rfl rfl <| O_nil (aa _ _ <| W_ret ?_))
    rw [if_pos (by decide)] at H
    obtain rfl := sinj H
    have hs := hs.rowNil 110 rChs.sz
    exact ret1 rfl rfl ⟨_, _, _, rfl, Le.rfl' _, hs, RowR.nil _ _⟩
  | some ad =>
    refine O_y rfl (Y_eqlsl un24 rfl rfl) <| O_nil (ae _ _ <| W_false rfl <| W_skip (ag _ _ <| Wr fun ah aa => O_lit (xs := []) el24 hs rfl rfl rfl (by decide) (by decide) rfl sz_nil (fun aq w hs => ?_)))
    have ai : RowR rChs ρ [] ([] : List Chs) := RowR.nil _ _
    refine Om rfl rfl ?_
    obtain ⟨aj, ab, ac⟩ := Src.sl hs h0
    obtain ⟨ak, H⟩ := gd H
    refine O_appendR (i := 0) el24 hs rfl ai rfl rfl rfl ab ac ak (fun ar al w am hs => Oa rfl rfl <| O_nil (aa _ _ <| W_ret ?_))
    obtain rfl := sinj H
    exact ret1 rfl rfl ⟨_, _, _, rfl, Le.rfl' _, hs, am⟩

def slices_Clone_rune_rune.f (x0 : List Int) : Option (List Int) := if ([] : List Int).length + x0.length ≤ most then (some (([] : List Int) ++ x0)) else none
theorem slices_Clone_rune_rune.c {w0 w : World} {ρ : Hp} {Γ : List Item} (hs : St w0 ρ Γ w) {v0 : Value} {x0 : List Int} (h0 : SlR (Rep.int .i32) ρ v0 x0) {r : List Int} (H : slices_Clone_rune_rune.f x0 = some r) : CallsR Tryz.prog 30 [v0] w (fun v w' => ∃ (ρ' : Hp) (v0 : Value) (cs0 : List Value), v = v0 ∧ Le ρ ρ' ∧ St w0 ρ' (.row v0 21 (Rep.int .i32).sz r.length cs0 :: Γ) w' ∧ RowR (Rep.int .i32) ρ' cs0 r) := by
  rw [slices_Clone_rune_rune.f] at H
  refine enter Tryz.func30 Tryz.ntmps30 rfl (by kernel_rfl) rfl <| Wr fun an af => Oa rfl rfl <| O_nil (af _ _ <| W_seq fun ao ag => Wr fun ap ae => Om rfl rfl ?_)
  obtain ⟨ad, c, rfl⟩ := h0.shape
  cases ad with
  | none =>
    obtain rfl : x0 = [] := h0.nilEmpty
    refine O_y rfl (Y_eqlsl un28 rfl rfl) <| O_nil (ae _ _ <| W_true rfl <| Wr fun ah aa => Oa rfl rfl <| O_nil (aa _ _ <| W_ret ?_))
    rw [if_pos (by decide)] at H
    obtain rfl := sinj H
    have hs := hs.rowNil 21 (Rep.int .i32).sz
    exact ret1 rfl rfl ⟨_, _, _, rfl, Le.rfl' _, hs, RowR.nil _ _⟩
  | some ad =>
    refine O_y rfl (Y_eqlsl un28 rfl rfl) <| O_nil (ae _ _ <| W_false rfl <| W_skip (ag _ _ <| Wr fun ah aa => O_lit (xs := []) el28 hs rfl rfl rfl (by decide) (by decide) rfl sz_nil (fun aq w hs => ?_)))
    have ai : RowR (Rep.int .i32) ρ [] ([] : List Int) := RowR.nil _ _
    refine Om rfl rfl ?_
    obtain ⟨aj, ab, ac⟩ := Src.sl hs h0
    obtain ⟨ak, H⟩ := gd H
    refine O_appendR (i := 0) el28 hs rfl ai rfl rfl rfl ab ac ak (fun ar al w am hs => Oa rfl rfl <| O_nil (aa _ _ <| W_ret ?_))
    obtain rfl := sinj H
    exact ret1 rfl rfl ⟨_, _, _, rfl, Le.rfl' _, hs, am⟩

def book_own.l1 : Nat → List Chs → List Chs → Int → Option (List Chs)
  | 0, _, _, _ => none
  | af + 1, aj, aa, ab => if ab < (aj.length : Int) then (if (0 : Int) ≤ ab ∧ ab < (aa.length : Int) then ((slices_Clone_rune_rune.f ((rd aa ab).is_)).bind fun ar => ((book_own.l1 af aj) (aa.set ab.toNat ({ (rd aa ab) with is_ := ar } : Chs)) (IntKind.i64.wrap (ab + 1)))) else none) else (some aa)
def book_own.f (x0 : List Chs) : Option (List Chs) := (slices_Clone_api_Chars_api_Chars.f x0).bind fun aj => (book_own.l1 K0 aj aj 0)
theorem book_own.c {w0 w : World} {ρ : Hp} {Γ : List Item} (hs : St w0 ρ (Γ) w) {v0 : Value} {x0 : List Chs} (h0 : SlR rChs ρ v0 x0) {r : List Chs} (H : book_own.f x0 = some r) : CallsR Tryz.prog 116 [v0] w (fun v w' => ∃ (ρ' : Hp) (v0 : Value) (cs0 : List Value), v = v0 ∧ Le ρ ρ' ∧ St w0 ρ' (.row v0 110 rChs.sz r.length cs0 :: Γ) w' ∧ RowR rChs ρ' cs0 r) := by
  rw [book_own.f] at H
  refine enter Tryz.func116 Tryz.ntmps116 rfl (by kernel_rfl) rfl <| Wr fun bo a5 => Oa rfl rfl <| O_nil (a5 _ _ <| Wr fun bp a6 => Om rfl rfl ?_)
  obtain ⟨aj, au, H⟩ := bnd H
  refine O_call rfl rfl (slices_Clone_api_Chars_api_Chars.c hs h0 au) (fun a7 w hpost => ?_)
  obtain ⟨a3, bq, av, rfl, aw, hs, a8⟩ := hpost
  refine Oa rfl rfl <| O_nil (a6 _ _ <| W_seq fun br a9 => Wr fun bs ba => Om rfl rfl <| O_y rfl (Y_lenRow (i := 0) un24 hs rfl rfl) <| Om rfl rfl <| O_nil (ba _ _ <| W_block fun bt bb bu => W_loop (σ := Nat × List Chs × Int × Value × List Value × Hp) (fun (af, aa, ab, ac, ad, ah) => [(3, ac), (8, .int .i64 (aj.length : Int)), (9, .int .i64 ab)]) (fun (af, aa, ab, ac, ad, ah) w => book_own.l1 af aj aa ab = some r ∧ Le a3 ah ∧ St w0 ah ((.row ac 110 rChs.sz aa.length ad) :: Γ) w ∧ RowR rChs ah ad aa) (fun s => s.1) (K0, aj, 0, a7, av, a3) (S3 rfl rfl rfl) (Ai H (Ai (Le.rfl' _) (Ai hs a8))) ?_))
  rintro ⟨af, aa, ab, ac, ad, ah⟩ w bv ⟨H, ak, hs, ae⟩ an
  show W _ _ _ _ _ _ [(3, ac), (8, .int .i64 (aj.length : Int)), (9, .int .i64 ab)] w
  cases af with
  | zero => rw [book_own.l1] at H; cases H
  | succ af =>
  rw [book_own.l1] at H
  refine Wr fun bw bc => O_y rfl (Y_lss rfl rfl) <| O_nil (bc _ _ <| W_seq fun bx bd => W_if rfl (fun ax => ?_) (fun ax => ?_))
  ·rw [if_pos ax] at H
   refine W_skip (bd _ _ <| W_seq fun bz be => W_block fun b0 b1 b2 => Wr fun b3 bf => Om rfl rfl <| Oa rfl rfl <| O_nil (bf _ _ <| W_region <| Om rfl rfl <| Om rfl rfl <| Om rfl rfl <| Om rfl rfl ?_))
   obtain ⟨ag, H⟩ := gd H
   obtain ⟨b4, ao⟩ := hs.rowBlock (j := 0) rfl (by have := ag.2; omega)
   obtain ⟨_, ⟨b5, rfl, bg⟩, ay⟩ := ae.at ag.1 ag.2
   refine O_y rfl (Y_ixRow (j := 0) el24 hs rfl ao rfl rfl ag.1 ag.2) <| O_y rfl (Y_field fo110_2 rfl) <| O_y rfl (Y_load ag28 rfl (hs.rowCell (j := 0) rfl ao (ay 2 _ rfl))) ?_
   obtain ⟨ar, az, H⟩ := bnd H
   refine O_call rfl rfl (slices_Clone_rune_rune.c hs bg az) (fun b6 w hpost => ?_)
   obtain ⟨bh, b7, bi, rfl, ai, hs, bj⟩ := hpost
   obtain ⟨bk, al⟩ := hs.rowBlock (j := 1) rfl (by have := ag.2; omega)
   obtain ⟨_, ⟨bl, rfl, bm⟩, a4⟩ := (ae.mono ai).at ag.1 ag.2
   refine O_y rfl (Y_ixRow (j := 1) el24 hs rfl al rfl rfl ag.1 ag.2) <| O_y rfl (Y_field fo110_2 rfl) ?_
   obtain ⟨a0, am, hs, ap⟩ := hs.rowEnd (j := 0) bj rfl
   refine O_storeRowF (j := 0) (off := 2) (z := ({ (rd aa ab) with is_ := ar } : Chs)) sz28 hs rfl al ag.1 ag.2 (by decide) (ae.mono (ai.trans am)) rfl rfl ap.one (fun c h => by obtain ⟨v_2, rfl, f_2⟩ := h; exact ⟨_, rfl, ap⟩) (fun aq w a1 hs => O_nil (be _ _ <| W.weak [(3, _), (8, _), (9, _)] (S3 rfl rfl rfl) <| W_region <| O_y rfl (Y_add rfl rfl) <| Om rfl rfl <| O_nil (an (af, (aa.set ab.toNat ({ (rd aa ab) with is_ := ar } : Chs)), (IntKind.i64.wrap (ab + 1)), ac, aq, a0) _ _ (S3 rfl rfl rfl) (Ai H (Ai ((ak.trans ai).trans am) (Ai hs a1))) (Nat.lt_succ_self _))))
  ·rw [if_neg ax] at H
   refine W_exit (bb _ _ (a9 _ _ <| Wr fun bn a2 => Om rfl rfl <| Oa rfl rfl <| O_nil (a2 _ _ <| W_ret ?_)))
   obtain rfl := sinj H
   exact ret1 rfl rfl ⟨_, _, _, rfl, (aw.trans ak), hs, ae⟩

def slices_Clone_api_Span_api_Span.f (x0 : List Spn) : Option (List Spn) := if ([] : List Spn).length + x0.length ≤ most then (some (([] : List Spn) ++ x0)) else none
theorem slices_Clone_api_Span_api_Span.c {w0 w : World} {ρ : Hp} {Γ : List Item} (hs : St w0 ρ Γ w) {v0 : Value} {x0 : List Spn} (h0 : SlR rSpn ρ v0 x0) {r : List Spn} (H : slices_Clone_api_Span_api_Span.f x0 = some r) : CallsR Tryz.prog 117 [v0] w (fun v w' => ∃ (ρ' : Hp) (v0 : Value) (cs0 : List Value), v = v0 ∧ Le ρ ρ' ∧ St w0 ρ' (.row v0 129 rSpn.sz r.length cs0 :: Γ) w' ∧ RowR rSpn ρ' cs0 r) := by
  rw [slices_Clone_api_Span_api_Span.f] at H
  refine enter Tryz.func117 Tryz.ntmps117 rfl (by kernel_rfl) rfl <| Wr fun an af => Oa rfl rfl <| O_nil (af _ _ <| W_seq fun ao ag => Wr fun ap ae => Om rfl rfl ?_)
  obtain ⟨ad, c, rfl⟩ := h0.shape
  cases ad with
  | none =>
    obtain rfl : x0 = [] := h0.nilEmpty
    refine O_y rfl (Y_eqlsl un25 rfl rfl) <| O_nil (ae _ _ <| W_true rfl <| Wr fun ah aa => Oa rfl rfl <| O_nil (aa _ _ <| W_ret ?_))
    rw [if_pos (by decide)] at H
    obtain rfl := sinj H
    have hs := hs.rowNil 129 rSpn.sz
    exact ret1 rfl rfl ⟨_, _, _, rfl, Le.rfl' _, hs, RowR.nil _ _⟩
  | some ad =>
    refine O_y rfl (Y_eqlsl un25 rfl rfl) <| O_nil (ae _ _ <| W_false rfl <| W_skip (ag _ _ <| Wr fun ah aa => O_lit (xs := []) el25 hs rfl rfl rfl (by decide) (by decide) rfl sz_nil (fun aq w hs => ?_)))
    have ai : RowR rSpn ρ [] ([] : List Spn) := RowR.nil _ _
    refine Om rfl rfl ?_
    obtain ⟨aj, ab, ac⟩ := Src.sl hs h0
    obtain ⟨ak, H⟩ := gd H
    refine O_appendR (i := 0) el25 hs rfl ai rfl rfl rfl ab ac ak (fun ar al w am hs => Oa rfl rfl <| O_nil (aa _ _ <| W_ret ?_))
    obtain rfl := sinj H
    exact ret1 rfl rfl ⟨_, _, _, rfl, Le.rfl' _, hs, am⟩

def book_copied.f (x0 : Bk) : Option Bk := (slices_Clone_string_string.f x0.names).bind fun di => ((slices_Clone_api_Value_api_Value.f x0.status).bind fun dj => ((book_own.f x0.maps).bind fun bh => ((slices_Clone_api_Value_api_Value.f x0.class_).bind fun bi => ((book_own.f x0.decomp).bind fun bj => ((slices_Clone_api_Span_api_Span.f x0.excl).bind fun bk => ((slices_Clone_api_Value_api_Value.f x0.bidi).bind fun bl => ((slices_Clone_api_Value_api_Value.f x0.join).bind fun bm => ((slices_Clone_api_Span_api_Span.f x0.marks).bind fun bn => ((slices_Clone_api_Value_api_Value.f x0.script).bind fun bo => ((book_own.f x0.like).bind fun bp => (some (⟨di, dj, bh, bi, bj, bk, bl, bm, bn, bo, bp⟩ : Bk))))))))))))
theorem book_copied.c {w0 w : World} {ρ : Hp} {Γ : List Item} (hs : St w0 ρ (Γ) w) {c0 : List Value} {x0 : Bk} (h0 : rBk.R ρ c0 x0) {r : Bk} (H : book_copied.f x0 = some r) : CallsR Tryz.prog 61 [.agg c0.toArray] w (fun v w' => ∃ (ρ' : Hp) (cs0 : List Value), v = .agg cs0.toArray ∧ Le ρ ρ' ∧ St w0 ρ' (Γ) w' ∧ rBk.R ρ' cs0 r) := by
  rw [book_copied.f] at H
  refine enter Tryz.func61 Tryz.ntmps61 rfl (by kernel_rfl) rfl ?_
  have ef := h0
  obtain ⟨dk, dl, dm, dn, dp, dq, dr, ds, dt, du, dv, rfl, eg, eh, ei, ej, ek, el, em, en, eo, ep, eq⟩ := ef
  refine Wr fun gg er => O_boxN (cs := [dk, dl, dm, dn, dp, dq, dr, ds, dt, du, dv]) hs rfl rfl (fun es w hs => O_alloc zr27 hs rfl (fun et w hs => O_nil (er _ _ <| W_seq fun gh eu => W_drawS 35 [0, 1, 2, 0, 8, 20, 0, 64, 160, 0, 512, 1280, 0, 4096, 10240, 0, 32768, 81920, 0, 262144, 655360, 0, 2097152, 5242880, 0, 16777216, 41943040, 0, 134217728, 335544320, 0, 1073741824, 2684354560, 4908534052, 17179869183] [17179869180, 17179869176, 8589934552, 17179869159, 17179869127, 8589934272, 17179868991, 17179868735, 8589932032, 17179867647, 17179865599, 8589914112, 17179856895, 17179840511, 8589770752, 17179770879, 17179639807, 8588623872, 17179082751, 17178034175, 8579448832, 17173577727, 17165189119, 8506048512, 17129537535, 17062428671, 7918845952, 16777215999, 16240345087, 3221225472, 13958643711, 9663676415, 0, 0, 0] [0, 1, 3, 0, 8, 31, 0, 64, 255, 0, 512, 2047, 0, 4096, 16383, 0, 32768, 131071, 0, 262144, 1048575, 0, 2097152, 8388607, 0, 16777216, 67108863, 0, 134217728, 536870911, 0, 1073741824, 4294967295, 8589934591, 17179869183] [34] (fun w => St w0 ρ ((.box et 27 ([.slice none 0 0, .slice none 0 0, .slice none 0 0, .slice none 0 0, .slice none 0 0, .slice none 0 0, .slice none 0 0, .slice none 0 0, .slice none 0 0, .slice none 0 0, .slice none 0 0])) :: (.box es 27 ([dk, dl, dm, dn, dp, dq, dr, ds, dt, du, dv])) :: Γ) w) mixed (by kernel_rfl) (fun sh => ?_))))
  have hs := hs.drew
  refine Dp 0 sh rfl rfl (by kernel_rfl) (fun w => Y_field fo27_0 rfl) <| Dy 1 sh rfl rfl (by kernel_rfl) hs (fun w hs => Yb 1 ag22 hs rfl rfl rfl) <| Dp 3 sh rfl rfl (by kernel_rfl) (fun w => Y_field fo27_1 rfl) <| Dy 4 sh rfl rfl (by kernel_rfl) hs (fun w hs => Yb 1 ag23 hs rfl rfl rfl) <| Dp 6 sh rfl rfl (by kernel_rfl) (fun w => Y_field fo27_2 rfl) <| Dy 7 sh rfl rfl (by kernel_rfl) hs (fun w hs => Yb 1 ag24 hs rfl rfl rfl) <| Dp 9 sh rfl rfl (by kernel_rfl) (fun w => Y_field fo27_3 rfl) <| Dy 10 sh rfl rfl (by kernel_rfl) hs (fun w hs => Yb 1 ag23 hs rfl rfl rfl) <| Dp 12 sh rfl rfl (by kernel_rfl) (fun w => Y_field fo27_4 rfl) <| Dy 13 sh rfl rfl (by kernel_rfl) hs (fun w hs => Yb 1 ag24 hs rfl rfl rfl) <| Dp 15 sh rfl rfl (by kernel_rfl) (fun w => Y_field fo27_5 rfl) <| Dy 16 sh rfl rfl (by kernel_rfl) hs (fun w hs => Yb 1 ag25 hs rfl rfl rfl) <| Dp 18 sh rfl rfl (by kernel_rfl) (fun w => Y_field fo27_6 rfl) <| Dy 19 sh rfl rfl (by kernel_rfl) hs (fun w hs => Yb 1 ag23 hs rfl rfl rfl) ?_
  refine Dp 21 sh rfl rfl (by kernel_rfl) (fun w => Y_field fo27_7 rfl) <| Dy 22 sh rfl rfl (by kernel_rfl) hs (fun w hs => Yb 1 ag23 hs rfl rfl rfl) <| Dp 24 sh rfl rfl (by kernel_rfl) (fun w => Y_field fo27_8 rfl) <| Dy 25 sh rfl rfl (by kernel_rfl) hs (fun w hs => Yb 1 ag25 hs rfl rfl rfl) <| Dp 27 sh rfl rfl (by kernel_rfl) (fun w => Y_field fo27_9 rfl) <| Dy 28 sh rfl rfl (by kernel_rfl) hs (fun w hs => Yb 1 ag23 hs rfl rfl rfl) <| Dp 30 sh rfl rfl (by kernel_rfl) (fun w => Y_field fo27_10 rfl) <| Dy 31 sh rfl rfl (by kernel_rfl) hs (fun w hs => Yb 1 ag24 hs rfl rfl rfl) <| D1 2 sh rfl (by kernel_rfl) (fun gi ev => ?_)
  obtain ⟨di, b2, H⟩ := bnd H
  refine O_call rfl rfl (slices_Clone_string_string.c hs eg b2) (fun ew w hpost => ?_)
  obtain ⟨gj, gk, ex, rfl, aw, hs, ey⟩ := hpost
  refine O_nil (ev _ _ (fun _ _ => ((hs.less aw).sub (ssk (ssc (ssc ssr))))) <| D1 5 sh rfl (by kernel_rfl) (fun gl ez => ?_))
  obtain ⟨dj, b3, H⟩ := bnd H
  refine O_call rfl rfl (slices_Clone_api_Value_api_Value.c hs (eh.mono aw) b3) (fun e0 w hpost => ?_)
  obtain ⟨gm, gn, e1, rfl, bq, hs, e2⟩ := hpost
  have ax := aw.trans bq
  refine O_nil (ez _ _ (fun _ _ => ((hs.less ax).sub (ssk (ssk (ssc (ssc ssr)))))) <| D1 8 sh rfl (by kernel_rfl) (fun e3 b4 => ?_))
  obtain ⟨bh, br, H⟩ := bnd H
  refine O_call rfl rfl (book_own.c hs (ei.mono ax) br) (fun b5 w hpost => ?_)
  obtain ⟨e4, e5, dw, rfl, av, hs, b6⟩ := hpost
  have ay := ax.trans av
  refine O_nil (b4 _ _ (fun _ _ => ((hs.less ay).sub (ssk (ssk (ssk (ssc (ssc ssr))))))) <| D1 11 sh rfl (by kernel_rfl) (fun e6 b7 => ?_))
  obtain ⟨bi, bs, H⟩ := bnd H
  refine O_call rfl rfl (slices_Clone_api_Value_api_Value.c hs (ej.mono ay) bs) (fun b8 w hpost => ?_)
  obtain ⟨e7, e8, dx, rfl, au, hs, b9⟩ := hpost
  have az := ay.trans au
  refine O_nil (b7 _ _ (fun _ _ => ((hs.less az).sub (ssk (ssk (ssk (ssk (ssc (ssc ssr)))))))) <| D1 14 sh rfl (by kernel_rfl) (fun e9 ca => ?_))
  obtain ⟨bj, bt, H⟩ := bnd H
  refine O_call rfl rfl (book_own.c hs (ek.mono az) bt) (fun cb w hpost => ?_)
  obtain ⟨fa, fb, dy, rfl, ar, hs, cc⟩ := hpost
  have a0 := az.trans ar
  refine O_nil (ca _ _ (fun _ _ => ((hs.less a0).sub (ssk (ssk (ssk (ssk (ssk (ssc (ssc ssr))))))))) <| D1 17 sh rfl (by kernel_rfl) (fun fc cd => ?_))
  obtain ⟨bk, bu, H⟩ := bnd H
  refine O_call rfl rfl (slices_Clone_api_Span_api_Span.c hs (el.mono a0) bu) (fun ce w hpost => ?_)
  obtain ⟨fd, fe, dz, rfl, aq, hs, cf⟩ := hpost
  have a1 := a0.trans aq
  refine O_nil (cd _ _ (fun _ _ => ((hs.less a1).sub (ssk (ssk (ssk (ssk (ssk (ssk (ssc (ssc ssr)))))))))) <| D1 20 sh rfl (by kernel_rfl) (fun ff cg => ?_))
  obtain ⟨bl, bv, H⟩ := bnd H
  refine O_call rfl rfl (slices_Clone_api_Value_api_Value.c hs (em.mono a1) bv) (fun ch w hpost => ?_)
  obtain ⟨fg, fh, ea, rfl, ap, hs, ci⟩ := hpost
  have a2 := a1.trans ap
  refine O_nil (cg _ _ (fun _ _ => ((hs.less a2).sub (ssk (ssk (ssk (ssk (ssk (ssk (ssk (ssc (ssc ssr))))))))))) <| D1 23 sh rfl (by kernel_rfl) (fun fi cj => ?_))
  obtain ⟨bm, bw, H⟩ := bnd H
  refine O_call rfl rfl (slices_Clone_api_Value_api_Value.c hs (en.mono a2) bw) (fun ck w hpost => ?_)
  obtain ⟨fj, fk, eb, rfl, ao, hs, cl⟩ := hpost
  have a3 := a2.trans ao
  refine O_nil (cj _ _ (fun _ _ => ((hs.less a3).sub (ssk (ssk (ssk (ssk (ssk (ssk (ssk (ssk (ssc (ssc ssr)))))))))))) <| D1 26 sh rfl (by kernel_rfl) (fun fl cm => ?_))
  obtain ⟨bn, bx, H⟩ := bnd H
  refine O_call rfl rfl (slices_Clone_api_Span_api_Span.c hs (eo.mono a3) bx) (fun cn w hpost => ?_)
  obtain ⟨fm, fn, ec, rfl, an, hs, co⟩ := hpost
  have a4 := a3.trans an
  refine O_nil (cm _ _ (fun _ _ => ((hs.less a4).sub (ssk (ssk (ssk (ssk (ssk (ssk (ssk (ssk (ssk (ssc (ssc ssr))))))))))))) <| D1 29 sh rfl (by kernel_rfl) (fun fo cp => ?_))
  obtain ⟨bo, bz, H⟩ := bnd H
  refine O_call rfl rfl (slices_Clone_api_Value_api_Value.c hs (ep.mono a4) bz) (fun cq w hpost => ?_)
  obtain ⟨fp, fq, ed, rfl, am, hs, cr⟩ := hpost
  have a5 := a4.trans am
  refine O_nil (cp _ _ (fun _ _ => ((hs.less a5).sub (ssk (ssk (ssk (ssk (ssk (ssk (ssk (ssk (ssk (ssk (ssc (ssc ssr)))))))))))))) <| D1 32 sh rfl (by kernel_rfl) (fun fr ct => ?_))
  obtain ⟨bp, b0, H⟩ := bnd H
  refine O_call rfl rfl (book_own.c hs (eq.mono a5) b0) (fun cu w hpost => ?_)
  obtain ⟨fs, ft, ee, rfl, aa, hs, cv⟩ := hpost
  have b1 := a5.trans aa
  refine O_nil (ct _ _ (fun _ _ => ((hs.less b1).sub (ssk (ssk (ssk (ssk (ssk (ssk (ssk (ssk (ssk (ssk (ssk (ssc (ssc ssr))))))))))))))) ?_)
  obtain ⟨fu, ab, hs, a6⟩ := hs.rowEnd (j := 10) (ey.mono (((((((((bq.trans av).trans au).trans ar).trans aq).trans ap).trans ao).trans an).trans am).trans aa)) rfl
  have cw := b1.trans ab
  obtain ⟨fv, ac, hs, a7⟩ := hs.rowEnd (j := 9) (e2.mono (((((((((av.trans au).trans ar).trans aq).trans ap).trans ao).trans an).trans am).trans aa).trans ab)) rfl
  have cx := cw.trans ac
  obtain ⟨fw, ad, hs, a8⟩ := hs.rowEnd (j := 8) (b6.mono (((((((((au.trans ar).trans aq).trans ap).trans ao).trans an).trans am).trans aa).trans ab).trans ac)) rfl
  have cy := cx.trans ad
  obtain ⟨fx, ae, hs, a9⟩ := hs.rowEnd (j := 7) (b9.mono (((((((((ar.trans aq).trans ap).trans ao).trans an).trans am).trans aa).trans ab).trans ac).trans ad)) rfl
  have cz := cy.trans ae
  obtain ⟨fy, af, hs, ba⟩ := hs.rowEnd (j := 6) (cc.mono (((((((((aq.trans ap).trans ao).trans an).trans am).trans aa).trans ab).trans ac).trans ad).trans ae)) rfl
  have da := cz.trans af
  obtain ⟨fz, ag, hs, bb⟩ := hs.rowEnd (j := 5) (cf.mono (((((((((ap.trans ao).trans an).trans am).trans aa).trans ab).trans ac).trans ad).trans ae).trans af)) rfl
  have db := da.trans ag
  obtain ⟨ga, ah, hs, bc⟩ := hs.rowEnd (j := 4) (ci.mono (((((((((ao.trans an).trans am).trans aa).trans ab).trans ac).trans ad).trans ae).trans af).trans ag)) rfl
  have dc := db.trans ah
  obtain ⟨gb, ai, hs, bd⟩ := hs.rowEnd (j := 3) (cl.mono (((((((((an.trans am).trans aa).trans ab).trans ac).trans ad).trans ae).trans af).trans ag).trans ah)) rfl
  have dd := dc.trans ai
  obtain ⟨gc, aj, hs, be⟩ := hs.rowEnd (j := 2) (co.mono (((((((((am.trans aa).trans ab).trans ac).trans ad).trans ae).trans af).trans ag).trans ah).trans ai)) rfl
  have de := dd.trans aj
  obtain ⟨gd, ak, hs, bf⟩ := hs.rowEnd (j := 1) (cr.mono (((((((((aa.trans ab).trans ac).trans ad).trans ae).trans af).trans ag).trans ah).trans ai).trans aj)) rfl
  have df := de.trans ak
  obtain ⟨ge, al, hs, bg⟩ := hs.rowEnd (j := 0) (cv.mono (((((((((ab.trans ac).trans ad).trans ae).trans af).trans ag).trans ah).trans ai).trans aj).trans ak)) rfl
  have dg := df.trans al
  refine Dp 33 sh rfl rfl (by kernel_rfl) (fun w => Y_build (cs := [ew, e0, b5, b8, cb, ce, ch, ck, cn, cq, cu]) zr27 pl27 ((Parts.cons rfl a6.cellsL (Parts.cons rfl a7.cellsL (Parts.cons rfl a8.cellsL (Parts.cons rfl a9.cellsL (Parts.cons rfl ba.cellsL (Parts.cons rfl bb.cellsL (Parts.cons rfl bc.cellsL (Parts.cons rfl bd.cellsL (Parts.cons rfl be.cellsL (Parts.cons rfl bf.cellsL (Parts.cons rfl bg.cellsL Parts.nil)))))))))))) ag27 (by kernel_rfl)) <| D1 34 sh rfl (by kernel_rfl) (fun gf dh => O_storeN (i := 0) sz27 hs rfl rfl rfl rfl rfl (one_cons a6.one (one_cons a7.one (one_cons a8.one (one_cons a9.one (one_cons ba.one (one_cons bb.one (one_cons bc.one (one_cons bd.one (one_cons be.one (one_cons bf.one (one_cons bg.one one_nil))))))))))) (fun w hs => O_nil (dh _ _ (fun h _ => absurd h (by decide)) <| OD_doneS sh (by kernel_rfl) (eu _ _ <| W.weak [(2, _)] (S1 rfl) <| W_ret ?_))))
  obtain rfl := sinj H
  exact retc (i := 0) rfl rfl ag27 sz27 hs rfl rfl ⟨_, _, rfl, dg, (hs.sub (ssk (ssk ssr))), ⟨_, _, _, _, _, _, _, _, _, _, _, rfl, (a6.mono (((((((((ac.trans ad).trans ae).trans af).trans ag).trans ah).trans ai).trans aj).trans ak).trans al)), (a7.mono ((((((((ad.trans ae).trans af).trans ag).trans ah).trans ai).trans aj).trans ak).trans al)), (a8.mono (((((((ae.trans af).trans ag).trans ah).trans ai).trans aj).trans ak).trans al)), (a9.mono ((((((af.trans ag).trans ah).trans ai).trans aj).trans ak).trans al)), (ba.mono (((((ag.trans ah).trans ai).trans aj).trans ak).trans al)), (bb.mono ((((ah.trans ai).trans aj).trans ak).trans al)), (bc.mono (((ai.trans aj).trans ak).trans al)), (bd.mono ((aj.trans ak).trans al)), (be.mono (ak.trans al)), (bf.mono al), bg⟩⟩

def stage_check.j1 (af : Int → Int → Option (Int × Int)) (x0 : List Val) (aa : Int) (ab : Bool) : Option (Int × Int) := if ab = true then (some (aa, 81)) else (af ((rd x0 aa).hi) (IntKind.i64.wrap (aa + 1)))
def stage_check.j2 (af : Int → Int → Option (Int × Int)) (x0 : List Val) (aa : Int) (ac : Bool) : Option (Int × Int) := if ac = true then (some (aa, 80)) else (if ((rd x0 aa).n) < 0 then (stage_check.j1 af x0 aa true) else (stage_check.j1 af x0 aa (decide (65535 < ((rd x0 aa).n)))))
def stage_check.l1 : Nat → List Val → Int → Int → Option (Int × Int)
  | 0, _, _, _ => none
  | ad + 1, x0, ae, aa => if aa < (x0.length : Int) then (if (0 : Int) ≤ aa ∧ aa < (x0.length : Int) then (if ((rd x0 aa).lo) ≤ ae then (stage_check.j2 (stage_check.l1 ad x0) x0 aa true) else (if ((rd x0 aa).hi) < ((rd x0 aa).lo) then (stage_check.j2 (stage_check.l1 ad x0) x0 aa true) else (stage_check.j2 (stage_check.l1 ad x0) x0 aa (decide (1114111 < ((rd x0 aa).hi)))))) else none) else (some (0, 0))
def stage_check.f (x0 : List Val) : Option (Int × Int) := if 65536 < (x0.length : Int) then (some (65536, 80)) else (stage_check.l1 K0 x0 (-1) 0)
theorem stage_check.c {w0 w : World} {ρ : Hp} {Γ : List Item} (hs : St w0 ρ (Γ) w) {v0 : Value} {x0 : List Val} (h0 : SlR rVal ρ v0 x0) {r : Int × Int} (H : stage_check.f x0 = some r) : CallsR Tryz.prog 151 [v0] w (fun v w' => v = .tuple #[.int .i64 r.1, .int .i64 r.2] ∧ St w0 ρ Γ w') := by
  rw [stage_check.f] at H
  refine enter Tryz.func151 Tryz.ntmps151 rfl (by kernel_rfl) rfl <| Wr fun bm a1 => Oa rfl rfl <| Oa rfl rfl <| O_nil (a1 _ _ <| W_seq fun bn a2 => Wr fun bo a3 => Om rfl rfl <| O_y rfl (Y_lenR un23 h0 rfl) <| O_y rfl (Y_gtr rfl rfl) <| O_nil (a3 _ _ <| W_if rfl (fun aq => ?_) (fun aq => ?_)))
  ·rw [if_pos aq] at H
   refine Wr fun bp a4 => Oa rfl rfl <| Oa rfl rfl <| O_nil (a4 _ _ <| W_ret ?_)
   obtain rfl := sinj H
   exact ret2 rfl rfl rfl ⟨rfl, hs⟩
  ·rw [if_neg aq] at H
   refine W_skip (a2 _ _ <| Wr fun bq a5 => Oa rfl rfl <| O_nil (a5 _ _ <| W_seq fun br a6 => Wr fun bs a7 => Om rfl rfl <| O_y rfl (Y_lenR un23 h0 rfl) <| Om rfl rfl <| O_nil (a7 _ _ <| W_block fun bt a8 bu => W_loop (σ := Nat × Int × Int) (fun (ad, ae, aa) => [(4, .int .i32 ae), (10, v0), (11, .int .i64 (x0.length : Int)), (12, .int .i64 aa)]) (fun (ad, ae, aa) w => stage_check.l1 ad x0 ae aa = some r ∧ St w0 ρ (Γ) w) (fun s => s.1) (K0, (-1), 0) (S4 rfl rfl rfl rfl) (Ai H hs) ?_)))
   rintro ⟨ad, ae, aa⟩ w bv ⟨H, hs⟩ ag
   show W _ _ _ _ _ _ [(4, .int .i32 ae), (10, v0), (11, .int .i64 (x0.length : Int)), (12, .int .i64 aa)] w
   cases ad with
   | zero => rw [stage_check.l1] at H; cases H
   | succ ad =>
   rw [stage_check.l1] at H
   refine Wr fun bw a9 => O_y rfl (Y_lss rfl rfl) <| O_nil (a9 _ _ <| W_seq fun bx ba => W_if rfl (fun ar => ?_) (fun ar => ?_))
   ·rw [if_pos ar] at H
    refine W_skip (ba _ _ <| W_seq fun bz bb => W_block fun b0 b1 b2 => Wr fun b3 bc => Om rfl rfl ?_)
    obtain ⟨a0, H⟩ := gd H
    obtain ⟨b4, b5, bd, be⟩ := h0.ix el23 a0.1 a0.2
    obtain ⟨_, rfl, bf⟩ := bd
    refine O_y rfl (be rfl rfl) <| O_y rfl (Y_loadN ag67 sz67 rfl rfl (fun j u hu => hs.see (bf j u hu))) <| O_alloc zr67 hs rfl (fun ap w hs => Oa rfl rfl <| O_storeN (i := 0) sz67 hs rfl rfl rfl rfl rfl (one_cons rfl (one_cons rfl (one_cons rfl one_nil))) (fun w hs => O_nil (bc _ _ <| W_seq fun b6 bg => W_block fun b7 b8 b9 => W_seqj fun bh bi au => ?_)))
    have ah : ∀ (ac : Bool) (w : World), stage_check.j2 (stage_check.l1 ad x0) x0 aa ac = some r → St w0 ρ ((.box ap 67 ([.int .i32 ((rd x0 aa).lo), .int .i32 ((rd x0 aa).hi), .int .i64 ((rd x0 aa).n)])) :: Γ) w → bh [(5, .int .i64 aa), (6, .pointer (some ⟨ap, 0, none⟩)), (10, v0), (11, .int .i64 (x0.length : Int)), (12, .int .i64 aa), (17, .bool ac)] w := by
     intro ac w H hs
     rw [stage_check.j2] at H
     refine bi _ _ <| W_cond rfl (fun ai => ?_) (fun ai => ?_)
     ·rw [if_pos ai] at H
      refine Wr fun bj av => Om rfl rfl <| Oa rfl rfl <| Oa rfl rfl <| O_nil (av _ _ <| W_ret ?_)
      obtain rfl := sinj H
      exact ret2 rfl rfl rfl ⟨rfl, (hs.sub (ssk ssr))⟩
     ·rw [if_neg (bft ai)] at H
      refine W_seqj fun aw ax an => ?_
      have ao : ∀ (ab : Bool) (w : World), stage_check.j1 (stage_check.l1 ad x0) x0 aa ab = some r → St w0 ρ ((.box ap 67 ([.int .i32 ((rd x0 aa).lo), .int .i32 ((rd x0 aa).hi), .int .i64 ((rd x0 aa).n)])) :: Γ) w → aw [(5, .int .i64 aa), (6, .pointer (some ⟨ap, 0, none⟩)), (10, v0), (11, .int .i64 (x0.length : Int)), (12, .int .i64 aa), (35, .bool ab)] w := by
       intro ab w H hs
       rw [stage_check.j1] at H
       refine ax _ _ <| W_cond rfl (fun aj => ?_) (fun aj => ?_)
       ·rw [if_pos aj] at H
        refine Wr fun bk ay => Om rfl rfl <| Oa rfl rfl <| Oa rfl rfl <| O_nil (ay _ _ <| W_ret ?_)
        obtain rfl := sinj H
        exact ret2 rfl rfl rfl ⟨rfl, (hs.sub (ssk ssr))⟩
       ·rw [if_neg (bft aj)] at H
        refine W_skip (bg _ _ <| W_region <| O_y rfl (Y_field fo67_1 rfl) <| O_y rfl (Yb 0 ag21 hs rfl rfl rfl) <| Oa rfl rfl <| O_nil (bb _ _ <| W_region <| O_y rfl (Y_add rfl rfl) <| Om rfl rfl <| O_nil (ag (ad, ((rd x0 aa).hi), (IntKind.i64.wrap (aa + 1))) _ _ (S4 rfl rfl rfl rfl) (Ai H (hs.sub (ssk ssr))) (Nat.lt_succ_self _))))
      refine W_region <| O_y rfl (Y_field fo67_2 rfl) <| O_y rfl (Yb 0 ag3 hs rfl rfl rfl) <| O_y rfl (Y_lss rfl rfl) <| Om rfl rfl <| O_if (dj := 39) rfl (fun ak => ?_) (fun ak => ?_)
      ·rw [if_pos ak] at H
       refine O_no rfl rfl rfl rfl <| O_no rfl rfl rfl rfl <| O_no rfl rfl rfl rfl <| O_y rfl (Y_pick_t rfl rfl) <| Oa rfl rfl <| O_nil (an _ _ _ (by repeat first | exact Sub.nil | refine Sub.cons rfl ?_) (ao true _ H hs))
      ·rw [if_neg ak] at H
       refine O_yes rfl rfl <| O_y rfl (Y_field fo67_2 rfl) <| O_yes rfl rfl <| O_y rfl (Yb 0 ag3 hs rfl rfl rfl) <| O_yes rfl rfl <| O_y rfl (Y_gtr rfl rfl) <| O_y rfl (Y_pick_f rfl rfl) <| Oa rfl rfl <| O_nil (an _ _ _ (by repeat first | exact Sub.nil | refine Sub.cons rfl ?_) (ao (decide (65535 < ((rd x0 aa).n))) _ H hs))
    refine W_region <| O_y rfl (Y_field fo67_0 rfl) <| O_y rfl (Yb 0 ag21 hs rfl rfl rfl) <| Om rfl rfl <| O_y rfl (Y_leq rfl rfl) <| Om rfl rfl <| O_if (dj := 22) rfl (fun al => ?_) (fun al => ?_)
    ·rw [if_pos al] at H
     refine O_no rfl rfl rfl rfl <| O_no rfl rfl rfl rfl <| O_no rfl rfl rfl rfl <| O_no rfl rfl rfl rfl <| O_no rfl rfl rfl rfl <| O_y rfl (Y_pick_t rfl rfl) <| Om rfl rfl <| O_no rfl rfl rfl rfl <| O_no rfl rfl rfl rfl <| O_no rfl rfl rfl rfl <| O_y rfl (Y_pick_t rfl rfl) <| Oa rfl rfl <| O_nil (au _ _ _ (by repeat first | exact Sub.nil | refine Sub.cons rfl ?_) (ah true _ H hs))
    ·rw [if_neg al] at H
     refine O_yes rfl rfl <| O_y rfl (Y_field fo67_1 rfl) <| O_yes rfl rfl <| O_y rfl (Yb 0 ag21 hs rfl rfl rfl) <| O_yes rfl rfl <| O_y rfl (Y_field fo67_0 rfl) <| O_yes rfl rfl <| O_y rfl (Yb 0 ag21 hs rfl rfl rfl) <| O_yes rfl rfl <| O_y rfl (Y_lss rfl rfl) <| O_y rfl (Y_pick_f rfl rfl) <| Om rfl rfl <| O_if (dj := 29) rfl (fun am => ?_) (fun am => ?_)
     ·rw [if_pos am] at H
      refine O_no rfl rfl rfl rfl <| O_no rfl rfl rfl rfl <| O_no rfl rfl rfl rfl <| O_y rfl (Y_pick_t rfl rfl) <| Oa rfl rfl <| O_nil (au _ _ _ (by repeat first | exact Sub.nil | refine Sub.cons rfl ?_) (ah true _ H hs))
     ·rw [if_neg am] at H
      refine O_yes rfl rfl <| O_y rfl (Y_field fo67_1 rfl) <| O_yes rfl rfl <| O_y rfl (Yb 0 ag21 hs rfl rfl rfl) <| O_yes rfl rfl <| O_y rfl (Y_gtr rfl rfl) <| O_y rfl (Y_pick_f rfl rfl) <| Oa rfl rfl <| O_nil (au _ _ _ (by repeat first | exact Sub.nil | refine Sub.cons rfl ?_) (ah (decide (1114111 < ((rd x0 aa).hi))) _ H hs))
   ·rw [if_neg ar] at H
    refine W_exit (a8 _ _ (a6 _ _ <| Wr fun bl az => Oa rfl rfl <| Oa rfl rfl <| O_nil (az _ _ <| W_ret ?_)))
    obtain rfl := sinj H
    exact ret2 rfl rfl rfl ⟨rfl, hs⟩

def stage_lay_fod.j1 (aa : Int) (ag : Vector Int 128) (ai : Bool) : Option (Bool × Int × Vector Int 128) := some (ai, aa, ag)
def stage_lay_fod.l1 (am : Vector Int 128 → Bool → Int → Option (Bool × Int × Vector Int 128)) : Nat → List Val → Int → Int → Int → Vector Int 128 → Int → Option (Bool × Int × Vector Int 128)
  | 0, _, _, _, _, _, _ => none
  | ah + 1, x0, x2, aa, ab, ac, ae => if ae ≤ (min ((rd (sub x0 aa (x0.length : Int)) ab).hi) (IntKind.i32.wrap ((IntKind.i32.wrap (x2 + 128)) - 1))) then (if (0 : Int) ≤ IntKind.i32.wrap (ae - x2) ∧ IntKind.i32.wrap (ae - x2) < ((128 : Nat) : Int) then ((stage_lay_fod.l1 am ah x0 x2 aa ab) (vset ac (IntKind.i32.wrap (ae - x2)) (IntKind.u16.wrap ((rd (sub x0 aa (x0.length : Int)) ab).n))) (IntKind.i32.wrap (ae + 1))) else none) else (am ac true (IntKind.i64.wrap (ab + 1)))
def stage_lay_fod.l2 : Nat → List Val → Int → Int → Vector Int 128 → Bool → Int → Option (Bool × Int × Vector Int 128)
  | 0, _, _, _, _, _, _ => none
  | al + 1, x0, x2, aa, ad, af, ab => if ab < ((sub x0 aa (x0.length : Int)).length : Int) then (if (0 : Int) ≤ ab ∧ ab < ((sub x0 aa (x0.length : Int)).length : Int) then (if (IntKind.i32.wrap ((IntKind.i32.wrap (x2 + 128)) - 1)) < ((rd (sub x0 aa (x0.length : Int)) ab).lo) then (stage_lay_fod.j1 aa ad af) else (stage_lay_fod.l1 (stage_lay_fod.l2 al x0 x2 aa) K0 x0 x2 aa ab ad (max ((rd (sub x0 aa (x0.length : Int)) ab).lo) x2))) else none) else (stage_lay_fod.j1 aa ad af)
def stage_lay_fod.j2 (aq : Int → Option (Bool × Int × Vector Int 128)) (y1_0 : Vector Int 128) (x0 : List Val) (x2 aa : Int) (aj : Bool) : Option (Bool × Int × Vector Int 128) := if aj = true then (aq (IntKind.i64.wrap (aa + 1))) else (if (0 : Int) ≤ aa ∧ aa ≤ (x0.length : Int) ∧ (x0.length : Int) ≤ (x0.length : Int) then (stage_lay_fod.l2 K0 x0 x2 aa y1_0 false 0) else none)
def stage_lay_fod.l3 : Nat → Vector Int 128 → List Val → Int → Int → Option (Bool × Int × Vector Int 128)
  | 0, _, _, _, _ => none
  | ak + 1, y1_0, x0, x2, aa => if aa < (x0.length : Int) then (if (0 : Int) ≤ aa ∧ aa < (x0.length : Int) then (stage_lay_fod.j2 (stage_lay_fod.l3 ak y1_0 x0 x2) y1_0 x0 x2 aa (decide (((rd x0 aa).hi) < x2))) else none) else (stage_lay_fod.j2 (stage_lay_fod.l3 ak y1_0 x0 x2) y1_0 x0 x2 aa false)
def stage_lay_fod.f (x0 : List Val) (x2 y0_0 : Int) (y1_0 : Vector Int 128) : Option (Bool × Int × Vector Int 128) := stage_lay_fod.l3 K0 y1_0 x0 x2 y0_0
theorem stage_lay_fod.c {w0 w : World} {ρ : Hp} {Γ : List Item} {pb0 : Nat} {y0_0 : Int} {pb1 : Nat} {y1_0 : Vector Int 128} (hs : St w0 ρ ((.box pb0 3 ([.int .i64 y0_0])) :: (.box pb1 152 ([] ++ (vcs (Value.int .u16) y1_0 ++ []))) :: Γ) w) {v0 : Value} {x0 : List Val} (h0 : SlR rVal ρ v0 x0) {x2 : Int} {r : Bool × Int × Vector Int 128} (H : stage_lay_fod.f x0 x2 y0_0 y1_0 = some r) : CallsR Tryz.prog 154 [v0, .pointer (some ⟨pb0, 0, none⟩), .int .i32 x2, .pointer (some ⟨pb1, 0, none⟩)] w (fun v w' => v = .bool r.1 ∧ St w0 ρ ((.box pb0 3 ([.int .i64 r.2.1])) :: (.box pb1 152 ([] ++ (vcs (Value.int .u16) r.2.2 ++ []))) :: Γ) w') := by
  rw [stage_lay_fod.f] at H
  refine enter Tryz.func154 Tryz.ntmps154 rfl (by kernel_rfl) rfl <| Wr fun ct br => Oa rfl rfl <| O_nil (br _ _ <| Wr fun cu bs => Om rfl rfl <| O_y rfl (Y_add rfl rfl) <| O_y rfl (Y_sub rfl rfl) <| Oa rfl rfl <| O_nil (bs _ _ <| W_seq fun cv bt => W_block fun cw bu cx => ?_))
  refine W_loop (σ := Nat × Int) (fun (ak, aa) => [(0, v0), (1, .pointer (some ⟨pb0, 0, none⟩)), (2, .int .i32 x2), (3, .pointer (some ⟨pb1, 0, none⟩)), (9, .int .i32 (IntKind.i32.wrap ((IntKind.i32.wrap (x2 + 128)) - 1)))]) (fun (ak, aa) w => stage_lay_fod.l3 ak y1_0 x0 x2 aa = some r ∧ St w0 ρ ((.box pb0 3 ([.int .i64 aa])) :: (.box pb1 152 ([] ++ (vcs (Value.int .u16) y1_0 ++ []))) :: Γ) w) (fun s => s.1) (K0, y0_0) (by repeat first | exact Sub.nil | refine Sub.cons rfl ?_) (Ai H hs) ?_
  rintro ⟨ak, aa⟩ w cy ⟨H, hs⟩ ar
  show W _ _ _ _ _ _ [(0, v0), (1, .pointer (some ⟨pb0, 0, none⟩)), (2, .int .i32 x2), (3, .pointer (some ⟨pb1, 0, none⟩)), (9, .int .i32 (IntKind.i32.wrap ((IntKind.i32.wrap (x2 + 128)) - 1)))] w
  cases ak with
  | zero => rw [stage_lay_fod.l3] at H; cases H
  | succ ak =>
  rw [stage_lay_fod.l3] at H
  refine W_seq fun cz bv => W_seqj fun bw bx bl => ?_
  have bm : ∀ (aj : Bool) (w : World), stage_lay_fod.j2 (stage_lay_fod.l3 ak y1_0 x0 x2) y1_0 x0 x2 aa aj = some r → St w0 ρ ((.box pb0 3 ([.int .i64 aa])) :: (.box pb1 152 ([] ++ (vcs (Value.int .u16) y1_0 ++ []))) :: Γ) w → bw [(0, v0), (1, .pointer (some ⟨pb0, 0, none⟩)), (2, .int .i32 x2), (3, .pointer (some ⟨pb1, 0, none⟩)), (9, .int .i32 (IntKind.i32.wrap ((IntKind.i32.wrap (x2 + 128)) - 1))), (33, .bool aj)] w := by
   intro aj w H hs
   rw [stage_lay_fod.j2] at H
   refine bx _ _ <| W_cond rfl (fun a1 => ?_) (fun a1 => ?_)
   ·rw [if_pos a1] at H
    refine W_skip (bv _ _ <| W_block fun da db dc => W_region <| Om rfl rfl <| O_y rfl (Y_nilp rfl) <| O_y rfl (Yb 0 ag3 hs rfl rfl rfl) <| O_y rfl (Y_add rfl rfl) <| O_y rfl (Y_nilp rfl) <| O_store (i := 0) sz3 hs rfl rfl rfl rfl rfl (fun w hs => O_nil (ar (ak, (IntKind.i64.wrap (aa + 1))) _ _ (by repeat first | exact Sub.nil | refine Sub.cons rfl ?_) (Ai H hs) (Nat.lt_succ_self _))))
   ·rw [if_neg (bft a1)] at H
    refine W_exit (bu _ _ (bt _ _ <| Wr fun dd bz => Oa rfl rfl <| O_nil (bz _ _ <| W_seqj fun b0 b1 bn => ?_)))
    have bo : ∀ (ag : Vector Int 128) (ai : Bool) (w : World), stage_lay_fod.j1 aa ag ai = some r → St w0 ρ ((.box pb0 3 ([.int .i64 aa])) :: (.box pb1 152 ([] ++ (vcs (Value.int .u16) ag ++ []))) :: Γ) w → b0 [(10, .bool ai)] w := by
     intro ag ai w H hs
     rw [stage_lay_fod.j1] at H
     refine b1 _ _ <| Wr fun de b2 => Om rfl rfl <| Oa rfl rfl <| O_nil (b2 _ _ <| W_ret ?_)
     obtain rfl := sinj H
     exact ret1 rfl rfl ⟨rfl, hs⟩
    refine Wr fun df b3 => Om rfl rfl <| Om rfl rfl <| O_y rfl (Y_nilp rfl) <| O_y rfl (Yb 0 ag3 hs rfl rfl rfl) ?_
    obtain ⟨a2, H⟩ := gd H
    obtain ⟨a0, bp, b4⟩ := h0.cut el23 a2.1 a2.2.1 a2.2.2
    refine O_y rfl (b4 rfl (.inr ⟨_, _, rfl, rfl⟩) (.inl ⟨rfl, rfl⟩)) <| O_y rfl (Y_lenR un23 bp rfl) <| Om rfl rfl <| O_nil (b3 _ _ <| W_block fun dg bq dh => W_loop (σ := Nat × Vector Int 128 × Bool × Int) (fun (al, ad, af, ab) => [(2, .int .i32 x2), (3, .pointer (some ⟨pb1, 0, none⟩)), (9, .int .i32 (IntKind.i32.wrap ((IntKind.i32.wrap (x2 + 128)) - 1))), (10, .bool af), (43, a0), (44, .int .i64 ((sub x0 aa (x0.length : Int)).length : Int)), (45, .int .i64 ab)]) (fun (al, ad, af, ab) w => stage_lay_fod.l2 al x0 x2 aa ad af ab = some r ∧ St w0 ρ ((.box pb0 3 ([.int .i64 aa])) :: (.box pb1 152 ([] ++ (vcs (Value.int .u16) ad ++ []))) :: Γ) w) (fun s => s.1) (K0, y1_0, false, 0) (by repeat first | exact Sub.nil | refine Sub.cons rfl ?_) (Ai H hs) ?_)
    rintro ⟨al, ad, af, ab⟩ w di ⟨H, hs⟩ au
    show W _ _ _ _ _ _ [(2, .int .i32 x2), (3, .pointer (some ⟨pb1, 0, none⟩)), (9, .int .i32 (IntKind.i32.wrap ((IntKind.i32.wrap (x2 + 128)) - 1))), (10, .bool af), (43, a0), (44, .int .i64 ((sub x0 aa (x0.length : Int)).length : Int)), (45, .int .i64 ab)] w
    cases al with
    | zero => rw [stage_lay_fod.l2] at H; cases H
    | succ al =>
    rw [stage_lay_fod.l2] at H
    refine Wr fun dk b5 => O_y rfl (Y_lss rfl rfl) <| O_nil (b5 _ _ <| W_seq fun dl b6 => W_if rfl (fun a3 => ?_) (fun a3 => ?_))
    ·rw [if_pos a3] at H
     refine W_skip (b6 _ _ <| W_seq fun dm b7 => W_block fun b8 b9 a4 => W_seq fun ca a5 => W_region ?_)
     obtain ⟨ay, H⟩ := gd H
     obtain ⟨cb, cc, a6, a7⟩ := bp.ix el23 ay.1 ay.2
     obtain ⟨_, rfl, a8⟩ := a6
     refine O_y rfl (a7 rfl rfl) <| O_y rfl (Y_loadN ag67 sz67 rfl rfl (fun j u hu => hs.see (a8 j u hu))) <| O_alloc zr67 hs rfl (fun an w hs => O_storeN (i := 0) sz67 hs rfl rfl rfl rfl rfl (one_cons rfl (one_cons rfl (one_cons rfl one_nil))) (fun w hs => O_nil (a5 _ _ <| W_seq fun cd a9 => Wr fun ce ba => O_y rfl (Y_field fo67_0 rfl) <| O_y rfl (Yb 0 ag21 hs rfl rfl rfl) <| Om rfl rfl <| O_y rfl (Y_gtr rfl rfl) <| O_nil (ba _ _ <| W.weak [(2, _), (3, _), (9, _), (10, _), (12, _), (43, _), (44, _), (45, _), (52, _)] (by repeat first | exact Sub.nil | refine Sub.cons rfl ?_) ?_))))
     refine W_if rfl (fun av => ?_) (fun av => ?_)
     ·rw [if_pos av] at H
      exact W_exit (a4 _ _ _ rfl (bq _ _ (bn _ _ _ (S1 rfl) (bo ad af _ H (hs.sub (ssk (ssc (ssc ssr))))))))
     ·rw [if_neg av] at H
      refine W_skip (a9 _ _ <| Wr fun cf bb => Oa rfl rfl <| O_nil (bb _ _ <| Wr fun cg bc => O_y rfl (Y_field fo67_0 rfl) <| O_y rfl (Yb 0 ag21 hs rfl rfl rfl) <| Om rfl rfl <| O_y rfl (Y_max rfl rfl) <| Oa rfl rfl <| O_nil (bc _ _ <| W_block fun ch bd ci => ?_)))
      refine W_loop (σ := Nat × Vector Int 128 × Int) (fun (ah, ac, ae) => [(2, .int .i32 x2), (3, .pointer (some ⟨pb1, 0, none⟩)), (9, .int .i32 (IntKind.i32.wrap ((IntKind.i32.wrap (x2 + 128)) - 1))), (10, .bool true), (12, .pointer (some ⟨an, 0, none⟩)), (13, .int .i32 ae), (43, a0), (44, .int .i64 ((sub x0 aa (x0.length : Int)).length : Int)), (45, .int .i64 ab)]) (fun (ah, ac, ae) w => stage_lay_fod.l1 (stage_lay_fod.l2 al x0 x2 aa) ah x0 x2 aa ab ac ae = some r ∧ St w0 ρ ((.box an 67 ([.int .i32 ((rd (sub x0 aa (x0.length : Int)) ab).lo), .int .i32 ((rd (sub x0 aa (x0.length : Int)) ab).hi), .int .i64 ((rd (sub x0 aa (x0.length : Int)) ab).n)])) :: (.box pb0 3 ([.int .i64 aa])) :: (.box pb1 152 ([] ++ (vcs (Value.int .u16) ac ++ []))) :: Γ) w) (fun s => s.1) (K0, ad, (max ((rd (sub x0 aa (x0.length : Int)) ab).lo) x2)) (by repeat first | exact Sub.nil | refine Sub.cons rfl ?_) (Ai H hs) ?_
      rintro ⟨ah, ac, ae⟩ w cj ⟨H, hs⟩ ao
      show W _ _ _ _ _ _ [(2, .int .i32 x2), (3, .pointer (some ⟨pb1, 0, none⟩)), (9, .int .i32 (IntKind.i32.wrap ((IntKind.i32.wrap (x2 + 128)) - 1))), (10, .bool true), (12, .pointer (some ⟨an, 0, none⟩)), (13, .int .i32 ae), (43, a0), (44, .int .i64 ((sub x0 aa (x0.length : Int)).length : Int)), (45, .int .i64 ab)] w
      cases ah with
      | zero => rw [stage_lay_fod.l1] at H; cases H
      | succ ah =>
      rw [stage_lay_fod.l1] at H
      refine W_seq fun ck be => Wr fun cl bf => Om rfl rfl <| O_y rfl (Y_field fo67_1 rfl) <| O_y rfl (Yb 0 ag21 hs rfl rfl rfl) <| Om rfl rfl <| O_y rfl (Y_min rfl rfl) <| O_y rfl (Y_leq rfl rfl) <| O_nil (bf _ _ <| W.weak [(2, _), (3, _), (9, _), (10, _), (12, _), (13, _), (43, _), (44, _), (45, _), (62, _)] (by repeat first | exact Sub.nil | refine Sub.cons rfl ?_) ?_)
      refine W_if rfl (fun aw => ?_) (fun aw => ?_)
      ·rw [if_pos aw] at H
       refine W_skip (be _ _ <| W_seq fun cm bg => W_block fun cn co cp => W_drawS 10 [0, 0, 0, 6, 0, 16, 32, 1, 255, 383] [126, 245, 243, 241, 207, 143, 143, 638, 0, 0] [0, 0, 0, 6, 0, 16, 48, 1, 255, 511] [9] (fun w => St w0 ρ ((.box an 67 ([.int .i32 ((rd (sub x0 aa (x0.length : Int)) ab).lo), .int .i32 ((rd (sub x0 aa (x0.length : Int)) ab).hi), .int .i64 ((rd (sub x0 aa (x0.length : Int)) ab).n)])) :: (.box pb0 3 ([.int .i64 aa])) :: (.box pb1 152 ([] ++ (vcs (Value.int .u16) ac ++ []))) :: Γ) w) mixed (by kernel_rfl) (fun sh => ?_))
       have hs := hs.drew
       refine Dm 0 sh rfl rfl (by kernel_rfl) rfl <| Dm 1 sh rfl rfl (by kernel_rfl) rfl <| Dm 2 sh rfl rfl (by kernel_rfl) rfl <| Dp 3 sh rfl rfl (by kernel_rfl) (fun w => Y_sub rfl rfl) <| Dp 4 sh rfl rfl (by kernel_rfl) (fun w => Y_field fo67_2 rfl) <| Dy 5 sh rfl rfl (by kernel_rfl) hs (fun w hs => Yb 0 ag3 hs rfl rfl rfl) <| Dp 6 sh rfl rfl (by kernel_rfl) (fun w => Y_conv un3 un150 rfl) <| Dp 7 sh rfl rfl (by kernel_rfl) (fun w => Y_nilp rfl) ?_
       obtain ⟨ap, H⟩ := gd H
       refine Dp 8 sh rfl rfl (by kernel_rfl) (fun w => Y_ixArr un152 sz150 rfl rfl ap.1 ap.2) <| D1 9 sh rfl (by kernel_rfl) (fun cq bh => O_storeSeg (j := 2) (u := IntKind.u16.wrap ((rd (sub x0 aa (x0.length : Int)) ab).n)) sz150 (one_int .u16) hs rfl rfl ap.1 ap.2 rfl rfl (fun w hs => O_nil (bh _ _ (fun h _ => absurd h (by decide)) <| OD_doneS sh (by kernel_rfl) (bg _ _ <| W.weak [(2, _), (3, _), (9, _), (10, _), (12, _), (13, _), (43, _), (44, _), (45, _)] (by repeat first | exact Sub.nil | refine Sub.cons rfl ?_) ?_))))
       refine W_region <| Om rfl rfl <| O_y rfl (Y_add rfl rfl) <| Oa rfl rfl <| O_nil (ao (ah, (vset ac (IntKind.i32.wrap (ae - x2)) (IntKind.u16.wrap ((rd (sub x0 aa (x0.length : Int)) ab).n))), (IntKind.i32.wrap (ae + 1))) _ _ (by repeat first | exact Sub.nil | refine Sub.cons rfl ?_) (Ai H hs) (Nat.lt_succ_self _))
      ·rw [if_neg aw] at H
       refine W_exit (bd _ _ (b7 _ _ <| W_region <| O_y rfl (Y_add rfl rfl) <| Om rfl rfl <| O_nil (au (al, ac, true, (IntKind.i64.wrap (ab + 1))) _ _ (by repeat first | exact Sub.nil | refine Sub.cons rfl ?_) (Ai H (hs.sub (ssk (ssc (ssc ssr))))) (Nat.lt_succ_self _))))
    ·rw [if_neg a3] at H
     exact W_exit (bq _ _ (bn _ _ _ (S1 rfl) (bo ad af _ H hs)))
  refine W_region <| Om rfl rfl <| O_y rfl (Y_nilp rfl) <| O_y rfl (Yb 0 ag3 hs rfl rfl rfl) <| Om rfl rfl <| O_y rfl (Y_lenR un23 h0 rfl) <| O_y rfl (Y_lss rfl rfl) <| Om rfl rfl <| O_if (dj := 23) rfl (fun ax => ?_) (fun ax => ?_)
  ·rw [if_pos ax] at H
   refine O_yes rfl rfl <| Om rfl rfl <| O_yes rfl rfl <| Om rfl rfl <| O_yes rfl rfl <| O_y rfl (Y_nilp rfl) <| O_yes rfl rfl <| O_y rfl (Yb 0 ag3 hs rfl rfl rfl) ?_
   obtain ⟨az, H⟩ := gd H
   obtain ⟨cr, cs, bi, bj⟩ := h0.ix el23 az.1 az.2
   obtain ⟨_, rfl, bk⟩ := bi
   refine O_yes rfl rfl <| O_y rfl (bj rfl rfl) <| O_yes rfl rfl <| O_y rfl (Y_field fo67_1 rfl) <| O_yes rfl rfl <| O_y rfl (Y_load ag21 rfl (hs.see (bk 1 _ rfl))) <| O_yes rfl rfl <| Om rfl rfl <| O_yes rfl rfl <| O_y rfl (Y_lss rfl rfl) <| O_y rfl (Y_pick_t rfl rfl) <| O_nil (bl _ _ _ (by repeat first | exact Sub.nil | refine Sub.cons rfl ?_) (bm (decide (((rd x0 aa).hi) < x2)) _ H hs))
  ·rw [if_neg ax] at H
   refine O_no rfl rfl rfl rfl <| O_no rfl rfl rfl rfl <| O_no rfl rfl rfl rfl <| O_no rfl rfl rfl rfl <| O_no rfl rfl rfl rfl <| O_no rfl rfl rfl rfl <| O_no rfl rfl rfl rfl <| O_no rfl rfl rfl rfl <| O_no rfl rfl rfl rfl <| O_y rfl (Y_pick_f rfl rfl) <| O_nil (bl _ _ _ (by repeat first | exact Sub.nil | refine Sub.cons rfl ?_) (bm false _ H hs))

end Go.Proofs.YthoicbafdanmkaaGreatDoor
