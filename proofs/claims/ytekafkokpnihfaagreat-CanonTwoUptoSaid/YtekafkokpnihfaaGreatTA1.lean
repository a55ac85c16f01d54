/- Written by this repo's gen.py: for each Go function a Lean function with the same answers and the walk that shows it. -/
import Derived.Test.YtekafkokpnihfaaGreatTA0
import Derived.Test.YtekafkokpnihfaaGreatData
import Derived.Test.YtekafkokpnihfaaGreatFacts
namespace Go.Proofs.YtekafkokpnihfaaGreat
open Go.RowKit
set_option maxRecDepth 100000
set_option maxHeartbeats 4000000
set_option linter.unusedVariables false
def book_Check_8_1_kid.j1 (aa : Bool) : Option Bool := some aa
def book_Check_8_1_kid.f (x0 : Chs) : Option Bool := if x0.lo = x0.hi then ((book_scalars.f ([x0.lo]) 1 1).bind fun aq => (if aq = true then ((book_scalars.f x0.is_ 1 2).bind fun ar => (if ar = true then ((book_ofChars.f x0).bind fun au => ((book_Check_2.f au).bind fun ah => (book_Check_8_1_kid.j1 ah))) else (book_Check_8_1_kid.j1 false))) else (book_Check_8_1_kid.j1 false))) else (book_Check_8_1_kid.j1 false)
theorem book_Check_8_1_kid.c {w0 w : World} {ρ : Hp} {Γ : List Item} {pb0 : Nat} (hs : St w0 ρ ((.box pb0 115 ([.func (.func 55) #[] #[]])) :: Γ) w) {c0 : List Value} {x0 : Chs} (h0 : rChs.R ρ c0 x0) {r : Bool} (H : book_Check_8_1_kid.f x0 = some r) : CallsR Tryz.prog 68 [.agg c0.toArray, .pointer (some ⟨pb0, 0, none⟩)] w (fun v w' => v = .bool r ∧ St w0 ρ ((.box pb0 115 ([.func (.func 55) #[] #[]])) :: Γ) w') := by
  rw [book_Check_8_1_kid.f] at H
  refine enter Tryz.func68 Tryz.ntmps68 rfl (by kernel_rfl) rfl ?_
  have az := h0
  obtain ⟨ai, rfl, a0⟩ := az
  refine Wr fun bf a1 => O_boxN (cs := [.int .i32 x0.lo, .int .i32 x0.hi, ai]) hs rfl rfl (fun av w hs => Oa rfl rfl <| O_nil (a1 _ _ <| W_seqj fun a2 a3 af => ?_))
  have ag : ∀ (aa : Bool) (ac : Hp) (w : World), book_Check_8_1_kid.j1 aa = some r → Le ρ ac → St w0 ac ((.box av 94 ([.int .i32 x0.lo, .int .i32 x0.hi, ai])) :: (.box pb0 115 ([.func (.func 55) #[] #[]])) :: Γ) w → a2 [(3, .bool aa)] w := by
   intro aa ac w H ae hs
   rw [book_Check_8_1_kid.j1] at H
   refine a3 _ _ <| W_ret ?_
   obtain rfl := sinj H
   exact ret1 rfl rfl ⟨rfl, ((hs.sub (ssk (ssc ssr))).less ae)⟩
  refine W_drawS 23 [0, 1, 0, 4, 10, 16, 32, 96, 160, 288, 544, 1536, 2048, 6144, 10240, 18432, 49152, 65536, 65536, 327680, 720896, 1114112, 4194303] [4194300, 4194284, 4194291, 4194275, 4194240, 4192256, 4194048, 4193792, 4193280, 4190208, 4190208, 4128768, 4177920, 4161536, 4063232, 4063232, 0, 2883584, 3276800, 2228224, 0, 0, 0] [0, 1, 0, 4, 15, 31, 63, 127, 255, 511, 1023, 2047, 4095, 8191, 16383, 32767, 65535, 131071, 131071, 393215, 1048575, 2097151, 4194303] [8, 9, 10, 11, 12, 13, 14, 15, 16, 17, 18, 19, 20, 21, 22] (fun w => St w0 ρ ((.box av 94 ([.int .i32 x0.lo, .int .i32 x0.hi, ai])) :: (.box pb0 115 ([.func (.func 55) #[] #[]])) :: Γ) w) mixed (by kernel_rfl) (fun sh => ?_)
  have hs := hs.drew
  refine Dp 0 sh rfl rfl (by kernel_rfl) (fun w => Y_field fo94_0 rfl) <| Dy 1 sh rfl rfl (by kernel_rfl) hs (fun w hs => Yb 0 ag21 hs rfl rfl rfl) <| Dp 2 sh rfl rfl (by kernel_rfl) (fun w => Y_field fo94_1 rfl) <| Dy 3 sh rfl rfl (by kernel_rfl) hs (fun w hs => Yb 0 ag21 hs rfl rfl rfl) <| Dp 4 sh rfl rfl (by kernel_rfl) (fun w => Y_eql rfl rfl) <| Dm 5 sh rfl rfl (by kernel_rfl) rfl <| OD_if (dj := 9) rfl (fun aj => ?_) (fun aj => ?_)
  ·rw [if_pos aj] at H
   refine Dq 6 sh rfl rfl rfl rfl (by kernel_rfl) (fun w => Y_field fo94_0 rfl) <| Dz 7 sh rfl rfl rfl rfl (by kernel_rfl) hs (fun w hs => Yb 0 ag21 hs rfl rfl rfl) <| D1 8 sh rfl (by kernel_rfl) (fun bg a4 => O_yes rfl rfl <| O_lit2 (xs := [.tmp 11]) (cs := [.int .i32 x0.lo]) el28 hs rfl rfl rfl (by decide) (by decide) rfl (sz_cons rfl sz_nil) (flat_cons rfl flat_nil) (fun bh w hs => ?_))
   have a5 : RowR (Rep.int .i32) ρ ([.int .i32 x0.lo]) [x0.lo] := RowR.cons (c := [.int .i32 x0.lo]) (x := x0.lo) rfl (RowR.nil _ _)
   refine O_nil (a4 _ _ (fun _ _ => by first | contradiction | (rename_i h; cases h)) <| OD_resetS sh [9, 10, 11, 12, 13, 14, 15, 16, 17, 18, 19, 20, 21, 22] hs (by kernel_rfl) ?_)
   have aw := hs
   obtain ⟨ax, ab, hs, a6⟩ := hs.rowEnd (j := 0) a5 rfl
   refine D1 9 sh rfl (by kernel_rfl) (fun bi a7 => O_yes rfl rfl ?_)
   obtain ⟨aq, ak, H⟩ := bnd H
   refine O_call rfl rfl (book_scalars.c hs a6 ak) (fun bj w hpost => ?_)
   obtain ⟨rfl, hs⟩ := hpost
   refine O_nil (a7 _ _ (fun _ _ => by first | contradiction | (rename_i h; cases h)) <| OD_resetS sh [14, 15, 16, 17, 18, 19, 20, 21, 22] hs (by kernel_rfl) <| Dp 10 sh rfl rfl (by kernel_rfl) (fun w => Y_pick_t rfl rfl) <| Dm 11 sh rfl rfl (by kernel_rfl) rfl <| OD_cases (dj := 15) rfl (fun al => ?_) (fun al => ?_))
   ·rw [if_pos al] at H
    refine Dq 12 sh rfl rfl rfl rfl (by kernel_rfl) (fun w => Y_field fo94_2 rfl) <| Dz 13 sh rfl rfl rfl rfl (by kernel_rfl) hs (fun w hs => Yb 0 ag28 hs rfl rfl rfl) <| D1 14 sh rfl (by kernel_rfl) (fun bk a8 => O_yes rfl rfl ?_)
    obtain ⟨ar, am, H⟩ := bnd H
    refine O_call rfl rfl (book_scalars.c hs (a0.mono ab) am) (fun bl w hpost => ?_)
    obtain ⟨rfl, hs⟩ := hpost
    refine O_nil (a8 _ _ (fun _ _ => by first | contradiction | (rename_i h; cases h)) <| OD_resetS sh [] hs (by kernel_rfl) <| Dp 15 sh rfl rfl (by kernel_rfl) (fun w => Y_pick_t rfl rfl) <| Dm 16 sh rfl rfl (by kernel_rfl) rfl <| OD_cases (dj := 20) rfl (fun an => ?_) (fun an => ?_))
    ·rw [if_pos an] at H
     refine Dz 17 sh rfl rfl rfl rfl (by kernel_rfl) hs (fun w hs => Yb 1 ag115 hs rfl rfl rfl) <| Dz 18 sh rfl rfl rfl rfl (by kernel_rfl) hs (fun w hs => Y_loadbN (i := 0) ag94 sz94 hs rfl rfl rfl rfl) <| D1 19 sh rfl (by kernel_rfl) (fun bm a9 => O_yes rfl rfl ?_)
     obtain ⟨au, ao, H⟩ := bnd H
     refine O_call rfl rfl (book_ofChars.c hs (rChs.mono ab h0) ao) (fun bn w hpost => ?_)
     obtain ⟨ba, bb, rfl, ad, hs, ay⟩ := hpost
     have bc := ab.trans ad
     have bd := ay
     obtain rfl := bd
     refine O_nil (a9 _ _ (fun _ _ => (hs.less ad)) <| D1 20 sh rfl (by kernel_rfl) (fun bo be => O_yes rfl rfl ?_))
     obtain ⟨ah, ap, H⟩ := bnd H
     refine O_callv rfl rfl rfl (book_Check_2.c hs ay ap) (fun bp w hpost => ?_)
     obtain ⟨rfl, hs⟩ := hpost
     refine O_nil (be _ _ (fun _ _ => (hs.less ad)) <| Dp 21 sh rfl rfl (by kernel_rfl) (fun w => Y_pick_t rfl rfl) <| Dp 22 sh rfl rfl (by kernel_rfl) (fun w => Y_assign rfl) <| OD_doneS sh (by kernel_rfl) (af _ _ _ (S1 rfl) (ag ah ba _ H bc hs)))
    ·rw [if_neg (bft an)] at H
     refine Dn 17 sh rfl rfl rfl rfl rfl (by kernel_rfl) <| Dn 18 sh rfl rfl rfl rfl rfl (by kernel_rfl) <| Dn 19 sh rfl rfl rfl rfl rfl (by kernel_rfl) <| Dn 20 sh rfl rfl rfl rfl rfl (by kernel_rfl) <| Dp 21 sh rfl rfl (by kernel_rfl) (fun w => Y_pick_f rfl rfl) <| Dp 22 sh rfl rfl (by kernel_rfl) (fun w => Y_assign rfl) <| OD_doneS sh (by kernel_rfl) (af _ _ _ (S1 rfl) (ag false ax _ H ab hs))
   ·rw [if_neg (bft al)] at H
    refine Dn 12 sh rfl rfl rfl rfl rfl (by kernel_rfl) <| Dn 13 sh rfl rfl rfl rfl rfl (by kernel_rfl) <| Dn 14 sh rfl rfl rfl rfl rfl (by kernel_rfl) <| Dp 15 sh rfl rfl (by kernel_rfl) (fun w => Y_pick_f rfl rfl) <| Dm 16 sh rfl rfl (by kernel_rfl) rfl <| Dn 17 sh rfl rfl rfl rfl rfl (by kernel_rfl) <| Dn 18 sh rfl rfl rfl rfl rfl (by kernel_rfl) <| Dn 19 sh rfl rfl rfl rfl rfl (by kernel_rfl) <| Dn 20 sh rfl rfl rfl rfl rfl (by kernel_rfl) <| Dp 21 sh rfl rfl (by kernel_rfl) (fun w => Y_pick_f rfl rfl) <| Dp 22 sh rfl rfl (by kernel_rfl) (fun w => Y_assign rfl) <| OD_doneS sh (by kernel_rfl) (af _ _ _ (S1 rfl) (ag false ax _ H ab hs))
  ·rw [if_neg aj] at H
   refine Dn 6 sh rfl rfl rfl rfl rfl (by kernel_rfl) <| Dn 7 sh rfl rfl rfl rfl rfl (by kernel_rfl) <| Dn 8 sh rfl rfl rfl rfl rfl (by kernel_rfl) <| Dn 9 sh rfl rfl rfl rfl rfl (by kernel_rfl) <| Dp 10 sh rfl rfl (by kernel_rfl) (fun w => Y_pick_f rfl rfl) <| Dm 11 sh rfl rfl (by kernel_rfl) rfl <| Dn 12 sh rfl rfl rfl rfl rfl (by kernel_rfl) <| Dn 13 sh rfl rfl rfl rfl rfl (by kernel_rfl) <| Dn 14 sh rfl rfl rfl rfl rfl (by kernel_rfl) <| Dp 15 sh rfl rfl (by kernel_rfl) (fun w => Y_pick_f rfl rfl) <| Dm 16 sh rfl rfl (by kernel_rfl) rfl <| Dn 17 sh rfl rfl rfl rfl rfl (by kernel_rfl) <| Dn 18 sh rfl rfl rfl rfl rfl (by kernel_rfl) <| Dn 19 sh rfl rfl rfl rfl rfl (by kernel_rfl) ?_
   refine Dn 20 sh rfl rfl rfl rfl rfl (by kernel_rfl) <| Dp 21 sh rfl rfl (by kernel_rfl) (fun w => Y_pick_f rfl rfl) <| Dp 22 sh rfl rfl (by kernel_rfl) (fun w => Y_assign rfl) <| OD_doneS sh (by kernel_rfl) (af _ _ _ (S1 rfl) (ag false ρ _ H (Le.rfl' _) hs))

def book_rising_api_Chars_mbg.j1 (ak : Int → Int → Option Int) (aa : Int) (ae : Spn) (ab : Bool) : Option Int := if ab = true then (some aa) else (ak ae.hi (IntKind.i64.wrap (aa + 1)))
def book_rising_api_Chars_mbg.l1 : Nat → List Chs → Int → Int → Option Int
  | 0, _, _, _ => none
  | ac + 1, x0, ad, aa => if aa < (x0.length : Int) then (if (0 : Int) ≤ aa ∧ aa < (x0.length : Int) then ((book_ofChars.f (rd x0 aa)).bind fun ae => (if ae.lo ≤ ad then (book_rising_api_Chars_mbg.j1 (book_rising_api_Chars_mbg.l1 ac x0) aa ae true) else (if ae.hi < ae.lo then (book_rising_api_Chars_mbg.j1 (book_rising_api_Chars_mbg.l1 ac x0) aa ae true) else (if 1114111 < ae.hi then (book_rising_api_Chars_mbg.j1 (book_rising_api_Chars_mbg.l1 ac x0) aa ae true) else ((book_Check_8_1_kid.f (rd x0 aa)).bind fun al => (book_rising_api_Chars_mbg.j1 (book_rising_api_Chars_mbg.l1 ac x0) aa ae (!al))))))) else none) else (some (-1))
def book_rising_api_Chars_mbg.f (x0 : List Chs) : Option Int := if 65536 < (x0.length : Int) then (some 65536) else (book_rising_api_Chars_mbg.l1 K0 x0 (-1) 0)
theorem book_rising_api_Chars_mbg.c {w0 w : World} {ρ : Hp} {Γ : List Item} {pb0 : Nat} (hs : St w0 ρ ((.box pb0 115 ([.func (.func 55) #[] #[]])) :: Γ) w) {v0 : Value} {x0 : List Chs} (h0 : SlR rChs ρ v0 x0) {r : Int} (H : book_rising_api_Chars_mbg.f x0 = some r) : CallsR Tryz.prog 67 [v0, .func (.func 45) #[] #[], .func (.func 68) #[] #[.pointer (some ⟨pb0, 0, none⟩)]] w (fun v w' => v = .int .i64 r ∧ St w0 ρ ((.box pb0 115 ([.func (.func 55) #[] #[]])) :: Γ) w') := by
  rw [book_rising_api_Chars_mbg.f] at H
  refine enter Tryz.func67 Tryz.ntmps67 rfl (by kernel_rfl) rfl <| Wr fun bv a8 => Oa rfl rfl <| O_nil (a8 _ _ <| W_seq fun bw a9 => Wr fun bx ba => Om rfl rfl <| O_y rfl (Y_lenR un24 h0 rfl) <| O_y rfl (Y_gtr rfl rfl) <| O_nil (ba _ _ <| W_if rfl (fun aw => ?_) (fun aw => ?_)))
  ·rw [if_pos aw] at H
   refine Wr fun bz bb => Oa rfl rfl <| O_nil (bb _ _ <| W_ret ?_)
   obtain rfl := sinj H
   exact ret1 rfl rfl ⟨rfl, hs⟩
  ·rw [if_neg aw] at H
   refine W_skip (a9 _ _ <| Wr fun b0 bc => Oa rfl rfl <| O_nil (bc _ _ <| W_seq fun b1 bd => Wr fun b2 be => Om rfl rfl <| O_y rfl (Y_lenR un24 h0 rfl) <| Om rfl rfl <| O_nil (be _ _ <| W_block fun b3 bf b4 => W_loop (σ := Nat × Int × Int × Hp) (fun (ac, ad, aa, ah) => [(1, .func (.func 45) #[] #[]), (2, .func (.func 68) #[] #[.pointer (some ⟨pb0, 0, none⟩)]), (7, .int .i32 ad), (14, v0), (15, .int .i64 (x0.length : Int)), (16, .int .i64 aa)]) (fun (ac, ad, aa, ah) w => book_rising_api_Chars_mbg.l1 ac x0 ad aa = some r ∧ Le ρ ah ∧ St w0 ah ((.box pb0 115 ([.func (.func 55) #[] #[]])) :: Γ) w) (fun s => s.1) (K0, (-1), 0, ρ) (by repeat first | exact Sub.nil | refine Sub.cons rfl ?_) (Ai H (Ai (Le.rfl' _) hs)) ?_)))
   rintro ⟨ac, ad, aa, ah⟩ w b5 ⟨H, af, hs⟩ am
   show W _ _ _ _ _ _ [(1, .func (.func 45) #[] #[]), (2, .func (.func 68) #[] #[.pointer (some ⟨pb0, 0, none⟩)]), (7, .int .i32 ad), (14, v0), (15, .int .i64 (x0.length : Int)), (16, .int .i64 aa)] w
   cases ac with
   | zero => rw [book_rising_api_Chars_mbg.l1] at H; cases H
   | succ ac =>
   rw [book_rising_api_Chars_mbg.l1] at H
   refine Wr fun b6 bg => O_y rfl (Y_lss rfl rfl) <| O_nil (bg _ _ <| W_seq fun b7 bh => W_if rfl (fun ax => ?_) (fun ax => ?_))
   ·rw [if_pos ax] at H
    refine W_skip (bh _ _ <| W_seq fun b8 bi => W_block fun b9 ca cb => Wr fun cc bj => Om rfl rfl ?_)
    obtain ⟨a7, H⟩ := gd H
    obtain ⟨cd, ce, bk, bl⟩ := (h0.mono af).ix el24 a7.1 a7.2
    obtain ⟨_, ⟨bm, rfl, ay⟩, bn⟩ := bk
    refine O_y rfl (bl rfl rfl) <| O_y rfl (Y_loadN ag94 sz94 rfl rfl (fun j u hu => hs.see (bn j u hu))) <| O_alloc zr94 hs rfl (fun bo w hs => Oa rfl rfl <| O_storeN (i := 0) sz94 hs rfl rfl rfl rfl rfl (one_cons rfl (one_cons rfl (one_cons ay.one one_nil))) (fun w hs => O_nil (bj _ _ <| Wr fun cf bp => Om rfl rfl <| O_y rfl (Y_loadbN (i := 0) ag94 sz94 hs rfl rfl rfl rfl) ?_)))
    obtain ⟨ae, az, H⟩ := bnd H
    refine O_callv rfl rfl rfl (book_ofChars.c hs ⟨_, rfl, ay⟩ az) (fun cg w hpost => ?_)
    obtain ⟨ar, bq, rfl, ag, hs, a0⟩ := hpost
    have a1 := a0
    obtain rfl := a1
    refine O_alloc zr110 hs rfl (fun au w hs => O_storeN (i := 0) sz110 hs rfl rfl rfl rfl rfl (one_cons rfl (one_cons rfl one_nil)) (fun w hs => O_nil (bp _ _ <| W.weak [(1, _), (2, _), (7, _), (8, _), (9, _), (10, _), (14, _), (15, _), (16, _)] (by repeat first | exact Sub.nil | refine Sub.cons rfl ?_) ?_)))
    refine W_seq fun br a2 => W_seqj fun a3 a4 ai => ?_
    have aj : ∀ (ab : Bool) (w : World), book_rising_api_Chars_mbg.j1 (book_rising_api_Chars_mbg.l1 ac x0) aa ae ab = some r → St w0 ar ((.box au 110 ([.int .i32 ae.lo, .int .i32 ae.hi])) :: (.box bo 94 ([.int .i32 ((rd x0 aa).lo), .int .i32 ((rd x0 aa).hi), bm])) :: (.box pb0 115 ([.func (.func 55) #[] #[]])) :: Γ) w → a3 [(1, .func (.func 45) #[] #[]), (2, .func (.func 68) #[] #[.pointer (some ⟨pb0, 0, none⟩)]), (8, .int .i64 aa), (10, .pointer (some ⟨au, 0, none⟩)), (14, v0), (15, .int .i64 (x0.length : Int)), (16, .int .i64 aa), (45, .bool ab)] w := by
     intro ab w H hs
     rw [book_rising_api_Chars_mbg.j1] at H
     refine a4 _ _ <| W_cond rfl (fun an => ?_) (fun an => ?_)
     ·rw [if_pos an] at H
      refine Wr fun bs a5 => Om rfl rfl <| Oa rfl rfl <| O_nil (a5 _ _ <| W_ret ?_)
      obtain rfl := sinj H
      exact ret1 rfl rfl ⟨rfl, ((hs.sub (ssk (ssk (ssc ssr)))).less (af.trans ag))⟩
     ·rw [if_neg (bft an)] at H
      refine W_skip (a2 _ _ <| W_region <| O_y rfl (Y_field fo110_1 rfl) <| O_y rfl (Yb 0 ag21 hs rfl rfl rfl) <| Oa rfl rfl <| O_nil (bi _ _ <| W_region <| O_y rfl (Y_add rfl rfl) <| Om rfl rfl <| O_nil (am (ac, ae.hi, (IntKind.i64.wrap (aa + 1)), ar) _ _ (by repeat first | exact Sub.nil | refine Sub.cons rfl ?_) (Ai H (Ai (af.trans ag) (hs.sub (ssk (ssk (ssc ssr)))))) (Nat.lt_succ_self _))))
    refine W_region <| O_y rfl (Y_field fo110_0 rfl) <| O_y rfl (Yb 0 ag21 hs rfl rfl rfl) <| Om rfl rfl <| O_y rfl (Y_leq rfl rfl) <| Om rfl rfl <| O_if (dj := 28) rfl (fun ao => ?_) (fun ao => ?_)
    ·rw [if_pos ao] at H
     refine O_no rfl rfl rfl rfl <| O_no rfl rfl rfl rfl <| O_no rfl rfl rfl rfl <| O_no rfl rfl rfl rfl <| O_no rfl rfl rfl rfl <| O_y rfl (Y_pick_t rfl rfl) <| Om rfl rfl <| O_no rfl rfl rfl rfl <| O_no rfl rfl rfl rfl <| O_no rfl rfl rfl rfl <| O_y rfl (Y_pick_t rfl rfl) <| Om rfl rfl <| O_no rfl rfl rfl rfl <| O_no rfl rfl rfl rfl ?_
     refine O_no rfl rfl rfl rfl <| O_no rfl rfl rfl rfl <| O_y rfl (Y_pick_t rfl rfl) <| O_nil (ai _ _ _ (by repeat first | exact Sub.nil | refine Sub.cons rfl ?_) (aj true _ H hs))
    ·rw [if_neg ao] at H
     refine O_yes rfl rfl <| O_y rfl (Y_field fo110_1 rfl) <| O_yes rfl rfl <| O_y rfl (Yb 0 ag21 hs rfl rfl rfl) <| O_yes rfl rfl <| O_y rfl (Y_field fo110_0 rfl) <| O_yes rfl rfl <| O_y rfl (Yb 0 ag21 hs rfl rfl rfl) <| O_yes rfl rfl <| O_y rfl (Y_lss rfl rfl) <| O_y rfl (Y_pick_f rfl rfl) <| Om rfl rfl <| O_if (dj := 35) rfl (fun ap => ?_) (fun ap => ?_)
     ·rw [if_pos ap] at H
      refine O_no rfl rfl rfl rfl <| O_no rfl rfl rfl rfl <| O_no rfl rfl rfl rfl <| O_y rfl (Y_pick_t rfl rfl) <| Om rfl rfl <| O_no rfl rfl rfl rfl <| O_no rfl rfl rfl rfl <| O_no rfl rfl rfl rfl <| O_no rfl rfl rfl rfl <| O_y rfl (Y_pick_t rfl rfl) <| O_nil (ai _ _ _ (by repeat first | exact Sub.nil | refine Sub.cons rfl ?_) (aj true _ H hs))
     ·rw [if_neg ap] at H
      refine O_yes rfl rfl <| O_y rfl (Y_field fo110_1 rfl) <| O_yes rfl rfl <| O_y rfl (Yb 0 ag21 hs rfl rfl rfl) <| O_yes rfl rfl <| O_y rfl (Y_gtr rfl rfl) <| O_y rfl (Y_pick_f rfl rfl) <| Om rfl rfl <| O_if (dj := 40) rfl (fun aq => ?_) (fun aq => ?_)
      ·rw [if_pos aq] at H
       refine O_no rfl rfl rfl rfl <| O_no rfl rfl rfl rfl <| O_no rfl rfl rfl rfl <| O_no rfl rfl rfl rfl <| O_y rfl (Y_pick_t rfl rfl) <| O_nil (ai _ _ _ (by repeat first | exact Sub.nil | refine Sub.cons rfl ?_) (aj true _ H hs))
      ·rw [if_neg aq] at H
       refine O_yes rfl rfl <| Om rfl rfl <| O_yes rfl rfl <| O_y rfl (Y_loadbN (i := 1) ag94 sz94 hs rfl rfl rfl rfl) <| O_yes rfl rfl ?_
       have hs := hs.front 2 rfl
       obtain ⟨al, av, H⟩ := bnd H
       refine O_callv rfl rfl rfl (book_Check_8_1_kid.c hs ⟨_, rfl, (ay.mono ag)⟩ av) (fun bt w hpost => ?_)
       obtain ⟨rfl, hs⟩ := hpost
       have hs := hs.sink 2
       refine O_yes rfl rfl <| O_y rfl (Y_not rfl) <| O_y rfl (Y_pick_f rfl rfl) <| O_nil (ai _ _ _ (by repeat first | exact Sub.nil | refine Sub.cons rfl ?_) (aj (!al) _ H hs))
   ·rw [if_neg ax] at H
    refine W_exit (bf _ _ (bd _ _ <| Wr fun bu a6 => Oa rfl rfl <| O_nil (a6 _ _ <| W_ret ?_)))
    obtain rfl := sinj H
    exact ret1 rfl rfl ⟨rfl, (hs.less af)⟩

def book_Check_8_hpj.f (y0_0 : List ByteArray) (y0_1 : List Val) (y0_2 : List Chs) (y0_3 : List Val) (y0_4 : List Chs) (y0_5 : List Spn) (y0_6 y0_7 : List Val) (y0_8 : List Spn) (y0_9 : List Val) (y0_10 : List Chs) : Option Int := (book_rising_api_Chars_mbg.f y0_4).bind fun ab => (some ab)
theorem book_Check_8_hpj.c {w0 w : World} {ρ : Hp} {Γ : List Item} {pb0 : Nat} {w0_0 : Value} {y0_0 : List ByteArray} {w0_1 : Value} {y0_1 : List Val} {w0_2 : Value} {y0_2 : List Chs} {w0_3 : Value} {y0_3 : List Val} {w0_4 : Value} {y0_4 : List Chs} {w0_5 : Value} {y0_5 : List Spn} {w0_6 : Value} {y0_6 : List Val} {w0_7 : Value} {y0_7 : List Val} {w0_8 : Value} {y0_8 : List Spn} {w0_9 : Value} {y0_9 : List Val} {w0_10 : Value} {y0_10 : List Chs} {pb1 : Nat} (hs : St w0 ρ ((.box pb0 27 ([w0_0, w0_1, w0_2, w0_3, w0_4, w0_5, w0_6, w0_7, w0_8, w0_9, w0_10])) :: (.box pb1 115 ([.func (.func 55) #[] #[]])) :: Γ) w) (g0_0 : SlR Rep.str ρ w0_0 y0_0) (g0_1 : SlR rVal ρ w0_1 y0_1) (g0_2 : SlR rChs ρ w0_2 y0_2) (g0_3 : SlR rVal ρ w0_3 y0_3) (g0_4 : SlR rChs ρ w0_4 y0_4) (g0_5 : SlR rSpn ρ w0_5 y0_5) (g0_6 : SlR rVal ρ w0_6 y0_6) (g0_7 : SlR rVal ρ w0_7 y0_7) (g0_8 : SlR rSpn ρ w0_8 y0_8) (g0_9 : SlR rVal ρ w0_9 y0_9) (g0_10 : SlR rChs ρ w0_10 y0_10) {r : Int} (H : book_Check_8_hpj.f y0_0 y0_1 y0_2 y0_3 y0_4 y0_5 y0_6 y0_7 y0_8 y0_9 y0_10 = some r) : CallsR Tryz.prog 66 [.pointer (some ⟨pb0, 0, none⟩), .pointer (some ⟨pb1, 0, none⟩)] w (fun v w' => v = .int .i64 r ∧ St w0 ρ ((.box pb0 27 ([w0_0, w0_1, w0_2, w0_3, w0_4, w0_5, w0_6, w0_7, w0_8, w0_9, w0_10])) :: (.box pb1 115 ([.func (.func 55) #[] #[]])) :: Γ) w') := by
  rw [book_Check_8_hpj.f] at H
  refine enter Tryz.func66 Tryz.ntmps66 rfl (by kernel_rfl) rfl <| Wr fun ae ac => Oa rfl rfl <| O_nil (ac _ _ <| Wr fun af ad => O_y rfl (Y_field fo27_4 rfl) <| O_y rfl (Yb 0 ag24 hs rfl rfl rfl) <| O_y rfl (Y_func rfl) ?_)
  have hs := hs.front 1 rfl
  obtain ⟨ab, aa, H⟩ := bnd H
  refine O_call rfl rfl (book_rising_api_Chars_mbg.c hs g0_4 aa) (fun ag w hpost => ?_)
  obtain ⟨rfl, hs⟩ := hpost
  have hs := hs.sink 1
  refine Oa rfl rfl <| O_nil (ad _ _ <| W_ret ?_)
  obtain rfl := sinj H
  exact ret1 rfl rfl ⟨rfl, hs⟩

def book_ofSpan.f (x0 : Spn) : Option Spn := some x0
theorem book_ofSpan.c {w0 w : World} {ρ : Hp} {Γ : List Item} (hs : St w0 ρ (Γ) w) {c0 : List Value} {x0 : Spn} (h0 : rSpn.R ρ c0 x0) {r : Spn} (H : book_ofSpan.f x0 = some r) : CallsR Tryz.prog 71 [.agg c0.toArray] w (fun v w' => ∃ (ρ' : Hp) (cs0 : List Value), v = .agg cs0.toArray ∧ Le ρ ρ' ∧ St w0 ρ' (Γ) w' ∧ rSpn.R ρ' cs0 r) := by
  rw [book_ofSpan.f] at H
  refine enter Tryz.func71 Tryz.ntmps71 rfl (by kernel_rfl) rfl ?_
  have aa := h0
  obtain rfl := aa
  refine Wr fun ad ab => O_boxN (cs := [.int .i32 x0.lo, .int .i32 x0.hi]) hs rfl rfl (fun ae w hs => O_alloc zr110 hs rfl (fun af w hs => O_nil (ab _ _ <| Wr fun ag ac => O_y rfl (Y_loadbN (i := 1) ag110 sz110 hs rfl rfl rfl rfl) <| O_storeN (i := 0) sz110 hs rfl rfl rfl rfl rfl (one_cons rfl (one_cons rfl one_nil)) (fun w hs => O_nil (ac _ _ <| W_ret ?_)))))
  obtain rfl := sinj H
  exact retc (i := 0) rfl rfl ag110 sz110 hs rfl rfl ⟨_, _, rfl, Le.rfl' _, (hs.sub (ssk (ssk ssr))), h0⟩

def book_rising_api_Span_fbg.j1 (ak : Int → Int → Option Int) (aa : Int) (ae : Spn) (ab : Bool) : Option Int := if ab = true then (some aa) else (ak ae.hi (IntKind.i64.wrap (aa + 1)))
def book_rising_api_Span_fbg.l1 : Nat → List Spn → Int → Int → Option Int
  | 0, _, _, _ => none
  | ac + 1, x0, ad, aa => if aa < (x0.length : Int) then (if (0 : Int) ≤ aa ∧ aa < (x0.length : Int) then ((book_ofSpan.f (rd x0 aa)).bind fun ae => (if ae.lo ≤ ad then (book_rising_api_Span_fbg.j1 (book_rising_api_Span_fbg.l1 ac x0) aa ae true) else (if ae.hi < ae.lo then (book_rising_api_Span_fbg.j1 (book_rising_api_Span_fbg.l1 ac x0) aa ae true) else (if 1114111 < ae.hi then (book_rising_api_Span_fbg.j1 (book_rising_api_Span_fbg.l1 ac x0) aa ae true) else ((book_Check_2.f (rd x0 aa)).bind fun al => (book_rising_api_Span_fbg.j1 (book_rising_api_Span_fbg.l1 ac x0) aa ae (!al))))))) else none) else (some (-1))
def book_rising_api_Span_fbg.f (x0 : List Spn) : Option Int := if 65536 < (x0.length : Int) then (some 65536) else (book_rising_api_Span_fbg.l1 K0 x0 (-1) 0)
theorem book_rising_api_Span_fbg.c {w0 w : World} {ρ : Hp} {Γ : List Item} (hs : St w0 ρ (Γ) w) {v0 : Value} {x0 : List Spn} (h0 : SlR rSpn ρ v0 x0) {r : Int} (H : book_rising_api_Span_fbg.f x0 = some r) : CallsR Tryz.prog 70 [v0, .func (.func 71) #[] #[], .func (.func 55) #[] #[]] w (fun v w' => v = .int .i64 r ∧ St w0 ρ Γ w') := by
  rw [book_rising_api_Span_fbg.f] at H
  refine enter Tryz.func70 Tryz.ntmps70 rfl (by kernel_rfl) rfl <| Wr fun bt a6 => Oa rfl rfl <| O_nil (a6 _ _ <| W_seq fun bu a7 => Wr fun bv a8 => Om rfl rfl <| O_y rfl (Y_lenR un25 h0 rfl) <| O_y rfl (Y_gtr rfl rfl) <| O_nil (a8 _ _ <| W_if rfl (fun av => ?_) (fun av => ?_)))
  ·rw [if_pos av] at H
   refine Wr fun bw a9 => Oa rfl rfl <| O_nil (a9 _ _ <| W_ret ?_)
   obtain rfl := sinj H
   exact ret1 rfl rfl ⟨rfl, hs⟩
  ·rw [if_neg av] at H
   refine W_skip (a7 _ _ <| Wr fun bx ba => Oa rfl rfl <| O_nil (ba _ _ <| W_seq fun bz bb => Wr fun b0 bc => Om rfl rfl <| O_y rfl (Y_lenR un25 h0 rfl) <| Om rfl rfl <| O_nil (bc _ _ <| W_block fun b1 bd b2 => W_loop (σ := Nat × Int × Int × Hp) (fun (ac, ad, aa, ag) => [(1, .func (.func 71) #[] #[]), (2, .func (.func 55) #[] #[]), (7, .int .i32 ad), (14, v0), (15, .int .i64 (x0.length : Int)), (16, .int .i64 aa)]) (fun (ac, ad, aa, ag) w => book_rising_api_Span_fbg.l1 ac x0 ad aa = some r ∧ Le ρ ag ∧ St w0 ag (Γ) w) (fun s => s.1) (K0, (-1), 0, ρ) (by repeat first | exact Sub.nil | refine Sub.cons rfl ?_) (Ai H (Ai (Le.rfl' _) hs)) ?_)))
   rintro ⟨ac, ad, aa, ag⟩ w b3 ⟨H, af, hs⟩ am
   show W _ _ _ _ _ _ [(1, .func (.func 71) #[] #[]), (2, .func (.func 55) #[] #[]), (7, .int .i32 ad), (14, v0), (15, .int .i64 (x0.length : Int)), (16, .int .i64 aa)] w
   cases ac with
   | zero => rw [book_rising_api_Span_fbg.l1] at H; cases H
   | succ ac =>
   rw [book_rising_api_Span_fbg.l1] at H
   refine Wr fun b4 be => O_y rfl (Y_lss rfl rfl) <| O_nil (be _ _ <| W_seq fun b5 bf => W_if rfl (fun aw => ?_) (fun aw => ?_))
   ·rw [if_pos aw] at H
    refine W_skip (bf _ _ <| W_seq fun b6 bg => W_block fun b7 b8 b9 => Wr fun ca bh => Om rfl rfl ?_)
    obtain ⟨a4, H⟩ := gd H
    obtain ⟨cb, cc, bi, bj⟩ := (h0.mono af).ix el25 a4.1 a4.2
    obtain ⟨_, rfl, bk⟩ := bi
    refine O_y rfl (bj rfl rfl) <| O_y rfl (Y_loadN ag110 sz110 rfl rfl (fun j u hu => hs.see (bk j u hu))) <| O_alloc zr110 hs rfl (fun bl w hs => Oa rfl rfl <| O_storeN (i := 0) sz110 hs rfl rfl rfl rfl rfl (one_cons rfl (one_cons rfl one_nil)) (fun w hs => O_nil (bh _ _ <| Wr fun cd bm => Om rfl rfl <| O_y rfl (Y_loadbN (i := 0) ag110 sz110 hs rfl rfl rfl rfl) ?_)))
    obtain ⟨ae, ax, H⟩ := bnd H
    refine O_callv rfl rfl rfl (book_ofSpan.c hs rfl ax) (fun ce w hpost => ?_)
    obtain ⟨a5, bn, rfl, aj, hs, bo⟩ := hpost
    have ay := bo
    obtain rfl := ay
    refine O_alloc zr110 hs rfl (fun ar w hs => O_storeN (i := 0) sz110 hs rfl rfl rfl rfl rfl (one_cons rfl (one_cons rfl one_nil)) (fun w hs => O_nil (bm _ _ <| W.weak [(1, _), (2, _), (7, _), (8, _), (9, _), (10, _), (14, _), (15, _), (16, _)] (by repeat first | exact Sub.nil | refine Sub.cons rfl ?_) ?_)))
    refine W_seq fun bp az => W_seqj fun a0 a1 ah => ?_
    have ai : ∀ (ab : Bool) (w : World), book_rising_api_Span_fbg.j1 (book_rising_api_Span_fbg.l1 ac x0) aa ae ab = some r → St w0 a5 ((.box ar 110 ([.int .i32 ae.lo, .int .i32 ae.hi])) :: (.box bl 110 ([.int .i32 ((rd x0 aa).lo), .int .i32 ((rd x0 aa).hi)])) :: Γ) w → a0 [(1, .func (.func 71) #[] #[]), (2, .func (.func 55) #[] #[]), (8, .int .i64 aa), (10, .pointer (some ⟨ar, 0, none⟩)), (14, v0), (15, .int .i64 (x0.length : Int)), (16, .int .i64 aa), (45, .bool ab)] w := by
     intro ab w H hs
     rw [book_rising_api_Span_fbg.j1] at H
     refine a1 _ _ <| W_cond rfl (fun an => ?_) (fun an => ?_)
     ·rw [if_pos an] at H
      refine Wr fun bq a2 => Om rfl rfl <| Oa rfl rfl <| O_nil (a2 _ _ <| W_ret ?_)
      obtain rfl := sinj H
      exact ret1 rfl rfl ⟨rfl, ((hs.sub (ssk (ssk ssr))).less (af.trans aj))⟩
     ·rw [if_neg (bft an)] at H
      refine W_skip (az _ _ <| W_region <| O_y rfl (Y_field fo110_1 rfl) <| O_y rfl (Yb 0 ag21 hs rfl rfl rfl) <| Oa rfl rfl <| O_nil (bg _ _ <| W_region <| O_y rfl (Y_add rfl rfl) <| Om rfl rfl <| O_nil (am (ac, ae.hi, (IntKind.i64.wrap (aa + 1)), a5) _ _ (by repeat first | exact Sub.nil | refine Sub.cons rfl ?_) (Ai H (Ai (af.trans aj) (hs.sub (ssk (ssk ssr))))) (Nat.lt_succ_self _))))
    refine W_region <| O_y rfl (Y_field fo110_0 rfl) <| O_y rfl (Yb 0 ag21 hs rfl rfl rfl) <| Om rfl rfl <| O_y rfl (Y_leq rfl rfl) <| Om rfl rfl <| O_if (dj := 28) rfl (fun ao => ?_) (fun ao => ?_)
    ·rw [if_pos ao] at H
     refine O_no rfl rfl rfl rfl <| O_no rfl rfl rfl rfl <| O_no rfl rfl rfl rfl <| O_no rfl rfl rfl rfl <| O_no rfl rfl rfl rfl <| O_y rfl (Y_pick_t rfl rfl) <| Om rfl rfl <| O_no rfl rfl rfl rfl <| O_no rfl rfl rfl rfl <| O_no rfl rfl rfl rfl <| O_y rfl (Y_pick_t rfl rfl) <| Om rfl rfl <| O_no rfl rfl rfl rfl <| O_no rfl rfl rfl rfl ?_
     refine O_no rfl rfl rfl rfl <| O_no rfl rfl rfl rfl <| O_y rfl (Y_pick_t rfl rfl) <| O_nil (ah _ _ _ (by repeat first | exact Sub.nil | refine Sub.cons rfl ?_) (ai true _ H hs))
    ·rw [if_neg ao] at H
     refine O_yes rfl rfl <| O_y rfl (Y_field fo110_1 rfl) <| O_yes rfl rfl <| O_y rfl (Yb 0 ag21 hs rfl rfl rfl) <| O_yes rfl rfl <| O_y rfl (Y_field fo110_0 rfl) <| O_yes rfl rfl <| O_y rfl (Yb 0 ag21 hs rfl rfl rfl) <| O_yes rfl rfl <| O_y rfl (Y_lss rfl rfl) <| O_y rfl (Y_pick_f rfl rfl) <| Om rfl rfl <| O_if (dj := 35) rfl (fun ap => ?_) (fun ap => ?_)
     ·rw [if_pos ap] at H
      refine O_no rfl rfl rfl rfl <| O_no rfl rfl rfl rfl <| O_no rfl rfl rfl rfl <| O_y rfl (Y_pick_t rfl rfl) <| Om rfl rfl <| O_no rfl rfl rfl rfl <| O_no rfl rfl rfl rfl <| O_no rfl rfl rfl rfl <| O_no rfl rfl rfl rfl <| O_y rfl (Y_pick_t rfl rfl) <| O_nil (ah _ _ _ (by repeat first | exact Sub.nil | refine Sub.cons rfl ?_) (ai true _ H hs))
     ·rw [if_neg ap] at H
      refine O_yes rfl rfl <| O_y rfl (Y_field fo110_1 rfl) <| O_yes rfl rfl <| O_y rfl (Yb 0 ag21 hs rfl rfl rfl) <| O_yes rfl rfl <| O_y rfl (Y_gtr rfl rfl) <| O_y rfl (Y_pick_f rfl rfl) <| Om rfl rfl <| O_if (dj := 40) rfl (fun aq => ?_) (fun aq => ?_)
      ·rw [if_pos aq] at H
       refine O_no rfl rfl rfl rfl <| O_no rfl rfl rfl rfl <| O_no rfl rfl rfl rfl <| O_no rfl rfl rfl rfl <| O_y rfl (Y_pick_t rfl rfl) <| O_nil (ah _ _ _ (by repeat first | exact Sub.nil | refine Sub.cons rfl ?_) (ai true _ H hs))
      ·rw [if_neg aq] at H
       refine O_yes rfl rfl <| Om rfl rfl <| O_yes rfl rfl <| O_y rfl (Y_loadbN (i := 1) ag110 sz110 hs rfl rfl rfl rfl) <| O_yes rfl rfl ?_
       obtain ⟨al, au, H⟩ := bnd H
       refine O_callv rfl rfl rfl (book_Check_2.c hs rfl au) (fun br w hpost => ?_)
       obtain ⟨rfl, hs⟩ := hpost
       refine O_yes rfl rfl <| O_y rfl (Y_not rfl) <| O_y rfl (Y_pick_f rfl rfl) <| O_nil (ah _ _ _ (by repeat first | exact Sub.nil | refine Sub.cons rfl ?_) (ai (!al) _ H hs))
   ·rw [if_neg aw] at H
    refine W_exit (bd _ _ (bb _ _ <| Wr fun bs a3 => Oa rfl rfl <| O_nil (a3 _ _ <| W_ret ?_)))
    obtain rfl := sinj H
    exact ret1 rfl rfl ⟨rfl, (hs.less af)⟩

def book_Check_9_hpj.f (y0_0 : List ByteArray) (y0_1 : List Val) (y0_2 : List Chs) (y0_3 : List Val) (y0_4 : List Chs) (y0_5 : List Spn) (y0_6 y0_7 : List Val) (y0_8 : List Spn) (y0_9 : List Val) (y0_10 : List Chs) : Option Int := (book_rising_api_Span_fbg.f y0_5).bind fun ab => (some ab)
theorem book_Check_9_hpj.c {w0 w : World} {ρ : Hp} {Γ : List Item} {pb0 : Nat} {w0_0 : Value} {y0_0 : List ByteArray} {w0_1 : Value} {y0_1 : List Val} {w0_2 : Value} {y0_2 : List Chs} {w0_3 : Value} {y0_3 : List Val} {w0_4 : Value} {y0_4 : List Chs} {w0_5 : Value} {y0_5 : List Spn} {w0_6 : Value} {y0_6 : List Val} {w0_7 : Value} {y0_7 : List Val} {w0_8 : Value} {y0_8 : List Spn} {w0_9 : Value} {y0_9 : List Val} {w0_10 : Value} {y0_10 : List Chs} {pb1 : Nat} (hs : St w0 ρ ((.box pb0 27 ([w0_0, w0_1, w0_2, w0_3, w0_4, w0_5, w0_6, w0_7, w0_8, w0_9, w0_10])) :: (.box pb1 115 ([.func (.func 55) #[] #[]])) :: Γ) w) (g0_0 : SlR Rep.str ρ w0_0 y0_0) (g0_1 : SlR rVal ρ w0_1 y0_1) (g0_2 : SlR rChs ρ w0_2 y0_2) (g0_3 : SlR rVal ρ w0_3 y0_3) (g0_4 : SlR rChs ρ w0_4 y0_4) (g0_5 : SlR rSpn ρ w0_5 y0_5) (g0_6 : SlR rVal ρ w0_6 y0_6) (g0_7 : SlR rVal ρ w0_7 y0_7) (g0_8 : SlR rSpn ρ w0_8 y0_8) (g0_9 : SlR rVal ρ w0_9 y0_9) (g0_10 : SlR rChs ρ w0_10 y0_10) {r : Int} (H : book_Check_9_hpj.f y0_0 y0_1 y0_2 y0_3 y0_4 y0_5 y0_6 y0_7 y0_8 y0_9 y0_10 = some r) : CallsR Tryz.prog 69 [.pointer (some ⟨pb0, 0, none⟩), .pointer (some ⟨pb1, 0, none⟩)] w (fun v w' => v = .int .i64 r ∧ St w0 ρ ((.box pb0 27 ([w0_0, w0_1, w0_2, w0_3, w0_4, w0_5, w0_6, w0_7, w0_8, w0_9, w0_10])) :: (.box pb1 115 ([.func (.func 55) #[] #[]])) :: Γ) w') := by
  rw [book_Check_9_hpj.f] at H
  refine enter Tryz.func69 Tryz.ntmps69 rfl (by kernel_rfl) rfl <| Wr fun ae ac => Oa rfl rfl <| O_nil (ac _ _ <| Wr fun af ad => O_y rfl (Y_field fo27_5 rfl) <| O_y rfl (Yb 0 ag25 hs rfl rfl rfl) <| O_y rfl (Yb 1 ag115 hs rfl rfl rfl) ?_)
  obtain ⟨ab, aa, H⟩ := bnd H
  refine O_call rfl rfl (book_rising_api_Span_fbg.c hs g0_5 aa) (fun ag w hpost => ?_)
  obtain ⟨rfl, hs⟩ := hpost
  refine Oa rfl rfl <| O_nil (ad _ _ <| W_ret ?_)
  obtain rfl := sinj H
  exact ret1 rfl rfl ⟨rfl, hs⟩

def book_directions.f : Option (List ByteArray) := some ([(⟨#[76]⟩ : ByteArray), (⟨#[82]⟩ : ByteArray), (⟨#[65, 76]⟩ : ByteArray), (⟨#[69, 78]⟩ : ByteArray), (⟨#[69, 83]⟩ : ByteArray), (⟨#[69, 84]⟩ : ByteArray), (⟨#[65, 78]⟩ : ByteArray), (⟨#[67, 83]⟩ : ByteArray), (⟨#[78, 83, 77]⟩ : ByteArray), (⟨#[66, 78]⟩ : ByteArray), (⟨#[79, 78]⟩ : ByteArray), (⟨#[66]⟩ : ByteArray), (⟨#[83]⟩ : ByteArray), (⟨#[87, 83]⟩ : ByteArray), (⟨#[76, 82, 69]⟩ : ByteArray), (⟨#[76, 82, 79]⟩ : ByteArray), (⟨#[82, 76, 69]⟩ : ByteArray), (⟨#[82, 76, 79]⟩ : ByteArray), (⟨#[80, 68, 70]⟩ : ByteArray), (⟨#[76, 82, 73]⟩ : ByteArray), (⟨#[82, 76, 73]⟩ : ByteArray), (⟨#[70, 83, 73]⟩ : ByteArray), (⟨#[80, 68, 73]⟩ : ByteArray)])
theorem book_directions.c {w0 w : World} {ρ : Hp} {Γ : List Item} (hs : St w0 ρ (Γ) w) {r : List ByteArray} (H : book_directions.f = some r) : CallsR Tryz.prog 73 [] w (fun v w' => ∃ (ρ' : Hp) (v0 : Value) (cs0 : List Value), v = v0 ∧ Le ρ ρ' ∧ St w0 ρ' (.row v0 9 Rep.str.sz r.length cs0 :: Γ) w' ∧ RowR Rep.str ρ' cs0 r) := by
  rw [book_directions.f] at H
  refine enter Tryz.func73 Tryz.ntmps73 rfl (by kernel_rfl) rfl <| Wr fun ad aa => Oa rfl rfl <| O_nil (aa _ _ <| Wr fun ae ab => O_lit2 (xs := [.const (.string (⟨#[76]⟩ : ByteArray)), .const (.string (⟨#[82]⟩ : ByteArray)), .const (.string (⟨#[65, 76]⟩ : ByteArray)), .const (.string (⟨#[69, 78]⟩ : ByteArray)), .const (.string (⟨#[69, 83]⟩ : ByteArray)), .const (.string (⟨#[69, 84]⟩ : ByteArray)), .const (.string (⟨#[65, 78]⟩ : ByteArray)), .const (.string (⟨#[67, 83]⟩ : ByteArray)), .const (.string (⟨#[78, 83, 77]⟩ : ByteArray)), .const (.string (⟨#[66, 78]⟩ : ByteArray)), .const (.string (⟨#[79, 78]⟩ : ByteArray)), .const (.string (⟨#[66]⟩ : ByteArray)), .const (.string (⟨#[83]⟩ : ByteArray)), .const (.string (⟨#[87, 83]⟩ : ByteArray)), .const (.string (⟨#[76, 82, 69]⟩ : ByteArray)), .const (.string (⟨#[76, 82, 79]⟩ : ByteArray)), .const (.string (⟨#[82, 76, 69]⟩ : ByteArray)), .const (.string (⟨#[82, 76, 79]⟩ : ByteArray)), .const (.string (⟨#[80, 68, 70]⟩ : ByteArray)), .const (.string (⟨#[76, 82, 73]⟩ : ByteArray)), .const (.string (⟨#[82, 76, 73]⟩ : ByteArray)), .const (.string (⟨#[70, 83, 73]⟩ : ByteArray)), .const (.string (⟨#[80, 68, 73]⟩ : ByteArray))]) (cs := [.string (⟨#[76]⟩ : ByteArray), .string (⟨#[82]⟩ : ByteArray), .string (⟨#[65, 76]⟩ : ByteArray), .string (⟨#[69, 78]⟩ : ByteArray), .string (⟨#[69, 83]⟩ : ByteArray), .string (⟨#[69, 84]⟩ : ByteArray), .string (⟨#[65, 78]⟩ : ByteArray), .string (⟨#[67, 83]⟩ : ByteArray), .string (⟨#[78, 83, 77]⟩ : ByteArray), .string (⟨#[66, 78]⟩ : ByteArray), .string (⟨#[79, 78]⟩ : ByteArray), .string (⟨#[66]⟩ : ByteArray), .string (⟨#[83]⟩ : ByteArray), .string (⟨#[87, 83]⟩ : ByteArray), .string (⟨#[76, 82, 69]⟩ : ByteArray), .string (⟨#[76, 82, 79]⟩ : ByteArray), .string (⟨#[82, 76, 69]⟩ : ByteArray), .string (⟨#[82, 76, 79]⟩ : ByteArray), .string (⟨#[80, 68, 70]⟩ : ByteArray), .string (⟨#[76, 82, 73]⟩ : ByteArray), .string (⟨#[82, 76, 73]⟩ : ByteArray), .string (⟨#[70, 83, 73]⟩ : ByteArray), .string (⟨#[80, 68, 73]⟩ : ByteArray)]) el22 hs rfl rfl rfl (by decide) (by decide) rfl (sz_cons rfl (sz_cons rfl (sz_cons rfl (sz_cons rfl (sz_cons rfl (sz_cons rfl (sz_cons rfl (sz_cons rfl (sz_cons rfl (sz_cons rfl (sz_cons rfl (sz_cons rfl (sz_cons rfl (sz_cons rfl (sz_cons rfl (sz_cons rfl (sz_cons rfl (sz_cons rfl (sz_cons rfl (sz_cons rfl (sz_cons rfl (sz_cons rfl (sz_cons rfl sz_nil))))))))))))))))))))))) (flat_cons rfl (flat_cons rfl (flat_cons rfl (flat_cons rfl (flat_cons rfl (flat_cons rfl (flat_cons rfl (flat_cons rfl (flat_cons rfl (flat_cons rfl (flat_cons rfl (flat_cons rfl (flat_cons rfl (flat_cons rfl (flat_cons rfl (flat_cons rfl (flat_cons rfl (flat_cons rfl (flat_cons rfl (flat_cons rfl (flat_cons rfl (flat_cons rfl (flat_cons rfl flat_nil))))))))))))))))))))))) (fun af w hs => ?_))
  have ac : RowR Rep.str ρ ([.string (⟨#[76]⟩ : ByteArray), .string (⟨#[82]⟩ : ByteArray), .string (⟨#[65, 76]⟩ : ByteArray), .string (⟨#[69, 78]⟩ : ByteArray), .string (⟨#[69, 83]⟩ : ByteArray), .string (⟨#[69, 84]⟩ : ByteArray), .string (⟨#[65, 78]⟩ : ByteArray), .string (⟨#[67, 83]⟩ : ByteArray), .string (⟨#[78, 83, 77]⟩ : ByteArray), .string (⟨#[66, 78]⟩ : ByteArray), .string (⟨#[79, 78]⟩ : ByteArray), .string (⟨#[66]⟩ : ByteArray), .string (⟨#[83]⟩ : ByteArray), .string (⟨#[87, 83]⟩ : ByteArray), .string (⟨#[76, 82, 69]⟩ : ByteArray), .string (⟨#[76, 82, 79]⟩ : ByteArray), .string (⟨#[82, 76, 69]⟩ : ByteArray), .string (⟨#[82, 76, 79]⟩ : ByteArray), .string (⟨#[80, 68, 70]⟩ : ByteArray), .string (⟨#[76, 82, 73]⟩ : ByteArray), .string (⟨#[82, 76, 73]⟩ : ByteArray), .string (⟨#[70, 83, 73]⟩ : ByteArray), .string (⟨#[80, 68, 73]⟩ : ByteArray)]) [(⟨#[76]⟩ : ByteArray), (⟨#[82]⟩ : ByteArray), (⟨#[65, 76]⟩ : ByteArray), (⟨#[69, 78]⟩ : ByteArray), (⟨#[69, 83]⟩ : ByteArray), (⟨#[69, 84]⟩ : ByteArray), (⟨#[65, 78]⟩ : ByteArray), (⟨#[67, 83]⟩ : ByteArray), (⟨#[78, 83, 77]⟩ : ByteArray), (⟨#[66, 78]⟩ : ByteArray), (⟨#[79, 78]⟩ : ByteArray), (⟨#[66]⟩ : ByteArray), (⟨#[83]⟩ : ByteArray), (⟨#[87, 83]⟩ : ByteArray), (⟨#[76, 82, 69]⟩ : ByteArray), (⟨#[76, 82, 79]⟩ : ByteArray), (⟨#[82, 76, 69]⟩ : ByteArray), (⟨#[82, 76, 79]⟩ : ByteArray), (⟨#[80, 68, 70]⟩ : ByteArray), (⟨#[76, 82, 73]⟩ : ByteArray), (⟨#[82, 76, 73]⟩ : ByteArray), (⟨#[70, 83, 73]⟩ : ByteArray), (⟨#[80, 68, 73]⟩ : ByteArray)] := RowR.cons (c := [.string (⟨#[76]⟩ : ByteArray)]) (x := (⟨#[76]⟩ : ByteArray)) rfl (RowR.cons (c := [.string (⟨#[82]⟩ : ByteArray)]) (x := (⟨#[82]⟩ : ByteArray)) rfl (RowR.cons (c := [.string (⟨#[65, 76]⟩ : ByteArray)]) (x := (⟨#[65, 76]⟩ : ByteArray)) rfl (RowR.cons (c := [.string (⟨#[69, 78]⟩ : ByteArray)]) (x := (⟨#[69, 78]⟩ : ByteArray)) rfl (RowR.cons (c := [.string (⟨#[69, 83]⟩ : ByteArray)]) (x := (⟨#[69, 83]⟩ : ByteArray)) rfl (RowR.cons (c := [.string (⟨#[69, 84]⟩ : ByteArray)]) (x := (⟨#[69, 84]⟩ : ByteArray)) rfl (RowR.cons (c := [.string (⟨#[65, 78]⟩ : ByteArray)]) (x := (⟨#[65, 78]⟩ : ByteArray)) rfl (RowR.cons (c := [.string (⟨#[67, 83]⟩ : ByteArray)]) (x := (⟨#[67, 83]⟩ : ByteArray)) rfl (RowR.cons (c := [.string (⟨#[78, 83, 77]⟩ : ByteArray)]) (x := (⟨#[78, 83, 77]⟩ : ByteArray)) rfl (RowR.cons (c := [.string (⟨#[66, 78]⟩ : ByteArray)]) (x := (⟨#[66, 78]⟩ : ByteArray)) rfl (RowR.cons (c := [.string (⟨#[79, 78]⟩ : ByteArray)]) (x := (⟨#[79, 78]⟩ : ByteArray)) rfl (RowR.cons (c := [.string (⟨#[66]⟩ : ByteArray)]) (x := (⟨#[66]⟩ : ByteArray)) rfl (RowR.cons (c := [.string (⟨#[83]⟩ : ByteArray)]) (x := (⟨#[83]⟩ : ByteArray)) rfl (RowR.cons (c := [.string (⟨#[87, 83]⟩ : ByteArray)]) (x := (⟨#[87, 83]⟩ : ByteArray)) rfl (RowR.cons (c := [.string (⟨#[76, 82, 69]⟩ : ByteArray)]) (x := (⟨#[76, 82, 69]⟩ : ByteArray)) rfl (RowR.cons (c := [.string (⟨#[76, 82, 79]⟩ : ByteArray)]) (x := (⟨#[76, 82, 79]⟩ : ByteArray)) rfl (RowR.cons (c := [.string (⟨#[82, 76, 69]⟩ : ByteArray)]) (x := (⟨#[82, 76, 69]⟩ : ByteArray)) rfl (RowR.cons (c := [.string (⟨#[82, 76, 79]⟩ : ByteArray)]) (x := (⟨#[82, 76, 79]⟩ : ByteArray)) rfl (RowR.cons (c := [.string (⟨#[80, 68, 70]⟩ : ByteArray)]) (x := (⟨#[80, 68, 70]⟩ : ByteArray)) rfl (RowR.cons (c := [.string (⟨#[76, 82, 73]⟩ : ByteArray)]) (x := (⟨#[76, 82, 73]⟩ : ByteArray)) rfl (RowR.cons (c := [.string (⟨#[82, 76, 73]⟩ : ByteArray)]) (x := (⟨#[82, 76, 73]⟩ : ByteArray)) rfl (RowR.cons (c := [.string (⟨#[70, 83, 73]⟩ : ByteArray)]) (x := (⟨#[70, 83, 73]⟩ : ByteArray)) rfl (RowR.cons (c := [.string (⟨#[80, 68, 73]⟩ : ByteArray)]) (x := (⟨#[80, 68, 73]⟩ : ByteArray)) rfl (RowR.nil _ _)))))))))))))))))))))))
  refine Oa rfl rfl <| O_nil (ab _ _ <| W_ret ?_)
  obtain rfl := sinj H
  exact ret1 rfl rfl ⟨_, _, _, rfl, Le.rfl' _, hs, ac⟩

def book_Check_10_ion.f (y0_0 : List ByteArray) (y0_1 : List Val) (y0_2 : List Chs) (y0_3 : List Val) (y0_4 : List Chs) (y0_5 : List Spn) (y0_6 y0_7 : List Val) (y0_8 : List Spn) (y0_9 : List Val) (y0_10 : List Chs) : Option Int := (book_directions.f).bind fun af => ((book_values_bpe.f y0_6 0 (IntKind.i64.wrap ((af.length : Int) - 1))).bind fun ag => (some ag))
theorem book_Check_10_ion.c {w0 w : World} {ρ : Hp} {Γ : List Item} {pb0 : Nat} {w0_0 : Value} {y0_0 : List ByteArray} {w0_1 : Value} {y0_1 : List Val} {w0_2 : Value} {y0_2 : List Chs} {w0_3 : Value} {y0_3 : List Val} {w0_4 : Value} {y0_4 : List Chs} {w0_5 : Value} {y0_5 : List Spn} {w0_6 : Value} {y0_6 : List Val} {w0_7 : Value} {y0_7 : List Val} {w0_8 : Value} {y0_8 : List Spn} {w0_9 : Value} {y0_9 : List Val} {w0_10 : Value} {y0_10 : List Chs} {pb1 : Nat} (hs : St w0 ρ ((.box pb0 27 ([w0_0, w0_1, w0_2, w0_3, w0_4, w0_5, w0_6, w0_7, w0_8, w0_9, w0_10])) :: (.box pb1 115 ([.func (.func 54) #[] #[]])) :: Γ) w) (g0_0 : SlR Rep.str ρ w0_0 y0_0) (g0_1 : SlR rVal ρ w0_1 y0_1) (g0_2 : SlR rChs ρ w0_2 y0_2) (g0_3 : SlR rVal ρ w0_3 y0_3) (g0_4 : SlR rChs ρ w0_4 y0_4) (g0_5 : SlR rSpn ρ w0_5 y0_5) (g0_6 : SlR rVal ρ w0_6 y0_6) (g0_7 : SlR rVal ρ w0_7 y0_7) (g0_8 : SlR rSpn ρ w0_8 y0_8) (g0_9 : SlR rVal ρ w0_9 y0_9) (g0_10 : SlR rChs ρ w0_10 y0_10) {r : Int} (H : book_Check_10_ion.f y0_0 y0_1 y0_2 y0_3 y0_4 y0_5 y0_6 y0_7 y0_8 y0_9 y0_10 = some r) : CallsR Tryz.prog 72 [.pointer (some ⟨pb0, 0, none⟩), .pointer (some ⟨pb1, 0, none⟩)] w (fun v w' => v = .int .i64 r ∧ St w0 ρ ((.box pb0 27 ([w0_0, w0_1, w0_2, w0_3, w0_4, w0_5, w0_6, w0_7, w0_8, w0_9, w0_10])) :: (.box pb1 115 ([.func (.func 54) #[] #[]])) :: Γ) w') := by
  rw [book_Check_10_ion.f] at H
  refine enter Tryz.func72 Tryz.ntmps72 rfl (by kernel_rfl) rfl <| Wr fun ao ah => Oa rfl rfl <| O_nil (ah _ _ <| W_seq fun ap ai => W_drawS 8 [0, 1, 0, 4, 8, 0, 54, 127] [124, 60, 51, 99, 35, 31, 0, 0] [0, 1, 0, 4, 12, 0, 63, 127] [] (fun w => St w0 ρ ((.box pb0 27 ([w0_0, w0_1, w0_2, w0_3, w0_4, w0_5, w0_6, w0_7, w0_8, w0_9, w0_10])) :: (.box pb1 115 ([.func (.func 54) #[] #[]])) :: Γ) w) mixed (by kernel_rfl) (fun sh => ?_))
  have hs := hs.drew
  refine Dp 0 sh rfl rfl (by kernel_rfl) (fun w => Y_field fo27_6 rfl) <| Dy 1 sh rfl rfl (by kernel_rfl) hs (fun w hs => Yb 0 ag23 hs rfl rfl rfl) <| Dy 5 sh rfl rfl (by kernel_rfl) hs (fun w hs => Yb 1 ag115 hs rfl rfl rfl) <| D1 2 sh rfl (by kernel_rfl) (fun aq aj => ?_)
  obtain ⟨af, ab, H⟩ := bnd H
  refine O_call rfl rfl (book_directions.c hs ab) (fun ar w hpost => ?_)
  obtain ⟨au, av, ak, rfl, aa, hs, al⟩ := hpost
  refine O_nil (aj _ _ (fun _ _ => ((hs.less aa).sub (ssk (ssc (ssc ssr))))) ?_)
  obtain ⟨aw, ac, hs, am⟩ := hs.rowEnd (j := 0) al rfl
  have ad := aa.trans ac
  refine Dp 3 sh rfl rfl (by kernel_rfl) (fun w => Y_lenR un22 am rfl) <| Dp 4 sh rfl rfl (by kernel_rfl) (fun w => Y_sub rfl rfl) <| D1 6 sh rfl (by kernel_rfl) (fun ax an => ?_)
  obtain ⟨ag, ae, H⟩ := bnd H
  refine O_call rfl rfl (book_values_bpe.c hs (g0_6.mono ad) ae) (fun ay w hpost => ?_)
  obtain ⟨rfl, hs⟩ := hpost
  refine O_nil (an _ _ (fun _ _ => (hs.less ad)) <| Dp 7 sh rfl rfl (by kernel_rfl) (fun w => Y_assign rfl) <| OD_doneS sh (by kernel_rfl) (ai _ _ <| W_ret ?_))
  obtain rfl := sinj H
  exact ret1 rfl rfl ⟨rfl, (hs.less ad)⟩

def book_joinings.f : Option (List ByteArray) := some ([(⟨#[85]⟩ : ByteArray), (⟨#[76]⟩ : ByteArray), (⟨#[82]⟩ : ByteArray), (⟨#[68]⟩ : ByteArray), (⟨#[84]⟩ : ByteArray), (⟨#[67]⟩ : ByteArray)])
theorem book_joinings.c {w0 w : World} {ρ : Hp} {Γ : List Item} (hs : St w0 ρ (Γ) w) {r : List ByteArray} (H : book_joinings.f = some r) : CallsR Tryz.prog 75 [] w (fun v w' => ∃ (ρ' : Hp) (v0 : Value) (cs0 : List Value), v = v0 ∧ Le ρ ρ' ∧ St w0 ρ' (.row v0 9 Rep.str.sz r.length cs0 :: Γ) w' ∧ RowR Rep.str ρ' cs0 r) := by
  rw [book_joinings.f] at H
  refine enter Tryz.func75 Tryz.ntmps75 rfl (by kernel_rfl) rfl <| Wr fun ad aa => Oa rfl rfl <| O_nil (aa _ _ <| Wr fun ae ab => O_lit2 (xs := [.const (.string (⟨#[85]⟩ : ByteArray)), .const (.string (⟨#[76]⟩ : ByteArray)), .const (.string (⟨#[82]⟩ : ByteArray)), .const (.string (⟨#[68]⟩ : ByteArray)), .const (.string (⟨#[84]⟩ : ByteArray)), .const (.string (⟨#[67]⟩ : ByteArray))]) (cs := [.string (⟨#[85]⟩ : ByteArray), .string (⟨#[76]⟩ : ByteArray), .string (⟨#[82]⟩ : ByteArray), .string (⟨#[68]⟩ : ByteArray), .string (⟨#[84]⟩ : ByteArray), .string (⟨#[67]⟩ : ByteArray)]) el22 hs rfl rfl rfl (by decide) (by decide) rfl (sz_cons rfl (sz_cons rfl (sz_cons rfl (sz_cons rfl (sz_cons rfl (sz_cons rfl sz_nil)))))) (flat_cons rfl (flat_cons rfl (flat_cons rfl (flat_cons rfl (flat_cons rfl (flat_cons rfl flat_nil)))))) (fun af w hs => ?_))
  have ac : RowR Rep.str ρ ([.string (⟨#[85]⟩ : ByteArray), .string (⟨#[76]⟩ : ByteArray), .string (⟨#[82]⟩ : ByteArray), .string (⟨#[68]⟩ : ByteArray), .string (⟨#[84]⟩ : ByteArray), .string (⟨#[67]⟩ : ByteArray)]) [(⟨#[85]⟩ : ByteArray), (⟨#[76]⟩ : ByteArray), (⟨#[82]⟩ : ByteArray), (⟨#[68]⟩ : ByteArray), (⟨#[84]⟩ : ByteArray), (⟨#[67]⟩ : ByteArray)] := RowR.cons (c := [.string (⟨#[85]⟩ : ByteArray)]) (x := (⟨#[85]⟩ : ByteArray)) rfl (RowR.cons (c := [.string (⟨#[76]⟩ : ByteArray)]) (x := (⟨#[76]⟩ : ByteArray)) rfl (RowR.cons (c := [.string (⟨#[82]⟩ : ByteArray)]) (x := (⟨#[82]⟩ : ByteArray)) rfl (RowR.cons (c := [.string (⟨#[68]⟩ : ByteArray)]) (x := (⟨#[68]⟩ : ByteArray)) rfl (RowR.cons (c := [.string (⟨#[84]⟩ : ByteArray)]) (x := (⟨#[84]⟩ : ByteArray)) rfl (RowR.cons (c := [.string (⟨#[67]⟩ : ByteArray)]) (x := (⟨#[67]⟩ : ByteArray)) rfl (RowR.nil _ _))))))
  refine Oa rfl rfl <| O_nil (ab _ _ <| W_ret ?_)
  obtain rfl := sinj H
  exact ret1 rfl rfl ⟨_, _, _, rfl, Le.rfl' _, hs, ac⟩

def book_Check_11_ion.f (y0_0 : List ByteArray) (y0_1 : List Val) (y0_2 : List Chs) (y0_3 : List Val) (y0_4 : List Chs) (y0_5 : List Spn) (y0_6 y0_7 : List Val) (y0_8 : List Spn) (y0_9 : List Val) (y0_10 : List Chs) : Option Int := (book_joinings.f).bind fun af => ((book_values_bpe.f y0_7 0 (IntKind.i64.wrap ((af.length : Int) - 1))).bind fun ag => (some ag))
theorem book_Check_11_ion.c {w0 w : World} {ρ : Hp} {Γ : List Item} {pb0 : Nat} {w0_0 : Value} {y0_0 : List ByteArray} {w0_1 : Value} {y0_1 : List Val} {w0_2 : Value} {y0_2 : List Chs} {w0_3 : Value} {y0_3 : List Val} {w0_4 : Value} {y0_4 : List Chs} {w0_5 : Value} {y0_5 : List Spn} {w0_6 : Value} {y0_6 : List Val} {w0_7 : Value} {y0_7 : List Val} {w0_8 : Value} {y0_8 : List Spn} {w0_9 : Value} {y0_9 : List Val} {w0_10 : Value} {y0_10 : List Chs} {pb1 : Nat} (hs : St w0 ρ ((.box pb0 27 ([w0_0, w0_1, w0_2, w0_3, w0_4, w0_5, w0_6, w0_7, w0_8, w0_9, w0_10])) :: (.box pb1 115 ([.func (.func 54) #[] #[]])) :: Γ) w) (g0_0 : SlR Rep.str ρ w0_0 y0_0) (g0_1 : SlR rVal ρ w0_1 y0_1) (g0_2 : SlR rChs ρ w0_2 y0_2) (g0_3 : SlR rVal ρ w0_3 y0_3) (g0_4 : SlR rChs ρ w0_4 y0_4) (g0_5 : SlR rSpn ρ w0_5 y0_5) (g0_6 : SlR rVal ρ w0_6 y0_6) (g0_7 : SlR rVal ρ w0_7 y0_7) (g0_8 : SlR rSpn ρ w0_8 y0_8) (g0_9 : SlR rVal ρ w0_9 y0_9) (g0_10 : SlR rChs ρ w0_10 y0_10) {r : Int} (H : book_Check_11_ion.f y0_0 y0_1 y0_2 y0_3 y0_4 y0_5 y0_6 y0_7 y0_8 y0_9 y0_10 = some r) : CallsR Tryz.prog 74 [.pointer (some ⟨pb0, 0, none⟩), .pointer (some ⟨pb1, 0, none⟩)] w (fun v w' => v = .int .i64 r ∧ St w0 ρ ((.box pb0 27 ([w0_0, w0_1, w0_2, w0_3, w0_4, w0_5, w0_6, w0_7, w0_8, w0_9, w0_10])) :: (.box pb1 115 ([.func (.func 54) #[] #[]])) :: Γ) w') := by
  rw [book_Check_11_ion.f] at H
  refine enter Tryz.func74 Tryz.ntmps74 rfl (by kernel_rfl) rfl <| Wr fun ao ah => Oa rfl rfl <| O_nil (ah _ _ <| W_seq fun ap ai => W_drawS 8 [0, 1, 0, 4, 8, 0, 54, 127] [124, 60, 51, 99, 35, 31, 0, 0] [0, 1, 0, 4, 12, 0, 63, 127] [] (fun w => St w0 ρ ((.box pb0 27 ([w0_0, w0_1, w0_2, w0_3, w0_4, w0_5, w0_6, w0_7, w0_8, w0_9, w0_10])) :: (.box pb1 115 ([.func (.func 54) #[] #[]])) :: Γ) w) mixed (by kernel_rfl) (fun sh => ?_))
  have hs := hs.drew
  refine Dp 0 sh rfl rfl (by kernel_rfl) (fun w => Y_field fo27_7 rfl) <| Dy 1 sh rfl rfl (by kernel_rfl) hs (fun w hs => Yb 0 ag23 hs rfl rfl rfl) <| Dy 5 sh rfl rfl (by kernel_rfl) hs (fun w hs => Yb 1 ag115 hs rfl rfl rfl) <| D1 2 sh rfl (by kernel_rfl) (fun aq aj => ?_)
  obtain ⟨af, ab, H⟩ := bnd H
  refine O_call rfl rfl (book_joinings.c hs ab) (fun ar w hpost => ?_)
  obtain ⟨au, av, ak, rfl, aa, hs, al⟩ := hpost
  refine O_nil (aj _ _ (fun _ _ => ((hs.less aa).sub (ssk (ssc (ssc ssr))))) ?_)
  obtain ⟨aw, ac, hs, am⟩ := hs.rowEnd (j := 0) al rfl
  have ad := aa.trans ac
  refine Dp 3 sh rfl rfl (by kernel_rfl) (fun w => Y_lenR un22 am rfl) <| Dp 4 sh rfl rfl (by kernel_rfl) (fun w => Y_sub rfl rfl) <| D1 6 sh rfl (by kernel_rfl) (fun ax an => ?_)
  obtain ⟨ag, ae, H⟩ := bnd H
  refine O_call rfl rfl (book_values_bpe.c hs (g0_7.mono ad) ae) (fun ay w hpost => ?_)
  obtain ⟨rfl, hs⟩ := hpost
  refine O_nil (an _ _ (fun _ _ => (hs.less ad)) <| Dp 7 sh rfl rfl (by kernel_rfl) (fun w => Y_assign rfl) <| OD_doneS sh (by kernel_rfl) (ai _ _ <| W_ret ?_))
  obtain rfl := sinj H
  exact ret1 rfl rfl ⟨rfl, (hs.less ad)⟩

def book_rising_api_Span_and.j1 (ak : Int → Int → Option Int) (aa : Int) (ae : Spn) (ab : Bool) : Option Int := if ab = true then (some aa) else (ak ae.hi (IntKind.i64.wrap (aa + 1)))
def book_rising_api_Span_and.l1 : Nat → List Spn → Int → Int → Option Int
  | 0, _, _, _ => none
  | ac + 1, x0, ad, aa => if aa < (x0.length : Int) then (if (0 : Int) ≤ aa ∧ aa < (x0.length : Int) then ((book_ofSpan.f (rd x0 aa)).bind fun ae => (if ae.lo ≤ ad then (book_rising_api_Span_and.j1 (book_rising_api_Span_and.l1 ac x0) aa ae true) else (if ae.hi < ae.lo then (book_rising_api_Span_and.j1 (book_rising_api_Span_and.l1 ac x0) aa ae true) else (if 1114111 < ae.hi then (book_rising_api_Span_and.j1 (book_rising_api_Span_and.l1 ac x0) aa ae true) else ((book_Check_1.f (rd x0 aa)).bind fun al => (book_rising_api_Span_and.j1 (book_rising_api_Span_and.l1 ac x0) aa ae (!al))))))) else none) else (some (-1))
def book_rising_api_Span_and.f (x0 : List Spn) : Option Int := if 65536 < (x0.length : Int) then (some 65536) else (book_rising_api_Span_and.l1 K0 x0 (-1) 0)
theorem book_rising_api_Span_and.c {w0 w : World} {ρ : Hp} {Γ : List Item} (hs : St w0 ρ (Γ) w) {v0 : Value} {x0 : List Spn} (h0 : SlR rSpn ρ v0 x0) {r : Int} (H : book_rising_api_Span_and.f x0 = some r) : CallsR Tryz.prog 70 [v0, .func (.func 71) #[] #[], .func (.func 54) #[] #[]] w (fun v w' => v = .int .i64 r ∧ St w0 ρ Γ w') := by
  rw [book_rising_api_Span_and.f] at H
  refine enter Tryz.func70 Tryz.ntmps70 rfl (by kernel_rfl) rfl <| Wr fun bt a6 => Oa rfl rfl <| O_nil (a6 _ _ <| W_seq fun bu a7 => Wr fun bv a8 => Om rfl rfl <| O_y rfl (Y_lenR un25 h0 rfl) <| O_y rfl (Y_gtr rfl rfl) <| O_nil (a8 _ _ <| W_if rfl (fun av => ?_) (fun av => ?_)))
  ·rw [if_pos av] at H
   refine Wr fun bw a9 => Oa rfl rfl <| O_nil (a9 _ _ <| W_ret ?_)
   obtain rfl := sinj H
   exact ret1 rfl rfl ⟨rfl, hs⟩
  ·rw [if_neg av] at H
   refine W_skip (a7 _ _ <| Wr fun bx ba => Oa rfl rfl <| O_nil (ba _ _ <| W_seq fun bz bb => Wr fun b0 bc => Om rfl rfl <| O_y rfl (Y_lenR un25 h0 rfl) <| Om rfl rfl <| O_nil (bc _ _ <| W_block fun b1 bd b2 => W_loop (σ := Nat × Int × Int × Hp) (fun (ac, ad, aa, ag) => [(1, .func (.func 71) #[] #[]), (2, .func (.func 54) #[] #[]), (7, .int .i32 ad), (14, v0), (15, .int .i64 (x0.length : Int)), (16, .int .i64 aa)]) (fun (ac, ad, aa, ag) w => book_rising_api_Span_and.l1 ac x0 ad aa = some r ∧ Le ρ ag ∧ St w0 ag (Γ) w) (fun s => s.1) (K0, (-1), 0, ρ) (by repeat first | exact Sub.nil | refine Sub.cons rfl ?_) (Ai H (Ai (Le.rfl' _) hs)) ?_)))
   rintro ⟨ac, ad, aa, ag⟩ w b3 ⟨H, af, hs⟩ am
   show W _ _ _ _ _ _ [(1, .func (.func 71) #[] #[]), (2, .func (.func 54) #[] #[]), (7, .int .i32 ad), (14, v0), (15, .int .i64 (x0.length : Int)), (16, .int .i64 aa)] w
   cases ac with
   | zero => rw [book_rising_api_Span_and.l1] at H; cases H
   | succ ac =>
   rw [book_rising_api_Span_and.l1] at H
   refine Wr fun b4 be => O_y rfl (Y_lss rfl rfl) <| O_nil (be _ _ <| W_seq fun b5 bf => W_if rfl (fun aw => ?_) (fun aw => ?_))
   ·rw [if_pos aw] at H
    refine W_skip (bf _ _ <| W_seq fun b6 bg => W_block fun b7 b8 b9 => Wr fun ca bh => Om rfl rfl ?_)
    obtain ⟨a4, H⟩ := gd H
    obtain ⟨cb, cc, bi, bj⟩ := (h0.mono af).ix el25 a4.1 a4.2
    obtain ⟨_, rfl, bk⟩ := bi
    refine O_y rfl (bj rfl rfl) <| O_y rfl (Y_loadN ag110 sz110 rfl rfl (fun j u hu => hs.see (bk j u hu))) <| O_alloc zr110 hs rfl (fun bl w hs => Oa rfl rfl <| O_storeN (i := 0) sz110 hs rfl rfl rfl rfl rfl (one_cons rfl (one_cons rfl one_nil)) (fun w hs => O_nil (bh _ _ <| Wr fun cd bm => Om rfl rfl <| O_y rfl (Y_loadbN (i := 0) ag110 sz110 hs rfl rfl rfl rfl) ?_)))
    obtain ⟨ae, ax, H⟩ := bnd H
    refine O_callv rfl rfl rfl (book_ofSpan.c hs rfl ax) (fun ce w hpost => ?_)
    obtain ⟨a5, bn, rfl, aj, hs, bo⟩ := hpost
    have ay := bo
    obtain rfl := ay
    refine O_alloc zr110 hs rfl (fun ar w hs => O_storeN (i := 0) sz110 hs rfl rfl rfl rfl rfl (one_cons rfl (one_cons rfl one_nil)) (fun w hs => O_nil (bm _ _ <| W.weak [(1, _), (2, _), (7, _), (8, _), (9, _), (10, _), (14, _), (15, _), (16, _)] (by repeat first | exact Sub.nil | refine Sub.cons rfl ?_) ?_)))
    refine W_seq fun bp az => W_seqj fun a0 a1 ah => ?_
    have ai : ∀ (ab : Bool) (w : World), book_rising_api_Span_and.j1 (book_rising_api_Span_and.l1 ac x0) aa ae ab = some r → St w0 a5 ((.box ar 110 ([.int .i32 ae.lo, .int .i32 ae.hi])) :: (.box bl 110 ([.int .i32 ((rd x0 aa).lo), .int .i32 ((rd x0 aa).hi)])) :: Γ) w → a0 [(1, .func (.func 71) #[] #[]), (2, .func (.func 54) #[] #[]), (8, .int .i64 aa), (10, .pointer (some ⟨ar, 0, none⟩)), (14, v0), (15, .int .i64 (x0.length : Int)), (16, .int .i64 aa), (45, .bool ab)] w := by
     intro ab w H hs
     rw [book_rising_api_Span_and.j1] at H
     refine a1 _ _ <| W_cond rfl (fun an => ?_) (fun an => ?_)
     ·rw [if_pos an] at H
      refine Wr fun bq a2 => Om rfl rfl <| Oa rfl rfl <| O_nil (a2 _ _ <| W_ret ?_)
      obtain rfl := sinj H
      exact ret1 rfl rfl ⟨rfl, ((hs.sub (ssk (ssk ssr))).less (af.trans aj))⟩
     ·rw [if_neg (bft an)] at H
      refine W_skip (az _ _ <| W_region <| O_y rfl (Y_field fo110_1 rfl) <| O_y rfl (Yb 0 ag21 hs rfl rfl rfl) <| Oa rfl rfl <| O_nil (bg _ _ <| W_region <| O_y rfl (Y_add rfl rfl) <| Om rfl rfl <| O_nil (am (ac, ae.hi, (IntKind.i64.wrap (aa + 1)), a5) _ _ (by repeat first | exact Sub.nil | refine Sub.cons rfl ?_) (Ai H (Ai (af.trans aj) (hs.sub (ssk (ssk ssr))))) (Nat.lt_succ_self _))))
    refine W_region <| O_y rfl (Y_field fo110_0 rfl) <| O_y rfl (Yb 0 ag21 hs rfl rfl rfl) <| Om rfl rfl <| O_y rfl (Y_leq rfl rfl) <| Om rfl rfl <| O_if (dj := 28) rfl (fun ao => ?_) (fun ao => ?_)
    ·rw [if_pos ao] at H
     refine O_no rfl rfl rfl rfl <| O_no rfl rfl rfl rfl <| O_no rfl rfl rfl rfl <| O_no rfl rfl rfl rfl <| O_no rfl rfl rfl rfl <| O_y rfl (Y_pick_t rfl rfl) <| Om rfl rfl <| O_no rfl rfl rfl rfl <| O_no rfl rfl rfl rfl <| O_no rfl rfl rfl rfl <| O_y rfl (Y_pick_t rfl rfl) <| Om rfl rfl <| O_no rfl rfl rfl rfl <| O_no rfl rfl rfl rfl ?_
     refine O_no rfl rfl rfl rfl <| O_no rfl rfl rfl rfl <| O_y rfl (Y_pick_t rfl rfl) <| O_nil (ah _ _ _ (by repeat first | exact Sub.nil | refine Sub.cons rfl ?_) (ai true _ H hs))
    ·rw [if_neg ao] at H
     refine O_yes rfl rfl <| O_y rfl (Y_field fo110_1 rfl) <| O_yes rfl rfl <| O_y rfl (Yb 0 ag21 hs rfl rfl rfl) <| O_yes rfl rfl <| O_y rfl (Y_field fo110_0 rfl) <| O_yes rfl rfl <| O_y rfl (Yb 0 ag21 hs rfl rfl rfl) <| O_yes rfl rfl <| O_y rfl (Y_lss rfl rfl) <| O_y rfl (Y_pick_f rfl rfl) <| Om rfl rfl <| O_if (dj := 35) rfl (fun ap => ?_) (fun ap => ?_)
     ·rw [if_pos ap] at H
      refine O_no rfl rfl rfl rfl <| O_no rfl rfl rfl rfl <| O_no rfl rfl rfl rfl <| O_y rfl (Y_pick_t rfl rfl) <| Om rfl rfl <| O_no rfl rfl rfl rfl <| O_no rfl rfl rfl rfl <| O_no rfl rfl rfl rfl <| O_no rfl rfl rfl rfl <| O_y rfl (Y_pick_t rfl rfl) <| O_nil (ah _ _ _ (by repeat first | exact Sub.nil | refine Sub.cons rfl ?_) (ai true _ H hs))
     ·rw [if_neg ap] at H
      refine O_yes rfl rfl <| O_y rfl (Y_field fo110_1 rfl) <| O_yes rfl rfl <| O_y rfl (Yb 0 ag21 hs rfl rfl rfl) <| O_yes rfl rfl <| O_y rfl (Y_gtr rfl rfl) <| O_y rfl (Y_pick_f rfl rfl) <| Om rfl rfl <| O_if (dj := 40) rfl (fun aq => ?_) (fun aq => ?_)
      ·rw [if_pos aq] at H
       refine O_no rfl rfl rfl rfl <| O_no rfl rfl rfl rfl <| O_no rfl rfl rfl rfl <| O_no rfl rfl rfl rfl <| O_y rfl (Y_pick_t rfl rfl) <| O_nil (ah _ _ _ (by repeat first | exact Sub.nil | refine Sub.cons rfl ?_) (ai true _ H hs))
      ·rw [if_neg aq] at H
       refine O_yes rfl rfl <| Om rfl rfl <| O_yes rfl rfl <| O_y rfl (Y_loadbN (i := 1) ag110 sz110 hs rfl rfl rfl rfl) <| O_yes rfl rfl ?_
       obtain ⟨al, au, H⟩ := bnd H
       refine O_callv rfl rfl rfl (book_Check_1.c hs rfl au) (fun br w hpost => ?_)
       obtain ⟨rfl, hs⟩ := hpost
       refine O_yes rfl rfl <| O_y rfl (Y_not rfl) <| O_y rfl (Y_pick_f rfl rfl) <| O_nil (ah _ _ _ (by repeat first | exact Sub.nil | refine Sub.cons rfl ?_) (ai (!al) _ H hs))
   ·rw [if_neg aw] at H
    refine W_exit (bd _ _ (bb _ _ <| Wr fun bs a3 => Oa rfl rfl <| O_nil (a3 _ _ <| W_ret ?_)))
    obtain rfl := sinj H
    exact ret1 rfl rfl ⟨rfl, (hs.less af)⟩

def book_Check_12_ion.f (y0_0 : List ByteArray) (y0_1 : List Val) (y0_2 : List Chs) (y0_3 : List Val) (y0_4 : List Chs) (y0_5 : List Spn) (y0_6 y0_7 : List Val) (y0_8 : List Spn) (y0_9 : List Val) (y0_10 : List Chs) : Option Int := (book_rising_api_Span_and.f y0_8).bind fun ab => (some ab)
theorem book_Check_12_ion.c {w0 w : World} {ρ : Hp} {Γ : List Item} {pb0 : Nat} {w0_0 : Value} {y0_0 : List ByteArray} {w0_1 : Value} {y0_1 : List Val} {w0_2 : Value} {y0_2 : List Chs} {w0_3 : Value} {y0_3 : List Val} {w0_4 : Value} {y0_4 : List Chs} {w0_5 : Value} {y0_5 : List Spn} {w0_6 : Value} {y0_6 : List Val} {w0_7 : Value} {y0_7 : List Val} {w0_8 : Value} {y0_8 : List Spn} {w0_9 : Value} {y0_9 : List Val} {w0_10 : Value} {y0_10 : List Chs} {pb1 : Nat} (hs : St w0 ρ ((.box pb0 27 ([w0_0, w0_1, w0_2, w0_3, w0_4, w0_5, w0_6, w0_7, w0_8, w0_9, w0_10])) :: (.box pb1 115 ([.func (.func 54) #[] #[]])) :: Γ) w) (g0_0 : SlR Rep.str ρ w0_0 y0_0) (g0_1 : SlR rVal ρ w0_1 y0_1) (g0_2 : SlR rChs ρ w0_2 y0_2) (g0_3 : SlR rVal ρ w0_3 y0_3) (g0_4 : SlR rChs ρ w0_4 y0_4) (g0_5 : SlR rSpn ρ w0_5 y0_5) (g0_6 : SlR rVal ρ w0_6 y0_6) (g0_7 : SlR rVal ρ w0_7 y0_7) (g0_8 : SlR rSpn ρ w0_8 y0_8) (g0_9 : SlR rVal ρ w0_9 y0_9) (g0_10 : SlR rChs ρ w0_10 y0_10) {r : Int} (H : book_Check_12_ion.f y0_0 y0_1 y0_2 y0_3 y0_4 y0_5 y0_6 y0_7 y0_8 y0_9 y0_10 = some r) : CallsR Tryz.prog 76 [.pointer (some ⟨pb0, 0, none⟩), .pointer (some ⟨pb1, 0, none⟩)] w (fun v w' => v = .int .i64 r ∧ St w0 ρ ((.box pb0 27 ([w0_0, w0_1, w0_2, w0_3, w0_4, w0_5, w0_6, w0_7, w0_8, w0_9, w0_10])) :: (.box pb1 115 ([.func (.func 54) #[] #[]])) :: Γ) w') := by
  rw [book_Check_12_ion.f] at H
  refine enter Tryz.func76 Tryz.ntmps76 rfl (by kernel_rfl) rfl <| Wr fun ae ac => Oa rfl rfl <| O_nil (ac _ _ <| Wr fun af ad => O_y rfl (Y_field fo27_8 rfl) <| O_y rfl (Yb 0 ag25 hs rfl rfl rfl) <| O_y rfl (Yb 1 ag115 hs rfl rfl rfl) ?_)
  obtain ⟨ab, aa, H⟩ := bnd H
  refine O_call rfl rfl (book_rising_api_Span_and.c hs g0_8 aa) (fun ag w hpost => ?_)
  obtain ⟨rfl, hs⟩ := hpost
  refine Oa rfl rfl <| O_nil (ad _ _ <| W_ret ?_)
  obtain rfl := sinj H
  exact ret1 rfl rfl ⟨rfl, hs⟩

def book_Check_13_ion.f (y0_0 : List ByteArray) (y0_1 : List Val) (y0_2 : List Chs) (y0_3 : List Val) (y0_4 : List Chs) (y0_5 : List Spn) (y0_6 y0_7 : List Val) (y0_8 : List Spn) (y0_9 : List Val) (y0_10 : List Chs) : Option Int := (book_values_bpe.f y0_9 1 (y0_0.length : Int)).bind fun ab => (some ab)
theorem book_Check_13_ion.c {w0 w : World} {ρ : Hp} {Γ : List Item} {pb0 : Nat} {w0_0 : Value} {y0_0 : List ByteArray} {w0_1 : Value} {y0_1 : List Val} {w0_2 : Value} {y0_2 : List Chs} {w0_3 : Value} {y0_3 : List Val} {w0_4 : Value} {y0_4 : List Chs} {w0_5 : Value} {y0_5 : List Spn} {w0_6 : Value} {y0_6 : List Val} {w0_7 : Value} {y0_7 : List Val} {w0_8 : Value} {y0_8 : List Spn} {w0_9 : Value} {y0_9 : List Val} {w0_10 : Value} {y0_10 : List Chs} {pb1 : Nat} (hs : St w0 ρ ((.box pb0 27 ([w0_0, w0_1, w0_2, w0_3, w0_4, w0_5, w0_6, w0_7, w0_8, w0_9, w0_10])) :: (.box pb1 115 ([.func (.func 54) #[] #[]])) :: Γ) w) (g0_0 : SlR Rep.str ρ w0_0 y0_0) (g0_1 : SlR rVal ρ w0_1 y0_1) (g0_2 : SlR rChs ρ w0_2 y0_2) (g0_3 : SlR rVal ρ w0_3 y0_3) (g0_4 : SlR rChs ρ w0_4 y0_4) (g0_5 : SlR rSpn ρ w0_5 y0_5) (g0_6 : SlR rVal ρ w0_6 y0_6) (g0_7 : SlR rVal ρ w0_7 y0_7) (g0_8 : SlR rSpn ρ w0_8 y0_8) (g0_9 : SlR rVal ρ w0_9 y0_9) (g0_10 : SlR rChs ρ w0_10 y0_10) {r : Int} (H : book_Check_13_ion.f y0_0 y0_1 y0_2 y0_3 y0_4 y0_5 y0_6 y0_7 y0_8 y0_9 y0_10 = some r) : CallsR Tryz.prog 77 [.pointer (some ⟨pb0, 0, none⟩), .pointer (some ⟨pb1, 0, none⟩)] w (fun v w' => v = .int .i64 r ∧ St w0 ρ ((.box pb0 27 ([w0_0, w0_1, w0_2, w0_3, w0_4, w0_5, w0_6, w0_7, w0_8, w0_9, w0_10])) :: (.box pb1 115 ([.func (.func 54) #[] #[]])) :: Γ) w') := by
  rw [book_Check_13_ion.f] at H
  refine enter Tryz.func77 Tryz.ntmps77 rfl (by kernel_rfl) rfl <| Wr fun ae ac => Oa rfl rfl <| O_nil (ac _ _ <| Wr fun af ad => O_y rfl (Y_field fo27_9 rfl) <| O_y rfl (Yb 0 ag23 hs rfl rfl rfl) <| O_y rfl (Y_field fo27_0 rfl) <| O_y rfl (Yb 0 ag22 hs rfl rfl rfl) <| O_y rfl (Y_lenR un22 g0_0 rfl) <| O_y rfl (Yb 1 ag115 hs rfl rfl rfl) ?_)
  obtain ⟨ab, aa, H⟩ := bnd H
  refine O_call rfl rfl (book_values_bpe.c hs g0_9 aa) (fun ag w hpost => ?_)
  obtain ⟨rfl, hs⟩ := hpost
  refine Oa rfl rfl <| O_nil (ad _ _ <| W_ret ?_)
  obtain rfl := sinj H
  exact ret1 rfl rfl ⟨rfl, hs⟩

def book_Check_3.f (x0 : Chs) : Option Bool := (book_scalars.f x0.is_ 1 18).bind fun ab => (some ab)
theorem book_Check_3.c {w0 w : World} {ρ : Hp} {Γ : List Item} (hs : St w0 ρ (Γ) w) {c0 : List Value} {x0 : Chs} (h0 : rChs.R ρ c0 x0) {r : Bool} (H : book_Check_3.f x0 = some r) : CallsR Tryz.prog 57 [.agg c0.toArray] w (fun v w' => v = .bool r ∧ St w0 ρ Γ w') := by
  rw [book_Check_3.f] at H
  refine enter Tryz.func57 Tryz.ntmps57 rfl (by kernel_rfl) rfl ?_
  have ac := h0
  obtain ⟨ad, rfl, ae⟩ := ac
  refine Wr fun ah af => O_boxN (cs := [.int .i32 x0.lo, .int .i32 x0.hi, ad]) hs rfl rfl (fun ai w hs => Oa rfl rfl <| O_nil (af _ _ <| Wr fun aj ag => O_y rfl (Y_field fo94_2 rfl) <| O_y rfl (Yb 0 ag28 hs rfl rfl rfl) ?_))
  obtain ⟨ab, aa, H⟩ := bnd H
  refine O_call rfl rfl (book_scalars.c hs ae aa) (fun ak w hpost => ?_)
  obtain ⟨rfl, hs⟩ := hpost
  refine Oa rfl rfl <| O_nil (ag _ _ <| W_ret ?_)
  obtain rfl := sinj H
  exact ret1 rfl rfl ⟨rfl, (hs.sub (ssk ssr))⟩

def book_rising_api_Chars_hdj.j1 (ak : Int → Int → Option Int) (aa : Int) (ae : Spn) (ab : Bool) : Option Int := if ab = true then (some aa) else (ak ae.hi (IntKind.i64.wrap (aa + 1)))
def book_rising_api_Chars_hdj.l1 : Nat → List Chs → Int → Int → Option Int
  | 0, _, _, _ => none
  | ac + 1, x0, ad, aa => if aa < (x0.length : Int) then (if (0 : Int) ≤ aa ∧ aa < (x0.length : Int) then ((book_ofChars.f (rd x0 aa)).bind fun ae => (if ae.lo ≤ ad then (book_rising_api_Chars_hdj.j1 (book_rising_api_Chars_hdj.l1 ac x0) aa ae true) else (if ae.hi < ae.lo then (book_rising_api_Chars_hdj.j1 (book_rising_api_Chars_hdj.l1 ac x0) aa ae true) else (if 1114111 < ae.hi then (book_rising_api_Chars_hdj.j1 (book_rising_api_Chars_hdj.l1 ac x0) aa ae true) else ((book_Check_3.f (rd x0 aa)).bind fun al => (book_rising_api_Chars_hdj.j1 (book_rising_api_Chars_hdj.l1 ac x0) aa ae (!al))))))) else none) else (some (-1))
def book_rising_api_Chars_hdj.f (x0 : List Chs) : Option Int := if 65536 < (x0.length : Int) then (some 65536) else (book_rising_api_Chars_hdj.l1 K0 x0 (-1) 0)
theorem book_rising_api_Chars_hdj.c {w0 w : World} {ρ : Hp} {Γ : List Item} (hs : St w0 ρ (Γ) w) {v0 : Value} {x0 : List Chs} (h0 : SlR rChs ρ v0 x0) {r : Int} (H : book_rising_api_Chars_hdj.f x0 = some r) : CallsR Tryz.prog 67 [v0, .func (.func 45) #[] #[], .func (.func 57) #[] #[]] w (fun v w' => v = .int .i64 r ∧ St w0 ρ Γ w') := by
  rw [book_rising_api_Chars_hdj.f] at H
  refine enter Tryz.func67 Tryz.ntmps67 rfl (by kernel_rfl) rfl <| Wr fun bv a8 => Oa rfl rfl <| O_nil (a8 _ _ <| W_seq fun bw a9 => Wr fun bx ba => Om rfl rfl <| O_y rfl (Y_lenR un24 h0 rfl) <| O_y rfl (Y_gtr rfl rfl) <| O_nil (ba _ _ <| W_if rfl (fun aw => ?_) (fun aw => ?_)))
  ·rw [if_pos aw] at H
   refine Wr fun bz bb => Oa rfl rfl <| O_nil (bb _ _ <| W_ret ?_)
   obtain rfl := sinj H
   exact ret1 rfl rfl ⟨rfl, hs⟩
  ·rw [if_neg aw] at H
   refine W_skip (a9 _ _ <| Wr fun b0 bc => Oa rfl rfl <| O_nil (bc _ _ <| W_seq fun b1 bd => Wr fun b2 be => Om rfl rfl <| O_y rfl (Y_lenR un24 h0 rfl) <| Om rfl rfl <| O_nil (be _ _ <| W_block fun b3 bf b4 => W_loop (σ := Nat × Int × Int × Hp) (fun (ac, ad, aa, ah) => [(1, .func (.func 45) #[] #[]), (2, .func (.func 57) #[] #[]), (7, .int .i32 ad), (14, v0), (15, .int .i64 (x0.length : Int)), (16, .int .i64 aa)]) (fun (ac, ad, aa, ah) w => book_rising_api_Chars_hdj.l1 ac x0 ad aa = some r ∧ Le ρ ah ∧ St w0 ah (Γ) w) (fun s => s.1) (K0, (-1), 0, ρ) (by repeat first | exact Sub.nil | refine Sub.cons rfl ?_) (Ai H (Ai (Le.rfl' _) hs)) ?_)))
   rintro ⟨ac, ad, aa, ah⟩ w b5 ⟨H, af, hs⟩ am
   show W _ _ _ _ _ _ [(1, .func (.func 45) #[] #[]), (2, .func (.func 57) #[] #[]), (7, .int .i32 ad), (14, v0), (15, .int .i64 (x0.length : Int)), (16, .int .i64 aa)] w
   cases ac with
   | zero => rw [book_rising_api_Chars_hdj.l1] at H; cases H
   | succ ac =>
   rw [book_rising_api_Chars_hdj.l1] at H
   refine Wr fun b6 bg => O_y rfl (Y_lss rfl rfl) <| O_nil (bg _ _ <| W_seq fun b7 bh => W_if rfl (fun ax => ?_) (fun ax => ?_))
   ·rw [if_pos ax] at H
    refine W_skip (bh _ _ <| W_seq fun b8 bi => W_block fun b9 ca cb => Wr fun cc bj => Om rfl rfl ?_)
    obtain ⟨a7, H⟩ := gd H
    obtain ⟨cd, ce, bk, bl⟩ := (h0.mono af).ix el24 a7.1 a7.2
    obtain ⟨_, ⟨bm, rfl, ay⟩, bn⟩ := bk
    refine O_y rfl (bl rfl rfl) <| O_y rfl (Y_loadN ag94 sz94 rfl rfl (fun j u hu => hs.see (bn j u hu))) <| O_alloc zr94 hs rfl (fun bo w hs => Oa rfl rfl <| O_storeN (i := 0) sz94 hs rfl rfl rfl rfl rfl (one_cons rfl (one_cons rfl (one_cons ay.one one_nil))) (fun w hs => O_nil (bj _ _ <| Wr fun cf bp => Om rfl rfl <| O_y rfl (Y_loadbN (i := 0) ag94 sz94 hs rfl rfl rfl rfl) ?_)))
    obtain ⟨ae, az, H⟩ := bnd H
    refine O_callv rfl rfl rfl (book_ofChars.c hs ⟨_, rfl, ay⟩ az) (fun cg w hpost => ?_)
    obtain ⟨ar, bq, rfl, ag, hs, a0⟩ := hpost
    have a1 := a0
    obtain rfl := a1
    refine O_alloc zr110 hs rfl (fun au w hs => O_storeN (i := 0) sz110 hs rfl rfl rfl rfl rfl (one_cons rfl (one_cons rfl one_nil)) (fun w hs => O_nil (bp _ _ <| W.weak [(1, _), (2, _), (7, _), (8, _), (9, _), (10, _), (14, _), (15, _), (16, _)] (by repeat first | exact Sub.nil | refine Sub.cons rfl ?_) ?_)))
    refine W_seq fun br a2 => W_seqj fun a3 a4 ai => ?_
    have aj : ∀ (ab : Bool) (w : World), book_rising_api_Chars_hdj.j1 (book_rising_api_Chars_hdj.l1 ac x0) aa ae ab = some r → St w0 ar ((.box au 110 ([.int .i32 ae.lo, .int .i32 ae.hi])) :: (.box bo 94 ([.int .i32 ((rd x0 aa).lo), .int .i32 ((rd x0 aa).hi), bm])) :: Γ) w → a3 [(1, .func (.func 45) #[] #[]), (2, .func (.func 57) #[] #[]), (8, .int .i64 aa), (10, .pointer (some ⟨au, 0, none⟩)), (14, v0), (15, .int .i64 (x0.length : Int)), (16, .int .i64 aa), (45, .bool ab)] w := by
     intro ab w H hs
     rw [book_rising_api_Chars_hdj.j1] at H
     refine a4 _ _ <| W_cond rfl (fun an => ?_) (fun an => ?_)
     ·rw [if_pos an] at H
      refine Wr fun bs a5 => Om rfl rfl <| Oa rfl rfl <| O_nil (a5 _ _ <| W_ret ?_)
      obtain rfl := sinj H
      exact ret1 rfl rfl ⟨rfl, ((hs.sub (ssk (ssk ssr))).less (af.trans ag))⟩
     ·rw [if_neg (bft an)] at H
      refine W_skip (a2 _ _ <| W_region <| O_y rfl (Y_field fo110_1 rfl) <| O_y rfl (Yb 0 ag21 hs rfl rfl rfl) <| Oa rfl rfl <| O_nil (bi _ _ <| W_region <| O_y rfl (Y_add rfl rfl) <| Om rfl rfl <| O_nil (am (ac, ae.hi, (IntKind.i64.wrap (aa + 1)), ar) _ _ (by repeat first | exact Sub.nil | refine Sub.cons rfl ?_) (Ai H (Ai (af.trans ag) (hs.sub (ssk (ssk ssr))))) (Nat.lt_succ_self _))))
    refine W_region <| O_y rfl (Y_field fo110_0 rfl) <| O_y rfl (Yb 0 ag21 hs rfl rfl rfl) <| Om rfl rfl <| O_y rfl (Y_leq rfl rfl) <| Om rfl rfl <| O_if (dj := 28) rfl (fun ao => ?_) (fun ao => ?_)
    ·rw [if_pos ao] at H
     refine O_no rfl rfl rfl rfl <| O_no rfl rfl rfl rfl <| O_no rfl rfl rfl rfl <| O_no rfl rfl rfl rfl <| O_no rfl rfl rfl rfl <| O_y rfl (Y_pick_t rfl rfl) <| Om rfl rfl <| O_no rfl rfl rfl rfl <| O_no rfl rfl rfl rfl <| O_no rfl rfl rfl rfl <| O_y rfl (Y_pick_t rfl rfl) <| Om rfl rfl <| O_no rfl rfl rfl rfl <| O_no rfl rfl rfl rfl ?_
     refine O_no rfl rfl rfl rfl <| O_no rfl rfl rfl rfl <| O_y rfl (Y_pick_t rfl rfl) <| O_nil (ai _ _ _ (by repeat first | exact Sub.nil | refine Sub.cons rfl ?_) (aj true _ H hs))
    ·rw [if_neg ao] at H
     refine O_yes rfl rfl <| O_y rfl (Y_field fo110_1 rfl) <| O_yes rfl rfl <| O_y rfl (Yb 0 ag21 hs rfl rfl rfl) <| O_yes rfl rfl <| O_y rfl (Y_field fo110_0 rfl) <| O_yes rfl rfl <| O_y rfl (Yb 0 ag21 hs rfl rfl rfl) <| O_yes rfl rfl <| O_y rfl (Y_lss rfl rfl) <| O_y rfl (Y_pick_f rfl rfl) <| Om rfl rfl <| O_if (dj := 35) rfl (fun ap => ?_) (fun ap => ?_)
     ·rw [if_pos ap] at H
      refine O_no rfl rfl rfl rfl <| O_no rfl rfl rfl rfl <| O_no rfl rfl rfl rfl <| O_y rfl (Y_pick_t rfl rfl) <| Om rfl rfl <| O_no rfl rfl rfl rfl <| O_no rfl rfl rfl rfl <| O_no rfl rfl rfl rfl <| O_no rfl rfl rfl rfl <| O_y rfl (Y_pick_t rfl rfl) <| O_nil (ai _ _ _ (by repeat first | exact Sub.nil | refine Sub.cons rfl ?_) (aj true _ H hs))
     ·rw [if_neg ap] at H
      refine O_yes rfl rfl <| O_y rfl (Y_field fo110_1 rfl) <| O_yes rfl rfl <| O_y rfl (Yb 0 ag21 hs rfl rfl rfl) <| O_yes rfl rfl <| O_y rfl (Y_gtr rfl rfl) <| O_y rfl (Y_pick_f rfl rfl) <| Om rfl rfl <| O_if (dj := 40) rfl (fun aq => ?_) (fun aq => ?_)
      ·rw [if_pos aq] at H
       refine O_no rfl rfl rfl rfl <| O_no rfl rfl rfl rfl <| O_no rfl rfl rfl rfl <| O_no rfl rfl rfl rfl <| O_y rfl (Y_pick_t rfl rfl) <| O_nil (ai _ _ _ (by repeat first | exact Sub.nil | refine Sub.cons rfl ?_) (aj true _ H hs))
      ·rw [if_neg aq] at H
       refine O_yes rfl rfl <| Om rfl rfl <| O_yes rfl rfl <| O_y rfl (Y_loadbN (i := 1) ag94 sz94 hs rfl rfl rfl rfl) <| O_yes rfl rfl ?_
       obtain ⟨al, av, H⟩ := bnd H
       refine O_callv rfl rfl rfl (book_Check_3.c hs ⟨_, rfl, (ay.mono ag)⟩ av) (fun bt w hpost => ?_)
       obtain ⟨rfl, hs⟩ := hpost
       refine O_yes rfl rfl <| O_y rfl (Y_not rfl) <| O_y rfl (Y_pick_f rfl rfl) <| O_nil (ai _ _ _ (by repeat first | exact Sub.nil | refine Sub.cons rfl ?_) (aj (!al) _ H hs))
   ·rw [if_neg ax] at H
    refine W_exit (bf _ _ (bd _ _ <| Wr fun bu a6 => Oa rfl rfl <| O_nil (a6 _ _ <| W_ret ?_)))
    obtain rfl := sinj H
    exact ret1 rfl rfl ⟨rfl, (hs.less af)⟩

def book_Check_14_gdi.f (y0_0 : List ByteArray) (y0_1 : List Val) (y0_2 : List Chs) (y0_3 : List Val) (y0_4 : List Chs) (y0_5 : List Spn) (y0_6 y0_7 : List Val) (y0_8 : List Spn) (y0_9 : List Val) (y0_10 : List Chs) : Option Int := (book_rising_api_Chars_hdj.f y0_10).bind fun ab => (some ab)
theorem book_Check_14_gdi.c {w0 w : World} {ρ : Hp} {Γ : List Item} {pb0 : Nat} {w0_0 : Value} {y0_0 : List ByteArray} {w0_1 : Value} {y0_1 : List Val} {w0_2 : Value} {y0_2 : List Chs} {w0_3 : Value} {y0_3 : List Val} {w0_4 : Value} {y0_4 : List Chs} {w0_5 : Value} {y0_5 : List Spn} {w0_6 : Value} {y0_6 : List Val} {w0_7 : Value} {y0_7 : List Val} {w0_8 : Value} {y0_8 : List Spn} {w0_9 : Value} {y0_9 : List Val} {w0_10 : Value} {y0_10 : List Chs} {pb1 : Nat} (hs : St w0 ρ ((.box pb0 27 ([w0_0, w0_1, w0_2, w0_3, w0_4, w0_5, w0_6, w0_7, w0_8, w0_9, w0_10])) :: (.box pb1 117 ([.func (.func 57) #[] #[]])) :: Γ) w) (g0_0 : SlR Rep.str ρ w0_0 y0_0) (g0_1 : SlR rVal ρ w0_1 y0_1) (g0_2 : SlR rChs ρ w0_2 y0_2) (g0_3 : SlR rVal ρ w0_3 y0_3) (g0_4 : SlR rChs ρ w0_4 y0_4) (g0_5 : SlR rSpn ρ w0_5 y0_5) (g0_6 : SlR rVal ρ w0_6 y0_6) (g0_7 : SlR rVal ρ w0_7 y0_7) (g0_8 : SlR rSpn ρ w0_8 y0_8) (g0_9 : SlR rVal ρ w0_9 y0_9) (g0_10 : SlR rChs ρ w0_10 y0_10) {r : Int} (H : book_Check_14_gdi.f y0_0 y0_1 y0_2 y0_3 y0_4 y0_5 y0_6 y0_7 y0_8 y0_9 y0_10 = some r) : CallsR Tryz.prog 78 [.pointer (some ⟨pb0, 0, none⟩), .pointer (some ⟨pb1, 0, none⟩)] w (fun v w' => v = .int .i64 r ∧ St w0 ρ ((.box pb0 27 ([w0_0, w0_1, w0_2, w0_3, w0_4, w0_5, w0_6, w0_7, w0_8, w0_9, w0_10])) :: (.box pb1 117 ([.func (.func 57) #[] #[]])) :: Γ) w') := by
  rw [book_Check_14_gdi.f] at H
  refine enter Tryz.func78 Tryz.ntmps78 rfl (by kernel_rfl) rfl <| Wr fun ae ac => Oa rfl rfl <| O_nil (ac _ _ <| Wr fun af ad => O_y rfl (Y_field fo27_10 rfl) <| O_y rfl (Yb 0 ag24 hs rfl rfl rfl) <| O_y rfl (Yb 1 ag117 hs rfl rfl rfl) ?_)
  obtain ⟨ab, aa, H⟩ := bnd H
  refine O_call rfl rfl (book_rising_api_Chars_hdj.c hs g0_10 aa) (fun ag w hpost => ?_)
  obtain ⟨rfl, hs⟩ := hpost
  refine Oa rfl rfl <| O_nil (ad _ _ <| W_ret ?_)
  obtain rfl := sinj H
  exact ret1 rfl rfl ⟨rfl, hs⟩

def book_tree_length_bjo.j1 (ah : (List (Int × Int)) → Int → Int → Option (Int × (List (Int × Int)))) (ad aa : Int) (ac : List (Int × Int)) (ae : Int) : Option (Int × (List (Int × Int))) := if ae = 0 then (some (0, ac)) else (ah ac (IntKind.i64.wrap (ad + ae)) (IntKind.i64.wrap (aa + 1)))
def book_tree_length_bjo.l1 : Nat → (Int → List Chs → (List (Int × Int)) → (List (Int × Int)) → Option (Int × (List (Int × Int)))) → List Chs → (List (Int × Int)) → Int → (List (Int × Int)) → Int → Int → Option (Int × (List (Int × Int)))
  | 0, _, _, _, _, _, _, _ => none
  | af + 1, rec, y0_0, y1, x1, ab, ad, aa => if aa < (((rd y0_0 x1).is_).length : Int) then (if (0 : Int) ≤ aa ∧ aa < (((rd y0_0 x1).is_).length : Int) then (if ((mget y1 (rd ((rd y0_0 x1).is_) aa)).isSome) = true then ((rec ((mget y1 (rd ((rd y0_0 x1).is_) aa)).getD 0) y0_0 y1 ab).bind fun ag => (book_tree_length_bjo.j1 (book_tree_length_bjo.l1 af rec y0_0 y1 x1) ad aa ag.2 ag.1)) else (book_tree_length_bjo.j1 (book_tree_length_bjo.l1 af rec y0_0 y1 x1) ad aa ab 1)) else none) else (if 18 < ad then (some (0, ab)) else (some (ad, mput ab x1 ad)))
def book_tree_length_bjo.b (rec : Int → List Chs → (List (Int × Int)) → (List (Int × Int)) → Option (Int × (List (Int × Int)))) (x1 : Int) (y0_0 : List Chs) (y1 : List (Int × Int)) (y2 : List (Int × Int)) : Option (Int × (List (Int × Int))) := if ((mget y2 x1).isSome) = true then (some ((mget y2 x1).getD 0, y2)) else (if (0 : Int) ≤ x1 ∧ x1 < (y0_0.length : Int) then (book_tree_length_bjo.l1 K0 rec y0_0 y1 x1 (mput y2 x1 0) 0 0) else none)
def book_tree_length_bjo.f : Nat → Int → List Chs → (List (Int × Int)) → (List (Int × Int)) → Option (Int × (List (Int × Int)))
  | 0, _, _, _, _ => none
  | k + 1, x1, y0_0, y1, y2 => book_tree_length_bjo.b (book_tree_length_bjo.f k) x1 y0_0 y1 y2
def book_tree_length_bjo.Spec (rec : Int → List Chs → (List (Int × Int)) → (List (Int × Int)) → Option (Int × (List (Int × Int)))) : Prop := ∀ {w0 w : World} {ρ : Hp} {Γ : List Item} {pb0 : Nat} {w0_0 : Value} {y0_0 : List Chs} {pm1 : Nat} {y1 : List (Int × Int)} {pm2 : Nat} {y2 : List (Int × Int)} (hs : St w0 ρ ((.box pb0 149 ([w0_0, .map (some pm1), .map (some pm2)])) :: (.obj pm1 (mapObj (KeyK.int un21).enc (vs (Value.int .i64) y1))) :: (.obj pm2 (mapObj (KeyK.int un3).enc (vs (Value.int .i64) y2))) :: Γ) w) {x1 : Int} (g0_0 : SlR rChs ρ w0_0 y0_0) {r : Int × (List (Int × Int))}, rec x1 y0_0 y1 y2 = some r → CallsR Tryz.prog 102 [.pointer (some ⟨pb0, 0, none⟩), .int .i64 x1] w (fun v w' => v = .int .i64 r.1 ∧ St w0 ρ ((.box pb0 149 ([w0_0, .map (some pm1), .map (some pm2)])) :: (.obj pm1 (mapObj (KeyK.int un21).enc (vs (Value.int .i64) y1))) :: (.obj pm2 (mapObj (KeyK.int un3).enc (vs (Value.int .i64) r.2))) :: Γ) w')
theorem book_tree_length_bjo.cb (rec : Int → List Chs → (List (Int × Int)) → (List (Int × Int)) → Option (Int × (List (Int × Int)))) (hrec : book_tree_length_bjo.Spec rec) {w0 w : World} {ρ : Hp} {Γ : List Item} {pb0 : Nat} {w0_0 : Value} {y0_0 : List Chs} {pm1 : Nat} {y1 : List (Int × Int)} {pm2 : Nat} {y2 : List (Int × Int)} (hs : St w0 ρ ((.box pb0 149 ([w0_0, .map (some pm1), .map (some pm2)])) :: (.obj pm1 (mapObj (KeyK.int un21).enc (vs (Value.int .i64) y1))) :: (.obj pm2 (mapObj (KeyK.int un3).enc (vs (Value.int .i64) y2))) :: Γ) w) {x1 : Int} (g0_0 : SlR rChs ρ w0_0 y0_0) {r : Int × (List (Int × Int))} (H : book_tree_length_bjo.b rec x1 y0_0 y1 y2 = some r) : CallsR Tryz.prog 102 [.pointer (some ⟨pb0, 0, none⟩), .int .i64 x1] w (fun v w' => v = .int .i64 r.1 ∧ St w0 ρ ((.box pb0 149 ([w0_0, .map (some pm1), .map (some pm2)])) :: (.obj pm1 (mapObj (KeyK.int un21).enc (vs (Value.int .i64) y1))) :: (.obj pm2 (mapObj (KeyK.int un3).enc (vs (Value.int .i64) r.2))) :: Γ) w') := by
  rw [book_tree_length_bjo.b] at H
  refine enter Tryz.func102 Tryz.ntmps102 rfl (by kernel_rfl) rfl <| Wr fun b6 bc => Oa rfl rfl <| O_nil (bc _ _ <| W_seq fun b7 bd => Wr fun b8 be => Om rfl rfl <| O_y rfl (Y_nilp rfl) <| O_y rfl (Y_field fo149_2 rfl) <| O_y rfl (Yb 0 ag147 hs rfl rfl rfl) <| Om rfl rfl <| O_y rfl (Y_mapGet2 (i := 2) (m := y2) (x := x1) (E := (Value.int .i64)) un147 (KeyK.int un3) trivial (fun _ _ => trivial) zv3 hs rfl rfl rfl) ?_)
  refine Om rfl rfl <| O_y rfl (Y_extract rfl rfl) <| O_y rfl (Y_extract rfl rfl) <| Oa rfl rfl <| Oa rfl rfl <| O_nil (be _ _ <| Wr fun b9 bf => Om rfl rfl <| O_nil (bf _ _ <| W.weak [(0, _), (1, _), (5, _), (22, _)] (S4 rfl rfl rfl rfl) <| W_cond rfl (fun ap => ?_) (fun ap => ?_)))
  ·rw [if_pos ap] at H
   refine Wr fun ca bg => Om rfl rfl <| Oa rfl rfl <| O_nil (bg _ _ <| W_ret ?_)
   obtain rfl := sinj H
   exact ret1 rfl rfl ⟨rfl, hs⟩
  ·rw [if_neg (bft ap)] at H
   refine W_skip (bd _ _ <| Wr fun cc bh => Om rfl rfl <| O_y rfl (Y_nilp rfl) <| O_y rfl (Y_field fo149_2 rfl) <| O_y rfl (Yb 0 ag147 hs rfl rfl rfl) <| Om rfl rfl <| O_mapPut (i := 2) (m := y2) (x := x1) (v := 0) (E := (Value.int .i64)) un147 (KeyK.int un3) trivial (fun _ _ => trivial) hs rfl rfl rfl rfl (fun w hs => O_nil (bh _ _ <| Wr fun cd bi => Oa rfl rfl <| O_nil (bi _ _ ?_))))
   refine W_seq fun ce bj => Wr fun cf bk => Om rfl rfl <| O_y rfl (Y_nilp rfl) <| O_y rfl (Y_field fo149_0 rfl) <| O_y rfl (Yb 0 ag24 hs rfl rfl rfl) <| Om rfl rfl ?_
   obtain ⟨a9, H⟩ := gd H
   obtain ⟨cg, ch, bl, bm⟩ := g0_0.ix el24 a9.1 a9.2
   obtain ⟨_, ⟨aq, rfl, ba⟩, bn⟩ := bl
   refine O_y rfl (bm rfl rfl) <| O_y rfl (Y_field fo94_2 rfl) <| O_y rfl (Y_load ag28 rfl (hs.see (bn 2 _ rfl))) <| O_y rfl (Y_lenR un28 ba rfl) <| Om rfl rfl <| O_nil (bk _ _ <| W.weak [(0, _), (1, _), (7, _), (36, _), (37, _), (38, _)] (by repeat first | exact Sub.nil | refine Sub.cons rfl ?_) ?_)
   refine W_block fun ci bo cj => W_loop (σ := Nat × (List (Int × Int)) × Int × Int) (fun (af, ab, ad, aa) => [(0, .pointer (some ⟨pb0, 0, none⟩)), (1, .int .i64 x1), (7, .int .i64 ad), (36, aq), (37, .int .i64 (((rd y0_0 x1).is_).length : Int)), (38, .int .i64 aa)]) (fun (af, ab, ad, aa) w => book_tree_length_bjo.l1 af rec y0_0 y1 x1 ab ad aa = some r ∧ St w0 ρ ((.box pb0 149 ([w0_0, .map (some pm1), .map (some pm2)])) :: (.obj pm1 (mapObj (KeyK.int un21).enc (vs (Value.int .i64) y1))) :: (.obj pm2 (mapObj (KeyK.int un3).enc (vs (Value.int .i64) ab))) :: Γ) w) (fun s => s.1) (K0, (mput y2 x1 0), 0, 0) (by repeat first | exact Sub.nil | refine Sub.cons rfl ?_) (Ai H hs) ?_
   rintro ⟨af, ab, ad, aa⟩ w ck ⟨H, hs⟩ ai
   show W _ _ _ _ _ _ [(0, .pointer (some ⟨pb0, 0, none⟩)), (1, .int .i64 x1), (7, .int .i64 ad), (36, aq), (37, .int .i64 (((rd y0_0 x1).is_).length : Int)), (38, .int .i64 aa)] w
   cases af with
   | zero => rw [book_tree_length_bjo.l1] at H; cases H
   | succ af =>
   rw [book_tree_length_bjo.l1] at H
   refine Wr fun cl bp => O_y rfl (Y_lss rfl rfl) <| O_nil (bp _ _ <| W_seq fun cm bq => W_if rfl (fun ar => ?_) (fun ar => ?_))
   ·rw [if_pos ar] at H
    refine W_skip (bq _ _ <| W_seq fun cn br => W_block fun co cp cq => W_seq fun cr bs => W_region ?_)
    obtain ⟨bb, H⟩ := gd H
    obtain ⟨cs, ct, au, av⟩ := ba.ix el28 bb.1 bb.2
    refine O_y rfl (av rfl rfl) <| O_y rfl (Y_load ag21 rfl (hs.see au.int)) <| Oa rfl rfl <| O_nil (bs _ _ <| Wr fun bt aw => Oa rfl rfl <| O_nil (aw _ _ <| W_seqj fun ax ay am => ?_))
    have an : ∀ (ac : List (Int × Int)) (ae : Int) (w : World), book_tree_length_bjo.j1 (book_tree_length_bjo.l1 af rec y0_0 y1 x1) ad aa ac ae = some r → St w0 ρ ((.box pb0 149 ([w0_0, .map (some pm1), .map (some pm2)])) :: (.obj pm1 (mapObj (KeyK.int un21).enc (vs (Value.int .i64) y1))) :: (.obj pm2 (mapObj (KeyK.int un3).enc (vs (Value.int .i64) ac))) :: Γ) w → ax [(0, .pointer (some ⟨pb0, 0, none⟩)), (1, .int .i64 x1), (7, .int .i64 ad), (10, .int .i64 ae), (36, aq), (37, .int .i64 (((rd y0_0 x1).is_).length : Int)), (38, .int .i64 aa)] w := by
     intro ac ae w H hs
     rw [book_tree_length_bjo.j1] at H
     refine ay _ _ <| W_seq fun bu az => Wr fun bv a0 => Om rfl rfl <| O_y rfl (Y_eql rfl rfl) <| O_nil (a0 _ _ <| W_if rfl (fun aj => ?_) (fun aj => ?_))
     ·rw [if_pos aj] at H
      refine Wr fun bw a1 => Oa rfl rfl <| O_nil (a1 _ _ <| W_ret ?_)
      obtain rfl := sinj H
      exact ret1 rfl rfl ⟨rfl, hs⟩
     ·rw [if_neg aj] at H
      refine W_skip (az _ _ <| W_region <| Om rfl rfl <| Om rfl rfl <| O_y rfl (Y_add rfl rfl) <| Oa rfl rfl <| O_nil (br _ _ <| W_region <| O_y rfl (Y_add rfl rfl) <| Om rfl rfl <| O_nil (ai (af, ac, (IntKind.i64.wrap (ad + ae)), (IntKind.i64.wrap (aa + 1))) _ _ (by repeat first | exact Sub.nil | refine Sub.cons rfl ?_) (Ai H hs) (Nat.lt_succ_self _))))
    refine Wr fun bx a2 => Om rfl rfl <| O_y rfl (Y_nilp rfl) <| O_y rfl (Y_field fo149_1 rfl) <| O_y rfl (Yb 0 ag146 hs rfl rfl rfl) <| Om rfl rfl <| O_y rfl (Y_mapGet2 (i := 1) (m := y1) (x := rd ((rd y0_0 x1).is_) aa) (E := (Value.int .i64)) un146 (KeyK.int un21) trivial (fun _ _ => trivial) zv3 hs rfl rfl rfl) <| Om rfl rfl <| O_y rfl (Y_extract rfl rfl) <| O_y rfl (Y_extract rfl rfl) <| Oa rfl rfl <| Oa rfl rfl <| O_nil (a2 _ _ ?_)
    refine W.weak [(0, _), (1, _), (7, _), (10, _), (11, _), (12, _), (36, _), (37, _), (38, _)] (by repeat first | exact Sub.nil | refine Sub.cons rfl ?_) ?_
    refine Wr fun bz a3 => Om rfl rfl <| O_nil (a3 _ _ <| W_cond rfl (fun ak => ?_) (fun ak => ?_))
    ·rw [if_pos ak] at H
     refine W_region <| Om rfl rfl <| Om rfl rfl ?_
     have hs := hs.front 2 rfl
     have hs := hs.front 2 rfl
     have hs := hs.front 2 rfl
     obtain ⟨ag, ao, H⟩ := bnd H
     refine O_call rfl rfl (hrec hs g0_0 ao) (fun b0 w hpost => ?_)
     obtain ⟨rfl, hs⟩ := hpost
     have hs := hs.sink 2
     have hs := hs.sink 2
     have hs := hs.sink 2
     refine Oa rfl rfl <| O_nil (am _ _ _ (by repeat first | exact Sub.nil | refine Sub.cons rfl ?_) (an ag.2 ag.1 _ H hs))
    ·rw [if_neg (bft ak)] at H
     exact W_skip (am _ _ _ (by repeat first | exact Sub.nil | refine Sub.cons rfl ?_) (an ab 1 _ H hs))
   ·rw [if_neg ar] at H
    refine W_exit (bo _ _ (bj _ _ <| W_seq fun b1 a4 => Wr fun b2 a5 => Om rfl rfl <| O_y rfl (Y_gtr rfl rfl) <| O_nil (a5 _ _ <| W_if rfl (fun al => ?_) (fun al => ?_))))
    ·rw [if_pos al] at H
     refine Wr fun b3 a6 => Oa rfl rfl <| O_nil (a6 _ _ <| W_ret ?_)
     obtain rfl := sinj H
     exact ret1 rfl rfl ⟨rfl, hs⟩
    ·rw [if_neg al] at H
     refine W_skip (a4 _ _ <| Wr fun b4 a7 => Om rfl rfl <| O_y rfl (Y_nilp rfl) <| O_y rfl (Y_field fo149_2 rfl) <| O_y rfl (Yb 0 ag147 hs rfl rfl rfl) <| Om rfl rfl <| Om rfl rfl <| O_mapPut (i := 2) (m := ab) (x := x1) (v := ad) (E := (Value.int .i64)) un147 (KeyK.int un3) trivial (fun _ _ => trivial) hs rfl rfl rfl rfl (fun w hs => O_nil (a7 _ _ <| W.weak [(7, _)] (S1 rfl) <| W_seq fun b5 a8 => W_region ?_)))
     refine Om rfl rfl <| Oa rfl rfl <| O_nil (a8 _ _ <| W_ret ?_)
     obtain rfl := sinj H
     exact ret1 rfl rfl ⟨rfl, hs⟩
theorem book_tree_length_bjo.c (k : Nat) : book_tree_length_bjo.Spec (book_tree_length_bjo.f k) := by
  induction k with
  | zero => intro w0 w ρ Γ pb0 w0_0 y0_0 pm1 y1 pm2 y2 hs x1 g0_0 r H; exact nomatch (show (none : Option _) = some _ from H)
  | succ k ih => intro w0 w ρ Γ pb0 w0_0 y0_0 pm1 y1 pm2 y2 hs x1 g0_0 r H; exact book_tree_length_bjo.cb (book_tree_length_bjo.f k) ih hs g0_0 H

def book_whole.j1 (an : (List (Vector Int 2 × Bool)) → (List (Int × Int)) → Int → Option Int) (aa : Int) (ae : List (Vector Int 2 × Bool)) (af : List (Int × Int)) : Option Int := an ae af (IntKind.i64.wrap (aa + 1))
def book_whole.l1 : Nat → List Chs → (List (Int × Int)) → (List (Vector Int 2 × Bool)) → (List (Int × Int)) → Int → Option Int
  | 0, _, _, _, _, _ => none
  | ah + 1, x0, ab, ac, ag, aa => if aa < (x0.length : Int) then (if (0 : Int) ≤ aa ∧ aa < (x0.length : Int) then ((book_tree_length_bjo.f K0 aa x0 ab ag).bind fun aj => (if aj.1 = 0 then (some aa) else (if (((rd x0 aa).is_).length : Int) = 2 then (if (0 : Int) ≤ 0 ∧ 0 < (((rd x0 aa).is_).length : Int) then (if (0 : Int) ≤ 1 ∧ 1 < (((rd x0 aa).is_).length : Int) then (if ((mget ac (#v[rd ((rd x0 aa).is_) 0, rd ((rd x0 aa).is_) 1])).getD false) = true then (some aa) else (book_whole.j1 (book_whole.l1 ah x0 ab) aa (mput ac (#v[rd ((rd x0 aa).is_) 0, rd ((rd x0 aa).is_) 1]) true) aj.2)) else none) else none) else (book_whole.j1 (book_whole.l1 ah x0 ab) aa ac aj.2)))) else none) else (some (-1))
def book_whole.l2 : Nat → List Chs → (List (Int × Int)) → Int → Option Int
  | 0, _, _, _ => none
  | ai + 1, x0, ab, ad => if ad < (x0.length : Int) then (if (0 : Int) ≤ ad ∧ ad < (x0.length : Int) then ((book_whole.l2 ai x0) (mput ab ((rd x0 ad).lo) ad) (IntKind.i64.wrap (ad + 1))) else none) else (book_whole.l1 K0 x0 ab ([] : List (Vector Int 2 × Bool)) ([] : List (Int × Int)) 0)
def book_whole.f (x0 : List Chs) : Option Int := book_whole.l2 K0 x0 ([] : List (Int × Int)) 0
theorem book_whole.c {w0 w : World} {ρ : Hp} {Γ : List Item} (hs : St w0 ρ (Γ) w) {v0 : Value} {x0 : List Chs} (h0 : SlR rChs ρ v0 x0) {r : Int} (H : book_whole.f x0 = some r) : CallsR Tryz.prog 80 [v0] w (fun v w' => v = .int .i64 r ∧ St w0 ρ Γ w') := by
  rw [book_whole.f] at H
  refine enter Tryz.func80 Tryz.ntmps80 rfl (by kernel_rfl) rfl <| Wr fun di bx => Oa rfl rfl <| O_nil (bx _ _ <| Wr fun dj bz => Om rfl rfl <| O_mapNew (KeyK.int un21).enc (Value.int .i64) hs rfl (fun ak w hs => O_mapNew (KeyK.int un3).enc (Value.int .i64) hs rfl (fun al w hs => O_y rfl (Y_build (cs := [v0, .map (some ak), .map (some al)]) zr149 pl149 ((Parts.cons rfl h0.cellsL (Parts.cons rfl rfl (Parts.cons rfl rfl Parts.nil)))) ag149 (by kernel_rfl)) <| O_boxN (cs := [v0, .map (some ak), .map (some al)]) hs rfl rfl (fun am w hs => Oa rfl rfl <| O_nil (bz _ _ ?_)))))
  refine W_seq fun dk b0 => Wr fun dl b1 => Om rfl rfl <| O_y rfl (Y_lenR un24 h0 rfl) <| Om rfl rfl <| O_nil (b1 _ _ <| W_block fun dm b2 dn => W_loop (σ := Nat × (List (Int × Int)) × Int) (fun (ai, ab, ad) => [(0, v0), (3, .pointer (some ⟨am, 0, none⟩)), (15, v0), (16, .int .i64 (x0.length : Int)), (17, .int .i64 ad)]) (fun (ai, ab, ad) w => book_whole.l2 ai x0 ab ad = some r ∧ St w0 ρ ((.box am 149 ([v0, .map (some ak), .map (some al)])) :: (.obj al (mapObj (KeyK.int un3).enc (vs (Value.int .i64) ([] : List (Int × Int))))) :: (.obj ak (mapObj (KeyK.int un21).enc (vs (Value.int .i64) ab))) :: Γ) w) (fun s => s.1) (K0, ([] : List (Int × Int)), 0) (by repeat first | exact Sub.nil | refine Sub.cons rfl ?_) (Ai H hs) ?_)
  rintro ⟨ai, ab, ad⟩ w dp ⟨H, hs⟩ aq
  show W _ _ _ _ _ _ [(0, v0), (3, .pointer (some ⟨am, 0, none⟩)), (15, v0), (16, .int .i64 (x0.length : Int)), (17, .int .i64 ad)] w
  cases ai with
  | zero => rw [book_whole.l2] at H; cases H
  | succ ai =>
  rw [book_whole.l2] at H
  refine Wr fun dq b3 => O_y rfl (Y_lss rfl rfl) <| O_nil (b3 _ _ <| W_seq fun dr b4 => W_if rfl (fun a4 => ?_) (fun a4 => ?_))
  ·rw [if_pos a4] at H
   refine W_skip (b4 _ _ <| W_seq fun ds b5 => W_block fun dt du dv => Wr fun dw b6 => Om rfl rfl ?_)
   obtain ⟨bv, H⟩ := gd H
   obtain ⟨dx, dy, b7, b8⟩ := h0.ix el24 bv.1 bv.2
   obtain ⟨_, ⟨b9, rfl, ca⟩, cb⟩ := b7
   refine O_y rfl (b8 rfl rfl) <| O_y rfl (Y_loadN ag94 sz94 rfl rfl (fun j u hu => hs.see (cb j u hu))) <| O_alloc zr94 hs rfl (fun cc w hs => Oa rfl rfl <| O_storeN (i := 0) sz94 hs rfl rfl rfl rfl rfl (one_cons rfl (one_cons rfl (one_cons ca.one one_nil))) (fun w hs => O_nil (b6 _ _ <| W_drawS 8 [0, 1, 2, 4, 0, 16, 0, 127] [124, 120, 112, 112, 79, 79, 63, 0] [0, 1, 3, 7, 0, 16, 0, 127] [7] (fun w => St w0 ρ ((.box cc 94 ([.int .i32 ((rd x0 ad).lo), .int .i32 ((rd x0 ad).hi), b9])) :: (.box am 149 ([v0, .map (some ak), .map (some al)])) :: (.obj al (mapObj (KeyK.int un3).enc (vs (Value.int .i64) ([] : List (Int × Int))))) :: (.obj ak (mapObj (KeyK.int un21).enc (vs (Value.int .i64) ab))) :: Γ) w) mixed (by kernel_rfl) (fun sh => ?_))))
   have hs := hs.drew
   refine Dm 0 sh rfl rfl (by kernel_rfl) rfl <| Dp 1 sh rfl rfl (by kernel_rfl) (fun w => Y_nilp rfl) <| Dp 2 sh rfl rfl (by kernel_rfl) (fun w => Y_field fo149_1 rfl) <| Dy 3 sh rfl rfl (by kernel_rfl) hs (fun w hs => Yb 1 ag146 hs rfl rfl rfl) <| Dp 4 sh rfl rfl (by kernel_rfl) (fun w => Y_field fo94_0 rfl) <| Dy 5 sh rfl rfl (by kernel_rfl) hs (fun w hs => Yb 0 ag21 hs rfl rfl rfl) <| Dm 6 sh rfl rfl (by kernel_rfl) rfl <| D1 7 sh rfl (by kernel_rfl) (fun dz cd => O_mapPut (i := 3) (m := ab) (x := (rd x0 ad).lo) (v := ad) (E := (Value.int .i64)) un146 (KeyK.int un21) trivial (fun _ _ => trivial) hs rfl rfl rfl rfl (fun w hs => O_nil (cd _ _ (fun _ _ => by first | contradiction | (rename_i h; cases h)) <| OD_doneS sh (by kernel_rfl) (b5 _ _ <| W.weak [(0, _), (3, _), (15, _), (16, _), (17, _)] (by repeat first | exact Sub.nil | refine Sub.cons rfl ?_) ?_))))
   refine W_region <| O_y rfl (Y_add rfl rfl) <| Om rfl rfl <| O_nil (aq (ai, (mput ab ((rd x0 ad).lo) ad), (IntKind.i64.wrap (ad + 1))) _ _ (by repeat first | exact Sub.nil | refine Sub.cons rfl ?_) (Ai H (hs.sub (ssk (ssc (ssc (ssc ssr)))))) (Nat.lt_succ_self _))
  ·rw [if_neg a4] at H
   refine W_exit (b2 _ _ (b0 _ _ <| Wr fun ea ce => O_mapNew kv96.enc Value.bool hs rfl (fun ax w hs => Oa rfl rfl <| O_nil (ce _ _ <| W_seq fun eb cf => Wr fun ec cg => Om rfl rfl <| O_y rfl (Y_lenR un24 h0 rfl) <| Om rfl rfl <| O_nil (cg _ _ <| W_block fun ed a5 ch => ?_)))))
   refine W_loop (σ := Nat × (List (Vector Int 2 × Bool)) × (List (Int × Int)) × Int) (fun (ah, ac, ag, aa) => [(3, .pointer (some ⟨am, 0, none⟩)), (6, .map (some ax)), (31, v0), (32, .int .i64 (x0.length : Int)), (33, .int .i64 aa)]) (fun (ah, ac, ag, aa) w => book_whole.l1 ah x0 ab ac ag aa = some r ∧ St w0 ρ ((.obj ax (mapObj kv96.enc (vs Value.bool ac))) :: (.box am 149 ([v0, .map (some ak), .map (some al)])) :: (.obj al (mapObj (KeyK.int un3).enc (vs (Value.int .i64) ag))) :: (.obj ak (mapObj (KeyK.int un21).enc (vs (Value.int .i64) ab))) :: Γ) w) (fun s => s.1) (K0, ([] : List (Vector Int 2 × Bool)), ([] : List (Int × Int)), 0) (by repeat first | exact Sub.nil | refine Sub.cons rfl ?_) (Ai H hs) ?_
   rintro ⟨ah, ac, ag, aa⟩ w ci ⟨H, hs⟩ ao
   show W _ _ _ _ _ _ [(3, .pointer (some ⟨am, 0, none⟩)), (6, .map (some ax)), (31, v0), (32, .int .i64 (x0.length : Int)), (33, .int .i64 aa)] w
   cases ah with
   | zero => rw [book_whole.l1] at H; cases H
   | succ ah =>
   rw [book_whole.l1] at H
   refine Wr fun cj a6 => O_y rfl (Y_lss rfl rfl) <| O_nil (a6 _ _ <| W_seq fun ck a7 => W_if rfl (fun ar => ?_) (fun ar => ?_))
   ·rw [if_pos ar] at H
    refine W_skip (a7 _ _ <| W_seqj fun a8 a9 ay => ?_)
    have az : ∀ (ae : List (Vector Int 2 × Bool)) (af : List (Int × Int)) (w : World), book_whole.j1 (book_whole.l1 ah x0 ab) aa ae af = some r → St w0 ρ ((.obj ax (mapObj kv96.enc (vs Value.bool ae))) :: (.box am 149 ([v0, .map (some ak), .map (some al)])) :: (.obj al (mapObj (KeyK.int un3).enc (vs (Value.int .i64) af))) :: (.obj ak (mapObj (KeyK.int un21).enc (vs (Value.int .i64) ab))) :: Γ) w → a8 [(3, .pointer (some ⟨am, 0, none⟩)), (6, .map (some ax)), (31, v0), (32, .int .i64 (x0.length : Int)), (33, .int .i64 aa)] w := by
     intro ae af w H hs
     rw [book_whole.j1] at H
     refine a9 _ _ <| W_region <| O_y rfl (Y_add rfl rfl) <| Om rfl rfl <| O_nil (ao (ah, ae, af, (IntKind.i64.wrap (aa + 1))) _ _ (by repeat first | exact Sub.nil | refine Sub.cons rfl ?_) (Ai H hs) (Nat.lt_succ_self _))
    refine W_block fun cl cm cn => Wr fun co ba => Om rfl rfl ?_
    obtain ⟨a0, H⟩ := gd H
    obtain ⟨cp, cq, bb, bc⟩ := h0.ix el24 a0.1 a0.2
    obtain ⟨_, ⟨bd, rfl, ap⟩, be⟩ := bb
    refine O_y rfl (bc rfl rfl) <| O_y rfl (Y_loadN ag94 sz94 rfl rfl (fun j u hu => hs.see (be j u hu))) <| O_alloc zr94 hs rfl (fun bf w hs => Oa rfl rfl <| O_storeN (i := 0) sz94 hs rfl rfl rfl rfl rfl (one_cons rfl (one_cons rfl (one_cons ap.one one_nil))) (fun w hs => O_nil (ba _ _ <| W_seq fun cr bg => Wr fun ct bh => Om rfl rfl <| Om rfl rfl ?_)))
    have hs := hs.front 3 rfl
    have hs := hs.front 4 rfl
    have hs := hs.front 4 rfl
    obtain ⟨aj, a1, H⟩ := bnd H
    refine O_call rfl rfl ((book_tree_length_bjo.c K0) hs h0 a1) (fun cu w hpost => ?_)
    obtain ⟨rfl, hs⟩ := hpost
    have hs := hs.sink 4
    have hs := hs.sink 4
    have hs := hs.sink 3
    refine O_y rfl (Y_eql rfl rfl) <| O_nil (bh _ _ <| W.weak [(3, _), (6, _), (7, _), (8, _), (31, _), (32, _), (33, _), (41, _)] (by repeat first | exact Sub.nil | refine Sub.cons rfl ?_) ?_)
    refine W_if rfl (fun au => ?_) (fun au => ?_)
    ·rw [if_pos au] at H
     refine Wr fun cv bi => Om rfl rfl <| Oa rfl rfl <| O_nil (bi _ _ <| W_ret ?_)
     obtain rfl := sinj H
     exact ret1 rfl rfl ⟨rfl, (hs.sub (ssk (ssk (ssk (ssk (ssk ssr))))))⟩
    ·rw [if_neg au] at H
     refine W_skip (bg _ _ <| Wr fun cw bj => O_y rfl (Y_field fo94_2 rfl) <| O_y rfl (Yb 0 ag28 hs rfl rfl rfl) <| O_y rfl (Y_lenR un28 ap rfl) <| O_y rfl (Y_eql rfl rfl) <| O_nil (bj _ _ <| W_if rfl (fun av => ?_) (fun av => ?_)))
     ·rw [if_pos av] at H
      refine W_seq fun cx bk => W_drawS 11 [0, 1, 2, 4, 0, 16, 32, 64, 136, 0, 1023] [1020, 1016, 1008, 752, 975, 911, 783, 527, 512, 511, 0] [0, 1, 3, 7, 0, 16, 48, 112, 255, 0, 1023] [10] (fun w => St w0 ρ ((.box bf 94 ([.int .i32 ((rd x0 aa).lo), .int .i32 ((rd x0 aa).hi), bd])) :: (.obj ax (mapObj kv96.enc (vs Value.bool ac))) :: (.box am 149 ([v0, .map (some ak), .map (some al)])) :: (.obj al (mapObj (KeyK.int un3).enc (vs (Value.int .i64) aj.2))) :: (.obj ak (mapObj (KeyK.int un21).enc (vs (Value.int .i64) ab))) :: Γ) w) mixed (by kernel_rfl) (fun sh => ?_)
      have hs := hs.drew
      refine Dp 0 sh rfl rfl (by kernel_rfl) (fun w => Y_field fo94_2 rfl) <| Dy 1 sh rfl rfl (by kernel_rfl) hs (fun w hs => Yb 0 ag28 hs rfl rfl rfl) ?_
      obtain ⟨a2, H⟩ := gd H
      obtain ⟨cy, cz, bl, bm⟩ := ap.ix el28 a2.1 a2.2
      refine Dp 2 sh rfl rfl (by kernel_rfl) (fun w => bm rfl rfl) <| Dy 3 sh rfl rfl (by kernel_rfl) hs (fun w hs => Y_load ag21 rfl (hs.see bl.int)) <| Dp 4 sh rfl rfl (by kernel_rfl) (fun w => Y_field fo94_2 rfl) <| Dy 5 sh rfl rfl (by kernel_rfl) hs (fun w hs => Yb 0 ag28 hs rfl rfl rfl) ?_
      obtain ⟨a3, H⟩ := gd H
      obtain ⟨da, db, bn, bo⟩ := ap.ix el28 a3.1 a3.2
      refine Dp 6 sh rfl rfl (by kernel_rfl) (fun w => bo rfl rfl) <| Dy 7 sh rfl rfl (by kernel_rfl) hs (fun w hs => Y_load ag21 rfl (hs.see bn.int)) <| Dp 8 sh rfl rfl (by kernel_rfl) (fun w => Y_buildArr (xs := [.tmp 50, .tmp 54]) (zs := vcs (Value.int .i32) #v[rd ((rd x0 aa).is_) 0, rd ((rd x0 aa).is_) 1]) un96 sz21 zl96 rfl rfl rfl (sz1_cons rfl (sz1_cons rfl sz1_nil)) rfl) <| D1 9 sh rfl (by kernel_rfl) (fun dc bp => O_alloc zr96 hs rfl (fun bw w hs => O_nil (bp _ _ (fun _ _ => (hs.sub (ssk (ssc (ssc (ssc (ssc (ssc ssr)))))))) <| D1 10 sh rfl (by kernel_rfl) (fun dd bq => O_storeArr (j := 0) (u := #v[rd ((rd x0 aa).is_) 0, rd ((rd x0 aa).is_) 1]) sz96 (one_int .i32) hs rfl rfl rfl (fun w hs => O_nil (bq _ _ (fun _ _ => by first | contradiction | (rename_i h; cases h)) <| OD_doneS sh (by kernel_rfl) (bk _ _ <| W.weak [(3, _), (6, _), (7, _), (9, _), (31, _), (32, _), (33, _)] (by repeat first | exact Sub.nil | refine Sub.cons rfl ?_) ?_)))))))
      refine W_seq fun de br => Wr fun df bs => Om rfl rfl <| O_y rfl (Y_loadArr (j := 0) ag96 sz96 hs rfl rfl) <| O_y rfl (Y_mapGet1 (i := 2) (m := ac) (x := #v[rd ((rd x0 aa).is_) 0, rd ((rd x0 aa).is_) 1]) (E := Value.bool) un150 kv96 trivial (fun _ _ => trivial) zv4 hs rfl rfl rfl) <| O_nil (bs _ _ <| W_cond rfl (fun aw => ?_) (fun aw => ?_))
      ·rw [if_pos aw] at H
       refine Wr fun dg bt => Om rfl rfl <| Oa rfl rfl <| O_nil (bt _ _ <| W_ret ?_)
       obtain rfl := sinj H
       exact ret1 rfl rfl ⟨rfl, (hs.sub (ssk (ssk (ssk (ssk (ssk (ssk ssr)))))))⟩
      ·rw [if_neg (bft aw)] at H
       refine W_skip (br _ _ <| W_region <| Om rfl rfl <| O_y rfl (Y_loadArr (j := 0) ag96 sz96 hs rfl rfl) <| O_mapPut (i := 2) (m := ac) (x := #v[rd ((rd x0 aa).is_) 0, rd ((rd x0 aa).is_) 1]) (v := true) (E := Value.bool) un150 kv96 trivial (fun _ _ => trivial) hs rfl rfl rfl rfl (fun w hs => O_nil (ay _ _ _ (by repeat first | exact Sub.nil | refine Sub.cons rfl ?_) (az (mput ac (#v[rd ((rd x0 aa).is_) 0, rd ((rd x0 aa).is_) 1]) true) aj.2 _ H (hs.sub (ssk (ssk (ssc (ssc (ssc (ssc ssr)))))))))))
     ·rw [if_neg av] at H
      exact W_skip (ay _ _ _ (by repeat first | exact Sub.nil | refine Sub.cons rfl ?_) (az ac aj.2 _ H (hs.sub (ssk (ssc (ssc (ssc (ssc ssr))))))))
   ·rw [if_neg ar] at H
    refine W_exit (a5 _ _ (cf _ _ <| Wr fun dh bu => Oa rfl rfl <| O_nil (bu _ _ <| W_ret ?_)))
    obtain rfl := sinj H
    exact ret1 rfl rfl ⟨rfl, (hs.sub (ssk (ssk (ssk (ssk ssr)))))⟩

def book_Check_15_mae.f (y0_0 : List ByteArray) (y0_1 : List Val) (y0_2 : List Chs) (y0_3 : List Val) (y0_4 : List Chs) (y0_5 : List Spn) (y0_6 y0_7 : List Val) (y0_8 : List Spn) (y0_9 : List Val) (y0_10 : List Chs) : Option Int := (book_whole.f y0_4).bind fun ab => (some ab)
theorem book_Check_15_mae.c {w0 w : World} {ρ : Hp} {Γ : List Item} {pb0 : Nat} {w0_0 : Value} {y0_0 : List ByteArray} {w0_1 : Value} {y0_1 : List Val} {w0_2 : Value} {y0_2 : List Chs} {w0_3 : Value} {y0_3 : List Val} {w0_4 : Value} {y0_4 : List Chs} {w0_5 : Value} {y0_5 : List Spn} {w0_6 : Value} {y0_6 : List Val} {w0_7 : Value} {y0_7 : List Val} {w0_8 : Value} {y0_8 : List Spn} {w0_9 : Value} {y0_9 : List Val} {w0_10 : Value} {y0_10 : List Chs} (hs : St w0 ρ ((.box pb0 27 ([w0_0, w0_1, w0_2, w0_3, w0_4, w0_5, w0_6, w0_7, w0_8, w0_9, w0_10])) :: Γ) w) (g0_0 : SlR Rep.str ρ w0_0 y0_0) (g0_1 : SlR rVal ρ w0_1 y0_1) (g0_2 : SlR rChs ρ w0_2 y0_2) (g0_3 : SlR rVal ρ w0_3 y0_3) (g0_4 : SlR rChs ρ w0_4 y0_4) (g0_5 : SlR rSpn ρ w0_5 y0_5) (g0_6 : SlR rVal ρ w0_6 y0_6) (g0_7 : SlR rVal ρ w0_7 y0_7) (g0_8 : SlR rSpn ρ w0_8 y0_8) (g0_9 : SlR rVal ρ w0_9 y0_9) (g0_10 : SlR rChs ρ w0_10 y0_10) {r : Int} (H : book_Check_15_mae.f y0_0 y0_1 y0_2 y0_3 y0_4 y0_5 y0_6 y0_7 y0_8 y0_9 y0_10 = some r) : CallsR Tryz.prog 79 [.pointer (some ⟨pb0, 0, none⟩)] w (fun v w' => v = .int .i64 r ∧ St w0 ρ ((.box pb0 27 ([w0_0, w0_1, w0_2, w0_3, w0_4, w0_5, w0_6, w0_7, w0_8, w0_9, w0_10])) :: Γ) w') := by
  rw [book_Check_15_mae.f] at H
  refine enter Tryz.func79 Tryz.ntmps79 rfl (by kernel_rfl) rfl <| Wr fun ae ac => Oa rfl rfl <| O_nil (ac _ _ <| Wr fun af ad => O_y rfl (Y_field fo27_4 rfl) <| O_y rfl (Yb 0 ag24 hs rfl rfl rfl) ?_)
  obtain ⟨ab, aa, H⟩ := bnd H
  refine O_call rfl rfl (book_whole.c hs g0_4 aa) (fun ag w hpost => ?_)
  obtain ⟨rfl, hs⟩ := hpost
  refine Oa rfl rfl <| O_nil (ad _ _ <| W_ret ?_)
  obtain rfl := sinj H
  exact ret1 rfl rfl ⟨rfl, hs⟩

end Go.Proofs.YtekafkokpnihfaaGreat
