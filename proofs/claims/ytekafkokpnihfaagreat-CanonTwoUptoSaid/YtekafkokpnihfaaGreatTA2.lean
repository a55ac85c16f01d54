/- Written by this repo's gen.py: for each Go function a Lean function with the same answers and the walk that shows it. -/
import Derived.Test.YtekafkokpnihfaaGreatTA0
import Derived.Test.YtekafkokpnihfaaGreatTA1
import Derived.Test.YtekafkokpnihfaaGreatData
import Derived.Test.YtekafkokpnihfaaGreatFacts
namespace Go.Proofs.YtekafkokpnihfaaGreat
open Go.RowKit
set_option maxRecDepth 100000
set_option maxHeartbeats 4000000
set_option linter.unusedVariables false
def book_Check.f (x0 : Bk) : Option (Wh × Int) := (book_Check_4_mae.f x0.names x0.status x0.maps x0.class_ x0.decomp x0.excl x0.bidi x0.join x0.marks x0.script x0.like).bind fun bc => (if 0 ≤ bc then (some ((⟨1, bc⟩ : Wh), 100)) else ((book_Check_5_ion.f x0.names x0.status x0.maps x0.class_ x0.decomp x0.excl x0.bidi x0.join x0.marks x0.script x0.like).bind fun bd => (if 0 ≤ bd then (some ((⟨2, bd⟩ : Wh), 100)) else ((book_Check_6_mae.f x0.names x0.status x0.maps x0.class_ x0.decomp x0.excl x0.bidi x0.join x0.marks x0.script x0.like).bind fun be => (if 0 ≤ be then (some ((⟨3, be⟩ : Wh), 100)) else ((book_Check_7_hpj.f x0.names x0.status x0.maps x0.class_ x0.decomp x0.excl x0.bidi x0.join x0.marks x0.script x0.like).bind fun bf => (if 0 ≤ bf then (some ((⟨4, bf⟩ : Wh), 100)) else ((book_Check_8_hpj.f x0.names x0.status x0.maps x0.class_ x0.decomp x0.excl x0.bidi x0.join x0.marks x0.script x0.like).bind fun bg => (if 0 ≤ bg then (some ((⟨5, bg⟩ : Wh), 100)) else ((book_Check_9_hpj.f x0.names x0.status x0.maps x0.class_ x0.decomp x0.excl x0.bidi x0.join x0.marks x0.script x0.like).bind fun bh => (if 0 ≤ bh then (some ((⟨6, bh⟩ : Wh), 100)) else ((book_Check_10_ion.f x0.names x0.status x0.maps x0.class_ x0.decomp x0.excl x0.bidi x0.join x0.marks x0.script x0.like).bind fun bi => (if 0 ≤ bi then (some ((⟨7, bi⟩ : Wh), 100)) else ((book_Check_11_ion.f x0.names x0.status x0.maps x0.class_ x0.decomp x0.excl x0.bidi x0.join x0.marks x0.script x0.like).bind fun bj => (if 0 ≤ bj then (some ((⟨8, bj⟩ : Wh), 100)) else ((book_Check_12_ion.f x0.names x0.status x0.maps x0.class_ x0.decomp x0.excl x0.bidi x0.join x0.marks x0.script x0.like).bind fun bk => (if 0 ≤ bk then (some ((⟨9, bk⟩ : Wh), 100)) else ((book_Check_13_ion.f x0.names x0.status x0.maps x0.class_ x0.decomp x0.excl x0.bidi x0.join x0.marks x0.script x0.like).bind fun bl => (if 0 ≤ bl then (some ((⟨10, bl⟩ : Wh), 100)) else ((book_Check_14_gdi.f x0.names x0.status x0.maps x0.class_ x0.decomp x0.excl x0.bidi x0.join x0.marks x0.script x0.like).bind fun bm => (if 0 ≤ bm then (some ((⟨11, bm⟩ : Wh), 100)) else ((book_Check_15_mae.f x0.names x0.status x0.maps x0.class_ x0.decomp x0.excl x0.bidi x0.join x0.marks x0.script x0.like).bind fun bn => (if 0 ≤ bn then (some ((⟨5, bn⟩ : Wh), 100)) else (some ((⟨0, 0⟩ : Wh), 0)))))))))))))))))))))))))
theorem book_Check.c {w0 w : World} {ρ : Hp} {Γ : List Item} (hs : St w0 ρ (Γ) w) {c0 : List Value} {x0 : Bk} (h0 : rBk.R ρ c0 x0) {r : Wh × Int} (H : book_Check.f x0 = some r) : CallsR Tryz.prog 39 [.agg c0.toArray] w (fun v w' => ∃ (ρ' : Hp) (cs0 : List Value), v = .tuple #[.agg cs0.toArray, .int .i64 r.2] ∧ Le ρ ρ' ∧ St w0 ρ' (Γ) w' ∧ rWh.R ρ' cs0 r.1) := by
  rw [book_Check.f] at H
  refine enter Tryz.func39 Tryz.ntmps39 rfl (by kernel_rfl) rfl ?_
  have ge := h0
  obtain ⟨ak, al, am, an, ao, ap, aq, ar, au, av, aw, rfl, ay, az, a0, a1, a2, a3, a4, a5, a6, a7, a8⟩ := ge
  refine Wr fun l4 gf => O_boxN (cs := [ak, al, am, an, ao, ap, aq, ar, au, av, aw]) hs rfl rfl (fun aa w hs => O_alloc zr85 hs rfl (fun a9 w hs => Oa rfl rfl <| O_nil (gf _ _ <| Wr fun l5 gg => O_alloc zr115 hs rfl (fun ab w hs => O_store (i := 0) sz115 hs rfl rfl rfl rfl rfl (fun w hs => O_nil (gg _ _ <| Wr fun l6 gh => O_alloc zr115 hs rfl (fun ac w hs => ?_)))))))
  refine O_store (i := 0) sz115 hs rfl rfl rfl rfl rfl (fun w hs => O_nil (gh _ _ <| Wr fun l7 gi => O_alloc zr117 hs rfl (fun ad w hs => O_store (i := 0) sz117 hs rfl rfl rfl rfl rfl (fun w hs => O_nil (gi _ _ <| Wr fun l8 gj => O_y rfl (Y_func rfl) <| O_y rfl (Y_build (cs := [.int .i64 1, .func (.func 59) #[] #[.pointer (some ⟨aa, 0, none⟩)]]) zr119 pl119 ((Parts.cons rfl rfl (Parts.cons rfl rfl Parts.nil))) ag119 (by kernel_rfl)) <| O_y rfl (Y_func rfl) <| O_y rfl (Y_build (cs := [.int .i64 2, .func (.func 61) #[] #[.pointer (some ⟨aa, 0, none⟩), .pointer (some ⟨ab, 0, none⟩)]]) zr119 pl119 ((Parts.cons rfl rfl (Parts.cons rfl rfl Parts.nil))) ag119 (by kernel_rfl)) <| O_y rfl (Y_func rfl) ?_)))))
  refine O_y rfl (Y_build (cs := [.int .i64 3, .func (.func 63) #[] #[.pointer (some ⟨aa, 0, none⟩)]]) zr119 pl119 ((Parts.cons rfl rfl (Parts.cons rfl rfl Parts.nil))) ag119 (by kernel_rfl)) <| O_y rfl (Y_func rfl) <| O_y rfl (Y_build (cs := [.int .i64 4, .func (.func 65) #[] #[.pointer (some ⟨aa, 0, none⟩), .pointer (some ⟨ac, 0, none⟩)]]) zr119 pl119 ((Parts.cons rfl rfl (Parts.cons rfl rfl Parts.nil))) ag119 (by kernel_rfl)) <| O_y rfl (Y_func rfl) <| O_y rfl (Y_build (cs := [.int .i64 5, .func (.func 66) #[] #[.pointer (some ⟨aa, 0, none⟩), .pointer (some ⟨ac, 0, none⟩)]]) zr119 pl119 ((Parts.cons rfl rfl (Parts.cons rfl rfl Parts.nil))) ag119 (by kernel_rfl)) <| O_y rfl (Y_func rfl) <| O_y rfl (Y_build (cs := [.int .i64 6, .func (.func 69) #[] #[.pointer (some ⟨aa, 0, none⟩), .pointer (some ⟨ac, 0, none⟩)]]) zr119 pl119 ((Parts.cons rfl rfl (Parts.cons rfl rfl Parts.nil))) ag119 (by kernel_rfl)) <| O_y rfl (Y_func rfl) <| O_y rfl (Y_build (cs := [.int .i64 7, .func (.func 72) #[] #[.pointer (some ⟨aa, 0, none⟩), .pointer (some ⟨ab, 0, none⟩)]]) zr119 pl119 ((Parts.cons rfl rfl (Parts.cons rfl rfl Parts.nil))) ag119 (by kernel_rfl)) <| O_y rfl (Y_func rfl) <| O_y rfl (Y_build (cs := [.int .i64 8, .func (.func 74) #[] #[.pointer (some ⟨aa, 0, none⟩), .pointer (some ⟨ab, 0, none⟩)]]) zr119 pl119 ((Parts.cons rfl rfl (Parts.cons rfl rfl Parts.nil))) ag119 (by kernel_rfl)) <| O_y rfl (Y_func rfl) <| O_y rfl (Y_build (cs := [.int .i64 9, .func (.func 76) #[] #[.pointer (some ⟨aa, 0, none⟩), .pointer (some ⟨ab, 0, none⟩)]]) zr119 pl119 ((Parts.cons rfl rfl (Parts.cons rfl rfl Parts.nil))) ag119 (by kernel_rfl)) <| O_y rfl (Y_func rfl) ?_
  refine O_y rfl (Y_build (cs := [.int .i64 10, .func (.func 77) #[] #[.pointer (some ⟨aa, 0, none⟩), .pointer (some ⟨ab, 0, none⟩)]]) zr119 pl119 ((Parts.cons rfl rfl (Parts.cons rfl rfl Parts.nil))) ag119 (by kernel_rfl)) <| O_y rfl (Y_func rfl) <| O_y rfl (Y_build (cs := [.int .i64 11, .func (.func 78) #[] #[.pointer (some ⟨aa, 0, none⟩), .pointer (some ⟨ad, 0, none⟩)]]) zr119 pl119 ((Parts.cons rfl rfl (Parts.cons rfl rfl Parts.nil))) ag119 (by kernel_rfl)) <| O_y rfl (Y_func rfl) <| O_y rfl (Y_build (cs := [.int .i64 5, .func (.func 79) #[] #[.pointer (some ⟨aa, 0, none⟩)]]) zr119 pl119 ((Parts.cons rfl rfl (Parts.cons rfl rfl Parts.nil))) ag119 (by kernel_rfl)) <| O_lit (xs := [.tmp 12, .tmp 14, .tmp 16, .tmp 18, .tmp 20, .tmp 22, .tmp 24, .tmp 26, .tmp 28, .tmp 30, .tmp 32, .tmp 34]) el127 hs rfl rfl rfl (by decide) (by decide) rfl (sz_cons rfl (sz_cons rfl (sz_cons rfl (sz_cons rfl (sz_cons rfl (sz_cons rfl (sz_cons rfl (sz_cons rfl (sz_cons rfl (sz_cons rfl (sz_cons rfl (sz_cons rfl sz_nil)))))))))))) (fun ba w hs => Oa rfl rfl <| O_nil (gj _ _ <| W.weak [(2, _), (7, _)] (S2 rfl rfl) <| W_seq fun l9 gk => Wr fun ma gl => Om rfl rfl <| O_y rfl (Y_lenRow (i := 0) un127 hs rfl rfl) ?_))
  refine Om rfl rfl <| O_nil (gl _ _ <| W_block fun mb gm mc => W_unr <| WL_round fun md gn => Wr fun go ct => O_y rfl (Y_to (v' := .bool true) (Y_lss rfl rfl) (by kernel_rfl)) <| O_nil (ct _ _ <| W_seq fun gp cu => W_true rfl <| W_skip (cu _ _ <| W_seq fun gq cv => W_block fun gr gs gt => ?_)))
  refine W_seq fun gu cw => W_region ?_
  obtain ⟨gv, bp⟩ := hs.rowBlock (j := 0) rfl (by decide)
  refine O_y rfl (Y_ixRow (j := 0) el127 hs rfl bp rfl rfl (by decide) (by decide)) <| O_y rfl (Y_loadN ag119 sz119 rfl rfl (fun j u hu => hs.rowCell (j := 0) rfl bp ((get_part (o := 0) (k := 2) rfl) j u hu))) <| O_alloc zr119 hs rfl (fun ae w hs => O_storeN (i := 0) sz119 hs rfl rfl rfl rfl rfl (one_cons rfl (one_cons rfl one_nil)) (fun w hs => O_nil (cw _ _ <| Wr fun gw cx => O_y rfl (Y_field fo119_1 rfl) <| O_y rfl (Yb 0 ag118 hs rfl rfl rfl) ?_)))
  have hs := hs.front 6 rfl
  obtain ⟨bc, cf, H⟩ := bnd H
  refine O_callv rfl rfl rfl (book_Check_4_mae.c hs ay az a0 a1 a2 a3 a4 a5 a6 a7 a8 cf) (fun gx w hpost => ?_)
  obtain ⟨rfl, hs⟩ := hpost
  have hs := hs.sink 6
  refine Oa rfl rfl <| O_nil (cx _ _ <| Wr fun gy cy => Om rfl rfl <| O_y rfl (Y_geq rfl rfl) <| O_nil (cy _ _ <| W.weak [(2, _), (9, _), (10, _), (36, _), (37, _), (38, _), (46, _)] (by repeat first | exact Sub.nil | refine Sub.cons rfl ?_) ?_))
  refine W_if rfl (fun b2 => ?_) (fun b2 => ?_)
  ·rw [if_pos b2] at H
   refine Wr fun gz cz => O_y rfl (Y_field fo119_0 rfl) <| O_y rfl (Yb 0 ag3 hs rfl rfl rfl) <| Om rfl rfl <| O_y rfl (Y_build (cs := [.int .i64 1, .int .i64 bc]) zr85 pl85 ((Parts.cons rfl rfl (Parts.cons rfl rfl Parts.nil))) ag85 (by kernel_rfl)) <| O_storeN (i := 5) sz85 hs rfl rfl rfl rfl rfl (one_cons rfl (one_cons rfl one_nil)) (fun w hs => Oa rfl rfl <| O_nil (cz _ _ <| W_ret ?_))
   obtain rfl := sinj H
   exact retc1 (i := 5) rfl rfl rfl ag85 sz85 hs rfl rfl ⟨_, _, rfl, Le.rfl' _, (hs.sub (ssk (ssk (ssk (ssk (ssk (ssk (ssk ssr)))))))), rfl⟩
  ·rw [if_neg b2] at H
   refine W_skip (cv _ _ <| W_region <| O_y rfl (Y_to (v' := .int .i64 1) (Y_add rfl rfl) (by kernel_rfl)) <| Om rfl rfl <| O_nil (gn _ _ <| WL.weak [(2, _), (36, _), (37, _), (38, _)] (S4 rfl rfl rfl rfl) ?_))
   have hs : St w0 ρ ((.box ae 119 ([.int .i64 1, .func (.func 59) #[] #[.pointer (some ⟨aa, 0, none⟩)]])) :: (.row (.slice (some ⟨ba, 0, none⟩) 12 12) 119 2 12 [.int .i64 1, .func (.func 59) #[] #[.pointer (some ⟨aa, 0, none⟩)], .int .i64 2, .func (.func 61) #[] #[.pointer (some ⟨aa, 0, none⟩), .pointer (some ⟨ab, 0, none⟩)], .int .i64 3, .func (.func 63) #[] #[.pointer (some ⟨aa, 0, none⟩)], .int .i64 4, .func (.func 65) #[] #[.pointer (some ⟨aa, 0, none⟩), .pointer (some ⟨ac, 0, none⟩)], .int .i64 5, .func (.func 66) #[] #[.pointer (some ⟨aa, 0, none⟩), .pointer (some ⟨ac, 0, none⟩)], .int .i64 6, .func (.func 69) #[] #[.pointer (some ⟨aa, 0, none⟩), .pointer (some ⟨ac, 0, none⟩)], .int .i64 7, .func (.func 72) #[] #[.pointer (some ⟨aa, 0, none⟩), .pointer (some ⟨ab, 0, none⟩)], .int .i64 8, .func (.func 74) #[] #[.pointer (some ⟨aa, 0, none⟩), .pointer (some ⟨ab, 0, none⟩)], .int .i64 9, .func (.func 76) #[] #[.pointer (some ⟨aa, 0, none⟩), .pointer (some ⟨ab, 0, none⟩)], .int .i64 10, .func (.func 77) #[] #[.pointer (some ⟨aa, 0, none⟩), .pointer (some ⟨ab, 0, none⟩)], .int .i64 11, .func (.func 78) #[] #[.pointer (some ⟨aa, 0, none⟩), .pointer (some ⟨ad, 0, none⟩)], .int .i64 5, .func (.func 79) #[] #[.pointer (some ⟨aa, 0, none⟩)]]) :: (.box ad 117 ([.func (.func 57) #[] #[]])) :: (.box ac 115 ([.func (.func 55) #[] #[]])) :: (.box ab 115 ([.func (.func 54) #[] #[]])) :: (.box a9 85 ([.int .i64 0, .int .i64 0])) :: (.box aa 27 ([ak, al, am, an, ao, ap, aq, ar, au, av, aw])) :: Γ) w := hs
   refine WL_round fun ha da => Wr fun hb db => O_y rfl (Y_to (v' := .bool true) (Y_lss rfl rfl) (by kernel_rfl)) <| O_nil (db _ _ <| W_seq fun hc dc => W_true rfl <| W_skip (dc _ _ <| W_seq fun hd dd => W_block fun he hf hg => W_seq fun hh de => W_region ?_))
   obtain ⟨hi, bq⟩ := hs.rowBlock (j := 1) rfl (by decide)
   refine O_y rfl (Y_ixRow (j := 1) el127 hs rfl bq rfl rfl (by decide) (by decide)) <| O_y rfl (Y_loadN ag119 sz119 rfl rfl (fun j u hu => hs.rowCell (j := 1) rfl bq ((get_part (o := 2) (k := 2) rfl) j u hu))) <| O_alloc zr119 hs rfl (fun af w hs => O_storeN (i := 0) sz119 hs rfl rfl rfl rfl rfl (one_cons rfl (one_cons rfl one_nil)) (fun w hs => O_nil (de _ _ <| Wr fun hj df => O_y rfl (Y_field fo119_1 rfl) <| O_y rfl (Yb 0 ag118 hs rfl rfl rfl) ?_)))
   have hs := hs.front 5 rfl
   have hs := hs.front 7 rfl
   obtain ⟨bd, cg, H⟩ := bnd H
   refine O_callv rfl rfl rfl (book_Check_5_ion.c hs ay az a0 a1 a2 a3 a4 a5 a6 a7 a8 cg) (fun hk w hpost => ?_)
   obtain ⟨rfl, hs⟩ := hpost
   have hs := hs.sink 7
   have hs := hs.sink 5
   refine Oa rfl rfl <| O_nil (df _ _ <| Wr fun hl dg => Om rfl rfl <| O_y rfl (Y_geq rfl rfl) <| O_nil (dg _ _ <| W_if rfl (fun b3 => ?_) (fun b3 => ?_)))
   ·rw [if_pos b3] at H
    refine Wr fun hm dh => O_y rfl (Y_field fo119_0 rfl) <| O_y rfl (Yb 0 ag3 hs rfl rfl rfl) <| Om rfl rfl <| O_y rfl (Y_build (cs := [.int .i64 2, .int .i64 bd]) zr85 pl85 ((Parts.cons rfl rfl (Parts.cons rfl rfl Parts.nil))) ag85 (by kernel_rfl)) <| O_storeN (i := 6) sz85 hs rfl rfl rfl rfl rfl (one_cons rfl (one_cons rfl one_nil)) (fun w hs => Oa rfl rfl <| O_nil (dh _ _ <| W.weak [(2, _), (3, _)] (S2 rfl rfl) <| W_ret ?_))
    obtain rfl := sinj H
    exact retc1 (i := 6) rfl rfl rfl ag85 sz85 hs rfl rfl ⟨_, _, rfl, Le.rfl' _, (hs.sub (ssk (ssk (ssk (ssk (ssk (ssk (ssk (ssk ssr))))))))), rfl⟩
   ·rw [if_neg b3] at H
    refine W_skip (dd _ _ <| W_region <| O_y rfl (Y_to (v' := .int .i64 2) (Y_add rfl rfl) (by kernel_rfl)) <| Om rfl rfl <| O_nil (da _ _ <| WL.weak [(2, _), (36, _), (37, _), (38, _)] (S4 rfl rfl rfl rfl) ?_))
    have hs : St w0 ρ ((.box af 119 ([.int .i64 2, .func (.func 61) #[] #[.pointer (some ⟨aa, 0, none⟩), .pointer (some ⟨ab, 0, none⟩)]])) :: (.box ae 119 ([.int .i64 1, .func (.func 59) #[] #[.pointer (some ⟨aa, 0, none⟩)]])) :: (.row (.slice (some ⟨ba, 0, none⟩) 12 12) 119 2 12 [.int .i64 1, .func (.func 59) #[] #[.pointer (some ⟨aa, 0, none⟩)], .int .i64 2, .func (.func 61) #[] #[.pointer (some ⟨aa, 0, none⟩), .pointer (some ⟨ab, 0, none⟩)], .int .i64 3, .func (.func 63) #[] #[.pointer (some ⟨aa, 0, none⟩)], .int .i64 4, .func (.func 65) #[] #[.pointer (some ⟨aa, 0, none⟩), .pointer (some ⟨ac, 0, none⟩)], .int .i64 5, .func (.func 66) #[] #[.pointer (some ⟨aa, 0, none⟩), .pointer (some ⟨ac, 0, none⟩)], .int .i64 6, .func (.func 69) #[] #[.pointer (some ⟨aa, 0, none⟩), .pointer (some ⟨ac, 0, none⟩)], .int .i64 7, .func (.func 72) #[] #[.pointer (some ⟨aa, 0, none⟩), .pointer (some ⟨ab, 0, none⟩)], .int .i64 8, .func (.func 74) #[] #[.pointer (some ⟨aa, 0, none⟩), .pointer (some ⟨ab, 0, none⟩)], .int .i64 9, .func (.func 76) #[] #[.pointer (some ⟨aa, 0, none⟩), .pointer (some ⟨ab, 0, none⟩)], .int .i64 10, .func (.func 77) #[] #[.pointer (some ⟨aa, 0, none⟩), .pointer (some ⟨ab, 0, none⟩)], .int .i64 11, .func (.func 78) #[] #[.pointer (some ⟨aa, 0, none⟩), .pointer (some ⟨ad, 0, none⟩)], .int .i64 5, .func (.func 79) #[] #[.pointer (some ⟨aa, 0, none⟩)]]) :: (.box ad 117 ([.func (.func 57) #[] #[]])) :: (.box ac 115 ([.func (.func 55) #[] #[]])) :: (.box ab 115 ([.func (.func 54) #[] #[]])) :: (.box a9 85 ([.int .i64 0, .int .i64 0])) :: (.box aa 27 ([ak, al, am, an, ao, ap, aq, ar, au, av, aw])) :: Γ) w := hs
    refine WL_round fun hn di => Wr fun ho dj => O_y rfl (Y_to (v' := .bool true) (Y_lss rfl rfl) (by kernel_rfl)) <| O_nil (dj _ _ <| W_seq fun hp dk => W_true rfl <| W_skip (dk _ _ <| W_seq fun hq dl => W_block fun hr ht hv => W_seq fun hw dm => W_region ?_))
    obtain ⟨hx, br⟩ := hs.rowBlock (j := 2) rfl (by decide)
    refine O_y rfl (Y_ixRow (j := 2) el127 hs rfl br rfl rfl (by decide) (by decide)) <| O_y rfl (Y_loadN ag119 sz119 rfl rfl (fun j u hu => hs.rowCell (j := 2) rfl br ((get_part (o := 4) (k := 2) rfl) j u hu))) <| O_alloc zr119 hs rfl (fun ag w hs => O_storeN (i := 0) sz119 hs rfl rfl rfl rfl rfl (one_cons rfl (one_cons rfl one_nil)) (fun w hs => O_nil (dm _ _ <| Wr fun hy dn => O_y rfl (Y_field fo119_1 rfl) <| O_y rfl (Yb 0 ag118 hs rfl rfl rfl) ?_)))
    have hs := hs.front 8 rfl
    obtain ⟨be, ch, H⟩ := bnd H
    refine O_callv rfl rfl rfl (book_Check_6_mae.c hs ay az a0 a1 a2 a3 a4 a5 a6 a7 a8 ch) (fun hz w hpost => ?_)
    obtain ⟨rfl, hs⟩ := hpost
    have hs := hs.sink 8
    refine Oa rfl rfl <| O_nil (dn _ _ <| Wr fun ia dp => Om rfl rfl <| O_y rfl (Y_geq rfl rfl) <| O_nil (dp _ _ <| W_if rfl (fun b4 => ?_) (fun b4 => ?_)))
    ·rw [if_pos b4] at H
     refine Wr fun ib dq => O_y rfl (Y_field fo119_0 rfl) <| O_y rfl (Yb 0 ag3 hs rfl rfl rfl) <| Om rfl rfl <| O_y rfl (Y_build (cs := [.int .i64 3, .int .i64 be]) zr85 pl85 ((Parts.cons rfl rfl (Parts.cons rfl rfl Parts.nil))) ag85 (by kernel_rfl)) <| O_storeN (i := 7) sz85 hs rfl rfl rfl rfl rfl (one_cons rfl (one_cons rfl one_nil)) (fun w hs => Oa rfl rfl <| O_nil (dq _ _ <| W.weak [(2, _), (3, _)] (S2 rfl rfl) <| W_ret ?_))
     obtain rfl := sinj H
     exact retc1 (i := 7) rfl rfl rfl ag85 sz85 hs rfl rfl ⟨_, _, rfl, Le.rfl' _, (hs.sub (ssk (ssk (ssk (ssk (ssk (ssk (ssk (ssk (ssk ssr)))))))))), rfl⟩
    ·rw [if_neg b4] at H
     refine W_skip (dl _ _ <| W_region <| O_y rfl (Y_to (v' := .int .i64 3) (Y_add rfl rfl) (by kernel_rfl)) <| Om rfl rfl <| O_nil (di _ _ <| WL.weak [(2, _), (36, _), (37, _), (38, _)] (S4 rfl rfl rfl rfl) ?_))
     have hs : St w0 ρ ((.box ag 119 ([.int .i64 3, .func (.func 63) #[] #[.pointer (some ⟨aa, 0, none⟩)]])) :: (.box af 119 ([.int .i64 2, .func (.func 61) #[] #[.pointer (some ⟨aa, 0, none⟩), .pointer (some ⟨ab, 0, none⟩)]])) :: (.box ae 119 ([.int .i64 1, .func (.func 59) #[] #[.pointer (some ⟨aa, 0, none⟩)]])) :: (.row (.slice (some ⟨ba, 0, none⟩) 12 12) 119 2 12 [.int .i64 1, .func (.func 59) #[] #[.pointer (some ⟨aa, 0, none⟩)], .int .i64 2, .func (.func 61) #[] #[.pointer (some ⟨aa, 0, none⟩), .pointer (some ⟨ab, 0, none⟩)], .int .i64 3, .func (.func 63) #[] #[.pointer (some ⟨aa, 0, none⟩)], .int .i64 4, .func (.func 65) #[] #[.pointer (some ⟨aa, 0, none⟩), .pointer (some ⟨ac, 0, none⟩)], .int .i64 5, .func (.func 66) #[] #[.pointer (some ⟨aa, 0, none⟩), .pointer (some ⟨ac, 0, none⟩)], .int .i64 6, .func (.func 69) #[] #[.pointer (some ⟨aa, 0, none⟩), .pointer (some ⟨ac, 0, none⟩)], .int .i64 7, .func (.func 72) #[] #[.pointer (some ⟨aa, 0, none⟩), .pointer (some ⟨ab, 0, none⟩)], .int .i64 8, .func (.func 74) #[] #[.pointer (some ⟨aa, 0, none⟩), .pointer (some ⟨ab, 0, none⟩)], .int .i64 9, .func (.func 76) #[] #[.pointer (some ⟨aa, 0, none⟩), .pointer (some ⟨ab, 0, none⟩)], .int .i64 10, .func (.func 77) #[] #[.pointer (some ⟨aa, 0, none⟩), .pointer (some ⟨ab, 0, none⟩)], .int .i64 11, .func (.func 78) #[] #[.pointer (some ⟨aa, 0, none⟩), .pointer (some ⟨ad, 0, none⟩)], .int .i64 5, .func (.func 79) #[] #[.pointer (some ⟨aa, 0, none⟩)]]) :: (.box ad 117 ([.func (.func 57) #[] #[]])) :: (.box ac 115 ([.func (.func 55) #[] #[]])) :: (.box ab 115 ([.func (.func 54) #[] #[]])) :: (.box a9 85 ([.int .i64 0, .int .i64 0])) :: (.box aa 27 ([ak, al, am, an, ao, ap, aq, ar, au, av, aw])) :: Γ) w := hs
     refine WL_round fun ic dr => Wr fun id ds => O_y rfl (Y_to (v' := .bool true) (Y_lss rfl rfl) (by kernel_rfl)) <| O_nil (ds _ _ <| W_seq fun ie dt => W_true rfl <| W_skip (dt _ _ <| W_seq fun ig du => W_block fun ih ii ij => W_seq fun ik dv => W_region ?_))
     obtain ⟨il, bs⟩ := hs.rowBlock (j := 3) rfl (by decide)
     refine O_y rfl (Y_ixRow (j := 3) el127 hs rfl bs rfl rfl (by decide) (by decide)) <| O_y rfl (Y_loadN ag119 sz119 rfl rfl (fun j u hu => hs.rowCell (j := 3) rfl bs ((get_part (o := 6) (k := 2) rfl) j u hu))) <| O_alloc zr119 hs rfl (fun ah w hs => O_storeN (i := 0) sz119 hs rfl rfl rfl rfl rfl (one_cons rfl (one_cons rfl one_nil)) (fun w hs => O_nil (dv _ _ <| Wr fun im dw => O_y rfl (Y_field fo119_1 rfl) <| O_y rfl (Yb 0 ag118 hs rfl rfl rfl) ?_)))
     have hs := hs.front 6 rfl
     have hs := hs.front 9 rfl
     obtain ⟨bf, ci, H⟩ := bnd H
     refine O_callv rfl rfl rfl (book_Check_7_hpj.c hs ay az a0 a1 a2 a3 a4 a5 a6 a7 a8 ci) (fun io w hpost => ?_)
     obtain ⟨rfl, hs⟩ := hpost
     have hs := hs.sink 9
     have hs := hs.sink 6
     refine Oa rfl rfl <| O_nil (dw _ _ <| Wr fun ip dx => Om rfl rfl <| O_y rfl (Y_geq rfl rfl) <| O_nil (dx _ _ <| W_if rfl (fun b5 => ?_) (fun b5 => ?_)))
     ·rw [if_pos b5] at H
      refine Wr fun iq dy => O_y rfl (Y_field fo119_0 rfl) <| O_y rfl (Yb 0 ag3 hs rfl rfl rfl) <| Om rfl rfl <| O_y rfl (Y_build (cs := [.int .i64 4, .int .i64 bf]) zr85 pl85 ((Parts.cons rfl rfl (Parts.cons rfl rfl Parts.nil))) ag85 (by kernel_rfl)) <| O_storeN (i := 8) sz85 hs rfl rfl rfl rfl rfl (one_cons rfl (one_cons rfl one_nil)) (fun w hs => Oa rfl rfl <| O_nil (dy _ _ <| W.weak [(2, _), (3, _)] (S2 rfl rfl) <| W_ret ?_))
      obtain rfl := sinj H
      exact retc1 (i := 8) rfl rfl rfl ag85 sz85 hs rfl rfl ⟨_, _, rfl, Le.rfl' _, (hs.sub (ssk (ssk (ssk (ssk (ssk (ssk (ssk (ssk (ssk (ssk ssr))))))))))), rfl⟩
     ·rw [if_neg b5] at H
      refine W_skip (du _ _ <| W_region <| O_y rfl (Y_to (v' := .int .i64 4) (Y_add rfl rfl) (by kernel_rfl)) <| Om rfl rfl <| O_nil (dr _ _ <| WL.weak [(2, _), (36, _), (37, _), (38, _)] (S4 rfl rfl rfl rfl) ?_))
      have hs : St w0 ρ ((.box ah 119 ([.int .i64 4, .func (.func 65) #[] #[.pointer (some ⟨aa, 0, none⟩), .pointer (some ⟨ac, 0, none⟩)]])) :: (.box ag 119 ([.int .i64 3, .func (.func 63) #[] #[.pointer (some ⟨aa, 0, none⟩)]])) :: (.box af 119 ([.int .i64 2, .func (.func 61) #[] #[.pointer (some ⟨aa, 0, none⟩), .pointer (some ⟨ab, 0, none⟩)]])) :: (.box ae 119 ([.int .i64 1, .func (.func 59) #[] #[.pointer (some ⟨aa, 0, none⟩)]])) :: (.row (.slice (some ⟨ba, 0, none⟩) 12 12) 119 2 12 [.int .i64 1, .func (.func 59) #[] #[.pointer (some ⟨aa, 0, none⟩)], .int .i64 2, .func (.func 61) #[] #[.pointer (some ⟨aa, 0, none⟩), .pointer (some ⟨ab, 0, none⟩)], .int .i64 3, .func (.func 63) #[] #[.pointer (some ⟨aa, 0, none⟩)], .int .i64 4, .func (.func 65) #[] #[.pointer (some ⟨aa, 0, none⟩), .pointer (some ⟨ac, 0, none⟩)], .int .i64 5, .func (.func 66) #[] #[.pointer (some ⟨aa, 0, none⟩), .pointer (some ⟨ac, 0, none⟩)], .int .i64 6, .func (.func 69) #[] #[.pointer (some ⟨aa, 0, none⟩), .pointer (some ⟨ac, 0, none⟩)], .int .i64 7, .func (.func 72) #[] #[.pointer (some ⟨aa, 0, none⟩), .pointer (some ⟨ab, 0, none⟩)], .int .i64 8, .func (.func 74) #[] #[.pointer (some ⟨aa, 0, none⟩), .pointer (some ⟨ab, 0, none⟩)], .int .i64 9, .func (.func 76) #[] #[.pointer (some ⟨aa, 0, none⟩), .pointer (some ⟨ab, 0, none⟩)], .int .i64 10, .func (.func 77) #[] #[.pointer (some ⟨aa, 0, none⟩), .pointer (some ⟨ab, 0, none⟩)], .int .i64 11, .func (.func 78) #[] #[.pointer (some ⟨aa, 0, none⟩), .pointer (some ⟨ad, 0, none⟩)], .int .i64 5, .func (.func 79) #[] #[.pointer (some ⟨aa, 0, none⟩)]]) :: (.box ad 117 ([.func (.func 57) #[] #[]])) :: (.box ac 115 ([.func (.func 55) #[] #[]])) :: (.box ab 115 ([.func (.func 54) #[] #[]])) :: (.box a9 85 ([.int .i64 0, .int .i64 0])) :: (.box aa 27 ([ak, al, am, an, ao, ap, aq, ar, au, av, aw])) :: Γ) w := hs
      refine WL_round fun ir dz => Wr fun it ea => O_y rfl (Y_to (v' := .bool true) (Y_lss rfl rfl) (by kernel_rfl)) <| O_nil (ea _ _ <| W_seq fun iu eb => W_true rfl <| W_skip (eb _ _ <| W_seq fun iv ec => W_block fun iw ix iy => W_seq fun iz ed => W_region ?_))
      obtain ⟨ja, bt⟩ := hs.rowBlock (j := 4) rfl (by decide)
      refine O_y rfl (Y_ixRow (j := 4) el127 hs rfl bt rfl rfl (by decide) (by decide)) <| O_y rfl (Y_loadN ag119 sz119 rfl rfl (fun j u hu => hs.rowCell (j := 4) rfl bt ((get_part (o := 8) (k := 2) rfl) j u hu))) <| O_alloc zr119 hs rfl (fun ai w hs => O_storeN (i := 0) sz119 hs rfl rfl rfl rfl rfl (one_cons rfl (one_cons rfl one_nil)) (fun w hs => O_nil (ed _ _ <| Wr fun jb ee => O_y rfl (Y_field fo119_1 rfl) <| O_y rfl (Yb 0 ag118 hs rfl rfl rfl) ?_)))
      have hs := hs.front 7 rfl
      have hs := hs.front 10 rfl
      obtain ⟨bg, cj, H⟩ := bnd H
      refine O_callv rfl rfl rfl (book_Check_8_hpj.c hs ay az a0 a1 a2 a3 a4 a5 a6 a7 a8 cj) (fun jc w hpost => ?_)
      obtain ⟨rfl, hs⟩ := hpost
      have hs := hs.sink 10
      have hs := hs.sink 7
      refine Oa rfl rfl <| O_nil (ee _ _ <| Wr fun jd ef => Om rfl rfl <| O_y rfl (Y_geq rfl rfl) <| O_nil (ef _ _ <| W_if rfl (fun b6 => ?_) (fun b6 => ?_)))
      ·rw [if_pos b6] at H
       refine Wr fun je eg => O_y rfl (Y_field fo119_0 rfl) <| O_y rfl (Yb 0 ag3 hs rfl rfl rfl) <| Om rfl rfl <| O_y rfl (Y_build (cs := [.int .i64 5, .int .i64 bg]) zr85 pl85 ((Parts.cons rfl rfl (Parts.cons rfl rfl Parts.nil))) ag85 (by kernel_rfl)) <| O_storeN (i := 9) sz85 hs rfl rfl rfl rfl rfl (one_cons rfl (one_cons rfl one_nil)) (fun w hs => Oa rfl rfl <| O_nil (eg _ _ <| W.weak [(2, _), (3, _)] (S2 rfl rfl) <| W_ret ?_))
       obtain rfl := sinj H
       exact retc1 (i := 9) rfl rfl rfl ag85 sz85 hs rfl rfl ⟨_, _, rfl, Le.rfl' _, (hs.sub (ssk (ssk (ssk (ssk (ssk (ssk (ssk (ssk (ssk (ssk (ssk ssr)))))))))))), rfl⟩
      ·rw [if_neg b6] at H
       refine W_skip (ec _ _ <| W_region <| O_y rfl (Y_to (v' := .int .i64 5) (Y_add rfl rfl) (by kernel_rfl)) <| Om rfl rfl <| O_nil (dz _ _ <| WL.weak [(2, _), (36, _), (37, _), (38, _)] (S4 rfl rfl rfl rfl) ?_))
       have hs : St w0 ρ ((.box ai 119 ([.int .i64 5, .func (.func 66) #[] #[.pointer (some ⟨aa, 0, none⟩), .pointer (some ⟨ac, 0, none⟩)]])) :: (.box ah 119 ([.int .i64 4, .func (.func 65) #[] #[.pointer (some ⟨aa, 0, none⟩), .pointer (some ⟨ac, 0, none⟩)]])) :: (.box ag 119 ([.int .i64 3, .func (.func 63) #[] #[.pointer (some ⟨aa, 0, none⟩)]])) :: (.box af 119 ([.int .i64 2, .func (.func 61) #[] #[.pointer (some ⟨aa, 0, none⟩), .pointer (some ⟨ab, 0, none⟩)]])) :: (.box ae 119 ([.int .i64 1, .func (.func 59) #[] #[.pointer (some ⟨aa, 0, none⟩)]])) :: (.row (.slice (some ⟨ba, 0, none⟩) 12 12) 119 2 12 [.int .i64 1, .func (.func 59) #[] #[.pointer (some ⟨aa, 0, none⟩)], .int .i64 2, .func (.func 61) #[] #[.pointer (some ⟨aa, 0, none⟩), .pointer (some ⟨ab, 0, none⟩)], .int .i64 3, .func (.func 63) #[] #[.pointer (some ⟨aa, 0, none⟩)], .int .i64 4, .func (.func 65) #[] #[.pointer (some ⟨aa, 0, none⟩), .pointer (some ⟨ac, 0, none⟩)], .int .i64 5, .func (.func 66) #[] #[.pointer (some ⟨aa, 0, none⟩), .pointer (some ⟨ac, 0, none⟩)], .int .i64 6, .func (.func 69) #[] #[.pointer (some ⟨aa, 0, none⟩), .pointer (some ⟨ac, 0, none⟩)], .int .i64 7, .func (.func 72) #[] #[.pointer (some ⟨aa, 0, none⟩), .pointer (some ⟨ab, 0, none⟩)], .int .i64 8, .func (.func 74) #[] #[.pointer (some ⟨aa, 0, none⟩), .pointer (some ⟨ab, 0, none⟩)], .int .i64 9, .func (.func 76) #[] #[.pointer (some ⟨aa, 0, none⟩), .pointer (some ⟨ab, 0, none⟩)], .int .i64 10, .func (.func 77) #[] #[.pointer (some ⟨aa, 0, none⟩), .pointer (some ⟨ab, 0, none⟩)], .int .i64 11, .func (.func 78) #[] #[.pointer (some ⟨aa, 0, none⟩), .pointer (some ⟨ad, 0, none⟩)], .int .i64 5, .func (.func 79) #[] #[.pointer (some ⟨aa, 0, none⟩)]]) :: (.box ad 117 ([.func (.func 57) #[] #[]])) :: (.box ac 115 ([.func (.func 55) #[] #[]])) :: (.box ab 115 ([.func (.func 54) #[] #[]])) :: (.box a9 85 ([.int .i64 0, .int .i64 0])) :: (.box aa 27 ([ak, al, am, an, ao, ap, aq, ar, au, av, aw])) :: Γ) w := hs
       refine WL_round fun jf eh => Wr fun jg ei => O_y rfl (Y_to (v' := .bool true) (Y_lss rfl rfl) (by kernel_rfl)) <| O_nil (ei _ _ <| W_seq fun jh ej => W_true rfl <| W_skip (ej _ _ <| W_seq fun ji ek => W_block fun jj jk jl => W_seq fun jm el => W_region ?_))
       obtain ⟨jn, bu⟩ := hs.rowBlock (j := 5) rfl (by decide)
       refine O_y rfl (Y_ixRow (j := 5) el127 hs rfl bu rfl rfl (by decide) (by decide)) <| O_y rfl (Y_loadN ag119 sz119 rfl rfl (fun j u hu => hs.rowCell (j := 5) rfl bu ((get_part (o := 10) (k := 2) rfl) j u hu))) <| O_alloc zr119 hs rfl (fun aj w hs => O_storeN (i := 0) sz119 hs rfl rfl rfl rfl rfl (one_cons rfl (one_cons rfl one_nil)) (fun w hs => O_nil (el _ _ <| Wr fun jo em => O_y rfl (Y_field fo119_1 rfl) <| O_y rfl (Yb 0 ag118 hs rfl rfl rfl) ?_)))
       have hs := hs.front 8 rfl
       have hs := hs.front 11 rfl
       obtain ⟨bh, ck, H⟩ := bnd H
       refine O_callv rfl rfl rfl (book_Check_9_hpj.c hs ay az a0 a1 a2 a3 a4 a5 a6 a7 a8 ck) (fun jp w hpost => ?_)
       obtain ⟨rfl, hs⟩ := hpost
       have hs := hs.sink 11
       have hs := hs.sink 8
       refine Oa rfl rfl <| O_nil (em _ _ <| Wr fun jq en => Om rfl rfl <| O_y rfl (Y_geq rfl rfl) <| O_nil (en _ _ <| W_if rfl (fun b7 => ?_) (fun b7 => ?_)))
       ·rw [if_pos b7] at H
        refine Wr fun jr eo => O_y rfl (Y_field fo119_0 rfl) <| O_y rfl (Yb 0 ag3 hs rfl rfl rfl) <| Om rfl rfl <| O_y rfl (Y_build (cs := [.int .i64 6, .int .i64 bh]) zr85 pl85 ((Parts.cons rfl rfl (Parts.cons rfl rfl Parts.nil))) ag85 (by kernel_rfl)) <| O_storeN (i := 10) sz85 hs rfl rfl rfl rfl rfl (one_cons rfl (one_cons rfl one_nil)) (fun w hs => Oa rfl rfl <| O_nil (eo _ _ <| W.weak [(2, _), (3, _)] (S2 rfl rfl) <| W_ret ?_))
        obtain rfl := sinj H
        exact retc1 (i := 10) rfl rfl rfl ag85 sz85 hs rfl rfl ⟨_, _, rfl, Le.rfl' _, (hs.sub (ssk (ssk (ssk (ssk (ssk (ssk (ssk (ssk (ssk (ssk (ssk (ssk ssr))))))))))))), rfl⟩
       ·rw [if_neg b7] at H
        refine W_skip (ek _ _ <| W_region <| O_y rfl (Y_to (v' := .int .i64 6) (Y_add rfl rfl) (by kernel_rfl)) <| Om rfl rfl <| O_nil (eh _ _ <| WL.weak [(2, _), (36, _), (37, _), (38, _)] (S4 rfl rfl rfl rfl) ?_))
        have hs : St w0 ρ ((.box aj 119 ([.int .i64 6, .func (.func 69) #[] #[.pointer (some ⟨aa, 0, none⟩), .pointer (some ⟨ac, 0, none⟩)]])) :: (.box ai 119 ([.int .i64 5, .func (.func 66) #[] #[.pointer (some ⟨aa, 0, none⟩), .pointer (some ⟨ac, 0, none⟩)]])) :: (.box ah 119 ([.int .i64 4, .func (.func 65) #[] #[.pointer (some ⟨aa, 0, none⟩), .pointer (some ⟨ac, 0, none⟩)]])) :: (.box ag 119 ([.int .i64 3, .func (.func 63) #[] #[.pointer (some ⟨aa, 0, none⟩)]])) :: (.box af 119 ([.int .i64 2, .func (.func 61) #[] #[.pointer (some ⟨aa, 0, none⟩), .pointer (some ⟨ab, 0, none⟩)]])) :: (.box ae 119 ([.int .i64 1, .func (.func 59) #[] #[.pointer (some ⟨aa, 0, none⟩)]])) :: (.row (.slice (some ⟨ba, 0, none⟩) 12 12) 119 2 12 [.int .i64 1, .func (.func 59) #[] #[.pointer (some ⟨aa, 0, none⟩)], .int .i64 2, .func (.func 61) #[] #[.pointer (some ⟨aa, 0, none⟩), .pointer (some ⟨ab, 0, none⟩)], .int .i64 3, .func (.func 63) #[] #[.pointer (some ⟨aa, 0, none⟩)], .int .i64 4, .func (.func 65) #[] #[.pointer (some ⟨aa, 0, none⟩), .pointer (some ⟨ac, 0, none⟩)], .int .i64 5, .func (.func 66) #[] #[.pointer (some ⟨aa, 0, none⟩), .pointer (some ⟨ac, 0, none⟩)], .int .i64 6, .func (.func 69) #[] #[.pointer (some ⟨aa, 0, none⟩), .pointer (some ⟨ac, 0, none⟩)], .int .i64 7, .func (.func 72) #[] #[.pointer (some ⟨aa, 0, none⟩), .pointer (some ⟨ab, 0, none⟩)], .int .i64 8, .func (.func 74) #[] #[.pointer (some ⟨aa, 0, none⟩), .pointer (some ⟨ab, 0, none⟩)], .int .i64 9, .func (.func 76) #[] #[.pointer (some ⟨aa, 0, none⟩), .pointer (some ⟨ab, 0, none⟩)], .int .i64 10, .func (.func 77) #[] #[.pointer (some ⟨aa, 0, none⟩), .pointer (some ⟨ab, 0, none⟩)], .int .i64 11, .func (.func 78) #[] #[.pointer (some ⟨aa, 0, none⟩), .pointer (some ⟨ad, 0, none⟩)], .int .i64 5, .func (.func 79) #[] #[.pointer (some ⟨aa, 0, none⟩)]]) :: (.box ad 117 ([.func (.func 57) #[] #[]])) :: (.box ac 115 ([.func (.func 55) #[] #[]])) :: (.box ab 115 ([.func (.func 54) #[] #[]])) :: (.box a9 85 ([.int .i64 0, .int .i64 0])) :: (.box aa 27 ([ak, al, am, an, ao, ap, aq, ar, au, av, aw])) :: Γ) w := hs
        refine WL_round fun js ep => Wr fun jt eq => O_y rfl (Y_to (v' := .bool true) (Y_lss rfl rfl) (by kernel_rfl)) <| O_nil (eq _ _ <| W_seq fun ju er => W_true rfl <| W_skip (er _ _ <| W_seq fun jv es => W_block fun jw jx jy => W_seq fun jz et => W_region ?_))
        obtain ⟨j0, bv⟩ := hs.rowBlock (j := 6) rfl (by decide)
        refine O_y rfl (Y_ixRow (j := 6) el127 hs rfl bv rfl rfl (by decide) (by decide)) <| O_y rfl (Y_loadN ag119 sz119 rfl rfl (fun j u hu => hs.rowCell (j := 6) rfl bv ((get_part (o := 12) (k := 2) rfl) j u hu))) <| O_alloc zr119 hs rfl (fun ax w hs => O_storeN (i := 0) sz119 hs rfl rfl rfl rfl rfl (one_cons rfl (one_cons rfl one_nil)) (fun w hs => O_nil (et _ _ <| Wr fun j1 eu => O_y rfl (Y_field fo119_1 rfl) <| O_y rfl (Yb 0 ag118 hs rfl rfl rfl) ?_)))
        have hs := hs.front 10 rfl
        have hs := hs.front 12 rfl
        obtain ⟨bi, cl, H⟩ := bnd H
        refine O_callv rfl rfl rfl (book_Check_10_ion.c hs ay az a0 a1 a2 a3 a4 a5 a6 a7 a8 cl) (fun j2 w hpost => ?_)
        obtain ⟨rfl, hs⟩ := hpost
        have hs := hs.sink 12
        have hs := hs.sink 10
        refine Oa rfl rfl <| O_nil (eu _ _ <| Wr fun j3 ev => Om rfl rfl <| O_y rfl (Y_geq rfl rfl) <| O_nil (ev _ _ <| W_if rfl (fun b8 => ?_) (fun b8 => ?_)))
        ·rw [if_pos b8] at H
         refine Wr fun j4 ew => O_y rfl (Y_field fo119_0 rfl) <| O_y rfl (Yb 0 ag3 hs rfl rfl rfl) <| Om rfl rfl <| O_y rfl (Y_build (cs := [.int .i64 7, .int .i64 bi]) zr85 pl85 ((Parts.cons rfl rfl (Parts.cons rfl rfl Parts.nil))) ag85 (by kernel_rfl)) <| O_storeN (i := 11) sz85 hs rfl rfl rfl rfl rfl (one_cons rfl (one_cons rfl one_nil)) (fun w hs => Oa rfl rfl <| O_nil (ew _ _ <| W.weak [(2, _), (3, _)] (S2 rfl rfl) <| W_ret ?_))
         obtain rfl := sinj H
         exact retc1 (i := 11) rfl rfl rfl ag85 sz85 hs rfl rfl ⟨_, _, rfl, Le.rfl' _, (hs.sub (ssk (ssk (ssk (ssk (ssk (ssk (ssk (ssk (ssk (ssk (ssk (ssk (ssk ssr)))))))))))))), rfl⟩
        ·rw [if_neg b8] at H
         refine W_skip (es _ _ <| W_region <| O_y rfl (Y_to (v' := .int .i64 7) (Y_add rfl rfl) (by kernel_rfl)) <| Om rfl rfl <| O_nil (ep _ _ <| WL.weak [(2, _), (36, _), (37, _), (38, _)] (S4 rfl rfl rfl rfl) ?_))
         have hs : St w0 ρ ((.box ax 119 ([.int .i64 7, .func (.func 72) #[] #[.pointer (some ⟨aa, 0, none⟩), .pointer (some ⟨ab, 0, none⟩)]])) :: (.box aj 119 ([.int .i64 6, .func (.func 69) #[] #[.pointer (some ⟨aa, 0, none⟩), .pointer (some ⟨ac, 0, none⟩)]])) :: (.box ai 119 ([.int .i64 5, .func (.func 66) #[] #[.pointer (some ⟨aa, 0, none⟩), .pointer (some ⟨ac, 0, none⟩)]])) :: (.box ah 119 ([.int .i64 4, .func (.func 65) #[] #[.pointer (some ⟨aa, 0, none⟩), .pointer (some ⟨ac, 0, none⟩)]])) :: (.box ag 119 ([.int .i64 3, .func (.func 63) #[] #[.pointer (some ⟨aa, 0, none⟩)]])) :: (.box af 119 ([.int .i64 2, .func (.func 61) #[] #[.pointer (some ⟨aa, 0, none⟩), .pointer (some ⟨ab, 0, none⟩)]])) :: (.box ae 119 ([.int .i64 1, .func (.func 59) #[] #[.pointer (some ⟨aa, 0, none⟩)]])) :: (.row (.slice (some ⟨ba, 0, none⟩) 12 12) 119 2 12 [.int .i64 1, .func (.func 59) #[] #[.pointer (some ⟨aa, 0, none⟩)], .int .i64 2, .func (.func 61) #[] #[.pointer (some ⟨aa, 0, none⟩), .pointer (some ⟨ab, 0, none⟩)], .int .i64 3, .func (.func 63) #[] #[.pointer (some ⟨aa, 0, none⟩)], .int .i64 4, .func (.func 65) #[] #[.pointer (some ⟨aa, 0, none⟩), .pointer (some ⟨ac, 0, none⟩)], .int .i64 5, .func (.func 66) #[] #[.pointer (some ⟨aa, 0, none⟩), .pointer (some ⟨ac, 0, none⟩)], .int .i64 6, .func (.func 69) #[] #[.pointer (some ⟨aa, 0, none⟩), .pointer (some ⟨ac, 0, none⟩)], .int .i64 7, .func (.func 72) #[] #[.pointer (some ⟨aa, 0, none⟩), .pointer (some ⟨ab, 0, none⟩)], .int .i64 8, .func (.func 74) #[] #[.pointer (some ⟨aa, 0, none⟩), .pointer (some ⟨ab, 0, none⟩)], .int .i64 9, .func (.func 76) #[] #[.pointer (some ⟨aa, 0, none⟩), .pointer (some ⟨ab, 0, none⟩)], .int .i64 10, .func (.func 77) #[] #[.pointer (some ⟨aa, 0, none⟩), .pointer (some ⟨ab, 0, none⟩)], .int .i64 11, .func (.func 78) #[] #[.pointer (some ⟨aa, 0, none⟩), .pointer (some ⟨ad, 0, none⟩)], .int .i64 5, .func (.func 79) #[] #[.pointer (some ⟨aa, 0, none⟩)]]) :: (.box ad 117 ([.func (.func 57) #[] #[]])) :: (.box ac 115 ([.func (.func 55) #[] #[]])) :: (.box ab 115 ([.func (.func 54) #[] #[]])) :: (.box a9 85 ([.int .i64 0, .int .i64 0])) :: (.box aa 27 ([ak, al, am, an, ao, ap, aq, ar, au, av, aw])) :: Γ) w := hs
         refine WL_round fun j5 ex => Wr fun j6 ey => O_y rfl (Y_to (v' := .bool true) (Y_lss rfl rfl) (by kernel_rfl)) <| O_nil (ey _ _ <| W_seq fun j7 ez => W_true rfl <| W_skip (ez _ _ <| W_seq fun j8 e0 => W_block fun j9 ka kb => W_seq fun kc e1 => W_region ?_))
         obtain ⟨kd, bw⟩ := hs.rowBlock (j := 7) rfl (by decide)
         refine O_y rfl (Y_ixRow (j := 7) el127 hs rfl bw rfl rfl (by decide) (by decide)) <| O_y rfl (Y_loadN ag119 sz119 rfl rfl (fun j u hu => hs.rowCell (j := 7) rfl bw ((get_part (o := 14) (k := 2) rfl) j u hu))) <| O_alloc zr119 hs rfl (fun bb w hs => O_storeN (i := 0) sz119 hs rfl rfl rfl rfl rfl (one_cons rfl (one_cons rfl one_nil)) (fun w hs => O_nil (e1 _ _ <| Wr fun ke e2 => O_y rfl (Y_field fo119_1 rfl) <| O_y rfl (Yb 0 ag118 hs rfl rfl rfl) ?_)))
         have hs := hs.front 11 rfl
         have hs := hs.front 13 rfl
         obtain ⟨bj, cm, H⟩ := bnd H
         refine O_callv rfl rfl rfl (book_Check_11_ion.c hs ay az a0 a1 a2 a3 a4 a5 a6 a7 a8 cm) (fun kf w hpost => ?_)
         obtain ⟨rfl, hs⟩ := hpost
         have hs := hs.sink 13
         have hs := hs.sink 11
         refine Oa rfl rfl <| O_nil (e2 _ _ <| Wr fun kg e3 => Om rfl rfl <| O_y rfl (Y_geq rfl rfl) <| O_nil (e3 _ _ <| W_if rfl (fun b9 => ?_) (fun b9 => ?_)))
         ·rw [if_pos b9] at H
          refine Wr fun kh e4 => O_y rfl (Y_field fo119_0 rfl) <| O_y rfl (Yb 0 ag3 hs rfl rfl rfl) <| Om rfl rfl <| O_y rfl (Y_build (cs := [.int .i64 8, .int .i64 bj]) zr85 pl85 ((Parts.cons rfl rfl (Parts.cons rfl rfl Parts.nil))) ag85 (by kernel_rfl)) <| O_storeN (i := 12) sz85 hs rfl rfl rfl rfl rfl (one_cons rfl (one_cons rfl one_nil)) (fun w hs => Oa rfl rfl <| O_nil (e4 _ _ <| W.weak [(2, _), (3, _)] (S2 rfl rfl) <| W_ret ?_))
          obtain rfl := sinj H
          exact retc1 (i := 12) rfl rfl rfl ag85 sz85 hs rfl rfl ⟨_, _, rfl, Le.rfl' _, (hs.sub (ssk (ssk (ssk (ssk (ssk (ssk (ssk (ssk (ssk (ssk (ssk (ssk (ssk (ssk ssr))))))))))))))), rfl⟩
         ·rw [if_neg b9] at H
          refine W_skip (e0 _ _ <| W_region <| O_y rfl (Y_to (v' := .int .i64 8) (Y_add rfl rfl) (by kernel_rfl)) <| Om rfl rfl <| O_nil (ex _ _ <| WL.weak [(2, _), (36, _), (37, _), (38, _)] (S4 rfl rfl rfl rfl) ?_))
          have hs : St w0 ρ ((.box bb 119 ([.int .i64 8, .func (.func 74) #[] #[.pointer (some ⟨aa, 0, none⟩), .pointer (some ⟨ab, 0, none⟩)]])) :: (.box ax 119 ([.int .i64 7, .func (.func 72) #[] #[.pointer (some ⟨aa, 0, none⟩), .pointer (some ⟨ab, 0, none⟩)]])) :: (.box aj 119 ([.int .i64 6, .func (.func 69) #[] #[.pointer (some ⟨aa, 0, none⟩), .pointer (some ⟨ac, 0, none⟩)]])) :: (.box ai 119 ([.int .i64 5, .func (.func 66) #[] #[.pointer (some ⟨aa, 0, none⟩), .pointer (some ⟨ac, 0, none⟩)]])) :: (.box ah 119 ([.int .i64 4, .func (.func 65) #[] #[.pointer (some ⟨aa, 0, none⟩), .pointer (some ⟨ac, 0, none⟩)]])) :: (.box ag 119 ([.int .i64 3, .func (.func 63) #[] #[.pointer (some ⟨aa, 0, none⟩)]])) :: (.box af 119 ([.int .i64 2, .func (.func 61) #[] #[.pointer (some ⟨aa, 0, none⟩), .pointer (some ⟨ab, 0, none⟩)]])) :: (.box ae 119 ([.int .i64 1, .func (.func 59) #[] #[.pointer (some ⟨aa, 0, none⟩)]])) :: (.row (.slice (some ⟨ba, 0, none⟩) 12 12) 119 2 12 [.int .i64 1, .func (.func 59) #[] #[.pointer (some ⟨aa, 0, none⟩)], .int .i64 2, .func (.func 61) #[] #[.pointer (some ⟨aa, 0, none⟩), .pointer (some ⟨ab, 0, none⟩)], .int .i64 3, .func (.func 63) #[] #[.pointer (some ⟨aa, 0, none⟩)], .int .i64 4, .func (.func 65) #[] #[.pointer (some ⟨aa, 0, none⟩), .pointer (some ⟨ac, 0, none⟩)], .int .i64 5, .func (.func 66) #[] #[.pointer (some ⟨aa, 0, none⟩), .pointer (some ⟨ac, 0, none⟩)], .int .i64 6, .func (.func 69) #[] #[.pointer (some ⟨aa, 0, none⟩), .pointer (some ⟨ac, 0, none⟩)], .int .i64 7, .func (.func 72) #[] #[.pointer (some ⟨aa, 0, none⟩), .pointer (some ⟨ab, 0, none⟩)], .int .i64 8, .func (.func 74) #[] #[.pointer (some ⟨aa, 0, none⟩), .pointer (some ⟨ab, 0, none⟩)], .int .i64 9, .func (.func 76) #[] #[.pointer (some ⟨aa, 0, none⟩), .pointer (some ⟨ab, 0, none⟩)], .int .i64 10, .func (.func 77) #[] #[.pointer (some ⟨aa, 0, none⟩), .pointer (some ⟨ab, 0, none⟩)], .int .i64 11, .func (.func 78) #[] #[.pointer (some ⟨aa, 0, none⟩), .pointer (some ⟨ad, 0, none⟩)], .int .i64 5, .func (.func 79) #[] #[.pointer (some ⟨aa, 0, none⟩)]]) :: (.box ad 117 ([.func (.func 57) #[] #[]])) :: (.box ac 115 ([.func (.func 55) #[] #[]])) :: (.box ab 115 ([.func (.func 54) #[] #[]])) :: (.box a9 85 ([.int .i64 0, .int .i64 0])) :: (.box aa 27 ([ak, al, am, an, ao, ap, aq, ar, au, av, aw])) :: Γ) w := hs
          refine WL_round fun ki e5 => Wr fun kj e6 => O_y rfl (Y_to (v' := .bool true) (Y_lss rfl rfl) (by kernel_rfl)) <| O_nil (e6 _ _ <| W_seq fun kk e7 => W_true rfl <| W_skip (e7 _ _ <| W_seq fun kl e8 => W_block fun km kn ko => W_seq fun kp e9 => W_region ?_))
          obtain ⟨kq, bx⟩ := hs.rowBlock (j := 8) rfl (by decide)
          refine O_y rfl (Y_ixRow (j := 8) el127 hs rfl bx rfl rfl (by decide) (by decide)) <| O_y rfl (Y_loadN ag119 sz119 rfl rfl (fun j u hu => hs.rowCell (j := 8) rfl bx ((get_part (o := 16) (k := 2) rfl) j u hu))) <| O_alloc zr119 hs rfl (fun bo w hs => O_storeN (i := 0) sz119 hs rfl rfl rfl rfl rfl (one_cons rfl (one_cons rfl one_nil)) (fun w hs => O_nil (e9 _ _ <| Wr fun kr fa => O_y rfl (Y_field fo119_1 rfl) <| O_y rfl (Yb 0 ag118 hs rfl rfl rfl) ?_)))
          have hs := hs.front 12 rfl
          have hs := hs.front 14 rfl
          obtain ⟨bk, cn, H⟩ := bnd H
          refine O_callv rfl rfl rfl (book_Check_12_ion.c hs ay az a0 a1 a2 a3 a4 a5 a6 a7 a8 cn) (fun ks w hpost => ?_)
          obtain ⟨rfl, hs⟩ := hpost
          have hs := hs.sink 14
          have hs := hs.sink 12
          refine Oa rfl rfl <| O_nil (fa _ _ <| Wr fun kt fb => Om rfl rfl <| O_y rfl (Y_geq rfl rfl) <| O_nil (fb _ _ <| W_if rfl (fun ca => ?_) (fun ca => ?_)))
          ·rw [if_pos ca] at H
           refine Wr fun ku fc => O_y rfl (Y_field fo119_0 rfl) <| O_y rfl (Yb 0 ag3 hs rfl rfl rfl) <| Om rfl rfl <| O_y rfl (Y_build (cs := [.int .i64 9, .int .i64 bk]) zr85 pl85 ((Parts.cons rfl rfl (Parts.cons rfl rfl Parts.nil))) ag85 (by kernel_rfl)) <| O_storeN (i := 13) sz85 hs rfl rfl rfl rfl rfl (one_cons rfl (one_cons rfl one_nil)) (fun w hs => Oa rfl rfl <| O_nil (fc _ _ <| W.weak [(2, _), (3, _)] (S2 rfl rfl) <| W_ret ?_))
           obtain rfl := sinj H
           exact retc1 (i := 13) rfl rfl rfl ag85 sz85 hs rfl rfl ⟨_, _, rfl, Le.rfl' _, (hs.sub (ssk (ssk (ssk (ssk (ssk (ssk (ssk (ssk (ssk (ssk (ssk (ssk (ssk (ssk (ssk ssr)))))))))))))))), rfl⟩
          ·rw [if_neg ca] at H
           refine W_skip (e8 _ _ <| W_region <| O_y rfl (Y_to (v' := .int .i64 9) (Y_add rfl rfl) (by kernel_rfl)) <| Om rfl rfl <| O_nil (e5 _ _ <| WL.weak [(2, _), (36, _), (37, _), (38, _)] (S4 rfl rfl rfl rfl) ?_))
           have hs : St w0 ρ ((.box bo 119 ([.int .i64 9, .func (.func 76) #[] #[.pointer (some ⟨aa, 0, none⟩), .pointer (some ⟨ab, 0, none⟩)]])) :: (.box bb 119 ([.int .i64 8, .func (.func 74) #[] #[.pointer (some ⟨aa, 0, none⟩), .pointer (some ⟨ab, 0, none⟩)]])) :: (.box ax 119 ([.int .i64 7, .func (.func 72) #[] #[.pointer (some ⟨aa, 0, none⟩), .pointer (some ⟨ab, 0, none⟩)]])) :: (.box aj 119 ([.int .i64 6, .func (.func 69) #[] #[.pointer (some ⟨aa, 0, none⟩), .pointer (some ⟨ac, 0, none⟩)]])) :: (.box ai 119 ([.int .i64 5, .func (.func 66) #[] #[.pointer (some ⟨aa, 0, none⟩), .pointer (some ⟨ac, 0, none⟩)]])) :: (.box ah 119 ([.int .i64 4, .func (.func 65) #[] #[.pointer (some ⟨aa, 0, none⟩), .pointer (some ⟨ac, 0, none⟩)]])) :: (.box ag 119 ([.int .i64 3, .func (.func 63) #[] #[.pointer (some ⟨aa, 0, none⟩)]])) :: (.box af 119 ([.int .i64 2, .func (.func 61) #[] #[.pointer (some ⟨aa, 0, none⟩), .pointer (some ⟨ab, 0, none⟩)]])) :: (.box ae 119 ([.int .i64 1, .func (.func 59) #[] #[.pointer (some ⟨aa, 0, none⟩)]])) :: (.row (.slice (some ⟨ba, 0, none⟩) 12 12) 119 2 12 [.int .i64 1, .func (.func 59) #[] #[.pointer (some ⟨aa, 0, none⟩)], .int .i64 2, .func (.func 61) #[] #[.pointer (some ⟨aa, 0, none⟩), .pointer (some ⟨ab, 0, none⟩)], .int .i64 3, .func (.func 63) #[] #[.pointer (some ⟨aa, 0, none⟩)], .int .i64 4, .func (.func 65) #[] #[.pointer (some ⟨aa, 0, none⟩), .pointer (some ⟨ac, 0, none⟩)], .int .i64 5, .func (.func 66) #[] #[.pointer (some ⟨aa, 0, none⟩), .pointer (some ⟨ac, 0, none⟩)], .int .i64 6, .func (.func 69) #[] #[.pointer (some ⟨aa, 0, none⟩), .pointer (some ⟨ac, 0, none⟩)], .int .i64 7, .func (.func 72) #[] #[.pointer (some ⟨aa, 0, none⟩), .pointer (some ⟨ab, 0, none⟩)], .int .i64 8, .func (.func 74) #[] #[.pointer (some ⟨aa, 0, none⟩), .pointer (some ⟨ab, 0, none⟩)], .int .i64 9, .func (.func 76) #[] #[.pointer (some ⟨aa, 0, none⟩), .pointer (some ⟨ab, 0, none⟩)], .int .i64 10, .func (.func 77) #[] #[.pointer (some ⟨aa, 0, none⟩), .pointer (some ⟨ab, 0, none⟩)], .int .i64 11, .func (.func 78) #[] #[.pointer (some ⟨aa, 0, none⟩), .pointer (some ⟨ad, 0, none⟩)], .int .i64 5, .func (.func 79) #[] #[.pointer (some ⟨aa, 0, none⟩)]]) :: (.box ad 117 ([.func (.func 57) #[] #[]])) :: (.box ac 115 ([.func (.func 55) #[] #[]])) :: (.box ab 115 ([.func (.func 54) #[] #[]])) :: (.box a9 85 ([.int .i64 0, .int .i64 0])) :: (.box aa 27 ([ak, al, am, an, ao, ap, aq, ar, au, av, aw])) :: Γ) w := hs
           refine WL_round fun kv fd => Wr fun kw fe => O_y rfl (Y_to (v' := .bool true) (Y_lss rfl rfl) (by kernel_rfl)) <| O_nil (fe _ _ <| W_seq fun kx ff => W_true rfl <| W_skip (ff _ _ <| W_seq fun ky fg => W_block fun kz k0 k1 => W_seq fun k2 fh => W_region ?_))
           obtain ⟨k3, bz⟩ := hs.rowBlock (j := 9) rfl (by decide)
           refine O_y rfl (Y_ixRow (j := 9) el127 hs rfl bz rfl rfl (by decide) (by decide)) <| O_y rfl (Y_loadN ag119 sz119 rfl rfl (fun j u hu => hs.rowCell (j := 9) rfl bz ((get_part (o := 18) (k := 2) rfl) j u hu))) <| O_alloc zr119 hs rfl (fun cb w hs => O_storeN (i := 0) sz119 hs rfl rfl rfl rfl rfl (one_cons rfl (one_cons rfl one_nil)) (fun w hs => O_nil (fh _ _ <| Wr fun k4 fi => O_y rfl (Y_field fo119_1 rfl) <| O_y rfl (Yb 0 ag118 hs rfl rfl rfl) ?_)))
           have hs := hs.front 13 rfl
           have hs := hs.front 15 rfl
           obtain ⟨bl, co, H⟩ := bnd H
           refine O_callv rfl rfl rfl (book_Check_13_ion.c hs ay az a0 a1 a2 a3 a4 a5 a6 a7 a8 co) (fun k5 w hpost => ?_)
           obtain ⟨rfl, hs⟩ := hpost
           have hs := hs.sink 15
           have hs := hs.sink 13
           refine Oa rfl rfl <| O_nil (fi _ _ <| Wr fun k6 fj => Om rfl rfl <| O_y rfl (Y_geq rfl rfl) <| O_nil (fj _ _ <| W_if rfl (fun cc => ?_) (fun cc => ?_)))
           ·rw [if_pos cc] at H
            refine Wr fun k7 fk => O_y rfl (Y_field fo119_0 rfl) <| O_y rfl (Yb 0 ag3 hs rfl rfl rfl) <| Om rfl rfl <| O_y rfl (Y_build (cs := [.int .i64 10, .int .i64 bl]) zr85 pl85 ((Parts.cons rfl rfl (Parts.cons rfl rfl Parts.nil))) ag85 (by kernel_rfl)) <| O_storeN (i := 14) sz85 hs rfl rfl rfl rfl rfl (one_cons rfl (one_cons rfl one_nil)) (fun w hs => Oa rfl rfl <| O_nil (fk _ _ <| W.weak [(2, _), (3, _)] (S2 rfl rfl) <| W_ret ?_))
            obtain rfl := sinj H
            exact retc1 (i := 14) rfl rfl rfl ag85 sz85 hs rfl rfl ⟨_, _, rfl, Le.rfl' _, (hs.sub (ssk (ssk (ssk (ssk (ssk (ssk (ssk (ssk (ssk (ssk (ssk (ssk (ssk (ssk (ssk (ssk ssr))))))))))))))))), rfl⟩
           ·rw [if_neg cc] at H
            refine W_skip (fg _ _ <| W_region <| O_y rfl (Y_to (v' := .int .i64 10) (Y_add rfl rfl) (by kernel_rfl)) <| Om rfl rfl <| O_nil (fd _ _ <| WL.weak [(2, _), (36, _), (37, _), (38, _)] (S4 rfl rfl rfl rfl) ?_))
            have hs : St w0 ρ ((.box cb 119 ([.int .i64 10, .func (.func 77) #[] #[.pointer (some ⟨aa, 0, none⟩), .pointer (some ⟨ab, 0, none⟩)]])) :: (.box bo 119 ([.int .i64 9, .func (.func 76) #[] #[.pointer (some ⟨aa, 0, none⟩), .pointer (some ⟨ab, 0, none⟩)]])) :: (.box bb 119 ([.int .i64 8, .func (.func 74) #[] #[.pointer (some ⟨aa, 0, none⟩), .pointer (some ⟨ab, 0, none⟩)]])) :: (.box ax 119 ([.int .i64 7, .func (.func 72) #[] #[.pointer (some ⟨aa, 0, none⟩), .pointer (some ⟨ab, 0, none⟩)]])) :: (.box aj 119 ([.int .i64 6, .func (.func 69) #[] #[.pointer (some ⟨aa, 0, none⟩), .pointer (some ⟨ac, 0, none⟩)]])) :: (.box ai 119 ([.int .i64 5, .func (.func 66) #[] #[.pointer (some ⟨aa, 0, none⟩), .pointer (some ⟨ac, 0, none⟩)]])) :: (.box ah 119 ([.int .i64 4, .func (.func 65) #[] #[.pointer (some ⟨aa, 0, none⟩), .pointer (some ⟨ac, 0, none⟩)]])) :: (.box ag 119 ([.int .i64 3, .func (.func 63) #[] #[.pointer (some ⟨aa, 0, none⟩)]])) :: (.box af 119 ([.int .i64 2, .func (.func 61) #[] #[.pointer (some ⟨aa, 0, none⟩), .pointer (some ⟨ab, 0, none⟩)]])) :: (.box ae 119 ([.int .i64 1, .func (.func 59) #[] #[.pointer (some ⟨aa, 0, none⟩)]])) :: (.row (.slice (some ⟨ba, 0, none⟩) 12 12) 119 2 12 [.int .i64 1, .func (.func 59) #[] #[.pointer (some ⟨aa, 0, none⟩)], .int .i64 2, .func (.func 61) #[] #[.pointer (some ⟨aa, 0, none⟩), .pointer (some ⟨ab, 0, none⟩)], .int .i64 3, .func (.func 63) #[] #[.pointer (some ⟨aa, 0, none⟩)], .int .i64 4, .func (.func 65) #[] #[.pointer (some ⟨aa, 0, none⟩), .pointer (some ⟨ac, 0, none⟩)], .int .i64 5, .func (.func 66) #[] #[.pointer (some ⟨aa, 0, none⟩), .pointer (some ⟨ac, 0, none⟩)], .int .i64 6, .func (.func 69) #[] #[.pointer (some ⟨aa, 0, none⟩), .pointer (some ⟨ac, 0, none⟩)], .int .i64 7, .func (.func 72) #[] #[.pointer (some ⟨aa, 0, none⟩), .pointer (some ⟨ab, 0, none⟩)], .int .i64 8, .func (.func 74) #[] #[.pointer (some ⟨aa, 0, none⟩), .pointer (some ⟨ab, 0, none⟩)], .int .i64 9, .func (.func 76) #[] #[.pointer (some ⟨aa, 0, none⟩), .pointer (some ⟨ab, 0, none⟩)], .int .i64 10, .func (.func 77) #[] #[.pointer (some ⟨aa, 0, none⟩), .pointer (some ⟨ab, 0, none⟩)], .int .i64 11, .func (.func 78) #[] #[.pointer (some ⟨aa, 0, none⟩), .pointer (some ⟨ad, 0, none⟩)], .int .i64 5, .func (.func 79) #[] #[.pointer (some ⟨aa, 0, none⟩)]]) :: (.box ad 117 ([.func (.func 57) #[] #[]])) :: (.box ac 115 ([.func (.func 55) #[] #[]])) :: (.box ab 115 ([.func (.func 54) #[] #[]])) :: (.box a9 85 ([.int .i64 0, .int .i64 0])) :: (.box aa 27 ([ak, al, am, an, ao, ap, aq, ar, au, av, aw])) :: Γ) w := hs
            refine WL_round fun k8 fl => Wr fun k9 fm => O_y rfl (Y_to (v' := .bool true) (Y_lss rfl rfl) (by kernel_rfl)) <| O_nil (fm _ _ <| W_seq fun la fn => W_true rfl <| W_skip (fn _ _ <| W_seq fun lb fo => W_block fun lc ld le => W_seq fun lf fp => W_region ?_))
            obtain ⟨lg, b0⟩ := hs.rowBlock (j := 10) rfl (by decide)
            refine O_y rfl (Y_ixRow (j := 10) el127 hs rfl b0 rfl rfl (by decide) (by decide)) <| O_y rfl (Y_loadN ag119 sz119 rfl rfl (fun j u hu => hs.rowCell (j := 10) rfl b0 ((get_part (o := 20) (k := 2) rfl) j u hu))) <| O_alloc zr119 hs rfl (fun cp w hs => O_storeN (i := 0) sz119 hs rfl rfl rfl rfl rfl (one_cons rfl (one_cons rfl one_nil)) (fun w hs => O_nil (fp _ _ <| Wr fun lh fq => O_y rfl (Y_field fo119_1 rfl) <| O_y rfl (Yb 0 ag118 hs rfl rfl rfl) ?_)))
            have hs := hs.front 12 rfl
            have hs := hs.front 16 rfl
            obtain ⟨bm, cq, H⟩ := bnd H
            refine O_callv rfl rfl rfl (book_Check_14_gdi.c hs ay az a0 a1 a2 a3 a4 a5 a6 a7 a8 cq) (fun li w hpost => ?_)
            obtain ⟨rfl, hs⟩ := hpost
            have hs := hs.sink 16
            have hs := hs.sink 12
            refine Oa rfl rfl <| O_nil (fq _ _ <| Wr fun lj fr => Om rfl rfl <| O_y rfl (Y_geq rfl rfl) <| O_nil (fr _ _ <| W_if rfl (fun cd => ?_) (fun cd => ?_)))
            ·rw [if_pos cd] at H
             refine Wr fun lk fs => O_y rfl (Y_field fo119_0 rfl) <| O_y rfl (Yb 0 ag3 hs rfl rfl rfl) <| Om rfl rfl <| O_y rfl (Y_build (cs := [.int .i64 11, .int .i64 bm]) zr85 pl85 ((Parts.cons rfl rfl (Parts.cons rfl rfl Parts.nil))) ag85 (by kernel_rfl)) <| O_storeN (i := 15) sz85 hs rfl rfl rfl rfl rfl (one_cons rfl (one_cons rfl one_nil)) (fun w hs => Oa rfl rfl <| O_nil (fs _ _ <| W.weak [(2, _), (3, _)] (S2 rfl rfl) <| W_ret ?_))
             obtain rfl := sinj H
             exact retc1 (i := 15) rfl rfl rfl ag85 sz85 hs rfl rfl ⟨_, _, rfl, Le.rfl' _, (hs.sub (ssk (ssk (ssk (ssk (ssk (ssk (ssk (ssk (ssk (ssk (ssk (ssk (ssk (ssk (ssk (ssk (ssk ssr)))))))))))))))))), rfl⟩
            ·rw [if_neg cd] at H
             refine W_skip (fo _ _ <| W_region <| O_y rfl (Y_to (v' := .int .i64 11) (Y_add rfl rfl) (by kernel_rfl)) <| Om rfl rfl <| O_nil (fl _ _ <| WL.weak [(2, _), (36, _), (37, _), (38, _)] (S4 rfl rfl rfl rfl) ?_))
             have hs : St w0 ρ ((.box cp 119 ([.int .i64 11, .func (.func 78) #[] #[.pointer (some ⟨aa, 0, none⟩), .pointer (some ⟨ad, 0, none⟩)]])) :: (.box cb 119 ([.int .i64 10, .func (.func 77) #[] #[.pointer (some ⟨aa, 0, none⟩), .pointer (some ⟨ab, 0, none⟩)]])) :: (.box bo 119 ([.int .i64 9, .func (.func 76) #[] #[.pointer (some ⟨aa, 0, none⟩), .pointer (some ⟨ab, 0, none⟩)]])) :: (.box bb 119 ([.int .i64 8, .func (.func 74) #[] #[.pointer (some ⟨aa, 0, none⟩), .pointer (some ⟨ab, 0, none⟩)]])) :: (.box ax 119 ([.int .i64 7, .func (.func 72) #[] #[.pointer (some ⟨aa, 0, none⟩), .pointer (some ⟨ab, 0, none⟩)]])) :: (.box aj 119 ([.int .i64 6, .func (.func 69) #[] #[.pointer (some ⟨aa, 0, none⟩), .pointer (some ⟨ac, 0, none⟩)]])) :: (.box ai 119 ([.int .i64 5, .func (.func 66) #[] #[.pointer (some ⟨aa, 0, none⟩), .pointer (some ⟨ac, 0, none⟩)]])) :: (.box ah 119 ([.int .i64 4, .func (.func 65) #[] #[.pointer (some ⟨aa, 0, none⟩), .pointer (some ⟨ac, 0, none⟩)]])) :: (.box ag 119 ([.int .i64 3, .func (.func 63) #[] #[.pointer (some ⟨aa, 0, none⟩)]])) :: (.box af 119 ([.int .i64 2, .func (.func 61) #[] #[.pointer (some ⟨aa, 0, none⟩), .pointer (some ⟨ab, 0, none⟩)]])) :: (.box ae 119 ([.int .i64 1, .func (.func 59) #[] #[.pointer (some ⟨aa, 0, none⟩)]])) :: (.row (.slice (some ⟨ba, 0, none⟩) 12 12) 119 2 12 [.int .i64 1, .func (.func 59) #[] #[.pointer (some ⟨aa, 0, none⟩)], .int .i64 2, .func (.func 61) #[] #[.pointer (some ⟨aa, 0, none⟩), .pointer (some ⟨ab, 0, none⟩)], .int .i64 3, .func (.func 63) #[] #[.pointer (some ⟨aa, 0, none⟩)], .int .i64 4, .func (.func 65) #[] #[.pointer (some ⟨aa, 0, none⟩), .pointer (some ⟨ac, 0, none⟩)], .int .i64 5, .func (.func 66) #[] #[.pointer (some ⟨aa, 0, none⟩), .pointer (some ⟨ac, 0, none⟩)], .int .i64 6, .func (.func 69) #[] #[.pointer (some ⟨aa, 0, none⟩), .pointer (some ⟨ac, 0, none⟩)], .int .i64 7, .func (.func 72) #[] #[.pointer (some ⟨aa, 0, none⟩), .pointer (some ⟨ab, 0, none⟩)], .int .i64 8, .func (.func 74) #[] #[.pointer (some ⟨aa, 0, none⟩), .pointer (some ⟨ab, 0, none⟩)], .int .i64 9, .func (.func 76) #[] #[.pointer (some ⟨aa, 0, none⟩), .pointer (some ⟨ab, 0, none⟩)], .int .i64 10, .func (.func 77) #[] #[.pointer (some ⟨aa, 0, none⟩), .pointer (some ⟨ab, 0, none⟩)], .int .i64 11, .func (.func 78) #[] #[.pointer (some ⟨aa, 0, none⟩), .pointer (some ⟨ad, 0, none⟩)], .int .i64 5, .func (.func 79) #[] #[.pointer (some ⟨aa, 0, none⟩)]]) :: (.box ad 117 ([.func (.func 57) #[] #[]])) :: (.box ac 115 ([.func (.func 55) #[] #[]])) :: (.box ab 115 ([.func (.func 54) #[] #[]])) :: (.box a9 85 ([.int .i64 0, .int .i64 0])) :: (.box aa 27 ([ak, al, am, an, ao, ap, aq, ar, au, av, aw])) :: Γ) w := hs
             refine WL_round fun ll ft => Wr fun lm fu => O_y rfl (Y_to (v' := .bool true) (Y_lss rfl rfl) (by kernel_rfl)) <| O_nil (fu _ _ <| W_seq fun ln fv => W_true rfl <| W_skip (fv _ _ <| W_seq fun lo fw => W_block fun lp lq lr => W_seq fun ls fx => W_region ?_))
             obtain ⟨lt, b1⟩ := hs.rowBlock (j := 11) rfl (by decide)
             refine O_y rfl (Y_ixRow (j := 11) el127 hs rfl b1 rfl rfl (by decide) (by decide)) <| O_y rfl (Y_loadN ag119 sz119 rfl rfl (fun j u hu => hs.rowCell (j := 11) rfl b1 ((get_part (o := 22) (k := 2) rfl) j u hu))) <| O_alloc zr119 hs rfl (fun fy w hs => O_storeN (i := 0) sz119 hs rfl rfl rfl rfl rfl (one_cons rfl (one_cons rfl one_nil)) (fun w hs => O_nil (fx _ _ <| Wr fun lu fz => O_y rfl (Y_field fo119_1 rfl) <| O_y rfl (Yb 0 ag118 hs rfl rfl rfl) ?_)))
             have hs := hs.front 17 rfl
             obtain ⟨bn, cr, H⟩ := bnd H
             refine O_callv rfl rfl rfl (book_Check_15_mae.c hs ay az a0 a1 a2 a3 a4 a5 a6 a7 a8 cr) (fun lv w hpost => ?_)
             obtain ⟨rfl, hs⟩ := hpost
             have hs := hs.sink 17
             refine Oa rfl rfl <| O_nil (fz _ _ <| Wr fun lw ga => Om rfl rfl <| O_y rfl (Y_geq rfl rfl) <| O_nil (ga _ _ <| W_if rfl (fun ce => ?_) (fun ce => ?_)))
             ·rw [if_pos ce] at H
              refine Wr fun lx gb => O_y rfl (Y_field fo119_0 rfl) <| O_y rfl (Yb 0 ag3 hs rfl rfl rfl) <| Om rfl rfl <| O_y rfl (Y_build (cs := [.int .i64 5, .int .i64 bn]) zr85 pl85 ((Parts.cons rfl rfl (Parts.cons rfl rfl Parts.nil))) ag85 (by kernel_rfl)) <| O_storeN (i := 16) sz85 hs rfl rfl rfl rfl rfl (one_cons rfl (one_cons rfl one_nil)) (fun w hs => Oa rfl rfl <| O_nil (gb _ _ <| W.weak [(2, _), (3, _)] (S2 rfl rfl) <| W_ret ?_))
              obtain rfl := sinj H
              exact retc1 (i := 16) rfl rfl rfl ag85 sz85 hs rfl rfl ⟨_, _, rfl, Le.rfl' _, (hs.sub (ssk (ssk (ssk (ssk (ssk (ssk (ssk (ssk (ssk (ssk (ssk (ssk (ssk (ssk (ssk (ssk (ssk (ssk ssr))))))))))))))))))), rfl⟩
             ·rw [if_neg ce] at H
              refine W_skip (fw _ _ <| W_region <| O_y rfl (Y_to (v' := .int .i64 12) (Y_add rfl rfl) (by kernel_rfl)) <| Om rfl rfl <| O_nil (ft _ _ <| WL.weak [(2, _), (36, _), (37, _), (38, _)] (S4 rfl rfl rfl rfl) ?_))
              have hs : St w0 ρ ((.box fy 119 ([.int .i64 5, .func (.func 79) #[] #[.pointer (some ⟨aa, 0, none⟩)]])) :: (.box cp 119 ([.int .i64 11, .func (.func 78) #[] #[.pointer (some ⟨aa, 0, none⟩), .pointer (some ⟨ad, 0, none⟩)]])) :: (.box cb 119 ([.int .i64 10, .func (.func 77) #[] #[.pointer (some ⟨aa, 0, none⟩), .pointer (some ⟨ab, 0, none⟩)]])) :: (.box bo 119 ([.int .i64 9, .func (.func 76) #[] #[.pointer (some ⟨aa, 0, none⟩), .pointer (some ⟨ab, 0, none⟩)]])) :: (.box bb 119 ([.int .i64 8, .func (.func 74) #[] #[.pointer (some ⟨aa, 0, none⟩), .pointer (some ⟨ab, 0, none⟩)]])) :: (.box ax 119 ([.int .i64 7, .func (.func 72) #[] #[.pointer (some ⟨aa, 0, none⟩), .pointer (some ⟨ab, 0, none⟩)]])) :: (.box aj 119 ([.int .i64 6, .func (.func 69) #[] #[.pointer (some ⟨aa, 0, none⟩), .pointer (some ⟨ac, 0, none⟩)]])) :: (.box ai 119 ([.int .i64 5, .func (.func 66) #[] #[.pointer (some ⟨aa, 0, none⟩), .pointer (some ⟨ac, 0, none⟩)]])) :: (.box ah 119 ([.int .i64 4, .func (.func 65) #[] #[.pointer (some ⟨aa, 0, none⟩), .pointer (some ⟨ac, 0, none⟩)]])) :: (.box ag 119 ([.int .i64 3, .func (.func 63) #[] #[.pointer (some ⟨aa, 0, none⟩)]])) :: (.box af 119 ([.int .i64 2, .func (.func 61) #[] #[.pointer (some ⟨aa, 0, none⟩), .pointer (some ⟨ab, 0, none⟩)]])) :: (.box ae 119 ([.int .i64 1, .func (.func 59) #[] #[.pointer (some ⟨aa, 0, none⟩)]])) :: (.row (.slice (some ⟨ba, 0, none⟩) 12 12) 119 2 12 [.int .i64 1, .func (.func 59) #[] #[.pointer (some ⟨aa, 0, none⟩)], .int .i64 2, .func (.func 61) #[] #[.pointer (some ⟨aa, 0, none⟩), .pointer (some ⟨ab, 0, none⟩)], .int .i64 3, .func (.func 63) #[] #[.pointer (some ⟨aa, 0, none⟩)], .int .i64 4, .func (.func 65) #[] #[.pointer (some ⟨aa, 0, none⟩), .pointer (some ⟨ac, 0, none⟩)], .int .i64 5, .func (.func 66) #[] #[.pointer (some ⟨aa, 0, none⟩), .pointer (some ⟨ac, 0, none⟩)], .int .i64 6, .func (.func 69) #[] #[.pointer (some ⟨aa, 0, none⟩), .pointer (some ⟨ac, 0, none⟩)], .int .i64 7, .func (.func 72) #[] #[.pointer (some ⟨aa, 0, none⟩), .pointer (some ⟨ab, 0, none⟩)], .int .i64 8, .func (.func 74) #[] #[.pointer (some ⟨aa, 0, none⟩), .pointer (some ⟨ab, 0, none⟩)], .int .i64 9, .func (.func 76) #[] #[.pointer (some ⟨aa, 0, none⟩), .pointer (some ⟨ab, 0, none⟩)], .int .i64 10, .func (.func 77) #[] #[.pointer (some ⟨aa, 0, none⟩), .pointer (some ⟨ab, 0, none⟩)], .int .i64 11, .func (.func 78) #[] #[.pointer (some ⟨aa, 0, none⟩), .pointer (some ⟨ad, 0, none⟩)], .int .i64 5, .func (.func 79) #[] #[.pointer (some ⟨aa, 0, none⟩)]]) :: (.box ad 117 ([.func (.func 57) #[] #[]])) :: (.box ac 115 ([.func (.func 55) #[] #[]])) :: (.box ab 115 ([.func (.func 54) #[] #[]])) :: (.box a9 85 ([.int .i64 0, .int .i64 0])) :: (.box aa 27 ([ak, al, am, an, ao, ap, aq, ar, au, av, aw])) :: Γ) w := hs
              refine WL_round fun ly lz => Wr fun l0 gc => O_y rfl (Y_to (v' := .bool false) (Y_lss rfl rfl) (by kernel_rfl)) <| O_nil (gc _ _ <| W_seq fun l1 l2 => W_false rfl <| W_exit (gm _ _ (gk _ _ <| Wr fun l3 gd => O_y rfl (Y_build (cs := [.int .i64 0, .int .i64 0]) zr85 pl85 (Parts.nil) ag85 (by kernel_rfl)) <| O_storeN (i := 16) sz85 hs rfl rfl rfl rfl rfl (one_cons rfl (one_cons rfl one_nil)) (fun w hs => Oa rfl rfl <| O_nil (gd _ _ ?_)))))
              refine W_ret ?_
              obtain rfl := sinj H
              exact retc1 (i := 16) rfl rfl rfl ag85 sz85 hs rfl rfl ⟨_, _, rfl, Le.rfl' _, (hs.sub (ssk (ssk (ssk (ssk (ssk (ssk (ssk (ssk (ssk (ssk (ssk (ssk (ssk (ssk (ssk (ssk (ssk (ssk ssr))))))))))))))))))), rfl⟩

def slices_Clone_string_string.f (x0 : List ByteArray) : Option (List ByteArray) := if ([] : List ByteArray).length + x0.length ≤ most then (some (([] : List ByteArray) ++ x0)) else none
theorem slices_Clone_string_string.c {w0 w : World} {ρ : Hp} {Γ : List Item} (hs : St w0 ρ Γ w) {v0 : Value} {x0 : List ByteArray} (h0 : SlR Rep.str ρ v0 x0) {r : List ByteArray} (H : slices_Clone_string_string.f x0 = some r) : CallsR Tryz.prog 81 [v0] w (fun v w' => ∃ (ρ' : Hp) (v0 : Value) (cs0 : List Value), v = v0 ∧ Le ρ ρ' ∧ St w0 ρ' (.row v0 9 Rep.str.sz r.length cs0 :: Γ) w' ∧ RowR Rep.str ρ' cs0 r) := by
  rw [slices_Clone_string_string.f] at H
  refine enter Tryz.func81 Tryz.ntmps81 rfl (by kernel_rfl) rfl <| Wr fun an af => Oa rfl rfl <| O_nil (af _ _ <| W_seq fun ao ag => Wr fun ap ae => Om rfl rfl ?_)
  obtain ⟨ad, c, rfl⟩ := h0.shape
  cases ad with
  | none =>
    obtain rfl : x0 = [] := h0.nilEmpty
    refine O_y rfl (Y_eqlsl un22 rfl rfl) <| O_nil (ae _ _ <| W_true rfl <| Wr fun ah aa => Oa rfl rfl <| O_nil (aa _ _ <| W_ret ?_))
    rw [if_pos (by decide)] at H
    obtain rfl := sinj H
    have hs := hs.rowNil 9 Rep.str.sz
    exact ret1 rfl rfl ⟨_, _, _, rfl, Le.rfl' _, hs, RowR.nil _ _⟩
  | some ad =>
    refine O_y rfl (Y_eqlsl un22 rfl rfl) <| O_nil (ae _ _ <| W_false rfl <| W_skip (ag _ _ <| Wr fun ah aa => O_lit (xs := []) el22 hs rfl rfl rfl (by decide) (by decide) rfl sz_nil (fun aq w hs => ?_)))
    have ai : RowR Rep.str ρ [] ([] : List ByteArray) := RowR.nil _ _
    refine Om rfl rfl ?_
    obtain ⟨aj, ab, ac⟩ := Src.sl hs h0
    obtain ⟨ak, H⟩ := gd H
    refine O_appendR (i := 0) el22 hs rfl ai rfl rfl rfl ab ac ak (fun ar al w am hs => Oa rfl rfl <| O_nil (aa _ _ <| W_ret ?_))
    obtain rfl := sinj H
    exact ret1 rfl rfl ⟨_, _, _, rfl, Le.rfl' _, hs, am⟩

def slices_Clone_api_Value_api_Value.f (x0 : List Val) : Option (List Val) := if ([] : List Val).length + x0.length ≤ most then (some (([] : List Val) ++ x0)) else none
theorem slices_Clone_api_Value_api_Value.c {w0 w : World} {ρ : Hp} {Γ : List Item} (hs : St w0 ρ Γ w) {v0 : Value} {x0 : List Val} (h0 : SlR rVal ρ v0 x0) {r : List Val} (H : slices_Clone_api_Value_api_Value.f x0 = some r) : CallsR Tryz.prog 82 [v0] w (fun v w' => ∃ (ρ' : Hp) (v0 : Value) (cs0 : List Value), v = v0 ∧ Le ρ ρ' ∧ St w0 ρ' (.row v0 108 rVal.sz r.length cs0 :: Γ) w' ∧ RowR rVal ρ' cs0 r) := by
  rw [slices_Clone_api_Value_api_Value.f] at H
  refine enter Tryz.func82 Tryz.ntmps82 rfl (by kernel_rfl) rfl <| Wr fun an af => Oa rfl rfl <| O_nil (af _ _ <| W_seq fun ao ag => Wr fun ap ae => Om rfl rfl ?_)
  obtain ⟨ad, c, rfl⟩ := h0.shape
  cases ad with
  | none =>
    obtain rfl : x0 = [] := h0.nilEmpty
    refine O_y rfl (Y_eqlsl un23 rfl rfl) <| O_nil (ae _ _ <| W_true rfl <| Wr fun ah aa => Oa rfl rfl <| O_nil (aa _ _ <| W_ret ?_))
    rw [if_pos (by decide)] at H
    obtain rfl := sinj H
    have hs := hs.rowNil 108 rVal.sz
    exact ret1 rfl rfl ⟨_, _, _, rfl, Le.rfl' _, hs, RowR.nil _ _⟩
  | some ad =>
    refine O_y rfl (Y_eqlsl un23 rfl rfl) <| O_nil (ae _ _ <| W_false rfl <| W_skip (ag _ _ <| Wr fun ah aa => O_lit (xs := []) el23 hs rfl rfl rfl (by decide) (by decide) rfl sz_nil (fun aq w hs => ?_)))
    have ai : RowR rVal ρ [] ([] : List Val) := RowR.nil _ _
    refine Om rfl rfl ?_
    obtain ⟨aj, ab, ac⟩ := Src.sl hs h0
    obtain ⟨ak, H⟩ := gd H
    refine O_appendR (i := 0) el23 hs rfl ai rfl rfl rfl ab ac ak (fun ar al w am hs => Oa rfl rfl <| O_nil (aa _ _ <| W_ret ?_))
    obtain rfl := sinj H
    exact ret1 rfl rfl ⟨_, _, _, rfl, Le.rfl' _, hs, am⟩

def slices_Clone_api_Chars_api_Chars.f (x0 : List Chs) : Option (List Chs) := if ([] : List Chs).length + x0.length ≤ most then (some (([] : List Chs) ++ x0)) else none
theorem slices_Clone_api_Chars_api_Chars.c {w0 w : World} {ρ : Hp} {Γ : List Item} (hs : St w0 ρ Γ w) {v0 : Value} {x0 : List Chs} (h0 : SlR rChs ρ v0 x0) {r : List Chs} (H : slices_Clone_api_Chars_api_Chars.f x0 = some r) : CallsR Tryz.prog 103 [v0] w (fun v w' => ∃ (ρ' : Hp) (v0 : Value) (cs0 : List Value), v = v0 ∧ Le ρ ρ' ∧ St w0 ρ' (.row v0 94 rChs.sz r.length cs0 :: Γ) w' ∧ RowR rChs ρ' cs0 r) := by
  rw [slices_Clone_api_Chars_api_Chars.f] at H
  refine enter Tryz.func103 Tryz.ntmps103 rfl (by kernel_rfl) rfl <| Wr fun an af => Oa rfl rfl <| O_nil (af _ _ <| W_seq fun ao ag => Wr fun ap ae => Om rfl rfl ?_)
  obtain ⟨ad, c, rfl⟩ := h0.shape
  cases ad with
  | none =>
    obtain rfl : x0 = [] := h0.nilEmpty
    refine O_y rfl (Y_eqlsl un24 rfl rfl) <| O_nil (ae _ _ <| W_true rfl <| Wr fun ah aa => Oa rfl rfl <| O_nil (aa _ _ <| W_ret ?_))
    rw [if_pos (by decide)] at H
    obtain rfl := sinj H
    have hs := hs.rowNil 94 rChs.sz
    exact ret1 rfl rfl ⟨_, _, _, rfl, Le.rfl' _, hs, RowR.nil _ _⟩
  | some ad =>
    refine O_y rfl (Y_eqlsl un24 rfl rfl) <| O_nil (ae _ _ <| W_false rfl <| W_skip (ag _ _ <| Wr fun ah aa => O_lit (xs := []) el24 hs rfl rfl rfl (by decide) (by decide) rfl sz_nil (fun aq w hs => ?_)))
    have ai : RowR rChs ρ [] ([] : List Chs) := RowR.nil _ _
    refine Om rfl rfl ?_
    obtain ⟨aj, ab, ac⟩ := Src.sl hs h0
    obtain ⟨ak, H⟩ := gd H
    refine O_appendR (i := 0) el24 hs rfl ai rfl rfl rfl ab ac ak (fun ar al w am hs => Oa rfl rfl <| O_nil (aa _ _ <| W_ret ?_))
    obtain rfl := sinj H
    exact ret1 rfl rfl ⟨_, _, _, rfl, Le.rfl' _, hs, am⟩

def slices_Clone_rune_rune.f (x0 : List Int) : Option (List Int) := if ([] : List Int).length + x0.length ≤ most then (some (([] : List Int) ++ x0)) else none
theorem slices_Clone_rune_rune.c {w0 w : World} {ρ : Hp} {Γ : List Item} (hs : St w0 ρ Γ w) {v0 : Value} {x0 : List Int} (h0 : SlR (Rep.int .i32) ρ v0 x0) {r : List Int} (H : slices_Clone_rune_rune.f x0 = some r) : CallsR Tryz.prog 20 [v0] w (fun v w' => ∃ (ρ' : Hp) (v0 : Value) (cs0 : List Value), v = v0 ∧ Le ρ ρ' ∧ St w0 ρ' (.row v0 21 (Rep.int .i32).sz r.length cs0 :: Γ) w' ∧ RowR (Rep.int .i32) ρ' cs0 r) := by
  rw [slices_Clone_rune_rune.f] at H
  refine enter Tryz.func20 Tryz.ntmps20 rfl (by kernel_rfl) rfl <| Wr fun an af => Oa rfl rfl <| O_nil (af _ _ <| W_seq fun ao ag => Wr fun ap ae => Om rfl rfl ?_)
  obtain ⟨ad, c, rfl⟩ := h0.shape
  cases ad with
  | none =>
    obtain rfl : x0 = [] := h0.nilEmpty
    refine O_y rfl (Y_eqlsl un28 rfl rfl) <| O_nil (ae _ _ <| W_true rfl <| Wr fun ah aa => Oa rfl rfl <| O_nil (aa _ _ <| W_ret ?_))
    rw [if_pos (by decide)] at H
    obtain rfl := sinj H
    have hs := hs.rowNil 21 (Rep.int .i32).sz
    exact ret1 rfl rfl ⟨_, _, _, rfl, Le.rfl' _, hs, RowR.nil _ _⟩
  | some ad =>
    refine O_y rfl (Y_eqlsl un28 rfl rfl) <| O_nil (ae _ _ <| W_false rfl <| W_skip (ag _ _ <| Wr fun ah aa => O_lit (xs := []) el28 hs rfl rfl rfl (by decide) (by decide) rfl sz_nil (fun aq w hs => ?_)))
    have ai : RowR (Rep.int .i32) ρ [] ([] : List Int) := RowR.nil _ _
    refine Om rfl rfl ?_
    obtain ⟨aj, ab, ac⟩ := Src.sl hs h0
    obtain ⟨ak, H⟩ := gd H
    refine O_appendR (i := 0) el28 hs rfl ai rfl rfl rfl ab ac ak (fun ar al w am hs => Oa rfl rfl <| O_nil (aa _ _ <| W_ret ?_))
    obtain rfl := sinj H
    exact ret1 rfl rfl ⟨_, _, _, rfl, Le.rfl' _, hs, am⟩

def book_own.l1 : Nat → List Chs → List Chs → Int → Option (List Chs)
  | 0, _, _, _ => none
  | af + 1, aj, aa, ab => if ab < (aj.length : Int) then (if (0 : Int) ≤ ab ∧ ab < (aa.length : Int) then ((slices_Clone_rune_rune.f ((rd aa ab).is_)).bind fun ar => ((book_own.l1 af aj) (aa.set ab.toNat ({ (rd aa ab) with is_ := ar } : Chs)) (IntKind.i64.wrap (ab + 1)))) else none) else (some aa)
def book_own.f (x0 : List Chs) : Option (List Chs) := (slices_Clone_api_Chars_api_Chars.f x0).bind fun aj => (book_own.l1 K0 aj aj 0)
theorem book_own.c {w0 w : World} {ρ : Hp} {Γ : List Item} (hs : St w0 ρ (Γ) w) {v0 : Value} {x0 : List Chs} (h0 : SlR rChs ρ v0 x0) {r : List Chs} (H : book_own.f x0 = some r) : CallsR Tryz.prog 83 [v0] w (fun v w' => ∃ (ρ' : Hp) (v0 : Value) (cs0 : List Value), v = v0 ∧ Le ρ ρ' ∧ St w0 ρ' (.row v0 94 rChs.sz r.length cs0 :: Γ) w' ∧ RowR rChs ρ' cs0 r) := by
  rw [book_own.f] at H
  refine enter Tryz.func83 Tryz.ntmps83 rfl (by kernel_rfl) rfl <| Wr fun bo a5 => Oa rfl rfl <| O_nil (a5 _ _ <| Wr fun bp a6 => Om rfl rfl ?_)
  obtain ⟨aj, au, H⟩ := bnd H
  refine O_call rfl rfl (slices_Clone_api_Chars_api_Chars.c hs h0 au) (fun a7 w hpost => ?_)
  obtain ⟨a3, bq, av, rfl, aw, hs, a8⟩ := hpost
  refine Oa rfl rfl <| O_nil (a6 _ _ <| W_seq fun br a9 => Wr fun bs ba => Om rfl rfl <| O_y rfl (Y_lenRow (i := 0) un24 hs rfl rfl) <| Om rfl rfl <| O_nil (ba _ _ <| W_block fun bt bb bu => W_loop (σ := Nat × List Chs × Int × Value × List Value × Hp) (fun (af, aa, ab, ac, ad, ah) => [(3, ac), (8, .int .i64 (aj.length : Int)), (9, .int .i64 ab)]) (fun (af, aa, ab, ac, ad, ah) w => book_own.l1 af aj aa ab = some r ∧ Le a3 ah ∧ St w0 ah ((.row ac 94 rChs.sz aa.length ad) :: Γ) w ∧ RowR rChs ah ad aa) (fun s => s.1) (K0, aj, 0, a7, av, a3) (S3 rfl rfl rfl) (Ai H (Ai (Le.rfl' _) (Ai hs a8))) ?_))
  rintro ⟨af, aa, ab, ac, ad, ah⟩ w bv ⟨H, ak, hs, ae⟩ an
  show W _ _ _ _ _ _ [(3, ac), (8, .int .i64 (aj.length : Int)), (9, .int .i64 ab)] w
  cases af with
  | zero => rw [book_own.l1] at H; cases H
  | succ af =>
  rw [book_own.l1] at H
  refine Wr fun bw bc => O_y rfl (Y_lss rfl rfl) <| O_nil (bc _ _ <| W_seq fun bx bd => W_if rfl (fun ax => ?_) (fun ax => ?_))
  ·rw [if_pos ax] at H
   refine W_skip (bd _ _ <| W_seq fun bz be => W_block fun b0 b1 b2 => Wr fun b3 bf => Om rfl rfl <| Oa rfl rfl <| O_nil (bf _ _ <| W_region <| Om rfl rfl <| Om rfl rfl <| Om rfl rfl <| Om rfl rfl ?_))
   obtain ⟨ag, H⟩ := gd H
   obtain ⟨b4, ao⟩ := hs.rowBlock (j := 0) rfl (by have := ag.2; omega)
   obtain ⟨_, ⟨b5, rfl, bg⟩, ay⟩ := ae.at ag.1 ag.2
   refine O_y rfl (Y_ixRow (j := 0) el24 hs rfl ao rfl rfl ag.1 ag.2) <| O_y rfl (Y_field fo94_2 rfl) <| O_y rfl (Y_load ag28 rfl (hs.rowCell (j := 0) rfl ao (ay 2 _ rfl))) ?_
   obtain ⟨ar, az, H⟩ := bnd H
   refine O_call rfl rfl (slices_Clone_rune_rune.c hs bg az) (fun b6 w hpost => ?_)
   obtain ⟨bh, b7, bi, rfl, ai, hs, bj⟩ := hpost
   obtain ⟨bk, al⟩ := hs.rowBlock (j := 1) rfl (by have := ag.2; omega)
   obtain ⟨_, ⟨bl, rfl, bm⟩, a4⟩ := (ae.mono ai).at ag.1 ag.2
   refine O_y rfl (Y_ixRow (j := 1) el24 hs rfl al rfl rfl ag.1 ag.2) <| O_y rfl (Y_field fo94_2 rfl) ?_
   obtain ⟨a0, am, hs, ap⟩ := hs.rowEnd (j := 0) bj rfl
   refine O_storeRowF (j := 0) (off := 2) (z := ({ (rd aa ab) with is_ := ar } : Chs)) sz28 hs rfl al ag.1 ag.2 (by decide) (ae.mono (ai.trans am)) rfl rfl ap.one (fun c h => by obtain ⟨v_2, rfl, f_2⟩ := h; exact ⟨_, rfl, ap⟩) (fun aq w a1 hs => O_nil (be _ _ <| W.weak [(3, _), (8, _), (9, _)] (S3 rfl rfl rfl) <| W_region <| O_y rfl (Y_add rfl rfl) <| Om rfl rfl <| O_nil (an (af, (aa.set ab.toNat ({ (rd aa ab) with is_ := ar } : Chs)), (IntKind.i64.wrap (ab + 1)), ac, aq, a0) _ _ (S3 rfl rfl rfl) (Ai H (Ai ((ak.trans ai).trans am) (Ai hs a1))) (Nat.lt_succ_self _))))
  ·rw [if_neg ax] at H
   refine W_exit (bb _ _ (a9 _ _ <| Wr fun bn a2 => Om rfl rfl <| Oa rfl rfl <| O_nil (a2 _ _ <| W_ret ?_)))
   obtain rfl := sinj H
   exact ret1 rfl rfl ⟨_, _, _, rfl, (aw.trans ak), hs, ae⟩

def slices_Clone_api_Span_api_Span.f (x0 : List Spn) : Option (List Spn) := if ([] : List Spn).length + x0.length ≤ most then (some (([] : List Spn) ++ x0)) else none
theorem slices_Clone_api_Span_api_Span.c {w0 w : World} {ρ : Hp} {Γ : List Item} (hs : St w0 ρ Γ w) {v0 : Value} {x0 : List Spn} (h0 : SlR rSpn ρ v0 x0) {r : List Spn} (H : slices_Clone_api_Span_api_Span.f x0 = some r) : CallsR Tryz.prog 84 [v0] w (fun v w' => ∃ (ρ' : Hp) (v0 : Value) (cs0 : List Value), v = v0 ∧ Le ρ ρ' ∧ St w0 ρ' (.row v0 110 rSpn.sz r.length cs0 :: Γ) w' ∧ RowR rSpn ρ' cs0 r) := by
  rw [slices_Clone_api_Span_api_Span.f] at H
  refine enter Tryz.func84 Tryz.ntmps84 rfl (by kernel_rfl) rfl <| Wr fun an af => Oa rfl rfl <| O_nil (af _ _ <| W_seq fun ao ag => Wr fun ap ae => Om rfl rfl ?_)
  obtain ⟨ad, c, rfl⟩ := h0.shape
  cases ad with
  | none =>
    obtain rfl : x0 = [] := h0.nilEmpty
    refine O_y rfl (Y_eqlsl un25 rfl rfl) <| O_nil (ae _ _ <| W_true rfl <| Wr fun ah aa => Oa rfl rfl <| O_nil (aa _ _ <| W_ret ?_))
    rw [if_pos (by decide)] at H
    obtain rfl := sinj H
    have hs := hs.rowNil 110 rSpn.sz
    exact ret1 rfl rfl ⟨_, _, _, rfl, Le.rfl' _, hs, RowR.nil _ _⟩
  | some ad =>
    refine O_y rfl (Y_eqlsl un25 rfl rfl) <| O_nil (ae _ _ <| W_false rfl <| W_skip (ag _ _ <| Wr fun ah aa => O_lit (xs := []) el25 hs rfl rfl rfl (by decide) (by decide) rfl sz_nil (fun aq w hs => ?_)))
    have ai : RowR rSpn ρ [] ([] : List Spn) := RowR.nil _ _
    refine Om rfl rfl ?_
    obtain ⟨aj, ab, ac⟩ := Src.sl hs h0
    obtain ⟨ak, H⟩ := gd H
    refine O_appendR (i := 0) el25 hs rfl ai rfl rfl rfl ab ac ak (fun ar al w am hs => Oa rfl rfl <| O_nil (aa _ _ <| W_ret ?_))
    obtain rfl := sinj H
    exact ret1 rfl rfl ⟨_, _, _, rfl, Le.rfl' _, hs, am⟩

def book_copied.f (x0 : Bk) : Option Bk := (slices_Clone_string_string.f x0.names).bind fun di => ((slices_Clone_api_Value_api_Value.f x0.status).bind fun dj => ((book_own.f x0.maps).bind fun bh => ((slices_Clone_api_Value_api_Value.f x0.class_).bind fun bi => ((book_own.f x0.decomp).bind fun bj => ((slices_Clone_api_Span_api_Span.f x0.excl).bind fun bk => ((slices_Clone_api_Value_api_Value.f x0.bidi).bind fun bl => ((slices_Clone_api_Value_api_Value.f x0.join).bind fun bm => ((slices_Clone_api_Span_api_Span.f x0.marks).bind fun bn => ((slices_Clone_api_Value_api_Value.f x0.script).bind fun bo => ((book_own.f x0.like).bind fun bp => (some (⟨di, dj, bh, bi, bj, bk, bl, bm, bn, bo, bp⟩ : Bk))))))))))))
theorem book_copied.c {w0 w : World} {ρ : Hp} {Γ : List Item} (hs : St w0 ρ (Γ) w) {c0 : List Value} {x0 : Bk} (h0 : rBk.R ρ c0 x0) {r : Bk} (H : book_copied.f x0 = some r) : CallsR Tryz.prog 40 [.agg c0.toArray] w (fun v w' => ∃ (ρ' : Hp) (cs0 : List Value), v = .agg cs0.toArray ∧ Le ρ ρ' ∧ St w0 ρ' (Γ) w' ∧ rBk.R ρ' cs0 r) := by
  rw [book_copied.f] at H
  refine enter Tryz.func40 Tryz.ntmps40 rfl (by kernel_rfl) rfl ?_
  have ef := h0
  obtain ⟨dk, dl, dm, dn, dp, dq, dr, ds, dt, du, dv, rfl, eg, eh, ei, ej, ek, el, em, en, eo, ep, eq⟩ := ef
  refine Wr fun gg er => O_boxN (cs := [dk, dl, dm, dn, dp, dq, dr, ds, dt, du, dv]) hs rfl rfl (fun es w hs => O_alloc zr27 hs rfl (fun et w hs => O_nil (er _ _ <| W_seq fun gh eu => W_drawS 35 [0, 1, 2, 0, 8, 20, 0, 64, 160, 0, 512, 1280, 0, 4096, 10240, 0, 32768, 81920, 0, 262144, 655360, 0, 2097152, 5242880, 0, 16777216, 41943040, 0, 134217728, 335544320, 0, 1073741824, 2684354560, 4908534052, 17179869183] [17179869180, 17179869176, 8589934552, 17179869159, 17179869127, 8589934272, 17179868991, 17179868735, 8589932032, 17179867647, 17179865599, 8589914112, 17179856895, 17179840511, 8589770752, 17179770879, 17179639807, 8588623872, 17179082751, 17178034175, 8579448832, 17173577727, 17165189119, 8506048512, 17129537535, 17062428671, 7918845952, 16777215999, 16240345087, 3221225472, 13958643711, 9663676415, 0, 0, 0] [0, 1, 3, 0, 8, 31, 0, 64, 255, 0, 512, 2047, 0, 4096, 16383, 0, 32768, 131071, 0, 262144, 1048575, 0, 2097152, 8388607, 0, 16777216, 67108863, 0, 134217728, 536870911, 0, 1073741824, 4294967295, 8589934591, 17179869183] [34] (fun w => St w0 ρ ((.box et 27 ([.slice none 0 0, .slice none 0 0, .slice none 0 0, .slice none 0 0, .slice none 0 0, .slice none 0 0, .slice none 0 0, .slice none 0 0, .slice none 0 0, .slice none 0 0, .slice none 0 0])) :: (.box es 27 ([dk, dl, dm, dn, dp, dq, dr, ds, dt, du, dv])) :: Γ) w) mixed (by kernel_rfl) (fun sh => ?_))))
  have hs := hs.drew
  refine Dp 0 sh rfl rfl (by kernel_rfl) (fun w => Y_field fo27_0 rfl) <| Dy 1 sh rfl rfl (by kernel_rfl) hs (fun w hs => Yb 1 ag22 hs rfl rfl rfl) <| Dp 3 sh rfl rfl (by kernel_rfl) (fun w => Y_field fo27_1 rfl) <| Dy 4 sh rfl rfl (by kernel_rfl) hs (fun w hs => Yb 1 ag23 hs rfl rfl rfl) <| Dp 6 sh rfl rfl (by kernel_rfl) (fun w => Y_field fo27_2 rfl) <| Dy 7 sh rfl rfl (by kernel_rfl) hs (fun w hs => Yb 1 ag24 hs rfl rfl rfl) <| Dp 9 sh rfl rfl (by kernel_rfl) (fun w => Y_field fo27_3 rfl) <| Dy 10 sh rfl rfl (by kernel_rfl) hs (fun w hs => Yb 1 ag23 hs rfl rfl rfl) <| Dp 12 sh rfl rfl (by kernel_rfl) (fun w => Y_field fo27_4 rfl) <| Dy 13 sh rfl rfl (by kernel_rfl) hs (fun w hs => Yb 1 ag24 hs rfl rfl rfl) <| Dp 15 sh rfl rfl (by kernel_rfl) (fun w => Y_field fo27_5 rfl) <| Dy 16 sh rfl rfl (by kernel_rfl) hs (fun w hs => Yb 1 ag25 hs rfl rfl rfl) <| Dp 18 sh rfl rfl (by kernel_rfl) (fun w => Y_field fo27_6 rfl) <| Dy 19 sh rfl rfl (by kernel_rfl) hs (fun w hs => Yb 1 ag23 hs rfl rfl rfl) ?_
  refine Dp 21 sh rfl rfl (by kernel_rfl) (fun w => Y_field fo27_7 rfl) <| Dy 22 sh rfl rfl (by kernel_rfl) hs (fun w hs => Yb 1 ag23 hs rfl rfl rfl) <| Dp 24 sh rfl rfl (by kernel_rfl) (fun w => Y_field fo27_8 rfl) <| Dy 25 sh rfl rfl (by kernel_rfl) hs (fun w hs => Yb 1 ag25 hs rfl rfl rfl) <| Dp 27 sh rfl rfl (by kernel_rfl) (fun w => Y_field fo27_9 rfl) <| Dy 28 sh rfl rfl (by kernel_rfl) hs (fun w hs => Yb 1 ag23 hs rfl rfl rfl) <| Dp 30 sh rfl rfl (by kernel_rfl) (fun w => Y_field fo27_10 rfl) <| Dy 31 sh rfl rfl (by kernel_rfl) hs (fun w hs => Yb 1 ag24 hs rfl rfl rfl) <| D1 2 sh rfl (by kernel_rfl) (fun gi ev => ?_)
  obtain ⟨di, b2, H⟩ := bnd H
  refine O_call rfl rfl (slices_Clone_string_string.c hs eg b2) (fun ew w hpost => ?_)
  obtain ⟨gj, gk, ex, rfl, aw, hs, ey⟩ := hpost
  refine O_nil (ev _ _ (fun _ _ => ((hs.less aw).sub (ssk (ssc (ssc ssr))))) <| D1 5 sh rfl (by kernel_rfl) (fun gl ez => ?_))
  obtain ⟨dj, b3, H⟩ := bnd H
  refine O_call rfl rfl (slices_Clone_api_Value_api_Value.c hs (eh.mono aw) b3) (fun e0 w hpost => ?_)
  obtain ⟨gm, gn, e1, rfl, bq, hs, e2⟩ := hpost
  have ax := aw.trans bq
  refine O_nil (ez _ _ (fun _ _ => ((hs.less ax).sub (ssk (ssk (ssc (ssc ssr)))))) <| D1 8 sh rfl (by kernel_rfl) (fun e3 b4 => ?_))
  obtain ⟨bh, br, H⟩ := bnd H
  refine O_call rfl rfl (book_own.c hs (ei.mono ax) br) (fun b5 w hpost => ?_)
  obtain ⟨e4, e5, dw, rfl, av, hs, b6⟩ := hpost
  have ay := ax.trans av
  refine O_nil (b4 _ _ (fun _ _ => ((hs.less ay).sub (ssk (ssk (ssk (ssc (ssc ssr))))))) <| D1 11 sh rfl (by kernel_rfl) (fun e6 b7 => ?_))
  obtain ⟨bi, bs, H⟩ := bnd H
  refine O_call rfl rfl (slices_Clone_api_Value_api_Value.c hs (ej.mono ay) bs) (fun b8 w hpost => ?_)
  obtain ⟨e7, e8, dx, rfl, au, hs, b9⟩ := hpost
  have az := ay.trans au
  refine O_nil (b7 _ _ (fun _ _ => ((hs.less az).sub (ssk (ssk (ssk (ssk (ssc (ssc ssr)))))))) <| D1 14 sh rfl (by kernel_rfl) (fun e9 ca => ?_))
  obtain ⟨bj, bt, H⟩ := bnd H
  refine O_call rfl rfl (book_own.c hs (ek.mono az) bt) (fun cb w hpost => ?_)
  obtain ⟨fa, fb, dy, rfl, ar, hs, cc⟩ := hpost
  have a0 := az.trans ar
  refine O_nil (ca _ _ (fun _ _ => ((hs.less a0).sub (ssk (ssk (ssk (ssk (ssk (ssc (ssc ssr))))))))) <| D1 17 sh rfl (by kernel_rfl) (fun fc cd => ?_))
  obtain ⟨bk, bu, H⟩ := bnd H
  refine O_call rfl rfl (slices_Clone_api_Span_api_Span.c hs (el.mono a0) bu) (fun ce w hpost => ?_)
  obtain ⟨fd, fe, dz, rfl, aq, hs, cf⟩ := hpost
  have a1 := a0.trans aq
  refine O_nil (cd _ _ (fun _ _ => ((hs.less a1).sub (ssk (ssk (ssk (ssk (ssk (ssk (ssc (ssc ssr)))))))))) <| D1 20 sh rfl (by kernel_rfl) (fun ff cg => ?_))
  obtain ⟨bl, bv, H⟩ := bnd H
  refine O_call rfl rfl (slices_Clone_api_Value_api_Value.c hs (em.mono a1) bv) (fun ch w hpost => ?_)
  obtain ⟨fg, fh, ea, rfl, ap, hs, ci⟩ := hpost
  have a2 := a1.trans ap
  refine O_nil (cg _ _ (fun _ _ => ((hs.less a2).sub (ssk (ssk (ssk (ssk (ssk (ssk (ssk (ssc (ssc ssr))))))))))) <| D1 23 sh rfl (by kernel_rfl) (fun fi cj => ?_))
  obtain ⟨bm, bw, H⟩ := bnd H
  refine O_call rfl rfl (slices_Clone_api_Value_api_Value.c hs (en.mono a2) bw) (fun ck w hpost => ?_)
  obtain ⟨fj, fk, eb, rfl, ao, hs, cl⟩ := hpost
  have a3 := a2.trans ao
  refine O_nil (cj _ _ (fun _ _ => ((hs.less a3).sub (ssk (ssk (ssk (ssk (ssk (ssk (ssk (ssk (ssc (ssc ssr)))))))))))) <| D1 26 sh rfl (by kernel_rfl) (fun fl cm => ?_))
  obtain ⟨bn, bx, H⟩ := bnd H
  refine O_call rfl rfl (slices_Clone_api_Span_api_Span.c hs (eo.mono a3) bx) (fun cn w hpost => ?_)
  obtain ⟨fm, fn, ec, rfl, an, hs, co⟩ := hpost
  have a4 := a3.trans an
  refine O_nil (cm _ _ (fun _ _ => ((hs.less a4).sub (ssk (ssk (ssk (ssk (ssk (ssk (ssk (ssk (ssk (ssc (ssc ssr))))))))))))) <| D1 29 sh rfl (by kernel_rfl) (fun fo cp => ?_))
  obtain ⟨bo, bz, H⟩ := bnd H
  refine O_call rfl rfl (slices_Clone_api_Value_api_Value.c hs (ep.mono a4) bz) (fun cq w hpost => ?_)
  obtain ⟨fp, fq, ed, rfl, am, hs, cr⟩ := hpost
  have a5 := a4.trans am
  refine O_nil (cp _ _ (fun _ _ => ((hs.less a5).sub (ssk (ssk (ssk (ssk (ssk (ssk (ssk (ssk (ssk (ssk (ssc (ssc ssr)))))))))))))) <| D1 32 sh rfl (by kernel_rfl) (fun fr ct => ?_))
  obtain ⟨bp, b0, H⟩ := bnd H
  refine O_call rfl rfl (book_own.c hs (eq.mono a5) b0) (fun cu w hpost => ?_)
  obtain ⟨fs, ft, ee, rfl, aa, hs, cv⟩ := hpost
  have b1 := a5.trans aa
  refine O_nil (ct _ _ (fun _ _ => ((hs.less b1).sub (ssk (ssk (ssk (ssk (ssk (ssk (ssk (ssk (ssk (ssk (ssk (ssc (ssc ssr))))))))))))))) ?_)
  obtain ⟨fu, ab, hs, a6⟩ := hs.rowEnd (j := 10) (ey.mono (((((((((bq.trans av).trans au).trans ar).trans aq).trans ap).trans ao).trans an).trans am).trans aa)) rfl
  have cw := b1.trans ab
  obtain ⟨fv, ac, hs, a7⟩ := hs.rowEnd (j := 9) (e2.mono (((((((((av.trans au).trans ar).trans aq).trans ap).trans ao).trans an).trans am).trans aa).trans ab)) rfl
  have cx := cw.trans ac
  obtain ⟨fw, ad, hs, a8⟩ := hs.rowEnd (j := 8) (b6.mono (((((((((au.trans ar).trans aq).trans ap).trans ao).trans an).trans am).trans aa).trans ab).trans ac)) rfl
  have cy := cx.trans ad
  obtain ⟨fx, ae, hs, a9⟩ := hs.rowEnd (j := 7) (b9.mono (((((((((ar.trans aq).trans ap).trans ao).trans an).trans am).trans aa).trans ab).trans ac).trans ad)) rfl
  have cz := cy.trans ae
  obtain ⟨fy, af, hs, ba⟩ := hs.rowEnd (j := 6) (cc.mono (((((((((aq.trans ap).trans ao).trans an).trans am).trans aa).trans ab).trans ac).trans ad).trans ae)) rfl
  have da := cz.trans af
  obtain ⟨fz, ag, hs, bb⟩ := hs.rowEnd (j := 5) (cf.mono (((((((((ap.trans ao).trans an).trans am).trans aa).trans ab).trans ac).trans ad).trans ae).trans af)) rfl
  have db := da.trans ag
  obtain ⟨ga, ah, hs, bc⟩ := hs.rowEnd (j := 4) (ci.mono (((((((((ao.trans an).trans am).trans aa).trans ab).trans ac).trans ad).trans ae).trans af).trans ag)) rfl
  have dc := db.trans ah
  obtain ⟨gb, ai, hs, bd⟩ := hs.rowEnd (j := 3) (cl.mono (((((((((an.trans am).trans aa).trans ab).trans ac).trans ad).trans ae).trans af).trans ag).trans ah)) rfl
  have dd := dc.trans ai
  obtain ⟨gc, aj, hs, be⟩ := hs.rowEnd (j := 2) (co.mono (((((((((am.trans aa).trans ab).trans ac).trans ad).trans ae).trans af).trans ag).trans ah).trans ai)) rfl
  have de := dd.trans aj
  obtain ⟨gd, ak, hs, bf⟩ := hs.rowEnd (j := 1) (cr.mono (((((((((aa.trans ab).trans ac).trans ad).trans ae).trans af).trans ag).trans ah).trans ai).trans aj)) rfl
  have df := de.trans ak
  obtain ⟨ge, al, hs, bg⟩ := hs.rowEnd (j := 0) (cv.mono (((((((((ab.trans ac).trans ad).trans ae).trans af).trans ag).trans ah).trans ai).trans aj).trans ak)) rfl
  have dg := df.trans al
  refine Dp 33 sh rfl rfl (by kernel_rfl) (fun w => Y_build (cs := [ew, e0, b5, b8, cb, ce, ch, ck, cn, cq, cu]) zr27 pl27 ((Parts.cons rfl a6.cellsL (Parts.cons rfl a7.cellsL (Parts.cons rfl a8.cellsL (Parts.cons rfl a9.cellsL (Parts.cons rfl ba.cellsL (Parts.cons rfl bb.cellsL (Parts.cons rfl bc.cellsL (Parts.cons rfl bd.cellsL (Parts.cons rfl be.cellsL (Parts.cons rfl bf.cellsL (Parts.cons rfl bg.cellsL Parts.nil)))))))))))) ag27 (by kernel_rfl)) <| D1 34 sh rfl (by kernel_rfl) (fun gf dh => O_storeN (i := 0) sz27 hs rfl rfl rfl rfl rfl (one_cons a6.one (one_cons a7.one (one_cons a8.one (one_cons a9.one (one_cons ba.one (one_cons bb.one (one_cons bc.one (one_cons bd.one (one_cons be.one (one_cons bf.one (one_cons bg.one one_nil))))))))))) (fun w hs => O_nil (dh _ _ (fun _ _ => by first | contradiction | (rename_i h; cases h)) <| OD_doneS sh (by kernel_rfl) (eu _ _ <| W.weak [(2, _)] (S1 rfl) <| W_ret ?_))))
  obtain rfl := sinj H
  exact retc (i := 0) rfl rfl ag27 sz27 hs rfl rfl ⟨_, _, rfl, dg, (hs.sub (ssk (ssk ssr))), ⟨_, _, _, _, _, _, _, _, _, _, _, rfl, (a6.mono (((((((((ac.trans ad).trans ae).trans af).trans ag).trans ah).trans ai).trans aj).trans ak).trans al)), (a7.mono ((((((((ad.trans ae).trans af).trans ag).trans ah).trans ai).trans aj).trans ak).trans al)), (a8.mono (((((((ae.trans af).trans ag).trans ah).trans ai).trans aj).trans ak).trans al)), (a9.mono ((((((af.trans ag).trans ah).trans ai).trans aj).trans ak).trans al)), (ba.mono (((((ag.trans ah).trans ai).trans aj).trans ak).trans al)), (bb.mono ((((ah.trans ai).trans aj).trans ak).trans al)), (bc.mono (((ai.trans aj).trans ak).trans al)), (bd.mono ((aj.trans ak).trans al)), (be.mono (ak.trans al)), (bf.mono al), bg⟩⟩

def stage_check.j1 (af : Int → Int → Option (Int × Int)) (x0 : List Val) (aa : Int) (ab : Bool) : Option (Int × Int) := if ab = true then (some (aa, 81)) else (af ((rd x0 aa).hi) (IntKind.i64.wrap (aa + 1)))
def stage_check.j2 (af : Int → Int → Option (Int × Int)) (x0 : List Val) (aa : Int) (ac : Bool) : Option (Int × Int) := if ac = true then (some (aa, 80)) else (if ((rd x0 aa).n) < 0 then (stage_check.j1 af x0 aa true) else (stage_check.j1 af x0 aa (decide (65535 < ((rd x0 aa).n)))))
def stage_check.l1 : Nat → List Val → Int → Int → Option (Int × Int)
  | 0, _, _, _ => none
  | ad + 1, x0, ae, aa => if aa < (x0.length : Int) then (if (0 : Int) ≤ aa ∧ aa < (x0.length : Int) then (if ((rd x0 aa).lo) ≤ ae then (stage_check.j2 (stage_check.l1 ad x0) x0 aa true) else (if ((rd x0 aa).hi) < ((rd x0 aa).lo) then (stage_check.j2 (stage_check.l1 ad x0) x0 aa true) else (stage_check.j2 (stage_check.l1 ad x0) x0 aa (decide (1114111 < ((rd x0 aa).hi)))))) else none) else (some (0, 0))
def stage_check.f (x0 : List Val) : Option (Int × Int) := if 65536 < (x0.length : Int) then (some (65536, 80)) else (stage_check.l1 K0 x0 (-1) 0)
theorem stage_check.c {w0 w : World} {ρ : Hp} {Γ : List Item} (hs : St w0 ρ (Γ) w) {v0 : Value} {x0 : List Val} (h0 : SlR rVal ρ v0 x0) {r : Int × Int} (H : stage_check.f x0 = some r) : CallsR Tryz.prog 104 [v0] w (fun v w' => v = .tuple #[.int .i64 r.1, .int .i64 r.2] ∧ St w0 ρ Γ w') := by
  rw [stage_check.f] at H
  refine enter Tryz.func104 Tryz.ntmps104 rfl (by kernel_rfl) rfl <| Wr fun bm a1 => Oa rfl rfl <| Oa rfl rfl <| O_nil (a1 _ _ <| W_seq fun bn a2 => Wr fun bo a3 => Om rfl rfl <| O_y rfl (Y_lenR un23 h0 rfl) <| O_y rfl (Y_gtr rfl rfl) <| O_nil (a3 _ _ <| W_if rfl (fun aq => ?_) (fun aq => ?_)))
  ·rw [if_pos aq] at H
   refine Wr fun bp a4 => Oa rfl rfl <| Oa rfl rfl <| O_nil (a4 _ _ <| W_ret ?_)
   obtain rfl := sinj H
   exact ret2 rfl rfl rfl ⟨rfl, hs⟩
  ·rw [if_neg aq] at H
   refine W_skip (a2 _ _ <| Wr fun bq a5 => Oa rfl rfl <| O_nil (a5 _ _ <| W_seq fun br a6 => Wr fun bs a7 => Om rfl rfl <| O_y rfl (Y_lenR un23 h0 rfl) <| Om rfl rfl <| O_nil (a7 _ _ <| W_block fun bt a8 bu => W_loop (σ := Nat × Int × Int) (fun (ad, ae, aa) => [(4, .int .i32 ae), (10, v0), (11, .int .i64 (x0.length : Int)), (12, .int .i64 aa)]) (fun (ad, ae, aa) w => stage_check.l1 ad x0 ae aa = some r ∧ St w0 ρ (Γ) w) (fun s => s.1) (K0, (-1), 0) (S4 rfl rfl rfl rfl) (Ai H hs) ?_)))
   rintro ⟨ad, ae, aa⟩ w bv ⟨H, hs⟩ ag
   show W _ _ _ _ _ _ [(4, .int .i32 ae), (10, v0), (11, .int .i64 (x0.length : Int)), (12, .int .i64 aa)] w
   cases ad with
   | zero => rw [stage_check.l1] at H; cases H
   | succ ad =>
   rw [stage_check.l1] at H
   refine Wr fun bw a9 => O_y rfl (Y_lss rfl rfl) <| O_nil (a9 _ _ <| W_seq fun bx ba => W_if rfl (fun ar => ?_) (fun ar => ?_))
   ·rw [if_pos ar] at H
    refine W_skip (ba _ _ <| W_seq fun bz bb => W_block fun b0 b1 b2 => Wr fun b3 bc => Om rfl rfl ?_)
    obtain ⟨a0, H⟩ := gd H
    obtain ⟨b4, b5, bd, be⟩ := h0.ix el23 a0.1 a0.2
    obtain ⟨_, rfl, bf⟩ := bd
    refine O_y rfl (be rfl rfl) <| O_y rfl (Y_loadN ag108 sz108 rfl rfl (fun j u hu => hs.see (bf j u hu))) <| O_alloc zr108 hs rfl (fun ap w hs => Oa rfl rfl <| O_storeN (i := 0) sz108 hs rfl rfl rfl rfl rfl (one_cons rfl (one_cons rfl (one_cons rfl one_nil))) (fun w hs => O_nil (bc _ _ <| W_seq fun b6 bg => W_block fun b7 b8 b9 => W_seqj fun bh bi au => ?_)))
    have ah : ∀ (ac : Bool) (w : World), stage_check.j2 (stage_check.l1 ad x0) x0 aa ac = some r → St w0 ρ ((.box ap 108 ([.int .i32 ((rd x0 aa).lo), .int .i32 ((rd x0 aa).hi), .int .i64 ((rd x0 aa).n)])) :: Γ) w → bh [(5, .int .i64 aa), (6, .pointer (some ⟨ap, 0, none⟩)), (10, v0), (11, .int .i64 (x0.length : Int)), (12, .int .i64 aa), (17, .bool ac)] w := by
     intro ac w H hs
     rw [stage_check.j2] at H
     refine bi _ _ <| W_cond rfl (fun ai => ?_) (fun ai => ?_)
     ·rw [if_pos ai] at H
      refine Wr fun bj av => Om rfl rfl <| Oa rfl rfl <| Oa rfl rfl <| O_nil (av _ _ <| W_ret ?_)
      obtain rfl := sinj H
      exact ret2 rfl rfl rfl ⟨rfl, (hs.sub (ssk ssr))⟩
     ·rw [if_neg (bft ai)] at H
      refine W_seqj fun aw ax an => ?_
      have ao : ∀ (ab : Bool) (w : World), stage_check.j1 (stage_check.l1 ad x0) x0 aa ab = some r → St w0 ρ ((.box ap 108 ([.int .i32 ((rd x0 aa).lo), .int .i32 ((rd x0 aa).hi), .int .i64 ((rd x0 aa).n)])) :: Γ) w → aw [(5, .int .i64 aa), (6, .pointer (some ⟨ap, 0, none⟩)), (10, v0), (11, .int .i64 (x0.length : Int)), (12, .int .i64 aa), (35, .bool ab)] w := by
       intro ab w H hs
       rw [stage_check.j1] at H
       refine ax _ _ <| W_cond rfl (fun aj => ?_) (fun aj => ?_)
       ·rw [if_pos aj] at H
        refine Wr fun bk ay => Om rfl rfl <| Oa rfl rfl <| Oa rfl rfl <| O_nil (ay _ _ <| W_ret ?_)
        obtain rfl := sinj H
        exact ret2 rfl rfl rfl ⟨rfl, (hs.sub (ssk ssr))⟩
       ·rw [if_neg (bft aj)] at H
        refine W_skip (bg _ _ <| W_region <| O_y rfl (Y_field fo108_1 rfl) <| O_y rfl (Yb 0 ag21 hs rfl rfl rfl) <| Oa rfl rfl <| O_nil (bb _ _ <| W_region <| O_y rfl (Y_add rfl rfl) <| Om rfl rfl <| O_nil (ag (ad, ((rd x0 aa).hi), (IntKind.i64.wrap (aa + 1))) _ _ (S4 rfl rfl rfl rfl) (Ai H (hs.sub (ssk ssr))) (Nat.lt_succ_self _))))
      refine W_region <| O_y rfl (Y_field fo108_2 rfl) <| O_y rfl (Yb 0 ag3 hs rfl rfl rfl) <| O_y rfl (Y_lss rfl rfl) <| Om rfl rfl <| O_if (dj := 39) rfl (fun ak => ?_) (fun ak => ?_)
      ·rw [if_pos ak] at H
       refine O_no rfl rfl rfl rfl <| O_no rfl rfl rfl rfl <| O_no rfl rfl rfl rfl <| O_y rfl (Y_pick_t rfl rfl) <| Oa rfl rfl <| O_nil (an _ _ _ (by repeat first | exact Sub.nil | refine Sub.cons rfl ?_) (ao true _ H hs))
      ·rw [if_neg ak] at H
       refine O_yes rfl rfl <| O_y rfl (Y_field fo108_2 rfl) <| O_yes rfl rfl <| O_y rfl (Yb 0 ag3 hs rfl rfl rfl) <| O_yes rfl rfl <| O_y rfl (Y_gtr rfl rfl) <| O_y rfl (Y_pick_f rfl rfl) <| Oa rfl rfl <| O_nil (an _ _ _ (by repeat first | exact Sub.nil | refine Sub.cons rfl ?_) (ao (decide (65535 < ((rd x0 aa).n))) _ H hs))
    refine W_region <| O_y rfl (Y_field fo108_0 rfl) <| O_y rfl (Yb 0 ag21 hs rfl rfl rfl) <| Om rfl rfl <| O_y rfl (Y_leq rfl rfl) <| Om rfl rfl <| O_if (dj := 22) rfl (fun al => ?_) (fun al => ?_)
    ·rw [if_pos al] at H
     refine O_no rfl rfl rfl rfl <| O_no rfl rfl rfl rfl <| O_no rfl rfl rfl rfl <| O_no rfl rfl rfl rfl <| O_no rfl rfl rfl rfl <| O_y rfl (Y_pick_t rfl rfl) <| Om rfl rfl <| O_no rfl rfl rfl rfl <| O_no rfl rfl rfl rfl <| O_no rfl rfl rfl rfl <| O_y rfl (Y_pick_t rfl rfl) <| Oa rfl rfl <| O_nil (au _ _ _ (by repeat first | exact Sub.nil | refine Sub.cons rfl ?_) (ah true _ H hs))
    ·rw [if_neg al] at H
     refine O_yes rfl rfl <| O_y rfl (Y_field fo108_1 rfl) <| O_yes rfl rfl <| O_y rfl (Yb 0 ag21 hs rfl rfl rfl) <| O_yes rfl rfl <| O_y rfl (Y_field fo108_0 rfl) <| O_yes rfl rfl <| O_y rfl (Yb 0 ag21 hs rfl rfl rfl) <| O_yes rfl rfl <| O_y rfl (Y_lss rfl rfl) <| O_y rfl (Y_pick_f rfl rfl) <| Om rfl rfl <| O_if (dj := 29) rfl (fun am => ?_) (fun am => ?_)
     ·rw [if_pos am] at H
      refine O_no rfl rfl rfl rfl <| O_no rfl rfl rfl rfl <| O_no rfl rfl rfl rfl <| O_y rfl (Y_pick_t rfl rfl) <| Oa rfl rfl <| O_nil (au _ _ _ (by repeat first | exact Sub.nil | refine Sub.cons rfl ?_) (ah true _ H hs))
     ·rw [if_neg am] at H
      refine O_yes rfl rfl <| O_y rfl (Y_field fo108_1 rfl) <| O_yes rfl rfl <| O_y rfl (Yb 0 ag21 hs rfl rfl rfl) <| O_yes rfl rfl <| O_y rfl (Y_gtr rfl rfl) <| O_y rfl (Y_pick_f rfl rfl) <| Oa rfl rfl <| O_nil (au _ _ _ (by repeat first | exact Sub.nil | refine Sub.cons rfl ?_) (ah (decide (1114111 < ((rd x0 aa).hi))) _ H hs))
   ·rw [if_neg ar] at H
    refine W_exit (a8 _ _ (a6 _ _ <| Wr fun bl az => Oa rfl rfl <| Oa rfl rfl <| O_nil (az _ _ <| W_ret ?_)))
    obtain rfl := sinj H
    exact ret2 rfl rfl rfl ⟨rfl, hs⟩

def stage_lay_fod.j1 (aa : Int) (ag : Vector Int 128) (ai : Bool) : Option (Bool × Int × Vector Int 128) := some (ai, aa, ag)
def stage_lay_fod.l1 (am : Vector Int 128 → Bool → Int → Option (Bool × Int × Vector Int 128)) : Nat → List Val → Int → Int → Int → Vector Int 128 → Int → Option (Bool × Int × Vector Int 128)
  | 0, _, _, _, _, _, _ => none
  | ah + 1, x0, x2, aa, ab, ac, ae => if ae ≤ (min ((rd (sub x0 aa (x0.length : Int)) ab).hi) (IntKind.i32.wrap ((IntKind.i32.wrap (x2 + 128)) - 1))) then (if (0 : Int) ≤ IntKind.i32.wrap (ae - x2) ∧ IntKind.i32.wrap (ae - x2) < ((128 : Nat) : Int) then ((stage_lay_fod.l1 am ah x0 x2 aa ab) (vset ac (IntKind.i32.wrap (ae - x2)) (IntKind.u16.wrap ((rd (sub x0 aa (x0.length : Int)) ab).n))) (IntKind.i32.wrap (ae + 1))) else none) else (am ac true (IntKind.i64.wrap (ab + 1)))
def stage_lay_fod.l2 : Nat → List Val → Int → Int → Vector Int 128 → Bool → Int → Option (Bool × Int × Vector Int 128)
  | 0, _, _, _, _, _, _ => none
  | al + 1, x0, x2, aa, ad, af, ab => if ab < ((sub x0 aa (x0.length : Int)).length : Int) then (if (0 : Int) ≤ ab ∧ ab < ((sub x0 aa (x0.length : Int)).length : Int) then (if (IntKind.i32.wrap ((IntKind.i32.wrap (x2 + 128)) - 1)) < ((rd (sub x0 aa (x0.length : Int)) ab).lo) then (stage_lay_fod.j1 aa ad af) else (stage_lay_fod.l1 (stage_lay_fod.l2 al x0 x2 aa) K0 x0 x2 aa ab ad (max ((rd (sub x0 aa (x0.length : Int)) ab).lo) x2))) else none) else (stage_lay_fod.j1 aa ad af)
def stage_lay_fod.j2 (aq : Int → Option (Bool × Int × Vector Int 128)) (y1_0 : Vector Int 128) (x0 : List Val) (x2 aa : Int) (aj : Bool) : Option (Bool × Int × Vector Int 128) := if aj = true then (aq (IntKind.i64.wrap (aa + 1))) else (if (0 : Int) ≤ aa ∧ aa ≤ (x0.length : Int) ∧ (x0.length : Int) ≤ (x0.length : Int) then (stage_lay_fod.l2 K0 x0 x2 aa y1_0 false 0) else none)
def stage_lay_fod.l3 : Nat → Vector Int 128 → List Val → Int → Int → Option (Bool × Int × Vector Int 128)
  | 0, _, _, _, _ => none
  | ak + 1, y1_0, x0, x2, aa => if aa < (x0.length : Int) then (if (0 : Int) ≤ aa ∧ aa < (x0.length : Int) then (stage_lay_fod.j2 (stage_lay_fod.l3 ak y1_0 x0 x2) y1_0 x0 x2 aa (decide (((rd x0 aa).hi) < x2))) else none) else (stage_lay_fod.j2 (stage_lay_fod.l3 ak y1_0 x0 x2) y1_0 x0 x2 aa false)
def stage_lay_fod.f (x0 : List Val) (x2 y0_0 : Int) (y1_0 : Vector Int 128) : Option (Bool × Int × Vector Int 128) := stage_lay_fod.l3 K0 y1_0 x0 x2 y0_0
theorem stage_lay_fod.c {w0 w : World} {ρ : Hp} {Γ : List Item} {pb0 : Nat} {y0_0 : Int} {pb1 : Nat} {y1_0 : Vector Int 128} (hs : St w0 ρ ((.box pb0 3 ([.int .i64 y0_0])) :: (.box pb1 101 ([] ++ (vcs (Value.int .u16) y1_0 ++ []))) :: Γ) w) {v0 : Value} {x0 : List Val} (h0 : SlR rVal ρ v0 x0) {x2 : Int} {r : Bool × Int × Vector Int 128} (H : stage_lay_fod.f x0 x2 y0_0 y1_0 = some r) : CallsR Tryz.prog 107 [v0, .pointer (some ⟨pb0, 0, none⟩), .int .i32 x2, .pointer (some ⟨pb1, 0, none⟩)] w (fun v w' => v = .bool r.1 ∧ St w0 ρ ((.box pb0 3 ([.int .i64 r.2.1])) :: (.box pb1 101 ([] ++ (vcs (Value.int .u16) r.2.2 ++ []))) :: Γ) w') := by
  rw [stage_lay_fod.f] at H
  refine enter Tryz.func107 Tryz.ntmps107 rfl (by kernel_rfl) rfl <| Wr fun ct br => Oa rfl rfl <| O_nil (br _ _ <| Wr fun cu bs => Om rfl rfl <| O_y rfl (Y_add rfl rfl) <| O_y rfl (Y_sub rfl rfl) <| Oa rfl rfl <| O_nil (bs _ _ <| W_seq fun cv bt => W_block fun cw bu cx => ?_))
  refine W_loop (σ := Nat × Int) (fun (ak, aa) => [(0, v0), (1, .pointer (some ⟨pb0, 0, none⟩)), (2, .int .i32 x2), (3, .pointer (some ⟨pb1, 0, none⟩)), (9, .int .i32 (IntKind.i32.wrap ((IntKind.i32.wrap (x2 + 128)) - 1)))]) (fun (ak, aa) w => stage_lay_fod.l3 ak y1_0 x0 x2 aa = some r ∧ St w0 ρ ((.box pb0 3 ([.int .i64 aa])) :: (.box pb1 101 ([] ++ (vcs (Value.int .u16) y1_0 ++ []))) :: Γ) w) (fun s => s.1) (K0, y0_0) (by repeat first | exact Sub.nil | refine Sub.cons rfl ?_) (Ai H hs) ?_
  rintro ⟨ak, aa⟩ w cy ⟨H, hs⟩ ar
  show W _ _ _ _ _ _ [(0, v0), (1, .pointer (some ⟨pb0, 0, none⟩)), (2, .int .i32 x2), (3, .pointer (some ⟨pb1, 0, none⟩)), (9, .int .i32 (IntKind.i32.wrap ((IntKind.i32.wrap (x2 + 128)) - 1)))] w
  cases ak with
  | zero => rw [stage_lay_fod.l3] at H; cases H
  | succ ak =>
  rw [stage_lay_fod.l3] at H
  refine W_seq fun cz bv => W_seqj fun bw bx bl => ?_
  have bm : ∀ (aj : Bool) (w : World), stage_lay_fod.j2 (stage_lay_fod.l3 ak y1_0 x0 x2) y1_0 x0 x2 aa aj = some r → St w0 ρ ((.box pb0 3 ([.int .i64 aa])) :: (.box pb1 101 ([] ++ (vcs (Value.int .u16) y1_0 ++ []))) :: Γ) w → bw [(0, v0), (1, .pointer (some ⟨pb0, 0, none⟩)), (2, .int .i32 x2), (3, .pointer (some ⟨pb1, 0, none⟩)), (9, .int .i32 (IntKind.i32.wrap ((IntKind.i32.wrap (x2 + 128)) - 1))), (33, .bool aj)] w := by
   intro aj w H hs
   rw [stage_lay_fod.j2] at H
   refine bx _ _ <| W_cond rfl (fun a1 => ?_) (fun a1 => ?_)
   ·rw [if_pos a1] at H
    refine W_skip (bv _ _ <| W_block fun da db dc => W_region <| Om rfl rfl <| O_y rfl (Y_nilp rfl) <| O_y rfl (Yb 0 ag3 hs rfl rfl rfl) <| O_y rfl (Y_add rfl rfl) <| O_y rfl (Y_nilp rfl) <| O_store (i := 0) sz3 hs rfl rfl rfl rfl rfl (fun w hs => O_nil (ar (ak, (IntKind.i64.wrap (aa + 1))) _ _ (by repeat first | exact Sub.nil | refine Sub.cons rfl ?_) (Ai H hs) (Nat.lt_succ_self _))))
   ·rw [if_neg (bft a1)] at H
    refine W_exit (bu _ _ (bt _ _ <| Wr fun dd bz => Oa rfl rfl <| O_nil (bz _ _ <| W_seqj fun b0 b1 bn => ?_)))
    have bo : ∀ (ag : Vector Int 128) (ai : Bool) (w : World), stage_lay_fod.j1 aa ag ai = some r → St w0 ρ ((.box pb0 3 ([.int .i64 aa])) :: (.box pb1 101 ([] ++ (vcs (Value.int .u16) ag ++ []))) :: Γ) w → b0 [(10, .bool ai)] w := by
     intro ag ai w H hs
     rw [stage_lay_fod.j1] at H
     refine b1 _ _ <| Wr fun de b2 => Om rfl rfl <| Oa rfl rfl <| O_nil (b2 _ _ <| W_ret ?_)
     obtain rfl := sinj H
     exact ret1 rfl rfl ⟨rfl, hs⟩
    refine Wr fun df b3 => Om rfl rfl <| Om rfl rfl <| O_y rfl (Y_nilp rfl) <| O_y rfl (Yb 0 ag3 hs rfl rfl rfl) ?_
    obtain ⟨a2, H⟩ := gd H
    obtain ⟨a0, bp, b4⟩ := h0.cut el23 a2.1 a2.2.1 a2.2.2
    refine O_y rfl (b4 rfl (.inr ⟨_, _, rfl, rfl⟩) (.inl ⟨rfl, rfl⟩)) <| O_y rfl (Y_lenR un23 bp rfl) <| Om rfl rfl <| O_nil (b3 _ _ <| W_block fun dg bq dh => W_loop (σ := Nat × Vector Int 128 × Bool × Int) (fun (al, ad, af, ab) => [(2, .int .i32 x2), (3, .pointer (some ⟨pb1, 0, none⟩)), (9, .int .i32 (IntKind.i32.wrap ((IntKind.i32.wrap (x2 + 128)) - 1))), (10, .bool af), (43, a0), (44, .int .i64 ((sub x0 aa (x0.length : Int)).length : Int)), (45, .int .i64 ab)]) (fun (al, ad, af, ab) w => stage_lay_fod.l2 al x0 x2 aa ad af ab = some r ∧ St w0 ρ ((.box pb0 3 ([.int .i64 aa])) :: (.box pb1 101 ([] ++ (vcs (Value.int .u16) ad ++ []))) :: Γ) w) (fun s => s.1) (K0, y1_0, false, 0) (by repeat first | exact Sub.nil | refine Sub.cons rfl ?_) (Ai H hs) ?_)
    rintro ⟨al, ad, af, ab⟩ w di ⟨H, hs⟩ au
    show W _ _ _ _ _ _ [(2, .int .i32 x2), (3, .pointer (some ⟨pb1, 0, none⟩)), (9, .int .i32 (IntKind.i32.wrap ((IntKind.i32.wrap (x2 + 128)) - 1))), (10, .bool af), (43, a0), (44, .int .i64 ((sub x0 aa (x0.length : Int)).length : Int)), (45, .int .i64 ab)] w
    cases al with
    | zero => rw [stage_lay_fod.l2] at H; cases H
    | succ al =>
    rw [stage_lay_fod.l2] at H
    refine Wr fun dk b5 => O_y rfl (Y_lss rfl rfl) <| O_nil (b5 _ _ <| W_seq fun dl b6 => W_if rfl (fun a3 => ?_) (fun a3 => ?_))
    ·rw [if_pos a3] at H
     refine W_skip (b6 _ _ <| W_seq fun dm b7 => W_block fun b8 b9 a4 => W_seq fun ca a5 => W_region ?_)
     obtain ⟨ay, H⟩ := gd H
     obtain ⟨cb, cc, a6, a7⟩ := bp.ix el23 ay.1 ay.2
     obtain ⟨_, rfl, a8⟩ := a6
     refine O_y rfl (a7 rfl rfl) <| O_y rfl (Y_loadN ag108 sz108 rfl rfl (fun j u hu => hs.see (a8 j u hu))) <| O_alloc zr108 hs rfl (fun an w hs => O_storeN (i := 0) sz108 hs rfl rfl rfl rfl rfl (one_cons rfl (one_cons rfl (one_cons rfl one_nil))) (fun w hs => O_nil (a5 _ _ <| W_seq fun cd a9 => Wr fun ce ba => O_y rfl (Y_field fo108_0 rfl) <| O_y rfl (Yb 0 ag21 hs rfl rfl rfl) <| Om rfl rfl <| O_y rfl (Y_gtr rfl rfl) <| O_nil (ba _ _ <| W.weak [(2, _), (3, _), (9, _), (10, _), (12, _), (43, _), (44, _), (45, _), (52, _)] (by repeat first | exact Sub.nil | refine Sub.cons rfl ?_) ?_))))
     refine W_if rfl (fun av => ?_) (fun av => ?_)
     ·rw [if_pos av] at H
      exact W_exit (a4 _ _ _ rfl (bq _ _ (bn _ _ _ (S1 rfl) (bo ad af _ H (hs.sub (ssk (ssc (ssc ssr))))))))
     ·rw [if_neg av] at H
      refine W_skip (a9 _ _ <| Wr fun cf bb => Oa rfl rfl <| O_nil (bb _ _ <| Wr fun cg bc => O_y rfl (Y_field fo108_0 rfl) <| O_y rfl (Yb 0 ag21 hs rfl rfl rfl) <| Om rfl rfl <| O_y rfl (Y_max rfl rfl) <| Oa rfl rfl <| O_nil (bc _ _ <| W_block fun ch bd ci => ?_)))
      refine W_loop (σ := Nat × Vector Int 128 × Int) (fun (ah, ac, ae) => [(2, .int .i32 x2), (3, .pointer (some ⟨pb1, 0, none⟩)), (9, .int .i32 (IntKind.i32.wrap ((IntKind.i32.wrap (x2 + 128)) - 1))), (10, .bool true), (12, .pointer (some ⟨an, 0, none⟩)), (13, .int .i32 ae), (43, a0), (44, .int .i64 ((sub x0 aa (x0.length : Int)).length : Int)), (45, .int .i64 ab)]) (fun (ah, ac, ae) w => stage_lay_fod.l1 (stage_lay_fod.l2 al x0 x2 aa) ah x0 x2 aa ab ac ae = some r ∧ St w0 ρ ((.box an 108 ([.int .i32 ((rd (sub x0 aa (x0.length : Int)) ab).lo), .int .i32 ((rd (sub x0 aa (x0.length : Int)) ab).hi), .int .i64 ((rd (sub x0 aa (x0.length : Int)) ab).n)])) :: (.box pb0 3 ([.int .i64 aa])) :: (.box pb1 101 ([] ++ (vcs (Value.int .u16) ac ++ []))) :: Γ) w) (fun s => s.1) (K0, ad, (max ((rd (sub x0 aa (x0.length : Int)) ab).lo) x2)) (by repeat first | exact Sub.nil | refine Sub.cons rfl ?_) (Ai H hs) ?_
      rintro ⟨ah, ac, ae⟩ w cj ⟨H, hs⟩ ao
      show W _ _ _ _ _ _ [(2, .int .i32 x2), (3, .pointer (some ⟨pb1, 0, none⟩)), (9, .int .i32 (IntKind.i32.wrap ((IntKind.i32.wrap (x2 + 128)) - 1))), (10, .bool true), (12, .pointer (some ⟨an, 0, none⟩)), (13, .int .i32 ae), (43, a0), (44, .int .i64 ((sub x0 aa (x0.length : Int)).length : Int)), (45, .int .i64 ab)] w
      cases ah with
      | zero => rw [stage_lay_fod.l1] at H; cases H
      | succ ah =>
      rw [stage_lay_fod.l1] at H
      refine W_seq fun ck be => Wr fun cl bf => Om rfl rfl <| O_y rfl (Y_field fo108_1 rfl) <| O_y rfl (Yb 0 ag21 hs rfl rfl rfl) <| Om rfl rfl <| O_y rfl (Y_min rfl rfl) <| O_y rfl (Y_leq rfl rfl) <| O_nil (bf _ _ <| W.weak [(2, _), (3, _), (9, _), (10, _), (12, _), (13, _), (43, _), (44, _), (45, _), (62, _)] (by repeat first | exact Sub.nil | refine Sub.cons rfl ?_) ?_)
      refine W_if rfl (fun aw => ?_) (fun aw => ?_)
      ·rw [if_pos aw] at H
       refine W_skip (be _ _ <| W_seq fun cm bg => W_block fun cn co cp => W_drawS 10 [0, 0, 0, 6, 0, 16, 32, 1, 255, 383] [126, 245, 243, 241, 207, 143, 143, 638, 0, 0] [0, 0, 0, 6, 0, 16, 48, 1, 255, 511] [9] (fun w => St w0 ρ ((.box an 108 ([.int .i32 ((rd (sub x0 aa (x0.length : Int)) ab).lo), .int .i32 ((rd (sub x0 aa (x0.length : Int)) ab).hi), .int .i64 ((rd (sub x0 aa (x0.length : Int)) ab).n)])) :: (.box pb0 3 ([.int .i64 aa])) :: (.box pb1 101 ([] ++ (vcs (Value.int .u16) ac ++ []))) :: Γ) w) mixed (by kernel_rfl) (fun sh => ?_))
       have hs := hs.drew
       refine Dm 0 sh rfl rfl (by kernel_rfl) rfl <| Dm 1 sh rfl rfl (by kernel_rfl) rfl <| Dm 2 sh rfl rfl (by kernel_rfl) rfl <| Dp 3 sh rfl rfl (by kernel_rfl) (fun w => Y_sub rfl rfl) <| Dp 4 sh rfl rfl (by kernel_rfl) (fun w => Y_field fo108_2 rfl) <| Dy 5 sh rfl rfl (by kernel_rfl) hs (fun w hs => Yb 0 ag3 hs rfl rfl rfl) <| Dp 6 sh rfl rfl (by kernel_rfl) (fun w => Y_conv un3 un99 rfl) <| Dp 7 sh rfl rfl (by kernel_rfl) (fun w => Y_nilp rfl) ?_
       obtain ⟨ap, H⟩ := gd H
       refine Dp 8 sh rfl rfl (by kernel_rfl) (fun w => Y_ixArr un101 sz99 rfl rfl ap.1 ap.2) <| D1 9 sh rfl (by kernel_rfl) (fun cq bh => O_storeSeg (j := 2) (u := IntKind.u16.wrap ((rd (sub x0 aa (x0.length : Int)) ab).n)) sz99 (one_int .u16) hs rfl rfl ap.1 ap.2 rfl rfl (fun w hs => O_nil (bh _ _ (fun _ _ => by first | contradiction | (rename_i h; cases h)) <| OD_doneS sh (by kernel_rfl) (bg _ _ <| W.weak [(2, _), (3, _), (9, _), (10, _), (12, _), (13, _), (43, _), (44, _), (45, _)] (by repeat first | exact Sub.nil | refine Sub.cons rfl ?_) ?_))))
       refine W_region <| Om rfl rfl <| O_y rfl (Y_add rfl rfl) <| Oa rfl rfl <| O_nil (ao (ah, (vset ac (IntKind.i32.wrap (ae - x2)) (IntKind.u16.wrap ((rd (sub x0 aa (x0.length : Int)) ab).n))), (IntKind.i32.wrap (ae + 1))) _ _ (by repeat first | exact Sub.nil | refine Sub.cons rfl ?_) (Ai H hs) (Nat.lt_succ_self _))
      ·rw [if_neg aw] at H
       refine W_exit (bd _ _ (b7 _ _ <| W_region <| O_y rfl (Y_add rfl rfl) <| Om rfl rfl <| O_nil (au (al, ac, true, (IntKind.i64.wrap (ab + 1))) _ _ (by repeat first | exact Sub.nil | refine Sub.cons rfl ?_) (Ai H (hs.sub (ssk (ssc (ssc ssr))))) (Nat.lt_succ_self _))))
    ·rw [if_neg a3] at H
     exact W_exit (bq _ _ (bn _ _ _ (S1 rfl) (bo ad af _ H hs)))
  refine W_region <| Om rfl rfl <| O_y rfl (Y_nilp rfl) <| O_y rfl (Yb 0 ag3 hs rfl rfl rfl) <| Om rfl rfl <| O_y rfl (Y_lenR un23 h0 rfl) <| O_y rfl (Y_lss rfl rfl) <| Om rfl rfl <| O_if (dj := 23) rfl (fun ax => ?_) (fun ax => ?_)
  ·rw [if_pos ax] at H
   refine O_yes rfl rfl <| Om rfl rfl <| O_yes rfl rfl <| Om rfl rfl <| O_yes rfl rfl <| O_y rfl (Y_nilp rfl) <| O_yes rfl rfl <| O_y rfl (Yb 0 ag3 hs rfl rfl rfl) ?_
   obtain ⟨az, H⟩ := gd H
   obtain ⟨cr, cs, bi, bj⟩ := h0.ix el23 az.1 az.2
   obtain ⟨_, rfl, bk⟩ := bi
   refine O_yes rfl rfl <| O_y rfl (bj rfl rfl) <| O_yes rfl rfl <| O_y rfl (Y_field fo108_1 rfl) <| O_yes rfl rfl <| O_y rfl (Y_load ag21 rfl (hs.see (bk 1 _ rfl))) <| O_yes rfl rfl <| Om rfl rfl <| O_yes rfl rfl <| O_y rfl (Y_lss rfl rfl) <| O_y rfl (Y_pick_t rfl rfl) <| O_nil (bl _ _ _ (by repeat first | exact Sub.nil | refine Sub.cons rfl ?_) (bm (decide (((rd x0 aa).hi) < x2)) _ H hs))
  ·rw [if_neg ax] at H
   refine O_no rfl rfl rfl rfl <| O_no rfl rfl rfl rfl <| O_no rfl rfl rfl rfl <| O_no rfl rfl rfl rfl <| O_no rfl rfl rfl rfl <| O_no rfl rfl rfl rfl <| O_no rfl rfl rfl rfl <| O_no rfl rfl rfl rfl <| O_no rfl rfl rfl rfl <| O_y rfl (Y_pick_f rfl rfl) <| O_nil (bl _ _ _ (by repeat first | exact Sub.nil | refine Sub.cons rfl ?_) (bm false _ H hs))

end Go.Proofs.YtekafkokpnihfaaGreat
