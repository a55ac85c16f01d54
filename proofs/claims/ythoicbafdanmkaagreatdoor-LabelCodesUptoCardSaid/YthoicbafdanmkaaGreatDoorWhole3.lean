/- Texts of this repo, merged for the claim: TP2, TP3. -/
import Derived.Test.YthoicbafdanmkaaGreatDoorWhole1
import Derived.Test.YthoicbafdanmkaaGreatDoorWhole2
/- Written by this repo's gen.py: for each Go function a Lean function with the same answers and the walk that shows it. -/
namespace Go.Proofs.YthoicbafdanmkaaGreatDoor
open Go.RowKit
set_option maxRecDepth 100000
set_option maxHeartbeats 4000000
variable {w0 w : World} {ρ : Hp} {Γ : List Item}
set_option linter.unusedVariables false
def book_Check.f (x0 : Bk) : Option (Wh × Int) := (book_Check_4_mae.f x0.names x0.status x0.maps x0.class_ x0.decomp x0.excl x0.bidi x0.join x0.marks x0.script x0.like).bind fun bc => (if 0 ≤ bc then (some ((⟨1, bc⟩ : Wh), 100)) else ((book_Check_5_ion.f x0.names x0.status x0.maps x0.class_ x0.decomp x0.excl x0.bidi x0.join x0.marks x0.script x0.like).bind fun bd => (if 0 ≤ bd then (some ((⟨2, bd⟩ : Wh), 100)) else ((book_Check_6_mae.f x0.names x0.status x0.maps x0.class_ x0.decomp x0.excl x0.bidi x0.join x0.marks x0.script x0.like).bind fun be => (if 0 ≤ be then (some ((⟨3, be⟩ : Wh), 100)) else ((book_Check_7_hpj.f x0.names x0.status x0.maps x0.class_ x0.decomp x0.excl x0.bidi x0.join x0.marks x0.script x0.like).bind fun bf => (if 0 ≤ bf then (some ((⟨4, bf⟩ : Wh), 100)) else ((book_Check_8_hpj.f x0.names x0.status x0.maps x0.class_ x0.decomp x0.excl x0.bidi x0.join x0.marks x0.script x0.like).bind fun bg => (if 0 ≤ bg then (some ((⟨5, bg⟩ : Wh), 100)) else ((book_Check_9_hpj.f x0.names x0.status x0.maps x0.class_ x0.decomp x0.excl x0.bidi x0.join x0.marks x0.script x0.like).bind fun bh => (if 0 ≤ bh then (some ((⟨6, bh⟩ : Wh), 100)) else ((book_Check_10_ion.f x0.names x0.status x0.maps x0.class_ x0.decomp x0.excl x0.bidi x0.join x0.marks x0.script x0.like).bind fun bi => (if 0 ≤ bi then (some ((⟨7, bi⟩ : Wh), 100)) else ((book_Check_11_ion.f x0.names x0.status x0.maps x0.class_ x0.decomp x0.excl x0.bidi x0.join x0.marks x0.script x0.like).bind fun bj => (if 0 ≤ bj then (some ((⟨8, bj⟩ : Wh), 100)) else ((book_Check_12_ion.f x0.names x0.status x0.maps x0.class_ x0.decomp x0.excl x0.bidi x0.join x0.marks x0.script x0.like).bind fun bk => (if 0 ≤ bk then (some ((⟨9, bk⟩ : Wh), 100)) else ((book_Check_13_ion.f x0.names x0.status x0.maps x0.class_ x0.decomp x0.excl x0.bidi x0.join x0.marks x0.script x0.like).bind fun bl => (if 0 ≤ bl then (some ((⟨10, bl⟩ : Wh), 100)) else ((book_Check_14_gdi.f x0.names x0.status x0.maps x0.class_ x0.decomp x0.excl x0.bidi x0.join x0.marks x0.script x0.like).bind fun bm => (if 0 ≤ bm then (some ((⟨11, bm⟩ : Wh), 100)) else ((book_Check_15_mae.f x0.names x0.status x0.maps x0.class_ x0.decomp x0.excl x0.bidi x0.join x0.marks x0.script x0.like).bind fun bn => (if 0 ≤ bn then (some ((⟨5, bn⟩ : Wh), 100)) else (some ((⟨0, 0⟩ : Wh), 0)))))))))))))))))))))))))
abbrev book_Check.t90 (aa ab ac ad : Nat) : List Value := [.int .i64 1, .func (.func 92) #[] #[.pointer (some ⟨aa, 0, none⟩)], .int .i64 2, .func (.func 94) #[] #[.pointer (some ⟨aa, 0, none⟩), .pointer (some ⟨ab, 0, none⟩)], .int .i64 3, .func (.func 96) #[] #[.pointer (some ⟨aa, 0, none⟩)], .int .i64 4, .func (.func 98) #[] #[.pointer (some ⟨aa, 0, none⟩), .pointer (some ⟨ac, 0, none⟩)], .int .i64 5, .func (.func 99) #[] #[.pointer (some ⟨aa, 0, none⟩), .pointer (some ⟨ac, 0, none⟩)], .int .i64 6, .func (.func 102) #[] #[.pointer (some ⟨aa, 0, none⟩), .pointer (some ⟨ac, 0, none⟩)], .int .i64 7, .func (.func 105) #[] #[.pointer (some ⟨aa, 0, none⟩), .pointer (some ⟨ab, 0, none⟩)], .int .i64 8, .func (.func 107) #[] #[.pointer (some ⟨aa, 0, none⟩), .pointer (some ⟨ab, 0, none⟩)], .int .i64 9, .func (.func 109) #[] #[.pointer (some ⟨aa, 0, none⟩), .pointer (some ⟨ab, 0, none⟩)], .int .i64 10, .func (.func 110) #[] #[.pointer (some ⟨aa, 0, none⟩), .pointer (some ⟨ab, 0, none⟩)], .int .i64 11, .func (.func 111) #[] #[.pointer (some ⟨aa, 0, none⟩), .pointer (some ⟨ad, 0, none⟩)], .int .i64 5, .func (.func 112) #[] #[.pointer (some ⟨aa, 0, none⟩)]]
theorem book_Check.c (hs : St w0 ρ (Γ) w) {c0 : List Value} {x0 : Bk} (h0 : rBk.R ρ c0 x0) {r : Wh × Int} (H : book_Check.f x0 = some r) : CallsR Tryz.prog 60 [.agg c0.toArray] w (fun v w' => ∃ (ρ' : Hp) (cs0 : List Value), v = .tuple #[.agg cs0.toArray, .int .i64 r.2] ∧ Le ρ ρ' ∧ St w0 ρ' (Γ) w' ∧ rWh.R ρ' cs0 r.1) := by
  rw [book_Check.f] at H
  refine Et Tryz.func60 Tryz.ntmps60 rfl ?_
  have ge := h0
  obtain ⟨ak, al, am, an, ao, ap, aq, ar, au, av, aw, rfl, ay, az, a0, a1, a2, a3, a4, a5, a6, a7, a8⟩ := ge
  refine Wr fun l4 gf => O_boxN (cs := [ak, al, am, an, ao, ap, aq, ar, au, av, aw]) hs rfl rfl (fun aa w hs => O_alloc zr100 hs rfl (fun a9 w hs => As rfl <| Ox gf <| Wr fun l5 gg => O_alloc zr133 hs rfl (fun ab w hs => O_store (i := 0) sz133 hs rfl rfl rfl rfl rfl (fun w hs => Ox gg <| Wr fun l6 gh => O_alloc zr133 hs rfl (fun ac w hs => ?_)))))
  refine O_store (i := 0) sz133 hs rfl rfl rfl rfl rfl (fun w hs => Ox gh <| Wr fun l7 gi => O_alloc zr135 hs rfl (fun ad w hs => O_store (i := 0) sz135 hs rfl rfl rfl rfl rfl (fun w hs => Ox gi <| Wr fun l8 gj => O_y rfl (Y_func rfl) <| O_y rfl (Y_build (cs := [.int .i64 1, .func (.func 92) #[] #[.pointer (some ⟨aa, 0, none⟩)]]) zr137 pl137 ((Parts.cons rfl rfl (Parts.cons rfl rfl Parts.nil))) ag137 (by kernel_rfl)) <| O_y rfl (Y_func rfl) <| O_y rfl (Y_build (cs := [.int .i64 2, .func (.func 94) #[] #[.pointer (some ⟨aa, 0, none⟩), .pointer (some ⟨ab, 0, none⟩)]]) zr137 pl137 ((Parts.cons rfl rfl (Parts.cons rfl rfl Parts.nil))) ag137 (by kernel_rfl)) <| O_y rfl (Y_func rfl) ?_)))
  refine O_y rfl (Y_build (cs := [.int .i64 3, .func (.func 96) #[] #[.pointer (some ⟨aa, 0, none⟩)]]) zr137 pl137 ((Parts.cons rfl rfl (Parts.cons rfl rfl Parts.nil))) ag137 (by kernel_rfl)) <| O_y rfl (Y_func rfl) <| O_y rfl (Y_build (cs := [.int .i64 4, .func (.func 98) #[] #[.pointer (some ⟨aa, 0, none⟩), .pointer (some ⟨ac, 0, none⟩)]]) zr137 pl137 ((Parts.cons rfl rfl (Parts.cons rfl rfl Parts.nil))) ag137 (by kernel_rfl)) <| O_y rfl (Y_func rfl) <| O_y rfl (Y_build (cs := [.int .i64 5, .func (.func 99) #[] #[.pointer (some ⟨aa, 0, none⟩), .pointer (some ⟨ac, 0, none⟩)]]) zr137 pl137 ((Parts.cons rfl rfl (Parts.cons rfl rfl Parts.nil))) ag137 (by kernel_rfl)) <| O_y rfl (Y_func rfl) <| O_y rfl (Y_build (cs := [.int .i64 6, .func (.func 102) #[] #[.pointer (some ⟨aa, 0, none⟩), .pointer (some ⟨ac, 0, none⟩)]]) zr137 pl137 ((Parts.cons rfl rfl (Parts.cons rfl rfl Parts.nil))) ag137 (by kernel_rfl)) <| O_y rfl (Y_func rfl) <| O_y rfl (Y_build (cs := [.int .i64 7, .func (.func 105) #[] #[.pointer (some ⟨aa, 0, none⟩), .pointer (some ⟨ab, 0, none⟩)]]) zr137 pl137 ((Parts.cons rfl rfl (Parts.cons rfl rfl Parts.nil))) ag137 (by kernel_rfl)) <| O_y rfl (Y_func rfl) <| O_y rfl (Y_build (cs := [.int .i64 8, .func (.func 107) #[] #[.pointer (some ⟨aa, 0, none⟩), .pointer (some ⟨ab, 0, none⟩)]]) zr137 pl137 ((Parts.cons rfl rfl (Parts.cons rfl rfl Parts.nil))) ag137 (by kernel_rfl)) <| O_y rfl (Y_func rfl) <| O_y rfl (Y_build (cs := [.int .i64 9, .func (.func 109) #[] #[.pointer (some ⟨aa, 0, none⟩), .pointer (some ⟨ab, 0, none⟩)]]) zr137 pl137 ((Parts.cons rfl rfl (Parts.cons rfl rfl Parts.nil))) ag137 (by kernel_rfl)) <| O_y rfl (Y_func rfl) ?_
  refine O_y rfl (Y_build (cs := [.int .i64 10, .func (.func 110) #[] #[.pointer (some ⟨aa, 0, none⟩), .pointer (some ⟨ab, 0, none⟩)]]) zr137 pl137 ((Parts.cons rfl rfl (Parts.cons rfl rfl Parts.nil))) ag137 (by kernel_rfl)) <| O_y rfl (Y_func rfl) <| O_y rfl (Y_build (cs := [.int .i64 11, .func (.func 111) #[] #[.pointer (some ⟨aa, 0, none⟩), .pointer (some ⟨ad, 0, none⟩)]]) zr137 pl137 ((Parts.cons rfl rfl (Parts.cons rfl rfl Parts.nil))) ag137 (by kernel_rfl)) <| O_y rfl (Y_func rfl) <| O_y rfl (Y_build (cs := [.int .i64 5, .func (.func 112) #[] #[.pointer (some ⟨aa, 0, none⟩)]]) zr137 pl137 ((Parts.cons rfl rfl (Parts.cons rfl rfl Parts.nil))) ag137 (by kernel_rfl)) <| O_lit (xs := [.tmp 12, .tmp 14, .tmp 16, .tmp 18, .tmp 20, .tmp 22, .tmp 24, .tmp 26, .tmp 28, .tmp 30, .tmp 32, .tmp 34]) el145 hs rfl rfl rfl (by decide) (by decide) rfl (sz_cons rfl (sz_cons rfl (sz_cons rfl (sz_cons rfl (sz_cons rfl (sz_cons rfl (sz_cons rfl (sz_cons rfl (sz_cons rfl (sz_cons rfl (sz_cons rfl (sz_cons rfl sz_nil)))))))))))) (fun ba w hs => As rfl <| Ox gj <| W.weak [(2, _), (7, _)] (T2 rfl) <| W_seq fun l9 gk => Wr fun ma gl => Mv rfl <| O_y rfl (Y_lenRow (i := 0) un145 hs rfl rfl) ?_)
  refine Mv rfl <| Ox gl <| W_block fun mb gm mc => W_unr <| WL_round fun md gn => Wr fun go ct => O_y rfl (Y_to (v' := .bool true) (Y_lss rfl rfl) (by kernel_rfl)) <| Ox ct <| W_seq fun gp cu => W_true rfl <| Wx cu <| W_seq fun gq cv => W_block fun gr gs gt => ?_
  refine W_seq fun gu cw => W_region ?_
  obtain ⟨gv, bp⟩ := hs.rowBlock (j := 0) rfl (by decide)
  refine O_y rfl (Y_ixRow (j := 0) el145 hs rfl bp rfl rfl (by decide) (by decide)) <| O_y rfl (Y_loadN ag137 sz137 rfl rfl (fun j u hu => hs.rowCell (j := 0) rfl bp ((get_part (o := 0) (k := 2) rfl) j u hu))) <| O_alloc zr137 hs rfl (fun ae w hs => O_storeN (i := 0) sz137 hs rfl rfl rfl rfl rfl (one_cons rfl (one_cons rfl one_nil)) (fun w hs => Ox cw <| Wr fun gw cx => Ofd fo137_1 rfl <| Obx 0 ag136 hs rfl ?_))
  have hs := hs.front 6 rfl
  obtain ⟨bc, cf, H⟩ := bnd H
  refine O_callv rfl rfl rfl (book_Check_4_mae.c hs ay az a0 a1 a2 a3 a4 a5 a6 a7 a8 cf) (fun gx w hpost => ?_)
  obtain ⟨rfl, hs⟩ := hpost
  have hs := hs.sink 6
  refine As rfl <| Ox cx <| Wr fun gy cy => Mv rfl <| Oge rfl <| Ox cy <| W.weak [(2, _), (9, _), (10, _), (36, _), (37, _), (38, _), (46, _)] sbn ?_
  refine W_if rfl (fun b2 => ?_) (fun b2 => ?_)
  ·rw [if_pos b2] at H
   refine Wr fun gz cz => Ofd fo137_0 rfl <| Obx 0 ag3 hs rfl <| Mv rfl <| O_y rfl (Y_build (cs := [.int .i64 1, .int .i64 bc]) zr100 pl100 ((Parts.cons rfl rfl (Parts.cons rfl rfl Parts.nil))) ag100 (by kernel_rfl)) <| O_storeN (i := 5) sz100 hs rfl rfl rfl rfl rfl (one_cons rfl (one_cons rfl one_nil)) (fun w hs => As rfl <| Ox cz <| W_ret ?_)
   obtain rfl := sinj H
   exact retc1 (i := 5) rfl rfl rfl ag100 sz100 hs rfl rfl ⟨_, _, rfl, Le.rfl' _, (hs.sub (ssk (ssk (ssk (ssk (ssk (ssk (ssk ssr)))))))), rfl⟩
  ·rw [if_neg b2] at H
   refine Wx cv <| W_region <| O_y rfl (Y_to (v' := .int .i64 1) (Y_add rfl rfl) (by kernel_rfl)) <| Mv rfl <| Ox gn <| WL.weak [(2, _), (36, _), (37, _), (38, _)] (T4 rfl) ?_
   have hs : St w0 ρ ((.box ae 137 ([.int .i64 1, .func (.func 92) #[] #[.pointer (some ⟨aa, 0, none⟩)]])) :: (.row (.slice (some ⟨ba, 0, none⟩) 12 12) 137 2 12 (book_Check.t90 aa ab ac ad)) :: (.box ad 135 ([.func (.func 90) #[] #[]])) :: (.box ac 133 ([.func (.func 88) #[] #[]])) :: (.box ab 133 ([.func (.func 87) #[] #[]])) :: (.box a9 100 ([.int .i64 0, .int .i64 0])) :: (.box aa 27 ([ak, al, am, an, ao, ap, aq, ar, au, av, aw])) :: Γ) w := hs
   refine WL_round fun ha da => Wr fun hb db => O_y rfl (Y_to (v' := .bool true) (Y_lss rfl rfl) (by kernel_rfl)) <| Ox db <| W_seq fun hc dc => W_true rfl <| Wx dc <| W_seq fun hd dd => W_block fun he hf hg => W_seq fun hh de => W_region ?_
   obtain ⟨hi, bq⟩ := hs.rowBlock (j := 1) rfl (by decide)
   refine O_y rfl (Y_ixRow (j := 1) el145 hs rfl bq rfl rfl (by decide) (by decide)) <| O_y rfl (Y_loadN ag137 sz137 rfl rfl (fun j u hu => hs.rowCell (j := 1) rfl bq ((get_part (o := 2) (k := 2) rfl) j u hu))) <| O_alloc zr137 hs rfl (fun af w hs => O_storeN (i := 0) sz137 hs rfl rfl rfl rfl rfl (one_cons rfl (one_cons rfl one_nil)) (fun w hs => Ox de <| Wr fun hj df => Ofd fo137_1 rfl <| Obx 0 ag136 hs rfl ?_))
   have hs := hs.front 5 rfl
   have hs := hs.front 7 rfl
   obtain ⟨bd, cg, H⟩ := bnd H
   refine O_callv rfl rfl rfl (book_Check_5_ion.c hs ay az a0 a1 a2 a3 a4 a5 a6 a7 a8 cg) (fun hk w hpost => ?_)
   obtain ⟨rfl, hs⟩ := hpost
   have hs := hs.sink 7
   have hs := hs.sink 5
   refine As rfl <| Ox df <| Wr fun hl dg => Mv rfl <| Oge rfl <| Ox dg <| W_if rfl (fun b3 => ?_) (fun b3 => ?_)
   ·rw [if_pos b3] at H
    refine Wr fun hm dh => Ofd fo137_0 rfl <| Obx 0 ag3 hs rfl <| Mv rfl <| O_y rfl (Y_build (cs := [.int .i64 2, .int .i64 bd]) zr100 pl100 ((Parts.cons rfl rfl (Parts.cons rfl rfl Parts.nil))) ag100 (by kernel_rfl)) <| O_storeN (i := 6) sz100 hs rfl rfl rfl rfl rfl (one_cons rfl (one_cons rfl one_nil)) (fun w hs => As rfl <| Ox dh <| W.weak [(2, _), (3, _)] (T2 rfl) <| W_ret ?_)
    obtain rfl := sinj H
    exact retc1 (i := 6) rfl rfl rfl ag100 sz100 hs rfl rfl ⟨_, _, rfl, Le.rfl' _, (hs.sub (ssk (ssk (ssk (ssk (ssk (ssk (ssk (ssk ssr))))))))), rfl⟩
   ·rw [if_neg b3] at H
    refine Wx dd <| W_region <| O_y rfl (Y_to (v' := .int .i64 2) (Y_add rfl rfl) (by kernel_rfl)) <| Mv rfl <| Ox da <| WL.weak [(2, _), (36, _), (37, _), (38, _)] (T4 rfl) ?_
    have hs : St w0 ρ ((.box af 137 ([.int .i64 2, .func (.func 94) #[] #[.pointer (some ⟨aa, 0, none⟩), .pointer (some ⟨ab, 0, none⟩)]])) :: (.box ae 137 ([.int .i64 1, .func (.func 92) #[] #[.pointer (some ⟨aa, 0, none⟩)]])) :: (.row (.slice (some ⟨ba, 0, none⟩) 12 12) 137 2 12 (book_Check.t90 aa ab ac ad)) :: (.box ad 135 ([.func (.func 90) #[] #[]])) :: (.box ac 133 ([.func (.func 88) #[] #[]])) :: (.box ab 133 ([.func (.func 87) #[] #[]])) :: (.box a9 100 ([.int .i64 0, .int .i64 0])) :: (.box aa 27 ([ak, al, am, an, ao, ap, aq, ar, au, av, aw])) :: Γ) w := hs
    refine WL_round fun hn di => Wr fun ho dj => O_y rfl (Y_to (v' := .bool true) (Y_lss rfl rfl) (by kernel_rfl)) <| Ox dj <| W_seq fun hp dk => W_true rfl <| Wx dk <| W_seq fun hq dl => W_block fun hr ht hv => W_seq fun hw dm => W_region ?_
    obtain ⟨hx, br⟩ := hs.rowBlock (j := 2) rfl (by decide)
    refine O_y rfl (Y_ixRow (j := 2) el145 hs rfl br rfl rfl (by decide) (by decide)) <| O_y rfl (Y_loadN ag137 sz137 rfl rfl (fun j u hu => hs.rowCell (j := 2) rfl br ((get_part (o := 4) (k := 2) rfl) j u hu))) <| O_alloc zr137 hs rfl (fun ag w hs => O_storeN (i := 0) sz137 hs rfl rfl rfl rfl rfl (one_cons rfl (one_cons rfl one_nil)) (fun w hs => Ox dm <| Wr fun hy dn => Ofd fo137_1 rfl <| Obx 0 ag136 hs rfl ?_))
    have hs := hs.front 8 rfl
    obtain ⟨be, ch, H⟩ := bnd H
    refine O_callv rfl rfl rfl (book_Check_6_mae.c hs ay az a0 a1 a2 a3 a4 a5 a6 a7 a8 ch) (fun hz w hpost => ?_)
    obtain ⟨rfl, hs⟩ := hpost
    have hs := hs.sink 8
    refine As rfl <| Ox dn <| Wr fun ia dp => Mv rfl <| Oge rfl <| Ox dp <| W_if rfl (fun b4 => ?_) (fun b4 => ?_)
    ·rw [if_pos b4] at H
     refine Wr fun ib dq => Ofd fo137_0 rfl <| Obx 0 ag3 hs rfl <| Mv rfl <| O_y rfl (Y_build (cs := [.int .i64 3, .int .i64 be]) zr100 pl100 ((Parts.cons rfl rfl (Parts.cons rfl rfl Parts.nil))) ag100 (by kernel_rfl)) <| O_storeN (i := 7) sz100 hs rfl rfl rfl rfl rfl (one_cons rfl (one_cons rfl one_nil)) (fun w hs => As rfl <| Ox dq <| W.weak [(2, _), (3, _)] (T2 rfl) <| W_ret ?_)
     obtain rfl := sinj H
     exact retc1 (i := 7) rfl rfl rfl ag100 sz100 hs rfl rfl ⟨_, _, rfl, Le.rfl' _, (hs.sub (ssk (ssk (ssk (ssk (ssk (ssk (ssk (ssk (ssk ssr)))))))))), rfl⟩
    ·rw [if_neg b4] at H
     refine Wx dl <| W_region <| O_y rfl (Y_to (v' := .int .i64 3) (Y_add rfl rfl) (by kernel_rfl)) <| Mv rfl <| Ox di <| WL.weak [(2, _), (36, _), (37, _), (38, _)] (T4 rfl) ?_
     have hs : St w0 ρ ((.box ag 137 ([.int .i64 3, .func (.func 96) #[] #[.pointer (some ⟨aa, 0, none⟩)]])) :: (.box af 137 ([.int .i64 2, .func (.func 94) #[] #[.pointer (some ⟨aa, 0, none⟩), .pointer (some ⟨ab, 0, none⟩)]])) :: (.box ae 137 ([.int .i64 1, .func (.func 92) #[] #[.pointer (some ⟨aa, 0, none⟩)]])) :: (.row (.slice (some ⟨ba, 0, none⟩) 12 12) 137 2 12 (book_Check.t90 aa ab ac ad)) :: (.box ad 135 ([.func (.func 90) #[] #[]])) :: (.box ac 133 ([.func (.func 88) #[] #[]])) :: (.box ab 133 ([.func (.func 87) #[] #[]])) :: (.box a9 100 ([.int .i64 0, .int .i64 0])) :: (.box aa 27 ([ak, al, am, an, ao, ap, aq, ar, au, av, aw])) :: Γ) w := hs
     refine WL_round fun ic dr => Wr fun id ds => O_y rfl (Y_to (v' := .bool true) (Y_lss rfl rfl) (by kernel_rfl)) <| Ox ds <| W_seq fun ie dt => W_true rfl <| Wx dt <| W_seq fun ig du => W_block fun ih ii ij => W_seq fun ik dv => W_region ?_
     obtain ⟨il, bs⟩ := hs.rowBlock (j := 3) rfl (by decide)
     refine O_y rfl (Y_ixRow (j := 3) el145 hs rfl bs rfl rfl (by decide) (by decide)) <| O_y rfl (Y_loadN ag137 sz137 rfl rfl (fun j u hu => hs.rowCell (j := 3) rfl bs ((get_part (o := 6) (k := 2) rfl) j u hu))) <| O_alloc zr137 hs rfl (fun ah w hs => O_storeN (i := 0) sz137 hs rfl rfl rfl rfl rfl (one_cons rfl (one_cons rfl one_nil)) (fun w hs => Ox dv <| Wr fun im dw => Ofd fo137_1 rfl <| Obx 0 ag136 hs rfl ?_))
     have hs := hs.front 6 rfl
     have hs := hs.front 9 rfl
     obtain ⟨bf, ci, H⟩ := bnd H
     refine O_callv rfl rfl rfl (book_Check_7_hpj.c hs ay az a0 a1 a2 a3 a4 a5 a6 a7 a8 ci) (fun io w hpost => ?_)
     obtain ⟨rfl, hs⟩ := hpost
     have hs := hs.sink 9
     have hs := hs.sink 6
     refine As rfl <| Ox dw <| Wr fun ip dx => Mv rfl <| Oge rfl <| Ox dx <| W_if rfl (fun b5 => ?_) (fun b5 => ?_)
     ·rw [if_pos b5] at H
      refine Wr fun iq dy => Ofd fo137_0 rfl <| Obx 0 ag3 hs rfl <| Mv rfl <| O_y rfl (Y_build (cs := [.int .i64 4, .int .i64 bf]) zr100 pl100 ((Parts.cons rfl rfl (Parts.cons rfl rfl Parts.nil))) ag100 (by kernel_rfl)) <| O_storeN (i := 8) sz100 hs rfl rfl rfl rfl rfl (one_cons rfl (one_cons rfl one_nil)) (fun w hs => As rfl <| Ox dy <| W.weak [(2, _), (3, _)] (T2 rfl) <| W_ret ?_)
      obtain rfl := sinj H
      exact retc1 (i := 8) rfl rfl rfl ag100 sz100 hs rfl rfl ⟨_, _, rfl, Le.rfl' _, (hs.sub (ssk (ssk (ssk (ssk (ssk (ssk (ssk (ssk (ssk (ssk ssr))))))))))), rfl⟩
     ·rw [if_neg b5] at H
      refine Wx du <| W_region <| O_y rfl (Y_to (v' := .int .i64 4) (Y_add rfl rfl) (by kernel_rfl)) <| Mv rfl <| Ox dr <| WL.weak [(2, _), (36, _), (37, _), (38, _)] (T4 rfl) ?_
      have hs : St w0 ρ ((.box ah 137 ([.int .i64 4, .func (.func 98) #[] #[.pointer (some ⟨aa, 0, none⟩), .pointer (some ⟨ac, 0, none⟩)]])) :: (.box ag 137 ([.int .i64 3, .func (.func 96) #[] #[.pointer (some ⟨aa, 0, none⟩)]])) :: (.box af 137 ([.int .i64 2, .func (.func 94) #[] #[.pointer (some ⟨aa, 0, none⟩), .pointer (some ⟨ab, 0, none⟩)]])) :: (.box ae 137 ([.int .i64 1, .func (.func 92) #[] #[.pointer (some ⟨aa, 0, none⟩)]])) :: (.row (.slice (some ⟨ba, 0, none⟩) 12 12) 137 2 12 (book_Check.t90 aa ab ac ad)) :: (.box ad 135 ([.func (.func 90) #[] #[]])) :: (.box ac 133 ([.func (.func 88) #[] #[]])) :: (.box ab 133 ([.func (.func 87) #[] #[]])) :: (.box a9 100 ([.int .i64 0, .int .i64 0])) :: (.box aa 27 ([ak, al, am, an, ao, ap, aq, ar, au, av, aw])) :: Γ) w := hs
      refine WL_round fun ir dz => Wr fun it ea => O_y rfl (Y_to (v' := .bool true) (Y_lss rfl rfl) (by kernel_rfl)) <| Ox ea <| W_seq fun iu eb => W_true rfl <| Wx eb <| W_seq fun iv ec => W_block fun iw ix iy => W_seq fun iz ed => W_region ?_
      obtain ⟨ja, bt⟩ := hs.rowBlock (j := 4) rfl (by decide)
      refine O_y rfl (Y_ixRow (j := 4) el145 hs rfl bt rfl rfl (by decide) (by decide)) <| O_y rfl (Y_loadN ag137 sz137 rfl rfl (fun j u hu => hs.rowCell (j := 4) rfl bt ((get_part (o := 8) (k := 2) rfl) j u hu))) <| O_alloc zr137 hs rfl (fun ai w hs => O_storeN (i := 0) sz137 hs rfl rfl rfl rfl rfl (one_cons rfl (one_cons rfl one_nil)) (fun w hs => Ox ed <| Wr fun jb ee => Ofd fo137_1 rfl <| Obx 0 ag136 hs rfl ?_))
      have hs := hs.front 7 rfl
      have hs := hs.front 10 rfl
      obtain ⟨bg, cj, H⟩ := bnd H
      refine O_callv rfl rfl rfl (book_Check_8_hpj.c hs ay az a0 a1 a2 a3 a4 a5 a6 a7 a8 cj) (fun jc w hpost => ?_)
      obtain ⟨rfl, hs⟩ := hpost
      have hs := hs.sink 10
      have hs := hs.sink 7
      refine As rfl <| Ox ee <| Wr fun jd ef => Mv rfl <| Oge rfl <| Ox ef <| W_if rfl (fun b6 => ?_) (fun b6 => ?_)
      ·rw [if_pos b6] at H
       refine Wr fun je eg => Ofd fo137_0 rfl <| Obx 0 ag3 hs rfl <| Mv rfl <| O_y rfl (Y_build (cs := [.int .i64 5, .int .i64 bg]) zr100 pl100 ((Parts.cons rfl rfl (Parts.cons rfl rfl Parts.nil))) ag100 (by kernel_rfl)) <| O_storeN (i := 9) sz100 hs rfl rfl rfl rfl rfl (one_cons rfl (one_cons rfl one_nil)) (fun w hs => As rfl <| Ox eg <| W.weak [(2, _), (3, _)] (T2 rfl) <| W_ret ?_)
       obtain rfl := sinj H
       exact retc1 (i := 9) rfl rfl rfl ag100 sz100 hs rfl rfl ⟨_, _, rfl, Le.rfl' _, (hs.sub (ssk (ssk (ssk (ssk (ssk (ssk (ssk (ssk (ssk (ssk (ssk ssr)))))))))))), rfl⟩
      ·rw [if_neg b6] at H
       refine Wx ec <| W_region <| O_y rfl (Y_to (v' := .int .i64 5) (Y_add rfl rfl) (by kernel_rfl)) <| Mv rfl <| Ox dz <| WL.weak [(2, _), (36, _), (37, _), (38, _)] (T4 rfl) ?_
       have hs : St w0 ρ ((.box ai 137 ([.int .i64 5, .func (.func 99) #[] #[.pointer (some ⟨aa, 0, none⟩), .pointer (some ⟨ac, 0, none⟩)]])) :: (.box ah 137 ([.int .i64 4, .func (.func 98) #[] #[.pointer (some ⟨aa, 0, none⟩), .pointer (some ⟨ac, 0, none⟩)]])) :: (.box ag 137 ([.int .i64 3, .func (.func 96) #[] #[.pointer (some ⟨aa, 0, none⟩)]])) :: (.box af 137 ([.int .i64 2, .func (.func 94) #[] #[.pointer (some ⟨aa, 0, none⟩), .pointer (some ⟨ab, 0, none⟩)]])) :: (.box ae 137 ([.int .i64 1, .func (.func 92) #[] #[.pointer (some ⟨aa, 0, none⟩)]])) :: (.row (.slice (some ⟨ba, 0, none⟩) 12 12) 137 2 12 (book_Check.t90 aa ab ac ad)) :: (.box ad 135 ([.func (.func 90) #[] #[]])) :: (.box ac 133 ([.func (.func 88) #[] #[]])) :: (.box ab 133 ([.func (.func 87) #[] #[]])) :: (.box a9 100 ([.int .i64 0, .int .i64 0])) :: (.box aa 27 ([ak, al, am, an, ao, ap, aq, ar, au, av, aw])) :: Γ) w := hs
       refine WL_round fun jf eh => Wr fun jg ei => O_y rfl (Y_to (v' := .bool true) (Y_lss rfl rfl) (by kernel_rfl)) <| Ox ei <| W_seq fun jh ej => W_true rfl <| Wx ej <| W_seq fun ji ek => W_block fun jj jk jl => W_seq fun jm el => W_region ?_
       obtain ⟨jn, bu⟩ := hs.rowBlock (j := 5) rfl (by decide)
       refine O_y rfl (Y_ixRow (j := 5) el145 hs rfl bu rfl rfl (by decide) (by decide)) <| O_y rfl (Y_loadN ag137 sz137 rfl rfl (fun j u hu => hs.rowCell (j := 5) rfl bu ((get_part (o := 10) (k := 2) rfl) j u hu))) <| O_alloc zr137 hs rfl (fun aj w hs => O_storeN (i := 0) sz137 hs rfl rfl rfl rfl rfl (one_cons rfl (one_cons rfl one_nil)) (fun w hs => Ox el <| Wr fun jo em => Ofd fo137_1 rfl <| Obx 0 ag136 hs rfl ?_))
       have hs := hs.front 8 rfl
       have hs := hs.front 11 rfl
       obtain ⟨bh, ck, H⟩ := bnd H
       refine O_callv rfl rfl rfl (book_Check_9_hpj.c hs ay az a0 a1 a2 a3 a4 a5 a6 a7 a8 ck) (fun jp w hpost => ?_)
       obtain ⟨rfl, hs⟩ := hpost
       have hs := hs.sink 11
       have hs := hs.sink 8
       refine As rfl <| Ox em <| Wr fun jq en => Mv rfl <| Oge rfl <| Ox en <| W_if rfl (fun b7 => ?_) (fun b7 => ?_)
       ·rw [if_pos b7] at H
        refine Wr fun jr eo => Ofd fo137_0 rfl <| Obx 0 ag3 hs rfl <| Mv rfl <| O_y rfl (Y_build (cs := [.int .i64 6, .int .i64 bh]) zr100 pl100 ((Parts.cons rfl rfl (Parts.cons rfl rfl Parts.nil))) ag100 (by kernel_rfl)) <| O_storeN (i := 10) sz100 hs rfl rfl rfl rfl rfl (one_cons rfl (one_cons rfl one_nil)) (fun w hs => As rfl <| Ox eo <| W.weak [(2, _), (3, _)] (T2 rfl) <| W_ret ?_)
        obtain rfl := sinj H
        exact retc1 (i := 10) rfl rfl rfl ag100 sz100 hs rfl rfl ⟨_, _, rfl, Le.rfl' _, (hs.sub (ssk (ssk (ssk (ssk (ssk (ssk (ssk (ssk (ssk (ssk (ssk (ssk ssr))))))))))))), rfl⟩
       ·rw [if_neg b7] at H
        refine Wx ek <| W_region <| O_y rfl (Y_to (v' := .int .i64 6) (Y_add rfl rfl) (by kernel_rfl)) <| Mv rfl <| Ox eh <| WL.weak [(2, _), (36, _), (37, _), (38, _)] (T4 rfl) ?_
        have hs : St w0 ρ ((.box aj 137 ([.int .i64 6, .func (.func 102) #[] #[.pointer (some ⟨aa, 0, none⟩), .pointer (some ⟨ac, 0, none⟩)]])) :: (.box ai 137 ([.int .i64 5, .func (.func 99) #[] #[.pointer (some ⟨aa, 0, none⟩), .pointer (some ⟨ac, 0, none⟩)]])) :: (.box ah 137 ([.int .i64 4, .func (.func 98) #[] #[.pointer (some ⟨aa, 0, none⟩), .pointer (some ⟨ac, 0, none⟩)]])) :: (.box ag 137 ([.int .i64 3, .func (.func 96) #[] #[.pointer (some ⟨aa, 0, none⟩)]])) :: (.box af 137 ([.int .i64 2, .func (.func 94) #[] #[.pointer (some ⟨aa, 0, none⟩), .pointer (some ⟨ab, 0, none⟩)]])) :: (.box ae 137 ([.int .i64 1, .func (.func 92) #[] #[.pointer (some ⟨aa, 0, none⟩)]])) :: (.row (.slice (some ⟨ba, 0, none⟩) 12 12) 137 2 12 (book_Check.t90 aa ab ac ad)) :: (.box ad 135 ([.func (.func 90) #[] #[]])) :: (.box ac 133 ([.func (.func 88) #[] #[]])) :: (.box ab 133 ([.func (.func 87) #[] #[]])) :: (.box a9 100 ([.int .i64 0, .int .i64 0])) :: (.box aa 27 ([ak, al, am, an, ao, ap, aq, ar, au, av, aw])) :: Γ) w := hs
        refine WL_round fun js ep => Wr fun jt eq => O_y rfl (Y_to (v' := .bool true) (Y_lss rfl rfl) (by kernel_rfl)) <| Ox eq <| W_seq fun ju er => W_true rfl <| Wx er <| W_seq fun jv es => W_block fun jw jx jy => W_seq fun jz et => W_region ?_
        obtain ⟨j0, bv⟩ := hs.rowBlock (j := 6) rfl (by decide)
        refine O_y rfl (Y_ixRow (j := 6) el145 hs rfl bv rfl rfl (by decide) (by decide)) <| O_y rfl (Y_loadN ag137 sz137 rfl rfl (fun j u hu => hs.rowCell (j := 6) rfl bv ((get_part (o := 12) (k := 2) rfl) j u hu))) <| O_alloc zr137 hs rfl (fun ax w hs => O_storeN (i := 0) sz137 hs rfl rfl rfl rfl rfl (one_cons rfl (one_cons rfl one_nil)) (fun w hs => Ox et <| Wr fun j1 eu => Ofd fo137_1 rfl <| Obx 0 ag136 hs rfl ?_))
        have hs := hs.front 10 rfl
        have hs := hs.front 12 rfl
        obtain ⟨bi, cl, H⟩ := bnd H
        refine O_callv rfl rfl rfl (book_Check_10_ion.c hs ay az a0 a1 a2 a3 a4 a5 a6 a7 a8 cl) (fun j2 w hpost => ?_)
        obtain ⟨rfl, hs⟩ := hpost
        have hs := hs.sink 12
        have hs := hs.sink 10
        refine As rfl <| Ox eu <| Wr fun j3 ev => Mv rfl <| Oge rfl <| Ox ev <| W_if rfl (fun b8 => ?_) (fun b8 => ?_)
        ·rw [if_pos b8] at H
         refine Wr fun j4 ew => Ofd fo137_0 rfl <| Obx 0 ag3 hs rfl <| Mv rfl <| O_y rfl (Y_build (cs := [.int .i64 7, .int .i64 bi]) zr100 pl100 ((Parts.cons rfl rfl (Parts.cons rfl rfl Parts.nil))) ag100 (by kernel_rfl)) <| O_storeN (i := 11) sz100 hs rfl rfl rfl rfl rfl (one_cons rfl (one_cons rfl one_nil)) (fun w hs => As rfl <| Ox ew <| W.weak [(2, _), (3, _)] (T2 rfl) <| W_ret ?_)
         obtain rfl := sinj H
         exact retc1 (i := 11) rfl rfl rfl ag100 sz100 hs rfl rfl ⟨_, _, rfl, Le.rfl' _, (hs.sub (ssk (ssk (ssk (ssk (ssk (ssk (ssk (ssk (ssk (ssk (ssk (ssk (ssk ssr)))))))))))))), rfl⟩
        ·rw [if_neg b8] at H
         refine Wx es <| W_region <| O_y rfl (Y_to (v' := .int .i64 7) (Y_add rfl rfl) (by kernel_rfl)) <| Mv rfl <| Ox ep <| WL.weak [(2, _), (36, _), (37, _), (38, _)] (T4 rfl) ?_
         have hs : St w0 ρ ((.box ax 137 ([.int .i64 7, .func (.func 105) #[] #[.pointer (some ⟨aa, 0, none⟩), .pointer (some ⟨ab, 0, none⟩)]])) :: (.box aj 137 ([.int .i64 6, .func (.func 102) #[] #[.pointer (some ⟨aa, 0, none⟩), .pointer (some ⟨ac, 0, none⟩)]])) :: (.box ai 137 ([.int .i64 5, .func (.func 99) #[] #[.pointer (some ⟨aa, 0, none⟩), .pointer (some ⟨ac, 0, none⟩)]])) :: (.box ah 137 ([.int .i64 4, .func (.func 98) #[] #[.pointer (some ⟨aa, 0, none⟩), .pointer (some ⟨ac, 0, none⟩)]])) :: (.box ag 137 ([.int .i64 3, .func (.func 96) #[] #[.pointer (some ⟨aa, 0, none⟩)]])) :: (.box af 137 ([.int .i64 2, .func (.func 94) #[] #[.pointer (some ⟨aa, 0, none⟩), .pointer (some ⟨ab, 0, none⟩)]])) :: (.box ae 137 ([.int .i64 1, .func (.func 92) #[] #[.pointer (some ⟨aa, 0, none⟩)]])) :: (.row (.slice (some ⟨ba, 0, none⟩) 12 12) 137 2 12 (book_Check.t90 aa ab ac ad)) :: (.box ad 135 ([.func (.func 90) #[] #[]])) :: (.box ac 133 ([.func (.func 88) #[] #[]])) :: (.box ab 133 ([.func (.func 87) #[] #[]])) :: (.box a9 100 ([.int .i64 0, .int .i64 0])) :: (.box aa 27 ([ak, al, am, an, ao, ap, aq, ar, au, av, aw])) :: Γ) w := hs
         refine WL_round fun j5 ex => Wr fun j6 ey => O_y rfl (Y_to (v' := .bool true) (Y_lss rfl rfl) (by kernel_rfl)) <| Ox ey <| W_seq fun j7 ez => W_true rfl <| Wx ez <| W_seq fun j8 e0 => W_block fun j9 ka kb => W_seq fun kc e1 => W_region ?_
         obtain ⟨kd, bw⟩ := hs.rowBlock (j := 7) rfl (by decide)
         refine O_y rfl (Y_ixRow (j := 7) el145 hs rfl bw rfl rfl (by decide) (by decide)) <| O_y rfl (Y_loadN ag137 sz137 rfl rfl (fun j u hu => hs.rowCell (j := 7) rfl bw ((get_part (o := 14) (k := 2) rfl) j u hu))) <| O_alloc zr137 hs rfl (fun bb w hs => O_storeN (i := 0) sz137 hs rfl rfl rfl rfl rfl (one_cons rfl (one_cons rfl one_nil)) (fun w hs => Ox e1 <| Wr fun ke e2 => Ofd fo137_1 rfl <| Obx 0 ag136 hs rfl ?_))
         have hs := hs.front 11 rfl
         have hs := hs.front 13 rfl
         obtain ⟨bj, cm, H⟩ := bnd H
         refine O_callv rfl rfl rfl (book_Check_11_ion.c hs ay az a0 a1 a2 a3 a4 a5 a6 a7 a8 cm) (fun kf w hpost => ?_)
         obtain ⟨rfl, hs⟩ := hpost
         have hs := hs.sink 13
         have hs := hs.sink 11
         refine As rfl <| Ox e2 <| Wr fun kg e3 => Mv rfl <| Oge rfl <| Ox e3 <| W_if rfl (fun b9 => ?_) (fun b9 => ?_)
         ·rw [if_pos b9] at H
          refine Wr fun kh e4 => Ofd fo137_0 rfl <| Obx 0 ag3 hs rfl <| Mv rfl <| O_y rfl (Y_build (cs := [.int .i64 8, .int .i64 bj]) zr100 pl100 ((Parts.cons rfl rfl (Parts.cons rfl rfl Parts.nil))) ag100 (by kernel_rfl)) <| O_storeN (i := 12) sz100 hs rfl rfl rfl rfl rfl (one_cons rfl (one_cons rfl one_nil)) (fun w hs => As rfl <| Ox e4 <| W.weak [(2, _), (3, _)] (T2 rfl) <| W_ret ?_)
          obtain rfl := sinj H
          exact retc1 (i := 12) rfl rfl rfl ag100 sz100 hs rfl rfl ⟨_, _, rfl, Le.rfl' _, (hs.sub (ssk (ssk (ssk (ssk (ssk (ssk (ssk (ssk (ssk (ssk (ssk (ssk (ssk (ssk ssr))))))))))))))), rfl⟩
         ·rw [if_neg b9] at H
          refine Wx e0 <| W_region <| O_y rfl (Y_to (v' := .int .i64 8) (Y_add rfl rfl) (by kernel_rfl)) <| Mv rfl <| Ox ex <| WL.weak [(2, _), (36, _), (37, _), (38, _)] (T4 rfl) ?_
          have hs : St w0 ρ ((.box bb 137 ([.int .i64 8, .func (.func 107) #[] #[.pointer (some ⟨aa, 0, none⟩), .pointer (some ⟨ab, 0, none⟩)]])) :: (.box ax 137 ([.int .i64 7, .func (.func 105) #[] #[.pointer (some ⟨aa, 0, none⟩), .pointer (some ⟨ab, 0, none⟩)]])) :: (.box aj 137 ([.int .i64 6, .func (.func 102) #[] #[.pointer (some ⟨aa, 0, none⟩), .pointer (some ⟨ac, 0, none⟩)]])) :: (.box ai 137 ([.int .i64 5, .func (.func 99) #[] #[.pointer (some ⟨aa, 0, none⟩), .pointer (some ⟨ac, 0, none⟩)]])) :: (.box ah 137 ([.int .i64 4, .func (.func 98) #[] #[.pointer (some ⟨aa, 0, none⟩), .pointer (some ⟨ac, 0, none⟩)]])) :: (.box ag 137 ([.int .i64 3, .func (.func 96) #[] #[.pointer (some ⟨aa, 0, none⟩)]])) :: (.box af 137 ([.int .i64 2, .func (.func 94) #[] #[.pointer (some ⟨aa, 0, none⟩), .pointer (some ⟨ab, 0, none⟩)]])) :: (.box ae 137 ([.int .i64 1, .func (.func 92) #[] #[.pointer (some ⟨aa, 0, none⟩)]])) :: (.row (.slice (some ⟨ba, 0, none⟩) 12 12) 137 2 12 (book_Check.t90 aa ab ac ad)) :: (.box ad 135 ([.func (.func 90) #[] #[]])) :: (.box ac 133 ([.func (.func 88) #[] #[]])) :: (.box ab 133 ([.func (.func 87) #[] #[]])) :: (.box a9 100 ([.int .i64 0, .int .i64 0])) :: (.box aa 27 ([ak, al, am, an, ao, ap, aq, ar, au, av, aw])) :: Γ) w := hs
          refine WL_round fun ki e5 => Wr fun kj e6 => O_y rfl (Y_to (v' := .bool true) (Y_lss rfl rfl) (by kernel_rfl)) <| Ox e6 <| W_seq fun kk e7 => W_true rfl <| Wx e7 <| W_seq fun kl e8 => W_block fun km kn ko => W_seq fun kp e9 => W_region ?_
          obtain ⟨kq, bx⟩ := hs.rowBlock (j := 8) rfl (by decide)
          refine O_y rfl (Y_ixRow (j := 8) el145 hs rfl bx rfl rfl (by decide) (by decide)) <| O_y rfl (Y_loadN ag137 sz137 rfl rfl (fun j u hu => hs.rowCell (j := 8) rfl bx ((get_part (o := 16) (k := 2) rfl) j u hu))) <| O_alloc zr137 hs rfl (fun bo w hs => O_storeN (i := 0) sz137 hs rfl rfl rfl rfl rfl (one_cons rfl (one_cons rfl one_nil)) (fun w hs => Ox e9 <| Wr fun kr fa => Ofd fo137_1 rfl <| Obx 0 ag136 hs rfl ?_))
          have hs := hs.front 12 rfl
          have hs := hs.front 14 rfl
          obtain ⟨bk, cn, H⟩ := bnd H
          refine O_callv rfl rfl rfl (book_Check_12_ion.c hs ay az a0 a1 a2 a3 a4 a5 a6 a7 a8 cn) (fun ks w hpost => ?_)
          obtain ⟨rfl, hs⟩ := hpost
          have hs := hs.sink 14
          have hs := hs.sink 12
          refine As rfl <| Ox fa <| Wr fun kt fb => Mv rfl <| Oge rfl <| Ox fb <| W_if rfl (fun ca => ?_) (fun ca => ?_)
          ·rw [if_pos ca] at H
           refine Wr fun ku fc => Ofd fo137_0 rfl <| Obx 0 ag3 hs rfl <| Mv rfl <| O_y rfl (Y_build (cs := [.int .i64 9, .int .i64 bk]) zr100 pl100 ((Parts.cons rfl rfl (Parts.cons rfl rfl Parts.nil))) ag100 (by kernel_rfl)) <| O_storeN (i := 13) sz100 hs rfl rfl rfl rfl rfl (one_cons rfl (one_cons rfl one_nil)) (fun w hs => As rfl <| Ox fc <| W.weak [(2, _), (3, _)] (T2 rfl) <| W_ret ?_)
           obtain rfl := sinj H
           exact retc1 (i := 13) rfl rfl rfl ag100 sz100 hs rfl rfl ⟨_, _, rfl, Le.rfl' _, (hs.sub (ssk (ssk (ssk (ssk (ssk (ssk (ssk (ssk (ssk (ssk (ssk (ssk (ssk (ssk (ssk ssr)))))))))))))))), rfl⟩
          ·rw [if_neg ca] at H
           refine Wx e8 <| W_region <| O_y rfl (Y_to (v' := .int .i64 9) (Y_add rfl rfl) (by kernel_rfl)) <| Mv rfl <| Ox e5 <| WL.weak [(2, _), (36, _), (37, _), (38, _)] (T4 rfl) ?_
           have hs : St w0 ρ ((.box bo 137 ([.int .i64 9, .func (.func 109) #[] #[.pointer (some ⟨aa, 0, none⟩), .pointer (some ⟨ab, 0, none⟩)]])) :: (.box bb 137 ([.int .i64 8, .func (.func 107) #[] #[.pointer (some ⟨aa, 0, none⟩), .pointer (some ⟨ab, 0, none⟩)]])) :: (.box ax 137 ([.int .i64 7, .func (.func 105) #[] #[.pointer (some ⟨aa, 0, none⟩), .pointer (some ⟨ab, 0, none⟩)]])) :: (.box aj 137 ([.int .i64 6, .func (.func 102) #[] #[.pointer (some ⟨aa, 0, none⟩), .pointer (some ⟨ac, 0, none⟩)]])) :: (.box ai 137 ([.int .i64 5, .func (.func 99) #[] #[.pointer (some ⟨aa, 0, none⟩), .pointer (some ⟨ac, 0, none⟩)]])) :: (.box ah 137 ([.int .i64 4, .func (.func 98) #[] #[.pointer (some ⟨aa, 0, none⟩), .pointer (some ⟨ac, 0, none⟩)]])) :: (.box ag 137 ([.int .i64 3, .func (.func 96) #[] #[.pointer (some ⟨aa, 0, none⟩)]])) :: (.box af 137 ([.int .i64 2, .func (.func 94) #[] #[.pointer (some ⟨aa, 0, none⟩), .pointer (some ⟨ab, 0, none⟩)]])) :: (.box ae 137 ([.int .i64 1, .func (.func 92) #[] #[.pointer (some ⟨aa, 0, none⟩)]])) :: (.row (.slice (some ⟨ba, 0, none⟩) 12 12) 137 2 12 (book_Check.t90 aa ab ac ad)) :: (.box ad 135 ([.func (.func 90) #[] #[]])) :: (.box ac 133 ([.func (.func 88) #[] #[]])) :: (.box ab 133 ([.func (.func 87) #[] #[]])) :: (.box a9 100 ([.int .i64 0, .int .i64 0])) :: (.box aa 27 ([ak, al, am, an, ao, ap, aq, ar, au, av, aw])) :: Γ) w := hs
           refine WL_round fun kv fd => Wr fun kw fe => O_y rfl (Y_to (v' := .bool true) (Y_lss rfl rfl) (by kernel_rfl)) <| Ox fe <| W_seq fun kx ff => W_true rfl <| Wx ff <| W_seq fun ky fg => W_block fun kz k0 k1 => W_seq fun k2 fh => W_region ?_
           obtain ⟨k3, bz⟩ := hs.rowBlock (j := 9) rfl (by decide)
           refine O_y rfl (Y_ixRow (j := 9) el145 hs rfl bz rfl rfl (by decide) (by decide)) <| O_y rfl (Y_loadN ag137 sz137 rfl rfl (fun j u hu => hs.rowCell (j := 9) rfl bz ((get_part (o := 18) (k := 2) rfl) j u hu))) <| O_alloc zr137 hs rfl (fun cb w hs => O_storeN (i := 0) sz137 hs rfl rfl rfl rfl rfl (one_cons rfl (one_cons rfl one_nil)) (fun w hs => Ox fh <| Wr fun k4 fi => Ofd fo137_1 rfl <| Obx 0 ag136 hs rfl ?_))
           have hs := hs.front 13 rfl
           have hs := hs.front 15 rfl
           obtain ⟨bl, co, H⟩ := bnd H
           refine O_callv rfl rfl rfl (book_Check_13_ion.c hs ay az a0 a1 a2 a3 a4 a5 a6 a7 a8 co) (fun k5 w hpost => ?_)
           obtain ⟨rfl, hs⟩ := hpost
           have hs := hs.sink 15
           have hs := hs.sink 13
           refine As rfl <| Ox fi <| Wr fun k6 fj => Mv rfl <| Oge rfl <| Ox fj <| W_if rfl (fun cc => ?_) (fun cc => ?_)
           ·rw [if_pos cc] at H
            refine Wr fun k7 fk => Ofd fo137_0 rfl <| Obx 0 ag3 hs rfl <| Mv rfl <| O_y rfl (Y_build (cs := [.int .i64 10, .int .i64 bl]) zr100 pl100 ((Parts.cons rfl rfl (Parts.cons rfl rfl Parts.nil))) ag100 (by kernel_rfl)) <| O_storeN (i := 14) sz100 hs rfl rfl rfl rfl rfl (one_cons rfl (one_cons rfl one_nil)) (fun w hs => As rfl <| Ox fk <| W.weak [(2, _), (3, _)] (T2 rfl) <| W_ret ?_)
            obtain rfl := sinj H
            exact retc1 (i := 14) rfl rfl rfl ag100 sz100 hs rfl rfl ⟨_, _, rfl, Le.rfl' _, (hs.sub (ssk (ssk (ssk (ssk (ssk (ssk (ssk (ssk (ssk (ssk (ssk (ssk (ssk (ssk (ssk (ssk ssr))))))))))))))))), rfl⟩
           ·rw [if_neg cc] at H
            refine Wx fg <| W_region <| O_y rfl (Y_to (v' := .int .i64 10) (Y_add rfl rfl) (by kernel_rfl)) <| Mv rfl <| Ox fd <| WL.weak [(2, _), (36, _), (37, _), (38, _)] (T4 rfl) ?_
            have hs : St w0 ρ ((.box cb 137 ([.int .i64 10, .func (.func 110) #[] #[.pointer (some ⟨aa, 0, none⟩), .pointer (some ⟨ab, 0, none⟩)]])) :: (.box bo 137 ([.int .i64 9, .func (.func 109) #[] #[.pointer (some ⟨aa, 0, none⟩), .pointer (some ⟨ab, 0, none⟩)]])) :: (.box bb 137 ([.int .i64 8, .func (.func 107) #[] #[.pointer (some ⟨aa, 0, none⟩), .pointer (some ⟨ab, 0, none⟩)]])) :: (.box ax 137 ([.int .i64 7, .func (.func 105) #[] #[.pointer (some ⟨aa, 0, none⟩), .pointer (some ⟨ab, 0, none⟩)]])) :: (.box aj 137 ([.int .i64 6, .func (.func 102) #[] #[.pointer (some ⟨aa, 0, none⟩), .pointer (some ⟨ac, 0, none⟩)]])) :: (.box ai 137 ([.int .i64 5, .func (.func 99) #[] #[.pointer (some ⟨aa, 0, none⟩), .pointer (some ⟨ac, 0, none⟩)]])) :: (.box ah 137 ([.int .i64 4, .func (.func 98) #[] #[.pointer (some ⟨aa, 0, none⟩), .pointer (some ⟨ac, 0, none⟩)]])) :: (.box ag 137 ([.int .i64 3, .func (.func 96) #[] #[.pointer (some ⟨aa, 0, none⟩)]])) :: (.box af 137 ([.int .i64 2, .func (.func 94) #[] #[.pointer (some ⟨aa, 0, none⟩), .pointer (some ⟨ab, 0, none⟩)]])) :: (.box ae 137 ([.int .i64 1, .func (.func 92) #[] #[.pointer (some ⟨aa, 0, none⟩)]])) :: (.row (.slice (some ⟨ba, 0, none⟩) 12 12) 137 2 12 (book_Check.t90 aa ab ac ad)) :: (.box ad 135 ([.func (.func 90) #[] #[]])) :: (.box ac 133 ([.func (.func 88) #[] #[]])) :: (.box ab 133 ([.func (.func 87) #[] #[]])) :: (.box a9 100 ([.int .i64 0, .int .i64 0])) :: (.box aa 27 ([ak, al, am, an, ao, ap, aq, ar, au, av, aw])) :: Γ) w := hs
            refine WL_round fun k8 fl => Wr fun k9 fm => O_y rfl (Y_to (v' := .bool true) (Y_lss rfl rfl) (by kernel_rfl)) <| Ox fm <| W_seq fun la fn => W_true rfl <| Wx fn <| W_seq fun lb fo => W_block fun lc ld le => W_seq fun lf fp => W_region ?_
            obtain ⟨lg, b0⟩ := hs.rowBlock (j := 10) rfl (by decide)
            refine O_y rfl (Y_ixRow (j := 10) el145 hs rfl b0 rfl rfl (by decide) (by decide)) <| O_y rfl (Y_loadN ag137 sz137 rfl rfl (fun j u hu => hs.rowCell (j := 10) rfl b0 ((get_part (o := 20) (k := 2) rfl) j u hu))) <| O_alloc zr137 hs rfl (fun cp w hs => O_storeN (i := 0) sz137 hs rfl rfl rfl rfl rfl (one_cons rfl (one_cons rfl one_nil)) (fun w hs => Ox fp <| Wr fun lh fq => Ofd fo137_1 rfl <| Obx 0 ag136 hs rfl ?_))
            have hs := hs.front 12 rfl
            have hs := hs.front 16 rfl
            obtain ⟨bm, cq, H⟩ := bnd H
            refine O_callv rfl rfl rfl (book_Check_14_gdi.c hs ay az a0 a1 a2 a3 a4 a5 a6 a7 a8 cq) (fun li w hpost => ?_)
            obtain ⟨rfl, hs⟩ := hpost
            have hs := hs.sink 16
            have hs := hs.sink 12
            refine As rfl <| Ox fq <| Wr fun lj fr => Mv rfl <| Oge rfl <| Ox fr <| W_if rfl (fun cd => ?_) (fun cd => ?_)
            ·rw [if_pos cd] at H
             refine Wr fun lk fs => Ofd fo137_0 rfl <| Obx 0 ag3 hs rfl <| Mv rfl <| O_y rfl (Y_build (cs := [.int .i64 11, .int .i64 bm]) zr100 pl100 ((Parts.cons rfl rfl (Parts.cons rfl rfl Parts.nil))) ag100 (by kernel_rfl)) <| O_storeN (i := 15) sz100 hs rfl rfl rfl rfl rfl (one_cons rfl (one_cons rfl one_nil)) (fun w hs => As rfl <| Ox fs <| W.weak [(2, _), (3, _)] (T2 rfl) <| W_ret ?_)
             obtain rfl := sinj H
             exact retc1 (i := 15) rfl rfl rfl ag100 sz100 hs rfl rfl ⟨_, _, rfl, Le.rfl' _, (hs.sub (ssk (ssk (ssk (ssk (ssk (ssk (ssk (ssk (ssk (ssk (ssk (ssk (ssk (ssk (ssk (ssk (ssk ssr)))))))))))))))))), rfl⟩
            ·rw [if_neg cd] at H
             refine Wx fo <| W_region <| O_y rfl (Y_to (v' := .int .i64 11) (Y_add rfl rfl) (by kernel_rfl)) <| Mv rfl <| Ox fl <| WL.weak [(2, _), (36, _), (37, _), (38, _)] (T4 rfl) ?_
             have hs : St w0 ρ ((.box cp 137 ([.int .i64 11, .func (.func 111) #[] #[.pointer (some ⟨aa, 0, none⟩), .pointer (some ⟨ad, 0, none⟩)]])) :: (.box cb 137 ([.int .i64 10, .func (.func 110) #[] #[.pointer (some ⟨aa, 0, none⟩), .pointer (some ⟨ab, 0, none⟩)]])) :: (.box bo 137 ([.int .i64 9, .func (.func 109) #[] #[.pointer (some ⟨aa, 0, none⟩), .pointer (some ⟨ab, 0, none⟩)]])) :: (.box bb 137 ([.int .i64 8, .func (.func 107) #[] #[.pointer (some ⟨aa, 0, none⟩), .pointer (some ⟨ab, 0, none⟩)]])) :: (.box ax 137 ([.int .i64 7, .func (.func 105) #[] #[.pointer (some ⟨aa, 0, none⟩), .pointer (some ⟨ab, 0, none⟩)]])) :: (.box aj 137 ([.int .i64 6, .func (.func 102) #[] #[.pointer (some ⟨aa, 0, none⟩), .pointer (some ⟨ac, 0, none⟩)]])) :: (.box ai 137 ([.int .i64 5, .func (.func 99) #[] #[.pointer (some ⟨aa, 0, none⟩), .pointer (some ⟨ac, 0, none⟩)]])) :: (.box ah 137 ([.int .i64 4, .func (.func 98) #[] #[.pointer (some ⟨aa, 0, none⟩), .pointer (some ⟨ac, 0, none⟩)]])) :: (.box ag 137 ([.int .i64 3, .func (.func 96) #[] #[.pointer (some ⟨aa, 0, none⟩)]])) :: (.box af 137 ([.int .i64 2, .func (.func 94) #[] #[.pointer (some ⟨aa, 0, none⟩), .pointer (some ⟨ab, 0, none⟩)]])) :: (.box ae 137 ([.int .i64 1, .func (.func 92) #[] #[.pointer (some ⟨aa, 0, none⟩)]])) :: (.row (.slice (some ⟨ba, 0, none⟩) 12 12) 137 2 12 (book_Check.t90 aa ab ac ad)) :: (.box ad 135 ([.func (.func 90) #[] #[]])) :: (.box ac 133 ([.func (.func 88) #[] #[]])) :: (.box ab 133 ([.func (.func 87) #[] #[]])) :: (.box a9 100 ([.int .i64 0, .int .i64 0])) :: (.box aa 27 ([ak, al, am, an, ao, ap, aq, ar, au, av, aw])) :: Γ) w := hs
             refine WL_round fun ll ft => Wr fun lm fu => O_y rfl (Y_to (v' := .bool true) (Y_lss rfl rfl) (by kernel_rfl)) <| Ox fu <| W_seq fun ln fv => W_true rfl <| Wx fv <| W_seq fun lo fw => W_block fun lp lq lr => W_seq fun ls fx => W_region ?_
             obtain ⟨lt, b1⟩ := hs.rowBlock (j := 11) rfl (by decide)
             refine O_y rfl (Y_ixRow (j := 11) el145 hs rfl b1 rfl rfl (by decide) (by decide)) <| O_y rfl (Y_loadN ag137 sz137 rfl rfl (fun j u hu => hs.rowCell (j := 11) rfl b1 ((get_part (o := 22) (k := 2) rfl) j u hu))) <| O_alloc zr137 hs rfl (fun fy w hs => O_storeN (i := 0) sz137 hs rfl rfl rfl rfl rfl (one_cons rfl (one_cons rfl one_nil)) (fun w hs => Ox fx <| Wr fun lu fz => Ofd fo137_1 rfl <| Obx 0 ag136 hs rfl ?_))
             have hs := hs.front 17 rfl
             obtain ⟨bn, cr, H⟩ := bnd H
             refine O_callv rfl rfl rfl (book_Check_15_mae.c hs ay az a0 a1 a2 a3 a4 a5 a6 a7 a8 cr) (fun lv w hpost => ?_)
             obtain ⟨rfl, hs⟩ := hpost
             have hs := hs.sink 17
             refine As rfl <| Ox fz <| Wr fun lw ga => Mv rfl <| Oge rfl <| Ox ga <| W_if rfl (fun ce => ?_) (fun ce => ?_)
             ·rw [if_pos ce] at H
              refine Wr fun lx gb => Ofd fo137_0 rfl <| Obx 0 ag3 hs rfl <| Mv rfl <| O_y rfl (Y_build (cs := [.int .i64 5, .int .i64 bn]) zr100 pl100 ((Parts.cons rfl rfl (Parts.cons rfl rfl Parts.nil))) ag100 (by kernel_rfl)) <| O_storeN (i := 16) sz100 hs rfl rfl rfl rfl rfl (one_cons rfl (one_cons rfl one_nil)) (fun w hs => As rfl <| Ox gb <| W.weak [(2, _), (3, _)] (T2 rfl) <| W_ret ?_)
              obtain rfl := sinj H
              exact retc1 (i := 16) rfl rfl rfl ag100 sz100 hs rfl rfl ⟨_, _, rfl, Le.rfl' _, (hs.sub (ssk (ssk (ssk (ssk (ssk (ssk (ssk (ssk (ssk (ssk (ssk (ssk (ssk (ssk (ssk (ssk (ssk (ssk ssr))))))))))))))))))), rfl⟩
             ·rw [if_neg ce] at H
              refine Wx fw <| W_region <| O_y rfl (Y_to (v' := .int .i64 12) (Y_add rfl rfl) (by kernel_rfl)) <| Mv rfl <| Ox ft <| WL.weak [(2, _), (36, _), (37, _), (38, _)] (T4 rfl) ?_
              have hs : St w0 ρ ((.box fy 137 ([.int .i64 5, .func (.func 112) #[] #[.pointer (some ⟨aa, 0, none⟩)]])) :: (.box cp 137 ([.int .i64 11, .func (.func 111) #[] #[.pointer (some ⟨aa, 0, none⟩), .pointer (some ⟨ad, 0, none⟩)]])) :: (.box cb 137 ([.int .i64 10, .func (.func 110) #[] #[.pointer (some ⟨aa, 0, none⟩), .pointer (some ⟨ab, 0, none⟩)]])) :: (.box bo 137 ([.int .i64 9, .func (.func 109) #[] #[.pointer (some ⟨aa, 0, none⟩), .pointer (some ⟨ab, 0, none⟩)]])) :: (.box bb 137 ([.int .i64 8, .func (.func 107) #[] #[.pointer (some ⟨aa, 0, none⟩), .pointer (some ⟨ab, 0, none⟩)]])) :: (.box ax 137 ([.int .i64 7, .func (.func 105) #[] #[.pointer (some ⟨aa, 0, none⟩), .pointer (some ⟨ab, 0, none⟩)]])) :: (.box aj 137 ([.int .i64 6, .func (.func 102) #[] #[.pointer (some ⟨aa, 0, none⟩), .pointer (some ⟨ac, 0, none⟩)]])) :: (.box ai 137 ([.int .i64 5, .func (.func 99) #[] #[.pointer (some ⟨aa, 0, none⟩), .pointer (some ⟨ac, 0, none⟩)]])) :: (.box ah 137 ([.int .i64 4, .func (.func 98) #[] #[.pointer (some ⟨aa, 0, none⟩), .pointer (some ⟨ac, 0, none⟩)]])) :: (.box ag 137 ([.int .i64 3, .func (.func 96) #[] #[.pointer (some ⟨aa, 0, none⟩)]])) :: (.box af 137 ([.int .i64 2, .func (.func 94) #[] #[.pointer (some ⟨aa, 0, none⟩), .pointer (some ⟨ab, 0, none⟩)]])) :: (.box ae 137 ([.int .i64 1, .func (.func 92) #[] #[.pointer (some ⟨aa, 0, none⟩)]])) :: (.row (.slice (some ⟨ba, 0, none⟩) 12 12) 137 2 12 (book_Check.t90 aa ab ac ad)) :: (.box ad 135 ([.func (.func 90) #[] #[]])) :: (.box ac 133 ([.func (.func 88) #[] #[]])) :: (.box ab 133 ([.func (.func 87) #[] #[]])) :: (.box a9 100 ([.int .i64 0, .int .i64 0])) :: (.box aa 27 ([ak, al, am, an, ao, ap, aq, ar, au, av, aw])) :: Γ) w := hs
              refine WL_round fun ly lz => Wr fun l0 gc => O_y rfl (Y_to (v' := .bool false) (Y_lss rfl rfl) (by kernel_rfl)) <| Ox gc <| W_seq fun l1 l2 => W_false rfl <| W_exit (gm _ _ (gk _ _ <| Wr fun l3 gd => O_y rfl (Y_build (cs := [.int .i64 0, .int .i64 0]) zr100 pl100 (Parts.nil) ag100 (by kernel_rfl)) <| O_storeN (i := 16) sz100 hs rfl rfl rfl rfl rfl (one_cons rfl (one_cons rfl one_nil)) (fun w hs => As rfl <| O_nil (gd _ _ ?_))))
              refine W_ret ?_
              obtain rfl := sinj H
              exact retc1 (i := 16) rfl rfl rfl ag100 sz100 hs rfl rfl ⟨_, _, rfl, Le.rfl' _, (hs.sub (ssk (ssk (ssk (ssk (ssk (ssk (ssk (ssk (ssk (ssk (ssk (ssk (ssk (ssk (ssk (ssk (ssk (ssk ssr))))))))))))))))))), rfl⟩

def slices_Clone_string_string.f (x0 : List ByteArray) : Option (List ByteArray) := if ([] : List ByteArray).length + x0.length ≤ most then (some (([] : List ByteArray) ++ x0)) else none
theorem slices_Clone_string_string.c (hs : St w0 ρ Γ w) {v0 : Value} {x0 : List ByteArray} (h0 : SlR Rep.str ρ v0 x0) {r : List ByteArray} (H : slices_Clone_string_string.f x0 = some r) : CallsR Tryz.prog 114 [v0] w (fun v w' => ∃ (ρ' : Hp) (v0 : Value) (cs0 : List Value), v = v0 ∧ Le ρ ρ' ∧ St w0 ρ' (.row v0 9 Rep.str.sz r.length cs0 :: Γ) w' ∧ RowR Rep.str ρ' cs0 r) := by
  rw [slices_Clone_string_string.f] at H
  refine Et Tryz.func114 Tryz.ntmps114 rfl <| Wr fun an af => As rfl <| Ox af <| W_seq fun ao ag => Wr fun ap ae => Mv rfl ?_
  obtain ⟨ad, c, rfl⟩ := h0.shape
  cases ad with
  | none =>
    obtain rfl : x0 = [] := h0.nilEmpty
    refine O_y rfl (Y_eqlsl un22 rfl rfl) <| Ox ae <| W_true rfl <| Wr fun ah aa => As rfl <| Ox aa <| W_ret ?_
    rw [if_pos (by decide)] at H
    obtain rfl := sinj H
    have hs := hs.rowNil 9 Rep.str.sz
    exact r1 rfl ⟨_, _, _, rfl, Le.rfl' _, hs, RowR.nil _ _⟩
  | some ad =>
    refine O_y rfl (Y_eqlsl un22 rfl rfl) <| Ox ae <| W_false rfl <| Wx ag <| Wr fun ah aa => O_lit (xs := []) el22 hs rfl rfl rfl (by decide) (by decide) rfl sz_nil (fun aq w hs => ?_)
    have ai : RowR Rep.str ρ [] ([] : List ByteArray) := RowR.nil _ _
    refine Mv rfl ?_
    obtain ⟨aj, ab, ac⟩ := Src.sl hs h0
    obtain ⟨ak, H⟩ := gd H
    refine O_appendR (i := 0) el22 hs rfl ai rfl rfl rfl ab ac ak (fun ar al w am hs => As rfl <| Ox aa <| W_ret ?_)
    obtain rfl := sinj H
    exact r1 rfl ⟨_, _, _, rfl, Le.rfl' _, hs, am⟩

def slices_Clone_api_Value_api_Value.f (x0 : List Val) : Option (List Val) := if ([] : List Val).length + x0.length ≤ most then (some (([] : List Val) ++ x0)) else none
theorem slices_Clone_api_Value_api_Value.c (hs : St w0 ρ Γ w) {v0 : Value} {x0 : List Val} (h0 : SlR rVal ρ v0 x0) {r : List Val} (H : slices_Clone_api_Value_api_Value.f x0 = some r) : CallsR Tryz.prog 115 [v0] w (fun v w' => ∃ (ρ' : Hp) (v0 : Value) (cs0 : List Value), v = v0 ∧ Le ρ ρ' ∧ St w0 ρ' (.row v0 67 rVal.sz r.length cs0 :: Γ) w' ∧ RowR rVal ρ' cs0 r) := by
  rw [slices_Clone_api_Value_api_Value.f] at H
  refine Et Tryz.func115 Tryz.ntmps115 rfl <| Wr fun an af => As rfl <| Ox af <| W_seq fun ao ag => Wr fun ap ae => Mv rfl ?_
  obtain ⟨ad, c, rfl⟩ := h0.shape
  cases ad with
  | none =>
    obtain rfl : x0 = [] := h0.nilEmpty
    refine O_y rfl (Y_eqlsl un23 rfl rfl) <| Ox ae <| W_true rfl <| Wr fun ah aa => As rfl <| Ox aa <| W_ret ?_
    rw [if_pos (by decide)] at H
    obtain rfl := sinj H
    have hs := hs.rowNil 67 rVal.sz
    exact r1 rfl ⟨_, _, _, rfl, Le.rfl' _, hs, RowR.nil _ _⟩
  | some ad =>
    refine O_y rfl (Y_eqlsl un23 rfl rfl) <| Ox ae <| W_false rfl <| Wx ag <| Wr fun ah aa => O_lit (xs := []) el23 hs rfl rfl rfl (by decide) (by decide) rfl sz_nil (fun aq w hs => ?_)
    have ai : RowR rVal ρ [] ([] : List Val) := RowR.nil _ _
    refine Mv rfl ?_
    obtain ⟨aj, ab, ac⟩ := Src.sl hs h0
    obtain ⟨ak, H⟩ := gd H
    refine O_appendR (i := 0) el23 hs rfl ai rfl rfl rfl ab ac ak (fun ar al w am hs => As rfl <| Ox aa <| W_ret ?_)
    obtain rfl := sinj H
    exact r1 rfl ⟨_, _, _, rfl, Le.rfl' _, hs, am⟩

def slices_Clone_api_Chars_api_Chars.f (x0 : List Chs) : Option (List Chs) := if ([] : List Chs).length + x0.length ≤ most then (some (([] : List Chs) ++ x0)) else none
theorem slices_Clone_api_Chars_api_Chars.c (hs : St w0 ρ Γ w) {v0 : Value} {x0 : List Chs} (h0 : SlR rChs ρ v0 x0) {r : List Chs} (H : slices_Clone_api_Chars_api_Chars.f x0 = some r) : CallsR Tryz.prog 150 [v0] w (fun v w' => ∃ (ρ' : Hp) (v0 : Value) (cs0 : List Value), v = v0 ∧ Le ρ ρ' ∧ St w0 ρ' (.row v0 110 rChs.sz r.length cs0 :: Γ) w' ∧ RowR rChs ρ' cs0 r) := by
  rw [slices_Clone_api_Chars_api_Chars.f] at H
  refine Et Tryz.func150 Tryz.ntmps150 rfl <| Wr fun an af => As rfl <| Ox af <| W_seq fun ao ag => Wr fun ap ae => Mv rfl ?_
  obtain ⟨ad, c, rfl⟩ := h0.shape
  cases ad with
  | none =>
    obtain rfl : x0 = [] := h0.nilEmpty
    refine O_y rfl (Y_eqlsl un24 rfl rfl) <| Ox ae <| W_true rfl <| Wr fun ah aa => As rfl <| Ox aa <| W_ret ?_
    rw [if_pos (by decide)] at H
    obtain rfl := sinj H
    have hs := hs.rowNil 110 rChs.sz
    exact r1 rfl ⟨_, _, _, rfl, Le.rfl' _, hs, RowR.nil _ _⟩
  | some ad =>
    refine O_y rfl (Y_eqlsl un24 rfl rfl) <| Ox ae <| W_false rfl <| Wx ag <| Wr fun ah aa => O_lit (xs := []) el24 hs rfl rfl rfl (by decide) (by decide) rfl sz_nil (fun aq w hs => ?_)
    have ai : RowR rChs ρ [] ([] : List Chs) := RowR.nil _ _
    refine Mv rfl ?_
    obtain ⟨aj, ab, ac⟩ := Src.sl hs h0
    obtain ⟨ak, H⟩ := gd H
    refine O_appendR (i := 0) el24 hs rfl ai rfl rfl rfl ab ac ak (fun ar al w am hs => As rfl <| Ox aa <| W_ret ?_)
    obtain rfl := sinj H
    exact r1 rfl ⟨_, _, _, rfl, Le.rfl' _, hs, am⟩

def slices_Clone_rune_rune.f (x0 : List Int) : Option (List Int) := if ([] : List Int).length + x0.length ≤ most then (some (([] : List Int) ++ x0)) else none
theorem slices_Clone_rune_rune.c (hs : St w0 ρ Γ w) {v0 : Value} {x0 : List Int} (h0 : SlR (Rep.int .i32) ρ v0 x0) {r : List Int} (H : slices_Clone_rune_rune.f x0 = some r) : CallsR Tryz.prog 30 [v0] w (fun v w' => ∃ (ρ' : Hp) (v0 : Value) (cs0 : List Value), v = v0 ∧ Le ρ ρ' ∧ St w0 ρ' (.row v0 21 (Rep.int .i32).sz r.length cs0 :: Γ) w' ∧ RowR (Rep.int .i32) ρ' cs0 r) := by
  rw [slices_Clone_rune_rune.f] at H
  refine Et Tryz.func30 Tryz.ntmps30 rfl <| Wr fun an af => As rfl <| Ox af <| W_seq fun ao ag => Wr fun ap ae => Mv rfl ?_
  obtain ⟨ad, c, rfl⟩ := h0.shape
  cases ad with
  | none =>
    obtain rfl : x0 = [] := h0.nilEmpty
    refine O_y rfl (Y_eqlsl un28 rfl rfl) <| Ox ae <| W_true rfl <| Wr fun ah aa => As rfl <| Ox aa <| W_ret ?_
    rw [if_pos (by decide)] at H
    obtain rfl := sinj H
    have hs := hs.rowNil 21 (Rep.int .i32).sz
    exact r1 rfl ⟨_, _, _, rfl, Le.rfl' _, hs, RowR.nil _ _⟩
  | some ad =>
    refine O_y rfl (Y_eqlsl un28 rfl rfl) <| Ox ae <| W_false rfl <| Wx ag <| Wr fun ah aa => O_lit (xs := []) el28 hs rfl rfl rfl (by decide) (by decide) rfl sz_nil (fun aq w hs => ?_)
    have ai : RowR (Rep.int .i32) ρ [] ([] : List Int) := RowR.nil _ _
    refine Mv rfl ?_
    obtain ⟨aj, ab, ac⟩ := Src.sl hs h0
    obtain ⟨ak, H⟩ := gd H
    refine O_appendR (i := 0) el28 hs rfl ai rfl rfl rfl ab ac ak (fun ar al w am hs => As rfl <| Ox aa <| W_ret ?_)
    obtain rfl := sinj H
    exact r1 rfl ⟨_, _, _, rfl, Le.rfl' _, hs, am⟩

def book_own.l1 : Nat → List Chs → List Chs → Int → Option (List Chs)
  | 0, _, _, _ => none
  | af + 1, aj, aa, ab => if ab < (aj.length : Int) then (if (0 : Int) ≤ ab ∧ ab < (aa.length : Int) then ((slices_Clone_rune_rune.f ((rd aa ab).is_)).bind fun ar => ((book_own.l1 af aj) (aa.set ab.toNat ({ (rd aa ab) with is_ := ar } : Chs)) (IntKind.i64.wrap (ab + 1)))) else none) else (some aa)
def book_own.f (x0 : List Chs) : Option (List Chs) := (slices_Clone_api_Chars_api_Chars.f x0).bind fun aj => (book_own.l1 K0 aj aj 0)
theorem book_own.c (hs : St w0 ρ (Γ) w) {v0 : Value} {x0 : List Chs} (h0 : SlR rChs ρ v0 x0) {r : List Chs} (H : book_own.f x0 = some r) : CallsR Tryz.prog 116 [v0] w (fun v w' => ∃ (ρ' : Hp) (v0 : Value) (cs0 : List Value), v = v0 ∧ Le ρ ρ' ∧ St w0 ρ' (.row v0 110 rChs.sz r.length cs0 :: Γ) w' ∧ RowR rChs ρ' cs0 r) := by
  rw [book_own.f] at H
  refine Et Tryz.func116 Tryz.ntmps116 rfl <| Wr fun bo a5 => As rfl <| Ox a5 <| Wr fun bp a6 => Mv rfl ?_
  obtain ⟨aj, au, H⟩ := bnd H
  refine Oc rfl (slices_Clone_api_Chars_api_Chars.c hs h0 au) (fun a7 w hpost => ?_)
  obtain ⟨a3, bq, av, rfl, aw, hs, a8⟩ := hpost
  refine As rfl <| Ox a6 <| W_seq fun br a9 => Wr fun bs ba => Mv rfl <| O_y rfl (Y_lenRow (i := 0) un24 hs rfl rfl) <| Mv rfl <| Ox ba <| W_block fun bt bb bu => W_loop (σ := Nat × List Chs × Int × Value × List Value × Hp) (fun (af, aa, ab, ac, ad, ah) => [(3, ac), (8, .int .i64 (aj.length : Int)), (9, .int .i64 ab)]) (fun (af, aa, ab, ac, ad, ah) w => book_own.l1 af aj aa ab = some r ∧ Le a3 ah ∧ St w0 ah ((.row ac 110 rChs.sz aa.length ad) :: Γ) w ∧ RowR rChs ah ad aa) (fun s => s.1) (K0, aj, 0, a7, av, a3) (T3 rfl) (Ai H (Ai (Le.rfl' _) (Ai hs a8))) ?_
  rintro ⟨af, aa, ab, ac, ad, ah⟩ w bv ⟨H, ak, hs, ae⟩ an
  show W _ _ _ _ _ _ [(3, ac), (8, .int .i64 (aj.length : Int)), (9, .int .i64 ab)] w
  cases af with
  | zero => rw [book_own.l1] at H; cases H
  | succ af =>
  rw [book_own.l1] at H
  refine Wr fun bw bc => Ols rfl <| Ox bc <| W_seq fun bx bd => W_if rfl (fun ax => ?_) (fun ax => ?_)
  ·rw [if_pos ax] at H
   refine Wx bd <| W_seq fun bz be => W_block fun b0 b1 b2 => Wr fun b3 bf => Mv rfl <| As rfl <| Ox bf <| W_region <| Mv rfl <| Mv rfl <| Mv rfl <| Mv rfl ?_
   obtain ⟨ag, H⟩ := gd H
   obtain ⟨b4, ao⟩ := hs.rowBlock (j := 0) rfl (by have := ag.2; omega)
   obtain ⟨_, ⟨b5, rfl, bg⟩, ay⟩ := ae.at ag.1 ag.2
   refine O_y rfl (Y_ixRow (j := 0) el24 hs rfl ao rfl rfl ag.1 ag.2) <| Ofd fo110_2 rfl <| O_y rfl (Y_load ag28 rfl (hs.rowCell (j := 0) rfl ao (ay 2 _ rfl))) ?_
   obtain ⟨ar, az, H⟩ := bnd H
   refine Oc rfl (slices_Clone_rune_rune.c hs bg az) (fun b6 w hpost => ?_)
   obtain ⟨bh, b7, bi, rfl, ai, hs, bj⟩ := hpost
   obtain ⟨bk, al⟩ := hs.rowBlock (j := 1) rfl (by have := ag.2; omega)
   obtain ⟨_, ⟨bl, rfl, bm⟩, a4⟩ := (ae.mono ai).at ag.1 ag.2
   refine O_y rfl (Y_ixRow (j := 1) el24 hs rfl al rfl rfl ag.1 ag.2) <| Ofd fo110_2 rfl ?_
   obtain ⟨a0, am, hs, ap⟩ := hs.rowEnd (j := 0) bj rfl
   refine O_storeRowF (j := 0) (off := 2) (z := ({ (rd aa ab) with is_ := ar } : Chs)) sz28 hs rfl al ag.1 ag.2 (by decide) (ae.mono (ai.trans am)) rfl rfl ap.one (fun c h => by obtain ⟨v_2, rfl, f_2⟩ := h; exact ⟨_, rfl, ap⟩) (fun aq w a1 hs => Ox be <| W.weak [(3, _), (8, _), (9, _)] (T3 rfl) <| W_region <| Oad rfl <| Mv rfl <| O_nil (an (af, (aa.set ab.toNat ({ (rd aa ab) with is_ := ar } : Chs)), (IntKind.i64.wrap (ab + 1)), ac, aq, a0) _ _ (T3 rfl) (Ai H (Ai ((ak.trans ai).trans am) (Ai hs a1))) (Nat.lt_succ_self _)))
  ·rw [if_neg ax] at H
   refine W_exit (bb _ _ (a9 _ _ <| Wr fun bn a2 => Mv rfl <| As rfl <| Ox a2 <| W_ret ?_))
   obtain rfl := sinj H
   exact r1 rfl ⟨_, _, _, rfl, (aw.trans ak), hs, ae⟩

def slices_Clone_api_Span_api_Span.f (x0 : List Spn) : Option (List Spn) := if ([] : List Spn).length + x0.length ≤ most then (some (([] : List Spn) ++ x0)) else none
theorem slices_Clone_api_Span_api_Span.c (hs : St w0 ρ Γ w) {v0 : Value} {x0 : List Spn} (h0 : SlR rSpn ρ v0 x0) {r : List Spn} (H : slices_Clone_api_Span_api_Span.f x0 = some r) : CallsR Tryz.prog 117 [v0] w (fun v w' => ∃ (ρ' : Hp) (v0 : Value) (cs0 : List Value), v = v0 ∧ Le ρ ρ' ∧ St w0 ρ' (.row v0 129 rSpn.sz r.length cs0 :: Γ) w' ∧ RowR rSpn ρ' cs0 r) := by
  rw [slices_Clone_api_Span_api_Span.f] at H
  refine Et Tryz.func117 Tryz.ntmps117 rfl <| Wr fun an af => As rfl <| Ox af <| W_seq fun ao ag => Wr fun ap ae => Mv rfl ?_
  obtain ⟨ad, c, rfl⟩ := h0.shape
  cases ad with
  | none =>
    obtain rfl : x0 = [] := h0.nilEmpty
    refine O_y rfl (Y_eqlsl un25 rfl rfl) <| Ox ae <| W_true rfl <| Wr fun ah aa => As rfl <| Ox aa <| W_ret ?_
    rw [if_pos (by decide)] at H
    obtain rfl := sinj H
    have hs := hs.rowNil 129 rSpn.sz
    exact r1 rfl ⟨_, _, _, rfl, Le.rfl' _, hs, RowR.nil _ _⟩
  | some ad =>
    refine O_y rfl (Y_eqlsl un25 rfl rfl) <| Ox ae <| W_false rfl <| Wx ag <| Wr fun ah aa => O_lit (xs := []) el25 hs rfl rfl rfl (by decide) (by decide) rfl sz_nil (fun aq w hs => ?_)
    have ai : RowR rSpn ρ [] ([] : List Spn) := RowR.nil _ _
    refine Mv rfl ?_
    obtain ⟨aj, ab, ac⟩ := Src.sl hs h0
    obtain ⟨ak, H⟩ := gd H
    refine O_appendR (i := 0) el25 hs rfl ai rfl rfl rfl ab ac ak (fun ar al w am hs => As rfl <| Ox aa <| W_ret ?_)
    obtain rfl := sinj H
    exact r1 rfl ⟨_, _, _, rfl, Le.rfl' _, hs, am⟩

def book_copied.f (x0 : Bk) : Option Bk := (slices_Clone_string_string.f x0.names).bind fun di => ((slices_Clone_api_Value_api_Value.f x0.status).bind fun dj => ((book_own.f x0.maps).bind fun bh => ((slices_Clone_api_Value_api_Value.f x0.class_).bind fun bi => ((book_own.f x0.decomp).bind fun bj => ((slices_Clone_api_Span_api_Span.f x0.excl).bind fun bk => ((slices_Clone_api_Value_api_Value.f x0.bidi).bind fun bl => ((slices_Clone_api_Value_api_Value.f x0.join).bind fun bm => ((slices_Clone_api_Span_api_Span.f x0.marks).bind fun bn => ((slices_Clone_api_Value_api_Value.f x0.script).bind fun bo => ((book_own.f x0.like).bind fun bp => (some (⟨di, dj, bh, bi, bj, bk, bl, bm, bn, bo, bp⟩ : Bk))))))))))))
theorem book_copied.c (hs : St w0 ρ (Γ) w) {c0 : List Value} {x0 : Bk} (h0 : rBk.R ρ c0 x0) {r : Bk} (H : book_copied.f x0 = some r) : CallsR Tryz.prog 61 [.agg c0.toArray] w (fun v w' => ∃ (ρ' : Hp) (cs0 : List Value), v = .agg cs0.toArray ∧ Le ρ ρ' ∧ St w0 ρ' (Γ) w' ∧ rBk.R ρ' cs0 r) := by
  rw [book_copied.f] at H
  refine Et Tryz.func61 Tryz.ntmps61 rfl ?_
  have ef := h0
  obtain ⟨dk, dl, dm, dn, dp, dq, dr, ds, dt, du, dv, rfl, eg, eh, ei, ej, ek, el, em, en, eo, ep, eq⟩ := ef
  refine Wr fun gg er => O_boxN (cs := [dk, dl, dm, dn, dp, dq, dr, ds, dt, du, dv]) hs rfl rfl (fun es w hs => O_alloc zr27 hs rfl (fun et w hs => Ox er <| W_seq fun gh eu => W_drawS 35 [0, 1, 2, 0, 8, 20, 0, 64, 160, 0, 512, 1280, 0, 4096, 10240, 0, 32768, 81920, 0, 262144, 655360, 0, 2097152, 5242880, 0, 16777216, 41943040, 0, 134217728, 335544320, 0, 1073741824, 2684354560, 4908534052, 17179869183] [17179869180, 17179869176, 8589934552, 17179869159, 17179869127, 8589934272, 17179868991, 17179868735, 8589932032, 17179867647, 17179865599, 8589914112, 17179856895, 17179840511, 8589770752, 17179770879, 17179639807, 8588623872, 17179082751, 17178034175, 8579448832, 17173577727, 17165189119, 8506048512, 17129537535, 17062428671, 7918845952, 16777215999, 16240345087, 3221225472, 13958643711, 9663676415, 0, 0, 0] [0, 1, 3, 0, 8, 31, 0, 64, 255, 0, 512, 2047, 0, 4096, 16383, 0, 32768, 131071, 0, 262144, 1048575, 0, 2097152, 8388607, 0, 16777216, 67108863, 0, 134217728, 536870911, 0, 1073741824, 4294967295, 8589934591, 17179869183] [34] (fun w => St w0 ρ ((.box et 27 ([.slice none 0 0, .slice none 0 0, .slice none 0 0, .slice none 0 0, .slice none 0 0, .slice none 0 0, .slice none 0 0, .slice none 0 0, .slice none 0 0, .slice none 0 0, .slice none 0 0])) :: (.box es 27 ([dk, dl, dm, dn, dp, dq, dr, ds, dt, du, dv])) :: Γ) w) mixed (by kernel_rfl) (fun sh => ?_)))
  have hs := hs.drew
  refine Fp 0 sh rfl (fun w => Y_field fo27_0 rfl) <| Fy 1 sh rfl hs (fun w hs => Yb 1 ag22 hs rfl rfl rfl) <| Fp 3 sh rfl (fun w => Y_field fo27_1 rfl) <| Fy 4 sh rfl hs (fun w hs => Yb 1 ag23 hs rfl rfl rfl) <| Fp 6 sh rfl (fun w => Y_field fo27_2 rfl) <| Fy 7 sh rfl hs (fun w hs => Yb 1 ag24 hs rfl rfl rfl) <| Fp 9 sh rfl (fun w => Y_field fo27_3 rfl) <| Fy 10 sh rfl hs (fun w hs => Yb 1 ag23 hs rfl rfl rfl) <| Fp 12 sh rfl (fun w => Y_field fo27_4 rfl) <| Fy 13 sh rfl hs (fun w hs => Yb 1 ag24 hs rfl rfl rfl) <| Fp 15 sh rfl (fun w => Y_field fo27_5 rfl) <| Fy 16 sh rfl hs (fun w hs => Yb 1 ag25 hs rfl rfl rfl) <| Fp 18 sh rfl (fun w => Y_field fo27_6 rfl) <| Fy 19 sh rfl hs (fun w hs => Yb 1 ag23 hs rfl rfl rfl) ?_
  refine Fp 21 sh rfl (fun w => Y_field fo27_7 rfl) <| Fy 22 sh rfl hs (fun w hs => Yb 1 ag23 hs rfl rfl rfl) <| Fp 24 sh rfl (fun w => Y_field fo27_8 rfl) <| Fy 25 sh rfl hs (fun w hs => Yb 1 ag25 hs rfl rfl rfl) <| Fp 27 sh rfl (fun w => Y_field fo27_9 rfl) <| Fy 28 sh rfl hs (fun w hs => Yb 1 ag23 hs rfl rfl rfl) <| Fp 30 sh rfl (fun w => Y_field fo27_10 rfl) <| Fy 31 sh rfl hs (fun w hs => Yb 1 ag24 hs rfl rfl rfl) <| F1 2 sh rfl (fun gi ev => ?_)
  obtain ⟨di, b2, H⟩ := bnd H
  refine Oc rfl (slices_Clone_string_string.c hs eg b2) (fun ew w hpost => ?_)
  obtain ⟨gj, gk, ex, rfl, aw, hs, ey⟩ := hpost
  refine O_nil (ev _ _ (fun _ _ => ((hs.less aw).sub (ssk (ssc (ssc ssr))))) <| F1 5 sh rfl (fun gl ez => ?_))
  obtain ⟨dj, b3, H⟩ := bnd H
  refine Oc rfl (slices_Clone_api_Value_api_Value.c hs (eh.mono aw) b3) (fun e0 w hpost => ?_)
  obtain ⟨gm, gn, e1, rfl, bq, hs, e2⟩ := hpost
  have ax := aw.trans bq
  refine O_nil (ez _ _ (fun _ _ => ((hs.less ax).sub (ssk (ssk (ssc (ssc ssr)))))) <| F1 8 sh rfl (fun e3 b4 => ?_))
  obtain ⟨bh, br, H⟩ := bnd H
  refine Oc rfl (book_own.c hs (ei.mono ax) br) (fun b5 w hpost => ?_)
  obtain ⟨e4, e5, dw, rfl, av, hs, b6⟩ := hpost
  have ay := ax.trans av
  refine O_nil (b4 _ _ (fun _ _ => ((hs.less ay).sub (ssk (ssk (ssk (ssc (ssc ssr))))))) <| F1 11 sh rfl (fun e6 b7 => ?_))
  obtain ⟨bi, bs, H⟩ := bnd H
  refine Oc rfl (slices_Clone_api_Value_api_Value.c hs (ej.mono ay) bs) (fun b8 w hpost => ?_)
  obtain ⟨e7, e8, dx, rfl, au, hs, b9⟩ := hpost
  have az := ay.trans au
  refine O_nil (b7 _ _ (fun _ _ => ((hs.less az).sub (ssk (ssk (ssk (ssk (ssc (ssc ssr)))))))) <| F1 14 sh rfl (fun e9 ca => ?_))
  obtain ⟨bj, bt, H⟩ := bnd H
  refine Oc rfl (book_own.c hs (ek.mono az) bt) (fun cb w hpost => ?_)
  obtain ⟨fa, fb, dy, rfl, ar, hs, cc⟩ := hpost
  have a0 := az.trans ar
  refine O_nil (ca _ _ (fun _ _ => ((hs.less a0).sub (ssk (ssk (ssk (ssk (ssk (ssc (ssc ssr))))))))) <| F1 17 sh rfl (fun fc cd => ?_))
  obtain ⟨bk, bu, H⟩ := bnd H
  refine Oc rfl (slices_Clone_api_Span_api_Span.c hs (el.mono a0) bu) (fun ce w hpost => ?_)
  obtain ⟨fd, fe, dz, rfl, aq, hs, cf⟩ := hpost
  have a1 := a0.trans aq
  refine O_nil (cd _ _ (fun _ _ => ((hs.less a1).sub (ssk (ssk (ssk (ssk (ssk (ssk (ssc (ssc ssr)))))))))) <| F1 20 sh rfl (fun ff cg => ?_))
  obtain ⟨bl, bv, H⟩ := bnd H
  refine Oc rfl (slices_Clone_api_Value_api_Value.c hs (em.mono a1) bv) (fun ch w hpost => ?_)
  obtain ⟨fg, fh, ea, rfl, ap, hs, ci⟩ := hpost
  have a2 := a1.trans ap
  refine O_nil (cg _ _ (fun _ _ => ((hs.less a2).sub (ssk (ssk (ssk (ssk (ssk (ssk (ssk (ssc (ssc ssr))))))))))) <| F1 23 sh rfl (fun fi cj => ?_))
  obtain ⟨bm, bw, H⟩ := bnd H
  refine Oc rfl (slices_Clone_api_Value_api_Value.c hs (en.mono a2) bw) (fun ck w hpost => ?_)
  obtain ⟨fj, fk, eb, rfl, ao, hs, cl⟩ := hpost
  have a3 := a2.trans ao
  refine O_nil (cj _ _ (fun _ _ => ((hs.less a3).sub (ssk (ssk (ssk (ssk (ssk (ssk (ssk (ssk (ssc (ssc ssr)))))))))))) <| F1 26 sh rfl (fun fl cm => ?_))
  obtain ⟨bn, bx, H⟩ := bnd H
  refine Oc rfl (slices_Clone_api_Span_api_Span.c hs (eo.mono a3) bx) (fun cn w hpost => ?_)
  obtain ⟨fm, fn, ec, rfl, an, hs, co⟩ := hpost
  have a4 := a3.trans an
  refine O_nil (cm _ _ (fun _ _ => ((hs.less a4).sub (ssk (ssk (ssk (ssk (ssk (ssk (ssk (ssk (ssk (ssc (ssc ssr))))))))))))) <| F1 29 sh rfl (fun fo cp => ?_))
  obtain ⟨bo, bz, H⟩ := bnd H
  refine Oc rfl (slices_Clone_api_Value_api_Value.c hs (ep.mono a4) bz) (fun cq w hpost => ?_)
  obtain ⟨fp, fq, ed, rfl, am, hs, cr⟩ := hpost
  have a5 := a4.trans am
  refine O_nil (cp _ _ (fun _ _ => ((hs.less a5).sub (ssk (ssk (ssk (ssk (ssk (ssk (ssk (ssk (ssk (ssk (ssc (ssc ssr)))))))))))))) <| F1 32 sh rfl (fun fr ct => ?_))
  obtain ⟨bp, b0, H⟩ := bnd H
  refine Oc rfl (book_own.c hs (eq.mono a5) b0) (fun cu w hpost => ?_)
  obtain ⟨fs, ft, ee, rfl, aa, hs, cv⟩ := hpost
  have b1 := a5.trans aa
  refine O_nil (ct _ _ (fun _ _ => ((hs.less b1).sub (ssk (ssk (ssk (ssk (ssk (ssk (ssk (ssk (ssk (ssk (ssk (ssc (ssc ssr))))))))))))))) ?_)
  obtain ⟨fu, ab, hs, a6⟩ := hs.rowEnd (j := 10) (ey.mono (((((((((bq.trans av).trans au).trans ar).trans aq).trans ap).trans ao).trans an).trans am).trans aa)) rfl
  have cw := b1.trans ab
  obtain ⟨fv, ac, hs, a7⟩ := hs.rowEnd (j := 9) (e2.mono (((((((((av.trans au).trans ar).trans aq).trans ap).trans ao).trans an).trans am).trans aa).trans ab)) rfl
  have cx := cw.trans ac
  obtain ⟨fw, ad, hs, a8⟩ := hs.rowEnd (j := 8) (b6.mono (((((((((au.trans ar).trans aq).trans ap).trans ao).trans an).trans am).trans aa).trans ab).trans ac)) rfl
  have cy := cx.trans ad
  obtain ⟨fx, ae, hs, a9⟩ := hs.rowEnd (j := 7) (b9.mono (((((((((ar.trans aq).trans ap).trans ao).trans an).trans am).trans aa).trans ab).trans ac).trans ad)) rfl
  have cz := cy.trans ae
  obtain ⟨fy, af, hs, ba⟩ := hs.rowEnd (j := 6) (cc.mono (((((((((aq.trans ap).trans ao).trans an).trans am).trans aa).trans ab).trans ac).trans ad).trans ae)) rfl
  have da := cz.trans af
  obtain ⟨fz, ag, hs, bb⟩ := hs.rowEnd (j := 5) (cf.mono (((((((((ap.trans ao).trans an).trans am).trans aa).trans ab).trans ac).trans ad).trans ae).trans af)) rfl
  have db := da.trans ag
  obtain ⟨ga, ah, hs, bc⟩ := hs.rowEnd (j := 4) (ci.mono (((((((((ao.trans an).trans am).trans aa).trans ab).trans ac).trans ad).trans ae).trans af).trans ag)) rfl
  have dc := db.trans ah
  obtain ⟨gb, ai, hs, bd⟩ := hs.rowEnd (j := 3) (cl.mono (((((((((an.trans am).trans aa).trans ab).trans ac).trans ad).trans ae).trans af).trans ag).trans ah)) rfl
  have dd := dc.trans ai
  obtain ⟨gc, aj, hs, be⟩ := hs.rowEnd (j := 2) (co.mono (((((((((am.trans aa).trans ab).trans ac).trans ad).trans ae).trans af).trans ag).trans ah).trans ai)) rfl
  have de := dd.trans aj
  obtain ⟨gd, ak, hs, bf⟩ := hs.rowEnd (j := 1) (cr.mono (((((((((aa.trans ab).trans ac).trans ad).trans ae).trans af).trans ag).trans ah).trans ai).trans aj)) rfl
  have df := de.trans ak
  obtain ⟨ge, al, hs, bg⟩ := hs.rowEnd (j := 0) (cv.mono (((((((((ab.trans ac).trans ad).trans ae).trans af).trans ag).trans ah).trans ai).trans aj).trans ak)) rfl
  have dg := df.trans al
  refine Fp 33 sh rfl (fun w => Y_build (cs := [ew, e0, b5, b8, cb, ce, ch, ck, cn, cq, cu]) zr27 pl27 ((Parts.cons rfl a6.cellsL (Parts.cons rfl a7.cellsL (Parts.cons rfl a8.cellsL (Parts.cons rfl a9.cellsL (Parts.cons rfl ba.cellsL (Parts.cons rfl bb.cellsL (Parts.cons rfl bc.cellsL (Parts.cons rfl bd.cellsL (Parts.cons rfl be.cellsL (Parts.cons rfl bf.cellsL (Parts.cons rfl bg.cellsL Parts.nil)))))))))))) ag27 (by kernel_rfl)) <| F1 34 sh rfl (fun gf dh => O_storeN (i := 0) sz27 hs rfl rfl rfl rfl rfl (one_cons a6.one (one_cons a7.one (one_cons a8.one (one_cons a9.one (one_cons ba.one (one_cons bb.one (one_cons bc.one (one_cons bd.one (one_cons be.one (one_cons bf.one (one_cons bg.one one_nil))))))))))) (fun w hs => O_nil (dh _ _ (fun h _ => absurd h (by decide)) <| FE sh (eu _ _ <| W.weak [(2, _)] (S1 rfl) <| W_ret ?_))))
  obtain rfl := sinj H
  exact retc (i := 0) rfl rfl ag27 sz27 hs rfl rfl ⟨_, _, rfl, dg, (hs.sub (ssk (ssk ssr))), ⟨_, _, _, _, _, _, _, _, _, _, _, rfl, (a6.mono (((((((((ac.trans ad).trans ae).trans af).trans ag).trans ah).trans ai).trans aj).trans ak).trans al)), (a7.mono ((((((((ad.trans ae).trans af).trans ag).trans ah).trans ai).trans aj).trans ak).trans al)), (a8.mono (((((((ae.trans af).trans ag).trans ah).trans ai).trans aj).trans ak).trans al)), (a9.mono ((((((af.trans ag).trans ah).trans ai).trans aj).trans ak).trans al)), (ba.mono (((((ag.trans ah).trans ai).trans aj).trans ak).trans al)), (bb.mono ((((ah.trans ai).trans aj).trans ak).trans al)), (bc.mono (((ai.trans aj).trans ak).trans al)), (bd.mono ((aj.trans ak).trans al)), (be.mono (ak.trans al)), (bf.mono al), bg⟩⟩

def stage_check.j1 (af : Int → Int → Option (Int × Int)) (x0 : List Val) (aa : Int) (ab : Bool) : Option (Int × Int) := if ab = true then (some (aa, 81)) else (af ((rd x0 aa).hi) (IntKind.i64.wrap (aa + 1)))
def stage_check.j2 (af : Int → Int → Option (Int × Int)) (x0 : List Val) (aa : Int) (ac : Bool) : Option (Int × Int) := if ac = true then (some (aa, 80)) else (if ((rd x0 aa).n) < 0 then (stage_check.j1 af x0 aa true) else (stage_check.j1 af x0 aa (decide (65535 < ((rd x0 aa).n)))))
def stage_check.l1 : Nat → List Val → Int → Int → Option (Int × Int)
  | 0, _, _, _ => none
  | ad + 1, x0, ae, aa => if aa < (x0.length : Int) then (if (0 : Int) ≤ aa ∧ aa < (x0.length : Int) then (if ((rd x0 aa).lo) ≤ ae then (stage_check.j2 (stage_check.l1 ad x0) x0 aa true) else (if ((rd x0 aa).hi) < ((rd x0 aa).lo) then (stage_check.j2 (stage_check.l1 ad x0) x0 aa true) else (stage_check.j2 (stage_check.l1 ad x0) x0 aa (decide (1114111 < ((rd x0 aa).hi)))))) else none) else (some (0, 0))
def stage_check.f (x0 : List Val) : Option (Int × Int) := if 65536 < (x0.length : Int) then (some (65536, 80)) else (stage_check.l1 K0 x0 (-1) 0)
theorem stage_check.c (hs : St w0 ρ (Γ) w) {v0 : Value} {x0 : List Val} (h0 : SlR rVal ρ v0 x0) {r : Int × Int} (H : stage_check.f x0 = some r) : CallsR Tryz.prog 151 [v0] w (fun v w' => v = .tuple #[.int .i64 r.1, .int .i64 r.2] ∧ St w0 ρ Γ w') := by
  rw [stage_check.f] at H
  refine Et Tryz.func151 Tryz.ntmps151 rfl <| Wr fun bm a1 => As rfl <| As rfl <| Ox a1 <| W_seq fun bn a2 => Wr fun bo a3 => Mv rfl <| O_y rfl (Y_lenR un23 h0 rfl) <| Ogt rfl <| Ox a3 <| W_if rfl (fun aq => ?_) (fun aq => ?_)
  ·rw [if_pos aq] at H
   refine Wr fun bp a4 => As rfl <| As rfl <| Ox a4 <| W_ret ?_
   obtain rfl := sinj H
   exact ret2 rfl rfl rfl ⟨rfl, hs⟩
  ·rw [if_neg aq] at H
   refine Wx a2 <| Wr fun bq a5 => As rfl <| Ox a5 <| W_seq fun br a6 => Wr fun bs a7 => Mv rfl <| O_y rfl (Y_lenR un23 h0 rfl) <| Mv rfl <| Ox a7 <| W_block fun bt a8 bu => W_loop (σ := Nat × Int × Int) (fun (ad, ae, aa) => [(4, .int .i32 ae), (10, v0), (11, .int .i64 (x0.length : Int)), (12, .int .i64 aa)]) (fun (ad, ae, aa) w => stage_check.l1 ad x0 ae aa = some r ∧ St w0 ρ (Γ) w) (fun s => s.1) (K0, (-1), 0) (T4 rfl) (Ai H hs) ?_
   rintro ⟨ad, ae, aa⟩ w bv ⟨H, hs⟩ ag
   show W _ _ _ _ _ _ [(4, .int .i32 ae), (10, v0), (11, .int .i64 (x0.length : Int)), (12, .int .i64 aa)] w
   cases ad with
   | zero => rw [stage_check.l1] at H; cases H
   | succ ad =>
   rw [stage_check.l1] at H
   refine Wr fun bw a9 => Ols rfl <| Ox a9 <| W_seq fun bx ba => W_if rfl (fun ar => ?_) (fun ar => ?_)
   ·rw [if_pos ar] at H
    refine Wx ba <| W_seq fun bz bb => W_block fun b0 b1 b2 => Wr fun b3 bc => Mv rfl ?_
    obtain ⟨a0, H⟩ := gd H
    obtain ⟨b4, b5, bd, be⟩ := h0.ix el23 a0.1 a0.2
    obtain ⟨_, rfl, bf⟩ := bd
    refine O_y rfl (be rfl rfl) <| O_y rfl (Y_loadN ag67 sz67 rfl rfl (fun j u hu => hs.see (bf j u hu))) <| O_alloc zr67 hs rfl (fun ap w hs => As rfl <| O_storeN (i := 0) sz67 hs rfl rfl rfl rfl rfl (one_cons rfl (one_cons rfl (one_cons rfl one_nil))) (fun w hs => Ox bc <| W_seq fun b6 bg => W_block fun b7 b8 b9 => W_seqj fun bh bi au => ?_))
    have ah : ∀ (ac : Bool) (w : World), stage_check.j2 (stage_check.l1 ad x0) x0 aa ac = some r → St w0 ρ ((.box ap 67 ([.int .i32 ((rd x0 aa).lo), .int .i32 ((rd x0 aa).hi), .int .i64 ((rd x0 aa).n)])) :: Γ) w → bh [(5, .int .i64 aa), (6, .pointer (some ⟨ap, 0, none⟩)), (10, v0), (11, .int .i64 (x0.length : Int)), (12, .int .i64 aa), (17, .bool ac)] w := by
     intro ac w H hs
     rw [stage_check.j2] at H
     refine bi _ _ <| W_cond rfl (fun ai => ?_) (fun ai => ?_)
     ·rw [if_pos ai] at H
      refine Wr fun bj av => Mv rfl <| As rfl <| As rfl <| Ox av <| W_ret ?_
      obtain rfl := sinj H
      exact ret2 rfl rfl rfl ⟨rfl, (hs.sub (ssk ssr))⟩
     ·rw [if_neg (bft ai)] at H
      refine W_seqj fun aw ax an => ?_
      have ao : ∀ (ab : Bool) (w : World), stage_check.j1 (stage_check.l1 ad x0) x0 aa ab = some r → St w0 ρ ((.box ap 67 ([.int .i32 ((rd x0 aa).lo), .int .i32 ((rd x0 aa).hi), .int .i64 ((rd x0 aa).n)])) :: Γ) w → aw [(5, .int .i64 aa), (6, .pointer (some ⟨ap, 0, none⟩)), (10, v0), (11, .int .i64 (x0.length : Int)), (12, .int .i64 aa), (35, .bool ab)] w := by
       intro ab w H hs
       rw [stage_check.j1] at H
       refine ax _ _ <| W_cond rfl (fun aj => ?_) (fun aj => ?_)
       ·rw [if_pos aj] at H
        refine Wr fun bk ay => Mv rfl <| As rfl <| As rfl <| Ox ay <| W_ret ?_
        obtain rfl := sinj H
        exact ret2 rfl rfl rfl ⟨rfl, (hs.sub (ssk ssr))⟩
       ·rw [if_neg (bft aj)] at H
        refine Wx bg <| W_region <| Ofd fo67_1 rfl <| Obx 0 ag21 hs rfl <| As rfl <| Ox bb <| W_region <| Oad rfl <| Mv rfl <| O_nil (ag (ad, ((rd x0 aa).hi), (IntKind.i64.wrap (aa + 1))) _ _ (T4 rfl) (Ai H (hs.sub (ssk ssr))) (Nat.lt_succ_self _))
      refine W_region <| Ofd fo67_2 rfl <| Obx 0 ag3 hs rfl <| Ols rfl <| Mv rfl <| O_if (dj := 39) rfl (fun ak => ?_) (fun ak => ?_)
      ·rw [if_pos ak] at H
       refine On rfl <| On rfl <| On rfl <| Opk rfl <| As rfl <| O_nil (an _ _ _ sbn (ao true _ H hs))
      ·rw [if_neg ak] at H
       refine Oe rfl <| Ofd fo67_2 rfl <| Oe rfl <| Obx 0 ag3 hs rfl <| Oe rfl <| Ogt rfl <| Opk rfl <| As rfl <| O_nil (an _ _ _ sbn (ao (decide (65535 < ((rd x0 aa).n))) _ H hs))
    refine W_region <| Ofd fo67_0 rfl <| Obx 0 ag21 hs rfl <| Mv rfl <| Ole rfl <| Mv rfl <| O_if (dj := 22) rfl (fun al => ?_) (fun al => ?_)
    ·rw [if_pos al] at H
     refine On rfl <| On rfl <| On rfl <| On rfl <| On rfl <| Opk rfl <| Mv rfl <| On rfl <| On rfl <| On rfl <| Opk rfl <| As rfl <| O_nil (au _ _ _ sbn (ah true _ H hs))
    ·rw [if_neg al] at H
     refine Oe rfl <| Ofd fo67_1 rfl <| Oe rfl <| Obx 0 ag21 hs rfl <| Oe rfl <| Ofd fo67_0 rfl <| Oe rfl <| Obx 0 ag21 hs rfl <| Oe rfl <| Ols rfl <| Opk rfl <| Mv rfl <| O_if (dj := 29) rfl (fun am => ?_) (fun am => ?_)
     ·rw [if_pos am] at H
      refine On rfl <| On rfl <| On rfl <| Opk rfl <| As rfl <| O_nil (au _ _ _ sbn (ah true _ H hs))
     ·rw [if_neg am] at H
      refine Oe rfl <| Ofd fo67_1 rfl <| Oe rfl <| Obx 0 ag21 hs rfl <| Oe rfl <| Ogt rfl <| Opk rfl <| As rfl <| O_nil (au _ _ _ sbn (ah (decide (1114111 < ((rd x0 aa).hi))) _ H hs))
   ·rw [if_neg ar] at H
    refine W_exit (a8 _ _ (a6 _ _ <| Wr fun bl az => As rfl <| As rfl <| Ox az <| W_ret ?_))
    obtain rfl := sinj H
    exact ret2 rfl rfl rfl ⟨rfl, hs⟩

def stage_lay_fod.j1 (aa : Int) (ag : Vector Int 128) (ai : Bool) : Option (Bool × Int × Vector Int 128) := some (ai, aa, ag)
def stage_lay_fod.l1 (am : Vector Int 128 → Bool → Int → Option (Bool × Int × Vector Int 128)) : Nat → List Val → Int → Int → Int → Vector Int 128 → Int → Option (Bool × Int × Vector Int 128)
  | 0, _, _, _, _, _, _ => none
  | ah + 1, x0, x2, aa, ab, ac, ae => if ae ≤ (min ((rd (sub x0 aa (x0.length : Int)) ab).hi) (IntKind.i32.wrap ((IntKind.i32.wrap (x2 + 128)) - 1))) then (if (0 : Int) ≤ IntKind.i32.wrap (ae - x2) ∧ IntKind.i32.wrap (ae - x2) < ((128 : Nat) : Int) then ((stage_lay_fod.l1 am ah x0 x2 aa ab) (vset ac (IntKind.i32.wrap (ae - x2)) (IntKind.u16.wrap ((rd (sub x0 aa (x0.length : Int)) ab).n))) (IntKind.i32.wrap (ae + 1))) else none) else (am ac true (IntKind.i64.wrap (ab + 1)))
def stage_lay_fod.l2 : Nat → List Val → Int → Int → Vector Int 128 → Bool → Int → Option (Bool × Int × Vector Int 128)
  | 0, _, _, _, _, _, _ => none
  | al + 1, x0, x2, aa, ad, af, ab => if ab < ((sub x0 aa (x0.length : Int)).length : Int) then (if (0 : Int) ≤ ab ∧ ab < ((sub x0 aa (x0.length : Int)).length : Int) then (if (IntKind.i32.wrap ((IntKind.i32.wrap (x2 + 128)) - 1)) < ((rd (sub x0 aa (x0.length : Int)) ab).lo) then (stage_lay_fod.j1 aa ad af) else (stage_lay_fod.l1 (stage_lay_fod.l2 al x0 x2 aa) K0 x0 x2 aa ab ad (max ((rd (sub x0 aa (x0.length : Int)) ab).lo) x2))) else none) else (stage_lay_fod.j1 aa ad af)
def stage_lay_fod.j2 (aq : Int → Option (Bool × Int × Vector Int 128)) (y1_0 : Vector Int 128) (x0 : List Val) (x2 aa : Int) (aj : Bool) : Option (Bool × Int × Vector Int 128) := if aj = true then (aq (IntKind.i64.wrap (aa + 1))) else (if (0 : Int) ≤ aa ∧ aa ≤ (x0.length : Int) ∧ (x0.length : Int) ≤ (x0.length : Int) then (stage_lay_fod.l2 K0 x0 x2 aa y1_0 false 0) else none)
def stage_lay_fod.l3 : Nat → Vector Int 128 → List Val → Int → Int → Option (Bool × Int × Vector Int 128)
  | 0, _, _, _, _ => none
  | ak + 1, y1_0, x0, x2, aa => if aa < (x0.length : Int) then (if (0 : Int) ≤ aa ∧ aa < (x0.length : Int) then (stage_lay_fod.j2 (stage_lay_fod.l3 ak y1_0 x0 x2) y1_0 x0 x2 aa (decide (((rd x0 aa).hi) < x2))) else none) else (stage_lay_fod.j2 (stage_lay_fod.l3 ak y1_0 x0 x2) y1_0 x0 x2 aa false)
def stage_lay_fod.f (x0 : List Val) (x2 y0_0 : Int) (y1_0 : Vector Int 128) : Option (Bool × Int × Vector Int 128) := stage_lay_fod.l3 K0 y1_0 x0 x2 y0_0
theorem stage_lay_fod.c {pb0 : Nat} {y0_0 : Int} {pb1 : Nat} {y1_0 : Vector Int 128} (hs : St w0 ρ ((.box pb0 3 ([.int .i64 y0_0])) :: (.box pb1 152 ([] ++ (vcs (Value.int .u16) y1_0 ++ []))) :: Γ) w) {v0 : Value} {x0 : List Val} (h0 : SlR rVal ρ v0 x0) {x2 : Int} {r : Bool × Int × Vector Int 128} (H : stage_lay_fod.f x0 x2 y0_0 y1_0 = some r) : CallsR Tryz.prog 154 [v0, .pointer (some ⟨pb0, 0, none⟩), .int .i32 x2, .pointer (some ⟨pb1, 0, none⟩)] w (fun v w' => v = .bool r.1 ∧ St w0 ρ ((.box pb0 3 ([.int .i64 r.2.1])) :: (.box pb1 152 ([] ++ (vcs (Value.int .u16) r.2.2 ++ []))) :: Γ) w') := by
  rw [stage_lay_fod.f] at H
  refine Et Tryz.func154 Tryz.ntmps154 rfl <| Wr fun ct br => As rfl <| Ox br <| Wr fun cu bs => Mv rfl <| Oad rfl <| Osu rfl <| As rfl <| Ox bs <| W_seq fun cv bt => W_block fun cw bu cx => ?_
  refine W_loop (σ := Nat × Int) (fun (ak, aa) => [(0, v0), (1, .pointer (some ⟨pb0, 0, none⟩)), (2, .int .i32 x2), (3, .pointer (some ⟨pb1, 0, none⟩)), (9, .int .i32 (IntKind.i32.wrap ((IntKind.i32.wrap (x2 + 128)) - 1)))]) (fun (ak, aa) w => stage_lay_fod.l3 ak y1_0 x0 x2 aa = some r ∧ St w0 ρ ((.box pb0 3 ([.int .i64 aa])) :: (.box pb1 152 ([] ++ (vcs (Value.int .u16) y1_0 ++ []))) :: Γ) w) (fun s => s.1) (K0, y0_0) sbn (Ai H hs) ?_
  rintro ⟨ak, aa⟩ w cy ⟨H, hs⟩ ar
  show W _ _ _ _ _ _ [(0, v0), (1, .pointer (some ⟨pb0, 0, none⟩)), (2, .int .i32 x2), (3, .pointer (some ⟨pb1, 0, none⟩)), (9, .int .i32 (IntKind.i32.wrap ((IntKind.i32.wrap (x2 + 128)) - 1)))] w
  cases ak with
  | zero => rw [stage_lay_fod.l3] at H; cases H
  | succ ak =>
  rw [stage_lay_fod.l3] at H
  refine W_seq fun cz bv => W_seqj fun bw bx bl => ?_
  have bm : ∀ (aj : Bool) (w : World), stage_lay_fod.j2 (stage_lay_fod.l3 ak y1_0 x0 x2) y1_0 x0 x2 aa aj = some r → St w0 ρ ((.box pb0 3 ([.int .i64 aa])) :: (.box pb1 152 ([] ++ (vcs (Value.int .u16) y1_0 ++ []))) :: Γ) w → bw [(0, v0), (1, .pointer (some ⟨pb0, 0, none⟩)), (2, .int .i32 x2), (3, .pointer (some ⟨pb1, 0, none⟩)), (9, .int .i32 (IntKind.i32.wrap ((IntKind.i32.wrap (x2 + 128)) - 1))), (33, .bool aj)] w := by
   intro aj w H hs
   rw [stage_lay_fod.j2] at H
   refine bx _ _ <| W_cond rfl (fun a1 => ?_) (fun a1 => ?_)
   ·rw [if_pos a1] at H
    refine Wx bv <| W_block fun da db dc => W_region <| Mv rfl <| Onp rfl <| Obx 0 ag3 hs rfl <| Oad rfl <| Onp rfl <| O_store (i := 0) sz3 hs rfl rfl rfl rfl rfl (fun w hs => O_nil (ar (ak, (IntKind.i64.wrap (aa + 1))) _ _ sbn (Ai H hs) (Nat.lt_succ_self _)))
   ·rw [if_neg (bft a1)] at H
    refine W_exit (bu _ _ (bt _ _ <| Wr fun dd bz => As rfl <| Ox bz <| W_seqj fun b0 b1 bn => ?_))
    have bo : ∀ (ag : Vector Int 128) (ai : Bool) (w : World), stage_lay_fod.j1 aa ag ai = some r → St w0 ρ ((.box pb0 3 ([.int .i64 aa])) :: (.box pb1 152 ([] ++ (vcs (Value.int .u16) ag ++ []))) :: Γ) w → b0 [(10, .bool ai)] w := by
     intro ag ai w H hs
     rw [stage_lay_fod.j1] at H
     refine b1 _ _ <| Wr fun de b2 => Mv rfl <| As rfl <| Ox b2 <| W_ret ?_
     obtain rfl := sinj H
     exact r1 rfl ⟨rfl, hs⟩
    refine Wr fun df b3 => Mv rfl <| Mv rfl <| Onp rfl <| Obx 0 ag3 hs rfl ?_
    obtain ⟨a2, H⟩ := gd H
    obtain ⟨a0, bp, b4⟩ := h0.cut el23 a2.1 a2.2.1 a2.2.2
    refine O_y rfl (b4 rfl (.inr ⟨_, _, rfl, rfl⟩) (.inl ⟨rfl, rfl⟩)) <| O_y rfl (Y_lenR un23 bp rfl) <| Mv rfl <| Ox b3 <| W_block fun dg bq dh => W_loop (σ := Nat × Vector Int 128 × Bool × Int) (fun (al, ad, af, ab) => [(2, .int .i32 x2), (3, .pointer (some ⟨pb1, 0, none⟩)), (9, .int .i32 (IntKind.i32.wrap ((IntKind.i32.wrap (x2 + 128)) - 1))), (10, .bool af), (43, a0), (44, .int .i64 ((sub x0 aa (x0.length : Int)).length : Int)), (45, .int .i64 ab)]) (fun (al, ad, af, ab) w => stage_lay_fod.l2 al x0 x2 aa ad af ab = some r ∧ St w0 ρ ((.box pb0 3 ([.int .i64 aa])) :: (.box pb1 152 ([] ++ (vcs (Value.int .u16) ad ++ []))) :: Γ) w) (fun s => s.1) (K0, y1_0, false, 0) sbn (Ai H hs) ?_
    rintro ⟨al, ad, af, ab⟩ w di ⟨H, hs⟩ au
    show W _ _ _ _ _ _ [(2, .int .i32 x2), (3, .pointer (some ⟨pb1, 0, none⟩)), (9, .int .i32 (IntKind.i32.wrap ((IntKind.i32.wrap (x2 + 128)) - 1))), (10, .bool af), (43, a0), (44, .int .i64 ((sub x0 aa (x0.length : Int)).length : Int)), (45, .int .i64 ab)] w
    cases al with
    | zero => rw [stage_lay_fod.l2] at H; cases H
    | succ al =>
    rw [stage_lay_fod.l2] at H
    refine Wr fun dk b5 => Ols rfl <| Ox b5 <| W_seq fun dl b6 => W_if rfl (fun a3 => ?_) (fun a3 => ?_)
    ·rw [if_pos a3] at H
     refine Wx b6 <| W_seq fun dm b7 => W_block fun b8 b9 a4 => W_seq fun ca a5 => W_region ?_
     obtain ⟨ay, H⟩ := gd H
     obtain ⟨cb, cc, a6, a7⟩ := bp.ix el23 ay.1 ay.2
     obtain ⟨_, rfl, a8⟩ := a6
     refine O_y rfl (a7 rfl rfl) <| O_y rfl (Y_loadN ag67 sz67 rfl rfl (fun j u hu => hs.see (a8 j u hu))) <| O_alloc zr67 hs rfl (fun an w hs => O_storeN (i := 0) sz67 hs rfl rfl rfl rfl rfl (one_cons rfl (one_cons rfl (one_cons rfl one_nil))) (fun w hs => Ox a5 <| W_seq fun cd a9 => Wr fun ce ba => Ofd fo67_0 rfl <| Obx 0 ag21 hs rfl <| Mv rfl <| Ogt rfl <| Ox ba <| W.weak [(2, _), (3, _), (9, _), (10, _), (12, _), (43, _), (44, _), (45, _), (52, _)] sbn ?_))
     refine W_if rfl (fun av => ?_) (fun av => ?_)
     ·rw [if_pos av] at H
      exact W_exit (a4 _ _ _ rfl (bq _ _ (bn _ _ _ (S1 rfl) (bo ad af _ H (hs.sub (ssk (ssc (ssc ssr))))))))
     ·rw [if_neg av] at H
      refine Wx a9 <| Wr fun cf bb => As rfl <| Ox bb <| Wr fun cg bc => Ofd fo67_0 rfl <| Obx 0 ag21 hs rfl <| Mv rfl <| O_y rfl (Y_max rfl rfl) <| As rfl <| Ox bc <| W_block fun ch bd ci => ?_
      refine W_loop (σ := Nat × Vector Int 128 × Int) (fun (ah, ac, ae) => [(2, .int .i32 x2), (3, .pointer (some ⟨pb1, 0, none⟩)), (9, .int .i32 (IntKind.i32.wrap ((IntKind.i32.wrap (x2 + 128)) - 1))), (10, .bool true), (12, .pointer (some ⟨an, 0, none⟩)), (13, .int .i32 ae), (43, a0), (44, .int .i64 ((sub x0 aa (x0.length : Int)).length : Int)), (45, .int .i64 ab)]) (fun (ah, ac, ae) w => stage_lay_fod.l1 (stage_lay_fod.l2 al x0 x2 aa) ah x0 x2 aa ab ac ae = some r ∧ St w0 ρ ((.box an 67 ([.int .i32 ((rd (sub x0 aa (x0.length : Int)) ab).lo), .int .i32 ((rd (sub x0 aa (x0.length : Int)) ab).hi), .int .i64 ((rd (sub x0 aa (x0.length : Int)) ab).n)])) :: (.box pb0 3 ([.int .i64 aa])) :: (.box pb1 152 ([] ++ (vcs (Value.int .u16) ac ++ []))) :: Γ) w) (fun s => s.1) (K0, ad, (max ((rd (sub x0 aa (x0.length : Int)) ab).lo) x2)) sbn (Ai H hs) ?_
      rintro ⟨ah, ac, ae⟩ w cj ⟨H, hs⟩ ao
      show W _ _ _ _ _ _ [(2, .int .i32 x2), (3, .pointer (some ⟨pb1, 0, none⟩)), (9, .int .i32 (IntKind.i32.wrap ((IntKind.i32.wrap (x2 + 128)) - 1))), (10, .bool true), (12, .pointer (some ⟨an, 0, none⟩)), (13, .int .i32 ae), (43, a0), (44, .int .i64 ((sub x0 aa (x0.length : Int)).length : Int)), (45, .int .i64 ab)] w
      cases ah with
      | zero => rw [stage_lay_fod.l1] at H; cases H
      | succ ah =>
      rw [stage_lay_fod.l1] at H
      refine W_seq fun ck be => Wr fun cl bf => Mv rfl <| Ofd fo67_1 rfl <| Obx 0 ag21 hs rfl <| Mv rfl <| O_y rfl (Y_min rfl rfl) <| Ole rfl <| Ox bf <| W.weak [(2, _), (3, _), (9, _), (10, _), (12, _), (13, _), (43, _), (44, _), (45, _), (62, _)] sbn ?_
      refine W_if rfl (fun aw => ?_) (fun aw => ?_)
      ·rw [if_pos aw] at H
       refine Wx be <| W_seq fun cm bg => W_block fun cn co cp => W_drawS 10 [0, 0, 0, 6, 0, 16, 32, 1, 255, 383] [126, 245, 243, 241, 207, 143, 143, 638, 0, 0] [0, 0, 0, 6, 0, 16, 48, 1, 255, 511] [9] (fun w => St w0 ρ ((.box an 67 ([.int .i32 ((rd (sub x0 aa (x0.length : Int)) ab).lo), .int .i32 ((rd (sub x0 aa (x0.length : Int)) ab).hi), .int .i64 ((rd (sub x0 aa (x0.length : Int)) ab).n)])) :: (.box pb0 3 ([.int .i64 aa])) :: (.box pb1 152 ([] ++ (vcs (Value.int .u16) ac ++ []))) :: Γ) w) mixed (by kernel_rfl) (fun sh => ?_)
       have hs := hs.drew
       refine Fm 0 sh rfl <| Fm 1 sh rfl <| Fm 2 sh rfl <| Fp 3 sh rfl (fun w => Y_sub rfl rfl) <| Fp 4 sh rfl (fun w => Y_field fo67_2 rfl) <| Fy 5 sh rfl hs (fun w hs => Yb 0 ag3 hs rfl rfl rfl) <| Fp 6 sh rfl (fun w => Y_conv un3 un150 rfl) <| Fp 7 sh rfl (fun w => Y_nilp rfl) ?_
       obtain ⟨ap, H⟩ := gd H
       refine Fp 8 sh rfl (fun w => Y_ixArr un152 sz150 rfl rfl ap.1 ap.2) <| F1 9 sh rfl (fun cq bh => O_storeSeg (j := 2) (u := IntKind.u16.wrap ((rd (sub x0 aa (x0.length : Int)) ab).n)) sz150 (one_int .u16) hs rfl rfl ap.1 ap.2 rfl rfl (fun w hs => O_nil (bh _ _ (fun h _ => absurd h (by decide)) <| FE sh (bg _ _ <| W.weak [(2, _), (3, _), (9, _), (10, _), (12, _), (13, _), (43, _), (44, _), (45, _)] sbn ?_))))
       refine W_region <| Mv rfl <| Oad rfl <| As rfl <| O_nil (ao (ah, (vset ac (IntKind.i32.wrap (ae - x2)) (IntKind.u16.wrap ((rd (sub x0 aa (x0.length : Int)) ab).n))), (IntKind.i32.wrap (ae + 1))) _ _ sbn (Ai H hs) (Nat.lt_succ_self _))
      ·rw [if_neg aw] at H
       refine W_exit (bd _ _ (b7 _ _ <| W_region <| Oad rfl <| Mv rfl <| O_nil (au (al, ac, true, (IntKind.i64.wrap (ab + 1))) _ _ sbn (Ai H (hs.sub (ssk (ssc (ssc ssr))))) (Nat.lt_succ_self _))))
    ·rw [if_neg a3] at H
     exact W_exit (bq _ _ (bn _ _ _ (S1 rfl) (bo ad af _ H hs)))
  refine W_region <| Mv rfl <| Onp rfl <| Obx 0 ag3 hs rfl <| Mv rfl <| O_y rfl (Y_lenR un23 h0 rfl) <| Ols rfl <| Mv rfl <| O_if (dj := 23) rfl (fun ax => ?_) (fun ax => ?_)
  ·rw [if_pos ax] at H
   refine Oe rfl <| Mv rfl <| Oe rfl <| Mv rfl <| Oe rfl <| Onp rfl <| Oe rfl <| Obx 0 ag3 hs rfl ?_
   obtain ⟨az, H⟩ := gd H
   obtain ⟨cr, cs, bi, bj⟩ := h0.ix el23 az.1 az.2
   obtain ⟨_, rfl, bk⟩ := bi
   refine Oe rfl <| O_y rfl (bj rfl rfl) <| Oe rfl <| Ofd fo67_1 rfl <| Oe rfl <| O_y rfl (Y_load ag21 rfl (hs.see (bk 1 _ rfl))) <| Oe rfl <| Mv rfl <| Oe rfl <| Ols rfl <| Opk rfl <| O_nil (bl _ _ _ sbn (bm (decide (((rd x0 aa).hi) < x2)) _ H hs))
  ·rw [if_neg ax] at H
   refine On rfl <| On rfl <| On rfl <| On rfl <| On rfl <| On rfl <| On rfl <| On rfl <| On rfl <| Opk rfl <| O_nil (bl _ _ _ sbn (bm false _ H hs))

end Go.Proofs.YthoicbafdanmkaaGreatDoor
/- Written by this repo's gen.py: for each Go function a Lean function with the same answers and the walk that shows it. -/
namespace Go.Proofs.YthoicbafdanmkaaGreatDoor
open Go.RowKit
set_option maxRecDepth 100000
set_option maxHeartbeats 4000000
variable {w0 w : World} {ρ : Hp} {Γ : List Item}
set_option linter.unusedVariables false
def stage_Table_Over_1_aek.j1 (aa : Vector Int 128) (ab : Int) (ad : Bool) : Option (Bool × Vector Int 128 × Int) := some (ad, aa, ab)
def stage_Table_Over_1_aek.j2 (y1_0 : Option Tab) (y2_0 : List Val) (y3_0 x0 : Int) (ac : Vector Int 128) : Option (Bool × Vector Int 128 × Int) := (stage_lay_fod.f y2_0 x0 y3_0 ac).bind fun ae => (if ae.1 = true then (stage_Table_Over_1_aek.j1 ae.2.2 ae.2.1 true) else (stage_Table_Over_1_aek.j1 ae.2.2 ae.2.1 ((y1_0).isSome)))
def stage_Table_Over_1_aek.f (x0 : Int) (y0_0 : Vector Int 128) (y1_0 : Option Tab) (y2_0 : List Val) (y3_0 : Int) : Option (Bool × Vector Int 128 × Int) := if ((y1_0).isSome) = true then (if y1_0.isSome = true then (if (0 : Int) ≤ IntKind.i32.wrap (x0.tdiv 128) ∧ IntKind.i32.wrap (x0.tdiv 128) < ((8704 : Nat) : Int) then (if (0 : Int) ≤ vg (((y1_0).getD default).which) (IntKind.i32.wrap (x0.tdiv 128)) ∧ vg (((y1_0).getD default).which) (IntKind.i32.wrap (x0.tdiv 128)) < ((((y1_0).getD default).unlike).length : Int) then (stage_Table_Over_1_aek.j2 y1_0 y2_0 y3_0 x0 (rd (((y1_0).getD default).unlike) (vg (((y1_0).getD default).which) (IntKind.i32.wrap (x0.tdiv 128))))) else none) else none) else none) else (stage_Table_Over_1_aek.j2 y1_0 y2_0 y3_0 x0 y0_0)
theorem stage_Table_Over_1_aek.c {pb0 : Nat} {y0_0 : Vector Int 128} {pb1 : Nat} {w1_0 : Value} {y1_0 : Option Tab} {pb2 : Nat} {w2_0 : Value} {y2_0 : List Val} {pb3 : Nat} {y3_0 : Int} (hs : St w0 ρ ((.box pb0 152 ([] ++ (vcs (Value.int .u16) y0_0 ++ []))) :: (.box pb1 104 ([w1_0])) :: (.box pb2 23 ([w2_0])) :: (.box pb3 3 ([.int .i64 y3_0])) :: Γ) w) {x0 : Int} (g1_0 : PtrR rTab ρ w1_0 y1_0) (g2_0 : SlR rVal ρ w2_0 y2_0) {r : Bool × Vector Int 128 × Int} (H : stage_Table_Over_1_aek.f x0 y0_0 y1_0 y2_0 y3_0 = some r) : CallsR Tryz.prog 153 [.int .i32 x0, .pointer (some ⟨pb0, 0, none⟩), .pointer (some ⟨pb1, 0, none⟩), .pointer (some ⟨pb2, 0, none⟩), .pointer (some ⟨pb3, 0, none⟩)] w (fun v w' => v = .bool r.1 ∧ St w0 ρ ((.box pb0 152 ([] ++ (vcs (Value.int .u16) r.2.1 ++ []))) :: (.box pb1 104 ([w1_0])) :: (.box pb2 23 ([w2_0])) :: (.box pb3 3 ([.int .i64 r.2.2])) :: Γ) w') := by
  rw [stage_Table_Over_1_aek.f] at H
  refine Et Tryz.func153 Tryz.ntmps153 rfl <| Wr fun a9 ar => As rfl <| Ox ar <| W_seqj fun au av al => ?_
  have am : ∀ (ac : Vector Int 128) (w : World), stage_Table_Over_1_aek.j2 y1_0 y2_0 y3_0 x0 ac = some r → St w0 ρ ((.box pb0 152 ([] ++ (vcs (Value.int .u16) ac ++ []))) :: (.box pb1 104 ([w1_0])) :: (.box pb2 23 ([w2_0])) :: (.box pb3 3 ([.int .i64 y3_0])) :: Γ) w → au [(0, .int .i32 x0), (1, .pointer (some ⟨pb0, 0, none⟩)), (2, .pointer (some ⟨pb1, 0, none⟩)), (3, .pointer (some ⟨pb2, 0, none⟩)), (4, .pointer (some ⟨pb3, 0, none⟩))] w := by
   intro ac w H hs
   rw [stage_Table_Over_1_aek.j2] at H
   refine av _ _ <| W_seqj fun aw ax an => ?_
   have ao : ∀ (aa : Vector Int 128) (ab : Int) (ad : Bool) (w : World), stage_Table_Over_1_aek.j1 aa ab ad = some r → St w0 ρ ((.box pb0 152 ([] ++ (vcs (Value.int .u16) aa ++ []))) :: (.box pb1 104 ([w1_0])) :: (.box pb2 23 ([w2_0])) :: (.box pb3 3 ([.int .i64 ab])) :: Γ) w → aw [(7, .bool ad)] w := by
    intro aa ab ad w H hs
    rw [stage_Table_Over_1_aek.j1] at H
    refine ax _ _ <| W_ret ?_
    obtain rfl := sinj H
    exact r1 rfl ⟨rfl, hs⟩
   refine W_region <| Obx 2 ag23 hs rfl <| Mv rfl <| Mv rfl ?_
   have hs := hs.front 3 rfl
   obtain ⟨ae, ag, H⟩ := bnd H
   refine Oc rfl (stage_lay_fod.c hs g2_0 ag) (fun ba w hpost => ?_)
   obtain ⟨rfl, hs⟩ := hpost
   have hs := hs.sink 3
   refine Mv rfl <| O_cases (dj := 29) rfl (fun ah => ?_) (fun ah => ?_)
   ·rw [if_pos ah] at H
    refine On rfl <| On rfl <| Opk rfl <| As rfl <| O_nil (an _ _ _ (S1 rfl) (ao ae.2.2 ae.2.1 true _ H hs))
   ·rw [if_neg (bft ah)] at H
    refine Oe rfl <| Obx 1 ag104 hs rfl <| Oe rfl <| O_y rfl ((g1_0.nen un104 rfl rfl)) <| Opk rfl <| As rfl <| O_nil (an _ _ _ (S1 rfl) (ao ae.2.2 ae.2.1 ((y1_0).isSome) _ H hs))
  refine Wr fun bb ay => Obx 1 ag104 hs rfl <| O_y rfl ((g1_0.nen un104 rfl rfl)) <| Ox ay <| W_cond rfl (fun ai => ?_) (fun ai => ?_)
  ·rw [if_pos ai] at H
   refine W_drawS 16 [0, 0, 2, 4, 8, 0, 0, 64, 32, 256, 640, 1024, 2064, 4096, 16383, 32767] [16382, 16377, 16369, 16353, 12257, 16095, 16191, 15167, 15583, 14559, 12319, 8223, 1, 1, 0, 0] [0, 0, 2, 6, 14, 0, 0, 64, 32, 288, 992, 2016, 4094, 8190, 16383, 32767] [15] (fun w => St w0 ρ ((.box pb0 152 ([] ++ (vcs (Value.int .u16) y0_0 ++ []))) :: (.box pb1 104 ([w1_0])) :: (.box pb2 23 ([w2_0])) :: (.box pb3 3 ([.int .i64 y3_0])) :: Γ) w) mixed (by kernel_rfl) (fun sh => ?_)
   have hs := hs.drew
   refine Fm 0 sh rfl <| Fy 1 sh rfl hs (fun w hs => Yb 1 ag104 hs rfl rfl rfl) ?_
   obtain ⟨ap, H⟩ := gd H
   obtain ⟨bc, aj, az⟩ := g1_0.open ap
   obtain ⟨_, ⟨bd, be, rfl, a0, bf⟩, a1⟩ := az
   refine Fp 2 sh rfl (fun w => Y_nilp (congrArg some aj)) <| Fp 3 sh rfl (fun w => Y_field fo156_1 rfl) <| Fy 4 sh rfl hs (fun w hs => Y_load ag154 rfl (hs.see (a1 8704 _ (seg_beh (q := 0) rfl rfl)))) <| Fy 5 sh rfl hs (fun w hs => Yb 1 ag104 hs rfl rfl rfl) <| Fm 6 sh rfl <| Fp 7 sh rfl (fun w => Y_quo rfl rfl (by decide)) ?_
   obtain ⟨bg, ak, a2⟩ := g1_0.open ap
   obtain ⟨_, ⟨bh, bi, rfl, bj, bk⟩, a3⟩ := a2
   refine Fp 8 sh rfl (fun w => Y_nilp (congrArg some ak)) <| Fp 9 sh rfl (fun w => Y_field fo156_0 rfl) ?_
   obtain ⟨af, H⟩ := gd H
   have a4 := CA.seg (q := 0) a3 rfl af.1 af.2
   refine Fp 10 sh rfl (fun w => Y_ixArr un153 sz150 rfl rfl af.1 af.2) <| Fy 11 sh rfl hs (fun w hs => Y_load ag150 rfl (hs.see a4)) ?_
   obtain ⟨aq, H⟩ := gd H
   obtain ⟨bl, bm, a5, a6⟩ := a0.ix el154 aq.1 aq.2
   have a7 := a5.arr
   refine Fp 12 sh rfl (fun w => a6 rfl rfl) <| Fy 13 sh rfl hs (fun w hs => Y_loadN (cs := vcs (Value.int .u16) (rd (((y1_0).getD default).unlike) (vg (((y1_0).getD default).which) (IntKind.i32.wrap (x0.tdiv 128))))) ag152 sz152 (vcs_length _ _) rfl (fun j u hu => hs.see (a7 j u (by simpa using hu)))) <| Fp 14 sh rfl (fun w => Y_nilp rfl) <| F1 15 sh rfl (fun bn a8 => O_storeArr (j := 0) (u := rd (((y1_0).getD default).unlike) (vg (((y1_0).getD default).which) (IntKind.i32.wrap (x0.tdiv 128)))) sz152 (one_int .u16) hs rfl rfl rfl (fun w hs => O_nil (a8 _ _ (fun h _ => absurd h (by decide)) <| FE sh (al _ _ _ sbn (am (rd (((y1_0).getD default).unlike) (vg (((y1_0).getD default).which) (IntKind.i32.wrap (x0.tdiv 128)))) _ H hs)))))
  ·rw [if_neg (bft ai)] at H
   exact W_skip (al _ _ _ sbn (am y0_0 _ H hs))

def stage_block_flat_ejg.l1 : Nat → Vector Int 128 → Int → Option Bool
  | 0, _, _ => none
  | ab + 1, y0_0, aa => if aa < 128 then (if (0 : Int) ≤ aa ∧ aa < ((128 : Nat) : Int) then (if (0 : Int) ≤ 0 ∧ 0 < ((128 : Nat) : Int) then (if (vg y0_0 aa) ≠ (vg y0_0 0) then (some false) else ((stage_block_flat_ejg.l1 ab y0_0) (IntKind.i64.wrap (aa + 1)))) else none) else none) else (some true)
def stage_block_flat_ejg.f (y0_0 : Vector Int 128) : Option Bool := stage_block_flat_ejg.l1 K0 y0_0 0
theorem stage_block_flat_ejg.c {pb0 : Nat} {y0_0 : Vector Int 128} (hs : St w0 ρ ((.box pb0 152 ([] ++ (vcs (Value.int .u16) y0_0 ++ []))) :: Γ) w) {r : Bool} (H : stage_block_flat_ejg.f y0_0 = some r) : CallsR Tryz.prog 172 [.pointer (some ⟨pb0, 0, none⟩)] w (fun v w' => v = .bool r ∧ St w0 ρ ((.box pb0 152 ([] ++ (vcs (Value.int .u16) y0_0 ++ []))) :: Γ) w') := by
  rw [stage_block_flat_ejg.f] at H
  refine Et Tryz.func172 Tryz.ntmps172 rfl <| Wr fun au ah => As rfl <| Ox ah <| W_seq fun av ai => Wr fun aw aj => Mv rfl <| Mv rfl <| Ox aj <| W_block fun ax ak ay => W_loop (σ := Nat × Int) (fun (ab, aa) => [(0, .pointer (some ⟨pb0, 0, none⟩)), (5, .pointer (some ⟨pb0, 0, none⟩)), (6, .int .i64 aa)]) (fun (ab, aa) w => stage_block_flat_ejg.l1 ab y0_0 aa = some r ∧ St w0 ρ ((.box pb0 152 ([] ++ (vcs (Value.int .u16) y0_0 ++ []))) :: Γ) w) (fun s => s.1) (K0, 0) (T3 rfl) (Ai H hs) ?_
  rintro ⟨ab, aa⟩ w az ⟨H, hs⟩ ac
  show W _ _ _ _ _ _ [(0, .pointer (some ⟨pb0, 0, none⟩)), (5, .pointer (some ⟨pb0, 0, none⟩)), (6, .int .i64 aa)] w
  cases ab with
  | zero => rw [stage_block_flat_ejg.l1] at H; cases H
  | succ ab =>
  rw [stage_block_flat_ejg.l1] at H
  refine Wr fun a0 al => Ols rfl <| Ox al <| W_seq fun a1 am => W_if rfl (fun af => ?_) (fun af => ?_)
  ·rw [if_pos af] at H
   refine Wx am <| W_seq fun a2 an => W_block fun a3 a4 a5 => Wr fun a6 ao => Onp rfl ?_
   obtain ⟨ad, H⟩ := gd H
   refine O_y rfl (Y_ixArr un152 sz150 rfl rfl ad.1 ad.2) <| O_y rfl (Y_loadSeg (j := 0) ag150 hs rfl rfl ad.1 ad.2 rfl) <| As rfl <| Ox ao <| Wr fun a7 ap => Mv rfl <| Mv rfl <| Onp rfl ?_
   obtain ⟨ae, H⟩ := gd H
   refine O_y rfl (Y_ixArr un152 sz150 rfl rfl ae.1 ae.2) <| O_y rfl (Y_loadSeg (j := 0) ag150 hs rfl rfl ae.1 ae.2 rfl) <| One rfl <| Ox ap <| W_if rfl (fun ag => ?_) (fun ag => ?_)
   ·rw [if_pos ag] at H
    refine Wr fun a8 aq => As rfl <| Ox aq <| W.weak [(2, _)] (S1 rfl) <| W_ret ?_
    obtain rfl := sinj H
    exact r1 rfl ⟨rfl, hs⟩
   ·rw [if_neg ag] at H
    refine Wx an <| W_region <| Oad rfl <| Mv rfl <| O_nil (ac (ab, (IntKind.i64.wrap (aa + 1))) _ _ (T3 rfl) (Ai H hs) (Nat.lt_succ_self _))
  ·rw [if_neg af] at H
   refine W_exit (ak _ _ (ai _ _ <| Wr fun a9 ar => As rfl <| Ox ar <| W_ret ?_))
   obtain rfl := sinj H
   exact r1 rfl ⟨rfl, hs⟩

def stage_made_mbk.j1 (a3 : List Bool → List (Vector Int 128) → Vector Int 128 → (List (Vector Int 128 × Int)) → Vector Int 8704 → Int → Int → Int → Option (Option Tab × Int)) (ac : Int) (av : List Bool) (aw : List (Vector Int 128)) (ap : Vector Int 128) (ay : List (Vector Int 128 × Int)) (aq : Vector Int 8704) (ar bc : Int) : Option (Option Tab × Int) := a3 av aw ap ay aq ar bc (IntKind.i64.wrap (ac + 1))
def stage_made_mbk.j2 (a3 : List Bool → List (Vector Int 128) → Vector Int 128 → (List (Vector Int 128 × Int)) → Vector Int 8704 → Int → Int → Int → Option (Option Tab × Int)) (aa : Vector Int 8704) (af ac : Int) (ao : Bool × Vector Int 128 × Int) (ah : List Bool) (ai : List (Vector Int 128)) (ak : List (Vector Int 128 × Int)) (ax : Int) : Option (Option Tab × Int) := if (0 : Int) ≤ ac ∧ ac < ((8704 : Nat) : Int) then (if ao.1 = true then (stage_made_mbk.j1 a3 ac ah ai (Vector.replicate 128 0 : Vector Int 128) ak (vset aa ac ax) ao.2.2 af) else (stage_made_mbk.j1 a3 ac ah ai ao.2.1 ak (vset aa ac ax) ao.2.2 (IntKind.i64.wrap ax))) else none
def stage_made_mbk.j3 (a3 : List Bool → List (Vector Int 128) → Vector Int 128 → (List (Vector Int 128 × Int)) → Vector Int 8704 → Int → Int → Int → Option (Option Tab × Int)) (ae : List Bool) (ab : List (Vector Int 128)) (ad : List (Vector Int 128 × Int)) (aa : Vector Int 8704) (af ac : Int) (ao : Bool × Vector Int 128 × Int) (a4 : Bool) : Option (Option Tab × Int) := if a4 = true then (if (0 : Int) ≤ ac ∧ ac < ((8704 : Nat) : Int) then (stage_made_mbk.j1 a3 ac ae ab ao.2.1 ad (vset aa ac (IntKind.u16.wrap af)) ao.2.2 af) else none) else (if (!((mget ad ao.2.1).isSome)) = true then (if ab.length + ([ao.2.1]).length ≤ most then ((stage_block_flat_ejg.f ao.2.1).bind fun bf => (if ae.length + ([bf]).length ≤ most then (stage_made_mbk.j2 a3 aa af ac ao (ae ++ ([bf])) (ab ++ ([ao.2.1])) (mput ad ao.2.1 (IntKind.u16.wrap (ab.length : Int))) (IntKind.u16.wrap (ab.length : Int))) else none)) else none) else (stage_made_mbk.j2 a3 aa af ac ao ae ab ad ((mget ad ao.2.1).getD 0)))
def stage_made_mbk.l1 : Nat → Option Tab → List Val → List Bool → List (Vector Int 128) → Vector Int 128 → (List (Vector Int 128 × Int)) → Vector Int 8704 → Int → Int → Int → Option (Option Tab × Int)
  | 0, _, _, _, _, _, _, _, _, _, _ => none
  | bb + 1, y0_0, y1_0, ae, ab, au, ad, aa, am, af, ac => if ac < 8704 then ((stage_Table_Over_1_aek.f (IntKind.i32.wrap (IntKind.i64.wrap (ac * 128))) au y0_0 y1_0 am).bind fun ao => (if (!ao.1) = true then (stage_made_mbk.j3 (stage_made_mbk.l1 bb y0_0 y1_0) ae ab ad aa af ac ao (decide (0 ≤ af))) else (stage_made_mbk.j3 (stage_made_mbk.l1 bb y0_0 y1_0) ae ab ad aa af ac ao false))) else (some ((some (⟨aa, ab, ae⟩ : Tab)), am))
def stage_made_mbk.f (y0_0 : Option Tab) (y1_0 : List Val) (y2_0 : Int) : Option (Option Tab × Int) := stage_made_mbk.l1 K0 y0_0 y1_0 ([] : List Bool) ([] : List (Vector Int 128)) (Vector.replicate 128 0 : Vector Int 128) ([] : List (Vector Int 128 × Int)) (Vector.replicate 8704 0 : Vector Int 8704) y2_0 (-1) 0
theorem stage_made_mbk.c {pb0 : Nat} {w0_0 : Value} {y0_0 : Option Tab} {pb1 : Nat} {w1_0 : Value} {y1_0 : List Val} {pb2 : Nat} {y2_0 : Int} (hs : St w0 ρ ((.box pb0 104 ([w0_0])) :: (.box pb1 23 ([w1_0])) :: (.box pb2 3 ([.int .i64 y2_0])) :: Γ) w) (g0_0 : PtrR rTab ρ w0_0 y0_0) (g1_0 : SlR rVal ρ w1_0 y1_0) {r : Option Tab × Int} (H : stage_made_mbk.f y0_0 y1_0 y2_0 = some r) : CallsR Tryz.prog 152 [.func (.func 153) #[] #[.pointer (some ⟨pb0, 0, none⟩), .pointer (some ⟨pb1, 0, none⟩), .pointer (some ⟨pb2, 0, none⟩)]] w (fun v w' => ∃ (ρ' : Hp) (v0 : Value), v = v0 ∧ Le ρ ρ' ∧ St w0 ρ' ((.box pb0 104 ([w0_0])) :: (.box pb1 23 ([w1_0])) :: (.box pb2 3 ([.int .i64 r.2])) :: Γ) w' ∧ PtrR rTab ρ' v0 r.1) := by
  rw [stage_made_mbk.f] at H
  refine Et Tryz.func152 Tryz.ntmps152 rfl <| Wr fun eu df => As rfl <| Ox df <| Wr fun ev dg => O_y rfl (Y_build0s zr156 pl156) <| O_boxN (cs := [] ++ (vcs (Value.int .u16) (Vector.replicate 8704 0 : Vector Int 8704) ++ [.slice none 0 0, .slice none 0 0])) hs rfl rfl (fun bg w hs => As rfl <| Ox dg <| Wr fun ew dh => O_mapNew kv152.enc (Value.int .u16) hs rfl (fun bh w hs => ?_))
  refine As rfl <| Ox dh <| Wr fun ex di => As rfl <| Ox di <| Wr fun ey dk => O_alloc zr152 hs rfl (fun bi w hs => Ox dk <| W_seq fun ez dl => Wr fun e0 dm => Mv rfl ?_)
  refine Ox dm <| W_block fun e1 dn e2 => ?_
  have hs := hs.rowNil 152 (Rep.arr (Value.int .u16) (one_int .u16) 128).sz
  have dp := RowR.nil (Rep.arr (Value.int .u16) (one_int .u16) 128) ρ
  have hs := hs.rowNil 4 Rep.bool.sz
  have dq := RowR.nil Rep.bool ρ
  refine W_loop (σ := Nat × List Bool × List (Vector Int 128) × Vector Int 128 × (List (Vector Int 128 × Int)) × Vector Int 8704 × Int × Int × Int × Value × List Value × Value × List Value) (fun (bb, ae, ab, au, ad, aa, am, af, ac, ag, al, aj, an) => [(0, .func (.func 153) #[] #[.pointer (some ⟨pb0, 0, none⟩), .pointer (some ⟨pb1, 0, none⟩), .pointer (some ⟨pb2, 0, none⟩)]), (3, .pointer (some ⟨bg, 0, none⟩)), (4, .map (some bh)), (5, .int .i64 af), (6, .pointer (some ⟨bi, 0, none⟩)), (14, .int .i64 ac)]) (fun (bb, ae, ab, au, ad, aa, am, af, ac, ag, al, aj, an) w => stage_made_mbk.l1 bb y0_0 y1_0 ae ab au ad aa am af ac = some r ∧ St w0 ρ ((.row ag 4 Rep.bool.sz ae.length al) :: (.row aj 152 ((Rep.arr (Value.int .u16) (one_int .u16) 128).sz) ab.length an) :: (.box bi 152 ([] ++ (vcs (Value.int .u16) au ++ []))) :: (.obj bh (mapObj kv152.enc (vs (Value.int .u16) ad))) :: (.box bg 156 ([] ++ (vcs (Value.int .u16) aa ++ [aj, ag]))) :: (.box pb0 104 ([w0_0])) :: (.box pb1 23 ([w1_0])) :: (.box pb2 3 ([.int .i64 am])) :: Γ) w ∧ RowR Rep.bool ρ al ae ∧ RowR (Rep.arr (Value.int .u16) (one_int .u16) 128) ρ an ab) (fun s => s.1) (K0, ([] : List Bool), ([] : List (Vector Int 128)), (Vector.replicate 128 0 : Vector Int 128), ([] : List (Vector Int 128 × Int)), (Vector.replicate 8704 0 : Vector Int 8704), y2_0, (-1), 0, (.slice none 0 0), ([]), (.slice none 0 0), ([])) sbn (Ai H (Ai hs (Ai dq dp))) ?_
  rintro ⟨bb, ae, ab, au, ad, aa, am, af, ac, ag, al, aj, an⟩ w e3 ⟨H, hs, a5, a6⟩ br
  show W _ _ _ _ _ _ [(0, .func (.func 153) #[] #[.pointer (some ⟨pb0, 0, none⟩), .pointer (some ⟨pb1, 0, none⟩), .pointer (some ⟨pb2, 0, none⟩)]), (3, .pointer (some ⟨bg, 0, none⟩)), (4, .map (some bh)), (5, .int .i64 af), (6, .pointer (some ⟨bi, 0, none⟩)), (14, .int .i64 ac)] w
  cases bb with
  | zero => rw [stage_made_mbk.l1] at H; cases H
  | succ bb =>
  rw [stage_made_mbk.l1] at H
  refine Wr fun e4 dr => Ols rfl <| Ox dr <| W_seq fun e5 ds => W_if rfl (fun b7 => ?_) (fun b7 => ?_)
  ·rw [if_pos b7] at H
   refine Wx ds <| W_seqj fun dt du b8 => ?_
   have b9 : ∀ (av : List Bool) (aw : List (Vector Int 128)) (ap : Vector Int 128) (ay : List (Vector Int 128 × Int)) (aq : Vector Int 8704) (ar bc : Int) (a7 : Value) (a8 : List Value) (a9 : Value) (ba : List Value) (w : World), stage_made_mbk.j1 (stage_made_mbk.l1 bb y0_0 y1_0) ac av aw ap ay aq ar bc = some r → St w0 ρ ((.row a7 4 Rep.bool.sz av.length a8) :: (.row a9 152 ((Rep.arr (Value.int .u16) (one_int .u16) 128).sz) aw.length ba) :: (.box bi 152 ([] ++ (vcs (Value.int .u16) ap ++ []))) :: (.obj bh (mapObj kv152.enc (vs (Value.int .u16) ay))) :: (.box bg 156 ([] ++ (vcs (Value.int .u16) aq ++ [a9, a7]))) :: (.box pb0 104 ([w0_0])) :: (.box pb1 23 ([w1_0])) :: (.box pb2 3 ([.int .i64 ar])) :: Γ) w → RowR Rep.bool ρ a8 av → RowR (Rep.arr (Value.int .u16) (one_int .u16) 128) ρ ba aw → dt [(0, .func (.func 153) #[] #[.pointer (some ⟨pb0, 0, none⟩), .pointer (some ⟨pb1, 0, none⟩), .pointer (some ⟨pb2, 0, none⟩)]), (3, .pointer (some ⟨bg, 0, none⟩)), (4, .map (some bh)), (5, .int .i64 bc), (6, .pointer (some ⟨bi, 0, none⟩)), (14, .int .i64 ac)] w := by
    intro av aw ap ay aq ar bc a7 a8 a9 ba w H hs bj bk
    rw [stage_made_mbk.j1] at H
    refine du _ _ <| W_region <| Oad rfl <| Mv rfl <| O_nil (br (bb, av, aw, ap, ay, aq, ar, bc, (IntKind.i64.wrap (ac + 1)), a7, a8, a9, ba) _ _ sbn (Ai H (Ai hs (Ai bj bk))) (Nat.lt_succ_self _))
   refine W_block fun e6 dv e7 => Wr fun e8 dw => Mv rfl <| As rfl <| Ox dw <| Wr fun e9 dx => Mv rfl <| Mv rfl <| Oml rfl <| O_y rfl (Y_conv un3 un21 rfl) ?_
   have hs := hs.front 7 rfl
   have hs := hs.front 7 rfl
   have hs := hs.front 7 rfl
   have hs := hs.front 5 rfl
   obtain ⟨ao, ca, H⟩ := bnd H
   refine O_callv rfl rfl rfl (stage_Table_Over_1_aek.c hs g0_0 g1_0 ca) (fun fa w hpost => ?_)
   obtain ⟨rfl, hs⟩ := hpost
   have hs := hs.sink 5
   have hs := hs.sink 7
   have hs := hs.sink 7
   have hs := hs.sink 7
   refine As rfl <| Ox dx <| W.weak [(0, _), (3, _), (4, _), (5, _), (6, _), (7, _), (8, _), (14, _)] sbn ?_
   refine W_seq fun fb dy => W_seqj fun dz cb bx => ?_
   have bz : ∀ (a4 : Bool) (w : World), stage_made_mbk.j3 (stage_made_mbk.l1 bb y0_0 y1_0) ae ab ad aa af ac ao a4 = some r → St w0 ρ ((.row ag 4 Rep.bool.sz ae.length al) :: (.row aj 152 ((Rep.arr (Value.int .u16) (one_int .u16) 128).sz) ab.length an) :: (.box bi 152 ([] ++ (vcs (Value.int .u16) ao.2.1 ++ []))) :: (.obj bh (mapObj kv152.enc (vs (Value.int .u16) ad))) :: (.box bg 156 ([] ++ (vcs (Value.int .u16) aa ++ [aj, ag]))) :: (.box pb0 104 ([w0_0])) :: (.box pb1 23 ([w1_0])) :: (.box pb2 3 ([.int .i64 ao.2.2])) :: Γ) w → dz [(0, .func (.func 153) #[] #[.pointer (some ⟨pb0, 0, none⟩), .pointer (some ⟨pb1, 0, none⟩), .pointer (some ⟨pb2, 0, none⟩)]), (3, .pointer (some ⟨bg, 0, none⟩)), (4, .map (some bh)), (5, .int .i64 af), (6, .pointer (some ⟨bi, 0, none⟩)), (7, .int .i64 ac), (8, .bool ao.1), (14, .int .i64 ac), (27, .bool a4)] w := by
    intro a4 w H hs
    rw [stage_made_mbk.j3] at H
    refine cb _ _ <| W_cond rfl (fun bs => ?_) (fun bs => ?_)
    ·rw [if_pos bs] at H
     refine Wr fun ea cc => Mv rfl <| Mv rfl <| Mv rfl <| O_y rfl (Y_conv un3 un150 rfl) <| Onp rfl <| Ofd fo156_0 rfl ?_
     obtain ⟨bm, H⟩ := gd H
     refine O_y rfl (Y_ixArr un153 sz150 rfl rfl bm.1 bm.2) <| O_storeSeg (j := 4) (u := IntKind.u16.wrap af) sz150 (one_int .u16) hs rfl rfl bm.1 bm.2 rfl rfl (fun w hs => Ox cc <| W.weak [(0, _), (3, _), (4, _), (5, _), (6, _), (14, _)] sbn ?_)
     exact W_exit (dv _ _ (b8 _ _ _ sbn (b9 ae ab ao.2.1 ad (vset aa ac (IntKind.u16.wrap af)) ao.2.2 af ag al aj an _ H hs a5 a6)))
    ·rw [if_neg (bft bs)] at H
     refine Wx dy <| Wr fun eb cd => Mv rfl <| O_y rfl (Y_loadArr (j := 2) ag152 sz152 hs rfl rfl) <| O_y rfl (Y_mapGet2 (i := 3) (m := ad) (x := ao.2.1) (E := (Value.int .u16)) un203 kv152 trivial (fun _ _ => trivial) zv150 hs rfl rfl rfl) <| Mv rfl <| Oxt rfl <| Oxt rfl <| As rfl <| As rfl <| Ox cd <| W.weak [(0, _), (3, _), (4, _), (5, _), (6, _), (7, _), (8, _), (9, _), (10, _), (14, _)] sbn ?_
     refine W_seqj fun ce cf b0 => ?_
     have b1 : ∀ (ah : List Bool) (ai : List (Vector Int 128)) (ak : List (Vector Int 128 × Int)) (ax : Int) (az : Value) (a0 : List Value) (a1 : Value) (a2 : List Value) (w : World), stage_made_mbk.j2 (stage_made_mbk.l1 bb y0_0 y1_0) aa af ac ao ah ai ak ax = some r → St w0 ρ ((.row az 4 Rep.bool.sz ah.length a0) :: (.row a1 152 ((Rep.arr (Value.int .u16) (one_int .u16) 128).sz) ai.length a2) :: (.box bi 152 ([] ++ (vcs (Value.int .u16) ao.2.1 ++ []))) :: (.obj bh (mapObj kv152.enc (vs (Value.int .u16) ak))) :: (.box bg 156 ([] ++ (vcs (Value.int .u16) aa ++ [a1, az]))) :: (.box pb0 104 ([w0_0])) :: (.box pb1 23 ([w1_0])) :: (.box pb2 3 ([.int .i64 ao.2.2])) :: Γ) w → RowR Rep.bool ρ a0 ah → RowR (Rep.arr (Value.int .u16) (one_int .u16) 128) ρ a2 ai → ce [(0, .func (.func 153) #[] #[.pointer (some ⟨pb0, 0, none⟩), .pointer (some ⟨pb1, 0, none⟩), .pointer (some ⟨pb2, 0, none⟩)]), (3, .pointer (some ⟨bg, 0, none⟩)), (4, .map (some bh)), (5, .int .i64 af), (6, .pointer (some ⟨bi, 0, none⟩)), (7, .int .i64 ac), (8, .bool ao.1), (9, .int .u16 ax), (14, .int .i64 ac)] w := by
      intro ah ai ak ax az a0 a1 a2 w H hs bd be
      rw [stage_made_mbk.j2] at H
      refine cf _ _ <| Wr fun ec cg => Mv rfl <| Mv rfl <| Mv rfl <| Onp rfl <| Ofd fo156_0 rfl ?_
      obtain ⟨bn, H⟩ := gd H
      refine O_y rfl (Y_ixArr un153 sz150 rfl rfl bn.1 bn.2) <| O_storeSeg (j := 4) (u := ax) sz150 (one_int .u16) hs rfl rfl bn.1 bn.2 rfl rfl (fun w hs => Ox cg <| W.weak [(0, _), (3, _), (4, _), (5, _), (6, _), (8, _), (9, _), (14, _)] sbn ?_)
      refine Wr fun ed ch => Mv rfl <| Ox ch <| W_cond rfl (fun bt => ?_) (fun bt => ?_)
      ·rw [if_pos bt] at H
       refine W_region <| O_y rfl (Y_build0a (zs := vcs (Value.int .u16) (Vector.replicate 128 0 : Vector Int 128)) un152 sz150 zb152) <| O_storeArr (j := 2) (u := (Vector.replicate 128 0 : Vector Int 128)) sz152 (one_int .u16) hs rfl rfl rfl (fun w hs => O_nil (b8 _ _ _ sbn (b9 ah ai (Vector.replicate 128 0 : Vector Int 128) ak (vset aa ac ax) ao.2.2 af az a0 a1 a2 _ H hs bd be)))
      ·rw [if_neg (bft bt)] at H
       refine W_region <| Mv rfl <| O_y rfl (Y_conv un150 un3 rfl) <| As rfl <| O_nil (b8 _ _ _ sbn (b9 ah ai ao.2.1 ak (vset aa ac ax) ao.2.2 (IntKind.i64.wrap ax) az a0 a1 a2 _ H hs bd be))
     refine Wr fun ee ci => Mv rfl <| Ont rfl <| Ox ci <| W_cond rfl (fun bu => ?_) (fun bu => ?_)
     ·rw [if_pos bu] at H
      refine Wr fun ef cj => Mv rfl <| Onp rfl <| Ofd fo156_1 rfl <| O_y rfl (Yb 4 ag154 hs rfl (seg_beh (q := 0) rfl rfl) rfl) <| O_y rfl (Y_lenRow (i := 1) un154 hs rfl rfl) <| O_y rfl (Y_conv un3 un150 rfl) <| As rfl <| Ox cj <| W.weak [(0, _), (3, _), (4, _), (5, _), (6, _), (7, _), (8, _), (9, _), (14, _)] sbn ?_
      refine Wr fun eg ck => Mv rfl <| O_y rfl (Y_loadArr (j := 2) ag152 sz152 hs rfl rfl) <| Mv rfl <| O_mapPut (i := 3) (m := ad) (x := ao.2.1) (v := IntKind.u16.wrap (ab.length : Int)) (E := (Value.int .u16)) un203 kv152 trivial (fun _ _ => trivial) hs rfl rfl rfl rfl (fun w hs => Ox ck <| W_seq fun eh cl => W_drawS 11 [0, 0, 2, 4, 8, 0, 32, 80, 255, 511, 767] [254, 249, 241, 225, 97, 159, 31, 1, 1024, 0, 0] [0, 0, 2, 6, 14, 0, 32, 126, 255, 511, 1023] [7, 8, 9, 10] (fun w => St w0 ρ ((.row ag 4 Rep.bool.sz ae.length al) :: (.row aj 152 ((Rep.arr (Value.int .u16) (one_int .u16) 128).sz) ab.length an) :: (.box bi 152 ([] ++ (vcs (Value.int .u16) ao.2.1 ++ []))) :: (.obj bh (mapObj kv152.enc (vs (Value.int .u16) (mput ad ao.2.1 (IntKind.u16.wrap (ab.length : Int)))))) :: (.box bg 156 ([] ++ (vcs (Value.int .u16) aa ++ [aj, ag]))) :: (.box pb0 104 ([w0_0])) :: (.box pb1 23 ([w1_0])) :: (.box pb2 3 ([.int .i64 ao.2.2])) :: Γ) w) mixed (by kernel_rfl) (fun sh => ?_))
      have hs := hs.drew
      refine Fm 0 sh rfl <| Fm 1 sh rfl <| Fp 2 sh rfl (fun w => Y_nilp rfl) <| Fp 3 sh rfl (fun w => Y_field fo156_1 rfl) <| Fy 4 sh rfl hs (fun w hs => Yb 4 ag154 hs rfl (seg_beh (q := 0) rfl rfl) rfl) <| Fy 5 sh rfl hs (fun w hs => Y_loadArr (j := 2) ag152 sz152 hs rfl rfl) <| F1 6 sh rfl (fun ei cm => O_lit2 (xs := [.tmp 57]) (cs := vcs (Value.int .u16) ao.2.1 ++ ([])) el154 hs rfl rfl rfl (by decide) (by decide) rfl (sz_cons (vcs_csize _ _) sz_nil) (flat_cons rfl flat_nil) (fun cn w hs => ?_))
      have b2 : RowR (Rep.arr (Value.int .u16) (one_int .u16) 128) ρ (vcs (Value.int .u16) ao.2.1 ++ ([])) [ao.2.1] := RowR.cons (c := vcs (Value.int .u16) ao.2.1) (x := ao.2.1) rfl (RowR.nil _ _)
      refine O_nil (cm _ _ (fun _ _ => (hs.sub (ssk (ssc (ssc (ssc (ssc (ssc (ssc (ssc (ssc ssr))))))))))) ?_)
      obtain ⟨co, H⟩ := gd H
      refine F1 7 sh rfl (fun ej cp => O_appendR (i := 2) el154 hs rfl a6 rfl rfl rfl (Src.lit (j := 0) hs rfl b2) b2 co (fun bv bo w cq hs => O_nil (cp _ _ (fun h _ => absurd h (by decide)) <| OD_resetS sh [10] hs (by kernel_rfl) <| Fp 8 sh rfl (fun w => Y_nilp rfl) <| Fp 9 sh rfl (fun w => Y_field fo156_1 rfl) <| F1 10 sh rfl (fun ek cr => O_storeBeh (j := 5) (q := 0) sz154 hs rfl rfl rfl rfl rfl (St.rowOne hs (j := 2) rfl) (fun w hs => O_nil (cr _ _ (fun h _ => absurd h (by decide)) <| FE sh (cl _ _ <| W.weak [(0, _), (3, _), (4, _), (5, _), (6, _), (7, _), (8, _), (9, _), (14, _)] sbn ?_)))))))
      refine W_drawS 11 [0, 0, 2, 4, 8, 0, 32, 112, 255, 511, 767] [254, 249, 241, 225, 97, 31, 31, 1, 1024, 0, 0] [0, 0, 2, 6, 14, 0, 32, 126, 255, 511, 1023] [7, 8, 9, 10] (fun w => St w0 ρ ((.row (.slice (some ⟨cn, 0, none⟩) 1 1) 152 ((Rep.arr (Value.int .u16) (one_int .u16) 128).sz) (([ao.2.1]).length) (vcs (Value.int .u16) ao.2.1 ++ ([]))) :: (.row ag 4 Rep.bool.sz ae.length al) :: (.row bv 152 ((Rep.arr (Value.int .u16) (one_int .u16) 128).sz) ((ab ++ ([ao.2.1])).length) bo) :: (.box bi 152 ([] ++ (vcs (Value.int .u16) ao.2.1 ++ []))) :: (.obj bh (mapObj kv152.enc (vs (Value.int .u16) (mput ad ao.2.1 (IntKind.u16.wrap (ab.length : Int)))))) :: (.box bg 156 ([] ++ (vcs (Value.int .u16) aa ++ [bv, ag]))) :: (.box pb0 104 ([w0_0])) :: (.box pb1 23 ([w1_0])) :: (.box pb2 3 ([.int .i64 ao.2.2])) :: Γ) w) mixed (by kernel_rfl) (fun sh => ?_)
      have hs := hs.drew
      refine Fm 0 sh rfl <| Fm 1 sh rfl <| Fp 2 sh rfl (fun w => Y_nilp rfl) <| Fp 3 sh rfl (fun w => Y_field fo156_2 rfl) <| Fy 4 sh rfl hs (fun w hs => Yb 5 ag84 hs rfl (seg_beh (q := 1) rfl rfl) rfl) <| F1 5 sh rfl (fun el ct => ?_)
      have hs := hs.front 3 rfl
      obtain ⟨bf, b3, H⟩ := bnd H
      refine Oc rfl (stage_block_flat_ejg.c hs b3) (fun em w hpost => ?_)
      obtain ⟨rfl, hs⟩ := hpost
      have hs := hs.sink 3
      refine O_nil (ct _ _ (fun _ _ => hs) <| F1 6 sh rfl (fun en cu => O_lit2 (xs := [.tmp 67]) (cs := [.bool bf]) el84 hs rfl rfl rfl (by decide) (by decide) rfl (sz_cons rfl sz_nil) (flat_cons rfl flat_nil) (fun eo w hs => ?_)))
      have b4 : RowR Rep.bool ρ ([.bool bf]) [bf] := RowR.cons (c := [.bool bf]) (x := bf) rfl (RowR.nil _ _)
      refine O_nil (cu _ _ (fun _ _ => (hs.sub (ssk (ssc (ssc (ssc (ssc (ssc (ssc (ssc (ssc (ssc ssr)))))))))))) ?_)
      obtain ⟨cv, H⟩ := gd H
      refine F1 7 sh rfl (fun ep cw => O_appendR (i := 2) el84 hs rfl a5 rfl rfl rfl (Src.lit (j := 0) hs rfl b4) b4 cv (fun cx b5 w cy hs => O_nil (cw _ _ (fun h _ => absurd h (by decide)) <| OD_resetS sh [10] hs (by kernel_rfl) <| Fp 8 sh rfl (fun w => Y_nilp rfl) <| Fp 9 sh rfl (fun w => Y_field fo156_2 rfl) <| F1 10 sh rfl (fun eq cz => O_storeBeh (j := 6) (q := 1) sz84 hs rfl rfl rfl rfl rfl (St.rowOne hs (j := 2) rfl) (fun w hs => O_nil (cz _ _ (fun h _ => absurd h (by decide)) <| FE sh (b0 _ _ _ sbn (b1 (ae ++ ([bf])) (ab ++ ([ao.2.1])) (mput ad ao.2.1 (IntKind.u16.wrap (ab.length : Int))) (IntKind.u16.wrap (ab.length : Int)) cx b5 bv bo _ H (hs.sub (ssk (ssk (ssc (ssc (ssc (ssc (ssc (ssc (ssc (ssc ssr))))))))))) cy cq))))))))
     ·rw [if_neg (bft bu)] at H
      exact W_skip (b0 _ _ _ sbn (b1 ae ab ad ((mget ad ao.2.1).getD 0) ag al aj an _ H hs a5 a6))
   refine W_region <| Mv rfl <| Ont rfl <| Mv rfl <| O_cases (dj := 24) rfl (fun bw => ?_) (fun bw => ?_)
   ·rw [if_pos bw] at H
    refine Oe rfl <| Mv rfl <| Oe rfl <| Oge rfl <| Opk rfl <| O_nil (bx _ _ _ sbn (bz (decide (0 ≤ af)) _ H hs))
   ·rw [if_neg (bft bw)] at H
    refine On rfl <| On rfl <| Opk rfl <| O_nil (bx _ _ _ sbn (bz false _ H hs))
  ·rw [if_neg b7] at H
   refine W_exit (dn _ _ (dl _ _ <| Wr fun er da => Mv rfl <| As rfl <| Ox da <| W_ret ?_))
   obtain ⟨es, bp, hs, db⟩ := hs.rowEnd (j := 1) a6 rfl
   obtain ⟨et, bq, hs, dc⟩ := hs.rowEnd (j := 0) (a5.mono bp) rfl
   obtain ⟨dd, bl, hs, b6⟩ := hs.boxEnd (j := 2) rfl
   have de : PtrR rTab dd (.pointer (some ⟨bg, 0, none⟩)) (some (⟨aa, ab, ae⟩ : Tab)) := .inr ⟨bg, _, rfl, rfl, _, ⟨_, _, rfl, (db.mono (bq.trans bl)), (dc.mono bl)⟩, b6⟩
   obtain rfl := sinj H
   exact r1 rfl ⟨_, _, rfl, ((bp.trans bq).trans bl), (hs.sub (ssk (ssk (ssc (ssc (ssc ssr)))))), de⟩

def stage_Table_Over.f (x0 : Option Tab) (x1 : List Val) : Option (Option Tab × Int × Int) := (stage_check.f x1).bind fun aa => (if aa.2 ≠ 0 then (some (none, aa.1, aa.2)) else ((stage_made_mbk.f x0 x1 0).bind fun af => (some (af.1, 0, 0))))
theorem stage_Table_Over.c (hs : St w0 ρ (Γ) w) {v0 : Value} {x0 : Option Tab} (h0 : PtrR rTab ρ v0 x0) {v1 : Value} {x1 : List Val} (h1 : SlR rVal ρ v1 x1) {r : Option Tab × Int × Int} (H : stage_Table_Over.f x0 x1 = some r) : CallsR Tryz.prog 118 [v0, v1] w (fun v w' => ∃ (ρ' : Hp) (v0 : Value), v = .tuple #[v0, .int .i64 r.2.1, .int .i64 r.2.2] ∧ Le ρ ρ' ∧ St w0 ρ' (Γ) w' ∧ PtrR rTab ρ' v0 r.1) := by
  rw [stage_Table_Over.f] at H
  refine Et Tryz.func118 Tryz.ntmps118 rfl <| Wr fun ap ag => O_box1 hs rfl rfl h0.one (fun aq w hs => O_box1 hs rfl rfl h1.one (fun ar w hs => As rfl <| As rfl <| As rfl <| Ox ag <| W_seq fun au ah => Wr fun av ai => Obx 0 ag23 hs rfl ?_))
  obtain ⟨aa, ab, H⟩ := bnd H
  refine Oc rfl (stage_check.c hs h1 ab) (fun aw w hpost => ?_)
  obtain ⟨rfl, hs⟩ := hpost
  refine Mv rfl <| Oxt rfl <| Oxt rfl <| As rfl <| As rfl <| Ox ai <| Wr fun ax aj => Mv rfl <| One rfl <| Ox aj <| W.weak [(2, _), (3, _), (7, _), (8, _), (16, _)] sbn ?_
  refine W_if rfl (fun ac => ?_) (fun ac => ?_)
  ·rw [if_pos ac] at H
   refine Wr fun ay ak => Mv rfl <| Mv rfl <| As rfl <| As rfl <| As rfl <| Ox ak <| W_ret ?_
   have al : PtrR rTab ρ (.pointer none) none := PtrR.nil _ _
   obtain rfl := sinj H
   exact ret3 rfl rfl rfl rfl ⟨_, _, rfl, Le.rfl' _, (hs.sub (ssk (ssk ssr))), al⟩
  ·rw [if_neg ac] at H
   refine Wx ah <| Wr fun az am => O_alloc zr3 hs rfl (fun a0 w hs => O_store (i := 0) sz3 hs rfl rfl rfl rfl rfl (fun w hs => Ox am <| Wr fun a1 an => O_y rfl (Y_func rfl) ?_))
   have hs := hs.front 1 rfl
   have hs := hs.front 2 rfl
   obtain ⟨af, ad, H⟩ := bnd H
   refine Oc rfl (stage_made_mbk.c hs h0 h1 ad) (fun a2 w hpost => ?_)
   obtain ⟨a3, a4, rfl, ae, hs, ao⟩ := hpost
   have hs := hs.sink 2
   have hs := hs.sink 1
   refine As rfl <| As rfl <| As rfl <| Ox an <| W_ret ?_
   obtain rfl := sinj H
   exact ret3 rfl rfl rfl rfl ⟨_, _, rfl, ae, (hs.sub (ssk (ssk (ssk ssr)))), ao⟩

def stage_Build.f (x0 : List Val) : Option (Option Tab × Int × Int) := (stage_Table_Over.f none x0).bind fun aa => (some (aa.1, aa.2.1, aa.2.2))
theorem stage_Build.c (hs : St w0 ρ (Γ) w) {v0 : Value} {x0 : List Val} (h0 : SlR rVal ρ v0 x0) {r : Option Tab × Int × Int} (H : stage_Build.f x0 = some r) : CallsR Tryz.prog 63 [v0] w (fun v w' => ∃ (ρ' : Hp) (v0 : Value), v = .tuple #[v0, .int .i64 r.2.1, .int .i64 r.2.2] ∧ Le ρ ρ' ∧ St w0 ρ' (Γ) w' ∧ PtrR rTab ρ' v0 r.1) := by
  rw [stage_Build.f] at H
  refine Et Tryz.func63 Tryz.ntmps63 rfl <| Wr fun ah ad => As rfl <| As rfl <| As rfl <| Ox ad <| Wr fun ai ae => Mv rfl ?_
  have af : PtrR rTab ρ (.pointer none) none := PtrR.nil _ _
  obtain ⟨aa, ab, H⟩ := bnd H
  refine Oc rfl (stage_Table_Over.c hs af h0 ab) (fun aj w hpost => ?_)
  obtain ⟨ak, al, rfl, ac, hs, ag⟩ := hpost
  refine Oxt rfl <| Oxt rfl <| Oxt rfl <| As rfl <| As rfl <| As rfl <| Ox ae <| W_ret ?_
  obtain rfl := sinj H
  exact ret3 rfl rfl rfl rfl ⟨_, _, rfl, ac, hs, ag⟩

def book_Compile_1.f (x0 : List Val) : Option (Option Tab) := (stage_Build.f x0).bind fun ac => (some ac.1)
theorem book_Compile_1.c (hs : St w0 ρ (Γ) w) {v0 : Value} {x0 : List Val} (h0 : SlR rVal ρ v0 x0) {r : Option Tab} (H : book_Compile_1.f x0 = some r) : CallsR Tryz.prog 62 [v0] w (fun v w' => ∃ (ρ' : Hp) (v0 : Value), v = v0 ∧ Le ρ ρ' ∧ St w0 ρ' (Γ) w' ∧ PtrR rTab ρ' v0 r) := by
  rw [book_Compile_1.f] at H
  refine Et Tryz.func62 Tryz.ntmps62 rfl <| Wr fun ah ad => As rfl <| Ox ad <| Wr fun ai ae => Mv rfl ?_
  obtain ⟨ac, aa, H⟩ := bnd H
  refine Oc rfl (stage_Build.c hs h0 aa) (fun aj w hpost => ?_)
  obtain ⟨ak, al, rfl, ab, hs, af⟩ := hpost
  refine Mv rfl <| Oxt rfl <| Oxt rfl <| Oxt rfl <| As rfl <| As rfl <| As rfl <| Ox ae <| Wr fun am ag => Mv rfl <| As rfl <| Ox ag <| W_ret ?_
  obtain rfl := sinj H
  exact r1 rfl ⟨_, _, rfl, ab, hs, af⟩

def book_marked.l1 : Nat → List Spn → List Val → Int → Option (Option Tab)
  | 0, _, _, _ => none
  | ae + 1, x0, ab, aa => if aa < (x0.length : Int) then (if (0 : Int) ≤ aa ∧ aa < (x0.length : Int) then (if ab.length + ([(⟨(rd x0 aa).lo, (rd x0 aa).hi, 1⟩ : Val)]).length ≤ most then ((book_marked.l1 ae x0) (ab ++ ([(⟨(rd x0 aa).lo, (rd x0 aa).hi, 1⟩ : Val)])) (IntKind.i64.wrap (aa + 1))) else none) else none) else ((stage_Build.f ab).bind fun ao => (some ao.1))
def book_marked.f (x0 : List Spn) : Option (Option Tab) := book_marked.l1 K0 x0 ([] : List Val) 0
theorem book_marked.c (hs : St w0 ρ (Γ) w) {v0 : Value} {x0 : List Spn} (h0 : SlR rSpn ρ v0 x0) {r : Option Tab} (H : book_marked.f x0 = some r) : CallsR Tryz.prog 64 [v0] w (fun v w' => ∃ (ρ' : Hp) (v0 : Value), v = v0 ∧ Le ρ ρ' ∧ St w0 ρ' (Γ) w' ∧ PtrR rTab ρ' v0 r) := by
  rw [book_marked.f] at H
  refine Et Tryz.func64 Tryz.ntmps64 rfl <| Wr fun bf ar => As rfl <| Ox ar <| Wr fun bg au => As rfl ?_
  have hs := hs.rowNil 67 rVal.sz
  have av := RowR.nil rVal ρ
  refine Ox au <| W_seq fun bh aw => Wr fun bi ax => Mv rfl <| O_y rfl (Y_lenR un25 h0 rfl) <| Mv rfl <| Ox ax <| W_block fun bj ay bk => W_loop (σ := Nat × List Val × Int × Value × List Value) (fun (ae, ab, aa, ac, ad) => [(3, ac), (9, v0), (10, .int .i64 (x0.length : Int)), (11, .int .i64 aa)]) (fun (ae, ab, aa, ac, ad) w => book_marked.l1 ae x0 ab aa = some r ∧ St w0 ρ ((.row ac 67 rVal.sz ab.length ad) :: Γ) w ∧ RowR rVal ρ ad ab) (fun s => s.1) (K0, ([] : List Val), 0, (.slice none 0 0), ([])) (T4 rfl) (Ai H (Ai hs av)) ?_
  rintro ⟨ae, ab, aa, ac, ad⟩ w bl ⟨H, hs, af⟩ ag
  show W _ _ _ _ _ _ [(3, ac), (9, v0), (10, .int .i64 (x0.length : Int)), (11, .int .i64 aa)] w
  cases ae with
  | zero => rw [book_marked.l1] at H; cases H
  | succ ae =>
  rw [book_marked.l1] at H
  refine Wr fun bm az => Ols rfl <| Ox az <| W_seq fun bn a0 => W_if rfl (fun aj => ?_) (fun aj => ?_)
  ·rw [if_pos aj] at H
   refine Wx a0 <| W_seq fun bo a1 => W_block fun bp bq br => W_seq fun bs a2 => W_region ?_
   obtain ⟨ap, H⟩ := gd H
   obtain ⟨bt, bu, a3, a4⟩ := h0.ix el25 ap.1 ap.2
   obtain ⟨_, rfl, a5⟩ := a3
   refine O_y rfl (a4 rfl rfl) <| O_y rfl (Y_loadN ag129 sz129 rfl rfl (fun j u hu => hs.see (a5 j u hu))) <| O_alloc zr129 hs rfl (fun bv w hs => O_storeN (i := 0) sz129 hs rfl rfl rfl rfl rfl (one_cons rfl (one_cons rfl one_nil)) (fun w hs => Ox a2 <| W_region <| Mv rfl <| Ofd fo129_0 rfl <| Obx 0 ag21 hs rfl <| Ofd fo129_1 rfl <| Obx 0 ag21 hs rfl <| O_y rfl (Y_build (cs := [.int .i32 ((rd x0 aa).lo), .int .i32 ((rd x0 aa).hi), .int .i64 1]) zr67 pl67 ((Parts.cons rfl rfl (Parts.cons rfl rfl (Parts.cons rfl rfl Parts.nil)))) ag67 (by kernel_rfl)) <| O_lit2 (xs := [.tmp 20]) (cs := [.int .i32 ((rd x0 aa).lo), .int .i32 ((rd x0 aa).hi), .int .i64 1]) el23 hs rfl rfl rfl (by decide) (by decide) rfl (sz_cons rfl sz_nil) (flat_cons rfl flat_nil) (fun bw w hs => ?_)))
   have aq : RowR rVal ρ ([.int .i32 ((rd x0 aa).lo), .int .i32 ((rd x0 aa).hi), .int .i64 1]) [(⟨(rd x0 aa).lo, (rd x0 aa).hi, 1⟩ : Val)] := RowR.cons (c := [.int .i32 ((rd x0 aa).lo), .int .i32 ((rd x0 aa).hi), .int .i64 1]) (x := (⟨(rd x0 aa).lo, (rd x0 aa).hi, 1⟩ : Val)) rfl (RowR.nil _ _)
   obtain ⟨a6, H⟩ := gd H
   refine O_appendR (i := 2) el23 hs rfl af rfl rfl rfl (Src.lit (j := 0) hs rfl aq) aq a6 (fun a7 ak w a8 hs => As rfl <| Ox a1 <| W.weak [(3, _), (9, _), (10, _), (11, _)] (T4 rfl) <| W_region <| Oad rfl <| Mv rfl <| O_nil (ag (ae, (ab ++ ([(⟨(rd x0 aa).lo, (rd x0 aa).hi, 1⟩ : Val)])), (IntKind.i64.wrap (aa + 1)), a7, ak) _ _ (T4 rfl) (Ai H (Ai (hs.sub (ssk (ssk (ssc ssr)))) a8)) (Nat.lt_succ_self _)))
  ·rw [if_neg aj] at H
   refine W_exit (ay _ _ (aw _ _ <| W_seq fun bx a9 => ?_))
   obtain ⟨bz, al, hs, ba⟩ := hs.rowEnd (j := 0) af rfl
   refine W_region <| Mv rfl ?_
   obtain ⟨ao, ah, H⟩ := bnd H
   refine Oc rfl (stage_Build.c hs ba ah) (fun bb w hpost => ?_)
   obtain ⟨bc, bd, rfl, ai, hs, am⟩ := hpost
   refine Mv rfl <| Oxt rfl <| Oxt rfl <| Oxt rfl <| As rfl <| As rfl <| As rfl <| Ox a9 <| Wr fun be an => Mv rfl <| As rfl <| Ox an <| W.weak [(2, _)] (S1 rfl) ?_
   refine W_ret ?_
   obtain rfl := sinj H
   exact r1 rfl ⟨_, _, rfl, (al.trans ai), hs, am⟩

def book_numbered_api_Chars_fhb.l1 : Nat → List Chs → List Val → Int → Option (Option Tab)
  | 0, _, _, _ => none
  | af + 1, x0, ab, aa => if aa < (x0.length : Int) then (if (0 : Int) ≤ aa ∧ aa < (x0.length : Int) then ((book_ofChars.f (rd x0 aa)).bind fun ae => (if ab.length + ([(⟨ae.lo, ae.hi, IntKind.i64.wrap (aa + 1)⟩ : Val)]).length ≤ most then ((book_numbered_api_Chars_fhb.l1 af x0) (ab ++ ([(⟨ae.lo, ae.hi, IntKind.i64.wrap (aa + 1)⟩ : Val)])) (IntKind.i64.wrap (aa + 1))) else none)) else none) else ((stage_Build.f ab).bind fun ak => (some ak.1))
def book_numbered_api_Chars_fhb.f (x0 : List Chs) : Option (Option Tab) := book_numbered_api_Chars_fhb.l1 K0 x0 ([] : List Val) 0
theorem book_numbered_api_Chars_fhb.c (hs : St w0 ρ (Γ) w) {v0 : Value} {x0 : List Chs} (h0 : SlR rChs ρ v0 x0) {r : Option Tab} (H : book_numbered_api_Chars_fhb.f x0 = some r) : CallsR Tryz.prog 65 [v0, .func (.func 66) #[] #[]] w (fun v w' => ∃ (ρ' : Hp) (v0 : Value), v = v0 ∧ Le ρ ρ' ∧ St w0 ρ' (Γ) w' ∧ PtrR rTab ρ' v0 r) := by
  rw [book_numbered_api_Chars_fhb.f] at H
  refine Et Tryz.func65 Tryz.ntmps65 rfl <| Wr fun bt a5 => As rfl <| Ox a5 <| Wr fun bu a6 => As rfl ?_
  have hs := hs.rowNil 67 rVal.sz
  have a7 := RowR.nil rVal ρ
  refine Ox a6 <| W_seq fun bv a8 => Wr fun bw a9 => Mv rfl <| O_y rfl (Y_lenR un24 h0 rfl) <| Mv rfl <| Ox a9 <| W_block fun bx ba bz => W_loop (σ := Nat × List Val × Int × Value × List Value × Hp) (fun (af, ab, aa, ac, ad, ah) => [(1, .func (.func 66) #[] #[]), (5, ac), (12, v0), (13, .int .i64 (x0.length : Int)), (14, .int .i64 aa)]) (fun (af, ab, aa, ac, ad, ah) w => book_numbered_api_Chars_fhb.l1 af x0 ab aa = some r ∧ Le ρ ah ∧ St w0 ah ((.row ac 67 rVal.sz ab.length ad) :: Γ) w ∧ RowR rVal ah ad ab) (fun s => s.1) (K0, ([] : List Val), 0, (.slice none 0 0), ([]), ρ) sbn (Ai H (Ai (Le.rfl' _) (Ai hs a7))) ?_
  rintro ⟨af, ab, aa, ac, ad, ah⟩ w b0 ⟨H, ai, hs, ag⟩ aj
  show W _ _ _ _ _ _ [(1, .func (.func 66) #[] #[]), (5, ac), (12, v0), (13, .int .i64 (x0.length : Int)), (14, .int .i64 aa)] w
  cases af with
  | zero => rw [book_numbered_api_Chars_fhb.l1] at H; cases H
  | succ af =>
  rw [book_numbered_api_Chars_fhb.l1] at H
  refine Wr fun b1 bb => Ols rfl <| Ox bb <| W_seq fun b2 bc => W_if rfl (fun ar => ?_) (fun ar => ?_)
  ·rw [if_pos ar] at H
   refine Wx bc <| W_seq fun b3 bd => W_block fun b4 b5 b6 => Wr fun b7 be => Mv rfl ?_
   obtain ⟨a2, H⟩ := gd H
   obtain ⟨b8, b9, bf, bg⟩ := (h0.mono ai).ix el24 a2.1 a2.2
   obtain ⟨_, ⟨ca, rfl, a3⟩, bh⟩ := bf
   refine O_y rfl (bg rfl rfl) <| O_y rfl (Y_loadN ag110 sz110 rfl rfl (fun j u hu => hs.see (bh j u hu))) <| O_alloc zr110 hs rfl (fun cb w hs => As rfl <| O_storeN (i := 0) sz110 hs rfl rfl rfl rfl rfl (one_cons rfl (one_cons rfl (one_cons a3.one one_nil))) (fun w hs => Ox be <| Wr fun cc bi => Mv rfl <| O_y rfl (Y_loadbN (i := 0) ag110 sz110 hs rfl rfl rfl rfl) ?_))
   obtain ⟨ae, au, H⟩ := bnd H
   refine O_callv rfl rfl rfl (book_ofChars.c hs ⟨_, rfl, a3⟩ au) (fun cd w hpost => ?_)
   obtain ⟨a4, bj, rfl, al, hs, bk⟩ := hpost
   have bl := bk
   obtain rfl := bl
   refine O_alloc zr129 hs rfl (fun ce w hs => O_storeN (i := 0) sz129 hs rfl rfl rfl rfl rfl (one_cons rfl (one_cons rfl one_nil)) (fun w hs => Ox bi <| W.weak [(1, _), (5, _), (6, _), (8, _), (12, _), (13, _), (14, _)] sbn ?_))
   refine W_region <| Mv rfl <| Ofd fo129_0 rfl <| Obx 0 ag21 hs rfl <| Ofd fo129_1 rfl <| Obx 0 ag21 hs rfl <| Mv rfl <| Oad rfl <| O_y rfl (Y_build (cs := [.int .i32 ae.lo, .int .i32 ae.hi, .int .i64 (IntKind.i64.wrap (aa + 1))]) zr67 pl67 ((Parts.cons rfl rfl (Parts.cons rfl rfl (Parts.cons rfl rfl Parts.nil)))) ag67 (by kernel_rfl)) <| O_lit2 (xs := [.tmp 29]) (cs := [.int .i32 ae.lo, .int .i32 ae.hi, .int .i64 (IntKind.i64.wrap (aa + 1))]) el23 hs rfl rfl rfl (by decide) (by decide) rfl (sz_cons rfl sz_nil) (flat_cons rfl flat_nil) (fun bm w hs => ?_)
   have am : RowR rVal a4 ([.int .i32 ae.lo, .int .i32 ae.hi, .int .i64 (IntKind.i64.wrap (aa + 1))]) [(⟨ae.lo, ae.hi, IntKind.i64.wrap (aa + 1)⟩ : Val)] := RowR.cons (c := [.int .i32 ae.lo, .int .i32 ae.hi, .int .i64 (IntKind.i64.wrap (aa + 1))]) (x := (⟨ae.lo, ae.hi, IntKind.i64.wrap (aa + 1)⟩ : Val)) rfl (RowR.nil _ _)
   obtain ⟨av, H⟩ := gd H
   refine O_appendR (i := 3) el23 hs rfl (ag.mono al) rfl rfl rfl (Src.lit (j := 0) hs rfl am) am av (fun aw an w ax hs => As rfl <| Ox bd <| W.weak [(1, _), (5, _), (12, _), (13, _), (14, _)] sbn ?_)
   refine W_region <| Oad rfl <| Mv rfl <| O_nil (aj (af, (ab ++ ([(⟨ae.lo, ae.hi, IntKind.i64.wrap (aa + 1)⟩ : Val)])), (IntKind.i64.wrap (aa + 1)), aw, an, a4) _ _ sbn (Ai H (Ai (ai.trans al) (Ai (hs.sub (ssk (ssk (ssk (ssc ssr))))) ax))) (Nat.lt_succ_self _))
  ·rw [if_neg ar] at H
   refine W_exit (ba _ _ (a8 _ _ <| W_seq fun bn ay => ?_))
   obtain ⟨bo, ao, hs, az⟩ := hs.rowEnd (j := 0) ag rfl
   refine W_region <| Mv rfl ?_
   obtain ⟨ak, ap, H⟩ := bnd H
   refine Oc rfl (stage_Build.c hs az ap) (fun bp w hpost => ?_)
   obtain ⟨bq, br, rfl, aq, hs, a0⟩ := hpost
   refine Mv rfl <| Oxt rfl <| Oxt rfl <| Oxt rfl <| As rfl <| As rfl <| As rfl <| Ox ay <| W.weak [(9, _)] (S1 rfl) <| Wr fun bs a1 => Mv rfl <| As rfl <| O_nil (a1 _ _ ?_)
   refine W_ret ?_
   obtain rfl := sinj H
   exact r1 rfl ⟨_, _, rfl, ((ai.trans ao).trans aq), hs, a0⟩

def stage_Table_Look.j1 (x0 : Option Tab) (x1 : Int) (aa : Bool) : Option Int := if aa = true then (some 0) else (if x0.isSome = true then (if (0 : Int) ≤ IntKind.i32.wrap (x1.tdiv 128) ∧ IntKind.i32.wrap (x1.tdiv 128) < ((8704 : Nat) : Int) then (if (0 : Int) ≤ vg (((x0).getD default).which) (IntKind.i32.wrap (x1.tdiv 128)) ∧ vg (((x0).getD default).which) (IntKind.i32.wrap (x1.tdiv 128)) < ((((x0).getD default).unlike).length : Int) then (if (0 : Int) ≤ x1.tmod 128 ∧ x1.tmod 128 < ((128 : Nat) : Int) then (some (IntKind.i64.wrap (vg (rd (((x0).getD default).unlike) (vg (((x0).getD default).which) (IntKind.i32.wrap (x1.tdiv 128)))) (x1.tmod 128)))) else none) else none) else none) else none)
def stage_Table_Look.f (x0 : Option Tab) (x1 : Int) : Option Int := if ((x0).isNone) = true then (stage_Table_Look.j1 x0 x1 true) else (if x1 < 0 then (stage_Table_Look.j1 x0 x1 true) else (stage_Table_Look.j1 x0 x1 (decide (1114111 < x1))))
theorem stage_Table_Look.c (hs : St w0 ρ (Γ) w) {v0 : Value} {x0 : Option Tab} (h0 : PtrR rTab ρ v0 x0) {x1 r : Int} (H : stage_Table_Look.f x0 x1 = some r) : CallsR Tryz.prog 67 [v0, .int .i32 x1] w (fun v w' => v = .int .i64 r ∧ St w0 ρ Γ w') := by
  rw [stage_Table_Look.f] at H
  refine Et Tryz.func67 Tryz.ntmps67 rfl <| Wr fun a4 am => As rfl <| Ox am <| W_seq fun a5 an => W_seqj fun ao ap ad => ?_
  have ae : ∀ (aa : Bool) (w : World), stage_Table_Look.j1 x0 x1 aa = some r → St w0 ρ (Γ) w → ao [(0, v0), (1, .int .i32 x1), (14, .bool aa)] w := by
   intro aa w H hs
   rw [stage_Table_Look.j1] at H
   refine ap _ _ <| W_cond rfl (fun af => ?_) (fun af => ?_)
   ·rw [if_pos af] at H
    refine Wr fun a6 aq => As rfl <| Ox aq <| W_ret ?_
    obtain rfl := sinj H
    exact r1 rfl ⟨rfl, hs⟩
   ·rw [if_neg (bft af)] at H
    refine Wx an <| W_seq fun a7 ar => W_drawS 18 [0, 1, 2, 4, 0, 0, 32, 16, 128, 320, 512, 0, 2048, 1032, 12288, 16384, 32768, 131071] [131068, 131064, 131056, 122864, 130927, 130975, 130463, 130671, 130159, 129039, 120847, 124927, 108543, 104448, 65536, 0, 0, 0] [0, 1, 3, 7, 0, 0, 32, 16, 144, 496, 1008, 0, 2048, 2047, 16383, 32767, 65535, 131071] [] (fun w => St w0 ρ (Γ) w) mixed (by kernel_rfl) (fun sh => ?_)
    have hs := hs.drew
    refine Fm 0 sh rfl ?_
    obtain ⟨ak, H⟩ := gd H
    obtain ⟨a8, ag, au⟩ := h0.open ak
    obtain ⟨_, ⟨a9, ba, rfl, av, bb⟩, aw⟩ := au
    refine Fp 1 sh rfl (fun w => Y_nilp (congrArg some ag)) <| Fp 2 sh rfl (fun w => Y_field fo156_1 rfl) <| Fy 3 sh rfl hs (fun w hs => Y_load ag154 rfl (hs.see (aw 8704 _ (seg_beh (q := 0) rfl rfl)))) <| Fm 4 sh rfl <| Fm 5 sh rfl <| Fp 6 sh rfl (fun w => Y_quo rfl rfl (by decide)) ?_
    obtain ⟨bc, ah, ax⟩ := h0.open ak
    obtain ⟨_, ⟨bd, be, rfl, bf, bg⟩, ay⟩ := ax
    refine Fp 7 sh rfl (fun w => Y_nilp (congrArg some ah)) <| Fp 8 sh rfl (fun w => Y_field fo156_0 rfl) ?_
    obtain ⟨ab, H⟩ := gd H
    have az := CA.seg (q := 0) ay rfl ab.1 ab.2
    refine Fp 9 sh rfl (fun w => Y_ixArr un153 sz150 rfl rfl ab.1 ab.2) <| Fy 10 sh rfl hs (fun w hs => Y_load ag150 rfl (hs.see az)) <| Fm 11 sh rfl <| Fp 12 sh rfl (fun w => Y_rem rfl rfl (by decide)) ?_
    obtain ⟨al, H⟩ := gd H
    obtain ⟨bh, bi, a0, a1⟩ := av.ix el154 al.1 al.2
    have a2 := a0.arr
    refine Fp 13 sh rfl (fun w => a1 rfl rfl) ?_
    obtain ⟨ac, H⟩ := gd H
    have a3 := CA.seg (q := 0) a2 rfl ac.1 ac.2
    refine Fp 14 sh rfl (fun w => Y_ixArr un152 sz150 rfl rfl ac.1 ac.2) <| Fy 15 sh rfl hs (fun w hs => Y_load ag150 rfl (hs.see a3)) <| Fp 16 sh rfl (fun w => Y_conv un150 un3 rfl) <| Fp 17 sh rfl (fun w => Y_assign rfl) <| FE sh (ar _ _ <| W.weak [(4, _)] (S1 rfl) <| W_ret ?_)
    obtain rfl := sinj H
    exact r1 rfl ⟨rfl, hs⟩
  refine W_region <| Mv rfl <| O_y rfl ((h0.eqn un104 rfl rfl)) <| Mv rfl <| O_cases (dj := 7) rfl (fun ai => ?_) (fun ai => ?_)
  ·rw [if_pos ai] at H
   refine On rfl <| On rfl <| Opk rfl <| Mv rfl <| On rfl <| On rfl <| Opk rfl <| O_nil (ad _ _ _ (T3 rfl) (ae true _ H hs))
  ·rw [if_neg (bft ai)] at H
   refine Oe rfl <| Mv rfl <| Oe rfl <| Ols rfl <| Opk rfl <| Mv rfl <| O_if (dj := 11) rfl (fun aj => ?_) (fun aj => ?_)
   ·rw [if_pos aj] at H
    refine On rfl <| On rfl <| Opk rfl <| O_nil (ad _ _ _ (T3 rfl) (ae true _ H hs))
   ·rw [if_neg aj] at H
    refine Oe rfl <| Mv rfl <| Oe rfl <| Ogt rfl <| Opk rfl <| O_nil (ad _ _ _ (T3 rfl) (ae (decide (1114111 < x1)) _ H hs))

end Go.Proofs.YthoicbafdanmkaaGreatDoor
