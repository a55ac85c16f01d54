/- Written by this repo's gen.py: for each Go function a Lean function with the same answers and the walk that shows it. -/
import Derived.Test.YtekafkokpnihfaaGreatTA4
import Derived.Test.YtekafkokpnihfaaGreatTA5
import Derived.Test.YtekafkokpnihfaaGreatData
import Derived.Test.YtekafkokpnihfaaGreatFacts
namespace Go.Proofs.YtekafkokpnihfaaGreat
open Go.RowKit
set_option maxRecDepth 100000
set_option maxHeartbeats 4000000
set_option linter.unusedVariables false
def ref10_Check.j1 (ml : List Bool → Int → Option (Int × Int × Int)) (ap : Int) (bn : List Bool) : Option (Int × Int × Int) := ml bn (IntKind.i64.wrap (ap + 1))
def ref10_Check.l1 : Nat → Bk → Int → Int → Int → Int → Int → Int → Int → Int → Int → Int → Int → Int → Option (Int × Int × Int)
  | 0, _, _, _, _, _, _, _, _, _, _, _, _, _ => none
  | hd + 1, x0, ah, ai, aj, ak, al, am, an, ae, dl, dm, dn, aq => if aq < (([ah, ai, aj, ak, al, am, an, ae, dl, dm, dn]).length : Int) then (if (0 : Int) ≤ aq ∧ aq < (([ah, ai, aj, ak, al, am, an, ae, dl, dm, dn]).length : Int) then (if 0 ≤ (rd ([ah, ai, aj, ak, al, am, an, ae, dl, dm, dn]) aq) then (some (IntKind.i64.wrap (aq + 1), rd ([ah, ai, aj, ak, al, am, an, ae, dl, dm, dn]) aq, 100)) else ((ref10_Check.l1 hd x0 ah ai aj ak al am an ae dl dm dn) (IntKind.i64.wrap (aq + 1)))) else none) else ((ref10_whole.f x0).bind fun mm => (if 0 ≤ mm then (some (5, mm, 100)) else (some (0, 0, 0))))
def ref10_Check.t1 (x0 : Bk) (ah ai aj ak al am an ae : Int) : Option (Int × Int × Int) := (ref10_many.f x0.marks (List.replicate (x0.marks.length : Int).toNat false)).bind fun dl => ((ref10_spans.f x0.script).bind fun nt => ((ref10_numbered.f x0.script 1 (x0.names.length : Int) false).bind fun nu => ((ref10_many.f nt nu).bind fun dm => ((ref10_spansOf.f x0.like).bind fun nv => ((ref10_written.f x0.like 18).bind fun nw => ((ref10_many.f nv nw).bind fun dn => (ref10_Check.l1 K0 x0 ah ai aj ak al am an ae dl dm dn 0)))))))
def ref10_Check.t2 (x0 : Bk) (ba : List Bool) (bb : List Spn) (eo ep eq er es et eu : Int) : Option (Int × Int × Int) := (ref10_many.f bb ba).bind fun mn => (ref10_Check.t1 x0 eo ep eq er es et eu mn)
def ref10_Check.t3 (x0 : Bk) (a1 : List Spn) (ev ew ex ey ez e0 e1 : Int) : Option (Int × Int × Int) := (ref10_numbered.f x0.join 0 5 false).bind fun mo => (ref10_Check.t2 x0 mo a1 ev ew ex ey ez e0 e1)
def ref10_Check.t4 (x0 : Bk) (e2 e3 e4 e5 e6 e7 e8 : Int) : Option (Int × Int × Int) := (ref10_spans.f x0.join).bind fun mp => (ref10_Check.t3 x0 mp e2 e3 e4 e5 e6 e7 e8)
def ref10_Check.t5 (x0 : Bk) (bc : List Bool) (bd : List Spn) (e9 fa fb fc fd fe : Int) : Option (Int × Int × Int) := (ref10_many.f bd bc).bind fun mq => (ref10_Check.t4 x0 e9 fa fb fc fd fe mq)
def ref10_Check.t6 (x0 : Bk) (a2 : List Spn) (ff fg fh fi fj fk : Int) : Option (Int × Int × Int) := (ref10_numbered.f x0.bidi 0 22 false).bind fun mr => (ref10_Check.t5 x0 mr a2 ff fg fh fi fj fk)
def ref10_Check.t7 (x0 : Bk) (fl fm fn fo fp fq : Int) : Option (Int × Int × Int) := (ref10_spans.f x0.bidi).bind fun ms => (ref10_Check.t6 x0 ms fl fm fn fo fp fq)
def ref10_Check.t8 (x0 : Bk) (aa : List Bool) (fr fs ft fu fv : Int) : Option (Int × Int × Int) := (ref10_many.f x0.excl aa).bind fun mt => (ref10_Check.t7 x0 fr fs ft fu fv mt)
def ref10_Check.t9 (x0 : Bk) (aa be : List Bool) (bf : List Spn) (fw fx fy fz : Int) : Option (Int × Int × Int) := (ref10_many.f bf be).bind fun mu => (ref10_Check.t8 x0 aa fw fx fy fz mu)
def ref10_Check.t10 (x0 : Bk) (aa : List Bool) (a3 : List Spn) (ga gb gc ge : Int) : Option (Int × Int × Int) := (ref10_decomposed.f x0.decomp).bind fun mv => (ref10_Check.t9 x0 aa mv a3 ga gb gc ge)
def ref10_Check.t11 (x0 : Bk) (aa : List Bool) (gf gg gh gi : Int) : Option (Int × Int × Int) := (ref10_spansOf.f x0.decomp).bind fun mw => (ref10_Check.t10 x0 aa mw gf gg gh gi)
def ref10_Check.t12 (x0 : Bk) (aa bg : List Bool) (bh : List Spn) (gj gk gl : Int) : Option (Int × Int × Int) := (ref10_many.f bh bg).bind fun mx => (ref10_Check.t11 x0 aa gj gk gl mx)
def ref10_Check.t13 (x0 : Bk) (aa : List Bool) (a4 : List Spn) (gm gn go : Int) : Option (Int × Int × Int) := (ref10_numbered.f x0.class_ 1 254 true).bind fun my => (ref10_Check.t12 x0 aa my a4 gm gn go)
def ref10_Check.t14 (x0 : Bk) (aa : List Bool) (gp gq gr : Int) : Option (Int × Int × Int) := (ref10_spans.f x0.class_).bind fun mz => (ref10_Check.t13 x0 aa mz gp gq gr)
def ref10_Check.t15 (x0 : Bk) (ab aa : List Bool) (bi : List Spn) (gs gt : Int) : Option (Int × Int × Int) := (ref10_many.f bi ab).bind fun m0 => (ref10_Check.t14 x0 aa gs gt m0)
def ref10_Check.t16 (x0 : Bk) (ab aa : List Bool) (gu gv : Int) : Option (Int × Int × Int) := (ref10_spansOf.f x0.maps).bind fun m1 => (ref10_Check.t15 x0 ab aa m1 gu gv)
def ref10_Check.t17 (x0 : Bk) (ab aa bj : List Bool) (bk : List Spn) (gw : Int) : Option (Int × Int × Int) := (ref10_many.f bk bj).bind fun m2 => (ref10_Check.t16 x0 ab aa gw m2)
def ref10_Check.t18 (x0 : Bk) (ab aa : List Bool) (a5 : List Spn) (gx : Int) : Option (Int × Int × Int) := (ref10_numbered.f x0.status 1 3 false).bind fun m3 => (ref10_Check.t17 x0 ab aa m3 a5 gx)
def ref10_Check.t19 (x0 : Bk) (ab aa : List Bool) (gy : Int) : Option (Int × Int × Int) := (ref10_spans.f x0.status).bind fun m4 => (ref10_Check.t18 x0 ab aa m4 gy)
def ref10_Check.t20 (x0 : Bk) (ab aa : List Bool) : Option (Int × Int × Int) := (ref10_names.f x0.names).bind fun m5 => (ref10_Check.t19 x0 ab aa m5)
def ref10_Check.l2 : Nat → Bk → List Bool → List Bool → Int → Option (Int × Int × Int)
  | 0, _, _, _, _ => none
  | he + 1, x0, ab, aa, a7 => if a7 < (x0.excl.length : Int) then (if (0 : Int) ≤ a7 ∧ a7 < (x0.excl.length : Int) then ((ref10_touches.f ((rd x0.excl a7).lo) ((rd x0.excl a7).hi)).bind fun hy => (if aa.length + ([hy]).length ≤ most then ((ref10_Check.l2 he x0 ab) (aa ++ ([hy])) (IntKind.i64.wrap (a7 + 1))) else none)) else none) else (if (0 : Int) ≤ (x0.marks.length : Int) ∧ (x0.marks.length : Int) ≤ (most : Int) then (ref10_Check.t20 x0 ab aa ) else none)
def ref10_Check.l3 : Nat → Bk → List Bool → Int → Option (Int × Int × Int)
  | 0, _, _, _ => none
  | hj + 1, x0, ab, ap => if ap < (x0.maps.length : Int) then (if (0 : Int) ≤ ap ∧ ap < (x0.maps.length : Int) then (if (0 : Int) ≤ ap ∧ ap < (ab.length : Int) then (if (rd ab ap) = true then (ref10_Check.j1 (ref10_Check.l3 hj x0) ap (ab.set ap.toNat true)) else ((ref10_meets.f (rd x0.maps ap) x0.status).bind fun m6 => (ref10_Check.j1 (ref10_Check.l3 hj x0) ap (ab.set ap.toNat m6)))) else none) else none) else (ref10_Check.l2 K0 x0 ab ([] : List Bool) 0)
def ref10_Check.f (x0 : Bk) : Option (Int × Int × Int) := (ref10_written.f x0.maps 18).bind fun r8 => (ref10_Check.l3 K0 x0 r8 0)
theorem ref10_Check.c {w0 w : World} {ρ : Hp} {Γ : List Item} (hs : St w0 ρ (Γ) w) {c0 : List Value} {x0 : Bk} (h0 : rBk.R ρ c0 x0) {r : Int × Int × Int} (H : ref10_Check.f x0 = some r) : CallsR Tryz.prog 18 [.agg c0.toArray] w (fun v w' => v = .tuple #[.int .i64 r.1, .int .i64 r.2.1, .int .i64 r.2.2] ∧ St w0 ρ Γ w') := by
  rw [ref10_Check.f] at H
  refine enter Tryz.func18 Tryz.ntmps18 rfl (by kernel_rfl) rfl ?_
  have Bf := h0
  obtain ⟨bq, bp, bo, bl, a8, bm, az, ax, a9, au, av, rfl, r9, nx, ny, r3, r4, r5, r6, r7, A6, A7, A8⟩ := Bf
  refine Wr fun Jw Bg => O_boxN (cs := [bq, bp, bo, bl, a8, bm, az, ax, a9, au, av]) hs rfl rfl (fun a0 w hs => Oa rfl rfl <| Oa rfl rfl <| Oa rfl rfl <| O_nil (Bg _ _ <| Wr fun Jx Bh => O_y rfl (Y_field fo34_2 rfl) <| O_y rfl (Yb 0 ag31 hs rfl rfl rfl) ?_))
  obtain ⟨r8, sa, H⟩ := bnd H
  refine O_call rfl rfl (ref10_written.c hs ny sa) (fun Bi w hpost => ?_)
  obtain ⟨ln, Jy, sb, rfl, aw, hs, Bj⟩ := hpost
  refine Oa rfl rfl <| O_nil (Bh _ _ <| W_seq fun Jz Bl => Wr fun J0 Bm => O_y rfl (Y_field fo34_2 rfl) <| O_y rfl (Yb 1 ag31 hs rfl rfl rfl) <| O_y rfl (Y_lenR un31 (ny.mono aw) rfl) <| Om rfl rfl <| O_nil (Bm _ _ <| W_block fun J1 Bn J2 => W_loop (σ := Nat × List Bool × Int × Value × List Value) (fun (hj, ab, ap, ao, dp) => [(1, .pointer (some ⟨a0, 0, none⟩)), (5, ao), (19, bo), (20, .int .i64 (x0.maps.length : Int)), (21, .int .i64 ap)]) (fun (hj, ab, ap, ao, dp) w => ref10_Check.l3 hj x0 ab ap = some r ∧ St w0 ln ((.row ao 4 Rep.bool.sz ab.length dp) :: (.box a0 34 ([bq, bp, bo, bl, a8, bm, az, ax, a9, au, av])) :: Γ) w ∧ RowR Rep.bool ln dp ab) (fun s => s.1) (K0, r8, 0, Bi, sb) (by repeat first | exact Sub.nil | refine Sub.cons rfl ?_) (Ai H (Ai hs Bj)) ?_))
  rintro ⟨hj, ab, ap, ao, dp⟩ w J3 ⟨H, hs, df⟩ m7
  show W _ _ _ _ _ _ [(1, .pointer (some ⟨a0, 0, none⟩)), (5, ao), (19, bo), (20, .int .i64 (x0.maps.length : Int)), (21, .int .i64 ap)] w
  cases hj with
  | zero => rw [ref10_Check.l3] at H; cases H
  | succ hj =>
  rw [ref10_Check.l3] at H
  refine Wr fun J4 Bo => O_y rfl (Y_lss rfl rfl) <| O_nil (Bo _ _ <| W_seq fun Bp sc => W_if rfl (fun m8 => ?_) (fun m8 => ?_))
  ·rw [if_pos m8] at H
   refine W_skip (sc _ _ <| W_seqj fun sd se nz => ?_)
   have n0 : ∀ (bn : List Bool) (gz : Value) (ha : List Value) (w : World), ref10_Check.j1 (ref10_Check.l3 hj x0) ap bn = some r → St w0 ln ((.row gz 4 Rep.bool.sz bn.length ha) :: (.box a0 34 ([bq, bp, bo, bl, a8, bm, az, ax, a9, au, av])) :: Γ) w → RowR Rep.bool ln ha bn → sd [(1, .pointer (some ⟨a0, 0, none⟩)), (5, gz), (19, bo), (20, .int .i64 (x0.maps.length : Int)), (21, .int .i64 ap)] w := by
    intro bn gz ha w H hs ko
    rw [ref10_Check.j1] at H
    refine se _ _ <| W_region <| O_y rfl (Y_add rfl rfl) <| Om rfl rfl <| O_nil (m7 (hj, bn, (IntKind.i64.wrap (ap + 1)), gz, ha) _ _ (by repeat first | exact Sub.nil | refine Sub.cons rfl ?_) (Ai H (Ai hs ko)) (Nat.lt_succ_self _))
   refine W_block fun Bq Br Bs => Wr fun Bt sf => Om rfl rfl ?_
   obtain ⟨n1, H⟩ := gd H
   obtain ⟨Bu, Bv, sg, si⟩ := (ny.mono aw).ix el31 n1.1 n1.2
   obtain ⟨_, ⟨Bw, rfl, n2⟩, sj⟩ := sg
   refine O_y rfl (si rfl rfl) <| O_y rfl (Y_loadN ag71 sz71 rfl rfl (fun j u hu => hs.see (sj j u hu))) <| O_alloc zr71 hs rfl (fun Bx w hs => Oa rfl rfl <| O_storeN (i := 0) sz71 hs rfl rfl rfl rfl rfl (one_cons rfl (one_cons rfl (one_cons n2.one one_nil))) (fun w hs => O_nil (sf _ _ <| W_region <| Om rfl rfl <| Om rfl rfl <| Om rfl rfl <| Om rfl rfl ?_)))
   obtain ⟨dh, H⟩ := gd H
   obtain ⟨By, lp⟩ := hs.rowBlock (j := 1) rfl (by have := dh.2; omega)
   obtain ⟨_, rfl, n3⟩ := df.at dh.1 dh.2
   refine O_y rfl (Y_ixRow (j := 1) el68 hs rfl lp rfl rfl dh.1 dh.2) <| O_y rfl (Y_load ag4 rfl (hs.rowCell (j := 1) rfl lp (n3 0 _ rfl))) <| Om rfl rfl <| O_cases (dj := 32) rfl (fun m9 => ?_) (fun m9 => ?_)
   ·rw [if_pos m9] at H
    refine O_no rfl rfl rfl rfl <| O_no rfl rfl rfl rfl <| O_no rfl rfl rfl rfl <| O_no rfl rfl rfl rfl <| O_y rfl (Y_pick_t rfl rfl) ?_
    obtain ⟨Bz, lq⟩ := hs.rowBlock (j := 1) rfl (by have := dh.2; omega)
    obtain ⟨_, rfl, A9⟩ := df.at dh.1 dh.2
    refine O_y rfl (Y_ixRow (j := 1) el68 hs rfl lq rfl rfl dh.1 dh.2) <| O_storeRowR (j := 1) sz4 hs rfl lq dh.1 dh.2 df rfl rfl rfl (fun n4 w sk hs => O_nil (nz _ _ _ (by repeat first | exact Sub.nil | refine Sub.cons rfl ?_) (n0 (ab.set ap.toNat true) ao n4 _ H (hs.sub (ssk (ssc (ssc ssr)))) sk)))
   ·rw [if_neg (bft m9)] at H
    refine O_yes rfl rfl <| O_y rfl (Y_loadbN (i := 0) ag71 sz71 hs rfl rfl rfl rfl) <| O_yes rfl rfl <| O_y rfl (Y_field fo34_1 rfl) <| O_yes rfl rfl <| O_y rfl (Yb 2 ag30 hs rfl rfl rfl) <| O_yes rfl rfl ?_
    obtain ⟨m6, n5, H⟩ := bnd H
    refine O_call rfl rfl (ref10_meets.c hs ⟨_, rfl, n2⟩ (nx.mono aw) n5) (fun B0 w hpost => ?_)
    obtain ⟨rfl, hs⟩ := hpost
    refine O_y rfl (Y_pick_f rfl rfl) ?_
    obtain ⟨B1, lr⟩ := hs.rowBlock (j := 1) rfl (by have := dh.2; omega)
    obtain ⟨_, rfl, Ba⟩ := df.at dh.1 dh.2
    refine O_y rfl (Y_ixRow (j := 1) el68 hs rfl lr rfl rfl dh.1 dh.2) <| O_storeRowR (j := 1) sz4 hs rfl lr dh.1 dh.2 df rfl rfl rfl (fun n6 w sl hs => O_nil (nz _ _ _ (by repeat first | exact Sub.nil | refine Sub.cons rfl ?_) (n0 (ab.set ap.toNat m6) ao n6 _ H (hs.sub (ssk (ssc (ssc ssr)))) sl)))
  ·rw [if_neg m8] at H
   refine W_exit (Bn _ _ (Bl _ _ <| Wr fun B2 sm => O_lit2 (xs := []) (cs := []) el68 hs rfl rfl rfl (by decide) (by decide) rfl sz_nil flat_nil (fun sn w hs => ?_)))
   have so : RowR Rep.bool ln ([]) ([] : List Bool) := RowR.nil _ _
   refine Oa rfl rfl <| O_nil (sm _ _ <| W_seq fun B3 sp => Wr fun B4 sq => O_y rfl (Y_field fo34_5 rfl) <| O_y rfl (Yb 2 ag32 hs rfl rfl rfl) <| O_y rfl (Y_lenR un32 (r5.mono aw) rfl) <| Om rfl rfl <| O_nil (sq _ _ <| W_block fun B5 sr B6 => W_loop (σ := Nat × List Bool × Int × Value × List Value) (fun (he, aa, a7, ad, di) => [(1, .pointer (some ⟨a0, 0, none⟩)), (5, ao), (8, ad), (42, bm), (43, .int .i64 (x0.excl.length : Int)), (44, .int .i64 a7)]) (fun (he, aa, a7, ad, di) w => ref10_Check.l2 he x0 ab aa a7 = some r ∧ St w0 ln ((.row ad 4 Rep.bool.sz aa.length di) :: (.row ao 4 Rep.bool.sz ab.length dp) :: (.box a0 34 ([bq, bp, bo, bl, a8, bm, az, ax, a9, au, av])) :: Γ) w ∧ RowR Rep.bool ln di aa) (fun s => s.1) (K0, ([] : List Bool), 0, (.slice (some ⟨sn, 0, none⟩) 0 0), ([])) (by repeat first | exact Sub.nil | refine Sub.cons rfl ?_) (Ai H (Ai hs so)) ?_))
   rintro ⟨he, aa, a7, ad, di⟩ w B7 ⟨H, hs, hg⟩ le
   show W _ _ _ _ _ _ [(1, .pointer (some ⟨a0, 0, none⟩)), (5, ao), (8, ad), (42, bm), (43, .int .i64 (x0.excl.length : Int)), (44, .int .i64 a7)] w
   cases he with
   | zero => rw [ref10_Check.l2] at H; cases H
   | succ he =>
   rw [ref10_Check.l2] at H
   refine Wr fun B8 ss => O_y rfl (Y_lss rfl rfl) <| O_nil (ss _ _ <| W_seq fun B9 st => W_if rfl (fun na => ?_) (fun na => ?_))
   ·rw [if_pos na] at H
    refine W_skip (st _ _ <| W_seq fun Ea su => W_block fun Eb Ec Ed => W_seq fun Ee sv => W_region ?_)
    obtain ⟨n7, H⟩ := gd H
    obtain ⟨Ef, Eg, sw, sx⟩ := (r5.mono aw).ix el32 n7.1 n7.2
    obtain ⟨_, rfl, sy⟩ := sw
    refine O_y rfl (sx rfl rfl) <| O_y rfl (Y_loadN ag74 sz74 rfl rfl (fun j u hu => hs.see (sy j u hu))) <| O_alloc zr74 hs rfl (fun Eh w hs => O_storeN (i := 0) sz74 hs rfl rfl rfl rfl rfl (one_cons rfl (one_cons rfl one_nil)) (fun w hs => O_nil (sv _ _ <| W_region <| Om rfl rfl <| O_y rfl (Y_field fo74_0 rfl) <| O_y rfl (Yb 0 ag21 hs rfl rfl rfl) <| O_y rfl (Y_field fo74_1 rfl) <| O_y rfl (Yb 0 ag21 hs rfl rfl rfl) ?_)))
    obtain ⟨hy, n8, H⟩ := bnd H
    refine O_call rfl rfl (ref10_touches.c hs n8) (fun Ei w hpost => ?_)
    obtain ⟨rfl, hs⟩ := hpost
    refine O_lit2 (xs := [.tmp 53]) (cs := [.bool hy]) el68 hs rfl rfl rfl (by decide) (by decide) rfl (sz_cons rfl sz_nil) (flat_cons rfl flat_nil) (fun Ej w hs => ?_)
    have n9 : RowR Rep.bool ln ([.bool hy]) [hy] := RowR.cons (c := [.bool hy]) (x := hy) rfl (RowR.nil _ _)
    obtain ⟨s0, H⟩ := gd H
    refine O_appendR (i := 2) el68 hs rfl hg rfl rfl rfl (Src.lit (j := 0) hs rfl n9) n9 s0 (fun s1 oa w s2 hs => Oa rfl rfl <| O_nil (su _ _ <| W.weak [(1, _), (5, _), (8, _), (42, _), (43, _), (44, _)] (by repeat first | exact Sub.nil | refine Sub.cons rfl ?_) ?_))
    refine W_region <| O_y rfl (Y_add rfl rfl) <| Om rfl rfl <| O_nil (le (he, (aa ++ ([hy])), (IntKind.i64.wrap (a7 + 1)), s1, oa) _ _ (by repeat first | exact Sub.nil | refine Sub.cons rfl ?_) (Ai H (Ai (hs.sub (ssk (ssk (ssc (ssc (ssc ssr)))))) s2)) (Nat.lt_succ_self _))
   ·rw [if_neg na] at H
    refine W_exit (sr _ _ (sp _ _ <| W_seq fun Ek s3 => ?_))
    obtain ⟨El, ag, hs, ob⟩ := hs.rowEnd (j := 1) df rfl
    obtain ⟨ar, af, hs, oc⟩ := hs.rowEnd (j := 0) (hg.mono ag) rfl
    refine W_drawS 73 [0, 1, 2, 0, 8, 20, 0, 64, 160, 288, 0, 1024, 2560, 0, 12288, 0, 32768, 81920, 0, 262144, 655360, 1179648, 0, 4194304, 10485760, 0, 33554432, 83886080, 150994944, 0, 536870912, 0, 3489660928, 0, 8589934592, 21474836480, 0, 68719476736, 171798691840, 309237645312, 0, 1099511627776, 2748779069440, 0, 8796093022208, 21990232555520, 39582418599936, 0, 140737488355328, 0, 562949953421312, 1125899906842624, 2251799813685248, 4855443348258816, 0, 18014398509481984, 45035996273704960, 0, 144115188075855872, 0, 576460752303423488, 1152921504606846976, 2666130979403333632, 4683743612465315840, 0, 18446744073709551616, 46116860184273879040, 0, 147573952589676412928, 368934881474191032320, 664082786653543858176, 1189824070876586328580, 4722366482869645213695] [4722366482869645213692, 4722366482869645213688, 2361183241434822606808, 4722366482869645213671, 4722366482869645213639, 4722366482869645212864, 4722366482869645213503, 4722366482869645213247, 4722366482869645212672, 2361183241434822601728, 4722366482869645210623, 4722366482869645206527, 4722366482869645189120, 4722366482869645189119, 2361183241434822443008, 4722366482869645115391, 4722366482869644984319, 4722366482869641805824, 4722366482869644427263, 4722366482869643378687, 4722366482869641019392, 2361183241434801635328, 4722366482869632630783, 4722366482869615853567, 4722366482869209006080, 4722366482869544550399, 4722366482869410332671, 4722366482869108342784, 2361183241429990768640, 4722366482868034600959, 4722366482863739633663, 4722366482863202762751, 2361183241391872933888, 4722366482843875409919, 4722366482809515671551, 4722366481976292016128, 4722366482663486783487, 4722366482388608876543, 4722366481770133585920, 2361183235937264467968, 4722366479571110330367, 4722366475173063819263, 4722366368520435924992, 4722366456481366147071, 4722366421296994058239, 4722366342132156858368, 2361174093498079510528, 4722366060657180147711, 4722357053457925406719, 4722364794019784949759, 4722362542219971264511, 4722358038620343894015, 4722349031421089153023, 2361093169442275196928, 4722312439674116767743, 4722240382080078839807, 4708387309626287194112, 4721934137305417646079, 4717322451286990258175, 4720637100612734943231, 4718331257603521249279, 4713719571585093861375, 4703919738795935662080, 2268949521066274848768, 4667026250648516558847, 4593239274353678352383, 2803905099203851845632, 4279644625100615974911, 3689348814741910323199, 2361183241434822606848, 0, 0, 0] [0, 1, 3, 0, 8, 31, 0, 64, 255, 511, 0, 1024, 4095, 0, 16383, 0, 32768, 131071, 0, 262144, 1048575, 2097151, 0, 4194304, 16777215, 0, 33554432, 134217727, 268435455, 0, 536870912, 0, 4294967295, 0, 8589934592, 34359738367, 0, 68719476736, 274877906943, 549755813887, 0, 1099511627776, 4398046511103, 0, 8796093022208, 35184372088831, 70368744177663, 0, 140737488355328, 0, 562949953421312, 1688849860263936, 3940649673949184, 9007199254740991, 0, 18014398509481984, 72057594037927935, 0, 144115188075855872, 0, 576460752303423488, 1729382256910270464, 4611686018427387903, 9223372036854775807, 0, 18446744073709551616, 73786976294838206463, 0, 147573952589676412928, 590295810358705651711, 1180591620717411303423, 2361183241434822606847, 4722366482869645213695] [] (fun w => St w0 ar ((.box a0 34 ([bq, bp, bo, bl, a8, bm, az, ax, a9, au, av])) :: Γ) w) mixed (by kernel_rfl) (fun sh => ?_)
    have hs := hs.drew
    refine Dp 0 sh rfl rfl (by kernel_rfl) (fun w => Y_field fo34_0 rfl) <| Dy 1 sh rfl rfl (by kernel_rfl) hs (fun w hs => Yb 0 ag22 hs rfl rfl rfl) <| Dp 3 sh rfl rfl (by kernel_rfl) (fun w => Y_field fo34_1 rfl) <| Dy 4 sh rfl rfl (by kernel_rfl) hs (fun w hs => Yb 0 ag30 hs rfl rfl rfl) <| Dp 6 sh rfl rfl (by kernel_rfl) (fun w => Y_field fo34_1 rfl) <| Dy 7 sh rfl rfl (by kernel_rfl) hs (fun w hs => Yb 0 ag30 hs rfl rfl rfl) <| Dp 10 sh rfl rfl (by kernel_rfl) (fun w => Y_field fo34_2 rfl) <| Dy 11 sh rfl rfl (by kernel_rfl) hs (fun w hs => Yb 0 ag31 hs rfl rfl rfl) <| Dm 13 sh rfl rfl (by kernel_rfl) rfl <| Dp 15 sh rfl rfl (by kernel_rfl) (fun w => Y_field fo34_3 rfl) <| Dy 16 sh rfl rfl (by kernel_rfl) hs (fun w hs => Yb 0 ag30 hs rfl rfl rfl) <| Dp 18 sh rfl rfl (by kernel_rfl) (fun w => Y_field fo34_3 rfl) <| Dy 19 sh rfl rfl (by kernel_rfl) hs (fun w hs => Yb 0 ag30 hs rfl rfl rfl) <| Dp 22 sh rfl rfl (by kernel_rfl) (fun w => Y_field fo34_4 rfl) ?_
    refine Dy 23 sh rfl rfl (by kernel_rfl) hs (fun w hs => Yb 0 ag31 hs rfl rfl rfl) <| Dp 25 sh rfl rfl (by kernel_rfl) (fun w => Y_field fo34_4 rfl) <| Dy 26 sh rfl rfl (by kernel_rfl) hs (fun w hs => Yb 0 ag31 hs rfl rfl rfl) <| Dp 29 sh rfl rfl (by kernel_rfl) (fun w => Y_field fo34_5 rfl) <| Dy 30 sh rfl rfl (by kernel_rfl) hs (fun w hs => Yb 0 ag32 hs rfl rfl rfl) <| Dm 31 sh rfl rfl (by kernel_rfl) rfl <| Dp 33 sh rfl rfl (by kernel_rfl) (fun w => Y_field fo34_6 rfl) <| Dy 34 sh rfl rfl (by kernel_rfl) hs (fun w hs => Yb 0 ag30 hs rfl rfl rfl) <| Dp 36 sh rfl rfl (by kernel_rfl) (fun w => Y_field fo34_6 rfl) <| Dy 37 sh rfl rfl (by kernel_rfl) hs (fun w hs => Yb 0 ag30 hs rfl rfl rfl) <| Dp 40 sh rfl rfl (by kernel_rfl) (fun w => Y_field fo34_7 rfl) <| Dy 41 sh rfl rfl (by kernel_rfl) hs (fun w hs => Yb 0 ag30 hs rfl rfl rfl) <| Dp 43 sh rfl rfl (by kernel_rfl) (fun w => Y_field fo34_7 rfl) <| Dy 44 sh rfl rfl (by kernel_rfl) hs (fun w hs => Yb 0 ag30 hs rfl rfl rfl) ?_
    refine Dp 47 sh rfl rfl (by kernel_rfl) (fun w => Y_field fo34_8 rfl) <| Dy 48 sh rfl rfl (by kernel_rfl) hs (fun w hs => Yb 0 ag32 hs rfl rfl rfl) <| Dp 49 sh rfl rfl (by kernel_rfl) (fun w => Y_field fo34_8 rfl) <| Dy 50 sh rfl rfl (by kernel_rfl) hs (fun w hs => Yb 0 ag32 hs rfl rfl rfl) <| Dp 51 sh rfl rfl (by kernel_rfl) (fun w => Y_lenR un32 (A6.mono ((aw.trans ag).trans af)) rfl) ?_
    obtain ⟨ay, H⟩ := gd H
    refine Dp 54 sh rfl rfl (by kernel_rfl) (fun w => Y_field fo34_9 rfl) <| Dy 55 sh rfl rfl (by kernel_rfl) hs (fun w hs => Yb 0 ag30 hs rfl rfl rfl) <| Dp 57 sh rfl rfl (by kernel_rfl) (fun w => Y_field fo34_9 rfl) <| Dy 58 sh rfl rfl (by kernel_rfl) hs (fun w hs => Yb 0 ag30 hs rfl rfl rfl) <| Dp 59 sh rfl rfl (by kernel_rfl) (fun w => Y_field fo34_0 rfl) <| Dy 60 sh rfl rfl (by kernel_rfl) hs (fun w hs => Yb 0 ag22 hs rfl rfl rfl) <| Dp 61 sh rfl rfl (by kernel_rfl) (fun w => Y_lenR un22 (r9.mono ((aw.trans ag).trans af)) rfl) <| Dp 64 sh rfl rfl (by kernel_rfl) (fun w => Y_field fo34_10 rfl) <| Dy 65 sh rfl rfl (by kernel_rfl) hs (fun w hs => Yb 0 ag31 hs rfl rfl rfl) <| Dp 67 sh rfl rfl (by kernel_rfl) (fun w => Y_field fo34_10 rfl) <| Dy 68 sh rfl rfl (by kernel_rfl) hs (fun w hs => Yb 0 ag31 hs rfl rfl rfl) <| OD_abs fun dg ac => ?_
    have od : ∀ (ah ai aj ak al am an ae : Int) (dq : Value) (dr : List Value) (kc : Hp) (w : World), ref10_Check.t1 x0 ah ai aj ak al am an ae = some r → Le ar kc → St w0 kc ((.row dq 4 Rep.bool.sz ((List.replicate (x0.marks.length : Int).toNat false).length) dr) :: (.box a0 34 ([bq, bp, bo, bl, a8, bm, az, ax, a9, au, av])) :: Γ) w → RowR Rep.bool kc dr (List.replicate (x0.marks.length : Int).toNat false) → dg [] (fun w => St w0 ar ((.box a0 34 ([bq, bp, bo, bl, a8, bm, az, ax, a9, au, av])) :: Γ) w) 9 [46, 45, 42, 39, 38, 35, 32, 28, 27, 24, 21, 20, 17, 14, 12, 9, 8, 5, 2, 52, 68, 67, 65, 64, 61, 60, 59, 58, 57, 55, 54, 51, 50, 49, 48, 47, 44, 43, 41, 40, 37, 36, 34, 33, 31, 30, 29, 26, 25, 23, 22, 19, 18, 16, 15, 13, 11, 10, 7, 6, 4, 3, 1, 0] [(1, .pointer (some ⟨a0, 0, none⟩)), (59, .int .i64 ah), (66, .int .i64 ai), (71, .int .i64 aj), (78, .int .i64 ak), (85, .int .i64 al), (89, .int .i64 am), (96, .int .i64 an), (103, .int .i64 ae), (105, a9), (109, dq), (112, au), (115, au), (118, .int .i64 (x0.names.length : Int)), (122, av), (125, av)] w := by
     intro ah ai aj ak al am an ae dq dr kc w H a6 hs ia
     rw [ref10_Check.t1] at H
     refine (ac _ _ _ _ _ _).1 ?_
     obtain ⟨Em, hf, hs, s4⟩ := hs.rowEnd (j := 0) ia rfl
     refine D1 53 sh rfl (by kernel_rfl) (fun En s5 => ?_)
     obtain ⟨dl, oe, H⟩ := bnd H
     refine O_call rfl rfl (ref10_many.c hs (A6.mono ((((aw.trans ag).trans af).trans a6).trans hf)) s4 oe) (fun Eo w hpost => ?_)
     obtain ⟨rfl, hs⟩ := hpost
     refine O_nil (s5 _ _ (fun _ _ => (hs.less (a6.trans hf))) <| D1 56 sh rfl (by kernel_rfl) (fun Ep s6 => ?_))
     obtain ⟨nt, og, H⟩ := bnd H
     refine O_call rfl rfl (ref10_spans.c hs (A7.mono ((((aw.trans ag).trans af).trans a6).trans hf)) og) (fun Eq w hpost => ?_)
     obtain ⟨Er, Es, Bb, rfl, ib, hs, s7⟩ := hpost
     have nb := hf.trans ib
     refine O_nil (s6 _ _ (fun _ _ => ((hs.less (a6.trans nb)).sub (ssk (ssc ssr)))) <| D1 62 sh rfl (by kernel_rfl) (fun Et s8 => ?_))
     obtain ⟨nu, oh, H⟩ := bnd H
     refine O_call rfl rfl (ref10_numbered.c hs (A7.mono ((((aw.trans ag).trans af).trans a6).trans nb)) oh) (fun Eu w hpost => ?_)
     obtain ⟨Ev, Ew, Bc, rfl, hl, hs, s9⟩ := hpost
     have oi := nb.trans hl
     refine O_nil (s8 _ _ (fun _ _ => ((hs.less (a6.trans oi)).sub (ssk (ssk (ssc ssr))))) ?_)
     obtain ⟨Ex, hm, hs, ta⟩ := hs.rowEnd (j := 1) (s7.mono hl) rfl
     have tb := oi.trans hm
     obtain ⟨Ey, hn, hs, tc⟩ := hs.rowEnd (j := 0) (s9.mono hm) rfl
     have nc := tb.trans hn
     refine D1 63 sh rfl (by kernel_rfl) (fun Ez td => ?_)
     obtain ⟨dm, oj, H⟩ := bnd H
     refine O_call rfl rfl (ref10_many.c hs (ta.mono hn) tc oj) (fun E0 w hpost => ?_)
     obtain ⟨rfl, hs⟩ := hpost
     refine O_nil (td _ _ (fun _ _ => (hs.less (a6.trans nc))) <| D1 66 sh rfl (by kernel_rfl) (fun E1 te => ?_))
     obtain ⟨nv, ok, H⟩ := bnd H
     refine O_call rfl rfl (ref10_spansOf.c hs (A8.mono ((((aw.trans ag).trans af).trans a6).trans nc)) ok) (fun E2 w hpost => ?_)
     obtain ⟨E3, E4, Bd, rfl, ic, hs, tf⟩ := hpost
     have nd := nc.trans ic
     refine O_nil (te _ _ (fun _ _ => ((hs.less (a6.trans nd)).sub (ssk (ssc ssr)))) <| D1 69 sh rfl (by kernel_rfl) (fun E5 tg => ?_))
     obtain ⟨nw, ol, H⟩ := bnd H
     refine O_call rfl rfl (ref10_written.c hs (A8.mono ((((aw.trans ag).trans af).trans a6).trans nd)) ol) (fun E6 w hpost => ?_)
     obtain ⟨E7, E8, Be, rfl, ho, hs, th⟩ := hpost
     have om := nd.trans ho
     refine O_nil (tg _ _ (fun _ _ => ((hs.less (a6.trans om)).sub (ssk (ssk (ssc ssr))))) ?_)
     obtain ⟨E9, hp, hs, ti⟩ := hs.rowEnd (j := 1) (tf.mono ho) rfl
     have tj := om.trans hp
     obtain ⟨on, hq, hs, tk⟩ := hs.rowEnd (j := 0) (th.mono hp) rfl
     have oo := tj.trans hq
     refine D1 70 sh rfl (by kernel_rfl) (fun Fa tl => ?_)
     obtain ⟨dn, op, H⟩ := bnd H
     refine O_call rfl rfl (ref10_many.c hs (ti.mono hq) tk op) (fun Fb w hpost => ?_)
     obtain ⟨rfl, hs⟩ := hpost
     refine O_nil (tl _ _ (fun _ _ => (hs.less (a6.trans oo))) <| D1 71 sh rfl (by kernel_rfl) (fun Fc tm => O_lit2 (xs := [.tmp 59, .tmp 66, .tmp 71, .tmp 78, .tmp 85, .tmp 89, .tmp 96, .tmp 103, .tmp 110, .tmp 120, .tmp 127]) (cs := [.int .i64 ah, .int .i64 ai, .int .i64 aj, .int .i64 ak, .int .i64 al, .int .i64 am, .int .i64 an, .int .i64 ae, .int .i64 dl, .int .i64 dm, .int .i64 dn]) el82 hs rfl rfl rfl (by decide) (by decide) rfl (sz_cons rfl (sz_cons rfl (sz_cons rfl (sz_cons rfl (sz_cons rfl (sz_cons rfl (sz_cons rfl (sz_cons rfl (sz_cons rfl (sz_cons rfl (sz_cons rfl sz_nil))))))))))) (flat_cons rfl (flat_cons rfl (flat_cons rfl (flat_cons rfl (flat_cons rfl (flat_cons rfl (flat_cons rfl (flat_cons rfl (flat_cons rfl (flat_cons rfl (flat_cons rfl flat_nil))))))))))) (fun ne w hs => ?_)))
     have tn : RowR (Rep.int .i64) on ([.int .i64 ah, .int .i64 ai, .int .i64 aj, .int .i64 ak, .int .i64 al, .int .i64 am, .int .i64 an, .int .i64 ae, .int .i64 dl, .int .i64 dm, .int .i64 dn]) [ah, ai, aj, ak, al, am, an, ae, dl, dm, dn] := RowR.cons (c := [.int .i64 ah]) (x := ah) rfl (RowR.cons (c := [.int .i64 ai]) (x := ai) rfl (RowR.cons (c := [.int .i64 aj]) (x := aj) rfl (RowR.cons (c := [.int .i64 ak]) (x := ak) rfl (RowR.cons (c := [.int .i64 al]) (x := al) rfl (RowR.cons (c := [.int .i64 am]) (x := am) rfl (RowR.cons (c := [.int .i64 an]) (x := an) rfl (RowR.cons (c := [.int .i64 ae]) (x := ae) rfl (RowR.cons (c := [.int .i64 dl]) (x := dl) rfl (RowR.cons (c := [.int .i64 dm]) (x := dm) rfl (RowR.cons (c := [.int .i64 dn]) (x := dn) rfl (RowR.nil _ _)))))))))))
     refine O_nil (tm _ _ (fun _ _ => ((hs.less (a6.trans oo)).sub (ssk (ssc ssr)))) <| Dp 72 sh rfl rfl (by kernel_rfl) (fun w => Y_assign rfl) <| OD_doneS sh (by kernel_rfl) (s3 _ _ <| W.weak [(1, _), (11, _)] (S2 rfl rfl) <| W_seq fun Fd tp => Wr fun Fe tq => Om rfl rfl <| O_y rfl (Y_lenRow (i := 0) un82 hs rfl rfl) <| Om rfl rfl <| O_nil (tq _ _ <| W_block fun Ff tr Fg => W_loop (σ := Nat × Int) (fun (hd, aq) => [(1, .pointer (some ⟨a0, 0, none⟩)), (129, .slice (some ⟨ne, 0, none⟩) 11 11), (130, .int .i64 (([ah, ai, aj, ak, al, am, an, ae, dl, dm, dn]).length : Int)), (131, .int .i64 aq)]) (fun (hd, aq) w => ref10_Check.l1 hd x0 ah ai aj ak al am an ae dl dm dn aq = some r ∧ St w0 on ((.row (.slice (some ⟨ne, 0, none⟩) 11 11) 3 ((Rep.int .i64).sz) (([ah, ai, aj, ak, al, am, an, ae, dl, dm, dn]).length) ([.int .i64 ah, .int .i64 ai, .int .i64 aj, .int .i64 ak, .int .i64 al, .int .i64 am, .int .i64 an, .int .i64 ae, .int .i64 dl, .int .i64 dm, .int .i64 dn])) :: (.box a0 34 ([bq, bp, bo, bl, a8, bm, az, ax, a9, au, av])) :: Γ) w) (fun s => s.1) (K0, 0) (S4 rfl rfl rfl rfl) (Ai H hs) ?_)))
     rintro ⟨hd, aq⟩ w Fh ⟨H, hs⟩ lf
     show W _ _ _ _ _ _ [(1, .pointer (some ⟨a0, 0, none⟩)), (129, .slice (some ⟨ne, 0, none⟩) 11 11), (130, .int .i64 (([ah, ai, aj, ak, al, am, an, ae, dl, dm, dn]).length : Int)), (131, .int .i64 aq)] w
     cases hd with
     | zero => rw [ref10_Check.l1] at H; cases H
     | succ hd =>
     rw [ref10_Check.l1] at H
     refine Wr fun Fi ts => O_y rfl (Y_lss rfl rfl) <| O_nil (ts _ _ <| W_seq fun Fj tt => W_if rfl (fun nf => ?_) (fun nf => ?_))
     ·rw [if_pos nf] at H
      refine W_skip (tt _ _ <| W_seq fun Fk tu => W_block fun Fl Fm Fn => Wr fun Fo tv => Om rfl rfl ?_)
      obtain ⟨kq, H⟩ := gd H
      obtain ⟨Fp, ls⟩ := hs.rowBlock (j := 0) rfl (by have := kq.2; omega)
      obtain ⟨_, rfl, oq⟩ := tn.at kq.1 kq.2
      refine O_y rfl (Y_ixRow (j := 0) el82 hs rfl ls rfl rfl kq.1 kq.2) <| O_y rfl (Y_load ag3 rfl (hs.rowCell (j := 0) rfl ls (oq 0 _ rfl))) <| Oa rfl rfl <| Oa rfl rfl <| O_nil (tv _ _ <| Wr fun Fq tw => Om rfl rfl <| O_y rfl (Y_geq rfl rfl) <| O_nil (tw _ _ <| W_if rfl (fun ng => ?_) (fun ng => ?_)))
      ·rw [if_pos ng] at H
       refine Wr fun Fr tx => Om rfl rfl <| O_y rfl (Y_add rfl rfl) <| Om rfl rfl <| Oa rfl rfl <| Oa rfl rfl <| Oa rfl rfl <| O_nil (tx _ _ <| W.weak [(2, _), (3, _), (4, _)] (S3 rfl rfl rfl) <| W_ret ?_)
       obtain rfl := sinj H
       exact ret3 rfl rfl rfl rfl ⟨rfl, ((hs.sub (ssk (ssk ssr))).less ((((((((((((aw.trans ag).trans af).trans a6).trans hf).trans ib).trans hl).trans hm).trans hn).trans ic).trans ho).trans hp).trans hq))⟩
      ·rw [if_neg ng] at H
       refine W_skip (tu _ _ <| W_region <| O_y rfl (Y_add rfl rfl) <| Om rfl rfl <| O_nil (lf (hd, (IntKind.i64.wrap (aq + 1))) _ _ (S4 rfl rfl rfl rfl) (Ai H hs) (Nat.lt_succ_self _)))
     ·rw [if_neg nf] at H
      refine W_exit (tr _ _ (tp _ _ <| W_seq fun Fs ty => Wr fun Ft tz => O_y rfl (Y_loadbN (i := 1) ag34 sz34 hs rfl rfl rfl rfl) ?_))
      obtain ⟨mm, os, H⟩ := bnd H
      refine O_call rfl rfl (ref10_whole.c hs (rBk.mono ((((((((((((aw.trans ag).trans af).trans a6).trans hf).trans ib).trans hl).trans hm).trans hn).trans ic).trans ho).trans hp).trans hq) h0) os) (fun Fu w hpost => ?_)
      obtain ⟨rfl, hs⟩ := hpost
      refine Oa rfl rfl <| O_nil (tz _ _ <| Wr fun Fv t0 => Om rfl rfl <| O_y rfl (Y_geq rfl rfl) <| O_nil (t0 _ _ <| W_if rfl (fun nh => ?_) (fun nh => ?_)))
      ·rw [if_pos nh] at H
       refine Wr fun Fw ua => Om rfl rfl <| Oa rfl rfl <| Oa rfl rfl <| Oa rfl rfl <| O_nil (ua _ _ <| W_ret ?_)
       obtain rfl := sinj H
       exact ret3 rfl rfl rfl rfl ⟨rfl, ((hs.sub (ssk (ssk ssr))).less ((((((((((((aw.trans ag).trans af).trans a6).trans hf).trans ib).trans hl).trans hm).trans hn).trans ic).trans ho).trans hp).trans hq))⟩
      ·rw [if_neg nh] at H
       refine W_skip (ty _ _ <| Wr fun Fx ub => Oa rfl rfl <| Oa rfl rfl <| Oa rfl rfl <| O_nil (ub _ _ <| W_ret ?_))
       obtain rfl := sinj H
       exact ret3 rfl rfl rfl rfl ⟨rfl, ((hs.sub (ssk (ssk ssr))).less ((((((((((((aw.trans ag).trans af).trans a6).trans hf).trans ib).trans hl).trans hm).trans hn).trans ic).trans ho).trans hp).trans hq))⟩
    have ot : ∀ (ba : List Bool) (bb : List Spn) (eo ep eq er es et eu : Int) (ds : Value) (dt : List Value) (du : Value) (dv : List Value) (br : Value) (bs : List Value) (hr : Hp) (w : World), ref10_Check.t2 x0 ba bb eo ep eq er es et eu = some r → Le ar hr → St w0 hr ((.row ds 4 Rep.bool.sz ba.length dt) :: (.row du 74 rSpn.sz bb.length dv) :: (.row br 4 Rep.bool.sz ((List.replicate (x0.marks.length : Int).toNat false).length) bs) :: (.box a0 34 ([bq, bp, bo, bl, a8, bm, az, ax, a9, au, av])) :: Γ) w → RowR Rep.bool hr dt ba → RowR rSpn hr dv bb → RowR Rep.bool hr bs (List.replicate (x0.marks.length : Int).toNat false) → dg [] (fun w => St w0 ar ((.box a0 34 ([bq, bp, bo, bl, a8, bm, az, ax, a9, au, av])) :: Γ) w) 10 [45, 42, 39, 38, 35, 32, 28, 27, 24, 21, 20, 17, 14, 12, 9, 8, 5, 2, 52, 68, 67, 65, 64, 61, 60, 59, 58, 57, 55, 54, 51, 50, 49, 48, 47, 44, 43, 41, 40, 37, 36, 34, 33, 31, 30, 29, 26, 25, 23, 22, 19, 18, 16, 15, 13, 11, 10, 7, 6, 4, 3, 1, 0] [(1, .pointer (some ⟨a0, 0, none⟩)), (59, .int .i64 eo), (66, .int .i64 ep), (71, .int .i64 eq), (78, .int .i64 er), (85, .int .i64 es), (89, .int .i64 et), (96, .int .i64 eu), (99, du), (102, ds), (105, a9), (109, br), (112, au), (115, au), (118, .int .i64 (x0.names.length : Int)), (122, av), (125, av)] w := by
     intro ba bb eo ep eq er es et eu ds dt du dv br bs hr w H kr hs id ie ig
     rw [ref10_Check.t2] at H
     refine (ac _ _ _ _ _ _).1 ?_
     obtain ⟨Fy, lt, hs, uc⟩ := hs.rowEnd (j := 1) ie rfl
     obtain ⟨ud, lu, hs, ue⟩ := hs.rowEnd (j := 0) (id.mono lt) rfl
     have ni := lt.trans lu
     refine D1 46 sh rfl (by kernel_rfl) (fun Fz uf => ?_)
     obtain ⟨mn, ou, H⟩ := bnd H
     refine O_call rfl rfl (ref10_many.c hs (uc.mono lu) ue ou) (fun F0 w hpost => ?_)
     obtain ⟨rfl, hs⟩ := hpost
     refine O_nil (uf _ _ (fun _ _ => ((hs.less (kr.trans ni)).sub (ssk (ssc ssr)))) <| (OD_land rfl (by kernel_rfl) (OD.weak [(1, _), (59, _), (66, _), (71, _), (78, _), (85, _), (89, _), (96, _), (103, _), (105, _), (109, _), (112, _), (115, _), (118, _), (122, _), (125, _)] (by repeat first | exact Sub.nil | refine Sub.cons rfl ?_) ((ac _ _ _ _ _ _).2 (od eo ep eq er es et eu mn br bs ud _ H (kr.trans ni) hs (ig.mono ni))))))
    have ov : ∀ (a1 : List Spn) (ev ew ex ey ez e0 e1 : Int) (bt : Value) (bu : List Value) (bv : Value) (bw : List Value) (ih : Hp) (w : World), ref10_Check.t3 x0 a1 ev ew ex ey ez e0 e1 = some r → Le ar ih → St w0 ih ((.row bt 74 rSpn.sz a1.length bu) :: (.row bv 4 Rep.bool.sz ((List.replicate (x0.marks.length : Int).toNat false).length) bw) :: (.box a0 34 ([bq, bp, bo, bl, a8, bm, az, ax, a9, au, av])) :: Γ) w → RowR rSpn ih bu a1 → RowR Rep.bool ih bw (List.replicate (x0.marks.length : Int).toNat false) → dg [] (fun w => St w0 ar ((.box a0 34 ([bq, bp, bo, bl, a8, bm, az, ax, a9, au, av])) :: Γ) w) 11 [42, 39, 38, 35, 32, 28, 27, 24, 21, 20, 17, 14, 12, 9, 8, 5, 2, 52, 68, 67, 65, 64, 61, 60, 59, 58, 57, 55, 54, 51, 50, 49, 48, 47, 44, 43, 41, 40, 37, 36, 34, 33, 31, 30, 29, 26, 25, 23, 22, 19, 18, 16, 15, 13, 11, 10, 7, 6, 4, 3, 1, 0] [(1, .pointer (some ⟨a0, 0, none⟩)), (59, .int .i64 ev), (66, .int .i64 ew), (71, .int .i64 ex), (78, .int .i64 ey), (85, .int .i64 ez), (89, .int .i64 e0), (96, .int .i64 e1), (99, bt), (101, ax), (105, a9), (109, bv), (112, au), (115, au), (118, .int .i64 (x0.names.length : Int)), (122, av), (125, av)] w := by
     intro a1 ev ew ex ey ez e0 e1 bt bu bv bw ih w H jz hs ii ij
     rw [ref10_Check.t3] at H
     refine (ac _ _ _ _ _ _).1 <| D1 45 sh rfl (by kernel_rfl) (fun F1 ug => ?_)
     obtain ⟨mo, ow, H⟩ := bnd H
     refine O_call rfl rfl (ref10_numbered.c hs (r7.mono (((aw.trans ag).trans af).trans jz)) ow) (fun uh w hpost => ?_)
     obtain ⟨ui, F2, ox, rfl, kd, hs, uj⟩ := hpost
     refine O_nil (ug _ _ (fun _ _ => ((hs.less (jz.trans kd)).sub (ssk (ssk (ssk (ssc ssr)))))) <| (OD_land rfl (by kernel_rfl) (OD.weak [(1, _), (59, _), (66, _), (71, _), (78, _), (85, _), (89, _), (96, _), (99, _), (102, _), (105, _), (109, _), (112, _), (115, _), (118, _), (122, _), (125, _)] (by repeat first | exact Sub.nil | refine Sub.cons rfl ?_) ((ac _ _ _ _ _ _).2 (ot mo a1 ev ew ex ey ez e0 e1 uh ox bt bu bv bw ui _ H (jz.trans kd) hs uj (ii.mono kd) (ij.mono kd))))))
    have oy : ∀ (e2 e3 e4 e5 e6 e7 e8 : Int) (bx : Value) (bz : List Value) (ke : Hp) (w : World), ref10_Check.t4 x0 e2 e3 e4 e5 e6 e7 e8 = some r → Le ar ke → St w0 ke ((.row bx 4 Rep.bool.sz ((List.replicate (x0.marks.length : Int).toNat false).length) bz) :: (.box a0 34 ([bq, bp, bo, bl, a8, bm, az, ax, a9, au, av])) :: Γ) w → RowR Rep.bool ke bz (List.replicate (x0.marks.length : Int).toNat false) → dg [] (fun w => St w0 ar ((.box a0 34 ([bq, bp, bo, bl, a8, bm, az, ax, a9, au, av])) :: Γ) w) 12 [39, 38, 35, 32, 28, 27, 24, 21, 20, 17, 14, 12, 9, 8, 5, 2, 52, 68, 67, 65, 64, 61, 60, 59, 58, 57, 55, 54, 51, 50, 49, 48, 47, 44, 43, 41, 40, 37, 36, 34, 33, 31, 30, 29, 26, 25, 23, 22, 19, 18, 16, 15, 13, 11, 10, 7, 6, 4, 3, 1, 0] [(1, .pointer (some ⟨a0, 0, none⟩)), (59, .int .i64 e2), (66, .int .i64 e3), (71, .int .i64 e4), (78, .int .i64 e5), (85, .int .i64 e6), (89, .int .i64 e7), (96, .int .i64 e8), (98, ax), (101, ax), (105, a9), (109, bx), (112, au), (115, au), (118, .int .i64 (x0.names.length : Int)), (122, av), (125, av)] w := by
     intro e2 e3 e4 e5 e6 e7 e8 bx bz ke w H j0 hs ik
     rw [ref10_Check.t4] at H
     refine (ac _ _ _ _ _ _).1 <| D1 42 sh rfl (by kernel_rfl) (fun F3 uk => ?_)
     obtain ⟨mp, oz, H⟩ := bnd H
     refine O_call rfl rfl (ref10_spans.c hs (r7.mono (((aw.trans ag).trans af).trans j0)) oz) (fun ul w hpost => ?_)
     obtain ⟨um, F4, o0, rfl, ks, hs, un⟩ := hpost
     refine O_nil (uk _ _ (fun _ _ => ((hs.less (j0.trans ks)).sub (ssk (ssk (ssc ssr))))) <| (OD_land rfl (by kernel_rfl) (OD.weak [(1, _), (59, _), (66, _), (71, _), (78, _), (85, _), (89, _), (96, _), (99, _), (101, _), (105, _), (109, _), (112, _), (115, _), (118, _), (122, _), (125, _)] (by repeat first | exact Sub.nil | refine Sub.cons rfl ?_) ((ac _ _ _ _ _ _).2 (ov mp e2 e3 e4 e5 e6 e7 e8 ul o0 bx bz um _ H (j0.trans ks) hs un (ik.mono ks))))))
    have o1 : ∀ (bc : List Bool) (bd : List Spn) (e9 fa fb fc fd fe : Int) (dw : Value) (dx : List Value) (dy : Value) (dz : List Value) (b0 : Value) (b1 : List Value) (ht : Hp) (w : World), ref10_Check.t5 x0 bc bd e9 fa fb fc fd fe = some r → Le ar ht → St w0 ht ((.row dw 4 Rep.bool.sz bc.length dx) :: (.row dy 74 rSpn.sz bd.length dz) :: (.row b0 4 Rep.bool.sz ((List.replicate (x0.marks.length : Int).toNat false).length) b1) :: (.box a0 34 ([bq, bp, bo, bl, a8, bm, az, ax, a9, au, av])) :: Γ) w → RowR Rep.bool ht dx bc → RowR rSpn ht dz bd → RowR Rep.bool ht b1 (List.replicate (x0.marks.length : Int).toNat false) → dg [] (fun w => St w0 ar ((.box a0 34 ([bq, bp, bo, bl, a8, bm, az, ax, a9, au, av])) :: Γ) w) 13 [38, 35, 32, 28, 27, 24, 21, 20, 17, 14, 12, 9, 8, 5, 2, 52, 68, 67, 65, 64, 61, 60, 59, 58, 57, 55, 54, 51, 50, 49, 48, 47, 44, 43, 41, 40, 37, 36, 34, 33, 31, 30, 29, 26, 25, 23, 22, 19, 18, 16, 15, 13, 11, 10, 7, 6, 4, 3, 1, 0] [(1, .pointer (some ⟨a0, 0, none⟩)), (59, .int .i64 e9), (66, .int .i64 fa), (71, .int .i64 fb), (78, .int .i64 fc), (85, .int .i64 fd), (89, .int .i64 fe), (92, dy), (95, dw), (98, ax), (101, ax), (105, a9), (109, b0), (112, au), (115, au), (118, .int .i64 (x0.names.length : Int)), (122, av), (125, av)] w := by
     intro bc bd e9 fa fb fc fd fe dw dx dy dz b0 b1 ht w H kt hs il im io
     rw [ref10_Check.t5] at H
     refine (ac _ _ _ _ _ _).1 ?_
     obtain ⟨F5, lv, hs, uo⟩ := hs.rowEnd (j := 1) im rfl
     obtain ⟨up, lw, hs, uq⟩ := hs.rowEnd (j := 0) (il.mono lv) rfl
     have nj := lv.trans lw
     refine D1 39 sh rfl (by kernel_rfl) (fun F6 ur => ?_)
     obtain ⟨mq, o2, H⟩ := bnd H
     refine O_call rfl rfl (ref10_many.c hs (uo.mono lw) uq o2) (fun F7 w hpost => ?_)
     obtain ⟨rfl, hs⟩ := hpost
     refine O_nil (ur _ _ (fun _ _ => ((hs.less (kt.trans nj)).sub (ssk (ssc ssr)))) <| (OD_land rfl (by kernel_rfl) (OD.weak [(1, _), (59, _), (66, _), (71, _), (78, _), (85, _), (89, _), (96, _), (98, _), (101, _), (105, _), (109, _), (112, _), (115, _), (118, _), (122, _), (125, _)] (by repeat first | exact Sub.nil | refine Sub.cons rfl ?_) ((ac _ _ _ _ _ _).2 (oy e9 fa fb fc fd fe mq b0 b1 up _ H (kt.trans nj) hs (io.mono nj))))))
    have o3 : ∀ (a2 : List Spn) (ff fg fh fi fj fk : Int) (b2 : Value) (b3 : List Value) (b4 : Value) (b5 : List Value) (ip : Hp) (w : World), ref10_Check.t6 x0 a2 ff fg fh fi fj fk = some r → Le ar ip → St w0 ip ((.row b2 74 rSpn.sz a2.length b3) :: (.row b4 4 Rep.bool.sz ((List.replicate (x0.marks.length : Int).toNat false).length) b5) :: (.box a0 34 ([bq, bp, bo, bl, a8, bm, az, ax, a9, au, av])) :: Γ) w → RowR rSpn ip b3 a2 → RowR Rep.bool ip b5 (List.replicate (x0.marks.length : Int).toNat false) → dg [] (fun w => St w0 ar ((.box a0 34 ([bq, bp, bo, bl, a8, bm, az, ax, a9, au, av])) :: Γ) w) 14 [35, 32, 28, 27, 24, 21, 20, 17, 14, 12, 9, 8, 5, 2, 52, 68, 67, 65, 64, 61, 60, 59, 58, 57, 55, 54, 51, 50, 49, 48, 47, 44, 43, 41, 40, 37, 36, 34, 33, 31, 30, 29, 26, 25, 23, 22, 19, 18, 16, 15, 13, 11, 10, 7, 6, 4, 3, 1, 0] [(1, .pointer (some ⟨a0, 0, none⟩)), (59, .int .i64 ff), (66, .int .i64 fg), (71, .int .i64 fh), (78, .int .i64 fi), (85, .int .i64 fj), (89, .int .i64 fk), (92, b2), (94, az), (98, ax), (101, ax), (105, a9), (109, b4), (112, au), (115, au), (118, .int .i64 (x0.names.length : Int)), (122, av), (125, av)] w := by
     intro a2 ff fg fh fi fj fk b2 b3 b4 b5 ip w H j2 hs iq ir
     rw [ref10_Check.t6] at H
     refine (ac _ _ _ _ _ _).1 <| D1 38 sh rfl (by kernel_rfl) (fun F8 us => ?_)
     obtain ⟨mr, o4, H⟩ := bnd H
     refine O_call rfl rfl (ref10_numbered.c hs (r6.mono (((aw.trans ag).trans af).trans j2)) o4) (fun ut w hpost => ?_)
     obtain ⟨uu, F9, o5, rfl, kf, hs, uv⟩ := hpost
     refine O_nil (us _ _ (fun _ _ => ((hs.less (j2.trans kf)).sub (ssk (ssk (ssk (ssc ssr)))))) <| (OD_land rfl (by kernel_rfl) (OD.weak [(1, _), (59, _), (66, _), (71, _), (78, _), (85, _), (89, _), (92, _), (95, _), (98, _), (101, _), (105, _), (109, _), (112, _), (115, _), (118, _), (122, _), (125, _)] (by repeat first | exact Sub.nil | refine Sub.cons rfl ?_) ((ac _ _ _ _ _ _).2 (o1 mr a2 ff fg fh fi fj fk ut o5 b2 b3 b4 b5 uu _ H (j2.trans kf) hs uv (iq.mono kf) (ir.mono kf))))))
    have o6 : ∀ (fl fm fn fo fp fq : Int) (b6 : Value) (b7 : List Value) (kg : Hp) (w : World), ref10_Check.t7 x0 fl fm fn fo fp fq = some r → Le ar kg → St w0 kg ((.row b6 4 Rep.bool.sz ((List.replicate (x0.marks.length : Int).toNat false).length) b7) :: (.box a0 34 ([bq, bp, bo, bl, a8, bm, az, ax, a9, au, av])) :: Γ) w → RowR Rep.bool kg b7 (List.replicate (x0.marks.length : Int).toNat false) → dg [] (fun w => St w0 ar ((.box a0 34 ([bq, bp, bo, bl, a8, bm, az, ax, a9, au, av])) :: Γ) w) 15 [32, 28, 27, 24, 21, 20, 17, 14, 12, 9, 8, 5, 2, 52, 68, 67, 65, 64, 61, 60, 59, 58, 57, 55, 54, 51, 50, 49, 48, 47, 44, 43, 41, 40, 37, 36, 34, 33, 31, 30, 29, 26, 25, 23, 22, 19, 18, 16, 15, 13, 11, 10, 7, 6, 4, 3, 1, 0] [(1, .pointer (some ⟨a0, 0, none⟩)), (59, .int .i64 fl), (66, .int .i64 fm), (71, .int .i64 fn), (78, .int .i64 fo), (85, .int .i64 fp), (89, .int .i64 fq), (91, az), (94, az), (98, ax), (101, ax), (105, a9), (109, b6), (112, au), (115, au), (118, .int .i64 (x0.names.length : Int)), (122, av), (125, av)] w := by
     intro fl fm fn fo fp fq b6 b7 kg w H j3 hs it
     rw [ref10_Check.t7] at H
     refine (ac _ _ _ _ _ _).1 <| D1 35 sh rfl (by kernel_rfl) (fun Ga uw => ?_)
     obtain ⟨ms, o7, H⟩ := bnd H
     refine O_call rfl rfl (ref10_spans.c hs (r6.mono (((aw.trans ag).trans af).trans j3)) o7) (fun ux w hpost => ?_)
     obtain ⟨uy, Gb, o8, rfl, ku, hs, uz⟩ := hpost
     refine O_nil (uw _ _ (fun _ _ => ((hs.less (j3.trans ku)).sub (ssk (ssk (ssc ssr))))) <| (OD_land rfl (by kernel_rfl) (OD.weak [(1, _), (59, _), (66, _), (71, _), (78, _), (85, _), (89, _), (92, _), (94, _), (98, _), (101, _), (105, _), (109, _), (112, _), (115, _), (118, _), (122, _), (125, _)] (by repeat first | exact Sub.nil | refine Sub.cons rfl ?_) ((ac _ _ _ _ _ _).2 (o3 ms fl fm fn fo fp fq ux o8 b6 b7 uy _ H (j3.trans ku) hs uz (it.mono ku))))))
    have o9 : ∀ (fr fs ft fu fv : Int) (b8 : Value) (b9 : List Value) (iu : Hp) (w : World), ref10_Check.t8 x0 aa fr fs ft fu fv = some r → Le ar iu → St w0 iu ((.row b8 4 Rep.bool.sz ((List.replicate (x0.marks.length : Int).toNat false).length) b9) :: (.box a0 34 ([bq, bp, bo, bl, a8, bm, az, ax, a9, au, av])) :: Γ) w → RowR Rep.bool iu b9 (List.replicate (x0.marks.length : Int).toNat false) → dg [] (fun w => St w0 ar ((.box a0 34 ([bq, bp, bo, bl, a8, bm, az, ax, a9, au, av])) :: Γ) w) 16 [28, 27, 24, 21, 20, 17, 14, 12, 9, 8, 5, 2, 52, 68, 67, 65, 64, 61, 60, 59, 58, 57, 55, 54, 51, 50, 49, 48, 47, 44, 43, 41, 40, 37, 36, 34, 33, 31, 30, 29, 26, 25, 23, 22, 19, 18, 16, 15, 13, 11, 10, 7, 6, 4, 3, 1, 0] [(1, .pointer (some ⟨a0, 0, none⟩)), (59, .int .i64 fr), (66, .int .i64 fs), (71, .int .i64 ft), (78, .int .i64 fu), (85, .int .i64 fv), (87, bm), (88, ad), (91, az), (94, az), (98, ax), (101, ax), (105, a9), (109, b8), (112, au), (115, au), (118, .int .i64 (x0.names.length : Int)), (122, av), (125, av)] w := by
     intro fr fs ft fu fv b8 b9 iu w H hz hs iv
     rw [ref10_Check.t8] at H
     refine (ac _ _ _ _ _ _).1 <| D1 32 sh rfl (by kernel_rfl) (fun Gc va => ?_)
     obtain ⟨mt, pa, H⟩ := bnd H
     refine O_call rfl rfl (ref10_many.c hs (r5.mono (((aw.trans ag).trans af).trans hz)) (oc.mono hz) pa) (fun Gd w hpost => ?_)
     obtain ⟨rfl, hs⟩ := hpost
     refine O_nil (va _ _ (fun _ _ => ((hs.less hz).sub (ssk (ssc ssr)))) <| (OD_land rfl (by kernel_rfl) (OD.weak [(1, _), (59, _), (66, _), (71, _), (78, _), (85, _), (89, _), (91, _), (94, _), (98, _), (101, _), (105, _), (109, _), (112, _), (115, _), (118, _), (122, _), (125, _)] (by repeat first | exact Sub.nil | refine Sub.cons rfl ?_) ((ac _ _ _ _ _ _).2 (o6 fr fs ft fu fv mt b8 b9 iu _ H hz hs iv)))))
    have pb : ∀ (be : List Bool) (bf : List Spn) (fw fx fy fz : Int) (ea : Value) (eb : List Value) (ec : Value) (ed : List Value) (ca : Value) (cb : List Value) (hv : Hp) (w : World), ref10_Check.t9 x0 aa be bf fw fx fy fz = some r → Le ar hv → St w0 hv ((.row ea 4 Rep.bool.sz be.length eb) :: (.row ec 74 rSpn.sz bf.length ed) :: (.row ca 4 Rep.bool.sz ((List.replicate (x0.marks.length : Int).toNat false).length) cb) :: (.box a0 34 ([bq, bp, bo, bl, a8, bm, az, ax, a9, au, av])) :: Γ) w → RowR Rep.bool hv eb be → RowR rSpn hv ed bf → RowR Rep.bool hv cb (List.replicate (x0.marks.length : Int).toNat false) → dg [] (fun w => St w0 ar ((.box a0 34 ([bq, bp, bo, bl, a8, bm, az, ax, a9, au, av])) :: Γ) w) 17 [27, 24, 21, 20, 17, 14, 12, 9, 8, 5, 2, 52, 68, 67, 65, 64, 61, 60, 59, 58, 57, 55, 54, 51, 50, 49, 48, 47, 44, 43, 41, 40, 37, 36, 34, 33, 31, 30, 29, 26, 25, 23, 22, 19, 18, 16, 15, 13, 11, 10, 7, 6, 4, 3, 1, 0] [(1, .pointer (some ⟨a0, 0, none⟩)), (59, .int .i64 fw), (66, .int .i64 fx), (71, .int .i64 fy), (78, .int .i64 fz), (81, ec), (84, ea), (87, bm), (88, ad), (91, az), (94, az), (98, ax), (101, ax), (105, a9), (109, ca), (112, au), (115, au), (118, .int .i64 (x0.names.length : Int)), (122, av), (125, av)] w := by
     intro be bf fw fx fy fz ea eb ec ed ca cb hv w H kv hs iw iy iz
     rw [ref10_Check.t9] at H
     refine (ac _ _ _ _ _ _).1 ?_
     obtain ⟨Ge, lx, hs, vb⟩ := hs.rowEnd (j := 1) iy rfl
     obtain ⟨vc, ly, hs, vd⟩ := hs.rowEnd (j := 0) (iw.mono lx) rfl
     have nk := lx.trans ly
     refine D1 28 sh rfl (by kernel_rfl) (fun Gf ve => ?_)
     obtain ⟨mu, pc, H⟩ := bnd H
     refine O_call rfl rfl (ref10_many.c hs (vb.mono ly) vd pc) (fun Gg w hpost => ?_)
     obtain ⟨rfl, hs⟩ := hpost
     refine O_nil (ve _ _ (fun _ _ => ((hs.less (kv.trans nk)).sub (ssk (ssc ssr)))) <| (OD_land rfl (by kernel_rfl) (OD.weak [(1, _), (59, _), (66, _), (71, _), (78, _), (85, _), (87, _), (88, _), (91, _), (94, _), (98, _), (101, _), (105, _), (109, _), (112, _), (115, _), (118, _), (122, _), (125, _)] (by repeat first | exact Sub.nil | refine Sub.cons rfl ?_) ((ac _ _ _ _ _ _).2 (o9 fw fx fy fz mu ca cb vc _ H (kv.trans nk) hs (iz.mono nk))))))
    have pd : ∀ (a3 : List Spn) (ga gb gc ge : Int) (cc : Value) (cd : List Value) (ce : Value) (cf : List Value) (ja : Hp) (w : World), ref10_Check.t10 x0 aa a3 ga gb gc ge = some r → Le ar ja → St w0 ja ((.row cc 74 rSpn.sz a3.length cd) :: (.row ce 4 Rep.bool.sz ((List.replicate (x0.marks.length : Int).toNat false).length) cf) :: (.box a0 34 ([bq, bp, bo, bl, a8, bm, az, ax, a9, au, av])) :: Γ) w → RowR rSpn ja cd a3 → RowR Rep.bool ja cf (List.replicate (x0.marks.length : Int).toNat false) → dg [] (fun w => St w0 ar ((.box a0 34 ([bq, bp, bo, bl, a8, bm, az, ax, a9, au, av])) :: Γ) w) 18 [24, 21, 20, 17, 14, 12, 9, 8, 5, 2, 52, 68, 67, 65, 64, 61, 60, 59, 58, 57, 55, 54, 51, 50, 49, 48, 47, 44, 43, 41, 40, 37, 36, 34, 33, 31, 30, 29, 26, 25, 23, 22, 19, 18, 16, 15, 13, 11, 10, 7, 6, 4, 3, 1, 0] [(1, .pointer (some ⟨a0, 0, none⟩)), (59, .int .i64 ga), (66, .int .i64 gb), (71, .int .i64 gc), (78, .int .i64 ge), (81, cc), (83, a8), (87, bm), (88, ad), (91, az), (94, az), (98, ax), (101, ax), (105, a9), (109, ce), (112, au), (115, au), (118, .int .i64 (x0.names.length : Int)), (122, av), (125, av)] w := by
     intro a3 ga gb gc ge cc cd ce cf ja w H j4 hs jb jc
     rw [ref10_Check.t10] at H
     refine (ac _ _ _ _ _ _).1 <| D1 27 sh rfl (by kernel_rfl) (fun Gh vf => ?_)
     obtain ⟨mv, pe, H⟩ := bnd H
     refine O_call rfl rfl (ref10_decomposed.c hs (r4.mono (((aw.trans ag).trans af).trans j4)) pe) (fun vg w hpost => ?_)
     obtain ⟨vh, Gi, pf, rfl, kh, hs, vi⟩ := hpost
     refine O_nil (vf _ _ (fun _ _ => ((hs.less (j4.trans kh)).sub (ssk (ssk (ssk (ssc ssr)))))) <| (OD_land rfl (by kernel_rfl) (OD.weak [(1, _), (59, _), (66, _), (71, _), (78, _), (81, _), (84, _), (87, _), (88, _), (91, _), (94, _), (98, _), (101, _), (105, _), (109, _), (112, _), (115, _), (118, _), (122, _), (125, _)] (by repeat first | exact Sub.nil | refine Sub.cons rfl ?_) ((ac _ _ _ _ _ _).2 (pb mv a3 ga gb gc ge vg pf cc cd ce cf vh _ H (j4.trans kh) hs vi (jb.mono kh) (jc.mono kh))))))
    have pg : ∀ (gf gg gh gi : Int) (cg : Value) (ch : List Value) (ki : Hp) (w : World), ref10_Check.t11 x0 aa gf gg gh gi = some r → Le ar ki → St w0 ki ((.row cg 4 Rep.bool.sz ((List.replicate (x0.marks.length : Int).toNat false).length) ch) :: (.box a0 34 ([bq, bp, bo, bl, a8, bm, az, ax, a9, au, av])) :: Γ) w → RowR Rep.bool ki ch (List.replicate (x0.marks.length : Int).toNat false) → dg [] (fun w => St w0 ar ((.box a0 34 ([bq, bp, bo, bl, a8, bm, az, ax, a9, au, av])) :: Γ) w) 19 [21, 20, 17, 14, 12, 9, 8, 5, 2, 52, 68, 67, 65, 64, 61, 60, 59, 58, 57, 55, 54, 51, 50, 49, 48, 47, 44, 43, 41, 40, 37, 36, 34, 33, 31, 30, 29, 26, 25, 23, 22, 19, 18, 16, 15, 13, 11, 10, 7, 6, 4, 3, 1, 0] [(1, .pointer (some ⟨a0, 0, none⟩)), (59, .int .i64 gf), (66, .int .i64 gg), (71, .int .i64 gh), (78, .int .i64 gi), (80, a8), (83, a8), (87, bm), (88, ad), (91, az), (94, az), (98, ax), (101, ax), (105, a9), (109, cg), (112, au), (115, au), (118, .int .i64 (x0.names.length : Int)), (122, av), (125, av)] w := by
     intro gf gg gh gi cg ch ki w H j5 hs jd
     rw [ref10_Check.t11] at H
     refine (ac _ _ _ _ _ _).1 <| D1 24 sh rfl (by kernel_rfl) (fun Gj vj => ?_)
     obtain ⟨mw, ph, H⟩ := bnd H
     refine O_call rfl rfl (ref10_spansOf.c hs (r4.mono (((aw.trans ag).trans af).trans j5)) ph) (fun vk w hpost => ?_)
     obtain ⟨vl, Gk, pi, rfl, kw, hs, vm⟩ := hpost
     refine O_nil (vj _ _ (fun _ _ => ((hs.less (j5.trans kw)).sub (ssk (ssk (ssc ssr))))) <| (OD_land rfl (by kernel_rfl) (OD.weak [(1, _), (59, _), (66, _), (71, _), (78, _), (81, _), (83, _), (87, _), (88, _), (91, _), (94, _), (98, _), (101, _), (105, _), (109, _), (112, _), (115, _), (118, _), (122, _), (125, _)] (by repeat first | exact Sub.nil | refine Sub.cons rfl ?_) ((ac _ _ _ _ _ _).2 (pd mw gf gg gh gi vk pi cg ch vl _ H (j5.trans kw) hs vm (jd.mono kw))))))
    have pj : ∀ (bg : List Bool) (bh : List Spn) (gj gk gl : Int) (ee : Value) (ef : List Value) (eg : Value) (eh : List Value) (ci : Value) (cj : List Value) (hw : Hp) (w : World), ref10_Check.t12 x0 aa bg bh gj gk gl = some r → Le ar hw → St w0 hw ((.row ee 4 Rep.bool.sz bg.length ef) :: (.row eg 74 rSpn.sz bh.length eh) :: (.row ci 4 Rep.bool.sz ((List.replicate (x0.marks.length : Int).toNat false).length) cj) :: (.box a0 34 ([bq, bp, bo, bl, a8, bm, az, ax, a9, au, av])) :: Γ) w → RowR Rep.bool hw ef bg → RowR rSpn hw eh bh → RowR Rep.bool hw cj (List.replicate (x0.marks.length : Int).toNat false) → dg [] (fun w => St w0 ar ((.box a0 34 ([bq, bp, bo, bl, a8, bm, az, ax, a9, au, av])) :: Γ) w) 20 [20, 17, 14, 12, 9, 8, 5, 2, 52, 68, 67, 65, 64, 61, 60, 59, 58, 57, 55, 54, 51, 50, 49, 48, 47, 44, 43, 41, 40, 37, 36, 34, 33, 31, 30, 29, 26, 25, 23, 22, 19, 18, 16, 15, 13, 11, 10, 7, 6, 4, 3, 1, 0] [(1, .pointer (some ⟨a0, 0, none⟩)), (59, .int .i64 gj), (66, .int .i64 gk), (71, .int .i64 gl), (74, eg), (77, ee), (80, a8), (83, a8), (87, bm), (88, ad), (91, az), (94, az), (98, ax), (101, ax), (105, a9), (109, ci), (112, au), (115, au), (118, .int .i64 (x0.names.length : Int)), (122, av), (125, av)] w := by
     intro bg bh gj gk gl ee ef eg eh ci cj hw w H kx hs je jf jg
     rw [ref10_Check.t12] at H
     refine (ac _ _ _ _ _ _).1 ?_
     obtain ⟨Gl, lz, hs, vn⟩ := hs.rowEnd (j := 1) jf rfl
     obtain ⟨vo, l0, hs, vp⟩ := hs.rowEnd (j := 0) (je.mono lz) rfl
     have nl := lz.trans l0
     refine D1 21 sh rfl (by kernel_rfl) (fun Gm vq => ?_)
     obtain ⟨mx, pk, H⟩ := bnd H
     refine O_call rfl rfl (ref10_many.c hs (vn.mono l0) vp pk) (fun Gn w hpost => ?_)
     obtain ⟨rfl, hs⟩ := hpost
     refine O_nil (vq _ _ (fun _ _ => ((hs.less (kx.trans nl)).sub (ssk (ssc ssr)))) <| (OD_land rfl (by kernel_rfl) (OD.weak [(1, _), (59, _), (66, _), (71, _), (78, _), (80, _), (83, _), (87, _), (88, _), (91, _), (94, _), (98, _), (101, _), (105, _), (109, _), (112, _), (115, _), (118, _), (122, _), (125, _)] (by repeat first | exact Sub.nil | refine Sub.cons rfl ?_) ((ac _ _ _ _ _ _).2 (pg gj gk gl mx ci cj vo _ H (kx.trans nl) hs (jg.mono nl))))))
    have pl : ∀ (a4 : List Spn) (gm gn go : Int) (ck : Value) (cl : List Value) (cm : Value) (cn : List Value) (jh : Hp) (w : World), ref10_Check.t13 x0 aa a4 gm gn go = some r → Le ar jh → St w0 jh ((.row ck 74 rSpn.sz a4.length cl) :: (.row cm 4 Rep.bool.sz ((List.replicate (x0.marks.length : Int).toNat false).length) cn) :: (.box a0 34 ([bq, bp, bo, bl, a8, bm, az, ax, a9, au, av])) :: Γ) w → RowR rSpn jh cl a4 → RowR Rep.bool jh cn (List.replicate (x0.marks.length : Int).toNat false) → dg [] (fun w => St w0 ar ((.box a0 34 ([bq, bp, bo, bl, a8, bm, az, ax, a9, au, av])) :: Γ) w) 21 [17, 14, 12, 9, 8, 5, 2, 52, 68, 67, 65, 64, 61, 60, 59, 58, 57, 55, 54, 51, 50, 49, 48, 47, 44, 43, 41, 40, 37, 36, 34, 33, 31, 30, 29, 26, 25, 23, 22, 19, 18, 16, 15, 13, 11, 10, 7, 6, 4, 3, 1, 0] [(1, .pointer (some ⟨a0, 0, none⟩)), (59, .int .i64 gm), (66, .int .i64 gn), (71, .int .i64 go), (74, ck), (76, bl), (80, a8), (83, a8), (87, bm), (88, ad), (91, az), (94, az), (98, ax), (101, ax), (105, a9), (109, cm), (112, au), (115, au), (118, .int .i64 (x0.names.length : Int)), (122, av), (125, av)] w := by
     intro a4 gm gn go ck cl cm cn jh w H j6 hs ji jj
     rw [ref10_Check.t13] at H
     refine (ac _ _ _ _ _ _).1 <| D1 20 sh rfl (by kernel_rfl) (fun Go vr => ?_)
     obtain ⟨my, pm, H⟩ := bnd H
     refine O_call rfl rfl (ref10_numbered.c hs (r3.mono (((aw.trans ag).trans af).trans j6)) pm) (fun vs w hpost => ?_)
     obtain ⟨vt, Gp, pn, rfl, kj, hs, vu⟩ := hpost
     refine O_nil (vr _ _ (fun _ _ => ((hs.less (j6.trans kj)).sub (ssk (ssk (ssk (ssc ssr)))))) <| (OD_land rfl (by kernel_rfl) (OD.weak [(1, _), (59, _), (66, _), (71, _), (74, _), (77, _), (80, _), (83, _), (87, _), (88, _), (91, _), (94, _), (98, _), (101, _), (105, _), (109, _), (112, _), (115, _), (118, _), (122, _), (125, _)] (by repeat first | exact Sub.nil | refine Sub.cons rfl ?_) ((ac _ _ _ _ _ _).2 (pj my a4 gm gn go vs pn ck cl cm cn vt _ H (j6.trans kj) hs vu (ji.mono kj) (jj.mono kj))))))
    have po : ∀ (gp gq gr : Int) (co : Value) (cp : List Value) (kk : Hp) (w : World), ref10_Check.t14 x0 aa gp gq gr = some r → Le ar kk → St w0 kk ((.row co 4 Rep.bool.sz ((List.replicate (x0.marks.length : Int).toNat false).length) cp) :: (.box a0 34 ([bq, bp, bo, bl, a8, bm, az, ax, a9, au, av])) :: Γ) w → RowR Rep.bool kk cp (List.replicate (x0.marks.length : Int).toNat false) → dg [] (fun w => St w0 ar ((.box a0 34 ([bq, bp, bo, bl, a8, bm, az, ax, a9, au, av])) :: Γ) w) 22 [14, 12, 9, 8, 5, 2, 52, 68, 67, 65, 64, 61, 60, 59, 58, 57, 55, 54, 51, 50, 49, 48, 47, 44, 43, 41, 40, 37, 36, 34, 33, 31, 30, 29, 26, 25, 23, 22, 19, 18, 16, 15, 13, 11, 10, 7, 6, 4, 3, 1, 0] [(1, .pointer (some ⟨a0, 0, none⟩)), (59, .int .i64 gp), (66, .int .i64 gq), (71, .int .i64 gr), (73, bl), (76, bl), (80, a8), (83, a8), (87, bm), (88, ad), (91, az), (94, az), (98, ax), (101, ax), (105, a9), (109, co), (112, au), (115, au), (118, .int .i64 (x0.names.length : Int)), (122, av), (125, av)] w := by
     intro gp gq gr co cp kk w H j7 hs jk
     rw [ref10_Check.t14] at H
     refine (ac _ _ _ _ _ _).1 <| D1 17 sh rfl (by kernel_rfl) (fun Gq vv => ?_)
     obtain ⟨mz, pp, H⟩ := bnd H
     refine O_call rfl rfl (ref10_spans.c hs (r3.mono (((aw.trans ag).trans af).trans j7)) pp) (fun vw w hpost => ?_)
     obtain ⟨vx, Gr, pq, rfl, ky, hs, vy⟩ := hpost
     refine O_nil (vv _ _ (fun _ _ => ((hs.less (j7.trans ky)).sub (ssk (ssk (ssc ssr))))) <| (OD_land rfl (by kernel_rfl) (OD.weak [(1, _), (59, _), (66, _), (71, _), (74, _), (76, _), (80, _), (83, _), (87, _), (88, _), (91, _), (94, _), (98, _), (101, _), (105, _), (109, _), (112, _), (115, _), (118, _), (122, _), (125, _)] (by repeat first | exact Sub.nil | refine Sub.cons rfl ?_) ((ac _ _ _ _ _ _).2 (pl mz gp gq gr vw pq co cp vx _ H (j7.trans ky) hs vy (jk.mono ky))))))
    have pr : ∀ (bi : List Spn) (gs gt : Int) (ei : Value) (ej : List Value) (cq : Value) (cr : List Value) (jl : Hp) (w : World), ref10_Check.t15 x0 ab aa bi gs gt = some r → Le ar jl → St w0 jl ((.row ei 74 rSpn.sz bi.length ej) :: (.row cq 4 Rep.bool.sz ((List.replicate (x0.marks.length : Int).toNat false).length) cr) :: (.box a0 34 ([bq, bp, bo, bl, a8, bm, az, ax, a9, au, av])) :: Γ) w → RowR rSpn jl ej bi → RowR Rep.bool jl cr (List.replicate (x0.marks.length : Int).toNat false) → dg [] (fun w => St w0 ar ((.box a0 34 ([bq, bp, bo, bl, a8, bm, az, ax, a9, au, av])) :: Γ) w) 23 [12, 9, 8, 5, 2, 52, 68, 67, 65, 64, 61, 60, 59, 58, 57, 55, 54, 51, 50, 49, 48, 47, 44, 43, 41, 40, 37, 36, 34, 33, 31, 30, 29, 26, 25, 23, 22, 19, 18, 16, 15, 13, 11, 10, 7, 6, 4, 3, 1, 0] [(1, .pointer (some ⟨a0, 0, none⟩)), (59, .int .i64 gs), (66, .int .i64 gt), (69, ei), (70, ao), (73, bl), (76, bl), (80, a8), (83, a8), (87, bm), (88, ad), (91, az), (94, az), (98, ax), (101, ax), (105, a9), (109, cq), (112, au), (115, au), (118, .int .i64 (x0.names.length : Int)), (122, av), (125, av)] w := by
     intro bi gs gt ei ej cq cr jl w H j8 hs jm jn
     rw [ref10_Check.t15] at H
     refine (ac _ _ _ _ _ _).1 ?_
     obtain ⟨vz, kl, hs, wa⟩ := hs.rowEnd (j := 0) jm rfl
     refine D1 14 sh rfl (by kernel_rfl) (fun Gs wb => ?_)
     obtain ⟨m0, ps, H⟩ := bnd H
     refine O_call rfl rfl (ref10_many.c hs wa (ob.mono ((af.trans j8).trans kl)) ps) (fun Gt w hpost => ?_)
     obtain ⟨rfl, hs⟩ := hpost
     refine O_nil (wb _ _ (fun _ _ => ((hs.less (j8.trans kl)).sub (ssk (ssc ssr)))) <| (OD_land rfl (by kernel_rfl) (OD.weak [(1, _), (59, _), (66, _), (71, _), (73, _), (76, _), (80, _), (83, _), (87, _), (88, _), (91, _), (94, _), (98, _), (101, _), (105, _), (109, _), (112, _), (115, _), (118, _), (122, _), (125, _)] (by repeat first | exact Sub.nil | refine Sub.cons rfl ?_) ((ac _ _ _ _ _ _).2 (po gs gt m0 cq cr vz _ H (j8.trans kl) hs (jn.mono kl))))))
    have pt : ∀ (gu gv : Int) (ct : Value) (cu : List Value) (km : Hp) (w : World), ref10_Check.t16 x0 ab aa gu gv = some r → Le ar km → St w0 km ((.row ct 4 Rep.bool.sz ((List.replicate (x0.marks.length : Int).toNat false).length) cu) :: (.box a0 34 ([bq, bp, bo, bl, a8, bm, az, ax, a9, au, av])) :: Γ) w → RowR Rep.bool km cu (List.replicate (x0.marks.length : Int).toNat false) → dg [] (fun w => St w0 ar ((.box a0 34 ([bq, bp, bo, bl, a8, bm, az, ax, a9, au, av])) :: Γ) w) 24 [9, 8, 5, 2, 52, 68, 67, 65, 64, 61, 60, 59, 58, 57, 55, 54, 51, 50, 49, 48, 47, 44, 43, 41, 40, 37, 36, 34, 33, 31, 30, 29, 26, 25, 23, 22, 19, 18, 16, 15, 13, 11, 10, 7, 6, 4, 3, 1, 0] [(1, .pointer (some ⟨a0, 0, none⟩)), (59, .int .i64 gu), (66, .int .i64 gv), (68, bo), (70, ao), (73, bl), (76, bl), (80, a8), (83, a8), (87, bm), (88, ad), (91, az), (94, az), (98, ax), (101, ax), (105, a9), (109, ct), (112, au), (115, au), (118, .int .i64 (x0.names.length : Int)), (122, av), (125, av)] w := by
     intro gu gv ct cu km w H j9 hs jo
     rw [ref10_Check.t16] at H
     refine (ac _ _ _ _ _ _).1 <| D1 12 sh rfl (by kernel_rfl) (fun Gu wc => ?_)
     obtain ⟨m1, pu, H⟩ := bnd H
     refine O_call rfl rfl (ref10_spansOf.c hs (ny.mono (((aw.trans ag).trans af).trans j9)) pu) (fun wd w hpost => ?_)
     obtain ⟨we, Gv, pv, rfl, kz, hs, wf⟩ := hpost
     refine O_nil (wc _ _ (fun _ _ => ((hs.less (j9.trans kz)).sub (ssk (ssk (ssc ssr))))) <| (OD_land rfl (by kernel_rfl) (OD.weak [(1, _), (59, _), (66, _), (69, _), (70, _), (73, _), (76, _), (80, _), (83, _), (87, _), (88, _), (91, _), (94, _), (98, _), (101, _), (105, _), (109, _), (112, _), (115, _), (118, _), (122, _), (125, _)] (by repeat first | exact Sub.nil | refine Sub.cons rfl ?_) ((ac _ _ _ _ _ _).2 (pr m1 gu gv wd pv ct cu we _ H (j9.trans kz) hs wf (jo.mono kz))))))
    have pw : ∀ (bj : List Bool) (bk : List Spn) (gw : Int) (ek : Value) (el : List Value) (em : Value) (en : List Value) (cv : Value) (cw : List Value) (hx : Hp) (w : World), ref10_Check.t17 x0 ab aa bj bk gw = some r → Le ar hx → St w0 hx ((.row ek 4 Rep.bool.sz bj.length el) :: (.row em 74 rSpn.sz bk.length en) :: (.row cv 4 Rep.bool.sz ((List.replicate (x0.marks.length : Int).toNat false).length) cw) :: (.box a0 34 ([bq, bp, bo, bl, a8, bm, az, ax, a9, au, av])) :: Γ) w → RowR Rep.bool hx el bj → RowR rSpn hx en bk → RowR Rep.bool hx cw (List.replicate (x0.marks.length : Int).toNat false) → dg [] (fun w => St w0 ar ((.box a0 34 ([bq, bp, bo, bl, a8, bm, az, ax, a9, au, av])) :: Γ) w) 25 [8, 5, 2, 52, 68, 67, 65, 64, 61, 60, 59, 58, 57, 55, 54, 51, 50, 49, 48, 47, 44, 43, 41, 40, 37, 36, 34, 33, 31, 30, 29, 26, 25, 23, 22, 19, 18, 16, 15, 13, 11, 10, 7, 6, 4, 3, 1, 0] [(1, .pointer (some ⟨a0, 0, none⟩)), (59, .int .i64 gw), (62, em), (65, ek), (68, bo), (70, ao), (73, bl), (76, bl), (80, a8), (83, a8), (87, bm), (88, ad), (91, az), (94, az), (98, ax), (101, ax), (105, a9), (109, cv), (112, au), (115, au), (118, .int .i64 (x0.names.length : Int)), (122, av), (125, av)] w := by
     intro bj bk gw ek el em en cv cw hx w H k0 hs jp jq jr
     rw [ref10_Check.t17] at H
     refine (ac _ _ _ _ _ _).1 ?_
     obtain ⟨Gw, l4, hs, wg⟩ := hs.rowEnd (j := 1) jq rfl
     obtain ⟨wh, l5, hs, wi⟩ := hs.rowEnd (j := 0) (jp.mono l4) rfl
     have nm := l4.trans l5
     refine D1 9 sh rfl (by kernel_rfl) (fun Gx wj => ?_)
     obtain ⟨m2, px, H⟩ := bnd H
     refine O_call rfl rfl (ref10_many.c hs (wg.mono l5) wi px) (fun Gy w hpost => ?_)
     obtain ⟨rfl, hs⟩ := hpost
     refine O_nil (wj _ _ (fun _ _ => ((hs.less (k0.trans nm)).sub (ssk (ssc ssr)))) <| (OD_land rfl (by kernel_rfl) (OD.weak [(1, _), (59, _), (66, _), (68, _), (70, _), (73, _), (76, _), (80, _), (83, _), (87, _), (88, _), (91, _), (94, _), (98, _), (101, _), (105, _), (109, _), (112, _), (115, _), (118, _), (122, _), (125, _)] (by repeat first | exact Sub.nil | refine Sub.cons rfl ?_) ((ac _ _ _ _ _ _).2 (pt gw m2 cv cw wh _ H (k0.trans nm) hs (jr.mono nm))))))
    have py : ∀ (a5 : List Spn) (gx : Int) (cx : Value) (cy : List Value) (cz : Value) (da : List Value) (js : Hp) (w : World), ref10_Check.t18 x0 ab aa a5 gx = some r → Le ar js → St w0 js ((.row cx 74 rSpn.sz a5.length cy) :: (.row cz 4 Rep.bool.sz ((List.replicate (x0.marks.length : Int).toNat false).length) da) :: (.box a0 34 ([bq, bp, bo, bl, a8, bm, az, ax, a9, au, av])) :: Γ) w → RowR rSpn js cy a5 → RowR Rep.bool js da (List.replicate (x0.marks.length : Int).toNat false) → dg [] (fun w => St w0 ar ((.box a0 34 ([bq, bp, bo, bl, a8, bm, az, ax, a9, au, av])) :: Γ) w) 26 [5, 2, 52, 68, 67, 65, 64, 61, 60, 59, 58, 57, 55, 54, 51, 50, 49, 48, 47, 44, 43, 41, 40, 37, 36, 34, 33, 31, 30, 29, 26, 25, 23, 22, 19, 18, 16, 15, 13, 11, 10, 7, 6, 4, 3, 1, 0] [(1, .pointer (some ⟨a0, 0, none⟩)), (59, .int .i64 gx), (62, cx), (64, bp), (68, bo), (70, ao), (73, bl), (76, bl), (80, a8), (83, a8), (87, bm), (88, ad), (91, az), (94, az), (98, ax), (101, ax), (105, a9), (109, cz), (112, au), (115, au), (118, .int .i64 (x0.names.length : Int)), (122, av), (125, av)] w := by
     intro a5 gx cx cy cz da js w H ka hs jt ju
     rw [ref10_Check.t18] at H
     refine (ac _ _ _ _ _ _).1 <| D1 8 sh rfl (by kernel_rfl) (fun Gz wk => ?_)
     obtain ⟨m3, pz, H⟩ := bnd H
     refine O_call rfl rfl (ref10_numbered.c hs (nx.mono (((aw.trans ag).trans af).trans ka)) pz) (fun wl w hpost => ?_)
     obtain ⟨wm, G0, p0, rfl, kn, hs, wn⟩ := hpost
     refine O_nil (wk _ _ (fun _ _ => ((hs.less (ka.trans kn)).sub (ssk (ssk (ssk (ssc ssr)))))) <| (OD_land rfl (by kernel_rfl) (OD.weak [(1, _), (59, _), (62, _), (65, _), (68, _), (70, _), (73, _), (76, _), (80, _), (83, _), (87, _), (88, _), (91, _), (94, _), (98, _), (101, _), (105, _), (109, _), (112, _), (115, _), (118, _), (122, _), (125, _)] (by repeat first | exact Sub.nil | refine Sub.cons rfl ?_) ((ac _ _ _ _ _ _).2 (pw m3 a5 gx wl p0 cx cy cz da wm _ H (ka.trans kn) hs wn (jt.mono kn) (ju.mono kn))))))
    have p1 : ∀ (gy : Int) (db : Value) (dc : List Value) (w : World), ref10_Check.t19 x0 ab aa gy = some r → St w0 ar ((.row db 4 Rep.bool.sz ((List.replicate (x0.marks.length : Int).toNat false).length) dc) :: (.box a0 34 ([bq, bp, bo, bl, a8, bm, az, ax, a9, au, av])) :: Γ) w → RowR Rep.bool ar dc (List.replicate (x0.marks.length : Int).toNat false) → dg [] (fun w => St w0 ar ((.box a0 34 ([bq, bp, bo, bl, a8, bm, az, ax, a9, au, av])) :: Γ) w) 27 [2, 52, 68, 67, 65, 64, 61, 60, 59, 58, 57, 55, 54, 51, 50, 49, 48, 47, 44, 43, 41, 40, 37, 36, 34, 33, 31, 30, 29, 26, 25, 23, 22, 19, 18, 16, 15, 13, 11, 10, 7, 6, 4, 3, 1, 0] [(1, .pointer (some ⟨a0, 0, none⟩)), (59, .int .i64 gy), (61, bp), (64, bp), (68, bo), (70, ao), (73, bl), (76, bl), (80, a8), (83, a8), (87, bm), (88, ad), (91, az), (94, az), (98, ax), (101, ax), (105, a9), (109, db), (112, au), (115, au), (118, .int .i64 (x0.names.length : Int)), (122, av), (125, av)] w := by
     intro gy db dc w H hs jv
     rw [ref10_Check.t19] at H
     refine (ac _ _ _ _ _ _).1 <| D1 5 sh rfl (by kernel_rfl) (fun G1 wo => ?_)
     obtain ⟨m4, p2, H⟩ := bnd H
     refine O_call rfl rfl (ref10_spans.c hs (nx.mono ((aw.trans ag).trans af)) p2) (fun wp w hpost => ?_)
     obtain ⟨wq, G2, p3, rfl, k1, hs, wr⟩ := hpost
     refine O_nil (wo _ _ (fun _ _ => ((hs.less k1).sub (ssk (ssk (ssc ssr))))) <| (OD_land rfl (by kernel_rfl) (OD.weak [(1, _), (59, _), (62, _), (64, _), (68, _), (70, _), (73, _), (76, _), (80, _), (83, _), (87, _), (88, _), (91, _), (94, _), (98, _), (101, _), (105, _), (109, _), (112, _), (115, _), (118, _), (122, _), (125, _)] (by repeat first | exact Sub.nil | refine Sub.cons rfl ?_) ((ac _ _ _ _ _ _).2 (py m4 gy wp p3 db dc wq _ H k1 hs wr (jv.mono k1))))))
    have ws : ∀ (dd : Value) (de : List Value) (w : World), ref10_Check.t20 x0 ab aa = some r → St w0 ar ((.row dd 4 Rep.bool.sz ((List.replicate (x0.marks.length : Int).toNat false).length) de) :: (.box a0 34 ([bq, bp, bo, bl, a8, bm, az, ax, a9, au, av])) :: Γ) w → RowR Rep.bool ar de (List.replicate (x0.marks.length : Int).toNat false) → dg [] (fun w => St w0 ar ((.box a0 34 ([bq, bp, bo, bl, a8, bm, az, ax, a9, au, av])) :: Γ) w) 28 [52, 68, 67, 65, 64, 61, 60, 59, 58, 57, 55, 54, 51, 50, 49, 48, 47, 44, 43, 41, 40, 37, 36, 34, 33, 31, 30, 29, 26, 25, 23, 22, 19, 18, 16, 15, 13, 11, 10, 7, 6, 4, 3, 1, 0] [(1, .pointer (some ⟨a0, 0, none⟩)), (58, bq), (61, bp), (64, bp), (68, bo), (70, ao), (73, bl), (76, bl), (80, a8), (83, a8), (87, bm), (88, ad), (91, az), (94, az), (98, ax), (101, ax), (105, a9), (109, dd), (112, au), (115, au), (118, .int .i64 (x0.names.length : Int)), (122, av), (125, av)] w := by
     intro dd de w H hs jw
     rw [ref10_Check.t20] at H
     refine (ac _ _ _ _ _ _).1 <| D1 2 sh rfl (by kernel_rfl) (fun G3 wt => ?_)
     obtain ⟨m5, p4, H⟩ := bnd H
     refine O_call rfl rfl (ref10_names.c hs (r9.mono ((aw.trans ag).trans af)) p4) (fun G4 w hpost => ?_)
     obtain ⟨rfl, hs⟩ := hpost
     refine O_nil (wt _ _ (fun _ _ => (hs.sub (ssk (ssc ssr)))) <| (OD_land rfl (by kernel_rfl) (OD.weak [(1, _), (59, _), (61, _), (64, _), (68, _), (70, _), (73, _), (76, _), (80, _), (83, _), (87, _), (88, _), (91, _), (94, _), (98, _), (101, _), (105, _), (109, _), (112, _), (115, _), (118, _), (122, _), (125, _)] (by repeat first | exact Sub.nil | refine Sub.cons rfl ?_) ((ac _ _ _ _ _ _).2 (p1 m5 dd de _ H hs jw)))))
    refine (ac _ _ _ _ _ _).1 <| OD_twoS sh (i := 52) (j := 2) rfl rfl (by kernel_rfl) (fun G5 wu => ?_) (fun G6 wv => ?_)
    ·refine O_makeSlice (r := Rep.bool) (x0 := false) el68 zr4 rfl rfl hs rfl rfl rfl ay.1 ay.2 (fun ww p5 w wx hs => O_nil (wu _ _ (fun _ _ => (hs.sub (ssk (ssc ssr)))) <| (OD_land rfl (by kernel_rfl) (OD.weak [(1, _), (58, _), (61, _), (64, _), (68, _), (70, _), (73, _), (76, _), (80, _), (83, _), (87, _), (88, _), (91, _), (94, _), (98, _), (101, _), (105, _), (109, _), (112, _), (115, _), (118, _), (122, _), (125, _)] (by repeat first | exact Sub.nil | refine Sub.cons rfl ?_) ((ac _ _ _ _ _ _).2 (ws (.slice (some ⟨ww, 0, none⟩) (x0.marks.length : Int).toNat (x0.marks.length : Int).toNat) p5 _ H hs wx))))))
    ·rw [ref10_Check.t20] at H
     obtain ⟨dk, p6, H⟩ := bnd H
     refine O_call rfl rfl (ref10_names.c hs (r9.mono ((aw.trans ag).trans af)) p6) (fun G7 w hpost => ?_)
     obtain ⟨rfl, hs⟩ := hpost
     refine O_nil (wv _ _ (fun _ _ => hs) <| OD_twoS sh (i := 52) (j := 5) rfl rfl (by kernel_rfl) (fun G8 wy => ?_) (fun G9 wz => ?_))
     ·refine O_makeSlice (r := Rep.bool) (x0 := false) el68 zr4 rfl rfl hs rfl rfl rfl ay.1 ay.2 (fun xa p7 w xb hs => O_nil (wy _ _ (fun _ _ => (hs.sub (ssk (ssc ssr)))) <| (OD_land rfl (by kernel_rfl) (OD.weak [(1, _), (59, _), (61, _), (64, _), (68, _), (70, _), (73, _), (76, _), (80, _), (83, _), (87, _), (88, _), (91, _), (94, _), (98, _), (101, _), (105, _), (109, _), (112, _), (115, _), (118, _), (122, _), (125, _)] (by repeat first | exact Sub.nil | refine Sub.cons rfl ?_) ((ac _ _ _ _ _ _).2 (p1 dk (.slice (some ⟨xa, 0, none⟩) (x0.marks.length : Int).toNat (x0.marks.length : Int).toNat) p7 _ H hs xb))))))
     ·rw [ref10_Check.t19] at H
      obtain ⟨p8, p9, H⟩ := bnd H
      refine O_call rfl rfl (ref10_spans.c hs (nx.mono ((aw.trans ag).trans af)) p9) (fun qa w hpost => ?_)
      obtain ⟨xc, Ia, l6, rfl, jx, hs, nn⟩ := hpost
      refine O_nil (wz _ _ (fun _ _ => ((hs.less jx).sub (ssk (ssc ssr)))) <| OD_twoS sh (i := 52) (j := 8) rfl rfl (by kernel_rfl) (fun Ib xd => ?_) (fun Ic xe => ?_))
      ·refine O_makeSlice (r := Rep.bool) (x0 := false) el68 zr4 rfl rfl hs rfl rfl rfl ay.1 ay.2 (fun xf qb w xg hs => O_nil (xd _ _ (fun _ _ => ((hs.less jx).sub (ssk (ssk (ssc ssr))))) ?_))
       have hs := hs.front 2 rfl
       have hs := hs.front 1 rfl
       have hs := hs.front 2 rfl
       refine (OD_land rfl (by kernel_rfl) (OD.weak [(1, _), (59, _), (62, _), (64, _), (68, _), (70, _), (73, _), (76, _), (80, _), (83, _), (87, _), (88, _), (91, _), (94, _), (98, _), (101, _), (105, _), (109, _), (112, _), (115, _), (118, _), (122, _), (125, _)] (by repeat first | exact Sub.nil | refine Sub.cons rfl ?_) ((ac _ _ _ _ _ _).2 (py p8 dk qa l6 (.slice (some ⟨xf, 0, none⟩) (x0.marks.length : Int).toNat (x0.marks.length : Int).toNat) qb xc _ H jx hs nn xg))))
      ·rw [ref10_Check.t18] at H
       obtain ⟨xh, qc, H⟩ := bnd H
       refine O_call rfl rfl (ref10_numbered.c hs (nx.mono (((aw.trans ag).trans af).trans jx)) qc) (fun xi w hpost => ?_)
       obtain ⟨xj, Id, qd, rfl, k2, hs, qe⟩ := hpost
       have lg := jx.trans k2
       refine O_nil (xe _ _ (fun _ _ => ((hs.less lg).sub (ssk (ssk (ssc ssr))))) <| OD_twoS sh (i := 52) (j := 9) rfl rfl (by kernel_rfl) (fun Ie xk => ?_) (fun If xl => ?_))
       ·refine O_makeSlice (r := Rep.bool) (x0 := false) el68 zr4 rfl rfl hs rfl rfl rfl ay.1 ay.2 (fun xm qf w xn hs => O_nil (xk _ _ (fun _ _ => ((hs.less lg).sub (ssk (ssk (ssk (ssc ssr)))))) ?_))
        have hs := hs.front 3 rfl
        have hs := hs.front 1 rfl
        have hs := hs.front 3 rfl
        have hs := hs.front 3 rfl
        refine (OD_land rfl (by kernel_rfl) (OD.weak [(1, _), (59, _), (62, _), (65, _), (68, _), (70, _), (73, _), (76, _), (80, _), (83, _), (87, _), (88, _), (91, _), (94, _), (98, _), (101, _), (105, _), (109, _), (112, _), (115, _), (118, _), (122, _), (125, _)] (by repeat first | exact Sub.nil | refine Sub.cons rfl ?_) ((ac _ _ _ _ _ _).2 (pw xh p8 dk xi qd qa l6 (.slice (some ⟨xm, 0, none⟩) (x0.marks.length : Int).toNat (x0.marks.length : Int).toNat) qf xj _ H lg hs qe (nn.mono k2) xn))))
       ·rw [ref10_Check.t17] at H
        obtain ⟨Ig, l7, hs, xo⟩ := hs.rowEnd (j := 1) (nn.mono k2) rfl
        have xp := lg.trans l7
        obtain ⟨xq, l8, hs, xr⟩ := hs.rowEnd (j := 0) (qe.mono l7) rfl
        have k3 := xp.trans l8
        obtain ⟨hb, qg, H⟩ := bnd H
        refine O_call rfl rfl (ref10_many.c hs (xo.mono l8) xr qg) (fun Ih w hpost => ?_)
        obtain ⟨rfl, hs⟩ := hpost
        refine O_nil (xl _ _ (fun _ _ => (hs.less k3)) <| OD_twoS sh (i := 52) (j := 12) rfl rfl (by kernel_rfl) (fun Ii xt => ?_) (fun Ij xu => ?_))
        ·refine O_makeSlice (r := Rep.bool) (x0 := false) el68 zr4 rfl rfl hs rfl rfl rfl ay.1 ay.2 (fun xv qh w xw hs => O_nil (xt _ _ (fun _ _ => ((hs.less k3).sub (ssk (ssc ssr)))) <| (OD_land rfl (by kernel_rfl) (OD.weak [(1, _), (59, _), (66, _), (68, _), (70, _), (73, _), (76, _), (80, _), (83, _), (87, _), (88, _), (91, _), (94, _), (98, _), (101, _), (105, _), (109, _), (112, _), (115, _), (118, _), (122, _), (125, _)] (by repeat first | exact Sub.nil | refine Sub.cons rfl ?_) ((ac _ _ _ _ _ _).2 (pt dk hb (.slice (some ⟨xv, 0, none⟩) (x0.marks.length : Int).toNat (x0.marks.length : Int).toNat) qh xq _ H k3 hs xw))))))
        ·rw [ref10_Check.t16] at H
         obtain ⟨xx, qi, H⟩ := bnd H
         refine O_call rfl rfl (ref10_spansOf.c hs (ny.mono (((aw.trans ag).trans af).trans k3)) qi) (fun xy w hpost => ?_)
         obtain ⟨xz, Ik, qj, rfl, qk, hs, ql⟩ := hpost
         have lh := k3.trans qk
         refine O_nil (xu _ _ (fun _ _ => ((hs.less lh).sub (ssk (ssc ssr)))) <| OD_twoS sh (i := 52) (j := 14) rfl rfl (by kernel_rfl) (fun Il ya => ?_) (fun Im yb => ?_))
         ·refine O_makeSlice (r := Rep.bool) (x0 := false) el68 zr4 rfl rfl hs rfl rfl rfl ay.1 ay.2 (fun yc qm w yd hs => O_nil (ya _ _ (fun _ _ => ((hs.less lh).sub (ssk (ssk (ssc ssr))))) ?_))
          have hs := hs.front 2 rfl
          have hs := hs.front 1 rfl
          have hs := hs.front 2 rfl
          refine (OD_land rfl (by kernel_rfl) (OD.weak [(1, _), (59, _), (66, _), (69, _), (70, _), (73, _), (76, _), (80, _), (83, _), (87, _), (88, _), (91, _), (94, _), (98, _), (101, _), (105, _), (109, _), (112, _), (115, _), (118, _), (122, _), (125, _)] (by repeat first | exact Sub.nil | refine Sub.cons rfl ?_) ((ac _ _ _ _ _ _).2 (pr xx dk hb xy qj (.slice (some ⟨yc, 0, none⟩) (x0.marks.length : Int).toNat (x0.marks.length : Int).toNat) qm xz _ H lh hs ql yd))))
         ·rw [ref10_Check.t15] at H
          obtain ⟨ye, qn, hs, yf⟩ := hs.rowEnd (j := 0) ql rfl
          have kp := lh.trans qn
          obtain ⟨hc, qo, H⟩ := bnd H
          refine O_call rfl rfl (ref10_many.c hs yf (ob.mono (af.trans kp)) qo) (fun In w hpost => ?_)
          obtain ⟨rfl, hs⟩ := hpost
          refine O_nil (yb _ _ (fun _ _ => (hs.less kp)) <| OD_twoS sh (i := 52) (j := 17) rfl rfl (by kernel_rfl) (fun Io yg => ?_) (fun Ip yh => ?_))
          ·refine O_makeSlice (r := Rep.bool) (x0 := false) el68 zr4 rfl rfl hs rfl rfl rfl ay.1 ay.2 (fun yi qp w yj hs => O_nil (yg _ _ (fun _ _ => ((hs.less kp).sub (ssk (ssc ssr)))) <| (OD_land rfl (by kernel_rfl) (OD.weak [(1, _), (59, _), (66, _), (71, _), (73, _), (76, _), (80, _), (83, _), (87, _), (88, _), (91, _), (94, _), (98, _), (101, _), (105, _), (109, _), (112, _), (115, _), (118, _), (122, _), (125, _)] (by repeat first | exact Sub.nil | refine Sub.cons rfl ?_) ((ac _ _ _ _ _ _).2 (po dk hb hc (.slice (some ⟨yi, 0, none⟩) (x0.marks.length : Int).toNat (x0.marks.length : Int).toNat) qp ye _ H kp hs yj))))))
          ·rw [ref10_Check.t14] at H
           obtain ⟨qq, qr, H⟩ := bnd H
           refine O_call rfl rfl (ref10_spans.c hs (r3.mono (((aw.trans ag).trans af).trans kp)) qr) (fun qs w hpost => ?_)
           obtain ⟨yk, Iq, l9, rfl, qt, hs, no⟩ := hpost
           have k4 := kp.trans qt
           refine O_nil (yh _ _ (fun _ _ => ((hs.less k4).sub (ssk (ssc ssr)))) <| OD_twoS sh (i := 52) (j := 20) rfl rfl (by kernel_rfl) (fun Ir yl => ?_) (fun Is ym => ?_))
           ·refine O_makeSlice (r := Rep.bool) (x0 := false) el68 zr4 rfl rfl hs rfl rfl rfl ay.1 ay.2 (fun yn qu w yo hs => O_nil (yl _ _ (fun _ _ => ((hs.less k4).sub (ssk (ssk (ssc ssr))))) ?_))
            have hs := hs.front 2 rfl
            have hs := hs.front 1 rfl
            have hs := hs.front 2 rfl
            refine (OD_land rfl (by kernel_rfl) (OD.weak [(1, _), (59, _), (66, _), (71, _), (74, _), (76, _), (80, _), (83, _), (87, _), (88, _), (91, _), (94, _), (98, _), (101, _), (105, _), (109, _), (112, _), (115, _), (118, _), (122, _), (125, _)] (by repeat first | exact Sub.nil | refine Sub.cons rfl ?_) ((ac _ _ _ _ _ _).2 (pl qq dk hb hc qs l9 (.slice (some ⟨yn, 0, none⟩) (x0.marks.length : Int).toNat (x0.marks.length : Int).toNat) qu yk _ H k4 hs no yo))))
           ·rw [ref10_Check.t13] at H
            obtain ⟨yp, qv, H⟩ := bnd H
            refine O_call rfl rfl (ref10_numbered.c hs (r3.mono (((aw.trans ag).trans af).trans k4)) qv) (fun yq w hpost => ?_)
            obtain ⟨yr, It, qw, rfl, k5, hs, qx⟩ := hpost
            have li := k4.trans k5
            refine O_nil (ym _ _ (fun _ _ => ((hs.less li).sub (ssk (ssk (ssc ssr))))) <| OD_twoS sh (i := 52) (j := 21) rfl rfl (by kernel_rfl) (fun Iu ys => ?_) (fun Iv yt => ?_))
            ·refine O_makeSlice (r := Rep.bool) (x0 := false) el68 zr4 rfl rfl hs rfl rfl rfl ay.1 ay.2 (fun yu qy w yv hs => O_nil (ys _ _ (fun _ _ => ((hs.less li).sub (ssk (ssk (ssk (ssc ssr)))))) ?_))
             have hs := hs.front 3 rfl
             have hs := hs.front 1 rfl
             have hs := hs.front 3 rfl
             have hs := hs.front 3 rfl
             refine (OD_land rfl (by kernel_rfl) (OD.weak [(1, _), (59, _), (66, _), (71, _), (74, _), (77, _), (80, _), (83, _), (87, _), (88, _), (91, _), (94, _), (98, _), (101, _), (105, _), (109, _), (112, _), (115, _), (118, _), (122, _), (125, _)] (by repeat first | exact Sub.nil | refine Sub.cons rfl ?_) ((ac _ _ _ _ _ _).2 (pj yp qq dk hb hc yq qw qs l9 (.slice (some ⟨yu, 0, none⟩) (x0.marks.length : Int).toNat (x0.marks.length : Int).toNat) qy yr _ H li hs qx (no.mono k5) yv))))
            ·rw [ref10_Check.t12] at H
             obtain ⟨Iw, ma, hs, yw⟩ := hs.rowEnd (j := 1) (no.mono k5) rfl
             have yx := li.trans ma
             obtain ⟨yy, mb, hs, yz⟩ := hs.rowEnd (j := 0) (qx.mono ma) rfl
             have k6 := yx.trans mb
             obtain ⟨hh, qz, H⟩ := bnd H
             refine O_call rfl rfl (ref10_many.c hs (yw.mono mb) yz qz) (fun Ix w hpost => ?_)
             obtain ⟨rfl, hs⟩ := hpost
             refine O_nil (yt _ _ (fun _ _ => (hs.less k6)) <| OD_twoS sh (i := 52) (j := 24) rfl rfl (by kernel_rfl) (fun Iy za => ?_) (fun Iz zb => ?_))
             ·refine O_makeSlice (r := Rep.bool) (x0 := false) el68 zr4 rfl rfl hs rfl rfl rfl ay.1 ay.2 (fun zc q0 w zd hs => O_nil (za _ _ (fun _ _ => ((hs.less k6).sub (ssk (ssc ssr)))) <| (OD_land rfl (by kernel_rfl) (OD.weak [(1, _), (59, _), (66, _), (71, _), (78, _), (80, _), (83, _), (87, _), (88, _), (91, _), (94, _), (98, _), (101, _), (105, _), (109, _), (112, _), (115, _), (118, _), (122, _), (125, _)] (by repeat first | exact Sub.nil | refine Sub.cons rfl ?_) ((ac _ _ _ _ _ _).2 (pg dk hb hc hh (.slice (some ⟨zc, 0, none⟩) (x0.marks.length : Int).toNat (x0.marks.length : Int).toNat) q0 yy _ H k6 hs zd))))))
             ·rw [ref10_Check.t11] at H
              obtain ⟨q1, q2, H⟩ := bnd H
              refine O_call rfl rfl (ref10_spansOf.c hs (r4.mono (((aw.trans ag).trans af).trans k6)) q2) (fun q3 w hpost => ?_)
              obtain ⟨ze, I0, mc, rfl, q4, hs, np⟩ := hpost
              have k7 := k6.trans q4
              refine O_nil (zb _ _ (fun _ _ => ((hs.less k7).sub (ssk (ssc ssr)))) <| OD_twoS sh (i := 52) (j := 27) rfl rfl (by kernel_rfl) (fun I1 zf => ?_) (fun I2 zg => ?_))
              ·refine O_makeSlice (r := Rep.bool) (x0 := false) el68 zr4 rfl rfl hs rfl rfl rfl ay.1 ay.2 (fun zh q5 w zi hs => O_nil (zf _ _ (fun _ _ => ((hs.less k7).sub (ssk (ssk (ssc ssr))))) ?_))
               have hs := hs.front 2 rfl
               have hs := hs.front 1 rfl
               have hs := hs.front 2 rfl
               refine (OD_land rfl (by kernel_rfl) (OD.weak [(1, _), (59, _), (66, _), (71, _), (78, _), (81, _), (83, _), (87, _), (88, _), (91, _), (94, _), (98, _), (101, _), (105, _), (109, _), (112, _), (115, _), (118, _), (122, _), (125, _)] (by repeat first | exact Sub.nil | refine Sub.cons rfl ?_) ((ac _ _ _ _ _ _).2 (pd q1 dk hb hc hh q3 mc (.slice (some ⟨zh, 0, none⟩) (x0.marks.length : Int).toNat (x0.marks.length : Int).toNat) q5 ze _ H k7 hs np zi))))
              ·rw [ref10_Check.t10] at H
               obtain ⟨zj, q6, H⟩ := bnd H
               refine O_call rfl rfl (ref10_decomposed.c hs (r4.mono (((aw.trans ag).trans af).trans k7)) q6) (fun zk w hpost => ?_)
               obtain ⟨zl, I3, q7, rfl, k8, hs, q8⟩ := hpost
               have lj := k7.trans k8
               refine O_nil (zg _ _ (fun _ _ => ((hs.less lj).sub (ssk (ssk (ssc ssr))))) <| OD_twoS sh (i := 52) (j := 28) rfl rfl (by kernel_rfl) (fun I4 zm => ?_) (fun I5 zn => ?_))
               ·refine O_makeSlice (r := Rep.bool) (x0 := false) el68 zr4 rfl rfl hs rfl rfl rfl ay.1 ay.2 (fun zo q9 w zp hs => O_nil (zm _ _ (fun _ _ => ((hs.less lj).sub (ssk (ssk (ssk (ssc ssr)))))) ?_))
                have hs := hs.front 3 rfl
                have hs := hs.front 1 rfl
                have hs := hs.front 3 rfl
                have hs := hs.front 3 rfl
                refine (OD_land rfl (by kernel_rfl) (OD.weak [(1, _), (59, _), (66, _), (71, _), (78, _), (81, _), (84, _), (87, _), (88, _), (91, _), (94, _), (98, _), (101, _), (105, _), (109, _), (112, _), (115, _), (118, _), (122, _), (125, _)] (by repeat first | exact Sub.nil | refine Sub.cons rfl ?_) ((ac _ _ _ _ _ _).2 (pb zj q1 dk hb hc hh zk q7 q3 mc (.slice (some ⟨zo, 0, none⟩) (x0.marks.length : Int).toNat (x0.marks.length : Int).toNat) q9 zl _ H lj hs q8 (np.mono k8) zp))))
               ·rw [ref10_Check.t9] at H
                obtain ⟨I6, md, hs, zq⟩ := hs.rowEnd (j := 1) (np.mono k8) rfl
                have zr := lj.trans md
                obtain ⟨ra, me, hs, zs⟩ := hs.rowEnd (j := 0) (q8.mono md) rfl
                have hk := zr.trans me
                obtain ⟨jy, rb, H⟩ := bnd H
                refine O_call rfl rfl (ref10_many.c hs (zq.mono me) zs rb) (fun I7 w hpost => ?_)
                obtain ⟨rfl, hs⟩ := hpost
                refine O_nil (zn _ _ (fun _ _ => (hs.less hk)) <| OD_twoS sh (i := 52) (j := 32) rfl rfl (by kernel_rfl) (fun I8 zt => ?_) (fun I9 zu => ?_))
                ·refine O_makeSlice (r := Rep.bool) (x0 := false) el68 zr4 rfl rfl hs rfl rfl rfl ay.1 ay.2 (fun zv rc w zw hs => O_nil (zt _ _ (fun _ _ => ((hs.less hk).sub (ssk (ssc ssr)))) <| (OD_land rfl (by kernel_rfl) (OD.weak [(1, _), (59, _), (66, _), (71, _), (78, _), (85, _), (87, _), (88, _), (91, _), (94, _), (98, _), (101, _), (105, _), (109, _), (112, _), (115, _), (118, _), (122, _), (125, _)] (by repeat first | exact Sub.nil | refine Sub.cons rfl ?_) ((ac _ _ _ _ _ _).2 (o9 dk hb hc hh jy (.slice (some ⟨zv, 0, none⟩) (x0.marks.length : Int).toNat (x0.marks.length : Int).toNat) rc ra _ H hk hs zw))))))
                ·rw [ref10_Check.t8] at H
                 obtain ⟨kb, re, H⟩ := bnd H
                 refine O_call rfl rfl (ref10_many.c hs (r5.mono (((aw.trans ag).trans af).trans hk)) (oc.mono hk) re) (fun Ja w hpost => ?_)
                 obtain ⟨rfl, hs⟩ := hpost
                 refine O_nil (zu _ _ (fun _ _ => (hs.less hk)) <| OD_twoS sh (i := 52) (j := 35) rfl rfl (by kernel_rfl) (fun Jb zx => ?_) (fun Jc zy => ?_))
                 ·refine O_makeSlice (r := Rep.bool) (x0 := false) el68 zr4 rfl rfl hs rfl rfl rfl ay.1 ay.2 (fun zz rf w z0 hs => O_nil (zx _ _ (fun _ _ => ((hs.less hk).sub (ssk (ssc ssr)))) <| (OD_land rfl (by kernel_rfl) (OD.weak [(1, _), (59, _), (66, _), (71, _), (78, _), (85, _), (89, _), (91, _), (94, _), (98, _), (101, _), (105, _), (109, _), (112, _), (115, _), (118, _), (122, _), (125, _)] (by repeat first | exact Sub.nil | refine Sub.cons rfl ?_) ((ac _ _ _ _ _ _).2 (o6 dk hb hc hh jy kb (.slice (some ⟨zz, 0, none⟩) (x0.marks.length : Int).toNat (x0.marks.length : Int).toNat) rf ra _ H hk hs z0))))))
                 ·rw [ref10_Check.t7] at H
                  obtain ⟨rg, rh, H⟩ := bnd H
                  refine O_call rfl rfl (ref10_spans.c hs (r6.mono (((aw.trans ag).trans af).trans hk)) rh) (fun ri w hpost => ?_)
                  obtain ⟨z1, Jd, mf, rfl, rj, hs, nq⟩ := hpost
                  have k9 := hk.trans rj
                  refine O_nil (zy _ _ (fun _ _ => ((hs.less k9).sub (ssk (ssc ssr)))) <| OD_twoS sh (i := 52) (j := 38) rfl rfl (by kernel_rfl) (fun Je z2 => ?_) (fun Jf z3 => ?_))
                  ·refine O_makeSlice (r := Rep.bool) (x0 := false) el68 zr4 rfl rfl hs rfl rfl rfl ay.1 ay.2 (fun z4 rk w z5 hs => O_nil (z2 _ _ (fun _ _ => ((hs.less k9).sub (ssk (ssk (ssc ssr))))) ?_))
                   have hs := hs.front 2 rfl
                   have hs := hs.front 1 rfl
                   have hs := hs.front 2 rfl
                   refine (OD_land rfl (by kernel_rfl) (OD.weak [(1, _), (59, _), (66, _), (71, _), (78, _), (85, _), (89, _), (92, _), (94, _), (98, _), (101, _), (105, _), (109, _), (112, _), (115, _), (118, _), (122, _), (125, _)] (by repeat first | exact Sub.nil | refine Sub.cons rfl ?_) ((ac _ _ _ _ _ _).2 (o3 rg dk hb hc hh jy kb ri mf (.slice (some ⟨z4, 0, none⟩) (x0.marks.length : Int).toNat (x0.marks.length : Int).toNat) rk z1 _ H k9 hs nq z5))))
                  ·rw [ref10_Check.t6] at H
                   obtain ⟨z6, rl, H⟩ := bnd H
                   refine O_call rfl rfl (ref10_numbered.c hs (r6.mono (((aw.trans ag).trans af).trans k9)) rl) (fun z7 w hpost => ?_)
                   obtain ⟨z8, Jg, rm, rfl, la, hs, rn⟩ := hpost
                   have lk := k9.trans la
                   refine O_nil (z3 _ _ (fun _ _ => ((hs.less lk).sub (ssk (ssk (ssc ssr))))) <| OD_twoS sh (i := 52) (j := 39) rfl rfl (by kernel_rfl) (fun Jh z9 => ?_) (fun Ji Aa => ?_))
                   ·refine O_makeSlice (r := Rep.bool) (x0 := false) el68 zr4 rfl rfl hs rfl rfl rfl ay.1 ay.2 (fun Ab ro w Ac hs => O_nil (z9 _ _ (fun _ _ => ((hs.less lk).sub (ssk (ssk (ssk (ssc ssr)))))) ?_))
                    have hs := hs.front 3 rfl
                    have hs := hs.front 1 rfl
                    have hs := hs.front 3 rfl
                    have hs := hs.front 3 rfl
                    refine (OD_land rfl (by kernel_rfl) (OD.weak [(1, _), (59, _), (66, _), (71, _), (78, _), (85, _), (89, _), (92, _), (95, _), (98, _), (101, _), (105, _), (109, _), (112, _), (115, _), (118, _), (122, _), (125, _)] (by repeat first | exact Sub.nil | refine Sub.cons rfl ?_) ((ac _ _ _ _ _ _).2 (o1 z6 rg dk hb hc hh jy kb z7 rm ri mf (.slice (some ⟨Ab, 0, none⟩) (x0.marks.length : Int).toNat (x0.marks.length : Int).toNat) ro z8 _ H lk hs rn (nq.mono la) Ac))))
                   ·rw [ref10_Check.t5] at H
                    obtain ⟨Jj, mg, hs, Ad⟩ := hs.rowEnd (j := 1) (nq.mono la) rfl
                    have Ae := lk.trans mg
                    obtain ⟨Af, mh, hs, Ag⟩ := hs.rowEnd (j := 0) (rn.mono mg) rfl
                    have lb := Ae.trans mh
                    obtain ⟨ll, rp, H⟩ := bnd H
                    refine O_call rfl rfl (ref10_many.c hs (Ad.mono mh) Ag rp) (fun Jk w hpost => ?_)
                    obtain ⟨rfl, hs⟩ := hpost
                    refine O_nil (Aa _ _ (fun _ _ => (hs.less lb)) <| OD_twoS sh (i := 52) (j := 42) rfl rfl (by kernel_rfl) (fun Jl Ah => ?_) (fun Jm Aj => ?_))
                    ·refine O_makeSlice (r := Rep.bool) (x0 := false) el68 zr4 rfl rfl hs rfl rfl rfl ay.1 ay.2 (fun Ak rq w Al hs => O_nil (Ah _ _ (fun _ _ => ((hs.less lb).sub (ssk (ssc ssr)))) <| (OD_land rfl (by kernel_rfl) (OD.weak [(1, _), (59, _), (66, _), (71, _), (78, _), (85, _), (89, _), (96, _), (98, _), (101, _), (105, _), (109, _), (112, _), (115, _), (118, _), (122, _), (125, _)] (by repeat first | exact Sub.nil | refine Sub.cons rfl ?_) ((ac _ _ _ _ _ _).2 (oy dk hb hc hh jy kb ll (.slice (some ⟨Ak, 0, none⟩) (x0.marks.length : Int).toNat (x0.marks.length : Int).toNat) rq Af _ H lb hs Al))))))
                    ·rw [ref10_Check.t4] at H
                     obtain ⟨rr, rs, H⟩ := bnd H
                     refine O_call rfl rfl (ref10_spans.c hs (r7.mono (((aw.trans ag).trans af).trans lb)) rs) (fun rt w hpost => ?_)
                     obtain ⟨Am, Jn, mi, rfl, ru, hs, nr⟩ := hpost
                     have lc := lb.trans ru
                     refine O_nil (Aj _ _ (fun _ _ => ((hs.less lc).sub (ssk (ssc ssr)))) <| OD_twoS sh (i := 52) (j := 45) rfl rfl (by kernel_rfl) (fun Jo An => ?_) (fun Jp Ao => ?_))
                     ·refine O_makeSlice (r := Rep.bool) (x0 := false) el68 zr4 rfl rfl hs rfl rfl rfl ay.1 ay.2 (fun Ap rv w Aq hs => O_nil (An _ _ (fun _ _ => ((hs.less lc).sub (ssk (ssk (ssc ssr))))) ?_))
                      have hs := hs.front 2 rfl
                      have hs := hs.front 1 rfl
                      have hs := hs.front 2 rfl
                      refine (OD_land rfl (by kernel_rfl) (OD.weak [(1, _), (59, _), (66, _), (71, _), (78, _), (85, _), (89, _), (96, _), (99, _), (101, _), (105, _), (109, _), (112, _), (115, _), (118, _), (122, _), (125, _)] (by repeat first | exact Sub.nil | refine Sub.cons rfl ?_) ((ac _ _ _ _ _ _).2 (ov rr dk hb hc hh jy kb ll rt mi (.slice (some ⟨Ap, 0, none⟩) (x0.marks.length : Int).toNat (x0.marks.length : Int).toNat) rv Am _ H lc hs nr Aq))))
                     ·rw [ref10_Check.t3] at H
                      obtain ⟨Ar, rx, H⟩ := bnd H
                      refine O_call rfl rfl (ref10_numbered.c hs (r7.mono (((aw.trans ag).trans af).trans lc)) rx) (fun As w hpost => ?_)
                      obtain ⟨At, Jq, ry, rfl, ld, hs, rz⟩ := hpost
                      have lm := lc.trans ld
                      refine O_nil (Ao _ _ (fun _ _ => ((hs.less lm).sub (ssk (ssk (ssc ssr))))) <| OD_twoS sh (i := 52) (j := 46) rfl rfl (by kernel_rfl) (fun Jr Au => ?_) (fun Js Av => ?_))
                      ·refine O_makeSlice (r := Rep.bool) (x0 := false) el68 zr4 rfl rfl hs rfl rfl rfl ay.1 ay.2 (fun Aw r0 w Ax hs => O_nil (Au _ _ (fun _ _ => ((hs.less lm).sub (ssk (ssk (ssk (ssc ssr)))))) ?_))
                       have hs := hs.front 3 rfl
                       have hs := hs.front 1 rfl
                       have hs := hs.front 3 rfl
                       have hs := hs.front 3 rfl
                       refine (OD_land rfl (by kernel_rfl) (OD.weak [(1, _), (59, _), (66, _), (71, _), (78, _), (85, _), (89, _), (96, _), (99, _), (102, _), (105, _), (109, _), (112, _), (115, _), (118, _), (122, _), (125, _)] (by repeat first | exact Sub.nil | refine Sub.cons rfl ?_) ((ac _ _ _ _ _ _).2 (ot Ar rr dk hb hc hh jy kb ll As ry rt mi (.slice (some ⟨Aw, 0, none⟩) (x0.marks.length : Int).toNat (x0.marks.length : Int).toNat) r0 At _ H lm hs rz (nr.mono ld) Ax))))
                      ·rw [ref10_Check.t2] at H
                       obtain ⟨Jt, mj, hs, Ay⟩ := hs.rowEnd (j := 1) (nr.mono ld) rfl
                       have Az := lm.trans mj
                       obtain ⟨A0, mk, hs, A1⟩ := hs.rowEnd (j := 0) (rz.mono mj) rfl
                       have ns := Az.trans mk
                       obtain ⟨A2, r1, H⟩ := bnd H
                       refine O_call rfl rfl (ref10_many.c hs (Ay.mono mk) A1 r1) (fun Ju w hpost => ?_)
                       obtain ⟨rfl, hs⟩ := hpost
                       refine O_nil (Av _ _ (fun _ _ => (hs.less ns)) <| D1 52 sh rfl (by kernel_rfl) (fun Jv A3 => O_makeSlice (r := Rep.bool) (x0 := false) el68 zr4 rfl rfl hs rfl rfl rfl ay.1 ay.2 (fun A4 r2 w A5 hs => O_nil (A3 _ _ (fun _ _ => ((hs.less ns).sub (ssk (ssc ssr)))) <| (OD_land rfl (by kernel_rfl) (OD.weak [(1, _), (59, _), (66, _), (71, _), (78, _), (85, _), (89, _), (96, _), (103, _), (105, _), (109, _), (112, _), (115, _), (118, _), (122, _), (125, _)] (by repeat first | exact Sub.nil | refine Sub.cons rfl ?_) ((ac _ _ _ _ _ _).2 (od dk hb hc hh jy kb ll A2 (.slice (some ⟨A4, 0, none⟩) (x0.marks.length : Int).toNat (x0.marks.length : Int).toNat) r2 A0 _ H ns hs A5))))))))

def ref10_values.l1 : Nat → List Val → List Val → Int → Option (List Val)
  | 0, _, _, _ => none
  | ae + 1, x0, ab, aa => if aa < (x0.length : Int) then (if (0 : Int) ≤ aa ∧ aa < (x0.length : Int) then (if ab.length + ([(⟨(rd x0 aa).lo, (rd x0 aa).hi, (rd x0 aa).n⟩ : Val)]).length ≤ most then ((ref10_values.l1 ae x0) (ab ++ ([(⟨(rd x0 aa).lo, (rd x0 aa).hi, (rd x0 aa).n⟩ : Val)])) (IntKind.i64.wrap (aa + 1))) else none) else none) else (some ab)
def ref10_values.f (x0 : List Val) : Option (List Val) := ref10_values.l1 K0 x0 ([] : List Val) 0
theorem ref10_values.c {w0 w : World} {ρ : Hp} {Γ : List Item} (hs : St w0 ρ (Γ) w) {v0 : Value} {x0 : List Val} (h0 : SlR rVal ρ v0 x0) {r : List Val} (H : ref10_values.f x0 = some r) : CallsR Tryz.prog 26 [v0] w (fun v w' => ∃ (ρ' : Hp) (v0 : Value) (cs0 : List Value), v = v0 ∧ Le ρ ρ' ∧ St w0 ρ' (.row v0 109 rVal.sz r.length cs0 :: Γ) w' ∧ RowR rVal ρ' cs0 r) := by
  rw [ref10_values.f] at H
  refine enter Tryz.func26 Tryz.ntmps26 rfl (by kernel_rfl) rfl <| Wr fun a5 al => Oa rfl rfl <| O_nil (al _ _ <| Wr fun a6 am => O_lit2 (xs := []) (cs := []) el30 hs rfl rfl rfl (by decide) (by decide) rfl sz_nil flat_nil (fun an w hs => ?_))
  have ao : RowR rVal ρ ([]) ([] : List Val) := RowR.nil _ _
  refine Oa rfl rfl <| O_nil (am _ _ <| W_seq fun a7 ap => Wr fun a8 aq => Om rfl rfl <| O_y rfl (Y_lenR un23 h0 rfl) <| Om rfl rfl <| O_nil (aq _ _ <| W_block fun a9 ar ba => W_loop (σ := Nat × List Val × Int × Value × List Value) (fun (ae, ab, aa, ac, ad) => [(3, ac), (7, v0), (8, .int .i64 (x0.length : Int)), (9, .int .i64 aa)]) (fun (ae, ab, aa, ac, ad) w => ref10_values.l1 ae x0 ab aa = some r ∧ St w0 ρ ((.row ac 109 rVal.sz ab.length ad) :: Γ) w ∧ RowR rVal ρ ad ab) (fun s => s.1) (K0, ([] : List Val), 0, (.slice (some ⟨an, 0, none⟩) 0 0), ([])) (S4 rfl rfl rfl rfl) (Ai H (Ai hs ao)) ?_))
  rintro ⟨ae, ab, aa, ac, ad⟩ w bb ⟨H, hs, af⟩ ag
  show W _ _ _ _ _ _ [(3, ac), (7, v0), (8, .int .i64 (x0.length : Int)), (9, .int .i64 aa)] w
  cases ae with
  | zero => rw [ref10_values.l1] at H; cases H
  | succ ae =>
  rw [ref10_values.l1] at H
  refine Wr fun bc au => O_y rfl (Y_lss rfl rfl) <| O_nil (au _ _ <| W_seq fun bd av => W_if rfl (fun ah => ?_) (fun ah => ?_))
  ·rw [if_pos ah] at H
   refine W_skip (av _ _ <| W_seq fun be aw => W_block fun bf bg bh => W_seq fun bi ax => W_region ?_)
   obtain ⟨aj, H⟩ := gd H
   obtain ⟨bj, bk, ay, az⟩ := h0.ix el23 aj.1 aj.2
   obtain ⟨_, rfl, a0⟩ := ay
   refine O_y rfl (az rfl rfl) <| O_y rfl (Y_loadN ag108 sz108 rfl rfl (fun j u hu => hs.see (a0 j u hu))) <| O_alloc zr108 hs rfl (fun bl w hs => O_storeN (i := 0) sz108 hs rfl rfl rfl rfl rfl (one_cons rfl (one_cons rfl (one_cons rfl one_nil))) (fun w hs => O_nil (ax _ _ <| W_region <| Om rfl rfl <| O_y rfl (Y_field fo108_0 rfl) <| O_y rfl (Yb 0 ag21 hs rfl rfl rfl) <| O_y rfl (Y_field fo108_1 rfl) <| O_y rfl (Yb 0 ag21 hs rfl rfl rfl) <| O_y rfl (Y_field fo108_2 rfl) <| O_y rfl (Yb 0 ag3 hs rfl rfl rfl) <| O_y rfl (Y_build (cs := [.int .i32 ((rd x0 aa).lo), .int .i32 ((rd x0 aa).hi), .int .i64 ((rd x0 aa).n)]) zr109 pl109 ((Parts.cons rfl rfl (Parts.cons rfl rfl (Parts.cons rfl rfl Parts.nil)))) ag109 (by kernel_rfl)) ?_)))
   refine O_lit2 (xs := [.tmp 20]) (cs := [.int .i32 ((rd x0 aa).lo), .int .i32 ((rd x0 aa).hi), .int .i64 ((rd x0 aa).n)]) el30 hs rfl rfl rfl (by decide) (by decide) rfl (sz_cons rfl sz_nil) (flat_cons rfl flat_nil) (fun bm w hs => ?_)
   have ak : RowR rVal ρ ([.int .i32 ((rd x0 aa).lo), .int .i32 ((rd x0 aa).hi), .int .i64 ((rd x0 aa).n)]) [(⟨(rd x0 aa).lo, (rd x0 aa).hi, (rd x0 aa).n⟩ : Val)] := RowR.cons (c := [.int .i32 ((rd x0 aa).lo), .int .i32 ((rd x0 aa).hi), .int .i64 ((rd x0 aa).n)]) (x := (⟨(rd x0 aa).lo, (rd x0 aa).hi, (rd x0 aa).n⟩ : Val)) rfl (RowR.nil _ _)
   obtain ⟨a1, H⟩ := gd H
   refine O_appendR (i := 2) el30 hs rfl af rfl rfl rfl (Src.lit (j := 0) hs rfl ak) ak a1 (fun a2 ai w a3 hs => Oa rfl rfl <| O_nil (aw _ _ <| W.weak [(3, _), (7, _), (8, _), (9, _)] (S4 rfl rfl rfl rfl) <| W_region <| O_y rfl (Y_add rfl rfl) <| Om rfl rfl <| O_nil (ag (ae, (ab ++ ([(⟨(rd x0 aa).lo, (rd x0 aa).hi, (rd x0 aa).n⟩ : Val)])), (IntKind.i64.wrap (aa + 1)), a2, ai) _ _ (S4 rfl rfl rfl rfl) (Ai H (Ai (hs.sub (ssk (ssk (ssc ssr)))) a3)) (Nat.lt_succ_self _))))
  ·rw [if_neg ah] at H
   refine W_exit (ar _ _ (ap _ _ <| Wr fun bn a4 => Om rfl rfl <| Oa rfl rfl <| O_nil (a4 _ _ <| W_ret ?_)))
   obtain rfl := sinj H
   exact ret1 rfl rfl ⟨_, _, _, rfl, Le.rfl' _, hs, af⟩

def ref10_lists.l1 : Nat → List Chs → List Chs → Int → Option (List Chs)
  | 0, _, _, _ => none
  | ae + 1, x0, ab, aa => if aa < (x0.length : Int) then (if (0 : Int) ≤ aa ∧ aa < (x0.length : Int) then (if ([] : List Int).length + ((rd x0 aa).is_).length ≤ most then (if ab.length + ([(⟨(rd x0 aa).lo, (rd x0 aa).hi, ([] : List Int) ++ ((rd x0 aa).is_)⟩ : Chs)]).length ≤ most then ((ref10_lists.l1 ae x0) (ab ++ ([(⟨(rd x0 aa).lo, (rd x0 aa).hi, ([] : List Int) ++ ((rd x0 aa).is_)⟩ : Chs)])) (IntKind.i64.wrap (aa + 1))) else none) else none) else none) else (some ab)
def ref10_lists.f (x0 : List Chs) : Option (List Chs) := ref10_lists.l1 K0 x0 ([] : List Chs) 0
theorem ref10_lists.c {w0 w : World} {ρ : Hp} {Γ : List Item} (hs : St w0 ρ (Γ) w) {v0 : Value} {x0 : List Chs} (h0 : SlR rChs ρ v0 x0) {r : List Chs} (H : ref10_lists.f x0 = some r) : CallsR Tryz.prog 27 [v0] w (fun v w' => ∃ (ρ' : Hp) (v0 : Value) (cs0 : List Value), v = v0 ∧ Le ρ ρ' ∧ St w0 ρ' (.row v0 71 rChs.sz r.length cs0 :: Γ) w' ∧ RowR rChs ρ' cs0 r) := by
  rw [ref10_lists.f] at H
  refine enter Tryz.func27 Tryz.ntmps27 rfl (by kernel_rfl) rfl <| Wr fun bt a4 => Oa rfl rfl <| O_nil (a4 _ _ <| Wr fun bu a5 => O_lit2 (xs := []) (cs := []) el31 hs rfl rfl rfl (by decide) (by decide) rfl sz_nil flat_nil (fun a6 w hs => ?_))
  have a7 : RowR rChs ρ ([]) ([] : List Chs) := RowR.nil _ _
  refine Oa rfl rfl <| O_nil (a5 _ _ <| W_seq fun bv a8 => Wr fun bw a9 => Om rfl rfl <| O_y rfl (Y_lenR un24 h0 rfl) <| Om rfl rfl <| O_nil (a9 _ _ <| W_block fun bx ba bz => W_loop (σ := Nat × List Chs × Int × Value × List Value × Hp) (fun (ae, ab, aa, ac, ad, ag) => [(3, ac), (7, v0), (8, .int .i64 (x0.length : Int)), (9, .int .i64 aa)]) (fun (ae, ab, aa, ac, ad, ag) w => ref10_lists.l1 ae x0 ab aa = some r ∧ Le ρ ag ∧ St w0 ag ((.row ac 71 rChs.sz ab.length ad) :: Γ) w ∧ RowR rChs ag ad ab) (fun s => s.1) (K0, ([] : List Chs), 0, (.slice (some ⟨a6, 0, none⟩) 0 0), ([]), ρ) (S4 rfl rfl rfl rfl) (Ai H (Ai (Le.rfl' _) (Ai hs a7))) ?_))
  rintro ⟨ae, ab, aa, ac, ad, ag⟩ w b0 ⟨H, ah, hs, af⟩ ak
  show W _ _ _ _ _ _ [(3, ac), (7, v0), (8, .int .i64 (x0.length : Int)), (9, .int .i64 aa)] w
  cases ae with
  | zero => rw [ref10_lists.l1] at H; cases H
  | succ ae =>
  rw [ref10_lists.l1] at H
  refine Wr fun b1 bb => O_y rfl (Y_lss rfl rfl) <| O_nil (bb _ _ <| W_seq fun b2 bc => W_if rfl (fun ap => ?_) (fun ap => ?_))
  ·rw [if_pos ap] at H
   refine W_skip (bc _ _ <| W_seq fun b3 bd => W_block fun b4 b5 b6 => W_seq fun b7 be => W_region ?_)
   obtain ⟨a1, H⟩ := gd H
   obtain ⟨b8, b9, bf, bg⟩ := (h0.mono ah).ix el24 a1.1 a1.2
   obtain ⟨_, ⟨bh, rfl, a2⟩, bi⟩ := bf
   refine O_y rfl (bg rfl rfl) <| O_y rfl (Y_loadN ag94 sz94 rfl rfl (fun j u hu => hs.see (bi j u hu))) <| O_alloc zr94 hs rfl (fun bj w hs => O_storeN (i := 0) sz94 hs rfl rfl rfl rfl rfl (one_cons rfl (one_cons rfl (one_cons a2.one one_nil))) (fun w hs => O_nil (be _ _ <| W_drawS 13 [0, 0, 2, 0, 8, 0, 0, 64, 160, 276, 512, 1281, 4095] [2046, 4089, 3577, 4071, 3559, 3807, 3903, 3647, 1055, 2049, 1, 0, 0] [0, 0, 2, 0, 8, 0, 0, 64, 224, 510, 1022, 2047, 4095] [11, 12] (fun w => St w0 ag ((.box bj 94 ([.int .i32 ((rd x0 aa).lo), .int .i32 ((rd x0 aa).hi), bh])) :: (.row ac 71 rChs.sz ab.length ad) :: Γ) w) mixed (by kernel_rfl) (fun sh => ?_))))
   have hs := hs.drew
   refine Dm 0 sh rfl rfl (by kernel_rfl) rfl <| Dp 1 sh rfl rfl (by kernel_rfl) (fun w => Y_field fo94_0 rfl) <| Dy 2 sh rfl rfl (by kernel_rfl) hs (fun w hs => Yb 0 ag21 hs rfl rfl rfl) <| Dp 3 sh rfl rfl (by kernel_rfl) (fun w => Y_field fo94_1 rfl) <| Dy 4 sh rfl rfl (by kernel_rfl) hs (fun w hs => Yb 0 ag21 hs rfl rfl rfl) <| Dp 6 sh rfl rfl (by kernel_rfl) (fun w => Y_field fo94_2 rfl) <| Dy 7 sh rfl rfl (by kernel_rfl) hs (fun w hs => Yb 0 ag28 hs rfl rfl rfl) <| D1 5 sh rfl (by kernel_rfl) (fun ca bk => O_lit2 (xs := []) (cs := []) el28 hs rfl rfl rfl (by decide) (by decide) rfl sz_nil flat_nil (fun cb w hs => ?_))
   have bl : RowR (Rep.int .i32) ag ([]) ([] : List Int) := RowR.nil _ _
   refine O_nil (bk _ _ (fun _ _ => (hs.sub (ssk (ssc (ssc ssr))))) ?_)
   obtain ⟨bm, aq, ar⟩ := Src.sl hs a2
   obtain ⟨bn, H⟩ := gd H
   refine D1 8 sh rfl (by kernel_rfl) (fun cc bo => O_appendR (i := 0) el28 hs rfl bl rfl rfl rfl aq ar bn (fun aj a3 w au hs => O_nil (bo _ _ (fun _ _ => (hs.sub (ssk (ssc (ssc ssr))))) ?_)))
   obtain ⟨al, ai, hs, am⟩ := hs.rowEnd (j := 0) au rfl
   refine Dp 9 sh rfl rfl (by kernel_rfl) (fun w => Y_build (cs := [.int .i32 ((rd x0 aa).lo), .int .i32 ((rd x0 aa).hi), aj]) zr71 pl71 ((Parts.cons rfl rfl (Parts.cons rfl rfl (Parts.cons rfl am.cellsL Parts.nil)))) ag71 (by kernel_rfl)) <| D1 10 sh rfl (by kernel_rfl) (fun bp av => O_lit2 (xs := [.tmp 22]) (cs := [.int .i32 ((rd x0 aa).lo), .int .i32 ((rd x0 aa).hi), aj]) el31 hs rfl rfl rfl (by decide) (by decide) rfl (sz_cons rfl sz_nil) (flat_cons rfl flat_nil) (fun bq w hs => ?_))
   have an : RowR rChs al ([.int .i32 ((rd x0 aa).lo), .int .i32 ((rd x0 aa).hi), aj]) [(⟨(rd x0 aa).lo, (rd x0 aa).hi, ([] : List Int) ++ ((rd x0 aa).is_)⟩ : Chs)] := RowR.cons (c := [.int .i32 ((rd x0 aa).lo), .int .i32 ((rd x0 aa).hi), aj]) (x := (⟨(rd x0 aa).lo, (rd x0 aa).hi, ([] : List Int) ++ ((rd x0 aa).is_)⟩ : Chs)) ⟨_, rfl, am⟩ (RowR.nil _ _)
   refine O_nil (av _ _ (fun _ _ => ((hs.less ai).sub (ssk (ssc (ssc ssr))))) ?_)
   obtain ⟨aw, H⟩ := gd H
   refine D1 11 sh rfl (by kernel_rfl) (fun br ax => O_appendR (i := 2) el31 hs rfl (af.mono ai) rfl rfl rfl (Src.lit (j := 0) hs rfl an) an aw (fun ay ao w az hs => O_nil (ax _ _ (fun _ _ => by first | contradiction | (rename_i h; cases h)) <| OD_resetS sh [] hs (by kernel_rfl) <| Dp 12 sh rfl rfl (by kernel_rfl) (fun w => Y_assign rfl) <| OD_doneS sh (by kernel_rfl) (bd _ _ <| W.weak [(3, _), (7, _), (8, _), (9, _)] (S4 rfl rfl rfl rfl) <| W_region <| O_y rfl (Y_add rfl rfl) <| Om rfl rfl <| O_nil (ak (ae, (ab ++ ([(⟨(rd x0 aa).lo, (rd x0 aa).hi, ([] : List Int) ++ ((rd x0 aa).is_)⟩ : Chs)])), (IntKind.i64.wrap (aa + 1)), ay, ao, al) _ _ (S4 rfl rfl rfl rfl) (Ai H (Ai (ah.trans ai) (Ai (hs.sub (ssk (ssk (ssc ssr)))) az))) (Nat.lt_succ_self _))))))
  ·rw [if_neg ap] at H
   refine W_exit (ba _ _ (a8 _ _ <| Wr fun bs a0 => Om rfl rfl <| Oa rfl rfl <| O_nil (a0 _ _ <| W_ret ?_)))
   obtain rfl := sinj H
   exact ret1 rfl rfl ⟨_, _, _, rfl, ah, hs, af⟩

end Go.Proofs.YtekafkokpnihfaaGreat
