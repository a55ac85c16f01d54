/- Texts of this repo, merged for the claim: TA2, TP0. -/
import Derived.Test.YthoicbafdanmkaaGreatDoorWhole1
/- Written by this repo's gen.py: for each Go function a Lean function with the same answers and the walk that shows it. -/
namespace Go.Proofs.YthoicbafdanmkaaGreatDoor
open Go.IntKind (i8 i16 i32 i64 u8 u16 u32 u64)
open Go.RowKit
set_option maxRecDepth 100000
set_option maxHeartbeats 4000000
variable {w0 w : World} {ρ : Hp} {Γ : List Q5}
set_option linter.unusedVariables false
def Ze.j1 (ml : List Bool → Int → Option (Int × Int × Int)) (ap : Int) (bn : List Bool) : Option (Int × Int × Int) := ml bn (i64.wrap (ap + 1))
def Ze.l1 : Nat → Bk → Int → Int → Int → Int → Int → Int → Int → Int → Int → Int → Int → Int → Option (Int × Int × Int)
  | 0, _, _, _, _, _, _, _, _, _, _, _, _, _ => none
  | hd + 1, x0, ah, ai, aj, ak, al, am, an, ae, dl, dm, dn, aq => if aq < (([ah, ai, aj, ak, al, am, an, ae, dl, dm, dn]).length : Int) then (if (0 : Int) ≤ aq ∧ aq < (([ah, ai, aj, ak, al, am, an, ae, dl, dm, dn]).length : Int) then (if 0 ≤ (rd ([ah, ai, aj, ak, al, am, an, ae, dl, dm, dn]) aq) then (some (i64.wrap (aq + 1), rd ([ah, ai, aj, ak, al, am, an, ae, dl, dm, dn]) aq, 100)) else ((Ze.l1 hd x0 ah ai aj ak al am an ae dl dm dn) (i64.wrap (aq + 1)))) else none) else ((Y0.f x0).bind fun mm => (if 0 ≤ mm then (some (5, mm, 100)) else (some (0, 0, 0))))
def Ze.t1 (x0 : Bk) (ah ai aj ak al am an ae : Int) : Option (Int × Int × Int) := (Yq.f x0.marks (List.replicate (x0.marks.length : Int).toNat false)).bind fun dl => ((Qg.f x0.script).bind fun nt => ((Yg.f x0.script 1 (x0.names.length : Int) false).bind fun nu => ((Yq.f nt nu).bind fun dm => ((Qp.f x0.like).bind fun nv => ((Ya.f x0.like 18).bind fun nw => ((Yq.f nv nw).bind fun dn => (Ze.l1 K0 x0 ah ai aj ak al am an ae dl dm dn 0)))))))
def Ze.t2 (x0 : Bk) (ba : List Bool) (bb : List Spn) (eo ep eq er es et eu : Int) : Option (Int × Int × Int) := (Yq.f bb ba).bind fun mn => (Ze.t1 x0 eo ep eq er es et eu mn)
def Ze.t3 (x0 : Bk) (a1 : List Spn) (ev ew ex ey ez e0 e1 : Int) : Option (Int × Int × Int) := (Yg.f x0.join 0 5 false).bind fun mo => (Ze.t2 x0 mo a1 ev ew ex ey ez e0 e1)
def Ze.t4 (x0 : Bk) (e2 e3 e4 e5 e6 e7 e8 : Int) : Option (Int × Int × Int) := (Qg.f x0.join).bind fun mp => (Ze.t3 x0 mp e2 e3 e4 e5 e6 e7 e8)
def Ze.t5 (x0 : Bk) (bc : List Bool) (bd : List Spn) (e9 fa fb fc fd fe : Int) : Option (Int × Int × Int) := (Yq.f bd bc).bind fun mq => (Ze.t4 x0 e9 fa fb fc fd fe mq)
def Ze.t6 (x0 : Bk) (a2 : List Spn) (ff fg fh fi fj fk : Int) : Option (Int × Int × Int) := (Yg.f x0.bidi 0 22 false).bind fun mr => (Ze.t5 x0 mr a2 ff fg fh fi fj fk)
def Ze.t7 (x0 : Bk) (fl fm fn fo fp fq : Int) : Option (Int × Int × Int) := (Qg.f x0.bidi).bind fun ms => (Ze.t6 x0 ms fl fm fn fo fp fq)
def Ze.t8 (x0 : Bk) (aa : List Bool) (fr fs ft fu fv : Int) : Option (Int × Int × Int) := (Yq.f x0.excl aa).bind fun mt => (Ze.t7 x0 fr fs ft fu fv mt)
def Ze.t9 (x0 : Bk) (aa be : List Bool) (bf : List Spn) (fw fx fy fz : Int) : Option (Int × Int × Int) := (Yq.f bf be).bind fun mu => (Ze.t8 x0 aa fw fx fy fz mu)
def Ze.t10 (x0 : Bk) (aa : List Bool) (a3 : List Spn) (ga gb gc ge : Int) : Option (Int × Int × Int) := (Yp.f x0.decomp).bind fun mv => (Ze.t9 x0 aa mv a3 ga gb gc ge)
def Ze.t11 (x0 : Bk) (aa : List Bool) (gf gg gh gi : Int) : Option (Int × Int × Int) := (Qp.f x0.decomp).bind fun mw => (Ze.t10 x0 aa mw gf gg gh gi)
def Ze.t12 (x0 : Bk) (aa bg : List Bool) (bh : List Spn) (gj gk gl : Int) : Option (Int × Int × Int) := (Yq.f bh bg).bind fun mx => (Ze.t11 x0 aa gj gk gl mx)
def Ze.t13 (x0 : Bk) (aa : List Bool) (a4 : List Spn) (gm gn go : Int) : Option (Int × Int × Int) := (Yg.f x0.class_ 1 254 true).bind fun my => (Ze.t12 x0 aa my a4 gm gn go)
def Ze.t14 (x0 : Bk) (aa : List Bool) (gp gq gr : Int) : Option (Int × Int × Int) := (Qg.f x0.class_).bind fun mz => (Ze.t13 x0 aa mz gp gq gr)
def Ze.t15 (x0 : Bk) (ab aa : List Bool) (bi : List Spn) (gs gt : Int) : Option (Int × Int × Int) := (Yq.f bi ab).bind fun m0 => (Ze.t14 x0 aa gs gt m0)
def Ze.t16 (x0 : Bk) (ab aa : List Bool) (gu gv : Int) : Option (Int × Int × Int) := (Qp.f x0.maps).bind fun m1 => (Ze.t15 x0 ab aa m1 gu gv)
def Ze.t17 (x0 : Bk) (ab aa bj : List Bool) (bk : List Spn) (gw : Int) : Option (Int × Int × Int) := (Yq.f bk bj).bind fun m2 => (Ze.t16 x0 ab aa gw m2)
def Ze.t18 (x0 : Bk) (ab aa : List Bool) (a5 : List Spn) (gx : Int) : Option (Int × Int × Int) := (Yg.f x0.status 1 3 false).bind fun m3 => (Ze.t17 x0 ab aa m3 a5 gx)
def Ze.t19 (x0 : Bk) (ab aa : List Bool) (gy : Int) : Option (Int × Int × Int) := (Qg.f x0.status).bind fun m4 => (Ze.t18 x0 ab aa m4 gy)
def Ze.t20 (x0 : Bk) (ab aa : List Bool) : Option (Int × Int × Int) := (Qa.f x0.names).bind fun m5 => (Ze.t19 x0 ab aa m5)
def Ze.l2 : Nat → Bk → List Bool → List Bool → Int → Option (Int × Int × Int)
  | 0, _, _, _, _ => none
  | he + 1, x0, ab, aa, a7 => if a7 < (x0.excl.length : Int) then (if (0 : Int) ≤ a7 ∧ a7 < (x0.excl.length : Int) then ((Ys.f ((rd x0.excl a7).lo) ((rd x0.excl a7).hi)).bind fun hy => (if aa.length + ([hy]).length ≤ most then ((Ze.l2 he x0 ab) (aa ++ ([hy])) (i64.wrap (a7 + 1))) else none)) else none) else (if (0 : Int) ≤ (x0.marks.length : Int) ∧ (x0.marks.length : Int) ≤ (most : Int) then (Ze.t20 x0 ab aa ) else none)
def Ze.l3 : Nat → Bk → List Bool → Int → Option (Int × Int × Int)
  | 0, _, _, _ => none
  | hj + 1, x0, ab, ap => if ap < (x0.maps.length : Int) then (if (0 : Int) ≤ ap ∧ ap < (x0.maps.length : Int) then (if (0 : Int) ≤ ap ∧ ap < (ab.length : Int) then (if (rd ab ap) = true then (Ze.j1 (Ze.l3 hj x0) ap (ab.set ap.toNat true)) else ((Q4.f (rd x0.maps ap) x0.status).bind fun m6 => (Ze.j1 (Ze.l3 hj x0) ap (ab.set ap.toNat m6)))) else none) else none) else (Ze.l2 K0 x0 ab ([] : List Bool) 0)
def Ze.f (x0 : Bk) : Option (Int × Int × Int) := (Ya.f x0.maps 18).bind fun r8 => (Ze.l3 K0 x0 r8 0)
theorem Ze.c (hs : St w0 ρ (Γ) w) {c0 : List Value} {x0 : Bk} (h0 : rBk.R ρ c0 x0) {r : Int × Int × Int} (H : Ze.f x0 = some r) : Zn Tryz.prog 26 [.agg c0.toArray] w (fun v w' => v = .tuple #[.int .i64 r.1, .int .i64 r.2.1, .int .i64 r.2.2] ∧ St w0 ρ Γ w') := by
 rw [Ze.f] at H
 refine Et Tryz.func26 Tryz.ntmps26 rfl ?_
 have Bf := h0
 obtain ⟨bq, bp, bo, bl, a8, bm, az, ax, a9, au, av, rfl, r9, nx, ny, r3, r4, r5, r6, r7, A6, A7, A8⟩ := Bf
 refine Wr fun Jw Bg => Vg (cs := [bq, bp, bo, bl, a8, bm, az, ax, a9, au, av]) hs rfl rfl (fun a0 w hs => As rfl <| As rfl <| As rfl <| Ox Bg <| Wr fun Jx Bh => Ofd Zn3 rfl <| Obx 0 Zh8 hs rfl ?_)
 obtain ⟨r8, sa, H⟩ := bnd H
 refine Oc rfl (Ya.c hs ny sa) (fun Bi w hpost => ?_)
 obtain ⟨ln, Jy, sb, rfl, aw, hs, Bj⟩ := hpost
 refine As rfl <| Ox Bh <| Zh fun Jz Bl => Wr fun J0 Bm => Ofd Zn3 rfl <| Obx 1 Zh8 hs rfl <| O_y rfl (Yv Zlo (ny.mono aw) rfl) <| Mv rfl <| Ox Bm <| Zj fun J1 Bn J2 => Y9 (σ := Nat × List Bool × Int × Value × List Value) (fun (hj, ab, ap, ao, dp) => [(1, .pointer (some ⟨a0, 0, none⟩)), (5, ao), (19, bo), (20, .int .i64 (x0.maps.length : Int)), (21, .int .i64 ap)]) (fun (hj, ab, ap, ao, dp) w => Ze.l3 hj x0 ab ap = some r ∧ St w0 ln ((.row ao 4 Rep.bool.sz ab.length dp) :: (.box a0 34 ([bq, bp, bo, bl, a8, bm, az, ax, a9, au, av])) :: Γ) w ∧ Zm Rep.bool ln dp ab) (fun s => s.1) (K0, r8, 0, Bi, sb) sbn (Ai H (Ai hs Bj)) ?_
 rintro ⟨hj, ab, ap, ao, dp⟩ w J3 ⟨H, hs, df⟩ m7
 show W _ _ _ _ _ _ [(1, .pointer (some ⟨a0, 0, none⟩)), (5, ao), (19, bo), (20, .int .i64 (x0.maps.length : Int)), (21, .int .i64 ap)] w
 cases hj with
 | zero => rw [Ze.l3] at H; cases H
 | succ hj =>
 rw [Ze.l3] at H
 refine Wr fun J4 Bo => Ols rfl <| Ox Bo <| Zh fun Bp sc => Y7 rfl (fun m8 => ?_) (fun m8 => ?_)
 rw [if_pos m8] at H
 refine Wx sc <| Yu fun sd se nz => ?_
 have n0 : ∀ (bn : List Bool) (gz : Value) (ha : List Value) (w : World), Ze.j1 (Ze.l3 hj x0) ap bn = some r → St w0 ln ((.row gz 4 Rep.bool.sz bn.length ha) :: (.box a0 34 ([bq, bp, bo, bl, a8, bm, az, ax, a9, au, av])) :: Γ) w → Zm Rep.bool ln ha bn → sd [(1, .pointer (some ⟨a0, 0, none⟩)), (5, gz), (19, bo), (20, .int .i64 (x0.maps.length : Int)), (21, .int .i64 ap)] w := by
  intro bn gz ha w H hs ko
  rw [Ze.j1] at H
  refine se _ _ <| Zc <| Oad rfl <| Mv rfl <| Zd (m7 (hj, bn, (i64.wrap (ap + 1)), gz, ha) _ _ sbn (Ai H (Ai hs ko)) (Nat.lt_succ_self _))
 refine Zj fun Bq Br Bs => Wr fun Bt sf => Mv rfl ?_
 obtain ⟨n1, H⟩ := gd H
 obtain ⟨Bu, Bv, sg, si⟩ := (ny.mono aw).ix Zh1 n1.1 n1.2
 obtain ⟨_, ⟨Bw, rfl, n2⟩, sj⟩ := sg
 refine O_y rfl (si rfl rfl) <| O_y rfl (Qv Zkw Zev rfl rfl (fun j u hu => hs.see (sj j u hu))) <| Y6 Zlz hs rfl (fun Bx w hs => As rfl <| Ye (i := 0) Zev hs rfl rfl rfl rfl rfl (Zb rfl (Zb rfl (Zb n2.one Yj))) (fun w hs => Ox sf <| Zc <| Mv rfl <| Mv rfl <| Mv rfl <| Mv rfl ?_))
 obtain ⟨dh, H⟩ := gd H
 obtain ⟨By, lp⟩ := hs.rowBlock (j := 1) rfl (by have := dh.2; omega)
 obtain ⟨_, rfl, n3⟩ := df.at dh.1 dh.2
 refine O_y rfl (Vm (j := 1) U9 hs rfl lp rfl rfl dh.1 dh.2) <| O_y rfl (Xp ag4 rfl (hs.rowCell (j := 1) rfl lp (n3 0 _ rfl))) <| Mv rfl <| U8 (dj := 32) rfl (fun m9 => ?_) (fun m9 => ?_)
 rw [if_pos m9] at H
 refine On rfl <| On rfl <| On rfl <| On rfl <| Opk rfl ?_
 obtain ⟨Bz, lq⟩ := hs.rowBlock (j := 1) rfl (by have := dh.2; omega)
 obtain ⟨_, rfl, A9⟩ := df.at dh.1 dh.2
 refine O_y rfl (Vm (j := 1) U9 hs rfl lq rfl rfl dh.1 dh.2) <| Zaq (j := 1) sz4 hs rfl lq dh.1 dh.2 df rfl rfl rfl (fun n4 w sk hs => Zd (nz _ _ _ sbn (n0 (ab.set ap.toNat true) ao n4 _ H (hs.sub (ssk (ssc (ssc ssr)))) sk)))
 rw [if_neg (bft m9)] at H
 refine Oe rfl <| O_y rfl (Xk (i := 0) Zkw Zev hs rfl rfl rfl rfl) <| Oe rfl <| Ofd Znn rfl <| Oe rfl <| Obx 2 Zhv hs rfl <| Oe rfl ?_
 obtain ⟨m6, n5, H⟩ := bnd H
 refine Oc rfl (Q4.c hs ⟨_, rfl, n2⟩ (nx.mono aw) n5) (fun B0 w hpost => ?_)
 obtain ⟨rfl, hs⟩ := hpost
 refine Opk rfl ?_
 obtain ⟨B1, lr⟩ := hs.rowBlock (j := 1) rfl (by have := dh.2; omega)
 obtain ⟨_, rfl, Ba⟩ := df.at dh.1 dh.2
 refine O_y rfl (Vm (j := 1) U9 hs rfl lr rfl rfl dh.1 dh.2) <| Zaq (j := 1) sz4 hs rfl lr dh.1 dh.2 df rfl rfl rfl (fun n6 w sl hs => Zd (nz _ _ _ sbn (n0 (ab.set ap.toNat m6) ao n6 _ H (hs.sub (ssk (ssc (ssc ssr)))) sl)))
 rw [if_neg m8] at H
 refine Y4 (Bn _ _ (Bl _ _ <| Wr fun B2 sm => Ku (xs := []) (cs := []) U9 hs rfl rfl rfl (by decide) (by decide) rfl Kb Xy (fun sn w hs => ?_)))
 have so : Zm Rep.bool ln ([]) ([] : List Bool) := Zm.nil _ _
 refine As rfl <| Ox sm <| Zh fun B3 sp => Wr fun B4 sq => Ofd Zsc rfl <| Obx 2 Zus hs rfl <| O_y rfl (Yv Zq7 (r5.mono aw) rfl) <| Mv rfl <| Ox sq <| Zj fun B5 sr B6 => Y9 (σ := Nat × List Bool × Int × Value × List Value) (fun (he, aa, a7, ad, di) => [(1, .pointer (some ⟨a0, 0, none⟩)), (5, ao), (8, ad), (42, bm), (43, .int .i64 (x0.excl.length : Int)), (44, .int .i64 a7)]) (fun (he, aa, a7, ad, di) w => Ze.l2 he x0 ab aa a7 = some r ∧ St w0 ln ((.row ad 4 Rep.bool.sz aa.length di) :: (.row ao 4 Rep.bool.sz ab.length dp) :: (.box a0 34 ([bq, bp, bo, bl, a8, bm, az, ax, a9, au, av])) :: Γ) w ∧ Zm Rep.bool ln di aa) (fun s => s.1) (K0, ([] : List Bool), 0, (.slice (some ⟨sn, 0, none⟩) 0 0), ([])) sbn (Ai H (Ai hs so)) ?_
 rintro ⟨he, aa, a7, ad, di⟩ w B7 ⟨H, hs, hg⟩ le
 show W _ _ _ _ _ _ [(1, .pointer (some ⟨a0, 0, none⟩)), (5, ao), (8, ad), (42, bm), (43, .int .i64 (x0.excl.length : Int)), (44, .int .i64 a7)] w
 cases he with
 | zero => rw [Ze.l2] at H; cases H
 | succ he =>
 rw [Ze.l2] at H
 refine Wr fun B8 ss => Ols rfl <| Ox ss <| Zh fun B9 st => Y7 rfl (fun na => ?_) (fun na => ?_)
 rw [if_pos na] at H
 refine Wx st <| Zh fun Ea su => Zj fun Eb Ec Ed => Zh fun Ee sv => Zc ?_
 obtain ⟨n7, H⟩ := gd H
 obtain ⟨Ef, Eg, sw, sx⟩ := (r5.mono aw).ix Zg6 n7.1 n7.2
 obtain ⟨_, rfl, sy⟩ := sw
 refine O_y rfl (sx rfl rfl) <| O_y rfl (Qv Zsb Zud rfl rfl (fun j u hu => hs.see (sy j u hu))) <| Y6 Zs1 hs rfl (fun Eh w hs => Ye (i := 0) Zud hs rfl rfl rfl rfl rfl (Zb rfl (Zb rfl Yj)) (fun w hs => Ox sv <| Zc <| Mv rfl <| Ofd Zkx rfl <| Obx 0 Xm hs rfl <| Ofd Zku rfl <| Obx 0 Xm hs rfl ?_))
 obtain ⟨hy, n8, H⟩ := bnd H
 refine Oc rfl (Ys.c hs n8) (fun Ei w hpost => ?_)
 obtain ⟨rfl, hs⟩ := hpost
 refine Ku (xs := [.tmp 53]) (cs := [.bool hy]) U9 hs rfl rfl rfl (by decide) (by decide) rfl (Yc rfl Kb) (Zv rfl Xy) (fun Ej w hs => ?_)
 have n9 : Zm Rep.bool ln ([.bool hy]) [hy] := Zm.cons (c := [.bool hy]) (x := hy) rfl (Zm.nil _ _)
 obtain ⟨s0, H⟩ := gd H
 refine Qt (i := 2) U9 hs rfl hg rfl rfl rfl (Src.lit (j := 0) hs rfl n9) n9 s0 (fun s1 oa w s2 hs => As rfl <| Ox su <| W.weak [(1, _), (5, _), (8, _), (42, _), (43, _), (44, _)] sbn ?_)
 refine Zc <| Oad rfl <| Mv rfl <| Zd (le (he, (aa ++ ([hy])), (i64.wrap (a7 + 1)), s1, oa) _ _ sbn (Ai H (Ai (hs.sub (ssk (ssk (ssc (ssc (ssc ssr)))))) s2)) (Nat.lt_succ_self _))
 rw [if_neg na] at H
 refine Y4 (sr _ _ (sp _ _ <| Zh fun Ek s3 => ?_))
 obtain ⟨El, ag, hs, ob⟩ := hs.rowEnd (j := 1) df rfl
 obtain ⟨ar, af, hs, oc⟩ := hs.rowEnd (j := 0) (hg.mono ag) rfl
 refine Qn 73 [0, 1, 2, 0, 8, 20, 0, 64, 160, 288, 0, 1024, 2560, 0, 12288, 0, 32768, 81920, 0, 262144, 655360, 1179648, 0, 4194304, 10485760, 0, 33554432, 83886080, 150994944, 0, 536870912, 0, 3489660928, 0, 8589934592, 21474836480, 0, 68719476736, 171798691840, 309237645312, 0, 1099511627776, 2748779069440, 0, 8796093022208, 21990232555520, 39582418599936, 0, 140737488355328, 0, 562949953421312, 1125899906842624, 2251799813685248, 4855443348258816, 0, 18014398509481984, 45035996273704960, 0, 144115188075855872, 0, 576460752303423488, 1152921504606846976, 2666130979403333632, 4683743612465315840, 0, 18446744073709551616, 46116860184273879040, 0, 147573952589676412928, 368934881474191032320, 664082786653543858176, 1189824070876586328580, 4722366482869645213695] [4722366482869645213692, 4722366482869645213688, 2361183241434822606808, 4722366482869645213671, 4722366482869645213639, 4722366482869645212864, 4722366482869645213503, 4722366482869645213247, 4722366482869645212672, 2361183241434822601728, 4722366482869645210623, 4722366482869645206527, 4722366482869645189120, 4722366482869645189119, 2361183241434822443008, 4722366482869645115391, 4722366482869644984319, 4722366482869641805824, 4722366482869644427263, 4722366482869643378687, 4722366482869641019392, 2361183241434801635328, 4722366482869632630783, 4722366482869615853567, 4722366482869209006080, 4722366482869544550399, 4722366482869410332671, 4722366482869108342784, 2361183241429990768640, 4722366482868034600959, 4722366482863739633663, 4722366482863202762751, 2361183241391872933888, 4722366482843875409919, 4722366482809515671551, 4722366481976292016128, 4722366482663486783487, 4722366482388608876543, 4722366481770133585920, 2361183235937264467968, 4722366479571110330367, 4722366475173063819263, 4722366368520435924992, 4722366456481366147071, 4722366421296994058239, 4722366342132156858368, 2361174093498079510528, 4722366060657180147711, 4722357053457925406719, 4722364794019784949759, 4722362542219971264511, 4722358038620343894015, 4722349031421089153023, 2361093169442275196928, 4722312439674116767743, 4722240382080078839807, 4708387309626287194112, 4721934137305417646079, 4717322451286990258175, 4720637100612734943231, 4718331257603521249279, 4713719571585093861375, 4703919738795935662080, 2268949521066274848768, 4667026250648516558847, 4593239274353678352383, 2803905099203851845632, 4279644625100615974911, 3689348814741910323199, 2361183241434822606848, 0, 0, 0] [0, 1, 3, 0, 8, 31, 0, 64, 255, 511, 0, 1024, 4095, 0, 16383, 0, 32768, 131071, 0, 262144, 1048575, 2097151, 0, 4194304, 16777215, 0, 33554432, 134217727, 268435455, 0, 536870912, 0, 4294967295, 0, 8589934592, 34359738367, 0, 68719476736, 274877906943, 549755813887, 0, 1099511627776, 4398046511103, 0, 8796093022208, 35184372088831, 70368744177663, 0, 140737488355328, 0, 562949953421312, 1688849860263936, 3940649673949184, 9007199254740991, 0, 18014398509481984, 72057594037927935, 0, 144115188075855872, 0, 576460752303423488, 1729382256910270464, 4611686018427387903, 9223372036854775807, 0, 18446744073709551616, 73786976294838206463, 0, 147573952589676412928, 590295810358705651711, 1180591620717411303423, 2361183241434822606847, 4722366482869645213695] [] (fun w => St w0 ar ((.box a0 34 ([bq, bp, bo, bl, a8, bm, az, ax, a9, au, av])) :: Γ) w) Vl (by kernel_rfl) (fun sh => ?_)
 have hs := hs.drew
 refine Fp 0 sh rfl (fun w => Zp Zro rfl) <| Fy 1 sh rfl hs (fun w hs => Yb 0 Zp2 hs rfl rfl rfl) <| Fp 3 sh rfl (fun w => Zp Znn rfl) <| Fy 4 sh rfl hs (fun w hs => Yb 0 Zhv hs rfl rfl rfl) <| Fp 6 sh rfl (fun w => Zp Znn rfl) <| Fy 7 sh rfl hs (fun w hs => Yb 0 Zhv hs rfl rfl rfl) <| Fp 10 sh rfl (fun w => Zp Zn3 rfl) <| Fy 11 sh rfl hs (fun w hs => Yb 0 Zh8 hs rfl rfl rfl) <| Fm 13 sh rfl <| Fp 15 sh rfl (fun w => Zp Zs0 rfl) <| Fy 16 sh rfl hs (fun w hs => Yb 0 Zhv hs rfl rfl rfl) <| Fp 18 sh rfl (fun w => Zp Zs0 rfl) <| Fy 19 sh rfl hs (fun w hs => Yb 0 Zhv hs rfl rfl rfl) <| Fp 22 sh rfl (fun w => Zp Zgg rfl) ?_
 refine Fy 23 sh rfl hs (fun w hs => Yb 0 Zh8 hs rfl rfl rfl) <| Fp 25 sh rfl (fun w => Zp Zgg rfl) <| Fy 26 sh rfl hs (fun w hs => Yb 0 Zh8 hs rfl rfl rfl) <| Fp 29 sh rfl (fun w => Zp Zsc rfl) <| Fy 30 sh rfl hs (fun w hs => Yb 0 Zus hs rfl rfl rfl) <| Fm 31 sh rfl <| Fp 33 sh rfl (fun w => Zp Zsv rfl) <| Fy 34 sh rfl hs (fun w hs => Yb 0 Zhv hs rfl rfl rfl) <| Fp 36 sh rfl (fun w => Zp Zsv rfl) <| Fy 37 sh rfl hs (fun w hs => Yb 0 Zhv hs rfl rfl rfl) <| Fp 40 sh rfl (fun w => Zp Zsu rfl) <| Fy 41 sh rfl hs (fun w hs => Yb 0 Zhv hs rfl rfl rfl) <| Fp 43 sh rfl (fun w => Zp Zsu rfl) <| Fy 44 sh rfl hs (fun w hs => Yb 0 Zhv hs rfl rfl rfl) ?_
 refine Fp 47 sh rfl (fun w => Zp Zrg rfl) <| Fy 48 sh rfl hs (fun w hs => Yb 0 Zus hs rfl rfl rfl) <| Fp 49 sh rfl (fun w => Zp Zrg rfl) <| Fy 50 sh rfl hs (fun w hs => Yb 0 Zus hs rfl rfl rfl) <| Fp 51 sh rfl (fun w => Yv Zq7 (A6.mono ((aw.trans ag).trans af)) rfl) ?_
 obtain ⟨ay, H⟩ := gd H
 refine Fp 54 sh rfl (fun w => Zp Zs2 rfl) <| Fy 55 sh rfl hs (fun w hs => Yb 0 Zhv hs rfl rfl rfl) <| Fp 57 sh rfl (fun w => Zp Zs2 rfl) <| Fy 58 sh rfl hs (fun w hs => Yb 0 Zhv hs rfl rfl rfl) <| Fp 59 sh rfl (fun w => Zp Zro rfl) <| Fy 60 sh rfl hs (fun w hs => Yb 0 Zp2 hs rfl rfl rfl) <| Fp 61 sh rfl (fun w => Yv Zga (r9.mono ((aw.trans ag).trans af)) rfl) <| Fp 64 sh rfl (fun w => Zp Zow rfl) <| Fy 65 sh rfl hs (fun w hs => Yb 0 Zh8 hs rfl rfl rfl) <| Fp 67 sh rfl (fun w => Zp Zow rfl) <| Fy 68 sh rfl hs (fun w hs => Yb 0 Zh8 hs rfl rfl rfl) <| Zsl fun dg ac => ?_
 have od : ∀ (ah ai aj ak al am an ae : Int) (dq : Value) (dr : List Value) (kc : Hp) (w : World), Ze.t1 x0 ah ai aj ak al am an ae = some r → Le ar kc → St w0 kc ((.row dq 4 Rep.bool.sz ((List.replicate (x0.marks.length : Int).toNat false).length) dr) :: (.box a0 34 ([bq, bp, bo, bl, a8, bm, az, ax, a9, au, av])) :: Γ) w → Zm Rep.bool kc dr (List.replicate (x0.marks.length : Int).toNat false) → dg [] (fun w => St w0 ar ((.box a0 34 ([bq, bp, bo, bl, a8, bm, az, ax, a9, au, av])) :: Γ) w) 9 [46, 45, 42, 39, 38, 35, 32, 28, 27, 24, 21, 20, 17, 14, 12, 9, 8, 5, 2, 52, 68, 67, 65, 64, 61, 60, 59, 58, 57, 55, 54, 51, 50, 49, 48, 47, 44, 43, 41, 40, 37, 36, 34, 33, 31, 30, 29, 26, 25, 23, 22, 19, 18, 16, 15, 13, 11, 10, 7, 6, 4, 3, 1, 0] [(1, .pointer (some ⟨a0, 0, none⟩)), (59, .int .i64 ah), (66, .int .i64 ai), (71, .int .i64 aj), (78, .int .i64 ak), (85, .int .i64 al), (89, .int .i64 am), (96, .int .i64 an), (103, .int .i64 ae), (105, a9), (109, dq), (112, au), (115, au), (118, .int .i64 (x0.names.length : Int)), (122, av), (125, av)] w := by
  intro ah ai aj ak al am an ae dq dr kc w H a6 hs ia
  rw [Ze.t1] at H
  refine (ac _ _ _ _ _ _).1 ?_
  obtain ⟨Em, hf, hs, s4⟩ := hs.rowEnd (j := 0) ia rfl
  refine F1 53 sh rfl (fun En s5 => ?_)
  obtain ⟨dl, oe, H⟩ := bnd H
  refine Oc rfl (Yq.c hs (A6.mono ((((aw.trans ag).trans af).trans a6).trans hf)) s4 oe) (fun Eo w hpost => ?_)
  obtain ⟨rfl, hs⟩ := hpost
  refine Zd (s5 _ _ (fun _ _ => (hs.less (a6.trans hf))) <| F1 56 sh rfl (fun Ep s6 => ?_))
  obtain ⟨nt, og, H⟩ := bnd H
  refine Oc rfl (Qg.c hs (A7.mono ((((aw.trans ag).trans af).trans a6).trans hf)) og) (fun Eq w hpost => ?_)
  obtain ⟨Er, Es, Bb, rfl, ib, hs, s7⟩ := hpost
  have nb := hf.trans ib
  refine Zd (s6 _ _ (fun _ _ => ((hs.less (a6.trans nb)).sub (ssk (ssc ssr)))) <| F1 62 sh rfl (fun Et s8 => ?_))
  obtain ⟨nu, oh, H⟩ := bnd H
  refine Oc rfl (Yg.c hs (A7.mono ((((aw.trans ag).trans af).trans a6).trans nb)) oh) (fun Eu w hpost => ?_)
  obtain ⟨Ev, Ew, Bc, rfl, hl, hs, s9⟩ := hpost
  have oi := nb.trans hl
  refine Zd (s8 _ _ (fun _ _ => ((hs.less (a6.trans oi)).sub (ssk (ssk (ssc ssr))))) ?_)
  obtain ⟨Ex, hm, hs, ta⟩ := hs.rowEnd (j := 1) (s7.mono hl) rfl
  have tb := oi.trans hm
  obtain ⟨Ey, hn, hs, tc⟩ := hs.rowEnd (j := 0) (s9.mono hm) rfl
  have nc := tb.trans hn
  refine F1 63 sh rfl (fun Ez td => ?_)
  obtain ⟨dm, oj, H⟩ := bnd H
  refine Oc rfl (Yq.c hs (ta.mono hn) tc oj) (fun E0 w hpost => ?_)
  obtain ⟨rfl, hs⟩ := hpost
  refine Zd (td _ _ (fun _ _ => (hs.less (a6.trans nc))) <| F1 66 sh rfl (fun E1 te => ?_))
  obtain ⟨nv, ok, H⟩ := bnd H
  refine Oc rfl (Qp.c hs (A8.mono ((((aw.trans ag).trans af).trans a6).trans nc)) ok) (fun E2 w hpost => ?_)
  obtain ⟨E3, E4, Bd, rfl, ic, hs, tf⟩ := hpost
  have nd := nc.trans ic
  refine Zd (te _ _ (fun _ _ => ((hs.less (a6.trans nd)).sub (ssk (ssc ssr)))) <| F1 69 sh rfl (fun E5 tg => ?_))
  obtain ⟨nw, ol, H⟩ := bnd H
  refine Oc rfl (Ya.c hs (A8.mono ((((aw.trans ag).trans af).trans a6).trans nd)) ol) (fun E6 w hpost => ?_)
  obtain ⟨E7, E8, Be, rfl, ho, hs, th⟩ := hpost
  have om := nd.trans ho
  refine Zd (tg _ _ (fun _ _ => ((hs.less (a6.trans om)).sub (ssk (ssk (ssc ssr))))) ?_)
  obtain ⟨E9, hp, hs, ti⟩ := hs.rowEnd (j := 1) (tf.mono ho) rfl
  have tj := om.trans hp
  obtain ⟨on, hq, hs, tk⟩ := hs.rowEnd (j := 0) (th.mono hp) rfl
  have oo := tj.trans hq
  refine F1 70 sh rfl (fun Fa tl => ?_)
  obtain ⟨dn, op, H⟩ := bnd H
  refine Oc rfl (Yq.c hs (ti.mono hq) tk op) (fun Fb w hpost => ?_)
  obtain ⟨rfl, hs⟩ := hpost
  refine Zd (tl _ _ (fun _ _ => (hs.less (a6.trans oo))) <| F1 71 sh rfl (fun Fc tm => Ku (xs := [.tmp 59, .tmp 66, .tmp 71, .tmp 78, .tmp 85, .tmp 89, .tmp 96, .tmp 103, .tmp 110, .tmp 120, .tmp 127]) (cs := [.int .i64 ah, .int .i64 ai, .int .i64 aj, .int .i64 ak, .int .i64 al, .int .i64 am, .int .i64 an, .int .i64 ae, .int .i64 dl, .int .i64 dm, .int .i64 dn]) Zsk hs rfl rfl rfl (by decide) (by decide) rfl (Yc rfl (Yc rfl (Yc rfl (Yc rfl (Yc rfl (Yc rfl (Yc rfl (Yc rfl (Yc rfl (Yc rfl (Yc rfl Kb))))))))))) (Zv rfl (Zv rfl (Zv rfl (Zv rfl (Zv rfl (Zv rfl (Zv rfl (Zv rfl (Zv rfl (Zv rfl (Zv rfl Xy))))))))))) (fun ne w hs => ?_)))
  have tn : Zm (Rep.int .i64) on ([.int .i64 ah, .int .i64 ai, .int .i64 aj, .int .i64 ak, .int .i64 al, .int .i64 am, .int .i64 an, .int .i64 ae, .int .i64 dl, .int .i64 dm, .int .i64 dn]) [ah, ai, aj, ak, al, am, an, ae, dl, dm, dn] := Zm.cons (c := [.int .i64 ah]) (x := ah) rfl (Zm.cons (c := [.int .i64 ai]) (x := ai) rfl (Zm.cons (c := [.int .i64 aj]) (x := aj) rfl (Zm.cons (c := [.int .i64 ak]) (x := ak) rfl (Zm.cons (c := [.int .i64 al]) (x := al) rfl (Zm.cons (c := [.int .i64 am]) (x := am) rfl (Zm.cons (c := [.int .i64 an]) (x := an) rfl (Zm.cons (c := [.int .i64 ae]) (x := ae) rfl (Zm.cons (c := [.int .i64 dl]) (x := dl) rfl (Zm.cons (c := [.int .i64 dm]) (x := dm) rfl (Zm.cons (c := [.int .i64 dn]) (x := dn) rfl (Zm.nil _ _)))))))))))
  refine Zd (tm _ _ (fun _ _ => ((hs.less (a6.trans oo)).sub (ssk (ssc ssr)))) <| Fp 72 sh rfl (fun w => Xv rfl) <| FE sh (s3 _ _ <| W.weak [(1, _), (11, _)] (T2 rfl) <| Zh fun Fd tp => Wr fun Fe tq => Mv rfl <| O_y rfl (V8 (i := 0) Zqa hs rfl rfl) <| Mv rfl <| Ox tq <| Zj fun Ff tr Fg => Y9 (σ := Nat × Int) (fun (hd, aq) => [(1, .pointer (some ⟨a0, 0, none⟩)), (129, .slice (some ⟨ne, 0, none⟩) 11 11), (130, .int .i64 (([ah, ai, aj, ak, al, am, an, ae, dl, dm, dn]).length : Int)), (131, .int .i64 aq)]) (fun (hd, aq) w => Ze.l1 hd x0 ah ai aj ak al am an ae dl dm dn aq = some r ∧ St w0 on ((.row (.slice (some ⟨ne, 0, none⟩) 11 11) 3 ((Rep.int .i64).sz) (([ah, ai, aj, ak, al, am, an, ae, dl, dm, dn]).length) ([.int .i64 ah, .int .i64 ai, .int .i64 aj, .int .i64 ak, .int .i64 al, .int .i64 am, .int .i64 an, .int .i64 ae, .int .i64 dl, .int .i64 dm, .int .i64 dn])) :: (.box a0 34 ([bq, bp, bo, bl, a8, bm, az, ax, a9, au, av])) :: Γ) w) (fun s => s.1) (K0, 0) (T4 rfl) (Ai H hs) ?_))
  rintro ⟨hd, aq⟩ w Fh ⟨H, hs⟩ lf
  show W _ _ _ _ _ _ [(1, .pointer (some ⟨a0, 0, none⟩)), (129, .slice (some ⟨ne, 0, none⟩) 11 11), (130, .int .i64 (([ah, ai, aj, ak, al, am, an, ae, dl, dm, dn]).length : Int)), (131, .int .i64 aq)] w
  cases hd with
  | zero => rw [Ze.l1] at H; cases H
  | succ hd =>
  rw [Ze.l1] at H
  refine Wr fun Fi ts => Ols rfl <| Ox ts <| Zh fun Fj tt => Y7 rfl (fun nf => ?_) (fun nf => ?_)
  rw [if_pos nf] at H
  refine Wx tt <| Zh fun Fk tu => Zj fun Fl Fm Fn => Wr fun Fo tv => Mv rfl ?_
  obtain ⟨kq, H⟩ := gd H
  obtain ⟨Fp, ls⟩ := hs.rowBlock (j := 0) rfl (by have := kq.2; omega)
  obtain ⟨_, rfl, oq⟩ := tn.at kq.1 kq.2
  refine O_y rfl (Vm (j := 0) Zsk hs rfl ls rfl rfl kq.1 kq.2) <| O_y rfl (Xp ag3 rfl (hs.rowCell (j := 0) rfl ls (oq 0 _ rfl))) <| As rfl <| As rfl <| Ox tv <| Wr fun Fq tw => Mv rfl <| Oge rfl <| Ox tw <| Y7 rfl (fun ng => ?_) (fun ng => ?_)
  rw [if_pos ng] at H
  refine Wr fun Fr tx => Mv rfl <| Oad rfl <| Mv rfl <| As rfl <| As rfl <| As rfl <| Ox tx <| W.weak [(2, _), (3, _), (4, _)] (T3 rfl) <| Zk ?_
  obtain rfl := Zz H
  exact Zcu rfl rfl rfl rfl ⟨rfl, ((hs.sub (ssk (ssk ssr))).less ((((((((((((aw.trans ag).trans af).trans a6).trans hf).trans ib).trans hl).trans hm).trans hn).trans ic).trans ho).trans hp).trans hq))⟩
  rw [if_neg ng] at H
  refine Wx tu <| Zc <| Oad rfl <| Mv rfl <| Zd (lf (hd, (i64.wrap (aq + 1))) _ _ (T4 rfl) (Ai H hs) (Nat.lt_succ_self _))
  rw [if_neg nf] at H
  refine Y4 (tr _ _ (tp _ _ <| Zh fun Fs ty => Wr fun Ft tz => O_y rfl (Xk (i := 1) Zim Zey hs rfl rfl rfl rfl) ?_))
  obtain ⟨mm, os, H⟩ := bnd H
  refine Oc rfl (Y0.c hs (rBk.mono ((((((((((((aw.trans ag).trans af).trans a6).trans hf).trans ib).trans hl).trans hm).trans hn).trans ic).trans ho).trans hp).trans hq) h0) os) (fun Fu w hpost => ?_)
  obtain ⟨rfl, hs⟩ := hpost
  refine As rfl <| Ox tz <| Wr fun Fv t0 => Mv rfl <| Oge rfl <| Ox t0 <| Y7 rfl (fun nh => ?_) (fun nh => ?_)
  rw [if_pos nh] at H
  refine Wr fun Fw ua => Mv rfl <| As rfl <| As rfl <| As rfl <| Ox ua <| Zk ?_
  obtain rfl := Zz H
  exact Zcu rfl rfl rfl rfl ⟨rfl, ((hs.sub (ssk (ssk ssr))).less ((((((((((((aw.trans ag).trans af).trans a6).trans hf).trans ib).trans hl).trans hm).trans hn).trans ic).trans ho).trans hp).trans hq))⟩
  rw [if_neg nh] at H
  refine Wx ty <| Wr fun Fx ub => As rfl <| As rfl <| As rfl <| Ox ub <| Zk ?_
  obtain rfl := Zz H
  exact Zcu rfl rfl rfl rfl ⟨rfl, ((hs.sub (ssk (ssk ssr))).less ((((((((((((aw.trans ag).trans af).trans a6).trans hf).trans ib).trans hl).trans hm).trans hn).trans ic).trans ho).trans hp).trans hq))⟩
 have ot : ∀ (ba : List Bool) (bb : List Spn) (eo ep eq er es et eu : Int) (ds : Value) (dt : List Value) (du : Value) (dv : List Value) (br : Value) (bs : List Value) (hr : Hp) (w : World), Ze.t2 x0 ba bb eo ep eq er es et eu = some r → Le ar hr → St w0 hr ((.row ds 4 Rep.bool.sz ba.length dt) :: (.row du 90 Kd.sz bb.length dv) :: (.row br 4 Rep.bool.sz ((List.replicate (x0.marks.length : Int).toNat false).length) bs) :: (.box a0 34 ([bq, bp, bo, bl, a8, bm, az, ax, a9, au, av])) :: Γ) w → Zm Rep.bool hr dt ba → Zm Kd hr dv bb → Zm Rep.bool hr bs (List.replicate (x0.marks.length : Int).toNat false) → dg [] (fun w => St w0 ar ((.box a0 34 ([bq, bp, bo, bl, a8, bm, az, ax, a9, au, av])) :: Γ) w) 10 [45, 42, 39, 38, 35, 32, 28, 27, 24, 21, 20, 17, 14, 12, 9, 8, 5, 2, 52, 68, 67, 65, 64, 61, 60, 59, 58, 57, 55, 54, 51, 50, 49, 48, 47, 44, 43, 41, 40, 37, 36, 34, 33, 31, 30, 29, 26, 25, 23, 22, 19, 18, 16, 15, 13, 11, 10, 7, 6, 4, 3, 1, 0] [(1, .pointer (some ⟨a0, 0, none⟩)), (59, .int .i64 eo), (66, .int .i64 ep), (71, .int .i64 eq), (78, .int .i64 er), (85, .int .i64 es), (89, .int .i64 et), (96, .int .i64 eu), (99, du), (102, ds), (105, a9), (109, br), (112, au), (115, au), (118, .int .i64 (x0.names.length : Int)), (122, av), (125, av)] w := by
  intro ba bb eo ep eq er es et eu ds dt du dv br bs hr w H kr hs id ie ig
  rw [Ze.t2] at H
  refine (ac _ _ _ _ _ _).1 ?_
  obtain ⟨Fy, lt, hs, uc⟩ := hs.rowEnd (j := 1) ie rfl
  obtain ⟨ud, lu, hs, ue⟩ := hs.rowEnd (j := 0) (id.mono lt) rfl
  have ni := lt.trans lu
  refine F1 46 sh rfl (fun Fz uf => ?_)
  obtain ⟨mn, ou, H⟩ := bnd H
  refine Oc rfl (Yq.c hs (uc.mono lu) ue ou) (fun F0 w hpost => ?_)
  obtain ⟨rfl, hs⟩ := hpost
  refine Zd (uf _ _ (fun _ _ => ((hs.less (kr.trans ni)).sub (ssk (ssc ssr)))) <| (Xr rfl (by kernel_rfl) (OD.weak [(1, _), (59, _), (66, _), (71, _), (78, _), (85, _), (89, _), (96, _), (103, _), (105, _), (109, _), (112, _), (115, _), (118, _), (122, _), (125, _)] sbn ((ac _ _ _ _ _ _).2 (od eo ep eq er es et eu mn br bs ud _ H (kr.trans ni) hs (ig.mono ni))))))
 have ov : ∀ (a1 : List Spn) (ev ew ex ey ez e0 e1 : Int) (bt : Value) (bu : List Value) (bv : Value) (bw : List Value) (ih : Hp) (w : World), Ze.t3 x0 a1 ev ew ex ey ez e0 e1 = some r → Le ar ih → St w0 ih ((.row bt 90 Kd.sz a1.length bu) :: (.row bv 4 Rep.bool.sz ((List.replicate (x0.marks.length : Int).toNat false).length) bw) :: (.box a0 34 ([bq, bp, bo, bl, a8, bm, az, ax, a9, au, av])) :: Γ) w → Zm Kd ih bu a1 → Zm Rep.bool ih bw (List.replicate (x0.marks.length : Int).toNat false) → dg [] (fun w => St w0 ar ((.box a0 34 ([bq, bp, bo, bl, a8, bm, az, ax, a9, au, av])) :: Γ) w) 11 [42, 39, 38, 35, 32, 28, 27, 24, 21, 20, 17, 14, 12, 9, 8, 5, 2, 52, 68, 67, 65, 64, 61, 60, 59, 58, 57, 55, 54, 51, 50, 49, 48, 47, 44, 43, 41, 40, 37, 36, 34, 33, 31, 30, 29, 26, 25, 23, 22, 19, 18, 16, 15, 13, 11, 10, 7, 6, 4, 3, 1, 0] [(1, .pointer (some ⟨a0, 0, none⟩)), (59, .int .i64 ev), (66, .int .i64 ew), (71, .int .i64 ex), (78, .int .i64 ey), (85, .int .i64 ez), (89, .int .i64 e0), (96, .int .i64 e1), (99, bt), (101, ax), (105, a9), (109, bv), (112, au), (115, au), (118, .int .i64 (x0.names.length : Int)), (122, av), (125, av)] w := by
  intro a1 ev ew ex ey ez e0 e1 bt bu bv bw ih w H jz hs ii ij
  rw [Ze.t3] at H
  refine (ac _ _ _ _ _ _).1 <| F1 45 sh rfl (fun F1 ug => ?_)
  obtain ⟨mo, ow, H⟩ := bnd H
  refine Oc rfl (Yg.c hs (r7.mono (((aw.trans ag).trans af).trans jz)) ow) (fun uh w hpost => ?_)
  obtain ⟨ui, F2, ox, rfl, kd, hs, uj⟩ := hpost
  refine Zd (ug _ _ (fun _ _ => ((hs.less (jz.trans kd)).sub (ssk (ssk (ssk (ssc ssr)))))) <| (Xr rfl (by kernel_rfl) (OD.weak [(1, _), (59, _), (66, _), (71, _), (78, _), (85, _), (89, _), (96, _), (99, _), (102, _), (105, _), (109, _), (112, _), (115, _), (118, _), (122, _), (125, _)] sbn ((ac _ _ _ _ _ _).2 (ot mo a1 ev ew ex ey ez e0 e1 uh ox bt bu bv bw ui _ H (jz.trans kd) hs uj (ii.mono kd) (ij.mono kd))))))
 have oy : ∀ (e2 e3 e4 e5 e6 e7 e8 : Int) (bx : Value) (bz : List Value) (ke : Hp) (w : World), Ze.t4 x0 e2 e3 e4 e5 e6 e7 e8 = some r → Le ar ke → St w0 ke ((.row bx 4 Rep.bool.sz ((List.replicate (x0.marks.length : Int).toNat false).length) bz) :: (.box a0 34 ([bq, bp, bo, bl, a8, bm, az, ax, a9, au, av])) :: Γ) w → Zm Rep.bool ke bz (List.replicate (x0.marks.length : Int).toNat false) → dg [] (fun w => St w0 ar ((.box a0 34 ([bq, bp, bo, bl, a8, bm, az, ax, a9, au, av])) :: Γ) w) 12 [39, 38, 35, 32, 28, 27, 24, 21, 20, 17, 14, 12, 9, 8, 5, 2, 52, 68, 67, 65, 64, 61, 60, 59, 58, 57, 55, 54, 51, 50, 49, 48, 47, 44, 43, 41, 40, 37, 36, 34, 33, 31, 30, 29, 26, 25, 23, 22, 19, 18, 16, 15, 13, 11, 10, 7, 6, 4, 3, 1, 0] [(1, .pointer (some ⟨a0, 0, none⟩)), (59, .int .i64 e2), (66, .int .i64 e3), (71, .int .i64 e4), (78, .int .i64 e5), (85, .int .i64 e6), (89, .int .i64 e7), (96, .int .i64 e8), (98, ax), (101, ax), (105, a9), (109, bx), (112, au), (115, au), (118, .int .i64 (x0.names.length : Int)), (122, av), (125, av)] w := by
  intro e2 e3 e4 e5 e6 e7 e8 bx bz ke w H j0 hs ik
  rw [Ze.t4] at H
  refine (ac _ _ _ _ _ _).1 <| F1 42 sh rfl (fun F3 uk => ?_)
  obtain ⟨mp, oz, H⟩ := bnd H
  refine Oc rfl (Qg.c hs (r7.mono (((aw.trans ag).trans af).trans j0)) oz) (fun ul w hpost => ?_)
  obtain ⟨um, F4, o0, rfl, ks, hs, un⟩ := hpost
  refine Zd (uk _ _ (fun _ _ => ((hs.less (j0.trans ks)).sub (ssk (ssk (ssc ssr))))) <| (Xr rfl (by kernel_rfl) (OD.weak [(1, _), (59, _), (66, _), (71, _), (78, _), (85, _), (89, _), (96, _), (99, _), (101, _), (105, _), (109, _), (112, _), (115, _), (118, _), (122, _), (125, _)] sbn ((ac _ _ _ _ _ _).2 (ov mp e2 e3 e4 e5 e6 e7 e8 ul o0 bx bz um _ H (j0.trans ks) hs un (ik.mono ks))))))
 have o1 : ∀ (bc : List Bool) (bd : List Spn) (e9 fa fb fc fd fe : Int) (dw : Value) (dx : List Value) (dy : Value) (dz : List Value) (b0 : Value) (b1 : List Value) (ht : Hp) (w : World), Ze.t5 x0 bc bd e9 fa fb fc fd fe = some r → Le ar ht → St w0 ht ((.row dw 4 Rep.bool.sz bc.length dx) :: (.row dy 90 Kd.sz bd.length dz) :: (.row b0 4 Rep.bool.sz ((List.replicate (x0.marks.length : Int).toNat false).length) b1) :: (.box a0 34 ([bq, bp, bo, bl, a8, bm, az, ax, a9, au, av])) :: Γ) w → Zm Rep.bool ht dx bc → Zm Kd ht dz bd → Zm Rep.bool ht b1 (List.replicate (x0.marks.length : Int).toNat false) → dg [] (fun w => St w0 ar ((.box a0 34 ([bq, bp, bo, bl, a8, bm, az, ax, a9, au, av])) :: Γ) w) 13 [38, 35, 32, 28, 27, 24, 21, 20, 17, 14, 12, 9, 8, 5, 2, 52, 68, 67, 65, 64, 61, 60, 59, 58, 57, 55, 54, 51, 50, 49, 48, 47, 44, 43, 41, 40, 37, 36, 34, 33, 31, 30, 29, 26, 25, 23, 22, 19, 18, 16, 15, 13, 11, 10, 7, 6, 4, 3, 1, 0] [(1, .pointer (some ⟨a0, 0, none⟩)), (59, .int .i64 e9), (66, .int .i64 fa), (71, .int .i64 fb), (78, .int .i64 fc), (85, .int .i64 fd), (89, .int .i64 fe), (92, dy), (95, dw), (98, ax), (101, ax), (105, a9), (109, b0), (112, au), (115, au), (118, .int .i64 (x0.names.length : Int)), (122, av), (125, av)] w := by
  intro bc bd e9 fa fb fc fd fe dw dx dy dz b0 b1 ht w H kt hs il im io
  rw [Ze.t5] at H
  refine (ac _ _ _ _ _ _).1 ?_
  obtain ⟨F5, lv, hs, uo⟩ := hs.rowEnd (j := 1) im rfl
  obtain ⟨up, lw, hs, uq⟩ := hs.rowEnd (j := 0) (il.mono lv) rfl
  have nj := lv.trans lw
  refine F1 39 sh rfl (fun F6 ur => ?_)
  obtain ⟨mq, o2, H⟩ := bnd H
  refine Oc rfl (Yq.c hs (uo.mono lw) uq o2) (fun F7 w hpost => ?_)
  obtain ⟨rfl, hs⟩ := hpost
  refine Zd (ur _ _ (fun _ _ => ((hs.less (kt.trans nj)).sub (ssk (ssc ssr)))) <| (Xr rfl (by kernel_rfl) (OD.weak [(1, _), (59, _), (66, _), (71, _), (78, _), (85, _), (89, _), (96, _), (98, _), (101, _), (105, _), (109, _), (112, _), (115, _), (118, _), (122, _), (125, _)] sbn ((ac _ _ _ _ _ _).2 (oy e9 fa fb fc fd fe mq b0 b1 up _ H (kt.trans nj) hs (io.mono nj))))))
 have o3 : ∀ (a2 : List Spn) (ff fg fh fi fj fk : Int) (b2 : Value) (b3 : List Value) (b4 : Value) (b5 : List Value) (ip : Hp) (w : World), Ze.t6 x0 a2 ff fg fh fi fj fk = some r → Le ar ip → St w0 ip ((.row b2 90 Kd.sz a2.length b3) :: (.row b4 4 Rep.bool.sz ((List.replicate (x0.marks.length : Int).toNat false).length) b5) :: (.box a0 34 ([bq, bp, bo, bl, a8, bm, az, ax, a9, au, av])) :: Γ) w → Zm Kd ip b3 a2 → Zm Rep.bool ip b5 (List.replicate (x0.marks.length : Int).toNat false) → dg [] (fun w => St w0 ar ((.box a0 34 ([bq, bp, bo, bl, a8, bm, az, ax, a9, au, av])) :: Γ) w) 14 [35, 32, 28, 27, 24, 21, 20, 17, 14, 12, 9, 8, 5, 2, 52, 68, 67, 65, 64, 61, 60, 59, 58, 57, 55, 54, 51, 50, 49, 48, 47, 44, 43, 41, 40, 37, 36, 34, 33, 31, 30, 29, 26, 25, 23, 22, 19, 18, 16, 15, 13, 11, 10, 7, 6, 4, 3, 1, 0] [(1, .pointer (some ⟨a0, 0, none⟩)), (59, .int .i64 ff), (66, .int .i64 fg), (71, .int .i64 fh), (78, .int .i64 fi), (85, .int .i64 fj), (89, .int .i64 fk), (92, b2), (94, az), (98, ax), (101, ax), (105, a9), (109, b4), (112, au), (115, au), (118, .int .i64 (x0.names.length : Int)), (122, av), (125, av)] w := by
  intro a2 ff fg fh fi fj fk b2 b3 b4 b5 ip w H j2 hs iq ir
  rw [Ze.t6] at H
  refine (ac _ _ _ _ _ _).1 <| F1 38 sh rfl (fun F8 us => ?_)
  obtain ⟨mr, o4, H⟩ := bnd H
  refine Oc rfl (Yg.c hs (r6.mono (((aw.trans ag).trans af).trans j2)) o4) (fun ut w hpost => ?_)
  obtain ⟨uu, F9, o5, rfl, kf, hs, uv⟩ := hpost
  refine Zd (us _ _ (fun _ _ => ((hs.less (j2.trans kf)).sub (ssk (ssk (ssk (ssc ssr)))))) <| (Xr rfl (by kernel_rfl) (OD.weak [(1, _), (59, _), (66, _), (71, _), (78, _), (85, _), (89, _), (92, _), (95, _), (98, _), (101, _), (105, _), (109, _), (112, _), (115, _), (118, _), (122, _), (125, _)] sbn ((ac _ _ _ _ _ _).2 (o1 mr a2 ff fg fh fi fj fk ut o5 b2 b3 b4 b5 uu _ H (j2.trans kf) hs uv (iq.mono kf) (ir.mono kf))))))
 have o6 : ∀ (fl fm fn fo fp fq : Int) (b6 : Value) (b7 : List Value) (kg : Hp) (w : World), Ze.t7 x0 fl fm fn fo fp fq = some r → Le ar kg → St w0 kg ((.row b6 4 Rep.bool.sz ((List.replicate (x0.marks.length : Int).toNat false).length) b7) :: (.box a0 34 ([bq, bp, bo, bl, a8, bm, az, ax, a9, au, av])) :: Γ) w → Zm Rep.bool kg b7 (List.replicate (x0.marks.length : Int).toNat false) → dg [] (fun w => St w0 ar ((.box a0 34 ([bq, bp, bo, bl, a8, bm, az, ax, a9, au, av])) :: Γ) w) 15 [32, 28, 27, 24, 21, 20, 17, 14, 12, 9, 8, 5, 2, 52, 68, 67, 65, 64, 61, 60, 59, 58, 57, 55, 54, 51, 50, 49, 48, 47, 44, 43, 41, 40, 37, 36, 34, 33, 31, 30, 29, 26, 25, 23, 22, 19, 18, 16, 15, 13, 11, 10, 7, 6, 4, 3, 1, 0] [(1, .pointer (some ⟨a0, 0, none⟩)), (59, .int .i64 fl), (66, .int .i64 fm), (71, .int .i64 fn), (78, .int .i64 fo), (85, .int .i64 fp), (89, .int .i64 fq), (91, az), (94, az), (98, ax), (101, ax), (105, a9), (109, b6), (112, au), (115, au), (118, .int .i64 (x0.names.length : Int)), (122, av), (125, av)] w := by
  intro fl fm fn fo fp fq b6 b7 kg w H j3 hs it
  rw [Ze.t7] at H
  refine (ac _ _ _ _ _ _).1 <| F1 35 sh rfl (fun Ga uw => ?_)
  obtain ⟨ms, o7, H⟩ := bnd H
  refine Oc rfl (Qg.c hs (r6.mono (((aw.trans ag).trans af).trans j3)) o7) (fun ux w hpost => ?_)
  obtain ⟨uy, Gb, o8, rfl, ku, hs, uz⟩ := hpost
  refine Zd (uw _ _ (fun _ _ => ((hs.less (j3.trans ku)).sub (ssk (ssk (ssc ssr))))) <| (Xr rfl (by kernel_rfl) (OD.weak [(1, _), (59, _), (66, _), (71, _), (78, _), (85, _), (89, _), (92, _), (94, _), (98, _), (101, _), (105, _), (109, _), (112, _), (115, _), (118, _), (122, _), (125, _)] sbn ((ac _ _ _ _ _ _).2 (o3 ms fl fm fn fo fp fq ux o8 b6 b7 uy _ H (j3.trans ku) hs uz (it.mono ku))))))
 have o9 : ∀ (fr fs ft fu fv : Int) (b8 : Value) (b9 : List Value) (iu : Hp) (w : World), Ze.t8 x0 aa fr fs ft fu fv = some r → Le ar iu → St w0 iu ((.row b8 4 Rep.bool.sz ((List.replicate (x0.marks.length : Int).toNat false).length) b9) :: (.box a0 34 ([bq, bp, bo, bl, a8, bm, az, ax, a9, au, av])) :: Γ) w → Zm Rep.bool iu b9 (List.replicate (x0.marks.length : Int).toNat false) → dg [] (fun w => St w0 ar ((.box a0 34 ([bq, bp, bo, bl, a8, bm, az, ax, a9, au, av])) :: Γ) w) 16 [28, 27, 24, 21, 20, 17, 14, 12, 9, 8, 5, 2, 52, 68, 67, 65, 64, 61, 60, 59, 58, 57, 55, 54, 51, 50, 49, 48, 47, 44, 43, 41, 40, 37, 36, 34, 33, 31, 30, 29, 26, 25, 23, 22, 19, 18, 16, 15, 13, 11, 10, 7, 6, 4, 3, 1, 0] [(1, .pointer (some ⟨a0, 0, none⟩)), (59, .int .i64 fr), (66, .int .i64 fs), (71, .int .i64 ft), (78, .int .i64 fu), (85, .int .i64 fv), (87, bm), (88, ad), (91, az), (94, az), (98, ax), (101, ax), (105, a9), (109, b8), (112, au), (115, au), (118, .int .i64 (x0.names.length : Int)), (122, av), (125, av)] w := by
  intro fr fs ft fu fv b8 b9 iu w H hz hs iv
  rw [Ze.t8] at H
  refine (ac _ _ _ _ _ _).1 <| F1 32 sh rfl (fun Gc va => ?_)
  obtain ⟨mt, pa, H⟩ := bnd H
  refine Oc rfl (Yq.c hs (r5.mono (((aw.trans ag).trans af).trans hz)) (oc.mono hz) pa) (fun Gd w hpost => ?_)
  obtain ⟨rfl, hs⟩ := hpost
  refine Zd (va _ _ (fun _ _ => ((hs.less hz).sub (ssk (ssc ssr)))) <| (Xr rfl (by kernel_rfl) (OD.weak [(1, _), (59, _), (66, _), (71, _), (78, _), (85, _), (89, _), (91, _), (94, _), (98, _), (101, _), (105, _), (109, _), (112, _), (115, _), (118, _), (122, _), (125, _)] sbn ((ac _ _ _ _ _ _).2 (o6 fr fs ft fu fv mt b8 b9 iu _ H hz hs iv)))))
 have pb : ∀ (be : List Bool) (bf : List Spn) (fw fx fy fz : Int) (ea : Value) (eb : List Value) (ec : Value) (ed : List Value) (ca : Value) (cb : List Value) (hv : Hp) (w : World), Ze.t9 x0 aa be bf fw fx fy fz = some r → Le ar hv → St w0 hv ((.row ea 4 Rep.bool.sz be.length eb) :: (.row ec 90 Kd.sz bf.length ed) :: (.row ca 4 Rep.bool.sz ((List.replicate (x0.marks.length : Int).toNat false).length) cb) :: (.box a0 34 ([bq, bp, bo, bl, a8, bm, az, ax, a9, au, av])) :: Γ) w → Zm Rep.bool hv eb be → Zm Kd hv ed bf → Zm Rep.bool hv cb (List.replicate (x0.marks.length : Int).toNat false) → dg [] (fun w => St w0 ar ((.box a0 34 ([bq, bp, bo, bl, a8, bm, az, ax, a9, au, av])) :: Γ) w) 17 [27, 24, 21, 20, 17, 14, 12, 9, 8, 5, 2, 52, 68, 67, 65, 64, 61, 60, 59, 58, 57, 55, 54, 51, 50, 49, 48, 47, 44, 43, 41, 40, 37, 36, 34, 33, 31, 30, 29, 26, 25, 23, 22, 19, 18, 16, 15, 13, 11, 10, 7, 6, 4, 3, 1, 0] [(1, .pointer (some ⟨a0, 0, none⟩)), (59, .int .i64 fw), (66, .int .i64 fx), (71, .int .i64 fy), (78, .int .i64 fz), (81, ec), (84, ea), (87, bm), (88, ad), (91, az), (94, az), (98, ax), (101, ax), (105, a9), (109, ca), (112, au), (115, au), (118, .int .i64 (x0.names.length : Int)), (122, av), (125, av)] w := by
  intro be bf fw fx fy fz ea eb ec ed ca cb hv w H kv hs iw iy iz
  rw [Ze.t9] at H
  refine (ac _ _ _ _ _ _).1 ?_
  obtain ⟨Ge, lx, hs, vb⟩ := hs.rowEnd (j := 1) iy rfl
  obtain ⟨vc, ly, hs, vd⟩ := hs.rowEnd (j := 0) (iw.mono lx) rfl
  have nk := lx.trans ly
  refine F1 28 sh rfl (fun Gf ve => ?_)
  obtain ⟨mu, pc, H⟩ := bnd H
  refine Oc rfl (Yq.c hs (vb.mono ly) vd pc) (fun Gg w hpost => ?_)
  obtain ⟨rfl, hs⟩ := hpost
  refine Zd (ve _ _ (fun _ _ => ((hs.less (kv.trans nk)).sub (ssk (ssc ssr)))) <| (Xr rfl (by kernel_rfl) (OD.weak [(1, _), (59, _), (66, _), (71, _), (78, _), (85, _), (87, _), (88, _), (91, _), (94, _), (98, _), (101, _), (105, _), (109, _), (112, _), (115, _), (118, _), (122, _), (125, _)] sbn ((ac _ _ _ _ _ _).2 (o9 fw fx fy fz mu ca cb vc _ H (kv.trans nk) hs (iz.mono nk))))))
 have pd : ∀ (a3 : List Spn) (ga gb gc ge : Int) (cc : Value) (cd : List Value) (ce : Value) (cf : List Value) (ja : Hp) (w : World), Ze.t10 x0 aa a3 ga gb gc ge = some r → Le ar ja → St w0 ja ((.row cc 90 Kd.sz a3.length cd) :: (.row ce 4 Rep.bool.sz ((List.replicate (x0.marks.length : Int).toNat false).length) cf) :: (.box a0 34 ([bq, bp, bo, bl, a8, bm, az, ax, a9, au, av])) :: Γ) w → Zm Kd ja cd a3 → Zm Rep.bool ja cf (List.replicate (x0.marks.length : Int).toNat false) → dg [] (fun w => St w0 ar ((.box a0 34 ([bq, bp, bo, bl, a8, bm, az, ax, a9, au, av])) :: Γ) w) 18 [24, 21, 20, 17, 14, 12, 9, 8, 5, 2, 52, 68, 67, 65, 64, 61, 60, 59, 58, 57, 55, 54, 51, 50, 49, 48, 47, 44, 43, 41, 40, 37, 36, 34, 33, 31, 30, 29, 26, 25, 23, 22, 19, 18, 16, 15, 13, 11, 10, 7, 6, 4, 3, 1, 0] [(1, .pointer (some ⟨a0, 0, none⟩)), (59, .int .i64 ga), (66, .int .i64 gb), (71, .int .i64 gc), (78, .int .i64 ge), (81, cc), (83, a8), (87, bm), (88, ad), (91, az), (94, az), (98, ax), (101, ax), (105, a9), (109, ce), (112, au), (115, au), (118, .int .i64 (x0.names.length : Int)), (122, av), (125, av)] w := by
  intro a3 ga gb gc ge cc cd ce cf ja w H j4 hs jb jc
  rw [Ze.t10] at H
  refine (ac _ _ _ _ _ _).1 <| F1 27 sh rfl (fun Gh vf => ?_)
  obtain ⟨mv, pe, H⟩ := bnd H
  refine Oc rfl (Yp.c hs (r4.mono (((aw.trans ag).trans af).trans j4)) pe) (fun vg w hpost => ?_)
  obtain ⟨vh, Gi, pf, rfl, kh, hs, vi⟩ := hpost
  refine Zd (vf _ _ (fun _ _ => ((hs.less (j4.trans kh)).sub (ssk (ssk (ssk (ssc ssr)))))) <| (Xr rfl (by kernel_rfl) (OD.weak [(1, _), (59, _), (66, _), (71, _), (78, _), (81, _), (84, _), (87, _), (88, _), (91, _), (94, _), (98, _), (101, _), (105, _), (109, _), (112, _), (115, _), (118, _), (122, _), (125, _)] sbn ((ac _ _ _ _ _ _).2 (pb mv a3 ga gb gc ge vg pf cc cd ce cf vh _ H (j4.trans kh) hs vi (jb.mono kh) (jc.mono kh))))))
 have pg : ∀ (gf gg gh gi : Int) (cg : Value) (ch : List Value) (ki : Hp) (w : World), Ze.t11 x0 aa gf gg gh gi = some r → Le ar ki → St w0 ki ((.row cg 4 Rep.bool.sz ((List.replicate (x0.marks.length : Int).toNat false).length) ch) :: (.box a0 34 ([bq, bp, bo, bl, a8, bm, az, ax, a9, au, av])) :: Γ) w → Zm Rep.bool ki ch (List.replicate (x0.marks.length : Int).toNat false) → dg [] (fun w => St w0 ar ((.box a0 34 ([bq, bp, bo, bl, a8, bm, az, ax, a9, au, av])) :: Γ) w) 19 [21, 20, 17, 14, 12, 9, 8, 5, 2, 52, 68, 67, 65, 64, 61, 60, 59, 58, 57, 55, 54, 51, 50, 49, 48, 47, 44, 43, 41, 40, 37, 36, 34, 33, 31, 30, 29, 26, 25, 23, 22, 19, 18, 16, 15, 13, 11, 10, 7, 6, 4, 3, 1, 0] [(1, .pointer (some ⟨a0, 0, none⟩)), (59, .int .i64 gf), (66, .int .i64 gg), (71, .int .i64 gh), (78, .int .i64 gi), (80, a8), (83, a8), (87, bm), (88, ad), (91, az), (94, az), (98, ax), (101, ax), (105, a9), (109, cg), (112, au), (115, au), (118, .int .i64 (x0.names.length : Int)), (122, av), (125, av)] w := by
  intro gf gg gh gi cg ch ki w H j5 hs jd
  rw [Ze.t11] at H
  refine (ac _ _ _ _ _ _).1 <| F1 24 sh rfl (fun Gj vj => ?_)
  obtain ⟨mw, ph, H⟩ := bnd H
  refine Oc rfl (Qp.c hs (r4.mono (((aw.trans ag).trans af).trans j5)) ph) (fun vk w hpost => ?_)
  obtain ⟨vl, Gk, pi, rfl, kw, hs, vm⟩ := hpost
  refine Zd (vj _ _ (fun _ _ => ((hs.less (j5.trans kw)).sub (ssk (ssk (ssc ssr))))) <| (Xr rfl (by kernel_rfl) (OD.weak [(1, _), (59, _), (66, _), (71, _), (78, _), (81, _), (83, _), (87, _), (88, _), (91, _), (94, _), (98, _), (101, _), (105, _), (109, _), (112, _), (115, _), (118, _), (122, _), (125, _)] sbn ((ac _ _ _ _ _ _).2 (pd mw gf gg gh gi vk pi cg ch vl _ H (j5.trans kw) hs vm (jd.mono kw))))))
 have pj : ∀ (bg : List Bool) (bh : List Spn) (gj gk gl : Int) (ee : Value) (ef : List Value) (eg : Value) (eh : List Value) (ci : Value) (cj : List Value) (hw : Hp) (w : World), Ze.t12 x0 aa bg bh gj gk gl = some r → Le ar hw → St w0 hw ((.row ee 4 Rep.bool.sz bg.length ef) :: (.row eg 90 Kd.sz bh.length eh) :: (.row ci 4 Rep.bool.sz ((List.replicate (x0.marks.length : Int).toNat false).length) cj) :: (.box a0 34 ([bq, bp, bo, bl, a8, bm, az, ax, a9, au, av])) :: Γ) w → Zm Rep.bool hw ef bg → Zm Kd hw eh bh → Zm Rep.bool hw cj (List.replicate (x0.marks.length : Int).toNat false) → dg [] (fun w => St w0 ar ((.box a0 34 ([bq, bp, bo, bl, a8, bm, az, ax, a9, au, av])) :: Γ) w) 20 [20, 17, 14, 12, 9, 8, 5, 2, 52, 68, 67, 65, 64, 61, 60, 59, 58, 57, 55, 54, 51, 50, 49, 48, 47, 44, 43, 41, 40, 37, 36, 34, 33, 31, 30, 29, 26, 25, 23, 22, 19, 18, 16, 15, 13, 11, 10, 7, 6, 4, 3, 1, 0] [(1, .pointer (some ⟨a0, 0, none⟩)), (59, .int .i64 gj), (66, .int .i64 gk), (71, .int .i64 gl), (74, eg), (77, ee), (80, a8), (83, a8), (87, bm), (88, ad), (91, az), (94, az), (98, ax), (101, ax), (105, a9), (109, ci), (112, au), (115, au), (118, .int .i64 (x0.names.length : Int)), (122, av), (125, av)] w := by
  intro bg bh gj gk gl ee ef eg eh ci cj hw w H kx hs je jf jg
  rw [Ze.t12] at H
  refine (ac _ _ _ _ _ _).1 ?_
  obtain ⟨Gl, lz, hs, vn⟩ := hs.rowEnd (j := 1) jf rfl
  obtain ⟨vo, l0, hs, vp⟩ := hs.rowEnd (j := 0) (je.mono lz) rfl
  have nl := lz.trans l0
  refine F1 21 sh rfl (fun Gm vq => ?_)
  obtain ⟨mx, pk, H⟩ := bnd H
  refine Oc rfl (Yq.c hs (vn.mono l0) vp pk) (fun Gn w hpost => ?_)
  obtain ⟨rfl, hs⟩ := hpost
  refine Zd (vq _ _ (fun _ _ => ((hs.less (kx.trans nl)).sub (ssk (ssc ssr)))) <| (Xr rfl (by kernel_rfl) (OD.weak [(1, _), (59, _), (66, _), (71, _), (78, _), (80, _), (83, _), (87, _), (88, _), (91, _), (94, _), (98, _), (101, _), (105, _), (109, _), (112, _), (115, _), (118, _), (122, _), (125, _)] sbn ((ac _ _ _ _ _ _).2 (pg gj gk gl mx ci cj vo _ H (kx.trans nl) hs (jg.mono nl))))))
 have pl : ∀ (a4 : List Spn) (gm gn go : Int) (ck : Value) (cl : List Value) (cm : Value) (cn : List Value) (jh : Hp) (w : World), Ze.t13 x0 aa a4 gm gn go = some r → Le ar jh → St w0 jh ((.row ck 90 Kd.sz a4.length cl) :: (.row cm 4 Rep.bool.sz ((List.replicate (x0.marks.length : Int).toNat false).length) cn) :: (.box a0 34 ([bq, bp, bo, bl, a8, bm, az, ax, a9, au, av])) :: Γ) w → Zm Kd jh cl a4 → Zm Rep.bool jh cn (List.replicate (x0.marks.length : Int).toNat false) → dg [] (fun w => St w0 ar ((.box a0 34 ([bq, bp, bo, bl, a8, bm, az, ax, a9, au, av])) :: Γ) w) 21 [17, 14, 12, 9, 8, 5, 2, 52, 68, 67, 65, 64, 61, 60, 59, 58, 57, 55, 54, 51, 50, 49, 48, 47, 44, 43, 41, 40, 37, 36, 34, 33, 31, 30, 29, 26, 25, 23, 22, 19, 18, 16, 15, 13, 11, 10, 7, 6, 4, 3, 1, 0] [(1, .pointer (some ⟨a0, 0, none⟩)), (59, .int .i64 gm), (66, .int .i64 gn), (71, .int .i64 go), (74, ck), (76, bl), (80, a8), (83, a8), (87, bm), (88, ad), (91, az), (94, az), (98, ax), (101, ax), (105, a9), (109, cm), (112, au), (115, au), (118, .int .i64 (x0.names.length : Int)), (122, av), (125, av)] w := by
  intro a4 gm gn go ck cl cm cn jh w H j6 hs ji jj
  rw [Ze.t13] at H
  refine (ac _ _ _ _ _ _).1 <| F1 20 sh rfl (fun Go vr => ?_)
  obtain ⟨my, pm, H⟩ := bnd H
  refine Oc rfl (Yg.c hs (r3.mono (((aw.trans ag).trans af).trans j6)) pm) (fun vs w hpost => ?_)
  obtain ⟨vt, Gp, pn, rfl, kj, hs, vu⟩ := hpost
  refine Zd (vr _ _ (fun _ _ => ((hs.less (j6.trans kj)).sub (ssk (ssk (ssk (ssc ssr)))))) <| (Xr rfl (by kernel_rfl) (OD.weak [(1, _), (59, _), (66, _), (71, _), (74, _), (77, _), (80, _), (83, _), (87, _), (88, _), (91, _), (94, _), (98, _), (101, _), (105, _), (109, _), (112, _), (115, _), (118, _), (122, _), (125, _)] sbn ((ac _ _ _ _ _ _).2 (pj my a4 gm gn go vs pn ck cl cm cn vt _ H (j6.trans kj) hs vu (ji.mono kj) (jj.mono kj))))))
 have po : ∀ (gp gq gr : Int) (co : Value) (cp : List Value) (kk : Hp) (w : World), Ze.t14 x0 aa gp gq gr = some r → Le ar kk → St w0 kk ((.row co 4 Rep.bool.sz ((List.replicate (x0.marks.length : Int).toNat false).length) cp) :: (.box a0 34 ([bq, bp, bo, bl, a8, bm, az, ax, a9, au, av])) :: Γ) w → Zm Rep.bool kk cp (List.replicate (x0.marks.length : Int).toNat false) → dg [] (fun w => St w0 ar ((.box a0 34 ([bq, bp, bo, bl, a8, bm, az, ax, a9, au, av])) :: Γ) w) 22 [14, 12, 9, 8, 5, 2, 52, 68, 67, 65, 64, 61, 60, 59, 58, 57, 55, 54, 51, 50, 49, 48, 47, 44, 43, 41, 40, 37, 36, 34, 33, 31, 30, 29, 26, 25, 23, 22, 19, 18, 16, 15, 13, 11, 10, 7, 6, 4, 3, 1, 0] [(1, .pointer (some ⟨a0, 0, none⟩)), (59, .int .i64 gp), (66, .int .i64 gq), (71, .int .i64 gr), (73, bl), (76, bl), (80, a8), (83, a8), (87, bm), (88, ad), (91, az), (94, az), (98, ax), (101, ax), (105, a9), (109, co), (112, au), (115, au), (118, .int .i64 (x0.names.length : Int)), (122, av), (125, av)] w := by
  intro gp gq gr co cp kk w H j7 hs jk
  rw [Ze.t14] at H
  refine (ac _ _ _ _ _ _).1 <| F1 17 sh rfl (fun Gq vv => ?_)
  obtain ⟨mz, pp, H⟩ := bnd H
  refine Oc rfl (Qg.c hs (r3.mono (((aw.trans ag).trans af).trans j7)) pp) (fun vw w hpost => ?_)
  obtain ⟨vx, Gr, pq, rfl, ky, hs, vy⟩ := hpost
  refine Zd (vv _ _ (fun _ _ => ((hs.less (j7.trans ky)).sub (ssk (ssk (ssc ssr))))) <| (Xr rfl (by kernel_rfl) (OD.weak [(1, _), (59, _), (66, _), (71, _), (74, _), (76, _), (80, _), (83, _), (87, _), (88, _), (91, _), (94, _), (98, _), (101, _), (105, _), (109, _), (112, _), (115, _), (118, _), (122, _), (125, _)] sbn ((ac _ _ _ _ _ _).2 (pl mz gp gq gr vw pq co cp vx _ H (j7.trans ky) hs vy (jk.mono ky))))))
 have pr : ∀ (bi : List Spn) (gs gt : Int) (ei : Value) (ej : List Value) (cq : Value) (cr : List Value) (jl : Hp) (w : World), Ze.t15 x0 ab aa bi gs gt = some r → Le ar jl → St w0 jl ((.row ei 90 Kd.sz bi.length ej) :: (.row cq 4 Rep.bool.sz ((List.replicate (x0.marks.length : Int).toNat false).length) cr) :: (.box a0 34 ([bq, bp, bo, bl, a8, bm, az, ax, a9, au, av])) :: Γ) w → Zm Kd jl ej bi → Zm Rep.bool jl cr (List.replicate (x0.marks.length : Int).toNat false) → dg [] (fun w => St w0 ar ((.box a0 34 ([bq, bp, bo, bl, a8, bm, az, ax, a9, au, av])) :: Γ) w) 23 [12, 9, 8, 5, 2, 52, 68, 67, 65, 64, 61, 60, 59, 58, 57, 55, 54, 51, 50, 49, 48, 47, 44, 43, 41, 40, 37, 36, 34, 33, 31, 30, 29, 26, 25, 23, 22, 19, 18, 16, 15, 13, 11, 10, 7, 6, 4, 3, 1, 0] [(1, .pointer (some ⟨a0, 0, none⟩)), (59, .int .i64 gs), (66, .int .i64 gt), (69, ei), (70, ao), (73, bl), (76, bl), (80, a8), (83, a8), (87, bm), (88, ad), (91, az), (94, az), (98, ax), (101, ax), (105, a9), (109, cq), (112, au), (115, au), (118, .int .i64 (x0.names.length : Int)), (122, av), (125, av)] w := by
  intro bi gs gt ei ej cq cr jl w H j8 hs jm jn
  rw [Ze.t15] at H
  refine (ac _ _ _ _ _ _).1 ?_
  obtain ⟨vz, kl, hs, wa⟩ := hs.rowEnd (j := 0) jm rfl
  refine F1 14 sh rfl (fun Gs wb => ?_)
  obtain ⟨m0, ps, H⟩ := bnd H
  refine Oc rfl (Yq.c hs wa (ob.mono ((af.trans j8).trans kl)) ps) (fun Gt w hpost => ?_)
  obtain ⟨rfl, hs⟩ := hpost
  refine Zd (wb _ _ (fun _ _ => ((hs.less (j8.trans kl)).sub (ssk (ssc ssr)))) <| (Xr rfl (by kernel_rfl) (OD.weak [(1, _), (59, _), (66, _), (71, _), (73, _), (76, _), (80, _), (83, _), (87, _), (88, _), (91, _), (94, _), (98, _), (101, _), (105, _), (109, _), (112, _), (115, _), (118, _), (122, _), (125, _)] sbn ((ac _ _ _ _ _ _).2 (po gs gt m0 cq cr vz _ H (j8.trans kl) hs (jn.mono kl))))))
 have pt : ∀ (gu gv : Int) (ct : Value) (cu : List Value) (km : Hp) (w : World), Ze.t16 x0 ab aa gu gv = some r → Le ar km → St w0 km ((.row ct 4 Rep.bool.sz ((List.replicate (x0.marks.length : Int).toNat false).length) cu) :: (.box a0 34 ([bq, bp, bo, bl, a8, bm, az, ax, a9, au, av])) :: Γ) w → Zm Rep.bool km cu (List.replicate (x0.marks.length : Int).toNat false) → dg [] (fun w => St w0 ar ((.box a0 34 ([bq, bp, bo, bl, a8, bm, az, ax, a9, au, av])) :: Γ) w) 24 [9, 8, 5, 2, 52, 68, 67, 65, 64, 61, 60, 59, 58, 57, 55, 54, 51, 50, 49, 48, 47, 44, 43, 41, 40, 37, 36, 34, 33, 31, 30, 29, 26, 25, 23, 22, 19, 18, 16, 15, 13, 11, 10, 7, 6, 4, 3, 1, 0] [(1, .pointer (some ⟨a0, 0, none⟩)), (59, .int .i64 gu), (66, .int .i64 gv), (68, bo), (70, ao), (73, bl), (76, bl), (80, a8), (83, a8), (87, bm), (88, ad), (91, az), (94, az), (98, ax), (101, ax), (105, a9), (109, ct), (112, au), (115, au), (118, .int .i64 (x0.names.length : Int)), (122, av), (125, av)] w := by
  intro gu gv ct cu km w H j9 hs jo
  rw [Ze.t16] at H
  refine (ac _ _ _ _ _ _).1 <| F1 12 sh rfl (fun Gu wc => ?_)
  obtain ⟨m1, pu, H⟩ := bnd H
  refine Oc rfl (Qp.c hs (ny.mono (((aw.trans ag).trans af).trans j9)) pu) (fun wd w hpost => ?_)
  obtain ⟨we, Gv, pv, rfl, kz, hs, wf⟩ := hpost
  refine Zd (wc _ _ (fun _ _ => ((hs.less (j9.trans kz)).sub (ssk (ssk (ssc ssr))))) <| (Xr rfl (by kernel_rfl) (OD.weak [(1, _), (59, _), (66, _), (69, _), (70, _), (73, _), (76, _), (80, _), (83, _), (87, _), (88, _), (91, _), (94, _), (98, _), (101, _), (105, _), (109, _), (112, _), (115, _), (118, _), (122, _), (125, _)] sbn ((ac _ _ _ _ _ _).2 (pr m1 gu gv wd pv ct cu we _ H (j9.trans kz) hs wf (jo.mono kz))))))
 have pw : ∀ (bj : List Bool) (bk : List Spn) (gw : Int) (ek : Value) (el : List Value) (em : Value) (en : List Value) (cv : Value) (cw : List Value) (hx : Hp) (w : World), Ze.t17 x0 ab aa bj bk gw = some r → Le ar hx → St w0 hx ((.row ek 4 Rep.bool.sz bj.length el) :: (.row em 90 Kd.sz bk.length en) :: (.row cv 4 Rep.bool.sz ((List.replicate (x0.marks.length : Int).toNat false).length) cw) :: (.box a0 34 ([bq, bp, bo, bl, a8, bm, az, ax, a9, au, av])) :: Γ) w → Zm Rep.bool hx el bj → Zm Kd hx en bk → Zm Rep.bool hx cw (List.replicate (x0.marks.length : Int).toNat false) → dg [] (fun w => St w0 ar ((.box a0 34 ([bq, bp, bo, bl, a8, bm, az, ax, a9, au, av])) :: Γ) w) 25 [8, 5, 2, 52, 68, 67, 65, 64, 61, 60, 59, 58, 57, 55, 54, 51, 50, 49, 48, 47, 44, 43, 41, 40, 37, 36, 34, 33, 31, 30, 29, 26, 25, 23, 22, 19, 18, 16, 15, 13, 11, 10, 7, 6, 4, 3, 1, 0] [(1, .pointer (some ⟨a0, 0, none⟩)), (59, .int .i64 gw), (62, em), (65, ek), (68, bo), (70, ao), (73, bl), (76, bl), (80, a8), (83, a8), (87, bm), (88, ad), (91, az), (94, az), (98, ax), (101, ax), (105, a9), (109, cv), (112, au), (115, au), (118, .int .i64 (x0.names.length : Int)), (122, av), (125, av)] w := by
  intro bj bk gw ek el em en cv cw hx w H k0 hs jp jq jr
  rw [Ze.t17] at H
  refine (ac _ _ _ _ _ _).1 ?_
  obtain ⟨Gw, l4, hs, wg⟩ := hs.rowEnd (j := 1) jq rfl
  obtain ⟨wh, l5, hs, wi⟩ := hs.rowEnd (j := 0) (jp.mono l4) rfl
  have nm := l4.trans l5
  refine F1 9 sh rfl (fun Gx wj => ?_)
  obtain ⟨m2, px, H⟩ := bnd H
  refine Oc rfl (Yq.c hs (wg.mono l5) wi px) (fun Gy w hpost => ?_)
  obtain ⟨rfl, hs⟩ := hpost
  refine Zd (wj _ _ (fun _ _ => ((hs.less (k0.trans nm)).sub (ssk (ssc ssr)))) <| (Xr rfl (by kernel_rfl) (OD.weak [(1, _), (59, _), (66, _), (68, _), (70, _), (73, _), (76, _), (80, _), (83, _), (87, _), (88, _), (91, _), (94, _), (98, _), (101, _), (105, _), (109, _), (112, _), (115, _), (118, _), (122, _), (125, _)] sbn ((ac _ _ _ _ _ _).2 (pt gw m2 cv cw wh _ H (k0.trans nm) hs (jr.mono nm))))))
 have py : ∀ (a5 : List Spn) (gx : Int) (cx : Value) (cy : List Value) (cz : Value) (da : List Value) (js : Hp) (w : World), Ze.t18 x0 ab aa a5 gx = some r → Le ar js → St w0 js ((.row cx 90 Kd.sz a5.length cy) :: (.row cz 4 Rep.bool.sz ((List.replicate (x0.marks.length : Int).toNat false).length) da) :: (.box a0 34 ([bq, bp, bo, bl, a8, bm, az, ax, a9, au, av])) :: Γ) w → Zm Kd js cy a5 → Zm Rep.bool js da (List.replicate (x0.marks.length : Int).toNat false) → dg [] (fun w => St w0 ar ((.box a0 34 ([bq, bp, bo, bl, a8, bm, az, ax, a9, au, av])) :: Γ) w) 26 [5, 2, 52, 68, 67, 65, 64, 61, 60, 59, 58, 57, 55, 54, 51, 50, 49, 48, 47, 44, 43, 41, 40, 37, 36, 34, 33, 31, 30, 29, 26, 25, 23, 22, 19, 18, 16, 15, 13, 11, 10, 7, 6, 4, 3, 1, 0] [(1, .pointer (some ⟨a0, 0, none⟩)), (59, .int .i64 gx), (62, cx), (64, bp), (68, bo), (70, ao), (73, bl), (76, bl), (80, a8), (83, a8), (87, bm), (88, ad), (91, az), (94, az), (98, ax), (101, ax), (105, a9), (109, cz), (112, au), (115, au), (118, .int .i64 (x0.names.length : Int)), (122, av), (125, av)] w := by
  intro a5 gx cx cy cz da js w H ka hs jt ju
  rw [Ze.t18] at H
  refine (ac _ _ _ _ _ _).1 <| F1 8 sh rfl (fun Gz wk => ?_)
  obtain ⟨m3, pz, H⟩ := bnd H
  refine Oc rfl (Yg.c hs (nx.mono (((aw.trans ag).trans af).trans ka)) pz) (fun wl w hpost => ?_)
  obtain ⟨wm, G0, p0, rfl, kn, hs, wn⟩ := hpost
  refine Zd (wk _ _ (fun _ _ => ((hs.less (ka.trans kn)).sub (ssk (ssk (ssk (ssc ssr)))))) <| (Xr rfl (by kernel_rfl) (OD.weak [(1, _), (59, _), (62, _), (65, _), (68, _), (70, _), (73, _), (76, _), (80, _), (83, _), (87, _), (88, _), (91, _), (94, _), (98, _), (101, _), (105, _), (109, _), (112, _), (115, _), (118, _), (122, _), (125, _)] sbn ((ac _ _ _ _ _ _).2 (pw m3 a5 gx wl p0 cx cy cz da wm _ H (ka.trans kn) hs wn (jt.mono kn) (ju.mono kn))))))
 have p1 : ∀ (gy : Int) (db : Value) (dc : List Value) (w : World), Ze.t19 x0 ab aa gy = some r → St w0 ar ((.row db 4 Rep.bool.sz ((List.replicate (x0.marks.length : Int).toNat false).length) dc) :: (.box a0 34 ([bq, bp, bo, bl, a8, bm, az, ax, a9, au, av])) :: Γ) w → Zm Rep.bool ar dc (List.replicate (x0.marks.length : Int).toNat false) → dg [] (fun w => St w0 ar ((.box a0 34 ([bq, bp, bo, bl, a8, bm, az, ax, a9, au, av])) :: Γ) w) 27 [2, 52, 68, 67, 65, 64, 61, 60, 59, 58, 57, 55, 54, 51, 50, 49, 48, 47, 44, 43, 41, 40, 37, 36, 34, 33, 31, 30, 29, 26, 25, 23, 22, 19, 18, 16, 15, 13, 11, 10, 7, 6, 4, 3, 1, 0] [(1, .pointer (some ⟨a0, 0, none⟩)), (59, .int .i64 gy), (61, bp), (64, bp), (68, bo), (70, ao), (73, bl), (76, bl), (80, a8), (83, a8), (87, bm), (88, ad), (91, az), (94, az), (98, ax), (101, ax), (105, a9), (109, db), (112, au), (115, au), (118, .int .i64 (x0.names.length : Int)), (122, av), (125, av)] w := by
  intro gy db dc w H hs jv
  rw [Ze.t19] at H
  refine (ac _ _ _ _ _ _).1 <| F1 5 sh rfl (fun G1 wo => ?_)
  obtain ⟨m4, p2, H⟩ := bnd H
  refine Oc rfl (Qg.c hs (nx.mono ((aw.trans ag).trans af)) p2) (fun wp w hpost => ?_)
  obtain ⟨wq, G2, p3, rfl, k1, hs, wr⟩ := hpost
  refine Zd (wo _ _ (fun _ _ => ((hs.less k1).sub (ssk (ssk (ssc ssr))))) <| (Xr rfl (by kernel_rfl) (OD.weak [(1, _), (59, _), (62, _), (64, _), (68, _), (70, _), (73, _), (76, _), (80, _), (83, _), (87, _), (88, _), (91, _), (94, _), (98, _), (101, _), (105, _), (109, _), (112, _), (115, _), (118, _), (122, _), (125, _)] sbn ((ac _ _ _ _ _ _).2 (py m4 gy wp p3 db dc wq _ H k1 hs wr (jv.mono k1))))))
 have ws : ∀ (dd : Value) (de : List Value) (w : World), Ze.t20 x0 ab aa = some r → St w0 ar ((.row dd 4 Rep.bool.sz ((List.replicate (x0.marks.length : Int).toNat false).length) de) :: (.box a0 34 ([bq, bp, bo, bl, a8, bm, az, ax, a9, au, av])) :: Γ) w → Zm Rep.bool ar de (List.replicate (x0.marks.length : Int).toNat false) → dg [] (fun w => St w0 ar ((.box a0 34 ([bq, bp, bo, bl, a8, bm, az, ax, a9, au, av])) :: Γ) w) 28 [52, 68, 67, 65, 64, 61, 60, 59, 58, 57, 55, 54, 51, 50, 49, 48, 47, 44, 43, 41, 40, 37, 36, 34, 33, 31, 30, 29, 26, 25, 23, 22, 19, 18, 16, 15, 13, 11, 10, 7, 6, 4, 3, 1, 0] [(1, .pointer (some ⟨a0, 0, none⟩)), (58, bq), (61, bp), (64, bp), (68, bo), (70, ao), (73, bl), (76, bl), (80, a8), (83, a8), (87, bm), (88, ad), (91, az), (94, az), (98, ax), (101, ax), (105, a9), (109, dd), (112, au), (115, au), (118, .int .i64 (x0.names.length : Int)), (122, av), (125, av)] w := by
  intro dd de w H hs jw
  rw [Ze.t20] at H
  refine (ac _ _ _ _ _ _).1 <| F1 2 sh rfl (fun G3 wt => ?_)
  obtain ⟨m5, p4, H⟩ := bnd H
  refine Oc rfl (Qa.c hs (r9.mono ((aw.trans ag).trans af)) p4) (fun G4 w hpost => ?_)
  obtain ⟨rfl, hs⟩ := hpost
  refine Zd (wt _ _ (fun _ _ => (hs.sub (ssk (ssc ssr)))) <| (Xr rfl (by kernel_rfl) (OD.weak [(1, _), (59, _), (61, _), (64, _), (68, _), (70, _), (73, _), (76, _), (80, _), (83, _), (87, _), (88, _), (91, _), (94, _), (98, _), (101, _), (105, _), (109, _), (112, _), (115, _), (118, _), (122, _), (125, _)] sbn ((ac _ _ _ _ _ _).2 (p1 m5 dd de _ H hs jw)))))
 refine (ac _ _ _ _ _ _).1 <| Vk sh (i := 52) (j := 2) rfl rfl (by kernel_rfl) (fun G5 wu => ?_) (fun G6 wv => ?_)
 refine Kn (r := Rep.bool) (x0 := false) U9 zr4 rfl rfl hs rfl rfl rfl ay.1 ay.2 (fun ww p5 w wx hs => Zd (wu _ _ (fun _ _ => (hs.sub (ssk (ssc ssr)))) <| (Xr rfl (by kernel_rfl) (OD.weak [(1, _), (58, _), (61, _), (64, _), (68, _), (70, _), (73, _), (76, _), (80, _), (83, _), (87, _), (88, _), (91, _), (94, _), (98, _), (101, _), (105, _), (109, _), (112, _), (115, _), (118, _), (122, _), (125, _)] sbn ((ac _ _ _ _ _ _).2 (ws (.slice (some ⟨ww, 0, none⟩) (x0.marks.length : Int).toNat (x0.marks.length : Int).toNat) p5 _ H hs wx))))))
 rw [Ze.t20] at H
 obtain ⟨dk, p6, H⟩ := bnd H
 refine Oc rfl (Qa.c hs (r9.mono ((aw.trans ag).trans af)) p6) (fun G7 w hpost => ?_)
 obtain ⟨rfl, hs⟩ := hpost
 refine Zd (wv _ _ (fun _ _ => hs) <| Vk sh (i := 52) (j := 5) rfl rfl (by kernel_rfl) (fun G8 wy => ?_) (fun G9 wz => ?_))
 refine Kn (r := Rep.bool) (x0 := false) U9 zr4 rfl rfl hs rfl rfl rfl ay.1 ay.2 (fun xa p7 w xb hs => Zd (wy _ _ (fun _ _ => (hs.sub (ssk (ssc ssr)))) <| (Xr rfl (by kernel_rfl) (OD.weak [(1, _), (59, _), (61, _), (64, _), (68, _), (70, _), (73, _), (76, _), (80, _), (83, _), (87, _), (88, _), (91, _), (94, _), (98, _), (101, _), (105, _), (109, _), (112, _), (115, _), (118, _), (122, _), (125, _)] sbn ((ac _ _ _ _ _ _).2 (p1 dk (.slice (some ⟨xa, 0, none⟩) (x0.marks.length : Int).toNat (x0.marks.length : Int).toNat) p7 _ H hs xb))))))
 rw [Ze.t19] at H
 obtain ⟨p8, p9, H⟩ := bnd H
 refine Oc rfl (Qg.c hs (nx.mono ((aw.trans ag).trans af)) p9) (fun qa w hpost => ?_)
 obtain ⟨xc, Ia, l6, rfl, jx, hs, nn⟩ := hpost
 refine Zd (wz _ _ (fun _ _ => ((hs.less jx).sub (ssk (ssc ssr)))) <| Vk sh (i := 52) (j := 8) rfl rfl (by kernel_rfl) (fun Ib xd => ?_) (fun Ic xe => ?_))
 refine Kn (r := Rep.bool) (x0 := false) U9 zr4 rfl rfl hs rfl rfl rfl ay.1 ay.2 (fun xf qb w xg hs => Zd (xd _ _ (fun _ _ => ((hs.less jx).sub (ssk (ssk (ssc ssr))))) ?_))
 have hs := hs.front 2 rfl
 have hs := hs.front 1 rfl
 have hs := hs.front 2 rfl
 refine (Xr rfl (by kernel_rfl) (OD.weak [(1, _), (59, _), (62, _), (64, _), (68, _), (70, _), (73, _), (76, _), (80, _), (83, _), (87, _), (88, _), (91, _), (94, _), (98, _), (101, _), (105, _), (109, _), (112, _), (115, _), (118, _), (122, _), (125, _)] sbn ((ac _ _ _ _ _ _).2 (py p8 dk qa l6 (.slice (some ⟨xf, 0, none⟩) (x0.marks.length : Int).toNat (x0.marks.length : Int).toNat) qb xc _ H jx hs nn xg))))
 rw [Ze.t18] at H
 obtain ⟨xh, qc, H⟩ := bnd H
 refine Oc rfl (Yg.c hs (nx.mono (((aw.trans ag).trans af).trans jx)) qc) (fun xi w hpost => ?_)
 obtain ⟨xj, Id, qd, rfl, k2, hs, qe⟩ := hpost
 have lg := jx.trans k2
 refine Zd (xe _ _ (fun _ _ => ((hs.less lg).sub (ssk (ssk (ssc ssr))))) <| Vk sh (i := 52) (j := 9) rfl rfl (by kernel_rfl) (fun Ie xk => ?_) (fun If xl => ?_))
 refine Kn (r := Rep.bool) (x0 := false) U9 zr4 rfl rfl hs rfl rfl rfl ay.1 ay.2 (fun xm qf w xn hs => Zd (xk _ _ (fun _ _ => ((hs.less lg).sub (ssk (ssk (ssk (ssc ssr)))))) ?_))
 have hs := hs.front 3 rfl
 have hs := hs.front 1 rfl
 have hs := hs.front 3 rfl
 have hs := hs.front 3 rfl
 refine (Xr rfl (by kernel_rfl) (OD.weak [(1, _), (59, _), (62, _), (65, _), (68, _), (70, _), (73, _), (76, _), (80, _), (83, _), (87, _), (88, _), (91, _), (94, _), (98, _), (101, _), (105, _), (109, _), (112, _), (115, _), (118, _), (122, _), (125, _)] sbn ((ac _ _ _ _ _ _).2 (pw xh p8 dk xi qd qa l6 (.slice (some ⟨xm, 0, none⟩) (x0.marks.length : Int).toNat (x0.marks.length : Int).toNat) qf xj _ H lg hs qe (nn.mono k2) xn))))
 rw [Ze.t17] at H
 obtain ⟨Ig, l7, hs, xo⟩ := hs.rowEnd (j := 1) (nn.mono k2) rfl
 have xp := lg.trans l7
 obtain ⟨xq, l8, hs, xr⟩ := hs.rowEnd (j := 0) (qe.mono l7) rfl
 have k3 := xp.trans l8
 obtain ⟨hb, qg, H⟩ := bnd H
 refine Oc rfl (Yq.c hs (xo.mono l8) xr qg) (fun Ih w hpost => ?_)
 obtain ⟨rfl, hs⟩ := hpost
 refine Zd (xl _ _ (fun _ _ => (hs.less k3)) <| Vk sh (i := 52) (j := 12) rfl rfl (by kernel_rfl) (fun Ii xt => ?_) (fun Ij xu => ?_))
 refine Kn (r := Rep.bool) (x0 := false) U9 zr4 rfl rfl hs rfl rfl rfl ay.1 ay.2 (fun xv qh w xw hs => Zd (xt _ _ (fun _ _ => ((hs.less k3).sub (ssk (ssc ssr)))) <| (Xr rfl (by kernel_rfl) (OD.weak [(1, _), (59, _), (66, _), (68, _), (70, _), (73, _), (76, _), (80, _), (83, _), (87, _), (88, _), (91, _), (94, _), (98, _), (101, _), (105, _), (109, _), (112, _), (115, _), (118, _), (122, _), (125, _)] sbn ((ac _ _ _ _ _ _).2 (pt dk hb (.slice (some ⟨xv, 0, none⟩) (x0.marks.length : Int).toNat (x0.marks.length : Int).toNat) qh xq _ H k3 hs xw))))))
 rw [Ze.t16] at H
 obtain ⟨xx, qi, H⟩ := bnd H
 refine Oc rfl (Qp.c hs (ny.mono (((aw.trans ag).trans af).trans k3)) qi) (fun xy w hpost => ?_)
 obtain ⟨xz, Ik, qj, rfl, qk, hs, ql⟩ := hpost
 have lh := k3.trans qk
 refine Zd (xu _ _ (fun _ _ => ((hs.less lh).sub (ssk (ssc ssr)))) <| Vk sh (i := 52) (j := 14) rfl rfl (by kernel_rfl) (fun Il ya => ?_) (fun Im yb => ?_))
 refine Kn (r := Rep.bool) (x0 := false) U9 zr4 rfl rfl hs rfl rfl rfl ay.1 ay.2 (fun yc qm w yd hs => Zd (ya _ _ (fun _ _ => ((hs.less lh).sub (ssk (ssk (ssc ssr))))) ?_))
 have hs := hs.front 2 rfl
 have hs := hs.front 1 rfl
 have hs := hs.front 2 rfl
 refine (Xr rfl (by kernel_rfl) (OD.weak [(1, _), (59, _), (66, _), (69, _), (70, _), (73, _), (76, _), (80, _), (83, _), (87, _), (88, _), (91, _), (94, _), (98, _), (101, _), (105, _), (109, _), (112, _), (115, _), (118, _), (122, _), (125, _)] sbn ((ac _ _ _ _ _ _).2 (pr xx dk hb xy qj (.slice (some ⟨yc, 0, none⟩) (x0.marks.length : Int).toNat (x0.marks.length : Int).toNat) qm xz _ H lh hs ql yd))))
 rw [Ze.t15] at H
 obtain ⟨ye, qn, hs, yf⟩ := hs.rowEnd (j := 0) ql rfl
 have kp := lh.trans qn
 obtain ⟨hc, qo, H⟩ := bnd H
 refine Oc rfl (Yq.c hs yf (ob.mono (af.trans kp)) qo) (fun In w hpost => ?_)
 obtain ⟨rfl, hs⟩ := hpost
 refine Zd (yb _ _ (fun _ _ => (hs.less kp)) <| Vk sh (i := 52) (j := 17) rfl rfl (by kernel_rfl) (fun Io yg => ?_) (fun Ip yh => ?_))
 refine Kn (r := Rep.bool) (x0 := false) U9 zr4 rfl rfl hs rfl rfl rfl ay.1 ay.2 (fun yi qp w yj hs => Zd (yg _ _ (fun _ _ => ((hs.less kp).sub (ssk (ssc ssr)))) <| (Xr rfl (by kernel_rfl) (OD.weak [(1, _), (59, _), (66, _), (71, _), (73, _), (76, _), (80, _), (83, _), (87, _), (88, _), (91, _), (94, _), (98, _), (101, _), (105, _), (109, _), (112, _), (115, _), (118, _), (122, _), (125, _)] sbn ((ac _ _ _ _ _ _).2 (po dk hb hc (.slice (some ⟨yi, 0, none⟩) (x0.marks.length : Int).toNat (x0.marks.length : Int).toNat) qp ye _ H kp hs yj))))))
 rw [Ze.t14] at H
 obtain ⟨qq, qr, H⟩ := bnd H
 refine Oc rfl (Qg.c hs (r3.mono (((aw.trans ag).trans af).trans kp)) qr) (fun qs w hpost => ?_)
 obtain ⟨yk, Iq, l9, rfl, qt, hs, no⟩ := hpost
 have k4 := kp.trans qt
 refine Zd (yh _ _ (fun _ _ => ((hs.less k4).sub (ssk (ssc ssr)))) <| Vk sh (i := 52) (j := 20) rfl rfl (by kernel_rfl) (fun Ir yl => ?_) (fun Is ym => ?_))
 refine Kn (r := Rep.bool) (x0 := false) U9 zr4 rfl rfl hs rfl rfl rfl ay.1 ay.2 (fun yn qu w yo hs => Zd (yl _ _ (fun _ _ => ((hs.less k4).sub (ssk (ssk (ssc ssr))))) ?_))
 have hs := hs.front 2 rfl
 have hs := hs.front 1 rfl
 have hs := hs.front 2 rfl
 refine (Xr rfl (by kernel_rfl) (OD.weak [(1, _), (59, _), (66, _), (71, _), (74, _), (76, _), (80, _), (83, _), (87, _), (88, _), (91, _), (94, _), (98, _), (101, _), (105, _), (109, _), (112, _), (115, _), (118, _), (122, _), (125, _)] sbn ((ac _ _ _ _ _ _).2 (pl qq dk hb hc qs l9 (.slice (some ⟨yn, 0, none⟩) (x0.marks.length : Int).toNat (x0.marks.length : Int).toNat) qu yk _ H k4 hs no yo))))
 rw [Ze.t13] at H
 obtain ⟨yp, qv, H⟩ := bnd H
 refine Oc rfl (Yg.c hs (r3.mono (((aw.trans ag).trans af).trans k4)) qv) (fun yq w hpost => ?_)
 obtain ⟨yr, It, qw, rfl, k5, hs, qx⟩ := hpost
 have li := k4.trans k5
 refine Zd (ym _ _ (fun _ _ => ((hs.less li).sub (ssk (ssk (ssc ssr))))) <| Vk sh (i := 52) (j := 21) rfl rfl (by kernel_rfl) (fun Iu ys => ?_) (fun Iv yt => ?_))
 refine Kn (r := Rep.bool) (x0 := false) U9 zr4 rfl rfl hs rfl rfl rfl ay.1 ay.2 (fun yu qy w yv hs => Zd (ys _ _ (fun _ _ => ((hs.less li).sub (ssk (ssk (ssk (ssc ssr)))))) ?_))
 have hs := hs.front 3 rfl
 have hs := hs.front 1 rfl
 have hs := hs.front 3 rfl
 have hs := hs.front 3 rfl
 refine (Xr rfl (by kernel_rfl) (OD.weak [(1, _), (59, _), (66, _), (71, _), (74, _), (77, _), (80, _), (83, _), (87, _), (88, _), (91, _), (94, _), (98, _), (101, _), (105, _), (109, _), (112, _), (115, _), (118, _), (122, _), (125, _)] sbn ((ac _ _ _ _ _ _).2 (pj yp qq dk hb hc yq qw qs l9 (.slice (some ⟨yu, 0, none⟩) (x0.marks.length : Int).toNat (x0.marks.length : Int).toNat) qy yr _ H li hs qx (no.mono k5) yv))))
 rw [Ze.t12] at H
 obtain ⟨Iw, ma, hs, yw⟩ := hs.rowEnd (j := 1) (no.mono k5) rfl
 have yx := li.trans ma
 obtain ⟨yy, mb, hs, yz⟩ := hs.rowEnd (j := 0) (qx.mono ma) rfl
 have k6 := yx.trans mb
 obtain ⟨hh, qz, H⟩ := bnd H
 refine Oc rfl (Yq.c hs (yw.mono mb) yz qz) (fun Ix w hpost => ?_)
 obtain ⟨rfl, hs⟩ := hpost
 refine Zd (yt _ _ (fun _ _ => (hs.less k6)) <| Vk sh (i := 52) (j := 24) rfl rfl (by kernel_rfl) (fun Iy za => ?_) (fun Iz zb => ?_))
 refine Kn (r := Rep.bool) (x0 := false) U9 zr4 rfl rfl hs rfl rfl rfl ay.1 ay.2 (fun zc q0 w zd hs => Zd (za _ _ (fun _ _ => ((hs.less k6).sub (ssk (ssc ssr)))) <| (Xr rfl (by kernel_rfl) (OD.weak [(1, _), (59, _), (66, _), (71, _), (78, _), (80, _), (83, _), (87, _), (88, _), (91, _), (94, _), (98, _), (101, _), (105, _), (109, _), (112, _), (115, _), (118, _), (122, _), (125, _)] sbn ((ac _ _ _ _ _ _).2 (pg dk hb hc hh (.slice (some ⟨zc, 0, none⟩) (x0.marks.length : Int).toNat (x0.marks.length : Int).toNat) q0 yy _ H k6 hs zd))))))
 rw [Ze.t11] at H
 obtain ⟨q1, q2, H⟩ := bnd H
 refine Oc rfl (Qp.c hs (r4.mono (((aw.trans ag).trans af).trans k6)) q2) (fun q3 w hpost => ?_)
 obtain ⟨ze, I0, mc, rfl, q4, hs, np⟩ := hpost
 have k7 := k6.trans q4
 refine Zd (zb _ _ (fun _ _ => ((hs.less k7).sub (ssk (ssc ssr)))) <| Vk sh (i := 52) (j := 27) rfl rfl (by kernel_rfl) (fun I1 zf => ?_) (fun I2 zg => ?_))
 refine Kn (r := Rep.bool) (x0 := false) U9 zr4 rfl rfl hs rfl rfl rfl ay.1 ay.2 (fun zh q5 w zi hs => Zd (zf _ _ (fun _ _ => ((hs.less k7).sub (ssk (ssk (ssc ssr))))) ?_))
 have hs := hs.front 2 rfl
 have hs := hs.front 1 rfl
 have hs := hs.front 2 rfl
 refine (Xr rfl (by kernel_rfl) (OD.weak [(1, _), (59, _), (66, _), (71, _), (78, _), (81, _), (83, _), (87, _), (88, _), (91, _), (94, _), (98, _), (101, _), (105, _), (109, _), (112, _), (115, _), (118, _), (122, _), (125, _)] sbn ((ac _ _ _ _ _ _).2 (pd q1 dk hb hc hh q3 mc (.slice (some ⟨zh, 0, none⟩) (x0.marks.length : Int).toNat (x0.marks.length : Int).toNat) q5 ze _ H k7 hs np zi))))
 rw [Ze.t10] at H
 obtain ⟨zj, q6, H⟩ := bnd H
 refine Oc rfl (Yp.c hs (r4.mono (((aw.trans ag).trans af).trans k7)) q6) (fun zk w hpost => ?_)
 obtain ⟨zl, I3, q7, rfl, k8, hs, q8⟩ := hpost
 have lj := k7.trans k8
 refine Zd (zg _ _ (fun _ _ => ((hs.less lj).sub (ssk (ssk (ssc ssr))))) <| Vk sh (i := 52) (j := 28) rfl rfl (by kernel_rfl) (fun I4 zm => ?_) (fun I5 zn => ?_))
 refine Kn (r := Rep.bool) (x0 := false) U9 zr4 rfl rfl hs rfl rfl rfl ay.1 ay.2 (fun zo q9 w zp hs => Zd (zm _ _ (fun _ _ => ((hs.less lj).sub (ssk (ssk (ssk (ssc ssr)))))) ?_))
 have hs := hs.front 3 rfl
 have hs := hs.front 1 rfl
 have hs := hs.front 3 rfl
 have hs := hs.front 3 rfl
 refine (Xr rfl (by kernel_rfl) (OD.weak [(1, _), (59, _), (66, _), (71, _), (78, _), (81, _), (84, _), (87, _), (88, _), (91, _), (94, _), (98, _), (101, _), (105, _), (109, _), (112, _), (115, _), (118, _), (122, _), (125, _)] sbn ((ac _ _ _ _ _ _).2 (pb zj q1 dk hb hc hh zk q7 q3 mc (.slice (some ⟨zo, 0, none⟩) (x0.marks.length : Int).toNat (x0.marks.length : Int).toNat) q9 zl _ H lj hs q8 (np.mono k8) zp))))
 rw [Ze.t9] at H
 obtain ⟨I6, md, hs, zq⟩ := hs.rowEnd (j := 1) (np.mono k8) rfl
 have zr := lj.trans md
 obtain ⟨ra, me, hs, zs⟩ := hs.rowEnd (j := 0) (q8.mono md) rfl
 have hk := zr.trans me
 obtain ⟨jy, rb, H⟩ := bnd H
 refine Oc rfl (Yq.c hs (zq.mono me) zs rb) (fun I7 w hpost => ?_)
 obtain ⟨rfl, hs⟩ := hpost
 refine Zd (zn _ _ (fun _ _ => (hs.less hk)) <| Vk sh (i := 52) (j := 32) rfl rfl (by kernel_rfl) (fun I8 zt => ?_) (fun I9 zu => ?_))
 refine Kn (r := Rep.bool) (x0 := false) U9 zr4 rfl rfl hs rfl rfl rfl ay.1 ay.2 (fun zv rc w zw hs => Zd (zt _ _ (fun _ _ => ((hs.less hk).sub (ssk (ssc ssr)))) <| (Xr rfl (by kernel_rfl) (OD.weak [(1, _), (59, _), (66, _), (71, _), (78, _), (85, _), (87, _), (88, _), (91, _), (94, _), (98, _), (101, _), (105, _), (109, _), (112, _), (115, _), (118, _), (122, _), (125, _)] sbn ((ac _ _ _ _ _ _).2 (o9 dk hb hc hh jy (.slice (some ⟨zv, 0, none⟩) (x0.marks.length : Int).toNat (x0.marks.length : Int).toNat) rc ra _ H hk hs zw))))))
 rw [Ze.t8] at H
 obtain ⟨kb, re, H⟩ := bnd H
 refine Oc rfl (Yq.c hs (r5.mono (((aw.trans ag).trans af).trans hk)) (oc.mono hk) re) (fun Ja w hpost => ?_)
 obtain ⟨rfl, hs⟩ := hpost
 refine Zd (zu _ _ (fun _ _ => (hs.less hk)) <| Vk sh (i := 52) (j := 35) rfl rfl (by kernel_rfl) (fun Jb zx => ?_) (fun Jc zy => ?_))
 refine Kn (r := Rep.bool) (x0 := false) U9 zr4 rfl rfl hs rfl rfl rfl ay.1 ay.2 (fun zz rf w z0 hs => Zd (zx _ _ (fun _ _ => ((hs.less hk).sub (ssk (ssc ssr)))) <| (Xr rfl (by kernel_rfl) (OD.weak [(1, _), (59, _), (66, _), (71, _), (78, _), (85, _), (89, _), (91, _), (94, _), (98, _), (101, _), (105, _), (109, _), (112, _), (115, _), (118, _), (122, _), (125, _)] sbn ((ac _ _ _ _ _ _).2 (o6 dk hb hc hh jy kb (.slice (some ⟨zz, 0, none⟩) (x0.marks.length : Int).toNat (x0.marks.length : Int).toNat) rf ra _ H hk hs z0))))))
 rw [Ze.t7] at H
 obtain ⟨rg, rh, H⟩ := bnd H
 refine Oc rfl (Qg.c hs (r6.mono (((aw.trans ag).trans af).trans hk)) rh) (fun ri w hpost => ?_)
 obtain ⟨z1, Jd, mf, rfl, rj, hs, nq⟩ := hpost
 have k9 := hk.trans rj
 refine Zd (zy _ _ (fun _ _ => ((hs.less k9).sub (ssk (ssc ssr)))) <| Vk sh (i := 52) (j := 38) rfl rfl (by kernel_rfl) (fun Je z2 => ?_) (fun Jf z3 => ?_))
 refine Kn (r := Rep.bool) (x0 := false) U9 zr4 rfl rfl hs rfl rfl rfl ay.1 ay.2 (fun z4 rk w z5 hs => Zd (z2 _ _ (fun _ _ => ((hs.less k9).sub (ssk (ssk (ssc ssr))))) ?_))
 have hs := hs.front 2 rfl
 have hs := hs.front 1 rfl
 have hs := hs.front 2 rfl
 refine (Xr rfl (by kernel_rfl) (OD.weak [(1, _), (59, _), (66, _), (71, _), (78, _), (85, _), (89, _), (92, _), (94, _), (98, _), (101, _), (105, _), (109, _), (112, _), (115, _), (118, _), (122, _), (125, _)] sbn ((ac _ _ _ _ _ _).2 (o3 rg dk hb hc hh jy kb ri mf (.slice (some ⟨z4, 0, none⟩) (x0.marks.length : Int).toNat (x0.marks.length : Int).toNat) rk z1 _ H k9 hs nq z5))))
 rw [Ze.t6] at H
 obtain ⟨z6, rl, H⟩ := bnd H
 refine Oc rfl (Yg.c hs (r6.mono (((aw.trans ag).trans af).trans k9)) rl) (fun z7 w hpost => ?_)
 obtain ⟨z8, Jg, rm, rfl, la, hs, rn⟩ := hpost
 have lk := k9.trans la
 refine Zd (z3 _ _ (fun _ _ => ((hs.less lk).sub (ssk (ssk (ssc ssr))))) <| Vk sh (i := 52) (j := 39) rfl rfl (by kernel_rfl) (fun Jh z9 => ?_) (fun Ji Aa => ?_))
 refine Kn (r := Rep.bool) (x0 := false) U9 zr4 rfl rfl hs rfl rfl rfl ay.1 ay.2 (fun Ab ro w Ac hs => Zd (z9 _ _ (fun _ _ => ((hs.less lk).sub (ssk (ssk (ssk (ssc ssr)))))) ?_))
 have hs := hs.front 3 rfl
 have hs := hs.front 1 rfl
 have hs := hs.front 3 rfl
 have hs := hs.front 3 rfl
 refine (Xr rfl (by kernel_rfl) (OD.weak [(1, _), (59, _), (66, _), (71, _), (78, _), (85, _), (89, _), (92, _), (95, _), (98, _), (101, _), (105, _), (109, _), (112, _), (115, _), (118, _), (122, _), (125, _)] sbn ((ac _ _ _ _ _ _).2 (o1 z6 rg dk hb hc hh jy kb z7 rm ri mf (.slice (some ⟨Ab, 0, none⟩) (x0.marks.length : Int).toNat (x0.marks.length : Int).toNat) ro z8 _ H lk hs rn (nq.mono la) Ac))))
 rw [Ze.t5] at H
 obtain ⟨Jj, mg, hs, Ad⟩ := hs.rowEnd (j := 1) (nq.mono la) rfl
 have Ae := lk.trans mg
 obtain ⟨Af, mh, hs, Ag⟩ := hs.rowEnd (j := 0) (rn.mono mg) rfl
 have lb := Ae.trans mh
 obtain ⟨ll, rp, H⟩ := bnd H
 refine Oc rfl (Yq.c hs (Ad.mono mh) Ag rp) (fun Jk w hpost => ?_)
 obtain ⟨rfl, hs⟩ := hpost
 refine Zd (Aa _ _ (fun _ _ => (hs.less lb)) <| Vk sh (i := 52) (j := 42) rfl rfl (by kernel_rfl) (fun Jl Ah => ?_) (fun Jm Aj => ?_))
 refine Kn (r := Rep.bool) (x0 := false) U9 zr4 rfl rfl hs rfl rfl rfl ay.1 ay.2 (fun Ak rq w Al hs => Zd (Ah _ _ (fun _ _ => ((hs.less lb).sub (ssk (ssc ssr)))) <| (Xr rfl (by kernel_rfl) (OD.weak [(1, _), (59, _), (66, _), (71, _), (78, _), (85, _), (89, _), (96, _), (98, _), (101, _), (105, _), (109, _), (112, _), (115, _), (118, _), (122, _), (125, _)] sbn ((ac _ _ _ _ _ _).2 (oy dk hb hc hh jy kb ll (.slice (some ⟨Ak, 0, none⟩) (x0.marks.length : Int).toNat (x0.marks.length : Int).toNat) rq Af _ H lb hs Al))))))
 rw [Ze.t4] at H
 obtain ⟨rr, rs, H⟩ := bnd H
 refine Oc rfl (Qg.c hs (r7.mono (((aw.trans ag).trans af).trans lb)) rs) (fun rt w hpost => ?_)
 obtain ⟨Am, Jn, mi, rfl, ru, hs, nr⟩ := hpost
 have lc := lb.trans ru
 refine Zd (Aj _ _ (fun _ _ => ((hs.less lc).sub (ssk (ssc ssr)))) <| Vk sh (i := 52) (j := 45) rfl rfl (by kernel_rfl) (fun Jo An => ?_) (fun Jp Ao => ?_))
 refine Kn (r := Rep.bool) (x0 := false) U9 zr4 rfl rfl hs rfl rfl rfl ay.1 ay.2 (fun Ap rv w Aq hs => Zd (An _ _ (fun _ _ => ((hs.less lc).sub (ssk (ssk (ssc ssr))))) ?_))
 have hs := hs.front 2 rfl
 have hs := hs.front 1 rfl
 have hs := hs.front 2 rfl
 refine (Xr rfl (by kernel_rfl) (OD.weak [(1, _), (59, _), (66, _), (71, _), (78, _), (85, _), (89, _), (96, _), (99, _), (101, _), (105, _), (109, _), (112, _), (115, _), (118, _), (122, _), (125, _)] sbn ((ac _ _ _ _ _ _).2 (ov rr dk hb hc hh jy kb ll rt mi (.slice (some ⟨Ap, 0, none⟩) (x0.marks.length : Int).toNat (x0.marks.length : Int).toNat) rv Am _ H lc hs nr Aq))))
 rw [Ze.t3] at H
 obtain ⟨Ar, rx, H⟩ := bnd H
 refine Oc rfl (Yg.c hs (r7.mono (((aw.trans ag).trans af).trans lc)) rx) (fun As w hpost => ?_)
 obtain ⟨At, Jq, ry, rfl, ld, hs, rz⟩ := hpost
 have lm := lc.trans ld
 refine Zd (Ao _ _ (fun _ _ => ((hs.less lm).sub (ssk (ssk (ssc ssr))))) <| Vk sh (i := 52) (j := 46) rfl rfl (by kernel_rfl) (fun Jr Au => ?_) (fun Js Av => ?_))
 refine Kn (r := Rep.bool) (x0 := false) U9 zr4 rfl rfl hs rfl rfl rfl ay.1 ay.2 (fun Aw r0 w Ax hs => Zd (Au _ _ (fun _ _ => ((hs.less lm).sub (ssk (ssk (ssk (ssc ssr)))))) ?_))
 have hs := hs.front 3 rfl
 have hs := hs.front 1 rfl
 have hs := hs.front 3 rfl
 have hs := hs.front 3 rfl
 refine (Xr rfl (by kernel_rfl) (OD.weak [(1, _), (59, _), (66, _), (71, _), (78, _), (85, _), (89, _), (96, _), (99, _), (102, _), (105, _), (109, _), (112, _), (115, _), (118, _), (122, _), (125, _)] sbn ((ac _ _ _ _ _ _).2 (ot Ar rr dk hb hc hh jy kb ll As ry rt mi (.slice (some ⟨Aw, 0, none⟩) (x0.marks.length : Int).toNat (x0.marks.length : Int).toNat) r0 At _ H lm hs rz (nr.mono ld) Ax))))
 rw [Ze.t2] at H
 obtain ⟨Jt, mj, hs, Ay⟩ := hs.rowEnd (j := 1) (nr.mono ld) rfl
 have Az := lm.trans mj
 obtain ⟨A0, mk, hs, A1⟩ := hs.rowEnd (j := 0) (rz.mono mj) rfl
 have ns := Az.trans mk
 obtain ⟨A2, r1, H⟩ := bnd H
 refine Oc rfl (Yq.c hs (Ay.mono mk) A1 r1) (fun Ju w hpost => ?_)
 obtain ⟨rfl, hs⟩ := hpost
 refine Zd (Av _ _ (fun _ _ => (hs.less ns)) <| F1 52 sh rfl (fun Jv A3 => Kn (r := Rep.bool) (x0 := false) U9 zr4 rfl rfl hs rfl rfl rfl ay.1 ay.2 (fun A4 r2 w A5 hs => Zd (A3 _ _ (fun _ _ => ((hs.less ns).sub (ssk (ssc ssr)))) <| (Xr rfl (by kernel_rfl) (OD.weak [(1, _), (59, _), (66, _), (71, _), (78, _), (85, _), (89, _), (96, _), (103, _), (105, _), (109, _), (112, _), (115, _), (118, _), (122, _), (125, _)] sbn ((ac _ _ _ _ _ _).2 (od dk hb hc hh jy kb ll A2 (.slice (some ⟨A4, 0, none⟩) (x0.marks.length : Int).toNat (x0.marks.length : Int).toNat) r2 A0 _ H ns hs A5))))))))

def Qi.l1 : Nat → List Val → List Val → Int → Option (List Val)
  | 0, _, _, _ => none
  | ae + 1, x0, ab, aa => if aa < (x0.length : Int) then (if (0 : Int) ≤ aa ∧ aa < (x0.length : Int) then (if ab.length + ([(⟨(rd x0 aa).lo, (rd x0 aa).hi, (rd x0 aa).n⟩ : Val)]).length ≤ most then ((Qi.l1 ae x0) (ab ++ ([(⟨(rd x0 aa).lo, (rd x0 aa).hi, (rd x0 aa).n⟩ : Val)])) (i64.wrap (aa + 1))) else none) else none) else (some ab)
def Qi.f (x0 : List Val) : Option (List Val) := Qi.l1 K0 x0 ([] : List Val) 0
theorem Qi.c (hs : St w0 ρ (Γ) w) {v0 : Value} {x0 : List Val} (h0 : SlR X9 ρ v0 x0) {r : List Val} (H : Qi.f x0 = some r) : Zn Tryz.prog 47 [v0] w (fun v w' => ∃ (ρ' : Hp) (v0 : Value) (cs0 : List Value), v = v0 ∧ Le ρ ρ' ∧ St w0 ρ' (.row v0 128 X9.sz r.length cs0 :: Γ) w' ∧ Zm X9 ρ' cs0 r) := by
 rw [Qi.f] at H
 refine Et Tryz.func47 Tryz.ntmps47 rfl <| Wr fun a5 al => As rfl <| Ox al <| Wr fun a6 am => Ku (xs := []) (cs := []) Zpo hs rfl rfl rfl (by decide) (by decide) rfl Kb Xy (fun an w hs => ?_)
 have ao : Zm X9 ρ ([]) ([] : List Val) := Zm.nil _ _
 refine As rfl <| Ox am <| Zh fun a7 ap => Wr fun a8 aq => Mv rfl <| O_y rfl (Yv Zfb h0 rfl) <| Mv rfl <| Ox aq <| Zj fun a9 ar ba => Y9 (σ := Nat × List Val × Int × Value × List Value) (fun (ae, ab, aa, ac, ad) => [(3, ac), (7, v0), (8, .int .i64 (x0.length : Int)), (9, .int .i64 aa)]) (fun (ae, ab, aa, ac, ad) w => Qi.l1 ae x0 ab aa = some r ∧ St w0 ρ ((.row ac 128 X9.sz ab.length ad) :: Γ) w ∧ Zm X9 ρ ad ab) (fun s => s.1) (K0, ([] : List Val), 0, (.slice (some ⟨an, 0, none⟩) 0 0), ([])) (T4 rfl) (Ai H (Ai hs ao)) ?_
 rintro ⟨ae, ab, aa, ac, ad⟩ w bb ⟨H, hs, af⟩ ag
 show W _ _ _ _ _ _ [(3, ac), (7, v0), (8, .int .i64 (x0.length : Int)), (9, .int .i64 aa)] w
 cases ae with
 | zero => rw [Qi.l1] at H; cases H
 | succ ae =>
 rw [Qi.l1] at H
 refine Wr fun bc au => Ols rfl <| Ox au <| Zh fun bd av => Y7 rfl (fun ah => ?_) (fun ah => ?_)
 rw [if_pos ah] at H
 refine Wx av <| Zh fun be aw => Zj fun bf bg bh => Zh fun bi ax => Zc ?_
 obtain ⟨aj, H⟩ := gd H
 obtain ⟨bj, bk, ay, az⟩ := h0.ix Zcg aj.1 aj.2
 obtain ⟨_, rfl, a0⟩ := ay
 refine O_y rfl (az rfl rfl) <| O_y rfl (Qv Ze7 Zeg rfl rfl (fun j u hu => hs.see (a0 j u hu))) <| Y6 Zlb hs rfl (fun bl w hs => Ye (i := 0) Zeg hs rfl rfl rfl rfl rfl (Zb rfl (Zb rfl (Zb rfl Yj))) (fun w hs => Ox ax <| Zc <| Mv rfl <| Ofd Zep rfl <| Obx 0 Xm hs rfl <| Ofd Zdm rfl <| Obx 0 Xm hs rfl <| Ofd Zdt rfl <| Obx 0 ag3 hs rfl <| O_y rfl (Qe (cs := [.int .i32 ((rd x0 aa).lo), .int .i32 ((rd x0 aa).hi), .int .i64 ((rd x0 aa).n)]) Zoy Zw6 ((Z2.cons rfl rfl (Z2.cons rfl rfl (Z2.cons rfl rfl Z2.nil)))) Zof (by kernel_rfl)) ?_))
 refine Ku (xs := [.tmp 20]) (cs := [.int .i32 ((rd x0 aa).lo), .int .i32 ((rd x0 aa).hi), .int .i64 ((rd x0 aa).n)]) Zpo hs rfl rfl rfl (by decide) (by decide) rfl (Yc rfl Kb) (Zv rfl Xy) (fun bm w hs => ?_)
 have ak : Zm X9 ρ ([.int .i32 ((rd x0 aa).lo), .int .i32 ((rd x0 aa).hi), .int .i64 ((rd x0 aa).n)]) [(⟨(rd x0 aa).lo, (rd x0 aa).hi, (rd x0 aa).n⟩ : Val)] := Zm.cons (c := [.int .i32 ((rd x0 aa).lo), .int .i32 ((rd x0 aa).hi), .int .i64 ((rd x0 aa).n)]) (x := (⟨(rd x0 aa).lo, (rd x0 aa).hi, (rd x0 aa).n⟩ : Val)) rfl (Zm.nil _ _)
 obtain ⟨a1, H⟩ := gd H
 refine Qt (i := 2) Zpo hs rfl af rfl rfl rfl (Src.lit (j := 0) hs rfl ak) ak a1 (fun a2 ai w a3 hs => As rfl <| Ox aw <| W.weak [(3, _), (7, _), (8, _), (9, _)] (T4 rfl) <| Zc <| Oad rfl <| Mv rfl <| Zd (ag (ae, (ab ++ ([(⟨(rd x0 aa).lo, (rd x0 aa).hi, (rd x0 aa).n⟩ : Val)])), (i64.wrap (aa + 1)), a2, ai) _ _ (T4 rfl) (Ai H (Ai (hs.sub (ssk (ssk (ssc ssr)))) a3)) (Nat.lt_succ_self _)))
 rw [if_neg ah] at H
 refine Y4 (ar _ _ (ap _ _ <| Wr fun bn a4 => Mv rfl <| As rfl <| Ox a4 <| Zk ?_))
 obtain rfl := Zz H
 exact r1 rfl ⟨_, _, _, rfl, Le.rfl' _, hs, af⟩

def Km.l1 : Nat → List Chs → List Chs → Int → Option (List Chs)
  | 0, _, _, _ => none
  | ae + 1, x0, ab, aa => if aa < (x0.length : Int) then (if (0 : Int) ≤ aa ∧ aa < (x0.length : Int) then (if ([] : List Int).length + ((rd x0 aa).is_).length ≤ most then (if ab.length + ([(⟨(rd x0 aa).lo, (rd x0 aa).hi, ([] : List Int) ++ ((rd x0 aa).is_)⟩ : Chs)]).length ≤ most then ((Km.l1 ae x0) (ab ++ ([(⟨(rd x0 aa).lo, (rd x0 aa).hi, ([] : List Int) ++ ((rd x0 aa).is_)⟩ : Chs)])) (i64.wrap (aa + 1))) else none) else none) else none) else (some ab)
def Km.f (x0 : List Chs) : Option (List Chs) := Km.l1 K0 x0 ([] : List Chs) 0
theorem Km.c (hs : St w0 ρ (Γ) w) {v0 : Value} {x0 : List Chs} (h0 : SlR Ks ρ v0 x0) {r : List Chs} (H : Km.f x0 = some r) : Zn Tryz.prog 48 [v0] w (fun v w' => ∃ (ρ' : Hp) (v0 : Value) (cs0 : List Value), v = v0 ∧ Le ρ ρ' ∧ St w0 ρ' (.row v0 87 Ks.sz r.length cs0 :: Γ) w' ∧ Zm Ks ρ' cs0 r) := by
 rw [Km.f] at H
 refine Et Tryz.func48 Tryz.ntmps48 rfl <| Wr fun bt a4 => As rfl <| Ox a4 <| Wr fun bu a5 => Ku (xs := []) (cs := []) Zh1 hs rfl rfl rfl (by decide) (by decide) rfl Kb Xy (fun a6 w hs => ?_)
 have a7 : Zm Ks ρ ([]) ([] : List Chs) := Zm.nil _ _
 refine As rfl <| Ox a5 <| Zh fun bv a8 => Wr fun bw a9 => Mv rfl <| O_y rfl (Yv Ze5 h0 rfl) <| Mv rfl <| Ox a9 <| Zj fun bx ba bz => Y9 (σ := Nat × List Chs × Int × Value × List Value × Hp) (fun (ae, ab, aa, ac, ad, ag) => [(3, ac), (7, v0), (8, .int .i64 (x0.length : Int)), (9, .int .i64 aa)]) (fun (ae, ab, aa, ac, ad, ag) w => Km.l1 ae x0 ab aa = some r ∧ Le ρ ag ∧ St w0 ag ((.row ac 87 Ks.sz ab.length ad) :: Γ) w ∧ Zm Ks ag ad ab) (fun s => s.1) (K0, ([] : List Chs), 0, (.slice (some ⟨a6, 0, none⟩) 0 0), ([]), ρ) (T4 rfl) (Ai H (Ai (Le.rfl' _) (Ai hs a7))) ?_
 rintro ⟨ae, ab, aa, ac, ad, ag⟩ w b0 ⟨H, ah, hs, af⟩ ak
 show W _ _ _ _ _ _ [(3, ac), (7, v0), (8, .int .i64 (x0.length : Int)), (9, .int .i64 aa)] w
 cases ae with
 | zero => rw [Km.l1] at H; cases H
 | succ ae =>
 rw [Km.l1] at H
 refine Wr fun b1 bb => Ols rfl <| Ox bb <| Zh fun b2 bc => Y7 rfl (fun ap => ?_) (fun ap => ?_)
 rw [if_pos ap] at H
 refine Wx bc <| Zh fun b3 bd => Zj fun b4 b5 b6 => Zh fun b7 be => Zc ?_
 obtain ⟨a1, H⟩ := gd H
 obtain ⟨b8, b9, bf, bg⟩ := (h0.mono ah).ix Zdo a1.1 a1.2
 obtain ⟨_, ⟨bh, rfl, a2⟩, bi⟩ := bf
 refine O_y rfl (bg rfl rfl) <| O_y rfl (Qv Zbq Zag rfl rfl (fun j u hu => hs.see (bi j u hu))) <| Y6 Zgz hs rfl (fun bj w hs => Ye (i := 0) Zag hs rfl rfl rfl rfl rfl (Zb rfl (Zb rfl (Zb a2.one Yj))) (fun w hs => Ox be <| Qn 13 [0, 0, 2, 0, 8, 0, 0, 64, 160, 276, 512, 1281, 4095] [2046, 4089, 3577, 4071, 3559, 3807, 3903, 3647, 1055, 2049, 1, 0, 0] [0, 0, 2, 0, 8, 0, 0, 64, 224, 510, 1022, 2047, 4095] [11, 12] (fun w => St w0 ag ((.box bj 110 ([.int .i32 ((rd x0 aa).lo), .int .i32 ((rd x0 aa).hi), bh])) :: (.row ac 87 Ks.sz ab.length ad) :: Γ) w) Vl (by kernel_rfl) (fun sh => ?_)))
 have hs := hs.drew
 refine Fm 0 sh rfl <| Fp 1 sh rfl (fun w => Zp Zbu rfl) <| Fy 2 sh rfl hs (fun w hs => Yb 0 Xm hs rfl rfl rfl) <| Fp 3 sh rfl (fun w => Zp Zhe rfl) <| Fy 4 sh rfl hs (fun w hs => Yb 0 Xm hs rfl rfl rfl) <| Fp 6 sh rfl (fun w => Zp H4 rfl) <| Fy 7 sh rfl hs (fun w hs => Yb 0 Za8 hs rfl rfl rfl) <| F1 5 sh rfl (fun ca bk => Ku (xs := []) (cs := []) Q7 hs rfl rfl rfl (by decide) (by decide) rfl Kb Xy (fun cb w hs => ?_))
 have bl : Zm (Rep.int .i32) ag ([]) ([] : List Int) := Zm.nil _ _
 refine Zd (bk _ _ (fun _ _ => (hs.sub (ssk (ssc (ssc ssr))))) ?_)
 obtain ⟨bm, aq, ar⟩ := Src.sl hs a2
 obtain ⟨bn, H⟩ := gd H
 refine F1 8 sh rfl (fun cc bo => Qt (i := 0) Q7 hs rfl bl rfl rfl rfl aq ar bn (fun aj a3 w au hs => Zd (bo _ _ (fun _ _ => (hs.sub (ssk (ssc (ssc ssr))))) ?_)))
 obtain ⟨al, ai, hs, am⟩ := hs.rowEnd (j := 0) au rfl
 refine Fp 9 sh rfl (fun w => Qe (cs := [.int .i32 ((rd x0 aa).lo), .int .i32 ((rd x0 aa).hi), aj]) Zlz Zxm ((Z2.cons rfl rfl (Z2.cons rfl rfl (Z2.cons rfl am.cellsL Z2.nil)))) Zkw (by kernel_rfl)) <| F1 10 sh rfl (fun bp av => Ku (xs := [.tmp 22]) (cs := [.int .i32 ((rd x0 aa).lo), .int .i32 ((rd x0 aa).hi), aj]) Zh1 hs rfl rfl rfl (by decide) (by decide) rfl (Yc rfl Kb) (Zv rfl Xy) (fun bq w hs => ?_))
 have an : Zm Ks al ([.int .i32 ((rd x0 aa).lo), .int .i32 ((rd x0 aa).hi), aj]) [(⟨(rd x0 aa).lo, (rd x0 aa).hi, ([] : List Int) ++ ((rd x0 aa).is_)⟩ : Chs)] := Zm.cons (c := [.int .i32 ((rd x0 aa).lo), .int .i32 ((rd x0 aa).hi), aj]) (x := (⟨(rd x0 aa).lo, (rd x0 aa).hi, ([] : List Int) ++ ((rd x0 aa).is_)⟩ : Chs)) ⟨_, rfl, am⟩ (Zm.nil _ _)
 refine Zd (av _ _ (fun _ _ => ((hs.less ai).sub (ssk (ssc (ssc ssr))))) ?_)
 obtain ⟨aw, H⟩ := gd H
 refine F1 11 sh rfl (fun br ax => Qt (i := 2) Zh1 hs rfl (af.mono ai) rfl rfl rfl (Src.lit (j := 0) hs rfl an) an aw (fun ay ao w az hs => Zd (ax _ _ (fun h _ => absurd h (by decide)) <| Ke sh [] hs (by kernel_rfl) <| Fp 12 sh rfl (fun w => Xv rfl) <| FE sh (bd _ _ <| W.weak [(3, _), (7, _), (8, _), (9, _)] (T4 rfl) <| Zc <| Oad rfl <| Mv rfl <| Zd (ak (ae, (ab ++ ([(⟨(rd x0 aa).lo, (rd x0 aa).hi, ([] : List Int) ++ ((rd x0 aa).is_)⟩ : Chs)])), (i64.wrap (aa + 1)), ay, ao, al) _ _ (T4 rfl) (Ai H (Ai (ah.trans ai) (Ai (hs.sub (ssk (ssk (ssc ssr)))) az))) (Nat.lt_succ_self _))))))
 rw [if_neg ap] at H
 refine Y4 (ba _ _ (a8 _ _ <| Wr fun bs a0 => Mv rfl <| As rfl <| Ox a0 <| Zk ?_))
 obtain rfl := Zz H
 exact r1 rfl ⟨_, _, _, rfl, ah, hs, af⟩

end Go.Proofs.YthoicbafdanmkaaGreatDoor
/- Written by this repo's gen.py: for each Go function a Lean function with the same answers and the walk that shows it. -/
namespace Go.Proofs.YthoicbafdanmkaaGreatDoor
open Go.IntKind (i8 i16 i32 i64 u8 u16 u32 u64)
open Go.RowKit
set_option maxRecDepth 100000
set_option maxHeartbeats 4000000
variable {w0 w : World} {ρ : Hp} {Γ : List Q5}
set_option linter.unusedVariables false
def Xt.j1 (ae : Int → Option Bool) (aa : Int) (ab : Bool) : Option Bool := if ab = true then (some false) else (ae (i64.wrap (aa + 1)))
def Xt.l1 : Nat → ByteArray → Int → Option Bool
  | 0, _, _ => none
  | ad + 1, x0, aa => if aa < ((Kr x0).length : Int) then (if (0 : Int) ≤ aa ∧ aa < ((Kr x0).length : Int) then (if (bOr .u8 (rd (Kr x0) aa) 32) < 97 then (Xt.j1 (Xt.l1 ad x0) aa true) else (Xt.j1 (Xt.l1 ad x0) aa (decide (122 < (bOr .u8 (rd (Kr x0) aa) 32))))) else none) else (some true)
def Xt.j2 (x0 : ByteArray) (ac : Bool) : Option Bool := if ac = true then (some false) else (Xt.l1 K0 x0 0)
def Xt.f (x0 : ByteArray) : Option Bool := if (x0.size : Int) < 1 then (Xt.j2 x0 true) else (Xt.j2 x0 (decide (32 < (x0.size : Int))))
theorem Xt.c (hs : St w0 ρ (Γ) w) {x0 : ByteArray} {r : Bool} (H : Xt.f x0 = some r) : Zn Tryz.prog 143 [.string x0] w (fun v w' => v = .bool r ∧ St w0 ρ Γ w') := by
 rw [Xt.f] at H
 refine Et Tryz.func143 Tryz.ntmps143 rfl <| Wr fun bf ax => As rfl <| Ox ax <| Zh fun bg ay => Yu fun az a0 ao => ?_
 have ap : ∀ (ac : Bool) (w : World), Xt.j2 x0 ac = some r → St w0 ρ (Γ) w → az [(0, .string x0), (12, .bool ac)] w := by
  intro ac w H hs
  rw [Xt.j2] at H
  refine a0 _ _ <| Xg rfl (fun aj => ?_) (fun aj => ?_)
  rw [if_pos aj] at H
  refine Wr fun bh a1 => As rfl <| Ox a1 <| Zk ?_
  obtain rfl := Zz H
  exact r1 rfl ⟨rfl, hs⟩
  rw [if_neg (bft aj)] at H
  refine Wx ay <| Zh fun bi a2 => Wr fun bj a3 => Mv rfl <| Zpf un9 Zmx un5 hs rfl rfl (fun aq ak w ai hs ar => O_y rfl (Yv Zmx ar rfl) <| Mv rfl <| Ox a3 <| Zj fun bk a4 bl => Y9 (σ := Nat × Int) (fun (ad, aa) => [(14, ak), (15, .int .i64 ((Kr x0).length : Int)), (16, .int .i64 aa)]) (fun (ad, aa) w => Xt.l1 ad x0 aa = some r ∧ St w0 aq (Γ) w) (fun s => s.1) (K0, 0) (T3 rfl) (Ai H hs) ?_)
  rintro ⟨ad, aa⟩ w bm ⟨H, hs⟩ af
  show W _ _ _ _ _ _ [(14, ak), (15, .int .i64 ((Kr x0).length : Int)), (16, .int .i64 aa)] w
  cases ad with
  | zero => rw [Xt.l1] at H; cases H
  | succ ad =>
  rw [Xt.l1] at H
  refine Wr fun bn a5 => Ols rfl <| Ox a5 <| Zh fun bo a6 => Y7 rfl (fun al => ?_) (fun al => ?_)
  rw [if_pos al] at H
  refine Wx a6 <| Zh fun bp a7 => Zj fun bq br bs => Zh fun bt a8 => Zc ?_
  obtain ⟨au, H⟩ := gd H
  obtain ⟨bu, bv, a9, ba⟩ := ar.ix Zg8 au.1 au.2
  refine O_y rfl (ba rfl rfl) <| O_y rfl (Xp ag5 rfl (hs.see a9.int)) <| As rfl <| Ox a8 <| Yu fun bb bc av => ?_
  have aw : ∀ (ab : Bool) (w : World), Xt.j1 (Xt.l1 ad x0) aa ab = some r → St w0 aq (Γ) w → bb [(14, ak), (15, .int .i64 ((Kr x0).length : Int)), (16, .int .i64 aa), (27, .bool ab)] w := by
   intro ab w H hs
   rw [Xt.j1] at H
   refine bc _ _ <| Xg rfl (fun am => ?_) (fun am => ?_)
   rw [if_pos am] at H
   refine Wr fun bw bd => As rfl <| Ox bd <| Zk ?_
   obtain rfl := Zz H
   exact r1 rfl ⟨rfl, (hs.less ai)⟩
   rw [if_neg (bft am)] at H
   refine Wx a7 <| Zc <| Oad rfl <| Mv rfl <| Zd (af (ad, (i64.wrap (aa + 1))) _ _ (T3 rfl) (Ai H hs) (Nat.lt_succ_self _))
  refine Zc <| Mv rfl <| O_y rfl (Zwt rfl rfl) <| Ols rfl <| Mv rfl <| X6 (dj := 23) rfl (fun ag => ?_) (fun ag => ?_)
  rw [if_pos ag] at H
  refine On rfl <| On rfl <| On rfl <| Opk rfl <| Zd (av _ _ _ (T4 rfl) (aw true _ H hs))
  rw [if_neg ag] at H
  refine Oe rfl <| Mv rfl <| Oe rfl <| O_y rfl (Zwt rfl rfl) <| Oe rfl <| Ogt rfl <| Opk rfl <| Zd (av _ _ _ (T4 rfl) (aw (decide (122 < (bOr .u8 (rd (Kr x0) aa) 32))) _ H hs))
  rw [if_neg al] at H
  refine Y4 (a4 _ _ (a2 _ _ <| Wr fun be an => As rfl <| Ox an <| Zk ?_))
  obtain rfl := Zz H
  exact r1 rfl ⟨rfl, (hs.less ai)⟩
 refine Zc <| Mv rfl <| O_y rfl (Zd0 un9 rfl) <| Ols rfl <| Mv rfl <| X6 (dj := 8) rfl (fun ah => ?_) (fun ah => ?_)
 rw [if_pos ah] at H
 refine On rfl <| On rfl <| On rfl <| Opk rfl <| Zd (ao _ _ _ (T2 rfl) (ap true _ H hs))
 rw [if_neg ah] at H
 refine Oe rfl <| Mv rfl <| Oe rfl <| O_y rfl (Zd0 un9 rfl) <| Oe rfl <| Ogt rfl <| Opk rfl <| Zd (ao _ _ _ (T2 rfl) (ap (decide (32 < (x0.size : Int))) _ H hs))

def Yw.l1 : Nat → List ByteArray → ByteArray → Int → Option Int
  | 0, _, _, _ => none
  | ab + 1, x0, x1, aa => if aa < (x0.length : Int) then (if (0 : Int) ≤ aa ∧ aa < (x0.length : Int) then (if x1 = (rd x0 aa) then (some aa) else ((Yw.l1 ab x0 x1) (i64.wrap (aa + 1)))) else none) else (some (-1))
def Yw.f (x0 : List ByteArray) (x1 : ByteArray) : Option Int := Yw.l1 K0 x0 x1 0
theorem Yw.c (hs : St w0 ρ (Γ) w) {v0 : Value} {x0 : List ByteArray} (h0 : SlR Rep.str ρ v0 x0) {x1 : ByteArray} {r : Int} (H : Yw.f x0 x1 = some r) : Zn Tryz.prog 171 [v0, .string x1] w (fun v w' => v = .int .i64 r ∧ St w0 ρ Γ w') := by
 rw [Yw.f] at H
 refine Et Tryz.func171 Tryz.ntmps171 rfl <| Wr fun av ag => As rfl <| Ox ag <| Zh fun aw ah => Wr fun ax ai => Mv rfl <| O_y rfl (Yv Zga h0 rfl) <| Mv rfl <| Ox ai <| Zj fun ay aj az => Y9 (σ := Nat × Int) (fun (ab, aa) => [(0, v0), (1, .string x1), (7, .int .i64 (x0.length : Int)), (8, .int .i64 aa)]) (fun (ab, aa) w => Yw.l1 ab x0 x1 aa = some r ∧ St w0 ρ (Γ) w) (fun s => s.1) (K0, 0) (T4 rfl) (Ai H hs) ?_
 rintro ⟨ab, aa⟩ w a0 ⟨H, hs⟩ ac
 show W _ _ _ _ _ _ [(0, v0), (1, .string x1), (7, .int .i64 (x0.length : Int)), (8, .int .i64 aa)] w
 cases ab with
 | zero => rw [Yw.l1] at H; cases H
 | succ ab =>
 rw [Yw.l1] at H
 refine Wr fun a1 ak => Ols rfl <| Ox ak <| Zh fun a2 al => Y7 rfl (fun ad => ?_) (fun ad => ?_)
 rw [if_pos ad] at H
 refine Wx al <| Zh fun a3 am => Zj fun a4 a5 a6 => Wr fun a7 an => Mv rfl <| As rfl <| Ox an <| Wr fun a8 ao => Mv rfl <| Mv rfl <| Mv rfl ?_
 obtain ⟨af, H⟩ := gd H
 obtain ⟨a9, ba, ap, aq⟩ := h0.ix Zf7 af.1 af.2
 refine O_y rfl (aq rfl rfl) <| O_y rfl (Xp ag9 rfl (hs.see ap.str)) <| O_y rfl (Zls rfl rfl) <| Ox ao <| Y7 rfl (fun ae => ?_) (fun ae => ?_)
 rw [if_pos ae] at H
 refine Wr fun bb ar => Mv rfl <| As rfl <| Ox ar <| W.weak [(4, _)] (S1 rfl) <| Zk ?_
 obtain rfl := Zz H
 exact r1 rfl ⟨rfl, hs⟩
 rw [if_neg ae] at H
 refine Wx am <| Zc <| Oad rfl <| Mv rfl <| Zd (ac (ab, (i64.wrap (aa + 1))) _ _ (T4 rfl) (Ai H hs) (Nat.lt_succ_self _))
 rw [if_neg ad] at H
 refine Y4 (aj _ _ (ah _ _ <| Wr fun bc au => As rfl <| Ox au <| Zk ?_))
 obtain rfl := Zz H
 exact r1 rfl ⟨rfl, hs⟩

def Q2.f (x0 : List ByteArray) (x1 : ByteArray) : Option Bool := (Yw.f x0 x1).bind fun ab => (some (decide (0 ≤ ab)))
theorem Q2.c (hs : St w0 ρ (Γ) w) {v0 : Value} {x0 : List ByteArray} (h0 : SlR Rep.str ρ v0 x0) {x1 : ByteArray} {r : Bool} (H : Q2.f x0 x1 = some r) : Zn Tryz.prog 144 [v0, .string x1] w (fun v w' => v = .bool r ∧ St w0 ρ Γ w') := by
 rw [Q2.f] at H
 refine Et Tryz.func144 Tryz.ntmps144 rfl <| Wr fun ae ac => As rfl <| Ox ac <| Wr fun af ad => Mv rfl <| Mv rfl ?_
 obtain ⟨ab, aa, H⟩ := bnd H
 refine Oc rfl (Yw.c hs h0 aa) (fun ag w hpost => ?_)
 obtain ⟨rfl, hs⟩ := hpost
 refine Oge rfl <| As rfl <| Ox ad <| Zk ?_
 obtain rfl := Zz H
 exact r1 rfl ⟨rfl, hs⟩

def Kf.j1 (ad : Int → Option Int) (aa : Int) (ab : Bool) : Option Int := if ab = true then (some aa) else (ad (i64.wrap (aa + 1)))
def Kf.l1 : Nat → List ByteArray → Int → Option Int
  | 0, _, _ => none
  | ac + 1, x0, aa => if aa < (x0.length : Int) then (if (0 : Int) ≤ aa ∧ aa < (x0.length : Int) then ((Xt.f (rd x0 aa)).bind fun aq => (if (!aq) = true then (Kf.j1 (Kf.l1 ac x0) aa true) else (if (0 : Int) ≤ 0 ∧ 0 ≤ aa ∧ aa ≤ (x0.length : Int) then ((Q2.f (sub x0 0 aa) (rd x0 aa)).bind fun ae => (Kf.j1 (Kf.l1 ac x0) aa ae)) else none))) else none) else (some (-1))
def Kf.f (x0 : List ByteArray) : Option Int := if 64 < (x0.length : Int) then (some 64) else (Kf.l1 K0 x0 0)
theorem Kf.c (hs : St w0 ρ (Γ) w) {v0 : Value} {x0 : List ByteArray} (h0 : SlR Rep.str ρ v0 x0) {r : Int} (H : Kf.f x0 = some r) : Zn Tryz.prog 93 [v0] w (fun v w' => v = .int .i64 r ∧ St w0 ρ Γ w') := by
 rw [Kf.f] at H
 refine Et Tryz.func93 Tryz.ntmps93 rfl <| Wr fun be aw => As rfl <| Ox aw <| Zh fun bf ax => Wr fun bg ay => Mv rfl <| O_y rfl (Yv Zga h0 rfl) <| Ogt rfl <| Ox ay <| Y7 rfl (fun ah => ?_) (fun ah => ?_)
 rw [if_pos ah] at H
 refine Wr fun bh az => As rfl <| Ox az <| Zk ?_
 obtain rfl := Zz H
 exact r1 rfl ⟨rfl, hs⟩
 rw [if_neg ah] at H
 refine Wx ax <| Zh fun bi a0 => Wr fun bj a1 => Mv rfl <| O_y rfl (Yv Zga h0 rfl) <| Mv rfl <| Ox a1 <| Zj fun bk a2 bl => Y9 (σ := Nat × Int) (fun (ac, aa) => [(0, v0), (8, v0), (9, .int .i64 (x0.length : Int)), (10, .int .i64 aa)]) (fun (ac, aa) w => Kf.l1 ac x0 aa = some r ∧ St w0 ρ (Γ) w) (fun s => s.1) (K0, 0) (T4 rfl) (Ai H hs) ?_
 rintro ⟨ac, aa⟩ w bm ⟨H, hs⟩ af
 show W _ _ _ _ _ _ [(0, v0), (8, v0), (9, .int .i64 (x0.length : Int)), (10, .int .i64 aa)] w
 cases ac with
 | zero => rw [Kf.l1] at H; cases H
 | succ ac =>
 rw [Kf.l1] at H
 refine Wr fun bn a3 => Ols rfl <| Ox a3 <| Zh fun bo a4 => Y7 rfl (fun ai => ?_) (fun ai => ?_)
 rw [if_pos ai] at H
 refine Wx a4 <| Zh fun bp a5 => Zj fun bq br bs => Wr fun bt a6 => Mv rfl ?_
 obtain ⟨ar, H⟩ := gd H
 obtain ⟨bu, bv, a7, a8⟩ := h0.ix Zf7 ar.1 ar.2
 refine O_y rfl (a8 rfl rfl) <| O_y rfl (Xp ag9 rfl (hs.see a7.str)) <| As rfl <| As rfl <| Ox a6 <| Yu fun a9 ba au => ?_
 have av : ∀ (ab : Bool) (w : World), Kf.j1 (Kf.l1 ac x0) aa ab = some r → St w0 ρ (Γ) w → a9 [(0, v0), (3, .int .i64 aa), (8, v0), (9, .int .i64 (x0.length : Int)), (10, .int .i64 aa), (24, .bool ab)] w := by
  intro ab w H hs
  rw [Kf.j1] at H
  refine ba _ _ <| Xg rfl (fun aj => ?_) (fun aj => ?_)
  rw [if_pos aj] at H
  refine Wr fun bw bb => Mv rfl <| As rfl <| Ox bb <| Zk ?_
  obtain rfl := Zz H
  exact r1 rfl ⟨rfl, hs⟩
  rw [if_neg (bft aj)] at H
  refine Wx a5 <| Zc <| Oad rfl <| Mv rfl <| Zd (af (ac, (i64.wrap (aa + 1))) _ _ (T4 rfl) (Ai H hs) (Nat.lt_succ_self _))
 refine Zc <| Mv rfl ?_
 obtain ⟨aq, ak, H⟩ := bnd H
 refine Oc rfl (Xt.c hs ak) (fun bx w hpost => ?_)
 obtain ⟨rfl, hs⟩ := hpost
 refine Ont rfl <| Mv rfl <| U8 (dj := 18) rfl (fun al => ?_) (fun al => ?_)
 rw [if_pos al] at H
 refine On rfl <| On rfl <| On rfl <| On rfl <| On rfl <| Opk rfl <| Zd (au _ _ _ sbn (av true _ H hs))
 rw [if_neg (bft al)] at H
 refine Oe rfl <| Mv rfl <| Oe rfl <| Mv rfl ?_
 obtain ⟨am, H⟩ := gd H
 obtain ⟨bz, an, ao⟩ := h0.cut Zf7 am.1 am.2.1 am.2.2
 refine Oe rfl <| O_y rfl (ao rfl (.inl ⟨rfl, rfl⟩) (.inr ⟨_, _, rfl, rfl⟩)) <| Oe rfl <| Mv rfl <| Oe rfl ?_
 obtain ⟨ae, ag, H⟩ := bnd H
 refine Oc rfl (Q2.c hs an ag) (fun bc w hpost => ?_)
 obtain ⟨rfl, hs⟩ := hpost
 refine Opk rfl <| Zd (au _ _ _ sbn (av ae _ H hs))
 rw [if_neg ai] at H
 refine Y4 (a2 _ _ (a0 _ _ <| Wr fun bd ap => As rfl <| Ox ap <| Zk ?_))
 obtain rfl := Zz H
 exact r1 rfl ⟨rfl, hs⟩

def U3.f (y0_0 : List ByteArray) (y0_1 : List Val) (y0_2 : List Chs) (y0_3 : List Val) (y0_4 : List Chs) (y0_5 : List Spn) (y0_6 y0_7 : List Val) (y0_8 : List Spn) (y0_9 : List Val) (y0_10 : List Chs) : Option Int := (Kf.f y0_0).bind fun ab => (some ab)
theorem U3.c {pb0 : Nat} {w0_0 : Value} {y0_0 : List ByteArray} {w0_1 : Value} {y0_1 : List Val} {w0_2 : Value} {y0_2 : List Chs} {w0_3 : Value} {y0_3 : List Val} {w0_4 : Value} {y0_4 : List Chs} {w0_5 : Value} {y0_5 : List Spn} {w0_6 : Value} {y0_6 : List Val} {w0_7 : Value} {y0_7 : List Val} {w0_8 : Value} {y0_8 : List Spn} {w0_9 : Value} {y0_9 : List Val} {w0_10 : Value} {y0_10 : List Chs} (hs : St w0 ρ ((.box pb0 27 ([w0_0, w0_1, w0_2, w0_3, w0_4, w0_5, w0_6, w0_7, w0_8, w0_9, w0_10])) :: Γ) w) (g0_0 : SlR Rep.str ρ w0_0 y0_0) (g0_1 : SlR X9 ρ w0_1 y0_1) (g0_2 : SlR Ks ρ w0_2 y0_2) (g0_3 : SlR X9 ρ w0_3 y0_3) (g0_4 : SlR Ks ρ w0_4 y0_4) (g0_5 : SlR Kd ρ w0_5 y0_5) (g0_6 : SlR X9 ρ w0_6 y0_6) (g0_7 : SlR X9 ρ w0_7 y0_7) (g0_8 : SlR Kd ρ w0_8 y0_8) (g0_9 : SlR X9 ρ w0_9 y0_9) (g0_10 : SlR Ks ρ w0_10 y0_10) {r : Int} (H : U3.f y0_0 y0_1 y0_2 y0_3 y0_4 y0_5 y0_6 y0_7 y0_8 y0_9 y0_10 = some r) : Zn Tryz.prog 92 [.pointer (some ⟨pb0, 0, none⟩)] w (fun v w' => v = .int .i64 r ∧ St w0 ρ ((.box pb0 27 ([w0_0, w0_1, w0_2, w0_3, w0_4, w0_5, w0_6, w0_7, w0_8, w0_9, w0_10])) :: Γ) w') := by
 rw [U3.f] at H
 refine Et Tryz.func92 Tryz.ntmps92 rfl <| Wr fun ae ac => As rfl <| Ox ac <| Wr fun af ad => Ofd Zk6 rfl <| Obx 0 Zp2 hs rfl ?_
 obtain ⟨ab, aa, H⟩ := bnd H
 refine Oc rfl (Kf.c hs g0_0 aa) (fun ag w hpost => ?_)
 obtain ⟨rfl, hs⟩ := hpost
 refine As rfl <| Ox ad <| Zk ?_
 obtain rfl := Zz H
 exact r1 rfl ⟨rfl, hs⟩

def Va.f (x0 : Val) : Option Spn := some (⟨x0.lo, x0.hi⟩ : Spn)
theorem Va.c (hs : St w0 ρ (Γ) w) {c0 : List Value} {x0 : Val} (h0 : X9.R ρ c0 x0) {r : Spn} (H : Va.f x0 = some r) : Zn Tryz.prog 146 [.agg c0.toArray] w (fun v w' => ∃ (ρ' : Hp) (cs0 : List Value), v = .agg cs0.toArray ∧ Le ρ ρ' ∧ St w0 ρ' (Γ) w' ∧ Kd.R ρ' cs0 r) := by
 rw [Va.f] at H
 refine Et Tryz.func146 Tryz.ntmps146 rfl ?_
 have aa := h0
 obtain rfl := aa
 refine Wr fun ad ab => Vg (cs := [.int .i32 x0.lo, .int .i32 x0.hi, .int .i64 x0.n]) hs rfl rfl (fun ae w hs => Y6 Zay hs rfl (fun af w hs => Ox ab <| Wr fun ag ac => Ofd Zep rfl <| Obx 1 Xm hs rfl <| Ofd Zdm rfl <| Obx 1 Xm hs rfl <| O_y rfl (Qe (cs := [.int .i32 x0.lo, .int .i32 x0.hi]) Zay Zj2 ((Z2.cons rfl rfl (Z2.cons rfl rfl Z2.nil))) Za7 (by kernel_rfl)) <| Ye (i := 0) Hj hs rfl rfl rfl rfl rfl (Zb rfl (Zb rfl Yj)) (fun w hs => Zd (ac _ _ ?_))))
 refine Zk ?_
 obtain rfl := Zz H
 exact Zit (i := 0) rfl rfl Za7 Hj hs rfl rfl ⟨_, _, rfl, Le.rfl' _, (hs.sub (ssk (ssk ssr))), rfl⟩

def Hl.f (x0 : Spn) : Option Bool := some true
theorem Hl.c (hs : St w0 ρ (Γ) w) {c0 : List Value} {x0 : Spn} (h0 : Kd.R ρ c0 x0) {r : Bool} (H : Hl.f x0 = some r) : Zn Tryz.prog 87 [.agg c0.toArray] w (fun v w' => v = .bool r ∧ St w0 ρ Γ w') := by
 rw [Hl.f] at H
 refine Et Tryz.func87 Tryz.ntmps87 rfl ?_
 have aa := h0
 obtain rfl := aa
 refine Wr fun ad ab => Vg (cs := [.int .i32 x0.lo, .int .i32 x0.hi]) hs rfl rfl (fun ae w hs => As rfl <| Ox ab <| Wr fun af ac => As rfl <| Ox ac <| Zk ?_)
 obtain rfl := Zz H
 exact r1 rfl ⟨rfl, (hs.sub (ssk ssr))⟩

def Qx.j1 (aa : Bool) : Option Bool := some aa
def Qx.f (x0 : Val) (y0_0 y1_0 : Int) : Option Bool := if y0_0 ≤ x0.n then (if x0.n ≤ y1_0 then ((Va.f x0).bind fun al => ((Hl.f al).bind fun ae => (Qx.j1 ae))) else (Qx.j1 false)) else (Qx.j1 false)
theorem Qx.c {pb0 : Nat} {y0_0 : Int} {pb1 : Nat} {y1_0 : Int} {pb2 : Nat} (hs : St w0 ρ ((.box pb0 3 ([.int .i64 y0_0])) :: (.box pb1 3 ([.int .i64 y1_0])) :: (.box pb2 133 ([.func (.func 87) #[] #[]])) :: Γ) w) {c0 : List Value} {x0 : Val} (h0 : X9.R ρ c0 x0) {r : Bool} (H : Qx.f x0 y0_0 y1_0 = some r) : Zn Tryz.prog 147 [.agg c0.toArray, .pointer (some ⟨pb0, 0, none⟩), .pointer (some ⟨pb1, 0, none⟩), .pointer (some ⟨pb2, 0, none⟩)] w (fun v w' => v = .bool r ∧ St w0 ρ ((.box pb0 3 ([.int .i64 y0_0])) :: (.box pb1 3 ([.int .i64 y1_0])) :: (.box pb2 133 ([.func (.func 87) #[] #[]])) :: Γ) w') := by
 rw [Qx.f] at H
 refine Et Tryz.func147 Tryz.ntmps147 rfl ?_
 have ao := h0
 obtain rfl := ao
 refine Wr fun az ap => Vg (cs := [.int .i32 x0.lo, .int .i32 x0.hi, .int .i64 x0.n]) hs rfl rfl (fun am w hs => As rfl <| Ox ap <| Yu fun aq ar af => ?_)
 have ag : ∀ (aa : Bool) (ab : Hp) (w : World), Qx.j1 aa = some r → Le ρ ab → St w0 ab ((.box am 67 ([.int .i32 x0.lo, .int .i32 x0.hi, .int .i64 x0.n])) :: (.box pb0 3 ([.int .i64 y0_0])) :: (.box pb1 3 ([.int .i64 y1_0])) :: (.box pb2 133 ([.func (.func 87) #[] #[]])) :: Γ) w → aq [(5, .bool aa)] w := by
  intro aa ab w H ad hs
  rw [Qx.j1] at H
  refine ar _ _ <| Zk ?_
  obtain rfl := Zz H
  exact r1 rfl ⟨rfl, ((hs.sub (ssk (ssc (ssc (ssc ssr))))).less ad)⟩
 refine Qn 17 [0, 1, 0, 6, 8, 16, 48, 16, 208, 272, 528, 1024, 1024, 5120, 11264, 17408, 65535] [65532, 65524, 65523, 65504, 63488, 65408, 65152, 65120, 64512, 63488, 0, 45056, 51200, 34816, 0, 0, 0] [0, 1, 0, 7, 15, 31, 63, 31, 255, 511, 1023, 2047, 2047, 6143, 16383, 32767, 65535] [] (fun w => St w0 ρ ((.box am 67 ([.int .i32 x0.lo, .int .i32 x0.hi, .int .i64 x0.n])) :: (.box pb0 3 ([.int .i64 y0_0])) :: (.box pb1 3 ([.int .i64 y1_0])) :: (.box pb2 133 ([.func (.func 87) #[] #[]])) :: Γ) w) Vl (by kernel_rfl) (fun sh => ?_)
 have hs := hs.drew
 refine Fp 0 sh rfl (fun w => Zp Zdt rfl) <| Fy 1 sh rfl hs (fun w hs => Yb 0 ag3 hs rfl rfl rfl) <| Fy 2 sh rfl hs (fun w hs => Yb 1 ag3 hs rfl rfl rfl) <| Fp 3 sh rfl (fun w => Zoj rfl rfl) <| Fm 4 sh rfl <| Zav (dj := 10) rfl (fun ah => ?_) (fun ah => ?_)
 rw [if_pos ah] at H
 refine Fp 5 sh rfl (fun w => Zp Zdt rfl) <| Fy 6 sh rfl hs (fun w hs => Yb 0 ag3 hs rfl rfl rfl) <| Fy 7 sh rfl hs (fun w hs => Yb 2 ag3 hs rfl rfl rfl) <| Fp 8 sh rfl (fun w => Zmd rfl rfl) <| Fp 9 sh rfl (fun w => J7 rfl rfl) <| Fm 10 sh rfl <| Zav (dj := 16) rfl (fun ai => ?_) (fun ai => ?_)
 rw [if_pos ai] at H
 refine Fy 11 sh rfl hs (fun w hs => Yb 3 Zej hs rfl rfl rfl) <| Fy 12 sh rfl hs (fun w hs => Xk (i := 0) Ze7 Zeg hs rfl rfl rfl rfl) <| F1 13 sh rfl (fun a0 au => Oe rfl ?_)
 obtain ⟨al, aj, H⟩ := bnd H
 refine Oc rfl (Va.c hs h0 aj) (fun a1 w hpost => ?_)
 obtain ⟨av, aw, rfl, ac, hs, an⟩ := hpost
 have ax := an
 obtain rfl := ax
 refine Zd (au _ _ (fun _ _ => (hs.less ac)) <| F1 14 sh rfl (fun a2 ay => Oe rfl ?_))
 obtain ⟨ae, ak, H⟩ := bnd H
 refine Xo rfl rfl rfl (Hl.c hs an ak) (fun a3 w hpost => ?_)
 obtain ⟨rfl, hs⟩ := hpost
 refine Zd (ay _ _ (fun _ _ => (hs.less ac)) <| Fp 15 sh rfl (fun w => J7 rfl rfl) <| Fp 16 sh rfl (fun w => Xv rfl) <| FE sh (af _ _ _ (S1 rfl) (ag ae av _ H ac hs)))
 rw [if_neg ai] at H
 refine Fn 11 sh rfl <| Fn 12 sh rfl <| Fn 13 sh rfl <| Fn 14 sh rfl <| Fp 15 sh rfl (fun w => Qr rfl rfl) <| Fp 16 sh rfl (fun w => Xv rfl) <| FE sh (af _ _ _ (S1 rfl) (ag false ρ _ H (Le.rfl' _) hs))
 rw [if_neg ah] at H
 refine Fn 5 sh rfl <| Fn 6 sh rfl <| Fn 7 sh rfl <| Fn 8 sh rfl <| Fp 9 sh rfl (fun w => Qr rfl rfl) <| Fm 10 sh rfl <| Fn 11 sh rfl <| Fn 12 sh rfl <| Fn 13 sh rfl <| Fn 14 sh rfl <| Fp 15 sh rfl (fun w => Qr rfl rfl) <| Fp 16 sh rfl (fun w => Xv rfl) <| FE sh (af _ _ _ (S1 rfl) (ag false ρ _ H (Le.rfl' _) hs))

def Zq.j1 (ak : Int → Int → Option Int) (aa : Int) (ae : Spn) (ab : Bool) : Option Int := if ab = true then (some aa) else (ak ae.hi (i64.wrap (aa + 1)))
def Zq.l1 : Nat → Int → Int → List Val → Int → Int → Option Int
  | 0, _, _, _, _, _ => none
  | ac + 1, y0_0, y1_0, x0, ad, aa => if aa < (x0.length : Int) then (if (0 : Int) ≤ aa ∧ aa < (x0.length : Int) then ((Va.f (rd x0 aa)).bind fun ae => (if ae.lo ≤ ad then (Zq.j1 (Zq.l1 ac y0_0 y1_0 x0) aa ae true) else (if ae.hi < ae.lo then (Zq.j1 (Zq.l1 ac y0_0 y1_0 x0) aa ae true) else (if 1114111 < ae.hi then (Zq.j1 (Zq.l1 ac y0_0 y1_0 x0) aa ae true) else ((Qx.f (rd x0 aa) y0_0 y1_0).bind fun al => (Zq.j1 (Zq.l1 ac y0_0 y1_0 x0) aa ae (!al))))))) else none) else (some (-1))
def Zq.f (x0 : List Val) (y0_0 y1_0 : Int) : Option Int := if 65536 < (x0.length : Int) then (some 65536) else (Zq.l1 K0 y0_0 y1_0 x0 (-1) 0)
theorem Zq.c {pb0 : Nat} {y0_0 : Int} {pb1 : Nat} {y1_0 : Int} {pb2 : Nat} (hs : St w0 ρ ((.box pb0 3 ([.int .i64 y0_0])) :: (.box pb1 3 ([.int .i64 y1_0])) :: (.box pb2 133 ([.func (.func 87) #[] #[]])) :: Γ) w) {v0 : Value} {x0 : List Val} (h0 : SlR X9 ρ v0 x0) {r : Int} (H : Zq.f x0 y0_0 y1_0 = some r) : Zn Tryz.prog 145 [v0, .func (.func 146) #[] #[], .func (.func 147) #[] #[.pointer (some ⟨pb0, 0, none⟩), .pointer (some ⟨pb1, 0, none⟩), .pointer (some ⟨pb2, 0, none⟩)]] w (fun v w' => v = .int .i64 r ∧ St w0 ρ ((.box pb0 3 ([.int .i64 y0_0])) :: (.box pb1 3 ([.int .i64 y1_0])) :: (.box pb2 133 ([.func (.func 87) #[] #[]])) :: Γ) w') := by
 rw [Zq.f] at H
 refine Et Tryz.func145 Tryz.ntmps145 rfl <| Wr fun bt a6 => As rfl <| Ox a6 <| Zh fun bu a7 => Wr fun bv a8 => Mv rfl <| O_y rfl (Yv Zfb h0 rfl) <| Ogt rfl <| Ox a8 <| Y7 rfl (fun av => ?_) (fun av => ?_)
 rw [if_pos av] at H
 refine Wr fun bw a9 => As rfl <| Ox a9 <| Zk ?_
 obtain rfl := Zz H
 exact r1 rfl ⟨rfl, hs⟩
 rw [if_neg av] at H
 refine Wx a7 <| Wr fun bx ba => As rfl <| Ox ba <| Zh fun bz bb => Wr fun b0 bc => Mv rfl <| O_y rfl (Yv Zfb h0 rfl) <| Mv rfl <| Ox bc <| Zj fun b1 bd b2 => Y9 (σ := Nat × Int × Int × Hp) (fun (ac, ad, aa, ag) => [(1, .func (.func 146) #[] #[]), (2, .func (.func 147) #[] #[.pointer (some ⟨pb0, 0, none⟩), .pointer (some ⟨pb1, 0, none⟩), .pointer (some ⟨pb2, 0, none⟩)]), (7, .int .i32 ad), (14, v0), (15, .int .i64 (x0.length : Int)), (16, .int .i64 aa)]) (fun (ac, ad, aa, ag) w => Zq.l1 ac y0_0 y1_0 x0 ad aa = some r ∧ Le ρ ag ∧ St w0 ag ((.box pb0 3 ([.int .i64 y0_0])) :: (.box pb1 3 ([.int .i64 y1_0])) :: (.box pb2 133 ([.func (.func 87) #[] #[]])) :: Γ) w) (fun s => s.1) (K0, (-1), 0, ρ) sbn (Ai H (Ai (Le.rfl' _) hs)) ?_
 rintro ⟨ac, ad, aa, ag⟩ w b3 ⟨H, af, hs⟩ am
 show W _ _ _ _ _ _ [(1, .func (.func 146) #[] #[]), (2, .func (.func 147) #[] #[.pointer (some ⟨pb0, 0, none⟩), .pointer (some ⟨pb1, 0, none⟩), .pointer (some ⟨pb2, 0, none⟩)]), (7, .int .i32 ad), (14, v0), (15, .int .i64 (x0.length : Int)), (16, .int .i64 aa)] w
 cases ac with
 | zero => rw [Zq.l1] at H; cases H
 | succ ac =>
 rw [Zq.l1] at H
 refine Wr fun b4 be => Ols rfl <| Ox be <| Zh fun b5 bf => Y7 rfl (fun aw => ?_) (fun aw => ?_)
 rw [if_pos aw] at H
 refine Wx bf <| Zh fun b6 bg => Zj fun b7 b8 b9 => Wr fun ca bh => Mv rfl ?_
 obtain ⟨a4, H⟩ := gd H
 obtain ⟨cb, cc, bi, bj⟩ := (h0.mono af).ix Zcg a4.1 a4.2
 obtain ⟨_, rfl, bk⟩ := bi
 refine O_y rfl (bj rfl rfl) <| O_y rfl (Qv Ze7 Zeg rfl rfl (fun j u hu => hs.see (bk j u hu))) <| Y6 Zlb hs rfl (fun bl w hs => As rfl <| Ye (i := 0) Zeg hs rfl rfl rfl rfl rfl (Zb rfl (Zb rfl (Zb rfl Yj))) (fun w hs => Ox bh <| Wr fun cd bm => Mv rfl <| O_y rfl (Xk (i := 0) Ze7 Zeg hs rfl rfl rfl rfl) ?_))
 obtain ⟨ae, ax, H⟩ := bnd H
 refine Xo rfl rfl rfl (Va.c hs rfl ax) (fun ce w hpost => ?_)
 obtain ⟨a5, bn, rfl, aj, hs, bo⟩ := hpost
 have ay := bo
 obtain rfl := ay
 refine Y6 Zay hs rfl (fun ar w hs => Ye (i := 0) Hj hs rfl rfl rfl rfl rfl (Zb rfl (Zb rfl Yj)) (fun w hs => Ox bm <| W.weak [(1, _), (2, _), (7, _), (8, _), (9, _), (10, _), (14, _), (15, _), (16, _)] sbn ?_))
 refine Zh fun bp az => Yu fun a0 a1 ah => ?_
 have ai : ∀ (ab : Bool) (w : World), Zq.j1 (Zq.l1 ac y0_0 y1_0 x0) aa ae ab = some r → St w0 a5 ((.box ar 129 ([.int .i32 ae.lo, .int .i32 ae.hi])) :: (.box bl 67 ([.int .i32 ((rd x0 aa).lo), .int .i32 ((rd x0 aa).hi), .int .i64 ((rd x0 aa).n)])) :: (.box pb0 3 ([.int .i64 y0_0])) :: (.box pb1 3 ([.int .i64 y1_0])) :: (.box pb2 133 ([.func (.func 87) #[] #[]])) :: Γ) w → a0 [(1, .func (.func 146) #[] #[]), (2, .func (.func 147) #[] #[.pointer (some ⟨pb0, 0, none⟩), .pointer (some ⟨pb1, 0, none⟩), .pointer (some ⟨pb2, 0, none⟩)]), (8, .int .i64 aa), (10, .pointer (some ⟨ar, 0, none⟩)), (14, v0), (15, .int .i64 (x0.length : Int)), (16, .int .i64 aa), (45, .bool ab)] w := by
  intro ab w H hs
  rw [Zq.j1] at H
  refine a1 _ _ <| Xg rfl (fun an => ?_) (fun an => ?_)
  rw [if_pos an] at H
  refine Wr fun bq a2 => Mv rfl <| As rfl <| Ox a2 <| Zk ?_
  obtain rfl := Zz H
  exact r1 rfl ⟨rfl, ((hs.sub (ssk (ssk (ssc (ssc (ssc ssr)))))).less (af.trans aj))⟩
  rw [if_neg (bft an)] at H
  refine Wx az <| Zc <| Ofd Vr rfl <| Obx 0 Xm hs rfl <| As rfl <| Ox bg <| Zc <| Oad rfl <| Mv rfl <| Zd (am (ac, ae.hi, (i64.wrap (aa + 1)), a5) _ _ sbn (Ai H (Ai (af.trans aj) (hs.sub (ssk (ssk (ssc (ssc (ssc ssr)))))))) (Nat.lt_succ_self _))
 refine Zc <| Ofd Uw rfl <| Obx 0 Xm hs rfl <| Mv rfl <| Ole rfl <| Mv rfl <| X6 (dj := 28) rfl (fun ao => ?_) (fun ao => ?_)
 rw [if_pos ao] at H
 refine On rfl <| On rfl <| On rfl <| On rfl <| On rfl <| Opk rfl <| Mv rfl <| On rfl <| On rfl <| On rfl <| Opk rfl <| Mv rfl <| On rfl <| On rfl ?_
 refine On rfl <| On rfl <| Opk rfl <| Zd (ah _ _ _ sbn (ai true _ H hs))
 rw [if_neg ao] at H
 refine Oe rfl <| Ofd Vr rfl <| Oe rfl <| Obx 0 Xm hs rfl <| Oe rfl <| Ofd Uw rfl <| Oe rfl <| Obx 0 Xm hs rfl <| Oe rfl <| Ols rfl <| Opk rfl <| Mv rfl <| X6 (dj := 35) rfl (fun ap => ?_) (fun ap => ?_)
 rw [if_pos ap] at H
 refine On rfl <| On rfl <| On rfl <| Opk rfl <| Mv rfl <| On rfl <| On rfl <| On rfl <| On rfl <| Opk rfl <| Zd (ah _ _ _ sbn (ai true _ H hs))
 rw [if_neg ap] at H
 refine Oe rfl <| Ofd Vr rfl <| Oe rfl <| Obx 0 Xm hs rfl <| Oe rfl <| Ogt rfl <| Opk rfl <| Mv rfl <| X6 (dj := 40) rfl (fun aq => ?_) (fun aq => ?_)
 rw [if_pos aq] at H
 refine On rfl <| On rfl <| On rfl <| On rfl <| Opk rfl <| Zd (ah _ _ _ sbn (ai true _ H hs))
 rw [if_neg aq] at H
 refine Oe rfl <| Mv rfl <| Oe rfl <| O_y rfl (Xk (i := 1) Ze7 Zeg hs rfl rfl rfl rfl) <| Oe rfl ?_
 have hs := hs.front 4 rfl
 have hs := hs.front 4 rfl
 have hs := hs.front 4 rfl
 obtain ⟨al, au, H⟩ := bnd H
 refine Xo rfl rfl rfl (Qx.c hs rfl au) (fun br w hpost => ?_)
 obtain ⟨rfl, hs⟩ := hpost
 have hs := hs.sink 4
 have hs := hs.sink 4
 have hs := hs.sink 4
 refine Oe rfl <| Ont rfl <| Opk rfl <| Zd (ah _ _ _ sbn (ai (!al) _ H hs))
 rw [if_neg aw] at H
 refine Y4 (bd _ _ (bb _ _ <| Wr fun bs a3 => As rfl <| Ox a3 <| Zk ?_))
 obtain rfl := Zz H
 exact r1 rfl ⟨rfl, (hs.less af)⟩

def Xu.f (x0 : List Val) (x1 x2 : Int) : Option Int := (Zq.f x0 x1 x2).bind fun ab => (some ab)
theorem Xu.c (hs : St w0 ρ (Γ) w) {v0 : Value} {x0 : List Val} (h0 : SlR X9 ρ v0 x0) {x1 x2 r : Int} (H : Xu.f x0 x1 x2 = some r) : Zn Tryz.prog 95 [v0, .int .i64 x1, .int .i64 x2, .func (.func 87) #[] #[]] w (fun v w' => v = .int .i64 r ∧ St w0 ρ Γ w') := by
 rw [Xu.f] at H
 refine Et Tryz.func95 Tryz.ntmps95 rfl <| Wr fun ae ac => Zcj hs rfl rfl rfl (fun af w hs => Zcj hs rfl rfl rfl (fun ag w hs => Zcj hs rfl rfl rfl (fun ah w hs => As rfl <| Ox ac <| Wr fun ai ad => Mv rfl <| O_y rfl (Ux rfl) ?_)))
 have hs := hs.front 1 rfl
 have hs := hs.front 2 rfl
 obtain ⟨ab, aa, H⟩ := bnd H
 refine Oc rfl (Zq.c hs h0 aa) (fun aj w hpost => ?_)
 obtain ⟨rfl, hs⟩ := hpost
 have hs := hs.sink 2
 have hs := hs.sink 1
 refine As rfl <| Ox ad <| Zk ?_
 obtain rfl := Zz H
 exact r1 rfl ⟨rfl, (hs.sub (ssk (ssk (ssk ssr))))⟩

def U0.f (y0_0 : List ByteArray) (y0_1 : List Val) (y0_2 : List Chs) (y0_3 : List Val) (y0_4 : List Chs) (y0_5 : List Spn) (y0_6 y0_7 : List Val) (y0_8 : List Spn) (y0_9 : List Val) (y0_10 : List Chs) : Option Int := (Xu.f y0_1 1 3).bind fun ab => (some ab)
theorem U0.c {pb0 : Nat} {w0_0 : Value} {y0_0 : List ByteArray} {w0_1 : Value} {y0_1 : List Val} {w0_2 : Value} {y0_2 : List Chs} {w0_3 : Value} {y0_3 : List Val} {w0_4 : Value} {y0_4 : List Chs} {w0_5 : Value} {y0_5 : List Spn} {w0_6 : Value} {y0_6 : List Val} {w0_7 : Value} {y0_7 : List Val} {w0_8 : Value} {y0_8 : List Spn} {w0_9 : Value} {y0_9 : List Val} {w0_10 : Value} {y0_10 : List Chs} {pb1 : Nat} (hs : St w0 ρ ((.box pb0 27 ([w0_0, w0_1, w0_2, w0_3, w0_4, w0_5, w0_6, w0_7, w0_8, w0_9, w0_10])) :: (.box pb1 133 ([.func (.func 87) #[] #[]])) :: Γ) w) (g0_0 : SlR Rep.str ρ w0_0 y0_0) (g0_1 : SlR X9 ρ w0_1 y0_1) (g0_2 : SlR Ks ρ w0_2 y0_2) (g0_3 : SlR X9 ρ w0_3 y0_3) (g0_4 : SlR Ks ρ w0_4 y0_4) (g0_5 : SlR Kd ρ w0_5 y0_5) (g0_6 : SlR X9 ρ w0_6 y0_6) (g0_7 : SlR X9 ρ w0_7 y0_7) (g0_8 : SlR Kd ρ w0_8 y0_8) (g0_9 : SlR X9 ρ w0_9 y0_9) (g0_10 : SlR Ks ρ w0_10 y0_10) {r : Int} (H : U0.f y0_0 y0_1 y0_2 y0_3 y0_4 y0_5 y0_6 y0_7 y0_8 y0_9 y0_10 = some r) : Zn Tryz.prog 94 [.pointer (some ⟨pb0, 0, none⟩), .pointer (some ⟨pb1, 0, none⟩)] w (fun v w' => v = .int .i64 r ∧ St w0 ρ ((.box pb0 27 ([w0_0, w0_1, w0_2, w0_3, w0_4, w0_5, w0_6, w0_7, w0_8, w0_9, w0_10])) :: (.box pb1 133 ([.func (.func 87) #[] #[]])) :: Γ) w') := by
 rw [U0.f] at H
 refine Et Tryz.func94 Tryz.ntmps94 rfl <| Wr fun ae ac => As rfl <| Ox ac <| Wr fun af ad => Ofd Zdz rfl <| Obx 0 Zbl hs rfl <| Obx 1 Zej hs rfl ?_
 obtain ⟨ab, aa, H⟩ := bnd H
 refine Oc rfl (Xu.c hs g0_1 aa) (fun ag w hpost => ?_)
 obtain ⟨rfl, hs⟩ := hpost
 refine As rfl <| Ox ad <| Zk ?_
 obtain rfl := Zz H
 exact r1 rfl ⟨rfl, hs⟩

def Kl.f (x0 : Chs) : Option Spn := some (⟨x0.lo, x0.hi⟩ : Spn)
theorem Kl.c (hs : St w0 ρ (Γ) w) {c0 : List Value} {x0 : Chs} (h0 : Ks.R ρ c0 x0) {r : Spn} (H : Kl.f x0 = some r) : Zn Tryz.prog 66 [.agg c0.toArray] w (fun v w' => ∃ (ρ' : Hp) (cs0 : List Value), v = .agg cs0.toArray ∧ Le ρ ρ' ∧ St w0 ρ' (Γ) w' ∧ Kd.R ρ' cs0 r) := by
 rw [Kl.f] at H
 refine Et Tryz.func66 Tryz.ntmps66 rfl ?_
 have aa := h0
 obtain ⟨ab, rfl, ae⟩ := aa
 refine Wr fun af ac => Vg (cs := [.int .i32 x0.lo, .int .i32 x0.hi, ab]) hs rfl rfl (fun ag w hs => Y6 Zay hs rfl (fun ah w hs => Ox ac <| Wr fun ai ad => Ofd Zbu rfl <| Obx 1 Xm hs rfl <| Ofd Zhe rfl <| Obx 1 Xm hs rfl <| O_y rfl (Qe (cs := [.int .i32 x0.lo, .int .i32 x0.hi]) Zay Zj2 ((Z2.cons rfl rfl (Z2.cons rfl rfl Z2.nil))) Za7 (by kernel_rfl)) <| Ye (i := 0) Hj hs rfl rfl rfl rfl rfl (Zb rfl (Zb rfl Yj)) (fun w hs => Zd (ad _ _ ?_))))
 refine Zk ?_
 obtain rfl := Zz H
 exact Zit (i := 0) rfl rfl Za7 Hj hs rfl rfl ⟨_, _, rfl, Le.rfl' _, (hs.sub (ssk (ssk ssr))), rfl⟩

def Kj.j1 (aa : Bool) : Option Bool := some aa
def Kj.f (x0 : Int) : Option Bool := if x0 < 0 then (Kj.j1 true) else (if 1114111 < x0 then (Kj.j1 true) else (if 55296 ≤ x0 then (Kj.j1 (decide (x0 ≤ 57343))) else (Kj.j1 false)))
theorem Kj.c (hs : St w0 ρ (Γ) w) {x0 : Int} {r : Bool} (H : Kj.f x0 = some r) : Zn Tryz.prog 142 [.int .i32 x0] w (fun v w' => v = .bool r ∧ St w0 ρ Γ w') := by
 rw [Kj.f] at H
 refine Et Tryz.func142 Tryz.ntmps142 rfl <| Wr fun aj ag => As rfl <| Ox ag <| Yu fun ah ai ab => ?_
 have ac : ∀ (aa : Bool) (w : World), Kj.j1 aa = some r → St w0 ρ (Γ) w → ah [(2, .bool aa)] w := by
  intro aa w H hs
  rw [Kj.j1] at H
  refine ai _ _ <| Zk ?_
  obtain rfl := Zz H
  exact r1 rfl ⟨rfl, hs⟩
 refine Zc <| Mv rfl <| Ols rfl <| Mv rfl <| X6 (dj := 5) rfl (fun ad => ?_) (fun ad => ?_)
 rw [if_pos ad] at H
 refine On rfl <| On rfl <| Opk rfl <| Mv rfl <| On rfl <| On rfl <| On rfl <| Kh rfl rfl rfl <| Kh rfl rfl rfl <| On rfl <| Opk rfl <| As rfl <| Zd (ab _ _ _ (S1 rfl) (ac true _ H hs))
 rw [if_neg ad] at H
 refine Oe rfl <| Mv rfl <| Oe rfl <| Ogt rfl <| Opk rfl <| Mv rfl <| X6 (dj := 9) rfl (fun ae => ?_) (fun ae => ?_)
 rw [if_pos ae] at H
 refine On rfl <| On rfl <| On rfl <| Kh rfl rfl rfl <| Kh rfl rfl rfl <| On rfl <| Opk rfl <| As rfl <| Zd (ab _ _ _ (S1 rfl) (ac true _ H hs))
 rw [if_neg ae] at H
 refine Oe rfl <| Mv rfl <| Oe rfl <| Oge rfl <| Oe rfl <| Mv rfl <| X6 (dj := 12) rfl (fun af => ?_) (fun af => ?_)
 rw [if_pos af] at H
 refine Oe rfl <| Mv rfl <| Oe rfl <| Ole rfl <| Oe rfl <| Opk rfl <| Opk rfl <| As rfl <| Zd (ab _ _ _ (S1 rfl) (ac (decide (x0 ≤ 57343)) _ H hs))
 rw [if_neg af] at H
 refine On rfl <| On rfl <| Oe rfl <| Opk rfl <| Opk rfl <| As rfl <| Zd (ab _ _ _ (S1 rfl) (ac false _ H hs))

def Yn.l1 : Nat → List Int → Int → Option Int
  | 0, _, _ => none
  | ab + 1, x0, aa => if aa < (x0.length : Int) then (if (0 : Int) ≤ aa ∧ aa < (x0.length : Int) then ((Kj.f (rd x0 aa)).bind fun ag => (if ag = true then (some aa) else ((Yn.l1 ab x0) (i64.wrap (aa + 1))))) else none) else (some (-1))
def Yn.f (x0 : List Int) : Option Int := Yn.l1 K0 x0 0
theorem Yn.c (hs : St w0 ρ (Γ) w) {v0 : Value} {x0 : List Int} (h0 : SlR (Rep.int .i32) ρ v0 x0) {r : Int} (H : Yn.f x0 = some r) : Zn Tryz.prog 77 [v0, .func (.func 142) #[] #[]] w (fun v w' => v = .int .i64 r ∧ St w0 ρ Γ w') := by
 rw [Yn.f] at H
 refine Et Tryz.func77 Tryz.ntmps77 rfl <| Wr fun ax ai => As rfl <| Ox ai <| Zh fun ay aj => Wr fun az ak => Mv rfl <| O_y rfl (Yv V2 h0 rfl) <| Mv rfl <| Ox ak <| Zj fun a0 al a1 => Y9 (σ := Nat × Int) (fun (ab, aa) => [(0, v0), (1, .func (.func 142) #[] #[]), (7, .int .i64 (x0.length : Int)), (8, .int .i64 aa)]) (fun (ab, aa) w => Yn.l1 ab x0 aa = some r ∧ St w0 ρ (Γ) w) (fun s => s.1) (K0, 0) (T4 rfl) (Ai H hs) ?_
 rintro ⟨ab, aa⟩ w a2 ⟨H, hs⟩ ac
 show W _ _ _ _ _ _ [(0, v0), (1, .func (.func 142) #[] #[]), (7, .int .i64 (x0.length : Int)), (8, .int .i64 aa)] w
 cases ab with
 | zero => rw [Yn.l1] at H; cases H
 | succ ab =>
 rw [Yn.l1] at H
 refine Wr fun a3 am => Ols rfl <| Ox am <| Zh fun a4 an => Y7 rfl (fun ad => ?_) (fun ad => ?_)
 rw [if_pos ad] at H
 refine Wx an <| Zh fun a5 ao => Zj fun a6 a7 a8 => Wr fun a9 ap => Mv rfl <| As rfl <| Ox ap <| Wr fun ba aq => Mv rfl <| Mv rfl <| Mv rfl ?_
 obtain ⟨ah, H⟩ := gd H
 obtain ⟨bb, bc, ar, au⟩ := h0.ix Q7 ah.1 ah.2
 refine O_y rfl (au rfl rfl) <| O_y rfl (Xp Xm rfl (hs.see ar.int)) ?_
 obtain ⟨ag, ae, H⟩ := bnd H
 refine Xo rfl rfl rfl (Kj.c hs ae) (fun bd w hpost => ?_)
 obtain ⟨rfl, hs⟩ := hpost
 refine Ox aq <| Xg rfl (fun af => ?_) (fun af => ?_)
 rw [if_pos af] at H
 refine Wr fun be av => Mv rfl <| As rfl <| Ox av <| W.weak [(4, _)] (S1 rfl) <| Zk ?_
 obtain rfl := Zz H
 exact r1 rfl ⟨rfl, hs⟩
 rw [if_neg (bft af)] at H
 refine Wx ao <| Zc <| Oad rfl <| Mv rfl <| Zd (ac (ab, (i64.wrap (aa + 1))) _ _ (T4 rfl) (Ai H hs) (Nat.lt_succ_self _))
 rw [if_neg ad] at H
 refine Y4 (al _ _ (aj _ _ <| Wr fun bf aw => As rfl <| Ox aw <| Zk ?_))
 obtain rfl := Zz H
 exact r1 rfl ⟨rfl, hs⟩

def Q0.f (x0 : List Int) : Option Bool := (Yn.f x0).bind fun ab => (some (decide (0 ≤ ab)))
theorem Q0.c (hs : St w0 ρ (Γ) w) {v0 : Value} {x0 : List Int} (h0 : SlR (Rep.int .i32) ρ v0 x0) {r : Bool} (H : Q0.f x0 = some r) : Zn Tryz.prog 39 [v0, .func (.func 142) #[] #[]] w (fun v w' => v = .bool r ∧ St w0 ρ Γ w') := by
 rw [Q0.f] at H
 refine Et Tryz.func39 Tryz.ntmps39 rfl <| Wr fun ae ac => As rfl <| Ox ac <| Wr fun af ad => Mv rfl <| Mv rfl ?_
 obtain ⟨ab, aa, H⟩ := bnd H
 refine Oc rfl (Yn.c hs h0 aa) (fun ag w hpost => ?_)
 obtain ⟨rfl, hs⟩ := hpost
 refine Oge rfl <| As rfl <| Ox ad <| Zk ?_
 obtain rfl := Zz H
 exact r1 rfl ⟨rfl, hs⟩

def Qu.j1 (aa : Bool) : Option Bool := some aa
def Qu.f (x0 : List Int) (x1 x2 : Int) : Option Bool := if x1 ≤ (x0.length : Int) then (if (x0.length : Int) ≤ x2 then ((Q0.f x0).bind fun ab => (Qu.j1 (!ab))) else (Qu.j1 false)) else (Qu.j1 false)
theorem Qu.c (hs : St w0 ρ (Γ) w) {v0 : Value} {x0 : List Int} (h0 : SlR (Rep.int .i32) ρ v0 x0) {x1 x2 : Int} {r : Bool} (H : Qu.f x0 x1 x2 = some r) : Zn Tryz.prog 91 [v0, .int .i64 x1, .int .i64 x2] w (fun v w' => v = .bool r ∧ St w0 ρ Γ w') := by
 rw [Qu.f] at H
 refine Et Tryz.func91 Tryz.ntmps91 rfl <| Wr fun ak ah => As rfl <| Ox ah <| Yu fun ai aj ac => ?_
 have ad : ∀ (aa : Bool) (w : World), Qu.j1 aa = some r → St w0 ρ (Γ) w → ai [(6, .bool aa)] w := by
  intro aa w H hs
  rw [Qu.j1] at H
  refine aj _ _ <| Zk ?_
  obtain rfl := Zz H
  exact r1 rfl ⟨rfl, hs⟩
 refine Zc <| Mv rfl <| O_y rfl (Yv V2 h0 rfl) <| Mv rfl <| Oge rfl <| Mv rfl <| X6 (dj := 11) rfl (fun ae => ?_) (fun ae => ?_)
 rw [if_pos ae] at H
 refine Oe rfl <| Mv rfl <| Oe rfl <| O_y rfl (Yv V2 h0 rfl) <| Oe rfl <| Mv rfl <| Oe rfl <| Ole rfl <| Opk rfl <| Mv rfl <| X6 (dj := 17) rfl (fun af => ?_) (fun af => ?_)
 rw [if_pos af] at H
 refine Oe rfl <| Mv rfl <| Oe rfl ?_
 obtain ⟨ab, ag, H⟩ := bnd H
 refine Oc rfl (Q0.c hs h0 ag) (fun al w hpost => ?_)
 obtain ⟨rfl, hs⟩ := hpost
 refine Oe rfl <| Ont rfl <| Opk rfl <| As rfl <| Zd (ac _ _ _ (S1 rfl) (ad (!ab) _ H hs))
 rw [if_neg af] at H
 refine On rfl <| On rfl <| On rfl <| Opk rfl <| As rfl <| Zd (ac _ _ _ (S1 rfl) (ad false _ H hs))
 rw [if_neg ae] at H
 refine On rfl <| On rfl <| On rfl <| On rfl <| Opk rfl <| Mv rfl <| On rfl <| On rfl <| On rfl <| Opk rfl <| As rfl <| Zd (ac _ _ _ (S1 rfl) (ad false _ H hs))

def Yf.j1 (aa : Int) (ad : Bool) : Option (Bool × Int) := some (ad, aa)
def Yf.j2 (af : Int → Option (Bool × Int)) (y1_1 : List Val) (x0 : Chs) (aa : Int) (ab : Bool) : Option (Bool × Int) := if ab = true then (af (i64.wrap (aa + 1))) else ((Qu.f x0.is_ 1 18).bind fun ap => (if ap = true then (if aa = (y1_1.length : Int) then (Yf.j1 aa true) else (if (0 : Int) ≤ aa ∧ aa < (y1_1.length : Int) then (Yf.j1 aa (decide (x0.hi < ((rd y1_1 aa).lo)))) else none)) else (Yf.j1 aa false)))
def Yf.l1 : Nat → List Val → Chs → Int → Option (Bool × Int)
  | 0, _, _, _ => none
  | ac + 1, y1_1, x0, aa => if aa < (y1_1.length : Int) then (if (0 : Int) ≤ aa ∧ aa < (y1_1.length : Int) then (Yf.j2 (Yf.l1 ac y1_1 x0) y1_1 x0 aa (decide (((rd y1_1 aa).hi) < x0.lo))) else none) else (Yf.j2 (Yf.l1 ac y1_1 x0) y1_1 x0 aa false)
def Yf.f (x0 : Chs) (y0_0 : Int) (y1_0 : List ByteArray) (y1_1 : List Val) (y1_2 : List Chs) (y1_3 : List Val) (y1_4 : List Chs) (y1_5 : List Spn) (y1_6 y1_7 : List Val) (y1_8 : List Spn) (y1_9 : List Val) (y1_10 : List Chs) : Option (Bool × Int) := Yf.l1 K0 y1_1 x0 y0_0
theorem Yf.c {pb0 : Nat} {y0_0 : Int} {pb1 : Nat} {w1_0 : Value} {y1_0 : List ByteArray} {w1_1 : Value} {y1_1 : List Val} {w1_2 : Value} {y1_2 : List Chs} {w1_3 : Value} {y1_3 : List Val} {w1_4 : Value} {y1_4 : List Chs} {w1_5 : Value} {y1_5 : List Spn} {w1_6 : Value} {y1_6 : List Val} {w1_7 : Value} {y1_7 : List Val} {w1_8 : Value} {y1_8 : List Spn} {w1_9 : Value} {y1_9 : List Val} {w1_10 : Value} {y1_10 : List Chs} (hs : St w0 ρ ((.box pb0 3 ([.int .i64 y0_0])) :: (.box pb1 27 ([w1_0, w1_1, w1_2, w1_3, w1_4, w1_5, w1_6, w1_7, w1_8, w1_9, w1_10])) :: Γ) w) {c0 : List Value} {x0 : Chs} (h0 : Ks.R ρ c0 x0) (g1_0 : SlR Rep.str ρ w1_0 y1_0) (g1_1 : SlR X9 ρ w1_1 y1_1) (g1_2 : SlR Ks ρ w1_2 y1_2) (g1_3 : SlR X9 ρ w1_3 y1_3) (g1_4 : SlR Ks ρ w1_4 y1_4) (g1_5 : SlR Kd ρ w1_5 y1_5) (g1_6 : SlR X9 ρ w1_6 y1_6) (g1_7 : SlR X9 ρ w1_7 y1_7) (g1_8 : SlR Kd ρ w1_8 y1_8) (g1_9 : SlR X9 ρ w1_9 y1_9) (g1_10 : SlR Ks ρ w1_10 y1_10) {r : Bool × Int} (H : Yf.f x0 y0_0 y1_0 y1_1 y1_2 y1_3 y1_4 y1_5 y1_6 y1_7 y1_8 y1_9 y1_10 = some r) : Zn Tryz.prog 148 [.agg c0.toArray, .pointer (some ⟨pb0, 0, none⟩), .pointer (some ⟨pb1, 0, none⟩)] w (fun v w' => v = .bool r.1 ∧ St w0 ρ ((.box pb0 3 ([.int .i64 r.2])) :: (.box pb1 27 ([w1_0, w1_1, w1_2, w1_3, w1_4, w1_5, w1_6, w1_7, w1_8, w1_9, w1_10])) :: Γ) w') := by
 rw [Yf.f] at H
 refine Et Tryz.func148 Tryz.ntmps148 rfl ?_
 have aw := h0
 obtain ⟨ah, rfl, ax⟩ := aw
 refine Wr fun bd ay => Vg (cs := [.int .i32 x0.lo, .int .i32 x0.hi, ah]) hs rfl rfl (fun ae w hs => As rfl <| Ox ay <| Zh fun be az => Zj fun bf a0 bg => Y9 (σ := Nat × Int) (fun (ac, aa) => [(1, .pointer (some ⟨pb0, 0, none⟩)), (2, .pointer (some ⟨pb1, 0, none⟩)), (3, .pointer (some ⟨ae, 0, none⟩))]) (fun (ac, aa) w => Yf.l1 ac y1_1 x0 aa = some r ∧ St w0 ρ ((.box ae 110 ([.int .i32 x0.lo, .int .i32 x0.hi, ah])) :: (.box pb0 3 ([.int .i64 aa])) :: (.box pb1 27 ([w1_0, w1_1, w1_2, w1_3, w1_4, w1_5, w1_6, w1_7, w1_8, w1_9, w1_10])) :: Γ) w) (fun s => s.1) (K0, y0_0) (T3 rfl) (Ai H hs) ?_)
 rintro ⟨ac, aa⟩ w bh ⟨H, hs⟩ ag
 show W _ _ _ _ _ _ [(1, .pointer (some ⟨pb0, 0, none⟩)), (2, .pointer (some ⟨pb1, 0, none⟩)), (3, .pointer (some ⟨ae, 0, none⟩))] w
 cases ac with
 | zero => rw [Yf.l1] at H; cases H
 | succ ac =>
 rw [Yf.l1] at H
 refine Zh fun bi a1 => Yu fun a2 a3 aq => ?_
 have ar : ∀ (ab : Bool) (w : World), Yf.j2 (Yf.l1 ac y1_1 x0) y1_1 x0 aa ab = some r → St w0 ρ ((.box ae 110 ([.int .i32 x0.lo, .int .i32 x0.hi, ah])) :: (.box pb0 3 ([.int .i64 aa])) :: (.box pb1 27 ([w1_0, w1_1, w1_2, w1_3, w1_4, w1_5, w1_6, w1_7, w1_8, w1_9, w1_10])) :: Γ) w → a2 [(1, .pointer (some ⟨pb0, 0, none⟩)), (2, .pointer (some ⟨pb1, 0, none⟩)), (3, .pointer (some ⟨ae, 0, none⟩)), (20, .bool ab)] w := by
  intro ab w H hs
  rw [Yf.j2] at H
  refine a3 _ _ <| Xg rfl (fun ai => ?_) (fun ai => ?_)
  rw [if_pos ai] at H
  refine Wx a1 <| Zj fun bj bk bl => Zc <| Obx 1 ag3 hs rfl <| Oad rfl <| Vu (i := 1) sz3 hs rfl rfl rfl rfl rfl (fun w hs => Zd (ag (ac, (i64.wrap (aa + 1))) _ _ (T3 rfl) (Ai H hs) (Nat.lt_succ_self _)))
  rw [if_neg (bft ai)] at H
  refine Y4 (a0 _ _ (az _ _ <| Yu fun a4 a5 aj => ?_))
  have ak : ∀ (ad : Bool) (w : World), Yf.j1 aa ad = some r → St w0 ρ ((.box ae 110 ([.int .i32 x0.lo, .int .i32 x0.hi, ah])) :: (.box pb0 3 ([.int .i64 aa])) :: (.box pb1 27 ([w1_0, w1_1, w1_2, w1_3, w1_4, w1_5, w1_6, w1_7, w1_8, w1_9, w1_10])) :: Γ) w → a4 [(4, .bool ad)] w := by
   intro ad w H hs
   rw [Yf.j1] at H
   refine a5 _ _ <| Zk ?_
   obtain rfl := Zz H
   exact r1 rfl ⟨rfl, (hs.sub (ssk (ssc (ssc ssr))))⟩
  refine Qn 22 [0, 1, 2, 4, 8, 8, 40, 72, 152, 264, 512, 1536, 512, 6656, 8704, 16896, 512, 66048, 164352, 262664, 524296, 2097151] [2097148, 2097144, 2097136, 523264, 2096864, 2097040, 2096912, 2096656, 2096128, 1048576, 2093056, 2084864, 2083840, 2064384, 2031616, 1769472, 1899520, 1637376, 1048576, 0, 0, 0] [0, 1, 3, 7, 15, 15, 47, 111, 255, 511, 1023, 2047, 1023, 8191, 16383, 32767, 1023, 66559, 262143, 524287, 1048575, 2097151] [2, 3, 4, 5, 6, 7, 8, 9, 10, 11, 12, 13, 14, 15, 16, 17, 18, 19, 20, 21] (fun w => St w0 ρ ((.box ae 110 ([.int .i32 x0.lo, .int .i32 x0.hi, ah])) :: (.box pb0 3 ([.int .i64 aa])) :: (.box pb1 27 ([w1_0, w1_1, w1_2, w1_3, w1_4, w1_5, w1_6, w1_7, w1_8, w1_9, w1_10])) :: Γ) w) Vl (by kernel_rfl) (fun sh => ?_)
  have hs := hs.drew
  refine Fp 0 sh rfl (fun w => Zp H4 rfl) <| Fy 1 sh rfl hs (fun w hs => Yb 0 Za8 hs rfl rfl rfl) <| F1 2 sh rfl (fun bm a6 => ?_)
  obtain ⟨ap, al, H⟩ := bnd H
  refine Oc rfl (Qu.c hs ax al) (fun bn w hpost => ?_)
  obtain ⟨rfl, hs⟩ := hpost
  refine Zd (a6 _ _ (fun h _ => absurd h (by decide)) <| Ke sh [] hs (by kernel_rfl) <| Fm 3 sh rfl <| Zfw (dj := 26) rfl (fun am => ?_) (fun am => ?_))
  rw [if_pos am] at H
  refine Fy 4 sh rfl hs (fun w hs => Yb 1 ag3 hs rfl rfl rfl) <| Fp 5 sh rfl (fun w => Zp Zdz rfl) <| Fy 6 sh rfl hs (fun w hs => Yb 2 Zbl hs rfl rfl rfl) <| Fp 7 sh rfl (fun w => Yv Zfb g1_1 rfl) <| Fp 8 sh rfl (fun w => Zbn rfl rfl) <| Fp 9 sh rfl (fun w => Qk rfl) <| Zav (dj := 32) rfl (fun an => ?_) (fun an => ?_)
  rw [if_pos an] at H
  refine Fn 10 sh rfl <| Fn 11 sh rfl <| Fn 12 sh rfl <| Fn 13 sh rfl <| Fn 14 sh rfl <| Fn 15 sh rfl <| Fn 16 sh rfl <| Fn 17 sh rfl <| Fn 18 sh rfl <| Fp 19 sh rfl (fun w => J7 rfl rfl) <| Fp 20 sh rfl (fun w => J7 rfl rfl) <| Fp 21 sh rfl (fun w => Xv rfl) <| FE sh (aj _ _ _ (S1 rfl) (ak true _ H hs))
  rw [if_neg an] at H
  refine Fp 10 sh rfl (fun w => Zp Zdz rfl) <| Fy 11 sh rfl hs (fun w hs => Yb 2 Zbl hs rfl rfl rfl) <| Fy 12 sh rfl hs (fun w hs => Yb 1 ag3 hs rfl rfl rfl) ?_
  obtain ⟨au, H⟩ := gd H
  obtain ⟨bo, bp, a7, a8⟩ := g1_1.ix Zcg au.1 au.2
  obtain ⟨_, rfl, a9⟩ := a7
  refine Fp 13 sh rfl (fun w => a8 rfl rfl) <| Fp 14 sh rfl (fun w => Zp Zep rfl) <| Fy 15 sh rfl hs (fun w hs => Xp Xm rfl (hs.see (a9 0 _ rfl))) <| Fp 16 sh rfl (fun w => Zp Zhe rfl) <| Fy 17 sh rfl hs (fun w hs => Yb 0 Xm hs rfl rfl rfl) <| Fp 18 sh rfl (fun w => Zjk rfl rfl) <| Fp 19 sh rfl (fun w => Qr rfl rfl) <| Fp 20 sh rfl (fun w => J7 rfl rfl) <| Fp 21 sh rfl (fun w => Xv rfl) <| FE sh (aj _ _ _ (S1 rfl) (ak (decide (x0.hi < ((rd y1_1 aa).lo))) _ H hs))
  rw [if_neg (bft am)] at H
  refine Fn 4 sh rfl <| Fn 5 sh rfl <| Fn 6 sh rfl <| Fn 7 sh rfl <| Fn 8 sh rfl <| Fn 9 sh rfl <| Fu 10 sh rfl <| Fu 11 sh rfl <| Fu 12 sh rfl <| Fu 13 sh rfl <| Fu 14 sh rfl <| Fu 15 sh rfl <| Fu 16 sh rfl <| Fu 17 sh rfl ?_
  refine Fu 18 sh rfl <| Fn 19 sh rfl <| Fp 20 sh rfl (fun w => Qr rfl rfl) <| Fp 21 sh rfl (fun w => Xv rfl) <| FE sh (aj _ _ _ (S1 rfl) (ak false _ H hs))
 refine Qn 16 [0, 0, 2, 4, 9, 16, 32, 96, 32, 416, 544, 1056, 32, 4128, 10272, 16416] [65518, 65529, 65521, 65505, 65472, 0, 65280, 64768, 64704, 63488, 61440, 45056, 53184, 36800, 0, 0] [0, 0, 2, 6, 15, 31, 63, 127, 63, 511, 1023, 2047, 63, 4159, 16383, 32767] [] (fun w => St w0 ρ ((.box ae 110 ([.int .i32 x0.lo, .int .i32 x0.hi, ah])) :: (.box pb0 3 ([.int .i64 aa])) :: (.box pb1 27 ([w1_0, w1_1, w1_2, w1_3, w1_4, w1_5, w1_6, w1_7, w1_8, w1_9, w1_10])) :: Γ) w) Vl (by kernel_rfl) (fun sh => ?_)
 have hs := hs.drew
 refine Fy 0 sh rfl hs (fun w hs => Yb 1 ag3 hs rfl rfl rfl) <| Fp 1 sh rfl (fun w => Zp Zdz rfl) <| Fy 2 sh rfl hs (fun w hs => Yb 2 Zbl hs rfl rfl rfl) <| Fp 3 sh rfl (fun w => Yv Zfb g1_1 rfl) <| Fp 4 sh rfl (fun w => Zax rfl rfl) <| Fm 5 sh rfl <| Zav (dj := 10) rfl (fun ao => ?_) (fun ao => ?_)
 rw [if_pos ao] at H
 refine Fp 6 sh rfl (fun w => Zp Zdz rfl) <| Fy 7 sh rfl hs (fun w hs => Yb 2 Zbl hs rfl rfl rfl) <| Fy 8 sh rfl hs (fun w hs => Yb 1 ag3 hs rfl rfl rfl) ?_
 obtain ⟨av, H⟩ := gd H
 obtain ⟨bq, br, ba, bb⟩ := g1_1.ix Zcg av.1 av.2
 obtain ⟨_, rfl, bc⟩ := ba
 refine Fp 9 sh rfl (fun w => bb rfl rfl) <| Fp 10 sh rfl (fun w => Zp Zdm rfl) <| Fy 11 sh rfl hs (fun w hs => Xp Xm rfl (hs.see (bc 1 _ rfl))) <| Fp 12 sh rfl (fun w => Zp Zbu rfl) <| Fy 13 sh rfl hs (fun w hs => Yb 0 Xm hs rfl rfl rfl) <| Fp 14 sh rfl (fun w => Zax rfl rfl) <| Fp 15 sh rfl (fun w => J7 rfl rfl) <| FE sh (aq _ _ _ (T4 rfl) (ar (decide (((rd y1_1 aa).hi) < x0.lo)) _ H hs))
 rw [if_neg ao] at H
 refine Fn 6 sh rfl <| Fn 7 sh rfl <| Fn 8 sh rfl <| Fn 9 sh rfl <| Fn 10 sh rfl <| Fn 11 sh rfl <| Fn 12 sh rfl <| Fn 13 sh rfl <| Fn 14 sh rfl <| Fp 15 sh rfl (fun w => Qr rfl rfl) <| FE sh (aq _ _ _ (T4 rfl) (ar false _ H hs))

def Zw.j1 (an : Int → Int → Int → Option (Int × Int)) (aa : Int) (ai : Spn) (ac : Int) (af : Bool) : Option (Int × Int) := if af = true then (some (aa, ac)) else (an ac ai.hi (i64.wrap (aa + 1)))
def Zw.l1 : Nat → List ByteArray → List Val → List Chs → List Val → List Chs → List Spn → List Val → List Val → List Spn → List Val → List Chs → List Chs → Int → Int → Int → Option (Int × Int)
  | 0, _, _, _, _, _, _, _, _, _, _, _, _, _, _, _ => none
  | ag + 1, y1_0, y1_1, y1_2, y1_3, y1_4, y1_5, y1_6, y1_7, y1_8, y1_9, y1_10, x0, ab, ah, aa => if aa < (x0.length : Int) then (if (0 : Int) ≤ aa ∧ aa < (x0.length : Int) then ((Kl.f (rd x0 aa)).bind fun ai => (if ai.lo ≤ ah then (Zw.j1 (Zw.l1 ag y1_0 y1_1 y1_2 y1_3 y1_4 y1_5 y1_6 y1_7 y1_8 y1_9 y1_10 x0) aa ai ab true) else (if ai.hi < ai.lo then (Zw.j1 (Zw.l1 ag y1_0 y1_1 y1_2 y1_3 y1_4 y1_5 y1_6 y1_7 y1_8 y1_9 y1_10 x0) aa ai ab true) else (if 1114111 < ai.hi then (Zw.j1 (Zw.l1 ag y1_0 y1_1 y1_2 y1_3 y1_4 y1_5 y1_6 y1_7 y1_8 y1_9 y1_10 x0) aa ai ab true) else ((Yf.f (rd x0 aa) ab y1_0 y1_1 y1_2 y1_3 y1_4 y1_5 y1_6 y1_7 y1_8 y1_9 y1_10).bind fun aj => (Zw.j1 (Zw.l1 ag y1_0 y1_1 y1_2 y1_3 y1_4 y1_5 y1_6 y1_7 y1_8 y1_9 y1_10 x0) aa ai aj.2 (!aj.1))))))) else none) else (some ((-1), ab))
def Zw.f (x0 : List Chs) (y0_0 : Int) (y1_0 : List ByteArray) (y1_1 : List Val) (y1_2 : List Chs) (y1_3 : List Val) (y1_4 : List Chs) (y1_5 : List Spn) (y1_6 y1_7 : List Val) (y1_8 : List Spn) (y1_9 : List Val) (y1_10 : List Chs) : Option (Int × Int) := if 65536 < (x0.length : Int) then (some (65536, y0_0)) else (Zw.l1 K0 y1_0 y1_1 y1_2 y1_3 y1_4 y1_5 y1_6 y1_7 y1_8 y1_9 y1_10 x0 y0_0 (-1) 0)
theorem Zw.c {pb0 : Nat} {y0_0 : Int} {pb1 : Nat} {w1_0 : Value} {y1_0 : List ByteArray} {w1_1 : Value} {y1_1 : List Val} {w1_2 : Value} {y1_2 : List Chs} {w1_3 : Value} {y1_3 : List Val} {w1_4 : Value} {y1_4 : List Chs} {w1_5 : Value} {y1_5 : List Spn} {w1_6 : Value} {y1_6 : List Val} {w1_7 : Value} {y1_7 : List Val} {w1_8 : Value} {y1_8 : List Spn} {w1_9 : Value} {y1_9 : List Val} {w1_10 : Value} {y1_10 : List Chs} (hs : St w0 ρ ((.box pb0 3 ([.int .i64 y0_0])) :: (.box pb1 27 ([w1_0, w1_1, w1_2, w1_3, w1_4, w1_5, w1_6, w1_7, w1_8, w1_9, w1_10])) :: Γ) w) {v0 : Value} {x0 : List Chs} (h0 : SlR Ks ρ v0 x0) (g1_0 : SlR Rep.str ρ w1_0 y1_0) (g1_1 : SlR X9 ρ w1_1 y1_1) (g1_2 : SlR Ks ρ w1_2 y1_2) (g1_3 : SlR X9 ρ w1_3 y1_3) (g1_4 : SlR Ks ρ w1_4 y1_4) (g1_5 : SlR Kd ρ w1_5 y1_5) (g1_6 : SlR X9 ρ w1_6 y1_6) (g1_7 : SlR X9 ρ w1_7 y1_7) (g1_8 : SlR Kd ρ w1_8 y1_8) (g1_9 : SlR X9 ρ w1_9 y1_9) (g1_10 : SlR Ks ρ w1_10 y1_10) {r : Int × Int} (H : Zw.f x0 y0_0 y1_0 y1_1 y1_2 y1_3 y1_4 y1_5 y1_6 y1_7 y1_8 y1_9 y1_10 = some r) : Zn Tryz.prog 100 [v0, .func (.func 66) #[] #[], .func (.func 148) #[] #[.pointer (some ⟨pb0, 0, none⟩), .pointer (some ⟨pb1, 0, none⟩)]] w (fun v w' => v = .int .i64 r.1 ∧ St w0 ρ ((.box pb0 3 ([.int .i64 r.2])) :: (.box pb1 27 ([w1_0, w1_1, w1_2, w1_3, w1_4, w1_5, w1_6, w1_7, w1_8, w1_9, w1_10])) :: Γ) w') := by
 rw [Zw.f] at H
 refine Et Tryz.func100 Tryz.ntmps100 rfl <| Wr fun bx ba => As rfl <| Ox ba <| Zh fun bz bb => Wr fun b0 bc => Mv rfl <| O_y rfl (Yv Ze5 h0 rfl) <| Ogt rfl <| Ox bc <| Y7 rfl (fun ay => ?_) (fun ay => ?_)
 rw [if_pos ay] at H
 refine Wr fun b1 bd => As rfl <| Ox bd <| Zk ?_
 obtain rfl := Zz H
 exact r1 rfl ⟨rfl, hs⟩
 rw [if_neg ay] at H
 refine Wx bb <| Wr fun b2 be => As rfl <| Ox be <| Zh fun b3 bf => Wr fun b4 bg => Mv rfl <| O_y rfl (Yv Ze5 h0 rfl) <| Mv rfl <| Ox bg <| Zj fun b5 bh b6 => Y9 (σ := Nat × Int × Int × Int × Hp) (fun (ag, ab, ah, aa, ak) => [(1, .func (.func 66) #[] #[]), (2, .func (.func 148) #[] #[.pointer (some ⟨pb0, 0, none⟩), .pointer (some ⟨pb1, 0, none⟩)]), (7, .int .i32 ah), (14, v0), (15, .int .i64 (x0.length : Int)), (16, .int .i64 aa)]) (fun (ag, ab, ah, aa, ak) w => Zw.l1 ag y1_0 y1_1 y1_2 y1_3 y1_4 y1_5 y1_6 y1_7 y1_8 y1_9 y1_10 x0 ab ah aa = some r ∧ Le ρ ak ∧ St w0 ak ((.box pb0 3 ([.int .i64 ab])) :: (.box pb1 27 ([w1_0, w1_1, w1_2, w1_3, w1_4, w1_5, w1_6, w1_7, w1_8, w1_9, w1_10])) :: Γ) w) (fun s => s.1) (K0, y0_0, (-1), 0, ρ) sbn (Ai H (Ai (Le.rfl' _) hs)) ?_
 rintro ⟨ag, ab, ah, aa, ak⟩ w b7 ⟨H, ad, hs⟩ ao
 show W _ _ _ _ _ _ [(1, .func (.func 66) #[] #[]), (2, .func (.func 148) #[] #[.pointer (some ⟨pb0, 0, none⟩), .pointer (some ⟨pb1, 0, none⟩)]), (7, .int .i32 ah), (14, v0), (15, .int .i64 (x0.length : Int)), (16, .int .i64 aa)] w
 cases ag with
 | zero => rw [Zw.l1] at H; cases H
 | succ ag =>
 rw [Zw.l1] at H
 refine Wr fun b8 bi => Ols rfl <| Ox bi <| Zh fun b9 bj => Y7 rfl (fun az => ?_) (fun az => ?_)
 rw [if_pos az] at H
 refine Wx bj <| Zh fun ca bk => Zj fun cb cc cd => Wr fun ce bl => Mv rfl ?_
 obtain ⟨a9, H⟩ := gd H
 obtain ⟨cf, cg, bm, bn⟩ := (h0.mono ad).ix Zdo a9.1 a9.2
 obtain ⟨_, ⟨bo, rfl, a0⟩, bp⟩ := bm
 refine O_y rfl (bn rfl rfl) <| O_y rfl (Qv Zbq Zag rfl rfl (fun j u hu => hs.see (bp j u hu))) <| Y6 Zgz hs rfl (fun bq w hs => As rfl <| Ye (i := 0) Zag hs rfl rfl rfl rfl rfl (Zb rfl (Zb rfl (Zb a0.one Yj))) (fun w hs => Ox bl <| Wr fun ch br => Mv rfl <| O_y rfl (Xk (i := 0) Zbq Zag hs rfl rfl rfl rfl) ?_))
 obtain ⟨ai, a1, H⟩ := bnd H
 refine Xo rfl rfl rfl (Kl.c hs ⟨_, rfl, a0⟩ a1) (fun ci w hpost => ?_)
 obtain ⟨av, bs, rfl, ae, hs, a2⟩ := hpost
 have a3 := a2
 obtain rfl := a3
 refine Y6 Zay hs rfl (fun aw w hs => Ye (i := 0) Hj hs rfl rfl rfl rfl rfl (Zb rfl (Zb rfl Yj)) (fun w hs => Ox br <| W.weak [(1, _), (2, _), (7, _), (8, _), (9, _), (10, _), (14, _), (15, _), (16, _)] sbn ?_))
 refine Zh fun bt a4 => Yu fun a5 a6 al => ?_
 have am : ∀ (ac : Int) (af : Bool) (w : World), Zw.j1 (Zw.l1 ag y1_0 y1_1 y1_2 y1_3 y1_4 y1_5 y1_6 y1_7 y1_8 y1_9 y1_10 x0) aa ai ac af = some r → St w0 av ((.box aw 129 ([.int .i32 ai.lo, .int .i32 ai.hi])) :: (.box bq 110 ([.int .i32 ((rd x0 aa).lo), .int .i32 ((rd x0 aa).hi), bo])) :: (.box pb0 3 ([.int .i64 ac])) :: (.box pb1 27 ([w1_0, w1_1, w1_2, w1_3, w1_4, w1_5, w1_6, w1_7, w1_8, w1_9, w1_10])) :: Γ) w → a5 [(1, .func (.func 66) #[] #[]), (2, .func (.func 148) #[] #[.pointer (some ⟨pb0, 0, none⟩), .pointer (some ⟨pb1, 0, none⟩)]), (8, .int .i64 aa), (10, .pointer (some ⟨aw, 0, none⟩)), (14, v0), (15, .int .i64 (x0.length : Int)), (16, .int .i64 aa), (45, .bool af)] w := by
  intro ac af w H hs
  rw [Zw.j1] at H
  refine a6 _ _ <| Xg rfl (fun ap => ?_) (fun ap => ?_)
  rw [if_pos ap] at H
  refine Wr fun bu a7 => Mv rfl <| As rfl <| Ox a7 <| Zk ?_
  obtain rfl := Zz H
  exact r1 rfl ⟨rfl, ((hs.sub (ssk (ssk (ssc (ssc ssr))))).less (ad.trans ae))⟩
  rw [if_neg (bft ap)] at H
  refine Wx a4 <| Zc <| Ofd Vr rfl <| Obx 0 Xm hs rfl <| As rfl <| Ox bk <| Zc <| Oad rfl <| Mv rfl <| Zd (ao (ag, ac, ai.hi, (i64.wrap (aa + 1)), av) _ _ sbn (Ai H (Ai (ad.trans ae) (hs.sub (ssk (ssk (ssc (ssc ssr))))))) (Nat.lt_succ_self _))
 refine Zc <| Ofd Uw rfl <| Obx 0 Xm hs rfl <| Mv rfl <| Ole rfl <| Mv rfl <| X6 (dj := 28) rfl (fun aq => ?_) (fun aq => ?_)
 rw [if_pos aq] at H
 refine On rfl <| On rfl <| On rfl <| On rfl <| On rfl <| Opk rfl <| Mv rfl <| On rfl <| On rfl <| On rfl <| Opk rfl <| Mv rfl <| On rfl <| On rfl ?_
 refine On rfl <| On rfl <| Opk rfl <| Zd (al _ _ _ sbn (am ab true _ H hs))
 rw [if_neg aq] at H
 refine Oe rfl <| Ofd Vr rfl <| Oe rfl <| Obx 0 Xm hs rfl <| Oe rfl <| Ofd Uw rfl <| Oe rfl <| Obx 0 Xm hs rfl <| Oe rfl <| Ols rfl <| Opk rfl <| Mv rfl <| X6 (dj := 35) rfl (fun ar => ?_) (fun ar => ?_)
 rw [if_pos ar] at H
 refine On rfl <| On rfl <| On rfl <| Opk rfl <| Mv rfl <| On rfl <| On rfl <| On rfl <| On rfl <| Opk rfl <| Zd (al _ _ _ sbn (am ab true _ H hs))
 rw [if_neg ar] at H
 refine Oe rfl <| Ofd Vr rfl <| Oe rfl <| Obx 0 Xm hs rfl <| Oe rfl <| Ogt rfl <| Opk rfl <| Mv rfl <| X6 (dj := 40) rfl (fun au => ?_) (fun au => ?_)
 rw [if_pos au] at H
 refine On rfl <| On rfl <| On rfl <| On rfl <| Opk rfl <| Zd (al _ _ _ sbn (am ab true _ H hs))
 rw [if_neg au] at H
 refine Oe rfl <| Mv rfl <| Oe rfl <| O_y rfl (Xk (i := 1) Zbq Zag hs rfl rfl rfl rfl) <| Oe rfl ?_
 have hs := hs.front 3 rfl
 have hs := hs.front 3 rfl
 obtain ⟨aj, ax, H⟩ := bnd H
 refine Xo rfl rfl rfl (Yf.c hs ⟨_, rfl, (a0.mono ae)⟩ (g1_0.mono (ad.trans ae)) (g1_1.mono (ad.trans ae)) (g1_2.mono (ad.trans ae)) (g1_3.mono (ad.trans ae)) (g1_4.mono (ad.trans ae)) (g1_5.mono (ad.trans ae)) (g1_6.mono (ad.trans ae)) (g1_7.mono (ad.trans ae)) (g1_8.mono (ad.trans ae)) (g1_9.mono (ad.trans ae)) (g1_10.mono (ad.trans ae)) ax) (fun bv w hpost => ?_)
 obtain ⟨rfl, hs⟩ := hpost
 have hs := hs.sink 3
 have hs := hs.sink 3
 refine Oe rfl <| Ont rfl <| Opk rfl <| Zd (al _ _ _ sbn (am aj.2 (!aj.1) _ H hs))
 rw [if_neg az] at H
 refine Y4 (bh _ _ (bf _ _ <| Wr fun bw a8 => As rfl <| Ox a8 <| Zk ?_))
 obtain rfl := Zz H
 exact r1 rfl ⟨rfl, (hs.less ad)⟩

def Zar.f (x0 : Bk) : Option Int := (Zw.f x0.maps 0 x0.names x0.status x0.maps x0.class_ x0.decomp x0.excl x0.bidi x0.join x0.marks x0.script x0.like).bind fun ab => (some ab.1)
theorem Zar.c (hs : St w0 ρ (Γ) w) {c0 : List Value} {x0 : Bk} (h0 : rBk.R ρ c0 x0) {r : Int} (H : Zar.f x0 = some r) : Zn Tryz.prog 97 [.agg c0.toArray] w (fun v w' => v = .int .i64 r ∧ St w0 ρ Γ w') := by
 rw [Zar.f] at H
 refine Et Tryz.func97 Tryz.ntmps97 rfl ?_
 have ad := h0
 obtain ⟨ae, af, ag, ah, ai, aj, ak, al, am, an, ao, rfl, ap, aq, ac, ar, au, av, aw, ax, ay, az, a0⟩ := ad
 refine Wr fun a4 a1 => Vg (cs := [ae, af, ag, ah, ai, aj, ak, al, am, an, ao]) hs rfl rfl (fun a5 w hs => As rfl <| Ox a1 <| Wr fun a6 a2 => Y6 zr3 hs rfl (fun a7 w hs => Vu (i := 0) sz3 hs rfl rfl rfl rfl rfl (fun w hs => Ox a2 <| Wr fun a8 a3 => Ofd Zik rfl <| Obx 1 Zdw hs rfl ?_)))
 refine O_y rfl (Ux rfl) ?_
 have hs := hs.front 1 rfl
 have hs := hs.front 1 rfl
 obtain ⟨ab, aa, H⟩ := bnd H
 refine Oc rfl (Zw.c hs ac ap aq ac ar au av aw ax ay az a0 aa) (fun a9 w hpost => ?_)
 obtain ⟨rfl, hs⟩ := hpost
 have hs := hs.sink 1
 have hs := hs.sink 1
 refine As rfl <| Ox a3 <| Zk ?_
 obtain rfl := Zz H
 exact r1 rfl ⟨rfl, (hs.sub (ssk (ssk ssr)))⟩

def U1.f (y0_0 : List ByteArray) (y0_1 : List Val) (y0_2 : List Chs) (y0_3 : List Val) (y0_4 : List Chs) (y0_5 : List Spn) (y0_6 y0_7 : List Val) (y0_8 : List Spn) (y0_9 : List Val) (y0_10 : List Chs) : Option Int := (Zar.f (⟨y0_0, y0_1, y0_2, y0_3, y0_4, y0_5, y0_6, y0_7, y0_8, y0_9, y0_10⟩ : Bk)).bind fun ab => (some ab)
theorem U1.c {pb0 : Nat} {w0_0 : Value} {y0_0 : List ByteArray} {w0_1 : Value} {y0_1 : List Val} {w0_2 : Value} {y0_2 : List Chs} {w0_3 : Value} {y0_3 : List Val} {w0_4 : Value} {y0_4 : List Chs} {w0_5 : Value} {y0_5 : List Spn} {w0_6 : Value} {y0_6 : List Val} {w0_7 : Value} {y0_7 : List Val} {w0_8 : Value} {y0_8 : List Spn} {w0_9 : Value} {y0_9 : List Val} {w0_10 : Value} {y0_10 : List Chs} (hs : St w0 ρ ((.box pb0 27 ([w0_0, w0_1, w0_2, w0_3, w0_4, w0_5, w0_6, w0_7, w0_8, w0_9, w0_10])) :: Γ) w) (g0_0 : SlR Rep.str ρ w0_0 y0_0) (g0_1 : SlR X9 ρ w0_1 y0_1) (g0_2 : SlR Ks ρ w0_2 y0_2) (g0_3 : SlR X9 ρ w0_3 y0_3) (g0_4 : SlR Ks ρ w0_4 y0_4) (g0_5 : SlR Kd ρ w0_5 y0_5) (g0_6 : SlR X9 ρ w0_6 y0_6) (g0_7 : SlR X9 ρ w0_7 y0_7) (g0_8 : SlR Kd ρ w0_8 y0_8) (g0_9 : SlR X9 ρ w0_9 y0_9) (g0_10 : SlR Ks ρ w0_10 y0_10) {r : Int} (H : U1.f y0_0 y0_1 y0_2 y0_3 y0_4 y0_5 y0_6 y0_7 y0_8 y0_9 y0_10 = some r) : Zn Tryz.prog 96 [.pointer (some ⟨pb0, 0, none⟩)] w (fun v w' => v = .int .i64 r ∧ St w0 ρ ((.box pb0 27 ([w0_0, w0_1, w0_2, w0_3, w0_4, w0_5, w0_6, w0_7, w0_8, w0_9, w0_10])) :: Γ) w') := by
 rw [U1.f] at H
 refine Et Tryz.func96 Tryz.ntmps96 rfl <| Wr fun ae ac => As rfl <| Ox ac <| Wr fun af ad => O_y rfl (Xk (i := 0) Zja Zje hs rfl rfl rfl rfl) ?_
 obtain ⟨ab, aa, H⟩ := bnd H
 refine Oc rfl (Zar.c hs ⟨_, _, _, _, _, _, _, _, _, _, _, rfl, g0_0, g0_1, g0_2, g0_3, g0_4, g0_5, g0_6, g0_7, g0_8, g0_9, g0_10⟩ aa) (fun ag w hpost => ?_)
 obtain ⟨rfl, hs⟩ := hpost
 refine As rfl <| Ox ad <| Zk ?_
 obtain rfl := Zz H
 exact r1 rfl ⟨rfl, hs⟩

def Za6.f : Option (List Spn) := some ([(⟨4352, 4370⟩ : Spn), (⟨4449, 4469⟩ : Spn), (⟨4520, 4546⟩ : Spn), (⟨44032, 55203⟩ : Spn)])
theorem Za6.c (hs : St w0 ρ (Γ) w) {r : List Spn} (H : Za6.f = some r) : Zn Tryz.prog 140 [] w (fun v w' => ∃ (ρ' : Hp) (v0 : Value) (cs0 : List Value), v = v0 ∧ Le ρ ρ' ∧ St w0 ρ' (.row v0 129 Kd.sz r.length cs0 :: Γ) w' ∧ Zm Kd ρ' cs0 r) := by
 rw [Za6.f] at H
 refine Et Tryz.func140 Tryz.ntmps140 rfl <| Wr fun ad aa => As rfl <| Ox aa <| Wr fun ae ab => O_y rfl (Qe (cs := [.int .i32 4352, .int .i32 4370]) Zay Zj2 ((Z2.cons rfl rfl (Z2.cons rfl rfl Z2.nil))) Za7 (by kernel_rfl)) <| O_y rfl (Qe (cs := [.int .i32 4449, .int .i32 4469]) Zay Zj2 ((Z2.cons rfl rfl (Z2.cons rfl rfl Z2.nil))) Za7 (by kernel_rfl)) <| O_y rfl (Qe (cs := [.int .i32 4520, .int .i32 4546]) Zay Zj2 ((Z2.cons rfl rfl (Z2.cons rfl rfl Z2.nil))) Za7 (by kernel_rfl)) <| O_y rfl (Qe (cs := [.int .i32 44032, .int .i32 55203]) Zay Zj2 ((Z2.cons rfl rfl (Z2.cons rfl rfl Z2.nil))) Za7 (by kernel_rfl)) <| Ku (xs := [.tmp 1, .tmp 2, .tmp 3, .tmp 4]) (cs := [.int .i32 4352, .int .i32 4370, .int .i32 4449, .int .i32 4469, .int .i32 4520, .int .i32 4546, .int .i32 44032, .int .i32 55203]) Zi5 hs rfl rfl rfl (by decide) (by decide) rfl (Yc rfl (Yc rfl (Yc rfl (Yc rfl Kb)))) (Zv rfl (Zv rfl (Zv rfl (Zv rfl Xy)))) (fun af w hs => ?_)
 have ac : Zm Kd ρ ([.int .i32 4352, .int .i32 4370, .int .i32 4449, .int .i32 4469, .int .i32 4520, .int .i32 4546, .int .i32 44032, .int .i32 55203]) [(⟨4352, 4370⟩ : Spn), (⟨4449, 4469⟩ : Spn), (⟨4520, 4546⟩ : Spn), (⟨44032, 55203⟩ : Spn)] := Zm.cons (c := [.int .i32 4352, .int .i32 4370]) (x := (⟨4352, 4370⟩ : Spn)) rfl (Zm.cons (c := [.int .i32 4449, .int .i32 4469]) (x := (⟨4449, 4469⟩ : Spn)) rfl (Zm.cons (c := [.int .i32 4520, .int .i32 4546]) (x := (⟨4520, 4546⟩ : Spn)) rfl (Zm.cons (c := [.int .i32 44032, .int .i32 55203]) (x := (⟨44032, 55203⟩ : Spn)) rfl (Zm.nil _ _))))
 refine As rfl <| Ox ab <| Zk ?_
 obtain rfl := Zz H
 exact r1 rfl ⟨_, _, _, rfl, Le.rfl' _, hs, ac⟩

def Kc.j1 (aa : Bool) : Option Bool := some aa
def Kc.f (x0 : Spn) (y0_0 y0_1 : Int) : Option Bool := if y0_0 ≤ x0.hi then (Kc.j1 (decide (x0.lo ≤ y0_1))) else (Kc.j1 false)
theorem Kc.c {pb0 : Nat} {y0_0 y0_1 : Int} (hs : St w0 ρ ((.box pb0 129 ([.int .i32 y0_0, .int .i32 y0_1])) :: Γ) w) {c0 : List Value} {x0 : Spn} (h0 : Kd.R ρ c0 x0) {r : Bool} (H : Kc.f x0 y0_0 y0_1 = some r) : Zn Tryz.prog 141 [.agg c0.toArray, .pointer (some ⟨pb0, 0, none⟩)] w (fun v w' => v = .bool r ∧ St w0 ρ ((.box pb0 129 ([.int .i32 y0_0, .int .i32 y0_1])) :: Γ) w') := by
 rw [Kc.f] at H
 refine Et Tryz.func141 Tryz.ntmps141 rfl ?_
 have ae := h0
 obtain rfl := ae
 refine Wr fun aj af => Vg (cs := [.int .i32 x0.lo, .int .i32 x0.hi]) hs rfl rfl (fun ag w hs => As rfl <| Ox af <| Yu fun ah ai ac => ?_)
 have ad : ∀ (aa : Bool) (w : World), Kc.j1 aa = some r → St w0 ρ ((.box ag 129 ([.int .i32 x0.lo, .int .i32 x0.hi])) :: (.box pb0 129 ([.int .i32 y0_0, .int .i32 y0_1])) :: Γ) w → ah [(3, .bool aa)] w := by
  intro aa w H hs
  rw [Kc.j1] at H
  refine ai _ _ <| Zk ?_
  obtain rfl := Zz H
  exact r1 rfl ⟨rfl, (hs.sub (ssk (ssc ssr)))⟩
 refine Zc <| Ofd Uw rfl <| Obx 1 Xm hs rfl <| Ofd Vr rfl <| Obx 0 Xm hs rfl <| Ole rfl <| Mv rfl <| X6 (dj := 9) rfl (fun ab => ?_) (fun ab => ?_)
 rw [if_pos ab] at H
 refine Oe rfl <| Ofd Uw rfl <| Oe rfl <| Obx 0 Xm hs rfl <| Oe rfl <| Ofd Vr rfl <| Oe rfl <| Obx 1 Xm hs rfl <| Oe rfl <| Ole rfl <| Opk rfl <| As rfl <| Zd (ac _ _ _ (S1 rfl) (ad (decide (x0.lo ≤ y0_1)) _ H hs))
 rw [if_neg ab] at H
 refine On rfl <| On rfl <| On rfl <| On rfl <| On rfl <| Opk rfl <| As rfl <| Zd (ac _ _ _ (S1 rfl) (ad false _ H hs))

def Z6.l1 : Nat → Int → Int → List Spn → Int → Option Int
  | 0, _, _, _, _ => none
  | ab + 1, y0_0, y0_1, x0, aa => if aa < (x0.length : Int) then (if (0 : Int) ≤ aa ∧ aa < (x0.length : Int) then ((Kc.f (rd x0 aa) y0_0 y0_1).bind fun ag => (if ag = true then (some aa) else ((Z6.l1 ab y0_0 y0_1 x0) (i64.wrap (aa + 1))))) else none) else (some (-1))
def Z6.f (x0 : List Spn) (y0_0 y0_1 : Int) : Option Int := Z6.l1 K0 y0_0 y0_1 x0 0
theorem Z6.c {pb0 : Nat} {y0_0 y0_1 : Int} (hs : St w0 ρ ((.box pb0 129 ([.int .i32 y0_0, .int .i32 y0_1])) :: Γ) w) {v0 : Value} {x0 : List Spn} (h0 : SlR Kd ρ v0 x0) {r : Int} (H : Z6.f x0 y0_0 y0_1 = some r) : Zn Tryz.prog 170 [v0, .func (.func 141) #[] #[.pointer (some ⟨pb0, 0, none⟩)]] w (fun v w' => v = .int .i64 r ∧ St w0 ρ ((.box pb0 129 ([.int .i32 y0_0, .int .i32 y0_1])) :: Γ) w') := by
 rw [Z6.f] at H
 refine Et Tryz.func170 Tryz.ntmps170 rfl <| Wr fun ay ai => As rfl <| Ox ai <| Zh fun az aj => Wr fun a0 ak => Mv rfl <| O_y rfl (Yv Zjf h0 rfl) <| Mv rfl <| Ox ak <| Zj fun a1 al a2 => Y9 (σ := Nat × Int) (fun (ab, aa) => [(0, v0), (1, .func (.func 141) #[] #[.pointer (some ⟨pb0, 0, none⟩)]), (7, .int .i64 (x0.length : Int)), (8, .int .i64 aa)]) (fun (ab, aa) w => Z6.l1 ab y0_0 y0_1 x0 aa = some r ∧ St w0 ρ ((.box pb0 129 ([.int .i32 y0_0, .int .i32 y0_1])) :: Γ) w) (fun s => s.1) (K0, 0) (T4 rfl) (Ai H hs) ?_
 rintro ⟨ab, aa⟩ w a3 ⟨H, hs⟩ ac
 show W _ _ _ _ _ _ [(0, v0), (1, .func (.func 141) #[] #[.pointer (some ⟨pb0, 0, none⟩)]), (7, .int .i64 (x0.length : Int)), (8, .int .i64 aa)] w
 cases ab with
 | zero => rw [Z6.l1] at H; cases H
 | succ ab =>
 rw [Z6.l1] at H
 refine Wr fun a4 am => Ols rfl <| Ox am <| Zh fun a5 an => Y7 rfl (fun ad => ?_) (fun ad => ?_)
 rw [if_pos ad] at H
 refine Wx an <| Zh fun a6 ao => Zj fun a7 a8 a9 => Wr fun ba ap => Mv rfl <| As rfl <| Ox ap <| Wr fun bb aq => Mv rfl <| Mv rfl <| Mv rfl ?_
 obtain ⟨ah, H⟩ := gd H
 obtain ⟨bc, bd, ar, au⟩ := h0.ix Zi5 ah.1 ah.2
 obtain ⟨_, rfl, av⟩ := ar
 refine O_y rfl (au rfl rfl) <| O_y rfl (Qv Za7 Hj rfl rfl (fun j u hu => hs.see (av j u hu))) ?_
 obtain ⟨ag, ae, H⟩ := bnd H
 refine Xo rfl rfl rfl (Kc.c hs rfl ae) (fun be w hpost => ?_)
 obtain ⟨rfl, hs⟩ := hpost
 refine Ox aq <| Xg rfl (fun af => ?_) (fun af => ?_)
 rw [if_pos af] at H
 refine Wr fun bf aw => Mv rfl <| As rfl <| Ox aw <| W.weak [(4, _)] (S1 rfl) <| Zk ?_
 obtain rfl := Zz H
 exact r1 rfl ⟨rfl, hs⟩
 rw [if_neg (bft af)] at H
 refine Wx ao <| Zc <| Oad rfl <| Mv rfl <| Zd (ac (ab, (i64.wrap (aa + 1))) _ _ (T4 rfl) (Ai H hs) (Nat.lt_succ_self _))
 rw [if_neg ad] at H
 refine Y4 (al _ _ (aj _ _ <| Wr fun bg ax => As rfl <| Ox ax <| Zk ?_))
 obtain rfl := Zz H
 exact r1 rfl ⟨rfl, hs⟩

def Xz.f (x0 : List Spn) (y0_0 y0_1 : Int) : Option Bool := (Z6.f x0 y0_0 y0_1).bind fun ab => (some (decide (0 ≤ ab)))
theorem Xz.c {pb0 : Nat} {y0_0 y0_1 : Int} (hs : St w0 ρ ((.box pb0 129 ([.int .i32 y0_0, .int .i32 y0_1])) :: Γ) w) {v0 : Value} {x0 : List Spn} (h0 : SlR Kd ρ v0 x0) {r : Bool} (H : Xz.f x0 y0_0 y0_1 = some r) : Zn Tryz.prog 139 [v0, .func (.func 141) #[] #[.pointer (some ⟨pb0, 0, none⟩)]] w (fun v w' => v = .bool r ∧ St w0 ρ ((.box pb0 129 ([.int .i32 y0_0, .int .i32 y0_1])) :: Γ) w') := by
 rw [Xz.f] at H
 refine Et Tryz.func139 Tryz.ntmps139 rfl <| Wr fun ae ac => As rfl <| Ox ac <| Wr fun af ad => Mv rfl <| Mv rfl ?_
 obtain ⟨ab, aa, H⟩ := bnd H
 refine Oc rfl (Z6.c hs h0 aa) (fun ag w hpost => ?_)
 obtain ⟨rfl, hs⟩ := hpost
 refine Oge rfl <| As rfl <| Ox ad <| Zk ?_
 obtain rfl := Zz H
 exact r1 rfl ⟨rfl, hs⟩

def H2.f (x0 : Spn) : Option Bool := (Za6.f).bind fun ae => ((Xz.f ae x0.lo x0.hi).bind fun af => (some af))
theorem H2.c (hs : St w0 ρ (Γ) w) {c0 : List Value} {x0 : Spn} (h0 : Kd.R ρ c0 x0) {r : Bool} (H : H2.f x0 = some r) : Zn Tryz.prog 89 [.agg c0.toArray] w (fun v w' => v = .bool r ∧ St w0 ρ Γ w') := by
 rw [H2.f] at H
 refine Et Tryz.func89 Tryz.ntmps89 rfl ?_
 have ag := h0
 obtain rfl := ag
 refine Wr fun am ah => Vg (cs := [.int .i32 x0.lo, .int .i32 x0.hi]) hs rfl rfl (fun an w hs => As rfl <| Ox ah <| Zh fun ao ai => Zc ?_)
 obtain ⟨ae, aa, H⟩ := bnd H
 refine Oc rfl (Za6.c hs aa) (fun ap w hpost => ?_)
 obtain ⟨aq, ar, aj, rfl, ab, hs, ak⟩ := hpost
 refine O_y rfl (Ux rfl) ?_
 obtain ⟨au, ac, hs, al⟩ := hs.rowEnd (j := 0) ak rfl
 obtain ⟨af, ad, H⟩ := bnd H
 refine Oc rfl (Xz.c hs al ad) (fun av w hpost => ?_)
 obtain ⟨rfl, hs⟩ := hpost
 refine As rfl <| Ox ai <| Zk ?_
 obtain rfl := Zz H
 exact r1 rfl ⟨rfl, ((hs.sub (ssk ssr)).less (ab.trans ac))⟩

def V1.f (x0 : Spn) : Option Bool := (H2.f x0).bind fun ab => (some (!ab))
theorem V1.c (hs : St w0 ρ (Γ) w) {c0 : List Value} {x0 : Spn} (h0 : Kd.R ρ c0 x0) {r : Bool} (H : V1.f x0 = some r) : Zn Tryz.prog 88 [.agg c0.toArray] w (fun v w' => v = .bool r ∧ St w0 ρ Γ w') := by
 rw [V1.f] at H
 refine Et Tryz.func88 Tryz.ntmps88 rfl ?_
 have ac := h0
 obtain rfl := ac
 refine Wr fun af ad => Vg (cs := [.int .i32 x0.lo, .int .i32 x0.hi]) hs rfl rfl (fun ag w hs => As rfl <| Ox ad <| Wr fun ah ae => O_y rfl (Xk (i := 0) Za7 Hj hs rfl rfl rfl rfl) ?_)
 obtain ⟨ab, aa, H⟩ := bnd H
 refine Oc rfl (H2.c hs h0 aa) (fun ai w hpost => ?_)
 obtain ⟨rfl, hs⟩ := hpost
 refine Ont rfl <| As rfl <| Ox ae <| Zk ?_
 obtain rfl := Zz H
 exact r1 rfl ⟨rfl, (hs.sub (ssk ssr))⟩

def Qw.j1 (aa : Bool) : Option Bool := some aa
def Qw.f (x0 : Val) (y0_0 y1_0 : Int) : Option Bool := if y0_0 ≤ x0.n then (if x0.n ≤ y1_0 then ((Va.f x0).bind fun al => ((V1.f al).bind fun ae => (Qw.j1 ae))) else (Qw.j1 false)) else (Qw.j1 false)
theorem Qw.c {pb0 : Nat} {y0_0 : Int} {pb1 : Nat} {y1_0 : Int} {pb2 : Nat} (hs : St w0 ρ ((.box pb0 3 ([.int .i64 y0_0])) :: (.box pb1 3 ([.int .i64 y1_0])) :: (.box pb2 133 ([.func (.func 88) #[] #[]])) :: Γ) w) {c0 : List Value} {x0 : Val} (h0 : X9.R ρ c0 x0) {r : Bool} (H : Qw.f x0 y0_0 y1_0 = some r) : Zn Tryz.prog 147 [.agg c0.toArray, .pointer (some ⟨pb0, 0, none⟩), .pointer (some ⟨pb1, 0, none⟩), .pointer (some ⟨pb2, 0, none⟩)] w (fun v w' => v = .bool r ∧ St w0 ρ ((.box pb0 3 ([.int .i64 y0_0])) :: (.box pb1 3 ([.int .i64 y1_0])) :: (.box pb2 133 ([.func (.func 88) #[] #[]])) :: Γ) w') := by
 rw [Qw.f] at H
 refine Et Tryz.func147 Tryz.ntmps147 rfl ?_
 have ao := h0
 obtain rfl := ao
 refine Wr fun az ap => Vg (cs := [.int .i32 x0.lo, .int .i32 x0.hi, .int .i64 x0.n]) hs rfl rfl (fun am w hs => As rfl <| Ox ap <| Yu fun aq ar af => ?_)
 have ag : ∀ (aa : Bool) (ab : Hp) (w : World), Qw.j1 aa = some r → Le ρ ab → St w0 ab ((.box am 67 ([.int .i32 x0.lo, .int .i32 x0.hi, .int .i64 x0.n])) :: (.box pb0 3 ([.int .i64 y0_0])) :: (.box pb1 3 ([.int .i64 y1_0])) :: (.box pb2 133 ([.func (.func 88) #[] #[]])) :: Γ) w → aq [(5, .bool aa)] w := by
  intro aa ab w H ad hs
  rw [Qw.j1] at H
  refine ar _ _ <| Zk ?_
  obtain rfl := Zz H
  exact r1 rfl ⟨rfl, ((hs.sub (ssk (ssc (ssc (ssc ssr))))).less ad)⟩
 refine Qn 17 [0, 1, 0, 6, 8, 16, 48, 16, 208, 272, 528, 1024, 1024, 5120, 11264, 17408, 65535] [65532, 65524, 65523, 65504, 63488, 65408, 65152, 65120, 64512, 63488, 0, 45056, 51200, 34816, 0, 0, 0] [0, 1, 0, 7, 15, 31, 63, 31, 255, 511, 1023, 2047, 2047, 6143, 16383, 32767, 65535] [] (fun w => St w0 ρ ((.box am 67 ([.int .i32 x0.lo, .int .i32 x0.hi, .int .i64 x0.n])) :: (.box pb0 3 ([.int .i64 y0_0])) :: (.box pb1 3 ([.int .i64 y1_0])) :: (.box pb2 133 ([.func (.func 88) #[] #[]])) :: Γ) w) Vl (by kernel_rfl) (fun sh => ?_)
 have hs := hs.drew
 refine Fp 0 sh rfl (fun w => Zp Zdt rfl) <| Fy 1 sh rfl hs (fun w hs => Yb 0 ag3 hs rfl rfl rfl) <| Fy 2 sh rfl hs (fun w hs => Yb 1 ag3 hs rfl rfl rfl) <| Fp 3 sh rfl (fun w => Zoj rfl rfl) <| Fm 4 sh rfl <| Zav (dj := 10) rfl (fun ah => ?_) (fun ah => ?_)
 rw [if_pos ah] at H
 refine Fp 5 sh rfl (fun w => Zp Zdt rfl) <| Fy 6 sh rfl hs (fun w hs => Yb 0 ag3 hs rfl rfl rfl) <| Fy 7 sh rfl hs (fun w hs => Yb 2 ag3 hs rfl rfl rfl) <| Fp 8 sh rfl (fun w => Zmd rfl rfl) <| Fp 9 sh rfl (fun w => J7 rfl rfl) <| Fm 10 sh rfl <| Zav (dj := 16) rfl (fun ai => ?_) (fun ai => ?_)
 rw [if_pos ai] at H
 refine Fy 11 sh rfl hs (fun w hs => Yb 3 Zej hs rfl rfl rfl) <| Fy 12 sh rfl hs (fun w hs => Xk (i := 0) Ze7 Zeg hs rfl rfl rfl rfl) <| F1 13 sh rfl (fun a0 au => Oe rfl ?_)
 obtain ⟨al, aj, H⟩ := bnd H
 refine Oc rfl (Va.c hs h0 aj) (fun a1 w hpost => ?_)
 obtain ⟨av, aw, rfl, ac, hs, an⟩ := hpost
 have ax := an
 obtain rfl := ax
 refine Zd (au _ _ (fun _ _ => (hs.less ac)) <| F1 14 sh rfl (fun a2 ay => Oe rfl ?_))
 obtain ⟨ae, ak, H⟩ := bnd H
 refine Xo rfl rfl rfl (V1.c hs an ak) (fun a3 w hpost => ?_)
 obtain ⟨rfl, hs⟩ := hpost
 refine Zd (ay _ _ (fun _ _ => (hs.less ac)) <| Fp 15 sh rfl (fun w => J7 rfl rfl) <| Fp 16 sh rfl (fun w => Xv rfl) <| FE sh (af _ _ _ (S1 rfl) (ag ae av _ H ac hs)))
 rw [if_neg ai] at H
 refine Fn 11 sh rfl <| Fn 12 sh rfl <| Fn 13 sh rfl <| Fn 14 sh rfl <| Fp 15 sh rfl (fun w => Qr rfl rfl) <| Fp 16 sh rfl (fun w => Xv rfl) <| FE sh (af _ _ _ (S1 rfl) (ag false ρ _ H (Le.rfl' _) hs))
 rw [if_neg ah] at H
 refine Fn 5 sh rfl <| Fn 6 sh rfl <| Fn 7 sh rfl <| Fn 8 sh rfl <| Fp 9 sh rfl (fun w => Qr rfl rfl) <| Fm 10 sh rfl <| Fn 11 sh rfl <| Fn 12 sh rfl <| Fn 13 sh rfl <| Fn 14 sh rfl <| Fp 15 sh rfl (fun w => Qr rfl rfl) <| Fp 16 sh rfl (fun w => Xv rfl) <| FE sh (af _ _ _ (S1 rfl) (ag false ρ _ H (Le.rfl' _) hs))

def Zt.j1 (ak : Int → Int → Option Int) (aa : Int) (ae : Spn) (ab : Bool) : Option Int := if ab = true then (some aa) else (ak ae.hi (i64.wrap (aa + 1)))
def Zt.l1 : Nat → Int → Int → List Val → Int → Int → Option Int
  | 0, _, _, _, _, _ => none
  | ac + 1, y0_0, y1_0, x0, ad, aa => if aa < (x0.length : Int) then (if (0 : Int) ≤ aa ∧ aa < (x0.length : Int) then ((Va.f (rd x0 aa)).bind fun ae => (if ae.lo ≤ ad then (Zt.j1 (Zt.l1 ac y0_0 y1_0 x0) aa ae true) else (if ae.hi < ae.lo then (Zt.j1 (Zt.l1 ac y0_0 y1_0 x0) aa ae true) else (if 1114111 < ae.hi then (Zt.j1 (Zt.l1 ac y0_0 y1_0 x0) aa ae true) else ((Qw.f (rd x0 aa) y0_0 y1_0).bind fun al => (Zt.j1 (Zt.l1 ac y0_0 y1_0 x0) aa ae (!al))))))) else none) else (some (-1))
def Zt.f (x0 : List Val) (y0_0 y1_0 : Int) : Option Int := if 65536 < (x0.length : Int) then (some 65536) else (Zt.l1 K0 y0_0 y1_0 x0 (-1) 0)
theorem Zt.c {pb0 : Nat} {y0_0 : Int} {pb1 : Nat} {y1_0 : Int} {pb2 : Nat} (hs : St w0 ρ ((.box pb0 3 ([.int .i64 y0_0])) :: (.box pb1 3 ([.int .i64 y1_0])) :: (.box pb2 133 ([.func (.func 88) #[] #[]])) :: Γ) w) {v0 : Value} {x0 : List Val} (h0 : SlR X9 ρ v0 x0) {r : Int} (H : Zt.f x0 y0_0 y1_0 = some r) : Zn Tryz.prog 145 [v0, .func (.func 146) #[] #[], .func (.func 147) #[] #[.pointer (some ⟨pb0, 0, none⟩), .pointer (some ⟨pb1, 0, none⟩), .pointer (some ⟨pb2, 0, none⟩)]] w (fun v w' => v = .int .i64 r ∧ St w0 ρ ((.box pb0 3 ([.int .i64 y0_0])) :: (.box pb1 3 ([.int .i64 y1_0])) :: (.box pb2 133 ([.func (.func 88) #[] #[]])) :: Γ) w') := by
 rw [Zt.f] at H
 refine Et Tryz.func145 Tryz.ntmps145 rfl <| Wr fun bt a6 => As rfl <| Ox a6 <| Zh fun bu a7 => Wr fun bv a8 => Mv rfl <| O_y rfl (Yv Zfb h0 rfl) <| Ogt rfl <| Ox a8 <| Y7 rfl (fun av => ?_) (fun av => ?_)
 rw [if_pos av] at H
 refine Wr fun bw a9 => As rfl <| Ox a9 <| Zk ?_
 obtain rfl := Zz H
 exact r1 rfl ⟨rfl, hs⟩
 rw [if_neg av] at H
 refine Wx a7 <| Wr fun bx ba => As rfl <| Ox ba <| Zh fun bz bb => Wr fun b0 bc => Mv rfl <| O_y rfl (Yv Zfb h0 rfl) <| Mv rfl <| Ox bc <| Zj fun b1 bd b2 => Y9 (σ := Nat × Int × Int × Hp) (fun (ac, ad, aa, ag) => [(1, .func (.func 146) #[] #[]), (2, .func (.func 147) #[] #[.pointer (some ⟨pb0, 0, none⟩), .pointer (some ⟨pb1, 0, none⟩), .pointer (some ⟨pb2, 0, none⟩)]), (7, .int .i32 ad), (14, v0), (15, .int .i64 (x0.length : Int)), (16, .int .i64 aa)]) (fun (ac, ad, aa, ag) w => Zt.l1 ac y0_0 y1_0 x0 ad aa = some r ∧ Le ρ ag ∧ St w0 ag ((.box pb0 3 ([.int .i64 y0_0])) :: (.box pb1 3 ([.int .i64 y1_0])) :: (.box pb2 133 ([.func (.func 88) #[] #[]])) :: Γ) w) (fun s => s.1) (K0, (-1), 0, ρ) sbn (Ai H (Ai (Le.rfl' _) hs)) ?_
 rintro ⟨ac, ad, aa, ag⟩ w b3 ⟨H, af, hs⟩ am
 show W _ _ _ _ _ _ [(1, .func (.func 146) #[] #[]), (2, .func (.func 147) #[] #[.pointer (some ⟨pb0, 0, none⟩), .pointer (some ⟨pb1, 0, none⟩), .pointer (some ⟨pb2, 0, none⟩)]), (7, .int .i32 ad), (14, v0), (15, .int .i64 (x0.length : Int)), (16, .int .i64 aa)] w
 cases ac with
 | zero => rw [Zt.l1] at H; cases H
 | succ ac =>
 rw [Zt.l1] at H
 refine Wr fun b4 be => Ols rfl <| Ox be <| Zh fun b5 bf => Y7 rfl (fun aw => ?_) (fun aw => ?_)
 rw [if_pos aw] at H
 refine Wx bf <| Zh fun b6 bg => Zj fun b7 b8 b9 => Wr fun ca bh => Mv rfl ?_
 obtain ⟨a4, H⟩ := gd H
 obtain ⟨cb, cc, bi, bj⟩ := (h0.mono af).ix Zcg a4.1 a4.2
 obtain ⟨_, rfl, bk⟩ := bi
 refine O_y rfl (bj rfl rfl) <| O_y rfl (Qv Ze7 Zeg rfl rfl (fun j u hu => hs.see (bk j u hu))) <| Y6 Zlb hs rfl (fun bl w hs => As rfl <| Ye (i := 0) Zeg hs rfl rfl rfl rfl rfl (Zb rfl (Zb rfl (Zb rfl Yj))) (fun w hs => Ox bh <| Wr fun cd bm => Mv rfl <| O_y rfl (Xk (i := 0) Ze7 Zeg hs rfl rfl rfl rfl) ?_))
 obtain ⟨ae, ax, H⟩ := bnd H
 refine Xo rfl rfl rfl (Va.c hs rfl ax) (fun ce w hpost => ?_)
 obtain ⟨a5, bn, rfl, aj, hs, bo⟩ := hpost
 have ay := bo
 obtain rfl := ay
 refine Y6 Zay hs rfl (fun ar w hs => Ye (i := 0) Hj hs rfl rfl rfl rfl rfl (Zb rfl (Zb rfl Yj)) (fun w hs => Ox bm <| W.weak [(1, _), (2, _), (7, _), (8, _), (9, _), (10, _), (14, _), (15, _), (16, _)] sbn ?_))
 refine Zh fun bp az => Yu fun a0 a1 ah => ?_
 have ai : ∀ (ab : Bool) (w : World), Zt.j1 (Zt.l1 ac y0_0 y1_0 x0) aa ae ab = some r → St w0 a5 ((.box ar 129 ([.int .i32 ae.lo, .int .i32 ae.hi])) :: (.box bl 67 ([.int .i32 ((rd x0 aa).lo), .int .i32 ((rd x0 aa).hi), .int .i64 ((rd x0 aa).n)])) :: (.box pb0 3 ([.int .i64 y0_0])) :: (.box pb1 3 ([.int .i64 y1_0])) :: (.box pb2 133 ([.func (.func 88) #[] #[]])) :: Γ) w → a0 [(1, .func (.func 146) #[] #[]), (2, .func (.func 147) #[] #[.pointer (some ⟨pb0, 0, none⟩), .pointer (some ⟨pb1, 0, none⟩), .pointer (some ⟨pb2, 0, none⟩)]), (8, .int .i64 aa), (10, .pointer (some ⟨ar, 0, none⟩)), (14, v0), (15, .int .i64 (x0.length : Int)), (16, .int .i64 aa), (45, .bool ab)] w := by
  intro ab w H hs
  rw [Zt.j1] at H
  refine a1 _ _ <| Xg rfl (fun an => ?_) (fun an => ?_)
  rw [if_pos an] at H
  refine Wr fun bq a2 => Mv rfl <| As rfl <| Ox a2 <| Zk ?_
  obtain rfl := Zz H
  exact r1 rfl ⟨rfl, ((hs.sub (ssk (ssk (ssc (ssc (ssc ssr)))))).less (af.trans aj))⟩
  rw [if_neg (bft an)] at H
  refine Wx az <| Zc <| Ofd Vr rfl <| Obx 0 Xm hs rfl <| As rfl <| Ox bg <| Zc <| Oad rfl <| Mv rfl <| Zd (am (ac, ae.hi, (i64.wrap (aa + 1)), a5) _ _ sbn (Ai H (Ai (af.trans aj) (hs.sub (ssk (ssk (ssc (ssc (ssc ssr)))))))) (Nat.lt_succ_self _))
 refine Zc <| Ofd Uw rfl <| Obx 0 Xm hs rfl <| Mv rfl <| Ole rfl <| Mv rfl <| X6 (dj := 28) rfl (fun ao => ?_) (fun ao => ?_)
 rw [if_pos ao] at H
 refine On rfl <| On rfl <| On rfl <| On rfl <| On rfl <| Opk rfl <| Mv rfl <| On rfl <| On rfl <| On rfl <| Opk rfl <| Mv rfl <| On rfl <| On rfl ?_
 refine On rfl <| On rfl <| Opk rfl <| Zd (ah _ _ _ sbn (ai true _ H hs))
 rw [if_neg ao] at H
 refine Oe rfl <| Ofd Vr rfl <| Oe rfl <| Obx 0 Xm hs rfl <| Oe rfl <| Ofd Uw rfl <| Oe rfl <| Obx 0 Xm hs rfl <| Oe rfl <| Ols rfl <| Opk rfl <| Mv rfl <| X6 (dj := 35) rfl (fun ap => ?_) (fun ap => ?_)
 rw [if_pos ap] at H
 refine On rfl <| On rfl <| On rfl <| Opk rfl <| Mv rfl <| On rfl <| On rfl <| On rfl <| On rfl <| Opk rfl <| Zd (ah _ _ _ sbn (ai true _ H hs))
 rw [if_neg ap] at H
 refine Oe rfl <| Ofd Vr rfl <| Oe rfl <| Obx 0 Xm hs rfl <| Oe rfl <| Ogt rfl <| Opk rfl <| Mv rfl <| X6 (dj := 40) rfl (fun aq => ?_) (fun aq => ?_)
 rw [if_pos aq] at H
 refine On rfl <| On rfl <| On rfl <| On rfl <| Opk rfl <| Zd (ah _ _ _ sbn (ai true _ H hs))
 rw [if_neg aq] at H
 refine Oe rfl <| Mv rfl <| Oe rfl <| O_y rfl (Xk (i := 1) Ze7 Zeg hs rfl rfl rfl rfl) <| Oe rfl ?_
 have hs := hs.front 4 rfl
 have hs := hs.front 4 rfl
 have hs := hs.front 4 rfl
 obtain ⟨al, au, H⟩ := bnd H
 refine Xo rfl rfl rfl (Qw.c hs rfl au) (fun br w hpost => ?_)
 obtain ⟨rfl, hs⟩ := hpost
 have hs := hs.sink 4
 have hs := hs.sink 4
 have hs := hs.sink 4
 refine Oe rfl <| Ont rfl <| Opk rfl <| Zd (ah _ _ _ sbn (ai (!al) _ H hs))
 rw [if_neg aw] at H
 refine Y4 (bd _ _ (bb _ _ <| Wr fun bs a3 => As rfl <| Ox a3 <| Zk ?_))
 obtain rfl := Zz H
 exact r1 rfl ⟨rfl, (hs.less af)⟩

def K6.f (x0 : List Val) (x1 x2 : Int) : Option Int := (Zt.f x0 x1 x2).bind fun ab => (some ab)
theorem K6.c (hs : St w0 ρ (Γ) w) {v0 : Value} {x0 : List Val} (h0 : SlR X9 ρ v0 x0) {x1 x2 r : Int} (H : K6.f x0 x1 x2 = some r) : Zn Tryz.prog 95 [v0, .int .i64 x1, .int .i64 x2, .func (.func 88) #[] #[]] w (fun v w' => v = .int .i64 r ∧ St w0 ρ Γ w') := by
 rw [K6.f] at H
 refine Et Tryz.func95 Tryz.ntmps95 rfl <| Wr fun ae ac => Zcj hs rfl rfl rfl (fun af w hs => Zcj hs rfl rfl rfl (fun ag w hs => Zcj hs rfl rfl rfl (fun ah w hs => As rfl <| Ox ac <| Wr fun ai ad => Mv rfl <| O_y rfl (Ux rfl) ?_)))
 have hs := hs.front 1 rfl
 have hs := hs.front 2 rfl
 obtain ⟨ab, aa, H⟩ := bnd H
 refine Oc rfl (Zt.c hs h0 aa) (fun aj w hpost => ?_)
 obtain ⟨rfl, hs⟩ := hpost
 have hs := hs.sink 2
 have hs := hs.sink 1
 refine As rfl <| Ox ad <| Zk ?_
 obtain rfl := Zz H
 exact r1 rfl ⟨rfl, (hs.sub (ssk (ssk (ssk ssr))))⟩

def U5.f (y0_0 : List ByteArray) (y0_1 : List Val) (y0_2 : List Chs) (y0_3 : List Val) (y0_4 : List Chs) (y0_5 : List Spn) (y0_6 y0_7 : List Val) (y0_8 : List Spn) (y0_9 : List Val) (y0_10 : List Chs) : Option Int := (K6.f y0_3 1 254).bind fun ab => (some ab)
theorem U5.c {pb0 : Nat} {w0_0 : Value} {y0_0 : List ByteArray} {w0_1 : Value} {y0_1 : List Val} {w0_2 : Value} {y0_2 : List Chs} {w0_3 : Value} {y0_3 : List Val} {w0_4 : Value} {y0_4 : List Chs} {w0_5 : Value} {y0_5 : List Spn} {w0_6 : Value} {y0_6 : List Val} {w0_7 : Value} {y0_7 : List Val} {w0_8 : Value} {y0_8 : List Spn} {w0_9 : Value} {y0_9 : List Val} {w0_10 : Value} {y0_10 : List Chs} {pb1 : Nat} (hs : St w0 ρ ((.box pb0 27 ([w0_0, w0_1, w0_2, w0_3, w0_4, w0_5, w0_6, w0_7, w0_8, w0_9, w0_10])) :: (.box pb1 133 ([.func (.func 88) #[] #[]])) :: Γ) w) (g0_0 : SlR Rep.str ρ w0_0 y0_0) (g0_1 : SlR X9 ρ w0_1 y0_1) (g0_2 : SlR Ks ρ w0_2 y0_2) (g0_3 : SlR X9 ρ w0_3 y0_3) (g0_4 : SlR Ks ρ w0_4 y0_4) (g0_5 : SlR Kd ρ w0_5 y0_5) (g0_6 : SlR X9 ρ w0_6 y0_6) (g0_7 : SlR X9 ρ w0_7 y0_7) (g0_8 : SlR Kd ρ w0_8 y0_8) (g0_9 : SlR X9 ρ w0_9 y0_9) (g0_10 : SlR Ks ρ w0_10 y0_10) {r : Int} (H : U5.f y0_0 y0_1 y0_2 y0_3 y0_4 y0_5 y0_6 y0_7 y0_8 y0_9 y0_10 = some r) : Zn Tryz.prog 98 [.pointer (some ⟨pb0, 0, none⟩), .pointer (some ⟨pb1, 0, none⟩)] w (fun v w' => v = .int .i64 r ∧ St w0 ρ ((.box pb0 27 ([w0_0, w0_1, w0_2, w0_3, w0_4, w0_5, w0_6, w0_7, w0_8, w0_9, w0_10])) :: (.box pb1 133 ([.func (.func 88) #[] #[]])) :: Γ) w') := by
 rw [U5.f] at H
 refine Et Tryz.func98 Tryz.ntmps98 rfl <| Wr fun ae ac => As rfl <| Ox ac <| Wr fun af ad => Ofd Zkz rfl <| Obx 0 Zbl hs rfl <| Obx 1 Zej hs rfl ?_
 obtain ⟨ab, aa, H⟩ := bnd H
 refine Oc rfl (K6.c hs g0_3 aa) (fun ag w hpost => ?_)
 obtain ⟨rfl, hs⟩ := hpost
 refine As rfl <| Ox ad <| Zk ?_
 obtain rfl := Zz H
 exact r1 rfl ⟨rfl, hs⟩

end Go.Proofs.YthoicbafdanmkaaGreatDoor
