/- Written by this repo's gen.py: for each Go function a Lean function with the same answers and the walk that shows it. -/
import Derived.Test.YtekafkokpnihfaaGreatTA2
import Derived.Test.YtekafkokpnihfaaGreatTA3
import Derived.Test.YtekafkokpnihfaaGreatData
import Derived.Test.YtekafkokpnihfaaGreatFacts
namespace Go.Proofs.YtekafkokpnihfaaGreat
open Go.RowKit
set_option maxRecDepth 100000
set_option maxHeartbeats 4000000
set_option linter.unusedVariables false
def book_Compile.j1 (ff : (List (Vector Int 2 × Int)) → Int → Option (Option Tbs × Int)) (ab : Int) (bj : List (Vector Int 2 × Int)) : Option (Option Tbs × Int) := ff bj (IntKind.i64.wrap (ab + 1))
def book_Compile.j2 (ff : (List (Vector Int 2 × Int)) → Int → Option (Option Tbs × Int)) (ap : Bk) (ac : List (Vector Int 2 × Int)) (ab : Int) (b6 : Bool) : Option (Option Tbs × Int) := if b6 = true then (if (0 : Int) ≤ 0 ∧ 0 < (((rd ap.decomp ab).is_).length : Int) then (if (0 : Int) ≤ 1 ∧ 1 < (((rd ap.decomp ab).is_).length : Int) then (book_Compile.j1 ff ab (mput ac (#v[rd ((rd ap.decomp ab).is_) 0, rd ((rd ap.decomp ab).is_) 1]) ((rd ap.decomp ab).lo))) else none) else none) else (book_Compile.j1 ff ab ac)
def book_Compile.l1 : Nat → Bk → Option Tab → Option Tab → Option Tab → Option Tab → Option Tab → Option Tab → Option Tab → Option Tab → Option Tab → Option Tab → (List (Vector Int 2 × Int)) → Int → Option (Option Tbs × Int)
  | 0, _, _, _, _, _, _, _, _, _, _, _, _, _ => none
  | bs + 1, ap, af, ad, ag, ah, ai, ae, aj, ak, al, am, ac, ab => if ab < (ap.decomp.length : Int) then (if (0 : Int) ≤ ab ∧ ab < (ap.decomp.length : Int) then (if (((rd ap.decomp ab).is_).length : Int) = 2 then ((stage_Table_Look.f ae ((rd ap.decomp ab).lo)).bind fun ku => (if ku = 0 then ((stage_Table_Look.f ad ((rd ap.decomp ab).lo)).bind fun kv => (if kv = 0 then (if (0 : Int) ≤ 0 ∧ 0 < (((rd ap.decomp ab).is_).length : Int) then ((stage_Table_Look.f ad (rd ((rd ap.decomp ab).is_) 0)).bind fun j8 => (book_Compile.j2 (book_Compile.l1 bs ap af ad ag ah ai ae aj ak al am) ap ac ab (decide (j8 = 0)))) else none) else (book_Compile.j2 (book_Compile.l1 bs ap af ad ag ah ai ae aj ak al am) ap ac ab false))) else (book_Compile.j2 (book_Compile.l1 bs ap af ad ag ah ai ae aj ak al am) ap ac ab false))) else (book_Compile.j2 (book_Compile.l1 bs ap af ad ag ah ai ae aj ak al am) ap ac ab false)) else none) else (some ((some (⟨(⟨ap.names, ap.status, ap.maps, ap.class_, ap.decomp, ap.excl, ap.bidi, ap.join, ap.marks, ap.script, ap.like⟩ : Bk), af, ad, ag, ah, ai, ae, aj, ak, al, am, ac⟩ : Tbs)), 0))
def book_Compile.j3 (ap : Bk) (af ad ag ah ai ae aj ak al am : Option Tab) : Option (Option Tbs × Int) := book_Compile.l1 K0 ap af ad ag ah ai ae aj ak al am ([] : List (Vector Int 2 × Int)) 0
def book_Compile.t1 (ap : Bk) (b9 ca cb cc cd ce cf cg ch : Option Tab) : Option (Option Tbs × Int) := (book_numbered_api_Chars_fhb.f ap.like).bind fun j9 => (book_Compile.j3 ap b9 ca cb cc cd ce cf cg ch j9)
def book_Compile.t2 (ap : Bk) (ci cj ck cl cm cn co cp : Option Tab) : Option (Option Tbs × Int) := (book_numbered_api_Chars_fhb.f ap.decomp).bind fun ka => (book_Compile.t1 ap ci cj ck cl cm cn co cp ka)
def book_Compile.t3 (ap : Bk) (cq cr ct cu cv cw cx : Option Tab) : Option (Option Tbs × Int) := (book_numbered_api_Chars_fhb.f ap.maps).bind fun kb => (book_Compile.t2 ap cq cr ct cu cv cw cx kb)
def book_Compile.t4 (ap : Bk) (cy cz da db dc dd : Option Tab) : Option (Option Tbs × Int) := (book_marked.f ap.marks).bind fun kc => (book_Compile.t3 ap cy cz da db dc dd kc)
def book_Compile.t5 (ap : Bk) (de df dg dh di : Option Tab) : Option (Option Tbs × Int) := (book_marked.f ap.excl).bind fun kd => (book_Compile.t4 ap de df dg dh di kd)
def book_Compile.t6 (ap : Bk) (dk dl dm dn : Option Tab) : Option (Option Tbs × Int) := (book_Compile_1.f ap.script).bind fun ke => (book_Compile.t5 ap dk dl dm dn ke)
def book_Compile.t7 (ap : Bk) (dp dq dr : Option Tab) : Option (Option Tbs × Int) := (book_Compile_1.f ap.join).bind fun kf => (book_Compile.t6 ap dp dq dr kf)
def book_Compile.t8 (ap : Bk) (ds dt : Option Tab) : Option (Option Tbs × Int) := (book_Compile_1.f ap.bidi).bind fun kg => (book_Compile.t7 ap ds dt kg)
def book_Compile.t9 (ap : Bk) (du : Option Tab) : Option (Option Tbs × Int) := (book_Compile_1.f ap.class_).bind fun kh => (book_Compile.t8 ap du kh)
def book_Compile.t10 (ap : Bk) : Option (Option Tbs × Int) := (book_Compile_1.f ap.status).bind fun ki => (book_Compile.t9 ap ki)
def book_Compile.f (x0 : Bk) : Option (Option Tbs × Int) := (book_Check.f x0).bind fun bl => (if bl.2 ≠ 0 then (some (none, bl.2)) else ((book_copied.f x0).bind fun ap => (book_Compile.t10 ap )))
theorem book_Compile.c {w0 w : World} {ρ : Hp} {Γ : List Item} (hs : St w0 ρ (Γ) w) {c0 : List Value} {x0 : Bk} (h0 : rBk.R ρ c0 x0) {r : Option Tbs × Int} (H : book_Compile.f x0 = some r) : CallsR Tryz.prog 19 [.agg c0.toArray] w (fun v w' => ∃ (ρ' : Hp) (v0 : Value), v = .tuple #[v0, .int .i64 r.2] ∧ Le ρ ρ' ∧ St w0 ρ' (Γ) w' ∧ PtrR rTbs ρ' v0 r.1) := by
  rw [book_Compile.f] at H
  refine enter Tryz.func19 Tryz.ntmps19 rfl (by kernel_rfl) rfl ?_
  have pb := h0
  obtain ⟨pc, pd, pe, pf, pg, ph, pi, pj, pk, pl, pm, rfl, sb, sc, sd, se, sf, sg, si, sj, sk, sl, sm⟩ := pb
  refine Wr fun sn pn => O_boxN (cs := [pc, pd, pe, pf, pg, ph, pi, pj, pk, pl, pm]) hs rfl rfl (fun b3 w hs => Oa rfl rfl <| Oa rfl rfl <| O_nil (pn _ _ <| W_seq fun so po => Wr fun sp pp => O_y rfl (Y_loadbN (i := 0) ag27 sz27 hs rfl rfl rfl rfl) ?_))
  obtain ⟨bl, l8, H⟩ := bnd H
  refine O_call rfl rfl (book_Check.c hs h0 l8) (fun sq w hpost => ?_)
  obtain ⟨pq, pr, rfl, kj, hs, ps⟩ := hpost
  have pt := ps
  obtain rfl := pt
  refine Om rfl rfl <| O_y rfl (Y_extract rfl rfl) <| O_y rfl (Y_extract rfl rfl) <| O_alloc zr85 hs rfl (fun fb w hs => O_storeN (i := 0) sz85 hs rfl rfl rfl rfl rfl (one_cons rfl (one_cons rfl one_nil)) (fun w hs => Oa rfl rfl <| O_nil (pp _ _ <| Wr fun sr pu => Om rfl rfl <| O_y rfl (Y_neq rfl rfl) <| O_nil (pu _ _ <| W_if rfl (fun l9 => ?_) (fun l9 => ?_)))))
  ·rw [if_pos l9] at H
   refine Wr fun ss pv => Om rfl rfl <| Oa rfl rfl <| Oa rfl rfl <| O_nil (pv _ _ <| W_ret ?_)
   have pw : PtrR rTbs pq (.pointer none) none := PtrR.nil _ _
   obtain rfl := sinj H
   exact ret2 rfl rfl rfl ⟨_, _, rfl, kj, (hs.sub (ssk (ssk ssr))), pw⟩
  ·rw [if_neg l9] at H
   refine W_skip (po _ _ <| Wr fun st px => O_y rfl (Y_loadbN (i := 1) ag27 sz27 hs rfl rfl rfl rfl) ?_)
   obtain ⟨ap, ma, H⟩ := bnd H
   refine O_call rfl rfl (book_copied.c hs (rBk.mono kj h0) ma) (fun py w hpost => ?_)
   obtain ⟨br, pa, rfl, kw, hs, mb⟩ := hpost
   have mc := mb
   obtain ⟨ba, a9, aq, a8, an, au, a7, a6, ar, a5, ao, rfl, kx, jn, jo, jp, hf, jq, jr, js, jt, ju, jv⟩ := mc
   refine O_storeN (i := 1) sz27 hs rfl rfl rfl rfl rfl (one_cons kx.one (one_cons jn.one (one_cons jo.one (one_cons jp.one (one_cons hf.one (one_cons jq.one (one_cons jr.one (one_cons js.one (one_cons jt.one (one_cons ju.one (one_cons jv.one one_nil))))))))))) (fun w hs => O_nil (px _ _ <| W.weak [(1, _)] (S1 rfl) <| Wr fun pz md => Oa rfl rfl <| O_nil (md _ _ <| W_seqj fun me mf ky => ?_)))
   have kz : ∀ (af ad ag ah ai ae aj ak al am : Option Tab) (av aw ax ay az a0 a1 a2 a3 a4 : Value) (bm aa : Nat) (bn : Hp) (w : World), book_Compile.j3 ap af ad ag ah ai ae aj ak al am = some r → Le br bn → St w0 bn ((.box bm 62 ([ba, a9, aq, a8, an, au, a7, a6, ar, a5, ao, av, aw, ax, ay, az, a0, a1, a2, a3, a4, .map (some aa)])) :: (.obj aa (mapObj kv96.enc (vs (Value.int .i32) ([] : List (Vector Int 2 × Int))))) :: (.box fb 85 ([.int .i64 bl.1.list, .int .i64 bl.1.row])) :: (.box b3 27 ([ba, a9, aq, a8, an, au, a7, a6, ar, a5, ao])) :: Γ) w → PtrR rTab bn av af → PtrR rTab bn aw ad → PtrR rTab bn ax ag → PtrR rTab bn ay ah → PtrR rTab bn az ai → PtrR rTab bn a0 ae → PtrR rTab bn a1 aj → PtrR rTab bn a2 ak → PtrR rTab bn a3 al → PtrR rTab bn a4 am → me [(1, .pointer (some ⟨b3, 0, none⟩)), (7, .pointer (some ⟨bm, 0, none⟩))] w := by
    intro af ad ag ah ai ae aj ak al am av aw ax ay az a0 a1 a2 a3 a4 bm aa bn w H bk hs fg bq fh fi fj b7 fk fl fm fn
    rw [book_Compile.j3] at H
    refine mf _ _ <| W_seq fun p0 mg => Wr fun p1 mh => O_y rfl (Y_field fo27_4 rfl) <| O_y rfl (Yb 3 ag24 hs rfl rfl rfl) <| O_y rfl (Y_lenR un24 (hf.mono bk) rfl) <| Om rfl rfl <| O_nil (mh _ _ <| W_block fun p2 mi p3 => W_loop (σ := Nat × (List (Vector Int 2 × Int)) × Int) (fun (bs, ac, ab) => [(7, .pointer (some ⟨bm, 0, none⟩)), (60, an), (61, .int .i64 (ap.decomp.length : Int)), (62, .int .i64 ab)]) (fun (bs, ac, ab) w => book_Compile.l1 bs ap af ad ag ah ai ae aj ak al am ac ab = some r ∧ St w0 bn ((.box bm 62 ([ba, a9, aq, a8, an, au, a7, a6, ar, a5, ao, av, aw, ax, ay, az, a0, a1, a2, a3, a4, .map (some aa)])) :: (.obj aa (mapObj kv96.enc (vs (Value.int .i32) ac))) :: (.box fb 85 ([.int .i64 bl.1.list, .int .i64 bl.1.row])) :: (.box b3 27 ([ba, a9, aq, a8, an, au, a7, a6, ar, a5, ao])) :: Γ) w) (fun s => s.1) (K0, ([] : List (Vector Int 2 × Int)), 0) (S4 rfl rfl rfl rfl) (Ai H hs) ?_)
    rintro ⟨bs, ac, ab⟩ w p4 ⟨H, hs⟩ jw
    show W _ _ _ _ _ _ [(7, .pointer (some ⟨bm, 0, none⟩)), (60, an), (61, .int .i64 (ap.decomp.length : Int)), (62, .int .i64 ab)] w
    cases bs with
    | zero => rw [book_Compile.l1] at H; cases H
    | succ bs =>
    rw [book_Compile.l1] at H
    refine Wr fun p5 mj => O_y rfl (Y_lss rfl rfl) <| O_nil (mj _ _ <| W_seq fun p6 mk => W_if rfl (fun kk => ?_) (fun kk => ?_))
    ·rw [if_pos kk] at H
     refine W_skip (mk _ _ <| W_seqj fun ml mm k0 => ?_)
     have k1 : ∀ (bj : List (Vector Int 2 × Int)) (w : World), book_Compile.j1 (book_Compile.l1 bs ap af ad ag ah ai ae aj ak al am) ab bj = some r → St w0 bn ((.box bm 62 ([ba, a9, aq, a8, an, au, a7, a6, ar, a5, ao, av, aw, ax, ay, az, a0, a1, a2, a3, a4, .map (some aa)])) :: (.obj aa (mapObj kv96.enc (vs (Value.int .i32) bj))) :: (.box fb 85 ([.int .i64 bl.1.list, .int .i64 bl.1.row])) :: (.box b3 27 ([ba, a9, aq, a8, an, au, a7, a6, ar, a5, ao])) :: Γ) w → ml [(7, .pointer (some ⟨bm, 0, none⟩)), (60, an), (61, .int .i64 (ap.decomp.length : Int)), (62, .int .i64 ab)] w := by
      intro bj w H hs
      rw [book_Compile.j1] at H
      refine mm _ _ <| W_region <| O_y rfl (Y_add rfl rfl) <| Om rfl rfl <| O_nil (jw (bs, bj, (IntKind.i64.wrap (ab + 1))) _ _ (S4 rfl rfl rfl rfl) (Ai H hs) (Nat.lt_succ_self _))
     refine W_block fun p7 p8 p9 => W_seq fun qa mn => W_region ?_
     obtain ⟨k2, H⟩ := gd H
     obtain ⟨qb, qc, mo, mp⟩ := (hf.mono bk).ix el24 k2.1 k2.2
     obtain ⟨_, ⟨kl, rfl, hk⟩, mq⟩ := mo
     refine O_y rfl (mp rfl rfl) <| O_y rfl (Y_loadN ag94 sz94 rfl rfl (fun j u hu => hs.see (mq j u hu))) <| O_alloc zr94 hs rfl (fun jx w hs => O_storeN (i := 0) sz94 hs rfl rfl rfl rfl rfl (one_cons rfl (one_cons rfl (one_cons hk.one one_nil))) (fun w hs => O_nil (mn _ _ <| W_seqj fun mr ms jy => ?_)))
     have jz : ∀ (b6 : Bool) (w : World), book_Compile.j2 (book_Compile.l1 bs ap af ad ag ah ai ae aj ak al am) ap ac ab b6 = some r → St w0 bn ((.box jx 94 ([.int .i32 ((rd ap.decomp ab).lo), .int .i32 ((rd ap.decomp ab).hi), kl])) :: (.box bm 62 ([ba, a9, aq, a8, an, au, a7, a6, ar, a5, ao, av, aw, ax, ay, az, a0, a1, a2, a3, a4, .map (some aa)])) :: (.obj aa (mapObj kv96.enc (vs (Value.int .i32) ac))) :: (.box fb 85 ([.int .i64 bl.1.list, .int .i64 bl.1.row])) :: (.box b3 27 ([ba, a9, aq, a8, an, au, a7, a6, ar, a5, ao])) :: Γ) w → mr [(7, .pointer (some ⟨bm, 0, none⟩)), (9, .pointer (some ⟨jx, 0, none⟩)), (60, an), (61, .int .i64 (ap.decomp.length : Int)), (62, .int .i64 ab), (101, .bool b6)] w := by
      intro b6 w H hs
      rw [book_Compile.j2] at H
      refine ms _ _ <| W_cond rfl (fun km => ?_) (fun km => ?_)
      ·rw [if_pos km] at H
       refine W_drawS 16 [0, 1, 2, 4, 0, 16, 32, 64, 0, 256, 512, 1024, 2176, 0, 8192, 32767] [32764, 32760, 32752, 32752, 32719, 32655, 32527, 28431, 31999, 30975, 28927, 24831, 24591, 8191, 8191, 0] [0, 1, 3, 7, 0, 16, 48, 112, 0, 256, 768, 1792, 4080, 0, 8192, 32767] [15] (fun w => St w0 bn ((.box jx 94 ([.int .i32 ((rd ap.decomp ab).lo), .int .i32 ((rd ap.decomp ab).hi), kl])) :: (.box bm 62 ([ba, a9, aq, a8, an, au, a7, a6, ar, a5, ao, av, aw, ax, ay, az, a0, a1, a2, a3, a4, .map (some aa)])) :: (.obj aa (mapObj kv96.enc (vs (Value.int .i32) ac))) :: (.box fb 85 ([.int .i64 bl.1.list, .int .i64 bl.1.row])) :: (.box b3 27 ([ba, a9, aq, a8, an, au, a7, a6, ar, a5, ao])) :: Γ) w) mixed (by kernel_rfl) (fun sh => ?_)
       have hs := hs.drew
       refine Dm 0 sh rfl rfl (by kernel_rfl) rfl <| Dp 1 sh rfl rfl (by kernel_rfl) (fun w => Y_nilp rfl) <| Dp 2 sh rfl rfl (by kernel_rfl) (fun w => Y_field fo62_11 rfl) <| Dy 3 sh rfl rfl (by kernel_rfl) hs (fun w hs => Yb 1 ag60 hs rfl rfl rfl) <| Dp 4 sh rfl rfl (by kernel_rfl) (fun w => Y_field fo94_2 rfl) <| Dy 5 sh rfl rfl (by kernel_rfl) hs (fun w hs => Yb 0 ag28 hs rfl rfl rfl) ?_
       obtain ⟨k3, H⟩ := gd H
       obtain ⟨qd, qe, mt, mu⟩ := hk.ix el28 k3.1 k3.2
       refine Dp 6 sh rfl rfl (by kernel_rfl) (fun w => mu rfl rfl) <| Dy 7 sh rfl rfl (by kernel_rfl) hs (fun w hs => Y_load ag21 rfl (hs.see mt.int)) <| Dp 8 sh rfl rfl (by kernel_rfl) (fun w => Y_field fo94_2 rfl) <| Dy 9 sh rfl rfl (by kernel_rfl) hs (fun w hs => Yb 0 ag28 hs rfl rfl rfl) ?_
       obtain ⟨k4, H⟩ := gd H
       obtain ⟨qf, qg, mv, mw⟩ := hk.ix el28 k4.1 k4.2
       refine Dp 10 sh rfl rfl (by kernel_rfl) (fun w => mw rfl rfl) <| Dy 11 sh rfl rfl (by kernel_rfl) hs (fun w hs => Y_load ag21 rfl (hs.see mv.int)) <| Dp 12 sh rfl rfl (by kernel_rfl) (fun w => Y_buildArr (xs := [.tmp 109, .tmp 113]) (zs := vcs (Value.int .i32) #v[rd ((rd ap.decomp ab).is_) 0, rd ((rd ap.decomp ab).is_) 1]) un96 sz21 zl96 rfl rfl rfl (sz1_cons rfl (sz1_cons rfl sz1_nil)) rfl) <| Dp 13 sh rfl rfl (by kernel_rfl) (fun w => Y_field fo94_0 rfl) <| Dy 14 sh rfl rfl (by kernel_rfl) hs (fun w hs => Yb 0 ag21 hs rfl rfl rfl) <| D1 15 sh rfl (by kernel_rfl) (fun qh mx => O_mapPut (i := 2) (m := ac) (x := #v[rd ((rd ap.decomp ab).is_) 0, rd ((rd ap.decomp ab).is_) 1]) (v := (rd ap.decomp ab).lo) (E := (Value.int .i32)) un60 kv96 trivial (fun _ _ => trivial) hs rfl rfl rfl rfl (fun w hs => O_nil (mx _ _ (fun _ _ => by first | contradiction | (rename_i h; cases h)) <| OD_doneS sh (by kernel_rfl) (k0 _ _ _ (S4 rfl rfl rfl rfl) (k1 (mput ac (#v[rd ((rd ap.decomp ab).is_) 0, rd ((rd ap.decomp ab).is_) 1]) ((rd ap.decomp ab).lo)) _ H (hs.sub (ssk (ssc (ssc (ssc (ssc ssr)))))))))))
      ·rw [if_neg (bft km)] at H
       exact W_skip (k0 _ _ _ (S4 rfl rfl rfl rfl) (k1 ac _ H (hs.sub (ssk (ssc (ssc (ssc (ssc ssr))))))))
     refine W_drawS 36 [0, 1, 2, 4, 8, 16, 48, 80, 144, 16, 528, 1296, 2064, 4112, 10240, 16384, 49152, 81920, 147456, 16384, 540672, 1327104, 2113536, 4210688, 10485760, 16777216, 50331648, 83886080, 150994944, 16777216, 553648128, 1090519040, 2164260864, 4580179968, 8606711808, 17196646400] [68719476732, 68719476728, 68719476720, 68719476704, 68719460352, 68719476608, 68719476480, 68719476224, 68719474176, 68719475168, 68719473120, 68719452160, 68719460352, 68719443968, 68702699520, 68719345664, 68719214592, 68718952448, 68716855296, 68717871104, 68715773952, 68694310912, 68702699520, 68685922304, 0, 68585259008, 68451041280, 68182605824, 59592671232, 67075309568, 64927825920, 60632858624, 52042924032, 34359738368, 0, 0] [0, 1, 3, 7, 15, 31, 63, 127, 255, 31, 543, 2047, 4095, 8191, 16383, 32767, 65535, 131071, 262143, 32767, 557055, 2097151, 4194303, 8388607, 16777215, 33554431, 67108863, 134217727, 268435455, 33554431, 570425343, 1644167167, 3791650815, 8589934591, 17179869183, 34359738367] [11, 12, 13, 14, 15, 16, 17, 18, 19, 20, 21, 22, 23, 24, 25, 26, 27, 28, 29, 30, 31, 32, 33, 34, 35] (fun w => St w0 bn ((.box jx 94 ([.int .i32 ((rd ap.decomp ab).lo), .int .i32 ((rd ap.decomp ab).hi), kl])) :: (.box bm 62 ([ba, a9, aq, a8, an, au, a7, a6, ar, a5, ao, av, aw, ax, ay, az, a0, a1, a2, a3, a4, .map (some aa)])) :: (.obj aa (mapObj kv96.enc (vs (Value.int .i32) ac))) :: (.box fb 85 ([.int .i64 bl.1.list, .int .i64 bl.1.row])) :: (.box b3 27 ([ba, a9, aq, a8, an, au, a7, a6, ar, a5, ao])) :: Γ) w) mixed (by kernel_rfl) (fun sh => ?_)
     have hs := hs.drew
     refine Dp 0 sh rfl rfl (by kernel_rfl) (fun w => Y_field fo94_2 rfl) <| Dy 1 sh rfl rfl (by kernel_rfl) hs (fun w hs => Yb 0 ag28 hs rfl rfl rfl) <| Dp 2 sh rfl rfl (by kernel_rfl) (fun w => Y_lenR un28 hk rfl) <| Dp 3 sh rfl rfl (by kernel_rfl) (fun w => Y_eql rfl rfl) <| Dm 4 sh rfl rfl (by kernel_rfl) rfl <| OD_if (dj := 70) rfl (fun kn => ?_) (fun kn => ?_)
     ·rw [if_pos kn] at H
      refine Dq 5 sh rfl rfl rfl rfl (by kernel_rfl) (fun w => Y_move rfl) <| Dq 6 sh rfl rfl rfl rfl (by kernel_rfl) (fun w => Y_nilp rfl) <| Dq 7 sh rfl rfl rfl rfl (by kernel_rfl) (fun w => Y_field fo62_6 rfl) <| Dz 8 sh rfl rfl rfl rfl (by kernel_rfl) hs (fun w hs => Yb 1 ag59 hs rfl rfl rfl) <| Dq 9 sh rfl rfl rfl rfl (by kernel_rfl) (fun w => Y_field fo94_0 rfl) <| Dz 10 sh rfl rfl rfl rfl (by kernel_rfl) hs (fun w hs => Yb 0 ag21 hs rfl rfl rfl) <| D1 11 sh rfl (by kernel_rfl) (fun qi my => O_yes rfl rfl ?_)
      obtain ⟨ku, k5, H⟩ := bnd H
      refine O_call rfl rfl (stage_Table_Look.c hs b7 k5) (fun qj w hpost => ?_)
      obtain ⟨rfl, hs⟩ := hpost
      refine O_nil (my _ _ (fun _ _ => by first | contradiction | (rename_i h; cases h)) <| OD_resetS sh [21, 22, 23, 24, 25, 26, 27, 28, 29, 30, 31, 32, 33, 34, 35] hs (by kernel_rfl) <| Dq 12 sh rfl rfl rfl rfl (by kernel_rfl) (fun w => Y_eql rfl rfl) <| Dp 13 sh rfl rfl (by kernel_rfl) (fun w => Y_pick_t rfl rfl) <| Dm 14 sh rfl rfl (by kernel_rfl) rfl <| OD_if (dj := 80) rfl (fun ko => ?_) (fun ko => ?_))
      ·rw [if_pos ko] at H
       refine Dq 15 sh rfl rfl rfl rfl (by kernel_rfl) (fun w => Y_move rfl) <| Dq 16 sh rfl rfl rfl rfl (by kernel_rfl) (fun w => Y_nilp rfl) <| Dq 17 sh rfl rfl rfl rfl (by kernel_rfl) (fun w => Y_field fo62_2 rfl) <| Dz 18 sh rfl rfl rfl rfl (by kernel_rfl) hs (fun w hs => Yb 1 ag59 hs rfl rfl rfl) <| Dq 19 sh rfl rfl rfl rfl (by kernel_rfl) (fun w => Y_field fo94_0 rfl) <| Dz 20 sh rfl rfl rfl rfl (by kernel_rfl) hs (fun w hs => Yb 0 ag21 hs rfl rfl rfl) <| D1 21 sh rfl (by kernel_rfl) (fun qk mz => O_yes rfl rfl ?_)
       obtain ⟨kv, k6, H⟩ := bnd H
       refine O_call rfl rfl (stage_Table_Look.c hs bq k6) (fun ql w hpost => ?_)
       obtain ⟨rfl, hs⟩ := hpost
       refine O_nil (mz _ _ (fun _ _ => by first | contradiction | (rename_i h; cases h)) <| OD_resetS sh [33, 34, 35] hs (by kernel_rfl) <| Dq 22 sh rfl rfl rfl rfl (by kernel_rfl) (fun w => Y_eql rfl rfl) <| Dp 23 sh rfl rfl (by kernel_rfl) (fun w => Y_pick_t rfl rfl) <| Dm 24 sh rfl rfl (by kernel_rfl) rfl <| OD_if (dj := 90) rfl (fun kp => ?_) (fun kp => ?_))
       ·rw [if_pos kp] at H
        refine Dq 25 sh rfl rfl rfl rfl (by kernel_rfl) (fun w => Y_move rfl) <| Dq 26 sh rfl rfl rfl rfl (by kernel_rfl) (fun w => Y_nilp rfl) <| Dq 27 sh rfl rfl rfl rfl (by kernel_rfl) (fun w => Y_field fo62_2 rfl) <| Dz 28 sh rfl rfl rfl rfl (by kernel_rfl) hs (fun w hs => Yb 1 ag59 hs rfl rfl rfl) <| Dq 29 sh rfl rfl rfl rfl (by kernel_rfl) (fun w => Y_field fo94_2 rfl) <| Dz 30 sh rfl rfl rfl rfl (by kernel_rfl) hs (fun w hs => Yb 0 ag28 hs rfl rfl rfl) ?_
        obtain ⟨k7, H⟩ := gd H
        obtain ⟨qm, qn, m0, m1⟩ := hk.ix el28 k7.1 k7.2
        refine Dq 31 sh rfl rfl rfl rfl (by kernel_rfl) (fun w => m1 rfl rfl) <| Dz 32 sh rfl rfl rfl rfl (by kernel_rfl) hs (fun w hs => Y_load ag21 rfl (hs.see m0.int)) <| D1 33 sh rfl (by kernel_rfl) (fun qo m2 => O_yes rfl rfl ?_)
        obtain ⟨j8, k8, H⟩ := bnd H
        refine O_call rfl rfl (stage_Table_Look.c hs bq k8) (fun qp w hpost => ?_)
        obtain ⟨rfl, hs⟩ := hpost
        refine O_nil (m2 _ _ (fun _ _ => by first | contradiction | (rename_i h; cases h)) <| OD_resetS sh [] hs (by kernel_rfl) <| Dq 34 sh rfl rfl rfl rfl (by kernel_rfl) (fun w => Y_eql rfl rfl) <| Dp 35 sh rfl rfl (by kernel_rfl) (fun w => Y_pick_t rfl rfl) <| OD_doneS sh (by kernel_rfl) (jy _ _ _ (by repeat first | exact Sub.nil | refine Sub.cons rfl ?_) (jz (decide (j8 = 0)) _ H hs)))
       ·rw [if_neg kp] at H
        refine Dn 25 sh rfl rfl rfl rfl rfl (by kernel_rfl) <| Dn 26 sh rfl rfl rfl rfl rfl (by kernel_rfl) <| Dn 27 sh rfl rfl rfl rfl rfl (by kernel_rfl) <| Dn 28 sh rfl rfl rfl rfl rfl (by kernel_rfl) <| Dn 29 sh rfl rfl rfl rfl rfl (by kernel_rfl) <| Dn 30 sh rfl rfl rfl rfl rfl (by kernel_rfl) <| Dn 31 sh rfl rfl rfl rfl rfl (by kernel_rfl) <| Dn 32 sh rfl rfl rfl rfl rfl (by kernel_rfl) <| Dn 33 sh rfl rfl rfl rfl rfl (by kernel_rfl) <| Dn 34 sh rfl rfl rfl rfl rfl (by kernel_rfl) <| Dp 35 sh rfl rfl (by kernel_rfl) (fun w => Y_pick_f rfl rfl) <| OD_doneS sh (by kernel_rfl) (jy _ _ _ (by repeat first | exact Sub.nil | refine Sub.cons rfl ?_) (jz false _ H hs))
      ·rw [if_neg ko] at H
       refine Dn 15 sh rfl rfl rfl rfl rfl (by kernel_rfl) <| Dn 16 sh rfl rfl rfl rfl rfl (by kernel_rfl) <| Dn 17 sh rfl rfl rfl rfl rfl (by kernel_rfl) <| Dn 18 sh rfl rfl rfl rfl rfl (by kernel_rfl) <| Dn 19 sh rfl rfl rfl rfl rfl (by kernel_rfl) <| Dn 20 sh rfl rfl rfl rfl rfl (by kernel_rfl) <| Dn 21 sh rfl rfl rfl rfl rfl (by kernel_rfl) <| Dn 22 sh rfl rfl rfl rfl rfl (by kernel_rfl) <| Dp 23 sh rfl rfl (by kernel_rfl) (fun w => Y_pick_f rfl rfl) <| Dm 24 sh rfl rfl (by kernel_rfl) rfl <| Dn 25 sh rfl rfl rfl rfl rfl (by kernel_rfl) <| Dn 26 sh rfl rfl rfl rfl rfl (by kernel_rfl) <| Dn 27 sh rfl rfl rfl rfl rfl (by kernel_rfl) <| Dn 28 sh rfl rfl rfl rfl rfl (by kernel_rfl) ?_
       refine Dn 29 sh rfl rfl rfl rfl rfl (by kernel_rfl) <| Dn 30 sh rfl rfl rfl rfl rfl (by kernel_rfl) <| Dn 31 sh rfl rfl rfl rfl rfl (by kernel_rfl) <| Dn 32 sh rfl rfl rfl rfl rfl (by kernel_rfl) <| Dn 33 sh rfl rfl rfl rfl rfl (by kernel_rfl) <| Dn 34 sh rfl rfl rfl rfl rfl (by kernel_rfl) <| Dp 35 sh rfl rfl (by kernel_rfl) (fun w => Y_pick_f rfl rfl) <| OD_doneS sh (by kernel_rfl) (jy _ _ _ (by repeat first | exact Sub.nil | refine Sub.cons rfl ?_) (jz false _ H hs))
     ·rw [if_neg kn] at H
      refine Dn 5 sh rfl rfl rfl rfl rfl (by kernel_rfl) <| Dn 6 sh rfl rfl rfl rfl rfl (by kernel_rfl) <| Dn 7 sh rfl rfl rfl rfl rfl (by kernel_rfl) <| Dn 8 sh rfl rfl rfl rfl rfl (by kernel_rfl) <| Dn 9 sh rfl rfl rfl rfl rfl (by kernel_rfl) <| Dn 10 sh rfl rfl rfl rfl rfl (by kernel_rfl) <| Dn 11 sh rfl rfl rfl rfl rfl (by kernel_rfl) <| Dn 12 sh rfl rfl rfl rfl rfl (by kernel_rfl) <| Dp 13 sh rfl rfl (by kernel_rfl) (fun w => Y_pick_f rfl rfl) <| Dm 14 sh rfl rfl (by kernel_rfl) rfl <| Dn 15 sh rfl rfl rfl rfl rfl (by kernel_rfl) <| Dn 16 sh rfl rfl rfl rfl rfl (by kernel_rfl) <| Dn 17 sh rfl rfl rfl rfl rfl (by kernel_rfl) <| Dn 18 sh rfl rfl rfl rfl rfl (by kernel_rfl) ?_
      refine Dn 19 sh rfl rfl rfl rfl rfl (by kernel_rfl) <| Dn 20 sh rfl rfl rfl rfl rfl (by kernel_rfl) <| Dn 21 sh rfl rfl rfl rfl rfl (by kernel_rfl) <| Dn 22 sh rfl rfl rfl rfl rfl (by kernel_rfl) <| Dp 23 sh rfl rfl (by kernel_rfl) (fun w => Y_pick_f rfl rfl) <| Dm 24 sh rfl rfl (by kernel_rfl) rfl <| Dn 25 sh rfl rfl rfl rfl rfl (by kernel_rfl) <| Dn 26 sh rfl rfl rfl rfl rfl (by kernel_rfl) <| Dn 27 sh rfl rfl rfl rfl rfl (by kernel_rfl) <| Dn 28 sh rfl rfl rfl rfl rfl (by kernel_rfl) <| Dn 29 sh rfl rfl rfl rfl rfl (by kernel_rfl) <| Dn 30 sh rfl rfl rfl rfl rfl (by kernel_rfl) <| Dn 31 sh rfl rfl rfl rfl rfl (by kernel_rfl) <| Dn 32 sh rfl rfl rfl rfl rfl (by kernel_rfl) ?_
      refine Dn 33 sh rfl rfl rfl rfl rfl (by kernel_rfl) <| Dn 34 sh rfl rfl rfl rfl rfl (by kernel_rfl) <| Dp 35 sh rfl rfl (by kernel_rfl) (fun w => Y_pick_f rfl rfl) <| OD_doneS sh (by kernel_rfl) (jy _ _ _ (by repeat first | exact Sub.nil | refine Sub.cons rfl ?_) (jz false _ H hs))
    ·rw [if_neg kk] at H
     refine W_exit (mi _ _ (mg _ _ <| Wr fun qq m3 => Om rfl rfl <| Oa rfl rfl <| Oa rfl rfl <| O_nil (m3 _ _ <| W_ret ?_)))
     obtain ⟨qr, bg, hs, m4⟩ := hs.objEnd (enc := (fun y : Vector Int 2 => Value.agg (acs .i32 y.toList).toArray)) (E := (Value.int .i32)) (m := ac) (j := 1) rfl
     obtain ⟨m5, bf, hs, k9⟩ := hs.boxEnd (j := 0) rfl
     have m6 : PtrR rTbs m5 (.pointer (some ⟨bm, 0, none⟩)) (some (⟨(⟨ap.names, ap.status, ap.maps, ap.class_, ap.decomp, ap.excl, ap.bidi, ap.join, ap.marks, ap.script, ap.like⟩ : Bk), af, ad, ag, ah, ai, ae, aj, ak, al, am, ac⟩ : Tbs)) := .inr ⟨bm, _, rfl, rfl, _, ⟨_, _, _, _, _, _, _, _, _, _, _, _, _, _, _, _, _, _, _, _, _, _, rfl, (kx.mono ((bk.trans bg).trans bf)), (jn.mono ((bk.trans bg).trans bf)), (jo.mono ((bk.trans bg).trans bf)), (jp.mono ((bk.trans bg).trans bf)), (hf.mono ((bk.trans bg).trans bf)), (jq.mono ((bk.trans bg).trans bf)), (jr.mono ((bk.trans bg).trans bf)), (js.mono ((bk.trans bg).trans bf)), (jt.mono ((bk.trans bg).trans bf)), (ju.mono ((bk.trans bg).trans bf)), (jv.mono ((bk.trans bg).trans bf)), (fg.mono (bg.trans bf)), (bq.mono (bg.trans bf)), (fh.mono (bg.trans bf)), (fi.mono (bg.trans bf)), (fj.mono (bg.trans bf)), (b7.mono (bg.trans bf)), (fk.mono (bg.trans bf)), (fl.mono (bg.trans bf)), (fm.mono (bg.trans bf)), (fn.mono (bg.trans bf)), (m4.mono bf)⟩, k9⟩
     obtain rfl := sinj H
     exact ret2 rfl rfl rfl ⟨_, _, rfl, ((((kj.trans kw).trans bk).trans bg).trans bf), (hs.sub (ssk (ssk ssr))), m6⟩
   refine W_drawS 40 [0, 0, 0, 4, 10, 0, 0, 64, 176, 0, 0, 1024, 2816, 0, 0, 16384, 45056, 0, 0, 262144, 720896, 0, 2097152, 5242880, 0, 16777216, 41943040, 0, 134217728, 335544320, 0, 1073741824, 2684354560, 0, 8589934592, 21474836480, 0, 107987669265, 137438953472, 549755813887] [412316860414, 549755813869, 549755813875, 549755813859, 412316860129, 549755813599, 549755813695, 549755813439, 412316855809, 549755809279, 549755810815, 549755806719, 412316786689, 549755740159, 549755764735, 549755699199, 412315680769, 549754634239, 549755027455, 549753978879, 412306374657, 549749522431, 549741133823, 412232974337, 549705482239, 549638373375, 411645771777, 549353160703, 548816289791, 406948151297, 546534588415, 542239621119, 369367187457, 523986010111, 489626271743, 343597383681, 343597383679, 0, 0, 0] [0, 0, 0, 4, 14, 0, 0, 64, 254, 0, 0, 1024, 4094, 0, 0, 16384, 65534, 0, 0, 262144, 1048574, 0, 2097152, 8388606, 0, 16777216, 67108862, 0, 134217728, 536870910, 0, 1073741824, 4294967294, 0, 8589934592, 34359738366, 0, 137438953471, 274877906943, 549755813887] [] (fun w => St w0 br ((.box fb 85 ([.int .i64 bl.1.list, .int .i64 bl.1.row])) :: (.box b3 27 ([ba, a9, aq, a8, an, au, a7, a6, ar, a5, ao])) :: Γ) w) mixed (by kernel_rfl) (fun sh => ?_)
   have hs := hs.drew
   refine Dy 0 sh rfl rfl (by kernel_rfl) hs (fun w hs => Y_loadbN (i := 1) ag27 sz27 hs rfl rfl rfl rfl) <| Dm 1 sh rfl rfl (by kernel_rfl) rfl <| Dp 2 sh rfl rfl (by kernel_rfl) (fun w => Y_field fo27_1 rfl) <| Dy 3 sh rfl rfl (by kernel_rfl) hs (fun w hs => Yb 1 ag23 hs rfl rfl rfl) <| Dm 5 sh rfl rfl (by kernel_rfl) rfl <| Dp 6 sh rfl rfl (by kernel_rfl) (fun w => Y_field fo27_3 rfl) <| Dy 7 sh rfl rfl (by kernel_rfl) hs (fun w hs => Yb 1 ag23 hs rfl rfl rfl) <| Dm 9 sh rfl rfl (by kernel_rfl) rfl <| Dp 10 sh rfl rfl (by kernel_rfl) (fun w => Y_field fo27_6 rfl) <| Dy 11 sh rfl rfl (by kernel_rfl) hs (fun w hs => Yb 1 ag23 hs rfl rfl rfl) <| Dm 13 sh rfl rfl (by kernel_rfl) rfl <| Dp 14 sh rfl rfl (by kernel_rfl) (fun w => Y_field fo27_7 rfl) <| Dy 15 sh rfl rfl (by kernel_rfl) hs (fun w hs => Yb 1 ag23 hs rfl rfl rfl) <| Dm 17 sh rfl rfl (by kernel_rfl) rfl ?_
   refine Dp 18 sh rfl rfl (by kernel_rfl) (fun w => Y_field fo27_9 rfl) <| Dy 19 sh rfl rfl (by kernel_rfl) hs (fun w hs => Yb 1 ag23 hs rfl rfl rfl) <| Dp 21 sh rfl rfl (by kernel_rfl) (fun w => Y_field fo27_5 rfl) <| Dy 22 sh rfl rfl (by kernel_rfl) hs (fun w hs => Yb 1 ag25 hs rfl rfl rfl) <| Dp 24 sh rfl rfl (by kernel_rfl) (fun w => Y_field fo27_8 rfl) <| Dy 25 sh rfl rfl (by kernel_rfl) hs (fun w hs => Yb 1 ag25 hs rfl rfl rfl) <| Dp 27 sh rfl rfl (by kernel_rfl) (fun w => Y_field fo27_2 rfl) <| Dy 28 sh rfl rfl (by kernel_rfl) hs (fun w hs => Yb 1 ag24 hs rfl rfl rfl) <| Dp 30 sh rfl rfl (by kernel_rfl) (fun w => Y_field fo27_4 rfl) <| Dy 31 sh rfl rfl (by kernel_rfl) hs (fun w hs => Yb 1 ag24 hs rfl rfl rfl) <| Dp 33 sh rfl rfl (by kernel_rfl) (fun w => Y_field fo27_10 rfl) <| Dy 34 sh rfl rfl (by kernel_rfl) hs (fun w hs => Yb 1 ag24 hs rfl rfl rfl) <| OD_abs fun fs bb => ?_
   have la : ∀ (b9 ca cb cc cd ce cf cg ch : Option Tab) (aa : Nat) (bt bu bv bw bx bz b0 b1 b2 : Value) (b4 : Hp) (w : World), book_Compile.t1 ap b9 ca cb cc cd ce cf cg ch = some r → Le br b4 → St w0 b4 ((.obj aa (mapObj kv96.enc (vs (Value.int .i32) ([] : List (Vector Int 2 × Int))))) :: (.box fb 85 ([.int .i64 bl.1.list, .int .i64 bl.1.row])) :: (.box b3 27 ([ba, a9, aq, a8, an, au, a7, a6, ar, a5, ao])) :: Γ) w → PtrR rTab b4 bt b9 → PtrR rTab b4 bu ca → PtrR rTab b4 bv cb → PtrR rTab b4 bw cc → PtrR rTab b4 bx cd → PtrR rTab b4 bz ce → PtrR rTab b4 b0 cf → PtrR rTab b4 b1 cg → PtrR rTab b4 b2 ch → fs [] (fun w => St w0 br ((.box fb 85 ([.int .i64 bl.1.list, .int .i64 bl.1.row])) :: (.box b3 27 ([ba, a9, aq, a8, an, au, a7, a6, ar, a5, ao])) :: Γ) w) 4 [32, 29, 26, 23, 20, 16, 12, 8, 4, 36, 34, 33, 31, 30, 28, 27, 25, 24, 22, 21, 19, 18, 17, 15, 14, 13, 11, 10, 9, 7, 6, 5, 3, 2, 1, 0] [(1, .pointer (some ⟨b3, 0, none⟩)), (20, .agg #[ba, a9, aq, a8, an, au, a7, a6, ar, a5, ao]), (24, bt), (28, bu), (32, bv), (36, bw), (40, bx), (43, bz), (46, b0), (49, b1), (52, b2), (54, ao), (56, .map (some aa))] w := by
    intro b9 ca cb cc cd ce cf cg ch aa bt bu bv bw bx bz b0 b1 b2 b4 w H fy hs gc ge gf gg gh gi gj gk gl
    rw [book_Compile.t1] at H
    refine (bb _ _ _ _ _ _).1 <| D1 35 sh rfl (by kernel_rfl) (fun qs m7 => ?_)
    obtain ⟨j9, lb, H⟩ := bnd H
    refine O_call rfl rfl (book_numbered_api_Chars_fhb.c hs (jv.mono fy) lb) (fun kq w hpost => ?_)
    obtain ⟨m8, qt, rfl, b5, hs, lc⟩ := hpost
    refine O_nil (m7 _ _ (fun _ _ => ((hs.less (fy.trans b5)).sub (ssk (ssc (ssc ssr))))) <| Dp 37 sh rfl rfl (by kernel_rfl) (fun w => Y_build (cs := [ba, a9, aq, a8, an, au, a7, a6, ar, a5, ao, bt, bu, bv, bw, bx, bz, b0, b1, b2, kq, .map (some aa)]) zr62 pl62 ((Parts.cons rfl rfl (Parts.cons rfl gc.cellsL (Parts.cons rfl ge.cellsL (Parts.cons rfl gf.cellsL (Parts.cons rfl gg.cellsL (Parts.cons rfl gh.cellsL (Parts.cons rfl gi.cellsL (Parts.cons rfl gj.cellsL (Parts.cons rfl gk.cellsL (Parts.cons rfl gl.cellsL (Parts.cons rfl lc.cellsL (Parts.cons rfl rfl Parts.nil))))))))))))) ag62 (by kernel_rfl)) <| D1 38 sh rfl (by kernel_rfl) (fun qu m9 => O_boxN (cs := [ba, a9, aq, a8, an, au, a7, a6, ar, a5, ao, bt, bu, bv, bw, bx, bz, b0, b1, b2, kq, .map (some aa)]) hs rfl rfl (fun bm w hs => O_nil (m9 _ _ (fun _ _ => ((hs.less (fy.trans b5)).sub (ssk (ssk (ssc (ssc ssr)))))) <| Dp 39 sh rfl rfl (by kernel_rfl) (fun w => Y_assign rfl) <| OD_doneS sh (by kernel_rfl) (ky _ _ _ (S2 rfl rfl) (kz b9 ca cb cc cd ce cf cg ch j9 bt bu bv bw bx bz b0 b1 b2 kq bm aa m8 _ H (fy.trans b5) hs (gc.mono b5) (ge.mono b5) (gf.mono b5) (gg.mono b5) (gh.mono b5) (gi.mono b5) (gj.mono b5) (gk.mono b5) (gl.mono b5) lc))))))
   have ld : ∀ (ci cj ck cl cm cn co cp : Option Tab) (aa : Nat) (dz ea eb ec ed ee ef eg : Value) (b8 : Hp) (w : World), book_Compile.t2 ap ci cj ck cl cm cn co cp = some r → Le br b8 → St w0 b8 ((.obj aa (mapObj kv96.enc (vs (Value.int .i32) ([] : List (Vector Int 2 × Int))))) :: (.box fb 85 ([.int .i64 bl.1.list, .int .i64 bl.1.row])) :: (.box b3 27 ([ba, a9, aq, a8, an, au, a7, a6, ar, a5, ao])) :: Γ) w → PtrR rTab b8 dz ci → PtrR rTab b8 ea cj → PtrR rTab b8 eb ck → PtrR rTab b8 ec cl → PtrR rTab b8 ed cm → PtrR rTab b8 ee cn → PtrR rTab b8 ef co → PtrR rTab b8 eg cp → fs [] (fun w => St w0 br ((.box fb 85 ([.int .i64 bl.1.list, .int .i64 bl.1.row])) :: (.box b3 27 ([ba, a9, aq, a8, an, au, a7, a6, ar, a5, ao])) :: Γ) w) 5 [29, 26, 23, 20, 16, 12, 8, 4, 36, 34, 33, 31, 30, 28, 27, 25, 24, 22, 21, 19, 18, 17, 15, 14, 13, 11, 10, 9, 7, 6, 5, 3, 2, 1, 0] [(1, .pointer (some ⟨b3, 0, none⟩)), (20, .agg #[ba, a9, aq, a8, an, au, a7, a6, ar, a5, ao]), (24, dz), (28, ea), (32, eb), (36, ec), (40, ed), (43, ee), (46, ef), (49, eg), (51, an), (54, ao), (56, .map (some aa))] w := by
    intro ci cj ck cl cm cn co cp aa dz ea eb ec ed ee ef eg b8 w H gs hs hl hm hn ho hp hq hr ht
    rw [book_Compile.t2] at H
    refine (bb _ _ _ _ _ _).1 <| D1 32 sh rfl (by kernel_rfl) (fun qv na => ?_)
    obtain ⟨ka, le, H⟩ := bnd H
    refine O_call rfl rfl (book_numbered_api_Chars_fhb.c hs (hf.mono gs) le) (fun nb w hpost => ?_)
    obtain ⟨nc, qw, rfl, dv, hs, nd⟩ := hpost
    refine O_nil (na _ _ (fun _ _ => ((hs.less (gs.trans dv)).sub (ssk (ssc (ssc ssr))))) <| (OD_land rfl (by kernel_rfl) (OD.weak [(1, _), (20, _), (24, _), (28, _), (32, _), (36, _), (40, _), (43, _), (46, _), (49, _), (52, _), (54, _), (56, _)] (by repeat first | exact Sub.nil | refine Sub.cons rfl ?_) ((bb _ _ _ _ _ _).2 (la ci cj ck cl cm cn co cp ka aa dz ea eb ec ed ee ef eg nb nc _ H (gs.trans dv) hs (hl.mono dv) (hm.mono dv) (hn.mono dv) (ho.mono dv) (hp.mono dv) (hq.mono dv) (hr.mono dv) (ht.mono dv) nd)))))
   have lf : ∀ (cq cr ct cu cv cw cx : Option Tab) (aa : Nat) (eh ei ej ek el em en : Value) (dw : Hp) (w : World), book_Compile.t3 ap cq cr ct cu cv cw cx = some r → Le br dw → St w0 dw ((.obj aa (mapObj kv96.enc (vs (Value.int .i32) ([] : List (Vector Int 2 × Int))))) :: (.box fb 85 ([.int .i64 bl.1.list, .int .i64 bl.1.row])) :: (.box b3 27 ([ba, a9, aq, a8, an, au, a7, a6, ar, a5, ao])) :: Γ) w → PtrR rTab dw eh cq → PtrR rTab dw ei cr → PtrR rTab dw ej ct → PtrR rTab dw ek cu → PtrR rTab dw el cv → PtrR rTab dw em cw → PtrR rTab dw en cx → fs [] (fun w => St w0 br ((.box fb 85 ([.int .i64 bl.1.list, .int .i64 bl.1.row])) :: (.box b3 27 ([ba, a9, aq, a8, an, au, a7, a6, ar, a5, ao])) :: Γ) w) 6 [26, 23, 20, 16, 12, 8, 4, 36, 34, 33, 31, 30, 28, 27, 25, 24, 22, 21, 19, 18, 17, 15, 14, 13, 11, 10, 9, 7, 6, 5, 3, 2, 1, 0] [(1, .pointer (some ⟨b3, 0, none⟩)), (20, .agg #[ba, a9, aq, a8, an, au, a7, a6, ar, a5, ao]), (24, eh), (28, ei), (32, ej), (36, ek), (40, el), (43, em), (46, en), (48, aq), (51, an), (54, ao), (56, .map (some aa))] w := by
    intro cq cr ct cu cv cw cx aa eh ei ej ek el em en dw w H gt hs hv hw hx hy hz ia ib
    rw [book_Compile.t3] at H
    refine (bb _ _ _ _ _ _).1 <| D1 29 sh rfl (by kernel_rfl) (fun qx ne => ?_)
    obtain ⟨kb, lg, H⟩ := bnd H
    refine O_call rfl rfl (book_numbered_api_Chars_fhb.c hs (jo.mono gt) lg) (fun nf w hpost => ?_)
    obtain ⟨ng, qy, rfl, eo, hs, nh⟩ := hpost
    refine O_nil (ne _ _ (fun _ _ => ((hs.less (gt.trans eo)).sub (ssk (ssc (ssc ssr))))) <| (OD_land rfl (by kernel_rfl) (OD.weak [(1, _), (20, _), (24, _), (28, _), (32, _), (36, _), (40, _), (43, _), (46, _), (49, _), (51, _), (54, _), (56, _)] (by repeat first | exact Sub.nil | refine Sub.cons rfl ?_) ((bb _ _ _ _ _ _).2 (ld cq cr ct cu cv cw cx kb aa eh ei ej ek el em en nf ng _ H (gt.trans eo) hs (hv.mono eo) (hw.mono eo) (hx.mono eo) (hy.mono eo) (hz.mono eo) (ia.mono eo) (ib.mono eo) nh)))))
   have lh : ∀ (cy cz da db dc dd : Option Tab) (aa : Nat) (ep eq er es et eu : Value) (ev : Hp) (w : World), book_Compile.t4 ap cy cz da db dc dd = some r → Le br ev → St w0 ev ((.obj aa (mapObj kv96.enc (vs (Value.int .i32) ([] : List (Vector Int 2 × Int))))) :: (.box fb 85 ([.int .i64 bl.1.list, .int .i64 bl.1.row])) :: (.box b3 27 ([ba, a9, aq, a8, an, au, a7, a6, ar, a5, ao])) :: Γ) w → PtrR rTab ev ep cy → PtrR rTab ev eq cz → PtrR rTab ev er da → PtrR rTab ev es db → PtrR rTab ev et dc → PtrR rTab ev eu dd → fs [] (fun w => St w0 br ((.box fb 85 ([.int .i64 bl.1.list, .int .i64 bl.1.row])) :: (.box b3 27 ([ba, a9, aq, a8, an, au, a7, a6, ar, a5, ao])) :: Γ) w) 7 [23, 20, 16, 12, 8, 4, 36, 34, 33, 31, 30, 28, 27, 25, 24, 22, 21, 19, 18, 17, 15, 14, 13, 11, 10, 9, 7, 6, 5, 3, 2, 1, 0] [(1, .pointer (some ⟨b3, 0, none⟩)), (20, .agg #[ba, a9, aq, a8, an, au, a7, a6, ar, a5, ao]), (24, ep), (28, eq), (32, er), (36, es), (40, et), (43, eu), (45, ar), (48, aq), (51, an), (54, ao), (56, .map (some aa))] w := by
    intro cy cz da db dc dd aa ep eq er es et eu ev w H gu hs ic id ie ig ih ii
    rw [book_Compile.t4] at H
    refine (bb _ _ _ _ _ _).1 <| D1 26 sh rfl (by kernel_rfl) (fun qz ni => ?_)
    obtain ⟨kc, li, H⟩ := bnd H
    refine O_call rfl rfl (book_marked.c hs (jt.mono gu) li) (fun nj w hpost => ?_)
    obtain ⟨nk, q0, rfl, fc, hs, nl⟩ := hpost
    refine O_nil (ni _ _ (fun _ _ => ((hs.less (gu.trans fc)).sub (ssk (ssc (ssc ssr))))) <| (OD_land rfl (by kernel_rfl) (OD.weak [(1, _), (20, _), (24, _), (28, _), (32, _), (36, _), (40, _), (43, _), (46, _), (48, _), (51, _), (54, _), (56, _)] (by repeat first | exact Sub.nil | refine Sub.cons rfl ?_) ((bb _ _ _ _ _ _).2 (lf cy cz da db dc dd kc aa ep eq er es et eu nj nk _ H (gu.trans fc) hs (ic.mono fc) (id.mono fc) (ie.mono fc) (ig.mono fc) (ih.mono fc) (ii.mono fc) nl)))))
   have lj : ∀ (de df dg dh di : Option Tab) (aa : Nat) (ew ex ey ez e0 : Value) (fd : Hp) (w : World), book_Compile.t5 ap de df dg dh di = some r → Le br fd → St w0 fd ((.obj aa (mapObj kv96.enc (vs (Value.int .i32) ([] : List (Vector Int 2 × Int))))) :: (.box fb 85 ([.int .i64 bl.1.list, .int .i64 bl.1.row])) :: (.box b3 27 ([ba, a9, aq, a8, an, au, a7, a6, ar, a5, ao])) :: Γ) w → PtrR rTab fd ew de → PtrR rTab fd ex df → PtrR rTab fd ey dg → PtrR rTab fd ez dh → PtrR rTab fd e0 di → fs [] (fun w => St w0 br ((.box fb 85 ([.int .i64 bl.1.list, .int .i64 bl.1.row])) :: (.box b3 27 ([ba, a9, aq, a8, an, au, a7, a6, ar, a5, ao])) :: Γ) w) 8 [20, 16, 12, 8, 4, 36, 34, 33, 31, 30, 28, 27, 25, 24, 22, 21, 19, 18, 17, 15, 14, 13, 11, 10, 9, 7, 6, 5, 3, 2, 1, 0] [(1, .pointer (some ⟨b3, 0, none⟩)), (20, .agg #[ba, a9, aq, a8, an, au, a7, a6, ar, a5, ao]), (24, ew), (28, ex), (32, ey), (36, ez), (40, e0), (42, au), (45, ar), (48, aq), (51, an), (54, ao), (56, .map (some aa))] w := by
    intro de df dg dh di aa ew ex ey ez e0 fd w H gv hs ij ik il im io
    rw [book_Compile.t5] at H
    refine (bb _ _ _ _ _ _).1 <| D1 23 sh rfl (by kernel_rfl) (fun q1 nm => ?_)
    obtain ⟨kd, lk, H⟩ := bnd H
    refine O_call rfl rfl (book_marked.c hs (jq.mono gv) lk) (fun nn w hpost => ?_)
    obtain ⟨no, q2, rfl, fo, hs, np⟩ := hpost
    refine O_nil (nm _ _ (fun _ _ => ((hs.less (gv.trans fo)).sub (ssk (ssc (ssc ssr))))) <| (OD_land rfl (by kernel_rfl) (OD.weak [(1, _), (20, _), (24, _), (28, _), (32, _), (36, _), (40, _), (43, _), (45, _), (48, _), (51, _), (54, _), (56, _)] (by repeat first | exact Sub.nil | refine Sub.cons rfl ?_) ((bb _ _ _ _ _ _).2 (lh de df dg dh di kd aa ew ex ey ez e0 nn no _ H (gv.trans fo) hs (ij.mono fo) (ik.mono fo) (il.mono fo) (im.mono fo) (io.mono fo) np)))))
   have ll : ∀ (dk dl dm dn : Option Tab) (aa : Nat) (e1 e2 e3 e4 : Value) (fp : Hp) (w : World), book_Compile.t6 ap dk dl dm dn = some r → Le br fp → St w0 fp ((.obj aa (mapObj kv96.enc (vs (Value.int .i32) ([] : List (Vector Int 2 × Int))))) :: (.box fb 85 ([.int .i64 bl.1.list, .int .i64 bl.1.row])) :: (.box b3 27 ([ba, a9, aq, a8, an, au, a7, a6, ar, a5, ao])) :: Γ) w → PtrR rTab fp e1 dk → PtrR rTab fp e2 dl → PtrR rTab fp e3 dm → PtrR rTab fp e4 dn → fs [] (fun w => St w0 br ((.box fb 85 ([.int .i64 bl.1.list, .int .i64 bl.1.row])) :: (.box b3 27 ([ba, a9, aq, a8, an, au, a7, a6, ar, a5, ao])) :: Γ) w) 9 [16, 12, 8, 4, 36, 34, 33, 31, 30, 28, 27, 25, 24, 22, 21, 19, 18, 17, 15, 14, 13, 11, 10, 9, 7, 6, 5, 3, 2, 1, 0] [(1, .pointer (some ⟨b3, 0, none⟩)), (20, .agg #[ba, a9, aq, a8, an, au, a7, a6, ar, a5, ao]), (24, e1), (28, e2), (32, e3), (36, e4), (37, .func (.func 41) #[] #[]), (39, a5), (42, au), (45, ar), (48, aq), (51, an), (54, ao), (56, .map (some aa))] w := by
    intro dk dl dm dn aa e1 e2 e3 e4 fp w H gw hs ip iq ir it
    rw [book_Compile.t6] at H
    refine (bb _ _ _ _ _ _).1 <| D1 20 sh rfl (by kernel_rfl) (fun q3 nq => ?_)
    obtain ⟨ke, lm, H⟩ := bnd H
    refine O_callv rfl rfl rfl (book_Compile_1.c hs (ju.mono gw) lm) (fun nr w hpost => ?_)
    obtain ⟨ns, q4, rfl, fw, hs, nt⟩ := hpost
    refine O_nil (nq _ _ (fun _ _ => ((hs.less (gw.trans fw)).sub (ssk (ssc (ssc ssr))))) <| (OD_land rfl (by kernel_rfl) (OD.weak [(1, _), (20, _), (24, _), (28, _), (32, _), (36, _), (40, _), (42, _), (45, _), (48, _), (51, _), (54, _), (56, _)] (by repeat first | exact Sub.nil | refine Sub.cons rfl ?_) ((bb _ _ _ _ _ _).2 (lj dk dl dm dn ke aa e1 e2 e3 e4 nr ns _ H (gw.trans fw) hs (ip.mono fw) (iq.mono fw) (ir.mono fw) (it.mono fw) nt)))))
   have ln : ∀ (dp dq dr : Option Tab) (aa : Nat) (e5 e6 e7 : Value) (fx : Hp) (w : World), book_Compile.t7 ap dp dq dr = some r → Le br fx → St w0 fx ((.obj aa (mapObj kv96.enc (vs (Value.int .i32) ([] : List (Vector Int 2 × Int))))) :: (.box fb 85 ([.int .i64 bl.1.list, .int .i64 bl.1.row])) :: (.box b3 27 ([ba, a9, aq, a8, an, au, a7, a6, ar, a5, ao])) :: Γ) w → PtrR rTab fx e5 dp → PtrR rTab fx e6 dq → PtrR rTab fx e7 dr → fs [] (fun w => St w0 br ((.box fb 85 ([.int .i64 bl.1.list, .int .i64 bl.1.row])) :: (.box b3 27 ([ba, a9, aq, a8, an, au, a7, a6, ar, a5, ao])) :: Γ) w) 10 [12, 8, 4, 36, 34, 33, 31, 30, 28, 27, 25, 24, 22, 21, 19, 18, 17, 15, 14, 13, 11, 10, 9, 7, 6, 5, 3, 2, 1, 0] [(1, .pointer (some ⟨b3, 0, none⟩)), (20, .agg #[ba, a9, aq, a8, an, au, a7, a6, ar, a5, ao]), (24, e5), (28, e6), (32, e7), (33, .func (.func 41) #[] #[]), (35, a6), (37, .func (.func 41) #[] #[]), (39, a5), (42, au), (45, ar), (48, aq), (51, an), (54, ao), (56, .map (some aa))] w := by
    intro dp dq dr aa e5 e6 e7 fx w H gx hs iu iv iw
    rw [book_Compile.t7] at H
    refine (bb _ _ _ _ _ _).1 <| D1 16 sh rfl (by kernel_rfl) (fun q5 nu => ?_)
    obtain ⟨kf, lp, H⟩ := bnd H
    refine O_callv rfl rfl rfl (book_Compile_1.c hs (js.mono gx) lp) (fun nv w hpost => ?_)
    obtain ⟨nw, q6, rfl, gm, hs, nx⟩ := hpost
    refine O_nil (nu _ _ (fun _ _ => ((hs.less (gx.trans gm)).sub (ssk (ssc (ssc ssr))))) <| (OD_land rfl (by kernel_rfl) (OD.weak [(1, _), (20, _), (24, _), (28, _), (32, _), (36, _), (37, _), (39, _), (42, _), (45, _), (48, _), (51, _), (54, _), (56, _)] (by repeat first | exact Sub.nil | refine Sub.cons rfl ?_) ((bb _ _ _ _ _ _).2 (ll dp dq dr kf aa e5 e6 e7 nv nw _ H (gx.trans gm) hs (iu.mono gm) (iv.mono gm) (iw.mono gm) nx)))))
   have lq : ∀ (ds dt : Option Tab) (aa : Nat) (e8 e9 : Value) (gn : Hp) (w : World), book_Compile.t8 ap ds dt = some r → Le br gn → St w0 gn ((.obj aa (mapObj kv96.enc (vs (Value.int .i32) ([] : List (Vector Int 2 × Int))))) :: (.box fb 85 ([.int .i64 bl.1.list, .int .i64 bl.1.row])) :: (.box b3 27 ([ba, a9, aq, a8, an, au, a7, a6, ar, a5, ao])) :: Γ) w → PtrR rTab gn e8 ds → PtrR rTab gn e9 dt → fs [] (fun w => St w0 br ((.box fb 85 ([.int .i64 bl.1.list, .int .i64 bl.1.row])) :: (.box b3 27 ([ba, a9, aq, a8, an, au, a7, a6, ar, a5, ao])) :: Γ) w) 11 [8, 4, 36, 34, 33, 31, 30, 28, 27, 25, 24, 22, 21, 19, 18, 17, 15, 14, 13, 11, 10, 9, 7, 6, 5, 3, 2, 1, 0] [(1, .pointer (some ⟨b3, 0, none⟩)), (20, .agg #[ba, a9, aq, a8, an, au, a7, a6, ar, a5, ao]), (24, e8), (28, e9), (29, .func (.func 41) #[] #[]), (31, a7), (33, .func (.func 41) #[] #[]), (35, a6), (37, .func (.func 41) #[] #[]), (39, a5), (42, au), (45, ar), (48, aq), (51, an), (54, ao), (56, .map (some aa))] w := by
    intro ds dt aa e8 e9 gn w H gy hs iy iz
    rw [book_Compile.t8] at H
    refine (bb _ _ _ _ _ _).1 <| D1 12 sh rfl (by kernel_rfl) (fun q7 ny => ?_)
    obtain ⟨kg, lr, H⟩ := bnd H
    refine O_callv rfl rfl rfl (book_Compile_1.c hs (jr.mono gy) lr) (fun nz w hpost => ?_)
    obtain ⟨n0, q8, rfl, hd, hs, n1⟩ := hpost
    refine O_nil (ny _ _ (fun _ _ => ((hs.less (gy.trans hd)).sub (ssk (ssc (ssc ssr))))) <| (OD_land rfl (by kernel_rfl) (OD.weak [(1, _), (20, _), (24, _), (28, _), (32, _), (33, _), (35, _), (37, _), (39, _), (42, _), (45, _), (48, _), (51, _), (54, _), (56, _)] (by repeat first | exact Sub.nil | refine Sub.cons rfl ?_) ((bb _ _ _ _ _ _).2 (ln ds dt kg aa e8 e9 nz n0 _ H (gy.trans hd) hs (iy.mono hd) (iz.mono hd) n1)))))
   have ls : ∀ (du : Option Tab) (aa : Nat) (fa : Value) (he : Hp) (w : World), book_Compile.t9 ap du = some r → Le br he → St w0 he ((.obj aa (mapObj kv96.enc (vs (Value.int .i32) ([] : List (Vector Int 2 × Int))))) :: (.box fb 85 ([.int .i64 bl.1.list, .int .i64 bl.1.row])) :: (.box b3 27 ([ba, a9, aq, a8, an, au, a7, a6, ar, a5, ao])) :: Γ) w → PtrR rTab he fa du → fs [] (fun w => St w0 br ((.box fb 85 ([.int .i64 bl.1.list, .int .i64 bl.1.row])) :: (.box b3 27 ([ba, a9, aq, a8, an, au, a7, a6, ar, a5, ao])) :: Γ) w) 12 [4, 36, 34, 33, 31, 30, 28, 27, 25, 24, 22, 21, 19, 18, 17, 15, 14, 13, 11, 10, 9, 7, 6, 5, 3, 2, 1, 0] [(1, .pointer (some ⟨b3, 0, none⟩)), (20, .agg #[ba, a9, aq, a8, an, au, a7, a6, ar, a5, ao]), (24, fa), (25, .func (.func 41) #[] #[]), (27, a8), (29, .func (.func 41) #[] #[]), (31, a7), (33, .func (.func 41) #[] #[]), (35, a6), (37, .func (.func 41) #[] #[]), (39, a5), (42, au), (45, ar), (48, aq), (51, an), (54, ao), (56, .map (some aa))] w := by
    intro du aa fa he w H gz hs ja
    rw [book_Compile.t9] at H
    refine (bb _ _ _ _ _ _).1 <| D1 8 sh rfl (by kernel_rfl) (fun q9 n2 => ?_)
    obtain ⟨kh, lt, H⟩ := bnd H
    refine O_callv rfl rfl rfl (book_Compile_1.c hs (jp.mono gz) lt) (fun n3 w hpost => ?_)
    obtain ⟨n4, ra, rfl, jb, hs, n5⟩ := hpost
    refine O_nil (n2 _ _ (fun _ _ => ((hs.less (gz.trans jb)).sub (ssk (ssc (ssc ssr))))) <| (OD_land rfl (by kernel_rfl) (OD.weak [(1, _), (20, _), (24, _), (28, _), (29, _), (31, _), (33, _), (35, _), (37, _), (39, _), (42, _), (45, _), (48, _), (51, _), (54, _), (56, _)] (by repeat first | exact Sub.nil | refine Sub.cons rfl ?_) ((bb _ _ _ _ _ _).2 (lq du kh aa fa n3 n4 _ H (gz.trans jb) hs (ja.mono jb) n5)))))
   have n6 : ∀ (aa : Nat) (w : World), book_Compile.t10 ap = some r → St w0 br ((.obj aa (mapObj kv96.enc (vs (Value.int .i32) ([] : List (Vector Int 2 × Int))))) :: (.box fb 85 ([.int .i64 bl.1.list, .int .i64 bl.1.row])) :: (.box b3 27 ([ba, a9, aq, a8, an, au, a7, a6, ar, a5, ao])) :: Γ) w → fs [] (fun w => St w0 br ((.box fb 85 ([.int .i64 bl.1.list, .int .i64 bl.1.row])) :: (.box b3 27 ([ba, a9, aq, a8, an, au, a7, a6, ar, a5, ao])) :: Γ) w) 13 [36, 34, 33, 31, 30, 28, 27, 25, 24, 22, 21, 19, 18, 17, 15, 14, 13, 11, 10, 9, 7, 6, 5, 3, 2, 1, 0] [(1, .pointer (some ⟨b3, 0, none⟩)), (20, .agg #[ba, a9, aq, a8, an, au, a7, a6, ar, a5, ao]), (21, .func (.func 41) #[] #[]), (23, a9), (25, .func (.func 41) #[] #[]), (27, a8), (29, .func (.func 41) #[] #[]), (31, a7), (33, .func (.func 41) #[] #[]), (35, a6), (37, .func (.func 41) #[] #[]), (39, a5), (42, au), (45, ar), (48, aq), (51, an), (54, ao), (56, .map (some aa))] w := by
    intro aa w H hs
    rw [book_Compile.t10] at H
    refine (bb _ _ _ _ _ _).1 <| D1 4 sh rfl (by kernel_rfl) (fun rb n7 => ?_)
    obtain ⟨ki, lu, H⟩ := bnd H
    refine O_callv rfl rfl rfl (book_Compile_1.c hs jn lu) (fun n8 w hpost => ?_)
    obtain ⟨n9, rc, rfl, j7, hs, oa⟩ := hpost
    refine O_nil (n7 _ _ (fun _ _ => ((hs.less j7).sub (ssk (ssc (ssc ssr))))) <| (OD_land rfl (by kernel_rfl) (OD.weak [(1, _), (20, _), (24, _), (25, _), (27, _), (29, _), (31, _), (33, _), (35, _), (37, _), (39, _), (42, _), (45, _), (48, _), (51, _), (54, _), (56, _)] (by repeat first | exact Sub.nil | refine Sub.cons rfl ?_) ((bb _ _ _ _ _ _).2 (ls ki aa n8 n9 _ H j7 hs oa)))))
   refine (bb _ _ _ _ _ _).1 <| OD_twoS sh (i := 36) (j := 4) rfl rfl (by kernel_rfl) (fun re ob => ?_) (fun rf oc => ?_)
   ·refine O_mapNew kv96.enc (Value.int .i32) hs rfl (fun aa w hs => O_nil (ob _ _ (fun _ _ => (hs.sub (ssk (ssc (ssc ssr))))) <| (OD_land rfl (by kernel_rfl) (OD.weak [(1, _), (20, _), (21, _), (23, _), (25, _), (27, _), (29, _), (31, _), (33, _), (35, _), (37, _), (39, _), (42, _), (45, _), (48, _), (51, _), (54, _), (56, _)] (by repeat first | exact Sub.nil | refine Sub.cons rfl ?_) ((bb _ _ _ _ _ _).2 (n6 aa _ H hs))))))
   ·rw [book_Compile.t10] at H
    obtain ⟨ft, lv, H⟩ := bnd H
    refine O_callv rfl rfl rfl (book_Compile_1.c hs jn lv) (fun fe w hpost => ?_)
    obtain ⟨od, rg, rfl, go, hs, fq⟩ := hpost
    refine O_nil (oc _ _ (fun _ _ => (hs.less go)) <| OD_twoS sh (i := 36) (j := 8) rfl rfl (by kernel_rfl) (fun rh oe => ?_) (fun ri og => ?_))
    ·refine O_mapNew kv96.enc (Value.int .i32) hs rfl (fun aa w hs => O_nil (oe _ _ (fun _ _ => ((hs.less go).sub (ssk (ssc (ssc ssr))))) <| (OD_land rfl (by kernel_rfl) (OD.weak [(1, _), (20, _), (24, _), (25, _), (27, _), (29, _), (31, _), (33, _), (35, _), (37, _), (39, _), (42, _), (45, _), (48, _), (51, _), (54, _), (56, _)] (by repeat first | exact Sub.nil | refine Sub.cons rfl ?_) ((bb _ _ _ _ _ _).2 (ls ft aa fe od _ H go hs fq))))))
    ·rw [book_Compile.t9] at H
     obtain ⟨fz, lw, H⟩ := bnd H
     refine O_callv rfl rfl rfl (book_Compile_1.c hs (jp.mono go) lw) (fun fr w hpost => ?_)
     obtain ⟨oh, rj, rfl, dx, hs, fu⟩ := hpost
     have jc := go.trans dx
     refine O_nil (og _ _ (fun _ _ => (hs.less jc)) <| OD_twoS sh (i := 36) (j := 12) rfl rfl (by kernel_rfl) (fun rk oi => ?_) (fun rl oj => ?_))
     ·refine O_mapNew kv96.enc (Value.int .i32) hs rfl (fun aa w hs => O_nil (oi _ _ (fun _ _ => ((hs.less jc).sub (ssk (ssc (ssc ssr))))) <| (OD_land rfl (by kernel_rfl) (OD.weak [(1, _), (20, _), (24, _), (28, _), (29, _), (31, _), (33, _), (35, _), (37, _), (39, _), (42, _), (45, _), (48, _), (51, _), (54, _), (56, _)] (by repeat first | exact Sub.nil | refine Sub.cons rfl ?_) ((bb _ _ _ _ _ _).2 (lq ft fz aa fe fr oh _ H jc hs (fq.mono dx) fu))))))
     ·rw [book_Compile.t8] at H
      obtain ⟨gp, lx, H⟩ := bnd H
      refine O_callv rfl rfl rfl (book_Compile_1.c hs (jr.mono jc) lx) (fun fv w hpost => ?_)
      obtain ⟨ok, rm, rfl, bo, hs, ga⟩ := hpost
      have jd := jc.trans bo
      refine O_nil (oj _ _ (fun _ _ => (hs.less jd)) <| OD_twoS sh (i := 36) (j := 16) rfl rfl (by kernel_rfl) (fun rn ol => ?_) (fun ro om => ?_))
      ·refine O_mapNew kv96.enc (Value.int .i32) hs rfl (fun aa w hs => O_nil (ol _ _ (fun _ _ => ((hs.less jd).sub (ssk (ssc (ssc ssr))))) <| (OD_land rfl (by kernel_rfl) (OD.weak [(1, _), (20, _), (24, _), (28, _), (32, _), (33, _), (35, _), (37, _), (39, _), (42, _), (45, _), (48, _), (51, _), (54, _), (56, _)] (by repeat first | exact Sub.nil | refine Sub.cons rfl ?_) ((bb _ _ _ _ _ _).2 (ln ft fz gp aa fe fr fv ok _ H jd hs (fq.mono (dx.trans bo)) (fu.mono bo) ga))))))
      ·rw [book_Compile.t7] at H
       obtain ⟨ha, ly, H⟩ := bnd H
       refine O_callv rfl rfl rfl (book_Compile_1.c hs (js.mono jd) ly) (fun gb w hpost => ?_)
       obtain ⟨on, rp, rfl, bh, hs, gq⟩ := hpost
       have je := jd.trans bh
       refine O_nil (om _ _ (fun _ _ => (hs.less je)) <| OD_twoS sh (i := 36) (j := 20) rfl rfl (by kernel_rfl) (fun rq oo => ?_) (fun rr op => ?_))
       ·refine O_mapNew kv96.enc (Value.int .i32) hs rfl (fun aa w hs => O_nil (oo _ _ (fun _ _ => ((hs.less je).sub (ssk (ssc (ssc ssr))))) <| (OD_land rfl (by kernel_rfl) (OD.weak [(1, _), (20, _), (24, _), (28, _), (32, _), (36, _), (37, _), (39, _), (42, _), (45, _), (48, _), (51, _), (54, _), (56, _)] (by repeat first | exact Sub.nil | refine Sub.cons rfl ?_) ((bb _ _ _ _ _ _).2 (ll ft fz gp ha aa fe fr fv gb on _ H je hs (fq.mono ((dx.trans bo).trans bh)) (fu.mono (bo.trans bh)) (ga.mono bh) gq))))))
       ·rw [book_Compile.t6] at H
        obtain ⟨hg, lz, H⟩ := bnd H
        refine O_callv rfl rfl rfl (book_Compile_1.c hs (ju.mono je) lz) (fun gr w hpost => ?_)
        obtain ⟨oq, rs, rfl, bd, hs, hb⟩ := hpost
        have jf := je.trans bd
        refine O_nil (op _ _ (fun _ _ => (hs.less jf)) <| OD_twoS sh (i := 36) (j := 23) rfl rfl (by kernel_rfl) (fun rt os => ?_) (fun ru ot => ?_))
        ·refine O_mapNew kv96.enc (Value.int .i32) hs rfl (fun aa w hs => O_nil (os _ _ (fun _ _ => ((hs.less jf).sub (ssk (ssc (ssc ssr))))) <| (OD_land rfl (by kernel_rfl) (OD.weak [(1, _), (20, _), (24, _), (28, _), (32, _), (36, _), (40, _), (42, _), (45, _), (48, _), (51, _), (54, _), (56, _)] (by repeat first | exact Sub.nil | refine Sub.cons rfl ?_) ((bb _ _ _ _ _ _).2 (lj ft fz gp ha hg aa fe fr fv gb gr oq _ H jf hs (fq.mono (((dx.trans bo).trans bh).trans bd)) (fu.mono ((bo.trans bh).trans bd)) (ga.mono (bh.trans bd)) (gq.mono bd) hb))))))
        ·rw [book_Compile.t5] at H
         obtain ⟨jg, l0, H⟩ := bnd H
         refine O_call rfl rfl (book_marked.c hs (jq.mono jf) l0) (fun hc w hpost => ?_)
         obtain ⟨ou, rv, rfl, bc, hs, hh⟩ := hpost
         have jh := jf.trans bc
         refine O_nil (ot _ _ (fun _ _ => (hs.less jh)) <| OD_twoS sh (i := 36) (j := 26) rfl rfl (by kernel_rfl) (fun rx ov => ?_) (fun ry ow => ?_))
         ·refine O_mapNew kv96.enc (Value.int .i32) hs rfl (fun aa w hs => O_nil (ov _ _ (fun _ _ => ((hs.less jh).sub (ssk (ssc (ssc ssr))))) <| (OD_land rfl (by kernel_rfl) (OD.weak [(1, _), (20, _), (24, _), (28, _), (32, _), (36, _), (40, _), (43, _), (45, _), (48, _), (51, _), (54, _), (56, _)] (by repeat first | exact Sub.nil | refine Sub.cons rfl ?_) ((bb _ _ _ _ _ _).2 (lh ft fz gp ha hg jg aa fe fr fv gb gr hc ou _ H jh hs (fq.mono ((((dx.trans bo).trans bh).trans bd).trans bc)) (fu.mono (((bo.trans bh).trans bd).trans bc)) (ga.mono ((bh.trans bd).trans bc)) (gq.mono (bd.trans bc)) (hb.mono bc) hh))))))
         ·rw [book_Compile.t4] at H
          obtain ⟨j0, l2, H⟩ := bnd H
          refine O_call rfl rfl (book_marked.c hs (jt.mono jh) l2) (fun hj w hpost => ?_)
          obtain ⟨ox, rz, rfl, be, hs, ji⟩ := hpost
          have jj := jh.trans be
          refine O_nil (ow _ _ (fun _ _ => (hs.less jj)) <| OD_twoS sh (i := 36) (j := 29) rfl rfl (by kernel_rfl) (fun r0 oy => ?_) (fun r1 oz => ?_))
          ·refine O_mapNew kv96.enc (Value.int .i32) hs rfl (fun aa w hs => O_nil (oy _ _ (fun _ _ => ((hs.less jj).sub (ssk (ssc (ssc ssr))))) <| (OD_land rfl (by kernel_rfl) (OD.weak [(1, _), (20, _), (24, _), (28, _), (32, _), (36, _), (40, _), (43, _), (46, _), (48, _), (51, _), (54, _), (56, _)] (by repeat first | exact Sub.nil | refine Sub.cons rfl ?_) ((bb _ _ _ _ _ _).2 (lf ft fz gp ha hg jg j0 aa fe fr fv gb gr hc hj ox _ H jj hs (fq.mono (((((dx.trans bo).trans bh).trans bd).trans bc).trans be)) (fu.mono ((((bo.trans bh).trans bd).trans bc).trans be)) (ga.mono (((bh.trans bd).trans bc).trans be)) (gq.mono ((bd.trans bc).trans be)) (hb.mono (bc.trans be)) (hh.mono be) ji))))))
          ·rw [book_Compile.t3] at H
           obtain ⟨kr, l3, H⟩ := bnd H
           refine O_call rfl rfl (book_numbered_api_Chars_fhb.c hs (jo.mono jj) l3) (fun jk w hpost => ?_)
           obtain ⟨o0, r2, rfl, bi, hs, j4⟩ := hpost
           have jl := jj.trans bi
           refine O_nil (oz _ _ (fun _ _ => (hs.less jl)) <| OD_twoS sh (i := 36) (j := 32) rfl rfl (by kernel_rfl) (fun r3 o1 => ?_) (fun r4 o2 => ?_))
           ·refine O_mapNew kv96.enc (Value.int .i32) hs rfl (fun aa w hs => O_nil (o1 _ _ (fun _ _ => ((hs.less jl).sub (ssk (ssc (ssc ssr))))) <| (OD_land rfl (by kernel_rfl) (OD.weak [(1, _), (20, _), (24, _), (28, _), (32, _), (36, _), (40, _), (43, _), (46, _), (49, _), (51, _), (54, _), (56, _)] (by repeat first | exact Sub.nil | refine Sub.cons rfl ?_) ((bb _ _ _ _ _ _).2 (ld ft fz gp ha hg jg j0 kr aa fe fr fv gb gr hc hj jk o0 _ H jl hs (fq.mono ((((((dx.trans bo).trans bh).trans bd).trans bc).trans be).trans bi)) (fu.mono (((((bo.trans bh).trans bd).trans bc).trans be).trans bi)) (ga.mono ((((bh.trans bd).trans bc).trans be).trans bi)) (gq.mono (((bd.trans bc).trans be).trans bi)) (hb.mono ((bc.trans be).trans bi)) (hh.mono (be.trans bi)) (ji.mono bi) j4))))))
           ·rw [book_Compile.t2] at H
            obtain ⟨l4, l5, H⟩ := bnd H
            refine O_call rfl rfl (book_numbered_api_Chars_fhb.c hs (hf.mono jl) l5) (fun j5 w hpost => ?_)
            obtain ⟨o3, r5, rfl, bp, hs, ks⟩ := hpost
            have jm := jl.trans bp
            refine O_nil (o2 _ _ (fun _ _ => (hs.less jm)) <| OD_twoS sh (i := 36) (j := 35) rfl rfl (by kernel_rfl) (fun r6 o4 => ?_) (fun r7 o5 => ?_))
            ·refine O_mapNew kv96.enc (Value.int .i32) hs rfl (fun aa w hs => O_nil (o4 _ _ (fun _ _ => ((hs.less jm).sub (ssk (ssc (ssc ssr))))) <| (OD_land rfl (by kernel_rfl) (OD.weak [(1, _), (20, _), (24, _), (28, _), (32, _), (36, _), (40, _), (43, _), (46, _), (49, _), (52, _), (54, _), (56, _)] (by repeat first | exact Sub.nil | refine Sub.cons rfl ?_) ((bb _ _ _ _ _ _).2 (la ft fz gp ha hg jg j0 kr l4 aa fe fr fv gb gr hc hj jk j5 o3 _ H jm hs (fq.mono (((((((dx.trans bo).trans bh).trans bd).trans bc).trans be).trans bi).trans bp)) (fu.mono ((((((bo.trans bh).trans bd).trans bc).trans be).trans bi).trans bp)) (ga.mono (((((bh.trans bd).trans bc).trans be).trans bi).trans bp)) (gq.mono ((((bd.trans bc).trans be).trans bi).trans bp)) (hb.mono (((bc.trans be).trans bi).trans bp)) (hh.mono ((be.trans bi).trans bp)) (ji.mono (bi.trans bp)) (j4.mono bp) ks))))))
            ·rw [book_Compile.t1] at H
             obtain ⟨o6, l6, H⟩ := bnd H
             refine O_call rfl rfl (book_numbered_api_Chars_fhb.c hs (jv.mono jm) l6) (fun kt w hpost => ?_)
             obtain ⟨o7, r8, rfl, dy, hs, l7⟩ := hpost
             have j6 := jm.trans dy
             refine O_nil (o5 _ _ (fun _ _ => (hs.less j6)) <| D1 36 sh rfl (by kernel_rfl) (fun r9 o8 => O_mapNew kv96.enc (Value.int .i32) hs rfl (fun aa w hs => O_nil (o8 _ _ (fun _ _ => ((hs.less j6).sub (ssk (ssc (ssc ssr))))) <| Dp 37 sh rfl rfl (by kernel_rfl) (fun w => Y_build (cs := [ba, a9, aq, a8, an, au, a7, a6, ar, a5, ao, fe, fr, fv, gb, gr, hc, hj, jk, j5, kt, .map (some aa)]) zr62 pl62 ((Parts.cons rfl rfl (Parts.cons rfl fq.cellsL (Parts.cons rfl fu.cellsL (Parts.cons rfl ga.cellsL (Parts.cons rfl gq.cellsL (Parts.cons rfl hb.cellsL (Parts.cons rfl hh.cellsL (Parts.cons rfl ji.cellsL (Parts.cons rfl j4.cellsL (Parts.cons rfl ks.cellsL (Parts.cons rfl l7.cellsL (Parts.cons rfl rfl Parts.nil))))))))))))) ag62 (by kernel_rfl)) <| D1 38 sh rfl (by kernel_rfl) (fun sa o9 => O_boxN (cs := [ba, a9, aq, a8, an, au, a7, a6, ar, a5, ao, fe, fr, fv, gb, gr, hc, hj, jk, j5, kt, .map (some aa)]) hs rfl rfl (fun bm w hs => O_nil (o9 _ _ (fun _ _ => ((hs.less j6).sub (ssk (ssk (ssc (ssc ssr)))))) <| Dp 39 sh rfl rfl (by kernel_rfl) (fun w => Y_assign rfl) <| OD_doneS sh (by kernel_rfl) (ky _ _ _ (S2 rfl rfl) (kz ft fz gp ha hg jg j0 kr l4 o6 fe fr fv gb gr hc hj jk j5 kt bm aa o7 _ H j6 hs (fq.mono ((((((((dx.trans bo).trans bh).trans bd).trans bc).trans be).trans bi).trans bp).trans dy)) (fu.mono (((((((bo.trans bh).trans bd).trans bc).trans be).trans bi).trans bp).trans dy)) (ga.mono ((((((bh.trans bd).trans bc).trans be).trans bi).trans bp).trans dy)) (gq.mono (((((bd.trans bc).trans be).trans bi).trans bp).trans dy)) (hb.mono ((((bc.trans be).trans bi).trans bp).trans dy)) (hh.mono (((be.trans bi).trans bp).trans dy)) (ji.mono ((bi.trans bp).trans dy)) (j4.mono (bp.trans dy)) (ks.mono dy) l7)))))))))

def ref10_scalar.j1 (aa : Bool) : Option Bool := some aa
def ref10_scalar.f (x0 : Int) : Option Bool := if 0 ≤ x0 then (if x0 < 55296 then (ref10_scalar.j1 true) else (if 57343 < x0 then (ref10_scalar.j1 (decide (x0 ≤ 1114111))) else (ref10_scalar.j1 false))) else (if 57343 < x0 then (ref10_scalar.j1 (decide (x0 ≤ 1114111))) else (ref10_scalar.j1 false))
theorem ref10_scalar.c {w0 w : World} {ρ : Hp} {Γ : List Item} (hs : St w0 ρ (Γ) w) {x0 : Int} {r : Bool} (H : ref10_scalar.f x0 = some r) : CallsR Tryz.prog 49 [.int .i32 x0] w (fun v w' => v = .bool r ∧ St w0 ρ Γ w') := by
  rw [ref10_scalar.f] at H
  refine enter Tryz.func49 Tryz.ntmps49 rfl (by kernel_rfl) rfl <| Wr fun ak ah => Oa rfl rfl <| O_nil (ah _ _ <| W_seqj fun ai aj ab => ?_)
  have ac : ∀ (aa : Bool) (w : World), ref10_scalar.j1 aa = some r → St w0 ρ (Γ) w → ai [(2, .bool aa)] w := by
   intro aa w H hs
   rw [ref10_scalar.j1] at H
   refine aj _ _ <| W_ret ?_
   obtain rfl := sinj H
   exact ret1 rfl rfl ⟨rfl, hs⟩
  refine W_region <| Om rfl rfl <| O_y rfl (Y_geq rfl rfl) <| Om rfl rfl <| O_if (dj := 5) rfl (fun ad => ?_) (fun ad => ?_)
  ·rw [if_pos ad] at H
   refine O_yes rfl rfl <| Om rfl rfl <| O_yes rfl rfl <| O_y rfl (Y_lss rfl rfl) <| O_y rfl (Y_pick_t rfl rfl) <| Om rfl rfl <| O_if (dj := 9) rfl (fun ae => ?_) (fun ae => ?_)
   ·rw [if_pos ae] at H
    refine O_no rfl rfl rfl rfl <| O_no rfl rfl rfl rfl <| O_no rfl rfl rfl rfl <| O_nou rfl rfl rfl <| O_nou rfl rfl rfl <| O_no rfl rfl rfl rfl <| O_y rfl (Y_pick_t rfl rfl) <| Oa rfl rfl <| O_nil (ab _ _ _ (S1 rfl) (ac true _ H hs))
   ·rw [if_neg ae] at H
    refine O_yes rfl rfl <| Om rfl rfl <| O_yes rfl rfl <| O_y rfl (Y_gtr rfl rfl) <| O_yes rfl rfl <| Om rfl rfl <| O_if (dj := 12) rfl (fun af => ?_) (fun af => ?_)
    ·rw [if_pos af] at H
     refine O_yes rfl rfl <| Om rfl rfl <| O_yes rfl rfl <| O_y rfl (Y_leq rfl rfl) <| O_yes rfl rfl <| O_y rfl (Y_pick_t rfl rfl) <| O_y rfl (Y_pick_f rfl rfl) <| Oa rfl rfl <| O_nil (ab _ _ _ (S1 rfl) (ac (decide (x0 ≤ 1114111)) _ H hs))
    ·rw [if_neg af] at H
     refine O_no rfl rfl rfl rfl <| O_no rfl rfl rfl rfl <| O_yes rfl rfl <| O_y rfl (Y_pick_f rfl rfl) <| O_y rfl (Y_pick_f rfl rfl) <| Oa rfl rfl <| O_nil (ab _ _ _ (S1 rfl) (ac false _ H hs))
  ·rw [if_neg ad] at H
   refine O_no rfl rfl rfl rfl <| O_no rfl rfl rfl rfl <| O_y rfl (Y_pick_f rfl rfl) <| Om rfl rfl <| O_yes rfl rfl <| Om rfl rfl <| O_yes rfl rfl <| O_y rfl (Y_gtr rfl rfl) <| O_yes rfl rfl <| Om rfl rfl <| O_if (dj := 12) rfl (fun ag => ?_) (fun ag => ?_)
   ·rw [if_pos ag] at H
    refine O_yes rfl rfl <| Om rfl rfl <| O_yes rfl rfl <| O_y rfl (Y_leq rfl rfl) <| O_yes rfl rfl <| O_y rfl (Y_pick_t rfl rfl) <| O_y rfl (Y_pick_f rfl rfl) <| Oa rfl rfl <| O_nil (ab _ _ _ (S1 rfl) (ac (decide (x0 ≤ 1114111)) _ H hs))
   ·rw [if_neg ag] at H
    refine O_no rfl rfl rfl rfl <| O_no rfl rfl rfl rfl <| O_yes rfl rfl <| O_y rfl (Y_pick_f rfl rfl) <| O_y rfl (Y_pick_f rfl rfl) <| Oa rfl rfl <| O_nil (ab _ _ _ (S1 rfl) (ac false _ H hs))

def ref10_written.j1 (am : Bool → Int → Option (List Bool)) (ac : Int) (ah : Bool) : Option (List Bool) := am ah (IntKind.i64.wrap (ac + 1))
def ref10_written.l1 (aj : List Bool → Int → Option (List Bool)) : Nat → List Chs → List Bool → Int → Bool → Int → Option (List Bool)
  | 0, _, _, _, _, _ => none
  | ag + 1, x0, ab, aa, ae, ac => if ac < (((rd x0 aa).is_).length : Int) then (if (0 : Int) ≤ ac ∧ ac < (((rd x0 aa).is_).length : Int) then (if ae = true then (ref10_written.j1 (ref10_written.l1 aj ag x0 ab aa) ac true) else ((ref10_scalar.f (rd ((rd x0 aa).is_) ac)).bind fun ao => (ref10_written.j1 (ref10_written.l1 aj ag x0 ab aa) ac (!ao)))) else none) else (if ab.length + ([ae]).length ≤ most then (aj (ab ++ ([ae])) (IntKind.i64.wrap (aa + 1))) else none)
def ref10_written.j2 (aj : List Bool → Int → Option (List Bool)) (x0 : List Chs) (ab : List Bool) (aa : Int) (ak : Bool) : Option (List Bool) := ref10_written.l1 aj K0 x0 ab aa ak 0
def ref10_written.l2 : Nat → List Chs → Int → List Bool → Int → Option (List Bool)
  | 0, _, _, _, _ => none
  | ai + 1, x0, x1, ab, aa => if aa < (x0.length : Int) then (if (0 : Int) ≤ aa ∧ aa < (x0.length : Int) then (if (((rd x0 aa).is_).length : Int) < 1 then (ref10_written.j2 (ref10_written.l2 ai x0 x1) x0 ab aa true) else (ref10_written.j2 (ref10_written.l2 ai x0 x1) x0 ab aa (decide (x1 < (((rd x0 aa).is_).length : Int))))) else none) else (some ab)
def ref10_written.f (x0 : List Chs) (x1 : Int) : Option (List Bool) := ref10_written.l2 K0 x0 x1 ([] : List Bool) 0
theorem ref10_written.c {w0 w : World} {ρ : Hp} {Γ : List Item} (hs : St w0 ρ (Γ) w) {v0 : Value} {x0 : List Chs} (h0 : SlR rChs ρ v0 x0) {x1 : Int} {r : List Bool} (H : ref10_written.f x0 x1 = some r) : CallsR Tryz.prog 29 [v0, .int .i64 x1] w (fun v w' => ∃ (ρ' : Hp) (v0 : Value) (cs0 : List Value), v = v0 ∧ Le ρ ρ' ∧ St w0 ρ' (.row v0 4 Rep.bool.sz r.length cs0 :: Γ) w' ∧ RowR Rep.bool ρ' cs0 r) := by
  rw [ref10_written.f] at H
  refine enter Tryz.func29 Tryz.ntmps29 rfl (by kernel_rfl) rfl <| Wr fun cg bj => Oa rfl rfl <| O_nil (bj _ _ <| Wr fun ch bk => O_lit2 (xs := []) (cs := []) el68 hs rfl rfl rfl (by decide) (by decide) rfl sz_nil flat_nil (fun bl w hs => ?_))
  have bm : RowR Rep.bool ρ ([]) ([] : List Bool) := RowR.nil _ _
  refine Oa rfl rfl <| O_nil (bk _ _ <| W_seq fun ci bn => Wr fun cj bo => Om rfl rfl <| O_y rfl (Y_lenR un31 h0 rfl) <| Om rfl rfl <| O_nil (bo _ _ <| W_block fun ck bp cl => W_loop (σ := Nat × List Bool × Int × Value × List Value) (fun (ai, ab, aa, ad, af) => [(1, .int .i64 x1), (5, ad), (12, v0), (13, .int .i64 (x0.length : Int)), (14, .int .i64 aa)]) (fun (ai, ab, aa, ad, af) w => ref10_written.l2 ai x0 x1 ab aa = some r ∧ St w0 ρ ((.row ad 4 Rep.bool.sz ab.length af) :: Γ) w ∧ RowR Rep.bool ρ af ab) (fun s => s.1) (K0, ([] : List Bool), 0, (.slice (some ⟨bl, 0, none⟩) 0 0), ([])) (by repeat first | exact Sub.nil | refine Sub.cons rfl ?_) (Ai H (Ai hs bm)) ?_))
  rintro ⟨ai, ab, aa, ad, af⟩ w cm ⟨H, hs, al⟩ ap
  show W _ _ _ _ _ _ [(1, .int .i64 x1), (5, ad), (12, v0), (13, .int .i64 (x0.length : Int)), (14, .int .i64 aa)] w
  cases ai with
  | zero => rw [ref10_written.l2] at H; cases H
  | succ ai =>
  rw [ref10_written.l2] at H
  refine Wr fun cn bq => O_y rfl (Y_lss rfl rfl) <| O_nil (bq _ _ <| W_seq fun co br => W_if rfl (fun a4 => ?_) (fun a4 => ?_))
  ·rw [if_pos a4] at H
   refine W_skip (br _ _ <| W_seq fun cp bs => W_block fun cq cr ct => W_seq fun cu bt => W_region ?_)
   obtain ⟨bg, H⟩ := gd H
   obtain ⟨cv, cw, bu, bv⟩ := h0.ix el31 bg.1 bg.2
   obtain ⟨_, ⟨av, rfl, aw⟩, bw⟩ := bu
   refine O_y rfl (bv rfl rfl) <| O_y rfl (Y_loadN ag71 sz71 rfl rfl (fun j u hu => hs.see (bw j u hu))) <| O_alloc zr71 hs rfl (fun a3 w hs => O_storeN (i := 0) sz71 hs rfl rfl rfl rfl rfl (one_cons rfl (one_cons rfl (one_cons aw.one one_nil))) (fun w hs => O_nil (bt _ _ <| W_seqj fun bx bz bh => ?_)))
   have bi : ∀ (ak : Bool) (w : World), ref10_written.j2 (ref10_written.l2 ai x0 x1) x0 ab aa ak = some r → St w0 ρ ((.box a3 71 ([.int .i32 ((rd x0 aa).lo), .int .i32 ((rd x0 aa).hi), av])) :: (.row ad 4 Rep.bool.sz ab.length af) :: Γ) w → bx [(1, .int .i64 x1), (5, ad), (7, .pointer (some ⟨a3, 0, none⟩)), (8, .bool ak), (12, v0), (13, .int .i64 (x0.length : Int)), (14, .int .i64 aa)] w := by
    intro ak w H hs
    rw [ref10_written.j2] at H
    refine bz _ _ <| W_seq fun cx b0 => Wr fun cy b1 => O_y rfl (Y_field fo71_2 rfl) <| O_y rfl (Yb 0 ag28 hs rfl rfl rfl) <| O_y rfl (Y_lenR un28 aw rfl) <| Om rfl rfl <| O_nil (b1 _ _ <| W_block fun cz b2 b3 => W_loop (σ := Nat × Bool × Int) (fun (ag, ae, ac) => [(1, .int .i64 x1), (5, ad), (8, .bool ae), (12, v0), (13, .int .i64 (x0.length : Int)), (14, .int .i64 aa), (30, av), (31, .int .i64 (((rd x0 aa).is_).length : Int)), (32, .int .i64 ac)]) (fun (ag, ae, ac) w => ref10_written.l1 (ref10_written.l2 ai x0 x1) ag x0 ab aa ae ac = some r ∧ St w0 ρ ((.box a3 71 ([.int .i32 ((rd x0 aa).lo), .int .i32 ((rd x0 aa).hi), av])) :: (.row ad 4 Rep.bool.sz ab.length af) :: Γ) w) (fun s => s.1) (K0, ak, 0) (by repeat first | exact Sub.nil | refine Sub.cons rfl ?_) (Ai H hs) ?_)
    rintro ⟨ag, ae, ac⟩ w b4 ⟨H, hs⟩ an
    show W _ _ _ _ _ _ [(1, .int .i64 x1), (5, ad), (8, .bool ae), (12, v0), (13, .int .i64 (x0.length : Int)), (14, .int .i64 aa), (30, av), (31, .int .i64 (((rd x0 aa).is_).length : Int)), (32, .int .i64 ac)] w
    cases ag with
    | zero => rw [ref10_written.l1] at H; cases H
    | succ ag =>
    rw [ref10_written.l1] at H
    refine Wr fun b5 a5 => O_y rfl (Y_lss rfl rfl) <| O_nil (a5 _ _ <| W_seq fun b6 a6 => W_if rfl (fun aq => ?_) (fun aq => ?_))
    ·rw [if_pos aq] at H
     refine W_skip (a6 _ _ <| W_seqj fun a7 a8 ax => ?_)
     have ay : ∀ (ah : Bool) (w : World), ref10_written.j1 (ref10_written.l1 (ref10_written.l2 ai x0 x1) ag x0 ab aa) ac ah = some r → St w0 ρ ((.box a3 71 ([.int .i32 ((rd x0 aa).lo), .int .i32 ((rd x0 aa).hi), av])) :: (.row ad 4 Rep.bool.sz ab.length af) :: Γ) w → a7 [(1, .int .i64 x1), (5, ad), (8, .bool ah), (12, v0), (13, .int .i64 (x0.length : Int)), (14, .int .i64 aa), (30, av), (31, .int .i64 (((rd x0 aa).is_).length : Int)), (32, .int .i64 ac)] w := by
      intro ah w H hs
      rw [ref10_written.j1] at H
      refine a8 _ _ <| W_region <| O_y rfl (Y_add rfl rfl) <| Om rfl rfl <| O_nil (an (ag, ah, (IntKind.i64.wrap (ac + 1))) _ _ (by repeat first | exact Sub.nil | refine Sub.cons rfl ?_) (Ai H hs) (Nat.lt_succ_self _))
     refine W_block fun b7 b8 b9 => W_seq fun ca a9 => W_region ?_
     obtain ⟨az, H⟩ := gd H
     obtain ⟨cb, cc, ba, bb⟩ := aw.ix el28 az.1 az.2
     refine O_y rfl (bb rfl rfl) <| O_y rfl (Y_load ag21 rfl (hs.see ba.int)) <| Oa rfl rfl <| O_nil (a9 _ _ <| W_region <| Om rfl rfl <| Om rfl rfl <| O_cases (dj := 37) rfl (fun ar => ?_) (fun ar => ?_))
     ·rw [if_pos ar] at H
      refine O_no rfl rfl rfl rfl <| O_no rfl rfl rfl rfl <| O_no rfl rfl rfl rfl <| O_y rfl (Y_pick_t rfl rfl) <| Oa rfl rfl <| O_nil (ax _ _ _ (by repeat first | exact Sub.nil | refine Sub.cons rfl ?_) (ay true _ H hs))
     ·rw [if_neg (bft ar)] at H
      refine O_yes rfl rfl <| Om rfl rfl <| O_yes rfl rfl ?_
      obtain ⟨ao, a0, H⟩ := bnd H
      refine O_call rfl rfl (ref10_scalar.c hs a0) (fun cd w hpost => ?_)
      obtain ⟨rfl, hs⟩ := hpost
      refine O_yes rfl rfl <| O_y rfl (Y_not rfl) <| O_y rfl (Y_pick_f rfl rfl) <| Oa rfl rfl <| O_nil (ax _ _ _ (by repeat first | exact Sub.nil | refine Sub.cons rfl ?_) (ay (!ao) _ H hs))
    ·rw [if_neg aq] at H
     refine W_exit (b2 _ _ (b0 _ _ <| W_region <| Om rfl rfl <| Om rfl rfl <| O_lit2 (xs := [.tmp 44]) (cs := [.bool ae]) el68 hs rfl rfl rfl (by decide) (by decide) rfl (sz_cons rfl sz_nil) (flat_cons rfl flat_nil) (fun ce w hs => ?_)))
     have a1 : RowR Rep.bool ρ ([.bool ae]) [ae] := RowR.cons (c := [.bool ae]) (x := ae) rfl (RowR.nil _ _)
     obtain ⟨bc, H⟩ := gd H
     refine O_appendR (i := 2) el68 hs rfl al rfl rfl rfl (Src.lit (j := 0) hs rfl a1) a1 bc (fun bd a2 w be hs => Oa rfl rfl <| O_nil (bs _ _ <| W_region <| O_y rfl (Y_add rfl rfl) <| Om rfl rfl <| O_nil (ap (ai, (ab ++ ([ae])), (IntKind.i64.wrap (aa + 1)), bd, a2) _ _ (by repeat first | exact Sub.nil | refine Sub.cons rfl ?_) (Ai H (Ai (hs.sub (ssk (ssk (ssc ssr)))) be)) (Nat.lt_succ_self _))))
   refine W_region <| O_y rfl (Y_field fo71_2 rfl) <| O_y rfl (Yb 0 ag28 hs rfl rfl rfl) <| O_y rfl (Y_lenR un28 aw rfl) <| O_y rfl (Y_lss rfl rfl) <| Om rfl rfl <| O_if (dj := 22) rfl (fun au => ?_) (fun au => ?_)
   ·rw [if_pos au] at H
    refine O_no rfl rfl rfl rfl <| O_no rfl rfl rfl rfl <| O_no rfl rfl rfl rfl <| O_no rfl rfl rfl rfl <| O_no rfl rfl rfl rfl <| O_y rfl (Y_pick_t rfl rfl) <| Oa rfl rfl <| O_nil (bh _ _ _ (by repeat first | exact Sub.nil | refine Sub.cons rfl ?_) (bi true _ H hs))
   ·rw [if_neg au] at H
    refine O_yes rfl rfl <| O_y rfl (Y_field fo71_2 rfl) <| O_yes rfl rfl <| O_y rfl (Yb 0 ag28 hs rfl rfl rfl) <| O_yes rfl rfl <| O_y rfl (Y_lenR un28 aw rfl) <| O_yes rfl rfl <| Om rfl rfl <| O_yes rfl rfl <| O_y rfl (Y_gtr rfl rfl) <| O_y rfl (Y_pick_f rfl rfl) <| Oa rfl rfl <| O_nil (bh _ _ _ (by repeat first | exact Sub.nil | refine Sub.cons rfl ?_) (bi (decide (x1 < (((rd x0 aa).is_).length : Int))) _ H hs))
  ·rw [if_neg a4] at H
   refine W_exit (bp _ _ (bn _ _ <| Wr fun cf bf => Om rfl rfl <| Oa rfl rfl <| O_nil (bf _ _ <| W_ret ?_)))
   obtain rfl := sinj H
   exact ret1 rfl rfl ⟨_, _, _, rfl, Le.rfl' _, hs, al⟩

def ref10_meets.j1 (ad : Int → Option Bool) (aa : Int) (ab : Bool) : Option Bool := if ab = true then (some true) else (ad (IntKind.i64.wrap (aa + 1)))
def ref10_meets.l1 : Nat → Chs → List Val → Int → Option Bool
  | 0, _, _, _ => none
  | ac + 1, x0, x1, aa => if aa < (x1.length : Int) then (if (0 : Int) ≤ aa ∧ aa < (x1.length : Int) then (if ((rd x1 aa).lo) ≤ x0.hi then (ref10_meets.j1 (ref10_meets.l1 ac x0 x1) aa (decide (x0.lo ≤ ((rd x1 aa).hi)))) else (ref10_meets.j1 (ref10_meets.l1 ac x0 x1) aa false)) else none) else (some false)
def ref10_meets.f (x0 : Chs) (x1 : List Val) : Option Bool := ref10_meets.l1 K0 x0 x1 0
theorem ref10_meets.c {w0 w : World} {ρ : Hp} {Γ : List Item} (hs : St w0 ρ (Γ) w) {c0 : List Value} {x0 : Chs} (h0 : rChs.R ρ c0 x0) {v1 : Value} {x1 : List Val} (h1 : SlR rVal ρ v1 x1) {r : Bool} (H : ref10_meets.f x0 x1 = some r) : CallsR Tryz.prog 30 [.agg c0.toArray, v1] w (fun v w' => v = .bool r ∧ St w0 ρ Γ w') := by
  rw [ref10_meets.f] at H
  refine enter Tryz.func30 Tryz.ntmps30 rfl (by kernel_rfl) rfl ?_
  have an := h0
  obtain ⟨ag, rfl, a6⟩ := an
  refine Wr fun a7 ao => O_boxN (cs := [.int .i32 x0.lo, .int .i32 x0.hi, ag]) hs rfl rfl (fun af w hs => Oa rfl rfl <| O_nil (ao _ _ <| W_seq fun a8 ap => Wr fun a9 aq => Om rfl rfl <| O_y rfl (Y_lenR un30 h1 rfl) <| Om rfl rfl <| O_nil (aq _ _ <| W_block fun ba ar bb => W_loop (σ := Nat × Int) (fun (ac, aa) => [(2, .pointer (some ⟨af, 0, none⟩)), (7, v1), (8, .int .i64 (x1.length : Int)), (9, .int .i64 aa)]) (fun (ac, aa) w => ref10_meets.l1 ac x0 x1 aa = some r ∧ St w0 ρ ((.box af 71 ([.int .i32 x0.lo, .int .i32 x0.hi, ag])) :: Γ) w) (fun s => s.1) (K0, 0) (S4 rfl rfl rfl rfl) (Ai H hs) ?_)))
  rintro ⟨ac, aa⟩ w bc ⟨H, hs⟩ ae
  show W _ _ _ _ _ _ [(2, .pointer (some ⟨af, 0, none⟩)), (7, v1), (8, .int .i64 (x1.length : Int)), (9, .int .i64 aa)] w
  cases ac with
  | zero => rw [ref10_meets.l1] at H; cases H
  | succ ac =>
  rw [ref10_meets.l1] at H
  refine Wr fun bd au => O_y rfl (Y_lss rfl rfl) <| O_nil (au _ _ <| W_seq fun be av => W_if rfl (fun ah => ?_) (fun ah => ?_))
  ·rw [if_pos ah] at H
   refine W_skip (av _ _ <| W_seq fun bf aw => W_block fun bg bh bi => W_seq fun bj ax => W_region ?_)
   obtain ⟨ak, H⟩ := gd H
   obtain ⟨bk, bl, ay, az⟩ := h1.ix el30 ak.1 ak.2
   obtain ⟨_, rfl, a0⟩ := ay
   refine O_y rfl (az rfl rfl) <| O_y rfl (Y_loadN ag109 sz109 rfl rfl (fun j u hu => hs.see (a0 j u hu))) <| O_alloc zr109 hs rfl (fun a1 w hs => O_storeN (i := 0) sz109 hs rfl rfl rfl rfl rfl (one_cons rfl (one_cons rfl (one_cons rfl one_nil))) (fun w hs => O_nil (ax _ _ <| W_seqj fun a2 a3 al => ?_)))
   have am : ∀ (ab : Bool) (w : World), ref10_meets.j1 (ref10_meets.l1 ac x0 x1) aa ab = some r → St w0 ρ ((.box a1 109 ([.int .i32 ((rd x1 aa).lo), .int .i32 ((rd x1 aa).hi), .int .i64 ((rd x1 aa).n)])) :: (.box af 71 ([.int .i32 x0.lo, .int .i32 x0.hi, ag])) :: Γ) w → a2 [(2, .pointer (some ⟨af, 0, none⟩)), (7, v1), (8, .int .i64 (x1.length : Int)), (9, .int .i64 aa), (24, .bool ab)] w := by
    intro ab w H hs
    rw [ref10_meets.j1] at H
    refine a3 _ _ <| W_cond rfl (fun ai => ?_) (fun ai => ?_)
    ·rw [if_pos ai] at H
     refine Wr fun bm a4 => Oa rfl rfl <| O_nil (a4 _ _ <| W_ret ?_)
     obtain rfl := sinj H
     exact ret1 rfl rfl ⟨rfl, (hs.sub (ssk (ssk ssr)))⟩
    ·rw [if_neg (bft ai)] at H
     refine W_skip (aw _ _ <| W_region <| O_y rfl (Y_add rfl rfl) <| Om rfl rfl <| O_nil (ae (ac, (IntKind.i64.wrap (aa + 1))) _ _ (S4 rfl rfl rfl rfl) (Ai H (hs.sub (ssk (ssc ssr)))) (Nat.lt_succ_self _)))
   refine W_region <| O_y rfl (Y_field fo109_0 rfl) <| O_y rfl (Yb 0 ag21 hs rfl rfl rfl) <| O_y rfl (Y_field fo71_1 rfl) <| O_y rfl (Yb 1 ag21 hs rfl rfl rfl) <| O_y rfl (Y_leq rfl rfl) <| Om rfl rfl <| O_if (dj := 18) rfl (fun aj => ?_) (fun aj => ?_)
   ·rw [if_pos aj] at H
    refine O_yes rfl rfl <| O_y rfl (Y_field fo109_1 rfl) <| O_yes rfl rfl <| O_y rfl (Yb 0 ag21 hs rfl rfl rfl) <| O_yes rfl rfl <| O_y rfl (Y_field fo71_0 rfl) <| O_yes rfl rfl <| O_y rfl (Yb 1 ag21 hs rfl rfl rfl) <| O_yes rfl rfl <| O_y rfl (Y_geq rfl rfl) <| O_y rfl (Y_pick_t rfl rfl) <| O_nil (al _ _ _ (by repeat first | exact Sub.nil | refine Sub.cons rfl ?_) (am (decide (x0.lo ≤ ((rd x1 aa).hi))) _ H hs))
   ·rw [if_neg aj] at H
    refine O_no rfl rfl rfl rfl <| O_no rfl rfl rfl rfl <| O_no rfl rfl rfl rfl <| O_no rfl rfl rfl rfl <| O_no rfl rfl rfl rfl <| O_y rfl (Y_pick_f rfl rfl) <| O_nil (al _ _ _ (by repeat first | exact Sub.nil | refine Sub.cons rfl ?_) (am false _ H hs))
  ·rw [if_neg ah] at H
   refine W_exit (ar _ _ (ap _ _ <| Wr fun bn a5 => Oa rfl rfl <| O_nil (a5 _ _ <| W_ret ?_)))
   obtain rfl := sinj H
   exact ret1 rfl rfl ⟨rfl, (hs.sub (ssk ssr))⟩

def ref10_touches.j1 (ac : Bool) : Option Bool := some ac
def ref10_touches.f (x0 x1 : Int) : Option Bool := if x0 ≤ 4370 then (if 4352 ≤ x1 then (ref10_touches.j1 true) else (if x0 ≤ 4469 then (if 4449 ≤ x1 then (ref10_touches.j1 true) else (if x0 ≤ 4546 then (if 4520 ≤ x1 then (ref10_touches.j1 true) else (if x0 ≤ 55203 then (ref10_touches.j1 (decide (44032 ≤ x1))) else (ref10_touches.j1 false))) else (if x0 ≤ 55203 then (ref10_touches.j1 (decide (44032 ≤ x1))) else (ref10_touches.j1 false)))) else (if x0 ≤ 4546 then (if 4520 ≤ x1 then (ref10_touches.j1 true) else (if x0 ≤ 55203 then (ref10_touches.j1 (decide (44032 ≤ x1))) else (ref10_touches.j1 false))) else (if x0 ≤ 55203 then (ref10_touches.j1 (decide (44032 ≤ x1))) else (ref10_touches.j1 false))))) else (if x0 ≤ 4469 then (if 4449 ≤ x1 then (ref10_touches.j1 true) else (if x0 ≤ 4546 then (if 4520 ≤ x1 then (ref10_touches.j1 true) else (if x0 ≤ 55203 then (ref10_touches.j1 (decide (44032 ≤ x1))) else (ref10_touches.j1 false))) else (if x0 ≤ 55203 then (ref10_touches.j1 (decide (44032 ≤ x1))) else (ref10_touches.j1 false)))) else (if x0 ≤ 4546 then (if 4520 ≤ x1 then (ref10_touches.j1 true) else (if x0 ≤ 55203 then (ref10_touches.j1 (decide (44032 ≤ x1))) else (ref10_touches.j1 false))) else (if x0 ≤ 55203 then (ref10_touches.j1 (decide (44032 ≤ x1))) else (ref10_touches.j1 false))))
theorem ref10_touches.c {w0 w : World} {ρ : Hp} {Γ : List Item} (hs : St w0 ρ (Γ) w) {x0 x1 : Int} {r : Bool} (H : ref10_touches.f x0 x1 = some r) : CallsR Tryz.prog 31 [.int .i32 x0, .int .i32 x1] w (fun v w' => v = .bool r ∧ St w0 ρ Γ w') := by
  rw [ref10_touches.f] at H
  refine enter Tryz.func31 Tryz.ntmps31 rfl (by kernel_rfl) rfl <| Wr fun a4 a1 => Oa rfl rfl <| O_nil (a1 _ _ <| W_seqj fun a2 a3 aa => ?_)
  have ab : ∀ (ac : Bool) (w : World), ref10_touches.j1 ac = some r → St w0 ρ (Γ) w → a2 [(4, .bool ac)] w := by
   intro ac w H hs
   rw [ref10_touches.j1] at H
   refine a3 _ _ <| W_ret ?_
   obtain rfl := sinj H
   exact ret1 rfl rfl ⟨rfl, hs⟩
  refine W_region <| Om rfl rfl <| O_y rfl (Y_leq rfl rfl) <| Om rfl rfl <| O_if (dj := 7) rfl (fun ad => ?_) (fun ad => ?_)
  ·rw [if_pos ad] at H
   refine O_yes rfl rfl <| Om rfl rfl <| O_yes rfl rfl <| O_y rfl (Y_geq rfl rfl) <| O_y rfl (Y_pick_t rfl rfl) <| Om rfl rfl <| O_if (dj := 11) rfl (fun ae => ?_) (fun ae => ?_)
   ·rw [if_pos ae] at H
    refine O_no rfl rfl rfl rfl <| O_no rfl rfl rfl rfl <| O_no rfl rfl rfl rfl <| O_nou rfl rfl rfl <| O_nou rfl rfl rfl <| O_no rfl rfl rfl rfl <| O_y rfl (Y_pick_t rfl rfl) <| Om rfl rfl <| O_no rfl rfl rfl rfl <| O_no rfl rfl rfl rfl <| O_no rfl rfl rfl rfl <| O_nou rfl rfl rfl <| O_nou rfl rfl rfl <| O_no rfl rfl rfl rfl ?_
    refine O_y rfl (Y_pick_t rfl rfl) <| Om rfl rfl <| O_no rfl rfl rfl rfl <| O_no rfl rfl rfl rfl <| O_no rfl rfl rfl rfl <| O_nou rfl rfl rfl <| O_nou rfl rfl rfl <| O_no rfl rfl rfl rfl <| O_y rfl (Y_pick_t rfl rfl) <| Oa rfl rfl <| O_nil (aa _ _ _ (S1 rfl) (ab true _ H hs))
   ·rw [if_neg ae] at H
    refine O_yes rfl rfl <| Om rfl rfl <| O_yes rfl rfl <| O_y rfl (Y_leq rfl rfl) <| O_yes rfl rfl <| Om rfl rfl <| O_if (dj := 14) rfl (fun af => ?_) (fun af => ?_)
    ·rw [if_pos af] at H
     refine O_yes rfl rfl <| Om rfl rfl <| O_yes rfl rfl <| O_y rfl (Y_geq rfl rfl) <| O_yes rfl rfl <| O_y rfl (Y_pick_t rfl rfl) <| O_y rfl (Y_pick_f rfl rfl) <| Om rfl rfl <| O_if (dj := 19) rfl (fun ag => ?_) (fun ag => ?_)
     ·rw [if_pos ag] at H
      refine O_no rfl rfl rfl rfl <| O_no rfl rfl rfl rfl <| O_no rfl rfl rfl rfl <| O_nou rfl rfl rfl <| O_nou rfl rfl rfl <| O_no rfl rfl rfl rfl <| O_y rfl (Y_pick_t rfl rfl) <| Om rfl rfl <| O_no rfl rfl rfl rfl <| O_no rfl rfl rfl rfl <| O_no rfl rfl rfl rfl <| O_nou rfl rfl rfl <| O_nou rfl rfl rfl <| O_no rfl rfl rfl rfl ?_
      refine O_y rfl (Y_pick_t rfl rfl) <| Oa rfl rfl <| O_nil (aa _ _ _ (S1 rfl) (ab true _ H hs))
     ·rw [if_neg ag] at H
      refine O_yes rfl rfl <| Om rfl rfl <| O_yes rfl rfl <| O_y rfl (Y_leq rfl rfl) <| O_yes rfl rfl <| Om rfl rfl <| O_if (dj := 22) rfl (fun ah => ?_) (fun ah => ?_)
      ·rw [if_pos ah] at H
       refine O_yes rfl rfl <| Om rfl rfl <| O_yes rfl rfl <| O_y rfl (Y_geq rfl rfl) <| O_yes rfl rfl <| O_y rfl (Y_pick_t rfl rfl) <| O_y rfl (Y_pick_f rfl rfl) <| Om rfl rfl <| O_if (dj := 27) rfl (fun ai => ?_) (fun ai => ?_)
       ·rw [if_pos ai] at H
        refine O_no rfl rfl rfl rfl <| O_no rfl rfl rfl rfl <| O_no rfl rfl rfl rfl <| O_nou rfl rfl rfl <| O_nou rfl rfl rfl <| O_no rfl rfl rfl rfl <| O_y rfl (Y_pick_t rfl rfl) <| Oa rfl rfl <| O_nil (aa _ _ _ (S1 rfl) (ab true _ H hs))
       ·rw [if_neg ai] at H
        refine O_yes rfl rfl <| Om rfl rfl <| O_yes rfl rfl <| O_y rfl (Y_leq rfl rfl) <| O_yes rfl rfl <| Om rfl rfl <| O_if (dj := 30) rfl (fun aj => ?_) (fun aj => ?_)
        ·rw [if_pos aj] at H
         refine O_yes rfl rfl <| Om rfl rfl <| O_yes rfl rfl <| O_y rfl (Y_geq rfl rfl) <| O_yes rfl rfl <| O_y rfl (Y_pick_t rfl rfl) <| O_y rfl (Y_pick_f rfl rfl) <| Oa rfl rfl <| O_nil (aa _ _ _ (S1 rfl) (ab (decide (44032 ≤ x1)) _ H hs))
        ·rw [if_neg aj] at H
         refine O_no rfl rfl rfl rfl <| O_no rfl rfl rfl rfl <| O_yes rfl rfl <| O_y rfl (Y_pick_f rfl rfl) <| O_y rfl (Y_pick_f rfl rfl) <| Oa rfl rfl <| O_nil (aa _ _ _ (S1 rfl) (ab false _ H hs))
      ·rw [if_neg ah] at H
       refine O_no rfl rfl rfl rfl <| O_no rfl rfl rfl rfl <| O_yes rfl rfl <| O_y rfl (Y_pick_f rfl rfl) <| O_y rfl (Y_pick_f rfl rfl) <| Om rfl rfl <| O_yes rfl rfl <| Om rfl rfl <| O_yes rfl rfl <| O_y rfl (Y_leq rfl rfl) <| O_yes rfl rfl <| Om rfl rfl <| O_if (dj := 30) rfl (fun ak => ?_) (fun ak => ?_)
       ·rw [if_pos ak] at H
        refine O_yes rfl rfl <| Om rfl rfl <| O_yes rfl rfl <| O_y rfl (Y_geq rfl rfl) <| O_yes rfl rfl <| O_y rfl (Y_pick_t rfl rfl) <| O_y rfl (Y_pick_f rfl rfl) <| Oa rfl rfl <| O_nil (aa _ _ _ (S1 rfl) (ab (decide (44032 ≤ x1)) _ H hs))
       ·rw [if_neg ak] at H
        refine O_no rfl rfl rfl rfl <| O_no rfl rfl rfl rfl <| O_yes rfl rfl <| O_y rfl (Y_pick_f rfl rfl) <| O_y rfl (Y_pick_f rfl rfl) <| Oa rfl rfl <| O_nil (aa _ _ _ (S1 rfl) (ab false _ H hs))
    ·rw [if_neg af] at H
     refine O_no rfl rfl rfl rfl <| O_no rfl rfl rfl rfl <| O_yes rfl rfl <| O_y rfl (Y_pick_f rfl rfl) <| O_y rfl (Y_pick_f rfl rfl) <| Om rfl rfl <| O_yes rfl rfl <| Om rfl rfl <| O_yes rfl rfl <| O_y rfl (Y_leq rfl rfl) <| O_yes rfl rfl <| Om rfl rfl <| O_if (dj := 22) rfl (fun al => ?_) (fun al => ?_)
     ·rw [if_pos al] at H
      refine O_yes rfl rfl <| Om rfl rfl <| O_yes rfl rfl <| O_y rfl (Y_geq rfl rfl) <| O_yes rfl rfl <| O_y rfl (Y_pick_t rfl rfl) <| O_y rfl (Y_pick_f rfl rfl) <| Om rfl rfl <| O_if (dj := 27) rfl (fun am => ?_) (fun am => ?_)
      ·rw [if_pos am] at H
       refine O_no rfl rfl rfl rfl <| O_no rfl rfl rfl rfl <| O_no rfl rfl rfl rfl <| O_nou rfl rfl rfl <| O_nou rfl rfl rfl <| O_no rfl rfl rfl rfl <| O_y rfl (Y_pick_t rfl rfl) <| Oa rfl rfl <| O_nil (aa _ _ _ (S1 rfl) (ab true _ H hs))
      ·rw [if_neg am] at H
       refine O_yes rfl rfl <| Om rfl rfl <| O_yes rfl rfl <| O_y rfl (Y_leq rfl rfl) <| O_yes rfl rfl <| Om rfl rfl <| O_if (dj := 30) rfl (fun an => ?_) (fun an => ?_)
       ·rw [if_pos an] at H
        refine O_yes rfl rfl <| Om rfl rfl <| O_yes rfl rfl <| O_y rfl (Y_geq rfl rfl) <| O_yes rfl rfl <| O_y rfl (Y_pick_t rfl rfl) <| O_y rfl (Y_pick_f rfl rfl) <| Oa rfl rfl <| O_nil (aa _ _ _ (S1 rfl) (ab (decide (44032 ≤ x1)) _ H hs))
       ·rw [if_neg an] at H
        refine O_no rfl rfl rfl rfl <| O_no rfl rfl rfl rfl <| O_yes rfl rfl <| O_y rfl (Y_pick_f rfl rfl) <| O_y rfl (Y_pick_f rfl rfl) <| Oa rfl rfl <| O_nil (aa _ _ _ (S1 rfl) (ab false _ H hs))
     ·rw [if_neg al] at H
      refine O_no rfl rfl rfl rfl <| O_no rfl rfl rfl rfl <| O_yes rfl rfl <| O_y rfl (Y_pick_f rfl rfl) <| O_y rfl (Y_pick_f rfl rfl) <| Om rfl rfl <| O_yes rfl rfl <| Om rfl rfl <| O_yes rfl rfl <| O_y rfl (Y_leq rfl rfl) <| O_yes rfl rfl <| Om rfl rfl <| O_if (dj := 30) rfl (fun ao => ?_) (fun ao => ?_)
      ·rw [if_pos ao] at H
       refine O_yes rfl rfl <| Om rfl rfl <| O_yes rfl rfl <| O_y rfl (Y_geq rfl rfl) <| O_yes rfl rfl <| O_y rfl (Y_pick_t rfl rfl) <| O_y rfl (Y_pick_f rfl rfl) <| Oa rfl rfl <| O_nil (aa _ _ _ (S1 rfl) (ab (decide (44032 ≤ x1)) _ H hs))
      ·rw [if_neg ao] at H
       refine O_no rfl rfl rfl rfl <| O_no rfl rfl rfl rfl <| O_yes rfl rfl <| O_y rfl (Y_pick_f rfl rfl) <| O_y rfl (Y_pick_f rfl rfl) <| Oa rfl rfl <| O_nil (aa _ _ _ (S1 rfl) (ab false _ H hs))
  ·rw [if_neg ad] at H
   refine O_no rfl rfl rfl rfl <| O_no rfl rfl rfl rfl <| O_y rfl (Y_pick_f rfl rfl) <| Om rfl rfl <| O_yes rfl rfl <| Om rfl rfl <| O_yes rfl rfl <| O_y rfl (Y_leq rfl rfl) <| O_yes rfl rfl <| Om rfl rfl <| O_if (dj := 14) rfl (fun ap => ?_) (fun ap => ?_)
   ·rw [if_pos ap] at H
    refine O_yes rfl rfl <| Om rfl rfl <| O_yes rfl rfl <| O_y rfl (Y_geq rfl rfl) <| O_yes rfl rfl <| O_y rfl (Y_pick_t rfl rfl) <| O_y rfl (Y_pick_f rfl rfl) <| Om rfl rfl <| O_if (dj := 19) rfl (fun aq => ?_) (fun aq => ?_)
    ·rw [if_pos aq] at H
     refine O_no rfl rfl rfl rfl <| O_no rfl rfl rfl rfl <| O_no rfl rfl rfl rfl <| O_nou rfl rfl rfl <| O_nou rfl rfl rfl <| O_no rfl rfl rfl rfl <| O_y rfl (Y_pick_t rfl rfl) <| Om rfl rfl <| O_no rfl rfl rfl rfl <| O_no rfl rfl rfl rfl <| O_no rfl rfl rfl rfl <| O_nou rfl rfl rfl <| O_nou rfl rfl rfl <| O_no rfl rfl rfl rfl ?_
     refine O_y rfl (Y_pick_t rfl rfl) <| Oa rfl rfl <| O_nil (aa _ _ _ (S1 rfl) (ab true _ H hs))
    ·rw [if_neg aq] at H
     refine O_yes rfl rfl <| Om rfl rfl <| O_yes rfl rfl <| O_y rfl (Y_leq rfl rfl) <| O_yes rfl rfl <| Om rfl rfl <| O_if (dj := 22) rfl (fun ar => ?_) (fun ar => ?_)
     ·rw [if_pos ar] at H
      refine O_yes rfl rfl <| Om rfl rfl <| O_yes rfl rfl <| O_y rfl (Y_geq rfl rfl) <| O_yes rfl rfl <| O_y rfl (Y_pick_t rfl rfl) <| O_y rfl (Y_pick_f rfl rfl) <| Om rfl rfl <| O_if (dj := 27) rfl (fun au => ?_) (fun au => ?_)
      ·rw [if_pos au] at H
       refine O_no rfl rfl rfl rfl <| O_no rfl rfl rfl rfl <| O_no rfl rfl rfl rfl <| O_nou rfl rfl rfl <| O_nou rfl rfl rfl <| O_no rfl rfl rfl rfl <| O_y rfl (Y_pick_t rfl rfl) <| Oa rfl rfl <| O_nil (aa _ _ _ (S1 rfl) (ab true _ H hs))
      ·rw [if_neg au] at H
       refine O_yes rfl rfl <| Om rfl rfl <| O_yes rfl rfl <| O_y rfl (Y_leq rfl rfl) <| O_yes rfl rfl <| Om rfl rfl <| O_if (dj := 30) rfl (fun av => ?_) (fun av => ?_)
       ·rw [if_pos av] at H
        refine O_yes rfl rfl <| Om rfl rfl <| O_yes rfl rfl <| O_y rfl (Y_geq rfl rfl) <| O_yes rfl rfl <| O_y rfl (Y_pick_t rfl rfl) <| O_y rfl (Y_pick_f rfl rfl) <| Oa rfl rfl <| O_nil (aa _ _ _ (S1 rfl) (ab (decide (44032 ≤ x1)) _ H hs))
       ·rw [if_neg av] at H
        refine O_no rfl rfl rfl rfl <| O_no rfl rfl rfl rfl <| O_yes rfl rfl <| O_y rfl (Y_pick_f rfl rfl) <| O_y rfl (Y_pick_f rfl rfl) <| Oa rfl rfl <| O_nil (aa _ _ _ (S1 rfl) (ab false _ H hs))
     ·rw [if_neg ar] at H
      refine O_no rfl rfl rfl rfl <| O_no rfl rfl rfl rfl <| O_yes rfl rfl <| O_y rfl (Y_pick_f rfl rfl) <| O_y rfl (Y_pick_f rfl rfl) <| Om rfl rfl <| O_yes rfl rfl <| Om rfl rfl <| O_yes rfl rfl <| O_y rfl (Y_leq rfl rfl) <| O_yes rfl rfl <| Om rfl rfl <| O_if (dj := 30) rfl (fun aw => ?_) (fun aw => ?_)
      ·rw [if_pos aw] at H
       refine O_yes rfl rfl <| Om rfl rfl <| O_yes rfl rfl <| O_y rfl (Y_geq rfl rfl) <| O_yes rfl rfl <| O_y rfl (Y_pick_t rfl rfl) <| O_y rfl (Y_pick_f rfl rfl) <| Oa rfl rfl <| O_nil (aa _ _ _ (S1 rfl) (ab (decide (44032 ≤ x1)) _ H hs))
      ·rw [if_neg aw] at H
       refine O_no rfl rfl rfl rfl <| O_no rfl rfl rfl rfl <| O_yes rfl rfl <| O_y rfl (Y_pick_f rfl rfl) <| O_y rfl (Y_pick_f rfl rfl) <| Oa rfl rfl <| O_nil (aa _ _ _ (S1 rfl) (ab false _ H hs))
   ·rw [if_neg ap] at H
    refine O_no rfl rfl rfl rfl <| O_no rfl rfl rfl rfl <| O_yes rfl rfl <| O_y rfl (Y_pick_f rfl rfl) <| O_y rfl (Y_pick_f rfl rfl) <| Om rfl rfl <| O_yes rfl rfl <| Om rfl rfl <| O_yes rfl rfl <| O_y rfl (Y_leq rfl rfl) <| O_yes rfl rfl <| Om rfl rfl <| O_if (dj := 22) rfl (fun ax => ?_) (fun ax => ?_)
    ·rw [if_pos ax] at H
     refine O_yes rfl rfl <| Om rfl rfl <| O_yes rfl rfl <| O_y rfl (Y_geq rfl rfl) <| O_yes rfl rfl <| O_y rfl (Y_pick_t rfl rfl) <| O_y rfl (Y_pick_f rfl rfl) <| Om rfl rfl <| O_if (dj := 27) rfl (fun ay => ?_) (fun ay => ?_)
     ·rw [if_pos ay] at H
      refine O_no rfl rfl rfl rfl <| O_no rfl rfl rfl rfl <| O_no rfl rfl rfl rfl <| O_nou rfl rfl rfl <| O_nou rfl rfl rfl <| O_no rfl rfl rfl rfl <| O_y rfl (Y_pick_t rfl rfl) <| Oa rfl rfl <| O_nil (aa _ _ _ (S1 rfl) (ab true _ H hs))
     ·rw [if_neg ay] at H
      refine O_yes rfl rfl <| Om rfl rfl <| O_yes rfl rfl <| O_y rfl (Y_leq rfl rfl) <| O_yes rfl rfl <| Om rfl rfl <| O_if (dj := 30) rfl (fun az => ?_) (fun az => ?_)
      ·rw [if_pos az] at H
       refine O_yes rfl rfl <| Om rfl rfl <| O_yes rfl rfl <| O_y rfl (Y_geq rfl rfl) <| O_yes rfl rfl <| O_y rfl (Y_pick_t rfl rfl) <| O_y rfl (Y_pick_f rfl rfl) <| Oa rfl rfl <| O_nil (aa _ _ _ (S1 rfl) (ab (decide (44032 ≤ x1)) _ H hs))
      ·rw [if_neg az] at H
       refine O_no rfl rfl rfl rfl <| O_no rfl rfl rfl rfl <| O_yes rfl rfl <| O_y rfl (Y_pick_f rfl rfl) <| O_y rfl (Y_pick_f rfl rfl) <| Oa rfl rfl <| O_nil (aa _ _ _ (S1 rfl) (ab false _ H hs))
    ·rw [if_neg ax] at H
     refine O_no rfl rfl rfl rfl <| O_no rfl rfl rfl rfl <| O_yes rfl rfl <| O_y rfl (Y_pick_f rfl rfl) <| O_y rfl (Y_pick_f rfl rfl) <| Om rfl rfl <| O_yes rfl rfl <| Om rfl rfl <| O_yes rfl rfl <| O_y rfl (Y_leq rfl rfl) <| O_yes rfl rfl <| Om rfl rfl <| O_if (dj := 30) rfl (fun a0 => ?_) (fun a0 => ?_)
     ·rw [if_pos a0] at H
      refine O_yes rfl rfl <| Om rfl rfl <| O_yes rfl rfl <| O_y rfl (Y_geq rfl rfl) <| O_yes rfl rfl <| O_y rfl (Y_pick_t rfl rfl) <| O_y rfl (Y_pick_f rfl rfl) <| Oa rfl rfl <| O_nil (aa _ _ _ (S1 rfl) (ab (decide (44032 ≤ x1)) _ H hs))
     ·rw [if_neg a0] at H
      refine O_no rfl rfl rfl rfl <| O_no rfl rfl rfl rfl <| O_yes rfl rfl <| O_y rfl (Y_pick_f rfl rfl) <| O_y rfl (Y_pick_f rfl rfl) <| Oa rfl rfl <| O_nil (aa _ _ _ (S1 rfl) (ab false _ H hs))

def ref10_named.j1 (ae : Int → Option Bool) (aa : Int) (ac : Bool) : Option Bool := if ac = true then (some false) else (ae (IntKind.i64.wrap (aa + 1)))
def ref10_named.l1 : Nat → ByteArray → Int → Option Bool
  | 0, _, _ => none
  | ab + 1, x0, aa => if aa < (x0.size : Int) then (if (0 : Int) ≤ aa ∧ aa < (x0.size : Int) then (if 97 ≤ (bt x0 aa) then (if (bt x0 aa) ≤ 122 then (ref10_named.j1 (ref10_named.l1 ab x0) aa (!true)) else (if 65 ≤ (bt x0 aa) then (ref10_named.j1 (ref10_named.l1 ab x0) aa (decide (¬ ((bt x0 aa) ≤ 90)))) else (ref10_named.j1 (ref10_named.l1 ab x0) aa (!false)))) else (if 65 ≤ (bt x0 aa) then (ref10_named.j1 (ref10_named.l1 ab x0) aa (decide (¬ ((bt x0 aa) ≤ 90)))) else (ref10_named.j1 (ref10_named.l1 ab x0) aa (!false)))) else none) else (some true)
def ref10_named.j2 (x0 : ByteArray) (ad : Bool) : Option Bool := if ad = true then (some false) else (ref10_named.l1 K0 x0 0)
def ref10_named.f (x0 : ByteArray) : Option Bool := if (x0.size : Int) < 1 then (ref10_named.j2 x0 true) else (ref10_named.j2 x0 (decide (32 < (x0.size : Int))))
theorem ref10_named.c {w0 w : World} {ρ : Hp} {Γ : List Item} (hs : St w0 ρ (Γ) w) {x0 : ByteArray} {r : Bool} (H : ref10_named.f x0 = some r) : CallsR Tryz.prog 50 [.string x0] w (fun v w' => v = .bool r ∧ St w0 ρ Γ w') := by
  rw [ref10_named.f] at H
  refine enter Tryz.func50 Tryz.ntmps50 rfl (by kernel_rfl) rfl <| Wr fun bb av => Oa rfl rfl <| O_nil (av _ _ <| W_seq fun bc aw => W_seqj fun ax ay aq => ?_)
  have ar : ∀ (ad : Bool) (w : World), ref10_named.j2 x0 ad = some r → St w0 ρ (Γ) w → ax [(0, .string x0), (12, .bool ad)] w := by
   intro ad w H hs
   rw [ref10_named.j2] at H
   refine ay _ _ <| W_cond rfl (fun ai => ?_) (fun ai => ?_)
   ·rw [if_pos ai] at H
    refine Wr fun bd az => Oa rfl rfl <| O_nil (az _ _ <| W_ret ?_)
    obtain rfl := sinj H
    exact ret1 rfl rfl ⟨rfl, hs⟩
   ·rw [if_neg (bft ai)] at H
    refine W_skip (aw _ _ <| W_seq fun be a0 => Wr fun bf a1 => Oa rfl rfl <| O_nil (a1 _ _ <| W_block fun bg a2 bh => W_loop (σ := Nat × Int) (fun (ab, aa) => [(0, .string x0), (3, .int .i64 aa)]) (fun (ab, aa) w => ref10_named.l1 ab x0 aa = some r ∧ St w0 ρ (Γ) w) (fun s => s.1) (K0, 0) (S2 rfl rfl) (Ai H hs) ?_))
    rintro ⟨ab, aa⟩ w bi ⟨H, hs⟩ af
    show W _ _ _ _ _ _ [(0, .string x0), (3, .int .i64 aa)] w
    cases ab with
    | zero => rw [ref10_named.l1] at H; cases H
    | succ ab =>
    rw [ref10_named.l1] at H
    refine W_seq fun bj a3 => Wr fun bk a4 => Om rfl rfl <| Om rfl rfl <| O_y rfl (Y_lens un9 rfl) <| O_y rfl (Y_lss rfl rfl) <| O_nil (a4 _ _ <| W_if rfl (fun aj => ?_) (fun aj => ?_))
    ·rw [if_pos aj] at H
     refine W_skip (a3 _ _ <| W_seq fun bl a5 => W_block fun bm bn bo => Wr fun bp a6 => Om rfl rfl <| Om rfl rfl ?_)
     obtain ⟨au, H⟩ := gd H
     refine O_y rfl (Y_ixs un9 rfl rfl au.1 au.2) <| Oa rfl rfl <| O_nil (a6 _ _ <| W_seqj fun a7 a8 ag => ?_)
     have ah : ∀ (ac : Bool) (w : World), ref10_named.j1 (ref10_named.l1 ab x0) aa ac = some r → St w0 ρ (Γ) w → a7 [(0, .string x0), (3, .int .i64 aa), (36, .bool ac)] w := by
      intro ac w H hs
      rw [ref10_named.j1] at H
      refine a8 _ _ <| W_cond rfl (fun ak => ?_) (fun ak => ?_)
      ·rw [if_pos ak] at H
       refine Wr fun bq a9 => Oa rfl rfl <| O_nil (a9 _ _ <| W_ret ?_)
       obtain rfl := sinj H
       exact ret1 rfl rfl ⟨rfl, hs⟩
      ·rw [if_neg (bft ak)] at H
       refine W_skip (a5 _ _ <| W_region <| Om rfl rfl <| O_y rfl (Y_add rfl rfl) <| Oa rfl rfl <| O_nil (af (ab, (IntKind.i64.wrap (aa + 1))) _ _ (S2 rfl rfl) (Ai H hs) (Nat.lt_succ_self _)))
     refine W_region <| Om rfl rfl <| O_y rfl (Y_geq rfl rfl) <| Om rfl rfl <| O_if (dj := 24) rfl (fun al => ?_) (fun al => ?_)
     ·rw [if_pos al] at H
      refine O_yes rfl rfl <| Om rfl rfl <| O_yes rfl rfl <| O_y rfl (Y_leq rfl rfl) <| O_y rfl (Y_pick_t rfl rfl) <| Om rfl rfl <| O_if (dj := 28) rfl (fun am => ?_) (fun am => ?_)
      ·rw [if_pos am] at H
       refine O_no rfl rfl rfl rfl <| O_no rfl rfl rfl rfl <| O_no rfl rfl rfl rfl <| O_nou rfl rfl rfl <| O_nou rfl rfl rfl <| O_no rfl rfl rfl rfl <| O_y rfl (Y_pick_t rfl rfl) <| O_y rfl (Y_not rfl) <| O_nil (ag _ _ _ (S3 rfl rfl rfl) (ah (!true) _ H hs))
      ·rw [if_neg am] at H
       refine O_yes rfl rfl <| Om rfl rfl <| O_yes rfl rfl <| O_y rfl (Y_geq rfl rfl) <| O_yes rfl rfl <| Om rfl rfl <| O_if (dj := 31) rfl (fun an => ?_) (fun an => ?_)
       ·rw [if_pos an] at H
        refine O_yes rfl rfl <| Om rfl rfl <| O_yes rfl rfl <| O_y rfl (Y_leq rfl rfl) <| O_yes rfl rfl <| O_y rfl (Y_pick_t rfl rfl) <| O_y rfl (Y_pick_f rfl rfl) <| O_y rfl (Y_notd rfl) <| O_nil (ag _ _ _ (S3 rfl rfl rfl) (ah (decide (¬ ((bt x0 aa) ≤ 90))) _ H hs))
       ·rw [if_neg an] at H
        refine O_no rfl rfl rfl rfl <| O_no rfl rfl rfl rfl <| O_yes rfl rfl <| O_y rfl (Y_pick_f rfl rfl) <| O_y rfl (Y_pick_f rfl rfl) <| O_y rfl (Y_not rfl) <| O_nil (ag _ _ _ (S3 rfl rfl rfl) (ah (!false) _ H hs))
     ·rw [if_neg al] at H
      refine O_no rfl rfl rfl rfl <| O_no rfl rfl rfl rfl <| O_y rfl (Y_pick_f rfl rfl) <| Om rfl rfl <| O_yes rfl rfl <| Om rfl rfl <| O_yes rfl rfl <| O_y rfl (Y_geq rfl rfl) <| O_yes rfl rfl <| Om rfl rfl <| O_if (dj := 31) rfl (fun ao => ?_) (fun ao => ?_)
      ·rw [if_pos ao] at H
       refine O_yes rfl rfl <| Om rfl rfl <| O_yes rfl rfl <| O_y rfl (Y_leq rfl rfl) <| O_yes rfl rfl <| O_y rfl (Y_pick_t rfl rfl) <| O_y rfl (Y_pick_f rfl rfl) <| O_y rfl (Y_notd rfl) <| O_nil (ag _ _ _ (S3 rfl rfl rfl) (ah (decide (¬ ((bt x0 aa) ≤ 90))) _ H hs))
      ·rw [if_neg ao] at H
       refine O_no rfl rfl rfl rfl <| O_no rfl rfl rfl rfl <| O_yes rfl rfl <| O_y rfl (Y_pick_f rfl rfl) <| O_y rfl (Y_pick_f rfl rfl) <| O_y rfl (Y_not rfl) <| O_nil (ag _ _ _ (S3 rfl rfl rfl) (ah (!false) _ H hs))
    ·rw [if_neg aj] at H
     refine W_exit (a2 _ _ (a0 _ _ <| Wr fun br ba => Oa rfl rfl <| O_nil (ba _ _ <| W_ret ?_)))
     obtain rfl := sinj H
     exact ret1 rfl rfl ⟨rfl, hs⟩
  refine W_region <| Om rfl rfl <| O_y rfl (Y_lens un9 rfl) <| O_y rfl (Y_lss rfl rfl) <| Om rfl rfl <| O_if (dj := 8) rfl (fun ap => ?_) (fun ap => ?_)
  ·rw [if_pos ap] at H
   refine O_no rfl rfl rfl rfl <| O_no rfl rfl rfl rfl <| O_no rfl rfl rfl rfl <| O_y rfl (Y_pick_t rfl rfl) <| O_nil (aq _ _ _ (S2 rfl rfl) (ar true _ H hs))
  ·rw [if_neg ap] at H
   refine O_yes rfl rfl <| Om rfl rfl <| O_yes rfl rfl <| O_y rfl (Y_lens un9 rfl) <| O_yes rfl rfl <| O_y rfl (Y_gtr rfl rfl) <| O_y rfl (Y_pick_f rfl rfl) <| O_nil (aq _ _ _ (S2 rfl rfl) (ar (decide (32 < (x0.size : Int))) _ H hs))

end Go.Proofs.YtekafkokpnihfaaGreat
