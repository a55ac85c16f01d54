/- Texts of this repo, merged for the claim: TP4, TL2, TS0, PureS, PureA, PureT, PureU, PureV. -/
import Derived.Test.YthoicbafdanmkaaGreatDoorWhole2
import Derived.Test.YthoicbafdanmkaaGreatDoorWhole3
import Derived.Test.YthoicbafdanmkaaGreatDoorWhole1
import Derived.Test.YthoicbafdanmkaaGreatDoorWhole4
import Derived.Test.YthoicbafdanmkaaGreatDoorWhole0
/- Written by this repo's gen.py: for each Go function a Lean function with the same answers and the walk that shows it. -/
namespace Go.Proofs.YthoicbafdanmkaaGreatDoor
open Go.RowKit
set_option maxRecDepth 100000
set_option maxHeartbeats 4000000
set_option linter.unusedVariables false
def book_Compile.j1 (ff : (List (Vector Int 2 × Int)) → Int → Option (Option Tbs × Int)) (ab : Int) (bj : List (Vector Int 2 × Int)) : Option (Option Tbs × Int) := ff bj (IntKind.i64.wrap (ab + 1))
def book_Compile.j2 (ff : (List (Vector Int 2 × Int)) → Int → Option (Option Tbs × Int)) (ap : Bk) (ac : List (Vector Int 2 × Int)) (ab : Int) (b6 : Bool) : Option (Option Tbs × Int) := if b6 = true then (if (0 : Int) ≤ 0 ∧ 0 < (((rd ap.decomp ab).is_).length : Int) then (if (0 : Int) ≤ 1 ∧ 1 < (((rd ap.decomp ab).is_).length : Int) then (book_Compile.j1 ff ab (mput ac (#v[rd ((rd ap.decomp ab).is_) 0, rd ((rd ap.decomp ab).is_) 1]) ((rd ap.decomp ab).lo))) else none) else none) else (book_Compile.j1 ff ab ac)
def book_Compile.l1 : Nat → Bk → Option Tab → Option Tab → Option Tab → Option Tab → Option Tab → Option Tab → Option Tab → Option Tab → Option Tab → Option Tab → (List (Vector Int 2 × Int)) → Int → Option (Option Tbs × Int)
  | 0, _, _, _, _, _, _, _, _, _, _, _, _, _ => none
  | bs + 1, ap, af, ad, ag, ah, ai, ae, aj, ak, al, am, ac, ab => if ab < (ap.decomp.length : Int) then (if (0 : Int) ≤ ab ∧ ab < (ap.decomp.length : Int) then (if (((rd ap.decomp ab).is_).length : Int) = 2 then ((stage_Table_Look.f ae ((rd ap.decomp ab).lo)).bind fun ku => (if ku = 0 then ((stage_Table_Look.f ad ((rd ap.decomp ab).lo)).bind fun kv => (if kv = 0 then (if (0 : Int) ≤ 0 ∧ 0 < (((rd ap.decomp ab).is_).length : Int) then ((stage_Table_Look.f ad (rd ((rd ap.decomp ab).is_) 0)).bind fun j8 => (book_Compile.j2 (book_Compile.l1 bs ap af ad ag ah ai ae aj ak al am) ap ac ab (decide (j8 = 0)))) else none) else (book_Compile.j2 (book_Compile.l1 bs ap af ad ag ah ai ae aj ak al am) ap ac ab false))) else (book_Compile.j2 (book_Compile.l1 bs ap af ad ag ah ai ae aj ak al am) ap ac ab false))) else (book_Compile.j2 (book_Compile.l1 bs ap af ad ag ah ai ae aj ak al am) ap ac ab false)) else none) else (some ((some (⟨(⟨ap.names, ap.status, ap.maps, ap.class_, ap.decomp, ap.excl, ap.bidi, ap.join, ap.marks, ap.script, ap.like⟩ : Bk), af, ad, ag, ah, ai, ae, aj, ak, al, am, ac⟩ : Tbs)), 0))
def book_Compile.j3 (ap : Bk) (af ad ag ah ai ae aj ak al am : Option Tab) : Option (Option Tbs × Int) := book_Compile.l1 K0 ap af ad ag ah ai ae aj ak al am ([] : List (Vector Int 2 × Int)) 0
def book_Compile.t1 (ap : Bk) (b9 ca cb cc cd ce cf cg ch : Option Tab) : Option (Option Tbs × Int) := (book_numbered_api_Chars_fhb.f ap.like).bind fun j9 => (book_Compile.j3 ap b9 ca cb cc cd ce cf cg ch j9)
def book_Compile.t2 (ap : Bk) (ci cj ck cl cm cn co cp : Option Tab) : Option (Option Tbs × Int) := (book_numbered_api_Chars_fhb.f ap.decomp).bind fun ka => (book_Compile.t1 ap ci cj ck cl cm cn co cp ka)
def book_Compile.t3 (ap : Bk) (cq cr ct cu cv cw cx : Option Tab) : Option (Option Tbs × Int) := (book_numbered_api_Chars_fhb.f ap.maps).bind fun kb => (book_Compile.t2 ap cq cr ct cu cv cw cx kb)
def book_Compile.t4 (ap : Bk) (cy cz da db dc dd : Option Tab) : Option (Option Tbs × Int) := (book_marked.f ap.marks).bind fun kc => (book_Compile.t3 ap cy cz da db dc dd kc)
def book_Compile.t5 (ap : Bk) (de df dg dh di : Option Tab) : Option (Option Tbs × Int) := (book_marked.f ap.excl).bind fun kd => (book_Compile.t4 ap de df dg dh di kd)
def book_Compile.t6 (ap : Bk) (dk dl dm dn : Option Tab) : Option (Option Tbs × Int) := (book_Compile_1.f ap.script).bind fun ke => (book_Compile.t5 ap dk dl dm dn ke)
def book_Compile.t7 (ap : Bk) (dp dq dr : Option Tab) : Option (Option Tbs × Int) := (book_Compile_1.f ap.join).bind fun kf => (book_Compile.t6 ap dp dq dr kf)
def book_Compile.t8 (ap : Bk) (ds dt : Option Tab) : Option (Option Tbs × Int) := (book_Compile_1.f ap.bidi).bind fun kg => (book_Compile.t7 ap ds dt kg)
def book_Compile.t9 (ap : Bk) (du : Option Tab) : Option (Option Tbs × Int) := (book_Compile_1.f ap.class_).bind fun kh => (book_Compile.t8 ap du kh)
def book_Compile.t10 (ap : Bk) : Option (Option Tbs × Int) := (book_Compile_1.f ap.status).bind fun ki => (book_Compile.t9 ap ki)
def book_Compile.f (x0 : Bk) : Option (Option Tbs × Int) := (book_Check.f x0).bind fun bl => (if bl.2 ≠ 0 then (some (none, bl.2)) else ((book_copied.f x0).bind fun ap => (book_Compile.t10 ap )))
theorem book_Compile.c {w0 w : World} {ρ : Hp} {Γ : List Item} (hs : St w0 ρ (Γ) w) {c0 : List Value} {x0 : Bk} (h0 : rBk.R ρ c0 x0) {r : Option Tbs × Int} (H : book_Compile.f x0 = some r) : CallsR Tryz.prog 27 [.agg c0.toArray] w (fun v w' => ∃ (ρ' : Hp) (v0 : Value), v = .tuple #[v0, .int .i64 r.2] ∧ Le ρ ρ' ∧ St w0 ρ' (Γ) w' ∧ PtrR rTbs ρ' v0 r.1) := by
  rw [book_Compile.f] at H
  refine enter Tryz.func27 Tryz.ntmps27 rfl (by kernel_rfl) rfl ?_
  have pb := h0
  obtain ⟨pc, pd, pe, pf, pg, ph, pi, pj, pk, pl, pm, rfl, sb, sc, sd, se, sf, sg, si, sj, sk, sl, sm⟩ := pb
  refine Wr fun sn pn => O_boxN (cs := [pc, pd, pe, pf, pg, ph, pi, pj, pk, pl, pm]) hs rfl rfl (fun b3 w hs => Oa rfl rfl <| Oa rfl rfl <| O_nil (pn _ _ <| W_seq fun so po => Wr fun sp pp => O_y rfl (Y_loadbN (i := 0) ag27 sz27 hs rfl rfl rfl rfl) ?_))
  obtain ⟨bl, l8, H⟩ := bnd H
  refine O_call rfl rfl (book_Check.c hs h0 l8) (fun sq w hpost => ?_)
  obtain ⟨pq, pr, rfl, kj, hs, ps⟩ := hpost
  have pt := ps
  obtain rfl := pt
  refine Om rfl rfl <| O_y rfl (Y_extract rfl rfl) <| O_y rfl (Y_extract rfl rfl) <| O_alloc zr100 hs rfl (fun fb w hs => O_storeN (i := 0) sz100 hs rfl rfl rfl rfl rfl (one_cons rfl (one_cons rfl one_nil)) (fun w hs => Oa rfl rfl <| O_nil (pp _ _ <| Wr fun sr pu => Om rfl rfl <| O_y rfl (Y_neq rfl rfl) <| O_nil (pu _ _ <| W_if rfl (fun l9 => ?_) (fun l9 => ?_)))))
  ·rw [if_pos l9] at H
   refine Wr fun ss pv => Om rfl rfl <| Oa rfl rfl <| Oa rfl rfl <| O_nil (pv _ _ <| W_ret ?_)
   have pw : PtrR rTbs pq (.pointer none) none := PtrR.nil _ _
   obtain rfl := sinj H
   exact ret2 rfl rfl rfl ⟨_, _, rfl, kj, (hs.sub (ssk (ssk ssr))), pw⟩
  ·rw [if_neg l9] at H
   refine W_skip (po _ _ <| Wr fun st px => O_y rfl (Y_loadbN (i := 1) ag27 sz27 hs rfl rfl rfl rfl) ?_)
   obtain ⟨ap, ma, H⟩ := bnd H
   refine O_call rfl rfl (book_copied.c hs (rBk.mono kj h0) ma) (fun py w hpost => ?_)
   obtain ⟨br, pa, rfl, kw, hs, mb⟩ := hpost
   have mc := mb
   obtain ⟨ba, a9, aq, a8, an, au, a7, a6, ar, a5, ao, rfl, kx, jn, jo, jp, hf, jq, jr, js, jt, ju, jv⟩ := mc
   refine O_storeN (i := 1) sz27 hs rfl rfl rfl rfl rfl (one_cons kx.one (one_cons jn.one (one_cons jo.one (one_cons jp.one (one_cons hf.one (one_cons jq.one (one_cons jr.one (one_cons js.one (one_cons jt.one (one_cons ju.one (one_cons jv.one one_nil))))))))))) (fun w hs => O_nil (px _ _ <| W.weak [(1, _)] (S1 rfl) <| Wr fun pz md => Oa rfl rfl <| O_nil (md _ _ <| W_seqj fun me mf ky => ?_)))
   have kz : ∀ (af ad ag ah ai ae aj ak al am : Option Tab) (av aw ax ay az a0 a1 a2 a3 a4 : Value) (bm aa : Nat) (bn : Hp) (w : World), book_Compile.j3 ap af ad ag ah ai ae aj ak al am = some r → Le br bn → St w0 bn ((.box bm 114 ([ba, a9, aq, a8, an, au, a7, a6, ar, a5, ao, av, aw, ax, ay, az, a0, a1, a2, a3, a4, .map (some aa)])) :: (.obj aa (mapObj kv115.enc (vs (Value.int .i32) ([] : List (Vector Int 2 × Int))))) :: (.box fb 100 ([.int .i64 bl.1.list, .int .i64 bl.1.row])) :: (.box b3 27 ([ba, a9, aq, a8, an, au, a7, a6, ar, a5, ao])) :: Γ) w → PtrR rTab bn av af → PtrR rTab bn aw ad → PtrR rTab bn ax ag → PtrR rTab bn ay ah → PtrR rTab bn az ai → PtrR rTab bn a0 ae → PtrR rTab bn a1 aj → PtrR rTab bn a2 ak → PtrR rTab bn a3 al → PtrR rTab bn a4 am → me [(1, .pointer (some ⟨b3, 0, none⟩)), (7, .pointer (some ⟨bm, 0, none⟩))] w := by
    intro af ad ag ah ai ae aj ak al am av aw ax ay az a0 a1 a2 a3 a4 bm aa bn w H bk hs fg bq fh fi fj b7 fk fl fm fn
    rw [book_Compile.j3] at H
    refine mf _ _ <| W_seq fun p0 mg => Wr fun p1 mh => O_y rfl (Y_field fo27_4 rfl) <| O_y rfl (Yb 3 ag24 hs rfl rfl rfl) <| O_y rfl (Y_lenR un24 (hf.mono bk) rfl) <| Om rfl rfl <| O_nil (mh _ _ <| W_block fun p2 mi p3 => W_loop (σ := Nat × (List (Vector Int 2 × Int)) × Int) (fun (bs, ac, ab) => [(7, .pointer (some ⟨bm, 0, none⟩)), (60, an), (61, .int .i64 (ap.decomp.length : Int)), (62, .int .i64 ab)]) (fun (bs, ac, ab) w => book_Compile.l1 bs ap af ad ag ah ai ae aj ak al am ac ab = some r ∧ St w0 bn ((.box bm 114 ([ba, a9, aq, a8, an, au, a7, a6, ar, a5, ao, av, aw, ax, ay, az, a0, a1, a2, a3, a4, .map (some aa)])) :: (.obj aa (mapObj kv115.enc (vs (Value.int .i32) ac))) :: (.box fb 100 ([.int .i64 bl.1.list, .int .i64 bl.1.row])) :: (.box b3 27 ([ba, a9, aq, a8, an, au, a7, a6, ar, a5, ao])) :: Γ) w) (fun s => s.1) (K0, ([] : List (Vector Int 2 × Int)), 0) (S4 rfl rfl rfl rfl) (Ai H hs) ?_)
    rintro ⟨bs, ac, ab⟩ w p4 ⟨H, hs⟩ jw
    show W _ _ _ _ _ _ [(7, .pointer (some ⟨bm, 0, none⟩)), (60, an), (61, .int .i64 (ap.decomp.length : Int)), (62, .int .i64 ab)] w
    cases bs with
    | zero => rw [book_Compile.l1] at H; cases H
    | succ bs =>
    rw [book_Compile.l1] at H
    refine Wr fun p5 mj => O_y rfl (Y_lss rfl rfl) <| O_nil (mj _ _ <| W_seq fun p6 mk => W_if rfl (fun kk => ?_) (fun kk => ?_))
    ·rw [if_pos kk] at H
     refine W_skip (mk _ _ <| W_seqj fun ml mm k0 => ?_)
     have k1 : ∀ (bj : List (Vector Int 2 × Int)) (w : World), book_Compile.j1 (book_Compile.l1 bs ap af ad ag ah ai ae aj ak al am) ab bj = some r → St w0 bn ((.box bm 114 ([ba, a9, aq, a8, an, au, a7, a6, ar, a5, ao, av, aw, ax, ay, az, a0, a1, a2, a3, a4, .map (some aa)])) :: (.obj aa (mapObj kv115.enc (vs (Value.int .i32) bj))) :: (.box fb 100 ([.int .i64 bl.1.list, .int .i64 bl.1.row])) :: (.box b3 27 ([ba, a9, aq, a8, an, au, a7, a6, ar, a5, ao])) :: Γ) w → ml [(7, .pointer (some ⟨bm, 0, none⟩)), (60, an), (61, .int .i64 (ap.decomp.length : Int)), (62, .int .i64 ab)] w := by
      intro bj w H hs
      rw [book_Compile.j1] at H
      refine mm _ _ <| W_region <| O_y rfl (Y_add rfl rfl) <| Om rfl rfl <| O_nil (jw (bs, bj, (IntKind.i64.wrap (ab + 1))) _ _ (S4 rfl rfl rfl rfl) (Ai H hs) (Nat.lt_succ_self _))
     refine W_block fun p7 p8 p9 => W_seq fun qa mn => W_region ?_
     obtain ⟨k2, H⟩ := gd H
     obtain ⟨qb, qc, mo, mp⟩ := (hf.mono bk).ix el24 k2.1 k2.2
     obtain ⟨_, ⟨kl, rfl, hk⟩, mq⟩ := mo
     refine O_y rfl (mp rfl rfl) <| O_y rfl (Y_loadN ag110 sz110 rfl rfl (fun j u hu => hs.see (mq j u hu))) <| O_alloc zr110 hs rfl (fun jx w hs => O_storeN (i := 0) sz110 hs rfl rfl rfl rfl rfl (one_cons rfl (one_cons rfl (one_cons hk.one one_nil))) (fun w hs => O_nil (mn _ _ <| W_seqj fun mr ms jy => ?_)))
     have jz : ∀ (b6 : Bool) (w : World), book_Compile.j2 (book_Compile.l1 bs ap af ad ag ah ai ae aj ak al am) ap ac ab b6 = some r → St w0 bn ((.box jx 110 ([.int .i32 ((rd ap.decomp ab).lo), .int .i32 ((rd ap.decomp ab).hi), kl])) :: (.box bm 114 ([ba, a9, aq, a8, an, au, a7, a6, ar, a5, ao, av, aw, ax, ay, az, a0, a1, a2, a3, a4, .map (some aa)])) :: (.obj aa (mapObj kv115.enc (vs (Value.int .i32) ac))) :: (.box fb 100 ([.int .i64 bl.1.list, .int .i64 bl.1.row])) :: (.box b3 27 ([ba, a9, aq, a8, an, au, a7, a6, ar, a5, ao])) :: Γ) w → mr [(7, .pointer (some ⟨bm, 0, none⟩)), (9, .pointer (some ⟨jx, 0, none⟩)), (60, an), (61, .int .i64 (ap.decomp.length : Int)), (62, .int .i64 ab), (101, .bool b6)] w := by
      intro b6 w H hs
      rw [book_Compile.j2] at H
      refine ms _ _ <| W_cond rfl (fun km => ?_) (fun km => ?_)
      ·rw [if_pos km] at H
       refine W_drawS 16 [0, 1, 2, 4, 0, 16, 32, 64, 0, 256, 512, 1024, 2176, 0, 8192, 32767] [32764, 32760, 32752, 32752, 32719, 32655, 32527, 28431, 31999, 30975, 28927, 24831, 24591, 8191, 8191, 0] [0, 1, 3, 7, 0, 16, 48, 112, 0, 256, 768, 1792, 4080, 0, 8192, 32767] [15] (fun w => St w0 bn ((.box jx 110 ([.int .i32 ((rd ap.decomp ab).lo), .int .i32 ((rd ap.decomp ab).hi), kl])) :: (.box bm 114 ([ba, a9, aq, a8, an, au, a7, a6, ar, a5, ao, av, aw, ax, ay, az, a0, a1, a2, a3, a4, .map (some aa)])) :: (.obj aa (mapObj kv115.enc (vs (Value.int .i32) ac))) :: (.box fb 100 ([.int .i64 bl.1.list, .int .i64 bl.1.row])) :: (.box b3 27 ([ba, a9, aq, a8, an, au, a7, a6, ar, a5, ao])) :: Γ) w) mixed (by kernel_rfl) (fun sh => ?_)
       have hs := hs.drew
       refine Dm 0 sh rfl rfl (by kernel_rfl) rfl <| Dp 1 sh rfl rfl (by kernel_rfl) (fun w => Y_nilp rfl) <| Dp 2 sh rfl rfl (by kernel_rfl) (fun w => Y_field fo114_11 rfl) <| Dy 3 sh rfl rfl (by kernel_rfl) hs (fun w hs => Yb 1 ag112 hs rfl rfl rfl) <| Dp 4 sh rfl rfl (by kernel_rfl) (fun w => Y_field fo110_2 rfl) <| Dy 5 sh rfl rfl (by kernel_rfl) hs (fun w hs => Yb 0 ag28 hs rfl rfl rfl) ?_
       obtain ⟨k3, H⟩ := gd H
       obtain ⟨qd, qe, mt, mu⟩ := hk.ix el28 k3.1 k3.2
       refine Dp 6 sh rfl rfl (by kernel_rfl) (fun w => mu rfl rfl) <| Dy 7 sh rfl rfl (by kernel_rfl) hs (fun w hs => Y_load ag21 rfl (hs.see mt.int)) <| Dp 8 sh rfl rfl (by kernel_rfl) (fun w => Y_field fo110_2 rfl) <| Dy 9 sh rfl rfl (by kernel_rfl) hs (fun w hs => Yb 0 ag28 hs rfl rfl rfl) ?_
       obtain ⟨k4, H⟩ := gd H
       obtain ⟨qf, qg, mv, mw⟩ := hk.ix el28 k4.1 k4.2
       refine Dp 10 sh rfl rfl (by kernel_rfl) (fun w => mw rfl rfl) <| Dy 11 sh rfl rfl (by kernel_rfl) hs (fun w hs => Y_load ag21 rfl (hs.see mv.int)) <| Dp 12 sh rfl rfl (by kernel_rfl) (fun w => Y_buildArr (xs := [.tmp 109, .tmp 113]) (zs := vcs (Value.int .i32) #v[rd ((rd ap.decomp ab).is_) 0, rd ((rd ap.decomp ab).is_) 1]) un115 sz21 zl115 rfl rfl rfl (sz1_cons rfl (sz1_cons rfl sz1_nil)) rfl) <| Dp 13 sh rfl rfl (by kernel_rfl) (fun w => Y_field fo110_0 rfl) <| Dy 14 sh rfl rfl (by kernel_rfl) hs (fun w hs => Yb 0 ag21 hs rfl rfl rfl) <| D1 15 sh rfl (by kernel_rfl) (fun qh mx => O_mapPut (i := 2) (m := ac) (x := #v[rd ((rd ap.decomp ab).is_) 0, rd ((rd ap.decomp ab).is_) 1]) (v := (rd ap.decomp ab).lo) (E := (Value.int .i32)) un112 kv115 trivial (fun _ _ => trivial) hs rfl rfl rfl rfl (fun w hs => O_nil (mx _ _ (fun h _ => absurd h (by decide)) <| OD_doneS sh (by kernel_rfl) (k0 _ _ _ (S4 rfl rfl rfl rfl) (k1 (mput ac (#v[rd ((rd ap.decomp ab).is_) 0, rd ((rd ap.decomp ab).is_) 1]) ((rd ap.decomp ab).lo)) _ H (hs.sub (ssk (ssc (ssc (ssc (ssc ssr)))))))))))
      ·rw [if_neg (bft km)] at H
       exact W_skip (k0 _ _ _ (S4 rfl rfl rfl rfl) (k1 ac _ H (hs.sub (ssk (ssc (ssc (ssc (ssc ssr))))))))
     refine W_drawS 36 [0, 1, 2, 4, 8, 16, 48, 80, 144, 16, 528, 1296, 2064, 4112, 10240, 16384, 49152, 81920, 147456, 16384, 540672, 1327104, 2113536, 4210688, 10485760, 16777216, 50331648, 83886080, 150994944, 16777216, 553648128, 1090519040, 2164260864, 4580179968, 8606711808, 17196646400] [68719476732, 68719476728, 68719476720, 68719476704, 68719460352, 68719476608, 68719476480, 68719476224, 68719474176, 68719475168, 68719473120, 68719452160, 68719460352, 68719443968, 68702699520, 68719345664, 68719214592, 68718952448, 68716855296, 68717871104, 68715773952, 68694310912, 68702699520, 68685922304, 0, 68585259008, 68451041280, 68182605824, 59592671232, 67075309568, 64927825920, 60632858624, 52042924032, 34359738368, 0, 0] [0, 1, 3, 7, 15, 31, 63, 127, 255, 31, 543, 2047, 4095, 8191, 16383, 32767, 65535, 131071, 262143, 32767, 557055, 2097151, 4194303, 8388607, 16777215, 33554431, 67108863, 134217727, 268435455, 33554431, 570425343, 1644167167, 3791650815, 8589934591, 17179869183, 34359738367] [11, 12, 13, 14, 15, 16, 17, 18, 19, 20, 21, 22, 23, 24, 25, 26, 27, 28, 29, 30, 31, 32, 33, 34, 35] (fun w => St w0 bn ((.box jx 110 ([.int .i32 ((rd ap.decomp ab).lo), .int .i32 ((rd ap.decomp ab).hi), kl])) :: (.box bm 114 ([ba, a9, aq, a8, an, au, a7, a6, ar, a5, ao, av, aw, ax, ay, az, a0, a1, a2, a3, a4, .map (some aa)])) :: (.obj aa (mapObj kv115.enc (vs (Value.int .i32) ac))) :: (.box fb 100 ([.int .i64 bl.1.list, .int .i64 bl.1.row])) :: (.box b3 27 ([ba, a9, aq, a8, an, au, a7, a6, ar, a5, ao])) :: Γ) w) mixed (by kernel_rfl) (fun sh => ?_)
     have hs := hs.drew
     refine Dp 0 sh rfl rfl (by kernel_rfl) (fun w => Y_field fo110_2 rfl) <| Dy 1 sh rfl rfl (by kernel_rfl) hs (fun w hs => Yb 0 ag28 hs rfl rfl rfl) <| Dp 2 sh rfl rfl (by kernel_rfl) (fun w => Y_lenR un28 hk rfl) <| Dp 3 sh rfl rfl (by kernel_rfl) (fun w => Y_eql rfl rfl) <| Dm 4 sh rfl rfl (by kernel_rfl) rfl <| OD_if (dj := 70) rfl (fun kn => ?_) (fun kn => ?_)
     ·rw [if_pos kn] at H
      refine Dq 5 sh rfl rfl rfl rfl (by kernel_rfl) (fun w => Y_move rfl) <| Dq 6 sh rfl rfl rfl rfl (by kernel_rfl) (fun w => Y_nilp rfl) <| Dq 7 sh rfl rfl rfl rfl (by kernel_rfl) (fun w => Y_field fo114_6 rfl) <| Dz 8 sh rfl rfl rfl rfl (by kernel_rfl) hs (fun w hs => Yb 1 ag104 hs rfl rfl rfl) <| Dq 9 sh rfl rfl rfl rfl (by kernel_rfl) (fun w => Y_field fo110_0 rfl) <| Dz 10 sh rfl rfl rfl rfl (by kernel_rfl) hs (fun w hs => Yb 0 ag21 hs rfl rfl rfl) <| D1 11 sh rfl (by kernel_rfl) (fun qi my => O_yes rfl rfl ?_)
      obtain ⟨ku, k5, H⟩ := bnd H
      refine O_call rfl rfl (stage_Table_Look.c hs b7 k5) (fun qj w hpost => ?_)
      obtain ⟨rfl, hs⟩ := hpost
      refine O_nil (my _ _ (fun h _ => absurd h (by decide)) <| OD_resetS sh [21, 22, 23, 24, 25, 26, 27, 28, 29, 30, 31, 32, 33, 34, 35] hs (by kernel_rfl) <| Dq 12 sh rfl rfl rfl rfl (by kernel_rfl) (fun w => Y_eql rfl rfl) <| Dp 13 sh rfl rfl (by kernel_rfl) (fun w => Y_pick_t rfl rfl) <| Dm 14 sh rfl rfl (by kernel_rfl) rfl <| OD_if (dj := 80) rfl (fun ko => ?_) (fun ko => ?_))
      ·rw [if_pos ko] at H
       refine Dq 15 sh rfl rfl rfl rfl (by kernel_rfl) (fun w => Y_move rfl) <| Dq 16 sh rfl rfl rfl rfl (by kernel_rfl) (fun w => Y_nilp rfl) <| Dq 17 sh rfl rfl rfl rfl (by kernel_rfl) (fun w => Y_field fo114_2 rfl) <| Dz 18 sh rfl rfl rfl rfl (by kernel_rfl) hs (fun w hs => Yb 1 ag104 hs rfl rfl rfl) <| Dq 19 sh rfl rfl rfl rfl (by kernel_rfl) (fun w => Y_field fo110_0 rfl) <| Dz 20 sh rfl rfl rfl rfl (by kernel_rfl) hs (fun w hs => Yb 0 ag21 hs rfl rfl rfl) <| D1 21 sh rfl (by kernel_rfl) (fun qk mz => O_yes rfl rfl ?_)
       obtain ⟨kv, k6, H⟩ := bnd H
       refine O_call rfl rfl (stage_Table_Look.c hs bq k6) (fun ql w hpost => ?_)
       obtain ⟨rfl, hs⟩ := hpost
       refine O_nil (mz _ _ (fun h _ => absurd h (by decide)) <| OD_resetS sh [33, 34, 35] hs (by kernel_rfl) <| Dq 22 sh rfl rfl rfl rfl (by kernel_rfl) (fun w => Y_eql rfl rfl) <| Dp 23 sh rfl rfl (by kernel_rfl) (fun w => Y_pick_t rfl rfl) <| Dm 24 sh rfl rfl (by kernel_rfl) rfl <| OD_if (dj := 90) rfl (fun kp => ?_) (fun kp => ?_))
       ·rw [if_pos kp] at H
        refine Dq 25 sh rfl rfl rfl rfl (by kernel_rfl) (fun w => Y_move rfl) <| Dq 26 sh rfl rfl rfl rfl (by kernel_rfl) (fun w => Y_nilp rfl) <| Dq 27 sh rfl rfl rfl rfl (by kernel_rfl) (fun w => Y_field fo114_2 rfl) <| Dz 28 sh rfl rfl rfl rfl (by kernel_rfl) hs (fun w hs => Yb 1 ag104 hs rfl rfl rfl) <| Dq 29 sh rfl rfl rfl rfl (by kernel_rfl) (fun w => Y_field fo110_2 rfl) <| Dz 30 sh rfl rfl rfl rfl (by kernel_rfl) hs (fun w hs => Yb 0 ag28 hs rfl rfl rfl) ?_
        obtain ⟨k7, H⟩ := gd H
        obtain ⟨qm, qn, m0, m1⟩ := hk.ix el28 k7.1 k7.2
        refine Dq 31 sh rfl rfl rfl rfl (by kernel_rfl) (fun w => m1 rfl rfl) <| Dz 32 sh rfl rfl rfl rfl (by kernel_rfl) hs (fun w hs => Y_load ag21 rfl (hs.see m0.int)) <| D1 33 sh rfl (by kernel_rfl) (fun qo m2 => O_yes rfl rfl ?_)
        obtain ⟨j8, k8, H⟩ := bnd H
        refine O_call rfl rfl (stage_Table_Look.c hs bq k8) (fun qp w hpost => ?_)
        obtain ⟨rfl, hs⟩ := hpost
        refine O_nil (m2 _ _ (fun h _ => absurd h (by decide)) <| OD_resetS sh [] hs (by kernel_rfl) <| Dq 34 sh rfl rfl rfl rfl (by kernel_rfl) (fun w => Y_eql rfl rfl) <| Dp 35 sh rfl rfl (by kernel_rfl) (fun w => Y_pick_t rfl rfl) <| OD_doneS sh (by kernel_rfl) (jy _ _ _ (by repeat first | exact Sub.nil | refine Sub.cons rfl ?_) (jz (decide (j8 = 0)) _ H hs)))
       ·rw [if_neg kp] at H
        refine Dn 25 sh rfl rfl rfl rfl rfl (by kernel_rfl) <| Dn 26 sh rfl rfl rfl rfl rfl (by kernel_rfl) <| Dn 27 sh rfl rfl rfl rfl rfl (by kernel_rfl) <| Dn 28 sh rfl rfl rfl rfl rfl (by kernel_rfl) <| Dn 29 sh rfl rfl rfl rfl rfl (by kernel_rfl) <| Dn 30 sh rfl rfl rfl rfl rfl (by kernel_rfl) <| Dn 31 sh rfl rfl rfl rfl rfl (by kernel_rfl) <| Dn 32 sh rfl rfl rfl rfl rfl (by kernel_rfl) <| Dn 33 sh rfl rfl rfl rfl rfl (by kernel_rfl) <| Dn 34 sh rfl rfl rfl rfl rfl (by kernel_rfl) <| Dp 35 sh rfl rfl (by kernel_rfl) (fun w => Y_pick_f rfl rfl) <| OD_doneS sh (by kernel_rfl) (jy _ _ _ (by repeat first | exact Sub.nil | refine Sub.cons rfl ?_) (jz false _ H hs))
      ·rw [if_neg ko] at H
       refine Dn 15 sh rfl rfl rfl rfl rfl (by kernel_rfl) <| Dn 16 sh rfl rfl rfl rfl rfl (by kernel_rfl) <| Dn 17 sh rfl rfl rfl rfl rfl (by kernel_rfl) <| Dn 18 sh rfl rfl rfl rfl rfl (by kernel_rfl) <| Dn 19 sh rfl rfl rfl rfl rfl (by kernel_rfl) <| Dn 20 sh rfl rfl rfl rfl rfl (by kernel_rfl) <| Dn 21 sh rfl rfl rfl rfl rfl (by kernel_rfl) <| Dn 22 sh rfl rfl rfl rfl rfl (by kernel_rfl) <| Dp 23 sh rfl rfl (by kernel_rfl) (fun w => Y_pick_f rfl rfl) <| Dm 24 sh rfl rfl (by kernel_rfl) rfl <| Dn 25 sh rfl rfl rfl rfl rfl (by kernel_rfl) <| Dn 26 sh rfl rfl rfl rfl rfl (by kernel_rfl) <| Dn 27 sh rfl rfl rfl rfl rfl (by kernel_rfl) <| Dn 28 sh rfl rfl rfl rfl rfl (by kernel_rfl) ?_
       refine Dn 29 sh rfl rfl rfl rfl rfl (by kernel_rfl) <| Dn 30 sh rfl rfl rfl rfl rfl (by kernel_rfl) <| Dn 31 sh rfl rfl rfl rfl rfl (by kernel_rfl) <| Dn 32 sh rfl rfl rfl rfl rfl (by kernel_rfl) <| Dn 33 sh rfl rfl rfl rfl rfl (by kernel_rfl) <| Dn 34 sh rfl rfl rfl rfl rfl (by kernel_rfl) <| Dp 35 sh rfl rfl (by kernel_rfl) (fun w => Y_pick_f rfl rfl) <| OD_doneS sh (by kernel_rfl) (jy _ _ _ (by repeat first | exact Sub.nil | refine Sub.cons rfl ?_) (jz false _ H hs))
     ·rw [if_neg kn] at H
      refine Dn 5 sh rfl rfl rfl rfl rfl (by kernel_rfl) <| Dn 6 sh rfl rfl rfl rfl rfl (by kernel_rfl) <| Dn 7 sh rfl rfl rfl rfl rfl (by kernel_rfl) <| Dn 8 sh rfl rfl rfl rfl rfl (by kernel_rfl) <| Dn 9 sh rfl rfl rfl rfl rfl (by kernel_rfl) <| Dn 10 sh rfl rfl rfl rfl rfl (by kernel_rfl) <| Dn 11 sh rfl rfl rfl rfl rfl (by kernel_rfl) <| Dn 12 sh rfl rfl rfl rfl rfl (by kernel_rfl) <| Dp 13 sh rfl rfl (by kernel_rfl) (fun w => Y_pick_f rfl rfl) <| Dm 14 sh rfl rfl (by kernel_rfl) rfl <| Dn 15 sh rfl rfl rfl rfl rfl (by kernel_rfl) <| Dn 16 sh rfl rfl rfl rfl rfl (by kernel_rfl) <| Dn 17 sh rfl rfl rfl rfl rfl (by kernel_rfl) <| Dn 18 sh rfl rfl rfl rfl rfl (by kernel_rfl) ?_
      refine Dn 19 sh rfl rfl rfl rfl rfl (by kernel_rfl) <| Dn 20 sh rfl rfl rfl rfl rfl (by kernel_rfl) <| Dn 21 sh rfl rfl rfl rfl rfl (by kernel_rfl) <| Dn 22 sh rfl rfl rfl rfl rfl (by kernel_rfl) <| Dp 23 sh rfl rfl (by kernel_rfl) (fun w => Y_pick_f rfl rfl) <| Dm 24 sh rfl rfl (by kernel_rfl) rfl <| Dn 25 sh rfl rfl rfl rfl rfl (by kernel_rfl) <| Dn 26 sh rfl rfl rfl rfl rfl (by kernel_rfl) <| Dn 27 sh rfl rfl rfl rfl rfl (by kernel_rfl) <| Dn 28 sh rfl rfl rfl rfl rfl (by kernel_rfl) <| Dn 29 sh rfl rfl rfl rfl rfl (by kernel_rfl) <| Dn 30 sh rfl rfl rfl rfl rfl (by kernel_rfl) <| Dn 31 sh rfl rfl rfl rfl rfl (by kernel_rfl) <| Dn 32 sh rfl rfl rfl rfl rfl (by kernel_rfl) ?_
      refine Dn 33 sh rfl rfl rfl rfl rfl (by kernel_rfl) <| Dn 34 sh rfl rfl rfl rfl rfl (by kernel_rfl) <| Dp 35 sh rfl rfl (by kernel_rfl) (fun w => Y_pick_f rfl rfl) <| OD_doneS sh (by kernel_rfl) (jy _ _ _ (by repeat first | exact Sub.nil | refine Sub.cons rfl ?_) (jz false _ H hs))
    ·rw [if_neg kk] at H
     refine W_exit (mi _ _ (mg _ _ <| Wr fun qq m3 => Om rfl rfl <| Oa rfl rfl <| Oa rfl rfl <| O_nil (m3 _ _ <| W_ret ?_)))
     obtain ⟨qr, bg, hs, m4⟩ := hs.objEnd (enc := (fun y : Vector Int 2 => Value.agg (acs .i32 y.toList).toArray)) (E := (Value.int .i32)) (m := ac) (j := 1) rfl
     obtain ⟨m5, bf, hs, k9⟩ := hs.boxEnd (j := 0) rfl
     have m6 : PtrR rTbs m5 (.pointer (some ⟨bm, 0, none⟩)) (some (⟨(⟨ap.names, ap.status, ap.maps, ap.class_, ap.decomp, ap.excl, ap.bidi, ap.join, ap.marks, ap.script, ap.like⟩ : Bk), af, ad, ag, ah, ai, ae, aj, ak, al, am, ac⟩ : Tbs)) := .inr ⟨bm, _, rfl, rfl, _, ⟨_, _, _, _, _, _, _, _, _, _, _, _, _, _, _, _, _, _, _, _, _, _, rfl, (kx.mono ((bk.trans bg).trans bf)), (jn.mono ((bk.trans bg).trans bf)), (jo.mono ((bk.trans bg).trans bf)), (jp.mono ((bk.trans bg).trans bf)), (hf.mono ((bk.trans bg).trans bf)), (jq.mono ((bk.trans bg).trans bf)), (jr.mono ((bk.trans bg).trans bf)), (js.mono ((bk.trans bg).trans bf)), (jt.mono ((bk.trans bg).trans bf)), (ju.mono ((bk.trans bg).trans bf)), (jv.mono ((bk.trans bg).trans bf)), (fg.mono (bg.trans bf)), (bq.mono (bg.trans bf)), (fh.mono (bg.trans bf)), (fi.mono (bg.trans bf)), (fj.mono (bg.trans bf)), (b7.mono (bg.trans bf)), (fk.mono (bg.trans bf)), (fl.mono (bg.trans bf)), (fm.mono (bg.trans bf)), (fn.mono (bg.trans bf)), (m4.mono bf)⟩, k9⟩
     obtain rfl := sinj H
     exact ret2 rfl rfl rfl ⟨_, _, rfl, ((((kj.trans kw).trans bk).trans bg).trans bf), (hs.sub (ssk (ssk ssr))), m6⟩
   refine W_drawS 40 [0, 0, 0, 4, 10, 0, 0, 64, 176, 0, 0, 1024, 2816, 0, 0, 16384, 45056, 0, 0, 262144, 720896, 0, 2097152, 5242880, 0, 16777216, 41943040, 0, 134217728, 335544320, 0, 1073741824, 2684354560, 0, 8589934592, 21474836480, 0, 107987669265, 137438953472, 549755813887] [412316860414, 549755813869, 549755813875, 549755813859, 412316860129, 549755813599, 549755813695, 549755813439, 412316855809, 549755809279, 549755810815, 549755806719, 412316786689, 549755740159, 549755764735, 549755699199, 412315680769, 549754634239, 549755027455, 549753978879, 412306374657, 549749522431, 549741133823, 412232974337, 549705482239, 549638373375, 411645771777, 549353160703, 548816289791, 406948151297, 546534588415, 542239621119, 369367187457, 523986010111, 489626271743, 343597383681, 343597383679, 0, 0, 0] [0, 0, 0, 4, 14, 0, 0, 64, 254, 0, 0, 1024, 4094, 0, 0, 16384, 65534, 0, 0, 262144, 1048574, 0, 2097152, 8388606, 0, 16777216, 67108862, 0, 134217728, 536870910, 0, 1073741824, 4294967294, 0, 8589934592, 34359738366, 0, 137438953471, 274877906943, 549755813887] [] (fun w => St w0 br ((.box fb 100 ([.int .i64 bl.1.list, .int .i64 bl.1.row])) :: (.box b3 27 ([ba, a9, aq, a8, an, au, a7, a6, ar, a5, ao])) :: Γ) w) mixed (by kernel_rfl) (fun sh => ?_)
   have hs := hs.drew
   refine Dy 0 sh rfl rfl (by kernel_rfl) hs (fun w hs => Y_loadbN (i := 1) ag27 sz27 hs rfl rfl rfl rfl) <| Dm 1 sh rfl rfl (by kernel_rfl) rfl <| Dp 2 sh rfl rfl (by kernel_rfl) (fun w => Y_field fo27_1 rfl) <| Dy 3 sh rfl rfl (by kernel_rfl) hs (fun w hs => Yb 1 ag23 hs rfl rfl rfl) <| Dm 5 sh rfl rfl (by kernel_rfl) rfl <| Dp 6 sh rfl rfl (by kernel_rfl) (fun w => Y_field fo27_3 rfl) <| Dy 7 sh rfl rfl (by kernel_rfl) hs (fun w hs => Yb 1 ag23 hs rfl rfl rfl) <| Dm 9 sh rfl rfl (by kernel_rfl) rfl <| Dp 10 sh rfl rfl (by kernel_rfl) (fun w => Y_field fo27_6 rfl) <| Dy 11 sh rfl rfl (by kernel_rfl) hs (fun w hs => Yb 1 ag23 hs rfl rfl rfl) <| Dm 13 sh rfl rfl (by kernel_rfl) rfl <| Dp 14 sh rfl rfl (by kernel_rfl) (fun w => Y_field fo27_7 rfl) <| Dy 15 sh rfl rfl (by kernel_rfl) hs (fun w hs => Yb 1 ag23 hs rfl rfl rfl) <| Dm 17 sh rfl rfl (by kernel_rfl) rfl ?_
   refine Dp 18 sh rfl rfl (by kernel_rfl) (fun w => Y_field fo27_9 rfl) <| Dy 19 sh rfl rfl (by kernel_rfl) hs (fun w hs => Yb 1 ag23 hs rfl rfl rfl) <| Dp 21 sh rfl rfl (by kernel_rfl) (fun w => Y_field fo27_5 rfl) <| Dy 22 sh rfl rfl (by kernel_rfl) hs (fun w hs => Yb 1 ag25 hs rfl rfl rfl) <| Dp 24 sh rfl rfl (by kernel_rfl) (fun w => Y_field fo27_8 rfl) <| Dy 25 sh rfl rfl (by kernel_rfl) hs (fun w hs => Yb 1 ag25 hs rfl rfl rfl) <| Dp 27 sh rfl rfl (by kernel_rfl) (fun w => Y_field fo27_2 rfl) <| Dy 28 sh rfl rfl (by kernel_rfl) hs (fun w hs => Yb 1 ag24 hs rfl rfl rfl) <| Dp 30 sh rfl rfl (by kernel_rfl) (fun w => Y_field fo27_4 rfl) <| Dy 31 sh rfl rfl (by kernel_rfl) hs (fun w hs => Yb 1 ag24 hs rfl rfl rfl) <| Dp 33 sh rfl rfl (by kernel_rfl) (fun w => Y_field fo27_10 rfl) <| Dy 34 sh rfl rfl (by kernel_rfl) hs (fun w hs => Yb 1 ag24 hs rfl rfl rfl) <| OD_abs fun fs bb => ?_
   have la : ∀ (b9 ca cb cc cd ce cf cg ch : Option Tab) (aa : Nat) (bt bu bv bw bx bz b0 b1 b2 : Value) (b4 : Hp) (w : World), book_Compile.t1 ap b9 ca cb cc cd ce cf cg ch = some r → Le br b4 → St w0 b4 ((.obj aa (mapObj kv115.enc (vs (Value.int .i32) ([] : List (Vector Int 2 × Int))))) :: (.box fb 100 ([.int .i64 bl.1.list, .int .i64 bl.1.row])) :: (.box b3 27 ([ba, a9, aq, a8, an, au, a7, a6, ar, a5, ao])) :: Γ) w → PtrR rTab b4 bt b9 → PtrR rTab b4 bu ca → PtrR rTab b4 bv cb → PtrR rTab b4 bw cc → PtrR rTab b4 bx cd → PtrR rTab b4 bz ce → PtrR rTab b4 b0 cf → PtrR rTab b4 b1 cg → PtrR rTab b4 b2 ch → fs [] (fun w => St w0 br ((.box fb 100 ([.int .i64 bl.1.list, .int .i64 bl.1.row])) :: (.box b3 27 ([ba, a9, aq, a8, an, au, a7, a6, ar, a5, ao])) :: Γ) w) 4 [32, 29, 26, 23, 20, 16, 12, 8, 4, 36, 34, 33, 31, 30, 28, 27, 25, 24, 22, 21, 19, 18, 17, 15, 14, 13, 11, 10, 9, 7, 6, 5, 3, 2, 1, 0] [(1, .pointer (some ⟨b3, 0, none⟩)), (20, .agg #[ba, a9, aq, a8, an, au, a7, a6, ar, a5, ao]), (24, bt), (28, bu), (32, bv), (36, bw), (40, bx), (43, bz), (46, b0), (49, b1), (52, b2), (54, ao), (56, .map (some aa))] w := by
    intro b9 ca cb cc cd ce cf cg ch aa bt bu bv bw bx bz b0 b1 b2 b4 w H fy hs gc ge gf gg gh gi gj gk gl
    rw [book_Compile.t1] at H
    refine (bb _ _ _ _ _ _).1 <| D1 35 sh rfl (by kernel_rfl) (fun qs m7 => ?_)
    obtain ⟨j9, lb, H⟩ := bnd H
    refine O_call rfl rfl (book_numbered_api_Chars_fhb.c hs (jv.mono fy) lb) (fun kq w hpost => ?_)
    obtain ⟨m8, qt, rfl, b5, hs, lc⟩ := hpost
    refine O_nil (m7 _ _ (fun _ _ => ((hs.less (fy.trans b5)).sub (ssk (ssc (ssc ssr))))) <| Dp 37 sh rfl rfl (by kernel_rfl) (fun w => Y_build (cs := [ba, a9, aq, a8, an, au, a7, a6, ar, a5, ao, bt, bu, bv, bw, bx, bz, b0, b1, b2, kq, .map (some aa)]) zr114 pl114 ((Parts.cons rfl rfl (Parts.cons rfl gc.cellsL (Parts.cons rfl ge.cellsL (Parts.cons rfl gf.cellsL (Parts.cons rfl gg.cellsL (Parts.cons rfl gh.cellsL (Parts.cons rfl gi.cellsL (Parts.cons rfl gj.cellsL (Parts.cons rfl gk.cellsL (Parts.cons rfl gl.cellsL (Parts.cons rfl lc.cellsL (Parts.cons rfl rfl Parts.nil))))))))))))) ag114 (by kernel_rfl)) <| D1 38 sh rfl (by kernel_rfl) (fun qu m9 => O_boxN (cs := [ba, a9, aq, a8, an, au, a7, a6, ar, a5, ao, bt, bu, bv, bw, bx, bz, b0, b1, b2, kq, .map (some aa)]) hs rfl rfl (fun bm w hs => O_nil (m9 _ _ (fun _ _ => ((hs.less (fy.trans b5)).sub (ssk (ssk (ssc (ssc ssr)))))) <| Dp 39 sh rfl rfl (by kernel_rfl) (fun w => Y_assign rfl) <| OD_doneS sh (by kernel_rfl) (ky _ _ _ (S2 rfl rfl) (kz b9 ca cb cc cd ce cf cg ch j9 bt bu bv bw bx bz b0 b1 b2 kq bm aa m8 _ H (fy.trans b5) hs (gc.mono b5) (ge.mono b5) (gf.mono b5) (gg.mono b5) (gh.mono b5) (gi.mono b5) (gj.mono b5) (gk.mono b5) (gl.mono b5) lc))))))
   have ld : ∀ (ci cj ck cl cm cn co cp : Option Tab) (aa : Nat) (dz ea eb ec ed ee ef eg : Value) (b8 : Hp) (w : World), book_Compile.t2 ap ci cj ck cl cm cn co cp = some r → Le br b8 → St w0 b8 ((.obj aa (mapObj kv115.enc (vs (Value.int .i32) ([] : List (Vector Int 2 × Int))))) :: (.box fb 100 ([.int .i64 bl.1.list, .int .i64 bl.1.row])) :: (.box b3 27 ([ba, a9, aq, a8, an, au, a7, a6, ar, a5, ao])) :: Γ) w → PtrR rTab b8 dz ci → PtrR rTab b8 ea cj → PtrR rTab b8 eb ck → PtrR rTab b8 ec cl → PtrR rTab b8 ed cm → PtrR rTab b8 ee cn → PtrR rTab b8 ef co → PtrR rTab b8 eg cp → fs [] (fun w => St w0 br ((.box fb 100 ([.int .i64 bl.1.list, .int .i64 bl.1.row])) :: (.box b3 27 ([ba, a9, aq, a8, an, au, a7, a6, ar, a5, ao])) :: Γ) w) 5 [29, 26, 23, 20, 16, 12, 8, 4, 36, 34, 33, 31, 30, 28, 27, 25, 24, 22, 21, 19, 18, 17, 15, 14, 13, 11, 10, 9, 7, 6, 5, 3, 2, 1, 0] [(1, .pointer (some ⟨b3, 0, none⟩)), (20, .agg #[ba, a9, aq, a8, an, au, a7, a6, ar, a5, ao]), (24, dz), (28, ea), (32, eb), (36, ec), (40, ed), (43, ee), (46, ef), (49, eg), (51, an), (54, ao), (56, .map (some aa))] w := by
    intro ci cj ck cl cm cn co cp aa dz ea eb ec ed ee ef eg b8 w H gs hs hl hm hn ho hp hq hr ht
    rw [book_Compile.t2] at H
    refine (bb _ _ _ _ _ _).1 <| D1 32 sh rfl (by kernel_rfl) (fun qv na => ?_)
    obtain ⟨ka, le, H⟩ := bnd H
    refine O_call rfl rfl (book_numbered_api_Chars_fhb.c hs (hf.mono gs) le) (fun nb w hpost => ?_)
    obtain ⟨nc, qw, rfl, dv, hs, nd⟩ := hpost
    refine O_nil (na _ _ (fun _ _ => ((hs.less (gs.trans dv)).sub (ssk (ssc (ssc ssr))))) <| (OD_land rfl (by kernel_rfl) (OD.weak [(1, _), (20, _), (24, _), (28, _), (32, _), (36, _), (40, _), (43, _), (46, _), (49, _), (52, _), (54, _), (56, _)] (by repeat first | exact Sub.nil | refine Sub.cons rfl ?_) ((bb _ _ _ _ _ _).2 (la ci cj ck cl cm cn co cp ka aa dz ea eb ec ed ee ef eg nb nc _ H (gs.trans dv) hs (hl.mono dv) (hm.mono dv) (hn.mono dv) (ho.mono dv) (hp.mono dv) (hq.mono dv) (hr.mono dv) (ht.mono dv) nd)))))
   have lf : ∀ (cq cr ct cu cv cw cx : Option Tab) (aa : Nat) (eh ei ej ek el em en : Value) (dw : Hp) (w : World), book_Compile.t3 ap cq cr ct cu cv cw cx = some r → Le br dw → St w0 dw ((.obj aa (mapObj kv115.enc (vs (Value.int .i32) ([] : List (Vector Int 2 × Int))))) :: (.box fb 100 ([.int .i64 bl.1.list, .int .i64 bl.1.row])) :: (.box b3 27 ([ba, a9, aq, a8, an, au, a7, a6, ar, a5, ao])) :: Γ) w → PtrR rTab dw eh cq → PtrR rTab dw ei cr → PtrR rTab dw ej ct → PtrR rTab dw ek cu → PtrR rTab dw el cv → PtrR rTab dw em cw → PtrR rTab dw en cx → fs [] (fun w => St w0 br ((.box fb 100 ([.int .i64 bl.1.list, .int .i64 bl.1.row])) :: (.box b3 27 ([ba, a9, aq, a8, an, au, a7, a6, ar, a5, ao])) :: Γ) w) 6 [26, 23, 20, 16, 12, 8, 4, 36, 34, 33, 31, 30, 28, 27, 25, 24, 22, 21, 19, 18, 17, 15, 14, 13, 11, 10, 9, 7, 6, 5, 3, 2, 1, 0] [(1, .pointer (some ⟨b3, 0, none⟩)), (20, .agg #[ba, a9, aq, a8, an, au, a7, a6, ar, a5, ao]), (24, eh), (28, ei), (32, ej), (36, ek), (40, el), (43, em), (46, en), (48, aq), (51, an), (54, ao), (56, .map (some aa))] w := by
    intro cq cr ct cu cv cw cx aa eh ei ej ek el em en dw w H gt hs hv hw hx hy hz ia ib
    rw [book_Compile.t3] at H
    refine (bb _ _ _ _ _ _).1 <| D1 29 sh rfl (by kernel_rfl) (fun qx ne => ?_)
    obtain ⟨kb, lg, H⟩ := bnd H
    refine O_call rfl rfl (book_numbered_api_Chars_fhb.c hs (jo.mono gt) lg) (fun nf w hpost => ?_)
    obtain ⟨ng, qy, rfl, eo, hs, nh⟩ := hpost
    refine O_nil (ne _ _ (fun _ _ => ((hs.less (gt.trans eo)).sub (ssk (ssc (ssc ssr))))) <| (OD_land rfl (by kernel_rfl) (OD.weak [(1, _), (20, _), (24, _), (28, _), (32, _), (36, _), (40, _), (43, _), (46, _), (49, _), (51, _), (54, _), (56, _)] (by repeat first | exact Sub.nil | refine Sub.cons rfl ?_) ((bb _ _ _ _ _ _).2 (ld cq cr ct cu cv cw cx kb aa eh ei ej ek el em en nf ng _ H (gt.trans eo) hs (hv.mono eo) (hw.mono eo) (hx.mono eo) (hy.mono eo) (hz.mono eo) (ia.mono eo) (ib.mono eo) nh)))))
   have lh : ∀ (cy cz da db dc dd : Option Tab) (aa : Nat) (ep eq er es et eu : Value) (ev : Hp) (w : World), book_Compile.t4 ap cy cz da db dc dd = some r → Le br ev → St w0 ev ((.obj aa (mapObj kv115.enc (vs (Value.int .i32) ([] : List (Vector Int 2 × Int))))) :: (.box fb 100 ([.int .i64 bl.1.list, .int .i64 bl.1.row])) :: (.box b3 27 ([ba, a9, aq, a8, an, au, a7, a6, ar, a5, ao])) :: Γ) w → PtrR rTab ev ep cy → PtrR rTab ev eq cz → PtrR rTab ev er da → PtrR rTab ev es db → PtrR rTab ev et dc → PtrR rTab ev eu dd → fs [] (fun w => St w0 br ((.box fb 100 ([.int .i64 bl.1.list, .int .i64 bl.1.row])) :: (.box b3 27 ([ba, a9, aq, a8, an, au, a7, a6, ar, a5, ao])) :: Γ) w) 7 [23, 20, 16, 12, 8, 4, 36, 34, 33, 31, 30, 28, 27, 25, 24, 22, 21, 19, 18, 17, 15, 14, 13, 11, 10, 9, 7, 6, 5, 3, 2, 1, 0] [(1, .pointer (some ⟨b3, 0, none⟩)), (20, .agg #[ba, a9, aq, a8, an, au, a7, a6, ar, a5, ao]), (24, ep), (28, eq), (32, er), (36, es), (40, et), (43, eu), (45, ar), (48, aq), (51, an), (54, ao), (56, .map (some aa))] w := by
    intro cy cz da db dc dd aa ep eq er es et eu ev w H gu hs ic id ie ig ih ii
    rw [book_Compile.t4] at H
    refine (bb _ _ _ _ _ _).1 <| D1 26 sh rfl (by kernel_rfl) (fun qz ni => ?_)
    obtain ⟨kc, li, H⟩ := bnd H
    refine O_call rfl rfl (book_marked.c hs (jt.mono gu) li) (fun nj w hpost => ?_)
    obtain ⟨nk, q0, rfl, fc, hs, nl⟩ := hpost
    refine O_nil (ni _ _ (fun _ _ => ((hs.less (gu.trans fc)).sub (ssk (ssc (ssc ssr))))) <| (OD_land rfl (by kernel_rfl) (OD.weak [(1, _), (20, _), (24, _), (28, _), (32, _), (36, _), (40, _), (43, _), (46, _), (48, _), (51, _), (54, _), (56, _)] (by repeat first | exact Sub.nil | refine Sub.cons rfl ?_) ((bb _ _ _ _ _ _).2 (lf cy cz da db dc dd kc aa ep eq er es et eu nj nk _ H (gu.trans fc) hs (ic.mono fc) (id.mono fc) (ie.mono fc) (ig.mono fc) (ih.mono fc) (ii.mono fc) nl)))))
   have lj : ∀ (de df dg dh di : Option Tab) (aa : Nat) (ew ex ey ez e0 : Value) (fd : Hp) (w : World), book_Compile.t5 ap de df dg dh di = some r → Le br fd → St w0 fd ((.obj aa (mapObj kv115.enc (vs (Value.int .i32) ([] : List (Vector Int 2 × Int))))) :: (.box fb 100 ([.int .i64 bl.1.list, .int .i64 bl.1.row])) :: (.box b3 27 ([ba, a9, aq, a8, an, au, a7, a6, ar, a5, ao])) :: Γ) w → PtrR rTab fd ew de → PtrR rTab fd ex df → PtrR rTab fd ey dg → PtrR rTab fd ez dh → PtrR rTab fd e0 di → fs [] (fun w => St w0 br ((.box fb 100 ([.int .i64 bl.1.list, .int .i64 bl.1.row])) :: (.box b3 27 ([ba, a9, aq, a8, an, au, a7, a6, ar, a5, ao])) :: Γ) w) 8 [20, 16, 12, 8, 4, 36, 34, 33, 31, 30, 28, 27, 25, 24, 22, 21, 19, 18, 17, 15, 14, 13, 11, 10, 9, 7, 6, 5, 3, 2, 1, 0] [(1, .pointer (some ⟨b3, 0, none⟩)), (20, .agg #[ba, a9, aq, a8, an, au, a7, a6, ar, a5, ao]), (24, ew), (28, ex), (32, ey), (36, ez), (40, e0), (42, au), (45, ar), (48, aq), (51, an), (54, ao), (56, .map (some aa))] w := by
    intro de df dg dh di aa ew ex ey ez e0 fd w H gv hs ij ik il im io
    rw [book_Compile.t5] at H
    refine (bb _ _ _ _ _ _).1 <| D1 23 sh rfl (by kernel_rfl) (fun q1 nm => ?_)
    obtain ⟨kd, lk, H⟩ := bnd H
    refine O_call rfl rfl (book_marked.c hs (jq.mono gv) lk) (fun nn w hpost => ?_)
    obtain ⟨no, q2, rfl, fo, hs, np⟩ := hpost
    refine O_nil (nm _ _ (fun _ _ => ((hs.less (gv.trans fo)).sub (ssk (ssc (ssc ssr))))) <| (OD_land rfl (by kernel_rfl) (OD.weak [(1, _), (20, _), (24, _), (28, _), (32, _), (36, _), (40, _), (43, _), (45, _), (48, _), (51, _), (54, _), (56, _)] (by repeat first | exact Sub.nil | refine Sub.cons rfl ?_) ((bb _ _ _ _ _ _).2 (lh de df dg dh di kd aa ew ex ey ez e0 nn no _ H (gv.trans fo) hs (ij.mono fo) (ik.mono fo) (il.mono fo) (im.mono fo) (io.mono fo) np)))))
   have ll : ∀ (dk dl dm dn : Option Tab) (aa : Nat) (e1 e2 e3 e4 : Value) (fp : Hp) (w : World), book_Compile.t6 ap dk dl dm dn = some r → Le br fp → St w0 fp ((.obj aa (mapObj kv115.enc (vs (Value.int .i32) ([] : List (Vector Int 2 × Int))))) :: (.box fb 100 ([.int .i64 bl.1.list, .int .i64 bl.1.row])) :: (.box b3 27 ([ba, a9, aq, a8, an, au, a7, a6, ar, a5, ao])) :: Γ) w → PtrR rTab fp e1 dk → PtrR rTab fp e2 dl → PtrR rTab fp e3 dm → PtrR rTab fp e4 dn → fs [] (fun w => St w0 br ((.box fb 100 ([.int .i64 bl.1.list, .int .i64 bl.1.row])) :: (.box b3 27 ([ba, a9, aq, a8, an, au, a7, a6, ar, a5, ao])) :: Γ) w) 9 [16, 12, 8, 4, 36, 34, 33, 31, 30, 28, 27, 25, 24, 22, 21, 19, 18, 17, 15, 14, 13, 11, 10, 9, 7, 6, 5, 3, 2, 1, 0] [(1, .pointer (some ⟨b3, 0, none⟩)), (20, .agg #[ba, a9, aq, a8, an, au, a7, a6, ar, a5, ao]), (24, e1), (28, e2), (32, e3), (36, e4), (37, .func (.func 62) #[] #[]), (39, a5), (42, au), (45, ar), (48, aq), (51, an), (54, ao), (56, .map (some aa))] w := by
    intro dk dl dm dn aa e1 e2 e3 e4 fp w H gw hs ip iq ir it
    rw [book_Compile.t6] at H
    refine (bb _ _ _ _ _ _).1 <| D1 20 sh rfl (by kernel_rfl) (fun q3 nq => ?_)
    obtain ⟨ke, lm, H⟩ := bnd H
    refine O_callv rfl rfl rfl (book_Compile_1.c hs (ju.mono gw) lm) (fun nr w hpost => ?_)
    obtain ⟨ns, q4, rfl, fw, hs, nt⟩ := hpost
    refine O_nil (nq _ _ (fun _ _ => ((hs.less (gw.trans fw)).sub (ssk (ssc (ssc ssr))))) <| (OD_land rfl (by kernel_rfl) (OD.weak [(1, _), (20, _), (24, _), (28, _), (32, _), (36, _), (40, _), (42, _), (45, _), (48, _), (51, _), (54, _), (56, _)] (by repeat first | exact Sub.nil | refine Sub.cons rfl ?_) ((bb _ _ _ _ _ _).2 (lj dk dl dm dn ke aa e1 e2 e3 e4 nr ns _ H (gw.trans fw) hs (ip.mono fw) (iq.mono fw) (ir.mono fw) (it.mono fw) nt)))))
   have ln : ∀ (dp dq dr : Option Tab) (aa : Nat) (e5 e6 e7 : Value) (fx : Hp) (w : World), book_Compile.t7 ap dp dq dr = some r → Le br fx → St w0 fx ((.obj aa (mapObj kv115.enc (vs (Value.int .i32) ([] : List (Vector Int 2 × Int))))) :: (.box fb 100 ([.int .i64 bl.1.list, .int .i64 bl.1.row])) :: (.box b3 27 ([ba, a9, aq, a8, an, au, a7, a6, ar, a5, ao])) :: Γ) w → PtrR rTab fx e5 dp → PtrR rTab fx e6 dq → PtrR rTab fx e7 dr → fs [] (fun w => St w0 br ((.box fb 100 ([.int .i64 bl.1.list, .int .i64 bl.1.row])) :: (.box b3 27 ([ba, a9, aq, a8, an, au, a7, a6, ar, a5, ao])) :: Γ) w) 10 [12, 8, 4, 36, 34, 33, 31, 30, 28, 27, 25, 24, 22, 21, 19, 18, 17, 15, 14, 13, 11, 10, 9, 7, 6, 5, 3, 2, 1, 0] [(1, .pointer (some ⟨b3, 0, none⟩)), (20, .agg #[ba, a9, aq, a8, an, au, a7, a6, ar, a5, ao]), (24, e5), (28, e6), (32, e7), (33, .func (.func 62) #[] #[]), (35, a6), (37, .func (.func 62) #[] #[]), (39, a5), (42, au), (45, ar), (48, aq), (51, an), (54, ao), (56, .map (some aa))] w := by
    intro dp dq dr aa e5 e6 e7 fx w H gx hs iu iv iw
    rw [book_Compile.t7] at H
    refine (bb _ _ _ _ _ _).1 <| D1 16 sh rfl (by kernel_rfl) (fun q5 nu => ?_)
    obtain ⟨kf, lp, H⟩ := bnd H
    refine O_callv rfl rfl rfl (book_Compile_1.c hs (js.mono gx) lp) (fun nv w hpost => ?_)
    obtain ⟨nw, q6, rfl, gm, hs, nx⟩ := hpost
    refine O_nil (nu _ _ (fun _ _ => ((hs.less (gx.trans gm)).sub (ssk (ssc (ssc ssr))))) <| (OD_land rfl (by kernel_rfl) (OD.weak [(1, _), (20, _), (24, _), (28, _), (32, _), (36, _), (37, _), (39, _), (42, _), (45, _), (48, _), (51, _), (54, _), (56, _)] (by repeat first | exact Sub.nil | refine Sub.cons rfl ?_) ((bb _ _ _ _ _ _).2 (ll dp dq dr kf aa e5 e6 e7 nv nw _ H (gx.trans gm) hs (iu.mono gm) (iv.mono gm) (iw.mono gm) nx)))))
   have lq : ∀ (ds dt : Option Tab) (aa : Nat) (e8 e9 : Value) (gn : Hp) (w : World), book_Compile.t8 ap ds dt = some r → Le br gn → St w0 gn ((.obj aa (mapObj kv115.enc (vs (Value.int .i32) ([] : List (Vector Int 2 × Int))))) :: (.box fb 100 ([.int .i64 bl.1.list, .int .i64 bl.1.row])) :: (.box b3 27 ([ba, a9, aq, a8, an, au, a7, a6, ar, a5, ao])) :: Γ) w → PtrR rTab gn e8 ds → PtrR rTab gn e9 dt → fs [] (fun w => St w0 br ((.box fb 100 ([.int .i64 bl.1.list, .int .i64 bl.1.row])) :: (.box b3 27 ([ba, a9, aq, a8, an, au, a7, a6, ar, a5, ao])) :: Γ) w) 11 [8, 4, 36, 34, 33, 31, 30, 28, 27, 25, 24, 22, 21, 19, 18, 17, 15, 14, 13, 11, 10, 9, 7, 6, 5, 3, 2, 1, 0] [(1, .pointer (some ⟨b3, 0, none⟩)), (20, .agg #[ba, a9, aq, a8, an, au, a7, a6, ar, a5, ao]), (24, e8), (28, e9), (29, .func (.func 62) #[] #[]), (31, a7), (33, .func (.func 62) #[] #[]), (35, a6), (37, .func (.func 62) #[] #[]), (39, a5), (42, au), (45, ar), (48, aq), (51, an), (54, ao), (56, .map (some aa))] w := by
    intro ds dt aa e8 e9 gn w H gy hs iy iz
    rw [book_Compile.t8] at H
    refine (bb _ _ _ _ _ _).1 <| D1 12 sh rfl (by kernel_rfl) (fun q7 ny => ?_)
    obtain ⟨kg, lr, H⟩ := bnd H
    refine O_callv rfl rfl rfl (book_Compile_1.c hs (jr.mono gy) lr) (fun nz w hpost => ?_)
    obtain ⟨n0, q8, rfl, hd, hs, n1⟩ := hpost
    refine O_nil (ny _ _ (fun _ _ => ((hs.less (gy.trans hd)).sub (ssk (ssc (ssc ssr))))) <| (OD_land rfl (by kernel_rfl) (OD.weak [(1, _), (20, _), (24, _), (28, _), (32, _), (33, _), (35, _), (37, _), (39, _), (42, _), (45, _), (48, _), (51, _), (54, _), (56, _)] (by repeat first | exact Sub.nil | refine Sub.cons rfl ?_) ((bb _ _ _ _ _ _).2 (ln ds dt kg aa e8 e9 nz n0 _ H (gy.trans hd) hs (iy.mono hd) (iz.mono hd) n1)))))
   have ls : ∀ (du : Option Tab) (aa : Nat) (fa : Value) (he : Hp) (w : World), book_Compile.t9 ap du = some r → Le br he → St w0 he ((.obj aa (mapObj kv115.enc (vs (Value.int .i32) ([] : List (Vector Int 2 × Int))))) :: (.box fb 100 ([.int .i64 bl.1.list, .int .i64 bl.1.row])) :: (.box b3 27 ([ba, a9, aq, a8, an, au, a7, a6, ar, a5, ao])) :: Γ) w → PtrR rTab he fa du → fs [] (fun w => St w0 br ((.box fb 100 ([.int .i64 bl.1.list, .int .i64 bl.1.row])) :: (.box b3 27 ([ba, a9, aq, a8, an, au, a7, a6, ar, a5, ao])) :: Γ) w) 12 [4, 36, 34, 33, 31, 30, 28, 27, 25, 24, 22, 21, 19, 18, 17, 15, 14, 13, 11, 10, 9, 7, 6, 5, 3, 2, 1, 0] [(1, .pointer (some ⟨b3, 0, none⟩)), (20, .agg #[ba, a9, aq, a8, an, au, a7, a6, ar, a5, ao]), (24, fa), (25, .func (.func 62) #[] #[]), (27, a8), (29, .func (.func 62) #[] #[]), (31, a7), (33, .func (.func 62) #[] #[]), (35, a6), (37, .func (.func 62) #[] #[]), (39, a5), (42, au), (45, ar), (48, aq), (51, an), (54, ao), (56, .map (some aa))] w := by
    intro du aa fa he w H gz hs ja
    rw [book_Compile.t9] at H
    refine (bb _ _ _ _ _ _).1 <| D1 8 sh rfl (by kernel_rfl) (fun q9 n2 => ?_)
    obtain ⟨kh, lt, H⟩ := bnd H
    refine O_callv rfl rfl rfl (book_Compile_1.c hs (jp.mono gz) lt) (fun n3 w hpost => ?_)
    obtain ⟨n4, ra, rfl, jb, hs, n5⟩ := hpost
    refine O_nil (n2 _ _ (fun _ _ => ((hs.less (gz.trans jb)).sub (ssk (ssc (ssc ssr))))) <| (OD_land rfl (by kernel_rfl) (OD.weak [(1, _), (20, _), (24, _), (28, _), (29, _), (31, _), (33, _), (35, _), (37, _), (39, _), (42, _), (45, _), (48, _), (51, _), (54, _), (56, _)] (by repeat first | exact Sub.nil | refine Sub.cons rfl ?_) ((bb _ _ _ _ _ _).2 (lq du kh aa fa n3 n4 _ H (gz.trans jb) hs (ja.mono jb) n5)))))
   have n6 : ∀ (aa : Nat) (w : World), book_Compile.t10 ap = some r → St w0 br ((.obj aa (mapObj kv115.enc (vs (Value.int .i32) ([] : List (Vector Int 2 × Int))))) :: (.box fb 100 ([.int .i64 bl.1.list, .int .i64 bl.1.row])) :: (.box b3 27 ([ba, a9, aq, a8, an, au, a7, a6, ar, a5, ao])) :: Γ) w → fs [] (fun w => St w0 br ((.box fb 100 ([.int .i64 bl.1.list, .int .i64 bl.1.row])) :: (.box b3 27 ([ba, a9, aq, a8, an, au, a7, a6, ar, a5, ao])) :: Γ) w) 13 [36, 34, 33, 31, 30, 28, 27, 25, 24, 22, 21, 19, 18, 17, 15, 14, 13, 11, 10, 9, 7, 6, 5, 3, 2, 1, 0] [(1, .pointer (some ⟨b3, 0, none⟩)), (20, .agg #[ba, a9, aq, a8, an, au, a7, a6, ar, a5, ao]), (21, .func (.func 62) #[] #[]), (23, a9), (25, .func (.func 62) #[] #[]), (27, a8), (29, .func (.func 62) #[] #[]), (31, a7), (33, .func (.func 62) #[] #[]), (35, a6), (37, .func (.func 62) #[] #[]), (39, a5), (42, au), (45, ar), (48, aq), (51, an), (54, ao), (56, .map (some aa))] w := by
    intro aa w H hs
    rw [book_Compile.t10] at H
    refine (bb _ _ _ _ _ _).1 <| D1 4 sh rfl (by kernel_rfl) (fun rb n7 => ?_)
    obtain ⟨ki, lu, H⟩ := bnd H
    refine O_callv rfl rfl rfl (book_Compile_1.c hs jn lu) (fun n8 w hpost => ?_)
    obtain ⟨n9, rc, rfl, j7, hs, oa⟩ := hpost
    refine O_nil (n7 _ _ (fun _ _ => ((hs.less j7).sub (ssk (ssc (ssc ssr))))) <| (OD_land rfl (by kernel_rfl) (OD.weak [(1, _), (20, _), (24, _), (25, _), (27, _), (29, _), (31, _), (33, _), (35, _), (37, _), (39, _), (42, _), (45, _), (48, _), (51, _), (54, _), (56, _)] (by repeat first | exact Sub.nil | refine Sub.cons rfl ?_) ((bb _ _ _ _ _ _).2 (ls ki aa n8 n9 _ H j7 hs oa)))))
   refine (bb _ _ _ _ _ _).1 <| OD_twoS sh (i := 36) (j := 4) rfl rfl (by kernel_rfl) (fun re ob => ?_) (fun rf oc => ?_)
   ·refine O_mapNew kv115.enc (Value.int .i32) hs rfl (fun aa w hs => O_nil (ob _ _ (fun _ _ => (hs.sub (ssk (ssc (ssc ssr))))) <| (OD_land rfl (by kernel_rfl) (OD.weak [(1, _), (20, _), (21, _), (23, _), (25, _), (27, _), (29, _), (31, _), (33, _), (35, _), (37, _), (39, _), (42, _), (45, _), (48, _), (51, _), (54, _), (56, _)] (by repeat first | exact Sub.nil | refine Sub.cons rfl ?_) ((bb _ _ _ _ _ _).2 (n6 aa _ H hs))))))
   ·rw [book_Compile.t10] at H
    obtain ⟨ft, lv, H⟩ := bnd H
    refine O_callv rfl rfl rfl (book_Compile_1.c hs jn lv) (fun fe w hpost => ?_)
    obtain ⟨od, rg, rfl, go, hs, fq⟩ := hpost
    refine O_nil (oc _ _ (fun _ _ => (hs.less go)) <| OD_twoS sh (i := 36) (j := 8) rfl rfl (by kernel_rfl) (fun rh oe => ?_) (fun ri og => ?_))
    ·refine O_mapNew kv115.enc (Value.int .i32) hs rfl (fun aa w hs => O_nil (oe _ _ (fun _ _ => ((hs.less go).sub (ssk (ssc (ssc ssr))))) <| (OD_land rfl (by kernel_rfl) (OD.weak [(1, _), (20, _), (24, _), (25, _), (27, _), (29, _), (31, _), (33, _), (35, _), (37, _), (39, _), (42, _), (45, _), (48, _), (51, _), (54, _), (56, _)] (by repeat first | exact Sub.nil | refine Sub.cons rfl ?_) ((bb _ _ _ _ _ _).2 (ls ft aa fe od _ H go hs fq))))))
    ·rw [book_Compile.t9] at H
     obtain ⟨fz, lw, H⟩ := bnd H
     refine O_callv rfl rfl rfl (book_Compile_1.c hs (jp.mono go) lw) (fun fr w hpost => ?_)
     obtain ⟨oh, rj, rfl, dx, hs, fu⟩ := hpost
     have jc := go.trans dx
     refine O_nil (og _ _ (fun _ _ => (hs.less jc)) <| OD_twoS sh (i := 36) (j := 12) rfl rfl (by kernel_rfl) (fun rk oi => ?_) (fun rl oj => ?_))
     ·refine O_mapNew kv115.enc (Value.int .i32) hs rfl (fun aa w hs => O_nil (oi _ _ (fun _ _ => ((hs.less jc).sub (ssk (ssc (ssc ssr))))) <| (OD_land rfl (by kernel_rfl) (OD.weak [(1, _), (20, _), (24, _), (28, _), (29, _), (31, _), (33, _), (35, _), (37, _), (39, _), (42, _), (45, _), (48, _), (51, _), (54, _), (56, _)] (by repeat first | exact Sub.nil | refine Sub.cons rfl ?_) ((bb _ _ _ _ _ _).2 (lq ft fz aa fe fr oh _ H jc hs (fq.mono dx) fu))))))
     ·rw [book_Compile.t8] at H
      obtain ⟨gp, lx, H⟩ := bnd H
      refine O_callv rfl rfl rfl (book_Compile_1.c hs (jr.mono jc) lx) (fun fv w hpost => ?_)
      obtain ⟨ok, rm, rfl, bo, hs, ga⟩ := hpost
      have jd := jc.trans bo
      refine O_nil (oj _ _ (fun _ _ => (hs.less jd)) <| OD_twoS sh (i := 36) (j := 16) rfl rfl (by kernel_rfl) (fun rn ol => ?_) (fun ro om => ?_))
      ·refine O_mapNew kv115.enc (Value.int .i32) hs rfl (fun aa w hs => O_nil (ol _ _ (fun _ _ => ((hs.less jd).sub (ssk (ssc (ssc ssr))))) <| (OD_land rfl (by kernel_rfl) (OD.weak [(1, _), (20, _), (24, _), (28, _), (32, _), (33, _), (35, _), (37, _), (39, _), (42, _), (45, _), (48, _), (51, _), (54, _), (56, _)] (by repeat first | exact Sub.nil | refine Sub.cons rfl ?_) ((bb _ _ _ _ _ _).2 (ln ft fz gp aa fe fr fv ok _ H jd hs (fq.mono (dx.trans bo)) (fu.mono bo) ga))))))
      ·rw [book_Compile.t7] at H
       obtain ⟨ha, ly, H⟩ := bnd H
       refine O_callv rfl rfl rfl (book_Compile_1.c hs (js.mono jd) ly) (fun gb w hpost => ?_)
       obtain ⟨on, rp, rfl, bh, hs, gq⟩ := hpost
       have je := jd.trans bh
       refine O_nil (om _ _ (fun _ _ => (hs.less je)) <| OD_twoS sh (i := 36) (j := 20) rfl rfl (by kernel_rfl) (fun rq oo => ?_) (fun rr op => ?_))
       ·refine O_mapNew kv115.enc (Value.int .i32) hs rfl (fun aa w hs => O_nil (oo _ _ (fun _ _ => ((hs.less je).sub (ssk (ssc (ssc ssr))))) <| (OD_land rfl (by kernel_rfl) (OD.weak [(1, _), (20, _), (24, _), (28, _), (32, _), (36, _), (37, _), (39, _), (42, _), (45, _), (48, _), (51, _), (54, _), (56, _)] (by repeat first | exact Sub.nil | refine Sub.cons rfl ?_) ((bb _ _ _ _ _ _).2 (ll ft fz gp ha aa fe fr fv gb on _ H je hs (fq.mono ((dx.trans bo).trans bh)) (fu.mono (bo.trans bh)) (ga.mono bh) gq))))))
       ·rw [book_Compile.t6] at H
        obtain ⟨hg, lz, H⟩ := bnd H
        refine O_callv rfl rfl rfl (book_Compile_1.c hs (ju.mono je) lz) (fun gr w hpost => ?_)
        obtain ⟨oq, rs, rfl, bd, hs, hb⟩ := hpost
        have jf := je.trans bd
        refine O_nil (op _ _ (fun _ _ => (hs.less jf)) <| OD_twoS sh (i := 36) (j := 23) rfl rfl (by kernel_rfl) (fun rt os => ?_) (fun ru ot => ?_))
        ·refine O_mapNew kv115.enc (Value.int .i32) hs rfl (fun aa w hs => O_nil (os _ _ (fun _ _ => ((hs.less jf).sub (ssk (ssc (ssc ssr))))) <| (OD_land rfl (by kernel_rfl) (OD.weak [(1, _), (20, _), (24, _), (28, _), (32, _), (36, _), (40, _), (42, _), (45, _), (48, _), (51, _), (54, _), (56, _)] (by repeat first | exact Sub.nil | refine Sub.cons rfl ?_) ((bb _ _ _ _ _ _).2 (lj ft fz gp ha hg aa fe fr fv gb gr oq _ H jf hs (fq.mono (((dx.trans bo).trans bh).trans bd)) (fu.mono ((bo.trans bh).trans bd)) (ga.mono (bh.trans bd)) (gq.mono bd) hb))))))
        ·rw [book_Compile.t5] at H
         obtain ⟨jg, l0, H⟩ := bnd H
         refine O_call rfl rfl (book_marked.c hs (jq.mono jf) l0) (fun hc w hpost => ?_)
         obtain ⟨ou, rv, rfl, bc, hs, hh⟩ := hpost
         have jh := jf.trans bc
         refine O_nil (ot _ _ (fun _ _ => (hs.less jh)) <| OD_twoS sh (i := 36) (j := 26) rfl rfl (by kernel_rfl) (fun rx ov => ?_) (fun ry ow => ?_))
         ·refine O_mapNew kv115.enc (Value.int .i32) hs rfl (fun aa w hs => O_nil (ov _ _ (fun _ _ => ((hs.less jh).sub (ssk (ssc (ssc ssr))))) <| (OD_land rfl (by kernel_rfl) (OD.weak [(1, _), (20, _), (24, _), (28, _), (32, _), (36, _), (40, _), (43, _), (45, _), (48, _), (51, _), (54, _), (56, _)] (by repeat first | exact Sub.nil | refine Sub.cons rfl ?_) ((bb _ _ _ _ _ _).2 (lh ft fz gp ha hg jg aa fe fr fv gb gr hc ou _ H jh hs (fq.mono ((((dx.trans bo).trans bh).trans bd).trans bc)) (fu.mono (((bo.trans bh).trans bd).trans bc)) (ga.mono ((bh.trans bd).trans bc)) (gq.mono (bd.trans bc)) (hb.mono bc) hh))))))
         ·rw [book_Compile.t4] at H
          obtain ⟨j0, l2, H⟩ := bnd H
          refine O_call rfl rfl (book_marked.c hs (jt.mono jh) l2) (fun hj w hpost => ?_)
          obtain ⟨ox, rz, rfl, be, hs, ji⟩ := hpost
          have jj := jh.trans be
          refine O_nil (ow _ _ (fun _ _ => (hs.less jj)) <| OD_twoS sh (i := 36) (j := 29) rfl rfl (by kernel_rfl) (fun r0 oy => ?_) (fun r1 oz => ?_))
          ·refine O_mapNew kv115.enc (Value.int .i32) hs rfl (fun aa w hs => O_nil (oy _ _ (fun _ _ => ((hs.less jj).sub (ssk (ssc (ssc ssr))))) <| (OD_land rfl (by kernel_rfl) (OD.weak [(1, _), (20, _), (24, _), (28, _), (32, _), (36, _), (40, _), (43, _), (46, _), (48, _), (51, _), (54, _), (56, _)] (by repeat first | exact Sub.nil | refine Sub.cons rfl ?_) ((bb _ _ _ _ _ _).2 (lf ft fz gp ha hg jg j0 aa fe fr fv gb gr hc hj ox _ H jj hs (fq.mono (((((dx.trans bo).trans bh).trans bd).trans bc).trans be)) (fu.mono ((((bo.trans bh).trans bd).trans bc).trans be)) (ga.mono (((bh.trans bd).trans bc).trans be)) (gq.mono ((bd.trans bc).trans be)) (hb.mono (bc.trans be)) (hh.mono be) ji))))))
          ·rw [book_Compile.t3] at H
           obtain ⟨kr, l3, H⟩ := bnd H
           refine O_call rfl rfl (book_numbered_api_Chars_fhb.c hs (jo.mono jj) l3) (fun jk w hpost => ?_)
           obtain ⟨o0, r2, rfl, bi, hs, j4⟩ := hpost
           have jl := jj.trans bi
           refine O_nil (oz _ _ (fun _ _ => (hs.less jl)) <| OD_twoS sh (i := 36) (j := 32) rfl rfl (by kernel_rfl) (fun r3 o1 => ?_) (fun r4 o2 => ?_))
           ·refine O_mapNew kv115.enc (Value.int .i32) hs rfl (fun aa w hs => O_nil (o1 _ _ (fun _ _ => ((hs.less jl).sub (ssk (ssc (ssc ssr))))) <| (OD_land rfl (by kernel_rfl) (OD.weak [(1, _), (20, _), (24, _), (28, _), (32, _), (36, _), (40, _), (43, _), (46, _), (49, _), (51, _), (54, _), (56, _)] (by repeat first | exact Sub.nil | refine Sub.cons rfl ?_) ((bb _ _ _ _ _ _).2 (ld ft fz gp ha hg jg j0 kr aa fe fr fv gb gr hc hj jk o0 _ H jl hs (fq.mono ((((((dx.trans bo).trans bh).trans bd).trans bc).trans be).trans bi)) (fu.mono (((((bo.trans bh).trans bd).trans bc).trans be).trans bi)) (ga.mono ((((bh.trans bd).trans bc).trans be).trans bi)) (gq.mono (((bd.trans bc).trans be).trans bi)) (hb.mono ((bc.trans be).trans bi)) (hh.mono (be.trans bi)) (ji.mono bi) j4))))))
           ·rw [book_Compile.t2] at H
            obtain ⟨l4, l5, H⟩ := bnd H
            refine O_call rfl rfl (book_numbered_api_Chars_fhb.c hs (hf.mono jl) l5) (fun j5 w hpost => ?_)
            obtain ⟨o3, r5, rfl, bp, hs, ks⟩ := hpost
            have jm := jl.trans bp
            refine O_nil (o2 _ _ (fun _ _ => (hs.less jm)) <| OD_twoS sh (i := 36) (j := 35) rfl rfl (by kernel_rfl) (fun r6 o4 => ?_) (fun r7 o5 => ?_))
            ·refine O_mapNew kv115.enc (Value.int .i32) hs rfl (fun aa w hs => O_nil (o4 _ _ (fun _ _ => ((hs.less jm).sub (ssk (ssc (ssc ssr))))) <| (OD_land rfl (by kernel_rfl) (OD.weak [(1, _), (20, _), (24, _), (28, _), (32, _), (36, _), (40, _), (43, _), (46, _), (49, _), (52, _), (54, _), (56, _)] (by repeat first | exact Sub.nil | refine Sub.cons rfl ?_) ((bb _ _ _ _ _ _).2 (la ft fz gp ha hg jg j0 kr l4 aa fe fr fv gb gr hc hj jk j5 o3 _ H jm hs (fq.mono (((((((dx.trans bo).trans bh).trans bd).trans bc).trans be).trans bi).trans bp)) (fu.mono ((((((bo.trans bh).trans bd).trans bc).trans be).trans bi).trans bp)) (ga.mono (((((bh.trans bd).trans bc).trans be).trans bi).trans bp)) (gq.mono ((((bd.trans bc).trans be).trans bi).trans bp)) (hb.mono (((bc.trans be).trans bi).trans bp)) (hh.mono ((be.trans bi).trans bp)) (ji.mono (bi.trans bp)) (j4.mono bp) ks))))))
            ·rw [book_Compile.t1] at H
             obtain ⟨o6, l6, H⟩ := bnd H
             refine O_call rfl rfl (book_numbered_api_Chars_fhb.c hs (jv.mono jm) l6) (fun kt w hpost => ?_)
             obtain ⟨o7, r8, rfl, dy, hs, l7⟩ := hpost
             have j6 := jm.trans dy
             refine O_nil (o5 _ _ (fun _ _ => (hs.less j6)) <| D1 36 sh rfl (by kernel_rfl) (fun r9 o8 => O_mapNew kv115.enc (Value.int .i32) hs rfl (fun aa w hs => O_nil (o8 _ _ (fun _ _ => ((hs.less j6).sub (ssk (ssc (ssc ssr))))) <| Dp 37 sh rfl rfl (by kernel_rfl) (fun w => Y_build (cs := [ba, a9, aq, a8, an, au, a7, a6, ar, a5, ao, fe, fr, fv, gb, gr, hc, hj, jk, j5, kt, .map (some aa)]) zr114 pl114 ((Parts.cons rfl rfl (Parts.cons rfl fq.cellsL (Parts.cons rfl fu.cellsL (Parts.cons rfl ga.cellsL (Parts.cons rfl gq.cellsL (Parts.cons rfl hb.cellsL (Parts.cons rfl hh.cellsL (Parts.cons rfl ji.cellsL (Parts.cons rfl j4.cellsL (Parts.cons rfl ks.cellsL (Parts.cons rfl l7.cellsL (Parts.cons rfl rfl Parts.nil))))))))))))) ag114 (by kernel_rfl)) <| D1 38 sh rfl (by kernel_rfl) (fun sa o9 => O_boxN (cs := [ba, a9, aq, a8, an, au, a7, a6, ar, a5, ao, fe, fr, fv, gb, gr, hc, hj, jk, j5, kt, .map (some aa)]) hs rfl rfl (fun bm w hs => O_nil (o9 _ _ (fun _ _ => ((hs.less j6).sub (ssk (ssk (ssc (ssc ssr)))))) <| Dp 39 sh rfl rfl (by kernel_rfl) (fun w => Y_assign rfl) <| OD_doneS sh (by kernel_rfl) (ky _ _ _ (S2 rfl rfl) (kz ft fz gp ha hg jg j0 kr l4 o6 fe fr fv gb gr hc hj jk j5 kt bm aa o7 _ H j6 hs (fq.mono ((((((((dx.trans bo).trans bh).trans bd).trans bc).trans be).trans bi).trans bp).trans dy)) (fu.mono (((((((bo.trans bh).trans bd).trans bc).trans be).trans bi).trans bp).trans dy)) (ga.mono ((((((bh.trans bd).trans bc).trans be).trans bi).trans bp).trans dy)) (gq.mono (((((bd.trans bc).trans be).trans bi).trans bp).trans dy)) (hb.mono ((((bc.trans be).trans bi).trans bp).trans dy)) (hh.mono (((be.trans bi).trans bp).trans dy)) (ji.mono ((bi.trans bp).trans dy)) (j4.mono (bp.trans dy)) (ks.mono dy) l7)))))))))

end Go.Proofs.YthoicbafdanmkaaGreatDoor
/- Written by this repo's gen.py: for each Go function a Lean function with the same answers and the walk that shows it. -/
namespace Go.Proofs.YthoicbafdanmkaaGreatDoor
open Go.RowKit
set_option maxRecDepth 100000
set_option maxHeartbeats 4000000
set_option linter.unusedVariables false
def puny_boot_encode.j1 (b2 : List Int → Int → Option (ByteArray × Int × Int)) (ac : Int) (av : List Int) : Option (ByteArray × Int × Int) := b2 av (IntKind.i64.wrap (ac + 1))
def puny_boot_encode.j2 (x0 : S11) (am : List Int) : Option (ByteArray × Int × Int) := (puny_boot_decode.f x0 (bytesS am)).bind fun ci => (if ci.2.2 ≠ 0 then (some ((⟨#[]⟩ : ByteArray), 0, 142)) else (some (bytesS am, 0, 0)))
def puny_boot_encode.j3 (bw : List Int → Int → Int → Int → Int → Option (ByteArray × Int × Int)) (ad : Int) (an : List Int) (a2 a6 a7 : Int) : Option (ByteArray × Int × Int) := if 2147483647 < a2 then (some ((⟨#[]⟩ : ByteArray), 0, 142)) else (bw an a2 a6 a7 (IntKind.i64.wrap (ad + 1)))
def puny_boot_encode.l1 (bi : List Int → Int → Int → Int → Int → Option (ByteArray × Int × Int)) : Nat → S11 → List Int → List Int → Int → List Int → Int → Int → Int → Int → Option (ByteArray × Int × Int)
  | 0, _, _, _, _, _, _, _, _, _ => none
  | a5 + 1, x0, x1, aa, a4, ab, af, ah, ae, ad => if ad < (x1.length : Int) then (if (0 : Int) ≤ ad ∧ ad < (x1.length : Int) then (if (IntKind.i64.wrap (rd x1 ad)) < a4 then (puny_boot_encode.j3 (puny_boot_encode.l1 bi a5 x0 x1 aa a4) ad ab (IntKind.i64.wrap (af + 1)) ah ae) else (if (IntKind.i64.wrap (rd x1 ad)) = a4 then ((puny_boot_written.f x0 af ah).bind fun bx => (if ab.length + bx.length ≤ most then ((puny_boot_adapted.f x0 af (IntKind.i64.wrap (ae + 1)) (decide (ae = (aa.length : Int)))).bind fun b3 => (puny_boot_encode.j3 (puny_boot_encode.l1 bi a5 x0 x1 aa a4) ad (ab ++ bx) 0 b3 (IntKind.i64.wrap (ae + 1)))) else none)) else (puny_boot_encode.j3 (puny_boot_encode.l1 bi a5 x0 x1 aa a4) ad ab af ah ae))) else none) else (if ae = (x1.length : Int) then (puny_boot_encode.j2 x0 ab) else (if 2147483647 < (IntKind.i64.wrap (af + 1)) then (some ((⟨#[]⟩ : ByteArray), 0, 142)) else (bi ab (IntKind.i64.wrap (a4 + 1)) (IntKind.i64.wrap (af + 1)) ah ae)))
def puny_boot_encode.l2 : Nat → S11 → List Int → List Int → List Int → Int → Int → Int → Int → Option (ByteArray × Int × Int)
  | 0, _, _, _, _, _, _, _, _ => none
  | ba + 1, x0, x1, aa, ag, aq, ar, ax, aj => if aj < (x1.length : Int) then ((puny_next.f x1 aq).bind fun a4 => (if 2147483647 < (IntKind.i64.wrap (ar + (IntKind.i64.wrap ((IntKind.i64.wrap (a4 - aq)) * (IntKind.i64.wrap (aj + 1)))))) then (some ((⟨#[]⟩ : ByteArray), 0, 142)) else (puny_boot_encode.l1 (puny_boot_encode.l2 ba x0 x1 aa) K0 x0 x1 aa a4 ag (IntKind.i64.wrap (ar + (IntKind.i64.wrap ((IntKind.i64.wrap (a4 - aq)) * (IntKind.i64.wrap (aj + 1)))))) ax aj 0))) else (puny_boot_encode.j2 x0 ag)
def puny_boot_encode.j4 (x0 : S11) (x1 aa ak : List Int) : Option (ByteArray × Int × Int) := puny_boot_encode.l2 K0 x0 x1 aa ak x0.first 0 x0.bias (aa.length : Int)
def puny_boot_encode.l3 : Nat → S11 → List Int → List Int → Int → Option (ByteArray × Int × Int)
  | 0, _, _, _, _ => none
  | bj + 1, x0, x1, aa, ac => if ac < (x1.length : Int) then (if (0 : Int) ≤ ac ∧ ac < (x1.length : Int) then ((puny_boot_basic.f x0 (rd x1 ac)).bind fun cj => (if cj = true then (if aa.length + ([IntKind.u8.wrap (rd x1 ac)]).length ≤ most then (puny_boot_encode.j1 (puny_boot_encode.l3 bj x0 x1) ac (aa ++ ([IntKind.u8.wrap (rd x1 ac)]))) else none) else (puny_boot_encode.j1 (puny_boot_encode.l3 bj x0 x1) ac aa))) else none) else (if 0 < (aa.length : Int) then (if aa.length + ([x0.between]).length ≤ most then (puny_boot_encode.j4 x0 x1 aa (aa ++ ([x0.between]))) else none) else (puny_boot_encode.j4 x0 x1 aa aa))
def puny_boot_encode.f (x0 : S11) (x1 : List Int) : Option (ByteArray × Int × Int) := (puny_boot_check.f x0 x1).bind fun dc => (if dc.2 ≠ 0 then (some ((⟨#[]⟩ : ByteArray), dc.1, dc.2)) else (puny_boot_encode.l3 K0 x0 x1 ([] : List Int) 0))
theorem puny_boot_encode.c {w0 w : World} {ρ : Hp} {Γ : List Item} (hs : St w0 ρ (Γ) w) {c0 : List Value} {x0 : S11} (h0 : rS11.R ρ c0 x0) {v1 : Value} {x1 : List Int} (h1 : SlR (Rep.int .i32) ρ v1 x1) {r : ByteArray × Int × Int} (H : puny_boot_encode.f x0 x1 = some r) : CallsR Tryz.prog 70 [.agg c0.toArray, v1] w (fun v w' => v = .tuple #[.string r.1, .int .i64 r.2.1, .int .i64 r.2.2] ∧ St w0 ρ Γ w') := by
  rw [puny_boot_encode.f] at H
  refine enter Tryz.func70 Tryz.ntmps70 rfl (by kernel_rfl) rfl ?_
  have fj := h0
  obtain rfl := fj
  refine Wr fun iu fk => O_boxN (cs := [.int .i64 x0.base, .int .i64 x0.least, .int .i64 x0.most, .int .i64 x0.skew, .int .i64 x0.damp, .int .i64 x0.bias, .int .i64 x0.first, .int .u8 x0.between]) hs rfl rfl (fun bl w hs => Oa rfl rfl <| Oa rfl rfl <| Oa rfl rfl <| O_nil (fk _ _ <| W_seq fun iv fl => Wr fun iw fm => O_y rfl (Y_loadbN (i := 0) ag117 sz117 hs rfl rfl rfl rfl) <| Om rfl rfl ?_))
  obtain ⟨dc, dd, H⟩ := bnd H
  refine O_call rfl rfl (puny_boot_check.c hs h0 h1 dd) (fun iy w hpost => ?_)
  obtain ⟨rfl, hs⟩ := hpost
  refine Om rfl rfl <| O_y rfl (Y_extract rfl rfl) <| O_y rfl (Y_extract rfl rfl) <| Oa rfl rfl <| Oa rfl rfl <| O_nil (fm _ _ <| Wr fun iz fn => Om rfl rfl <| O_y rfl (Y_neq rfl rfl) <| O_nil (fn _ _ <| W.weak [(1, _), (2, _), (7, _), (8, _), (31, _)] (by repeat first | exact Sub.nil | refine Sub.cons rfl ?_) ?_))
  refine W_if rfl (fun de => ?_) (fun de => ?_)
  ·rw [if_pos de] at H
   refine Wr fun ja fo => Om rfl rfl <| Om rfl rfl <| Oa rfl rfl <| Oa rfl rfl <| Oa rfl rfl <| O_nil (fo _ _ <| W_ret ?_)
   obtain rfl := sinj H
   exact ret3 rfl rfl rfl rfl ⟨rfl, (hs.sub (ssk ssr))⟩
  ·rw [if_neg de] at H
   refine W_skip (fl _ _ <| Wr fun jb fp => Oa rfl rfl ?_)
   have hs := hs.rowNil 5 (Rep.int .u8).sz
   have fq := RowR.nil (Rep.int .u8) ρ
   refine O_nil (fp _ _ <| W_seq fun jc fr => Wr fun jd fs => Om rfl rfl <| O_y rfl (Y_lenR un28 h1 rfl) <| Om rfl rfl <| O_nil (fs _ _ <| W_block fun je ft jf => W_loop (σ := Nat × List Int × Int × Value × List Value) (fun (bj, aa, ac, aw, ay) => [(1, v1), (2, .pointer (some ⟨bl, 0, none⟩)), (9, aw), (34, v1), (35, .int .i64 (x1.length : Int)), (36, .int .i64 ac)]) (fun (bj, aa, ac, aw, ay) w => puny_boot_encode.l3 bj x0 x1 aa ac = some r ∧ St w0 ρ ((.row aw 5 ((Rep.int .u8).sz) aa.length ay) :: (.box bl 117 ([.int .i64 x0.base, .int .i64 x0.least, .int .i64 x0.most, .int .i64 x0.skew, .int .i64 x0.damp, .int .i64 x0.bias, .int .i64 x0.first, .int .u8 x0.between])) :: Γ) w ∧ RowR (Rep.int .u8) ρ ay aa) (fun s => s.1) (K0, ([] : List Int), 0, (.slice none 0 0), ([])) (by repeat first | exact Sub.nil | refine Sub.cons rfl ?_) (Ai H (Ai hs fq)) ?_))
   rintro ⟨bj, aa, ac, aw, ay⟩ w jg ⟨H, hs, bc⟩ b4
   show W _ _ _ _ _ _ [(1, v1), (2, .pointer (some ⟨bl, 0, none⟩)), (9, aw), (34, v1), (35, .int .i64 (x1.length : Int)), (36, .int .i64 ac)] w
   cases bj with
   | zero => rw [puny_boot_encode.l3] at H; cases H
   | succ bj =>
   rw [puny_boot_encode.l3] at H
   refine Wr fun jh fu => O_y rfl (Y_lss rfl rfl) <| O_nil (fu _ _ <| W_seq fun ji fv => W_if rfl (fun df => ?_) (fun df => ?_))
   ·rw [if_pos df] at H
    refine W_skip (fv _ _ <| W_seqj fun fw fx fe => ?_)
    have ff : ∀ (av : List Int) (bd : Value) (be : List Value) (w : World), puny_boot_encode.j1 (puny_boot_encode.l3 bj x0 x1) ac av = some r → St w0 ρ ((.row bd 5 ((Rep.int .u8).sz) av.length be) :: (.box bl 117 ([.int .i64 x0.base, .int .i64 x0.least, .int .i64 x0.most, .int .i64 x0.skew, .int .i64 x0.damp, .int .i64 x0.bias, .int .i64 x0.first, .int .u8 x0.between])) :: Γ) w → RowR (Rep.int .u8) ρ be av → fw [(1, v1), (2, .pointer (some ⟨bl, 0, none⟩)), (9, bd), (34, v1), (35, .int .i64 (x1.length : Int)), (36, .int .i64 ac)] w := by
     intro av bd be w H hs bs
     rw [puny_boot_encode.j1] at H
     refine fx _ _ <| W_region <| O_y rfl (Y_add rfl rfl) <| Om rfl rfl <| O_nil (b4 (bj, av, (IntKind.i64.wrap (ac + 1)), bd, be) _ _ (by repeat first | exact Sub.nil | refine Sub.cons rfl ?_) (Ai H (Ai hs bs)) (Nat.lt_succ_self _))
    refine W_block fun jj jk jl => W_seq fun jm fy => W_region ?_
    obtain ⟨fg, H⟩ := gd H
    obtain ⟨jn, jo, fz, ga⟩ := h1.ix el28 fg.1 fg.2
    refine O_y rfl (ga rfl rfl) <| O_y rfl (Y_load ag21 rfl (hs.see fz.int)) <| Oa rfl rfl <| O_nil (fy _ _ <| Wr fun gb dg => O_y rfl (Y_loadbN (i := 1) ag117 sz117 hs rfl rfl rfl rfl) <| Om rfl rfl ?_)
    obtain ⟨cj, ck, H⟩ := bnd H
    refine O_call rfl rfl (puny_boot_basic.c hs h0 ck) (fun gc w hpost => ?_)
    obtain ⟨rfl, hs⟩ := hpost
    refine O_nil (dg _ _ <| W_cond rfl (fun b5 => ?_) (fun b5 => ?_))
    ·rw [if_pos b5] at H
     refine W_region <| Om rfl rfl <| Om rfl rfl <| O_y rfl (Y_conv un21 un5 rfl) <| O_lit2 (xs := [.tmp 45]) (cs := [.int .u8 (IntKind.u8.wrap (rd x1 ac))]) el72 hs rfl rfl rfl (by decide) (by decide) rfl (sz_cons rfl sz_nil) (flat_cons rfl flat_nil) (fun ge w hs => ?_)
     have cl : RowR (Rep.int .u8) ρ ([.int .u8 (IntKind.u8.wrap (rd x1 ac))]) [IntKind.u8.wrap (rd x1 ac)] := RowR.cons (c := [.int .u8 (IntKind.u8.wrap (rd x1 ac))]) (x := IntKind.u8.wrap (rd x1 ac)) rfl (RowR.nil _ _)
     obtain ⟨dh, H⟩ := gd H
     refine O_appendR (i := 1) el72 hs rfl bc rfl rfl rfl (Src.lit (j := 0) hs rfl cl) cl dh (fun di cm w dj hs => Oa rfl rfl <| O_nil (fe _ _ _ (by repeat first | exact Sub.nil | refine Sub.cons rfl ?_) (ff (aa ++ ([IntKind.u8.wrap (rd x1 ac)])) di cm _ H (hs.sub (ssk (ssc (ssc ssr)))) dj)))
    ·rw [if_neg (bft b5)] at H
     exact W_skip (fe _ _ _ (by repeat first | exact Sub.nil | refine Sub.cons rfl ?_) (ff aa aw ay _ H hs bc))
   ·rw [if_neg df] at H
    refine W_exit (ft _ _ (fr _ _ <| Wr fun gf dk => Om rfl rfl <| O_y rfl (Y_lenRow (i := 0) un72 hs rfl rfl) <| Oa rfl rfl <| O_nil (dk _ _ <| W_seqj fun dl dm cn => ?_)))
    have co : ∀ (ak : List Int) (az : Value) (a0 : List Value) (w : World), puny_boot_encode.j4 x0 x1 aa ak = some r → St w0 ρ ((.row az 5 ((Rep.int .u8).sz) ak.length a0) :: (.box bl 117 ([.int .i64 x0.base, .int .i64 x0.least, .int .i64 x0.most, .int .i64 x0.skew, .int .i64 x0.damp, .int .i64 x0.bias, .int .i64 x0.first, .int .u8 x0.between])) :: Γ) w → RowR (Rep.int .u8) ρ a0 ak → dl [(1, v1), (2, .pointer (some ⟨bl, 0, none⟩)), (9, az), (12, .int .i64 (aa.length : Int))] w := by
     intro ak az a0 w H hs bp
     rw [puny_boot_encode.j4] at H
     refine dm _ _ <| W_seq fun gg dn => W_drawS 7 [0, 1, 0, 4, 3, 19, 63] [12, 12, 51, 51, 12, 12, 0] [0, 1, 0, 4, 3, 19, 63] [] (fun w => St w0 ρ ((.row az 5 ((Rep.int .u8).sz) ak.length a0) :: (.box bl 117 ([.int .i64 x0.base, .int .i64 x0.least, .int .i64 x0.most, .int .i64 x0.skew, .int .i64 x0.damp, .int .i64 x0.bias, .int .i64 x0.first, .int .u8 x0.between])) :: Γ) w) mixed (by kernel_rfl) (fun sh => ?_)
     have hs := hs.drew
     refine Dp 0 sh rfl rfl (by kernel_rfl) (fun w => Y_field fo117_6 rfl) <| Dy 1 sh rfl rfl (by kernel_rfl) hs (fun w hs => Yb 1 ag3 hs rfl rfl rfl) <| Dp 2 sh rfl rfl (by kernel_rfl) (fun w => Y_field fo117_5 rfl) <| Dy 3 sh rfl rfl (by kernel_rfl) hs (fun w hs => Yb 1 ag3 hs rfl rfl rfl) <| Dp 4 sh rfl rfl (by kernel_rfl) (fun w => Y_assign rfl) <| Dp 5 sh rfl rfl (by kernel_rfl) (fun w => Y_assign rfl) <| Dp 6 sh rfl rfl (by kernel_rfl) (fun w => Y_assign rfl) <| OD_doneS sh (by kernel_rfl) (dn _ _ <| W_seqj fun dp dq cp => ?_)
     have cq : ∀ (am : List Int) (bf : Value) (bg : List Value) (bo : Hp) (w : World), puny_boot_encode.j2 x0 am = some r → Le ρ bo → St w0 bo ((.row bf 5 ((Rep.int .u8).sz) am.length bg) :: (.box bl 117 ([.int .i64 x0.base, .int .i64 x0.least, .int .i64 x0.most, .int .i64 x0.skew, .int .i64 x0.damp, .int .i64 x0.bias, .int .i64 x0.first, .int .u8 x0.between])) :: Γ) w → RowR (Rep.int .u8) bo bg am → dp [(2, .pointer (some ⟨bl, 0, none⟩)), (9, bf)] w := by
      intro am bf bg bo w H bn hs bq
      rw [puny_boot_encode.j2] at H
      refine dq _ _ <| Wr fun gh dr => Om rfl rfl ?_
      obtain ⟨gi, bt, hs, ds⟩ := hs.rowEnd (j := 0) bq rfl
      refine O_y rfl (Y_sbytes un72 un5 un9 hs ds rfl) <| Oa rfl rfl <| O_nil (dr _ _ <| W_seq fun gj dt => Wr fun gk du => O_y rfl (Y_loadbN (i := 0) ag117 sz117 hs rfl rfl rfl rfl) <| Om rfl rfl ?_)
      obtain ⟨ci, cr, H⟩ := bnd H
      refine O_call rfl rfl (puny_boot_decode.c hs (rS11.mono (bn.trans bt) h0) cr) (fun gl w hpost => ?_)
      obtain ⟨gm, gn, fh, rfl, b1, hs, go⟩ := hpost
      refine Om rfl rfl <| O_y rfl (Y_extract rfl rfl) <| O_y rfl (Y_extract rfl rfl) <| O_y rfl (Y_extract rfl rfl) <| Oa rfl rfl <| Oa rfl rfl <| Oa rfl rfl <| O_nil (du _ _ <| W.weak [(20, _), (23, _)] (S2 rfl rfl) <| Wr fun gp dv => Om rfl rfl <| O_y rfl (Y_neq rfl rfl) <| O_nil (dv _ _ ?_))
      refine W_if rfl (fun b6 => ?_) (fun b6 => ?_)
      ·rw [if_pos b6] at H
       refine Wr fun gq dw => Oa rfl rfl <| Oa rfl rfl <| Oa rfl rfl <| O_nil (dw _ _ <| W_ret ?_)
       obtain rfl := sinj H
       exact ret3 rfl rfl rfl rfl ⟨rfl, ((hs.sub (ssk (ssk ssr))).less ((bn.trans bt).trans b1))⟩
      ·rw [if_neg b6] at H
       refine W_skip (dt _ _ <| Wr fun gr dx => Om rfl rfl <| Oa rfl rfl <| Oa rfl rfl <| Oa rfl rfl <| O_nil (dx _ _ <| W_ret ?_))
       obtain rfl := sinj H
       exact ret3 rfl rfl rfl rfl ⟨rfl, ((hs.sub (ssk (ssk ssr))).less ((bn.trans bt).trans b1))⟩
     refine Wr fun gs dy => Om rfl rfl <| Oa rfl rfl <| O_nil (dy _ _ <| W_block fun gt ct gu => W_loop (σ := Nat × List Int × Int × Int × Int × Int × Value × List Value × Hp) (fun (ba, ag, aq, ar, ax, aj, ao, au, bh) => [(1, v1), (2, .pointer (some ⟨bl, 0, none⟩)), (9, ao), (12, .int .i64 (aa.length : Int)), (13, .int .i64 aq), (14, .int .i64 ar), (15, .int .i64 ax), (16, .int .i64 aj)]) (fun (ba, ag, aq, ar, ax, aj, ao, au, bh) w => puny_boot_encode.l2 ba x0 x1 aa ag aq ar ax aj = some r ∧ Le ρ bh ∧ St w0 bh ((.row ao 5 ((Rep.int .u8).sz) ag.length au) :: (.box bl 117 ([.int .i64 x0.base, .int .i64 x0.least, .int .i64 x0.most, .int .i64 x0.skew, .int .i64 x0.damp, .int .i64 x0.bias, .int .i64 x0.first, .int .u8 x0.between])) :: Γ) w ∧ RowR (Rep.int .u8) bh au ag) (fun s => s.1) (K0, ak, x0.first, 0, x0.bias, (aa.length : Int), az, a0, ρ) (by repeat first | exact Sub.nil | refine Sub.cons rfl ?_) (Ai H (Ai (Le.rfl' _) (Ai hs bp))) ?_)
     rintro ⟨ba, ag, aq, ar, ax, aj, ao, au, bh⟩ w gv ⟨H, ap, hs, bk⟩ bz
     show W _ _ _ _ _ _ [(1, v1), (2, .pointer (some ⟨bl, 0, none⟩)), (9, ao), (12, .int .i64 (aa.length : Int)), (13, .int .i64 aq), (14, .int .i64 ar), (15, .int .i64 ax), (16, .int .i64 aj)] w
     cases ba with
     | zero => rw [puny_boot_encode.l2] at H; cases H
     | succ ba =>
     rw [puny_boot_encode.l2] at H
     refine W_seq fun gw dz => Wr fun gx ea => Om rfl rfl <| Om rfl rfl <| O_y rfl (Y_lenR un28 (h1.mono ap) rfl) <| O_y rfl (Y_lss rfl rfl) <| O_nil (ea _ _ <| W_if rfl (fun b7 => ?_) (fun b7 => ?_))
     ·rw [if_pos b7] at H
      refine W_skip (dz _ _ <| W_block fun gy gz eb => Wr fun ha ec => Om rfl rfl <| Om rfl rfl ?_)
      obtain ⟨a4, cu, H⟩ := bnd H
      refine O_call rfl rfl (puny_next.c hs (h1.mono ap) cu) (fun hb w hpost => ?_)
      obtain ⟨rfl, hs⟩ := hpost
      refine Oa rfl rfl <| O_nil (ec _ _ <| W.weak [(1, _), (2, _), (9, _), (12, _), (13, _), (14, _), (15, _), (16, _), (17, _)] (by repeat first | exact Sub.nil | refine Sub.cons rfl ?_) ?_)
      refine Wr fun hc ed => Om rfl rfl <| Om rfl rfl <| Om rfl rfl <| O_y rfl (Y_sub rfl rfl) <| Om rfl rfl <| O_y rfl (Y_add rfl rfl) <| O_y rfl (Y_mul rfl rfl) <| O_y rfl (Y_add rfl rfl) <| Oa rfl rfl <| O_nil (ed _ _ <| W.weak [(1, _), (2, _), (9, _), (12, _), (14, _), (15, _), (16, _), (17, _)] (by repeat first | exact Sub.nil | refine Sub.cons rfl ?_) ?_)
      refine W_seq fun hd ee => Wr fun he ef => Om rfl rfl <| O_y rfl (Y_gtr rfl rfl) <| O_nil (ef _ _ <| W_if rfl (fun b8 => ?_) (fun b8 => ?_))
      ·rw [if_pos b8] at H
       refine Wr fun hf eg => Oa rfl rfl <| Oa rfl rfl <| Oa rfl rfl <| O_nil (eg _ _ <| W_ret ?_)
       obtain rfl := sinj H
       exact ret3 rfl rfl rfl rfl ⟨rfl, ((hs.sub (ssk (ssk ssr))).less ap)⟩
      ·rw [if_neg b8] at H
       refine W_skip (ee _ _ <| Wr fun hg eh => Om rfl rfl <| Oa rfl rfl <| O_nil (eh _ _ <| W_seq fun hh ei => Wr fun hi ej => Om rfl rfl <| O_y rfl (Y_lenR un28 (h1.mono ap) rfl) <| Om rfl rfl <| O_nil (ej _ _ <| W.weak [(1, _), (2, _), (9, _), (12, _), (13, _), (14, _), (15, _), (16, _), (81, _), (82, _), (83, _)] (by repeat first | exact Sub.nil | refine Sub.cons rfl ?_) ?_)))
       refine W_block fun hj ek hk => W_loop (σ := Nat × List Int × Int × Int × Int × Int × Value × List Value × Hp) (fun (a5, ab, af, ah, ae, ad, ai, al, bb) => [(1, v1), (2, .pointer (some ⟨bl, 0, none⟩)), (9, ai), (12, .int .i64 (aa.length : Int)), (13, .int .i64 a4), (14, .int .i64 af), (15, .int .i64 ah), (16, .int .i64 ae), (81, v1), (82, .int .i64 (x1.length : Int)), (83, .int .i64 ad)]) (fun (a5, ab, af, ah, ae, ad, ai, al, bb) w => puny_boot_encode.l1 (puny_boot_encode.l2 ba x0 x1 aa) a5 x0 x1 aa a4 ab af ah ae ad = some r ∧ Le bh bb ∧ St w0 bb ((.row ai 5 ((Rep.int .u8).sz) ab.length al) :: (.box bl 117 ([.int .i64 x0.base, .int .i64 x0.least, .int .i64 x0.most, .int .i64 x0.skew, .int .i64 x0.damp, .int .i64 x0.bias, .int .i64 x0.first, .int .u8 x0.between])) :: Γ) w ∧ RowR (Rep.int .u8) bb al ab) (fun s => s.1) (K0, ag, (IntKind.i64.wrap (ar + (IntKind.i64.wrap ((IntKind.i64.wrap (a4 - aq)) * (IntKind.i64.wrap (aj + 1)))))), ax, aj, 0, ao, au, bh) (by repeat first | exact Sub.nil | refine Sub.cons rfl ?_) (Ai H (Ai (Le.rfl' _) (Ai hs bk))) ?_
       rintro ⟨a5, ab, af, ah, ae, ad, ai, al, bb⟩ w hl ⟨H, a3, hs, a1⟩ b0
       show W _ _ _ _ _ _ [(1, v1), (2, .pointer (some ⟨bl, 0, none⟩)), (9, ai), (12, .int .i64 (aa.length : Int)), (13, .int .i64 a4), (14, .int .i64 af), (15, .int .i64 ah), (16, .int .i64 ae), (81, v1), (82, .int .i64 (x1.length : Int)), (83, .int .i64 ad)] w
       cases a5 with
       | zero => rw [puny_boot_encode.l1] at H; cases H
       | succ a5 =>
       rw [puny_boot_encode.l1] at H
       refine Wr fun hm el => O_y rfl (Y_lss rfl rfl) <| O_nil (el _ _ <| W_seq fun hn em => W_if rfl (fun b9 => ?_) (fun b9 => ?_))
       ·rw [if_pos b9] at H
        refine W_skip (em _ _ <| W_seq fun ho en => W_block fun hp hq hr => W_seq fun ht eo => W_region ?_)
        obtain ⟨cv, H⟩ := gd H
        obtain ⟨hu, hv, ep, eq⟩ := (h1.mono (ap.trans a3)).ix el28 cv.1 cv.2
        refine O_y rfl (eq rfl rfl) <| O_y rfl (Y_load ag21 rfl (hs.see ep.int)) <| Oa rfl rfl <| O_nil (eo _ _ <| W.weak [(1, _), (2, _), (9, _), (12, _), (13, _), (14, _), (15, _), (16, _), (19, _), (81, _), (82, _), (83, _)] (by repeat first | exact Sub.nil | refine Sub.cons rfl ?_) ?_)
        refine W_seqj fun er es ca => ?_
        have cb : ∀ (an : List Int) (a2 a6 a7 : Int) (a8 : Value) (a9 : List Value) (bm : Hp) (w : World), puny_boot_encode.j3 (puny_boot_encode.l1 (puny_boot_encode.l2 ba x0 x1 aa) a5 x0 x1 aa a4) ad an a2 a6 a7 = some r → Le bb bm → St w0 bm ((.row a8 5 ((Rep.int .u8).sz) an.length a9) :: (.box bl 117 ([.int .i64 x0.base, .int .i64 x0.least, .int .i64 x0.most, .int .i64 x0.skew, .int .i64 x0.damp, .int .i64 x0.bias, .int .i64 x0.first, .int .u8 x0.between])) :: Γ) w → RowR (Rep.int .u8) bm a9 an → er [(1, v1), (2, .pointer (some ⟨bl, 0, none⟩)), (9, a8), (12, .int .i64 (aa.length : Int)), (13, .int .i64 a4), (14, .int .i64 a2), (15, .int .i64 a6), (16, .int .i64 a7), (81, v1), (82, .int .i64 (x1.length : Int)), (83, .int .i64 ad)] w := by
         intro an a2 a6 a7 a8 a9 bm w H bu hs br
         rw [puny_boot_encode.j3] at H
         refine es _ _ <| Wr fun hw et => Om rfl rfl <| O_y rfl (Y_gtr rfl rfl) <| O_nil (et _ _ <| W_if rfl (fun cc => ?_) (fun cc => ?_))
         ·rw [if_pos cc] at H
          refine Wr fun hx eu => Oa rfl rfl <| Oa rfl rfl <| Oa rfl rfl <| O_nil (eu _ _ <| W.weak [(4, _), (5, _), (6, _)] (S3 rfl rfl rfl) <| W_ret ?_)
          obtain rfl := sinj H
          exact ret3 rfl rfl rfl rfl ⟨rfl, ((hs.sub (ssk (ssk ssr))).less ((ap.trans a3).trans bu))⟩
         ·rw [if_neg cc] at H
          refine W_skip (en _ _ <| W_region <| O_y rfl (Y_add rfl rfl) <| Om rfl rfl <| O_nil (b0 (a5, an, a2, a6, a7, (IntKind.i64.wrap (ad + 1)), a8, a9, bm) _ _ (by repeat first | exact Sub.nil | refine Sub.cons rfl ?_) (Ai H (Ai (a3.trans bu) (Ai hs br))) (Nat.lt_succ_self _)))
        refine W_block fun hy hz ia => Wr fun ib ev => Om rfl rfl <| O_y rfl (Y_conv un21 un3 rfl) <| Om rfl rfl <| O_y rfl (Y_lss rfl rfl) <| Oa rfl rfl <| O_nil (ev _ _ <| W.weak [(1, _), (2, _), (9, _), (12, _), (13, _), (14, _), (15, _), (16, _), (19, _), (81, _), (82, _), (83, _), (87, _)] (by repeat first | exact Sub.nil | refine Sub.cons rfl ?_) ?_)
        refine W_if rfl (fun cd => ?_) (fun cd => ?_)
        ·rw [if_pos cd] at H
         refine W_region <| Om rfl rfl <| O_y rfl (Y_add rfl rfl) <| Oa rfl rfl <| O_nil (ca _ _ _ (by repeat first | exact Sub.nil | refine Sub.cons rfl ?_) (cb ab (IntKind.i64.wrap (af + 1)) ah ae ai al bb _ H (Le.rfl' _) hs a1))
        ·rw [if_neg cd] at H
         refine Wr fun ic ew => Om rfl rfl <| O_y rfl (Y_conv un21 un3 rfl) <| Om rfl rfl <| O_y rfl (Y_eql rfl rfl) <| Oa rfl rfl <| O_nil (ew _ _ <| W.weak [(1, _), (2, _), (9, _), (12, _), (13, _), (14, _), (15, _), (16, _), (81, _), (82, _), (83, _), (94, _)] (by repeat first | exact Sub.nil | refine Sub.cons rfl ?_) ?_)
         refine W_if rfl (fun ce => ?_) (fun ce => ?_)
         ·rw [if_pos ce] at H
          refine Wr fun id ex => Om rfl rfl <| O_y rfl (Y_loadbN (i := 1) ag117 sz117 hs rfl rfl rfl rfl) <| Om rfl rfl <| Om rfl rfl ?_
          obtain ⟨bx, cw, H⟩ := bnd H
          refine O_call rfl rfl (puny_boot_written.c hs (rS11.mono (ap.trans a3) h0) cw) (fun ie w hpost => ?_)
          obtain ⟨ey, ig, fi, rfl, bv, hs, cx⟩ := hpost
          obtain ⟨ez, H⟩ := gd H
          refine O_appendR (i := 1) el72 hs rfl (a1.mono bv) rfl rfl rfl (Src.lit (j := 0) hs rfl cx) cx ez (fun e0 cy w e1 hs => Oa rfl rfl <| O_nil (ex _ _ <| W.weak [(1, _), (2, _), (9, _), (12, _), (13, _), (14, _), (16, _), (81, _), (82, _), (83, _)] (by repeat first | exact Sub.nil | refine Sub.cons rfl ?_) ?_))
          refine Wr fun ih e2 => O_y rfl (Y_loadbN (i := 2) ag117 sz117 hs rfl rfl rfl rfl) <| Om rfl rfl <| Om rfl rfl <| O_y rfl (Y_add rfl rfl) <| Om rfl rfl <| Om rfl rfl <| O_y rfl (Y_eql rfl rfl) ?_
          obtain ⟨b3, cz, H⟩ := bnd H
          refine O_call rfl rfl (puny_boot_adapted.c hs (rS11.mono ((ap.trans a3).trans bv) h0) cz) (fun ii w hpost => ?_)
          obtain ⟨rfl, hs⟩ := hpost
          refine Oa rfl rfl <| O_nil (e2 _ _ <| W.weak [(1, _), (2, _), (9, _), (12, _), (13, _), (15, _), (16, _), (81, _), (82, _), (83, _)] (by repeat first | exact Sub.nil | refine Sub.cons rfl ?_) ?_)
          refine Wr fun ij e3 => Oa rfl rfl <| O_nil (e3 _ _ <| W_region <| Om rfl rfl <| O_y rfl (Y_add rfl rfl) <| Oa rfl rfl <| O_nil (ca _ _ _ (by repeat first | exact Sub.nil | refine Sub.cons rfl ?_) (cb (ab ++ bx) 0 b3 (IntKind.i64.wrap (ae + 1)) e0 cy ey _ H bv (hs.sub (ssk (ssc (ssc ssr)))) e1)))
         ·rw [if_neg ce] at H
          exact W_skip (ca _ _ _ (by repeat first | exact Sub.nil | refine Sub.cons rfl ?_) (cb ab af ah ae ai al bb _ H (Le.rfl' _) hs a1))
       ·rw [if_neg b9] at H
        refine W_exit (ek _ _ (ei _ _ <| W_seq fun ik e4 => Wr fun il e5 => Om rfl rfl <| Om rfl rfl <| O_y rfl (Y_lenR un28 (h1.mono (ap.trans a3)) rfl) <| O_y rfl (Y_eql rfl rfl) <| O_nil (e5 _ _ <| W.weak [(1, _), (2, _), (9, _), (12, _), (13, _), (14, _), (15, _), (16, _), (121, _)] (by repeat first | exact Sub.nil | refine Sub.cons rfl ?_) ?_)))
        refine W_if rfl (fun cf => ?_) (fun cf => ?_)
        ·rw [if_pos cf] at H
         exact W_exit (eb _ _ _ rfl (ct _ _ (cp _ _ _ (S2 rfl rfl) (cq ab ai al bb _ H (ap.trans a3) hs a1))))
        ·rw [if_neg cf] at H
         refine W_skip (e4 _ _ <| Wr fun im e6 => Om rfl rfl <| O_y rfl (Y_add rfl rfl) <| Oa rfl rfl <| O_nil (e6 _ _ <| Wr fun io e7 => Om rfl rfl <| O_y rfl (Y_add rfl rfl) <| Oa rfl rfl <| O_nil (e7 _ _ <| W_seq fun ip e8 => ?_)))
         refine W_region <| Om rfl rfl <| O_y rfl (Y_gtr rfl rfl) <| O_nil (e8 _ _ <| W.weak [(1, _), (2, _), (9, _), (12, _), (13, _), (14, _), (15, _), (16, _), (127, _)] (by repeat first | exact Sub.nil | refine Sub.cons rfl ?_) ?_)
         refine W_if rfl (fun cg => ?_) (fun cg => ?_)
         ·rw [if_pos cg] at H
          refine Wr fun iq e9 => Oa rfl rfl <| Oa rfl rfl <| Oa rfl rfl <| O_nil (e9 _ _ <| W_ret ?_)
          obtain rfl := sinj H
          exact ret3 rfl rfl rfl rfl ⟨rfl, ((hs.sub (ssk (ssk ssr))).less (ap.trans a3))⟩
         ·rw [if_neg cg] at H
          exact W_skip (bz (ba, ab, (IntKind.i64.wrap (a4 + 1)), (IntKind.i64.wrap (af + 1)), ah, ae, ai, al, bb) _ _ (by repeat first | exact Sub.nil | refine Sub.cons rfl ?_) (Ai H (Ai (ap.trans a3) (Ai hs a1))) (Nat.lt_succ_self _))
     ·rw [if_neg b7] at H
      exact W_exit (ct _ _ (cp _ _ _ (S2 rfl rfl) (cq ag ao au bh _ H ap hs bk)))
    refine Wr fun ir fa => Om rfl rfl <| O_y rfl (Y_gtr rfl rfl) <| O_nil (fa _ _ <| W_if rfl (fun ch => ?_) (fun ch => ?_))
    ·rw [if_pos ch] at H
     refine W_region <| Om rfl rfl <| O_y rfl (Y_field fo117_7 rfl) <| O_y rfl (Yb 1 ag5 hs rfl rfl rfl) <| O_lit2 (xs := [.tmp 55]) (cs := [.int .u8 x0.between]) el72 hs rfl rfl rfl (by decide) (by decide) rfl (sz_cons rfl sz_nil) (flat_cons rfl flat_nil) (fun it w hs => ?_)
     have da : RowR (Rep.int .u8) ρ ([.int .u8 x0.between]) [x0.between] := RowR.cons (c := [.int .u8 x0.between]) (x := x0.between) rfl (RowR.nil _ _)
     obtain ⟨fb, H⟩ := gd H
     refine O_appendR (i := 1) el72 hs rfl bc rfl rfl rfl (Src.lit (j := 0) hs rfl da) da fb (fun fc db w fd hs => Oa rfl rfl <| O_nil (cn _ _ _ (S4 rfl rfl rfl rfl) (co (aa ++ ([x0.between])) fc db _ H (hs.sub (ssk (ssc (ssc ssr)))) fd)))
    ·rw [if_neg ch] at H
     exact W_skip (cn _ _ _ (S4 rfl rfl rfl rfl) (co aa aw ay _ H hs bc))

def puny_Encode.f (x0 : List Int) : Option (ByteArray × Int × Int) := (puny_Usual.f).bind fun ae => ((puny_boot_encode.f ae x0).bind fun ab => (some (ab.1, ab.2.1, ab.2.2)))
theorem puny_Encode.c {w0 w : World} {ρ : Hp} {Γ : List Item} (hs : St w0 ρ (Γ) w) {v0 : Value} {x0 : List Int} (h0 : SlR (Rep.int .i32) ρ v0 x0) {r : ByteArray × Int × Int} (H : puny_Encode.f x0 = some r) : CallsR Tryz.prog 29 [v0] w (fun v w' => v = .tuple #[.string r.1, .int .i64 r.2.1, .int .i64 r.2.2] ∧ St w0 ρ Γ w') := by
  rw [puny_Encode.f] at H
  refine enter Tryz.func29 Tryz.ntmps29 rfl (by kernel_rfl) rfl <| Wr fun ak ag => Oa rfl rfl <| Oa rfl rfl <| Oa rfl rfl <| O_nil (ag _ _ <| W_seq fun al ah => W_region ?_)
  obtain ⟨ae, ac, H⟩ := bnd H
  refine O_call rfl rfl (puny_Usual.c hs ac) (fun am w hpost => ?_)
  obtain ⟨an, ai, rfl, aa, hs, af⟩ := hpost
  have aj := af
  obtain rfl := aj
  refine Om rfl rfl ?_
  obtain ⟨ab, ad, H⟩ := bnd H
  refine O_call rfl rfl (puny_boot_encode.c hs af (h0.mono aa) ad) (fun ao w hpost => ?_)
  obtain ⟨rfl, hs⟩ := hpost
  refine O_y rfl (Y_extract rfl rfl) <| O_y rfl (Y_extract rfl rfl) <| O_y rfl (Y_extract rfl rfl) <| Oa rfl rfl <| Oa rfl rfl <| Oa rfl rfl <| O_nil (ah _ _ <| W_ret ?_)
  obtain rfl := sinj H
  exact ret3 rfl rfl rfl rfl ⟨rfl, (hs.less aa)⟩

def label_ASCII.f (x0 : List Int) : Option (ByteArray × Int × Int) := (label_plain.f x0).bind fun af => (if af = true then (some (runesBytes x0, 0, 0)) else ((puny_Encode.f x0).bind fun aa => (if aa.2.2 ≠ 0 then (some ((⟨#[]⟩ : ByteArray), aa.2.1, aa.2.2)) else (if (⟨#[120, 110, 45, 45]⟩ : ByteArray).size + aa.1.size ≤ 9223372036854775807 then (some ((⟨#[120, 110, 45, 45]⟩ : ByteArray) ++ aa.1, 0, 0)) else none))))
theorem label_ASCII.c {w0 w : World} {ρ : Hp} {Γ : List Item} (hs : St w0 ρ (Γ) w) {v0 : Value} {x0 : List Int} (h0 : SlR (Rep.int .i32) ρ v0 x0) {r : ByteArray × Int × Int} (H : label_ASCII.f x0 = some r) : CallsR Tryz.prog 9 [v0] w (fun v w' => v = .tuple #[.string r.1, .int .i64 r.2.1, .int .i64 r.2.2] ∧ St w0 ρ Γ w') := by
  rw [label_ASCII.f] at H
  refine enter Tryz.func9 Tryz.ntmps9 rfl (by kernel_rfl) rfl <| Wr fun aq ag => Oa rfl rfl <| Oa rfl rfl <| Oa rfl rfl <| O_nil (ag _ _ <| W_seq fun ar ah => Wr fun au ai => Om rfl rfl ?_)
  obtain ⟨af, ab, H⟩ := bnd H
  refine O_call rfl rfl (label_plain.c hs h0 ab) (fun av w hpost => ?_)
  obtain ⟨rfl, hs⟩ := hpost
  refine O_nil (ai _ _ <| W_cond rfl (fun ac => ?_) (fun ac => ?_))
  ·rw [if_pos ac] at H
   refine Wr fun aw aj => Om rfl rfl <| O_y rfl (Y_srunes un28 un21 un9 hs h0 rfl) <| Oa rfl rfl <| Oa rfl rfl <| Oa rfl rfl <| O_nil (aj _ _ <| W_ret ?_)
   obtain rfl := sinj H
   exact ret3 rfl rfl rfl rfl ⟨rfl, hs⟩
  ·rw [if_neg (bft ac)] at H
   refine W_skip (ah _ _ <| Wr fun ax ak => Om rfl rfl ?_)
   obtain ⟨aa, ad, H⟩ := bnd H
   refine O_call rfl rfl (puny_Encode.c hs h0 ad) (fun ay w hpost => ?_)
   obtain ⟨rfl, hs⟩ := hpost
   refine Om rfl rfl <| O_y rfl (Y_extract rfl rfl) <| O_y rfl (Y_extract rfl rfl) <| O_y rfl (Y_extract rfl rfl) <| Oa rfl rfl <| Oa rfl rfl <| Oa rfl rfl <| O_nil (ak _ _ <| W.weak [(5, _), (6, _), (7, _)] (S3 rfl rfl rfl) <| W_seq fun az al => Wr fun a0 am => Om rfl rfl <| O_y rfl (Y_neq rfl rfl) ?_)
   refine O_nil (am _ _ <| W_if rfl (fun ae => ?_) (fun ae => ?_))
   ·rw [if_pos ae] at H
    refine Wr fun a1 an => Om rfl rfl <| Om rfl rfl <| Oa rfl rfl <| Oa rfl rfl <| Oa rfl rfl <| O_nil (an _ _ <| W_ret ?_)
    obtain rfl := sinj H
    exact ret3 rfl rfl rfl rfl ⟨rfl, hs⟩
   ·rw [if_neg ae] at H
    refine W_skip (al _ _ <| Wr fun a2 ao => Om rfl rfl ?_)
    obtain ⟨ap, H⟩ := gd H
    refine O_y rfl (Y_cat rfl rfl ap) <| Oa rfl rfl <| Oa rfl rfl <| Oa rfl rfl <| O_nil (ao _ _ <| W_ret ?_)
    obtain rfl := sinj H
    exact ret3 rfl rfl rfl rfl ⟨rfl, hs⟩

def label_Valid.f (x0 : Option Tbs) (x1 : List Int) : Option Bool := (label_Faults.f x0 x1).bind fun ac => (some (decide ((ac.length : Int) = 0)))
theorem label_Valid.c {w0 w : World} {ρ : Hp} {Γ : List Item} (hs : St w0 ρ (Γ) w) {v0 : Value} {x0 : Option Tbs} (h0 : PtrR rTbs ρ v0 x0) {v1 : Value} {x1 : List Int} (h1 : SlR (Rep.int .i32) ρ v1 x1) {r : Bool} (H : label_Valid.f x0 x1 = some r) : CallsR Tryz.prog 10 [v0, v1] w (fun v w' => v = .bool r ∧ St w0 ρ Γ w') := by
  rw [label_Valid.f] at H
  refine enter Tryz.func10 Tryz.ntmps10 rfl (by kernel_rfl) rfl <| Wr fun ag ad => Oa rfl rfl <| O_nil (ad _ _ <| Wr fun ah ae => Om rfl rfl <| Om rfl rfl ?_)
  obtain ⟨ac, aa, H⟩ := bnd H
  refine O_call rfl rfl (label_Faults.c hs h0 h1 aa) (fun ai w hpost => ?_)
  obtain ⟨aj, ak, af, rfl, ab, hs, al⟩ := hpost
  refine O_y rfl (Y_lenRow (i := 0) un56 hs rfl rfl) <| O_y rfl (Y_eql rfl rfl) <| Oa rfl rfl <| O_nil (ae _ _ <| W_ret ?_)
  obtain rfl := sinj H
  exact ret1 rfl rfl ⟨rfl, ((hs.sub (ssk ssr)).less ab)⟩

def law18_awake.j1 (aa : Bool) : Option Bool := some aa
def law18_awake.f : Option Bool := (book_Compile.f (⟨([] : List ByteArray), [(⟨97, 122, 1⟩ : Val), (⟨252, 252, 1⟩ : Val)], ([] : List Chs), ([] : List Val), ([] : List Chs), ([] : List Spn), ([] : List Val), ([] : List Val), ([] : List Spn), ([] : List Val), ([] : List Chs)⟩ : Bk)).bind fun az => ((label_Read.f az.1 ([120, 110, 45, 45, 98, 99, 104, 101, 114, 45, 107, 118, 97])).bind fun av => ((label_ASCII.f ([98, 252])).bind fun ah => (if az.2 = 0 then (if av.coded = true then (if av.fault = 0 then (if (av.says.length : Int) = 6 then (if ah.1 = (⟨#[120, 110, 45, 45, 98, 45, 101, 104, 97]⟩ : ByteArray) then (if ah.2.1 = 0 then (if ah.2.2 = 0 then ((label_Valid.f az.1 ([97])).bind fun aj => (law18_awake.j1 aj)) else (law18_awake.j1 false)) else (law18_awake.j1 false)) else (law18_awake.j1 false)) else (law18_awake.j1 false)) else (law18_awake.j1 false)) else (law18_awake.j1 false)) else (law18_awake.j1 false))))
theorem law18_awake.c {w0 w : World} {ρ : Hp} {Γ : List Item} (hs : St w0 ρ (Γ) w) {r : Bool} (H : law18_awake.f = some r) : CallsR Tryz.prog 8 [] w (fun v w' => v = .bool r ∧ St w0 ρ Γ w') := by
  rw [law18_awake.f] at H
  refine enter Tryz.func8 Tryz.ntmps8 rfl (by kernel_rfl) rfl <| Wr fun b7 be => Oa rfl rfl <| O_nil (be _ _ <| Wr fun b8 bf => O_y rfl (Y_build (cs := [.int .i32 97, .int .i32 122, .int .i64 1]) zr67 pl67 ((Parts.cons rfl rfl (Parts.cons rfl rfl (Parts.cons rfl rfl Parts.nil)))) ag67 (by kernel_rfl)) <| O_y rfl (Y_build (cs := [.int .i32 252, .int .i32 252, .int .i64 1]) zr67 pl67 ((Parts.cons rfl rfl (Parts.cons rfl rfl (Parts.cons rfl rfl Parts.nil)))) ag67 (by kernel_rfl)) <| O_lit2 (xs := [.tmp 8, .tmp 9]) (cs := [.int .i32 97, .int .i32 122, .int .i64 1, .int .i32 252, .int .i32 252, .int .i64 1]) el23 hs rfl rfl rfl (by decide) (by decide) rfl (sz_cons rfl (sz_cons rfl sz_nil)) (flat_cons rfl (flat_cons rfl flat_nil)) (fun bg w hs => ?_))
  have bh : RowR rVal ρ ([.int .i32 97, .int .i32 122, .int .i64 1, .int .i32 252, .int .i32 252, .int .i64 1]) [(⟨97, 122, 1⟩ : Val), (⟨252, 252, 1⟩ : Val)] := RowR.cons (c := [.int .i32 97, .int .i32 122, .int .i64 1]) (x := (⟨97, 122, 1⟩ : Val)) rfl (RowR.cons (c := [.int .i32 252, .int .i32 252, .int .i64 1]) (x := (⟨252, 252, 1⟩ : Val)) rfl (RowR.nil _ _))
  obtain ⟨ag, a0, hs, bb⟩ := hs.rowEnd (j := 0) bh rfl
  refine O_y rfl (Y_build (cs := [.slice none 0 0, .slice (some ⟨bg, 0, none⟩) 2 2, .slice none 0 0, .slice none 0 0, .slice none 0 0, .slice none 0 0, .slice none 0 0, .slice none 0 0, .slice none 0 0, .slice none 0 0, .slice none 0 0]) zr27 pl27 ((Parts.cons rfl bb.cellsL Parts.nil)) ag27 (by kernel_rfl)) ?_
  have bi : SlR Rep.str ag (.slice none 0 0) [] := .inl ⟨rfl, none, 0, rfl⟩
  have bj : SlR rChs ag (.slice none 0 0) [] := .inl ⟨rfl, none, 0, rfl⟩
  have bk : SlR rVal ag (.slice none 0 0) [] := .inl ⟨rfl, none, 0, rfl⟩
  have bl : SlR rChs ag (.slice none 0 0) [] := .inl ⟨rfl, none, 0, rfl⟩
  have bm : SlR rSpn ag (.slice none 0 0) [] := .inl ⟨rfl, none, 0, rfl⟩
  have bn : SlR rVal ag (.slice none 0 0) [] := .inl ⟨rfl, none, 0, rfl⟩
  have bo : SlR rVal ag (.slice none 0 0) [] := .inl ⟨rfl, none, 0, rfl⟩
  have bp : SlR rSpn ag (.slice none 0 0) [] := .inl ⟨rfl, none, 0, rfl⟩
  have bq : SlR rVal ag (.slice none 0 0) [] := .inl ⟨rfl, none, 0, rfl⟩
  have br : SlR rChs ag (.slice none 0 0) [] := .inl ⟨rfl, none, 0, rfl⟩
  obtain ⟨az, a1, H⟩ := bnd H
  refine O_call rfl rfl (book_Compile.c hs ⟨_, _, _, _, _, _, _, _, _, _, _, rfl, bi, bb, bj, bk, bl, bm, bn, bo, bp, bq, br⟩ a1) (fun b9 w hpost => ?_)
  obtain ⟨bs, ca, rfl, a2, hs, bc⟩ := hpost
  refine Om rfl rfl <| O_y rfl (Y_extract rfl rfl) <| O_y rfl (Y_extract rfl rfl) <| Oa rfl rfl <| Oa rfl rfl <| O_nil (bf _ _ <| Wr fun cb bt => Om rfl rfl <| O_lit2 (xs := [.const (.int .i32 120), .const (.int .i32 110), .const (.int .i32 45), .const (.int .i32 45), .const (.int .i32 98), .const (.int .i32 99), .const (.int .i32 104), .const (.int .i32 101), .const (.int .i32 114), .const (.int .i32 45), .const (.int .i32 107), .const (.int .i32 118), .const (.int .i32 97)]) (cs := [.int .i32 120, .int .i32 110, .int .i32 45, .int .i32 45, .int .i32 98, .int .i32 99, .int .i32 104, .int .i32 101, .int .i32 114, .int .i32 45, .int .i32 107, .int .i32 118, .int .i32 97]) el28 hs rfl rfl rfl (by decide) (by decide) rfl (sz_cons rfl (sz_cons rfl (sz_cons rfl (sz_cons rfl (sz_cons rfl (sz_cons rfl (sz_cons rfl (sz_cons rfl (sz_cons rfl (sz_cons rfl (sz_cons rfl (sz_cons rfl (sz_cons rfl sz_nil))))))))))))) (flat_cons rfl (flat_cons rfl (flat_cons rfl (flat_cons rfl (flat_cons rfl (flat_cons rfl (flat_cons rfl (flat_cons rfl (flat_cons rfl (flat_cons rfl (flat_cons rfl (flat_cons rfl (flat_cons rfl flat_nil))))))))))))) (fun cc w hs => ?_))
  have bu : RowR (Rep.int .i32) bs ([.int .i32 120, .int .i32 110, .int .i32 45, .int .i32 45, .int .i32 98, .int .i32 99, .int .i32 104, .int .i32 101, .int .i32 114, .int .i32 45, .int .i32 107, .int .i32 118, .int .i32 97]) [120, 110, 45, 45, 98, 99, 104, 101, 114, 45, 107, 118, 97] := RowR.cons (c := [.int .i32 120]) (x := 120) rfl (RowR.cons (c := [.int .i32 110]) (x := 110) rfl (RowR.cons (c := [.int .i32 45]) (x := 45) rfl (RowR.cons (c := [.int .i32 45]) (x := 45) rfl (RowR.cons (c := [.int .i32 98]) (x := 98) rfl (RowR.cons (c := [.int .i32 99]) (x := 99) rfl (RowR.cons (c := [.int .i32 104]) (x := 104) rfl (RowR.cons (c := [.int .i32 101]) (x := 101) rfl (RowR.cons (c := [.int .i32 114]) (x := 114) rfl (RowR.cons (c := [.int .i32 45]) (x := 45) rfl (RowR.cons (c := [.int .i32 107]) (x := 107) rfl (RowR.cons (c := [.int .i32 118]) (x := 118) rfl (RowR.cons (c := [.int .i32 97]) (x := 97) rfl (RowR.nil _ _)))))))))))))
  obtain ⟨cd, ak, hs, bv⟩ := hs.rowEnd (j := 0) bu rfl
  obtain ⟨av, a3, H⟩ := bnd H
  refine O_call rfl rfl (label_Read.c hs (bc.mono ak) bv a3) (fun ce w hpost => ?_)
  obtain ⟨bw, bx, rfl, aw, hs, bz⟩ := hpost
  have b0 := bz
  obtain ⟨b1, rfl, bd⟩ := b0
  refine O_alloc zr43 hs rfl (fun b2 w hs => O_storeN (i := 0) sz43 hs rfl rfl rfl rfl rfl (one_cons bd.one (one_cons rfl (one_cons rfl one_nil))) (fun w hs => O_nil (bt _ _ <| W.weak [(1, _), (2, _), (3, _)] (S3 rfl rfl rfl) <| Wr fun cf b3 => O_lit2 (xs := [.const (.int .i32 98), .const (.int .i32 252)]) (cs := [.int .i32 98, .int .i32 252]) el28 hs rfl rfl rfl (by decide) (by decide) rfl (sz_cons rfl (sz_cons rfl sz_nil)) (flat_cons rfl (flat_cons rfl flat_nil)) (fun cg w hs => ?_))))
  have a4 : RowR (Rep.int .i32) bw ([.int .i32 98, .int .i32 252]) [98, 252] := RowR.cons (c := [.int .i32 98]) (x := 98) rfl (RowR.cons (c := [.int .i32 252]) (x := 252) rfl (RowR.nil _ _))
  obtain ⟨ab, ae, hs, a5⟩ := hs.rowEnd (j := 0) a4 rfl
  obtain ⟨ah, ax, H⟩ := bnd H
  refine O_call rfl rfl (label_ASCII.c hs a5 ax) (fun b4 w hpost => ?_)
  obtain ⟨rfl, hs⟩ := hpost
  refine Om rfl rfl <| O_y rfl (Y_extract rfl rfl) <| O_y rfl (Y_extract rfl rfl) <| O_y rfl (Y_extract rfl rfl) <| Oa rfl rfl <| Oa rfl rfl <| Oa rfl rfl <| O_nil (b3 _ _ <| W_seqj fun a6 a7 ac => ?_)
  have ad : ∀ (aa : Bool) (af : Hp) (w : World), law18_awake.j1 aa = some r → Le ab af → St w0 af ((.box b2 43 ([b1, .bool av.coded, .int .i64 av.fault])) :: Γ) w → a6 [(0, .bool aa)] w := by
   intro aa af w H al hs
   rw [law18_awake.j1] at H
   refine a7 _ _ <| W_ret ?_
   obtain rfl := sinj H
   exact ret1 rfl rfl ⟨rfl, ((hs.sub (ssk ssr)).less (((((a0.trans a2).trans ak).trans aw).trans ae).trans al))⟩
  refine W_region <| Om rfl rfl <| O_y rfl (Y_eql rfl rfl) <| Om rfl rfl <| O_if (dj := 26) rfl (fun am => ?_) (fun am => ?_)
  ·rw [if_pos am] at H
   refine O_yes rfl rfl <| O_y rfl (Y_field fo43_1 rfl) <| O_yes rfl rfl <| O_y rfl (Yb 0 ag4 hs rfl rfl rfl) <| O_y rfl (Y_pick_t rfl rfl) <| Om rfl rfl <| O_cases (dj := 30) rfl (fun an => ?_) (fun an => ?_)
   ·rw [if_pos an] at H
    refine O_yes rfl rfl <| O_y rfl (Y_field fo43_2 rfl) <| O_yes rfl rfl <| O_y rfl (Yb 0 ag3 hs rfl rfl rfl) <| O_yes rfl rfl <| O_y rfl (Y_eql rfl rfl) <| O_y rfl (Y_pick_t rfl rfl) <| Om rfl rfl <| O_if (dj := 35) rfl (fun ao => ?_) (fun ao => ?_)
    ·rw [if_pos ao] at H
     refine O_yes rfl rfl <| O_y rfl (Y_field fo43_0 rfl) <| O_yes rfl rfl <| O_y rfl (Yb 0 ag28 hs rfl rfl rfl) <| O_yes rfl rfl <| O_y rfl (Y_lenR un28 (bd.mono ae) rfl) <| O_yes rfl rfl <| O_y rfl (Y_eql rfl rfl) <| O_y rfl (Y_pick_t rfl rfl) <| Om rfl rfl <| O_if (dj := 41) rfl (fun ap => ?_) (fun ap => ?_)
     ·rw [if_pos ap] at H
      refine O_yes rfl rfl <| Om rfl rfl <| O_yes rfl rfl <| O_y rfl (Y_eqls rfl rfl) <| O_y rfl (Y_pick_t rfl rfl) <| Om rfl rfl <| O_if (dj := 45) rfl (fun aq => ?_) (fun aq => ?_)
      ·rw [if_pos aq] at H
       refine O_yes rfl rfl <| Om rfl rfl <| O_yes rfl rfl <| O_y rfl (Y_eql rfl rfl) <| O_y rfl (Y_pick_t rfl rfl) <| Om rfl rfl <| O_if (dj := 49) rfl (fun ar => ?_) (fun ar => ?_)
       ·rw [if_pos ar] at H
        refine O_yes rfl rfl <| Om rfl rfl <| O_yes rfl rfl <| O_y rfl (Y_eql rfl rfl) <| O_y rfl (Y_pick_t rfl rfl) <| Om rfl rfl <| O_if (dj := 53) rfl (fun au => ?_) (fun au => ?_)
        ·rw [if_pos au] at H
         refine O_yes rfl rfl <| Om rfl rfl <| O_yes rfl rfl <| O_lit2 (xs := [.const (.int .i32 97)]) (cs := [.int .i32 97]) el28 hs rfl rfl rfl (by decide) (by decide) rfl (sz_cons rfl sz_nil) (flat_cons rfl flat_nil) (fun b5 w hs => ?_)
         have a8 : RowR (Rep.int .i32) ab ([.int .i32 97]) [97] := RowR.cons (c := [.int .i32 97]) (x := 97) rfl (RowR.nil _ _)
         obtain ⟨a9, ai, hs, ba⟩ := hs.rowEnd (j := 0) a8 rfl
         refine O_yes rfl rfl ?_
         obtain ⟨aj, ay, H⟩ := bnd H
         refine O_call rfl rfl (label_Valid.c hs (bc.mono (((ak.trans aw).trans ae).trans ai)) ba ay) (fun b6 w hpost => ?_)
         obtain ⟨rfl, hs⟩ := hpost
         refine O_y rfl (Y_pick_t rfl rfl) <| Oa rfl rfl <| O_nil (ac _ _ _ (S1 rfl) (ad aj a9 _ H ai hs))
        ·rw [if_neg au] at H
         refine O_no rfl rfl rfl rfl <| O_no rfl rfl rfl rfl <| O_no rfl rfl rfl rfl <| O_y rfl (Y_pick_f rfl rfl) <| Oa rfl rfl <| O_nil (ac _ _ _ (S1 rfl) (ad false ab _ H (Le.rfl' _) hs))
       ·rw [if_neg ar] at H
        refine O_no rfl rfl rfl rfl <| O_no rfl rfl rfl rfl <| O_y rfl (Y_pick_f rfl rfl) <| Om rfl rfl <| O_no rfl rfl rfl rfl <| O_no rfl rfl rfl rfl <| O_no rfl rfl rfl rfl <| O_y rfl (Y_pick_f rfl rfl) <| Oa rfl rfl <| O_nil (ac _ _ _ (S1 rfl) (ad false ab _ H (Le.rfl' _) hs))
      ·rw [if_neg aq] at H
       refine O_no rfl rfl rfl rfl <| O_no rfl rfl rfl rfl <| O_y rfl (Y_pick_f rfl rfl) <| Om rfl rfl <| O_no rfl rfl rfl rfl <| O_no rfl rfl rfl rfl <| O_y rfl (Y_pick_f rfl rfl) <| Om rfl rfl <| O_no rfl rfl rfl rfl <| O_no rfl rfl rfl rfl <| O_no rfl rfl rfl rfl <| O_y rfl (Y_pick_f rfl rfl) <| Oa rfl rfl <| O_nil (ac _ _ _ (S1 rfl) (ad false ab _ H (Le.rfl' _) hs))
     ·rw [if_neg ap] at H
      refine O_no rfl rfl rfl rfl <| O_no rfl rfl rfl rfl <| O_y rfl (Y_pick_f rfl rfl) <| Om rfl rfl <| O_no rfl rfl rfl rfl <| O_no rfl rfl rfl rfl <| O_y rfl (Y_pick_f rfl rfl) <| Om rfl rfl <| O_no rfl rfl rfl rfl <| O_no rfl rfl rfl rfl <| O_y rfl (Y_pick_f rfl rfl) <| Om rfl rfl <| O_no rfl rfl rfl rfl <| O_no rfl rfl rfl rfl ?_
      refine O_no rfl rfl rfl rfl <| O_y rfl (Y_pick_f rfl rfl) <| Oa rfl rfl <| O_nil (ac _ _ _ (S1 rfl) (ad false ab _ H (Le.rfl' _) hs))
    ·rw [if_neg ao] at H
     refine O_no rfl rfl rfl rfl <| O_no rfl rfl rfl rfl <| O_no rfl rfl rfl rfl <| O_no rfl rfl rfl rfl <| O_y rfl (Y_pick_f rfl rfl) <| Om rfl rfl <| O_no rfl rfl rfl rfl <| O_no rfl rfl rfl rfl <| O_y rfl (Y_pick_f rfl rfl) <| Om rfl rfl <| O_no rfl rfl rfl rfl <| O_no rfl rfl rfl rfl <| O_y rfl (Y_pick_f rfl rfl) <| Om rfl rfl ?_
     refine O_no rfl rfl rfl rfl <| O_no rfl rfl rfl rfl <| O_y rfl (Y_pick_f rfl rfl) <| Om rfl rfl <| O_no rfl rfl rfl rfl <| O_no rfl rfl rfl rfl <| O_no rfl rfl rfl rfl <| O_y rfl (Y_pick_f rfl rfl) <| Oa rfl rfl <| O_nil (ac _ _ _ (S1 rfl) (ad false ab _ H (Le.rfl' _) hs))
   ·rw [if_neg (bft an)] at H
    refine O_no rfl rfl rfl rfl <| O_no rfl rfl rfl rfl <| O_no rfl rfl rfl rfl <| O_y rfl (Y_pick_f rfl rfl) <| Om rfl rfl <| O_no rfl rfl rfl rfl <| O_no rfl rfl rfl rfl <| O_no rfl rfl rfl rfl <| O_no rfl rfl rfl rfl <| O_y rfl (Y_pick_f rfl rfl) <| Om rfl rfl <| O_no rfl rfl rfl rfl <| O_no rfl rfl rfl rfl <| O_y rfl (Y_pick_f rfl rfl) ?_
    refine Om rfl rfl <| O_no rfl rfl rfl rfl <| O_no rfl rfl rfl rfl <| O_y rfl (Y_pick_f rfl rfl) <| Om rfl rfl <| O_no rfl rfl rfl rfl <| O_no rfl rfl rfl rfl <| O_y rfl (Y_pick_f rfl rfl) <| Om rfl rfl <| O_no rfl rfl rfl rfl <| O_no rfl rfl rfl rfl <| O_no rfl rfl rfl rfl <| O_y rfl (Y_pick_f rfl rfl) <| Oa rfl rfl ?_
    exact O_nil (ac _ _ _ (S1 rfl) (ad false ab _ H (Le.rfl' _) hs))
  ·rw [if_neg am] at H
   refine O_no rfl rfl rfl rfl <| O_no rfl rfl rfl rfl <| O_y rfl (Y_pick_f rfl rfl) <| Om rfl rfl <| O_no rfl rfl rfl rfl <| O_no rfl rfl rfl rfl <| O_no rfl rfl rfl rfl <| O_y rfl (Y_pick_f rfl rfl) <| Om rfl rfl <| O_no rfl rfl rfl rfl <| O_no rfl rfl rfl rfl <| O_no rfl rfl rfl rfl <| O_no rfl rfl rfl rfl <| O_y rfl (Y_pick_f rfl rfl) ?_
   refine Om rfl rfl <| O_no rfl rfl rfl rfl <| O_no rfl rfl rfl rfl <| O_y rfl (Y_pick_f rfl rfl) <| Om rfl rfl <| O_no rfl rfl rfl rfl <| O_no rfl rfl rfl rfl <| O_y rfl (Y_pick_f rfl rfl) <| Om rfl rfl <| O_no rfl rfl rfl rfl <| O_no rfl rfl rfl rfl <| O_y rfl (Y_pick_f rfl rfl) <| Om rfl rfl <| O_no rfl rfl rfl rfl ?_
   refine O_no rfl rfl rfl rfl <| O_no rfl rfl rfl rfl <| O_y rfl (Y_pick_f rfl rfl) <| Oa rfl rfl <| O_nil (ac _ _ _ (S1 rfl) (ad false ab _ H (Le.rfl' _) hs))

end Go.Proofs.YthoicbafdanmkaaGreatDoor
/- Written by this repo's gen.py: for each Go function a Lean function with the same answers and the walk that shows it. -/
namespace Go.Proofs.YthoicbafdanmkaaGreatDoor
open Go.RowKit
set_option maxRecDepth 100000
set_option maxHeartbeats 4000000
set_option linter.unusedVariables false
def label_Split.l1 : Nat → List (List Int) → List Int → Option (List (List Int))
  | 0, _, _ => none
  | ag + 1, aa, ab => (slices_Index_rune_rune.f ab 46).bind fun am => (if am < 0 then ((slices_Clone_rune_rune.f ab).bind fun au => (if aa.length + ([au]).length ≤ most then (some (aa ++ ([au]))) else none)) else (if (0 : Int) ≤ 0 ∧ 0 ≤ am ∧ am ≤ (ab.length : Int) then ((slices_Clone_rune_rune.f (sub ab 0 am)).bind fun ai => (if aa.length + ([ai]).length ≤ most then (if (0 : Int) ≤ IntKind.i64.wrap (am + 1) ∧ IntKind.i64.wrap (am + 1) ≤ (ab.length : Int) ∧ (ab.length : Int) ≤ (ab.length : Int) then ((label_Split.l1 ag ) (aa ++ ([ai])) (sub ab (IntKind.i64.wrap (am + 1)) (ab.length : Int))) else none) else none)) else none))
def label_Split.f (x0 : List Int) : Option (List (List Int)) := label_Split.l1 K0 ([] : List (List Int)) x0
theorem label_Split.c {w0 w : World} {ρ : Hp} {Γ : List Item} (hs : St w0 ρ (Γ) w) {v0 : Value} {x0 : List Int} (h0 : SlR (Rep.int .i32) ρ v0 x0) {r : List (List Int)} (H : label_Split.f x0 = some r) : CallsR Tryz.prog 18 [v0] w (fun v w' => ∃ (ρ' : Hp) (v0 : Value) (cs0 : List Value), v = v0 ∧ Le ρ ρ' ∧ St w0 ρ' (.row v0 28 (Rep.slice (Rep.int .i32)).sz r.length cs0 :: Γ) w' ∧ RowR (Rep.slice (Rep.int .i32)) ρ' cs0 r) := by
  rw [label_Split.f] at H
  refine enter Tryz.func18 Tryz.ntmps18 rfl (by kernel_rfl) rfl <| Wr fun b1 bi => Oa rfl rfl <| O_nil (bi _ _ <| Wr fun b2 bj => Oa rfl rfl ?_)
  have hs := hs.rowNil 28 (Rep.slice (Rep.int .i32)).sz
  have bk := RowR.nil (Rep.slice (Rep.int .i32)) ρ
  refine O_nil (bj _ _ <| W_block fun b3 b4 b5 => W_loop (σ := Nat × List (List Int) × List Int × Value × List Value × Value × Hp) (fun (ag, aa, ab, ac, ad, ae, aj) => [(0, ae), (3, ac)]) (fun (ag, aa, ab, ac, ad, ae, aj) w => label_Split.l1 ag aa ab = some r ∧ Le ρ aj ∧ St w0 aj ((.row ac 28 ((Rep.slice (Rep.int .i32)).sz) aa.length ad) :: Γ) w ∧ RowR (Rep.slice (Rep.int .i32)) aj ad aa ∧ SlR (Rep.int .i32) aj ae ab) (fun s => s.1) (K0, ([] : List (List Int)), x0, (.slice none 0 0), ([]), v0, ρ) (S2 rfl rfl) (Ai H (Ai (Le.rfl' _) (Ai hs (Ai bk h0)))) ?_)
  rintro ⟨ag, aa, ab, ac, ad, ae, aj⟩ w b6 ⟨H, an, hs, ah, af⟩ ao
  show W _ _ _ _ _ _ [(0, ae), (3, ac)] w
  cases ag with
  | zero => rw [label_Split.l1] at H; cases H
  | succ ag =>
  rw [label_Split.l1] at H
  refine W_block fun b7 b8 b9 => Wr fun ca bl => Om rfl rfl ?_
  obtain ⟨am, a1, H⟩ := bnd H
  refine O_call rfl rfl (slices_Index_rune_rune.c hs af a1) (fun cb w hpost => ?_)
  obtain ⟨rfl, hs⟩ := hpost
  refine Oa rfl rfl <| O_nil (bl _ _ <| W_seq fun cc bm => Wr fun cd bn => Om rfl rfl <| O_y rfl (Y_lss rfl rfl) <| O_nil (bn _ _ <| W_if rfl (fun a2 => ?_) (fun a2 => ?_)))
  ·rw [if_pos a2] at H
   refine Wr fun ce bo => Om rfl rfl <| Om rfl rfl ?_
   obtain ⟨au, a3, H⟩ := bnd H
   refine O_call rfl rfl (slices_Clone_rune_rune.c hs af a3) (fun a4 w hpost => ?_)
   obtain ⟨cf, cg, bp, rfl, av, hs, bq⟩ := hpost
   obtain ⟨br, aw, hs, a5⟩ := hs.rowEnd (j := 0) bq rfl
   refine O_lit2 (xs := [.tmp 11]) (cs := [a4]) el52 hs rfl rfl rfl (by decide) (by decide) rfl (sz_cons a5.cellsz sz_nil) (flat_cons a5.cellsL flat_nil) (fun ch w hs => ?_)
   have bg : RowR (Rep.slice (Rep.int .i32)) br ([a4]) [au] := RowR.cons (c := [a4]) (x := au) ⟨_, rfl, a5⟩ (RowR.nil _ _)
   obtain ⟨bs, H⟩ := gd H
   refine O_appendR (i := 1) el52 hs rfl (ah.mono (av.trans aw)) rfl rfl rfl (Src.lit (j := 0) hs rfl bg) bg bs (fun ci bt w bu hs => Oa rfl rfl <| O_nil (bo _ _ <| W_ret ?_))
   obtain rfl := sinj H
   exact ret1 rfl rfl ⟨_, _, _, rfl, ((an.trans av).trans aw), (hs.sub (ssk (ssc ssr))), bu⟩
  ·rw [if_neg a2] at H
   refine W_skip (bm _ _ <| Wr fun cj bv => Om rfl rfl <| Om rfl rfl <| Om rfl rfl ?_)
   obtain ⟨a6, H⟩ := gd H
   obtain ⟨bw, a7, a8⟩ := af.cut el28 a6.1 a6.2.1 a6.2.2
   refine O_y rfl (a8 rfl (.inl ⟨rfl, rfl⟩) (.inr ⟨_, _, rfl, rfl⟩)) ?_
   obtain ⟨ai, ax, H⟩ := bnd H
   refine O_call rfl rfl (slices_Clone_rune_rune.c hs a7 ax) (fun ap w hpost => ?_)
   obtain ⟨bx, bz, bh, rfl, ak, hs, a9⟩ := hpost
   obtain ⟨ay, al, hs, aq⟩ := hs.rowEnd (j := 0) a9 rfl
   refine O_lit2 (xs := [.tmp 18]) (cs := [ap]) el52 hs rfl rfl rfl (by decide) (by decide) rfl (sz_cons aq.cellsz sz_nil) (flat_cons aq.cellsL flat_nil) (fun b0 w hs => ?_)
   have az : RowR (Rep.slice (Rep.int .i32)) ay ([ap]) [ai] := RowR.cons (c := [ap]) (x := ai) ⟨_, rfl, aq⟩ (RowR.nil _ _)
   obtain ⟨ba, H⟩ := gd H
   refine O_appendR (i := 1) el52 hs rfl (ah.mono (ak.trans al)) rfl rfl rfl (Src.lit (j := 0) hs rfl az) az ba (fun bb a0 w bc hs => Oa rfl rfl <| O_nil (bv _ _ <| W_region <| Om rfl rfl <| Om rfl rfl <| O_y rfl (Y_add rfl rfl) ?_))
   obtain ⟨ar, H⟩ := gd H
   obtain ⟨bd, be, bf⟩ := (af.mono (ak.trans al)).cut el28 ar.1 ar.2.1 ar.2.2
   refine O_y rfl (bf rfl (.inr ⟨_, _, rfl, rfl⟩) (.inl ⟨rfl, rfl⟩)) <| Oa rfl rfl <| O_nil (ao (ag, (aa ++ ([ai])), (sub ab (IntKind.i64.wrap (am + 1)) (ab.length : Int)), bb, a0, bd, ay) _ _ (S2 rfl rfl) (Ai H (Ai ((an.trans ak).trans al) (Ai (hs.sub (ssk (ssc ssr))) (Ai bc be)))) (Nat.lt_succ_self _))

def ref18_Split.j1 (az : List Int → List (List Int) → Int → Option (List (List Int))) (ab : Int) (ae : List Int) (af : List (List Int)) : Option (List (List Int)) := az ae af (IntKind.i64.wrap (ab + 1))
def ref18_Split.l1 : Nat → List Int → List Int → List (List Int) → Int → Option (List (List Int))
  | 0, _, _, _, _ => none
  | ap + 1, x0, aa, ac, ab => if ab < (x0.length : Int) then (if (0 : Int) ≤ ab ∧ ab < (x0.length : Int) then (if (rd x0 ab) = 46 then (if ac.length + ([aa]).length ≤ most then (ref18_Split.j1 (ref18_Split.l1 ap x0) ab ([] : List Int) (ac ++ ([aa]))) else none) else (if aa.length + ([rd x0 ab]).length ≤ most then (ref18_Split.j1 (ref18_Split.l1 ap x0) ab (aa ++ ([rd x0 ab])) ac) else none)) else none) else (if ac.length + ([aa]).length ≤ most then (some (ac ++ ([aa]))) else none)
def ref18_Split.f (x0 : List Int) : Option (List (List Int)) := ref18_Split.l1 K0 x0 ([] : List Int) ([] : List (List Int)) 0
theorem ref18_Split.c {w0 w : World} {ρ : Hp} {Γ : List Item} (hs : St w0 ρ (Γ) w) {v0 : Value} {x0 : List Int} (h0 : SlR (Rep.int .i32) ρ v0 x0) {r : List (List Int)} (H : ref18_Split.f x0 = some r) : CallsR Tryz.prog 19 [v0] w (fun v w' => ∃ (ρ' : Hp) (v0 : Value) (cs0 : List Value), v = v0 ∧ Le ρ ρ' ∧ St w0 ρ' (.row v0 28 (Rep.slice (Rep.int .i32)).sz r.length cs0 :: Γ) w' ∧ RowR (Rep.slice (Rep.int .i32)) ρ' cs0 r) := by
  rw [ref18_Split.f] at H
  refine enter Tryz.func19 Tryz.ntmps19 rfl (by kernel_rfl) rfl <| Wr fun cl bt => Oa rfl rfl <| O_nil (bt _ _ <| Wr fun cm bu => O_lit2 (xs := []) (cs := []) el52 hs rfl rfl rfl (by decide) (by decide) rfl sz_nil flat_nil (fun bv w hs => ?_))
  have bw : RowR (Rep.slice (Rep.int .i32)) ρ ([]) ([] : List (List Int)) := RowR.nil _ _
  refine Oa rfl rfl <| O_nil (bu _ _ <| Wr fun cn bx => O_lit2 (xs := []) (cs := []) el28 hs rfl rfl rfl (by decide) (by decide) rfl sz_nil flat_nil (fun bz w hs => ?_))
  have b0 : RowR (Rep.int .i32) ρ ([]) ([] : List Int) := RowR.nil _ _
  refine Oa rfl rfl <| O_nil (bx _ _ <| W_seq fun co b1 => Wr fun cp b2 => Om rfl rfl <| O_y rfl (Y_lenR un28 h0 rfl) <| Om rfl rfl <| O_nil (b2 _ _ <| W_block fun cq b3 cr => W_loop (σ := Nat × List Int × List (List Int) × Int × Value × List Value × Value × List Value × Hp) (fun (ap, aa, ac, ab, ad, ai, ag, ah, aq) => [(3, ag), (4, ad), (9, v0), (10, .int .i64 (x0.length : Int)), (11, .int .i64 ab)]) (fun (ap, aa, ac, ab, ad, ai, ag, ah, aq) w => ref18_Split.l1 ap x0 aa ac ab = some r ∧ Le ρ aq ∧ St w0 aq ((.row ad 21 ((Rep.int .i32).sz) aa.length ai) :: (.row ag 28 ((Rep.slice (Rep.int .i32)).sz) ac.length ah) :: Γ) w ∧ RowR (Rep.int .i32) aq ai aa ∧ RowR (Rep.slice (Rep.int .i32)) aq ah ac) (fun s => s.1) (K0, ([] : List Int), ([] : List (List Int)), 0, (.slice (some ⟨bz, 0, none⟩) 0 0), ([]), (.slice (some ⟨bv, 0, none⟩) 0 0), ([]), ρ) (by repeat first | exact Sub.nil | refine Sub.cons rfl ?_) (Ai H (Ai (Le.rfl' _) (Ai hs (Ai b0 bw)))) ?_))
  rintro ⟨ap, aa, ac, ab, ad, ai, ag, ah, aq⟩ w ct ⟨H, au, hs, an, ao⟩ a0
  show W _ _ _ _ _ _ [(3, ag), (4, ad), (9, v0), (10, .int .i64 (x0.length : Int)), (11, .int .i64 ab)] w
  cases ap with
  | zero => rw [ref18_Split.l1] at H; cases H
  | succ ap =>
  rw [ref18_Split.l1] at H
  refine Wr fun cu b4 => O_y rfl (Y_lss rfl rfl) <| O_nil (b4 _ _ <| W_seq fun cv b5 => W_if rfl (fun a9 => ?_) (fun a9 => ?_))
  ·rw [if_pos a9] at H
   refine W_skip (b5 _ _ <| W_seqj fun b6 b7 bp => ?_)
   have bq : ∀ (ae : List Int) (af : List (List Int)) (aj : Value) (ak : List Value) (al : Value) (am : List Value) (ar : Hp) (w : World), ref18_Split.j1 (ref18_Split.l1 ap x0) ab ae af = some r → Le aq ar → St w0 ar ((.row aj 21 ((Rep.int .i32).sz) ae.length ak) :: (.row al 28 ((Rep.slice (Rep.int .i32)).sz) af.length am) :: Γ) w → RowR (Rep.int .i32) ar ak ae → RowR (Rep.slice (Rep.int .i32)) ar am af → b6 [(3, al), (4, aj), (9, v0), (10, .int .i64 (x0.length : Int)), (11, .int .i64 ab)] w := by
    intro ae af aj ak al am ar w H a3 hs av aw
    rw [ref18_Split.j1] at H
    refine b7 _ _ <| W_region <| O_y rfl (Y_add rfl rfl) <| Om rfl rfl <| O_nil (a0 (ap, ae, af, (IntKind.i64.wrap (ab + 1)), aj, ak, al, am, ar) _ _ (by repeat first | exact Sub.nil | refine Sub.cons rfl ?_) (Ai H (Ai (au.trans a3) (Ai hs (Ai av aw)))) (Nat.lt_succ_self _))
   refine W_block fun cw b8 cx => W_seq fun cy b9 => W_region ?_
   obtain ⟨br, H⟩ := gd H
   obtain ⟨cz, da, ca, cb⟩ := (h0.mono au).ix el28 br.1 br.2
   refine O_y rfl (cb rfl rfl) <| O_y rfl (Y_load ag21 rfl (hs.see ca.int)) <| Oa rfl rfl <| O_nil (b9 _ _ <| W_seq fun db cc => Wr fun dc cd => Om rfl rfl <| O_y rfl (Y_eql rfl rfl) <| O_nil (cd _ _ <| W_if rfl (fun ba => ?_) (fun ba => ?_)))
   ·rw [if_pos ba] at H
    refine Wr fun dd ce => Om rfl rfl <| Om rfl rfl ?_
    obtain ⟨bb, ax, hs, a1⟩ := hs.rowEnd (j := 0) an rfl
    refine O_lit2 (xs := [.tmp 18]) (cs := [ad]) el52 hs rfl rfl rfl (by decide) (by decide) rfl (sz_cons a1.cellsz sz_nil) (flat_cons a1.cellsL flat_nil) (fun cf w hs => ?_)
    have a4 : RowR (Rep.slice (Rep.int .i32)) bb ([ad]) [aa] := RowR.cons (c := [ad]) (x := aa) ⟨_, rfl, a1⟩ (RowR.nil _ _)
    obtain ⟨bc, H⟩ := gd H
    refine O_appendR (i := 1) el52 hs rfl (ao.mono ax) rfl rfl rfl (Src.lit (j := 0) hs rfl a4) a4 bc (fun bd a5 w be hs => Oa rfl rfl <| O_nil (ce _ _ <| W.weak [(3, _), (9, _), (10, _), (11, _)] (S4 rfl rfl rfl rfl) <| Wr fun cg bf => O_lit2 (xs := []) (cs := []) el28 hs rfl rfl rfl (by decide) (by decide) rfl sz_nil flat_nil (fun bg w hs => ?_)))
    have bh : RowR (Rep.int .i32) bb ([]) ([] : List Int) := RowR.nil _ _
    refine Oa rfl rfl <| O_nil (bf _ _ ?_)
    have hs := hs.front 2 rfl
    have hs := hs.front 1 rfl
    exact W_exit (b8 _ _ (bp _ _ _ (by repeat first | exact Sub.nil | refine Sub.cons rfl ?_) (bq ([] : List Int) (ac ++ ([aa])) (.slice (some ⟨bg, 0, none⟩) 0 0) ([]) bd a5 bb _ H ax (hs.sub (ssc (ssc (ssk ssr)))) bh be)))
   ·rw [if_neg ba] at H
    refine W_skip (cc _ _ <| W_region <| Om rfl rfl <| Om rfl rfl <| O_lit2 (xs := [.tmp 23]) (cs := [.int .i32 (rd x0 ab)]) el28 hs rfl rfl rfl (by decide) (by decide) rfl (sz_cons rfl sz_nil) (flat_cons rfl flat_nil) (fun ch w hs => ?_))
    have a6 : RowR (Rep.int .i32) aq ([.int .i32 (rd x0 ab)]) [rd x0 ab] := RowR.cons (c := [.int .i32 (rd x0 ab)]) (x := rd x0 ab) rfl (RowR.nil _ _)
    obtain ⟨bi, H⟩ := gd H
    refine O_appendR (i := 1) el28 hs rfl an rfl rfl rfl (Src.lit (j := 0) hs rfl a6) a6 bi (fun bj a7 w bk hs => Oa rfl rfl <| O_nil (bp _ _ _ (by repeat first | exact Sub.nil | refine Sub.cons rfl ?_) (bq (aa ++ ([rd x0 ab])) ac bj a7 ag ah aq _ H (Le.rfl' _) (hs.sub (ssk (ssc (ssc ssr)))) bk ao)))
  ·rw [if_neg a9] at H
   refine W_exit (b3 _ _ (b1 _ _ <| Wr fun ci bl => Om rfl rfl <| Om rfl rfl ?_))
   obtain ⟨bm, ay, hs, a2⟩ := hs.rowEnd (j := 0) an rfl
   refine O_lit2 (xs := [.tmp 28]) (cs := [ad]) el52 hs rfl rfl rfl (by decide) (by decide) rfl (sz_cons a2.cellsz sz_nil) (flat_cons a2.cellsL flat_nil) (fun cj w hs => ?_)
   have a8 : RowR (Rep.slice (Rep.int .i32)) bm ([ad]) [aa] := RowR.cons (c := [ad]) (x := aa) ⟨_, rfl, a2⟩ (RowR.nil _ _)
   obtain ⟨bn, H⟩ := gd H
   refine O_appendR (i := 1) el52 hs rfl (ao.mono ay) rfl rfl rfl (Src.lit (j := 0) hs rfl a8) a8 bn (fun ck bs w bo hs => Oa rfl rfl <| O_nil (bl _ _ <| W_ret ?_))
   obtain rfl := sinj H
   exact ret1 rfl rfl ⟨_, _, _, rfl, (au.trans ay), (hs.sub (ssk (ssc ssr))), bo⟩

def ref10_Runes.l1 : Nat → List Int → List Int → Int → Option Bool
  | 0, _, _, _ => none
  | ab + 1, x0, x1, aa => if aa < (x0.length : Int) then (if (0 : Int) ≤ aa ∧ aa < (x0.length : Int) then (if (0 : Int) ≤ aa ∧ aa < (x1.length : Int) then (if (rd x0 aa) ≠ (rd x1 aa) then (some false) else ((ref10_Runes.l1 ab x0 x1) (IntKind.i64.wrap (aa + 1)))) else none) else none) else (some true)
def ref10_Runes.f (x0 x1 : List Int) : Option Bool := if (x0.length : Int) ≠ (x1.length : Int) then (some false) else (ref10_Runes.l1 K0 x0 x1 0)
theorem ref10_Runes.c {w0 w : World} {ρ : Hp} {Γ : List Item} (hs : St w0 ρ (Γ) w) {v0 : Value} {x0 : List Int} (h0 : SlR (Rep.int .i32) ρ v0 x0) {v1 : Value} {x1 : List Int} (h1 : SlR (Rep.int .i32) ρ v1 x1) {r : Bool} (H : ref10_Runes.f x0 x1 = some r) : CallsR Tryz.prog 12 [v0, v1] w (fun v w' => v = .bool r ∧ St w0 ρ Γ w') := by
  rw [ref10_Runes.f] at H
  refine enter Tryz.func12 Tryz.ntmps12 rfl (by kernel_rfl) rfl <| Wr fun a2 ai => Oa rfl rfl <| O_nil (ai _ _ <| W_seq fun a3 aj => Wr fun a4 ak => Om rfl rfl <| O_y rfl (Y_lenR un28 h0 rfl) <| Om rfl rfl <| O_y rfl (Y_lenR un28 h1 rfl) <| O_y rfl (Y_neq rfl rfl) <| O_nil (ak _ _ ?_))
  refine W_if rfl (fun ad => ?_) (fun ad => ?_)
  ·rw [if_pos ad] at H
   refine Wr fun a5 al => Oa rfl rfl <| O_nil (al _ _ <| W_ret ?_)
   obtain rfl := sinj H
   exact ret1 rfl rfl ⟨rfl, hs⟩
  ·rw [if_neg ad] at H
   refine W_skip (aj _ _ <| W_seq fun a6 am => Wr fun a7 an => Om rfl rfl <| O_y rfl (Y_lenR un28 h0 rfl) <| Om rfl rfl <| O_nil (an _ _ <| W_block fun a8 ao a9 => W_loop (σ := Nat × Int) (fun (ab, aa) => [(0, v0), (1, v1), (12, .int .i64 (x0.length : Int)), (13, .int .i64 aa)]) (fun (ab, aa) w => ref10_Runes.l1 ab x0 x1 aa = some r ∧ St w0 ρ (Γ) w) (fun s => s.1) (K0, 0) (S4 rfl rfl rfl rfl) (Ai H hs) ?_))
   rintro ⟨ab, aa⟩ w ba ⟨H, hs⟩ ac
   show W _ _ _ _ _ _ [(0, v0), (1, v1), (12, .int .i64 (x0.length : Int)), (13, .int .i64 aa)] w
   cases ab with
   | zero => rw [ref10_Runes.l1] at H; cases H
   | succ ab =>
   rw [ref10_Runes.l1] at H
   refine Wr fun bb ap => O_y rfl (Y_lss rfl rfl) <| O_nil (ap _ _ <| W_seq fun bc aq => W_if rfl (fun ae => ?_) (fun ae => ?_))
   ·rw [if_pos ae] at H
    refine W_skip (aq _ _ <| W_seq fun bd ar => W_block fun be bf bg => Wr fun bh au => Om rfl rfl <| Oa rfl rfl <| O_nil (au _ _ <| W_seq fun bi av => W_drawS 9 [0, 0, 3, 4, 0, 0, 48, 64, 136] [506, 505, 496, 240, 431, 415, 271, 15, 0] [0, 0, 3, 7, 0, 0, 48, 112, 255] [] (fun w => St w0 ρ (Γ) w) mixed (by kernel_rfl) (fun sh => ?_)))
    have hs := hs.drew
    refine Dm 0 sh rfl rfl (by kernel_rfl) rfl <| Dm 1 sh rfl rfl (by kernel_rfl) rfl ?_
    obtain ⟨ag, H⟩ := gd H
    obtain ⟨bj, bk, aw, ax⟩ := h0.ix el28 ag.1 ag.2
    refine Dp 2 sh rfl rfl (by kernel_rfl) (fun w => ax rfl rfl) <| Dy 3 sh rfl rfl (by kernel_rfl) hs (fun w hs => Y_load ag21 rfl (hs.see aw.int)) <| Dm 4 sh rfl rfl (by kernel_rfl) rfl <| Dm 5 sh rfl rfl (by kernel_rfl) rfl ?_
    obtain ⟨ah, H⟩ := gd H
    obtain ⟨bl, bm, ay, az⟩ := h1.ix el28 ah.1 ah.2
    refine Dp 6 sh rfl rfl (by kernel_rfl) (fun w => az rfl rfl) <| Dy 7 sh rfl rfl (by kernel_rfl) hs (fun w hs => Y_load ag21 rfl (hs.see ay.int)) <| Dp 8 sh rfl rfl (by kernel_rfl) (fun w => Y_neq rfl rfl) <| OD_doneS sh (by kernel_rfl) (av _ _ <| W.weak [(0, _), (1, _), (12, _), (13, _), (24, _)] (by repeat first | exact Sub.nil | refine Sub.cons rfl ?_) ?_)
    refine W_if rfl (fun af => ?_) (fun af => ?_)
    ·rw [if_pos af] at H
     refine Wr fun bn a0 => Oa rfl rfl <| O_nil (a0 _ _ <| W_ret ?_)
     obtain rfl := sinj H
     exact ret1 rfl rfl ⟨rfl, hs⟩
    ·rw [if_neg af] at H
     refine W_skip (ar _ _ <| W_region <| O_y rfl (Y_add rfl rfl) <| Om rfl rfl <| O_nil (ac (ab, (IntKind.i64.wrap (aa + 1))) _ _ (S4 rfl rfl rfl rfl) (Ai H hs) (Nat.lt_succ_self _)))
   ·rw [if_neg ae] at H
    refine W_exit (ao _ _ (am _ _ <| Wr fun bo a1 => Oa rfl rfl <| O_nil (a1 _ _ <| W_ret ?_)))
    obtain rfl := sinj H
    exact ret1 rfl rfl ⟨rfl, hs⟩

def label_Join.j1 (ak : List Int → Int → Option (List Int)) (x0 : List (List Int)) (ab : Int) (ac : List Int) : Option (List Int) := if ac.length + (rd x0 ab).length ≤ most then (ak (ac ++ (rd x0 ab)) (IntKind.i64.wrap (ab + 1))) else none
def label_Join.l1 : Nat → List (List Int) → List Int → Int → Option (List Int)
  | 0, _, _, _ => none
  | ai + 1, x0, aa, ab => if ab < (x0.length : Int) then (if (0 : Int) ≤ ab ∧ ab < (x0.length : Int) then (if 0 < ab then (if aa.length + ([46]).length ≤ most then (label_Join.j1 (label_Join.l1 ai x0) x0 ab (aa ++ ([46]))) else none) else (label_Join.j1 (label_Join.l1 ai x0) x0 ab aa)) else none) else (some aa)
def label_Join.f (x0 : List (List Int)) : Option (List Int) := label_Join.l1 K0 x0 ([] : List Int) 0
theorem label_Join.c {w0 w : World} {ρ : Hp} {Γ : List Item} (hs : St w0 ρ (Γ) w) {v0 : Value} {x0 : List (List Int)} (h0 : SlR (Rep.slice (Rep.int .i32)) ρ v0 x0) {r : List Int} (H : label_Join.f x0 = some r) : CallsR Tryz.prog 20 [v0] w (fun v w' => ∃ (ρ' : Hp) (v0 : Value) (cs0 : List Value), v = v0 ∧ Le ρ ρ' ∧ St w0 ρ' (.row v0 21 (Rep.int .i32).sz r.length cs0 :: Γ) w' ∧ RowR (Rep.int .i32) ρ' cs0 r) := by
  rw [label_Join.f] at H
  refine enter Tryz.func20 Tryz.ntmps20 rfl (by kernel_rfl) rfl <| Wr fun bq a2 => Oa rfl rfl <| O_nil (a2 _ _ <| Wr fun br a3 => Oa rfl rfl ?_)
  have hs := hs.rowNil 21 (Rep.int .i32).sz
  have a4 := RowR.nil (Rep.int .i32) ρ
  refine O_nil (a3 _ _ <| W_seq fun bs a5 => Wr fun bt a6 => Om rfl rfl <| O_y rfl (Y_lenR un52 h0 rfl) <| Om rfl rfl <| O_nil (a6 _ _ <| W_block fun bu a7 bv => W_loop (σ := Nat × List Int × Int × Value × List Value) (fun (ai, aa, ab, ad, ae) => [(3, ad), (6, v0), (7, .int .i64 (x0.length : Int)), (8, .int .i64 ab)]) (fun (ai, aa, ab, ad, ae) w => label_Join.l1 ai x0 aa ab = some r ∧ St w0 ρ ((.row ad 21 ((Rep.int .i32).sz) aa.length ae) :: Γ) w ∧ RowR (Rep.int .i32) ρ ae aa) (fun s => s.1) (K0, ([] : List Int), 0, (.slice none 0 0), ([])) (S4 rfl rfl rfl rfl) (Ai H (Ai hs a4)) ?_))
  rintro ⟨ai, aa, ab, ad, ae⟩ w bw ⟨H, hs, af⟩ al
  show W _ _ _ _ _ _ [(3, ad), (6, v0), (7, .int .i64 (x0.length : Int)), (8, .int .i64 ab)] w
  cases ai with
  | zero => rw [label_Join.l1] at H; cases H
  | succ ai =>
  rw [label_Join.l1] at H
  refine Wr fun bx a8 => O_y rfl (Y_lss rfl rfl) <| O_nil (a8 _ _ <| W_seq fun bz a9 => W_if rfl (fun ap => ?_) (fun ap => ?_))
  ·rw [if_pos ap] at H
   refine W_skip (a9 _ _ <| W_seq fun b0 ba => W_block fun b1 b2 b3 => Wr fun b4 bb => Om rfl rfl ?_)
   obtain ⟨az, H⟩ := gd H
   obtain ⟨b5, b6, bc, bd⟩ := h0.ix el52 az.1 az.2
   obtain ⟨be, bf, bg⟩ := bc.slice
   refine O_y rfl (bd rfl rfl) <| O_y rfl (Y_load ag28 rfl (hs.see bf)) <| Oa rfl rfl <| Oa rfl rfl <| O_nil (bb _ _ <| W_seqj fun bh bi a0 => ?_)
   have a1 : ∀ (ac : List Int) (ag : Value) (ah : List Value) (w : World), label_Join.j1 (label_Join.l1 ai x0) x0 ab ac = some r → St w0 ρ ((.row ag 21 ((Rep.int .i32).sz) ac.length ah) :: Γ) w → RowR (Rep.int .i32) ρ ah ac → bh [(3, ag), (5, be), (6, v0), (7, .int .i64 (x0.length : Int)), (8, .int .i64 ab)] w := by
    intro ac ag ah w H hs aj
    rw [label_Join.j1] at H
    refine bi _ _ <| W_region <| Om rfl rfl <| Om rfl rfl ?_
    obtain ⟨bj, aq, ar⟩ := Src.sl hs bg
    obtain ⟨bk, H⟩ := gd H
    refine O_appendR (i := 0) el28 hs rfl aj rfl rfl rfl aq ar bk (fun bl au w bm hs => Oa rfl rfl <| O_nil (ba _ _ <| W_region <| O_y rfl (Y_add rfl rfl) <| Om rfl rfl <| O_nil (al (ai, (ac ++ (rd x0 ab)), (IntKind.i64.wrap (ab + 1)), bl, au) _ _ (S4 rfl rfl rfl rfl) (Ai H (Ai hs bm)) (Nat.lt_succ_self _))))
   refine Wr fun b7 bn => Om rfl rfl <| O_y rfl (Y_gtr rfl rfl) <| O_nil (bn _ _ <| W_if rfl (fun am => ?_) (fun am => ?_))
   ·rw [if_pos am] at H
    refine W_region <| Om rfl rfl <| O_lit2 (xs := [.const (.int .i32 46)]) (cs := [.int .i32 46]) el28 hs rfl rfl rfl (by decide) (by decide) rfl (sz_cons rfl sz_nil) (flat_cons rfl flat_nil) (fun bo w hs => ?_)
    have an : RowR (Rep.int .i32) ρ ([.int .i32 46]) [46] := RowR.cons (c := [.int .i32 46]) (x := 46) rfl (RowR.nil _ _)
    obtain ⟨av, H⟩ := gd H
    refine O_appendR (i := 1) el28 hs rfl af rfl rfl rfl (Src.lit (j := 0) hs rfl an) an av (fun aw ao w ax hs => Oa rfl rfl <| O_nil (a0 _ _ _ (by repeat first | exact Sub.nil | refine Sub.cons rfl ?_) (a1 (aa ++ ([46])) aw ao _ H (hs.sub (ssk (ssc ssr))) ax)))
   ·rw [if_neg am] at H
    exact W_skip (a0 _ _ _ (by repeat first | exact Sub.nil | refine Sub.cons rfl ?_) (a1 aa ad ae _ H hs af))
  ·rw [if_neg ap] at H
   refine W_exit (a7 _ _ (a5 _ _ <| Wr fun bp ay => Om rfl rfl <| Oa rfl rfl <| O_nil (ay _ _ <| W_ret ?_)))
   obtain rfl := sinj H
   exact ret1 rfl rfl ⟨_, _, _, rfl, Le.rfl' _, hs, af⟩

def law18_LabelSplits.l1 (az : Int → Option Bool) : Nat → List (List Int) → Int → Int → Option Bool
  | 0, _, _, _ => none
  | am + 1, al, aa, ae => if ae < ((rd al aa).length : Int) then (if (0 : Int) ≤ ae ∧ ae < ((rd al aa).length : Int) then (if (rd (rd al aa) ae) = 46 then (some false) else ((law18_LabelSplits.l1 az am al aa) (IntKind.i64.wrap (ae + 1)))) else none) else (az (IntKind.i64.wrap (aa + 1)))
def law18_LabelSplits.j1 (a2 : List Int → Int → Option Bool) (x1 : List (List Int)) (ab : Int) (ad : List Int) : Option Bool := if ad.length + (rd x1 ab).length ≤ most then (a2 (ad ++ (rd x1 ab)) (IntKind.i64.wrap (ab + 1))) else none
def law18_LabelSplits.l2 : Nat → List (List Int) → List Int → Int → Option Bool
  | 0, _, _, _ => none
  | ah + 1, x1, ac, ab => if ab < (x1.length : Int) then (if (0 : Int) ≤ ab ∧ ab < (x1.length : Int) then (if 0 < ab then (if ac.length + ([46]).length ≤ most then (law18_LabelSplits.j1 (law18_LabelSplits.l2 ah x1) x1 ab (ac ++ ([46]))) else none) else (law18_LabelSplits.j1 (law18_LabelSplits.l2 ah x1) x1 ab ac)) else none) else ((label_Join.f x1).bind fun bm => ((ref10_Runes.f bm ac).bind fun bn => (some bn)))
def law18_LabelSplits.l3 : Nat → List Int → List (List Int) → List (List Int) → List (List Int) → Int → Option Bool
  | 0, _, _, _, _, _ => none
  | av + 1, x0, x1, al, ax, aa => if aa < (al.length : Int) then (if (0 : Int) ≤ aa ∧ aa < (al.length : Int) then (if (0 : Int) ≤ aa ∧ aa < (ax.length : Int) then ((ref10_Runes.f (rd al aa) (rd ax aa)).bind fun bo => (if (!bo) = true then (some false) else (law18_LabelSplits.l1 (law18_LabelSplits.l3 av x0 x1 al ax) K0 al aa 0))) else none) else none) else ((label_Join.f al).bind fun bp => ((ref10_Runes.f bp x0).bind fun bq => (if (!bq) = true then (some false) else (law18_LabelSplits.l2 K0 x1 ([] : List Int) 0))))
def law18_LabelSplits.f (x0 : List Int) (x1 : List (List Int)) : Option Bool := (law18_awake.f).bind fun em => (if (!em) = true then (some false) else ((label_Split.f x0).bind fun al => ((ref18_Split.f x0).bind fun ax => (if (al.length : Int) ≠ (ax.length : Int) then (some false) else (law18_LabelSplits.l3 K0 x0 x1 al ax 0)))))
theorem law18_LabelSplits.c {w0 w : World} {ρ : Hp} {Γ : List Item} (hs : St w0 ρ (Γ) w) {v0 : Value} {x0 : List Int} (h0 : SlR (Rep.int .i32) ρ v0 x0) {v1 : Value} {x1 : List (List Int)} (h1 : SlR (Rep.slice (Rep.int .i32)) ρ v1 x1) {r : Bool} (H : law18_LabelSplits.f x0 x1 = some r) : CallsR Tryz.prog 5 [v0, v1] w (fun v w' => v = .bool r ∧ St w0 ρ Γ w') := by
  rw [law18_LabelSplits.f] at H
  refine enter Tryz.func5 Tryz.ntmps5 rfl (by kernel_rfl) rfl <| Wr fun hf eq => Oa rfl rfl <| O_nil (eq _ _ <| W_seq fun hg er => W_seq fun hh es => W_region ?_)
  obtain ⟨em, cb, H⟩ := bnd H
  refine O_call rfl rfl (law18_awake.c hs cb) (fun hi w hpost => ?_)
  obtain ⟨rfl, hs⟩ := hpost
  refine O_y rfl (Y_not rfl) <| O_nil (es _ _ <| W_cond rfl (fun cc => ?_) (fun cc => ?_))
  ·rw [if_pos cc] at H
   refine Wr fun hj et => Oa rfl rfl <| O_nil (et _ _ <| W_ret ?_)
   obtain rfl := sinj H
   exact ret1 rfl rfl ⟨rfl, hs⟩
  ·rw [if_neg (bft cc)] at H
   refine W_skip (er _ _ <| Wr fun hk eu => Om rfl rfl ?_)
   obtain ⟨al, cd, H⟩ := bnd H
   refine O_call rfl rfl (label_Split.c hs h0 cd) (fun bc w hpost => ?_)
   obtain ⟨hl, hm, bd, rfl, ao, hs, ce⟩ := hpost
   refine Om rfl rfl ?_
   obtain ⟨ax, cf, H⟩ := bnd H
   refine O_call rfl rfl (ref18_Split.c hs (h0.mono ao) cf) (fun a3 w hpost => ?_)
   obtain ⟨cg, hn, a0, rfl, an, hs, ev⟩ := hpost
   refine Oa rfl rfl <| Oa rfl rfl <| O_nil (eu _ _ <| W_seq fun ho ew => Wr fun hp ex => Om rfl rfl <| O_y rfl (Y_lenRow (i := 1) un52 hs rfl rfl) <| Om rfl rfl <| O_y rfl (Y_lenRow (i := 0) un52 hs rfl rfl) <| O_y rfl (Y_neq rfl rfl) <| O_nil (ex _ _ <| W.weak [(0, _), (1, _), (5, _), (6, _), (23, _)] (by repeat first | exact Sub.nil | refine Sub.cons rfl ?_) ?_))
   refine W_if rfl (fun ch => ?_) (fun ch => ?_)
   ·rw [if_pos ch] at H
    refine Wr fun hq ey => Oa rfl rfl <| O_nil (ey _ _ <| W_ret ?_)
    obtain rfl := sinj H
    exact ret1 rfl rfl ⟨rfl, ((hs.sub (ssk (ssk ssr))).less (ao.trans an))⟩
   ·rw [if_neg ch] at H
    refine W_skip (ew _ _ <| W_seq fun hr ez => Wr fun ht e0 => Om rfl rfl <| O_y rfl (Y_lenRow (i := 1) un52 hs rfl rfl) <| Om rfl rfl <| O_nil (e0 _ _ <| W_block fun hu e1 hv => W_loop (σ := Nat × Int) (fun (av, aa) => [(0, v0), (1, v1), (5, bc), (6, a3), (25, .int .i64 (al.length : Int)), (26, .int .i64 aa)]) (fun (av, aa) w => law18_LabelSplits.l3 av x0 x1 al ax aa = some r ∧ St w0 cg ((.row a3 28 ((Rep.slice (Rep.int .i32)).sz) ax.length a0) :: (.row bc 28 ((Rep.slice (Rep.int .i32)).sz) al.length bd) :: Γ) w) (fun s => s.1) (K0, 0) (by repeat first | exact Sub.nil | refine Sub.cons rfl ?_) (Ai H hs) ?_))
    rintro ⟨av, aa⟩ w hw ⟨H, hs⟩ be
    show W _ _ _ _ _ _ [(0, v0), (1, v1), (5, bc), (6, a3), (25, .int .i64 (al.length : Int)), (26, .int .i64 aa)] w
    cases av with
    | zero => rw [law18_LabelSplits.l3] at H; cases H
    | succ av =>
    rw [law18_LabelSplits.l3] at H
    refine Wr fun e2 ci => O_y rfl (Y_lss rfl rfl) <| O_nil (ci _ _ <| W_seq fun e3 cj => W_if rfl (fun bf => ?_) (fun bf => ?_))
    ·rw [if_pos bf] at H
     refine W_skip (cj _ _ <| W_seq fun e4 ck => W_block fun e5 e6 e7 => Wr fun e8 cl => Om rfl rfl <| Oa rfl rfl <| O_nil (cl _ _ <| W_seq fun e9 cm => W_seq fun fa cn => W_drawS 10 [0, 0, 3, 4, 0, 0, 48, 64, 136, 256] [1018, 1017, 1008, 752, 943, 927, 783, 527, 0, 0] [0, 0, 3, 7, 0, 0, 48, 112, 255, 511] [8, 9] (fun w => St w0 cg ((.row a3 28 ((Rep.slice (Rep.int .i32)).sz) ax.length a0) :: (.row bc 28 ((Rep.slice (Rep.int .i32)).sz) al.length bd) :: Γ) w) mixed (by kernel_rfl) (fun sh => ?_)))
     have hs := hs.drew
     refine Dm 0 sh rfl rfl (by kernel_rfl) rfl <| Dm 1 sh rfl rfl (by kernel_rfl) rfl ?_
     obtain ⟨ap, H⟩ := gd H
     obtain ⟨fb, a6⟩ := hs.rowBlock (j := 1) rfl (by have := ap.2; omega)
     obtain ⟨_, ⟨fc, rfl, co⟩, br⟩ := (ce.mono an).at ap.1 ap.2
     refine Dy 2 sh rfl rfl (by kernel_rfl) hs (fun w hs => Y_ixRow (j := 1) el52 hs rfl a6 rfl rfl ap.1 ap.2) <| Dy 3 sh rfl rfl (by kernel_rfl) hs (fun w hs => Y_load ag28 rfl (hs.rowCell (j := 1) rfl a6 (br 0 _ rfl))) <| Dm 4 sh rfl rfl (by kernel_rfl) rfl <| Dm 5 sh rfl rfl (by kernel_rfl) rfl ?_
     obtain ⟨a1, H⟩ := gd H
     obtain ⟨fd, a7⟩ := hs.rowBlock (j := 0) rfl (by have := a1.2; omega)
     obtain ⟨_, ⟨fe, rfl, cp⟩, bs⟩ := ev.at a1.1 a1.2
     refine Dy 6 sh rfl rfl (by kernel_rfl) hs (fun w hs => Y_ixRow (j := 0) el52 hs rfl a7 rfl rfl a1.1 a1.2) <| Dy 7 sh rfl rfl (by kernel_rfl) hs (fun w hs => Y_load ag28 rfl (hs.rowCell (j := 0) rfl a7 (bs 0 _ rfl))) <| D1 8 sh rfl (by kernel_rfl) (fun ff cq => ?_)
     obtain ⟨bo, bt, H⟩ := bnd H
     refine O_call rfl rfl (ref10_Runes.c hs co cp bt) (fun fg w hpost => ?_)
     obtain ⟨rfl, hs⟩ := hpost
     refine O_nil (cq _ _ (fun h _ => absurd h (by decide)) <| OD_resetS sh [] hs (by kernel_rfl) <| Dp 9 sh rfl rfl (by kernel_rfl) (fun w => Y_not rfl) <| OD_doneS sh (by kernel_rfl) (cn _ _ <| W.weak [(0, _), (1, _), (5, _), (6, _), (7, _), (25, _), (26, _), (38, _)] (by repeat first | exact Sub.nil | refine Sub.cons rfl ?_) ?_))
     refine W_cond rfl (fun bg => ?_) (fun bg => ?_)
     ·rw [if_pos bg] at H
      refine Wr fun fh cr => Oa rfl rfl <| O_nil (cr _ _ <| W_ret ?_)
      obtain rfl := sinj H
      exact ret1 rfl rfl ⟨rfl, ((hs.sub (ssk (ssk ssr))).less (ao.trans an))⟩
     ·rw [if_neg (bft bg)] at H
      refine W_skip (cm _ _ <| Wr fun fi ct => Om rfl rfl <| Om rfl rfl ?_)
      obtain ⟨fj, a8⟩ := hs.rowBlock (j := 1) rfl (by have := ap.2; omega)
      obtain ⟨_, ⟨bu, rfl, bv⟩, bw⟩ := (ce.mono an).at ap.1 ap.2
      refine O_y rfl (Y_ixRow (j := 1) el52 hs rfl a8 rfl rfl ap.1 ap.2) <| O_y rfl (Y_load ag28 rfl (hs.rowCell (j := 1) rfl a8 (bw 0 _ rfl))) <| O_y rfl (Y_lenR un28 bv rfl) <| Om rfl rfl <| O_nil (ct _ _ <| W_block fun fk cu fl => W_loop (σ := Nat × Int) (fun (am, ae) => [(0, v0), (1, v1), (5, bc), (6, a3), (25, .int .i64 (al.length : Int)), (26, .int .i64 aa), (42, bu), (43, .int .i64 ((rd al aa).length : Int)), (44, .int .i64 ae)]) (fun (am, ae) w => law18_LabelSplits.l1 (law18_LabelSplits.l3 av x0 x1 al ax) am al aa ae = some r ∧ St w0 cg ((.row a3 28 ((Rep.slice (Rep.int .i32)).sz) ax.length a0) :: (.row bc 28 ((Rep.slice (Rep.int .i32)).sz) al.length bd) :: Γ) w) (fun s => s.1) (K0, 0) (by repeat first | exact Sub.nil | refine Sub.cons rfl ?_) (Ai H hs) ?_)
      rintro ⟨am, ae⟩ w fm ⟨H, hs⟩ a4
      show W _ _ _ _ _ _ [(0, v0), (1, v1), (5, bc), (6, a3), (25, .int .i64 (al.length : Int)), (26, .int .i64 aa), (42, bu), (43, .int .i64 ((rd al aa).length : Int)), (44, .int .i64 ae)] w
      cases am with
      | zero => rw [law18_LabelSplits.l1] at H; cases H
      | succ am =>
      rw [law18_LabelSplits.l1] at H
      refine Wr fun fn cv => O_y rfl (Y_lss rfl rfl) <| O_nil (cv _ _ <| W_seq fun fo cw => W_if rfl (fun bh => ?_) (fun bh => ?_))
      ·rw [if_pos bh] at H
       refine W_skip (cw _ _ <| W_seq fun fp cx => W_block fun fq fr fs => W_seq fun ft cy => W_region ?_)
       obtain ⟨bx, H⟩ := gd H
       obtain ⟨fu, fv, cz, da⟩ := bv.ix el28 bx.1 bx.2
       refine O_y rfl (da rfl rfl) <| O_y rfl (Y_load ag21 rfl (hs.see cz.int)) <| Oa rfl rfl <| O_nil (cy _ _ <| Wr fun fw db => Om rfl rfl <| O_y rfl (Y_eql rfl rfl) <| O_nil (db _ _ <| W.weak [(0, _), (1, _), (5, _), (6, _), (25, _), (26, _), (42, _), (43, _), (44, _), (49, _)] (by repeat first | exact Sub.nil | refine Sub.cons rfl ?_) ?_))
       refine W_if rfl (fun bi => ?_) (fun bi => ?_)
       ·rw [if_pos bi] at H
        refine Wr fun fx dc => Oa rfl rfl <| O_nil (dc _ _ <| W_ret ?_)
        obtain rfl := sinj H
        exact ret1 rfl rfl ⟨rfl, ((hs.sub (ssk (ssk ssr))).less (ao.trans an))⟩
       ·rw [if_neg bi] at H
        refine W_skip (cx _ _ <| W_region <| O_y rfl (Y_add rfl rfl) <| Om rfl rfl <| O_nil (a4 (am, (IntKind.i64.wrap (ae + 1))) _ _ (by repeat first | exact Sub.nil | refine Sub.cons rfl ?_) (Ai H hs) (Nat.lt_succ_self _)))
      ·rw [if_neg bh] at H
       refine W_exit (cu _ _ (ck _ _ <| W_region <| O_y rfl (Y_add rfl rfl) <| Om rfl rfl <| O_nil (be (av, (IntKind.i64.wrap (aa + 1))) _ _ (by repeat first | exact Sub.nil | refine Sub.cons rfl ?_) (Ai H hs) (Nat.lt_succ_self _))))
    ·rw [if_neg bf] at H
     refine W_exit (e1 _ _ (ez _ _ <| W_seq fun fy dd => W_seq fun fz de => ?_))
     obtain ⟨ga, aq, hs, df⟩ := hs.rowEnd (j := 1) (ce.mono an) rfl
     refine W_region <| Om rfl rfl ?_
     obtain ⟨bp, bz, H⟩ := bnd H
     refine O_call rfl rfl (label_Join.c hs df bz) (fun gb w hpost => ?_)
     obtain ⟨gc, ge, en, rfl, ar, hs, dg⟩ := hpost
     refine Om rfl rfl ?_
     obtain ⟨ay, au, hs, dh⟩ := hs.rowEnd (j := 0) dg rfl
     obtain ⟨bq, b0, H⟩ := bnd H
     refine O_call rfl rfl (ref10_Runes.c hs dh (h0.mono ((((ao.trans an).trans aq).trans ar).trans au)) b0) (fun gf w hpost => ?_)
     obtain ⟨rfl, hs⟩ := hpost
     refine O_y rfl (Y_not rfl) <| O_nil (de _ _ <| W_cond rfl (fun bj => ?_) (fun bj => ?_))
     ·rw [if_pos bj] at H
      refine Wr fun gg di => Oa rfl rfl <| O_nil (di _ _ <| W_ret ?_)
      obtain rfl := sinj H
      exact ret1 rfl rfl ⟨rfl, ((hs.sub (ssk ssr)).less ((((ao.trans an).trans aq).trans ar).trans au))⟩
     ·rw [if_neg (bft bj)] at H
      refine W_skip (dd _ _ <| Wr fun gh dj => O_lit2 (xs := []) (cs := []) el28 hs rfl rfl rfl (by decide) (by decide) rfl sz_nil flat_nil (fun dk w hs => ?_))
      have dl : RowR (Rep.int .i32) ay ([]) ([] : List Int) := RowR.nil _ _
      refine Oa rfl rfl <| O_nil (dj _ _ <| W_seq fun gi dm => Wr fun gj dn => Om rfl rfl <| O_y rfl (Y_lenR un52 (h1.mono ((((ao.trans an).trans aq).trans ar).trans au)) rfl) <| Om rfl rfl <| O_nil (dn _ _ <| W.weak [(1, _), (10, _), (58, _), (59, _), (60, _)] (by repeat first | exact Sub.nil | refine Sub.cons rfl ?_) ?_))
      refine W_block fun gk dp gl => W_loop (σ := Nat × List Int × Int × Value × List Value) (fun (ah, ac, ab, af, ag) => [(1, v1), (10, af), (58, v1), (59, .int .i64 (x1.length : Int)), (60, .int .i64 ab)]) (fun (ah, ac, ab, af, ag) w => law18_LabelSplits.l2 ah x1 ac ab = some r ∧ St w0 ay ((.row af 21 ((Rep.int .i32).sz) ac.length ag) :: (.row a3 28 ((Rep.slice (Rep.int .i32)).sz) ax.length a0) :: Γ) w ∧ RowR (Rep.int .i32) ay ag ac) (fun s => s.1) (K0, ([] : List Int), 0, (.slice (some ⟨dk, 0, none⟩) 0 0), ([])) (by repeat first | exact Sub.nil | refine Sub.cons rfl ?_) (Ai H (Ai hs dl)) ?_
      rintro ⟨ah, ac, ab, af, ag⟩ w gm ⟨H, hs, ai⟩ a5
      show W _ _ _ _ _ _ [(1, v1), (10, af), (58, v1), (59, .int .i64 (x1.length : Int)), (60, .int .i64 ab)] w
      cases ah with
      | zero => rw [law18_LabelSplits.l2] at H; cases H
      | succ ah =>
      rw [law18_LabelSplits.l2] at H
      refine Wr fun gn dq => O_y rfl (Y_lss rfl rfl) <| O_nil (dq _ _ <| W_seq fun go dr => W_if rfl (fun bk => ?_) (fun bk => ?_))
      ·rw [if_pos bk] at H
       refine W_skip (dr _ _ <| W_seq fun gp ds => W_block fun gq gr gs => Wr fun gt dt => Om rfl rfl ?_)
       obtain ⟨b1, H⟩ := gd H
       obtain ⟨gu, gv, du, dv⟩ := (h1.mono ((((ao.trans an).trans aq).trans ar).trans au)).ix el52 b1.1 b1.2
       obtain ⟨dw, dx, dy⟩ := du.slice
       refine O_y rfl (dv rfl rfl) <| O_y rfl (Y_load ag28 rfl (hs.see dx)) <| Oa rfl rfl <| Oa rfl rfl <| O_nil (dt _ _ <| W_seqj fun dz ea b2 => ?_)
       have b3 : ∀ (ad : List Int) (aj : Value) (ak : List Value) (w : World), law18_LabelSplits.j1 (law18_LabelSplits.l2 ah x1) x1 ab ad = some r → St w0 ay ((.row aj 21 ((Rep.int .i32).sz) ad.length ak) :: (.row a3 28 ((Rep.slice (Rep.int .i32)).sz) ax.length a0) :: Γ) w → RowR (Rep.int .i32) ay ak ad → dz [(1, v1), (10, aj), (12, dw), (58, v1), (59, .int .i64 (x1.length : Int)), (60, .int .i64 ab)] w := by
        intro ad aj ak w H hs aw
        rw [law18_LabelSplits.j1] at H
        refine ea _ _ <| W_region <| Om rfl rfl <| Om rfl rfl ?_
        obtain ⟨eo, b4, b5⟩ := Src.sl hs dy
        obtain ⟨eb, H⟩ := gd H
        refine O_appendR (i := 0) el28 hs rfl aw rfl rfl rfl b4 b5 eb (fun ec b6 w ed hs => Oa rfl rfl <| O_nil (ds _ _ <| W_region <| O_y rfl (Y_add rfl rfl) <| Om rfl rfl <| O_nil (a5 (ah, (ad ++ (rd x1 ab)), (IntKind.i64.wrap (ab + 1)), ec, b6) _ _ (by repeat first | exact Sub.nil | refine Sub.cons rfl ?_) (Ai H (Ai hs ed)) (Nat.lt_succ_self _))))
       refine Wr fun gw ee => Om rfl rfl <| O_y rfl (Y_gtr rfl rfl) <| O_nil (ee _ _ <| W_if rfl (fun bl => ?_) (fun bl => ?_))
       ·rw [if_pos bl] at H
        refine W_region <| Om rfl rfl <| O_lit2 (xs := [.const (.int .i32 46)]) (cs := [.int .i32 46]) el28 hs rfl rfl rfl (by decide) (by decide) rfl (sz_cons rfl sz_nil) (flat_cons rfl flat_nil) (fun gx w hs => ?_)
        have b7 : RowR (Rep.int .i32) ay ([.int .i32 46]) [46] := RowR.cons (c := [.int .i32 46]) (x := 46) rfl (RowR.nil _ _)
        obtain ⟨ef, H⟩ := gd H
        refine O_appendR (i := 1) el28 hs rfl ai rfl rfl rfl (Src.lit (j := 0) hs rfl b7) b7 ef (fun eg b8 w eh hs => Oa rfl rfl <| O_nil (b2 _ _ _ (by repeat first | exact Sub.nil | refine Sub.cons rfl ?_) (b3 (ac ++ ([46])) eg b8 _ H (hs.sub (ssk (ssc (ssc ssr)))) eh)))
       ·rw [if_neg bl] at H
        exact W_skip (b2 _ _ _ (by repeat first | exact Sub.nil | refine Sub.cons rfl ?_) (b3 ac af ag _ H hs ai))
      ·rw [if_neg bk] at H
       refine W_exit (dp _ _ (dm _ _ <| W_seq fun gy ei => ?_))
       obtain ⟨gz, a9, hs, ej⟩ := hs.rowEnd (j := 0) ai rfl
       refine W_region <| Om rfl rfl ?_
       obtain ⟨bm, b9, H⟩ := bnd H
       refine O_call rfl rfl (label_Join.c hs (h1.mono (((((ao.trans an).trans aq).trans ar).trans au).trans a9)) b9) (fun ha w hpost => ?_)
       obtain ⟨hb, hc, ep, rfl, ba, hs, ek⟩ := hpost
       refine Om rfl rfl ?_
       obtain ⟨hd, bb, hs, el⟩ := hs.rowEnd (j := 0) ek rfl
       obtain ⟨bn, ca, H⟩ := bnd H
       refine O_call rfl rfl (ref10_Runes.c hs el (ej.mono (ba.trans bb)) ca) (fun he w hpost => ?_)
       obtain ⟨rfl, hs⟩ := hpost
       refine Oa rfl rfl <| O_nil (ei _ _ <| W_ret ?_)
       obtain rfl := sinj H
       exact ret1 rfl rfl ⟨rfl, ((hs.sub (ssk ssr)).less (((((((ao.trans an).trans aq).trans ar).trans au).trans a9).trans ba).trans bb))⟩

end Go.Proofs.YthoicbafdanmkaaGreatDoor
/- Plain laws of the canonical order: a stable sort of each stretch without class 0; what is ordered in pieces is ordered in all. Own work of this repo; it needs no walk. -/
namespace Go.Proofs.YthoicbafdanmkaaGreatDoor

section
variable {α : Type} (key : α → Int)
def insL (x : α) : List α → List α
  | [] => [x]
  | y :: t => if key x ≤ key y then x :: y :: t else y :: insL x t
def sortL : List α → List α
  | [] => []
  | x :: t => insL key x (sortL t)
def Srt : List α → Prop
  | [] => True
  | x :: t => (∀ y ∈ t, key x ≤ key y) ∧ Srt t
def Feq (a b : List α) : Prop := ∀ c, a.filter (fun x => decide (key x = c)) = b.filter (fun x => decide (key x = c))
theorem Feq.refl (a : List α) : Feq key a a := fun _ => rfl
theorem Feq.symm {a b : List α} (h : Feq key a b) : Feq key b a := fun c => (h c).symm
theorem Feq.trans {a b c : List α} (h : Feq key a b) (g : Feq key b c) : Feq key a c := fun d => (h d).trans (g d)
theorem Feq.app {a a' b b' : List α} (h : Feq key a a') (g : Feq key b b') : Feq key (a ++ b) (a' ++ b') := fun c => by rw [List.filter_append, List.filter_append, h c, g c]
theorem Feq.mem {a b : List α} (h : Feq key a b) {x : α} (hx : x ∈ a) : x ∈ b := by
  have : x ∈ a.filter (fun y => decide (key y = key x)) := List.mem_filter.2 ⟨hx, by simp⟩
  rw [h] at this
  exact (List.mem_filter.1 this).1
theorem mem_ins {x y : α} {t : List α} : y ∈ insL key x t ↔ y = x ∨ y ∈ t := by
  induction t with
  | nil => simp [insL]
  | cons z t ih =>
    unfold insL
    split
    · simp
    · simp only [List.mem_cons, ih]
      constructor
      · rintro (h | h | h) <;> simp [h]
      · rintro (h | h | h) <;> simp [h]
theorem srt_ins {x : α} : ∀ {t : List α}, Srt key t → Srt key (insL key x t)
  | [], _ => ⟨fun y hy => (by cases hy), trivial⟩
  | y :: t, h => by
    unfold insL
    split
    · rename_i c
      refine ⟨fun z hz => ?_, h⟩
      rcases List.mem_cons.1 hz with rfl | hz
      · exact c
      · exact Int.le_trans c (h.1 z hz)
    · rename_i c
      refine ⟨fun z hz => ?_, srt_ins h.2⟩
      rcases (mem_ins key).1 hz with rfl | hz
      · omega
      · exact h.1 z hz
theorem feq_ins (x : α) : ∀ (t : List α), Feq key (insL key x t) (x :: t)
  | [], _ => rfl
  | y :: t, c => by
    unfold insL
    split
    · rfl
    · rename_i h
      have ih := feq_ins x t c
      simp only [List.filter_cons] at ih ⊢
      rw [ih]
      by_cases c1 : key y = c
      · have : ¬ key x = c := by omega
        simp [c1, this]
      · simp [c1]
theorem srt_sort : ∀ (l : List α), Srt key (sortL key l)
  | [] => trivial
  | _ :: t => srt_ins key (srt_sort t)
theorem feq_sort : ∀ (l : List α), Feq key (sortL key l) l
  | [], _ => rfl
  | x :: t, c => by
    rw [sortL, feq_ins key x _ c, List.filter_cons, List.filter_cons, feq_sort t c]
theorem srt_unique : ∀ {a b : List α}, Srt key a → Srt key b → Feq key a b → a = b
  | [], [], _, _, _ => rfl
  | [], y :: b, _, _, h => by have := Feq.mem key (Feq.symm key h) (List.mem_cons_self (a := y) (l := b)); cases this
  | x :: a, [], _, _, h => by have := Feq.mem key h (List.mem_cons_self (a := x) (l := a)); cases this
  | x :: a, y :: b, ha, hb, h => by
    have h1 : key y ≤ key x := by
      rcases List.mem_cons.1 (Feq.mem key h (List.mem_cons_self (a := x) (l := a))) with e | e
      · rw [e]; exact Int.le_refl _
      · exact hb.1 x e
    have h2 : key x ≤ key y := by
      rcases List.mem_cons.1 (Feq.mem key (Feq.symm key h) (List.mem_cons_self (a := y) (l := b))) with e | e
      · rw [e]; exact Int.le_refl _
      · exact ha.1 y e
    have hk : key x = key y := by omega
    have h3 := h (key x)
    rw [List.filter_cons, List.filter_cons, if_pos (by simp), if_pos (by simp [hk])] at h3
    have hxy : x = y := (List.cons.inj h3).1
    subst hxy
    rw [srt_unique ha.2 hb.2 (fun c => by
      by_cases e : key x = c
      · subst e; exact (List.cons.inj h3).2
      · have := h c
        rw [List.filter_cons, List.filter_cons, if_neg (by simp [e]), if_neg (by simp [e])] at this
        exact this)]
theorem sort_feq {a b : List α} (h : Feq key a b) : sortL key a = sortL key b :=
  srt_unique key (srt_sort key a) (srt_sort key b) (Feq.trans key (feq_sort key a) (Feq.trans key h (Feq.symm key (feq_sort key b))))
theorem sort_is {a b : List α} (h : Srt key b) (g : Feq key a b) : sortL key a = b :=
  srt_unique key (srt_sort key a) h (Feq.trans key (feq_sort key a) g)
theorem sort_mem {l : List α} {x : α} (h : x ∈ sortL key l) : x ∈ l := Feq.mem key (feq_sort key l) h
theorem sort_len : ∀ (l : List α), (sortL key l).length = l.length := by
  have ins : ∀ (x : α) (t : List α), (insL key x t).length = t.length + 1 := by
    intro x t
    induction t with
    | nil => rfl
    | cons y t ih => unfold insL; split <;> simp [ih]
  intro l
  induction l with
  | nil => rfl
  | cons x t ih => rw [sortL, ins, ih]; rfl
theorem feq_swap {x y : List α} (h : ∀ a ∈ x, ∀ b ∈ y, key b < key a) : Feq key (x ++ y) (y ++ x) := by
  intro c
  rw [List.filter_append, List.filter_append]
  by_cases e : x.filter (fun z => decide (key z = c)) = []
  · rw [e]; simp
  · obtain ⟨a, ha⟩ := List.exists_mem_of_ne_nil _ e
    have ha := List.mem_filter.1 ha
    have : y.filter (fun z => decide (key z = c)) = [] := by
      rw [List.filter_eq_nil_iff]
      intro b hb
      have := h a ha.1 b hb
      have e2 : key a = c := by simpa using ha.2
      simp; omega
    rw [this]; simp
theorem srt_app : ∀ {a b : List α}, Srt key a → Srt key b → (∀ x ∈ a, ∀ y ∈ b, key x ≤ key y) → Srt key (a ++ b)
  | [], _, _, hb, _ => hb
  | x :: a, b, ha, hb, h => by
    refine ⟨fun z hz => ?_, srt_app ha.2 hb fun u hu v hv => h u (List.mem_cons_of_mem _ hu) v hv⟩
    rcases List.mem_append.1 hz with hz | hz
    · exact ha.1 z hz
    · exact h x (List.mem_cons_self ..) z hz
theorem srt_parts {b : List α} : ∀ {a : List α}, Srt key (a ++ b) → Srt key a ∧ Srt key b ∧ ∀ x ∈ a, ∀ y ∈ b, key x ≤ key y
  | [], h => ⟨trivial, h, fun x hx => (by cases hx)⟩
  | x :: a, h => by
    obtain ⟨h1, h2, h3⟩ := srt_parts h.2
    refine ⟨⟨fun y hy => h.1 y (List.mem_append_left _ hy), h1⟩, h2, fun u hu v hv => ?_⟩
    rcases List.mem_cons.1 hu with rfl | hu
    · exact h.1 v (List.mem_append_right _ hv)
    · exact h3 u hu v hv

def ordA (acc : List α) : List α → List α
  | [] => sortL key acc
  | x :: t => if key x = 0 then sortL key acc ++ x :: ordA [] t else ordA (acc ++ [x]) t
def ordL (l : List α) : List α := ordA key [] l
theorem ordA_run : ∀ (s : List α) (acc l : List α), (∀ x ∈ s, key x ≠ 0) → ordA key acc (s ++ l) = ordA key (acc ++ s) l
  | [], acc, l, _ => by simp
  | x :: s, acc, l, h => by
    rw [List.cons_append, ordA, if_neg (h x (List.mem_cons_self ..)), ordA_run s _ l fun y hy => h y (List.mem_cons_of_mem _ hy)]
    simp
theorem ordA_len : ∀ (l acc : List α), (ordA key acc l).length = acc.length + l.length
  | [], acc => by simp [ordA, sort_len]
  | x :: t, acc => by
    unfold ordA
    split
    · simp [sort_len, ordA_len t]
    · simp [ordA_len t]; omega
theorem ord_len (l : List α) : (ordL key l).length = l.length := by simp [ordL, ordA_len]
theorem merge_split {a x y b : List α} (h1 : Srt key (a ++ x)) (h2 : Srt key (y ++ b)) (h3 : ∀ u ∈ x, ∀ v ∈ y, key v < key u) (h4 : ∀ u ∈ a, ∀ v ∈ b, key u ≤ key v) :
    sortL key ((a ++ x) ++ (y ++ b)) = sortL key (a ++ y) ++ sortL key (x ++ b) := by
  obtain ⟨_, _, h1c⟩ := srt_parts key h1
  obtain ⟨_, _, h2c⟩ := srt_parts key h2
  refine sort_is key (srt_app key (srt_sort key _) (srt_sort key _) fun u hu v hv => ?_) ?_
  · rcases List.mem_append.1 (sort_mem key hu) with hu | hu <;> rcases List.mem_append.1 (sort_mem key hv) with hv | hv
    · exact h1c u hu v hv
    · exact h4 u hu v hv
    · exact Int.le_of_lt (h3 v hv u hu)
    · exact h2c u hu v hv
  · refine Feq.trans key ?_ (Feq.app key (Feq.symm key (feq_sort key (a ++ y))) (Feq.symm key (feq_sort key (x ++ b))))
    have := Feq.app key (Feq.app key (Feq.refl key a) (feq_swap key h3)) (Feq.refl key b)
    simpa [List.append_assoc] using this
theorem merge_first {u : α} {y b : List α} (h2 : Srt key (y ++ b)) (h3 : ∀ v ∈ y, key v < key u) (h4 : ∀ v ∈ b, key u ≤ key v) : sortL key (u :: (y ++ b)) = y ++ u :: b := by
  obtain ⟨hy, hb, hc⟩ := srt_parts key h2
  refine sort_is key (srt_app key hy ⟨h4, hb⟩ fun v hv w hw => ?_) ?_
  · rcases List.mem_cons.1 hw with rfl | hw
    · exact Int.le_of_lt (h3 v hv)
    · exact hc v hv w hw
  · have := Feq.app key (feq_swap key (x := [u]) (y := y) fun a ha v hv => by rw [List.mem_singleton.1 ha]; exact h3 v hv) (Feq.refl key b)
    simpa using this
theorem merge_last {v : α} {a x : List α} (h1 : Srt key (a ++ x)) (h3 : ∀ u ∈ x, key v < key u) (h4 : ∀ u ∈ a, key u ≤ key v) : sortL key (a ++ x ++ [v]) = a ++ v :: x := by
  obtain ⟨ha, hx, hc⟩ := srt_parts key h1
  refine sort_is key (srt_app key ha ⟨fun u hu => Int.le_of_lt (h3 u hu), hx⟩ fun u hu w hw => ?_) ?_
  · rcases List.mem_cons.1 hw with rfl | hw
    · exact h4 u hu
    · exact hc u hu w hw
  · have := Feq.app key (Feq.refl key a) (feq_swap key (x := x) (y := [v]) fun u hu w hw => by rw [List.mem_singleton.1 hw]; exact h3 u hu)
    simpa [List.append_assoc] using this
theorem sort_front (a b : List α) : sortL key (sortL key a ++ b) = sortL key (a ++ b) := sort_feq key (Feq.app key (feq_sort key a) (Feq.refl key b))
theorem sort_id {a : List α} (h : Srt key a) : sortL key a = a := sort_is key h (Feq.refl key a)
end
end Go.Proofs.YthoicbafdanmkaaGreatDoor
/- Plain laws, first part: loops over lists; what each check of a book says. Own work of this repo. -/
namespace Go.Proofs.YthoicbafdanmkaaGreatDoor
open Go.RowKit

theorem w32 {x : Int} (h0 : -2147483648 ≤ x) (h1 : x ≤ 2147483647) : IntKind.i32.wrap x = x := by rw [IntKind.wrap_i32]; omega
theorem w64 {x : Int} (h0 : -9223372036854775808 ≤ x) (h1 : x ≤ 9223372036854775807) : IntKind.i64.wrap x = x := by rw [IntKind.wrap_i64]; omega
theorem w16 {x : Int} (h0 : 0 ≤ x) (h1 : x < 65536) : IntKind.u16.wrap x = x := by rw [IntKind.wrap_u16]; omega

def bigN : Nat := 1073741824
theorem mid {α : Type} [Inhabited α] {xs pre t : List α} {x : α} (e : xs = pre ++ x :: t) : rd xs (pre.length : Int) = x ∧ ((0 : Int) ≤ (pre.length : Int) ∧ (pre.length : Int) < (xs.length : Int)) := by
  subst e
  refine ⟨by simp [rd], by omega, by simp; omega⟩
theorem nxt {α : Type} {xs pre t : List α} {x : α} (hx : xs.length ≤ bigN) (e : xs = pre ++ x :: t) : IntKind.i64.wrap ((pre.length : Int) + 1) = (pre.length : Int) + 1 := by
  have : xs.length = pre.length + (t.length + 1) := by rw [e]; simp
  unfold bigN at hx
  exact w64 (by omega) (by omega)
theorem loop_ind {α σ β : Type} (L : Nat → Int → σ → Option β) (xs : List α) (Spec : List α → List α → σ → Option β → Prop)
    (hnil : ∀ s k, Spec xs [] s (L (k + 1) (xs.length : Int) s))
    (hcons : ∀ pre x t s k, xs = pre ++ x :: t → (∀ s', Spec (pre ++ [x]) t s' (L k ((pre.length : Int) + 1) s')) → Spec pre (x :: t) s (L (k + 1) (pre.length : Int) s)) :
    ∀ s k, xs.length < k → Spec [] xs s (L k 0 s) := by
  have key : ∀ t pre s k, xs = pre ++ t → t.length < k → Spec pre t s (L k (pre.length : Int) s) := by
    intro t
    induction t with
    | nil =>
      intro pre s k e hk
      obtain ⟨k, rfl⟩ : ∃ j, k = j + 1 := ⟨k - 1, by simp at hk; omega⟩
      have : xs = pre := by rw [e]; simp
      subst this
      exact hnil s k
    | cons x t ih =>
      intro pre s k e hk
      obtain ⟨k, rfl⟩ : ∃ j, k = j + 1 := ⟨k - 1, by simp at hk; omega⟩
      refine hcons pre x t s k e (fun s' => ?_)
      have := ih (pre ++ [x]) s' k (by rw [e]; simp) (by simp at hk; omega)
      simpa using this
  intro s k hk
  have := key xs [] s k rfl hk
  simpa using this
theorem ltK {n : Nat} (h : n ≤ bigN) : n < K0 := by unfold bigN at h; unfold K0; omega

def Says (r : Int) (b : Bool) : Prop := (b = true ∧ r = -1) ∨ (b = false ∧ 0 ≤ r)
theorem Says.val {r : Int} {b : Bool} (h : Says r b) : (decide (0 ≤ r)) = !b := by
  rcases h with ⟨rfl, rfl⟩ | ⟨rfl, h⟩ <;> simp [*]

def okRows {α : Type} (lo hi : α → Int) (may : α → Bool) : Int → List α → Bool
  | _, [] => true
  | last, x :: t => decide (last < lo x) && decide (lo x ≤ hi x) && decide (hi x ≤ 1114111) && may x && okRows lo hi may (hi x) t
theorem okRows_no1 {α : Type} {lo hi : α → Int} {may : α → Bool} {last : Int} {x : α} {t : List α} (h : lo x ≤ last ∨ hi x < lo x ∨ 1114111 < hi x ∨ may x = false) : okRows lo hi may last (x :: t) = false := by
  rcases h with h | h | h | h
  · simp [okRows, show ¬ last < lo x by omega]
  · simp [okRows, show ¬ lo x ≤ hi x by omega]
  · simp [okRows, show ¬ hi x ≤ 1114111 by omega]
  · simp [okRows, h]
theorem okRows_yes {α : Type} {lo hi : α → Int} {may : α → Bool} {last : Int} {x : α} {t : List α} (h1 : ¬ lo x ≤ last) (h2 : ¬ hi x < lo x) (h3 : ¬ 1114111 < hi x) (h4 : may x = true) : okRows lo hi may last (x :: t) = okRows lo hi may (hi x) t := by
  simp [okRows, h4, show last < lo x by omega, show lo x ≤ hi x by omega, show hi x ≤ 1114111 by omega]

def letterB (c : Int) : Bool := decide (97 ≤ c ∧ c ≤ 122) || decide (65 ≤ c ∧ c ≤ 90)
theorem letter_or : ∀ n : Fin 256, (decide (97 ≤ bOr .u8 (n.val : Int) 32) && decide (bOr .u8 (n.val : Int) 32 ≤ 122)) = letterB (n.val : Int) := by decide +kernel
def nameB (s : ByteArray) : Bool := decide (1 ≤ s.size) && decide (s.size ≤ 32) && (bytesI s).all letterB
theorem bytesI_range {s : ByteArray} {c : Int} (h : c ∈ bytesI s) : ∃ n : Fin 256, c = (n.val : Int) := by
  simp only [bytesI, List.mem_map] at h
  obtain ⟨b, _, rfl⟩ := h
  exact ⟨⟨b.toNat, b.toNat_lt⟩, rfl⟩
theorem isName_loop (s : ByteArray) (hs : s.size ≤ 32) : book_isName.l1 K0 s 0 = some ((bytesI s).all letterB) := by
  have hl : (bytesI s).length ≤ bigN := by rw [bytesI_length]; unfold bigN; omega
  refine loop_ind (fun k i (_ : Unit) => book_isName.l1 k s i) (bytesI s) (fun pre t _ o => o = some (t.all letterB)) ?_ ?_ () K0 (ltK hl)
  · intro _ k
    simp only [book_isName.l1, if_neg (show ¬ ((bytesI s).length : Int) < ((bytesI s).length : Int) by omega), List.all_nil]
  · intro pre x t _ k e ih
    obtain ⟨h1, h2⟩ := mid e
    obtain ⟨n, hn⟩ := bytesI_range (s := s) (c := x) (by rw [e]; simp)
    have hx := letter_or n
    rw [← hn] at hx
    simp only [book_isName.l1, if_pos h2.2, if_pos h2, h1, book_isName.j1, nxt hl e, List.all_cons]
    by_cases c1 : bOr .u8 x 32 < 97
    · have : letterB x = false := by rw [← hx]; simp [show ¬ 97 ≤ bOr .u8 x 32 by omega]
      simp [c1, this]
    · by_cases c2 : 122 < bOr .u8 x 32
      · have : letterB x = false := by rw [← hx]; simp [show ¬ bOr .u8 x 32 ≤ 122 by omega]
        simp [c1, c2, this]
      · have : letterB x = true := by rw [← hx]; simp [show 97 ≤ bOr .u8 x 32 by omega, show bOr .u8 x 32 ≤ 122 by omega]
        simp only [if_neg c1, c2, decide_false, Bool.false_eq_true, if_false, this, Bool.true_and]
        exact ih ()
theorem isName_eq (s : ByteArray) : book_isName.f s = some (nameB s) := by
  unfold book_isName.f book_isName.j2 nameB
  by_cases h1 : (s.size : Int) < 1
  · rw [if_pos h1, if_pos rfl]; simp [show ¬ 1 ≤ s.size by omega]
  · by_cases h2 : (32 : Int) < s.size
    · rw [if_neg h1, if_pos (by simpa using h2)]; simp [show ¬ s.size ≤ 32 by omega]
    · rw [if_neg h1, if_neg (by simpa using h2), isName_loop s (by omega)]
      simp [show 1 ≤ s.size by omega, show s.size ≤ 32 by omega]
def hasB : List ByteArray → ByteArray → Bool
  | [], _ => false
  | x :: t, y => decide (x = y) || hasB t y
theorem sub_pre {α : Type} {xs pre t : List α} (e : xs = pre ++ t) : sub xs 0 (pre.length : Int) = pre := by
  subst e
  simp [sub]
theorem index_eq (l : List ByteArray) (hl : l.length ≤ bigN) (y : ByteArray) : ∃ r, slices_Index_string_string.f l y = some r ∧ Says r (!hasB l y) := by
  refine loop_ind (fun k i (_ : Unit) => slices_Index_string_string.l1 k l y i) l (fun pre t _ o => ∃ r, o = some r ∧ Says r (!hasB t y)) ?_ ?_ () K0 (ltK hl)
  · intro _ k
    exact ⟨-1, by simp only [slices_Index_string_string.l1, if_neg (show ¬ (l.length : Int) < (l.length : Int) by omega)], .inl ⟨rfl, rfl⟩⟩
  · intro pre x t _ k e ih
    obtain ⟨h1, h2⟩ := mid e
    simp only [slices_Index_string_string.l1, if_pos h2.2, if_pos h2, h1, nxt hl e]
    by_cases c : y = x
    · exact ⟨pre.length, by rw [if_pos c], .inr ⟨by simp [hasB, c], by omega⟩⟩
    · rw [if_neg c]
      obtain ⟨r, h3, h4⟩ := ih ()
      refine ⟨r, h3, ?_⟩
      have : hasB (x :: t) y = hasB t y := by simp [hasB, Ne.symm c]
      rwa [this]
theorem contains_eq (l : List ByteArray) (hl : l.length ≤ bigN) (y : ByteArray) : slices_Contains_string_string.f l y = some (hasB l y) := by
  obtain ⟨r, h1, h2⟩ := index_eq l hl y
  simp only [slices_Contains_string_string.f, h1, Option.bind_some, h2.val, Bool.not_not]
def okNames : List ByteArray → List ByteArray → Bool
  | _, [] => true
  | pre, s :: t => nameB s && !hasB pre s && okNames (pre ++ [s]) t
def namesB (l : List ByteArray) : Bool := decide (l.length ≤ 64) && okNames [] l
theorem names_eq (l : List ByteArray) : ∃ r, book_names.f l = some r ∧ Says r (namesB l) := by
  unfold book_names.f namesB
  by_cases h : (64 : Int) < l.length
  · exact ⟨64, by rw [if_pos h], .inr ⟨by simp [show ¬ l.length ≤ 64 by omega], by decide⟩⟩
  · rw [if_neg h]
    have hl : l.length ≤ bigN := by unfold bigN; omega
    simp only [show l.length ≤ 64 by omega, decide_true, Bool.true_and]
    refine loop_ind (fun k i (_ : Unit) => book_names.l1 k l i) l (fun pre t _ o => ∃ r, o = some r ∧ Says r (okNames pre t)) ?_ ?_ () K0 (ltK hl)
    · intro _ k
      exact ⟨-1, by simp only [book_names.l1, if_neg (show ¬ (l.length : Int) < (l.length : Int) by omega)], .inl ⟨rfl, rfl⟩⟩
    · intro pre x t _ k e ih
      obtain ⟨h1, h2⟩ := mid e
      have hp : pre.length ≤ bigN := by rw [e] at hl; simp at hl; omega
      simp only [book_names.l1, if_pos h2.2, if_pos h2, h1, isName_eq, Option.bind_some, book_names.j1, nxt hl e, okNames]
      cases c : nameB x with
      | false => exact ⟨pre.length, by simp, .inr ⟨by simp, by omega⟩⟩
      | true =>
        simp only [Bool.not_true, Bool.false_eq_true, if_false]
        rw [if_pos ⟨by decide, h2.1, by omega⟩, sub_pre e, contains_eq pre hp, Option.bind_some]
        cases c2 : hasB pre x with
        | true => exact ⟨pre.length, by simp, .inr ⟨by simp, by omega⟩⟩
        | false => simpa using ih ()
end Go.Proofs.YthoicbafdanmkaaGreatDoor
/- Plain laws of slices.SortStableFunc as the canonical order calls it: it sorts stably by class. Own work of this repo. -/
namespace Go.Proofs.YthoicbafdanmkaaGreatDoor
open Go.RowKit

theorem rd_at {A B : List Int} {x i : Int} (h : i = (A.length : Int)) : rd (A ++ x :: B) i = x := by subst h; simp [rd]
theorem rd_at1 {A B : List Int} {u v i : Int} (h : i = (A.length : Int) + 1) : rd (A ++ u :: v :: B) i = v := by
  have := rd_at (A := A ++ [u]) (B := B) (x := v) (i := i) (by simp; omega)
  simpa using this
theorem rd_far {A C D : List Int} {x y i : Int} (h : i = (A.length : Int) + 1 + C.length) : rd (A ++ x :: (C ++ y :: D)) i = y := by
  have := rd_at (A := A ++ x :: C) (B := D) (x := y) (i := i) (by simp; omega)
  simpa using this
theorem set_at {A B : List Int} {x y : Int} {n : Nat} (h : n = A.length) : (A ++ x :: B).set n y = A ++ y :: B := by
  subst h; rw [List.set_append_right _ _ (Nat.le_refl _)]; simp
theorem set_at1 {A B : List Int} {u v y : Int} {n : Nat} (h : n = A.length + 1) : (A ++ u :: v :: B).set n y = A ++ u :: y :: B := by
  have := set_at (A := A ++ [u]) (B := B) (x := v) (y := y) (n := n) (by simp [h])
  simpa using this
theorem set_far {A C D : List Int} {x y z : Int} {n : Nat} (h : n = A.length + 1 + C.length) : (A ++ x :: (C ++ y :: D)).set n z = A ++ x :: (C ++ z :: D) := by
  have := set_at (A := A ++ x :: C) (B := D) (x := y) (y := z) (n := n) (by simp [h]; omega)
  simpa using this
theorem half {x : Int} (h0 : 0 ≤ x) (h1 : x < 4611686018427387904) : IntKind.i64.wrap ((IntKind.u64.wrap (IntKind.i64.wrap x)).fdiv (2 ^ (min (1 : Int).toNat IntKind.u64.bits))) = x / 2 := by
  rw [w64 (x := x) (by omega) (by omega), show IntKind.u64.wrap x = x from by rw [IntKind.wrap_u64]; omega]
  have : (2 : Int) ^ (min (1 : Int).toNat IntKind.u64.bits) = 2 := by decide
  rw [this, Int.fdiv_eq_ediv_of_nonneg _ (by omega)]
  exact w64 (by omega) (by omega)

def cI (a b : Int) : Int := if a < b then -1 else if b < a then 1 else 0
theorem cI_lt {a b : Int} : cI a b < 0 ↔ a < b := by
  unfold cI
  by_cases h : a < b
  · rw [if_pos h]; omega
  · rw [if_neg h]; by_cases h2 : b < a
    · rw [if_pos h2]; omega
    · rw [if_neg h2]; omega
def Cmp (t : Option Tbs) (key : Int → Int) : Prop := ∀ a b, canon_Order_1_ccl.f a b t = some (cI (key a) (key b))

section
variable {t : Option Tbs} {key : Int → Int}
theorem ins_inner (hc : Cmp t key) (go : List Int → Int → Option (List Int)) (P : List Int) (v i : Int) : ∀ (n : Nat) (S rest : List Int) (k : Nat), S.length = n → n < k → P.length + n + 1 + rest.length ≤ bigN →
    ∃ S1 S2, S = S1 ++ S2 ∧ (∀ u ∈ S2, key v < key u) ∧ (∀ S' u, S1 = S' ++ [u] → ¬ key v < key u) ∧
      slices_insertionSortCmpFunc_rune_lbg.l1 go k t (P.length : Int) i (P ++ (S ++ v :: rest)) ((P.length : Int) + n) = go (P ++ (S1 ++ v :: (S2 ++ rest))) (IntKind.i64.wrap (i + 1)) := by
  intro n
  induction n with
  | zero =>
    intro S rest k hS hk hb
    obtain rfl := List.eq_nil_of_length_eq_zero hS
    obtain ⟨k, rfl⟩ : ∃ j, k = j + 1 := ⟨k - 1, by omega⟩
    refine ⟨[], [], rfl, fun u hu => (by cases hu), fun S' u h => (by simp at h), ?_⟩
    simp only [slices_insertionSortCmpFunc_rune_lbg.l1, if_neg (show ¬ (P.length : Int) < (P.length : Int) + ((0 : Nat) : Int) by omega), slices_insertionSortCmpFunc_rune_lbg.j1, Bool.false_eq_true, if_false, List.nil_append]
  | succ n ih =>
    intro S rest k hS hk hb
    obtain ⟨k, rfl⟩ : ∃ j, k = j + 1 := ⟨k - 1, by omega⟩
    rcases List.eq_nil_or_concat S with rfl | ⟨S', u, rfl⟩
    · simp at hS
    have hS' : S'.length = n := by simpa using hS
    have hb' := hb
    unfold bigN at hb'
    have e : P ++ ((S' ++ [u]) ++ v :: rest) = (P ++ S') ++ u :: v :: rest := by simp
    have hl : ((P ++ S') ++ u :: v :: rest).length = P.length + n + 2 + rest.length := by simp [hS']; omega
    have e1 : IntKind.i64.wrap ((P.length : Int) + ((n + 1 : Nat) : Int) - 1) = (P.length : Int) + n := by rw [w64 (by omega) (by omega)]; omega
    have r1 : rd ((P ++ S') ++ u :: v :: rest) ((P.length : Int) + ((n + 1 : Nat) : Int)) = v := rd_at1 (by simp [hS']; omega)
    have r2 : rd ((P ++ S') ++ u :: v :: rest) ((P.length : Int) + (n : Int)) = u := rd_at (by simp [hS'])
    rw [List.concat_eq_append, e]
    simp only [slices_insertionSortCmpFunc_rune_lbg.l1, if_pos (show (P.length : Int) < (P.length : Int) + ((n + 1 : Nat) : Int) by omega), e1, hl, if_pos (show (0 : Int) ≤ (P.length : Int) + ((n + 1 : Nat) : Int) ∧ (P.length : Int) + ((n + 1 : Nat) : Int) < ((P.length + n + 2 + rest.length : Nat) : Int) by omega),
      if_pos (show (0 : Int) ≤ (P.length : Int) + (n : Int) ∧ (P.length : Int) + (n : Int) < ((P.length + n + 2 + rest.length : Nat) : Int) by omega), r1, r2, hc v u, Option.bind_some]
    by_cases c : key v < key u
    · have c' : decide (cI (key v) (key u) < 0) = true := decide_eq_true (cI_lt.2 c)
      rw [c']
      simp only [slices_insertionSortCmpFunc_rune_lbg.j1, if_true, List.length_set, e1, hl, if_pos (show (0 : Int) ≤ (P.length : Int) + ((n + 1 : Nat) : Int) ∧ (P.length : Int) + ((n + 1 : Nat) : Int) < ((P.length + n + 2 + rest.length : Nat) : Int) by omega),
        if_pos (show (0 : Int) ≤ (P.length : Int) + (n : Int) ∧ (P.length : Int) + (n : Int) < ((P.length + n + 2 + rest.length : Nat) : Int) by omega), r1, r2]
      rw [set_at1 (by simp [hS']; omega), set_at (by simp [hS']; omega)]
      obtain ⟨S1, S2, h1, h2, h3, h4⟩ := ih S' (u :: rest) k hS' (by omega) (by simp; omega)
      refine ⟨S1, S2 ++ [u], by rw [h1]; simp, fun w hw => ?_, h3, ?_⟩
      · rcases List.mem_append.1 hw with hw | hw
        · exact h2 w hw
        · rw [List.mem_singleton.1 hw]; exact c
      · have e2 : P ++ S' ++ v :: u :: rest = P ++ (S' ++ v :: u :: rest) := by simp
        rw [e2, h4]; simp
    · have c' : decide (cI (key v) (key u) < 0) = false := decide_eq_false (fun h => c (cI_lt.1 h))
      rw [c']
      simp only [slices_insertionSortCmpFunc_rune_lbg.j1, Bool.false_eq_true, if_false]
      refine ⟨S' ++ [u], [], by simp, fun w hw => (by cases hw), fun S'' w h => ?_, by simp⟩
      have := List.append_inj' h rfl
      obtain ⟨_, h2⟩ := this
      simp at h2; subst h2; exact c
theorem last_le {S1 : List Int} {v : Int} (h : Srt key S1) (hl : ∀ S' u, S1 = S' ++ [u] → ¬ key v < key u) : ∀ u ∈ S1, key u ≤ key v := by
  intro u hu
  rcases List.eq_nil_or_concat S1 with rfl | ⟨S', w, rfl⟩
  · cases hu
  rw [List.concat_eq_append] at *
  have hw := hl S' w rfl
  obtain ⟨_, _, h3⟩ := srt_parts key h
  rcases List.mem_append.1 hu with hu | hu
  · have := h3 u hu w (by simp); omega
  · rw [List.mem_singleton.1 hu]; omega
theorem ins_outer (hc : Cmp t key) (P Q : List Int) : ∀ (R S : List Int) (k : Nat), R.length < k → Srt key S → P.length + S.length + R.length + Q.length ≤ bigN →
    slices_insertionSortCmpFunc_rune_lbg.l2 k t (P.length : Int) ((P.length : Int) + S.length + R.length) (P ++ (S ++ (R ++ Q))) ((P.length : Int) + S.length) = some (P ++ (sortL key (S ++ R) ++ Q)) := by
  intro R
  induction R with
  | nil =>
    intro S k hk hs hb
    obtain ⟨k, rfl⟩ : ∃ j, k = j + 1 := ⟨k - 1, by omega⟩
    simp only [slices_insertionSortCmpFunc_rune_lbg.l2, if_neg (show ¬ (P.length : Int) + (S.length : Int) < (P.length : Int) + S.length + (([] : List Int).length : Int) by simp), List.nil_append, List.append_nil, sort_id key hs]
  | cons v R ih =>
    intro S k hk hs hb
    obtain ⟨k, rfl⟩ : ∃ j, k = j + 1 := ⟨k - 1, by omega⟩
    have hb' := hb
    unfold bigN at hb'
    simp only [List.length_cons] at hk hb' hb
    simp only [slices_insertionSortCmpFunc_rune_lbg.l2, if_pos (show (P.length : Int) + (S.length : Int) < (P.length : Int) + S.length + ((v :: R).length : Int) by simp; omega)]
    obtain ⟨S1, S2, h1, h2, h3, h4⟩ := ins_inner hc (slices_insertionSortCmpFunc_rune_lbg.l2 k t (P.length : Int) ((P.length : Int) + S.length + ((v :: R).length : Int))) P v ((P.length : Int) + S.length) S.length S (R ++ Q) K0 rfl (ltK (by unfold bigN; omega)) (by simp; omega)
    rw [List.cons_append, h4, w64 (by omega) (by omega)]
    subst h1
    obtain ⟨hs1, hs2, hs12⟩ := srt_parts key hs
    have hm := merge_last key (a := S1) (x := S2) (v := v) hs h2 (last_le hs1 h3)
    have hsn : Srt key (S1 ++ v :: S2) := by rw [← hm]; exact srt_sort key _
    have := ih (S1 ++ v :: S2) k (by omega) hsn (by simp at hb ⊢; omega)
    have e1 : ((P.length : Int) + ((S1 ++ S2).length : Int) + ((v :: R).length : Int)) = (P.length : Int) + ((S1 ++ v :: S2).length : Int) + (R.length : Int) := by simp; omega
    have e2 : (P.length : Int) + ((S1 ++ S2).length : Int) + 1 = (P.length : Int) + ((S1 ++ v :: S2).length : Int) := by simp; omega
    have e3 : P ++ (S1 ++ v :: (S2 ++ (R ++ Q))) = P ++ ((S1 ++ v :: S2) ++ (R ++ Q)) := by simp
    rw [e1, e2, e3, this]
    congr 3
    rw [← hm, sort_front]; simp
theorem ins_eq (hc : Cmp t key) (P X Q : List Int) (hb : P.length + X.length + Q.length ≤ bigN) :
    slices_insertionSortCmpFunc_rune_lbg.f (P.length : Int) ((P.length : Int) + X.length) (P ++ (X ++ Q)) t = some (P ++ (sortL key X ++ Q)) := by
  unfold slices_insertionSortCmpFunc_rune_lbg.f
  have hb' := hb
  unfold bigN at hb'
  rw [w64 (by omega) (by omega)]
  cases X with
  | nil =>
    have : K0 = (K0 - 1) + 1 := by unfold K0; rfl
    rw [this]
    simp only [slices_insertionSortCmpFunc_rune_lbg.l2, if_neg (show ¬ (P.length : Int) + 1 < (P.length : Int) + (([] : List Int).length : Int) by simp; omega)]
    rfl
  | cons x X =>
    simp only [List.length_cons] at hb hb'
    have := ins_outer hc P Q X [x] K0 (ltK (by unfold bigN; omega)) ⟨fun y hy => (by cases hy), trivial⟩ (by simp; omega)
    have e1 : (P.length : Int) + (([x] : List Int).length : Int) + (X.length : Int) = (P.length : Int) + ((x :: X).length : Int) := by simp; omega
    rw [e1] at this
    simpa using this
theorem swap_in (P M Q : List Int) : ∀ (X2 Y2 X1 Y1 : List Int) (k : Nat), X2.length = Y2.length → X1.length = Y1.length → X2.length < k → P.length + 2 * (X1.length + X2.length) + M.length + Q.length ≤ bigN →
    slices_swapRangeCmpFunc_rune_bji.l1 k (P.length : Int) ((P.length : Int) + (X1.length + X2.length) + M.length) ((X1.length : Int) + X2.length) (P ++ ((Y1 ++ X2) ++ (M ++ ((X1 ++ Y2) ++ Q)))) (X1.length : Int) = some (P ++ ((Y1 ++ Y2) ++ (M ++ ((X1 ++ X2) ++ Q)))) := by
  intro X2
  induction X2 with
  | nil =>
    intro Y2 X1 Y1 k h1 h2 hk hb
    obtain ⟨k, rfl⟩ : ∃ j, k = j + 1 := ⟨k - 1, by omega⟩
    obtain rfl := List.eq_nil_of_length_eq_zero h1.symm
    simp only [slices_swapRangeCmpFunc_rune_bji.l1, if_neg (show ¬ (X1.length : Int) < (X1.length : Int) + (([] : List Int).length : Int) by simp)]
  | cons x X2 ih =>
    intro Y2 X1 Y1 k h1 h2 hk hb
    obtain ⟨k, rfl⟩ : ∃ j, k = j + 1 := ⟨k - 1, by omega⟩
    cases Y2 with
    | nil => simp at h1
    | cons y Y2 =>
      simp only [List.length_cons] at h1 hk hb
      have hb' := hb
      unfold bigN at hb'
      have e : P ++ ((Y1 ++ x :: X2) ++ (M ++ ((X1 ++ y :: Y2) ++ Q))) = (P ++ Y1) ++ x :: ((X2 ++ (M ++ X1)) ++ y :: (Y2 ++ Q)) := by simp
      have w1 : IntKind.i64.wrap ((P.length : Int) + (X1.length : Int)) = (P.length : Int) + X1.length := w64 (by omega) (by omega)
      have w2 : IntKind.i64.wrap ((P.length : Int) + ((X1.length : Int) + ((x :: X2).length : Int)) + (M.length : Int) + (X1.length : Int)) = (P.length : Int) + (X1.length + X2.length + 1) + M.length + X1.length := by rw [w64 (by simp; omega) (by simp; omega)]; simp; omega
      have hl : ((P ++ Y1) ++ x :: ((X2 ++ (M ++ X1)) ++ y :: (Y2 ++ Q))).length = P.length + 2 * (X1.length + (X2.length + 1)) + M.length + Q.length := by simp; omega
      have r1 : rd ((P ++ Y1) ++ x :: ((X2 ++ (M ++ X1)) ++ y :: (Y2 ++ Q))) ((P.length : Int) + X1.length) = x := rd_at (by simp; omega)
      have r2 : rd ((P ++ Y1) ++ x :: ((X2 ++ (M ++ X1)) ++ y :: (Y2 ++ Q))) ((P.length : Int) + (X1.length + X2.length + 1) + M.length + X1.length) = y := rd_far (by simp; omega)
      rw [e]
      simp only [slices_swapRangeCmpFunc_rune_bji.l1, if_pos (show (X1.length : Int) < (X1.length : Int) + ((x :: X2).length : Int) by simp; omega), w1, w2, List.length_set, hl,
        if_pos (show (0 : Int) ≤ (P.length : Int) + (X1.length + X2.length + 1) + M.length + X1.length ∧ (P.length : Int) + (X1.length + X2.length + 1) + M.length + X1.length < ((P.length + 2 * (X1.length + (X2.length + 1)) + M.length + Q.length : Nat) : Int) by omega),
        if_pos (show (0 : Int) ≤ (P.length : Int) + X1.length ∧ (P.length : Int) + X1.length < ((P.length + 2 * (X1.length + (X2.length + 1)) + M.length + Q.length : Nat) : Int) by omega), r1, r2]
      rw [set_at (by simp; omega), set_far (by simp; omega), w64 (by omega) (by omega)]
      have := ih Y2 (X1 ++ [x]) (Y1 ++ [y]) k (by omega) (by simp; omega) (by omega) (by simp; omega)
      have e1 : (P.length : Int) + (((X1 ++ [x]).length : Int) + (X2.length : Int)) + (M.length : Int) = (P.length : Int) + ((X1.length : Int) + ((x :: X2).length : Int)) + (M.length : Int) := by simp; omega
      have e2 : ((X1 ++ [x]).length : Int) + (X2.length : Int) = (X1.length : Int) + ((x :: X2).length : Int) := by simp; omega
      have e3 : ((X1 ++ [x]).length : Int) = (X1.length : Int) + 1 := by simp
      rw [e1, e2, e3] at this
      simpa using this
theorem swap_eq (P X M Y Q : List Int) (h : X.length = Y.length) (hb : P.length + 2 * X.length + M.length + Q.length ≤ bigN) :
    slices_swapRangeCmpFunc_rune_bji.f (P.length : Int) ((P.length : Int) + X.length + M.length) (X.length : Int) (P ++ (X ++ (M ++ (Y ++ Q)))) t = some (P ++ (Y ++ (M ++ (X ++ Q)))) := by
  have hb' := hb
  unfold bigN at hb'
  have := swap_in P M Q X Y [] [] K0 h rfl (ltK (by unfold bigN; omega)) (by simpa using hb)
  unfold slices_swapRangeCmpFunc_rune_bji.f
  simpa using this
theorem rot_in : ∀ (n : Nat) (P X Y Q : List Int) (k : Nat), X.length + Y.length ≤ n → n < k → 0 < X.length → 0 < Y.length → P.length + X.length + Y.length + Q.length ≤ bigN →
    slices_rotateCmpFunc_rune_bji.l1 k t ((P.length : Int) + X.length) (P ++ (X ++ (Y ++ Q))) (X.length : Int) (Y.length : Int) = some (P ++ (Y ++ (X ++ Q))) := by
  intro n
  induction n with
  | zero => intro P X Y Q k h1 h2 h3; omega
  | succ n ih =>
    intro P X Y Q k h1 h2 h3 h4 hb
    obtain ⟨k, rfl⟩ : ∃ j, k = j + 1 := ⟨k - 1, by omega⟩
    have hb' := hb
    unfold bigN at hb'
    have w1 : IntKind.i64.wrap ((P.length : Int) + (X.length : Int) - (X.length : Int)) = (P.length : Int) := by rw [w64 (by omega) (by omega)]; omega
    by_cases c1 : (X.length : Int) = (Y.length : Int)
    · simp only [slices_rotateCmpFunc_rune_bji.l1, if_neg (show ¬ (X.length : Int) ≠ (Y.length : Int) by omega), w1]
      have := swap_eq (t := t) P X [] Y Q (by omega) (by simp; omega)
      have e : (P.length : Int) + (X.length : Int) + (([] : List Int).length : Int) = (P.length : Int) + X.length := by simp
      rw [e] at this
      simp only [List.nil_append] at this
      rw [this]; rfl
    · by_cases c2 : (Y.length : Int) < (X.length : Int)
      · simp only [slices_rotateCmpFunc_rune_bji.l1, if_pos (show (X.length : Int) ≠ (Y.length : Int) from c1), if_pos c2, w1]
        obtain ⟨X1, X2, rfl, hx1⟩ : ∃ X1 X2, X = X1 ++ X2 ∧ X1.length = Y.length := ⟨X.take Y.length, X.drop Y.length, by simp, by simp; omega⟩
        have hx2 : 0 < X2.length := by simp at c2; omega
        have := swap_eq (t := t) P X1 X2 Y Q hx1 (by simp at hb; omega)
        have e : (P.length : Int) + ((X1 ++ X2).length : Int) = (P.length : Int) + X1.length + X2.length := by simp; omega
        rw [hx1] at this
        rw [e, hx1]
        have e2 : P ++ (X1 ++ X2 ++ (Y ++ Q)) = P ++ (X1 ++ (X2 ++ (Y ++ Q))) := by simp
        rw [e2, this, Option.bind_some]
        have w2 : IntKind.i64.wrap (((X1 ++ X2).length : Int) - (Y.length : Int)) = (X2.length : Int) := by rw [w64 (by simp; omega) (by simp; omega)]; simp; omega
        rw [w2]
        have := ih (P ++ Y) X2 X1 Q k (by simp at h1; omega) (by omega) hx2 (by omega) (by simp at hb ⊢; omega)
        have e3 : ((P ++ Y).length : Int) + (X2.length : Int) = (P.length : Int) + Y.length + X2.length := by simp
        rw [e3, hx1] at this
        have e4 : P ++ (Y ++ (X2 ++ (X1 ++ Q))) = P ++ Y ++ (X2 ++ (X1 ++ Q)) := by simp
        rw [e4, this]; simp
      · simp only [slices_rotateCmpFunc_rune_bji.l1, if_pos (show (X.length : Int) ≠ (Y.length : Int) from c1), if_neg c2, w1]
        obtain ⟨Y1, Y2, rfl, hy1⟩ : ∃ Y1 Y2, Y = Y1 ++ Y2 ∧ Y2.length = X.length := ⟨Y.take (Y.length - X.length), Y.drop (Y.length - X.length), by simp, by simp; omega⟩
        have hy0 : 0 < Y1.length := by simp at c1 c2; omega
        have := swap_eq (t := t) P X Y1 Y2 Q hy1.symm (by simp at hb; omega)
        have w3 : IntKind.i64.wrap (IntKind.i64.wrap ((P.length : Int) + (X.length : Int) + ((Y1 ++ Y2).length : Int)) - (X.length : Int)) = (P.length : Int) + X.length + Y1.length := by
          have hyl : (Y1 ++ Y2).length = Y1.length + Y2.length := by simp
          rw [w64 (x := (P.length : Int) + (X.length : Int) + ((Y1 ++ Y2).length : Int)) (by omega) (by omega), w64 (x := (P.length : Int) + (X.length : Int) + ((Y1 ++ Y2).length : Int) - (X.length : Int)) (by omega) (by omega)]; omega
        rw [w3]
        have e2 : P ++ (X ++ (Y1 ++ Y2 ++ Q)) = P ++ (X ++ (Y1 ++ (Y2 ++ Q))) := by simp
        rw [e2, this, Option.bind_some]
        have hyl : (Y1 ++ Y2).length = Y1.length + Y2.length := by simp
        have w2 : IntKind.i64.wrap (((Y1 ++ Y2).length : Int) - (X.length : Int)) = (Y1.length : Int) := by rw [w64 (by omega) (by omega)]; omega
        rw [w2]
        have := ih P Y2 Y1 (X ++ Q) k (by simp at h1; omega) (by omega) (by omega) hy0 (by simp at hb ⊢; omega)
        rw [hy1] at this
        rw [this]; simp
theorem rot_eq (P X Y Q : List Int) (h3 : 0 < X.length) (h4 : 0 < Y.length) (hb : P.length + X.length + Y.length + Q.length ≤ bigN) :
    slices_rotateCmpFunc_rune_bji.f (P.length : Int) ((P.length : Int) + X.length) ((P.length : Int) + X.length + Y.length) (P ++ (X ++ (Y ++ Q))) t = some (P ++ (Y ++ (X ++ Q))) := by
  have hb' := hb
  unfold bigN at hb'
  unfold slices_rotateCmpFunc_rune_bji.f
  have w1 : IntKind.i64.wrap ((P.length : Int) + (X.length : Int) - (P.length : Int)) = (X.length : Int) := by rw [w64 (by omega) (by omega)]; omega
  have w2 : IntKind.i64.wrap ((P.length : Int) + (X.length : Int) + (Y.length : Int) - ((P.length : Int) + (X.length : Int))) = (Y.length : Int) := by rw [w64 (by omega) (by omega)]; omega
  rw [w1, w2]
  exact rot_in (X.length + Y.length) P X Y Q K0 (Nat.le_refl _) (ltK (by unfold bigN; omega)) h3 h4 hb
end
end Go.Proofs.YthoicbafdanmkaaGreatDoor
/- Plain laws of slices.SortStableFunc: merging in place, and the whole. Own work of this repo. -/
namespace Go.Proofs.YthoicbafdanmkaaGreatDoor
open Go.RowKit
section
variable {t : Option Tbs} {key : Int → Int}
theorem mov_right (P Q : List Int) (u : Int) : ∀ (Y2 Y1 : List Int) (k : Nat), Y2.length < k → P.length + Y1.length + Y2.length + 1 + Q.length ≤ bigN →
    slices_symMergeCmpFunc_rune_bji.l1 k ((P.length : Int) + Y1.length + Y2.length + 1) (P ++ (Y1 ++ u :: (Y2 ++ Q))) ((P.length : Int) + Y1.length) = some (P ++ (Y1 ++ (Y2 ++ u :: Q))) := by
  intro Y2
  induction Y2 with
  | nil =>
    intro Y1 k hk hb
    obtain ⟨k, rfl⟩ : ∃ j, k = j + 1 := ⟨k - 1, by omega⟩
    unfold bigN at hb
    have w1 : IntKind.i64.wrap ((P.length : Int) + Y1.length + (([] : List Int).length : Int) + 1 - 1) = (P.length : Int) + Y1.length := by rw [w64 (by simp; omega) (by simp; omega)]; simp
    simp only [slices_symMergeCmpFunc_rune_bji.l1, w1, if_neg (show ¬ (P.length : Int) + (Y1.length : Int) < (P.length : Int) + Y1.length by omega), List.nil_append]
  | cons y Y2 ih =>
    intro Y1 k hk hb
    obtain ⟨k, rfl⟩ : ∃ j, k = j + 1 := ⟨k - 1, by omega⟩
    simp only [List.length_cons] at hk hb
    have hb' := hb
    unfold bigN at hb'
    have w1 : IntKind.i64.wrap ((P.length : Int) + Y1.length + ((y :: Y2).length : Int) + 1 - 1) = (P.length : Int) + Y1.length + Y2.length + 1 := by rw [w64 (by simp; omega) (by simp; omega)]; simp; omega
    have w2 : IntKind.i64.wrap ((P.length : Int) + Y1.length + 1) = (P.length : Int) + Y1.length + 1 := w64 (by omega) (by omega)
    have e : P ++ (Y1 ++ u :: ((y :: Y2) ++ Q)) = (P ++ Y1) ++ u :: y :: (Y2 ++ Q) := by simp
    have hl : ((P ++ Y1) ++ u :: y :: (Y2 ++ Q)).length = P.length + Y1.length + Y2.length + 2 + Q.length := by simp; omega
    have r1 : rd ((P ++ Y1) ++ u :: y :: (Y2 ++ Q)) ((P.length : Int) + Y1.length) = u := rd_at (by simp)
    have r2 : rd ((P ++ Y1) ++ u :: y :: (Y2 ++ Q)) ((P.length : Int) + Y1.length + 1) = y := rd_at1 (by simp)
    rw [e]
    simp only [slices_symMergeCmpFunc_rune_bji.l1, w1, if_pos (show (P.length : Int) + (Y1.length : Int) < (P.length : Int) + Y1.length + Y2.length + 1 by omega), w2, List.length_set, hl,
      if_pos (show (0 : Int) ≤ (P.length : Int) + Y1.length + 1 ∧ (P.length : Int) + Y1.length + 1 < ((P.length + Y1.length + Y2.length + 2 + Q.length : Nat) : Int) by omega),
      if_pos (show (0 : Int) ≤ (P.length : Int) + Y1.length ∧ (P.length : Int) + Y1.length < ((P.length + Y1.length + Y2.length + 2 + Q.length : Nat) : Int) by omega), r1, r2]
    rw [set_at (by simp; omega), set_at1 (by simp; omega)]
    have := ih (Y1 ++ [y]) k (by omega) (by simp; omega)
    have e1 : (P.length : Int) + ((Y1 ++ [y]).length : Int) + (Y2.length : Int) + 1 = (P.length : Int) + Y1.length + ((y :: Y2).length : Int) + 1 := by simp; omega
    have e2 : (P.length : Int) + ((Y1 ++ [y]).length : Int) = (P.length : Int) + Y1.length + 1 := by simp; omega
    rw [e1, e2] at this
    simpa using this
theorem bs_first (hc : Cmp t key) (ys : List Int) (a m b : Int) (u : Int) (hb : ys.length ≤ bigN) (ha : 0 ≤ a ∧ a < ys.length) (hu : rd ys a = u) (hm : 0 ≤ m) (hbl : b ≤ ys.length) : ∀ (n : Nat) (i j : Int) (k : Nat), (j - i).toNat ≤ n → n < k → m ≤ i → i ≤ j → j ≤ b →
    (m < i → key (rd ys (i - 1)) < key u) → (j < b → ¬ key (rd ys j) < key u) →
    ∃ s, m ≤ s ∧ s ≤ b ∧ (m < s → key (rd ys (s - 1)) < key u) ∧ (s < b → ¬ key (rd ys s) < key u) ∧ slices_symMergeCmpFunc_rune_bji.l2 k ys t a i j = slices_symMergeCmpFunc_rune_bji.l1 K0 s ys a := by
  intro n
  have hb' := hb
  unfold bigN at hb'
  induction n with
  | zero =>
    intro i j k h1 h2 h3 h4 h5 h6 h7
    obtain ⟨k, rfl⟩ : ∃ j, k = j + 1 := ⟨k - 1, by omega⟩
    obtain rfl : i = j := by omega
    exact ⟨i, h3, h5, h6, h7, by simp only [slices_symMergeCmpFunc_rune_bji.l2, if_neg (show ¬ i < i by omega)]⟩
  | succ n ih =>
    intro i j k h1 h2 h3 h4 h5 h6 h7
    obtain ⟨k, rfl⟩ : ∃ j, k = j + 1 := ⟨k - 1, by omega⟩
    by_cases c : i < j
    · have hh := half (x := i + j) (by omega) (by omega)
      have w1 : IntKind.i64.wrap ((i + j) / 2 + 1) = (i + j) / 2 + 1 := w64 (by omega) (by omega)
      simp only [slices_symMergeCmpFunc_rune_bji.l2, if_pos c, hh, if_pos (show (0 : Int) ≤ (i + j) / 2 ∧ (i + j) / 2 < (ys.length : Int) by omega), if_pos (show (0 : Int) ≤ a ∧ a < (ys.length : Int) from ha), hu, hc _ u, Option.bind_some, w1]
      by_cases d : key (rd ys ((i + j) / 2)) < key u
      · rw [if_pos (cI_lt.2 d)]
        exact ih _ _ k (by omega) (by omega) (by omega) (by omega) h5 (fun _ => by rw [show (i + j) / 2 + 1 - 1 = (i + j) / 2 by omega]; exact d) h7
      · rw [if_neg (fun h => d (cI_lt.1 h))]
        exact ih _ _ k (by omega) (by omega) h3 (by omega) (by omega) h6 (fun _ => d)
    · obtain rfl : i = j := by omega
      exact ⟨i, h3, h5, h6, h7, by simp only [slices_symMergeCmpFunc_rune_bji.l2, if_neg c]⟩
theorem cut_lt {Y1 Y2 : List Int} {u : Int} (h : Srt key (Y1 ++ Y2)) (h1 : ∀ A y, Y1 = A ++ [y] → key y < key u) (h2 : ∀ y B, Y2 = y :: B → ¬ key y < key u) : (∀ v ∈ Y1, key v < key u) ∧ (∀ v ∈ Y2, key u ≤ key v) := by
  obtain ⟨a, b, _⟩ := srt_parts key h
  refine ⟨fun v hv => ?_, fun v hv => ?_⟩
  · rcases List.eq_nil_or_concat Y1 with rfl | ⟨A, w, rfl⟩
    · cases hv
    rw [List.concat_eq_append] at *
    have hw := h1 A w rfl
    obtain ⟨_, _, h3⟩ := srt_parts key a
    rcases List.mem_append.1 hv with hv | hv
    · have := h3 v hv w (by simp); omega
    · rw [List.mem_singleton.1 hv]; exact hw
  · cases Y2 with
    | nil => cases hv
    | cons y B =>
      have := h2 y B rfl
      rcases List.mem_cons.1 hv with rfl | hv
      · omega
      · have := b.1 v hv; omega
theorem cut_le {X1 X2 : List Int} {v : Int} (h : Srt key (X1 ++ X2)) (h1 : ∀ A x, X1 = A ++ [x] → ¬ key v < key x) (h2 : ∀ x B, X2 = x :: B → key v < key x) : (∀ u ∈ X1, key u ≤ key v) ∧ (∀ u ∈ X2, key v < key u) := by
  obtain ⟨a, b, _⟩ := srt_parts key h
  refine ⟨fun w hw => last_le a h1 w hw, fun w hw => ?_⟩
  cases X2 with
  | nil => cases hw
  | cons y B =>
    have := h2 y B rfl
    rcases List.mem_cons.1 hw with rfl | hw
    · exact this
    · have := b.1 w hw; omega
theorem split_at (Y : List Int) (n : Nat) (h : n ≤ Y.length) : ∃ Y1 Y2, Y = Y1 ++ Y2 ∧ Y1.length = n := ⟨Y.take n, Y.drop n, by simp, by simp; omega⟩
theorem sym_first (hc : Cmp t key) (P Y Q : List Int) (u : Int) (hY : Srt key Y) (hb : P.length + 1 + Y.length + Q.length ≤ bigN) :
    slices_symMergeCmpFunc_rune_bji.l2 K0 (P ++ (u :: (Y ++ Q))) t (P.length : Int) ((P.length : Int) + 1) ((P.length : Int) + 1 + Y.length) = some (P ++ (sortL key (u :: Y) ++ Q)) := by
  have hb' := hb
  unfold bigN at hb'
  have hl : (P ++ (u :: (Y ++ Q))).length = P.length + 1 + Y.length + Q.length := by simp; omega
  obtain ⟨s, s1, s2, s3, s4, s5⟩ := bs_first hc (P ++ (u :: (Y ++ Q))) (P.length : Int) ((P.length : Int) + 1) ((P.length : Int) + 1 + Y.length) u (by omega) (by omega) (rd_at rfl) (by omega) (by omega) (bigN) ((P.length : Int) + 1) ((P.length : Int) + 1 + Y.length) K0 (by unfold bigN; omega) (ltK (Nat.le_refl _)) (by omega) (by omega) (by omega) (fun h => by omega) (fun h => by omega)
  rw [s5]
  obtain ⟨Y1, Y2, rfl, hn⟩ := split_at Y (s - (P.length + 1)).toNat (by omega)
  have hyl : (Y1 ++ Y2).length = Y1.length + Y2.length := by simp
  have es : s = (P.length : Int) + (([] : List Int).length : Int) + Y1.length + 1 := by simp; omega
  have hcut := cut_lt (u := u) hY (fun A y e => by
    subst e
    have hr : rd (P ++ (u :: (((A ++ [y]) ++ Y2) ++ Q))) (s - 1) = y := by
      have := rd_at (A := P ++ u :: A) (B := Y2 ++ Q) (x := y) (i := s - 1) (by simp at hn ⊢; omega)
      simpa using this
    have := s3 (by simp at hn; omega)
    rwa [hr] at this) (fun y B e => by
    subst e
    have hr : rd (P ++ (u :: ((Y1 ++ y :: B) ++ Q))) s = y := by
      have := rd_at (A := P ++ u :: Y1) (B := B ++ Q) (x := y) (i := s) (by simp; omega)
      simpa using this
    have := s4 (by simp at hyl ⊢; omega)
    rwa [hr] at this)
  have := mov_right P (Y2 ++ Q) u Y1 [] K0 (ltK (by unfold bigN; omega)) (by simp; omega)
  rw [es, merge_first key hY hcut.1 hcut.2]
  simpa using this
theorem mov_left (P Q : List Int) (v : Int) : ∀ (n : Nat) (X2 X1 Z : List Int) (k : Nat), X2.length = n → n < k → P.length + X1.length + n + Z.length + 1 + Q.length ≤ bigN →
    slices_symMergeCmpFunc_rune_bji.l3 k ((P.length : Int) + X1.length) (P ++ (X1 ++ (X2 ++ v :: (Z ++ Q)))) ((P.length : Int) + X1.length + n) = some (P ++ (X1 ++ v :: (X2 ++ (Z ++ Q)))) := by
  intro n
  induction n with
  | zero =>
    intro X2 X1 Z k h1 hk hb
    obtain ⟨k, rfl⟩ : ∃ j, k = j + 1 := ⟨k - 1, by omega⟩
    obtain rfl := List.eq_nil_of_length_eq_zero h1
    simp only [slices_symMergeCmpFunc_rune_bji.l3, if_neg (show ¬ (P.length : Int) + (X1.length : Int) < (P.length : Int) + X1.length + ((0 : Nat) : Int) by omega), List.nil_append]
  | succ n ih =>
    intro X2 X1 Z k h1 hk hb
    obtain ⟨k, rfl⟩ : ∃ j, k = j + 1 := ⟨k - 1, by omega⟩
    have hb' := hb
    unfold bigN at hb'
    rcases List.eq_nil_or_concat X2 with rfl | ⟨X', x, rfl⟩
    · simp at h1
    have hX : X'.length = n := by simpa using h1
    rw [List.concat_eq_append]
    have w1 : IntKind.i64.wrap ((P.length : Int) + X1.length + ((n + 1 : Nat) : Int) - 1) = (P.length : Int) + X1.length + n := by rw [w64 (by omega) (by omega)]; omega
    have e : P ++ (X1 ++ ((X' ++ [x]) ++ v :: (Z ++ Q))) = (P ++ (X1 ++ X')) ++ x :: v :: (Z ++ Q) := by simp
    have hl : ((P ++ (X1 ++ X')) ++ x :: v :: (Z ++ Q)).length = P.length + X1.length + n + 2 + Z.length + Q.length := by simp [hX]; omega
    have r1 : rd ((P ++ (X1 ++ X')) ++ x :: v :: (Z ++ Q)) ((P.length : Int) + X1.length + ((n + 1 : Nat) : Int)) = v := rd_at1 (by simp [hX]; omega)
    have r2 : rd ((P ++ (X1 ++ X')) ++ x :: v :: (Z ++ Q)) ((P.length : Int) + X1.length + (n : Int)) = x := rd_at (by simp [hX]; omega)
    rw [e]
    simp only [slices_symMergeCmpFunc_rune_bji.l3, if_pos (show (P.length : Int) + (X1.length : Int) < (P.length : Int) + X1.length + ((n + 1 : Nat) : Int) by omega), w1, List.length_set, hl,
      if_pos (show (0 : Int) ≤ (P.length : Int) + X1.length + ((n + 1 : Nat) : Int) ∧ (P.length : Int) + X1.length + ((n + 1 : Nat) : Int) < ((P.length + X1.length + n + 2 + Z.length + Q.length : Nat) : Int) by omega),
      if_pos (show (0 : Int) ≤ (P.length : Int) + X1.length + (n : Int) ∧ (P.length : Int) + X1.length + (n : Int) < ((P.length + X1.length + n + 2 + Z.length + Q.length : Nat) : Int) by omega), r1, r2]
    rw [set_at1 (by simp [hX]; omega), set_at (by simp [hX]; omega)]
    have := ih X' X1 (x :: Z) k hX (by omega) (by simp; omega)
    simpa using this
theorem bs_last (hc : Cmp t key) (ys : List Int) (a m : Int) (v : Int) (hb : ys.length ≤ bigN) (ha : 0 ≤ a) (hm : 0 ≤ m ∧ m < ys.length) (hv : rd ys m = v) : ∀ (n : Nat) (i j : Int) (k : Nat), (j - i).toNat ≤ n → n < k → a ≤ i → i ≤ j → j ≤ m →
    (a < i → ¬ key v < key (rd ys (i - 1))) → (j < m → key v < key (rd ys j)) →
    ∃ s, a ≤ s ∧ s ≤ m ∧ (a < s → ¬ key v < key (rd ys (s - 1))) ∧ (s < m → key v < key (rd ys s)) ∧ slices_symMergeCmpFunc_rune_bji.l4 k ys t m i j = slices_symMergeCmpFunc_rune_bji.l3 K0 s ys m := by
  intro n
  have hb' := hb
  unfold bigN at hb'
  induction n with
  | zero =>
    intro i j k h1 h2 h3 h4 h5 h6 h7
    obtain ⟨k, rfl⟩ : ∃ j, k = j + 1 := ⟨k - 1, by omega⟩
    obtain rfl : i = j := by omega
    exact ⟨i, h3, h5, h6, h7, by simp only [slices_symMergeCmpFunc_rune_bji.l4, if_neg (show ¬ i < i by omega)]⟩
  | succ n ih =>
    intro i j k h1 h2 h3 h4 h5 h6 h7
    obtain ⟨k, rfl⟩ : ∃ j, k = j + 1 := ⟨k - 1, by omega⟩
    by_cases c : i < j
    · have hh := half (x := i + j) (by omega) (by omega)
      have w1 : IntKind.i64.wrap ((i + j) / 2 + 1) = (i + j) / 2 + 1 := w64 (by omega) (by omega)
      simp only [slices_symMergeCmpFunc_rune_bji.l4, if_pos c, hh, if_pos (show (0 : Int) ≤ m ∧ m < (ys.length : Int) from hm), if_pos (show (0 : Int) ≤ (i + j) / 2 ∧ (i + j) / 2 < (ys.length : Int) by omega), hv, hc v _, Option.bind_some, w1]
      by_cases d : key v < key (rd ys ((i + j) / 2))
      · rw [if_neg (fun h => h (cI_lt.2 d))]
        exact ih _ _ k (by omega) (by omega) h3 (by omega) (by omega) h6 (fun _ => d)
      · rw [if_pos (fun h => d (cI_lt.1 h))]
        exact ih _ _ k (by omega) (by omega) (by omega) (by omega) h5 (fun _ => by rw [show (i + j) / 2 + 1 - 1 = (i + j) / 2 by omega]; exact d) h7
    · obtain rfl : i = j := by omega
      exact ⟨i, h3, h5, h6, h7, by simp only [slices_symMergeCmpFunc_rune_bji.l4, if_neg c]⟩
theorem sym_last (hc : Cmp t key) (P X Q : List Int) (v : Int) (hX : Srt key X) (hb : P.length + X.length + 1 + Q.length ≤ bigN) :
    slices_symMergeCmpFunc_rune_bji.l4 K0 (P ++ (X ++ (v :: Q))) t ((P.length : Int) + X.length) (P.length : Int) ((P.length : Int) + X.length) = some (P ++ (sortL key (X ++ [v]) ++ Q)) := by
  have hb' := hb
  unfold bigN at hb'
  have hl : (P ++ (X ++ (v :: Q))).length = P.length + X.length + 1 + Q.length := by simp; omega
  have hr : rd (P ++ (X ++ (v :: Q))) ((P.length : Int) + X.length) = v := by
    have := rd_at (A := P ++ X) (B := Q) (x := v) (i := (P.length : Int) + X.length) (by simp)
    simpa using this
  obtain ⟨s, s1, s2, s3, s4, s5⟩ := bs_last hc (P ++ (X ++ (v :: Q))) (P.length : Int) ((P.length : Int) + X.length) v (by omega) (by omega) (by omega) hr bigN (P.length : Int) ((P.length : Int) + X.length) K0 (by unfold bigN; omega) (ltK (Nat.le_refl _)) (by omega) (by omega) (by omega) (fun h => by omega) (fun h => by omega)
  rw [s5]
  obtain ⟨X1, X2, rfl, hn⟩ := split_at X (s - P.length).toNat (by omega)
  have hxl : (X1 ++ X2).length = X1.length + X2.length := by simp
  have es : s = (P.length : Int) + X1.length := by omega
  have hcut := cut_le (v := v) hX (fun A y e => by
    subst e
    have hr : rd (P ++ (((A ++ [y]) ++ X2) ++ (v :: Q))) (s - 1) = y := by
      have := rd_at (A := P ++ A) (B := X2 ++ v :: Q) (x := y) (i := s - 1) (by simp at hn ⊢; omega)
      simpa using this
    have := s3 (by simp at hn; omega)
    rwa [hr] at this) (fun y B e => by
    subst e
    have hr : rd (P ++ ((X1 ++ y :: B) ++ (v :: Q))) s = y := by
      have := rd_at (A := P ++ X1) (B := B ++ v :: Q) (x := y) (i := s) (by simp; omega)
      simpa using this
    have := s4 (by simp at hxl ⊢; omega)
    rwa [hr] at this)
  have := mov_left P Q v X2.length X2 X1 [] K0 rfl (ltK (by unfold bigN; omega)) (by simp; omega)
  rw [es, merge_last key hX hcut.2 hcut.1]
  have e : (P.length : Int) + ((X1 ++ X2).length : Int) = (P.length : Int) + X1.length + X2.length := by omega
  rw [e]
  simpa using this
end
end Go.Proofs.YthoicbafdanmkaaGreatDoor
/- Plain laws of slices.SortStableFunc and canon.Order: the whole. Own work of this repo. -/
namespace Go.Proofs.YthoicbafdanmkaaGreatDoor
open Go.RowKit
section
variable {t : Option Tbs} {key : Int → Int}
theorem bs_mid (hc : Cmp t key) (rec : Int → Int → Int → List Int → Option Tbs → Option (List Int)) (ys : List Int) (a m b mid lo hi : Int) (hb : ys.length ≤ bigN) (ha : 0 ≤ a) (hbb : 0 ≤ b ∧ b ≤ 1073741824 ∧ a ≤ 1073741824) (hm : 0 ≤ m ∧ m ≤ 1073741824) (hmid : mid = (a + b) / 2)
    (hg : ∀ c, lo ≤ c → c < hi → (0 ≤ c ∧ c < (ys.length : Int)) ∧ (0 ≤ mid + m - 1 - c ∧ mid + m - 1 - c < (ys.length : Int))) (hlo : 0 ≤ lo) (hhi : hi ≤ 1073741824) : ∀ (n : Nat) (i j : Int) (k : Nat), (j - i).toNat ≤ n → n < k → lo ≤ i → i ≤ j → j ≤ hi →
    (lo < i → ¬ key (rd ys (mid + m - i)) < key (rd ys (i - 1))) → (j < hi → key (rd ys (mid + m - 1 - j)) < key (rd ys j)) →
    ∃ s, lo ≤ s ∧ s ≤ hi ∧ (lo < s → ¬ key (rd ys (mid + m - s)) < key (rd ys (s - 1))) ∧ (s < hi → key (rd ys (mid + m - 1 - s)) < key (rd ys s)) ∧
      slices_symMergeCmpFunc_rune_bji.l5 k rec ys t a m b i j = (if s < m then slices_symMergeCmpFunc_rune_bji.j5 rec ys t a m b s (decide (m < mid + m - s)) else slices_symMergeCmpFunc_rune_bji.j5 rec ys t a m b s false) := by
  have hb' := hb
  unfold bigN at hb'
  have e0 := half (x := a + b) (by omega) (by omega)
  rw [← hmid] at e0
  have e1 : IntKind.i64.wrap (mid + m) = mid + m := w64 (by omega) (by omega)
  have e2 : IntKind.i64.wrap (mid + m - 1) = mid + m - 1 := w64 (by omega) (by omega)
  have fin : ∀ (i : Int) (k : Nat), lo ≤ i → i ≤ hi → slices_symMergeCmpFunc_rune_bji.l5 (k + 1) rec ys t a m b i i = (if i < m then slices_symMergeCmpFunc_rune_bji.j5 rec ys t a m b i (decide (m < mid + m - i)) else slices_symMergeCmpFunc_rune_bji.j5 rec ys t a m b i false) := by
    intro i k h3 h4
    have e3 : IntKind.i64.wrap (mid + m - i) = mid + m - i := w64 (by omega) (by omega)
    simp only [slices_symMergeCmpFunc_rune_bji.l5, if_neg (show ¬ i < i by omega), e0, e1, e3]
  intro n
  induction n with
  | zero =>
    intro i j k h1 h2 h3 h4 h5 h6 h7
    obtain ⟨k, rfl⟩ : ∃ j, k = j + 1 := ⟨k - 1, by omega⟩
    obtain rfl : i = j := by omega
    exact ⟨i, h3, h5, h6, h7, fin i k h3 h5⟩
  | succ n ih =>
    intro i j k h1 h2 h3 h4 h5 h6 h7
    obtain ⟨k, rfl⟩ : ∃ j, k = j + 1 := ⟨k - 1, by omega⟩
    by_cases c : i < j
    · have hh := half (x := i + j) (by omega) (by omega)
      obtain ⟨g1, g2⟩ := hg ((i + j) / 2) (by omega) (by omega)
      have w1 : IntKind.i64.wrap ((i + j) / 2 + 1) = (i + j) / 2 + 1 := w64 (by omega) (by omega)
      have w2 : IntKind.i64.wrap (mid + m - 1 - (i + j) / 2) = mid + m - 1 - (i + j) / 2 := w64 (by omega) (by omega)
      simp only [slices_symMergeCmpFunc_rune_bji.l5, if_pos c, e0, e1, e2, hh, w1, w2, if_pos g1, if_pos g2, hc _ _, Option.bind_some]
      by_cases d : key (rd ys (mid + m - 1 - (i + j) / 2)) < key (rd ys ((i + j) / 2))
      · rw [if_neg (fun h => h (cI_lt.2 d))]
        exact ih _ _ k (by omega) (by omega) h3 (by omega) (by omega) h6 (fun _ => d)
      · rw [if_pos (fun h => d (cI_lt.1 h))]
        exact ih _ _ k (by omega) (by omega) (by omega) (by omega) h5 (fun _ => by rw [show (i + j) / 2 + 1 - 1 = (i + j) / 2 by omega, show mid + m - ((i + j) / 2 + 1) = mid + m - 1 - (i + j) / 2 by omega]; exact d) h7
    · obtain rfl : i = j := by omega
      exact ⟨i, h3, h5, h6, h7, fin i k h3 h5⟩
theorem sort_nil_l {Y : List Int} (h : Srt key Y) : sortL key ([] ++ Y) = Y := by rw [List.nil_append]; exact sort_id key h
theorem sort_nil_r {X : List Int} (h : Srt key X) : sortL key (X ++ []) = X := by rw [List.append_nil]; exact sort_id key h
theorem sym_eq (hc : Cmp t key) : ∀ (n : Nat) (P X Y Q : List Int) (k : Nat), X.length + Y.length ≤ n → n < k → 0 < X.length → 0 < Y.length → Srt key X → Srt key Y → P.length + X.length + Y.length + Q.length ≤ bigN →
    slices_symMergeCmpFunc_rune_bji.f k (P.length : Int) ((P.length : Int) + X.length) ((P.length : Int) + X.length + Y.length) (P ++ (X ++ (Y ++ Q))) t = some (P ++ (sortL key (X ++ Y) ++ Q)) := by
  intro n
  induction n with
  | zero => intro P X Y Q k h1 h2 h3; omega
  | succ n ih =>
    intro P X Y Q k h1 h2 h3 h4 hX hY hb
    obtain ⟨k, rfl⟩ : ∃ j, k = j + 1 := ⟨k - 1, by omega⟩
    have hb' := hb
    unfold bigN at hb'
    have w1 : IntKind.i64.wrap ((P.length : Int) + X.length - P.length) = X.length := by rw [w64 (by omega) (by omega)]; omega
    have w2 : IntKind.i64.wrap ((P.length : Int) + X.length + Y.length - ((P.length : Int) + X.length)) = Y.length := by rw [w64 (by omega) (by omega)]; omega
    simp only [slices_symMergeCmpFunc_rune_bji.f, slices_symMergeCmpFunc_rune_bji.b, w1, w2]
    by_cases c1 : (X.length : Int) = 1
    · rw [if_pos c1]
      obtain ⟨u, rfl⟩ : ∃ u, X = [u] := by
        cases X with
        | nil => simp at h3
        | cons u X' => exact ⟨u, by rw [List.eq_nil_of_length_eq_zero (l := X') (by simp at c1; omega)]⟩
      have := sym_first hc P Y Q u hY (by simp at hb; omega)
      simpa using this
    · rw [if_neg c1]
      by_cases c2 : (Y.length : Int) = 1
      · rw [if_pos c2]
        obtain ⟨v, rfl⟩ : ∃ v, Y = [v] := by
          cases Y with
          | nil => simp at h4
          | cons u X' => exact ⟨u, by rw [List.eq_nil_of_length_eq_zero (l := X') (by simp at c2; omega)]⟩
        have := sym_last hc P X Q v hX (by simp at hb; omega)
        simpa using this
      · rw [if_neg c2]
        obtain ⟨mid, hmid⟩ : ∃ mid : Int, mid = ((P.length : Int) + ((P.length : Int) + X.length + Y.length)) / 2 := ⟨_, rfl⟩
        have e0 := half (x := (P.length : Int) + ((P.length : Int) + X.length + Y.length)) (by omega) (by omega)
        rw [← hmid] at e0
        have e1 : IntKind.i64.wrap (mid + ((P.length : Int) + X.length)) = mid + ((P.length : Int) + X.length) := w64 (by omega) (by omega)
        have e2 : IntKind.i64.wrap (mid + ((P.length : Int) + X.length) - ((P.length : Int) + X.length + Y.length)) = mid - Y.length := by rw [w64 (by omega) (by omega)]; omega
        simp only [e0, e1, e2, slices_symMergeCmpFunc_rune_bji.j6]
        have hl : (P ++ (X ++ (Y ++ Q))).length = P.length + X.length + Y.length + Q.length := by simp; omega
        -- the search
        have hs : ∃ s, (P.length : Int) ≤ s ∧ s ≤ (P.length : Int) + X.length ∧ s ≤ mid ∧ mid - Y.length ≤ s ∧
            ((P.length : Int) < s → mid - Y.length < s → ¬ key (rd (P ++ (X ++ (Y ++ Q))) (mid + ((P.length : Int) + X.length) - s)) < key (rd (P ++ (X ++ (Y ++ Q))) (s - 1))) ∧
            (s < (P.length : Int) + X.length → s < mid → key (rd (P ++ (X ++ (Y ++ Q))) (mid + ((P.length : Int) + X.length) - 1 - s)) < key (rd (P ++ (X ++ (Y ++ Q))) s)) ∧
            (if mid < (P.length : Int) + X.length then slices_symMergeCmpFunc_rune_bji.l5 K0 (slices_symMergeCmpFunc_rune_bji.f k) (P ++ (X ++ (Y ++ Q))) t (P.length : Int) ((P.length : Int) + X.length) ((P.length : Int) + X.length + Y.length) (mid - Y.length) mid
              else slices_symMergeCmpFunc_rune_bji.l5 K0 (slices_symMergeCmpFunc_rune_bji.f k) (P ++ (X ++ (Y ++ Q))) t (P.length : Int) ((P.length : Int) + X.length) ((P.length : Int) + X.length + Y.length) (P.length : Int) ((P.length : Int) + X.length)) =
            (if s < (P.length : Int) + X.length then slices_symMergeCmpFunc_rune_bji.j5 (slices_symMergeCmpFunc_rune_bji.f k) (P ++ (X ++ (Y ++ Q))) t (P.length : Int) ((P.length : Int) + X.length) ((P.length : Int) + X.length + Y.length) s (decide ((P.length : Int) + X.length < mid + ((P.length : Int) + X.length) - s))
              else slices_symMergeCmpFunc_rune_bji.j5 (slices_symMergeCmpFunc_rune_bji.f k) (P ++ (X ++ (Y ++ Q))) t (P.length : Int) ((P.length : Int) + X.length) ((P.length : Int) + X.length + Y.length) s false) := by
          by_cases c3 : mid < (P.length : Int) + X.length
          · rw [if_pos c3]
            obtain ⟨s, s1, s2, s3, s4, s5⟩ := bs_mid hc (slices_symMergeCmpFunc_rune_bji.f k) (P ++ (X ++ (Y ++ Q))) (P.length : Int) ((P.length : Int) + X.length) ((P.length : Int) + X.length + Y.length) mid (mid - Y.length) mid (by omega) (by omega) ⟨by omega, by omega, by omega⟩ ⟨by omega, by omega⟩ hmid
              (fun c hc1 hc2 => ⟨⟨by omega, by omega⟩, by omega, by omega⟩) (by omega) (by omega) bigN (mid - Y.length) mid K0 (by unfold bigN; omega) (ltK (Nat.le_refl _)) (by omega) (by omega) (by omega) (fun h => by omega) (fun h => by omega)
            exact ⟨s, by omega, by omega, s2, s1, fun _ h => s3 h, fun _ h => s4 h, s5⟩
          · rw [if_neg c3]
            obtain ⟨s, s1, s2, s3, s4, s5⟩ := bs_mid hc (slices_symMergeCmpFunc_rune_bji.f k) (P ++ (X ++ (Y ++ Q))) (P.length : Int) ((P.length : Int) + X.length) ((P.length : Int) + X.length + Y.length) mid (P.length : Int) ((P.length : Int) + X.length) (by omega) (by omega) ⟨by omega, by omega, by omega⟩ ⟨by omega, by omega⟩ hmid
              (fun c hc1 hc2 => ⟨⟨by omega, by omega⟩, by omega, by omega⟩) (by omega) (by omega) bigN (P.length : Int) ((P.length : Int) + X.length) K0 (by unfold bigN; omega) (ltK (Nat.le_refl _)) (by omega) (by omega) (by omega) (fun h => by omega) (fun h => by omega)
            exact ⟨s, s1, s2, by omega, by omega, fun h _ => s3 h, fun h _ => s4 h, s5⟩
        obtain ⟨s, s1, s2, s3, s4, s5, s6, s7⟩ := hs
        rw [s7]
        clear s7
        obtain ⟨X1, X2, rfl, hn⟩ := split_at X (s - P.length).toNat (by omega)
        obtain ⟨Y1, Y2, rfl, hn2⟩ := split_at Y (mid - s).toNat (by omega)
        have hxl : (X1 ++ X2).length = X1.length + X2.length := by simp
        have hyl : (Y1 ++ Y2).length = Y1.length + Y2.length := by simp
        have es : s = (P.length : Int) + X1.length := by omega
        have em : mid = (P.length : Int) + X1.length + Y1.length := by omega
        obtain ⟨hX1, hX2, _⟩ := srt_parts key hX
        obtain ⟨hY1, hY2, _⟩ := srt_parts key hY
        -- the first of X2 and the last of Y1; the last of X1 and the first of Y2
        have q3 : ∀ u ∈ X2, ∀ v ∈ Y1, key v < key u := by
          intro u hu v hv
          rcases List.eq_nil_or_concat Y1 with rfl | ⟨A, w, rfl⟩
          · cases hv
          cases X2 with
          | nil => cases hu
          | cons x B =>
            rw [List.concat_eq_append] at *
            have hx' : (x :: B).length = B.length + 1 := rfl
            have ha' : (A ++ [w]).length = A.length + 1 := by simp
            have hlen : (P ++ (X1 ++ x :: B) ++ A).length = P.length + (X1 ++ x :: B).length + A.length := by simp; omega
            have h6 := s6 (by omega) (by omega)
            have r1 : rd (P ++ ((X1 ++ x :: B) ++ (((A ++ [w]) ++ Y2) ++ Q))) s = x := by
              have := rd_at (A := P ++ X1) (B := B ++ (A ++ [w] ++ Y2 ++ Q)) (x := x) (i := s) (by simp; omega)
              simpa using this
            have r2 : rd (P ++ ((X1 ++ x :: B) ++ (((A ++ [w]) ++ Y2) ++ Q))) (mid + ((P.length : Int) + ((X1 ++ x :: B).length : Int)) - 1 - s) = w := by
              have := rd_at (A := P ++ (X1 ++ x :: B) ++ A) (B := Y2 ++ Q) (x := w) (i := mid + ((P.length : Int) + ((X1 ++ x :: B).length : Int)) - 1 - s) (by omega)
              simpa using this
            rw [r1, r2] at h6
            have a1 : key v ≤ key w := by
              obtain ⟨_, _, h⟩ := srt_parts key hY1
              rcases List.mem_append.1 hv with hv | hv
              · exact h v hv w (by simp)
              · rw [List.mem_singleton.1 hv]; omega
            have a2 : key x ≤ key u := by
              rcases List.mem_cons.1 hu with rfl | hu
              · omega
              · exact hX2.1 u hu
            omega
        have q4 : ∀ u ∈ X1, ∀ v ∈ Y2, key u ≤ key v := by
          intro u hu v hv
          rcases List.eq_nil_or_concat X1 with rfl | ⟨A, w, rfl⟩
          · cases hu
          cases Y2 with
          | nil => cases hv
          | cons y B =>
            rw [List.concat_eq_append] at *
            have hy' : (y :: B).length = B.length + 1 := rfl
            have ha' : (A ++ [w]).length = A.length + 1 := by simp
            have hlen : (P ++ A).length = P.length + A.length := by simp
            have hlen2 : (P ++ ((A ++ [w]) ++ X2) ++ Y1).length = P.length + ((A ++ [w]) ++ X2).length + Y1.length := by simp; omega
            have h5 := s5 (by omega) (by omega)
            have r1 : rd (P ++ (((A ++ [w]) ++ X2) ++ ((Y1 ++ y :: B) ++ Q))) (s - 1) = w := by
              have := rd_at (A := P ++ A) (B := X2 ++ (Y1 ++ y :: B ++ Q)) (x := w) (i := s - 1) (by omega)
              simpa using this
            have r2 : rd (P ++ (((A ++ [w]) ++ X2) ++ ((Y1 ++ y :: B) ++ Q))) (mid + ((P.length : Int) + (((A ++ [w]) ++ X2).length : Int)) - s) = y := by
              have := rd_at (A := P ++ ((A ++ [w]) ++ X2) ++ Y1) (B := B ++ Q) (x := y) (i := mid + ((P.length : Int) + (((A ++ [w]) ++ X2).length : Int)) - s) (by omega)
              simpa using this
            rw [r1, r2] at h5
            have a1 : key u ≤ key w := by
              obtain ⟨_, _, h⟩ := srt_parts key hX1
              rcases List.mem_append.1 hu with hu | hu
              · exact h u hu w (by simp)
              · rw [List.mem_singleton.1 hu]; omega
            have a2 : key y ≤ key v := by
              rcases List.mem_cons.1 hv with rfl | hv
              · omega
              · exact hY2.1 v hv
            omega
        have e3 : IntKind.i64.wrap (mid + ((P.length : Int) + ((X1 ++ X2).length : Int)) - s) = mid + X2.length := by rw [w64 (by omega) (by omega)]; omega
        have hj2 : ∀ Z : List Int, Z.length = X1.length + Y1.length → slices_symMergeCmpFunc_rune_bji.j2 (slices_symMergeCmpFunc_rune_bji.f k) t (P.length : Int) ((P.length : Int) + ((X1 ++ X2).length : Int)) ((P.length : Int) + ((X1 ++ X2).length : Int) + ((Y1 ++ Y2).length : Int)) s (P ++ (Z ++ (X2 ++ (Y2 ++ Q)))) = some (P ++ (Z ++ (sortL key (X2 ++ Y2) ++ Q))) := by
          intro Z hZ
          simp only [slices_symMergeCmpFunc_rune_bji.j2, slices_symMergeCmpFunc_rune_bji.j1, e0, e1, e3]
          by_cases d1 : mid < mid + X2.length
          · rw [if_pos d1]
            by_cases d2 : mid + X2.length < (P.length : Int) + ((X1 ++ X2).length : Int) + ((Y1 ++ Y2).length : Int)
            · rw [decide_eq_true d2, if_pos rfl]
              have := ih (P ++ Z) X2 Y2 Q k (by omega) (by omega) (by omega) (by omega) hX2 hY2 (by simp; omega)
              have f1 : ((P ++ Z).length : Int) = mid := by simp; omega
              have f2 : mid + (X2.length : Int) + Y2.length = (P.length : Int) + ((X1 ++ X2).length : Int) + ((Y1 ++ Y2).length : Int) := by omega
              rw [f1, f2] at this
              have f3 : P ++ (Z ++ (X2 ++ (Y2 ++ Q))) = P ++ Z ++ (X2 ++ (Y2 ++ Q)) := by simp
              rw [f3, this]; simp
            · rw [decide_eq_false d2]
              have : Y2 = [] := List.eq_nil_of_length_eq_zero (by omega)
              subst this
              simp only [Bool.false_eq_true, if_false, sort_nil_r hX2, List.nil_append]
          · rw [if_neg d1]
            have : X2 = [] := List.eq_nil_of_length_eq_zero (by omega)
            subst this
            simp only [Bool.false_eq_true, if_false, List.nil_append, sort_id key hY2]
        have hj4 : slices_symMergeCmpFunc_rune_bji.j4 (slices_symMergeCmpFunc_rune_bji.f k) t (P.length : Int) ((P.length : Int) + ((X1 ++ X2).length : Int)) ((P.length : Int) + ((X1 ++ X2).length : Int) + ((Y1 ++ Y2).length : Int)) s (P ++ (X1 ++ (Y1 ++ (X2 ++ (Y2 ++ Q))))) = some (P ++ (sortL key (X1 ++ Y1) ++ (sortL key (X2 ++ Y2) ++ Q))) := by
          have hz := hj2 (sortL key (X1 ++ Y1)) (by rw [sort_len]; simp)
          simp only [slices_symMergeCmpFunc_rune_bji.j4, slices_symMergeCmpFunc_rune_bji.j3, e0]
          by_cases d1 : (P.length : Int) < s
          · rw [if_pos d1]
            by_cases d2 : s < mid
            · rw [decide_eq_true d2, if_pos rfl]
              have := ih P X1 Y1 (X2 ++ (Y2 ++ Q)) k (by omega) (by omega) (by omega) (by omega) hX1 hY1 (by simp; omega)
              rw [← es, show s + (Y1.length : Int) = mid by omega] at this
              rw [this, Option.bind_some, hz]
            · rw [decide_eq_false d2]
              have : Y1 = [] := List.eq_nil_of_length_eq_zero (by omega)
              subst this
              rw [sort_nil_r hX1] at hz ⊢
              simp only [Bool.false_eq_true, if_false, List.nil_append] at hz ⊢
              exact hz
          · rw [if_neg d1]
            have : X1 = [] := List.eq_nil_of_length_eq_zero (by omega)
            subst this
            rw [sort_nil_l hY1] at hz ⊢
            simp only [Bool.false_eq_true, if_false, List.nil_append] at hz ⊢
            exact hz
        have goal : P ++ (sortL key ((X1 ++ X2) ++ (Y1 ++ Y2)) ++ Q) = P ++ (sortL key (X1 ++ Y1) ++ (sortL key (X2 ++ Y2) ++ Q)) := by
          rw [merge_split key hX hY q3 q4]; simp
        rw [goal, ← hj4]
        have f4 : P ++ ((X1 ++ X2) ++ ((Y1 ++ Y2) ++ Q)) = P ++ (X1 ++ (X2 ++ (Y1 ++ (Y2 ++ Q)))) := by simp
        rw [f4]
        have f5 : mid + ((P.length : Int) + ((X1 ++ X2).length : Int)) - s = mid + X2.length := by omega
        rw [f5]
        by_cases d1 : s < (P.length : Int) + ((X1 ++ X2).length : Int)
        · rw [if_pos d1]
          by_cases d2 : (P.length : Int) + ((X1 ++ X2).length : Int) < mid + X2.length
          · rw [decide_eq_true d2]
            simp only [slices_symMergeCmpFunc_rune_bji.j5, if_true, e0, e1, e3]
            have := rot_eq (t := t) (P ++ X1) X2 Y1 (Y2 ++ Q) (by omega) (by omega) (by simp; omega)
            have f1 : ((P ++ X1).length : Int) = s := by simp; omega
            have f2 : s + (X2.length : Int) = (P.length : Int) + ((X1 ++ X2).length : Int) := by omega
            have f3 : (P.length : Int) + ((X1 ++ X2).length : Int) + (Y1.length : Int) = mid + X2.length := by omega
            rw [f1, f2, f3] at this
            have f6 : P ++ (X1 ++ (X2 ++ (Y1 ++ (Y2 ++ Q)))) = P ++ X1 ++ (X2 ++ (Y1 ++ (Y2 ++ Q))) := by simp
            rw [f6, this, Option.bind_some]; simp
          · rw [decide_eq_false d2]
            have : Y1 = [] := List.eq_nil_of_length_eq_zero (by omega)
            subst this
            simp only [slices_symMergeCmpFunc_rune_bji.j5, Bool.false_eq_true, if_false, List.nil_append]
        · rw [if_neg d1]
          have : X2 = [] := List.eq_nil_of_length_eq_zero (by omega)
          subst this
          simp only [slices_symMergeCmpFunc_rune_bji.j5, Bool.false_eq_true, if_false, List.nil_append]
end
end Go.Proofs.YthoicbafdanmkaaGreatDoor
