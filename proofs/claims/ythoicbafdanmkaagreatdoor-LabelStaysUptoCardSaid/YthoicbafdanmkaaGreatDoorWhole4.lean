/- Texts of this repo, merged for the claim: TP4, TA3, TC0, TC1. -/
import Derived.Test.YthoicbafdanmkaaGreatDoorWhole1
import Derived.Test.YthoicbafdanmkaaGreatDoorWhole3
import Derived.Test.YthoicbafdanmkaaGreatDoorWhole2
/- Written by this repo's gen.py: for each Go function a Lean function with the same answers and the walk that shows it. -/
namespace Go.Proofs.YthoicbafdanmkaaGreatDoor
open Go.IntKind (i8 i16 i32 i64 u8 u16 u32 u64)
open Go.RowKit
set_option maxRecDepth 100000
set_option maxHeartbeats 4000000
variable {w0 w : World} {ρ : Hp} {Γ : List Q5}
set_option linter.unusedVariables false
def Zi.j1 (ff : (List (Vector Int 2 × Int)) → Int → Option (Option Tbs × Int)) (ab : Int) (bj : List (Vector Int 2 × Int)) : Option (Option Tbs × Int) := ff bj (i64.wrap (ab + 1))
def Zi.j2 (ff : (List (Vector Int 2 × Int)) → Int → Option (Option Tbs × Int)) (ap : Bk) (ac : List (Vector Int 2 × Int)) (ab : Int) (b6 : Bool) : Option (Option Tbs × Int) := if b6 = true then (if (0 : Int) ≤ 0 ∧ 0 < (((rd ap.decomp ab).is_).length : Int) then (if (0 : Int) ≤ 1 ∧ 1 < (((rd ap.decomp ab).is_).length : Int) then (Zi.j1 ff ab (Ht ac (#v[rd ((rd ap.decomp ab).is_) 0, rd ((rd ap.decomp ab).is_) 1]) ((rd ap.decomp ab).lo))) else none) else none) else (Zi.j1 ff ab ac)
def Zi.l1 : Nat → Bk → Option Tab → Option Tab → Option Tab → Option Tab → Option Tab → Option Tab → Option Tab → Option Tab → Option Tab → Option Tab → (List (Vector Int 2 × Int)) → Int → Option (Option Tbs × Int)
  | 0, _, _, _, _, _, _, _, _, _, _, _, _, _ => none
  | bs + 1, ap, af, ad, ag, ah, ai, ae, aj, ak, al, am, ac, ab => if ab < (ap.decomp.length : Int) then (if (0 : Int) ≤ ab ∧ ab < (ap.decomp.length : Int) then (if (((rd ap.decomp ab).is_).length : Int) = 2 then ((Z1.f ae ((rd ap.decomp ab).lo)).bind fun ku => (if ku = 0 then ((Z1.f ad ((rd ap.decomp ab).lo)).bind fun kv => (if kv = 0 then (if (0 : Int) ≤ 0 ∧ 0 < (((rd ap.decomp ab).is_).length : Int) then ((Z1.f ad (rd ((rd ap.decomp ab).is_) 0)).bind fun j8 => (Zi.j2 (Zi.l1 bs ap af ad ag ah ai ae aj ak al am) ap ac ab (decide (j8 = 0)))) else none) else (Zi.j2 (Zi.l1 bs ap af ad ag ah ai ae aj ak al am) ap ac ab false))) else (Zi.j2 (Zi.l1 bs ap af ad ag ah ai ae aj ak al am) ap ac ab false))) else (Zi.j2 (Zi.l1 bs ap af ad ag ah ai ae aj ak al am) ap ac ab false)) else none) else (some ((some (⟨(⟨ap.names, ap.status, ap.maps, ap.class_, ap.decomp, ap.excl, ap.bidi, ap.join, ap.marks, ap.script, ap.like⟩ : Bk), af, ad, ag, ah, ai, ae, aj, ak, al, am, ac⟩ : Tbs)), 0))
def Zi.j3 (ap : Bk) (af ad ag ah ai ae aj ak al am : Option Tab) : Option (Option Tbs × Int) := Zi.l1 K0 ap af ad ag ah ai ae aj ak al am ([] : List (Vector Int 2 × Int)) 0
def Zi.t1 (ap : Bk) (b9 ca cb cc cd ce cf cg ch : Option Tab) : Option (Option Tbs × Int) := (Z7.f ap.like).bind fun j9 => (Zi.j3 ap b9 ca cb cc cd ce cf cg ch j9)
def Zi.t2 (ap : Bk) (ci cj ck cl cm cn co cp : Option Tab) : Option (Option Tbs × Int) := (Z7.f ap.decomp).bind fun ka => (Zi.t1 ap ci cj ck cl cm cn co cp ka)
def Zi.t3 (ap : Bk) (cq cr ct cu cv cw cx : Option Tab) : Option (Option Tbs × Int) := (Z7.f ap.maps).bind fun kb => (Zi.t2 ap cq cr ct cu cv cw cx kb)
def Zi.t4 (ap : Bk) (cy cz da db dc dd : Option Tab) : Option (Option Tbs × Int) := (Kv.f ap.marks).bind fun kc => (Zi.t3 ap cy cz da db dc dd kc)
def Zi.t5 (ap : Bk) (de df dg dh di : Option Tab) : Option (Option Tbs × Int) := (Kv.f ap.excl).bind fun kd => (Zi.t4 ap de df dg dh di kd)
def Zi.t6 (ap : Bk) (dk dl dm dn : Option Tab) : Option (Option Tbs × Int) := (Qh.f ap.script).bind fun ke => (Zi.t5 ap dk dl dm dn ke)
def Zi.t7 (ap : Bk) (dp dq dr : Option Tab) : Option (Option Tbs × Int) := (Qh.f ap.join).bind fun kf => (Zi.t6 ap dp dq dr kf)
def Zi.t8 (ap : Bk) (ds dt : Option Tab) : Option (Option Tbs × Int) := (Qh.f ap.bidi).bind fun kg => (Zi.t7 ap ds dt kg)
def Zi.t9 (ap : Bk) (du : Option Tab) : Option (Option Tbs × Int) := (Qh.f ap.class_).bind fun kh => (Zi.t8 ap du kh)
def Zi.t10 (ap : Bk) : Option (Option Tbs × Int) := (Qh.f ap.status).bind fun ki => (Zi.t9 ap ki)
def Zi.f (x0 : Bk) : Option (Option Tbs × Int) := (J6.f x0).bind fun bl => (if bl.2 ≠ 0 then (some (none, bl.2)) else ((Zas.f x0).bind fun ap => (Zi.t10 ap )))
theorem Zi.c (hs : St w0 ρ (Γ) w) {c0 : List Value} {x0 : Bk} (h0 : rBk.R ρ c0 x0) {r : Option Tbs × Int} (H : Zi.f x0 = some r) : Zn Tryz.prog 27 [.agg c0.toArray] w (fun v w' => ∃ (ρ' : Hp) (v0 : Value), v = .tuple #[v0, .int .i64 r.2] ∧ Le ρ ρ' ∧ St w0 ρ' (Γ) w' ∧ Xs Hm ρ' v0 r.1) := by
 rw [Zi.f] at H
 refine Et Tryz.func27 Tryz.ntmps27 rfl ?_
 have pb := h0
 obtain ⟨pc, pd, pe, pf, pg, ph, pi, pj, pk, pl, pm, rfl, sb, sc, sd, se, sf, sg, si, sj, sk, sl, sm⟩ := pb
 refine Wr fun sn pn => Vg (cs := [pc, pd, pe, pf, pg, ph, pi, pj, pk, pl, pm]) hs rfl rfl (fun b3 w hs => As rfl <| As rfl <| Ox pn <| Zh fun so po => Wr fun sp pp => O_y rfl (Xk (i := 0) Zja Zje hs rfl rfl rfl rfl) ?_)
 obtain ⟨bl, l8, H⟩ := bnd H
 refine Oc rfl (J6.c hs h0 l8) (fun sq w hpost => ?_)
 obtain ⟨pq, pr, rfl, kj, hs, ps⟩ := hpost
 have pt := ps
 obtain rfl := pt
 refine Mv rfl <| Oxt rfl <| Oxt rfl <| Y6 Zb8 hs rfl (fun fb w hs => Ye (i := 0) Hs hs rfl rfl rfl rfl rfl (Zb rfl (Zb rfl Yj)) (fun w hs => As rfl <| Ox pp <| Wr fun sr pu => Mv rfl <| One rfl <| Ox pu <| Y7 rfl (fun l9 => ?_) (fun l9 => ?_)))
 rw [if_pos l9] at H
 refine Wr fun ss pv => Mv rfl <| As rfl <| As rfl <| Ox pv <| Zk ?_
 have pw : Xs Hm pq (.pointer none) none := Xs.nil _ _
 obtain rfl := Zz H
 exact Zbs rfl rfl rfl ⟨_, _, rfl, kj, (hs.sub (ssk (ssk ssr))), pw⟩
 rw [if_neg l9] at H
 refine Wx po <| Wr fun st px => O_y rfl (Xk (i := 1) Zja Zje hs rfl rfl rfl rfl) ?_
 obtain ⟨ap, ma, H⟩ := bnd H
 refine Oc rfl (Zas.c hs (rBk.mono kj h0) ma) (fun py w hpost => ?_)
 obtain ⟨br, pa, rfl, kw, hs, mb⟩ := hpost
 have mc := mb
 obtain ⟨ba, a9, aq, a8, an, au, a7, a6, ar, a5, ao, rfl, kx, jn, jo, jp, hf, jq, jr, js, jt, ju, jv⟩ := mc
 refine Ye (i := 1) Zje hs rfl rfl rfl rfl rfl (Zb kx.one (Zb jn.one (Zb jo.one (Zb jp.one (Zb hf.one (Zb jq.one (Zb jr.one (Zb js.one (Zb jt.one (Zb ju.one (Zb jv.one Yj))))))))))) (fun w hs => Ox px <| W.weak [(1, _)] (S1 rfl) <| Wr fun pz md => As rfl <| Ox md <| Yu fun me mf ky => ?_)
 have kz : ∀ (af ad ag ah ai ae aj ak al am : Option Tab) (av aw ax ay az a0 a1 a2 a3 a4 : Value) (bm aa : Nat) (bn : Hp) (w : World), Zi.j3 ap af ad ag ah ai ae aj ak al am = some r → Le br bn → St w0 bn ((.box bm 114 ([ba, a9, aq, a8, an, au, a7, a6, ar, a5, ao, av, aw, ax, ay, az, a0, a1, a2, a3, a4, .map (some aa)])) :: (.obj aa (X4 Uf.enc (vs (Value.int .i32) ([] : List (Vector Int 2 × Int))))) :: (.box fb 100 ([.int .i64 bl.1.list, .int .i64 bl.1.row])) :: (.box b3 27 ([ba, a9, aq, a8, an, au, a7, a6, ar, a5, ao])) :: Γ) w → Xs Vc bn av af → Xs Vc bn aw ad → Xs Vc bn ax ag → Xs Vc bn ay ah → Xs Vc bn az ai → Xs Vc bn a0 ae → Xs Vc bn a1 aj → Xs Vc bn a2 ak → Xs Vc bn a3 al → Xs Vc bn a4 am → me [(1, .pointer (some ⟨b3, 0, none⟩)), (7, .pointer (some ⟨bm, 0, none⟩))] w := by
  intro af ad ag ah ai ae aj ak al am av aw ax ay az a0 a1 a2 a3 a4 bm aa bn w H bk hs fg bq fh fi fj b7 fk fl fm fn
  rw [Zi.j3] at H
  refine mf _ _ <| Zh fun p0 mg => Wr fun p1 mh => Ofd Zeq rfl <| Obx 3 Zdw hs rfl <| O_y rfl (Yv Ze5 (hf.mono bk) rfl) <| Mv rfl <| Ox mh <| Zj fun p2 mi p3 => Y9 (σ := Nat × (List (Vector Int 2 × Int)) × Int) (fun (bs, ac, ab) => [(7, .pointer (some ⟨bm, 0, none⟩)), (60, an), (61, .int .i64 (ap.decomp.length : Int)), (62, .int .i64 ab)]) (fun (bs, ac, ab) w => Zi.l1 bs ap af ad ag ah ai ae aj ak al am ac ab = some r ∧ St w0 bn ((.box bm 114 ([ba, a9, aq, a8, an, au, a7, a6, ar, a5, ao, av, aw, ax, ay, az, a0, a1, a2, a3, a4, .map (some aa)])) :: (.obj aa (X4 Uf.enc (vs (Value.int .i32) ac))) :: (.box fb 100 ([.int .i64 bl.1.list, .int .i64 bl.1.row])) :: (.box b3 27 ([ba, a9, aq, a8, an, au, a7, a6, ar, a5, ao])) :: Γ) w) (fun s => s.1) (K0, ([] : List (Vector Int 2 × Int)), 0) (T4 rfl) (Ai H hs) ?_
  rintro ⟨bs, ac, ab⟩ w p4 ⟨H, hs⟩ jw
  show W _ _ _ _ _ _ [(7, .pointer (some ⟨bm, 0, none⟩)), (60, an), (61, .int .i64 (ap.decomp.length : Int)), (62, .int .i64 ab)] w
  cases bs with
  | zero => rw [Zi.l1] at H; cases H
  | succ bs =>
  rw [Zi.l1] at H
  refine Wr fun p5 mj => Ols rfl <| Ox mj <| Zh fun p6 mk => Y7 rfl (fun kk => ?_) (fun kk => ?_)
  rw [if_pos kk] at H
  refine Wx mk <| Yu fun ml mm k0 => ?_
  have k1 : ∀ (bj : List (Vector Int 2 × Int)) (w : World), Zi.j1 (Zi.l1 bs ap af ad ag ah ai ae aj ak al am) ab bj = some r → St w0 bn ((.box bm 114 ([ba, a9, aq, a8, an, au, a7, a6, ar, a5, ao, av, aw, ax, ay, az, a0, a1, a2, a3, a4, .map (some aa)])) :: (.obj aa (X4 Uf.enc (vs (Value.int .i32) bj))) :: (.box fb 100 ([.int .i64 bl.1.list, .int .i64 bl.1.row])) :: (.box b3 27 ([ba, a9, aq, a8, an, au, a7, a6, ar, a5, ao])) :: Γ) w → ml [(7, .pointer (some ⟨bm, 0, none⟩)), (60, an), (61, .int .i64 (ap.decomp.length : Int)), (62, .int .i64 ab)] w := by
   intro bj w H hs
   rw [Zi.j1] at H
   refine mm _ _ <| Zc <| Oad rfl <| Mv rfl <| Zd (jw (bs, bj, (i64.wrap (ab + 1))) _ _ (T4 rfl) (Ai H hs) (Nat.lt_succ_self _))
  refine Zj fun p7 p8 p9 => Zh fun qa mn => Zc ?_
  obtain ⟨k2, H⟩ := gd H
  obtain ⟨qb, qc, mo, mp⟩ := (hf.mono bk).ix Zdo k2.1 k2.2
  obtain ⟨_, ⟨kl, rfl, hk⟩, mq⟩ := mo
  refine O_y rfl (mp rfl rfl) <| O_y rfl (Qv Zbq Zag rfl rfl (fun j u hu => hs.see (mq j u hu))) <| Y6 Zgz hs rfl (fun jx w hs => Ye (i := 0) Zag hs rfl rfl rfl rfl rfl (Zb rfl (Zb rfl (Zb hk.one Yj))) (fun w hs => Ox mn <| Yu fun mr ms jy => ?_))
  have jz : ∀ (b6 : Bool) (w : World), Zi.j2 (Zi.l1 bs ap af ad ag ah ai ae aj ak al am) ap ac ab b6 = some r → St w0 bn ((.box jx 110 ([.int .i32 ((rd ap.decomp ab).lo), .int .i32 ((rd ap.decomp ab).hi), kl])) :: (.box bm 114 ([ba, a9, aq, a8, an, au, a7, a6, ar, a5, ao, av, aw, ax, ay, az, a0, a1, a2, a3, a4, .map (some aa)])) :: (.obj aa (X4 Uf.enc (vs (Value.int .i32) ac))) :: (.box fb 100 ([.int .i64 bl.1.list, .int .i64 bl.1.row])) :: (.box b3 27 ([ba, a9, aq, a8, an, au, a7, a6, ar, a5, ao])) :: Γ) w → mr [(7, .pointer (some ⟨bm, 0, none⟩)), (9, .pointer (some ⟨jx, 0, none⟩)), (60, an), (61, .int .i64 (ap.decomp.length : Int)), (62, .int .i64 ab), (101, .bool b6)] w := by
   intro b6 w H hs
   rw [Zi.j2] at H
   refine ms _ _ <| Xg rfl (fun km => ?_) (fun km => ?_)
   rw [if_pos km] at H
   refine Qn 16 [0, 1, 2, 4, 0, 16, 32, 64, 0, 256, 512, 1024, 2176, 0, 8192, 32767] [32764, 32760, 32752, 32752, 32719, 32655, 32527, 28431, 31999, 30975, 28927, 24831, 24591, 8191, 8191, 0] [0, 1, 3, 7, 0, 16, 48, 112, 0, 256, 768, 1792, 4080, 0, 8192, 32767] [15] (fun w => St w0 bn ((.box jx 110 ([.int .i32 ((rd ap.decomp ab).lo), .int .i32 ((rd ap.decomp ab).hi), kl])) :: (.box bm 114 ([ba, a9, aq, a8, an, au, a7, a6, ar, a5, ao, av, aw, ax, ay, az, a0, a1, a2, a3, a4, .map (some aa)])) :: (.obj aa (X4 Uf.enc (vs (Value.int .i32) ac))) :: (.box fb 100 ([.int .i64 bl.1.list, .int .i64 bl.1.row])) :: (.box b3 27 ([ba, a9, aq, a8, an, au, a7, a6, ar, a5, ao])) :: Γ) w) Vl (by kernel_rfl) (fun sh => ?_)
   have hs := hs.drew
   refine Fm 0 sh rfl <| Fp 1 sh rfl (fun w => K1 rfl) <| Fp 2 sh rfl (fun w => Zp Zmu rfl) <| Fy 3 sh rfl hs (fun w hs => Yb 1 Zvh hs rfl rfl rfl) <| Fp 4 sh rfl (fun w => Zp H4 rfl) <| Fy 5 sh rfl hs (fun w hs => Yb 0 Za8 hs rfl rfl rfl) ?_
   obtain ⟨k3, H⟩ := gd H
   obtain ⟨qd, qe, mt, mu⟩ := hk.ix Q7 k3.1 k3.2
   refine Fp 6 sh rfl (fun w => mu rfl rfl) <| Fy 7 sh rfl hs (fun w hs => Xp Xm rfl (hs.see mt.int)) <| Fp 8 sh rfl (fun w => Zp H4 rfl) <| Fy 9 sh rfl hs (fun w hs => Yb 0 Za8 hs rfl rfl rfl) ?_
   obtain ⟨k4, H⟩ := gd H
   obtain ⟨qf, qg, mv, mw⟩ := hk.ix Q7 k4.1 k4.2
   refine Fp 10 sh rfl (fun w => mw rfl rfl) <| Fy 11 sh rfl hs (fun w hs => Xp Xm rfl (hs.see mv.int)) <| Fp 12 sh rfl (fun w => Ze0 (xs := [.tmp 109, .tmp 113]) (zs := vcs (Value.int .i32) #v[rd ((rd ap.decomp ab).is_) 0, rd ((rd ap.decomp ab).is_) 1]) Zpi Zf0 Zry rfl rfl rfl (Zcz rfl (Zcz rfl Zki)) rfl) <| Fp 13 sh rfl (fun w => Zp Zbu rfl) <| Fy 14 sh rfl hs (fun w hs => Yb 0 Xm hs rfl rfl rfl) <| F1 15 sh rfl (fun qh mx => Zcp (i := 2) (m := ac) (x := #v[rd ((rd ap.decomp ab).is_) 0, rd ((rd ap.decomp ab).is_) 1]) (v := (rd ap.decomp ab).lo) (E := (Value.int .i32)) Zu9 Uf trivial (fun _ _ => trivial) hs rfl rfl rfl rfl (fun w hs => Zd (mx _ _ (fun h _ => absurd h (by decide)) <| FE sh (k0 _ _ _ (T4 rfl) (k1 (Ht ac (#v[rd ((rd ap.decomp ab).is_) 0, rd ((rd ap.decomp ab).is_) 1]) ((rd ap.decomp ab).lo)) _ H (hs.sub (ssk (ssc (ssc (ssc (ssc ssr)))))))))))
   rw [if_neg (bft km)] at H
   exact Ua (k0 _ _ _ (T4 rfl) (k1 ac _ H (hs.sub (ssk (ssc (ssc (ssc (ssc ssr))))))))
  refine Qn 36 [0, 1, 2, 4, 8, 16, 48, 80, 144, 16, 528, 1296, 2064, 4112, 10240, 16384, 49152, 81920, 147456, 16384, 540672, 1327104, 2113536, 4210688, 10485760, 16777216, 50331648, 83886080, 150994944, 16777216, 553648128, 1090519040, 2164260864, 4580179968, 8606711808, 17196646400] [68719476732, 68719476728, 68719476720, 68719476704, 68719460352, 68719476608, 68719476480, 68719476224, 68719474176, 68719475168, 68719473120, 68719452160, 68719460352, 68719443968, 68702699520, 68719345664, 68719214592, 68718952448, 68716855296, 68717871104, 68715773952, 68694310912, 68702699520, 68685922304, 0, 68585259008, 68451041280, 68182605824, 59592671232, 67075309568, 64927825920, 60632858624, 52042924032, 34359738368, 0, 0] [0, 1, 3, 7, 15, 31, 63, 127, 255, 31, 543, 2047, 4095, 8191, 16383, 32767, 65535, 131071, 262143, 32767, 557055, 2097151, 4194303, 8388607, 16777215, 33554431, 67108863, 134217727, 268435455, 33554431, 570425343, 1644167167, 3791650815, 8589934591, 17179869183, 34359738367] [11, 12, 13, 14, 15, 16, 17, 18, 19, 20, 21, 22, 23, 24, 25, 26, 27, 28, 29, 30, 31, 32, 33, 34, 35] (fun w => St w0 bn ((.box jx 110 ([.int .i32 ((rd ap.decomp ab).lo), .int .i32 ((rd ap.decomp ab).hi), kl])) :: (.box bm 114 ([ba, a9, aq, a8, an, au, a7, a6, ar, a5, ao, av, aw, ax, ay, az, a0, a1, a2, a3, a4, .map (some aa)])) :: (.obj aa (X4 Uf.enc (vs (Value.int .i32) ac))) :: (.box fb 100 ([.int .i64 bl.1.list, .int .i64 bl.1.row])) :: (.box b3 27 ([ba, a9, aq, a8, an, au, a7, a6, ar, a5, ao])) :: Γ) w) Vl (by kernel_rfl) (fun sh => ?_)
  have hs := hs.drew
  refine Fp 0 sh rfl (fun w => Zp H4 rfl) <| Fy 1 sh rfl hs (fun w hs => Yb 0 Za8 hs rfl rfl rfl) <| Fp 2 sh rfl (fun w => Yv V2 hk rfl) <| Fp 3 sh rfl (fun w => Zbn rfl rfl) <| Fm 4 sh rfl <| Zav (dj := 70) rfl (fun kn => ?_) (fun kn => ?_)
  rw [if_pos kn] at H
  refine Fp 5 sh rfl (fun w => Qk rfl) <| Fp 6 sh rfl (fun w => K1 rfl) <| Fp 7 sh rfl (fun w => Zp Zuj rfl) <| Fy 8 sh rfl hs (fun w hs => Yb 1 Zcc hs rfl rfl rfl) <| Fp 9 sh rfl (fun w => Zp Zbu rfl) <| Fy 10 sh rfl hs (fun w hs => Yb 0 Xm hs rfl rfl rfl) <| F1 11 sh rfl (fun qi my => Oe rfl ?_)
  obtain ⟨ku, k5, H⟩ := bnd H
  refine Oc rfl (Z1.c hs b7 k5) (fun qj w hpost => ?_)
  obtain ⟨rfl, hs⟩ := hpost
  refine Zd (my _ _ (fun h _ => absurd h (by decide)) <| Ke sh [21, 22, 23, 24, 25, 26, 27, 28, 29, 30, 31, 32, 33, 34, 35] hs (by kernel_rfl) <| Fp 12 sh rfl (fun w => Zbn rfl rfl) <| Fp 13 sh rfl (fun w => J7 rfl rfl) <| Fm 14 sh rfl <| Zav (dj := 80) rfl (fun ko => ?_) (fun ko => ?_))
  rw [if_pos ko] at H
  refine Fp 15 sh rfl (fun w => Qk rfl) <| Fp 16 sh rfl (fun w => K1 rfl) <| Fp 17 sh rfl (fun w => Zp Zlk rfl) <| Fy 18 sh rfl hs (fun w hs => Yb 1 Zcc hs rfl rfl rfl) <| Fp 19 sh rfl (fun w => Zp Zbu rfl) <| Fy 20 sh rfl hs (fun w hs => Yb 0 Xm hs rfl rfl rfl) <| F1 21 sh rfl (fun qk mz => Oe rfl ?_)
  obtain ⟨kv, k6, H⟩ := bnd H
  refine Oc rfl (Z1.c hs bq k6) (fun ql w hpost => ?_)
  obtain ⟨rfl, hs⟩ := hpost
  refine Zd (mz _ _ (fun h _ => absurd h (by decide)) <| Ke sh [33, 34, 35] hs (by kernel_rfl) <| Fp 22 sh rfl (fun w => Zbn rfl rfl) <| Fp 23 sh rfl (fun w => J7 rfl rfl) <| Fm 24 sh rfl <| Zav (dj := 90) rfl (fun kp => ?_) (fun kp => ?_))
  rw [if_pos kp] at H
  refine Fp 25 sh rfl (fun w => Qk rfl) <| Fp 26 sh rfl (fun w => K1 rfl) <| Fp 27 sh rfl (fun w => Zp Zlk rfl) <| Fy 28 sh rfl hs (fun w hs => Yb 1 Zcc hs rfl rfl rfl) <| Fp 29 sh rfl (fun w => Zp H4 rfl) <| Fy 30 sh rfl hs (fun w hs => Yb 0 Za8 hs rfl rfl rfl) ?_
  obtain ⟨k7, H⟩ := gd H
  obtain ⟨qm, qn, m0, m1⟩ := hk.ix Q7 k7.1 k7.2
  refine Fp 31 sh rfl (fun w => m1 rfl rfl) <| Fy 32 sh rfl hs (fun w hs => Xp Xm rfl (hs.see m0.int)) <| F1 33 sh rfl (fun qo m2 => Oe rfl ?_)
  obtain ⟨j8, k8, H⟩ := bnd H
  refine Oc rfl (Z1.c hs bq k8) (fun qp w hpost => ?_)
  obtain ⟨rfl, hs⟩ := hpost
  refine Zd (m2 _ _ (fun h _ => absurd h (by decide)) <| Ke sh [] hs (by kernel_rfl) <| Fp 34 sh rfl (fun w => Zbn rfl rfl) <| Fp 35 sh rfl (fun w => J7 rfl rfl) <| FE sh (jy _ _ _ sbn (jz (decide (j8 = 0)) _ H hs)))
  rw [if_neg kp] at H
  refine Fn 25 sh rfl <| Fn 26 sh rfl <| Fn 27 sh rfl <| Fn 28 sh rfl <| Fn 29 sh rfl <| Fn 30 sh rfl <| Fn 31 sh rfl <| Fn 32 sh rfl <| Fn 33 sh rfl <| Fn 34 sh rfl <| Fp 35 sh rfl (fun w => Qr rfl rfl) <| FE sh (jy _ _ _ sbn (jz false _ H hs))
  rw [if_neg ko] at H
  refine Fn 15 sh rfl <| Fn 16 sh rfl <| Fn 17 sh rfl <| Fn 18 sh rfl <| Fn 19 sh rfl <| Fn 20 sh rfl <| Fn 21 sh rfl <| Fn 22 sh rfl <| Fp 23 sh rfl (fun w => Qr rfl rfl) <| Fm 24 sh rfl <| Fn 25 sh rfl <| Fn 26 sh rfl <| Fn 27 sh rfl <| Fn 28 sh rfl ?_
  refine Fn 29 sh rfl <| Fn 30 sh rfl <| Fn 31 sh rfl <| Fn 32 sh rfl <| Fn 33 sh rfl <| Fn 34 sh rfl <| Fp 35 sh rfl (fun w => Qr rfl rfl) <| FE sh (jy _ _ _ sbn (jz false _ H hs))
  rw [if_neg kn] at H
  refine Fn 5 sh rfl <| Fn 6 sh rfl <| Fn 7 sh rfl <| Fn 8 sh rfl <| Fn 9 sh rfl <| Fn 10 sh rfl <| Fn 11 sh rfl <| Fn 12 sh rfl <| Fp 13 sh rfl (fun w => Qr rfl rfl) <| Fm 14 sh rfl <| Fn 15 sh rfl <| Fn 16 sh rfl <| Fn 17 sh rfl <| Fn 18 sh rfl ?_
  refine Fn 19 sh rfl <| Fn 20 sh rfl <| Fn 21 sh rfl <| Fn 22 sh rfl <| Fp 23 sh rfl (fun w => Qr rfl rfl) <| Fm 24 sh rfl <| Fn 25 sh rfl <| Fn 26 sh rfl <| Fn 27 sh rfl <| Fn 28 sh rfl <| Fn 29 sh rfl <| Fn 30 sh rfl <| Fn 31 sh rfl <| Fn 32 sh rfl ?_
  refine Fn 33 sh rfl <| Fn 34 sh rfl <| Fp 35 sh rfl (fun w => Qr rfl rfl) <| FE sh (jy _ _ _ sbn (jz false _ H hs))
  rw [if_neg kk] at H
  refine Y4 (mi _ _ (mg _ _ <| Wr fun qq m3 => Mv rfl <| As rfl <| As rfl <| Ox m3 <| Zk ?_))
  obtain ⟨qr, bg, hs, m4⟩ := hs.objEnd (enc := (fun y : Vector Int 2 => Value.agg (acs .i32 y.toList).toArray)) (E := (Value.int .i32)) (m := ac) (j := 1) rfl
  obtain ⟨m5, bf, hs, k9⟩ := hs.boxEnd (j := 0) rfl
  have m6 : Xs Hm m5 (.pointer (some ⟨bm, 0, none⟩)) (some (⟨(⟨ap.names, ap.status, ap.maps, ap.class_, ap.decomp, ap.excl, ap.bidi, ap.join, ap.marks, ap.script, ap.like⟩ : Bk), af, ad, ag, ah, ai, ae, aj, ak, al, am, ac⟩ : Tbs)) := .inr ⟨bm, _, rfl, rfl, _, ⟨_, _, _, _, _, _, _, _, _, _, _, _, _, _, _, _, _, _, _, _, _, _, rfl, (kx.mono ((bk.trans bg).trans bf)), (jn.mono ((bk.trans bg).trans bf)), (jo.mono ((bk.trans bg).trans bf)), (jp.mono ((bk.trans bg).trans bf)), (hf.mono ((bk.trans bg).trans bf)), (jq.mono ((bk.trans bg).trans bf)), (jr.mono ((bk.trans bg).trans bf)), (js.mono ((bk.trans bg).trans bf)), (jt.mono ((bk.trans bg).trans bf)), (ju.mono ((bk.trans bg).trans bf)), (jv.mono ((bk.trans bg).trans bf)), (fg.mono (bg.trans bf)), (bq.mono (bg.trans bf)), (fh.mono (bg.trans bf)), (fi.mono (bg.trans bf)), (fj.mono (bg.trans bf)), (b7.mono (bg.trans bf)), (fk.mono (bg.trans bf)), (fl.mono (bg.trans bf)), (fm.mono (bg.trans bf)), (fn.mono (bg.trans bf)), (m4.mono bf)⟩, k9⟩
  obtain rfl := Zz H
  exact Zbs rfl rfl rfl ⟨_, _, rfl, ((((kj.trans kw).trans bk).trans bg).trans bf), (hs.sub (ssk (ssk ssr))), m6⟩
 refine Qn 40 [0, 0, 0, 4, 10, 0, 0, 64, 176, 0, 0, 1024, 2816, 0, 0, 16384, 45056, 0, 0, 262144, 720896, 0, 2097152, 5242880, 0, 16777216, 41943040, 0, 134217728, 335544320, 0, 1073741824, 2684354560, 0, 8589934592, 21474836480, 0, 107987669265, 137438953472, 549755813887] [412316860414, 549755813869, 549755813875, 549755813859, 412316860129, 549755813599, 549755813695, 549755813439, 412316855809, 549755809279, 549755810815, 549755806719, 412316786689, 549755740159, 549755764735, 549755699199, 412315680769, 549754634239, 549755027455, 549753978879, 412306374657, 549749522431, 549741133823, 412232974337, 549705482239, 549638373375, 411645771777, 549353160703, 548816289791, 406948151297, 546534588415, 542239621119, 369367187457, 523986010111, 489626271743, 343597383681, 343597383679, 0, 0, 0] [0, 0, 0, 4, 14, 0, 0, 64, 254, 0, 0, 1024, 4094, 0, 0, 16384, 65534, 0, 0, 262144, 1048574, 0, 2097152, 8388606, 0, 16777216, 67108862, 0, 134217728, 536870910, 0, 1073741824, 4294967294, 0, 8589934592, 34359738366, 0, 137438953471, 274877906943, 549755813887] [] (fun w => St w0 br ((.box fb 100 ([.int .i64 bl.1.list, .int .i64 bl.1.row])) :: (.box b3 27 ([ba, a9, aq, a8, an, au, a7, a6, ar, a5, ao])) :: Γ) w) Vl (by kernel_rfl) (fun sh => ?_)
 have hs := hs.drew
 refine Fy 0 sh rfl hs (fun w hs => Xk (i := 1) Zja Zje hs rfl rfl rfl rfl) <| Fm 1 sh rfl <| Fp 2 sh rfl (fun w => Zp Zdz rfl) <| Fy 3 sh rfl hs (fun w hs => Yb 1 Zbl hs rfl rfl rfl) <| Fm 5 sh rfl <| Fp 6 sh rfl (fun w => Zp Zkz rfl) <| Fy 7 sh rfl hs (fun w hs => Yb 1 Zbl hs rfl rfl rfl) <| Fm 9 sh rfl <| Fp 10 sh rfl (fun w => Zp Zlh rfl) <| Fy 11 sh rfl hs (fun w hs => Yb 1 Zbl hs rfl rfl rfl) <| Fm 13 sh rfl <| Fp 14 sh rfl (fun w => Zp Zk7 rfl) <| Fy 15 sh rfl hs (fun w hs => Yb 1 Zbl hs rfl rfl rfl) <| Fm 17 sh rfl ?_
 refine Fp 18 sh rfl (fun w => Zp Zk1 rfl) <| Fy 19 sh rfl hs (fun w hs => Yb 1 Zbl hs rfl rfl rfl) <| Fp 21 sh rfl (fun w => Zp Zk8 rfl) <| Fy 22 sh rfl hs (fun w hs => Yb 1 Zl1 hs rfl rfl rfl) <| Fp 24 sh rfl (fun w => Zp Zlf rfl) <| Fy 25 sh rfl hs (fun w hs => Yb 1 Zl1 hs rfl rfl rfl) <| Fp 27 sh rfl (fun w => Zp Zik rfl) <| Fy 28 sh rfl hs (fun w hs => Yb 1 Zdw hs rfl rfl rfl) <| Fp 30 sh rfl (fun w => Zp Zeq rfl) <| Fy 31 sh rfl hs (fun w hs => Yb 1 Zdw hs rfl rfl rfl) <| Fp 33 sh rfl (fun w => Zp Zhf rfl) <| Fy 34 sh rfl hs (fun w hs => Yb 1 Zdw hs rfl rfl rfl) <| Zsl fun fs bb => ?_
 have la : ∀ (b9 ca cb cc cd ce cf cg ch : Option Tab) (aa : Nat) (bt bu bv bw bx bz b0 b1 b2 : Value) (b4 : Hp) (w : World), Zi.t1 ap b9 ca cb cc cd ce cf cg ch = some r → Le br b4 → St w0 b4 ((.obj aa (X4 Uf.enc (vs (Value.int .i32) ([] : List (Vector Int 2 × Int))))) :: (.box fb 100 ([.int .i64 bl.1.list, .int .i64 bl.1.row])) :: (.box b3 27 ([ba, a9, aq, a8, an, au, a7, a6, ar, a5, ao])) :: Γ) w → Xs Vc b4 bt b9 → Xs Vc b4 bu ca → Xs Vc b4 bv cb → Xs Vc b4 bw cc → Xs Vc b4 bx cd → Xs Vc b4 bz ce → Xs Vc b4 b0 cf → Xs Vc b4 b1 cg → Xs Vc b4 b2 ch → fs [] (fun w => St w0 br ((.box fb 100 ([.int .i64 bl.1.list, .int .i64 bl.1.row])) :: (.box b3 27 ([ba, a9, aq, a8, an, au, a7, a6, ar, a5, ao])) :: Γ) w) 4 [32, 29, 26, 23, 20, 16, 12, 8, 4, 36, 34, 33, 31, 30, 28, 27, 25, 24, 22, 21, 19, 18, 17, 15, 14, 13, 11, 10, 9, 7, 6, 5, 3, 2, 1, 0] [(1, .pointer (some ⟨b3, 0, none⟩)), (20, .agg #[ba, a9, aq, a8, an, au, a7, a6, ar, a5, ao]), (24, bt), (28, bu), (32, bv), (36, bw), (40, bx), (43, bz), (46, b0), (49, b1), (52, b2), (54, ao), (56, .map (some aa))] w := by
  intro b9 ca cb cc cd ce cf cg ch aa bt bu bv bw bx bz b0 b1 b2 b4 w H fy hs gc ge gf gg gh gi gj gk gl
  rw [Zi.t1] at H
  refine (bb _ _ _ _ _ _).1 <| F1 35 sh rfl (fun qs m7 => ?_)
  obtain ⟨j9, lb, H⟩ := bnd H
  refine Oc rfl (Z7.c hs (jv.mono fy) lb) (fun kq w hpost => ?_)
  obtain ⟨m8, qt, rfl, b5, hs, lc⟩ := hpost
  refine Zd (m7 _ _ (fun _ _ => ((hs.less (fy.trans b5)).sub (ssk (ssc (ssc ssr))))) <| Fp 37 sh rfl (fun w => Qe (cs := [ba, a9, aq, a8, an, au, a7, a6, ar, a5, ao, bt, bu, bv, bw, bx, bz, b0, b1, b2, kq, .map (some aa)]) Zux Zuw ((Z2.cons rfl rfl (Z2.cons rfl gc.cellsL (Z2.cons rfl ge.cellsL (Z2.cons rfl gf.cellsL (Z2.cons rfl gg.cellsL (Z2.cons rfl gh.cellsL (Z2.cons rfl gi.cellsL (Z2.cons rfl gj.cellsL (Z2.cons rfl gk.cellsL (Z2.cons rfl gl.cellsL (Z2.cons rfl lc.cellsL (Z2.cons rfl rfl Z2.nil))))))))))))) Zvc (by kernel_rfl)) <| F1 38 sh rfl (fun qu m9 => Vg (cs := [ba, a9, aq, a8, an, au, a7, a6, ar, a5, ao, bt, bu, bv, bw, bx, bz, b0, b1, b2, kq, .map (some aa)]) hs rfl rfl (fun bm w hs => Zd (m9 _ _ (fun _ _ => ((hs.less (fy.trans b5)).sub (ssk (ssk (ssc (ssc ssr)))))) <| Fp 39 sh rfl (fun w => Xv rfl) <| FE sh (ky _ _ _ (T2 rfl) (kz b9 ca cb cc cd ce cf cg ch j9 bt bu bv bw bx bz b0 b1 b2 kq bm aa m8 _ H (fy.trans b5) hs (gc.mono b5) (ge.mono b5) (gf.mono b5) (gg.mono b5) (gh.mono b5) (gi.mono b5) (gj.mono b5) (gk.mono b5) (gl.mono b5) lc))))))
 have ld : ∀ (ci cj ck cl cm cn co cp : Option Tab) (aa : Nat) (dz ea eb ec ed ee ef eg : Value) (b8 : Hp) (w : World), Zi.t2 ap ci cj ck cl cm cn co cp = some r → Le br b8 → St w0 b8 ((.obj aa (X4 Uf.enc (vs (Value.int .i32) ([] : List (Vector Int 2 × Int))))) :: (.box fb 100 ([.int .i64 bl.1.list, .int .i64 bl.1.row])) :: (.box b3 27 ([ba, a9, aq, a8, an, au, a7, a6, ar, a5, ao])) :: Γ) w → Xs Vc b8 dz ci → Xs Vc b8 ea cj → Xs Vc b8 eb ck → Xs Vc b8 ec cl → Xs Vc b8 ed cm → Xs Vc b8 ee cn → Xs Vc b8 ef co → Xs Vc b8 eg cp → fs [] (fun w => St w0 br ((.box fb 100 ([.int .i64 bl.1.list, .int .i64 bl.1.row])) :: (.box b3 27 ([ba, a9, aq, a8, an, au, a7, a6, ar, a5, ao])) :: Γ) w) 5 [29, 26, 23, 20, 16, 12, 8, 4, 36, 34, 33, 31, 30, 28, 27, 25, 24, 22, 21, 19, 18, 17, 15, 14, 13, 11, 10, 9, 7, 6, 5, 3, 2, 1, 0] [(1, .pointer (some ⟨b3, 0, none⟩)), (20, .agg #[ba, a9, aq, a8, an, au, a7, a6, ar, a5, ao]), (24, dz), (28, ea), (32, eb), (36, ec), (40, ed), (43, ee), (46, ef), (49, eg), (51, an), (54, ao), (56, .map (some aa))] w := by
  intro ci cj ck cl cm cn co cp aa dz ea eb ec ed ee ef eg b8 w H gs hs hl hm hn ho hp hq hr ht
  rw [Zi.t2] at H
  refine (bb _ _ _ _ _ _).1 <| F1 32 sh rfl (fun qv na => ?_)
  obtain ⟨ka, le, H⟩ := bnd H
  refine Oc rfl (Z7.c hs (hf.mono gs) le) (fun nb w hpost => ?_)
  obtain ⟨nc, qw, rfl, dv, hs, nd⟩ := hpost
  refine Zd (na _ _ (fun _ _ => ((hs.less (gs.trans dv)).sub (ssk (ssc (ssc ssr))))) <| (Xr rfl (by kernel_rfl) (OD.weak [(1, _), (20, _), (24, _), (28, _), (32, _), (36, _), (40, _), (43, _), (46, _), (49, _), (52, _), (54, _), (56, _)] sbn ((bb _ _ _ _ _ _).2 (la ci cj ck cl cm cn co cp ka aa dz ea eb ec ed ee ef eg nb nc _ H (gs.trans dv) hs (hl.mono dv) (hm.mono dv) (hn.mono dv) (ho.mono dv) (hp.mono dv) (hq.mono dv) (hr.mono dv) (ht.mono dv) nd)))))
 have lf : ∀ (cq cr ct cu cv cw cx : Option Tab) (aa : Nat) (eh ei ej ek el em en : Value) (dw : Hp) (w : World), Zi.t3 ap cq cr ct cu cv cw cx = some r → Le br dw → St w0 dw ((.obj aa (X4 Uf.enc (vs (Value.int .i32) ([] : List (Vector Int 2 × Int))))) :: (.box fb 100 ([.int .i64 bl.1.list, .int .i64 bl.1.row])) :: (.box b3 27 ([ba, a9, aq, a8, an, au, a7, a6, ar, a5, ao])) :: Γ) w → Xs Vc dw eh cq → Xs Vc dw ei cr → Xs Vc dw ej ct → Xs Vc dw ek cu → Xs Vc dw el cv → Xs Vc dw em cw → Xs Vc dw en cx → fs [] (fun w => St w0 br ((.box fb 100 ([.int .i64 bl.1.list, .int .i64 bl.1.row])) :: (.box b3 27 ([ba, a9, aq, a8, an, au, a7, a6, ar, a5, ao])) :: Γ) w) 6 [26, 23, 20, 16, 12, 8, 4, 36, 34, 33, 31, 30, 28, 27, 25, 24, 22, 21, 19, 18, 17, 15, 14, 13, 11, 10, 9, 7, 6, 5, 3, 2, 1, 0] [(1, .pointer (some ⟨b3, 0, none⟩)), (20, .agg #[ba, a9, aq, a8, an, au, a7, a6, ar, a5, ao]), (24, eh), (28, ei), (32, ej), (36, ek), (40, el), (43, em), (46, en), (48, aq), (51, an), (54, ao), (56, .map (some aa))] w := by
  intro cq cr ct cu cv cw cx aa eh ei ej ek el em en dw w H gt hs hv hw hx hy hz ia ib
  rw [Zi.t3] at H
  refine (bb _ _ _ _ _ _).1 <| F1 29 sh rfl (fun qx ne => ?_)
  obtain ⟨kb, lg, H⟩ := bnd H
  refine Oc rfl (Z7.c hs (jo.mono gt) lg) (fun nf w hpost => ?_)
  obtain ⟨ng, qy, rfl, eo, hs, nh⟩ := hpost
  refine Zd (ne _ _ (fun _ _ => ((hs.less (gt.trans eo)).sub (ssk (ssc (ssc ssr))))) <| (Xr rfl (by kernel_rfl) (OD.weak [(1, _), (20, _), (24, _), (28, _), (32, _), (36, _), (40, _), (43, _), (46, _), (49, _), (51, _), (54, _), (56, _)] sbn ((bb _ _ _ _ _ _).2 (ld cq cr ct cu cv cw cx kb aa eh ei ej ek el em en nf ng _ H (gt.trans eo) hs (hv.mono eo) (hw.mono eo) (hx.mono eo) (hy.mono eo) (hz.mono eo) (ia.mono eo) (ib.mono eo) nh)))))
 have lh : ∀ (cy cz da db dc dd : Option Tab) (aa : Nat) (ep eq er es et eu : Value) (ev : Hp) (w : World), Zi.t4 ap cy cz da db dc dd = some r → Le br ev → St w0 ev ((.obj aa (X4 Uf.enc (vs (Value.int .i32) ([] : List (Vector Int 2 × Int))))) :: (.box fb 100 ([.int .i64 bl.1.list, .int .i64 bl.1.row])) :: (.box b3 27 ([ba, a9, aq, a8, an, au, a7, a6, ar, a5, ao])) :: Γ) w → Xs Vc ev ep cy → Xs Vc ev eq cz → Xs Vc ev er da → Xs Vc ev es db → Xs Vc ev et dc → Xs Vc ev eu dd → fs [] (fun w => St w0 br ((.box fb 100 ([.int .i64 bl.1.list, .int .i64 bl.1.row])) :: (.box b3 27 ([ba, a9, aq, a8, an, au, a7, a6, ar, a5, ao])) :: Γ) w) 7 [23, 20, 16, 12, 8, 4, 36, 34, 33, 31, 30, 28, 27, 25, 24, 22, 21, 19, 18, 17, 15, 14, 13, 11, 10, 9, 7, 6, 5, 3, 2, 1, 0] [(1, .pointer (some ⟨b3, 0, none⟩)), (20, .agg #[ba, a9, aq, a8, an, au, a7, a6, ar, a5, ao]), (24, ep), (28, eq), (32, er), (36, es), (40, et), (43, eu), (45, ar), (48, aq), (51, an), (54, ao), (56, .map (some aa))] w := by
  intro cy cz da db dc dd aa ep eq er es et eu ev w H gu hs ic id ie ig ih ii
  rw [Zi.t4] at H
  refine (bb _ _ _ _ _ _).1 <| F1 26 sh rfl (fun qz ni => ?_)
  obtain ⟨kc, li, H⟩ := bnd H
  refine Oc rfl (Kv.c hs (jt.mono gu) li) (fun nj w hpost => ?_)
  obtain ⟨nk, q0, rfl, fc, hs, nl⟩ := hpost
  refine Zd (ni _ _ (fun _ _ => ((hs.less (gu.trans fc)).sub (ssk (ssc (ssc ssr))))) <| (Xr rfl (by kernel_rfl) (OD.weak [(1, _), (20, _), (24, _), (28, _), (32, _), (36, _), (40, _), (43, _), (46, _), (48, _), (51, _), (54, _), (56, _)] sbn ((bb _ _ _ _ _ _).2 (lf cy cz da db dc dd kc aa ep eq er es et eu nj nk _ H (gu.trans fc) hs (ic.mono fc) (id.mono fc) (ie.mono fc) (ig.mono fc) (ih.mono fc) (ii.mono fc) nl)))))
 have lj : ∀ (de df dg dh di : Option Tab) (aa : Nat) (ew ex ey ez e0 : Value) (fd : Hp) (w : World), Zi.t5 ap de df dg dh di = some r → Le br fd → St w0 fd ((.obj aa (X4 Uf.enc (vs (Value.int .i32) ([] : List (Vector Int 2 × Int))))) :: (.box fb 100 ([.int .i64 bl.1.list, .int .i64 bl.1.row])) :: (.box b3 27 ([ba, a9, aq, a8, an, au, a7, a6, ar, a5, ao])) :: Γ) w → Xs Vc fd ew de → Xs Vc fd ex df → Xs Vc fd ey dg → Xs Vc fd ez dh → Xs Vc fd e0 di → fs [] (fun w => St w0 br ((.box fb 100 ([.int .i64 bl.1.list, .int .i64 bl.1.row])) :: (.box b3 27 ([ba, a9, aq, a8, an, au, a7, a6, ar, a5, ao])) :: Γ) w) 8 [20, 16, 12, 8, 4, 36, 34, 33, 31, 30, 28, 27, 25, 24, 22, 21, 19, 18, 17, 15, 14, 13, 11, 10, 9, 7, 6, 5, 3, 2, 1, 0] [(1, .pointer (some ⟨b3, 0, none⟩)), (20, .agg #[ba, a9, aq, a8, an, au, a7, a6, ar, a5, ao]), (24, ew), (28, ex), (32, ey), (36, ez), (40, e0), (42, au), (45, ar), (48, aq), (51, an), (54, ao), (56, .map (some aa))] w := by
  intro de df dg dh di aa ew ex ey ez e0 fd w H gv hs ij ik il im io
  rw [Zi.t5] at H
  refine (bb _ _ _ _ _ _).1 <| F1 23 sh rfl (fun q1 nm => ?_)
  obtain ⟨kd, lk, H⟩ := bnd H
  refine Oc rfl (Kv.c hs (jq.mono gv) lk) (fun nn w hpost => ?_)
  obtain ⟨no, q2, rfl, fo, hs, np⟩ := hpost
  refine Zd (nm _ _ (fun _ _ => ((hs.less (gv.trans fo)).sub (ssk (ssc (ssc ssr))))) <| (Xr rfl (by kernel_rfl) (OD.weak [(1, _), (20, _), (24, _), (28, _), (32, _), (36, _), (40, _), (43, _), (45, _), (48, _), (51, _), (54, _), (56, _)] sbn ((bb _ _ _ _ _ _).2 (lh de df dg dh di kd aa ew ex ey ez e0 nn no _ H (gv.trans fo) hs (ij.mono fo) (ik.mono fo) (il.mono fo) (im.mono fo) (io.mono fo) np)))))
 have ll : ∀ (dk dl dm dn : Option Tab) (aa : Nat) (e1 e2 e3 e4 : Value) (fp : Hp) (w : World), Zi.t6 ap dk dl dm dn = some r → Le br fp → St w0 fp ((.obj aa (X4 Uf.enc (vs (Value.int .i32) ([] : List (Vector Int 2 × Int))))) :: (.box fb 100 ([.int .i64 bl.1.list, .int .i64 bl.1.row])) :: (.box b3 27 ([ba, a9, aq, a8, an, au, a7, a6, ar, a5, ao])) :: Γ) w → Xs Vc fp e1 dk → Xs Vc fp e2 dl → Xs Vc fp e3 dm → Xs Vc fp e4 dn → fs [] (fun w => St w0 br ((.box fb 100 ([.int .i64 bl.1.list, .int .i64 bl.1.row])) :: (.box b3 27 ([ba, a9, aq, a8, an, au, a7, a6, ar, a5, ao])) :: Γ) w) 9 [16, 12, 8, 4, 36, 34, 33, 31, 30, 28, 27, 25, 24, 22, 21, 19, 18, 17, 15, 14, 13, 11, 10, 9, 7, 6, 5, 3, 2, 1, 0] [(1, .pointer (some ⟨b3, 0, none⟩)), (20, .agg #[ba, a9, aq, a8, an, au, a7, a6, ar, a5, ao]), (24, e1), (28, e2), (32, e3), (36, e4), (37, .func (.func 62) #[] #[]), (39, a5), (42, au), (45, ar), (48, aq), (51, an), (54, ao), (56, .map (some aa))] w := by
  intro dk dl dm dn aa e1 e2 e3 e4 fp w H gw hs ip iq ir it
  rw [Zi.t6] at H
  refine (bb _ _ _ _ _ _).1 <| F1 20 sh rfl (fun q3 nq => ?_)
  obtain ⟨ke, lm, H⟩ := bnd H
  refine Xo rfl rfl rfl (Qh.c hs (ju.mono gw) lm) (fun nr w hpost => ?_)
  obtain ⟨ns, q4, rfl, fw, hs, nt⟩ := hpost
  refine Zd (nq _ _ (fun _ _ => ((hs.less (gw.trans fw)).sub (ssk (ssc (ssc ssr))))) <| (Xr rfl (by kernel_rfl) (OD.weak [(1, _), (20, _), (24, _), (28, _), (32, _), (36, _), (40, _), (42, _), (45, _), (48, _), (51, _), (54, _), (56, _)] sbn ((bb _ _ _ _ _ _).2 (lj dk dl dm dn ke aa e1 e2 e3 e4 nr ns _ H (gw.trans fw) hs (ip.mono fw) (iq.mono fw) (ir.mono fw) (it.mono fw) nt)))))
 have ln : ∀ (dp dq dr : Option Tab) (aa : Nat) (e5 e6 e7 : Value) (fx : Hp) (w : World), Zi.t7 ap dp dq dr = some r → Le br fx → St w0 fx ((.obj aa (X4 Uf.enc (vs (Value.int .i32) ([] : List (Vector Int 2 × Int))))) :: (.box fb 100 ([.int .i64 bl.1.list, .int .i64 bl.1.row])) :: (.box b3 27 ([ba, a9, aq, a8, an, au, a7, a6, ar, a5, ao])) :: Γ) w → Xs Vc fx e5 dp → Xs Vc fx e6 dq → Xs Vc fx e7 dr → fs [] (fun w => St w0 br ((.box fb 100 ([.int .i64 bl.1.list, .int .i64 bl.1.row])) :: (.box b3 27 ([ba, a9, aq, a8, an, au, a7, a6, ar, a5, ao])) :: Γ) w) 10 [12, 8, 4, 36, 34, 33, 31, 30, 28, 27, 25, 24, 22, 21, 19, 18, 17, 15, 14, 13, 11, 10, 9, 7, 6, 5, 3, 2, 1, 0] [(1, .pointer (some ⟨b3, 0, none⟩)), (20, .agg #[ba, a9, aq, a8, an, au, a7, a6, ar, a5, ao]), (24, e5), (28, e6), (32, e7), (33, .func (.func 62) #[] #[]), (35, a6), (37, .func (.func 62) #[] #[]), (39, a5), (42, au), (45, ar), (48, aq), (51, an), (54, ao), (56, .map (some aa))] w := by
  intro dp dq dr aa e5 e6 e7 fx w H gx hs iu iv iw
  rw [Zi.t7] at H
  refine (bb _ _ _ _ _ _).1 <| F1 16 sh rfl (fun q5 nu => ?_)
  obtain ⟨kf, lp, H⟩ := bnd H
  refine Xo rfl rfl rfl (Qh.c hs (js.mono gx) lp) (fun nv w hpost => ?_)
  obtain ⟨nw, q6, rfl, gm, hs, nx⟩ := hpost
  refine Zd (nu _ _ (fun _ _ => ((hs.less (gx.trans gm)).sub (ssk (ssc (ssc ssr))))) <| (Xr rfl (by kernel_rfl) (OD.weak [(1, _), (20, _), (24, _), (28, _), (32, _), (36, _), (37, _), (39, _), (42, _), (45, _), (48, _), (51, _), (54, _), (56, _)] sbn ((bb _ _ _ _ _ _).2 (ll dp dq dr kf aa e5 e6 e7 nv nw _ H (gx.trans gm) hs (iu.mono gm) (iv.mono gm) (iw.mono gm) nx)))))
 have lq : ∀ (ds dt : Option Tab) (aa : Nat) (e8 e9 : Value) (gn : Hp) (w : World), Zi.t8 ap ds dt = some r → Le br gn → St w0 gn ((.obj aa (X4 Uf.enc (vs (Value.int .i32) ([] : List (Vector Int 2 × Int))))) :: (.box fb 100 ([.int .i64 bl.1.list, .int .i64 bl.1.row])) :: (.box b3 27 ([ba, a9, aq, a8, an, au, a7, a6, ar, a5, ao])) :: Γ) w → Xs Vc gn e8 ds → Xs Vc gn e9 dt → fs [] (fun w => St w0 br ((.box fb 100 ([.int .i64 bl.1.list, .int .i64 bl.1.row])) :: (.box b3 27 ([ba, a9, aq, a8, an, au, a7, a6, ar, a5, ao])) :: Γ) w) 11 [8, 4, 36, 34, 33, 31, 30, 28, 27, 25, 24, 22, 21, 19, 18, 17, 15, 14, 13, 11, 10, 9, 7, 6, 5, 3, 2, 1, 0] [(1, .pointer (some ⟨b3, 0, none⟩)), (20, .agg #[ba, a9, aq, a8, an, au, a7, a6, ar, a5, ao]), (24, e8), (28, e9), (29, .func (.func 62) #[] #[]), (31, a7), (33, .func (.func 62) #[] #[]), (35, a6), (37, .func (.func 62) #[] #[]), (39, a5), (42, au), (45, ar), (48, aq), (51, an), (54, ao), (56, .map (some aa))] w := by
  intro ds dt aa e8 e9 gn w H gy hs iy iz
  rw [Zi.t8] at H
  refine (bb _ _ _ _ _ _).1 <| F1 12 sh rfl (fun q7 ny => ?_)
  obtain ⟨kg, lr, H⟩ := bnd H
  refine Xo rfl rfl rfl (Qh.c hs (jr.mono gy) lr) (fun nz w hpost => ?_)
  obtain ⟨n0, q8, rfl, hd, hs, n1⟩ := hpost
  refine Zd (ny _ _ (fun _ _ => ((hs.less (gy.trans hd)).sub (ssk (ssc (ssc ssr))))) <| (Xr rfl (by kernel_rfl) (OD.weak [(1, _), (20, _), (24, _), (28, _), (32, _), (33, _), (35, _), (37, _), (39, _), (42, _), (45, _), (48, _), (51, _), (54, _), (56, _)] sbn ((bb _ _ _ _ _ _).2 (ln ds dt kg aa e8 e9 nz n0 _ H (gy.trans hd) hs (iy.mono hd) (iz.mono hd) n1)))))
 have ls : ∀ (du : Option Tab) (aa : Nat) (fa : Value) (he : Hp) (w : World), Zi.t9 ap du = some r → Le br he → St w0 he ((.obj aa (X4 Uf.enc (vs (Value.int .i32) ([] : List (Vector Int 2 × Int))))) :: (.box fb 100 ([.int .i64 bl.1.list, .int .i64 bl.1.row])) :: (.box b3 27 ([ba, a9, aq, a8, an, au, a7, a6, ar, a5, ao])) :: Γ) w → Xs Vc he fa du → fs [] (fun w => St w0 br ((.box fb 100 ([.int .i64 bl.1.list, .int .i64 bl.1.row])) :: (.box b3 27 ([ba, a9, aq, a8, an, au, a7, a6, ar, a5, ao])) :: Γ) w) 12 [4, 36, 34, 33, 31, 30, 28, 27, 25, 24, 22, 21, 19, 18, 17, 15, 14, 13, 11, 10, 9, 7, 6, 5, 3, 2, 1, 0] [(1, .pointer (some ⟨b3, 0, none⟩)), (20, .agg #[ba, a9, aq, a8, an, au, a7, a6, ar, a5, ao]), (24, fa), (25, .func (.func 62) #[] #[]), (27, a8), (29, .func (.func 62) #[] #[]), (31, a7), (33, .func (.func 62) #[] #[]), (35, a6), (37, .func (.func 62) #[] #[]), (39, a5), (42, au), (45, ar), (48, aq), (51, an), (54, ao), (56, .map (some aa))] w := by
  intro du aa fa he w H gz hs ja
  rw [Zi.t9] at H
  refine (bb _ _ _ _ _ _).1 <| F1 8 sh rfl (fun q9 n2 => ?_)
  obtain ⟨kh, lt, H⟩ := bnd H
  refine Xo rfl rfl rfl (Qh.c hs (jp.mono gz) lt) (fun n3 w hpost => ?_)
  obtain ⟨n4, ra, rfl, jb, hs, n5⟩ := hpost
  refine Zd (n2 _ _ (fun _ _ => ((hs.less (gz.trans jb)).sub (ssk (ssc (ssc ssr))))) <| (Xr rfl (by kernel_rfl) (OD.weak [(1, _), (20, _), (24, _), (28, _), (29, _), (31, _), (33, _), (35, _), (37, _), (39, _), (42, _), (45, _), (48, _), (51, _), (54, _), (56, _)] sbn ((bb _ _ _ _ _ _).2 (lq du kh aa fa n3 n4 _ H (gz.trans jb) hs (ja.mono jb) n5)))))
 have n6 : ∀ (aa : Nat) (w : World), Zi.t10 ap = some r → St w0 br ((.obj aa (X4 Uf.enc (vs (Value.int .i32) ([] : List (Vector Int 2 × Int))))) :: (.box fb 100 ([.int .i64 bl.1.list, .int .i64 bl.1.row])) :: (.box b3 27 ([ba, a9, aq, a8, an, au, a7, a6, ar, a5, ao])) :: Γ) w → fs [] (fun w => St w0 br ((.box fb 100 ([.int .i64 bl.1.list, .int .i64 bl.1.row])) :: (.box b3 27 ([ba, a9, aq, a8, an, au, a7, a6, ar, a5, ao])) :: Γ) w) 13 [36, 34, 33, 31, 30, 28, 27, 25, 24, 22, 21, 19, 18, 17, 15, 14, 13, 11, 10, 9, 7, 6, 5, 3, 2, 1, 0] [(1, .pointer (some ⟨b3, 0, none⟩)), (20, .agg #[ba, a9, aq, a8, an, au, a7, a6, ar, a5, ao]), (21, .func (.func 62) #[] #[]), (23, a9), (25, .func (.func 62) #[] #[]), (27, a8), (29, .func (.func 62) #[] #[]), (31, a7), (33, .func (.func 62) #[] #[]), (35, a6), (37, .func (.func 62) #[] #[]), (39, a5), (42, au), (45, ar), (48, aq), (51, an), (54, ao), (56, .map (some aa))] w := by
  intro aa w H hs
  rw [Zi.t10] at H
  refine (bb _ _ _ _ _ _).1 <| F1 4 sh rfl (fun rb n7 => ?_)
  obtain ⟨ki, lu, H⟩ := bnd H
  refine Xo rfl rfl rfl (Qh.c hs jn lu) (fun n8 w hpost => ?_)
  obtain ⟨n9, rc, rfl, j7, hs, oa⟩ := hpost
  refine Zd (n7 _ _ (fun _ _ => ((hs.less j7).sub (ssk (ssc (ssc ssr))))) <| (Xr rfl (by kernel_rfl) (OD.weak [(1, _), (20, _), (24, _), (25, _), (27, _), (29, _), (31, _), (33, _), (35, _), (37, _), (39, _), (42, _), (45, _), (48, _), (51, _), (54, _), (56, _)] sbn ((bb _ _ _ _ _ _).2 (ls ki aa n8 n9 _ H j7 hs oa)))))
 refine (bb _ _ _ _ _ _).1 <| Vk sh (i := 36) (j := 4) rfl rfl (by kernel_rfl) (fun re ob => ?_) (fun rf oc => ?_)
 refine U6 Uf.enc (Value.int .i32) hs rfl (fun aa w hs => Zd (ob _ _ (fun _ _ => (hs.sub (ssk (ssc (ssc ssr))))) <| (Xr rfl (by kernel_rfl) (OD.weak [(1, _), (20, _), (21, _), (23, _), (25, _), (27, _), (29, _), (31, _), (33, _), (35, _), (37, _), (39, _), (42, _), (45, _), (48, _), (51, _), (54, _), (56, _)] sbn ((bb _ _ _ _ _ _).2 (n6 aa _ H hs))))))
 rw [Zi.t10] at H
 obtain ⟨ft, lv, H⟩ := bnd H
 refine Xo rfl rfl rfl (Qh.c hs jn lv) (fun fe w hpost => ?_)
 obtain ⟨od, rg, rfl, go, hs, fq⟩ := hpost
 refine Zd (oc _ _ (fun _ _ => (hs.less go)) <| Vk sh (i := 36) (j := 8) rfl rfl (by kernel_rfl) (fun rh oe => ?_) (fun ri og => ?_))
 refine U6 Uf.enc (Value.int .i32) hs rfl (fun aa w hs => Zd (oe _ _ (fun _ _ => ((hs.less go).sub (ssk (ssc (ssc ssr))))) <| (Xr rfl (by kernel_rfl) (OD.weak [(1, _), (20, _), (24, _), (25, _), (27, _), (29, _), (31, _), (33, _), (35, _), (37, _), (39, _), (42, _), (45, _), (48, _), (51, _), (54, _), (56, _)] sbn ((bb _ _ _ _ _ _).2 (ls ft aa fe od _ H go hs fq))))))
 rw [Zi.t9] at H
 obtain ⟨fz, lw, H⟩ := bnd H
 refine Xo rfl rfl rfl (Qh.c hs (jp.mono go) lw) (fun fr w hpost => ?_)
 obtain ⟨oh, rj, rfl, dx, hs, fu⟩ := hpost
 have jc := go.trans dx
 refine Zd (og _ _ (fun _ _ => (hs.less jc)) <| Vk sh (i := 36) (j := 12) rfl rfl (by kernel_rfl) (fun rk oi => ?_) (fun rl oj => ?_))
 refine U6 Uf.enc (Value.int .i32) hs rfl (fun aa w hs => Zd (oi _ _ (fun _ _ => ((hs.less jc).sub (ssk (ssc (ssc ssr))))) <| (Xr rfl (by kernel_rfl) (OD.weak [(1, _), (20, _), (24, _), (28, _), (29, _), (31, _), (33, _), (35, _), (37, _), (39, _), (42, _), (45, _), (48, _), (51, _), (54, _), (56, _)] sbn ((bb _ _ _ _ _ _).2 (lq ft fz aa fe fr oh _ H jc hs (fq.mono dx) fu))))))
 rw [Zi.t8] at H
 obtain ⟨gp, lx, H⟩ := bnd H
 refine Xo rfl rfl rfl (Qh.c hs (jr.mono jc) lx) (fun fv w hpost => ?_)
 obtain ⟨ok, rm, rfl, bo, hs, ga⟩ := hpost
 have jd := jc.trans bo
 refine Zd (oj _ _ (fun _ _ => (hs.less jd)) <| Vk sh (i := 36) (j := 16) rfl rfl (by kernel_rfl) (fun rn ol => ?_) (fun ro om => ?_))
 refine U6 Uf.enc (Value.int .i32) hs rfl (fun aa w hs => Zd (ol _ _ (fun _ _ => ((hs.less jd).sub (ssk (ssc (ssc ssr))))) <| (Xr rfl (by kernel_rfl) (OD.weak [(1, _), (20, _), (24, _), (28, _), (32, _), (33, _), (35, _), (37, _), (39, _), (42, _), (45, _), (48, _), (51, _), (54, _), (56, _)] sbn ((bb _ _ _ _ _ _).2 (ln ft fz gp aa fe fr fv ok _ H jd hs (fq.mono (dx.trans bo)) (fu.mono bo) ga))))))
 rw [Zi.t7] at H
 obtain ⟨ha, ly, H⟩ := bnd H
 refine Xo rfl rfl rfl (Qh.c hs (js.mono jd) ly) (fun gb w hpost => ?_)
 obtain ⟨on, rp, rfl, bh, hs, gq⟩ := hpost
 have je := jd.trans bh
 refine Zd (om _ _ (fun _ _ => (hs.less je)) <| Vk sh (i := 36) (j := 20) rfl rfl (by kernel_rfl) (fun rq oo => ?_) (fun rr op => ?_))
 refine U6 Uf.enc (Value.int .i32) hs rfl (fun aa w hs => Zd (oo _ _ (fun _ _ => ((hs.less je).sub (ssk (ssc (ssc ssr))))) <| (Xr rfl (by kernel_rfl) (OD.weak [(1, _), (20, _), (24, _), (28, _), (32, _), (36, _), (37, _), (39, _), (42, _), (45, _), (48, _), (51, _), (54, _), (56, _)] sbn ((bb _ _ _ _ _ _).2 (ll ft fz gp ha aa fe fr fv gb on _ H je hs (fq.mono ((dx.trans bo).trans bh)) (fu.mono (bo.trans bh)) (ga.mono bh) gq))))))
 rw [Zi.t6] at H
 obtain ⟨hg, lz, H⟩ := bnd H
 refine Xo rfl rfl rfl (Qh.c hs (ju.mono je) lz) (fun gr w hpost => ?_)
 obtain ⟨oq, rs, rfl, bd, hs, hb⟩ := hpost
 have jf := je.trans bd
 refine Zd (op _ _ (fun _ _ => (hs.less jf)) <| Vk sh (i := 36) (j := 23) rfl rfl (by kernel_rfl) (fun rt os => ?_) (fun ru ot => ?_))
 refine U6 Uf.enc (Value.int .i32) hs rfl (fun aa w hs => Zd (os _ _ (fun _ _ => ((hs.less jf).sub (ssk (ssc (ssc ssr))))) <| (Xr rfl (by kernel_rfl) (OD.weak [(1, _), (20, _), (24, _), (28, _), (32, _), (36, _), (40, _), (42, _), (45, _), (48, _), (51, _), (54, _), (56, _)] sbn ((bb _ _ _ _ _ _).2 (lj ft fz gp ha hg aa fe fr fv gb gr oq _ H jf hs (fq.mono (((dx.trans bo).trans bh).trans bd)) (fu.mono ((bo.trans bh).trans bd)) (ga.mono (bh.trans bd)) (gq.mono bd) hb))))))
 rw [Zi.t5] at H
 obtain ⟨jg, l0, H⟩ := bnd H
 refine Oc rfl (Kv.c hs (jq.mono jf) l0) (fun hc w hpost => ?_)
 obtain ⟨ou, rv, rfl, bc, hs, hh⟩ := hpost
 have jh := jf.trans bc
 refine Zd (ot _ _ (fun _ _ => (hs.less jh)) <| Vk sh (i := 36) (j := 26) rfl rfl (by kernel_rfl) (fun rx ov => ?_) (fun ry ow => ?_))
 refine U6 Uf.enc (Value.int .i32) hs rfl (fun aa w hs => Zd (ov _ _ (fun _ _ => ((hs.less jh).sub (ssk (ssc (ssc ssr))))) <| (Xr rfl (by kernel_rfl) (OD.weak [(1, _), (20, _), (24, _), (28, _), (32, _), (36, _), (40, _), (43, _), (45, _), (48, _), (51, _), (54, _), (56, _)] sbn ((bb _ _ _ _ _ _).2 (lh ft fz gp ha hg jg aa fe fr fv gb gr hc ou _ H jh hs (fq.mono ((((dx.trans bo).trans bh).trans bd).trans bc)) (fu.mono (((bo.trans bh).trans bd).trans bc)) (ga.mono ((bh.trans bd).trans bc)) (gq.mono (bd.trans bc)) (hb.mono bc) hh))))))
 rw [Zi.t4] at H
 obtain ⟨j0, l2, H⟩ := bnd H
 refine Oc rfl (Kv.c hs (jt.mono jh) l2) (fun hj w hpost => ?_)
 obtain ⟨ox, rz, rfl, be, hs, ji⟩ := hpost
 have jj := jh.trans be
 refine Zd (ow _ _ (fun _ _ => (hs.less jj)) <| Vk sh (i := 36) (j := 29) rfl rfl (by kernel_rfl) (fun r0 oy => ?_) (fun r1 oz => ?_))
 refine U6 Uf.enc (Value.int .i32) hs rfl (fun aa w hs => Zd (oy _ _ (fun _ _ => ((hs.less jj).sub (ssk (ssc (ssc ssr))))) <| (Xr rfl (by kernel_rfl) (OD.weak [(1, _), (20, _), (24, _), (28, _), (32, _), (36, _), (40, _), (43, _), (46, _), (48, _), (51, _), (54, _), (56, _)] sbn ((bb _ _ _ _ _ _).2 (lf ft fz gp ha hg jg j0 aa fe fr fv gb gr hc hj ox _ H jj hs (fq.mono (((((dx.trans bo).trans bh).trans bd).trans bc).trans be)) (fu.mono ((((bo.trans bh).trans bd).trans bc).trans be)) (ga.mono (((bh.trans bd).trans bc).trans be)) (gq.mono ((bd.trans bc).trans be)) (hb.mono (bc.trans be)) (hh.mono be) ji))))))
 rw [Zi.t3] at H
 obtain ⟨kr, l3, H⟩ := bnd H
 refine Oc rfl (Z7.c hs (jo.mono jj) l3) (fun jk w hpost => ?_)
 obtain ⟨o0, r2, rfl, bi, hs, j4⟩ := hpost
 have jl := jj.trans bi
 refine Zd (oz _ _ (fun _ _ => (hs.less jl)) <| Vk sh (i := 36) (j := 32) rfl rfl (by kernel_rfl) (fun r3 o1 => ?_) (fun r4 o2 => ?_))
 refine U6 Uf.enc (Value.int .i32) hs rfl (fun aa w hs => Zd (o1 _ _ (fun _ _ => ((hs.less jl).sub (ssk (ssc (ssc ssr))))) <| (Xr rfl (by kernel_rfl) (OD.weak [(1, _), (20, _), (24, _), (28, _), (32, _), (36, _), (40, _), (43, _), (46, _), (49, _), (51, _), (54, _), (56, _)] sbn ((bb _ _ _ _ _ _).2 (ld ft fz gp ha hg jg j0 kr aa fe fr fv gb gr hc hj jk o0 _ H jl hs (fq.mono ((((((dx.trans bo).trans bh).trans bd).trans bc).trans be).trans bi)) (fu.mono (((((bo.trans bh).trans bd).trans bc).trans be).trans bi)) (ga.mono ((((bh.trans bd).trans bc).trans be).trans bi)) (gq.mono (((bd.trans bc).trans be).trans bi)) (hb.mono ((bc.trans be).trans bi)) (hh.mono (be.trans bi)) (ji.mono bi) j4))))))
 rw [Zi.t2] at H
 obtain ⟨l4, l5, H⟩ := bnd H
 refine Oc rfl (Z7.c hs (hf.mono jl) l5) (fun j5 w hpost => ?_)
 obtain ⟨o3, r5, rfl, bp, hs, ks⟩ := hpost
 have jm := jl.trans bp
 refine Zd (o2 _ _ (fun _ _ => (hs.less jm)) <| Vk sh (i := 36) (j := 35) rfl rfl (by kernel_rfl) (fun r6 o4 => ?_) (fun r7 o5 => ?_))
 refine U6 Uf.enc (Value.int .i32) hs rfl (fun aa w hs => Zd (o4 _ _ (fun _ _ => ((hs.less jm).sub (ssk (ssc (ssc ssr))))) <| (Xr rfl (by kernel_rfl) (OD.weak [(1, _), (20, _), (24, _), (28, _), (32, _), (36, _), (40, _), (43, _), (46, _), (49, _), (52, _), (54, _), (56, _)] sbn ((bb _ _ _ _ _ _).2 (la ft fz gp ha hg jg j0 kr l4 aa fe fr fv gb gr hc hj jk j5 o3 _ H jm hs (fq.mono (((((((dx.trans bo).trans bh).trans bd).trans bc).trans be).trans bi).trans bp)) (fu.mono ((((((bo.trans bh).trans bd).trans bc).trans be).trans bi).trans bp)) (ga.mono (((((bh.trans bd).trans bc).trans be).trans bi).trans bp)) (gq.mono ((((bd.trans bc).trans be).trans bi).trans bp)) (hb.mono (((bc.trans be).trans bi).trans bp)) (hh.mono ((be.trans bi).trans bp)) (ji.mono (bi.trans bp)) (j4.mono bp) ks))))))
 rw [Zi.t1] at H
 obtain ⟨o6, l6, H⟩ := bnd H
 refine Oc rfl (Z7.c hs (jv.mono jm) l6) (fun kt w hpost => ?_)
 obtain ⟨o7, r8, rfl, dy, hs, l7⟩ := hpost
 have j6 := jm.trans dy
 refine Zd (o5 _ _ (fun _ _ => (hs.less j6)) <| F1 36 sh rfl (fun r9 o8 => U6 Uf.enc (Value.int .i32) hs rfl (fun aa w hs => Zd (o8 _ _ (fun _ _ => ((hs.less j6).sub (ssk (ssc (ssc ssr))))) <| Fp 37 sh rfl (fun w => Qe (cs := [ba, a9, aq, a8, an, au, a7, a6, ar, a5, ao, fe, fr, fv, gb, gr, hc, hj, jk, j5, kt, .map (some aa)]) Zux Zuw ((Z2.cons rfl rfl (Z2.cons rfl fq.cellsL (Z2.cons rfl fu.cellsL (Z2.cons rfl ga.cellsL (Z2.cons rfl gq.cellsL (Z2.cons rfl hb.cellsL (Z2.cons rfl hh.cellsL (Z2.cons rfl ji.cellsL (Z2.cons rfl j4.cellsL (Z2.cons rfl ks.cellsL (Z2.cons rfl l7.cellsL (Z2.cons rfl rfl Z2.nil))))))))))))) Zvc (by kernel_rfl)) <| F1 38 sh rfl (fun sa o9 => Vg (cs := [ba, a9, aq, a8, an, au, a7, a6, ar, a5, ao, fe, fr, fv, gb, gr, hc, hj, jk, j5, kt, .map (some aa)]) hs rfl rfl (fun bm w hs => Zd (o9 _ _ (fun _ _ => ((hs.less j6).sub (ssk (ssk (ssc (ssc ssr)))))) <| Fp 39 sh rfl (fun w => Xv rfl) <| FE sh (ky _ _ _ (T2 rfl) (kz ft fz gp ha hg jg j0 kr l4 o6 fe fr fv gb gr hc hj jk j5 kt bm aa o7 _ H j6 hs (fq.mono ((((((((dx.trans bo).trans bh).trans bd).trans bc).trans be).trans bi).trans bp).trans dy)) (fu.mono (((((((bo.trans bh).trans bd).trans bc).trans be).trans bi).trans bp).trans dy)) (ga.mono ((((((bh.trans bd).trans bc).trans be).trans bi).trans bp).trans dy)) (gq.mono (((((bd.trans bc).trans be).trans bi).trans bp).trans dy)) (hb.mono ((((bc.trans be).trans bi).trans bp).trans dy)) (hh.mono (((be.trans bi).trans bp).trans dy)) (ji.mono ((bi.trans bp).trans dy)) (j4.mono (bp.trans dy)) (ks.mono dy) l7)))))))))

end Go.Proofs.YthoicbafdanmkaaGreatDoor
/- Written by this repo's gen.py: for each Go function a Lean function with the same answers and the walk that shows it. -/
namespace Go.Proofs.YthoicbafdanmkaaGreatDoor
open Go.IntKind (i8 i16 i32 i64 u8 u16 u32 u64)
open Go.RowKit
set_option maxRecDepth 100000
set_option maxHeartbeats 4000000
variable {w0 w : World} {ρ : Hp} {Γ : List Q5}
set_option linter.unusedVariables false
def K3.l1 : Nat → List Spn → List Spn → Int → Option (List Spn)
  | 0, _, _, _ => none
  | ae + 1, x0, ab, aa => if aa < (x0.length : Int) then (if (0 : Int) ≤ aa ∧ aa < (x0.length : Int) then (if ab.length + ([(⟨(rd x0 aa).lo, (rd x0 aa).hi⟩ : Spn)]).length ≤ most then ((K3.l1 ae x0) (ab ++ ([(⟨(rd x0 aa).lo, (rd x0 aa).hi⟩ : Spn)])) (i64.wrap (aa + 1))) else none) else none) else (some ab)
def K3.f (x0 : List Spn) : Option (List Spn) := K3.l1 K0 x0 ([] : List Spn) 0
theorem K3.c (hs : St w0 ρ (Γ) w) {v0 : Value} {x0 : List Spn} (h0 : SlR Kd ρ v0 x0) {r : List Spn} (H : K3.f x0 = some r) : Zn Tryz.prog 49 [v0] w (fun v w' => ∃ (ρ' : Hp) (v0 : Value) (cs0 : List Value), v = v0 ∧ Le ρ ρ' ∧ St w0 ρ' (.row v0 90 Kd.sz r.length cs0 :: Γ) w' ∧ Zm Kd ρ' cs0 r) := by
 rw [K3.f] at H
 refine Et Tryz.func49 Tryz.ntmps49 rfl <| Wr fun a5 al => As rfl <| Ox al <| Wr fun a6 am => Ku (xs := []) (cs := []) Zg6 hs rfl rfl rfl (by decide) (by decide) rfl Kb Xy (fun an w hs => ?_)
 have ao : Zm Kd ρ ([]) ([] : List Spn) := Zm.nil _ _
 refine As rfl <| Ox am <| Zh fun a7 ap => Wr fun a8 aq => Mv rfl <| O_y rfl (Yv Zjf h0 rfl) <| Mv rfl <| Ox aq <| Zj fun a9 ar ba => Y9 (σ := Nat × List Spn × Int × Value × List Value) (fun (ae, ab, aa, ac, ad) => [(3, ac), (7, v0), (8, .int .i64 (x0.length : Int)), (9, .int .i64 aa)]) (fun (ae, ab, aa, ac, ad) w => K3.l1 ae x0 ab aa = some r ∧ St w0 ρ ((.row ac 90 Kd.sz ab.length ad) :: Γ) w ∧ Zm Kd ρ ad ab) (fun s => s.1) (K0, ([] : List Spn), 0, (.slice (some ⟨an, 0, none⟩) 0 0), ([])) (T4 rfl) (Ai H (Ai hs ao)) ?_
 rintro ⟨ae, ab, aa, ac, ad⟩ w bb ⟨H, hs, af⟩ ag
 show W _ _ _ _ _ _ [(3, ac), (7, v0), (8, .int .i64 (x0.length : Int)), (9, .int .i64 aa)] w
 cases ae with
 | zero => rw [K3.l1] at H; cases H
 | succ ae =>
 rw [K3.l1] at H
 refine Wr fun bc au => Ols rfl <| Ox au <| Zh fun bd av => Y7 rfl (fun ah => ?_) (fun ah => ?_)
 rw [if_pos ah] at H
 refine Wx av <| Zh fun be aw => Zj fun bf bg bh => Zh fun bi ax => Zc ?_
 obtain ⟨aj, H⟩ := gd H
 obtain ⟨bj, bk, ay, az⟩ := h0.ix Zi5 aj.1 aj.2
 obtain ⟨_, rfl, a0⟩ := ay
 refine O_y rfl (az rfl rfl) <| O_y rfl (Qv Za7 Hj rfl rfl (fun j u hu => hs.see (a0 j u hu))) <| Y6 Zay hs rfl (fun bl w hs => Ye (i := 0) Hj hs rfl rfl rfl rfl rfl (Zb rfl (Zb rfl Yj)) (fun w hs => Ox ax <| Zc <| Mv rfl <| Ofd Uw rfl <| Obx 0 Xm hs rfl <| Ofd Vr rfl <| Obx 0 Xm hs rfl <| O_y rfl (Qe (cs := [.int .i32 ((rd x0 aa).lo), .int .i32 ((rd x0 aa).hi)]) Zs1 Zvq ((Z2.cons rfl rfl (Z2.cons rfl rfl Z2.nil))) Zsb (by kernel_rfl)) <| Ku (xs := [.tmp 18]) (cs := [.int .i32 ((rd x0 aa).lo), .int .i32 ((rd x0 aa).hi)]) Zg6 hs rfl rfl rfl (by decide) (by decide) rfl (Yc rfl Kb) (Zv rfl Xy) (fun bm w hs => ?_)))
 have ak : Zm Kd ρ ([.int .i32 ((rd x0 aa).lo), .int .i32 ((rd x0 aa).hi)]) [(⟨(rd x0 aa).lo, (rd x0 aa).hi⟩ : Spn)] := Zm.cons (c := [.int .i32 ((rd x0 aa).lo), .int .i32 ((rd x0 aa).hi)]) (x := (⟨(rd x0 aa).lo, (rd x0 aa).hi⟩ : Spn)) rfl (Zm.nil _ _)
 obtain ⟨a1, H⟩ := gd H
 refine Qt (i := 2) Zg6 hs rfl af rfl rfl rfl (Src.lit (j := 0) hs rfl ak) ak a1 (fun a2 ai w a3 hs => As rfl <| Ox aw <| W.weak [(3, _), (7, _), (8, _), (9, _)] (T4 rfl) <| Zc <| Oad rfl <| Mv rfl <| Zd (ag (ae, (ab ++ ([(⟨(rd x0 aa).lo, (rd x0 aa).hi⟩ : Spn)])), (i64.wrap (aa + 1)), a2, ai) _ _ (T4 rfl) (Ai H (Ai (hs.sub (ssk (ssk (ssc ssr)))) a3)) (Nat.lt_succ_self _)))
 rw [if_neg ah] at H
 refine Y4 (ar _ _ (ap _ _ <| Wr fun bn a4 => Mv rfl <| As rfl <| Ox a4 <| Zk ?_))
 obtain rfl := Zz H
 exact r1 rfl ⟨_, _, _, rfl, Le.rfl' _, hs, af⟩

def Zb5.f (x0 : Bk) : Option Bk := if ([] : List ByteArray).length + x0.names.length ≤ most then ((Qi.f x0.status).bind fun di => ((Km.f x0.maps).bind fun bh => ((Qi.f x0.class_).bind fun bi => ((Km.f x0.decomp).bind fun bj => ((K3.f x0.excl).bind fun bk => ((Qi.f x0.bidi).bind fun bl => ((Qi.f x0.join).bind fun bm => ((K3.f x0.marks).bind fun bn => ((Qi.f x0.script).bind fun bo => ((Km.f x0.like).bind fun bp => (some (⟨([] : List ByteArray) ++ x0.names, di, bh, bi, bj, bk, bl, bm, bn, bo, bp⟩ : Bk)))))))))))) else none
theorem Zb5.c (hs : St w0 ρ (Γ) w) {c0 : List Value} {x0 : Bk} (h0 : rBk.R ρ c0 x0) {r : Bk} (H : Zb5.f x0 = some r) : Zn Tryz.prog 25 [.agg c0.toArray] w (fun v w' => ∃ (ρ' : Hp) (cs0 : List Value), v = .agg cs0.toArray ∧ Le ρ ρ' ∧ St w0 ρ' (Γ) w' ∧ rBk.R ρ' cs0 r) := by
 rw [Zb5.f] at H
 refine Et Tryz.func25 Tryz.ntmps25 rfl ?_
 have ee := h0
 obtain ⟨dj, dk, dl, dm, dn, dp, dq, dr, ds, dt, du, rfl, ef, eg, eh, ei, ej, ek, el, em, en, eo, ep⟩ := ee
 refine Wr fun gk eq => Vg (cs := [dj, dk, dl, dm, dn, dp, dq, dr, ds, dt, du]) hs rfl rfl (fun er w hs => Y6 Zqs hs rfl (fun es w hs => Ox eq <| Zh fun gl et => Qn 36 [0, 0, 2, 5, 0, 16, 40, 0, 128, 320, 0, 1024, 2560, 0, 8192, 20480, 0, 65536, 163840, 0, 524288, 1310720, 0, 4194304, 10485760, 0, 33554432, 83886080, 0, 268435456, 671088640, 0, 2147483648, 5368709120, 9817068104, 34359738367] [34359738358, 34359738361, 34359738353, 17179869104, 34359738319, 34359738255, 17179868544, 34359737983, 34359737471, 17179864064, 34359735295, 34359731199, 17179828224, 34359713791, 34359681023, 17179541504, 34359541759, 34359279615, 17177247744, 34358165503, 34356068351, 17158897664, 34347155455, 34330378239, 17012097024, 34259075071, 34124857343, 15837691904, 33554431999, 32480690175, 6442450944, 27917287423, 19327352831, 0, 0, 0] [0, 0, 2, 7, 0, 16, 63, 0, 128, 511, 0, 1024, 4095, 0, 8192, 32767, 0, 65536, 262143, 0, 524288, 2097151, 0, 4194304, 16777215, 0, 33554432, 134217727, 0, 268435456, 1073741823, 0, 2147483648, 8589934591, 17179869183, 34359738367] [35] (fun w => St w0 ρ ((.box es 34 ([.slice none 0 0, .slice none 0 0, .slice none 0 0, .slice none 0 0, .slice none 0 0, .slice none 0 0, .slice none 0 0, .slice none 0 0, .slice none 0 0, .slice none 0 0, .slice none 0 0])) :: (.box er 27 ([dj, dk, dl, dm, dn, dp, dq, dr, ds, dt, du])) :: Γ) w) Vl (by kernel_rfl) (fun sh => ?_)))
 have hs := hs.drew
 refine Fp 1 sh rfl (fun w => Zp Zk6 rfl) <| Fy 2 sh rfl hs (fun w hs => Yb 1 Zp2 hs rfl rfl rfl) <| Fp 4 sh rfl (fun w => Zp Zdz rfl) <| Fy 5 sh rfl hs (fun w hs => Yb 1 Zbl hs rfl rfl rfl) <| Fp 7 sh rfl (fun w => Zp Zik rfl) <| Fy 8 sh rfl hs (fun w hs => Yb 1 Zdw hs rfl rfl rfl) <| Fp 10 sh rfl (fun w => Zp Zkz rfl) <| Fy 11 sh rfl hs (fun w hs => Yb 1 Zbl hs rfl rfl rfl) <| Fp 13 sh rfl (fun w => Zp Zeq rfl) <| Fy 14 sh rfl hs (fun w hs => Yb 1 Zdw hs rfl rfl rfl) <| Fp 16 sh rfl (fun w => Zp Zk8 rfl) <| Fy 17 sh rfl hs (fun w hs => Yb 1 Zl1 hs rfl rfl rfl) <| Fp 19 sh rfl (fun w => Zp Zlh rfl) <| Fy 20 sh rfl hs (fun w hs => Yb 1 Zbl hs rfl rfl rfl) ?_
 refine Fp 22 sh rfl (fun w => Zp Zk7 rfl) <| Fy 23 sh rfl hs (fun w hs => Yb 1 Zbl hs rfl rfl rfl) <| Fp 25 sh rfl (fun w => Zp Zlf rfl) <| Fy 26 sh rfl hs (fun w hs => Yb 1 Zl1 hs rfl rfl rfl) <| Fp 28 sh rfl (fun w => Zp Zk1 rfl) <| Fy 29 sh rfl hs (fun w hs => Yb 1 Zbl hs rfl rfl rfl) <| Fp 31 sh rfl (fun w => Zp Zhf rfl) <| Fy 32 sh rfl hs (fun w hs => Yb 1 Zdw hs rfl rfl rfl) <| F1 0 sh rfl (fun gm eu => Ku (xs := []) (cs := []) Zf7 hs rfl rfl rfl (by decide) (by decide) rfl Kb Xy (fun gn w hs => ?_))
 have ev : Zm Rep.str ρ ([]) ([] : List ByteArray) := Zm.nil _ _
 refine Zd (eu _ _ (fun _ _ => (hs.sub (ssk (ssc (ssc ssr))))) ?_)
 obtain ⟨ew, b0, b1⟩ := Src.sl hs ef
 obtain ⟨ex, H⟩ := gd H
 refine F1 3 sh rfl (fun go ey => Qt (i := 0) Zf7 hs rfl ev rfl rfl rfl b0 b1 ex (fun ez e0 w e1 hs => Zd (ey _ _ (fun _ _ => (hs.sub (ssk (ssc (ssc ssr))))) <| F1 6 sh rfl (fun gp e2 => ?_))))
 obtain ⟨di, b2, H⟩ := bnd H
 refine Oc rfl (Qi.c hs eg b2) (fun e3 w hpost => ?_)
 obtain ⟨e4, gq, e5, rfl, au, hs, b3⟩ := hpost
 refine Zd (e2 _ _ (fun _ _ => ((hs.less au).sub (ssk (ssk (ssc (ssc ssr)))))) <| F1 9 sh rfl (fun e6 b4 => ?_))
 obtain ⟨bh, bq, H⟩ := bnd H
 refine Oc rfl (Km.c hs (eh.mono au) bq) (fun b5 w hpost => ?_)
 obtain ⟨e7, e8, dv, rfl, aw, hs, b6⟩ := hpost
 have ax := au.trans aw
 refine Zd (b4 _ _ (fun _ _ => ((hs.less ax).sub (ssk (ssk (ssk (ssc (ssc ssr))))))) <| F1 12 sh rfl (fun e9 b7 => ?_))
 obtain ⟨bi, br, H⟩ := bnd H
 refine Oc rfl (Qi.c hs (ei.mono ax) br) (fun b8 w hpost => ?_)
 obtain ⟨fa, fb, dw, rfl, av, hs, b9⟩ := hpost
 have ay := ax.trans av
 refine Zd (b7 _ _ (fun _ _ => ((hs.less ay).sub (ssk (ssk (ssk (ssk (ssc (ssc ssr)))))))) <| F1 15 sh rfl (fun fc ca => ?_))
 obtain ⟨bj, bs, H⟩ := bnd H
 refine Oc rfl (Km.c hs (ej.mono ay) bs) (fun cb w hpost => ?_)
 obtain ⟨fd, fe, dx, rfl, ar, hs, cc⟩ := hpost
 have az := ay.trans ar
 refine Zd (ca _ _ (fun _ _ => ((hs.less az).sub (ssk (ssk (ssk (ssk (ssk (ssc (ssc ssr))))))))) <| F1 18 sh rfl (fun ff cd => ?_))
 obtain ⟨bk, bt, H⟩ := bnd H
 refine Oc rfl (K3.c hs (ek.mono az) bt) (fun ce w hpost => ?_)
 obtain ⟨fg, fh, dy, rfl, aq, hs, cf⟩ := hpost
 have a0 := az.trans aq
 refine Zd (cd _ _ (fun _ _ => ((hs.less a0).sub (ssk (ssk (ssk (ssk (ssk (ssk (ssc (ssc ssr)))))))))) <| F1 21 sh rfl (fun fi cg => ?_))
 obtain ⟨bl, bu, H⟩ := bnd H
 refine Oc rfl (Qi.c hs (el.mono a0) bu) (fun ch w hpost => ?_)
 obtain ⟨fj, fk, dz, rfl, ap, hs, ci⟩ := hpost
 have a1 := a0.trans ap
 refine Zd (cg _ _ (fun _ _ => ((hs.less a1).sub (ssk (ssk (ssk (ssk (ssk (ssk (ssk (ssc (ssc ssr))))))))))) <| F1 24 sh rfl (fun fl cj => ?_))
 obtain ⟨bm, bv, H⟩ := bnd H
 refine Oc rfl (Qi.c hs (em.mono a1) bv) (fun ck w hpost => ?_)
 obtain ⟨fm, fn, ea, rfl, ao, hs, cl⟩ := hpost
 have a2 := a1.trans ao
 refine Zd (cj _ _ (fun _ _ => ((hs.less a2).sub (ssk (ssk (ssk (ssk (ssk (ssk (ssk (ssk (ssc (ssc ssr)))))))))))) <| F1 27 sh rfl (fun fo cm => ?_))
 obtain ⟨bn, bw, H⟩ := bnd H
 refine Oc rfl (K3.c hs (en.mono a2) bw) (fun cn w hpost => ?_)
 obtain ⟨fp, fq, eb, rfl, an, hs, co⟩ := hpost
 have a3 := a2.trans an
 refine Zd (cm _ _ (fun _ _ => ((hs.less a3).sub (ssk (ssk (ssk (ssk (ssk (ssk (ssk (ssk (ssk (ssc (ssc ssr))))))))))))) <| F1 30 sh rfl (fun fr cp => ?_))
 obtain ⟨bo, bx, H⟩ := bnd H
 refine Oc rfl (Qi.c hs (eo.mono a3) bx) (fun cq w hpost => ?_)
 obtain ⟨fs, ft, ec, rfl, am, hs, cr⟩ := hpost
 have a4 := a3.trans am
 refine Zd (cp _ _ (fun _ _ => ((hs.less a4).sub (ssk (ssk (ssk (ssk (ssk (ssk (ssk (ssk (ssk (ssk (ssc (ssc ssr)))))))))))))) <| F1 33 sh rfl (fun fu ct => ?_))
 obtain ⟨bp, bz, H⟩ := bnd H
 refine Oc rfl (Km.c hs (ep.mono a4) bz) (fun cu w hpost => ?_)
 obtain ⟨fv, fw, ed, rfl, al, hs, cv⟩ := hpost
 have a5 := a4.trans al
 refine Zd (ct _ _ (fun _ _ => ((hs.less a5).sub (ssk (ssk (ssk (ssk (ssk (ssk (ssk (ssk (ssk (ssk (ssk (ssc (ssc ssr))))))))))))))) ?_)
 obtain ⟨fx, aa, hs, a6⟩ := hs.rowEnd (j := 10) (e1.mono a5) rfl
 have cw := a5.trans aa
 obtain ⟨fy, ab, hs, a7⟩ := hs.rowEnd (j := 9) (b3.mono (((((((((aw.trans av).trans ar).trans aq).trans ap).trans ao).trans an).trans am).trans al).trans aa)) rfl
 have cx := cw.trans ab
 obtain ⟨fz, ac, hs, a8⟩ := hs.rowEnd (j := 8) (b6.mono (((((((((av.trans ar).trans aq).trans ap).trans ao).trans an).trans am).trans al).trans aa).trans ab)) rfl
 have cy := cx.trans ac
 obtain ⟨ga, ad, hs, a9⟩ := hs.rowEnd (j := 7) (b9.mono (((((((((ar.trans aq).trans ap).trans ao).trans an).trans am).trans al).trans aa).trans ab).trans ac)) rfl
 have cz := cy.trans ad
 obtain ⟨gb, ae, hs, ba⟩ := hs.rowEnd (j := 6) (cc.mono (((((((((aq.trans ap).trans ao).trans an).trans am).trans al).trans aa).trans ab).trans ac).trans ad)) rfl
 have da := cz.trans ae
 obtain ⟨gc, af, hs, bb⟩ := hs.rowEnd (j := 5) (cf.mono (((((((((ap.trans ao).trans an).trans am).trans al).trans aa).trans ab).trans ac).trans ad).trans ae)) rfl
 have db := da.trans af
 obtain ⟨ge, ag, hs, bc⟩ := hs.rowEnd (j := 4) (ci.mono (((((((((ao.trans an).trans am).trans al).trans aa).trans ab).trans ac).trans ad).trans ae).trans af)) rfl
 have dc := db.trans ag
 obtain ⟨gf, ah, hs, bd⟩ := hs.rowEnd (j := 3) (cl.mono (((((((((an.trans am).trans al).trans aa).trans ab).trans ac).trans ad).trans ae).trans af).trans ag)) rfl
 have dd := dc.trans ah
 obtain ⟨gg, ai, hs, be⟩ := hs.rowEnd (j := 2) (co.mono (((((((((am.trans al).trans aa).trans ab).trans ac).trans ad).trans ae).trans af).trans ag).trans ah)) rfl
 have de := dd.trans ai
 obtain ⟨gh, aj, hs, bf⟩ := hs.rowEnd (j := 1) (cr.mono (((((((((al.trans aa).trans ab).trans ac).trans ad).trans ae).trans af).trans ag).trans ah).trans ai)) rfl
 have df := de.trans aj
 obtain ⟨gi, ak, hs, bg⟩ := hs.rowEnd (j := 0) (cv.mono (((((((((aa.trans ab).trans ac).trans ad).trans ae).trans af).trans ag).trans ah).trans ai).trans aj)) rfl
 have dg := df.trans ak
 refine Fp 34 sh rfl (fun w => Qe (cs := [ez, e3, b5, b8, cb, ce, ch, ck, cn, cq, cu]) Zqs Zwj ((Z2.cons rfl a6.cellsL (Z2.cons rfl a7.cellsL (Z2.cons rfl a8.cellsL (Z2.cons rfl a9.cellsL (Z2.cons rfl ba.cellsL (Z2.cons rfl bb.cellsL (Z2.cons rfl bc.cellsL (Z2.cons rfl bd.cellsL (Z2.cons rfl be.cellsL (Z2.cons rfl bf.cellsL (Z2.cons rfl bg.cellsL Z2.nil)))))))))))) Zim (by kernel_rfl)) <| F1 35 sh rfl (fun gj dh => Ye (i := 0) Zey hs rfl rfl rfl rfl rfl (Zb a6.one (Zb a7.one (Zb a8.one (Zb a9.one (Zb ba.one (Zb bb.one (Zb bc.one (Zb bd.one (Zb be.one (Zb bf.one (Zb bg.one Yj))))))))))) (fun w hs => Zd (dh _ _ (fun h _ => absurd h (by decide)) <| FE sh (et _ _ <| W.weak [(2, _)] (S1 rfl) <| Zk ?_))))
 obtain rfl := Zz H
 exact Zit (i := 0) rfl rfl Zim Zey hs rfl rfl ⟨_, _, rfl, dg, (hs.sub (ssk (ssk ssr))), ⟨_, _, _, _, _, _, _, _, _, _, _, rfl, (a6.mono (((((((((ab.trans ac).trans ad).trans ae).trans af).trans ag).trans ah).trans ai).trans aj).trans ak)), (a7.mono ((((((((ac.trans ad).trans ae).trans af).trans ag).trans ah).trans ai).trans aj).trans ak)), (a8.mono (((((((ad.trans ae).trans af).trans ag).trans ah).trans ai).trans aj).trans ak)), (a9.mono ((((((ae.trans af).trans ag).trans ah).trans ai).trans aj).trans ak)), (ba.mono (((((af.trans ag).trans ah).trans ai).trans aj).trans ak)), (bb.mono ((((ag.trans ah).trans ai).trans aj).trans ak)), (bc.mono (((ah.trans ai).trans aj).trans ak)), (bd.mono ((ai.trans aj).trans ak)), (be.mono (aj.trans ak)), (bf.mono ak), bg⟩⟩

def K5.j1 (ae : Bk) (ac : Option Tbs × Int) (ab : Bool) : Option (Option Tbs × Bk × Bool) := some (ac.1, ae, ab)
def K5.f (x0 : Bk) : Option (Option Tbs × Bk × Bool) := (Zb5.f x0).bind fun ae => ((Ze.f ae).bind fun af => ((Zi.f x0).bind fun ac => (if af.2.2 ≠ 0 then (some (none, (⟨([] : List ByteArray), ([] : List Val), ([] : List Chs), ([] : List Val), ([] : List Chs), ([] : List Spn), ([] : List Val), ([] : List Val), ([] : List Spn), ([] : List Val), ([] : List Chs)⟩ : Bk), decide (ac.2 = af.2.2))) else (if ac.2 = 0 then (K5.j1 ae ac ((ac.1).isSome)) else (K5.j1 ae ac false)))))
theorem K5.c (hs : St w0 ρ (Γ) w) {c0 : List Value} {x0 : Bk} (h0 : rBk.R ρ c0 x0) {r : Option Tbs × Bk × Bool} (H : K5.f x0 = some r) : Zn Tryz.prog 7 [.agg c0.toArray] w (fun v w' => ∃ (ρ' : Hp) (v0 : Value) (cs1 : List Value), v = .tuple #[v0, .agg cs1.toArray, .bool r.2.2] ∧ Le ρ ρ' ∧ St w0 ρ' (Γ) w' ∧ Xs Hm ρ' v0 r.1 ∧ rBk.R ρ' cs1 r.2.1) := by
 rw [K5.f] at H
 refine Et Tryz.func7 Tryz.ntmps7 rfl ?_
 have cg := h0
 obtain ⟨a0, a1, a2, a3, a4, a5, a6, a7, a8, a9, ba, rfl, cu, cv, cw, cx, cy, cz, da, db, dc, dd, de⟩ := cg
 refine Wr fun df ch => Vg (cs := [a0, a1, a2, a3, a4, a5, a6, a7, a8, a9, ba]) hs rfl rfl (fun cf w hs => As rfl <| Y6 Zqs hs rfl (fun bb w hs => As rfl <| Ox ch <| Wr fun dg ci => O_y rfl (Xk (i := 1) Zja Zje hs rfl rfl rfl rfl) ?_))
 obtain ⟨ae, bc, H⟩ := bnd H
 refine Oc rfl (Zb5.c hs h0 bc) (fun dh w hpost => ?_)
 obtain ⟨di, cj, rfl, ag, hs, bd⟩ := hpost
 have be := bd
 obtain ⟨bf, bg, bh, bi, bj, bk, bl, ah, ai, aj, ak, rfl, bm, bn, bo, bp, bq, br, al, am, an, ao, ap⟩ := be
 refine Y6 Zqs hs rfl (fun au w hs => Ye (i := 0) Zey hs rfl rfl rfl rfl rfl (Zb bm.one (Zb bn.one (Zb bo.one (Zb bp.one (Zb bq.one (Zb br.one (Zb al.one (Zb am.one (Zb an.one (Zb ao.one (Zb ap.one Yj))))))))))) (fun w hs => Ox ci <| Wr fun ck bs => O_y rfl (Xk (i := 0) Zim Zey hs rfl rfl rfl rfl) ?_))
 obtain ⟨af, av, H⟩ := bnd H
 refine Oc rfl (Ze.c hs bd av) (fun cl w hpost => ?_)
 obtain ⟨rfl, hs⟩ := hpost
 refine Mv rfl <| Oxt rfl <| Oxt rfl <| Oxt rfl <| As rfl <| As rfl <| As rfl <| Ox bs <| W.weak [(1, _), (3, _), (5, _), (8, _)] (T4 rfl) <| Wr fun cm bt => O_y rfl (Xk (i := 2) Zja Zje hs rfl rfl rfl rfl) ?_
 obtain ⟨ac, aw, H⟩ := bnd H
 refine Oc rfl (Zi.c hs (rBk.mono ag h0) aw) (fun cn w hpost => ?_)
 obtain ⟨aa, bu, rfl, ad, hs, ax⟩ := hpost
 refine Mv rfl <| Oxt rfl <| Oxt rfl <| As rfl <| As rfl <| Ox bt <| Zh fun co bv => Wr fun cp bw => Mv rfl <| One rfl <| Ox bw <| Y7 rfl (fun aq => ?_) (fun aq => ?_)
 rw [if_pos aq] at H
 refine Wr fun cq bx => O_y rfl (Qe (cs := [.slice none 0 0, .slice none 0 0, .slice none 0 0, .slice none 0 0, .slice none 0 0, .slice none 0 0, .slice none 0 0, .slice none 0 0, .slice none 0 0, .slice none 0 0, .slice none 0 0]) Zqs Zwj (Z2.nil) Zim (by kernel_rfl)) <| Mv rfl <| Mv rfl <| Oeq rfl <| As rfl <| Ye (i := 1) Zey hs rfl rfl rfl rfl rfl (Zb rfl (Zb rfl (Zb rfl (Zb rfl (Zb rfl (Zb rfl (Zb rfl (Zb rfl (Zb rfl (Zb rfl (Zb rfl Yj))))))))))) (fun w hs => As rfl <| Ox bx <| W.weak [(2, _), (3, _), (4, _)] (T3 rfl) <| Zk ?_)
 have bz : Xs Hm aa (.pointer none) none := Xs.nil _ _
 have b0 : SlR Rep.str aa (.slice none 0 0) [] := .inl ⟨rfl, none, 0, rfl⟩
 have b1 : SlR X9 aa (.slice none 0 0) [] := .inl ⟨rfl, none, 0, rfl⟩
 have b2 : SlR Ks aa (.slice none 0 0) [] := .inl ⟨rfl, none, 0, rfl⟩
 have b3 : SlR X9 aa (.slice none 0 0) [] := .inl ⟨rfl, none, 0, rfl⟩
 have b4 : SlR Ks aa (.slice none 0 0) [] := .inl ⟨rfl, none, 0, rfl⟩
 have b5 : SlR Kd aa (.slice none 0 0) [] := .inl ⟨rfl, none, 0, rfl⟩
 have b6 : SlR X9 aa (.slice none 0 0) [] := .inl ⟨rfl, none, 0, rfl⟩
 have b7 : SlR X9 aa (.slice none 0 0) [] := .inl ⟨rfl, none, 0, rfl⟩
 have b8 : SlR Kd aa (.slice none 0 0) [] := .inl ⟨rfl, none, 0, rfl⟩
 have b9 : SlR X9 aa (.slice none 0 0) [] := .inl ⟨rfl, none, 0, rfl⟩
 have ca : SlR Ks aa (.slice none 0 0) [] := .inl ⟨rfl, none, 0, rfl⟩
 obtain rfl := Zz H
 exact Zw9 rfl (RV.tmp rfl (RV.cell rfl Zim Zey rfl (fun j u hu => hs.boxCell (i := 1) rfl hu) (RV.tmp rfl RV.nil))) (by simp) ⟨_, _, _, rfl, (ag.trans ad), (hs.sub (ssk (ssk (ssk ssr)))), bz, ⟨_, _, _, _, _, _, _, _, _, _, _, rfl, b0, b1, b2, b3, b4, b5, b6, b7, b8, b9, ca⟩⟩
 rw [if_neg aq] at H
 refine Wx bv <| Yu fun cb cc ay => ?_
 have az : ∀ (ab : Bool) (w : World), K5.j1 ae ac ab = some r → St w0 aa ((.box au 34 ([bf, bg, bh, bi, bj, bk, bl, ah, ai, aj, ak])) :: (.box bb 34 ([bf, bg, bh, bi, bj, bk, bl, ah, ai, aj, ak])) :: (.box cf 27 ([a0, a1, a2, a3, a4, a5, a6, a7, a8, a9, ba])) :: Γ) w → cb [(2, bu), (3, .pointer (some ⟨bb, 0, none⟩)), (4, .bool ab)] w := by
  intro ab w H hs
  rw [K5.j1] at H
  refine cc _ _ <| Zk ?_
  obtain rfl := Zz H
  exact Zw9 rfl (RV.tmp rfl (RV.cell rfl Zim Zey rfl (fun j u hu => hs.boxCell (i := 1) rfl hu) (RV.tmp rfl RV.nil))) (by simp) ⟨_, _, _, rfl, (ag.trans ad), (hs.sub (ssk (ssk (ssk ssr)))), ax, (rBk.mono ad bd)⟩
 refine Qn 11 [0, 0, 0, 4, 8, 16, 48, 80, 17, 259, 1023] [254, 509, 1011, 995, 515, 899, 771, 771, 226, 0, 0] [0, 0, 0, 4, 12, 28, 60, 124, 29, 287, 1023] [9, 10] (fun w => St w0 aa ((.box au 34 ([bf, bg, bh, bi, bj, bk, bl, ah, ai, aj, ak])) :: (.box bb 34 ([.slice none 0 0, .slice none 0 0, .slice none 0 0, .slice none 0 0, .slice none 0 0, .slice none 0 0, .slice none 0 0, .slice none 0 0, .slice none 0 0, .slice none 0 0, .slice none 0 0])) :: (.box cf 27 ([a0, a1, a2, a3, a4, a5, a6, a7, a8, a9, ba])) :: Γ) w) Vl (by kernel_rfl) (fun sh => ?_)
 have hs := hs.drew
 refine Fm 0 sh rfl <| Fy 1 sh rfl hs (fun w hs => Xk (i := 0) Zim Zey hs rfl rfl rfl rfl) <| Fm 2 sh rfl <| Fp 3 sh rfl (fun w => Zbn rfl rfl) <| Fm 4 sh rfl <| Zav (dj := 34) rfl (fun ar => ?_) (fun ar => ?_)
 rw [if_pos ar] at H
 refine Fp 5 sh rfl (fun w => Qk rfl) <| Fp 6 sh rfl (fun w => (ax.nen Zl0 rfl rfl)) <| Fp 7 sh rfl (fun w => J7 rfl rfl) <| Fp 8 sh rfl (fun w => Xv rfl) <| F1 9 sh rfl (fun cr cd => Ye (i := 1) Zey hs rfl rfl rfl rfl rfl (Zb bm.one (Zb bn.one (Zb bo.one (Zb bp.one (Zb bq.one (Zb br.one (Zb al.one (Zb am.one (Zb an.one (Zb ao.one (Zb ap.one Yj))))))))))) (fun w hs => Zd (cd _ _ (fun h _ => absurd h (by decide)) <| Ke sh [] hs (by kernel_rfl) <| Fp 10 sh rfl (fun w => Xv rfl) <| FE sh (ay _ _ _ (T3 rfl) (az ((ac.1).isSome) _ H hs)))))
 rw [if_neg ar] at H
 refine Fn 5 sh rfl <| Fn 6 sh rfl <| Fp 7 sh rfl (fun w => Qr rfl rfl) <| Fp 8 sh rfl (fun w => Xv rfl) <| F1 9 sh rfl (fun ct ce => Ye (i := 1) Zey hs rfl rfl rfl rfl rfl (Zb bm.one (Zb bn.one (Zb bo.one (Zb bp.one (Zb bq.one (Zb br.one (Zb al.one (Zb am.one (Zb an.one (Zb ao.one (Zb ap.one Yj))))))))))) (fun w hs => Zd (ce _ _ (fun h _ => absurd h (by decide)) <| Ke sh [] hs (by kernel_rfl) <| Fp 10 sh rfl (fun w => Xv rfl) <| FE sh (ay _ _ _ (T3 rfl) (az false _ H hs)))))

end Go.Proofs.YthoicbafdanmkaaGreatDoor
/- Written by this repo's gen.py: for each Go function a Lean function with the same answers and the walk that shows it. -/
namespace Go.Proofs.YthoicbafdanmkaaGreatDoor
open Go.IntKind (i8 i16 i32 i64 u8 u16 u32 u64)
open Go.RowKit
set_option maxRecDepth 100000
set_option maxHeartbeats 4000000
variable {w0 w : World} {ρ : Hp} {Γ : List Q5}
set_option linter.unusedVariables false
def Qf.f (x0 : Option Tbs) (x1 : Int) : Option Int := if ((x0).isNone) = true then (some 0) else (if x0.isSome = true then ((Z1.f (((x0).getD default).class_) x1).bind fun aa => (some aa)) else none)
theorem Qf.c (hs : St w0 ρ (Γ) w) {v0 : Value} {x0 : Option Tbs} (h0 : Xs Hm ρ v0 x0) {x1 r : Int} (H : Qf.f x0 x1 = some r) : Zn Tryz.prog 133 [v0, .int .i32 x1] w (fun v w' => v = .int .i64 r ∧ St w0 ρ Γ w') := by
 rw [Qf.f] at H
 refine Et Tryz.func133 Tryz.ntmps133 rfl <| Wr fun a0 af => As rfl <| Ox af <| Zh fun a1 ag => Wr fun a2 ah => Mv rfl <| O_y rfl ((h0.eqn Zl0 rfl rfl)) <| Ox ah <| Xg rfl (fun ac => ?_) (fun ac => ?_)
 rw [if_pos ac] at H
 refine Wr fun a3 ai => As rfl <| Ox ai <| Zk ?_
 obtain rfl := Zz H
 exact r1 rfl ⟨rfl, hs⟩
 rw [if_neg (bft ac)] at H
 refine Wx ag <| Wr fun a4 aj => Mv rfl ?_
 obtain ⟨ak, H⟩ := gd H
 obtain ⟨a5, ad, al⟩ := h0.open ak
 obtain ⟨_, ⟨a6, a7, a8, a9, ba, bb, bc, bd, be, bf, bg, bh, bi, bj, bk, bl, bm, am, an, ao, ap, aq, rfl, bn, bo, bp, bq, br, bs, bt, bu, bv, bw, bx, bz, ar, b0, b1, b2, b3, au, av, aw, ax, ay⟩, ae⟩ := al
 refine O_y rfl (K1 (congrArg some ad)) <| Ofd Zlk rfl <| O_y rfl (Xp Zcc rfl (hs.see (ae 12 _ rfl))) <| Mv rfl ?_
 obtain ⟨aa, ab, H⟩ := bnd H
 refine Oc rfl (Z1.c hs ar ab) (fun az w hpost => ?_)
 obtain ⟨rfl, hs⟩ := hpost
 refine As rfl <| Ox aj <| Zk ?_
 obtain rfl := Zz H
 exact r1 rfl ⟨rfl, hs⟩

def Uy.f (x0 : Int) : Option Bool := some (decide (x0 ≠ x0))
theorem Uy.c (hs : St w0 ρ (Γ) w) {x0 : Int} {r : Bool} (H : Uy.f x0 = some r) : Zn Tryz.prog 179 [.int .i64 x0] w (fun v w' => v = .bool r ∧ St w0 ρ Γ w') := by
 rw [Uy.f] at H
 refine Et Tryz.func179 Tryz.ntmps179 rfl <| Wr fun ac aa => As rfl <| Ox aa <| Wr fun ad ab => Mv rfl <| Mv rfl <| One rfl <| As rfl <| Ox ab <| Zk ?_
 obtain rfl := Zz H
 exact r1 rfl ⟨rfl, hs⟩

def Hd.f (x0 x1 : Int) : Option Int := (Uy.f x0).bind fun ai => ((Uy.f x1).bind fun aa => (if ai = true then (if aa = true then (some 0) else (some (-1))) else (if aa = true then (some 1) else (if x0 < x1 then (some (-1)) else (if x1 < x0 then (some 1) else (some 0))))))
theorem Hd.c (hs : St w0 ρ (Γ) w) {x0 x1 r : Int} (H : Hd.f x0 x1 = some r) : Zn Tryz.prog 167 [.int .i64 x0, .int .i64 x1] w (fun v w' => v = .int .i64 r ∧ St w0 ρ Γ w') := by
 rw [Hd.f] at H
 refine Et Tryz.func167 Tryz.ntmps167 rfl <| Wr fun a4 aj => As rfl <| Ox aj <| Wr fun a5 ak => Mv rfl ?_
 obtain ⟨ai, ab, H⟩ := bnd H
 refine Oc rfl (Uy.c hs ab) (fun a6 w hpost => ?_)
 obtain ⟨rfl, hs⟩ := hpost
 refine As rfl <| Ox ak <| Wr fun a7 al => Mv rfl ?_
 obtain ⟨aa, ac, H⟩ := bnd H
 refine Oc rfl (Uy.c hs ac) (fun a8 w hpost => ?_)
 obtain ⟨rfl, hs⟩ := hpost
 refine As rfl <| Ox al <| Zh fun a9 am => Wr fun ba an => Mv rfl <| Ox an <| Xg rfl (fun ad => ?_) (fun ad => ?_)
 rw [if_pos ad] at H
 refine Zh fun bb ao => Wr fun bc ap => Mv rfl <| Ox ap <| Xg rfl (fun ae => ?_) (fun ae => ?_)
 rw [if_pos ae] at H
 refine Wr fun bd aq => As rfl <| Ox aq <| Zk ?_
 obtain rfl := Zz H
 exact r1 rfl ⟨rfl, hs⟩
 rw [if_neg (bft ae)] at H
 refine Wx ao <| Wr fun be ar => As rfl <| Ox ar <| Zk ?_
 obtain rfl := Zz H
 exact r1 rfl ⟨rfl, hs⟩
 rw [if_neg (bft ad)] at H
 refine Wx am <| Zh fun bf au => Wr fun bg av => Mv rfl <| Ox av <| Xg rfl (fun af => ?_) (fun af => ?_)
 rw [if_pos af] at H
 refine Wr fun bh aw => As rfl <| Ox aw <| Zk ?_
 obtain rfl := Zz H
 exact r1 rfl ⟨rfl, hs⟩
 rw [if_neg (bft af)] at H
 refine Wx au <| Zh fun bi ax => Wr fun bj ay => Mv rfl <| Mv rfl <| Ols rfl <| Ox ay <| Y7 rfl (fun ag => ?_) (fun ag => ?_)
 rw [if_pos ag] at H
 refine Wr fun bk az => As rfl <| Ox az <| Zk ?_
 obtain rfl := Zz H
 exact r1 rfl ⟨rfl, hs⟩
 rw [if_neg ag] at H
 refine Wx ax <| Zh fun bl a0 => Wr fun bm a1 => Mv rfl <| Mv rfl <| Ogt rfl <| Ox a1 <| W.weak [(19, _)] (S1 rfl) <| Y7 rfl (fun ah => ?_) (fun ah => ?_)
 rw [if_pos ah] at H
 refine Wr fun bn a2 => As rfl <| Ox a2 <| Zk ?_
 obtain rfl := Zz H
 exact r1 rfl ⟨rfl, hs⟩
 rw [if_neg ah] at H
 refine Wx a0 <| Wr fun bo a3 => As rfl <| Ox a3 <| Zk ?_
 obtain rfl := Zz H
 exact r1 rfl ⟨rfl, hs⟩

def Q6.f (x0 x1 : Int) (y0_0 : Option Tbs) : Option Int := (Qf.f y0_0 x0).bind fun ad => ((Qf.f y0_0 x1).bind fun ae => ((Hd.f ad ae).bind fun af => (some af)))
theorem Q6.c {pb0 : Nat} {w0_0 : Value} {y0_0 : Option Tbs} (hs : St w0 ρ ((.box pb0 29 ([w0_0])) :: Γ) w) {x0 x1 : Int} (g0_0 : Xs Hm ρ w0_0 y0_0) {r : Int} (H : Q6.f x0 x1 y0_0 = some r) : Zn Tryz.prog 166 [.int .i32 x0, .int .i32 x1, .pointer (some ⟨pb0, 0, none⟩)] w (fun v w' => v = .int .i64 r ∧ St w0 ρ ((.box pb0 29 ([w0_0])) :: Γ) w') := by
 rw [Q6.f] at H
 refine Et Tryz.func166 Tryz.ntmps166 rfl <| Wr fun al ag => As rfl <| Ox ag <| Zh fun am ah => Qn 8 [0, 0, 3, 0, 0, 28, 36, 127] [122, 121, 24, 87, 79, 0, 0, 0] [0, 0, 3, 0, 0, 31, 63, 127] [] (fun w => St w0 ρ ((.box pb0 29 ([w0_0])) :: Γ) w) Vl (by kernel_rfl) (fun sh => ?_)
 have hs := hs.drew
 refine Fy 0 sh rfl hs (fun w hs => Yb 0 Znx hs rfl rfl rfl) <| Fm 1 sh rfl <| Fy 3 sh rfl hs (fun w hs => Yb 0 Znx hs rfl rfl rfl) <| Fm 4 sh rfl <| F1 2 sh rfl (fun an ai => ?_)
 obtain ⟨ad, aa, H⟩ := bnd H
 refine Oc rfl (Qf.c hs g0_0 aa) (fun ao w hpost => ?_)
 obtain ⟨rfl, hs⟩ := hpost
 refine Zd (ai _ _ (fun _ _ => hs) <| F1 5 sh rfl (fun ap aj => ?_))
 obtain ⟨ae, ab, H⟩ := bnd H
 refine Oc rfl (Qf.c hs g0_0 ab) (fun aq w hpost => ?_)
 obtain ⟨rfl, hs⟩ := hpost
 refine Zd (aj _ _ (fun _ _ => hs) <| F1 6 sh rfl (fun ar ak => ?_))
 obtain ⟨af, ac, H⟩ := bnd H
 refine Oc rfl (Hd.c hs ac) (fun au w hpost => ?_)
 obtain ⟨rfl, hs⟩ := hpost
 refine Zd (ak _ _ (fun _ _ => hs) <| Fp 7 sh rfl (fun w => Xv rfl) <| FE sh (ah _ _ <| Zk ?_))
 obtain rfl := Zz H
 exact r1 rfl ⟨rfl, hs⟩

def Zf.j1 (ah : List Int → Int → Option (List Int)) (aq : List Int → Int → Option (List Int)) (ac : Int) (aa : List Int) (ab : Int) (ai : Bool) : Option (List Int) := if ai = true then (if (0 : Int) ≤ i64.wrap (ab - 1) ∧ i64.wrap (ab - 1) < (aa.length : Int) then (if (0 : Int) ≤ ab ∧ ab < (aa.length : Int) then (if (0 : Int) ≤ i64.wrap (ab - 1) ∧ i64.wrap (ab - 1) < ((aa.set ab.toNat (rd aa (i64.wrap (ab - 1)))).length : Int) then (aq ((aa.set ab.toNat (rd aa (i64.wrap (ab - 1)))).set (i64.wrap (ab - 1)).toNat (rd aa ab)) (i64.wrap (ab - 1))) else none) else none) else none) else (ah aa (i64.wrap (ac + 1)))
def Zf.l1 (ah : List Int → Int → Option (List Int)) : Nat → Option Tbs → Int → Int → List Int → Int → Option (List Int)
  | 0, _, _, _, _, _ => none
  | ak + 1, y1_0, x1, ac, aa, ab => if x1 < ab then (if (0 : Int) ≤ ab ∧ ab < (aa.length : Int) then (if (0 : Int) ≤ i64.wrap (ab - 1) ∧ i64.wrap (ab - 1) < (aa.length : Int) then ((Q6.f (rd aa ab) (rd aa (i64.wrap (ab - 1))) y1_0).bind fun ar => (Zf.j1 ah (Zf.l1 ah ak y1_0 x1 ac) ac aa ab (decide (ar < 0)))) else none) else none) else (Zf.j1 ah (Zf.l1 ah ak y1_0 x1 ac) ac aa ab false)
def Zf.l2 : Nat → Option Tbs → Int → Int → List Int → Int → Option (List Int)
  | 0, _, _, _, _, _ => none
  | aj + 1, y1_0, x1, x2, ae, ac => if ac < x2 then (Zf.l1 (Zf.l2 aj y1_0 x1 x2) K0 y1_0 x1 ac ae ac) else (some ae)
def Zf.f (x1 x2 : Int) (y0 : List Int) (y1_0 : Option Tbs) : Option (List Int) := Zf.l2 K0 y1_0 x1 x2 y0 (i64.wrap (x1 + 1))
theorem Zf.c {wr0 wd0 : Value} {d0 : List Value} {wp0 wq0 : List Int} {wm0 : Nat} {y0 : List Int} {pb1 : Nat} {w1_0 : Value} {y1_0 : Option Tbs} (hs : St w0 ρ ((.row wr0 21 ((Rep.int .i32).sz) wm0 d0) :: (.box pb1 29 ([w1_0])) :: Γ) w) {x1 x2 : Int} (g0 : Ha .i32 ρ wr0 d0 wd0 wp0 wq0 y0) (g1_0 : Xs Hm ρ w1_0 y1_0) {r : List Int} (H : Zf.f x1 x2 y0 y1_0 = some r) : Zn Tryz.prog 185 [wd0, .int .i64 x1, .int .i64 x2, .func (.func 166) #[] #[.pointer (some ⟨pb1, 0, none⟩)]] w (fun v w' => ∃ (ρ' : Hp) (ds0 : List Value), v = .tuple #[] ∧ Le ρ ρ' ∧ St w0 ρ' ((.row wr0 21 ((Rep.int .i32).sz) wm0 ds0) :: (.box pb1 29 ([w1_0])) :: Γ) w' ∧ Ha .i32 ρ' wr0 ds0 wd0 wp0 wq0 r) := by
 rw [Zf.f] at H
 refine Et Tryz.func185 Tryz.ntmps185 rfl <| Wr fun b5 bj => Mv rfl <| Oad rfl <| As rfl <| Ox bj <| Zj fun b6 bk b7 => Y9 (σ := Nat × List Int × Int × List Value) (fun (aj, ae, ac, ag) => [(0, wd0), (1, .int .i64 x1), (2, .int .i64 x2), (3, .func (.func 166) #[] #[.pointer (some ⟨pb1, 0, none⟩)]), (8, .int .i64 ac)]) (fun (aj, ae, ac, ag) w => Zf.l2 aj y1_0 x1 x2 ae ac = some r ∧ St w0 ρ ((.row wr0 21 ((Rep.int .i32).sz) wm0 ag) :: (.box pb1 29 ([w1_0])) :: Γ) w ∧ Ha .i32 ρ wr0 ag wd0 wp0 wq0 ae) (fun s => s.1) (K0, y0, (i64.wrap (x1 + 1)), d0) sbn (Ai H (Ai hs g0)) ?_
 rintro ⟨aj, ae, ac, ag⟩ w b8 ⟨H, hs, al⟩ au
 show W _ _ _ _ _ _ [(0, wd0), (1, .int .i64 x1), (2, .int .i64 x2), (3, .func (.func 166) #[] #[.pointer (some ⟨pb1, 0, none⟩)]), (8, .int .i64 ac)] w
 cases aj with
 | zero => rw [Zf.l2] at H; cases H
 | succ aj =>
 rw [Zf.l2] at H
 refine Zh fun b9 bl => Wr fun ca bm => Mv rfl <| Mv rfl <| Ols rfl <| Ox bm <| Y7 rfl (fun a4 => ?_) (fun a4 => ?_)
 ·rw [if_pos a4] at H
  refine Wx bl <| Zh fun cb bn => Zj fun cc cd ce => Wr fun cf bo => Mv rfl <| As rfl <| Ox bo <| Zj fun cg bp ch => Y9 (σ := Nat × List Int × Int × List Value) (fun (ak, aa, ab, af) => [(0, wd0), (1, .int .i64 x1), (2, .int .i64 x2), (3, .func (.func 166) #[] #[.pointer (some ⟨pb1, 0, none⟩)]), (8, .int .i64 ac), (9, .int .i64 ab)]) (fun (ak, aa, ab, af) w => Zf.l1 (Zf.l2 aj y1_0 x1 x2) ak y1_0 x1 ac aa ab = some r ∧ St w0 ρ ((.row wr0 21 ((Rep.int .i32).sz) wm0 af) :: (.box pb1 29 ([w1_0])) :: Γ) w ∧ Ha .i32 ρ wr0 af wd0 wp0 wq0 aa) (fun s => s.1) (K0, ae, ac, ag) sbn (Ai H (Ai hs al)) ?_
  rintro ⟨ak, aa, ab, af⟩ w ci ⟨H, hs, ad⟩ av
  show W _ _ _ _ _ _ [(0, wd0), (1, .int .i64 x1), (2, .int .i64 x2), (3, .func (.func 166) #[] #[.pointer (some ⟨pb1, 0, none⟩)]), (8, .int .i64 ac), (9, .int .i64 ab)] w
  cases ak with
  | zero => rw [Zf.l1] at H; cases H
  | succ ak =>
  rw [Zf.l1] at H
  refine Zh fun cj bq => Yu fun br bs bg => ?_
  have bh : ∀ (ai : Bool) (w : World), Zf.j1 (Zf.l2 aj y1_0 x1 x2) (Zf.l1 (Zf.l2 aj y1_0 x1 x2) ak y1_0 x1 ac) ac aa ab ai = some r → St w0 ρ ((.row wr0 21 ((Rep.int .i32).sz) wm0 af) :: (.box pb1 29 ([w1_0])) :: Γ) w → br [(0, wd0), (1, .int .i64 x1), (2, .int .i64 x2), (3, .func (.func 166) #[] #[.pointer (some ⟨pb1, 0, none⟩)]), (8, .int .i64 ac), (9, .int .i64 ab), (34, .bool ai)] w := by
   intro ai w H hs
   rw [Zf.j1] at H
   refine bs _ _ <| Xg rfl (fun a5 => ?_) (fun a5 => ?_)
   rw [if_pos a5] at H
   refine Wx bq <| Zh fun ck bt => Zj fun cl cm cn => Qn 18 [0, 0, 0, 0, 8, 0, 0, 64, 160, 256, 0, 0, 3072, 4096, 9187, 25571, 65535, 131071] [16382, 16381, 65531, 65511, 65511, 16095, 16191, 15935, 15391, 15391, 60415, 59391, 50175, 1023, 28, 0, 0, 0] [0, 0, 0, 0, 8, 0, 0, 64, 224, 480, 0, 0, 3072, 7168, 16355, 32739, 65535, 131071] [15, 16, 17] (fun w => St w0 ρ ((.row wr0 21 ((Rep.int .i32).sz) wm0 af) :: (.box pb1 29 ([w1_0])) :: Γ) w) Vl (by kernel_rfl) (fun sh => ?_)
   have hs := hs.drew
   refine Fm 0 sh rfl <| Fm 1 sh rfl <| Fm 2 sh rfl <| Fm 3 sh rfl <| Fp 4 sh rfl (fun w => Zc2 rfl rfl) <| Fm 5 sh rfl <| Fm 6 sh rfl <| Fp 7 sh rfl (fun w => Zc2 rfl rfl) ?_
   obtain ⟨a3, H⟩ := gd H
   obtain ⟨co, a6, bu⟩ := ad.ix Q7 a3.1 a3.2
   refine Fp 8 sh rfl (fun w => bu rfl rfl) <| Fy 9 sh rfl hs (fun w hs => Ho (j := 0) Xm hs rfl a6 ad a3.1 a3.2 rfl) <| Fm 10 sh rfl <| Fm 11 sh rfl ?_
   obtain ⟨ap, H⟩ := gd H
   obtain ⟨cp, a7, bv⟩ := ad.ix Q7 ap.1 ap.2
   refine Fp 12 sh rfl (fun w => bv rfl rfl) <| Fy 13 sh rfl hs (fun w hs => Ho (j := 0) Xm hs rfl a7 ad ap.1 ap.2 rfl) ?_
   obtain ⟨cq, a8, bw⟩ := ad.ix Q7 ap.1 ap.2
   refine Fp 14 sh rfl (fun w => bw rfl rfl) <| F1 15 sh rfl (fun bx a9 => Zcb (j := 0) Zf0 hs rfl a8 ad ap.1 ap.2 rfl rfl (fun bi w ax hs => Zd (a9 _ _ (fun h _ => absurd h (by decide)) <| Ke sh [17] hs (by kernel_rfl) ?_)))
   obtain ⟨am, H⟩ := gd H
   obtain ⟨bz, ay, ba⟩ := ax.ix Q7 am.1 am.2
   refine Fp 16 sh rfl (fun w => ba rfl rfl) <| F1 17 sh rfl (fun b0 bb => Zcb (j := 0) Zf0 hs rfl ay ax am.1 am.2 rfl rfl (fun az w bc hs => Zd (bb _ _ (fun h _ => absurd h (by decide)) <| FE sh (bt _ _ <| W.weak [(0, _), (1, _), (2, _), (3, _), (8, _), (9, _)] sbn ?_))))
   refine Zc <| Mv rfl <| Osu rfl <| As rfl <| Zd (av (ak, ((aa.set ab.toNat (rd aa (i64.wrap (ab - 1)))).set (i64.wrap (ab - 1)).toNat (rd aa ab)), (i64.wrap (ab - 1)), az) _ _ sbn (Ai H (Ai hs bc)) (Nat.lt_succ_self _))
   rw [if_neg (bft a5)] at H
   refine Y4 (bp _ _ (bn _ _ <| Zc <| Mv rfl <| Oad rfl <| As rfl <| Zd (au (aj, aa, (i64.wrap (ac + 1)), af) _ _ sbn (Ai H (Ai hs ad)) (Nat.lt_succ_self _))))
  refine Qn 17 [0, 0, 3, 4, 8, 8, 8, 104, 136, 8, 8, 1032, 2568, 4104, 8472, 16392, 32776] [131066, 131065, 131056, 0, 114656, 130896, 130864, 130576, 114192, 126448, 127984, 123888, 115184, 98800, 65536, 0, 0] [0, 0, 3, 7, 15, 15, 15, 111, 239, 15, 15, 1039, 3599, 7695, 16383, 32767, 65535] [14, 15, 16] (fun w => St w0 ρ ((.row wr0 21 ((Rep.int .i32).sz) wm0 af) :: (.box pb1 29 ([w1_0])) :: Γ) w) Vl (by kernel_rfl) (fun sh => ?_)
  have hs := hs.drew
  refine Fm 0 sh rfl <| Fm 1 sh rfl <| Fp 2 sh rfl (fun w => Zjk rfl rfl) <| Fm 3 sh rfl <| Zav (dj := 21) rfl (fun aw => ?_) (fun aw => ?_)
  rw [if_pos aw] at H
  refine Fp 4 sh rfl (fun w => Qk rfl) <| Fp 5 sh rfl (fun w => Qk rfl) <| Fp 6 sh rfl (fun w => Qk rfl) ?_
  obtain ⟨an, H⟩ := gd H
  obtain ⟨b1, a0, bd⟩ := ad.ix Q7 an.1 an.2
  refine Fp 7 sh rfl (fun w => bd rfl rfl) <| Fy 8 sh rfl hs (fun w hs => Ho (j := 0) Xm hs rfl a0 ad an.1 an.2 rfl) <| Fp 9 sh rfl (fun w => Qk rfl) <| Fp 10 sh rfl (fun w => Qk rfl) <| Fp 11 sh rfl (fun w => Zc2 rfl rfl) ?_
  obtain ⟨ao, H⟩ := gd H
  obtain ⟨b2, a1, be⟩ := ad.ix Q7 ao.1 ao.2
  refine Fp 12 sh rfl (fun w => be rfl rfl) <| Fy 13 sh rfl hs (fun w hs => Ho (j := 0) Xm hs rfl a1 ad ao.1 ao.2 rfl) <| F1 14 sh rfl (fun b3 bf => Oe rfl ?_)
  have hs := hs.front 1 rfl
  obtain ⟨ar, a2, H⟩ := bnd H
  refine Xo rfl rfl rfl (Q6.c hs g1_0 a2) (fun b4 w hpost => ?_)
  obtain ⟨rfl, hs⟩ := hpost
  have hs := hs.sink 1
  refine Zd (bf _ _ (fun h _ => absurd h (by decide)) <| Ke sh [] hs (by kernel_rfl) <| Fp 15 sh rfl (fun w => Zax rfl rfl) <| Fp 16 sh rfl (fun w => J7 rfl rfl) <| FE sh (bg _ _ _ sbn (bh (decide (ar < 0)) _ H hs)))
  rw [if_neg aw] at H
  refine Fn 4 sh rfl <| Fn 5 sh rfl <| Fn 6 sh rfl <| Fn 7 sh rfl <| Fn 8 sh rfl <| Fn 9 sh rfl <| Fn 10 sh rfl <| Fn 11 sh rfl <| Fn 12 sh rfl <| Fn 13 sh rfl <| Fn 14 sh rfl <| Fn 15 sh rfl <| Fp 16 sh rfl (fun w => Qr rfl rfl) <| FE sh (bg _ _ _ sbn (bh false _ H hs))
 rw [if_neg a4] at H
 refine Y4 (bk _ _ ?_)
 obtain rfl := Zz H
 exact Zgj rfl ⟨_, _, rfl, Le.rfl' _, hs, al⟩

def Z0.l1 : Nat → Int → Int → Int → List Int → Int → Option (List Int)
  | 0, _, _, _, _, _ => none
  | ae + 1, x1, x2, x3, ab, aa => if aa < x3 then (if (0 : Int) ≤ i64.wrap (x2 + aa) ∧ i64.wrap (x2 + aa) < (ab.length : Int) then (if (0 : Int) ≤ i64.wrap (x1 + aa) ∧ i64.wrap (x1 + aa) < (ab.length : Int) then (if (0 : Int) ≤ i64.wrap (x2 + aa) ∧ i64.wrap (x2 + aa) < ((ab.set (i64.wrap (x1 + aa)).toNat (rd ab (i64.wrap (x2 + aa)))).length : Int) then ((Z0.l1 ae x1 x2 x3) ((ab.set (i64.wrap (x1 + aa)).toNat (rd ab (i64.wrap (x2 + aa)))).set (i64.wrap (x2 + aa)).toNat (rd ab (i64.wrap (x1 + aa)))) (i64.wrap (aa + 1))) else none) else none) else none) else (some ab)
def Z0.f (x1 x2 x3 : Int) (y0 : List Int) (y1_0 : Option Tbs) : Option (List Int) := Z0.l1 K0 x1 x2 x3 y0 0
theorem Z0.c {wr0 wd0 : Value} {d0 : List Value} {wp0 wq0 : List Int} {wm0 : Nat} {y0 : List Int} {pb1 : Nat} {w1_0 : Value} {y1_0 : Option Tbs} (hs : St w0 ρ ((.row wr0 21 ((Rep.int .i32).sz) wm0 d0) :: (.box pb1 29 ([w1_0])) :: Γ) w) {x1 x2 x3 : Int} (g0 : Ha .i32 ρ wr0 d0 wd0 wp0 wq0 y0) (g1_0 : Xs Hm ρ w1_0 y1_0) {r : List Int} (H : Z0.f x1 x2 x3 y0 y1_0 = some r) : Zn Tryz.prog 189 [wd0, .int .i64 x1, .int .i64 x2, .int .i64 x3, .func (.func 166) #[] #[.pointer (some ⟨pb1, 0, none⟩)]] w (fun v w' => ∃ (ρ' : Hp) (ds0 : List Value), v = .tuple #[] ∧ Le ρ ρ' ∧ St w0 ρ' ((.row wr0 21 ((Rep.int .i32).sz) wm0 ds0) :: (.box pb1 29 ([w1_0])) :: Γ) w' ∧ Ha .i32 ρ' wr0 ds0 wd0 wp0 wq0 r) := by
 rw [Z0.f] at H
 refine Et Tryz.func189 Tryz.ntmps189 rfl <| Wr fun a5 aq => As rfl <| Ox aq <| Zj fun a6 ar a7 => Y9 (σ := Nat × List Int × Int × List Value) (fun (ae, ab, aa, ad) => [(0, wd0), (1, .int .i64 x1), (2, .int .i64 x2), (3, .int .i64 x3), (10, .int .i64 aa)]) (fun (ae, ab, aa, ad) w => Z0.l1 ae x1 x2 x3 ab aa = some r ∧ St w0 ρ ((.row wr0 21 ((Rep.int .i32).sz) wm0 ad) :: (.box pb1 29 ([w1_0])) :: Γ) w ∧ Ha .i32 ρ wr0 ad wd0 wp0 wq0 ab) (fun s => s.1) (K0, y0, 0, d0) sbn (Ai H (Ai hs g0)) ?_
 rintro ⟨ae, ab, aa, ad⟩ w a8 ⟨H, hs, ac⟩ ag
 show W _ _ _ _ _ _ [(0, wd0), (1, .int .i64 x1), (2, .int .i64 x2), (3, .int .i64 x3), (10, .int .i64 aa)] w
 cases ae with
 | zero => rw [Z0.l1] at H; cases H
 | succ ae =>
 rw [Z0.l1] at H
 refine Zh fun a9 au => Wr fun ba av => Mv rfl <| Mv rfl <| Ols rfl <| Ox av <| Y7 rfl (fun aj => ?_) (fun aj => ?_)
 rw [if_pos aj] at H
 refine Wx au <| Zh fun bb aw => Zj fun bc bd be => Qn 24 [0, 0, 0, 6, 0, 0, 0, 96, 0, 0, 0, 1536, 2304, 4096, 0, 0, 0, 98304, 147456, 262144, 540431, 1589007, 4194303, 8388607] [1048574, 1048565, 1048563, 1048561, 4194287, 4194143, 4194111, 4194079, 1044223, 1046015, 1045503, 1040895, 1032447, 1032447, 3915775, 4030463, 3997695, 3702783, 3162111, 16383, 240, 0, 0, 0] [0, 0, 0, 6, 0, 0, 0, 96, 0, 0, 0, 1536, 3840, 7936, 0, 0, 0, 98304, 245760, 507904, 1048335, 2096911, 4194303, 8388607] [21, 22, 23] (fun w => St w0 ρ ((.row wr0 21 ((Rep.int .i32).sz) wm0 ad) :: (.box pb1 29 ([w1_0])) :: Γ) w) Vl (by kernel_rfl) (fun sh => ?_)
 have hs := hs.drew
 refine Fm 0 sh rfl <| Fm 1 sh rfl <| Fm 2 sh rfl <| Fp 3 sh rfl (fun w => Hy rfl rfl) <| Fm 4 sh rfl <| Fm 5 sh rfl <| Fm 6 sh rfl <| Fp 7 sh rfl (fun w => Hy rfl rfl) <| Fm 8 sh rfl <| Fm 9 sh rfl <| Fm 10 sh rfl <| Fp 11 sh rfl (fun w => Hy rfl rfl) ?_
 obtain ⟨ah, H⟩ := gd H
 obtain ⟨bf, ak, ax⟩ := ac.ix Q7 ah.1 ah.2
 refine Fp 12 sh rfl (fun w => ax rfl rfl) <| Fy 13 sh rfl hs (fun w hs => Ho (j := 0) Xm hs rfl ak ac ah.1 ah.2 rfl) <| Fm 14 sh rfl <| Fm 15 sh rfl <| Fm 16 sh rfl <| Fp 17 sh rfl (fun w => Hy rfl rfl) ?_
 obtain ⟨af, H⟩ := gd H
 obtain ⟨bg, al, ay⟩ := ac.ix Q7 af.1 af.2
 refine Fp 18 sh rfl (fun w => ay rfl rfl) <| Fy 19 sh rfl hs (fun w hs => Ho (j := 0) Xm hs rfl al ac af.1 af.2 rfl) ?_
 obtain ⟨bh, am, az⟩ := ac.ix Q7 af.1 af.2
 refine Fp 20 sh rfl (fun w => az rfl rfl) <| F1 21 sh rfl (fun bi a0 => Zcb (j := 0) Zf0 hs rfl am ac af.1 af.2 rfl rfl (fun a1 w ap hs => Zd (a0 _ _ (fun h _ => absurd h (by decide)) <| Ke sh [23] hs (by kernel_rfl) ?_)))
 obtain ⟨ai, H⟩ := gd H
 obtain ⟨bj, an, a2⟩ := ap.ix Q7 ai.1 ai.2
 refine Fp 22 sh rfl (fun w => a2 rfl rfl) <| F1 23 sh rfl (fun bk a3 => Zcb (j := 0) Zf0 hs rfl an ap ai.1 ai.2 rfl rfl (fun ao w a4 hs => Zd (a3 _ _ (fun h _ => absurd h (by decide)) <| FE sh (aw _ _ <| W.weak [(0, _), (1, _), (2, _), (3, _), (10, _)] sbn ?_))))
 refine Zc <| Mv rfl <| Oad rfl <| As rfl <| Zd (ag (ae, ((ab.set (i64.wrap (x1 + aa)).toNat (rd ab (i64.wrap (x2 + aa)))).set (i64.wrap (x2 + aa)).toNat (rd ab (i64.wrap (x1 + aa)))), (i64.wrap (aa + 1)), ao) _ _ sbn (Ai H (Ai hs a4)) (Nat.lt_succ_self _))
 rw [if_neg aj] at H
 refine Y4 (ar _ _ ?_)
 obtain rfl := Zz H
 exact Zgj rfl ⟨_, _, rfl, Le.rfl' _, hs, ac⟩

def Yd.l1 : Nat → Option Tbs → Int → List Int → Int → Int → Option (List Int)
  | 0, _, _, _, _, _ => none
  | af + 1, y1_0, x2, ac, aa, ab => if aa ≠ ab then (if ab < aa then ((Z0.f (i64.wrap (x2 - aa)) x2 ab ac y1_0).bind fun aj => ((Yd.l1 af y1_0 x2) aj (i64.wrap (aa - ab)) ab)) else ((Z0.f (i64.wrap (x2 - aa)) (i64.wrap ((i64.wrap (x2 + ab)) - aa)) aa ac y1_0).bind fun ak => ((Yd.l1 af y1_0 x2) ak aa (i64.wrap (ab - aa))))) else ((Z0.f (i64.wrap (x2 - aa)) x2 aa ac y1_0).bind fun ax => (some ax))
def Yd.f (x1 x2 x3 : Int) (y0 : List Int) (y1_0 : Option Tbs) : Option (List Int) := Yd.l1 K0 y1_0 x2 y0 (i64.wrap (x2 - x1)) (i64.wrap (x3 - x2))
theorem Yd.c {wr0 wd0 : Value} {d0 : List Value} {wp0 wq0 : List Int} {wm0 : Nat} {y0 : List Int} {pb1 : Nat} {w1_0 : Value} {y1_0 : Option Tbs} (hs : St w0 ρ ((.row wr0 21 ((Rep.int .i32).sz) wm0 d0) :: (.box pb1 29 ([w1_0])) :: Γ) w) {x1 x2 x3 : Int} (g0 : Ha .i32 ρ wr0 d0 wd0 wp0 wq0 y0) (g1_0 : Xs Hm ρ w1_0 y1_0) {r : List Int} (H : Yd.f x1 x2 x3 y0 y1_0 = some r) : Zn Tryz.prog 188 [wd0, .int .i64 x1, .int .i64 x2, .int .i64 x3, .func (.func 166) #[] #[.pointer (some ⟨pb1, 0, none⟩)]] w (fun v w' => ∃ (ρ' : Hp) (ds0 : List Value), v = .tuple #[] ∧ Le ρ ρ' ∧ St w0 ρ' ((.row wr0 21 ((Rep.int .i32).sz) wm0 ds0) :: (.box pb1 29 ([w1_0])) :: Γ) w' ∧ Ha .i32 ρ' wr0 ds0 wd0 wp0 wq0 r) := by
 rw [Yd.f] at H
 refine Et Tryz.func188 Tryz.ntmps188 rfl <| Wr fun bd ay => Mv rfl <| Mv rfl <| Osu rfl <| As rfl <| Ox ay <| Wr fun be az => Mv rfl <| Mv rfl <| Osu rfl <| As rfl ?_
 refine Ox az <| Zh fun bf a0 => Zj fun bg a1 bh => Y9 (σ := Nat × List Int × Int × Int × List Value × Hp) (fun (af, ac, aa, ab, ad, ah) => [(0, wd0), (2, .int .i64 x2), (4, .func (.func 166) #[] #[.pointer (some ⟨pb1, 0, none⟩)]), (10, .int .i64 aa), (11, .int .i64 ab)]) (fun (af, ac, aa, ab, ad, ah) w => Yd.l1 af y1_0 x2 ac aa ab = some r ∧ Le ρ ah ∧ St w0 ah ((.row wr0 21 ((Rep.int .i32).sz) wm0 ad) :: (.box pb1 29 ([w1_0])) :: Γ) w ∧ Ha .i32 ah wr0 ad wd0 wp0 wq0 ac) (fun s => s.1) (K0, y0, (i64.wrap (x2 - x1)), (i64.wrap (x3 - x2)), d0, ρ) sbn (Ai H (Ai (Le.rfl' _) (Ai hs g0))) ?_
 rintro ⟨af, ac, aa, ab, ad, ah⟩ w bi ⟨H, ag, hs, ae⟩ ai
 show W _ _ _ _ _ _ [(0, wd0), (2, .int .i64 x2), (4, .func (.func 166) #[] #[.pointer (some ⟨pb1, 0, none⟩)]), (10, .int .i64 aa), (11, .int .i64 ab)] w
 cases af with
 | zero => rw [Yd.l1] at H; cases H
 | succ af =>
 rw [Yd.l1] at H
 refine Zh fun bj a2 => Wr fun bk a3 => Mv rfl <| Mv rfl <| One rfl <| Ox a3 <| Y7 rfl (fun al => ?_) (fun al => ?_)
 rw [if_pos al] at H
 refine Wx a2 <| Zj fun bl bm bn => Wr fun bo a4 => Mv rfl <| Mv rfl <| Ogt rfl <| Ox a4 <| Y7 rfl (fun am => ?_) (fun am => ?_)
 rw [if_pos am] at H
 refine Wr fun bp a5 => Mv rfl <| Mv rfl <| Mv rfl <| Osu rfl <| Mv rfl <| Mv rfl <| Mv rfl ?_
 have hs := hs.front 1 rfl
 have hs := hs.front 1 rfl
 obtain ⟨aj, an, H⟩ := bnd H
 refine Oc rfl (Z0.c hs ae (g1_0.mono ag) an) (fun bq w hpost => ?_)
 obtain ⟨a6, ao, rfl, ap, hs, a7⟩ := hpost
 have hs := hs.sink 1
 have hs := hs.sink 1
 refine Ox a5 <| W.weak [(0, _), (2, _), (4, _), (10, _), (11, _)] sbn ?_
 refine Zc <| Mv rfl <| Mv rfl <| Osu rfl <| As rfl <| Zd (ai (af, aj, (i64.wrap (aa - ab)), ab, ao, a6) _ _ sbn (Ai H (Ai (ag.trans ap) (Ai hs a7))) (Nat.lt_succ_self _))
 rw [if_neg am] at H
 refine Wr fun br a8 => Mv rfl <| Mv rfl <| Mv rfl <| Osu rfl <| Mv rfl <| Mv rfl <| Oad rfl <| Mv rfl <| Osu rfl <| Mv rfl <| Mv rfl ?_
 have hs := hs.front 1 rfl
 have hs := hs.front 1 rfl
 obtain ⟨ak, aq, H⟩ := bnd H
 refine Oc rfl (Z0.c hs ae (g1_0.mono ag) aq) (fun bs w hpost => ?_)
 obtain ⟨a9, ar, rfl, au, hs, ba⟩ := hpost
 have hs := hs.sink 1
 have hs := hs.sink 1
 refine Ox a8 <| W.weak [(0, _), (2, _), (4, _), (10, _), (11, _)] sbn ?_
 refine Zc <| Mv rfl <| Mv rfl <| Osu rfl <| As rfl <| Zd (ai (af, ak, aa, (i64.wrap (ab - aa)), ar, a9) _ _ sbn (Ai H (Ai (ag.trans au) (Ai hs ba))) (Nat.lt_succ_self _))
 rw [if_neg al] at H
 refine Y4 (a1 _ _ (a0 _ _ <| Zc <| Mv rfl <| Mv rfl <| Mv rfl <| Osu rfl <| Mv rfl <| Mv rfl <| Mv rfl ?_))
 have hs := hs.front 1 rfl
 have hs := hs.front 1 rfl
 obtain ⟨ax, av, H⟩ := bnd H
 refine Oc rfl (Z0.c hs ae (g1_0.mono ag) av) (fun bt w hpost => ?_)
 obtain ⟨bu, bb, rfl, aw, hs, bc⟩ := hpost
 have hs := hs.sink 1
 have hs := hs.sink 1
 refine Zd ?_
 obtain rfl := Zz H
 exact Zgj rfl ⟨_, _, rfl, (ag.trans aw), hs, bc⟩

def Za.l1 : Nat → Int → List Int → Int → Option (List Int)
  | 0, _, _, _ => none
  | a1 + 1, ah, ae, ab => if ab < (i64.wrap (ah - 1)) then (if (0 : Int) ≤ i64.wrap (ab + 1) ∧ i64.wrap (ab + 1) < (ae.length : Int) then (if (0 : Int) ≤ ab ∧ ab < (ae.length : Int) then (if (0 : Int) ≤ i64.wrap (ab + 1) ∧ i64.wrap (ab + 1) < ((ae.set ab.toNat (rd ae (i64.wrap (ab + 1)))).length : Int) then ((Za.l1 a1 ah) ((ae.set ab.toNat (rd ae (i64.wrap (ab + 1)))).set (i64.wrap (ab + 1)).toNat (rd ae ab)) (i64.wrap (ab + 1))) else none) else none) else none) else (some ae)
def Za.l2 : Nat → List Int → Option Tbs → Int → Int → Int → Option (List Int)
  | 0, _, _, _, _, _ => none
  | a4 + 1, y0, y1_0, x1, ah, al => if ah < al then (if (0 : Int) ≤ i64.wrap ((u64.wrap (i64.wrap (ah + al))).fdiv (2 ^ (min (1 : Int).toNat u64.bits))) ∧ i64.wrap ((u64.wrap (i64.wrap (ah + al))).fdiv (2 ^ (min (1 : Int).toNat u64.bits))) < (y0.length : Int) then (if (0 : Int) ≤ x1 ∧ x1 < (y0.length : Int) then ((Q6.f (rd y0 (i64.wrap ((u64.wrap (i64.wrap (ah + al))).fdiv (2 ^ (min (1 : Int).toNat u64.bits))))) (rd y0 x1) y1_0).bind fun gf => (if gf < 0 then ((Za.l2 a4 y0 y1_0 x1) (i64.wrap ((i64.wrap ((u64.wrap (i64.wrap (ah + al))).fdiv (2 ^ (min (1 : Int).toNat u64.bits)))) + 1)) al) else ((Za.l2 a4 y0 y1_0 x1) ah (i64.wrap ((u64.wrap (i64.wrap (ah + al))).fdiv (2 ^ (min (1 : Int).toNat u64.bits))))))) else none) else none) else (Za.l1 K0 ah y0 x1)
def Za.l3 : Nat → Int → List Int → Int → Option (List Int)
  | 0, _, _, _ => none
  | a2 + 1, ad, af, ac => if ad < ac then (if (0 : Int) ≤ i64.wrap (ac - 1) ∧ i64.wrap (ac - 1) < (af.length : Int) then (if (0 : Int) ≤ ac ∧ ac < (af.length : Int) then (if (0 : Int) ≤ i64.wrap (ac - 1) ∧ i64.wrap (ac - 1) < ((af.set ac.toNat (rd af (i64.wrap (ac - 1)))).length : Int) then ((Za.l3 a2 ad) ((af.set ac.toNat (rd af (i64.wrap (ac - 1)))).set (i64.wrap (ac - 1)).toNat (rd af ac)) (i64.wrap (ac - 1))) else none) else none) else none) else (some af)
def Za.l4 : Nat → List Int → Option Tbs → Int → Int → Int → Option (List Int)
  | 0, _, _, _, _, _ => none
  | az + 1, y0, y1_0, x2, ad, ai => if ad < ai then (if (0 : Int) ≤ x2 ∧ x2 < (y0.length : Int) then (if (0 : Int) ≤ i64.wrap ((u64.wrap (i64.wrap (ad + ai))).fdiv (2 ^ (min (1 : Int).toNat u64.bits))) ∧ i64.wrap ((u64.wrap (i64.wrap (ad + ai))).fdiv (2 ^ (min (1 : Int).toNat u64.bits))) < (y0.length : Int) then ((Q6.f (rd y0 x2) (rd y0 (i64.wrap ((u64.wrap (i64.wrap (ad + ai))).fdiv (2 ^ (min (1 : Int).toNat u64.bits))))) y1_0).bind fun b6 => (if ¬ (b6 < 0) then ((Za.l4 az y0 y1_0 x2) (i64.wrap ((i64.wrap ((u64.wrap (i64.wrap (ad + ai))).fdiv (2 ^ (min (1 : Int).toNat u64.bits)))) + 1)) ai) else ((Za.l4 az y0 y1_0 x2) ad (i64.wrap ((u64.wrap (i64.wrap (ad + ai))).fdiv (2 ^ (min (1 : Int).toNat u64.bits))))))) else none) else none) else (Za.l3 K0 ad y0 x2)
def Za.j1 (rec : Int → Int → Int → List Int → Option Tbs → Option (List Int)) (y1_0 : Option Tbs) (x1 x2 x3 aa : Int) (ak : List Int) (ar : Bool) : Option (List Int) := if ar = true then ((rec (i64.wrap ((u64.wrap (i64.wrap (x1 + x3))).fdiv (2 ^ (min (1 : Int).toNat u64.bits)))) (i64.wrap ((i64.wrap ((i64.wrap ((u64.wrap (i64.wrap (x1 + x3))).fdiv (2 ^ (min (1 : Int).toNat u64.bits)))) + x2)) - aa)) x3 ak y1_0).bind fun b7 => (some b7)) else (some ak)
def Za.j2 (rec : Int → Int → Int → List Int → Option Tbs → Option (List Int)) (y1_0 : Option Tbs) (x1 x2 x3 aa : Int) (ak : List Int) : Option (List Int) := if (i64.wrap ((u64.wrap (i64.wrap (x1 + x3))).fdiv (2 ^ (min (1 : Int).toNat u64.bits)))) < (i64.wrap ((i64.wrap ((i64.wrap ((u64.wrap (i64.wrap (x1 + x3))).fdiv (2 ^ (min (1 : Int).toNat u64.bits)))) + x2)) - aa)) then (Za.j1 rec y1_0 x1 x2 x3 aa ak (decide ((i64.wrap ((i64.wrap ((i64.wrap ((u64.wrap (i64.wrap (x1 + x3))).fdiv (2 ^ (min (1 : Int).toNat u64.bits)))) + x2)) - aa)) < x3))) else (Za.j1 rec y1_0 x1 x2 x3 aa ak false)
def Za.j3 (rec : Int → Int → Int → List Int → Option Tbs → Option (List Int)) (y1_0 : Option Tbs) (x1 x2 x3 aa : Int) (aj : List Int) (au : Bool) : Option (List Int) := if au = true then ((rec x1 aa (i64.wrap ((u64.wrap (i64.wrap (x1 + x3))).fdiv (2 ^ (min (1 : Int).toNat u64.bits)))) aj y1_0).bind fun bp => (Za.j2 rec y1_0 x1 x2 x3 aa bp)) else (Za.j2 rec y1_0 x1 x2 x3 aa aj)
def Za.j4 (rec : Int → Int → Int → List Int → Option Tbs → Option (List Int)) (y1_0 : Option Tbs) (x1 x2 x3 aa : Int) (aj : List Int) : Option (List Int) := if x1 < aa then (Za.j3 rec y1_0 x1 x2 x3 aa aj (decide (aa < (i64.wrap ((u64.wrap (i64.wrap (x1 + x3))).fdiv (2 ^ (min (1 : Int).toNat u64.bits))))))) else (Za.j3 rec y1_0 x1 x2 x3 aa aj false)
def Za.j5 (rec : Int → Int → Int → List Int → Option Tbs → Option (List Int)) (y0 : List Int) (y1_0 : Option Tbs) (x1 x2 x3 aa : Int) (av : Bool) : Option (List Int) := if av = true then ((Yd.f aa x2 (i64.wrap ((i64.wrap ((i64.wrap ((u64.wrap (i64.wrap (x1 + x3))).fdiv (2 ^ (min (1 : Int).toNat u64.bits)))) + x2)) - aa)) y0 y1_0).bind fun bq => (Za.j4 rec y1_0 x1 x2 x3 aa bq)) else (Za.j4 rec y1_0 x1 x2 x3 aa y0)
def Za.l5 : Nat → (Int → Int → Int → List Int → Option Tbs → Option (List Int)) → List Int → Option Tbs → Int → Int → Int → Int → Int → Option (List Int)
  | 0, _, _, _, _, _, _, _, _ => none
  | a0 + 1, rec, y0, y1_0, x1, x2, x3, aa, ag => if aa < ag then (if (0 : Int) ≤ i64.wrap ((i64.wrap ((i64.wrap ((i64.wrap ((u64.wrap (i64.wrap (x1 + x3))).fdiv (2 ^ (min (1 : Int).toNat u64.bits)))) + x2)) - 1)) - (i64.wrap ((u64.wrap (i64.wrap (aa + ag))).fdiv (2 ^ (min (1 : Int).toNat u64.bits))))) ∧ i64.wrap ((i64.wrap ((i64.wrap ((i64.wrap ((u64.wrap (i64.wrap (x1 + x3))).fdiv (2 ^ (min (1 : Int).toNat u64.bits)))) + x2)) - 1)) - (i64.wrap ((u64.wrap (i64.wrap (aa + ag))).fdiv (2 ^ (min (1 : Int).toNat u64.bits))))) < (y0.length : Int) then (if (0 : Int) ≤ i64.wrap ((u64.wrap (i64.wrap (aa + ag))).fdiv (2 ^ (min (1 : Int).toNat u64.bits))) ∧ i64.wrap ((u64.wrap (i64.wrap (aa + ag))).fdiv (2 ^ (min (1 : Int).toNat u64.bits))) < (y0.length : Int) then ((Q6.f (rd y0 (i64.wrap ((i64.wrap ((i64.wrap ((i64.wrap ((u64.wrap (i64.wrap (x1 + x3))).fdiv (2 ^ (min (1 : Int).toNat u64.bits)))) + x2)) - 1)) - (i64.wrap ((u64.wrap (i64.wrap (aa + ag))).fdiv (2 ^ (min (1 : Int).toNat u64.bits))))))) (rd y0 (i64.wrap ((u64.wrap (i64.wrap (aa + ag))).fdiv (2 ^ (min (1 : Int).toNat u64.bits))))) y1_0).bind fun b8 => (if ¬ (b8 < 0) then ((Za.l5 a0 rec y0 y1_0 x1 x2 x3) (i64.wrap ((i64.wrap ((u64.wrap (i64.wrap (aa + ag))).fdiv (2 ^ (min (1 : Int).toNat u64.bits)))) + 1)) ag) else ((Za.l5 a0 rec y0 y1_0 x1 x2 x3) aa (i64.wrap ((u64.wrap (i64.wrap (aa + ag))).fdiv (2 ^ (min (1 : Int).toNat u64.bits))))))) else none) else none) else (if aa < x2 then (Za.j5 rec y0 y1_0 x1 x2 x3 aa (decide (x2 < (i64.wrap ((i64.wrap ((i64.wrap ((u64.wrap (i64.wrap (x1 + x3))).fdiv (2 ^ (min (1 : Int).toNat u64.bits)))) + x2)) - aa))))) else (Za.j5 rec y0 y1_0 x1 x2 x3 aa false))
def Za.j6 (rec : Int → Int → Int → List Int → Option Tbs → Option (List Int)) (y0 : List Int) (y1_0 : Option Tbs) (x1 x2 x3 aw ax : Int) : Option (List Int) := Za.l5 K0 rec y0 y1_0 x1 x2 x3 aw ax
def Za.b (rec : Int → Int → Int → List Int → Option Tbs → Option (List Int)) (x1 x2 x3 : Int) (y0 : List Int) (y1_0 : Option Tbs) : Option (List Int) := if (i64.wrap (x2 - x1)) = 1 then (Za.l2 K0 y0 y1_0 x1 x2 x3) else (if (i64.wrap (x3 - x2)) = 1 then (Za.l4 K0 y0 y1_0 x2 x1 x2) else (if (i64.wrap ((u64.wrap (i64.wrap (x1 + x3))).fdiv (2 ^ (min (1 : Int).toNat u64.bits)))) < x2 then (Za.j6 rec y0 y1_0 x1 x2 x3 (i64.wrap ((i64.wrap ((i64.wrap ((u64.wrap (i64.wrap (x1 + x3))).fdiv (2 ^ (min (1 : Int).toNat u64.bits)))) + x2)) - x3)) (i64.wrap ((u64.wrap (i64.wrap (x1 + x3))).fdiv (2 ^ (min (1 : Int).toNat u64.bits))))) else (Za.j6 rec y0 y1_0 x1 x2 x3 x1 x2)))
def Za.f : Nat → Int → Int → Int → List Int → Option Tbs → Option (List Int)
  | 0, _, _, _, _, _ => none
  | k + 1, x1, x2, x3, y0, y1_0 => Za.b (Za.f k) x1 x2 x3 y0 y1_0
def Za.Spec (rec : Int → Int → Int → List Int → Option Tbs → Option (List Int)) : Prop := ∀ {w0 w : World} {ρ : Hp} {Γ : List Q5} {wr0 wd0 : Value} {d0 : List Value} {wp0 wq0 : List Int} {wm0 : Nat} {y0 : List Int} {pb1 : Nat} {w1_0 : Value} {y1_0 : Option Tbs} (hs : St w0 ρ ((.row wr0 21 ((Rep.int .i32).sz) wm0 d0) :: (.box pb1 29 ([w1_0])) :: Γ) w) {x1 x2 x3 : Int} (g0 : Ha .i32 ρ wr0 d0 wd0 wp0 wq0 y0) (g1_0 : Xs Hm ρ w1_0 y1_0) {r : List Int}, rec x1 x2 x3 y0 y1_0 = some r → Zn Tryz.prog 186 [wd0, .int .i64 x1, .int .i64 x2, .int .i64 x3, .func (.func 166) #[] #[.pointer (some ⟨pb1, 0, none⟩)]] w (fun v w' => ∃ (ρ' : Hp) (ds0 : List Value), v = .tuple #[] ∧ Le ρ ρ' ∧ St w0 ρ' ((.row wr0 21 ((Rep.int .i32).sz) wm0 ds0) :: (.box pb1 29 ([w1_0])) :: Γ) w' ∧ Ha .i32 ρ' wr0 ds0 wd0 wp0 wq0 r)
theorem Za.cb (rec : Int → Int → Int → List Int → Option Tbs → Option (List Int)) (hrec : Za.Spec rec) {w0 w : World} {ρ : Hp} {Γ : List Q5} {wr0 wd0 : Value} {d0 : List Value} {wp0 wq0 : List Int} {wm0 : Nat} {y0 : List Int} {pb1 : Nat} {w1_0 : Value} {y1_0 : Option Tbs} (hs : St w0 ρ ((.row wr0 21 ((Rep.int .i32).sz) wm0 d0) :: (.box pb1 29 ([w1_0])) :: Γ) w) {x1 x2 x3 : Int} (g0 : Ha .i32 ρ wr0 d0 wd0 wp0 wq0 y0) (g1_0 : Xs Hm ρ w1_0 y1_0) {r : List Int} (H : Za.b rec x1 x2 x3 y0 y1_0 = some r) : Zn Tryz.prog 186 [wd0, .int .i64 x1, .int .i64 x2, .int .i64 x3, .func (.func 166) #[] #[.pointer (some ⟨pb1, 0, none⟩)]] w (fun v w' => ∃ (ρ' : Hp) (ds0 : List Value), v = .tuple #[] ∧ Le ρ ρ' ∧ St w0 ρ' ((.row wr0 21 ((Rep.int .i32).sz) wm0 ds0) :: (.box pb1 29 ([w1_0])) :: Γ) w' ∧ Ha .i32 ρ' wr0 ds0 wd0 wp0 wq0 r) := by
 rw [Za.b] at H
 refine Et Tryz.func186 Tryz.ntmps186 rfl <| Zh fun ka gj => Wr fun kb gk => Mv rfl <| Mv rfl <| Osu rfl <| Oeq rfl <| Ox gk <| Y7 rfl (fun dq => ?_) (fun dq => ?_)
 ·rw [if_pos dq] at H
  refine Wr fun kc gl => Mv rfl <| As rfl <| Ox gl <| Wr fun kd gm => Mv rfl <| As rfl <| Ox gm <| Zh fun ke gn => Zj fun kf go kg => Y9 (σ := Nat × Int × Int) (fun (a4, ah, al) => [(0, wd0), (1, .int .i64 x1), (4, .func (.func 166) #[] #[.pointer (some ⟨pb1, 0, none⟩)]), (10, .int .i64 ah), (11, .int .i64 al)]) (fun (a4, ah, al) w => Za.l2 a4 y0 y1_0 x1 ah al = some r ∧ St w0 ρ ((.row wr0 21 ((Rep.int .i32).sz) wm0 d0) :: (.box pb1 29 ([w1_0])) :: Γ) w) (fun s => s.1) (K0, x2, x3) sbn (Ai H hs) ?_
  rintro ⟨a4, ah, al⟩ w kh ⟨H, hs⟩ be
  show W _ _ _ _ _ _ [(0, wd0), (1, .int .i64 x1), (4, .func (.func 166) #[] #[.pointer (some ⟨pb1, 0, none⟩)]), (10, .int .i64 ah), (11, .int .i64 al)] w
  cases a4 with
  | zero => rw [Za.l2] at H; cases H
  | succ a4 =>
  rw [Za.l2] at H
  refine Zh fun ki gp => Wr fun kj gq => Mv rfl <| Mv rfl <| Ols rfl <| Ox gq <| Y7 rfl (fun dr => ?_) (fun dr => ?_)
  rw [if_pos dr] at H
  refine Wx gp <| Zj fun kk kl km => Wr fun kn gr => Mv rfl <| Mv rfl <| Oad rfl <| O_y rfl (V4 un3 Zg2 rfl) <| O_y rfl (Zox rfl rfl (by decide)) <| O_y rfl (V4 Zg2 un3 rfl) <| As rfl <| Ox gr <| W.weak [(0, _), (1, _), (4, _), (10, _), (11, _), (12, _)] sbn ?_
  refine Zh fun ko gs => Qn 11 [0, 0, 0, 6, 8, 0, 0, 96, 128, 273, 512] [1534, 2037, 2035, 2017, 1505, 1887, 1855, 1567, 1055, 0, 0] [0, 0, 0, 6, 14, 0, 0, 96, 224, 511, 1023] [9, 10] (fun w => St w0 ρ ((.row wr0 21 ((Rep.int .i32).sz) wm0 d0) :: (.box pb1 29 ([w1_0])) :: Γ) w) Vl (by kernel_rfl) (fun sh => ?_)
  have hs := hs.drew
  refine Fm 0 sh rfl <| Fm 1 sh rfl <| Fm 2 sh rfl ?_
  obtain ⟨dn, H⟩ := gd H
  obtain ⟨kp, ds, gt⟩ := g0.ix Q7 dn.1 dn.2
  refine Fp 3 sh rfl (fun w => gt rfl rfl) <| Fy 4 sh rfl hs (fun w hs => Ho (j := 0) Xm hs rfl ds g0 dn.1 dn.2 rfl) <| Fm 5 sh rfl <| Fm 6 sh rfl ?_
  obtain ⟨dp, H⟩ := gd H
  obtain ⟨kq, dt, gu⟩ := g0.ix Q7 dp.1 dp.2
  refine Fp 7 sh rfl (fun w => gu rfl rfl) <| Fy 8 sh rfl hs (fun w hs => Ho (j := 0) Xm hs rfl dt g0 dp.1 dp.2 rfl) <| F1 9 sh rfl (fun kr gv => ?_)
  have hs := hs.front 1 rfl
  obtain ⟨gf, du, H⟩ := bnd H
  refine Xo rfl rfl rfl (Q6.c hs g1_0 du) (fun ks w hpost => ?_)
  obtain ⟨rfl, hs⟩ := hpost
  have hs := hs.sink 1
  refine Zd (gv _ _ (fun h _ => absurd h (by decide)) <| Ke sh [] hs (by kernel_rfl) <| Fp 10 sh rfl (fun w => Zax rfl rfl) <| FE sh (gs _ _ <| W.weak [(0, _), (1, _), (4, _), (10, _), (11, _), (12, _), (50, _)] sbn ?_))
  refine Y7 rfl (fun dv => ?_) (fun dv => ?_)
  rw [if_pos dv] at H
  refine Zc <| Mv rfl <| Oad rfl <| As rfl <| Zd (be (a4, (i64.wrap ((i64.wrap ((u64.wrap (i64.wrap (ah + al))).fdiv (2 ^ (min (1 : Int).toNat u64.bits)))) + 1)), al) _ _ sbn (Ai H hs) (Nat.lt_succ_self _))
  rw [if_neg dv] at H
  refine Zc <| Mv rfl <| As rfl <| Zd (be (a4, ah, (i64.wrap ((u64.wrap (i64.wrap (ah + al))).fdiv (2 ^ (min (1 : Int).toNat u64.bits))))) _ _ sbn (Ai H hs) (Nat.lt_succ_self _))
  rw [if_neg dr] at H
  refine Y4 (go _ _ (gn _ _ <| Zh fun kt gw => Wr fun ku gx => Mv rfl <| As rfl <| Ox gx <| Zj fun kv gy gz => Y9 (σ := Nat × List Int × Int × List Value) (fun (a1, ae, ab, ao) => [(0, wd0), (10, .int .i64 ah), (13, .int .i64 ab)]) (fun (a1, ae, ab, ao) w => Za.l1 a1 ah ae ab = some r ∧ St w0 ρ ((.row wr0 21 ((Rep.int .i32).sz) wm0 ao) :: (.box pb1 29 ([w1_0])) :: Γ) w ∧ Ha .i32 ρ wr0 ao wd0 wp0 wq0 ae) (fun s => s.1) (K0, y0, x1, d0) (T3 rfl) (Ai H (Ai hs g0)) ?_))
  rintro ⟨a1, ae, ab, ao⟩ w ha ⟨H, hs, am⟩ bf
  show W _ _ _ _ _ _ [(0, wd0), (10, .int .i64 ah), (13, .int .i64 ab)] w
  cases a1 with
  | zero => rw [Za.l1] at H; cases H
  | succ a1 =>
  rw [Za.l1] at H
  refine Zh fun hb dw => Wr fun hc dx => Mv rfl <| Mv rfl <| Osu rfl <| Ols rfl <| Ox dx <| Y7 rfl (fun br => ?_) (fun br => ?_)
  rw [if_pos br] at H
  refine Wx dw <| Zh fun hd dy => Zj fun he hf hg => Qn 18 [0, 0, 0, 0, 8, 0, 0, 64, 160, 256, 0, 0, 3072, 4096, 9187, 25571, 65535, 131071] [16382, 16381, 65531, 65511, 65511, 16095, 16191, 15935, 15391, 15391, 60415, 59391, 50175, 1023, 28, 0, 0, 0] [0, 0, 0, 0, 8, 0, 0, 64, 224, 480, 0, 0, 3072, 7168, 16355, 32739, 65535, 131071] [15, 16, 17] (fun w => St w0 ρ ((.row wr0 21 ((Rep.int .i32).sz) wm0 ao) :: (.box pb1 29 ([w1_0])) :: Γ) w) Vl (by kernel_rfl) (fun sh => ?_)
  have hs := hs.drew
  refine Fm 0 sh rfl <| Fm 1 sh rfl <| Fm 2 sh rfl <| Fm 3 sh rfl <| Fp 4 sh rfl (fun w => Hy rfl rfl) <| Fm 5 sh rfl <| Fm 6 sh rfl <| Fp 7 sh rfl (fun w => Hy rfl rfl) ?_
  obtain ⟨bg, H⟩ := gd H
  obtain ⟨hh, b9, dz⟩ := am.ix Q7 bg.1 bg.2
  refine Fp 8 sh rfl (fun w => dz rfl rfl) <| Fy 9 sh rfl hs (fun w hs => Ho (j := 0) Xm hs rfl b9 am bg.1 bg.2 rfl) <| Fm 10 sh rfl <| Fm 11 sh rfl ?_
  obtain ⟨a8, H⟩ := gd H
  obtain ⟨hi, ca, ea⟩ := am.ix Q7 a8.1 a8.2
  refine Fp 12 sh rfl (fun w => ea rfl rfl) <| Fy 13 sh rfl hs (fun w hs => Ho (j := 0) Xm hs rfl ca am a8.1 a8.2 rfl) ?_
  obtain ⟨hj, cc, eb⟩ := am.ix Q7 a8.1 a8.2
  refine Fp 14 sh rfl (fun w => eb rfl rfl) <| F1 15 sh rfl (fun hk ec => Zcb (j := 0) Zf0 hs rfl cc am a8.1 a8.2 rfl rfl (fun gg w cd hs => Zd (ec _ _ (fun h _ => absurd h (by decide)) <| Ke sh [17] hs (by kernel_rfl) ?_)))
  obtain ⟨bh, H⟩ := gd H
  obtain ⟨hl, ce, ed⟩ := cd.ix Q7 bh.1 bh.2
  refine Fp 16 sh rfl (fun w => ed rfl rfl) <| F1 17 sh rfl (fun hm ee => Zcb (j := 0) Zf0 hs rfl ce cd bh.1 bh.2 rfl rfl (fun cf w ef hs => Zd (ee _ _ (fun h _ => absurd h (by decide)) <| FE sh (dy _ _ <| W.weak [(0, _), (10, _), (13, _)] (T3 rfl) <| Zc <| Mv rfl <| Oad rfl <| As rfl <| Zd (bf (a1, ((ae.set ab.toNat (rd ae (i64.wrap (ab + 1)))).set (i64.wrap (ab + 1)).toNat (rd ae ab)), (i64.wrap (ab + 1)), cf) _ _ (T3 rfl) (Ai H (Ai hs ef)) (Nat.lt_succ_self _))))))
  rw [if_neg br] at H
  refine Y4 (gy _ _ (gw _ _ <| Zk ?_))
  obtain rfl := Zz H
  exact Zgj rfl ⟨_, _, rfl, Le.rfl' _, hs, am⟩
 rw [if_neg dq] at H
 refine Wx gj <| Zh fun hn eg => Wr fun ho eh => Mv rfl <| Mv rfl <| Osu rfl <| Oeq rfl <| Ox eh <| Y7 rfl (fun bs => ?_) (fun bs => ?_)
 ·rw [if_pos bs] at H
  refine Wr fun hp ei => Mv rfl <| As rfl <| Ox ei <| W.weak [(0, _), (2, _), (4, _), (14, _)] (T4 rfl) <| Wr fun hq ej => Mv rfl <| As rfl <| Ox ej <| Zh fun hr ek => Zj fun ht el hu => Y9 (σ := Nat × Int × Int) (fun (az, ad, ai) => [(0, wd0), (2, .int .i64 x2), (4, .func (.func 166) #[] #[.pointer (some ⟨pb1, 0, none⟩)]), (14, .int .i64 ad), (15, .int .i64 ai)]) (fun (az, ad, ai) w => Za.l4 az y0 y1_0 x2 ad ai = some r ∧ St w0 ρ ((.row wr0 21 ((Rep.int .i32).sz) wm0 d0) :: (.box pb1 29 ([w1_0])) :: Γ) w) (fun s => s.1) (K0, x1, x2) sbn (Ai H hs) ?_
  rintro ⟨az, ad, ai⟩ w hv ⟨H, hs⟩ bc
  show W _ _ _ _ _ _ [(0, wd0), (2, .int .i64 x2), (4, .func (.func 166) #[] #[.pointer (some ⟨pb1, 0, none⟩)]), (14, .int .i64 ad), (15, .int .i64 ai)] w
  cases az with
  | zero => rw [Za.l4] at H; cases H
  | succ az =>
  rw [Za.l4] at H
  refine Zh fun hw em => Wr fun hx en => Mv rfl <| Mv rfl <| Ols rfl <| Ox en <| Y7 rfl (fun bt => ?_) (fun bt => ?_)
  rw [if_pos bt] at H
  refine Wx em <| Zj fun hy hz ia => Wr fun ib eo => Mv rfl <| Mv rfl <| Oad rfl <| O_y rfl (V4 un3 Zg2 rfl) <| O_y rfl (Zox rfl rfl (by decide)) <| O_y rfl (V4 Zg2 un3 rfl) <| As rfl <| Ox eo <| W.weak [(0, _), (2, _), (4, _), (14, _), (15, _), (16, _)] sbn ?_
  refine Zh fun ic ep => Qn 12 [0, 0, 0, 6, 8, 0, 0, 96, 128, 273, 512, 1024] [3582, 4085, 4083, 4065, 3553, 3935, 3903, 3615, 3103, 2048, 0, 0] [0, 0, 0, 6, 14, 0, 0, 96, 224, 511, 1023, 2047] [9, 10, 11] (fun w => St w0 ρ ((.row wr0 21 ((Rep.int .i32).sz) wm0 d0) :: (.box pb1 29 ([w1_0])) :: Γ) w) Vl (by kernel_rfl) (fun sh => ?_)
  have hs := hs.drew
  refine Fm 0 sh rfl <| Fm 1 sh rfl <| Fm 2 sh rfl ?_
  obtain ⟨bi, H⟩ := gd H
  obtain ⟨id, cg, eq⟩ := g0.ix Q7 bi.1 bi.2
  refine Fp 3 sh rfl (fun w => eq rfl rfl) <| Fy 4 sh rfl hs (fun w hs => Ho (j := 0) Xm hs rfl cg g0 bi.1 bi.2 rfl) <| Fm 5 sh rfl <| Fm 6 sh rfl ?_
  obtain ⟨bj, H⟩ := gd H
  obtain ⟨ie, ch, er⟩ := g0.ix Q7 bj.1 bj.2
  refine Fp 7 sh rfl (fun w => er rfl rfl) <| Fy 8 sh rfl hs (fun w hs => Ho (j := 0) Xm hs rfl ch g0 bj.1 bj.2 rfl) <| F1 9 sh rfl (fun ig es => ?_)
  have hs := hs.front 1 rfl
  obtain ⟨b6, ci, H⟩ := bnd H
  refine Xo rfl rfl rfl (Q6.c hs g1_0 ci) (fun ii w hpost => ?_)
  obtain ⟨rfl, hs⟩ := hpost
  have hs := hs.sink 1
  refine Zd (es _ _ (fun h _ => absurd h (by decide)) <| Ke sh [] hs (by kernel_rfl) <| Fp 10 sh rfl (fun w => Zax rfl rfl) <| Fp 11 sh rfl (fun w => Zk5 rfl) <| FE sh (ep _ _ <| W.weak [(0, _), (2, _), (4, _), (14, _), (15, _), (16, _), (103, _)] sbn ?_))
  refine Y7 rfl (fun bu => ?_) (fun bu => ?_)
  rw [if_pos bu] at H
  refine Zc <| Mv rfl <| Oad rfl <| As rfl <| Zd (bc (az, (i64.wrap ((i64.wrap ((u64.wrap (i64.wrap (ad + ai))).fdiv (2 ^ (min (1 : Int).toNat u64.bits)))) + 1)), ai) _ _ sbn (Ai H hs) (Nat.lt_succ_self _))
  rw [if_neg bu] at H
  refine Zc <| Mv rfl <| As rfl <| Zd (bc (az, ad, (i64.wrap ((u64.wrap (i64.wrap (ad + ai))).fdiv (2 ^ (min (1 : Int).toNat u64.bits))))) _ _ sbn (Ai H hs) (Nat.lt_succ_self _))
  rw [if_neg bt] at H
  refine Y4 (el _ _ (ek _ _ <| Zh fun ij et => Wr fun ik eu => Mv rfl <| As rfl <| Ox eu <| Zj fun il ev im => Y9 (σ := Nat × List Int × Int × List Value) (fun (a2, af, ac, ap) => [(0, wd0), (14, .int .i64 ad), (17, .int .i64 ac)]) (fun (a2, af, ac, ap) w => Za.l3 a2 ad af ac = some r ∧ St w0 ρ ((.row wr0 21 ((Rep.int .i32).sz) wm0 ap) :: (.box pb1 29 ([w1_0])) :: Γ) w ∧ Ha .i32 ρ wr0 ap wd0 wp0 wq0 af) (fun s => s.1) (K0, y0, x2, d0) (T3 rfl) (Ai H (Ai hs g0)) ?_))
  rintro ⟨a2, af, ac, ap⟩ w io ⟨H, hs, an⟩ bk
  show W _ _ _ _ _ _ [(0, wd0), (14, .int .i64 ad), (17, .int .i64 ac)] w
  cases a2 with
  | zero => rw [Za.l3] at H; cases H
  | succ a2 =>
  rw [Za.l3] at H
  refine Zh fun ip ew => Wr fun iq ex => Mv rfl <| Mv rfl <| Ogt rfl <| Ox ex <| Y7 rfl (fun bv => ?_) (fun bv => ?_)
  rw [if_pos bv] at H
  refine Wx ew <| Zh fun ir ey => Zj fun it iu iv => Qn 18 [0, 0, 0, 0, 8, 0, 0, 64, 160, 256, 0, 0, 3072, 4096, 9187, 25571, 65535, 131071] [16382, 16381, 65531, 65511, 65511, 16095, 16191, 15935, 15391, 15391, 60415, 59391, 50175, 1023, 28, 0, 0, 0] [0, 0, 0, 0, 8, 0, 0, 64, 224, 480, 0, 0, 3072, 7168, 16355, 32739, 65535, 131071] [15, 16, 17] (fun w => St w0 ρ ((.row wr0 21 ((Rep.int .i32).sz) wm0 ap) :: (.box pb1 29 ([w1_0])) :: Γ) w) Vl (by kernel_rfl) (fun sh => ?_)
  have hs := hs.drew
  refine Fm 0 sh rfl <| Fm 1 sh rfl <| Fm 2 sh rfl <| Fm 3 sh rfl <| Fp 4 sh rfl (fun w => Zc2 rfl rfl) <| Fm 5 sh rfl <| Fm 6 sh rfl <| Fp 7 sh rfl (fun w => Zc2 rfl rfl) ?_
  obtain ⟨bl, H⟩ := gd H
  obtain ⟨iw, cj, ez⟩ := an.ix Q7 bl.1 bl.2
  refine Fp 8 sh rfl (fun w => ez rfl rfl) <| Fy 9 sh rfl hs (fun w hs => Ho (j := 0) Xm hs rfl cj an bl.1 bl.2 rfl) <| Fm 10 sh rfl <| Fm 11 sh rfl ?_
  obtain ⟨a9, H⟩ := gd H
  obtain ⟨iy, ck, e0⟩ := an.ix Q7 a9.1 a9.2
  refine Fp 12 sh rfl (fun w => e0 rfl rfl) <| Fy 13 sh rfl hs (fun w hs => Ho (j := 0) Xm hs rfl ck an a9.1 a9.2 rfl) ?_
  obtain ⟨iz, cl, e1⟩ := an.ix Q7 a9.1 a9.2
  refine Fp 14 sh rfl (fun w => e1 rfl rfl) <| F1 15 sh rfl (fun ja e2 => Zcb (j := 0) Zf0 hs rfl cl an a9.1 a9.2 rfl rfl (fun gh w cm hs => Zd (e2 _ _ (fun h _ => absurd h (by decide)) <| Ke sh [17] hs (by kernel_rfl) ?_)))
  obtain ⟨bm, H⟩ := gd H
  obtain ⟨jb, cn, e3⟩ := cm.ix Q7 bm.1 bm.2
  refine Fp 16 sh rfl (fun w => e3 rfl rfl) <| F1 17 sh rfl (fun jc e4 => Zcb (j := 0) Zf0 hs rfl cn cm bm.1 bm.2 rfl rfl (fun co w e5 hs => Zd (e4 _ _ (fun h _ => absurd h (by decide)) <| FE sh (ey _ _ <| W.weak [(0, _), (14, _), (17, _)] (T3 rfl) <| Zc <| Mv rfl <| Osu rfl <| As rfl <| Zd (bk (a2, ((af.set ac.toNat (rd af (i64.wrap (ac - 1)))).set (i64.wrap (ac - 1)).toNat (rd af ac)), (i64.wrap (ac - 1)), co) _ _ (T3 rfl) (Ai H (Ai hs e5)) (Nat.lt_succ_self _))))))
  rw [if_neg bv] at H
  refine Y4 (ev _ _ (et _ _ <| Zk ?_))
  obtain rfl := Zz H
  exact Zgj rfl ⟨_, _, rfl, Le.rfl' _, hs, an⟩
 rw [if_neg bs] at H
 refine Wx eg <| Wr fun jd e6 => Mv rfl <| Mv rfl <| Oad rfl <| O_y rfl (V4 un3 Zg2 rfl) <| O_y rfl (Zox rfl rfl (by decide)) <| O_y rfl (V4 Zg2 un3 rfl) <| As rfl <| Ox e6 <| W.weak [(0, _), (1, _), (2, _), (3, _), (4, _), (18, _)] sbn ?_
 refine Wr fun je e7 => Mv rfl <| Mv rfl <| Oad rfl <| As rfl <| Ox e7 <| Wr fun jf e8 => As rfl <| As rfl <| Ox e8 <| Yu fun e9 fa cp => ?_
 have cq : ∀ (aw ax : Int) (w : World), Za.j6 rec y0 y1_0 x1 x2 x3 aw ax = some r → St w0 ρ ((.row wr0 21 ((Rep.int .i32).sz) wm0 d0) :: (.box pb1 29 ([w1_0])) :: Γ) w → e9 [(0, wd0), (1, .int .i64 x1), (2, .int .i64 x2), (3, .int .i64 x3), (4, .func (.func 166) #[] #[.pointer (some ⟨pb1, 0, none⟩)]), (18, .int .i64 (i64.wrap ((u64.wrap (i64.wrap (x1 + x3))).fdiv (2 ^ (min (1 : Int).toNat u64.bits))))), (19, .int .i64 (i64.wrap ((i64.wrap ((u64.wrap (i64.wrap (x1 + x3))).fdiv (2 ^ (min (1 : Int).toNat u64.bits)))) + x2))), (20, .int .i64 aw), (21, .int .i64 ax)] w := by
  intro aw ax w H hs
  rw [Za.j6] at H
  refine fa _ _ <| Wr fun jg fb => Mv rfl <| Osu rfl <| As rfl <| Ox fb <| Zh fun jh fc => Zj fun ji fd jj => Y9 (σ := Nat × Int × Int) (fun (a0, aa, ag) => [(0, wd0), (1, .int .i64 x1), (2, .int .i64 x2), (3, .int .i64 x3), (4, .func (.func 166) #[] #[.pointer (some ⟨pb1, 0, none⟩)]), (18, .int .i64 (i64.wrap ((u64.wrap (i64.wrap (x1 + x3))).fdiv (2 ^ (min (1 : Int).toNat u64.bits))))), (19, .int .i64 (i64.wrap ((i64.wrap ((u64.wrap (i64.wrap (x1 + x3))).fdiv (2 ^ (min (1 : Int).toNat u64.bits)))) + x2))), (20, .int .i64 aa), (21, .int .i64 ag), (22, .int .i64 (i64.wrap ((i64.wrap ((i64.wrap ((u64.wrap (i64.wrap (x1 + x3))).fdiv (2 ^ (min (1 : Int).toNat u64.bits)))) + x2)) - 1)))]) (fun (a0, aa, ag) w => Za.l5 a0 rec y0 y1_0 x1 x2 x3 aa ag = some r ∧ St w0 ρ ((.row wr0 21 ((Rep.int .i32).sz) wm0 d0) :: (.box pb1 29 ([w1_0])) :: Γ) w) (fun s => s.1) (K0, aw, ax) sbn (Ai H hs) ?_
  rintro ⟨a0, aa, ag⟩ w jk ⟨H, hs⟩ bd
  show W _ _ _ _ _ _ [(0, wd0), (1, .int .i64 x1), (2, .int .i64 x2), (3, .int .i64 x3), (4, .func (.func 166) #[] #[.pointer (some ⟨pb1, 0, none⟩)]), (18, .int .i64 (i64.wrap ((u64.wrap (i64.wrap (x1 + x3))).fdiv (2 ^ (min (1 : Int).toNat u64.bits))))), (19, .int .i64 (i64.wrap ((i64.wrap ((u64.wrap (i64.wrap (x1 + x3))).fdiv (2 ^ (min (1 : Int).toNat u64.bits)))) + x2))), (20, .int .i64 aa), (21, .int .i64 ag), (22, .int .i64 (i64.wrap ((i64.wrap ((i64.wrap ((u64.wrap (i64.wrap (x1 + x3))).fdiv (2 ^ (min (1 : Int).toNat u64.bits)))) + x2)) - 1)))] w
  cases a0 with
  | zero => rw [Za.l5] at H; cases H
  | succ a0 =>
  rw [Za.l5] at H
  refine Zh fun jl fe => Wr fun jm ff => Mv rfl <| Mv rfl <| Ols rfl <| Ox ff <| Y7 rfl (fun bw => ?_) (fun bw => ?_)
  rw [if_pos bw] at H
  refine Wx fe <| Zj fun jn jo jp => Wr fun jq fg => Mv rfl <| Mv rfl <| Oad rfl <| O_y rfl (V4 un3 Zg2 rfl) <| O_y rfl (Zox rfl rfl (by decide)) <| O_y rfl (V4 Zg2 un3 rfl) <| As rfl <| Ox fg <| W.weak [(0, _), (1, _), (2, _), (3, _), (4, _), (18, _), (19, _), (20, _), (21, _), (22, _), (23, _)] sbn ?_
  refine Zh fun jr fh => Qn 14 [0, 0, 0, 0, 12, 18, 32, 0, 0, 384, 512, 1089, 2048, 4096] [14334, 16349, 16363, 16359, 16323, 16257, 14209, 15743, 15615, 14463, 12415, 8192, 0, 0] [0, 0, 0, 0, 12, 30, 62, 0, 0, 384, 896, 2047, 4095, 8191] [11, 12, 13] (fun w => St w0 ρ ((.row wr0 21 ((Rep.int .i32).sz) wm0 d0) :: (.box pb1 29 ([w1_0])) :: Γ) w) Vl (by kernel_rfl) (fun sh => ?_)
  have hs := hs.drew
  refine Fm 0 sh rfl <| Fm 1 sh rfl <| Fm 2 sh rfl <| Fm 3 sh rfl <| Fp 4 sh rfl (fun w => Zc2 rfl rfl) ?_
  obtain ⟨bn, H⟩ := gd H
  obtain ⟨js, cr, fi⟩ := g0.ix Q7 bn.1 bn.2
  refine Fp 5 sh rfl (fun w => fi rfl rfl) <| Fy 6 sh rfl hs (fun w hs => Ho (j := 0) Xm hs rfl cr g0 bn.1 bn.2 rfl) <| Fm 7 sh rfl <| Fm 8 sh rfl ?_
  obtain ⟨bo, H⟩ := gd H
  obtain ⟨jt, cs, fj⟩ := g0.ix Q7 bo.1 bo.2
  refine Fp 9 sh rfl (fun w => fj rfl rfl) <| Fy 10 sh rfl hs (fun w hs => Ho (j := 0) Xm hs rfl cs g0 bo.1 bo.2 rfl) <| F1 11 sh rfl (fun ju fk => ?_)
  have hs := hs.front 1 rfl
  obtain ⟨b8, ct, H⟩ := bnd H
  refine Xo rfl rfl rfl (Q6.c hs g1_0 ct) (fun jv w hpost => ?_)
  obtain ⟨rfl, hs⟩ := hpost
  have hs := hs.sink 1
  refine Zd (fk _ _ (fun h _ => absurd h (by decide)) <| Ke sh [] hs (by kernel_rfl) <| Fp 12 sh rfl (fun w => Zax rfl rfl) <| Fp 13 sh rfl (fun w => Zk5 rfl) <| FE sh (fh _ _ <| W.weak [(0, _), (1, _), (2, _), (3, _), (4, _), (18, _), (19, _), (20, _), (21, _), (22, _), (23, _), (171, _)] sbn ?_))
  refine Y7 rfl (fun bx => ?_) (fun bx => ?_)
  rw [if_pos bx] at H
  refine Zc <| Mv rfl <| Oad rfl <| As rfl <| Zd (bd (a0, (i64.wrap ((i64.wrap ((u64.wrap (i64.wrap (aa + ag))).fdiv (2 ^ (min (1 : Int).toNat u64.bits)))) + 1)), ag) _ _ sbn (Ai H hs) (Nat.lt_succ_self _))
  rw [if_neg bx] at H
  refine Zc <| Mv rfl <| As rfl <| Zd (bd (a0, aa, (i64.wrap ((u64.wrap (i64.wrap (aa + ag))).fdiv (2 ^ (min (1 : Int).toNat u64.bits))))) _ _ sbn (Ai H hs) (Nat.lt_succ_self _))
  rw [if_neg bw] at H
  refine Y4 (fd _ _ (fc _ _ <| Wr fun jw fl => Mv rfl <| Mv rfl <| Osu rfl <| As rfl <| Ox fl <| W.weak [(0, _), (1, _), (2, _), (3, _), (4, _), (18, _), (20, _), (24, _)] sbn ?_))
  refine Yu fun fm fn cu => ?_
  have cv : ∀ (aj : List Int) (aq : List Value) (a3 : Hp) (w : World), Za.j4 rec y1_0 x1 x2 x3 aa aj = some r → Le ρ a3 → St w0 a3 ((.row wr0 21 ((Rep.int .i32).sz) wm0 aq) :: (.box pb1 29 ([w1_0])) :: Γ) w → Ha .i32 a3 wr0 aq wd0 wp0 wq0 aj → fm [(0, wd0), (1, .int .i64 x1), (3, .int .i64 x3), (4, .func (.func 166) #[] #[.pointer (some ⟨pb1, 0, none⟩)]), (18, .int .i64 (i64.wrap ((u64.wrap (i64.wrap (x1 + x3))).fdiv (2 ^ (min (1 : Int).toNat u64.bits))))), (20, .int .i64 aa), (24, .int .i64 (i64.wrap ((i64.wrap ((i64.wrap ((u64.wrap (i64.wrap (x1 + x3))).fdiv (2 ^ (min (1 : Int).toNat u64.bits)))) + x2)) - aa)))] w := by
   intro aj aq a3 w H a7 hs a5
   rw [Za.j4] at H
   refine fn _ _ <| Yu fun fo fp cw => ?_
   have cx : ∀ (ak : List Int) (ay : List Value) (ba : Hp) (w : World), Za.j2 rec y1_0 x1 x2 x3 aa ak = some r → Le a3 ba → St w0 ba ((.row wr0 21 ((Rep.int .i32).sz) wm0 ay) :: (.box pb1 29 ([w1_0])) :: Γ) w → Ha .i32 ba wr0 ay wd0 wp0 wq0 ak → fo [(0, wd0), (3, .int .i64 x3), (4, .func (.func 166) #[] #[.pointer (some ⟨pb1, 0, none⟩)]), (18, .int .i64 (i64.wrap ((u64.wrap (i64.wrap (x1 + x3))).fdiv (2 ^ (min (1 : Int).toNat u64.bits))))), (24, .int .i64 (i64.wrap ((i64.wrap ((i64.wrap ((u64.wrap (i64.wrap (x1 + x3))).fdiv (2 ^ (min (1 : Int).toNat u64.bits)))) + x2)) - aa)))] w := by
    intro ak ay ba w H bb hs a6
    rw [Za.j2] at H
    refine fp _ _ <| Yu fun fq fr cy => ?_
    have cz : ∀ (ar : Bool) (w : World), Za.j1 rec y1_0 x1 x2 x3 aa ak ar = some r → St w0 ba ((.row wr0 21 ((Rep.int .i32).sz) wm0 ay) :: (.box pb1 29 ([w1_0])) :: Γ) w → fq [(0, wd0), (3, .int .i64 x3), (4, .func (.func 166) #[] #[.pointer (some ⟨pb1, 0, none⟩)]), (18, .int .i64 (i64.wrap ((u64.wrap (i64.wrap (x1 + x3))).fdiv (2 ^ (min (1 : Int).toNat u64.bits))))), (24, .int .i64 (i64.wrap ((i64.wrap ((i64.wrap ((u64.wrap (i64.wrap (x1 + x3))).fdiv (2 ^ (min (1 : Int).toNat u64.bits)))) + x2)) - aa))), (213, .bool ar)] w := by
     intro ar w H hs
     rw [Za.j1] at H
     refine fr _ _ <| Xg rfl (fun bz => ?_) (fun bz => ?_)
     rw [if_pos bz] at H
     refine Zc <| Mv rfl <| Mv rfl <| Mv rfl <| Mv rfl <| Mv rfl ?_
     have hs := hs.front 1 rfl
     have hs := hs.front 1 rfl
     obtain ⟨b7, da, H⟩ := bnd H
     refine Oc rfl (hrec hs a6 (g1_0.mono (a7.trans bb)) da) (fun jx w hpost => ?_)
     obtain ⟨jy, gi, rfl, db, hs, fs⟩ := hpost
     have hs := hs.sink 1
     have hs := hs.sink 1
     refine Zd ?_
     obtain rfl := Zz H
     exact Zgj rfl ⟨_, _, rfl, ((a7.trans bb).trans db), hs, fs⟩
     rw [if_neg (bft bz)] at H
     refine Ua ?_
     obtain rfl := Zz H
     exact Zgj rfl ⟨_, _, rfl, (a7.trans bb), hs, a6⟩
    refine Zc <| Mv rfl <| Mv rfl <| Ols rfl <| Mv rfl <| X6 (dj := 209) rfl (fun b0 => ?_) (fun b0 => ?_)
    rw [if_pos b0] at H
    refine Oe rfl <| Mv rfl <| Oe rfl <| Mv rfl <| Oe rfl <| Ols rfl <| Opk rfl <| Zd (cy _ _ _ sbn (cz (decide ((i64.wrap ((i64.wrap ((i64.wrap ((u64.wrap (i64.wrap (x1 + x3))).fdiv (2 ^ (min (1 : Int).toNat u64.bits)))) + x2)) - aa)) < x3)) _ H hs))
    rw [if_neg b0] at H
    refine On rfl <| On rfl <| On rfl <| Opk rfl <| Zd (cy _ _ _ sbn (cz false _ H hs))
   refine Yu fun ft fu dc => ?_
   have dd : ∀ (au : Bool) (w : World), Za.j3 rec y1_0 x1 x2 x3 aa aj au = some r → St w0 a3 ((.row wr0 21 ((Rep.int .i32).sz) wm0 aq) :: (.box pb1 29 ([w1_0])) :: Γ) w → ft [(0, wd0), (1, .int .i64 x1), (3, .int .i64 x3), (4, .func (.func 166) #[] #[.pointer (some ⟨pb1, 0, none⟩)]), (18, .int .i64 (i64.wrap ((u64.wrap (i64.wrap (x1 + x3))).fdiv (2 ^ (min (1 : Int).toNat u64.bits))))), (20, .int .i64 aa), (24, .int .i64 (i64.wrap ((i64.wrap ((i64.wrap ((u64.wrap (i64.wrap (x1 + x3))).fdiv (2 ^ (min (1 : Int).toNat u64.bits)))) + x2)) - aa))), (199, .bool au)] w := by
    intro au w H hs
    rw [Za.j3] at H
    refine fu _ _ <| Xg rfl (fun b1 => ?_) (fun b1 => ?_)
    rw [if_pos b1] at H
    refine Zc <| Mv rfl <| Mv rfl <| Mv rfl <| Mv rfl <| Mv rfl ?_
    have hs := hs.front 1 rfl
    have hs := hs.front 1 rfl
    obtain ⟨bp, de, H⟩ := bnd H
    refine Oc rfl (hrec hs a5 (g1_0.mono a7) de) (fun jz w hpost => ?_)
    obtain ⟨fv, df, rfl, dg, hs, fw⟩ := hpost
    have hs := hs.sink 1
    have hs := hs.sink 1
    exact Zd (cw _ _ _ sbn (cx bp df fv _ H dg hs fw))
    rw [if_neg (bft b1)] at H
    exact Ua (cw _ _ _ sbn (cx aj aq a3 _ H (Le.rfl' _) hs a5))
   refine Zc <| Mv rfl <| Mv rfl <| Ols rfl <| Mv rfl <| X6 (dj := 195) rfl (fun b2 => ?_) (fun b2 => ?_)
   rw [if_pos b2] at H
   refine Oe rfl <| Mv rfl <| Oe rfl <| Mv rfl <| Oe rfl <| Ols rfl <| Opk rfl <| Zd (dc _ _ _ sbn (dd (decide (aa < (i64.wrap ((u64.wrap (i64.wrap (x1 + x3))).fdiv (2 ^ (min (1 : Int).toNat u64.bits)))))) _ H hs))
   rw [if_neg b2] at H
   refine On rfl <| On rfl <| On rfl <| Opk rfl <| Zd (dc _ _ _ sbn (dd false _ H hs))
  refine Yu fun fx fy dh => ?_
  have di : ∀ (av : Bool) (w : World), Za.j5 rec y0 y1_0 x1 x2 x3 aa av = some r → St w0 ρ ((.row wr0 21 ((Rep.int .i32).sz) wm0 d0) :: (.box pb1 29 ([w1_0])) :: Γ) w → fx [(0, wd0), (1, .int .i64 x1), (2, .int .i64 x2), (3, .int .i64 x3), (4, .func (.func 166) #[] #[.pointer (some ⟨pb1, 0, none⟩)]), (18, .int .i64 (i64.wrap ((u64.wrap (i64.wrap (x1 + x3))).fdiv (2 ^ (min (1 : Int).toNat u64.bits))))), (20, .int .i64 aa), (24, .int .i64 (i64.wrap ((i64.wrap ((i64.wrap ((u64.wrap (i64.wrap (x1 + x3))).fdiv (2 ^ (min (1 : Int).toNat u64.bits)))) + x2)) - aa))), (185, .bool av)] w := by
   intro av w H hs
   rw [Za.j5] at H
   refine fy _ _ <| Xg rfl (fun b3 => ?_) (fun b3 => ?_)
   rw [if_pos b3] at H
   refine Zc <| Mv rfl <| Mv rfl <| Mv rfl <| Mv rfl <| Mv rfl ?_
   have hs := hs.front 1 rfl
   have hs := hs.front 1 rfl
   obtain ⟨bq, dk, H⟩ := bnd H
   refine Oc rfl (Yd.c hs g0 g1_0 dk) (fun j0 w hpost => ?_)
   obtain ⟨fz, dl, rfl, dm, hs, ga⟩ := hpost
   have hs := hs.sink 1
   have hs := hs.sink 1
   exact Zd (cu _ _ _ sbn (cv bq dl fz _ H dm hs ga))
   rw [if_neg (bft b3)] at H
   exact Ua (cu _ _ _ sbn (cv y0 d0 ρ _ H (Le.rfl' _) hs g0))
  refine Zc <| Mv rfl <| Mv rfl <| Ols rfl <| Mv rfl <| X6 (dj := 181) rfl (fun b4 => ?_) (fun b4 => ?_)
  rw [if_pos b4] at H
  refine Oe rfl <| Mv rfl <| Oe rfl <| Mv rfl <| Oe rfl <| Ols rfl <| Opk rfl <| Zd (dh _ _ _ sbn (di (decide (x2 < (i64.wrap ((i64.wrap ((i64.wrap ((u64.wrap (i64.wrap (x1 + x3))).fdiv (2 ^ (min (1 : Int).toNat u64.bits)))) + x2)) - aa)))) _ H hs))
  rw [if_neg b4] at H
  refine On rfl <| On rfl <| On rfl <| Opk rfl <| Zd (dh _ _ _ sbn (di false _ H hs))
 refine Wr fun j7 gb => Mv rfl <| Mv rfl <| Ogt rfl <| Ox gb <| W.weak [(0, _), (1, _), (2, _), (3, _), (4, _), (18, _), (19, _), (140, _)] sbn ?_
 refine Y7 rfl (fun b5 => ?_) (fun b5 => ?_)
 rw [if_pos b5] at H
 refine Wr fun j8 gc => Mv rfl <| Mv rfl <| Osu rfl <| As rfl <| Ox gc <| Zc <| Mv rfl <| As rfl <| Zd (cp _ _ _ sbn (cq (i64.wrap ((i64.wrap ((i64.wrap ((u64.wrap (i64.wrap (x1 + x3))).fdiv (2 ^ (min (1 : Int).toNat u64.bits)))) + x2)) - x3)) (i64.wrap ((u64.wrap (i64.wrap (x1 + x3))).fdiv (2 ^ (min (1 : Int).toNat u64.bits)))) _ H hs))
 rw [if_neg b5] at H
 refine Wr fun j9 ge => Mv rfl <| As rfl <| Ox ge <| Zc <| Mv rfl <| As rfl <| Zd (cp _ _ _ sbn (cq x1 x2 _ H hs))
theorem Za.c (k : Nat) : Za.Spec (Za.f k) := by
 induction k with
 | zero => intro w0 w ρ Γ wr0 wd0 d0 wp0 wq0 wm0 y0 pb1 w1_0 y1_0 hs x1 x2 x3 g0 g1_0 r H; exact nomatch (show (none : Option _) = some _ from H)
 | succ k ih => intro w0 w ρ Γ wr0 wd0 d0 wp0 wq0 wm0 y0 pb1 w1_0 y1_0 hs x1 x2 x3 g0 g1_0 r H; exact Za.cb (Za.f k) ih hs g0 g1_0 H

def Zg.j1 (ap : List Int → Int → Option (List Int)) (aa : Int) (ae : List Int) : Option (List Int) := ap ae (i64.wrap (aa * 2))
def Zg.l1 (ap : List Int → Int → Option (List Int)) : Nat → Option Tbs → Int → Int → List Int → Int → Int → Option (List Int)
  | 0, _, _, _, _, _, _ => none
  | an + 1, y1_0, x1, aa, ab, af, ad => if ad ≤ x1 then ((Za.f K0 af (i64.wrap (af + aa)) ad ab y1_0).bind fun a5 => ((Zg.l1 ap an y1_0 x1 aa) a5 ad (i64.wrap (ad + (i64.wrap (2 * aa)))))) else (if (i64.wrap (af + aa)) < x1 then ((Za.f K0 af (i64.wrap (af + aa)) x1 ab y1_0).bind fun a6 => (Zg.j1 ap aa a6)) else (Zg.j1 ap aa ab))
def Zg.l2 : Nat → Option Tbs → Int → List Int → Int → Option (List Int)
  | 0, _, _, _, _ => none
  | ar + 1, y1_0, x1, ac, aa => if aa < x1 then (Zg.l1 (Zg.l2 ar y1_0 x1) K0 y1_0 x1 aa ac 0 (i64.wrap (2 * aa))) else (some ac)
def Zg.l3 : Nat → Option Tbs → Int → List Int → Int → Int → Option (List Int)
  | 0, _, _, _, _, _ => none
  | aw + 1, y1_0, x1, ag, ao, ai => if ai ≤ x1 then ((Zf.f ao ai ag y1_0).bind fun bm => ((Zg.l3 aw y1_0 x1) bm ai (i64.wrap (ai + 20)))) else ((Zf.f ao x1 ag y1_0).bind fun bn => (Zg.l2 K0 y1_0 x1 bn 20))
def Zg.f (x1 : Int) (y0 : List Int) (y1_0 : Option Tbs) : Option (List Int) := Zg.l3 K0 y1_0 x1 y0 0 20
theorem Zg.c {wr0 wd0 : Value} {d0 : List Value} {wp0 wq0 : List Int} {wm0 : Nat} {y0 : List Int} {pb1 : Nat} {w1_0 : Value} {y1_0 : Option Tbs} (hs : St w0 ρ ((.row wr0 21 ((Rep.int .i32).sz) wm0 d0) :: (.box pb1 29 ([w1_0])) :: Γ) w) {x1 : Int} (g0 : Ha .i32 ρ wr0 d0 wd0 wp0 wq0 y0) (g1_0 : Xs Hm ρ w1_0 y1_0) {r : List Int} (H : Zg.f x1 y0 y1_0 = some r) : Zn Tryz.prog 178 [wd0, .int .i64 x1, .func (.func 166) #[] #[.pointer (some ⟨pb1, 0, none⟩)]] w (fun v w' => ∃ (ρ' : Hp) (ds0 : List Value), v = .tuple #[] ∧ Le ρ ρ' ∧ St w0 ρ' ((.row wr0 21 ((Rep.int .i32).sz) wm0 ds0) :: (.box pb1 29 ([w1_0])) :: Γ) w' ∧ Ha .i32 ρ' wr0 ds0 wd0 wp0 wq0 r) := by
 rw [Zg.f] at H
 refine Et Tryz.func178 Tryz.ntmps178 rfl <| Wr fun dj cc => As rfl <| Ox cc <| Wr fun dk cd => Mv rfl <| As rfl <| As rfl <| Ox cd <| Zh fun dl ce => Zj fun dm cf dn => Y9 (σ := Nat × List Int × Int × Int × List Value × Hp) (fun (aw, ag, ao, ai, al, a3) => [(0, wd0), (1, .int .i64 x1), (2, .func (.func 166) #[] #[.pointer (some ⟨pb1, 0, none⟩)]), (6, .int .i64 20), (7, .int .i64 ao), (8, .int .i64 ai)]) (fun (aw, ag, ao, ai, al, a3) w => Zg.l3 aw y1_0 x1 ag ao ai = some r ∧ Le ρ a3 ∧ St w0 a3 ((.row wr0 21 ((Rep.int .i32).sz) wm0 al) :: (.box pb1 29 ([w1_0])) :: Γ) w ∧ Ha .i32 a3 wr0 al wd0 wp0 wq0 ag) (fun s => s.1) (K0, y0, 0, 20, d0, ρ) sbn (Ai H (Ai (Le.rfl' _) (Ai hs g0))) ?_
 rintro ⟨aw, ag, ao, ai, al, a3⟩ w dp ⟨H, au, hs, ax⟩ a7
 show W _ _ _ _ _ _ [(0, wd0), (1, .int .i64 x1), (2, .func (.func 166) #[] #[.pointer (some ⟨pb1, 0, none⟩)]), (6, .int .i64 20), (7, .int .i64 ao), (8, .int .i64 ai)] w
 cases aw with
 | zero => rw [Zg.l3] at H; cases H
 | succ aw =>
 rw [Zg.l3] at H
 refine Zh fun dq cg => Wr fun dr ch => Mv rfl <| Mv rfl <| Ole rfl <| Ox ch <| Y7 rfl (fun bo => ?_) (fun bo => ?_)
 rw [if_pos bo] at H
 refine Wx cg <| Zj fun ds dt du => Wr fun dv ci => Mv rfl <| Mv rfl <| Mv rfl <| Mv rfl ?_
 have hs := hs.front 1 rfl
 have hs := hs.front 1 rfl
 obtain ⟨bm, bp, H⟩ := bnd H
 refine Oc rfl (Zf.c hs ax (g1_0.mono au) bp) (fun dw w hpost => ?_)
 obtain ⟨cj, bq, rfl, br, hs, ck⟩ := hpost
 have hs := hs.sink 1
 have hs := hs.sink 1
 refine Ox ci <| Wr fun dx cl => Mv rfl <| As rfl <| Ox cl <| W.weak [(0, _), (1, _), (2, _), (6, _), (7, _), (8, _)] sbn ?_
 refine Zc <| Mv rfl <| Mv rfl <| Oad rfl <| As rfl <| Zd (a7 (aw, bm, ai, (i64.wrap (ai + 20)), bq, cj) _ _ sbn (Ai H (Ai (au.trans br) (Ai hs ck))) (Nat.lt_succ_self _))
 rw [if_neg bo] at H
 refine Y4 (cf _ _ (ce _ _ <| Wr fun dy cm => Mv rfl <| Mv rfl <| Mv rfl <| Mv rfl ?_))
 have hs := hs.front 1 rfl
 have hs := hs.front 1 rfl
 obtain ⟨bn, bs, H⟩ := bnd H
 refine Oc rfl (Zf.c hs ax (g1_0.mono au) bs) (fun dz w hpost => ?_)
 obtain ⟨cb, bt, rfl, a8, hs, cn⟩ := hpost
 have hs := hs.sink 1
 have hs := hs.sink 1
 refine Ox cm <| Zj fun ea co eb => Y9 (σ := Nat × List Int × Int × List Value × Hp) (fun (ar, ac, aa, aj, a0) => [(0, wd0), (1, .int .i64 x1), (2, .func (.func 166) #[] #[.pointer (some ⟨pb1, 0, none⟩)]), (6, .int .i64 aa)]) (fun (ar, ac, aa, aj, a0) w => Zg.l2 ar y1_0 x1 ac aa = some r ∧ Le cb a0 ∧ St w0 a0 ((.row wr0 21 ((Rep.int .i32).sz) wm0 aj) :: (.box pb1 29 ([w1_0])) :: Γ) w ∧ Ha .i32 a0 wr0 aj wd0 wp0 wq0 ac) (fun s => s.1) (K0, bn, 20, bt, cb) (T4 rfl) (Ai H (Ai (Le.rfl' _) (Ai hs cn))) ?_
 rintro ⟨ar, ac, aa, aj, a0⟩ w ec ⟨H, a1, hs, ay⟩ a9
 show W _ _ _ _ _ _ [(0, wd0), (1, .int .i64 x1), (2, .func (.func 166) #[] #[.pointer (some ⟨pb1, 0, none⟩)]), (6, .int .i64 aa)] w
 cases ar with
 | zero => rw [Zg.l2] at H; cases H
 | succ ar =>
 rw [Zg.l2] at H
 refine Zh fun ed cp => Wr fun ee bu => Mv rfl <| Mv rfl <| Ols rfl <| Ox bu <| Y7 rfl (fun ba => ?_) (fun ba => ?_)
 ·rw [if_pos ba] at H
  refine Wx cp <| Zj fun cq cr cs => Wr fun ct bv => Mv rfl <| Oml rfl <| As rfl <| As rfl <| Ox bv <| Zh fun cu bw => Zj fun cv bx cw => Y9 (σ := Nat × List Int × Int × Int × List Value × Hp) (fun (an, ab, af, ad, ah, aq) => [(0, wd0), (1, .int .i64 x1), (2, .func (.func 166) #[] #[.pointer (some ⟨pb1, 0, none⟩)]), (6, .int .i64 aa), (7, .int .i64 af), (8, .int .i64 ad)]) (fun (an, ab, af, ad, ah, aq) w => Zg.l1 (Zg.l2 ar y1_0 x1) an y1_0 x1 aa ab af ad = some r ∧ Le a0 aq ∧ St w0 aq ((.row wr0 21 ((Rep.int .i32).sz) wm0 ah) :: (.box pb1 29 ([w1_0])) :: Γ) w ∧ Ha .i32 aq wr0 ah wd0 wp0 wq0 ab) (fun s => s.1) (K0, ac, 0, (i64.wrap (2 * aa)), aj, a0) sbn (Ai H (Ai (Le.rfl' _) (Ai hs ay))) ?_
  rintro ⟨an, ab, af, ad, ah, aq⟩ w cx ⟨H, av, hs, am⟩ a4
  show W _ _ _ _ _ _ [(0, wd0), (1, .int .i64 x1), (2, .func (.func 166) #[] #[.pointer (some ⟨pb1, 0, none⟩)]), (6, .int .i64 aa), (7, .int .i64 af), (8, .int .i64 ad)] w
  cases an with
  | zero => rw [Zg.l1] at H; cases H
  | succ an =>
  rw [Zg.l1] at H
  refine Zh fun cy bz => Wr fun cz b0 => Mv rfl <| Mv rfl <| Ole rfl <| Ox b0 <| Y7 rfl (fun bb => ?_) (fun bb => ?_)
  rw [if_pos bb] at H
  refine Wx bz <| Zj fun da db dc => Wr fun dd b1 => Mv rfl <| Mv rfl <| Mv rfl <| Mv rfl <| Oad rfl <| Mv rfl <| Mv rfl ?_
  have hs := hs.front 1 rfl
  have hs := hs.front 1 rfl
  obtain ⟨a5, be, H⟩ := bnd H
  refine Oc rfl ((Za.c K0) hs am (g1_0.mono (((au.trans a8).trans a1).trans av)) be) (fun de w hpost => ?_)
  obtain ⟨b2, bf, rfl, bg, hs, b3⟩ := hpost
  have hs := hs.sink 1
  have hs := hs.sink 1
  refine Ox b1 <| W.weak [(0, _), (1, _), (2, _), (6, _), (8, _)] sbn ?_
  refine Wr fun df b4 => Mv rfl <| As rfl <| Ox b4 <| Zc <| Mv rfl <| Mv rfl <| Oml rfl <| Oad rfl <| As rfl <| Zd (a4 (an, a5, ad, (i64.wrap (ad + (i64.wrap (2 * aa)))), bf, b2) _ _ sbn (Ai H (Ai (av.trans bg) (Ai hs b3))) (Nat.lt_succ_self _))
  rw [if_neg bb] at H
  refine Y4 (bx _ _ (bw _ _ <| Yu fun b5 b6 bh => ?_))
  have bi : ∀ (ae : List Int) (ak : List Value) (az : Hp) (w : World), Zg.j1 (Zg.l2 ar y1_0 x1) aa ae = some r → Le aq az → St w0 az ((.row wr0 21 ((Rep.int .i32).sz) wm0 ak) :: (.box pb1 29 ([w1_0])) :: Γ) w → Ha .i32 az wr0 ak wd0 wp0 wq0 ae → b5 [(0, wd0), (1, .int .i64 x1), (2, .func (.func 166) #[] #[.pointer (some ⟨pb1, 0, none⟩)]), (6, .int .i64 aa)] w := by
   intro ae ak az w H bc hs a2
   rw [Zg.j1] at H
   refine b6 _ _ <| Zc <| Mv rfl <| Oml rfl <| As rfl <| Zd (a9 (ar, ae, (i64.wrap (aa * 2)), ak, az) _ _ (T4 rfl) (Ai H (Ai ((a1.trans av).trans bc) (Ai hs a2))) (Nat.lt_succ_self _))
  refine Wr fun dg b7 => Mv rfl <| Mv rfl <| Oad rfl <| As rfl <| Ox b7 <| Wr fun dh b8 => Mv rfl <| Mv rfl <| Ols rfl <| Ox b8 <| W.weak [(0, _), (1, _), (2, _), (6, _), (7, _), (9, _), (54, _)] sbn ?_
  refine Y7 rfl (fun bd => ?_) (fun bd => ?_)
  rw [if_pos bd] at H
  refine Zc <| Mv rfl <| Mv rfl <| Mv rfl <| Mv rfl <| Mv rfl ?_
  have hs := hs.front 1 rfl
  have hs := hs.front 1 rfl
  obtain ⟨a6, bj, H⟩ := bnd H
  refine Oc rfl ((Za.c K0) hs am (g1_0.mono (((au.trans a8).trans a1).trans av)) bj) (fun di w hpost => ?_)
  obtain ⟨b9, bk, rfl, bl, hs, ca⟩ := hpost
  have hs := hs.sink 1
  have hs := hs.sink 1
  exact Zd (bh _ _ _ (T4 rfl) (bi a6 bk b9 _ H bl hs ca))
  rw [if_neg bd] at H
  exact Ua (bh _ _ _ (T4 rfl) (bi ab ah aq _ H (Le.rfl' _) hs am))
 rw [if_neg ba] at H
 refine Y4 (co _ _ ?_)
 obtain rfl := Zz H
 exact Zgj rfl ⟨_, _, rfl, ((au.trans a8).trans a1), hs, ay⟩

def X8.f (y0 : List Int) (y1_0 : Option Tbs) : Option (List Int) := (Zg.f (y0.length : Int) y0 y1_0).bind fun ac => (some ac)
theorem X8.c {wr0 wd0 : Value} {d0 : List Value} {wp0 wq0 : List Int} {wm0 : Nat} {y0 : List Int} {pb1 : Nat} {w1_0 : Value} {y1_0 : Option Tbs} (hs : St w0 ρ ((.row wr0 21 ((Rep.int .i32).sz) wm0 d0) :: (.box pb1 29 ([w1_0])) :: Γ) w) (g0 : Ha .i32 ρ wr0 d0 wd0 wp0 wq0 y0) (g1_0 : Xs Hm ρ w1_0 y1_0) {r : List Int} (H : X8.f y0 y1_0 = some r) : Zn Tryz.prog 165 [wd0, .func (.func 166) #[] #[.pointer (some ⟨pb1, 0, none⟩)]] w (fun v w' => ∃ (ρ' : Hp) (ds0 : List Value), v = .tuple #[] ∧ Le ρ ρ' ∧ St w0 ρ' ((.row wr0 21 ((Rep.int .i32).sz) wm0 ds0) :: (.box pb1 29 ([w1_0])) :: Γ) w' ∧ Ha .i32 ρ' wr0 ds0 wd0 wp0 wq0 r) := by
 rw [X8.f] at H
 refine Et Tryz.func165 Tryz.ntmps165 rfl <| Zc <| Mv rfl <| Mv rfl <| O_y rfl (Zs8 V2 g0 rfl) <| Mv rfl ?_
 have hs := hs.front 1 rfl
 have hs := hs.front 1 rfl
 obtain ⟨ac, aa, H⟩ := bnd H
 refine Oc rfl (Zg.c hs g0 g1_0 aa) (fun af w hpost => ?_)
 obtain ⟨ag, ad, rfl, ab, hs, ae⟩ := hpost
 have hs := hs.sink 1
 have hs := hs.sink 1
 refine Zd ?_
 obtain rfl := Zz H
 exact Zgj rfl ⟨_, _, rfl, ab, hs, ae⟩

def Y3.j1 (ag : List Int → Int → Option (List Int)) (aq : Int → Option (List Int)) (x0 : Option Tbs) (aa : List Int) (ab ad : Int) (af : Bool) : Option (List Int) := if af = true then (aq (i64.wrap (ad + 1))) else (if (0 : Int) ≤ ab ∧ ab ≤ ad ∧ ad ≤ (aa.length : Int) then ((X8.f (sub aa ab ad) x0).bind fun ar => (ag (aa.take ab.toNat ++ (ar ++ aa.drop ad.toNat)) (i64.wrap (ad + 1)))) else none)
def Y3.l1 (ag : List Int → Int → Option (List Int)) : Nat → Option Tbs → List Int → Int → Int → Option (List Int)
  | 0, _, _, _, _ => none
  | aj + 1, x0, aa, ab, ad => if ad < (aa.length : Int) then (if (0 : Int) ≤ ad ∧ ad < (aa.length : Int) then ((Qf.f x0 (rd aa ad)).bind fun au => (Y3.j1 ag (Y3.l1 ag aj x0 aa ab) x0 aa ab ad (decide (au ≠ 0)))) else none) else (Y3.j1 ag (Y3.l1 ag aj x0 aa ab) x0 aa ab ad false)
def Y3.l2 : Nat → Option Tbs → List Int → Int → Option (List Int)
  | 0, _, _, _ => none
  | ah + 1, x0, aa, ab => if ab < (aa.length : Int) then (Y3.l1 (Y3.l2 ah x0) K0 x0 aa ab ab) else (some aa)
def Y3.f (x0 : Option Tbs) (x1 : List Int) : Option (List Int) := (Xi.f x1).bind fun a8 => (Y3.l2 K0 x0 a8 0)
theorem Y3.c (hs : St w0 ρ (Γ) w) {v0 : Value} {x0 : Option Tbs} (h0 : Xs Hm ρ v0 x0) {v1 : Value} {x1 : List Int} (h1 : SlR (Rep.int .i32) ρ v1 x1) {r : List Int} (H : Y3.f x0 x1 = some r) : Zn Tryz.prog 135 [v0, v1] w (fun v w' => ∃ (ρ' : Hp) (v0 : Value) (cs0 : List Value), v = v0 ∧ Le ρ ρ' ∧ St w0 ρ' (.row v0 21 (Rep.int .i32).sz r.length cs0 :: Γ) w' ∧ Zm (Rep.int .i32) ρ' cs0 r) := by
 rw [Y3.f] at H
 refine Et Tryz.func135 Tryz.ntmps135 rfl <| Wr fun cc bl => Zcj hs rfl rfl h0.one (fun ao w hs => As rfl <| Ox bl <| Wr fun cd bm => Mv rfl ?_)
 obtain ⟨a8, a9, H⟩ := bnd H
 refine Oc rfl (Xi.c hs h1 a9) (fun bn w hpost => ?_)
 obtain ⟨bj, ce, ba, rfl, av, hs, bo⟩ := hpost
 refine As rfl <| Ox bm <| Zh fun cf bp => Wr fun cg bq => As rfl <| Ox bq <| Zj fun ch br ci => Y9 (σ := Nat × List Int × Int × Value × List Value × Hp) (fun (ah, aa, ab, ac, ae, ak) => [(2, .pointer (some ⟨ao, 0, none⟩)), (5, ac), (6, .int .i64 ab)]) (fun (ah, aa, ab, ac, ae, ak) w => Y3.l2 ah x0 aa ab = some r ∧ Le bj ak ∧ St w0 ak ((.row ac 21 ((Rep.int .i32).sz) aa.length ae) :: (.box ao 29 ([v0])) :: Γ) w ∧ Zm (Rep.int .i32) ak ae aa) (fun s => s.1) (K0, a8, 0, bn, ba, bj) (T3 rfl) (Ai H (Ai (Le.rfl' _) (Ai hs bo))) ?_
 rintro ⟨ah, aa, ab, ac, ae, ak⟩ w cj ⟨H, al, hs, ai⟩ aw
 show W _ _ _ _ _ _ [(2, .pointer (some ⟨ao, 0, none⟩)), (5, ac), (6, .int .i64 ab)] w
 cases ah with
 | zero => rw [Y3.l2] at H; cases H
 | succ ah =>
 rw [Y3.l2] at H
 refine Zh fun ck bs => Wr fun cl bt => Mv rfl <| Mv rfl <| O_y rfl (V8 (i := 0) V2 hs rfl rfl) <| Ols rfl <| Ox bt <| Y7 rfl (fun bb => ?_) (fun bb => ?_)
 ·rw [if_pos bb] at H
  refine Wx bs <| Zh fun cm bu => Zj fun cn co cp => Wr fun cq bv => Mv rfl <| As rfl <| Ox bv <| Zh fun cr bw => Zj fun cs bx ct => Y9 (σ := Nat × Int) (fun (aj, ad) => [(2, .pointer (some ⟨ao, 0, none⟩)), (5, ac), (6, .int .i64 ab), (7, .int .i64 ad)]) (fun (aj, ad) w => Y3.l1 (Y3.l2 ah x0) aj x0 aa ab ad = some r ∧ St w0 ak ((.row ac 21 ((Rep.int .i32).sz) aa.length ae) :: (.box ao 29 ([v0])) :: Γ) w) (fun s => s.1) (K0, ab) (T4 rfl) (Ai H hs) ?_
  rintro ⟨aj, ad⟩ w cu ⟨H, hs⟩ ax
  show W _ _ _ _ _ _ [(2, .pointer (some ⟨ao, 0, none⟩)), (5, ac), (6, .int .i64 ab), (7, .int .i64 ad)] w
  cases aj with
  | zero => rw [Y3.l1] at H; cases H
  | succ aj =>
  rw [Y3.l1] at H
  refine Zh fun cv bz => Yu fun b0 b1 bk => ?_
  have a0 : ∀ (af : Bool) (w : World), Y3.j1 (Y3.l2 ah x0) (Y3.l1 (Y3.l2 ah x0) aj x0 aa ab) x0 aa ab ad af = some r → St w0 ak ((.row ac 21 ((Rep.int .i32).sz) aa.length ae) :: (.box ao 29 ([v0])) :: Γ) w → b0 [(2, .pointer (some ⟨ao, 0, none⟩)), (5, ac), (6, .int .i64 ab), (7, .int .i64 ad), (29, .bool af)] w := by
   intro af w H hs
   rw [Y3.j1] at H
   refine b1 _ _ <| Xg rfl (fun ay => ?_) (fun ay => ?_)
   rw [if_pos ay] at H
   refine Wx bz <| Zj fun b2 b3 b4 => Zc <| Mv rfl <| Oad rfl <| As rfl <| Zd (ax (aj, (i64.wrap (ad + 1))) _ _ (T4 rfl) (Ai H hs) (Nat.lt_succ_self _))
   rw [if_neg (bft ay)] at H
   refine Y4 (bx _ _ (bw _ _ <| Wr fun b5 bc => Mv rfl <| Mv rfl <| Mv rfl ?_))
   obtain ⟨am, H⟩ := gd H
   obtain ⟨b6, a1, bd⟩ := Zl8 (k := .i32) Q7 hs (j := 0) rfl am.1 am.2.1 am.2.2
   refine O_y rfl (bd rfl (.inr ⟨_, _, rfl, rfl⟩) (.inr ⟨_, _, rfl, rfl⟩)) <| O_y rfl (Ux rfl) ?_
   have hs := hs.front 1 rfl
   have hs := hs.front 1 rfl
   obtain ⟨ar, a2, H⟩ := bnd H
   refine Oc rfl (X8.c hs (Ha.of ai a1 am.1 am.2.1 am.2.2) (h0.mono (av.trans al)) a2) (fun b7 w hpost => ?_)
   obtain ⟨be, a3, rfl, a4, hs, bf⟩ := hpost
   obtain ⟨bg, a5⟩ := Ha.done hs bf (j := 0) rfl
   have hs := hs.rowLen (j := 0) rfl a5
   have hs := hs.sink 1
   have hs := hs.sink 1
   refine Ox bc <| Zc <| Mv rfl <| As rfl <| Ox bu <| Zc <| Mv rfl <| Oad rfl <| As rfl <| Zd (aw (ah, (aa.take ab.toNat ++ (ar ++ aa.drop ad.toNat)), (i64.wrap (ad + 1)), ac, a3, be) _ _ (T3 rfl) (Ai H (Ai (al.trans a4) (Ai hs bg))) (Nat.lt_succ_self _))
  refine Qn 13 [0, 0, 2, 5, 8, 16, 16, 16, 208, 272, 560, 1040, 2064] [8182, 8185, 8177, 8160, 0, 7104, 7840, 7776, 7200, 6176, 4096, 0, 0] [0, 0, 2, 7, 15, 31, 31, 31, 223, 479, 1023, 2047, 4095] [10, 11, 12] (fun w => St w0 ak ((.row ac 21 ((Rep.int .i32).sz) aa.length ae) :: (.box ao 29 ([v0])) :: Γ) w) Vl (by kernel_rfl) (fun sh => ?_)
  have hs := hs.drew
  refine Fm 0 sh rfl <| Fm 1 sh rfl <| Fy 2 sh rfl hs (fun w hs => V8 (i := 0) V2 hs rfl rfl) <| Fp 3 sh rfl (fun w => Zax rfl rfl) <| Fm 4 sh rfl <| Zav (dj := 21) rfl (fun az => ?_) (fun az => ?_)
  rw [if_pos az] at H
  refine Fy 5 sh rfl hs (fun w hs => Yb 1 Znx hs rfl rfl rfl) <| Fp 6 sh rfl (fun w => Qk rfl) <| Fp 7 sh rfl (fun w => Qk rfl) ?_
  obtain ⟨an, H⟩ := gd H
  obtain ⟨b8, ap⟩ := hs.rowBlock (j := 0) rfl (by have := an.2; omega)
  obtain ⟨_, rfl, a6⟩ := ai.at an.1 an.2
  refine Fy 8 sh rfl hs (fun w hs => Vm (j := 0) Q7 hs rfl ap rfl rfl an.1 an.2) <| Fy 9 sh rfl hs (fun w hs => Xp Xm rfl (hs.rowCell (j := 0) rfl ap (a6 0 _ rfl))) <| F1 10 sh rfl (fun b9 bh => Oe rfl ?_)
  obtain ⟨au, a7, H⟩ := bnd H
  refine Oc rfl (Qf.c hs (h0.mono (av.trans al)) a7) (fun ca w hpost => ?_)
  obtain ⟨rfl, hs⟩ := hpost
  refine Zd (bh _ _ (fun h _ => absurd h (by decide)) <| Ke sh [] hs (by kernel_rfl) <| Fp 11 sh rfl (fun w => Zo1 rfl rfl) <| Fp 12 sh rfl (fun w => J7 rfl rfl) <| FE sh (bk _ _ _ sbn (a0 (decide (au ≠ 0)) _ H hs)))
  rw [if_neg az] at H
  refine Fn 5 sh rfl <| Fn 6 sh rfl <| Fn 7 sh rfl <| Fn 8 sh rfl <| Fn 9 sh rfl <| Fn 10 sh rfl <| Fn 11 sh rfl <| Fp 12 sh rfl (fun w => Qr rfl rfl) <| FE sh (bk _ _ _ sbn (a0 false _ H hs))
 rw [if_neg bb] at H
 refine Y4 (br _ _ (bp _ _ <| Wr fun cb bi => Mv rfl <| As rfl <| Ox bi <| Zk ?_))
 obtain rfl := Zz H
 exact r1 rfl ⟨_, _, _, rfl, (av.trans al), (hs.sub (ssc (ssk ssr))), ai⟩

def X7.j1 (x0 ab : Int) : Option (Int × Int × Int × Bool) := some (i32.wrap (4352 + (i32.wrap ((i32.wrap (x0 - 44032)).tdiv 588))), i32.wrap (4449 + ((i32.wrap ((i32.wrap (x0 - 44032)).tdiv 28)).tmod 21)), ab, true)
def X7.j2 (x0 : Int) (aa : Bool) : Option (Int × Int × Int × Bool) := if aa = true then (some (0, 0, 0, false)) else (if (i32.wrap (4519 + ((i32.wrap (x0 - 44032)).tmod 28))) = 4519 then (X7.j1 x0 0) else (X7.j1 x0 (i32.wrap (4519 + ((i32.wrap (x0 - 44032)).tmod 28)))))
def X7.f (x0 : Int) : Option (Int × Int × Int × Bool) := if x0 < 44032 then (X7.j2 x0 true) else (X7.j2 x0 (decide (11172 ≤ (i32.wrap (x0 - 44032)))))
theorem X7.c (hs : St w0 ρ (Γ) w) {x0 : Int} {r : Int × Int × Int × Bool} (H : X7.f x0 = some r) : Zn Tryz.prog 180 [.int .i32 x0] w (fun v w' => v = .tuple #[.int .i32 r.1, .int .i32 r.2.1, .int .i32 r.2.2.1, .bool r.2.2.2] ∧ St w0 ρ Γ w') := by
 rw [X7.f] at H
 refine Et Tryz.func180 Tryz.ntmps180 rfl <| Wr fun aw aj => As rfl <| As rfl <| As rfl <| As rfl <| Ox aj <| Wr fun ax ak => Mv rfl <| Osu rfl <| As rfl <| Zd (ak _ _ ?_)
 refine Zh fun ay al => Yu fun am an af => ?_
 have ag : ∀ (aa : Bool) (w : World), X7.j2 x0 aa = some r → St w0 ρ (Γ) w → am [(6, .int .i32 (i32.wrap (x0 - 44032))), (15, .bool aa)] w := by
  intro aa w H hs
  rw [X7.j2] at H
  refine an _ _ <| Xg rfl (fun ac => ?_) (fun ac => ?_)
  rw [if_pos ac] at H
  refine Wr fun az ao => As rfl <| As rfl <| As rfl <| As rfl <| Ox ao <| Zk ?_
  obtain rfl := Zz H
  exact Zwk rfl rfl rfl rfl rfl ⟨rfl, hs⟩
  rw [if_neg (bft ac)] at H
  refine Wx al <| Wr fun a0 ap => Mv rfl <| O_y rfl (Zjj rfl rfl (by decide)) <| Oad rfl <| As rfl <| Ox ap <| Yu fun aq ar ah => ?_
  have ai : ∀ (ab : Int) (w : World), X7.j1 x0 ab = some r → St w0 ρ (Γ) w → aq [(6, .int .i32 (i32.wrap (x0 - 44032))), (7, .int .i32 ab)] w := by
   intro ab w H hs
   rw [X7.j1] at H
   refine ar _ _ <| Wr fun a1 au => Mv rfl <| O_y rfl (Zc7 rfl rfl (by decide)) <| Oad rfl <| Mv rfl <| O_y rfl (Zc7 rfl rfl (by decide)) <| O_y rfl (Zjj rfl rfl (by decide)) <| Oad rfl <| Mv rfl <| As rfl <| As rfl <| As rfl ?_
   refine As rfl <| Ox au <| Zk ?_
   obtain rfl := Zz H
   exact Zwk rfl rfl rfl rfl rfl ⟨rfl, hs⟩
  refine Wr fun a2 av => Mv rfl <| Oeq rfl <| Ox av <| Y7 rfl (fun ad => ?_) (fun ad => ?_)
  rw [if_pos ad] at H
  refine Zc <| As rfl <| Zd (ah _ _ _ (T2 rfl) (ai 0 _ H hs))
  rw [if_neg ad] at H
  exact Ua (ah _ _ _ (T2 rfl) (ai (i32.wrap (4519 + ((i32.wrap (x0 - 44032)).tmod 28))) _ H hs))
 refine Zc <| Mv rfl <| Ols rfl <| Mv rfl <| X6 (dj := 12) rfl (fun ae => ?_) (fun ae => ?_)
 rw [if_pos ae] at H
 refine On rfl <| On rfl <| Opk rfl <| Zd (af _ _ _ (T2 rfl) (ag true _ H hs))
 rw [if_neg ae] at H
 refine Oe rfl <| Mv rfl <| Oe rfl <| Oge rfl <| Opk rfl <| Zd (af _ _ _ (T2 rfl) (ag (decide (11172 ≤ (i32.wrap (x0 - 44032)))) _ H hs))

end Go.Proofs.YthoicbafdanmkaaGreatDoor
/- Written by this repo's gen.py: for each Go function a Lean function with the same answers and the walk that shows it. -/
namespace Go.Proofs.YthoicbafdanmkaaGreatDoor
open Go.IntKind (i8 i16 i32 i64 u8 u16 u32 u64)
open Go.RowKit
set_option maxRecDepth 100000
set_option maxHeartbeats 4000000
variable {w0 w : World} {ρ : Hp} {Γ : List Q5}
set_option linter.unusedVariables false
def Hr.f (x0 : Option Tab) (x1 : List Chs) (x2 : Int) : Option (List Int) := (Z1.f x0 x2).bind fun aa => (if aa = 0 then (some ([] : List Int)) else (if (0 : Int) ≤ i64.wrap (aa - 1) ∧ i64.wrap (aa - 1) < (x1.length : Int) then ((Xi.f ((rd x1 (i64.wrap (aa - 1))).is_)).bind fun af => (some af)) else none))
theorem Hr.c (hs : St w0 ρ (Γ) w) {v0 : Value} {x0 : Option Tab} (h0 : Xs Vc ρ v0 x0) {v1 : Value} {x1 : List Chs} (h1 : SlR Ks ρ v1 x1) {x2 : Int} {r : List Int} (H : Hr.f x0 x1 x2 = some r) : Zn Tryz.prog 137 [v0, v1, .int .i32 x2] w (fun v w' => ∃ (ρ' : Hp) (v0 : Value) (cs0 : List Value), v = v0 ∧ Le ρ ρ' ∧ St w0 ρ' (.row v0 21 (Rep.int .i32).sz r.length cs0 :: Γ) w' ∧ Zm (Rep.int .i32) ρ' cs0 r) := by
 rw [Hr.f] at H
 refine Et Tryz.func137 Tryz.ntmps137 rfl <| Wr fun aw ah => As rfl <| Ox ah <| Wr fun ax ai => Mv rfl <| Mv rfl ?_
 obtain ⟨aa, ab, H⟩ := bnd H
 refine Oc rfl (Z1.c hs h0 ab) (fun ay w hpost => ?_)
 obtain ⟨rfl, hs⟩ := hpost
 refine As rfl <| Ox ai <| Zh fun az aj => Wr fun a0 ak => Mv rfl <| Oeq rfl <| Ox ak <| Y7 rfl (fun ac => ?_) (fun ac => ?_)
 rw [if_pos ac] at H
 refine Wr fun a1 al => As rfl <| Ox al <| Zk ?_
 have hs := hs.rowNil 21 (Rep.int .i32).sz
 have am := Zm.nil (Rep.int .i32) ρ
 obtain rfl := Zz H
 exact r1 rfl ⟨_, _, _, rfl, Le.rfl' _, hs, am⟩
 rw [if_neg ac] at H
 refine Wx aj <| Wr fun a2 an => Mv rfl <| Mv rfl <| Osu rfl ?_
 obtain ⟨ag, H⟩ := gd H
 obtain ⟨a3, a4, ao, ap⟩ := h1.ix Zdo ag.1 ag.2
 obtain ⟨_, ⟨a5, rfl, aq⟩, ar⟩ := ao
 refine O_y rfl (ap rfl rfl) <| Ofd H4 rfl <| O_y rfl (Xp Za8 rfl (hs.see (ar 2 _ rfl))) ?_
 obtain ⟨af, ad, H⟩ := bnd H
 refine Oc rfl (Xi.c hs aq ad) (fun a6 w hpost => ?_)
 obtain ⟨a7, a8, au, rfl, ae, hs, av⟩ := hpost
 refine As rfl <| Ox an <| W.weak [(6, _)] (S1 rfl) <| Zk ?_
 obtain rfl := Zz H
 exact r1 rfl ⟨_, _, _, rfl, ae, hs, av⟩

def Vt.f (x0 : Option Tbs) (x1 : Int) : Option (List Int) := if ((x0).isNone) = true then (some ([] : List Int)) else (if x0.isSome = true then ((Hr.f (((x0).getD default).decomp) ((((x0).getD default).b).decomp) x1).bind fun aa => (some aa)) else none)
theorem Vt.c (hs : St w0 ρ (Γ) w) {v0 : Value} {x0 : Option Tbs} (h0 : Xs Hm ρ v0 x0) {x1 : Int} {r : List Int} (H : Vt.f x0 x1 = some r) : Zn Tryz.prog 181 [v0, .int .i32 x1] w (fun v w' => ∃ (ρ' : Hp) (v0 : Value) (cs0 : List Value), v = v0 ∧ Le ρ ρ' ∧ St w0 ρ' (.row v0 21 (Rep.int .i32).sz r.length cs0 :: Γ) w' ∧ Zm (Rep.int .i32) ρ' cs0 r) := by
 rw [Vt.f] at H
 refine Et Tryz.func181 Tryz.ntmps181 rfl <| Wr fun cm ap => As rfl <| Ox ap <| Zh fun cn aq => Wr fun co ar => Mv rfl <| O_y rfl ((h0.eqn Zl0 rfl rfl)) <| Ox ar <| Xg rfl (fun ae => ?_) (fun ae => ?_)
 rw [if_pos ae] at H
 refine Wr fun cp au => As rfl <| Ox au <| Zk ?_
 have hs := hs.rowNil 21 (Rep.int .i32).sz
 have av := Zm.nil (Rep.int .i32) ρ
 obtain rfl := Zz H
 exact r1 rfl ⟨_, _, _, rfl, Le.rfl' _, hs, av⟩
 rw [if_neg (bft ae)] at H
 refine Wx aq <| Zh fun cq aw => Qn 12 [0, 1, 2, 4, 0, 16, 32, 64, 128, 0, 776, 2047] [2044, 2040, 2032, 1008, 1999, 1935, 1807, 1551, 527, 511, 0, 0] [0, 1, 3, 7, 0, 16, 48, 112, 240, 0, 1023, 2047] [10, 11] (fun w => St w0 ρ (Γ) w) Vl (by kernel_rfl) (fun sh => ?_)
 have hs := hs.drew
 refine Fm 0 sh rfl ?_
 obtain ⟨an, H⟩ := gd H
 obtain ⟨cr, af, ax⟩ := h0.open an
 obtain ⟨_, ⟨cs, ct, cu, cv, cw, cx, cy, cz, da, db, dc, dd, de, df, dg, dh, ay, az, a0, a1, a2, a3, rfl, di, dj, dk, dl, dm, dn, dp, dq, dr, ds, dt, du, dv, dw, dx, dy, a4, a5, a6, ag, a7, a8⟩, ah⟩ := ax
 refine Fp 1 sh rfl (fun w => K1 (congrArg some af)) <| Fp 2 sh rfl (fun w => Zp Ztv rfl) <| Fy 3 sh rfl hs (fun w hs => Xp Zcc rfl (hs.see (ah 19 _ rfl))) <| Fm 4 sh rfl ?_
 obtain ⟨a9, ab, ai⟩ := h0.open an
 obtain ⟨_, ⟨ba, bb, bc, bd, be, bf, bg, bh, bi, bj, bk, bl, bm, bn, bo, bp, bq, br, bs, bt, bu, bv, rfl, bw, bx, bz, b0, aj, b1, b2, b3, b4, b5, b6, b7, b8, b9, ca, cb, cc, cd, ce, cf, cg, ch⟩, ak⟩ := ai
 refine Fp 5 sh rfl (fun w => K1 (congrArg some ab)) <| Fp 6 sh rfl (fun w => Zp Zo9 rfl) <| Fp 7 sh rfl (fun w => Zp Zeq rfl) <| Fy 8 sh rfl hs (fun w hs => Xp Zdw rfl (hs.see (ak 4 _ rfl))) <| Fm 9 sh rfl <| F1 10 sh rfl (fun ci al => ?_)
 obtain ⟨aa, ac, H⟩ := bnd H
 refine Oc rfl (Hr.c hs ag aj ac) (fun cj w hpost => ?_)
 obtain ⟨ck, cl, ao, rfl, ad, hs, am⟩ := hpost
 refine Zd (al _ _ (fun h _ => absurd h (by decide)) <| Ke sh [] hs (by kernel_rfl) <| Fp 11 sh rfl (fun w => Xv rfl) <| FE sh (aw _ _ <| W.weak [(4, _)] (S1 rfl) <| Zk ?_))
 obtain rfl := Zz H
 exact r1 rfl ⟨_, _, _, rfl, ad, hs, am⟩

def Ql.l1 : Nat → (Option Tbs → Int → Option (List Int)) → Option Tbs → List Int → List Int → Int → Option (List Int)
  | 0, _, _, _, _, _ => none
  | af + 1, rec, x0, aj, aa, ab => if ab < (aj.length : Int) then (if (0 : Int) ≤ ab ∧ ab < (aj.length : Int) then ((rec x0 (rd aj ab)).bind fun al => (if aa.length + al.length ≤ most then ((Ql.l1 af rec x0 aj) (aa ++ al) (i64.wrap (ab + 1))) else none)) else none) else (some aa)
def Ql.b (rec : Option Tbs → Int → Option (List Int)) (x0 : Option Tbs) (x1 : Int) : Option (List Int) := (X7.f x1).bind fun ae => (if ae.2.2.2 = true then (if ae.2.2.1 = 0 then (some ([ae.1, ae.2.1])) else (some ([ae.1, ae.2.1, ae.2.2.1]))) else ((Vt.f x0 x1).bind fun aj => (if (aj.length : Int) = 0 then (some ([x1])) else (Ql.l1 K0 rec x0 aj ([] : List Int) 0))))
def Ql.f : Nat → Option Tbs → Int → Option (List Int)
  | 0, _, _ => none
  | k + 1, x0, x1 => Ql.b (Ql.f k) x0 x1
def Ql.Spec (rec : Option Tbs → Int → Option (List Int)) : Prop := ∀ {w0 w : World} {ρ : Hp} {Γ : List Q5} (hs : St w0 ρ (Γ) w) {v0 : Value} {x0 : Option Tbs} (h0 : Xs Hm ρ v0 x0) {x1 : Int} {r : List Int}, rec x0 x1 = some r → Zn Tryz.prog 168 [v0, .int .i32 x1] w (fun v w' => ∃ (ρ' : Hp) (v0 : Value) (cs0 : List Value), v = v0 ∧ Le ρ ρ' ∧ St w0 ρ' (.row v0 21 (Rep.int .i32).sz r.length cs0 :: Γ) w' ∧ Zm (Rep.int .i32) ρ' cs0 r)
theorem Ql.cb (rec : Option Tbs → Int → Option (List Int)) (hrec : Ql.Spec rec) {w0 w : World} {ρ : Hp} {Γ : List Q5} (hs : St w0 ρ (Γ) w) {v0 : Value} {x0 : Option Tbs} (h0 : Xs Hm ρ v0 x0) {x1 : Int} {r : List Int} (H : Ql.b rec x0 x1 = some r) : Zn Tryz.prog 168 [v0, .int .i32 x1] w (fun v w' => ∃ (ρ' : Hp) (v0 : Value) (cs0 : List Value), v = v0 ∧ Le ρ ρ' ∧ St w0 ρ' (.row v0 21 (Rep.int .i32).sz r.length cs0 :: Γ) w' ∧ Zm (Rep.int .i32) ρ' cs0 r) := by
 rw [Ql.b] at H
 refine Et Tryz.func168 Tryz.ntmps168 rfl <| Wr fun ci bk => As rfl <| Ox bk <| Zh fun cj bl => Wr fun ck bm => Mv rfl ?_
 obtain ⟨ae, ay, H⟩ := bnd H
 refine Oc rfl (X7.c hs ay) (fun cl w hpost => ?_)
 obtain ⟨rfl, hs⟩ := hpost
 refine Mv rfl <| Oxt rfl <| Oxt rfl <| Oxt rfl <| Oxt rfl <| As rfl <| As rfl <| As rfl <| As rfl <| Ox bm <| Wr fun cm bn => Mv rfl <| Zd (bn _ _ ?_)
 refine W.weak [(0, _), (1, _), (5, _), (6, _), (7, _), (20, _)] sbn ?_
 refine Xg rfl (fun az => ?_) (fun az => ?_)
 rw [if_pos az] at H
 refine Zh fun cn bo => Wr fun co bp => Mv rfl <| Oeq rfl <| Ox bp <| Y7 rfl (fun a0 => ?_) (fun a0 => ?_)
 rw [if_pos a0] at H
 refine Wr fun cp bq => Mv rfl <| Mv rfl <| Ku (xs := [.tmp 23, .tmp 24]) (cs := [.int .i32 ae.1, .int .i32 ae.2.1]) Q7 hs rfl rfl rfl (by decide) (by decide) rfl (Yc rfl (Yc rfl Kb)) (Zv rfl (Zv rfl Xy)) (fun cq w hs => ?_)
 have br : Zm (Rep.int .i32) ρ ([.int .i32 ae.1, .int .i32 ae.2.1]) [ae.1, ae.2.1] := Zm.cons (c := [.int .i32 ae.1]) (x := ae.1) rfl (Zm.cons (c := [.int .i32 ae.2.1]) (x := ae.2.1) rfl (Zm.nil _ _))
 refine As rfl <| Ox bq <| Zk ?_
 obtain rfl := Zz H
 exact r1 rfl ⟨_, _, _, rfl, Le.rfl' _, hs, br⟩
 rw [if_neg a0] at H
 refine Wx bo <| Wr fun cr bs => Mv rfl <| Mv rfl <| Mv rfl <| Ku (xs := [.tmp 26, .tmp 27, .tmp 28]) (cs := [.int .i32 ae.1, .int .i32 ae.2.1, .int .i32 ae.2.2.1]) Q7 hs rfl rfl rfl (by decide) (by decide) rfl (Yc rfl (Yc rfl (Yc rfl Kb))) (Zv rfl (Zv rfl (Zv rfl Xy))) (fun ct w hs => ?_)
 have bt : Zm (Rep.int .i32) ρ ([.int .i32 ae.1, .int .i32 ae.2.1, .int .i32 ae.2.2.1]) [ae.1, ae.2.1, ae.2.2.1] := Zm.cons (c := [.int .i32 ae.1]) (x := ae.1) rfl (Zm.cons (c := [.int .i32 ae.2.1]) (x := ae.2.1) rfl (Zm.cons (c := [.int .i32 ae.2.2.1]) (x := ae.2.2.1) rfl (Zm.nil _ _)))
 refine As rfl <| Ox bs <| Zk ?_
 obtain rfl := Zz H
 exact r1 rfl ⟨_, _, _, rfl, Le.rfl' _, hs, bt⟩
 rw [if_neg (bft az)] at H
 refine Wx bl <| Wr fun cu bu => Mv rfl <| Mv rfl ?_
 obtain ⟨aj, a1, H⟩ := bnd H
 refine Oc rfl (Vt.c hs h0 a1) (fun a2 w hpost => ?_)
 obtain ⟨ax, cv, a3, rfl, ap, hs, bv⟩ := hpost
 refine As rfl <| Ox bu <| Zh fun cw bw => Wr fun cx bx => Mv rfl <| O_y rfl (V8 (i := 0) V2 hs rfl rfl) <| Oeq rfl <| Ox bx <| Y7 rfl (fun a4 => ?_) (fun a4 => ?_)
 rw [if_pos a4] at H
 refine Wr fun cy bz => Mv rfl <| Ku (xs := [.tmp 36]) (cs := [.int .i32 x1]) Q7 hs rfl rfl rfl (by decide) (by decide) rfl (Yc rfl Kb) (Zv rfl Xy) (fun cz w hs => ?_)
 have b0 : Zm (Rep.int .i32) ax ([.int .i32 x1]) [x1] := Zm.cons (c := [.int .i32 x1]) (x := x1) rfl (Zm.nil _ _)
 refine As rfl <| Ox bz <| W.weak [(4, _)] (S1 rfl) <| Zk ?_
 obtain rfl := Zz H
 exact r1 rfl ⟨_, _, _, rfl, ap, (hs.sub (ssc (ssk ssr))), b0⟩
 rw [if_neg a4] at H
 refine Wx bw <| Wr fun da a5 => As rfl ?_
 have hs := hs.rowNil 21 (Rep.int .i32).sz
 have a6 := Zm.nil (Rep.int .i32) ax
 refine Ox a5 <| Zh fun b1 a7 => Wr fun b2 a8 => Mv rfl <| O_y rfl (V8 (i := 1) V2 hs rfl rfl) <| Mv rfl <| Ox a8 <| W.weak [(0, _), (10, _), (38, _), (39, _), (40, _)] sbn ?_
 refine Zj fun b3 a9 b4 => Y9 (σ := Nat × List Int × Int × Value × List Value × Hp) (fun (af, aa, ab, ac, ad, ai) => [(0, v0), (10, ac), (38, a2), (39, .int .i64 (aj.length : Int)), (40, .int .i64 ab)]) (fun (af, aa, ab, ac, ad, ai) w => Ql.l1 af rec x0 aj aa ab = some r ∧ Le ax ai ∧ St w0 ai ((.row ac 21 ((Rep.int .i32).sz) aa.length ad) :: (.row a2 21 ((Rep.int .i32).sz) aj.length a3) :: Γ) w ∧ Zm (Rep.int .i32) ai ad aa) (fun s => s.1) (K0, ([] : List Int), 0, (.slice none 0 0), ([]), ax) sbn (Ai H (Ai (Le.rfl' _) (Ai hs a6))) ?_
 rintro ⟨af, aa, ab, ac, ad, ai⟩ w b5 ⟨H, ah, hs, ag⟩ am
 show W _ _ _ _ _ _ [(0, v0), (10, ac), (38, a2), (39, .int .i64 (aj.length : Int)), (40, .int .i64 ab)] w
 cases af with
 | zero => rw [Ql.l1] at H; cases H
 | succ af =>
 rw [Ql.l1] at H
 refine Wr fun b6 ba => Ols rfl <| Ox ba <| Zh fun b7 bb => Y7 rfl (fun aq => ?_) (fun aq => ?_)
 rw [if_pos aq] at H
 refine Wx bb <| Zh fun b8 bc => Zj fun b9 ca cc => Zh fun cd bd => Zc ?_
 obtain ⟨ak, H⟩ := gd H
 obtain ⟨ce, an⟩ := hs.rowBlock (j := 1) rfl (by have := ak.2; omega)
 obtain ⟨_, rfl, ar⟩ := (bv.mono ah).at ak.1 ak.2
 refine O_y rfl (Vm (j := 1) Q7 hs rfl an rfl rfl ak.1 ak.2) <| O_y rfl (Xp Xm rfl (hs.rowCell (j := 1) rfl an (ar 0 _ rfl))) <| As rfl <| Ox bd <| Zc <| Mv rfl <| Mv rfl <| Mv rfl ?_
 obtain ⟨al, au, H⟩ := bnd H
 refine Oc rfl (hrec hs (h0.mono (ap.trans ah)) au) (fun cf w hpost => ?_)
 obtain ⟨be, cg, bj, rfl, ao, hs, av⟩ := hpost
 obtain ⟨bf, H⟩ := gd H
 refine Qt (i := 1) Q7 hs rfl (ag.mono ao) rfl rfl rfl (Src.lit (j := 0) hs rfl av) av bf (fun bg aw w bh hs => As rfl <| Ox bc <| Zc <| Oad rfl <| Mv rfl <| Zd (am (af, (aa ++ al), (i64.wrap (ab + 1)), bg, aw, be) _ _ sbn (Ai H (Ai (ah.trans ao) (Ai (hs.sub (ssk (ssc (ssc ssr)))) bh))) (Nat.lt_succ_self _)))
 rw [if_neg aq] at H
 refine Y4 (a9 _ _ (a7 _ _ <| Wr fun ch bi => Mv rfl <| As rfl <| Ox bi <| Zk ?_))
 obtain rfl := Zz H
 exact r1 rfl ⟨_, _, _, rfl, (ap.trans ah), (hs.sub (ssc (ssk ssr))), ag⟩
theorem Ql.c (k : Nat) : Ql.Spec (Ql.f k) := by
 induction k with
 | zero => intro w0 w ρ Γ hs v0 x0 h0 x1 r H; exact nomatch (show (none : Option _) = some _ from H)
 | succ k ih => intro w0 w ρ Γ hs v0 x0 h0 x1 r H; exact Ql.cb (Ql.f k) ih hs h0 H

def Vf.l1 : Nat → Option Tbs → List Int → List Int → Int → Option (List Int)
  | 0, _, _, _, _ => none
  | ae + 1, x0, x1, aa, ab => if ab < (x1.length : Int) then (if (0 : Int) ≤ ab ∧ ab < (x1.length : Int) then ((Ql.f K0 x0 (rd x1 ab)).bind fun ak => (if aa.length + ak.length ≤ most then ((Vf.l1 ae x0 x1) (aa ++ ak) (i64.wrap (ab + 1))) else none)) else none) else (some aa)
def Vf.f (x0 : Option Tbs) (x1 : List Int) : Option (List Int) := Vf.l1 K0 x0 x1 ([] : List Int) 0
theorem Vf.c (hs : St w0 ρ (Γ) w) {v0 : Value} {x0 : Option Tbs} (h0 : Xs Hm ρ v0 x0) {v1 : Value} {x1 : List Int} (h1 : SlR (Rep.int .i32) ρ v1 x1) {r : List Int} (H : Vf.f x0 x1 = some r) : Zn Tryz.prog 136 [v0, v1] w (fun v w' => ∃ (ρ' : Hp) (v0 : Value) (cs0 : List Value), v = v0 ∧ Le ρ ρ' ∧ St w0 ρ' (.row v0 21 (Rep.int .i32).sz r.length cs0 :: Γ) w' ∧ Zm (Rep.int .i32) ρ' cs0 r) := by
 rw [Vf.f] at H
 refine Et Tryz.func136 Tryz.ntmps136 rfl <| Wr fun ba aq => As rfl <| Ox aq <| Wr fun bb ar => As rfl ?_
 have hs := hs.rowNil 21 (Rep.int .i32).sz
 have au := Zm.nil (Rep.int .i32) ρ
 refine Ox ar <| Zh fun bc av => Wr fun bd aw => Mv rfl <| O_y rfl (Yv V2 h1 rfl) <| Mv rfl <| Ox aw <| Zj fun be ax bf => Y9 (σ := Nat × List Int × Int × Value × List Value × Hp) (fun (ae, aa, ab, ac, ad, ah) => [(0, v0), (5, ac), (8, v1), (9, .int .i64 (x1.length : Int)), (10, .int .i64 ab)]) (fun (ae, aa, ab, ac, ad, ah) w => Vf.l1 ae x0 x1 aa ab = some r ∧ Le ρ ah ∧ St w0 ah ((.row ac 21 ((Rep.int .i32).sz) aa.length ad) :: Γ) w ∧ Zm (Rep.int .i32) ah ad aa) (fun s => s.1) (K0, ([] : List Int), 0, (.slice none 0 0), ([]), ρ) sbn (Ai H (Ai (Le.rfl' _) (Ai hs au))) ?_
 rintro ⟨ae, aa, ab, ac, ad, ah⟩ w bg ⟨H, ag, hs, af⟩ ai
 show W _ _ _ _ _ _ [(0, v0), (5, ac), (8, v1), (9, .int .i64 (x1.length : Int)), (10, .int .i64 ab)] w
 cases ae with
 | zero => rw [Vf.l1] at H; cases H
 | succ ae =>
 rw [Vf.l1] at H
 refine Wr fun bh ay => Ols rfl <| Ox ay <| Zh fun bi az => Y7 rfl (fun al => ?_) (fun al => ?_)
 rw [if_pos al] at H
 refine Wx az <| Zh fun bj a0 => Zj fun bk bl bm => Zh fun bn a1 => Zc ?_
 obtain ⟨ao, H⟩ := gd H
 obtain ⟨bo, bp, a2, a3⟩ := (h1.mono ag).ix Q7 ao.1 ao.2
 refine O_y rfl (a3 rfl rfl) <| O_y rfl (Xp Xm rfl (hs.see a2.int)) <| As rfl <| Ox a1 <| Zc <| Mv rfl <| Mv rfl <| Mv rfl ?_
 obtain ⟨ak, am, H⟩ := bnd H
 refine Oc rfl ((Ql.c K0) hs (h0.mono ag) am) (fun bq w hpost => ?_)
 obtain ⟨a4, br, a5, rfl, aj, hs, ap⟩ := hpost
 obtain ⟨a6, H⟩ := gd H
 refine Qt (i := 1) Q7 hs rfl (af.mono aj) rfl rfl rfl (Src.lit (j := 0) hs rfl ap) ap a6 (fun a7 an w a8 hs => As rfl <| Ox a0 <| Zc <| Oad rfl <| Mv rfl <| Zd (ai (ae, (aa ++ ak), (i64.wrap (ab + 1)), a7, an, a4) _ _ sbn (Ai H (Ai (ag.trans aj) (Ai (hs.sub (ssk (ssc ssr))) a8))) (Nat.lt_succ_self _)))
 rw [if_neg al] at H
 refine Y4 (ax _ _ (av _ _ <| Wr fun bs a9 => Mv rfl <| As rfl <| Ox a9 <| Zk ?_))
 obtain rfl := Zz H
 exact r1 rfl ⟨_, _, _, rfl, ag, hs, af⟩

def Ut.f (x0 : Option Tbs) (x1 : List Int) : Option (List Int) := (Vf.f x0 x1).bind fun af => ((Y3.f x0 af).bind fun ag => (some ag))
theorem Ut.c (hs : St w0 ρ (Γ) w) {v0 : Value} {x0 : Option Tbs} (h0 : Xs Hm ρ v0 x0) {v1 : Value} {x1 : List Int} (h1 : SlR (Rep.int .i32) ρ v1 x1) {r : List Int} (H : Ut.f x0 x1 = some r) : Zn Tryz.prog 80 [v0, v1] w (fun v w' => ∃ (ρ' : Hp) (v0 : Value) (cs0 : List Value), v = v0 ∧ Le ρ ρ' ∧ St w0 ρ' (.row v0 21 (Rep.int .i32).sz r.length cs0 :: Γ) w' ∧ Zm (Rep.int .i32) ρ' cs0 r) := by
 rw [Ut.f] at H
 refine Et Tryz.func80 Tryz.ntmps80 rfl <| Wr fun ao ah => As rfl <| Ox ah <| Wr fun ap ai => Mv rfl <| Mv rfl <| Mv rfl ?_
 obtain ⟨af, ac, H⟩ := bnd H
 refine Oc rfl (Vf.c hs h0 h1 ac) (fun aq w hpost => ?_)
 obtain ⟨ar, au, aj, rfl, aa, hs, ak⟩ := hpost
 obtain ⟨av, ab, hs, al⟩ := hs.rowEnd (j := 0) ak rfl
 obtain ⟨ag, ad, H⟩ := bnd H
 refine Oc rfl (Y3.c hs (h0.mono (aa.trans ab)) al ad) (fun aw w hpost => ?_)
 obtain ⟨ax, ay, am, rfl, ae, hs, an⟩ := hpost
 refine As rfl <| Ox ai <| Zk ?_
 obtain rfl := Zz H
 exact r1 rfl ⟨_, _, _, rfl, ((aa.trans ab).trans ae), hs, an⟩

end Go.Proofs.YthoicbafdanmkaaGreatDoor
