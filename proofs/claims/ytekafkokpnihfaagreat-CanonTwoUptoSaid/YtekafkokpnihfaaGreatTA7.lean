/- Written by this repo's gen.py: for each Go function a Lean function with the same answers and the walk that shows it. -/
import Derived.Test.YtekafkokpnihfaaGreatTA6
import Derived.Test.YtekafkokpnihfaaGreatData
import Derived.Test.YtekafkokpnihfaaGreatFacts
namespace Go.Proofs.YtekafkokpnihfaaGreat
open Go.RowKit
set_option maxRecDepth 100000
set_option maxHeartbeats 4000000
set_option linter.unusedVariables false
def ref10_plain.l1 : Nat → List Spn → List Spn → Int → Option (List Spn)
  | 0, _, _, _ => none
  | ae + 1, x0, ab, aa => if aa < (x0.length : Int) then (if (0 : Int) ≤ aa ∧ aa < (x0.length : Int) then (if ab.length + ([(⟨(rd x0 aa).lo, (rd x0 aa).hi⟩ : Spn)]).length ≤ most then ((ref10_plain.l1 ae x0) (ab ++ ([(⟨(rd x0 aa).lo, (rd x0 aa).hi⟩ : Spn)])) (IntKind.i64.wrap (aa + 1))) else none) else none) else (some ab)
def ref10_plain.f (x0 : List Spn) : Option (List Spn) := ref10_plain.l1 K0 x0 ([] : List Spn) 0
theorem ref10_plain.c {w0 w : World} {ρ : Hp} {Γ : List Item} (hs : St w0 ρ (Γ) w) {v0 : Value} {x0 : List Spn} (h0 : SlR rSpn ρ v0 x0) {r : List Spn} (H : ref10_plain.f x0 = some r) : CallsR Tryz.prog 28 [v0] w (fun v w' => ∃ (ρ' : Hp) (v0 : Value) (cs0 : List Value), v = v0 ∧ Le ρ ρ' ∧ St w0 ρ' (.row v0 74 rSpn.sz r.length cs0 :: Γ) w' ∧ RowR rSpn ρ' cs0 r) := by
  rw [ref10_plain.f] at H
  refine enter Tryz.func28 Tryz.ntmps28 rfl (by kernel_rfl) rfl <| Wr fun a5 al => Oa rfl rfl <| O_nil (al _ _ <| Wr fun a6 am => O_lit2 (xs := []) (cs := []) el32 hs rfl rfl rfl (by decide) (by decide) rfl sz_nil flat_nil (fun an w hs => ?_))
  have ao : RowR rSpn ρ ([]) ([] : List Spn) := RowR.nil _ _
  refine Oa rfl rfl <| O_nil (am _ _ <| W_seq fun a7 ap => Wr fun a8 aq => Om rfl rfl <| O_y rfl (Y_lenR un25 h0 rfl) <| Om rfl rfl <| O_nil (aq _ _ <| W_block fun a9 ar ba => W_loop (σ := Nat × List Spn × Int × Value × List Value) (fun (ae, ab, aa, ac, ad) => [(3, ac), (7, v0), (8, .int .i64 (x0.length : Int)), (9, .int .i64 aa)]) (fun (ae, ab, aa, ac, ad) w => ref10_plain.l1 ae x0 ab aa = some r ∧ St w0 ρ ((.row ac 74 rSpn.sz ab.length ad) :: Γ) w ∧ RowR rSpn ρ ad ab) (fun s => s.1) (K0, ([] : List Spn), 0, (.slice (some ⟨an, 0, none⟩) 0 0), ([])) (S4 rfl rfl rfl rfl) (Ai H (Ai hs ao)) ?_))
  rintro ⟨ae, ab, aa, ac, ad⟩ w bb ⟨H, hs, af⟩ ag
  show W _ _ _ _ _ _ [(3, ac), (7, v0), (8, .int .i64 (x0.length : Int)), (9, .int .i64 aa)] w
  cases ae with
  | zero => rw [ref10_plain.l1] at H; cases H
  | succ ae =>
  rw [ref10_plain.l1] at H
  refine Wr fun bc au => O_y rfl (Y_lss rfl rfl) <| O_nil (au _ _ <| W_seq fun bd av => W_if rfl (fun ah => ?_) (fun ah => ?_))
  ·rw [if_pos ah] at H
   refine W_skip (av _ _ <| W_seq fun be aw => W_block fun bf bg bh => W_seq fun bi ax => W_region ?_)
   obtain ⟨aj, H⟩ := gd H
   obtain ⟨bj, bk, ay, az⟩ := h0.ix el25 aj.1 aj.2
   obtain ⟨_, rfl, a0⟩ := ay
   refine O_y rfl (az rfl rfl) <| O_y rfl (Y_loadN ag110 sz110 rfl rfl (fun j u hu => hs.see (a0 j u hu))) <| O_alloc zr110 hs rfl (fun bl w hs => O_storeN (i := 0) sz110 hs rfl rfl rfl rfl rfl (one_cons rfl (one_cons rfl one_nil)) (fun w hs => O_nil (ax _ _ <| W_region <| Om rfl rfl <| O_y rfl (Y_field fo110_0 rfl) <| O_y rfl (Yb 0 ag21 hs rfl rfl rfl) <| O_y rfl (Y_field fo110_1 rfl) <| O_y rfl (Yb 0 ag21 hs rfl rfl rfl) <| O_y rfl (Y_build (cs := [.int .i32 ((rd x0 aa).lo), .int .i32 ((rd x0 aa).hi)]) zr74 pl74 ((Parts.cons rfl rfl (Parts.cons rfl rfl Parts.nil))) ag74 (by kernel_rfl)) <| O_lit2 (xs := [.tmp 18]) (cs := [.int .i32 ((rd x0 aa).lo), .int .i32 ((rd x0 aa).hi)]) el32 hs rfl rfl rfl (by decide) (by decide) rfl (sz_cons rfl sz_nil) (flat_cons rfl flat_nil) (fun bm w hs => ?_))))
   have ak : RowR rSpn ρ ([.int .i32 ((rd x0 aa).lo), .int .i32 ((rd x0 aa).hi)]) [(⟨(rd x0 aa).lo, (rd x0 aa).hi⟩ : Spn)] := RowR.cons (c := [.int .i32 ((rd x0 aa).lo), .int .i32 ((rd x0 aa).hi)]) (x := (⟨(rd x0 aa).lo, (rd x0 aa).hi⟩ : Spn)) rfl (RowR.nil _ _)
   obtain ⟨a1, H⟩ := gd H
   refine O_appendR (i := 2) el32 hs rfl af rfl rfl rfl (Src.lit (j := 0) hs rfl ak) ak a1 (fun a2 ai w a3 hs => Oa rfl rfl <| O_nil (aw _ _ <| W.weak [(3, _), (7, _), (8, _), (9, _)] (S4 rfl rfl rfl rfl) <| W_region <| O_y rfl (Y_add rfl rfl) <| Om rfl rfl <| O_nil (ag (ae, (ab ++ ([(⟨(rd x0 aa).lo, (rd x0 aa).hi⟩ : Spn)])), (IntKind.i64.wrap (aa + 1)), a2, ai) _ _ (S4 rfl rfl rfl rfl) (Ai H (Ai (hs.sub (ssk (ssk (ssc ssr)))) a3)) (Nat.lt_succ_self _))))
  ·rw [if_neg ah] at H
   refine W_exit (ar _ _ (ap _ _ <| Wr fun bn a4 => Om rfl rfl <| Oa rfl rfl <| O_nil (a4 _ _ <| W_ret ?_)))
   obtain rfl := sinj H
   exact ret1 rfl rfl ⟨_, _, _, rfl, Le.rfl' _, hs, af⟩

def ref10_Of.f (x0 : Bk) : Option Bk := if ([] : List ByteArray).length + x0.names.length ≤ most then ((ref10_values.f x0.status).bind fun di => ((ref10_lists.f x0.maps).bind fun bh => ((ref10_values.f x0.class_).bind fun bi => ((ref10_lists.f x0.decomp).bind fun bj => ((ref10_plain.f x0.excl).bind fun bk => ((ref10_values.f x0.bidi).bind fun bl => ((ref10_values.f x0.join).bind fun bm => ((ref10_plain.f x0.marks).bind fun bn => ((ref10_values.f x0.script).bind fun bo => ((ref10_lists.f x0.like).bind fun bp => (some (⟨([] : List ByteArray) ++ x0.names, di, bh, bi, bj, bk, bl, bm, bn, bo, bp⟩ : Bk)))))))))))) else none
theorem ref10_Of.c {w0 w : World} {ρ : Hp} {Γ : List Item} (hs : St w0 ρ (Γ) w) {c0 : List Value} {x0 : Bk} (h0 : rBk.R ρ c0 x0) {r : Bk} (H : ref10_Of.f x0 = some r) : CallsR Tryz.prog 17 [.agg c0.toArray] w (fun v w' => ∃ (ρ' : Hp) (cs0 : List Value), v = .agg cs0.toArray ∧ Le ρ ρ' ∧ St w0 ρ' (Γ) w' ∧ rBk.R ρ' cs0 r) := by
  rw [ref10_Of.f] at H
  refine enter Tryz.func17 Tryz.ntmps17 rfl (by kernel_rfl) rfl ?_
  have ee := h0
  obtain ⟨dj, dk, dl, dm, dn, dp, dq, dr, ds, dt, du, rfl, ef, eg, eh, ei, ej, ek, el, em, en, eo, ep⟩ := ee
  refine Wr fun gk eq => O_boxN (cs := [dj, dk, dl, dm, dn, dp, dq, dr, ds, dt, du]) hs rfl rfl (fun er w hs => O_alloc zr34 hs rfl (fun es w hs => O_nil (eq _ _ <| W_seq fun gl et => W_drawS 36 [0, 0, 2, 5, 0, 16, 40, 0, 128, 320, 0, 1024, 2560, 0, 8192, 20480, 0, 65536, 163840, 0, 524288, 1310720, 0, 4194304, 10485760, 0, 33554432, 83886080, 0, 268435456, 671088640, 0, 2147483648, 5368709120, 9817068104, 34359738367] [34359738358, 34359738361, 34359738353, 17179869104, 34359738319, 34359738255, 17179868544, 34359737983, 34359737471, 17179864064, 34359735295, 34359731199, 17179828224, 34359713791, 34359681023, 17179541504, 34359541759, 34359279615, 17177247744, 34358165503, 34356068351, 17158897664, 34347155455, 34330378239, 17012097024, 34259075071, 34124857343, 15837691904, 33554431999, 32480690175, 6442450944, 27917287423, 19327352831, 0, 0, 0] [0, 0, 2, 7, 0, 16, 63, 0, 128, 511, 0, 1024, 4095, 0, 8192, 32767, 0, 65536, 262143, 0, 524288, 2097151, 0, 4194304, 16777215, 0, 33554432, 134217727, 0, 268435456, 1073741823, 0, 2147483648, 8589934591, 17179869183, 34359738367] [35] (fun w => St w0 ρ ((.box es 34 ([.slice none 0 0, .slice none 0 0, .slice none 0 0, .slice none 0 0, .slice none 0 0, .slice none 0 0, .slice none 0 0, .slice none 0 0, .slice none 0 0, .slice none 0 0, .slice none 0 0])) :: (.box er 27 ([dj, dk, dl, dm, dn, dp, dq, dr, ds, dt, du])) :: Γ) w) mixed (by kernel_rfl) (fun sh => ?_))))
  have hs := hs.drew
  refine Dp 1 sh rfl rfl (by kernel_rfl) (fun w => Y_field fo27_0 rfl) <| Dy 2 sh rfl rfl (by kernel_rfl) hs (fun w hs => Yb 1 ag22 hs rfl rfl rfl) <| Dp 4 sh rfl rfl (by kernel_rfl) (fun w => Y_field fo27_1 rfl) <| Dy 5 sh rfl rfl (by kernel_rfl) hs (fun w hs => Yb 1 ag23 hs rfl rfl rfl) <| Dp 7 sh rfl rfl (by kernel_rfl) (fun w => Y_field fo27_2 rfl) <| Dy 8 sh rfl rfl (by kernel_rfl) hs (fun w hs => Yb 1 ag24 hs rfl rfl rfl) <| Dp 10 sh rfl rfl (by kernel_rfl) (fun w => Y_field fo27_3 rfl) <| Dy 11 sh rfl rfl (by kernel_rfl) hs (fun w hs => Yb 1 ag23 hs rfl rfl rfl) <| Dp 13 sh rfl rfl (by kernel_rfl) (fun w => Y_field fo27_4 rfl) <| Dy 14 sh rfl rfl (by kernel_rfl) hs (fun w hs => Yb 1 ag24 hs rfl rfl rfl) <| Dp 16 sh rfl rfl (by kernel_rfl) (fun w => Y_field fo27_5 rfl) <| Dy 17 sh rfl rfl (by kernel_rfl) hs (fun w hs => Yb 1 ag25 hs rfl rfl rfl) <| Dp 19 sh rfl rfl (by kernel_rfl) (fun w => Y_field fo27_6 rfl) <| Dy 20 sh rfl rfl (by kernel_rfl) hs (fun w hs => Yb 1 ag23 hs rfl rfl rfl) ?_
  refine Dp 22 sh rfl rfl (by kernel_rfl) (fun w => Y_field fo27_7 rfl) <| Dy 23 sh rfl rfl (by kernel_rfl) hs (fun w hs => Yb 1 ag23 hs rfl rfl rfl) <| Dp 25 sh rfl rfl (by kernel_rfl) (fun w => Y_field fo27_8 rfl) <| Dy 26 sh rfl rfl (by kernel_rfl) hs (fun w hs => Yb 1 ag25 hs rfl rfl rfl) <| Dp 28 sh rfl rfl (by kernel_rfl) (fun w => Y_field fo27_9 rfl) <| Dy 29 sh rfl rfl (by kernel_rfl) hs (fun w hs => Yb 1 ag23 hs rfl rfl rfl) <| Dp 31 sh rfl rfl (by kernel_rfl) (fun w => Y_field fo27_10 rfl) <| Dy 32 sh rfl rfl (by kernel_rfl) hs (fun w hs => Yb 1 ag24 hs rfl rfl rfl) <| D1 0 sh rfl (by kernel_rfl) (fun gm eu => O_lit2 (xs := []) (cs := []) el22 hs rfl rfl rfl (by decide) (by decide) rfl sz_nil flat_nil (fun gn w hs => ?_))
  have ev : RowR Rep.str ρ ([]) ([] : List ByteArray) := RowR.nil _ _
  refine O_nil (eu _ _ (fun _ _ => (hs.sub (ssk (ssc (ssc ssr))))) ?_)
  obtain ⟨ew, b0, b1⟩ := Src.sl hs ef
  obtain ⟨ex, H⟩ := gd H
  refine D1 3 sh rfl (by kernel_rfl) (fun go ey => O_appendR (i := 0) el22 hs rfl ev rfl rfl rfl b0 b1 ex (fun ez e0 w e1 hs => O_nil (ey _ _ (fun _ _ => (hs.sub (ssk (ssc (ssc ssr))))) <| D1 6 sh rfl (by kernel_rfl) (fun gp e2 => ?_))))
  obtain ⟨di, b2, H⟩ := bnd H
  refine O_call rfl rfl (ref10_values.c hs eg b2) (fun e3 w hpost => ?_)
  obtain ⟨e4, gq, e5, rfl, au, hs, b3⟩ := hpost
  refine O_nil (e2 _ _ (fun _ _ => ((hs.less au).sub (ssk (ssk (ssc (ssc ssr)))))) <| D1 9 sh rfl (by kernel_rfl) (fun e6 b4 => ?_))
  obtain ⟨bh, bq, H⟩ := bnd H
  refine O_call rfl rfl (ref10_lists.c hs (eh.mono au) bq) (fun b5 w hpost => ?_)
  obtain ⟨e7, e8, dv, rfl, aw, hs, b6⟩ := hpost
  have ax := au.trans aw
  refine O_nil (b4 _ _ (fun _ _ => ((hs.less ax).sub (ssk (ssk (ssk (ssc (ssc ssr))))))) <| D1 12 sh rfl (by kernel_rfl) (fun e9 b7 => ?_))
  obtain ⟨bi, br, H⟩ := bnd H
  refine O_call rfl rfl (ref10_values.c hs (ei.mono ax) br) (fun b8 w hpost => ?_)
  obtain ⟨fa, fb, dw, rfl, av, hs, b9⟩ := hpost
  have ay := ax.trans av
  refine O_nil (b7 _ _ (fun _ _ => ((hs.less ay).sub (ssk (ssk (ssk (ssk (ssc (ssc ssr)))))))) <| D1 15 sh rfl (by kernel_rfl) (fun fc ca => ?_))
  obtain ⟨bj, bs, H⟩ := bnd H
  refine O_call rfl rfl (ref10_lists.c hs (ej.mono ay) bs) (fun cb w hpost => ?_)
  obtain ⟨fd, fe, dx, rfl, ar, hs, cc⟩ := hpost
  have az := ay.trans ar
  refine O_nil (ca _ _ (fun _ _ => ((hs.less az).sub (ssk (ssk (ssk (ssk (ssk (ssc (ssc ssr))))))))) <| D1 18 sh rfl (by kernel_rfl) (fun ff cd => ?_))
  obtain ⟨bk, bt, H⟩ := bnd H
  refine O_call rfl rfl (ref10_plain.c hs (ek.mono az) bt) (fun ce w hpost => ?_)
  obtain ⟨fg, fh, dy, rfl, aq, hs, cf⟩ := hpost
  have a0 := az.trans aq
  refine O_nil (cd _ _ (fun _ _ => ((hs.less a0).sub (ssk (ssk (ssk (ssk (ssk (ssk (ssc (ssc ssr)))))))))) <| D1 21 sh rfl (by kernel_rfl) (fun fi cg => ?_))
  obtain ⟨bl, bu, H⟩ := bnd H
  refine O_call rfl rfl (ref10_values.c hs (el.mono a0) bu) (fun ch w hpost => ?_)
  obtain ⟨fj, fk, dz, rfl, ap, hs, ci⟩ := hpost
  have a1 := a0.trans ap
  refine O_nil (cg _ _ (fun _ _ => ((hs.less a1).sub (ssk (ssk (ssk (ssk (ssk (ssk (ssk (ssc (ssc ssr))))))))))) <| D1 24 sh rfl (by kernel_rfl) (fun fl cj => ?_))
  obtain ⟨bm, bv, H⟩ := bnd H
  refine O_call rfl rfl (ref10_values.c hs (em.mono a1) bv) (fun ck w hpost => ?_)
  obtain ⟨fm, fn, ea, rfl, ao, hs, cl⟩ := hpost
  have a2 := a1.trans ao
  refine O_nil (cj _ _ (fun _ _ => ((hs.less a2).sub (ssk (ssk (ssk (ssk (ssk (ssk (ssk (ssk (ssc (ssc ssr)))))))))))) <| D1 27 sh rfl (by kernel_rfl) (fun fo cm => ?_))
  obtain ⟨bn, bw, H⟩ := bnd H
  refine O_call rfl rfl (ref10_plain.c hs (en.mono a2) bw) (fun cn w hpost => ?_)
  obtain ⟨fp, fq, eb, rfl, an, hs, co⟩ := hpost
  have a3 := a2.trans an
  refine O_nil (cm _ _ (fun _ _ => ((hs.less a3).sub (ssk (ssk (ssk (ssk (ssk (ssk (ssk (ssk (ssk (ssc (ssc ssr))))))))))))) <| D1 30 sh rfl (by kernel_rfl) (fun fr cp => ?_))
  obtain ⟨bo, bx, H⟩ := bnd H
  refine O_call rfl rfl (ref10_values.c hs (eo.mono a3) bx) (fun cq w hpost => ?_)
  obtain ⟨fs, ft, ec, rfl, am, hs, cr⟩ := hpost
  have a4 := a3.trans am
  refine O_nil (cp _ _ (fun _ _ => ((hs.less a4).sub (ssk (ssk (ssk (ssk (ssk (ssk (ssk (ssk (ssk (ssk (ssc (ssc ssr)))))))))))))) <| D1 33 sh rfl (by kernel_rfl) (fun fu ct => ?_))
  obtain ⟨bp, bz, H⟩ := bnd H
  refine O_call rfl rfl (ref10_lists.c hs (ep.mono a4) bz) (fun cu w hpost => ?_)
  obtain ⟨fv, fw, ed, rfl, al, hs, cv⟩ := hpost
  have a5 := a4.trans al
  refine O_nil (ct _ _ (fun _ _ => ((hs.less a5).sub (ssk (ssk (ssk (ssk (ssk (ssk (ssk (ssk (ssk (ssk (ssk (ssc (ssc ssr))))))))))))))) ?_)
  obtain ⟨fx, aa, hs, a6⟩ := hs.rowEnd (j := 10) (e1.mono a5) rfl
  have cw := a5.trans aa
  obtain ⟨fy, ab, hs, a7⟩ := hs.rowEnd (j := 9) (b3.mono (((((((((aw.trans av).trans ar).trans aq).trans ap).trans ao).trans an).trans am).trans al).trans aa)) rfl
  have cx := cw.trans ab
  obtain ⟨fz, ac, hs, a8⟩ := hs.rowEnd (j := 8) (b6.mono (((((((((av.trans ar).trans aq).trans ap).trans ao).trans an).trans am).trans al).trans aa).trans ab)) rfl
  have cy := cx.trans ac
  obtain ⟨ga, ad, hs, a9⟩ := hs.rowEnd (j := 7) (b9.mono (((((((((ar.trans aq).trans ap).trans ao).trans an).trans am).trans al).trans aa).trans ab).trans ac)) rfl
  have cz := cy.trans ad
  obtain ⟨gb, ae, hs, ba⟩ := hs.rowEnd (j := 6) (cc.mono (((((((((aq.trans ap).trans ao).trans an).trans am).trans al).trans aa).trans ab).trans ac).trans ad)) rfl
  have da := cz.trans ae
  obtain ⟨gc, af, hs, bb⟩ := hs.rowEnd (j := 5) (cf.mono (((((((((ap.trans ao).trans an).trans am).trans al).trans aa).trans ab).trans ac).trans ad).trans ae)) rfl
  have db := da.trans af
  obtain ⟨ge, ag, hs, bc⟩ := hs.rowEnd (j := 4) (ci.mono (((((((((ao.trans an).trans am).trans al).trans aa).trans ab).trans ac).trans ad).trans ae).trans af)) rfl
  have dc := db.trans ag
  obtain ⟨gf, ah, hs, bd⟩ := hs.rowEnd (j := 3) (cl.mono (((((((((an.trans am).trans al).trans aa).trans ab).trans ac).trans ad).trans ae).trans af).trans ag)) rfl
  have dd := dc.trans ah
  obtain ⟨gg, ai, hs, be⟩ := hs.rowEnd (j := 2) (co.mono (((((((((am.trans al).trans aa).trans ab).trans ac).trans ad).trans ae).trans af).trans ag).trans ah)) rfl
  have de := dd.trans ai
  obtain ⟨gh, aj, hs, bf⟩ := hs.rowEnd (j := 1) (cr.mono (((((((((al.trans aa).trans ab).trans ac).trans ad).trans ae).trans af).trans ag).trans ah).trans ai)) rfl
  have df := de.trans aj
  obtain ⟨gi, ak, hs, bg⟩ := hs.rowEnd (j := 0) (cv.mono (((((((((aa.trans ab).trans ac).trans ad).trans ae).trans af).trans ag).trans ah).trans ai).trans aj)) rfl
  have dg := df.trans ak
  refine Dp 34 sh rfl rfl (by kernel_rfl) (fun w => Y_build (cs := [ez, e3, b5, b8, cb, ce, ch, ck, cn, cq, cu]) zr34 pl34 ((Parts.cons rfl a6.cellsL (Parts.cons rfl a7.cellsL (Parts.cons rfl a8.cellsL (Parts.cons rfl a9.cellsL (Parts.cons rfl ba.cellsL (Parts.cons rfl bb.cellsL (Parts.cons rfl bc.cellsL (Parts.cons rfl bd.cellsL (Parts.cons rfl be.cellsL (Parts.cons rfl bf.cellsL (Parts.cons rfl bg.cellsL Parts.nil)))))))))))) ag34 (by kernel_rfl)) <| D1 35 sh rfl (by kernel_rfl) (fun gj dh => O_storeN (i := 0) sz34 hs rfl rfl rfl rfl rfl (one_cons a6.one (one_cons a7.one (one_cons a8.one (one_cons a9.one (one_cons ba.one (one_cons bb.one (one_cons bc.one (one_cons bd.one (one_cons be.one (one_cons bf.one (one_cons bg.one one_nil))))))))))) (fun w hs => O_nil (dh _ _ (fun _ _ => by first | contradiction | (rename_i h; cases h)) <| OD_doneS sh (by kernel_rfl) (et _ _ <| W.weak [(2, _)] (S1 rfl) <| W_ret ?_))))
  obtain rfl := sinj H
  exact retc (i := 0) rfl rfl ag34 sz34 hs rfl rfl ⟨_, _, rfl, dg, (hs.sub (ssk (ssk ssr))), ⟨_, _, _, _, _, _, _, _, _, _, _, rfl, (a6.mono (((((((((ab.trans ac).trans ad).trans ae).trans af).trans ag).trans ah).trans ai).trans aj).trans ak)), (a7.mono ((((((((ac.trans ad).trans ae).trans af).trans ag).trans ah).trans ai).trans aj).trans ak)), (a8.mono (((((((ad.trans ae).trans af).trans ag).trans ah).trans ai).trans aj).trans ak)), (a9.mono ((((((ae.trans af).trans ag).trans ah).trans ai).trans aj).trans ak)), (ba.mono (((((af.trans ag).trans ah).trans ai).trans aj).trans ak)), (bb.mono ((((ag.trans ah).trans ai).trans aj).trans ak)), (bc.mono (((ah.trans ai).trans aj).trans ak)), (bd.mono ((ai.trans aj).trans ak)), (be.mono (aj.trans ak)), (bf.mono ak), bg⟩⟩

end Go.Proofs.YtekafkokpnihfaaGreat
