/- Texts of this repo, merged for the claim: TV0, TK0, PureS, PureA, PureT, PureU, PureV, PureW, PureB, PureC, PureD, PureE, PureF, PureG, PureH, PureI, PureJ. -/
import Derived.Test.YthoicbafdanmkaaGreatDoorWhole1
import Derived.Test.YthoicbafdanmkaaGreatDoorWhole4
import Derived.Test.YthoicbafdanmkaaGreatDoorWhole5
import Derived.Test.YthoicbafdanmkaaGreatDoorWhole0
import Derived.Test.YthoicbafdanmkaaGreatDoorWhole2
import Derived.Test.YthoicbafdanmkaaGreatDoorWhole3
/- Written by this repo's gen.py: for each Go function a Lean function with the same answers and the walk that shows it. -/
namespace Go.Proofs.YthoicbafdanmkaaGreatDoor
open Go.IntKind (i8 i16 i32 i64 u8 u16 u32 u64)
open Go.RowKit
set_option maxRecDepth 100000
set_option maxHeartbeats 4000000
variable {w0 w : World} {ρ : Hp} {Γ : List Q5}
set_option linter.unusedVariables false
def H6.f (x0 : Option Tbs) (x1 : Int) : Option (List Int) := if ((x0).isNone) = true then (some ([] : List Int)) else (if x0.isSome = true then ((Hr.f (((x0).getD default).maps) ((((x0).getD default).b).maps) x1).bind fun aa => (some aa)) else none)
theorem H6.c (hs : St w0 ρ (Γ) w) {v0 : Value} {x0 : Option Tbs} (h0 : Xs Hm ρ v0 x0) {x1 : Int} {r : List Int} (H : H6.f x0 x1 = some r) : Zn Tryz.prog 81 [v0, .int .i32 x1] w (fun v w' => ∃ (ρ' : Hp) (v0 : Value) (cs0 : List Value), v = v0 ∧ Le ρ ρ' ∧ St w0 ρ' (.row v0 21 (Rep.int .i32).sz r.length cs0 :: Γ) w' ∧ Zm (Rep.int .i32) ρ' cs0 r) := by
 rw [H6.f] at H
 refine Et Tryz.func81 Tryz.ntmps81 rfl <| Wr fun cm ap => As rfl <| Ox ap <| Zh fun cn aq => Wr fun co ar => Mv rfl <| O_y rfl ((h0.eqn Zl0 rfl rfl)) <| Ox ar <| Xg rfl (fun ae => ?_) (fun ae => ?_)
 rw [if_pos ae] at H
 refine Wr fun cp au => As rfl <| Ox au <| Zk ?_
 have hs := hs.rowNil 21 (Rep.int .i32).sz
 have av := Zm.nil (Rep.int .i32) ρ
 obtain rfl := Zz H
 exact r1 rfl ⟨_, _, _, rfl, Le.rfl' _, hs, av⟩
 rw [if_neg (bft ae)] at H
 refine Wx aq <| Zh fun cq aw => Qn 12 [0, 1, 2, 4, 0, 16, 32, 64, 128, 0, 776, 2047] [2044, 2040, 2032, 1008, 1999, 1935, 1807, 1551, 527, 511, 0, 0] [0, 1, 3, 7, 0, 16, 48, 112, 240, 0, 1023, 2047] [10, 11] (fun w => St w0 ρ (Γ) w) Vl (by kernel_rfl) (fun sh => ?_)
 have hs := hs.drew
 refine Fm 0 sh rfl ?_
 obtain ⟨an, H⟩ := gd H
 obtain ⟨cr, af, ax⟩ := h0.open an
 obtain ⟨_, ⟨cs, ct, cu, cv, cw, cx, cy, cz, da, db, dc, dd, de, df, dg, dh, ay, az, a0, a1, a2, a3, rfl, di, dj, dk, dl, dm, dn, dp, dq, dr, ds, dt, du, dv, dw, dx, dy, a4, a5, ag, a6, a7, a8⟩, ah⟩ := ax
 refine Fp 1 sh rfl (fun w => K1 (congrArg some af)) <| Fp 2 sh rfl (fun w => Zp Zos rfl) <| Fy 3 sh rfl hs (fun w hs => Xp Zcc rfl (hs.see (ah 18 _ rfl))) <| Fm 4 sh rfl ?_
 obtain ⟨a9, ab, ai⟩ := h0.open an
 obtain ⟨_, ⟨ba, bb, bc, bd, be, bf, bg, bh, bi, bj, bk, bl, bm, bn, bo, bp, bq, br, bs, bt, bu, bv, rfl, bw, bx, aj, bz, b0, b1, b2, b3, b4, b5, b6, b7, b8, b9, ca, cb, cc, cd, ce, cf, cg, ch⟩, ak⟩ := ai
 refine Fp 5 sh rfl (fun w => K1 (congrArg some ab)) <| Fp 6 sh rfl (fun w => Zp Zo9 rfl) <| Fp 7 sh rfl (fun w => Zp Zik rfl) <| Fy 8 sh rfl hs (fun w hs => Xp Zdw rfl (hs.see (ak 2 _ rfl))) <| Fm 9 sh rfl <| F1 10 sh rfl (fun ci al => ?_)
 obtain ⟨aa, ac, H⟩ := bnd H
 refine Oc rfl (Hr.c hs ag aj ac) (fun cj w hpost => ?_)
 obtain ⟨ck, cl, ao, rfl, ad, hs, am⟩ := hpost
 refine Zd (al _ _ (fun h _ => absurd h (by decide)) <| Ke sh [] hs (by kernel_rfl) <| Fp 11 sh rfl (fun w => Xv rfl) <| FE sh (aw _ _ <| W.weak [(4, _)] (S1 rfl) <| Zk ?_))
 obtain rfl := Zz H
 exact r1 rfl ⟨_, _, _, rfl, ad, hs, am⟩

def Vs.f (x0 x1 : Int) (y1 : List Int) : Option (List Int) := if y1.length + ([x0]).length ≤ most then (some (y1 ++ ([x0]))) else none
theorem Vs.c {pb0 : Nat} {w1 : Value} {d1 : List Value} {y1 : List Int} (hs : St w0 ρ ((.box pb0 28 ([w1])) :: (.row w1 21 ((Rep.int .i32).sz) y1.length d1) :: Γ) w) {x0 x1 : Int} (g1 : Zm (Rep.int .i32) ρ d1 y1) {r : List Int} (H : Vs.f x0 x1 y1 = some r) : Zn Tryz.prog 46 [.int .i32 x0, .int .i64 x1, .pointer (some ⟨pb0, 0, none⟩)] w (fun v w' => ∃ (ρ' : Hp) (u0 : Value) (ds0 : List Value), v = .tuple #[] ∧ Le ρ ρ' ∧ St w0 ρ' ((.box pb0 28 ([u0])) :: (.row u0 21 ((Rep.int .i32).sz) r.length ds0) :: Γ) w' ∧ Zm (Rep.int .i32) ρ' ds0 r) := by
 rw [Vs.f] at H
 refine Et Tryz.func46 Tryz.ntmps46 rfl <| Zc <| Obx 0 Za8 hs rfl <| Mv rfl <| Ku (xs := [.tmp 6]) (cs := [.int .i32 x0]) Q7 hs rfl rfl rfl (by decide) (by decide) rfl (Yc rfl Kb) (Zv rfl Xy) (fun ae w hs => ?_)
 have aa : Zm (Rep.int .i32) ρ ([.int .i32 x0]) [x0] := Zm.cons (c := [.int .i32 x0]) (x := x0) rfl (Zm.nil _ _)
 obtain ⟨ab, H⟩ := gd H
 refine Qt (i := 2) Q7 hs rfl g1 rfl rfl rfl (Src.lit (j := 0) hs rfl aa) aa ab (fun af ac w ad hs => Vu (i := 1) Zte hs rfl rfl rfl rfl (St.rowOne hs (j := 2) rfl) (fun w hs => Zd ?_))
 obtain rfl := Zz H
 exact Zgj rfl ⟨_, _, _, rfl, Le.rfl' _, (hs.sub (ssk (ssc (ssc ssr)))), ad⟩

def Yk.j1 (aq : List Int → Int → Option (List Int)) (aa : Int) (ae : List Int) : Option (List Int) := aq ae (i64.wrap (aa + 1))
def Yk.l1 (aq : List Int → Int → Option (List Int)) : Nat → Int → List Int → List Int → Int → Option (List Int)
  | 0, _, _, _, _ => none
  | am + 1, aa, aw, ac, ad => if ad < (aw.length : Int) then (if (0 : Int) ≤ ad ∧ ad < (aw.length : Int) then ((Vs.f (rd aw ad) aa ac).bind fun a3 => ((Yk.l1 aq am aa aw) a3 (i64.wrap (ad + 1)))) else none) else (Yk.j1 aq aa ac)
def Yk.l2 : Nat → Option Tbs → List Int → List Int → Int → Option (List Int)
  | 0, _, _, _, _ => none
  | an + 1, x0, x1, ab, aa => if aa < (x1.length : Int) then (if (0 : Int) ≤ aa ∧ aa < (x1.length : Int) then ((Qy.f x0 (rd x1 aa)).bind fun bg => (if bg = 2 then (Yk.j1 (Yk.l2 an x0 x1) aa ab) else (if bg = 4 then ((H6.f x0 (rd x1 aa)).bind fun aw => (Yk.l1 (Yk.l2 an x0 x1) K0 aa aw ab 0)) else ((Vs.f (rd x1 aa) aa ab).bind fun a4 => (Yk.j1 (Yk.l2 an x0 x1) aa a4))))) else none) else (some ab)
def Yk.f (x0 : Option Tbs) (x1 y1 : List Int) : Option (List Int) := Yk.l2 K0 x0 x1 y1 0
theorem Yk.c {pb0 : Nat} {w1 : Value} {d1 : List Value} {y1 : List Int} (hs : St w0 ρ ((.box pb0 28 ([w1])) :: (.row w1 21 ((Rep.int .i32).sz) y1.length d1) :: Γ) w) {v0 : Value} {x0 : Option Tbs} (h0 : Xs Hm ρ v0 x0) {v1 : Value} {x1 : List Int} (h1 : SlR (Rep.int .i32) ρ v1 x1) (g1 : Zm (Rep.int .i32) ρ d1 y1) {r : List Int} (H : Yk.f x0 x1 y1 = some r) : Zn Tryz.prog 45 [v0, v1, .func (.func 46) #[] #[.pointer (some ⟨pb0, 0, none⟩)]] w (fun v w' => ∃ (ρ' : Hp) (u0 : Value) (ds0 : List Value), v = .tuple #[] ∧ Le ρ ρ' ∧ St w0 ρ' ((.box pb0 28 ([u0])) :: (.row u0 21 ((Rep.int .i32).sz) r.length ds0) :: Γ) w' ∧ Zm (Rep.int .i32) ρ' ds0 r) := by
 rw [Yk.f] at H
 refine Et Tryz.func45 Tryz.ntmps45 rfl <| Wr fun cu b3 => Mv rfl <| O_y rfl (Yv V2 h1 rfl) <| Mv rfl <| Ox b3 <| Zj fun cv b4 cw => Y9 (σ := Nat × List Int × Int × Value × List Value × Hp) (fun (an, ab, aa, af, ag, au) => [(0, v0), (2, .func (.func 46) #[] #[.pointer (some ⟨pb0, 0, none⟩)]), (10, v1), (11, .int .i64 (x1.length : Int)), (12, .int .i64 aa)]) (fun (an, ab, aa, af, ag, au) w => Yk.l2 an x0 x1 ab aa = some r ∧ Le ρ au ∧ St w0 au ((.box pb0 28 ([af])) :: (.row af 21 ((Rep.int .i32).sz) ab.length ag) :: Γ) w ∧ Zm (Rep.int .i32) au ag ab) (fun s => s.1) (K0, y1, 0, w1, d1, ρ) sbn (Ai H (Ai (Le.rfl' _) (Ai hs g1))) ?_
 rintro ⟨an, ab, aa, af, ag, au⟩ w cx ⟨H, ar, hs, aj⟩ a5
 show W _ _ _ _ _ _ [(0, v0), (2, .func (.func 46) #[] #[.pointer (some ⟨pb0, 0, none⟩)]), (10, v1), (11, .int .i64 (x1.length : Int)), (12, .int .i64 aa)] w
 cases an with
 | zero => rw [Yk.l2] at H; cases H
 | succ an =>
 rw [Yk.l2] at H
 refine Wr fun cy b5 => Ols rfl <| Ox b5 <| Zh fun cz b6 => Y7 rfl (fun bh => ?_) (fun bh => ?_)
 rw [if_pos bh] at H
 refine Wx b6 <| Yu fun b7 b8 bi => ?_
 have bj : ∀ (ae : List Int) (ak : Value) (al : List Value) (ax : Hp) (w : World), Yk.j1 (Yk.l2 an x0 x1) aa ae = some r → Le au ax → St w0 ax ((.box pb0 28 ([ak])) :: (.row ak 21 ((Rep.int .i32).sz) ae.length al) :: Γ) w → Zm (Rep.int .i32) ax al ae → b7 [(0, v0), (2, .func (.func 46) #[] #[.pointer (some ⟨pb0, 0, none⟩)]), (10, v1), (11, .int .i64 (x1.length : Int)), (12, .int .i64 aa)] w := by
  intro ae ak al ax w H a7 hs ay
  rw [Yk.j1] at H
  refine b8 _ _ <| Zc <| Oad rfl <| Mv rfl <| Zd (a5 (an, ae, (i64.wrap (aa + 1)), ak, al, ax) _ _ sbn (Ai H (Ai (ar.trans a7) (Ai hs ay))) (Nat.lt_succ_self _))
 refine Zj fun da db dc => Wr fun dd b9 => Mv rfl ?_
 obtain ⟨b2, H⟩ := gd H
 obtain ⟨de, df, ca, cb⟩ := (h1.mono ar).ix Q7 b2.1 b2.2
 refine O_y rfl (cb rfl rfl) <| O_y rfl (Xp Xm rfl (hs.see ca.int)) <| As rfl <| As rfl <| Ox b9 <| Wr fun dg cc => Mv rfl <| Mv rfl ?_
 obtain ⟨bg, bk, H⟩ := bnd H
 refine Oc rfl (Qy.c hs (h0.mono ar) bk) (fun dh w hpost => ?_)
 obtain ⟨rfl, hs⟩ := hpost
 refine Ox cc <| Zj fun di dj dk => Wr fun dl cd => Oeq rfl <| As rfl <| Ox cd <| W.weak [(0, _), (2, _), (6, _), (7, _), (10, _), (11, _), (12, _), (19, _), (24, _)] sbn ?_
 refine Y7 rfl (fun bl => ?_) (fun bl => ?_)
 rw [if_pos bl] at H
 exact Ua (bi _ _ _ sbn (bj ab af ag au _ H (Le.rfl' _) hs aj))
 rw [if_neg bl] at H
 refine Wr fun dm ce => Oeq rfl <| As rfl <| Ox ce <| Y7 rfl (fun bm => ?_) (fun bm => ?_)
 ·rw [if_pos bm] at H
  refine Wr fun dn cf => Mv rfl <| Mv rfl ?_
  obtain ⟨aw, bn, H⟩ := bnd H
  refine Oc rfl (H6.c hs (h0.mono ar) bn) (fun bo w hpost => ?_)
  obtain ⟨a8, dp, bp, rfl, a1, hs, cg⟩ := hpost
  refine O_y rfl (V8 (i := 0) V2 hs rfl rfl) <| Mv rfl <| Ox cf <| W.weak [(0, _), (2, _), (6, _), (10, _), (11, _), (12, _), (30, _), (31, _), (32, _)] sbn ?_
  refine Zj fun ch bq ci => Y9 (σ := Nat × List Int × Int × Value × List Value × Hp) (fun (am, ac, ad, ah, ai, ao) => [(0, v0), (2, .func (.func 46) #[] #[.pointer (some ⟨pb0, 0, none⟩)]), (6, .int .i64 aa), (10, v1), (11, .int .i64 (x1.length : Int)), (12, .int .i64 aa), (30, bo), (31, .int .i64 (aw.length : Int)), (32, .int .i64 ad)]) (fun (am, ac, ad, ah, ai, ao) w => Yk.l1 (Yk.l2 an x0 x1) am aa aw ac ad = some r ∧ Le a8 ao ∧ St w0 ao ((.row bo 21 ((Rep.int .i32).sz) aw.length bp) :: (.box pb0 28 ([ah])) :: (.row ah 21 ((Rep.int .i32).sz) ac.length ai) :: Γ) w ∧ Zm (Rep.int .i32) ao ai ac) (fun s => s.1) (K0, ab, 0, af, ag, a8) sbn (Ai H (Ai (Le.rfl' _) (Ai hs (aj.mono a1)))) ?_
  rintro ⟨am, ac, ad, ah, ai, ao⟩ w cj ⟨H, av, hs, ap⟩ a0
  show W _ _ _ _ _ _ [(0, v0), (2, .func (.func 46) #[] #[.pointer (some ⟨pb0, 0, none⟩)]), (6, .int .i64 aa), (10, v1), (11, .int .i64 (x1.length : Int)), (12, .int .i64 aa), (30, bo), (31, .int .i64 (aw.length : Int)), (32, .int .i64 ad)] w
  cases am with
  | zero => rw [Yk.l1] at H; cases H
  | succ am =>
  rw [Yk.l1] at H
  refine Wr fun ck br => Ols rfl <| Ox br <| Zh fun cl bs => Y7 rfl (fun a6 => ?_) (fun a6 => ?_)
  rw [if_pos a6] at H
  refine Wx bs <| Zh fun cm bt => Zj fun cn co cp => Zh fun cq bu => Zc ?_
  obtain ⟨az, H⟩ := gd H
  obtain ⟨cr, a2⟩ := hs.rowBlock (j := 0) rfl (by have := az.2; omega)
  obtain ⟨_, rfl, a9⟩ := (cg.mono av).at az.1 az.2
  refine O_y rfl (Vm (j := 0) Q7 hs rfl a2 rfl rfl az.1 az.2) <| O_y rfl (Xp Xm rfl (hs.rowCell (j := 0) rfl a2 (a9 0 _ rfl))) <| As rfl <| Ox bu <| Zc <| Mv rfl <| Mv rfl <| Mv rfl ?_
  have hs := hs.front 2 rfl
  have hs := hs.front 2 rfl
  obtain ⟨a3, ba, H⟩ := bnd H
  refine Xo rfl rfl rfl (Vs.c hs ap ba) (fun cs w hpost => ?_)
  obtain ⟨bv, bw, bb, rfl, bc, hs, bx⟩ := hpost
  have hs := hs.sink 2
  have hs := hs.sink 2
  refine Ox bt <| W.weak [(0, _), (2, _), (6, _), (10, _), (11, _), (12, _), (30, _), (31, _), (32, _)] sbn ?_
  refine Zc <| Oad rfl <| Mv rfl <| Zd (a0 (am, a3, (i64.wrap (ad + 1)), bw, bb, bv) _ _ sbn (Ai H (Ai (av.trans bc) (Ai hs bx))) (Nat.lt_succ_self _))
  rw [if_neg a6] at H
  exact Y4 (bq _ _ (bi _ _ _ sbn (bj ac ah ai ao _ H (a1.trans av) (hs.sub (ssk (ssc (ssc ssr)))) ap)))
 rw [if_neg bm] at H
 refine Zc <| Mv rfl <| Mv rfl <| Mv rfl ?_
 have hs := hs.front 1 rfl
 have hs := hs.front 1 rfl
 obtain ⟨a4, bd, H⟩ := bnd H
 refine Xo rfl rfl rfl (Vs.c hs aj bd) (fun ct w hpost => ?_)
 obtain ⟨bz, b0, be, rfl, bf, hs, b1⟩ := hpost
 have hs := hs.sink 1
 have hs := hs.sink 1
 exact Zd (bi _ _ _ sbn (bj a4 b0 be bz _ H bf hs b1))
 rw [if_neg bh] at H
 refine Y4 (b4 _ _ ?_)
 obtain rfl := Zz H
 exact Zgj rfl ⟨_, _, _, rfl, ar, hs, aj⟩

def Zal.f (x0 : Option Tbs) (x1 : List Int) : Option (List Int) := (Yk.f x0 x1 ([] : List Int)).bind fun ac => (some ac)
theorem Zal.c (hs : St w0 ρ (Γ) w) {v0 : Value} {x0 : Option Tbs} (h0 : Xs Hm ρ v0 x0) {v1 : Value} {x1 : List Int} (h1 : SlR (Rep.int .i32) ρ v1 x1) {r : List Int} (H : Zal.f x0 x1 = some r) : Zn Tryz.prog 24 [v0, v1] w (fun v w' => ∃ (ρ' : Hp) (v0 : Value) (cs0 : List Value), v = v0 ∧ Le ρ ρ' ∧ St w0 ρ' (.row v0 21 (Rep.int .i32).sz r.length cs0 :: Γ) w' ∧ Zm (Rep.int .i32) ρ' cs0 r) := by
 rw [Zal.f] at H
 refine Et Tryz.func24 Tryz.ntmps24 rfl <| Wr fun ak ad => As rfl <| Ox ad <| Wr fun al ae => Y6 Zxi hs rfl (fun am w hs => Ox ae <| Wr fun an af => Mv rfl <| Mv rfl <| O_y rfl (Ux rfl) ?_)
 have hs := hs.rowNil 21 (Rep.int .i32).sz
 have ag := Zm.nil (Rep.int .i32) ρ
 have hs := hs.front 1 rfl
 obtain ⟨ac, aa, H⟩ := bnd H
 refine Oc rfl (Yk.c hs h0 h1 ag aa) (fun ao w hpost => ?_)
 obtain ⟨ap, aq, ah, rfl, ab, hs, ai⟩ := hpost
 have hs := hs.sink 1
 refine Ox af <| Wr fun ar aj => Obx 1 Za8 hs rfl <| As rfl <| Ox aj <| Zk ?_
 obtain rfl := Zz H
 exact r1 rfl ⟨_, _, _, rfl, ab, (hs.sub (ssc (ssk ssr))), ai⟩

def Z3.j1 (a0 : Int → Option Bool) (aa : Int) (ag : Bool) : Option Bool := if ag = true then (some false) else (a0 (i64.wrap (aa + 1)))
def Z3.j2 (ak : Bool) : Option Bool := some ak
def Z3.l1 : Nat → List Int → (Option Tbs × Bk × Bool) → Int → Option Bool
  | 0, _, _, _ => none
  | af + 1, x1, aj, aa => if aa < (x1.length : Int) then (if (0 : Int) ≤ aa ∧ aa < (x1.length : Int) then ((X5.f aj.1 (rd x1 aa)).bind fun bx => (if (!bx) = true then (Z3.j1 (Z3.l1 af x1 aj) aa true) else (Z3.j1 (Z3.l1 af x1 aj) aa (decide ((rd x1 aa) = 46))))) else none) else ((Hz.f aj.1 x1).bind fun bz => (if bz = true then ((Zal.f aj.1 x1).bind fun b0 => ((K2.f b0 x1).bind fun b1 => (if b1 = true then ((J9.f x1).bind fun a5 => (Z3.j2 (!a5))) else (Z3.j2 false)))) else (Z3.j2 false)))
def Z3.j3 (x1 : List Int) (aj : Option Tbs × Bk × Bool) (al ah : Bool) : Option Bool := if ah = true then (some false) else (if (!al) = true then (some true) else (Z3.l1 K0 x1 aj 0))
def Z3.j4 (x1 x2 : List Int) (aj : Option Tbs × Bk × Bool) (ai : Bool) : Option Bool := if ai = true then (some false) else ((Ui.f aj.1 x1).bind fun al => ((X3.f aj.1 x1).bind fun an => ((Vx.f aj.1 x2).bind fun cx => ((Ui.f aj.1 x1).bind fun b2 => (if (b2 != al) = true then (Z3.j3 x1 aj al true) else ((X3.f aj.1 x1).bind fun b3 => (if (b3.length : Int) ≠ (an.length : Int) then (Z3.j3 x1 aj al true) else (Z3.j3 x1 aj al (al != (decide ((an.length : Int) = 0)))))))))))
def Z3.f (x0 : Bk) (x1 x2 : List Int) : Option Bool := (K5.f x0).bind fun aj => ((Kx.f).bind fun b4 => (if (!b4) = true then (Z3.j4 x1 x2 aj true) else (Z3.j4 x1 x2 aj (!aj.2.2))))
theorem Z3.c (hs : St w0 ρ (Γ) w) {c0 : List Value} {x0 : Bk} (h0 : rBk.R ρ c0 x0) {v1 : Value} {x1 : List Int} (h1 : SlR (Rep.int .i32) ρ v1 x1) {v2 : Value} {x2 : List Int} (h2 : SlR (Rep.int .i32) ρ v2 x2) {r : Bool} (H : Z3.f x0 x1 x2 = some r) : Zn Tryz.prog 6 [.agg c0.toArray, v1, v2] w (fun v w' => v = .bool r ∧ St w0 ρ Γ w') := by
 rw [Z3.f] at H
 refine Et Tryz.func6 Tryz.ntmps6 rfl ?_
 have ep := h0
 obtain ⟨bm, bn, bo, bp, bq, br, bs, bt, bu, bv, bw, rfl, gj, gk, gl, gm, gn, go, gp, gq, gr, gs, gt⟩ := ep
 refine Wr fun gu eq => Vg (cs := [bm, bn, bo, bp, bq, br, bs, bt, bu, bv, bw]) hs rfl rfl (fun b5 w hs => As rfl <| Ox eq <| Wr fun gv er => O_y rfl (Xk (i := 0) Zja Zje hs rfl rfl rfl rfl) ?_)
 obtain ⟨aj, cy, H⟩ := bnd H
 refine Oc rfl (K5.c hs h0 cy) (fun gw w hpost => ?_)
 obtain ⟨es, b6, et, rfl, ae, hs, a3, eu⟩ := hpost
 have cz := eu
 obtain ⟨b7, b8, b9, ca, cb, cc, ar, au, av, aw, ax, rfl, ev, ew, ex, ey, ez, e0, da, db, dc, dd, de⟩ := cz
 refine Mv rfl <| Oxt rfl <| Oxt rfl <| Oxt rfl <| Y6 Zqs hs rfl (fun ay w hs => As rfl <| Ye (i := 0) Zey hs rfl rfl rfl rfl rfl (Zb ev.one (Zb ew.one (Zb ex.one (Zb ey.one (Zb ez.one (Zb e0.one (Zb da.one (Zb db.one (Zb dc.one (Zb dd.one (Zb de.one Yj))))))))))) (fun w hs => As rfl <| Ox er <| Zh fun e1 df => Yu fun dg dh cd => ?_))
 have ce : ∀ (ai : Bool) (w : World), Z3.j4 x1 x2 aj ai = some r → St w0 es ((.box ay 34 ([b7, b8, b9, ca, cb, cc, ar, au, av, aw, ax])) :: (.box b5 27 ([bm, bn, bo, bp, bq, br, bs, bt, bu, bv, bw])) :: Γ) w → dg [(1, v1), (2, v2), (7, b6), (25, .bool ai)] w := by
  intro ai w H hs
  rw [Z3.j4] at H
  refine dh _ _ <| Xg rfl (fun a6 => ?_) (fun a6 => ?_)
  rw [if_pos a6] at H
  refine Wr fun e2 di => As rfl <| Ox di <| Zk ?_
  obtain rfl := Zz H
  exact r1 rfl ⟨rfl, ((hs.sub (ssk (ssk ssr))).less ae)⟩
  rw [if_neg (bft a6)] at H
  refine Wx df <| Wr fun e3 dk => Mv rfl <| Mv rfl ?_
  obtain ⟨al, cf, H⟩ := bnd H
  refine Oc rfl (Ui.c hs a3 (h1.mono ae) cf) (fun e4 w hpost => ?_)
  obtain ⟨rfl, hs⟩ := hpost
  refine Mv rfl <| Mv rfl ?_
  obtain ⟨an, cg, H⟩ := bnd H
  refine Oc rfl (X3.c hs a3 (h1.mono ae) cg) (fun a1 w hpost => ?_)
  obtain ⟨e5, e6, ao, rfl, ab, hs, e7⟩ := hpost
  refine O_y rfl (V8 (i := 0) Zqa hs rfl rfl) <| As rfl <| As rfl <| Ox dk <| Wr fun e8 dl => Mv rfl <| Mv rfl ?_
  obtain ⟨cx, ch, H⟩ := bnd H
  refine Oc rfl (Vx.c hs (a3.mono ab) (h2.mono (ae.trans ab)) ch) (fun e9 w hpost => ?_)
  obtain ⟨ci, em, rfl, ad, hs, dm⟩ := hpost
  have dn := dm
  obtain ⟨fa, rfl, fb⟩ := dn
  refine Ox dl <| W.weak [(1, _), (7, _), (10, _), (11, _)] (T4 rfl) <| Zh fun fc dp => Yu fun dq dr a7 => ?_
  have a8 : ∀ (ah : Bool) (am : Hp) (w : World), Z3.j3 x1 aj al ah = some r → Le ci am → St w0 am ((.row a1 3 ((Rep.int .i64).sz) an.length ao) :: (.box ay 34 ([b7, b8, b9, ca, cb, cc, ar, au, av, aw, ax])) :: (.box b5 27 ([bm, bn, bo, bp, bq, br, bs, bt, bu, bv, bw])) :: Γ) w → dq [(1, v1), (7, b6), (10, .bool al), (54, .bool ah)] w := by
   intro ah am w H ac hs
   rw [Z3.j3] at H
   refine dr _ _ <| Xg rfl (fun a9 => ?_) (fun a9 => ?_)
   rw [if_pos a9] at H
   refine Wr fun fd ds => As rfl <| Ox ds <| Zk ?_
   obtain rfl := Zz H
   exact r1 rfl ⟨rfl, ((hs.sub (ssk (ssk (ssk ssr)))).less (((ae.trans ab).trans ad).trans ac))⟩
   rw [if_neg (bft a9)] at H
   refine Wx dp <| Zh fun fe dt => Wr fun ff du => Mv rfl <| Ont rfl <| Ox du <| Xg rfl (fun ba => ?_) (fun ba => ?_)
   rw [if_pos ba] at H
   refine Wr fun fg dv => As rfl <| Ox dv <| Zk ?_
   obtain rfl := Zz H
   exact r1 rfl ⟨rfl, ((hs.sub (ssk (ssk (ssk ssr)))).less (((ae.trans ab).trans ad).trans ac))⟩
   rw [if_neg (bft ba)] at H
   refine Wx dt <| Zh fun fh dw => Wr fun fi dx => Mv rfl <| O_y rfl (Yv V2 (h1.mono (((ae.trans ab).trans ad).trans ac)) rfl) <| Mv rfl <| Ox dx <| Zj fun fj dy fk => Y9 (σ := Nat × Int) (fun (af, aa) => [(1, v1), (7, b6), (57, v1), (58, .int .i64 (x1.length : Int)), (59, .int .i64 aa)]) (fun (af, aa) w => Z3.l1 af x1 aj aa = some r ∧ St w0 am ((.row a1 3 ((Rep.int .i64).sz) an.length ao) :: (.box ay 34 ([b7, b8, b9, ca, cb, cc, ar, au, av, aw, ax])) :: (.box b5 27 ([bm, bn, bo, bp, bq, br, bs, bt, bu, bv, bw])) :: Γ) w) (fun s => s.1) (K0, 0) sbn (Ai H hs) ?_
   rintro ⟨af, aa⟩ w fl ⟨H, hs⟩ a2
   show W _ _ _ _ _ _ [(1, v1), (7, b6), (57, v1), (58, .int .i64 (x1.length : Int)), (59, .int .i64 aa)] w
   cases af with
   | zero => rw [Z3.l1] at H; cases H
   | succ af =>
   rw [Z3.l1] at H
   refine Wr fun fm dz => Ols rfl <| Ox dz <| Zh fun fn ea => Y7 rfl (fun bb => ?_) (fun bb => ?_)
   rw [if_pos bb] at H
   refine Wx ea <| Zh fun fo eb => Zj fun fp fq fr => Zh fun fs ec => Zc ?_
   obtain ⟨cj, H⟩ := gd H
   obtain ⟨ft, fu, ed, ee⟩ := (h1.mono (((ae.trans ab).trans ad).trans ac)).ix Q7 cj.1 cj.2
   refine O_y rfl (ee rfl rfl) <| O_y rfl (Xp Xm rfl (hs.see ed.int)) <| As rfl <| Ox ec <| Yu fun ef eg ck => ?_
   have cl : ∀ (ag : Bool) (w : World), Z3.j1 (Z3.l1 af x1 aj) aa ag = some r → St w0 am ((.row a1 3 ((Rep.int .i64).sz) an.length ao) :: (.box ay 34 ([b7, b8, b9, ca, cb, cc, ar, au, av, aw, ax])) :: (.box b5 27 ([bm, bn, bo, bp, bq, br, bs, bt, bu, bv, bw])) :: Γ) w → ef [(1, v1), (7, b6), (57, v1), (58, .int .i64 (x1.length : Int)), (59, .int .i64 aa), (70, .bool ag)] w := by
    intro ag w H hs
    rw [Z3.j1] at H
    refine eg _ _ <| Xg rfl (fun bc => ?_) (fun bc => ?_)
    rw [if_pos bc] at H
    refine Wr fun fv eh => As rfl <| Ox eh <| Zk ?_
    obtain rfl := Zz H
    exact r1 rfl ⟨rfl, ((hs.sub (ssk (ssk (ssk ssr)))).less (((ae.trans ab).trans ad).trans ac))⟩
    rw [if_neg (bft bc)] at H
    refine Wx eb <| Zc <| Oad rfl <| Mv rfl <| Zd (a2 (af, (i64.wrap (aa + 1))) _ _ sbn (Ai H hs) (Nat.lt_succ_self _))
   refine Zc <| Mv rfl <| Mv rfl ?_
   obtain ⟨bx, cm, H⟩ := bnd H
   refine Oc rfl (X5.c hs (a3.mono ((ab.trans ad).trans ac)) cm) (fun fw w hpost => ?_)
   obtain ⟨rfl, hs⟩ := hpost
   refine Ont rfl <| Mv rfl <| U8 (dj := 67) rfl (fun bd => ?_) (fun bd => ?_)
   rw [if_pos bd] at H
   refine On rfl <| On rfl <| Opk rfl <| Zd (ck _ _ _ sbn (cl true _ H hs))
   rw [if_neg (bft bd)] at H
   refine Oe rfl <| Mv rfl <| Oe rfl <| Oeq rfl <| Opk rfl <| Zd (ck _ _ _ sbn (cl (decide ((rd x1 aa) = 46)) _ H hs))
   rw [if_neg bb] at H
   refine Y4 (dy _ _ (dw _ _ <| Yu fun ei ej be => ?_))
   have bf : ∀ (ak : Bool) (az : Hp) (w : World), Z3.j2 ak = some r → Le am az → St w0 az ((.row a1 3 ((Rep.int .i64).sz) an.length ao) :: (.box ay 34 ([b7, b8, b9, ca, cb, cc, ar, au, av, aw, ax])) :: (.box b5 27 ([bm, bn, bo, bp, bq, br, bs, bt, bu, bv, bw])) :: Γ) w → ei [(6, .bool ak)] w := by
    intro ak az w H bg hs
    rw [Z3.j2] at H
    refine ej _ _ <| Zk ?_
    obtain rfl := Zz H
    exact r1 rfl ⟨rfl, ((hs.sub (ssk (ssk (ssk ssr)))).less ((((ae.trans ab).trans ad).trans ac).trans bg))⟩
   refine Zc <| Mv rfl <| Mv rfl ?_
   obtain ⟨bz, cn, H⟩ := bnd H
   refine Oc rfl (Hz.c hs (a3.mono ((ab.trans ad).trans ac)) (h1.mono (((ae.trans ab).trans ad).trans ac)) cn) (fun fx w hpost => ?_)
   obtain ⟨rfl, hs⟩ := hpost
   refine Mv rfl <| U8 (dj := 75) rfl (fun bh => ?_) (fun bh => ?_)
   rw [if_pos bh] at H
   refine Oe rfl <| Mv rfl <| Oe rfl <| Mv rfl <| Oe rfl ?_
   obtain ⟨b0, co, H⟩ := bnd H
   refine Oc rfl (Zal.c hs (a3.mono ((ab.trans ad).trans ac)) (h1.mono (((ae.trans ab).trans ad).trans ac)) co) (fun fy w hpost => ?_)
   obtain ⟨fz, ga, en, rfl, ap, hs, ek⟩ := hpost
   refine Oe rfl <| Mv rfl ?_
   obtain ⟨cp, aq, hs, el⟩ := hs.rowEnd (j := 0) ek rfl
   refine Oe rfl ?_
   obtain ⟨b1, cq, H⟩ := bnd H
   refine Oc rfl (K2.c hs el (h1.mono (((((ae.trans ab).trans ad).trans ac).trans ap).trans aq)) cq) (fun gb w hpost => ?_)
   obtain ⟨rfl, hs⟩ := hpost
   refine Opk rfl <| Mv rfl <| U8 (dj := 82) rfl (fun bi => ?_) (fun bi => ?_)
   rw [if_pos bi] at H
   refine Oe rfl <| Mv rfl <| Oe rfl ?_
   obtain ⟨a5, cr, H⟩ := bnd H
   refine Oc rfl (J9.c hs (h1.mono (((((ae.trans ab).trans ad).trans ac).trans ap).trans aq)) cr) (fun gc w hpost => ?_)
   obtain ⟨rfl, hs⟩ := hpost
   refine Oe rfl <| Ont rfl <| Opk rfl <| As rfl <| Zd (be _ _ _ (S1 rfl) (bf (!a5) cp _ H (ap.trans aq) hs))
   rw [if_neg (bft bi)] at H
   refine On rfl <| On rfl <| On rfl <| Opk rfl <| As rfl <| Zd (be _ _ _ (S1 rfl) (bf false cp _ H (ap.trans aq) hs))
   rw [if_neg (bft bh)] at H
   refine On rfl <| On rfl <| On rfl <| On rfl <| On rfl <| Opk rfl <| Mv rfl <| On rfl <| On rfl <| On rfl <| Opk rfl <| As rfl <| Zd (be _ _ _ (S1 rfl) (bf false am _ H (Le.rfl' _) hs))
  refine Zc <| Mv rfl <| Mv rfl ?_
  obtain ⟨b2, ct, H⟩ := bnd H
  refine Oc rfl (Ui.c hs (a3.mono (ab.trans ad)) (h1.mono ((ae.trans ab).trans ad)) ct) (fun ge w hpost => ?_)
  obtain ⟨rfl, hs⟩ := hpost
  refine Mv rfl <| O_y rfl (Zsf un4 rfl rfl) <| Mv rfl <| U8 (dj := 41) rfl (fun bj => ?_) (fun bj => ?_)
  rw [if_pos bj] at H
  refine On rfl <| On rfl <| On rfl <| On rfl <| On rfl <| On rfl <| Opk rfl <| Mv rfl <| On rfl <| On rfl <| On rfl <| On rfl <| Opk rfl <| Zd (a7 _ _ _ (T4 rfl) (a8 true ci _ H (Le.rfl' _) hs))
  rw [if_neg (bft bj)] at H
  refine Oe rfl <| Mv rfl <| Oe rfl <| Mv rfl <| Oe rfl ?_
  obtain ⟨b3, cu, H⟩ := bnd H
  refine Oc rfl (X3.c hs (a3.mono (ab.trans ad)) (h1.mono ((ae.trans ab).trans ad)) cu) (fun gf w hpost => ?_)
  obtain ⟨cv, gg, eo, rfl, a4, hs, gh⟩ := hpost
  refine Oe rfl <| O_y rfl (V8 (i := 0) Zqa hs rfl rfl) <| Oe rfl <| Mv rfl <| Oe rfl <| One rfl <| Opk rfl <| Mv rfl <| X6 (dj := 49) rfl (fun bk => ?_) (fun bk => ?_)
  rw [if_pos bk] at H
  refine On rfl <| On rfl <| On rfl <| On rfl <| Opk rfl <| Zd (a7 _ _ _ (T4 rfl) (a8 true cv _ H a4 (hs.sub (ssk (ssc (ssc (ssc ssr)))))))
  rw [if_neg bk] at H
  refine Oe rfl <| Mv rfl <| Oe rfl <| Mv rfl <| Oe rfl <| Oeq rfl <| Oe rfl <| O_y rfl (Zsf un4 rfl rfl) <| Opk rfl <| Zd (a7 _ _ _ (T4 rfl) (a8 (al != (decide ((an.length : Int) = 0))) cv _ H a4 (hs.sub (ssk (ssc (ssc (ssc ssr)))))))
 refine Zc ?_
 obtain ⟨b4, cw, H⟩ := bnd H
 refine Oc rfl (Kx.c hs cw) (fun gi w hpost => ?_)
 obtain ⟨rfl, hs⟩ := hpost
 refine Ont rfl <| Mv rfl <| U8 (dj := 22) rfl (fun bl => ?_) (fun bl => ?_)
 rw [if_pos bl] at H
 refine On rfl <| On rfl <| Opk rfl <| Zd (cd _ _ _ (T4 rfl) (ce true _ H hs))
 rw [if_neg (bft bl)] at H
 refine Oe rfl <| Mv rfl <| Oe rfl <| Ont rfl <| Opk rfl <| Zd (cd _ _ _ (T4 rfl) (ce (!aj.2.2) _ H hs))

end Go.Proofs.YthoicbafdanmkaaGreatDoor
/- Written by this repo's gen.py: for each Go function a Lean function with the same answers and the walk that shows it. -/
namespace Go.Proofs.YthoicbafdanmkaaGreatDoor
open Go.IntKind (i8 i16 i32 i64 u8 u16 u32 u64)
open Go.RowKit
set_option maxRecDepth 100000
set_option maxHeartbeats 4000000
variable {w0 w : World} {ρ : Hp} {Γ : List Q5}
set_option linter.unusedVariables false
def Vi.j1 (aa : Bool) : Option Bool := some aa
def Vi.f (x0 : Int) : Option Bool := if 0 ≤ x0 then (if x0 < 55296 then (Vi.j1 true) else (if 57343 < x0 then (Vi.j1 (decide (x0 ≤ 1114111))) else (Vi.j1 false))) else (if 57343 < x0 then (Vi.j1 (decide (x0 ≤ 1114111))) else (Vi.j1 false))
def H5.f (x0 x1 : Int) : Option Int := if (i64.wrap (x0 - x1)) < 1 then (some 1) else (if 26 < (i64.wrap (x0 - x1)) then (some 26) else (some (i64.wrap (x0 - x1))))
def Ky.l1 : Nat → Int → Int → Option Int
  | 0, _, _ => none
  | ad + 1, aa, ab => if 455 < aa then ((Ky.l1 ad ) (i64.wrap (aa.tdiv 35)) (i64.wrap (ab + 36))) else (if (i64.wrap (aa + 38)) ≠ 0 then (some (i64.wrap (ab + (i64.wrap ((i64.wrap (36 * aa)).tdiv (i64.wrap (aa + 38))))))) else none)
def Ky.j1 (x1 ac : Int) : Option Int := if x1 ≠ 0 then (Ky.l1 K0 (i64.wrap (ac + (i64.wrap (ac.tdiv x1)))) 0) else none
def Ky.f (x0 x1 : Int) (x2 : Bool) : Option Int := if x2 = true then (Ky.j1 x1 (i64.wrap (x0.tdiv 700))) else (Ky.j1 x1 (i64.wrap (x0.tdiv 2)))
def Kg.j1 (x0 : Int) (aa : Bool) : Option Int := if aa = true then (some (i64.wrap ((i64.wrap (u8.wrap (x0 - 48))) + 26))) else (some (-1))
def Kg.j2 (x0 : Int) (ab : Bool) : Option Int := if ab = true then (some (i64.wrap (u8.wrap (x0 - 65)))) else (if 48 ≤ x0 then (Kg.j1 x0 (decide (x0 ≤ 57))) else (Kg.j1 x0 false))
def Kg.j3 (x0 : Int) (ac : Bool) : Option Int := if ac = true then (some (i64.wrap (u8.wrap (x0 - 97)))) else (if 65 ≤ x0 then (Kg.j2 x0 (decide (x0 ≤ 90))) else (Kg.j2 x0 false))
def Kg.f (x0 : Int) : Option Int := if 97 ≤ x0 then (Kg.j3 x0 (decide (x0 ≤ 122))) else (Kg.j3 x0 false)
def Yi.j1 (bl : Int → Int → Option (List Int × Int × Int)) (an a5 : Int) : Option (List Int × Int × Int) := bl a5 (i64.wrap (an + 1))
def Yi.l1 (a0 : List Int → Int → Int → Int → Int → Option (List Int × Int × Int)) : Nat → List Int → Int → Int → Int → Int → Int → Int → List Int → Int → Option (List Int × Int × Int)
  | 0, _, _, _, _, _, _, _, _, _ => none
  | a2 + 1, aa, ag, ae, ac, ab, ao, a7, ad, ah => if ((i64.wrap (ac + (i64.wrap (ao * ab)))).tmod (i64.wrap ((aa.length : Int) + 1))) < ah then (if (0 : Int) ≤ i64.wrap (ah - 1) ∧ i64.wrap (ah - 1) < (ad.length : Int) then (if (0 : Int) ≤ ah ∧ ah < (ad.length : Int) then ((Yi.l1 a0 a2 aa ag ae ac ab ao a7) (ad.set ah.toNat (rd ad (i64.wrap (ah - 1)))) (i64.wrap (ah - 1))) else none) else none) else (if (0 : Int) ≤ (i64.wrap (ac + (i64.wrap (ao * ab)))).tmod (i64.wrap ((aa.length : Int) + 1)) ∧ (i64.wrap (ac + (i64.wrap (ao * ab)))).tmod (i64.wrap ((aa.length : Int) + 1)) < (ad.length : Int) then (a0 (ad.set ((i64.wrap (ac + (i64.wrap (ao * ab)))).tmod (i64.wrap ((aa.length : Int) + 1))).toNat (i32.wrap (i64.wrap (ag + (i64.wrap ((i64.wrap (ac + (i64.wrap (ao * ab)))).tdiv (i64.wrap ((aa.length : Int) + 1)))))))) (i64.wrap (ae + 1)) (i64.wrap (ag + (i64.wrap ((i64.wrap (ac + (i64.wrap (ao * ab)))).tdiv (i64.wrap ((aa.length : Int) + 1)))))) (i64.wrap (((i64.wrap (ac + (i64.wrap (ao * ab)))).tmod (i64.wrap ((aa.length : Int) + 1))) + 1)) a7) else none)
def Yi.l2 (a0 : List Int → Int → Int → Int → Int → Option (List Int × Int × Int)) : Nat → ByteArray → List Int → Int → Int → Int → Int → Int → Int → Int → Option (List Int × Int × Int)
  | 0, _, _, _, _, _, _, _, _, _ => none
  | a3 + 1, x0, aa, ag, ai, aj, ae, ac, ab, ar => if ae = (x0.size : Int) then (some (([] : List Int), ae, 140)) else (if (0 : Int) ≤ ae ∧ ae < (x0.size : Int) then ((Kg.f (bt x0 ae)).bind fun ao => (if ao < 0 then (some (([] : List Int), ae, 140)) else (if 2147483647 < (i64.wrap (ac + (i64.wrap (ao * ab)))) then (some (([] : List Int), ae, 142)) else ((H5.f ar aj).bind fun bc => (if ao < bc then ((Ky.f (i64.wrap ((i64.wrap (ac + (i64.wrap (ao * ab)))) - ai)) (i64.wrap ((aa.length : Int) + 1)) (decide (ai = 0))).bind fun a7 => (if (i64.wrap ((aa.length : Int) + 1)) ≠ 0 then (if 1114111 < (i64.wrap (ag + (i64.wrap ((i64.wrap (ac + (i64.wrap (ao * ab)))).tdiv (i64.wrap ((aa.length : Int) + 1)))))) then (some (([] : List Int), ae, 142)) else ((Vi.f (i32.wrap (i64.wrap (ag + (i64.wrap ((i64.wrap (ac + (i64.wrap (ao * ab)))).tdiv (i64.wrap ((aa.length : Int) + 1)))))))).bind fun b2 => (if (!b2) = true then (some (([] : List Int), ae, 143)) else (if aa.length + ([0]).length ≤ most then (Yi.l1 a0 K0 aa ag ae ac ab ao a7 (aa ++ ([0])) (i64.wrap (((aa ++ ([0])).length : Int) - 1))) else none)))) else none)) else (if 2147483647 < (i64.wrap (ab * (i64.wrap (36 - bc)))) then (some (([] : List Int), ae, 142)) else ((Yi.l2 a0 a3 x0 aa ag ai aj) (i64.wrap (ae + 1)) (i64.wrap (ac + (i64.wrap (ao * ab)))) (i64.wrap (ab * (i64.wrap (36 - bc)))) (i64.wrap (ar + 36))))))))) else none)
def Yi.l3 : Nat → ByteArray → List Int → Int → Int → Int → Int → Option (List Int × Int × Int)
  | 0, _, _, _, _, _, _ => none
  | az + 1, x0, aa, ax, ag, ai, aj => if ax < (x0.size : Int) then (Yi.l2 (Yi.l3 az x0) K0 x0 aa ag ai aj ax ai 1 36) else (some (aa, 0, 0))
def Yi.j2 (x0 : ByteArray) (af : List Int) (a1 : Int) : Option (List Int × Int × Int) := Yi.l3 K0 x0 af a1 128 0 72
def Yi.l4 : Nat → ByteArray → Int → List Int → Int → Option (List Int × Int × Int)
  | 0, _, _, _, _ => none
  | a8 + 1, x0, al, af, ak => if ak < al then (if (0 : Int) ≤ ak ∧ ak < (x0.size : Int) then (if 127 < (bt x0 ak) then (some (([] : List Int), ak, 141)) else (if af.length + ([i32.wrap (bt x0 ak)]).length ≤ most then ((Yi.l4 a8 x0 al) (af ++ ([i32.wrap (bt x0 ak)])) (i64.wrap (ak + 1))) else none)) else none) else (if 0 < al then (Yi.j2 x0 af (i64.wrap (al + 1))) else (Yi.j2 x0 af al))
def Yi.l5 : Nat → ByteArray → Int → Int → Option (List Int × Int × Int)
  | 0, _, _, _ => none
  | a4 + 1, x0, al, an => if an < (x0.size : Int) then (if (0 : Int) ≤ an ∧ an < (x0.size : Int) then (if (bt x0 an) = 45 then (Yi.j1 (Yi.l5 a4 x0) an an) else (Yi.j1 (Yi.l5 a4 x0) an al)) else none) else (Yi.l4 K0 x0 al ([] : List Int) 0)
def Yi.f (x0 : ByteArray) : Option (List Int × Int × Int) := Yi.l5 K0 x0 0 0
end Go.Proofs.YthoicbafdanmkaaGreatDoor
/- Plain laws of the canonical order: a stable sort of each stretch without class 0; what is ordered in pieces is ordered in all. Own work of this repo; it needs no walk. -/
namespace Go.Proofs.YthoicbafdanmkaaGreatDoor

section
variable {α : Type} (key : α → Int)
def Zh2 (x : α) : List α → List α
 | [] => [x]
 | y :: t => if key x ≤ key y then x :: y :: t else y :: Zh2 x t
def Kp : List α → List α
 | [] => []
 | x :: t => Zh2 key x (Kp t)
def Srt : List α → Prop
 | [] => True
 | x :: t => (∀ y ∈ t, key x ≤ key y) ∧ Srt t
def Feq (a b : List α) : Prop := ∀ c, a.filter (fun x => decide (key x = c)) = b.filter (fun x => decide (key x = c))
theorem Feq.refl (a : List α) : Feq key a a := fun _ => rfl
theorem Feq.symm {a b : List α} (h : Feq key a b) : Feq key b a := fun c => (h c).symm
theorem Feq.trans {a b c : List α} (h : Feq key a b) (g : Feq key b c) : Feq key a c := fun d => (h d).trans (g d)
theorem Feq.app {a a' b b' : List α} (h : Feq key a a') (g : Feq key b b') : Feq key (a ++ b) (a' ++ b') := fun c => by rw [List.filter_append, List.filter_append, h c, g c]
theorem Feq.mem {a b : List α} (h : Feq key a b) {x : α} (hx : x ∈ a) : x ∈ b := by
 have : x ∈ a.filter (fun y => decide (key y = key x)) := List.mem_filter.2 ⟨hx, by simp⟩
 rw [h] at this
 exact (List.mem_filter.1 this).1
theorem Ztu {x y : α} {t : List α} : y ∈ Zh2 key x t ↔ y = x ∨ y ∈ t := by
 induction t with
 | nil => simp [Zh2]
 | cons z t ih =>
  unfold Zh2
  split
  ·simp
  ·simp only [List.mem_cons, ih]
   constructor
   ·rintro (h | h | h) <;> simp [h]
   ·rintro (h | h | h) <;> simp [h]
theorem Zoh {x : α} : ∀ {t : List α}, Srt key t → Srt key (Zh2 key x t)
 | [], _ => ⟨fun y hy => (by cases hy), trivial⟩
 | y :: t, h => by
  unfold Zh2
  split
  ·rename_i c
   refine ⟨fun z hz => ?_, h⟩
   rcases List.mem_cons.1 hz with rfl | hz
   ·exact c
   ·exact Int.le_trans c (h.1 z hz)
  ·rename_i c
   refine ⟨fun z hz => ?_, Zoh h.2⟩
   rcases (Ztu key).1 hz with rfl | hz
   ·omega
   ·exact h.1 z hz
theorem Zpe (x : α) : ∀ (t : List α), Feq key (Zh2 key x t) (x :: t)
 | [], _ => rfl
 | y :: t, c => by
  unfold Zh2
  split
  ·rfl
  ·rename_i h
   have ih := Zpe x t c
   simp only [List.filter_cons] at ih ⊢
   rw [ih]
   by_cases c1 : key y = c
   ·have : ¬ key x = c := by omega
    simp [c1, this]
   ·simp [c1]
theorem Zap : ∀ (l : List α), Srt key (Kp key l)
 | [] => trivial
 | _ :: t => Zoh key (Zap t)
theorem H8 : ∀ (l : List α), Feq key (Kp key l) l
 | [], _ => rfl
 | x :: t, c => by
  rw [Kp, Zpe key x _ c, List.filter_cons, List.filter_cons, H8 t c]
theorem Zes : ∀ {a b : List α}, Srt key a → Srt key b → Feq key a b → a = b
 | [], [], _, _, _ => rfl
 | [], y :: b, _, _, h => by have := Feq.mem key (Feq.symm key h) (List.mem_cons_self (a := y) (l := b)); cases this
 | x :: a, [], _, _, h => by have := Feq.mem key h (List.mem_cons_self (a := x) (l := a)); cases this
 | x :: a, y :: b, ha, hb, h => by
  have h1 : key y ≤ key x := by
   rcases List.mem_cons.1 (Feq.mem key h (List.mem_cons_self (a := x) (l := a))) with e | e
   ·rw [e]; exact Int.le_refl _
   ·exact hb.1 x e
  have h2 : key x ≤ key y := by
   rcases List.mem_cons.1 (Feq.mem key (Feq.symm key h) (List.mem_cons_self (a := y) (l := b))) with e | e
   ·rw [e]; exact Int.le_refl _
   ·exact ha.1 y e
  have hk : key x = key y := by omega
  have h3 := h (key x)
  rw [List.filter_cons, List.filter_cons, if_pos (by simp), if_pos (by simp [hk])] at h3
  have hxy : x = y := (List.cons.inj h3).1
  subst hxy
  rw [Zes ha.2 hb.2 (fun c => by
   by_cases e : key x = c
   ·subst e; exact (List.cons.inj h3).2
   ·have := h c
    rw [List.filter_cons, List.filter_cons, if_neg (by simp [e]), if_neg (by simp [e])] at this
    exact this)]
theorem Zhp {a b : List α} (h : Feq key a b) : Kp key a = Kp key b :=
 Zes key (Zap key a) (Zap key b) (Feq.trans key (H8 key a) (Feq.trans key h (Feq.symm key (H8 key b))))
theorem Zhl {a b : List α} (h : Srt key b) (g : Feq key a b) : Kp key a = b :=
 Zes key (Zap key a) h (Feq.trans key (H8 key a) g)
theorem Zl5 {l : List α} {x : α} (h : x ∈ Kp key l) : x ∈ l := Feq.mem key (H8 key l) h
theorem H7 : ∀ (l : List α), (Kp key l).length = l.length := by
 have ins : ∀ (x : α) (t : List α), (Zh2 key x t).length = t.length + 1 := by
  intro x t
  induction t with
  | nil => rfl
  | cons y t ih => unfold Zh2; split <;> simp [ih]
 intro l
 induction l with
 | nil => rfl
 | cons x t ih => rw [Kp, ins, ih]; rfl
theorem Zh0 {x y : List α} (h : ∀ a ∈ x, ∀ b ∈ y, key b < key a) : Feq key (x ++ y) (y ++ x) := by
 intro c
 rw [List.filter_append, List.filter_append]
 by_cases e : x.filter (fun z => decide (key z = c)) = []
 ·rw [e]; simp
 ·obtain ⟨a, ha⟩ := List.exists_mem_of_ne_nil _ e
  have ha := List.mem_filter.1 ha
  have : y.filter (fun z => decide (key z = c)) = [] := by
   rw [List.filter_eq_nil_iff]
   intro b hb
   have := h a ha.1 b hb
   have e2 : key a = c := by simpa using ha.2
   simp; omega
  rw [this]; simp
theorem Zhd : ∀ {a b : List α}, Srt key a → Srt key b → (∀ x ∈ a, ∀ y ∈ b, key x ≤ key y) → Srt key (a ++ b)
 | [], _, _, hb, _ => hb
 | x :: a, b, ha, hb, h => by
  refine ⟨fun z hz => ?_, Zhd ha.2 hb fun u hu v hv => h u (List.mem_cons_of_mem _ hu) v hv⟩
  rcases List.mem_append.1 hz with hz | hz
  ·exact ha.1 z hz
  ·exact h x (List.mem_cons_self ..) z hz
theorem Up {b : List α} : ∀ {a : List α}, Srt key (a ++ b) → Srt key a ∧ Srt key b ∧ ∀ x ∈ a, ∀ y ∈ b, key x ≤ key y
 | [], h => ⟨trivial, h, fun x hx => (by cases hx)⟩
 | x :: a, h => by
  obtain ⟨h1, h2, h3⟩ := Up h.2
  refine ⟨⟨fun y hy => h.1 y (List.mem_append_left _ hy), h1⟩, h2, fun u hu v hv => ?_⟩
  rcases List.mem_cons.1 hu with rfl | hu
  ·exact h.1 v (List.mem_append_right _ hv)
  ·exact h3 u hu v hv

def Zgh (acc : List α) : List α → List α
 | [] => Kp key acc
 | x :: t => if key x = 0 then Kp key acc ++ x :: Zgh [] t else Zgh (acc ++ [x]) t
def Zg7 (l : List α) : List α := Zgh key [] l
theorem Zh4 : ∀ (s : List α) (acc l : List α), (∀ x ∈ s, key x ≠ 0) → Zgh key acc (s ++ l) = Zgh key (acc ++ s) l
 | [], acc, l, _ => by simp
 | x :: s, acc, l, h => by
  rw [List.cons_append, Zgh, if_neg (h x (List.mem_cons_self ..)), Zh4 s _ l fun y hy => h y (List.mem_cons_of_mem _ hy)]
  simp
theorem Ziy : ∀ (l acc : List α), (Zgh key acc l).length = acc.length + l.length
 | [], acc => by simp [Zgh, H7]
 | x :: t, acc => by
  unfold Zgh
  split
  ·simp [H7, Ziy t]
  ·simp [Ziy t]; omega
theorem Zua (l : List α) : (Zg7 key l).length = l.length := by simp [Zg7, Ziy]
theorem Zmi {a x y b : List α} (h1 : Srt key (a ++ x)) (h2 : Srt key (y ++ b)) (h3 : ∀ u ∈ x, ∀ v ∈ y, key v < key u) (h4 : ∀ u ∈ a, ∀ v ∈ b, key u ≤ key v) :
  Kp key ((a ++ x) ++ (y ++ b)) = Kp key (a ++ y) ++ Kp key (x ++ b) := by
 obtain ⟨_, _, h1c⟩ := Up key h1
 obtain ⟨_, _, h2c⟩ := Up key h2
 refine Zhl key (Zhd key (Zap key _) (Zap key _) fun u hu v hv => ?_) ?_
 ·rcases List.mem_append.1 (Zl5 key hu) with hu | hu <;> rcases List.mem_append.1 (Zl5 key hv) with hv | hv
  ·exact h1c u hu v hv
  ·exact h4 u hu v hv
  ·exact Int.le_of_lt (h3 v hv u hu)
  ·exact h2c u hu v hv
 ·refine Feq.trans key ?_ (Feq.app key (Feq.symm key (H8 key (a ++ y))) (Feq.symm key (H8 key (x ++ b))))
  have := Feq.app key (Feq.app key (Feq.refl key a) (Zh0 key h3)) (Feq.refl key b)
  simpa [List.append_assoc] using this
theorem Zmo {u : α} {y b : List α} (h2 : Srt key (y ++ b)) (h3 : ∀ v ∈ y, key v < key u) (h4 : ∀ v ∈ b, key u ≤ key v) : Kp key (u :: (y ++ b)) = y ++ u :: b := by
 obtain ⟨hy, hb, hc⟩ := Up key h2
 refine Zhl key (Zhd key hy ⟨h4, hb⟩ fun v hv w hw => ?_) ?_
 ·rcases List.mem_cons.1 hw with rfl | hw
  ·exact Int.le_of_lt (h3 v hv)
  ·exact hc v hv w hw
 ·have := Feq.app key (Zh0 key (x := [u]) (y := y) fun a ha v hv => by rw [List.mem_singleton.1 ha]; exact h3 v hv) (Feq.refl key b)
  simpa using this
theorem Zip {v : α} {a x : List α} (h1 : Srt key (a ++ x)) (h3 : ∀ u ∈ x, key v < key u) (h4 : ∀ u ∈ a, key u ≤ key v) : Kp key (a ++ x ++ [v]) = a ++ v :: x := by
 obtain ⟨ha, hx, hc⟩ := Up key h1
 refine Zhl key (Zhd key ha ⟨fun u hu => Int.le_of_lt (h3 u hu), hx⟩ fun u hu w hw => ?_) ?_
 ·rcases List.mem_cons.1 hw with rfl | hw
  ·exact h4 u hu
  ·exact hc u hu w hw
 ·have := Feq.app key (Feq.refl key a) (Zh0 key (x := x) (y := [v]) fun u hu w hw => by rw [List.mem_singleton.1 hw]; exact h3 u hu)
  simpa [List.append_assoc] using this
theorem Zn1 (a b : List α) : Kp key (Kp key a ++ b) = Kp key (a ++ b) := Zhp key (Feq.app key (H8 key a) (Feq.refl key b))
theorem Zd5 {a : List α} (h : Srt key a) : Kp key a = a := Zhl key h (Feq.refl key a)
end
end Go.Proofs.YthoicbafdanmkaaGreatDoor
/- Plain laws, first part: loops over lists; what each check of a book says. Own work of this repo. -/
namespace Go.Proofs.YthoicbafdanmkaaGreatDoor
open Go.IntKind (i8 i16 i32 i64 u8 u16 u32 u64)
open Go.RowKit

theorem w32 {x : Int} (h0 : -2147483648 ≤ x) (h1 : x ≤ 2147483647) : i32.wrap x = x := by rw [IntKind.wrap_i32]; omega
theorem w64 {x : Int} (h0 : -9223372036854775808 ≤ x) (h1 : x ≤ 9223372036854775807) : i64.wrap x = x := by rw [IntKind.wrap_i64]; omega
theorem w16 {x : Int} (h0 : 0 ≤ x) (h1 : x < 65536) : u16.wrap x = x := by rw [IntKind.wrap_u16]; omega

def Z9 : Nat := 1073741824
theorem mid {α : Type} [Inhabited α] {xs pre t : List α} {x : α} (e : xs = pre ++ x :: t) : rd xs (pre.length : Int) = x ∧ ((0 : Int) ≤ (pre.length : Int) ∧ (pre.length : Int) < (xs.length : Int)) := by
 subst e
 refine ⟨by simp [rd], by omega, by simp; omega⟩
theorem nxt {α : Type} {xs pre t : List α} {x : α} (hx : xs.length ≤ Z9) (e : xs = pre ++ x :: t) : i64.wrap ((pre.length : Int) + 1) = (pre.length : Int) + 1 := by
 have : xs.length = pre.length + (t.length + 1) := by rw [e]; simp
 unfold Z9 at hx
 exact w64 (by omega) (by omega)
theorem Qb {α σ β : Type} (L : Nat → Int → σ → Option β) (xs : List α) (Spec : List α → List α → σ → Option β → Prop)
  (hnil : ∀ s k, Spec xs [] s (L (k + 1) (xs.length : Int) s))
  (hcons : ∀ pre x t s k, xs = pre ++ x :: t → (∀ s', Spec (pre ++ [x]) t s' (L k ((pre.length : Int) + 1) s')) → Spec pre (x :: t) s (L (k + 1) (pre.length : Int) s)) :
  ∀ s k, xs.length < k → Spec [] xs s (L k 0 s) := by
 have key : ∀ t pre s k, xs = pre ++ t → t.length < k → Spec pre t s (L k (pre.length : Int) s) := by
  intro t
  induction t with
  | nil =>
   intro pre s k e hk
   obtain ⟨k, rfl⟩ : ∃ j, k = j + 1 := ⟨k - 1, by simp at hk; omega⟩
   have : xs = pre := by rw [e]; simp
   subst this
   exact hnil s k
  | cons x t ih =>
   intro pre s k e hk
   obtain ⟨k, rfl⟩ : ∃ j, k = j + 1 := ⟨k - 1, by simp at hk; omega⟩
   refine hcons pre x t s k e (fun s' => ?_)
   have := ih (pre ++ [x]) s' k (by rw [e]; simp) (by simp at hk; omega)
   simpa using this
 intro s k hk
 have := key xs [] s k rfl hk
 simpa using this
theorem ltK {n : Nat} (h : n ≤ Z9) : n < K0 := by unfold Z9 at h; unfold K0; omega

def Hw (r : Int) (b : Bool) : Prop := (b = true ∧ r = -1) ∨ (b = false ∧ 0 ≤ r)
theorem Hw.val {r : Int} {b : Bool} (h : Hw r b) : (decide (0 ≤ r)) = !b := by
 rcases h with ⟨rfl, rfl⟩ | ⟨rfl, h⟩ <;> simp [*]

def Kz {α : Type} (lo hi : α → Int) (may : α → Bool) : Int → List α → Bool
 | _, [] => true
 | last, x :: t => decide (last < lo x) && decide (lo x ≤ hi x) && decide (hi x ≤ 1114111) && may x && Kz lo hi may (hi x) t
theorem Qd {α : Type} {lo hi : α → Int} {may : α → Bool} {last : Int} {x : α} {t : List α} (h : lo x ≤ last ∨ hi x < lo x ∨ 1114111 < hi x ∨ may x = false) : Kz lo hi may last (x :: t) = false := by
 rcases h with h | h | h | h
 ·simp [Kz, show ¬ last < lo x by omega]
 ·simp [Kz, show ¬ lo x ≤ hi x by omega]
 ·simp [Kz, show ¬ hi x ≤ 1114111 by omega]
 ·simp [Kz, h]
theorem H1 {α : Type} {lo hi : α → Int} {may : α → Bool} {last : Int} {x : α} {t : List α} (h1 : ¬ lo x ≤ last) (h2 : ¬ hi x < lo x) (h3 : ¬ 1114111 < hi x) (h4 : may x = true) : Kz lo hi may last (x :: t) = Kz lo hi may (hi x) t := by
 simp [Kz, h4, show last < lo x by omega, show lo x ≤ hi x by omega, show hi x ≤ 1114111 by omega]

def Uu (c : Int) : Bool := decide (97 ≤ c ∧ c ≤ 122) || decide (65 ≤ c ∧ c ≤ 90)
theorem Zqe : ∀ n : Fin 256, (decide (97 ≤ bOr .u8 (n.val : Int) 32) && decide (bOr .u8 (n.val : Int) 32 ≤ 122)) = Uu (n.val : Int) := by decide +kernel
def Zi2 (s : ByteArray) : Bool := decide (1 ≤ s.size) && decide (s.size ≤ 32) && (Kr s).all Uu
theorem Zfl {s : ByteArray} {c : Int} (h : c ∈ Kr s) : ∃ n : Fin 256, c = (n.val : Int) := by
 simp only [Kr, List.mem_map] at h
 obtain ⟨b, _, rfl⟩ := h
 exact ⟨⟨b.toNat, b.toNat_lt⟩, rfl⟩
theorem Zhy (s : ByteArray) (i : Int) : bt s i = rd (Kr s) i := by
 simp only [bt, rd, Kr, List.getD_eq_getElem?_getD, List.getElem?_map, Array.getElem?_toList, Array.getD_eq_getD_getElem?]
 cases s.data[i.toNat]? <;> rfl
theorem Zmc (s : ByteArray) (hs : s.size ≤ 32) : Xt.l1 K0 s 0 = some ((Kr s).all Uu) := by
 have hl : (Kr s).length ≤ Z9 := by rw [Q9]; unfold Z9; omega
 refine Qb (fun k i (_ : Unit) => Xt.l1 k s i) (Kr s) (fun pre t _ o => o = some (t.all Uu)) ?_ ?_ () K0 (ltK hl)
 ·intro _ k
  simp only [Xt.l1, if_neg (show ¬ ((Kr s).length : Int) < ((Kr s).length : Int) by omega), List.all_nil]
 ·intro pre x t _ k e ih
  obtain ⟨h1, h2⟩ := mid e
  obtain ⟨n, hn⟩ := Zfl (s := s) (c := x) (by rw [e]; simp)
  have hx := Zqe n
  rw [← hn] at hx
  simp only [Xt.l1, if_pos h2.2, if_pos h2, h1, Xt.j1, nxt hl e, List.all_cons]
  by_cases c1 : bOr .u8 x 32 < 97
  ·have : Uu x = false := by rw [← hx]; simp [show ¬ 97 ≤ bOr .u8 x 32 by omega]
   simp [c1, this]
  ·by_cases c2 : 122 < bOr .u8 x 32
   ·have : Uu x = false := by rw [← hx]; simp [show ¬ bOr .u8 x 32 ≤ 122 by omega]
    simp [c1, c2, this]
   ·have : Uu x = true := by rw [← hx]; simp [show 97 ≤ bOr .u8 x 32 by omega, show bOr .u8 x 32 ≤ 122 by omega]
    simp only [if_neg c1, c2, decide_false, Bool.false_eq_true, if_false, this, Bool.true_and]
    exact ih ()
theorem Zqv (s : ByteArray) : Xt.f s = some (Zi2 s) := by
 unfold Xt.f Xt.j2 Zi2
 by_cases h1 : (s.size : Int) < 1
 ·rw [if_pos h1, if_pos rfl]; simp [show ¬ 1 ≤ s.size by omega]
 ·by_cases h2 : (32 : Int) < s.size
  ·rw [if_neg h1, if_pos (by simpa using h2)]; simp [show ¬ s.size ≤ 32 by omega]
  ·rw [if_neg h1, if_neg (by simpa using h2), Zmc s (by omega)]
   simp [show 1 ≤ s.size by omega, show s.size ≤ 32 by omega]
theorem Zng (s : ByteArray) (hs : s.size ≤ 32) : Xb.l1 K0 s 0 = some ((Kr s).all Uu) := by
 have hl : (Kr s).length ≤ Z9 := by rw [Q9]; unfold Z9; omega
 refine Qb (fun k i (_ : Unit) => Xb.l1 k s i) (Kr s) (fun pre t _ o => o = some (t.all Uu)) ?_ ?_ () K0 (ltK hl)
 ·intro _ k
  simp only [Xb.l1, Q9, if_neg (show ¬ (s.size : Int) < (s.size : Int) by omega), List.all_nil]
 ·intro pre x t _ k e ih
  obtain ⟨h1, h2⟩ := mid e
  have h3 := h2
  rw [Q9] at h3
  simp only [Xb.l1, if_pos h3.2, if_pos h3, Zhy, h1, Xb.j1, nxt hl e, List.all_cons]
  have ih := ih ()
  by_cases c1 : 97 ≤ x
  ·by_cases c2 : x ≤ 122
   ·have : Uu x = true := by simp [Uu, c1, c2]
    simpa [c1, c2, this] using ih
   ·by_cases c3 : 65 ≤ x
    ·have : Uu x = false := by simp [Uu]; omega
     simp [c1, c2, c3, this, show ¬ x ≤ 90 by omega]
    ·omega
  ·by_cases c3 : 65 ≤ x
   ·by_cases c4 : x ≤ 90
    ·have : Uu x = true := by simp [Uu, c3, c4]
     simpa [c1, c3, c4, this] using ih
    ·have : Uu x = false := by simp [Uu]; omega
     simp [c1, c3, c4, this]
   ·have : Uu x = false := by simp [Uu]; omega
    simp [c1, c3, this]
theorem Zq6 (s : ByteArray) : Xb.f s = some (Zi2 s) := by
 unfold Xb.f Xb.j2 Zi2
 by_cases h1 : (s.size : Int) < 1
 ·rw [if_pos h1, if_pos rfl]; simp [show ¬ 1 ≤ s.size by omega]
 ·by_cases h2 : (32 : Int) < s.size
  ·rw [if_neg h1, if_pos (by simpa using h2)]; simp [show ¬ s.size ≤ 32 by omega]
  ·rw [if_neg h1, if_neg (by simpa using h2), Zng s (by omega)]
   simp [show 1 ≤ s.size by omega, show s.size ≤ 32 by omega]

def Zdf : List ByteArray → ByteArray → Bool
 | [], _ => false
 | x :: t, y => decide (x = y) || Zdf t y
theorem Zhh {α : Type} {xs pre t : List α} (e : xs = pre ++ t) : sub xs 0 (pre.length : Int) = pre := by
 subst e
 simp [sub]
theorem Zqy (l : List ByteArray) (hl : l.length ≤ Z9) (y : ByteArray) : ∃ r, Yw.f l y = some r ∧ Hw r (!Zdf l y) := by
 refine Qb (fun k i (_ : Unit) => Yw.l1 k l y i) l (fun pre t _ o => ∃ r, o = some r ∧ Hw r (!Zdf t y)) ?_ ?_ () K0 (ltK hl)
 ·intro _ k
  exact ⟨-1, by simp only [Yw.l1, if_neg (show ¬ (l.length : Int) < (l.length : Int) by omega)], .inl ⟨rfl, rfl⟩⟩
 ·intro pre x t _ k e ih
  obtain ⟨h1, h2⟩ := mid e
  simp only [Yw.l1, if_pos h2.2, if_pos h2, h1, nxt hl e]
  by_cases c : y = x
  ·exact ⟨pre.length, by rw [if_pos c], .inr ⟨by simp [Zdf, c], by omega⟩⟩
  ·rw [if_neg c]
   obtain ⟨r, h3, h4⟩ := ih ()
   refine ⟨r, h3, ?_⟩
   have : Zdf (x :: t) y = Zdf t y := by simp [Zdf, Ne.symm c]
   rwa [this]
theorem Zmn (l : List ByteArray) (hl : l.length ≤ Z9) (y : ByteArray) : Q2.f l y = some (Zdf l y) := by
 obtain ⟨r, h1, h2⟩ := Zqy l hl y
 simp only [Q2.f, h1, Option.bind_some, h2.val, Bool.not_not]
def Zeb : List ByteArray → List ByteArray → Bool
 | _, [] => true
 | pre, s :: t => Zi2 s && !Zdf pre s && Zeb (pre ++ [s]) t
def Zhu (l : List ByteArray) : Bool := decide (l.length ≤ 64) && Zeb [] l
theorem Zta (l : List ByteArray) : ∃ r, Kf.f l = some r ∧ Hw r (Zhu l) := by
 unfold Kf.f Zhu
 by_cases h : (64 : Int) < l.length
 ·exact ⟨64, by rw [if_pos h], .inr ⟨by simp [show ¬ l.length ≤ 64 by omega], by decide⟩⟩
 ·rw [if_neg h]
  have hl : l.length ≤ Z9 := by unfold Z9; omega
  simp only [show l.length ≤ 64 by omega, decide_true, Bool.true_and]
  refine Qb (fun k i (_ : Unit) => Kf.l1 k l i) l (fun pre t _ o => ∃ r, o = some r ∧ Hw r (Zeb pre t)) ?_ ?_ () K0 (ltK hl)
  ·intro _ k
   exact ⟨-1, by simp only [Kf.l1, if_neg (show ¬ (l.length : Int) < (l.length : Int) by omega)], .inl ⟨rfl, rfl⟩⟩
  ·intro pre x t _ k e ih
   obtain ⟨h1, h2⟩ := mid e
   have hp : pre.length ≤ Z9 := by rw [e] at hl; simp at hl; omega
   simp only [Kf.l1, if_pos h2.2, if_pos h2, h1, Zqv, Option.bind_some, Kf.j1, nxt hl e, Zeb]
   cases c : Zi2 x with
   | false => exact ⟨pre.length, by simp, .inr ⟨by simp, by omega⟩⟩
   | true =>
    simp only [Bool.not_true, Bool.false_eq_true, if_false]
    rw [if_pos ⟨by decide, h2.1, by omega⟩, Zhh e, Zmn pre hp, Option.bind_some]
    cases c2 : Zdf pre x with
    | true => exact ⟨pre.length, by simp, .inr ⟨by simp, by omega⟩⟩
    | false => simpa using ih ()
theorem Zkl (l pre t : List ByteArray) (x : ByteArray) (hl : l.length ≤ Z9) (e : l = pre ++ x :: t) (go : Int → Option Int) :
  Qa.l1 go K0 l (pre.length : Int) 0 = if Zdf pre x = true then some (pre.length : Int) else go (i64.wrap ((pre.length : Int) + 1)) := by
 have hp : pre.length ≤ Z9 := by rw [e] at hl; simp at hl; omega
 obtain ⟨h1, h2⟩ := mid e
 refine Qb (fun k i (_ : Unit) => Qa.l1 go k l (pre.length : Int) i) pre (fun _ u _ o => o = if Zdf u x = true then some (pre.length : Int) else go (i64.wrap ((pre.length : Int) + 1))) ?_ ?_ () K0 (ltK hp)
 ·intro _ k
  simp only [Qa.l1, Zhh e, if_neg (show ¬ (pre.length : Int) < (pre.length : Int) by omega)]
  simp [Zdf]
 ·intro p y u _ k e2 ih
  obtain ⟨h3, h4⟩ := mid e2
  simp only [Qa.l1, Zhh e, if_pos h4.2, if_pos h4, h3, h1, nxt hp e2]
  by_cases c : y = x
  ·simp [Zdf, c]
  ·rw [if_neg c]
   have : Zdf (y :: u) x = Zdf u x := by simp [Zdf, c]
   rw [this]; exact ih ()
theorem Zk2 (l : List ByteArray) : ∃ r, Qa.f l = some r ∧ Hw r (Zhu l) := by
 unfold Qa.f Zhu
 by_cases h : (64 : Int) < l.length
 ·exact ⟨64, by rw [if_pos h], .inr ⟨by simp [show ¬ l.length ≤ 64 by omega], by decide⟩⟩
 ·rw [if_neg h]
  have hl : l.length ≤ Z9 := by unfold Z9; omega
  simp only [show l.length ≤ 64 by omega, decide_true, Bool.true_and]
  refine Qb (fun k i (_ : Unit) => Qa.l2 k l i) l (fun pre t _ o => ∃ r, o = some r ∧ Hw r (Zeb pre t)) ?_ ?_ () K0 (ltK hl)
  ·intro _ k
   exact ⟨-1, by simp only [Qa.l2, if_neg (show ¬ (l.length : Int) < (l.length : Int) by omega)], .inl ⟨rfl, rfl⟩⟩
  ·intro pre x t _ k e ih
   obtain ⟨h1, h2⟩ := mid e
   simp only [Qa.l2, if_pos h2.2, if_pos h2, h1, Zq6, Option.bind_some, Zeb]
   cases c : Zi2 x with
   | false => exact ⟨pre.length, by simp, .inr ⟨by simp, by omega⟩⟩
   | true =>
    simp only [Bool.not_true, Bool.false_eq_true, if_false]
    rw [if_pos ⟨by decide, h2.1, by omega⟩, Zkl l pre t x hl e, nxt hl e]
    cases c2 : Zdf pre x with
    | true => exact ⟨pre.length, by simp, .inr ⟨by simp, by omega⟩⟩
    | false => simpa using ih ()
end Go.Proofs.YthoicbafdanmkaaGreatDoor
/- Plain laws of slices.SortStableFunc as the canonical order calls it: it sorts stably by class. Own work of this repo. -/
namespace Go.Proofs.YthoicbafdanmkaaGreatDoor
open Go.IntKind (i8 i16 i32 i64 u8 u16 u32 u64)
open Go.RowKit

theorem Zbk {A B : List Int} {x i : Int} (h : i = (A.length : Int)) : rd (A ++ x :: B) i = x := by subst h; simp [rd]
theorem Zn6 {A B : List Int} {u v i : Int} (h : i = (A.length : Int) + 1) : rd (A ++ u :: v :: B) i = v := by
 have := Zbk (A := A ++ [u]) (B := B) (x := v) (i := i) (by simp; omega)
 simpa using this
theorem Zv8 {A C D : List Int} {x y i : Int} (h : i = (A.length : Int) + 1 + C.length) : rd (A ++ x :: (C ++ y :: D)) i = y := by
 have := Zbk (A := A ++ x :: C) (B := D) (x := y) (i := i) (by simp; omega)
 simpa using this
theorem Zgi {A B : List Int} {x y : Int} {n : Nat} (h : n = A.length) : (A ++ x :: B).set n y = A ++ y :: B := by
 subst h; rw [List.set_append_right _ _ (Nat.le_refl _)]; simp
theorem Zlp {A B : List Int} {u v y : Int} {n : Nat} (h : n = A.length + 1) : (A ++ u :: v :: B).set n y = A ++ u :: y :: B := by
 have := Zgi (A := A ++ [u]) (B := B) (x := v) (y := y) (n := n) (by simp [h])
 simpa using this
theorem Ztt {A C D : List Int} {x y z : Int} {n : Nat} (h : n = A.length + 1 + C.length) : (A ++ x :: (C ++ y :: D)).set n z = A ++ x :: (C ++ z :: D) := by
 have := Zgi (A := A ++ x :: C) (B := D) (x := y) (y := z) (n := n) (by simp [h]; omega)
 simpa using this
theorem Zr5 {x : Int} (h0 : 0 ≤ x) (h1 : x < 4611686018427387904) : i64.wrap ((u64.wrap (i64.wrap x)).fdiv (2 ^ (min (1 : Int).toNat u64.bits))) = x / 2 := by
 rw [w64 (x := x) (by omega) (by omega), show u64.wrap x = x from by rw [IntKind.wrap_u64]; omega]
 have : (2 : Int) ^ (min (1 : Int).toNat u64.bits) = 2 := by decide
 rw [this, Int.fdiv_eq_ediv_of_nonneg _ (by omega)]
 exact w64 (by omega) (by omega)

def cI (a b : Int) : Int := if a < b then -1 else if b < a then 1 else 0
theorem Zgx {a b : Int} : cI a b < 0 ↔ a < b := by
 unfold cI
 by_cases h : a < b
 ·rw [if_pos h]; omega
 ·rw [if_neg h]; by_cases h2 : b < a
  ·rw [if_pos h2]; omega
  ·rw [if_neg h2]; omega
def Cmp (t : Option Tbs) (key : Int → Int) : Prop := ∀ a b, Q6.f a b t = some (cI (key a) (key b))

section
variable {t : Option Tbs} {key : Int → Int}
theorem Zqh (hc : Cmp t key) (go : List Int → Int → Option (List Int)) (P : List Int) (v i : Int) : ∀ (n : Nat) (S rest : List Int) (k : Nat), S.length = n → n < k → P.length + n + 1 + rest.length ≤ Z9 →
  ∃ S1 S2, S = S1 ++ S2 ∧ (∀ u ∈ S2, key v < key u) ∧ (∀ S' u, S1 = S' ++ [u] → ¬ key v < key u) ∧
   Zf.l1 go k t (P.length : Int) i (P ++ (S ++ v :: rest)) ((P.length : Int) + n) = go (P ++ (S1 ++ v :: (S2 ++ rest))) (i64.wrap (i + 1)) := by
 intro n
 induction n with
 | zero =>
  intro S rest k hS hk hb
  obtain rfl := List.eq_nil_of_length_eq_zero hS
  obtain ⟨k, rfl⟩ : ∃ j, k = j + 1 := ⟨k - 1, by omega⟩
  refine ⟨[], [], rfl, fun u hu => (by cases hu), fun S' u h => (by simp at h), ?_⟩
  simp only [Zf.l1, if_neg (show ¬ (P.length : Int) < (P.length : Int) + ((0 : Nat) : Int) by omega), Zf.j1, Bool.false_eq_true, if_false, List.nil_append]
 | succ n ih =>
  intro S rest k hS hk hb
  obtain ⟨k, rfl⟩ : ∃ j, k = j + 1 := ⟨k - 1, by omega⟩
  rcases List.eq_nil_or_concat S with rfl | ⟨S', u, rfl⟩
  ·simp at hS
  have hS' : S'.length = n := by simpa using hS
  have hb' := hb
  unfold Z9 at hb'
  have e : P ++ ((S' ++ [u]) ++ v :: rest) = (P ++ S') ++ u :: v :: rest := by simp
  have hl : ((P ++ S') ++ u :: v :: rest).length = P.length + n + 2 + rest.length := by simp [hS']; omega
  have e1 : i64.wrap ((P.length : Int) + ((n + 1 : Nat) : Int) - 1) = (P.length : Int) + n := by rw [w64 (by omega) (by omega)]; omega
  have r1 : rd ((P ++ S') ++ u :: v :: rest) ((P.length : Int) + ((n + 1 : Nat) : Int)) = v := Zn6 (by simp [hS']; omega)
  have r2 : rd ((P ++ S') ++ u :: v :: rest) ((P.length : Int) + (n : Int)) = u := Zbk (by simp [hS'])
  rw [List.concat_eq_append, e]
  simp only [Zf.l1, if_pos (show (P.length : Int) < (P.length : Int) + ((n + 1 : Nat) : Int) by omega), e1, hl, if_pos (show (0 : Int) ≤ (P.length : Int) + ((n + 1 : Nat) : Int) ∧ (P.length : Int) + ((n + 1 : Nat) : Int) < ((P.length + n + 2 + rest.length : Nat) : Int) by omega),
   if_pos (show (0 : Int) ≤ (P.length : Int) + (n : Int) ∧ (P.length : Int) + (n : Int) < ((P.length + n + 2 + rest.length : Nat) : Int) by omega), r1, r2, hc v u, Option.bind_some]
  by_cases c : key v < key u
  ·have c' : decide (cI (key v) (key u) < 0) = true := decide_eq_true (Zgx.2 c)
   rw [c']
   simp only [Zf.j1, if_true, List.length_set, e1, hl, if_pos (show (0 : Int) ≤ (P.length : Int) + ((n + 1 : Nat) : Int) ∧ (P.length : Int) + ((n + 1 : Nat) : Int) < ((P.length + n + 2 + rest.length : Nat) : Int) by omega),
    if_pos (show (0 : Int) ≤ (P.length : Int) + (n : Int) ∧ (P.length : Int) + (n : Int) < ((P.length + n + 2 + rest.length : Nat) : Int) by omega), r1, r2]
   rw [Zlp (by simp [hS']; omega), Zgi (by simp [hS']; omega)]
   obtain ⟨S1, S2, h1, h2, h3, h4⟩ := ih S' (u :: rest) k hS' (by omega) (by simp; omega)
   refine ⟨S1, S2 ++ [u], by rw [h1]; simp, fun w hw => ?_, h3, ?_⟩
   ·rcases List.mem_append.1 hw with hw | hw
    ·exact h2 w hw
    ·rw [List.mem_singleton.1 hw]; exact c
   ·have e2 : P ++ S' ++ v :: u :: rest = P ++ (S' ++ v :: u :: rest) := by simp
    rw [e2, h4]; simp
  ·have c' : decide (cI (key v) (key u) < 0) = false := decide_eq_false (fun h => c (Zgx.1 h))
   rw [c']
   simp only [Zf.j1, Bool.false_eq_true, if_false]
   refine ⟨S' ++ [u], [], by simp, fun w hw => (by cases hw), fun S'' w h => ?_, by simp⟩
   have := List.append_inj' h rfl
   obtain ⟨_, h2⟩ := this
   simp at h2; subst h2; exact c
theorem Zou {S1 : List Int} {v : Int} (h : Srt key S1) (hl : ∀ S' u, S1 = S' ++ [u] → ¬ key v < key u) : ∀ u ∈ S1, key u ≤ key v := by
 intro u hu
 rcases List.eq_nil_or_concat S1 with rfl | ⟨S', w, rfl⟩
 ·cases hu
 rw [List.concat_eq_append] at *
 have hw := hl S' w rfl
 obtain ⟨_, _, h3⟩ := Up key h
 rcases List.mem_append.1 hu with hu | hu
 ·have := h3 u hu w (by simp); omega
 ·rw [List.mem_singleton.1 hu]; omega
theorem Zpq (hc : Cmp t key) (P Q : List Int) : ∀ (R S : List Int) (k : Nat), R.length < k → Srt key S → P.length + S.length + R.length + Q.length ≤ Z9 →
  Zf.l2 k t (P.length : Int) ((P.length : Int) + S.length + R.length) (P ++ (S ++ (R ++ Q))) ((P.length : Int) + S.length) = some (P ++ (Kp key (S ++ R) ++ Q)) := by
 intro R
 induction R with
 | nil =>
  intro S k hk hs hb
  obtain ⟨k, rfl⟩ : ∃ j, k = j + 1 := ⟨k - 1, by omega⟩
  simp only [Zf.l2, if_neg (show ¬ (P.length : Int) + (S.length : Int) < (P.length : Int) + S.length + (([] : List Int).length : Int) by simp), List.nil_append, List.append_nil, Zd5 key hs]
 | cons v R ih =>
  intro S k hk hs hb
  obtain ⟨k, rfl⟩ : ∃ j, k = j + 1 := ⟨k - 1, by omega⟩
  have hb' := hb
  unfold Z9 at hb'
  simp only [List.length_cons] at hk hb' hb
  simp only [Zf.l2, if_pos (show (P.length : Int) + (S.length : Int) < (P.length : Int) + S.length + ((v :: R).length : Int) by simp; omega)]
  obtain ⟨S1, S2, h1, h2, h3, h4⟩ := Zqh hc (Zf.l2 k t (P.length : Int) ((P.length : Int) + S.length + ((v :: R).length : Int))) P v ((P.length : Int) + S.length) S.length S (R ++ Q) K0 rfl (ltK (by unfold Z9; omega)) (by simp; omega)
  rw [List.cons_append, h4, w64 (by omega) (by omega)]
  subst h1
  obtain ⟨hs1, hs2, hs12⟩ := Up key hs
  have hm := Zip key (a := S1) (x := S2) (v := v) hs h2 (Zou hs1 h3)
  have hsn : Srt key (S1 ++ v :: S2) := by rw [← hm]; exact Zap key _
  have := ih (S1 ++ v :: S2) k (by omega) hsn (by simp at hb ⊢; omega)
  have e1 : ((P.length : Int) + ((S1 ++ S2).length : Int) + ((v :: R).length : Int)) = (P.length : Int) + ((S1 ++ v :: S2).length : Int) + (R.length : Int) := by simp; omega
  have e2 : (P.length : Int) + ((S1 ++ S2).length : Int) + 1 = (P.length : Int) + ((S1 ++ v :: S2).length : Int) := by simp; omega
  have e3 : P ++ (S1 ++ v :: (S2 ++ (R ++ Q))) = P ++ ((S1 ++ v :: S2) ++ (R ++ Q)) := by simp
  rw [e1, e2, e3, this]
  congr 3
  rw [← hm, Zn1]; simp
theorem Zrd (hc : Cmp t key) (P X Q : List Int) (hb : P.length + X.length + Q.length ≤ Z9) :
  Zf.f (P.length : Int) ((P.length : Int) + X.length) (P ++ (X ++ Q)) t = some (P ++ (Kp key X ++ Q)) := by
 unfold Zf.f
 have hb' := hb
 unfold Z9 at hb'
 rw [w64 (by omega) (by omega)]
 cases X with
 | nil =>
  have : K0 = (K0 - 1) + 1 := by unfold K0; rfl
  rw [this]
  simp only [Zf.l2, if_neg (show ¬ (P.length : Int) + 1 < (P.length : Int) + (([] : List Int).length : Int) by simp; omega)]
  rfl
 | cons x X =>
  simp only [List.length_cons] at hb hb'
  have := Zpq hc P Q X [x] K0 (ltK (by unfold Z9; omega)) ⟨fun y hy => (by cases hy), trivial⟩ (by simp; omega)
  have e1 : (P.length : Int) + (([x] : List Int).length : Int) + (X.length : Int) = (P.length : Int) + ((x :: X).length : Int) := by simp; omega
  rw [e1] at this
  simpa using this
theorem Zt6 (P M Q : List Int) : ∀ (X2 Y2 X1 Y1 : List Int) (k : Nat), X2.length = Y2.length → X1.length = Y1.length → X2.length < k → P.length + 2 * (X1.length + X2.length) + M.length + Q.length ≤ Z9 →
  Z0.l1 k (P.length : Int) ((P.length : Int) + (X1.length + X2.length) + M.length) ((X1.length : Int) + X2.length) (P ++ ((Y1 ++ X2) ++ (M ++ ((X1 ++ Y2) ++ Q)))) (X1.length : Int) = some (P ++ ((Y1 ++ Y2) ++ (M ++ ((X1 ++ X2) ++ Q)))) := by
 intro X2
 induction X2 with
 | nil =>
  intro Y2 X1 Y1 k h1 h2 hk hb
  obtain ⟨k, rfl⟩ : ∃ j, k = j + 1 := ⟨k - 1, by omega⟩
  obtain rfl := List.eq_nil_of_length_eq_zero h1.symm
  simp only [Z0.l1, if_neg (show ¬ (X1.length : Int) < (X1.length : Int) + (([] : List Int).length : Int) by simp)]
 | cons x X2 ih =>
  intro Y2 X1 Y1 k h1 h2 hk hb
  obtain ⟨k, rfl⟩ : ∃ j, k = j + 1 := ⟨k - 1, by omega⟩
  cases Y2 with
  | nil => simp at h1
  | cons y Y2 =>
   simp only [List.length_cons] at h1 hk hb
   have hb' := hb
   unfold Z9 at hb'
   have e : P ++ ((Y1 ++ x :: X2) ++ (M ++ ((X1 ++ y :: Y2) ++ Q))) = (P ++ Y1) ++ x :: ((X2 ++ (M ++ X1)) ++ y :: (Y2 ++ Q)) := by simp
   have w1 : i64.wrap ((P.length : Int) + (X1.length : Int)) = (P.length : Int) + X1.length := w64 (by omega) (by omega)
   have w2 : i64.wrap ((P.length : Int) + ((X1.length : Int) + ((x :: X2).length : Int)) + (M.length : Int) + (X1.length : Int)) = (P.length : Int) + (X1.length + X2.length + 1) + M.length + X1.length := by rw [w64 (by simp; omega) (by simp; omega)]; simp; omega
   have hl : ((P ++ Y1) ++ x :: ((X2 ++ (M ++ X1)) ++ y :: (Y2 ++ Q))).length = P.length + 2 * (X1.length + (X2.length + 1)) + M.length + Q.length := by simp; omega
   have r1 : rd ((P ++ Y1) ++ x :: ((X2 ++ (M ++ X1)) ++ y :: (Y2 ++ Q))) ((P.length : Int) + X1.length) = x := Zbk (by simp; omega)
   have r2 : rd ((P ++ Y1) ++ x :: ((X2 ++ (M ++ X1)) ++ y :: (Y2 ++ Q))) ((P.length : Int) + (X1.length + X2.length + 1) + M.length + X1.length) = y := Zv8 (by simp; omega)
   rw [e]
   simp only [Z0.l1, if_pos (show (X1.length : Int) < (X1.length : Int) + ((x :: X2).length : Int) by simp; omega), w1, w2, List.length_set, hl,
    if_pos (show (0 : Int) ≤ (P.length : Int) + (X1.length + X2.length + 1) + M.length + X1.length ∧ (P.length : Int) + (X1.length + X2.length + 1) + M.length + X1.length < ((P.length + 2 * (X1.length + (X2.length + 1)) + M.length + Q.length : Nat) : Int) by omega),
    if_pos (show (0 : Int) ≤ (P.length : Int) + X1.length ∧ (P.length : Int) + X1.length < ((P.length + 2 * (X1.length + (X2.length + 1)) + M.length + Q.length : Nat) : Int) by omega), r1, r2]
   rw [Zgi (by simp; omega), Ztt (by simp; omega), w64 (by omega) (by omega)]
   have := ih Y2 (X1 ++ [x]) (Y1 ++ [y]) k (by omega) (by simp; omega) (by omega) (by simp; omega)
   have e1 : (P.length : Int) + (((X1 ++ [x]).length : Int) + (X2.length : Int)) + (M.length : Int) = (P.length : Int) + ((X1.length : Int) + ((x :: X2).length : Int)) + (M.length : Int) := by simp; omega
   have e2 : ((X1 ++ [x]).length : Int) + (X2.length : Int) = (X1.length : Int) + ((x :: X2).length : Int) := by simp; omega
   have e3 : ((X1 ++ [x]).length : Int) = (X1.length : Int) + 1 := by simp
   rw [e1, e2, e3] at this
   simpa using this
theorem Zli (P X M Y Q : List Int) (h : X.length = Y.length) (hb : P.length + 2 * X.length + M.length + Q.length ≤ Z9) :
  Z0.f (P.length : Int) ((P.length : Int) + X.length + M.length) (X.length : Int) (P ++ (X ++ (M ++ (Y ++ Q)))) t = some (P ++ (Y ++ (M ++ (X ++ Q)))) := by
 have hb' := hb
 unfold Z9 at hb'
 have := Zt6 P M Q X Y [] [] K0 h rfl (ltK (by unfold Z9; omega)) (by simpa using hb)
 unfold Z0.f
 simpa using this
theorem Zvl : ∀ (n : Nat) (P X Y Q : List Int) (k : Nat), X.length + Y.length ≤ n → n < k → 0 < X.length → 0 < Y.length → P.length + X.length + Y.length + Q.length ≤ Z9 →
  Yd.l1 k t ((P.length : Int) + X.length) (P ++ (X ++ (Y ++ Q))) (X.length : Int) (Y.length : Int) = some (P ++ (Y ++ (X ++ Q))) := by
 intro n
 induction n with
 | zero => intro P X Y Q k h1 h2 h3; omega
 | succ n ih =>
  intro P X Y Q k h1 h2 h3 h4 hb
  obtain ⟨k, rfl⟩ : ∃ j, k = j + 1 := ⟨k - 1, by omega⟩
  have hb' := hb
  unfold Z9 at hb'
  have w1 : i64.wrap ((P.length : Int) + (X.length : Int) - (X.length : Int)) = (P.length : Int) := by rw [w64 (by omega) (by omega)]; omega
  by_cases c1 : (X.length : Int) = (Y.length : Int)
  ·simp only [Yd.l1, if_neg (show ¬ (X.length : Int) ≠ (Y.length : Int) by omega), w1]
   have := Zli (t := t) P X [] Y Q (by omega) (by simp; omega)
   have e : (P.length : Int) + (X.length : Int) + (([] : List Int).length : Int) = (P.length : Int) + X.length := by simp
   rw [e] at this
   simp only [List.nil_append] at this
   rw [this]; rfl
  ·by_cases c2 : (Y.length : Int) < (X.length : Int)
   ·simp only [Yd.l1, if_pos (show (X.length : Int) ≠ (Y.length : Int) from c1), if_pos c2, w1]
    obtain ⟨X1, X2, rfl, hx1⟩ : ∃ X1 X2, X = X1 ++ X2 ∧ X1.length = Y.length := ⟨X.take Y.length, X.drop Y.length, by simp, by simp; omega⟩
    have hx2 : 0 < X2.length := by simp at c2; omega
    have := Zli (t := t) P X1 X2 Y Q hx1 (by simp at hb; omega)
    have e : (P.length : Int) + ((X1 ++ X2).length : Int) = (P.length : Int) + X1.length + X2.length := by simp; omega
    rw [hx1] at this
    rw [e, hx1]
    have e2 : P ++ (X1 ++ X2 ++ (Y ++ Q)) = P ++ (X1 ++ (X2 ++ (Y ++ Q))) := by simp
    rw [e2, this, Option.bind_some]
    have w2 : i64.wrap (((X1 ++ X2).length : Int) - (Y.length : Int)) = (X2.length : Int) := by rw [w64 (by simp; omega) (by simp; omega)]; simp; omega
    rw [w2]
    have := ih (P ++ Y) X2 X1 Q k (by simp at h1; omega) (by omega) hx2 (by omega) (by simp at hb ⊢; omega)
    have e3 : ((P ++ Y).length : Int) + (X2.length : Int) = (P.length : Int) + Y.length + X2.length := by simp
    rw [e3, hx1] at this
    have e4 : P ++ (Y ++ (X2 ++ (X1 ++ Q))) = P ++ Y ++ (X2 ++ (X1 ++ Q)) := by simp
    rw [e4, this]; simp
   ·simp only [Yd.l1, if_pos (show (X.length : Int) ≠ (Y.length : Int) from c1), if_neg c2, w1]
    obtain ⟨Y1, Y2, rfl, hy1⟩ : ∃ Y1 Y2, Y = Y1 ++ Y2 ∧ Y2.length = X.length := ⟨Y.take (Y.length - X.length), Y.drop (Y.length - X.length), by simp, by simp; omega⟩
    have hy0 : 0 < Y1.length := by simp at c1 c2; omega
    have := Zli (t := t) P X Y1 Y2 Q hy1.symm (by simp at hb; omega)
    have w3 : i64.wrap (i64.wrap ((P.length : Int) + (X.length : Int) + ((Y1 ++ Y2).length : Int)) - (X.length : Int)) = (P.length : Int) + X.length + Y1.length := by
     have hyl : (Y1 ++ Y2).length = Y1.length + Y2.length := by simp
     rw [w64 (x := (P.length : Int) + (X.length : Int) + ((Y1 ++ Y2).length : Int)) (by omega) (by omega), w64 (x := (P.length : Int) + (X.length : Int) + ((Y1 ++ Y2).length : Int) - (X.length : Int)) (by omega) (by omega)]; omega
    rw [w3]
    have e2 : P ++ (X ++ (Y1 ++ Y2 ++ Q)) = P ++ (X ++ (Y1 ++ (Y2 ++ Q))) := by simp
    rw [e2, this, Option.bind_some]
    have hyl : (Y1 ++ Y2).length = Y1.length + Y2.length := by simp
    have w2 : i64.wrap (((Y1 ++ Y2).length : Int) - (X.length : Int)) = (Y1.length : Int) := by rw [w64 (by omega) (by omega)]; omega
    rw [w2]
    have := ih P Y2 Y1 (X ++ Q) k (by simp at h1; omega) (by omega) (by omega) hy0 (by simp at hb ⊢; omega)
    rw [hy1] at this
    rw [this]; simp
theorem Zvi (P X Y Q : List Int) (h3 : 0 < X.length) (h4 : 0 < Y.length) (hb : P.length + X.length + Y.length + Q.length ≤ Z9) :
  Yd.f (P.length : Int) ((P.length : Int) + X.length) ((P.length : Int) + X.length + Y.length) (P ++ (X ++ (Y ++ Q))) t = some (P ++ (Y ++ (X ++ Q))) := by
 have hb' := hb
 unfold Z9 at hb'
 unfold Yd.f
 have w1 : i64.wrap ((P.length : Int) + (X.length : Int) - (P.length : Int)) = (X.length : Int) := by rw [w64 (by omega) (by omega)]; omega
 have w2 : i64.wrap ((P.length : Int) + (X.length : Int) + (Y.length : Int) - ((P.length : Int) + (X.length : Int))) = (Y.length : Int) := by rw [w64 (by omega) (by omega)]; omega
 rw [w1, w2]
 exact Zvl (X.length + Y.length) P X Y Q K0 (Nat.le_refl _) (ltK (by unfold Z9; omega)) h3 h4 hb
end
end Go.Proofs.YthoicbafdanmkaaGreatDoor
/- Plain laws of slices.SortStableFunc: merging in place, and the whole. Own work of this repo. -/
namespace Go.Proofs.YthoicbafdanmkaaGreatDoor
open Go.IntKind (i8 i16 i32 i64 u8 u16 u32 u64)
open Go.RowKit
section
variable {t : Option Tbs} {key : Int → Int}
theorem Zqo (P Q : List Int) (u : Int) : ∀ (Y2 Y1 : List Int) (k : Nat), Y2.length < k → P.length + Y1.length + Y2.length + 1 + Q.length ≤ Z9 →
  Za.l1 k ((P.length : Int) + Y1.length + Y2.length + 1) (P ++ (Y1 ++ u :: (Y2 ++ Q))) ((P.length : Int) + Y1.length) = some (P ++ (Y1 ++ (Y2 ++ u :: Q))) := by
 intro Y2
 induction Y2 with
 | nil =>
  intro Y1 k hk hb
  obtain ⟨k, rfl⟩ : ∃ j, k = j + 1 := ⟨k - 1, by omega⟩
  unfold Z9 at hb
  have w1 : i64.wrap ((P.length : Int) + Y1.length + (([] : List Int).length : Int) + 1 - 1) = (P.length : Int) + Y1.length := by rw [w64 (by simp; omega) (by simp; omega)]; simp
  simp only [Za.l1, w1, if_neg (show ¬ (P.length : Int) + (Y1.length : Int) < (P.length : Int) + Y1.length by omega), List.nil_append]
 | cons y Y2 ih =>
  intro Y1 k hk hb
  obtain ⟨k, rfl⟩ : ∃ j, k = j + 1 := ⟨k - 1, by omega⟩
  simp only [List.length_cons] at hk hb
  have hb' := hb
  unfold Z9 at hb'
  have w1 : i64.wrap ((P.length : Int) + Y1.length + ((y :: Y2).length : Int) + 1 - 1) = (P.length : Int) + Y1.length + Y2.length + 1 := by rw [w64 (by simp; omega) (by simp; omega)]; simp; omega
  have w2 : i64.wrap ((P.length : Int) + Y1.length + 1) = (P.length : Int) + Y1.length + 1 := w64 (by omega) (by omega)
  have e : P ++ (Y1 ++ u :: ((y :: Y2) ++ Q)) = (P ++ Y1) ++ u :: y :: (Y2 ++ Q) := by simp
  have hl : ((P ++ Y1) ++ u :: y :: (Y2 ++ Q)).length = P.length + Y1.length + Y2.length + 2 + Q.length := by simp; omega
  have r1 : rd ((P ++ Y1) ++ u :: y :: (Y2 ++ Q)) ((P.length : Int) + Y1.length) = u := Zbk (by simp)
  have r2 : rd ((P ++ Y1) ++ u :: y :: (Y2 ++ Q)) ((P.length : Int) + Y1.length + 1) = y := Zn6 (by simp)
  rw [e]
  simp only [Za.l1, w1, if_pos (show (P.length : Int) + (Y1.length : Int) < (P.length : Int) + Y1.length + Y2.length + 1 by omega), w2, List.length_set, hl,
   if_pos (show (0 : Int) ≤ (P.length : Int) + Y1.length + 1 ∧ (P.length : Int) + Y1.length + 1 < ((P.length + Y1.length + Y2.length + 2 + Q.length : Nat) : Int) by omega),
   if_pos (show (0 : Int) ≤ (P.length : Int) + Y1.length ∧ (P.length : Int) + Y1.length < ((P.length + Y1.length + Y2.length + 2 + Q.length : Nat) : Int) by omega), r1, r2]
  rw [Zgi (by simp; omega), Zlp (by simp; omega)]
  have := ih (Y1 ++ [y]) k (by omega) (by simp; omega)
  have e1 : (P.length : Int) + ((Y1 ++ [y]).length : Int) + (Y2.length : Int) + 1 = (P.length : Int) + Y1.length + ((y :: Y2).length : Int) + 1 := by simp; omega
  have e2 : (P.length : Int) + ((Y1 ++ [y]).length : Int) = (P.length : Int) + Y1.length + 1 := by simp; omega
  rw [e1, e2] at this
  simpa using this
theorem Zsi (hc : Cmp t key) (ys : List Int) (a m b : Int) (u : Int) (hb : ys.length ≤ Z9) (ha : 0 ≤ a ∧ a < ys.length) (hu : rd ys a = u) (hm : 0 ≤ m) (hbl : b ≤ ys.length) : ∀ (n : Nat) (i j : Int) (k : Nat), (j - i).toNat ≤ n → n < k → m ≤ i → i ≤ j → j ≤ b →
  (m < i → key (rd ys (i - 1)) < key u) → (j < b → ¬ key (rd ys j) < key u) →
  ∃ s, m ≤ s ∧ s ≤ b ∧ (m < s → key (rd ys (s - 1)) < key u) ∧ (s < b → ¬ key (rd ys s) < key u) ∧ Za.l2 k ys t a i j = Za.l1 K0 s ys a := by
 intro n
 have hb' := hb
 unfold Z9 at hb'
 induction n with
 | zero =>
  intro i j k h1 h2 h3 h4 h5 h6 h7
  obtain ⟨k, rfl⟩ : ∃ j, k = j + 1 := ⟨k - 1, by omega⟩
  obtain rfl : i = j := by omega
  exact ⟨i, h3, h5, h6, h7, by simp only [Za.l2, if_neg (show ¬ i < i by omega)]⟩
 | succ n ih =>
  intro i j k h1 h2 h3 h4 h5 h6 h7
  obtain ⟨k, rfl⟩ : ∃ j, k = j + 1 := ⟨k - 1, by omega⟩
  by_cases c : i < j
  ·have hh := Zr5 (x := i + j) (by omega) (by omega)
   have w1 : i64.wrap ((i + j) / 2 + 1) = (i + j) / 2 + 1 := w64 (by omega) (by omega)
   simp only [Za.l2, if_pos c, hh, if_pos (show (0 : Int) ≤ (i + j) / 2 ∧ (i + j) / 2 < (ys.length : Int) by omega), if_pos (show (0 : Int) ≤ a ∧ a < (ys.length : Int) from ha), hu, hc _ u, Option.bind_some, w1]
   by_cases d : key (rd ys ((i + j) / 2)) < key u
   ·rw [if_pos (Zgx.2 d)]
    exact ih _ _ k (by omega) (by omega) (by omega) (by omega) h5 (fun _ => by rw [show (i + j) / 2 + 1 - 1 = (i + j) / 2 by omega]; exact d) h7
   ·rw [if_neg (fun h => d (Zgx.1 h))]
    exact ih _ _ k (by omega) (by omega) h3 (by omega) (by omega) h6 (fun _ => d)
  ·obtain rfl : i = j := by omega
   exact ⟨i, h3, h5, h6, h7, by simp only [Za.l2, if_neg c]⟩
theorem Zv1 {Y1 Y2 : List Int} {u : Int} (h : Srt key (Y1 ++ Y2)) (h1 : ∀ A y, Y1 = A ++ [y] → key y < key u) (h2 : ∀ y B, Y2 = y :: B → ¬ key y < key u) : (∀ v ∈ Y1, key v < key u) ∧ (∀ v ∈ Y2, key u ≤ key v) := by
 obtain ⟨a, b, _⟩ := Up key h
 refine ⟨fun v hv => ?_, fun v hv => ?_⟩
 ·rcases List.eq_nil_or_concat Y1 with rfl | ⟨A, w, rfl⟩
  ·cases hv
  rw [List.concat_eq_append] at *
  have hw := h1 A w rfl
  obtain ⟨_, _, h3⟩ := Up key a
  rcases List.mem_append.1 hv with hv | hv
  ·have := h3 v hv w (by simp); omega
  ·rw [List.mem_singleton.1 hv]; exact hw
 ·cases Y2 with
  | nil => cases hv
  | cons y B =>
   have := h2 y B rfl
   rcases List.mem_cons.1 hv with rfl | hv
   ·omega
   ·have := b.1 v hv; omega
theorem Zv4 {X1 X2 : List Int} {v : Int} (h : Srt key (X1 ++ X2)) (h1 : ∀ A x, X1 = A ++ [x] → ¬ key v < key x) (h2 : ∀ x B, X2 = x :: B → key v < key x) : (∀ u ∈ X1, key u ≤ key v) ∧ (∀ u ∈ X2, key v < key u) := by
 obtain ⟨a, b, _⟩ := Up key h
 refine ⟨fun w hw => Zou a h1 w hw, fun w hw => ?_⟩
 cases X2 with
 | nil => cases hw
 | cons y B =>
  have := h2 y B rfl
  rcases List.mem_cons.1 hw with rfl | hw
  ·exact this
  ·have := b.1 w hw; omega
theorem Zdp (Y : List Int) (n : Nat) (h : n ≤ Y.length) : ∃ Y1 Y2, Y = Y1 ++ Y2 ∧ Y1.length = n := ⟨Y.take n, Y.drop n, by simp, by simp; omega⟩
theorem Zp1 (hc : Cmp t key) (P Y Q : List Int) (u : Int) (hY : Srt key Y) (hb : P.length + 1 + Y.length + Q.length ≤ Z9) :
  Za.l2 K0 (P ++ (u :: (Y ++ Q))) t (P.length : Int) ((P.length : Int) + 1) ((P.length : Int) + 1 + Y.length) = some (P ++ (Kp key (u :: Y) ++ Q)) := by
 have hb' := hb
 unfold Z9 at hb'
 have hl : (P ++ (u :: (Y ++ Q))).length = P.length + 1 + Y.length + Q.length := by simp; omega
 obtain ⟨s, s1, s2, s3, s4, s5⟩ := Zsi hc (P ++ (u :: (Y ++ Q))) (P.length : Int) ((P.length : Int) + 1) ((P.length : Int) + 1 + Y.length) u (by omega) (by omega) (Zbk rfl) (by omega) (by omega) (Z9) ((P.length : Int) + 1) ((P.length : Int) + 1 + Y.length) K0 (by unfold Z9; omega) (ltK (Nat.le_refl _)) (by omega) (by omega) (by omega) (fun h => by omega) (fun h => by omega)
 rw [s5]
 obtain ⟨Y1, Y2, rfl, hn⟩ := Zdp Y (s - (P.length + 1)).toNat (by omega)
 have hyl : (Y1 ++ Y2).length = Y1.length + Y2.length := by simp
 have es : s = (P.length : Int) + (([] : List Int).length : Int) + Y1.length + 1 := by simp; omega
 have hcut := Zv1 (u := u) hY (fun A y e => by
  subst e
  have hr : rd (P ++ (u :: (((A ++ [y]) ++ Y2) ++ Q))) (s - 1) = y := by
   have := Zbk (A := P ++ u :: A) (B := Y2 ++ Q) (x := y) (i := s - 1) (by simp at hn ⊢; omega)
   simpa using this
  have := s3 (by simp at hn; omega)
  rwa [hr] at this) (fun y B e => by
  subst e
  have hr : rd (P ++ (u :: ((Y1 ++ y :: B) ++ Q))) s = y := by
   have := Zbk (A := P ++ u :: Y1) (B := B ++ Q) (x := y) (i := s) (by simp; omega)
   simpa using this
  have := s4 (by simp at hyl ⊢; omega)
  rwa [hr] at this)
 have := Zqo P (Y2 ++ Q) u Y1 [] K0 (ltK (by unfold Z9; omega)) (by simp; omega)
 rw [es, Zmo key hY hcut.1 hcut.2]
 simpa using this
theorem Zrz (P Q : List Int) (v : Int) : ∀ (n : Nat) (X2 X1 Z : List Int) (k : Nat), X2.length = n → n < k → P.length + X1.length + n + Z.length + 1 + Q.length ≤ Z9 →
  Za.l3 k ((P.length : Int) + X1.length) (P ++ (X1 ++ (X2 ++ v :: (Z ++ Q)))) ((P.length : Int) + X1.length + n) = some (P ++ (X1 ++ v :: (X2 ++ (Z ++ Q)))) := by
 intro n
 induction n with
 | zero =>
  intro X2 X1 Z k h1 hk hb
  obtain ⟨k, rfl⟩ : ∃ j, k = j + 1 := ⟨k - 1, by omega⟩
  obtain rfl := List.eq_nil_of_length_eq_zero h1
  simp only [Za.l3, if_neg (show ¬ (P.length : Int) + (X1.length : Int) < (P.length : Int) + X1.length + ((0 : Nat) : Int) by omega), List.nil_append]
 | succ n ih =>
  intro X2 X1 Z k h1 hk hb
  obtain ⟨k, rfl⟩ : ∃ j, k = j + 1 := ⟨k - 1, by omega⟩
  have hb' := hb
  unfold Z9 at hb'
  rcases List.eq_nil_or_concat X2 with rfl | ⟨X', x, rfl⟩
  ·simp at h1
  have hX : X'.length = n := by simpa using h1
  rw [List.concat_eq_append]
  have w1 : i64.wrap ((P.length : Int) + X1.length + ((n + 1 : Nat) : Int) - 1) = (P.length : Int) + X1.length + n := by rw [w64 (by omega) (by omega)]; omega
  have e : P ++ (X1 ++ ((X' ++ [x]) ++ v :: (Z ++ Q))) = (P ++ (X1 ++ X')) ++ x :: v :: (Z ++ Q) := by simp
  have hl : ((P ++ (X1 ++ X')) ++ x :: v :: (Z ++ Q)).length = P.length + X1.length + n + 2 + Z.length + Q.length := by simp [hX]; omega
  have r1 : rd ((P ++ (X1 ++ X')) ++ x :: v :: (Z ++ Q)) ((P.length : Int) + X1.length + ((n + 1 : Nat) : Int)) = v := Zn6 (by simp [hX]; omega)
  have r2 : rd ((P ++ (X1 ++ X')) ++ x :: v :: (Z ++ Q)) ((P.length : Int) + X1.length + (n : Int)) = x := Zbk (by simp [hX]; omega)
  rw [e]
  simp only [Za.l3, if_pos (show (P.length : Int) + (X1.length : Int) < (P.length : Int) + X1.length + ((n + 1 : Nat) : Int) by omega), w1, List.length_set, hl,
   if_pos (show (0 : Int) ≤ (P.length : Int) + X1.length + ((n + 1 : Nat) : Int) ∧ (P.length : Int) + X1.length + ((n + 1 : Nat) : Int) < ((P.length + X1.length + n + 2 + Z.length + Q.length : Nat) : Int) by omega),
   if_pos (show (0 : Int) ≤ (P.length : Int) + X1.length + (n : Int) ∧ (P.length : Int) + X1.length + (n : Int) < ((P.length + X1.length + n + 2 + Z.length + Q.length : Nat) : Int) by omega), r1, r2]
  rw [Zlp (by simp [hX]; omega), Zgi (by simp [hX]; omega)]
  have := ih X' X1 (x :: Z) k hX (by omega) (by simp; omega)
  simpa using this
theorem Zt1 (hc : Cmp t key) (ys : List Int) (a m : Int) (v : Int) (hb : ys.length ≤ Z9) (ha : 0 ≤ a) (hm : 0 ≤ m ∧ m < ys.length) (hv : rd ys m = v) : ∀ (n : Nat) (i j : Int) (k : Nat), (j - i).toNat ≤ n → n < k → a ≤ i → i ≤ j → j ≤ m →
  (a < i → ¬ key v < key (rd ys (i - 1))) → (j < m → key v < key (rd ys j)) →
  ∃ s, a ≤ s ∧ s ≤ m ∧ (a < s → ¬ key v < key (rd ys (s - 1))) ∧ (s < m → key v < key (rd ys s)) ∧ Za.l4 k ys t m i j = Za.l3 K0 s ys m := by
 intro n
 have hb' := hb
 unfold Z9 at hb'
 induction n with
 | zero =>
  intro i j k h1 h2 h3 h4 h5 h6 h7
  obtain ⟨k, rfl⟩ : ∃ j, k = j + 1 := ⟨k - 1, by omega⟩
  obtain rfl : i = j := by omega
  exact ⟨i, h3, h5, h6, h7, by simp only [Za.l4, if_neg (show ¬ i < i by omega)]⟩
 | succ n ih =>
  intro i j k h1 h2 h3 h4 h5 h6 h7
  obtain ⟨k, rfl⟩ : ∃ j, k = j + 1 := ⟨k - 1, by omega⟩
  by_cases c : i < j
  ·have hh := Zr5 (x := i + j) (by omega) (by omega)
   have w1 : i64.wrap ((i + j) / 2 + 1) = (i + j) / 2 + 1 := w64 (by omega) (by omega)
   simp only [Za.l4, if_pos c, hh, if_pos (show (0 : Int) ≤ m ∧ m < (ys.length : Int) from hm), if_pos (show (0 : Int) ≤ (i + j) / 2 ∧ (i + j) / 2 < (ys.length : Int) by omega), hv, hc v _, Option.bind_some, w1]
   by_cases d : key v < key (rd ys ((i + j) / 2))
   ·rw [if_neg (fun h => h (Zgx.2 d))]
    exact ih _ _ k (by omega) (by omega) h3 (by omega) (by omega) h6 (fun _ => d)
   ·rw [if_pos (fun h => d (Zgx.1 h))]
    exact ih _ _ k (by omega) (by omega) (by omega) (by omega) h5 (fun _ => by rw [show (i + j) / 2 + 1 - 1 = (i + j) / 2 by omega]; exact d) h7
  ·obtain rfl : i = j := by omega
   exact ⟨i, h3, h5, h6, h7, by simp only [Za.l4, if_neg c]⟩
theorem Zre (hc : Cmp t key) (P X Q : List Int) (v : Int) (hX : Srt key X) (hb : P.length + X.length + 1 + Q.length ≤ Z9) :
  Za.l4 K0 (P ++ (X ++ (v :: Q))) t ((P.length : Int) + X.length) (P.length : Int) ((P.length : Int) + X.length) = some (P ++ (Kp key (X ++ [v]) ++ Q)) := by
 have hb' := hb
 unfold Z9 at hb'
 have hl : (P ++ (X ++ (v :: Q))).length = P.length + X.length + 1 + Q.length := by simp; omega
 have hr : rd (P ++ (X ++ (v :: Q))) ((P.length : Int) + X.length) = v := by
  have := Zbk (A := P ++ X) (B := Q) (x := v) (i := (P.length : Int) + X.length) (by simp)
  simpa using this
 obtain ⟨s, s1, s2, s3, s4, s5⟩ := Zt1 hc (P ++ (X ++ (v :: Q))) (P.length : Int) ((P.length : Int) + X.length) v (by omega) (by omega) (by omega) hr Z9 (P.length : Int) ((P.length : Int) + X.length) K0 (by unfold Z9; omega) (ltK (Nat.le_refl _)) (by omega) (by omega) (by omega) (fun h => by omega) (fun h => by omega)
 rw [s5]
 obtain ⟨X1, X2, rfl, hn⟩ := Zdp X (s - P.length).toNat (by omega)
 have hxl : (X1 ++ X2).length = X1.length + X2.length := by simp
 have es : s = (P.length : Int) + X1.length := by omega
 have hcut := Zv4 (v := v) hX (fun A y e => by
  subst e
  have hr : rd (P ++ (((A ++ [y]) ++ X2) ++ (v :: Q))) (s - 1) = y := by
   have := Zbk (A := P ++ A) (B := X2 ++ v :: Q) (x := y) (i := s - 1) (by simp at hn ⊢; omega)
   simpa using this
  have := s3 (by simp at hn; omega)
  rwa [hr] at this) (fun y B e => by
  subst e
  have hr : rd (P ++ ((X1 ++ y :: B) ++ (v :: Q))) s = y := by
   have := Zbk (A := P ++ X1) (B := B ++ v :: Q) (x := y) (i := s) (by simp; omega)
   simpa using this
  have := s4 (by simp at hxl ⊢; omega)
  rwa [hr] at this)
 have := Zrz P Q v X2.length X2 X1 [] K0 rfl (ltK (by unfold Z9; omega)) (by simp; omega)
 rw [es, Zip key hX hcut.2 hcut.1]
 have e : (P.length : Int) + ((X1 ++ X2).length : Int) = (P.length : Int) + X1.length + X2.length := by omega
 rw [e]
 simpa using this
end
end Go.Proofs.YthoicbafdanmkaaGreatDoor
/- Plain laws of slices.SortStableFunc and canon.Order: the whole. Own work of this repo. -/
namespace Go.Proofs.YthoicbafdanmkaaGreatDoor
open Go.IntKind (i8 i16 i32 i64 u8 u16 u32 u64)
open Go.RowKit
section
variable {t : Option Tbs} {key : Int → Int}
theorem Zr7 (hc : Cmp t key) (rec : Int → Int → Int → List Int → Option Tbs → Option (List Int)) (ys : List Int) (a m b mid lo hi : Int) (hb : ys.length ≤ Z9) (ha : 0 ≤ a) (hbb : 0 ≤ b ∧ b ≤ 1073741824 ∧ a ≤ 1073741824) (hm : 0 ≤ m ∧ m ≤ 1073741824) (hmid : mid = (a + b) / 2)
  (hg : ∀ c, lo ≤ c → c < hi → (0 ≤ c ∧ c < (ys.length : Int)) ∧ (0 ≤ mid + m - 1 - c ∧ mid + m - 1 - c < (ys.length : Int))) (hlo : 0 ≤ lo) (hhi : hi ≤ 1073741824) : ∀ (n : Nat) (i j : Int) (k : Nat), (j - i).toNat ≤ n → n < k → lo ≤ i → i ≤ j → j ≤ hi →
  (lo < i → ¬ key (rd ys (mid + m - i)) < key (rd ys (i - 1))) → (j < hi → key (rd ys (mid + m - 1 - j)) < key (rd ys j)) →
  ∃ s, lo ≤ s ∧ s ≤ hi ∧ (lo < s → ¬ key (rd ys (mid + m - s)) < key (rd ys (s - 1))) ∧ (s < hi → key (rd ys (mid + m - 1 - s)) < key (rd ys s)) ∧
   Za.l5 k rec ys t a m b i j = (if s < m then Za.j5 rec ys t a m b s (decide (m < mid + m - s)) else Za.j5 rec ys t a m b s false) := by
 have hb' := hb
 unfold Z9 at hb'
 have e0 := Zr5 (x := a + b) (by omega) (by omega)
 rw [← hmid] at e0
 have e1 : i64.wrap (mid + m) = mid + m := w64 (by omega) (by omega)
 have e2 : i64.wrap (mid + m - 1) = mid + m - 1 := w64 (by omega) (by omega)
 have fin : ∀ (i : Int) (k : Nat), lo ≤ i → i ≤ hi → Za.l5 (k + 1) rec ys t a m b i i = (if i < m then Za.j5 rec ys t a m b i (decide (m < mid + m - i)) else Za.j5 rec ys t a m b i false) := by
  intro i k h3 h4
  have e3 : i64.wrap (mid + m - i) = mid + m - i := w64 (by omega) (by omega)
  simp only [Za.l5, if_neg (show ¬ i < i by omega), e0, e1, e3]
 intro n
 induction n with
 | zero =>
  intro i j k h1 h2 h3 h4 h5 h6 h7
  obtain ⟨k, rfl⟩ : ∃ j, k = j + 1 := ⟨k - 1, by omega⟩
  obtain rfl : i = j := by omega
  exact ⟨i, h3, h5, h6, h7, fin i k h3 h5⟩
 | succ n ih =>
  intro i j k h1 h2 h3 h4 h5 h6 h7
  obtain ⟨k, rfl⟩ : ∃ j, k = j + 1 := ⟨k - 1, by omega⟩
  by_cases c : i < j
  ·have hh := Zr5 (x := i + j) (by omega) (by omega)
   obtain ⟨g1, g2⟩ := hg ((i + j) / 2) (by omega) (by omega)
   have w1 : i64.wrap ((i + j) / 2 + 1) = (i + j) / 2 + 1 := w64 (by omega) (by omega)
   have w2 : i64.wrap (mid + m - 1 - (i + j) / 2) = mid + m - 1 - (i + j) / 2 := w64 (by omega) (by omega)
   simp only [Za.l5, if_pos c, e0, e1, e2, hh, w1, w2, if_pos g1, if_pos g2, hc _ _, Option.bind_some]
   by_cases d : key (rd ys (mid + m - 1 - (i + j) / 2)) < key (rd ys ((i + j) / 2))
   ·rw [if_neg (fun h => h (Zgx.2 d))]
    exact ih _ _ k (by omega) (by omega) h3 (by omega) (by omega) h6 (fun _ => d)
   ·rw [if_pos (fun h => d (Zgx.1 h))]
    exact ih _ _ k (by omega) (by omega) (by omega) (by omega) h5 (fun _ => by rw [show (i + j) / 2 + 1 - 1 = (i + j) / 2 by omega, show mid + m - ((i + j) / 2 + 1) = mid + m - 1 - (i + j) / 2 by omega]; exact d) h7
  ·obtain rfl : i = j := by omega
   exact ⟨i, h3, h5, h6, h7, fin i k h3 h5⟩
theorem Znj {Y : List Int} (h : Srt key Y) : Kp key ([] ++ Y) = Y := by rw [List.nil_append]; exact Zd5 key h
theorem Zir {X : List Int} (h : Srt key X) : Kp key (X ++ []) = X := by rw [List.append_nil]; exact Zd5 key h
theorem Zri (hc : Cmp t key) : ∀ (n : Nat) (P X Y Q : List Int) (k : Nat), X.length + Y.length ≤ n → n < k → 0 < X.length → 0 < Y.length → Srt key X → Srt key Y → P.length + X.length + Y.length + Q.length ≤ Z9 →
  Za.f k (P.length : Int) ((P.length : Int) + X.length) ((P.length : Int) + X.length + Y.length) (P ++ (X ++ (Y ++ Q))) t = some (P ++ (Kp key (X ++ Y) ++ Q)) := by
 intro n
 induction n with
 | zero => intro P X Y Q k h1 h2 h3; omega
 | succ n ih =>
  intro P X Y Q k h1 h2 h3 h4 hX hY hb
  obtain ⟨k, rfl⟩ : ∃ j, k = j + 1 := ⟨k - 1, by omega⟩
  have hb' := hb
  unfold Z9 at hb'
  have w1 : i64.wrap ((P.length : Int) + X.length - P.length) = X.length := by rw [w64 (by omega) (by omega)]; omega
  have w2 : i64.wrap ((P.length : Int) + X.length + Y.length - ((P.length : Int) + X.length)) = Y.length := by rw [w64 (by omega) (by omega)]; omega
  simp only [Za.f, Za.b, w1, w2]
  by_cases c1 : (X.length : Int) = 1
  ·rw [if_pos c1]
   obtain ⟨u, rfl⟩ : ∃ u, X = [u] := by
    cases X with
    | nil => simp at h3
    | cons u X' => exact ⟨u, by rw [List.eq_nil_of_length_eq_zero (l := X') (by simp at c1; omega)]⟩
   have := Zp1 hc P Y Q u hY (by simp at hb; omega)
   simpa using this
  ·rw [if_neg c1]
   by_cases c2 : (Y.length : Int) = 1
   ·rw [if_pos c2]
    obtain ⟨v, rfl⟩ : ∃ v, Y = [v] := by
     cases Y with
     | nil => simp at h4
     | cons u X' => exact ⟨u, by rw [List.eq_nil_of_length_eq_zero (l := X') (by simp at c2; omega)]⟩
    have := Zre hc P X Q v hX (by simp at hb; omega)
    simpa using this
   ·rw [if_neg c2]
    obtain ⟨mid, hmid⟩ : ∃ mid : Int, mid = ((P.length : Int) + ((P.length : Int) + X.length + Y.length)) / 2 := ⟨_, rfl⟩
    have e0 := Zr5 (x := (P.length : Int) + ((P.length : Int) + X.length + Y.length)) (by omega) (by omega)
    rw [← hmid] at e0
    have e1 : i64.wrap (mid + ((P.length : Int) + X.length)) = mid + ((P.length : Int) + X.length) := w64 (by omega) (by omega)
    have e2 : i64.wrap (mid + ((P.length : Int) + X.length) - ((P.length : Int) + X.length + Y.length)) = mid - Y.length := by rw [w64 (by omega) (by omega)]; omega
    simp only [e0, e1, e2, Za.j6]
    have hl : (P ++ (X ++ (Y ++ Q))).length = P.length + X.length + Y.length + Q.length := by simp; omega
    -- the search
    have hs : ∃ s, (P.length : Int) ≤ s ∧ s ≤ (P.length : Int) + X.length ∧ s ≤ mid ∧ mid - Y.length ≤ s ∧
      ((P.length : Int) < s → mid - Y.length < s → ¬ key (rd (P ++ (X ++ (Y ++ Q))) (mid + ((P.length : Int) + X.length) - s)) < key (rd (P ++ (X ++ (Y ++ Q))) (s - 1))) ∧
      (s < (P.length : Int) + X.length → s < mid → key (rd (P ++ (X ++ (Y ++ Q))) (mid + ((P.length : Int) + X.length) - 1 - s)) < key (rd (P ++ (X ++ (Y ++ Q))) s)) ∧
      (if mid < (P.length : Int) + X.length then Za.l5 K0 (Za.f k) (P ++ (X ++ (Y ++ Q))) t (P.length : Int) ((P.length : Int) + X.length) ((P.length : Int) + X.length + Y.length) (mid - Y.length) mid
       else Za.l5 K0 (Za.f k) (P ++ (X ++ (Y ++ Q))) t (P.length : Int) ((P.length : Int) + X.length) ((P.length : Int) + X.length + Y.length) (P.length : Int) ((P.length : Int) + X.length)) =
      (if s < (P.length : Int) + X.length then Za.j5 (Za.f k) (P ++ (X ++ (Y ++ Q))) t (P.length : Int) ((P.length : Int) + X.length) ((P.length : Int) + X.length + Y.length) s (decide ((P.length : Int) + X.length < mid + ((P.length : Int) + X.length) - s))
       else Za.j5 (Za.f k) (P ++ (X ++ (Y ++ Q))) t (P.length : Int) ((P.length : Int) + X.length) ((P.length : Int) + X.length + Y.length) s false) := by
     by_cases c3 : mid < (P.length : Int) + X.length
     ·rw [if_pos c3]
      obtain ⟨s, s1, s2, s3, s4, s5⟩ := Zr7 hc (Za.f k) (P ++ (X ++ (Y ++ Q))) (P.length : Int) ((P.length : Int) + X.length) ((P.length : Int) + X.length + Y.length) mid (mid - Y.length) mid (by omega) (by omega) ⟨by omega, by omega, by omega⟩ ⟨by omega, by omega⟩ hmid
       (fun c hc1 hc2 => ⟨⟨by omega, by omega⟩, by omega, by omega⟩) (by omega) (by omega) Z9 (mid - Y.length) mid K0 (by unfold Z9; omega) (ltK (Nat.le_refl _)) (by omega) (by omega) (by omega) (fun h => by omega) (fun h => by omega)
      exact ⟨s, by omega, by omega, s2, s1, fun _ h => s3 h, fun _ h => s4 h, s5⟩
     ·rw [if_neg c3]
      obtain ⟨s, s1, s2, s3, s4, s5⟩ := Zr7 hc (Za.f k) (P ++ (X ++ (Y ++ Q))) (P.length : Int) ((P.length : Int) + X.length) ((P.length : Int) + X.length + Y.length) mid (P.length : Int) ((P.length : Int) + X.length) (by omega) (by omega) ⟨by omega, by omega, by omega⟩ ⟨by omega, by omega⟩ hmid
       (fun c hc1 hc2 => ⟨⟨by omega, by omega⟩, by omega, by omega⟩) (by omega) (by omega) Z9 (P.length : Int) ((P.length : Int) + X.length) K0 (by unfold Z9; omega) (ltK (Nat.le_refl _)) (by omega) (by omega) (by omega) (fun h => by omega) (fun h => by omega)
      exact ⟨s, s1, s2, by omega, by omega, fun h _ => s3 h, fun h _ => s4 h, s5⟩
    obtain ⟨s, s1, s2, s3, s4, s5, s6, s7⟩ := hs
    rw [s7]
    clear s7
    obtain ⟨X1, X2, rfl, hn⟩ := Zdp X (s - P.length).toNat (by omega)
    obtain ⟨Y1, Y2, rfl, hn2⟩ := Zdp Y (mid - s).toNat (by omega)
    have hxl : (X1 ++ X2).length = X1.length + X2.length := by simp
    have hyl : (Y1 ++ Y2).length = Y1.length + Y2.length := by simp
    have es : s = (P.length : Int) + X1.length := by omega
    have em : mid = (P.length : Int) + X1.length + Y1.length := by omega
    obtain ⟨hX1, hX2, _⟩ := Up key hX
    obtain ⟨hY1, hY2, _⟩ := Up key hY
    -- the first of X2 and the last of Y1; the last of X1 and the first of Y2
    have q3 : ∀ u ∈ X2, ∀ v ∈ Y1, key v < key u := by
     intro u hu v hv
     rcases List.eq_nil_or_concat Y1 with rfl | ⟨A, w, rfl⟩
     ·cases hv
     cases X2 with
     | nil => cases hu
     | cons x B =>
      rw [List.concat_eq_append] at *
      have hx' : (x :: B).length = B.length + 1 := rfl
      have ha' : (A ++ [w]).length = A.length + 1 := by simp
      have hlen : (P ++ (X1 ++ x :: B) ++ A).length = P.length + (X1 ++ x :: B).length + A.length := by simp; omega
      have h6 := s6 (by omega) (by omega)
      have r1 : rd (P ++ ((X1 ++ x :: B) ++ (((A ++ [w]) ++ Y2) ++ Q))) s = x := by
       have := Zbk (A := P ++ X1) (B := B ++ (A ++ [w] ++ Y2 ++ Q)) (x := x) (i := s) (by simp; omega)
       simpa using this
      have r2 : rd (P ++ ((X1 ++ x :: B) ++ (((A ++ [w]) ++ Y2) ++ Q))) (mid + ((P.length : Int) + ((X1 ++ x :: B).length : Int)) - 1 - s) = w := by
       have := Zbk (A := P ++ (X1 ++ x :: B) ++ A) (B := Y2 ++ Q) (x := w) (i := mid + ((P.length : Int) + ((X1 ++ x :: B).length : Int)) - 1 - s) (by omega)
       simpa using this
      rw [r1, r2] at h6
      have a1 : key v ≤ key w := by
       obtain ⟨_, _, h⟩ := Up key hY1
       rcases List.mem_append.1 hv with hv | hv
       ·exact h v hv w (by simp)
       ·rw [List.mem_singleton.1 hv]; omega
      have a2 : key x ≤ key u := by
       rcases List.mem_cons.1 hu with rfl | hu
       ·omega
       ·exact hX2.1 u hu
      omega
    have q4 : ∀ u ∈ X1, ∀ v ∈ Y2, key u ≤ key v := by
     intro u hu v hv
     rcases List.eq_nil_or_concat X1 with rfl | ⟨A, w, rfl⟩
     ·cases hu
     cases Y2 with
     | nil => cases hv
     | cons y B =>
      rw [List.concat_eq_append] at *
      have hy' : (y :: B).length = B.length + 1 := rfl
      have ha' : (A ++ [w]).length = A.length + 1 := by simp
      have hlen : (P ++ A).length = P.length + A.length := by simp
      have hlen2 : (P ++ ((A ++ [w]) ++ X2) ++ Y1).length = P.length + ((A ++ [w]) ++ X2).length + Y1.length := by simp; omega
      have h5 := s5 (by omega) (by omega)
      have r1 : rd (P ++ (((A ++ [w]) ++ X2) ++ ((Y1 ++ y :: B) ++ Q))) (s - 1) = w := by
       have := Zbk (A := P ++ A) (B := X2 ++ (Y1 ++ y :: B ++ Q)) (x := w) (i := s - 1) (by omega)
       simpa using this
      have r2 : rd (P ++ (((A ++ [w]) ++ X2) ++ ((Y1 ++ y :: B) ++ Q))) (mid + ((P.length : Int) + (((A ++ [w]) ++ X2).length : Int)) - s) = y := by
       have := Zbk (A := P ++ ((A ++ [w]) ++ X2) ++ Y1) (B := B ++ Q) (x := y) (i := mid + ((P.length : Int) + (((A ++ [w]) ++ X2).length : Int)) - s) (by omega)
       simpa using this
      rw [r1, r2] at h5
      have a1 : key u ≤ key w := by
       obtain ⟨_, _, h⟩ := Up key hX1
       rcases List.mem_append.1 hu with hu | hu
       ·exact h u hu w (by simp)
       ·rw [List.mem_singleton.1 hu]; omega
      have a2 : key y ≤ key v := by
       rcases List.mem_cons.1 hv with rfl | hv
       ·omega
       ·exact hY2.1 v hv
      omega
    have e3 : i64.wrap (mid + ((P.length : Int) + ((X1 ++ X2).length : Int)) - s) = mid + X2.length := by rw [w64 (by omega) (by omega)]; omega
    have hj2 : ∀ Z : List Int, Z.length = X1.length + Y1.length → Za.j2 (Za.f k) t (P.length : Int) ((P.length : Int) + ((X1 ++ X2).length : Int)) ((P.length : Int) + ((X1 ++ X2).length : Int) + ((Y1 ++ Y2).length : Int)) s (P ++ (Z ++ (X2 ++ (Y2 ++ Q)))) = some (P ++ (Z ++ (Kp key (X2 ++ Y2) ++ Q))) := by
     intro Z hZ
     simp only [Za.j2, Za.j1, e0, e1, e3]
     by_cases d1 : mid < mid + X2.length
     ·rw [if_pos d1]
      by_cases d2 : mid + X2.length < (P.length : Int) + ((X1 ++ X2).length : Int) + ((Y1 ++ Y2).length : Int)
      ·rw [decide_eq_true d2, if_pos rfl]
       have := ih (P ++ Z) X2 Y2 Q k (by omega) (by omega) (by omega) (by omega) hX2 hY2 (by simp; omega)
       have f1 : ((P ++ Z).length : Int) = mid := by simp; omega
       have f2 : mid + (X2.length : Int) + Y2.length = (P.length : Int) + ((X1 ++ X2).length : Int) + ((Y1 ++ Y2).length : Int) := by omega
       rw [f1, f2] at this
       have f3 : P ++ (Z ++ (X2 ++ (Y2 ++ Q))) = P ++ Z ++ (X2 ++ (Y2 ++ Q)) := by simp
       rw [f3, this]; simp
      ·rw [decide_eq_false d2]
       have : Y2 = [] := List.eq_nil_of_length_eq_zero (by omega)
       subst this
       simp only [Bool.false_eq_true, if_false, Zir hX2, List.nil_append]
     ·rw [if_neg d1]
      have : X2 = [] := List.eq_nil_of_length_eq_zero (by omega)
      subst this
      simp only [Bool.false_eq_true, if_false, List.nil_append, Zd5 key hY2]
    have hj4 : Za.j4 (Za.f k) t (P.length : Int) ((P.length : Int) + ((X1 ++ X2).length : Int)) ((P.length : Int) + ((X1 ++ X2).length : Int) + ((Y1 ++ Y2).length : Int)) s (P ++ (X1 ++ (Y1 ++ (X2 ++ (Y2 ++ Q))))) = some (P ++ (Kp key (X1 ++ Y1) ++ (Kp key (X2 ++ Y2) ++ Q))) := by
     have hz := hj2 (Kp key (X1 ++ Y1)) (by rw [H7]; simp)
     simp only [Za.j4, Za.j3, e0]
     by_cases d1 : (P.length : Int) < s
     ·rw [if_pos d1]
      by_cases d2 : s < mid
      ·rw [decide_eq_true d2, if_pos rfl]
       have := ih P X1 Y1 (X2 ++ (Y2 ++ Q)) k (by omega) (by omega) (by omega) (by omega) hX1 hY1 (by simp; omega)
       rw [← es, show s + (Y1.length : Int) = mid by omega] at this
       rw [this, Option.bind_some, hz]
      ·rw [decide_eq_false d2]
       have : Y1 = [] := List.eq_nil_of_length_eq_zero (by omega)
       subst this
       rw [Zir hX1] at hz ⊢
       simp only [Bool.false_eq_true, if_false, List.nil_append] at hz ⊢
       exact hz
     ·rw [if_neg d1]
      have : X1 = [] := List.eq_nil_of_length_eq_zero (by omega)
      subst this
      rw [Znj hY1] at hz ⊢
      simp only [Bool.false_eq_true, if_false, List.nil_append] at hz ⊢
      exact hz
    have goal : P ++ (Kp key ((X1 ++ X2) ++ (Y1 ++ Y2)) ++ Q) = P ++ (Kp key (X1 ++ Y1) ++ (Kp key (X2 ++ Y2) ++ Q)) := by
     rw [Zmi key hX hY q3 q4]; simp
    rw [goal, ← hj4]
    have f4 : P ++ ((X1 ++ X2) ++ ((Y1 ++ Y2) ++ Q)) = P ++ (X1 ++ (X2 ++ (Y1 ++ (Y2 ++ Q)))) := by simp
    rw [f4]
    have f5 : mid + ((P.length : Int) + ((X1 ++ X2).length : Int)) - s = mid + X2.length := by omega
    rw [f5]
    by_cases d1 : s < (P.length : Int) + ((X1 ++ X2).length : Int)
    ·rw [if_pos d1]
     by_cases d2 : (P.length : Int) + ((X1 ++ X2).length : Int) < mid + X2.length
     ·rw [decide_eq_true d2]
      simp only [Za.j5, if_true, e0, e1, e3]
      have := Zvi (t := t) (P ++ X1) X2 Y1 (Y2 ++ Q) (by omega) (by omega) (by simp; omega)
      have f1 : ((P ++ X1).length : Int) = s := by simp; omega
      have f2 : s + (X2.length : Int) = (P.length : Int) + ((X1 ++ X2).length : Int) := by omega
      have f3 : (P.length : Int) + ((X1 ++ X2).length : Int) + (Y1.length : Int) = mid + X2.length := by omega
      rw [f1, f2, f3] at this
      have f6 : P ++ (X1 ++ (X2 ++ (Y1 ++ (Y2 ++ Q)))) = P ++ X1 ++ (X2 ++ (Y1 ++ (Y2 ++ Q))) := by simp
      rw [f6, this, Option.bind_some]; simp
     ·rw [decide_eq_false d2]
      have : Y1 = [] := List.eq_nil_of_length_eq_zero (by omega)
      subst this
      simp only [Za.j5, Bool.false_eq_true, if_false, List.nil_append]
    ·rw [if_neg d1]
     have : X2 = [] := List.eq_nil_of_length_eq_zero (by omega)
     subst this
     simp only [Za.j5, Bool.false_eq_true, if_false, List.nil_append]
end
end Go.Proofs.YthoicbafdanmkaaGreatDoor
/- Plain laws of slices.SortStableFunc and canon.Order: blocks, the whole, each stretch. Own work of this repo. -/
namespace Go.Proofs.YthoicbafdanmkaaGreatDoor
open Go.IntKind (i8 i16 i32 i64 u8 u16 u32 u64)
open Go.RowKit
section
variable {t : Option Tbs} {key : Int → Int}
def Zms (key : Int → Int) (n : Nat) (Bs : List (List Int)) : Prop := ∀ B ∈ Bs, Srt key B ∧ B.length = n
theorem Zhq {n : Nat} : ∀ {Bs : List (List Int)}, Zms key n Bs → Bs.flatten.length = Bs.length * n
 | [], _ => by simp
 | B :: Bs, h => by
  have h1 := (h B (by simp)).2
  have h2 := Zhq (Bs := Bs) (fun C hC => h C (by simp [hC]))
  simp [h1, h2, Nat.add_mul]; omega
theorem Zur (hc : Cmp t key) (go : List Int → Int → Option (List Int)) (bs N : Nat) (h0 : 0 < bs) : ∀ (n : Nat) (Bs : List (List Int)) (D E : List Int) (k : Nat), Bs.length ≤ n → n < k → Zms key bs Bs → Srt key E → E.length < bs → D.length + Bs.flatten.length + E.length = N → N ≤ Z9 → bs < N →
  ∃ Cs E', Zms key (2 * bs) Cs ∧ Srt key E' ∧ E'.length < 2 * bs ∧ Feq key (Cs.flatten ++ E') (Bs.flatten ++ E) ∧ (Cs.flatten ++ E').length = (Bs.flatten ++ E).length ∧
   Zg.l1 go k t (N : Int) (bs : Int) (D ++ (Bs.flatten ++ E)) (D.length : Int) ((D.length : Int) + 2 * bs) = go (D ++ (Cs.flatten ++ E')) (2 * (bs : Int)) := by
 intro n
 induction n with
 | zero =>
  intro Bs D E k h1 hk hB hE hl hN hb hbs
  obtain ⟨k, rfl⟩ : ∃ j, k = j + 1 := ⟨k - 1, by omega⟩
  obtain rfl := List.eq_nil_of_length_eq_zero (Nat.le_zero.1 h1)
  unfold Z9 at hb
  simp only [List.flatten_nil, List.length_nil, Nat.add_zero] at hN
  refine ⟨[], E, fun C hC => (by cases hC), hE, by omega, Feq.refl key _, rfl, ?_⟩
  have w1 : i64.wrap ((D.length : Int) + bs) = (D.length : Int) + bs := w64 (by omega) (by omega)
  have w2 : i64.wrap ((bs : Int) * 2) = 2 * (bs : Int) := by rw [w64 (by omega) (by omega)]; omega
  simp only [Zg.l1, if_neg (show ¬ (D.length : Int) + 2 * bs ≤ (N : Int) by omega), w1, if_neg (show ¬ (D.length : Int) + bs < (N : Int) by omega), Zg.j1, w2]
 | succ n ih =>
  intro Bs D E k h1 hk hB hE hl hN hb hbs
  obtain ⟨k, rfl⟩ : ∃ j, k = j + 1 := ⟨k - 1, by omega⟩
  have hb' := hb
  unfold Z9 at hb'
  have w2 : i64.wrap ((bs : Int) * 2) = 2 * (bs : Int) := by rw [w64 (by omega) (by omega)]; omega
  match Bs, h1, hB, hN with
  | [], h1, hB, hN =>
   simp only [List.flatten_nil, List.length_nil, Nat.add_zero] at hN
   refine ⟨[], E, fun C hC => (by cases hC), hE, by omega, Feq.refl key _, rfl, ?_⟩
   have w1 : i64.wrap ((D.length : Int) + bs) = (D.length : Int) + bs := w64 (by omega) (by omega)
   simp only [Zg.l1, if_neg (show ¬ (D.length : Int) + 2 * bs ≤ (N : Int) by omega), w1, if_neg (show ¬ (D.length : Int) + bs < (N : Int) by omega), Zg.j1, w2]
  | [B], h1, hB, hN =>
   obtain ⟨hBs, hBl⟩ := hB B (by simp)
   simp only [List.flatten_cons, List.flatten_nil, List.append_nil] at hN
   have w1 : i64.wrap ((D.length : Int) + bs) = (D.length : Int) + bs := w64 (by omega) (by omega)
   simp only [Zg.l1, if_neg (show ¬ (D.length : Int) + 2 * bs ≤ (N : Int) by omega), w1, Zg.j1, w2, List.flatten_cons, List.flatten_nil, List.append_nil]
   by_cases c : (D.length : Int) + bs < (N : Int)
   ·rw [if_pos c]
    have := Zri hc (B.length + E.length) D B E [] K0 (Nat.le_refl _) (ltK (by unfold Z9; omega)) (by omega) (by omega) hBs hE (by simp; omega)
    rw [hBl] at this
    have e1 : (D.length : Int) + (bs : Int) + E.length = (N : Int) := by omega
    rw [e1] at this
    simp only [List.append_nil] at this
    rw [this, Option.bind_some]
    exact ⟨[], Kp key (B ++ E), fun C hC => (by cases hC), Zap key _, by rw [H7]; simp; omega, by simpa using H8 key (B ++ E), by simp [H7], rfl⟩
   ·rw [if_neg c]
    obtain rfl := List.eq_nil_of_length_eq_zero (show E.length = 0 by omega)
    exact ⟨[], B, fun C hC => (by cases hC), hBs, by omega, by simpa using Feq.refl key B, by simp, by simp⟩
  | B1 :: B2 :: Bs, h1, hB, hN =>
   obtain ⟨hs1, hl1⟩ := hB B1 (by simp)
   obtain ⟨hs2, hl2⟩ := hB B2 (by simp)
   have hBs : Zms key bs Bs := fun C hC => hB C (by simp [hC])
   simp only [List.flatten_cons, List.length_append] at hN
   have w1 : i64.wrap ((D.length : Int) + bs) = (D.length : Int) + bs := w64 (by omega) (by omega)
   have w3 : i64.wrap (2 * (bs : Int)) = 2 * (bs : Int) := w64 (by omega) (by omega)
   have w4 : i64.wrap ((D.length : Int) + 2 * bs + 2 * bs) = (D.length : Int) + 2 * bs + 2 * bs := w64 (by omega) (by omega)
   have := Zri hc (B1.length + B2.length) D B1 B2 (Bs.flatten ++ E) K0 (Nat.le_refl _) (ltK (by unfold Z9; omega)) (by omega) (by omega) hs1 hs2 (by rw [List.length_append]; omega)
   rw [hl1, hl2] at this
   have e1 : (D.length : Int) + (bs : Int) + bs = (D.length : Int) + 2 * bs := by omega
   rw [e1] at this
   have e2 : D ++ ((B1 :: B2 :: Bs).flatten ++ E) = D ++ (B1 ++ (B2 ++ (Bs.flatten ++ E))) := by simp
   simp only [Zg.l1, if_pos (show (D.length : Int) + 2 * bs ≤ (N : Int) by omega), w1, w3, w4, e2, this, Option.bind_some]
   have hsl : (Kp key (B1 ++ B2)).length = 2 * bs := by rw [H7]; simp; omega
   obtain ⟨Cs, E', c1, c2, c3, c4, c5, c6⟩ := ih Bs (D ++ Kp key (B1 ++ B2)) E k (by simp at h1; omega) (by omega) hBs hE hl (by rw [List.length_append, hsl]; omega) hb hbs
   have e3 : ((D ++ Kp key (B1 ++ B2)).length : Int) = (D.length : Int) + 2 * bs := by simp [hsl]
   rw [e3] at c6
   have e4 : D ++ (Kp key (B1 ++ B2) ++ (Bs.flatten ++ E)) = D ++ Kp key (B1 ++ B2) ++ (Bs.flatten ++ E) := by simp
   rw [e4, c6]
   refine ⟨Kp key (B1 ++ B2) :: Cs, E', fun C hC => ?_, c2, c3, ?_, ?_, by simp⟩
   ·rcases List.mem_cons.1 hC with rfl | hC
    ·exact ⟨Zap key _, hsl⟩
    ·exact c1 C hC
   ·have := Feq.app key (H8 key (B1 ++ B2)) c4
    simpa using this
   ·simp only [List.flatten_cons, List.length_append] at c5 ⊢
    omega
theorem Zqn (hc : Cmp t key) (N : Nat) (hb : N ≤ Z9) : ∀ (n bs : Nat) (Bs : List (List Int)) (E : List Int) (k : Nat), 0 < bs → N - bs ≤ n → n < k → Zms key bs Bs → Srt key E → E.length < bs → (Bs.flatten ++ E).length = N →
  Zg.l2 k t (N : Int) (Bs.flatten ++ E) (bs : Int) = some (Kp key (Bs.flatten ++ E)) := by
 intro n
 have hb' := hb
 unfold Z9 at hb'
 have fin : ∀ (bs : Nat) (Bs : List (List Int)) (E : List Int), 0 < bs → N ≤ bs → Zms key bs Bs → Srt key E → E.length < bs → (Bs.flatten ++ E).length = N → Srt key (Bs.flatten ++ E) := by
  intro bs Bs E h0 h1 hB hE hl hN
  have := Zhq hB
  simp only [List.length_append] at hN
  match Bs, hB, this with
  | [], _, _ => simpa using hE
  | [B], hB, this =>
   have e := (hB B (by simp)).2
   simp at this hN
   obtain rfl := List.eq_nil_of_length_eq_zero (show E.length = 0 by omega)
   simpa using (hB B (by simp)).1
  | B1 :: B2 :: Bs, hB, this =>
   simp only [List.length_cons] at this
   rw [Nat.add_mul, Nat.add_mul] at this
   omega
 induction n with
 | zero =>
  intro bs Bs E k h0 h1 hk hB hE hl hN
  obtain ⟨k, rfl⟩ : ∃ j, k = j + 1 := ⟨k - 1, by omega⟩
  simp only [Zg.l2, if_neg (show ¬ (bs : Int) < (N : Int) by omega), Zd5 key (fin bs Bs E h0 (by omega) hB hE hl hN)]
 | succ n ih =>
  intro bs Bs E k h0 h1 hk hB hE hl hN
  obtain ⟨k, rfl⟩ : ∃ j, k = j + 1 := ⟨k - 1, by omega⟩
  by_cases c : (bs : Int) < (N : Int)
  ·have w3 : i64.wrap (2 * (bs : Int)) = 2 * (bs : Int) := w64 (by omega) (by omega)
   have hfl := Zhq hB
   have hBl : Bs.length ≤ N := by
    simp only [List.length_append] at hN
    have : Bs.length * 1 ≤ Bs.length * bs := Nat.mul_le_mul_left _ h0
    omega
   obtain ⟨Cs, E', c1, c2, c3, c4, c5, c6⟩ := Zur hc (Zg.l2 k t (N : Int)) bs N h0 N Bs [] E K0 hBl (ltK hb) hB hE hl (by simpa using hN) hb (by omega)
   simp only [List.length_nil, List.nil_append] at c6
   have e1 : ((0 : Nat) : Int) + 2 * (bs : Int) = 2 * bs := by omega
   rw [e1] at c6
   simp only [Zg.l2, if_pos c, w3]
   have e2 : ((0 : Nat) : Int) = 0 := rfl
   rw [e2] at c6
   rw [c6]
   have := ih (2 * bs) Cs E' k (by omega) (by omega) (by omega) c1 c2 c3 (by rw [c5, hN])
   have e3 : ((2 * bs : Nat) : Int) = 2 * (bs : Int) := by omega
   rw [e3] at this
   rw [this, Zhp key c4]
  ·simp only [Zg.l2, if_neg c, Zd5 key (fin bs Bs E h0 (by omega) hB hE hl hN)]
theorem Znq (hc : Cmp t key) (N : Nat) (hb : N ≤ Z9) : ∀ (n : Nat) (R D : List Int) (k : Nat), R.length ≤ n → n < k → D.length + R.length = N →
  ∃ Bs E, Zms key 20 Bs ∧ Srt key E ∧ E.length < 20 ∧ Feq key (Bs.flatten ++ E) R ∧ (Bs.flatten ++ E).length = R.length ∧
   Zg.l3 k t (N : Int) (D ++ R) (D.length : Int) ((D.length : Int) + 20) = Zg.l2 K0 t (N : Int) (D ++ (Bs.flatten ++ E)) 20 := by
 intro n
 have hb' := hb
 unfold Z9 at hb'
 have fin : ∀ (R D : List Int) (k : Nat), D.length + R.length = N → R.length < 20 → ∃ Bs E, Zms key 20 Bs ∧ Srt key E ∧ E.length < 20 ∧ Feq key (Bs.flatten ++ E) R ∧ (Bs.flatten ++ E).length = R.length ∧
   Zg.l3 (k + 1) t (N : Int) (D ++ R) (D.length : Int) ((D.length : Int) + 20) = Zg.l2 K0 t (N : Int) (D ++ (Bs.flatten ++ E)) 20 := by
  intro R D k hN hR
  have := Zrd hc D R [] (by simp; omega)
  have e1 : (D.length : Int) + R.length = (N : Int) := by omega
  rw [e1] at this
  simp only [List.append_nil] at this
  refine ⟨[], Kp key R, fun C hC => (by cases hC), Zap key _, by rw [H7]; omega, by simpa using H8 key R, by simp [H7], ?_⟩
  simp only [Zg.l3, if_neg (show ¬ (D.length : Int) + 20 ≤ (N : Int) by omega), this, Option.bind_some, List.flatten_nil, List.nil_append]
 induction n with
 | zero =>
  intro R D k h1 hk hN
  obtain ⟨k, rfl⟩ : ∃ j, k = j + 1 := ⟨k - 1, by omega⟩
  exact fin R D k hN (by omega)
 | succ n ih =>
  intro R D k h1 hk hN
  obtain ⟨k, rfl⟩ : ∃ j, k = j + 1 := ⟨k - 1, by omega⟩
  by_cases c : R.length < 20
  ·exact fin R D k hN c
  ·obtain ⟨B, R, rfl, hB⟩ := Zdp R 20 (by omega)
   have hrl : (B ++ R).length = B.length + R.length := by simp
   have := Zrd hc D B R (by omega)
   rw [hB] at this
   have w1 : i64.wrap ((D.length : Int) + 20 + 20) = (D.length : Int) + 20 + 20 := w64 (by omega) (by omega)
   have e0 : ((20 : Nat) : Int) = 20 := rfl
   rw [e0] at this
   simp only [Zg.l3, if_pos (show (D.length : Int) + 20 ≤ (N : Int) by omega), this, Option.bind_some, w1]
   have hsl : (Kp key B).length = 20 := by rw [H7]; exact hB
   have hdl : (D ++ Kp key B).length = D.length + 20 := by simp [hsl]
   obtain ⟨Bs, E, c1, c2, c3, c4, c5, c6⟩ := ih R (D ++ Kp key B) k (by omega) (by omega) (by omega)
   have e3 : ((D ++ Kp key B).length : Int) = (D.length : Int) + 20 := by omega
   rw [e3] at c6
   have e4 : D ++ (Kp key B ++ R) = D ++ Kp key B ++ R := by simp
   rw [e4, c6]
   refine ⟨Kp key B :: Bs, E, fun C hC => ?_, c2, c3, ?_, ?_, by simp⟩
   ·rcases List.mem_cons.1 hC with rfl | hC
    ·exact ⟨Zap key _, hsl⟩
    ·exact c1 C hC
   ·have := Feq.app key (H8 key B) c4
    simpa using this
   ·simp only [List.flatten_cons, List.length_append] at c5 ⊢
    omega
theorem Zw5 (hc : Cmp t key) (ys : List Int) (hb : ys.length ≤ Z9) : X8.f ys t = some (Kp key ys) := by
 unfold X8.f Zg.f
 obtain ⟨Bs, E, c1, c2, c3, c4, c5, c6⟩ := Znq hc ys.length hb ys.length ys [] K0 (Nat.le_refl _) (ltK hb) (by simp)
 simp only [List.length_nil, List.nil_append] at c6
 have e1 : ((0 : Nat) : Int) + 20 = 20 := rfl
 have e2 : ((0 : Nat) : Int) = 0 := rfl
 rw [e1, e2] at c6
 rw [c6]
 have := Zqn hc ys.length hb ys.length 20 Bs E K0 (by omega) (by omega) (ltK hb) c1 c2 c3 c5
 have e3 : ((20 : Nat) : Int) = 20 := rfl
 rw [e3] at this
 rw [this, Option.bind_some, Zhp key c4]

def Cls (t : Option Tbs) (key : Int → Int) : Prop := ∀ p, Qf.f t p = some (key p)
theorem Cls.cmp (h : Cls t key) : Cmp t key := by
 intro a b
 simp only [Q6.f, h a, h b, Option.bind_some, Hd.f, Uy.f, ne_eq, not_true_eq_false, decide_false, Bool.false_eq_true, if_false, cI]
 by_cases c : key a < key b
 ·simp [c]
 ·simp only [if_neg c]
  by_cases d : key b < key a
  ·simp [d]
  ·simp [d]
theorem Zs5 (h : Cls t key) (go : List Int → Int → Option (List Int)) (A : List Int) : ∀ (R S : List Int) (k : Nat), R.length < k → (∀ x ∈ S, key x ≠ 0) → A.length + S.length + R.length ≤ Z9 →
  ∃ S' R', S ++ R = S' ++ R' ∧ (∀ x ∈ S', key x ≠ 0) ∧ (∀ x B, R' = x :: B → key x = 0) ∧
   Y3.l1 go k t (A ++ (S ++ R)) (A.length : Int) ((A.length : Int) + S.length) = go (A ++ (Kp key S' ++ R')) ((A.length : Int) + S'.length + 1) := by
 have done : ∀ (S R : List Int) (r : Option (List Int)) (go' : Int → Option (List Int)), A.length + S.length + R.length ≤ Z9 → Y3.j1 go go' t (A ++ (S ++ R)) (A.length : Int) ((A.length : Int) + S.length) false = go (A ++ (Kp key S ++ R)) ((A.length : Int) + S.length + 1) := by
  intro S R _ go' hb
  have hb' := hb
  unfold Z9 at hb'
  have hl : (A ++ (S ++ R)).length = A.length + S.length + R.length := by simp; omega
  have e1 : sub (A ++ (S ++ R)) (A.length : Int) ((A.length : Int) + S.length) = S := by
   have : ((A.length : Int) + S.length).toNat = A.length + S.length := by omega
   simp [sub, this, List.take_append]
  have e2 : (A ++ (S ++ R)).take (A.length : Int).toNat = A := by simp
  have e3 : (A ++ (S ++ R)).drop ((A.length : Int) + S.length).toNat = R := by
   have : ((A.length : Int) + S.length).toNat = A.length + S.length := by omega
   rw [this, ← List.append_assoc, List.drop_append_of_le_length (by simp)]
   simp
  simp only [Y3.j1, Bool.false_eq_true, if_false, hl, if_pos (show (0 : Int) ≤ (A.length : Int) ∧ (A.length : Int) ≤ (A.length : Int) + S.length ∧ (A.length : Int) + (S.length : Int) ≤ ((A.length + S.length + R.length : Nat) : Int) by omega), e1, e2, e3,
   Zw5 h.cmp S (by unfold Z9; omega), Option.bind_some, w64 (x := (A.length : Int) + S.length + 1) (by omega) (by omega)]
 intro R
 induction R with
 | nil =>
  intro S k hk hS hb
  obtain ⟨k, rfl⟩ : ∃ j, k = j + 1 := ⟨k - 1, by omega⟩
  refine ⟨S, [], rfl, hS, fun x B e => (by cases e), ?_⟩
  have hl : (A ++ (S ++ [])).length = A.length + S.length := by simp
  simp only [Y3.l1, hl, if_neg (show ¬ (A.length : Int) + S.length < ((A.length + S.length : Nat) : Int) by omega)]
  exact done S [] none _ hb
 | cons x R ih =>
  intro S k hk hS hb
  obtain ⟨k, rfl⟩ : ∃ j, k = j + 1 := ⟨k - 1, by omega⟩
  have hb' := hb
  unfold Z9 at hb'
  simp only [List.length_cons] at hk hb'
  have hl : (A ++ (S ++ x :: R)).length = A.length + S.length + R.length + 1 := by simp; omega
  have r1 : rd (A ++ (S ++ x :: R)) ((A.length : Int) + S.length) = x := by
   have := Zbk (A := A ++ S) (B := R) (x := x) (i := (A.length : Int) + S.length) (by simp)
   simpa using this
  have g1 : (0 : Int) ≤ (A.length : Int) + S.length ∧ (A.length : Int) + (S.length : Int) < ((A.length + S.length + R.length + 1 : Nat) : Int) := by omega
  simp only [Y3.l1, hl, if_pos g1.2, if_pos g1, r1, h x, Option.bind_some]
  by_cases c : key x = 0
  ·have : decide (key x ≠ 0) = false := by simp [c]
   rw [this]
   refine ⟨S, x :: R, rfl, hS, fun y B e => ?_, done S (x :: R) none _ hb⟩
   cases e; exact c
  ·have : decide (key x ≠ 0) = true := by simp [c]
   rw [this]
   simp only [Y3.j1, if_true, w64 (x := (A.length : Int) + S.length + 1) (by omega) (by omega)]
   obtain ⟨S', R', q1, q2, q3, q4⟩ := ih (S ++ [x]) k (by omega) (fun y hy => by
    rcases List.mem_append.1 hy with hy | hy
    ·exact hS y hy
    ·rw [List.mem_singleton.1 hy]; exact c) (by simp at hb ⊢; omega)
   have e1 : (A.length : Int) + ((S ++ [x]).length : Int) = (A.length : Int) + S.length + 1 := by simp; omega
   rw [e1] at q4
   have e2 : A ++ (S ++ x :: R) = A ++ (S ++ [x] ++ R) := by simp
   rw [e2, q4]
   exact ⟨S', R', by rw [← q1]; simp, q2, q3, rfl⟩
theorem Ztc (h : Cls t key) : ∀ (n : Nat) (R A : List Int) (k : Nat), R.length ≤ n → n + 1 < k → A.length + R.length ≤ Z9 →
  Y3.l2 k t (A ++ R) (A.length : Int) = some (A ++ Zg7 key R) := by
 intro n
 induction n with
 | zero =>
  intro R A k h1 hk hb
  obtain ⟨k, rfl⟩ : ∃ j, k = j + 1 := ⟨k - 1, by omega⟩
  obtain rfl := List.eq_nil_of_length_eq_zero (Nat.le_zero.1 h1)
  simp only [Y3.l2, List.append_nil, if_neg (show ¬ (A.length : Int) < (A.length : Int) by omega)]
  simp [Zg7, Zgh, Kp]
 | succ n ih =>
  intro R A k h1 hk hb
  obtain ⟨k, rfl⟩ : ∃ j, k = j + 1 := ⟨k - 1, by omega⟩
  have hb' := hb
  unfold Z9 at hb'
  by_cases c : R.length = 0
  ·obtain rfl := List.eq_nil_of_length_eq_zero c
   simp only [Y3.l2, List.append_nil, if_neg (show ¬ (A.length : Int) < (A.length : Int) by omega)]
   simp [Zg7, Zgh, Kp]
  ·have hl : (A ++ R).length = A.length + R.length := by simp
   simp only [Y3.l2, hl, if_pos (show (A.length : Int) < ((A.length + R.length : Nat) : Int) by omega)]
   obtain ⟨S, R', q1, q2, q3, q4⟩ := Zs5 h (Y3.l2 k t) A R [] K0 (ltK (by unfold Z9; omega)) (fun x hx => (by cases hx)) (by simpa using hb)
   simp only [List.nil_append] at q1 q4
   have e1 : (A.length : Int) + (([] : List Int).length : Int) = (A.length : Int) := by simp
   rw [e1] at q4
   rw [q4]
   subst q1
   cases R' with
   | nil =>
    obtain ⟨k, rfl⟩ : ∃ j, k = j + 1 := ⟨k - 1, by omega⟩
    have hl2 : (A ++ (Kp key S ++ [])).length = A.length + S.length := by simp [H7]
    simp only [Y3.l2, hl2, if_neg (show ¬ (A.length : Int) + S.length + 1 < ((A.length + S.length : Nat) : Int) by omega)]
    have := Zh4 key S [] [] q2
    simp only [List.append_nil, List.nil_append] at this
    simp only [Zg7, List.append_nil, this, Zgh]
   | cons x B =>
    have hx := q3 x B rfl
    have := ih B (A ++ (Kp key S ++ [x])) k (by simp at h1; omega) (by omega) (by simp [H7] at hb ⊢; omega)
    have e2 : ((A ++ (Kp key S ++ [x])).length : Int) = (A.length : Int) + S.length + 1 := by simp [H7]; omega
    rw [e2] at this
    have e3 : A ++ (Kp key S ++ x :: B) = A ++ (Kp key S ++ [x]) ++ B := by simp
    rw [e3, this]
    have h2 := Zh4 key S [] (x :: B) q2
    simp only [List.nil_append] at h2
    simp only [Zg7, h2, Zgh, if_pos hx]
    simp
theorem Zrr (h : Cls t key) (l : List Int) (hb : l.length ≤ Z9) : Y3.f t l = some (Zg7 key l) := by
 have hcl : Xi.f l = some l := by
  rw [Xi.f, if_pos (by unfold Z9 at hb; unfold most; simp; omega)]; rfl
 unfold Y3.f
 rw [hcl, Option.bind_some]
 have := Ztc h l.length l [] K0 (Nat.le_refl _) (by unfold Z9 at hb; unfold K0; omega) (by simpa using hb)
 simpa using this
end
end Go.Proofs.YthoicbafdanmkaaGreatDoor
/- Plain laws, second part: rows that rise, in the program and in the reference. Own work of this repo. -/
namespace Go.Proofs.YthoicbafdanmkaaGreatDoor
open Go.RowKit

def Uv (lo hi : Int) : Bool := (decide (lo ≤ 4370) && decide (4352 ≤ hi)) || (decide (lo ≤ 4469) && decide (4449 ≤ hi)) || (decide (lo ≤ 4546) && decide (4520 ≤ hi)) || (decide (lo ≤ 55203) && decide (44032 ≤ hi))
def Zhw (p : Int) : Bool := (decide (4352 ≤ p) && decide (p ≤ 4370)) || (decide (4449 ≤ p) && decide (p ≤ 4469)) || (decide (4520 ≤ p) && decide (p ≤ 4546)) || (decide (44032 ≤ p) && decide (p ≤ 55203))
def Zb7 (p : Int) : Bool := (decide (0 ≤ p) && decide (p < 55296)) || (decide (57343 < p) && decide (p ≤ 1114111))
theorem Zg1 (lo hi : Int) : Ys.f lo hi = some (Uv lo hi) := by
 unfold Ys.f Uv
 simp only [Ys.j1]
 repeat' split
 all_goals (simp [*] <;> try omega)
theorem Znz (p : Int) : Xa.f p = some (Zhw p) := by
 unfold Xa.f Zhw
 simp only [Xa.j1]
 repeat' split
 all_goals (simp [*] <;> try omega)
theorem Ziv (p : Int) : Kk.f p = some (Zb7 p) := by
 unfold Kk.f Zb7
 simp only [Kk.j1]
 repeat' split
 all_goals (simp [*] <;> try omega)
theorem Znc (p : Int) : Kj.f p = some (!Zb7 p) := by
 unfold Kj.f Zb7
 simp only [Kj.j1]
 by_cases a : p < 0
 ·simp [a, show ¬ 0 ≤ p by omega, show ¬ 57343 < p by omega]
 ·by_cases b : 1114111 < p
  ·simp [a, b, show ¬ p < 55296 by omega, show ¬ p ≤ 1114111 by omega]
  ·by_cases c : 55296 ≤ p
   ·by_cases d : p ≤ 57343
    ·simp [a, b, c, d, show ¬ p < 55296 by omega, show ¬ 57343 < p by omega]
    ·simp [a, b, c, d, show ¬ p < 55296 by omega, show 57343 < p by omega, show p ≤ 1114111 by omega]
   ·simp [a, b, c, show 0 ≤ p by omega, show p < 55296 by omega]
theorem Zmz (l : List Int) (hl : l.length ≤ Z9) : ∃ r, Yn.f l = some r ∧ Hw r (l.all Zb7) := by
 refine Qb (fun k i (_ : Unit) => Yn.l1 k l i) l (fun pre t _ o => ∃ r, o = some r ∧ Hw r (t.all Zb7)) ?_ ?_ () K0 (ltK hl)
 ·intro _ k
  exact ⟨-1, by simp only [Yn.l1, if_neg (show ¬ (l.length : Int) < (l.length : Int) by omega)], .inl ⟨rfl, rfl⟩⟩
 ·intro pre x t _ k e ih
  obtain ⟨h1, h2⟩ := mid e
  simp only [Yn.l1, if_pos h2.2, if_pos h2, h1, Znc, Option.bind_some, nxt hl e, List.all_cons]
  cases c : Zb7 x with
  | false => exact ⟨pre.length, by simp, .inr ⟨by simp, by omega⟩⟩
  | true => simpa using ih ()
def Uj (l : List Int) (a b : Int) : Bool := decide (a ≤ (l.length : Int)) && decide ((l.length : Int) ≤ b) && l.all Zb7
theorem Zb2 (l : List Int) (a b : Int) (hb : b ≤ 1000) : Qu.f l a b = some (Uj l a b) := by
 unfold Qu.f Uj
 by_cases h1 : a ≤ (l.length : Int)
 ·by_cases h2 : (l.length : Int) ≤ b
  ·obtain ⟨r, h3, h4⟩ := Zmz l (by unfold Z9; omega)
   simp only [if_pos h1, if_pos h2, Q0.f, h3, Option.bind_some, h4.val, Qu.j1, Bool.not_not]
   simp [h1, h2]
  ·simp [h1, h2, Qu.j1]
 ·simp [h1, Qu.j1]
theorem Zm1 (lo hi : Int) (l : List Spn) (hl : l.length ≤ Z9) : ∃ r, Z6.f l lo hi = some r ∧ Hw r (!l.any fun h => decide (lo ≤ h.hi) && decide (h.lo ≤ hi)) := by
 refine Qb (fun k i (_ : Unit) => Z6.l1 k lo hi l i) l (fun pre t _ o => ∃ r, o = some r ∧ Hw r (!t.any fun h => decide (lo ≤ h.hi) && decide (h.lo ≤ hi))) ?_ ?_ () K0 (ltK hl)
 ·intro _ k
  exact ⟨-1, by simp only [Z6.l1, if_neg (show ¬ (l.length : Int) < (l.length : Int) by omega)], .inl ⟨rfl, rfl⟩⟩
 ·intro pre x t _ k e ih
  obtain ⟨h1, h2⟩ := mid e
  simp only [Z6.l1, if_pos h2.2, if_pos h2, h1, Kc.f, Kc.j1, nxt hl e, List.any_cons]
  by_cases c1 : lo ≤ x.hi
  ·by_cases c2 : x.lo ≤ hi
   ·exact ⟨pre.length, by simp [c1, c2], .inr ⟨by simp [c1, c2], by omega⟩⟩
   ·simpa [c1, c2] using ih ()
  ·simpa [c1] using ih ()
theorem Zn9 (s : Spn) : H2.f s = some (Uv s.lo s.hi) := by
 unfold H2.f Za6.f
 simp only [Option.bind_some, Xz.f]
 obtain ⟨r, h1, h2⟩ := Zm1 s.lo s.hi [⟨4352, 4370⟩, ⟨4449, 4469⟩, ⟨4520, 4546⟩, ⟨44032, 55203⟩] (by decide)
 rw [h1]
 simp only [Option.bind_some, h2.val, Bool.not_not]
 congr 1
 exact (show ∀ a b c d : Bool, (a || (b || (c || (d || false)))) = (a || b || c || d) by decide) _ _ _ _
theorem Zjq (s : Spn) : Hl.f s = some true := rfl
theorem Zgk (s : Spn) : V1.f s = some (!Uv s.lo s.hi) := by
 unfold V1.f
 rw [Zn9, Option.bind_some]
theorem Zp5 (x : Chs) : H3.f x = some (Uj x.is_ 1 18) := by
 unfold H3.f
 rw [Zb2 x.is_ 1 18 (by decide), Option.bind_some]
theorem Zns (x : Val) (a b : Int) : Qx.f x a b = some (decide (a ≤ x.n) && decide (x.n ≤ b)) := by
 unfold Qx.f
 simp only [Qx.j1, Va.f, Zjq, Option.bind_some]
 by_cases h1 : a ≤ x.n
 ·by_cases h2 : x.n ≤ b <;> simp [h1, h2]
 ·simp [h1]
theorem Zny (x : Val) (a b : Int) : Qw.f x a b = some (decide (a ≤ x.n) && decide (x.n ≤ b) && !Uv x.lo x.hi) := by
 unfold Qw.f
 simp only [Qw.j1, Va.f, Zgk, Option.bind_some]
 by_cases h1 : a ≤ x.n
 ·by_cases h2 : x.n ≤ b <;> simp [h1, h2]
 ·simp [h1]
def Zaf (x : Chs) : Bool := decide (x.lo = x.hi) && Uj [x.lo] 1 1 && Uj x.is_ 1 2 && !Uv x.lo x.hi
theorem Zpm (x : Chs) : Qc.f x = some (Zaf x) := by
 unfold Qc.f Zaf
 simp only [Qc.j1, Kl.f, Zgk, Option.bind_some, Zb2 [x.lo] 1 1 (by decide), Zb2 x.is_ 1 2 (by decide)]
 by_cases h1 : x.lo = x.hi
 ·rw [if_pos h1, decide_eq_true h1]
  cases h2 : Uj [x.lo] 1 1 <;> cases h3 : Uj x.is_ 1 2 <;> simp
 ·rw [if_neg h1, decide_eq_false h1]; simp
def Hc {α : Type} (lo hi : α → Int) (may : α → Bool) (l : List α) : Bool := decide (l.length ≤ 65536) && Kz lo hi may (-1) l
theorem Zfn (a b : Int) (l : List Val) : ∃ r, Zq.f l a b = some r ∧ Hw r (Hc (·.lo) (·.hi) (fun x : Val => decide (a ≤ x.n) && decide (x.n ≤ b)) l) := by
 unfold Zq.f Hc
 by_cases h : (65536 : Int) < l.length
 ·exact ⟨65536, by rw [if_pos h], .inr ⟨by simp [show ¬ l.length ≤ 65536 by omega], by decide⟩⟩
 ·rw [if_neg h]
  have hl : l.length ≤ Z9 := by unfold Z9; omega
  simp only [show l.length ≤ 65536 by omega, decide_true, Bool.true_and]
  refine Qb (fun k i last => Zq.l1 k a b l last i) l (fun pre t last o => ∃ r, o = some r ∧ Hw r (Kz (·.lo) (·.hi) (fun x : Val => decide (a ≤ x.n) && decide (x.n ≤ b)) last t)) ?_ ?_ (-1) K0 (ltK hl)
  ·intro last k
   exact ⟨-1, by simp only [Zq.l1, if_neg (show ¬ (l.length : Int) < (l.length : Int) by omega)], .inl ⟨rfl, rfl⟩⟩
  ·intro pre x t last k e ih
   obtain ⟨h1, h2⟩ := mid e
   simp only [Zq.l1, if_pos h2.2, if_pos h2, h1, Va.f, Option.bind_some, Zns, Zq.j1, nxt hl e]
   by_cases c1 : x.lo ≤ last
   ·exact ⟨pre.length, by simp [c1], .inr ⟨Qd (.inl c1), by omega⟩⟩
   ·by_cases c2 : x.hi < x.lo
    ·exact ⟨pre.length, by simp [c1, c2], .inr ⟨Qd (.inr (.inl c2)), by omega⟩⟩
    ·by_cases c3 : 1114111 < x.hi
     ·exact ⟨pre.length, by simp [c1, c2, c3], .inr ⟨Qd (.inr (.inr (.inl c3))), by omega⟩⟩
     ·rw [if_neg c1, if_neg c2, if_neg c3]
      cases c4 : (decide (a ≤ x.n) && decide (x.n ≤ b)) with
      | false => exact ⟨pre.length, by simp, .inr ⟨Qd (.inr (.inr (.inr c4))), by omega⟩⟩
      | true =>
       rw [H1 c1 c2 c3 c4]
       simpa using ih x.hi
theorem Znw (a b : Int) (l : List Val) : ∃ r, Zt.f l a b = some r ∧ Hw r (Hc (·.lo) (·.hi) (fun x : Val => decide (a ≤ x.n) && decide (x.n ≤ b) && !Uv x.lo x.hi) l) := by
 unfold Zt.f Hc
 by_cases h : (65536 : Int) < l.length
 ·exact ⟨65536, by rw [if_pos h], .inr ⟨by simp [show ¬ l.length ≤ 65536 by omega], by decide⟩⟩
 ·rw [if_neg h]
  have hl : l.length ≤ Z9 := by unfold Z9; omega
  simp only [show l.length ≤ 65536 by omega, decide_true, Bool.true_and]
  refine Qb (fun k i last => Zt.l1 k a b l last i) l (fun pre t last o => ∃ r, o = some r ∧ Hw r (Kz (·.lo) (·.hi) (fun x : Val => decide (a ≤ x.n) && decide (x.n ≤ b) && !Uv x.lo x.hi) last t)) ?_ ?_ (-1) K0 (ltK hl)
  ·intro last k
   exact ⟨-1, by simp only [Zt.l1, if_neg (show ¬ (l.length : Int) < (l.length : Int) by omega)], .inl ⟨rfl, rfl⟩⟩
  ·intro pre x t last k e ih
   obtain ⟨h1, h2⟩ := mid e
   simp only [Zt.l1, if_pos h2.2, if_pos h2, h1, Va.f, Option.bind_some, Zny, Zt.j1, nxt hl e]
   by_cases c1 : x.lo ≤ last
   ·exact ⟨pre.length, by simp [c1], .inr ⟨Qd (.inl c1), by omega⟩⟩
   ·by_cases c2 : x.hi < x.lo
    ·exact ⟨pre.length, by simp [c1, c2], .inr ⟨Qd (.inr (.inl c2)), by omega⟩⟩
    ·by_cases c3 : 1114111 < x.hi
     ·exact ⟨pre.length, by simp [c1, c2, c3], .inr ⟨Qd (.inr (.inr (.inl c3))), by omega⟩⟩
     ·rw [if_neg c1, if_neg c2, if_neg c3]
      cases c4 : (decide (a ≤ x.n) && decide (x.n ≤ b) && !Uv x.lo x.hi) with
      | false => exact ⟨pre.length, by simp, .inr ⟨Qd (.inr (.inr (.inr c4))), by omega⟩⟩
      | true =>
       rw [H1 c1 c2 c3 c4]
       simpa using ih x.hi
theorem Zml (l : List Chs) : ∃ r, Zs.f l = some r ∧ Hw r (Hc (·.lo) (·.hi) Zaf l) := by
 unfold Zs.f Hc
 by_cases h : (65536 : Int) < l.length
 ·exact ⟨65536, by rw [if_pos h], .inr ⟨by simp [show ¬ l.length ≤ 65536 by omega], by decide⟩⟩
 ·rw [if_neg h]
  have hl : l.length ≤ Z9 := by unfold Z9; omega
  simp only [show l.length ≤ 65536 by omega, decide_true, Bool.true_and]
  refine Qb (fun k i last => Zs.l1 k l last i) l (fun pre t last o => ∃ r, o = some r ∧ Hw r (Kz (·.lo) (·.hi) Zaf last t)) ?_ ?_ (-1) K0 (ltK hl)
  ·intro last k
   exact ⟨-1, by simp only [Zs.l1, if_neg (show ¬ (l.length : Int) < (l.length : Int) by omega)], .inl ⟨rfl, rfl⟩⟩
  ·intro pre x t last k e ih
   obtain ⟨h1, h2⟩ := mid e
   simp only [Zs.l1, if_pos h2.2, if_pos h2, h1, Kl.f, Option.bind_some, Zpm, Zs.j1, nxt hl e]
   by_cases c1 : x.lo ≤ last
   ·exact ⟨pre.length, by simp [c1], .inr ⟨Qd (.inl c1), by omega⟩⟩
   ·by_cases c2 : x.hi < x.lo
    ·exact ⟨pre.length, by simp [c1, c2], .inr ⟨Qd (.inr (.inl c2)), by omega⟩⟩
    ·by_cases c3 : 1114111 < x.hi
     ·exact ⟨pre.length, by simp [c1, c2, c3], .inr ⟨Qd (.inr (.inr (.inl c3))), by omega⟩⟩
     ·rw [if_neg c1, if_neg c2, if_neg c3]
      cases c4 : Zaf x with
      | false => exact ⟨pre.length, by simp, .inr ⟨Qd (.inr (.inr (.inr c4))), by omega⟩⟩
      | true =>
       rw [H1 c1 c2 c3 c4]
       simpa using ih x.hi
theorem Zqr (l : List Spn) : ∃ r, Zy.f l = some r ∧ Hw r (Hc (·.lo) (·.hi) (fun x : Spn => !Uv x.lo x.hi) l) := by
 unfold Zy.f Hc
 by_cases h : (65536 : Int) < l.length
 ·exact ⟨65536, by rw [if_pos h], .inr ⟨by simp [show ¬ l.length ≤ 65536 by omega], by decide⟩⟩
 ·rw [if_neg h]
  have hl : l.length ≤ Z9 := by unfold Z9; omega
  simp only [show l.length ≤ 65536 by omega, decide_true, Bool.true_and]
  refine Qb (fun k i last => Zy.l1 k l last i) l (fun pre t last o => ∃ r, o = some r ∧ Hw r (Kz (·.lo) (·.hi) (fun x : Spn => !Uv x.lo x.hi) last t)) ?_ ?_ (-1) K0 (ltK hl)
  ·intro last k
   exact ⟨-1, by simp only [Zy.l1, if_neg (show ¬ (l.length : Int) < (l.length : Int) by omega)], .inl ⟨rfl, rfl⟩⟩
  ·intro pre x t last k e ih
   obtain ⟨h1, h2⟩ := mid e
   simp only [Zy.l1, if_pos h2.2, if_pos h2, h1, Hg.f, Option.bind_some, Zgk, Zy.j1, nxt hl e]
   by_cases c1 : x.lo ≤ last
   ·exact ⟨pre.length, by simp [c1], .inr ⟨Qd (.inl c1), by omega⟩⟩
   ·by_cases c2 : x.hi < x.lo
    ·exact ⟨pre.length, by simp [c1, c2], .inr ⟨Qd (.inr (.inl c2)), by omega⟩⟩
    ·by_cases c3 : 1114111 < x.hi
     ·exact ⟨pre.length, by simp [c1, c2, c3], .inr ⟨Qd (.inr (.inr (.inl c3))), by omega⟩⟩
     ·rw [if_neg c1, if_neg c2, if_neg c3]
      cases c4 : (!Uv x.lo x.hi) with
      | false => exact ⟨pre.length, by simp, .inr ⟨Qd (.inr (.inr (.inr c4))), by omega⟩⟩
      | true =>
       rw [H1 c1 c2 c3 c4]
       simpa using ih x.hi
theorem Zoc (l : List Spn) : ∃ r, Zx.f l = some r ∧ Hw r (Hc (·.lo) (·.hi) (fun _ : Spn => true) l) := by
 unfold Zx.f Hc
 by_cases h : (65536 : Int) < l.length
 ·exact ⟨65536, by rw [if_pos h], .inr ⟨by simp [show ¬ l.length ≤ 65536 by omega], by decide⟩⟩
 ·rw [if_neg h]
  have hl : l.length ≤ Z9 := by unfold Z9; omega
  simp only [show l.length ≤ 65536 by omega, decide_true, Bool.true_and]
  refine Qb (fun k i last => Zx.l1 k l last i) l (fun pre t last o => ∃ r, o = some r ∧ Hw r (Kz (·.lo) (·.hi) (fun _ : Spn => true) last t)) ?_ ?_ (-1) K0 (ltK hl)
  ·intro last k
   exact ⟨-1, by simp only [Zx.l1, if_neg (show ¬ (l.length : Int) < (l.length : Int) by omega)], .inl ⟨rfl, rfl⟩⟩
  ·intro pre x t last k e ih
   obtain ⟨h1, h2⟩ := mid e
   simp only [Zx.l1, if_pos h2.2, if_pos h2, h1, Hg.f, Option.bind_some, Zjq, Zx.j1, nxt hl e]
   by_cases c1 : x.lo ≤ last
   ·exact ⟨pre.length, by simp [c1], .inr ⟨Qd (.inl c1), by omega⟩⟩
   ·by_cases c2 : x.hi < x.lo
    ·exact ⟨pre.length, by simp [c1, c2], .inr ⟨Qd (.inr (.inl c2)), by omega⟩⟩
    ·by_cases c3 : 1114111 < x.hi
     ·exact ⟨pre.length, by simp [c1, c2, c3], .inr ⟨Qd (.inr (.inr (.inl c3))), by omega⟩⟩
     ·rw [if_neg c1, if_neg c2, if_neg c3]
      rw [H1 c1 c2 c3 rfl]
      simpa using ih x.hi
theorem Zpy (l : List Chs) : ∃ r, Zr.f l = some r ∧ Hw r (Hc (·.lo) (·.hi) (fun x : Chs => Uj x.is_ 1 18) l) := by
 unfold Zr.f Hc
 by_cases h : (65536 : Int) < l.length
 ·exact ⟨65536, by rw [if_pos h], .inr ⟨by simp [show ¬ l.length ≤ 65536 by omega], by decide⟩⟩
 ·rw [if_neg h]
  have hl : l.length ≤ Z9 := by unfold Z9; omega
  simp only [show l.length ≤ 65536 by omega, decide_true, Bool.true_and]
  refine Qb (fun k i last => Zr.l1 k l last i) l (fun pre t last o => ∃ r, o = some r ∧ Hw r (Kz (·.lo) (·.hi) (fun x : Chs => Uj x.is_ 1 18) last t)) ?_ ?_ (-1) K0 (ltK hl)
  ·intro last k
   exact ⟨-1, by simp only [Zr.l1, if_neg (show ¬ (l.length : Int) < (l.length : Int) by omega)], .inl ⟨rfl, rfl⟩⟩
  ·intro pre x t last k e ih
   obtain ⟨h1, h2⟩ := mid e
   simp only [Zr.l1, if_pos h2.2, if_pos h2, h1, Kl.f, Option.bind_some, Zp5, Zr.j1, nxt hl e]
   by_cases c1 : x.lo ≤ last
   ·exact ⟨pre.length, by simp [c1], .inr ⟨Qd (.inl c1), by omega⟩⟩
   ·by_cases c2 : x.hi < x.lo
    ·exact ⟨pre.length, by simp [c1, c2], .inr ⟨Qd (.inr (.inl c2)), by omega⟩⟩
    ·by_cases c3 : 1114111 < x.hi
     ·exact ⟨pre.length, by simp [c1, c2, c3], .inr ⟨Qd (.inr (.inr (.inl c3))), by omega⟩⟩
     ·rw [if_neg c1, if_neg c2, if_neg c3]
      cases c4 : Uj x.is_ 1 18 with
      | false => exact ⟨pre.length, by simp, .inr ⟨Qd (.inr (.inr (.inr c4))), by omega⟩⟩
      | true =>
       rw [H1 c1 c2 c3 c4]
       simpa using ih x.hi
end Go.Proofs.YthoicbafdanmkaaGreatDoor
/- Plain laws, third part: what the reference says of rows. Own work of this repo. -/
namespace Go.Proofs.YthoicbafdanmkaaGreatDoor
open Go.IntKind (i8 i16 i32 i64 u8 u16 u32 u64)
open Go.RowKit

theorem Zkr {a b : Nat} (h : a ≤ Z9) (hb : b ≤ 1) : a + b ≤ most := by unfold Z9 at h; unfold most; omega
theorem Zb4 {α β : Type} (L : Nat → Int → List β → Option (List β)) (xs : List α) (f : α → β) (hl : xs.length ≤ Z9)
  (hnil : ∀ s k, L (k + 1) (xs.length : Int) s = some s)
  (hcons : ∀ pre x t s k, xs = pre ++ x :: t → s.length + 1 ≤ most → L (k + 1) (pre.length : Int) s = L k ((pre.length : Int) + 1) (s ++ [f x])) : L K0 0 [] = some (xs.map f) := by
 have := Qb (fun k i s => L k i s) xs (fun pre t s o => s.length = pre.length → o = some (s ++ t.map f)) (fun s k hs => by simp [hnil]) (fun pre x t s k e ih hs => by
  have hp : pre.length ≤ Z9 := by rw [e] at hl; simp at hl; omega
  show L (k + 1) (pre.length : Int) s = _
  rw [hcons pre x t s k e (by rw [hs]; exact Zkr hp (Nat.le_refl _)), ih (s ++ [f x]) (by simp [hs])]
  simp) [] K0 (ltK hl) rfl
 simpa using this
theorem Zco (l : List Val) (hl : l.length ≤ Z9) : Qg.f l = some (l.map fun x => (⟨x.lo, x.hi⟩ : Spn)) := by
 refine Zb4 (fun k i s => Qg.l1 k l s i) l _ hl ?_ ?_
 ·intro s k
  simp only [Qg.l1, if_neg (show ¬ (l.length : Int) < (l.length : Int) by omega)]
 ·intro pre x t s k e hs
  obtain ⟨h1, h2⟩ := mid e
  simp only [Qg.l1, if_pos h2.2, if_pos h2, h1, nxt hl e]
  exact if_pos hs
theorem Zdg (l : List Chs) (hl : l.length ≤ Z9) : Qp.f l = some (l.map fun x => (⟨x.lo, x.hi⟩ : Spn)) := by
 refine Zb4 (fun k i s => Qp.l1 k l s i) l _ hl ?_ ?_
 ·intro s k
  simp only [Qp.l1, if_neg (show ¬ (l.length : Int) < (l.length : Int) by omega)]
 ·intro pre x t s k e hs
  obtain ⟨h1, h2⟩ := mid e
  simp only [Qp.l1, if_pos h2.2, if_pos h2, h1, nxt hl e]
  exact if_pos hs
def Zbe (a b : Int) (apart : Bool) (x : Val) : Bool := decide (x.n < a) || decide (b < x.n) || (apart && Uv x.lo x.hi)
theorem Zbb (l : List Val) (a b : Int) (apart : Bool) (hl : l.length ≤ Z9) : Yg.f l a b apart = some (l.map (Zbe a b apart)) := by
 refine Zb4 (fun k i s => Yg.l1 k l a b apart s i) l _ hl ?_ ?_
 ·intro s k
  simp only [Yg.l1, if_neg (show ¬ (l.length : Int) < (l.length : Int) by omega)]
 ·intro pre x t s k e hs
  obtain ⟨h1, h2⟩ := mid e
  simp only [Yg.l1, if_pos h2.2, if_pos h2, h1, nxt hl e, Yg.j1, Zg1, Option.bind_some]
  have hone : ∀ c : Bool, s.length + [c].length ≤ most := fun c => hs
  by_cases c1 : x.n < a
  ·rw [if_pos c1, if_pos (hone _)]; simp [Zbe, c1]
  ·rw [if_neg c1]
   by_cases c2 : b < x.n
   ·rw [if_pos c2, if_pos (hone _)]; simp [Zbe, c2]
   ·rw [if_neg c2]
    cases apart with
    | true => rw [if_pos rfl, if_pos (hone _)]; simp [Zbe, c1, c2]
    | false => rw [if_neg (by decide), if_pos (hone _)]; simp [Zbe, c1, c2]
def V3 (b : Int) (x : Chs) : Bool := !Uj x.is_ 1 b
theorem Zdv (x0 : List Chs) (acc : List Bool) (i : Int) (go : List Bool → Int → Option (List Bool)) (l : List Int) (e : (rd x0 i).is_ = l) (hl : l.length ≤ Z9) (b0 : Bool) (hacc : acc.length + 1 ≤ most) :
  Ya.l1 go K0 x0 acc i b0 0 = go (acc ++ [b0 || !l.all Zb7]) (i64.wrap (i + 1)) := by
 refine Qb (fun k j b => Ya.l1 go k x0 acc i b j) l (fun pre t b o => o = go (acc ++ [b || !t.all Zb7]) (i64.wrap (i + 1))) ?_ ?_ b0 K0 (ltK hl)
 ·intro b k
  simp only [Ya.l1, e, if_neg (show ¬ (l.length : Int) < (l.length : Int) by omega)]
  rw [if_pos (show acc.length + [b].length ≤ most from hacc)]
  simp
 ·intro pre x t b k e2 ih
  obtain ⟨h1, h2⟩ := mid e2
  simp only [Ya.l1, e, if_pos h2.2, if_pos h2, h1, Ya.j1, nxt hl e2, Ziv, Option.bind_some]
  cases b with
  | true => rw [if_pos rfl]; simpa using ih true
  | false =>
   rw [if_neg (by decide), ih (!Zb7 x)]
   cases h : Zb7 x <;> simp [h]
theorem Zdl (l : List Chs) (b : Int) (hl : l.length ≤ Z9) (hi : ∀ x ∈ l, x.is_.length ≤ Z9) : Ya.f l b = some (l.map (V3 b)) := by
 refine Zb4 (fun k i s => Ya.l2 k l b s i) l _ hl ?_ ?_
 ·intro s k
  simp only [Ya.l2, if_neg (show ¬ (l.length : Int) < (l.length : Int) by omega)]
 ·intro pre x t s k e hs
  obtain ⟨h1, h2⟩ := mid e
  have hx := hi x (by rw [e]; simp)
  simp only [Ya.l2, if_pos h2.2, if_pos h2, h1, Ya.j2]
  by_cases c1 : (x.is_.length : Int) < 1
  ·rw [if_pos c1, Zdv l s _ _ x.is_ (by rw [h1]) hx true hs, nxt hl e]
   simp [V3, Uj, show ¬ (1 : Int) ≤ (x.is_.length : Int) by omega]
  ·rw [if_neg c1, Zdv l s _ _ x.is_ (by rw [h1]) hx _ hs, nxt hl e]
   by_cases c2 : b < (x.is_.length : Int)
   ·simp [V3, Uj, c2, show ¬ (x.is_.length : Int) ≤ b by omega]
   ·simp [V3, Uj, c2, show (1 : Int) ≤ (x.is_.length : Int) by omega, show (x.is_.length : Int) ≤ b by omega]
def Zbc (w : Bool) (x : Chs) : Bool := w || decide (x.lo ≠ x.hi) || Zhw x.lo || !Zb7 x.lo
theorem Zh9 (l : List Chs) (hl : l.length ≤ Z9) (hi : ∀ x ∈ l, x.is_.length ≤ Z9) : Yp.f l = some (l.map fun x => Zbc (V3 2 x) x) := by
 unfold Yp.f
 rw [Zdl l 2 hl hi, Option.bind_some]
 have := Qb (fun k i ws => Yp.l1 k l ws i) l (fun pre t ws o => ws = (pre.map fun x => Zbc (V3 2 x) x) ++ t.map (V3 2) → o = some (l.map fun x => Zbc (V3 2 x) x)) (fun ws k hw => by
  simp only [Yp.l1, if_neg (show ¬ (l.length : Int) < (l.length : Int) by omega)]
  simp [hw]) (fun pre x t ws k e ih hw => by
  obtain ⟨h1, h2⟩ := mid e
  have hwl : ws.length = l.length := by rw [hw, e]; simp
  have hmid := mid (xs := ws) (pre := pre.map fun x => Zbc (V3 2 x) x) (x := V3 2 x) (t := t.map (V3 2)) (by rw [hw]; simp)
  simp only [List.length_map] at hmid
  have hset : ∀ c : Bool, ws.set (pre.length : Int).toNat c = (pre.map fun x => Zbc (V3 2 x) x) ++ c :: t.map (V3 2) := fun c => by
   rw [hw, Int.toNat_natCast, List.set_append_right _ _ (by simp)]
   simp
  have fin : ∀ c : Bool, c = Zbc (V3 2 x) x → Yp.l1 k l (ws.set (pre.length : Int).toNat c) ((pre.length : Int) + 1) = some (l.map fun x => Zbc (V3 2 x) x) := fun c hc => by
   rw [hset]
   exact ih _ (by rw [hc]; simp)
  simp only [Yp.l1, if_pos h2.2, if_pos h2, if_pos hmid.2, h1, hmid.1, Yp.j1, nxt hl e, Znz, Ziv, Option.bind_some]
  by_cases c1 : V3 2 x = true
  ·rw [if_pos c1]; exact fin true (by simp [Zbc, c1])
  ·rw [if_neg c1]
   by_cases c2 : x.lo ≠ x.hi
   ·rw [if_pos c2]; exact fin true (by simp [Zbc, c2])
   ·rw [if_neg c2]
    have c2' : x.lo = x.hi := Classical.not_not.1 c2
    by_cases c3 : Zhw x.lo = true
    ·rw [if_pos c3]; exact fin true (by simp [Zbc, c3])
    ·rw [if_neg c3]; exact fin _ (by simp at c1 c3; simp [Zbc, c1, c2', c3]; rw [← c2']; simp [c3]))
  (l.map (V3 2)) K0 (ltK hl) (by simp)
 exact this
def Zen (pre : List Spn) : Int := (pre.getLast?.map (·.hi)).getD (-1)
theorem Zt2 (xs pre t : List Spn) (x : Spn) (hl : xs.length ≤ Z9) (e : xs = pre ++ x :: t) (hpre : ∀ y ∈ pre, 0 ≤ y.hi) :
  V6.f xs (pre.length : Int) = some (decide (Zen pre < x.lo) && decide (x.lo ≤ x.hi) && decide (x.hi ≤ 1114111)) := by
 obtain ⟨h1, h2⟩ := mid e
 unfold V6.f
 simp only [if_pos h2, h1, V6.j1]
 rcases List.eq_nil_or_concat pre with hp | ⟨p, z, hp⟩
 ·subst hp
  simp only [Zen, List.getLast?_nil, Option.map_none, Option.getD_none]
  by_cases c1 : 0 ≤ x.lo
  ·by_cases c2 : x.lo ≤ x.hi
   ·by_cases c3 : x.hi ≤ 1114111
    ·simp [c1, c2, c3, show (-1 : Int) < x.lo by omega]
    ·simp [c1, c2, c3]
   ·simp [c1, c2]
  ·simp [c1, show ¬ (-1 : Int) < x.lo by omega]
 ·subst hp
  have hz : 0 ≤ z.hi := hpre z (by simp)
  obtain ⟨h3, h4⟩ := mid (xs := xs) (pre := p) (x := z) (t := x :: t) (by rw [e]; simp)
  have hlen : xs.length = p.length + 1 + (t.length + 1) := by rw [e]; simp; omega
  unfold Z9 at hl
  have hw : i64.wrap (((p ++ [z]).length : Int) - 1) = (p.length : Int) := by
   have e1 : ((p ++ [z]).length : Int) - 1 = (p.length : Int) := by simp
   rw [e1]; exact w64 (by omega) (by omega)
  have hend : Zen (p ++ [z]) = z.hi := by simp [Zen]
  rw [List.concat_eq_append] at *
  simp only [hw, hend, h3, if_pos h4]
  have hne : ¬ (((p ++ [z]).length : Int) = 0) := by simp; omega
  by_cases c1 : 0 ≤ x.lo
  ·by_cases c2 : x.lo ≤ x.hi
   ·by_cases c3 : x.hi ≤ 1114111
    ·rw [if_pos c1, if_pos c2, if_pos c3, if_neg hne]; simp [c2, c3]
    ·simp [c1, c2, c3]
   ·simp [c1, c2]
  ·simp [c1, show ¬ z.hi < x.lo by omega]
theorem Zrq (xs : List Spn) (ws : List Bool) (hw : ws.length = xs.length) : ∃ r, Yq.f xs ws = some r ∧ Hw r (Hc (fun p : Spn × Bool => p.1.lo) (fun p => p.1.hi) (fun p => !p.2) (xs.zip ws)) := by
 unfold Yq.f Hc
 have hz : (xs.zip ws).length = xs.length := by simp [hw]
 rw [hz]
 by_cases h : (65536 : Int) < xs.length
 ·exact ⟨65536, by rw [if_pos h], .inr ⟨by simp [show ¬ xs.length ≤ 65536 by omega], by decide⟩⟩
 ·rw [if_neg h]
  have hl : xs.length ≤ Z9 := by unfold Z9; omega
  simp only [show xs.length ≤ 65536 by omega, decide_true, Bool.true_and]
  have := Qb (fun k i (_ : Unit) => Yq.l1 k xs ws i) (xs.zip ws) (fun pre t _ o => (∀ y ∈ pre.map Prod.fst, 0 ≤ y.hi) → ∃ r, o = some r ∧ Hw r (Kz (fun p : Spn × Bool => p.1.lo) (fun p => p.1.hi) (fun p => !p.2) (Zen (pre.map Prod.fst)) t)) (fun _ k _ =>
   ⟨-1, by simp only [hz, Yq.l1, if_neg (show ¬ (xs.length : Int) < (xs.length : Int) by omega)], .inl ⟨rfl, rfl⟩⟩) (fun pre x t _ k e ih hpre => by
   obtain ⟨y, b⟩ := x
   have ex : xs = pre.map Prod.fst ++ y :: t.map Prod.fst := by
    have := congrArg (List.map Prod.fst) e
    rw [List.map_fst_zip (by omega)] at this
    simpa using this
   have ew : ws = pre.map Prod.snd ++ b :: t.map Prod.snd := by
    have := congrArg (List.map Prod.snd) e
    rw [List.map_snd_zip (by omega)] at this
    simpa using this
   obtain ⟨h1, h2⟩ := mid ex
   obtain ⟨h3, h4⟩ := mid ew
   have hr := Zt2 xs _ _ y hl ex hpre
   have hn := nxt hl ex
   simp only [List.length_map] at h1 h2 h3 h4 hr hn
   simp only [Yq.l1, if_pos h2.2, hr, Option.bind_some, if_pos h4, h3, Yq.j1, hn]
   by_cases c1 : Zen (pre.map Prod.fst) < y.lo
   ·by_cases c2 : y.lo ≤ y.hi
    ·by_cases c3 : y.hi ≤ 1114111
     ·simp only [c1, c2, c3, decide_true, Bool.and_self, Bool.not_true, Bool.false_eq_true, if_false]
      cases b with
      | true => exact ⟨pre.length, by simp, .inr ⟨Qd (.inr (.inr (.inr rfl))), by omega⟩⟩
      | false =>
       rw [H1 (lo := fun p : Spn × Bool => p.1.lo) (hi := fun p : Spn × Bool => p.1.hi) (may := fun p : Spn × Bool => !p.2) (x := (y, false)) (show ¬ y.lo ≤ _ by omega) (show ¬ y.hi < y.lo by omega) (show ¬ 1114111 < y.hi by omega) rfl]
       have hend : Zen ((pre ++ [(y, false)]).map Prod.fst) = y.hi := by simp [Zen]
       have hge : -1 ≤ Zen (pre.map Prod.fst) := by
        unfold Zen
        cases hg : (pre.map Prod.fst).getLast? with
        | none => simp
        | some z => simp; have := hpre z (List.mem_of_getLast? hg); omega
       have := ih () (fun z hz => by
        simp only [List.map_append, List.map_cons, List.map_nil, List.mem_append, List.mem_singleton] at hz
        rcases hz with hz | rfl
        ·exact hpre z hz
        ·omega)
       rw [hend] at this
       simpa using this
     ·exact ⟨pre.length, by simp [c3], .inr ⟨Qd (.inr (.inr (.inl (by show 1114111 < y.hi; omega)))), by omega⟩⟩
    ·exact ⟨pre.length, by simp [c2], .inr ⟨Qd (.inr (.inl (by show y.hi < y.lo; omega))), by omega⟩⟩
   ·exact ⟨pre.length, by simp [c1], .inr ⟨Qd (.inl (by show y.lo ≤ _; omega)), by omega⟩⟩) () K0 (by rw [hz]; exact ltK hl) (fun y hy => by simp at hy)
  exact this
theorem Zh3 {α β : Type} (f : β → α) (lo hi : α → Int) (may : α → Bool) : ∀ (last : Int) (l : List β), Kz lo hi may last (l.map f) = Kz (fun x => lo (f x)) (fun x => hi (f x)) (fun x => may (f x)) last l
 | _, [] => rfl
 | last, x :: t => by simp only [List.map_cons, Kz, Zh3 f lo hi may (hi (f x)) t]
theorem Zk0 {α : Type} (l : List α) (sp : α → Spn) (wr : α → Bool) : ∃ r, Yq.f (l.map sp) (l.map wr) = some r ∧ Hw r (Hc (fun x => (sp x).lo) (fun x => (sp x).hi) (fun x => !wr x) l) := by
 obtain ⟨r, h1, h2⟩ := Zrq (l.map sp) (l.map wr) (by simp)
 refine ⟨r, h1, ?_⟩
 have e : (l.map sp).zip (l.map wr) = l.map fun x => (sp x, wr x) := by
  rw [List.zip_map']
 rw [e] at h2
 unfold Hc at h2 ⊢
 rw [Zh3] at h2
 simpa using h2
end Go.Proofs.YthoicbafdanmkaaGreatDoor
/- Plain laws, fourth part: the rows of Maps lie apart from those of Status. Own work of this repo. -/
namespace Go.Proofs.YthoicbafdanmkaaGreatDoor
open Go.RowKit

def Zba (x : Chs) (y : Val) : Bool := decide (y.lo ≤ x.hi) && decide (x.lo ≤ y.hi)
def Zgf (st : List Val) (x : Chs) : Bool := Uj x.is_ 1 18 && !st.any (Zba x)
def Zjx (x : Chs) : List Val → Bool
 | [] => true
 | y :: _ => decide (x.hi < y.lo)
theorem Znk (st : List Val) (x : Chs) (hst : st.length ≤ Z9) : ∀ (rest done : List Val) (k : Nat), st = done ++ rest → rest.length < k →
  ∃ done' rest', st = done' ++ rest' ∧ (∃ p, done' = done ++ p ∧ ∀ y ∈ p, y.hi < x.lo) ∧ (∀ y, rest'.head? = some y → ¬ y.hi < x.lo) ∧
   Yf.l1 k st x (done.length : Int) = some (Uj x.is_ 1 18 && Zjx x rest', (done'.length : Int)) := by
 intro rest
 induction rest with
 | nil =>
  intro done k e hk
  obtain ⟨k, rfl⟩ : ∃ j, k = j + 1 := ⟨k - 1, by simp at hk; omega⟩
  have hd : st.length = done.length := by rw [e]; simp
  refine ⟨done, [], e, ⟨[], by simp, fun y hy => by cases hy⟩, fun y hy => by simp at hy, ?_⟩
  rw [Yf.l1, if_neg (by rw [hd]; omega)]
  simp only [Yf.j2, Yf.j1, Zb2 x.is_ 1 18 (by decide), Option.bind_some, Bool.false_eq_true, if_false]
  cases Uj x.is_ 1 18 with
  | false => simp
  | true => simp [hd, Zjx]
 | cons y rest ih =>
  intro done k e hk
  obtain ⟨k, rfl⟩ : ∃ j, k = j + 1 := ⟨k - 1, by simp at hk; omega⟩
  obtain ⟨h1, h2⟩ := mid e
  by_cases c : y.hi < x.lo
  ·obtain ⟨done', rest', e1, ⟨p, e2, e3⟩, e4, e5⟩ := ih (done ++ [y]) k (by rw [e]; simp) (by simp at hk; omega)
   refine ⟨done', rest', e1, ⟨y :: p, by rw [e2]; simp, fun z hz => ?_⟩, e4, ?_⟩
   ·rcases List.mem_cons.1 hz with rfl | hz
    ·exact c
    ·exact e3 z hz
   ·rw [Yf.l1, if_pos h2.2, if_pos h2, h1]
    simp only [Yf.j2, c, decide_true, if_true, nxt hst e]
    simpa using e5
  ·refine ⟨done, y :: rest, e, ⟨[], by simp, fun z hz => by cases hz⟩, fun z hz => by simp at hz; subst hz; exact c, ?_⟩
   rw [Yf.l1, if_pos h2.2, if_pos h2, h1]
   simp only [Yf.j2, Yf.j1, c, decide_false, Zb2 x.is_ 1 18 (by decide), Option.bind_some, Bool.false_eq_true, if_false]
   cases Uj x.is_ 1 18 with
   | false => simp
   | true =>
    rw [if_pos rfl, if_neg (by omega), if_pos h2, h1]
    simp [Zjx]
theorem Zbg {α : Type} {lo hi : α → Int} {may : α → Bool} : ∀ {l : List α} {last : Int}, Kz lo hi may last l = true → ∀ y ∈ l, last < lo y ∧ lo y ≤ hi y ∧ hi y ≤ 1114111 ∧ may y = true
 | [], _, _, y, hy => by cases hy
 | x :: t, last, h, y, hy => by
  simp only [Kz, Bool.and_eq_true, decide_eq_true_eq] at h
  obtain ⟨⟨⟨⟨h1, h2⟩, h3⟩, h4⟩, h5⟩ := h
  rcases List.mem_cons.1 hy with rfl | hy
  ·exact ⟨h1, h2, h3, h4⟩
  ·obtain ⟨a, b, c, d⟩ := Zbg h5 y hy
   exact ⟨by omega, b, c, d⟩
theorem Zhm {α : Type} {lo hi : α → Int} {may : α → Bool} : ∀ {a b : List α} {last : Int}, Kz lo hi may last (a ++ b) = true → ∃ last', Kz lo hi may last' b = true
 | [], b, last, h => ⟨last, h⟩
 | x :: a, b, last, h => by
  simp only [List.cons_append, Kz, Bool.and_eq_true] at h
  exact Zhm h.2
theorem Znu {st done rest : List Val} {x : Chs} (hs : ∃ may : Val → Bool, Kz (·.lo) (·.hi) may (-1) st = true) (e : st = done ++ rest) (hd : ∀ y ∈ done, y.hi < x.lo) (hr : ∀ y, rest.head? = some y → ¬ y.hi < x.lo) (hx : x.lo ≤ x.hi) : Zjx x rest = !st.any (Zba x) := by
 obtain ⟨may, hs⟩ := hs
 have hdone : done.any (Zba x) = false := by
  rw [List.any_eq_false]
  intro y hy
  have := hd y hy
  simp [Zba, show ¬ x.lo ≤ y.hi by omega]
 rw [e, List.any_append, hdone, Bool.false_or]
 rw [e] at hs
 obtain ⟨last, hs⟩ := Zhm hs
 cases rest with
 | nil => rfl
 | cons y t =>
  have hy := hr y rfl
  simp only [Kz, Bool.and_eq_true, decide_eq_true_eq] at hs
  by_cases c : x.hi < y.lo
  ·have ht : (y :: t).any (Zba x) = false := by
    rw [List.any_eq_false]
    intro z hz
    rcases List.mem_cons.1 hz with rfl | hz
    ·simp [Zba, show ¬ z.lo ≤ x.hi by omega]
    ·have := (Zbg hs.2 z hz).1
     simp [Zba, show ¬ z.lo ≤ x.hi by omega]
   simp [Zjx, c, ht]
  ·have : Zba x y = true := by simp [Zba]; omega
   simp [Zjx, c, this]
theorem Zqu (b : Bk) (hs : ∃ may : Val → Bool, Kz (·.lo) (·.hi) may (-1) b.status = true) (hst : b.status.length ≤ Z9) : ∃ r, Zar.f b = some r ∧ Hw r (Hc (·.lo) (·.hi) (Zgf b.status) b.maps) := by
 unfold Zar.f Zw.f Hc
 by_cases h : (65536 : Int) < b.maps.length
 ·exact ⟨65536, by rw [if_pos h]; rfl, .inr ⟨by simp [show ¬ b.maps.length ≤ 65536 by omega], by decide⟩⟩
 ·rw [if_neg h]
  have hl : b.maps.length ≤ Z9 := by unfold Z9; omega
  simp only [show b.maps.length ≤ 65536 by omega, decide_true, Bool.true_and]
  have := Qb (fun k i (s : Int × Int) => Zw.l1 k b.names b.status b.maps b.class_ b.decomp b.excl b.bidi b.join b.marks b.script b.like b.maps s.1 s.2 i) b.maps
   (fun pre t s o => (∃ done rest, b.status = done ++ rest ∧ s.1 = (done.length : Int) ∧ ∀ y ∈ done, y.hi ≤ s.2) → ∃ r, (o.bind fun r => some r.1) = some r ∧ Hw r (Kz (·.lo) (·.hi) (Zgf b.status) s.2 t))
   (fun s k _ => ⟨-1, by simp only [Zw.l1, if_neg (show ¬ (b.maps.length : Int) < (b.maps.length : Int) by omega)]; rfl, .inl ⟨rfl, rfl⟩⟩)
   (fun pre x t s k e ih hinv => by
    obtain ⟨h1, h2⟩ := mid e
    obtain ⟨done, rest, e1, e2, e3⟩ := hinv
    simp only [Zw.l1, if_pos h2.2, if_pos h2, h1, Kl.f, Option.bind_some, Zw.j1, nxt hl e]
    by_cases c1 : x.lo ≤ s.2
    ·exact ⟨pre.length, by simp [c1], .inr ⟨Qd (.inl c1), by omega⟩⟩
    ·by_cases c2 : x.hi < x.lo
     ·exact ⟨pre.length, by simp [c1, c2], .inr ⟨Qd (.inr (.inl c2)), by omega⟩⟩
     ·by_cases c3 : 1114111 < x.hi
      ·exact ⟨pre.length, by simp [c1, c2, c3], .inr ⟨Qd (.inr (.inr (.inl c3))), by omega⟩⟩
      ·rw [if_neg c1, if_neg c2, if_neg c3]
       have hrl : rest.length < K0 := ltK (by rw [e1] at hst; simp at hst; omega)
       obtain ⟨done', rest', f1, ⟨p, f2, f3⟩, f4, f5⟩ := Znk b.status x hst rest done K0 e1 hrl
       have hd' : ∀ y ∈ done', y.hi < x.lo := by
        intro y hy
        rw [f2] at hy
        rcases List.mem_append.1 hy with hy | hy
        ·have := e3 y hy; omega
        ·exact f3 y hy
       have hfree := Znu hs f1 hd' f4 (by omega)
       have happ : Yf.f x s.1 b.names b.status b.maps b.class_ b.decomp b.excl b.bidi b.join b.marks b.script b.like = some (Zgf b.status x, (done'.length : Int)) := by
        unfold Yf.f
        rw [e2, f5, hfree]; rfl
       rw [happ, Option.bind_some]
       cases c4 : Zgf b.status x with
       | false => exact ⟨pre.length, by simp, .inr ⟨Qd (.inr (.inr (.inr c4))), by omega⟩⟩
       | true =>
        rw [H1 c1 c2 c3 c4]
        have := ih ((done'.length : Int), x.hi) ⟨done', rest', f1, rfl, fun y hy => by have := hd' y hy; show y.hi ≤ x.hi; omega⟩
        simpa using this) (0, -1) K0 (ltK hl) ⟨[], b.status, rfl, rfl, fun y hy => by cases hy⟩
  exact this
theorem Zqg (x : Chs) (st : List Val) (hst : st.length ≤ Z9) : Q4.f x st = some (st.any (Zba x)) := by
 refine Qb (fun k i (_ : Unit) => Q4.l1 k x st i) st (fun pre t _ o => o = some (t.any (Zba x))) ?_ ?_ () K0 (ltK hst)
 ·intro _ k
  simp only [Q4.l1, if_neg (show ¬ (st.length : Int) < (st.length : Int) by omega)]
  rfl
 ·intro pre y t _ k e ih
  obtain ⟨h1, h2⟩ := mid e
  simp only [Q4.l1, if_pos h2.2, if_pos h2, h1, Q4.j1, nxt hst e, List.any_cons]
  have ih := ih ()
  by_cases c1 : y.lo ≤ x.hi
  ·by_cases c2 : x.lo ≤ y.hi
   ·simp [c1, c2, Zba]
   ·simpa [c1, c2, Zba] using ih
  ·simpa [c1, Zba] using ih
end Go.Proofs.YthoicbafdanmkaaGreatDoor
/- Plain laws, fifth part: how long what a code point decomposes to is; the whole of the decompositions. Own work of this repo. -/
namespace Go.Proofs.YthoicbafdanmkaaGreatDoor
open Go.RowKit

theorem Zc0 {κ ν : Type} [DecidableEq κ] (l : List (κ × ν)) (x y : κ) (v : ν) : Vo (Ht l x v) y = if y = x then some v else Vo l y := by
 induction l with
 | nil => simp [Ht, Vo]
 | cons p l ih =>
  simp only [Ht]
  by_cases h : x = p.1
  ·rw [if_pos h]
   simp only [Vo, h]
   by_cases h2 : y = p.1 <;> simp [h2]
  ·rw [if_neg h]
   simp only [Vo, ih]
   by_cases h2 : y = p.1
   ·have : ¬ y = x := fun e => h (e ▸ h2)
    simp [h2, show ¬ p.1 = x from fun e => h e.symm]
   ·simp [h2]
theorem Zkk {α : Type} {p q : α → Bool} : ∀ {l : List α}, (∀ x ∈ l, p x = true → q x = true) → l.countP p ≤ l.countP q := fun h => List.countP_mono_left h
theorem Zni {α : Type} {p q : α → Bool} : ∀ {l : List α} {a : α}, a ∈ l → (∀ x ∈ l, p x = true → q x = true) → p a = false → q a = true → l.countP p < l.countP q
 | [], _, ha, _, _, _ => by cases ha
 | b :: l, a, ha, h, h1, h2 => by
  have hl := Zkk (l := l) (fun x hx => h x (List.mem_cons_of_mem _ hx))
  simp only [List.countP_cons]
  rcases List.mem_cons.1 ha with rfl | ha
  ·simp [h1, h2]; omega
  ·have := Zni ha (fun x hx => h x (List.mem_cons_of_mem _ hx)) h1 h2
   have hb := h b (List.mem_cons_self ..)
   cases hpb : p b with
   | false => simp; omega
   | true => rw [hpb] at hb; simp [hb rfl]; omega

def paP : List Chs → Int → List Int
 | [], _ => []
 | x :: t, c => if x.lo ≤ c ∧ c ≤ x.hi then x.is_ else paP t c
theorem Zkg (D : List Chs) (c : Int) (hl : D.length ≤ Z9) : Q3.f D c = some (paP D c) := by
 refine Qb (fun k i (_ : Unit) => Q3.l1 k D c i) D (fun pre t _ o => o = some (paP t c)) ?_ ?_ () K0 (ltK hl)
 ·intro _ k
  simp only [Q3.l1, if_neg (show ¬ (D.length : Int) < (D.length : Int) by omega)]
  rfl
 ·intro pre x t _ k e ih
  obtain ⟨h1, h2⟩ := mid e
  have ih := ih ()
  simp only [Q3.l1, if_pos h2.2, if_pos h2, h1, Q3.j1, nxt hl e, paP]
  by_cases c1 : x.lo ≤ c
  ·by_cases c2 : c ≤ x.hi
   ·simp [c1, c2]
   ·simpa [c1, c2] using ih
  ·simpa [c1] using ih
def Hv (f : Int → Int) : List Int → Int
 | [] => 0
 | c :: t => f c + Hv f t
theorem Zd9 {f g : Int → Int} : ∀ {l : List Int}, (∀ c ∈ l, f c ≤ g c) → Hv f l ≤ Hv g l
 | [], _ => Int.le_refl _
 | c :: t, h => by
  have := Zd9 (l := t) (fun x hx => h x (List.mem_cons_of_mem _ hx))
  have := h c (List.mem_cons_self ..)
  simp only [Hv]; omega
theorem Ze1 {f g : Int → Int} : ∀ {l : List Int}, (∀ c ∈ l, f c = g c) → Hv f l = Hv g l
 | [], _ => rfl
 | c :: t, h => by
  rw [Hv, Hv, h c (List.mem_cons_self ..), Ze1 (l := t) (fun x hx => h x (List.mem_cons_of_mem _ hx))]
theorem Zb6 {f : Int → Int} : ∀ {l : List Int}, (∀ c ∈ l, 1 ≤ f c) → (l.length : Int) ≤ Hv f l
 | [], _ => by simp [Hv]
 | c :: t, h => by
  have := Zb6 (l := t) (fun x hx => h x (List.mem_cons_of_mem _ hx))
  have := h c (List.mem_cons_self ..)
  simp only [Hv, List.length_cons]; omega
theorem Zg9 {f : Int → Int} : ∀ {l : List Int}, (∀ c ∈ l, 1 ≤ f c) → ∀ c ∈ l, f c ≤ Hv f l
 | [], _, c, hc => by cases hc
 | d :: t, h, c, hc => by
  have h1 := h d (List.mem_cons_self ..)
  have h2 := Zb6 (l := t) (fun x hx => h x (List.mem_cons_of_mem _ hx))
  simp only [Hv]
  rcases List.mem_cons.1 hc with rfl | hc
  ·omega
  ·have := Zg9 (l := t) (fun x hx => h x (List.mem_cons_of_mem _ hx)) c hc
   omega
theorem Zio (f : Int → Int) : ∀ (a b : List Int), Hv f (a ++ b) = Hv f a + Hv f b
 | [], b => by simp [Hv]
 | c :: a, b => by simp only [List.cons_append, Hv, Zio f a b]; omega
def cap (s : Int) : Int := if 18 < s then 19 else s
def Lc (P : Int → List Int) : Nat → Int → Int
 | 0, c => if P c = [] then 1 else 19
 | n + 1, c => if P c = [] then 1 else cap (Hv (Lc P n) (P c))
theorem Zau {P : Int → List Int} {c : Int} (h : P c = []) (n : Nat) : Lc P n c = 1 := by cases n <;> simp [Lc, h]
theorem Za3 (P : Int → List Int) : ∀ (n : Nat) (c : Int), 1 ≤ Lc P n c ∧ Lc P n c ≤ 19
 | 0, c => by unfold Lc; split <;> omega
 | n + 1, c => by
  unfold Lc
  by_cases h : P c = []
  ·rw [if_pos h]; omega
  ·rw [if_neg h]
   have h1 := Zb6 (f := Lc P n) (l := P c) (fun x _ => (Za3 P n x).1)
   have h2 : 0 < (P c).length := List.length_pos_iff.2 h
   unfold cap; split <;> omega
theorem Zm9 {a b : Int} (h : a ≤ b) : cap a ≤ cap b := by unfold cap; split <;> split <;> omega
theorem Ziu (P : Int → List Int) : ∀ (n : Nat) (c : Int), Lc P (n + 1) c ≤ Lc P n c
 | 0, c => by
  by_cases h : P c = []
  ·rw [Zau h, Zau h]; omega
  ·have := (Za3 P 1 c).2
   rw [show Lc P 0 c = 19 by simp [Lc, h]]; exact this
 | n + 1, c => by
  by_cases h : P c = []
  ·rw [Zau h, Zau h]; omega
  ·rw [Lc, if_neg h, Lc, if_neg h]
   exact Zm9 (Zd9 fun x _ => Ziu P n x)
theorem Zuc (P : Int → List Int) {n m : Nat} (h : n ≤ m) (c : Int) : Lc P m c ≤ Lc P n c := by
 induction h with
 | refl => exact Int.le_refl _
 | step _ ih => exact Int.le_trans (Ziu P _ c) ih
theorem Znb (P : Int → List Int) : ∀ (n : Nat) (c : Int), Lc P n c ≤ 18 → Lc P (n + 1) c = Lc P n c
 | 0, c, h => by
  by_cases e : P c = []
  ·rw [Zau e, Zau e]
  ·simp [Lc, e] at h
 | n + 1, c, h => by
  by_cases e : P c = []
  ·rw [Zau e, Zau e]
  ·rw [Lc, if_neg e] at h
   have hs : Hv (Lc P n) (P c) ≤ 18 := by unfold cap at h; split at h <;> omega
   rw [Lc, if_neg e, Lc, if_neg e, Ze1 (fun x hx => Znb P n x ?_)]
   have := Zg9 (f := Lc P n) (l := P c) (fun x _ => (Za3 P n x).1) x hx
   omega
theorem Zd8 (P : Int → List Int) {n m : Nat} (h : n ≤ m) {c : Int} (hc : Lc P n c ≤ 18) : Lc P m c = Lc P n c := by
 induction h with
 | refl => rfl
 | step _ ih => rw [Znb P _ c (by rw [ih]; exact hc), ih]
theorem Zwr (P : Int → List Int) {e : Nat} {c : Int} (h : Lc P e c ≤ 18) (d : Nat) : Lc P e c ≤ Lc P d c := by
 rcases Nat.le_total e d with h1 | h1
 ·rw [Zd8 P h1 h]; exact Int.le_refl _
 ·exact Zuc P h1 c

theorem Zrv (b : Bk) (hD : b.decomp.length ≤ 65536) (hP : ∀ c, (paP b.decomp c).length ≤ 2) : ∀ (n : Nat), n ≤ b.decomp.length + 1 → ∀ (k : Nat) (c lvl : Int), lvl = (b.decomp.length : Int) + 1 - n → n < k →
  Xl.f k b c lvl = some (Lc (paP b.decomp) n c) := by
 intro n
 have hl : b.decomp.length ≤ Z9 := by unfold Z9; omega
 induction n with
 | zero =>
  intro _ k c lvl e hk
  obtain ⟨k, rfl⟩ : ∃ j, k = j + 1 := ⟨k - 1, by omega⟩
  rw [Xl.f, Xl.b, Zaj.f, Zkg _ _ hl, Option.bind_some, Option.bind_some]
  by_cases h : paP b.decomp c = []
  ·rw [if_pos (by rw [h]; rfl), Zau h]
  ·rw [if_neg (by intro h2; exact h (List.length_eq_zero_iff.1 (by omega))), if_pos (by omega)]
   simp [Lc, h]
 | succ n ih =>
  intro hn k c lvl e hk
  obtain ⟨k, rfl⟩ : ∃ j, k = j + 1 := ⟨k - 1, by omega⟩
  rw [Xl.f, Xl.b, Zaj.f, Zkg _ _ hl, Option.bind_some, Option.bind_some]
  by_cases h : paP b.decomp c = []
  ·rw [if_pos (by rw [h]; rfl), Zau h]
  ·rw [if_neg (by intro h2; exact h (List.length_eq_zero_iff.1 (by omega))), if_neg (by omega), Lc, if_neg h]
   have hpl : (paP b.decomp c).length ≤ Z9 := by have := hP c; unfold Z9; omega
   have := Qb (fun kk i s => Xl.l1 kk (Xl.f k) b lvl (paP b.decomp c) s i) (paP b.decomp c)
    (fun pre t s o => 0 ≤ s → s ≤ 37 → o = some (cap (s + Hv (Lc (paP b.decomp) n) t)))
    (fun s kk h0 h1 => by
     simp only [Xl.l1, if_neg (show ¬ ((paP b.decomp c).length : Int) < ((paP b.decomp c).length : Int) by omega), Hv, cap, Int.add_zero]
     split <;> rfl)
    (fun pre x t s kk e2 ih2 h0 h1 => by
     obtain ⟨h3, h4⟩ := mid e2
     simp only [Xl.l1, if_pos h4.2, if_pos h4, h3, Xl.j1, nxt hpl e2]
     have hx := Za3 (paP b.decomp) n x
     by_cases c1 : s ≤ 18
     ·rw [if_pos c1, w64 (by omega) (by omega), ih (by omega) k x (lvl + 1) (by omega) (by omega), Option.bind_some, w64 (by omega) (by omega)]
      rw [ih2 _ (by omega) (by omega), Hv, Int.add_assoc]
     ·rw [if_neg c1, ih2 _ h0 h1]
      have h5 : (0 : Int) ≤ Hv (Lc (paP b.decomp) n) t := by
       have := Zb6 (f := Lc (paP b.decomp) n) (l := t) (fun y _ => (Za3 _ n y).1)
       omega
      have h6 : 18 < s + Hv (Lc (paP b.decomp) n) (x :: t) := by simp only [Hv]; omega
      rw [cap, cap, if_pos (by omega), if_pos h6]) 0 K0 (ltK hpl) (by omega) (by omega)
   rw [Int.zero_add] at this
   exact this

abbrev Mem := List (Int × Int)
def Zwv (D : List Chs) (m : Mem) : Prop := ∀ c, (Vo m c = none → paP D c = []) ∧ (∀ j, Vo m c = some j → 0 ≤ j ∧ j < (D.length : Int) ∧ (rd D j).lo = c)
def un (N : Nat) (M : Mem) : Nat := (List.range N).countP (fun j : Nat => (Vo M (j : Int)).isNone)
def pos (N : Nat) (M : Mem) : Nat := (List.range N).countP (fun j : Nat => decide (0 < (Vo M (j : Int)).getD 0))
def Mok (D : List Chs) (M : Mem) : Prop := ∀ j n, Vo M j = some n → 0 ≤ j ∧ j < (D.length : Int) ∧ (n = 0 ∨ (0 < n ∧ n ≤ 18 ∧ Lc (paP D) (pos D.length M) (rd D j).lo = n))
def Ext (M M' : Mem) : Prop := (∀ j n, Vo M j = some n → Vo M' j = some n) ∧ (∀ j, Vo M' j = some 0 → Vo M j = some 0)
def Zer (D : List Chs) (M : Mem) (d : Nat) : Prop := ∀ j, Vo M j = some 0 → 18 < Lc (paP D) d (rd D j).lo
theorem Ext.refl (M : Mem) : Ext M M := ⟨fun _ _ h => h, fun _ h => h⟩
theorem Ext.trans {a b c : Mem} (h : Ext a b) (g : Ext b c) : Ext a c := ⟨fun j n e => g.1 j n (h.1 j n e), fun j e => h.2 j (g.2 j e)⟩
theorem Ext.un {M M' : Mem} (h : Ext M M') (N : Nat) : un N M' ≤ un N M := Zkk fun j _ hj => by
 cases e : Vo M (j : Int) with
 | none => rfl
 | some n => rw [h.1 _ _ e] at hj; simp at hj
theorem Ext.pos {M M' : Mem} (h : Ext M M') (N : Nat) : pos N M ≤ pos N M' := Zkk fun j _ hj => by
 cases e : Vo M (j : Int) with
 | none => rw [e] at hj; simp at hj
 | some n => rw [h.1 _ _ e]; rw [e] at hj; exact hj
theorem Mok.grow {D : List Chs} {M M' : Mem} (h : Mok D M) (hp : pos D.length M ≤ pos D.length M') {j n : Int} (e : Vo M j = some n) : 0 ≤ j ∧ j < (D.length : Int) ∧ (n = 0 ∨ (0 < n ∧ n ≤ 18 ∧ Lc (paP D) (pos D.length M') (rd D j).lo = n)) := by
 obtain ⟨a, b, c⟩ := h j n e
 refine ⟨a, b, ?_⟩
 rcases c with c | ⟨c1, c2, c3⟩
 ·exact .inl c
 ·exact .inr ⟨c1, c2, by rw [Zd8 _ hp (by omega)]; exact c3⟩
theorem Zho {α : Type} [Inhabited α] {D : List α} {i : Int} (h0 : 0 ≤ i) (h1 : i < (D.length : Int)) : rd D i ∈ D := List.mem_of_getElem? (Zlr h0 h1)
def Zw8 (D : List Chs) (M : Mem) (i : Int) (o : Option (Int × Mem)) : Prop := ∃ r M', o = some (r, M') ∧
 ((r = 0 ∧ ∀ d, Zer D M d → 18 < Lc (paP D) d (rd D i).lo) ∨ (0 < r ∧ r ≤ 18 ∧ Mok D M' ∧ Lc (paP D) (pos D.length M') (rd D i).lo = r ∧ Ext M M'))
theorem Zqw {D : List Chs} {m : Mem} (hD : D.length ≤ 65536) (hix : Zwv D m) (hrow : ∀ x ∈ D, paP D x.lo = x.is_) (hk : ∀ x ∈ D, 1 ≤ x.is_.length ∧ x.is_.length ≤ 2) :
  ∀ (k : Nat) (M : Mem) (i : Int), Mok D M → 0 ≤ i → i < (D.length : Int) → un D.length M < k → Zw8 D M i (Zu.f k i D m M) := by
 intro k
 induction k with
 | zero => intro M i _ _ _ h; omega
 | succ k ih =>
  intro M i hM hi0 hi1 hun
  rw [Zu.f, Zu.b]
  cases e : Vo M i with
  | some n =>
   refine ⟨n, M, by simp, ?_⟩
   obtain ⟨_, _, c⟩ := hM i n e
   rcases c with rfl | ⟨c1, c2, c3⟩
   ·exact .inl ⟨rfl, fun d hz => hz i e⟩
   ·exact .inr ⟨c1, c2, hM, c3, Ext.refl M⟩
  | none =>
   rw [if_neg (by simp), if_pos ⟨hi0, hi1⟩]
   have hmem := Zho hi0 hi1
   have hpa := hrow _ hmem
   have hlen := hk _ hmem
   have hpn : paP D (rd D i).lo ≠ [] := by rw [hpa]; intro h; rw [h] at hlen; simp at hlen
   have hi2 : ((i.toNat : Nat) : Int) = i := by omega
   have him : i.toNat ∈ List.range D.length := by rw [List.mem_range]; omega
   have g0 := Zc0 M i
   have hp0 : pos D.length M ≤ pos D.length (Ht M i 0) := Zkk fun j _ hj => by
    rw [g0]
    by_cases c : (j : Int) = i
    ·rw [c, e] at hj; simp at hj
    ·rw [if_neg c]; exact hj
   have hM0 : Mok D (Ht M i 0) := by
    intro j n ej
    rw [g0] at ej
    by_cases c : j = i
    ·rw [if_pos c] at ej
     have : (0 : Int) = n := by simpa using ej
     exact ⟨by omega, by omega, .inl this.symm⟩
    ·rw [if_neg c] at ej
     exact hM.grow hp0 ej
   have hu0 : un D.length (Ht M i 0) < un D.length M := Zni him (fun j _ hj => by
     rw [g0] at hj
     by_cases c : (j : Int) = i
     ·rw [if_pos c] at hj; simp at hj
     ·rw [if_neg c] at hj; exact hj) (by simp [hi2, g0]) (by simp [hi2, e])
   have hz0 : ∀ M1 d, Ext (Ht M i 0) M1 → Zer D M d → 18 < Lc (paP D) d (rd D i).lo → Zer D M1 d := by
    intro M1 d hx hz h j ej
    have := hx.2 j ej
    rw [g0] at this
    by_cases c : j = i
    ·rw [c]; exact h
    ·rw [if_neg c] at this; exact hz j this
   have h19 : Lc (paP D) 0 (rd D i).lo = 19 := by simp [Lc, hpn]
   have hl : (rd D i).is_.length ≤ Z9 := by unfold Z9; omega
   refine Qb (fun kk x (s : Mem × Int) => Zu.l1 kk (Zu.f k) D m i s.1 s.2 x) (rd D i).is_
    (fun pre t s o => Mok D s.1 → Ext (Ht M i 0) s.1 → 0 ≤ s.2 → s.2 ≤ 18 * (pre.length : Int) → (∀ c ∈ pre, Lc (paP D) (pos D.length s.1) c ≤ 18) → s.2 = Hv (Lc (paP D) (pos D.length s.1)) pre → Zw8 D M i o)
    ?_ ?_ (Ht M i 0, 0) K0 (ltK hl) hM0 (Ext.refl _) (Int.le_refl _) (by simp) (fun c hc => by cases hc) rfl
   ·intro ⟨M1, s⟩ kk hM1 hx h0 h1 h2 h3
    simp only at hM1 hx h0 h1 h2 h3
    simp only [Zu.l1, if_neg (show ¬ (((rd D i).is_).length : Int) < (((rd D i).is_).length : Int) by omega)]
    by_cases c : 18 < s
    ·rw [if_pos c]
     refine ⟨0, M1, rfl, .inl ⟨rfl, fun d _ => ?_⟩⟩
     cases d with
     | zero => rw [h19]; omega
     | succ d =>
      rw [Lc, if_neg hpn, hpa]
      have : s ≤ Hv (Lc (paP D) d) (rd D i).is_ := by rw [h3]; exact Zd9 fun x hx => Zwr _ (h2 x hx) d
      unfold cap; rw [if_pos (by omega)]; omega
    ·rw [if_neg c]
     have hs1 : 1 ≤ s := by
      have := Zb6 (f := Lc (paP D) (pos D.length M1)) (l := (rd D i).is_) (fun y _ => (Za3 _ _ y).1)
      omega
     have e1 : Vo M1 i = some 0 := hx.1 i 0 (by rw [g0, if_pos rfl])
     have g1 := Zc0 M1 i
     have hp1 : pos D.length M1 < pos D.length (Ht M1 i s) := Zni him (fun j _ hj => by
       rw [g1]
       by_cases c : (j : Int) = i
       ·rw [c, e1] at hj; simp at hj
       ·rw [if_neg c]; exact hj) (by simp [hi2, e1]) (by simp only [hi2, g1, if_true, Option.getD_some]; simp; omega)
     have hL : Lc (paP D) (pos D.length M1 + 1) (rd D i).lo = s := by
      rw [Lc, if_neg hpn, hpa, ← h3]; unfold cap; rw [if_neg c]
     have hL2 : Lc (paP D) (pos D.length (Ht M1 i s)) (rd D i).lo = s := by
      rw [Zd8 _ hp1 (by rw [hL]; omega), hL]
     refine ⟨s, _, rfl, .inr ⟨by omega, by omega, ?_, hL2, ?_, ?_⟩⟩
     ·intro j n ej
      rw [g1] at ej
      by_cases c : j = i
      ·rw [if_pos c] at ej
       have : s = n := by simpa using ej
       subst this
       exact ⟨by omega, by omega, .inr ⟨by omega, by omega, by rw [c]; exact hL2⟩⟩
      ·rw [if_neg c] at ej
       exact hM1.grow (Nat.le_of_lt hp1) ej
     ·intro j n ej
      have hne : j ≠ i := fun h => by rw [h, e] at ej; cases ej
      rw [g1, if_neg hne]
      exact hx.1 j n (by rw [g0, if_neg hne]; exact ej)
     ·intro j ej
      rw [g1] at ej
      by_cases c : j = i
      ·rw [if_pos c] at ej
       have : s = 0 := by simpa using ej
       omega
      ·rw [if_neg c] at ej
       have := hx.2 j ej
       rw [g0, if_neg c] at this
       exact this
   ·intro pre c t ⟨M1, s⟩ kk e2 ih2 hM1 hx h0 h1 h2 h3
    simp only at hM1 hx h0 h1 h2 h3
    obtain ⟨h4, h5⟩ := mid e2
    have hpl : pre.length ≤ 1 := by
     have : (rd D i).is_.length = pre.length + (t.length + 1) := by rw [e2]; simp
     omega
    simp only [Zu.l1, if_pos h5.2, if_pos h5, h4, Zu.j1, nxt hl e2]
    have hin : c ∈ (rd D i).is_ := by rw [e2]; simp
    cases em : Vo m c with
    | none =>
     simp only [Option.isSome_none, Bool.false_eq_true, if_false]
     rw [if_neg (by decide), w64 (by omega) (by omega)]
     have hc := Zau ((hix c).1 em)
     refine ih2 (M1, s + 1) hM1 hx (by show 0 ≤ s + 1; omega) (by show s + 1 ≤ _; simp; omega) ?_ ?_
     ·intro d hd
      rcases List.mem_append.1 hd with hd | hd
      ·exact h2 d hd
      ·rw [List.mem_singleton.1 hd, hc]; omega
     ·show s + 1 = _
      rw [Zio, ← h3]; simp [Hv, hc]
    | some j =>
     obtain ⟨j0, j1, j2⟩ := (hix c).2 j em
     simp only [Option.isSome_some, if_true, Option.getD_some]
     obtain ⟨r, M2, er, hr⟩ := ih M1 j hM1 j0 j1 (by have := hx.un D.length; omega)
     rw [er, Option.bind_some]
     rw [j2] at hr
     rcases hr with ⟨rfl, hr⟩ | ⟨r0, r1, hM2, r2, hx2⟩
     ·rw [if_pos rfl]
      refine ⟨0, M2, rfl, .inl ⟨rfl, fun d => ?_⟩⟩
      induction d with
      | zero => intro _; rw [h19]; omega
      | succ d ihd =>
       intro hz
       have hz' : Zer D M d := fun j ej => Int.lt_of_lt_of_le (hz j ej) (Ziu _ d _)
       have h6 := hr d (hz0 M1 d hx hz' (ihd hz'))
       rw [Lc, if_neg hpn, hpa]
       have := Zg9 (f := Lc (paP D) d) (l := (rd D i).is_) (fun y _ => (Za3 _ _ y).1) c hin
       unfold cap; rw [if_pos (by omega)]; omega
     ·rw [if_neg (by omega), w64 (by omega) (by omega)]
      have hp := hx2.pos D.length
      refine ih2 (M2, s + r) hM2 (hx.trans hx2) (by show 0 ≤ s + r; omega) (by show s + r ≤ _; simp; omega) ?_ ?_
      ·intro d hd
       rcases List.mem_append.1 hd with hd | hd
       ·show Lc _ (pos D.length M2) d ≤ 18
        rw [Zd8 _ hp (h2 d hd)]; exact h2 d hd
       ·rw [List.mem_singleton.1 hd]; show Lc _ (pos D.length M2) c ≤ 18; omega
      ·show s + r = Hv (Lc (paP D) (pos D.length M2)) _
       rw [Zio, Ze1 (fun d hd => Zd8 _ hp (h2 d hd)), ← h3]; simp [Hv, r2]
end Go.Proofs.YthoicbafdanmkaaGreatDoor
/- Plain laws, sixth part: the whole of the decompositions, by the book and by the reference. Own work of this repo. -/
namespace Go.Proofs.YthoicbafdanmkaaGreatDoor
open Go.RowKit

def Zge (x y : Chs) : Bool := decide ((x.is_.length : Int) = 2) && decide ((y.is_.length : Int) = 2) && decide (rd x.is_ 0 = rd y.is_ 0) && decide (rd x.is_ 1 = rd y.is_ 1)
def Zb1 (D : List Chs) : List Chs → List Chs → Bool
 | _, [] => true
 | pre, x :: t => decide (Lc (paP D) (D.length + 1) x.lo ≤ 18) && !pre.any (Zge x) && Zb1 D (pre ++ [x]) t
def Zi1 (x : Chs) : Vector Int 2 := #v[rd x.is_ 0, rd x.is_ 1]
theorem Zpc (x y : Chs) : Zi1 x = Zi1 y ↔ rd x.is_ 0 = rd y.is_ 0 ∧ rd x.is_ 1 = rd y.is_ 1 := by
 unfold Zi1
 constructor
 ·intro h
  have h := congrArg Vector.toList h
  simpa using h
 ·rintro ⟨h1, h2⟩
  rw [h1, h2]
structure Dok (D : List Chs) : Prop where
 len : D.length ≤ 65536
 one : ∀ x ∈ D, x.lo = x.hi
 row : ∀ x ∈ D, paP D x.lo = x.is_
 kid : ∀ x ∈ D, 1 ≤ x.is_.length ∧ x.is_.length ≤ 2
theorem Zom : ∀ (D : List Chs) (last : Int), Kz (·.lo) (·.hi) Zaf last D = true → ∀ x ∈ D, paP D x.lo = x.is_
 | [], _, _, x, hx => by cases hx
 | y :: t, last, h, x, hx => by
  simp only [Kz, Bool.and_eq_true, decide_eq_true_eq] at h
  rcases List.mem_cons.1 hx with rfl | hx
  ·rw [paP, if_pos (by omega)]
  ·have := (Zbg h.2 x hx).1
   rw [paP, if_neg (by omega)]
   exact Zom t _ h.2 x hx
theorem Dok.mk' {D : List Chs} (h : Hc (·.lo) (·.hi) Zaf D = true) : Dok D := by
 simp only [Hc, Bool.and_eq_true, decide_eq_true_eq] at h
 have g : ∀ x ∈ D, Zaf x = true := fun x hx => (Zbg h.2 x hx).2.2.2
 refine ⟨h.1, fun x hx => ?_, Zom D _ h.2, fun x hx => ?_⟩
 ·have := g x hx; simp only [Zaf, Bool.and_eq_true, decide_eq_true_eq] at this; exact this.1.1.1
 ·have := g x hx; simp only [Zaf, Uj, Bool.and_eq_true, decide_eq_true_eq] at this
  have := this.1.2.1; omega
theorem Dok.none {D : List Chs} {c : Int} : ∀ {l : List Chs}, (∀ x ∈ l, x.lo = x.hi) → (∀ x ∈ l, x.lo ≠ c) → paP l c = []
 | [], _, _ => rfl
 | x :: t, h1, h2 => by
  have a := h1 x (List.mem_cons_self ..)
  have b := h2 x (List.mem_cons_self ..)
  rw [paP, if_neg (by omega)]
  exact Dok.none (D := D) (fun y hy => h1 y (List.mem_cons_of_mem _ hy)) (fun y hy => h2 y (List.mem_cons_of_mem _ hy))
theorem Zut {D : List Chs} (h : Dok D) (c : Int) : (paP D c).length ≤ 2 := by
 have : ∀ l : List Chs, (∀ x ∈ l, x.is_.length ≤ 2) → (paP l c).length ≤ 2 := by
  intro l
  induction l with
  | nil => intro _; simp [paP]
  | cons x t ih =>
   intro h
   unfold paP
   split
   ·exact h x (List.mem_cons_self ..)
   ·exact ih fun y hy => h y (List.mem_cons_of_mem _ hy)
 exact this D fun x hx => (h.kid x hx).2
theorem Zvj (N : Nat) (M : Mem) : pos N M ≤ N := by
 have := List.countP_le_length (p := fun j : Nat => decide (0 < (Vo M (j : Int)).getD 0)) (l := List.range N)
 simpa [pos] using this
theorem Zw4 (N : Nat) (M : Mem) : un N M ≤ N := by
 have := List.countP_le_length (p := fun j : Nat => (Vo M (j : Int)).isNone) (l := List.range N)
 simpa [un] using this
theorem Zna {D : List Chs} {m : Mem} (h : Dok D) (hix : Zwv D m) : ∃ r, Xw.l1 K0 D m [] [] 0 = some r ∧ Hw r (Zb1 D [] D) := by
 have hl : D.length ≤ Z9 := by have := h.len; unfold Z9; omega
 refine Qb (fun k i (s : List (Vector Int 2 × Bool) × Mem) => Xw.l1 k D m s.1 s.2 i) D
  (fun pre t s o => Mok D s.2 → (∀ j, Vo s.2 j ≠ some 0) → (∀ v, (Vo s.1 v).getD false = true ↔ ∃ x ∈ pre, (x.is_.length : Int) = 2 ∧ Zi1 x = v) → ∃ r, o = some r ∧ Hw r (Zb1 D pre t))
  ?_ ?_ ([], []) K0 (ltK hl) (fun j n e => by cases e) (fun j e => by cases e) (fun v => by simp [Vo])
 ·intro ⟨S, M⟩ k _ _ _
  exact ⟨-1, by simp only [Xw.l1, if_neg (show ¬ (D.length : Int) < (D.length : Int) by omega)], .inl ⟨rfl, rfl⟩⟩
 ·intro pre x t ⟨S, M⟩ k e ih hM hz hS
  simp only at hM hz hS
  obtain ⟨h1, h2⟩ := mid e
  have hx : x ∈ D := by rw [e]; simp
  obtain ⟨r, M', er, hr⟩ := Zqw h.len hix h.row h.kid K0 M (pre.length : Int) hM h2.1 h2.2 (Nat.lt_of_le_of_lt (Zw4 _ _) (ltK hl))
  rw [h1] at hr
  simp only [Xw.l1, if_pos h2.2, if_pos h2, er, Option.bind_some, h1, Xw.j1, nxt hl e, Zb1]
  rcases hr with ⟨rfl, hr⟩ | ⟨r0, r1, hM', r2, hE⟩
  ·have := hr (D.length + 1) fun j ej => absurd ej (hz j)
   exact ⟨_, by rw [if_pos rfl], .inr ⟨by simp [show ¬ Lc (paP D) (D.length + 1) x.lo ≤ 18 by omega], by omega⟩⟩
  ·rw [if_neg (by omega)]
   have hL : Lc (paP D) (D.length + 1) x.lo ≤ 18 := by
    rw [Zd8 _ (Nat.le_succ_of_le (Zvj D.length M')) (by omega)]; omega
   have hz' : ∀ j, Vo M' j ≠ some 0 := fun j ej => hz j (hE.2 j ej)
   simp only [hL, decide_true, Bool.true_and]
   by_cases c : (x.is_.length : Int) = 2
   ·rw [if_pos c, if_pos ⟨Int.le_refl _, by omega⟩, if_pos ⟨by omega, by omega⟩]
    have hany : (pre.any (Zge x)) = (Vo S (Zi1 x)).getD false := by
     rw [Bool.eq_iff_iff, hS, List.any_eq_true]
     constructor
     ·rintro ⟨y, hy, ht⟩
      simp only [Zge, Bool.and_eq_true, decide_eq_true_eq] at ht
      exact ⟨y, hy, ht.1.1.2, ((Zpc x y).2 ⟨ht.1.2, ht.2⟩).symm⟩
     ·rintro ⟨y, hy, hy2, ht⟩
      have := (Zpc x y).1 ht.symm
      exact ⟨y, hy, by simp [Zge, c, hy2, this.1, this.2]⟩
    rw [hany]
    cases c2 : (Vo S (Zi1 x)).getD false with
    | true => exact ⟨(pre.length : Int), by rw [show (#v[rd x.is_ 0, rd x.is_ 1] : Vector Int 2) = Zi1 x from rfl, if_pos c2], .inr ⟨by simp, by omega⟩⟩
    | false =>
     rw [show (#v[rd x.is_ 0, rd x.is_ 1] : Vector Int 2) = Zi1 x from rfl, if_neg (by simp [c2])]
     simp only [Bool.not_false, Bool.true_and]
     refine ih (Ht S (Zi1 x) true, M') hM' hz' fun v => ?_
     show (Vo (Ht S (Zi1 x) true) v).getD false = true ↔ _
     rw [Zc0]
     by_cases c3 : v = Zi1 x
     ·rw [if_pos c3]; simp only [Option.getD_some, true_iff]; exact ⟨x, by simp, c, c3.symm⟩
     ·rw [if_neg c3, hS]
      constructor
      ·rintro ⟨y, hy, h3⟩; exact ⟨y, by simp [hy], h3⟩
      ·rintro ⟨y, hy, h3, h4⟩
       rcases List.mem_append.1 hy with hy | hy
       ·exact ⟨y, hy, h3, h4⟩
       ·rw [List.mem_singleton.1 hy] at h4; exact absurd h4.symm c3
   ·rw [if_neg c]
    have hany : pre.any (Zge x) = false := by
     rw [List.any_eq_false]; intro y _; simp [Zge, c]
    rw [hany]
    simp only [Bool.not_false, Bool.true_and]
    refine ih (S, M') hM' hz' fun v => ?_
    show (Vo S v).getD false = true ↔ _
    rw [hS]
    constructor
    ·rintro ⟨y, hy, h3⟩; exact ⟨y, by simp [hy], h3⟩
    ·rintro ⟨y, hy, h3, h4⟩
     rcases List.mem_append.1 hy with hy | hy
     ·exact ⟨y, hy, h3, h4⟩
     ·rw [List.mem_singleton.1 hy] at h3; exact absurd h3 c
theorem Zi8 {D : List Chs} (h : Dok D) : ∃ r, Xw.f D = some r ∧ Hw r (Zb1 D [] D) := by
 have hl : D.length ≤ Z9 := by have := h.len; unfold Z9; omega
 unfold Xw.f
 refine Qb (fun k i (s : Mem) => Xw.l2 k D s i) D
  (fun pre t s o => (∀ c, Vo s c = none → ∀ x ∈ pre, x.lo ≠ c) → (∀ c j, Vo s c = some j → 0 ≤ j ∧ j < (D.length : Int) ∧ (rd D j).lo = c) → ∃ r, o = some r ∧ Hw r (Zb1 D [] D))
  ?_ ?_ [] K0 (ltK hl) (fun c _ x hx => by cases hx) (fun c j hj => by cases hj)
 ·intro M k h1 h2
  simp only [Xw.l2, if_neg (show ¬ (D.length : Int) < (D.length : Int) by omega)]
  exact Zna h fun c => ⟨fun e => Dok.none (D := D) h.one (h1 c e), fun j e => h2 c j e⟩
 ·intro pre x t M k e ih h1 h2
  obtain ⟨h3, h4⟩ := mid e
  simp only [Xw.l2, if_pos h4.2, if_pos h4, h3, nxt hl e]
  refine ih _ ?_ ?_
  ·intro c hc y hy
   rw [Zc0] at hc
   by_cases c1 : c = x.lo
   ·rw [if_pos c1] at hc; cases hc
   ·rw [if_neg c1] at hc
    rcases List.mem_append.1 hy with hy | hy
    ·exact h1 c hc y hy
    ·rw [List.mem_singleton.1 hy]; exact fun h => c1 h.symm
  ·intro c j hj
   rw [Zc0] at hj
   by_cases c1 : c = x.lo
   ·rw [if_pos c1] at hj
    have : (pre.length : Int) = j := by simpa using hj
    subst this
    exact ⟨h4.1, h4.2, by rw [h3, c1]⟩
   ·rw [if_neg c1] at hj; exact h2 c j hj
theorem Zks (b : Bk) (h : Dok b.decomp) : ∃ r, Y0.f b = some r ∧ Hw r (Zb1 b.decomp [] b.decomp) := by
 have hl : b.decomp.length ≤ Z9 := by have := h.len; unfold Z9; omega
 unfold Y0.f
 refine Qb (fun k i (_ : Unit) => Y0.l2 k b i) b.decomp
  (fun pre t _ o => ∃ r, o = some r ∧ Hw r (Zb1 b.decomp pre t)) ?_ ?_ () K0 (ltK hl)
 ·intro _ k
  exact ⟨-1, by simp only [Y0.l2, if_neg (show ¬ (b.decomp.length : Int) < (b.decomp.length : Int) by omega)], .inl ⟨rfl, rfl⟩⟩
 ·intro pre x t _ k e ih
  obtain ⟨h1, h2⟩ := mid e
  have ih := ih ()
  have hlong := Zrv b h.len (Zut h) (b.decomp.length + 1) (Nat.le_refl _) K0 x.lo 0 (by omega) (by have := h.len; unfold K0; omega)
  simp only [Y0.l2, if_pos h2.2, if_pos h2, h1, hlong, Option.bind_some, Zb1]
  by_cases c : 18 < Lc (paP b.decomp) (b.decomp.length + 1) x.lo
  ·exact ⟨_, by rw [if_pos c], .inr ⟨by simp [show ¬ Lc (paP b.decomp) (b.decomp.length + 1) x.lo ≤ 18 by omega], by omega⟩⟩
  ·rw [if_neg c, if_pos ⟨Int.le_refl _, h2.1, by omega⟩]
   simp only [show Lc (paP b.decomp) (b.decomp.length + 1) x.lo ≤ 18 by omega, decide_true, Bool.true_and]
   have hs : sub b.decomp 0 (pre.length : Int) = pre := Zhh e
   have hpl : pre.length ≤ Z9 := by rw [e] at hl; simp at hl; omega
   have := Qb (fun kk i (_ : Unit) => Y0.l1 (Y0.l2 k b) kk b (pre.length : Int) i) pre
    (fun done rest _ o => o = if rest.any (Zge x) then some (pre.length : Int) else Y0.l2 k b ((pre.length : Int) + 1))
    (fun _ kk => by simp only [Y0.l1, hs, if_neg (show ¬ (pre.length : Int) < (pre.length : Int) by omega), nxt hl e]; rfl)
    (fun done y rest _ kk e2 ih2 => by
     obtain ⟨h3, h4⟩ := mid e2
     have ih2 := ih2 ()
     simp only [Y0.l1, hs, if_pos h4.2, if_pos h4, h1, h3, Y0.j1, nxt hpl e2, List.any_cons]
     by_cases c1 : (x.is_.length : Int) = 2
     ·by_cases c2 : (y.is_.length : Int) = 2
      ·rw [if_pos c1, if_pos c2, if_pos ⟨Int.le_refl _, by omega⟩, if_pos ⟨Int.le_refl _, by omega⟩]
       by_cases c3 : rd x.is_ 0 = rd y.is_ 0
       ·rw [if_pos c3, if_pos ⟨by omega, by omega⟩, if_pos ⟨by omega, by omega⟩]
        by_cases c4 : rd x.is_ 1 = rd y.is_ 1
        ·simp [c4, Zge, c1, c2, c3]
        ·simpa [c4, Zge] using ih2
       ·simpa [c3, Zge] using ih2
      ·rw [if_pos c1, if_neg c2]; simpa [Zge, c2] using ih2
     ·rw [if_neg c1]; simpa [Zge, c1] using ih2) () K0 (ltK hpl)
   rw [this]
   cases c5 : pre.any (Zge x) with
   | true => exact ⟨(pre.length : Int), by simp, .inr ⟨by simp, by omega⟩⟩
   | false => simpa using ih
end Go.Proofs.YthoicbafdanmkaaGreatDoor
/- Plain laws, seventh part: what is a sound book; the book's own check and the reference's. Own work of this repo. -/
namespace Go.Proofs.YthoicbafdanmkaaGreatDoor
open Go.IntKind (i8 i16 i32 i64 u8 u16 u32 u64)
open Go.RowKit

structure Few (b : Bk) : Prop where
 names : b.names.length ≤ Z9
 status : b.status.length ≤ Z9
 maps : b.maps.length ≤ Z9
 class_ : b.class_.length ≤ Z9
 decomp : b.decomp.length ≤ Z9
 excl : b.excl.length ≤ Z9
 bidi : b.bidi.length ≤ Z9
 join : b.join.length ≤ Z9
 marks : b.marks.length ≤ Z9
 script : b.script.length ≤ Z9
 like : b.like.length ≤ Z9
 mapsI : ∀ x ∈ b.maps, x.is_.length ≤ Z9
 decompI : ∀ x ∈ b.decomp, x.is_.length ≤ Z9
 likeI : ∀ x ∈ b.like, x.is_.length ≤ Z9
def Zqm (a b : Int) (l : List Val) : Bool := Hc (·.lo) (·.hi) (fun x : Val => decide (a ≤ x.n) && decide (x.n ≤ b)) l
def Zuu (a b : Int) (l : List Val) : Bool := Hc (·.lo) (·.hi) (fun x : Val => decide (a ≤ x.n) && decide (x.n ≤ b) && !Uv x.lo x.hi) l
def Zwc (x : Val) : Bool := decide (1 ≤ x.n) && decide (x.n ≤ 3)
def okB (b : Bk) : Bool :=
 Zhu b.names && (Zqm 1 3 b.status && (Hc (·.lo) (·.hi) (Zgf b.status) b.maps && (Zuu 1 254 b.class_ && (Hc (·.lo) (·.hi) Zaf b.decomp &&
 (Hc (·.lo) (·.hi) (fun x : Spn => !Uv x.lo x.hi) b.excl && (Zqm 0 22 b.bidi && (Zqm 0 5 b.join && (Hc (·.lo) (·.hi) (fun _ : Spn => true) b.marks &&
 (Zqm 1 (b.names.length : Int) b.script && (Hc (·.lo) (·.hi) (fun x : Chs => Uj x.is_ 1 18) b.like && Zb1 b.decomp [] b.decomp))))))))))
theorem Hw.cases' {r : Int} {w : Bool} (h : Hw r w) : (w = false ∧ 0 ≤ r) ∨ (w = true ∧ ¬ 0 ≤ r) := by
 rcases h with ⟨rfl, rfl⟩ | ⟨rfl, h⟩
 ·exact .inr ⟨rfl, by decide⟩
 ·exact .inl ⟨rfl, h⟩
theorem He {w w' : Bool} {p : Wh} {r : Int} {o o' : Option (Wh × Int)} (hs : Hw r w) (h : w = true → ∃ p, o' = some (p, if w' then 0 else 100)) (e : o = if 0 ≤ r then some (p, 100) else o') :
  ∃ p, o = some (p, if w && w' then 0 else 100) := by
 rcases hs.cases' with ⟨rfl, hr⟩ | ⟨rfl, hr⟩
 ·exact ⟨p, by rw [e, if_pos hr]; rfl⟩
 ·obtain ⟨q, hq⟩ := h rfl
  exact ⟨q, by rw [e, if_neg hr, hq]; rfl⟩
theorem Zem (b : Bk) : ∃ p, J6.f b = some (p, if okB b then 0 else 100) := by
 unfold J6.f okB
 obtain ⟨r1, e1, s1⟩ := Zta b.names
 rw [U3.f, e1]
 refine He s1 (fun h1 => ?_) rfl
 obtain ⟨r2, e2, s2⟩ := Zfn 1 3 b.status
 rw [U0.f, show Xu.f b.status 1 3 = some r2 from by first | exact e2 | (simp only [Xu.f, K6.f, e2]; rfl)]
 refine He s2 (fun h2 => ?_) rfl
 have hst : b.status.length ≤ Z9 ∧ Kz (·.lo) (·.hi) Zwc (-1) b.status = true := by
  simp only [Zqm, Hc, Bool.and_eq_true, decide_eq_true_eq] at h2
  exact ⟨by unfold Z9; omega, h2.2⟩
 obtain ⟨r3, e3, s3⟩ := Zqu b ⟨_, hst.2⟩ hst.1
 rw [U1.f, show Zar.f (⟨b.names, b.status, b.maps, b.class_, b.decomp, b.excl, b.bidi, b.join, b.marks, b.script, b.like⟩ : Bk) = some r3 from by first | exact e3 | (simp only [Xu.f, K6.f, e3]; rfl)]
 refine He s3 (fun _ => ?_) rfl
 obtain ⟨r4, e4, s4⟩ := Znw 1 254 b.class_
 rw [U5.f, show K6.f b.class_ 1 254 = some r4 from by first | exact e4 | (simp only [Xu.f, K6.f, e4]; rfl)]
 refine He s4 (fun _ => ?_) rfl
 obtain ⟨r5, e5, s5⟩ := Zml b.decomp
 rw [Uz.f, e5]
 refine He s5 (fun h5 => ?_) rfl
 obtain ⟨r6, e6, s6⟩ := Zqr b.excl
 rw [U4.f, e6]
 refine He s6 (fun _ => ?_) rfl
 obtain ⟨r7, e7, s7⟩ := Zfn 0 22 b.bidi
 rw [Uk.f, show Hf.f = some _ from rfl, Option.bind_some, show (i64.wrap _ : Int) = 22 from by rw [w64 (by simp) (by simp)]; rfl, show Xu.f b.bidi 0 22 = some r7 from by first | exact e7 | (simp only [Xu.f, K6.f, e7]; rfl)]
 refine He s7 (fun _ => ?_) rfl
 obtain ⟨r8, e8, s8⟩ := Zfn 0 5 b.join
 rw [Uo.f, show Zaa.f = some _ from rfl, Option.bind_some, show (i64.wrap _ : Int) = 5 from by rw [w64 (by simp) (by simp)]; rfl, show Xu.f b.join 0 5 = some r8 from by first | exact e8 | (simp only [Xu.f, K6.f, e8]; rfl)]
 refine He s8 (fun _ => ?_) rfl
 obtain ⟨r9, e9, s9⟩ := Zoc b.marks
 rw [Ul.f, e9]
 refine He s9 (fun _ => ?_) rfl
 obtain ⟨r10, e10, s10⟩ := Zfn 1 (b.names.length : Int) b.script
 rw [Un.f, show Xu.f b.script 1 _ = some r10 from by first | exact e10 | (simp only [Xu.f, K6.f, e10]; rfl)]
 refine He s10 (fun _ => ?_) rfl
 obtain ⟨r11, e11, s11⟩ := Zpy b.like
 rw [Um.f, e11]
 refine He s11 (fun _ => ?_) rfl
 obtain ⟨r12, e12, s12⟩ := Zi8 (Dok.mk' h5)
 rw [Uq.f, e12]
 obtain ⟨p, hp⟩ := He (w' := true) (o' := some ((⟨0, 0⟩ : Wh), 0)) s12 (fun _ => ⟨_, rfl⟩) rfl
 exact ⟨p, by rw [Bool.and_true] at hp; exact hp⟩
end Go.Proofs.YthoicbafdanmkaaGreatDoor
/- Plain laws, eighth part: the reference's check of a book says the same. Own work of this repo. -/
namespace Go.Proofs.YthoicbafdanmkaaGreatDoor
open Go.RowKit

theorem Zn7 (p : Int) : Uv p p = Zhw p := by
 unfold Uv Zhw
 rw [Bool.eq_iff_iff]
 simp only [Bool.or_eq_true, Bool.and_eq_true, decide_eq_true_eq]
 omega
theorem Zlw (x : Chs) : (!Zbc (V3 2 x) x) = Zaf x := by
 unfold Zbc V3 Zaf
 by_cases c : x.lo = x.hi
 ·rw [← c, Zn7]
  have : Uj [x.lo] 1 1 = Zb7 x.lo := by simp [Uj]
  rw [this]
  cases Uj x.is_ 1 2 <;> cases Zhw x.lo <;> cases Zb7 x.lo <;> simp
 ·simp [c]
theorem Zea (a b : Int) (x : Val) : (!Zbe a b false x) = (decide (a ≤ x.n) && decide (x.n ≤ b)) := by
 unfold Zbe
 rw [Bool.eq_iff_iff]; simp
theorem Zqi (a b : Int) (x : Val) : (!Zbe a b true x) = (decide (a ≤ x.n) && decide (x.n ≤ b) && !Uv x.lo x.hi) := by
 unfold Zbe
 rw [Bool.eq_iff_iff]; simp
theorem Zab {α : Type} (l : List α) (sp : α → Spn) (wr may : α → Bool) (h : ∀ x, (!wr x) = may x) : ∃ r, Yq.f (l.map sp) (l.map wr) = some r ∧ Hw r (Hc (fun x => (sp x).lo) (fun x => (sp x).hi) may l) := by
 obtain ⟨r, h1, h2⟩ := Zk0 l sp wr
 rw [show (fun x => !wr x) = may from funext h] at h2
 exact ⟨r, h1, h2⟩
theorem Ztp {α : Type} (l : List α) : l.map (fun x => x) = l := by simp
theorem Zbo {r : Int} {w : Bool} (h : Hw r w) : decide (r < 0) = w := by
 rcases h with ⟨rfl, rfl⟩ | ⟨rfl, h⟩
 ·rfl
 ·simp; omega
theorem Zn4 (b : Bk) (a1 a2 a3 a4 a5 a6 a7 a8 a9 a10 a11 : Int) (h : a5 < 0 → Dok b.decomp) :
  ∃ p q, Ze.l1 K0 b a1 a2 a3 a4 a5 a6 a7 a8 a9 a10 a11 0 = some (p, q, if [a1, a2, a3, a4, a5, a6, a7, a8, a9, a10, a11].all (fun x => decide (x < 0)) && Zb1 b.decomp [] b.decomp then 0 else 100) := by
 have hl : [a1, a2, a3, a4, a5, a6, a7, a8, a9, a10, a11].length ≤ Z9 := by unfold Z9; simp
 refine Qb (fun k i (_ : Unit) => Ze.l1 k b a1 a2 a3 a4 a5 a6 a7 a8 a9 a10 a11 i) [a1, a2, a3, a4, a5, a6, a7, a8, a9, a10, a11]
  (fun pre t _ o => (∀ x ∈ pre, x < 0) → ∃ p q, o = some (p, q, if t.all (fun x => decide (x < 0)) && Zb1 b.decomp [] b.decomp then 0 else 100)) ?_ ?_ () K0 (ltK hl) (fun x hx => by cases hx)
 ·intro _ k hx
  have h5 := h (hx a5 (by simp))
  obtain ⟨r, e, s⟩ := Zks b h5
  simp only [Ze.l1]
  rw [if_neg (show ¬ (([a1, a2, a3, a4, a5, a6, a7, a8, a9, a10, a11] : List Int).length : Int) < (([a1, a2, a3, a4, a5, a6, a7, a8, a9, a10, a11] : List Int).length : Int) by omega), e, Option.bind_some]
  rcases s.cases' with ⟨s1, s2⟩ | ⟨s1, s2⟩
  ·exact ⟨5, r, by rw [if_pos s2, s1]; rfl⟩
  ·exact ⟨0, 0, by rw [if_neg s2, s1]; rfl⟩
 ·intro pre x t _ k e ih hx
  obtain ⟨h1, h2⟩ := mid e
  simp only [Ze.l1]
  rw [if_pos h2.2, if_pos h2, h1, nxt hl e, List.all_cons]
  by_cases c : 0 ≤ x
  ·exact ⟨_, _, by rw [if_pos c, show decide (x < 0) = false by simp; omega]; rfl⟩
  ·rw [if_neg c, show decide (x < 0) = true by simp; omega, Bool.true_and]
   exact ih () fun y hy => by
    rcases List.mem_append.1 hy with hy | hy
    ·exact hx y hy
    ·rw [List.mem_singleton.1 hy]; omega
theorem Zpu {b : Bk} (hb : Few b) {ms : List Bool} : Ze.l2 K0 b ms [] 0 = Ze.t20 b ms (b.excl.map fun x => Uv x.lo x.hi) := by
 have := Qb (fun k i s => Ze.l2 k b ms s i) b.excl
  (fun pre t s o => s = pre.map (fun x => Uv x.lo x.hi) → o = Ze.t20 b ms (b.excl.map fun x => Uv x.lo x.hi))
  (fun s k hs => by
   simp only [Ze.l2, if_neg (show ¬ (b.excl.length : Int) < (b.excl.length : Int) by omega)]
   rw [if_pos ⟨by omega, by have := hb.marks; unfold Z9 at this; unfold most; omega⟩, hs])
  (fun pre x t s k e ih hs => by
   obtain ⟨h1, h2⟩ := mid e
   have hp : pre.length ≤ Z9 := by have := hb.excl; rw [e] at this; simp at this; omega
   simp only [Ze.l2, if_pos h2.2, if_pos h2, h1, Zg1, Option.bind_some, nxt hb.excl e]
   rw [if_pos (by rw [hs, List.length_map]; exact Zkr hp (Nat.le_refl _))]
   exact ih _ (by rw [hs]; simp)) [] K0 (ltK hb.excl) rfl
 exact this
theorem Zfk (b : Bk) (hb : Few b) : ∃ p q, Ze.f b = some (p, q, if okB b then 0 else 100) := by
 have hw := Zdl b.maps 18 hb.maps hb.mapsI
 rw [Ze.f, hw, Option.bind_some]
 -- the rows of Maps
 have hl3 := Qb (fun k i s => Ze.l3 k b s i) b.maps
  (fun pre t s o => s = (pre.map fun x => !Zgf b.status x) ++ t.map (V3 18) → o = Ze.l2 K0 b (b.maps.map fun x => !Zgf b.status x) [] 0)
  (fun s k hs => by
   simp only [Ze.l3, if_neg (show ¬ (b.maps.length : Int) < (b.maps.length : Int) by omega), hs, List.map_nil, List.append_nil])
  (fun pre x t s k e ih hs => by
   obtain ⟨h1, h2⟩ := mid e
   have hlen : s.length = b.maps.length := by rw [hs, e]; simp
   have hr : rd s (pre.length : Int) = V3 18 x := by rw [hs]; simp [rd]
   have hset : ∀ w : Bool, w = !Zgf b.status x → s.set ((pre.length : Int).toNat) w = ((pre ++ [x]).map fun x => !Zgf b.status x) ++ t.map (V3 18) := by
    intro w ew
    rw [hs, ew]; simp
   simp only [Ze.l3, if_pos h2.2, if_pos h2, h1, hr, Ze.j1, nxt hb.maps e, Zqg x b.status hb.status, Option.bind_some]
   rw [if_pos ⟨h2.1, by omega⟩]
   by_cases c : V3 18 x = true
   ·rw [if_pos c]
    refine ih _ (hset _ ?_)
    have : Uj x.is_ 1 18 = false := by unfold V3 at c; simpa using c
    simp [Zgf, this]
   ·rw [if_neg c]
    refine ih _ (hset _ ?_)
    have : Uj x.is_ 1 18 = true := by unfold V3 at c; simpa using c
    simp [Zgf, this]) (b.maps.map (V3 18)) K0 (ltK hb.maps) (by simp)
 rw [hl3]
 rw [Zpu hb]
 obtain ⟨r1, e1, s1⟩ := Zk2 b.names
 obtain ⟨r2, e2, s2⟩ := Zab b.status (fun x => (⟨x.lo, x.hi⟩ : Spn)) (Zbe 1 3 false) _ (Zea 1 3)
 obtain ⟨r3, e3, s3⟩ := Zab b.maps (fun x => (⟨x.lo, x.hi⟩ : Spn)) (fun x => !Zgf b.status x) (Zgf b.status) (fun x => by simp)
 obtain ⟨r4, e4, s4⟩ := Zab b.class_ (fun x => (⟨x.lo, x.hi⟩ : Spn)) (Zbe 1 254 true) _ (Zqi 1 254)
 obtain ⟨r5, e5, s5⟩ := Zab b.decomp (fun x => (⟨x.lo, x.hi⟩ : Spn)) (fun x => Zbc (V3 2 x) x) Zaf Zlw
 obtain ⟨r6, e6, s6⟩ := Zab b.excl (fun x => x) (fun x => Uv x.lo x.hi) (fun x => !Uv x.lo x.hi) (fun x => rfl)
 obtain ⟨r7, e7, s7⟩ := Zab b.bidi (fun x => (⟨x.lo, x.hi⟩ : Spn)) (Zbe 0 22 false) _ (Zea 0 22)
 obtain ⟨r8, e8, s8⟩ := Zab b.join (fun x => (⟨x.lo, x.hi⟩ : Spn)) (Zbe 0 5 false) _ (Zea 0 5)
 obtain ⟨r9, e9, s9⟩ := Zab b.marks (fun x => x) (fun _ => false) (fun _ => true) (fun x => rfl)
 obtain ⟨r10, e10, s10⟩ := Zab b.script (fun x => (⟨x.lo, x.hi⟩ : Spn)) (Zbe 1 (b.names.length : Int) false) _ (Zea 1 (b.names.length : Int))
 obtain ⟨r11, e11, s11⟩ := Zab b.like (fun x => (⟨x.lo, x.hi⟩ : Spn)) (V3 18) (fun x => Uj x.is_ 1 18) (fun x => by simp [V3])
 rw [Ztp] at e6 e9
 have e9' : List.map (fun _ : Spn => false) b.marks = List.replicate (b.marks.length : Int).toNat false := by rw [Int.toNat_natCast, List.map_const']
 rw [e9'] at e9
 rw [Ze.t20, e1, Option.bind_some, Ze.t19, Zco _ hb.status, Option.bind_some, Ze.t18, Zbb _ _ _ _ hb.status, Option.bind_some, Ze.t17, e2, Option.bind_some,
  Ze.t16, Zdg _ hb.maps, Option.bind_some, Ze.t15, e3, Option.bind_some, Ze.t14, Zco _ hb.class_, Option.bind_some, Ze.t13, Zbb _ _ _ _ hb.class_, Option.bind_some,
  Ze.t12, e4, Option.bind_some, Ze.t11, Zdg _ hb.decomp, Option.bind_some, Ze.t10, Zh9 _ hb.decomp hb.decompI, Option.bind_some, Ze.t9, e5, Option.bind_some,
  Ze.t8, e6, Option.bind_some, Ze.t7, Zco _ hb.bidi, Option.bind_some, Ze.t6, Zbb _ _ _ _ hb.bidi, Option.bind_some, Ze.t5, e7, Option.bind_some,
  Ze.t4, Zco _ hb.join, Option.bind_some, Ze.t3, Zbb _ _ _ _ hb.join, Option.bind_some, Ze.t2, e8, Option.bind_some, Ze.t1, e9, Option.bind_some,
  Zco _ hb.script, Option.bind_some, Zbb _ _ _ _ hb.script, Option.bind_some, e10, Option.bind_some, Zdg _ hb.like, Option.bind_some, Zdl _ _ hb.like hb.likeI, Option.bind_some, e11, Option.bind_some]
 obtain ⟨p, q, e⟩ := Zn4 b r1 r2 r3 r4 r5 r6 r7 r8 r9 r10 r11 (fun h => Dok.mk' (by have := Zbo s5; simp [h] at this; exact this))
 refine ⟨p, q, ?_⟩
 rw [e]
 simp only [List.all_cons, List.all_nil, Bool.and_true, Zbo s1, Zbo s2, Zbo s3, Zbo s4, Zbo s5, Zbo s6, Zbo s7, Zbo s8, Zbo s9, Zbo s10, Zbo s11]
 unfold okB Zqm Zuu
 simp only [Bool.and_assoc]
end Go.Proofs.YthoicbafdanmkaaGreatDoor
/- Plain laws, ninth part: a block of a staged table is laid from its rows. Own work of this repo. -/
namespace Go.Proofs.YthoicbafdanmkaaGreatDoor
open Go.IntKind (i8 i16 i32 i64 u8 u16 u32 u64)
open Go.RowKit

theorem Zlg {σ β : Type} (L : Nat → Int → σ → Option β) (hi : Int) (Spec : Int → σ → Option β → Prop)
  (hend : ∀ s k, Spec hi s (L (k + 1) hi s))
  (hstep : ∀ i s k, i < hi → (∀ s', Spec (i + 1) s' (L k (i + 1) s')) → Spec i s (L (k + 1) i s)) :
  ∀ (n : Nat) i s k, hi = i + n → n < k → Spec i s (L k i s) := by
 intro n
 induction n with
 | zero =>
  intro i s k e hk
  obtain ⟨k, rfl⟩ : ∃ j, k = j + 1 := ⟨k - 1, by omega⟩
  have : hi = i := by omega
  subst this
  exact hend s k
 | succ n ih =>
  intro i s k e hk
  obtain ⟨k, rfl⟩ : ∃ j, k = j + 1 := ⟨k - 1, by omega⟩
  exact hstep i s k (by omega) fun s' => ih (i + 1) s' k (by omega) (by omega)
def inB (p : Int) (x : Val) : Bool := decide (x.lo ≤ p) && decide (p ≤ x.hi)
def Hb : List Val → Int → Int
 | [], _ => 0
 | x :: t, p => if inB p x = true then x.n else Hb t p
theorem Zib {p : Int} : ∀ {l : List Val}, (∀ x ∈ l, inB p x = false) → Hb l p = 0
 | [], _ => rfl
 | x :: t, h => by
  rw [Hb, if_neg (by rw [h x (List.mem_cons_self ..)]; decide)]
  exact Zib fun y hy => h y (List.mem_cons_of_mem _ hy)
theorem Ze2 {p : Int} {b : List Val} : ∀ {a : List Val}, (∀ x ∈ a, inB p x = false) → Hb (a ++ b) p = Hb b p
 | [], _ => rfl
 | x :: t, h => by
  rw [List.cons_append, Hb, if_neg (by rw [h x (List.mem_cons_self ..)]; decide)]
  exact Ze2 fun y hy => h y (List.mem_cons_of_mem _ hy)
theorem Ze8 {p : Int} {b : List Val} : ∀ {a : List Val}, (∀ x ∈ b, inB p x = false) → Hb (a ++ b) p = Hb a p
 | [], h => Zib h
 | x :: t, h => by
  rw [List.cons_append, Hb, Hb, Ze8 (a := t) h]
theorem Ziw {α : Type} {lo hi : α → Int} {may : α → Bool} : ∀ {a : List α} {last : Int} {x : α} {t : List α}, Kz lo hi may last (a ++ x :: t) = true →
  (∀ y ∈ a, hi y < lo x) ∧ (∀ z ∈ t, hi x < lo z) ∧ last < lo x ∧ lo x ≤ hi x ∧ hi x ≤ 1114111 ∧ may x = true
 | [], last, x, t, h => by
  simp only [List.nil_append, Kz, Bool.and_eq_true, decide_eq_true_eq] at h
  obtain ⟨⟨⟨⟨h1, h2⟩, h3⟩, h4⟩, h5⟩ := h
  exact ⟨fun y hy => (by cases hy), fun z hz => (Zbg h5 z hz).1, h1, h2, h3, h4⟩
 | y :: a, last, x, t, h => by
  simp only [List.cons_append, Kz, Bool.and_eq_true, decide_eq_true_eq] at h
  obtain ⟨⟨⟨⟨h1, h2⟩, h3⟩, h4⟩, h5⟩ := h
  have g := Ziw h5
  obtain ⟨g1, g2, g3, g4, g5, g6⟩ := g
  refine ⟨fun z hz => ?_, g2, by omega, g4, g5, g6⟩
  rcases List.mem_cons.1 hz with rfl | hz
  ·exact g3
  ·exact g1 z hz
theorem Zla {α : Type} {xs pre t : List α} (e : xs = pre ++ t) : sub xs (pre.length : Int) (xs.length : Int) = t := by
 subst e
 rw [sub, Int.toNat_natCast, Int.toNat_natCast, List.take_length, List.drop_left]
theorem Zpb {m : Nat} (y : Vector Int m) {i j : Int} (z : Int) (hi0 : 0 ≤ i) (hi1 : i < (m : Int)) (hj0 : 0 ≤ j) (hj1 : j < (m : Int)) : vg (Zb3 y i z) j = if i = j then z else vg y j := by
 have h1 : i.toNat < m := by omega
 have h2 : j.toNat < m := by omega
 simp only [vg, Zb3, Vector.toList, List.getD_eq_getElem?_getD, Array.getElem?_toList, Array.getElem?_setIfInBounds]
 by_cases c : i = j
 ·simp [c, h2]
 ·rw [if_neg c, if_neg (by omega)]
theorem Zub {m : Nat} {j : Int} : vg (Vector.replicate m (0 : Int)) j = 0 := by
 simp only [vg, List.getD_eq_getElem?_getD]
 by_cases c : j.toNat < m
 ·simp [c]
 ·simp [c]
def Zci (x : Val) : Bool := decide (0 ≤ x.n) && decide (x.n ≤ 65535)
def Zad (l : List Val) : Prop := l.length ≤ 65536 ∧ Kz (·.lo) (·.hi) Zci (-1) l = true
abbrev Blk := Vector Int 128
def Zbr : Blk := Vector.replicate 128 0
def Zgv (v : Blk) (l : List Val) (p : Int) : Prop := ∀ j : Int, 0 ≤ j → j < 128 → vg v j = Hb l (p + j)
theorem Zii {l : List Val} (h : Zad l) : Y5.f l = some (0, 0) := by
 have hl : l.length ≤ Z9 := by have := h.1; unfold Z9; omega
 unfold Y5.f
 rw [if_neg (by have := h.1; omega)]
 exact Qb (fun k i last => Y5.l1 k l last i) l (fun pre t last o => Kz (·.lo) (·.hi) Zci last t = true → o = some (0, 0))
  (fun s k _ => by simp only [Y5.l1, if_neg (show ¬ (l.length : Int) < (l.length : Int) by omega)])
  (fun pre x t s k e ih hs => by
   obtain ⟨h1, h2⟩ := mid e
   simp only [Kz, Zci, Bool.and_eq_true, decide_eq_true_eq] at hs
   obtain ⟨⟨⟨⟨g1, g2⟩, g3⟩, g4, g5⟩, g6⟩ := hs
   simp only [Y5.l1, if_pos h2.2, if_pos h2, h1, Y5.j2, Y5.j1, nxt hl e]
   rw [if_neg (by omega), if_neg (by omega), if_neg (by simp; omega), if_neg (by omega), if_neg (by simp; omega)]
   exact ih x.hi g6) (-1) K0 (ltK hl) h.2
structure Zxu (l : List Val) (k p : Int) where
 done : List Val
 rest : List Val
 eq : l = done ++ rest
 len : k = (done.length : Int)
 old : ∀ x ∈ done, x.hi < p
theorem Zt7 (go : Blk → Bool → Int → Option (Bool × Int × Blk)) (l done rest : List Val) (p i : Int) (x : Val) (v : Blk) (hp : 0 ≤ p) (hp1 : p ≤ 1113984) (el : l = done ++ rest) (ei : rd rest i = x)
  (hx0 : p ≤ x.hi) (hx1 : x.lo ≤ p + 127) (hx2 : x.lo ≤ x.hi) (hx3 : 0 ≤ x.lo) (hx4 : x.hi ≤ 1114111) (hn : 0 ≤ x.n ∧ x.n ≤ 65535) (hi : i64.wrap (i + 1) = i + 1) :
  ∃ v', Z5.l1 go K0 l p (done.length : Int) i v (max x.lo p) = go v' true (i + 1) ∧ ∀ j : Int, 0 ≤ j → j < 128 → vg v' j = if inB (p + j) x = true then x.n else vg v j := by
 have hs : sub l (done.length : Int) (l.length : Int) = rest := Zla el
 have hlast : i32.wrap ((i32.wrap (p + 128)) - 1) = p + 127 := by rw [w32 (x := p + 128) (by omega) (by omega), w32 (by omega) (by omega)]; omega
 have hstart : max x.lo p ≤ min x.hi (p + 127) := by omega
 have := Zlg (fun k q v => Z5.l1 go k l p (done.length : Int) i v q) (min x.hi (p + 127) + 1)
  (fun q (w : Blk) o => max x.lo p ≤ q → (∀ j : Int, 0 ≤ j → j < 128 → vg w j = if max x.lo p ≤ p + j ∧ p + j < q then x.n else vg v j) →
   ∃ v', o = go v' true (i + 1) ∧ ∀ j : Int, 0 ≤ j → j < 128 → vg v' j = if inB (p + j) x = true then x.n else vg v j)
  (fun w k _ hw => by
   simp only [Z5.l1, hs, ei, hlast]
   rw [if_neg (by omega), hi]
   refine ⟨w, rfl, fun j h0 h1 => ?_⟩
   rw [hw j h0 h1]
   simp only [inB, Bool.and_eq_true, decide_eq_true_eq]
   by_cases c : x.lo ≤ p + j ∧ p + j ≤ x.hi
   ·rw [if_pos c, if_pos (by omega)]
   ·rw [if_neg c, if_neg (by omega)])
  (fun q w k hq ih hq0 hw => by
   simp only [Z5.l1, hs, ei, hlast]
   rw [if_pos (by omega), w32 (x := q - p) (by omega) (by omega), if_pos ⟨by omega, by omega⟩, w16 hn.1 (by omega), w32 (x := q + 1) (by omega) (by omega)]
   refine ih _ (by omega) fun j h0 h1 => ?_
   rw [Zpb w x.n (by omega) (by omega) h0 (by omega), hw j h0 h1]
   by_cases c : q - p = j
   ·rw [if_pos c, if_pos (by omega)]
   ·rw [if_neg c]
    by_cases c2 : max x.lo p ≤ p + j ∧ p + j < q
    ·rw [if_pos c2, if_pos (by omega)]
    ·rw [if_neg c2, if_neg (by omega)])
  (min x.hi (p + 127) + 1 - max x.lo p).toNat (max x.lo p) v K0 (by omega) (by unfold K0; omega) (Int.le_refl _)
  (fun j h0 h1 => by rw [if_neg (by omega)])
 exact this
end Go.Proofs.YthoicbafdanmkaaGreatDoor
/- Plain laws, tenth part: a whole block, all blocks, a table, and what it tells. Own work of this repo. -/
namespace Go.Proofs.YthoicbafdanmkaaGreatDoor
open Go.IntKind (i8 i16 i32 i64 u8 u16 u32 u64)
open Go.RowKit

def Zo8 (v0 : Blk) (l : List Val) (p : Int) (o : Option (Bool × Int × Blk)) : Prop :=
 ∃ any v' done' rest', o = some (any, (done'.length : Int), v') ∧ l = done' ++ rest' ∧ (∀ x ∈ done', x.hi < p) ∧ Zgv v' l p ∧ (any = false → v' = v0)
theorem Zs3 (l done rest : List Val) (p : Int) (hl : Zad l) (hp : 0 ≤ p) (hp1 : p ≤ 1113984) (el : l = done ++ rest) (hd : ∀ x ∈ done, x.hi < p) (hr : ∀ x, rest.head? = some x → ¬ x.hi < p) :
  Zo8 Zbr l p (Z5.l2 K0 l p (done.length : Int) Zbr false 0) := by
 have hb : l.length ≤ Z9 := by have := hl.1; unfold Z9; omega
 have hrl : rest.length ≤ Z9 := by rw [el] at hb; simp at hb; omega
 have hs : sub l (done.length : Int) (l.length : Int) = rest := Zla el
 have hlast : i32.wrap ((i32.wrap (p + 128)) - 1) = p + 127 := by rw [w32 (x := p + 128) (by omega) (by omega), w32 (by omega) (by omega)]; omega
 have hdn : ∀ (b : List Val) (j : Int), 0 ≤ j → Hb (done ++ b) (p + j) = Hb b (p + j) := fun b j h0 => Ze2 fun x hx => by
  have := hd x hx
  simp [inB, show ¬ p + j ≤ x.hi by omega]
 refine Qb (fun k i (s : Blk × Bool) => Z5.l2 k l p (done.length : Int) s.1 s.2 i) rest
  (fun pre t s o => Zgv s.1 pre p → (s.2 = false → s.1 = Zbr) → Zo8 Zbr l p o) ?_ ?_ (Zbr, false) K0 (ltK hrl) (fun j _ _ => by rw [Hb]; exact Zub) (fun _ => rfl)
 ·intro ⟨v, any⟩ k hv ha
  simp only [Z5.l2, hs, Z5.j1]
  rw [if_neg (by omega)]
  exact ⟨any, v, done, rest, rfl, el, hd, fun j h0 h1 => by rw [el, hdn _ _ h0]; exact hv j h0 h1, ha⟩
 ·intro pre x t ⟨v, any⟩ k e ih hv ha
  simp only at hv ha
  obtain ⟨h1, h2⟩ := mid e
  have e2 : l = (done ++ pre) ++ x :: t := by rw [el, e]; simp
  have hok := hl.2
  rw [e2] at hok
  obtain ⟨g1, g2, g3, g4, g5, g6⟩ := Ziw hok
  simp only [Zci, Bool.and_eq_true, decide_eq_true_eq] at g6
  simp only [Z5.l2, hs, h1, hlast, Z5.j1]
  rw [if_pos h2.2, if_pos h2]
  by_cases c : p + 127 < x.lo
  ·rw [if_pos c]
   refine ⟨any, v, done, rest, rfl, el, hd, fun j h0 h1 => ?_, ha⟩
   rw [el, hdn _ _ h0, e, Ze8 (fun y hy => ?_)]
   ·exact hv j h0 h1
   ·rcases List.mem_cons.1 hy with rfl | hy
    ·simp [inB, show ¬ y.lo ≤ p + j by omega]
    ·have := g2 y hy
     simp [inB, show ¬ y.lo ≤ p + j by omega]
  ·rw [if_neg c]
   have hx0 : p ≤ x.hi := by
    cases pre with
    | nil => have := hr x (by rw [e]; rfl); omega
    | cons y pre =>
     have h3 := hr y (by rw [e]; rfl)
     have h4 := g1 y (by simp)
     omega
   obtain ⟨v', f1, f2⟩ := Zt7 (Z5.l2 k l p (done.length : Int)) l done rest p (pre.length : Int) x v hp hp1 el h1 hx0 (by omega) g4 (by omega) g5 g6 (nxt hrl e)
   rw [f1]
   refine ih (v', true) (fun j h0 h1 => ?_) (fun h => by cases h)
   show vg v' j = _
   rw [f2 j h0 h1]
   by_cases c2 : inB (p + j) x = true
   ·have : ∀ y ∈ pre, inB (p + j) y = false := fun y hy => by
     have := g1 y (by simp [hy])
     simp only [inB, Bool.and_eq_true, decide_eq_true_eq] at c2
     simp [inB, show ¬ p + j ≤ y.hi by omega]
    rw [if_pos c2, Ze2 this, Hb, if_pos c2]
   ·rw [if_neg c2, Ze8 (fun y hy => by rw [List.mem_singleton.1 hy]; simpa using c2)]
    exact hv j h0 h1
theorem Zvk (l : List Val) (p : Int) (hl : Zad l) (hp : 0 ≤ p) (hp1 : p ≤ 1113984) : ∀ (rest done : List Val), l = done ++ rest → (∀ x ∈ done, x.hi < p) → Zo8 Zbr l p (Z5.f l p (done.length : Int) Zbr) := by
 have hb : l.length ≤ Z9 := by have := hl.1; unfold Z9; omega
 have key : ∀ (rest done : List Val) (k : Nat), rest.length < k → l = done ++ rest → (∀ x ∈ done, x.hi < p) → Zo8 Zbr l p (Z5.l3 k Zbr l p (done.length : Int)) := by
  intro rest
  induction rest with
  | nil =>
   intro done k hk e hd
   obtain ⟨k, rfl⟩ : ∃ j, k = j + 1 := ⟨k - 1, by simp at hk; omega⟩
   have hlen : l.length = done.length := by rw [e]; simp
   simp only [Z5.l3, Z5.j2]
   rw [if_neg (by omega), if_neg (by decide), if_pos ⟨by omega, by omega, by omega⟩]
   exact Zs3 l done [] p hl hp hp1 e hd (fun x hx => by cases hx)
  | cons x t ih =>
   intro done k hk e hd
   obtain ⟨k, rfl⟩ : ∃ j, k = j + 1 := ⟨k - 1, by simp at hk; omega⟩
   obtain ⟨h1, h2⟩ := mid e
   simp only [Z5.l3, Z5.j2, h1]
   rw [if_pos h2.2, if_pos h2]
   by_cases c : x.hi < p
   ·rw [if_pos (by simpa using c), nxt hb e]
    have := ih (done ++ [x]) k (by simp at hk; omega) (by rw [e]; simp) (fun y hy => by
     rcases List.mem_append.1 hy with hy | hy
     ·exact hd y hy
     ·rw [List.mem_singleton.1 hy]; exact c)
    simpa using this
   ·rw [if_neg (by simpa using c), if_pos ⟨by omega, by omega, by omega⟩]
    exact Zs3 l done (x :: t) p hl hp hp1 e hd (fun y hy => by simp at hy; subst hy; exact c)
 intro rest done e hd
 exact key rest done K0 (ltK (by rw [e] at hb; simp at hb; omega)) e hd
theorem Zul (l : List Val) (p : Int) (hl : Zad l) (hp : 0 ≤ p) (hp1 : p ≤ 1113984) (rest done : List Val) (e : l = done ++ rest) (hd : ∀ x ∈ done, x.hi < p) :
  ∃ any v' done' rest', Yx.f p Zbr none l (done.length : Int) = some (any, v', (done'.length : Int)) ∧ l = done' ++ rest' ∧ (∀ x ∈ done', x.hi < p) ∧ Zgv v' l p ∧ (any = false → v' = Zbr) := by
 obtain ⟨any, v', done', rest', f1, f2, f3, f4, f5⟩ := Zvk l p hl hp hp1 rest done e hd
 refine ⟨any, v', done', rest', ?_, f2, f3, f4, f5⟩
 rw [Yx.f, if_neg (by decide), Yx.j2, f1, Option.bind_some]
 cases any <;> rfl
theorem Zqj (v : Blk) : ∃ w, Xn.f v = some w := by
 unfold Xn.f
 exact Zlg (fun k i (_ : Unit) => Xn.l1 k v i) 128 (fun i _ o => 0 ≤ i → ∃ w, o = some w)
  (fun _ k _ => ⟨true, by simp only [Xn.l1]; rw [if_neg (by decide)]⟩)
  (fun i _ k hi ih h0 => by
   simp only [Xn.l1]
   rw [if_pos hi, if_pos ⟨h0, by omega⟩, if_pos ⟨by omega, by omega⟩]
   by_cases c : vg v i ≠ vg v 0
   ·exact ⟨false, by rw [if_pos c]⟩
   ·rw [if_neg c, w64 (by omega) (by omega)]
    exact ih () (by omega)) 128 0 () K0 (by omega) (by unfold K0; omega) (Int.le_refl _)
structure Zxc where
 flat : List Bool
 blks : List Blk
 seen : List (Blk × Int)
 which : Vector Int 8704
 past : Int
 plain : Int
structure Zv6 (l : List Val) (i : Int) (s : Zxc) : Prop where
 few : (s.blks.length : Int) ≤ i
 flat : s.flat.length = s.blks.length
 seen : ∀ v j, Vo s.seen v = some j → 0 ≤ j ∧ j < (s.blks.length : Int) ∧ rd s.blks j = v
 which : ∀ b : Int, 0 ≤ b → b < i → 0 ≤ vg s.which b ∧ vg s.which b < (s.blks.length : Int) ∧ Zgv (rd s.blks (vg s.which b)) l (128 * b)
 plain : 0 ≤ s.plain → s.plain < (s.blks.length : Int) ∧ rd s.blks s.plain = Zbr
 past : ∃ done rest, l = done ++ rest ∧ s.past = (done.length : Int) ∧ ∀ x ∈ done, x.hi < 128 * i
def Zek (l : List Val) (T : Tab) : Prop := ∀ b : Int, 0 ≤ b → b < 8704 → 0 ≤ vg T.which b ∧ vg T.which b < (T.unlike.length : Int) ∧ Zgv (rd T.unlike (vg T.which b)) l (128 * b)
theorem Zq3 {α : Type} [Inhabited α] {a b : List α} {i : Int} (h0 : 0 ≤ i) (h1 : i < (a.length : Int)) : rd (a ++ b) i = rd a i := by
 unfold rd
 rw [List.getD_eq_getElem?_getD, List.getD_eq_getElem?_getD, List.getElem?_append_left (by omega)]
theorem Zqz {α : Type} [Inhabited α] {a : List α} {x : α} : rd (a ++ [x]) (a.length : Int) = x := by simp [rd]
theorem Zig {l : List Val} {i w : Int} {W : Vector Int 8704} {U U' : List Blk} {v : Blk} (hi0 : 0 ≤ i) (hi1 : i < 8704) (hw0 : 0 ≤ w) (hw1 : w < (U'.length : Int)) (hv : rd U' w = v) (hh : Zgv v l (128 * i))
  (hU : ∀ j : Int, 0 ≤ j → j < (U.length : Int) → j < (U'.length : Int) ∧ rd U' j = rd U j)
  (h : ∀ b : Int, 0 ≤ b → b < i → 0 ≤ vg W b ∧ vg W b < (U.length : Int) ∧ Zgv (rd U (vg W b)) l (128 * b)) :
  ∀ b : Int, 0 ≤ b → b < i + 1 → 0 ≤ vg (Zb3 W i w) b ∧ vg (Zb3 W i w) b < (U'.length : Int) ∧ Zgv (rd U' (vg (Zb3 W i w) b)) l (128 * b) := by
 intro b h0 h1
 rw [Zpb W w hi0 (by omega) h0 (by omega)]
 by_cases c : i = b
 ·rw [if_pos c]
  subst c
  exact ⟨hw0, hw1, by rw [hv]; exact hh⟩
 ·rw [if_neg c]
  obtain ⟨a1, a2, a3⟩ := h b h0 (by omega)
  obtain ⟨b1, b2⟩ := hU _ a1 a2
  exact ⟨a1, b1, by rw [b2]; exact a3⟩
theorem Zt8 (l : List Val) (hl : Zad l) : ∃ T r, Z4.f none l 0 = some (some T, r) ∧ Zek l T := by
 refine Zlg (fun k i (s : Zxc) => Z4.l1 k none l s.flat s.blks Zbr s.seen s.which s.past s.plain i) 8704
  (fun i s o => 0 ≤ i → Zv6 l i s → ∃ T r, o = some (some T, r) ∧ Zek l T) ?_ ?_ 8704 0 ⟨[], [], [], Vector.replicate 8704 0, 0, -1⟩ K0 (by omega) (by unfold K0; omega) (Int.le_refl _) ?_
 ·intro s k _ h
  refine ⟨⟨s.which, s.blks, s.flat⟩, s.past, ?_, h.which⟩
  show Z4.l1 (k + 1) none l s.flat s.blks Zbr s.seen s.which s.past s.plain 8704 = _
  rw [Z4.l1, if_neg (by decide)]
 ·intro i s k hi ih h0 h
  obtain ⟨done, rest, e1, e2, e3⟩ := h.past
  have hpi : i32.wrap (i64.wrap (i * 128)) = 128 * i := by rw [w64 (by omega) (by omega), w32 (by omega) (by omega)]; omega
  obtain ⟨any, v', done', rest', f1, f2, f3, f4, f5⟩ := Zul l (128 * i) hl (by omega) (by omega) rest done e1 e3
  have hpast : ∃ d r, l = d ++ r ∧ (done'.length : Int) = (d.length : Int) ∧ ∀ x ∈ d, x.hi < 128 * (i + 1) := ⟨done', rest', f2, rfl, fun x hx => by have := f3 x hx; omega⟩
  have hfew := h.few
  have hmost : ∀ n : Nat, (n : Int) ≤ i → n + 1 ≤ most := fun n hn => by unfold most; omega
  have hbl : (Vector.replicate 128 0 : Vector Int 128) = Zbr := rfl
  show ∃ T r, Z4.l1 (k + 1) none l s.flat s.blks Zbr s.seen s.which s.past s.plain i = some (some T, r) ∧ Zek l T
  rw [Z4.l1, if_pos hi, hpi, e2, f1, Option.bind_some]
  have fin : ∀ (F : List Bool) (U : List Blk) (S : List (Blk × Int)) (w : Int), (U.length : Int) ≤ i + 1 → F.length = U.length → (∀ v j, Vo S v = some j → 0 ≤ j ∧ j < (U.length : Int) ∧ rd U j = v) →
    (∀ j : Int, 0 ≤ j → j < (s.blks.length : Int) → j < (U.length : Int) ∧ rd U j = rd s.blks j) → 0 ≤ w → w < (U.length : Int) → rd U w = v' →
    ∃ T r, Z4.j2 (Z4.l1 k none l) s.which s.plain i (any, v', (done'.length : Int)) F U S w = some (some T, r) ∧ Zek l T := by
   intro F U S w a1 a2 a3 a4 a5 a6 a7
   rw [Z4.j2, if_pos ⟨h0, by omega⟩]
   have hwhich := Zig h0 hi a5 a6 a7 f4 a4 h.which
   cases any with
   | true =>
    rw [if_pos rfl, Z4.j1, w64 (x := i + 1) (by omega) (by omega), hbl]
    exact ih ⟨F, U, S, Zb3 s.which i w, (done'.length : Int), s.plain⟩ (by omega) ⟨a1, a2, a3, hwhich, fun hp => by obtain ⟨c1, c2⟩ := h.plain hp; obtain ⟨d1, d2⟩ := a4 _ hp c1; exact ⟨d1, by rw [d2]; exact c2⟩, hpast⟩
   | false =>
    have hv := f5 rfl
    rw [if_neg (by simp), Z4.j1, w64 (x := i + 1) (by omega) (by omega), w64 (x := w) (by omega) (by omega)]
    show ∃ T r, Z4.l1 k none l F U v' S (Zb3 s.which i w) (done'.length : Int) w (i + 1) = some (some T, r) ∧ Zek l T
    rw [hv]
    exact ih ⟨F, U, S, Zb3 s.which i w, (done'.length : Int), w⟩ (by omega) ⟨a1, a2, a3, hwhich, fun _ => ⟨a6, by rw [a7, hv]⟩, hpast⟩
  have look : ∃ T r, Z4.j3 (Z4.l1 k none l) s.flat s.blks s.seen s.which s.plain i (any, v', (done'.length : Int)) false = some (some T, r) ∧ Zek l T := by
   rw [Z4.j3, if_neg (by decide)]
   cases em : Vo s.seen v' with
   | none =>
    obtain ⟨w, hw⟩ := Zqj v'
    dsimp only
    rw [if_pos (by rfl), if_pos (show s.blks.length + [v'].length ≤ most from hmost _ hfew), hw, Option.bind_some, if_pos (show s.flat.length + [w].length ≤ most from hmost _ (by rw [h.flat]; exact hfew)), w16 (by omega) (by omega)]
    refine fin _ _ _ _ (by simp; omega) (by simp [h.flat]) (fun v j ej => ?_) (fun j j0 j1 => ⟨by simp; omega, Zq3 j0 j1⟩) (by omega) (by simp; omega) Zqz
    rw [Zc0] at ej
    by_cases c : v = v'
    ·rw [if_pos c] at ej
     have : (s.blks.length : Int) = j := by simpa using ej
     subst this
     exact ⟨by omega, by simp; omega, by rw [Zqz, c]⟩
    ·rw [if_neg c] at ej
     obtain ⟨c1, c2, c3⟩ := h.seen v j ej
     exact ⟨c1, by simp; omega, by rw [Zq3 c1 c2]; exact c3⟩
   | some w =>
    obtain ⟨c1, c2, c3⟩ := h.seen v' w em
    rw [if_neg (by simp)]
    exact fin _ _ _ _ (by omega) h.flat h.seen (fun j j0 j1 => ⟨j1, rfl⟩) c1 c2 c3
  cases any with
  | true => rw [if_neg (by simp)]; exact look
  | false =>
   rw [if_pos (by rfl)]
   by_cases c : 0 ≤ s.plain
   ·obtain ⟨c1, c2⟩ := h.plain c
    have hv := f5 rfl
    rw [Z4.j3, if_pos (by simpa using c), if_pos ⟨h0, by omega⟩, Z4.j1, w64 (x := i + 1) (by omega) (by omega), w16 c (by omega)]
    show ∃ T r, Z4.l1 k none l s.flat s.blks v' s.seen (Zb3 s.which i s.plain) (done'.length : Int) s.plain (i + 1) = some (some T, r) ∧ Zek l T
    rw [hv]
    rw [hv] at f4
    exact ih ⟨s.flat, s.blks, s.seen, Zb3 s.which i s.plain, (done'.length : Int), s.plain⟩ (by omega) ⟨by show (s.blks.length : Int) ≤ i + 1; omega, h.flat, h.seen, Zig h0 hi c c1 c2 f4 (fun j j0 j1 => ⟨j1, rfl⟩) h.which, h.plain, hpast⟩
   ·rw [show decide (0 ≤ s.plain) = false by simpa using c]; exact look
 ·exact ⟨by simp, rfl, fun v j e => (by cases e), fun b h0 h1 => (by omega), fun h => absurd h (by decide), [], l, rfl, rfl, fun x hx => (by cases hx)⟩
theorem Zr3 (l : List Val) (hl : Zad l) : ∃ T, Vy.f l = some (some T, 0, 0) ∧ Zek l T := by
 obtain ⟨T, r, h1, h2⟩ := Zt8 l hl
 refine ⟨T, ?_, h2⟩
 rw [Vy.f, V9.f, Zii hl, Option.bind_some, if_neg (by decide), h1]
 rfl
theorem Zg0 {l : List Val} (h : ∀ x ∈ l, 0 ≤ x.n ∧ x.n ≤ 65535) (p : Int) : 0 ≤ Hb l p ∧ Hb l p ≤ 65535 := by
 induction l with
 | nil => simp [Hb]
 | cons x t ih =>
  unfold Hb
  split
  ·exact h x (List.mem_cons_self ..)
  ·exact ih fun y hy => h y (List.mem_cons_of_mem _ hy)
theorem Zug {l : List Val} (hl : Zad l) {T : Tab} (hT : Zek l T) (p : Int) (h0 : 0 ≤ p) (h1 : p ≤ 1114111) : Z1.f (some T) p = some (Hb l p) := by
 have hq : p.tdiv 128 = p / 128 := Int.tdiv_eq_ediv_of_nonneg h0
 have hm : p.tmod 128 = p % 128 := Int.tmod_eq_emod_of_nonneg h0
 obtain ⟨a1, a2, a3⟩ := hT (p / 128) (by omega) (by omega)
 have hv := a3 (p % 128) (by omega) (by omega)
 rw [show 128 * (p / 128) + p % 128 = p by omega] at hv
 have hr := Zg0 (l := l) (fun x hx => by
  have := (Zbg hl.2 x hx).2.2.2
  simpa [Zci] using this) p
 simp only [Z1.f, Z1.j1, hq, hm]
 rw [if_neg (by simp), if_neg (by omega), if_neg (by simp; omega), if_pos (by rfl), w32 (by omega) (by omega), if_pos ⟨by omega, by omega⟩]
 simp only [Option.getD_some]
 rw [if_pos ⟨a1, a2⟩, if_pos ⟨by omega, by omega⟩, hv, w64 (by omega) (by omega)]
theorem Zdj (T : Option Tab) (p : Int) (h : p < 0 ∨ 1114111 < p) : Z1.f T p = some 0 := by
 simp only [Z1.f, Z1.j1]
 split
 ·rfl
 ·split
  ·rfl
  ·rw [if_pos (by simp; omega)]
end Go.Proofs.YthoicbafdanmkaaGreatDoor
