/- Texts of this repo, merged for the claim: TP1, TP2, TP3. -/
import Derived.Test.YthoicbafdanmkaaGreatDoorWhole1
import Derived.Test.YthoicbafdanmkaaGreatDoorWhole2
/- Written by this repo's gen.py: for each Go function a Lean function with the same answers and the walk that shows it. -/
namespace Go.Proofs.YthoicbafdanmkaaGreatDoor
open Go.IntKind (i8 i16 i32 i64 u8 u16 u32 u64)
open Go.RowKit
set_option maxRecDepth 100000
set_option maxHeartbeats 4000000
variable {w0 w : World} {ρ : Hp} {Γ : List Q5}
set_option linter.unusedVariables false
def Qc.j1 (aa : Bool) : Option Bool := some aa
def Qc.f (x0 : Chs) : Option Bool := if x0.lo = x0.hi then ((Qu.f ([x0.lo]) 1 1).bind fun aq => (if aq = true then ((Qu.f x0.is_ 1 2).bind fun ar => (if ar = true then ((Kl.f x0).bind fun au => ((V1.f au).bind fun ah => (Qc.j1 ah))) else (Qc.j1 false))) else (Qc.j1 false))) else (Qc.j1 false)
theorem Qc.c {pb0 : Nat} (hs : St w0 ρ ((.box pb0 133 ([.func (.func 88) #[] #[]])) :: Γ) w) {c0 : List Value} {x0 : Chs} (h0 : Ks.R ρ c0 x0) {r : Bool} (H : Qc.f x0 = some r) : Zn Tryz.prog 101 [.agg c0.toArray, .pointer (some ⟨pb0, 0, none⟩)] w (fun v w' => v = .bool r ∧ St w0 ρ ((.box pb0 133 ([.func (.func 88) #[] #[]])) :: Γ) w') := by
 rw [Qc.f] at H
 refine Et Tryz.func101 Tryz.ntmps101 rfl ?_
 have az := h0
 obtain ⟨ai, rfl, a0⟩ := az
 refine Wr fun bf a1 => Vg (cs := [.int .i32 x0.lo, .int .i32 x0.hi, ai]) hs rfl rfl (fun av w hs => As rfl <| Ox a1 <| Yu fun a2 a3 af => ?_)
 have ag : ∀ (aa : Bool) (ac : Hp) (w : World), Qc.j1 aa = some r → Le ρ ac → St w0 ac ((.box av 110 ([.int .i32 x0.lo, .int .i32 x0.hi, ai])) :: (.box pb0 133 ([.func (.func 88) #[] #[]])) :: Γ) w → a2 [(3, .bool aa)] w := by
  intro aa ac w H ae hs
  rw [Qc.j1] at H
  refine a3 _ _ <| Zk ?_
  obtain rfl := Zz H
  exact r1 rfl ⟨rfl, ((hs.sub (ssk (ssc ssr))).less ae)⟩
 refine Qn 23 [0, 1, 0, 4, 10, 16, 32, 96, 160, 288, 544, 1536, 2048, 6144, 10240, 18432, 49152, 65536, 65536, 327680, 720896, 1114112, 4194303] [4194300, 4194284, 4194291, 4194275, 4194240, 4192256, 4194048, 4193792, 4193280, 4190208, 4190208, 4128768, 4177920, 4161536, 4063232, 4063232, 0, 2883584, 3276800, 2228224, 0, 0, 0] [0, 1, 0, 4, 15, 31, 63, 127, 255, 511, 1023, 2047, 4095, 8191, 16383, 32767, 65535, 131071, 131071, 393215, 1048575, 2097151, 4194303] [8, 9, 10, 11, 12, 13, 14, 15, 16, 17, 18, 19, 20, 21, 22] (fun w => St w0 ρ ((.box av 110 ([.int .i32 x0.lo, .int .i32 x0.hi, ai])) :: (.box pb0 133 ([.func (.func 88) #[] #[]])) :: Γ) w) Vl (by kernel_rfl) (fun sh => ?_)
 have hs := hs.drew
 refine Fp 0 sh rfl (fun w => Zp Zbu rfl) <| Fy 1 sh rfl hs (fun w hs => Yb 0 Xm hs rfl rfl rfl) <| Fp 2 sh rfl (fun w => Zp Zhe rfl) <| Fy 3 sh rfl hs (fun w hs => Yb 0 Xm hs rfl rfl rfl) <| Fp 4 sh rfl (fun w => Zbn rfl rfl) <| Fm 5 sh rfl <| Zav (dj := 9) rfl (fun aj => ?_) (fun aj => ?_)
 rw [if_pos aj] at H
 refine Fp 6 sh rfl (fun w => Zp Zbu rfl) <| Fy 7 sh rfl hs (fun w hs => Yb 0 Xm hs rfl rfl rfl) <| F1 8 sh rfl (fun bg a4 => Oe rfl <| Ku (xs := [.tmp 11]) (cs := [.int .i32 x0.lo]) Q7 hs rfl rfl rfl (by decide) (by decide) rfl (Yc rfl Kb) (Zv rfl Xy) (fun bh w hs => ?_))
 have a5 : Zm (Rep.int .i32) ρ ([.int .i32 x0.lo]) [x0.lo] := Zm.cons (c := [.int .i32 x0.lo]) (x := x0.lo) rfl (Zm.nil _ _)
 refine Zd (a4 _ _ (fun h _ => absurd h (by decide)) <| Ke sh [9, 10, 11, 12, 13, 14, 15, 16, 17, 18, 19, 20, 21, 22] hs (by kernel_rfl) ?_)
 have aw := hs
 obtain ⟨ax, ab, hs, a6⟩ := hs.rowEnd (j := 0) a5 rfl
 refine F1 9 sh rfl (fun bi a7 => Oe rfl ?_)
 obtain ⟨aq, ak, H⟩ := bnd H
 refine Oc rfl (Qu.c hs a6 ak) (fun bj w hpost => ?_)
 obtain ⟨rfl, hs⟩ := hpost
 refine Zd (a7 _ _ (fun h _ => absurd h (by decide)) <| Ke sh [14, 15, 16, 17, 18, 19, 20, 21, 22] hs (by kernel_rfl) <| Fp 10 sh rfl (fun w => J7 rfl rfl) <| Fm 11 sh rfl <| Zfw (dj := 15) rfl (fun al => ?_) (fun al => ?_))
 rw [if_pos al] at H
 refine Fp 12 sh rfl (fun w => Zp H4 rfl) <| Fy 13 sh rfl hs (fun w hs => Yb 0 Za8 hs rfl rfl rfl) <| F1 14 sh rfl (fun bk a8 => Oe rfl ?_)
 obtain ⟨ar, am, H⟩ := bnd H
 refine Oc rfl (Qu.c hs (a0.mono ab) am) (fun bl w hpost => ?_)
 obtain ⟨rfl, hs⟩ := hpost
 refine Zd (a8 _ _ (fun h _ => absurd h (by decide)) <| Ke sh [] hs (by kernel_rfl) <| Fp 15 sh rfl (fun w => J7 rfl rfl) <| Fm 16 sh rfl <| Zfw (dj := 20) rfl (fun an => ?_) (fun an => ?_))
 rw [if_pos an] at H
 refine Fy 17 sh rfl hs (fun w hs => Yb 1 Zej hs rfl rfl rfl) <| Fy 18 sh rfl hs (fun w hs => Xk (i := 0) Zbq Zag hs rfl rfl rfl rfl) <| F1 19 sh rfl (fun bm a9 => Oe rfl ?_)
 obtain ⟨au, ao, H⟩ := bnd H
 refine Oc rfl (Kl.c hs (Ks.mono ab h0) ao) (fun bn w hpost => ?_)
 obtain ⟨ba, bb, rfl, ad, hs, ay⟩ := hpost
 have bc := ab.trans ad
 have bd := ay
 obtain rfl := bd
 refine Zd (a9 _ _ (fun _ _ => (hs.less ad)) <| F1 20 sh rfl (fun bo be => Oe rfl ?_))
 obtain ⟨ah, ap, H⟩ := bnd H
 refine Xo rfl rfl rfl (V1.c hs ay ap) (fun bp w hpost => ?_)
 obtain ⟨rfl, hs⟩ := hpost
 refine Zd (be _ _ (fun _ _ => (hs.less ad)) <| Fp 21 sh rfl (fun w => J7 rfl rfl) <| Fp 22 sh rfl (fun w => Xv rfl) <| FE sh (af _ _ _ (S1 rfl) (ag ah ba _ H bc hs)))
 rw [if_neg (bft an)] at H
 refine Fn 17 sh rfl <| Fn 18 sh rfl <| Fn 19 sh rfl <| Fn 20 sh rfl <| Fp 21 sh rfl (fun w => Qr rfl rfl) <| Fp 22 sh rfl (fun w => Xv rfl) <| FE sh (af _ _ _ (S1 rfl) (ag false ax _ H ab hs))
 rw [if_neg (bft al)] at H
 refine Fn 12 sh rfl <| Fn 13 sh rfl <| Fn 14 sh rfl <| Fp 15 sh rfl (fun w => Qr rfl rfl) <| Fm 16 sh rfl <| Fn 17 sh rfl <| Fn 18 sh rfl <| Fn 19 sh rfl <| Fn 20 sh rfl <| Fp 21 sh rfl (fun w => Qr rfl rfl) <| Fp 22 sh rfl (fun w => Xv rfl) <| FE sh (af _ _ _ (S1 rfl) (ag false ax _ H ab hs))
 rw [if_neg aj] at H
 refine Fn 6 sh rfl <| Fn 7 sh rfl <| Fn 8 sh rfl <| Fn 9 sh rfl <| Fp 10 sh rfl (fun w => Qr rfl rfl) <| Fm 11 sh rfl <| Fn 12 sh rfl <| Fn 13 sh rfl <| Fn 14 sh rfl <| Fp 15 sh rfl (fun w => Qr rfl rfl) <| Fm 16 sh rfl <| Fn 17 sh rfl <| Fn 18 sh rfl <| Fn 19 sh rfl ?_
 refine Fn 20 sh rfl <| Fp 21 sh rfl (fun w => Qr rfl rfl) <| Fp 22 sh rfl (fun w => Xv rfl) <| FE sh (af _ _ _ (S1 rfl) (ag false ρ _ H (Le.rfl' _) hs))

def Zs.j1 (ak : Int → Int → Option Int) (aa : Int) (ae : Spn) (ab : Bool) : Option Int := if ab = true then (some aa) else (ak ae.hi (i64.wrap (aa + 1)))
def Zs.l1 : Nat → List Chs → Int → Int → Option Int
  | 0, _, _, _ => none
  | ac + 1, x0, ad, aa => if aa < (x0.length : Int) then (if (0 : Int) ≤ aa ∧ aa < (x0.length : Int) then ((Kl.f (rd x0 aa)).bind fun ae => (if ae.lo ≤ ad then (Zs.j1 (Zs.l1 ac x0) aa ae true) else (if ae.hi < ae.lo then (Zs.j1 (Zs.l1 ac x0) aa ae true) else (if 1114111 < ae.hi then (Zs.j1 (Zs.l1 ac x0) aa ae true) else ((Qc.f (rd x0 aa)).bind fun al => (Zs.j1 (Zs.l1 ac x0) aa ae (!al))))))) else none) else (some (-1))
def Zs.f (x0 : List Chs) : Option Int := if 65536 < (x0.length : Int) then (some 65536) else (Zs.l1 K0 x0 (-1) 0)
theorem Zs.c {pb0 : Nat} (hs : St w0 ρ ((.box pb0 133 ([.func (.func 88) #[] #[]])) :: Γ) w) {v0 : Value} {x0 : List Chs} (h0 : SlR Ks ρ v0 x0) {r : Int} (H : Zs.f x0 = some r) : Zn Tryz.prog 100 [v0, .func (.func 66) #[] #[], .func (.func 101) #[] #[.pointer (some ⟨pb0, 0, none⟩)]] w (fun v w' => v = .int .i64 r ∧ St w0 ρ ((.box pb0 133 ([.func (.func 88) #[] #[]])) :: Γ) w') := by
 rw [Zs.f] at H
 refine Et Tryz.func100 Tryz.ntmps100 rfl <| Wr fun bv a8 => As rfl <| Ox a8 <| Zh fun bw a9 => Wr fun bx ba => Mv rfl <| O_y rfl (Yv Ze5 h0 rfl) <| Ogt rfl <| Ox ba <| Y7 rfl (fun aw => ?_) (fun aw => ?_)
 rw [if_pos aw] at H
 refine Wr fun bz bb => As rfl <| Ox bb <| Zk ?_
 obtain rfl := Zz H
 exact r1 rfl ⟨rfl, hs⟩
 rw [if_neg aw] at H
 refine Wx a9 <| Wr fun b0 bc => As rfl <| Ox bc <| Zh fun b1 bd => Wr fun b2 be => Mv rfl <| O_y rfl (Yv Ze5 h0 rfl) <| Mv rfl <| Ox be <| Zj fun b3 bf b4 => Y9 (σ := Nat × Int × Int × Hp) (fun (ac, ad, aa, ah) => [(1, .func (.func 66) #[] #[]), (2, .func (.func 101) #[] #[.pointer (some ⟨pb0, 0, none⟩)]), (7, .int .i32 ad), (14, v0), (15, .int .i64 (x0.length : Int)), (16, .int .i64 aa)]) (fun (ac, ad, aa, ah) w => Zs.l1 ac x0 ad aa = some r ∧ Le ρ ah ∧ St w0 ah ((.box pb0 133 ([.func (.func 88) #[] #[]])) :: Γ) w) (fun s => s.1) (K0, (-1), 0, ρ) sbn (Ai H (Ai (Le.rfl' _) hs)) ?_
 rintro ⟨ac, ad, aa, ah⟩ w b5 ⟨H, af, hs⟩ am
 show W _ _ _ _ _ _ [(1, .func (.func 66) #[] #[]), (2, .func (.func 101) #[] #[.pointer (some ⟨pb0, 0, none⟩)]), (7, .int .i32 ad), (14, v0), (15, .int .i64 (x0.length : Int)), (16, .int .i64 aa)] w
 cases ac with
 | zero => rw [Zs.l1] at H; cases H
 | succ ac =>
 rw [Zs.l1] at H
 refine Wr fun b6 bg => Ols rfl <| Ox bg <| Zh fun b7 bh => Y7 rfl (fun ax => ?_) (fun ax => ?_)
 rw [if_pos ax] at H
 refine Wx bh <| Zh fun b8 bi => Zj fun b9 ca cb => Wr fun cc bj => Mv rfl ?_
 obtain ⟨a7, H⟩ := gd H
 obtain ⟨cd, ce, bk, bl⟩ := (h0.mono af).ix Zdo a7.1 a7.2
 obtain ⟨_, ⟨bm, rfl, ay⟩, bn⟩ := bk
 refine O_y rfl (bl rfl rfl) <| O_y rfl (Qv Zbq Zag rfl rfl (fun j u hu => hs.see (bn j u hu))) <| Y6 Zgz hs rfl (fun bo w hs => As rfl <| Ye (i := 0) Zag hs rfl rfl rfl rfl rfl (Zb rfl (Zb rfl (Zb ay.one Yj))) (fun w hs => Ox bj <| Wr fun cf bp => Mv rfl <| O_y rfl (Xk (i := 0) Zbq Zag hs rfl rfl rfl rfl) ?_))
 obtain ⟨ae, az, H⟩ := bnd H
 refine Xo rfl rfl rfl (Kl.c hs ⟨_, rfl, ay⟩ az) (fun cg w hpost => ?_)
 obtain ⟨ar, bq, rfl, ag, hs, a0⟩ := hpost
 have a1 := a0
 obtain rfl := a1
 refine Y6 Zay hs rfl (fun au w hs => Ye (i := 0) Hj hs rfl rfl rfl rfl rfl (Zb rfl (Zb rfl Yj)) (fun w hs => Ox bp <| W.weak [(1, _), (2, _), (7, _), (8, _), (9, _), (10, _), (14, _), (15, _), (16, _)] sbn ?_))
 refine Zh fun br a2 => Yu fun a3 a4 ai => ?_
 have aj : ∀ (ab : Bool) (w : World), Zs.j1 (Zs.l1 ac x0) aa ae ab = some r → St w0 ar ((.box au 129 ([.int .i32 ae.lo, .int .i32 ae.hi])) :: (.box bo 110 ([.int .i32 ((rd x0 aa).lo), .int .i32 ((rd x0 aa).hi), bm])) :: (.box pb0 133 ([.func (.func 88) #[] #[]])) :: Γ) w → a3 [(1, .func (.func 66) #[] #[]), (2, .func (.func 101) #[] #[.pointer (some ⟨pb0, 0, none⟩)]), (8, .int .i64 aa), (10, .pointer (some ⟨au, 0, none⟩)), (14, v0), (15, .int .i64 (x0.length : Int)), (16, .int .i64 aa), (45, .bool ab)] w := by
  intro ab w H hs
  rw [Zs.j1] at H
  refine a4 _ _ <| Xg rfl (fun an => ?_) (fun an => ?_)
  rw [if_pos an] at H
  refine Wr fun bs a5 => Mv rfl <| As rfl <| Ox a5 <| Zk ?_
  obtain rfl := Zz H
  exact r1 rfl ⟨rfl, ((hs.sub (ssk (ssk (ssc ssr)))).less (af.trans ag))⟩
  rw [if_neg (bft an)] at H
  refine Wx a2 <| Zc <| Ofd Vr rfl <| Obx 0 Xm hs rfl <| As rfl <| Ox bi <| Zc <| Oad rfl <| Mv rfl <| Zd (am (ac, ae.hi, (i64.wrap (aa + 1)), ar) _ _ sbn (Ai H (Ai (af.trans ag) (hs.sub (ssk (ssk (ssc ssr)))))) (Nat.lt_succ_self _))
 refine Zc <| Ofd Uw rfl <| Obx 0 Xm hs rfl <| Mv rfl <| Ole rfl <| Mv rfl <| X6 (dj := 28) rfl (fun ao => ?_) (fun ao => ?_)
 rw [if_pos ao] at H
 refine On rfl <| On rfl <| On rfl <| On rfl <| On rfl <| Opk rfl <| Mv rfl <| On rfl <| On rfl <| On rfl <| Opk rfl <| Mv rfl <| On rfl <| On rfl ?_
 refine On rfl <| On rfl <| Opk rfl <| Zd (ai _ _ _ sbn (aj true _ H hs))
 rw [if_neg ao] at H
 refine Oe rfl <| Ofd Vr rfl <| Oe rfl <| Obx 0 Xm hs rfl <| Oe rfl <| Ofd Uw rfl <| Oe rfl <| Obx 0 Xm hs rfl <| Oe rfl <| Ols rfl <| Opk rfl <| Mv rfl <| X6 (dj := 35) rfl (fun ap => ?_) (fun ap => ?_)
 rw [if_pos ap] at H
 refine On rfl <| On rfl <| On rfl <| Opk rfl <| Mv rfl <| On rfl <| On rfl <| On rfl <| On rfl <| Opk rfl <| Zd (ai _ _ _ sbn (aj true _ H hs))
 rw [if_neg ap] at H
 refine Oe rfl <| Ofd Vr rfl <| Oe rfl <| Obx 0 Xm hs rfl <| Oe rfl <| Ogt rfl <| Opk rfl <| Mv rfl <| X6 (dj := 40) rfl (fun aq => ?_) (fun aq => ?_)
 rw [if_pos aq] at H
 refine On rfl <| On rfl <| On rfl <| On rfl <| Opk rfl <| Zd (ai _ _ _ sbn (aj true _ H hs))
 rw [if_neg aq] at H
 refine Oe rfl <| Mv rfl <| Oe rfl <| O_y rfl (Xk (i := 1) Zbq Zag hs rfl rfl rfl rfl) <| Oe rfl ?_
 have hs := hs.front 2 rfl
 obtain ⟨al, av, H⟩ := bnd H
 refine Xo rfl rfl rfl (Qc.c hs ⟨_, rfl, (ay.mono ag)⟩ av) (fun bt w hpost => ?_)
 obtain ⟨rfl, hs⟩ := hpost
 have hs := hs.sink 2
 refine Oe rfl <| Ont rfl <| Opk rfl <| Zd (ai _ _ _ sbn (aj (!al) _ H hs))
 rw [if_neg ax] at H
 refine Y4 (bf _ _ (bd _ _ <| Wr fun bu a6 => As rfl <| Ox a6 <| Zk ?_))
 obtain rfl := Zz H
 exact r1 rfl ⟨rfl, (hs.less af)⟩

def Uz.f (y0_0 : List ByteArray) (y0_1 : List Val) (y0_2 : List Chs) (y0_3 : List Val) (y0_4 : List Chs) (y0_5 : List Spn) (y0_6 y0_7 : List Val) (y0_8 : List Spn) (y0_9 : List Val) (y0_10 : List Chs) : Option Int := (Zs.f y0_4).bind fun ab => (some ab)
theorem Uz.c {pb0 : Nat} {w0_0 : Value} {y0_0 : List ByteArray} {w0_1 : Value} {y0_1 : List Val} {w0_2 : Value} {y0_2 : List Chs} {w0_3 : Value} {y0_3 : List Val} {w0_4 : Value} {y0_4 : List Chs} {w0_5 : Value} {y0_5 : List Spn} {w0_6 : Value} {y0_6 : List Val} {w0_7 : Value} {y0_7 : List Val} {w0_8 : Value} {y0_8 : List Spn} {w0_9 : Value} {y0_9 : List Val} {w0_10 : Value} {y0_10 : List Chs} {pb1 : Nat} (hs : St w0 ρ ((.box pb0 27 ([w0_0, w0_1, w0_2, w0_3, w0_4, w0_5, w0_6, w0_7, w0_8, w0_9, w0_10])) :: (.box pb1 133 ([.func (.func 88) #[] #[]])) :: Γ) w) (g0_0 : SlR Rep.str ρ w0_0 y0_0) (g0_1 : SlR X9 ρ w0_1 y0_1) (g0_2 : SlR Ks ρ w0_2 y0_2) (g0_3 : SlR X9 ρ w0_3 y0_3) (g0_4 : SlR Ks ρ w0_4 y0_4) (g0_5 : SlR Kd ρ w0_5 y0_5) (g0_6 : SlR X9 ρ w0_6 y0_6) (g0_7 : SlR X9 ρ w0_7 y0_7) (g0_8 : SlR Kd ρ w0_8 y0_8) (g0_9 : SlR X9 ρ w0_9 y0_9) (g0_10 : SlR Ks ρ w0_10 y0_10) {r : Int} (H : Uz.f y0_0 y0_1 y0_2 y0_3 y0_4 y0_5 y0_6 y0_7 y0_8 y0_9 y0_10 = some r) : Zn Tryz.prog 99 [.pointer (some ⟨pb0, 0, none⟩), .pointer (some ⟨pb1, 0, none⟩)] w (fun v w' => v = .int .i64 r ∧ St w0 ρ ((.box pb0 27 ([w0_0, w0_1, w0_2, w0_3, w0_4, w0_5, w0_6, w0_7, w0_8, w0_9, w0_10])) :: (.box pb1 133 ([.func (.func 88) #[] #[]])) :: Γ) w') := by
 rw [Uz.f] at H
 refine Et Tryz.func99 Tryz.ntmps99 rfl <| Wr fun ae ac => As rfl <| Ox ac <| Wr fun af ad => Ofd Zeq rfl <| Obx 0 Zdw hs rfl <| O_y rfl (Ux rfl) ?_
 have hs := hs.front 1 rfl
 obtain ⟨ab, aa, H⟩ := bnd H
 refine Oc rfl (Zs.c hs g0_4 aa) (fun ag w hpost => ?_)
 obtain ⟨rfl, hs⟩ := hpost
 have hs := hs.sink 1
 refine As rfl <| Ox ad <| Zk ?_
 obtain rfl := Zz H
 exact r1 rfl ⟨rfl, hs⟩

def Hg.f (x0 : Spn) : Option Spn := some x0
theorem Hg.c (hs : St w0 ρ (Γ) w) {c0 : List Value} {x0 : Spn} (h0 : Kd.R ρ c0 x0) {r : Spn} (H : Hg.f x0 = some r) : Zn Tryz.prog 104 [.agg c0.toArray] w (fun v w' => ∃ (ρ' : Hp) (cs0 : List Value), v = .agg cs0.toArray ∧ Le ρ ρ' ∧ St w0 ρ' (Γ) w' ∧ Kd.R ρ' cs0 r) := by
 rw [Hg.f] at H
 refine Et Tryz.func104 Tryz.ntmps104 rfl ?_
 have aa := h0
 obtain rfl := aa
 refine Wr fun ad ab => Vg (cs := [.int .i32 x0.lo, .int .i32 x0.hi]) hs rfl rfl (fun ae w hs => Y6 Zay hs rfl (fun af w hs => Ox ab <| Wr fun ag ac => O_y rfl (Xk (i := 1) Za7 Hj hs rfl rfl rfl rfl) <| Ye (i := 0) Hj hs rfl rfl rfl rfl rfl (Zb rfl (Zb rfl Yj)) (fun w hs => Ox ac <| Zk ?_)))
 obtain rfl := Zz H
 exact Zit (i := 0) rfl rfl Za7 Hj hs rfl rfl ⟨_, _, rfl, Le.rfl' _, (hs.sub (ssk (ssk ssr))), h0⟩

def Zy.j1 (ak : Int → Int → Option Int) (aa : Int) (ae : Spn) (ab : Bool) : Option Int := if ab = true then (some aa) else (ak ae.hi (i64.wrap (aa + 1)))
def Zy.l1 : Nat → List Spn → Int → Int → Option Int
  | 0, _, _, _ => none
  | ac + 1, x0, ad, aa => if aa < (x0.length : Int) then (if (0 : Int) ≤ aa ∧ aa < (x0.length : Int) then ((Hg.f (rd x0 aa)).bind fun ae => (if ae.lo ≤ ad then (Zy.j1 (Zy.l1 ac x0) aa ae true) else (if ae.hi < ae.lo then (Zy.j1 (Zy.l1 ac x0) aa ae true) else (if 1114111 < ae.hi then (Zy.j1 (Zy.l1 ac x0) aa ae true) else ((V1.f (rd x0 aa)).bind fun al => (Zy.j1 (Zy.l1 ac x0) aa ae (!al))))))) else none) else (some (-1))
def Zy.f (x0 : List Spn) : Option Int := if 65536 < (x0.length : Int) then (some 65536) else (Zy.l1 K0 x0 (-1) 0)
theorem Zy.c (hs : St w0 ρ (Γ) w) {v0 : Value} {x0 : List Spn} (h0 : SlR Kd ρ v0 x0) {r : Int} (H : Zy.f x0 = some r) : Zn Tryz.prog 103 [v0, .func (.func 104) #[] #[], .func (.func 88) #[] #[]] w (fun v w' => v = .int .i64 r ∧ St w0 ρ Γ w') := by
 rw [Zy.f] at H
 refine Et Tryz.func103 Tryz.ntmps103 rfl <| Wr fun bt a6 => As rfl <| Ox a6 <| Zh fun bu a7 => Wr fun bv a8 => Mv rfl <| O_y rfl (Yv Zjf h0 rfl) <| Ogt rfl <| Ox a8 <| Y7 rfl (fun av => ?_) (fun av => ?_)
 rw [if_pos av] at H
 refine Wr fun bw a9 => As rfl <| Ox a9 <| Zk ?_
 obtain rfl := Zz H
 exact r1 rfl ⟨rfl, hs⟩
 rw [if_neg av] at H
 refine Wx a7 <| Wr fun bx ba => As rfl <| Ox ba <| Zh fun bz bb => Wr fun b0 bc => Mv rfl <| O_y rfl (Yv Zjf h0 rfl) <| Mv rfl <| Ox bc <| Zj fun b1 bd b2 => Y9 (σ := Nat × Int × Int × Hp) (fun (ac, ad, aa, ag) => [(1, .func (.func 104) #[] #[]), (2, .func (.func 88) #[] #[]), (7, .int .i32 ad), (14, v0), (15, .int .i64 (x0.length : Int)), (16, .int .i64 aa)]) (fun (ac, ad, aa, ag) w => Zy.l1 ac x0 ad aa = some r ∧ Le ρ ag ∧ St w0 ag (Γ) w) (fun s => s.1) (K0, (-1), 0, ρ) sbn (Ai H (Ai (Le.rfl' _) hs)) ?_
 rintro ⟨ac, ad, aa, ag⟩ w b3 ⟨H, af, hs⟩ am
 show W _ _ _ _ _ _ [(1, .func (.func 104) #[] #[]), (2, .func (.func 88) #[] #[]), (7, .int .i32 ad), (14, v0), (15, .int .i64 (x0.length : Int)), (16, .int .i64 aa)] w
 cases ac with
 | zero => rw [Zy.l1] at H; cases H
 | succ ac =>
 rw [Zy.l1] at H
 refine Wr fun b4 be => Ols rfl <| Ox be <| Zh fun b5 bf => Y7 rfl (fun aw => ?_) (fun aw => ?_)
 rw [if_pos aw] at H
 refine Wx bf <| Zh fun b6 bg => Zj fun b7 b8 b9 => Wr fun ca bh => Mv rfl ?_
 obtain ⟨a4, H⟩ := gd H
 obtain ⟨cb, cc, bi, bj⟩ := (h0.mono af).ix Zi5 a4.1 a4.2
 obtain ⟨_, rfl, bk⟩ := bi
 refine O_y rfl (bj rfl rfl) <| O_y rfl (Qv Za7 Hj rfl rfl (fun j u hu => hs.see (bk j u hu))) <| Y6 Zay hs rfl (fun bl w hs => As rfl <| Ye (i := 0) Hj hs rfl rfl rfl rfl rfl (Zb rfl (Zb rfl Yj)) (fun w hs => Ox bh <| Wr fun cd bm => Mv rfl <| O_y rfl (Xk (i := 0) Za7 Hj hs rfl rfl rfl rfl) ?_))
 obtain ⟨ae, ax, H⟩ := bnd H
 refine Xo rfl rfl rfl (Hg.c hs rfl ax) (fun ce w hpost => ?_)
 obtain ⟨a5, bn, rfl, aj, hs, bo⟩ := hpost
 have ay := bo
 obtain rfl := ay
 refine Y6 Zay hs rfl (fun ar w hs => Ye (i := 0) Hj hs rfl rfl rfl rfl rfl (Zb rfl (Zb rfl Yj)) (fun w hs => Ox bm <| W.weak [(1, _), (2, _), (7, _), (8, _), (9, _), (10, _), (14, _), (15, _), (16, _)] sbn ?_))
 refine Zh fun bp az => Yu fun a0 a1 ah => ?_
 have ai : ∀ (ab : Bool) (w : World), Zy.j1 (Zy.l1 ac x0) aa ae ab = some r → St w0 a5 ((.box ar 129 ([.int .i32 ae.lo, .int .i32 ae.hi])) :: (.box bl 129 ([.int .i32 ((rd x0 aa).lo), .int .i32 ((rd x0 aa).hi)])) :: Γ) w → a0 [(1, .func (.func 104) #[] #[]), (2, .func (.func 88) #[] #[]), (8, .int .i64 aa), (10, .pointer (some ⟨ar, 0, none⟩)), (14, v0), (15, .int .i64 (x0.length : Int)), (16, .int .i64 aa), (45, .bool ab)] w := by
  intro ab w H hs
  rw [Zy.j1] at H
  refine a1 _ _ <| Xg rfl (fun an => ?_) (fun an => ?_)
  rw [if_pos an] at H
  refine Wr fun bq a2 => Mv rfl <| As rfl <| Ox a2 <| Zk ?_
  obtain rfl := Zz H
  exact r1 rfl ⟨rfl, ((hs.sub (ssk (ssk ssr))).less (af.trans aj))⟩
  rw [if_neg (bft an)] at H
  refine Wx az <| Zc <| Ofd Vr rfl <| Obx 0 Xm hs rfl <| As rfl <| Ox bg <| Zc <| Oad rfl <| Mv rfl <| Zd (am (ac, ae.hi, (i64.wrap (aa + 1)), a5) _ _ sbn (Ai H (Ai (af.trans aj) (hs.sub (ssk (ssk ssr))))) (Nat.lt_succ_self _))
 refine Zc <| Ofd Uw rfl <| Obx 0 Xm hs rfl <| Mv rfl <| Ole rfl <| Mv rfl <| X6 (dj := 28) rfl (fun ao => ?_) (fun ao => ?_)
 rw [if_pos ao] at H
 refine On rfl <| On rfl <| On rfl <| On rfl <| On rfl <| Opk rfl <| Mv rfl <| On rfl <| On rfl <| On rfl <| Opk rfl <| Mv rfl <| On rfl <| On rfl ?_
 refine On rfl <| On rfl <| Opk rfl <| Zd (ah _ _ _ sbn (ai true _ H hs))
 rw [if_neg ao] at H
 refine Oe rfl <| Ofd Vr rfl <| Oe rfl <| Obx 0 Xm hs rfl <| Oe rfl <| Ofd Uw rfl <| Oe rfl <| Obx 0 Xm hs rfl <| Oe rfl <| Ols rfl <| Opk rfl <| Mv rfl <| X6 (dj := 35) rfl (fun ap => ?_) (fun ap => ?_)
 rw [if_pos ap] at H
 refine On rfl <| On rfl <| On rfl <| Opk rfl <| Mv rfl <| On rfl <| On rfl <| On rfl <| On rfl <| Opk rfl <| Zd (ah _ _ _ sbn (ai true _ H hs))
 rw [if_neg ap] at H
 refine Oe rfl <| Ofd Vr rfl <| Oe rfl <| Obx 0 Xm hs rfl <| Oe rfl <| Ogt rfl <| Opk rfl <| Mv rfl <| X6 (dj := 40) rfl (fun aq => ?_) (fun aq => ?_)
 rw [if_pos aq] at H
 refine On rfl <| On rfl <| On rfl <| On rfl <| Opk rfl <| Zd (ah _ _ _ sbn (ai true _ H hs))
 rw [if_neg aq] at H
 refine Oe rfl <| Mv rfl <| Oe rfl <| O_y rfl (Xk (i := 1) Za7 Hj hs rfl rfl rfl rfl) <| Oe rfl ?_
 obtain ⟨al, au, H⟩ := bnd H
 refine Xo rfl rfl rfl (V1.c hs rfl au) (fun br w hpost => ?_)
 obtain ⟨rfl, hs⟩ := hpost
 refine Oe rfl <| Ont rfl <| Opk rfl <| Zd (ah _ _ _ sbn (ai (!al) _ H hs))
 rw [if_neg aw] at H
 refine Y4 (bd _ _ (bb _ _ <| Wr fun bs a3 => As rfl <| Ox a3 <| Zk ?_))
 obtain rfl := Zz H
 exact r1 rfl ⟨rfl, (hs.less af)⟩

def U4.f (y0_0 : List ByteArray) (y0_1 : List Val) (y0_2 : List Chs) (y0_3 : List Val) (y0_4 : List Chs) (y0_5 : List Spn) (y0_6 y0_7 : List Val) (y0_8 : List Spn) (y0_9 : List Val) (y0_10 : List Chs) : Option Int := (Zy.f y0_5).bind fun ab => (some ab)
theorem U4.c {pb0 : Nat} {w0_0 : Value} {y0_0 : List ByteArray} {w0_1 : Value} {y0_1 : List Val} {w0_2 : Value} {y0_2 : List Chs} {w0_3 : Value} {y0_3 : List Val} {w0_4 : Value} {y0_4 : List Chs} {w0_5 : Value} {y0_5 : List Spn} {w0_6 : Value} {y0_6 : List Val} {w0_7 : Value} {y0_7 : List Val} {w0_8 : Value} {y0_8 : List Spn} {w0_9 : Value} {y0_9 : List Val} {w0_10 : Value} {y0_10 : List Chs} {pb1 : Nat} (hs : St w0 ρ ((.box pb0 27 ([w0_0, w0_1, w0_2, w0_3, w0_4, w0_5, w0_6, w0_7, w0_8, w0_9, w0_10])) :: (.box pb1 133 ([.func (.func 88) #[] #[]])) :: Γ) w) (g0_0 : SlR Rep.str ρ w0_0 y0_0) (g0_1 : SlR X9 ρ w0_1 y0_1) (g0_2 : SlR Ks ρ w0_2 y0_2) (g0_3 : SlR X9 ρ w0_3 y0_3) (g0_4 : SlR Ks ρ w0_4 y0_4) (g0_5 : SlR Kd ρ w0_5 y0_5) (g0_6 : SlR X9 ρ w0_6 y0_6) (g0_7 : SlR X9 ρ w0_7 y0_7) (g0_8 : SlR Kd ρ w0_8 y0_8) (g0_9 : SlR X9 ρ w0_9 y0_9) (g0_10 : SlR Ks ρ w0_10 y0_10) {r : Int} (H : U4.f y0_0 y0_1 y0_2 y0_3 y0_4 y0_5 y0_6 y0_7 y0_8 y0_9 y0_10 = some r) : Zn Tryz.prog 102 [.pointer (some ⟨pb0, 0, none⟩), .pointer (some ⟨pb1, 0, none⟩)] w (fun v w' => v = .int .i64 r ∧ St w0 ρ ((.box pb0 27 ([w0_0, w0_1, w0_2, w0_3, w0_4, w0_5, w0_6, w0_7, w0_8, w0_9, w0_10])) :: (.box pb1 133 ([.func (.func 88) #[] #[]])) :: Γ) w') := by
 rw [U4.f] at H
 refine Et Tryz.func102 Tryz.ntmps102 rfl <| Wr fun ae ac => As rfl <| Ox ac <| Wr fun af ad => Ofd Zk8 rfl <| Obx 0 Zl1 hs rfl <| Obx 1 Zej hs rfl ?_
 obtain ⟨ab, aa, H⟩ := bnd H
 refine Oc rfl (Zy.c hs g0_5 aa) (fun ag w hpost => ?_)
 obtain ⟨rfl, hs⟩ := hpost
 refine As rfl <| Ox ad <| Zk ?_
 obtain rfl := Zz H
 exact r1 rfl ⟨rfl, hs⟩

def Hf.f : Option (List ByteArray) := some ([(⟨#[76]⟩ : ByteArray), (⟨#[82]⟩ : ByteArray), (⟨#[65, 76]⟩ : ByteArray), (⟨#[69, 78]⟩ : ByteArray), (⟨#[69, 83]⟩ : ByteArray), (⟨#[69, 84]⟩ : ByteArray), (⟨#[65, 78]⟩ : ByteArray), (⟨#[67, 83]⟩ : ByteArray), (⟨#[78, 83, 77]⟩ : ByteArray), (⟨#[66, 78]⟩ : ByteArray), (⟨#[79, 78]⟩ : ByteArray), (⟨#[66]⟩ : ByteArray), (⟨#[83]⟩ : ByteArray), (⟨#[87, 83]⟩ : ByteArray), (⟨#[76, 82, 69]⟩ : ByteArray), (⟨#[76, 82, 79]⟩ : ByteArray), (⟨#[82, 76, 69]⟩ : ByteArray), (⟨#[82, 76, 79]⟩ : ByteArray), (⟨#[80, 68, 70]⟩ : ByteArray), (⟨#[76, 82, 73]⟩ : ByteArray), (⟨#[82, 76, 73]⟩ : ByteArray), (⟨#[70, 83, 73]⟩ : ByteArray), (⟨#[80, 68, 73]⟩ : ByteArray)])
theorem Hf.c (hs : St w0 ρ (Γ) w) {r : List ByteArray} (H : Hf.f = some r) : Zn Tryz.prog 106 [] w (fun v w' => ∃ (ρ' : Hp) (v0 : Value) (cs0 : List Value), v = v0 ∧ Le ρ ρ' ∧ St w0 ρ' (.row v0 9 Rep.str.sz r.length cs0 :: Γ) w' ∧ Zm Rep.str ρ' cs0 r) := by
 rw [Hf.f] at H
 refine Et Tryz.func106 Tryz.ntmps106 rfl <| Wr fun ad aa => As rfl <| Ox aa <| Wr fun ae ab => Ku (xs := [.const (.string (⟨#[76]⟩ : ByteArray)), .const (.string (⟨#[82]⟩ : ByteArray)), .const (.string (⟨#[65, 76]⟩ : ByteArray)), .const (.string (⟨#[69, 78]⟩ : ByteArray)), .const (.string (⟨#[69, 83]⟩ : ByteArray)), .const (.string (⟨#[69, 84]⟩ : ByteArray)), .const (.string (⟨#[65, 78]⟩ : ByteArray)), .const (.string (⟨#[67, 83]⟩ : ByteArray)), .const (.string (⟨#[78, 83, 77]⟩ : ByteArray)), .const (.string (⟨#[66, 78]⟩ : ByteArray)), .const (.string (⟨#[79, 78]⟩ : ByteArray)), .const (.string (⟨#[66]⟩ : ByteArray)), .const (.string (⟨#[83]⟩ : ByteArray)), .const (.string (⟨#[87, 83]⟩ : ByteArray)), .const (.string (⟨#[76, 82, 69]⟩ : ByteArray)), .const (.string (⟨#[76, 82, 79]⟩ : ByteArray)), .const (.string (⟨#[82, 76, 69]⟩ : ByteArray)), .const (.string (⟨#[82, 76, 79]⟩ : ByteArray)), .const (.string (⟨#[80, 68, 70]⟩ : ByteArray)), .const (.string (⟨#[76, 82, 73]⟩ : ByteArray)), .const (.string (⟨#[82, 76, 73]⟩ : ByteArray)), .const (.string (⟨#[70, 83, 73]⟩ : ByteArray)), .const (.string (⟨#[80, 68, 73]⟩ : ByteArray))]) (cs := [.string (⟨#[76]⟩ : ByteArray), .string (⟨#[82]⟩ : ByteArray), .string (⟨#[65, 76]⟩ : ByteArray), .string (⟨#[69, 78]⟩ : ByteArray), .string (⟨#[69, 83]⟩ : ByteArray), .string (⟨#[69, 84]⟩ : ByteArray), .string (⟨#[65, 78]⟩ : ByteArray), .string (⟨#[67, 83]⟩ : ByteArray), .string (⟨#[78, 83, 77]⟩ : ByteArray), .string (⟨#[66, 78]⟩ : ByteArray), .string (⟨#[79, 78]⟩ : ByteArray), .string (⟨#[66]⟩ : ByteArray), .string (⟨#[83]⟩ : ByteArray), .string (⟨#[87, 83]⟩ : ByteArray), .string (⟨#[76, 82, 69]⟩ : ByteArray), .string (⟨#[76, 82, 79]⟩ : ByteArray), .string (⟨#[82, 76, 69]⟩ : ByteArray), .string (⟨#[82, 76, 79]⟩ : ByteArray), .string (⟨#[80, 68, 70]⟩ : ByteArray), .string (⟨#[76, 82, 73]⟩ : ByteArray), .string (⟨#[82, 76, 73]⟩ : ByteArray), .string (⟨#[70, 83, 73]⟩ : ByteArray), .string (⟨#[80, 68, 73]⟩ : ByteArray)]) Zf7 hs rfl rfl rfl (by decide) (by decide) rfl (Yc rfl (Yc rfl (Yc rfl (Yc rfl (Yc rfl (Yc rfl (Yc rfl (Yc rfl (Yc rfl (Yc rfl (Yc rfl (Yc rfl (Yc rfl (Yc rfl (Yc rfl (Yc rfl (Yc rfl (Yc rfl (Yc rfl (Yc rfl (Yc rfl (Yc rfl (Yc rfl Kb))))))))))))))))))))))) (Zv rfl (Zv rfl (Zv rfl (Zv rfl (Zv rfl (Zv rfl (Zv rfl (Zv rfl (Zv rfl (Zv rfl (Zv rfl (Zv rfl (Zv rfl (Zv rfl (Zv rfl (Zv rfl (Zv rfl (Zv rfl (Zv rfl (Zv rfl (Zv rfl (Zv rfl (Zv rfl Xy))))))))))))))))))))))) (fun af w hs => ?_)
 have ac : Zm Rep.str ρ ([.string (⟨#[76]⟩ : ByteArray), .string (⟨#[82]⟩ : ByteArray), .string (⟨#[65, 76]⟩ : ByteArray), .string (⟨#[69, 78]⟩ : ByteArray), .string (⟨#[69, 83]⟩ : ByteArray), .string (⟨#[69, 84]⟩ : ByteArray), .string (⟨#[65, 78]⟩ : ByteArray), .string (⟨#[67, 83]⟩ : ByteArray), .string (⟨#[78, 83, 77]⟩ : ByteArray), .string (⟨#[66, 78]⟩ : ByteArray), .string (⟨#[79, 78]⟩ : ByteArray), .string (⟨#[66]⟩ : ByteArray), .string (⟨#[83]⟩ : ByteArray), .string (⟨#[87, 83]⟩ : ByteArray), .string (⟨#[76, 82, 69]⟩ : ByteArray), .string (⟨#[76, 82, 79]⟩ : ByteArray), .string (⟨#[82, 76, 69]⟩ : ByteArray), .string (⟨#[82, 76, 79]⟩ : ByteArray), .string (⟨#[80, 68, 70]⟩ : ByteArray), .string (⟨#[76, 82, 73]⟩ : ByteArray), .string (⟨#[82, 76, 73]⟩ : ByteArray), .string (⟨#[70, 83, 73]⟩ : ByteArray), .string (⟨#[80, 68, 73]⟩ : ByteArray)]) [(⟨#[76]⟩ : ByteArray), (⟨#[82]⟩ : ByteArray), (⟨#[65, 76]⟩ : ByteArray), (⟨#[69, 78]⟩ : ByteArray), (⟨#[69, 83]⟩ : ByteArray), (⟨#[69, 84]⟩ : ByteArray), (⟨#[65, 78]⟩ : ByteArray), (⟨#[67, 83]⟩ : ByteArray), (⟨#[78, 83, 77]⟩ : ByteArray), (⟨#[66, 78]⟩ : ByteArray), (⟨#[79, 78]⟩ : ByteArray), (⟨#[66]⟩ : ByteArray), (⟨#[83]⟩ : ByteArray), (⟨#[87, 83]⟩ : ByteArray), (⟨#[76, 82, 69]⟩ : ByteArray), (⟨#[76, 82, 79]⟩ : ByteArray), (⟨#[82, 76, 69]⟩ : ByteArray), (⟨#[82, 76, 79]⟩ : ByteArray), (⟨#[80, 68, 70]⟩ : ByteArray), (⟨#[76, 82, 73]⟩ : ByteArray), (⟨#[82, 76, 73]⟩ : ByteArray), (⟨#[70, 83, 73]⟩ : ByteArray), (⟨#[80, 68, 73]⟩ : ByteArray)] := Zm.cons (c := [.string (⟨#[76]⟩ : ByteArray)]) (x := (⟨#[76]⟩ : ByteArray)) rfl (Zm.cons (c := [.string (⟨#[82]⟩ : ByteArray)]) (x := (⟨#[82]⟩ : ByteArray)) rfl (Zm.cons (c := [.string (⟨#[65, 76]⟩ : ByteArray)]) (x := (⟨#[65, 76]⟩ : ByteArray)) rfl (Zm.cons (c := [.string (⟨#[69, 78]⟩ : ByteArray)]) (x := (⟨#[69, 78]⟩ : ByteArray)) rfl (Zm.cons (c := [.string (⟨#[69, 83]⟩ : ByteArray)]) (x := (⟨#[69, 83]⟩ : ByteArray)) rfl (Zm.cons (c := [.string (⟨#[69, 84]⟩ : ByteArray)]) (x := (⟨#[69, 84]⟩ : ByteArray)) rfl (Zm.cons (c := [.string (⟨#[65, 78]⟩ : ByteArray)]) (x := (⟨#[65, 78]⟩ : ByteArray)) rfl (Zm.cons (c := [.string (⟨#[67, 83]⟩ : ByteArray)]) (x := (⟨#[67, 83]⟩ : ByteArray)) rfl (Zm.cons (c := [.string (⟨#[78, 83, 77]⟩ : ByteArray)]) (x := (⟨#[78, 83, 77]⟩ : ByteArray)) rfl (Zm.cons (c := [.string (⟨#[66, 78]⟩ : ByteArray)]) (x := (⟨#[66, 78]⟩ : ByteArray)) rfl (Zm.cons (c := [.string (⟨#[79, 78]⟩ : ByteArray)]) (x := (⟨#[79, 78]⟩ : ByteArray)) rfl (Zm.cons (c := [.string (⟨#[66]⟩ : ByteArray)]) (x := (⟨#[66]⟩ : ByteArray)) rfl (Zm.cons (c := [.string (⟨#[83]⟩ : ByteArray)]) (x := (⟨#[83]⟩ : ByteArray)) rfl (Zm.cons (c := [.string (⟨#[87, 83]⟩ : ByteArray)]) (x := (⟨#[87, 83]⟩ : ByteArray)) rfl (Zm.cons (c := [.string (⟨#[76, 82, 69]⟩ : ByteArray)]) (x := (⟨#[76, 82, 69]⟩ : ByteArray)) rfl (Zm.cons (c := [.string (⟨#[76, 82, 79]⟩ : ByteArray)]) (x := (⟨#[76, 82, 79]⟩ : ByteArray)) rfl (Zm.cons (c := [.string (⟨#[82, 76, 69]⟩ : ByteArray)]) (x := (⟨#[82, 76, 69]⟩ : ByteArray)) rfl (Zm.cons (c := [.string (⟨#[82, 76, 79]⟩ : ByteArray)]) (x := (⟨#[82, 76, 79]⟩ : ByteArray)) rfl (Zm.cons (c := [.string (⟨#[80, 68, 70]⟩ : ByteArray)]) (x := (⟨#[80, 68, 70]⟩ : ByteArray)) rfl (Zm.cons (c := [.string (⟨#[76, 82, 73]⟩ : ByteArray)]) (x := (⟨#[76, 82, 73]⟩ : ByteArray)) rfl (Zm.cons (c := [.string (⟨#[82, 76, 73]⟩ : ByteArray)]) (x := (⟨#[82, 76, 73]⟩ : ByteArray)) rfl (Zm.cons (c := [.string (⟨#[70, 83, 73]⟩ : ByteArray)]) (x := (⟨#[70, 83, 73]⟩ : ByteArray)) rfl (Zm.cons (c := [.string (⟨#[80, 68, 73]⟩ : ByteArray)]) (x := (⟨#[80, 68, 73]⟩ : ByteArray)) rfl (Zm.nil _ _)))))))))))))))))))))))
 refine As rfl <| Ox ab <| Zk ?_
 obtain rfl := Zz H
 exact r1 rfl ⟨_, _, _, rfl, Le.rfl' _, hs, ac⟩

def Uk.f (y0_0 : List ByteArray) (y0_1 : List Val) (y0_2 : List Chs) (y0_3 : List Val) (y0_4 : List Chs) (y0_5 : List Spn) (y0_6 y0_7 : List Val) (y0_8 : List Spn) (y0_9 : List Val) (y0_10 : List Chs) : Option Int := (Hf.f).bind fun af => ((Xu.f y0_6 0 (i64.wrap ((af.length : Int) - 1))).bind fun ag => (some ag))
theorem Uk.c {pb0 : Nat} {w0_0 : Value} {y0_0 : List ByteArray} {w0_1 : Value} {y0_1 : List Val} {w0_2 : Value} {y0_2 : List Chs} {w0_3 : Value} {y0_3 : List Val} {w0_4 : Value} {y0_4 : List Chs} {w0_5 : Value} {y0_5 : List Spn} {w0_6 : Value} {y0_6 : List Val} {w0_7 : Value} {y0_7 : List Val} {w0_8 : Value} {y0_8 : List Spn} {w0_9 : Value} {y0_9 : List Val} {w0_10 : Value} {y0_10 : List Chs} {pb1 : Nat} (hs : St w0 ρ ((.box pb0 27 ([w0_0, w0_1, w0_2, w0_3, w0_4, w0_5, w0_6, w0_7, w0_8, w0_9, w0_10])) :: (.box pb1 133 ([.func (.func 87) #[] #[]])) :: Γ) w) (g0_0 : SlR Rep.str ρ w0_0 y0_0) (g0_1 : SlR X9 ρ w0_1 y0_1) (g0_2 : SlR Ks ρ w0_2 y0_2) (g0_3 : SlR X9 ρ w0_3 y0_3) (g0_4 : SlR Ks ρ w0_4 y0_4) (g0_5 : SlR Kd ρ w0_5 y0_5) (g0_6 : SlR X9 ρ w0_6 y0_6) (g0_7 : SlR X9 ρ w0_7 y0_7) (g0_8 : SlR Kd ρ w0_8 y0_8) (g0_9 : SlR X9 ρ w0_9 y0_9) (g0_10 : SlR Ks ρ w0_10 y0_10) {r : Int} (H : Uk.f y0_0 y0_1 y0_2 y0_3 y0_4 y0_5 y0_6 y0_7 y0_8 y0_9 y0_10 = some r) : Zn Tryz.prog 105 [.pointer (some ⟨pb0, 0, none⟩), .pointer (some ⟨pb1, 0, none⟩)] w (fun v w' => v = .int .i64 r ∧ St w0 ρ ((.box pb0 27 ([w0_0, w0_1, w0_2, w0_3, w0_4, w0_5, w0_6, w0_7, w0_8, w0_9, w0_10])) :: (.box pb1 133 ([.func (.func 87) #[] #[]])) :: Γ) w') := by
 rw [Uk.f] at H
 refine Et Tryz.func105 Tryz.ntmps105 rfl <| Wr fun ao ah => As rfl <| Ox ah <| Zh fun ap ai => Qn 8 [0, 1, 0, 4, 8, 0, 54, 127] [124, 60, 51, 99, 35, 31, 0, 0] [0, 1, 0, 4, 12, 0, 63, 127] [] (fun w => St w0 ρ ((.box pb0 27 ([w0_0, w0_1, w0_2, w0_3, w0_4, w0_5, w0_6, w0_7, w0_8, w0_9, w0_10])) :: (.box pb1 133 ([.func (.func 87) #[] #[]])) :: Γ) w) Vl (by kernel_rfl) (fun sh => ?_)
 have hs := hs.drew
 refine Fp 0 sh rfl (fun w => Zp Zlh rfl) <| Fy 1 sh rfl hs (fun w hs => Yb 0 Zbl hs rfl rfl rfl) <| Fy 5 sh rfl hs (fun w hs => Yb 1 Zej hs rfl rfl rfl) <| F1 2 sh rfl (fun aq aj => ?_)
 obtain ⟨af, ab, H⟩ := bnd H
 refine Oc rfl (Hf.c hs ab) (fun ar w hpost => ?_)
 obtain ⟨au, av, ak, rfl, aa, hs, al⟩ := hpost
 refine Zd (aj _ _ (fun _ _ => ((hs.less aa).sub (ssk (ssc (ssc ssr))))) ?_)
 obtain ⟨aw, ac, hs, am⟩ := hs.rowEnd (j := 0) al rfl
 have ad := aa.trans ac
 refine Fp 3 sh rfl (fun w => Yv Zga am rfl) <| Fp 4 sh rfl (fun w => Zc2 rfl rfl) <| F1 6 sh rfl (fun ax an => ?_)
 obtain ⟨ag, ae, H⟩ := bnd H
 refine Oc rfl (Xu.c hs (g0_6.mono ad) ae) (fun ay w hpost => ?_)
 obtain ⟨rfl, hs⟩ := hpost
 refine Zd (an _ _ (fun _ _ => (hs.less ad)) <| Fp 7 sh rfl (fun w => Xv rfl) <| FE sh (ai _ _ <| Zk ?_))
 obtain rfl := Zz H
 exact r1 rfl ⟨rfl, (hs.less ad)⟩

def Zaa.f : Option (List ByteArray) := some ([(⟨#[85]⟩ : ByteArray), (⟨#[76]⟩ : ByteArray), (⟨#[82]⟩ : ByteArray), (⟨#[68]⟩ : ByteArray), (⟨#[84]⟩ : ByteArray), (⟨#[67]⟩ : ByteArray)])
theorem Zaa.c (hs : St w0 ρ (Γ) w) {r : List ByteArray} (H : Zaa.f = some r) : Zn Tryz.prog 108 [] w (fun v w' => ∃ (ρ' : Hp) (v0 : Value) (cs0 : List Value), v = v0 ∧ Le ρ ρ' ∧ St w0 ρ' (.row v0 9 Rep.str.sz r.length cs0 :: Γ) w' ∧ Zm Rep.str ρ' cs0 r) := by
 rw [Zaa.f] at H
 refine Et Tryz.func108 Tryz.ntmps108 rfl <| Wr fun ad aa => As rfl <| Ox aa <| Wr fun ae ab => Ku (xs := [.const (.string (⟨#[85]⟩ : ByteArray)), .const (.string (⟨#[76]⟩ : ByteArray)), .const (.string (⟨#[82]⟩ : ByteArray)), .const (.string (⟨#[68]⟩ : ByteArray)), .const (.string (⟨#[84]⟩ : ByteArray)), .const (.string (⟨#[67]⟩ : ByteArray))]) (cs := [.string (⟨#[85]⟩ : ByteArray), .string (⟨#[76]⟩ : ByteArray), .string (⟨#[82]⟩ : ByteArray), .string (⟨#[68]⟩ : ByteArray), .string (⟨#[84]⟩ : ByteArray), .string (⟨#[67]⟩ : ByteArray)]) Zf7 hs rfl rfl rfl (by decide) (by decide) rfl (Yc rfl (Yc rfl (Yc rfl (Yc rfl (Yc rfl (Yc rfl Kb)))))) (Zv rfl (Zv rfl (Zv rfl (Zv rfl (Zv rfl (Zv rfl Xy)))))) (fun af w hs => ?_)
 have ac : Zm Rep.str ρ ([.string (⟨#[85]⟩ : ByteArray), .string (⟨#[76]⟩ : ByteArray), .string (⟨#[82]⟩ : ByteArray), .string (⟨#[68]⟩ : ByteArray), .string (⟨#[84]⟩ : ByteArray), .string (⟨#[67]⟩ : ByteArray)]) [(⟨#[85]⟩ : ByteArray), (⟨#[76]⟩ : ByteArray), (⟨#[82]⟩ : ByteArray), (⟨#[68]⟩ : ByteArray), (⟨#[84]⟩ : ByteArray), (⟨#[67]⟩ : ByteArray)] := Zm.cons (c := [.string (⟨#[85]⟩ : ByteArray)]) (x := (⟨#[85]⟩ : ByteArray)) rfl (Zm.cons (c := [.string (⟨#[76]⟩ : ByteArray)]) (x := (⟨#[76]⟩ : ByteArray)) rfl (Zm.cons (c := [.string (⟨#[82]⟩ : ByteArray)]) (x := (⟨#[82]⟩ : ByteArray)) rfl (Zm.cons (c := [.string (⟨#[68]⟩ : ByteArray)]) (x := (⟨#[68]⟩ : ByteArray)) rfl (Zm.cons (c := [.string (⟨#[84]⟩ : ByteArray)]) (x := (⟨#[84]⟩ : ByteArray)) rfl (Zm.cons (c := [.string (⟨#[67]⟩ : ByteArray)]) (x := (⟨#[67]⟩ : ByteArray)) rfl (Zm.nil _ _))))))
 refine As rfl <| Ox ab <| Zk ?_
 obtain rfl := Zz H
 exact r1 rfl ⟨_, _, _, rfl, Le.rfl' _, hs, ac⟩

def Uo.f (y0_0 : List ByteArray) (y0_1 : List Val) (y0_2 : List Chs) (y0_3 : List Val) (y0_4 : List Chs) (y0_5 : List Spn) (y0_6 y0_7 : List Val) (y0_8 : List Spn) (y0_9 : List Val) (y0_10 : List Chs) : Option Int := (Zaa.f).bind fun af => ((Xu.f y0_7 0 (i64.wrap ((af.length : Int) - 1))).bind fun ag => (some ag))
theorem Uo.c {pb0 : Nat} {w0_0 : Value} {y0_0 : List ByteArray} {w0_1 : Value} {y0_1 : List Val} {w0_2 : Value} {y0_2 : List Chs} {w0_3 : Value} {y0_3 : List Val} {w0_4 : Value} {y0_4 : List Chs} {w0_5 : Value} {y0_5 : List Spn} {w0_6 : Value} {y0_6 : List Val} {w0_7 : Value} {y0_7 : List Val} {w0_8 : Value} {y0_8 : List Spn} {w0_9 : Value} {y0_9 : List Val} {w0_10 : Value} {y0_10 : List Chs} {pb1 : Nat} (hs : St w0 ρ ((.box pb0 27 ([w0_0, w0_1, w0_2, w0_3, w0_4, w0_5, w0_6, w0_7, w0_8, w0_9, w0_10])) :: (.box pb1 133 ([.func (.func 87) #[] #[]])) :: Γ) w) (g0_0 : SlR Rep.str ρ w0_0 y0_0) (g0_1 : SlR X9 ρ w0_1 y0_1) (g0_2 : SlR Ks ρ w0_2 y0_2) (g0_3 : SlR X9 ρ w0_3 y0_3) (g0_4 : SlR Ks ρ w0_4 y0_4) (g0_5 : SlR Kd ρ w0_5 y0_5) (g0_6 : SlR X9 ρ w0_6 y0_6) (g0_7 : SlR X9 ρ w0_7 y0_7) (g0_8 : SlR Kd ρ w0_8 y0_8) (g0_9 : SlR X9 ρ w0_9 y0_9) (g0_10 : SlR Ks ρ w0_10 y0_10) {r : Int} (H : Uo.f y0_0 y0_1 y0_2 y0_3 y0_4 y0_5 y0_6 y0_7 y0_8 y0_9 y0_10 = some r) : Zn Tryz.prog 107 [.pointer (some ⟨pb0, 0, none⟩), .pointer (some ⟨pb1, 0, none⟩)] w (fun v w' => v = .int .i64 r ∧ St w0 ρ ((.box pb0 27 ([w0_0, w0_1, w0_2, w0_3, w0_4, w0_5, w0_6, w0_7, w0_8, w0_9, w0_10])) :: (.box pb1 133 ([.func (.func 87) #[] #[]])) :: Γ) w') := by
 rw [Uo.f] at H
 refine Et Tryz.func107 Tryz.ntmps107 rfl <| Wr fun ao ah => As rfl <| Ox ah <| Zh fun ap ai => Qn 8 [0, 1, 0, 4, 8, 0, 54, 127] [124, 60, 51, 99, 35, 31, 0, 0] [0, 1, 0, 4, 12, 0, 63, 127] [] (fun w => St w0 ρ ((.box pb0 27 ([w0_0, w0_1, w0_2, w0_3, w0_4, w0_5, w0_6, w0_7, w0_8, w0_9, w0_10])) :: (.box pb1 133 ([.func (.func 87) #[] #[]])) :: Γ) w) Vl (by kernel_rfl) (fun sh => ?_)
 have hs := hs.drew
 refine Fp 0 sh rfl (fun w => Zp Zk7 rfl) <| Fy 1 sh rfl hs (fun w hs => Yb 0 Zbl hs rfl rfl rfl) <| Fy 5 sh rfl hs (fun w hs => Yb 1 Zej hs rfl rfl rfl) <| F1 2 sh rfl (fun aq aj => ?_)
 obtain ⟨af, ab, H⟩ := bnd H
 refine Oc rfl (Zaa.c hs ab) (fun ar w hpost => ?_)
 obtain ⟨au, av, ak, rfl, aa, hs, al⟩ := hpost
 refine Zd (aj _ _ (fun _ _ => ((hs.less aa).sub (ssk (ssc (ssc ssr))))) ?_)
 obtain ⟨aw, ac, hs, am⟩ := hs.rowEnd (j := 0) al rfl
 have ad := aa.trans ac
 refine Fp 3 sh rfl (fun w => Yv Zga am rfl) <| Fp 4 sh rfl (fun w => Zc2 rfl rfl) <| F1 6 sh rfl (fun ax an => ?_)
 obtain ⟨ag, ae, H⟩ := bnd H
 refine Oc rfl (Xu.c hs (g0_7.mono ad) ae) (fun ay w hpost => ?_)
 obtain ⟨rfl, hs⟩ := hpost
 refine Zd (an _ _ (fun _ _ => (hs.less ad)) <| Fp 7 sh rfl (fun w => Xv rfl) <| FE sh (ai _ _ <| Zk ?_))
 obtain rfl := Zz H
 exact r1 rfl ⟨rfl, (hs.less ad)⟩

def Zx.j1 (ak : Int → Int → Option Int) (aa : Int) (ae : Spn) (ab : Bool) : Option Int := if ab = true then (some aa) else (ak ae.hi (i64.wrap (aa + 1)))
def Zx.l1 : Nat → List Spn → Int → Int → Option Int
  | 0, _, _, _ => none
  | ac + 1, x0, ad, aa => if aa < (x0.length : Int) then (if (0 : Int) ≤ aa ∧ aa < (x0.length : Int) then ((Hg.f (rd x0 aa)).bind fun ae => (if ae.lo ≤ ad then (Zx.j1 (Zx.l1 ac x0) aa ae true) else (if ae.hi < ae.lo then (Zx.j1 (Zx.l1 ac x0) aa ae true) else (if 1114111 < ae.hi then (Zx.j1 (Zx.l1 ac x0) aa ae true) else ((Hl.f (rd x0 aa)).bind fun al => (Zx.j1 (Zx.l1 ac x0) aa ae (!al))))))) else none) else (some (-1))
def Zx.f (x0 : List Spn) : Option Int := if 65536 < (x0.length : Int) then (some 65536) else (Zx.l1 K0 x0 (-1) 0)
theorem Zx.c (hs : St w0 ρ (Γ) w) {v0 : Value} {x0 : List Spn} (h0 : SlR Kd ρ v0 x0) {r : Int} (H : Zx.f x0 = some r) : Zn Tryz.prog 103 [v0, .func (.func 104) #[] #[], .func (.func 87) #[] #[]] w (fun v w' => v = .int .i64 r ∧ St w0 ρ Γ w') := by
 rw [Zx.f] at H
 refine Et Tryz.func103 Tryz.ntmps103 rfl <| Wr fun bt a6 => As rfl <| Ox a6 <| Zh fun bu a7 => Wr fun bv a8 => Mv rfl <| O_y rfl (Yv Zjf h0 rfl) <| Ogt rfl <| Ox a8 <| Y7 rfl (fun av => ?_) (fun av => ?_)
 rw [if_pos av] at H
 refine Wr fun bw a9 => As rfl <| Ox a9 <| Zk ?_
 obtain rfl := Zz H
 exact r1 rfl ⟨rfl, hs⟩
 rw [if_neg av] at H
 refine Wx a7 <| Wr fun bx ba => As rfl <| Ox ba <| Zh fun bz bb => Wr fun b0 bc => Mv rfl <| O_y rfl (Yv Zjf h0 rfl) <| Mv rfl <| Ox bc <| Zj fun b1 bd b2 => Y9 (σ := Nat × Int × Int × Hp) (fun (ac, ad, aa, ag) => [(1, .func (.func 104) #[] #[]), (2, .func (.func 87) #[] #[]), (7, .int .i32 ad), (14, v0), (15, .int .i64 (x0.length : Int)), (16, .int .i64 aa)]) (fun (ac, ad, aa, ag) w => Zx.l1 ac x0 ad aa = some r ∧ Le ρ ag ∧ St w0 ag (Γ) w) (fun s => s.1) (K0, (-1), 0, ρ) sbn (Ai H (Ai (Le.rfl' _) hs)) ?_
 rintro ⟨ac, ad, aa, ag⟩ w b3 ⟨H, af, hs⟩ am
 show W _ _ _ _ _ _ [(1, .func (.func 104) #[] #[]), (2, .func (.func 87) #[] #[]), (7, .int .i32 ad), (14, v0), (15, .int .i64 (x0.length : Int)), (16, .int .i64 aa)] w
 cases ac with
 | zero => rw [Zx.l1] at H; cases H
 | succ ac =>
 rw [Zx.l1] at H
 refine Wr fun b4 be => Ols rfl <| Ox be <| Zh fun b5 bf => Y7 rfl (fun aw => ?_) (fun aw => ?_)
 rw [if_pos aw] at H
 refine Wx bf <| Zh fun b6 bg => Zj fun b7 b8 b9 => Wr fun ca bh => Mv rfl ?_
 obtain ⟨a4, H⟩ := gd H
 obtain ⟨cb, cc, bi, bj⟩ := (h0.mono af).ix Zi5 a4.1 a4.2
 obtain ⟨_, rfl, bk⟩ := bi
 refine O_y rfl (bj rfl rfl) <| O_y rfl (Qv Za7 Hj rfl rfl (fun j u hu => hs.see (bk j u hu))) <| Y6 Zay hs rfl (fun bl w hs => As rfl <| Ye (i := 0) Hj hs rfl rfl rfl rfl rfl (Zb rfl (Zb rfl Yj)) (fun w hs => Ox bh <| Wr fun cd bm => Mv rfl <| O_y rfl (Xk (i := 0) Za7 Hj hs rfl rfl rfl rfl) ?_))
 obtain ⟨ae, ax, H⟩ := bnd H
 refine Xo rfl rfl rfl (Hg.c hs rfl ax) (fun ce w hpost => ?_)
 obtain ⟨a5, bn, rfl, aj, hs, bo⟩ := hpost
 have ay := bo
 obtain rfl := ay
 refine Y6 Zay hs rfl (fun ar w hs => Ye (i := 0) Hj hs rfl rfl rfl rfl rfl (Zb rfl (Zb rfl Yj)) (fun w hs => Ox bm <| W.weak [(1, _), (2, _), (7, _), (8, _), (9, _), (10, _), (14, _), (15, _), (16, _)] sbn ?_))
 refine Zh fun bp az => Yu fun a0 a1 ah => ?_
 have ai : ∀ (ab : Bool) (w : World), Zx.j1 (Zx.l1 ac x0) aa ae ab = some r → St w0 a5 ((.box ar 129 ([.int .i32 ae.lo, .int .i32 ae.hi])) :: (.box bl 129 ([.int .i32 ((rd x0 aa).lo), .int .i32 ((rd x0 aa).hi)])) :: Γ) w → a0 [(1, .func (.func 104) #[] #[]), (2, .func (.func 87) #[] #[]), (8, .int .i64 aa), (10, .pointer (some ⟨ar, 0, none⟩)), (14, v0), (15, .int .i64 (x0.length : Int)), (16, .int .i64 aa), (45, .bool ab)] w := by
  intro ab w H hs
  rw [Zx.j1] at H
  refine a1 _ _ <| Xg rfl (fun an => ?_) (fun an => ?_)
  rw [if_pos an] at H
  refine Wr fun bq a2 => Mv rfl <| As rfl <| Ox a2 <| Zk ?_
  obtain rfl := Zz H
  exact r1 rfl ⟨rfl, ((hs.sub (ssk (ssk ssr))).less (af.trans aj))⟩
  rw [if_neg (bft an)] at H
  refine Wx az <| Zc <| Ofd Vr rfl <| Obx 0 Xm hs rfl <| As rfl <| Ox bg <| Zc <| Oad rfl <| Mv rfl <| Zd (am (ac, ae.hi, (i64.wrap (aa + 1)), a5) _ _ sbn (Ai H (Ai (af.trans aj) (hs.sub (ssk (ssk ssr))))) (Nat.lt_succ_self _))
 refine Zc <| Ofd Uw rfl <| Obx 0 Xm hs rfl <| Mv rfl <| Ole rfl <| Mv rfl <| X6 (dj := 28) rfl (fun ao => ?_) (fun ao => ?_)
 rw [if_pos ao] at H
 refine On rfl <| On rfl <| On rfl <| On rfl <| On rfl <| Opk rfl <| Mv rfl <| On rfl <| On rfl <| On rfl <| Opk rfl <| Mv rfl <| On rfl <| On rfl ?_
 refine On rfl <| On rfl <| Opk rfl <| Zd (ah _ _ _ sbn (ai true _ H hs))
 rw [if_neg ao] at H
 refine Oe rfl <| Ofd Vr rfl <| Oe rfl <| Obx 0 Xm hs rfl <| Oe rfl <| Ofd Uw rfl <| Oe rfl <| Obx 0 Xm hs rfl <| Oe rfl <| Ols rfl <| Opk rfl <| Mv rfl <| X6 (dj := 35) rfl (fun ap => ?_) (fun ap => ?_)
 rw [if_pos ap] at H
 refine On rfl <| On rfl <| On rfl <| Opk rfl <| Mv rfl <| On rfl <| On rfl <| On rfl <| On rfl <| Opk rfl <| Zd (ah _ _ _ sbn (ai true _ H hs))
 rw [if_neg ap] at H
 refine Oe rfl <| Ofd Vr rfl <| Oe rfl <| Obx 0 Xm hs rfl <| Oe rfl <| Ogt rfl <| Opk rfl <| Mv rfl <| X6 (dj := 40) rfl (fun aq => ?_) (fun aq => ?_)
 rw [if_pos aq] at H
 refine On rfl <| On rfl <| On rfl <| On rfl <| Opk rfl <| Zd (ah _ _ _ sbn (ai true _ H hs))
 rw [if_neg aq] at H
 refine Oe rfl <| Mv rfl <| Oe rfl <| O_y rfl (Xk (i := 1) Za7 Hj hs rfl rfl rfl rfl) <| Oe rfl ?_
 obtain ⟨al, au, H⟩ := bnd H
 refine Xo rfl rfl rfl (Hl.c hs rfl au) (fun br w hpost => ?_)
 obtain ⟨rfl, hs⟩ := hpost
 refine Oe rfl <| Ont rfl <| Opk rfl <| Zd (ah _ _ _ sbn (ai (!al) _ H hs))
 rw [if_neg aw] at H
 refine Y4 (bd _ _ (bb _ _ <| Wr fun bs a3 => As rfl <| Ox a3 <| Zk ?_))
 obtain rfl := Zz H
 exact r1 rfl ⟨rfl, (hs.less af)⟩

def Ul.f (y0_0 : List ByteArray) (y0_1 : List Val) (y0_2 : List Chs) (y0_3 : List Val) (y0_4 : List Chs) (y0_5 : List Spn) (y0_6 y0_7 : List Val) (y0_8 : List Spn) (y0_9 : List Val) (y0_10 : List Chs) : Option Int := (Zx.f y0_8).bind fun ab => (some ab)
theorem Ul.c {pb0 : Nat} {w0_0 : Value} {y0_0 : List ByteArray} {w0_1 : Value} {y0_1 : List Val} {w0_2 : Value} {y0_2 : List Chs} {w0_3 : Value} {y0_3 : List Val} {w0_4 : Value} {y0_4 : List Chs} {w0_5 : Value} {y0_5 : List Spn} {w0_6 : Value} {y0_6 : List Val} {w0_7 : Value} {y0_7 : List Val} {w0_8 : Value} {y0_8 : List Spn} {w0_9 : Value} {y0_9 : List Val} {w0_10 : Value} {y0_10 : List Chs} {pb1 : Nat} (hs : St w0 ρ ((.box pb0 27 ([w0_0, w0_1, w0_2, w0_3, w0_4, w0_5, w0_6, w0_7, w0_8, w0_9, w0_10])) :: (.box pb1 133 ([.func (.func 87) #[] #[]])) :: Γ) w) (g0_0 : SlR Rep.str ρ w0_0 y0_0) (g0_1 : SlR X9 ρ w0_1 y0_1) (g0_2 : SlR Ks ρ w0_2 y0_2) (g0_3 : SlR X9 ρ w0_3 y0_3) (g0_4 : SlR Ks ρ w0_4 y0_4) (g0_5 : SlR Kd ρ w0_5 y0_5) (g0_6 : SlR X9 ρ w0_6 y0_6) (g0_7 : SlR X9 ρ w0_7 y0_7) (g0_8 : SlR Kd ρ w0_8 y0_8) (g0_9 : SlR X9 ρ w0_9 y0_9) (g0_10 : SlR Ks ρ w0_10 y0_10) {r : Int} (H : Ul.f y0_0 y0_1 y0_2 y0_3 y0_4 y0_5 y0_6 y0_7 y0_8 y0_9 y0_10 = some r) : Zn Tryz.prog 109 [.pointer (some ⟨pb0, 0, none⟩), .pointer (some ⟨pb1, 0, none⟩)] w (fun v w' => v = .int .i64 r ∧ St w0 ρ ((.box pb0 27 ([w0_0, w0_1, w0_2, w0_3, w0_4, w0_5, w0_6, w0_7, w0_8, w0_9, w0_10])) :: (.box pb1 133 ([.func (.func 87) #[] #[]])) :: Γ) w') := by
 rw [Ul.f] at H
 refine Et Tryz.func109 Tryz.ntmps109 rfl <| Wr fun ae ac => As rfl <| Ox ac <| Wr fun af ad => Ofd Zlf rfl <| Obx 0 Zl1 hs rfl <| Obx 1 Zej hs rfl ?_
 obtain ⟨ab, aa, H⟩ := bnd H
 refine Oc rfl (Zx.c hs g0_8 aa) (fun ag w hpost => ?_)
 obtain ⟨rfl, hs⟩ := hpost
 refine As rfl <| Ox ad <| Zk ?_
 obtain rfl := Zz H
 exact r1 rfl ⟨rfl, hs⟩

def Un.f (y0_0 : List ByteArray) (y0_1 : List Val) (y0_2 : List Chs) (y0_3 : List Val) (y0_4 : List Chs) (y0_5 : List Spn) (y0_6 y0_7 : List Val) (y0_8 : List Spn) (y0_9 : List Val) (y0_10 : List Chs) : Option Int := (Xu.f y0_9 1 (y0_0.length : Int)).bind fun ab => (some ab)
theorem Un.c {pb0 : Nat} {w0_0 : Value} {y0_0 : List ByteArray} {w0_1 : Value} {y0_1 : List Val} {w0_2 : Value} {y0_2 : List Chs} {w0_3 : Value} {y0_3 : List Val} {w0_4 : Value} {y0_4 : List Chs} {w0_5 : Value} {y0_5 : List Spn} {w0_6 : Value} {y0_6 : List Val} {w0_7 : Value} {y0_7 : List Val} {w0_8 : Value} {y0_8 : List Spn} {w0_9 : Value} {y0_9 : List Val} {w0_10 : Value} {y0_10 : List Chs} {pb1 : Nat} (hs : St w0 ρ ((.box pb0 27 ([w0_0, w0_1, w0_2, w0_3, w0_4, w0_5, w0_6, w0_7, w0_8, w0_9, w0_10])) :: (.box pb1 133 ([.func (.func 87) #[] #[]])) :: Γ) w) (g0_0 : SlR Rep.str ρ w0_0 y0_0) (g0_1 : SlR X9 ρ w0_1 y0_1) (g0_2 : SlR Ks ρ w0_2 y0_2) (g0_3 : SlR X9 ρ w0_3 y0_3) (g0_4 : SlR Ks ρ w0_4 y0_4) (g0_5 : SlR Kd ρ w0_5 y0_5) (g0_6 : SlR X9 ρ w0_6 y0_6) (g0_7 : SlR X9 ρ w0_7 y0_7) (g0_8 : SlR Kd ρ w0_8 y0_8) (g0_9 : SlR X9 ρ w0_9 y0_9) (g0_10 : SlR Ks ρ w0_10 y0_10) {r : Int} (H : Un.f y0_0 y0_1 y0_2 y0_3 y0_4 y0_5 y0_6 y0_7 y0_8 y0_9 y0_10 = some r) : Zn Tryz.prog 110 [.pointer (some ⟨pb0, 0, none⟩), .pointer (some ⟨pb1, 0, none⟩)] w (fun v w' => v = .int .i64 r ∧ St w0 ρ ((.box pb0 27 ([w0_0, w0_1, w0_2, w0_3, w0_4, w0_5, w0_6, w0_7, w0_8, w0_9, w0_10])) :: (.box pb1 133 ([.func (.func 87) #[] #[]])) :: Γ) w') := by
 rw [Un.f] at H
 refine Et Tryz.func110 Tryz.ntmps110 rfl <| Wr fun ae ac => As rfl <| Ox ac <| Wr fun af ad => Ofd Zk1 rfl <| Obx 0 Zbl hs rfl <| Ofd Zk6 rfl <| Obx 0 Zp2 hs rfl <| O_y rfl (Yv Zga g0_0 rfl) <| Obx 1 Zej hs rfl ?_
 obtain ⟨ab, aa, H⟩ := bnd H
 refine Oc rfl (Xu.c hs g0_9 aa) (fun ag w hpost => ?_)
 obtain ⟨rfl, hs⟩ := hpost
 refine As rfl <| Ox ad <| Zk ?_
 obtain rfl := Zz H
 exact r1 rfl ⟨rfl, hs⟩

def H3.f (x0 : Chs) : Option Bool := (Qu.f x0.is_ 1 18).bind fun ab => (some ab)
theorem H3.c (hs : St w0 ρ (Γ) w) {c0 : List Value} {x0 : Chs} (h0 : Ks.R ρ c0 x0) {r : Bool} (H : H3.f x0 = some r) : Zn Tryz.prog 90 [.agg c0.toArray] w (fun v w' => v = .bool r ∧ St w0 ρ Γ w') := by
 rw [H3.f] at H
 refine Et Tryz.func90 Tryz.ntmps90 rfl ?_
 have ac := h0
 obtain ⟨ad, rfl, ae⟩ := ac
 refine Wr fun ah af => Vg (cs := [.int .i32 x0.lo, .int .i32 x0.hi, ad]) hs rfl rfl (fun ai w hs => As rfl <| Ox af <| Wr fun aj ag => Ofd H4 rfl <| Obx 0 Za8 hs rfl ?_)
 obtain ⟨ab, aa, H⟩ := bnd H
 refine Oc rfl (Qu.c hs ae aa) (fun ak w hpost => ?_)
 obtain ⟨rfl, hs⟩ := hpost
 refine As rfl <| Ox ag <| Zk ?_
 obtain rfl := Zz H
 exact r1 rfl ⟨rfl, (hs.sub (ssk ssr))⟩

def Zr.j1 (ak : Int → Int → Option Int) (aa : Int) (ae : Spn) (ab : Bool) : Option Int := if ab = true then (some aa) else (ak ae.hi (i64.wrap (aa + 1)))
def Zr.l1 : Nat → List Chs → Int → Int → Option Int
  | 0, _, _, _ => none
  | ac + 1, x0, ad, aa => if aa < (x0.length : Int) then (if (0 : Int) ≤ aa ∧ aa < (x0.length : Int) then ((Kl.f (rd x0 aa)).bind fun ae => (if ae.lo ≤ ad then (Zr.j1 (Zr.l1 ac x0) aa ae true) else (if ae.hi < ae.lo then (Zr.j1 (Zr.l1 ac x0) aa ae true) else (if 1114111 < ae.hi then (Zr.j1 (Zr.l1 ac x0) aa ae true) else ((H3.f (rd x0 aa)).bind fun al => (Zr.j1 (Zr.l1 ac x0) aa ae (!al))))))) else none) else (some (-1))
def Zr.f (x0 : List Chs) : Option Int := if 65536 < (x0.length : Int) then (some 65536) else (Zr.l1 K0 x0 (-1) 0)
theorem Zr.c (hs : St w0 ρ (Γ) w) {v0 : Value} {x0 : List Chs} (h0 : SlR Ks ρ v0 x0) {r : Int} (H : Zr.f x0 = some r) : Zn Tryz.prog 100 [v0, .func (.func 66) #[] #[], .func (.func 90) #[] #[]] w (fun v w' => v = .int .i64 r ∧ St w0 ρ Γ w') := by
 rw [Zr.f] at H
 refine Et Tryz.func100 Tryz.ntmps100 rfl <| Wr fun bv a8 => As rfl <| Ox a8 <| Zh fun bw a9 => Wr fun bx ba => Mv rfl <| O_y rfl (Yv Ze5 h0 rfl) <| Ogt rfl <| Ox ba <| Y7 rfl (fun aw => ?_) (fun aw => ?_)
 rw [if_pos aw] at H
 refine Wr fun bz bb => As rfl <| Ox bb <| Zk ?_
 obtain rfl := Zz H
 exact r1 rfl ⟨rfl, hs⟩
 rw [if_neg aw] at H
 refine Wx a9 <| Wr fun b0 bc => As rfl <| Ox bc <| Zh fun b1 bd => Wr fun b2 be => Mv rfl <| O_y rfl (Yv Ze5 h0 rfl) <| Mv rfl <| Ox be <| Zj fun b3 bf b4 => Y9 (σ := Nat × Int × Int × Hp) (fun (ac, ad, aa, ah) => [(1, .func (.func 66) #[] #[]), (2, .func (.func 90) #[] #[]), (7, .int .i32 ad), (14, v0), (15, .int .i64 (x0.length : Int)), (16, .int .i64 aa)]) (fun (ac, ad, aa, ah) w => Zr.l1 ac x0 ad aa = some r ∧ Le ρ ah ∧ St w0 ah (Γ) w) (fun s => s.1) (K0, (-1), 0, ρ) sbn (Ai H (Ai (Le.rfl' _) hs)) ?_
 rintro ⟨ac, ad, aa, ah⟩ w b5 ⟨H, af, hs⟩ am
 show W _ _ _ _ _ _ [(1, .func (.func 66) #[] #[]), (2, .func (.func 90) #[] #[]), (7, .int .i32 ad), (14, v0), (15, .int .i64 (x0.length : Int)), (16, .int .i64 aa)] w
 cases ac with
 | zero => rw [Zr.l1] at H; cases H
 | succ ac =>
 rw [Zr.l1] at H
 refine Wr fun b6 bg => Ols rfl <| Ox bg <| Zh fun b7 bh => Y7 rfl (fun ax => ?_) (fun ax => ?_)
 rw [if_pos ax] at H
 refine Wx bh <| Zh fun b8 bi => Zj fun b9 ca cb => Wr fun cc bj => Mv rfl ?_
 obtain ⟨a7, H⟩ := gd H
 obtain ⟨cd, ce, bk, bl⟩ := (h0.mono af).ix Zdo a7.1 a7.2
 obtain ⟨_, ⟨bm, rfl, ay⟩, bn⟩ := bk
 refine O_y rfl (bl rfl rfl) <| O_y rfl (Qv Zbq Zag rfl rfl (fun j u hu => hs.see (bn j u hu))) <| Y6 Zgz hs rfl (fun bo w hs => As rfl <| Ye (i := 0) Zag hs rfl rfl rfl rfl rfl (Zb rfl (Zb rfl (Zb ay.one Yj))) (fun w hs => Ox bj <| Wr fun cf bp => Mv rfl <| O_y rfl (Xk (i := 0) Zbq Zag hs rfl rfl rfl rfl) ?_))
 obtain ⟨ae, az, H⟩ := bnd H
 refine Xo rfl rfl rfl (Kl.c hs ⟨_, rfl, ay⟩ az) (fun cg w hpost => ?_)
 obtain ⟨ar, bq, rfl, ag, hs, a0⟩ := hpost
 have a1 := a0
 obtain rfl := a1
 refine Y6 Zay hs rfl (fun au w hs => Ye (i := 0) Hj hs rfl rfl rfl rfl rfl (Zb rfl (Zb rfl Yj)) (fun w hs => Ox bp <| W.weak [(1, _), (2, _), (7, _), (8, _), (9, _), (10, _), (14, _), (15, _), (16, _)] sbn ?_))
 refine Zh fun br a2 => Yu fun a3 a4 ai => ?_
 have aj : ∀ (ab : Bool) (w : World), Zr.j1 (Zr.l1 ac x0) aa ae ab = some r → St w0 ar ((.box au 129 ([.int .i32 ae.lo, .int .i32 ae.hi])) :: (.box bo 110 ([.int .i32 ((rd x0 aa).lo), .int .i32 ((rd x0 aa).hi), bm])) :: Γ) w → a3 [(1, .func (.func 66) #[] #[]), (2, .func (.func 90) #[] #[]), (8, .int .i64 aa), (10, .pointer (some ⟨au, 0, none⟩)), (14, v0), (15, .int .i64 (x0.length : Int)), (16, .int .i64 aa), (45, .bool ab)] w := by
  intro ab w H hs
  rw [Zr.j1] at H
  refine a4 _ _ <| Xg rfl (fun an => ?_) (fun an => ?_)
  rw [if_pos an] at H
  refine Wr fun bs a5 => Mv rfl <| As rfl <| Ox a5 <| Zk ?_
  obtain rfl := Zz H
  exact r1 rfl ⟨rfl, ((hs.sub (ssk (ssk ssr))).less (af.trans ag))⟩
  rw [if_neg (bft an)] at H
  refine Wx a2 <| Zc <| Ofd Vr rfl <| Obx 0 Xm hs rfl <| As rfl <| Ox bi <| Zc <| Oad rfl <| Mv rfl <| Zd (am (ac, ae.hi, (i64.wrap (aa + 1)), ar) _ _ sbn (Ai H (Ai (af.trans ag) (hs.sub (ssk (ssk ssr))))) (Nat.lt_succ_self _))
 refine Zc <| Ofd Uw rfl <| Obx 0 Xm hs rfl <| Mv rfl <| Ole rfl <| Mv rfl <| X6 (dj := 28) rfl (fun ao => ?_) (fun ao => ?_)
 rw [if_pos ao] at H
 refine On rfl <| On rfl <| On rfl <| On rfl <| On rfl <| Opk rfl <| Mv rfl <| On rfl <| On rfl <| On rfl <| Opk rfl <| Mv rfl <| On rfl <| On rfl ?_
 refine On rfl <| On rfl <| Opk rfl <| Zd (ai _ _ _ sbn (aj true _ H hs))
 rw [if_neg ao] at H
 refine Oe rfl <| Ofd Vr rfl <| Oe rfl <| Obx 0 Xm hs rfl <| Oe rfl <| Ofd Uw rfl <| Oe rfl <| Obx 0 Xm hs rfl <| Oe rfl <| Ols rfl <| Opk rfl <| Mv rfl <| X6 (dj := 35) rfl (fun ap => ?_) (fun ap => ?_)
 rw [if_pos ap] at H
 refine On rfl <| On rfl <| On rfl <| Opk rfl <| Mv rfl <| On rfl <| On rfl <| On rfl <| On rfl <| Opk rfl <| Zd (ai _ _ _ sbn (aj true _ H hs))
 rw [if_neg ap] at H
 refine Oe rfl <| Ofd Vr rfl <| Oe rfl <| Obx 0 Xm hs rfl <| Oe rfl <| Ogt rfl <| Opk rfl <| Mv rfl <| X6 (dj := 40) rfl (fun aq => ?_) (fun aq => ?_)
 rw [if_pos aq] at H
 refine On rfl <| On rfl <| On rfl <| On rfl <| Opk rfl <| Zd (ai _ _ _ sbn (aj true _ H hs))
 rw [if_neg aq] at H
 refine Oe rfl <| Mv rfl <| Oe rfl <| O_y rfl (Xk (i := 1) Zbq Zag hs rfl rfl rfl rfl) <| Oe rfl ?_
 obtain ⟨al, av, H⟩ := bnd H
 refine Xo rfl rfl rfl (H3.c hs ⟨_, rfl, (ay.mono ag)⟩ av) (fun bt w hpost => ?_)
 obtain ⟨rfl, hs⟩ := hpost
 refine Oe rfl <| Ont rfl <| Opk rfl <| Zd (ai _ _ _ sbn (aj (!al) _ H hs))
 rw [if_neg ax] at H
 refine Y4 (bf _ _ (bd _ _ <| Wr fun bu a6 => As rfl <| Ox a6 <| Zk ?_))
 obtain rfl := Zz H
 exact r1 rfl ⟨rfl, (hs.less af)⟩

def Um.f (y0_0 : List ByteArray) (y0_1 : List Val) (y0_2 : List Chs) (y0_3 : List Val) (y0_4 : List Chs) (y0_5 : List Spn) (y0_6 y0_7 : List Val) (y0_8 : List Spn) (y0_9 : List Val) (y0_10 : List Chs) : Option Int := (Zr.f y0_10).bind fun ab => (some ab)
theorem Um.c {pb0 : Nat} {w0_0 : Value} {y0_0 : List ByteArray} {w0_1 : Value} {y0_1 : List Val} {w0_2 : Value} {y0_2 : List Chs} {w0_3 : Value} {y0_3 : List Val} {w0_4 : Value} {y0_4 : List Chs} {w0_5 : Value} {y0_5 : List Spn} {w0_6 : Value} {y0_6 : List Val} {w0_7 : Value} {y0_7 : List Val} {w0_8 : Value} {y0_8 : List Spn} {w0_9 : Value} {y0_9 : List Val} {w0_10 : Value} {y0_10 : List Chs} {pb1 : Nat} (hs : St w0 ρ ((.box pb0 27 ([w0_0, w0_1, w0_2, w0_3, w0_4, w0_5, w0_6, w0_7, w0_8, w0_9, w0_10])) :: (.box pb1 135 ([.func (.func 90) #[] #[]])) :: Γ) w) (g0_0 : SlR Rep.str ρ w0_0 y0_0) (g0_1 : SlR X9 ρ w0_1 y0_1) (g0_2 : SlR Ks ρ w0_2 y0_2) (g0_3 : SlR X9 ρ w0_3 y0_3) (g0_4 : SlR Ks ρ w0_4 y0_4) (g0_5 : SlR Kd ρ w0_5 y0_5) (g0_6 : SlR X9 ρ w0_6 y0_6) (g0_7 : SlR X9 ρ w0_7 y0_7) (g0_8 : SlR Kd ρ w0_8 y0_8) (g0_9 : SlR X9 ρ w0_9 y0_9) (g0_10 : SlR Ks ρ w0_10 y0_10) {r : Int} (H : Um.f y0_0 y0_1 y0_2 y0_3 y0_4 y0_5 y0_6 y0_7 y0_8 y0_9 y0_10 = some r) : Zn Tryz.prog 111 [.pointer (some ⟨pb0, 0, none⟩), .pointer (some ⟨pb1, 0, none⟩)] w (fun v w' => v = .int .i64 r ∧ St w0 ρ ((.box pb0 27 ([w0_0, w0_1, w0_2, w0_3, w0_4, w0_5, w0_6, w0_7, w0_8, w0_9, w0_10])) :: (.box pb1 135 ([.func (.func 90) #[] #[]])) :: Γ) w') := by
 rw [Um.f] at H
 refine Et Tryz.func111 Tryz.ntmps111 rfl <| Wr fun ae ac => As rfl <| Ox ac <| Wr fun af ad => Ofd Zhf rfl <| Obx 0 Zdw hs rfl <| Obx 1 Zwp hs rfl ?_
 obtain ⟨ab, aa, H⟩ := bnd H
 refine Oc rfl (Zr.c hs g0_10 aa) (fun ag w hpost => ?_)
 obtain ⟨rfl, hs⟩ := hpost
 refine As rfl <| Ox ad <| Zk ?_
 obtain rfl := Zz H
 exact r1 rfl ⟨rfl, hs⟩

def Zu.j1 (ah : (List (Int × Int)) → Int → Int → Option (Int × (List (Int × Int)))) (ad aa : Int) (ac : List (Int × Int)) (ae : Int) : Option (Int × (List (Int × Int))) := if ae = 0 then (some (0, ac)) else (ah ac (i64.wrap (ad + ae)) (i64.wrap (aa + 1)))
def Zu.l1 : Nat → (Int → List Chs → (List (Int × Int)) → (List (Int × Int)) → Option (Int × (List (Int × Int)))) → List Chs → (List (Int × Int)) → Int → (List (Int × Int)) → Int → Int → Option (Int × (List (Int × Int)))
  | 0, _, _, _, _, _, _, _ => none
  | af + 1, rec, y0_0, y1, x1, ab, ad, aa => if aa < (((rd y0_0 x1).is_).length : Int) then (if (0 : Int) ≤ aa ∧ aa < (((rd y0_0 x1).is_).length : Int) then (if ((Vo y1 (rd ((rd y0_0 x1).is_) aa)).isSome) = true then ((rec ((Vo y1 (rd ((rd y0_0 x1).is_) aa)).getD 0) y0_0 y1 ab).bind fun ag => (Zu.j1 (Zu.l1 af rec y0_0 y1 x1) ad aa ag.2 ag.1)) else (Zu.j1 (Zu.l1 af rec y0_0 y1 x1) ad aa ab 1)) else none) else (if 18 < ad then (some (0, ab)) else (some (ad, Ht ab x1 ad)))
def Zu.b (rec : Int → List Chs → (List (Int × Int)) → (List (Int × Int)) → Option (Int × (List (Int × Int)))) (x1 : Int) (y0_0 : List Chs) (y1 : List (Int × Int)) (y2 : List (Int × Int)) : Option (Int × (List (Int × Int))) := if ((Vo y2 x1).isSome) = true then (some ((Vo y2 x1).getD 0, y2)) else (if (0 : Int) ≤ x1 ∧ x1 < (y0_0.length : Int) then (Zu.l1 K0 rec y0_0 y1 x1 (Ht y2 x1 0) 0 0) else none)
def Zu.f : Nat → Int → List Chs → (List (Int × Int)) → (List (Int × Int)) → Option (Int × (List (Int × Int)))
  | 0, _, _, _, _ => none
  | k + 1, x1, y0_0, y1, y2 => Zu.b (Zu.f k) x1 y0_0 y1 y2
def Zu.Spec (rec : Int → List Chs → (List (Int × Int)) → (List (Int × Int)) → Option (Int × (List (Int × Int)))) : Prop := ∀ {w0 w : World} {ρ : Hp} {Γ : List Q5} {pb0 : Nat} {w0_0 : Value} {y0_0 : List Chs} {pm1 : Nat} {y1 : List (Int × Int)} {pm2 : Nat} {y2 : List (Int × Int)} (hs : St w0 ρ ((.box pb0 184 ([w0_0, .map (some pm1), .map (some pm2)])) :: (.obj pm1 (X4 (Ug.int Za9).enc (vs (Value.int .i64) y1))) :: (.obj pm2 (X4 (Ug.int un3).enc (vs (Value.int .i64) y2))) :: Γ) w) {x1 : Int} (g0_0 : SlR Ks ρ w0_0 y0_0) {r : Int × (List (Int × Int))}, rec x1 y0_0 y1 y2 = some r → Zn Tryz.prog 149 [.pointer (some ⟨pb0, 0, none⟩), .int .i64 x1] w (fun v w' => v = .int .i64 r.1 ∧ St w0 ρ ((.box pb0 184 ([w0_0, .map (some pm1), .map (some pm2)])) :: (.obj pm1 (X4 (Ug.int Za9).enc (vs (Value.int .i64) y1))) :: (.obj pm2 (X4 (Ug.int un3).enc (vs (Value.int .i64) r.2))) :: Γ) w')
theorem Zu.cb (rec : Int → List Chs → (List (Int × Int)) → (List (Int × Int)) → Option (Int × (List (Int × Int)))) (hrec : Zu.Spec rec) {w0 w : World} {ρ : Hp} {Γ : List Q5} {pb0 : Nat} {w0_0 : Value} {y0_0 : List Chs} {pm1 : Nat} {y1 : List (Int × Int)} {pm2 : Nat} {y2 : List (Int × Int)} (hs : St w0 ρ ((.box pb0 184 ([w0_0, .map (some pm1), .map (some pm2)])) :: (.obj pm1 (X4 (Ug.int Za9).enc (vs (Value.int .i64) y1))) :: (.obj pm2 (X4 (Ug.int un3).enc (vs (Value.int .i64) y2))) :: Γ) w) {x1 : Int} (g0_0 : SlR Ks ρ w0_0 y0_0) {r : Int × (List (Int × Int))} (H : Zu.b rec x1 y0_0 y1 y2 = some r) : Zn Tryz.prog 149 [.pointer (some ⟨pb0, 0, none⟩), .int .i64 x1] w (fun v w' => v = .int .i64 r.1 ∧ St w0 ρ ((.box pb0 184 ([w0_0, .map (some pm1), .map (some pm2)])) :: (.obj pm1 (X4 (Ug.int Za9).enc (vs (Value.int .i64) y1))) :: (.obj pm2 (X4 (Ug.int un3).enc (vs (Value.int .i64) r.2))) :: Γ) w') := by
 rw [Zu.b] at H
 refine Et Tryz.func149 Tryz.ntmps149 rfl <| Wr fun b6 bc => As rfl <| Ox bc <| Zh fun b7 bd => Wr fun b8 be => Mv rfl <| Onp rfl <| Ofd Zkh rfl <| Obx 0 Zrs hs rfl <| Mv rfl <| O_y rfl (Zgd (i := 2) (m := y2) (x := x1) (E := (Value.int .i64)) Zr2 (Ug.int un3) trivial (fun _ _ => trivial) zv3 hs rfl rfl rfl) ?_
 refine Mv rfl <| Oxt rfl <| Oxt rfl <| As rfl <| As rfl <| Ox be <| Wr fun b9 bf => Mv rfl <| Ox bf <| W.weak [(0, _), (1, _), (5, _), (22, _)] (T4 rfl) <| Xg rfl (fun ap => ?_) (fun ap => ?_)
 rw [if_pos ap] at H
 refine Wr fun ca bg => Mv rfl <| As rfl <| Ox bg <| Zk ?_
 obtain rfl := Zz H
 exact r1 rfl ⟨rfl, hs⟩
 rw [if_neg (bft ap)] at H
 refine Wx bd <| Wr fun cc bh => Mv rfl <| Onp rfl <| Ofd Zkh rfl <| Obx 0 Zrs hs rfl <| Mv rfl <| Zcp (i := 2) (m := y2) (x := x1) (v := 0) (E := (Value.int .i64)) Zr2 (Ug.int un3) trivial (fun _ _ => trivial) hs rfl rfl rfl rfl (fun w hs => Ox bh <| Wr fun cd bi => As rfl <| Zd (bi _ _ ?_))
 refine Zh fun ce bj => Wr fun cf bk => Mv rfl <| Onp rfl <| Ofd Zuh rfl <| Obx 0 Zdw hs rfl <| Mv rfl ?_
 obtain ⟨a9, H⟩ := gd H
 obtain ⟨cg, ch, bl, bm⟩ := g0_0.ix Zdo a9.1 a9.2
 obtain ⟨_, ⟨aq, rfl, ba⟩, bn⟩ := bl
 refine O_y rfl (bm rfl rfl) <| Ofd H4 rfl <| O_y rfl (Xp Za8 rfl (hs.see (bn 2 _ rfl))) <| O_y rfl (Yv V2 ba rfl) <| Mv rfl <| Ox bk <| W.weak [(0, _), (1, _), (7, _), (36, _), (37, _), (38, _)] sbn ?_
 refine Zj fun ci bo cj => Y9 (σ := Nat × (List (Int × Int)) × Int × Int) (fun (af, ab, ad, aa) => [(0, .pointer (some ⟨pb0, 0, none⟩)), (1, .int .i64 x1), (7, .int .i64 ad), (36, aq), (37, .int .i64 (((rd y0_0 x1).is_).length : Int)), (38, .int .i64 aa)]) (fun (af, ab, ad, aa) w => Zu.l1 af rec y0_0 y1 x1 ab ad aa = some r ∧ St w0 ρ ((.box pb0 184 ([w0_0, .map (some pm1), .map (some pm2)])) :: (.obj pm1 (X4 (Ug.int Za9).enc (vs (Value.int .i64) y1))) :: (.obj pm2 (X4 (Ug.int un3).enc (vs (Value.int .i64) ab))) :: Γ) w) (fun s => s.1) (K0, (Ht y2 x1 0), 0, 0) sbn (Ai H hs) ?_
 rintro ⟨af, ab, ad, aa⟩ w ck ⟨H, hs⟩ ai
 show W _ _ _ _ _ _ [(0, .pointer (some ⟨pb0, 0, none⟩)), (1, .int .i64 x1), (7, .int .i64 ad), (36, aq), (37, .int .i64 (((rd y0_0 x1).is_).length : Int)), (38, .int .i64 aa)] w
 cases af with
 | zero => rw [Zu.l1] at H; cases H
 | succ af =>
 rw [Zu.l1] at H
 refine Wr fun cl bp => Ols rfl <| Ox bp <| Zh fun cm bq => Y7 rfl (fun ar => ?_) (fun ar => ?_)
 rw [if_pos ar] at H
 refine Wx bq <| Zh fun cn br => Zj fun co cp cq => Zh fun cr bs => Zc ?_
 obtain ⟨bb, H⟩ := gd H
 obtain ⟨cs, ct, au, av⟩ := ba.ix Q7 bb.1 bb.2
 refine O_y rfl (av rfl rfl) <| O_y rfl (Xp Xm rfl (hs.see au.int)) <| As rfl <| Ox bs <| Wr fun bt aw => As rfl <| Ox aw <| Yu fun ax ay am => ?_
 have an : ∀ (ac : List (Int × Int)) (ae : Int) (w : World), Zu.j1 (Zu.l1 af rec y0_0 y1 x1) ad aa ac ae = some r → St w0 ρ ((.box pb0 184 ([w0_0, .map (some pm1), .map (some pm2)])) :: (.obj pm1 (X4 (Ug.int Za9).enc (vs (Value.int .i64) y1))) :: (.obj pm2 (X4 (Ug.int un3).enc (vs (Value.int .i64) ac))) :: Γ) w → ax [(0, .pointer (some ⟨pb0, 0, none⟩)), (1, .int .i64 x1), (7, .int .i64 ad), (10, .int .i64 ae), (36, aq), (37, .int .i64 (((rd y0_0 x1).is_).length : Int)), (38, .int .i64 aa)] w := by
  intro ac ae w H hs
  rw [Zu.j1] at H
  refine ay _ _ <| Zh fun bu az => Wr fun bv a0 => Mv rfl <| Oeq rfl <| Ox a0 <| Y7 rfl (fun aj => ?_) (fun aj => ?_)
  rw [if_pos aj] at H
  refine Wr fun bw a1 => As rfl <| Ox a1 <| Zk ?_
  obtain rfl := Zz H
  exact r1 rfl ⟨rfl, hs⟩
  rw [if_neg aj] at H
  refine Wx az <| Zc <| Mv rfl <| Mv rfl <| Oad rfl <| As rfl <| Ox br <| Zc <| Oad rfl <| Mv rfl <| Zd (ai (af, ac, (i64.wrap (ad + ae)), (i64.wrap (aa + 1))) _ _ sbn (Ai H hs) (Nat.lt_succ_self _))
 refine Wr fun bx a2 => Mv rfl <| Onp rfl <| Ofd Zph rfl <| Obx 0 Zu7 hs rfl <| Mv rfl <| O_y rfl (Zgd (i := 1) (m := y1) (x := rd ((rd y0_0 x1).is_) aa) (E := (Value.int .i64)) Zuy (Ug.int Za9) trivial (fun _ _ => trivial) zv3 hs rfl rfl rfl) <| Mv rfl <| Oxt rfl <| Oxt rfl <| As rfl <| As rfl <| Zd (a2 _ _ ?_)
 refine W.weak [(0, _), (1, _), (7, _), (10, _), (11, _), (12, _), (36, _), (37, _), (38, _)] sbn ?_
 refine Wr fun bz a3 => Mv rfl <| Ox a3 <| Xg rfl (fun ak => ?_) (fun ak => ?_)
 rw [if_pos ak] at H
 refine Zc <| Mv rfl <| Mv rfl ?_
 have hs := hs.front 2 rfl
 have hs := hs.front 2 rfl
 have hs := hs.front 2 rfl
 obtain ⟨ag, ao, H⟩ := bnd H
 refine Oc rfl (hrec hs g0_0 ao) (fun b0 w hpost => ?_)
 obtain ⟨rfl, hs⟩ := hpost
 have hs := hs.sink 2
 have hs := hs.sink 2
 have hs := hs.sink 2
 refine As rfl <| Zd (am _ _ _ sbn (an ag.2 ag.1 _ H hs))
 rw [if_neg (bft ak)] at H
 exact Ua (am _ _ _ sbn (an ab 1 _ H hs))
 rw [if_neg ar] at H
 refine Y4 (bo _ _ (bj _ _ <| Zh fun b1 a4 => Wr fun b2 a5 => Mv rfl <| Ogt rfl <| Ox a5 <| Y7 rfl (fun al => ?_) (fun al => ?_)))
 rw [if_pos al] at H
 refine Wr fun b3 a6 => As rfl <| Ox a6 <| Zk ?_
 obtain rfl := Zz H
 exact r1 rfl ⟨rfl, hs⟩
 rw [if_neg al] at H
 refine Wx a4 <| Wr fun b4 a7 => Mv rfl <| Onp rfl <| Ofd Zkh rfl <| Obx 0 Zrs hs rfl <| Mv rfl <| Mv rfl <| Zcp (i := 2) (m := ab) (x := x1) (v := ad) (E := (Value.int .i64)) Zr2 (Ug.int un3) trivial (fun _ _ => trivial) hs rfl rfl rfl rfl (fun w hs => Ox a7 <| W.weak [(7, _)] (S1 rfl) <| Zh fun b5 a8 => Zc ?_)
 refine Mv rfl <| As rfl <| Ox a8 <| Zk ?_
 obtain rfl := Zz H
 exact r1 rfl ⟨rfl, hs⟩
theorem Zu.c (k : Nat) : Zu.Spec (Zu.f k) := by
 induction k with
 | zero => intro w0 w ρ Γ pb0 w0_0 y0_0 pm1 y1 pm2 y2 hs x1 g0_0 r H; exact nomatch (show (none : Option _) = some _ from H)
 | succ k ih => intro w0 w ρ Γ pb0 w0_0 y0_0 pm1 y1 pm2 y2 hs x1 g0_0 r H; exact Zu.cb (Zu.f k) ih hs g0_0 H

def Xw.j1 (an : (List (Vector Int 2 × Bool)) → (List (Int × Int)) → Int → Option Int) (aa : Int) (ae : List (Vector Int 2 × Bool)) (af : List (Int × Int)) : Option Int := an ae af (i64.wrap (aa + 1))
def Xw.l1 : Nat → List Chs → (List (Int × Int)) → (List (Vector Int 2 × Bool)) → (List (Int × Int)) → Int → Option Int
  | 0, _, _, _, _, _ => none
  | ah + 1, x0, ab, ac, ag, aa => if aa < (x0.length : Int) then (if (0 : Int) ≤ aa ∧ aa < (x0.length : Int) then ((Zu.f K0 aa x0 ab ag).bind fun aj => (if aj.1 = 0 then (some aa) else (if (((rd x0 aa).is_).length : Int) = 2 then (if (0 : Int) ≤ 0 ∧ 0 < (((rd x0 aa).is_).length : Int) then (if (0 : Int) ≤ 1 ∧ 1 < (((rd x0 aa).is_).length : Int) then (if ((Vo ac (#v[rd ((rd x0 aa).is_) 0, rd ((rd x0 aa).is_) 1])).getD false) = true then (some aa) else (Xw.j1 (Xw.l1 ah x0 ab) aa (Ht ac (#v[rd ((rd x0 aa).is_) 0, rd ((rd x0 aa).is_) 1]) true) aj.2)) else none) else none) else (Xw.j1 (Xw.l1 ah x0 ab) aa ac aj.2)))) else none) else (some (-1))
def Xw.l2 : Nat → List Chs → (List (Int × Int)) → Int → Option Int
  | 0, _, _, _ => none
  | ai + 1, x0, ab, ad => if ad < (x0.length : Int) then (if (0 : Int) ≤ ad ∧ ad < (x0.length : Int) then ((Xw.l2 ai x0) (Ht ab ((rd x0 ad).lo) ad) (i64.wrap (ad + 1))) else none) else (Xw.l1 K0 x0 ab ([] : List (Vector Int 2 × Bool)) ([] : List (Int × Int)) 0)
def Xw.f (x0 : List Chs) : Option Int := Xw.l2 K0 x0 ([] : List (Int × Int)) 0
theorem Xw.c (hs : St w0 ρ (Γ) w) {v0 : Value} {x0 : List Chs} (h0 : SlR Ks ρ v0 x0) {r : Int} (H : Xw.f x0 = some r) : Zn Tryz.prog 113 [v0] w (fun v w' => v = .int .i64 r ∧ St w0 ρ Γ w') := by
 rw [Xw.f] at H
 refine Et Tryz.func113 Tryz.ntmps113 rfl <| Wr fun di bx => As rfl <| Ox bx <| Wr fun dj bz => Mv rfl <| U6 (Ug.int Za9).enc (Value.int .i64) hs rfl (fun ak w hs => U6 (Ug.int un3).enc (Value.int .i64) hs rfl (fun al w hs => O_y rfl (Qe (cs := [v0, .map (some ak), .map (some al)]) Zw2 Zwl ((Z2.cons rfl h0.cellsL (Z2.cons rfl rfl (Z2.cons rfl rfl Z2.nil)))) Zwa (by kernel_rfl)) <| Vg (cs := [v0, .map (some ak), .map (some al)]) hs rfl rfl (fun am w hs => As rfl <| Zd (bz _ _ ?_))))
 refine Zh fun dk b0 => Wr fun dl b1 => Mv rfl <| O_y rfl (Yv Ze5 h0 rfl) <| Mv rfl <| Ox b1 <| Zj fun dm b2 dn => Y9 (σ := Nat × (List (Int × Int)) × Int) (fun (ai, ab, ad) => [(0, v0), (3, .pointer (some ⟨am, 0, none⟩)), (15, v0), (16, .int .i64 (x0.length : Int)), (17, .int .i64 ad)]) (fun (ai, ab, ad) w => Xw.l2 ai x0 ab ad = some r ∧ St w0 ρ ((.box am 184 ([v0, .map (some ak), .map (some al)])) :: (.obj al (X4 (Ug.int un3).enc (vs (Value.int .i64) ([] : List (Int × Int))))) :: (.obj ak (X4 (Ug.int Za9).enc (vs (Value.int .i64) ab))) :: Γ) w) (fun s => s.1) (K0, ([] : List (Int × Int)), 0) sbn (Ai H hs) ?_
 rintro ⟨ai, ab, ad⟩ w dp ⟨H, hs⟩ aq
 show W _ _ _ _ _ _ [(0, v0), (3, .pointer (some ⟨am, 0, none⟩)), (15, v0), (16, .int .i64 (x0.length : Int)), (17, .int .i64 ad)] w
 cases ai with
 | zero => rw [Xw.l2] at H; cases H
 | succ ai =>
 rw [Xw.l2] at H
 refine Wr fun dq b3 => Ols rfl <| Ox b3 <| Zh fun dr b4 => Y7 rfl (fun a4 => ?_) (fun a4 => ?_)
 rw [if_pos a4] at H
 refine Wx b4 <| Zh fun ds b5 => Zj fun dt du dv => Wr fun dw b6 => Mv rfl ?_
 obtain ⟨bv, H⟩ := gd H
 obtain ⟨dx, dy, b7, b8⟩ := h0.ix Zdo bv.1 bv.2
 obtain ⟨_, ⟨b9, rfl, ca⟩, cb⟩ := b7
 refine O_y rfl (b8 rfl rfl) <| O_y rfl (Qv Zbq Zag rfl rfl (fun j u hu => hs.see (cb j u hu))) <| Y6 Zgz hs rfl (fun cc w hs => As rfl <| Ye (i := 0) Zag hs rfl rfl rfl rfl rfl (Zb rfl (Zb rfl (Zb ca.one Yj))) (fun w hs => Ox b6 <| Qn 8 [0, 1, 2, 4, 0, 16, 0, 127] [124, 120, 112, 112, 79, 79, 63, 0] [0, 1, 3, 7, 0, 16, 0, 127] [7] (fun w => St w0 ρ ((.box cc 110 ([.int .i32 ((rd x0 ad).lo), .int .i32 ((rd x0 ad).hi), b9])) :: (.box am 184 ([v0, .map (some ak), .map (some al)])) :: (.obj al (X4 (Ug.int un3).enc (vs (Value.int .i64) ([] : List (Int × Int))))) :: (.obj ak (X4 (Ug.int Za9).enc (vs (Value.int .i64) ab))) :: Γ) w) Vl (by kernel_rfl) (fun sh => ?_)))
 have hs := hs.drew
 refine Fm 0 sh rfl <| Fp 1 sh rfl (fun w => K1 rfl) <| Fp 2 sh rfl (fun w => Zp Zph rfl) <| Fy 3 sh rfl hs (fun w hs => Yb 1 Zu7 hs rfl rfl rfl) <| Fp 4 sh rfl (fun w => Zp Zbu rfl) <| Fy 5 sh rfl hs (fun w hs => Yb 0 Xm hs rfl rfl rfl) <| Fm 6 sh rfl <| F1 7 sh rfl (fun dz cd => Zcp (i := 3) (m := ab) (x := (rd x0 ad).lo) (v := ad) (E := (Value.int .i64)) Zuy (Ug.int Za9) trivial (fun _ _ => trivial) hs rfl rfl rfl rfl (fun w hs => Zd (cd _ _ (fun h _ => absurd h (by decide)) <| FE sh (b5 _ _ <| W.weak [(0, _), (3, _), (15, _), (16, _), (17, _)] sbn ?_))))
 refine Zc <| Oad rfl <| Mv rfl <| Zd (aq (ai, (Ht ab ((rd x0 ad).lo) ad), (i64.wrap (ad + 1))) _ _ sbn (Ai H (hs.sub (ssk (ssc (ssc (ssc ssr)))))) (Nat.lt_succ_self _))
 rw [if_neg a4] at H
 refine Y4 (b2 _ _ (b0 _ _ <| Wr fun ea ce => U6 Uf.enc Value.bool hs rfl (fun ax w hs => As rfl <| Ox ce <| Zh fun eb cf => Wr fun ec cg => Mv rfl <| O_y rfl (Yv Ze5 h0 rfl) <| Mv rfl <| Ox cg <| Zj fun ed a5 ch => ?_)))
 refine Y9 (σ := Nat × (List (Vector Int 2 × Bool)) × (List (Int × Int)) × Int) (fun (ah, ac, ag, aa) => [(3, .pointer (some ⟨am, 0, none⟩)), (6, .map (some ax)), (31, v0), (32, .int .i64 (x0.length : Int)), (33, .int .i64 aa)]) (fun (ah, ac, ag, aa) w => Xw.l1 ah x0 ab ac ag aa = some r ∧ St w0 ρ ((.obj ax (X4 Uf.enc (vs Value.bool ac))) :: (.box am 184 ([v0, .map (some ak), .map (some al)])) :: (.obj al (X4 (Ug.int un3).enc (vs (Value.int .i64) ag))) :: (.obj ak (X4 (Ug.int Za9).enc (vs (Value.int .i64) ab))) :: Γ) w) (fun s => s.1) (K0, ([] : List (Vector Int 2 × Bool)), ([] : List (Int × Int)), 0) sbn (Ai H hs) ?_
 rintro ⟨ah, ac, ag, aa⟩ w ci ⟨H, hs⟩ ao
 show W _ _ _ _ _ _ [(3, .pointer (some ⟨am, 0, none⟩)), (6, .map (some ax)), (31, v0), (32, .int .i64 (x0.length : Int)), (33, .int .i64 aa)] w
 cases ah with
 | zero => rw [Xw.l1] at H; cases H
 | succ ah =>
 rw [Xw.l1] at H
 refine Wr fun cj a6 => Ols rfl <| Ox a6 <| Zh fun ck a7 => Y7 rfl (fun ar => ?_) (fun ar => ?_)
 rw [if_pos ar] at H
 refine Wx a7 <| Yu fun a8 a9 ay => ?_
 have az : ∀ (ae : List (Vector Int 2 × Bool)) (af : List (Int × Int)) (w : World), Xw.j1 (Xw.l1 ah x0 ab) aa ae af = some r → St w0 ρ ((.obj ax (X4 Uf.enc (vs Value.bool ae))) :: (.box am 184 ([v0, .map (some ak), .map (some al)])) :: (.obj al (X4 (Ug.int un3).enc (vs (Value.int .i64) af))) :: (.obj ak (X4 (Ug.int Za9).enc (vs (Value.int .i64) ab))) :: Γ) w → a8 [(3, .pointer (some ⟨am, 0, none⟩)), (6, .map (some ax)), (31, v0), (32, .int .i64 (x0.length : Int)), (33, .int .i64 aa)] w := by
  intro ae af w H hs
  rw [Xw.j1] at H
  refine a9 _ _ <| Zc <| Oad rfl <| Mv rfl <| Zd (ao (ah, ae, af, (i64.wrap (aa + 1))) _ _ sbn (Ai H hs) (Nat.lt_succ_self _))
 refine Zj fun cl cm cn => Wr fun co ba => Mv rfl ?_
 obtain ⟨a0, H⟩ := gd H
 obtain ⟨cp, cq, bb, bc⟩ := h0.ix Zdo a0.1 a0.2
 obtain ⟨_, ⟨bd, rfl, ap⟩, be⟩ := bb
 refine O_y rfl (bc rfl rfl) <| O_y rfl (Qv Zbq Zag rfl rfl (fun j u hu => hs.see (be j u hu))) <| Y6 Zgz hs rfl (fun bf w hs => As rfl <| Ye (i := 0) Zag hs rfl rfl rfl rfl rfl (Zb rfl (Zb rfl (Zb ap.one Yj))) (fun w hs => Ox ba <| Zh fun cr bg => Wr fun ct bh => Mv rfl <| Mv rfl ?_))
 have hs := hs.front 3 rfl
 have hs := hs.front 4 rfl
 have hs := hs.front 4 rfl
 obtain ⟨aj, a1, H⟩ := bnd H
 refine Oc rfl ((Zu.c K0) hs h0 a1) (fun cu w hpost => ?_)
 obtain ⟨rfl, hs⟩ := hpost
 have hs := hs.sink 4
 have hs := hs.sink 4
 have hs := hs.sink 3
 refine Oeq rfl <| Ox bh <| W.weak [(3, _), (6, _), (7, _), (8, _), (31, _), (32, _), (33, _), (41, _)] sbn ?_
 refine Y7 rfl (fun au => ?_) (fun au => ?_)
 rw [if_pos au] at H
 refine Wr fun cv bi => Mv rfl <| As rfl <| Ox bi <| Zk ?_
 obtain rfl := Zz H
 exact r1 rfl ⟨rfl, (hs.sub (ssk (ssk (ssk (ssk (ssk ssr))))))⟩
 rw [if_neg au] at H
 refine Wx bg <| Wr fun cw bj => Ofd H4 rfl <| Obx 0 Za8 hs rfl <| O_y rfl (Yv V2 ap rfl) <| Oeq rfl <| Ox bj <| Y7 rfl (fun av => ?_) (fun av => ?_)
 rw [if_pos av] at H
 refine Zh fun cx bk => Qn 11 [0, 1, 2, 4, 0, 16, 32, 64, 136, 0, 1023] [1020, 1016, 1008, 752, 975, 911, 783, 527, 512, 511, 0] [0, 1, 3, 7, 0, 16, 48, 112, 255, 0, 1023] [10] (fun w => St w0 ρ ((.box bf 110 ([.int .i32 ((rd x0 aa).lo), .int .i32 ((rd x0 aa).hi), bd])) :: (.obj ax (X4 Uf.enc (vs Value.bool ac))) :: (.box am 184 ([v0, .map (some ak), .map (some al)])) :: (.obj al (X4 (Ug.int un3).enc (vs (Value.int .i64) aj.2))) :: (.obj ak (X4 (Ug.int Za9).enc (vs (Value.int .i64) ab))) :: Γ) w) Vl (by kernel_rfl) (fun sh => ?_)
 have hs := hs.drew
 refine Fp 0 sh rfl (fun w => Zp H4 rfl) <| Fy 1 sh rfl hs (fun w hs => Yb 0 Za8 hs rfl rfl rfl) ?_
 obtain ⟨a2, H⟩ := gd H
 obtain ⟨cy, cz, bl, bm⟩ := ap.ix Q7 a2.1 a2.2
 refine Fp 2 sh rfl (fun w => bm rfl rfl) <| Fy 3 sh rfl hs (fun w hs => Xp Xm rfl (hs.see bl.int)) <| Fp 4 sh rfl (fun w => Zp H4 rfl) <| Fy 5 sh rfl hs (fun w hs => Yb 0 Za8 hs rfl rfl rfl) ?_
 obtain ⟨a3, H⟩ := gd H
 obtain ⟨da, db, bn, bo⟩ := ap.ix Q7 a3.1 a3.2
 refine Fp 6 sh rfl (fun w => bo rfl rfl) <| Fy 7 sh rfl hs (fun w hs => Xp Xm rfl (hs.see bn.int)) <| Fp 8 sh rfl (fun w => Ze0 (xs := [.tmp 50, .tmp 54]) (zs := vcs (Value.int .i32) #v[rd ((rd x0 aa).is_) 0, rd ((rd x0 aa).is_) 1]) Zpi Zf0 Zry rfl rfl rfl (Zcz rfl (Zcz rfl Zki)) rfl) <| F1 9 sh rfl (fun dc bp => Y6 Zwg hs rfl (fun bw w hs => Zd (bp _ _ (fun _ _ => (hs.sub (ssk (ssc (ssc (ssc (ssc (ssc ssr)))))))) <| F1 10 sh rfl (fun dd bq => Ze6 (j := 0) (u := #v[rd ((rd x0 aa).is_) 0, rd ((rd x0 aa).is_) 1]) Zq5 (Ue .i32) hs rfl rfl rfl (fun w hs => Zd (bq _ _ (fun h _ => absurd h (by decide)) <| FE sh (bk _ _ <| W.weak [(3, _), (6, _), (7, _), (9, _), (31, _), (32, _), (33, _)] sbn ?_)))))))
 refine Zh fun de br => Wr fun df bs => Mv rfl <| O_y rfl (Zcn (j := 0) Zuv Zq5 hs rfl rfl) <| O_y rfl (Zp9 (i := 2) (m := ac) (x := #v[rd ((rd x0 aa).is_) 0, rd ((rd x0 aa).is_) 1]) (E := Value.bool) Zu0 Uf trivial (fun _ _ => trivial) zv4 hs rfl rfl rfl) <| Ox bs <| Xg rfl (fun aw => ?_) (fun aw => ?_)
 rw [if_pos aw] at H
 refine Wr fun dg bt => Mv rfl <| As rfl <| Ox bt <| Zk ?_
 obtain rfl := Zz H
 exact r1 rfl ⟨rfl, (hs.sub (ssk (ssk (ssk (ssk (ssk (ssk ssr)))))))⟩
 rw [if_neg (bft aw)] at H
 refine Wx br <| Zc <| Mv rfl <| O_y rfl (Zcn (j := 0) Zuv Zq5 hs rfl rfl) <| Zcp (i := 2) (m := ac) (x := #v[rd ((rd x0 aa).is_) 0, rd ((rd x0 aa).is_) 1]) (v := true) (E := Value.bool) Zu0 Uf trivial (fun _ _ => trivial) hs rfl rfl rfl rfl (fun w hs => Zd (ay _ _ _ sbn (az (Ht ac (#v[rd ((rd x0 aa).is_) 0, rd ((rd x0 aa).is_) 1]) true) aj.2 _ H (hs.sub (ssk (ssk (ssc (ssc (ssc (ssc ssr))))))))))
 rw [if_neg av] at H
 exact Ua (ay _ _ _ sbn (az ac aj.2 _ H (hs.sub (ssk (ssc (ssc (ssc (ssc ssr))))))))
 rw [if_neg ar] at H
 refine Y4 (a5 _ _ (cf _ _ <| Wr fun dh bu => As rfl <| Ox bu <| Zk ?_))
 obtain rfl := Zz H
 exact r1 rfl ⟨rfl, (hs.sub (ssk (ssk (ssk (ssk ssr)))))⟩

def Uq.f (y0_0 : List ByteArray) (y0_1 : List Val) (y0_2 : List Chs) (y0_3 : List Val) (y0_4 : List Chs) (y0_5 : List Spn) (y0_6 y0_7 : List Val) (y0_8 : List Spn) (y0_9 : List Val) (y0_10 : List Chs) : Option Int := (Xw.f y0_4).bind fun ab => (some ab)
theorem Uq.c {pb0 : Nat} {w0_0 : Value} {y0_0 : List ByteArray} {w0_1 : Value} {y0_1 : List Val} {w0_2 : Value} {y0_2 : List Chs} {w0_3 : Value} {y0_3 : List Val} {w0_4 : Value} {y0_4 : List Chs} {w0_5 : Value} {y0_5 : List Spn} {w0_6 : Value} {y0_6 : List Val} {w0_7 : Value} {y0_7 : List Val} {w0_8 : Value} {y0_8 : List Spn} {w0_9 : Value} {y0_9 : List Val} {w0_10 : Value} {y0_10 : List Chs} (hs : St w0 ρ ((.box pb0 27 ([w0_0, w0_1, w0_2, w0_3, w0_4, w0_5, w0_6, w0_7, w0_8, w0_9, w0_10])) :: Γ) w) (g0_0 : SlR Rep.str ρ w0_0 y0_0) (g0_1 : SlR X9 ρ w0_1 y0_1) (g0_2 : SlR Ks ρ w0_2 y0_2) (g0_3 : SlR X9 ρ w0_3 y0_3) (g0_4 : SlR Ks ρ w0_4 y0_4) (g0_5 : SlR Kd ρ w0_5 y0_5) (g0_6 : SlR X9 ρ w0_6 y0_6) (g0_7 : SlR X9 ρ w0_7 y0_7) (g0_8 : SlR Kd ρ w0_8 y0_8) (g0_9 : SlR X9 ρ w0_9 y0_9) (g0_10 : SlR Ks ρ w0_10 y0_10) {r : Int} (H : Uq.f y0_0 y0_1 y0_2 y0_3 y0_4 y0_5 y0_6 y0_7 y0_8 y0_9 y0_10 = some r) : Zn Tryz.prog 112 [.pointer (some ⟨pb0, 0, none⟩)] w (fun v w' => v = .int .i64 r ∧ St w0 ρ ((.box pb0 27 ([w0_0, w0_1, w0_2, w0_3, w0_4, w0_5, w0_6, w0_7, w0_8, w0_9, w0_10])) :: Γ) w') := by
 rw [Uq.f] at H
 refine Et Tryz.func112 Tryz.ntmps112 rfl <| Wr fun ae ac => As rfl <| Ox ac <| Wr fun af ad => Ofd Zeq rfl <| Obx 0 Zdw hs rfl ?_
 obtain ⟨ab, aa, H⟩ := bnd H
 refine Oc rfl (Xw.c hs g0_4 aa) (fun ag w hpost => ?_)
 obtain ⟨rfl, hs⟩ := hpost
 refine As rfl <| Ox ad <| Zk ?_
 obtain rfl := Zz H
 exact r1 rfl ⟨rfl, hs⟩

end Go.Proofs.YthoicbafdanmkaaGreatDoor
/- Written by this repo's gen.py: for each Go function a Lean function with the same answers and the walk that shows it. -/
namespace Go.Proofs.YthoicbafdanmkaaGreatDoor
open Go.IntKind (i8 i16 i32 i64 u8 u16 u32 u64)
open Go.RowKit
set_option maxRecDepth 100000
set_option maxHeartbeats 4000000
variable {w0 w : World} {ρ : Hp} {Γ : List Q5}
set_option linter.unusedVariables false
def J6.f (x0 : Bk) : Option (Wh × Int) := (U3.f x0.names x0.status x0.maps x0.class_ x0.decomp x0.excl x0.bidi x0.join x0.marks x0.script x0.like).bind fun bc => (if 0 ≤ bc then (some ((⟨1, bc⟩ : Wh), 100)) else ((U0.f x0.names x0.status x0.maps x0.class_ x0.decomp x0.excl x0.bidi x0.join x0.marks x0.script x0.like).bind fun bd => (if 0 ≤ bd then (some ((⟨2, bd⟩ : Wh), 100)) else ((U1.f x0.names x0.status x0.maps x0.class_ x0.decomp x0.excl x0.bidi x0.join x0.marks x0.script x0.like).bind fun be => (if 0 ≤ be then (some ((⟨3, be⟩ : Wh), 100)) else ((U5.f x0.names x0.status x0.maps x0.class_ x0.decomp x0.excl x0.bidi x0.join x0.marks x0.script x0.like).bind fun bf => (if 0 ≤ bf then (some ((⟨4, bf⟩ : Wh), 100)) else ((Uz.f x0.names x0.status x0.maps x0.class_ x0.decomp x0.excl x0.bidi x0.join x0.marks x0.script x0.like).bind fun bg => (if 0 ≤ bg then (some ((⟨5, bg⟩ : Wh), 100)) else ((U4.f x0.names x0.status x0.maps x0.class_ x0.decomp x0.excl x0.bidi x0.join x0.marks x0.script x0.like).bind fun bh => (if 0 ≤ bh then (some ((⟨6, bh⟩ : Wh), 100)) else ((Uk.f x0.names x0.status x0.maps x0.class_ x0.decomp x0.excl x0.bidi x0.join x0.marks x0.script x0.like).bind fun bi => (if 0 ≤ bi then (some ((⟨7, bi⟩ : Wh), 100)) else ((Uo.f x0.names x0.status x0.maps x0.class_ x0.decomp x0.excl x0.bidi x0.join x0.marks x0.script x0.like).bind fun bj => (if 0 ≤ bj then (some ((⟨8, bj⟩ : Wh), 100)) else ((Ul.f x0.names x0.status x0.maps x0.class_ x0.decomp x0.excl x0.bidi x0.join x0.marks x0.script x0.like).bind fun bk => (if 0 ≤ bk then (some ((⟨9, bk⟩ : Wh), 100)) else ((Un.f x0.names x0.status x0.maps x0.class_ x0.decomp x0.excl x0.bidi x0.join x0.marks x0.script x0.like).bind fun bl => (if 0 ≤ bl then (some ((⟨10, bl⟩ : Wh), 100)) else ((Um.f x0.names x0.status x0.maps x0.class_ x0.decomp x0.excl x0.bidi x0.join x0.marks x0.script x0.like).bind fun bm => (if 0 ≤ bm then (some ((⟨11, bm⟩ : Wh), 100)) else ((Uq.f x0.names x0.status x0.maps x0.class_ x0.decomp x0.excl x0.bidi x0.join x0.marks x0.script x0.like).bind fun bn => (if 0 ≤ bn then (some ((⟨5, bn⟩ : Wh), 100)) else (some ((⟨0, 0⟩ : Wh), 0)))))))))))))))))))))))))
abbrev J6.t90 (aa ab ac ad : Nat) : List Value := [.int .i64 1, .func (.func 92) #[] #[.pointer (some ⟨aa, 0, none⟩)], .int .i64 2, .func (.func 94) #[] #[.pointer (some ⟨aa, 0, none⟩), .pointer (some ⟨ab, 0, none⟩)], .int .i64 3, .func (.func 96) #[] #[.pointer (some ⟨aa, 0, none⟩)], .int .i64 4, .func (.func 98) #[] #[.pointer (some ⟨aa, 0, none⟩), .pointer (some ⟨ac, 0, none⟩)], .int .i64 5, .func (.func 99) #[] #[.pointer (some ⟨aa, 0, none⟩), .pointer (some ⟨ac, 0, none⟩)], .int .i64 6, .func (.func 102) #[] #[.pointer (some ⟨aa, 0, none⟩), .pointer (some ⟨ac, 0, none⟩)], .int .i64 7, .func (.func 105) #[] #[.pointer (some ⟨aa, 0, none⟩), .pointer (some ⟨ab, 0, none⟩)], .int .i64 8, .func (.func 107) #[] #[.pointer (some ⟨aa, 0, none⟩), .pointer (some ⟨ab, 0, none⟩)], .int .i64 9, .func (.func 109) #[] #[.pointer (some ⟨aa, 0, none⟩), .pointer (some ⟨ab, 0, none⟩)], .int .i64 10, .func (.func 110) #[] #[.pointer (some ⟨aa, 0, none⟩), .pointer (some ⟨ab, 0, none⟩)], .int .i64 11, .func (.func 111) #[] #[.pointer (some ⟨aa, 0, none⟩), .pointer (some ⟨ad, 0, none⟩)], .int .i64 5, .func (.func 112) #[] #[.pointer (some ⟨aa, 0, none⟩)]]
theorem J6.c (hs : St w0 ρ (Γ) w) {c0 : List Value} {x0 : Bk} (h0 : rBk.R ρ c0 x0) {r : Wh × Int} (H : J6.f x0 = some r) : Zn Tryz.prog 60 [.agg c0.toArray] w (fun v w' => ∃ (ρ' : Hp) (cs0 : List Value), v = .tuple #[.agg cs0.toArray, .int .i64 r.2] ∧ Le ρ ρ' ∧ St w0 ρ' (Γ) w' ∧ rWh.R ρ' cs0 r.1) := by
 rw [J6.f] at H
 refine Et Tryz.func60 Tryz.ntmps60 rfl ?_
 have ge := h0
 obtain ⟨ak, al, am, an, ao, ap, aq, ar, au, av, aw, rfl, ay, az, a0, a1, a2, a3, a4, a5, a6, a7, a8⟩ := ge
 refine Wr fun l4 gf => Vg (cs := [ak, al, am, an, ao, ap, aq, ar, au, av, aw]) hs rfl rfl (fun aa w hs => Y6 Zb8 hs rfl (fun a9 w hs => As rfl <| Ox gf <| Wr fun l5 gg => Y6 Zu5 hs rfl (fun ab w hs => Vu (i := 0) Zu4 hs rfl rfl rfl rfl rfl (fun w hs => Ox gg <| Wr fun l6 gh => Y6 Zu5 hs rfl (fun ac w hs => ?_)))))
 refine Vu (i := 0) Zu4 hs rfl rfl rfl rfl rfl (fun w hs => Ox gh <| Wr fun l7 gi => Y6 Zxh hs rfl (fun ad w hs => Vu (i := 0) Zxf hs rfl rfl rfl rfl rfl (fun w hs => Ox gi <| Wr fun l8 gj => O_y rfl (Ux rfl) <| O_y rfl (Qe (cs := [.int .i64 1, .func (.func 92) #[] #[.pointer (some ⟨aa, 0, none⟩)]]) Zah Zc9 ((Z2.cons rfl rfl (Z2.cons rfl rfl Z2.nil))) Zae (by kernel_rfl)) <| O_y rfl (Ux rfl) <| O_y rfl (Qe (cs := [.int .i64 2, .func (.func 94) #[] #[.pointer (some ⟨aa, 0, none⟩), .pointer (some ⟨ab, 0, none⟩)]]) Zah Zc9 ((Z2.cons rfl rfl (Z2.cons rfl rfl Z2.nil))) Zae (by kernel_rfl)) <| O_y rfl (Ux rfl) ?_)))
 refine O_y rfl (Qe (cs := [.int .i64 3, .func (.func 96) #[] #[.pointer (some ⟨aa, 0, none⟩)]]) Zah Zc9 ((Z2.cons rfl rfl (Z2.cons rfl rfl Z2.nil))) Zae (by kernel_rfl)) <| O_y rfl (Ux rfl) <| O_y rfl (Qe (cs := [.int .i64 4, .func (.func 98) #[] #[.pointer (some ⟨aa, 0, none⟩), .pointer (some ⟨ac, 0, none⟩)]]) Zah Zc9 ((Z2.cons rfl rfl (Z2.cons rfl rfl Z2.nil))) Zae (by kernel_rfl)) <| O_y rfl (Ux rfl) <| O_y rfl (Qe (cs := [.int .i64 5, .func (.func 99) #[] #[.pointer (some ⟨aa, 0, none⟩), .pointer (some ⟨ac, 0, none⟩)]]) Zah Zc9 ((Z2.cons rfl rfl (Z2.cons rfl rfl Z2.nil))) Zae (by kernel_rfl)) <| O_y rfl (Ux rfl) <| O_y rfl (Qe (cs := [.int .i64 6, .func (.func 102) #[] #[.pointer (some ⟨aa, 0, none⟩), .pointer (some ⟨ac, 0, none⟩)]]) Zah Zc9 ((Z2.cons rfl rfl (Z2.cons rfl rfl Z2.nil))) Zae (by kernel_rfl)) <| O_y rfl (Ux rfl) <| O_y rfl (Qe (cs := [.int .i64 7, .func (.func 105) #[] #[.pointer (some ⟨aa, 0, none⟩), .pointer (some ⟨ab, 0, none⟩)]]) Zah Zc9 ((Z2.cons rfl rfl (Z2.cons rfl rfl Z2.nil))) Zae (by kernel_rfl)) <| O_y rfl (Ux rfl) <| O_y rfl (Qe (cs := [.int .i64 8, .func (.func 107) #[] #[.pointer (some ⟨aa, 0, none⟩), .pointer (some ⟨ab, 0, none⟩)]]) Zah Zc9 ((Z2.cons rfl rfl (Z2.cons rfl rfl Z2.nil))) Zae (by kernel_rfl)) <| O_y rfl (Ux rfl) <| O_y rfl (Qe (cs := [.int .i64 9, .func (.func 109) #[] #[.pointer (some ⟨aa, 0, none⟩), .pointer (some ⟨ab, 0, none⟩)]]) Zah Zc9 ((Z2.cons rfl rfl (Z2.cons rfl rfl Z2.nil))) Zae (by kernel_rfl)) <| O_y rfl (Ux rfl) ?_
 refine O_y rfl (Qe (cs := [.int .i64 10, .func (.func 110) #[] #[.pointer (some ⟨aa, 0, none⟩), .pointer (some ⟨ab, 0, none⟩)]]) Zah Zc9 ((Z2.cons rfl rfl (Z2.cons rfl rfl Z2.nil))) Zae (by kernel_rfl)) <| O_y rfl (Ux rfl) <| O_y rfl (Qe (cs := [.int .i64 11, .func (.func 111) #[] #[.pointer (some ⟨aa, 0, none⟩), .pointer (some ⟨ad, 0, none⟩)]]) Zah Zc9 ((Z2.cons rfl rfl (Z2.cons rfl rfl Z2.nil))) Zae (by kernel_rfl)) <| O_y rfl (Ux rfl) <| O_y rfl (Qe (cs := [.int .i64 5, .func (.func 112) #[] #[.pointer (some ⟨aa, 0, none⟩)]]) Zah Zc9 ((Z2.cons rfl rfl (Z2.cons rfl rfl Z2.nil))) Zae (by kernel_rfl)) <| Zhz (xs := [.tmp 12, .tmp 14, .tmp 16, .tmp 18, .tmp 20, .tmp 22, .tmp 24, .tmp 26, .tmp 28, .tmp 30, .tmp 32, .tmp 34]) Zcw hs rfl rfl rfl (by decide) (by decide) rfl (Yc rfl (Yc rfl (Yc rfl (Yc rfl (Yc rfl (Yc rfl (Yc rfl (Yc rfl (Yc rfl (Yc rfl (Yc rfl (Yc rfl Kb)))))))))))) (fun ba w hs => As rfl <| Ox gj <| W.weak [(2, _), (7, _)] (T2 rfl) <| Zh fun l9 gk => Wr fun ma gl => Mv rfl <| O_y rfl (V8 (i := 0) Zvf hs rfl rfl) ?_)
 refine Mv rfl <| Ox gl <| Zj fun mb gm mc => Zwu <| Hu fun md gn => Wr fun go ct => O_y rfl (Zbp (v' := .bool true) (Zax rfl rfl) (by kernel_rfl)) <| Ox ct <| Zh fun gp cu => Zac rfl <| Wx cu <| Zh fun gq cv => Zj fun gr gs gt => ?_
 refine Zh fun gu cw => Zc ?_
 obtain ⟨gv, bp⟩ := hs.rowBlock (j := 0) rfl (by decide)
 refine O_y rfl (Vm (j := 0) Zcw hs rfl bp rfl rfl (by decide) (by decide)) <| O_y rfl (Qv Zae Zai rfl rfl (fun j u hu => hs.rowCell (j := 0) rfl bp ((H9 (o := 0) (k := 2) rfl) j u hu))) <| Y6 Zah hs rfl (fun ae w hs => Ye (i := 0) Zai hs rfl rfl rfl rfl rfl (Zb rfl (Zb rfl Yj)) (fun w hs => Ox cw <| Wr fun gw cx => Ofd Za0 rfl <| Obx 0 Zdd hs rfl ?_))
 have hs := hs.front 6 rfl
 obtain ⟨bc, cf, H⟩ := bnd H
 refine Xo rfl rfl rfl (U3.c hs ay az a0 a1 a2 a3 a4 a5 a6 a7 a8 cf) (fun gx w hpost => ?_)
 obtain ⟨rfl, hs⟩ := hpost
 have hs := hs.sink 6
 refine As rfl <| Ox cx <| Wr fun gy cy => Mv rfl <| Oge rfl <| Ox cy <| W.weak [(2, _), (9, _), (10, _), (36, _), (37, _), (38, _), (46, _)] sbn ?_
 refine Y7 rfl (fun b2 => ?_) (fun b2 => ?_)
 rw [if_pos b2] at H
 refine Wr fun gz cz => Ofd Zaz rfl <| Obx 0 ag3 hs rfl <| Mv rfl <| O_y rfl (Qe (cs := [.int .i64 1, .int .i64 bc]) Zb8 Zcr ((Z2.cons rfl rfl (Z2.cons rfl rfl Z2.nil))) Hx (by kernel_rfl)) <| Ye (i := 5) Hs hs rfl rfl rfl rfl rfl (Zb rfl (Zb rfl Yj)) (fun w hs => As rfl <| Ox cz <| Zk ?_)
 obtain rfl := Zz H
 exact Zcx (i := 5) rfl rfl rfl Hx Hs hs rfl rfl ⟨_, _, rfl, Le.rfl' _, (hs.sub (ssk (ssk (ssk (ssk (ssk (ssk (ssk ssr)))))))), rfl⟩
 rw [if_neg b2] at H
 refine Wx cv <| Zc <| O_y rfl (Zbp (v' := .int .i64 1) (Hy rfl rfl) (by kernel_rfl)) <| Mv rfl <| Ox gn <| WL.weak [(2, _), (36, _), (37, _), (38, _)] (T4 rfl) ?_
 have hs : St w0 ρ ((.box ae 137 ([.int .i64 1, .func (.func 92) #[] #[.pointer (some ⟨aa, 0, none⟩)]])) :: (.row (.slice (some ⟨ba, 0, none⟩) 12 12) 137 2 12 (J6.t90 aa ab ac ad)) :: (.box ad 135 ([.func (.func 90) #[] #[]])) :: (.box ac 133 ([.func (.func 88) #[] #[]])) :: (.box ab 133 ([.func (.func 87) #[] #[]])) :: (.box a9 100 ([.int .i64 0, .int .i64 0])) :: (.box aa 27 ([ak, al, am, an, ao, ap, aq, ar, au, av, aw])) :: Γ) w := hs
 refine Hu fun ha da => Wr fun hb db => O_y rfl (Zbp (v' := .bool true) (Zax rfl rfl) (by kernel_rfl)) <| Ox db <| Zh fun hc dc => Zac rfl <| Wx dc <| Zh fun hd dd => Zj fun he hf hg => Zh fun hh de => Zc ?_
 obtain ⟨hi, bq⟩ := hs.rowBlock (j := 1) rfl (by decide)
 refine O_y rfl (Vm (j := 1) Zcw hs rfl bq rfl rfl (by decide) (by decide)) <| O_y rfl (Qv Zae Zai rfl rfl (fun j u hu => hs.rowCell (j := 1) rfl bq ((H9 (o := 2) (k := 2) rfl) j u hu))) <| Y6 Zah hs rfl (fun af w hs => Ye (i := 0) Zai hs rfl rfl rfl rfl rfl (Zb rfl (Zb rfl Yj)) (fun w hs => Ox de <| Wr fun hj df => Ofd Za0 rfl <| Obx 0 Zdd hs rfl ?_))
 have hs := hs.front 5 rfl
 have hs := hs.front 7 rfl
 obtain ⟨bd, cg, H⟩ := bnd H
 refine Xo rfl rfl rfl (U0.c hs ay az a0 a1 a2 a3 a4 a5 a6 a7 a8 cg) (fun hk w hpost => ?_)
 obtain ⟨rfl, hs⟩ := hpost
 have hs := hs.sink 7
 have hs := hs.sink 5
 refine As rfl <| Ox df <| Wr fun hl dg => Mv rfl <| Oge rfl <| Ox dg <| Y7 rfl (fun b3 => ?_) (fun b3 => ?_)
 rw [if_pos b3] at H
 refine Wr fun hm dh => Ofd Zaz rfl <| Obx 0 ag3 hs rfl <| Mv rfl <| O_y rfl (Qe (cs := [.int .i64 2, .int .i64 bd]) Zb8 Zcr ((Z2.cons rfl rfl (Z2.cons rfl rfl Z2.nil))) Hx (by kernel_rfl)) <| Ye (i := 6) Hs hs rfl rfl rfl rfl rfl (Zb rfl (Zb rfl Yj)) (fun w hs => As rfl <| Ox dh <| W.weak [(2, _), (3, _)] (T2 rfl) <| Zk ?_)
 obtain rfl := Zz H
 exact Zcx (i := 6) rfl rfl rfl Hx Hs hs rfl rfl ⟨_, _, rfl, Le.rfl' _, (hs.sub (ssk (ssk (ssk (ssk (ssk (ssk (ssk (ssk ssr))))))))), rfl⟩
 rw [if_neg b3] at H
 refine Wx dd <| Zc <| O_y rfl (Zbp (v' := .int .i64 2) (Hy rfl rfl) (by kernel_rfl)) <| Mv rfl <| Ox da <| WL.weak [(2, _), (36, _), (37, _), (38, _)] (T4 rfl) ?_
 have hs : St w0 ρ ((.box af 137 ([.int .i64 2, .func (.func 94) #[] #[.pointer (some ⟨aa, 0, none⟩), .pointer (some ⟨ab, 0, none⟩)]])) :: (.box ae 137 ([.int .i64 1, .func (.func 92) #[] #[.pointer (some ⟨aa, 0, none⟩)]])) :: (.row (.slice (some ⟨ba, 0, none⟩) 12 12) 137 2 12 (J6.t90 aa ab ac ad)) :: (.box ad 135 ([.func (.func 90) #[] #[]])) :: (.box ac 133 ([.func (.func 88) #[] #[]])) :: (.box ab 133 ([.func (.func 87) #[] #[]])) :: (.box a9 100 ([.int .i64 0, .int .i64 0])) :: (.box aa 27 ([ak, al, am, an, ao, ap, aq, ar, au, av, aw])) :: Γ) w := hs
 refine Hu fun hn di => Wr fun ho dj => O_y rfl (Zbp (v' := .bool true) (Zax rfl rfl) (by kernel_rfl)) <| Ox dj <| Zh fun hp dk => Zac rfl <| Wx dk <| Zh fun hq dl => Zj fun hr ht hv => Zh fun hw dm => Zc ?_
 obtain ⟨hx, br⟩ := hs.rowBlock (j := 2) rfl (by decide)
 refine O_y rfl (Vm (j := 2) Zcw hs rfl br rfl rfl (by decide) (by decide)) <| O_y rfl (Qv Zae Zai rfl rfl (fun j u hu => hs.rowCell (j := 2) rfl br ((H9 (o := 4) (k := 2) rfl) j u hu))) <| Y6 Zah hs rfl (fun ag w hs => Ye (i := 0) Zai hs rfl rfl rfl rfl rfl (Zb rfl (Zb rfl Yj)) (fun w hs => Ox dm <| Wr fun hy dn => Ofd Za0 rfl <| Obx 0 Zdd hs rfl ?_))
 have hs := hs.front 8 rfl
 obtain ⟨be, ch, H⟩ := bnd H
 refine Xo rfl rfl rfl (U1.c hs ay az a0 a1 a2 a3 a4 a5 a6 a7 a8 ch) (fun hz w hpost => ?_)
 obtain ⟨rfl, hs⟩ := hpost
 have hs := hs.sink 8
 refine As rfl <| Ox dn <| Wr fun ia dp => Mv rfl <| Oge rfl <| Ox dp <| Y7 rfl (fun b4 => ?_) (fun b4 => ?_)
 rw [if_pos b4] at H
 refine Wr fun ib dq => Ofd Zaz rfl <| Obx 0 ag3 hs rfl <| Mv rfl <| O_y rfl (Qe (cs := [.int .i64 3, .int .i64 be]) Zb8 Zcr ((Z2.cons rfl rfl (Z2.cons rfl rfl Z2.nil))) Hx (by kernel_rfl)) <| Ye (i := 7) Hs hs rfl rfl rfl rfl rfl (Zb rfl (Zb rfl Yj)) (fun w hs => As rfl <| Ox dq <| W.weak [(2, _), (3, _)] (T2 rfl) <| Zk ?_)
 obtain rfl := Zz H
 exact Zcx (i := 7) rfl rfl rfl Hx Hs hs rfl rfl ⟨_, _, rfl, Le.rfl' _, (hs.sub (ssk (ssk (ssk (ssk (ssk (ssk (ssk (ssk (ssk ssr)))))))))), rfl⟩
 rw [if_neg b4] at H
 refine Wx dl <| Zc <| O_y rfl (Zbp (v' := .int .i64 3) (Hy rfl rfl) (by kernel_rfl)) <| Mv rfl <| Ox di <| WL.weak [(2, _), (36, _), (37, _), (38, _)] (T4 rfl) ?_
 have hs : St w0 ρ ((.box ag 137 ([.int .i64 3, .func (.func 96) #[] #[.pointer (some ⟨aa, 0, none⟩)]])) :: (.box af 137 ([.int .i64 2, .func (.func 94) #[] #[.pointer (some ⟨aa, 0, none⟩), .pointer (some ⟨ab, 0, none⟩)]])) :: (.box ae 137 ([.int .i64 1, .func (.func 92) #[] #[.pointer (some ⟨aa, 0, none⟩)]])) :: (.row (.slice (some ⟨ba, 0, none⟩) 12 12) 137 2 12 (J6.t90 aa ab ac ad)) :: (.box ad 135 ([.func (.func 90) #[] #[]])) :: (.box ac 133 ([.func (.func 88) #[] #[]])) :: (.box ab 133 ([.func (.func 87) #[] #[]])) :: (.box a9 100 ([.int .i64 0, .int .i64 0])) :: (.box aa 27 ([ak, al, am, an, ao, ap, aq, ar, au, av, aw])) :: Γ) w := hs
 refine Hu fun ic dr => Wr fun id ds => O_y rfl (Zbp (v' := .bool true) (Zax rfl rfl) (by kernel_rfl)) <| Ox ds <| Zh fun ie dt => Zac rfl <| Wx dt <| Zh fun ig du => Zj fun ih ii ij => Zh fun ik dv => Zc ?_
 obtain ⟨il, bs⟩ := hs.rowBlock (j := 3) rfl (by decide)
 refine O_y rfl (Vm (j := 3) Zcw hs rfl bs rfl rfl (by decide) (by decide)) <| O_y rfl (Qv Zae Zai rfl rfl (fun j u hu => hs.rowCell (j := 3) rfl bs ((H9 (o := 6) (k := 2) rfl) j u hu))) <| Y6 Zah hs rfl (fun ah w hs => Ye (i := 0) Zai hs rfl rfl rfl rfl rfl (Zb rfl (Zb rfl Yj)) (fun w hs => Ox dv <| Wr fun im dw => Ofd Za0 rfl <| Obx 0 Zdd hs rfl ?_))
 have hs := hs.front 6 rfl
 have hs := hs.front 9 rfl
 obtain ⟨bf, ci, H⟩ := bnd H
 refine Xo rfl rfl rfl (U5.c hs ay az a0 a1 a2 a3 a4 a5 a6 a7 a8 ci) (fun io w hpost => ?_)
 obtain ⟨rfl, hs⟩ := hpost
 have hs := hs.sink 9
 have hs := hs.sink 6
 refine As rfl <| Ox dw <| Wr fun ip dx => Mv rfl <| Oge rfl <| Ox dx <| Y7 rfl (fun b5 => ?_) (fun b5 => ?_)
 rw [if_pos b5] at H
 refine Wr fun iq dy => Ofd Zaz rfl <| Obx 0 ag3 hs rfl <| Mv rfl <| O_y rfl (Qe (cs := [.int .i64 4, .int .i64 bf]) Zb8 Zcr ((Z2.cons rfl rfl (Z2.cons rfl rfl Z2.nil))) Hx (by kernel_rfl)) <| Ye (i := 8) Hs hs rfl rfl rfl rfl rfl (Zb rfl (Zb rfl Yj)) (fun w hs => As rfl <| Ox dy <| W.weak [(2, _), (3, _)] (T2 rfl) <| Zk ?_)
 obtain rfl := Zz H
 exact Zcx (i := 8) rfl rfl rfl Hx Hs hs rfl rfl ⟨_, _, rfl, Le.rfl' _, (hs.sub (ssk (ssk (ssk (ssk (ssk (ssk (ssk (ssk (ssk (ssk ssr))))))))))), rfl⟩
 rw [if_neg b5] at H
 refine Wx du <| Zc <| O_y rfl (Zbp (v' := .int .i64 4) (Hy rfl rfl) (by kernel_rfl)) <| Mv rfl <| Ox dr <| WL.weak [(2, _), (36, _), (37, _), (38, _)] (T4 rfl) ?_
 have hs : St w0 ρ ((.box ah 137 ([.int .i64 4, .func (.func 98) #[] #[.pointer (some ⟨aa, 0, none⟩), .pointer (some ⟨ac, 0, none⟩)]])) :: (.box ag 137 ([.int .i64 3, .func (.func 96) #[] #[.pointer (some ⟨aa, 0, none⟩)]])) :: (.box af 137 ([.int .i64 2, .func (.func 94) #[] #[.pointer (some ⟨aa, 0, none⟩), .pointer (some ⟨ab, 0, none⟩)]])) :: (.box ae 137 ([.int .i64 1, .func (.func 92) #[] #[.pointer (some ⟨aa, 0, none⟩)]])) :: (.row (.slice (some ⟨ba, 0, none⟩) 12 12) 137 2 12 (J6.t90 aa ab ac ad)) :: (.box ad 135 ([.func (.func 90) #[] #[]])) :: (.box ac 133 ([.func (.func 88) #[] #[]])) :: (.box ab 133 ([.func (.func 87) #[] #[]])) :: (.box a9 100 ([.int .i64 0, .int .i64 0])) :: (.box aa 27 ([ak, al, am, an, ao, ap, aq, ar, au, av, aw])) :: Γ) w := hs
 refine Hu fun ir dz => Wr fun it ea => O_y rfl (Zbp (v' := .bool true) (Zax rfl rfl) (by kernel_rfl)) <| Ox ea <| Zh fun iu eb => Zac rfl <| Wx eb <| Zh fun iv ec => Zj fun iw ix iy => Zh fun iz ed => Zc ?_
 obtain ⟨ja, bt⟩ := hs.rowBlock (j := 4) rfl (by decide)
 refine O_y rfl (Vm (j := 4) Zcw hs rfl bt rfl rfl (by decide) (by decide)) <| O_y rfl (Qv Zae Zai rfl rfl (fun j u hu => hs.rowCell (j := 4) rfl bt ((H9 (o := 8) (k := 2) rfl) j u hu))) <| Y6 Zah hs rfl (fun ai w hs => Ye (i := 0) Zai hs rfl rfl rfl rfl rfl (Zb rfl (Zb rfl Yj)) (fun w hs => Ox ed <| Wr fun jb ee => Ofd Za0 rfl <| Obx 0 Zdd hs rfl ?_))
 have hs := hs.front 7 rfl
 have hs := hs.front 10 rfl
 obtain ⟨bg, cj, H⟩ := bnd H
 refine Xo rfl rfl rfl (Uz.c hs ay az a0 a1 a2 a3 a4 a5 a6 a7 a8 cj) (fun jc w hpost => ?_)
 obtain ⟨rfl, hs⟩ := hpost
 have hs := hs.sink 10
 have hs := hs.sink 7
 refine As rfl <| Ox ee <| Wr fun jd ef => Mv rfl <| Oge rfl <| Ox ef <| Y7 rfl (fun b6 => ?_) (fun b6 => ?_)
 rw [if_pos b6] at H
 refine Wr fun je eg => Ofd Zaz rfl <| Obx 0 ag3 hs rfl <| Mv rfl <| O_y rfl (Qe (cs := [.int .i64 5, .int .i64 bg]) Zb8 Zcr ((Z2.cons rfl rfl (Z2.cons rfl rfl Z2.nil))) Hx (by kernel_rfl)) <| Ye (i := 9) Hs hs rfl rfl rfl rfl rfl (Zb rfl (Zb rfl Yj)) (fun w hs => As rfl <| Ox eg <| W.weak [(2, _), (3, _)] (T2 rfl) <| Zk ?_)
 obtain rfl := Zz H
 exact Zcx (i := 9) rfl rfl rfl Hx Hs hs rfl rfl ⟨_, _, rfl, Le.rfl' _, (hs.sub (ssk (ssk (ssk (ssk (ssk (ssk (ssk (ssk (ssk (ssk (ssk ssr)))))))))))), rfl⟩
 rw [if_neg b6] at H
 refine Wx ec <| Zc <| O_y rfl (Zbp (v' := .int .i64 5) (Hy rfl rfl) (by kernel_rfl)) <| Mv rfl <| Ox dz <| WL.weak [(2, _), (36, _), (37, _), (38, _)] (T4 rfl) ?_
 have hs : St w0 ρ ((.box ai 137 ([.int .i64 5, .func (.func 99) #[] #[.pointer (some ⟨aa, 0, none⟩), .pointer (some ⟨ac, 0, none⟩)]])) :: (.box ah 137 ([.int .i64 4, .func (.func 98) #[] #[.pointer (some ⟨aa, 0, none⟩), .pointer (some ⟨ac, 0, none⟩)]])) :: (.box ag 137 ([.int .i64 3, .func (.func 96) #[] #[.pointer (some ⟨aa, 0, none⟩)]])) :: (.box af 137 ([.int .i64 2, .func (.func 94) #[] #[.pointer (some ⟨aa, 0, none⟩), .pointer (some ⟨ab, 0, none⟩)]])) :: (.box ae 137 ([.int .i64 1, .func (.func 92) #[] #[.pointer (some ⟨aa, 0, none⟩)]])) :: (.row (.slice (some ⟨ba, 0, none⟩) 12 12) 137 2 12 (J6.t90 aa ab ac ad)) :: (.box ad 135 ([.func (.func 90) #[] #[]])) :: (.box ac 133 ([.func (.func 88) #[] #[]])) :: (.box ab 133 ([.func (.func 87) #[] #[]])) :: (.box a9 100 ([.int .i64 0, .int .i64 0])) :: (.box aa 27 ([ak, al, am, an, ao, ap, aq, ar, au, av, aw])) :: Γ) w := hs
 refine Hu fun jf eh => Wr fun jg ei => O_y rfl (Zbp (v' := .bool true) (Zax rfl rfl) (by kernel_rfl)) <| Ox ei <| Zh fun jh ej => Zac rfl <| Wx ej <| Zh fun ji ek => Zj fun jj jk jl => Zh fun jm el => Zc ?_
 obtain ⟨jn, bu⟩ := hs.rowBlock (j := 5) rfl (by decide)
 refine O_y rfl (Vm (j := 5) Zcw hs rfl bu rfl rfl (by decide) (by decide)) <| O_y rfl (Qv Zae Zai rfl rfl (fun j u hu => hs.rowCell (j := 5) rfl bu ((H9 (o := 10) (k := 2) rfl) j u hu))) <| Y6 Zah hs rfl (fun aj w hs => Ye (i := 0) Zai hs rfl rfl rfl rfl rfl (Zb rfl (Zb rfl Yj)) (fun w hs => Ox el <| Wr fun jo em => Ofd Za0 rfl <| Obx 0 Zdd hs rfl ?_))
 have hs := hs.front 8 rfl
 have hs := hs.front 11 rfl
 obtain ⟨bh, ck, H⟩ := bnd H
 refine Xo rfl rfl rfl (U4.c hs ay az a0 a1 a2 a3 a4 a5 a6 a7 a8 ck) (fun jp w hpost => ?_)
 obtain ⟨rfl, hs⟩ := hpost
 have hs := hs.sink 11
 have hs := hs.sink 8
 refine As rfl <| Ox em <| Wr fun jq en => Mv rfl <| Oge rfl <| Ox en <| Y7 rfl (fun b7 => ?_) (fun b7 => ?_)
 rw [if_pos b7] at H
 refine Wr fun jr eo => Ofd Zaz rfl <| Obx 0 ag3 hs rfl <| Mv rfl <| O_y rfl (Qe (cs := [.int .i64 6, .int .i64 bh]) Zb8 Zcr ((Z2.cons rfl rfl (Z2.cons rfl rfl Z2.nil))) Hx (by kernel_rfl)) <| Ye (i := 10) Hs hs rfl rfl rfl rfl rfl (Zb rfl (Zb rfl Yj)) (fun w hs => As rfl <| Ox eo <| W.weak [(2, _), (3, _)] (T2 rfl) <| Zk ?_)
 obtain rfl := Zz H
 exact Zcx (i := 10) rfl rfl rfl Hx Hs hs rfl rfl ⟨_, _, rfl, Le.rfl' _, (hs.sub (ssk (ssk (ssk (ssk (ssk (ssk (ssk (ssk (ssk (ssk (ssk (ssk ssr))))))))))))), rfl⟩
 rw [if_neg b7] at H
 refine Wx ek <| Zc <| O_y rfl (Zbp (v' := .int .i64 6) (Hy rfl rfl) (by kernel_rfl)) <| Mv rfl <| Ox eh <| WL.weak [(2, _), (36, _), (37, _), (38, _)] (T4 rfl) ?_
 have hs : St w0 ρ ((.box aj 137 ([.int .i64 6, .func (.func 102) #[] #[.pointer (some ⟨aa, 0, none⟩), .pointer (some ⟨ac, 0, none⟩)]])) :: (.box ai 137 ([.int .i64 5, .func (.func 99) #[] #[.pointer (some ⟨aa, 0, none⟩), .pointer (some ⟨ac, 0, none⟩)]])) :: (.box ah 137 ([.int .i64 4, .func (.func 98) #[] #[.pointer (some ⟨aa, 0, none⟩), .pointer (some ⟨ac, 0, none⟩)]])) :: (.box ag 137 ([.int .i64 3, .func (.func 96) #[] #[.pointer (some ⟨aa, 0, none⟩)]])) :: (.box af 137 ([.int .i64 2, .func (.func 94) #[] #[.pointer (some ⟨aa, 0, none⟩), .pointer (some ⟨ab, 0, none⟩)]])) :: (.box ae 137 ([.int .i64 1, .func (.func 92) #[] #[.pointer (some ⟨aa, 0, none⟩)]])) :: (.row (.slice (some ⟨ba, 0, none⟩) 12 12) 137 2 12 (J6.t90 aa ab ac ad)) :: (.box ad 135 ([.func (.func 90) #[] #[]])) :: (.box ac 133 ([.func (.func 88) #[] #[]])) :: (.box ab 133 ([.func (.func 87) #[] #[]])) :: (.box a9 100 ([.int .i64 0, .int .i64 0])) :: (.box aa 27 ([ak, al, am, an, ao, ap, aq, ar, au, av, aw])) :: Γ) w := hs
 refine Hu fun js ep => Wr fun jt eq => O_y rfl (Zbp (v' := .bool true) (Zax rfl rfl) (by kernel_rfl)) <| Ox eq <| Zh fun ju er => Zac rfl <| Wx er <| Zh fun jv es => Zj fun jw jx jy => Zh fun jz et => Zc ?_
 obtain ⟨j0, bv⟩ := hs.rowBlock (j := 6) rfl (by decide)
 refine O_y rfl (Vm (j := 6) Zcw hs rfl bv rfl rfl (by decide) (by decide)) <| O_y rfl (Qv Zae Zai rfl rfl (fun j u hu => hs.rowCell (j := 6) rfl bv ((H9 (o := 12) (k := 2) rfl) j u hu))) <| Y6 Zah hs rfl (fun ax w hs => Ye (i := 0) Zai hs rfl rfl rfl rfl rfl (Zb rfl (Zb rfl Yj)) (fun w hs => Ox et <| Wr fun j1 eu => Ofd Za0 rfl <| Obx 0 Zdd hs rfl ?_))
 have hs := hs.front 10 rfl
 have hs := hs.front 12 rfl
 obtain ⟨bi, cl, H⟩ := bnd H
 refine Xo rfl rfl rfl (Uk.c hs ay az a0 a1 a2 a3 a4 a5 a6 a7 a8 cl) (fun j2 w hpost => ?_)
 obtain ⟨rfl, hs⟩ := hpost
 have hs := hs.sink 12
 have hs := hs.sink 10
 refine As rfl <| Ox eu <| Wr fun j3 ev => Mv rfl <| Oge rfl <| Ox ev <| Y7 rfl (fun b8 => ?_) (fun b8 => ?_)
 rw [if_pos b8] at H
 refine Wr fun j4 ew => Ofd Zaz rfl <| Obx 0 ag3 hs rfl <| Mv rfl <| O_y rfl (Qe (cs := [.int .i64 7, .int .i64 bi]) Zb8 Zcr ((Z2.cons rfl rfl (Z2.cons rfl rfl Z2.nil))) Hx (by kernel_rfl)) <| Ye (i := 11) Hs hs rfl rfl rfl rfl rfl (Zb rfl (Zb rfl Yj)) (fun w hs => As rfl <| Ox ew <| W.weak [(2, _), (3, _)] (T2 rfl) <| Zk ?_)
 obtain rfl := Zz H
 exact Zcx (i := 11) rfl rfl rfl Hx Hs hs rfl rfl ⟨_, _, rfl, Le.rfl' _, (hs.sub (ssk (ssk (ssk (ssk (ssk (ssk (ssk (ssk (ssk (ssk (ssk (ssk (ssk ssr)))))))))))))), rfl⟩
 rw [if_neg b8] at H
 refine Wx es <| Zc <| O_y rfl (Zbp (v' := .int .i64 7) (Hy rfl rfl) (by kernel_rfl)) <| Mv rfl <| Ox ep <| WL.weak [(2, _), (36, _), (37, _), (38, _)] (T4 rfl) ?_
 have hs : St w0 ρ ((.box ax 137 ([.int .i64 7, .func (.func 105) #[] #[.pointer (some ⟨aa, 0, none⟩), .pointer (some ⟨ab, 0, none⟩)]])) :: (.box aj 137 ([.int .i64 6, .func (.func 102) #[] #[.pointer (some ⟨aa, 0, none⟩), .pointer (some ⟨ac, 0, none⟩)]])) :: (.box ai 137 ([.int .i64 5, .func (.func 99) #[] #[.pointer (some ⟨aa, 0, none⟩), .pointer (some ⟨ac, 0, none⟩)]])) :: (.box ah 137 ([.int .i64 4, .func (.func 98) #[] #[.pointer (some ⟨aa, 0, none⟩), .pointer (some ⟨ac, 0, none⟩)]])) :: (.box ag 137 ([.int .i64 3, .func (.func 96) #[] #[.pointer (some ⟨aa, 0, none⟩)]])) :: (.box af 137 ([.int .i64 2, .func (.func 94) #[] #[.pointer (some ⟨aa, 0, none⟩), .pointer (some ⟨ab, 0, none⟩)]])) :: (.box ae 137 ([.int .i64 1, .func (.func 92) #[] #[.pointer (some ⟨aa, 0, none⟩)]])) :: (.row (.slice (some ⟨ba, 0, none⟩) 12 12) 137 2 12 (J6.t90 aa ab ac ad)) :: (.box ad 135 ([.func (.func 90) #[] #[]])) :: (.box ac 133 ([.func (.func 88) #[] #[]])) :: (.box ab 133 ([.func (.func 87) #[] #[]])) :: (.box a9 100 ([.int .i64 0, .int .i64 0])) :: (.box aa 27 ([ak, al, am, an, ao, ap, aq, ar, au, av, aw])) :: Γ) w := hs
 refine Hu fun j5 ex => Wr fun j6 ey => O_y rfl (Zbp (v' := .bool true) (Zax rfl rfl) (by kernel_rfl)) <| Ox ey <| Zh fun j7 ez => Zac rfl <| Wx ez <| Zh fun j8 e0 => Zj fun j9 ka kb => Zh fun kc e1 => Zc ?_
 obtain ⟨kd, bw⟩ := hs.rowBlock (j := 7) rfl (by decide)
 refine O_y rfl (Vm (j := 7) Zcw hs rfl bw rfl rfl (by decide) (by decide)) <| O_y rfl (Qv Zae Zai rfl rfl (fun j u hu => hs.rowCell (j := 7) rfl bw ((H9 (o := 14) (k := 2) rfl) j u hu))) <| Y6 Zah hs rfl (fun bb w hs => Ye (i := 0) Zai hs rfl rfl rfl rfl rfl (Zb rfl (Zb rfl Yj)) (fun w hs => Ox e1 <| Wr fun ke e2 => Ofd Za0 rfl <| Obx 0 Zdd hs rfl ?_))
 have hs := hs.front 11 rfl
 have hs := hs.front 13 rfl
 obtain ⟨bj, cm, H⟩ := bnd H
 refine Xo rfl rfl rfl (Uo.c hs ay az a0 a1 a2 a3 a4 a5 a6 a7 a8 cm) (fun kf w hpost => ?_)
 obtain ⟨rfl, hs⟩ := hpost
 have hs := hs.sink 13
 have hs := hs.sink 11
 refine As rfl <| Ox e2 <| Wr fun kg e3 => Mv rfl <| Oge rfl <| Ox e3 <| Y7 rfl (fun b9 => ?_) (fun b9 => ?_)
 rw [if_pos b9] at H
 refine Wr fun kh e4 => Ofd Zaz rfl <| Obx 0 ag3 hs rfl <| Mv rfl <| O_y rfl (Qe (cs := [.int .i64 8, .int .i64 bj]) Zb8 Zcr ((Z2.cons rfl rfl (Z2.cons rfl rfl Z2.nil))) Hx (by kernel_rfl)) <| Ye (i := 12) Hs hs rfl rfl rfl rfl rfl (Zb rfl (Zb rfl Yj)) (fun w hs => As rfl <| Ox e4 <| W.weak [(2, _), (3, _)] (T2 rfl) <| Zk ?_)
 obtain rfl := Zz H
 exact Zcx (i := 12) rfl rfl rfl Hx Hs hs rfl rfl ⟨_, _, rfl, Le.rfl' _, (hs.sub (ssk (ssk (ssk (ssk (ssk (ssk (ssk (ssk (ssk (ssk (ssk (ssk (ssk (ssk ssr))))))))))))))), rfl⟩
 rw [if_neg b9] at H
 refine Wx e0 <| Zc <| O_y rfl (Zbp (v' := .int .i64 8) (Hy rfl rfl) (by kernel_rfl)) <| Mv rfl <| Ox ex <| WL.weak [(2, _), (36, _), (37, _), (38, _)] (T4 rfl) ?_
 have hs : St w0 ρ ((.box bb 137 ([.int .i64 8, .func (.func 107) #[] #[.pointer (some ⟨aa, 0, none⟩), .pointer (some ⟨ab, 0, none⟩)]])) :: (.box ax 137 ([.int .i64 7, .func (.func 105) #[] #[.pointer (some ⟨aa, 0, none⟩), .pointer (some ⟨ab, 0, none⟩)]])) :: (.box aj 137 ([.int .i64 6, .func (.func 102) #[] #[.pointer (some ⟨aa, 0, none⟩), .pointer (some ⟨ac, 0, none⟩)]])) :: (.box ai 137 ([.int .i64 5, .func (.func 99) #[] #[.pointer (some ⟨aa, 0, none⟩), .pointer (some ⟨ac, 0, none⟩)]])) :: (.box ah 137 ([.int .i64 4, .func (.func 98) #[] #[.pointer (some ⟨aa, 0, none⟩), .pointer (some ⟨ac, 0, none⟩)]])) :: (.box ag 137 ([.int .i64 3, .func (.func 96) #[] #[.pointer (some ⟨aa, 0, none⟩)]])) :: (.box af 137 ([.int .i64 2, .func (.func 94) #[] #[.pointer (some ⟨aa, 0, none⟩), .pointer (some ⟨ab, 0, none⟩)]])) :: (.box ae 137 ([.int .i64 1, .func (.func 92) #[] #[.pointer (some ⟨aa, 0, none⟩)]])) :: (.row (.slice (some ⟨ba, 0, none⟩) 12 12) 137 2 12 (J6.t90 aa ab ac ad)) :: (.box ad 135 ([.func (.func 90) #[] #[]])) :: (.box ac 133 ([.func (.func 88) #[] #[]])) :: (.box ab 133 ([.func (.func 87) #[] #[]])) :: (.box a9 100 ([.int .i64 0, .int .i64 0])) :: (.box aa 27 ([ak, al, am, an, ao, ap, aq, ar, au, av, aw])) :: Γ) w := hs
 refine Hu fun ki e5 => Wr fun kj e6 => O_y rfl (Zbp (v' := .bool true) (Zax rfl rfl) (by kernel_rfl)) <| Ox e6 <| Zh fun kk e7 => Zac rfl <| Wx e7 <| Zh fun kl e8 => Zj fun km kn ko => Zh fun kp e9 => Zc ?_
 obtain ⟨kq, bx⟩ := hs.rowBlock (j := 8) rfl (by decide)
 refine O_y rfl (Vm (j := 8) Zcw hs rfl bx rfl rfl (by decide) (by decide)) <| O_y rfl (Qv Zae Zai rfl rfl (fun j u hu => hs.rowCell (j := 8) rfl bx ((H9 (o := 16) (k := 2) rfl) j u hu))) <| Y6 Zah hs rfl (fun bo w hs => Ye (i := 0) Zai hs rfl rfl rfl rfl rfl (Zb rfl (Zb rfl Yj)) (fun w hs => Ox e9 <| Wr fun kr fa => Ofd Za0 rfl <| Obx 0 Zdd hs rfl ?_))
 have hs := hs.front 12 rfl
 have hs := hs.front 14 rfl
 obtain ⟨bk, cn, H⟩ := bnd H
 refine Xo rfl rfl rfl (Ul.c hs ay az a0 a1 a2 a3 a4 a5 a6 a7 a8 cn) (fun ks w hpost => ?_)
 obtain ⟨rfl, hs⟩ := hpost
 have hs := hs.sink 14
 have hs := hs.sink 12
 refine As rfl <| Ox fa <| Wr fun kt fb => Mv rfl <| Oge rfl <| Ox fb <| Y7 rfl (fun ca => ?_) (fun ca => ?_)
 rw [if_pos ca] at H
 refine Wr fun ku fc => Ofd Zaz rfl <| Obx 0 ag3 hs rfl <| Mv rfl <| O_y rfl (Qe (cs := [.int .i64 9, .int .i64 bk]) Zb8 Zcr ((Z2.cons rfl rfl (Z2.cons rfl rfl Z2.nil))) Hx (by kernel_rfl)) <| Ye (i := 13) Hs hs rfl rfl rfl rfl rfl (Zb rfl (Zb rfl Yj)) (fun w hs => As rfl <| Ox fc <| W.weak [(2, _), (3, _)] (T2 rfl) <| Zk ?_)
 obtain rfl := Zz H
 exact Zcx (i := 13) rfl rfl rfl Hx Hs hs rfl rfl ⟨_, _, rfl, Le.rfl' _, (hs.sub (ssk (ssk (ssk (ssk (ssk (ssk (ssk (ssk (ssk (ssk (ssk (ssk (ssk (ssk (ssk ssr)))))))))))))))), rfl⟩
 rw [if_neg ca] at H
 refine Wx e8 <| Zc <| O_y rfl (Zbp (v' := .int .i64 9) (Hy rfl rfl) (by kernel_rfl)) <| Mv rfl <| Ox e5 <| WL.weak [(2, _), (36, _), (37, _), (38, _)] (T4 rfl) ?_
 have hs : St w0 ρ ((.box bo 137 ([.int .i64 9, .func (.func 109) #[] #[.pointer (some ⟨aa, 0, none⟩), .pointer (some ⟨ab, 0, none⟩)]])) :: (.box bb 137 ([.int .i64 8, .func (.func 107) #[] #[.pointer (some ⟨aa, 0, none⟩), .pointer (some ⟨ab, 0, none⟩)]])) :: (.box ax 137 ([.int .i64 7, .func (.func 105) #[] #[.pointer (some ⟨aa, 0, none⟩), .pointer (some ⟨ab, 0, none⟩)]])) :: (.box aj 137 ([.int .i64 6, .func (.func 102) #[] #[.pointer (some ⟨aa, 0, none⟩), .pointer (some ⟨ac, 0, none⟩)]])) :: (.box ai 137 ([.int .i64 5, .func (.func 99) #[] #[.pointer (some ⟨aa, 0, none⟩), .pointer (some ⟨ac, 0, none⟩)]])) :: (.box ah 137 ([.int .i64 4, .func (.func 98) #[] #[.pointer (some ⟨aa, 0, none⟩), .pointer (some ⟨ac, 0, none⟩)]])) :: (.box ag 137 ([.int .i64 3, .func (.func 96) #[] #[.pointer (some ⟨aa, 0, none⟩)]])) :: (.box af 137 ([.int .i64 2, .func (.func 94) #[] #[.pointer (some ⟨aa, 0, none⟩), .pointer (some ⟨ab, 0, none⟩)]])) :: (.box ae 137 ([.int .i64 1, .func (.func 92) #[] #[.pointer (some ⟨aa, 0, none⟩)]])) :: (.row (.slice (some ⟨ba, 0, none⟩) 12 12) 137 2 12 (J6.t90 aa ab ac ad)) :: (.box ad 135 ([.func (.func 90) #[] #[]])) :: (.box ac 133 ([.func (.func 88) #[] #[]])) :: (.box ab 133 ([.func (.func 87) #[] #[]])) :: (.box a9 100 ([.int .i64 0, .int .i64 0])) :: (.box aa 27 ([ak, al, am, an, ao, ap, aq, ar, au, av, aw])) :: Γ) w := hs
 refine Hu fun kv fd => Wr fun kw fe => O_y rfl (Zbp (v' := .bool true) (Zax rfl rfl) (by kernel_rfl)) <| Ox fe <| Zh fun kx ff => Zac rfl <| Wx ff <| Zh fun ky fg => Zj fun kz k0 k1 => Zh fun k2 fh => Zc ?_
 obtain ⟨k3, bz⟩ := hs.rowBlock (j := 9) rfl (by decide)
 refine O_y rfl (Vm (j := 9) Zcw hs rfl bz rfl rfl (by decide) (by decide)) <| O_y rfl (Qv Zae Zai rfl rfl (fun j u hu => hs.rowCell (j := 9) rfl bz ((H9 (o := 18) (k := 2) rfl) j u hu))) <| Y6 Zah hs rfl (fun cb w hs => Ye (i := 0) Zai hs rfl rfl rfl rfl rfl (Zb rfl (Zb rfl Yj)) (fun w hs => Ox fh <| Wr fun k4 fi => Ofd Za0 rfl <| Obx 0 Zdd hs rfl ?_))
 have hs := hs.front 13 rfl
 have hs := hs.front 15 rfl
 obtain ⟨bl, co, H⟩ := bnd H
 refine Xo rfl rfl rfl (Un.c hs ay az a0 a1 a2 a3 a4 a5 a6 a7 a8 co) (fun k5 w hpost => ?_)
 obtain ⟨rfl, hs⟩ := hpost
 have hs := hs.sink 15
 have hs := hs.sink 13
 refine As rfl <| Ox fi <| Wr fun k6 fj => Mv rfl <| Oge rfl <| Ox fj <| Y7 rfl (fun cc => ?_) (fun cc => ?_)
 rw [if_pos cc] at H
 refine Wr fun k7 fk => Ofd Zaz rfl <| Obx 0 ag3 hs rfl <| Mv rfl <| O_y rfl (Qe (cs := [.int .i64 10, .int .i64 bl]) Zb8 Zcr ((Z2.cons rfl rfl (Z2.cons rfl rfl Z2.nil))) Hx (by kernel_rfl)) <| Ye (i := 14) Hs hs rfl rfl rfl rfl rfl (Zb rfl (Zb rfl Yj)) (fun w hs => As rfl <| Ox fk <| W.weak [(2, _), (3, _)] (T2 rfl) <| Zk ?_)
 obtain rfl := Zz H
 exact Zcx (i := 14) rfl rfl rfl Hx Hs hs rfl rfl ⟨_, _, rfl, Le.rfl' _, (hs.sub (ssk (ssk (ssk (ssk (ssk (ssk (ssk (ssk (ssk (ssk (ssk (ssk (ssk (ssk (ssk (ssk ssr))))))))))))))))), rfl⟩
 rw [if_neg cc] at H
 refine Wx fg <| Zc <| O_y rfl (Zbp (v' := .int .i64 10) (Hy rfl rfl) (by kernel_rfl)) <| Mv rfl <| Ox fd <| WL.weak [(2, _), (36, _), (37, _), (38, _)] (T4 rfl) ?_
 have hs : St w0 ρ ((.box cb 137 ([.int .i64 10, .func (.func 110) #[] #[.pointer (some ⟨aa, 0, none⟩), .pointer (some ⟨ab, 0, none⟩)]])) :: (.box bo 137 ([.int .i64 9, .func (.func 109) #[] #[.pointer (some ⟨aa, 0, none⟩), .pointer (some ⟨ab, 0, none⟩)]])) :: (.box bb 137 ([.int .i64 8, .func (.func 107) #[] #[.pointer (some ⟨aa, 0, none⟩), .pointer (some ⟨ab, 0, none⟩)]])) :: (.box ax 137 ([.int .i64 7, .func (.func 105) #[] #[.pointer (some ⟨aa, 0, none⟩), .pointer (some ⟨ab, 0, none⟩)]])) :: (.box aj 137 ([.int .i64 6, .func (.func 102) #[] #[.pointer (some ⟨aa, 0, none⟩), .pointer (some ⟨ac, 0, none⟩)]])) :: (.box ai 137 ([.int .i64 5, .func (.func 99) #[] #[.pointer (some ⟨aa, 0, none⟩), .pointer (some ⟨ac, 0, none⟩)]])) :: (.box ah 137 ([.int .i64 4, .func (.func 98) #[] #[.pointer (some ⟨aa, 0, none⟩), .pointer (some ⟨ac, 0, none⟩)]])) :: (.box ag 137 ([.int .i64 3, .func (.func 96) #[] #[.pointer (some ⟨aa, 0, none⟩)]])) :: (.box af 137 ([.int .i64 2, .func (.func 94) #[] #[.pointer (some ⟨aa, 0, none⟩), .pointer (some ⟨ab, 0, none⟩)]])) :: (.box ae 137 ([.int .i64 1, .func (.func 92) #[] #[.pointer (some ⟨aa, 0, none⟩)]])) :: (.row (.slice (some ⟨ba, 0, none⟩) 12 12) 137 2 12 (J6.t90 aa ab ac ad)) :: (.box ad 135 ([.func (.func 90) #[] #[]])) :: (.box ac 133 ([.func (.func 88) #[] #[]])) :: (.box ab 133 ([.func (.func 87) #[] #[]])) :: (.box a9 100 ([.int .i64 0, .int .i64 0])) :: (.box aa 27 ([ak, al, am, an, ao, ap, aq, ar, au, av, aw])) :: Γ) w := hs
 refine Hu fun k8 fl => Wr fun k9 fm => O_y rfl (Zbp (v' := .bool true) (Zax rfl rfl) (by kernel_rfl)) <| Ox fm <| Zh fun la fn => Zac rfl <| Wx fn <| Zh fun lb fo => Zj fun lc ld le => Zh fun lf fp => Zc ?_
 obtain ⟨lg, b0⟩ := hs.rowBlock (j := 10) rfl (by decide)
 refine O_y rfl (Vm (j := 10) Zcw hs rfl b0 rfl rfl (by decide) (by decide)) <| O_y rfl (Qv Zae Zai rfl rfl (fun j u hu => hs.rowCell (j := 10) rfl b0 ((H9 (o := 20) (k := 2) rfl) j u hu))) <| Y6 Zah hs rfl (fun cp w hs => Ye (i := 0) Zai hs rfl rfl rfl rfl rfl (Zb rfl (Zb rfl Yj)) (fun w hs => Ox fp <| Wr fun lh fq => Ofd Za0 rfl <| Obx 0 Zdd hs rfl ?_))
 have hs := hs.front 12 rfl
 have hs := hs.front 16 rfl
 obtain ⟨bm, cq, H⟩ := bnd H
 refine Xo rfl rfl rfl (Um.c hs ay az a0 a1 a2 a3 a4 a5 a6 a7 a8 cq) (fun li w hpost => ?_)
 obtain ⟨rfl, hs⟩ := hpost
 have hs := hs.sink 16
 have hs := hs.sink 12
 refine As rfl <| Ox fq <| Wr fun lj fr => Mv rfl <| Oge rfl <| Ox fr <| Y7 rfl (fun cd => ?_) (fun cd => ?_)
 rw [if_pos cd] at H
 refine Wr fun lk fs => Ofd Zaz rfl <| Obx 0 ag3 hs rfl <| Mv rfl <| O_y rfl (Qe (cs := [.int .i64 11, .int .i64 bm]) Zb8 Zcr ((Z2.cons rfl rfl (Z2.cons rfl rfl Z2.nil))) Hx (by kernel_rfl)) <| Ye (i := 15) Hs hs rfl rfl rfl rfl rfl (Zb rfl (Zb rfl Yj)) (fun w hs => As rfl <| Ox fs <| W.weak [(2, _), (3, _)] (T2 rfl) <| Zk ?_)
 obtain rfl := Zz H
 exact Zcx (i := 15) rfl rfl rfl Hx Hs hs rfl rfl ⟨_, _, rfl, Le.rfl' _, (hs.sub (ssk (ssk (ssk (ssk (ssk (ssk (ssk (ssk (ssk (ssk (ssk (ssk (ssk (ssk (ssk (ssk (ssk ssr)))))))))))))))))), rfl⟩
 rw [if_neg cd] at H
 refine Wx fo <| Zc <| O_y rfl (Zbp (v' := .int .i64 11) (Hy rfl rfl) (by kernel_rfl)) <| Mv rfl <| Ox fl <| WL.weak [(2, _), (36, _), (37, _), (38, _)] (T4 rfl) ?_
 have hs : St w0 ρ ((.box cp 137 ([.int .i64 11, .func (.func 111) #[] #[.pointer (some ⟨aa, 0, none⟩), .pointer (some ⟨ad, 0, none⟩)]])) :: (.box cb 137 ([.int .i64 10, .func (.func 110) #[] #[.pointer (some ⟨aa, 0, none⟩), .pointer (some ⟨ab, 0, none⟩)]])) :: (.box bo 137 ([.int .i64 9, .func (.func 109) #[] #[.pointer (some ⟨aa, 0, none⟩), .pointer (some ⟨ab, 0, none⟩)]])) :: (.box bb 137 ([.int .i64 8, .func (.func 107) #[] #[.pointer (some ⟨aa, 0, none⟩), .pointer (some ⟨ab, 0, none⟩)]])) :: (.box ax 137 ([.int .i64 7, .func (.func 105) #[] #[.pointer (some ⟨aa, 0, none⟩), .pointer (some ⟨ab, 0, none⟩)]])) :: (.box aj 137 ([.int .i64 6, .func (.func 102) #[] #[.pointer (some ⟨aa, 0, none⟩), .pointer (some ⟨ac, 0, none⟩)]])) :: (.box ai 137 ([.int .i64 5, .func (.func 99) #[] #[.pointer (some ⟨aa, 0, none⟩), .pointer (some ⟨ac, 0, none⟩)]])) :: (.box ah 137 ([.int .i64 4, .func (.func 98) #[] #[.pointer (some ⟨aa, 0, none⟩), .pointer (some ⟨ac, 0, none⟩)]])) :: (.box ag 137 ([.int .i64 3, .func (.func 96) #[] #[.pointer (some ⟨aa, 0, none⟩)]])) :: (.box af 137 ([.int .i64 2, .func (.func 94) #[] #[.pointer (some ⟨aa, 0, none⟩), .pointer (some ⟨ab, 0, none⟩)]])) :: (.box ae 137 ([.int .i64 1, .func (.func 92) #[] #[.pointer (some ⟨aa, 0, none⟩)]])) :: (.row (.slice (some ⟨ba, 0, none⟩) 12 12) 137 2 12 (J6.t90 aa ab ac ad)) :: (.box ad 135 ([.func (.func 90) #[] #[]])) :: (.box ac 133 ([.func (.func 88) #[] #[]])) :: (.box ab 133 ([.func (.func 87) #[] #[]])) :: (.box a9 100 ([.int .i64 0, .int .i64 0])) :: (.box aa 27 ([ak, al, am, an, ao, ap, aq, ar, au, av, aw])) :: Γ) w := hs
 refine Hu fun ll ft => Wr fun lm fu => O_y rfl (Zbp (v' := .bool true) (Zax rfl rfl) (by kernel_rfl)) <| Ox fu <| Zh fun ln fv => Zac rfl <| Wx fv <| Zh fun lo fw => Zj fun lp lq lr => Zh fun ls fx => Zc ?_
 obtain ⟨lt, b1⟩ := hs.rowBlock (j := 11) rfl (by decide)
 refine O_y rfl (Vm (j := 11) Zcw hs rfl b1 rfl rfl (by decide) (by decide)) <| O_y rfl (Qv Zae Zai rfl rfl (fun j u hu => hs.rowCell (j := 11) rfl b1 ((H9 (o := 22) (k := 2) rfl) j u hu))) <| Y6 Zah hs rfl (fun fy w hs => Ye (i := 0) Zai hs rfl rfl rfl rfl rfl (Zb rfl (Zb rfl Yj)) (fun w hs => Ox fx <| Wr fun lu fz => Ofd Za0 rfl <| Obx 0 Zdd hs rfl ?_))
 have hs := hs.front 17 rfl
 obtain ⟨bn, cr, H⟩ := bnd H
 refine Xo rfl rfl rfl (Uq.c hs ay az a0 a1 a2 a3 a4 a5 a6 a7 a8 cr) (fun lv w hpost => ?_)
 obtain ⟨rfl, hs⟩ := hpost
 have hs := hs.sink 17
 refine As rfl <| Ox fz <| Wr fun lw ga => Mv rfl <| Oge rfl <| Ox ga <| Y7 rfl (fun ce => ?_) (fun ce => ?_)
 rw [if_pos ce] at H
 refine Wr fun lx gb => Ofd Zaz rfl <| Obx 0 ag3 hs rfl <| Mv rfl <| O_y rfl (Qe (cs := [.int .i64 5, .int .i64 bn]) Zb8 Zcr ((Z2.cons rfl rfl (Z2.cons rfl rfl Z2.nil))) Hx (by kernel_rfl)) <| Ye (i := 16) Hs hs rfl rfl rfl rfl rfl (Zb rfl (Zb rfl Yj)) (fun w hs => As rfl <| Ox gb <| W.weak [(2, _), (3, _)] (T2 rfl) <| Zk ?_)
 obtain rfl := Zz H
 exact Zcx (i := 16) rfl rfl rfl Hx Hs hs rfl rfl ⟨_, _, rfl, Le.rfl' _, (hs.sub (ssk (ssk (ssk (ssk (ssk (ssk (ssk (ssk (ssk (ssk (ssk (ssk (ssk (ssk (ssk (ssk (ssk (ssk ssr))))))))))))))))))), rfl⟩
 rw [if_neg ce] at H
 refine Wx fw <| Zc <| O_y rfl (Zbp (v' := .int .i64 12) (Hy rfl rfl) (by kernel_rfl)) <| Mv rfl <| Ox ft <| WL.weak [(2, _), (36, _), (37, _), (38, _)] (T4 rfl) ?_
 have hs : St w0 ρ ((.box fy 137 ([.int .i64 5, .func (.func 112) #[] #[.pointer (some ⟨aa, 0, none⟩)]])) :: (.box cp 137 ([.int .i64 11, .func (.func 111) #[] #[.pointer (some ⟨aa, 0, none⟩), .pointer (some ⟨ad, 0, none⟩)]])) :: (.box cb 137 ([.int .i64 10, .func (.func 110) #[] #[.pointer (some ⟨aa, 0, none⟩), .pointer (some ⟨ab, 0, none⟩)]])) :: (.box bo 137 ([.int .i64 9, .func (.func 109) #[] #[.pointer (some ⟨aa, 0, none⟩), .pointer (some ⟨ab, 0, none⟩)]])) :: (.box bb 137 ([.int .i64 8, .func (.func 107) #[] #[.pointer (some ⟨aa, 0, none⟩), .pointer (some ⟨ab, 0, none⟩)]])) :: (.box ax 137 ([.int .i64 7, .func (.func 105) #[] #[.pointer (some ⟨aa, 0, none⟩), .pointer (some ⟨ab, 0, none⟩)]])) :: (.box aj 137 ([.int .i64 6, .func (.func 102) #[] #[.pointer (some ⟨aa, 0, none⟩), .pointer (some ⟨ac, 0, none⟩)]])) :: (.box ai 137 ([.int .i64 5, .func (.func 99) #[] #[.pointer (some ⟨aa, 0, none⟩), .pointer (some ⟨ac, 0, none⟩)]])) :: (.box ah 137 ([.int .i64 4, .func (.func 98) #[] #[.pointer (some ⟨aa, 0, none⟩), .pointer (some ⟨ac, 0, none⟩)]])) :: (.box ag 137 ([.int .i64 3, .func (.func 96) #[] #[.pointer (some ⟨aa, 0, none⟩)]])) :: (.box af 137 ([.int .i64 2, .func (.func 94) #[] #[.pointer (some ⟨aa, 0, none⟩), .pointer (some ⟨ab, 0, none⟩)]])) :: (.box ae 137 ([.int .i64 1, .func (.func 92) #[] #[.pointer (some ⟨aa, 0, none⟩)]])) :: (.row (.slice (some ⟨ba, 0, none⟩) 12 12) 137 2 12 (J6.t90 aa ab ac ad)) :: (.box ad 135 ([.func (.func 90) #[] #[]])) :: (.box ac 133 ([.func (.func 88) #[] #[]])) :: (.box ab 133 ([.func (.func 87) #[] #[]])) :: (.box a9 100 ([.int .i64 0, .int .i64 0])) :: (.box aa 27 ([ak, al, am, an, ao, ap, aq, ar, au, av, aw])) :: Γ) w := hs
 refine Hu fun ly lz => Wr fun l0 gc => O_y rfl (Zbp (v' := .bool false) (Zax rfl rfl) (by kernel_rfl)) <| Ox gc <| Zh fun l1 l2 => Zee rfl <| Y4 (gm _ _ (gk _ _ <| Wr fun l3 gd => O_y rfl (Qe (cs := [.int .i64 0, .int .i64 0]) Zb8 Zcr (Z2.nil) Hx (by kernel_rfl)) <| Ye (i := 16) Hs hs rfl rfl rfl rfl rfl (Zb rfl (Zb rfl Yj)) (fun w hs => As rfl <| Zd (gd _ _ ?_))))
 refine Zk ?_
 obtain rfl := Zz H
 exact Zcx (i := 16) rfl rfl rfl Hx Hs hs rfl rfl ⟨_, _, rfl, Le.rfl' _, (hs.sub (ssk (ssk (ssk (ssk (ssk (ssk (ssk (ssk (ssk (ssk (ssk (ssk (ssk (ssk (ssk (ssk (ssk (ssk ssr))))))))))))))))))), rfl⟩

def Ki.f (x0 : List ByteArray) : Option (List ByteArray) := if ([] : List ByteArray).length + x0.length ≤ most then (some (([] : List ByteArray) ++ x0)) else none
theorem Ki.c (hs : St w0 ρ Γ w) {v0 : Value} {x0 : List ByteArray} (h0 : SlR Rep.str ρ v0 x0) {r : List ByteArray} (H : Ki.f x0 = some r) : Zn Tryz.prog 114 [v0] w (fun v w' => ∃ (ρ' : Hp) (v0 : Value) (cs0 : List Value), v = v0 ∧ Le ρ ρ' ∧ St w0 ρ' (.row v0 9 Rep.str.sz r.length cs0 :: Γ) w' ∧ Zm Rep.str ρ' cs0 r) := by
 rw [Ki.f] at H
 refine Et Tryz.func114 Tryz.ntmps114 rfl <| Wr fun an af => As rfl <| Ox af <| Zh fun ao ag => Wr fun ap ae => Mv rfl ?_
 obtain ⟨ad, c, rfl⟩ := h0.shape
 cases ad with
 | none =>
  obtain rfl : x0 = [] := h0.nilEmpty
  refine O_y rfl (Zbj Zga rfl rfl) <| Ox ae <| Zac rfl <| Wr fun ah aa => As rfl <| Ox aa <| Zk ?_
  rw [if_pos (by decide)] at H
  obtain rfl := Zz H
  have hs := hs.rowNil 9 Rep.str.sz
  exact r1 rfl ⟨_, _, _, rfl, Le.rfl' _, hs, Zm.nil _ _⟩
 | some ad =>
  refine O_y rfl (Zbj Zga rfl rfl) <| Ox ae <| Zee rfl <| Wx ag <| Wr fun ah aa => Zhz (xs := []) Zf7 hs rfl rfl rfl (by decide) (by decide) rfl Kb (fun aq w hs => ?_)
  have ai : Zm Rep.str ρ [] ([] : List ByteArray) := Zm.nil _ _
  refine Mv rfl ?_
  obtain ⟨aj, ab, ac⟩ := Src.sl hs h0
  obtain ⟨ak, H⟩ := gd H
  refine Qt (i := 0) Zf7 hs rfl ai rfl rfl rfl ab ac ak (fun ar al w am hs => As rfl <| Ox aa <| Zk ?_)
  obtain rfl := Zz H
  exact r1 rfl ⟨_, _, _, rfl, Le.rfl' _, hs, am⟩

def Yh.f (x0 : List Val) : Option (List Val) := if ([] : List Val).length + x0.length ≤ most then (some (([] : List Val) ++ x0)) else none
theorem Yh.c (hs : St w0 ρ Γ w) {v0 : Value} {x0 : List Val} (h0 : SlR X9 ρ v0 x0) {r : List Val} (H : Yh.f x0 = some r) : Zn Tryz.prog 115 [v0] w (fun v w' => ∃ (ρ' : Hp) (v0 : Value) (cs0 : List Value), v = v0 ∧ Le ρ ρ' ∧ St w0 ρ' (.row v0 67 X9.sz r.length cs0 :: Γ) w' ∧ Zm X9 ρ' cs0 r) := by
 rw [Yh.f] at H
 refine Et Tryz.func115 Tryz.ntmps115 rfl <| Wr fun an af => As rfl <| Ox af <| Zh fun ao ag => Wr fun ap ae => Mv rfl ?_
 obtain ⟨ad, c, rfl⟩ := h0.shape
 cases ad with
 | none =>
  obtain rfl : x0 = [] := h0.nilEmpty
  refine O_y rfl (Zbj Zfb rfl rfl) <| Ox ae <| Zac rfl <| Wr fun ah aa => As rfl <| Ox aa <| Zk ?_
  rw [if_pos (by decide)] at H
  obtain rfl := Zz H
  have hs := hs.rowNil 67 X9.sz
  exact r1 rfl ⟨_, _, _, rfl, Le.rfl' _, hs, Zm.nil _ _⟩
 | some ad =>
  refine O_y rfl (Zbj Zfb rfl rfl) <| Ox ae <| Zee rfl <| Wx ag <| Wr fun ah aa => Zhz (xs := []) Zcg hs rfl rfl rfl (by decide) (by decide) rfl Kb (fun aq w hs => ?_)
  have ai : Zm X9 ρ [] ([] : List Val) := Zm.nil _ _
  refine Mv rfl ?_
  obtain ⟨aj, ab, ac⟩ := Src.sl hs h0
  obtain ⟨ak, H⟩ := gd H
  refine Qt (i := 0) Zcg hs rfl ai rfl rfl rfl ab ac ak (fun ar al w am hs => As rfl <| Ox aa <| Zk ?_)
  obtain rfl := Zz H
  exact r1 rfl ⟨_, _, _, rfl, Le.rfl' _, hs, am⟩

def Qq.f (x0 : List Chs) : Option (List Chs) := if ([] : List Chs).length + x0.length ≤ most then (some (([] : List Chs) ++ x0)) else none
theorem Qq.c (hs : St w0 ρ Γ w) {v0 : Value} {x0 : List Chs} (h0 : SlR Ks ρ v0 x0) {r : List Chs} (H : Qq.f x0 = some r) : Zn Tryz.prog 150 [v0] w (fun v w' => ∃ (ρ' : Hp) (v0 : Value) (cs0 : List Value), v = v0 ∧ Le ρ ρ' ∧ St w0 ρ' (.row v0 110 Ks.sz r.length cs0 :: Γ) w' ∧ Zm Ks ρ' cs0 r) := by
 rw [Qq.f] at H
 refine Et Tryz.func150 Tryz.ntmps150 rfl <| Wr fun an af => As rfl <| Ox af <| Zh fun ao ag => Wr fun ap ae => Mv rfl ?_
 obtain ⟨ad, c, rfl⟩ := h0.shape
 cases ad with
 | none =>
  obtain rfl : x0 = [] := h0.nilEmpty
  refine O_y rfl (Zbj Ze5 rfl rfl) <| Ox ae <| Zac rfl <| Wr fun ah aa => As rfl <| Ox aa <| Zk ?_
  rw [if_pos (by decide)] at H
  obtain rfl := Zz H
  have hs := hs.rowNil 110 Ks.sz
  exact r1 rfl ⟨_, _, _, rfl, Le.rfl' _, hs, Zm.nil _ _⟩
 | some ad =>
  refine O_y rfl (Zbj Ze5 rfl rfl) <| Ox ae <| Zee rfl <| Wx ag <| Wr fun ah aa => Zhz (xs := []) Zdo hs rfl rfl rfl (by decide) (by decide) rfl Kb (fun aq w hs => ?_)
  have ai : Zm Ks ρ [] ([] : List Chs) := Zm.nil _ _
  refine Mv rfl ?_
  obtain ⟨aj, ab, ac⟩ := Src.sl hs h0
  obtain ⟨ak, H⟩ := gd H
  refine Qt (i := 0) Zdo hs rfl ai rfl rfl rfl ab ac ak (fun ar al w am hs => As rfl <| Ox aa <| Zk ?_)
  obtain rfl := Zz H
  exact r1 rfl ⟨_, _, _, rfl, Le.rfl' _, hs, am⟩

def Xi.f (x0 : List Int) : Option (List Int) := if ([] : List Int).length + x0.length ≤ most then (some (([] : List Int) ++ x0)) else none
theorem Xi.c (hs : St w0 ρ Γ w) {v0 : Value} {x0 : List Int} (h0 : SlR (Rep.int .i32) ρ v0 x0) {r : List Int} (H : Xi.f x0 = some r) : Zn Tryz.prog 30 [v0] w (fun v w' => ∃ (ρ' : Hp) (v0 : Value) (cs0 : List Value), v = v0 ∧ Le ρ ρ' ∧ St w0 ρ' (.row v0 21 (Rep.int .i32).sz r.length cs0 :: Γ) w' ∧ Zm (Rep.int .i32) ρ' cs0 r) := by
 rw [Xi.f] at H
 refine Et Tryz.func30 Tryz.ntmps30 rfl <| Wr fun an af => As rfl <| Ox af <| Zh fun ao ag => Wr fun ap ae => Mv rfl ?_
 obtain ⟨ad, c, rfl⟩ := h0.shape
 cases ad with
 | none =>
  obtain rfl : x0 = [] := h0.nilEmpty
  refine O_y rfl (Zbj V2 rfl rfl) <| Ox ae <| Zac rfl <| Wr fun ah aa => As rfl <| Ox aa <| Zk ?_
  rw [if_pos (by decide)] at H
  obtain rfl := Zz H
  have hs := hs.rowNil 21 (Rep.int .i32).sz
  exact r1 rfl ⟨_, _, _, rfl, Le.rfl' _, hs, Zm.nil _ _⟩
 | some ad =>
  refine O_y rfl (Zbj V2 rfl rfl) <| Ox ae <| Zee rfl <| Wx ag <| Wr fun ah aa => Zhz (xs := []) Q7 hs rfl rfl rfl (by decide) (by decide) rfl Kb (fun aq w hs => ?_)
  have ai : Zm (Rep.int .i32) ρ [] ([] : List Int) := Zm.nil _ _
  refine Mv rfl ?_
  obtain ⟨aj, ab, ac⟩ := Src.sl hs h0
  obtain ⟨ak, H⟩ := gd H
  refine Qt (i := 0) Q7 hs rfl ai rfl rfl rfl ab ac ak (fun ar al w am hs => As rfl <| Ox aa <| Zk ?_)
  obtain rfl := Zz H
  exact r1 rfl ⟨_, _, _, rfl, Le.rfl' _, hs, am⟩

def V0.l1 : Nat → List Chs → List Chs → Int → Option (List Chs)
  | 0, _, _, _ => none
  | af + 1, aj, aa, ab => if ab < (aj.length : Int) then (if (0 : Int) ≤ ab ∧ ab < (aa.length : Int) then ((Xi.f ((rd aa ab).is_)).bind fun ar => ((V0.l1 af aj) (aa.set ab.toNat ({ (rd aa ab) with is_ := ar } : Chs)) (i64.wrap (ab + 1)))) else none) else (some aa)
def V0.f (x0 : List Chs) : Option (List Chs) := (Qq.f x0).bind fun aj => (V0.l1 K0 aj aj 0)
theorem V0.c (hs : St w0 ρ (Γ) w) {v0 : Value} {x0 : List Chs} (h0 : SlR Ks ρ v0 x0) {r : List Chs} (H : V0.f x0 = some r) : Zn Tryz.prog 116 [v0] w (fun v w' => ∃ (ρ' : Hp) (v0 : Value) (cs0 : List Value), v = v0 ∧ Le ρ ρ' ∧ St w0 ρ' (.row v0 110 Ks.sz r.length cs0 :: Γ) w' ∧ Zm Ks ρ' cs0 r) := by
 rw [V0.f] at H
 refine Et Tryz.func116 Tryz.ntmps116 rfl <| Wr fun bo a5 => As rfl <| Ox a5 <| Wr fun bp a6 => Mv rfl ?_
 obtain ⟨aj, au, H⟩ := bnd H
 refine Oc rfl (Qq.c hs h0 au) (fun a7 w hpost => ?_)
 obtain ⟨a3, bq, av, rfl, aw, hs, a8⟩ := hpost
 refine As rfl <| Ox a6 <| Zh fun br a9 => Wr fun bs ba => Mv rfl <| O_y rfl (V8 (i := 0) Ze5 hs rfl rfl) <| Mv rfl <| Ox ba <| Zj fun bt bb bu => Y9 (σ := Nat × List Chs × Int × Value × List Value × Hp) (fun (af, aa, ab, ac, ad, ah) => [(3, ac), (8, .int .i64 (aj.length : Int)), (9, .int .i64 ab)]) (fun (af, aa, ab, ac, ad, ah) w => V0.l1 af aj aa ab = some r ∧ Le a3 ah ∧ St w0 ah ((.row ac 110 Ks.sz aa.length ad) :: Γ) w ∧ Zm Ks ah ad aa) (fun s => s.1) (K0, aj, 0, a7, av, a3) (T3 rfl) (Ai H (Ai (Le.rfl' _) (Ai hs a8))) ?_
 rintro ⟨af, aa, ab, ac, ad, ah⟩ w bv ⟨H, ak, hs, ae⟩ an
 show W _ _ _ _ _ _ [(3, ac), (8, .int .i64 (aj.length : Int)), (9, .int .i64 ab)] w
 cases af with
 | zero => rw [V0.l1] at H; cases H
 | succ af =>
 rw [V0.l1] at H
 refine Wr fun bw bc => Ols rfl <| Ox bc <| Zh fun bx bd => Y7 rfl (fun ax => ?_) (fun ax => ?_)
 rw [if_pos ax] at H
 refine Wx bd <| Zh fun bz be => Zj fun b0 b1 b2 => Wr fun b3 bf => Mv rfl <| As rfl <| Ox bf <| Zc <| Mv rfl <| Mv rfl <| Mv rfl <| Mv rfl ?_
 obtain ⟨ag, H⟩ := gd H
 obtain ⟨b4, ao⟩ := hs.rowBlock (j := 0) rfl (by have := ag.2; omega)
 obtain ⟨_, ⟨b5, rfl, bg⟩, ay⟩ := ae.at ag.1 ag.2
 refine O_y rfl (Vm (j := 0) Zdo hs rfl ao rfl rfl ag.1 ag.2) <| Ofd H4 rfl <| O_y rfl (Xp Za8 rfl (hs.rowCell (j := 0) rfl ao (ay 2 _ rfl))) ?_
 obtain ⟨ar, az, H⟩ := bnd H
 refine Oc rfl (Xi.c hs bg az) (fun b6 w hpost => ?_)
 obtain ⟨bh, b7, bi, rfl, ai, hs, bj⟩ := hpost
 obtain ⟨bk, al⟩ := hs.rowBlock (j := 1) rfl (by have := ag.2; omega)
 obtain ⟨_, ⟨bl, rfl, bm⟩, a4⟩ := (ae.mono ai).at ag.1 ag.2
 refine O_y rfl (Vm (j := 1) Zdo hs rfl al rfl rfl ag.1 ag.2) <| Ofd H4 rfl ?_
 obtain ⟨a0, am, hs, ap⟩ := hs.rowEnd (j := 0) bj rfl
 refine Zlx (j := 0) (off := 2) (z := ({ (rd aa ab) with is_ := ar } : Chs)) Zte hs rfl al ag.1 ag.2 (by decide) (ae.mono (ai.trans am)) rfl rfl ap.one (fun c h => by obtain ⟨v_2, rfl, f_2⟩ := h; exact ⟨_, rfl, ap⟩) (fun aq w a1 hs => Ox be <| W.weak [(3, _), (8, _), (9, _)] (T3 rfl) <| Zc <| Oad rfl <| Mv rfl <| Zd (an (af, (aa.set ab.toNat ({ (rd aa ab) with is_ := ar } : Chs)), (i64.wrap (ab + 1)), ac, aq, a0) _ _ (T3 rfl) (Ai H (Ai ((ak.trans ai).trans am) (Ai hs a1))) (Nat.lt_succ_self _)))
 rw [if_neg ax] at H
 refine Y4 (bb _ _ (a9 _ _ <| Wr fun bn a2 => Mv rfl <| As rfl <| Ox a2 <| Zk ?_))
 obtain rfl := Zz H
 exact r1 rfl ⟨_, _, _, rfl, (aw.trans ak), hs, ae⟩

def Xx.f (x0 : List Spn) : Option (List Spn) := if ([] : List Spn).length + x0.length ≤ most then (some (([] : List Spn) ++ x0)) else none
theorem Xx.c (hs : St w0 ρ Γ w) {v0 : Value} {x0 : List Spn} (h0 : SlR Kd ρ v0 x0) {r : List Spn} (H : Xx.f x0 = some r) : Zn Tryz.prog 117 [v0] w (fun v w' => ∃ (ρ' : Hp) (v0 : Value) (cs0 : List Value), v = v0 ∧ Le ρ ρ' ∧ St w0 ρ' (.row v0 129 Kd.sz r.length cs0 :: Γ) w' ∧ Zm Kd ρ' cs0 r) := by
 rw [Xx.f] at H
 refine Et Tryz.func117 Tryz.ntmps117 rfl <| Wr fun an af => As rfl <| Ox af <| Zh fun ao ag => Wr fun ap ae => Mv rfl ?_
 obtain ⟨ad, c, rfl⟩ := h0.shape
 cases ad with
 | none =>
  obtain rfl : x0 = [] := h0.nilEmpty
  refine O_y rfl (Zbj Zjf rfl rfl) <| Ox ae <| Zac rfl <| Wr fun ah aa => As rfl <| Ox aa <| Zk ?_
  rw [if_pos (by decide)] at H
  obtain rfl := Zz H
  have hs := hs.rowNil 129 Kd.sz
  exact r1 rfl ⟨_, _, _, rfl, Le.rfl' _, hs, Zm.nil _ _⟩
 | some ad =>
  refine O_y rfl (Zbj Zjf rfl rfl) <| Ox ae <| Zee rfl <| Wx ag <| Wr fun ah aa => Zhz (xs := []) Zi5 hs rfl rfl rfl (by decide) (by decide) rfl Kb (fun aq w hs => ?_)
  have ai : Zm Kd ρ [] ([] : List Spn) := Zm.nil _ _
  refine Mv rfl ?_
  obtain ⟨aj, ab, ac⟩ := Src.sl hs h0
  obtain ⟨ak, H⟩ := gd H
  refine Qt (i := 0) Zi5 hs rfl ai rfl rfl rfl ab ac ak (fun ar al w am hs => As rfl <| Ox aa <| Zk ?_)
  obtain rfl := Zz H
  exact r1 rfl ⟨_, _, _, rfl, Le.rfl' _, hs, am⟩

def Zas.f (x0 : Bk) : Option Bk := (Ki.f x0.names).bind fun di => ((Yh.f x0.status).bind fun dj => ((V0.f x0.maps).bind fun bh => ((Yh.f x0.class_).bind fun bi => ((V0.f x0.decomp).bind fun bj => ((Xx.f x0.excl).bind fun bk => ((Yh.f x0.bidi).bind fun bl => ((Yh.f x0.join).bind fun bm => ((Xx.f x0.marks).bind fun bn => ((Yh.f x0.script).bind fun bo => ((V0.f x0.like).bind fun bp => (some (⟨di, dj, bh, bi, bj, bk, bl, bm, bn, bo, bp⟩ : Bk))))))))))))
theorem Zas.c (hs : St w0 ρ (Γ) w) {c0 : List Value} {x0 : Bk} (h0 : rBk.R ρ c0 x0) {r : Bk} (H : Zas.f x0 = some r) : Zn Tryz.prog 61 [.agg c0.toArray] w (fun v w' => ∃ (ρ' : Hp) (cs0 : List Value), v = .agg cs0.toArray ∧ Le ρ ρ' ∧ St w0 ρ' (Γ) w' ∧ rBk.R ρ' cs0 r) := by
 rw [Zas.f] at H
 refine Et Tryz.func61 Tryz.ntmps61 rfl ?_
 have ef := h0
 obtain ⟨dk, dl, dm, dn, dp, dq, dr, ds, dt, du, dv, rfl, eg, eh, ei, ej, ek, el, em, en, eo, ep, eq⟩ := ef
 refine Wr fun gg er => Vg (cs := [dk, dl, dm, dn, dp, dq, dr, ds, dt, du, dv]) hs rfl rfl (fun es w hs => Y6 Zvt hs rfl (fun et w hs => Ox er <| Zh fun gh eu => Qn 35 [0, 1, 2, 0, 8, 20, 0, 64, 160, 0, 512, 1280, 0, 4096, 10240, 0, 32768, 81920, 0, 262144, 655360, 0, 2097152, 5242880, 0, 16777216, 41943040, 0, 134217728, 335544320, 0, 1073741824, 2684354560, 4908534052, 17179869183] [17179869180, 17179869176, 8589934552, 17179869159, 17179869127, 8589934272, 17179868991, 17179868735, 8589932032, 17179867647, 17179865599, 8589914112, 17179856895, 17179840511, 8589770752, 17179770879, 17179639807, 8588623872, 17179082751, 17178034175, 8579448832, 17173577727, 17165189119, 8506048512, 17129537535, 17062428671, 7918845952, 16777215999, 16240345087, 3221225472, 13958643711, 9663676415, 0, 0, 0] [0, 1, 3, 0, 8, 31, 0, 64, 255, 0, 512, 2047, 0, 4096, 16383, 0, 32768, 131071, 0, 262144, 1048575, 0, 2097152, 8388607, 0, 16777216, 67108863, 0, 134217728, 536870911, 0, 1073741824, 4294967295, 8589934591, 17179869183] [34] (fun w => St w0 ρ ((.box et 27 ([.slice none 0 0, .slice none 0 0, .slice none 0 0, .slice none 0 0, .slice none 0 0, .slice none 0 0, .slice none 0 0, .slice none 0 0, .slice none 0 0, .slice none 0 0, .slice none 0 0])) :: (.box es 27 ([dk, dl, dm, dn, dp, dq, dr, ds, dt, du, dv])) :: Γ) w) Vl (by kernel_rfl) (fun sh => ?_)))
 have hs := hs.drew
 refine Fp 0 sh rfl (fun w => Zp Zk6 rfl) <| Fy 1 sh rfl hs (fun w hs => Yb 1 Zp2 hs rfl rfl rfl) <| Fp 3 sh rfl (fun w => Zp Zdz rfl) <| Fy 4 sh rfl hs (fun w hs => Yb 1 Zbl hs rfl rfl rfl) <| Fp 6 sh rfl (fun w => Zp Zik rfl) <| Fy 7 sh rfl hs (fun w hs => Yb 1 Zdw hs rfl rfl rfl) <| Fp 9 sh rfl (fun w => Zp Zkz rfl) <| Fy 10 sh rfl hs (fun w hs => Yb 1 Zbl hs rfl rfl rfl) <| Fp 12 sh rfl (fun w => Zp Zeq rfl) <| Fy 13 sh rfl hs (fun w hs => Yb 1 Zdw hs rfl rfl rfl) <| Fp 15 sh rfl (fun w => Zp Zk8 rfl) <| Fy 16 sh rfl hs (fun w hs => Yb 1 Zl1 hs rfl rfl rfl) <| Fp 18 sh rfl (fun w => Zp Zlh rfl) <| Fy 19 sh rfl hs (fun w hs => Yb 1 Zbl hs rfl rfl rfl) ?_
 refine Fp 21 sh rfl (fun w => Zp Zk7 rfl) <| Fy 22 sh rfl hs (fun w hs => Yb 1 Zbl hs rfl rfl rfl) <| Fp 24 sh rfl (fun w => Zp Zlf rfl) <| Fy 25 sh rfl hs (fun w hs => Yb 1 Zl1 hs rfl rfl rfl) <| Fp 27 sh rfl (fun w => Zp Zk1 rfl) <| Fy 28 sh rfl hs (fun w hs => Yb 1 Zbl hs rfl rfl rfl) <| Fp 30 sh rfl (fun w => Zp Zhf rfl) <| Fy 31 sh rfl hs (fun w hs => Yb 1 Zdw hs rfl rfl rfl) <| F1 2 sh rfl (fun gi ev => ?_)
 obtain ⟨di, b2, H⟩ := bnd H
 refine Oc rfl (Ki.c hs eg b2) (fun ew w hpost => ?_)
 obtain ⟨gj, gk, ex, rfl, aw, hs, ey⟩ := hpost
 refine Zd (ev _ _ (fun _ _ => ((hs.less aw).sub (ssk (ssc (ssc ssr))))) <| F1 5 sh rfl (fun gl ez => ?_))
 obtain ⟨dj, b3, H⟩ := bnd H
 refine Oc rfl (Yh.c hs (eh.mono aw) b3) (fun e0 w hpost => ?_)
 obtain ⟨gm, gn, e1, rfl, bq, hs, e2⟩ := hpost
 have ax := aw.trans bq
 refine Zd (ez _ _ (fun _ _ => ((hs.less ax).sub (ssk (ssk (ssc (ssc ssr)))))) <| F1 8 sh rfl (fun e3 b4 => ?_))
 obtain ⟨bh, br, H⟩ := bnd H
 refine Oc rfl (V0.c hs (ei.mono ax) br) (fun b5 w hpost => ?_)
 obtain ⟨e4, e5, dw, rfl, av, hs, b6⟩ := hpost
 have ay := ax.trans av
 refine Zd (b4 _ _ (fun _ _ => ((hs.less ay).sub (ssk (ssk (ssk (ssc (ssc ssr))))))) <| F1 11 sh rfl (fun e6 b7 => ?_))
 obtain ⟨bi, bs, H⟩ := bnd H
 refine Oc rfl (Yh.c hs (ej.mono ay) bs) (fun b8 w hpost => ?_)
 obtain ⟨e7, e8, dx, rfl, au, hs, b9⟩ := hpost
 have az := ay.trans au
 refine Zd (b7 _ _ (fun _ _ => ((hs.less az).sub (ssk (ssk (ssk (ssk (ssc (ssc ssr)))))))) <| F1 14 sh rfl (fun e9 ca => ?_))
 obtain ⟨bj, bt, H⟩ := bnd H
 refine Oc rfl (V0.c hs (ek.mono az) bt) (fun cb w hpost => ?_)
 obtain ⟨fa, fb, dy, rfl, ar, hs, cc⟩ := hpost
 have a0 := az.trans ar
 refine Zd (ca _ _ (fun _ _ => ((hs.less a0).sub (ssk (ssk (ssk (ssk (ssk (ssc (ssc ssr))))))))) <| F1 17 sh rfl (fun fc cd => ?_))
 obtain ⟨bk, bu, H⟩ := bnd H
 refine Oc rfl (Xx.c hs (el.mono a0) bu) (fun ce w hpost => ?_)
 obtain ⟨fd, fe, dz, rfl, aq, hs, cf⟩ := hpost
 have a1 := a0.trans aq
 refine Zd (cd _ _ (fun _ _ => ((hs.less a1).sub (ssk (ssk (ssk (ssk (ssk (ssk (ssc (ssc ssr)))))))))) <| F1 20 sh rfl (fun ff cg => ?_))
 obtain ⟨bl, bv, H⟩ := bnd H
 refine Oc rfl (Yh.c hs (em.mono a1) bv) (fun ch w hpost => ?_)
 obtain ⟨fg, fh, ea, rfl, ap, hs, ci⟩ := hpost
 have a2 := a1.trans ap
 refine Zd (cg _ _ (fun _ _ => ((hs.less a2).sub (ssk (ssk (ssk (ssk (ssk (ssk (ssk (ssc (ssc ssr))))))))))) <| F1 23 sh rfl (fun fi cj => ?_))
 obtain ⟨bm, bw, H⟩ := bnd H
 refine Oc rfl (Yh.c hs (en.mono a2) bw) (fun ck w hpost => ?_)
 obtain ⟨fj, fk, eb, rfl, ao, hs, cl⟩ := hpost
 have a3 := a2.trans ao
 refine Zd (cj _ _ (fun _ _ => ((hs.less a3).sub (ssk (ssk (ssk (ssk (ssk (ssk (ssk (ssk (ssc (ssc ssr)))))))))))) <| F1 26 sh rfl (fun fl cm => ?_))
 obtain ⟨bn, bx, H⟩ := bnd H
 refine Oc rfl (Xx.c hs (eo.mono a3) bx) (fun cn w hpost => ?_)
 obtain ⟨fm, fn, ec, rfl, an, hs, co⟩ := hpost
 have a4 := a3.trans an
 refine Zd (cm _ _ (fun _ _ => ((hs.less a4).sub (ssk (ssk (ssk (ssk (ssk (ssk (ssk (ssk (ssk (ssc (ssc ssr))))))))))))) <| F1 29 sh rfl (fun fo cp => ?_))
 obtain ⟨bo, bz, H⟩ := bnd H
 refine Oc rfl (Yh.c hs (ep.mono a4) bz) (fun cq w hpost => ?_)
 obtain ⟨fp, fq, ed, rfl, am, hs, cr⟩ := hpost
 have a5 := a4.trans am
 refine Zd (cp _ _ (fun _ _ => ((hs.less a5).sub (ssk (ssk (ssk (ssk (ssk (ssk (ssk (ssk (ssk (ssk (ssc (ssc ssr)))))))))))))) <| F1 32 sh rfl (fun fr ct => ?_))
 obtain ⟨bp, b0, H⟩ := bnd H
 refine Oc rfl (V0.c hs (eq.mono a5) b0) (fun cu w hpost => ?_)
 obtain ⟨fs, ft, ee, rfl, aa, hs, cv⟩ := hpost
 have b1 := a5.trans aa
 refine Zd (ct _ _ (fun _ _ => ((hs.less b1).sub (ssk (ssk (ssk (ssk (ssk (ssk (ssk (ssk (ssk (ssk (ssk (ssc (ssc ssr))))))))))))))) ?_)
 obtain ⟨fu, ab, hs, a6⟩ := hs.rowEnd (j := 10) (ey.mono (((((((((bq.trans av).trans au).trans ar).trans aq).trans ap).trans ao).trans an).trans am).trans aa)) rfl
 have cw := b1.trans ab
 obtain ⟨fv, ac, hs, a7⟩ := hs.rowEnd (j := 9) (e2.mono (((((((((av.trans au).trans ar).trans aq).trans ap).trans ao).trans an).trans am).trans aa).trans ab)) rfl
 have cx := cw.trans ac
 obtain ⟨fw, ad, hs, a8⟩ := hs.rowEnd (j := 8) (b6.mono (((((((((au.trans ar).trans aq).trans ap).trans ao).trans an).trans am).trans aa).trans ab).trans ac)) rfl
 have cy := cx.trans ad
 obtain ⟨fx, ae, hs, a9⟩ := hs.rowEnd (j := 7) (b9.mono (((((((((ar.trans aq).trans ap).trans ao).trans an).trans am).trans aa).trans ab).trans ac).trans ad)) rfl
 have cz := cy.trans ae
 obtain ⟨fy, af, hs, ba⟩ := hs.rowEnd (j := 6) (cc.mono (((((((((aq.trans ap).trans ao).trans an).trans am).trans aa).trans ab).trans ac).trans ad).trans ae)) rfl
 have da := cz.trans af
 obtain ⟨fz, ag, hs, bb⟩ := hs.rowEnd (j := 5) (cf.mono (((((((((ap.trans ao).trans an).trans am).trans aa).trans ab).trans ac).trans ad).trans ae).trans af)) rfl
 have db := da.trans ag
 obtain ⟨ga, ah, hs, bc⟩ := hs.rowEnd (j := 4) (ci.mono (((((((((ao.trans an).trans am).trans aa).trans ab).trans ac).trans ad).trans ae).trans af).trans ag)) rfl
 have dc := db.trans ah
 obtain ⟨gb, ai, hs, bd⟩ := hs.rowEnd (j := 3) (cl.mono (((((((((an.trans am).trans aa).trans ab).trans ac).trans ad).trans ae).trans af).trans ag).trans ah)) rfl
 have dd := dc.trans ai
 obtain ⟨gc, aj, hs, be⟩ := hs.rowEnd (j := 2) (co.mono (((((((((am.trans aa).trans ab).trans ac).trans ad).trans ae).trans af).trans ag).trans ah).trans ai)) rfl
 have de := dd.trans aj
 obtain ⟨gd, ak, hs, bf⟩ := hs.rowEnd (j := 1) (cr.mono (((((((((aa.trans ab).trans ac).trans ad).trans ae).trans af).trans ag).trans ah).trans ai).trans aj)) rfl
 have df := de.trans ak
 obtain ⟨ge, al, hs, bg⟩ := hs.rowEnd (j := 0) (cv.mono (((((((((ab.trans ac).trans ad).trans ae).trans af).trans ag).trans ah).trans ai).trans aj).trans ak)) rfl
 have dg := df.trans al
 refine Fp 33 sh rfl (fun w => Qe (cs := [ew, e0, b5, b8, cb, ce, ch, ck, cn, cq, cu]) Zvt Zww ((Z2.cons rfl a6.cellsL (Z2.cons rfl a7.cellsL (Z2.cons rfl a8.cellsL (Z2.cons rfl a9.cellsL (Z2.cons rfl ba.cellsL (Z2.cons rfl bb.cellsL (Z2.cons rfl bc.cellsL (Z2.cons rfl bd.cellsL (Z2.cons rfl be.cellsL (Z2.cons rfl bf.cellsL (Z2.cons rfl bg.cellsL Z2.nil)))))))))))) Zja (by kernel_rfl)) <| F1 34 sh rfl (fun gf dh => Ye (i := 0) Zje hs rfl rfl rfl rfl rfl (Zb a6.one (Zb a7.one (Zb a8.one (Zb a9.one (Zb ba.one (Zb bb.one (Zb bc.one (Zb bd.one (Zb be.one (Zb bf.one (Zb bg.one Yj))))))))))) (fun w hs => Zd (dh _ _ (fun h _ => absurd h (by decide)) <| FE sh (eu _ _ <| W.weak [(2, _)] (S1 rfl) <| Zk ?_))))
 obtain rfl := Zz H
 exact Zit (i := 0) rfl rfl Zja Zje hs rfl rfl ⟨_, _, rfl, dg, (hs.sub (ssk (ssk ssr))), ⟨_, _, _, _, _, _, _, _, _, _, _, rfl, (a6.mono (((((((((ac.trans ad).trans ae).trans af).trans ag).trans ah).trans ai).trans aj).trans ak).trans al)), (a7.mono ((((((((ad.trans ae).trans af).trans ag).trans ah).trans ai).trans aj).trans ak).trans al)), (a8.mono (((((((ae.trans af).trans ag).trans ah).trans ai).trans aj).trans ak).trans al)), (a9.mono ((((((af.trans ag).trans ah).trans ai).trans aj).trans ak).trans al)), (ba.mono (((((ag.trans ah).trans ai).trans aj).trans ak).trans al)), (bb.mono ((((ah.trans ai).trans aj).trans ak).trans al)), (bc.mono (((ai.trans aj).trans ak).trans al)), (bd.mono ((aj.trans ak).trans al)), (be.mono (ak.trans al)), (bf.mono al), bg⟩⟩

def Y5.j1 (af : Int → Int → Option (Int × Int)) (x0 : List Val) (aa : Int) (ab : Bool) : Option (Int × Int) := if ab = true then (some (aa, 81)) else (af ((rd x0 aa).hi) (i64.wrap (aa + 1)))
def Y5.j2 (af : Int → Int → Option (Int × Int)) (x0 : List Val) (aa : Int) (ac : Bool) : Option (Int × Int) := if ac = true then (some (aa, 80)) else (if ((rd x0 aa).n) < 0 then (Y5.j1 af x0 aa true) else (Y5.j1 af x0 aa (decide (65535 < ((rd x0 aa).n)))))
def Y5.l1 : Nat → List Val → Int → Int → Option (Int × Int)
  | 0, _, _, _ => none
  | ad + 1, x0, ae, aa => if aa < (x0.length : Int) then (if (0 : Int) ≤ aa ∧ aa < (x0.length : Int) then (if ((rd x0 aa).lo) ≤ ae then (Y5.j2 (Y5.l1 ad x0) x0 aa true) else (if ((rd x0 aa).hi) < ((rd x0 aa).lo) then (Y5.j2 (Y5.l1 ad x0) x0 aa true) else (Y5.j2 (Y5.l1 ad x0) x0 aa (decide (1114111 < ((rd x0 aa).hi)))))) else none) else (some (0, 0))
def Y5.f (x0 : List Val) : Option (Int × Int) := if 65536 < (x0.length : Int) then (some (65536, 80)) else (Y5.l1 K0 x0 (-1) 0)
theorem Y5.c (hs : St w0 ρ (Γ) w) {v0 : Value} {x0 : List Val} (h0 : SlR X9 ρ v0 x0) {r : Int × Int} (H : Y5.f x0 = some r) : Zn Tryz.prog 151 [v0] w (fun v w' => v = .tuple #[.int .i64 r.1, .int .i64 r.2] ∧ St w0 ρ Γ w') := by
 rw [Y5.f] at H
 refine Et Tryz.func151 Tryz.ntmps151 rfl <| Wr fun bm a1 => As rfl <| As rfl <| Ox a1 <| Zh fun bn a2 => Wr fun bo a3 => Mv rfl <| O_y rfl (Yv Zfb h0 rfl) <| Ogt rfl <| Ox a3 <| Y7 rfl (fun aq => ?_) (fun aq => ?_)
 rw [if_pos aq] at H
 refine Wr fun bp a4 => As rfl <| As rfl <| Ox a4 <| Zk ?_
 obtain rfl := Zz H
 exact Zbs rfl rfl rfl ⟨rfl, hs⟩
 rw [if_neg aq] at H
 refine Wx a2 <| Wr fun bq a5 => As rfl <| Ox a5 <| Zh fun br a6 => Wr fun bs a7 => Mv rfl <| O_y rfl (Yv Zfb h0 rfl) <| Mv rfl <| Ox a7 <| Zj fun bt a8 bu => Y9 (σ := Nat × Int × Int) (fun (ad, ae, aa) => [(4, .int .i32 ae), (10, v0), (11, .int .i64 (x0.length : Int)), (12, .int .i64 aa)]) (fun (ad, ae, aa) w => Y5.l1 ad x0 ae aa = some r ∧ St w0 ρ (Γ) w) (fun s => s.1) (K0, (-1), 0) (T4 rfl) (Ai H hs) ?_
 rintro ⟨ad, ae, aa⟩ w bv ⟨H, hs⟩ ag
 show W _ _ _ _ _ _ [(4, .int .i32 ae), (10, v0), (11, .int .i64 (x0.length : Int)), (12, .int .i64 aa)] w
 cases ad with
 | zero => rw [Y5.l1] at H; cases H
 | succ ad =>
 rw [Y5.l1] at H
 refine Wr fun bw a9 => Ols rfl <| Ox a9 <| Zh fun bx ba => Y7 rfl (fun ar => ?_) (fun ar => ?_)
 rw [if_pos ar] at H
 refine Wx ba <| Zh fun bz bb => Zj fun b0 b1 b2 => Wr fun b3 bc => Mv rfl ?_
 obtain ⟨a0, H⟩ := gd H
 obtain ⟨b4, b5, bd, be⟩ := h0.ix Zcg a0.1 a0.2
 obtain ⟨_, rfl, bf⟩ := bd
 refine O_y rfl (be rfl rfl) <| O_y rfl (Qv Ze7 Zeg rfl rfl (fun j u hu => hs.see (bf j u hu))) <| Y6 Zlb hs rfl (fun ap w hs => As rfl <| Ye (i := 0) Zeg hs rfl rfl rfl rfl rfl (Zb rfl (Zb rfl (Zb rfl Yj))) (fun w hs => Ox bc <| Zh fun b6 bg => Zj fun b7 b8 b9 => Yu fun bh bi au => ?_))
 have ah : ∀ (ac : Bool) (w : World), Y5.j2 (Y5.l1 ad x0) x0 aa ac = some r → St w0 ρ ((.box ap 67 ([.int .i32 ((rd x0 aa).lo), .int .i32 ((rd x0 aa).hi), .int .i64 ((rd x0 aa).n)])) :: Γ) w → bh [(5, .int .i64 aa), (6, .pointer (some ⟨ap, 0, none⟩)), (10, v0), (11, .int .i64 (x0.length : Int)), (12, .int .i64 aa), (17, .bool ac)] w := by
  intro ac w H hs
  rw [Y5.j2] at H
  refine bi _ _ <| Xg rfl (fun ai => ?_) (fun ai => ?_)
  rw [if_pos ai] at H
  refine Wr fun bj av => Mv rfl <| As rfl <| As rfl <| Ox av <| Zk ?_
  obtain rfl := Zz H
  exact Zbs rfl rfl rfl ⟨rfl, (hs.sub (ssk ssr))⟩
  rw [if_neg (bft ai)] at H
  refine Yu fun aw ax an => ?_
  have ao : ∀ (ab : Bool) (w : World), Y5.j1 (Y5.l1 ad x0) x0 aa ab = some r → St w0 ρ ((.box ap 67 ([.int .i32 ((rd x0 aa).lo), .int .i32 ((rd x0 aa).hi), .int .i64 ((rd x0 aa).n)])) :: Γ) w → aw [(5, .int .i64 aa), (6, .pointer (some ⟨ap, 0, none⟩)), (10, v0), (11, .int .i64 (x0.length : Int)), (12, .int .i64 aa), (35, .bool ab)] w := by
   intro ab w H hs
   rw [Y5.j1] at H
   refine ax _ _ <| Xg rfl (fun aj => ?_) (fun aj => ?_)
   rw [if_pos aj] at H
   refine Wr fun bk ay => Mv rfl <| As rfl <| As rfl <| Ox ay <| Zk ?_
   obtain rfl := Zz H
   exact Zbs rfl rfl rfl ⟨rfl, (hs.sub (ssk ssr))⟩
   rw [if_neg (bft aj)] at H
   refine Wx bg <| Zc <| Ofd Zdm rfl <| Obx 0 Xm hs rfl <| As rfl <| Ox bb <| Zc <| Oad rfl <| Mv rfl <| Zd (ag (ad, ((rd x0 aa).hi), (i64.wrap (aa + 1))) _ _ (T4 rfl) (Ai H (hs.sub (ssk ssr))) (Nat.lt_succ_self _))
  refine Zc <| Ofd Zdt rfl <| Obx 0 ag3 hs rfl <| Ols rfl <| Mv rfl <| X6 (dj := 39) rfl (fun ak => ?_) (fun ak => ?_)
  rw [if_pos ak] at H
  refine On rfl <| On rfl <| On rfl <| Opk rfl <| As rfl <| Zd (an _ _ _ sbn (ao true _ H hs))
  rw [if_neg ak] at H
  refine Oe rfl <| Ofd Zdt rfl <| Oe rfl <| Obx 0 ag3 hs rfl <| Oe rfl <| Ogt rfl <| Opk rfl <| As rfl <| Zd (an _ _ _ sbn (ao (decide (65535 < ((rd x0 aa).n))) _ H hs))
 refine Zc <| Ofd Zep rfl <| Obx 0 Xm hs rfl <| Mv rfl <| Ole rfl <| Mv rfl <| X6 (dj := 22) rfl (fun al => ?_) (fun al => ?_)
 rw [if_pos al] at H
 refine On rfl <| On rfl <| On rfl <| On rfl <| On rfl <| Opk rfl <| Mv rfl <| On rfl <| On rfl <| On rfl <| Opk rfl <| As rfl <| Zd (au _ _ _ sbn (ah true _ H hs))
 rw [if_neg al] at H
 refine Oe rfl <| Ofd Zdm rfl <| Oe rfl <| Obx 0 Xm hs rfl <| Oe rfl <| Ofd Zep rfl <| Oe rfl <| Obx 0 Xm hs rfl <| Oe rfl <| Ols rfl <| Opk rfl <| Mv rfl <| X6 (dj := 29) rfl (fun am => ?_) (fun am => ?_)
 rw [if_pos am] at H
 refine On rfl <| On rfl <| On rfl <| Opk rfl <| As rfl <| Zd (au _ _ _ sbn (ah true _ H hs))
 rw [if_neg am] at H
 refine Oe rfl <| Ofd Zdm rfl <| Oe rfl <| Obx 0 Xm hs rfl <| Oe rfl <| Ogt rfl <| Opk rfl <| As rfl <| Zd (au _ _ _ sbn (ah (decide (1114111 < ((rd x0 aa).hi))) _ H hs))
 rw [if_neg ar] at H
 refine Y4 (a8 _ _ (a6 _ _ <| Wr fun bl az => As rfl <| As rfl <| Ox az <| Zk ?_))
 obtain rfl := Zz H
 exact Zbs rfl rfl rfl ⟨rfl, hs⟩

def Z5.j1 (aa : Int) (ag : Vector Int 128) (ai : Bool) : Option (Bool × Int × Vector Int 128) := some (ai, aa, ag)
def Z5.l1 (am : Vector Int 128 → Bool → Int → Option (Bool × Int × Vector Int 128)) : Nat → List Val → Int → Int → Int → Vector Int 128 → Int → Option (Bool × Int × Vector Int 128)
  | 0, _, _, _, _, _, _ => none
  | ah + 1, x0, x2, aa, ab, ac, ae => if ae ≤ (min ((rd (sub x0 aa (x0.length : Int)) ab).hi) (i32.wrap ((i32.wrap (x2 + 128)) - 1))) then (if (0 : Int) ≤ i32.wrap (ae - x2) ∧ i32.wrap (ae - x2) < ((128 : Nat) : Int) then ((Z5.l1 am ah x0 x2 aa ab) (Zb3 ac (i32.wrap (ae - x2)) (u16.wrap ((rd (sub x0 aa (x0.length : Int)) ab).n))) (i32.wrap (ae + 1))) else none) else (am ac true (i64.wrap (ab + 1)))
def Z5.l2 : Nat → List Val → Int → Int → Vector Int 128 → Bool → Int → Option (Bool × Int × Vector Int 128)
  | 0, _, _, _, _, _, _ => none
  | al + 1, x0, x2, aa, ad, af, ab => if ab < ((sub x0 aa (x0.length : Int)).length : Int) then (if (0 : Int) ≤ ab ∧ ab < ((sub x0 aa (x0.length : Int)).length : Int) then (if (i32.wrap ((i32.wrap (x2 + 128)) - 1)) < ((rd (sub x0 aa (x0.length : Int)) ab).lo) then (Z5.j1 aa ad af) else (Z5.l1 (Z5.l2 al x0 x2 aa) K0 x0 x2 aa ab ad (max ((rd (sub x0 aa (x0.length : Int)) ab).lo) x2))) else none) else (Z5.j1 aa ad af)
def Z5.j2 (aq : Int → Option (Bool × Int × Vector Int 128)) (y1_0 : Vector Int 128) (x0 : List Val) (x2 aa : Int) (aj : Bool) : Option (Bool × Int × Vector Int 128) := if aj = true then (aq (i64.wrap (aa + 1))) else (if (0 : Int) ≤ aa ∧ aa ≤ (x0.length : Int) ∧ (x0.length : Int) ≤ (x0.length : Int) then (Z5.l2 K0 x0 x2 aa y1_0 false 0) else none)
def Z5.l3 : Nat → Vector Int 128 → List Val → Int → Int → Option (Bool × Int × Vector Int 128)
  | 0, _, _, _, _ => none
  | ak + 1, y1_0, x0, x2, aa => if aa < (x0.length : Int) then (if (0 : Int) ≤ aa ∧ aa < (x0.length : Int) then (Z5.j2 (Z5.l3 ak y1_0 x0 x2) y1_0 x0 x2 aa (decide (((rd x0 aa).hi) < x2))) else none) else (Z5.j2 (Z5.l3 ak y1_0 x0 x2) y1_0 x0 x2 aa false)
def Z5.f (x0 : List Val) (x2 y0_0 : Int) (y1_0 : Vector Int 128) : Option (Bool × Int × Vector Int 128) := Z5.l3 K0 y1_0 x0 x2 y0_0
theorem Z5.c {pb0 : Nat} {y0_0 : Int} {pb1 : Nat} {y1_0 : Vector Int 128} (hs : St w0 ρ ((.box pb0 3 ([.int .i64 y0_0])) :: (.box pb1 152 ([] ++ (vcs (Value.int .u16) y1_0 ++ []))) :: Γ) w) {v0 : Value} {x0 : List Val} (h0 : SlR X9 ρ v0 x0) {x2 : Int} {r : Bool × Int × Vector Int 128} (H : Z5.f x0 x2 y0_0 y1_0 = some r) : Zn Tryz.prog 154 [v0, .pointer (some ⟨pb0, 0, none⟩), .int .i32 x2, .pointer (some ⟨pb1, 0, none⟩)] w (fun v w' => v = .bool r.1 ∧ St w0 ρ ((.box pb0 3 ([.int .i64 r.2.1])) :: (.box pb1 152 ([] ++ (vcs (Value.int .u16) r.2.2 ++ []))) :: Γ) w') := by
 rw [Z5.f] at H
 refine Et Tryz.func154 Tryz.ntmps154 rfl <| Wr fun ct br => As rfl <| Ox br <| Wr fun cu bs => Mv rfl <| Oad rfl <| Osu rfl <| As rfl <| Ox bs <| Zh fun cv bt => Zj fun cw bu cx => ?_
 refine Y9 (σ := Nat × Int) (fun (ak, aa) => [(0, v0), (1, .pointer (some ⟨pb0, 0, none⟩)), (2, .int .i32 x2), (3, .pointer (some ⟨pb1, 0, none⟩)), (9, .int .i32 (i32.wrap ((i32.wrap (x2 + 128)) - 1)))]) (fun (ak, aa) w => Z5.l3 ak y1_0 x0 x2 aa = some r ∧ St w0 ρ ((.box pb0 3 ([.int .i64 aa])) :: (.box pb1 152 ([] ++ (vcs (Value.int .u16) y1_0 ++ []))) :: Γ) w) (fun s => s.1) (K0, y0_0) sbn (Ai H hs) ?_
 rintro ⟨ak, aa⟩ w cy ⟨H, hs⟩ ar
 show W _ _ _ _ _ _ [(0, v0), (1, .pointer (some ⟨pb0, 0, none⟩)), (2, .int .i32 x2), (3, .pointer (some ⟨pb1, 0, none⟩)), (9, .int .i32 (i32.wrap ((i32.wrap (x2 + 128)) - 1)))] w
 cases ak with
 | zero => rw [Z5.l3] at H; cases H
 | succ ak =>
 rw [Z5.l3] at H
 refine Zh fun cz bv => Yu fun bw bx bl => ?_
 have bm : ∀ (aj : Bool) (w : World), Z5.j2 (Z5.l3 ak y1_0 x0 x2) y1_0 x0 x2 aa aj = some r → St w0 ρ ((.box pb0 3 ([.int .i64 aa])) :: (.box pb1 152 ([] ++ (vcs (Value.int .u16) y1_0 ++ []))) :: Γ) w → bw [(0, v0), (1, .pointer (some ⟨pb0, 0, none⟩)), (2, .int .i32 x2), (3, .pointer (some ⟨pb1, 0, none⟩)), (9, .int .i32 (i32.wrap ((i32.wrap (x2 + 128)) - 1))), (33, .bool aj)] w := by
  intro aj w H hs
  rw [Z5.j2] at H
  refine bx _ _ <| Xg rfl (fun a1 => ?_) (fun a1 => ?_)
  rw [if_pos a1] at H
  refine Wx bv <| Zj fun da db dc => Zc <| Mv rfl <| Onp rfl <| Obx 0 ag3 hs rfl <| Oad rfl <| Onp rfl <| Vu (i := 0) sz3 hs rfl rfl rfl rfl rfl (fun w hs => Zd (ar (ak, (i64.wrap (aa + 1))) _ _ sbn (Ai H hs) (Nat.lt_succ_self _)))
  rw [if_neg (bft a1)] at H
  refine Y4 (bu _ _ (bt _ _ <| Wr fun dd bz => As rfl <| Ox bz <| Yu fun b0 b1 bn => ?_))
  have bo : ∀ (ag : Vector Int 128) (ai : Bool) (w : World), Z5.j1 aa ag ai = some r → St w0 ρ ((.box pb0 3 ([.int .i64 aa])) :: (.box pb1 152 ([] ++ (vcs (Value.int .u16) ag ++ []))) :: Γ) w → b0 [(10, .bool ai)] w := by
   intro ag ai w H hs
   rw [Z5.j1] at H
   refine b1 _ _ <| Wr fun de b2 => Mv rfl <| As rfl <| Ox b2 <| Zk ?_
   obtain rfl := Zz H
   exact r1 rfl ⟨rfl, hs⟩
  refine Wr fun df b3 => Mv rfl <| Mv rfl <| Onp rfl <| Obx 0 ag3 hs rfl ?_
  obtain ⟨a2, H⟩ := gd H
  obtain ⟨a0, bp, b4⟩ := h0.cut Zcg a2.1 a2.2.1 a2.2.2
  refine O_y rfl (b4 rfl (.inr ⟨_, _, rfl, rfl⟩) (.inl ⟨rfl, rfl⟩)) <| O_y rfl (Yv Zfb bp rfl) <| Mv rfl <| Ox b3 <| Zj fun dg bq dh => Y9 (σ := Nat × Vector Int 128 × Bool × Int) (fun (al, ad, af, ab) => [(2, .int .i32 x2), (3, .pointer (some ⟨pb1, 0, none⟩)), (9, .int .i32 (i32.wrap ((i32.wrap (x2 + 128)) - 1))), (10, .bool af), (43, a0), (44, .int .i64 ((sub x0 aa (x0.length : Int)).length : Int)), (45, .int .i64 ab)]) (fun (al, ad, af, ab) w => Z5.l2 al x0 x2 aa ad af ab = some r ∧ St w0 ρ ((.box pb0 3 ([.int .i64 aa])) :: (.box pb1 152 ([] ++ (vcs (Value.int .u16) ad ++ []))) :: Γ) w) (fun s => s.1) (K0, y1_0, false, 0) sbn (Ai H hs) ?_
  rintro ⟨al, ad, af, ab⟩ w di ⟨H, hs⟩ au
  show W _ _ _ _ _ _ [(2, .int .i32 x2), (3, .pointer (some ⟨pb1, 0, none⟩)), (9, .int .i32 (i32.wrap ((i32.wrap (x2 + 128)) - 1))), (10, .bool af), (43, a0), (44, .int .i64 ((sub x0 aa (x0.length : Int)).length : Int)), (45, .int .i64 ab)] w
  cases al with
  | zero => rw [Z5.l2] at H; cases H
  | succ al =>
  rw [Z5.l2] at H
  refine Wr fun dk b5 => Ols rfl <| Ox b5 <| Zh fun dl b6 => Y7 rfl (fun a3 => ?_) (fun a3 => ?_)
  ·rw [if_pos a3] at H
   refine Wx b6 <| Zh fun dm b7 => Zj fun b8 b9 a4 => Zh fun ca a5 => Zc ?_
   obtain ⟨ay, H⟩ := gd H
   obtain ⟨cb, cc, a6, a7⟩ := bp.ix Zcg ay.1 ay.2
   obtain ⟨_, rfl, a8⟩ := a6
   refine O_y rfl (a7 rfl rfl) <| O_y rfl (Qv Ze7 Zeg rfl rfl (fun j u hu => hs.see (a8 j u hu))) <| Y6 Zlb hs rfl (fun an w hs => Ye (i := 0) Zeg hs rfl rfl rfl rfl rfl (Zb rfl (Zb rfl (Zb rfl Yj))) (fun w hs => Ox a5 <| Zh fun cd a9 => Wr fun ce ba => Ofd Zep rfl <| Obx 0 Xm hs rfl <| Mv rfl <| Ogt rfl <| Ox ba <| W.weak [(2, _), (3, _), (9, _), (10, _), (12, _), (43, _), (44, _), (45, _), (52, _)] sbn ?_))
   refine Y7 rfl (fun av => ?_) (fun av => ?_)
   rw [if_pos av] at H
   exact Y4 (a4 _ _ _ rfl (bq _ _ (bn _ _ _ (S1 rfl) (bo ad af _ H (hs.sub (ssk (ssc (ssc ssr))))))))
   rw [if_neg av] at H
   refine Wx a9 <| Wr fun cf bb => As rfl <| Ox bb <| Wr fun cg bc => Ofd Zep rfl <| Obx 0 Xm hs rfl <| Mv rfl <| O_y rfl (Zrj rfl rfl) <| As rfl <| Ox bc <| Zj fun ch bd ci => ?_
   refine Y9 (σ := Nat × Vector Int 128 × Int) (fun (ah, ac, ae) => [(2, .int .i32 x2), (3, .pointer (some ⟨pb1, 0, none⟩)), (9, .int .i32 (i32.wrap ((i32.wrap (x2 + 128)) - 1))), (10, .bool true), (12, .pointer (some ⟨an, 0, none⟩)), (13, .int .i32 ae), (43, a0), (44, .int .i64 ((sub x0 aa (x0.length : Int)).length : Int)), (45, .int .i64 ab)]) (fun (ah, ac, ae) w => Z5.l1 (Z5.l2 al x0 x2 aa) ah x0 x2 aa ab ac ae = some r ∧ St w0 ρ ((.box an 67 ([.int .i32 ((rd (sub x0 aa (x0.length : Int)) ab).lo), .int .i32 ((rd (sub x0 aa (x0.length : Int)) ab).hi), .int .i64 ((rd (sub x0 aa (x0.length : Int)) ab).n)])) :: (.box pb0 3 ([.int .i64 aa])) :: (.box pb1 152 ([] ++ (vcs (Value.int .u16) ac ++ []))) :: Γ) w) (fun s => s.1) (K0, ad, (max ((rd (sub x0 aa (x0.length : Int)) ab).lo) x2)) sbn (Ai H hs) ?_
   rintro ⟨ah, ac, ae⟩ w cj ⟨H, hs⟩ ao
   show W _ _ _ _ _ _ [(2, .int .i32 x2), (3, .pointer (some ⟨pb1, 0, none⟩)), (9, .int .i32 (i32.wrap ((i32.wrap (x2 + 128)) - 1))), (10, .bool true), (12, .pointer (some ⟨an, 0, none⟩)), (13, .int .i32 ae), (43, a0), (44, .int .i64 ((sub x0 aa (x0.length : Int)).length : Int)), (45, .int .i64 ab)] w
   cases ah with
   | zero => rw [Z5.l1] at H; cases H
   | succ ah =>
   rw [Z5.l1] at H
   refine Zh fun ck be => Wr fun cl bf => Mv rfl <| Ofd Zdm rfl <| Obx 0 Xm hs rfl <| Mv rfl <| O_y rfl (Zr1 rfl rfl) <| Ole rfl <| Ox bf <| W.weak [(2, _), (3, _), (9, _), (10, _), (12, _), (13, _), (43, _), (44, _), (45, _), (62, _)] sbn ?_
   refine Y7 rfl (fun aw => ?_) (fun aw => ?_)
   rw [if_pos aw] at H
   refine Wx be <| Zh fun cm bg => Zj fun cn co cp => Qn 10 [0, 0, 0, 6, 0, 16, 32, 1, 255, 383] [126, 245, 243, 241, 207, 143, 143, 638, 0, 0] [0, 0, 0, 6, 0, 16, 48, 1, 255, 511] [9] (fun w => St w0 ρ ((.box an 67 ([.int .i32 ((rd (sub x0 aa (x0.length : Int)) ab).lo), .int .i32 ((rd (sub x0 aa (x0.length : Int)) ab).hi), .int .i64 ((rd (sub x0 aa (x0.length : Int)) ab).n)])) :: (.box pb0 3 ([.int .i64 aa])) :: (.box pb1 152 ([] ++ (vcs (Value.int .u16) ac ++ []))) :: Γ) w) Vl (by kernel_rfl) (fun sh => ?_)
   have hs := hs.drew
   refine Fm 0 sh rfl <| Fm 1 sh rfl <| Fm 2 sh rfl <| Fp 3 sh rfl (fun w => Zc2 rfl rfl) <| Fp 4 sh rfl (fun w => Zp Zdt rfl) <| Fy 5 sh rfl hs (fun w hs => Yb 0 ag3 hs rfl rfl rfl) <| Fp 6 sh rfl (fun w => V4 un3 Zkf rfl) <| Fp 7 sh rfl (fun w => K1 rfl) ?_
   obtain ⟨ap, H⟩ := gd H
   refine Fp 8 sh rfl (fun w => Zcd Zj4 Zcl rfl rfl ap.1 ap.2) <| F1 9 sh rfl (fun cq bh => Zew (j := 2) (u := u16.wrap ((rd (sub x0 aa (x0.length : Int)) ab).n)) Zcl (Ue .u16) hs rfl rfl ap.1 ap.2 rfl rfl (fun w hs => Zd (bh _ _ (fun h _ => absurd h (by decide)) <| FE sh (bg _ _ <| W.weak [(2, _), (3, _), (9, _), (10, _), (12, _), (13, _), (43, _), (44, _), (45, _)] sbn ?_))))
   refine Zc <| Mv rfl <| Oad rfl <| As rfl <| Zd (ao (ah, (Zb3 ac (i32.wrap (ae - x2)) (u16.wrap ((rd (sub x0 aa (x0.length : Int)) ab).n))), (i32.wrap (ae + 1))) _ _ sbn (Ai H hs) (Nat.lt_succ_self _))
   rw [if_neg aw] at H
   refine Y4 (bd _ _ (b7 _ _ <| Zc <| Oad rfl <| Mv rfl <| Zd (au (al, ac, true, (i64.wrap (ab + 1))) _ _ sbn (Ai H (hs.sub (ssk (ssc (ssc ssr))))) (Nat.lt_succ_self _))))
  rw [if_neg a3] at H
  exact Y4 (bq _ _ (bn _ _ _ (S1 rfl) (bo ad af _ H hs)))
 refine Zc <| Mv rfl <| Onp rfl <| Obx 0 ag3 hs rfl <| Mv rfl <| O_y rfl (Yv Zfb h0 rfl) <| Ols rfl <| Mv rfl <| X6 (dj := 23) rfl (fun ax => ?_) (fun ax => ?_)
 rw [if_pos ax] at H
 refine Oe rfl <| Mv rfl <| Oe rfl <| Mv rfl <| Oe rfl <| Onp rfl <| Oe rfl <| Obx 0 ag3 hs rfl ?_
 obtain ⟨az, H⟩ := gd H
 obtain ⟨cr, cs, bi, bj⟩ := h0.ix Zcg az.1 az.2
 obtain ⟨_, rfl, bk⟩ := bi
 refine Oe rfl <| O_y rfl (bj rfl rfl) <| Oe rfl <| Ofd Zdm rfl <| Oe rfl <| O_y rfl (Xp Xm rfl (hs.see (bk 1 _ rfl))) <| Oe rfl <| Mv rfl <| Oe rfl <| Ols rfl <| Opk rfl <| Zd (bl _ _ _ sbn (bm (decide (((rd x0 aa).hi) < x2)) _ H hs))
 rw [if_neg ax] at H
 refine On rfl <| On rfl <| On rfl <| On rfl <| On rfl <| On rfl <| On rfl <| On rfl <| On rfl <| Opk rfl <| Zd (bl _ _ _ sbn (bm false _ H hs))

end Go.Proofs.YthoicbafdanmkaaGreatDoor
/- Written by this repo's gen.py: for each Go function a Lean function with the same answers and the walk that shows it. -/
namespace Go.Proofs.YthoicbafdanmkaaGreatDoor
open Go.IntKind (i8 i16 i32 i64 u8 u16 u32 u64)
open Go.RowKit
set_option maxRecDepth 100000
set_option maxHeartbeats 4000000
variable {w0 w : World} {ρ : Hp} {Γ : List Q5}
set_option linter.unusedVariables false
def Yx.j1 (aa : Vector Int 128) (ab : Int) (ad : Bool) : Option (Bool × Vector Int 128 × Int) := some (ad, aa, ab)
def Yx.j2 (y1_0 : Option Tab) (y2_0 : List Val) (y3_0 x0 : Int) (ac : Vector Int 128) : Option (Bool × Vector Int 128 × Int) := (Z5.f y2_0 x0 y3_0 ac).bind fun ae => (if ae.1 = true then (Yx.j1 ae.2.2 ae.2.1 true) else (Yx.j1 ae.2.2 ae.2.1 ((y1_0).isSome)))
def Yx.f (x0 : Int) (y0_0 : Vector Int 128) (y1_0 : Option Tab) (y2_0 : List Val) (y3_0 : Int) : Option (Bool × Vector Int 128 × Int) := if ((y1_0).isSome) = true then (if y1_0.isSome = true then (if (0 : Int) ≤ i32.wrap (x0.tdiv 128) ∧ i32.wrap (x0.tdiv 128) < ((8704 : Nat) : Int) then (if (0 : Int) ≤ vg (((y1_0).getD default).which) (i32.wrap (x0.tdiv 128)) ∧ vg (((y1_0).getD default).which) (i32.wrap (x0.tdiv 128)) < ((((y1_0).getD default).unlike).length : Int) then (Yx.j2 y1_0 y2_0 y3_0 x0 (rd (((y1_0).getD default).unlike) (vg (((y1_0).getD default).which) (i32.wrap (x0.tdiv 128))))) else none) else none) else none) else (Yx.j2 y1_0 y2_0 y3_0 x0 y0_0)
theorem Yx.c {pb0 : Nat} {y0_0 : Vector Int 128} {pb1 : Nat} {w1_0 : Value} {y1_0 : Option Tab} {pb2 : Nat} {w2_0 : Value} {y2_0 : List Val} {pb3 : Nat} {y3_0 : Int} (hs : St w0 ρ ((.box pb0 152 ([] ++ (vcs (Value.int .u16) y0_0 ++ []))) :: (.box pb1 104 ([w1_0])) :: (.box pb2 23 ([w2_0])) :: (.box pb3 3 ([.int .i64 y3_0])) :: Γ) w) {x0 : Int} (g1_0 : Xs Vc ρ w1_0 y1_0) (g2_0 : SlR X9 ρ w2_0 y2_0) {r : Bool × Vector Int 128 × Int} (H : Yx.f x0 y0_0 y1_0 y2_0 y3_0 = some r) : Zn Tryz.prog 153 [.int .i32 x0, .pointer (some ⟨pb0, 0, none⟩), .pointer (some ⟨pb1, 0, none⟩), .pointer (some ⟨pb2, 0, none⟩), .pointer (some ⟨pb3, 0, none⟩)] w (fun v w' => v = .bool r.1 ∧ St w0 ρ ((.box pb0 152 ([] ++ (vcs (Value.int .u16) r.2.1 ++ []))) :: (.box pb1 104 ([w1_0])) :: (.box pb2 23 ([w2_0])) :: (.box pb3 3 ([.int .i64 r.2.2])) :: Γ) w') := by
 rw [Yx.f] at H
 refine Et Tryz.func153 Tryz.ntmps153 rfl <| Wr fun a9 ar => As rfl <| Ox ar <| Yu fun au av al => ?_
 have am : ∀ (ac : Vector Int 128) (w : World), Yx.j2 y1_0 y2_0 y3_0 x0 ac = some r → St w0 ρ ((.box pb0 152 ([] ++ (vcs (Value.int .u16) ac ++ []))) :: (.box pb1 104 ([w1_0])) :: (.box pb2 23 ([w2_0])) :: (.box pb3 3 ([.int .i64 y3_0])) :: Γ) w → au [(0, .int .i32 x0), (1, .pointer (some ⟨pb0, 0, none⟩)), (2, .pointer (some ⟨pb1, 0, none⟩)), (3, .pointer (some ⟨pb2, 0, none⟩)), (4, .pointer (some ⟨pb3, 0, none⟩))] w := by
  intro ac w H hs
  rw [Yx.j2] at H
  refine av _ _ <| Yu fun aw ax an => ?_
  have ao : ∀ (aa : Vector Int 128) (ab : Int) (ad : Bool) (w : World), Yx.j1 aa ab ad = some r → St w0 ρ ((.box pb0 152 ([] ++ (vcs (Value.int .u16) aa ++ []))) :: (.box pb1 104 ([w1_0])) :: (.box pb2 23 ([w2_0])) :: (.box pb3 3 ([.int .i64 ab])) :: Γ) w → aw [(7, .bool ad)] w := by
   intro aa ab ad w H hs
   rw [Yx.j1] at H
   refine ax _ _ <| Zk ?_
   obtain rfl := Zz H
   exact r1 rfl ⟨rfl, hs⟩
  refine Zc <| Obx 2 Zbl hs rfl <| Mv rfl <| Mv rfl ?_
  have hs := hs.front 3 rfl
  obtain ⟨ae, ag, H⟩ := bnd H
  refine Oc rfl (Z5.c hs g2_0 ag) (fun ba w hpost => ?_)
  obtain ⟨rfl, hs⟩ := hpost
  have hs := hs.sink 3
  refine Mv rfl <| U8 (dj := 29) rfl (fun ah => ?_) (fun ah => ?_)
  rw [if_pos ah] at H
  refine On rfl <| On rfl <| Opk rfl <| As rfl <| Zd (an _ _ _ (S1 rfl) (ao ae.2.2 ae.2.1 true _ H hs))
  rw [if_neg (bft ah)] at H
  refine Oe rfl <| Obx 1 Zcc hs rfl <| Oe rfl <| O_y rfl ((g1_0.nen Zrh rfl rfl)) <| Opk rfl <| As rfl <| Zd (an _ _ _ (S1 rfl) (ao ae.2.2 ae.2.1 ((y1_0).isSome) _ H hs))
 refine Wr fun bb ay => Obx 1 Zcc hs rfl <| O_y rfl ((g1_0.nen Zrh rfl rfl)) <| Ox ay <| Xg rfl (fun ai => ?_) (fun ai => ?_)
 rw [if_pos ai] at H
 refine Qn 16 [0, 0, 2, 4, 8, 0, 0, 64, 32, 256, 640, 1024, 2064, 4096, 16383, 32767] [16382, 16377, 16369, 16353, 12257, 16095, 16191, 15167, 15583, 14559, 12319, 8223, 1, 1, 0, 0] [0, 0, 2, 6, 14, 0, 0, 64, 32, 288, 992, 2016, 4094, 8190, 16383, 32767] [15] (fun w => St w0 ρ ((.box pb0 152 ([] ++ (vcs (Value.int .u16) y0_0 ++ []))) :: (.box pb1 104 ([w1_0])) :: (.box pb2 23 ([w2_0])) :: (.box pb3 3 ([.int .i64 y3_0])) :: Γ) w) Vl (by kernel_rfl) (fun sh => ?_)
 have hs := hs.drew
 refine Fm 0 sh rfl <| Fy 1 sh rfl hs (fun w hs => Yb 1 Zcc hs rfl rfl rfl) ?_
 obtain ⟨ap, H⟩ := gd H
 obtain ⟨bc, aj, az⟩ := g1_0.open ap
 obtain ⟨_, ⟨bd, be, rfl, a0, bf⟩, a1⟩ := az
 refine Fp 2 sh rfl (fun w => K1 (congrArg some aj)) <| Fp 3 sh rfl (fun w => Zp Zfy rfl) <| Fy 4 sh rfl hs (fun w hs => Xp Zo3 rfl (hs.see (a1 8704 _ (Zfq (q := 0) rfl rfl)))) <| Fy 5 sh rfl hs (fun w hs => Yb 1 Zcc hs rfl rfl rfl) <| Fm 6 sh rfl <| Fp 7 sh rfl (fun w => Zc7 rfl rfl (by decide)) ?_
 obtain ⟨bg, ak, a2⟩ := g1_0.open ap
 obtain ⟨_, ⟨bh, bi, rfl, bj, bk⟩, a3⟩ := a2
 refine Fp 8 sh rfl (fun w => K1 (congrArg some ak)) <| Fp 9 sh rfl (fun w => Zp Zhk rfl) ?_
 obtain ⟨af, H⟩ := gd H
 have a4 := CA.seg (q := 0) a3 rfl af.1 af.2
 refine Fp 10 sh rfl (fun w => Zcd Zpd Zcl rfl rfl af.1 af.2) <| Fy 11 sh rfl hs (fun w hs => Xp Zke rfl (hs.see a4)) ?_
 obtain ⟨aq, H⟩ := gd H
 obtain ⟨bl, bm, a5, a6⟩ := a0.ix Zor aq.1 aq.2
 have a7 := a5.arr
 refine Fp 12 sh rfl (fun w => a6 rfl rfl) <| Fy 13 sh rfl hs (fun w hs => Qv (cs := vcs (Value.int .u16) (rd (((y1_0).getD default).unlike) (vg (((y1_0).getD default).which) (i32.wrap (x0.tdiv 128))))) Zpa Zjt (Zia _ _) rfl (fun j u hu => hs.see (a7 j u (by simpa using hu)))) <| Fp 14 sh rfl (fun w => K1 rfl) <| F1 15 sh rfl (fun bn a8 => Ze6 (j := 0) (u := rd (((y1_0).getD default).unlike) (vg (((y1_0).getD default).which) (i32.wrap (x0.tdiv 128)))) Zjt (Ue .u16) hs rfl rfl rfl (fun w hs => Zd (a8 _ _ (fun h _ => absurd h (by decide)) <| FE sh (al _ _ _ sbn (am (rd (((y1_0).getD default).unlike) (vg (((y1_0).getD default).which) (i32.wrap (x0.tdiv 128)))) _ H hs)))))
 rw [if_neg (bft ai)] at H
 exact Ua (al _ _ _ sbn (am y0_0 _ H hs))

def Xn.l1 : Nat → Vector Int 128 → Int → Option Bool
  | 0, _, _ => none
  | ab + 1, y0_0, aa => if aa < 128 then (if (0 : Int) ≤ aa ∧ aa < ((128 : Nat) : Int) then (if (0 : Int) ≤ 0 ∧ 0 < ((128 : Nat) : Int) then (if (vg y0_0 aa) ≠ (vg y0_0 0) then (some false) else ((Xn.l1 ab y0_0) (i64.wrap (aa + 1)))) else none) else none) else (some true)
def Xn.f (y0_0 : Vector Int 128) : Option Bool := Xn.l1 K0 y0_0 0
theorem Xn.c {pb0 : Nat} {y0_0 : Vector Int 128} (hs : St w0 ρ ((.box pb0 152 ([] ++ (vcs (Value.int .u16) y0_0 ++ []))) :: Γ) w) {r : Bool} (H : Xn.f y0_0 = some r) : Zn Tryz.prog 172 [.pointer (some ⟨pb0, 0, none⟩)] w (fun v w' => v = .bool r ∧ St w0 ρ ((.box pb0 152 ([] ++ (vcs (Value.int .u16) y0_0 ++ []))) :: Γ) w') := by
 rw [Xn.f] at H
 refine Et Tryz.func172 Tryz.ntmps172 rfl <| Wr fun au ah => As rfl <| Ox ah <| Zh fun av ai => Wr fun aw aj => Mv rfl <| Mv rfl <| Ox aj <| Zj fun ax ak ay => Y9 (σ := Nat × Int) (fun (ab, aa) => [(0, .pointer (some ⟨pb0, 0, none⟩)), (5, .pointer (some ⟨pb0, 0, none⟩)), (6, .int .i64 aa)]) (fun (ab, aa) w => Xn.l1 ab y0_0 aa = some r ∧ St w0 ρ ((.box pb0 152 ([] ++ (vcs (Value.int .u16) y0_0 ++ []))) :: Γ) w) (fun s => s.1) (K0, 0) (T3 rfl) (Ai H hs) ?_
 rintro ⟨ab, aa⟩ w az ⟨H, hs⟩ ac
 show W _ _ _ _ _ _ [(0, .pointer (some ⟨pb0, 0, none⟩)), (5, .pointer (some ⟨pb0, 0, none⟩)), (6, .int .i64 aa)] w
 cases ab with
 | zero => rw [Xn.l1] at H; cases H
 | succ ab =>
 rw [Xn.l1] at H
 refine Wr fun a0 al => Ols rfl <| Ox al <| Zh fun a1 am => Y7 rfl (fun af => ?_) (fun af => ?_)
 rw [if_pos af] at H
 refine Wx am <| Zh fun a2 an => Zj fun a3 a4 a5 => Wr fun a6 ao => Onp rfl ?_
 obtain ⟨ad, H⟩ := gd H
 refine O_y rfl (Zcd Zj4 Zcl rfl rfl ad.1 ad.2) <| O_y rfl (Zjy (j := 0) Zke hs rfl rfl ad.1 ad.2 rfl) <| As rfl <| Ox ao <| Wr fun a7 ap => Mv rfl <| Mv rfl <| Onp rfl ?_
 obtain ⟨ae, H⟩ := gd H
 refine O_y rfl (Zcd Zj4 Zcl rfl rfl ae.1 ae.2) <| O_y rfl (Zjy (j := 0) Zke hs rfl rfl ae.1 ae.2 rfl) <| One rfl <| Ox ap <| Y7 rfl (fun ag => ?_) (fun ag => ?_)
 rw [if_pos ag] at H
 refine Wr fun a8 aq => As rfl <| Ox aq <| W.weak [(2, _)] (S1 rfl) <| Zk ?_
 obtain rfl := Zz H
 exact r1 rfl ⟨rfl, hs⟩
 rw [if_neg ag] at H
 refine Wx an <| Zc <| Oad rfl <| Mv rfl <| Zd (ac (ab, (i64.wrap (aa + 1))) _ _ (T3 rfl) (Ai H hs) (Nat.lt_succ_self _))
 rw [if_neg af] at H
 refine Y4 (ak _ _ (ai _ _ <| Wr fun a9 ar => As rfl <| Ox ar <| Zk ?_))
 obtain rfl := Zz H
 exact r1 rfl ⟨rfl, hs⟩

def Z4.j1 (a3 : List Bool → List (Vector Int 128) → Vector Int 128 → (List (Vector Int 128 × Int)) → Vector Int 8704 → Int → Int → Int → Option (Option Tab × Int)) (ac : Int) (av : List Bool) (aw : List (Vector Int 128)) (ap : Vector Int 128) (ay : List (Vector Int 128 × Int)) (aq : Vector Int 8704) (ar bc : Int) : Option (Option Tab × Int) := a3 av aw ap ay aq ar bc (i64.wrap (ac + 1))
def Z4.j2 (a3 : List Bool → List (Vector Int 128) → Vector Int 128 → (List (Vector Int 128 × Int)) → Vector Int 8704 → Int → Int → Int → Option (Option Tab × Int)) (aa : Vector Int 8704) (af ac : Int) (ao : Bool × Vector Int 128 × Int) (ah : List Bool) (ai : List (Vector Int 128)) (ak : List (Vector Int 128 × Int)) (ax : Int) : Option (Option Tab × Int) := if (0 : Int) ≤ ac ∧ ac < ((8704 : Nat) : Int) then (if ao.1 = true then (Z4.j1 a3 ac ah ai (Vector.replicate 128 0 : Vector Int 128) ak (Zb3 aa ac ax) ao.2.2 af) else (Z4.j1 a3 ac ah ai ao.2.1 ak (Zb3 aa ac ax) ao.2.2 (i64.wrap ax))) else none
def Z4.j3 (a3 : List Bool → List (Vector Int 128) → Vector Int 128 → (List (Vector Int 128 × Int)) → Vector Int 8704 → Int → Int → Int → Option (Option Tab × Int)) (ae : List Bool) (ab : List (Vector Int 128)) (ad : List (Vector Int 128 × Int)) (aa : Vector Int 8704) (af ac : Int) (ao : Bool × Vector Int 128 × Int) (a4 : Bool) : Option (Option Tab × Int) := if a4 = true then (if (0 : Int) ≤ ac ∧ ac < ((8704 : Nat) : Int) then (Z4.j1 a3 ac ae ab ao.2.1 ad (Zb3 aa ac (u16.wrap af)) ao.2.2 af) else none) else (if (!((Vo ad ao.2.1).isSome)) = true then (if ab.length + ([ao.2.1]).length ≤ most then ((Xn.f ao.2.1).bind fun bf => (if ae.length + ([bf]).length ≤ most then (Z4.j2 a3 aa af ac ao (ae ++ ([bf])) (ab ++ ([ao.2.1])) (Ht ad ao.2.1 (u16.wrap (ab.length : Int))) (u16.wrap (ab.length : Int))) else none)) else none) else (Z4.j2 a3 aa af ac ao ae ab ad ((Vo ad ao.2.1).getD 0)))
def Z4.l1 : Nat → Option Tab → List Val → List Bool → List (Vector Int 128) → Vector Int 128 → (List (Vector Int 128 × Int)) → Vector Int 8704 → Int → Int → Int → Option (Option Tab × Int)
  | 0, _, _, _, _, _, _, _, _, _, _ => none
  | bb + 1, y0_0, y1_0, ae, ab, au, ad, aa, am, af, ac => if ac < 8704 then ((Yx.f (i32.wrap (i64.wrap (ac * 128))) au y0_0 y1_0 am).bind fun ao => (if (!ao.1) = true then (Z4.j3 (Z4.l1 bb y0_0 y1_0) ae ab ad aa af ac ao (decide (0 ≤ af))) else (Z4.j3 (Z4.l1 bb y0_0 y1_0) ae ab ad aa af ac ao false))) else (some ((some (⟨aa, ab, ae⟩ : Tab)), am))
def Z4.f (y0_0 : Option Tab) (y1_0 : List Val) (y2_0 : Int) : Option (Option Tab × Int) := Z4.l1 K0 y0_0 y1_0 ([] : List Bool) ([] : List (Vector Int 128)) (Vector.replicate 128 0 : Vector Int 128) ([] : List (Vector Int 128 × Int)) (Vector.replicate 8704 0 : Vector Int 8704) y2_0 (-1) 0
theorem Z4.c {pb0 : Nat} {w0_0 : Value} {y0_0 : Option Tab} {pb1 : Nat} {w1_0 : Value} {y1_0 : List Val} {pb2 : Nat} {y2_0 : Int} (hs : St w0 ρ ((.box pb0 104 ([w0_0])) :: (.box pb1 23 ([w1_0])) :: (.box pb2 3 ([.int .i64 y2_0])) :: Γ) w) (g0_0 : Xs Vc ρ w0_0 y0_0) (g1_0 : SlR X9 ρ w1_0 y1_0) {r : Option Tab × Int} (H : Z4.f y0_0 y1_0 y2_0 = some r) : Zn Tryz.prog 152 [.func (.func 153) #[] #[.pointer (some ⟨pb0, 0, none⟩), .pointer (some ⟨pb1, 0, none⟩), .pointer (some ⟨pb2, 0, none⟩)]] w (fun v w' => ∃ (ρ' : Hp) (v0 : Value), v = v0 ∧ Le ρ ρ' ∧ St w0 ρ' ((.box pb0 104 ([w0_0])) :: (.box pb1 23 ([w1_0])) :: (.box pb2 3 ([.int .i64 r.2])) :: Γ) w' ∧ Xs Vc ρ' v0 r.1) := by
 rw [Z4.f] at H
 refine Et Tryz.func152 Tryz.ntmps152 rfl <| Wr fun eu df => As rfl <| Ox df <| Wr fun ev dg => O_y rfl (Zpz Zxg Zw1) <| Vg (cs := [] ++ (vcs (Value.int .u16) (Vector.replicate 8704 0 : Vector Int 8704) ++ [.slice none 0 0, .slice none 0 0])) hs rfl rfl (fun bg w hs => As rfl <| Ox dg <| Wr fun ew dh => U6 Zft.enc (Value.int .u16) hs rfl (fun bh w hs => ?_))
 refine As rfl <| Ox dh <| Wr fun ex di => As rfl <| Ox di <| Wr fun ey dk => Y6 Zwo hs rfl (fun bi w hs => Ox dk <| Zh fun ez dl => Wr fun e0 dm => Mv rfl ?_)
 refine Ox dm <| Zj fun e1 dn e2 => ?_
 have hs := hs.rowNil 152 (Rep.arr (Value.int .u16) (Ue .u16) 128).sz
 have dp := Zm.nil (Rep.arr (Value.int .u16) (Ue .u16) 128) ρ
 have hs := hs.rowNil 4 Rep.bool.sz
 have dq := Zm.nil Rep.bool ρ
 refine Y9 (σ := Nat × List Bool × List (Vector Int 128) × Vector Int 128 × (List (Vector Int 128 × Int)) × Vector Int 8704 × Int × Int × Int × Value × List Value × Value × List Value) (fun (bb, ae, ab, au, ad, aa, am, af, ac, ag, al, aj, an) => [(0, .func (.func 153) #[] #[.pointer (some ⟨pb0, 0, none⟩), .pointer (some ⟨pb1, 0, none⟩), .pointer (some ⟨pb2, 0, none⟩)]), (3, .pointer (some ⟨bg, 0, none⟩)), (4, .map (some bh)), (5, .int .i64 af), (6, .pointer (some ⟨bi, 0, none⟩)), (14, .int .i64 ac)]) (fun (bb, ae, ab, au, ad, aa, am, af, ac, ag, al, aj, an) w => Z4.l1 bb y0_0 y1_0 ae ab au ad aa am af ac = some r ∧ St w0 ρ ((.row ag 4 Rep.bool.sz ae.length al) :: (.row aj 152 ((Rep.arr (Value.int .u16) (Ue .u16) 128).sz) ab.length an) :: (.box bi 152 ([] ++ (vcs (Value.int .u16) au ++ []))) :: (.obj bh (X4 Zft.enc (vs (Value.int .u16) ad))) :: (.box bg 156 ([] ++ (vcs (Value.int .u16) aa ++ [aj, ag]))) :: (.box pb0 104 ([w0_0])) :: (.box pb1 23 ([w1_0])) :: (.box pb2 3 ([.int .i64 am])) :: Γ) w ∧ Zm Rep.bool ρ al ae ∧ Zm (Rep.arr (Value.int .u16) (Ue .u16) 128) ρ an ab) (fun s => s.1) (K0, ([] : List Bool), ([] : List (Vector Int 128)), (Vector.replicate 128 0 : Vector Int 128), ([] : List (Vector Int 128 × Int)), (Vector.replicate 8704 0 : Vector Int 8704), y2_0, (-1), 0, (.slice none 0 0), ([]), (.slice none 0 0), ([])) sbn (Ai H (Ai hs (Ai dq dp))) ?_
 rintro ⟨bb, ae, ab, au, ad, aa, am, af, ac, ag, al, aj, an⟩ w e3 ⟨H, hs, a5, a6⟩ br
 show W _ _ _ _ _ _ [(0, .func (.func 153) #[] #[.pointer (some ⟨pb0, 0, none⟩), .pointer (some ⟨pb1, 0, none⟩), .pointer (some ⟨pb2, 0, none⟩)]), (3, .pointer (some ⟨bg, 0, none⟩)), (4, .map (some bh)), (5, .int .i64 af), (6, .pointer (some ⟨bi, 0, none⟩)), (14, .int .i64 ac)] w
 cases bb with
 | zero => rw [Z4.l1] at H; cases H
 | succ bb =>
 rw [Z4.l1] at H
 refine Wr fun e4 dr => Ols rfl <| Ox dr <| Zh fun e5 ds => Y7 rfl (fun b7 => ?_) (fun b7 => ?_)
 rw [if_pos b7] at H
 refine Wx ds <| Yu fun dt du b8 => ?_
 have b9 : ∀ (av : List Bool) (aw : List (Vector Int 128)) (ap : Vector Int 128) (ay : List (Vector Int 128 × Int)) (aq : Vector Int 8704) (ar bc : Int) (a7 : Value) (a8 : List Value) (a9 : Value) (ba : List Value) (w : World), Z4.j1 (Z4.l1 bb y0_0 y1_0) ac av aw ap ay aq ar bc = some r → St w0 ρ ((.row a7 4 Rep.bool.sz av.length a8) :: (.row a9 152 ((Rep.arr (Value.int .u16) (Ue .u16) 128).sz) aw.length ba) :: (.box bi 152 ([] ++ (vcs (Value.int .u16) ap ++ []))) :: (.obj bh (X4 Zft.enc (vs (Value.int .u16) ay))) :: (.box bg 156 ([] ++ (vcs (Value.int .u16) aq ++ [a9, a7]))) :: (.box pb0 104 ([w0_0])) :: (.box pb1 23 ([w1_0])) :: (.box pb2 3 ([.int .i64 ar])) :: Γ) w → Zm Rep.bool ρ a8 av → Zm (Rep.arr (Value.int .u16) (Ue .u16) 128) ρ ba aw → dt [(0, .func (.func 153) #[] #[.pointer (some ⟨pb0, 0, none⟩), .pointer (some ⟨pb1, 0, none⟩), .pointer (some ⟨pb2, 0, none⟩)]), (3, .pointer (some ⟨bg, 0, none⟩)), (4, .map (some bh)), (5, .int .i64 bc), (6, .pointer (some ⟨bi, 0, none⟩)), (14, .int .i64 ac)] w := by
  intro av aw ap ay aq ar bc a7 a8 a9 ba w H hs bj bk
  rw [Z4.j1] at H
  refine du _ _ <| Zc <| Oad rfl <| Mv rfl <| Zd (br (bb, av, aw, ap, ay, aq, ar, bc, (i64.wrap (ac + 1)), a7, a8, a9, ba) _ _ sbn (Ai H (Ai hs (Ai bj bk))) (Nat.lt_succ_self _))
 refine Zj fun e6 dv e7 => Wr fun e8 dw => Mv rfl <| As rfl <| Ox dw <| Wr fun e9 dx => Mv rfl <| Mv rfl <| Oml rfl <| O_y rfl (V4 un3 Za9 rfl) ?_
 have hs := hs.front 7 rfl
 have hs := hs.front 7 rfl
 have hs := hs.front 7 rfl
 have hs := hs.front 5 rfl
 obtain ⟨ao, ca, H⟩ := bnd H
 refine Xo rfl rfl rfl (Yx.c hs g0_0 g1_0 ca) (fun fa w hpost => ?_)
 obtain ⟨rfl, hs⟩ := hpost
 have hs := hs.sink 5
 have hs := hs.sink 7
 have hs := hs.sink 7
 have hs := hs.sink 7
 refine As rfl <| Ox dx <| W.weak [(0, _), (3, _), (4, _), (5, _), (6, _), (7, _), (8, _), (14, _)] sbn ?_
 refine Zh fun fb dy => Yu fun dz cb bx => ?_
 have bz : ∀ (a4 : Bool) (w : World), Z4.j3 (Z4.l1 bb y0_0 y1_0) ae ab ad aa af ac ao a4 = some r → St w0 ρ ((.row ag 4 Rep.bool.sz ae.length al) :: (.row aj 152 ((Rep.arr (Value.int .u16) (Ue .u16) 128).sz) ab.length an) :: (.box bi 152 ([] ++ (vcs (Value.int .u16) ao.2.1 ++ []))) :: (.obj bh (X4 Zft.enc (vs (Value.int .u16) ad))) :: (.box bg 156 ([] ++ (vcs (Value.int .u16) aa ++ [aj, ag]))) :: (.box pb0 104 ([w0_0])) :: (.box pb1 23 ([w1_0])) :: (.box pb2 3 ([.int .i64 ao.2.2])) :: Γ) w → dz [(0, .func (.func 153) #[] #[.pointer (some ⟨pb0, 0, none⟩), .pointer (some ⟨pb1, 0, none⟩), .pointer (some ⟨pb2, 0, none⟩)]), (3, .pointer (some ⟨bg, 0, none⟩)), (4, .map (some bh)), (5, .int .i64 af), (6, .pointer (some ⟨bi, 0, none⟩)), (7, .int .i64 ac), (8, .bool ao.1), (14, .int .i64 ac), (27, .bool a4)] w := by
  intro a4 w H hs
  rw [Z4.j3] at H
  refine cb _ _ <| Xg rfl (fun bs => ?_) (fun bs => ?_)
  rw [if_pos bs] at H
  refine Wr fun ea cc => Mv rfl <| Mv rfl <| Mv rfl <| O_y rfl (V4 un3 Zkf rfl) <| Onp rfl <| Ofd Zhk rfl ?_
  obtain ⟨bm, H⟩ := gd H
  refine O_y rfl (Zcd Zpd Zcl rfl rfl bm.1 bm.2) <| Zew (j := 4) (u := u16.wrap af) Zcl (Ue .u16) hs rfl rfl bm.1 bm.2 rfl rfl (fun w hs => Ox cc <| W.weak [(0, _), (3, _), (4, _), (5, _), (6, _), (14, _)] sbn ?_)
  exact Y4 (dv _ _ (b8 _ _ _ sbn (b9 ae ab ao.2.1 ad (Zb3 aa ac (u16.wrap af)) ao.2.2 af ag al aj an _ H hs a5 a6)))
  rw [if_neg (bft bs)] at H
  refine Wx dy <| Wr fun eb cd => Mv rfl <| O_y rfl (Zcn (j := 2) Zpa Zjt hs rfl rfl) <| O_y rfl (Zgd (i := 3) (m := ad) (x := ao.2.1) (E := (Value.int .u16)) Zu8 Zft trivial (fun _ _ => trivial) Zxb hs rfl rfl rfl) <| Mv rfl <| Oxt rfl <| Oxt rfl <| As rfl <| As rfl <| Ox cd <| W.weak [(0, _), (3, _), (4, _), (5, _), (6, _), (7, _), (8, _), (9, _), (10, _), (14, _)] sbn ?_
  refine Yu fun ce cf b0 => ?_
  have b1 : ∀ (ah : List Bool) (ai : List (Vector Int 128)) (ak : List (Vector Int 128 × Int)) (ax : Int) (az : Value) (a0 : List Value) (a1 : Value) (a2 : List Value) (w : World), Z4.j2 (Z4.l1 bb y0_0 y1_0) aa af ac ao ah ai ak ax = some r → St w0 ρ ((.row az 4 Rep.bool.sz ah.length a0) :: (.row a1 152 ((Rep.arr (Value.int .u16) (Ue .u16) 128).sz) ai.length a2) :: (.box bi 152 ([] ++ (vcs (Value.int .u16) ao.2.1 ++ []))) :: (.obj bh (X4 Zft.enc (vs (Value.int .u16) ak))) :: (.box bg 156 ([] ++ (vcs (Value.int .u16) aa ++ [a1, az]))) :: (.box pb0 104 ([w0_0])) :: (.box pb1 23 ([w1_0])) :: (.box pb2 3 ([.int .i64 ao.2.2])) :: Γ) w → Zm Rep.bool ρ a0 ah → Zm (Rep.arr (Value.int .u16) (Ue .u16) 128) ρ a2 ai → ce [(0, .func (.func 153) #[] #[.pointer (some ⟨pb0, 0, none⟩), .pointer (some ⟨pb1, 0, none⟩), .pointer (some ⟨pb2, 0, none⟩)]), (3, .pointer (some ⟨bg, 0, none⟩)), (4, .map (some bh)), (5, .int .i64 af), (6, .pointer (some ⟨bi, 0, none⟩)), (7, .int .i64 ac), (8, .bool ao.1), (9, .int .u16 ax), (14, .int .i64 ac)] w := by
   intro ah ai ak ax az a0 a1 a2 w H hs bd be
   rw [Z4.j2] at H
   refine cf _ _ <| Wr fun ec cg => Mv rfl <| Mv rfl <| Mv rfl <| Onp rfl <| Ofd Zhk rfl ?_
   obtain ⟨bn, H⟩ := gd H
   refine O_y rfl (Zcd Zpd Zcl rfl rfl bn.1 bn.2) <| Zew (j := 4) (u := ax) Zcl (Ue .u16) hs rfl rfl bn.1 bn.2 rfl rfl (fun w hs => Ox cg <| W.weak [(0, _), (3, _), (4, _), (5, _), (6, _), (8, _), (9, _), (14, _)] sbn ?_)
   refine Wr fun ed ch => Mv rfl <| Ox ch <| Xg rfl (fun bt => ?_) (fun bt => ?_)
   rw [if_pos bt] at H
   refine Zc <| O_y rfl (Zqc (zs := vcs (Value.int .u16) (Vector.replicate 128 0 : Vector Int 128)) Zj4 Zcl Zwm) <| Ze6 (j := 2) (u := (Vector.replicate 128 0 : Vector Int 128)) Zjt (Ue .u16) hs rfl rfl rfl (fun w hs => Zd (b8 _ _ _ sbn (b9 ah ai (Vector.replicate 128 0 : Vector Int 128) ak (Zb3 aa ac ax) ao.2.2 af az a0 a1 a2 _ H hs bd be)))
   rw [if_neg (bft bt)] at H
   refine Zc <| Mv rfl <| O_y rfl (V4 Zkf un3 rfl) <| As rfl <| Zd (b8 _ _ _ sbn (b9 ah ai ao.2.1 ak (Zb3 aa ac ax) ao.2.2 (i64.wrap ax) az a0 a1 a2 _ H hs bd be))
  refine Wr fun ee ci => Mv rfl <| Ont rfl <| Ox ci <| Xg rfl (fun bu => ?_) (fun bu => ?_)
  rw [if_pos bu] at H
  refine Wr fun ef cj => Mv rfl <| Onp rfl <| Ofd Zfy rfl <| O_y rfl (Yb 4 Zo3 hs rfl (Zfq (q := 0) rfl rfl) rfl) <| O_y rfl (V8 (i := 1) Zva hs rfl rfl) <| O_y rfl (V4 un3 Zkf rfl) <| As rfl <| Ox cj <| W.weak [(0, _), (3, _), (4, _), (5, _), (6, _), (7, _), (8, _), (9, _), (14, _)] sbn ?_
  refine Wr fun eg ck => Mv rfl <| O_y rfl (Zcn (j := 2) Zpa Zjt hs rfl rfl) <| Mv rfl <| Zcp (i := 3) (m := ad) (x := ao.2.1) (v := u16.wrap (ab.length : Int)) (E := (Value.int .u16)) Zu8 Zft trivial (fun _ _ => trivial) hs rfl rfl rfl rfl (fun w hs => Ox ck <| Zh fun eh cl => Qn 11 [0, 0, 2, 4, 8, 0, 32, 80, 255, 511, 767] [254, 249, 241, 225, 97, 159, 31, 1, 1024, 0, 0] [0, 0, 2, 6, 14, 0, 32, 126, 255, 511, 1023] [7, 8, 9, 10] (fun w => St w0 ρ ((.row ag 4 Rep.bool.sz ae.length al) :: (.row aj 152 ((Rep.arr (Value.int .u16) (Ue .u16) 128).sz) ab.length an) :: (.box bi 152 ([] ++ (vcs (Value.int .u16) ao.2.1 ++ []))) :: (.obj bh (X4 Zft.enc (vs (Value.int .u16) (Ht ad ao.2.1 (u16.wrap (ab.length : Int)))))) :: (.box bg 156 ([] ++ (vcs (Value.int .u16) aa ++ [aj, ag]))) :: (.box pb0 104 ([w0_0])) :: (.box pb1 23 ([w1_0])) :: (.box pb2 3 ([.int .i64 ao.2.2])) :: Γ) w) Vl (by kernel_rfl) (fun sh => ?_))
  have hs := hs.drew
  refine Fm 0 sh rfl <| Fm 1 sh rfl <| Fp 2 sh rfl (fun w => K1 rfl) <| Fp 3 sh rfl (fun w => Zp Zfy rfl) <| Fy 4 sh rfl hs (fun w hs => Yb 4 Zo3 hs rfl (Zfq (q := 0) rfl rfl) rfl) <| Fy 5 sh rfl hs (fun w hs => Zcn (j := 2) Zpa Zjt hs rfl rfl) <| F1 6 sh rfl (fun ei cm => Ku (xs := [.tmp 57]) (cs := vcs (Value.int .u16) ao.2.1 ++ ([])) Zor hs rfl rfl rfl (by decide) (by decide) rfl (Yc (Zql _ _) Kb) (Zv rfl Xy) (fun cn w hs => ?_))
  have b2 : Zm (Rep.arr (Value.int .u16) (Ue .u16) 128) ρ (vcs (Value.int .u16) ao.2.1 ++ ([])) [ao.2.1] := Zm.cons (c := vcs (Value.int .u16) ao.2.1) (x := ao.2.1) rfl (Zm.nil _ _)
  refine Zd (cm _ _ (fun _ _ => (hs.sub (ssk (ssc (ssc (ssc (ssc (ssc (ssc (ssc (ssc ssr))))))))))) ?_)
  obtain ⟨co, H⟩ := gd H
  refine F1 7 sh rfl (fun ej cp => Qt (i := 2) Zor hs rfl a6 rfl rfl rfl (Src.lit (j := 0) hs rfl b2) b2 co (fun bv bo w cq hs => Zd (cp _ _ (fun h _ => absurd h (by decide)) <| Ke sh [10] hs (by kernel_rfl) <| Fp 8 sh rfl (fun w => K1 rfl) <| Fp 9 sh rfl (fun w => Zp Zfy rfl) <| F1 10 sh rfl (fun ek cr => Zis (j := 5) (q := 0) Zwn hs rfl rfl rfl rfl rfl (St.rowOne hs (j := 2) rfl) (fun w hs => Zd (cr _ _ (fun h _ => absurd h (by decide)) <| FE sh (cl _ _ <| W.weak [(0, _), (3, _), (4, _), (5, _), (6, _), (7, _), (8, _), (9, _), (14, _)] sbn ?_)))))))
  refine Qn 11 [0, 0, 2, 4, 8, 0, 32, 112, 255, 511, 767] [254, 249, 241, 225, 97, 31, 31, 1, 1024, 0, 0] [0, 0, 2, 6, 14, 0, 32, 126, 255, 511, 1023] [7, 8, 9, 10] (fun w => St w0 ρ ((.row (.slice (some ⟨cn, 0, none⟩) 1 1) 152 ((Rep.arr (Value.int .u16) (Ue .u16) 128).sz) (([ao.2.1]).length) (vcs (Value.int .u16) ao.2.1 ++ ([]))) :: (.row ag 4 Rep.bool.sz ae.length al) :: (.row bv 152 ((Rep.arr (Value.int .u16) (Ue .u16) 128).sz) ((ab ++ ([ao.2.1])).length) bo) :: (.box bi 152 ([] ++ (vcs (Value.int .u16) ao.2.1 ++ []))) :: (.obj bh (X4 Zft.enc (vs (Value.int .u16) (Ht ad ao.2.1 (u16.wrap (ab.length : Int)))))) :: (.box bg 156 ([] ++ (vcs (Value.int .u16) aa ++ [bv, ag]))) :: (.box pb0 104 ([w0_0])) :: (.box pb1 23 ([w1_0])) :: (.box pb2 3 ([.int .i64 ao.2.2])) :: Γ) w) Vl (by kernel_rfl) (fun sh => ?_)
  have hs := hs.drew
  refine Fm 0 sh rfl <| Fm 1 sh rfl <| Fp 2 sh rfl (fun w => K1 rfl) <| Fp 3 sh rfl (fun w => Zp Zot rfl) <| Fy 4 sh rfl hs (fun w hs => Yb 5 Zxs hs rfl (Zfq (q := 1) rfl rfl) rfl) <| F1 5 sh rfl (fun el ct => ?_)
  have hs := hs.front 3 rfl
  obtain ⟨bf, b3, H⟩ := bnd H
  refine Oc rfl (Xn.c hs b3) (fun em w hpost => ?_)
  obtain ⟨rfl, hs⟩ := hpost
  have hs := hs.sink 3
  refine Zd (ct _ _ (fun _ _ => hs) <| F1 6 sh rfl (fun en cu => Ku (xs := [.tmp 67]) (cs := [.bool bf]) U9 hs rfl rfl rfl (by decide) (by decide) rfl (Yc rfl Kb) (Zv rfl Xy) (fun eo w hs => ?_)))
  have b4 : Zm Rep.bool ρ ([.bool bf]) [bf] := Zm.cons (c := [.bool bf]) (x := bf) rfl (Zm.nil _ _)
  refine Zd (cu _ _ (fun _ _ => (hs.sub (ssk (ssc (ssc (ssc (ssc (ssc (ssc (ssc (ssc (ssc ssr)))))))))))) ?_)
  obtain ⟨cv, H⟩ := gd H
  refine F1 7 sh rfl (fun ep cw => Qt (i := 2) U9 hs rfl a5 rfl rfl rfl (Src.lit (j := 0) hs rfl b4) b4 cv (fun cx b5 w cy hs => Zd (cw _ _ (fun h _ => absurd h (by decide)) <| Ke sh [10] hs (by kernel_rfl) <| Fp 8 sh rfl (fun w => K1 rfl) <| Fp 9 sh rfl (fun w => Zp Zot rfl) <| F1 10 sh rfl (fun eq cz => Zis (j := 6) (q := 1) Zxt hs rfl rfl rfl rfl rfl (St.rowOne hs (j := 2) rfl) (fun w hs => Zd (cz _ _ (fun h _ => absurd h (by decide)) <| FE sh (b0 _ _ _ sbn (b1 (ae ++ ([bf])) (ab ++ ([ao.2.1])) (Ht ad ao.2.1 (u16.wrap (ab.length : Int))) (u16.wrap (ab.length : Int)) cx b5 bv bo _ H (hs.sub (ssk (ssk (ssc (ssc (ssc (ssc (ssc (ssc (ssc (ssc ssr))))))))))) cy cq))))))))
  rw [if_neg (bft bu)] at H
  exact Ua (b0 _ _ _ sbn (b1 ae ab ad ((Vo ad ao.2.1).getD 0) ag al aj an _ H hs a5 a6))
 refine Zc <| Mv rfl <| Ont rfl <| Mv rfl <| U8 (dj := 24) rfl (fun bw => ?_) (fun bw => ?_)
 rw [if_pos bw] at H
 refine Oe rfl <| Mv rfl <| Oe rfl <| Oge rfl <| Opk rfl <| Zd (bx _ _ _ sbn (bz (decide (0 ≤ af)) _ H hs))
 rw [if_neg (bft bw)] at H
 refine On rfl <| On rfl <| Opk rfl <| Zd (bx _ _ _ sbn (bz false _ H hs))
 rw [if_neg b7] at H
 refine Y4 (dn _ _ (dl _ _ <| Wr fun er da => Mv rfl <| As rfl <| Ox da <| Zk ?_))
 obtain ⟨es, bp, hs, db⟩ := hs.rowEnd (j := 1) a6 rfl
 obtain ⟨et, bq, hs, dc⟩ := hs.rowEnd (j := 0) (a5.mono bp) rfl
 obtain ⟨dd, bl, hs, b6⟩ := hs.boxEnd (j := 2) rfl
 have de : Xs Vc dd (.pointer (some ⟨bg, 0, none⟩)) (some (⟨aa, ab, ae⟩ : Tab)) := .inr ⟨bg, _, rfl, rfl, _, ⟨_, _, rfl, (db.mono (bq.trans bl)), (dc.mono bl)⟩, b6⟩
 obtain rfl := Zz H
 exact r1 rfl ⟨_, _, rfl, ((bp.trans bq).trans bl), (hs.sub (ssk (ssk (ssc (ssc (ssc ssr)))))), de⟩

def V9.f (x0 : Option Tab) (x1 : List Val) : Option (Option Tab × Int × Int) := (Y5.f x1).bind fun aa => (if aa.2 ≠ 0 then (some (none, aa.1, aa.2)) else ((Z4.f x0 x1 0).bind fun af => (some (af.1, 0, 0))))
theorem V9.c (hs : St w0 ρ (Γ) w) {v0 : Value} {x0 : Option Tab} (h0 : Xs Vc ρ v0 x0) {v1 : Value} {x1 : List Val} (h1 : SlR X9 ρ v1 x1) {r : Option Tab × Int × Int} (H : V9.f x0 x1 = some r) : Zn Tryz.prog 118 [v0, v1] w (fun v w' => ∃ (ρ' : Hp) (v0 : Value), v = .tuple #[v0, .int .i64 r.2.1, .int .i64 r.2.2] ∧ Le ρ ρ' ∧ St w0 ρ' (Γ) w' ∧ Xs Vc ρ' v0 r.1) := by
 rw [V9.f] at H
 refine Et Tryz.func118 Tryz.ntmps118 rfl <| Wr fun ap ag => Zcj hs rfl rfl h0.one (fun aq w hs => Zcj hs rfl rfl h1.one (fun ar w hs => As rfl <| As rfl <| As rfl <| Ox ag <| Zh fun au ah => Wr fun av ai => Obx 0 Zbl hs rfl ?_))
 obtain ⟨aa, ab, H⟩ := bnd H
 refine Oc rfl (Y5.c hs h1 ab) (fun aw w hpost => ?_)
 obtain ⟨rfl, hs⟩ := hpost
 refine Mv rfl <| Oxt rfl <| Oxt rfl <| As rfl <| As rfl <| Ox ai <| Wr fun ax aj => Mv rfl <| One rfl <| Ox aj <| W.weak [(2, _), (3, _), (7, _), (8, _), (16, _)] sbn ?_
 refine Y7 rfl (fun ac => ?_) (fun ac => ?_)
 rw [if_pos ac] at H
 refine Wr fun ay ak => Mv rfl <| Mv rfl <| As rfl <| As rfl <| As rfl <| Ox ak <| Zk ?_
 have al : Xs Vc ρ (.pointer none) none := Xs.nil _ _
 obtain rfl := Zz H
 exact Zcu rfl rfl rfl rfl ⟨_, _, rfl, Le.rfl' _, (hs.sub (ssk (ssk ssr))), al⟩
 rw [if_neg ac] at H
 refine Wx ah <| Wr fun az am => Y6 zr3 hs rfl (fun a0 w hs => Vu (i := 0) sz3 hs rfl rfl rfl rfl rfl (fun w hs => Ox am <| Wr fun a1 an => O_y rfl (Ux rfl) ?_))
 have hs := hs.front 1 rfl
 have hs := hs.front 2 rfl
 obtain ⟨af, ad, H⟩ := bnd H
 refine Oc rfl (Z4.c hs h0 h1 ad) (fun a2 w hpost => ?_)
 obtain ⟨a3, a4, rfl, ae, hs, ao⟩ := hpost
 have hs := hs.sink 2
 have hs := hs.sink 1
 refine As rfl <| As rfl <| As rfl <| Ox an <| Zk ?_
 obtain rfl := Zz H
 exact Zcu rfl rfl rfl rfl ⟨_, _, rfl, ae, (hs.sub (ssk (ssk (ssk ssr)))), ao⟩

def Vy.f (x0 : List Val) : Option (Option Tab × Int × Int) := (V9.f none x0).bind fun aa => (some (aa.1, aa.2.1, aa.2.2))
theorem Vy.c (hs : St w0 ρ (Γ) w) {v0 : Value} {x0 : List Val} (h0 : SlR X9 ρ v0 x0) {r : Option Tab × Int × Int} (H : Vy.f x0 = some r) : Zn Tryz.prog 63 [v0] w (fun v w' => ∃ (ρ' : Hp) (v0 : Value), v = .tuple #[v0, .int .i64 r.2.1, .int .i64 r.2.2] ∧ Le ρ ρ' ∧ St w0 ρ' (Γ) w' ∧ Xs Vc ρ' v0 r.1) := by
 rw [Vy.f] at H
 refine Et Tryz.func63 Tryz.ntmps63 rfl <| Wr fun ah ad => As rfl <| As rfl <| As rfl <| Ox ad <| Wr fun ai ae => Mv rfl ?_
 have af : Xs Vc ρ (.pointer none) none := Xs.nil _ _
 obtain ⟨aa, ab, H⟩ := bnd H
 refine Oc rfl (V9.c hs af h0 ab) (fun aj w hpost => ?_)
 obtain ⟨ak, al, rfl, ac, hs, ag⟩ := hpost
 refine Oxt rfl <| Oxt rfl <| Oxt rfl <| As rfl <| As rfl <| As rfl <| Ox ae <| Zk ?_
 obtain rfl := Zz H
 exact Zcu rfl rfl rfl rfl ⟨_, _, rfl, ac, hs, ag⟩

def Qh.f (x0 : List Val) : Option (Option Tab) := (Vy.f x0).bind fun ac => (some ac.1)
theorem Qh.c (hs : St w0 ρ (Γ) w) {v0 : Value} {x0 : List Val} (h0 : SlR X9 ρ v0 x0) {r : Option Tab} (H : Qh.f x0 = some r) : Zn Tryz.prog 62 [v0] w (fun v w' => ∃ (ρ' : Hp) (v0 : Value), v = v0 ∧ Le ρ ρ' ∧ St w0 ρ' (Γ) w' ∧ Xs Vc ρ' v0 r) := by
 rw [Qh.f] at H
 refine Et Tryz.func62 Tryz.ntmps62 rfl <| Wr fun ah ad => As rfl <| Ox ad <| Wr fun ai ae => Mv rfl ?_
 obtain ⟨ac, aa, H⟩ := bnd H
 refine Oc rfl (Vy.c hs h0 aa) (fun aj w hpost => ?_)
 obtain ⟨ak, al, rfl, ab, hs, af⟩ := hpost
 refine Mv rfl <| Oxt rfl <| Oxt rfl <| Oxt rfl <| As rfl <| As rfl <| As rfl <| Ox ae <| Wr fun am ag => Mv rfl <| As rfl <| Ox ag <| Zk ?_
 obtain rfl := Zz H
 exact r1 rfl ⟨_, _, rfl, ab, hs, af⟩

def Kv.l1 : Nat → List Spn → List Val → Int → Option (Option Tab)
  | 0, _, _, _ => none
  | ae + 1, x0, ab, aa => if aa < (x0.length : Int) then (if (0 : Int) ≤ aa ∧ aa < (x0.length : Int) then (if ab.length + ([(⟨(rd x0 aa).lo, (rd x0 aa).hi, 1⟩ : Val)]).length ≤ most then ((Kv.l1 ae x0) (ab ++ ([(⟨(rd x0 aa).lo, (rd x0 aa).hi, 1⟩ : Val)])) (i64.wrap (aa + 1))) else none) else none) else ((Vy.f ab).bind fun ao => (some ao.1))
def Kv.f (x0 : List Spn) : Option (Option Tab) := Kv.l1 K0 x0 ([] : List Val) 0
theorem Kv.c (hs : St w0 ρ (Γ) w) {v0 : Value} {x0 : List Spn} (h0 : SlR Kd ρ v0 x0) {r : Option Tab} (H : Kv.f x0 = some r) : Zn Tryz.prog 64 [v0] w (fun v w' => ∃ (ρ' : Hp) (v0 : Value), v = v0 ∧ Le ρ ρ' ∧ St w0 ρ' (Γ) w' ∧ Xs Vc ρ' v0 r) := by
 rw [Kv.f] at H
 refine Et Tryz.func64 Tryz.ntmps64 rfl <| Wr fun bf ar => As rfl <| Ox ar <| Wr fun bg au => As rfl ?_
 have hs := hs.rowNil 67 X9.sz
 have av := Zm.nil X9 ρ
 refine Ox au <| Zh fun bh aw => Wr fun bi ax => Mv rfl <| O_y rfl (Yv Zjf h0 rfl) <| Mv rfl <| Ox ax <| Zj fun bj ay bk => Y9 (σ := Nat × List Val × Int × Value × List Value) (fun (ae, ab, aa, ac, ad) => [(3, ac), (9, v0), (10, .int .i64 (x0.length : Int)), (11, .int .i64 aa)]) (fun (ae, ab, aa, ac, ad) w => Kv.l1 ae x0 ab aa = some r ∧ St w0 ρ ((.row ac 67 X9.sz ab.length ad) :: Γ) w ∧ Zm X9 ρ ad ab) (fun s => s.1) (K0, ([] : List Val), 0, (.slice none 0 0), ([])) (T4 rfl) (Ai H (Ai hs av)) ?_
 rintro ⟨ae, ab, aa, ac, ad⟩ w bl ⟨H, hs, af⟩ ag
 show W _ _ _ _ _ _ [(3, ac), (9, v0), (10, .int .i64 (x0.length : Int)), (11, .int .i64 aa)] w
 cases ae with
 | zero => rw [Kv.l1] at H; cases H
 | succ ae =>
 rw [Kv.l1] at H
 refine Wr fun bm az => Ols rfl <| Ox az <| Zh fun bn a0 => Y7 rfl (fun aj => ?_) (fun aj => ?_)
 rw [if_pos aj] at H
 refine Wx a0 <| Zh fun bo a1 => Zj fun bp bq br => Zh fun bs a2 => Zc ?_
 obtain ⟨ap, H⟩ := gd H
 obtain ⟨bt, bu, a3, a4⟩ := h0.ix Zi5 ap.1 ap.2
 obtain ⟨_, rfl, a5⟩ := a3
 refine O_y rfl (a4 rfl rfl) <| O_y rfl (Qv Za7 Hj rfl rfl (fun j u hu => hs.see (a5 j u hu))) <| Y6 Zay hs rfl (fun bv w hs => Ye (i := 0) Hj hs rfl rfl rfl rfl rfl (Zb rfl (Zb rfl Yj)) (fun w hs => Ox a2 <| Zc <| Mv rfl <| Ofd Uw rfl <| Obx 0 Xm hs rfl <| Ofd Vr rfl <| Obx 0 Xm hs rfl <| O_y rfl (Qe (cs := [.int .i32 ((rd x0 aa).lo), .int .i32 ((rd x0 aa).hi), .int .i64 1]) Zlb Zth ((Z2.cons rfl rfl (Z2.cons rfl rfl (Z2.cons rfl rfl Z2.nil)))) Ze7 (by kernel_rfl)) <| Ku (xs := [.tmp 20]) (cs := [.int .i32 ((rd x0 aa).lo), .int .i32 ((rd x0 aa).hi), .int .i64 1]) Zcg hs rfl rfl rfl (by decide) (by decide) rfl (Yc rfl Kb) (Zv rfl Xy) (fun bw w hs => ?_)))
 have aq : Zm X9 ρ ([.int .i32 ((rd x0 aa).lo), .int .i32 ((rd x0 aa).hi), .int .i64 1]) [(⟨(rd x0 aa).lo, (rd x0 aa).hi, 1⟩ : Val)] := Zm.cons (c := [.int .i32 ((rd x0 aa).lo), .int .i32 ((rd x0 aa).hi), .int .i64 1]) (x := (⟨(rd x0 aa).lo, (rd x0 aa).hi, 1⟩ : Val)) rfl (Zm.nil _ _)
 obtain ⟨a6, H⟩ := gd H
 refine Qt (i := 2) Zcg hs rfl af rfl rfl rfl (Src.lit (j := 0) hs rfl aq) aq a6 (fun a7 ak w a8 hs => As rfl <| Ox a1 <| W.weak [(3, _), (9, _), (10, _), (11, _)] (T4 rfl) <| Zc <| Oad rfl <| Mv rfl <| Zd (ag (ae, (ab ++ ([(⟨(rd x0 aa).lo, (rd x0 aa).hi, 1⟩ : Val)])), (i64.wrap (aa + 1)), a7, ak) _ _ (T4 rfl) (Ai H (Ai (hs.sub (ssk (ssk (ssc ssr)))) a8)) (Nat.lt_succ_self _)))
 rw [if_neg aj] at H
 refine Y4 (ay _ _ (aw _ _ <| Zh fun bx a9 => ?_))
 obtain ⟨bz, al, hs, ba⟩ := hs.rowEnd (j := 0) af rfl
 refine Zc <| Mv rfl ?_
 obtain ⟨ao, ah, H⟩ := bnd H
 refine Oc rfl (Vy.c hs ba ah) (fun bb w hpost => ?_)
 obtain ⟨bc, bd, rfl, ai, hs, am⟩ := hpost
 refine Mv rfl <| Oxt rfl <| Oxt rfl <| Oxt rfl <| As rfl <| As rfl <| As rfl <| Ox a9 <| Wr fun be an => Mv rfl <| As rfl <| Ox an <| W.weak [(2, _)] (S1 rfl) ?_
 refine Zk ?_
 obtain rfl := Zz H
 exact r1 rfl ⟨_, _, rfl, (al.trans ai), hs, am⟩

def Z7.l1 : Nat → List Chs → List Val → Int → Option (Option Tab)
  | 0, _, _, _ => none
  | af + 1, x0, ab, aa => if aa < (x0.length : Int) then (if (0 : Int) ≤ aa ∧ aa < (x0.length : Int) then ((Kl.f (rd x0 aa)).bind fun ae => (if ab.length + ([(⟨ae.lo, ae.hi, i64.wrap (aa + 1)⟩ : Val)]).length ≤ most then ((Z7.l1 af x0) (ab ++ ([(⟨ae.lo, ae.hi, i64.wrap (aa + 1)⟩ : Val)])) (i64.wrap (aa + 1))) else none)) else none) else ((Vy.f ab).bind fun ak => (some ak.1))
def Z7.f (x0 : List Chs) : Option (Option Tab) := Z7.l1 K0 x0 ([] : List Val) 0
theorem Z7.c (hs : St w0 ρ (Γ) w) {v0 : Value} {x0 : List Chs} (h0 : SlR Ks ρ v0 x0) {r : Option Tab} (H : Z7.f x0 = some r) : Zn Tryz.prog 65 [v0, .func (.func 66) #[] #[]] w (fun v w' => ∃ (ρ' : Hp) (v0 : Value), v = v0 ∧ Le ρ ρ' ∧ St w0 ρ' (Γ) w' ∧ Xs Vc ρ' v0 r) := by
 rw [Z7.f] at H
 refine Et Tryz.func65 Tryz.ntmps65 rfl <| Wr fun bt a5 => As rfl <| Ox a5 <| Wr fun bu a6 => As rfl ?_
 have hs := hs.rowNil 67 X9.sz
 have a7 := Zm.nil X9 ρ
 refine Ox a6 <| Zh fun bv a8 => Wr fun bw a9 => Mv rfl <| O_y rfl (Yv Ze5 h0 rfl) <| Mv rfl <| Ox a9 <| Zj fun bx ba bz => Y9 (σ := Nat × List Val × Int × Value × List Value × Hp) (fun (af, ab, aa, ac, ad, ah) => [(1, .func (.func 66) #[] #[]), (5, ac), (12, v0), (13, .int .i64 (x0.length : Int)), (14, .int .i64 aa)]) (fun (af, ab, aa, ac, ad, ah) w => Z7.l1 af x0 ab aa = some r ∧ Le ρ ah ∧ St w0 ah ((.row ac 67 X9.sz ab.length ad) :: Γ) w ∧ Zm X9 ah ad ab) (fun s => s.1) (K0, ([] : List Val), 0, (.slice none 0 0), ([]), ρ) sbn (Ai H (Ai (Le.rfl' _) (Ai hs a7))) ?_
 rintro ⟨af, ab, aa, ac, ad, ah⟩ w b0 ⟨H, ai, hs, ag⟩ aj
 show W _ _ _ _ _ _ [(1, .func (.func 66) #[] #[]), (5, ac), (12, v0), (13, .int .i64 (x0.length : Int)), (14, .int .i64 aa)] w
 cases af with
 | zero => rw [Z7.l1] at H; cases H
 | succ af =>
 rw [Z7.l1] at H
 refine Wr fun b1 bb => Ols rfl <| Ox bb <| Zh fun b2 bc => Y7 rfl (fun ar => ?_) (fun ar => ?_)
 rw [if_pos ar] at H
 refine Wx bc <| Zh fun b3 bd => Zj fun b4 b5 b6 => Wr fun b7 be => Mv rfl ?_
 obtain ⟨a2, H⟩ := gd H
 obtain ⟨b8, b9, bf, bg⟩ := (h0.mono ai).ix Zdo a2.1 a2.2
 obtain ⟨_, ⟨ca, rfl, a3⟩, bh⟩ := bf
 refine O_y rfl (bg rfl rfl) <| O_y rfl (Qv Zbq Zag rfl rfl (fun j u hu => hs.see (bh j u hu))) <| Y6 Zgz hs rfl (fun cb w hs => As rfl <| Ye (i := 0) Zag hs rfl rfl rfl rfl rfl (Zb rfl (Zb rfl (Zb a3.one Yj))) (fun w hs => Ox be <| Wr fun cc bi => Mv rfl <| O_y rfl (Xk (i := 0) Zbq Zag hs rfl rfl rfl rfl) ?_))
 obtain ⟨ae, au, H⟩ := bnd H
 refine Xo rfl rfl rfl (Kl.c hs ⟨_, rfl, a3⟩ au) (fun cd w hpost => ?_)
 obtain ⟨a4, bj, rfl, al, hs, bk⟩ := hpost
 have bl := bk
 obtain rfl := bl
 refine Y6 Zay hs rfl (fun ce w hs => Ye (i := 0) Hj hs rfl rfl rfl rfl rfl (Zb rfl (Zb rfl Yj)) (fun w hs => Ox bi <| W.weak [(1, _), (5, _), (6, _), (8, _), (12, _), (13, _), (14, _)] sbn ?_))
 refine Zc <| Mv rfl <| Ofd Uw rfl <| Obx 0 Xm hs rfl <| Ofd Vr rfl <| Obx 0 Xm hs rfl <| Mv rfl <| Oad rfl <| O_y rfl (Qe (cs := [.int .i32 ae.lo, .int .i32 ae.hi, .int .i64 (i64.wrap (aa + 1))]) Zlb Zth ((Z2.cons rfl rfl (Z2.cons rfl rfl (Z2.cons rfl rfl Z2.nil)))) Ze7 (by kernel_rfl)) <| Ku (xs := [.tmp 29]) (cs := [.int .i32 ae.lo, .int .i32 ae.hi, .int .i64 (i64.wrap (aa + 1))]) Zcg hs rfl rfl rfl (by decide) (by decide) rfl (Yc rfl Kb) (Zv rfl Xy) (fun bm w hs => ?_)
 have am : Zm X9 a4 ([.int .i32 ae.lo, .int .i32 ae.hi, .int .i64 (i64.wrap (aa + 1))]) [(⟨ae.lo, ae.hi, i64.wrap (aa + 1)⟩ : Val)] := Zm.cons (c := [.int .i32 ae.lo, .int .i32 ae.hi, .int .i64 (i64.wrap (aa + 1))]) (x := (⟨ae.lo, ae.hi, i64.wrap (aa + 1)⟩ : Val)) rfl (Zm.nil _ _)
 obtain ⟨av, H⟩ := gd H
 refine Qt (i := 3) Zcg hs rfl (ag.mono al) rfl rfl rfl (Src.lit (j := 0) hs rfl am) am av (fun aw an w ax hs => As rfl <| Ox bd <| W.weak [(1, _), (5, _), (12, _), (13, _), (14, _)] sbn ?_)
 refine Zc <| Oad rfl <| Mv rfl <| Zd (aj (af, (ab ++ ([(⟨ae.lo, ae.hi, i64.wrap (aa + 1)⟩ : Val)])), (i64.wrap (aa + 1)), aw, an, a4) _ _ sbn (Ai H (Ai (ai.trans al) (Ai (hs.sub (ssk (ssk (ssk (ssc ssr))))) ax))) (Nat.lt_succ_self _))
 rw [if_neg ar] at H
 refine Y4 (ba _ _ (a8 _ _ <| Zh fun bn ay => ?_))
 obtain ⟨bo, ao, hs, az⟩ := hs.rowEnd (j := 0) ag rfl
 refine Zc <| Mv rfl ?_
 obtain ⟨ak, ap, H⟩ := bnd H
 refine Oc rfl (Vy.c hs az ap) (fun bp w hpost => ?_)
 obtain ⟨bq, br, rfl, aq, hs, a0⟩ := hpost
 refine Mv rfl <| Oxt rfl <| Oxt rfl <| Oxt rfl <| As rfl <| As rfl <| As rfl <| Ox ay <| W.weak [(9, _)] (S1 rfl) <| Wr fun bs a1 => Mv rfl <| As rfl <| Zd (a1 _ _ ?_)
 refine Zk ?_
 obtain rfl := Zz H
 exact r1 rfl ⟨_, _, rfl, ((ai.trans ao).trans aq), hs, a0⟩

def Z1.j1 (x0 : Option Tab) (x1 : Int) (aa : Bool) : Option Int := if aa = true then (some 0) else (if x0.isSome = true then (if (0 : Int) ≤ i32.wrap (x1.tdiv 128) ∧ i32.wrap (x1.tdiv 128) < ((8704 : Nat) : Int) then (if (0 : Int) ≤ vg (((x0).getD default).which) (i32.wrap (x1.tdiv 128)) ∧ vg (((x0).getD default).which) (i32.wrap (x1.tdiv 128)) < ((((x0).getD default).unlike).length : Int) then (if (0 : Int) ≤ x1.tmod 128 ∧ x1.tmod 128 < ((128 : Nat) : Int) then (some (i64.wrap (vg (rd (((x0).getD default).unlike) (vg (((x0).getD default).which) (i32.wrap (x1.tdiv 128)))) (x1.tmod 128)))) else none) else none) else none) else none)
def Z1.f (x0 : Option Tab) (x1 : Int) : Option Int := if ((x0).isNone) = true then (Z1.j1 x0 x1 true) else (if x1 < 0 then (Z1.j1 x0 x1 true) else (Z1.j1 x0 x1 (decide (1114111 < x1))))
theorem Z1.c (hs : St w0 ρ (Γ) w) {v0 : Value} {x0 : Option Tab} (h0 : Xs Vc ρ v0 x0) {x1 r : Int} (H : Z1.f x0 x1 = some r) : Zn Tryz.prog 67 [v0, .int .i32 x1] w (fun v w' => v = .int .i64 r ∧ St w0 ρ Γ w') := by
 rw [Z1.f] at H
 refine Et Tryz.func67 Tryz.ntmps67 rfl <| Wr fun a4 am => As rfl <| Ox am <| Zh fun a5 an => Yu fun ao ap ad => ?_
 have ae : ∀ (aa : Bool) (w : World), Z1.j1 x0 x1 aa = some r → St w0 ρ (Γ) w → ao [(0, v0), (1, .int .i32 x1), (14, .bool aa)] w := by
  intro aa w H hs
  rw [Z1.j1] at H
  refine ap _ _ <| Xg rfl (fun af => ?_) (fun af => ?_)
  rw [if_pos af] at H
  refine Wr fun a6 aq => As rfl <| Ox aq <| Zk ?_
  obtain rfl := Zz H
  exact r1 rfl ⟨rfl, hs⟩
  rw [if_neg (bft af)] at H
  refine Wx an <| Zh fun a7 ar => Qn 18 [0, 1, 2, 4, 0, 0, 32, 16, 128, 320, 512, 0, 2048, 1032, 12288, 16384, 32768, 131071] [131068, 131064, 131056, 122864, 130927, 130975, 130463, 130671, 130159, 129039, 120847, 124927, 108543, 104448, 65536, 0, 0, 0] [0, 1, 3, 7, 0, 0, 32, 16, 144, 496, 1008, 0, 2048, 2047, 16383, 32767, 65535, 131071] [] (fun w => St w0 ρ (Γ) w) Vl (by kernel_rfl) (fun sh => ?_)
  have hs := hs.drew
  refine Fm 0 sh rfl ?_
  obtain ⟨ak, H⟩ := gd H
  obtain ⟨a8, ag, au⟩ := h0.open ak
  obtain ⟨_, ⟨a9, ba, rfl, av, bb⟩, aw⟩ := au
  refine Fp 1 sh rfl (fun w => K1 (congrArg some ag)) <| Fp 2 sh rfl (fun w => Zp Zfy rfl) <| Fy 3 sh rfl hs (fun w hs => Xp Zo3 rfl (hs.see (aw 8704 _ (Zfq (q := 0) rfl rfl)))) <| Fm 4 sh rfl <| Fm 5 sh rfl <| Fp 6 sh rfl (fun w => Zc7 rfl rfl (by decide)) ?_
  obtain ⟨bc, ah, ax⟩ := h0.open ak
  obtain ⟨_, ⟨bd, be, rfl, bf, bg⟩, ay⟩ := ax
  refine Fp 7 sh rfl (fun w => K1 (congrArg some ah)) <| Fp 8 sh rfl (fun w => Zp Zhk rfl) ?_
  obtain ⟨ab, H⟩ := gd H
  have az := CA.seg (q := 0) ay rfl ab.1 ab.2
  refine Fp 9 sh rfl (fun w => Zcd Zpd Zcl rfl rfl ab.1 ab.2) <| Fy 10 sh rfl hs (fun w hs => Xp Zke rfl (hs.see az)) <| Fm 11 sh rfl <| Fp 12 sh rfl (fun w => Zjj rfl rfl (by decide)) ?_
  obtain ⟨al, H⟩ := gd H
  obtain ⟨bh, bi, a0, a1⟩ := av.ix Zor al.1 al.2
  have a2 := a0.arr
  refine Fp 13 sh rfl (fun w => a1 rfl rfl) ?_
  obtain ⟨ac, H⟩ := gd H
  have a3 := CA.seg (q := 0) a2 rfl ac.1 ac.2
  refine Fp 14 sh rfl (fun w => Zcd Zj4 Zcl rfl rfl ac.1 ac.2) <| Fy 15 sh rfl hs (fun w hs => Xp Zke rfl (hs.see a3)) <| Fp 16 sh rfl (fun w => V4 Zkf un3 rfl) <| Fp 17 sh rfl (fun w => Xv rfl) <| FE sh (ar _ _ <| W.weak [(4, _)] (S1 rfl) <| Zk ?_)
  obtain rfl := Zz H
  exact r1 rfl ⟨rfl, hs⟩
 refine Zc <| Mv rfl <| O_y rfl ((h0.eqn Zrh rfl rfl)) <| Mv rfl <| U8 (dj := 7) rfl (fun ai => ?_) (fun ai => ?_)
 rw [if_pos ai] at H
 refine On rfl <| On rfl <| Opk rfl <| Mv rfl <| On rfl <| On rfl <| Opk rfl <| Zd (ad _ _ _ (T3 rfl) (ae true _ H hs))
 rw [if_neg (bft ai)] at H
 refine Oe rfl <| Mv rfl <| Oe rfl <| Ols rfl <| Opk rfl <| Mv rfl <| X6 (dj := 11) rfl (fun aj => ?_) (fun aj => ?_)
 rw [if_pos aj] at H
 refine On rfl <| On rfl <| Opk rfl <| Zd (ad _ _ _ (T3 rfl) (ae true _ H hs))
 rw [if_neg aj] at H
 refine Oe rfl <| Mv rfl <| Oe rfl <| Ogt rfl <| Opk rfl <| Zd (ad _ _ _ (T3 rfl) (ae (decide (1114111 < x1)) _ H hs))

end Go.Proofs.YthoicbafdanmkaaGreatDoor
