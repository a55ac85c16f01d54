/- Texts of this repo, merged for the claim: TL0, Ins, TL1, TL2, TS0. -/
import Derived.Test.YthoicbafdanmkaaGreatDoorWhole1
import Derived.Test.YthoicbafdanmkaaGreatDoorWhole4
import Derived.Test.YthoicbafdanmkaaGreatDoorWhole3
/- Written by this repo's gen.py: for each Go function a Lean function with the same answers and the walk that shows it. -/
namespace Go.Proofs.YthoicbafdanmkaaGreatDoor
open Go.IntKind (i8 i16 i32 i64 u8 u16 u32 u64)
open Go.RowKit
set_option maxRecDepth 100000
set_option maxHeartbeats 4000000
variable {w0 w : World} {ρ : Hp} {Γ : List Q5}
set_option linter.unusedVariables false
def J9.j1 (aa : Bool) : Option Bool := some aa
def J9.f (x0 : List Int) : Option Bool := if 4 ≤ (x0.length : Int) then (if (0 : Int) ≤ 0 ∧ (0 : Int) ≤ 4 ∧ 4 ≤ (x0.length : Int) then (J9.j1 (decide ((runesBytes (sub x0 0 4)) = (⟨#[120, 110, 45, 45]⟩ : ByteArray)))) else none) else (J9.j1 false)
theorem J9.c (hs : St w0 ρ (Γ) w) {v0 : Value} {x0 : List Int} (h0 : SlR (Rep.int .i32) ρ v0 x0) {r : Bool} (H : J9.f x0 = some r) : Zn Tryz.prog 16 [v0] w (fun v w' => v = .bool r ∧ St w0 ρ Γ w') := by
 rw [J9.f] at H
 refine Et Tryz.func16 Tryz.ntmps16 rfl <| Wr fun ak af => As rfl <| Ox af <| Yu fun ag ah ad => ?_
 have ae : ∀ (aa : Bool) (w : World), J9.j1 aa = some r → St w0 ρ (Γ) w → ag [(2, .bool aa)] w := by
  intro aa w H hs
  rw [J9.j1] at H
  refine ah _ _ <| Zk ?_
  obtain rfl := Zz H
  exact r1 rfl ⟨rfl, hs⟩
 refine Zc <| Mv rfl <| O_y rfl (Yv V2 h0 rfl) <| Oge rfl <| Mv rfl <| X6 (dj := 6) rfl (fun ab => ?_) (fun ab => ?_)
 rw [if_pos ab] at H
 refine Oe rfl <| Mv rfl ?_
 obtain ⟨ac, H⟩ := gd H
 obtain ⟨al, ai, aj⟩ := h0.cut Q7 ac.1 ac.2.1 ac.2.2
 refine Oe rfl <| O_y rfl (aj rfl (.inl ⟨rfl, rfl⟩) (.inr ⟨_, _, rfl, rfl⟩)) <| Oe rfl <| O_y rfl (Zht V2 Za9 un9 hs ai rfl) <| Oe rfl <| O_y rfl (Zls rfl rfl) <| Opk rfl <| As rfl <| Zd (ad _ _ _ (S1 rfl) (ae (decide ((runesBytes (sub x0 0 4)) = (⟨#[120, 110, 45, 45]⟩ : ByteArray))) _ H hs))
 rw [if_neg ab] at H
 refine On rfl <| On rfl <| On rfl <| On rfl <| Opk rfl <| As rfl <| Zd (ad _ _ _ (S1 rfl) (ae false _ H hs))

def K8.f (x0 : Option Tbs) (x1 x2 : Int) : Option (Int × Bool) := if ((x0).isNone) = true then (some (0, false)) else (if x0.isSome = true then (some ((Vo (((x0).getD default).pairs) (#v[x1, x2])).getD 0, (Vo (((x0).getD default).pairs) (#v[x1, x2])).isSome)) else none)
theorem K8.c (hs : St w0 ρ (Γ) w) {v0 : Value} {x0 : Option Tbs} (h0 : Xs Hm ρ v0 x0) {x1 x2 : Int} {r : Int × Bool} (H : K8.f x0 x1 x2 = some r) : Zn Tryz.prog 164 [v0, .int .i32 x1, .int .i32 x2] w (fun v w' => v = .tuple #[.int .i32 r.1, .bool r.2] ∧ St w0 ρ Γ w') := by
 rw [K8.f] at H
 refine Et Tryz.func164 Tryz.ntmps164 rfl <| Wr fun ay af => As rfl <| As rfl <| Ox af <| Zh fun az ag => Wr fun a0 ah => Mv rfl <| O_y rfl ((h0.eqn Zl0 rfl rfl)) <| Ox ah <| Xg rfl (fun aa => ?_) (fun aa => ?_)
 rw [if_pos aa] at H
 refine Wr fun a1 ai => As rfl <| As rfl <| Ox ai <| Zk ?_
 obtain rfl := Zz H
 exact Zbs rfl rfl rfl ⟨rfl, hs⟩
 rw [if_neg (bft aa)] at H
 refine Wx ag <| Wr fun a2 aj => Mv rfl ?_
 obtain ⟨ak, H⟩ := gd H
 obtain ⟨a3, ab, al⟩ := h0.open ak
 obtain ⟨_, ⟨a4, a5, a6, a7, a8, a9, ba, bb, bc, bd, be, bf, bg, bh, bi, bj, bk, am, an, ao, ap, aq, rfl, bl, bm, bn, bo, bp, bq, br, bs, bt, bu, bv, bw, bx, bz, b0, b1, b2, ar, au, av, aw, ac⟩, ad⟩ := al
 refine O_y rfl (K1 (congrArg some ab)) <| Ofd Zmu rfl <| O_y rfl (Xp Zvh rfl (hs.see (ad 21 _ rfl))) <| Mv rfl <| Mv rfl <| O_y rfl (Ze0 (xs := [.tmp 17, .tmp 18]) (zs := vcs (Value.int .i32) #v[x1, x2]) Zpi Zf0 Zry rfl rfl rfl (Zcz rfl (Zcz rfl Zki)) rfl) <| O_y rfl (Zpw (m := ((x0).getD default).pairs) (x := #v[x1, x2]) (E := (Value.int .i32)) true Zu9 Uf trivial (fun _ _ => trivial) Zxk hs ac rfl rfl) <| Mv rfl <| Oxt rfl <| Oxt rfl <| As rfl <| As rfl <| Ox aj <| W.weak [(8, _), (9, _)] (T2 rfl) ?_
 refine Wr fun ax ae => Mv rfl <| Mv rfl <| As rfl <| As rfl <| Ox ae <| Zk ?_
 obtain rfl := Zz H
 exact Zbs rfl rfl rfl ⟨rfl, hs⟩

def Xf.j1 (x0 : Option Tbs) (x1 x2 : Int) (aa : Bool) : Option (Int × Bool) := if aa = true then (some (i32.wrap ((i32.wrap (x1 + x2)) - 4519), true)) else ((K8.f x0 x1 x2).bind fun ag => (some (ag.1, ag.2)))
def Xf.j2 (x0 : Option Tbs) (x1 x2 : Int) (ab : Bool) : Option (Int × Bool) := if ab = true then (some (i32.wrap (44032 + (i32.wrap ((i32.wrap ((i32.wrap ((i32.wrap ((i32.wrap (x1 - 4352)) * 21)) + x2)) - 4449)) * 28))), true)) else (if 44032 ≤ x1 then (if x1 < 55204 then (if ((i32.wrap (x1 - 44032)).tmod 28) = 0 then (if 4519 < x2 then (Xf.j1 x0 x1 x2 (decide (x2 < 4547))) else (Xf.j1 x0 x1 x2 false)) else (Xf.j1 x0 x1 x2 false)) else (Xf.j1 x0 x1 x2 false)) else (Xf.j1 x0 x1 x2 false))
def Xf.f (x0 : Option Tbs) (x1 x2 : Int) : Option (Int × Bool) := if 4352 ≤ x1 then (if x1 < 4371 then (if 4449 ≤ x2 then (Xf.j2 x0 x1 x2 (decide (x2 < 4470))) else (Xf.j2 x0 x1 x2 false)) else (Xf.j2 x0 x1 x2 false)) else (Xf.j2 x0 x1 x2 false)
theorem Xf.c (hs : St w0 ρ (Γ) w) {v0 : Value} {x0 : Option Tbs} (h0 : Xs Hm ρ v0 x0) {x1 x2 : Int} {r : Int × Bool} (H : Xf.f x0 x1 x2 = some r) : Zn Tryz.prog 134 [v0, .int .i32 x1, .int .i32 x2] w (fun v w' => v = .tuple #[.int .i32 r.1, .bool r.2] ∧ St w0 ρ Γ w') := by
 rw [Xf.f] at H
 refine Et Tryz.func134 Tryz.ntmps134 rfl <| Wr fun a2 ar => As rfl <| As rfl <| Ox ar <| Zh fun a3 au => Zj fun a4 a5 a6 => Yu fun av aw ae => ?_
 have af : ∀ (ab : Bool) (w : World), Xf.j2 x0 x1 x2 ab = some r → St w0 ρ (Γ) w → av [(0, v0), (1, .int .i32 x1), (2, .int .i32 x2), (8, .bool ab)] w := by
  intro ab w H hs
  rw [Xf.j2] at H
  refine aw _ _ <| Xg rfl (fun ah => ?_) (fun ah => ?_)
  rw [if_pos ah] at H
  refine Wr fun a7 ax => Mv rfl <| Osu rfl <| Oml rfl <| Mv rfl <| Oad rfl <| Osu rfl <| Oml rfl <| Oad rfl <| As rfl <| As rfl <| Ox ax <| Zk ?_
  obtain rfl := Zz H
  exact Zbs rfl rfl rfl ⟨rfl, hs⟩
  rw [if_neg (bft ah)] at H
  refine Yu fun ay az ac => ?_
  have ad : ∀ (aa : Bool) (w : World), Xf.j1 x0 x1 x2 aa = some r → St w0 ρ (Γ) w → ay [(0, v0), (1, .int .i32 x1), (2, .int .i32 x2), (31, .bool aa)] w := by
   intro aa w H hs
   rw [Xf.j1] at H
   refine az _ _ <| Xg rfl (fun ai => ?_) (fun ai => ?_)
   rw [if_pos ai] at H
   refine Wr fun a8 a0 => Mv rfl <| Mv rfl <| Oad rfl <| Osu rfl <| As rfl <| As rfl <| Ox a0 <| Zk ?_
   obtain rfl := Zz H
   exact Zbs rfl rfl rfl ⟨rfl, hs⟩
   rw [if_neg (bft ai)] at H
   refine Wx au <| Wr fun a9 a1 => Mv rfl <| Mv rfl <| Mv rfl ?_
   obtain ⟨ag, aj, H⟩ := bnd H
   refine Oc rfl (K8.c hs h0 aj) (fun ba w hpost => ?_)
   obtain ⟨rfl, hs⟩ := hpost
   refine Oxt rfl <| Oxt rfl <| As rfl <| As rfl <| Ox a1 <| Zk ?_
   obtain rfl := Zz H
   exact Zbs rfl rfl rfl ⟨rfl, hs⟩
  refine Zc <| Mv rfl <| Oge rfl <| Mv rfl <| X6 (dj := 34) rfl (fun ak => ?_) (fun ak => ?_)
  rw [if_pos ak] at H
  refine Oe rfl <| Mv rfl <| Oe rfl <| Ols rfl <| Opk rfl <| Mv rfl <| X6 (dj := 38) rfl (fun al => ?_) (fun al => ?_)
  rw [if_pos al] at H
  refine Oe rfl <| Mv rfl <| Oe rfl <| Osu rfl <| Oe rfl <| O_y rfl (Zjj rfl rfl (by decide)) <| Oe rfl <| Oeq rfl <| Opk rfl <| Mv rfl <| X6 (dj := 44) rfl (fun am => ?_) (fun am => ?_)
  rw [if_pos am] at H
  refine Oe rfl <| Mv rfl <| Oe rfl <| Ogt rfl <| Opk rfl <| Mv rfl <| X6 (dj := 48) rfl (fun an => ?_) (fun an => ?_)
  rw [if_pos an] at H
  refine Oe rfl <| Mv rfl <| Oe rfl <| Ols rfl <| Opk rfl <| As rfl <| Zd (ac _ _ _ (T4 rfl) (ad (decide (x2 < 4547)) _ H hs))
  rw [if_neg an] at H
  refine On rfl <| On rfl <| Opk rfl <| As rfl <| Zd (ac _ _ _ (T4 rfl) (ad false _ H hs))
  rw [if_neg am] at H
  refine On rfl <| On rfl <| Opk rfl <| Mv rfl <| On rfl <| On rfl <| Opk rfl <| As rfl <| Zd (ac _ _ _ (T4 rfl) (ad false _ H hs))
  rw [if_neg al] at H
  refine On rfl <| On rfl <| On rfl <| On rfl <| Opk rfl <| Mv rfl <| On rfl <| On rfl <| Opk rfl <| Mv rfl <| On rfl <| On rfl <| Opk rfl <| As rfl ?_
  exact Zd (ac _ _ _ (T4 rfl) (ad false _ H hs))
  rw [if_neg ak] at H
  refine On rfl <| On rfl <| Opk rfl <| Mv rfl <| On rfl <| On rfl <| On rfl <| On rfl <| Opk rfl <| Mv rfl <| On rfl <| On rfl <| Opk rfl <| Mv rfl ?_
  refine On rfl <| On rfl <| Opk rfl <| As rfl <| Zd (ac _ _ _ (T4 rfl) (ad false _ H hs))
 refine Zc <| Mv rfl <| Oge rfl <| Mv rfl <| X6 (dj := 11) rfl (fun ao => ?_) (fun ao => ?_)
 rw [if_pos ao] at H
 refine Oe rfl <| Mv rfl <| Oe rfl <| Ols rfl <| Opk rfl <| Mv rfl <| X6 (dj := 15) rfl (fun ap => ?_) (fun ap => ?_)
 rw [if_pos ap] at H
 refine Oe rfl <| Mv rfl <| Oe rfl <| Oge rfl <| Opk rfl <| Mv rfl <| X6 (dj := 19) rfl (fun aq => ?_) (fun aq => ?_)
 rw [if_pos aq] at H
 refine Oe rfl <| Mv rfl <| Oe rfl <| Ols rfl <| Opk rfl <| As rfl <| Zd (ae _ _ _ (T4 rfl) (af (decide (x2 < 4470)) _ H hs))
 rw [if_neg aq] at H
 refine On rfl <| On rfl <| Opk rfl <| As rfl <| Zd (ae _ _ _ (T4 rfl) (af false _ H hs))
 rw [if_neg ap] at H
 refine On rfl <| On rfl <| Opk rfl <| Mv rfl <| On rfl <| On rfl <| Opk rfl <| As rfl <| Zd (ae _ _ _ (T4 rfl) (af false _ H hs))
 rw [if_neg ao] at H
 refine On rfl <| On rfl <| Opk rfl <| Mv rfl <| On rfl <| On rfl <| Opk rfl <| Mv rfl <| On rfl <| On rfl <| Opk rfl <| As rfl <| Zd (ae _ _ _ (T4 rfl) (af false _ H hs))

def Zl.j1 (af : List Int → Int → Int → Int → Option (List Int)) (ab : Int) (ah : List Int) (au av : Int) : Option (List Int) := af ah au av (i64.wrap (ab + 1))
def Zl.j2 (af : List Int → Int → Int → Int → Option (List Int)) (x1 aa : List Int) (ab an ao : Int) : Option (List Int) := if aa.length + ([rd x1 ab]).length ≤ most then (Zl.j1 af ab (aa ++ ([rd x1 ab])) an ao) else none
def Zl.j3 (af : List Int → Int → Int → Int → Option (List Int)) (x1 aa : List Int) (ac ae ab ar : Int) : Option (List Int) := if ar = 0 then (Zl.j2 af x1 aa ab (aa.length : Int) 0) else (Zl.j2 af x1 aa ab ac (max ae ar))
def Zl.j4 (af : List Int → Int → Int → Int → Option (List Int)) (x0 : Option Tbs) (x1 aa : List Int) (ac ae ab ar : Int) (ak : Bool) : Option (List Int) := if ak = true then (if (0 : Int) ≤ ac ∧ ac < (aa.length : Int) then ((Xf.f x0 (rd aa ac) (rd x1 ab)).bind fun ax => (if ax.2 = true then (Zl.j1 af ab (aa.set ac.toNat ax.1) ac ae) else (Zl.j3 af x1 aa ac ae ab ar ))) else none) else (Zl.j3 af x1 aa ac ae ab ar )
def Zl.j5 (af : List Int → Int → Int → Int → Option (List Int)) (x0 : Option Tbs) (x1 aa : List Int) (ac ae ab ar : Int) (ap : Bool) : Option (List Int) := if 0 ≤ ac then (Zl.j4 af x0 x1 aa ac ae ab ar (!ap)) else (Zl.j4 af x0 x1 aa ac ae ab ar false)
def Zl.l1 : Nat → Option Tbs → List Int → List Int → Int → Int → Int → Option (List Int)
  | 0, _, _, _, _, _, _ => none
  | aj + 1, x0, x1, aa, ac, ae, ab => if ab < (x1.length : Int) then (if (0 : Int) ≤ ab ∧ ab < (x1.length : Int) then ((Qf.f x0 (rd x1 ab)).bind fun ar => (if 0 ≤ ac then (if ac < (i64.wrap ((aa.length : Int) - 1)) then (Zl.j5 (Zl.l1 aj x0 x1) x0 x1 aa ac ae ab ar (decide (ar ≤ ae))) else (Zl.j5 (Zl.l1 aj x0 x1) x0 x1 aa ac ae ab ar false)) else (Zl.j5 (Zl.l1 aj x0 x1) x0 x1 aa ac ae ab ar false))) else none) else (some aa)
def Zl.f (x0 : Option Tbs) (x1 : List Int) : Option (List Int) := Zl.l1 K0 x0 x1 ([] : List Int) (-1) 0 0
theorem Zl.c (hs : St w0 ρ (Γ) w) {v0 : Value} {x0 : Option Tbs} (h0 : Xs Hm ρ v0 x0) {v1 : Value} {x1 : List Int} (h1 : SlR (Rep.int .i32) ρ v1 x1) {r : List Int} (H : Zl.f x0 x1 = some r) : Zn Tryz.prog 79 [v0, v1] w (fun v w' => ∃ (ρ' : Hp) (v0 : Value) (cs0 : List Value), v = v0 ∧ Le ρ ρ' ∧ St w0 ρ' (.row v0 21 (Rep.int .i32).sz r.length cs0 :: Γ) w' ∧ Zm (Rep.int .i32) ρ' cs0 r) := by
 rw [Zl.f] at H
 refine Et Tryz.func79 Tryz.ntmps79 rfl <| Wr fun da b5 => As rfl <| Ox b5 <| Wr fun db b6 => As rfl ?_
 have hs := hs.rowNil 21 (Rep.int .i32).sz
 have b7 := Zm.nil (Rep.int .i32) ρ
 refine Ox b6 <| Wr fun dc b8 => As rfl <| As rfl <| Ox b8 <| Zh fun dd b9 => Wr fun de ca => Mv rfl <| O_y rfl (Yv V2 h1 rfl) <| Mv rfl <| Ox ca <| Zj fun df cb dg => ?_
 refine Y9 (σ := Nat × List Int × Int × Int × Int × Value × List Value) (fun (aj, aa, ac, ae, ab, ad, ag) => [(0, v0), (5, ad), (6, .int .i64 ac), (7, .int .i64 ae), (14, v1), (15, .int .i64 (x1.length : Int)), (16, .int .i64 ab)]) (fun (aj, aa, ac, ae, ab, ad, ag) w => Zl.l1 aj x0 x1 aa ac ae ab = some r ∧ St w0 ρ ((.row ad 21 ((Rep.int .i32).sz) aa.length ag) :: Γ) w ∧ Zm (Rep.int .i32) ρ ag aa) (fun s => s.1) (K0, ([] : List Int), (-1), 0, 0, (.slice none 0 0), ([])) sbn (Ai H (Ai hs b7)) ?_
 rintro ⟨aj, aa, ac, ae, ab, ad, ag⟩ w dh ⟨H, hs, ai⟩ a0
 show W _ _ _ _ _ _ [(0, v0), (5, ad), (6, .int .i64 ac), (7, .int .i64 ae), (14, v1), (15, .int .i64 (x1.length : Int)), (16, .int .i64 ab)] w
 cases aj with
 | zero => rw [Zl.l1] at H; cases H
 | succ aj =>
 rw [Zl.l1] at H
 refine Wr fun di cc => Ols rfl <| Ox cc <| Zh fun dk cd => Y7 rfl (fun bh => ?_) (fun bh => ?_)
 rw [if_pos bh] at H
 refine Wx cd <| Yu fun ce cf b0 => ?_
 have b1 : ∀ (ah : List Int) (au av : Int) (al : Value) (am : List Value) (w : World), Zl.j1 (Zl.l1 aj x0 x1) ab ah au av = some r → St w0 ρ ((.row al 21 ((Rep.int .i32).sz) ah.length am) :: Γ) w → Zm (Rep.int .i32) ρ am ah → ce [(0, v0), (5, al), (6, .int .i64 au), (7, .int .i64 av), (14, v1), (15, .int .i64 (x1.length : Int)), (16, .int .i64 ab)] w := by
  intro ah au av al am w H hs aw
  rw [Zl.j1] at H
  refine cf _ _ <| Zc <| Oad rfl <| Mv rfl <| Zd (a0 (aj, ah, au, av, (i64.wrap (ab + 1)), al, am) _ _ sbn (Ai H (Ai hs aw)) (Nat.lt_succ_self _))
 refine Zj fun dl cg dm => Zh fun dn ch => Zc ?_
 obtain ⟨b2, H⟩ := gd H
 obtain ⟨dp, dq, ci, cj⟩ := h1.ix Q7 b2.1 b2.2
 refine O_y rfl (cj rfl rfl) <| O_y rfl (Xp Xm rfl (hs.see ci.int)) <| As rfl <| Ox ch <| Wr fun dr ck => Mv rfl <| Mv rfl ?_
 obtain ⟨ar, bi, H⟩ := bnd H
 refine Oc rfl (Qf.c hs h0 bi) (fun ds w hpost => ?_)
 obtain ⟨rfl, hs⟩ := hpost
 refine As rfl <| Ox ck <| W.weak [(0, _), (5, _), (6, _), (7, _), (9, _), (10, _), (14, _), (15, _), (16, _)] sbn ?_
 refine Yu fun cl cm bj => ?_
 have bk : ∀ (ap : Bool) (w : World), Zl.j5 (Zl.l1 aj x0 x1) x0 x1 aa ac ae ab ar ap = some r → St w0 ρ ((.row ad 21 ((Rep.int .i32).sz) aa.length ag) :: Γ) w → cl [(0, v0), (5, ad), (6, .int .i64 ac), (7, .int .i64 ae), (9, .int .i32 (rd x1 ab)), (10, .int .i64 ar), (11, .bool ap), (14, v1), (15, .int .i64 (x1.length : Int)), (16, .int .i64 ab)] w := by
  intro ap w H hs
  rw [Zl.j5] at H
  refine cm _ _ <| Yu fun cn co b3 => ?_
  have a7 : ∀ (w : World), Zl.j3 (Zl.l1 aj x0 x1) x1 aa ac ae ab ar = some r → St w0 ρ ((.row ad 21 ((Rep.int .i32).sz) aa.length ag) :: Γ) w → cn [(0, v0), (5, ad), (6, .int .i64 ac), (7, .int .i64 ae), (9, .int .i32 (rd x1 ab)), (10, .int .i64 ar), (14, v1), (15, .int .i64 (x1.length : Int)), (16, .int .i64 ab)] w := by
   intro w H hs
   rw [Zl.j3] at H
   refine co _ _ <| Wr fun cp bl => Mv rfl <| Mv rfl <| O_y rfl (Zrj rfl rfl) <| As rfl <| Ox bl <| Yu fun bm bn a8 => ?_
   have a9 : ∀ (an ao : Int) (w : World), Zl.j2 (Zl.l1 aj x0 x1) x1 aa ab an ao = some r → St w0 ρ ((.row ad 21 ((Rep.int .i32).sz) aa.length ag) :: Γ) w → bm [(0, v0), (5, ad), (6, .int .i64 an), (7, .int .i64 ao), (9, .int .i32 (rd x1 ab)), (14, v1), (15, .int .i64 (x1.length : Int)), (16, .int .i64 ab)] w := by
    intro an ao w H hs
    rw [Zl.j2] at H
    refine bn _ _ <| Zc <| Mv rfl <| Mv rfl <| Ku (xs := [.tmp 66]) (cs := [.int .i32 (rd x1 ab)]) Q7 hs rfl rfl rfl (by decide) (by decide) rfl (Yc rfl Kb) (Zv rfl Xy) (fun cq w hs => ?_)
    have ba : Zm (Rep.int .i32) ρ ([.int .i32 (rd x1 ab)]) [rd x1 ab] := Zm.cons (c := [.int .i32 (rd x1 ab)]) (x := rd x1 ab) rfl (Zm.nil _ _)
    obtain ⟨bo, H⟩ := gd H
    refine Qt (i := 1) Q7 hs rfl ai rfl rfl rfl (Src.lit (j := 0) hs rfl ba) ba bo (fun bp bb w bq hs => As rfl <| Zd (b0 _ _ _ sbn (b1 (aa ++ ([rd x1 ab])) an ao bp bb _ H (hs.sub (ssk (ssc ssr))) bq)))
   refine Wr fun cr br => Mv rfl <| Oeq rfl <| Ox br <| Y7 rfl (fun a1 => ?_) (fun a1 => ?_)
   rw [if_pos a1] at H
   refine Zc <| Mv rfl <| O_y rfl (V8 (i := 0) V2 hs rfl rfl) <| As rfl <| As rfl <| Zd (a8 _ _ _ sbn (a9 (aa.length : Int) 0 _ H hs))
   rw [if_neg a1] at H
   exact Ua (a8 _ _ _ sbn (a9 ac (max ae ar) _ H hs))
  refine Yu fun bs bt bc => ?_
  have bd : ∀ (ak : Bool) (w : World), Zl.j4 (Zl.l1 aj x0 x1) x0 x1 aa ac ae ab ar ak = some r → St w0 ρ ((.row ad 21 ((Rep.int .i32).sz) aa.length ag) :: Γ) w → bs [(0, v0), (5, ad), (6, .int .i64 ac), (7, .int .i64 ae), (9, .int .i32 (rd x1 ab)), (10, .int .i64 ar), (14, v1), (15, .int .i64 (x1.length : Int)), (16, .int .i64 ab), (42, .bool ak)] w := by
   intro ak w H hs
   rw [Zl.j4] at H
   refine bt _ _ <| Xg rfl (fun a2 => ?_) (fun a2 => ?_)
   rw [if_pos a2] at H
   refine Wr fun ct bu => Mv rfl <| Mv rfl <| Mv rfl ?_
   obtain ⟨aq, H⟩ := gd H
   obtain ⟨cu, ay⟩ := hs.rowBlock (j := 0) rfl (by have := aq.2; omega)
   obtain ⟨_, rfl, be⟩ := ai.at aq.1 aq.2
   refine O_y rfl (Vm (j := 0) Q7 hs rfl ay rfl rfl aq.1 aq.2) <| O_y rfl (Xp Xm rfl (hs.rowCell (j := 0) rfl ay (be 0 _ rfl))) <| Mv rfl ?_
   obtain ⟨ax, bf, H⟩ := bnd H
   refine Oc rfl (Xf.c hs h0 bf) (fun cv w hpost => ?_)
   obtain ⟨rfl, hs⟩ := hpost
   refine Mv rfl <| Oxt rfl <| Oxt rfl <| As rfl <| As rfl <| Ox bu <| W.weak [(0, _), (5, _), (6, _), (7, _), (9, _), (10, _), (12, _), (13, _), (14, _), (15, _), (16, _)] sbn ?_
   refine Wr fun cw bv => Mv rfl <| Ox bv <| Xg rfl (fun a3 => ?_) (fun a3 => ?_)
   rw [if_pos a3] at H
   refine Wr fun cx bw => Mv rfl <| Mv rfl <| Mv rfl ?_
   obtain ⟨cy, az⟩ := hs.rowBlock (j := 0) rfl (by have := aq.2; omega)
   obtain ⟨_, rfl, b4⟩ := ai.at aq.1 aq.2
   refine O_y rfl (Vm (j := 0) Q7 hs rfl az rfl rfl aq.1 aq.2) <| Zaq (j := 0) Zf0 hs rfl az aq.1 aq.2 ai rfl rfl rfl (fun bg w bx hs => Ox bw <| W.weak [(0, _), (5, _), (6, _), (7, _), (14, _), (15, _), (16, _)] sbn ?_)
   exact Y4 (cg _ _ (b0 _ _ _ sbn (b1 (aa.set ac.toNat ax.1) ac ae ad bg _ H hs bx)))
   rw [if_neg (bft a3)] at H
   exact Ua (b3 _ _ _ sbn (a7 _ H hs))
   rw [if_neg (bft a2)] at H
   exact Ua (b3 _ _ _ sbn (a7 _ H hs))
  refine Zc <| Mv rfl <| Oge rfl <| Mv rfl <| X6 (dj := 39) rfl (fun a4 => ?_) (fun a4 => ?_)
  rw [if_pos a4] at H
  refine Oe rfl <| Mv rfl <| Oe rfl <| Ont rfl <| Opk rfl <| Zd (bc _ _ _ sbn (bd (!ap) _ H hs))
  rw [if_neg a4] at H
  refine On rfl <| On rfl <| Opk rfl <| Zd (bc _ _ _ sbn (bd false _ H hs))
 refine Zc <| Mv rfl <| Oge rfl <| Mv rfl <| X6 (dj := 25) rfl (fun a5 => ?_) (fun a5 => ?_)
 rw [if_pos a5] at H
 refine Oe rfl <| Mv rfl <| Oe rfl <| Mv rfl <| Oe rfl <| O_y rfl (V8 (i := 0) V2 hs rfl rfl) <| Oe rfl <| Osu rfl <| Oe rfl <| Ols rfl <| Opk rfl <| Mv rfl <| X6 (dj := 32) rfl (fun a6 => ?_) (fun a6 => ?_)
 rw [if_pos a6] at H
 refine Oe rfl <| Mv rfl <| Oe rfl <| Mv rfl <| Oe rfl <| Oge rfl <| Opk rfl <| As rfl <| Zd (bj _ _ _ sbn (bk (decide (ar ≤ ae)) _ H hs))
 rw [if_neg a6] at H
 refine On rfl <| On rfl <| On rfl <| Opk rfl <| As rfl <| Zd (bj _ _ _ sbn (bk false _ H hs))
 rw [if_neg a5] at H
 refine On rfl <| On rfl <| On rfl <| On rfl <| On rfl <| Opk rfl <| Mv rfl <| On rfl <| On rfl <| On rfl <| Opk rfl <| As rfl <| Zd (bj _ _ _ sbn (bk false _ H hs))
 rw [if_neg bh] at H
 refine Y4 (cb _ _ (b9 _ _ <| Wr fun cz bz => Mv rfl <| As rfl <| Ox bz <| Zk ?_))
 obtain rfl := Zz H
 exact r1 rfl ⟨_, _, _, rfl, Le.rfl' _, hs, ai⟩

def U7.f (x0 : Option Tbs) (x1 : List Int) : Option (List Int) := (Ut.f x0 x1).bind fun af => ((Zl.f x0 af).bind fun ag => (some ag))
theorem U7.c (hs : St w0 ρ (Γ) w) {v0 : Value} {x0 : Option Tbs} (h0 : Xs Hm ρ v0 x0) {v1 : Value} {x1 : List Int} (h1 : SlR (Rep.int .i32) ρ v1 x1) {r : List Int} (H : U7.f x0 x1 = some r) : Zn Tryz.prog 44 [v0, v1] w (fun v w' => ∃ (ρ' : Hp) (v0 : Value) (cs0 : List Value), v = v0 ∧ Le ρ ρ' ∧ St w0 ρ' (.row v0 21 (Rep.int .i32).sz r.length cs0 :: Γ) w' ∧ Zm (Rep.int .i32) ρ' cs0 r) := by
 rw [U7.f] at H
 refine Et Tryz.func44 Tryz.ntmps44 rfl <| Wr fun ao ah => As rfl <| Ox ah <| Wr fun ap ai => Mv rfl <| Mv rfl <| Mv rfl ?_
 obtain ⟨af, ac, H⟩ := bnd H
 refine Oc rfl (Ut.c hs h0 h1 ac) (fun aq w hpost => ?_)
 obtain ⟨ar, au, aj, rfl, aa, hs, ak⟩ := hpost
 obtain ⟨av, ab, hs, al⟩ := hs.rowEnd (j := 0) ak rfl
 obtain ⟨ag, ad, H⟩ := bnd H
 refine Oc rfl (Zl.c hs (h0.mono (aa.trans ab)) al ad) (fun aw w hpost => ?_)
 obtain ⟨ax, ay, am, rfl, ae, hs, an⟩ := hpost
 refine As rfl <| Ox ai <| Zk ?_
 obtain rfl := Zz H
 exact r1 rfl ⟨_, _, _, rfl, ((aa.trans ab).trans ae), hs, an⟩

def Xj.l1 : Nat → List Int → List Int → Int → Option Bool
  | 0, _, _, _ => none
  | ab + 1, x0, x1, aa => if aa < (x0.length : Int) then (if (0 : Int) ≤ aa ∧ aa < (x0.length : Int) then (if (0 : Int) ≤ aa ∧ aa < (x1.length : Int) then (if (rd x0 aa) ≠ (rd x1 aa) then (some false) else ((Xj.l1 ab x0 x1) (i64.wrap (aa + 1)))) else none) else none) else (some true)
def Xj.f (x0 x1 : List Int) : Option Bool := if (x0.length : Int) ≠ (x1.length : Int) then (some false) else (Xj.l1 K0 x0 x1 0)
theorem Xj.c (hs : St w0 ρ (Γ) w) {v0 : Value} {x0 : List Int} (h0 : SlR (Rep.int .i32) ρ v0 x0) {v1 : Value} {x1 : List Int} (h1 : SlR (Rep.int .i32) ρ v1 x1) {r : Bool} (H : Xj.f x0 x1 = some r) : Zn Tryz.prog 43 [v0, v1] w (fun v w' => v = .bool r ∧ St w0 ρ Γ w') := by
 rw [Xj.f] at H
 refine Et Tryz.func43 Tryz.ntmps43 rfl <| Wr fun a2 ai => As rfl <| Ox ai <| Zh fun a3 aj => Wr fun a4 ak => Mv rfl <| O_y rfl (Yv V2 h0 rfl) <| Mv rfl <| O_y rfl (Yv V2 h1 rfl) <| One rfl <| Zd (ak _ _ ?_)
 refine Y7 rfl (fun ad => ?_) (fun ad => ?_)
 rw [if_pos ad] at H
 refine Wr fun a5 al => As rfl <| Ox al <| Zk ?_
 obtain rfl := Zz H
 exact r1 rfl ⟨rfl, hs⟩
 rw [if_neg ad] at H
 refine Wx aj <| Zh fun a6 am => Wr fun a7 an => Mv rfl <| O_y rfl (Yv V2 h0 rfl) <| Mv rfl <| Ox an <| Zj fun a8 ao a9 => Y9 (σ := Nat × Int) (fun (ab, aa) => [(0, v0), (1, v1), (12, .int .i64 (x0.length : Int)), (13, .int .i64 aa)]) (fun (ab, aa) w => Xj.l1 ab x0 x1 aa = some r ∧ St w0 ρ (Γ) w) (fun s => s.1) (K0, 0) (T4 rfl) (Ai H hs) ?_
 rintro ⟨ab, aa⟩ w ba ⟨H, hs⟩ ac
 show W _ _ _ _ _ _ [(0, v0), (1, v1), (12, .int .i64 (x0.length : Int)), (13, .int .i64 aa)] w
 cases ab with
 | zero => rw [Xj.l1] at H; cases H
 | succ ab =>
 rw [Xj.l1] at H
 refine Wr fun bb ap => Ols rfl <| Ox ap <| Zh fun bc aq => Y7 rfl (fun ae => ?_) (fun ae => ?_)
 rw [if_pos ae] at H
 refine Wx aq <| Zh fun bd ar => Zj fun be bf bg => Wr fun bh au => Mv rfl <| As rfl <| Ox au <| Zh fun bi av => Qn 9 [0, 0, 3, 4, 0, 0, 48, 64, 136] [506, 505, 496, 240, 431, 415, 271, 15, 0] [0, 0, 3, 7, 0, 0, 48, 112, 255] [] (fun w => St w0 ρ (Γ) w) Vl (by kernel_rfl) (fun sh => ?_)
 have hs := hs.drew
 refine Fm 0 sh rfl <| Fm 1 sh rfl ?_
 obtain ⟨ag, H⟩ := gd H
 obtain ⟨bj, bk, aw, ax⟩ := h0.ix Q7 ag.1 ag.2
 refine Fp 2 sh rfl (fun w => ax rfl rfl) <| Fy 3 sh rfl hs (fun w hs => Xp Xm rfl (hs.see aw.int)) <| Fm 4 sh rfl <| Fm 5 sh rfl ?_
 obtain ⟨ah, H⟩ := gd H
 obtain ⟨bl, bm, ay, az⟩ := h1.ix Q7 ah.1 ah.2
 refine Fp 6 sh rfl (fun w => az rfl rfl) <| Fy 7 sh rfl hs (fun w hs => Xp Xm rfl (hs.see ay.int)) <| Fp 8 sh rfl (fun w => Zo1 rfl rfl) <| FE sh (av _ _ <| W.weak [(0, _), (1, _), (12, _), (13, _), (24, _)] sbn ?_)
 refine Y7 rfl (fun af => ?_) (fun af => ?_)
 rw [if_pos af] at H
 refine Wr fun bn a0 => As rfl <| Ox a0 <| Zk ?_
 obtain rfl := Zz H
 exact r1 rfl ⟨rfl, hs⟩
 rw [if_neg af] at H
 refine Wx ar <| Zc <| Oad rfl <| Mv rfl <| Zd (ac (ab, (i64.wrap (aa + 1))) _ _ (T4 rfl) (Ai H hs) (Nat.lt_succ_self _))
 rw [if_neg ae] at H
 refine Y4 (ao _ _ (am _ _ <| Wr fun bo a1 => As rfl <| Ox a1 <| Zk ?_))
 obtain rfl := Zz H
 exact r1 rfl ⟨rfl, hs⟩

def Hz.f (x0 : Option Tbs) (x1 : List Int) : Option Bool := (U7.f x0 x1).bind fun ae => ((Xj.f ae x1).bind fun af => (some af))
theorem Hz.c (hs : St w0 ρ (Γ) w) {v0 : Value} {x0 : Option Tbs} (h0 : Xs Hm ρ v0 x0) {v1 : Value} {x1 : List Int} (h1 : SlR (Rep.int .i32) ρ v1 x1) {r : Bool} (H : Hz.f x0 x1 = some r) : Zn Tryz.prog 23 [v0, v1] w (fun v w' => v = .bool r ∧ St w0 ρ Γ w') := by
 rw [Hz.f] at H
 refine Et Tryz.func23 Tryz.ntmps23 rfl <| Wr fun al ag => As rfl <| Ox ag <| Wr fun am ah => Mv rfl <| Mv rfl ?_
 obtain ⟨ae, ac, H⟩ := bnd H
 refine Oc rfl (U7.c hs h0 h1 ac) (fun an w hpost => ?_)
 obtain ⟨ao, ap, ai, rfl, aa, hs, aj⟩ := hpost
 refine Mv rfl ?_
 obtain ⟨aq, ab, hs, ak⟩ := hs.rowEnd (j := 0) aj rfl
 obtain ⟨af, ad, H⟩ := bnd H
 refine Oc rfl (Xj.c hs ak (h1.mono (aa.trans ab)) ad) (fun ar w hpost => ?_)
 obtain ⟨rfl, hs⟩ := hpost
 refine As rfl <| Ox ah <| Zk ?_
 obtain rfl := Zz H
 exact r1 rfl ⟨rfl, (hs.less (aa.trans ab))⟩

def Xh.f (x0 : Int) (x1 : Bool) (y1 : List Int) : Option (List Int) := if x1 = true then (if y1.length + ([x0]).length ≤ most then (some (y1 ++ ([x0]))) else none) else (some y1)
theorem Xh.c {pb0 : Nat} {w1 : Value} {d1 : List Value} {y1 : List Int} (hs : St w0 ρ ((.box pb0 56 ([w1])) :: (.row w1 3 ((Rep.int .i64).sz) y1.length d1) :: Γ) w) {x0 : Int} {x1 : Bool} (g1 : Zm (Rep.int .i64) ρ d1 y1) {r : List Int} (H : Xh.f x0 x1 y1 = some r) : Zn Tryz.prog 36 [.int .i64 x0, .bool x1, .pointer (some ⟨pb0, 0, none⟩)] w (fun v w' => ∃ (ρ' : Hp) (u0 : Value) (ds0 : List Value), v = .tuple #[] ∧ Le ρ ρ' ∧ St w0 ρ' ((.box pb0 56 ([u0])) :: (.row u0 3 ((Rep.int .i64).sz) r.length ds0) :: Γ) w' ∧ Zm (Rep.int .i64) ρ' ds0 r) := by
 rw [Xh.f] at H
 refine Et Tryz.func36 Tryz.ntmps36 rfl <| Wr fun ag ac => Mv rfl <| Ox ac <| Xg rfl (fun aa => ?_) (fun aa => ?_)
 rw [if_pos aa] at H
 refine Zc <| Obx 0 Zwi hs rfl <| Mv rfl <| Ku (xs := [.tmp 7]) (cs := [.int .i64 x0]) Zsk hs rfl rfl rfl (by decide) (by decide) rfl (Yc rfl Kb) (Zv rfl Xy) (fun ah w hs => ?_)
 have ab : Zm (Rep.int .i64) ρ ([.int .i64 x0]) [x0] := Zm.cons (c := [.int .i64 x0]) (x := x0) rfl (Zm.nil _ _)
 obtain ⟨ad, H⟩ := gd H
 refine Qt (i := 2) Zsk hs rfl g1 rfl rfl rfl (Src.lit (j := 0) hs rfl ab) ab ad (fun ai ae w af hs => Vu (i := 1) Zxq hs rfl rfl rfl rfl (St.rowOne hs (j := 2) rfl) (fun w hs => Zd ?_))
 obtain rfl := Zz H
 exact Zgj rfl ⟨_, _, _, rfl, Le.rfl' _, (hs.sub (ssk (ssc (ssc ssr)))), af⟩
 rw [if_neg (bft aa)] at H
 refine Ua ?_
 obtain rfl := Zz H
 exact Zgj rfl ⟨_, _, _, rfl, Le.rfl' _, hs, g1⟩

def Xc.l1 : Nat → List Int → Int → Int → Option Int
  | 0, _, _, _ => none
  | ab + 1, x0, x1, aa => if aa < (x0.length : Int) then (if (0 : Int) ≤ aa ∧ aa < (x0.length : Int) then (if x1 = (rd x0 aa) then (some aa) else ((Xc.l1 ab x0 x1) (i64.wrap (aa + 1)))) else none) else (some (-1))
def Xc.f (x0 : List Int) (x1 : Int) : Option Int := Xc.l1 K0 x0 x1 0
theorem Xc.c (hs : St w0 ρ (Γ) w) {v0 : Value} {x0 : List Int} (h0 : SlR (Rep.int .i32) ρ v0 x0) {x1 r : Int} (H : Xc.f x0 x1 = some r) : Zn Tryz.prog 35 [v0, .int .i32 x1] w (fun v w' => v = .int .i64 r ∧ St w0 ρ Γ w') := by
 rw [Xc.f] at H
 refine Et Tryz.func35 Tryz.ntmps35 rfl <| Wr fun av ag => As rfl <| Ox ag <| Zh fun aw ah => Wr fun ax ai => Mv rfl <| O_y rfl (Yv V2 h0 rfl) <| Mv rfl <| Ox ai <| Zj fun ay aj az => Y9 (σ := Nat × Int) (fun (ab, aa) => [(0, v0), (1, .int .i32 x1), (7, .int .i64 (x0.length : Int)), (8, .int .i64 aa)]) (fun (ab, aa) w => Xc.l1 ab x0 x1 aa = some r ∧ St w0 ρ (Γ) w) (fun s => s.1) (K0, 0) (T4 rfl) (Ai H hs) ?_
 rintro ⟨ab, aa⟩ w a0 ⟨H, hs⟩ ac
 show W _ _ _ _ _ _ [(0, v0), (1, .int .i32 x1), (7, .int .i64 (x0.length : Int)), (8, .int .i64 aa)] w
 cases ab with
 | zero => rw [Xc.l1] at H; cases H
 | succ ab =>
 rw [Xc.l1] at H
 refine Wr fun a1 ak => Ols rfl <| Ox ak <| Zh fun a2 al => Y7 rfl (fun ad => ?_) (fun ad => ?_)
 rw [if_pos ad] at H
 refine Wx al <| Zh fun a3 am => Zj fun a4 a5 a6 => Wr fun a7 an => Mv rfl <| As rfl <| Ox an <| Wr fun a8 ao => Mv rfl <| Mv rfl <| Mv rfl ?_
 obtain ⟨af, H⟩ := gd H
 obtain ⟨a9, ba, ap, aq⟩ := h0.ix Q7 af.1 af.2
 refine O_y rfl (aq rfl rfl) <| O_y rfl (Xp Xm rfl (hs.see ap.int)) <| Oeq rfl <| Ox ao <| Y7 rfl (fun ae => ?_) (fun ae => ?_)
 rw [if_pos ae] at H
 refine Wr fun bb ar => Mv rfl <| As rfl <| Ox ar <| W.weak [(4, _)] (S1 rfl) <| Zk ?_
 obtain rfl := Zz H
 exact r1 rfl ⟨rfl, hs⟩
 rw [if_neg ae] at H
 refine Wx am <| Zc <| Oad rfl <| Mv rfl <| Zd (ac (ab, (i64.wrap (aa + 1))) _ _ (T4 rfl) (Ai H hs) (Nat.lt_succ_self _))
 rw [if_neg ad] at H
 refine Y4 (aj _ _ (ah _ _ <| Wr fun bc au => As rfl <| Ox au <| Zk ?_))
 obtain rfl := Zz H
 exact r1 rfl ⟨rfl, hs⟩

def Kt.f (x0 : List Int) (x1 : Int) : Option Bool := (Xc.f x0 x1).bind fun ab => (some (decide (0 ≤ ab)))
theorem Kt.c (hs : St w0 ρ (Γ) w) {v0 : Value} {x0 : List Int} (h0 : SlR (Rep.int .i32) ρ v0 x0) {x1 : Int} {r : Bool} (H : Kt.f x0 x1 = some r) : Zn Tryz.prog 37 [v0, .int .i32 x1] w (fun v w' => v = .bool r ∧ St w0 ρ Γ w') := by
 rw [Kt.f] at H
 refine Et Tryz.func37 Tryz.ntmps37 rfl <| Wr fun ae ac => As rfl <| Ox ac <| Wr fun af ad => Mv rfl <| Mv rfl ?_
 obtain ⟨ab, aa, H⟩ := bnd H
 refine Oc rfl (Xc.c hs h0 aa) (fun ag w hpost => ?_)
 obtain ⟨rfl, hs⟩ := hpost
 refine Oge rfl <| As rfl <| Ox ad <| Zk ?_
 obtain rfl := Zz H
 exact r1 rfl ⟨rfl, hs⟩

def Qs.j1 (aa : Bool) : Option Bool := some aa
def Qs.f (x0 : Option Tbs) (x1 : Int) : Option Bool := if ((x0).isSome) = true then (if x0.isSome = true then ((Z1.f (((x0).getD default).mark) x1).bind fun ab => (Qs.j1 (decide (ab = 1)))) else none) else (Qs.j1 false)
theorem Qs.c (hs : St w0 ρ (Γ) w) {v0 : Value} {x0 : Option Tbs} (h0 : Xs Hm ρ v0 x0) {x1 : Int} {r : Bool} (H : Qs.f x0 x1 = some r) : Zn Tryz.prog 38 [v0, .int .i32 x1] w (fun v w' => v = .bool r ∧ St w0 ρ Γ w') := by
 rw [Qs.f] at H
 refine Et Tryz.func38 Tryz.ntmps38 rfl <| Wr fun ax ai => As rfl <| Ox ai <| Yu fun aj ak ag => ?_
 have ah : ∀ (aa : Bool) (w : World), Qs.j1 aa = some r → St w0 ρ (Γ) w → aj [(4, .bool aa)] w := by
  intro aa w H hs
  rw [Qs.j1] at H
  refine ak _ _ <| Zk ?_
  obtain rfl := Zz H
  exact r1 rfl ⟨rfl, hs⟩
 refine Zc <| Mv rfl <| O_y rfl ((h0.nen Zl0 rfl rfl)) <| Mv rfl <| U8 (dj := 7) rfl (fun ad => ?_) (fun ad => ?_)
 rw [if_pos ad] at H
 refine Oe rfl <| Mv rfl ?_
 obtain ⟨al, H⟩ := gd H
 obtain ⟨ay, ae, am⟩ := h0.open al
 obtain ⟨_, ⟨az, a0, a1, a2, a3, a4, a5, a6, a7, a8, a9, ba, bb, bc, bd, be, bf, bg, bh, an, ao, ap, rfl, bi, bj, bk, bl, bm, bn, bo, bp, bq, br, bs, bt, bu, bv, bw, bx, bz, aq, b0, ar, au, av⟩, af⟩ := am
 refine Oe rfl <| O_y rfl (K1 (congrArg some ae)) <| Oe rfl <| Ofd Zty rfl <| Oe rfl <| O_y rfl (Xp Zcc rfl (hs.see (af 17 _ rfl))) <| Oe rfl <| Mv rfl <| Oe rfl ?_
 obtain ⟨ab, ac, H⟩ := bnd H
 refine Oc rfl (Z1.c hs aq ac) (fun aw w hpost => ?_)
 obtain ⟨rfl, hs⟩ := hpost
 refine Oe rfl <| Oeq rfl <| Opk rfl <| As rfl <| Zd (ag _ _ _ (S1 rfl) (ah (decide (ab = 1)) _ H hs))
 rw [if_neg (bft ad)] at H
 refine On rfl <| On rfl <| On rfl <| On rfl <| On rfl <| On rfl <| On rfl <| Opk rfl <| As rfl <| Zd (ag _ _ _ (S1 rfl) (ah false _ H hs))

def Qy.f (x0 : Option Tbs) (x1 : Int) : Option Int := if ((x0).isNone) = true then (some 0) else (if x0.isSome = true then ((Z1.f (((x0).getD default).maps) x1).bind fun ab => (if 0 < ab then (some 4) else ((Z1.f (((x0).getD default).status) x1).bind fun ac => (some ac)))) else none)
theorem Qy.c (hs : St w0 ρ (Γ) w) {v0 : Value} {x0 : Option Tbs} (h0 : Xs Hm ρ v0 x0) {x1 r : Int} (H : Qy.f x0 x1 = some r) : Zn Tryz.prog 42 [v0, .int .i32 x1] w (fun v w' => v = .int .i64 r ∧ St w0 ρ Γ w') := by
 rw [Qy.f] at H
 refine Et Tryz.func42 Tryz.ntmps42 rfl <| Wr fun cn aq => As rfl <| Ox aq <| Zh fun co ar => Zj fun cp cq cr => Wr fun cs au => Mv rfl <| O_y rfl ((h0.eqn Zl0 rfl rfl)) <| As rfl <| Ox au <| Xg rfl (fun ag => ?_) (fun ag => ?_)
 rw [if_pos ag] at H
 refine Wr fun ct av => As rfl <| Ox av <| Zk ?_
 obtain rfl := Zz H
 exact r1 rfl ⟨rfl, hs⟩
 rw [if_neg (bft ag)] at H
 refine Wr fun cu aw => Mv rfl ?_
 obtain ⟨ap, H⟩ := gd H
 obtain ⟨cv, ah, ax⟩ := h0.open ap
 obtain ⟨_, ⟨cw, cx, cy, cz, da, db, dc, dd, de, df, dg, dh, di, dj, dk, dl, ay, az, a0, a1, a2, a3, rfl, dm, dn, dp, dq, dr, ds, dt, du, dv, dw, dx, dy, dz, ea, eb, a4, a5, a6, ai, a7, a8, a9⟩, aj⟩ := ax
 refine O_y rfl (K1 (congrArg some ah)) <| Ofd Zos rfl <| O_y rfl (Xp Zcc rfl (hs.see (aj 18 _ rfl))) <| Mv rfl ?_
 obtain ⟨ab, ad, H⟩ := bnd H
 refine Oc rfl (Z1.c hs ai ad) (fun ba w hpost => ?_)
 obtain ⟨rfl, hs⟩ := hpost
 refine Ogt rfl <| As rfl <| Ox aw <| Y7 rfl (fun aa => ?_) (fun aa => ?_)
 rw [if_pos aa] at H
 refine Wr fun bb ak => As rfl <| Ox ak <| Zk ?_
 obtain rfl := Zz H
 exact r1 rfl ⟨rfl, hs⟩
 rw [if_neg aa] at H
 refine Wx ar <| Wr fun bc al => Mv rfl ?_
 obtain ⟨bd, ae, am⟩ := h0.open ap
 obtain ⟨_, ⟨be, bf, bg, bh, bi, bj, bk, bl, bm, bn, bo, bp, bq, br, bs, bt, bu, bv, bw, bx, bz, b0, rfl, b1, b2, b3, b4, b5, b6, b7, b8, b9, ca, cb, an, cc, cd, ce, cf, cg, ch, ci, cj, ck, cl⟩, ao⟩ := am
 refine O_y rfl (K1 (congrArg some ae)) <| Ofd Zun rfl <| O_y rfl (Xp Zcc rfl (hs.see (ao 11 _ rfl))) <| Mv rfl ?_
 obtain ⟨ac, af, H⟩ := bnd H
 refine Oc rfl (Z1.c hs an af) (fun cm w hpost => ?_)
 obtain ⟨rfl, hs⟩ := hpost
 refine As rfl <| Ox al <| W.weak [(4, _)] (S1 rfl) <| Zk ?_
 obtain rfl := Zz H
 exact r1 rfl ⟨rfl, hs⟩

def X5.j1 (aa : Bool) : Option Bool := some aa
def X5.f (x0 : Option Tbs) (x1 : Int) : Option Bool := (Qy.f x0 x1).bind fun ab => (if ab = 1 then (X5.j1 true) else (X5.j1 (decide (ab = 3))))
theorem X5.c (hs : St w0 ρ (Γ) w) {v0 : Value} {x0 : Option Tbs} (h0 : Xs Hm ρ v0 x0) {x1 : Int} {r : Bool} (H : X5.f x0 x1 = some r) : Zn Tryz.prog 22 [v0, .int .i32 x1] w (fun v w' => v = .bool r ∧ St w0 ρ Γ w') := by
 rw [X5.f] at H
 refine Et Tryz.func22 Tryz.ntmps22 rfl <| Wr fun ak ag => As rfl <| Ox ag <| Wr fun al ah => Mv rfl <| Mv rfl ?_
 obtain ⟨ab, ac, H⟩ := bnd H
 refine Oc rfl (Qy.c hs h0 ac) (fun am w hpost => ?_)
 obtain ⟨rfl, hs⟩ := hpost
 refine As rfl <| Ox ah <| Yu fun ai aj ae => ?_
 have af : ∀ (aa : Bool) (w : World), X5.j1 aa = some r → St w0 ρ (Γ) w → ai [(4, .bool aa)] w := by
  intro aa w H hs
  rw [X5.j1] at H
  refine aj _ _ <| Zk ?_
  obtain rfl := Zz H
  exact r1 rfl ⟨rfl, hs⟩
 refine Zc <| Mv rfl <| Oeq rfl <| Mv rfl <| X6 (dj := 11) rfl (fun ad => ?_) (fun ad => ?_)
 rw [if_pos ad] at H
 refine On rfl <| On rfl <| Opk rfl <| As rfl <| Zd (ae _ _ _ (S1 rfl) (af true _ H hs))
 rw [if_neg ad] at H
 refine Oe rfl <| Mv rfl <| Oe rfl <| Oeq rfl <| Opk rfl <| As rfl <| Zd (ae _ _ _ (S1 rfl) (af (decide (ab = 3)) _ H hs))

def Ub.f (x0 : Int) (y0_0 : Option Tbs) : Option Bool := (X5.f y0_0 x0).bind fun ab => (some (!ab))
theorem Ub.c {pb0 : Nat} {w0_0 : Value} {y0_0 : Option Tbs} (hs : St w0 ρ ((.box pb0 29 ([w0_0])) :: Γ) w) {x0 : Int} (g0_0 : Xs Hm ρ w0_0 y0_0) {r : Bool} (H : Ub.f x0 y0_0 = some r) : Zn Tryz.prog 40 [.int .i32 x0, .pointer (some ⟨pb0, 0, none⟩)] w (fun v w' => v = .bool r ∧ St w0 ρ ((.box pb0 29 ([w0_0])) :: Γ) w') := by
 rw [Ub.f] at H
 refine Et Tryz.func40 Tryz.ntmps40 rfl <| Wr fun ae ac => As rfl <| Ox ac <| Wr fun af ad => Obx 0 Znx hs rfl <| Mv rfl ?_
 obtain ⟨ab, aa, H⟩ := bnd H
 refine Oc rfl (X5.c hs g0_0 aa) (fun ag w hpost => ?_)
 obtain ⟨rfl, hs⟩ := hpost
 refine Ont rfl <| As rfl <| Ox ad <| Zk ?_
 obtain rfl := Zz H
 exact r1 rfl ⟨rfl, hs⟩

def Ym.l1 : Nat → Option Tbs → List Int → Int → Option Int
  | 0, _, _, _ => none
  | ab + 1, y0_0, x0, aa => if aa < (x0.length : Int) then (if (0 : Int) ≤ aa ∧ aa < (x0.length : Int) then ((Ub.f (rd x0 aa) y0_0).bind fun ag => (if ag = true then (some aa) else ((Ym.l1 ab y0_0 x0) (i64.wrap (aa + 1))))) else none) else (some (-1))
def Ym.f (x0 : List Int) (y0_0 : Option Tbs) : Option Int := Ym.l1 K0 y0_0 x0 0
theorem Ym.c {pb0 : Nat} {w0_0 : Value} {y0_0 : Option Tbs} (hs : St w0 ρ ((.box pb0 29 ([w0_0])) :: Γ) w) {v0 : Value} {x0 : List Int} (h0 : SlR (Rep.int .i32) ρ v0 x0) (g0_0 : Xs Hm ρ w0_0 y0_0) {r : Int} (H : Ym.f x0 y0_0 = some r) : Zn Tryz.prog 77 [v0, .func (.func 40) #[] #[.pointer (some ⟨pb0, 0, none⟩)]] w (fun v w' => v = .int .i64 r ∧ St w0 ρ ((.box pb0 29 ([w0_0])) :: Γ) w') := by
 rw [Ym.f] at H
 refine Et Tryz.func77 Tryz.ntmps77 rfl <| Wr fun ax ai => As rfl <| Ox ai <| Zh fun ay aj => Wr fun az ak => Mv rfl <| O_y rfl (Yv V2 h0 rfl) <| Mv rfl <| Ox ak <| Zj fun a0 al a1 => Y9 (σ := Nat × Int) (fun (ab, aa) => [(0, v0), (1, .func (.func 40) #[] #[.pointer (some ⟨pb0, 0, none⟩)]), (7, .int .i64 (x0.length : Int)), (8, .int .i64 aa)]) (fun (ab, aa) w => Ym.l1 ab y0_0 x0 aa = some r ∧ St w0 ρ ((.box pb0 29 ([w0_0])) :: Γ) w) (fun s => s.1) (K0, 0) (T4 rfl) (Ai H hs) ?_
 rintro ⟨ab, aa⟩ w a2 ⟨H, hs⟩ ac
 show W _ _ _ _ _ _ [(0, v0), (1, .func (.func 40) #[] #[.pointer (some ⟨pb0, 0, none⟩)]), (7, .int .i64 (x0.length : Int)), (8, .int .i64 aa)] w
 cases ab with
 | zero => rw [Ym.l1] at H; cases H
 | succ ab =>
 rw [Ym.l1] at H
 refine Wr fun a3 am => Ols rfl <| Ox am <| Zh fun a4 an => Y7 rfl (fun ad => ?_) (fun ad => ?_)
 rw [if_pos ad] at H
 refine Wx an <| Zh fun a5 ao => Zj fun a6 a7 a8 => Wr fun a9 ap => Mv rfl <| As rfl <| Ox ap <| Wr fun ba aq => Mv rfl <| Mv rfl <| Mv rfl ?_
 obtain ⟨ah, H⟩ := gd H
 obtain ⟨bb, bc, ar, au⟩ := h0.ix Q7 ah.1 ah.2
 refine O_y rfl (au rfl rfl) <| O_y rfl (Xp Xm rfl (hs.see ar.int)) ?_
 obtain ⟨ag, ae, H⟩ := bnd H
 refine Xo rfl rfl rfl (Ub.c hs g0_0 ae) (fun bd w hpost => ?_)
 obtain ⟨rfl, hs⟩ := hpost
 refine Ox aq <| Xg rfl (fun af => ?_) (fun af => ?_)
 rw [if_pos af] at H
 refine Wr fun be av => Mv rfl <| As rfl <| Ox av <| W.weak [(4, _)] (S1 rfl) <| Zk ?_
 obtain rfl := Zz H
 exact r1 rfl ⟨rfl, hs⟩
 rw [if_neg (bft af)] at H
 refine Wx ao <| Zc <| Oad rfl <| Mv rfl <| Zd (ac (ab, (i64.wrap (aa + 1))) _ _ (T4 rfl) (Ai H hs) (Nat.lt_succ_self _))
 rw [if_neg ad] at H
 refine Y4 (al _ _ (aj _ _ <| Wr fun bf aw => As rfl <| Ox aw <| Zk ?_))
 obtain rfl := Zz H
 exact r1 rfl ⟨rfl, hs⟩

def Qj.f (x0 : List Int) (y0_0 : Option Tbs) : Option Bool := (Ym.f x0 y0_0).bind fun ab => (some (decide (0 ≤ ab)))
theorem Qj.c {pb0 : Nat} {w0_0 : Value} {y0_0 : Option Tbs} (hs : St w0 ρ ((.box pb0 29 ([w0_0])) :: Γ) w) {v0 : Value} {x0 : List Int} (h0 : SlR (Rep.int .i32) ρ v0 x0) (g0_0 : Xs Hm ρ w0_0 y0_0) {r : Bool} (H : Qj.f x0 y0_0 = some r) : Zn Tryz.prog 39 [v0, .func (.func 40) #[] #[.pointer (some ⟨pb0, 0, none⟩)]] w (fun v w' => v = .bool r ∧ St w0 ρ ((.box pb0 29 ([w0_0])) :: Γ) w') := by
 rw [Qj.f] at H
 refine Et Tryz.func39 Tryz.ntmps39 rfl <| Wr fun ae ac => As rfl <| Ox ac <| Wr fun af ad => Mv rfl <| Mv rfl ?_
 obtain ⟨ab, aa, H⟩ := bnd H
 refine Oc rfl (Ym.c hs h0 g0_0 aa) (fun ag w hpost => ?_)
 obtain ⟨rfl, hs⟩ := hpost
 refine Oge rfl <| As rfl <| Ox ad <| Zk ?_
 obtain rfl := Zz H
 exact r1 rfl ⟨rfl, hs⟩

def K7.j1 (aa : Bool) : Option Bool := some aa
def K7.f (x0 : Int) : Option Bool := if x0 = 8204 then (K7.j1 true) else (K7.j1 (decide (x0 = 8205)))
theorem K7.c (hs : St w0 ρ (Γ) w) {x0 : Int} {r : Bool} (H : K7.f x0 = some r) : Zn Tryz.prog 129 [.int .i32 x0] w (fun v w' => v = .bool r ∧ St w0 ρ Γ w') := by
 rw [K7.f] at H
 refine Et Tryz.func129 Tryz.ntmps129 rfl <| Wr fun ah ae => As rfl <| Ox ae <| Yu fun af ag ac => ?_
 have ad : ∀ (aa : Bool) (w : World), K7.j1 aa = some r → St w0 ρ (Γ) w → af [(2, .bool aa)] w := by
  intro aa w H hs
  rw [K7.j1] at H
  refine ag _ _ <| Zk ?_
  obtain rfl := Zz H
  exact r1 rfl ⟨rfl, hs⟩
 refine Zc <| Mv rfl <| Oeq rfl <| Mv rfl <| X6 (dj := 5) rfl (fun ab => ?_) (fun ab => ?_)
 rw [if_pos ab] at H
 refine On rfl <| On rfl <| Opk rfl <| As rfl <| Zd (ac _ _ _ (S1 rfl) (ad true _ H hs))
 rw [if_neg ab] at H
 refine Oe rfl <| Mv rfl <| Oe rfl <| Oeq rfl <| Opk rfl <| As rfl <| Zd (ac _ _ _ (S1 rfl) (ad (decide (x0 = 8205)) _ H hs))

def Hn.f (x0 : Option Tbs) (x1 : Int) : Option Bool := (Qf.f x0 x1).bind fun ab => (some (decide (ab = 9)))
theorem Hn.c (hs : St w0 ρ (Γ) w) {v0 : Value} {x0 : Option Tbs} (h0 : Xs Hm ρ v0 x0) {x1 : Int} {r : Bool} (H : Hn.f x0 x1 = some r) : Zn Tryz.prog 130 [v0, .int .i32 x1] w (fun v w' => v = .bool r ∧ St w0 ρ Γ w') := by
 rw [Hn.f] at H
 refine Et Tryz.func130 Tryz.ntmps130 rfl <| Wr fun ae ac => As rfl <| Ox ac <| Wr fun af ad => Mv rfl <| Mv rfl ?_
 obtain ⟨ab, aa, H⟩ := bnd H
 refine Oc rfl (Qf.c hs h0 aa) (fun ag w hpost => ?_)
 obtain ⟨rfl, hs⟩ := hpost
 refine Oeq rfl <| As rfl <| Ox ad <| Zk ?_
 obtain rfl := Zz H
 exact r1 rfl ⟨rfl, hs⟩

def J5.f (x0 : Option Tbs) (x1 : Int) : Option Int := if ((x0).isNone) = true then (some 0) else (if x0.isSome = true then ((Z1.f (((x0).getD default).join) x1).bind fun aa => (some aa)) else none)
theorem J5.c (hs : St w0 ρ (Γ) w) {v0 : Value} {x0 : Option Tbs} (h0 : Xs Hm ρ v0 x0) {x1 r : Int} (H : J5.f x0 x1 = some r) : Zn Tryz.prog 163 [v0, .int .i32 x1] w (fun v w' => v = .int .i64 r ∧ St w0 ρ Γ w') := by
 rw [J5.f] at H
 refine Et Tryz.func163 Tryz.ntmps163 rfl <| Wr fun a0 af => As rfl <| Ox af <| Zh fun a1 ag => Wr fun a2 ah => Mv rfl <| O_y rfl ((h0.eqn Zl0 rfl rfl)) <| Ox ah <| Xg rfl (fun ac => ?_) (fun ac => ?_)
 rw [if_pos ac] at H
 refine Wr fun a3 ai => As rfl <| Ox ai <| Zk ?_
 obtain rfl := Zz H
 exact r1 rfl ⟨rfl, hs⟩
 rw [if_neg (bft ac)] at H
 refine Wx ag <| Wr fun a4 aj => Mv rfl ?_
 obtain ⟨ak, H⟩ := gd H
 obtain ⟨a5, ad, al⟩ := h0.open ak
 obtain ⟨_, ⟨a6, a7, a8, a9, ba, bb, bc, bd, be, bf, bg, bh, bi, bj, bk, bl, bm, am, an, ao, ap, aq, rfl, bn, bo, bp, bq, br, bs, bt, bu, bv, bw, bx, bz, b0, b1, ar, b2, b3, au, av, aw, ax, ay⟩, ae⟩ := al
 refine O_y rfl (K1 (congrArg some ad)) <| Ofd Zup rfl <| O_y rfl (Xp Zcc rfl (hs.see (ae 14 _ rfl))) <| Mv rfl ?_
 obtain ⟨aa, ab, H⟩ := bnd H
 refine Oc rfl (Z1.c hs ar ab) (fun az w hpost => ?_)
 obtain ⟨rfl, hs⟩ := hpost
 refine As rfl <| Ox aj <| Zk ?_
 obtain rfl := Zz H
 exact r1 rfl ⟨rfl, hs⟩

def Vj.l1 : Nat → Option Tbs → List Int → Int → Option Int
  | 0, _, _, _ => none
  | ab + 1, x0, x1, aa => if 0 ≤ aa then (if (0 : Int) ≤ aa ∧ aa < (x1.length : Int) then ((J5.f x0 (rd x1 aa)).bind fun ad => (if ad ≠ 4 then (some ad) else ((Vj.l1 ab x0 x1) (i64.wrap (aa - 1))))) else none) else (some 0)
def Vj.f (x0 : Option Tbs) (x1 : List Int) (x2 : Int) : Option Int := Vj.l1 K0 x0 x1 (i64.wrap (x2 - 1))
theorem Vj.c (hs : St w0 ρ (Γ) w) {v0 : Value} {x0 : Option Tbs} (h0 : Xs Hm ρ v0 x0) {v1 : Value} {x1 : List Int} (h1 : SlR (Rep.int .i32) ρ v1 x1) {x2 r : Int} (H : Vj.f x0 x1 x2 = some r) : Zn Tryz.prog 131 [v0, v1, .int .i64 x2] w (fun v w' => v = .int .i64 r ∧ St w0 ρ Γ w') := by
 rw [Vj.f] at H
 refine Et Tryz.func131 Tryz.ntmps131 rfl <| Wr fun ax ai => As rfl <| Ox ai <| Zh fun ay aj => Wr fun az ak => Mv rfl <| Osu rfl <| As rfl <| Ox ak <| Zj fun a0 al a1 => Y9 (σ := Nat × Int) (fun (ab, aa) => [(0, v0), (1, v1), (2, .int .i64 aa)]) (fun (ab, aa) w => Vj.l1 ab x0 x1 aa = some r ∧ St w0 ρ (Γ) w) (fun s => s.1) (K0, (i64.wrap (x2 - 1))) (T3 rfl) (Ai H hs) ?_
 rintro ⟨ab, aa⟩ w a2 ⟨H, hs⟩ ac
 show W _ _ _ _ _ _ [(0, v0), (1, v1), (2, .int .i64 aa)] w
 cases ab with
 | zero => rw [Vj.l1] at H; cases H
 | succ ab =>
 rw [Vj.l1] at H
 refine Zh fun a3 am => Wr fun a4 an => Mv rfl <| Oge rfl <| Ox an <| Y7 rfl (fun ae => ?_) (fun ae => ?_)
 rw [if_pos ae] at H
 refine Wx am <| Zh fun a5 ao => Zj fun a6 a7 a8 => Wr fun a9 ap => Mv rfl <| Mv rfl <| Mv rfl ?_
 obtain ⟨ah, H⟩ := gd H
 obtain ⟨ba, bb, aq, ar⟩ := h1.ix Q7 ah.1 ah.2
 refine O_y rfl (ar rfl rfl) <| O_y rfl (Xp Xm rfl (hs.see aq.int)) ?_
 obtain ⟨ad, af, H⟩ := bnd H
 refine Oc rfl (J5.c hs h0 af) (fun bc w hpost => ?_)
 obtain ⟨rfl, hs⟩ := hpost
 refine As rfl <| Ox ap <| Wr fun bd au => Mv rfl <| One rfl <| Ox au <| Y7 rfl (fun ag => ?_) (fun ag => ?_)
 rw [if_pos ag] at H
 refine Wr fun be av => Mv rfl <| As rfl <| Ox av <| W.weak [(6, _)] (S1 rfl) <| Zk ?_
 obtain rfl := Zz H
 exact r1 rfl ⟨rfl, hs⟩
 rw [if_neg ag] at H
 refine Wx ao <| Zc <| Mv rfl <| Osu rfl <| As rfl <| Zd (ac (ab, (i64.wrap (aa - 1))) _ _ (T3 rfl) (Ai H hs) (Nat.lt_succ_self _))
 rw [if_neg ae] at H
 refine Y4 (al _ _ (aj _ _ <| Wr fun bf aw => As rfl <| Ox aw <| Zk ?_))
 obtain rfl := Zz H
 exact r1 rfl ⟨rfl, hs⟩

def J8.l1 : Nat → Option Tbs → List Int → Int → Option Int
  | 0, _, _, _ => none
  | ab + 1, x0, x1, aa => if aa < (x1.length : Int) then (if (0 : Int) ≤ aa ∧ aa < (x1.length : Int) then ((J5.f x0 (rd x1 aa)).bind fun ad => (if ad ≠ 4 then (some ad) else ((J8.l1 ab x0 x1) (i64.wrap (aa + 1))))) else none) else (some 0)
def J8.f (x0 : Option Tbs) (x1 : List Int) (x2 : Int) : Option Int := J8.l1 K0 x0 x1 (i64.wrap (x2 + 1))
theorem J8.c (hs : St w0 ρ (Γ) w) {v0 : Value} {x0 : Option Tbs} (h0 : Xs Hm ρ v0 x0) {v1 : Value} {x1 : List Int} (h1 : SlR (Rep.int .i32) ρ v1 x1) {x2 r : Int} (H : J8.f x0 x1 x2 = some r) : Zn Tryz.prog 132 [v0, v1, .int .i64 x2] w (fun v w' => v = .int .i64 r ∧ St w0 ρ Γ w') := by
 rw [J8.f] at H
 refine Et Tryz.func132 Tryz.ntmps132 rfl <| Wr fun ax ai => As rfl <| Ox ai <| Zh fun ay aj => Wr fun az ak => Mv rfl <| Oad rfl <| As rfl <| Ox ak <| Zj fun a0 al a1 => Y9 (σ := Nat × Int) (fun (ab, aa) => [(0, v0), (1, v1), (2, .int .i64 aa)]) (fun (ab, aa) w => J8.l1 ab x0 x1 aa = some r ∧ St w0 ρ (Γ) w) (fun s => s.1) (K0, (i64.wrap (x2 + 1))) (T3 rfl) (Ai H hs) ?_
 rintro ⟨ab, aa⟩ w a2 ⟨H, hs⟩ ac
 show W _ _ _ _ _ _ [(0, v0), (1, v1), (2, .int .i64 aa)] w
 cases ab with
 | zero => rw [J8.l1] at H; cases H
 | succ ab =>
 rw [J8.l1] at H
 refine Zh fun a3 am => Wr fun a4 an => Mv rfl <| Mv rfl <| O_y rfl (Yv V2 h1 rfl) <| Ols rfl <| Ox an <| Y7 rfl (fun ae => ?_) (fun ae => ?_)
 rw [if_pos ae] at H
 refine Wx am <| Zh fun a5 ao => Zj fun a6 a7 a8 => Wr fun a9 ap => Mv rfl <| Mv rfl <| Mv rfl ?_
 obtain ⟨ah, H⟩ := gd H
 obtain ⟨ba, bb, aq, ar⟩ := h1.ix Q7 ah.1 ah.2
 refine O_y rfl (ar rfl rfl) <| O_y rfl (Xp Xm rfl (hs.see aq.int)) ?_
 obtain ⟨ad, af, H⟩ := bnd H
 refine Oc rfl (J5.c hs h0 af) (fun bc w hpost => ?_)
 obtain ⟨rfl, hs⟩ := hpost
 refine As rfl <| Ox ap <| Wr fun bd au => Mv rfl <| One rfl <| Ox au <| W.weak [(0, _), (1, _), (2, _), (7, _), (23, _)] sbn ?_
 refine Y7 rfl (fun ag => ?_) (fun ag => ?_)
 rw [if_pos ag] at H
 refine Wr fun be av => Mv rfl <| As rfl <| Ox av <| Zk ?_
 obtain rfl := Zz H
 exact r1 rfl ⟨rfl, hs⟩
 rw [if_neg ag] at H
 refine Wx ao <| Zc <| Mv rfl <| Oad rfl <| As rfl <| Zd (ac (ab, (i64.wrap (aa + 1))) _ _ (T3 rfl) (Ai H hs) (Nat.lt_succ_self _))
 rw [if_neg ae] at H
 refine Y4 (al _ _ (aj _ _ <| Wr fun bf aw => As rfl <| Ox aw <| Zk ?_))
 obtain rfl := Zz H
 exact r1 rfl ⟨rfl, hs⟩

def Yr.j1 (aa : Bool) : Option Bool := some aa
def Yr.j2 (x0 : Option Tbs) (x1 : List Int) (x2 : Int) (ab : Bool) : Option Bool := if ab = true then (some true) else (if (rd x1 x2) = 8205 then (some false) else ((Vj.f x0 x1 x2).bind fun ar => ((J8.f x0 x1 x2).bind fun af => (if ar = 1 then (if af = 2 then (Yr.j1 true) else (Yr.j1 (decide (af = 3)))) else (if ar = 3 then (if af = 2 then (Yr.j1 true) else (Yr.j1 (decide (af = 3)))) else (Yr.j1 false))))))
def Yr.j3 (x0 : Option Tbs) (x1 : List Int) (x2 : Int) (ac : Bool) : Option Bool := if ac = true then (some false) else (if (0 : Int) ≤ x2 ∧ x2 < (x1.length : Int) then ((K7.f (rd x1 x2)).bind fun a4 => (if (!a4) = true then (some true) else (if 0 < x2 then (if (0 : Int) ≤ i64.wrap (x2 - 1) ∧ i64.wrap (x2 - 1) < (x1.length : Int) then ((Hn.f x0 (rd x1 (i64.wrap (x2 - 1)))).bind fun ag => (Yr.j2 x0 x1 x2 ag)) else none) else (Yr.j2 x0 x1 x2 false)))) else none)
def Yr.f (x0 : Option Tbs) (x1 : List Int) (x2 : Int) : Option Bool := if x2 < 0 then (Yr.j3 x0 x1 x2 true) else (Yr.j3 x0 x1 x2 (decide ((x1.length : Int) ≤ x2)))
theorem Yr.c (hs : St w0 ρ (Γ) w) {v0 : Value} {x0 : Option Tbs} (h0 : Xs Hm ρ v0 x0) {v1 : Value} {x1 : List Int} (h1 : SlR (Rep.int .i32) ρ v1 x1) {x2 : Int} {r : Bool} (H : Yr.f x0 x1 x2 = some r) : Zn Tryz.prog 78 [v0, v1, .int .i64 x2] w (fun v w' => v = .bool r ∧ St w0 ρ Γ w') := by
 rw [Yr.f] at H
 refine Et Tryz.func78 Tryz.ntmps78 rfl <| Wr fun bu a9 => As rfl <| Ox a9 <| Zh fun bv ba => Zj fun bw bx bz => Yu fun bb bc a5 => ?_
 have a6 : ∀ (ac : Bool) (w : World), Yr.j3 x0 x1 x2 ac = some r → St w0 ρ (Γ) w → bb [(0, v0), (1, v1), (2, .int .i64 x2), (9, .bool ac)] w := by
  intro ac w H hs
  rw [Yr.j3] at H
  refine bc _ _ <| Xg rfl (fun au => ?_) (fun au => ?_)
  rw [if_pos au] at H
  refine Wr fun b0 bd => As rfl <| Ox bd <| Zk ?_
  obtain rfl := Zz H
  exact r1 rfl ⟨rfl, hs⟩
  rw [if_neg (bft au)] at H
  refine Wr fun b1 be => Mv rfl <| Mv rfl ?_
  obtain ⟨aq, H⟩ := gd H
  obtain ⟨b2, b3, bf, bg⟩ := h1.ix Q7 aq.1 aq.2
  refine O_y rfl (bg rfl rfl) <| O_y rfl (Xp Xm rfl (hs.see bf.int)) ?_
  obtain ⟨a4, av, H⟩ := bnd H
  refine Oc rfl (K7.c hs av) (fun b4 w hpost => ?_)
  obtain ⟨rfl, hs⟩ := hpost
  refine Ont rfl <| As rfl <| Ox be <| Xg rfl (fun aw => ?_) (fun aw => ?_)
  rw [if_pos aw] at H
  refine Wr fun b5 bh => As rfl <| Ox bh <| Zk ?_
  obtain rfl := Zz H
  exact r1 rfl ⟨rfl, hs⟩
  rw [if_neg (bft aw)] at H
  refine Yu fun bi bj a7 => ?_
  have a8 : ∀ (ab : Bool) (w : World), Yr.j2 x0 x1 x2 ab = some r → St w0 ρ (Γ) w → bi [(0, v0), (1, v1), (2, .int .i64 x2), (25, .bool ab)] w := by
   intro ab w H hs
   rw [Yr.j2] at H
   refine bj _ _ <| Xg rfl (fun ax => ?_) (fun ax => ?_)
   rw [if_pos ax] at H
   refine Wr fun b6 bk => As rfl <| Ox bk <| Zk ?_
   obtain rfl := Zz H
   exact r1 rfl ⟨rfl, hs⟩
   rw [if_neg (bft ax)] at H
   refine Wr fun b7 bl => Mv rfl <| Mv rfl ?_
   obtain ⟨b8, b9, bm, bn⟩ := h1.ix Q7 aq.1 aq.2
   refine O_y rfl (bn rfl rfl) <| O_y rfl (Xp Xm rfl (hs.see bm.int)) <| Oeq rfl <| As rfl <| Ox bl <| Y7 rfl (fun ay => ?_) (fun ay => ?_)
   rw [if_pos ay] at H
   refine Wr fun ca bo => As rfl <| Ox bo <| Zk ?_
   obtain rfl := Zz H
   exact r1 rfl ⟨rfl, hs⟩
   rw [if_neg ay] at H
   refine Wx ba <| Wr fun cb bp => Mv rfl <| Mv rfl <| Mv rfl ?_
   obtain ⟨ar, az, H⟩ := bnd H
   refine Oc rfl (Vj.c hs h0 h1 az) (fun cc w hpost => ?_)
   obtain ⟨rfl, hs⟩ := hpost
   refine Mv rfl <| Mv rfl <| Mv rfl ?_
   obtain ⟨af, an, H⟩ := bnd H
   refine Oc rfl (J8.c hs h0 h1 an) (fun bq w hpost => ?_)
   obtain ⟨rfl, hs⟩ := hpost
   refine As rfl <| As rfl <| Ox bp <| W.weak [(7, _), (8, _)] (T2 rfl) <| Yu fun a0 a1 ad => ?_
   have ae : ∀ (aa : Bool) (w : World), Yr.j1 aa = some r → St w0 ρ (Γ) w → a0 [(6, .bool aa)] w := by
    intro aa w H hs
    rw [Yr.j1] at H
    refine a1 _ _ <| Zk ?_
    obtain rfl := Zz H
    exact r1 rfl ⟨rfl, hs⟩
   refine Zc <| Mv rfl <| Oeq rfl <| Mv rfl <| X6 (dj := 53) rfl (fun ah => ?_) (fun ah => ?_)
   rw [if_pos ah] at H
   refine On rfl <| On rfl <| Opk rfl <| Mv rfl <| Oe rfl <| Mv rfl <| Oe rfl <| Oeq rfl <| Oe rfl <| Mv rfl <| X6 (dj := 60) rfl (fun ai => ?_) (fun ai => ?_)
   rw [if_pos ai] at H
   refine On rfl <| On rfl <| Oe rfl <| Opk rfl <| Opk rfl <| As rfl <| Zd (ad _ _ _ (S1 rfl) (ae true _ H hs))
   rw [if_neg ai] at H
   refine Oe rfl <| Mv rfl <| Oe rfl <| Oeq rfl <| Oe rfl <| Opk rfl <| Opk rfl <| As rfl <| Zd (ad _ _ _ (S1 rfl) (ae (decide (af = 3)) _ H hs))
   rw [if_neg ah] at H
   refine Oe rfl <| Mv rfl <| Oe rfl <| Oeq rfl <| Opk rfl <| Mv rfl <| X6 (dj := 57) rfl (fun aj => ?_) (fun aj => ?_)
   rw [if_pos aj] at H
   refine Oe rfl <| Mv rfl <| Oe rfl <| Oeq rfl <| Oe rfl <| Mv rfl <| X6 (dj := 60) rfl (fun ak => ?_) (fun ak => ?_)
   rw [if_pos ak] at H
   refine On rfl <| On rfl <| Oe rfl <| Opk rfl <| Opk rfl <| As rfl <| Zd (ad _ _ _ (S1 rfl) (ae true _ H hs))
   rw [if_neg ak] at H
   refine Oe rfl <| Mv rfl <| Oe rfl <| Oeq rfl <| Oe rfl <| Opk rfl <| Opk rfl <| As rfl <| Zd (ad _ _ _ (S1 rfl) (ae (decide (af = 3)) _ H hs))
   rw [if_neg aj] at H
   refine On rfl <| On rfl <| On rfl <| Kh rfl rfl rfl <| Kh rfl rfl rfl <| On rfl <| Opk rfl <| As rfl <| Zd (ad _ _ _ (S1 rfl) (ae false _ H hs))
  refine Zc <| Mv rfl <| Ogt rfl <| Mv rfl <| X6 (dj := 28) rfl (fun al => ?_) (fun al => ?_)
  rw [if_pos al] at H
  refine Oe rfl <| Mv rfl <| Oe rfl <| Mv rfl <| Oe rfl <| Mv rfl <| Oe rfl <| Osu rfl ?_
  obtain ⟨ao, H⟩ := gd H
  obtain ⟨br, bs, a2, a3⟩ := h1.ix Q7 ao.1 ao.2
  refine Oe rfl <| O_y rfl (a3 rfl rfl) <| Oe rfl <| O_y rfl (Xp Xm rfl (hs.see a2.int)) <| Oe rfl ?_
  obtain ⟨ag, ap, H⟩ := bnd H
  refine Oc rfl (Hn.c hs h0 ap) (fun bt w hpost => ?_)
  obtain ⟨rfl, hs⟩ := hpost
  refine Opk rfl <| As rfl <| Zd (a7 _ _ _ (T4 rfl) (a8 ag _ H hs))
  rw [if_neg al] at H
  refine On rfl <| On rfl <| On rfl <| On rfl <| On rfl <| On rfl <| On rfl <| Opk rfl <| As rfl <| Zd (a7 _ _ _ (T4 rfl) (a8 false _ H hs))
 refine Zc <| Mv rfl <| Ols rfl <| Mv rfl <| X6 (dj := 12) rfl (fun am => ?_) (fun am => ?_)
 rw [if_pos am] at H
 refine On rfl <| On rfl <| On rfl <| On rfl <| Opk rfl <| As rfl <| Zd (a5 _ _ _ (T4 rfl) (a6 true _ H hs))
 rw [if_neg am] at H
 refine Oe rfl <| Mv rfl <| Oe rfl <| Mv rfl <| Oe rfl <| O_y rfl (Yv V2 h1 rfl) <| Oe rfl <| Oge rfl <| Opk rfl <| As rfl <| Zd (a5 _ _ _ (T4 rfl) (a6 (decide ((x1.length : Int) ≤ x2)) _ H hs))

def K4.l1 : Nat → Option Tbs → List Int → Int → Option Int
  | 0, _, _, _ => none
  | ab + 1, x0, x1, aa => if aa < (x1.length : Int) then ((Yr.f x0 x1 aa).bind fun ag => (if (!ag) = true then (some aa) else ((K4.l1 ab x0 x1) (i64.wrap (aa + 1))))) else (some (-1))
def K4.f (x0 : Option Tbs) (x1 : List Int) : Option Int := K4.l1 K0 x0 x1 0
theorem K4.c (hs : St w0 ρ (Γ) w) {v0 : Value} {x0 : Option Tbs} (h0 : Xs Hm ρ v0 x0) {v1 : Value} {x1 : List Int} (h1 : SlR (Rep.int .i32) ρ v1 x1) {r : Int} (H : K4.f x0 x1 = some r) : Zn Tryz.prog 41 [v0, v1] w (fun v w' => v = .int .i64 r ∧ St w0 ρ Γ w') := by
 rw [K4.f] at H
 refine Et Tryz.func41 Tryz.ntmps41 rfl <| Wr fun au ah => As rfl <| Ox ah <| Zh fun av ai => Wr fun aw aj => Mv rfl <| O_y rfl (Yv V2 h1 rfl) <| Mv rfl <| Ox aj <| Zj fun ax ak ay => Y9 (σ := Nat × Int) (fun (ab, aa) => [(0, v0), (1, v1), (7, .int .i64 (x1.length : Int)), (8, .int .i64 aa)]) (fun (ab, aa) w => K4.l1 ab x0 x1 aa = some r ∧ St w0 ρ (Γ) w) (fun s => s.1) (K0, 0) (T4 rfl) (Ai H hs) ?_
 rintro ⟨ab, aa⟩ w az ⟨H, hs⟩ ac
 show W _ _ _ _ _ _ [(0, v0), (1, v1), (7, .int .i64 (x1.length : Int)), (8, .int .i64 aa)] w
 cases ab with
 | zero => rw [K4.l1] at H; cases H
 | succ ab =>
 rw [K4.l1] at H
 refine Wr fun a0 al => Ols rfl <| Ox al <| Zh fun a1 am => Y7 rfl (fun ad => ?_) (fun ad => ?_)
 rw [if_pos ad] at H
 refine Wx am <| Zh fun a2 an => Zj fun a3 a4 a5 => Wr fun a6 ao => Mv rfl <| As rfl <| Ox ao <| Wr fun a7 ap => Mv rfl <| Mv rfl <| Mv rfl ?_
 obtain ⟨ag, ae, H⟩ := bnd H
 refine Oc rfl (Yr.c hs h0 h1 ae) (fun a8 w hpost => ?_)
 obtain ⟨rfl, hs⟩ := hpost
 refine Ont rfl <| Ox ap <| Xg rfl (fun af => ?_) (fun af => ?_)
 rw [if_pos af] at H
 refine Wr fun a9 aq => Mv rfl <| As rfl <| Ox aq <| Zk ?_
 obtain rfl := Zz H
 exact r1 rfl ⟨rfl, hs⟩
 rw [if_neg (bft af)] at H
 refine Wx an <| Zc <| Oad rfl <| Mv rfl <| Zd (ac (ab, (i64.wrap (aa + 1))) _ _ (T4 rfl) (Ai H hs) (Nat.lt_succ_self _))
 rw [if_neg ad] at H
 refine Y4 (ak _ _ (ai _ _ <| Wr fun ba ar => As rfl <| Ox ar <| Zk ?_))
 obtain rfl := Zz H
 exact r1 rfl ⟨rfl, hs⟩

def X3.j1 (x0 : Option Tbs) (x1 aa : List Int) : Option (List Int) := (Qj.f x1 x0).bind fun an => ((Xh.f 5 an aa).bind fun ao => ((K4.f x0 x1).bind fun ap => ((Xh.f 6 (decide (0 ≤ ap)) ao).bind fun aq => (some aq))))
def X3.f (x0 : Option Tbs) (x1 : List Int) : Option (List Int) := (Hz.f x0 x1).bind fun b2 => ((Xh.f 1 (!b2) ([] : List Int)).bind fun b3 => ((J9.f x1).bind fun b4 => ((Xh.f 2 b4 b3).bind fun b5 => ((Kt.f x1 46).bind fun b6 => ((Xh.f 3 b6 b5).bind fun a9 => (if 0 < (x1.length : Int) then (if (0 : Int) ≤ 0 ∧ 0 < (x1.length : Int) then ((Qs.f x0 (rd x1 0)).bind fun ar => ((Xh.f 4 ar a9).bind fun ak => (X3.j1 x0 x1 ak))) else none) else ((Xh.f 4 false a9).bind fun al => (X3.j1 x0 x1 al))))))))
theorem X3.c (hs : St w0 ρ (Γ) w) {v0 : Value} {x0 : Option Tbs} (h0 : Xs Hm ρ v0 x0) {v1 : Value} {x1 : List Int} (h1 : SlR (Rep.int .i32) ρ v1 x1) {r : List Int} (H : X3.f x0 x1 = some r) : Zn Tryz.prog 21 [v0, v1] w (fun v w' => ∃ (ρ' : Hp) (v0 : Value) (cs0 : List Value), v = v0 ∧ Le ρ ρ' ∧ St w0 ρ' (.row v0 3 (Rep.int .i64).sz r.length cs0 :: Γ) w' ∧ Zm (Rep.int .i64) ρ' cs0 r) := by
 rw [X3.f] at H
 refine Et Tryz.func21 Tryz.ntmps21 rfl <| Wr fun dg cc => Zcj hs rfl rfl h0.one (fun bb w hs => As rfl <| Ox cc <| Wr fun dh cd => Y6 Zxn hs rfl (fun ba w hs => Ox cd <| Wr fun di ce => O_y rfl (Ux rfl) <| As rfl ?_))
 refine Ox ce <| Wr fun dk cf => Mv rfl <| Obx 1 Znx hs rfl <| Mv rfl ?_
 obtain ⟨b2, bc, H⟩ := bnd H
 refine Oc rfl (Hz.c hs h0 h1 bc) (fun dl w hpost => ?_)
 obtain ⟨rfl, hs⟩ := hpost
 refine Ont rfl ?_
 have hs := hs.rowNil 3 (Rep.int .i64).sz
 have cg := Zm.nil (Rep.int .i64) ρ
 have hs := hs.front 1 rfl
 obtain ⟨b3, bd, H⟩ := bnd H
 refine Xo rfl rfl rfl (Xh.c hs cg bd) (fun dm w hpost => ?_)
 obtain ⟨dn, dp, ch, rfl, ae, hs, ci⟩ := hpost
 have hs := hs.sink 1
 refine Ox cf <| Wr fun dq cj => Mv rfl <| Mv rfl ?_
 obtain ⟨b4, be, H⟩ := bnd H
 refine Oc rfl (J9.c hs (h1.mono ae) be) (fun dr w hpost => ?_)
 obtain ⟨rfl, hs⟩ := hpost
 have hs := hs.front 1 rfl
 obtain ⟨b5, bf, H⟩ := bnd H
 refine Xo rfl rfl rfl (Xh.c hs ci bf) (fun ds w hpost => ?_)
 obtain ⟨dt, du, ck, rfl, af, hs, cl⟩ := hpost
 have hs := hs.sink 1
 refine Ox cj <| W.weak [(1, _), (2, _), (5, _), (6, _)] (T4 rfl) <| Wr fun dv cm => Mv rfl <| Mv rfl ?_
 obtain ⟨b6, bg, H⟩ := bnd H
 refine Oc rfl (Kt.c hs (h1.mono (ae.trans af)) bg) (fun dw w hpost => ?_)
 obtain ⟨rfl, hs⟩ := hpost
 have hs := hs.front 1 rfl
 obtain ⟨a9, bh, H⟩ := bnd H
 refine Xo rfl rfl rfl (Xh.c hs cl bh) (fun dx w hpost => ?_)
 obtain ⟨b7, b8, bi, rfl, ag, hs, b9⟩ := hpost
 have hs := hs.sink 1
 refine Ox cm <| Yu fun bj bk au => ?_
 have av : ∀ (aa : List Int) (ab : Value) (ac : List Value) (ah : Hp) (w : World), X3.j1 x0 x1 aa = some r → Le b7 ah → St w0 ah ((.row ab 3 ((Rep.int .i64).sz) aa.length ac) :: (.box ba 56 ([ab])) :: (.box bb 29 ([v0])) :: Γ) w → Zm (Rep.int .i64) ah ac aa → bj [(1, v1), (2, .pointer (some ⟨bb, 0, none⟩)), (5, .pointer (some ⟨ba, 0, none⟩)), (6, .func (.func 36) #[] #[.pointer (some ⟨ba, 0, none⟩)])] w := by
  intro aa ab ac ah w H ad hs ai
  rw [X3.j1] at H
  refine bk _ _ <| Wr fun cn bl => Mv rfl <| Mv rfl <| O_y rfl (Ux rfl) ?_
  have hs := hs.front 2 rfl
  obtain ⟨an, aw, H⟩ := bnd H
  refine Oc rfl (Qj.c hs (h1.mono (((ae.trans af).trans ag).trans ad)) (h0.mono (((ae.trans af).trans ag).trans ad)) aw) (fun co w hpost => ?_)
  obtain ⟨rfl, hs⟩ := hpost
  have hs := hs.sink 2
  have hs := hs.front 1 rfl
  obtain ⟨ao, ax, H⟩ := bnd H
  refine Xo rfl rfl rfl (Xh.c hs ai ax) (fun cp w hpost => ?_)
  obtain ⟨cq, cr, ca, rfl, aj, hs, bm⟩ := hpost
  have hs := hs.sink 1
  refine Ox bl <| Wr fun cs bn => Mv rfl <| Obx 2 Znx hs rfl <| Mv rfl ?_
  obtain ⟨ap, ay, H⟩ := bnd H
  refine Oc rfl (K4.c hs (h0.mono ((((ae.trans af).trans ag).trans ad).trans aj)) (h1.mono ((((ae.trans af).trans ag).trans ad).trans aj)) ay) (fun ct w hpost => ?_)
  obtain ⟨rfl, hs⟩ := hpost
  refine Oge rfl ?_
  have hs := hs.front 1 rfl
  obtain ⟨aq, az, H⟩ := bnd H
  refine Xo rfl rfl rfl (Xh.c hs bm az) (fun cu w hpost => ?_)
  obtain ⟨cv, cw, cb, rfl, a0, hs, bo⟩ := hpost
  have hs := hs.sink 1
  refine Ox bn <| W.weak [(5, _)] (S1 rfl) <| Wr fun cx bp => Obx 1 Zwi hs rfl <| As rfl <| Ox bp <| Zk ?_
  obtain rfl := Zz H
  exact r1 rfl ⟨_, _, _, rfl, (((((ae.trans af).trans ag).trans ad).trans aj).trans a0), (hs.sub (ssc (ssk (ssk ssr)))), bo⟩
 refine Qn 12 [0, 0, 2, 4, 8, 16, 16, 80, 144, 304, 528, 1537] [2046, 4089, 4081, 4065, 2049, 3521, 3873, 3617, 3105, 1, 1, 0] [0, 0, 2, 6, 14, 30, 30, 94, 222, 510, 1022, 2047] [9, 10, 11] (fun w => St w0 b7 ((.row b8 3 ((Rep.int .i64).sz) a9.length bi) :: (.box ba 56 ([b8])) :: (.box bb 29 ([v0])) :: Γ) w) Vl (by kernel_rfl) (fun sh => ?_)
 have hs := hs.drew
 refine Fm 0 sh rfl <| Fm 1 sh rfl <| Fp 2 sh rfl (fun w => Yv V2 (h1.mono ((ae.trans af).trans ag)) rfl) <| Fp 3 sh rfl (fun w => Zjk rfl rfl) <| Fm 4 sh rfl <| Zav (dj := 26) rfl (fun am => ?_) (fun am => ?_)
 rw [if_pos am] at H
 refine Fy 5 sh rfl hs (fun w hs => Yb 2 Znx hs rfl rfl rfl) <| Fp 6 sh rfl (fun w => Qk rfl) ?_
 obtain ⟨a1, H⟩ := gd H
 obtain ⟨cy, cz, bq, br⟩ := (h1.mono ((ae.trans af).trans ag)).ix Q7 a1.1 a1.2
 refine Fp 7 sh rfl (fun w => br rfl rfl) <| Fy 8 sh rfl hs (fun w hs => Xp Xm rfl (hs.see bq.int)) <| F1 9 sh rfl (fun da bs => Oe rfl ?_)
 obtain ⟨ar, a2, H⟩ := bnd H
 refine Oc rfl (Qs.c hs (h0.mono ((ae.trans af).trans ag)) a2) (fun db w hpost => ?_)
 obtain ⟨rfl, hs⟩ := hpost
 refine Zd (bs _ _ (fun h _ => absurd h (by decide)) <| Ke sh [11] hs (by kernel_rfl) <| Fp 10 sh rfl (fun w => J7 rfl rfl) <| F1 11 sh rfl (fun dc bt => ?_))
 have hs := hs.front 1 rfl
 obtain ⟨ak, a3, H⟩ := bnd H
 refine Xo rfl rfl rfl (Xh.c hs b9 a3) (fun dd w hpost => ?_)
 obtain ⟨bu, bv, a4, rfl, a5, hs, bw⟩ := hpost
 have hs := hs.sink 1
 refine Zd (bt _ _ (fun h _ => absurd h (by decide)) <| FE sh (au _ _ _ (T4 rfl) (av ak bv a4 bu _ H a5 hs bw)))
 rw [if_neg am] at H
 refine Fn 5 sh rfl <| Fn 6 sh rfl <| Fn 7 sh rfl <| Fn 8 sh rfl <| Fn 9 sh rfl <| Fp 10 sh rfl (fun w => Qr rfl rfl) <| F1 11 sh rfl (fun de bx => ?_)
 have hs := hs.front 1 rfl
 obtain ⟨al, a6, H⟩ := bnd H
 refine Xo rfl rfl rfl (Xh.c hs b9 a6) (fun df w hpost => ?_)
 obtain ⟨bz, b0, a7, rfl, a8, hs, b1⟩ := hpost
 have hs := hs.sink 1
 refine Zd (bx _ _ (fun h _ => absurd h (by decide)) <| FE sh (au _ _ _ (T4 rfl) (av al b0 a7 bz _ H a8 hs b1)))

def Hk.f (x0 : List Int) : Option Int := if (x0.length : Int) = 0 then (some 0) else (if (0 : Int) ≤ 0 ∧ 0 < (x0.length : Int) then (some (rd x0 0)) else none)
theorem Hk.c (hs : St w0 ρ (Γ) w) {v0 : Value} {x0 : List Int} (h0 : SlR (Rep.int .i64) ρ v0 x0) {r : Int} (H : Hk.f x0 = some r) : Zn Tryz.prog 31 [v0] w (fun v w' => v = .int .i64 r ∧ St w0 ρ Γ w') := by
 rw [Hk.f] at H
 refine Et Tryz.func31 Tryz.ntmps31 rfl <| Wr fun aj ac => As rfl <| Ox ac <| Zh fun ak ad => Wr fun al ae => Mv rfl <| O_y rfl (Yv Zqa h0 rfl) <| Oeq rfl <| Ox ae <| Y7 rfl (fun aa => ?_) (fun aa => ?_)
 rw [if_pos aa] at H
 refine Wr fun am af => As rfl <| Ox af <| Zk ?_
 obtain rfl := Zz H
 exact r1 rfl ⟨rfl, hs⟩
 rw [if_neg aa] at H
 refine Wx ad <| Wr fun an ag => Mv rfl ?_
 obtain ⟨ab, H⟩ := gd H
 obtain ⟨ao, ap, ah, ai⟩ := h0.ix Zsk ab.1 ab.2
 refine O_y rfl (ai rfl rfl) <| O_y rfl (Xp ag3 rfl (hs.see ah.int)) <| As rfl <| Ox ag <| Zk ?_
 obtain rfl := Zz H
 exact r1 rfl ⟨rfl, hs⟩

def Ve.j1 (aa : Bool) : Option Bool := some aa
def Ve.f (x0 : Int) : Option Bool := if x0 < 0 then (Ve.j1 true) else (Ve.j1 (decide (128 ≤ x0)))
theorem Ve.c (hs : St w0 ρ (Γ) w) {x0 : Int} {r : Bool} (H : Ve.f x0 = some r) : Zn Tryz.prog 68 [.int .i32 x0] w (fun v w' => v = .bool r ∧ St w0 ρ Γ w') := by
 rw [Ve.f] at H
 refine Et Tryz.func68 Tryz.ntmps68 rfl <| Wr fun ah ae => As rfl <| Ox ae <| Yu fun af ag ac => ?_
 have ad : ∀ (aa : Bool) (w : World), Ve.j1 aa = some r → St w0 ρ (Γ) w → af [(2, .bool aa)] w := by
  intro aa w H hs
  rw [Ve.j1] at H
  refine ag _ _ <| Zk ?_
  obtain rfl := Zz H
  exact r1 rfl ⟨rfl, hs⟩
 refine Zc <| Mv rfl <| Ols rfl <| Mv rfl <| X6 (dj := 5) rfl (fun ab => ?_) (fun ab => ?_)
 rw [if_pos ab] at H
 refine On rfl <| On rfl <| Opk rfl <| As rfl <| Zd (ac _ _ _ (S1 rfl) (ad true _ H hs))
 rw [if_neg ab] at H
 refine Oe rfl <| Mv rfl <| Oe rfl <| Oge rfl <| Opk rfl <| As rfl <| Zd (ac _ _ _ (S1 rfl) (ad (decide (128 ≤ x0)) _ H hs))

def Yo.l1 : Nat → List Int → Int → Option Int
  | 0, _, _ => none
  | ab + 1, x0, aa => if aa < (x0.length : Int) then (if (0 : Int) ≤ aa ∧ aa < (x0.length : Int) then ((Ve.f (rd x0 aa)).bind fun ag => (if ag = true then (some aa) else ((Yo.l1 ab x0) (i64.wrap (aa + 1))))) else none) else (some (-1))
def Yo.f (x0 : List Int) : Option Int := Yo.l1 K0 x0 0
theorem Yo.c (hs : St w0 ρ (Γ) w) {v0 : Value} {x0 : List Int} (h0 : SlR (Rep.int .i32) ρ v0 x0) {r : Int} (H : Yo.f x0 = some r) : Zn Tryz.prog 77 [v0, .func (.func 68) #[] #[]] w (fun v w' => v = .int .i64 r ∧ St w0 ρ Γ w') := by
 rw [Yo.f] at H
 refine Et Tryz.func77 Tryz.ntmps77 rfl <| Wr fun ax ai => As rfl <| Ox ai <| Zh fun ay aj => Wr fun az ak => Mv rfl <| O_y rfl (Yv V2 h0 rfl) <| Mv rfl <| Ox ak <| Zj fun a0 al a1 => Y9 (σ := Nat × Int) (fun (ab, aa) => [(0, v0), (1, .func (.func 68) #[] #[]), (7, .int .i64 (x0.length : Int)), (8, .int .i64 aa)]) (fun (ab, aa) w => Yo.l1 ab x0 aa = some r ∧ St w0 ρ (Γ) w) (fun s => s.1) (K0, 0) (T4 rfl) (Ai H hs) ?_
 rintro ⟨ab, aa⟩ w a2 ⟨H, hs⟩ ac
 show W _ _ _ _ _ _ [(0, v0), (1, .func (.func 68) #[] #[]), (7, .int .i64 (x0.length : Int)), (8, .int .i64 aa)] w
 cases ab with
 | zero => rw [Yo.l1] at H; cases H
 | succ ab =>
 rw [Yo.l1] at H
 refine Wr fun a3 am => Ols rfl <| Ox am <| Zh fun a4 an => Y7 rfl (fun ad => ?_) (fun ad => ?_)
 rw [if_pos ad] at H
 refine Wx an <| Zh fun a5 ao => Zj fun a6 a7 a8 => Wr fun a9 ap => Mv rfl <| As rfl <| Ox ap <| Wr fun ba aq => Mv rfl <| Mv rfl <| Mv rfl ?_
 obtain ⟨ah, H⟩ := gd H
 obtain ⟨bb, bc, ar, au⟩ := h0.ix Q7 ah.1 ah.2
 refine O_y rfl (au rfl rfl) <| O_y rfl (Xp Xm rfl (hs.see ar.int)) ?_
 obtain ⟨ag, ae, H⟩ := bnd H
 refine Xo rfl rfl rfl (Ve.c hs ae) (fun bd w hpost => ?_)
 obtain ⟨rfl, hs⟩ := hpost
 refine Ox aq <| Xg rfl (fun af => ?_) (fun af => ?_)
 rw [if_pos af] at H
 refine Wr fun be av => Mv rfl <| As rfl <| Ox av <| W.weak [(4, _)] (S1 rfl) <| Zk ?_
 obtain rfl := Zz H
 exact r1 rfl ⟨rfl, hs⟩
 rw [if_neg (bft af)] at H
 refine Wx ao <| Zc <| Oad rfl <| Mv rfl <| Zd (ac (ab, (i64.wrap (aa + 1))) _ _ (T4 rfl) (Ai H hs) (Nat.lt_succ_self _))
 rw [if_neg ad] at H
 refine Y4 (al _ _ (aj _ _ <| Wr fun bf aw => As rfl <| Ox aw <| Zk ?_))
 obtain rfl := Zz H
 exact r1 rfl ⟨rfl, hs⟩

def Q1.f (x0 : List Int) : Option Bool := (Yo.f x0).bind fun ab => (some (decide (0 ≤ ab)))
theorem Q1.c (hs : St w0 ρ (Γ) w) {v0 : Value} {x0 : List Int} (h0 : SlR (Rep.int .i32) ρ v0 x0) {r : Bool} (H : Q1.f x0 = some r) : Zn Tryz.prog 39 [v0, .func (.func 68) #[] #[]] w (fun v w' => v = .bool r ∧ St w0 ρ Γ w') := by
 rw [Q1.f] at H
 refine Et Tryz.func39 Tryz.ntmps39 rfl <| Wr fun ae ac => As rfl <| Ox ac <| Wr fun af ad => Mv rfl <| Mv rfl ?_
 obtain ⟨ab, aa, H⟩ := bnd H
 refine Oc rfl (Yo.c hs h0 aa) (fun ag w hpost => ?_)
 obtain ⟨rfl, hs⟩ := hpost
 refine Oge rfl <| As rfl <| Ox ad <| Zk ?_
 obtain rfl := Zz H
 exact r1 rfl ⟨rfl, hs⟩

def Uh.f (x0 : List Int) : Option Bool := (Q1.f x0).bind fun ab => (some (!ab))
theorem Uh.c (hs : St w0 ρ (Γ) w) {v0 : Value} {x0 : List Int} (h0 : SlR (Rep.int .i32) ρ v0 x0) {r : Bool} (H : Uh.f x0 = some r) : Zn Tryz.prog 28 [v0] w (fun v w' => v = .bool r ∧ St w0 ρ Γ w') := by
 rw [Uh.f] at H
 refine Et Tryz.func28 Tryz.ntmps28 rfl <| Wr fun ae ac => As rfl <| Ox ac <| Wr fun af ad => Mv rfl ?_
 obtain ⟨ab, aa, H⟩ := bnd H
 refine Oc rfl (Q1.c hs h0 aa) (fun ag w hpost => ?_)
 obtain ⟨rfl, hs⟩ := hpost
 refine Ont rfl <| As rfl <| Ox ad <| Zk ?_
 obtain rfl := Zz H
 exact r1 rfl ⟨rfl, hs⟩

def Zam.f : Option S11 := some (⟨36, 1, 26, 38, 700, 72, 128, 45⟩ : S11)
theorem Zam.c (hs : St w0 ρ (Γ) w) {r : S11} (H : Zam.f = some r) : Zn Tryz.prog 69 [] w (fun v w' => ∃ (ρ' : Hp) (cs0 : List Value), v = .agg cs0.toArray ∧ Le ρ ρ' ∧ St w0 ρ' (Γ) w' ∧ Zde.R ρ' cs0 r) := by
 rw [Zam.f] at H
 refine Et Tryz.func69 Tryz.ntmps69 rfl <| Wr fun ac aa => Y6 Zvb hs rfl (fun ad w hs => Ox aa <| Wr fun ae ab => O_y rfl (Qe (cs := [.int .i64 36, .int .i64 1, .int .i64 26, .int .i64 38, .int .i64 700, .int .i64 72, .int .i64 128, .int .u8 45]) Zvb Zwd ((Z2.cons rfl rfl (Z2.cons rfl rfl (Z2.cons rfl rfl (Z2.cons rfl rfl (Z2.cons rfl rfl (Z2.cons rfl rfl (Z2.cons rfl rfl (Z2.cons rfl rfl Z2.nil))))))))) Zu1 (by kernel_rfl)) <| Ye (i := 0) Zvd hs rfl rfl rfl rfl rfl (Zb rfl (Zb rfl (Zb rfl (Zb rfl (Zb rfl (Zb rfl (Zb rfl (Zb rfl Yj)))))))) (fun w hs => Ox ab <| Zk ?_))
 obtain rfl := Zz H
 exact Zit (i := 0) rfl rfl Zu1 Zvd hs rfl rfl ⟨_, _, rfl, Le.rfl' _, (hs.sub (ssk ssr)), (show Zde.R ρ _ (⟨36, 1, 26, 38, 700, 72, 128, 45⟩ : S11) from rfl)⟩

def Z8.l1 : Nat → ByteArray → Int → Int → Option Int
  | 0, _, _, _ => none
  | ab + 1, x0, x1, aa => if 0 ≤ aa then (if (0 : Int) ≤ aa ∧ aa < (x0.size : Int) then (if (bt x0 aa) = x1 then (some aa) else ((Z8.l1 ab x0 x1) (i64.wrap (aa - 1)))) else none) else (some (-1))
def Z8.f (x0 : ByteArray) (x1 : Int) : Option Int := Z8.l1 K0 x0 x1 (i64.wrap ((x0.size : Int) - 1))
theorem Z8.c (hs : St w0 ρ (Γ) w) {x0 : ByteArray} {x1 r : Int} (H : Z8.f x0 x1 = some r) : Zn Tryz.prog 159 [.string x0, .int .u8 x1] w (fun v w' => v = .int .i64 r ∧ St w0 ρ Γ w') := by
 rw [Z8.f] at H
 refine Et Tryz.func159 Tryz.ntmps159 rfl <| Wr fun aq ag => As rfl <| Ox ag <| Zh fun ar ah => Wr fun au ai => Mv rfl <| O_y rfl (Zd0 un9 rfl) <| Osu rfl <| As rfl <| Ox ai <| Zj fun av aj aw => ?_
 refine Y9 (σ := Nat × Int) (fun (ab, aa) => [(0, .string x0), (1, .int .u8 x1), (5, .int .i64 aa)]) (fun (ab, aa) w => Z8.l1 ab x0 x1 aa = some r ∧ St w0 ρ (Γ) w) (fun s => s.1) (K0, (i64.wrap ((x0.size : Int) - 1))) (T3 rfl) (Ai H hs) ?_
 rintro ⟨ab, aa⟩ w ax ⟨H, hs⟩ ac
 show W _ _ _ _ _ _ [(0, .string x0), (1, .int .u8 x1), (5, .int .i64 aa)] w
 cases ab with
 | zero => rw [Z8.l1] at H; cases H
 | succ ab =>
 rw [Z8.l1] at H
 refine Zh fun ay ak => Wr fun az al => Mv rfl <| Oge rfl <| Ox al <| Y7 rfl (fun ad => ?_) (fun ad => ?_)
 rw [if_pos ad] at H
 refine Wx ak <| Zh fun a0 am => Zj fun a1 a2 a3 => Wr fun a4 an => Mv rfl <| Mv rfl ?_
 obtain ⟨af, H⟩ := gd H
 refine O_y rfl (Zs4 un9 rfl rfl af.1 af.2) <| Mv rfl <| Oeq rfl <| Ox an <| Y7 rfl (fun ae => ?_) (fun ae => ?_)
 rw [if_pos ae] at H
 refine Wr fun a5 ao => Mv rfl <| As rfl <| Ox ao <| Zk ?_
 obtain rfl := Zz H
 exact r1 rfl ⟨rfl, hs⟩
 rw [if_neg ae] at H
 refine Wx am <| Zc <| Mv rfl <| Osu rfl <| As rfl <| Zd (ac (ab, (i64.wrap (aa - 1))) _ _ (T3 rfl) (Ai H hs) (Nat.lt_succ_self _))
 rw [if_neg ad] at H
 refine Y4 (aj _ _ (ah _ _ <| Wr fun a6 ap => As rfl <| Ox ap <| Zk ?_))
 obtain rfl := Zz H
 exact r1 rfl ⟨rfl, hs⟩

def Vh.f (x0 : ByteArray) (x1 : Int) : Option Int := (Z8.f x0 x1).bind fun ab => (some ab)
theorem Vh.c (hs : St w0 ρ (Γ) w) {x0 : ByteArray} {x1 r : Int} (H : Vh.f x0 x1 = some r) : Zn Tryz.prog 124 [.string x0, .int .u8 x1] w (fun v w' => v = .int .i64 r ∧ St w0 ρ Γ w') := by
 rw [Vh.f] at H
 refine Et Tryz.func124 Tryz.ntmps124 rfl <| Wr fun ae ac => As rfl <| Ox ac <| Wr fun af ad => Mv rfl <| Mv rfl ?_
 obtain ⟨ab, aa, H⟩ := bnd H
 refine Oc rfl (Z8.c hs aa) (fun ag w hpost => ?_)
 obtain ⟨rfl, hs⟩ := hpost
 refine As rfl <| Ox ad <| Zk ?_
 obtain rfl := Zz H
 exact r1 rfl ⟨rfl, hs⟩

def Yt.j1 : Option (Int × Int) := none
def Yt.l1 : Nat → List Int → Option (Int × Int)
  | 0, _ => none
  | aa + 1, x0 => if 0 < (x0.length : Int) then (if (0 : Int) ≤ 0 ∧ 0 < (x0.length : Int) then (if (rd x0 0) < 128 then (some (i32.wrap (rd x0 0), 1)) else (Yt.j1 )) else none) else (Yt.j1 )
def Yt.f (x0 : List Int) : Option (Int × Int) := Yt.l1 K0 x0 
theorem Yt.c (hs : St w0 ρ (Γ) w) {v0 : Value} {x0 : List Int} (h0 : SlR (Rep.int .u8) ρ v0 x0) {r : Int × Int} (H : Yt.f x0 = some r) : Zn Tryz.prog 174 [v0] w (fun v w' => v = .tuple #[.int .i32 r.1, .int .i64 r.2] ∧ St w0 ρ Γ w') := by
 rw [Yt.f] at H
 refine Et Tryz.func174 Tryz.ntmps174 rfl <| Wr fun ax ai => As rfl <| As rfl <| Ox ai <| Yu fun aj ak ae => ?_
 have af : ∀ (w : World), Yt.j1 = some r → St w0 ρ (Γ) w → aj [(0, v0)] w := by
  intro w H hs
  rw [Yt.j1] at H
  refine ak _ _ <| Wr fun ay az => Mv rfl ?_
  cases H
 refine Wr fun a0 al => Mv rfl <| O_y rfl (Yv Zmx h0 rfl) <| Mv rfl <| Ox al <| Zj fun a1 ag a2 => Y9 (σ := Nat) (fun aa => [(0, v0), (6, v0), (7, .int .i64 (x0.length : Int)), (8, .int .i64 0)]) (fun aa w => Yt.l1 aa x0 = some r ∧ St w0 ρ (Γ) w) (fun s => s) (K0) (T4 rfl) (Ai H hs) ?_
 rintro aa w a3 ⟨H, hs⟩ ab
 show W _ _ _ _ _ _ [(0, v0), (6, v0), (7, .int .i64 (x0.length : Int)), (8, .int .i64 0)] w
 cases aa with
 | zero => rw [Yt.l1] at H; cases H
 | succ aa =>
 rw [Yt.l1] at H
 refine Wr fun a4 am => Ols rfl <| Ox am <| Zh fun a5 an => Y7 rfl (fun ac => ?_) (fun ac => ?_)
 rw [if_pos ac] at H
 refine Wx an <| Zh fun a6 a7 => Zj fun a8 a9 ao => Zh fun ba ap => Zc ?_
 obtain ⟨ah, H⟩ := gd H
 obtain ⟨bb, bc, aq, ar⟩ := h0.ix Zg8 ah.1 ah.2
 refine O_y rfl (ar rfl rfl) <| O_y rfl (Xp ag5 rfl (hs.see aq.int)) <| As rfl <| Ox ap <| Zh fun bd au => Wr fun be av => Mv rfl <| Ols rfl <| Ox av <| Y7 rfl (fun ad => ?_) (fun ad => ?_)
 rw [if_pos ad] at H
 refine Wr fun bf aw => Mv rfl <| O_y rfl (V4 un5 Za9 rfl) <| As rfl <| As rfl <| Ox aw <| Zk ?_
 obtain rfl := Zz H
 exact Zbs rfl rfl rfl ⟨rfl, hs⟩
 rw [if_neg ad] at H
 refine Wx au <| Y4 (ao _ _ _ rfl (ag _ _ (ae _ _ _ (S1 rfl) (af _ H hs))))
 rw [if_neg ac] at H
 exact Y4 (ag _ _ (ae _ _ _ (S1 rfl) (af _ H hs)))

def Qz.j1 (aa : Bool) : Option Bool := some aa
def Qz.f (x0 : S11) (x1 : Int) : Option Bool := if (i64.wrap x1) < x0.first then (Qz.j1 (decide (x1 < 128))) else (Qz.j1 false)
theorem Qz.c (hs : St w0 ρ (Γ) w) {c0 : List Value} {x0 : S11} (h0 : Zde.R ρ c0 x0) {x1 : Int} {r : Bool} (H : Qz.f x0 x1 = some r) : Zn Tryz.prog 120 [.agg c0.toArray, .int .i32 x1] w (fun v w' => v = .bool r ∧ St w0 ρ Γ w') := by
 rw [Qz.f] at H
 refine Et Tryz.func120 Tryz.ntmps120 rfl ?_
 have ae := h0
 obtain rfl := ae
 refine Wr fun aj af => Vg (cs := [.int .i64 x0.base, .int .i64 x0.least, .int .i64 x0.most, .int .i64 x0.skew, .int .i64 x0.damp, .int .i64 x0.bias, .int .i64 x0.first, .int .u8 x0.between]) hs rfl rfl (fun ag w hs => As rfl <| Ox af <| Yu fun ah ai ac => ?_)
 have ad : ∀ (aa : Bool) (w : World), Qz.j1 aa = some r → St w0 ρ ((.box ag 117 ([.int .i64 x0.base, .int .i64 x0.least, .int .i64 x0.most, .int .i64 x0.skew, .int .i64 x0.damp, .int .i64 x0.bias, .int .i64 x0.first, .int .u8 x0.between])) :: Γ) w → ah [(4, .bool aa)] w := by
  intro aa w H hs
  rw [Qz.j1] at H
  refine ai _ _ <| Zk ?_
  obtain rfl := Zz H
  exact r1 rfl ⟨rfl, (hs.sub (ssk ssr))⟩
 refine Zc <| Mv rfl <| O_y rfl (V4 Za9 un3 rfl) <| Ofd Zhj rfl <| Obx 0 ag3 hs rfl <| Ols rfl <| Mv rfl <| X6 (dj := 10) rfl (fun ab => ?_) (fun ab => ?_)
 rw [if_pos ab] at H
 refine Oe rfl <| Mv rfl <| Oe rfl <| Ols rfl <| Opk rfl <| As rfl <| Zd (ac _ _ _ (S1 rfl) (ad (decide (x1 < 128)) _ H hs))
 rw [if_neg ab] at H
 refine On rfl <| On rfl <| Opk rfl <| As rfl <| Zd (ac _ _ _ (S1 rfl) (ad false _ H hs))

def Vb.f (x0 y0_0 y0_1 y0_2 y0_3 y0_4 y0_5 y0_6 y0_7 : Int) : Option Bool := (Qz.f (⟨y0_0, y0_1, y0_2, y0_3, y0_4, y0_5, y0_6, y0_7⟩ : S11) x0).bind fun ab => (some (!ab))
theorem Vb.c {pb0 : Nat} {y0_0 y0_1 y0_2 y0_3 y0_4 y0_5 y0_6 y0_7 : Int} (hs : St w0 ρ ((.box pb0 117 ([.int .i64 y0_0, .int .i64 y0_1, .int .i64 y0_2, .int .i64 y0_3, .int .i64 y0_4, .int .i64 y0_5, .int .i64 y0_6, .int .u8 y0_7])) :: Γ) w) {x0 : Int} {r : Bool} (H : Vb.f x0 y0_0 y0_1 y0_2 y0_3 y0_4 y0_5 y0_6 y0_7 = some r) : Zn Tryz.prog 126 [.int .i32 x0, .pointer (some ⟨pb0, 0, none⟩)] w (fun v w' => v = .bool r ∧ St w0 ρ ((.box pb0 117 ([.int .i64 y0_0, .int .i64 y0_1, .int .i64 y0_2, .int .i64 y0_3, .int .i64 y0_4, .int .i64 y0_5, .int .i64 y0_6, .int .u8 y0_7])) :: Γ) w') := by
 rw [Vb.f] at H
 refine Et Tryz.func126 Tryz.ntmps126 rfl <| Wr fun ae ac => As rfl <| Ox ac <| Wr fun af ad => O_y rfl (Xk (i := 0) Zc8 Zda hs rfl rfl rfl rfl) <| Mv rfl ?_
 obtain ⟨ab, aa, H⟩ := bnd H
 refine Oc rfl (Qz.c hs (show Zde.R ρ _ (⟨y0_0, y0_1, y0_2, y0_3, y0_4, y0_5, y0_6, y0_7⟩ : S11) from rfl) aa) (fun ag w hpost => ?_)
 obtain ⟨rfl, hs⟩ := hpost
 refine Ont rfl <| As rfl <| Ox ad <| Zk ?_
 obtain rfl := Zz H
 exact r1 rfl ⟨rfl, hs⟩

end Go.Proofs.YthoicbafdanmkaaGreatDoor
/- slices.Insert of one rune into a row of one's own, by hand. Own work of this repo. -/
namespace Go.Proofs.YthoicbafdanmkaaGreatDoor
open Go.IntKind (i8 i16 i32 i64 u8 u16 u32 u64)
open Go.RowKit
theorem Zq1 (C D zs : List Value) (z : Value) (k : Nat) (hC : C.length = k) (hz : zs.length = D.length + 1) : wl D (k + 1) (wl [z] k (C ++ zs)) = C ++ z :: D := by
 cases zs with
 | nil => simp at hz
 | cons y t =>
  have ht : t.length = D.length := by simpa using hz
  subst hC
  rw [Zmh [z] _ _ (by simp)]
  have e : (C ++ y :: t).take C.length ++ ([z] ++ (C ++ y :: t).drop (C.length + [z].length)) = (C ++ [z]) ++ t := by
   rw [List.take_left', List.drop_append]
   ·simp
   ·rfl
  rw [e, Zmh D _ _ (by simp; omega), List.take_left' (by simp), List.drop_append, List.drop_of_length_le (l := C ++ [z]) (by simp), List.drop_of_length_le (by simp; omega)]
  simp
theorem Zso (C D : List Value) (y z : Value) (k : Nat) (hC : C.length = k) : wl [z] k (wl D (k + 1) (C ++ D ++ [y])) = C ++ z :: D := by
 subst hC
 obtain ⟨h, t, ht, hl⟩ : ∃ h t, D ++ [y] = h :: t ∧ t.length = D.length := by
  cases hd : D ++ [y] with
  | nil => simp at hd
  | cons h t => exact ⟨h, t, rfl, by have := congrArg List.length hd; simp at this; omega⟩
 rw [List.append_assoc, ht, Zmh D _ _ (by simp; omega)]
 have e : (C ++ h :: t).take (C.length + 1) ++ (D ++ (C ++ h :: t).drop (C.length + 1 + D.length)) = C ++ (h :: D) := by
  rw [show C ++ h :: t = (C ++ [h]) ++ t by simp, List.take_left' (by simp), List.drop_of_length_le (by simp; omega)]
  simp
 rw [e, Zmh [z] _ _ (by simp), List.take_left' rfl, List.drop_append]
 simp
set_option maxRecDepth 100000 in
set_option maxHeartbeats 4000000 in
theorem Zjd.c {w0 w : World} {ρ : Hp} {Γ : List Q5} {v u : Value} {cs ds : List Value} {xs : List Int} {z i : Int} (hs : St w0 ρ ((.row v 21 (Rep.int .i32).sz xs.length cs) :: (.row u 21 (Rep.int .i32).sz 1 ds) :: Γ) w) (f : Zm (Rep.int .i32) ρ cs xs) (g : Zm (Rep.int .i32) ρ ds [z]) (h0 : 0 ≤ i) (h1 : i ≤ (xs.length : Int)) (hm : xs.length + 1 ≤ most) :
  Zn Tryz.prog 162 [v, .int .i64 i, u] w (fun r w' => ∃ cs', St w0 ρ ((.row r 21 (Rep.int .i32).sz (Zc5 xs i z).length cs') :: Γ) w' ∧ Zm (Rep.int .i32) ρ cs' (Zc5 xs i z)) := by
 have hbig : most = 2147483648 := rfl
 have hn : ∃ n, xs.length = n := ⟨_, rfl⟩
 obtain ⟨n, hn⟩ := hn
 obtain ⟨k, rfl⟩ : ∃ k : Nat, i = k := ⟨i.toNat, by omega⟩
 have hil : (Zc5 xs k z).length = n + 1 := by simp [Zc5]; omega
 rw [hil]
 rw [hn] at hs h1 hm
 have hcs := f.ints
 have hds := g.ints
 subst hcs hds
 have hs : St w0 ρ ((.row v 21 1 n (xs.map (Value.int .i32))) :: (.row u 21 1 1 [.int .i32 z]) :: Γ) w := hs
 clear f g
 have hfin : ∀ (r : Value) (w' : World), St w0 ρ ((.row r 21 1 (n + 1) ((Zc5 xs k z).map (Value.int .i32))) :: Γ) w' → ∃ cs', St w0 ρ ((.row r 21 (Rep.int .i32).sz (n + 1) cs') :: Γ) w' ∧ Zm (Rep.int .i32) ρ cs' (Zc5 xs k z) := fun r w' h => ⟨_, h, Zm.ofInts _⟩
 have hik : ((k : Int)).toNat = k := by omega
 have hone : ∀ v ∈ xs.map (Value.int .i32), v.oneCell' = true := fun v hv => by
  obtain ⟨y, _, rfl⟩ := List.mem_map.1 hv
  rfl
 have w1 : i64.wrap ((n : Int) + ((1 : Nat) : Int)) = ((n + 1 : Nat) : Int) := by rw [IntKind.wrap_i64]; omega
 have w2 : i64.wrap ((k : Int) + ((1 : Nat) : Int)) = ((k + 1 : Nat) : Int) := by rw [IntKind.wrap_i64]; omega
 have w3 : i64.wrap (((n + 1 : Nat) : Int) - (k : Int)) = ((n + 1 - k : Nat) : Int) := by rw [IntKind.wrap_i64]; omega
 obtain ⟨a, c, rfl, hnc⟩ : ∃ a c, v = .slice a n c ∧ n ≤ c := by
  have hok : w.ownsRow 0 21 1 v n _ := hs.ok _ (List.mem_of_getElem? (i := 0) rfl)
  rcases hok.2 with ⟨rfl, rfl⟩ | ⟨q, cap, cur, rfl, _, _, h, _⟩
  ·exact ⟨none, 0, rfl, Nat.le_refl _⟩
  ·exact ⟨_, _, rfl, h⟩
 refine enter Tryz.func162 Tryz.ntmps162 rfl (by kernel_rfl) rfl ?_
 refine Zh fun N1 n1 => ?_
 refine Zc ?_
 refine O_y rfl (Xv rfl) ?_
 refine Zd (n1 _ _ ?_)
 refine Zh fun N2 n2 => ?_
 refine Zc ?_
 refine O_y rfl (Qk rfl) ?_
 refine O_y rfl (Qk rfl) ?_
 refine O_y rfl (Zfj Q7 rfl (.inr ⟨_, _, rfl, rfl⟩) (.inl ⟨rfl, rfl⟩) h0 h1 (Int.le_refl _) hnc) ?_
 refine Zd (n2 _ _ ?_)
 refine Zh fun N3 n3 => ?_
 refine Zc ?_
 refine O_y rfl (Qk rfl) ?_
 refine O_y rfl (V8 (i := 1) V2 hs rfl rfl) ?_
 refine O_y rfl (Xv rfl) ?_
 refine Zd (n3 _ _ ?_)
 refine Zh fun N4 n4 => ?_
 refine Zh fun M4 m4 => ?_
 refine Zc ?_
 refine O_y rfl (Qk rfl) ?_
 refine O_y rfl (Zbn rfl rfl) ?_
 refine Zd (m4 _ _ ?_)
 refine Y7 rfl (fun c1 => absurd c1 (by decide)) (fun _ => ?_)
 refine Ua (n4 _ _ ?_)
 refine Zh fun N6 n6 => ?_
 refine Zc ?_
 refine O_y rfl (Qk rfl) ?_
 refine O_y rfl (V8 (i := 0) V2 hs rfl rfl) ?_
 refine O_y rfl (Xv rfl) ?_
 refine Zd (n6 _ _ ?_)
 refine Zh fun N7 n7 => ?_
 refine Zh fun M7 m7 => ?_
 refine Zc ?_
 refine O_y rfl (Qk rfl) ?_
 refine O_y rfl (Qk rfl) ?_
 refine O_y rfl (Zbn rfl rfl) ?_
 refine Zd (m7 _ _ ?_)
 refine Y7 rfl (fun c2 => ?_) (fun c2 => ?_)
 ·refine Zh fun N9 n9 => ?_
  refine Zc ?_
  refine O_y rfl (Qk rfl) ?_
  refine O_y rfl (Qk rfl) ?_
  refine Zm6 (i := 0) Q7 hs rfl rfl rfl rfl (Src.row hs (j := 1) rfl (by intro y hy; simp at hy; subst hy; rfl)) hm (fun v' w hs => ?_)
  refine O_y rfl (Xv rfl) ?_
  refine Zd (n9 _ _ ?_)
  refine Zk ?_
  refine Ztn rfl rfl (hfin _ _ ?_)
  have e : (Zc5 xs k z).map (Value.int .i32) = xs.map (Value.int .i32) ++ [.int .i32 z] := by
   simp only [Zc5, hik]
   rw [List.take_of_length_le (by omega), List.drop_of_length_le (by omega)]
   simp
  rw [e]
  exact hs.sub (.cons_cons _ (.cons _ (List.Sublist.refl _)))
 ·have hkn : k < n := by omega
  refine Ua (n7 _ _ ?_)
  obtain ⟨gb, rfl⟩ : ∃ gb, a = some ⟨gb, 0, none⟩ := by
   have hok : w.ownsRow 0 21 1 (.slice a n c) n _ := hs.ok _ (List.mem_of_getElem? (i := 0) rfl)
   rcases hok.2 with ⟨_, h⟩ | ⟨q, cap, cur, h, _⟩
   ·omega
   ·cases h; exact ⟨_, rfl⟩
  obtain ⟨gu, cu, rfl⟩ : ∃ gu cu, u = .slice (some ⟨gu, 0, none⟩) 1 cu := by
   have hok : w.ownsRow 0 21 1 u 1 _ := hs.ok _ (List.mem_of_getElem? (i := 1) rfl)
   rcases hok.2 with ⟨_, h⟩ | ⟨q, cap, cur, h, _⟩
   ·omega
   ·exact ⟨_, _, h⟩
  have hne : gu ≠ gb := by
   have := hs.nodup
   simp only [List.filterMap_cons, Q5.blk, Value.ownBlock] at this
   intro e
   subst e
   simp at this
  have hdl : ((xs.map (Value.int .i32)).drop k).length = n - k := by simp; omega
  refine Zh fun N10 n10 => ?_
  refine Zh fun M10 m10 => ?_
  refine Zc ?_
  refine O_y rfl (Qk rfl) ?_
  refine O_y rfl (Qk rfl) ?_
  refine O_y rfl (Hy rfl rfl) ?_
  rw [w1]
  refine O_y rfl (Qk rfl) ?_
  refine O_y rfl (Zwz V2 rfl) ?_
  refine O_y rfl (Zjk rfl rfl) ?_
  refine Zd (m10 _ _ ?_)
  refine Y7 rfl (fun c3 => ?_) (fun c3 => ?_)
  ·have hcn : c < k + (n + 1 - k) := by omega
   refine Zh fun N12 n12 => ?_
   refine Zc ?_
   refine O_y rfl (Qk rfl) ?_
   refine O_y rfl (Qk rfl) ?_
   refine O_y rfl (Zj0 Q7 rfl rfl h0 (by omega)) ?_
   rw [hik]
   refine O_y rfl (Qk rfl) ?_
   refine O_y rfl (Qk rfl) ?_
   refine O_y rfl (Hy rfl rfl) ?_
   rw [w1]
   refine O_y rfl (Qk rfl) ?_
   refine O_y rfl (Zc2 rfl rfl) ?_
   rw [w3]
   refine Zlv (olds := (xs.map (Value.int .i32)).take k) Q7 un3 hs rfl rfl rfl (by simp; omega) (fun j y hj => ?_) (by omega) hcn (by omega) (fun b zs c' w hz hc' hs => ?_)
   ·rw [List.getElem?_take] at hj
    split at hj
    ·rw [Addr.add_lit, Nat.zero_add]; exact hs.rowCell (j := 0) rfl rfl hj
    ·cases hj
   have ek : k + (n + 1 - k) = n + 1 := by omega
   rw [ek] at hs hc' ⊢
   refine O_y rfl (Xv rfl) ?_
   refine Zd (n12 _ _ ?_)
   refine Zh fun N13 n13 => ?_
   refine Zc ?_
   refine O_y rfl (Qk rfl) ?_
   refine O_y rfl (Qk rfl) ?_
   refine O_y rfl (Zak Q7 rfl rfl (by omega) (by omega) hc') ?_
   refine O_y rfl (Qk rfl) ?_
   refine Zd4 (j := 0) (vs := [.int .i32 z]) (g := b) Q7 hs rfl rfl rfl rfl rfl (by simp only [Nat.min_def]; split <;> simp <;> omega) (by simp [hz]; omega) (fun j y hj => ?_) (by intro y hy; simp at hy; subst hy; rfl) (fun w hs => ?_)
   ·rw [Addr.add_lit, Nat.zero_add]; exact hs.rowCell (j := 2) rfl rfl hj
   refine Zd (n13 _ _ ?_)
   refine Zh fun N15 n15 => ?_
   refine Qn 9 [0, 0, 0, 6, 9, 0, 0, 96, 144] [494, 501, 499, 481, 224, 351, 319, 31, 0] [0, 0, 0, 6, 15, 0, 0, 96, 255] [] (fun _ => True) Vl (by kernel_rfl) (fun sh => ?_)
   have hs := hs.drew
   refine Zbf sh (i := 0) rfl rfl (by kernel_rfl) (fun w => Qk rfl) ?_
   refine Zbf sh (i := 1) rfl rfl (by kernel_rfl) (fun w => Qk rfl) ?_
   refine Zbf sh (i := 2) rfl rfl (by kernel_rfl) (fun w => Qk rfl) ?_
   refine Zbf sh (i := 3) rfl rfl (by kernel_rfl) (fun w => Hy rfl rfl) ?_
   rw [w2]
   refine Zbf sh (i := 4) rfl rfl (by kernel_rfl) (fun w => Zak Q7 rfl rfl (by omega) (by omega) hc') ?_
   refine Zbf sh (i := 5) rfl rfl (by kernel_rfl) (fun w => Qk rfl) ?_
   refine Zbf sh (i := 6) rfl rfl (by kernel_rfl) (fun w => Qk rfl) ?_
   refine Zbf sh (i := 7) rfl rfl (by kernel_rfl) (fun w => Zak Q7 rfl rfl (by omega) (by omega) hnc) ?_
   refine Zlj sh (i := 8) rfl (by kernel_rfl) (fun N16 n16 => ?_)
   refine Zd4 (j := 0) (vs := (xs.map (Value.int .i32)).drop k) (g := b) Q7 hs rfl rfl rfl rfl rfl (by rw [hdl]; simp only [Nat.min_def]; split <;> omega) (by simp [Zno, hz]; omega) (fun j y hj => ?_) (fun y hy => hone y (List.mem_of_mem_drop hy)) (fun w hs => ?_)
   ·rw [Addr.add_lit, Nat.zero_add]
    rw [List.getElem?_drop] at hj
    exact hs.rowCell (j := 1) rfl rfl hj
   refine Zd (n16 _ _ (fun _ _ => trivial) ?_)
   refine Zhn sh (by kernel_rfl) (n15 _ _ ?_)
   refine Zh fun N17 n17 => ?_
   refine Zc ?_
   refine O_y rfl (Qk rfl) ?_
   refine O_y rfl (Xv rfl) ?_
   refine Zd (n17 _ _ ?_)
   refine Zk ?_
   refine Ztn rfl rfl (hfin _ _ ?_)
   have e : (Zc5 xs k z).map (Value.int .i32) = wl ((xs.map (Value.int .i32)).drop k) (0 + (k + 1)) (wl [.int .i32 z] (0 + k) ((xs.map (Value.int .i32)).take k ++ zs)) := by
    rw [Nat.zero_add, Nat.zero_add, Zq1 _ _ _ _ k (by simp; omega) (by rw [hdl, hz]; omega)]
    simp [Zc5, hik]
   rw [e]
   exact hs.sub (.cons_cons _ (.cons _ (.cons _ (List.Sublist.refl _))))
  ·refine Ua (n10 _ _ ?_)
   have hcn : n + 1 ≤ c := by omega
   refine Zh fun N12 n12 => ?_
   refine Zc ?_
   refine O_y rfl (Qk rfl) ?_
   refine O_y rfl (Qk rfl) ?_
   refine O_y rfl (Qk rfl) ?_
   refine O_y rfl (Hy rfl rfl) ?_
   rw [w1]
   refine O_y rfl (Zj0 Q7 rfl rfl (by omega) (by omega)) ?_
   have e1 : ((n + 1 : Nat) : Int).toNat = n + 1 := by omega
   rw [e1]
   refine O_y rfl (Xv rfl) ?_
   refine Zd (n12 _ _ ?_)
   obtain ⟨y0, hs⟩ := hs.rowRoom (j := 0) rfl hcn
   refine Zh fun N13 n13 => ?_
   refine Zh fun M13 m13 => ?_
   refine Zc ?_
   refine O_y rfl (Qk rfl) ?_
   refine O_y rfl (Qk rfl) ?_
   refine O_y rfl (Qk rfl) ?_
   refine O_y rfl (Qk rfl) ?_
   refine O_y rfl (Hy rfl rfl) ?_
   rw [w2]
   refine O_y rfl (Zak Q7 rfl rfl (by omega) (by omega) hcn) ?_
   refine O_y rfl (Zwb (r := .bool false) rfl ?_) ?_
   ·have hu : w.ownsRow 0 21 1 (.slice (some ⟨gu, 0, none⟩) 1 cu) 1 _ := hs.ok _ (List.mem_of_getElem? (i := 1) rfl)
    have hv : w.ownsRow 0 21 1 (.slice (some ⟨gb, 0, none⟩) (n + 1) c) (n + 1) _ := hs.ok _ (List.mem_of_getElem? (i := 0) rfl)
    obtain ⟨cA, hA⟩ : ∃ cA, w.heap[gu]? = some (.cells cA 21 (0, 0)) := by
     rcases hu.2 with ⟨h, _⟩ | ⟨q, cap, cur, h, _, hh, _⟩
     ·cases h
     ·cases h; exact ⟨_, hh⟩
    obtain ⟨cB, hB, hBz⟩ : ∃ cB, w.heap[gb]? = some (.cells cB 21 (0, 0)) ∧ cB.size ≠ 0 := by
     rcases hv.2 with ⟨h, _⟩ | ⟨q, cap, cur, h, _, hh, h3, _, h5, _⟩
     ·cases h
     ·cases h; exact ⟨_, hh, by omega⟩
    rw [run_callFunc_extern Tryz.func176 (by kernel_rfl) (by kernel_rfl) (by kernel_rfl) (e := Extern.SlicesOverlaps.overlaps #[28, 28] #[4]) (by kernel_rfl),
     Lib.run_overlaps_apart w 28 4 21 V2 1 (fun w => Us Zf0) ⟨gu, 0, none⟩ ⟨gb, 0 + (k + 1), none⟩ 1 cu _ _ hne 21 21 cA.size cB.size (by simp [World.shape?, hA]) (by simp [World.shape?, hB]) hBz (by simp [World.frozen?, hA]) (by simp [World.frozen?, hA])]
    rfl
   refine O_y rfl (Zr4 rfl) ?_
   refine Zd (m13 _ _ ?_)
   refine Zac rfl ?_
   refine Zh fun N15 n15 => ?_
   refine Qn 9 [0, 0, 0, 6, 9, 0, 0, 96, 144] [494, 501, 499, 481, 224, 351, 319, 31, 0] [0, 0, 0, 6, 15, 0, 0, 96, 255] [] (fun _ => True) Vl (by kernel_rfl) (fun sh => ?_)
   have hs := hs.drew
   refine Zbf sh (i := 0) rfl rfl (by kernel_rfl) (fun w => Qk rfl) ?_
   refine Zbf sh (i := 1) rfl rfl (by kernel_rfl) (fun w => Qk rfl) ?_
   refine Zbf sh (i := 2) rfl rfl (by kernel_rfl) (fun w => Qk rfl) ?_
   refine Zbf sh (i := 3) rfl rfl (by kernel_rfl) (fun w => Hy rfl rfl) ?_
   rw [w2]
   refine Zbf sh (i := 4) rfl rfl (by kernel_rfl) (fun w => Zak Q7 rfl rfl (by omega) (by omega) hcn) ?_
   refine Zbf sh (i := 5) rfl rfl (by kernel_rfl) (fun w => Qk rfl) ?_
   refine Zbf sh (i := 6) rfl rfl (by kernel_rfl) (fun w => Qk rfl) ?_
   refine Zbf sh (i := 7) rfl rfl (by kernel_rfl) (fun w => Zak Q7 rfl rfl (by omega) (by omega) hcn) ?_
   refine Zlj sh (i := 8) rfl (by kernel_rfl) (fun N16 n16 => ?_)
   refine Zd4 (j := 0) (vs := (xs.map (Value.int .i32)).drop k) (g := gb) Q7 hs rfl rfl rfl rfl rfl (by rw [hdl]; simp only [Nat.min_def]; split <;> omega) (by simp; omega) (fun j y hj => ?_) (fun y hy => hone y (List.mem_of_mem_drop hy)) (fun w hs => ?_)
   ·rw [Addr.add_lit, Nat.zero_add]
    rw [List.getElem?_drop] at hj
    exact hs.rowCell (j := 0) rfl rfl (by rw [List.getElem?_append_left (List.getElem?_eq_some_iff.1 hj).1]; exact hj)
   refine Zd (n16 _ _ (fun _ _ => trivial) ?_)
   refine Zhn sh (by kernel_rfl) (n15 _ _ ?_)
   refine Zh fun N17 n17 => ?_
   refine Zc ?_
   refine O_y rfl (Qk rfl) ?_
   refine O_y rfl (Qk rfl) ?_
   refine O_y rfl (Zak Q7 rfl rfl (by omega) (by omega) hcn) ?_
   refine O_y rfl (Qk rfl) ?_
   refine Zd4 (j := 0) (vs := [.int .i32 z]) (g := gb) Q7 hs rfl rfl rfl rfl rfl (by simp only [Nat.min_def]; split <;> simp <;> omega) (by simp [Zno]; omega) (fun j y hj => ?_) (by intro y hy; simp at hy; subst hy; rfl) (fun w hs => ?_)
   ·rw [Addr.add_lit, Nat.zero_add]; exact hs.rowCell (j := 1) rfl rfl hj
   refine Zd (n17 _ _ ?_)
   refine Zh fun N18 n18 => ?_
   refine Zc ?_
   refine O_y rfl (Qk rfl) ?_
   refine O_y rfl (Xv rfl) ?_
   refine Zd (n18 _ _ ?_)
   refine Zk ?_
   refine Ztn rfl rfl (hfin _ _ ?_)
   have e : (Zc5 xs k z).map (Value.int .i32) = wl [.int .i32 z] (0 + k) (wl ((xs.map (Value.int .i32)).drop k) (0 + (k + 1)) (xs.map (Value.int .i32) ++ [y0])) := by
    have e0 : xs.map (Value.int .i32) = (xs.map (Value.int .i32)).take k ++ (xs.map (Value.int .i32)).drop k := (List.take_append_drop k _).symm
    rw [Nat.zero_add, Nat.zero_add]
    rw [show wl ((xs.map (Value.int .i32)).drop k) (k + 1) (xs.map (Value.int .i32) ++ [y0]) = wl ((xs.map (Value.int .i32)).drop k) (k + 1) ((xs.map (Value.int .i32)).take k ++ (xs.map (Value.int .i32)).drop k ++ [y0]) from by rw [← e0]]
    rw [Zso _ _ _ _ k (by simp; omega)]
    simp [Zc5, hik]
   rw [e]
   exact hs.sub (.cons_cons _ (.cons _ (List.Sublist.refl _)))
end Go.Proofs.YthoicbafdanmkaaGreatDoor
/- Written by this repo's gen.py: for each Go function a Lean function with the same answers and the walk that shows it. -/
namespace Go.Proofs.YthoicbafdanmkaaGreatDoor
open Go.IntKind (i8 i16 i32 i64 u8 u16 u32 u64)
open Go.RowKit
set_option maxRecDepth 100000
set_option maxHeartbeats 4000000
variable {w0 w : World} {ρ : Hp} {Γ : List Q5}
set_option linter.unusedVariables false
def X0.l1 : Nat → Int → Int → Int → Int → Int → Int → Int → Int → List Int → Bool → Int → Option Int
  | 0, _, _, _, _, _, _, _, _, _, _, _ => none
  | ab + 1, y0_0, y0_1, y0_2, y0_3, y0_4, y0_5, y0_6, y0_7, x0, x2, aa => if aa < (x0.length : Int) then (if (0 : Int) ≤ aa ∧ aa ≤ (x0.length : Int) ∧ (x0.length : Int) ≤ (x0.length : Int) then ((Yt.f (sub x0 aa (x0.length : Int))).bind fun ad => ((Vb.f ad.1 y0_0 y0_1 y0_2 y0_3 y0_4 y0_5 y0_6 y0_7).bind fun aj => (if (aj == x2) = true then (some aa) else ((X0.l1 ab y0_0 y0_1 y0_2 y0_3 y0_4 y0_5 y0_6 y0_7 x0 x2) (i64.wrap (aa + ad.2)))))) else none) else (some (-1))
def X0.f (x0 : List Int) (x2 : Bool) (y0_0 y0_1 y0_2 y0_3 y0_4 y0_5 y0_6 y0_7 : Int) : Option Int := X0.l1 K0 y0_0 y0_1 y0_2 y0_3 y0_4 y0_5 y0_6 y0_7 x0 x2 0
theorem X0.c {pb0 : Nat} {y0_0 y0_1 y0_2 y0_3 y0_4 y0_5 y0_6 y0_7 : Int} (hs : St w0 ρ ((.box pb0 117 ([.int .i64 y0_0, .int .i64 y0_1, .int .i64 y0_2, .int .i64 y0_3, .int .i64 y0_4, .int .i64 y0_5, .int .i64 y0_6, .int .u8 y0_7])) :: Γ) w) {v0 : Value} {x0 : List Int} (h0 : SlR (Rep.int .u8) ρ v0 x0) {x2 : Bool} {r : Int} (H : X0.f x0 x2 y0_0 y0_1 y0_2 y0_3 y0_4 y0_5 y0_6 y0_7 = some r) : Zn Tryz.prog 160 [v0, .func (.func 126) #[] #[.pointer (some ⟨pb0, 0, none⟩)], .bool x2] w (fun v w' => v = .int .i64 r ∧ St w0 ρ ((.box pb0 117 ([.int .i64 y0_0, .int .i64 y0_1, .int .i64 y0_2, .int .i64 y0_3, .int .i64 y0_4, .int .i64 y0_5, .int .i64 y0_6, .int .u8 y0_7])) :: Γ) w') := by
 rw [X0.f] at H
 refine Et Tryz.func160 Tryz.ntmps160 rfl <| Wr fun az ak => As rfl <| Ox ak <| Wr fun a0 al => As rfl <| Ox al <| Zh fun a1 am => Zj fun a2 an a3 => Y9 (σ := Nat × Int) (fun (ab, aa) => [(0, v0), (1, .func (.func 126) #[] #[.pointer (some ⟨pb0, 0, none⟩)]), (2, .bool x2), (7, .int .i64 aa)]) (fun (ab, aa) w => X0.l1 ab y0_0 y0_1 y0_2 y0_3 y0_4 y0_5 y0_6 y0_7 x0 x2 aa = some r ∧ St w0 ρ ((.box pb0 117 ([.int .i64 y0_0, .int .i64 y0_1, .int .i64 y0_2, .int .i64 y0_3, .int .i64 y0_4, .int .i64 y0_5, .int .i64 y0_6, .int .u8 y0_7])) :: Γ) w) (fun s => s.1) (K0, 0) (T4 rfl) (Ai H hs) ?_
 rintro ⟨ab, aa⟩ w a4 ⟨H, hs⟩ ac
 show W _ _ _ _ _ _ [(0, v0), (1, .func (.func 126) #[] #[.pointer (some ⟨pb0, 0, none⟩)]), (2, .bool x2), (7, .int .i64 aa)] w
 cases ab with
 | zero => rw [X0.l1] at H; cases H
 | succ ab =>
 rw [X0.l1] at H
 refine Zh fun a5 ao => Wr fun a6 ap => Mv rfl <| Mv rfl <| O_y rfl (Yv Zmx h0 rfl) <| Ols rfl <| Ox ap <| Y7 rfl (fun ae => ?_) (fun ae => ?_)
 rw [if_pos ae] at H
 refine Wx ao <| Zj fun a7 a8 a9 => Wr fun ba aq => Mv rfl <| Mv rfl ?_
 obtain ⟨af, H⟩ := gd H
 obtain ⟨bb, ar, au⟩ := h0.cut Zg8 af.1 af.2.1 af.2.2
 refine O_y rfl (au rfl (.inr ⟨_, _, rfl, rfl⟩) (.inl ⟨rfl, rfl⟩)) ?_
 obtain ⟨ad, ag, H⟩ := bnd H
 refine Oc rfl (Yt.c hs ar ag) (fun bc w hpost => ?_)
 obtain ⟨rfl, hs⟩ := hpost
 refine Mv rfl <| Oxt rfl <| Oxt rfl <| As rfl <| As rfl <| Ox aq <| W.weak [(0, _), (1, _), (2, _), (7, _), (8, _), (9, _)] sbn ?_
 refine Zh fun bd av => Wr fun be aw => Mv rfl <| Mv rfl ?_
 obtain ⟨aj, ah, H⟩ := bnd H
 refine Xo rfl rfl rfl (Vb.c hs ah) (fun bf w hpost => ?_)
 obtain ⟨rfl, hs⟩ := hpost
 refine Mv rfl <| O_y rfl (Zvr un4 rfl rfl) <| Ox aw <| Xg rfl (fun ai => ?_) (fun ai => ?_)
 rw [if_pos ai] at H
 refine Wr fun bg ax => Mv rfl <| As rfl <| Ox ax <| Zk ?_
 obtain rfl := Zz H
 exact r1 rfl ⟨rfl, hs⟩
 rw [if_neg (bft ai)] at H
 refine Wx av <| Zc <| Mv rfl <| Mv rfl <| Oad rfl <| As rfl <| Zd (ac (ab, (i64.wrap (aa + ad.2))) _ _ (T4 rfl) (Ai H hs) (Nat.lt_succ_self _))
 rw [if_neg ae] at H
 refine Y4 (an _ _ (am _ _ <| Wr fun bh ay => As rfl <| Ox ay <| Zk ?_))
 obtain rfl := Zz H
 exact r1 rfl ⟨rfl, hs⟩

def Vq.f (x0 : List Int) (y0_0 y0_1 y0_2 y0_3 y0_4 y0_5 y0_6 y0_7 : Int) : Option Int := (X0.f x0 true y0_0 y0_1 y0_2 y0_3 y0_4 y0_5 y0_6 y0_7).bind fun ab => (some ab)
theorem Vq.c {pb0 : Nat} {y0_0 y0_1 y0_2 y0_3 y0_4 y0_5 y0_6 y0_7 : Int} (hs : St w0 ρ ((.box pb0 117 ([.int .i64 y0_0, .int .i64 y0_1, .int .i64 y0_2, .int .i64 y0_3, .int .i64 y0_4, .int .i64 y0_5, .int .i64 y0_6, .int .u8 y0_7])) :: Γ) w) {v0 : Value} {x0 : List Int} (h0 : SlR (Rep.int .u8) ρ v0 x0) {r : Int} (H : Vq.f x0 y0_0 y0_1 y0_2 y0_3 y0_4 y0_5 y0_6 y0_7 = some r) : Zn Tryz.prog 125 [v0, .func (.func 126) #[] #[.pointer (some ⟨pb0, 0, none⟩)]] w (fun v w' => v = .int .i64 r ∧ St w0 ρ ((.box pb0 117 ([.int .i64 y0_0, .int .i64 y0_1, .int .i64 y0_2, .int .i64 y0_3, .int .i64 y0_4, .int .i64 y0_5, .int .i64 y0_6, .int .u8 y0_7])) :: Γ) w') := by
 rw [Vq.f] at H
 refine Et Tryz.func125 Tryz.ntmps125 rfl <| Wr fun ae ac => As rfl <| Ox ac <| Wr fun af ad => Mv rfl <| Mv rfl ?_
 obtain ⟨ab, aa, H⟩ := bnd H
 refine Oc rfl (X0.c hs h0 aa) (fun ag w hpost => ?_)
 obtain ⟨rfl, hs⟩ := hpost
 refine As rfl <| Ox ad <| Zk ?_
 obtain rfl := Zz H
 exact r1 rfl ⟨rfl, hs⟩

def Ka.j1 (x0 : Int) (aa : Bool) : Option Int := if aa = true then (some (i64.wrap ((i64.wrap (u8.wrap (x0 - 48))) + 26))) else (some (-1))
def Ka.j2 (x0 : Int) (ab : Bool) : Option Int := if ab = true then (some (i64.wrap (u8.wrap (x0 - 65)))) else (if 48 ≤ x0 then (Ka.j1 x0 (decide (x0 ≤ 57))) else (Ka.j1 x0 false))
def Ka.j3 (x0 : Int) (ac : Bool) : Option Int := if ac = true then (some (i64.wrap (u8.wrap (x0 - 97)))) else (if 65 ≤ x0 then (Ka.j2 x0 (decide (x0 ≤ 90))) else (Ka.j2 x0 false))
def Ka.f (x0 : Int) : Option Int := if 97 ≤ x0 then (Ka.j3 x0 (decide (x0 ≤ 122))) else (Ka.j3 x0 false)
theorem Ka.c (hs : St w0 ρ (Γ) w) {x0 r : Int} (H : Ka.f x0 = some r) : Zn Tryz.prog 183 [.int .u8 x0] w (fun v w' => v = .int .i64 r ∧ St w0 ρ Γ w') := by
 rw [Ka.f] at H
 refine Et Tryz.func183 Tryz.ntmps183 rfl <| Wr fun a3 ap => As rfl <| Ox ap <| Zh fun a4 aq => Zj fun a5 a6 a7 => Yu fun ar au aj => ?_
 have ak : ∀ (ac : Bool) (w : World), Ka.j3 x0 ac = some r → St w0 ρ (Γ) w → ar [(0, .int .u8 x0), (3, .bool ac)] w := by
  intro ac w H hs
  rw [Ka.j3] at H
  refine au _ _ <| Xg rfl (fun ad => ?_) (fun ad => ?_)
  rw [if_pos ad] at H
  refine Wr fun a8 av => Mv rfl <| Osu rfl <| O_y rfl (V4 un5 un3 rfl) <| As rfl <| Ox av <| Zk ?_
  obtain rfl := Zz H
  exact r1 rfl ⟨rfl, hs⟩
  rw [if_neg (bft ad)] at H
  refine Yu fun aw ax al => ?_
  have am : ∀ (ab : Bool) (w : World), Ka.j2 x0 ab = some r → St w0 ρ (Γ) w → aw [(0, .int .u8 x0), (13, .bool ab)] w := by
   intro ab w H hs
   rw [Ka.j2] at H
   refine ax _ _ <| Xg rfl (fun ae => ?_) (fun ae => ?_)
   rw [if_pos ae] at H
   refine Wr fun a9 ay => Mv rfl <| Osu rfl <| O_y rfl (V4 un5 un3 rfl) <| As rfl <| Ox ay <| Zk ?_
   obtain rfl := Zz H
   exact r1 rfl ⟨rfl, hs⟩
   rw [if_neg (bft ae)] at H
   refine Yu fun az a0 an => ?_
   have ao : ∀ (aa : Bool) (w : World), Ka.j1 x0 aa = some r → St w0 ρ (Γ) w → az [(0, .int .u8 x0), (23, .bool aa)] w := by
    intro aa w H hs
    rw [Ka.j1] at H
    refine a0 _ _ <| Xg rfl (fun af => ?_) (fun af => ?_)
    rw [if_pos af] at H
    refine Wr fun ba a1 => Mv rfl <| Osu rfl <| O_y rfl (V4 un5 un3 rfl) <| Oad rfl <| As rfl <| Ox a1 <| Zk ?_
    obtain rfl := Zz H
    exact r1 rfl ⟨rfl, hs⟩
    rw [if_neg (bft af)] at H
    refine Wx aq <| Wr fun bb a2 => As rfl <| Ox a2 <| Zk ?_
    obtain rfl := Zz H
    exact r1 rfl ⟨rfl, hs⟩
   refine Zc <| Mv rfl <| Oge rfl <| Mv rfl <| X6 (dj := 26) rfl (fun ag => ?_) (fun ag => ?_)
   rw [if_pos ag] at H
   refine Oe rfl <| Mv rfl <| Oe rfl <| Ole rfl <| Opk rfl <| As rfl <| Zd (an _ _ _ (T2 rfl) (ao (decide (x0 ≤ 57)) _ H hs))
   rw [if_neg ag] at H
   refine On rfl <| On rfl <| Opk rfl <| As rfl <| Zd (an _ _ _ (T2 rfl) (ao false _ H hs))
  refine Zc <| Mv rfl <| Oge rfl <| Mv rfl <| X6 (dj := 16) rfl (fun ah => ?_) (fun ah => ?_)
  rw [if_pos ah] at H
  refine Oe rfl <| Mv rfl <| Oe rfl <| Ole rfl <| Opk rfl <| As rfl <| Zd (al _ _ _ (T2 rfl) (am (decide (x0 ≤ 90)) _ H hs))
  rw [if_neg ah] at H
  refine On rfl <| On rfl <| Opk rfl <| As rfl <| Zd (al _ _ _ (T2 rfl) (am false _ H hs))
 refine Zc <| Mv rfl <| Oge rfl <| Mv rfl <| X6 (dj := 6) rfl (fun ai => ?_) (fun ai => ?_)
 rw [if_pos ai] at H
 refine Oe rfl <| Mv rfl <| Oe rfl <| Ole rfl <| Opk rfl <| As rfl <| Zd (aj _ _ _ (T2 rfl) (ak (decide (x0 ≤ 122)) _ H hs))
 rw [if_neg ai] at H
 refine On rfl <| On rfl <| Opk rfl <| As rfl <| Zd (aj _ _ _ (T2 rfl) (ak false _ H hs))

def V7.f (x0 : S11) (x1 : Int) : Option Int := (Ka.f x1).bind fun aa => (if aa < x0.base then (some aa) else (some (-1)))
theorem V7.c (hs : St w0 ρ (Γ) w) {c0 : List Value} {x0 : S11} (h0 : Zde.R ρ c0 x0) {x1 r : Int} (H : V7.f x0 x1 = some r) : Zn Tryz.prog 175 [.agg c0.toArray, .int .u8 x1] w (fun v w' => v = .int .i64 r ∧ St w0 ρ Γ w') := by
 rw [V7.f] at H
 refine Et Tryz.func175 Tryz.ntmps175 rfl ?_
 have ad := h0
 obtain rfl := ad
 refine Wr fun ak ae => Vg (cs := [.int .i64 x0.base, .int .i64 x0.least, .int .i64 x0.most, .int .i64 x0.skew, .int .i64 x0.damp, .int .i64 x0.bias, .int .i64 x0.first, .int .u8 x0.between]) hs rfl rfl (fun al w hs => As rfl <| Ox ae <| Zh fun am af => Wr fun an ag => Mv rfl ?_)
 obtain ⟨aa, ab, H⟩ := bnd H
 refine Oc rfl (Ka.c hs ab) (fun ao w hpost => ?_)
 obtain ⟨rfl, hs⟩ := hpost
 refine As rfl <| Ox ag <| Wr fun ap ah => Mv rfl <| Ofd Zbi rfl <| Obx 0 ag3 hs rfl <| Ols rfl <| Ox ah <| Y7 rfl (fun ac => ?_) (fun ac => ?_)
 rw [if_pos ac] at H
 refine Wr fun aq ai => Mv rfl <| As rfl <| Ox ai <| Zk ?_
 obtain rfl := Zz H
 exact r1 rfl ⟨rfl, (hs.sub (ssk ssr))⟩
 rw [if_neg ac] at H
 refine Wx af <| Wr fun ar aj => As rfl <| Ox aj <| Zk ?_
 obtain rfl := Zz H
 exact r1 rfl ⟨rfl, (hs.sub (ssk ssr))⟩

def Ko.f (x0 : S11) (x1 x2 : Int) : Option Int := some (min (max (i64.wrap (x1 - x2)) x0.least) x0.most)
theorem Ko.c (hs : St w0 ρ (Γ) w) {c0 : List Value} {x0 : S11} (h0 : Zde.R ρ c0 x0) {x1 x2 r : Int} (H : Ko.f x0 x1 x2 = some r) : Zn Tryz.prog 157 [.agg c0.toArray, .int .i64 x1, .int .i64 x2] w (fun v w' => v = .int .i64 r ∧ St w0 ρ Γ w') := by
 rw [Ko.f] at H
 refine Et Tryz.func157 Tryz.ntmps157 rfl ?_
 have aa := h0
 obtain rfl := aa
 refine Wr fun ad ab => Vg (cs := [.int .i64 x0.base, .int .i64 x0.least, .int .i64 x0.most, .int .i64 x0.skew, .int .i64 x0.damp, .int .i64 x0.bias, .int .i64 x0.first, .int .u8 x0.between]) hs rfl rfl (fun ae w hs => As rfl <| Ox ab <| Wr fun af ac => Mv rfl <| Mv rfl <| Osu rfl <| Ofd Zo6 rfl <| Obx 0 ag3 hs rfl <| O_y rfl (Zrj rfl rfl) <| Ofd Zoi rfl ?_)
 refine Obx 0 ag3 hs rfl <| O_y rfl (Zr1 rfl rfl) <| As rfl <| Ox ac <| Zk ?_
 obtain rfl := Zz H
 exact r1 rfl ⟨rfl, (hs.sub (ssk ssr))⟩

def Xq.l1 : Nat → Int → Int → Int → Int → Int → Int → Int → Int → ByteArray → Int → Int → Int → Int → Int → Option (Int × Int × Int × Int)
  | 0, _, _, _, _, _, _, _, _, _, _, _, _, _, _ => none
  | ae + 1, y0_0, y0_1, y0_2, y0_3, y0_4, y0_5, y0_6, y0_7, y0_8, y0_13, aa, ab, ac, ad => if aa = (y0_8.size : Int) then (some (aa, 140, aa, ab)) else (if (0 : Int) ≤ aa ∧ aa < (y0_8.size : Int) then ((V7.f (⟨y0_0, y0_1, y0_2, y0_3, y0_4, y0_5, y0_6, y0_7⟩ : S11) (bt y0_8 aa)).bind fun ag => (if ag < 0 then (some (aa, 140, aa, ab)) else (if 2147483647 < (i64.wrap (ab + (i64.wrap (ag * ac)))) then (some (aa, 142, i64.wrap (aa + 1), i64.wrap (ab + (i64.wrap (ag * ac))))) else ((Ko.f (⟨y0_0, y0_1, y0_2, y0_3, y0_4, y0_5, y0_6, y0_7⟩ : S11) ad y0_13).bind fun af => (if ag < af then (some (0, 0, i64.wrap (aa + 1), i64.wrap (ab + (i64.wrap (ag * ac))))) else (if 2147483647 < (i64.wrap (ac * (i64.wrap (y0_0 - af)))) then (some (aa, 142, i64.wrap (aa + 1), i64.wrap (ab + (i64.wrap (ag * ac))))) else ((Xq.l1 ae y0_0 y0_1 y0_2 y0_3 y0_4 y0_5 y0_6 y0_7 y0_8 y0_13) (i64.wrap (aa + 1)) (i64.wrap (ab + (i64.wrap (ag * ac)))) (i64.wrap (ac * (i64.wrap (y0_0 - af)))) (i64.wrap (ad + y0_0))))))))) else none)
def Xq.f (y0_0 y0_1 y0_2 y0_3 y0_4 y0_5 y0_6 y0_7 : Int) (y0_8 : ByteArray) (y0_9 y0_11 y0_12 y0_13 : Int) (y1 : List Int) : Option (Int × Int × Int × Int) := Xq.l1 K0 y0_0 y0_1 y0_2 y0_3 y0_4 y0_5 y0_6 y0_7 y0_8 y0_13 y0_9 y0_12 1 y0_0
theorem Xq.c {pb0 : Nat} {y0_0 y0_1 y0_2 y0_3 y0_4 y0_5 y0_6 y0_7 : Int} {y0_8 : ByteArray} {y0_9 y0_11 y0_12 y0_13 : Int} {w1 : Value} {d1 : List Value} {y1 : List Int} (hs : St w0 ρ ((.box pb0 163 ([.int .i64 y0_0, .int .i64 y0_1, .int .i64 y0_2, .int .i64 y0_3, .int .i64 y0_4, .int .i64 y0_5, .int .i64 y0_6, .int .u8 y0_7, .string y0_8, .int .i64 y0_9, w1, .int .i64 y0_11, .int .i64 y0_12, .int .i64 y0_13])) :: (.row w1 21 ((Rep.int .i32).sz) y1.length d1) :: Γ) w) (g1 : Zm (Rep.int .i32) ρ d1 y1) {r : Int × Int × Int × Int} (H : Xq.f y0_0 y0_1 y0_2 y0_3 y0_4 y0_5 y0_6 y0_7 y0_8 y0_9 y0_11 y0_12 y0_13 y1 = some r) : Zn Tryz.prog 161 [.pointer (some ⟨pb0, 0, none⟩)] w (fun v w' => v = .tuple #[.int .i64 r.1, .int .i64 r.2.1] ∧ St w0 ρ ((.box pb0 163 ([.int .i64 y0_0, .int .i64 y0_1, .int .i64 y0_2, .int .i64 y0_3, .int .i64 y0_4, .int .i64 y0_5, .int .i64 y0_6, .int .u8 y0_7, .string y0_8, .int .i64 r.2.2.1, w1, .int .i64 y0_11, .int .i64 r.2.2.2, .int .i64 y0_13])) :: (.row w1 21 ((Rep.int .i32).sz) y1.length d1) :: Γ) w') := by
 rw [Xq.f] at H
 refine Et Tryz.func161 Tryz.ntmps161 rfl <| Wr fun bs a1 => As rfl <| As rfl <| Ox a1 <| Wr fun bu a2 => As rfl <| Ox a2 <| Wr fun bv a3 => Mv rfl <| Onp rfl ?_
 refine Ofd Zed rfl <| Ofd Zbi rfl <| Obx 0 ag3 hs rfl <| As rfl <| Ox a3 <| Zj fun bw bx bz => Y9 (σ := Nat × Int × Int × Int × Int) (fun (ae, aa, ab, ac, ad) => [(0, .pointer (some ⟨pb0, 0, none⟩)), (4, .int .i64 ac), (5, .int .i64 ad)]) (fun (ae, aa, ab, ac, ad) w => Xq.l1 ae y0_0 y0_1 y0_2 y0_3 y0_4 y0_5 y0_6 y0_7 y0_8 y0_13 aa ab ac ad = some r ∧ St w0 ρ ((.box pb0 163 ([.int .i64 y0_0, .int .i64 y0_1, .int .i64 y0_2, .int .i64 y0_3, .int .i64 y0_4, .int .i64 y0_5, .int .i64 y0_6, .int .u8 y0_7, .string y0_8, .int .i64 aa, w1, .int .i64 y0_11, .int .i64 ab, .int .i64 y0_13])) :: (.row w1 21 ((Rep.int .i32).sz) y1.length d1) :: Γ) w) (fun s => s.1) (K0, y0_9, y0_12, 1, y0_0) (T3 rfl) (Ai H hs) ?_
 rintro ⟨ae, aa, ab, ac, ad⟩ w b0 ⟨H, hs⟩ ah
 show W _ _ _ _ _ _ [(0, .pointer (some ⟨pb0, 0, none⟩)), (4, .int .i64 ac), (5, .int .i64 ad)] w
 cases ae with
 | zero => rw [Xq.l1] at H; cases H
 | succ ae =>
 rw [Xq.l1] at H
 refine Zh fun b1 a4 => Zj fun b2 b3 b4 => Zh fun b5 a5 => Zh fun b6 a6 => Qn 10 [0, 1, 2, 4, 0, 16, 32, 64, 128, 264] [1020, 1016, 1008, 496, 975, 911, 783, 527, 15, 0] [0, 1, 3, 7, 0, 16, 48, 112, 240, 511] [] (fun w => St w0 ρ ((.box pb0 163 ([.int .i64 y0_0, .int .i64 y0_1, .int .i64 y0_2, .int .i64 y0_3, .int .i64 y0_4, .int .i64 y0_5, .int .i64 y0_6, .int .u8 y0_7, .string y0_8, .int .i64 aa, w1, .int .i64 y0_11, .int .i64 ab, .int .i64 y0_13])) :: (.row w1 21 ((Rep.int .i32).sz) y1.length d1) :: Γ) w) Vl (by kernel_rfl) (fun sh => ?_)
 have hs := hs.drew
 refine Fm 0 sh rfl <| Fp 1 sh rfl (fun w => K1 rfl) <| Fp 2 sh rfl (fun w => Zp Zbt rfl) <| Fy 3 sh rfl hs (fun w hs => Yb 0 ag3 hs rfl rfl rfl) <| Fm 4 sh rfl <| Fp 5 sh rfl (fun w => K1 rfl) <| Fp 6 sh rfl (fun w => Zp Zon rfl) <| Fy 7 sh rfl hs (fun w hs => Yb 0 ag9 hs rfl rfl rfl) <| Fp 8 sh rfl (fun w => Zd0 un9 rfl) <| Fp 9 sh rfl (fun w => Zbn rfl rfl) <| FE sh (a6 _ _ <| Y7 rfl (fun am => ?_) (fun am => ?_))
 rw [if_pos am] at H
 refine Wr fun b7 a7 => Mv rfl <| Onp rfl <| Ofd Zbt rfl <| Obx 0 ag3 hs rfl <| As rfl <| As rfl <| Ox a7 <| W.weak [(2, _), (3, _)] (T2 rfl) <| Zk ?_
 obtain rfl := Zz H
 exact Zbs rfl rfl rfl ⟨rfl, hs⟩
 rw [if_neg am] at H
 refine Wx a5 <| Wr fun b8 a8 => Mv rfl <| Onp rfl <| Ofd Zbt rfl <| Obx 0 ag3 hs rfl <| As rfl <| Ox a8 <| W.weak [(0, _), (4, _), (5, _), (6, _)] (T4 rfl) <| Zh fun b9 a9 => Qn 12 [0, 1, 2, 4, 0, 16, 32, 64, 0, 384, 520, 2047] [2044, 2040, 2032, 1008, 1999, 1935, 1807, 1295, 1279, 15, 0, 0] [0, 1, 3, 7, 0, 16, 48, 112, 0, 496, 1023, 2047] [10, 11] (fun w => St w0 ρ ((.box pb0 163 ([.int .i64 y0_0, .int .i64 y0_1, .int .i64 y0_2, .int .i64 y0_3, .int .i64 y0_4, .int .i64 y0_5, .int .i64 y0_6, .int .u8 y0_7, .string y0_8, .int .i64 aa, w1, .int .i64 y0_11, .int .i64 ab, .int .i64 y0_13])) :: (.row w1 21 ((Rep.int .i32).sz) y1.length d1) :: Γ) w) Vl (by kernel_rfl) (fun sh => ?_)
 have hs := hs.drew
 refine Fm 0 sh rfl <| Fp 1 sh rfl (fun w => K1 rfl) <| Fp 2 sh rfl (fun w => Zp Zed rfl) <| Fy 3 sh rfl hs (fun w hs => Xk (i := 0) Zc8 Zda hs rfl rfl rfl rfl) <| Fm 4 sh rfl <| Fp 5 sh rfl (fun w => K1 rfl) <| Fp 6 sh rfl (fun w => Zp Zon rfl) <| Fy 7 sh rfl hs (fun w hs => Yb 0 ag9 hs rfl rfl rfl) <| Fm 8 sh rfl ?_
 obtain ⟨a0, H⟩ := gd H
 refine Fp 9 sh rfl (fun w => Zs4 un9 rfl rfl a0.1 a0.2) <| F1 10 sh rfl (fun ca ba => ?_)
 obtain ⟨ag, an, H⟩ := bnd H
 refine Oc rfl (V7.c hs (show Zde.R ρ _ (⟨y0_0, y0_1, y0_2, y0_3, y0_4, y0_5, y0_6, y0_7⟩ : S11) from rfl) an) (fun cb w hpost => ?_)
 obtain ⟨rfl, hs⟩ := hpost
 refine Zd (ba _ _ (fun h _ => absurd h (by decide)) <| Ke sh [] hs (by kernel_rfl) <| Fp 11 sh rfl (fun w => Xv rfl) <| FE sh (a9 _ _ <| W.weak [(0, _), (4, _), (5, _), (6, _), (7, _)] sbn ?_))
 refine Zh fun cc bb => Wr fun cd bc => Mv rfl <| Ols rfl <| Ox bc <| Y7 rfl (fun ao => ?_) (fun ao => ?_)
 rw [if_pos ao] at H
 refine Wr fun ce bd => Mv rfl <| As rfl <| As rfl <| Ox bd <| Zk ?_
 obtain rfl := Zz H
 exact Zbs rfl rfl rfl ⟨rfl, hs⟩
 rw [if_neg ao] at H
 refine Wx bb <| Wr fun cf be => Mv rfl <| Onp rfl <| Ofd Zbt rfl <| Obx 0 ag3 hs rfl <| Oad rfl <| Onp rfl <| Ofd Zbt rfl <| Vu (i := 0) sz3 hs rfl rfl rfl rfl rfl (fun w hs => Ox be <| Zh fun cg bf => Zh fun ch bg => ?_)
 refine Zc <| Mv rfl <| Onp rfl <| Ofd Zbd rfl <| Obx 0 ag3 hs rfl <| Mv rfl <| Mv rfl <| Oml rfl <| Oad rfl <| Onp rfl <| Ofd Zbd rfl <| Vu (i := 0) sz3 hs rfl rfl rfl rfl rfl (fun w hs => Ox bg <| W.weak [(0, _), (4, _), (5, _), (6, _), (7, _)] sbn ?_)
 refine Wr fun ci bh => Mv rfl <| Onp rfl <| Ofd Zbd rfl <| Obx 0 ag3 hs rfl <| Ogt rfl <| Ox bh <| Y7 rfl (fun ai => ?_) (fun ai => ?_)
 rw [if_pos ai] at H
 refine Wr fun bi ap => Mv rfl <| As rfl <| As rfl <| Ox ap <| Zk ?_
 obtain rfl := Zz H
 exact Zbs rfl rfl rfl ⟨rfl, hs⟩
 rw [if_neg ai] at H
 refine Wx bf <| Zh fun bj aq => Qn 11 [0, 1, 2, 4, 0, 0, 32, 64, 128, 280, 1023] [1020, 1016, 1008, 496, 495, 927, 799, 543, 31, 0, 0] [0, 1, 3, 7, 0, 0, 32, 96, 224, 511, 1023] [9, 10] (fun w => St w0 ρ ((.box pb0 163 ([.int .i64 y0_0, .int .i64 y0_1, .int .i64 y0_2, .int .i64 y0_3, .int .i64 y0_4, .int .i64 y0_5, .int .i64 y0_6, .int .u8 y0_7, .string y0_8, .int .i64 (i64.wrap (aa + 1)), w1, .int .i64 y0_11, .int .i64 (i64.wrap (ab + (i64.wrap (ag * ac)))), .int .i64 y0_13])) :: (.row w1 21 ((Rep.int .i32).sz) y1.length d1) :: Γ) w) Vl (by kernel_rfl) (fun sh => ?_)
 have hs := hs.drew
 refine Fm 0 sh rfl <| Fp 1 sh rfl (fun w => K1 rfl) <| Fp 2 sh rfl (fun w => Zp Zed rfl) <| Fy 3 sh rfl hs (fun w hs => Xk (i := 0) Zc8 Zda hs rfl rfl rfl rfl) <| Fm 4 sh rfl <| Fm 5 sh rfl <| Fp 6 sh rfl (fun w => K1 rfl) <| Fp 7 sh rfl (fun w => Zp Zo2 rfl) <| Fy 8 sh rfl hs (fun w hs => Yb 0 ag3 hs rfl rfl rfl) <| F1 9 sh rfl (fun bk ar => ?_)
 obtain ⟨af, al, H⟩ := bnd H
 refine Oc rfl (Ko.c hs (show Zde.R ρ _ (⟨y0_0, y0_1, y0_2, y0_3, y0_4, y0_5, y0_6, y0_7⟩ : S11) from rfl) al) (fun bl w hpost => ?_)
 obtain ⟨rfl, hs⟩ := hpost
 refine Zd (ar _ _ (fun h _ => absurd h (by decide)) <| Ke sh [] hs (by kernel_rfl) <| Fp 10 sh rfl (fun w => Xv rfl) <| FE sh (aq _ _ <| W.weak [(0, _), (4, _), (5, _), (6, _), (7, _), (8, _)] sbn ?_))
 refine Zh fun bm au => Wr fun bn av => Mv rfl <| Mv rfl <| Ols rfl <| Ox av <| Y7 rfl (fun aj => ?_) (fun aj => ?_)
 rw [if_pos aj] at H
 refine Wr fun bo aw => As rfl <| As rfl <| Ox aw <| Zk ?_
 obtain rfl := Zz H
 exact Zbs rfl rfl rfl ⟨rfl, hs⟩
 rw [if_neg aj] at H
 refine Wx au <| Wr fun bp ax => Mv rfl <| Mv rfl <| Onp rfl <| Ofd Zed rfl <| Ofd Zbi rfl <| Obx 0 ag3 hs rfl <| Mv rfl <| Osu rfl <| Oml rfl <| As rfl <| Zd (ax _ _ ?_)
 refine W.weak [(0, _), (4, _), (5, _), (6, _)] (T4 rfl) <| Wr fun bq ay => Mv rfl <| Ogt rfl <| Ox ay <| Y7 rfl (fun ak => ?_) (fun ak => ?_)
 rw [if_pos ak] at H
 refine Wr fun br az => Mv rfl <| As rfl <| As rfl <| Ox az <| Zk ?_
 obtain rfl := Zz H
 exact Zbs rfl rfl rfl ⟨rfl, hs⟩
 rw [if_neg ak] at H
 refine Wx a4 <| Zc <| Mv rfl <| Mv rfl <| Onp rfl <| Ofd Zed rfl <| Ofd Zbi rfl <| Obx 0 ag3 hs rfl <| Oad rfl <| As rfl <| Zd (ah (ae, (i64.wrap (aa + 1)), (i64.wrap (ab + (i64.wrap (ag * ac)))), (i64.wrap (ac * (i64.wrap (y0_0 - af)))), (i64.wrap (ad + y0_0))) _ _ (T3 rfl) (Ai H hs) (Nat.lt_succ_self _))

def Y8.l1 : Nat → S11 → Int → Int → Option Int
  | 0, _, _, _ => none
  | ad + 1, x0, ab, aa => if (i64.wrap ((i64.wrap ((i64.wrap (x0.base - x0.least)) * x0.most)).tdiv 2)) < ab then (if (i64.wrap (x0.base - x0.least)) ≠ 0 then ((Y8.l1 ad x0) (i64.wrap (ab.tdiv (i64.wrap (x0.base - x0.least)))) (i64.wrap (aa + x0.base))) else none) else (if (i64.wrap (ab + x0.skew)) ≠ 0 then (some (i64.wrap (aa + (i64.wrap ((i64.wrap ((i64.wrap ((i64.wrap (x0.base - x0.least)) + 1)) * ab)).tdiv (i64.wrap (ab + x0.skew))))))) else none)
def Y8.j1 (x0 : S11) (x2 ac : Int) : Option Int := if x2 ≠ 0 then (Y8.l1 K0 x0 (i64.wrap (ac + (i64.wrap (ac.tdiv x2)))) 0) else none
def Y8.f (x0 : S11) (x1 x2 : Int) (x3 : Bool) : Option Int := if x3 = true then (if x0.damp ≠ 0 then (Y8.j1 x0 x2 (i64.wrap (x1.tdiv x0.damp))) else none) else (Y8.j1 x0 x2 (i64.wrap (x1.tdiv 2)))
theorem Y8.c (hs : St w0 ρ (Γ) w) {c0 : List Value} {x0 : S11} (h0 : Zde.R ρ c0 x0) {x1 x2 : Int} {x3 : Bool} {r : Int} (H : Y8.f x0 x1 x2 x3 = some r) : Zn Tryz.prog 123 [.agg c0.toArray, .int .i64 x1, .int .i64 x2, .bool x3] w (fun v w' => v = .int .i64 r ∧ St w0 ρ Γ w') := by
 rw [Y8.f] at H
 refine Et Tryz.func123 Tryz.ntmps123 rfl ?_
 have ak := h0
 obtain rfl := ak
 refine Wr fun a4 al => Vg (cs := [.int .i64 x0.base, .int .i64 x0.least, .int .i64 x0.most, .int .i64 x0.skew, .int .i64 x0.damp, .int .i64 x0.bias, .int .i64 x0.first, .int .u8 x0.between]) hs rfl rfl (fun af w hs => As rfl <| Ox al <| Yu fun am an ai => ?_)
 have aj : ∀ (ac : Int) (w : World), Y8.j1 x0 x2 ac = some r → St w0 ρ ((.box af 117 ([.int .i64 x0.base, .int .i64 x0.least, .int .i64 x0.most, .int .i64 x0.skew, .int .i64 x0.damp, .int .i64 x0.bias, .int .i64 x0.first, .int .u8 x0.between])) :: Γ) w → am [(1, .int .i64 ac), (2, .int .i64 x2), (4, .pointer (some ⟨af, 0, none⟩))] w := by
  intro ac w H hs
  rw [Y8.j1] at H
  refine an _ _ <| Wr fun a5 ao => Mv rfl <| Mv rfl <| Mv rfl ?_
  obtain ⟨ap, H⟩ := gd H
  refine O_y rfl (Zc7 rfl rfl ap) <| Oad rfl <| As rfl <| Ox ao <| Wr fun a6 aq => Ofd Zbi rfl <| Obx 0 ag3 hs rfl <| Ofd Zo6 rfl <| Obx 0 ag3 hs rfl <| Osu rfl <| As rfl <| Ox aq <| Zh fun a7 ar => ?_
  refine Zc <| As rfl <| Ox ar <| W.weak [(1, _), (4, _), (9, _), (10, _)] (T4 rfl) <| Zh fun a8 au => Zj fun a9 av ba => Y9 (σ := Nat × Int × Int) (fun (ad, ab, aa) => [(1, .int .i64 ab), (4, .pointer (some ⟨af, 0, none⟩)), (9, .int .i64 (i64.wrap (x0.base - x0.least))), (10, .int .i64 aa)]) (fun (ad, ab, aa) w => Y8.l1 ad x0 ab aa = some r ∧ St w0 ρ ((.box af 117 ([.int .i64 x0.base, .int .i64 x0.least, .int .i64 x0.most, .int .i64 x0.skew, .int .i64 x0.damp, .int .i64 x0.bias, .int .i64 x0.first, .int .u8 x0.between])) :: Γ) w) (fun s => s.1) (K0, (i64.wrap (ac + (i64.wrap (ac.tdiv x2)))), 0) (T4 rfl) (Ai H hs) ?_
  rintro ⟨ad, ab, aa⟩ w bb ⟨H, hs⟩ ae
  show W _ _ _ _ _ _ [(1, .int .i64 ab), (4, .pointer (some ⟨af, 0, none⟩)), (9, .int .i64 (i64.wrap (x0.base - x0.least))), (10, .int .i64 aa)] w
  cases ad with
  | zero => rw [Y8.l1] at H; cases H
  | succ ad =>
  rw [Y8.l1] at H
  refine Zh fun bc aw => Wr fun bd ax => Mv rfl <| Mv rfl <| Ofd Zoi rfl <| Obx 0 ag3 hs rfl <| Oml rfl <| O_y rfl (Zc7 rfl rfl (by decide)) <| Ogt rfl <| Ox ax <| Y7 rfl (fun ag => ?_) (fun ag => ?_)
  rw [if_pos ag] at H
  refine Wx aw <| Zh fun be ay => Zj fun bf bg bh => Zc <| Mv rfl <| Mv rfl ?_
  obtain ⟨az, H⟩ := gd H
  refine O_y rfl (Zc7 rfl rfl az) <| As rfl <| Ox ay <| Zc <| Mv rfl <| Ofd Zbi rfl <| Obx 0 ag3 hs rfl <| Oad rfl <| As rfl <| Zd (ae (ad, (i64.wrap (ab.tdiv (i64.wrap (x0.base - x0.least)))), (i64.wrap (aa + x0.base))) _ _ (T4 rfl) (Ai H hs) (Nat.lt_succ_self _))
  rw [if_neg ag] at H
  refine Y4 (av _ _ (au _ _ <| Wr fun bi a0 => Mv rfl <| Mv rfl <| Oad rfl <| Mv rfl <| Oml rfl <| Mv rfl <| Ofd Ztk rfl <| Obx 0 ag3 hs rfl <| Oad rfl ?_))
  obtain ⟨a1, H⟩ := gd H
  refine O_y rfl (Zc7 rfl rfl a1) <| Oad rfl <| As rfl <| Ox a0 <| W.weak [(8, _)] (S1 rfl) <| Zk ?_
  obtain rfl := Zz H
  exact r1 rfl ⟨rfl, (hs.sub (ssk ssr))⟩
 refine Wr fun bj a2 => Mv rfl <| Ox a2 <| Xg rfl (fun ah => ?_) (fun ah => ?_)
 rw [if_pos ah] at H
 refine Zc <| Mv rfl <| Ofd Ztq rfl <| Obx 0 ag3 hs rfl ?_
 obtain ⟨a3, H⟩ := gd H
 refine O_y rfl (Zc7 rfl rfl a3) <| As rfl <| Zd (ai _ _ _ (T3 rfl) (aj (i64.wrap (x1.tdiv x0.damp)) _ H hs))
 rw [if_neg (bft ah)] at H
 refine Zc <| Mv rfl <| O_y rfl (Zc7 rfl rfl (by decide)) <| As rfl <| Zd (ai _ _ _ (T3 rfl) (aj (i64.wrap (x1.tdiv 2)) _ H hs))

def Yy.j1 (aa : Bool) : Option Bool := if aa = true then (some true) else (some false)
def Yy.j2 (x0 : Int) (ab : Bool) : Option Bool := if ab = true then (some true) else (if 57343 < x0 then (Yy.j1 (decide (x0 ≤ 1114111))) else (Yy.j1 false))
def Yy.f (x0 : Int) : Option Bool := if 0 ≤ x0 then (Yy.j2 x0 (decide (x0 < 55296))) else (Yy.j2 x0 false)
theorem Yy.c (hs : St w0 ρ (Γ) w) {x0 : Int} {r : Bool} (H : Yy.f x0 = some r) : Zn Tryz.prog 173 [.int .i32 x0] w (fun v w' => v = .bool r ∧ St w0 ρ Γ w') := by
 rw [Yy.f] at H
 refine Et Tryz.func173 Tryz.ntmps173 rfl <| Wr fun av ak => As rfl <| Ox ak <| Zh fun aw al => Zj fun ax ay az => Yu fun am an ag => ?_
 have ah : ∀ (ab : Bool) (w : World), Yy.j2 x0 ab = some r → St w0 ρ (Γ) w → am [(0, .int .i32 x0), (3, .bool ab)] w := by
  intro ab w H hs
  rw [Yy.j2] at H
  refine an _ _ <| Xg rfl (fun ac => ?_) (fun ac => ?_)
  rw [if_pos ac] at H
  refine Wr fun a0 ao => As rfl <| Ox ao <| Zk ?_
  obtain rfl := Zz H
  exact r1 rfl ⟨rfl, hs⟩
  rw [if_neg (bft ac)] at H
  refine Yu fun ap aq ai => ?_
  have aj : ∀ (aa : Bool) (w : World), Yy.j1 aa = some r → St w0 ρ (Γ) w → ap [(10, .bool aa)] w := by
   intro aa w H hs
   rw [Yy.j1] at H
   refine aq _ _ <| Xg rfl (fun ad => ?_) (fun ad => ?_)
   rw [if_pos ad] at H
   refine Wr fun a1 ar => As rfl <| Ox ar <| Zk ?_
   obtain rfl := Zz H
   exact r1 rfl ⟨rfl, hs⟩
   rw [if_neg (bft ad)] at H
   refine Wx al <| Wr fun a2 au => As rfl <| Ox au <| Zk ?_
   obtain rfl := Zz H
   exact r1 rfl ⟨rfl, hs⟩
  refine Zc <| Mv rfl <| Ols rfl <| Mv rfl <| X6 (dj := 13) rfl (fun ae => ?_) (fun ae => ?_)
  rw [if_pos ae] at H
  refine Oe rfl <| Mv rfl <| Oe rfl <| Ole rfl <| Opk rfl <| As rfl <| Zd (ai _ _ _ (S1 rfl) (aj (decide (x0 ≤ 1114111)) _ H hs))
  rw [if_neg ae] at H
  refine On rfl <| On rfl <| Opk rfl <| As rfl <| Zd (ai _ _ _ (S1 rfl) (aj false _ H hs))
 refine Zc <| Mv rfl <| Ole rfl <| Mv rfl <| X6 (dj := 6) rfl (fun af => ?_) (fun af => ?_)
 rw [if_pos af] at H
 refine Oe rfl <| Mv rfl <| Oe rfl <| Ols rfl <| Opk rfl <| As rfl <| Zd (ag _ _ _ (T2 rfl) (ah (decide (x0 < 55296)) _ H hs))
 rw [if_neg af] at H
 refine On rfl <| On rfl <| Opk rfl <| As rfl <| Zd (ag _ _ _ (T2 rfl) (ah false _ H hs))

def Ud.f (x0 : Int) : Option Bool := (Yy.f x0).bind fun ab => (some ab)
theorem Ud.c (hs : St w0 ρ (Γ) w) {x0 : Int} {r : Bool} (H : Ud.f x0 = some r) : Zn Tryz.prog 155 [.int .i32 x0] w (fun v w' => v = .bool r ∧ St w0 ρ Γ w') := by
 rw [Ud.f] at H
 refine Et Tryz.func155 Tryz.ntmps155 rfl <| Wr fun ae ac => As rfl <| Ox ac <| Wr fun af ad => Mv rfl ?_
 obtain ⟨ab, aa, H⟩ := bnd H
 refine Oc rfl (Yy.c hs aa) (fun ag w hpost => ?_)
 obtain ⟨rfl, hs⟩ := hpost
 refine As rfl <| Ox ad <| Zk ?_
 obtain rfl := Zz H
 exact r1 rfl ⟨rfl, hs⟩

def Vz.f (y0_0 y0_1 y0_2 y0_3 y0_4 y0_5 y0_6 y0_7 : Int) (y0_8 : ByteArray) (y0_9 y0_11 y0_12 y0_13 : Int) (y1 : List Int) : Option (Int × Int × Int × Int × Int × Int × List Int) := (Xq.f y0_0 y0_1 y0_2 y0_3 y0_4 y0_5 y0_6 y0_7 y0_8 y0_9 y0_11 y0_12 y0_13 y1).bind fun aa => (if aa.2.1 ≠ 0 then (some (aa.1, aa.2.1, aa.2.2.1, y0_11, aa.2.2.2, y0_13, y1)) else ((Y8.f (⟨y0_0, y0_1, y0_2, y0_3, y0_4, y0_5, y0_6, y0_7⟩ : S11) (i64.wrap (aa.2.2.2 - y0_12)) (i64.wrap ((y1.length : Int) + 1)) (decide (y0_12 = 0))).bind fun ad => (if (i64.wrap ((y1.length : Int) + 1)) ≠ 0 then (if 1114111 < (i64.wrap (y0_11 + (i64.wrap (aa.2.2.2.tdiv (i64.wrap ((y1.length : Int) + 1)))))) then (some (i64.wrap (aa.2.2.1 - 1), 142, aa.2.2.1, i64.wrap (y0_11 + (i64.wrap (aa.2.2.2.tdiv (i64.wrap ((y1.length : Int) + 1))))), aa.2.2.2.tmod (i64.wrap ((y1.length : Int) + 1)), ad, y1)) else ((Ud.f (i32.wrap (i64.wrap (y0_11 + (i64.wrap (aa.2.2.2.tdiv (i64.wrap ((y1.length : Int) + 1)))))))).bind fun au => (if (!au) = true then (some (i64.wrap (aa.2.2.1 - 1), 143, aa.2.2.1, i64.wrap (y0_11 + (i64.wrap (aa.2.2.2.tdiv (i64.wrap ((y1.length : Int) + 1))))), aa.2.2.2.tmod (i64.wrap ((y1.length : Int) + 1)), ad, y1)) else (if (0 : Int) ≤ aa.2.2.2.tmod (i64.wrap ((y1.length : Int) + 1)) ∧ aa.2.2.2.tmod (i64.wrap ((y1.length : Int) + 1)) ≤ (y1.length : Int) ∧ y1.length + 1 ≤ most then (some (0, 0, aa.2.2.1, i64.wrap (y0_11 + (i64.wrap (aa.2.2.2.tdiv (i64.wrap ((y1.length : Int) + 1))))), i64.wrap ((aa.2.2.2.tmod (i64.wrap ((y1.length : Int) + 1))) + 1), ad, Zc5 y1 (aa.2.2.2.tmod (i64.wrap ((y1.length : Int) + 1))) (i32.wrap (i64.wrap (y0_11 + (i64.wrap (aa.2.2.2.tdiv (i64.wrap ((y1.length : Int) + 1))))))))) else none)))) else none)))
theorem Vz.c {pb0 : Nat} {y0_0 y0_1 y0_2 y0_3 y0_4 y0_5 y0_6 y0_7 : Int} {y0_8 : ByteArray} {y0_9 y0_11 y0_12 y0_13 : Int} {w1 : Value} {d1 : List Value} {y1 : List Int} (hs : St w0 ρ ((.box pb0 163 ([.int .i64 y0_0, .int .i64 y0_1, .int .i64 y0_2, .int .i64 y0_3, .int .i64 y0_4, .int .i64 y0_5, .int .i64 y0_6, .int .u8 y0_7, .string y0_8, .int .i64 y0_9, w1, .int .i64 y0_11, .int .i64 y0_12, .int .i64 y0_13])) :: (.row w1 21 ((Rep.int .i32).sz) y1.length d1) :: Γ) w) (g1 : Zm (Rep.int .i32) ρ d1 y1) {r : Int × Int × Int × Int × Int × Int × List Int} (H : Vz.f y0_0 y0_1 y0_2 y0_3 y0_4 y0_5 y0_6 y0_7 y0_8 y0_9 y0_11 y0_12 y0_13 y1 = some r) : Zn Tryz.prog 127 [.pointer (some ⟨pb0, 0, none⟩)] w (fun v w' => ∃ (ρ' : Hp) (u4 : Value) (ds4 : List Value), v = .tuple #[.int .i64 r.1, .int .i64 r.2.1] ∧ Le ρ ρ' ∧ St w0 ρ' ((.box pb0 163 ([.int .i64 y0_0, .int .i64 y0_1, .int .i64 y0_2, .int .i64 y0_3, .int .i64 y0_4, .int .i64 y0_5, .int .i64 y0_6, .int .u8 y0_7, .string y0_8, .int .i64 r.2.2.1, u4, .int .i64 r.2.2.2.1, .int .i64 r.2.2.2.2.1, .int .i64 r.2.2.2.2.2.1])) :: (.row u4 21 ((Rep.int .i32).sz) r.2.2.2.2.2.2.length ds4) :: Γ) w' ∧ Zm (Rep.int .i32) ρ' ds4 r.2.2.2.2.2.2) := by
 rw [Vz.f] at H
 refine Et Tryz.func127 Tryz.ntmps127 rfl <| Wr fun bn ax => As rfl <| As rfl <| Ox ax <| Wr fun bo ay => Mv rfl <| Onp rfl <| Ofd Zbd rfl <| Obx 0 ag3 hs rfl <| As rfl <| Zd (ay _ _ ?_)
 refine Zh fun bp az => Wr fun bq a0 => Mv rfl ?_
 have hs := hs.front 1 rfl
 have hs := hs.front 1 rfl
 obtain ⟨aa, ae, H⟩ := bnd H
 refine Oc rfl (Xq.c hs g1 ae) (fun br w hpost => ?_)
 obtain ⟨rfl, hs⟩ := hpost
 have hs := hs.sink 1
 have hs := hs.sink 1
 refine Mv rfl <| Oxt rfl <| Oxt rfl <| As rfl <| As rfl <| Ox a0 <| W.weak [(0, _), (4, _), (5, _), (6, _)] (T4 rfl) <| Wr fun bs a1 => Mv rfl <| One rfl <| Ox a1 <| Y7 rfl (fun af => ?_) (fun af => ?_)
 rw [if_pos af] at H
 refine Wr fun bt a2 => Mv rfl <| Mv rfl <| As rfl <| As rfl <| Ox a2 <| Zk ?_
 obtain rfl := Zz H
 exact Zbs rfl rfl rfl ⟨_, _, _, rfl, Le.rfl' _, hs, g1⟩
 rw [if_neg af] at H
 refine Wx az <| Wr fun bu a3 => Mv rfl <| Onp rfl <| Ofd Zf3 rfl <| Obx 0 Za8 hs rfl <| O_y rfl (V8 (i := 1) V2 hs rfl rfl) <| Oad rfl <| As rfl <| Ox a3 <| Zh fun bv a4 => Qn 18 [0, 0, 2, 4, 8, 0, 32, 64, 128, 0, 768, 0, 0, 4096, 11280, 32767, 65535, 98303] [32766, 32761, 32753, 32737, 16353, 32671, 32543, 32287, 31263, 31231, 14367, 14335, 20479, 4095, 1, 131072, 0, 0] [0, 0, 2, 6, 14, 0, 32, 96, 224, 0, 992, 0, 0, 4096, 16382, 32767, 65535, 131071] [14, 15, 16, 17] (fun w => St w0 ρ ((.box pb0 163 ([.int .i64 y0_0, .int .i64 y0_1, .int .i64 y0_2, .int .i64 y0_3, .int .i64 y0_4, .int .i64 y0_5, .int .i64 y0_6, .int .u8 y0_7, .string y0_8, .int .i64 aa.2.2.1, w1, .int .i64 y0_11, .int .i64 aa.2.2.2, .int .i64 y0_13])) :: (.row w1 21 ((Rep.int .i32).sz) y1.length d1) :: Γ) w) Vl (by kernel_rfl) (fun sh => ?_)
 have hs := hs.drew
 refine Fm 0 sh rfl <| Fm 1 sh rfl <| Fp 2 sh rfl (fun w => K1 rfl) <| Fp 3 sh rfl (fun w => Zp Zed rfl) <| Fy 4 sh rfl hs (fun w hs => Xk (i := 0) Zc8 Zda hs rfl rfl rfl rfl) <| Fm 5 sh rfl <| Fp 6 sh rfl (fun w => K1 rfl) <| Fp 7 sh rfl (fun w => Zp Zbd rfl) <| Fy 8 sh rfl hs (fun w hs => Yb 0 ag3 hs rfl rfl rfl) <| Fm 9 sh rfl <| Fp 10 sh rfl (fun w => Zc2 rfl rfl) <| Fm 11 sh rfl <| Fm 12 sh rfl <| Fp 13 sh rfl (fun w => Zbn rfl rfl) ?_
 refine F1 14 sh rfl (fun bw a5 => ?_)
 obtain ⟨ad, ag, H⟩ := bnd H
 refine Oc rfl (Y8.c hs (show Zde.R ρ _ (⟨y0_0, y0_1, y0_2, y0_3, y0_4, y0_5, y0_6, y0_7⟩ : S11) from rfl) ag) (fun bx w hpost => ?_)
 obtain ⟨rfl, hs⟩ := hpost
 refine Zd (a5 _ _ (fun h _ => absurd h (by decide)) <| Ke sh [17] hs (by kernel_rfl) <| Fp 15 sh rfl (fun w => K1 rfl) <| Fp 16 sh rfl (fun w => Zp Zo2 rfl) <| F1 17 sh rfl (fun bz a6 => Vu (i := 0) sz3 hs rfl rfl rfl rfl rfl (fun w hs => Zd (a6 _ _ (fun h _ => absurd h (by decide)) <| FE sh (a4 _ _ <| W.weak [(0, _), (7, _)] (T2 rfl) <| Zh fun b0 a7 => Qn 14 [0, 1, 2, 4, 0, 16, 32, 64, 0, 384, 520, 2047, 4095, 6143] [2044, 2040, 2032, 1008, 1999, 1935, 1807, 1295, 1279, 15, 0, 8192, 0, 0] [0, 1, 3, 7, 0, 16, 48, 112, 0, 496, 1023, 2047, 4095, 8191] [13] (fun w => St w0 ρ ((.box pb0 163 ([.int .i64 y0_0, .int .i64 y0_1, .int .i64 y0_2, .int .i64 y0_3, .int .i64 y0_4, .int .i64 y0_5, .int .i64 y0_6, .int .u8 y0_7, .string y0_8, .int .i64 aa.2.2.1, w1, .int .i64 y0_11, .int .i64 aa.2.2.2, .int .i64 ad])) :: (.row w1 21 ((Rep.int .i32).sz) y1.length d1) :: Γ) w) Vl (by kernel_rfl) (fun sh => ?_))))))
 have hs := hs.drew
 refine Fm 0 sh rfl <| Fp 1 sh rfl (fun w => K1 rfl) <| Fp 2 sh rfl (fun w => Zp Zfd rfl) <| Fy 3 sh rfl hs (fun w hs => Yb 0 ag3 hs rfl rfl rfl) <| Fm 4 sh rfl <| Fp 5 sh rfl (fun w => K1 rfl) <| Fp 6 sh rfl (fun w => Zp Zbd rfl) <| Fy 7 sh rfl hs (fun w hs => Yb 0 ag3 hs rfl rfl rfl) <| Fm 8 sh rfl ?_
 obtain ⟨av, H⟩ := gd H
 refine Fp 9 sh rfl (fun w => Zc7 rfl rfl av) <| Fp 10 sh rfl (fun w => Hy rfl rfl) <| Fp 11 sh rfl (fun w => K1 rfl) <| Fp 12 sh rfl (fun w => Zp Zfd rfl) <| F1 13 sh rfl (fun b1 a8 => Vu (i := 0) sz3 hs rfl rfl rfl rfl rfl (fun w hs => Zd (a8 _ _ (fun h _ => absurd h (by decide)) <| FE sh (a7 _ _ <| W.weak [(0, _), (7, _)] (T2 rfl) <| Wr fun b2 a9 => Mv rfl <| Onp rfl <| Ofd Zbd rfl ?_))))
 refine Obx 0 ag3 hs rfl <| Mv rfl <| O_y rfl (Zjj rfl rfl av) <| Onp rfl <| Ofd Zbd rfl <| Vu (i := 0) sz3 hs rfl rfl rfl rfl rfl (fun w hs => Ox a9 <| Zh fun b3 ba => Zj fun b4 b5 b6 => Wr fun b7 bb => Mv rfl <| Onp rfl <| Ofd Zfd rfl ?_)
 refine Obx 0 ag3 hs rfl <| Ogt rfl <| As rfl <| Ox bb <| W.weak [(0, _), (65, _)] (T2 rfl) <| Y7 rfl (fun ah => ?_) (fun ah => ?_)
 rw [if_pos ah] at H
 refine Wr fun b8 bc => Mv rfl <| Onp rfl <| Ofd Zbt rfl <| Obx 0 ag3 hs rfl <| Osu rfl <| As rfl <| As rfl <| Ox bc <| Zk ?_
 obtain rfl := Zz H
 exact Zbs rfl rfl rfl ⟨_, _, _, rfl, Le.rfl' _, hs, g1⟩
 rw [if_neg ah] at H
 refine Wr fun b9 bd => Mv rfl <| Onp rfl <| Ofd Zfd rfl <| Obx 0 ag3 hs rfl <| O_y rfl (V4 un3 Za9 rfl) ?_
 obtain ⟨au, ai, H⟩ := bnd H
 refine Oc rfl (Ud.c hs ai) (fun ca w hpost => ?_)
 obtain ⟨rfl, hs⟩ := hpost
 refine Ont rfl <| As rfl <| Ox bd <| Xg rfl (fun ab => ?_) (fun ab => ?_)
 rw [if_pos ab] at H
 refine Wr fun be aj => Mv rfl <| Onp rfl <| Ofd Zbt rfl <| Obx 0 ag3 hs rfl <| Osu rfl <| As rfl <| As rfl <| Ox aj <| W.weak [(2, _), (3, _)] (T2 rfl) <| Zk ?_
 obtain rfl := Zz H
 exact Zbs rfl rfl rfl ⟨_, _, _, rfl, Le.rfl' _, hs, g1⟩
 rw [if_neg (bft ab)] at H
 refine Wx ba <| Zh fun bf ak => Qn 19 [0, 0, 2, 4, 8, 0, 32, 64, 128, 0, 512, 1024, 2048, 4096, 8192, 16656, 65535, 131071, 196607] [65534, 65529, 65521, 65505, 32737, 65439, 65311, 65055, 32287, 63999, 61951, 57855, 49663, 33279, 511, 1, 262144, 0, 0] [0, 0, 2, 6, 14, 0, 32, 96, 224, 0, 512, 1536, 3584, 7680, 15872, 32766, 65535, 131071, 262143] [15, 16, 17, 18] (fun w => St w0 ρ ((.box pb0 163 ([.int .i64 y0_0, .int .i64 y0_1, .int .i64 y0_2, .int .i64 y0_3, .int .i64 y0_4, .int .i64 y0_5, .int .i64 y0_6, .int .u8 y0_7, .string y0_8, .int .i64 aa.2.2.1, w1, .int .i64 (i64.wrap (y0_11 + (i64.wrap (aa.2.2.2.tdiv (i64.wrap ((y1.length : Int) + 1)))))), .int .i64 (aa.2.2.2.tmod (i64.wrap ((y1.length : Int) + 1))), .int .i64 ad])) :: (.row w1 21 ((Rep.int .i32).sz) y1.length d1) :: Γ) w) Vl (by kernel_rfl) (fun sh => ?_)
 have hs := hs.drew
 refine Fm 0 sh rfl <| Fm 1 sh rfl <| Fp 2 sh rfl (fun w => K1 rfl) <| Fp 3 sh rfl (fun w => Zp Zf3 rfl) <| Fy 4 sh rfl hs (fun w hs => Yb 0 Za8 hs rfl rfl rfl) <| Fm 5 sh rfl <| Fp 6 sh rfl (fun w => K1 rfl) <| Fp 7 sh rfl (fun w => Zp Zbd rfl) <| Fy 8 sh rfl hs (fun w hs => Yb 0 ag3 hs rfl rfl rfl) <| Fm 9 sh rfl <| Fp 10 sh rfl (fun w => K1 rfl) <| Fp 11 sh rfl (fun w => Zp Zfd rfl) <| Fy 12 sh rfl hs (fun w hs => Yb 0 ag3 hs rfl rfl rfl) <| Fp 13 sh rfl (fun w => V4 un3 Za9 rfl) ?_
 refine F1 14 sh rfl (fun bg al => Ku (xs := [.tmp 102]) (cs := [.int .i32 (i32.wrap (i64.wrap (y0_11 + (i64.wrap (aa.2.2.2.tdiv (i64.wrap ((y1.length : Int) + 1)))))))]) Q7 hs rfl rfl rfl (by decide) (by decide) rfl (Yc rfl Kb) (Zv rfl Xy) (fun bh w hs => ?_))
 have am : Zm (Rep.int .i32) ρ ([.int .i32 (i32.wrap (i64.wrap (y0_11 + (i64.wrap (aa.2.2.2.tdiv (i64.wrap ((y1.length : Int) + 1)))))))]) [i32.wrap (i64.wrap (y0_11 + (i64.wrap (aa.2.2.2.tdiv (i64.wrap ((y1.length : Int) + 1))))))] := Zm.cons (c := [.int .i32 (i32.wrap (i64.wrap (y0_11 + (i64.wrap (aa.2.2.2.tdiv (i64.wrap ((y1.length : Int) + 1)))))))]) (x := i32.wrap (i64.wrap (y0_11 + (i64.wrap (aa.2.2.2.tdiv (i64.wrap ((y1.length : Int) + 1))))))) rfl (Zm.nil _ _)
 refine Zd (al _ _ (fun _ _ => (hs.sub (ssk (ssc (ssc ssr))))) ?_)
 obtain ⟨ac, H⟩ := gd H
 refine F1 15 sh rfl (fun bi an => ?_)
 have hs := hs.front 2 rfl
 refine Oc rfl (Zjd.c hs g1 am ac.1 ac.2.1 ac.2.2) (fun bj w hpost => ?_)
 obtain ⟨aw, hs, ao⟩ := hpost
 have hs := hs.sink 1
 refine Zd (an _ _ (fun h _ => absurd h (by decide)) <| Ke sh [18] hs (by kernel_rfl) <| Fp 16 sh rfl (fun w => K1 rfl) <| Fp 17 sh rfl (fun w => Zp Zf3 rfl) <| F1 18 sh rfl (fun bk ap => Vu (i := 0) Zte hs rfl rfl rfl rfl (St.rowOne hs (j := 1) rfl) (fun w hs => Zd (ap _ _ (fun h _ => absurd h (by decide)) <| FE sh (ak _ _ <| W.weak [(0, _)] (S1 rfl) <| Wr fun bl aq => Mv rfl <| Onp rfl <| Ofd Zbd rfl ?_)))))
 refine Obx 0 ag3 hs rfl <| Oad rfl <| Onp rfl <| Ofd Zbd rfl <| Vu (i := 0) sz3 hs rfl rfl rfl rfl rfl (fun w hs => Ox aq <| Wr fun bm ar => As rfl <| As rfl <| Ox ar <| Zk ?_)
 obtain rfl := Zz H
 exact Zbs rfl rfl rfl ⟨_, _, _, rfl, Le.rfl' _, hs, ao⟩

def Yz.l1 : Nat → S11 → ByteArray → List Int → Int → Int → Int → Int → Option (List Int × Int × Int)
  | 0, _, _, _, _, _, _, _ => none
  | am + 1, x0, x1, ae, aa, ab, ac, ad => if aa < (x1.size : Int) then ((Vz.f x0.base x0.least x0.most x0.skew x0.damp x0.bias x0.first x0.between x1 aa ab ac ad ae).bind fun ao => (if ao.2.1 ≠ 0 then (some (([] : List Int), ao.1, ao.2.1)) else ((Yz.l1 am x0 x1) ao.2.2.2.2.2.2 ao.2.2.1 ao.2.2.2.1 ao.2.2.2.2.1 ao.2.2.2.2.2.1))) else (some (ae, 0, 0))
def Yz.j1 (x0 : S11) (x1 : ByteArray) (ag : List Int) (af : Int) : Option (List Int × Int × Int) := Yz.l1 K0 x0 x1 ag af x0.first 0 x0.bias
def Yz.f (x0 : S11) (x1 : ByteArray) : Option (List Int × Int × Int) := (Vh.f x1 x0.between).bind fun al => (if 0 < al then (if (0 : Int) ≤ 0 ∧ 0 ≤ al ∧ al ≤ (x1.size : Int) then ((Vq.f (Kr (x1.extract (0 : Int).toNat (al : Int).toNat)) x0.base x0.least x0.most x0.skew x0.damp x0.bias x0.first x0.between).bind fun ay => (if 0 ≤ ay then (some (([] : List Int), ay, 141)) else (if (Hq (x1.extract (0 : Int).toNat (al : Int).toNat)).length ≤ most then (Yz.j1 x0 x1 (Hq (x1.extract (0 : Int).toNat (al : Int).toNat)) (i64.wrap (al + 1))) else none))) else none) else (Yz.j1 x0 x1 ([] : List Int) 0))
theorem Yz.c (hs : St w0 ρ (Γ) w) {c0 : List Value} {x0 : S11} (h0 : Zde.R ρ c0 x0) {x1 : ByteArray} {r : List Int × Int × Int} (H : Yz.f x0 x1 = some r) : Zn Tryz.prog 71 [.agg c0.toArray, .string x1] w (fun v w' => ∃ (ρ' : Hp) (v0 : Value) (cs0 : List Value), v = .tuple #[v0, .int .i64 r.2.1, .int .i64 r.2.2] ∧ Le ρ ρ' ∧ St w0 ρ' (.row v0 21 (Rep.int .i32).sz r.1.length cs0 :: Γ) w' ∧ Zm (Rep.int .i32) ρ' cs0 r.1) := by
 rw [Yz.f] at H
 refine Et Tryz.func71 Tryz.ntmps71 rfl ?_
 have bs := h0
 obtain rfl := bs
 refine Wr fun cj bt => Vg (cs := [.int .i64 x0.base, .int .i64 x0.least, .int .i64 x0.most, .int .i64 x0.skew, .int .i64 x0.damp, .int .i64 x0.bias, .int .i64 x0.first, .int .u8 x0.between]) hs rfl rfl (fun bo w hs => As rfl <| As rfl <| As rfl <| Ox bt <| Wr fun ck bu => O_y rfl (Xk (i := 0) Zc8 Zda hs rfl rfl rfl rfl) <| Mv rfl <| Ofd Zhj rfl <| Obx 0 ag3 hs rfl <| Ofd Zo0 rfl ?_)
 refine Obx 0 ag3 hs rfl <| O_y rfl (Qe (cs := [.int .i64 x0.base, .int .i64 x0.least, .int .i64 x0.most, .int .i64 x0.skew, .int .i64 x0.damp, .int .i64 x0.bias, .int .i64 x0.first, .int .u8 x0.between, .string x1, .int .i64 0, .slice none 0 0, .int .i64 x0.first, .int .i64 0, .int .i64 x0.bias]) Zxd Zws ((Z2.cons rfl rfl (Z2.cons rfl rfl (Z2.cons rfl rfl (Z2.cons rfl rfl Z2.nil))))) Zwf (by kernel_rfl)) <| Vg (cs := [.int .i64 x0.base, .int .i64 x0.least, .int .i64 x0.most, .int .i64 x0.skew, .int .i64 x0.damp, .int .i64 x0.bias, .int .i64 x0.first, .int .u8 x0.between, .string x1, .int .i64 0, .slice none 0 0, .int .i64 x0.first, .int .i64 0, .int .i64 x0.bias]) hs rfl rfl (fun a2 w hs => As rfl <| Ox bu <| W.weak [(1, _), (2, _), (7, _)] (T3 rfl) ?_)
 have hs := hs.rowNil 21 (Rep.int .i32).sz
 have bv := Zm.nil (Rep.int .i32) ρ
 refine Yu fun bw bx bp => ?_
 have bq : ∀ (ag : List Int) (af : Int) (ah : Value) (ai : List Value) (ap : Hp) (w : World), Yz.j1 x0 x1 ag af = some r → Le ρ ap → St w0 ap ((.row ah 21 ((Rep.int .i32).sz) ag.length ai) :: (.box a2 163 ([.int .i64 x0.base, .int .i64 x0.least, .int .i64 x0.most, .int .i64 x0.skew, .int .i64 x0.damp, .int .i64 x0.bias, .int .i64 x0.first, .int .u8 x0.between, .string x1, .int .i64 af, ah, .int .i64 x0.first, .int .i64 0, .int .i64 x0.bias])) :: (.box bo 117 ([.int .i64 x0.base, .int .i64 x0.least, .int .i64 x0.most, .int .i64 x0.skew, .int .i64 x0.damp, .int .i64 x0.bias, .int .i64 x0.first, .int .u8 x0.between])) :: Γ) w → Zm (Rep.int .i32) ap ai ag → bw [(1, .string x1), (7, .pointer (some ⟨a2, 0, none⟩))] w := by
  intro ag af ah ai ap w H aw hs ar
  rw [Yz.j1] at H
  refine bx _ _ <| Zh fun cl bz => Zj fun cm b0 cn => Y9 (σ := Nat × List Int × Int × Int × Int × Int × Value × List Value × Hp) (fun (am, ae, aa, ab, ac, ad, aj, ak, au) => [(1, .string x1), (7, .pointer (some ⟨a2, 0, none⟩))]) (fun (am, ae, aa, ab, ac, ad, aj, ak, au) w => Yz.l1 am x0 x1 ae aa ab ac ad = some r ∧ Le ap au ∧ St w0 au ((.row aj 21 ((Rep.int .i32).sz) ae.length ak) :: (.box a2 163 ([.int .i64 x0.base, .int .i64 x0.least, .int .i64 x0.most, .int .i64 x0.skew, .int .i64 x0.damp, .int .i64 x0.bias, .int .i64 x0.first, .int .u8 x0.between, .string x1, .int .i64 aa, aj, .int .i64 ab, .int .i64 ac, .int .i64 ad])) :: (.box bo 117 ([.int .i64 x0.base, .int .i64 x0.least, .int .i64 x0.most, .int .i64 x0.skew, .int .i64 x0.damp, .int .i64 x0.bias, .int .i64 x0.first, .int .u8 x0.between])) :: Γ) w ∧ Zm (Rep.int .i32) au ak ae) (fun s => s.1) (K0, ag, af, x0.first, 0, x0.bias, ah, ai, ap) (T2 rfl) (Ai H (Ai (Le.rfl' _) (Ai hs ar))) ?_
  rintro ⟨am, ae, aa, ab, ac, ad, aj, ak, au⟩ w co ⟨H, av, hs, an⟩ az
  show W _ _ _ _ _ _ [(1, .string x1), (7, .pointer (some ⟨a2, 0, none⟩))] w
  cases am with
  | zero => rw [Yz.l1] at H; cases H
  | succ am =>
  rw [Yz.l1] at H
  refine Zh fun cp b1 => Wr fun cq b2 => Mv rfl <| Onp rfl <| Ofd Zbt rfl <| Obx 1 ag3 hs rfl <| Mv rfl <| O_y rfl (Zd0 un9 rfl) <| Ols rfl <| Ox b2 <| Y7 rfl (fun a8 => ?_) (fun a8 => ?_)
  rw [if_pos a8] at H
  refine Wx b1 <| Zj fun cr ct cu => Wr fun cv b3 => Mv rfl ?_
  have hs := hs.front 1 rfl
  obtain ⟨ao, a9, H⟩ := bnd H
  refine Oc rfl (Vz.c hs an a9) (fun cw w hpost => ?_)
  obtain ⟨br, b4, ba, rfl, a3, hs, b5⟩ := hpost
  have hs := hs.sink 1
  refine Mv rfl <| Oxt rfl <| Oxt rfl <| As rfl <| As rfl <| Ox b3 <| W.weak [(1, _), (7, _), (10, _), (11, _)] (T4 rfl) <| Wr fun cx b6 => Mv rfl <| One rfl <| Ox b6 <| Y7 rfl (fun bb => ?_) (fun bb => ?_)
  rw [if_pos bb] at H
  refine Wr fun cy b7 => Mv rfl <| Mv rfl <| As rfl <| As rfl <| As rfl <| Ox b7 <| Zk ?_
  have hs := hs.rowNil 21 (Rep.int .i32).sz
  have b8 := Zm.nil (Rep.int .i32) br
  obtain rfl := Zz H
  exact Zcu rfl rfl rfl rfl ⟨_, _, _, rfl, ((aw.trans av).trans a3), (hs.sub (ssc (ssk (ssk (ssk ssr))))), b8⟩
  rw [if_neg bb] at H
  exact Ua (az (am, ao.2.2.2.2.2.2, ao.2.2.1, ao.2.2.2.1, ao.2.2.2.2.1, ao.2.2.2.2.2.1, b4, ba, br) _ _ (T2 rfl) (Ai H (Ai (av.trans a3) (Ai hs b5))) (Nat.lt_succ_self _))
  rw [if_neg a8] at H
  refine Y4 (b0 _ _ (bz _ _ <| Wr fun cz b9 => Mv rfl <| Onp rfl <| Ofd Zf3 rfl <| Obx 1 Za8 hs rfl <| As rfl <| As rfl <| As rfl <| Ox b9 <| W.weak [(4, _), (5, _), (6, _)] (T3 rfl) <| Zk ?_))
  obtain rfl := Zz H
  exact Zcu rfl rfl rfl rfl ⟨_, _, _, rfl, (aw.trans av), (hs.sub (ssc (ssk (ssk ssr)))), an⟩
 refine Wr fun da bc => Mv rfl <| Ofd Zoq rfl <| Obx 2 ag5 hs rfl ?_
 obtain ⟨al, a4, H⟩ := bnd H
 refine Oc rfl (Vh.c hs a4) (fun ca w hpost => ?_)
 obtain ⟨rfl, hs⟩ := hpost
 refine As rfl <| Ox bc <| Wr fun cb bd => Mv rfl <| Ogt rfl <| Ox bd <| Y7 rfl (fun a0 => ?_) (fun a0 => ?_)
 rw [if_pos a0] at H
 refine Zh fun cc be => Wr fun cd bf => Mv rfl <| Mv rfl ?_
 obtain ⟨aq, H⟩ := gd H
 refine O_y rfl (Zq2 un9 rfl (.inl ⟨rfl, rfl⟩) (.inr ⟨_, _, rfl, rfl⟩) aq.1 aq.2.1 aq.2.2) <| Zpf un9 Zmx un5 hs rfl rfl (fun a5 ce w ax hs bg => O_y rfl (Ux rfl) ?_)
 have hs := hs.front 2 rfl
 obtain ⟨ay, a6, H⟩ := bnd H
 refine Oc rfl (Vq.c hs bg a6) (fun cf w hpost => ?_)
 obtain ⟨rfl, hs⟩ := hpost
 have hs := hs.sink 2
 refine As rfl <| Ox bf <| W.weak [(1, _), (7, _), (8, _), (9, _)] (T4 rfl) <| Wr fun cg bh => Mv rfl <| Oge rfl <| Ox bh <| Y7 rfl (fun a1 => ?_) (fun a1 => ?_)
 rw [if_pos a1] at H
 refine Wr fun ch bi => Mv rfl <| As rfl <| As rfl <| As rfl <| Ox bi <| Zk ?_
 have hs := hs.rowNil 21 (Rep.int .i32).sz
 have bj := Zm.nil (Rep.int .i32) a5
 obtain rfl := Zz H
 exact Zcu rfl rfl rfl rfl ⟨_, _, _, rfl, ax, (hs.sub (ssc (ssk (ssk (ssk ssr))))), bj⟩
 rw [if_neg a1] at H
 refine Wx be <| Wr fun ci bk => Mv rfl <| Mv rfl <| Mv rfl <| O_y rfl (Zq2 un9 rfl (.inl ⟨rfl, rfl⟩) (.inr ⟨_, _, rfl, rfl⟩) aq.1 aq.2.1 aq.2.2) ?_
 obtain ⟨bl, H⟩ := gd H
 refine Ztm un9 V2 Za9 hs rfl rfl bl (fun bm a7 w hs bn => Onp rfl <| Ofd Zf3 rfl <| Vu (i := 2) Zte hs rfl rfl rfl rfl (St.rowOne hs (j := 0) rfl) (fun w hs => Ox bk <| Zc <| Mv rfl <| Mv rfl <| Oad rfl <| Onp rfl <| Ofd Zbt rfl <| Vu (i := 2) sz3 hs rfl rfl rfl rfl rfl (fun w hs => ?_)))
 have hs := hs.sub (ssc (ssk (ssc (ssc ssr))))
 have hs := hs.front 2 rfl
 have hs := hs.front 2 rfl
 have hs := hs.front 2 rfl
 exact Zd (bp _ _ _ (T2 rfl) (bq (Hq (x1.extract (0 : Int).toNat (al : Int).toNat)) (i64.wrap (al + 1)) bm a7 a5 _ H ax hs bn))
 rw [if_neg a0] at H
 exact Ua (bp _ _ _ (T2 rfl) (bq ([] : List Int) 0 (.slice none 0 0) ([]) ρ _ H (Le.rfl' _) hs bv))

def Hh.f (x0 : ByteArray) : Option (List Int × Int × Int) := (Zam.f).bind fun af => ((Yz.f af x0).bind fun aa => (some (aa.1, aa.2.1, aa.2.2)))
theorem Hh.c (hs : St w0 ρ (Γ) w) {x0 : ByteArray} {r : List Int × Int × Int} (H : Hh.f x0 = some r) : Zn Tryz.prog 32 [.string x0] w (fun v w' => ∃ (ρ' : Hp) (v0 : Value) (cs0 : List Value), v = .tuple #[v0, .int .i64 r.2.1, .int .i64 r.2.2] ∧ Le ρ ρ' ∧ St w0 ρ' (.row v0 21 (Rep.int .i32).sz r.1.length cs0 :: Γ) w' ∧ Zm (Rep.int .i32) ρ' cs0 r.1) := by
 rw [Hh.f] at H
 refine Et Tryz.func32 Tryz.ntmps32 rfl <| Wr fun an ah => As rfl <| As rfl <| As rfl <| Ox ah <| Zh fun ao ai => Zc ?_
 obtain ⟨af, ab, H⟩ := bnd H
 refine Oc rfl (Zam.c hs ab) (fun ap w hpost => ?_)
 obtain ⟨aq, aj, rfl, ac, hs, ag⟩ := hpost
 have ak := ag
 obtain rfl := ak
 refine Mv rfl ?_
 obtain ⟨aa, ad, H⟩ := bnd H
 refine Oc rfl (Yz.c hs ag ad) (fun ar w hpost => ?_)
 obtain ⟨au, av, al, rfl, ae, hs, am⟩ := hpost
 refine Oxt rfl <| Oxt rfl <| Oxt rfl <| As rfl <| As rfl <| As rfl <| Ox ai <| Zk ?_
 obtain rfl := Zz H
 exact Zcu rfl rfl rfl rfl ⟨_, _, _, rfl, (ac.trans ae), hs, am⟩

def Vx.f (x0 : Option Tbs) (x1 : List Int) : Option S10 := (Xi.f x1).bind fun a1 => ((J9.f x1).bind fun ag => (if (!ag) = true then ((X3.f x0 x1).bind fun bq => ((Hk.f bq).bind fun br => (some (⟨a1, ag, br⟩ : S10)))) else ((Uh.f x1).bind fun ao => (if (!ao) = true then (some (⟨a1, ag, 7⟩ : S10)) else (if (0 : Int) ≤ 4 ∧ 4 ≤ (x1.length : Int) ∧ (x1.length : Int) ≤ (x1.length : Int) then ((Hh.f (runesBytes (sub x1 4 (x1.length : Int)))).bind fun ad => (if ad.2.2 ≠ 0 then (some (⟨a1, ag, 8⟩ : S10)) else ((Uh.f ad.1).bind fun ap => (if ap = true then (some (⟨ad.1, ag, 9⟩ : S10)) else ((X3.f x0 ad.1).bind fun aq => ((Hk.f aq).bind fun ar => (some (⟨ad.1, ag, ar⟩ : S10)))))))) else none)))))
theorem Vx.c (hs : St w0 ρ (Γ) w) {v0 : Value} {x0 : Option Tbs} (h0 : Xs Hm ρ v0 x0) {v1 : Value} {x1 : List Int} (h1 : SlR (Rep.int .i32) ρ v1 x1) {r : S10} (H : Vx.f x0 x1 = some r) : Zn Tryz.prog 11 [v0, v1] w (fun v w' => ∃ (ρ' : Hp) (cs0 : List Value), v = .agg cs0.toArray ∧ Le ρ ρ' ∧ St w0 ρ' (Γ) w' ∧ Zxj.R ρ' cs0 r) := by
 rw [Vx.f] at H
 refine Et Tryz.func11 Tryz.ntmps11 rfl <| Wr fun da bu => Y6 Zti hs rfl (fun db w hs => Ox bu <| Wr fun dc bv => Mv rfl ?_)
 obtain ⟨a1, a2, H⟩ := bnd H
 refine Oc rfl (Xi.c hs h1 a2) (fun bw w hpost => ?_)
 obtain ⟨dd, de, bx, rfl, aa, hs, bz⟩ := hpost
 refine Mv rfl ?_
 obtain ⟨ag, a3, H⟩ := bnd H
 refine Oc rfl (J9.c hs (h1.mono aa) a3) (fun df w hpost => ?_)
 obtain ⟨rfl, hs⟩ := hpost
 obtain ⟨dg, ab, hs, ah⟩ := hs.rowEnd (j := 0) bz rfl
 refine O_y rfl (Qe (cs := [bw, .bool ag, .int .i64 0]) Zti Zxr ((Z2.cons rfl ah.cellsL (Z2.cons rfl rfl Z2.nil))) Zh5 (by kernel_rfl)) <| Y6 Zti hs rfl (fun dh w hs => Ye (i := 0) Zdu hs rfl rfl rfl rfl rfl (Zb ah.one (Zb rfl (Zb rfl Yj))) (fun w hs => Ox bv <| Zh fun di b0 => Wr fun dj b1 => Ofd Zra rfl <| Obx 0 ag4 hs rfl <| Ont rfl <| Ox b1 <| Xg rfl (fun a4 => ?_) (fun a4 => ?_)))
 rw [if_pos a4] at H
 refine Wr fun dk b2 => Mv rfl <| Mv rfl ?_
 obtain ⟨bq, a5, H⟩ := bnd H
 refine Oc rfl (X3.c hs (h0.mono (aa.trans ab)) (h1.mono (aa.trans ab)) a5) (fun dl w hpost => ?_)
 obtain ⟨dm, dn, b3, rfl, au, hs, b4⟩ := hpost
 obtain ⟨dp, av, hs, b5⟩ := hs.rowEnd (j := 0) b4 rfl
 obtain ⟨br, a6, H⟩ := bnd H
 refine Oc rfl (Hk.c hs b5 a6) (fun dq w hpost => ?_)
 obtain ⟨rfl, hs⟩ := hpost
 refine Ofd Zgc rfl <| Vu (i := 0) sz3 hs rfl rfl rfl rfl rfl (fun w hs => Ox b2 <| W.weak [(4, _), (5, _)] (T2 rfl) <| Wr fun dr b6 => O_y rfl (Xk (i := 0) Zh5 Zdu hs rfl rfl rfl rfl) <| Ye (i := 1) Zdu hs rfl rfl rfl rfl rfl (Zb ah.one (Zb rfl (Zb rfl Yj))) (fun w hs => Ox b6 <| Zk ?_))
 obtain rfl := Zz H
 exact Zit (i := 1) rfl rfl Zh5 Zdu hs rfl rfl ⟨_, _, rfl, (((aa.trans ab).trans au).trans av), (hs.sub (ssk (ssk ssr))), ⟨_, rfl, (ah.mono (au.trans av))⟩⟩
 rw [if_neg (bft a4)] at H
 refine Wx b0 <| Zh fun ds b7 => Wr fun dt b8 => Mv rfl ?_
 obtain ⟨ao, aw, H⟩ := bnd H
 refine Oc rfl (Uh.c hs (h1.mono (aa.trans ab)) aw) (fun b9 w hpost => ?_)
 obtain ⟨rfl, hs⟩ := hpost
 refine Ont rfl <| Ox b8 <| W.weak [(0, _), (1, _), (4, _), (5, _), (25, _)] sbn ?_
 refine Xg rfl (fun ak => ?_) (fun ak => ?_)
 rw [if_pos ak] at H
 refine Wr fun ca a7 => Ofd Zgc rfl <| Vu (i := 0) sz3 hs rfl rfl rfl rfl rfl (fun w hs => Ox a7 <| Wr fun cb a8 => O_y rfl (Xk (i := 0) Zh5 Zdu hs rfl rfl rfl rfl) <| Ye (i := 1) Zdu hs rfl rfl rfl rfl rfl (Zb ah.one (Zb rfl (Zb rfl Yj))) (fun w hs => Ox a8 <| Zk ?_))
 obtain rfl := Zz H
 exact Zit (i := 1) rfl rfl Zh5 Zdu hs rfl rfl ⟨_, _, rfl, (aa.trans ab), (hs.sub (ssk (ssk ssr))), ⟨_, rfl, ah⟩⟩
 rw [if_neg (bft ak)] at H
 refine Wx b7 <| Wr fun cc a9 => Mv rfl ?_
 obtain ⟨al, H⟩ := gd H
 obtain ⟨cd, ba, bb⟩ := (h1.mono (aa.trans ab)).cut Q7 al.1 al.2.1 al.2.2
 refine O_y rfl (bb rfl (.inr ⟨_, _, rfl, rfl⟩) (.inl ⟨rfl, rfl⟩)) <| O_y rfl (Zht V2 Za9 un9 hs ba rfl) ?_
 obtain ⟨ad, ax, H⟩ := bnd H
 refine Oc rfl (Hh.c hs ax) (fun ce w hpost => ?_)
 obtain ⟨cf, cg, bs, rfl, ac, hs, bc⟩ := hpost
 refine Mv rfl <| Oxt rfl <| Oxt rfl <| Oxt rfl <| As rfl <| As rfl <| As rfl <| Ox a9 <| W.weak [(0, _), (4, _), (5, _), (6, _), (8, _)] sbn ?_
 refine Zh fun ch bd => Wr fun ci be => Mv rfl <| One rfl <| Ox be <| Y7 rfl (fun am => ?_) (fun am => ?_)
 rw [if_pos am] at H
 refine Wr fun cj bf => Ofd Zgc rfl <| Vu (i := 1) sz3 hs rfl rfl rfl rfl rfl (fun w hs => Ox bf <| Wr fun ck bg => O_y rfl (Xk (i := 1) Zh5 Zdu hs rfl rfl rfl rfl) <| Ye (i := 2) Zdu hs rfl rfl rfl rfl rfl (Zb ah.one (Zb rfl (Zb rfl Yj))) (fun w hs => Ox bg <| Zk ?_))
 obtain rfl := Zz H
 exact Zit (i := 2) rfl rfl Zh5 Zdu hs rfl rfl ⟨_, _, rfl, ((aa.trans ab).trans ac), (hs.sub (ssk (ssk (ssk ssr)))), ⟨_, rfl, (ah.mono ac)⟩⟩
 rw [if_neg am] at H
 refine Wx bd <| Wr fun cl bh => Mv rfl <| Ofd Zr0 rfl <| Vu (i := 1) Zte hs rfl rfl rfl rfl (St.rowOne hs (j := 0) rfl) (fun w hs => Ox bh <| Zh fun cm bi => Zh fun cn bj => ?_)
 obtain ⟨co, af, hs, ae⟩ := hs.rowEnd (j := 0) bc rfl
 refine Zc <| Mv rfl ?_
 obtain ⟨ap, ay, H⟩ := bnd H
 refine Oc rfl (Uh.c hs ae ay) (fun cp w hpost => ?_)
 obtain ⟨rfl, hs⟩ := hpost
 refine Ox bj <| Xg rfl (fun an => ?_) (fun an => ?_)
 rw [if_pos an] at H
 refine Wr fun cq bk => Ofd Zgc rfl <| Vu (i := 0) sz3 hs rfl rfl rfl rfl rfl (fun w hs => Ox bk <| Wr fun cr bl => O_y rfl (Xk (i := 0) Zh5 Zdu hs rfl rfl rfl rfl) <| Ye (i := 1) Zdu hs rfl rfl rfl rfl rfl (Zb ae.one (Zb rfl (Zb rfl Yj))) (fun w hs => Ox bl <| Zk ?_))
 obtain rfl := Zz H
 exact Zit (i := 1) rfl rfl Zh5 Zdu hs rfl rfl ⟨_, _, rfl, (((aa.trans ab).trans ac).trans af), (hs.sub (ssk (ssk ssr))), ⟨_, rfl, ae⟩⟩
 rw [if_neg (bft an)] at H
 refine Wx bi <| Wr fun ct bm => Mv rfl <| Mv rfl ?_
 obtain ⟨aq, az, H⟩ := bnd H
 refine Oc rfl (X3.c hs (h0.mono (((aa.trans ab).trans ac).trans af)) ae az) (fun cu w hpost => ?_)
 obtain ⟨cv, cw, bt, rfl, ai, hs, bn⟩ := hpost
 obtain ⟨cx, aj, hs, bo⟩ := hs.rowEnd (j := 0) bn rfl
 obtain ⟨ar, a0, H⟩ := bnd H
 refine Oc rfl (Hk.c hs bo a0) (fun cy w hpost => ?_)
 obtain ⟨rfl, hs⟩ := hpost
 refine Ofd Zgc rfl <| Vu (i := 0) sz3 hs rfl rfl rfl rfl rfl (fun w hs => Ox bm <| W.weak [(4, _), (5, _)] (T2 rfl) <| Wr fun cz bp => O_y rfl (Xk (i := 0) Zh5 Zdu hs rfl rfl rfl rfl) <| Ye (i := 1) Zdu hs rfl rfl rfl rfl rfl (Zb ae.one (Zb rfl (Zb rfl Yj))) (fun w hs => Ox bp <| Zk ?_))
 obtain rfl := Zz H
 exact Zit (i := 1) rfl rfl Zh5 Zdu hs rfl rfl ⟨_, _, rfl, (((((aa.trans ab).trans ac).trans af).trans ai).trans aj), (hs.sub (ssk (ssk ssr))), ⟨_, rfl, (ae.mono (ai.trans aj))⟩⟩

def Q8.j1 (aa : Bool) : Option Bool := some aa
def Q8.f (x0 y0_0 y0_1 y0_2 y0_3 y0_4 y0_5 y0_6 y0_7 : Int) : Option Bool := if (i64.wrap x0) < y0_6 then ((Qz.f (⟨y0_0, y0_1, y0_2, y0_3, y0_4, y0_5, y0_6, y0_7⟩ : S11) x0).bind fun ab => (Q8.j1 (!ab))) else (Q8.j1 false)
theorem Q8.c {pb0 : Nat} {y0_0 y0_1 y0_2 y0_3 y0_4 y0_5 y0_6 y0_7 : Int} (hs : St w0 ρ ((.box pb0 117 ([.int .i64 y0_0, .int .i64 y0_1, .int .i64 y0_2, .int .i64 y0_3, .int .i64 y0_4, .int .i64 y0_5, .int .i64 y0_6, .int .u8 y0_7])) :: Γ) w) {x0 : Int} {r : Bool} (H : Q8.f x0 y0_0 y0_1 y0_2 y0_3 y0_4 y0_5 y0_6 y0_7 = some r) : Zn Tryz.prog 156 [.int .i32 x0, .pointer (some ⟨pb0, 0, none⟩)] w (fun v w' => v = .bool r ∧ St w0 ρ ((.box pb0 117 ([.int .i64 y0_0, .int .i64 y0_1, .int .i64 y0_2, .int .i64 y0_3, .int .i64 y0_4, .int .i64 y0_5, .int .i64 y0_6, .int .u8 y0_7])) :: Γ) w') := by
 rw [Q8.f] at H
 refine Et Tryz.func156 Tryz.ntmps156 rfl <| Wr fun aj ag => As rfl <| Ox ag <| Yu fun ah ai ae => ?_
 have af : ∀ (aa : Bool) (w : World), Q8.j1 aa = some r → St w0 ρ ((.box pb0 117 ([.int .i64 y0_0, .int .i64 y0_1, .int .i64 y0_2, .int .i64 y0_3, .int .i64 y0_4, .int .i64 y0_5, .int .i64 y0_6, .int .u8 y0_7])) :: Γ) w → ah [(3, .bool aa)] w := by
  intro aa w H hs
  rw [Q8.j1] at H
  refine ai _ _ <| Zk ?_
  obtain rfl := Zz H
  exact r1 rfl ⟨rfl, hs⟩
 refine Zc <| Mv rfl <| O_y rfl (V4 Za9 un3 rfl) <| Ofd Zhj rfl <| Obx 0 ag3 hs rfl <| Ols rfl <| Mv rfl <| X6 (dj := 9) rfl (fun ac => ?_) (fun ac => ?_)
 rw [if_pos ac] at H
 refine Oe rfl <| O_y rfl (Xk (i := 0) Zc8 Zda hs rfl rfl rfl rfl) <| Oe rfl <| Mv rfl <| Oe rfl ?_
 obtain ⟨ab, ad, H⟩ := bnd H
 refine Oc rfl (Qz.c hs (show Zde.R ρ _ (⟨y0_0, y0_1, y0_2, y0_3, y0_4, y0_5, y0_6, y0_7⟩ : S11) from rfl) ad) (fun ak w hpost => ?_)
 obtain ⟨rfl, hs⟩ := hpost
 refine Oe rfl <| Ont rfl <| Opk rfl <| As rfl <| Zd (ae _ _ _ (S1 rfl) (af (!ab) _ H hs))
 rw [if_neg ac] at H
 refine On rfl <| On rfl <| On rfl <| On rfl <| Opk rfl <| As rfl <| Zd (ae _ _ _ (S1 rfl) (af false _ H hs))

def Xd.l1 : Nat → Int → Int → Int → Int → Int → Int → Int → Int → List Int → Int → Option Int
  | 0, _, _, _, _, _, _, _, _, _, _ => none
  | ab + 1, y0_0, y0_1, y0_2, y0_3, y0_4, y0_5, y0_6, y0_7, x0, aa => if aa < (x0.length : Int) then (if (0 : Int) ≤ aa ∧ aa < (x0.length : Int) then ((Q8.f (rd x0 aa) y0_0 y0_1 y0_2 y0_3 y0_4 y0_5 y0_6 y0_7).bind fun ag => (if ag = true then (some aa) else ((Xd.l1 ab y0_0 y0_1 y0_2 y0_3 y0_4 y0_5 y0_6 y0_7 x0) (i64.wrap (aa + 1))))) else none) else (some (-1))
def Xd.f (x0 : List Int) (y0_0 y0_1 y0_2 y0_3 y0_4 y0_5 y0_6 y0_7 : Int) : Option Int := Xd.l1 K0 y0_0 y0_1 y0_2 y0_3 y0_4 y0_5 y0_6 y0_7 x0 0
theorem Xd.c {pb0 : Nat} {y0_0 y0_1 y0_2 y0_3 y0_4 y0_5 y0_6 y0_7 : Int} (hs : St w0 ρ ((.box pb0 117 ([.int .i64 y0_0, .int .i64 y0_1, .int .i64 y0_2, .int .i64 y0_3, .int .i64 y0_4, .int .i64 y0_5, .int .i64 y0_6, .int .u8 y0_7])) :: Γ) w) {v0 : Value} {x0 : List Int} (h0 : SlR (Rep.int .i32) ρ v0 x0) {r : Int} (H : Xd.f x0 y0_0 y0_1 y0_2 y0_3 y0_4 y0_5 y0_6 y0_7 = some r) : Zn Tryz.prog 77 [v0, .func (.func 156) #[] #[.pointer (some ⟨pb0, 0, none⟩)]] w (fun v w' => v = .int .i64 r ∧ St w0 ρ ((.box pb0 117 ([.int .i64 y0_0, .int .i64 y0_1, .int .i64 y0_2, .int .i64 y0_3, .int .i64 y0_4, .int .i64 y0_5, .int .i64 y0_6, .int .u8 y0_7])) :: Γ) w') := by
 rw [Xd.f] at H
 refine Et Tryz.func77 Tryz.ntmps77 rfl <| Wr fun ax ai => As rfl <| Ox ai <| Zh fun ay aj => Wr fun az ak => Mv rfl <| O_y rfl (Yv V2 h0 rfl) <| Mv rfl <| Ox ak <| Zj fun a0 al a1 => Y9 (σ := Nat × Int) (fun (ab, aa) => [(0, v0), (1, .func (.func 156) #[] #[.pointer (some ⟨pb0, 0, none⟩)]), (7, .int .i64 (x0.length : Int)), (8, .int .i64 aa)]) (fun (ab, aa) w => Xd.l1 ab y0_0 y0_1 y0_2 y0_3 y0_4 y0_5 y0_6 y0_7 x0 aa = some r ∧ St w0 ρ ((.box pb0 117 ([.int .i64 y0_0, .int .i64 y0_1, .int .i64 y0_2, .int .i64 y0_3, .int .i64 y0_4, .int .i64 y0_5, .int .i64 y0_6, .int .u8 y0_7])) :: Γ) w) (fun s => s.1) (K0, 0) (T4 rfl) (Ai H hs) ?_
 rintro ⟨ab, aa⟩ w a2 ⟨H, hs⟩ ac
 show W _ _ _ _ _ _ [(0, v0), (1, .func (.func 156) #[] #[.pointer (some ⟨pb0, 0, none⟩)]), (7, .int .i64 (x0.length : Int)), (8, .int .i64 aa)] w
 cases ab with
 | zero => rw [Xd.l1] at H; cases H
 | succ ab =>
 rw [Xd.l1] at H
 refine Wr fun a3 am => Ols rfl <| Ox am <| Zh fun a4 an => Y7 rfl (fun ad => ?_) (fun ad => ?_)
 rw [if_pos ad] at H
 refine Wx an <| Zh fun a5 ao => Zj fun a6 a7 a8 => Wr fun a9 ap => Mv rfl <| As rfl <| Ox ap <| Wr fun ba aq => Mv rfl <| Mv rfl <| Mv rfl ?_
 obtain ⟨ah, H⟩ := gd H
 obtain ⟨bb, bc, ar, au⟩ := h0.ix Q7 ah.1 ah.2
 refine O_y rfl (au rfl rfl) <| O_y rfl (Xp Xm rfl (hs.see ar.int)) ?_
 obtain ⟨ag, ae, H⟩ := bnd H
 refine Xo rfl rfl rfl (Q8.c hs ae) (fun bd w hpost => ?_)
 obtain ⟨rfl, hs⟩ := hpost
 refine Ox aq <| Xg rfl (fun af => ?_) (fun af => ?_)
 rw [if_pos af] at H
 refine Wr fun be av => Mv rfl <| As rfl <| Ox av <| W.weak [(4, _)] (S1 rfl) <| Zk ?_
 obtain rfl := Zz H
 exact r1 rfl ⟨rfl, hs⟩
 rw [if_neg (bft af)] at H
 refine Wx ao <| Zc <| Oad rfl <| Mv rfl <| Zd (ac (ab, (i64.wrap (aa + 1))) _ _ (T4 rfl) (Ai H hs) (Nat.lt_succ_self _))
 rw [if_neg ad] at H
 refine Y4 (al _ _ (aj _ _ <| Wr fun bf aw => As rfl <| Ox aw <| Zk ?_))
 obtain rfl := Zz H
 exact r1 rfl ⟨rfl, hs⟩

def Vd.l1 : Nat → S11 → List Int → Int → Option (Int × Int)
  | 0, _, _, _ => none
  | ab + 1, x0, x1, aa => if aa < (x1.length : Int) then (if (0 : Int) ≤ aa ∧ aa < (x1.length : Int) then ((Ud.f (rd x1 aa)).bind fun am => (if (!am) = true then (some (aa, 20)) else ((Vd.l1 ab x0 x1) (i64.wrap (aa + 1))))) else none) else ((Xd.f x1 x0.base x0.least x0.most x0.skew x0.damp x0.bias x0.first x0.between).bind fun ad => (if 0 ≤ ad then (some (ad, 141)) else (some (0, 0))))
def Vd.f (x0 : S11) (x1 : List Int) : Option (Int × Int) := Vd.l1 K0 x0 x1 0
theorem Vd.c (hs : St w0 ρ (Γ) w) {c0 : List Value} {x0 : S11} (h0 : Zde.R ρ c0 x0) {v1 : Value} {x1 : List Int} (h1 : SlR (Rep.int .i32) ρ v1 x1) {r : Int × Int} (H : Vd.f x0 x1 = some r) : Zn Tryz.prog 119 [.agg c0.toArray, v1] w (fun v w' => v = .tuple #[.int .i64 r.1, .int .i64 r.2] ∧ St w0 ρ Γ w') := by
 rw [Vd.f] at H
 refine Et Tryz.func119 Tryz.ntmps119 rfl ?_
 have ao := h0
 obtain rfl := ao
 refine Wr fun a8 ap => Vg (cs := [.int .i64 x0.base, .int .i64 x0.least, .int .i64 x0.most, .int .i64 x0.skew, .int .i64 x0.damp, .int .i64 x0.bias, .int .i64 x0.first, .int .u8 x0.between]) hs rfl rfl (fun ae w hs => As rfl <| As rfl <| Ox ap <| Zh fun a9 aq => Wr fun ba ar => Mv rfl <| O_y rfl (Yv V2 h1 rfl) <| Mv rfl <| Ox ar <| Zj fun bb au bc => ?_)
 refine Y9 (σ := Nat × Int) (fun (ab, aa) => [(1, v1), (2, .pointer (some ⟨ae, 0, none⟩)), (9, v1), (10, .int .i64 (x1.length : Int)), (11, .int .i64 aa)]) (fun (ab, aa) w => Vd.l1 ab x0 x1 aa = some r ∧ St w0 ρ ((.box ae 117 ([.int .i64 x0.base, .int .i64 x0.least, .int .i64 x0.most, .int .i64 x0.skew, .int .i64 x0.damp, .int .i64 x0.bias, .int .i64 x0.first, .int .u8 x0.between])) :: Γ) w) (fun s => s.1) (K0, 0) sbn (Ai H hs) ?_
 rintro ⟨ab, aa⟩ w bd ⟨H, hs⟩ ac
 show W _ _ _ _ _ _ [(1, v1), (2, .pointer (some ⟨ae, 0, none⟩)), (9, v1), (10, .int .i64 (x1.length : Int)), (11, .int .i64 aa)] w
 cases ab with
 | zero => rw [Vd.l1] at H; cases H
 | succ ab =>
 rw [Vd.l1] at H
 refine Wr fun be av => Ols rfl <| Ox av <| Zh fun bf aw => Y7 rfl (fun af => ?_) (fun af => ?_)
 rw [if_pos af] at H
 refine Wx aw <| Zh fun bg ax => Zj fun bh bi bj => Wr fun bk ay => Mv rfl ?_
 obtain ⟨an, H⟩ := gd H
 obtain ⟨bl, bm, az, a0⟩ := h1.ix Q7 an.1 an.2
 refine O_y rfl (a0 rfl rfl) <| O_y rfl (Xp Xm rfl (hs.see az.int)) <| As rfl <| As rfl <| Ox ay <| Wr fun bn a1 => Mv rfl ?_
 obtain ⟨am, ag, H⟩ := bnd H
 refine Oc rfl (Ud.c hs ag) (fun bo w hpost => ?_)
 obtain ⟨rfl, hs⟩ := hpost
 refine Ont rfl <| Ox a1 <| Xg rfl (fun ah => ?_) (fun ah => ?_)
 rw [if_pos ah] at H
 refine Wr fun bp a2 => Mv rfl <| As rfl <| As rfl <| Ox a2 <| W.weak [(4, _), (5, _)] (T2 rfl) <| Zk ?_
 obtain rfl := Zz H
 exact Zbs rfl rfl rfl ⟨rfl, (hs.sub (ssk ssr))⟩
 rw [if_neg (bft ah)] at H
 refine Wx ax <| Zc <| Oad rfl <| Mv rfl <| Zd (ac (ab, (i64.wrap (aa + 1))) _ _ sbn (Ai H hs) (Nat.lt_succ_self _))
 rw [if_neg af] at H
 refine Y4 (au _ _ (aq _ _ <| Zh fun bq a3 => Wr fun br a4 => Mv rfl <| O_y rfl (Ux rfl) ?_))
 obtain ⟨ad, ai, H⟩ := bnd H
 refine Oc rfl (Xd.c hs h1 ai) (fun bs w hpost => ?_)
 obtain ⟨rfl, hs⟩ := hpost
 refine As rfl <| Ox a4 <| Wr fun bt a5 => Mv rfl <| Oge rfl <| Ox a5 <| Y7 rfl (fun aj => ?_) (fun aj => ?_)
 rw [if_pos aj] at H
 refine Wr fun a6 ak => Mv rfl <| As rfl <| As rfl <| Ox ak <| W.weak [(4, _), (5, _)] (T2 rfl) <| Zk ?_
 obtain rfl := Zz H
 exact Zbs rfl rfl rfl ⟨rfl, (hs.sub (ssk ssr))⟩
 rw [if_neg aj] at H
 refine Wx a3 <| Wr fun a7 al => As rfl <| As rfl <| Ox al <| Zk ?_
 obtain rfl := Zz H
 exact Zbs rfl rfl rfl ⟨rfl, (hs.sub (ssk ssr))⟩

def Vv.j1 (ae : Int → Int → Option Int) (aa ad : Int) : Option Int := ae ad (i64.wrap (aa + 1))
def Vv.l1 : Nat → List Int → Int → Int → Int → Option Int
  | 0, _, _, _, _ => none
  | ac + 1, x0, x1, ab, aa => if aa < (x0.length : Int) then (if (0 : Int) ≤ aa ∧ aa < (x0.length : Int) then (if x1 ≤ (i64.wrap (rd x0 aa)) then (Vv.j1 (Vv.l1 ac x0 x1) aa (min ab (i64.wrap (rd x0 aa)))) else (Vv.j1 (Vv.l1 ac x0 x1) aa ab)) else none) else (some ab)
def Vv.f (x0 : List Int) (x1 : Int) : Option Int := Vv.l1 K0 x0 x1 1114111 0
theorem Vv.c (hs : St w0 ρ (Γ) w) {v0 : Value} {x0 : List Int} (h0 : SlR (Rep.int .i32) ρ v0 x0) {x1 r : Int} (H : Vv.f x0 x1 = some r) : Zn Tryz.prog 121 [v0, .int .i64 x1] w (fun v w' => v = .int .i64 r ∧ St w0 ρ Γ w') := by
 rw [Vv.f] at H
 refine Et Tryz.func121 Tryz.ntmps121 rfl <| Wr fun a1 al => As rfl <| Ox al <| Wr fun a2 am => As rfl <| Ox am <| Zh fun a3 an => Wr fun a4 ao => Mv rfl <| O_y rfl (Yv V2 h0 rfl) ?_
 refine Mv rfl <| Ox ao <| Zj fun a5 ap a6 => Y9 (σ := Nat × Int × Int) (fun (ac, ab, aa) => [(1, .int .i64 x1), (5, .int .i64 ab), (8, v0), (9, .int .i64 (x0.length : Int)), (10, .int .i64 aa)]) (fun (ac, ab, aa) w => Vv.l1 ac x0 x1 ab aa = some r ∧ St w0 ρ (Γ) w) (fun s => s.1) (K0, 1114111, 0) sbn (Ai H hs) ?_
 rintro ⟨ac, ab, aa⟩ w a7 ⟨H, hs⟩ af
 show W _ _ _ _ _ _ [(1, .int .i64 x1), (5, .int .i64 ab), (8, v0), (9, .int .i64 (x0.length : Int)), (10, .int .i64 aa)] w
 cases ac with
 | zero => rw [Vv.l1] at H; cases H
 | succ ac =>
 rw [Vv.l1] at H
 refine Wr fun a8 aq => Ols rfl <| Ox aq <| Zh fun a9 ar => Y7 rfl (fun ag => ?_) (fun ag => ?_)
 rw [if_pos ag] at H
 refine Wx ar <| Yu fun au av ai => ?_
 have aj : ∀ (ad : Int) (w : World), Vv.j1 (Vv.l1 ac x0 x1) aa ad = some r → St w0 ρ (Γ) w → au [(1, .int .i64 x1), (5, .int .i64 ad), (8, v0), (9, .int .i64 (x0.length : Int)), (10, .int .i64 aa)] w := by
  intro ad w H hs
  rw [Vv.j1] at H
  refine av _ _ <| Zc <| Oad rfl <| Mv rfl <| Zd (af (ac, ad, (i64.wrap (aa + 1))) _ _ sbn (Ai H hs) (Nat.lt_succ_self _))
 refine Zj fun ba bb bc => Zh fun bd aw => Zc ?_
 obtain ⟨ak, H⟩ := gd H
 obtain ⟨be, bf, ax, ay⟩ := h0.ix Q7 ak.1 ak.2
 refine O_y rfl (ay rfl rfl) <| O_y rfl (Xp Xm rfl (hs.see ax.int)) <| As rfl <| Ox aw <| Wr fun bg az => Mv rfl <| O_y rfl (V4 Za9 un3 rfl) <| Mv rfl <| Oge rfl <| Ox az <| Y7 rfl (fun ah => ?_) (fun ah => ?_)
 rw [if_pos ah] at H
 refine Zc <| Mv rfl <| Mv rfl <| O_y rfl (V4 Za9 un3 rfl) <| O_y rfl (Zr1 rfl rfl) <| As rfl <| Zd (ai _ _ _ sbn (aj (min ab (i64.wrap (rd x0 aa))) _ H hs))
 rw [if_neg ah] at H
 exact Ua (ai _ _ _ sbn (aj ab _ H hs))
 rw [if_neg ag] at H
 refine Y4 (ap _ _ (an _ _ <| Wr fun bh a0 => Mv rfl <| As rfl <| Ox a0 <| Zk ?_))
 obtain rfl := Zz H
 exact r1 rfl ⟨rfl, hs⟩

def Zao.f (x0 : Int) : Option Int := if x0 < 26 then (some (u8.wrap (i64.wrap (97 + x0)))) else (some (u8.wrap (i64.wrap ((i64.wrap (48 + x0)) - 26))))
theorem Zao.c (hs : St w0 ρ (Γ) w) {x0 r : Int} (H : Zao.f x0 = some r) : Zn Tryz.prog 158 [.int .i64 x0] w (fun v w' => v = .int .u8 r ∧ St w0 ρ Γ w') := by
 rw [Zao.f] at H
 refine Et Tryz.func158 Tryz.ntmps158 rfl <| Wr fun ag ab => As rfl <| Ox ab <| Zh fun ah ac => Wr fun ai ad => Mv rfl <| Ols rfl <| Ox ad <| Y7 rfl (fun aa => ?_) (fun aa => ?_)
 rw [if_pos aa] at H
 refine Wr fun aj ae => Mv rfl <| Oad rfl <| O_y rfl (V4 un3 un5 rfl) <| As rfl <| Ox ae <| Zk ?_
 obtain rfl := Zz H
 exact r1 rfl ⟨rfl, hs⟩
 rw [if_neg aa] at H
 refine Wx ac <| Wr fun ak af => Mv rfl <| Oad rfl <| Osu rfl <| O_y rfl (V4 un3 un5 rfl) <| As rfl <| Ox af <| Zk ?_
 obtain rfl := Zz H
 exact r1 rfl ⟨rfl, hs⟩

def Kw.l1 : Nat → S11 → Int → List Int → Int → Int → Option (List Int)
  | 0, _, _, _, _, _ => none
  | af + 1, x0, x2, aa, ab, ad => (Ko.f x0 ad x2).bind fun ah => (if ab < ah then ((Zao.f ab).bind fun aj => (if aa.length + ([aj]).length ≤ most then (some (aa ++ ([aj]))) else none)) else (if (i64.wrap (x0.base - ah)) ≠ 0 then ((Zao.f (i64.wrap (ah + ((i64.wrap (ab - ah)).tmod (i64.wrap (x0.base - ah)))))).bind fun ai => (if aa.length + ([ai]).length ≤ most then ((Kw.l1 af x0 x2) (aa ++ ([ai])) (i64.wrap ((i64.wrap (ab - ah)).tdiv (i64.wrap (x0.base - ah)))) (i64.wrap (ad + x0.base))) else none)) else none))
def Kw.f (x0 : S11) (x1 x2 : Int) : Option (List Int) := Kw.l1 K0 x0 x2 ([] : List Int) x1 x0.base
theorem Kw.c (hs : St w0 ρ (Γ) w) {c0 : List Value} {x0 : S11} (h0 : Zde.R ρ c0 x0) {x1 x2 : Int} {r : List Int} (H : Kw.f x0 x1 x2 = some r) : Zn Tryz.prog 122 [.agg c0.toArray, .int .i64 x1, .int .i64 x2] w (fun v w' => ∃ (ρ' : Hp) (v0 : Value) (cs0 : List Value), v = v0 ∧ Le ρ ρ' ∧ St w0 ρ' (.row v0 5 (Rep.int .u8).sz r.length cs0 :: Γ) w' ∧ Zm (Rep.int .u8) ρ' cs0 r) := by
 rw [Kw.f] at H
 refine Et Tryz.func122 Tryz.ntmps122 rfl ?_
 have az := h0
 obtain rfl := az
 refine Wr fun bg a0 => Vg (cs := [.int .i64 x0.base, .int .i64 x0.least, .int .i64 x0.most, .int .i64 x0.skew, .int .i64 x0.damp, .int .i64 x0.bias, .int .i64 x0.first, .int .u8 x0.between]) hs rfl rfl (fun ao w hs => As rfl <| Ox a0 <| Wr fun bh a1 => As rfl ?_)
 have hs := hs.rowNil 5 (Rep.int .u8).sz
 have a2 := Zm.nil (Rep.int .u8) ρ
 refine Ox a1 <| Wr fun bi a3 => Mv rfl <| As rfl <| Ox a3 <| Wr fun bj a4 => Ofd Zbi rfl <| Obx 1 ag3 hs rfl <| As rfl <| Ox a4 <| Zj fun bk bl bm => Y9 (σ := Nat × List Int × Int × Int × Value × List Value) (fun (af, aa, ab, ad, ac, ae) => [(2, .int .i64 x2), (3, .pointer (some ⟨ao, 0, none⟩)), (7, ac), (8, .int .i64 ab), (9, .int .i64 ad)]) (fun (af, aa, ab, ad, ac, ae) w => Kw.l1 af x0 x2 aa ab ad = some r ∧ St w0 ρ ((.row ac 5 ((Rep.int .u8).sz) aa.length ae) :: (.box ao 117 ([.int .i64 x0.base, .int .i64 x0.least, .int .i64 x0.most, .int .i64 x0.skew, .int .i64 x0.damp, .int .i64 x0.bias, .int .i64 x0.first, .int .u8 x0.between])) :: Γ) w ∧ Zm (Rep.int .u8) ρ ae aa) (fun s => s.1) (K0, ([] : List Int), x1, x0.base, (.slice none 0 0), ([])) sbn (Ai H (Ai hs a2)) ?_
 rintro ⟨af, aa, ab, ad, ac, ae⟩ w bn ⟨H, hs, ag⟩ ak
 show W _ _ _ _ _ _ [(2, .int .i64 x2), (3, .pointer (some ⟨ao, 0, none⟩)), (7, ac), (8, .int .i64 ab), (9, .int .i64 ad)] w
 cases af with
 | zero => rw [Kw.l1] at H; cases H
 | succ af =>
 rw [Kw.l1] at H
 refine Zh fun bo a5 => Zj fun bp bq br => Wr fun bs a6 => O_y rfl (Xk (i := 1) Zc8 Zda hs rfl rfl rfl rfl) <| Mv rfl <| Mv rfl ?_
 obtain ⟨ah, ap, H⟩ := bnd H
 refine Oc rfl (Ko.c hs h0 ap) (fun bt w hpost => ?_)
 obtain ⟨rfl, hs⟩ := hpost
 refine As rfl <| Ox a6 <| Zh fun bu a7 => Wr fun bv a8 => Mv rfl <| Mv rfl <| Ols rfl <| Ox a8 <| Y7 rfl (fun aq => ?_) (fun aq => ?_)
 rw [if_pos aq] at H
 refine Wr fun bw a9 => Mv rfl <| Mv rfl ?_
 obtain ⟨aj, ar, H⟩ := bnd H
 refine Oc rfl (Zao.c hs ar) (fun bx w hpost => ?_)
 obtain ⟨rfl, hs⟩ := hpost
 refine Ku (xs := [.tmp 27]) (cs := [.int .u8 aj]) Zg8 hs rfl rfl rfl (by decide) (by decide) rfl (Yc rfl Kb) (Zv rfl Xy) (fun bz w hs => ?_)
 have ax : Zm (Rep.int .u8) ρ ([.int .u8 aj]) [aj] := Zm.cons (c := [.int .u8 aj]) (x := aj) rfl (Zm.nil _ _)
 obtain ⟨ba, H⟩ := gd H
 refine Qt (i := 1) Zg8 hs rfl ag rfl rfl rfl (Src.lit (j := 0) hs rfl ax) ax ba (fun b0 bb w bc hs => As rfl <| Ox a9 <| W.weak [(6, _)] (S1 rfl) <| Zk ?_)
 obtain rfl := Zz H
 exact r1 rfl ⟨_, _, _, rfl, Le.rfl' _, (hs.sub (ssk (ssc (ssk ssr)))), bc⟩
 rw [if_neg aq] at H
 refine Wx a7 <| Wr fun b1 bd => Mv rfl <| Mv rfl <| Mv rfl <| Mv rfl <| Osu rfl <| Ofd Zbi rfl <| Obx 1 ag3 hs rfl <| Mv rfl <| Osu rfl ?_
 obtain ⟨ay, H⟩ := gd H
 refine O_y rfl (Zjj rfl rfl ay) <| Oad rfl ?_
 obtain ⟨ai, al, H⟩ := bnd H
 refine Oc rfl (Zao.c hs al) (fun be w hpost => ?_)
 obtain ⟨rfl, hs⟩ := hpost
 refine Ku (xs := [.tmp 41]) (cs := [.int .u8 ai]) Zg8 hs rfl rfl rfl (by decide) (by decide) rfl (Yc rfl Kb) (Zv rfl Xy) (fun bf w hs => ?_)
 have am : Zm (Rep.int .u8) ρ ([.int .u8 ai]) [ai] := Zm.cons (c := [.int .u8 ai]) (x := ai) rfl (Zm.nil _ _)
 obtain ⟨au, H⟩ := gd H
 refine Qt (i := 1) Zg8 hs rfl ag rfl rfl rfl (Src.lit (j := 0) hs rfl am) am au (fun av an w aw hs => As rfl <| Ox bd <| W.weak [(2, _), (3, _), (7, _), (8, _), (9, _), (10, _)] sbn ?_)
 refine Zc <| Mv rfl <| Mv rfl <| Osu rfl <| Ofd Zbi rfl <| Obx 2 ag3 hs rfl <| Mv rfl <| Osu rfl <| O_y rfl (Zc7 rfl rfl ay) <| As rfl <| Ox a5 <| Zc <| Mv rfl <| Ofd Zbi rfl ?_
 refine Obx 2 ag3 hs rfl <| Oad rfl <| As rfl <| Zd (ak (af, (aa ++ ([ai])), (i64.wrap ((i64.wrap (ab - ah)).tdiv (i64.wrap (x0.base - ah)))), (i64.wrap (ad + x0.base)), av, an) _ _ sbn (Ai H (Ai (hs.sub (ssk (ssc (ssc ssr)))) aw)) (Nat.lt_succ_self _))

end Go.Proofs.YthoicbafdanmkaaGreatDoor
/- Written by this repo's gen.py: for each Go function a Lean function with the same answers and the walk that shows it. -/
namespace Go.Proofs.YthoicbafdanmkaaGreatDoor
open Go.IntKind (i8 i16 i32 i64 u8 u16 u32 u64)
open Go.RowKit
set_option maxRecDepth 100000
set_option maxHeartbeats 4000000
variable {w0 w : World} {ρ : Hp} {Γ : List Q5}
set_option linter.unusedVariables false
def Zo.j1 (b2 : List Int → Int → Option (ByteArray × Int × Int)) (ac : Int) (av : List Int) : Option (ByteArray × Int × Int) := b2 av (i64.wrap (ac + 1))
def Zo.j2 (x0 : S11) (am : List Int) : Option (ByteArray × Int × Int) := (Yz.f x0 (Za4 am)).bind fun ci => (if ci.2.2 ≠ 0 then (some ((⟨#[]⟩ : ByteArray), 0, 142)) else (some (Za4 am, 0, 0)))
def Zo.j3 (bw : List Int → Int → Int → Int → Int → Option (ByteArray × Int × Int)) (ad : Int) (an : List Int) (a2 a6 a7 : Int) : Option (ByteArray × Int × Int) := if 2147483647 < a2 then (some ((⟨#[]⟩ : ByteArray), 0, 142)) else (bw an a2 a6 a7 (i64.wrap (ad + 1)))
def Zo.l1 (bi : List Int → Int → Int → Int → Int → Option (ByteArray × Int × Int)) : Nat → S11 → List Int → List Int → Int → List Int → Int → Int → Int → Int → Option (ByteArray × Int × Int)
  | 0, _, _, _, _, _, _, _, _, _ => none
  | a5 + 1, x0, x1, aa, a4, ab, af, ah, ae, ad => if ad < (x1.length : Int) then (if (0 : Int) ≤ ad ∧ ad < (x1.length : Int) then (if (i64.wrap (rd x1 ad)) < a4 then (Zo.j3 (Zo.l1 bi a5 x0 x1 aa a4) ad ab (i64.wrap (af + 1)) ah ae) else (if (i64.wrap (rd x1 ad)) = a4 then ((Kw.f x0 af ah).bind fun bx => (if ab.length + bx.length ≤ most then ((Y8.f x0 af (i64.wrap (ae + 1)) (decide (ae = (aa.length : Int)))).bind fun b3 => (Zo.j3 (Zo.l1 bi a5 x0 x1 aa a4) ad (ab ++ bx) 0 b3 (i64.wrap (ae + 1)))) else none)) else (Zo.j3 (Zo.l1 bi a5 x0 x1 aa a4) ad ab af ah ae))) else none) else (if ae = (x1.length : Int) then (Zo.j2 x0 ab) else (if 2147483647 < (i64.wrap (af + 1)) then (some ((⟨#[]⟩ : ByteArray), 0, 142)) else (bi ab (i64.wrap (a4 + 1)) (i64.wrap (af + 1)) ah ae)))
def Zo.l2 : Nat → S11 → List Int → List Int → List Int → Int → Int → Int → Int → Option (ByteArray × Int × Int)
  | 0, _, _, _, _, _, _, _, _ => none
  | ba + 1, x0, x1, aa, ag, aq, ar, ax, aj => if aj < (x1.length : Int) then ((Vv.f x1 aq).bind fun a4 => (if 2147483647 < (i64.wrap (ar + (i64.wrap ((i64.wrap (a4 - aq)) * (i64.wrap (aj + 1)))))) then (some ((⟨#[]⟩ : ByteArray), 0, 142)) else (Zo.l1 (Zo.l2 ba x0 x1 aa) K0 x0 x1 aa a4 ag (i64.wrap (ar + (i64.wrap ((i64.wrap (a4 - aq)) * (i64.wrap (aj + 1)))))) ax aj 0))) else (Zo.j2 x0 ag)
def Zo.j4 (x0 : S11) (x1 aa ak : List Int) : Option (ByteArray × Int × Int) := Zo.l2 K0 x0 x1 aa ak x0.first 0 x0.bias (aa.length : Int)
def Zo.l3 : Nat → S11 → List Int → List Int → Int → Option (ByteArray × Int × Int)
  | 0, _, _, _, _ => none
  | bj + 1, x0, x1, aa, ac => if ac < (x1.length : Int) then (if (0 : Int) ≤ ac ∧ ac < (x1.length : Int) then ((Qz.f x0 (rd x1 ac)).bind fun cj => (if cj = true then (if aa.length + ([u8.wrap (rd x1 ac)]).length ≤ most then (Zo.j1 (Zo.l3 bj x0 x1) ac (aa ++ ([u8.wrap (rd x1 ac)]))) else none) else (Zo.j1 (Zo.l3 bj x0 x1) ac aa))) else none) else (if 0 < (aa.length : Int) then (if aa.length + ([x0.between]).length ≤ most then (Zo.j4 x0 x1 aa (aa ++ ([x0.between]))) else none) else (Zo.j4 x0 x1 aa aa))
def Zo.f (x0 : S11) (x1 : List Int) : Option (ByteArray × Int × Int) := (Vd.f x0 x1).bind fun dc => (if dc.2 ≠ 0 then (some ((⟨#[]⟩ : ByteArray), dc.1, dc.2)) else (Zo.l3 K0 x0 x1 ([] : List Int) 0))
theorem Zo.c (hs : St w0 ρ (Γ) w) {c0 : List Value} {x0 : S11} (h0 : Zde.R ρ c0 x0) {v1 : Value} {x1 : List Int} (h1 : SlR (Rep.int .i32) ρ v1 x1) {r : ByteArray × Int × Int} (H : Zo.f x0 x1 = some r) : Zn Tryz.prog 70 [.agg c0.toArray, v1] w (fun v w' => v = .tuple #[.string r.1, .int .i64 r.2.1, .int .i64 r.2.2] ∧ St w0 ρ Γ w') := by
 rw [Zo.f] at H
 refine Et Tryz.func70 Tryz.ntmps70 rfl ?_
 have fj := h0
 obtain rfl := fj
 refine Wr fun iu fk => Vg (cs := [.int .i64 x0.base, .int .i64 x0.least, .int .i64 x0.most, .int .i64 x0.skew, .int .i64 x0.damp, .int .i64 x0.bias, .int .i64 x0.first, .int .u8 x0.between]) hs rfl rfl (fun bl w hs => As rfl <| As rfl <| As rfl <| Ox fk <| Zh fun iv fl => Wr fun iw fm => O_y rfl (Xk (i := 0) Zc8 Zda hs rfl rfl rfl rfl) <| Mv rfl ?_)
 obtain ⟨dc, dd, H⟩ := bnd H
 refine Oc rfl (Vd.c hs h0 h1 dd) (fun iy w hpost => ?_)
 obtain ⟨rfl, hs⟩ := hpost
 refine Mv rfl <| Oxt rfl <| Oxt rfl <| As rfl <| As rfl <| Ox fm <| Wr fun iz fn => Mv rfl <| One rfl <| Ox fn <| W.weak [(1, _), (2, _), (7, _), (8, _), (31, _)] sbn ?_
 refine Y7 rfl (fun de => ?_) (fun de => ?_)
 rw [if_pos de] at H
 refine Wr fun ja fo => Mv rfl <| Mv rfl <| As rfl <| As rfl <| As rfl <| Ox fo <| Zk ?_
 obtain rfl := Zz H
 exact Zcu rfl rfl rfl rfl ⟨rfl, (hs.sub (ssk ssr))⟩
 rw [if_neg de] at H
 refine Wx fl <| Wr fun jb fp => As rfl ?_
 have hs := hs.rowNil 5 (Rep.int .u8).sz
 have fq := Zm.nil (Rep.int .u8) ρ
 refine Ox fp <| Zh fun jc fr => Wr fun jd fs => Mv rfl <| O_y rfl (Yv V2 h1 rfl) <| Mv rfl <| Ox fs <| Zj fun je ft jf => Y9 (σ := Nat × List Int × Int × Value × List Value) (fun (bj, aa, ac, aw, ay) => [(1, v1), (2, .pointer (some ⟨bl, 0, none⟩)), (9, aw), (34, v1), (35, .int .i64 (x1.length : Int)), (36, .int .i64 ac)]) (fun (bj, aa, ac, aw, ay) w => Zo.l3 bj x0 x1 aa ac = some r ∧ St w0 ρ ((.row aw 5 ((Rep.int .u8).sz) aa.length ay) :: (.box bl 117 ([.int .i64 x0.base, .int .i64 x0.least, .int .i64 x0.most, .int .i64 x0.skew, .int .i64 x0.damp, .int .i64 x0.bias, .int .i64 x0.first, .int .u8 x0.between])) :: Γ) w ∧ Zm (Rep.int .u8) ρ ay aa) (fun s => s.1) (K0, ([] : List Int), 0, (.slice none 0 0), ([])) sbn (Ai H (Ai hs fq)) ?_
 rintro ⟨bj, aa, ac, aw, ay⟩ w jg ⟨H, hs, bc⟩ b4
 show W _ _ _ _ _ _ [(1, v1), (2, .pointer (some ⟨bl, 0, none⟩)), (9, aw), (34, v1), (35, .int .i64 (x1.length : Int)), (36, .int .i64 ac)] w
 cases bj with
 | zero => rw [Zo.l3] at H; cases H
 | succ bj =>
 rw [Zo.l3] at H
 refine Wr fun jh fu => Ols rfl <| Ox fu <| Zh fun ji fv => Y7 rfl (fun df => ?_) (fun df => ?_)
 rw [if_pos df] at H
 refine Wx fv <| Yu fun fw fx fe => ?_
 have ff : ∀ (av : List Int) (bd : Value) (be : List Value) (w : World), Zo.j1 (Zo.l3 bj x0 x1) ac av = some r → St w0 ρ ((.row bd 5 ((Rep.int .u8).sz) av.length be) :: (.box bl 117 ([.int .i64 x0.base, .int .i64 x0.least, .int .i64 x0.most, .int .i64 x0.skew, .int .i64 x0.damp, .int .i64 x0.bias, .int .i64 x0.first, .int .u8 x0.between])) :: Γ) w → Zm (Rep.int .u8) ρ be av → fw [(1, v1), (2, .pointer (some ⟨bl, 0, none⟩)), (9, bd), (34, v1), (35, .int .i64 (x1.length : Int)), (36, .int .i64 ac)] w := by
  intro av bd be w H hs bs
  rw [Zo.j1] at H
  refine fx _ _ <| Zc <| Oad rfl <| Mv rfl <| Zd (b4 (bj, av, (i64.wrap (ac + 1)), bd, be) _ _ sbn (Ai H (Ai hs bs)) (Nat.lt_succ_self _))
 refine Zj fun jj jk jl => Zh fun jm fy => Zc ?_
 obtain ⟨fg, H⟩ := gd H
 obtain ⟨jn, jo, fz, ga⟩ := h1.ix Q7 fg.1 fg.2
 refine O_y rfl (ga rfl rfl) <| O_y rfl (Xp Xm rfl (hs.see fz.int)) <| As rfl <| Ox fy <| Wr fun gb dg => O_y rfl (Xk (i := 1) Zc8 Zda hs rfl rfl rfl rfl) <| Mv rfl ?_
 obtain ⟨cj, ck, H⟩ := bnd H
 refine Oc rfl (Qz.c hs h0 ck) (fun gc w hpost => ?_)
 obtain ⟨rfl, hs⟩ := hpost
 refine Ox dg <| Xg rfl (fun b5 => ?_) (fun b5 => ?_)
 rw [if_pos b5] at H
 refine Zc <| Mv rfl <| Mv rfl <| O_y rfl (V4 Za9 un5 rfl) <| Ku (xs := [.tmp 45]) (cs := [.int .u8 (u8.wrap (rd x1 ac))]) Zg8 hs rfl rfl rfl (by decide) (by decide) rfl (Yc rfl Kb) (Zv rfl Xy) (fun ge w hs => ?_)
 have cl : Zm (Rep.int .u8) ρ ([.int .u8 (u8.wrap (rd x1 ac))]) [u8.wrap (rd x1 ac)] := Zm.cons (c := [.int .u8 (u8.wrap (rd x1 ac))]) (x := u8.wrap (rd x1 ac)) rfl (Zm.nil _ _)
 obtain ⟨dh, H⟩ := gd H
 refine Qt (i := 1) Zg8 hs rfl bc rfl rfl rfl (Src.lit (j := 0) hs rfl cl) cl dh (fun di cm w dj hs => As rfl <| Zd (fe _ _ _ sbn (ff (aa ++ ([u8.wrap (rd x1 ac)])) di cm _ H (hs.sub (ssk (ssc (ssc ssr)))) dj)))
 rw [if_neg (bft b5)] at H
 exact Ua (fe _ _ _ sbn (ff aa aw ay _ H hs bc))
 rw [if_neg df] at H
 refine Y4 (ft _ _ (fr _ _ <| Wr fun gf dk => Mv rfl <| O_y rfl (V8 (i := 0) Zmx hs rfl rfl) <| As rfl <| Ox dk <| Yu fun dl dm cn => ?_))
 have co : ∀ (ak : List Int) (az : Value) (a0 : List Value) (w : World), Zo.j4 x0 x1 aa ak = some r → St w0 ρ ((.row az 5 ((Rep.int .u8).sz) ak.length a0) :: (.box bl 117 ([.int .i64 x0.base, .int .i64 x0.least, .int .i64 x0.most, .int .i64 x0.skew, .int .i64 x0.damp, .int .i64 x0.bias, .int .i64 x0.first, .int .u8 x0.between])) :: Γ) w → Zm (Rep.int .u8) ρ a0 ak → dl [(1, v1), (2, .pointer (some ⟨bl, 0, none⟩)), (9, az), (12, .int .i64 (aa.length : Int))] w := by
  intro ak az a0 w H hs bp
  rw [Zo.j4] at H
  refine dm _ _ <| Zh fun gg dn => Qn 7 [0, 1, 0, 4, 3, 19, 63] [12, 12, 51, 51, 12, 12, 0] [0, 1, 0, 4, 3, 19, 63] [] (fun w => St w0 ρ ((.row az 5 ((Rep.int .u8).sz) ak.length a0) :: (.box bl 117 ([.int .i64 x0.base, .int .i64 x0.least, .int .i64 x0.most, .int .i64 x0.skew, .int .i64 x0.damp, .int .i64 x0.bias, .int .i64 x0.first, .int .u8 x0.between])) :: Γ) w) Vl (by kernel_rfl) (fun sh => ?_)
  have hs := hs.drew
  refine Fp 0 sh rfl (fun w => Zp Zhj rfl) <| Fy 1 sh rfl hs (fun w hs => Yb 1 ag3 hs rfl rfl rfl) <| Fp 2 sh rfl (fun w => Zp Zo0 rfl) <| Fy 3 sh rfl hs (fun w hs => Yb 1 ag3 hs rfl rfl rfl) <| Fp 4 sh rfl (fun w => Xv rfl) <| Fp 5 sh rfl (fun w => Xv rfl) <| Fp 6 sh rfl (fun w => Xv rfl) <| FE sh (dn _ _ <| Yu fun dp dq cp => ?_)
  have cq : ∀ (am : List Int) (bf : Value) (bg : List Value) (bo : Hp) (w : World), Zo.j2 x0 am = some r → Le ρ bo → St w0 bo ((.row bf 5 ((Rep.int .u8).sz) am.length bg) :: (.box bl 117 ([.int .i64 x0.base, .int .i64 x0.least, .int .i64 x0.most, .int .i64 x0.skew, .int .i64 x0.damp, .int .i64 x0.bias, .int .i64 x0.first, .int .u8 x0.between])) :: Γ) w → Zm (Rep.int .u8) bo bg am → dp [(2, .pointer (some ⟨bl, 0, none⟩)), (9, bf)] w := by
   intro am bf bg bo w H bn hs bq
   rw [Zo.j2] at H
   refine dq _ _ <| Wr fun gh dr => Mv rfl ?_
   obtain ⟨gi, bt, hs, ds⟩ := hs.rowEnd (j := 0) bq rfl
   refine O_y rfl (Zsp Zmx un5 un9 hs ds rfl) <| As rfl <| Ox dr <| Zh fun gj dt => Wr fun gk du => O_y rfl (Xk (i := 0) Zc8 Zda hs rfl rfl rfl rfl) <| Mv rfl ?_
   obtain ⟨ci, cr, H⟩ := bnd H
   refine Oc rfl (Yz.c hs (Zde.mono (bn.trans bt) h0) cr) (fun gl w hpost => ?_)
   obtain ⟨gm, gn, fh, rfl, b1, hs, go⟩ := hpost
   refine Mv rfl <| Oxt rfl <| Oxt rfl <| Oxt rfl <| As rfl <| As rfl <| As rfl <| Ox du <| W.weak [(20, _), (23, _)] (T2 rfl) <| Wr fun gp dv => Mv rfl <| One rfl <| Zd (dv _ _ ?_)
   refine Y7 rfl (fun b6 => ?_) (fun b6 => ?_)
   rw [if_pos b6] at H
   refine Wr fun gq dw => As rfl <| As rfl <| As rfl <| Ox dw <| Zk ?_
   obtain rfl := Zz H
   exact Zcu rfl rfl rfl rfl ⟨rfl, ((hs.sub (ssk (ssk ssr))).less ((bn.trans bt).trans b1))⟩
   rw [if_neg b6] at H
   refine Wx dt <| Wr fun gr dx => Mv rfl <| As rfl <| As rfl <| As rfl <| Ox dx <| Zk ?_
   obtain rfl := Zz H
   exact Zcu rfl rfl rfl rfl ⟨rfl, ((hs.sub (ssk (ssk ssr))).less ((bn.trans bt).trans b1))⟩
  refine Wr fun gs dy => Mv rfl <| As rfl <| Ox dy <| Zj fun gt ct gu => Y9 (σ := Nat × List Int × Int × Int × Int × Int × Value × List Value × Hp) (fun (ba, ag, aq, ar, ax, aj, ao, au, bh) => [(1, v1), (2, .pointer (some ⟨bl, 0, none⟩)), (9, ao), (12, .int .i64 (aa.length : Int)), (13, .int .i64 aq), (14, .int .i64 ar), (15, .int .i64 ax), (16, .int .i64 aj)]) (fun (ba, ag, aq, ar, ax, aj, ao, au, bh) w => Zo.l2 ba x0 x1 aa ag aq ar ax aj = some r ∧ Le ρ bh ∧ St w0 bh ((.row ao 5 ((Rep.int .u8).sz) ag.length au) :: (.box bl 117 ([.int .i64 x0.base, .int .i64 x0.least, .int .i64 x0.most, .int .i64 x0.skew, .int .i64 x0.damp, .int .i64 x0.bias, .int .i64 x0.first, .int .u8 x0.between])) :: Γ) w ∧ Zm (Rep.int .u8) bh au ag) (fun s => s.1) (K0, ak, x0.first, 0, x0.bias, (aa.length : Int), az, a0, ρ) sbn (Ai H (Ai (Le.rfl' _) (Ai hs bp))) ?_
  rintro ⟨ba, ag, aq, ar, ax, aj, ao, au, bh⟩ w gv ⟨H, ap, hs, bk⟩ bz
  show W _ _ _ _ _ _ [(1, v1), (2, .pointer (some ⟨bl, 0, none⟩)), (9, ao), (12, .int .i64 (aa.length : Int)), (13, .int .i64 aq), (14, .int .i64 ar), (15, .int .i64 ax), (16, .int .i64 aj)] w
  cases ba with
  | zero => rw [Zo.l2] at H; cases H
  | succ ba =>
  rw [Zo.l2] at H
  refine Zh fun gw dz => Wr fun gx ea => Mv rfl <| Mv rfl <| O_y rfl (Yv V2 (h1.mono ap) rfl) <| Ols rfl <| Ox ea <| Y7 rfl (fun b7 => ?_) (fun b7 => ?_)
  ·rw [if_pos b7] at H
   refine Wx dz <| Zj fun gy gz eb => Wr fun ha ec => Mv rfl <| Mv rfl ?_
   obtain ⟨a4, cu, H⟩ := bnd H
   refine Oc rfl (Vv.c hs (h1.mono ap) cu) (fun hb w hpost => ?_)
   obtain ⟨rfl, hs⟩ := hpost
   refine As rfl <| Ox ec <| W.weak [(1, _), (2, _), (9, _), (12, _), (13, _), (14, _), (15, _), (16, _), (17, _)] sbn ?_
   refine Wr fun hc ed => Mv rfl <| Mv rfl <| Mv rfl <| Osu rfl <| Mv rfl <| Oad rfl <| Oml rfl <| Oad rfl <| As rfl <| Ox ed <| W.weak [(1, _), (2, _), (9, _), (12, _), (14, _), (15, _), (16, _), (17, _)] sbn ?_
   refine Zh fun hd ee => Wr fun he ef => Mv rfl <| Ogt rfl <| Ox ef <| Y7 rfl (fun b8 => ?_) (fun b8 => ?_)
   rw [if_pos b8] at H
   refine Wr fun hf eg => As rfl <| As rfl <| As rfl <| Ox eg <| Zk ?_
   obtain rfl := Zz H
   exact Zcu rfl rfl rfl rfl ⟨rfl, ((hs.sub (ssk (ssk ssr))).less ap)⟩
   rw [if_neg b8] at H
   refine Wx ee <| Wr fun hg eh => Mv rfl <| As rfl <| Ox eh <| Zh fun hh ei => Wr fun hi ej => Mv rfl <| O_y rfl (Yv V2 (h1.mono ap) rfl) <| Mv rfl <| Ox ej <| W.weak [(1, _), (2, _), (9, _), (12, _), (13, _), (14, _), (15, _), (16, _), (81, _), (82, _), (83, _)] sbn ?_
   refine Zj fun hj ek hk => Y9 (σ := Nat × List Int × Int × Int × Int × Int × Value × List Value × Hp) (fun (a5, ab, af, ah, ae, ad, ai, al, bb) => [(1, v1), (2, .pointer (some ⟨bl, 0, none⟩)), (9, ai), (12, .int .i64 (aa.length : Int)), (13, .int .i64 a4), (14, .int .i64 af), (15, .int .i64 ah), (16, .int .i64 ae), (81, v1), (82, .int .i64 (x1.length : Int)), (83, .int .i64 ad)]) (fun (a5, ab, af, ah, ae, ad, ai, al, bb) w => Zo.l1 (Zo.l2 ba x0 x1 aa) a5 x0 x1 aa a4 ab af ah ae ad = some r ∧ Le bh bb ∧ St w0 bb ((.row ai 5 ((Rep.int .u8).sz) ab.length al) :: (.box bl 117 ([.int .i64 x0.base, .int .i64 x0.least, .int .i64 x0.most, .int .i64 x0.skew, .int .i64 x0.damp, .int .i64 x0.bias, .int .i64 x0.first, .int .u8 x0.between])) :: Γ) w ∧ Zm (Rep.int .u8) bb al ab) (fun s => s.1) (K0, ag, (i64.wrap (ar + (i64.wrap ((i64.wrap (a4 - aq)) * (i64.wrap (aj + 1)))))), ax, aj, 0, ao, au, bh) sbn (Ai H (Ai (Le.rfl' _) (Ai hs bk))) ?_
   rintro ⟨a5, ab, af, ah, ae, ad, ai, al, bb⟩ w hl ⟨H, a3, hs, a1⟩ b0
   show W _ _ _ _ _ _ [(1, v1), (2, .pointer (some ⟨bl, 0, none⟩)), (9, ai), (12, .int .i64 (aa.length : Int)), (13, .int .i64 a4), (14, .int .i64 af), (15, .int .i64 ah), (16, .int .i64 ae), (81, v1), (82, .int .i64 (x1.length : Int)), (83, .int .i64 ad)] w
   cases a5 with
   | zero => rw [Zo.l1] at H; cases H
   | succ a5 =>
   rw [Zo.l1] at H
   refine Wr fun hm el => Ols rfl <| Ox el <| Zh fun hn em => Y7 rfl (fun b9 => ?_) (fun b9 => ?_)
   rw [if_pos b9] at H
   refine Wx em <| Zh fun ho en => Zj fun hp hq hr => Zh fun ht eo => Zc ?_
   obtain ⟨cv, H⟩ := gd H
   obtain ⟨hu, hv, ep, eq⟩ := (h1.mono (ap.trans a3)).ix Q7 cv.1 cv.2
   refine O_y rfl (eq rfl rfl) <| O_y rfl (Xp Xm rfl (hs.see ep.int)) <| As rfl <| Ox eo <| W.weak [(1, _), (2, _), (9, _), (12, _), (13, _), (14, _), (15, _), (16, _), (19, _), (81, _), (82, _), (83, _)] sbn ?_
   refine Yu fun er es ca => ?_
   have cb : ∀ (an : List Int) (a2 a6 a7 : Int) (a8 : Value) (a9 : List Value) (bm : Hp) (w : World), Zo.j3 (Zo.l1 (Zo.l2 ba x0 x1 aa) a5 x0 x1 aa a4) ad an a2 a6 a7 = some r → Le bb bm → St w0 bm ((.row a8 5 ((Rep.int .u8).sz) an.length a9) :: (.box bl 117 ([.int .i64 x0.base, .int .i64 x0.least, .int .i64 x0.most, .int .i64 x0.skew, .int .i64 x0.damp, .int .i64 x0.bias, .int .i64 x0.first, .int .u8 x0.between])) :: Γ) w → Zm (Rep.int .u8) bm a9 an → er [(1, v1), (2, .pointer (some ⟨bl, 0, none⟩)), (9, a8), (12, .int .i64 (aa.length : Int)), (13, .int .i64 a4), (14, .int .i64 a2), (15, .int .i64 a6), (16, .int .i64 a7), (81, v1), (82, .int .i64 (x1.length : Int)), (83, .int .i64 ad)] w := by
    intro an a2 a6 a7 a8 a9 bm w H bu hs br
    rw [Zo.j3] at H
    refine es _ _ <| Wr fun hw et => Mv rfl <| Ogt rfl <| Ox et <| Y7 rfl (fun cc => ?_) (fun cc => ?_)
    rw [if_pos cc] at H
    refine Wr fun hx eu => As rfl <| As rfl <| As rfl <| Ox eu <| W.weak [(4, _), (5, _), (6, _)] (T3 rfl) <| Zk ?_
    obtain rfl := Zz H
    exact Zcu rfl rfl rfl rfl ⟨rfl, ((hs.sub (ssk (ssk ssr))).less ((ap.trans a3).trans bu))⟩
    rw [if_neg cc] at H
    refine Wx en <| Zc <| Oad rfl <| Mv rfl <| Zd (b0 (a5, an, a2, a6, a7, (i64.wrap (ad + 1)), a8, a9, bm) _ _ sbn (Ai H (Ai (a3.trans bu) (Ai hs br))) (Nat.lt_succ_self _))
   refine Zj fun hy hz ia => Wr fun ib ev => Mv rfl <| O_y rfl (V4 Za9 un3 rfl) <| Mv rfl <| Ols rfl <| As rfl <| Ox ev <| W.weak [(1, _), (2, _), (9, _), (12, _), (13, _), (14, _), (15, _), (16, _), (19, _), (81, _), (82, _), (83, _), (87, _)] sbn ?_
   refine Y7 rfl (fun cd => ?_) (fun cd => ?_)
   rw [if_pos cd] at H
   refine Zc <| Mv rfl <| Oad rfl <| As rfl <| Zd (ca _ _ _ sbn (cb ab (i64.wrap (af + 1)) ah ae ai al bb _ H (Le.rfl' _) hs a1))
   rw [if_neg cd] at H
   refine Wr fun ic ew => Mv rfl <| O_y rfl (V4 Za9 un3 rfl) <| Mv rfl <| Oeq rfl <| As rfl <| Ox ew <| W.weak [(1, _), (2, _), (9, _), (12, _), (13, _), (14, _), (15, _), (16, _), (81, _), (82, _), (83, _), (94, _)] sbn ?_
   refine Y7 rfl (fun ce => ?_) (fun ce => ?_)
   rw [if_pos ce] at H
   refine Wr fun id ex => Mv rfl <| O_y rfl (Xk (i := 1) Zc8 Zda hs rfl rfl rfl rfl) <| Mv rfl <| Mv rfl ?_
   obtain ⟨bx, cw, H⟩ := bnd H
   refine Oc rfl (Kw.c hs (Zde.mono (ap.trans a3) h0) cw) (fun ie w hpost => ?_)
   obtain ⟨ey, ig, fi, rfl, bv, hs, cx⟩ := hpost
   obtain ⟨ez, H⟩ := gd H
   refine Qt (i := 1) Zg8 hs rfl (a1.mono bv) rfl rfl rfl (Src.lit (j := 0) hs rfl cx) cx ez (fun e0 cy w e1 hs => As rfl <| Ox ex <| W.weak [(1, _), (2, _), (9, _), (12, _), (13, _), (14, _), (16, _), (81, _), (82, _), (83, _)] sbn ?_)
   refine Wr fun ih e2 => O_y rfl (Xk (i := 2) Zc8 Zda hs rfl rfl rfl rfl) <| Mv rfl <| Mv rfl <| Oad rfl <| Mv rfl <| Mv rfl <| Oeq rfl ?_
   obtain ⟨b3, cz, H⟩ := bnd H
   refine Oc rfl (Y8.c hs (Zde.mono ((ap.trans a3).trans bv) h0) cz) (fun ii w hpost => ?_)
   obtain ⟨rfl, hs⟩ := hpost
   refine As rfl <| Ox e2 <| W.weak [(1, _), (2, _), (9, _), (12, _), (13, _), (15, _), (16, _), (81, _), (82, _), (83, _)] sbn ?_
   refine Wr fun ij e3 => As rfl <| Ox e3 <| Zc <| Mv rfl <| Oad rfl <| As rfl <| Zd (ca _ _ _ sbn (cb (ab ++ bx) 0 b3 (i64.wrap (ae + 1)) e0 cy ey _ H bv (hs.sub (ssk (ssc (ssc ssr)))) e1))
   rw [if_neg ce] at H
   exact Ua (ca _ _ _ sbn (cb ab af ah ae ai al bb _ H (Le.rfl' _) hs a1))
   rw [if_neg b9] at H
   refine Y4 (ek _ _ (ei _ _ <| Zh fun ik e4 => Wr fun il e5 => Mv rfl <| Mv rfl <| O_y rfl (Yv V2 (h1.mono (ap.trans a3)) rfl) <| Oeq rfl <| Ox e5 <| W.weak [(1, _), (2, _), (9, _), (12, _), (13, _), (14, _), (15, _), (16, _), (121, _)] sbn ?_))
   refine Y7 rfl (fun cf => ?_) (fun cf => ?_)
   rw [if_pos cf] at H
   exact Y4 (eb _ _ _ rfl (ct _ _ (cp _ _ _ (T2 rfl) (cq ab ai al bb _ H (ap.trans a3) hs a1))))
   rw [if_neg cf] at H
   refine Wx e4 <| Wr fun im e6 => Mv rfl <| Oad rfl <| As rfl <| Ox e6 <| Wr fun io e7 => Mv rfl <| Oad rfl <| As rfl <| Ox e7 <| Zh fun ip e8 => ?_
   refine Zc <| Mv rfl <| Ogt rfl <| Ox e8 <| W.weak [(1, _), (2, _), (9, _), (12, _), (13, _), (14, _), (15, _), (16, _), (127, _)] sbn ?_
   refine Y7 rfl (fun cg => ?_) (fun cg => ?_)
   rw [if_pos cg] at H
   refine Wr fun iq e9 => As rfl <| As rfl <| As rfl <| Ox e9 <| Zk ?_
   obtain rfl := Zz H
   exact Zcu rfl rfl rfl rfl ⟨rfl, ((hs.sub (ssk (ssk ssr))).less (ap.trans a3))⟩
   rw [if_neg cg] at H
   exact Ua (bz (ba, ab, (i64.wrap (a4 + 1)), (i64.wrap (af + 1)), ah, ae, ai, al, bb) _ _ sbn (Ai H (Ai (ap.trans a3) (Ai hs a1))) (Nat.lt_succ_self _))
  rw [if_neg b7] at H
  exact Y4 (ct _ _ (cp _ _ _ (T2 rfl) (cq ag ao au bh _ H ap hs bk)))
 refine Wr fun ir fa => Mv rfl <| Ogt rfl <| Ox fa <| Y7 rfl (fun ch => ?_) (fun ch => ?_)
 rw [if_pos ch] at H
 refine Zc <| Mv rfl <| Ofd Zoq rfl <| Obx 1 ag5 hs rfl <| Ku (xs := [.tmp 55]) (cs := [.int .u8 x0.between]) Zg8 hs rfl rfl rfl (by decide) (by decide) rfl (Yc rfl Kb) (Zv rfl Xy) (fun it w hs => ?_)
 have da : Zm (Rep.int .u8) ρ ([.int .u8 x0.between]) [x0.between] := Zm.cons (c := [.int .u8 x0.between]) (x := x0.between) rfl (Zm.nil _ _)
 obtain ⟨fb, H⟩ := gd H
 refine Qt (i := 1) Zg8 hs rfl bc rfl rfl rfl (Src.lit (j := 0) hs rfl da) da fb (fun fc db w fd hs => As rfl <| Zd (cn _ _ _ (T4 rfl) (co (aa ++ ([x0.between])) fc db _ H (hs.sub (ssk (ssc (ssc ssr)))) fd)))
 rw [if_neg ch] at H
 exact Ua (cn _ _ _ (T4 rfl) (co aa aw ay _ H hs bc))

def Za5.f (x0 : List Int) : Option (ByteArray × Int × Int) := (Zam.f).bind fun ae => ((Zo.f ae x0).bind fun ab => (some (ab.1, ab.2.1, ab.2.2)))
theorem Za5.c (hs : St w0 ρ (Γ) w) {v0 : Value} {x0 : List Int} (h0 : SlR (Rep.int .i32) ρ v0 x0) {r : ByteArray × Int × Int} (H : Za5.f x0 = some r) : Zn Tryz.prog 29 [v0] w (fun v w' => v = .tuple #[.string r.1, .int .i64 r.2.1, .int .i64 r.2.2] ∧ St w0 ρ Γ w') := by
 rw [Za5.f] at H
 refine Et Tryz.func29 Tryz.ntmps29 rfl <| Wr fun ak ag => As rfl <| As rfl <| As rfl <| Ox ag <| Zh fun al ah => Zc ?_
 obtain ⟨ae, ac, H⟩ := bnd H
 refine Oc rfl (Zam.c hs ac) (fun am w hpost => ?_)
 obtain ⟨an, ai, rfl, aa, hs, af⟩ := hpost
 have aj := af
 obtain rfl := aj
 refine Mv rfl ?_
 obtain ⟨ab, ad, H⟩ := bnd H
 refine Oc rfl (Zo.c hs af (h0.mono aa) ad) (fun ao w hpost => ?_)
 obtain ⟨rfl, hs⟩ := hpost
 refine Oxt rfl <| Oxt rfl <| Oxt rfl <| As rfl <| As rfl <| As rfl <| Ox ah <| Zk ?_
 obtain rfl := Zz H
 exact Zcu rfl rfl rfl rfl ⟨rfl, (hs.less aa)⟩

def Zan.f (x0 : List Int) : Option (ByteArray × Int × Int) := (Uh.f x0).bind fun af => (if af = true then (some (runesBytes x0, 0, 0)) else ((Za5.f x0).bind fun aa => (if aa.2.2 ≠ 0 then (some ((⟨#[]⟩ : ByteArray), aa.2.1, aa.2.2)) else (if (⟨#[120, 110, 45, 45]⟩ : ByteArray).size + aa.1.size ≤ 9223372036854775807 then (some ((⟨#[120, 110, 45, 45]⟩ : ByteArray) ++ aa.1, 0, 0)) else none))))
theorem Zan.c (hs : St w0 ρ (Γ) w) {v0 : Value} {x0 : List Int} (h0 : SlR (Rep.int .i32) ρ v0 x0) {r : ByteArray × Int × Int} (H : Zan.f x0 = some r) : Zn Tryz.prog 9 [v0] w (fun v w' => v = .tuple #[.string r.1, .int .i64 r.2.1, .int .i64 r.2.2] ∧ St w0 ρ Γ w') := by
 rw [Zan.f] at H
 refine Et Tryz.func9 Tryz.ntmps9 rfl <| Wr fun aq ag => As rfl <| As rfl <| As rfl <| Ox ag <| Zh fun ar ah => Wr fun au ai => Mv rfl ?_
 obtain ⟨af, ab, H⟩ := bnd H
 refine Oc rfl (Uh.c hs h0 ab) (fun av w hpost => ?_)
 obtain ⟨rfl, hs⟩ := hpost
 refine Ox ai <| Xg rfl (fun ac => ?_) (fun ac => ?_)
 rw [if_pos ac] at H
 refine Wr fun aw aj => Mv rfl <| O_y rfl (Zht V2 Za9 un9 hs h0 rfl) <| As rfl <| As rfl <| As rfl <| Ox aj <| Zk ?_
 obtain rfl := Zz H
 exact Zcu rfl rfl rfl rfl ⟨rfl, hs⟩
 rw [if_neg (bft ac)] at H
 refine Wx ah <| Wr fun ax ak => Mv rfl ?_
 obtain ⟨aa, ad, H⟩ := bnd H
 refine Oc rfl (Za5.c hs h0 ad) (fun ay w hpost => ?_)
 obtain ⟨rfl, hs⟩ := hpost
 refine Mv rfl <| Oxt rfl <| Oxt rfl <| Oxt rfl <| As rfl <| As rfl <| As rfl <| Ox ak <| W.weak [(5, _), (6, _), (7, _)] (T3 rfl) <| Zh fun az al => Wr fun a0 am => Mv rfl <| One rfl ?_
 refine Ox am <| Y7 rfl (fun ae => ?_) (fun ae => ?_)
 rw [if_pos ae] at H
 refine Wr fun a1 an => Mv rfl <| Mv rfl <| As rfl <| As rfl <| As rfl <| Ox an <| Zk ?_
 obtain rfl := Zz H
 exact Zcu rfl rfl rfl rfl ⟨rfl, hs⟩
 rw [if_neg ae] at H
 refine Wx al <| Wr fun a2 ao => Mv rfl ?_
 obtain ⟨ap, H⟩ := gd H
 refine O_y rfl (Zxa rfl rfl ap) <| As rfl <| As rfl <| As rfl <| Ox ao <| Zk ?_
 obtain rfl := Zz H
 exact Zcu rfl rfl rfl rfl ⟨rfl, hs⟩

def Ui.f (x0 : Option Tbs) (x1 : List Int) : Option Bool := (X3.f x0 x1).bind fun ac => (some (decide ((ac.length : Int) = 0)))
theorem Ui.c (hs : St w0 ρ (Γ) w) {v0 : Value} {x0 : Option Tbs} (h0 : Xs Hm ρ v0 x0) {v1 : Value} {x1 : List Int} (h1 : SlR (Rep.int .i32) ρ v1 x1) {r : Bool} (H : Ui.f x0 x1 = some r) : Zn Tryz.prog 10 [v0, v1] w (fun v w' => v = .bool r ∧ St w0 ρ Γ w') := by
 rw [Ui.f] at H
 refine Et Tryz.func10 Tryz.ntmps10 rfl <| Wr fun ag ad => As rfl <| Ox ad <| Wr fun ah ae => Mv rfl <| Mv rfl ?_
 obtain ⟨ac, aa, H⟩ := bnd H
 refine Oc rfl (X3.c hs h0 h1 aa) (fun ai w hpost => ?_)
 obtain ⟨aj, ak, af, rfl, ab, hs, al⟩ := hpost
 refine O_y rfl (V8 (i := 0) Zqa hs rfl rfl) <| Oeq rfl <| As rfl <| Ox ae <| Zk ?_
 obtain rfl := Zz H
 exact r1 rfl ⟨rfl, ((hs.sub (ssk ssr)).less ab)⟩

def Kx.j1 (aa : Bool) : Option Bool := some aa
def Kx.f : Option Bool := (Zi.f (⟨([] : List ByteArray), [(⟨97, 122, 1⟩ : Val), (⟨252, 252, 1⟩ : Val)], ([] : List Chs), ([] : List Val), ([] : List Chs), ([] : List Spn), ([] : List Val), ([] : List Val), ([] : List Spn), ([] : List Val), ([] : List Chs)⟩ : Bk)).bind fun az => ((Vx.f az.1 ([120, 110, 45, 45, 98, 99, 104, 101, 114, 45, 107, 118, 97])).bind fun av => ((Zan.f ([98, 252])).bind fun ah => (if az.2 = 0 then (if av.coded = true then (if av.fault = 0 then (if (av.says.length : Int) = 6 then (if ah.1 = (⟨#[120, 110, 45, 45, 98, 45, 101, 104, 97]⟩ : ByteArray) then (if ah.2.1 = 0 then (if ah.2.2 = 0 then ((Ui.f az.1 ([97])).bind fun aj => (Kx.j1 aj)) else (Kx.j1 false)) else (Kx.j1 false)) else (Kx.j1 false)) else (Kx.j1 false)) else (Kx.j1 false)) else (Kx.j1 false)) else (Kx.j1 false))))
theorem Kx.c (hs : St w0 ρ (Γ) w) {r : Bool} (H : Kx.f = some r) : Zn Tryz.prog 8 [] w (fun v w' => v = .bool r ∧ St w0 ρ Γ w') := by
 rw [Kx.f] at H
 refine Et Tryz.func8 Tryz.ntmps8 rfl <| Wr fun b7 be => As rfl <| Ox be <| Wr fun b8 bf => O_y rfl (Qe (cs := [.int .i32 97, .int .i32 122, .int .i64 1]) Zlb Zth ((Z2.cons rfl rfl (Z2.cons rfl rfl (Z2.cons rfl rfl Z2.nil)))) Ze7 (by kernel_rfl)) <| O_y rfl (Qe (cs := [.int .i32 252, .int .i32 252, .int .i64 1]) Zlb Zth ((Z2.cons rfl rfl (Z2.cons rfl rfl (Z2.cons rfl rfl Z2.nil)))) Ze7 (by kernel_rfl)) <| Ku (xs := [.tmp 8, .tmp 9]) (cs := [.int .i32 97, .int .i32 122, .int .i64 1, .int .i32 252, .int .i32 252, .int .i64 1]) Zcg hs rfl rfl rfl (by decide) (by decide) rfl (Yc rfl (Yc rfl Kb)) (Zv rfl (Zv rfl Xy)) (fun bg w hs => ?_)
 have bh : Zm X9 ρ ([.int .i32 97, .int .i32 122, .int .i64 1, .int .i32 252, .int .i32 252, .int .i64 1]) [(⟨97, 122, 1⟩ : Val), (⟨252, 252, 1⟩ : Val)] := Zm.cons (c := [.int .i32 97, .int .i32 122, .int .i64 1]) (x := (⟨97, 122, 1⟩ : Val)) rfl (Zm.cons (c := [.int .i32 252, .int .i32 252, .int .i64 1]) (x := (⟨252, 252, 1⟩ : Val)) rfl (Zm.nil _ _))
 obtain ⟨ag, a0, hs, bb⟩ := hs.rowEnd (j := 0) bh rfl
 refine O_y rfl (Qe (cs := [.slice none 0 0, .slice (some ⟨bg, 0, none⟩) 2 2, .slice none 0 0, .slice none 0 0, .slice none 0 0, .slice none 0 0, .slice none 0 0, .slice none 0 0, .slice none 0 0, .slice none 0 0, .slice none 0 0]) Zvt Zww ((Z2.cons rfl bb.cellsL Z2.nil)) Zja (by kernel_rfl)) ?_
 have bi : SlR Rep.str ag (.slice none 0 0) [] := .inl ⟨rfl, none, 0, rfl⟩
 have bj : SlR Ks ag (.slice none 0 0) [] := .inl ⟨rfl, none, 0, rfl⟩
 have bk : SlR X9 ag (.slice none 0 0) [] := .inl ⟨rfl, none, 0, rfl⟩
 have bl : SlR Ks ag (.slice none 0 0) [] := .inl ⟨rfl, none, 0, rfl⟩
 have bm : SlR Kd ag (.slice none 0 0) [] := .inl ⟨rfl, none, 0, rfl⟩
 have bn : SlR X9 ag (.slice none 0 0) [] := .inl ⟨rfl, none, 0, rfl⟩
 have bo : SlR X9 ag (.slice none 0 0) [] := .inl ⟨rfl, none, 0, rfl⟩
 have bp : SlR Kd ag (.slice none 0 0) [] := .inl ⟨rfl, none, 0, rfl⟩
 have bq : SlR X9 ag (.slice none 0 0) [] := .inl ⟨rfl, none, 0, rfl⟩
 have br : SlR Ks ag (.slice none 0 0) [] := .inl ⟨rfl, none, 0, rfl⟩
 obtain ⟨az, a1, H⟩ := bnd H
 refine Oc rfl (Zi.c hs ⟨_, _, _, _, _, _, _, _, _, _, _, rfl, bi, bb, bj, bk, bl, bm, bn, bo, bp, bq, br⟩ a1) (fun b9 w hpost => ?_)
 obtain ⟨bs, ca, rfl, a2, hs, bc⟩ := hpost
 refine Mv rfl <| Oxt rfl <| Oxt rfl <| As rfl <| As rfl <| Ox bf <| Wr fun cb bt => Mv rfl <| Ku (xs := [.const (.int .i32 120), .const (.int .i32 110), .const (.int .i32 45), .const (.int .i32 45), .const (.int .i32 98), .const (.int .i32 99), .const (.int .i32 104), .const (.int .i32 101), .const (.int .i32 114), .const (.int .i32 45), .const (.int .i32 107), .const (.int .i32 118), .const (.int .i32 97)]) (cs := [.int .i32 120, .int .i32 110, .int .i32 45, .int .i32 45, .int .i32 98, .int .i32 99, .int .i32 104, .int .i32 101, .int .i32 114, .int .i32 45, .int .i32 107, .int .i32 118, .int .i32 97]) Q7 hs rfl rfl rfl (by decide) (by decide) rfl (Yc rfl (Yc rfl (Yc rfl (Yc rfl (Yc rfl (Yc rfl (Yc rfl (Yc rfl (Yc rfl (Yc rfl (Yc rfl (Yc rfl (Yc rfl Kb))))))))))))) (Zv rfl (Zv rfl (Zv rfl (Zv rfl (Zv rfl (Zv rfl (Zv rfl (Zv rfl (Zv rfl (Zv rfl (Zv rfl (Zv rfl (Zv rfl Xy))))))))))))) (fun cc w hs => ?_)
 have bu : Zm (Rep.int .i32) bs ([.int .i32 120, .int .i32 110, .int .i32 45, .int .i32 45, .int .i32 98, .int .i32 99, .int .i32 104, .int .i32 101, .int .i32 114, .int .i32 45, .int .i32 107, .int .i32 118, .int .i32 97]) [120, 110, 45, 45, 98, 99, 104, 101, 114, 45, 107, 118, 97] := Zm.cons (c := [.int .i32 120]) (x := 120) rfl (Zm.cons (c := [.int .i32 110]) (x := 110) rfl (Zm.cons (c := [.int .i32 45]) (x := 45) rfl (Zm.cons (c := [.int .i32 45]) (x := 45) rfl (Zm.cons (c := [.int .i32 98]) (x := 98) rfl (Zm.cons (c := [.int .i32 99]) (x := 99) rfl (Zm.cons (c := [.int .i32 104]) (x := 104) rfl (Zm.cons (c := [.int .i32 101]) (x := 101) rfl (Zm.cons (c := [.int .i32 114]) (x := 114) rfl (Zm.cons (c := [.int .i32 45]) (x := 45) rfl (Zm.cons (c := [.int .i32 107]) (x := 107) rfl (Zm.cons (c := [.int .i32 118]) (x := 118) rfl (Zm.cons (c := [.int .i32 97]) (x := 97) rfl (Zm.nil _ _)))))))))))))
 obtain ⟨cd, ak, hs, bv⟩ := hs.rowEnd (j := 0) bu rfl
 obtain ⟨av, a3, H⟩ := bnd H
 refine Oc rfl (Vx.c hs (bc.mono ak) bv a3) (fun ce w hpost => ?_)
 obtain ⟨bw, bx, rfl, aw, hs, bz⟩ := hpost
 have b0 := bz
 obtain ⟨b1, rfl, bd⟩ := b0
 refine Y6 Zti hs rfl (fun b2 w hs => Ye (i := 0) Zdu hs rfl rfl rfl rfl rfl (Zb bd.one (Zb rfl (Zb rfl Yj))) (fun w hs => Ox bt <| W.weak [(1, _), (2, _), (3, _)] (T3 rfl) <| Wr fun cf b3 => Ku (xs := [.const (.int .i32 98), .const (.int .i32 252)]) (cs := [.int .i32 98, .int .i32 252]) Q7 hs rfl rfl rfl (by decide) (by decide) rfl (Yc rfl (Yc rfl Kb)) (Zv rfl (Zv rfl Xy)) (fun cg w hs => ?_)))
 have a4 : Zm (Rep.int .i32) bw ([.int .i32 98, .int .i32 252]) [98, 252] := Zm.cons (c := [.int .i32 98]) (x := 98) rfl (Zm.cons (c := [.int .i32 252]) (x := 252) rfl (Zm.nil _ _))
 obtain ⟨ab, ae, hs, a5⟩ := hs.rowEnd (j := 0) a4 rfl
 obtain ⟨ah, ax, H⟩ := bnd H
 refine Oc rfl (Zan.c hs a5 ax) (fun b4 w hpost => ?_)
 obtain ⟨rfl, hs⟩ := hpost
 refine Mv rfl <| Oxt rfl <| Oxt rfl <| Oxt rfl <| As rfl <| As rfl <| As rfl <| Ox b3 <| Yu fun a6 a7 ac => ?_
 have ad : ∀ (aa : Bool) (af : Hp) (w : World), Kx.j1 aa = some r → Le ab af → St w0 af ((.box b2 43 ([b1, .bool av.coded, .int .i64 av.fault])) :: Γ) w → a6 [(0, .bool aa)] w := by
  intro aa af w H al hs
  rw [Kx.j1] at H
  refine a7 _ _ <| Zk ?_
  obtain rfl := Zz H
  exact r1 rfl ⟨rfl, ((hs.sub (ssk ssr)).less (((((a0.trans a2).trans ak).trans aw).trans ae).trans al))⟩
 refine Zc <| Mv rfl <| Oeq rfl <| Mv rfl <| X6 (dj := 26) rfl (fun am => ?_) (fun am => ?_)
 rw [if_pos am] at H
 refine Oe rfl <| Ofd Zra rfl <| Oe rfl <| Obx 0 ag4 hs rfl <| Opk rfl <| Mv rfl <| U8 (dj := 30) rfl (fun an => ?_) (fun an => ?_)
 rw [if_pos an] at H
 refine Oe rfl <| Ofd Zgc rfl <| Oe rfl <| Obx 0 ag3 hs rfl <| Oe rfl <| Oeq rfl <| Opk rfl <| Mv rfl <| X6 (dj := 35) rfl (fun ao => ?_) (fun ao => ?_)
 rw [if_pos ao] at H
 refine Oe rfl <| Ofd Zr0 rfl <| Oe rfl <| Obx 0 Za8 hs rfl <| Oe rfl <| O_y rfl (Yv V2 (bd.mono ae) rfl) <| Oe rfl <| Oeq rfl <| Opk rfl <| Mv rfl <| X6 (dj := 41) rfl (fun ap => ?_) (fun ap => ?_)
 rw [if_pos ap] at H
 refine Oe rfl <| Mv rfl <| Oe rfl <| O_y rfl (Zls rfl rfl) <| Opk rfl <| Mv rfl <| X6 (dj := 45) rfl (fun aq => ?_) (fun aq => ?_)
 rw [if_pos aq] at H
 refine Oe rfl <| Mv rfl <| Oe rfl <| Oeq rfl <| Opk rfl <| Mv rfl <| X6 (dj := 49) rfl (fun ar => ?_) (fun ar => ?_)
 rw [if_pos ar] at H
 refine Oe rfl <| Mv rfl <| Oe rfl <| Oeq rfl <| Opk rfl <| Mv rfl <| X6 (dj := 53) rfl (fun au => ?_) (fun au => ?_)
 rw [if_pos au] at H
 refine Oe rfl <| Mv rfl <| Oe rfl <| Ku (xs := [.const (.int .i32 97)]) (cs := [.int .i32 97]) Q7 hs rfl rfl rfl (by decide) (by decide) rfl (Yc rfl Kb) (Zv rfl Xy) (fun b5 w hs => ?_)
 have a8 : Zm (Rep.int .i32) ab ([.int .i32 97]) [97] := Zm.cons (c := [.int .i32 97]) (x := 97) rfl (Zm.nil _ _)
 obtain ⟨a9, ai, hs, ba⟩ := hs.rowEnd (j := 0) a8 rfl
 refine Oe rfl ?_
 obtain ⟨aj, ay, H⟩ := bnd H
 refine Oc rfl (Ui.c hs (bc.mono (((ak.trans aw).trans ae).trans ai)) ba ay) (fun b6 w hpost => ?_)
 obtain ⟨rfl, hs⟩ := hpost
 refine Opk rfl <| As rfl <| Zd (ac _ _ _ (S1 rfl) (ad aj a9 _ H ai hs))
 rw [if_neg au] at H
 refine On rfl <| On rfl <| On rfl <| Opk rfl <| As rfl <| Zd (ac _ _ _ (S1 rfl) (ad false ab _ H (Le.rfl' _) hs))
 rw [if_neg ar] at H
 refine On rfl <| On rfl <| Opk rfl <| Mv rfl <| On rfl <| On rfl <| On rfl <| Opk rfl <| As rfl <| Zd (ac _ _ _ (S1 rfl) (ad false ab _ H (Le.rfl' _) hs))
 rw [if_neg aq] at H
 refine On rfl <| On rfl <| Opk rfl <| Mv rfl <| On rfl <| On rfl <| Opk rfl <| Mv rfl <| On rfl <| On rfl <| On rfl <| Opk rfl <| As rfl <| Zd (ac _ _ _ (S1 rfl) (ad false ab _ H (Le.rfl' _) hs))
 rw [if_neg ap] at H
 refine On rfl <| On rfl <| Opk rfl <| Mv rfl <| On rfl <| On rfl <| Opk rfl <| Mv rfl <| On rfl <| On rfl <| Opk rfl <| Mv rfl <| On rfl <| On rfl ?_
 refine On rfl <| Opk rfl <| As rfl <| Zd (ac _ _ _ (S1 rfl) (ad false ab _ H (Le.rfl' _) hs))
 rw [if_neg ao] at H
 refine On rfl <| On rfl <| On rfl <| On rfl <| Opk rfl <| Mv rfl <| On rfl <| On rfl <| Opk rfl <| Mv rfl <| On rfl <| On rfl <| Opk rfl <| Mv rfl ?_
 refine On rfl <| On rfl <| Opk rfl <| Mv rfl <| On rfl <| On rfl <| On rfl <| Opk rfl <| As rfl <| Zd (ac _ _ _ (S1 rfl) (ad false ab _ H (Le.rfl' _) hs))
 rw [if_neg (bft an)] at H
 refine On rfl <| On rfl <| On rfl <| Opk rfl <| Mv rfl <| On rfl <| On rfl <| On rfl <| On rfl <| Opk rfl <| Mv rfl <| On rfl <| On rfl <| Opk rfl ?_
 refine Mv rfl <| On rfl <| On rfl <| Opk rfl <| Mv rfl <| On rfl <| On rfl <| Opk rfl <| Mv rfl <| On rfl <| On rfl <| On rfl <| Opk rfl <| As rfl ?_
 exact Zd (ac _ _ _ (S1 rfl) (ad false ab _ H (Le.rfl' _) hs))
 rw [if_neg am] at H
 refine On rfl <| On rfl <| Opk rfl <| Mv rfl <| On rfl <| On rfl <| On rfl <| Opk rfl <| Mv rfl <| On rfl <| On rfl <| On rfl <| On rfl <| Opk rfl ?_
 refine Mv rfl <| On rfl <| On rfl <| Opk rfl <| Mv rfl <| On rfl <| On rfl <| Opk rfl <| Mv rfl <| On rfl <| On rfl <| Opk rfl <| Mv rfl <| On rfl ?_
 refine On rfl <| On rfl <| Opk rfl <| As rfl <| Zd (ac _ _ _ (S1 rfl) (ad false ab _ H (Le.rfl' _) hs))

end Go.Proofs.YthoicbafdanmkaaGreatDoor
/- Written by this repo's gen.py: for each Go function a Lean function with the same answers and the walk that shows it. -/
namespace Go.Proofs.YthoicbafdanmkaaGreatDoor
open Go.IntKind (i8 i16 i32 i64 u8 u16 u32 u64)
open Go.RowKit
set_option maxRecDepth 100000
set_option maxHeartbeats 4000000
variable {w0 w : World} {ρ : Hp} {Γ : List Q5}
set_option linter.unusedVariables false
def K2.l1 : Nat → List Int → List Int → Int → Option Bool
  | 0, _, _, _ => none
  | ab + 1, x0, x1, aa => if aa < (x0.length : Int) then (if (0 : Int) ≤ aa ∧ aa < (x0.length : Int) then (if (0 : Int) ≤ aa ∧ aa < (x1.length : Int) then (if (rd x0 aa) ≠ (rd x1 aa) then (some false) else ((K2.l1 ab x0 x1) (i64.wrap (aa + 1)))) else none) else none) else (some true)
def K2.f (x0 x1 : List Int) : Option Bool := if (x0.length : Int) ≠ (x1.length : Int) then (some false) else (K2.l1 K0 x0 x1 0)
theorem K2.c (hs : St w0 ρ (Γ) w) {v0 : Value} {x0 : List Int} (h0 : SlR (Rep.int .i32) ρ v0 x0) {v1 : Value} {x1 : List Int} (h1 : SlR (Rep.int .i32) ρ v1 x1) {r : Bool} (H : K2.f x0 x1 = some r) : Zn Tryz.prog 12 [v0, v1] w (fun v w' => v = .bool r ∧ St w0 ρ Γ w') := by
 rw [K2.f] at H
 refine Et Tryz.func12 Tryz.ntmps12 rfl <| Wr fun a2 ai => As rfl <| Ox ai <| Zh fun a3 aj => Wr fun a4 ak => Mv rfl <| O_y rfl (Yv V2 h0 rfl) <| Mv rfl <| O_y rfl (Yv V2 h1 rfl) <| One rfl <| Zd (ak _ _ ?_)
 refine Y7 rfl (fun ad => ?_) (fun ad => ?_)
 rw [if_pos ad] at H
 refine Wr fun a5 al => As rfl <| Ox al <| Zk ?_
 obtain rfl := Zz H
 exact r1 rfl ⟨rfl, hs⟩
 rw [if_neg ad] at H
 refine Wx aj <| Zh fun a6 am => Wr fun a7 an => Mv rfl <| O_y rfl (Yv V2 h0 rfl) <| Mv rfl <| Ox an <| Zj fun a8 ao a9 => Y9 (σ := Nat × Int) (fun (ab, aa) => [(0, v0), (1, v1), (12, .int .i64 (x0.length : Int)), (13, .int .i64 aa)]) (fun (ab, aa) w => K2.l1 ab x0 x1 aa = some r ∧ St w0 ρ (Γ) w) (fun s => s.1) (K0, 0) (T4 rfl) (Ai H hs) ?_
 rintro ⟨ab, aa⟩ w ba ⟨H, hs⟩ ac
 show W _ _ _ _ _ _ [(0, v0), (1, v1), (12, .int .i64 (x0.length : Int)), (13, .int .i64 aa)] w
 cases ab with
 | zero => rw [K2.l1] at H; cases H
 | succ ab =>
 rw [K2.l1] at H
 refine Wr fun bb ap => Ols rfl <| Ox ap <| Zh fun bc aq => Y7 rfl (fun ae => ?_) (fun ae => ?_)
 rw [if_pos ae] at H
 refine Wx aq <| Zh fun bd ar => Zj fun be bf bg => Wr fun bh au => Mv rfl <| As rfl <| Ox au <| Zh fun bi av => Qn 9 [0, 0, 3, 4, 0, 0, 48, 64, 136] [506, 505, 496, 240, 431, 415, 271, 15, 0] [0, 0, 3, 7, 0, 0, 48, 112, 255] [] (fun w => St w0 ρ (Γ) w) Vl (by kernel_rfl) (fun sh => ?_)
 have hs := hs.drew
 refine Fm 0 sh rfl <| Fm 1 sh rfl ?_
 obtain ⟨ag, H⟩ := gd H
 obtain ⟨bj, bk, aw, ax⟩ := h0.ix Q7 ag.1 ag.2
 refine Fp 2 sh rfl (fun w => ax rfl rfl) <| Fy 3 sh rfl hs (fun w hs => Xp Xm rfl (hs.see aw.int)) <| Fm 4 sh rfl <| Fm 5 sh rfl ?_
 obtain ⟨ah, H⟩ := gd H
 obtain ⟨bl, bm, ay, az⟩ := h1.ix Q7 ah.1 ah.2
 refine Fp 6 sh rfl (fun w => az rfl rfl) <| Fy 7 sh rfl hs (fun w hs => Xp Xm rfl (hs.see ay.int)) <| Fp 8 sh rfl (fun w => Zo1 rfl rfl) <| FE sh (av _ _ <| W.weak [(0, _), (1, _), (12, _), (13, _), (24, _)] sbn ?_)
 refine Y7 rfl (fun af => ?_) (fun af => ?_)
 rw [if_pos af] at H
 refine Wr fun bn a0 => As rfl <| Ox a0 <| Zk ?_
 obtain rfl := Zz H
 exact r1 rfl ⟨rfl, hs⟩
 rw [if_neg af] at H
 refine Wx ar <| Zc <| Oad rfl <| Mv rfl <| Zd (ac (ab, (i64.wrap (aa + 1))) _ _ (T4 rfl) (Ai H hs) (Nat.lt_succ_self _))
 rw [if_neg ae] at H
 refine Y4 (ao _ _ (am _ _ <| Wr fun bo a1 => As rfl <| Ox a1 <| Zk ?_))
 obtain rfl := Zz H
 exact r1 rfl ⟨rfl, hs⟩

end Go.Proofs.YthoicbafdanmkaaGreatDoor
