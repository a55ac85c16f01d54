/- Texts of this repo, merged for the claim: TL0, Ins, TL1. -/
import Derived.Test.YthoicbafdanmkaaGreatDoorWhole3
import Derived.Test.YthoicbafdanmkaaGreatDoorWhole1
import Derived.Test.YthoicbafdanmkaaGreatDoorWhole2
/- Written by this repo's gen.py: for each Go function a Lean function with the same answers and the walk that shows it. -/
namespace Go.Proofs.YthoicbafdanmkaaGreatDoor
open Go.RowKit
set_option maxRecDepth 100000
set_option maxHeartbeats 4000000
set_option linter.unusedVariables false
def label_Coded.j1 (aa : Bool) : Option Bool := some aa
def label_Coded.f (x0 : List Int) : Option Bool := if 4 ≤ (x0.length : Int) then (if (0 : Int) ≤ 0 ∧ (0 : Int) ≤ 4 ∧ 4 ≤ (x0.length : Int) then (label_Coded.j1 (decide ((runesBytes (sub x0 0 4)) = (⟨#[120, 110, 45, 45]⟩ : ByteArray)))) else none) else (label_Coded.j1 false)
theorem label_Coded.c {w0 w : World} {ρ : Hp} {Γ : List Item} (hs : St w0 ρ (Γ) w) {v0 : Value} {x0 : List Int} (h0 : SlR (Rep.int .i32) ρ v0 x0) {r : Bool} (H : label_Coded.f x0 = some r) : CallsR Tryz.prog 16 [v0] w (fun v w' => v = .bool r ∧ St w0 ρ Γ w') := by
  rw [label_Coded.f] at H
  refine enter Tryz.func16 Tryz.ntmps16 rfl (by kernel_rfl) rfl <| Wr fun ak af => Oa rfl rfl <| O_nil (af _ _ <| W_seqj fun ag ah ad => ?_)
  have ae : ∀ (aa : Bool) (w : World), label_Coded.j1 aa = some r → St w0 ρ (Γ) w → ag [(2, .bool aa)] w := by
   intro aa w H hs
   rw [label_Coded.j1] at H
   refine ah _ _ <| W_ret ?_
   obtain rfl := sinj H
   exact ret1 rfl rfl ⟨rfl, hs⟩
  refine W_region <| Om rfl rfl <| O_y rfl (Y_lenR un28 h0 rfl) <| O_y rfl (Y_geq rfl rfl) <| Om rfl rfl <| O_if (dj := 6) rfl (fun ab => ?_) (fun ab => ?_)
  ·rw [if_pos ab] at H
   refine O_yes rfl rfl <| Om rfl rfl ?_
   obtain ⟨ac, H⟩ := gd H
   obtain ⟨al, ai, aj⟩ := h0.cut el28 ac.1 ac.2.1 ac.2.2
   refine O_yes rfl rfl <| O_y rfl (aj rfl (.inl ⟨rfl, rfl⟩) (.inr ⟨_, _, rfl, rfl⟩)) <| O_yes rfl rfl <| O_y rfl (Y_srunes un28 un21 un9 hs ai rfl) <| O_yes rfl rfl <| O_y rfl (Y_eqls rfl rfl) <| O_y rfl (Y_pick_t rfl rfl) <| Oa rfl rfl <| O_nil (ad _ _ _ (S1 rfl) (ae (decide ((runesBytes (sub x0 0 4)) = (⟨#[120, 110, 45, 45]⟩ : ByteArray))) _ H hs))
  ·rw [if_neg ab] at H
   refine O_no rfl rfl rfl rfl <| O_no rfl rfl rfl rfl <| O_no rfl rfl rfl rfl <| O_no rfl rfl rfl rfl <| O_y rfl (Y_pick_f rfl rfl) <| Oa rfl rfl <| O_nil (ad _ _ _ (S1 rfl) (ae false _ H hs))

def book_Tables_Pair.f (x0 : Option Tbs) (x1 x2 : Int) : Option (Int × Bool) := if ((x0).isNone) = true then (some (0, false)) else (if x0.isSome = true then (some ((mget (((x0).getD default).pairs) (#v[x1, x2])).getD 0, (mget (((x0).getD default).pairs) (#v[x1, x2])).isSome)) else none)
theorem book_Tables_Pair.c {w0 w : World} {ρ : Hp} {Γ : List Item} (hs : St w0 ρ (Γ) w) {v0 : Value} {x0 : Option Tbs} (h0 : PtrR rTbs ρ v0 x0) {x1 x2 : Int} {r : Int × Bool} (H : book_Tables_Pair.f x0 x1 x2 = some r) : CallsR Tryz.prog 164 [v0, .int .i32 x1, .int .i32 x2] w (fun v w' => v = .tuple #[.int .i32 r.1, .bool r.2] ∧ St w0 ρ Γ w') := by
  rw [book_Tables_Pair.f] at H
  refine enter Tryz.func164 Tryz.ntmps164 rfl (by kernel_rfl) rfl <| Wr fun ay af => Oa rfl rfl <| Oa rfl rfl <| O_nil (af _ _ <| W_seq fun az ag => Wr fun a0 ah => Om rfl rfl <| O_y rfl ((h0.eqn un29 rfl rfl)) <| O_nil (ah _ _ <| W_cond rfl (fun aa => ?_) (fun aa => ?_)))
  ·rw [if_pos aa] at H
   refine Wr fun a1 ai => Oa rfl rfl <| Oa rfl rfl <| O_nil (ai _ _ <| W_ret ?_)
   obtain rfl := sinj H
   exact ret2 rfl rfl rfl ⟨rfl, hs⟩
  ·rw [if_neg (bft aa)] at H
   refine W_skip (ag _ _ <| Wr fun a2 aj => Om rfl rfl ?_)
   obtain ⟨ak, H⟩ := gd H
   obtain ⟨a3, ab, al⟩ := h0.open ak
   obtain ⟨_, ⟨a4, a5, a6, a7, a8, a9, ba, bb, bc, bd, be, bf, bg, bh, bi, bj, bk, am, an, ao, ap, aq, rfl, bl, bm, bn, bo, bp, bq, br, bs, bt, bu, bv, bw, bx, bz, b0, b1, b2, ar, au, av, aw, ac⟩, ad⟩ := al
   refine O_y rfl (Y_nilp (congrArg some ab)) <| O_y rfl (Y_field fo114_11 rfl) <| O_y rfl (Y_load ag112 rfl (hs.see (ad 21 _ rfl))) <| Om rfl rfl <| Om rfl rfl <| O_y rfl (Y_buildArr (xs := [.tmp 17, .tmp 18]) (zs := vcs (Value.int .i32) #v[x1, x2]) un115 sz21 zl115 rfl rfl rfl (sz1_cons rfl (sz1_cons rfl sz1_nil)) rfl) <| O_y rfl (Y_mapGetR (m := ((x0).getD default).pairs) (x := #v[x1, x2]) (E := (Value.int .i32)) true un112 kv115 trivial (fun _ _ => trivial) zv21 hs ac rfl rfl) <| Om rfl rfl <| O_y rfl (Y_extract rfl rfl) <| O_y rfl (Y_extract rfl rfl) <| Oa rfl rfl <| Oa rfl rfl <| O_nil (aj _ _ <| W.weak [(8, _), (9, _)] (S2 rfl rfl) ?_)
   refine Wr fun ax ae => Om rfl rfl <| Om rfl rfl <| Oa rfl rfl <| Oa rfl rfl <| O_nil (ae _ _ <| W_ret ?_)
   obtain rfl := sinj H
   exact ret2 rfl rfl rfl ⟨rfl, hs⟩

def compose_Pair.j1 (x0 : Option Tbs) (x1 x2 : Int) (aa : Bool) : Option (Int × Bool) := if aa = true then (some (IntKind.i32.wrap ((IntKind.i32.wrap (x1 + x2)) - 4519), true)) else ((book_Tables_Pair.f x0 x1 x2).bind fun ag => (some (ag.1, ag.2)))
def compose_Pair.j2 (x0 : Option Tbs) (x1 x2 : Int) (ab : Bool) : Option (Int × Bool) := if ab = true then (some (IntKind.i32.wrap (44032 + (IntKind.i32.wrap ((IntKind.i32.wrap ((IntKind.i32.wrap ((IntKind.i32.wrap ((IntKind.i32.wrap (x1 - 4352)) * 21)) + x2)) - 4449)) * 28))), true)) else (if 44032 ≤ x1 then (if x1 < 55204 then (if ((IntKind.i32.wrap (x1 - 44032)).tmod 28) = 0 then (if 4519 < x2 then (compose_Pair.j1 x0 x1 x2 (decide (x2 < 4547))) else (compose_Pair.j1 x0 x1 x2 false)) else (compose_Pair.j1 x0 x1 x2 false)) else (compose_Pair.j1 x0 x1 x2 false)) else (compose_Pair.j1 x0 x1 x2 false))
def compose_Pair.f (x0 : Option Tbs) (x1 x2 : Int) : Option (Int × Bool) := if 4352 ≤ x1 then (if x1 < 4371 then (if 4449 ≤ x2 then (compose_Pair.j2 x0 x1 x2 (decide (x2 < 4470))) else (compose_Pair.j2 x0 x1 x2 false)) else (compose_Pair.j2 x0 x1 x2 false)) else (compose_Pair.j2 x0 x1 x2 false)
theorem compose_Pair.c {w0 w : World} {ρ : Hp} {Γ : List Item} (hs : St w0 ρ (Γ) w) {v0 : Value} {x0 : Option Tbs} (h0 : PtrR rTbs ρ v0 x0) {x1 x2 : Int} {r : Int × Bool} (H : compose_Pair.f x0 x1 x2 = some r) : CallsR Tryz.prog 134 [v0, .int .i32 x1, .int .i32 x2] w (fun v w' => v = .tuple #[.int .i32 r.1, .bool r.2] ∧ St w0 ρ Γ w') := by
  rw [compose_Pair.f] at H
  refine enter Tryz.func134 Tryz.ntmps134 rfl (by kernel_rfl) rfl <| Wr fun a2 ar => Oa rfl rfl <| Oa rfl rfl <| O_nil (ar _ _ <| W_seq fun a3 au => W_block fun a4 a5 a6 => W_seqj fun av aw ae => ?_)
  have af : ∀ (ab : Bool) (w : World), compose_Pair.j2 x0 x1 x2 ab = some r → St w0 ρ (Γ) w → av [(0, v0), (1, .int .i32 x1), (2, .int .i32 x2), (8, .bool ab)] w := by
   intro ab w H hs
   rw [compose_Pair.j2] at H
   refine aw _ _ <| W_cond rfl (fun ah => ?_) (fun ah => ?_)
   ·rw [if_pos ah] at H
    refine Wr fun a7 ax => Om rfl rfl <| O_y rfl (Y_sub rfl rfl) <| O_y rfl (Y_mul rfl rfl) <| Om rfl rfl <| O_y rfl (Y_add rfl rfl) <| O_y rfl (Y_sub rfl rfl) <| O_y rfl (Y_mul rfl rfl) <| O_y rfl (Y_add rfl rfl) <| Oa rfl rfl <| Oa rfl rfl <| O_nil (ax _ _ <| W_ret ?_)
    obtain rfl := sinj H
    exact ret2 rfl rfl rfl ⟨rfl, hs⟩
   ·rw [if_neg (bft ah)] at H
    refine W_seqj fun ay az ac => ?_
    have ad : ∀ (aa : Bool) (w : World), compose_Pair.j1 x0 x1 x2 aa = some r → St w0 ρ (Γ) w → ay [(0, v0), (1, .int .i32 x1), (2, .int .i32 x2), (31, .bool aa)] w := by
     intro aa w H hs
     rw [compose_Pair.j1] at H
     refine az _ _ <| W_cond rfl (fun ai => ?_) (fun ai => ?_)
     ·rw [if_pos ai] at H
      refine Wr fun a8 a0 => Om rfl rfl <| Om rfl rfl <| O_y rfl (Y_add rfl rfl) <| O_y rfl (Y_sub rfl rfl) <| Oa rfl rfl <| Oa rfl rfl <| O_nil (a0 _ _ <| W_ret ?_)
      obtain rfl := sinj H
      exact ret2 rfl rfl rfl ⟨rfl, hs⟩
     ·rw [if_neg (bft ai)] at H
      refine W_skip (au _ _ <| Wr fun a9 a1 => Om rfl rfl <| Om rfl rfl <| Om rfl rfl ?_)
      obtain ⟨ag, aj, H⟩ := bnd H
      refine O_call rfl rfl (book_Tables_Pair.c hs h0 aj) (fun ba w hpost => ?_)
      obtain ⟨rfl, hs⟩ := hpost
      refine O_y rfl (Y_extract rfl rfl) <| O_y rfl (Y_extract rfl rfl) <| Oa rfl rfl <| Oa rfl rfl <| O_nil (a1 _ _ <| W_ret ?_)
      obtain rfl := sinj H
      exact ret2 rfl rfl rfl ⟨rfl, hs⟩
    refine W_region <| Om rfl rfl <| O_y rfl (Y_geq rfl rfl) <| Om rfl rfl <| O_if (dj := 34) rfl (fun ak => ?_) (fun ak => ?_)
    ·rw [if_pos ak] at H
     refine O_yes rfl rfl <| Om rfl rfl <| O_yes rfl rfl <| O_y rfl (Y_lss rfl rfl) <| O_y rfl (Y_pick_t rfl rfl) <| Om rfl rfl <| O_if (dj := 38) rfl (fun al => ?_) (fun al => ?_)
     ·rw [if_pos al] at H
      refine O_yes rfl rfl <| Om rfl rfl <| O_yes rfl rfl <| O_y rfl (Y_sub rfl rfl) <| O_yes rfl rfl <| O_y rfl (Y_rem rfl rfl (by decide)) <| O_yes rfl rfl <| O_y rfl (Y_eql rfl rfl) <| O_y rfl (Y_pick_t rfl rfl) <| Om rfl rfl <| O_if (dj := 44) rfl (fun am => ?_) (fun am => ?_)
      ·rw [if_pos am] at H
       refine O_yes rfl rfl <| Om rfl rfl <| O_yes rfl rfl <| O_y rfl (Y_gtr rfl rfl) <| O_y rfl (Y_pick_t rfl rfl) <| Om rfl rfl <| O_if (dj := 48) rfl (fun an => ?_) (fun an => ?_)
       ·rw [if_pos an] at H
        refine O_yes rfl rfl <| Om rfl rfl <| O_yes rfl rfl <| O_y rfl (Y_lss rfl rfl) <| O_y rfl (Y_pick_t rfl rfl) <| Oa rfl rfl <| O_nil (ac _ _ _ (S4 rfl rfl rfl rfl) (ad (decide (x2 < 4547)) _ H hs))
       ·rw [if_neg an] at H
        refine O_no rfl rfl rfl rfl <| O_no rfl rfl rfl rfl <| O_y rfl (Y_pick_f rfl rfl) <| Oa rfl rfl <| O_nil (ac _ _ _ (S4 rfl rfl rfl rfl) (ad false _ H hs))
      ·rw [if_neg am] at H
       refine O_no rfl rfl rfl rfl <| O_no rfl rfl rfl rfl <| O_y rfl (Y_pick_f rfl rfl) <| Om rfl rfl <| O_no rfl rfl rfl rfl <| O_no rfl rfl rfl rfl <| O_y rfl (Y_pick_f rfl rfl) <| Oa rfl rfl <| O_nil (ac _ _ _ (S4 rfl rfl rfl rfl) (ad false _ H hs))
     ·rw [if_neg al] at H
      refine O_no rfl rfl rfl rfl <| O_no rfl rfl rfl rfl <| O_no rfl rfl rfl rfl <| O_no rfl rfl rfl rfl <| O_y rfl (Y_pick_f rfl rfl) <| Om rfl rfl <| O_no rfl rfl rfl rfl <| O_no rfl rfl rfl rfl <| O_y rfl (Y_pick_f rfl rfl) <| Om rfl rfl <| O_no rfl rfl rfl rfl <| O_no rfl rfl rfl rfl <| O_y rfl (Y_pick_f rfl rfl) <| Oa rfl rfl ?_
      exact O_nil (ac _ _ _ (S4 rfl rfl rfl rfl) (ad false _ H hs))
    ·rw [if_neg ak] at H
     refine O_no rfl rfl rfl rfl <| O_no rfl rfl rfl rfl <| O_y rfl (Y_pick_f rfl rfl) <| Om rfl rfl <| O_no rfl rfl rfl rfl <| O_no rfl rfl rfl rfl <| O_no rfl rfl rfl rfl <| O_no rfl rfl rfl rfl <| O_y rfl (Y_pick_f rfl rfl) <| Om rfl rfl <| O_no rfl rfl rfl rfl <| O_no rfl rfl rfl rfl <| O_y rfl (Y_pick_f rfl rfl) <| Om rfl rfl ?_
     refine O_no rfl rfl rfl rfl <| O_no rfl rfl rfl rfl <| O_y rfl (Y_pick_f rfl rfl) <| Oa rfl rfl <| O_nil (ac _ _ _ (S4 rfl rfl rfl rfl) (ad false _ H hs))
  refine W_region <| Om rfl rfl <| O_y rfl (Y_geq rfl rfl) <| Om rfl rfl <| O_if (dj := 11) rfl (fun ao => ?_) (fun ao => ?_)
  ·rw [if_pos ao] at H
   refine O_yes rfl rfl <| Om rfl rfl <| O_yes rfl rfl <| O_y rfl (Y_lss rfl rfl) <| O_y rfl (Y_pick_t rfl rfl) <| Om rfl rfl <| O_if (dj := 15) rfl (fun ap => ?_) (fun ap => ?_)
   ·rw [if_pos ap] at H
    refine O_yes rfl rfl <| Om rfl rfl <| O_yes rfl rfl <| O_y rfl (Y_geq rfl rfl) <| O_y rfl (Y_pick_t rfl rfl) <| Om rfl rfl <| O_if (dj := 19) rfl (fun aq => ?_) (fun aq => ?_)
    ·rw [if_pos aq] at H
     refine O_yes rfl rfl <| Om rfl rfl <| O_yes rfl rfl <| O_y rfl (Y_lss rfl rfl) <| O_y rfl (Y_pick_t rfl rfl) <| Oa rfl rfl <| O_nil (ae _ _ _ (S4 rfl rfl rfl rfl) (af (decide (x2 < 4470)) _ H hs))
    ·rw [if_neg aq] at H
     refine O_no rfl rfl rfl rfl <| O_no rfl rfl rfl rfl <| O_y rfl (Y_pick_f rfl rfl) <| Oa rfl rfl <| O_nil (ae _ _ _ (S4 rfl rfl rfl rfl) (af false _ H hs))
   ·rw [if_neg ap] at H
    refine O_no rfl rfl rfl rfl <| O_no rfl rfl rfl rfl <| O_y rfl (Y_pick_f rfl rfl) <| Om rfl rfl <| O_no rfl rfl rfl rfl <| O_no rfl rfl rfl rfl <| O_y rfl (Y_pick_f rfl rfl) <| Oa rfl rfl <| O_nil (ae _ _ _ (S4 rfl rfl rfl rfl) (af false _ H hs))
  ·rw [if_neg ao] at H
   refine O_no rfl rfl rfl rfl <| O_no rfl rfl rfl rfl <| O_y rfl (Y_pick_f rfl rfl) <| Om rfl rfl <| O_no rfl rfl rfl rfl <| O_no rfl rfl rfl rfl <| O_y rfl (Y_pick_f rfl rfl) <| Om rfl rfl <| O_no rfl rfl rfl rfl <| O_no rfl rfl rfl rfl <| O_y rfl (Y_pick_f rfl rfl) <| Oa rfl rfl <| O_nil (ae _ _ _ (S4 rfl rfl rfl rfl) (af false _ H hs))

def compose_Compose.j1 (af : List Int → Int → Int → Int → Option (List Int)) (ab : Int) (ah : List Int) (au av : Int) : Option (List Int) := af ah au av (IntKind.i64.wrap (ab + 1))
def compose_Compose.j2 (af : List Int → Int → Int → Int → Option (List Int)) (x1 aa : List Int) (ab an ao : Int) : Option (List Int) := if aa.length + ([rd x1 ab]).length ≤ most then (compose_Compose.j1 af ab (aa ++ ([rd x1 ab])) an ao) else none
def compose_Compose.j3 (af : List Int → Int → Int → Int → Option (List Int)) (x1 aa : List Int) (ac ae ab ar : Int) : Option (List Int) := if ar = 0 then (compose_Compose.j2 af x1 aa ab (aa.length : Int) 0) else (compose_Compose.j2 af x1 aa ab ac (max ae ar))
def compose_Compose.j4 (af : List Int → Int → Int → Int → Option (List Int)) (x0 : Option Tbs) (x1 aa : List Int) (ac ae ab ar : Int) (ak : Bool) : Option (List Int) := if ak = true then (if (0 : Int) ≤ ac ∧ ac < (aa.length : Int) then ((compose_Pair.f x0 (rd aa ac) (rd x1 ab)).bind fun ax => (if ax.2 = true then (compose_Compose.j1 af ab (aa.set ac.toNat ax.1) ac ae) else (compose_Compose.j3 af x1 aa ac ae ab ar ))) else none) else (compose_Compose.j3 af x1 aa ac ae ab ar )
def compose_Compose.j5 (af : List Int → Int → Int → Int → Option (List Int)) (x0 : Option Tbs) (x1 aa : List Int) (ac ae ab ar : Int) (ap : Bool) : Option (List Int) := if 0 ≤ ac then (compose_Compose.j4 af x0 x1 aa ac ae ab ar (!ap)) else (compose_Compose.j4 af x0 x1 aa ac ae ab ar false)
def compose_Compose.l1 : Nat → Option Tbs → List Int → List Int → Int → Int → Int → Option (List Int)
  | 0, _, _, _, _, _, _ => none
  | aj + 1, x0, x1, aa, ac, ae, ab => if ab < (x1.length : Int) then (if (0 : Int) ≤ ab ∧ ab < (x1.length : Int) then ((book_Tables_Class.f x0 (rd x1 ab)).bind fun ar => (if 0 ≤ ac then (if ac < (IntKind.i64.wrap ((aa.length : Int) - 1)) then (compose_Compose.j5 (compose_Compose.l1 aj x0 x1) x0 x1 aa ac ae ab ar (decide (ar ≤ ae))) else (compose_Compose.j5 (compose_Compose.l1 aj x0 x1) x0 x1 aa ac ae ab ar false)) else (compose_Compose.j5 (compose_Compose.l1 aj x0 x1) x0 x1 aa ac ae ab ar false))) else none) else (some aa)
def compose_Compose.f (x0 : Option Tbs) (x1 : List Int) : Option (List Int) := compose_Compose.l1 K0 x0 x1 ([] : List Int) (-1) 0 0
theorem compose_Compose.c {w0 w : World} {ρ : Hp} {Γ : List Item} (hs : St w0 ρ (Γ) w) {v0 : Value} {x0 : Option Tbs} (h0 : PtrR rTbs ρ v0 x0) {v1 : Value} {x1 : List Int} (h1 : SlR (Rep.int .i32) ρ v1 x1) {r : List Int} (H : compose_Compose.f x0 x1 = some r) : CallsR Tryz.prog 79 [v0, v1] w (fun v w' => ∃ (ρ' : Hp) (v0 : Value) (cs0 : List Value), v = v0 ∧ Le ρ ρ' ∧ St w0 ρ' (.row v0 21 (Rep.int .i32).sz r.length cs0 :: Γ) w' ∧ RowR (Rep.int .i32) ρ' cs0 r) := by
  rw [compose_Compose.f] at H
  refine enter Tryz.func79 Tryz.ntmps79 rfl (by kernel_rfl) rfl <| Wr fun da b5 => Oa rfl rfl <| O_nil (b5 _ _ <| Wr fun db b6 => Oa rfl rfl ?_)
  have hs := hs.rowNil 21 (Rep.int .i32).sz
  have b7 := RowR.nil (Rep.int .i32) ρ
  refine O_nil (b6 _ _ <| Wr fun dc b8 => Oa rfl rfl <| Oa rfl rfl <| O_nil (b8 _ _ <| W_seq fun dd b9 => Wr fun de ca => Om rfl rfl <| O_y rfl (Y_lenR un28 h1 rfl) <| Om rfl rfl <| O_nil (ca _ _ <| W_block fun df cb dg => ?_)))
  refine W_loop (σ := Nat × List Int × Int × Int × Int × Value × List Value) (fun (aj, aa, ac, ae, ab, ad, ag) => [(0, v0), (5, ad), (6, .int .i64 ac), (7, .int .i64 ae), (14, v1), (15, .int .i64 (x1.length : Int)), (16, .int .i64 ab)]) (fun (aj, aa, ac, ae, ab, ad, ag) w => compose_Compose.l1 aj x0 x1 aa ac ae ab = some r ∧ St w0 ρ ((.row ad 21 ((Rep.int .i32).sz) aa.length ag) :: Γ) w ∧ RowR (Rep.int .i32) ρ ag aa) (fun s => s.1) (K0, ([] : List Int), (-1), 0, 0, (.slice none 0 0), ([])) (by repeat first | exact Sub.nil | refine Sub.cons rfl ?_) (Ai H (Ai hs b7)) ?_
  rintro ⟨aj, aa, ac, ae, ab, ad, ag⟩ w dh ⟨H, hs, ai⟩ a0
  show W _ _ _ _ _ _ [(0, v0), (5, ad), (6, .int .i64 ac), (7, .int .i64 ae), (14, v1), (15, .int .i64 (x1.length : Int)), (16, .int .i64 ab)] w
  cases aj with
  | zero => rw [compose_Compose.l1] at H; cases H
  | succ aj =>
  rw [compose_Compose.l1] at H
  refine Wr fun di cc => O_y rfl (Y_lss rfl rfl) <| O_nil (cc _ _ <| W_seq fun dk cd => W_if rfl (fun bh => ?_) (fun bh => ?_))
  ·rw [if_pos bh] at H
   refine W_skip (cd _ _ <| W_seqj fun ce cf b0 => ?_)
   have b1 : ∀ (ah : List Int) (au av : Int) (al : Value) (am : List Value) (w : World), compose_Compose.j1 (compose_Compose.l1 aj x0 x1) ab ah au av = some r → St w0 ρ ((.row al 21 ((Rep.int .i32).sz) ah.length am) :: Γ) w → RowR (Rep.int .i32) ρ am ah → ce [(0, v0), (5, al), (6, .int .i64 au), (7, .int .i64 av), (14, v1), (15, .int .i64 (x1.length : Int)), (16, .int .i64 ab)] w := by
    intro ah au av al am w H hs aw
    rw [compose_Compose.j1] at H
    refine cf _ _ <| W_region <| O_y rfl (Y_add rfl rfl) <| Om rfl rfl <| O_nil (a0 (aj, ah, au, av, (IntKind.i64.wrap (ab + 1)), al, am) _ _ (by repeat first | exact Sub.nil | refine Sub.cons rfl ?_) (Ai H (Ai hs aw)) (Nat.lt_succ_self _))
   refine W_block fun dl cg dm => W_seq fun dn ch => W_region ?_
   obtain ⟨b2, H⟩ := gd H
   obtain ⟨dp, dq, ci, cj⟩ := h1.ix el28 b2.1 b2.2
   refine O_y rfl (cj rfl rfl) <| O_y rfl (Y_load ag21 rfl (hs.see ci.int)) <| Oa rfl rfl <| O_nil (ch _ _ <| Wr fun dr ck => Om rfl rfl <| Om rfl rfl ?_)
   obtain ⟨ar, bi, H⟩ := bnd H
   refine O_call rfl rfl (book_Tables_Class.c hs h0 bi) (fun ds w hpost => ?_)
   obtain ⟨rfl, hs⟩ := hpost
   refine Oa rfl rfl <| O_nil (ck _ _ <| W.weak [(0, _), (5, _), (6, _), (7, _), (9, _), (10, _), (14, _), (15, _), (16, _)] (by repeat first | exact Sub.nil | refine Sub.cons rfl ?_) ?_)
   refine W_seqj fun cl cm bj => ?_
   have bk : ∀ (ap : Bool) (w : World), compose_Compose.j5 (compose_Compose.l1 aj x0 x1) x0 x1 aa ac ae ab ar ap = some r → St w0 ρ ((.row ad 21 ((Rep.int .i32).sz) aa.length ag) :: Γ) w → cl [(0, v0), (5, ad), (6, .int .i64 ac), (7, .int .i64 ae), (9, .int .i32 (rd x1 ab)), (10, .int .i64 ar), (11, .bool ap), (14, v1), (15, .int .i64 (x1.length : Int)), (16, .int .i64 ab)] w := by
    intro ap w H hs
    rw [compose_Compose.j5] at H
    refine cm _ _ <| W_seqj fun cn co b3 => ?_
    have a7 : ∀ (w : World), compose_Compose.j3 (compose_Compose.l1 aj x0 x1) x1 aa ac ae ab ar = some r → St w0 ρ ((.row ad 21 ((Rep.int .i32).sz) aa.length ag) :: Γ) w → cn [(0, v0), (5, ad), (6, .int .i64 ac), (7, .int .i64 ae), (9, .int .i32 (rd x1 ab)), (10, .int .i64 ar), (14, v1), (15, .int .i64 (x1.length : Int)), (16, .int .i64 ab)] w := by
     intro w H hs
     rw [compose_Compose.j3] at H
     refine co _ _ <| Wr fun cp bl => Om rfl rfl <| Om rfl rfl <| O_y rfl (Y_max rfl rfl) <| Oa rfl rfl <| O_nil (bl _ _ <| W_seqj fun bm bn a8 => ?_)
     have a9 : ∀ (an ao : Int) (w : World), compose_Compose.j2 (compose_Compose.l1 aj x0 x1) x1 aa ab an ao = some r → St w0 ρ ((.row ad 21 ((Rep.int .i32).sz) aa.length ag) :: Γ) w → bm [(0, v0), (5, ad), (6, .int .i64 an), (7, .int .i64 ao), (9, .int .i32 (rd x1 ab)), (14, v1), (15, .int .i64 (x1.length : Int)), (16, .int .i64 ab)] w := by
      intro an ao w H hs
      rw [compose_Compose.j2] at H
      refine bn _ _ <| W_region <| Om rfl rfl <| Om rfl rfl <| O_lit2 (xs := [.tmp 66]) (cs := [.int .i32 (rd x1 ab)]) el28 hs rfl rfl rfl (by decide) (by decide) rfl (sz_cons rfl sz_nil) (flat_cons rfl flat_nil) (fun cq w hs => ?_)
      have ba : RowR (Rep.int .i32) ρ ([.int .i32 (rd x1 ab)]) [rd x1 ab] := RowR.cons (c := [.int .i32 (rd x1 ab)]) (x := rd x1 ab) rfl (RowR.nil _ _)
      obtain ⟨bo, H⟩ := gd H
      refine O_appendR (i := 1) el28 hs rfl ai rfl rfl rfl (Src.lit (j := 0) hs rfl ba) ba bo (fun bp bb w bq hs => Oa rfl rfl <| O_nil (b0 _ _ _ (by repeat first | exact Sub.nil | refine Sub.cons rfl ?_) (b1 (aa ++ ([rd x1 ab])) an ao bp bb _ H (hs.sub (ssk (ssc ssr))) bq)))
     refine Wr fun cr br => Om rfl rfl <| O_y rfl (Y_eql rfl rfl) <| O_nil (br _ _ <| W_if rfl (fun a1 => ?_) (fun a1 => ?_))
     ·rw [if_pos a1] at H
      refine W_region <| Om rfl rfl <| O_y rfl (Y_lenRow (i := 0) un28 hs rfl rfl) <| Oa rfl rfl <| Oa rfl rfl <| O_nil (a8 _ _ _ (by repeat first | exact Sub.nil | refine Sub.cons rfl ?_) (a9 (aa.length : Int) 0 _ H hs))
     ·rw [if_neg a1] at H
      exact W_skip (a8 _ _ _ (by repeat first | exact Sub.nil | refine Sub.cons rfl ?_) (a9 ac (max ae ar) _ H hs))
    refine W_seqj fun bs bt bc => ?_
    have bd : ∀ (ak : Bool) (w : World), compose_Compose.j4 (compose_Compose.l1 aj x0 x1) x0 x1 aa ac ae ab ar ak = some r → St w0 ρ ((.row ad 21 ((Rep.int .i32).sz) aa.length ag) :: Γ) w → bs [(0, v0), (5, ad), (6, .int .i64 ac), (7, .int .i64 ae), (9, .int .i32 (rd x1 ab)), (10, .int .i64 ar), (14, v1), (15, .int .i64 (x1.length : Int)), (16, .int .i64 ab), (42, .bool ak)] w := by
     intro ak w H hs
     rw [compose_Compose.j4] at H
     refine bt _ _ <| W_cond rfl (fun a2 => ?_) (fun a2 => ?_)
     ·rw [if_pos a2] at H
      refine Wr fun ct bu => Om rfl rfl <| Om rfl rfl <| Om rfl rfl ?_
      obtain ⟨aq, H⟩ := gd H
      obtain ⟨cu, ay⟩ := hs.rowBlock (j := 0) rfl (by have := aq.2; omega)
      obtain ⟨_, rfl, be⟩ := ai.at aq.1 aq.2
      refine O_y rfl (Y_ixRow (j := 0) el28 hs rfl ay rfl rfl aq.1 aq.2) <| O_y rfl (Y_load ag21 rfl (hs.rowCell (j := 0) rfl ay (be 0 _ rfl))) <| Om rfl rfl ?_
      obtain ⟨ax, bf, H⟩ := bnd H
      refine O_call rfl rfl (compose_Pair.c hs h0 bf) (fun cv w hpost => ?_)
      obtain ⟨rfl, hs⟩ := hpost
      refine Om rfl rfl <| O_y rfl (Y_extract rfl rfl) <| O_y rfl (Y_extract rfl rfl) <| Oa rfl rfl <| Oa rfl rfl <| O_nil (bu _ _ <| W.weak [(0, _), (5, _), (6, _), (7, _), (9, _), (10, _), (12, _), (13, _), (14, _), (15, _), (16, _)] (by repeat first | exact Sub.nil | refine Sub.cons rfl ?_) ?_)
      refine Wr fun cw bv => Om rfl rfl <| O_nil (bv _ _ <| W_cond rfl (fun a3 => ?_) (fun a3 => ?_))
      ·rw [if_pos a3] at H
       refine Wr fun cx bw => Om rfl rfl <| Om rfl rfl <| Om rfl rfl ?_
       obtain ⟨cy, az⟩ := hs.rowBlock (j := 0) rfl (by have := aq.2; omega)
       obtain ⟨_, rfl, b4⟩ := ai.at aq.1 aq.2
       refine O_y rfl (Y_ixRow (j := 0) el28 hs rfl az rfl rfl aq.1 aq.2) <| O_storeRowR (j := 0) sz21 hs rfl az aq.1 aq.2 ai rfl rfl rfl (fun bg w bx hs => O_nil (bw _ _ <| W.weak [(0, _), (5, _), (6, _), (7, _), (14, _), (15, _), (16, _)] (by repeat first | exact Sub.nil | refine Sub.cons rfl ?_) ?_))
       exact W_exit (cg _ _ (b0 _ _ _ (by repeat first | exact Sub.nil | refine Sub.cons rfl ?_) (b1 (aa.set ac.toNat ax.1) ac ae ad bg _ H hs bx)))
      ·rw [if_neg (bft a3)] at H
       exact W_skip (b3 _ _ _ (by repeat first | exact Sub.nil | refine Sub.cons rfl ?_) (a7 _ H hs))
     ·rw [if_neg (bft a2)] at H
      exact W_skip (b3 _ _ _ (by repeat first | exact Sub.nil | refine Sub.cons rfl ?_) (a7 _ H hs))
    refine W_region <| Om rfl rfl <| O_y rfl (Y_geq rfl rfl) <| Om rfl rfl <| O_if (dj := 39) rfl (fun a4 => ?_) (fun a4 => ?_)
    ·rw [if_pos a4] at H
     refine O_yes rfl rfl <| Om rfl rfl <| O_yes rfl rfl <| O_y rfl (Y_not rfl) <| O_y rfl (Y_pick_t rfl rfl) <| O_nil (bc _ _ _ (by repeat first | exact Sub.nil | refine Sub.cons rfl ?_) (bd (!ap) _ H hs))
    ·rw [if_neg a4] at H
     refine O_no rfl rfl rfl rfl <| O_no rfl rfl rfl rfl <| O_y rfl (Y_pick_f rfl rfl) <| O_nil (bc _ _ _ (by repeat first | exact Sub.nil | refine Sub.cons rfl ?_) (bd false _ H hs))
   refine W_region <| Om rfl rfl <| O_y rfl (Y_geq rfl rfl) <| Om rfl rfl <| O_if (dj := 25) rfl (fun a5 => ?_) (fun a5 => ?_)
   ·rw [if_pos a5] at H
    refine O_yes rfl rfl <| Om rfl rfl <| O_yes rfl rfl <| Om rfl rfl <| O_yes rfl rfl <| O_y rfl (Y_lenRow (i := 0) un28 hs rfl rfl) <| O_yes rfl rfl <| O_y rfl (Y_sub rfl rfl) <| O_yes rfl rfl <| O_y rfl (Y_lss rfl rfl) <| O_y rfl (Y_pick_t rfl rfl) <| Om rfl rfl <| O_if (dj := 32) rfl (fun a6 => ?_) (fun a6 => ?_)
    ·rw [if_pos a6] at H
     refine O_yes rfl rfl <| Om rfl rfl <| O_yes rfl rfl <| Om rfl rfl <| O_yes rfl rfl <| O_y rfl (Y_geq rfl rfl) <| O_y rfl (Y_pick_t rfl rfl) <| Oa rfl rfl <| O_nil (bj _ _ _ (by repeat first | exact Sub.nil | refine Sub.cons rfl ?_) (bk (decide (ar ≤ ae)) _ H hs))
    ·rw [if_neg a6] at H
     refine O_no rfl rfl rfl rfl <| O_no rfl rfl rfl rfl <| O_no rfl rfl rfl rfl <| O_y rfl (Y_pick_f rfl rfl) <| Oa rfl rfl <| O_nil (bj _ _ _ (by repeat first | exact Sub.nil | refine Sub.cons rfl ?_) (bk false _ H hs))
   ·rw [if_neg a5] at H
    refine O_no rfl rfl rfl rfl <| O_no rfl rfl rfl rfl <| O_no rfl rfl rfl rfl <| O_no rfl rfl rfl rfl <| O_no rfl rfl rfl rfl <| O_y rfl (Y_pick_f rfl rfl) <| Om rfl rfl <| O_no rfl rfl rfl rfl <| O_no rfl rfl rfl rfl <| O_no rfl rfl rfl rfl <| O_y rfl (Y_pick_f rfl rfl) <| Oa rfl rfl <| O_nil (bj _ _ _ (by repeat first | exact Sub.nil | refine Sub.cons rfl ?_) (bk false _ H hs))
  ·rw [if_neg bh] at H
   refine W_exit (cb _ _ (b9 _ _ <| Wr fun cz bz => Om rfl rfl <| Oa rfl rfl <| O_nil (bz _ _ <| W_ret ?_)))
   obtain rfl := sinj H
   exact ret1 rfl rfl ⟨_, _, _, rfl, Le.rfl' _, hs, ai⟩

def compose_Normal.f (x0 : Option Tbs) (x1 : List Int) : Option (List Int) := (canon_Decompose.f x0 x1).bind fun af => ((compose_Compose.f x0 af).bind fun ag => (some ag))
theorem compose_Normal.c {w0 w : World} {ρ : Hp} {Γ : List Item} (hs : St w0 ρ (Γ) w) {v0 : Value} {x0 : Option Tbs} (h0 : PtrR rTbs ρ v0 x0) {v1 : Value} {x1 : List Int} (h1 : SlR (Rep.int .i32) ρ v1 x1) {r : List Int} (H : compose_Normal.f x0 x1 = some r) : CallsR Tryz.prog 44 [v0, v1] w (fun v w' => ∃ (ρ' : Hp) (v0 : Value) (cs0 : List Value), v = v0 ∧ Le ρ ρ' ∧ St w0 ρ' (.row v0 21 (Rep.int .i32).sz r.length cs0 :: Γ) w' ∧ RowR (Rep.int .i32) ρ' cs0 r) := by
  rw [compose_Normal.f] at H
  refine enter Tryz.func44 Tryz.ntmps44 rfl (by kernel_rfl) rfl <| Wr fun ao ah => Oa rfl rfl <| O_nil (ah _ _ <| Wr fun ap ai => Om rfl rfl <| Om rfl rfl <| Om rfl rfl ?_)
  obtain ⟨af, ac, H⟩ := bnd H
  refine O_call rfl rfl (canon_Decompose.c hs h0 h1 ac) (fun aq w hpost => ?_)
  obtain ⟨ar, au, aj, rfl, aa, hs, ak⟩ := hpost
  obtain ⟨av, ab, hs, al⟩ := hs.rowEnd (j := 0) ak rfl
  obtain ⟨ag, ad, H⟩ := bnd H
  refine O_call rfl rfl (compose_Compose.c hs (h0.mono (aa.trans ab)) al ad) (fun aw w hpost => ?_)
  obtain ⟨ax, ay, am, rfl, ae, hs, an⟩ := hpost
  refine Oa rfl rfl <| O_nil (ai _ _ <| W_ret ?_)
  obtain rfl := sinj H
  exact ret1 rfl rfl ⟨_, _, _, rfl, ((aa.trans ab).trans ae), hs, an⟩

def slices_Equal_rune_rune.l1 : Nat → List Int → List Int → Int → Option Bool
  | 0, _, _, _ => none
  | ab + 1, x0, x1, aa => if aa < (x0.length : Int) then (if (0 : Int) ≤ aa ∧ aa < (x0.length : Int) then (if (0 : Int) ≤ aa ∧ aa < (x1.length : Int) then (if (rd x0 aa) ≠ (rd x1 aa) then (some false) else ((slices_Equal_rune_rune.l1 ab x0 x1) (IntKind.i64.wrap (aa + 1)))) else none) else none) else (some true)
def slices_Equal_rune_rune.f (x0 x1 : List Int) : Option Bool := if (x0.length : Int) ≠ (x1.length : Int) then (some false) else (slices_Equal_rune_rune.l1 K0 x0 x1 0)
theorem slices_Equal_rune_rune.c {w0 w : World} {ρ : Hp} {Γ : List Item} (hs : St w0 ρ (Γ) w) {v0 : Value} {x0 : List Int} (h0 : SlR (Rep.int .i32) ρ v0 x0) {v1 : Value} {x1 : List Int} (h1 : SlR (Rep.int .i32) ρ v1 x1) {r : Bool} (H : slices_Equal_rune_rune.f x0 x1 = some r) : CallsR Tryz.prog 43 [v0, v1] w (fun v w' => v = .bool r ∧ St w0 ρ Γ w') := by
  rw [slices_Equal_rune_rune.f] at H
  refine enter Tryz.func43 Tryz.ntmps43 rfl (by kernel_rfl) rfl <| Wr fun a2 ai => Oa rfl rfl <| O_nil (ai _ _ <| W_seq fun a3 aj => Wr fun a4 ak => Om rfl rfl <| O_y rfl (Y_lenR un28 h0 rfl) <| Om rfl rfl <| O_y rfl (Y_lenR un28 h1 rfl) <| O_y rfl (Y_neq rfl rfl) <| O_nil (ak _ _ ?_))
  refine W_if rfl (fun ad => ?_) (fun ad => ?_)
  ·rw [if_pos ad] at H
   refine Wr fun a5 al => Oa rfl rfl <| O_nil (al _ _ <| W_ret ?_)
   obtain rfl := sinj H
   exact ret1 rfl rfl ⟨rfl, hs⟩
  ·rw [if_neg ad] at H
   refine W_skip (aj _ _ <| W_seq fun a6 am => Wr fun a7 an => Om rfl rfl <| O_y rfl (Y_lenR un28 h0 rfl) <| Om rfl rfl <| O_nil (an _ _ <| W_block fun a8 ao a9 => W_loop (σ := Nat × Int) (fun (ab, aa) => [(0, v0), (1, v1), (12, .int .i64 (x0.length : Int)), (13, .int .i64 aa)]) (fun (ab, aa) w => slices_Equal_rune_rune.l1 ab x0 x1 aa = some r ∧ St w0 ρ (Γ) w) (fun s => s.1) (K0, 0) (S4 rfl rfl rfl rfl) (Ai H hs) ?_))
   rintro ⟨ab, aa⟩ w ba ⟨H, hs⟩ ac
   show W _ _ _ _ _ _ [(0, v0), (1, v1), (12, .int .i64 (x0.length : Int)), (13, .int .i64 aa)] w
   cases ab with
   | zero => rw [slices_Equal_rune_rune.l1] at H; cases H
   | succ ab =>
   rw [slices_Equal_rune_rune.l1] at H
   refine Wr fun bb ap => O_y rfl (Y_lss rfl rfl) <| O_nil (ap _ _ <| W_seq fun bc aq => W_if rfl (fun ae => ?_) (fun ae => ?_))
   ·rw [if_pos ae] at H
    refine W_skip (aq _ _ <| W_seq fun bd ar => W_block fun be bf bg => Wr fun bh au => Om rfl rfl <| Oa rfl rfl <| O_nil (au _ _ <| W_seq fun bi av => W_drawS 9 [0, 0, 3, 4, 0, 0, 48, 64, 136] [506, 505, 496, 240, 431, 415, 271, 15, 0] [0, 0, 3, 7, 0, 0, 48, 112, 255] [] (fun w => St w0 ρ (Γ) w) mixed (by kernel_rfl) (fun sh => ?_)))
    have hs := hs.drew
    refine Dm 0 sh rfl rfl (by kernel_rfl) rfl <| Dm 1 sh rfl rfl (by kernel_rfl) rfl ?_
    obtain ⟨ag, H⟩ := gd H
    obtain ⟨bj, bk, aw, ax⟩ := h0.ix el28 ag.1 ag.2
    refine Dp 2 sh rfl rfl (by kernel_rfl) (fun w => ax rfl rfl) <| Dy 3 sh rfl rfl (by kernel_rfl) hs (fun w hs => Y_load ag21 rfl (hs.see aw.int)) <| Dm 4 sh rfl rfl (by kernel_rfl) rfl <| Dm 5 sh rfl rfl (by kernel_rfl) rfl ?_
    obtain ⟨ah, H⟩ := gd H
    obtain ⟨bl, bm, ay, az⟩ := h1.ix el28 ah.1 ah.2
    refine Dp 6 sh rfl rfl (by kernel_rfl) (fun w => az rfl rfl) <| Dy 7 sh rfl rfl (by kernel_rfl) hs (fun w hs => Y_load ag21 rfl (hs.see ay.int)) <| Dp 8 sh rfl rfl (by kernel_rfl) (fun w => Y_neq rfl rfl) <| OD_doneS sh (by kernel_rfl) (av _ _ <| W.weak [(0, _), (1, _), (12, _), (13, _), (24, _)] (by repeat first | exact Sub.nil | refine Sub.cons rfl ?_) ?_)
    refine W_if rfl (fun af => ?_) (fun af => ?_)
    ·rw [if_pos af] at H
     refine Wr fun bn a0 => Oa rfl rfl <| O_nil (a0 _ _ <| W_ret ?_)
     obtain rfl := sinj H
     exact ret1 rfl rfl ⟨rfl, hs⟩
    ·rw [if_neg af] at H
     refine W_skip (ar _ _ <| W_region <| O_y rfl (Y_add rfl rfl) <| Om rfl rfl <| O_nil (ac (ab, (IntKind.i64.wrap (aa + 1))) _ _ (S4 rfl rfl rfl rfl) (Ai H hs) (Nat.lt_succ_self _)))
   ·rw [if_neg ae] at H
    refine W_exit (ao _ _ (am _ _ <| Wr fun bo a1 => Oa rfl rfl <| O_nil (a1 _ _ <| W_ret ?_)))
    obtain rfl := sinj H
    exact ret1 rfl rfl ⟨rfl, hs⟩

def compose_Is.f (x0 : Option Tbs) (x1 : List Int) : Option Bool := (compose_Normal.f x0 x1).bind fun ae => ((slices_Equal_rune_rune.f ae x1).bind fun af => (some af))
theorem compose_Is.c {w0 w : World} {ρ : Hp} {Γ : List Item} (hs : St w0 ρ (Γ) w) {v0 : Value} {x0 : Option Tbs} (h0 : PtrR rTbs ρ v0 x0) {v1 : Value} {x1 : List Int} (h1 : SlR (Rep.int .i32) ρ v1 x1) {r : Bool} (H : compose_Is.f x0 x1 = some r) : CallsR Tryz.prog 23 [v0, v1] w (fun v w' => v = .bool r ∧ St w0 ρ Γ w') := by
  rw [compose_Is.f] at H
  refine enter Tryz.func23 Tryz.ntmps23 rfl (by kernel_rfl) rfl <| Wr fun al ag => Oa rfl rfl <| O_nil (ag _ _ <| Wr fun am ah => Om rfl rfl <| Om rfl rfl ?_)
  obtain ⟨ae, ac, H⟩ := bnd H
  refine O_call rfl rfl (compose_Normal.c hs h0 h1 ac) (fun an w hpost => ?_)
  obtain ⟨ao, ap, ai, rfl, aa, hs, aj⟩ := hpost
  refine Om rfl rfl ?_
  obtain ⟨aq, ab, hs, ak⟩ := hs.rowEnd (j := 0) aj rfl
  obtain ⟨af, ad, H⟩ := bnd H
  refine O_call rfl rfl (slices_Equal_rune_rune.c hs ak (h1.mono (aa.trans ab)) ad) (fun ar w hpost => ?_)
  obtain ⟨rfl, hs⟩ := hpost
  refine Oa rfl rfl <| O_nil (ah _ _ <| W_ret ?_)
  obtain rfl := sinj H
  exact ret1 rfl rfl ⟨rfl, (hs.less (aa.trans ab))⟩

def label_Faults_1_hil.f (x0 : Int) (x1 : Bool) (y1 : List Int) : Option (List Int) := if x1 = true then (if y1.length + ([x0]).length ≤ most then (some (y1 ++ ([x0]))) else none) else (some y1)
theorem label_Faults_1_hil.c {w0 w : World} {ρ : Hp} {Γ : List Item} {pb0 : Nat} {w1 : Value} {d1 : List Value} {y1 : List Int} (hs : St w0 ρ ((.box pb0 56 ([w1])) :: (.row w1 3 ((Rep.int .i64).sz) y1.length d1) :: Γ) w) {x0 : Int} {x1 : Bool} (g1 : RowR (Rep.int .i64) ρ d1 y1) {r : List Int} (H : label_Faults_1_hil.f x0 x1 y1 = some r) : CallsR Tryz.prog 36 [.int .i64 x0, .bool x1, .pointer (some ⟨pb0, 0, none⟩)] w (fun v w' => ∃ (ρ' : Hp) (u0 : Value) (ds0 : List Value), v = .tuple #[] ∧ Le ρ ρ' ∧ St w0 ρ' ((.box pb0 56 ([u0])) :: (.row u0 3 ((Rep.int .i64).sz) r.length ds0) :: Γ) w' ∧ RowR (Rep.int .i64) ρ' ds0 r) := by
  rw [label_Faults_1_hil.f] at H
  refine enter Tryz.func36 Tryz.ntmps36 rfl (by kernel_rfl) rfl <| Wr fun ag ac => Om rfl rfl <| O_nil (ac _ _ <| W_cond rfl (fun aa => ?_) (fun aa => ?_))
  ·rw [if_pos aa] at H
   refine W_region <| O_y rfl (Yb 0 ag56 hs rfl rfl rfl) <| Om rfl rfl <| O_lit2 (xs := [.tmp 7]) (cs := [.int .i64 x0]) el56 hs rfl rfl rfl (by decide) (by decide) rfl (sz_cons rfl sz_nil) (flat_cons rfl flat_nil) (fun ah w hs => ?_)
   have ab : RowR (Rep.int .i64) ρ ([.int .i64 x0]) [x0] := RowR.cons (c := [.int .i64 x0]) (x := x0) rfl (RowR.nil _ _)
   obtain ⟨ad, H⟩ := gd H
   refine O_appendR (i := 2) el56 hs rfl g1 rfl rfl rfl (Src.lit (j := 0) hs rfl ab) ab ad (fun ai ae w af hs => O_store (i := 1) sz56 hs rfl rfl rfl rfl (St.rowOne hs (j := 2) rfl) (fun w hs => O_nil ?_))
   obtain rfl := sinj H
   exact ret0 rfl ⟨_, _, _, rfl, Le.rfl' _, (hs.sub (ssk (ssc (ssc ssr)))), af⟩
  ·rw [if_neg (bft aa)] at H
   refine W_skip ?_
   obtain rfl := sinj H
   exact ret0 rfl ⟨_, _, _, rfl, Le.rfl' _, hs, g1⟩

def slices_Index_rune_rune.l1 : Nat → List Int → Int → Int → Option Int
  | 0, _, _, _ => none
  | ab + 1, x0, x1, aa => if aa < (x0.length : Int) then (if (0 : Int) ≤ aa ∧ aa < (x0.length : Int) then (if x1 = (rd x0 aa) then (some aa) else ((slices_Index_rune_rune.l1 ab x0 x1) (IntKind.i64.wrap (aa + 1)))) else none) else (some (-1))
def slices_Index_rune_rune.f (x0 : List Int) (x1 : Int) : Option Int := slices_Index_rune_rune.l1 K0 x0 x1 0
theorem slices_Index_rune_rune.c {w0 w : World} {ρ : Hp} {Γ : List Item} (hs : St w0 ρ (Γ) w) {v0 : Value} {x0 : List Int} (h0 : SlR (Rep.int .i32) ρ v0 x0) {x1 r : Int} (H : slices_Index_rune_rune.f x0 x1 = some r) : CallsR Tryz.prog 35 [v0, .int .i32 x1] w (fun v w' => v = .int .i64 r ∧ St w0 ρ Γ w') := by
  rw [slices_Index_rune_rune.f] at H
  refine enter Tryz.func35 Tryz.ntmps35 rfl (by kernel_rfl) rfl <| Wr fun av ag => Oa rfl rfl <| O_nil (ag _ _ <| W_seq fun aw ah => Wr fun ax ai => Om rfl rfl <| O_y rfl (Y_lenR un28 h0 rfl) <| Om rfl rfl <| O_nil (ai _ _ <| W_block fun ay aj az => W_loop (σ := Nat × Int) (fun (ab, aa) => [(0, v0), (1, .int .i32 x1), (7, .int .i64 (x0.length : Int)), (8, .int .i64 aa)]) (fun (ab, aa) w => slices_Index_rune_rune.l1 ab x0 x1 aa = some r ∧ St w0 ρ (Γ) w) (fun s => s.1) (K0, 0) (S4 rfl rfl rfl rfl) (Ai H hs) ?_))
  rintro ⟨ab, aa⟩ w a0 ⟨H, hs⟩ ac
  show W _ _ _ _ _ _ [(0, v0), (1, .int .i32 x1), (7, .int .i64 (x0.length : Int)), (8, .int .i64 aa)] w
  cases ab with
  | zero => rw [slices_Index_rune_rune.l1] at H; cases H
  | succ ab =>
  rw [slices_Index_rune_rune.l1] at H
  refine Wr fun a1 ak => O_y rfl (Y_lss rfl rfl) <| O_nil (ak _ _ <| W_seq fun a2 al => W_if rfl (fun ad => ?_) (fun ad => ?_))
  ·rw [if_pos ad] at H
   refine W_skip (al _ _ <| W_seq fun a3 am => W_block fun a4 a5 a6 => Wr fun a7 an => Om rfl rfl <| Oa rfl rfl <| O_nil (an _ _ <| Wr fun a8 ao => Om rfl rfl <| Om rfl rfl <| Om rfl rfl ?_))
   obtain ⟨af, H⟩ := gd H
   obtain ⟨a9, ba, ap, aq⟩ := h0.ix el28 af.1 af.2
   refine O_y rfl (aq rfl rfl) <| O_y rfl (Y_load ag21 rfl (hs.see ap.int)) <| O_y rfl (Y_eql rfl rfl) <| O_nil (ao _ _ <| W_if rfl (fun ae => ?_) (fun ae => ?_))
   ·rw [if_pos ae] at H
    refine Wr fun bb ar => Om rfl rfl <| Oa rfl rfl <| O_nil (ar _ _ <| W.weak [(4, _)] (S1 rfl) <| W_ret ?_)
    obtain rfl := sinj H
    exact ret1 rfl rfl ⟨rfl, hs⟩
   ·rw [if_neg ae] at H
    refine W_skip (am _ _ <| W_region <| O_y rfl (Y_add rfl rfl) <| Om rfl rfl <| O_nil (ac (ab, (IntKind.i64.wrap (aa + 1))) _ _ (S4 rfl rfl rfl rfl) (Ai H hs) (Nat.lt_succ_self _)))
  ·rw [if_neg ad] at H
   refine W_exit (aj _ _ (ah _ _ <| Wr fun bc au => Oa rfl rfl <| O_nil (au _ _ <| W_ret ?_)))
   obtain rfl := sinj H
   exact ret1 rfl rfl ⟨rfl, hs⟩

def slices_Contains_rune_rune.f (x0 : List Int) (x1 : Int) : Option Bool := (slices_Index_rune_rune.f x0 x1).bind fun ab => (some (decide (0 ≤ ab)))
theorem slices_Contains_rune_rune.c {w0 w : World} {ρ : Hp} {Γ : List Item} (hs : St w0 ρ (Γ) w) {v0 : Value} {x0 : List Int} (h0 : SlR (Rep.int .i32) ρ v0 x0) {x1 : Int} {r : Bool} (H : slices_Contains_rune_rune.f x0 x1 = some r) : CallsR Tryz.prog 37 [v0, .int .i32 x1] w (fun v w' => v = .bool r ∧ St w0 ρ Γ w') := by
  rw [slices_Contains_rune_rune.f] at H
  refine enter Tryz.func37 Tryz.ntmps37 rfl (by kernel_rfl) rfl <| Wr fun ae ac => Oa rfl rfl <| O_nil (ac _ _ <| Wr fun af ad => Om rfl rfl <| Om rfl rfl ?_)
  obtain ⟨ab, aa, H⟩ := bnd H
  refine O_call rfl rfl (slices_Index_rune_rune.c hs h0 aa) (fun ag w hpost => ?_)
  obtain ⟨rfl, hs⟩ := hpost
  refine O_y rfl (Y_geq rfl rfl) <| Oa rfl rfl <| O_nil (ad _ _ <| W_ret ?_)
  obtain rfl := sinj H
  exact ret1 rfl rfl ⟨rfl, hs⟩

def book_Tables_Mark.j1 (aa : Bool) : Option Bool := some aa
def book_Tables_Mark.f (x0 : Option Tbs) (x1 : Int) : Option Bool := if ((x0).isSome) = true then (if x0.isSome = true then ((stage_Table_Look.f (((x0).getD default).mark) x1).bind fun ab => (book_Tables_Mark.j1 (decide (ab = 1)))) else none) else (book_Tables_Mark.j1 false)
theorem book_Tables_Mark.c {w0 w : World} {ρ : Hp} {Γ : List Item} (hs : St w0 ρ (Γ) w) {v0 : Value} {x0 : Option Tbs} (h0 : PtrR rTbs ρ v0 x0) {x1 : Int} {r : Bool} (H : book_Tables_Mark.f x0 x1 = some r) : CallsR Tryz.prog 38 [v0, .int .i32 x1] w (fun v w' => v = .bool r ∧ St w0 ρ Γ w') := by
  rw [book_Tables_Mark.f] at H
  refine enter Tryz.func38 Tryz.ntmps38 rfl (by kernel_rfl) rfl <| Wr fun ax ai => Oa rfl rfl <| O_nil (ai _ _ <| W_seqj fun aj ak ag => ?_)
  have ah : ∀ (aa : Bool) (w : World), book_Tables_Mark.j1 aa = some r → St w0 ρ (Γ) w → aj [(4, .bool aa)] w := by
   intro aa w H hs
   rw [book_Tables_Mark.j1] at H
   refine ak _ _ <| W_ret ?_
   obtain rfl := sinj H
   exact ret1 rfl rfl ⟨rfl, hs⟩
  refine W_region <| Om rfl rfl <| O_y rfl ((h0.nen un29 rfl rfl)) <| Om rfl rfl <| O_cases (dj := 7) rfl (fun ad => ?_) (fun ad => ?_)
  ·rw [if_pos ad] at H
   refine O_yes rfl rfl <| Om rfl rfl ?_
   obtain ⟨al, H⟩ := gd H
   obtain ⟨ay, ae, am⟩ := h0.open al
   obtain ⟨_, ⟨az, a0, a1, a2, a3, a4, a5, a6, a7, a8, a9, ba, bb, bc, bd, be, bf, bg, bh, an, ao, ap, rfl, bi, bj, bk, bl, bm, bn, bo, bp, bq, br, bs, bt, bu, bv, bw, bx, bz, aq, b0, ar, au, av⟩, af⟩ := am
   refine O_yes rfl rfl <| O_y rfl (Y_nilp (congrArg some ae)) <| O_yes rfl rfl <| O_y rfl (Y_field fo114_7 rfl) <| O_yes rfl rfl <| O_y rfl (Y_load ag104 rfl (hs.see (af 17 _ rfl))) <| O_yes rfl rfl <| Om rfl rfl <| O_yes rfl rfl ?_
   obtain ⟨ab, ac, H⟩ := bnd H
   refine O_call rfl rfl (stage_Table_Look.c hs aq ac) (fun aw w hpost => ?_)
   obtain ⟨rfl, hs⟩ := hpost
   refine O_yes rfl rfl <| O_y rfl (Y_eql rfl rfl) <| O_y rfl (Y_pick_t rfl rfl) <| Oa rfl rfl <| O_nil (ag _ _ _ (S1 rfl) (ah (decide (ab = 1)) _ H hs))
  ·rw [if_neg (bft ad)] at H
   refine O_no rfl rfl rfl rfl <| O_no rfl rfl rfl rfl <| O_no rfl rfl rfl rfl <| O_no rfl rfl rfl rfl <| O_no rfl rfl rfl rfl <| O_no rfl rfl rfl rfl <| O_no rfl rfl rfl rfl <| O_y rfl (Y_pick_f rfl rfl) <| Oa rfl rfl <| O_nil (ag _ _ _ (S1 rfl) (ah false _ H hs))

def book_Tables_Status.f (x0 : Option Tbs) (x1 : Int) : Option Int := if ((x0).isNone) = true then (some 0) else (if x0.isSome = true then ((stage_Table_Look.f (((x0).getD default).maps) x1).bind fun ab => (if 0 < ab then (some 4) else ((stage_Table_Look.f (((x0).getD default).status) x1).bind fun ac => (some ac)))) else none)
theorem book_Tables_Status.c {w0 w : World} {ρ : Hp} {Γ : List Item} (hs : St w0 ρ (Γ) w) {v0 : Value} {x0 : Option Tbs} (h0 : PtrR rTbs ρ v0 x0) {x1 r : Int} (H : book_Tables_Status.f x0 x1 = some r) : CallsR Tryz.prog 42 [v0, .int .i32 x1] w (fun v w' => v = .int .i64 r ∧ St w0 ρ Γ w') := by
  rw [book_Tables_Status.f] at H
  refine enter Tryz.func42 Tryz.ntmps42 rfl (by kernel_rfl) rfl <| Wr fun cn aq => Oa rfl rfl <| O_nil (aq _ _ <| W_seq fun co ar => W_block fun cp cq cr => Wr fun cs au => Om rfl rfl <| O_y rfl ((h0.eqn un29 rfl rfl)) <| Oa rfl rfl <| O_nil (au _ _ <| W_cond rfl (fun ag => ?_) (fun ag => ?_)))
  ·rw [if_pos ag] at H
   refine Wr fun ct av => Oa rfl rfl <| O_nil (av _ _ <| W_ret ?_)
   obtain rfl := sinj H
   exact ret1 rfl rfl ⟨rfl, hs⟩
  ·rw [if_neg (bft ag)] at H
   refine Wr fun cu aw => Om rfl rfl ?_
   obtain ⟨ap, H⟩ := gd H
   obtain ⟨cv, ah, ax⟩ := h0.open ap
   obtain ⟨_, ⟨cw, cx, cy, cz, da, db, dc, dd, de, df, dg, dh, di, dj, dk, dl, ay, az, a0, a1, a2, a3, rfl, dm, dn, dp, dq, dr, ds, dt, du, dv, dw, dx, dy, dz, ea, eb, a4, a5, a6, ai, a7, a8, a9⟩, aj⟩ := ax
   refine O_y rfl (Y_nilp (congrArg some ah)) <| O_y rfl (Y_field fo114_8 rfl) <| O_y rfl (Y_load ag104 rfl (hs.see (aj 18 _ rfl))) <| Om rfl rfl ?_
   obtain ⟨ab, ad, H⟩ := bnd H
   refine O_call rfl rfl (stage_Table_Look.c hs ai ad) (fun ba w hpost => ?_)
   obtain ⟨rfl, hs⟩ := hpost
   refine O_y rfl (Y_gtr rfl rfl) <| Oa rfl rfl <| O_nil (aw _ _ <| W_if rfl (fun aa => ?_) (fun aa => ?_))
   ·rw [if_pos aa] at H
    refine Wr fun bb ak => Oa rfl rfl <| O_nil (ak _ _ <| W_ret ?_)
    obtain rfl := sinj H
    exact ret1 rfl rfl ⟨rfl, hs⟩
   ·rw [if_neg aa] at H
    refine W_skip (ar _ _ <| Wr fun bc al => Om rfl rfl ?_)
    obtain ⟨bd, ae, am⟩ := h0.open ap
    obtain ⟨_, ⟨be, bf, bg, bh, bi, bj, bk, bl, bm, bn, bo, bp, bq, br, bs, bt, bu, bv, bw, bx, bz, b0, rfl, b1, b2, b3, b4, b5, b6, b7, b8, b9, ca, cb, an, cc, cd, ce, cf, cg, ch, ci, cj, ck, cl⟩, ao⟩ := am
    refine O_y rfl (Y_nilp (congrArg some ae)) <| O_y rfl (Y_field fo114_1 rfl) <| O_y rfl (Y_load ag104 rfl (hs.see (ao 11 _ rfl))) <| Om rfl rfl ?_
    obtain ⟨ac, af, H⟩ := bnd H
    refine O_call rfl rfl (stage_Table_Look.c hs an af) (fun cm w hpost => ?_)
    obtain ⟨rfl, hs⟩ := hpost
    refine Oa rfl rfl <| O_nil (al _ _ <| W.weak [(4, _)] (S1 rfl) <| W_ret ?_)
    obtain rfl := sinj H
    exact ret1 rfl rfl ⟨rfl, hs⟩

def book_Tables_Kept.j1 (aa : Bool) : Option Bool := some aa
def book_Tables_Kept.f (x0 : Option Tbs) (x1 : Int) : Option Bool := (book_Tables_Status.f x0 x1).bind fun ab => (if ab = 1 then (book_Tables_Kept.j1 true) else (book_Tables_Kept.j1 (decide (ab = 3))))
theorem book_Tables_Kept.c {w0 w : World} {ρ : Hp} {Γ : List Item} (hs : St w0 ρ (Γ) w) {v0 : Value} {x0 : Option Tbs} (h0 : PtrR rTbs ρ v0 x0) {x1 : Int} {r : Bool} (H : book_Tables_Kept.f x0 x1 = some r) : CallsR Tryz.prog 22 [v0, .int .i32 x1] w (fun v w' => v = .bool r ∧ St w0 ρ Γ w') := by
  rw [book_Tables_Kept.f] at H
  refine enter Tryz.func22 Tryz.ntmps22 rfl (by kernel_rfl) rfl <| Wr fun ak ag => Oa rfl rfl <| O_nil (ag _ _ <| Wr fun al ah => Om rfl rfl <| Om rfl rfl ?_)
  obtain ⟨ab, ac, H⟩ := bnd H
  refine O_call rfl rfl (book_Tables_Status.c hs h0 ac) (fun am w hpost => ?_)
  obtain ⟨rfl, hs⟩ := hpost
  refine Oa rfl rfl <| O_nil (ah _ _ <| W_seqj fun ai aj ae => ?_)
  have af : ∀ (aa : Bool) (w : World), book_Tables_Kept.j1 aa = some r → St w0 ρ (Γ) w → ai [(4, .bool aa)] w := by
   intro aa w H hs
   rw [book_Tables_Kept.j1] at H
   refine aj _ _ <| W_ret ?_
   obtain rfl := sinj H
   exact ret1 rfl rfl ⟨rfl, hs⟩
  refine W_region <| Om rfl rfl <| O_y rfl (Y_eql rfl rfl) <| Om rfl rfl <| O_if (dj := 11) rfl (fun ad => ?_) (fun ad => ?_)
  ·rw [if_pos ad] at H
   refine O_no rfl rfl rfl rfl <| O_no rfl rfl rfl rfl <| O_y rfl (Y_pick_t rfl rfl) <| Oa rfl rfl <| O_nil (ae _ _ _ (S1 rfl) (af true _ H hs))
  ·rw [if_neg ad] at H
   refine O_yes rfl rfl <| Om rfl rfl <| O_yes rfl rfl <| O_y rfl (Y_eql rfl rfl) <| O_y rfl (Y_pick_f rfl rfl) <| Oa rfl rfl <| O_nil (ae _ _ _ (S1 rfl) (af (decide (ab = 3)) _ H hs))

def label_Faults_2_bfn.f (x0 : Int) (y0_0 : Option Tbs) : Option Bool := (book_Tables_Kept.f y0_0 x0).bind fun ab => (some (!ab))
theorem label_Faults_2_bfn.c {w0 w : World} {ρ : Hp} {Γ : List Item} {pb0 : Nat} {w0_0 : Value} {y0_0 : Option Tbs} (hs : St w0 ρ ((.box pb0 29 ([w0_0])) :: Γ) w) {x0 : Int} (g0_0 : PtrR rTbs ρ w0_0 y0_0) {r : Bool} (H : label_Faults_2_bfn.f x0 y0_0 = some r) : CallsR Tryz.prog 40 [.int .i32 x0, .pointer (some ⟨pb0, 0, none⟩)] w (fun v w' => v = .bool r ∧ St w0 ρ ((.box pb0 29 ([w0_0])) :: Γ) w') := by
  rw [label_Faults_2_bfn.f] at H
  refine enter Tryz.func40 Tryz.ntmps40 rfl (by kernel_rfl) rfl <| Wr fun ae ac => Oa rfl rfl <| O_nil (ac _ _ <| Wr fun af ad => O_y rfl (Yb 0 ag29 hs rfl rfl rfl) <| Om rfl rfl ?_)
  obtain ⟨ab, aa, H⟩ := bnd H
  refine O_call rfl rfl (book_Tables_Kept.c hs g0_0 aa) (fun ag w hpost => ?_)
  obtain ⟨rfl, hs⟩ := hpost
  refine O_y rfl (Y_not rfl) <| Oa rfl rfl <| O_nil (ad _ _ <| W_ret ?_)
  obtain rfl := sinj H
  exact ret1 rfl rfl ⟨rfl, hs⟩

def slices_IndexFunc_rune_rune_dco.l1 : Nat → Option Tbs → List Int → Int → Option Int
  | 0, _, _, _ => none
  | ab + 1, y0_0, x0, aa => if aa < (x0.length : Int) then (if (0 : Int) ≤ aa ∧ aa < (x0.length : Int) then ((label_Faults_2_bfn.f (rd x0 aa) y0_0).bind fun ag => (if ag = true then (some aa) else ((slices_IndexFunc_rune_rune_dco.l1 ab y0_0 x0) (IntKind.i64.wrap (aa + 1))))) else none) else (some (-1))
def slices_IndexFunc_rune_rune_dco.f (x0 : List Int) (y0_0 : Option Tbs) : Option Int := slices_IndexFunc_rune_rune_dco.l1 K0 y0_0 x0 0
theorem slices_IndexFunc_rune_rune_dco.c {w0 w : World} {ρ : Hp} {Γ : List Item} {pb0 : Nat} {w0_0 : Value} {y0_0 : Option Tbs} (hs : St w0 ρ ((.box pb0 29 ([w0_0])) :: Γ) w) {v0 : Value} {x0 : List Int} (h0 : SlR (Rep.int .i32) ρ v0 x0) (g0_0 : PtrR rTbs ρ w0_0 y0_0) {r : Int} (H : slices_IndexFunc_rune_rune_dco.f x0 y0_0 = some r) : CallsR Tryz.prog 77 [v0, .func (.func 40) #[] #[.pointer (some ⟨pb0, 0, none⟩)]] w (fun v w' => v = .int .i64 r ∧ St w0 ρ ((.box pb0 29 ([w0_0])) :: Γ) w') := by
  rw [slices_IndexFunc_rune_rune_dco.f] at H
  refine enter Tryz.func77 Tryz.ntmps77 rfl (by kernel_rfl) rfl <| Wr fun ax ai => Oa rfl rfl <| O_nil (ai _ _ <| W_seq fun ay aj => Wr fun az ak => Om rfl rfl <| O_y rfl (Y_lenR un28 h0 rfl) <| Om rfl rfl <| O_nil (ak _ _ <| W_block fun a0 al a1 => W_loop (σ := Nat × Int) (fun (ab, aa) => [(0, v0), (1, .func (.func 40) #[] #[.pointer (some ⟨pb0, 0, none⟩)]), (7, .int .i64 (x0.length : Int)), (8, .int .i64 aa)]) (fun (ab, aa) w => slices_IndexFunc_rune_rune_dco.l1 ab y0_0 x0 aa = some r ∧ St w0 ρ ((.box pb0 29 ([w0_0])) :: Γ) w) (fun s => s.1) (K0, 0) (S4 rfl rfl rfl rfl) (Ai H hs) ?_))
  rintro ⟨ab, aa⟩ w a2 ⟨H, hs⟩ ac
  show W _ _ _ _ _ _ [(0, v0), (1, .func (.func 40) #[] #[.pointer (some ⟨pb0, 0, none⟩)]), (7, .int .i64 (x0.length : Int)), (8, .int .i64 aa)] w
  cases ab with
  | zero => rw [slices_IndexFunc_rune_rune_dco.l1] at H; cases H
  | succ ab =>
  rw [slices_IndexFunc_rune_rune_dco.l1] at H
  refine Wr fun a3 am => O_y rfl (Y_lss rfl rfl) <| O_nil (am _ _ <| W_seq fun a4 an => W_if rfl (fun ad => ?_) (fun ad => ?_))
  ·rw [if_pos ad] at H
   refine W_skip (an _ _ <| W_seq fun a5 ao => W_block fun a6 a7 a8 => Wr fun a9 ap => Om rfl rfl <| Oa rfl rfl <| O_nil (ap _ _ <| Wr fun ba aq => Om rfl rfl <| Om rfl rfl <| Om rfl rfl ?_))
   obtain ⟨ah, H⟩ := gd H
   obtain ⟨bb, bc, ar, au⟩ := h0.ix el28 ah.1 ah.2
   refine O_y rfl (au rfl rfl) <| O_y rfl (Y_load ag21 rfl (hs.see ar.int)) ?_
   obtain ⟨ag, ae, H⟩ := bnd H
   refine O_callv rfl rfl rfl (label_Faults_2_bfn.c hs g0_0 ae) (fun bd w hpost => ?_)
   obtain ⟨rfl, hs⟩ := hpost
   refine O_nil (aq _ _ <| W_cond rfl (fun af => ?_) (fun af => ?_))
   ·rw [if_pos af] at H
    refine Wr fun be av => Om rfl rfl <| Oa rfl rfl <| O_nil (av _ _ <| W.weak [(4, _)] (S1 rfl) <| W_ret ?_)
    obtain rfl := sinj H
    exact ret1 rfl rfl ⟨rfl, hs⟩
   ·rw [if_neg (bft af)] at H
    refine W_skip (ao _ _ <| W_region <| O_y rfl (Y_add rfl rfl) <| Om rfl rfl <| O_nil (ac (ab, (IntKind.i64.wrap (aa + 1))) _ _ (S4 rfl rfl rfl rfl) (Ai H hs) (Nat.lt_succ_self _)))
  ·rw [if_neg ad] at H
   refine W_exit (al _ _ (aj _ _ <| Wr fun bf aw => Oa rfl rfl <| O_nil (aw _ _ <| W_ret ?_)))
   obtain rfl := sinj H
   exact ret1 rfl rfl ⟨rfl, hs⟩

def slices_ContainsFunc_rune_rune_dco.f (x0 : List Int) (y0_0 : Option Tbs) : Option Bool := (slices_IndexFunc_rune_rune_dco.f x0 y0_0).bind fun ab => (some (decide (0 ≤ ab)))
theorem slices_ContainsFunc_rune_rune_dco.c {w0 w : World} {ρ : Hp} {Γ : List Item} {pb0 : Nat} {w0_0 : Value} {y0_0 : Option Tbs} (hs : St w0 ρ ((.box pb0 29 ([w0_0])) :: Γ) w) {v0 : Value} {x0 : List Int} (h0 : SlR (Rep.int .i32) ρ v0 x0) (g0_0 : PtrR rTbs ρ w0_0 y0_0) {r : Bool} (H : slices_ContainsFunc_rune_rune_dco.f x0 y0_0 = some r) : CallsR Tryz.prog 39 [v0, .func (.func 40) #[] #[.pointer (some ⟨pb0, 0, none⟩)]] w (fun v w' => v = .bool r ∧ St w0 ρ ((.box pb0 29 ([w0_0])) :: Γ) w') := by
  rw [slices_ContainsFunc_rune_rune_dco.f] at H
  refine enter Tryz.func39 Tryz.ntmps39 rfl (by kernel_rfl) rfl <| Wr fun ae ac => Oa rfl rfl <| O_nil (ac _ _ <| Wr fun af ad => Om rfl rfl <| Om rfl rfl ?_)
  obtain ⟨ab, aa, H⟩ := bnd H
  refine O_call rfl rfl (slices_IndexFunc_rune_rune_dco.c hs h0 g0_0 aa) (fun ag w hpost => ?_)
  obtain ⟨rfl, hs⟩ := hpost
  refine O_y rfl (Y_geq rfl rfl) <| Oa rfl rfl <| O_nil (ad _ _ <| W_ret ?_)
  obtain rfl := sinj H
  exact ret1 rfl rfl ⟨rfl, hs⟩

def joiner_special.j1 (aa : Bool) : Option Bool := some aa
def joiner_special.f (x0 : Int) : Option Bool := if x0 = 8204 then (joiner_special.j1 true) else (joiner_special.j1 (decide (x0 = 8205)))
theorem joiner_special.c {w0 w : World} {ρ : Hp} {Γ : List Item} (hs : St w0 ρ (Γ) w) {x0 : Int} {r : Bool} (H : joiner_special.f x0 = some r) : CallsR Tryz.prog 129 [.int .i32 x0] w (fun v w' => v = .bool r ∧ St w0 ρ Γ w') := by
  rw [joiner_special.f] at H
  refine enter Tryz.func129 Tryz.ntmps129 rfl (by kernel_rfl) rfl <| Wr fun ah ae => Oa rfl rfl <| O_nil (ae _ _ <| W_seqj fun af ag ac => ?_)
  have ad : ∀ (aa : Bool) (w : World), joiner_special.j1 aa = some r → St w0 ρ (Γ) w → af [(2, .bool aa)] w := by
   intro aa w H hs
   rw [joiner_special.j1] at H
   refine ag _ _ <| W_ret ?_
   obtain rfl := sinj H
   exact ret1 rfl rfl ⟨rfl, hs⟩
  refine W_region <| Om rfl rfl <| O_y rfl (Y_eql rfl rfl) <| Om rfl rfl <| O_if (dj := 5) rfl (fun ab => ?_) (fun ab => ?_)
  ·rw [if_pos ab] at H
   refine O_no rfl rfl rfl rfl <| O_no rfl rfl rfl rfl <| O_y rfl (Y_pick_t rfl rfl) <| Oa rfl rfl <| O_nil (ac _ _ _ (S1 rfl) (ad true _ H hs))
  ·rw [if_neg ab] at H
   refine O_yes rfl rfl <| Om rfl rfl <| O_yes rfl rfl <| O_y rfl (Y_eql rfl rfl) <| O_y rfl (Y_pick_f rfl rfl) <| Oa rfl rfl <| O_nil (ac _ _ _ (S1 rfl) (ad (decide (x0 = 8205)) _ H hs))

def joiner_Virama.f (x0 : Option Tbs) (x1 : Int) : Option Bool := (book_Tables_Class.f x0 x1).bind fun ab => (some (decide (ab = 9)))
theorem joiner_Virama.c {w0 w : World} {ρ : Hp} {Γ : List Item} (hs : St w0 ρ (Γ) w) {v0 : Value} {x0 : Option Tbs} (h0 : PtrR rTbs ρ v0 x0) {x1 : Int} {r : Bool} (H : joiner_Virama.f x0 x1 = some r) : CallsR Tryz.prog 130 [v0, .int .i32 x1] w (fun v w' => v = .bool r ∧ St w0 ρ Γ w') := by
  rw [joiner_Virama.f] at H
  refine enter Tryz.func130 Tryz.ntmps130 rfl (by kernel_rfl) rfl <| Wr fun ae ac => Oa rfl rfl <| O_nil (ac _ _ <| Wr fun af ad => Om rfl rfl <| Om rfl rfl ?_)
  obtain ⟨ab, aa, H⟩ := bnd H
  refine O_call rfl rfl (book_Tables_Class.c hs h0 aa) (fun ag w hpost => ?_)
  obtain ⟨rfl, hs⟩ := hpost
  refine O_y rfl (Y_eql rfl rfl) <| Oa rfl rfl <| O_nil (ad _ _ <| W_ret ?_)
  obtain rfl := sinj H
  exact ret1 rfl rfl ⟨rfl, hs⟩

def book_Tables_Join.f (x0 : Option Tbs) (x1 : Int) : Option Int := if ((x0).isNone) = true then (some 0) else (if x0.isSome = true then ((stage_Table_Look.f (((x0).getD default).join) x1).bind fun aa => (some aa)) else none)
theorem book_Tables_Join.c {w0 w : World} {ρ : Hp} {Γ : List Item} (hs : St w0 ρ (Γ) w) {v0 : Value} {x0 : Option Tbs} (h0 : PtrR rTbs ρ v0 x0) {x1 r : Int} (H : book_Tables_Join.f x0 x1 = some r) : CallsR Tryz.prog 163 [v0, .int .i32 x1] w (fun v w' => v = .int .i64 r ∧ St w0 ρ Γ w') := by
  rw [book_Tables_Join.f] at H
  refine enter Tryz.func163 Tryz.ntmps163 rfl (by kernel_rfl) rfl <| Wr fun a0 af => Oa rfl rfl <| O_nil (af _ _ <| W_seq fun a1 ag => Wr fun a2 ah => Om rfl rfl <| O_y rfl ((h0.eqn un29 rfl rfl)) <| O_nil (ah _ _ <| W_cond rfl (fun ac => ?_) (fun ac => ?_)))
  ·rw [if_pos ac] at H
   refine Wr fun a3 ai => Oa rfl rfl <| O_nil (ai _ _ <| W_ret ?_)
   obtain rfl := sinj H
   exact ret1 rfl rfl ⟨rfl, hs⟩
  ·rw [if_neg (bft ac)] at H
   refine W_skip (ag _ _ <| Wr fun a4 aj => Om rfl rfl ?_)
   obtain ⟨ak, H⟩ := gd H
   obtain ⟨a5, ad, al⟩ := h0.open ak
   obtain ⟨_, ⟨a6, a7, a8, a9, ba, bb, bc, bd, be, bf, bg, bh, bi, bj, bk, bl, bm, am, an, ao, ap, aq, rfl, bn, bo, bp, bq, br, bs, bt, bu, bv, bw, bx, bz, b0, b1, ar, b2, b3, au, av, aw, ax, ay⟩, ae⟩ := al
   refine O_y rfl (Y_nilp (congrArg some ad)) <| O_y rfl (Y_field fo114_4 rfl) <| O_y rfl (Y_load ag104 rfl (hs.see (ae 14 _ rfl))) <| Om rfl rfl ?_
   obtain ⟨aa, ab, H⟩ := bnd H
   refine O_call rfl rfl (stage_Table_Look.c hs ar ab) (fun az w hpost => ?_)
   obtain ⟨rfl, hs⟩ := hpost
   refine Oa rfl rfl <| O_nil (aj _ _ <| W_ret ?_)
   obtain rfl := sinj H
   exact ret1 rfl rfl ⟨rfl, hs⟩

def joiner_ahead.l1 : Nat → Option Tbs → List Int → Int → Option Int
  | 0, _, _, _ => none
  | ab + 1, x0, x1, aa => if 0 ≤ aa then (if (0 : Int) ≤ aa ∧ aa < (x1.length : Int) then ((book_Tables_Join.f x0 (rd x1 aa)).bind fun ad => (if ad ≠ 4 then (some ad) else ((joiner_ahead.l1 ab x0 x1) (IntKind.i64.wrap (aa - 1))))) else none) else (some 0)
def joiner_ahead.f (x0 : Option Tbs) (x1 : List Int) (x2 : Int) : Option Int := joiner_ahead.l1 K0 x0 x1 (IntKind.i64.wrap (x2 - 1))
theorem joiner_ahead.c {w0 w : World} {ρ : Hp} {Γ : List Item} (hs : St w0 ρ (Γ) w) {v0 : Value} {x0 : Option Tbs} (h0 : PtrR rTbs ρ v0 x0) {v1 : Value} {x1 : List Int} (h1 : SlR (Rep.int .i32) ρ v1 x1) {x2 r : Int} (H : joiner_ahead.f x0 x1 x2 = some r) : CallsR Tryz.prog 131 [v0, v1, .int .i64 x2] w (fun v w' => v = .int .i64 r ∧ St w0 ρ Γ w') := by
  rw [joiner_ahead.f] at H
  refine enter Tryz.func131 Tryz.ntmps131 rfl (by kernel_rfl) rfl <| Wr fun ax ai => Oa rfl rfl <| O_nil (ai _ _ <| W_seq fun ay aj => Wr fun az ak => Om rfl rfl <| O_y rfl (Y_sub rfl rfl) <| Oa rfl rfl <| O_nil (ak _ _ <| W_block fun a0 al a1 => W_loop (σ := Nat × Int) (fun (ab, aa) => [(0, v0), (1, v1), (2, .int .i64 aa)]) (fun (ab, aa) w => joiner_ahead.l1 ab x0 x1 aa = some r ∧ St w0 ρ (Γ) w) (fun s => s.1) (K0, (IntKind.i64.wrap (x2 - 1))) (S3 rfl rfl rfl) (Ai H hs) ?_))
  rintro ⟨ab, aa⟩ w a2 ⟨H, hs⟩ ac
  show W _ _ _ _ _ _ [(0, v0), (1, v1), (2, .int .i64 aa)] w
  cases ab with
  | zero => rw [joiner_ahead.l1] at H; cases H
  | succ ab =>
  rw [joiner_ahead.l1] at H
  refine W_seq fun a3 am => Wr fun a4 an => Om rfl rfl <| O_y rfl (Y_geq rfl rfl) <| O_nil (an _ _ <| W_if rfl (fun ae => ?_) (fun ae => ?_))
  ·rw [if_pos ae] at H
   refine W_skip (am _ _ <| W_seq fun a5 ao => W_block fun a6 a7 a8 => Wr fun a9 ap => Om rfl rfl <| Om rfl rfl <| Om rfl rfl ?_)
   obtain ⟨ah, H⟩ := gd H
   obtain ⟨ba, bb, aq, ar⟩ := h1.ix el28 ah.1 ah.2
   refine O_y rfl (ar rfl rfl) <| O_y rfl (Y_load ag21 rfl (hs.see aq.int)) ?_
   obtain ⟨ad, af, H⟩ := bnd H
   refine O_call rfl rfl (book_Tables_Join.c hs h0 af) (fun bc w hpost => ?_)
   obtain ⟨rfl, hs⟩ := hpost
   refine Oa rfl rfl <| O_nil (ap _ _ <| Wr fun bd au => Om rfl rfl <| O_y rfl (Y_neq rfl rfl) <| O_nil (au _ _ <| W_if rfl (fun ag => ?_) (fun ag => ?_)))
   ·rw [if_pos ag] at H
    refine Wr fun be av => Om rfl rfl <| Oa rfl rfl <| O_nil (av _ _ <| W.weak [(6, _)] (S1 rfl) <| W_ret ?_)
    obtain rfl := sinj H
    exact ret1 rfl rfl ⟨rfl, hs⟩
   ·rw [if_neg ag] at H
    refine W_skip (ao _ _ <| W_region <| Om rfl rfl <| O_y rfl (Y_sub rfl rfl) <| Oa rfl rfl <| O_nil (ac (ab, (IntKind.i64.wrap (aa - 1))) _ _ (S3 rfl rfl rfl) (Ai H hs) (Nat.lt_succ_self _)))
  ·rw [if_neg ae] at H
   refine W_exit (al _ _ (aj _ _ <| Wr fun bf aw => Oa rfl rfl <| O_nil (aw _ _ <| W_ret ?_)))
   obtain rfl := sinj H
   exact ret1 rfl rfl ⟨rfl, hs⟩

def joiner_behind.l1 : Nat → Option Tbs → List Int → Int → Option Int
  | 0, _, _, _ => none
  | ab + 1, x0, x1, aa => if aa < (x1.length : Int) then (if (0 : Int) ≤ aa ∧ aa < (x1.length : Int) then ((book_Tables_Join.f x0 (rd x1 aa)).bind fun ad => (if ad ≠ 4 then (some ad) else ((joiner_behind.l1 ab x0 x1) (IntKind.i64.wrap (aa + 1))))) else none) else (some 0)
def joiner_behind.f (x0 : Option Tbs) (x1 : List Int) (x2 : Int) : Option Int := joiner_behind.l1 K0 x0 x1 (IntKind.i64.wrap (x2 + 1))
theorem joiner_behind.c {w0 w : World} {ρ : Hp} {Γ : List Item} (hs : St w0 ρ (Γ) w) {v0 : Value} {x0 : Option Tbs} (h0 : PtrR rTbs ρ v0 x0) {v1 : Value} {x1 : List Int} (h1 : SlR (Rep.int .i32) ρ v1 x1) {x2 r : Int} (H : joiner_behind.f x0 x1 x2 = some r) : CallsR Tryz.prog 132 [v0, v1, .int .i64 x2] w (fun v w' => v = .int .i64 r ∧ St w0 ρ Γ w') := by
  rw [joiner_behind.f] at H
  refine enter Tryz.func132 Tryz.ntmps132 rfl (by kernel_rfl) rfl <| Wr fun ax ai => Oa rfl rfl <| O_nil (ai _ _ <| W_seq fun ay aj => Wr fun az ak => Om rfl rfl <| O_y rfl (Y_add rfl rfl) <| Oa rfl rfl <| O_nil (ak _ _ <| W_block fun a0 al a1 => W_loop (σ := Nat × Int) (fun (ab, aa) => [(0, v0), (1, v1), (2, .int .i64 aa)]) (fun (ab, aa) w => joiner_behind.l1 ab x0 x1 aa = some r ∧ St w0 ρ (Γ) w) (fun s => s.1) (K0, (IntKind.i64.wrap (x2 + 1))) (S3 rfl rfl rfl) (Ai H hs) ?_))
  rintro ⟨ab, aa⟩ w a2 ⟨H, hs⟩ ac
  show W _ _ _ _ _ _ [(0, v0), (1, v1), (2, .int .i64 aa)] w
  cases ab with
  | zero => rw [joiner_behind.l1] at H; cases H
  | succ ab =>
  rw [joiner_behind.l1] at H
  refine W_seq fun a3 am => Wr fun a4 an => Om rfl rfl <| Om rfl rfl <| O_y rfl (Y_lenR un28 h1 rfl) <| O_y rfl (Y_lss rfl rfl) <| O_nil (an _ _ <| W_if rfl (fun ae => ?_) (fun ae => ?_))
  ·rw [if_pos ae] at H
   refine W_skip (am _ _ <| W_seq fun a5 ao => W_block fun a6 a7 a8 => Wr fun a9 ap => Om rfl rfl <| Om rfl rfl <| Om rfl rfl ?_)
   obtain ⟨ah, H⟩ := gd H
   obtain ⟨ba, bb, aq, ar⟩ := h1.ix el28 ah.1 ah.2
   refine O_y rfl (ar rfl rfl) <| O_y rfl (Y_load ag21 rfl (hs.see aq.int)) ?_
   obtain ⟨ad, af, H⟩ := bnd H
   refine O_call rfl rfl (book_Tables_Join.c hs h0 af) (fun bc w hpost => ?_)
   obtain ⟨rfl, hs⟩ := hpost
   refine Oa rfl rfl <| O_nil (ap _ _ <| Wr fun bd au => Om rfl rfl <| O_y rfl (Y_neq rfl rfl) <| O_nil (au _ _ <| W.weak [(0, _), (1, _), (2, _), (7, _), (23, _)] (by repeat first | exact Sub.nil | refine Sub.cons rfl ?_) ?_))
   refine W_if rfl (fun ag => ?_) (fun ag => ?_)
   ·rw [if_pos ag] at H
    refine Wr fun be av => Om rfl rfl <| Oa rfl rfl <| O_nil (av _ _ <| W_ret ?_)
    obtain rfl := sinj H
    exact ret1 rfl rfl ⟨rfl, hs⟩
   ·rw [if_neg ag] at H
    refine W_skip (ao _ _ <| W_region <| Om rfl rfl <| O_y rfl (Y_add rfl rfl) <| Oa rfl rfl <| O_nil (ac (ab, (IntKind.i64.wrap (aa + 1))) _ _ (S3 rfl rfl rfl) (Ai H hs) (Nat.lt_succ_self _)))
  ·rw [if_neg ae] at H
   refine W_exit (al _ _ (aj _ _ <| Wr fun bf aw => Oa rfl rfl <| O_nil (aw _ _ <| W_ret ?_)))
   obtain rfl := sinj H
   exact ret1 rfl rfl ⟨rfl, hs⟩

def joiner_Allowed.j1 (aa : Bool) : Option Bool := some aa
def joiner_Allowed.j2 (x0 : Option Tbs) (x1 : List Int) (x2 : Int) (ab : Bool) : Option Bool := if ab = true then (some true) else (if (rd x1 x2) = 8205 then (some false) else ((joiner_ahead.f x0 x1 x2).bind fun ar => ((joiner_behind.f x0 x1 x2).bind fun af => (if ar = 1 then (if af = 2 then (joiner_Allowed.j1 true) else (joiner_Allowed.j1 (decide (af = 3)))) else (if ar = 3 then (if af = 2 then (joiner_Allowed.j1 true) else (joiner_Allowed.j1 (decide (af = 3)))) else (joiner_Allowed.j1 false))))))
def joiner_Allowed.j3 (x0 : Option Tbs) (x1 : List Int) (x2 : Int) (ac : Bool) : Option Bool := if ac = true then (some false) else (if (0 : Int) ≤ x2 ∧ x2 < (x1.length : Int) then ((joiner_special.f (rd x1 x2)).bind fun a4 => (if (!a4) = true then (some true) else (if 0 < x2 then (if (0 : Int) ≤ IntKind.i64.wrap (x2 - 1) ∧ IntKind.i64.wrap (x2 - 1) < (x1.length : Int) then ((joiner_Virama.f x0 (rd x1 (IntKind.i64.wrap (x2 - 1)))).bind fun ag => (joiner_Allowed.j2 x0 x1 x2 ag)) else none) else (joiner_Allowed.j2 x0 x1 x2 false)))) else none)
def joiner_Allowed.f (x0 : Option Tbs) (x1 : List Int) (x2 : Int) : Option Bool := if x2 < 0 then (joiner_Allowed.j3 x0 x1 x2 true) else (joiner_Allowed.j3 x0 x1 x2 (decide ((x1.length : Int) ≤ x2)))
theorem joiner_Allowed.c {w0 w : World} {ρ : Hp} {Γ : List Item} (hs : St w0 ρ (Γ) w) {v0 : Value} {x0 : Option Tbs} (h0 : PtrR rTbs ρ v0 x0) {v1 : Value} {x1 : List Int} (h1 : SlR (Rep.int .i32) ρ v1 x1) {x2 : Int} {r : Bool} (H : joiner_Allowed.f x0 x1 x2 = some r) : CallsR Tryz.prog 78 [v0, v1, .int .i64 x2] w (fun v w' => v = .bool r ∧ St w0 ρ Γ w') := by
  rw [joiner_Allowed.f] at H
  refine enter Tryz.func78 Tryz.ntmps78 rfl (by kernel_rfl) rfl <| Wr fun bu a9 => Oa rfl rfl <| O_nil (a9 _ _ <| W_seq fun bv ba => W_block fun bw bx bz => W_seqj fun bb bc a5 => ?_)
  have a6 : ∀ (ac : Bool) (w : World), joiner_Allowed.j3 x0 x1 x2 ac = some r → St w0 ρ (Γ) w → bb [(0, v0), (1, v1), (2, .int .i64 x2), (9, .bool ac)] w := by
   intro ac w H hs
   rw [joiner_Allowed.j3] at H
   refine bc _ _ <| W_cond rfl (fun au => ?_) (fun au => ?_)
   ·rw [if_pos au] at H
    refine Wr fun b0 bd => Oa rfl rfl <| O_nil (bd _ _ <| W_ret ?_)
    obtain rfl := sinj H
    exact ret1 rfl rfl ⟨rfl, hs⟩
   ·rw [if_neg (bft au)] at H
    refine Wr fun b1 be => Om rfl rfl <| Om rfl rfl ?_
    obtain ⟨aq, H⟩ := gd H
    obtain ⟨b2, b3, bf, bg⟩ := h1.ix el28 aq.1 aq.2
    refine O_y rfl (bg rfl rfl) <| O_y rfl (Y_load ag21 rfl (hs.see bf.int)) ?_
    obtain ⟨a4, av, H⟩ := bnd H
    refine O_call rfl rfl (joiner_special.c hs av) (fun b4 w hpost => ?_)
    obtain ⟨rfl, hs⟩ := hpost
    refine O_y rfl (Y_not rfl) <| Oa rfl rfl <| O_nil (be _ _ <| W_cond rfl (fun aw => ?_) (fun aw => ?_))
    ·rw [if_pos aw] at H
     refine Wr fun b5 bh => Oa rfl rfl <| O_nil (bh _ _ <| W_ret ?_)
     obtain rfl := sinj H
     exact ret1 rfl rfl ⟨rfl, hs⟩
    ·rw [if_neg (bft aw)] at H
     refine W_seqj fun bi bj a7 => ?_
     have a8 : ∀ (ab : Bool) (w : World), joiner_Allowed.j2 x0 x1 x2 ab = some r → St w0 ρ (Γ) w → bi [(0, v0), (1, v1), (2, .int .i64 x2), (25, .bool ab)] w := by
      intro ab w H hs
      rw [joiner_Allowed.j2] at H
      refine bj _ _ <| W_cond rfl (fun ax => ?_) (fun ax => ?_)
      ·rw [if_pos ax] at H
       refine Wr fun b6 bk => Oa rfl rfl <| O_nil (bk _ _ <| W_ret ?_)
       obtain rfl := sinj H
       exact ret1 rfl rfl ⟨rfl, hs⟩
      ·rw [if_neg (bft ax)] at H
       refine Wr fun b7 bl => Om rfl rfl <| Om rfl rfl ?_
       obtain ⟨b8, b9, bm, bn⟩ := h1.ix el28 aq.1 aq.2
       refine O_y rfl (bn rfl rfl) <| O_y rfl (Y_load ag21 rfl (hs.see bm.int)) <| O_y rfl (Y_eql rfl rfl) <| Oa rfl rfl <| O_nil (bl _ _ <| W_if rfl (fun ay => ?_) (fun ay => ?_))
       ·rw [if_pos ay] at H
        refine Wr fun ca bo => Oa rfl rfl <| O_nil (bo _ _ <| W_ret ?_)
        obtain rfl := sinj H
        exact ret1 rfl rfl ⟨rfl, hs⟩
       ·rw [if_neg ay] at H
        refine W_skip (ba _ _ <| Wr fun cb bp => Om rfl rfl <| Om rfl rfl <| Om rfl rfl ?_)
        obtain ⟨ar, az, H⟩ := bnd H
        refine O_call rfl rfl (joiner_ahead.c hs h0 h1 az) (fun cc w hpost => ?_)
        obtain ⟨rfl, hs⟩ := hpost
        refine Om rfl rfl <| Om rfl rfl <| Om rfl rfl ?_
        obtain ⟨af, an, H⟩ := bnd H
        refine O_call rfl rfl (joiner_behind.c hs h0 h1 an) (fun bq w hpost => ?_)
        obtain ⟨rfl, hs⟩ := hpost
        refine Oa rfl rfl <| Oa rfl rfl <| O_nil (bp _ _ <| W.weak [(7, _), (8, _)] (S2 rfl rfl) <| W_seqj fun a0 a1 ad => ?_)
        have ae : ∀ (aa : Bool) (w : World), joiner_Allowed.j1 aa = some r → St w0 ρ (Γ) w → a0 [(6, .bool aa)] w := by
         intro aa w H hs
         rw [joiner_Allowed.j1] at H
         refine a1 _ _ <| W_ret ?_
         obtain rfl := sinj H
         exact ret1 rfl rfl ⟨rfl, hs⟩
        refine W_region <| Om rfl rfl <| O_y rfl (Y_eql rfl rfl) <| Om rfl rfl <| O_if (dj := 53) rfl (fun ah => ?_) (fun ah => ?_)
        ·rw [if_pos ah] at H
         refine O_no rfl rfl rfl rfl <| O_no rfl rfl rfl rfl <| O_y rfl (Y_pick_t rfl rfl) <| Om rfl rfl <| O_yes rfl rfl <| Om rfl rfl <| O_yes rfl rfl <| O_y rfl (Y_eql rfl rfl) <| O_yes rfl rfl <| Om rfl rfl <| O_if (dj := 60) rfl (fun ai => ?_) (fun ai => ?_)
         ·rw [if_pos ai] at H
          refine O_no rfl rfl rfl rfl <| O_no rfl rfl rfl rfl <| O_yes rfl rfl <| O_y rfl (Y_pick_t rfl rfl) <| O_y rfl (Y_pick_t rfl rfl) <| Oa rfl rfl <| O_nil (ad _ _ _ (S1 rfl) (ae true _ H hs))
         ·rw [if_neg ai] at H
          refine O_yes rfl rfl <| Om rfl rfl <| O_yes rfl rfl <| O_y rfl (Y_eql rfl rfl) <| O_yes rfl rfl <| O_y rfl (Y_pick_f rfl rfl) <| O_y rfl (Y_pick_t rfl rfl) <| Oa rfl rfl <| O_nil (ad _ _ _ (S1 rfl) (ae (decide (af = 3)) _ H hs))
        ·rw [if_neg ah] at H
         refine O_yes rfl rfl <| Om rfl rfl <| O_yes rfl rfl <| O_y rfl (Y_eql rfl rfl) <| O_y rfl (Y_pick_f rfl rfl) <| Om rfl rfl <| O_if (dj := 57) rfl (fun aj => ?_) (fun aj => ?_)
         ·rw [if_pos aj] at H
          refine O_yes rfl rfl <| Om rfl rfl <| O_yes rfl rfl <| O_y rfl (Y_eql rfl rfl) <| O_yes rfl rfl <| Om rfl rfl <| O_if (dj := 60) rfl (fun ak => ?_) (fun ak => ?_)
          ·rw [if_pos ak] at H
           refine O_no rfl rfl rfl rfl <| O_no rfl rfl rfl rfl <| O_yes rfl rfl <| O_y rfl (Y_pick_t rfl rfl) <| O_y rfl (Y_pick_t rfl rfl) <| Oa rfl rfl <| O_nil (ad _ _ _ (S1 rfl) (ae true _ H hs))
          ·rw [if_neg ak] at H
           refine O_yes rfl rfl <| Om rfl rfl <| O_yes rfl rfl <| O_y rfl (Y_eql rfl rfl) <| O_yes rfl rfl <| O_y rfl (Y_pick_f rfl rfl) <| O_y rfl (Y_pick_t rfl rfl) <| Oa rfl rfl <| O_nil (ad _ _ _ (S1 rfl) (ae (decide (af = 3)) _ H hs))
         ·rw [if_neg aj] at H
          refine O_no rfl rfl rfl rfl <| O_no rfl rfl rfl rfl <| O_no rfl rfl rfl rfl <| O_nou rfl rfl rfl <| O_nou rfl rfl rfl <| O_no rfl rfl rfl rfl <| O_y rfl (Y_pick_f rfl rfl) <| Oa rfl rfl <| O_nil (ad _ _ _ (S1 rfl) (ae false _ H hs))
     refine W_region <| Om rfl rfl <| O_y rfl (Y_gtr rfl rfl) <| Om rfl rfl <| O_if (dj := 28) rfl (fun al => ?_) (fun al => ?_)
     ·rw [if_pos al] at H
      refine O_yes rfl rfl <| Om rfl rfl <| O_yes rfl rfl <| Om rfl rfl <| O_yes rfl rfl <| Om rfl rfl <| O_yes rfl rfl <| O_y rfl (Y_sub rfl rfl) ?_
      obtain ⟨ao, H⟩ := gd H
      obtain ⟨br, bs, a2, a3⟩ := h1.ix el28 ao.1 ao.2
      refine O_yes rfl rfl <| O_y rfl (a3 rfl rfl) <| O_yes rfl rfl <| O_y rfl (Y_load ag21 rfl (hs.see a2.int)) <| O_yes rfl rfl ?_
      obtain ⟨ag, ap, H⟩ := bnd H
      refine O_call rfl rfl (joiner_Virama.c hs h0 ap) (fun bt w hpost => ?_)
      obtain ⟨rfl, hs⟩ := hpost
      refine O_y rfl (Y_pick_t rfl rfl) <| Oa rfl rfl <| O_nil (a7 _ _ _ (S4 rfl rfl rfl rfl) (a8 ag _ H hs))
     ·rw [if_neg al] at H
      refine O_no rfl rfl rfl rfl <| O_no rfl rfl rfl rfl <| O_no rfl rfl rfl rfl <| O_no rfl rfl rfl rfl <| O_no rfl rfl rfl rfl <| O_no rfl rfl rfl rfl <| O_no rfl rfl rfl rfl <| O_y rfl (Y_pick_f rfl rfl) <| Oa rfl rfl <| O_nil (a7 _ _ _ (S4 rfl rfl rfl rfl) (a8 false _ H hs))
  refine W_region <| Om rfl rfl <| O_y rfl (Y_lss rfl rfl) <| Om rfl rfl <| O_if (dj := 12) rfl (fun am => ?_) (fun am => ?_)
  ·rw [if_pos am] at H
   refine O_no rfl rfl rfl rfl <| O_no rfl rfl rfl rfl <| O_no rfl rfl rfl rfl <| O_no rfl rfl rfl rfl <| O_y rfl (Y_pick_t rfl rfl) <| Oa rfl rfl <| O_nil (a5 _ _ _ (S4 rfl rfl rfl rfl) (a6 true _ H hs))
  ·rw [if_neg am] at H
   refine O_yes rfl rfl <| Om rfl rfl <| O_yes rfl rfl <| Om rfl rfl <| O_yes rfl rfl <| O_y rfl (Y_lenR un28 h1 rfl) <| O_yes rfl rfl <| O_y rfl (Y_geq rfl rfl) <| O_y rfl (Y_pick_f rfl rfl) <| Oa rfl rfl <| O_nil (a5 _ _ _ (S4 rfl rfl rfl rfl) (a6 (decide ((x1.length : Int) ≤ x2)) _ H hs))

def joiner_Check.l1 : Nat → Option Tbs → List Int → Int → Option Int
  | 0, _, _, _ => none
  | ab + 1, x0, x1, aa => if aa < (x1.length : Int) then ((joiner_Allowed.f x0 x1 aa).bind fun ag => (if (!ag) = true then (some aa) else ((joiner_Check.l1 ab x0 x1) (IntKind.i64.wrap (aa + 1))))) else (some (-1))
def joiner_Check.f (x0 : Option Tbs) (x1 : List Int) : Option Int := joiner_Check.l1 K0 x0 x1 0
theorem joiner_Check.c {w0 w : World} {ρ : Hp} {Γ : List Item} (hs : St w0 ρ (Γ) w) {v0 : Value} {x0 : Option Tbs} (h0 : PtrR rTbs ρ v0 x0) {v1 : Value} {x1 : List Int} (h1 : SlR (Rep.int .i32) ρ v1 x1) {r : Int} (H : joiner_Check.f x0 x1 = some r) : CallsR Tryz.prog 41 [v0, v1] w (fun v w' => v = .int .i64 r ∧ St w0 ρ Γ w') := by
  rw [joiner_Check.f] at H
  refine enter Tryz.func41 Tryz.ntmps41 rfl (by kernel_rfl) rfl <| Wr fun au ah => Oa rfl rfl <| O_nil (ah _ _ <| W_seq fun av ai => Wr fun aw aj => Om rfl rfl <| O_y rfl (Y_lenR un28 h1 rfl) <| Om rfl rfl <| O_nil (aj _ _ <| W_block fun ax ak ay => W_loop (σ := Nat × Int) (fun (ab, aa) => [(0, v0), (1, v1), (7, .int .i64 (x1.length : Int)), (8, .int .i64 aa)]) (fun (ab, aa) w => joiner_Check.l1 ab x0 x1 aa = some r ∧ St w0 ρ (Γ) w) (fun s => s.1) (K0, 0) (S4 rfl rfl rfl rfl) (Ai H hs) ?_))
  rintro ⟨ab, aa⟩ w az ⟨H, hs⟩ ac
  show W _ _ _ _ _ _ [(0, v0), (1, v1), (7, .int .i64 (x1.length : Int)), (8, .int .i64 aa)] w
  cases ab with
  | zero => rw [joiner_Check.l1] at H; cases H
  | succ ab =>
  rw [joiner_Check.l1] at H
  refine Wr fun a0 al => O_y rfl (Y_lss rfl rfl) <| O_nil (al _ _ <| W_seq fun a1 am => W_if rfl (fun ad => ?_) (fun ad => ?_))
  ·rw [if_pos ad] at H
   refine W_skip (am _ _ <| W_seq fun a2 an => W_block fun a3 a4 a5 => Wr fun a6 ao => Om rfl rfl <| Oa rfl rfl <| O_nil (ao _ _ <| Wr fun a7 ap => Om rfl rfl <| Om rfl rfl <| Om rfl rfl ?_))
   obtain ⟨ag, ae, H⟩ := bnd H
   refine O_call rfl rfl (joiner_Allowed.c hs h0 h1 ae) (fun a8 w hpost => ?_)
   obtain ⟨rfl, hs⟩ := hpost
   refine O_y rfl (Y_not rfl) <| O_nil (ap _ _ <| W_cond rfl (fun af => ?_) (fun af => ?_))
   ·rw [if_pos af] at H
    refine Wr fun a9 aq => Om rfl rfl <| Oa rfl rfl <| O_nil (aq _ _ <| W_ret ?_)
    obtain rfl := sinj H
    exact ret1 rfl rfl ⟨rfl, hs⟩
   ·rw [if_neg (bft af)] at H
    refine W_skip (an _ _ <| W_region <| O_y rfl (Y_add rfl rfl) <| Om rfl rfl <| O_nil (ac (ab, (IntKind.i64.wrap (aa + 1))) _ _ (S4 rfl rfl rfl rfl) (Ai H hs) (Nat.lt_succ_self _)))
  ·rw [if_neg ad] at H
   refine W_exit (ak _ _ (ai _ _ <| Wr fun ba ar => Oa rfl rfl <| O_nil (ar _ _ <| W_ret ?_)))
   obtain rfl := sinj H
   exact ret1 rfl rfl ⟨rfl, hs⟩

def label_Faults.j1 (x0 : Option Tbs) (x1 aa : List Int) : Option (List Int) := (slices_ContainsFunc_rune_rune_dco.f x1 x0).bind fun an => ((label_Faults_1_hil.f 5 an aa).bind fun ao => ((joiner_Check.f x0 x1).bind fun ap => ((label_Faults_1_hil.f 6 (decide (0 ≤ ap)) ao).bind fun aq => (some aq))))
def label_Faults.f (x0 : Option Tbs) (x1 : List Int) : Option (List Int) := (compose_Is.f x0 x1).bind fun b2 => ((label_Faults_1_hil.f 1 (!b2) ([] : List Int)).bind fun b3 => ((label_Coded.f x1).bind fun b4 => ((label_Faults_1_hil.f 2 b4 b3).bind fun b5 => ((slices_Contains_rune_rune.f x1 46).bind fun b6 => ((label_Faults_1_hil.f 3 b6 b5).bind fun a9 => (if 0 < (x1.length : Int) then (if (0 : Int) ≤ 0 ∧ 0 < (x1.length : Int) then ((book_Tables_Mark.f x0 (rd x1 0)).bind fun ar => ((label_Faults_1_hil.f 4 ar a9).bind fun ak => (label_Faults.j1 x0 x1 ak))) else none) else ((label_Faults_1_hil.f 4 false a9).bind fun al => (label_Faults.j1 x0 x1 al))))))))
theorem label_Faults.c {w0 w : World} {ρ : Hp} {Γ : List Item} (hs : St w0 ρ (Γ) w) {v0 : Value} {x0 : Option Tbs} (h0 : PtrR rTbs ρ v0 x0) {v1 : Value} {x1 : List Int} (h1 : SlR (Rep.int .i32) ρ v1 x1) {r : List Int} (H : label_Faults.f x0 x1 = some r) : CallsR Tryz.prog 21 [v0, v1] w (fun v w' => ∃ (ρ' : Hp) (v0 : Value) (cs0 : List Value), v = v0 ∧ Le ρ ρ' ∧ St w0 ρ' (.row v0 3 (Rep.int .i64).sz r.length cs0 :: Γ) w' ∧ RowR (Rep.int .i64) ρ' cs0 r) := by
  rw [label_Faults.f] at H
  refine enter Tryz.func21 Tryz.ntmps21 rfl (by kernel_rfl) rfl <| Wr fun dg cc => O_box1 hs rfl rfl h0.one (fun bb w hs => Oa rfl rfl <| O_nil (cc _ _ <| Wr fun dh cd => O_alloc zr56 hs rfl (fun ba w hs => O_nil (cd _ _ <| Wr fun di ce => O_y rfl (Y_func rfl) <| Oa rfl rfl ?_))))
  refine O_nil (ce _ _ <| Wr fun dk cf => Om rfl rfl <| O_y rfl (Yb 1 ag29 hs rfl rfl rfl) <| Om rfl rfl ?_)
  obtain ⟨b2, bc, H⟩ := bnd H
  refine O_call rfl rfl (compose_Is.c hs h0 h1 bc) (fun dl w hpost => ?_)
  obtain ⟨rfl, hs⟩ := hpost
  refine O_y rfl (Y_not rfl) ?_
  have hs := hs.rowNil 3 (Rep.int .i64).sz
  have cg := RowR.nil (Rep.int .i64) ρ
  have hs := hs.front 1 rfl
  obtain ⟨b3, bd, H⟩ := bnd H
  refine O_callv rfl rfl rfl (label_Faults_1_hil.c hs cg bd) (fun dm w hpost => ?_)
  obtain ⟨dn, dp, ch, rfl, ae, hs, ci⟩ := hpost
  have hs := hs.sink 1
  refine O_nil (cf _ _ <| Wr fun dq cj => Om rfl rfl <| Om rfl rfl ?_)
  obtain ⟨b4, be, H⟩ := bnd H
  refine O_call rfl rfl (label_Coded.c hs (h1.mono ae) be) (fun dr w hpost => ?_)
  obtain ⟨rfl, hs⟩ := hpost
  have hs := hs.front 1 rfl
  obtain ⟨b5, bf, H⟩ := bnd H
  refine O_callv rfl rfl rfl (label_Faults_1_hil.c hs ci bf) (fun ds w hpost => ?_)
  obtain ⟨dt, du, ck, rfl, af, hs, cl⟩ := hpost
  have hs := hs.sink 1
  refine O_nil (cj _ _ <| W.weak [(1, _), (2, _), (5, _), (6, _)] (S4 rfl rfl rfl rfl) <| Wr fun dv cm => Om rfl rfl <| Om rfl rfl ?_)
  obtain ⟨b6, bg, H⟩ := bnd H
  refine O_call rfl rfl (slices_Contains_rune_rune.c hs (h1.mono (ae.trans af)) bg) (fun dw w hpost => ?_)
  obtain ⟨rfl, hs⟩ := hpost
  have hs := hs.front 1 rfl
  obtain ⟨a9, bh, H⟩ := bnd H
  refine O_callv rfl rfl rfl (label_Faults_1_hil.c hs cl bh) (fun dx w hpost => ?_)
  obtain ⟨b7, b8, bi, rfl, ag, hs, b9⟩ := hpost
  have hs := hs.sink 1
  refine O_nil (cm _ _ <| W_seqj fun bj bk au => ?_)
  have av : ∀ (aa : List Int) (ab : Value) (ac : List Value) (ah : Hp) (w : World), label_Faults.j1 x0 x1 aa = some r → Le b7 ah → St w0 ah ((.row ab 3 ((Rep.int .i64).sz) aa.length ac) :: (.box ba 56 ([ab])) :: (.box bb 29 ([v0])) :: Γ) w → RowR (Rep.int .i64) ah ac aa → bj [(1, v1), (2, .pointer (some ⟨bb, 0, none⟩)), (5, .pointer (some ⟨ba, 0, none⟩)), (6, .func (.func 36) #[] #[.pointer (some ⟨ba, 0, none⟩)])] w := by
   intro aa ab ac ah w H ad hs ai
   rw [label_Faults.j1] at H
   refine bk _ _ <| Wr fun cn bl => Om rfl rfl <| Om rfl rfl <| O_y rfl (Y_func rfl) ?_
   have hs := hs.front 2 rfl
   obtain ⟨an, aw, H⟩ := bnd H
   refine O_call rfl rfl (slices_ContainsFunc_rune_rune_dco.c hs (h1.mono (((ae.trans af).trans ag).trans ad)) (h0.mono (((ae.trans af).trans ag).trans ad)) aw) (fun co w hpost => ?_)
   obtain ⟨rfl, hs⟩ := hpost
   have hs := hs.sink 2
   have hs := hs.front 1 rfl
   obtain ⟨ao, ax, H⟩ := bnd H
   refine O_callv rfl rfl rfl (label_Faults_1_hil.c hs ai ax) (fun cp w hpost => ?_)
   obtain ⟨cq, cr, ca, rfl, aj, hs, bm⟩ := hpost
   have hs := hs.sink 1
   refine O_nil (bl _ _ <| Wr fun cs bn => Om rfl rfl <| O_y rfl (Yb 2 ag29 hs rfl rfl rfl) <| Om rfl rfl ?_)
   obtain ⟨ap, ay, H⟩ := bnd H
   refine O_call rfl rfl (joiner_Check.c hs (h0.mono ((((ae.trans af).trans ag).trans ad).trans aj)) (h1.mono ((((ae.trans af).trans ag).trans ad).trans aj)) ay) (fun ct w hpost => ?_)
   obtain ⟨rfl, hs⟩ := hpost
   refine O_y rfl (Y_geq rfl rfl) ?_
   have hs := hs.front 1 rfl
   obtain ⟨aq, az, H⟩ := bnd H
   refine O_callv rfl rfl rfl (label_Faults_1_hil.c hs bm az) (fun cu w hpost => ?_)
   obtain ⟨cv, cw, cb, rfl, a0, hs, bo⟩ := hpost
   have hs := hs.sink 1
   refine O_nil (bn _ _ <| W.weak [(5, _)] (S1 rfl) <| Wr fun cx bp => O_y rfl (Yb 1 ag56 hs rfl rfl rfl) <| Oa rfl rfl <| O_nil (bp _ _ <| W_ret ?_))
   obtain rfl := sinj H
   exact ret1 rfl rfl ⟨_, _, _, rfl, (((((ae.trans af).trans ag).trans ad).trans aj).trans a0), (hs.sub (ssc (ssk (ssk ssr)))), bo⟩
  refine W_drawS 12 [0, 0, 2, 4, 8, 16, 16, 80, 144, 304, 528, 1537] [2046, 4089, 4081, 4065, 2049, 3521, 3873, 3617, 3105, 1, 1, 0] [0, 0, 2, 6, 14, 30, 30, 94, 222, 510, 1022, 2047] [9, 10, 11] (fun w => St w0 b7 ((.row b8 3 ((Rep.int .i64).sz) a9.length bi) :: (.box ba 56 ([b8])) :: (.box bb 29 ([v0])) :: Γ) w) mixed (by kernel_rfl) (fun sh => ?_)
  have hs := hs.drew
  refine Dm 0 sh rfl rfl (by kernel_rfl) rfl <| Dm 1 sh rfl rfl (by kernel_rfl) rfl <| Dp 2 sh rfl rfl (by kernel_rfl) (fun w => Y_lenR un28 (h1.mono ((ae.trans af).trans ag)) rfl) <| Dp 3 sh rfl rfl (by kernel_rfl) (fun w => Y_gtr rfl rfl) <| Dm 4 sh rfl rfl (by kernel_rfl) rfl <| OD_if (dj := 26) rfl (fun am => ?_) (fun am => ?_)
  ·rw [if_pos am] at H
   refine Dz 5 sh rfl rfl rfl rfl (by kernel_rfl) hs (fun w hs => Yb 2 ag29 hs rfl rfl rfl) <| Dq 6 sh rfl rfl rfl rfl (by kernel_rfl) (fun w => Y_move rfl) ?_
   obtain ⟨a1, H⟩ := gd H
   obtain ⟨cy, cz, bq, br⟩ := (h1.mono ((ae.trans af).trans ag)).ix el28 a1.1 a1.2
   refine Dq 7 sh rfl rfl rfl rfl (by kernel_rfl) (fun w => br rfl rfl) <| Dz 8 sh rfl rfl rfl rfl (by kernel_rfl) hs (fun w hs => Y_load ag21 rfl (hs.see bq.int)) <| D1 9 sh rfl (by kernel_rfl) (fun da bs => O_yes rfl rfl ?_)
   obtain ⟨ar, a2, H⟩ := bnd H
   refine O_call rfl rfl (book_Tables_Mark.c hs (h0.mono ((ae.trans af).trans ag)) a2) (fun db w hpost => ?_)
   obtain ⟨rfl, hs⟩ := hpost
   refine O_nil (bs _ _ (fun h _ => absurd h (by decide)) <| OD_resetS sh [11] hs (by kernel_rfl) <| Dp 10 sh rfl rfl (by kernel_rfl) (fun w => Y_pick_t rfl rfl) <| D1 11 sh rfl (by kernel_rfl) (fun dc bt => ?_))
   have hs := hs.front 1 rfl
   obtain ⟨ak, a3, H⟩ := bnd H
   refine O_callv rfl rfl rfl (label_Faults_1_hil.c hs b9 a3) (fun dd w hpost => ?_)
   obtain ⟨bu, bv, a4, rfl, a5, hs, bw⟩ := hpost
   have hs := hs.sink 1
   refine O_nil (bt _ _ (fun h _ => absurd h (by decide)) <| OD_doneS sh (by kernel_rfl) (au _ _ _ (S4 rfl rfl rfl rfl) (av ak bv a4 bu _ H a5 hs bw)))
  ·rw [if_neg am] at H
   refine Dn 5 sh rfl rfl rfl rfl rfl (by kernel_rfl) <| Dn 6 sh rfl rfl rfl rfl rfl (by kernel_rfl) <| Dn 7 sh rfl rfl rfl rfl rfl (by kernel_rfl) <| Dn 8 sh rfl rfl rfl rfl rfl (by kernel_rfl) <| Dn 9 sh rfl rfl rfl rfl rfl (by kernel_rfl) <| Dp 10 sh rfl rfl (by kernel_rfl) (fun w => Y_pick_f rfl rfl) <| D1 11 sh rfl (by kernel_rfl) (fun de bx => ?_)
   have hs := hs.front 1 rfl
   obtain ⟨al, a6, H⟩ := bnd H
   refine O_callv rfl rfl rfl (label_Faults_1_hil.c hs b9 a6) (fun df w hpost => ?_)
   obtain ⟨bz, b0, a7, rfl, a8, hs, b1⟩ := hpost
   have hs := hs.sink 1
   refine O_nil (bx _ _ (fun h _ => absurd h (by decide)) <| OD_doneS sh (by kernel_rfl) (au _ _ _ (S4 rfl rfl rfl rfl) (av al b0 a7 bz _ H a8 hs b1)))

def label_first.f (x0 : List Int) : Option Int := if (x0.length : Int) = 0 then (some 0) else (if (0 : Int) ≤ 0 ∧ 0 < (x0.length : Int) then (some (rd x0 0)) else none)
theorem label_first.c {w0 w : World} {ρ : Hp} {Γ : List Item} (hs : St w0 ρ (Γ) w) {v0 : Value} {x0 : List Int} (h0 : SlR (Rep.int .i64) ρ v0 x0) {r : Int} (H : label_first.f x0 = some r) : CallsR Tryz.prog 31 [v0] w (fun v w' => v = .int .i64 r ∧ St w0 ρ Γ w') := by
  rw [label_first.f] at H
  refine enter Tryz.func31 Tryz.ntmps31 rfl (by kernel_rfl) rfl <| Wr fun aj ac => Oa rfl rfl <| O_nil (ac _ _ <| W_seq fun ak ad => Wr fun al ae => Om rfl rfl <| O_y rfl (Y_lenR un56 h0 rfl) <| O_y rfl (Y_eql rfl rfl) <| O_nil (ae _ _ <| W_if rfl (fun aa => ?_) (fun aa => ?_)))
  ·rw [if_pos aa] at H
   refine Wr fun am af => Oa rfl rfl <| O_nil (af _ _ <| W_ret ?_)
   obtain rfl := sinj H
   exact ret1 rfl rfl ⟨rfl, hs⟩
  ·rw [if_neg aa] at H
   refine W_skip (ad _ _ <| Wr fun an ag => Om rfl rfl ?_)
   obtain ⟨ab, H⟩ := gd H
   obtain ⟨ao, ap, ah, ai⟩ := h0.ix el56 ab.1 ab.2
   refine O_y rfl (ai rfl rfl) <| O_y rfl (Y_load ag3 rfl (hs.see ah.int)) <| Oa rfl rfl <| O_nil (ag _ _ <| W_ret ?_)
   obtain rfl := sinj H
   exact ret1 rfl rfl ⟨rfl, hs⟩

def label_plain_1.j1 (aa : Bool) : Option Bool := some aa
def label_plain_1.f (x0 : Int) : Option Bool := if x0 < 0 then (label_plain_1.j1 true) else (label_plain_1.j1 (decide (128 ≤ x0)))
theorem label_plain_1.c {w0 w : World} {ρ : Hp} {Γ : List Item} (hs : St w0 ρ (Γ) w) {x0 : Int} {r : Bool} (H : label_plain_1.f x0 = some r) : CallsR Tryz.prog 68 [.int .i32 x0] w (fun v w' => v = .bool r ∧ St w0 ρ Γ w') := by
  rw [label_plain_1.f] at H
  refine enter Tryz.func68 Tryz.ntmps68 rfl (by kernel_rfl) rfl <| Wr fun ah ae => Oa rfl rfl <| O_nil (ae _ _ <| W_seqj fun af ag ac => ?_)
  have ad : ∀ (aa : Bool) (w : World), label_plain_1.j1 aa = some r → St w0 ρ (Γ) w → af [(2, .bool aa)] w := by
   intro aa w H hs
   rw [label_plain_1.j1] at H
   refine ag _ _ <| W_ret ?_
   obtain rfl := sinj H
   exact ret1 rfl rfl ⟨rfl, hs⟩
  refine W_region <| Om rfl rfl <| O_y rfl (Y_lss rfl rfl) <| Om rfl rfl <| O_if (dj := 5) rfl (fun ab => ?_) (fun ab => ?_)
  ·rw [if_pos ab] at H
   refine O_no rfl rfl rfl rfl <| O_no rfl rfl rfl rfl <| O_y rfl (Y_pick_t rfl rfl) <| Oa rfl rfl <| O_nil (ac _ _ _ (S1 rfl) (ad true _ H hs))
  ·rw [if_neg ab] at H
   refine O_yes rfl rfl <| Om rfl rfl <| O_yes rfl rfl <| O_y rfl (Y_geq rfl rfl) <| O_y rfl (Y_pick_f rfl rfl) <| Oa rfl rfl <| O_nil (ac _ _ _ (S1 rfl) (ad (decide (128 ≤ x0)) _ H hs))

def slices_IndexFunc_rune_rune_lae.l1 : Nat → List Int → Int → Option Int
  | 0, _, _ => none
  | ab + 1, x0, aa => if aa < (x0.length : Int) then (if (0 : Int) ≤ aa ∧ aa < (x0.length : Int) then ((label_plain_1.f (rd x0 aa)).bind fun ag => (if ag = true then (some aa) else ((slices_IndexFunc_rune_rune_lae.l1 ab x0) (IntKind.i64.wrap (aa + 1))))) else none) else (some (-1))
def slices_IndexFunc_rune_rune_lae.f (x0 : List Int) : Option Int := slices_IndexFunc_rune_rune_lae.l1 K0 x0 0
theorem slices_IndexFunc_rune_rune_lae.c {w0 w : World} {ρ : Hp} {Γ : List Item} (hs : St w0 ρ (Γ) w) {v0 : Value} {x0 : List Int} (h0 : SlR (Rep.int .i32) ρ v0 x0) {r : Int} (H : slices_IndexFunc_rune_rune_lae.f x0 = some r) : CallsR Tryz.prog 77 [v0, .func (.func 68) #[] #[]] w (fun v w' => v = .int .i64 r ∧ St w0 ρ Γ w') := by
  rw [slices_IndexFunc_rune_rune_lae.f] at H
  refine enter Tryz.func77 Tryz.ntmps77 rfl (by kernel_rfl) rfl <| Wr fun ax ai => Oa rfl rfl <| O_nil (ai _ _ <| W_seq fun ay aj => Wr fun az ak => Om rfl rfl <| O_y rfl (Y_lenR un28 h0 rfl) <| Om rfl rfl <| O_nil (ak _ _ <| W_block fun a0 al a1 => W_loop (σ := Nat × Int) (fun (ab, aa) => [(0, v0), (1, .func (.func 68) #[] #[]), (7, .int .i64 (x0.length : Int)), (8, .int .i64 aa)]) (fun (ab, aa) w => slices_IndexFunc_rune_rune_lae.l1 ab x0 aa = some r ∧ St w0 ρ (Γ) w) (fun s => s.1) (K0, 0) (S4 rfl rfl rfl rfl) (Ai H hs) ?_))
  rintro ⟨ab, aa⟩ w a2 ⟨H, hs⟩ ac
  show W _ _ _ _ _ _ [(0, v0), (1, .func (.func 68) #[] #[]), (7, .int .i64 (x0.length : Int)), (8, .int .i64 aa)] w
  cases ab with
  | zero => rw [slices_IndexFunc_rune_rune_lae.l1] at H; cases H
  | succ ab =>
  rw [slices_IndexFunc_rune_rune_lae.l1] at H
  refine Wr fun a3 am => O_y rfl (Y_lss rfl rfl) <| O_nil (am _ _ <| W_seq fun a4 an => W_if rfl (fun ad => ?_) (fun ad => ?_))
  ·rw [if_pos ad] at H
   refine W_skip (an _ _ <| W_seq fun a5 ao => W_block fun a6 a7 a8 => Wr fun a9 ap => Om rfl rfl <| Oa rfl rfl <| O_nil (ap _ _ <| Wr fun ba aq => Om rfl rfl <| Om rfl rfl <| Om rfl rfl ?_))
   obtain ⟨ah, H⟩ := gd H
   obtain ⟨bb, bc, ar, au⟩ := h0.ix el28 ah.1 ah.2
   refine O_y rfl (au rfl rfl) <| O_y rfl (Y_load ag21 rfl (hs.see ar.int)) ?_
   obtain ⟨ag, ae, H⟩ := bnd H
   refine O_callv rfl rfl rfl (label_plain_1.c hs ae) (fun bd w hpost => ?_)
   obtain ⟨rfl, hs⟩ := hpost
   refine O_nil (aq _ _ <| W_cond rfl (fun af => ?_) (fun af => ?_))
   ·rw [if_pos af] at H
    refine Wr fun be av => Om rfl rfl <| Oa rfl rfl <| O_nil (av _ _ <| W.weak [(4, _)] (S1 rfl) <| W_ret ?_)
    obtain rfl := sinj H
    exact ret1 rfl rfl ⟨rfl, hs⟩
   ·rw [if_neg (bft af)] at H
    refine W_skip (ao _ _ <| W_region <| O_y rfl (Y_add rfl rfl) <| Om rfl rfl <| O_nil (ac (ab, (IntKind.i64.wrap (aa + 1))) _ _ (S4 rfl rfl rfl rfl) (Ai H hs) (Nat.lt_succ_self _)))
  ·rw [if_neg ad] at H
   refine W_exit (al _ _ (aj _ _ <| Wr fun bf aw => Oa rfl rfl <| O_nil (aw _ _ <| W_ret ?_)))
   obtain rfl := sinj H
   exact ret1 rfl rfl ⟨rfl, hs⟩

def slices_ContainsFunc_rune_rune_lae.f (x0 : List Int) : Option Bool := (slices_IndexFunc_rune_rune_lae.f x0).bind fun ab => (some (decide (0 ≤ ab)))
theorem slices_ContainsFunc_rune_rune_lae.c {w0 w : World} {ρ : Hp} {Γ : List Item} (hs : St w0 ρ (Γ) w) {v0 : Value} {x0 : List Int} (h0 : SlR (Rep.int .i32) ρ v0 x0) {r : Bool} (H : slices_ContainsFunc_rune_rune_lae.f x0 = some r) : CallsR Tryz.prog 39 [v0, .func (.func 68) #[] #[]] w (fun v w' => v = .bool r ∧ St w0 ρ Γ w') := by
  rw [slices_ContainsFunc_rune_rune_lae.f] at H
  refine enter Tryz.func39 Tryz.ntmps39 rfl (by kernel_rfl) rfl <| Wr fun ae ac => Oa rfl rfl <| O_nil (ac _ _ <| Wr fun af ad => Om rfl rfl <| Om rfl rfl ?_)
  obtain ⟨ab, aa, H⟩ := bnd H
  refine O_call rfl rfl (slices_IndexFunc_rune_rune_lae.c hs h0 aa) (fun ag w hpost => ?_)
  obtain ⟨rfl, hs⟩ := hpost
  refine O_y rfl (Y_geq rfl rfl) <| Oa rfl rfl <| O_nil (ad _ _ <| W_ret ?_)
  obtain rfl := sinj H
  exact ret1 rfl rfl ⟨rfl, hs⟩

def label_plain.f (x0 : List Int) : Option Bool := (slices_ContainsFunc_rune_rune_lae.f x0).bind fun ab => (some (!ab))
theorem label_plain.c {w0 w : World} {ρ : Hp} {Γ : List Item} (hs : St w0 ρ (Γ) w) {v0 : Value} {x0 : List Int} (h0 : SlR (Rep.int .i32) ρ v0 x0) {r : Bool} (H : label_plain.f x0 = some r) : CallsR Tryz.prog 28 [v0] w (fun v w' => v = .bool r ∧ St w0 ρ Γ w') := by
  rw [label_plain.f] at H
  refine enter Tryz.func28 Tryz.ntmps28 rfl (by kernel_rfl) rfl <| Wr fun ae ac => Oa rfl rfl <| O_nil (ac _ _ <| Wr fun af ad => Om rfl rfl ?_)
  obtain ⟨ab, aa, H⟩ := bnd H
  refine O_call rfl rfl (slices_ContainsFunc_rune_rune_lae.c hs h0 aa) (fun ag w hpost => ?_)
  obtain ⟨rfl, hs⟩ := hpost
  refine O_y rfl (Y_not rfl) <| Oa rfl rfl <| O_nil (ad _ _ <| W_ret ?_)
  obtain rfl := sinj H
  exact ret1 rfl rfl ⟨rfl, hs⟩

def puny_Usual.f : Option S11 := some (⟨36, 1, 26, 38, 700, 72, 128, 45⟩ : S11)
theorem puny_Usual.c {w0 w : World} {ρ : Hp} {Γ : List Item} (hs : St w0 ρ (Γ) w) {r : S11} (H : puny_Usual.f = some r) : CallsR Tryz.prog 69 [] w (fun v w' => ∃ (ρ' : Hp) (cs0 : List Value), v = .agg cs0.toArray ∧ Le ρ ρ' ∧ St w0 ρ' (Γ) w' ∧ rS11.R ρ' cs0 r) := by
  rw [puny_Usual.f] at H
  refine enter Tryz.func69 Tryz.ntmps69 rfl (by kernel_rfl) rfl <| Wr fun ac aa => O_alloc zr118 hs rfl (fun ad w hs => O_nil (aa _ _ <| Wr fun ae ab => O_y rfl (Y_build (cs := [.int .i64 36, .int .i64 1, .int .i64 26, .int .i64 38, .int .i64 700, .int .i64 72, .int .i64 128, .int .u8 45]) zr118 pl118 ((Parts.cons rfl rfl (Parts.cons rfl rfl (Parts.cons rfl rfl (Parts.cons rfl rfl (Parts.cons rfl rfl (Parts.cons rfl rfl (Parts.cons rfl rfl (Parts.cons rfl rfl Parts.nil))))))))) ag118 (by kernel_rfl)) <| O_storeN (i := 0) sz118 hs rfl rfl rfl rfl rfl (one_cons rfl (one_cons rfl (one_cons rfl (one_cons rfl (one_cons rfl (one_cons rfl (one_cons rfl (one_cons rfl one_nil)))))))) (fun w hs => O_nil (ab _ _ <| W_ret ?_))))
  obtain rfl := sinj H
  exact retc (i := 0) rfl rfl ag118 sz118 hs rfl rfl ⟨_, _, rfl, Le.rfl' _, (hs.sub (ssk ssr)), (show rS11.R ρ _ (⟨36, 1, 26, 38, 700, 72, 128, 45⟩ : S11) from rfl)⟩

def internal_bytealg_LastIndexByteString.l1 : Nat → ByteArray → Int → Int → Option Int
  | 0, _, _, _ => none
  | ab + 1, x0, x1, aa => if 0 ≤ aa then (if (0 : Int) ≤ aa ∧ aa < (x0.size : Int) then (if (bt x0 aa) = x1 then (some aa) else ((internal_bytealg_LastIndexByteString.l1 ab x0 x1) (IntKind.i64.wrap (aa - 1)))) else none) else (some (-1))
def internal_bytealg_LastIndexByteString.f (x0 : ByteArray) (x1 : Int) : Option Int := internal_bytealg_LastIndexByteString.l1 K0 x0 x1 (IntKind.i64.wrap ((x0.size : Int) - 1))
theorem internal_bytealg_LastIndexByteString.c {w0 w : World} {ρ : Hp} {Γ : List Item} (hs : St w0 ρ (Γ) w) {x0 : ByteArray} {x1 r : Int} (H : internal_bytealg_LastIndexByteString.f x0 x1 = some r) : CallsR Tryz.prog 159 [.string x0, .int .u8 x1] w (fun v w' => v = .int .i64 r ∧ St w0 ρ Γ w') := by
  rw [internal_bytealg_LastIndexByteString.f] at H
  refine enter Tryz.func159 Tryz.ntmps159 rfl (by kernel_rfl) rfl <| Wr fun aq ag => Oa rfl rfl <| O_nil (ag _ _ <| W_seq fun ar ah => Wr fun au ai => Om rfl rfl <| O_y rfl (Y_lens un9 rfl) <| O_y rfl (Y_sub rfl rfl) <| Oa rfl rfl <| O_nil (ai _ _ <| W_block fun av aj aw => ?_))
  refine W_loop (σ := Nat × Int) (fun (ab, aa) => [(0, .string x0), (1, .int .u8 x1), (5, .int .i64 aa)]) (fun (ab, aa) w => internal_bytealg_LastIndexByteString.l1 ab x0 x1 aa = some r ∧ St w0 ρ (Γ) w) (fun s => s.1) (K0, (IntKind.i64.wrap ((x0.size : Int) - 1))) (S3 rfl rfl rfl) (Ai H hs) ?_
  rintro ⟨ab, aa⟩ w ax ⟨H, hs⟩ ac
  show W _ _ _ _ _ _ [(0, .string x0), (1, .int .u8 x1), (5, .int .i64 aa)] w
  cases ab with
  | zero => rw [internal_bytealg_LastIndexByteString.l1] at H; cases H
  | succ ab =>
  rw [internal_bytealg_LastIndexByteString.l1] at H
  refine W_seq fun ay ak => Wr fun az al => Om rfl rfl <| O_y rfl (Y_geq rfl rfl) <| O_nil (al _ _ <| W_if rfl (fun ad => ?_) (fun ad => ?_))
  ·rw [if_pos ad] at H
   refine W_skip (ak _ _ <| W_seq fun a0 am => W_block fun a1 a2 a3 => Wr fun a4 an => Om rfl rfl <| Om rfl rfl ?_)
   obtain ⟨af, H⟩ := gd H
   refine O_y rfl (Y_ixs un9 rfl rfl af.1 af.2) <| Om rfl rfl <| O_y rfl (Y_eql rfl rfl) <| O_nil (an _ _ <| W_if rfl (fun ae => ?_) (fun ae => ?_))
   ·rw [if_pos ae] at H
    refine Wr fun a5 ao => Om rfl rfl <| Oa rfl rfl <| O_nil (ao _ _ <| W_ret ?_)
    obtain rfl := sinj H
    exact ret1 rfl rfl ⟨rfl, hs⟩
   ·rw [if_neg ae] at H
    refine W_skip (am _ _ <| W_region <| Om rfl rfl <| O_y rfl (Y_sub rfl rfl) <| Oa rfl rfl <| O_nil (ac (ab, (IntKind.i64.wrap (aa - 1))) _ _ (S3 rfl rfl rfl) (Ai H hs) (Nat.lt_succ_self _)))
  ·rw [if_neg ad] at H
   refine W_exit (aj _ _ (ah _ _ <| Wr fun a6 ap => Oa rfl rfl <| O_nil (ap _ _ <| W_ret ?_)))
   obtain rfl := sinj H
   exact ret1 rfl rfl ⟨rfl, hs⟩

def strings_LastIndexByte.f (x0 : ByteArray) (x1 : Int) : Option Int := (internal_bytealg_LastIndexByteString.f x0 x1).bind fun ab => (some ab)
theorem strings_LastIndexByte.c {w0 w : World} {ρ : Hp} {Γ : List Item} (hs : St w0 ρ (Γ) w) {x0 : ByteArray} {x1 r : Int} (H : strings_LastIndexByte.f x0 x1 = some r) : CallsR Tryz.prog 124 [.string x0, .int .u8 x1] w (fun v w' => v = .int .i64 r ∧ St w0 ρ Γ w') := by
  rw [strings_LastIndexByte.f] at H
  refine enter Tryz.func124 Tryz.ntmps124 rfl (by kernel_rfl) rfl <| Wr fun ae ac => Oa rfl rfl <| O_nil (ac _ _ <| Wr fun af ad => Om rfl rfl <| Om rfl rfl ?_)
  obtain ⟨ab, aa, H⟩ := bnd H
  refine O_call rfl rfl (internal_bytealg_LastIndexByteString.c hs aa) (fun ag w hpost => ?_)
  obtain ⟨rfl, hs⟩ := hpost
  refine Oa rfl rfl <| O_nil (ad _ _ <| W_ret ?_)
  obtain rfl := sinj H
  exact ret1 rfl rfl ⟨rfl, hs⟩

def unicode_utf8_DecodeRune.j1 : Option (Int × Int) := none
def unicode_utf8_DecodeRune.l1 : Nat → List Int → Option (Int × Int)
  | 0, _ => none
  | aa + 1, x0 => if 0 < (x0.length : Int) then (if (0 : Int) ≤ 0 ∧ 0 < (x0.length : Int) then (if (rd x0 0) < 128 then (some (IntKind.i32.wrap (rd x0 0), 1)) else (unicode_utf8_DecodeRune.j1 )) else none) else (unicode_utf8_DecodeRune.j1 )
def unicode_utf8_DecodeRune.f (x0 : List Int) : Option (Int × Int) := unicode_utf8_DecodeRune.l1 K0 x0 
theorem unicode_utf8_DecodeRune.c {w0 w : World} {ρ : Hp} {Γ : List Item} (hs : St w0 ρ (Γ) w) {v0 : Value} {x0 : List Int} (h0 : SlR (Rep.int .u8) ρ v0 x0) {r : Int × Int} (H : unicode_utf8_DecodeRune.f x0 = some r) : CallsR Tryz.prog 174 [v0] w (fun v w' => v = .tuple #[.int .i32 r.1, .int .i64 r.2] ∧ St w0 ρ Γ w') := by
  rw [unicode_utf8_DecodeRune.f] at H
  refine enter Tryz.func174 Tryz.ntmps174 rfl (by kernel_rfl) rfl <| Wr fun ax ai => Oa rfl rfl <| Oa rfl rfl <| O_nil (ai _ _ <| W_seqj fun aj ak ae => ?_)
  have af : ∀ (w : World), unicode_utf8_DecodeRune.j1 = some r → St w0 ρ (Γ) w → aj [(0, v0)] w := by
   intro w H hs
   rw [unicode_utf8_DecodeRune.j1] at H
   refine ak _ _ <| Wr fun ay az => Om rfl rfl ?_
   cases H
  refine Wr fun a0 al => Om rfl rfl <| O_y rfl (Y_lenR un72 h0 rfl) <| Om rfl rfl <| O_nil (al _ _ <| W_block fun a1 ag a2 => W_loop (σ := Nat) (fun aa => [(0, v0), (6, v0), (7, .int .i64 (x0.length : Int)), (8, .int .i64 0)]) (fun aa w => unicode_utf8_DecodeRune.l1 aa x0 = some r ∧ St w0 ρ (Γ) w) (fun s => s) (K0) (S4 rfl rfl rfl rfl) (Ai H hs) ?_)
  rintro aa w a3 ⟨H, hs⟩ ab
  show W _ _ _ _ _ _ [(0, v0), (6, v0), (7, .int .i64 (x0.length : Int)), (8, .int .i64 0)] w
  cases aa with
  | zero => rw [unicode_utf8_DecodeRune.l1] at H; cases H
  | succ aa =>
  rw [unicode_utf8_DecodeRune.l1] at H
  refine Wr fun a4 am => O_y rfl (Y_lss rfl rfl) <| O_nil (am _ _ <| W_seq fun a5 an => W_if rfl (fun ac => ?_) (fun ac => ?_))
  ·rw [if_pos ac] at H
   refine W_skip (an _ _ <| W_seq fun a6 a7 => W_block fun a8 a9 ao => W_seq fun ba ap => W_region ?_)
   obtain ⟨ah, H⟩ := gd H
   obtain ⟨bb, bc, aq, ar⟩ := h0.ix el72 ah.1 ah.2
   refine O_y rfl (ar rfl rfl) <| O_y rfl (Y_load ag5 rfl (hs.see aq.int)) <| Oa rfl rfl <| O_nil (ap _ _ <| W_seq fun bd au => Wr fun be av => Om rfl rfl <| O_y rfl (Y_lss rfl rfl) <| O_nil (av _ _ <| W_if rfl (fun ad => ?_) (fun ad => ?_)))
   ·rw [if_pos ad] at H
    refine Wr fun bf aw => Om rfl rfl <| O_y rfl (Y_conv un5 un21 rfl) <| Oa rfl rfl <| Oa rfl rfl <| O_nil (aw _ _ <| W_ret ?_)
    obtain rfl := sinj H
    exact ret2 rfl rfl rfl ⟨rfl, hs⟩
   ·rw [if_neg ad] at H
    refine W_skip (au _ _ <| W_exit (ao _ _ _ rfl (ag _ _ (ae _ _ _ (S1 rfl) (af _ H hs)))))
  ·rw [if_neg ac] at H
   exact W_exit (ag _ _ (ae _ _ _ (S1 rfl) (af _ H hs)))

def puny_boot_basic.j1 (aa : Bool) : Option Bool := some aa
def puny_boot_basic.f (x0 : S11) (x1 : Int) : Option Bool := if (IntKind.i64.wrap x1) < x0.first then (puny_boot_basic.j1 (decide (x1 < 128))) else (puny_boot_basic.j1 false)
theorem puny_boot_basic.c {w0 w : World} {ρ : Hp} {Γ : List Item} (hs : St w0 ρ (Γ) w) {c0 : List Value} {x0 : S11} (h0 : rS11.R ρ c0 x0) {x1 : Int} {r : Bool} (H : puny_boot_basic.f x0 x1 = some r) : CallsR Tryz.prog 120 [.agg c0.toArray, .int .i32 x1] w (fun v w' => v = .bool r ∧ St w0 ρ Γ w') := by
  rw [puny_boot_basic.f] at H
  refine enter Tryz.func120 Tryz.ntmps120 rfl (by kernel_rfl) rfl ?_
  have ae := h0
  obtain rfl := ae
  refine Wr fun aj af => O_boxN (cs := [.int .i64 x0.base, .int .i64 x0.least, .int .i64 x0.most, .int .i64 x0.skew, .int .i64 x0.damp, .int .i64 x0.bias, .int .i64 x0.first, .int .u8 x0.between]) hs rfl rfl (fun ag w hs => Oa rfl rfl <| O_nil (af _ _ <| W_seqj fun ah ai ac => ?_))
  have ad : ∀ (aa : Bool) (w : World), puny_boot_basic.j1 aa = some r → St w0 ρ ((.box ag 117 ([.int .i64 x0.base, .int .i64 x0.least, .int .i64 x0.most, .int .i64 x0.skew, .int .i64 x0.damp, .int .i64 x0.bias, .int .i64 x0.first, .int .u8 x0.between])) :: Γ) w → ah [(4, .bool aa)] w := by
   intro aa w H hs
   rw [puny_boot_basic.j1] at H
   refine ai _ _ <| W_ret ?_
   obtain rfl := sinj H
   exact ret1 rfl rfl ⟨rfl, (hs.sub (ssk ssr))⟩
  refine W_region <| Om rfl rfl <| O_y rfl (Y_conv un21 un3 rfl) <| O_y rfl (Y_field fo117_6 rfl) <| O_y rfl (Yb 0 ag3 hs rfl rfl rfl) <| O_y rfl (Y_lss rfl rfl) <| Om rfl rfl <| O_if (dj := 10) rfl (fun ab => ?_) (fun ab => ?_)
  ·rw [if_pos ab] at H
   refine O_yes rfl rfl <| Om rfl rfl <| O_yes rfl rfl <| O_y rfl (Y_lss rfl rfl) <| O_y rfl (Y_pick_t rfl rfl) <| Oa rfl rfl <| O_nil (ac _ _ _ (S1 rfl) (ad (decide (x1 < 128)) _ H hs))
  ·rw [if_neg ab] at H
   refine O_no rfl rfl rfl rfl <| O_no rfl rfl rfl rfl <| O_y rfl (Y_pick_f rfl rfl) <| Oa rfl rfl <| O_nil (ac _ _ _ (S1 rfl) (ad false _ H hs))

def puny_boot_decode_1_hme.f (x0 y0_0 y0_1 y0_2 y0_3 y0_4 y0_5 y0_6 y0_7 : Int) : Option Bool := (puny_boot_basic.f (⟨y0_0, y0_1, y0_2, y0_3, y0_4, y0_5, y0_6, y0_7⟩ : S11) x0).bind fun ab => (some (!ab))
theorem puny_boot_decode_1_hme.c {w0 w : World} {ρ : Hp} {Γ : List Item} {pb0 : Nat} {y0_0 y0_1 y0_2 y0_3 y0_4 y0_5 y0_6 y0_7 : Int} (hs : St w0 ρ ((.box pb0 117 ([.int .i64 y0_0, .int .i64 y0_1, .int .i64 y0_2, .int .i64 y0_3, .int .i64 y0_4, .int .i64 y0_5, .int .i64 y0_6, .int .u8 y0_7])) :: Γ) w) {x0 : Int} {r : Bool} (H : puny_boot_decode_1_hme.f x0 y0_0 y0_1 y0_2 y0_3 y0_4 y0_5 y0_6 y0_7 = some r) : CallsR Tryz.prog 126 [.int .i32 x0, .pointer (some ⟨pb0, 0, none⟩)] w (fun v w' => v = .bool r ∧ St w0 ρ ((.box pb0 117 ([.int .i64 y0_0, .int .i64 y0_1, .int .i64 y0_2, .int .i64 y0_3, .int .i64 y0_4, .int .i64 y0_5, .int .i64 y0_6, .int .u8 y0_7])) :: Γ) w') := by
  rw [puny_boot_decode_1_hme.f] at H
  refine enter Tryz.func126 Tryz.ntmps126 rfl (by kernel_rfl) rfl <| Wr fun ae ac => Oa rfl rfl <| O_nil (ac _ _ <| Wr fun af ad => O_y rfl (Y_loadbN (i := 0) ag117 sz117 hs rfl rfl rfl rfl) <| Om rfl rfl ?_)
  obtain ⟨ab, aa, H⟩ := bnd H
  refine O_call rfl rfl (puny_boot_basic.c hs (show rS11.R ρ _ (⟨y0_0, y0_1, y0_2, y0_3, y0_4, y0_5, y0_6, y0_7⟩ : S11) from rfl) aa) (fun ag w hpost => ?_)
  obtain ⟨rfl, hs⟩ := hpost
  refine O_y rfl (Y_not rfl) <| Oa rfl rfl <| O_nil (ad _ _ <| W_ret ?_)
  obtain rfl := sinj H
  exact ret1 rfl rfl ⟨rfl, hs⟩

end Go.Proofs.YthoicbafdanmkaaGreatDoor
/- slices.Insert of one rune into a row of one's own, by hand. Own work of this repo. -/
namespace Go.Proofs.YthoicbafdanmkaaGreatDoor
open Go.RowKit
theorem ins_grow (C D zs : List Value) (z : Value) (k : Nat) (hC : C.length = k) (hz : zs.length = D.length + 1) : wl D (k + 1) (wl [z] k (C ++ zs)) = C ++ z :: D := by
  cases zs with
  | nil => simp at hz
  | cons y t =>
    have ht : t.length = D.length := by simpa using hz
    subst hC
    rw [wl_eq [z] _ _ (by simp)]
    have e : (C ++ y :: t).take C.length ++ ([z] ++ (C ++ y :: t).drop (C.length + [z].length)) = (C ++ [z]) ++ t := by
      rw [List.take_left', List.drop_append]
      · simp
      · rfl
    rw [e, wl_eq D _ _ (by simp; omega), List.take_left' (by simp), List.drop_append, List.drop_of_length_le (l := C ++ [z]) (by simp), List.drop_of_length_le (by simp; omega)]
    simp
theorem ins_room (C D : List Value) (y z : Value) (k : Nat) (hC : C.length = k) : wl [z] k (wl D (k + 1) (C ++ D ++ [y])) = C ++ z :: D := by
  subst hC
  obtain ⟨h, t, ht, hl⟩ : ∃ h t, D ++ [y] = h :: t ∧ t.length = D.length := by
    cases hd : D ++ [y] with
    | nil => simp at hd
    | cons h t => exact ⟨h, t, rfl, by have := congrArg List.length hd; simp at this; omega⟩
  rw [List.append_assoc, ht, wl_eq D _ _ (by simp; omega)]
  have e : (C ++ h :: t).take (C.length + 1) ++ (D ++ (C ++ h :: t).drop (C.length + 1 + D.length)) = C ++ (h :: D) := by
    rw [show C ++ h :: t = (C ++ [h]) ++ t by simp, List.take_left' (by simp), List.drop_of_length_le (by simp; omega)]
    simp
  rw [e, wl_eq [z] _ _ (by simp), List.take_left' rfl, List.drop_append]
  simp
set_option maxRecDepth 100000 in
set_option maxHeartbeats 4000000 in
theorem slices_Insert.c {w0 w : World} {ρ : Hp} {Γ : List Item} {v u : Value} {cs ds : List Value} {xs : List Int} {z i : Int} (hs : St w0 ρ ((.row v 21 (Rep.int .i32).sz xs.length cs) :: (.row u 21 (Rep.int .i32).sz 1 ds) :: Γ) w) (f : RowR (Rep.int .i32) ρ cs xs) (g : RowR (Rep.int .i32) ρ ds [z]) (h0 : 0 ≤ i) (h1 : i ≤ (xs.length : Int)) (hm : xs.length + 1 ≤ most) :
    CallsR Tryz.prog 162 [v, .int .i64 i, u] w (fun r w' => ∃ cs', St w0 ρ ((.row r 21 (Rep.int .i32).sz (insZ xs i z).length cs') :: Γ) w' ∧ RowR (Rep.int .i32) ρ cs' (insZ xs i z)) := by
  have hbig : most = 2147483648 := rfl
  have hn : ∃ n, xs.length = n := ⟨_, rfl⟩
  obtain ⟨n, hn⟩ := hn
  obtain ⟨k, rfl⟩ : ∃ k : Nat, i = k := ⟨i.toNat, by omega⟩
  have hil : (insZ xs k z).length = n + 1 := by simp [insZ]; omega
  rw [hil]
  rw [hn] at hs h1 hm
  have hcs := f.ints
  have hds := g.ints
  subst hcs hds
  have hs : St w0 ρ ((.row v 21 1 n (xs.map (Value.int .i32))) :: (.row u 21 1 1 [.int .i32 z]) :: Γ) w := hs
  clear f g
  have hfin : ∀ (r : Value) (w' : World), St w0 ρ ((.row r 21 1 (n + 1) ((insZ xs k z).map (Value.int .i32))) :: Γ) w' → ∃ cs', St w0 ρ ((.row r 21 (Rep.int .i32).sz (n + 1) cs') :: Γ) w' ∧ RowR (Rep.int .i32) ρ cs' (insZ xs k z) := fun r w' h => ⟨_, h, RowR.ofInts _⟩
  have hik : ((k : Int)).toNat = k := by omega
  have hone : ∀ v ∈ xs.map (Value.int .i32), v.oneCell' = true := fun v hv => by
    obtain ⟨y, _, rfl⟩ := List.mem_map.1 hv
    rfl
  have w1 : IntKind.i64.wrap ((n : Int) + ((1 : Nat) : Int)) = ((n + 1 : Nat) : Int) := by rw [IntKind.wrap_i64]; omega
  have w2 : IntKind.i64.wrap ((k : Int) + ((1 : Nat) : Int)) = ((k + 1 : Nat) : Int) := by rw [IntKind.wrap_i64]; omega
  have w3 : IntKind.i64.wrap (((n + 1 : Nat) : Int) - (k : Int)) = ((n + 1 - k : Nat) : Int) := by rw [IntKind.wrap_i64]; omega
  obtain ⟨a, c, rfl, hnc⟩ : ∃ a c, v = .slice a n c ∧ n ≤ c := by
    have hok : w.ownsRow 0 21 1 v n _ := hs.ok _ (List.mem_of_getElem? (i := 0) rfl)
    rcases hok.2 with ⟨rfl, rfl⟩ | ⟨q, cap, cur, rfl, _, _, h, _⟩
    · exact ⟨none, 0, rfl, Nat.le_refl _⟩
    · exact ⟨_, _, rfl, h⟩
  refine enter Tryz.func162 Tryz.ntmps162 rfl (by kernel_rfl) rfl ?_
  refine W_seq fun N1 n1 => ?_
  refine W_region ?_
  refine O_y rfl (Y_assign rfl) ?_
  refine O_nil (n1 _ _ ?_)
  refine W_seq fun N2 n2 => ?_
  refine W_region ?_
  refine O_y rfl (Y_move rfl) ?_
  refine O_y rfl (Y_move rfl) ?_
  refine O_y rfl (Y_slice el28 rfl (.inr ⟨_, _, rfl, rfl⟩) (.inl ⟨rfl, rfl⟩) h0 h1 (Int.le_refl _) hnc) ?_
  refine O_nil (n2 _ _ ?_)
  refine W_seq fun N3 n3 => ?_
  refine W_region ?_
  refine O_y rfl (Y_move rfl) ?_
  refine O_y rfl (Y_lenRow (i := 1) un28 hs rfl rfl) ?_
  refine O_y rfl (Y_assign rfl) ?_
  refine O_nil (n3 _ _ ?_)
  refine W_seq fun N4 n4 => ?_
  refine W_seq fun M4 m4 => ?_
  refine W_region ?_
  refine O_y rfl (Y_move rfl) ?_
  refine O_y rfl (Y_eql rfl rfl) ?_
  refine O_nil (m4 _ _ ?_)
  refine W_if rfl (fun c1 => absurd c1 (by decide)) (fun _ => ?_)
  refine W_skip (n4 _ _ ?_)
  refine W_seq fun N6 n6 => ?_
  refine W_region ?_
  refine O_y rfl (Y_move rfl) ?_
  refine O_y rfl (Y_lenRow (i := 0) un28 hs rfl rfl) ?_
  refine O_y rfl (Y_assign rfl) ?_
  refine O_nil (n6 _ _ ?_)
  refine W_seq fun N7 n7 => ?_
  refine W_seq fun M7 m7 => ?_
  refine W_region ?_
  refine O_y rfl (Y_move rfl) ?_
  refine O_y rfl (Y_move rfl) ?_
  refine O_y rfl (Y_eql rfl rfl) ?_
  refine O_nil (m7 _ _ ?_)
  refine W_if rfl (fun c2 => ?_) (fun c2 => ?_)
  · refine W_seq fun N9 n9 => ?_
    refine W_region ?_
    refine O_y rfl (Y_move rfl) ?_
    refine O_y rfl (Y_move rfl) ?_
    refine O_append (i := 0) el28 hs rfl rfl rfl rfl (Src.row hs (j := 1) rfl (by intro y hy; simp at hy; subst hy; rfl)) hm (fun v' w hs => ?_)
    refine O_y rfl (Y_assign rfl) ?_
    refine O_nil (n9 _ _ ?_)
    refine W_ret ?_
    refine ret1 rfl rfl (hfin _ _ ?_)
    have e : (insZ xs k z).map (Value.int .i32) = xs.map (Value.int .i32) ++ [.int .i32 z] := by
      simp only [insZ, hik]
      rw [List.take_of_length_le (by omega), List.drop_of_length_le (by omega)]
      simp
    rw [e]
    exact hs.sub (.cons_cons _ (.cons _ (List.Sublist.refl _)))
  · have hkn : k < n := by omega
    refine W_skip (n7 _ _ ?_)
    obtain ⟨gb, rfl⟩ : ∃ gb, a = some ⟨gb, 0, none⟩ := by
      have hok : w.ownsRow 0 21 1 (.slice a n c) n _ := hs.ok _ (List.mem_of_getElem? (i := 0) rfl)
      rcases hok.2 with ⟨_, h⟩ | ⟨q, cap, cur, h, _⟩
      · omega
      · cases h; exact ⟨_, rfl⟩
    obtain ⟨gu, cu, rfl⟩ : ∃ gu cu, u = .slice (some ⟨gu, 0, none⟩) 1 cu := by
      have hok : w.ownsRow 0 21 1 u 1 _ := hs.ok _ (List.mem_of_getElem? (i := 1) rfl)
      rcases hok.2 with ⟨_, h⟩ | ⟨q, cap, cur, h, _⟩
      · omega
      · exact ⟨_, _, h⟩
    have hne : gu ≠ gb := by
      have := hs.nodup
      simp only [List.filterMap_cons, Item.blk, Value.ownBlock] at this
      intro e
      subst e
      simp at this
    have hdl : ((xs.map (Value.int .i32)).drop k).length = n - k := by simp; omega
    refine W_seq fun N10 n10 => ?_
    refine W_seq fun M10 m10 => ?_
    refine W_region ?_
    refine O_y rfl (Y_move rfl) ?_
    refine O_y rfl (Y_move rfl) ?_
    refine O_y rfl (Y_add rfl rfl) ?_
    rw [w1]
    refine O_y rfl (Y_move rfl) ?_
    refine O_y rfl (Y_cap un28 rfl) ?_
    refine O_y rfl (Y_gtr rfl rfl) ?_
    refine O_nil (m10 _ _ ?_)
    refine W_if rfl (fun c3 => ?_) (fun c3 => ?_)
    · have hcn : c < k + (n + 1 - k) := by omega
      refine W_seq fun N12 n12 => ?_
      refine W_region ?_
      refine O_y rfl (Y_move rfl) ?_
      refine O_y rfl (Y_move rfl) ?_
      refine O_y rfl (Y_sliceUp el28 rfl rfl h0 (by omega)) ?_
      rw [hik]
      refine O_y rfl (Y_move rfl) ?_
      refine O_y rfl (Y_move rfl) ?_
      refine O_y rfl (Y_add rfl rfl) ?_
      rw [w1]
      refine O_y rfl (Y_move rfl) ?_
      refine O_y rfl (Y_sub rfl rfl) ?_
      rw [w3]
      refine O_appendMake (olds := (xs.map (Value.int .i32)).take k) el28 un3 hs rfl rfl rfl (by simp; omega) (fun j y hj => ?_) (by omega) hcn (by omega) (fun b zs c' w hz hc' hs => ?_)
      · rw [List.getElem?_take] at hj
        split at hj
        · rw [Addr.add_lit, Nat.zero_add]; exact hs.rowCell (j := 0) rfl rfl hj
        · cases hj
      have ek : k + (n + 1 - k) = n + 1 := by omega
      rw [ek] at hs hc' ⊢
      refine O_y rfl (Y_assign rfl) ?_
      refine O_nil (n12 _ _ ?_)
      refine W_seq fun N13 n13 => ?_
      refine W_region ?_
      refine O_y rfl (Y_move rfl) ?_
      refine O_y rfl (Y_move rfl) ?_
      refine O_y rfl (Y_sliceFrom el28 rfl rfl (by omega) (by omega) hc') ?_
      refine O_y rfl (Y_move rfl) ?_
      refine O_copyRow (j := 0) (vs := [.int .i32 z]) (g := b) el28 hs rfl rfl rfl rfl rfl (by simp only [Nat.min_def]; split <;> simp <;> omega) (by simp [hz]; omega) (fun j y hj => ?_) (by intro y hy; simp at hy; subst hy; rfl) (fun w hs => ?_)
      · rw [Addr.add_lit, Nat.zero_add]; exact hs.rowCell (j := 2) rfl rfl hj
      refine O_nil (n13 _ _ ?_)
      refine W_seq fun N15 n15 => ?_
      refine W_drawS 9 [0, 0, 0, 6, 9, 0, 0, 96, 144] [494, 501, 499, 481, 224, 351, 319, 31, 0] [0, 0, 0, 6, 15, 0, 0, 96, 255] [] (fun _ => True) mixed (by kernel_rfl) (fun sh => ?_)
      have hs := hs.drew
      refine OD_pS sh (i := 0) rfl rfl (by kernel_rfl) (fun w => Y_move rfl) ?_
      refine OD_pS sh (i := 1) rfl rfl (by kernel_rfl) (fun w => Y_move rfl) ?_
      refine OD_pS sh (i := 2) rfl rfl (by kernel_rfl) (fun w => Y_move rfl) ?_
      refine OD_pS sh (i := 3) rfl rfl (by kernel_rfl) (fun w => Y_add rfl rfl) ?_
      rw [w2]
      refine OD_pS sh (i := 4) rfl rfl (by kernel_rfl) (fun w => Y_sliceFrom el28 rfl rfl (by omega) (by omega) hc') ?_
      refine OD_pS sh (i := 5) rfl rfl (by kernel_rfl) (fun w => Y_move rfl) ?_
      refine OD_pS sh (i := 6) rfl rfl (by kernel_rfl) (fun w => Y_move rfl) ?_
      refine OD_pS sh (i := 7) rfl rfl (by kernel_rfl) (fun w => Y_sliceFrom el28 rfl rfl (by omega) (by omega) hnc) ?_
      refine OD_oneS sh (i := 8) rfl (by kernel_rfl) (fun N16 n16 => ?_)
      refine O_copyRow (j := 0) (vs := (xs.map (Value.int .i32)).drop k) (g := b) el28 hs rfl rfl rfl rfl rfl (by rw [hdl]; simp only [Nat.min_def]; split <;> omega) (by simp [wl_len, hz]; omega) (fun j y hj => ?_) (fun y hy => hone y (List.mem_of_mem_drop hy)) (fun w hs => ?_)
      · rw [Addr.add_lit, Nat.zero_add]
        rw [List.getElem?_drop] at hj
        exact hs.rowCell (j := 1) rfl rfl hj
      refine O_nil (n16 _ _ (fun _ _ => trivial) ?_)
      refine OD_doneS sh (by kernel_rfl) (n15 _ _ ?_)
      refine W_seq fun N17 n17 => ?_
      refine W_region ?_
      refine O_y rfl (Y_move rfl) ?_
      refine O_y rfl (Y_assign rfl) ?_
      refine O_nil (n17 _ _ ?_)
      refine W_ret ?_
      refine ret1 rfl rfl (hfin _ _ ?_)
      have e : (insZ xs k z).map (Value.int .i32) = wl ((xs.map (Value.int .i32)).drop k) (0 + (k + 1)) (wl [.int .i32 z] (0 + k) ((xs.map (Value.int .i32)).take k ++ zs)) := by
        rw [Nat.zero_add, Nat.zero_add, ins_grow _ _ _ _ k (by simp; omega) (by rw [hdl, hz]; omega)]
        simp [insZ, hik]
      rw [e]
      exact hs.sub (.cons_cons _ (.cons _ (.cons _ (List.Sublist.refl _))))
    · refine W_skip (n10 _ _ ?_)
      have hcn : n + 1 ≤ c := by omega
      refine W_seq fun N12 n12 => ?_
      refine W_region ?_
      refine O_y rfl (Y_move rfl) ?_
      refine O_y rfl (Y_move rfl) ?_
      refine O_y rfl (Y_move rfl) ?_
      refine O_y rfl (Y_add rfl rfl) ?_
      rw [w1]
      refine O_y rfl (Y_sliceUp el28 rfl rfl (by omega) (by omega)) ?_
      have e1 : ((n + 1 : Nat) : Int).toNat = n + 1 := by omega
      rw [e1]
      refine O_y rfl (Y_assign rfl) ?_
      refine O_nil (n12 _ _ ?_)
      obtain ⟨y0, hs⟩ := hs.rowRoom (j := 0) rfl hcn
      refine W_seq fun N13 n13 => ?_
      refine W_seq fun M13 m13 => ?_
      refine W_region ?_
      refine O_y rfl (Y_move rfl) ?_
      refine O_y rfl (Y_move rfl) ?_
      refine O_y rfl (Y_move rfl) ?_
      refine O_y rfl (Y_move rfl) ?_
      refine O_y rfl (Y_add rfl rfl) ?_
      rw [w2]
      refine O_y rfl (Y_sliceFrom el28 rfl rfl (by omega) (by omega) hcn) ?_
      refine O_y rfl (Y_ext (r := .bool false) rfl ?_) ?_
      · have hu : w.ownsRow 0 21 1 (.slice (some ⟨gu, 0, none⟩) 1 cu) 1 _ := hs.ok _ (List.mem_of_getElem? (i := 1) rfl)
        have hv : w.ownsRow 0 21 1 (.slice (some ⟨gb, 0, none⟩) (n + 1) c) (n + 1) _ := hs.ok _ (List.mem_of_getElem? (i := 0) rfl)
        obtain ⟨cA, hA⟩ : ∃ cA, w.heap[gu]? = some (.cells cA 21 (0, 0)) := by
          rcases hu.2 with ⟨h, _⟩ | ⟨q, cap, cur, h, _, hh, _⟩
          · cases h
          · cases h; exact ⟨_, hh⟩
        obtain ⟨cB, hB, hBz⟩ : ∃ cB, w.heap[gb]? = some (.cells cB 21 (0, 0)) ∧ cB.size ≠ 0 := by
          rcases hv.2 with ⟨h, _⟩ | ⟨q, cap, cur, h, _, hh, h3, _, h5, _⟩
          · cases h
          · cases h; exact ⟨_, hh, by omega⟩
        rw [run_callFunc_extern Tryz.func176 (by kernel_rfl) (by kernel_rfl) (by kernel_rfl) (e := Extern.SlicesOverlaps.overlaps #[28, 28] #[4]) (by kernel_rfl),
          Lib.run_overlaps_apart w 28 4 21 un28 1 (fun w => run_sizeOf sz21) ⟨gu, 0, none⟩ ⟨gb, 0 + (k + 1), none⟩ 1 cu _ _ hne 21 21 cA.size cB.size (by simp [World.shape?, hA]) (by simp [World.shape?, hB]) hBz (by simp [World.frozen?, hA]) (by simp [World.frozen?, hA])]
        rfl
      refine O_y rfl (Y_not rfl) ?_
      refine O_nil (m13 _ _ ?_)
      refine W_true rfl ?_
      refine W_seq fun N15 n15 => ?_
      refine W_drawS 9 [0, 0, 0, 6, 9, 0, 0, 96, 144] [494, 501, 499, 481, 224, 351, 319, 31, 0] [0, 0, 0, 6, 15, 0, 0, 96, 255] [] (fun _ => True) mixed (by kernel_rfl) (fun sh => ?_)
      have hs := hs.drew
      refine OD_pS sh (i := 0) rfl rfl (by kernel_rfl) (fun w => Y_move rfl) ?_
      refine OD_pS sh (i := 1) rfl rfl (by kernel_rfl) (fun w => Y_move rfl) ?_
      refine OD_pS sh (i := 2) rfl rfl (by kernel_rfl) (fun w => Y_move rfl) ?_
      refine OD_pS sh (i := 3) rfl rfl (by kernel_rfl) (fun w => Y_add rfl rfl) ?_
      rw [w2]
      refine OD_pS sh (i := 4) rfl rfl (by kernel_rfl) (fun w => Y_sliceFrom el28 rfl rfl (by omega) (by omega) hcn) ?_
      refine OD_pS sh (i := 5) rfl rfl (by kernel_rfl) (fun w => Y_move rfl) ?_
      refine OD_pS sh (i := 6) rfl rfl (by kernel_rfl) (fun w => Y_move rfl) ?_
      refine OD_pS sh (i := 7) rfl rfl (by kernel_rfl) (fun w => Y_sliceFrom el28 rfl rfl (by omega) (by omega) hcn) ?_
      refine OD_oneS sh (i := 8) rfl (by kernel_rfl) (fun N16 n16 => ?_)
      refine O_copyRow (j := 0) (vs := (xs.map (Value.int .i32)).drop k) (g := gb) el28 hs rfl rfl rfl rfl rfl (by rw [hdl]; simp only [Nat.min_def]; split <;> omega) (by simp; omega) (fun j y hj => ?_) (fun y hy => hone y (List.mem_of_mem_drop hy)) (fun w hs => ?_)
      · rw [Addr.add_lit, Nat.zero_add]
        rw [List.getElem?_drop] at hj
        exact hs.rowCell (j := 0) rfl rfl (by rw [List.getElem?_append_left (List.getElem?_eq_some_iff.1 hj).1]; exact hj)
      refine O_nil (n16 _ _ (fun _ _ => trivial) ?_)
      refine OD_doneS sh (by kernel_rfl) (n15 _ _ ?_)
      refine W_seq fun N17 n17 => ?_
      refine W_region ?_
      refine O_y rfl (Y_move rfl) ?_
      refine O_y rfl (Y_move rfl) ?_
      refine O_y rfl (Y_sliceFrom el28 rfl rfl (by omega) (by omega) hcn) ?_
      refine O_y rfl (Y_move rfl) ?_
      refine O_copyRow (j := 0) (vs := [.int .i32 z]) (g := gb) el28 hs rfl rfl rfl rfl rfl (by simp only [Nat.min_def]; split <;> simp <;> omega) (by simp [wl_len]; omega) (fun j y hj => ?_) (by intro y hy; simp at hy; subst hy; rfl) (fun w hs => ?_)
      · rw [Addr.add_lit, Nat.zero_add]; exact hs.rowCell (j := 1) rfl rfl hj
      refine O_nil (n17 _ _ ?_)
      refine W_seq fun N18 n18 => ?_
      refine W_region ?_
      refine O_y rfl (Y_move rfl) ?_
      refine O_y rfl (Y_assign rfl) ?_
      refine O_nil (n18 _ _ ?_)
      refine W_ret ?_
      refine ret1 rfl rfl (hfin _ _ ?_)
      have e : (insZ xs k z).map (Value.int .i32) = wl [.int .i32 z] (0 + k) (wl ((xs.map (Value.int .i32)).drop k) (0 + (k + 1)) (xs.map (Value.int .i32) ++ [y0])) := by
        have e0 : xs.map (Value.int .i32) = (xs.map (Value.int .i32)).take k ++ (xs.map (Value.int .i32)).drop k := (List.take_append_drop k _).symm
        rw [Nat.zero_add, Nat.zero_add]
        rw [show wl ((xs.map (Value.int .i32)).drop k) (k + 1) (xs.map (Value.int .i32) ++ [y0]) = wl ((xs.map (Value.int .i32)).drop k) (k + 1) ((xs.map (Value.int .i32)).take k ++ (xs.map (Value.int .i32)).drop k ++ [y0]) from by rw [← e0]]
        rw [ins_room _ _ _ _ k (by simp; omega)]
        simp [insZ, hik]
      rw [e]
      exact hs.sub (.cons_cons _ (.cons _ (List.Sublist.refl _)))
end Go.Proofs.YthoicbafdanmkaaGreatDoor
/- Written by this repo's gen.py: for each Go function a Lean function with the same answers and the walk that shows it. -/
namespace Go.Proofs.YthoicbafdanmkaaGreatDoor
open Go.RowKit
set_option maxRecDepth 100000
set_option maxHeartbeats 4000000
set_option linter.unusedVariables false
def bytes_indexFunc_maj.l1 : Nat → Int → Int → Int → Int → Int → Int → Int → Int → List Int → Bool → Int → Option Int
  | 0, _, _, _, _, _, _, _, _, _, _, _ => none
  | ab + 1, y0_0, y0_1, y0_2, y0_3, y0_4, y0_5, y0_6, y0_7, x0, x2, aa => if aa < (x0.length : Int) then (if (0 : Int) ≤ aa ∧ aa ≤ (x0.length : Int) ∧ (x0.length : Int) ≤ (x0.length : Int) then ((unicode_utf8_DecodeRune.f (sub x0 aa (x0.length : Int))).bind fun ad => ((puny_boot_decode_1_hme.f ad.1 y0_0 y0_1 y0_2 y0_3 y0_4 y0_5 y0_6 y0_7).bind fun aj => (if (aj == x2) = true then (some aa) else ((bytes_indexFunc_maj.l1 ab y0_0 y0_1 y0_2 y0_3 y0_4 y0_5 y0_6 y0_7 x0 x2) (IntKind.i64.wrap (aa + ad.2)))))) else none) else (some (-1))
def bytes_indexFunc_maj.f (x0 : List Int) (x2 : Bool) (y0_0 y0_1 y0_2 y0_3 y0_4 y0_5 y0_6 y0_7 : Int) : Option Int := bytes_indexFunc_maj.l1 K0 y0_0 y0_1 y0_2 y0_3 y0_4 y0_5 y0_6 y0_7 x0 x2 0
theorem bytes_indexFunc_maj.c {w0 w : World} {ρ : Hp} {Γ : List Item} {pb0 : Nat} {y0_0 y0_1 y0_2 y0_3 y0_4 y0_5 y0_6 y0_7 : Int} (hs : St w0 ρ ((.box pb0 117 ([.int .i64 y0_0, .int .i64 y0_1, .int .i64 y0_2, .int .i64 y0_3, .int .i64 y0_4, .int .i64 y0_5, .int .i64 y0_6, .int .u8 y0_7])) :: Γ) w) {v0 : Value} {x0 : List Int} (h0 : SlR (Rep.int .u8) ρ v0 x0) {x2 : Bool} {r : Int} (H : bytes_indexFunc_maj.f x0 x2 y0_0 y0_1 y0_2 y0_3 y0_4 y0_5 y0_6 y0_7 = some r) : CallsR Tryz.prog 160 [v0, .func (.func 126) #[] #[.pointer (some ⟨pb0, 0, none⟩)], .bool x2] w (fun v w' => v = .int .i64 r ∧ St w0 ρ ((.box pb0 117 ([.int .i64 y0_0, .int .i64 y0_1, .int .i64 y0_2, .int .i64 y0_3, .int .i64 y0_4, .int .i64 y0_5, .int .i64 y0_6, .int .u8 y0_7])) :: Γ) w') := by
  rw [bytes_indexFunc_maj.f] at H
  refine enter Tryz.func160 Tryz.ntmps160 rfl (by kernel_rfl) rfl <| Wr fun az ak => Oa rfl rfl <| O_nil (ak _ _ <| Wr fun a0 al => Oa rfl rfl <| O_nil (al _ _ <| W_seq fun a1 am => W_block fun a2 an a3 => W_loop (σ := Nat × Int) (fun (ab, aa) => [(0, v0), (1, .func (.func 126) #[] #[.pointer (some ⟨pb0, 0, none⟩)]), (2, .bool x2), (7, .int .i64 aa)]) (fun (ab, aa) w => bytes_indexFunc_maj.l1 ab y0_0 y0_1 y0_2 y0_3 y0_4 y0_5 y0_6 y0_7 x0 x2 aa = some r ∧ St w0 ρ ((.box pb0 117 ([.int .i64 y0_0, .int .i64 y0_1, .int .i64 y0_2, .int .i64 y0_3, .int .i64 y0_4, .int .i64 y0_5, .int .i64 y0_6, .int .u8 y0_7])) :: Γ) w) (fun s => s.1) (K0, 0) (S4 rfl rfl rfl rfl) (Ai H hs) ?_))
  rintro ⟨ab, aa⟩ w a4 ⟨H, hs⟩ ac
  show W _ _ _ _ _ _ [(0, v0), (1, .func (.func 126) #[] #[.pointer (some ⟨pb0, 0, none⟩)]), (2, .bool x2), (7, .int .i64 aa)] w
  cases ab with
  | zero => rw [bytes_indexFunc_maj.l1] at H; cases H
  | succ ab =>
  rw [bytes_indexFunc_maj.l1] at H
  refine W_seq fun a5 ao => Wr fun a6 ap => Om rfl rfl <| Om rfl rfl <| O_y rfl (Y_lenR un72 h0 rfl) <| O_y rfl (Y_lss rfl rfl) <| O_nil (ap _ _ <| W_if rfl (fun ae => ?_) (fun ae => ?_))
  ·rw [if_pos ae] at H
   refine W_skip (ao _ _ <| W_block fun a7 a8 a9 => Wr fun ba aq => Om rfl rfl <| Om rfl rfl ?_)
   obtain ⟨af, H⟩ := gd H
   obtain ⟨bb, ar, au⟩ := h0.cut el72 af.1 af.2.1 af.2.2
   refine O_y rfl (au rfl (.inr ⟨_, _, rfl, rfl⟩) (.inl ⟨rfl, rfl⟩)) ?_
   obtain ⟨ad, ag, H⟩ := bnd H
   refine O_call rfl rfl (unicode_utf8_DecodeRune.c hs ar ag) (fun bc w hpost => ?_)
   obtain ⟨rfl, hs⟩ := hpost
   refine Om rfl rfl <| O_y rfl (Y_extract rfl rfl) <| O_y rfl (Y_extract rfl rfl) <| Oa rfl rfl <| Oa rfl rfl <| O_nil (aq _ _ <| W.weak [(0, _), (1, _), (2, _), (7, _), (8, _), (9, _)] (by repeat first | exact Sub.nil | refine Sub.cons rfl ?_) ?_)
   refine W_seq fun bd av => Wr fun be aw => Om rfl rfl <| Om rfl rfl ?_
   obtain ⟨aj, ah, H⟩ := bnd H
   refine O_callv rfl rfl rfl (puny_boot_decode_1_hme.c hs ah) (fun bf w hpost => ?_)
   obtain ⟨rfl, hs⟩ := hpost
   refine Om rfl rfl <| O_y rfl (Y_eqlb un4 rfl rfl) <| O_nil (aw _ _ <| W_cond rfl (fun ai => ?_) (fun ai => ?_))
   ·rw [if_pos ai] at H
    refine Wr fun bg ax => Om rfl rfl <| Oa rfl rfl <| O_nil (ax _ _ <| W_ret ?_)
    obtain rfl := sinj H
    exact ret1 rfl rfl ⟨rfl, hs⟩
   ·rw [if_neg (bft ai)] at H
    refine W_skip (av _ _ <| W_region <| Om rfl rfl <| Om rfl rfl <| O_y rfl (Y_add rfl rfl) <| Oa rfl rfl <| O_nil (ac (ab, (IntKind.i64.wrap (aa + ad.2))) _ _ (S4 rfl rfl rfl rfl) (Ai H hs) (Nat.lt_succ_self _)))
  ·rw [if_neg ae] at H
   refine W_exit (an _ _ (am _ _ <| Wr fun bh ay => Oa rfl rfl <| O_nil (ay _ _ <| W_ret ?_)))
   obtain rfl := sinj H
   exact ret1 rfl rfl ⟨rfl, hs⟩

def bytes_IndexFunc_mjo.f (x0 : List Int) (y0_0 y0_1 y0_2 y0_3 y0_4 y0_5 y0_6 y0_7 : Int) : Option Int := (bytes_indexFunc_maj.f x0 true y0_0 y0_1 y0_2 y0_3 y0_4 y0_5 y0_6 y0_7).bind fun ab => (some ab)
theorem bytes_IndexFunc_mjo.c {w0 w : World} {ρ : Hp} {Γ : List Item} {pb0 : Nat} {y0_0 y0_1 y0_2 y0_3 y0_4 y0_5 y0_6 y0_7 : Int} (hs : St w0 ρ ((.box pb0 117 ([.int .i64 y0_0, .int .i64 y0_1, .int .i64 y0_2, .int .i64 y0_3, .int .i64 y0_4, .int .i64 y0_5, .int .i64 y0_6, .int .u8 y0_7])) :: Γ) w) {v0 : Value} {x0 : List Int} (h0 : SlR (Rep.int .u8) ρ v0 x0) {r : Int} (H : bytes_IndexFunc_mjo.f x0 y0_0 y0_1 y0_2 y0_3 y0_4 y0_5 y0_6 y0_7 = some r) : CallsR Tryz.prog 125 [v0, .func (.func 126) #[] #[.pointer (some ⟨pb0, 0, none⟩)]] w (fun v w' => v = .int .i64 r ∧ St w0 ρ ((.box pb0 117 ([.int .i64 y0_0, .int .i64 y0_1, .int .i64 y0_2, .int .i64 y0_3, .int .i64 y0_4, .int .i64 y0_5, .int .i64 y0_6, .int .u8 y0_7])) :: Γ) w') := by
  rw [bytes_IndexFunc_mjo.f] at H
  refine enter Tryz.func125 Tryz.ntmps125 rfl (by kernel_rfl) rfl <| Wr fun ae ac => Oa rfl rfl <| O_nil (ac _ _ <| Wr fun af ad => Om rfl rfl <| Om rfl rfl ?_)
  obtain ⟨ab, aa, H⟩ := bnd H
  refine O_call rfl rfl (bytes_indexFunc_maj.c hs h0 aa) (fun ag w hpost => ?_)
  obtain ⟨rfl, hs⟩ := hpost
  refine Oa rfl rfl <| O_nil (ad _ _ <| W_ret ?_)
  obtain rfl := sinj H
  exact ret1 rfl rfl ⟨rfl, hs⟩

def puny_Digit.j1 (x0 : Int) (aa : Bool) : Option Int := if aa = true then (some (IntKind.i64.wrap ((IntKind.i64.wrap (IntKind.u8.wrap (x0 - 48))) + 26))) else (some (-1))
def puny_Digit.j2 (x0 : Int) (ab : Bool) : Option Int := if ab = true then (some (IntKind.i64.wrap (IntKind.u8.wrap (x0 - 65)))) else (if 48 ≤ x0 then (puny_Digit.j1 x0 (decide (x0 ≤ 57))) else (puny_Digit.j1 x0 false))
def puny_Digit.j3 (x0 : Int) (ac : Bool) : Option Int := if ac = true then (some (IntKind.i64.wrap (IntKind.u8.wrap (x0 - 97)))) else (if 65 ≤ x0 then (puny_Digit.j2 x0 (decide (x0 ≤ 90))) else (puny_Digit.j2 x0 false))
def puny_Digit.f (x0 : Int) : Option Int := if 97 ≤ x0 then (puny_Digit.j3 x0 (decide (x0 ≤ 122))) else (puny_Digit.j3 x0 false)
theorem puny_Digit.c {w0 w : World} {ρ : Hp} {Γ : List Item} (hs : St w0 ρ (Γ) w) {x0 r : Int} (H : puny_Digit.f x0 = some r) : CallsR Tryz.prog 183 [.int .u8 x0] w (fun v w' => v = .int .i64 r ∧ St w0 ρ Γ w') := by
  rw [puny_Digit.f] at H
  refine enter Tryz.func183 Tryz.ntmps183 rfl (by kernel_rfl) rfl <| Wr fun a3 ap => Oa rfl rfl <| O_nil (ap _ _ <| W_seq fun a4 aq => W_block fun a5 a6 a7 => W_seqj fun ar au aj => ?_)
  have ak : ∀ (ac : Bool) (w : World), puny_Digit.j3 x0 ac = some r → St w0 ρ (Γ) w → ar [(0, .int .u8 x0), (3, .bool ac)] w := by
   intro ac w H hs
   rw [puny_Digit.j3] at H
   refine au _ _ <| W_cond rfl (fun ad => ?_) (fun ad => ?_)
   ·rw [if_pos ad] at H
    refine Wr fun a8 av => Om rfl rfl <| O_y rfl (Y_sub rfl rfl) <| O_y rfl (Y_conv un5 un3 rfl) <| Oa rfl rfl <| O_nil (av _ _ <| W_ret ?_)
    obtain rfl := sinj H
    exact ret1 rfl rfl ⟨rfl, hs⟩
   ·rw [if_neg (bft ad)] at H
    refine W_seqj fun aw ax al => ?_
    have am : ∀ (ab : Bool) (w : World), puny_Digit.j2 x0 ab = some r → St w0 ρ (Γ) w → aw [(0, .int .u8 x0), (13, .bool ab)] w := by
     intro ab w H hs
     rw [puny_Digit.j2] at H
     refine ax _ _ <| W_cond rfl (fun ae => ?_) (fun ae => ?_)
     ·rw [if_pos ae] at H
      refine Wr fun a9 ay => Om rfl rfl <| O_y rfl (Y_sub rfl rfl) <| O_y rfl (Y_conv un5 un3 rfl) <| Oa rfl rfl <| O_nil (ay _ _ <| W_ret ?_)
      obtain rfl := sinj H
      exact ret1 rfl rfl ⟨rfl, hs⟩
     ·rw [if_neg (bft ae)] at H
      refine W_seqj fun az a0 an => ?_
      have ao : ∀ (aa : Bool) (w : World), puny_Digit.j1 x0 aa = some r → St w0 ρ (Γ) w → az [(0, .int .u8 x0), (23, .bool aa)] w := by
       intro aa w H hs
       rw [puny_Digit.j1] at H
       refine a0 _ _ <| W_cond rfl (fun af => ?_) (fun af => ?_)
       ·rw [if_pos af] at H
        refine Wr fun ba a1 => Om rfl rfl <| O_y rfl (Y_sub rfl rfl) <| O_y rfl (Y_conv un5 un3 rfl) <| O_y rfl (Y_add rfl rfl) <| Oa rfl rfl <| O_nil (a1 _ _ <| W_ret ?_)
        obtain rfl := sinj H
        exact ret1 rfl rfl ⟨rfl, hs⟩
       ·rw [if_neg (bft af)] at H
        refine W_skip (aq _ _ <| Wr fun bb a2 => Oa rfl rfl <| O_nil (a2 _ _ <| W_ret ?_))
        obtain rfl := sinj H
        exact ret1 rfl rfl ⟨rfl, hs⟩
      refine W_region <| Om rfl rfl <| O_y rfl (Y_geq rfl rfl) <| Om rfl rfl <| O_if (dj := 26) rfl (fun ag => ?_) (fun ag => ?_)
      ·rw [if_pos ag] at H
       refine O_yes rfl rfl <| Om rfl rfl <| O_yes rfl rfl <| O_y rfl (Y_leq rfl rfl) <| O_y rfl (Y_pick_t rfl rfl) <| Oa rfl rfl <| O_nil (an _ _ _ (S2 rfl rfl) (ao (decide (x0 ≤ 57)) _ H hs))
      ·rw [if_neg ag] at H
       refine O_no rfl rfl rfl rfl <| O_no rfl rfl rfl rfl <| O_y rfl (Y_pick_f rfl rfl) <| Oa rfl rfl <| O_nil (an _ _ _ (S2 rfl rfl) (ao false _ H hs))
    refine W_region <| Om rfl rfl <| O_y rfl (Y_geq rfl rfl) <| Om rfl rfl <| O_if (dj := 16) rfl (fun ah => ?_) (fun ah => ?_)
    ·rw [if_pos ah] at H
     refine O_yes rfl rfl <| Om rfl rfl <| O_yes rfl rfl <| O_y rfl (Y_leq rfl rfl) <| O_y rfl (Y_pick_t rfl rfl) <| Oa rfl rfl <| O_nil (al _ _ _ (S2 rfl rfl) (am (decide (x0 ≤ 90)) _ H hs))
    ·rw [if_neg ah] at H
     refine O_no rfl rfl rfl rfl <| O_no rfl rfl rfl rfl <| O_y rfl (Y_pick_f rfl rfl) <| Oa rfl rfl <| O_nil (al _ _ _ (S2 rfl rfl) (am false _ H hs))
  refine W_region <| Om rfl rfl <| O_y rfl (Y_geq rfl rfl) <| Om rfl rfl <| O_if (dj := 6) rfl (fun ai => ?_) (fun ai => ?_)
  ·rw [if_pos ai] at H
   refine O_yes rfl rfl <| Om rfl rfl <| O_yes rfl rfl <| O_y rfl (Y_leq rfl rfl) <| O_y rfl (Y_pick_t rfl rfl) <| Oa rfl rfl <| O_nil (aj _ _ _ (S2 rfl rfl) (ak (decide (x0 ≤ 122)) _ H hs))
  ·rw [if_neg ai] at H
   refine O_no rfl rfl rfl rfl <| O_no rfl rfl rfl rfl <| O_y rfl (Y_pick_f rfl rfl) <| Oa rfl rfl <| O_nil (aj _ _ _ (S2 rfl rfl) (ak false _ H hs))

def puny_boot_digit.f (x0 : S11) (x1 : Int) : Option Int := (puny_Digit.f x1).bind fun aa => (if aa < x0.base then (some aa) else (some (-1)))
theorem puny_boot_digit.c {w0 w : World} {ρ : Hp} {Γ : List Item} (hs : St w0 ρ (Γ) w) {c0 : List Value} {x0 : S11} (h0 : rS11.R ρ c0 x0) {x1 r : Int} (H : puny_boot_digit.f x0 x1 = some r) : CallsR Tryz.prog 175 [.agg c0.toArray, .int .u8 x1] w (fun v w' => v = .int .i64 r ∧ St w0 ρ Γ w') := by
  rw [puny_boot_digit.f] at H
  refine enter Tryz.func175 Tryz.ntmps175 rfl (by kernel_rfl) rfl ?_
  have ad := h0
  obtain rfl := ad
  refine Wr fun ak ae => O_boxN (cs := [.int .i64 x0.base, .int .i64 x0.least, .int .i64 x0.most, .int .i64 x0.skew, .int .i64 x0.damp, .int .i64 x0.bias, .int .i64 x0.first, .int .u8 x0.between]) hs rfl rfl (fun al w hs => Oa rfl rfl <| O_nil (ae _ _ <| W_seq fun am af => Wr fun an ag => Om rfl rfl ?_))
  obtain ⟨aa, ab, H⟩ := bnd H
  refine O_call rfl rfl (puny_Digit.c hs ab) (fun ao w hpost => ?_)
  obtain ⟨rfl, hs⟩ := hpost
  refine Oa rfl rfl <| O_nil (ag _ _ <| Wr fun ap ah => Om rfl rfl <| O_y rfl (Y_field fo117_0 rfl) <| O_y rfl (Yb 0 ag3 hs rfl rfl rfl) <| O_y rfl (Y_lss rfl rfl) <| O_nil (ah _ _ <| W_if rfl (fun ac => ?_) (fun ac => ?_)))
  ·rw [if_pos ac] at H
   refine Wr fun aq ai => Om rfl rfl <| Oa rfl rfl <| O_nil (ai _ _ <| W_ret ?_)
   obtain rfl := sinj H
   exact ret1 rfl rfl ⟨rfl, (hs.sub (ssk ssr))⟩
  ·rw [if_neg ac] at H
   refine W_skip (af _ _ <| Wr fun ar aj => Oa rfl rfl <| O_nil (aj _ _ <| W_ret ?_))
   obtain rfl := sinj H
   exact ret1 rfl rfl ⟨rfl, (hs.sub (ssk ssr))⟩

def puny_boot_threshold.f (x0 : S11) (x1 x2 : Int) : Option Int := some (min (max (IntKind.i64.wrap (x1 - x2)) x0.least) x0.most)
theorem puny_boot_threshold.c {w0 w : World} {ρ : Hp} {Γ : List Item} (hs : St w0 ρ (Γ) w) {c0 : List Value} {x0 : S11} (h0 : rS11.R ρ c0 x0) {x1 x2 r : Int} (H : puny_boot_threshold.f x0 x1 x2 = some r) : CallsR Tryz.prog 157 [.agg c0.toArray, .int .i64 x1, .int .i64 x2] w (fun v w' => v = .int .i64 r ∧ St w0 ρ Γ w') := by
  rw [puny_boot_threshold.f] at H
  refine enter Tryz.func157 Tryz.ntmps157 rfl (by kernel_rfl) rfl ?_
  have aa := h0
  obtain rfl := aa
  refine Wr fun ad ab => O_boxN (cs := [.int .i64 x0.base, .int .i64 x0.least, .int .i64 x0.most, .int .i64 x0.skew, .int .i64 x0.damp, .int .i64 x0.bias, .int .i64 x0.first, .int .u8 x0.between]) hs rfl rfl (fun ae w hs => Oa rfl rfl <| O_nil (ab _ _ <| Wr fun af ac => Om rfl rfl <| Om rfl rfl <| O_y rfl (Y_sub rfl rfl) <| O_y rfl (Y_field fo117_1 rfl) <| O_y rfl (Yb 0 ag3 hs rfl rfl rfl) <| O_y rfl (Y_max rfl rfl) <| O_y rfl (Y_field fo117_2 rfl) ?_))
  refine O_y rfl (Yb 0 ag3 hs rfl rfl rfl) <| O_y rfl (Y_min rfl rfl) <| Oa rfl rfl <| O_nil (ac _ _ <| W_ret ?_)
  obtain rfl := sinj H
  exact ret1 rfl rfl ⟨rfl, (hs.sub (ssk ssr))⟩

def puny_reader_number_ndm.l1 : Nat → Int → Int → Int → Int → Int → Int → Int → Int → ByteArray → Int → Int → Int → Int → Int → Option (Int × Int × Int × Int)
  | 0, _, _, _, _, _, _, _, _, _, _, _, _, _, _ => none
  | ae + 1, y0_0, y0_1, y0_2, y0_3, y0_4, y0_5, y0_6, y0_7, y0_8, y0_13, aa, ab, ac, ad => if aa = (y0_8.size : Int) then (some (aa, 140, aa, ab)) else (if (0 : Int) ≤ aa ∧ aa < (y0_8.size : Int) then ((puny_boot_digit.f (⟨y0_0, y0_1, y0_2, y0_3, y0_4, y0_5, y0_6, y0_7⟩ : S11) (bt y0_8 aa)).bind fun ag => (if ag < 0 then (some (aa, 140, aa, ab)) else (if 2147483647 < (IntKind.i64.wrap (ab + (IntKind.i64.wrap (ag * ac)))) then (some (aa, 142, IntKind.i64.wrap (aa + 1), IntKind.i64.wrap (ab + (IntKind.i64.wrap (ag * ac))))) else ((puny_boot_threshold.f (⟨y0_0, y0_1, y0_2, y0_3, y0_4, y0_5, y0_6, y0_7⟩ : S11) ad y0_13).bind fun af => (if ag < af then (some (0, 0, IntKind.i64.wrap (aa + 1), IntKind.i64.wrap (ab + (IntKind.i64.wrap (ag * ac))))) else (if 2147483647 < (IntKind.i64.wrap (ac * (IntKind.i64.wrap (y0_0 - af)))) then (some (aa, 142, IntKind.i64.wrap (aa + 1), IntKind.i64.wrap (ab + (IntKind.i64.wrap (ag * ac))))) else ((puny_reader_number_ndm.l1 ae y0_0 y0_1 y0_2 y0_3 y0_4 y0_5 y0_6 y0_7 y0_8 y0_13) (IntKind.i64.wrap (aa + 1)) (IntKind.i64.wrap (ab + (IntKind.i64.wrap (ag * ac)))) (IntKind.i64.wrap (ac * (IntKind.i64.wrap (y0_0 - af)))) (IntKind.i64.wrap (ad + y0_0))))))))) else none)
def puny_reader_number_ndm.f (y0_0 y0_1 y0_2 y0_3 y0_4 y0_5 y0_6 y0_7 : Int) (y0_8 : ByteArray) (y0_9 y0_11 y0_12 y0_13 : Int) (y1 : List Int) : Option (Int × Int × Int × Int) := puny_reader_number_ndm.l1 K0 y0_0 y0_1 y0_2 y0_3 y0_4 y0_5 y0_6 y0_7 y0_8 y0_13 y0_9 y0_12 1 y0_0
theorem puny_reader_number_ndm.c {w0 w : World} {ρ : Hp} {Γ : List Item} {pb0 : Nat} {y0_0 y0_1 y0_2 y0_3 y0_4 y0_5 y0_6 y0_7 : Int} {y0_8 : ByteArray} {y0_9 y0_11 y0_12 y0_13 : Int} {w1 : Value} {d1 : List Value} {y1 : List Int} (hs : St w0 ρ ((.box pb0 163 ([.int .i64 y0_0, .int .i64 y0_1, .int .i64 y0_2, .int .i64 y0_3, .int .i64 y0_4, .int .i64 y0_5, .int .i64 y0_6, .int .u8 y0_7, .string y0_8, .int .i64 y0_9, w1, .int .i64 y0_11, .int .i64 y0_12, .int .i64 y0_13])) :: (.row w1 21 ((Rep.int .i32).sz) y1.length d1) :: Γ) w) (g1 : RowR (Rep.int .i32) ρ d1 y1) {r : Int × Int × Int × Int} (H : puny_reader_number_ndm.f y0_0 y0_1 y0_2 y0_3 y0_4 y0_5 y0_6 y0_7 y0_8 y0_9 y0_11 y0_12 y0_13 y1 = some r) : CallsR Tryz.prog 161 [.pointer (some ⟨pb0, 0, none⟩)] w (fun v w' => v = .tuple #[.int .i64 r.1, .int .i64 r.2.1] ∧ St w0 ρ ((.box pb0 163 ([.int .i64 y0_0, .int .i64 y0_1, .int .i64 y0_2, .int .i64 y0_3, .int .i64 y0_4, .int .i64 y0_5, .int .i64 y0_6, .int .u8 y0_7, .string y0_8, .int .i64 r.2.2.1, w1, .int .i64 y0_11, .int .i64 r.2.2.2, .int .i64 y0_13])) :: (.row w1 21 ((Rep.int .i32).sz) y1.length d1) :: Γ) w') := by
  rw [puny_reader_number_ndm.f] at H
  refine enter Tryz.func161 Tryz.ntmps161 rfl (by kernel_rfl) rfl <| Wr fun bs a1 => Oa rfl rfl <| Oa rfl rfl <| O_nil (a1 _ _ <| Wr fun bu a2 => Oa rfl rfl <| O_nil (a2 _ _ <| Wr fun bv a3 => Om rfl rfl <| O_y rfl (Y_nilp rfl) ?_))
  refine O_y rfl (Y_field fo163_0 rfl) <| O_y rfl (Y_field fo117_0 rfl) <| O_y rfl (Yb 0 ag3 hs rfl rfl rfl) <| Oa rfl rfl <| O_nil (a3 _ _ <| W_block fun bw bx bz => W_loop (σ := Nat × Int × Int × Int × Int) (fun (ae, aa, ab, ac, ad) => [(0, .pointer (some ⟨pb0, 0, none⟩)), (4, .int .i64 ac), (5, .int .i64 ad)]) (fun (ae, aa, ab, ac, ad) w => puny_reader_number_ndm.l1 ae y0_0 y0_1 y0_2 y0_3 y0_4 y0_5 y0_6 y0_7 y0_8 y0_13 aa ab ac ad = some r ∧ St w0 ρ ((.box pb0 163 ([.int .i64 y0_0, .int .i64 y0_1, .int .i64 y0_2, .int .i64 y0_3, .int .i64 y0_4, .int .i64 y0_5, .int .i64 y0_6, .int .u8 y0_7, .string y0_8, .int .i64 aa, w1, .int .i64 y0_11, .int .i64 ab, .int .i64 y0_13])) :: (.row w1 21 ((Rep.int .i32).sz) y1.length d1) :: Γ) w) (fun s => s.1) (K0, y0_9, y0_12, 1, y0_0) (S3 rfl rfl rfl) (Ai H hs) ?_)
  rintro ⟨ae, aa, ab, ac, ad⟩ w b0 ⟨H, hs⟩ ah
  show W _ _ _ _ _ _ [(0, .pointer (some ⟨pb0, 0, none⟩)), (4, .int .i64 ac), (5, .int .i64 ad)] w
  cases ae with
  | zero => rw [puny_reader_number_ndm.l1] at H; cases H
  | succ ae =>
  rw [puny_reader_number_ndm.l1] at H
  refine W_seq fun b1 a4 => W_block fun b2 b3 b4 => W_seq fun b5 a5 => W_seq fun b6 a6 => W_drawS 10 [0, 1, 2, 4, 0, 16, 32, 64, 128, 264] [1020, 1016, 1008, 496, 975, 911, 783, 527, 15, 0] [0, 1, 3, 7, 0, 16, 48, 112, 240, 511] [] (fun w => St w0 ρ ((.box pb0 163 ([.int .i64 y0_0, .int .i64 y0_1, .int .i64 y0_2, .int .i64 y0_3, .int .i64 y0_4, .int .i64 y0_5, .int .i64 y0_6, .int .u8 y0_7, .string y0_8, .int .i64 aa, w1, .int .i64 y0_11, .int .i64 ab, .int .i64 y0_13])) :: (.row w1 21 ((Rep.int .i32).sz) y1.length d1) :: Γ) w) mixed (by kernel_rfl) (fun sh => ?_)
  have hs := hs.drew
  refine Dm 0 sh rfl rfl (by kernel_rfl) rfl <| Dp 1 sh rfl rfl (by kernel_rfl) (fun w => Y_nilp rfl) <| Dp 2 sh rfl rfl (by kernel_rfl) (fun w => Y_field fo163_2 rfl) <| Dy 3 sh rfl rfl (by kernel_rfl) hs (fun w hs => Yb 0 ag3 hs rfl rfl rfl) <| Dm 4 sh rfl rfl (by kernel_rfl) rfl <| Dp 5 sh rfl rfl (by kernel_rfl) (fun w => Y_nilp rfl) <| Dp 6 sh rfl rfl (by kernel_rfl) (fun w => Y_field fo163_1 rfl) <| Dy 7 sh rfl rfl (by kernel_rfl) hs (fun w hs => Yb 0 ag9 hs rfl rfl rfl) <| Dp 8 sh rfl rfl (by kernel_rfl) (fun w => Y_lens un9 rfl) <| Dp 9 sh rfl rfl (by kernel_rfl) (fun w => Y_eql rfl rfl) <| OD_doneS sh (by kernel_rfl) (a6 _ _ <| W_if rfl (fun am => ?_) (fun am => ?_))
  ·rw [if_pos am] at H
   refine Wr fun b7 a7 => Om rfl rfl <| O_y rfl (Y_nilp rfl) <| O_y rfl (Y_field fo163_2 rfl) <| O_y rfl (Yb 0 ag3 hs rfl rfl rfl) <| Oa rfl rfl <| Oa rfl rfl <| O_nil (a7 _ _ <| W.weak [(2, _), (3, _)] (S2 rfl rfl) <| W_ret ?_)
   obtain rfl := sinj H
   exact ret2 rfl rfl rfl ⟨rfl, hs⟩
  ·rw [if_neg am] at H
   refine W_skip (a5 _ _ <| Wr fun b8 a8 => Om rfl rfl <| O_y rfl (Y_nilp rfl) <| O_y rfl (Y_field fo163_2 rfl) <| O_y rfl (Yb 0 ag3 hs rfl rfl rfl) <| Oa rfl rfl <| O_nil (a8 _ _ <| W.weak [(0, _), (4, _), (5, _), (6, _)] (S4 rfl rfl rfl rfl) <| W_seq fun b9 a9 => W_drawS 12 [0, 1, 2, 4, 0, 16, 32, 64, 0, 384, 520, 2047] [2044, 2040, 2032, 1008, 1999, 1935, 1807, 1295, 1279, 15, 0, 0] [0, 1, 3, 7, 0, 16, 48, 112, 0, 496, 1023, 2047] [10, 11] (fun w => St w0 ρ ((.box pb0 163 ([.int .i64 y0_0, .int .i64 y0_1, .int .i64 y0_2, .int .i64 y0_3, .int .i64 y0_4, .int .i64 y0_5, .int .i64 y0_6, .int .u8 y0_7, .string y0_8, .int .i64 aa, w1, .int .i64 y0_11, .int .i64 ab, .int .i64 y0_13])) :: (.row w1 21 ((Rep.int .i32).sz) y1.length d1) :: Γ) w) mixed (by kernel_rfl) (fun sh => ?_)))
   have hs := hs.drew
   refine Dm 0 sh rfl rfl (by kernel_rfl) rfl <| Dp 1 sh rfl rfl (by kernel_rfl) (fun w => Y_nilp rfl) <| Dp 2 sh rfl rfl (by kernel_rfl) (fun w => Y_field fo163_0 rfl) <| Dy 3 sh rfl rfl (by kernel_rfl) hs (fun w hs => Y_loadbN (i := 0) ag117 sz117 hs rfl rfl rfl rfl) <| Dm 4 sh rfl rfl (by kernel_rfl) rfl <| Dp 5 sh rfl rfl (by kernel_rfl) (fun w => Y_nilp rfl) <| Dp 6 sh rfl rfl (by kernel_rfl) (fun w => Y_field fo163_1 rfl) <| Dy 7 sh rfl rfl (by kernel_rfl) hs (fun w hs => Yb 0 ag9 hs rfl rfl rfl) <| Dm 8 sh rfl rfl (by kernel_rfl) rfl ?_
   obtain ⟨a0, H⟩ := gd H
   refine Dp 9 sh rfl rfl (by kernel_rfl) (fun w => Y_ixs un9 rfl rfl a0.1 a0.2) <| D1 10 sh rfl (by kernel_rfl) (fun ca ba => ?_)
   obtain ⟨ag, an, H⟩ := bnd H
   refine O_call rfl rfl (puny_boot_digit.c hs (show rS11.R ρ _ (⟨y0_0, y0_1, y0_2, y0_3, y0_4, y0_5, y0_6, y0_7⟩ : S11) from rfl) an) (fun cb w hpost => ?_)
   obtain ⟨rfl, hs⟩ := hpost
   refine O_nil (ba _ _ (fun h _ => absurd h (by decide)) <| OD_resetS sh [] hs (by kernel_rfl) <| Dp 11 sh rfl rfl (by kernel_rfl) (fun w => Y_assign rfl) <| OD_doneS sh (by kernel_rfl) (a9 _ _ <| W.weak [(0, _), (4, _), (5, _), (6, _), (7, _)] (by repeat first | exact Sub.nil | refine Sub.cons rfl ?_) ?_))
   refine W_seq fun cc bb => Wr fun cd bc => Om rfl rfl <| O_y rfl (Y_lss rfl rfl) <| O_nil (bc _ _ <| W_if rfl (fun ao => ?_) (fun ao => ?_))
   ·rw [if_pos ao] at H
    refine Wr fun ce bd => Om rfl rfl <| Oa rfl rfl <| Oa rfl rfl <| O_nil (bd _ _ <| W_ret ?_)
    obtain rfl := sinj H
    exact ret2 rfl rfl rfl ⟨rfl, hs⟩
   ·rw [if_neg ao] at H
    refine W_skip (bb _ _ <| Wr fun cf be => Om rfl rfl <| O_y rfl (Y_nilp rfl) <| O_y rfl (Y_field fo163_2 rfl) <| O_y rfl (Yb 0 ag3 hs rfl rfl rfl) <| O_y rfl (Y_add rfl rfl) <| O_y rfl (Y_nilp rfl) <| O_y rfl (Y_field fo163_2 rfl) <| O_store (i := 0) sz3 hs rfl rfl rfl rfl rfl (fun w hs => O_nil (be _ _ <| W_seq fun cg bf => W_seq fun ch bg => ?_)))
    refine W_region <| Om rfl rfl <| O_y rfl (Y_nilp rfl) <| O_y rfl (Y_field fo163_5 rfl) <| O_y rfl (Yb 0 ag3 hs rfl rfl rfl) <| Om rfl rfl <| Om rfl rfl <| O_y rfl (Y_mul rfl rfl) <| O_y rfl (Y_add rfl rfl) <| O_y rfl (Y_nilp rfl) <| O_y rfl (Y_field fo163_5 rfl) <| O_store (i := 0) sz3 hs rfl rfl rfl rfl rfl (fun w hs => O_nil (bg _ _ <| W.weak [(0, _), (4, _), (5, _), (6, _), (7, _)] (by repeat first | exact Sub.nil | refine Sub.cons rfl ?_) ?_))
    refine Wr fun ci bh => Om rfl rfl <| O_y rfl (Y_nilp rfl) <| O_y rfl (Y_field fo163_5 rfl) <| O_y rfl (Yb 0 ag3 hs rfl rfl rfl) <| O_y rfl (Y_gtr rfl rfl) <| O_nil (bh _ _ <| W_if rfl (fun ai => ?_) (fun ai => ?_))
    ·rw [if_pos ai] at H
     refine Wr fun bi ap => Om rfl rfl <| Oa rfl rfl <| Oa rfl rfl <| O_nil (ap _ _ <| W_ret ?_)
     obtain rfl := sinj H
     exact ret2 rfl rfl rfl ⟨rfl, hs⟩
    ·rw [if_neg ai] at H
     refine W_skip (bf _ _ <| W_seq fun bj aq => W_drawS 11 [0, 1, 2, 4, 0, 0, 32, 64, 128, 280, 1023] [1020, 1016, 1008, 496, 495, 927, 799, 543, 31, 0, 0] [0, 1, 3, 7, 0, 0, 32, 96, 224, 511, 1023] [9, 10] (fun w => St w0 ρ ((.box pb0 163 ([.int .i64 y0_0, .int .i64 y0_1, .int .i64 y0_2, .int .i64 y0_3, .int .i64 y0_4, .int .i64 y0_5, .int .i64 y0_6, .int .u8 y0_7, .string y0_8, .int .i64 (IntKind.i64.wrap (aa + 1)), w1, .int .i64 y0_11, .int .i64 (IntKind.i64.wrap (ab + (IntKind.i64.wrap (ag * ac)))), .int .i64 y0_13])) :: (.row w1 21 ((Rep.int .i32).sz) y1.length d1) :: Γ) w) mixed (by kernel_rfl) (fun sh => ?_))
     have hs := hs.drew
     refine Dm 0 sh rfl rfl (by kernel_rfl) rfl <| Dp 1 sh rfl rfl (by kernel_rfl) (fun w => Y_nilp rfl) <| Dp 2 sh rfl rfl (by kernel_rfl) (fun w => Y_field fo163_0 rfl) <| Dy 3 sh rfl rfl (by kernel_rfl) hs (fun w hs => Y_loadbN (i := 0) ag117 sz117 hs rfl rfl rfl rfl) <| Dm 4 sh rfl rfl (by kernel_rfl) rfl <| Dm 5 sh rfl rfl (by kernel_rfl) rfl <| Dp 6 sh rfl rfl (by kernel_rfl) (fun w => Y_nilp rfl) <| Dp 7 sh rfl rfl (by kernel_rfl) (fun w => Y_field fo163_6 rfl) <| Dy 8 sh rfl rfl (by kernel_rfl) hs (fun w hs => Yb 0 ag3 hs rfl rfl rfl) <| D1 9 sh rfl (by kernel_rfl) (fun bk ar => ?_)
     obtain ⟨af, al, H⟩ := bnd H
     refine O_call rfl rfl (puny_boot_threshold.c hs (show rS11.R ρ _ (⟨y0_0, y0_1, y0_2, y0_3, y0_4, y0_5, y0_6, y0_7⟩ : S11) from rfl) al) (fun bl w hpost => ?_)
     obtain ⟨rfl, hs⟩ := hpost
     refine O_nil (ar _ _ (fun h _ => absurd h (by decide)) <| OD_resetS sh [] hs (by kernel_rfl) <| Dp 10 sh rfl rfl (by kernel_rfl) (fun w => Y_assign rfl) <| OD_doneS sh (by kernel_rfl) (aq _ _ <| W.weak [(0, _), (4, _), (5, _), (6, _), (7, _), (8, _)] (by repeat first | exact Sub.nil | refine Sub.cons rfl ?_) ?_))
     refine W_seq fun bm au => Wr fun bn av => Om rfl rfl <| Om rfl rfl <| O_y rfl (Y_lss rfl rfl) <| O_nil (av _ _ <| W_if rfl (fun aj => ?_) (fun aj => ?_))
     ·rw [if_pos aj] at H
      refine Wr fun bo aw => Oa rfl rfl <| Oa rfl rfl <| O_nil (aw _ _ <| W_ret ?_)
      obtain rfl := sinj H
      exact ret2 rfl rfl rfl ⟨rfl, hs⟩
     ·rw [if_neg aj] at H
      refine W_skip (au _ _ <| Wr fun bp ax => Om rfl rfl <| Om rfl rfl <| O_y rfl (Y_nilp rfl) <| O_y rfl (Y_field fo163_0 rfl) <| O_y rfl (Y_field fo117_0 rfl) <| O_y rfl (Yb 0 ag3 hs rfl rfl rfl) <| Om rfl rfl <| O_y rfl (Y_sub rfl rfl) <| O_y rfl (Y_mul rfl rfl) <| Oa rfl rfl <| O_nil (ax _ _ ?_))
      refine W.weak [(0, _), (4, _), (5, _), (6, _)] (S4 rfl rfl rfl rfl) <| Wr fun bq ay => Om rfl rfl <| O_y rfl (Y_gtr rfl rfl) <| O_nil (ay _ _ <| W_if rfl (fun ak => ?_) (fun ak => ?_))
      ·rw [if_pos ak] at H
       refine Wr fun br az => Om rfl rfl <| Oa rfl rfl <| Oa rfl rfl <| O_nil (az _ _ <| W_ret ?_)
       obtain rfl := sinj H
       exact ret2 rfl rfl rfl ⟨rfl, hs⟩
      ·rw [if_neg ak] at H
       refine W_skip (a4 _ _ <| W_region <| Om rfl rfl <| Om rfl rfl <| O_y rfl (Y_nilp rfl) <| O_y rfl (Y_field fo163_0 rfl) <| O_y rfl (Y_field fo117_0 rfl) <| O_y rfl (Yb 0 ag3 hs rfl rfl rfl) <| O_y rfl (Y_add rfl rfl) <| Oa rfl rfl <| O_nil (ah (ae, (IntKind.i64.wrap (aa + 1)), (IntKind.i64.wrap (ab + (IntKind.i64.wrap (ag * ac)))), (IntKind.i64.wrap (ac * (IntKind.i64.wrap (y0_0 - af)))), (IntKind.i64.wrap (ad + y0_0))) _ _ (S3 rfl rfl rfl) (Ai H hs) (Nat.lt_succ_self _)))

def puny_boot_adapted.l1 : Nat → S11 → Int → Int → Option Int
  | 0, _, _, _ => none
  | ad + 1, x0, ab, aa => if (IntKind.i64.wrap ((IntKind.i64.wrap ((IntKind.i64.wrap (x0.base - x0.least)) * x0.most)).tdiv 2)) < ab then (if (IntKind.i64.wrap (x0.base - x0.least)) ≠ 0 then ((puny_boot_adapted.l1 ad x0) (IntKind.i64.wrap (ab.tdiv (IntKind.i64.wrap (x0.base - x0.least)))) (IntKind.i64.wrap (aa + x0.base))) else none) else (if (IntKind.i64.wrap (ab + x0.skew)) ≠ 0 then (some (IntKind.i64.wrap (aa + (IntKind.i64.wrap ((IntKind.i64.wrap ((IntKind.i64.wrap ((IntKind.i64.wrap (x0.base - x0.least)) + 1)) * ab)).tdiv (IntKind.i64.wrap (ab + x0.skew))))))) else none)
def puny_boot_adapted.j1 (x0 : S11) (x2 ac : Int) : Option Int := if x2 ≠ 0 then (puny_boot_adapted.l1 K0 x0 (IntKind.i64.wrap (ac + (IntKind.i64.wrap (ac.tdiv x2)))) 0) else none
def puny_boot_adapted.f (x0 : S11) (x1 x2 : Int) (x3 : Bool) : Option Int := if x3 = true then (if x0.damp ≠ 0 then (puny_boot_adapted.j1 x0 x2 (IntKind.i64.wrap (x1.tdiv x0.damp))) else none) else (puny_boot_adapted.j1 x0 x2 (IntKind.i64.wrap (x1.tdiv 2)))
theorem puny_boot_adapted.c {w0 w : World} {ρ : Hp} {Γ : List Item} (hs : St w0 ρ (Γ) w) {c0 : List Value} {x0 : S11} (h0 : rS11.R ρ c0 x0) {x1 x2 : Int} {x3 : Bool} {r : Int} (H : puny_boot_adapted.f x0 x1 x2 x3 = some r) : CallsR Tryz.prog 123 [.agg c0.toArray, .int .i64 x1, .int .i64 x2, .bool x3] w (fun v w' => v = .int .i64 r ∧ St w0 ρ Γ w') := by
  rw [puny_boot_adapted.f] at H
  refine enter Tryz.func123 Tryz.ntmps123 rfl (by kernel_rfl) rfl ?_
  have ak := h0
  obtain rfl := ak
  refine Wr fun a4 al => O_boxN (cs := [.int .i64 x0.base, .int .i64 x0.least, .int .i64 x0.most, .int .i64 x0.skew, .int .i64 x0.damp, .int .i64 x0.bias, .int .i64 x0.first, .int .u8 x0.between]) hs rfl rfl (fun af w hs => Oa rfl rfl <| O_nil (al _ _ <| W_seqj fun am an ai => ?_))
  have aj : ∀ (ac : Int) (w : World), puny_boot_adapted.j1 x0 x2 ac = some r → St w0 ρ ((.box af 117 ([.int .i64 x0.base, .int .i64 x0.least, .int .i64 x0.most, .int .i64 x0.skew, .int .i64 x0.damp, .int .i64 x0.bias, .int .i64 x0.first, .int .u8 x0.between])) :: Γ) w → am [(1, .int .i64 ac), (2, .int .i64 x2), (4, .pointer (some ⟨af, 0, none⟩))] w := by
   intro ac w H hs
   rw [puny_boot_adapted.j1] at H
   refine an _ _ <| Wr fun a5 ao => Om rfl rfl <| Om rfl rfl <| Om rfl rfl ?_
   obtain ⟨ap, H⟩ := gd H
   refine O_y rfl (Y_quo rfl rfl ap) <| O_y rfl (Y_add rfl rfl) <| Oa rfl rfl <| O_nil (ao _ _ <| Wr fun a6 aq => O_y rfl (Y_field fo117_0 rfl) <| O_y rfl (Yb 0 ag3 hs rfl rfl rfl) <| O_y rfl (Y_field fo117_1 rfl) <| O_y rfl (Yb 0 ag3 hs rfl rfl rfl) <| O_y rfl (Y_sub rfl rfl) <| Oa rfl rfl <| O_nil (aq _ _ <| W_seq fun a7 ar => ?_))
   refine W_region <| Oa rfl rfl <| O_nil (ar _ _ <| W.weak [(1, _), (4, _), (9, _), (10, _)] (S4 rfl rfl rfl rfl) <| W_seq fun a8 au => W_block fun a9 av ba => W_loop (σ := Nat × Int × Int) (fun (ad, ab, aa) => [(1, .int .i64 ab), (4, .pointer (some ⟨af, 0, none⟩)), (9, .int .i64 (IntKind.i64.wrap (x0.base - x0.least))), (10, .int .i64 aa)]) (fun (ad, ab, aa) w => puny_boot_adapted.l1 ad x0 ab aa = some r ∧ St w0 ρ ((.box af 117 ([.int .i64 x0.base, .int .i64 x0.least, .int .i64 x0.most, .int .i64 x0.skew, .int .i64 x0.damp, .int .i64 x0.bias, .int .i64 x0.first, .int .u8 x0.between])) :: Γ) w) (fun s => s.1) (K0, (IntKind.i64.wrap (ac + (IntKind.i64.wrap (ac.tdiv x2)))), 0) (S4 rfl rfl rfl rfl) (Ai H hs) ?_)
   rintro ⟨ad, ab, aa⟩ w bb ⟨H, hs⟩ ae
   show W _ _ _ _ _ _ [(1, .int .i64 ab), (4, .pointer (some ⟨af, 0, none⟩)), (9, .int .i64 (IntKind.i64.wrap (x0.base - x0.least))), (10, .int .i64 aa)] w
   cases ad with
   | zero => rw [puny_boot_adapted.l1] at H; cases H
   | succ ad =>
   rw [puny_boot_adapted.l1] at H
   refine W_seq fun bc aw => Wr fun bd ax => Om rfl rfl <| Om rfl rfl <| O_y rfl (Y_field fo117_2 rfl) <| O_y rfl (Yb 0 ag3 hs rfl rfl rfl) <| O_y rfl (Y_mul rfl rfl) <| O_y rfl (Y_quo rfl rfl (by decide)) <| O_y rfl (Y_gtr rfl rfl) <| O_nil (ax _ _ <| W_if rfl (fun ag => ?_) (fun ag => ?_))
   ·rw [if_pos ag] at H
    refine W_skip (aw _ _ <| W_seq fun be ay => W_block fun bf bg bh => W_region <| Om rfl rfl <| Om rfl rfl ?_)
    obtain ⟨az, H⟩ := gd H
    refine O_y rfl (Y_quo rfl rfl az) <| Oa rfl rfl <| O_nil (ay _ _ <| W_region <| Om rfl rfl <| O_y rfl (Y_field fo117_0 rfl) <| O_y rfl (Yb 0 ag3 hs rfl rfl rfl) <| O_y rfl (Y_add rfl rfl) <| Oa rfl rfl <| O_nil (ae (ad, (IntKind.i64.wrap (ab.tdiv (IntKind.i64.wrap (x0.base - x0.least)))), (IntKind.i64.wrap (aa + x0.base))) _ _ (S4 rfl rfl rfl rfl) (Ai H hs) (Nat.lt_succ_self _)))
   ·rw [if_neg ag] at H
    refine W_exit (av _ _ (au _ _ <| Wr fun bi a0 => Om rfl rfl <| Om rfl rfl <| O_y rfl (Y_add rfl rfl) <| Om rfl rfl <| O_y rfl (Y_mul rfl rfl) <| Om rfl rfl <| O_y rfl (Y_field fo117_3 rfl) <| O_y rfl (Yb 0 ag3 hs rfl rfl rfl) <| O_y rfl (Y_add rfl rfl) ?_))
    obtain ⟨a1, H⟩ := gd H
    refine O_y rfl (Y_quo rfl rfl a1) <| O_y rfl (Y_add rfl rfl) <| Oa rfl rfl <| O_nil (a0 _ _ <| W.weak [(8, _)] (S1 rfl) <| W_ret ?_)
    obtain rfl := sinj H
    exact ret1 rfl rfl ⟨rfl, (hs.sub (ssk ssr))⟩
  refine Wr fun bj a2 => Om rfl rfl <| O_nil (a2 _ _ <| W_cond rfl (fun ah => ?_) (fun ah => ?_))
  ·rw [if_pos ah] at H
   refine W_region <| Om rfl rfl <| O_y rfl (Y_field fo117_4 rfl) <| O_y rfl (Yb 0 ag3 hs rfl rfl rfl) ?_
   obtain ⟨a3, H⟩ := gd H
   refine O_y rfl (Y_quo rfl rfl a3) <| Oa rfl rfl <| O_nil (ai _ _ _ (S3 rfl rfl rfl) (aj (IntKind.i64.wrap (x1.tdiv x0.damp)) _ H hs))
  ·rw [if_neg (bft ah)] at H
   refine W_region <| Om rfl rfl <| O_y rfl (Y_quo rfl rfl (by decide)) <| Oa rfl rfl <| O_nil (ai _ _ _ (S3 rfl rfl rfl) (aj (IntKind.i64.wrap (x1.tdiv 2)) _ H hs))

def unicode_utf8_ValidRune.j1 (aa : Bool) : Option Bool := if aa = true then (some true) else (some false)
def unicode_utf8_ValidRune.j2 (x0 : Int) (ab : Bool) : Option Bool := if ab = true then (some true) else (if 57343 < x0 then (unicode_utf8_ValidRune.j1 (decide (x0 ≤ 1114111))) else (unicode_utf8_ValidRune.j1 false))
def unicode_utf8_ValidRune.f (x0 : Int) : Option Bool := if 0 ≤ x0 then (unicode_utf8_ValidRune.j2 x0 (decide (x0 < 55296))) else (unicode_utf8_ValidRune.j2 x0 false)
theorem unicode_utf8_ValidRune.c {w0 w : World} {ρ : Hp} {Γ : List Item} (hs : St w0 ρ (Γ) w) {x0 : Int} {r : Bool} (H : unicode_utf8_ValidRune.f x0 = some r) : CallsR Tryz.prog 173 [.int .i32 x0] w (fun v w' => v = .bool r ∧ St w0 ρ Γ w') := by
  rw [unicode_utf8_ValidRune.f] at H
  refine enter Tryz.func173 Tryz.ntmps173 rfl (by kernel_rfl) rfl <| Wr fun av ak => Oa rfl rfl <| O_nil (ak _ _ <| W_seq fun aw al => W_block fun ax ay az => W_seqj fun am an ag => ?_)
  have ah : ∀ (ab : Bool) (w : World), unicode_utf8_ValidRune.j2 x0 ab = some r → St w0 ρ (Γ) w → am [(0, .int .i32 x0), (3, .bool ab)] w := by
   intro ab w H hs
   rw [unicode_utf8_ValidRune.j2] at H
   refine an _ _ <| W_cond rfl (fun ac => ?_) (fun ac => ?_)
   ·rw [if_pos ac] at H
    refine Wr fun a0 ao => Oa rfl rfl <| O_nil (ao _ _ <| W_ret ?_)
    obtain rfl := sinj H
    exact ret1 rfl rfl ⟨rfl, hs⟩
   ·rw [if_neg (bft ac)] at H
    refine W_seqj fun ap aq ai => ?_
    have aj : ∀ (aa : Bool) (w : World), unicode_utf8_ValidRune.j1 aa = some r → St w0 ρ (Γ) w → ap [(10, .bool aa)] w := by
     intro aa w H hs
     rw [unicode_utf8_ValidRune.j1] at H
     refine aq _ _ <| W_cond rfl (fun ad => ?_) (fun ad => ?_)
     ·rw [if_pos ad] at H
      refine Wr fun a1 ar => Oa rfl rfl <| O_nil (ar _ _ <| W_ret ?_)
      obtain rfl := sinj H
      exact ret1 rfl rfl ⟨rfl, hs⟩
     ·rw [if_neg (bft ad)] at H
      refine W_skip (al _ _ <| Wr fun a2 au => Oa rfl rfl <| O_nil (au _ _ <| W_ret ?_))
      obtain rfl := sinj H
      exact ret1 rfl rfl ⟨rfl, hs⟩
    refine W_region <| Om rfl rfl <| O_y rfl (Y_lss rfl rfl) <| Om rfl rfl <| O_if (dj := 13) rfl (fun ae => ?_) (fun ae => ?_)
    ·rw [if_pos ae] at H
     refine O_yes rfl rfl <| Om rfl rfl <| O_yes rfl rfl <| O_y rfl (Y_leq rfl rfl) <| O_y rfl (Y_pick_t rfl rfl) <| Oa rfl rfl <| O_nil (ai _ _ _ (S1 rfl) (aj (decide (x0 ≤ 1114111)) _ H hs))
    ·rw [if_neg ae] at H
     refine O_no rfl rfl rfl rfl <| O_no rfl rfl rfl rfl <| O_y rfl (Y_pick_f rfl rfl) <| Oa rfl rfl <| O_nil (ai _ _ _ (S1 rfl) (aj false _ H hs))
  refine W_region <| Om rfl rfl <| O_y rfl (Y_leq rfl rfl) <| Om rfl rfl <| O_if (dj := 6) rfl (fun af => ?_) (fun af => ?_)
  ·rw [if_pos af] at H
   refine O_yes rfl rfl <| Om rfl rfl <| O_yes rfl rfl <| O_y rfl (Y_lss rfl rfl) <| O_y rfl (Y_pick_t rfl rfl) <| Oa rfl rfl <| O_nil (ag _ _ _ (S2 rfl rfl) (ah (decide (x0 < 55296)) _ H hs))
  ·rw [if_neg af] at H
   refine O_no rfl rfl rfl rfl <| O_no rfl rfl rfl rfl <| O_y rfl (Y_pick_f rfl rfl) <| Oa rfl rfl <| O_nil (ag _ _ _ (S2 rfl rfl) (ah false _ H hs))

def scalar_Scalar.f (x0 : Int) : Option Bool := (unicode_utf8_ValidRune.f x0).bind fun ab => (some ab)
theorem scalar_Scalar.c {w0 w : World} {ρ : Hp} {Γ : List Item} (hs : St w0 ρ (Γ) w) {x0 : Int} {r : Bool} (H : scalar_Scalar.f x0 = some r) : CallsR Tryz.prog 155 [.int .i32 x0] w (fun v w' => v = .bool r ∧ St w0 ρ Γ w') := by
  rw [scalar_Scalar.f] at H
  refine enter Tryz.func155 Tryz.ntmps155 rfl (by kernel_rfl) rfl <| Wr fun ae ac => Oa rfl rfl <| O_nil (ac _ _ <| Wr fun af ad => Om rfl rfl ?_)
  obtain ⟨ab, aa, H⟩ := bnd H
  refine O_call rfl rfl (unicode_utf8_ValidRune.c hs aa) (fun ag w hpost => ?_)
  obtain ⟨rfl, hs⟩ := hpost
  refine Oa rfl rfl <| O_nil (ad _ _ <| W_ret ?_)
  obtain rfl := sinj H
  exact ret1 rfl rfl ⟨rfl, hs⟩

def puny_reader_next_ndm.f (y0_0 y0_1 y0_2 y0_3 y0_4 y0_5 y0_6 y0_7 : Int) (y0_8 : ByteArray) (y0_9 y0_11 y0_12 y0_13 : Int) (y1 : List Int) : Option (Int × Int × Int × Int × Int × Int × List Int) := (puny_reader_number_ndm.f y0_0 y0_1 y0_2 y0_3 y0_4 y0_5 y0_6 y0_7 y0_8 y0_9 y0_11 y0_12 y0_13 y1).bind fun aa => (if aa.2.1 ≠ 0 then (some (aa.1, aa.2.1, aa.2.2.1, y0_11, aa.2.2.2, y0_13, y1)) else ((puny_boot_adapted.f (⟨y0_0, y0_1, y0_2, y0_3, y0_4, y0_5, y0_6, y0_7⟩ : S11) (IntKind.i64.wrap (aa.2.2.2 - y0_12)) (IntKind.i64.wrap ((y1.length : Int) + 1)) (decide (y0_12 = 0))).bind fun ad => (if (IntKind.i64.wrap ((y1.length : Int) + 1)) ≠ 0 then (if 1114111 < (IntKind.i64.wrap (y0_11 + (IntKind.i64.wrap (aa.2.2.2.tdiv (IntKind.i64.wrap ((y1.length : Int) + 1)))))) then (some (IntKind.i64.wrap (aa.2.2.1 - 1), 142, aa.2.2.1, IntKind.i64.wrap (y0_11 + (IntKind.i64.wrap (aa.2.2.2.tdiv (IntKind.i64.wrap ((y1.length : Int) + 1))))), aa.2.2.2.tmod (IntKind.i64.wrap ((y1.length : Int) + 1)), ad, y1)) else ((scalar_Scalar.f (IntKind.i32.wrap (IntKind.i64.wrap (y0_11 + (IntKind.i64.wrap (aa.2.2.2.tdiv (IntKind.i64.wrap ((y1.length : Int) + 1)))))))).bind fun au => (if (!au) = true then (some (IntKind.i64.wrap (aa.2.2.1 - 1), 143, aa.2.2.1, IntKind.i64.wrap (y0_11 + (IntKind.i64.wrap (aa.2.2.2.tdiv (IntKind.i64.wrap ((y1.length : Int) + 1))))), aa.2.2.2.tmod (IntKind.i64.wrap ((y1.length : Int) + 1)), ad, y1)) else (if (0 : Int) ≤ aa.2.2.2.tmod (IntKind.i64.wrap ((y1.length : Int) + 1)) ∧ aa.2.2.2.tmod (IntKind.i64.wrap ((y1.length : Int) + 1)) ≤ (y1.length : Int) ∧ y1.length + 1 ≤ most then (some (0, 0, aa.2.2.1, IntKind.i64.wrap (y0_11 + (IntKind.i64.wrap (aa.2.2.2.tdiv (IntKind.i64.wrap ((y1.length : Int) + 1))))), IntKind.i64.wrap ((aa.2.2.2.tmod (IntKind.i64.wrap ((y1.length : Int) + 1))) + 1), ad, insZ y1 (aa.2.2.2.tmod (IntKind.i64.wrap ((y1.length : Int) + 1))) (IntKind.i32.wrap (IntKind.i64.wrap (y0_11 + (IntKind.i64.wrap (aa.2.2.2.tdiv (IntKind.i64.wrap ((y1.length : Int) + 1))))))))) else none)))) else none)))
theorem puny_reader_next_ndm.c {w0 w : World} {ρ : Hp} {Γ : List Item} {pb0 : Nat} {y0_0 y0_1 y0_2 y0_3 y0_4 y0_5 y0_6 y0_7 : Int} {y0_8 : ByteArray} {y0_9 y0_11 y0_12 y0_13 : Int} {w1 : Value} {d1 : List Value} {y1 : List Int} (hs : St w0 ρ ((.box pb0 163 ([.int .i64 y0_0, .int .i64 y0_1, .int .i64 y0_2, .int .i64 y0_3, .int .i64 y0_4, .int .i64 y0_5, .int .i64 y0_6, .int .u8 y0_7, .string y0_8, .int .i64 y0_9, w1, .int .i64 y0_11, .int .i64 y0_12, .int .i64 y0_13])) :: (.row w1 21 ((Rep.int .i32).sz) y1.length d1) :: Γ) w) (g1 : RowR (Rep.int .i32) ρ d1 y1) {r : Int × Int × Int × Int × Int × Int × List Int} (H : puny_reader_next_ndm.f y0_0 y0_1 y0_2 y0_3 y0_4 y0_5 y0_6 y0_7 y0_8 y0_9 y0_11 y0_12 y0_13 y1 = some r) : CallsR Tryz.prog 127 [.pointer (some ⟨pb0, 0, none⟩)] w (fun v w' => ∃ (ρ' : Hp) (u4 : Value) (ds4 : List Value), v = .tuple #[.int .i64 r.1, .int .i64 r.2.1] ∧ Le ρ ρ' ∧ St w0 ρ' ((.box pb0 163 ([.int .i64 y0_0, .int .i64 y0_1, .int .i64 y0_2, .int .i64 y0_3, .int .i64 y0_4, .int .i64 y0_5, .int .i64 y0_6, .int .u8 y0_7, .string y0_8, .int .i64 r.2.2.1, u4, .int .i64 r.2.2.2.1, .int .i64 r.2.2.2.2.1, .int .i64 r.2.2.2.2.2.1])) :: (.row u4 21 ((Rep.int .i32).sz) r.2.2.2.2.2.2.length ds4) :: Γ) w' ∧ RowR (Rep.int .i32) ρ' ds4 r.2.2.2.2.2.2) := by
  rw [puny_reader_next_ndm.f] at H
  refine enter Tryz.func127 Tryz.ntmps127 rfl (by kernel_rfl) rfl <| Wr fun bn ax => Oa rfl rfl <| Oa rfl rfl <| O_nil (ax _ _ <| Wr fun bo ay => Om rfl rfl <| O_y rfl (Y_nilp rfl) <| O_y rfl (Y_field fo163_5 rfl) <| O_y rfl (Yb 0 ag3 hs rfl rfl rfl) <| Oa rfl rfl <| O_nil (ay _ _ ?_))
  refine W_seq fun bp az => Wr fun bq a0 => Om rfl rfl ?_
  have hs := hs.front 1 rfl
  have hs := hs.front 1 rfl
  obtain ⟨aa, ae, H⟩ := bnd H
  refine O_call rfl rfl (puny_reader_number_ndm.c hs g1 ae) (fun br w hpost => ?_)
  obtain ⟨rfl, hs⟩ := hpost
  have hs := hs.sink 1
  have hs := hs.sink 1
  refine Om rfl rfl <| O_y rfl (Y_extract rfl rfl) <| O_y rfl (Y_extract rfl rfl) <| Oa rfl rfl <| Oa rfl rfl <| O_nil (a0 _ _ <| W.weak [(0, _), (4, _), (5, _), (6, _)] (S4 rfl rfl rfl rfl) <| Wr fun bs a1 => Om rfl rfl <| O_y rfl (Y_neq rfl rfl) <| O_nil (a1 _ _ <| W_if rfl (fun af => ?_) (fun af => ?_)))
  ·rw [if_pos af] at H
   refine Wr fun bt a2 => Om rfl rfl <| Om rfl rfl <| Oa rfl rfl <| Oa rfl rfl <| O_nil (a2 _ _ <| W_ret ?_)
   obtain rfl := sinj H
   exact ret2 rfl rfl rfl ⟨_, _, _, rfl, Le.rfl' _, hs, g1⟩
  ·rw [if_neg af] at H
   refine W_skip (az _ _ <| Wr fun bu a3 => Om rfl rfl <| O_y rfl (Y_nilp rfl) <| O_y rfl (Y_field fo163_3 rfl) <| O_y rfl (Yb 0 ag28 hs rfl rfl rfl) <| O_y rfl (Y_lenRow (i := 1) un28 hs rfl rfl) <| O_y rfl (Y_add rfl rfl) <| Oa rfl rfl <| O_nil (a3 _ _ <| W_seq fun bv a4 => W_drawS 18 [0, 0, 2, 4, 8, 0, 32, 64, 128, 0, 768, 0, 0, 4096, 11280, 32767, 65535, 98303] [32766, 32761, 32753, 32737, 16353, 32671, 32543, 32287, 31263, 31231, 14367, 14335, 20479, 4095, 1, 131072, 0, 0] [0, 0, 2, 6, 14, 0, 32, 96, 224, 0, 992, 0, 0, 4096, 16382, 32767, 65535, 131071] [14, 15, 16, 17] (fun w => St w0 ρ ((.box pb0 163 ([.int .i64 y0_0, .int .i64 y0_1, .int .i64 y0_2, .int .i64 y0_3, .int .i64 y0_4, .int .i64 y0_5, .int .i64 y0_6, .int .u8 y0_7, .string y0_8, .int .i64 aa.2.2.1, w1, .int .i64 y0_11, .int .i64 aa.2.2.2, .int .i64 y0_13])) :: (.row w1 21 ((Rep.int .i32).sz) y1.length d1) :: Γ) w) mixed (by kernel_rfl) (fun sh => ?_)))
   have hs := hs.drew
   refine Dm 0 sh rfl rfl (by kernel_rfl) rfl <| Dm 1 sh rfl rfl (by kernel_rfl) rfl <| Dp 2 sh rfl rfl (by kernel_rfl) (fun w => Y_nilp rfl) <| Dp 3 sh rfl rfl (by kernel_rfl) (fun w => Y_field fo163_0 rfl) <| Dy 4 sh rfl rfl (by kernel_rfl) hs (fun w hs => Y_loadbN (i := 0) ag117 sz117 hs rfl rfl rfl rfl) <| Dm 5 sh rfl rfl (by kernel_rfl) rfl <| Dp 6 sh rfl rfl (by kernel_rfl) (fun w => Y_nilp rfl) <| Dp 7 sh rfl rfl (by kernel_rfl) (fun w => Y_field fo163_5 rfl) <| Dy 8 sh rfl rfl (by kernel_rfl) hs (fun w hs => Yb 0 ag3 hs rfl rfl rfl) <| Dm 9 sh rfl rfl (by kernel_rfl) rfl <| Dp 10 sh rfl rfl (by kernel_rfl) (fun w => Y_sub rfl rfl) <| Dm 11 sh rfl rfl (by kernel_rfl) rfl <| Dm 12 sh rfl rfl (by kernel_rfl) rfl <| Dp 13 sh rfl rfl (by kernel_rfl) (fun w => Y_eql rfl rfl) ?_
   refine D1 14 sh rfl (by kernel_rfl) (fun bw a5 => ?_)
   obtain ⟨ad, ag, H⟩ := bnd H
   refine O_call rfl rfl (puny_boot_adapted.c hs (show rS11.R ρ _ (⟨y0_0, y0_1, y0_2, y0_3, y0_4, y0_5, y0_6, y0_7⟩ : S11) from rfl) ag) (fun bx w hpost => ?_)
   obtain ⟨rfl, hs⟩ := hpost
   refine O_nil (a5 _ _ (fun h _ => absurd h (by decide)) <| OD_resetS sh [17] hs (by kernel_rfl) <| Dp 15 sh rfl rfl (by kernel_rfl) (fun w => Y_nilp rfl) <| Dp 16 sh rfl rfl (by kernel_rfl) (fun w => Y_field fo163_6 rfl) <| D1 17 sh rfl (by kernel_rfl) (fun bz a6 => O_store (i := 0) sz3 hs rfl rfl rfl rfl rfl (fun w hs => O_nil (a6 _ _ (fun h _ => absurd h (by decide)) <| OD_doneS sh (by kernel_rfl) (a4 _ _ <| W.weak [(0, _), (7, _)] (S2 rfl rfl) <| W_seq fun b0 a7 => W_drawS 14 [0, 1, 2, 4, 0, 16, 32, 64, 0, 384, 520, 2047, 4095, 6143] [2044, 2040, 2032, 1008, 1999, 1935, 1807, 1295, 1279, 15, 0, 8192, 0, 0] [0, 1, 3, 7, 0, 16, 48, 112, 0, 496, 1023, 2047, 4095, 8191] [13] (fun w => St w0 ρ ((.box pb0 163 ([.int .i64 y0_0, .int .i64 y0_1, .int .i64 y0_2, .int .i64 y0_3, .int .i64 y0_4, .int .i64 y0_5, .int .i64 y0_6, .int .u8 y0_7, .string y0_8, .int .i64 aa.2.2.1, w1, .int .i64 y0_11, .int .i64 aa.2.2.2, .int .i64 ad])) :: (.row w1 21 ((Rep.int .i32).sz) y1.length d1) :: Γ) w) mixed (by kernel_rfl) (fun sh => ?_))))))
   have hs := hs.drew
   refine Dm 0 sh rfl rfl (by kernel_rfl) rfl <| Dp 1 sh rfl rfl (by kernel_rfl) (fun w => Y_nilp rfl) <| Dp 2 sh rfl rfl (by kernel_rfl) (fun w => Y_field fo163_4 rfl) <| Dy 3 sh rfl rfl (by kernel_rfl) hs (fun w hs => Yb 0 ag3 hs rfl rfl rfl) <| Dm 4 sh rfl rfl (by kernel_rfl) rfl <| Dp 5 sh rfl rfl (by kernel_rfl) (fun w => Y_nilp rfl) <| Dp 6 sh rfl rfl (by kernel_rfl) (fun w => Y_field fo163_5 rfl) <| Dy 7 sh rfl rfl (by kernel_rfl) hs (fun w hs => Yb 0 ag3 hs rfl rfl rfl) <| Dm 8 sh rfl rfl (by kernel_rfl) rfl ?_
   obtain ⟨av, H⟩ := gd H
   refine Dp 9 sh rfl rfl (by kernel_rfl) (fun w => Y_quo rfl rfl av) <| Dp 10 sh rfl rfl (by kernel_rfl) (fun w => Y_add rfl rfl) <| Dp 11 sh rfl rfl (by kernel_rfl) (fun w => Y_nilp rfl) <| Dp 12 sh rfl rfl (by kernel_rfl) (fun w => Y_field fo163_4 rfl) <| D1 13 sh rfl (by kernel_rfl) (fun b1 a8 => O_store (i := 0) sz3 hs rfl rfl rfl rfl rfl (fun w hs => O_nil (a8 _ _ (fun h _ => absurd h (by decide)) <| OD_doneS sh (by kernel_rfl) (a7 _ _ <| W.weak [(0, _), (7, _)] (S2 rfl rfl) <| Wr fun b2 a9 => Om rfl rfl <| O_y rfl (Y_nilp rfl) <| O_y rfl (Y_field fo163_5 rfl) ?_))))
   refine O_y rfl (Yb 0 ag3 hs rfl rfl rfl) <| Om rfl rfl <| O_y rfl (Y_rem rfl rfl av) <| O_y rfl (Y_nilp rfl) <| O_y rfl (Y_field fo163_5 rfl) <| O_store (i := 0) sz3 hs rfl rfl rfl rfl rfl (fun w hs => O_nil (a9 _ _ <| W_seq fun b3 ba => W_block fun b4 b5 b6 => Wr fun b7 bb => Om rfl rfl <| O_y rfl (Y_nilp rfl) <| O_y rfl (Y_field fo163_4 rfl) ?_))
   refine O_y rfl (Yb 0 ag3 hs rfl rfl rfl) <| O_y rfl (Y_gtr rfl rfl) <| Oa rfl rfl <| O_nil (bb _ _ <| W.weak [(0, _), (65, _)] (S2 rfl rfl) <| W_if rfl (fun ah => ?_) (fun ah => ?_))
   ·rw [if_pos ah] at H
    refine Wr fun b8 bc => Om rfl rfl <| O_y rfl (Y_nilp rfl) <| O_y rfl (Y_field fo163_2 rfl) <| O_y rfl (Yb 0 ag3 hs rfl rfl rfl) <| O_y rfl (Y_sub rfl rfl) <| Oa rfl rfl <| Oa rfl rfl <| O_nil (bc _ _ <| W_ret ?_)
    obtain rfl := sinj H
    exact ret2 rfl rfl rfl ⟨_, _, _, rfl, Le.rfl' _, hs, g1⟩
   ·rw [if_neg ah] at H
    refine Wr fun b9 bd => Om rfl rfl <| O_y rfl (Y_nilp rfl) <| O_y rfl (Y_field fo163_4 rfl) <| O_y rfl (Yb 0 ag3 hs rfl rfl rfl) <| O_y rfl (Y_conv un3 un21 rfl) ?_
    obtain ⟨au, ai, H⟩ := bnd H
    refine O_call rfl rfl (scalar_Scalar.c hs ai) (fun ca w hpost => ?_)
    obtain ⟨rfl, hs⟩ := hpost
    refine O_y rfl (Y_not rfl) <| Oa rfl rfl <| O_nil (bd _ _ <| W_cond rfl (fun ab => ?_) (fun ab => ?_))
    ·rw [if_pos ab] at H
     refine Wr fun be aj => Om rfl rfl <| O_y rfl (Y_nilp rfl) <| O_y rfl (Y_field fo163_2 rfl) <| O_y rfl (Yb 0 ag3 hs rfl rfl rfl) <| O_y rfl (Y_sub rfl rfl) <| Oa rfl rfl <| Oa rfl rfl <| O_nil (aj _ _ <| W.weak [(2, _), (3, _)] (S2 rfl rfl) <| W_ret ?_)
     obtain rfl := sinj H
     exact ret2 rfl rfl rfl ⟨_, _, _, rfl, Le.rfl' _, hs, g1⟩
    ·rw [if_neg (bft ab)] at H
     refine W_skip (ba _ _ <| W_seq fun bf ak => W_drawS 19 [0, 0, 2, 4, 8, 0, 32, 64, 128, 0, 512, 1024, 2048, 4096, 8192, 16656, 65535, 131071, 196607] [65534, 65529, 65521, 65505, 32737, 65439, 65311, 65055, 32287, 63999, 61951, 57855, 49663, 33279, 511, 1, 262144, 0, 0] [0, 0, 2, 6, 14, 0, 32, 96, 224, 0, 512, 1536, 3584, 7680, 15872, 32766, 65535, 131071, 262143] [15, 16, 17, 18] (fun w => St w0 ρ ((.box pb0 163 ([.int .i64 y0_0, .int .i64 y0_1, .int .i64 y0_2, .int .i64 y0_3, .int .i64 y0_4, .int .i64 y0_5, .int .i64 y0_6, .int .u8 y0_7, .string y0_8, .int .i64 aa.2.2.1, w1, .int .i64 (IntKind.i64.wrap (y0_11 + (IntKind.i64.wrap (aa.2.2.2.tdiv (IntKind.i64.wrap ((y1.length : Int) + 1)))))), .int .i64 (aa.2.2.2.tmod (IntKind.i64.wrap ((y1.length : Int) + 1))), .int .i64 ad])) :: (.row w1 21 ((Rep.int .i32).sz) y1.length d1) :: Γ) w) mixed (by kernel_rfl) (fun sh => ?_))
     have hs := hs.drew
     refine Dm 0 sh rfl rfl (by kernel_rfl) rfl <| Dm 1 sh rfl rfl (by kernel_rfl) rfl <| Dp 2 sh rfl rfl (by kernel_rfl) (fun w => Y_nilp rfl) <| Dp 3 sh rfl rfl (by kernel_rfl) (fun w => Y_field fo163_3 rfl) <| Dy 4 sh rfl rfl (by kernel_rfl) hs (fun w hs => Yb 0 ag28 hs rfl rfl rfl) <| Dm 5 sh rfl rfl (by kernel_rfl) rfl <| Dp 6 sh rfl rfl (by kernel_rfl) (fun w => Y_nilp rfl) <| Dp 7 sh rfl rfl (by kernel_rfl) (fun w => Y_field fo163_5 rfl) <| Dy 8 sh rfl rfl (by kernel_rfl) hs (fun w hs => Yb 0 ag3 hs rfl rfl rfl) <| Dm 9 sh rfl rfl (by kernel_rfl) rfl <| Dp 10 sh rfl rfl (by kernel_rfl) (fun w => Y_nilp rfl) <| Dp 11 sh rfl rfl (by kernel_rfl) (fun w => Y_field fo163_4 rfl) <| Dy 12 sh rfl rfl (by kernel_rfl) hs (fun w hs => Yb 0 ag3 hs rfl rfl rfl) <| Dp 13 sh rfl rfl (by kernel_rfl) (fun w => Y_conv un3 un21 rfl) ?_
     refine D1 14 sh rfl (by kernel_rfl) (fun bg al => O_lit2 (xs := [.tmp 102]) (cs := [.int .i32 (IntKind.i32.wrap (IntKind.i64.wrap (y0_11 + (IntKind.i64.wrap (aa.2.2.2.tdiv (IntKind.i64.wrap ((y1.length : Int) + 1)))))))]) el28 hs rfl rfl rfl (by decide) (by decide) rfl (sz_cons rfl sz_nil) (flat_cons rfl flat_nil) (fun bh w hs => ?_))
     have am : RowR (Rep.int .i32) ρ ([.int .i32 (IntKind.i32.wrap (IntKind.i64.wrap (y0_11 + (IntKind.i64.wrap (aa.2.2.2.tdiv (IntKind.i64.wrap ((y1.length : Int) + 1)))))))]) [IntKind.i32.wrap (IntKind.i64.wrap (y0_11 + (IntKind.i64.wrap (aa.2.2.2.tdiv (IntKind.i64.wrap ((y1.length : Int) + 1))))))] := RowR.cons (c := [.int .i32 (IntKind.i32.wrap (IntKind.i64.wrap (y0_11 + (IntKind.i64.wrap (aa.2.2.2.tdiv (IntKind.i64.wrap ((y1.length : Int) + 1)))))))]) (x := IntKind.i32.wrap (IntKind.i64.wrap (y0_11 + (IntKind.i64.wrap (aa.2.2.2.tdiv (IntKind.i64.wrap ((y1.length : Int) + 1))))))) rfl (RowR.nil _ _)
     refine O_nil (al _ _ (fun _ _ => (hs.sub (ssk (ssc (ssc ssr))))) ?_)
     obtain ⟨ac, H⟩ := gd H
     refine D1 15 sh rfl (by kernel_rfl) (fun bi an => ?_)
     have hs := hs.front 2 rfl
     refine O_call rfl rfl (slices_Insert.c hs g1 am ac.1 ac.2.1 ac.2.2) (fun bj w hpost => ?_)
     obtain ⟨aw, hs, ao⟩ := hpost
     have hs := hs.sink 1
     refine O_nil (an _ _ (fun h _ => absurd h (by decide)) <| OD_resetS sh [18] hs (by kernel_rfl) <| Dp 16 sh rfl rfl (by kernel_rfl) (fun w => Y_nilp rfl) <| Dp 17 sh rfl rfl (by kernel_rfl) (fun w => Y_field fo163_3 rfl) <| D1 18 sh rfl (by kernel_rfl) (fun bk ap => O_store (i := 0) sz28 hs rfl rfl rfl rfl (St.rowOne hs (j := 1) rfl) (fun w hs => O_nil (ap _ _ (fun h _ => absurd h (by decide)) <| OD_doneS sh (by kernel_rfl) (ak _ _ <| W.weak [(0, _)] (S1 rfl) <| Wr fun bl aq => Om rfl rfl <| O_y rfl (Y_nilp rfl) <| O_y rfl (Y_field fo163_5 rfl) ?_)))))
     refine O_y rfl (Yb 0 ag3 hs rfl rfl rfl) <| O_y rfl (Y_add rfl rfl) <| O_y rfl (Y_nilp rfl) <| O_y rfl (Y_field fo163_5 rfl) <| O_store (i := 0) sz3 hs rfl rfl rfl rfl rfl (fun w hs => O_nil (aq _ _ <| Wr fun bm ar => Oa rfl rfl <| Oa rfl rfl <| O_nil (ar _ _ <| W_ret ?_)))
     obtain rfl := sinj H
     exact ret2 rfl rfl rfl ⟨_, _, _, rfl, Le.rfl' _, hs, ao⟩

def puny_boot_decode.l1 : Nat → S11 → ByteArray → List Int → Int → Int → Int → Int → Option (List Int × Int × Int)
  | 0, _, _, _, _, _, _, _ => none
  | am + 1, x0, x1, ae, aa, ab, ac, ad => if aa < (x1.size : Int) then ((puny_reader_next_ndm.f x0.base x0.least x0.most x0.skew x0.damp x0.bias x0.first x0.between x1 aa ab ac ad ae).bind fun ao => (if ao.2.1 ≠ 0 then (some (([] : List Int), ao.1, ao.2.1)) else ((puny_boot_decode.l1 am x0 x1) ao.2.2.2.2.2.2 ao.2.2.1 ao.2.2.2.1 ao.2.2.2.2.1 ao.2.2.2.2.2.1))) else (some (ae, 0, 0))
def puny_boot_decode.j1 (x0 : S11) (x1 : ByteArray) (ag : List Int) (af : Int) : Option (List Int × Int × Int) := puny_boot_decode.l1 K0 x0 x1 ag af x0.first 0 x0.bias
def puny_boot_decode.f (x0 : S11) (x1 : ByteArray) : Option (List Int × Int × Int) := (strings_LastIndexByte.f x1 x0.between).bind fun al => (if 0 < al then (if (0 : Int) ≤ 0 ∧ 0 ≤ al ∧ al ≤ (x1.size : Int) then ((bytes_IndexFunc_mjo.f (bytesI (x1.extract (0 : Int).toNat (al : Int).toNat)) x0.base x0.least x0.most x0.skew x0.damp x0.bias x0.first x0.between).bind fun ay => (if 0 ≤ ay then (some (([] : List Int), ay, 141)) else (if (runesL (x1.extract (0 : Int).toNat (al : Int).toNat)).length ≤ most then (puny_boot_decode.j1 x0 x1 (runesL (x1.extract (0 : Int).toNat (al : Int).toNat)) (IntKind.i64.wrap (al + 1))) else none))) else none) else (puny_boot_decode.j1 x0 x1 ([] : List Int) 0))
theorem puny_boot_decode.c {w0 w : World} {ρ : Hp} {Γ : List Item} (hs : St w0 ρ (Γ) w) {c0 : List Value} {x0 : S11} (h0 : rS11.R ρ c0 x0) {x1 : ByteArray} {r : List Int × Int × Int} (H : puny_boot_decode.f x0 x1 = some r) : CallsR Tryz.prog 71 [.agg c0.toArray, .string x1] w (fun v w' => ∃ (ρ' : Hp) (v0 : Value) (cs0 : List Value), v = .tuple #[v0, .int .i64 r.2.1, .int .i64 r.2.2] ∧ Le ρ ρ' ∧ St w0 ρ' (.row v0 21 (Rep.int .i32).sz r.1.length cs0 :: Γ) w' ∧ RowR (Rep.int .i32) ρ' cs0 r.1) := by
  rw [puny_boot_decode.f] at H
  refine enter Tryz.func71 Tryz.ntmps71 rfl (by kernel_rfl) rfl ?_
  have bs := h0
  obtain rfl := bs
  refine Wr fun cj bt => O_boxN (cs := [.int .i64 x0.base, .int .i64 x0.least, .int .i64 x0.most, .int .i64 x0.skew, .int .i64 x0.damp, .int .i64 x0.bias, .int .i64 x0.first, .int .u8 x0.between]) hs rfl rfl (fun bo w hs => Oa rfl rfl <| Oa rfl rfl <| Oa rfl rfl <| O_nil (bt _ _ <| Wr fun ck bu => O_y rfl (Y_loadbN (i := 0) ag117 sz117 hs rfl rfl rfl rfl) <| Om rfl rfl <| O_y rfl (Y_field fo117_6 rfl) <| O_y rfl (Yb 0 ag3 hs rfl rfl rfl) <| O_y rfl (Y_field fo117_5 rfl) ?_))
  refine O_y rfl (Yb 0 ag3 hs rfl rfl rfl) <| O_y rfl (Y_build (cs := [.int .i64 x0.base, .int .i64 x0.least, .int .i64 x0.most, .int .i64 x0.skew, .int .i64 x0.damp, .int .i64 x0.bias, .int .i64 x0.first, .int .u8 x0.between, .string x1, .int .i64 0, .slice none 0 0, .int .i64 x0.first, .int .i64 0, .int .i64 x0.bias]) zr163 pl163 ((Parts.cons rfl rfl (Parts.cons rfl rfl (Parts.cons rfl rfl (Parts.cons rfl rfl Parts.nil))))) ag163 (by kernel_rfl)) <| O_boxN (cs := [.int .i64 x0.base, .int .i64 x0.least, .int .i64 x0.most, .int .i64 x0.skew, .int .i64 x0.damp, .int .i64 x0.bias, .int .i64 x0.first, .int .u8 x0.between, .string x1, .int .i64 0, .slice none 0 0, .int .i64 x0.first, .int .i64 0, .int .i64 x0.bias]) hs rfl rfl (fun a2 w hs => Oa rfl rfl <| O_nil (bu _ _ <| W.weak [(1, _), (2, _), (7, _)] (S3 rfl rfl rfl) ?_))
  have hs := hs.rowNil 21 (Rep.int .i32).sz
  have bv := RowR.nil (Rep.int .i32) ρ
  refine W_seqj fun bw bx bp => ?_
  have bq : ∀ (ag : List Int) (af : Int) (ah : Value) (ai : List Value) (ap : Hp) (w : World), puny_boot_decode.j1 x0 x1 ag af = some r → Le ρ ap → St w0 ap ((.row ah 21 ((Rep.int .i32).sz) ag.length ai) :: (.box a2 163 ([.int .i64 x0.base, .int .i64 x0.least, .int .i64 x0.most, .int .i64 x0.skew, .int .i64 x0.damp, .int .i64 x0.bias, .int .i64 x0.first, .int .u8 x0.between, .string x1, .int .i64 af, ah, .int .i64 x0.first, .int .i64 0, .int .i64 x0.bias])) :: (.box bo 117 ([.int .i64 x0.base, .int .i64 x0.least, .int .i64 x0.most, .int .i64 x0.skew, .int .i64 x0.damp, .int .i64 x0.bias, .int .i64 x0.first, .int .u8 x0.between])) :: Γ) w → RowR (Rep.int .i32) ap ai ag → bw [(1, .string x1), (7, .pointer (some ⟨a2, 0, none⟩))] w := by
   intro ag af ah ai ap w H aw hs ar
   rw [puny_boot_decode.j1] at H
   refine bx _ _ <| W_seq fun cl bz => W_block fun cm b0 cn => W_loop (σ := Nat × List Int × Int × Int × Int × Int × Value × List Value × Hp) (fun (am, ae, aa, ab, ac, ad, aj, ak, au) => [(1, .string x1), (7, .pointer (some ⟨a2, 0, none⟩))]) (fun (am, ae, aa, ab, ac, ad, aj, ak, au) w => puny_boot_decode.l1 am x0 x1 ae aa ab ac ad = some r ∧ Le ap au ∧ St w0 au ((.row aj 21 ((Rep.int .i32).sz) ae.length ak) :: (.box a2 163 ([.int .i64 x0.base, .int .i64 x0.least, .int .i64 x0.most, .int .i64 x0.skew, .int .i64 x0.damp, .int .i64 x0.bias, .int .i64 x0.first, .int .u8 x0.between, .string x1, .int .i64 aa, aj, .int .i64 ab, .int .i64 ac, .int .i64 ad])) :: (.box bo 117 ([.int .i64 x0.base, .int .i64 x0.least, .int .i64 x0.most, .int .i64 x0.skew, .int .i64 x0.damp, .int .i64 x0.bias, .int .i64 x0.first, .int .u8 x0.between])) :: Γ) w ∧ RowR (Rep.int .i32) au ak ae) (fun s => s.1) (K0, ag, af, x0.first, 0, x0.bias, ah, ai, ap) (S2 rfl rfl) (Ai H (Ai (Le.rfl' _) (Ai hs ar))) ?_
   rintro ⟨am, ae, aa, ab, ac, ad, aj, ak, au⟩ w co ⟨H, av, hs, an⟩ az
   show W _ _ _ _ _ _ [(1, .string x1), (7, .pointer (some ⟨a2, 0, none⟩))] w
   cases am with
   | zero => rw [puny_boot_decode.l1] at H; cases H
   | succ am =>
   rw [puny_boot_decode.l1] at H
   refine W_seq fun cp b1 => Wr fun cq b2 => Om rfl rfl <| O_y rfl (Y_nilp rfl) <| O_y rfl (Y_field fo163_2 rfl) <| O_y rfl (Yb 1 ag3 hs rfl rfl rfl) <| Om rfl rfl <| O_y rfl (Y_lens un9 rfl) <| O_y rfl (Y_lss rfl rfl) <| O_nil (b2 _ _ <| W_if rfl (fun a8 => ?_) (fun a8 => ?_))
   ·rw [if_pos a8] at H
    refine W_skip (b1 _ _ <| W_block fun cr ct cu => Wr fun cv b3 => Om rfl rfl ?_)
    have hs := hs.front 1 rfl
    obtain ⟨ao, a9, H⟩ := bnd H
    refine O_call rfl rfl (puny_reader_next_ndm.c hs an a9) (fun cw w hpost => ?_)
    obtain ⟨br, b4, ba, rfl, a3, hs, b5⟩ := hpost
    have hs := hs.sink 1
    refine Om rfl rfl <| O_y rfl (Y_extract rfl rfl) <| O_y rfl (Y_extract rfl rfl) <| Oa rfl rfl <| Oa rfl rfl <| O_nil (b3 _ _ <| W.weak [(1, _), (7, _), (10, _), (11, _)] (S4 rfl rfl rfl rfl) <| Wr fun cx b6 => Om rfl rfl <| O_y rfl (Y_neq rfl rfl) <| O_nil (b6 _ _ <| W_if rfl (fun bb => ?_) (fun bb => ?_)))
    ·rw [if_pos bb] at H
     refine Wr fun cy b7 => Om rfl rfl <| Om rfl rfl <| Oa rfl rfl <| Oa rfl rfl <| Oa rfl rfl <| O_nil (b7 _ _ <| W_ret ?_)
     have hs := hs.rowNil 21 (Rep.int .i32).sz
     have b8 := RowR.nil (Rep.int .i32) br
     obtain rfl := sinj H
     exact ret3 rfl rfl rfl rfl ⟨_, _, _, rfl, ((aw.trans av).trans a3), (hs.sub (ssc (ssk (ssk (ssk ssr))))), b8⟩
    ·rw [if_neg bb] at H
     exact W_skip (az (am, ao.2.2.2.2.2.2, ao.2.2.1, ao.2.2.2.1, ao.2.2.2.2.1, ao.2.2.2.2.2.1, b4, ba, br) _ _ (S2 rfl rfl) (Ai H (Ai (av.trans a3) (Ai hs b5))) (Nat.lt_succ_self _))
   ·rw [if_neg a8] at H
    refine W_exit (b0 _ _ (bz _ _ <| Wr fun cz b9 => Om rfl rfl <| O_y rfl (Y_nilp rfl) <| O_y rfl (Y_field fo163_3 rfl) <| O_y rfl (Yb 1 ag28 hs rfl rfl rfl) <| Oa rfl rfl <| Oa rfl rfl <| Oa rfl rfl <| O_nil (b9 _ _ <| W.weak [(4, _), (5, _), (6, _)] (S3 rfl rfl rfl) <| W_ret ?_)))
    obtain rfl := sinj H
    exact ret3 rfl rfl rfl rfl ⟨_, _, _, rfl, (aw.trans av), (hs.sub (ssc (ssk (ssk ssr)))), an⟩
  refine Wr fun da bc => Om rfl rfl <| O_y rfl (Y_field fo117_7 rfl) <| O_y rfl (Yb 2 ag5 hs rfl rfl rfl) ?_
  obtain ⟨al, a4, H⟩ := bnd H
  refine O_call rfl rfl (strings_LastIndexByte.c hs a4) (fun ca w hpost => ?_)
  obtain ⟨rfl, hs⟩ := hpost
  refine Oa rfl rfl <| O_nil (bc _ _ <| Wr fun cb bd => Om rfl rfl <| O_y rfl (Y_gtr rfl rfl) <| O_nil (bd _ _ <| W_if rfl (fun a0 => ?_) (fun a0 => ?_)))
  ·rw [if_pos a0] at H
   refine W_seq fun cc be => Wr fun cd bf => Om rfl rfl <| Om rfl rfl ?_
   obtain ⟨aq, H⟩ := gd H
   refine O_y rfl (Y_cutS un9 rfl (.inl ⟨rfl, rfl⟩) (.inr ⟨_, _, rfl, rfl⟩) aq.1 aq.2.1 aq.2.2) <| O_bytes un9 un72 un5 hs rfl rfl (fun a5 ce w ax hs bg => O_y rfl (Y_func rfl) ?_)
   have hs := hs.front 2 rfl
   obtain ⟨ay, a6, H⟩ := bnd H
   refine O_call rfl rfl (bytes_IndexFunc_mjo.c hs bg a6) (fun cf w hpost => ?_)
   obtain ⟨rfl, hs⟩ := hpost
   have hs := hs.sink 2
   refine Oa rfl rfl <| O_nil (bf _ _ <| W.weak [(1, _), (7, _), (8, _), (9, _)] (S4 rfl rfl rfl rfl) <| Wr fun cg bh => Om rfl rfl <| O_y rfl (Y_geq rfl rfl) <| O_nil (bh _ _ <| W_if rfl (fun a1 => ?_) (fun a1 => ?_)))
   ·rw [if_pos a1] at H
    refine Wr fun ch bi => Om rfl rfl <| Oa rfl rfl <| Oa rfl rfl <| Oa rfl rfl <| O_nil (bi _ _ <| W_ret ?_)
    have hs := hs.rowNil 21 (Rep.int .i32).sz
    have bj := RowR.nil (Rep.int .i32) a5
    obtain rfl := sinj H
    exact ret3 rfl rfl rfl rfl ⟨_, _, _, rfl, ax, (hs.sub (ssc (ssk (ssk (ssk ssr))))), bj⟩
   ·rw [if_neg a1] at H
    refine W_skip (be _ _ <| Wr fun ci bk => Om rfl rfl <| Om rfl rfl <| Om rfl rfl <| O_y rfl (Y_cutS un9 rfl (.inl ⟨rfl, rfl⟩) (.inr ⟨_, _, rfl, rfl⟩) aq.1 aq.2.1 aq.2.2) ?_)
    obtain ⟨bl, H⟩ := gd H
    refine O_runes un9 un28 un21 hs rfl rfl bl (fun bm a7 w hs bn => O_y rfl (Y_nilp rfl) <| O_y rfl (Y_field fo163_3 rfl) <| O_store (i := 2) sz28 hs rfl rfl rfl rfl (St.rowOne hs (j := 0) rfl) (fun w hs => O_nil (bk _ _ <| W_region <| Om rfl rfl <| Om rfl rfl <| O_y rfl (Y_add rfl rfl) <| O_y rfl (Y_nilp rfl) <| O_y rfl (Y_field fo163_2 rfl) <| O_store (i := 2) sz3 hs rfl rfl rfl rfl rfl (fun w hs => ?_))))
    have hs := hs.sub (ssc (ssk (ssc (ssc ssr))))
    have hs := hs.front 2 rfl
    have hs := hs.front 2 rfl
    have hs := hs.front 2 rfl
    exact O_nil (bp _ _ _ (S2 rfl rfl) (bq (runesL (x1.extract (0 : Int).toNat (al : Int).toNat)) (IntKind.i64.wrap (al + 1)) bm a7 a5 _ H ax hs bn))
  ·rw [if_neg a0] at H
   exact W_skip (bp _ _ _ (S2 rfl rfl) (bq ([] : List Int) 0 (.slice none 0 0) ([]) ρ _ H (Le.rfl' _) hs bv))

def puny_Decode.f (x0 : ByteArray) : Option (List Int × Int × Int) := (puny_Usual.f).bind fun af => ((puny_boot_decode.f af x0).bind fun aa => (some (aa.1, aa.2.1, aa.2.2)))
theorem puny_Decode.c {w0 w : World} {ρ : Hp} {Γ : List Item} (hs : St w0 ρ (Γ) w) {x0 : ByteArray} {r : List Int × Int × Int} (H : puny_Decode.f x0 = some r) : CallsR Tryz.prog 32 [.string x0] w (fun v w' => ∃ (ρ' : Hp) (v0 : Value) (cs0 : List Value), v = .tuple #[v0, .int .i64 r.2.1, .int .i64 r.2.2] ∧ Le ρ ρ' ∧ St w0 ρ' (.row v0 21 (Rep.int .i32).sz r.1.length cs0 :: Γ) w' ∧ RowR (Rep.int .i32) ρ' cs0 r.1) := by
  rw [puny_Decode.f] at H
  refine enter Tryz.func32 Tryz.ntmps32 rfl (by kernel_rfl) rfl <| Wr fun an ah => Oa rfl rfl <| Oa rfl rfl <| Oa rfl rfl <| O_nil (ah _ _ <| W_seq fun ao ai => W_region ?_)
  obtain ⟨af, ab, H⟩ := bnd H
  refine O_call rfl rfl (puny_Usual.c hs ab) (fun ap w hpost => ?_)
  obtain ⟨aq, aj, rfl, ac, hs, ag⟩ := hpost
  have ak := ag
  obtain rfl := ak
  refine Om rfl rfl ?_
  obtain ⟨aa, ad, H⟩ := bnd H
  refine O_call rfl rfl (puny_boot_decode.c hs ag ad) (fun ar w hpost => ?_)
  obtain ⟨au, av, al, rfl, ae, hs, am⟩ := hpost
  refine O_y rfl (Y_extract rfl rfl) <| O_y rfl (Y_extract rfl rfl) <| O_y rfl (Y_extract rfl rfl) <| Oa rfl rfl <| Oa rfl rfl <| Oa rfl rfl <| O_nil (ai _ _ <| W_ret ?_)
  obtain rfl := sinj H
  exact ret3 rfl rfl rfl rfl ⟨_, _, _, rfl, (ac.trans ae), hs, am⟩

def label_Read.f (x0 : Option Tbs) (x1 : List Int) : Option S10 := (slices_Clone_rune_rune.f x1).bind fun a1 => ((label_Coded.f x1).bind fun ag => (if (!ag) = true then ((label_Faults.f x0 x1).bind fun bq => ((label_first.f bq).bind fun br => (some (⟨a1, ag, br⟩ : S10)))) else ((label_plain.f x1).bind fun ao => (if (!ao) = true then (some (⟨a1, ag, 7⟩ : S10)) else (if (0 : Int) ≤ 4 ∧ 4 ≤ (x1.length : Int) ∧ (x1.length : Int) ≤ (x1.length : Int) then ((puny_Decode.f (runesBytes (sub x1 4 (x1.length : Int)))).bind fun ad => (if ad.2.2 ≠ 0 then (some (⟨a1, ag, 8⟩ : S10)) else ((label_plain.f ad.1).bind fun ap => (if ap = true then (some (⟨ad.1, ag, 9⟩ : S10)) else ((label_Faults.f x0 ad.1).bind fun aq => ((label_first.f aq).bind fun ar => (some (⟨ad.1, ag, ar⟩ : S10)))))))) else none)))))
theorem label_Read.c {w0 w : World} {ρ : Hp} {Γ : List Item} (hs : St w0 ρ (Γ) w) {v0 : Value} {x0 : Option Tbs} (h0 : PtrR rTbs ρ v0 x0) {v1 : Value} {x1 : List Int} (h1 : SlR (Rep.int .i32) ρ v1 x1) {r : S10} (H : label_Read.f x0 x1 = some r) : CallsR Tryz.prog 11 [v0, v1] w (fun v w' => ∃ (ρ' : Hp) (cs0 : List Value), v = .agg cs0.toArray ∧ Le ρ ρ' ∧ St w0 ρ' (Γ) w' ∧ rS10.R ρ' cs0 r) := by
  rw [label_Read.f] at H
  refine enter Tryz.func11 Tryz.ntmps11 rfl (by kernel_rfl) rfl <| Wr fun da bu => O_alloc zr43 hs rfl (fun db w hs => O_nil (bu _ _ <| Wr fun dc bv => Om rfl rfl ?_))
  obtain ⟨a1, a2, H⟩ := bnd H
  refine O_call rfl rfl (slices_Clone_rune_rune.c hs h1 a2) (fun bw w hpost => ?_)
  obtain ⟨dd, de, bx, rfl, aa, hs, bz⟩ := hpost
  refine Om rfl rfl ?_
  obtain ⟨ag, a3, H⟩ := bnd H
  refine O_call rfl rfl (label_Coded.c hs (h1.mono aa) a3) (fun df w hpost => ?_)
  obtain ⟨rfl, hs⟩ := hpost
  obtain ⟨dg, ab, hs, ah⟩ := hs.rowEnd (j := 0) bz rfl
  refine O_y rfl (Y_build (cs := [bw, .bool ag, .int .i64 0]) zr43 pl43 ((Parts.cons rfl ah.cellsL (Parts.cons rfl rfl Parts.nil))) ag43 (by kernel_rfl)) <| O_alloc zr43 hs rfl (fun dh w hs => O_storeN (i := 0) sz43 hs rfl rfl rfl rfl rfl (one_cons ah.one (one_cons rfl (one_cons rfl one_nil))) (fun w hs => O_nil (bv _ _ <| W_seq fun di b0 => Wr fun dj b1 => O_y rfl (Y_field fo43_1 rfl) <| O_y rfl (Yb 0 ag4 hs rfl rfl rfl) <| O_y rfl (Y_not rfl) <| O_nil (b1 _ _ <| W_cond rfl (fun a4 => ?_) (fun a4 => ?_)))))
  ·rw [if_pos a4] at H
   refine Wr fun dk b2 => Om rfl rfl <| Om rfl rfl ?_
   obtain ⟨bq, a5, H⟩ := bnd H
   refine O_call rfl rfl (label_Faults.c hs (h0.mono (aa.trans ab)) (h1.mono (aa.trans ab)) a5) (fun dl w hpost => ?_)
   obtain ⟨dm, dn, b3, rfl, au, hs, b4⟩ := hpost
   obtain ⟨dp, av, hs, b5⟩ := hs.rowEnd (j := 0) b4 rfl
   obtain ⟨br, a6, H⟩ := bnd H
   refine O_call rfl rfl (label_first.c hs b5 a6) (fun dq w hpost => ?_)
   obtain ⟨rfl, hs⟩ := hpost
   refine O_y rfl (Y_field fo43_2 rfl) <| O_store (i := 0) sz3 hs rfl rfl rfl rfl rfl (fun w hs => O_nil (b2 _ _ <| W.weak [(4, _), (5, _)] (S2 rfl rfl) <| Wr fun dr b6 => O_y rfl (Y_loadbN (i := 0) ag43 sz43 hs rfl rfl rfl rfl) <| O_storeN (i := 1) sz43 hs rfl rfl rfl rfl rfl (one_cons ah.one (one_cons rfl (one_cons rfl one_nil))) (fun w hs => O_nil (b6 _ _ <| W_ret ?_))))
   obtain rfl := sinj H
   exact retc (i := 1) rfl rfl ag43 sz43 hs rfl rfl ⟨_, _, rfl, (((aa.trans ab).trans au).trans av), (hs.sub (ssk (ssk ssr))), ⟨_, rfl, (ah.mono (au.trans av))⟩⟩
  ·rw [if_neg (bft a4)] at H
   refine W_skip (b0 _ _ <| W_seq fun ds b7 => Wr fun dt b8 => Om rfl rfl ?_)
   obtain ⟨ao, aw, H⟩ := bnd H
   refine O_call rfl rfl (label_plain.c hs (h1.mono (aa.trans ab)) aw) (fun b9 w hpost => ?_)
   obtain ⟨rfl, hs⟩ := hpost
   refine O_y rfl (Y_not rfl) <| O_nil (b8 _ _ <| W.weak [(0, _), (1, _), (4, _), (5, _), (25, _)] (by repeat first | exact Sub.nil | refine Sub.cons rfl ?_) ?_)
   refine W_cond rfl (fun ak => ?_) (fun ak => ?_)
   ·rw [if_pos ak] at H
    refine Wr fun ca a7 => O_y rfl (Y_field fo43_2 rfl) <| O_store (i := 0) sz3 hs rfl rfl rfl rfl rfl (fun w hs => O_nil (a7 _ _ <| Wr fun cb a8 => O_y rfl (Y_loadbN (i := 0) ag43 sz43 hs rfl rfl rfl rfl) <| O_storeN (i := 1) sz43 hs rfl rfl rfl rfl rfl (one_cons ah.one (one_cons rfl (one_cons rfl one_nil))) (fun w hs => O_nil (a8 _ _ <| W_ret ?_))))
    obtain rfl := sinj H
    exact retc (i := 1) rfl rfl ag43 sz43 hs rfl rfl ⟨_, _, rfl, (aa.trans ab), (hs.sub (ssk (ssk ssr))), ⟨_, rfl, ah⟩⟩
   ·rw [if_neg (bft ak)] at H
    refine W_skip (b7 _ _ <| Wr fun cc a9 => Om rfl rfl ?_)
    obtain ⟨al, H⟩ := gd H
    obtain ⟨cd, ba, bb⟩ := (h1.mono (aa.trans ab)).cut el28 al.1 al.2.1 al.2.2
    refine O_y rfl (bb rfl (.inr ⟨_, _, rfl, rfl⟩) (.inl ⟨rfl, rfl⟩)) <| O_y rfl (Y_srunes un28 un21 un9 hs ba rfl) ?_
    obtain ⟨ad, ax, H⟩ := bnd H
    refine O_call rfl rfl (puny_Decode.c hs ax) (fun ce w hpost => ?_)
    obtain ⟨cf, cg, bs, rfl, ac, hs, bc⟩ := hpost
    refine Om rfl rfl <| O_y rfl (Y_extract rfl rfl) <| O_y rfl (Y_extract rfl rfl) <| O_y rfl (Y_extract rfl rfl) <| Oa rfl rfl <| Oa rfl rfl <| Oa rfl rfl <| O_nil (a9 _ _ <| W.weak [(0, _), (4, _), (5, _), (6, _), (8, _)] (by repeat first | exact Sub.nil | refine Sub.cons rfl ?_) ?_)
    refine W_seq fun ch bd => Wr fun ci be => Om rfl rfl <| O_y rfl (Y_neq rfl rfl) <| O_nil (be _ _ <| W_if rfl (fun am => ?_) (fun am => ?_))
    ·rw [if_pos am] at H
     refine Wr fun cj bf => O_y rfl (Y_field fo43_2 rfl) <| O_store (i := 1) sz3 hs rfl rfl rfl rfl rfl (fun w hs => O_nil (bf _ _ <| Wr fun ck bg => O_y rfl (Y_loadbN (i := 1) ag43 sz43 hs rfl rfl rfl rfl) <| O_storeN (i := 2) sz43 hs rfl rfl rfl rfl rfl (one_cons ah.one (one_cons rfl (one_cons rfl one_nil))) (fun w hs => O_nil (bg _ _ <| W_ret ?_))))
     obtain rfl := sinj H
     exact retc (i := 2) rfl rfl ag43 sz43 hs rfl rfl ⟨_, _, rfl, ((aa.trans ab).trans ac), (hs.sub (ssk (ssk (ssk ssr)))), ⟨_, rfl, (ah.mono ac)⟩⟩
    ·rw [if_neg am] at H
     refine W_skip (bd _ _ <| Wr fun cl bh => Om rfl rfl <| O_y rfl (Y_field fo43_0 rfl) <| O_store (i := 1) sz28 hs rfl rfl rfl rfl (St.rowOne hs (j := 0) rfl) (fun w hs => O_nil (bh _ _ <| W_seq fun cm bi => W_seq fun cn bj => ?_)))
     obtain ⟨co, af, hs, ae⟩ := hs.rowEnd (j := 0) bc rfl
     refine W_region <| Om rfl rfl ?_
     obtain ⟨ap, ay, H⟩ := bnd H
     refine O_call rfl rfl (label_plain.c hs ae ay) (fun cp w hpost => ?_)
     obtain ⟨rfl, hs⟩ := hpost
     refine O_nil (bj _ _ <| W_cond rfl (fun an => ?_) (fun an => ?_))
     ·rw [if_pos an] at H
      refine Wr fun cq bk => O_y rfl (Y_field fo43_2 rfl) <| O_store (i := 0) sz3 hs rfl rfl rfl rfl rfl (fun w hs => O_nil (bk _ _ <| Wr fun cr bl => O_y rfl (Y_loadbN (i := 0) ag43 sz43 hs rfl rfl rfl rfl) <| O_storeN (i := 1) sz43 hs rfl rfl rfl rfl rfl (one_cons ae.one (one_cons rfl (one_cons rfl one_nil))) (fun w hs => O_nil (bl _ _ <| W_ret ?_))))
      obtain rfl := sinj H
      exact retc (i := 1) rfl rfl ag43 sz43 hs rfl rfl ⟨_, _, rfl, (((aa.trans ab).trans ac).trans af), (hs.sub (ssk (ssk ssr))), ⟨_, rfl, ae⟩⟩
     ·rw [if_neg (bft an)] at H
      refine W_skip (bi _ _ <| Wr fun ct bm => Om rfl rfl <| Om rfl rfl ?_)
      obtain ⟨aq, az, H⟩ := bnd H
      refine O_call rfl rfl (label_Faults.c hs (h0.mono (((aa.trans ab).trans ac).trans af)) ae az) (fun cu w hpost => ?_)
      obtain ⟨cv, cw, bt, rfl, ai, hs, bn⟩ := hpost
      obtain ⟨cx, aj, hs, bo⟩ := hs.rowEnd (j := 0) bn rfl
      obtain ⟨ar, a0, H⟩ := bnd H
      refine O_call rfl rfl (label_first.c hs bo a0) (fun cy w hpost => ?_)
      obtain ⟨rfl, hs⟩ := hpost
      refine O_y rfl (Y_field fo43_2 rfl) <| O_store (i := 0) sz3 hs rfl rfl rfl rfl rfl (fun w hs => O_nil (bm _ _ <| W.weak [(4, _), (5, _)] (S2 rfl rfl) <| Wr fun cz bp => O_y rfl (Y_loadbN (i := 0) ag43 sz43 hs rfl rfl rfl rfl) <| O_storeN (i := 1) sz43 hs rfl rfl rfl rfl rfl (one_cons ae.one (one_cons rfl (one_cons rfl one_nil))) (fun w hs => O_nil (bp _ _ <| W_ret ?_))))
      obtain rfl := sinj H
      exact retc (i := 1) rfl rfl ag43 sz43 hs rfl rfl ⟨_, _, rfl, (((((aa.trans ab).trans ac).trans af).trans ai).trans aj), (hs.sub (ssk (ssk ssr))), ⟨_, rfl, (ae.mono (ai.trans aj))⟩⟩

def puny_boot_check_1_hme.j1 (aa : Bool) : Option Bool := some aa
def puny_boot_check_1_hme.f (x0 y0_0 y0_1 y0_2 y0_3 y0_4 y0_5 y0_6 y0_7 : Int) : Option Bool := if (IntKind.i64.wrap x0) < y0_6 then ((puny_boot_basic.f (⟨y0_0, y0_1, y0_2, y0_3, y0_4, y0_5, y0_6, y0_7⟩ : S11) x0).bind fun ab => (puny_boot_check_1_hme.j1 (!ab))) else (puny_boot_check_1_hme.j1 false)
theorem puny_boot_check_1_hme.c {w0 w : World} {ρ : Hp} {Γ : List Item} {pb0 : Nat} {y0_0 y0_1 y0_2 y0_3 y0_4 y0_5 y0_6 y0_7 : Int} (hs : St w0 ρ ((.box pb0 117 ([.int .i64 y0_0, .int .i64 y0_1, .int .i64 y0_2, .int .i64 y0_3, .int .i64 y0_4, .int .i64 y0_5, .int .i64 y0_6, .int .u8 y0_7])) :: Γ) w) {x0 : Int} {r : Bool} (H : puny_boot_check_1_hme.f x0 y0_0 y0_1 y0_2 y0_3 y0_4 y0_5 y0_6 y0_7 = some r) : CallsR Tryz.prog 156 [.int .i32 x0, .pointer (some ⟨pb0, 0, none⟩)] w (fun v w' => v = .bool r ∧ St w0 ρ ((.box pb0 117 ([.int .i64 y0_0, .int .i64 y0_1, .int .i64 y0_2, .int .i64 y0_3, .int .i64 y0_4, .int .i64 y0_5, .int .i64 y0_6, .int .u8 y0_7])) :: Γ) w') := by
  rw [puny_boot_check_1_hme.f] at H
  refine enter Tryz.func156 Tryz.ntmps156 rfl (by kernel_rfl) rfl <| Wr fun aj ag => Oa rfl rfl <| O_nil (ag _ _ <| W_seqj fun ah ai ae => ?_)
  have af : ∀ (aa : Bool) (w : World), puny_boot_check_1_hme.j1 aa = some r → St w0 ρ ((.box pb0 117 ([.int .i64 y0_0, .int .i64 y0_1, .int .i64 y0_2, .int .i64 y0_3, .int .i64 y0_4, .int .i64 y0_5, .int .i64 y0_6, .int .u8 y0_7])) :: Γ) w → ah [(3, .bool aa)] w := by
   intro aa w H hs
   rw [puny_boot_check_1_hme.j1] at H
   refine ai _ _ <| W_ret ?_
   obtain rfl := sinj H
   exact ret1 rfl rfl ⟨rfl, hs⟩
  refine W_region <| Om rfl rfl <| O_y rfl (Y_conv un21 un3 rfl) <| O_y rfl (Y_field fo117_6 rfl) <| O_y rfl (Yb 0 ag3 hs rfl rfl rfl) <| O_y rfl (Y_lss rfl rfl) <| Om rfl rfl <| O_if (dj := 9) rfl (fun ac => ?_) (fun ac => ?_)
  ·rw [if_pos ac] at H
   refine O_yes rfl rfl <| O_y rfl (Y_loadbN (i := 0) ag117 sz117 hs rfl rfl rfl rfl) <| O_yes rfl rfl <| Om rfl rfl <| O_yes rfl rfl ?_
   obtain ⟨ab, ad, H⟩ := bnd H
   refine O_call rfl rfl (puny_boot_basic.c hs (show rS11.R ρ _ (⟨y0_0, y0_1, y0_2, y0_3, y0_4, y0_5, y0_6, y0_7⟩ : S11) from rfl) ad) (fun ak w hpost => ?_)
   obtain ⟨rfl, hs⟩ := hpost
   refine O_yes rfl rfl <| O_y rfl (Y_not rfl) <| O_y rfl (Y_pick_t rfl rfl) <| Oa rfl rfl <| O_nil (ae _ _ _ (S1 rfl) (af (!ab) _ H hs))
  ·rw [if_neg ac] at H
   refine O_no rfl rfl rfl rfl <| O_no rfl rfl rfl rfl <| O_no rfl rfl rfl rfl <| O_no rfl rfl rfl rfl <| O_y rfl (Y_pick_f rfl rfl) <| Oa rfl rfl <| O_nil (ae _ _ _ (S1 rfl) (af false _ H hs))

def slices_IndexFunc_rune_rune_him.l1 : Nat → Int → Int → Int → Int → Int → Int → Int → Int → List Int → Int → Option Int
  | 0, _, _, _, _, _, _, _, _, _, _ => none
  | ab + 1, y0_0, y0_1, y0_2, y0_3, y0_4, y0_5, y0_6, y0_7, x0, aa => if aa < (x0.length : Int) then (if (0 : Int) ≤ aa ∧ aa < (x0.length : Int) then ((puny_boot_check_1_hme.f (rd x0 aa) y0_0 y0_1 y0_2 y0_3 y0_4 y0_5 y0_6 y0_7).bind fun ag => (if ag = true then (some aa) else ((slices_IndexFunc_rune_rune_him.l1 ab y0_0 y0_1 y0_2 y0_3 y0_4 y0_5 y0_6 y0_7 x0) (IntKind.i64.wrap (aa + 1))))) else none) else (some (-1))
def slices_IndexFunc_rune_rune_him.f (x0 : List Int) (y0_0 y0_1 y0_2 y0_3 y0_4 y0_5 y0_6 y0_7 : Int) : Option Int := slices_IndexFunc_rune_rune_him.l1 K0 y0_0 y0_1 y0_2 y0_3 y0_4 y0_5 y0_6 y0_7 x0 0
theorem slices_IndexFunc_rune_rune_him.c {w0 w : World} {ρ : Hp} {Γ : List Item} {pb0 : Nat} {y0_0 y0_1 y0_2 y0_3 y0_4 y0_5 y0_6 y0_7 : Int} (hs : St w0 ρ ((.box pb0 117 ([.int .i64 y0_0, .int .i64 y0_1, .int .i64 y0_2, .int .i64 y0_3, .int .i64 y0_4, .int .i64 y0_5, .int .i64 y0_6, .int .u8 y0_7])) :: Γ) w) {v0 : Value} {x0 : List Int} (h0 : SlR (Rep.int .i32) ρ v0 x0) {r : Int} (H : slices_IndexFunc_rune_rune_him.f x0 y0_0 y0_1 y0_2 y0_3 y0_4 y0_5 y0_6 y0_7 = some r) : CallsR Tryz.prog 77 [v0, .func (.func 156) #[] #[.pointer (some ⟨pb0, 0, none⟩)]] w (fun v w' => v = .int .i64 r ∧ St w0 ρ ((.box pb0 117 ([.int .i64 y0_0, .int .i64 y0_1, .int .i64 y0_2, .int .i64 y0_3, .int .i64 y0_4, .int .i64 y0_5, .int .i64 y0_6, .int .u8 y0_7])) :: Γ) w') := by
  rw [slices_IndexFunc_rune_rune_him.f] at H
  refine enter Tryz.func77 Tryz.ntmps77 rfl (by kernel_rfl) rfl <| Wr fun ax ai => Oa rfl rfl <| O_nil (ai _ _ <| W_seq fun ay aj => Wr fun az ak => Om rfl rfl <| O_y rfl (Y_lenR un28 h0 rfl) <| Om rfl rfl <| O_nil (ak _ _ <| W_block fun a0 al a1 => W_loop (σ := Nat × Int) (fun (ab, aa) => [(0, v0), (1, .func (.func 156) #[] #[.pointer (some ⟨pb0, 0, none⟩)]), (7, .int .i64 (x0.length : Int)), (8, .int .i64 aa)]) (fun (ab, aa) w => slices_IndexFunc_rune_rune_him.l1 ab y0_0 y0_1 y0_2 y0_3 y0_4 y0_5 y0_6 y0_7 x0 aa = some r ∧ St w0 ρ ((.box pb0 117 ([.int .i64 y0_0, .int .i64 y0_1, .int .i64 y0_2, .int .i64 y0_3, .int .i64 y0_4, .int .i64 y0_5, .int .i64 y0_6, .int .u8 y0_7])) :: Γ) w) (fun s => s.1) (K0, 0) (S4 rfl rfl rfl rfl) (Ai H hs) ?_))
  rintro ⟨ab, aa⟩ w a2 ⟨H, hs⟩ ac
  show W _ _ _ _ _ _ [(0, v0), (1, .func (.func 156) #[] #[.pointer (some ⟨pb0, 0, none⟩)]), (7, .int .i64 (x0.length : Int)), (8, .int .i64 aa)] w
  cases ab with
  | zero => rw [slices_IndexFunc_rune_rune_him.l1] at H; cases H
  | succ ab =>
  rw [slices_IndexFunc_rune_rune_him.l1] at H
  refine Wr fun a3 am => O_y rfl (Y_lss rfl rfl) <| O_nil (am _ _ <| W_seq fun a4 an => W_if rfl (fun ad => ?_) (fun ad => ?_))
  ·rw [if_pos ad] at H
   refine W_skip (an _ _ <| W_seq fun a5 ao => W_block fun a6 a7 a8 => Wr fun a9 ap => Om rfl rfl <| Oa rfl rfl <| O_nil (ap _ _ <| Wr fun ba aq => Om rfl rfl <| Om rfl rfl <| Om rfl rfl ?_))
   obtain ⟨ah, H⟩ := gd H
   obtain ⟨bb, bc, ar, au⟩ := h0.ix el28 ah.1 ah.2
   refine O_y rfl (au rfl rfl) <| O_y rfl (Y_load ag21 rfl (hs.see ar.int)) ?_
   obtain ⟨ag, ae, H⟩ := bnd H
   refine O_callv rfl rfl rfl (puny_boot_check_1_hme.c hs ae) (fun bd w hpost => ?_)
   obtain ⟨rfl, hs⟩ := hpost
   refine O_nil (aq _ _ <| W_cond rfl (fun af => ?_) (fun af => ?_))
   ·rw [if_pos af] at H
    refine Wr fun be av => Om rfl rfl <| Oa rfl rfl <| O_nil (av _ _ <| W.weak [(4, _)] (S1 rfl) <| W_ret ?_)
    obtain rfl := sinj H
    exact ret1 rfl rfl ⟨rfl, hs⟩
   ·rw [if_neg (bft af)] at H
    refine W_skip (ao _ _ <| W_region <| O_y rfl (Y_add rfl rfl) <| Om rfl rfl <| O_nil (ac (ab, (IntKind.i64.wrap (aa + 1))) _ _ (S4 rfl rfl rfl rfl) (Ai H hs) (Nat.lt_succ_self _)))
  ·rw [if_neg ad] at H
   refine W_exit (al _ _ (aj _ _ <| Wr fun bf aw => Oa rfl rfl <| O_nil (aw _ _ <| W_ret ?_)))
   obtain rfl := sinj H
   exact ret1 rfl rfl ⟨rfl, hs⟩

def puny_boot_check.l1 : Nat → S11 → List Int → Int → Option (Int × Int)
  | 0, _, _, _ => none
  | ab + 1, x0, x1, aa => if aa < (x1.length : Int) then (if (0 : Int) ≤ aa ∧ aa < (x1.length : Int) then ((scalar_Scalar.f (rd x1 aa)).bind fun am => (if (!am) = true then (some (aa, 20)) else ((puny_boot_check.l1 ab x0 x1) (IntKind.i64.wrap (aa + 1))))) else none) else ((slices_IndexFunc_rune_rune_him.f x1 x0.base x0.least x0.most x0.skew x0.damp x0.bias x0.first x0.between).bind fun ad => (if 0 ≤ ad then (some (ad, 141)) else (some (0, 0))))
def puny_boot_check.f (x0 : S11) (x1 : List Int) : Option (Int × Int) := puny_boot_check.l1 K0 x0 x1 0
theorem puny_boot_check.c {w0 w : World} {ρ : Hp} {Γ : List Item} (hs : St w0 ρ (Γ) w) {c0 : List Value} {x0 : S11} (h0 : rS11.R ρ c0 x0) {v1 : Value} {x1 : List Int} (h1 : SlR (Rep.int .i32) ρ v1 x1) {r : Int × Int} (H : puny_boot_check.f x0 x1 = some r) : CallsR Tryz.prog 119 [.agg c0.toArray, v1] w (fun v w' => v = .tuple #[.int .i64 r.1, .int .i64 r.2] ∧ St w0 ρ Γ w') := by
  rw [puny_boot_check.f] at H
  refine enter Tryz.func119 Tryz.ntmps119 rfl (by kernel_rfl) rfl ?_
  have ao := h0
  obtain rfl := ao
  refine Wr fun a8 ap => O_boxN (cs := [.int .i64 x0.base, .int .i64 x0.least, .int .i64 x0.most, .int .i64 x0.skew, .int .i64 x0.damp, .int .i64 x0.bias, .int .i64 x0.first, .int .u8 x0.between]) hs rfl rfl (fun ae w hs => Oa rfl rfl <| Oa rfl rfl <| O_nil (ap _ _ <| W_seq fun a9 aq => Wr fun ba ar => Om rfl rfl <| O_y rfl (Y_lenR un28 h1 rfl) <| Om rfl rfl <| O_nil (ar _ _ <| W_block fun bb au bc => ?_)))
  refine W_loop (σ := Nat × Int) (fun (ab, aa) => [(1, v1), (2, .pointer (some ⟨ae, 0, none⟩)), (9, v1), (10, .int .i64 (x1.length : Int)), (11, .int .i64 aa)]) (fun (ab, aa) w => puny_boot_check.l1 ab x0 x1 aa = some r ∧ St w0 ρ ((.box ae 117 ([.int .i64 x0.base, .int .i64 x0.least, .int .i64 x0.most, .int .i64 x0.skew, .int .i64 x0.damp, .int .i64 x0.bias, .int .i64 x0.first, .int .u8 x0.between])) :: Γ) w) (fun s => s.1) (K0, 0) (by repeat first | exact Sub.nil | refine Sub.cons rfl ?_) (Ai H hs) ?_
  rintro ⟨ab, aa⟩ w bd ⟨H, hs⟩ ac
  show W _ _ _ _ _ _ [(1, v1), (2, .pointer (some ⟨ae, 0, none⟩)), (9, v1), (10, .int .i64 (x1.length : Int)), (11, .int .i64 aa)] w
  cases ab with
  | zero => rw [puny_boot_check.l1] at H; cases H
  | succ ab =>
  rw [puny_boot_check.l1] at H
  refine Wr fun be av => O_y rfl (Y_lss rfl rfl) <| O_nil (av _ _ <| W_seq fun bf aw => W_if rfl (fun af => ?_) (fun af => ?_))
  ·rw [if_pos af] at H
   refine W_skip (aw _ _ <| W_seq fun bg ax => W_block fun bh bi bj => Wr fun bk ay => Om rfl rfl ?_)
   obtain ⟨an, H⟩ := gd H
   obtain ⟨bl, bm, az, a0⟩ := h1.ix el28 an.1 an.2
   refine O_y rfl (a0 rfl rfl) <| O_y rfl (Y_load ag21 rfl (hs.see az.int)) <| Oa rfl rfl <| Oa rfl rfl <| O_nil (ay _ _ <| Wr fun bn a1 => Om rfl rfl ?_)
   obtain ⟨am, ag, H⟩ := bnd H
   refine O_call rfl rfl (scalar_Scalar.c hs ag) (fun bo w hpost => ?_)
   obtain ⟨rfl, hs⟩ := hpost
   refine O_y rfl (Y_not rfl) <| O_nil (a1 _ _ <| W_cond rfl (fun ah => ?_) (fun ah => ?_))
   ·rw [if_pos ah] at H
    refine Wr fun bp a2 => Om rfl rfl <| Oa rfl rfl <| Oa rfl rfl <| O_nil (a2 _ _ <| W.weak [(4, _), (5, _)] (S2 rfl rfl) <| W_ret ?_)
    obtain rfl := sinj H
    exact ret2 rfl rfl rfl ⟨rfl, (hs.sub (ssk ssr))⟩
   ·rw [if_neg (bft ah)] at H
    refine W_skip (ax _ _ <| W_region <| O_y rfl (Y_add rfl rfl) <| Om rfl rfl <| O_nil (ac (ab, (IntKind.i64.wrap (aa + 1))) _ _ (by repeat first | exact Sub.nil | refine Sub.cons rfl ?_) (Ai H hs) (Nat.lt_succ_self _)))
  ·rw [if_neg af] at H
   refine W_exit (au _ _ (aq _ _ <| W_seq fun bq a3 => Wr fun br a4 => Om rfl rfl <| O_y rfl (Y_func rfl) ?_))
   obtain ⟨ad, ai, H⟩ := bnd H
   refine O_call rfl rfl (slices_IndexFunc_rune_rune_him.c hs h1 ai) (fun bs w hpost => ?_)
   obtain ⟨rfl, hs⟩ := hpost
   refine Oa rfl rfl <| O_nil (a4 _ _ <| Wr fun bt a5 => Om rfl rfl <| O_y rfl (Y_geq rfl rfl) <| O_nil (a5 _ _ <| W_if rfl (fun aj => ?_) (fun aj => ?_)))
   ·rw [if_pos aj] at H
    refine Wr fun a6 ak => Om rfl rfl <| Oa rfl rfl <| Oa rfl rfl <| O_nil (ak _ _ <| W.weak [(4, _), (5, _)] (S2 rfl rfl) <| W_ret ?_)
    obtain rfl := sinj H
    exact ret2 rfl rfl rfl ⟨rfl, (hs.sub (ssk ssr))⟩
   ·rw [if_neg aj] at H
    refine W_skip (a3 _ _ <| Wr fun a7 al => Oa rfl rfl <| Oa rfl rfl <| O_nil (al _ _ <| W_ret ?_))
    obtain rfl := sinj H
    exact ret2 rfl rfl rfl ⟨rfl, (hs.sub (ssk ssr))⟩

def puny_next.j1 (ae : Int → Int → Option Int) (aa ad : Int) : Option Int := ae ad (IntKind.i64.wrap (aa + 1))
def puny_next.l1 : Nat → List Int → Int → Int → Int → Option Int
  | 0, _, _, _, _ => none
  | ac + 1, x0, x1, ab, aa => if aa < (x0.length : Int) then (if (0 : Int) ≤ aa ∧ aa < (x0.length : Int) then (if x1 ≤ (IntKind.i64.wrap (rd x0 aa)) then (puny_next.j1 (puny_next.l1 ac x0 x1) aa (min ab (IntKind.i64.wrap (rd x0 aa)))) else (puny_next.j1 (puny_next.l1 ac x0 x1) aa ab)) else none) else (some ab)
def puny_next.f (x0 : List Int) (x1 : Int) : Option Int := puny_next.l1 K0 x0 x1 1114111 0
theorem puny_next.c {w0 w : World} {ρ : Hp} {Γ : List Item} (hs : St w0 ρ (Γ) w) {v0 : Value} {x0 : List Int} (h0 : SlR (Rep.int .i32) ρ v0 x0) {x1 r : Int} (H : puny_next.f x0 x1 = some r) : CallsR Tryz.prog 121 [v0, .int .i64 x1] w (fun v w' => v = .int .i64 r ∧ St w0 ρ Γ w') := by
  rw [puny_next.f] at H
  refine enter Tryz.func121 Tryz.ntmps121 rfl (by kernel_rfl) rfl <| Wr fun a1 al => Oa rfl rfl <| O_nil (al _ _ <| Wr fun a2 am => Oa rfl rfl <| O_nil (am _ _ <| W_seq fun a3 an => Wr fun a4 ao => Om rfl rfl <| O_y rfl (Y_lenR un28 h0 rfl) ?_))
  refine Om rfl rfl <| O_nil (ao _ _ <| W_block fun a5 ap a6 => W_loop (σ := Nat × Int × Int) (fun (ac, ab, aa) => [(1, .int .i64 x1), (5, .int .i64 ab), (8, v0), (9, .int .i64 (x0.length : Int)), (10, .int .i64 aa)]) (fun (ac, ab, aa) w => puny_next.l1 ac x0 x1 ab aa = some r ∧ St w0 ρ (Γ) w) (fun s => s.1) (K0, 1114111, 0) (by repeat first | exact Sub.nil | refine Sub.cons rfl ?_) (Ai H hs) ?_)
  rintro ⟨ac, ab, aa⟩ w a7 ⟨H, hs⟩ af
  show W _ _ _ _ _ _ [(1, .int .i64 x1), (5, .int .i64 ab), (8, v0), (9, .int .i64 (x0.length : Int)), (10, .int .i64 aa)] w
  cases ac with
  | zero => rw [puny_next.l1] at H; cases H
  | succ ac =>
  rw [puny_next.l1] at H
  refine Wr fun a8 aq => O_y rfl (Y_lss rfl rfl) <| O_nil (aq _ _ <| W_seq fun a9 ar => W_if rfl (fun ag => ?_) (fun ag => ?_))
  ·rw [if_pos ag] at H
   refine W_skip (ar _ _ <| W_seqj fun au av ai => ?_)
   have aj : ∀ (ad : Int) (w : World), puny_next.j1 (puny_next.l1 ac x0 x1) aa ad = some r → St w0 ρ (Γ) w → au [(1, .int .i64 x1), (5, .int .i64 ad), (8, v0), (9, .int .i64 (x0.length : Int)), (10, .int .i64 aa)] w := by
    intro ad w H hs
    rw [puny_next.j1] at H
    refine av _ _ <| W_region <| O_y rfl (Y_add rfl rfl) <| Om rfl rfl <| O_nil (af (ac, ad, (IntKind.i64.wrap (aa + 1))) _ _ (by repeat first | exact Sub.nil | refine Sub.cons rfl ?_) (Ai H hs) (Nat.lt_succ_self _))
   refine W_block fun ba bb bc => W_seq fun bd aw => W_region ?_
   obtain ⟨ak, H⟩ := gd H
   obtain ⟨be, bf, ax, ay⟩ := h0.ix el28 ak.1 ak.2
   refine O_y rfl (ay rfl rfl) <| O_y rfl (Y_load ag21 rfl (hs.see ax.int)) <| Oa rfl rfl <| O_nil (aw _ _ <| Wr fun bg az => Om rfl rfl <| O_y rfl (Y_conv un21 un3 rfl) <| Om rfl rfl <| O_y rfl (Y_geq rfl rfl) <| O_nil (az _ _ <| W_if rfl (fun ah => ?_) (fun ah => ?_)))
   ·rw [if_pos ah] at H
    refine W_region <| Om rfl rfl <| Om rfl rfl <| O_y rfl (Y_conv un21 un3 rfl) <| O_y rfl (Y_min rfl rfl) <| Oa rfl rfl <| O_nil (ai _ _ _ (by repeat first | exact Sub.nil | refine Sub.cons rfl ?_) (aj (min ab (IntKind.i64.wrap (rd x0 aa))) _ H hs))
   ·rw [if_neg ah] at H
    exact W_skip (ai _ _ _ (by repeat first | exact Sub.nil | refine Sub.cons rfl ?_) (aj ab _ H hs))
  ·rw [if_neg ag] at H
   refine W_exit (ap _ _ (an _ _ <| Wr fun bh a0 => Om rfl rfl <| Oa rfl rfl <| O_nil (a0 _ _ <| W_ret ?_)))
   obtain rfl := sinj H
   exact ret1 rfl rfl ⟨rfl, hs⟩

def puny_letter.f (x0 : Int) : Option Int := if x0 < 26 then (some (IntKind.u8.wrap (IntKind.i64.wrap (97 + x0)))) else (some (IntKind.u8.wrap (IntKind.i64.wrap ((IntKind.i64.wrap (48 + x0)) - 26))))
theorem puny_letter.c {w0 w : World} {ρ : Hp} {Γ : List Item} (hs : St w0 ρ (Γ) w) {x0 r : Int} (H : puny_letter.f x0 = some r) : CallsR Tryz.prog 158 [.int .i64 x0] w (fun v w' => v = .int .u8 r ∧ St w0 ρ Γ w') := by
  rw [puny_letter.f] at H
  refine enter Tryz.func158 Tryz.ntmps158 rfl (by kernel_rfl) rfl <| Wr fun ag ab => Oa rfl rfl <| O_nil (ab _ _ <| W_seq fun ah ac => Wr fun ai ad => Om rfl rfl <| O_y rfl (Y_lss rfl rfl) <| O_nil (ad _ _ <| W_if rfl (fun aa => ?_) (fun aa => ?_)))
  ·rw [if_pos aa] at H
   refine Wr fun aj ae => Om rfl rfl <| O_y rfl (Y_add rfl rfl) <| O_y rfl (Y_conv un3 un5 rfl) <| Oa rfl rfl <| O_nil (ae _ _ <| W_ret ?_)
   obtain rfl := sinj H
   exact ret1 rfl rfl ⟨rfl, hs⟩
  ·rw [if_neg aa] at H
   refine W_skip (ac _ _ <| Wr fun ak af => Om rfl rfl <| O_y rfl (Y_add rfl rfl) <| O_y rfl (Y_sub rfl rfl) <| O_y rfl (Y_conv un3 un5 rfl) <| Oa rfl rfl <| O_nil (af _ _ <| W_ret ?_))
   obtain rfl := sinj H
   exact ret1 rfl rfl ⟨rfl, hs⟩

def puny_boot_written.l1 : Nat → S11 → Int → List Int → Int → Int → Option (List Int)
  | 0, _, _, _, _, _ => none
  | af + 1, x0, x2, aa, ab, ad => (puny_boot_threshold.f x0 ad x2).bind fun ah => (if ab < ah then ((puny_letter.f ab).bind fun aj => (if aa.length + ([aj]).length ≤ most then (some (aa ++ ([aj]))) else none)) else (if (IntKind.i64.wrap (x0.base - ah)) ≠ 0 then ((puny_letter.f (IntKind.i64.wrap (ah + ((IntKind.i64.wrap (ab - ah)).tmod (IntKind.i64.wrap (x0.base - ah)))))).bind fun ai => (if aa.length + ([ai]).length ≤ most then ((puny_boot_written.l1 af x0 x2) (aa ++ ([ai])) (IntKind.i64.wrap ((IntKind.i64.wrap (ab - ah)).tdiv (IntKind.i64.wrap (x0.base - ah)))) (IntKind.i64.wrap (ad + x0.base))) else none)) else none))
def puny_boot_written.f (x0 : S11) (x1 x2 : Int) : Option (List Int) := puny_boot_written.l1 K0 x0 x2 ([] : List Int) x1 x0.base
theorem puny_boot_written.c {w0 w : World} {ρ : Hp} {Γ : List Item} (hs : St w0 ρ (Γ) w) {c0 : List Value} {x0 : S11} (h0 : rS11.R ρ c0 x0) {x1 x2 : Int} {r : List Int} (H : puny_boot_written.f x0 x1 x2 = some r) : CallsR Tryz.prog 122 [.agg c0.toArray, .int .i64 x1, .int .i64 x2] w (fun v w' => ∃ (ρ' : Hp) (v0 : Value) (cs0 : List Value), v = v0 ∧ Le ρ ρ' ∧ St w0 ρ' (.row v0 5 (Rep.int .u8).sz r.length cs0 :: Γ) w' ∧ RowR (Rep.int .u8) ρ' cs0 r) := by
  rw [puny_boot_written.f] at H
  refine enter Tryz.func122 Tryz.ntmps122 rfl (by kernel_rfl) rfl ?_
  have az := h0
  obtain rfl := az
  refine Wr fun bg a0 => O_boxN (cs := [.int .i64 x0.base, .int .i64 x0.least, .int .i64 x0.most, .int .i64 x0.skew, .int .i64 x0.damp, .int .i64 x0.bias, .int .i64 x0.first, .int .u8 x0.between]) hs rfl rfl (fun ao w hs => Oa rfl rfl <| O_nil (a0 _ _ <| Wr fun bh a1 => Oa rfl rfl ?_))
  have hs := hs.rowNil 5 (Rep.int .u8).sz
  have a2 := RowR.nil (Rep.int .u8) ρ
  refine O_nil (a1 _ _ <| Wr fun bi a3 => Om rfl rfl <| Oa rfl rfl <| O_nil (a3 _ _ <| Wr fun bj a4 => O_y rfl (Y_field fo117_0 rfl) <| O_y rfl (Yb 1 ag3 hs rfl rfl rfl) <| Oa rfl rfl <| O_nil (a4 _ _ <| W_block fun bk bl bm => W_loop (σ := Nat × List Int × Int × Int × Value × List Value) (fun (af, aa, ab, ad, ac, ae) => [(2, .int .i64 x2), (3, .pointer (some ⟨ao, 0, none⟩)), (7, ac), (8, .int .i64 ab), (9, .int .i64 ad)]) (fun (af, aa, ab, ad, ac, ae) w => puny_boot_written.l1 af x0 x2 aa ab ad = some r ∧ St w0 ρ ((.row ac 5 ((Rep.int .u8).sz) aa.length ae) :: (.box ao 117 ([.int .i64 x0.base, .int .i64 x0.least, .int .i64 x0.most, .int .i64 x0.skew, .int .i64 x0.damp, .int .i64 x0.bias, .int .i64 x0.first, .int .u8 x0.between])) :: Γ) w ∧ RowR (Rep.int .u8) ρ ae aa) (fun s => s.1) (K0, ([] : List Int), x1, x0.base, (.slice none 0 0), ([])) (by repeat first | exact Sub.nil | refine Sub.cons rfl ?_) (Ai H (Ai hs a2)) ?_)))
  rintro ⟨af, aa, ab, ad, ac, ae⟩ w bn ⟨H, hs, ag⟩ ak
  show W _ _ _ _ _ _ [(2, .int .i64 x2), (3, .pointer (some ⟨ao, 0, none⟩)), (7, ac), (8, .int .i64 ab), (9, .int .i64 ad)] w
  cases af with
  | zero => rw [puny_boot_written.l1] at H; cases H
  | succ af =>
  rw [puny_boot_written.l1] at H
  refine W_seq fun bo a5 => W_block fun bp bq br => Wr fun bs a6 => O_y rfl (Y_loadbN (i := 1) ag117 sz117 hs rfl rfl rfl rfl) <| Om rfl rfl <| Om rfl rfl ?_
  obtain ⟨ah, ap, H⟩ := bnd H
  refine O_call rfl rfl (puny_boot_threshold.c hs h0 ap) (fun bt w hpost => ?_)
  obtain ⟨rfl, hs⟩ := hpost
  refine Oa rfl rfl <| O_nil (a6 _ _ <| W_seq fun bu a7 => Wr fun bv a8 => Om rfl rfl <| Om rfl rfl <| O_y rfl (Y_lss rfl rfl) <| O_nil (a8 _ _ <| W_if rfl (fun aq => ?_) (fun aq => ?_)))
  ·rw [if_pos aq] at H
   refine Wr fun bw a9 => Om rfl rfl <| Om rfl rfl ?_
   obtain ⟨aj, ar, H⟩ := bnd H
   refine O_call rfl rfl (puny_letter.c hs ar) (fun bx w hpost => ?_)
   obtain ⟨rfl, hs⟩ := hpost
   refine O_lit2 (xs := [.tmp 27]) (cs := [.int .u8 aj]) el72 hs rfl rfl rfl (by decide) (by decide) rfl (sz_cons rfl sz_nil) (flat_cons rfl flat_nil) (fun bz w hs => ?_)
   have ax : RowR (Rep.int .u8) ρ ([.int .u8 aj]) [aj] := RowR.cons (c := [.int .u8 aj]) (x := aj) rfl (RowR.nil _ _)
   obtain ⟨ba, H⟩ := gd H
   refine O_appendR (i := 1) el72 hs rfl ag rfl rfl rfl (Src.lit (j := 0) hs rfl ax) ax ba (fun b0 bb w bc hs => Oa rfl rfl <| O_nil (a9 _ _ <| W.weak [(6, _)] (S1 rfl) <| W_ret ?_))
   obtain rfl := sinj H
   exact ret1 rfl rfl ⟨_, _, _, rfl, Le.rfl' _, (hs.sub (ssk (ssc (ssk ssr)))), bc⟩
  ·rw [if_neg aq] at H
   refine W_skip (a7 _ _ <| Wr fun b1 bd => Om rfl rfl <| Om rfl rfl <| Om rfl rfl <| Om rfl rfl <| O_y rfl (Y_sub rfl rfl) <| O_y rfl (Y_field fo117_0 rfl) <| O_y rfl (Yb 1 ag3 hs rfl rfl rfl) <| Om rfl rfl <| O_y rfl (Y_sub rfl rfl) ?_)
   obtain ⟨ay, H⟩ := gd H
   refine O_y rfl (Y_rem rfl rfl ay) <| O_y rfl (Y_add rfl rfl) ?_
   obtain ⟨ai, al, H⟩ := bnd H
   refine O_call rfl rfl (puny_letter.c hs al) (fun be w hpost => ?_)
   obtain ⟨rfl, hs⟩ := hpost
   refine O_lit2 (xs := [.tmp 41]) (cs := [.int .u8 ai]) el72 hs rfl rfl rfl (by decide) (by decide) rfl (sz_cons rfl sz_nil) (flat_cons rfl flat_nil) (fun bf w hs => ?_)
   have am : RowR (Rep.int .u8) ρ ([.int .u8 ai]) [ai] := RowR.cons (c := [.int .u8 ai]) (x := ai) rfl (RowR.nil _ _)
   obtain ⟨au, H⟩ := gd H
   refine O_appendR (i := 1) el72 hs rfl ag rfl rfl rfl (Src.lit (j := 0) hs rfl am) am au (fun av an w aw hs => Oa rfl rfl <| O_nil (bd _ _ <| W.weak [(2, _), (3, _), (7, _), (8, _), (9, _), (10, _)] (by repeat first | exact Sub.nil | refine Sub.cons rfl ?_) ?_))
   refine W_region <| Om rfl rfl <| Om rfl rfl <| O_y rfl (Y_sub rfl rfl) <| O_y rfl (Y_field fo117_0 rfl) <| O_y rfl (Yb 2 ag3 hs rfl rfl rfl) <| Om rfl rfl <| O_y rfl (Y_sub rfl rfl) <| O_y rfl (Y_quo rfl rfl ay) <| Oa rfl rfl <| O_nil (a5 _ _ <| W_region <| Om rfl rfl <| O_y rfl (Y_field fo117_0 rfl) ?_)
   refine O_y rfl (Yb 2 ag3 hs rfl rfl rfl) <| O_y rfl (Y_add rfl rfl) <| Oa rfl rfl <| O_nil (ak (af, (aa ++ ([ai])), (IntKind.i64.wrap ((IntKind.i64.wrap (ab - ah)).tdiv (IntKind.i64.wrap (x0.base - ah)))), (IntKind.i64.wrap (ad + x0.base)), av, an) _ _ (by repeat first | exact Sub.nil | refine Sub.cons rfl ?_) (Ai H (Ai (hs.sub (ssk (ssc (ssc ssr)))) aw)) (Nat.lt_succ_self _))

end Go.Proofs.YthoicbafdanmkaaGreatDoor
