/- Texts of this repo, merged for the claim: TP3, TC0, TC1. -/
import Derived.Test.YthoicbafdanmkaaGreatDoorWhole1
import Derived.Test.YthoicbafdanmkaaGreatDoorWhole2
/- Written by this repo's gen.py: for each Go function a Lean function with the same answers and the walk that shows it. -/
namespace Go.Proofs.YthoicbafdanmkaaGreatDoor
open Go.RowKit
set_option maxRecDepth 100000
set_option maxHeartbeats 4000000
set_option linter.unusedVariables false
def stage_Table_Over_1_aek.j1 (aa : Vector Int 128) (ab : Int) (ad : Bool) : Option (Bool × Vector Int 128 × Int) := some (ad, aa, ab)
def stage_Table_Over_1_aek.j2 (y1_0 : Option Tab) (y2_0 : List Val) (y3_0 x0 : Int) (ac : Vector Int 128) : Option (Bool × Vector Int 128 × Int) := (stage_lay_fod.f y2_0 x0 y3_0 ac).bind fun ae => (if ae.1 = true then (stage_Table_Over_1_aek.j1 ae.2.2 ae.2.1 true) else (stage_Table_Over_1_aek.j1 ae.2.2 ae.2.1 ((y1_0).isSome)))
def stage_Table_Over_1_aek.f (x0 : Int) (y0_0 : Vector Int 128) (y1_0 : Option Tab) (y2_0 : List Val) (y3_0 : Int) : Option (Bool × Vector Int 128 × Int) := if ((y1_0).isSome) = true then (if y1_0.isSome = true then (if (0 : Int) ≤ IntKind.i32.wrap (x0.tdiv 128) ∧ IntKind.i32.wrap (x0.tdiv 128) < ((8704 : Nat) : Int) then (if (0 : Int) ≤ vg (((y1_0).getD default).which) (IntKind.i32.wrap (x0.tdiv 128)) ∧ vg (((y1_0).getD default).which) (IntKind.i32.wrap (x0.tdiv 128)) < ((((y1_0).getD default).unlike).length : Int) then (stage_Table_Over_1_aek.j2 y1_0 y2_0 y3_0 x0 (rd (((y1_0).getD default).unlike) (vg (((y1_0).getD default).which) (IntKind.i32.wrap (x0.tdiv 128))))) else none) else none) else none) else (stage_Table_Over_1_aek.j2 y1_0 y2_0 y3_0 x0 y0_0)
theorem stage_Table_Over_1_aek.c {w0 w : World} {ρ : Hp} {Γ : List Item} {pb0 : Nat} {y0_0 : Vector Int 128} {pb1 : Nat} {w1_0 : Value} {y1_0 : Option Tab} {pb2 : Nat} {w2_0 : Value} {y2_0 : List Val} {pb3 : Nat} {y3_0 : Int} (hs : St w0 ρ ((.box pb0 152 ([] ++ (vcs (Value.int .u16) y0_0 ++ []))) :: (.box pb1 104 ([w1_0])) :: (.box pb2 23 ([w2_0])) :: (.box pb3 3 ([.int .i64 y3_0])) :: Γ) w) {x0 : Int} (g1_0 : PtrR rTab ρ w1_0 y1_0) (g2_0 : SlR rVal ρ w2_0 y2_0) {r : Bool × Vector Int 128 × Int} (H : stage_Table_Over_1_aek.f x0 y0_0 y1_0 y2_0 y3_0 = some r) : CallsR Tryz.prog 153 [.int .i32 x0, .pointer (some ⟨pb0, 0, none⟩), .pointer (some ⟨pb1, 0, none⟩), .pointer (some ⟨pb2, 0, none⟩), .pointer (some ⟨pb3, 0, none⟩)] w (fun v w' => v = .bool r.1 ∧ St w0 ρ ((.box pb0 152 ([] ++ (vcs (Value.int .u16) r.2.1 ++ []))) :: (.box pb1 104 ([w1_0])) :: (.box pb2 23 ([w2_0])) :: (.box pb3 3 ([.int .i64 r.2.2])) :: Γ) w') := by
  rw [stage_Table_Over_1_aek.f] at H
  refine enter Tryz.func153 Tryz.ntmps153 rfl (by kernel_rfl) rfl <| Wr fun a9 ar => Oa rfl rfl <| O_nil (ar _ _ <| W_seqj fun au av al => ?_)
  have am : ∀ (ac : Vector Int 128) (w : World), stage_Table_Over_1_aek.j2 y1_0 y2_0 y3_0 x0 ac = some r → St w0 ρ ((.box pb0 152 ([] ++ (vcs (Value.int .u16) ac ++ []))) :: (.box pb1 104 ([w1_0])) :: (.box pb2 23 ([w2_0])) :: (.box pb3 3 ([.int .i64 y3_0])) :: Γ) w → au [(0, .int .i32 x0), (1, .pointer (some ⟨pb0, 0, none⟩)), (2, .pointer (some ⟨pb1, 0, none⟩)), (3, .pointer (some ⟨pb2, 0, none⟩)), (4, .pointer (some ⟨pb3, 0, none⟩))] w := by
   intro ac w H hs
   rw [stage_Table_Over_1_aek.j2] at H
   refine av _ _ <| W_seqj fun aw ax an => ?_
   have ao : ∀ (aa : Vector Int 128) (ab : Int) (ad : Bool) (w : World), stage_Table_Over_1_aek.j1 aa ab ad = some r → St w0 ρ ((.box pb0 152 ([] ++ (vcs (Value.int .u16) aa ++ []))) :: (.box pb1 104 ([w1_0])) :: (.box pb2 23 ([w2_0])) :: (.box pb3 3 ([.int .i64 ab])) :: Γ) w → aw [(7, .bool ad)] w := by
    intro aa ab ad w H hs
    rw [stage_Table_Over_1_aek.j1] at H
    refine ax _ _ <| W_ret ?_
    obtain rfl := sinj H
    exact ret1 rfl rfl ⟨rfl, hs⟩
   refine W_region <| O_y rfl (Yb 2 ag23 hs rfl rfl rfl) <| Om rfl rfl <| Om rfl rfl ?_
   have hs := hs.front 3 rfl
   obtain ⟨ae, ag, H⟩ := bnd H
   refine O_call rfl rfl (stage_lay_fod.c hs g2_0 ag) (fun ba w hpost => ?_)
   obtain ⟨rfl, hs⟩ := hpost
   have hs := hs.sink 3
   refine Om rfl rfl <| O_cases (dj := 29) rfl (fun ah => ?_) (fun ah => ?_)
   ·rw [if_pos ah] at H
    refine O_no rfl rfl rfl rfl <| O_no rfl rfl rfl rfl <| O_y rfl (Y_pick_t rfl rfl) <| Oa rfl rfl <| O_nil (an _ _ _ (S1 rfl) (ao ae.2.2 ae.2.1 true _ H hs))
   ·rw [if_neg (bft ah)] at H
    refine O_yes rfl rfl <| O_y rfl (Yb 1 ag104 hs rfl rfl rfl) <| O_yes rfl rfl <| O_y rfl ((g1_0.nen un104 rfl rfl)) <| O_y rfl (Y_pick_f rfl rfl) <| Oa rfl rfl <| O_nil (an _ _ _ (S1 rfl) (ao ae.2.2 ae.2.1 ((y1_0).isSome) _ H hs))
  refine Wr fun bb ay => O_y rfl (Yb 1 ag104 hs rfl rfl rfl) <| O_y rfl ((g1_0.nen un104 rfl rfl)) <| O_nil (ay _ _ <| W_cond rfl (fun ai => ?_) (fun ai => ?_))
  ·rw [if_pos ai] at H
   refine W_drawS 16 [0, 0, 2, 4, 8, 0, 0, 64, 32, 256, 640, 1024, 2064, 4096, 16383, 32767] [16382, 16377, 16369, 16353, 12257, 16095, 16191, 15167, 15583, 14559, 12319, 8223, 1, 1, 0, 0] [0, 0, 2, 6, 14, 0, 0, 64, 32, 288, 992, 2016, 4094, 8190, 16383, 32767] [15] (fun w => St w0 ρ ((.box pb0 152 ([] ++ (vcs (Value.int .u16) y0_0 ++ []))) :: (.box pb1 104 ([w1_0])) :: (.box pb2 23 ([w2_0])) :: (.box pb3 3 ([.int .i64 y3_0])) :: Γ) w) mixed (by kernel_rfl) (fun sh => ?_)
   have hs := hs.drew
   refine Dm 0 sh rfl rfl (by kernel_rfl) rfl <| Dy 1 sh rfl rfl (by kernel_rfl) hs (fun w hs => Yb 1 ag104 hs rfl rfl rfl) ?_
   obtain ⟨ap, H⟩ := gd H
   obtain ⟨bc, aj, az⟩ := g1_0.open ap
   obtain ⟨_, ⟨bd, be, rfl, a0, bf⟩, a1⟩ := az
   refine Dp 2 sh rfl rfl (by kernel_rfl) (fun w => Y_nilp (congrArg some aj)) <| Dp 3 sh rfl rfl (by kernel_rfl) (fun w => Y_field fo156_1 rfl) <| Dy 4 sh rfl rfl (by kernel_rfl) hs (fun w hs => Y_load ag154 rfl (hs.see (a1 8704 _ (seg_beh (q := 0) rfl rfl)))) <| Dy 5 sh rfl rfl (by kernel_rfl) hs (fun w hs => Yb 1 ag104 hs rfl rfl rfl) <| Dm 6 sh rfl rfl (by kernel_rfl) rfl <| Dp 7 sh rfl rfl (by kernel_rfl) (fun w => Y_quo rfl rfl (by decide)) ?_
   obtain ⟨bg, ak, a2⟩ := g1_0.open ap
   obtain ⟨_, ⟨bh, bi, rfl, bj, bk⟩, a3⟩ := a2
   refine Dp 8 sh rfl rfl (by kernel_rfl) (fun w => Y_nilp (congrArg some ak)) <| Dp 9 sh rfl rfl (by kernel_rfl) (fun w => Y_field fo156_0 rfl) ?_
   obtain ⟨af, H⟩ := gd H
   have a4 := CA.seg (q := 0) a3 rfl af.1 af.2
   refine Dp 10 sh rfl rfl (by kernel_rfl) (fun w => Y_ixArr un153 sz150 rfl rfl af.1 af.2) <| Dy 11 sh rfl rfl (by kernel_rfl) hs (fun w hs => Y_load ag150 rfl (hs.see a4)) ?_
   obtain ⟨aq, H⟩ := gd H
   obtain ⟨bl, bm, a5, a6⟩ := a0.ix el154 aq.1 aq.2
   have a7 := a5.arr
   refine Dp 12 sh rfl rfl (by kernel_rfl) (fun w => a6 rfl rfl) <| Dy 13 sh rfl rfl (by kernel_rfl) hs (fun w hs => Y_loadN (cs := vcs (Value.int .u16) (rd (((y1_0).getD default).unlike) (vg (((y1_0).getD default).which) (IntKind.i32.wrap (x0.tdiv 128))))) ag152 sz152 (vcs_length _ _) rfl (fun j u hu => hs.see (a7 j u (by simpa using hu)))) <| Dp 14 sh rfl rfl (by kernel_rfl) (fun w => Y_nilp rfl) <| D1 15 sh rfl (by kernel_rfl) (fun bn a8 => O_storeArr (j := 0) (u := rd (((y1_0).getD default).unlike) (vg (((y1_0).getD default).which) (IntKind.i32.wrap (x0.tdiv 128)))) sz152 (one_int .u16) hs rfl rfl rfl (fun w hs => O_nil (a8 _ _ (fun h _ => absurd h (by decide)) <| OD_doneS sh (by kernel_rfl) (al _ _ _ (by repeat first | exact Sub.nil | refine Sub.cons rfl ?_) (am (rd (((y1_0).getD default).unlike) (vg (((y1_0).getD default).which) (IntKind.i32.wrap (x0.tdiv 128)))) _ H hs)))))
  ·rw [if_neg (bft ai)] at H
   exact W_skip (al _ _ _ (by repeat first | exact Sub.nil | refine Sub.cons rfl ?_) (am y0_0 _ H hs))

def stage_block_flat_ejg.l1 : Nat → Vector Int 128 → Int → Option Bool
  | 0, _, _ => none
  | ab + 1, y0_0, aa => if aa < 128 then (if (0 : Int) ≤ aa ∧ aa < ((128 : Nat) : Int) then (if (0 : Int) ≤ 0 ∧ 0 < ((128 : Nat) : Int) then (if (vg y0_0 aa) ≠ (vg y0_0 0) then (some false) else ((stage_block_flat_ejg.l1 ab y0_0) (IntKind.i64.wrap (aa + 1)))) else none) else none) else (some true)
def stage_block_flat_ejg.f (y0_0 : Vector Int 128) : Option Bool := stage_block_flat_ejg.l1 K0 y0_0 0
theorem stage_block_flat_ejg.c {w0 w : World} {ρ : Hp} {Γ : List Item} {pb0 : Nat} {y0_0 : Vector Int 128} (hs : St w0 ρ ((.box pb0 152 ([] ++ (vcs (Value.int .u16) y0_0 ++ []))) :: Γ) w) {r : Bool} (H : stage_block_flat_ejg.f y0_0 = some r) : CallsR Tryz.prog 172 [.pointer (some ⟨pb0, 0, none⟩)] w (fun v w' => v = .bool r ∧ St w0 ρ ((.box pb0 152 ([] ++ (vcs (Value.int .u16) y0_0 ++ []))) :: Γ) w') := by
  rw [stage_block_flat_ejg.f] at H
  refine enter Tryz.func172 Tryz.ntmps172 rfl (by kernel_rfl) rfl <| Wr fun au ah => Oa rfl rfl <| O_nil (ah _ _ <| W_seq fun av ai => Wr fun aw aj => Om rfl rfl <| Om rfl rfl <| O_nil (aj _ _ <| W_block fun ax ak ay => W_loop (σ := Nat × Int) (fun (ab, aa) => [(0, .pointer (some ⟨pb0, 0, none⟩)), (5, .pointer (some ⟨pb0, 0, none⟩)), (6, .int .i64 aa)]) (fun (ab, aa) w => stage_block_flat_ejg.l1 ab y0_0 aa = some r ∧ St w0 ρ ((.box pb0 152 ([] ++ (vcs (Value.int .u16) y0_0 ++ []))) :: Γ) w) (fun s => s.1) (K0, 0) (S3 rfl rfl rfl) (Ai H hs) ?_))
  rintro ⟨ab, aa⟩ w az ⟨H, hs⟩ ac
  show W _ _ _ _ _ _ [(0, .pointer (some ⟨pb0, 0, none⟩)), (5, .pointer (some ⟨pb0, 0, none⟩)), (6, .int .i64 aa)] w
  cases ab with
  | zero => rw [stage_block_flat_ejg.l1] at H; cases H
  | succ ab =>
  rw [stage_block_flat_ejg.l1] at H
  refine Wr fun a0 al => O_y rfl (Y_lss rfl rfl) <| O_nil (al _ _ <| W_seq fun a1 am => W_if rfl (fun af => ?_) (fun af => ?_))
  ·rw [if_pos af] at H
   refine W_skip (am _ _ <| W_seq fun a2 an => W_block fun a3 a4 a5 => Wr fun a6 ao => O_y rfl (Y_nilp rfl) ?_)
   obtain ⟨ad, H⟩ := gd H
   refine O_y rfl (Y_ixArr un152 sz150 rfl rfl ad.1 ad.2) <| O_y rfl (Y_loadSeg (j := 0) ag150 hs rfl rfl ad.1 ad.2 rfl) <| Oa rfl rfl <| O_nil (ao _ _ <| Wr fun a7 ap => Om rfl rfl <| Om rfl rfl <| O_y rfl (Y_nilp rfl) ?_)
   obtain ⟨ae, H⟩ := gd H
   refine O_y rfl (Y_ixArr un152 sz150 rfl rfl ae.1 ae.2) <| O_y rfl (Y_loadSeg (j := 0) ag150 hs rfl rfl ae.1 ae.2 rfl) <| O_y rfl (Y_neq rfl rfl) <| O_nil (ap _ _ <| W_if rfl (fun ag => ?_) (fun ag => ?_))
   ·rw [if_pos ag] at H
    refine Wr fun a8 aq => Oa rfl rfl <| O_nil (aq _ _ <| W.weak [(2, _)] (S1 rfl) <| W_ret ?_)
    obtain rfl := sinj H
    exact ret1 rfl rfl ⟨rfl, hs⟩
   ·rw [if_neg ag] at H
    refine W_skip (an _ _ <| W_region <| O_y rfl (Y_add rfl rfl) <| Om rfl rfl <| O_nil (ac (ab, (IntKind.i64.wrap (aa + 1))) _ _ (S3 rfl rfl rfl) (Ai H hs) (Nat.lt_succ_self _)))
  ·rw [if_neg af] at H
   refine W_exit (ak _ _ (ai _ _ <| Wr fun a9 ar => Oa rfl rfl <| O_nil (ar _ _ <| W_ret ?_)))
   obtain rfl := sinj H
   exact ret1 rfl rfl ⟨rfl, hs⟩

def stage_made_mbk.j1 (a3 : List Bool → List (Vector Int 128) → Vector Int 128 → (List (Vector Int 128 × Int)) → Vector Int 8704 → Int → Int → Int → Option (Option Tab × Int)) (ac : Int) (av : List Bool) (aw : List (Vector Int 128)) (ap : Vector Int 128) (ay : List (Vector Int 128 × Int)) (aq : Vector Int 8704) (ar bc : Int) : Option (Option Tab × Int) := a3 av aw ap ay aq ar bc (IntKind.i64.wrap (ac + 1))
def stage_made_mbk.j2 (a3 : List Bool → List (Vector Int 128) → Vector Int 128 → (List (Vector Int 128 × Int)) → Vector Int 8704 → Int → Int → Int → Option (Option Tab × Int)) (aa : Vector Int 8704) (af ac : Int) (ao : Bool × Vector Int 128 × Int) (ah : List Bool) (ai : List (Vector Int 128)) (ak : List (Vector Int 128 × Int)) (ax : Int) : Option (Option Tab × Int) := if (0 : Int) ≤ ac ∧ ac < ((8704 : Nat) : Int) then (if ao.1 = true then (stage_made_mbk.j1 a3 ac ah ai (Vector.replicate 128 0 : Vector Int 128) ak (vset aa ac ax) ao.2.2 af) else (stage_made_mbk.j1 a3 ac ah ai ao.2.1 ak (vset aa ac ax) ao.2.2 (IntKind.i64.wrap ax))) else none
def stage_made_mbk.j3 (a3 : List Bool → List (Vector Int 128) → Vector Int 128 → (List (Vector Int 128 × Int)) → Vector Int 8704 → Int → Int → Int → Option (Option Tab × Int)) (ae : List Bool) (ab : List (Vector Int 128)) (ad : List (Vector Int 128 × Int)) (aa : Vector Int 8704) (af ac : Int) (ao : Bool × Vector Int 128 × Int) (a4 : Bool) : Option (Option Tab × Int) := if a4 = true then (if (0 : Int) ≤ ac ∧ ac < ((8704 : Nat) : Int) then (stage_made_mbk.j1 a3 ac ae ab ao.2.1 ad (vset aa ac (IntKind.u16.wrap af)) ao.2.2 af) else none) else (if (!((mget ad ao.2.1).isSome)) = true then (if ab.length + ([ao.2.1]).length ≤ most then ((stage_block_flat_ejg.f ao.2.1).bind fun bf => (if ae.length + ([bf]).length ≤ most then (stage_made_mbk.j2 a3 aa af ac ao (ae ++ ([bf])) (ab ++ ([ao.2.1])) (mput ad ao.2.1 (IntKind.u16.wrap (ab.length : Int))) (IntKind.u16.wrap (ab.length : Int))) else none)) else none) else (stage_made_mbk.j2 a3 aa af ac ao ae ab ad ((mget ad ao.2.1).getD 0)))
def stage_made_mbk.l1 : Nat → Option Tab → List Val → List Bool → List (Vector Int 128) → Vector Int 128 → (List (Vector Int 128 × Int)) → Vector Int 8704 → Int → Int → Int → Option (Option Tab × Int)
  | 0, _, _, _, _, _, _, _, _, _, _ => none
  | bb + 1, y0_0, y1_0, ae, ab, au, ad, aa, am, af, ac => if ac < 8704 then ((stage_Table_Over_1_aek.f (IntKind.i32.wrap (IntKind.i64.wrap (ac * 128))) au y0_0 y1_0 am).bind fun ao => (if (!ao.1) = true then (stage_made_mbk.j3 (stage_made_mbk.l1 bb y0_0 y1_0) ae ab ad aa af ac ao (decide (0 ≤ af))) else (stage_made_mbk.j3 (stage_made_mbk.l1 bb y0_0 y1_0) ae ab ad aa af ac ao false))) else (some ((some (⟨aa, ab, ae⟩ : Tab)), am))
def stage_made_mbk.f (y0_0 : Option Tab) (y1_0 : List Val) (y2_0 : Int) : Option (Option Tab × Int) := stage_made_mbk.l1 K0 y0_0 y1_0 ([] : List Bool) ([] : List (Vector Int 128)) (Vector.replicate 128 0 : Vector Int 128) ([] : List (Vector Int 128 × Int)) (Vector.replicate 8704 0 : Vector Int 8704) y2_0 (-1) 0
theorem stage_made_mbk.c {w0 w : World} {ρ : Hp} {Γ : List Item} {pb0 : Nat} {w0_0 : Value} {y0_0 : Option Tab} {pb1 : Nat} {w1_0 : Value} {y1_0 : List Val} {pb2 : Nat} {y2_0 : Int} (hs : St w0 ρ ((.box pb0 104 ([w0_0])) :: (.box pb1 23 ([w1_0])) :: (.box pb2 3 ([.int .i64 y2_0])) :: Γ) w) (g0_0 : PtrR rTab ρ w0_0 y0_0) (g1_0 : SlR rVal ρ w1_0 y1_0) {r : Option Tab × Int} (H : stage_made_mbk.f y0_0 y1_0 y2_0 = some r) : CallsR Tryz.prog 152 [.func (.func 153) #[] #[.pointer (some ⟨pb0, 0, none⟩), .pointer (some ⟨pb1, 0, none⟩), .pointer (some ⟨pb2, 0, none⟩)]] w (fun v w' => ∃ (ρ' : Hp) (v0 : Value), v = v0 ∧ Le ρ ρ' ∧ St w0 ρ' ((.box pb0 104 ([w0_0])) :: (.box pb1 23 ([w1_0])) :: (.box pb2 3 ([.int .i64 r.2])) :: Γ) w' ∧ PtrR rTab ρ' v0 r.1) := by
  rw [stage_made_mbk.f] at H
  refine enter Tryz.func152 Tryz.ntmps152 rfl (by kernel_rfl) rfl <| Wr fun eu df => Oa rfl rfl <| O_nil (df _ _ <| Wr fun ev dg => O_y rfl (Y_build0s zr156 pl156) <| O_boxN (cs := [] ++ (vcs (Value.int .u16) (Vector.replicate 8704 0 : Vector Int 8704) ++ [.slice none 0 0, .slice none 0 0])) hs rfl rfl (fun bg w hs => Oa rfl rfl <| O_nil (dg _ _ <| Wr fun ew dh => O_mapNew kv152.enc (Value.int .u16) hs rfl (fun bh w hs => ?_))))
  refine Oa rfl rfl <| O_nil (dh _ _ <| Wr fun ex di => Oa rfl rfl <| O_nil (di _ _ <| Wr fun ey dk => O_alloc zr152 hs rfl (fun bi w hs => O_nil (dk _ _ <| W_seq fun ez dl => Wr fun e0 dm => Om rfl rfl ?_))))
  refine O_nil (dm _ _ <| W_block fun e1 dn e2 => ?_)
  have hs := hs.rowNil 152 (Rep.arr (Value.int .u16) (one_int .u16) 128).sz
  have dp := RowR.nil (Rep.arr (Value.int .u16) (one_int .u16) 128) ρ
  have hs := hs.rowNil 4 Rep.bool.sz
  have dq := RowR.nil Rep.bool ρ
  refine W_loop (σ := Nat × List Bool × List (Vector Int 128) × Vector Int 128 × (List (Vector Int 128 × Int)) × Vector Int 8704 × Int × Int × Int × Value × List Value × Value × List Value) (fun (bb, ae, ab, au, ad, aa, am, af, ac, ag, al, aj, an) => [(0, .func (.func 153) #[] #[.pointer (some ⟨pb0, 0, none⟩), .pointer (some ⟨pb1, 0, none⟩), .pointer (some ⟨pb2, 0, none⟩)]), (3, .pointer (some ⟨bg, 0, none⟩)), (4, .map (some bh)), (5, .int .i64 af), (6, .pointer (some ⟨bi, 0, none⟩)), (14, .int .i64 ac)]) (fun (bb, ae, ab, au, ad, aa, am, af, ac, ag, al, aj, an) w => stage_made_mbk.l1 bb y0_0 y1_0 ae ab au ad aa am af ac = some r ∧ St w0 ρ ((.row ag 4 Rep.bool.sz ae.length al) :: (.row aj 152 ((Rep.arr (Value.int .u16) (one_int .u16) 128).sz) ab.length an) :: (.box bi 152 ([] ++ (vcs (Value.int .u16) au ++ []))) :: (.obj bh (mapObj kv152.enc (vs (Value.int .u16) ad))) :: (.box bg 156 ([] ++ (vcs (Value.int .u16) aa ++ [aj, ag]))) :: (.box pb0 104 ([w0_0])) :: (.box pb1 23 ([w1_0])) :: (.box pb2 3 ([.int .i64 am])) :: Γ) w ∧ RowR Rep.bool ρ al ae ∧ RowR (Rep.arr (Value.int .u16) (one_int .u16) 128) ρ an ab) (fun s => s.1) (K0, ([] : List Bool), ([] : List (Vector Int 128)), (Vector.replicate 128 0 : Vector Int 128), ([] : List (Vector Int 128 × Int)), (Vector.replicate 8704 0 : Vector Int 8704), y2_0, (-1), 0, (.slice none 0 0), ([]), (.slice none 0 0), ([])) (by repeat first | exact Sub.nil | refine Sub.cons rfl ?_) (Ai H (Ai hs (Ai dq dp))) ?_
  rintro ⟨bb, ae, ab, au, ad, aa, am, af, ac, ag, al, aj, an⟩ w e3 ⟨H, hs, a5, a6⟩ br
  show W _ _ _ _ _ _ [(0, .func (.func 153) #[] #[.pointer (some ⟨pb0, 0, none⟩), .pointer (some ⟨pb1, 0, none⟩), .pointer (some ⟨pb2, 0, none⟩)]), (3, .pointer (some ⟨bg, 0, none⟩)), (4, .map (some bh)), (5, .int .i64 af), (6, .pointer (some ⟨bi, 0, none⟩)), (14, .int .i64 ac)] w
  cases bb with
  | zero => rw [stage_made_mbk.l1] at H; cases H
  | succ bb =>
  rw [stage_made_mbk.l1] at H
  refine Wr fun e4 dr => O_y rfl (Y_lss rfl rfl) <| O_nil (dr _ _ <| W_seq fun e5 ds => W_if rfl (fun b7 => ?_) (fun b7 => ?_))
  ·rw [if_pos b7] at H
   refine W_skip (ds _ _ <| W_seqj fun dt du b8 => ?_)
   have b9 : ∀ (av : List Bool) (aw : List (Vector Int 128)) (ap : Vector Int 128) (ay : List (Vector Int 128 × Int)) (aq : Vector Int 8704) (ar bc : Int) (a7 : Value) (a8 : List Value) (a9 : Value) (ba : List Value) (w : World), stage_made_mbk.j1 (stage_made_mbk.l1 bb y0_0 y1_0) ac av aw ap ay aq ar bc = some r → St w0 ρ ((.row a7 4 Rep.bool.sz av.length a8) :: (.row a9 152 ((Rep.arr (Value.int .u16) (one_int .u16) 128).sz) aw.length ba) :: (.box bi 152 ([] ++ (vcs (Value.int .u16) ap ++ []))) :: (.obj bh (mapObj kv152.enc (vs (Value.int .u16) ay))) :: (.box bg 156 ([] ++ (vcs (Value.int .u16) aq ++ [a9, a7]))) :: (.box pb0 104 ([w0_0])) :: (.box pb1 23 ([w1_0])) :: (.box pb2 3 ([.int .i64 ar])) :: Γ) w → RowR Rep.bool ρ a8 av → RowR (Rep.arr (Value.int .u16) (one_int .u16) 128) ρ ba aw → dt [(0, .func (.func 153) #[] #[.pointer (some ⟨pb0, 0, none⟩), .pointer (some ⟨pb1, 0, none⟩), .pointer (some ⟨pb2, 0, none⟩)]), (3, .pointer (some ⟨bg, 0, none⟩)), (4, .map (some bh)), (5, .int .i64 bc), (6, .pointer (some ⟨bi, 0, none⟩)), (14, .int .i64 ac)] w := by
    intro av aw ap ay aq ar bc a7 a8 a9 ba w H hs bj bk
    rw [stage_made_mbk.j1] at H
    refine du _ _ <| W_region <| O_y rfl (Y_add rfl rfl) <| Om rfl rfl <| O_nil (br (bb, av, aw, ap, ay, aq, ar, bc, (IntKind.i64.wrap (ac + 1)), a7, a8, a9, ba) _ _ (by repeat first | exact Sub.nil | refine Sub.cons rfl ?_) (Ai H (Ai hs (Ai bj bk))) (Nat.lt_succ_self _))
   refine W_block fun e6 dv e7 => Wr fun e8 dw => Om rfl rfl <| Oa rfl rfl <| O_nil (dw _ _ <| Wr fun e9 dx => Om rfl rfl <| Om rfl rfl <| O_y rfl (Y_mul rfl rfl) <| O_y rfl (Y_conv un3 un21 rfl) ?_)
   have hs := hs.front 7 rfl
   have hs := hs.front 7 rfl
   have hs := hs.front 7 rfl
   have hs := hs.front 5 rfl
   obtain ⟨ao, ca, H⟩ := bnd H
   refine O_callv rfl rfl rfl (stage_Table_Over_1_aek.c hs g0_0 g1_0 ca) (fun fa w hpost => ?_)
   obtain ⟨rfl, hs⟩ := hpost
   have hs := hs.sink 5
   have hs := hs.sink 7
   have hs := hs.sink 7
   have hs := hs.sink 7
   refine Oa rfl rfl <| O_nil (dx _ _ <| W.weak [(0, _), (3, _), (4, _), (5, _), (6, _), (7, _), (8, _), (14, _)] (by repeat first | exact Sub.nil | refine Sub.cons rfl ?_) ?_)
   refine W_seq fun fb dy => W_seqj fun dz cb bx => ?_
   have bz : ∀ (a4 : Bool) (w : World), stage_made_mbk.j3 (stage_made_mbk.l1 bb y0_0 y1_0) ae ab ad aa af ac ao a4 = some r → St w0 ρ ((.row ag 4 Rep.bool.sz ae.length al) :: (.row aj 152 ((Rep.arr (Value.int .u16) (one_int .u16) 128).sz) ab.length an) :: (.box bi 152 ([] ++ (vcs (Value.int .u16) ao.2.1 ++ []))) :: (.obj bh (mapObj kv152.enc (vs (Value.int .u16) ad))) :: (.box bg 156 ([] ++ (vcs (Value.int .u16) aa ++ [aj, ag]))) :: (.box pb0 104 ([w0_0])) :: (.box pb1 23 ([w1_0])) :: (.box pb2 3 ([.int .i64 ao.2.2])) :: Γ) w → dz [(0, .func (.func 153) #[] #[.pointer (some ⟨pb0, 0, none⟩), .pointer (some ⟨pb1, 0, none⟩), .pointer (some ⟨pb2, 0, none⟩)]), (3, .pointer (some ⟨bg, 0, none⟩)), (4, .map (some bh)), (5, .int .i64 af), (6, .pointer (some ⟨bi, 0, none⟩)), (7, .int .i64 ac), (8, .bool ao.1), (14, .int .i64 ac), (27, .bool a4)] w := by
    intro a4 w H hs
    rw [stage_made_mbk.j3] at H
    refine cb _ _ <| W_cond rfl (fun bs => ?_) (fun bs => ?_)
    ·rw [if_pos bs] at H
     refine Wr fun ea cc => Om rfl rfl <| Om rfl rfl <| Om rfl rfl <| O_y rfl (Y_conv un3 un150 rfl) <| O_y rfl (Y_nilp rfl) <| O_y rfl (Y_field fo156_0 rfl) ?_
     obtain ⟨bm, H⟩ := gd H
     refine O_y rfl (Y_ixArr un153 sz150 rfl rfl bm.1 bm.2) <| O_storeSeg (j := 4) (u := IntKind.u16.wrap af) sz150 (one_int .u16) hs rfl rfl bm.1 bm.2 rfl rfl (fun w hs => O_nil (cc _ _ <| W.weak [(0, _), (3, _), (4, _), (5, _), (6, _), (14, _)] (by repeat first | exact Sub.nil | refine Sub.cons rfl ?_) ?_))
     exact W_exit (dv _ _ (b8 _ _ _ (by repeat first | exact Sub.nil | refine Sub.cons rfl ?_) (b9 ae ab ao.2.1 ad (vset aa ac (IntKind.u16.wrap af)) ao.2.2 af ag al aj an _ H hs a5 a6)))
    ·rw [if_neg (bft bs)] at H
     refine W_skip (dy _ _ <| Wr fun eb cd => Om rfl rfl <| O_y rfl (Y_loadArr (j := 2) ag152 sz152 hs rfl rfl) <| O_y rfl (Y_mapGet2 (i := 3) (m := ad) (x := ao.2.1) (E := (Value.int .u16)) un203 kv152 trivial (fun _ _ => trivial) zv150 hs rfl rfl rfl) <| Om rfl rfl <| O_y rfl (Y_extract rfl rfl) <| O_y rfl (Y_extract rfl rfl) <| Oa rfl rfl <| Oa rfl rfl <| O_nil (cd _ _ <| W.weak [(0, _), (3, _), (4, _), (5, _), (6, _), (7, _), (8, _), (9, _), (10, _), (14, _)] (by repeat first | exact Sub.nil | refine Sub.cons rfl ?_) ?_))
     refine W_seqj fun ce cf b0 => ?_
     have b1 : ∀ (ah : List Bool) (ai : List (Vector Int 128)) (ak : List (Vector Int 128 × Int)) (ax : Int) (az : Value) (a0 : List Value) (a1 : Value) (a2 : List Value) (w : World), stage_made_mbk.j2 (stage_made_mbk.l1 bb y0_0 y1_0) aa af ac ao ah ai ak ax = some r → St w0 ρ ((.row az 4 Rep.bool.sz ah.length a0) :: (.row a1 152 ((Rep.arr (Value.int .u16) (one_int .u16) 128).sz) ai.length a2) :: (.box bi 152 ([] ++ (vcs (Value.int .u16) ao.2.1 ++ []))) :: (.obj bh (mapObj kv152.enc (vs (Value.int .u16) ak))) :: (.box bg 156 ([] ++ (vcs (Value.int .u16) aa ++ [a1, az]))) :: (.box pb0 104 ([w0_0])) :: (.box pb1 23 ([w1_0])) :: (.box pb2 3 ([.int .i64 ao.2.2])) :: Γ) w → RowR Rep.bool ρ a0 ah → RowR (Rep.arr (Value.int .u16) (one_int .u16) 128) ρ a2 ai → ce [(0, .func (.func 153) #[] #[.pointer (some ⟨pb0, 0, none⟩), .pointer (some ⟨pb1, 0, none⟩), .pointer (some ⟨pb2, 0, none⟩)]), (3, .pointer (some ⟨bg, 0, none⟩)), (4, .map (some bh)), (5, .int .i64 af), (6, .pointer (some ⟨bi, 0, none⟩)), (7, .int .i64 ac), (8, .bool ao.1), (9, .int .u16 ax), (14, .int .i64 ac)] w := by
      intro ah ai ak ax az a0 a1 a2 w H hs bd be
      rw [stage_made_mbk.j2] at H
      refine cf _ _ <| Wr fun ec cg => Om rfl rfl <| Om rfl rfl <| Om rfl rfl <| O_y rfl (Y_nilp rfl) <| O_y rfl (Y_field fo156_0 rfl) ?_
      obtain ⟨bn, H⟩ := gd H
      refine O_y rfl (Y_ixArr un153 sz150 rfl rfl bn.1 bn.2) <| O_storeSeg (j := 4) (u := ax) sz150 (one_int .u16) hs rfl rfl bn.1 bn.2 rfl rfl (fun w hs => O_nil (cg _ _ <| W.weak [(0, _), (3, _), (4, _), (5, _), (6, _), (8, _), (9, _), (14, _)] (by repeat first | exact Sub.nil | refine Sub.cons rfl ?_) ?_))
      refine Wr fun ed ch => Om rfl rfl <| O_nil (ch _ _ <| W_cond rfl (fun bt => ?_) (fun bt => ?_))
      ·rw [if_pos bt] at H
       refine W_region <| O_y rfl (Y_build0a (zs := vcs (Value.int .u16) (Vector.replicate 128 0 : Vector Int 128)) un152 sz150 zb152) <| O_storeArr (j := 2) (u := (Vector.replicate 128 0 : Vector Int 128)) sz152 (one_int .u16) hs rfl rfl rfl (fun w hs => O_nil (b8 _ _ _ (by repeat first | exact Sub.nil | refine Sub.cons rfl ?_) (b9 ah ai (Vector.replicate 128 0 : Vector Int 128) ak (vset aa ac ax) ao.2.2 af az a0 a1 a2 _ H hs bd be)))
      ·rw [if_neg (bft bt)] at H
       refine W_region <| Om rfl rfl <| O_y rfl (Y_conv un150 un3 rfl) <| Oa rfl rfl <| O_nil (b8 _ _ _ (by repeat first | exact Sub.nil | refine Sub.cons rfl ?_) (b9 ah ai ao.2.1 ak (vset aa ac ax) ao.2.2 (IntKind.i64.wrap ax) az a0 a1 a2 _ H hs bd be))
     refine Wr fun ee ci => Om rfl rfl <| O_y rfl (Y_not rfl) <| O_nil (ci _ _ <| W_cond rfl (fun bu => ?_) (fun bu => ?_))
     ·rw [if_pos bu] at H
      refine Wr fun ef cj => Om rfl rfl <| O_y rfl (Y_nilp rfl) <| O_y rfl (Y_field fo156_1 rfl) <| O_y rfl (Yb 4 ag154 hs rfl (seg_beh (q := 0) rfl rfl) rfl) <| O_y rfl (Y_lenRow (i := 1) un154 hs rfl rfl) <| O_y rfl (Y_conv un3 un150 rfl) <| Oa rfl rfl <| O_nil (cj _ _ <| W.weak [(0, _), (3, _), (4, _), (5, _), (6, _), (7, _), (8, _), (9, _), (14, _)] (by repeat first | exact Sub.nil | refine Sub.cons rfl ?_) ?_)
      refine Wr fun eg ck => Om rfl rfl <| O_y rfl (Y_loadArr (j := 2) ag152 sz152 hs rfl rfl) <| Om rfl rfl <| O_mapPut (i := 3) (m := ad) (x := ao.2.1) (v := IntKind.u16.wrap (ab.length : Int)) (E := (Value.int .u16)) un203 kv152 trivial (fun _ _ => trivial) hs rfl rfl rfl rfl (fun w hs => O_nil (ck _ _ <| W_seq fun eh cl => W_drawS 11 [0, 0, 2, 4, 8, 0, 32, 80, 255, 511, 767] [254, 249, 241, 225, 97, 159, 31, 1, 1024, 0, 0] [0, 0, 2, 6, 14, 0, 32, 126, 255, 511, 1023] [7, 8, 9, 10] (fun w => St w0 ρ ((.row ag 4 Rep.bool.sz ae.length al) :: (.row aj 152 ((Rep.arr (Value.int .u16) (one_int .u16) 128).sz) ab.length an) :: (.box bi 152 ([] ++ (vcs (Value.int .u16) ao.2.1 ++ []))) :: (.obj bh (mapObj kv152.enc (vs (Value.int .u16) (mput ad ao.2.1 (IntKind.u16.wrap (ab.length : Int)))))) :: (.box bg 156 ([] ++ (vcs (Value.int .u16) aa ++ [aj, ag]))) :: (.box pb0 104 ([w0_0])) :: (.box pb1 23 ([w1_0])) :: (.box pb2 3 ([.int .i64 ao.2.2])) :: Γ) w) mixed (by kernel_rfl) (fun sh => ?_)))
      have hs := hs.drew
      refine Dm 0 sh rfl rfl (by kernel_rfl) rfl <| Dm 1 sh rfl rfl (by kernel_rfl) rfl <| Dp 2 sh rfl rfl (by kernel_rfl) (fun w => Y_nilp rfl) <| Dp 3 sh rfl rfl (by kernel_rfl) (fun w => Y_field fo156_1 rfl) <| Dy 4 sh rfl rfl (by kernel_rfl) hs (fun w hs => Yb 4 ag154 hs rfl (seg_beh (q := 0) rfl rfl) rfl) <| Dy 5 sh rfl rfl (by kernel_rfl) hs (fun w hs => Y_loadArr (j := 2) ag152 sz152 hs rfl rfl) <| D1 6 sh rfl (by kernel_rfl) (fun ei cm => O_lit2 (xs := [.tmp 57]) (cs := vcs (Value.int .u16) ao.2.1 ++ ([])) el154 hs rfl rfl rfl (by decide) (by decide) rfl (sz_cons (vcs_csize _ _) sz_nil) (flat_cons rfl flat_nil) (fun cn w hs => ?_))
      have b2 : RowR (Rep.arr (Value.int .u16) (one_int .u16) 128) ρ (vcs (Value.int .u16) ao.2.1 ++ ([])) [ao.2.1] := RowR.cons (c := vcs (Value.int .u16) ao.2.1) (x := ao.2.1) rfl (RowR.nil _ _)
      refine O_nil (cm _ _ (fun _ _ => (hs.sub (ssk (ssc (ssc (ssc (ssc (ssc (ssc (ssc (ssc ssr))))))))))) ?_)
      obtain ⟨co, H⟩ := gd H
      refine D1 7 sh rfl (by kernel_rfl) (fun ej cp => O_appendR (i := 2) el154 hs rfl a6 rfl rfl rfl (Src.lit (j := 0) hs rfl b2) b2 co (fun bv bo w cq hs => O_nil (cp _ _ (fun h _ => absurd h (by decide)) <| OD_resetS sh [10] hs (by kernel_rfl) <| Dp 8 sh rfl rfl (by kernel_rfl) (fun w => Y_nilp rfl) <| Dp 9 sh rfl rfl (by kernel_rfl) (fun w => Y_field fo156_1 rfl) <| D1 10 sh rfl (by kernel_rfl) (fun ek cr => O_storeBeh (j := 5) (q := 0) sz154 hs rfl rfl rfl rfl rfl (St.rowOne hs (j := 2) rfl) (fun w hs => O_nil (cr _ _ (fun h _ => absurd h (by decide)) <| OD_doneS sh (by kernel_rfl) (cl _ _ <| W.weak [(0, _), (3, _), (4, _), (5, _), (6, _), (7, _), (8, _), (9, _), (14, _)] (by repeat first | exact Sub.nil | refine Sub.cons rfl ?_) ?_)))))))
      refine W_drawS 11 [0, 0, 2, 4, 8, 0, 32, 112, 255, 511, 767] [254, 249, 241, 225, 97, 31, 31, 1, 1024, 0, 0] [0, 0, 2, 6, 14, 0, 32, 126, 255, 511, 1023] [7, 8, 9, 10] (fun w => St w0 ρ ((.row (.slice (some ⟨cn, 0, none⟩) 1 1) 152 ((Rep.arr (Value.int .u16) (one_int .u16) 128).sz) (([ao.2.1]).length) (vcs (Value.int .u16) ao.2.1 ++ ([]))) :: (.row ag 4 Rep.bool.sz ae.length al) :: (.row bv 152 ((Rep.arr (Value.int .u16) (one_int .u16) 128).sz) ((ab ++ ([ao.2.1])).length) bo) :: (.box bi 152 ([] ++ (vcs (Value.int .u16) ao.2.1 ++ []))) :: (.obj bh (mapObj kv152.enc (vs (Value.int .u16) (mput ad ao.2.1 (IntKind.u16.wrap (ab.length : Int)))))) :: (.box bg 156 ([] ++ (vcs (Value.int .u16) aa ++ [bv, ag]))) :: (.box pb0 104 ([w0_0])) :: (.box pb1 23 ([w1_0])) :: (.box pb2 3 ([.int .i64 ao.2.2])) :: Γ) w) mixed (by kernel_rfl) (fun sh => ?_)
      have hs := hs.drew
      refine Dm 0 sh rfl rfl (by kernel_rfl) rfl <| Dm 1 sh rfl rfl (by kernel_rfl) rfl <| Dp 2 sh rfl rfl (by kernel_rfl) (fun w => Y_nilp rfl) <| Dp 3 sh rfl rfl (by kernel_rfl) (fun w => Y_field fo156_2 rfl) <| Dy 4 sh rfl rfl (by kernel_rfl) hs (fun w hs => Yb 5 ag84 hs rfl (seg_beh (q := 1) rfl rfl) rfl) <| D1 5 sh rfl (by kernel_rfl) (fun el ct => ?_)
      have hs := hs.front 3 rfl
      obtain ⟨bf, b3, H⟩ := bnd H
      refine O_call rfl rfl (stage_block_flat_ejg.c hs b3) (fun em w hpost => ?_)
      obtain ⟨rfl, hs⟩ := hpost
      have hs := hs.sink 3
      refine O_nil (ct _ _ (fun _ _ => hs) <| D1 6 sh rfl (by kernel_rfl) (fun en cu => O_lit2 (xs := [.tmp 67]) (cs := [.bool bf]) el84 hs rfl rfl rfl (by decide) (by decide) rfl (sz_cons rfl sz_nil) (flat_cons rfl flat_nil) (fun eo w hs => ?_)))
      have b4 : RowR Rep.bool ρ ([.bool bf]) [bf] := RowR.cons (c := [.bool bf]) (x := bf) rfl (RowR.nil _ _)
      refine O_nil (cu _ _ (fun _ _ => (hs.sub (ssk (ssc (ssc (ssc (ssc (ssc (ssc (ssc (ssc (ssc ssr)))))))))))) ?_)
      obtain ⟨cv, H⟩ := gd H
      refine D1 7 sh rfl (by kernel_rfl) (fun ep cw => O_appendR (i := 2) el84 hs rfl a5 rfl rfl rfl (Src.lit (j := 0) hs rfl b4) b4 cv (fun cx b5 w cy hs => O_nil (cw _ _ (fun h _ => absurd h (by decide)) <| OD_resetS sh [10] hs (by kernel_rfl) <| Dp 8 sh rfl rfl (by kernel_rfl) (fun w => Y_nilp rfl) <| Dp 9 sh rfl rfl (by kernel_rfl) (fun w => Y_field fo156_2 rfl) <| D1 10 sh rfl (by kernel_rfl) (fun eq cz => O_storeBeh (j := 6) (q := 1) sz84 hs rfl rfl rfl rfl rfl (St.rowOne hs (j := 2) rfl) (fun w hs => O_nil (cz _ _ (fun h _ => absurd h (by decide)) <| OD_doneS sh (by kernel_rfl) (b0 _ _ _ (by repeat first | exact Sub.nil | refine Sub.cons rfl ?_) (b1 (ae ++ ([bf])) (ab ++ ([ao.2.1])) (mput ad ao.2.1 (IntKind.u16.wrap (ab.length : Int))) (IntKind.u16.wrap (ab.length : Int)) cx b5 bv bo _ H (hs.sub (ssk (ssk (ssc (ssc (ssc (ssc (ssc (ssc (ssc (ssc ssr))))))))))) cy cq))))))))
     ·rw [if_neg (bft bu)] at H
      exact W_skip (b0 _ _ _ (by repeat first | exact Sub.nil | refine Sub.cons rfl ?_) (b1 ae ab ad ((mget ad ao.2.1).getD 0) ag al aj an _ H hs a5 a6))
   refine W_region <| Om rfl rfl <| O_y rfl (Y_not rfl) <| Om rfl rfl <| O_cases (dj := 24) rfl (fun bw => ?_) (fun bw => ?_)
   ·rw [if_pos bw] at H
    refine O_yes rfl rfl <| Om rfl rfl <| O_yes rfl rfl <| O_y rfl (Y_geq rfl rfl) <| O_y rfl (Y_pick_t rfl rfl) <| O_nil (bx _ _ _ (by repeat first | exact Sub.nil | refine Sub.cons rfl ?_) (bz (decide (0 ≤ af)) _ H hs))
   ·rw [if_neg (bft bw)] at H
    refine O_no rfl rfl rfl rfl <| O_no rfl rfl rfl rfl <| O_y rfl (Y_pick_f rfl rfl) <| O_nil (bx _ _ _ (by repeat first | exact Sub.nil | refine Sub.cons rfl ?_) (bz false _ H hs))
  ·rw [if_neg b7] at H
   refine W_exit (dn _ _ (dl _ _ <| Wr fun er da => Om rfl rfl <| Oa rfl rfl <| O_nil (da _ _ <| W_ret ?_)))
   obtain ⟨es, bp, hs, db⟩ := hs.rowEnd (j := 1) a6 rfl
   obtain ⟨et, bq, hs, dc⟩ := hs.rowEnd (j := 0) (a5.mono bp) rfl
   obtain ⟨dd, bl, hs, b6⟩ := hs.boxEnd (j := 2) rfl
   have de : PtrR rTab dd (.pointer (some ⟨bg, 0, none⟩)) (some (⟨aa, ab, ae⟩ : Tab)) := .inr ⟨bg, _, rfl, rfl, _, ⟨_, _, rfl, (db.mono (bq.trans bl)), (dc.mono bl)⟩, b6⟩
   obtain rfl := sinj H
   exact ret1 rfl rfl ⟨_, _, rfl, ((bp.trans bq).trans bl), (hs.sub (ssk (ssk (ssc (ssc (ssc ssr)))))), de⟩

def stage_Table_Over.f (x0 : Option Tab) (x1 : List Val) : Option (Option Tab × Int × Int) := (stage_check.f x1).bind fun aa => (if aa.2 ≠ 0 then (some (none, aa.1, aa.2)) else ((stage_made_mbk.f x0 x1 0).bind fun af => (some (af.1, 0, 0))))
theorem stage_Table_Over.c {w0 w : World} {ρ : Hp} {Γ : List Item} (hs : St w0 ρ (Γ) w) {v0 : Value} {x0 : Option Tab} (h0 : PtrR rTab ρ v0 x0) {v1 : Value} {x1 : List Val} (h1 : SlR rVal ρ v1 x1) {r : Option Tab × Int × Int} (H : stage_Table_Over.f x0 x1 = some r) : CallsR Tryz.prog 118 [v0, v1] w (fun v w' => ∃ (ρ' : Hp) (v0 : Value), v = .tuple #[v0, .int .i64 r.2.1, .int .i64 r.2.2] ∧ Le ρ ρ' ∧ St w0 ρ' (Γ) w' ∧ PtrR rTab ρ' v0 r.1) := by
  rw [stage_Table_Over.f] at H
  refine enter Tryz.func118 Tryz.ntmps118 rfl (by kernel_rfl) rfl <| Wr fun ap ag => O_box1 hs rfl rfl h0.one (fun aq w hs => O_box1 hs rfl rfl h1.one (fun ar w hs => Oa rfl rfl <| Oa rfl rfl <| Oa rfl rfl <| O_nil (ag _ _ <| W_seq fun au ah => Wr fun av ai => O_y rfl (Yb 0 ag23 hs rfl rfl rfl) ?_)))
  obtain ⟨aa, ab, H⟩ := bnd H
  refine O_call rfl rfl (stage_check.c hs h1 ab) (fun aw w hpost => ?_)
  obtain ⟨rfl, hs⟩ := hpost
  refine Om rfl rfl <| O_y rfl (Y_extract rfl rfl) <| O_y rfl (Y_extract rfl rfl) <| Oa rfl rfl <| Oa rfl rfl <| O_nil (ai _ _ <| Wr fun ax aj => Om rfl rfl <| O_y rfl (Y_neq rfl rfl) <| O_nil (aj _ _ <| W.weak [(2, _), (3, _), (7, _), (8, _), (16, _)] (by repeat first | exact Sub.nil | refine Sub.cons rfl ?_) ?_))
  refine W_if rfl (fun ac => ?_) (fun ac => ?_)
  ·rw [if_pos ac] at H
   refine Wr fun ay ak => Om rfl rfl <| Om rfl rfl <| Oa rfl rfl <| Oa rfl rfl <| Oa rfl rfl <| O_nil (ak _ _ <| W_ret ?_)
   have al : PtrR rTab ρ (.pointer none) none := PtrR.nil _ _
   obtain rfl := sinj H
   exact ret3 rfl rfl rfl rfl ⟨_, _, rfl, Le.rfl' _, (hs.sub (ssk (ssk ssr))), al⟩
  ·rw [if_neg ac] at H
   refine W_skip (ah _ _ <| Wr fun az am => O_alloc zr3 hs rfl (fun a0 w hs => O_store (i := 0) sz3 hs rfl rfl rfl rfl rfl (fun w hs => O_nil (am _ _ <| Wr fun a1 an => O_y rfl (Y_func rfl) ?_))))
   have hs := hs.front 1 rfl
   have hs := hs.front 2 rfl
   obtain ⟨af, ad, H⟩ := bnd H
   refine O_call rfl rfl (stage_made_mbk.c hs h0 h1 ad) (fun a2 w hpost => ?_)
   obtain ⟨a3, a4, rfl, ae, hs, ao⟩ := hpost
   have hs := hs.sink 2
   have hs := hs.sink 1
   refine Oa rfl rfl <| Oa rfl rfl <| Oa rfl rfl <| O_nil (an _ _ <| W_ret ?_)
   obtain rfl := sinj H
   exact ret3 rfl rfl rfl rfl ⟨_, _, rfl, ae, (hs.sub (ssk (ssk (ssk ssr)))), ao⟩

def stage_Build.f (x0 : List Val) : Option (Option Tab × Int × Int) := (stage_Table_Over.f none x0).bind fun aa => (some (aa.1, aa.2.1, aa.2.2))
theorem stage_Build.c {w0 w : World} {ρ : Hp} {Γ : List Item} (hs : St w0 ρ (Γ) w) {v0 : Value} {x0 : List Val} (h0 : SlR rVal ρ v0 x0) {r : Option Tab × Int × Int} (H : stage_Build.f x0 = some r) : CallsR Tryz.prog 63 [v0] w (fun v w' => ∃ (ρ' : Hp) (v0 : Value), v = .tuple #[v0, .int .i64 r.2.1, .int .i64 r.2.2] ∧ Le ρ ρ' ∧ St w0 ρ' (Γ) w' ∧ PtrR rTab ρ' v0 r.1) := by
  rw [stage_Build.f] at H
  refine enter Tryz.func63 Tryz.ntmps63 rfl (by kernel_rfl) rfl <| Wr fun ah ad => Oa rfl rfl <| Oa rfl rfl <| Oa rfl rfl <| O_nil (ad _ _ <| Wr fun ai ae => Om rfl rfl ?_)
  have af : PtrR rTab ρ (.pointer none) none := PtrR.nil _ _
  obtain ⟨aa, ab, H⟩ := bnd H
  refine O_call rfl rfl (stage_Table_Over.c hs af h0 ab) (fun aj w hpost => ?_)
  obtain ⟨ak, al, rfl, ac, hs, ag⟩ := hpost
  refine O_y rfl (Y_extract rfl rfl) <| O_y rfl (Y_extract rfl rfl) <| O_y rfl (Y_extract rfl rfl) <| Oa rfl rfl <| Oa rfl rfl <| Oa rfl rfl <| O_nil (ae _ _ <| W_ret ?_)
  obtain rfl := sinj H
  exact ret3 rfl rfl rfl rfl ⟨_, _, rfl, ac, hs, ag⟩

def book_Compile_1.f (x0 : List Val) : Option (Option Tab) := (stage_Build.f x0).bind fun ac => (some ac.1)
theorem book_Compile_1.c {w0 w : World} {ρ : Hp} {Γ : List Item} (hs : St w0 ρ (Γ) w) {v0 : Value} {x0 : List Val} (h0 : SlR rVal ρ v0 x0) {r : Option Tab} (H : book_Compile_1.f x0 = some r) : CallsR Tryz.prog 62 [v0] w (fun v w' => ∃ (ρ' : Hp) (v0 : Value), v = v0 ∧ Le ρ ρ' ∧ St w0 ρ' (Γ) w' ∧ PtrR rTab ρ' v0 r) := by
  rw [book_Compile_1.f] at H
  refine enter Tryz.func62 Tryz.ntmps62 rfl (by kernel_rfl) rfl <| Wr fun ah ad => Oa rfl rfl <| O_nil (ad _ _ <| Wr fun ai ae => Om rfl rfl ?_)
  obtain ⟨ac, aa, H⟩ := bnd H
  refine O_call rfl rfl (stage_Build.c hs h0 aa) (fun aj w hpost => ?_)
  obtain ⟨ak, al, rfl, ab, hs, af⟩ := hpost
  refine Om rfl rfl <| O_y rfl (Y_extract rfl rfl) <| O_y rfl (Y_extract rfl rfl) <| O_y rfl (Y_extract rfl rfl) <| Oa rfl rfl <| Oa rfl rfl <| Oa rfl rfl <| O_nil (ae _ _ <| Wr fun am ag => Om rfl rfl <| Oa rfl rfl <| O_nil (ag _ _ <| W_ret ?_))
  obtain rfl := sinj H
  exact ret1 rfl rfl ⟨_, _, rfl, ab, hs, af⟩

def book_marked.l1 : Nat → List Spn → List Val → Int → Option (Option Tab)
  | 0, _, _, _ => none
  | ae + 1, x0, ab, aa => if aa < (x0.length : Int) then (if (0 : Int) ≤ aa ∧ aa < (x0.length : Int) then (if ab.length + ([(⟨(rd x0 aa).lo, (rd x0 aa).hi, 1⟩ : Val)]).length ≤ most then ((book_marked.l1 ae x0) (ab ++ ([(⟨(rd x0 aa).lo, (rd x0 aa).hi, 1⟩ : Val)])) (IntKind.i64.wrap (aa + 1))) else none) else none) else ((stage_Build.f ab).bind fun ao => (some ao.1))
def book_marked.f (x0 : List Spn) : Option (Option Tab) := book_marked.l1 K0 x0 ([] : List Val) 0
theorem book_marked.c {w0 w : World} {ρ : Hp} {Γ : List Item} (hs : St w0 ρ (Γ) w) {v0 : Value} {x0 : List Spn} (h0 : SlR rSpn ρ v0 x0) {r : Option Tab} (H : book_marked.f x0 = some r) : CallsR Tryz.prog 64 [v0] w (fun v w' => ∃ (ρ' : Hp) (v0 : Value), v = v0 ∧ Le ρ ρ' ∧ St w0 ρ' (Γ) w' ∧ PtrR rTab ρ' v0 r) := by
  rw [book_marked.f] at H
  refine enter Tryz.func64 Tryz.ntmps64 rfl (by kernel_rfl) rfl <| Wr fun bf ar => Oa rfl rfl <| O_nil (ar _ _ <| Wr fun bg au => Oa rfl rfl ?_)
  have hs := hs.rowNil 67 rVal.sz
  have av := RowR.nil rVal ρ
  refine O_nil (au _ _ <| W_seq fun bh aw => Wr fun bi ax => Om rfl rfl <| O_y rfl (Y_lenR un25 h0 rfl) <| Om rfl rfl <| O_nil (ax _ _ <| W_block fun bj ay bk => W_loop (σ := Nat × List Val × Int × Value × List Value) (fun (ae, ab, aa, ac, ad) => [(3, ac), (9, v0), (10, .int .i64 (x0.length : Int)), (11, .int .i64 aa)]) (fun (ae, ab, aa, ac, ad) w => book_marked.l1 ae x0 ab aa = some r ∧ St w0 ρ ((.row ac 67 rVal.sz ab.length ad) :: Γ) w ∧ RowR rVal ρ ad ab) (fun s => s.1) (K0, ([] : List Val), 0, (.slice none 0 0), ([])) (S4 rfl rfl rfl rfl) (Ai H (Ai hs av)) ?_))
  rintro ⟨ae, ab, aa, ac, ad⟩ w bl ⟨H, hs, af⟩ ag
  show W _ _ _ _ _ _ [(3, ac), (9, v0), (10, .int .i64 (x0.length : Int)), (11, .int .i64 aa)] w
  cases ae with
  | zero => rw [book_marked.l1] at H; cases H
  | succ ae =>
  rw [book_marked.l1] at H
  refine Wr fun bm az => O_y rfl (Y_lss rfl rfl) <| O_nil (az _ _ <| W_seq fun bn a0 => W_if rfl (fun aj => ?_) (fun aj => ?_))
  ·rw [if_pos aj] at H
   refine W_skip (a0 _ _ <| W_seq fun bo a1 => W_block fun bp bq br => W_seq fun bs a2 => W_region ?_)
   obtain ⟨ap, H⟩ := gd H
   obtain ⟨bt, bu, a3, a4⟩ := h0.ix el25 ap.1 ap.2
   obtain ⟨_, rfl, a5⟩ := a3
   refine O_y rfl (a4 rfl rfl) <| O_y rfl (Y_loadN ag129 sz129 rfl rfl (fun j u hu => hs.see (a5 j u hu))) <| O_alloc zr129 hs rfl (fun bv w hs => O_storeN (i := 0) sz129 hs rfl rfl rfl rfl rfl (one_cons rfl (one_cons rfl one_nil)) (fun w hs => O_nil (a2 _ _ <| W_region <| Om rfl rfl <| O_y rfl (Y_field fo129_0 rfl) <| O_y rfl (Yb 0 ag21 hs rfl rfl rfl) <| O_y rfl (Y_field fo129_1 rfl) <| O_y rfl (Yb 0 ag21 hs rfl rfl rfl) <| O_y rfl (Y_build (cs := [.int .i32 ((rd x0 aa).lo), .int .i32 ((rd x0 aa).hi), .int .i64 1]) zr67 pl67 ((Parts.cons rfl rfl (Parts.cons rfl rfl (Parts.cons rfl rfl Parts.nil)))) ag67 (by kernel_rfl)) <| O_lit2 (xs := [.tmp 20]) (cs := [.int .i32 ((rd x0 aa).lo), .int .i32 ((rd x0 aa).hi), .int .i64 1]) el23 hs rfl rfl rfl (by decide) (by decide) rfl (sz_cons rfl sz_nil) (flat_cons rfl flat_nil) (fun bw w hs => ?_))))
   have aq : RowR rVal ρ ([.int .i32 ((rd x0 aa).lo), .int .i32 ((rd x0 aa).hi), .int .i64 1]) [(⟨(rd x0 aa).lo, (rd x0 aa).hi, 1⟩ : Val)] := RowR.cons (c := [.int .i32 ((rd x0 aa).lo), .int .i32 ((rd x0 aa).hi), .int .i64 1]) (x := (⟨(rd x0 aa).lo, (rd x0 aa).hi, 1⟩ : Val)) rfl (RowR.nil _ _)
   obtain ⟨a6, H⟩ := gd H
   refine O_appendR (i := 2) el23 hs rfl af rfl rfl rfl (Src.lit (j := 0) hs rfl aq) aq a6 (fun a7 ak w a8 hs => Oa rfl rfl <| O_nil (a1 _ _ <| W.weak [(3, _), (9, _), (10, _), (11, _)] (S4 rfl rfl rfl rfl) <| W_region <| O_y rfl (Y_add rfl rfl) <| Om rfl rfl <| O_nil (ag (ae, (ab ++ ([(⟨(rd x0 aa).lo, (rd x0 aa).hi, 1⟩ : Val)])), (IntKind.i64.wrap (aa + 1)), a7, ak) _ _ (S4 rfl rfl rfl rfl) (Ai H (Ai (hs.sub (ssk (ssk (ssc ssr)))) a8)) (Nat.lt_succ_self _))))
  ·rw [if_neg aj] at H
   refine W_exit (ay _ _ (aw _ _ <| W_seq fun bx a9 => ?_))
   obtain ⟨bz, al, hs, ba⟩ := hs.rowEnd (j := 0) af rfl
   refine W_region <| Om rfl rfl ?_
   obtain ⟨ao, ah, H⟩ := bnd H
   refine O_call rfl rfl (stage_Build.c hs ba ah) (fun bb w hpost => ?_)
   obtain ⟨bc, bd, rfl, ai, hs, am⟩ := hpost
   refine Om rfl rfl <| O_y rfl (Y_extract rfl rfl) <| O_y rfl (Y_extract rfl rfl) <| O_y rfl (Y_extract rfl rfl) <| Oa rfl rfl <| Oa rfl rfl <| Oa rfl rfl <| O_nil (a9 _ _ <| Wr fun be an => Om rfl rfl <| Oa rfl rfl <| O_nil (an _ _ <| W.weak [(2, _)] (S1 rfl) ?_))
   refine W_ret ?_
   obtain rfl := sinj H
   exact ret1 rfl rfl ⟨_, _, rfl, (al.trans ai), hs, am⟩

def book_numbered_api_Chars_fhb.l1 : Nat → List Chs → List Val → Int → Option (Option Tab)
  | 0, _, _, _ => none
  | af + 1, x0, ab, aa => if aa < (x0.length : Int) then (if (0 : Int) ≤ aa ∧ aa < (x0.length : Int) then ((book_ofChars.f (rd x0 aa)).bind fun ae => (if ab.length + ([(⟨ae.lo, ae.hi, IntKind.i64.wrap (aa + 1)⟩ : Val)]).length ≤ most then ((book_numbered_api_Chars_fhb.l1 af x0) (ab ++ ([(⟨ae.lo, ae.hi, IntKind.i64.wrap (aa + 1)⟩ : Val)])) (IntKind.i64.wrap (aa + 1))) else none)) else none) else ((stage_Build.f ab).bind fun ak => (some ak.1))
def book_numbered_api_Chars_fhb.f (x0 : List Chs) : Option (Option Tab) := book_numbered_api_Chars_fhb.l1 K0 x0 ([] : List Val) 0
theorem book_numbered_api_Chars_fhb.c {w0 w : World} {ρ : Hp} {Γ : List Item} (hs : St w0 ρ (Γ) w) {v0 : Value} {x0 : List Chs} (h0 : SlR rChs ρ v0 x0) {r : Option Tab} (H : book_numbered_api_Chars_fhb.f x0 = some r) : CallsR Tryz.prog 65 [v0, .func (.func 66) #[] #[]] w (fun v w' => ∃ (ρ' : Hp) (v0 : Value), v = v0 ∧ Le ρ ρ' ∧ St w0 ρ' (Γ) w' ∧ PtrR rTab ρ' v0 r) := by
  rw [book_numbered_api_Chars_fhb.f] at H
  refine enter Tryz.func65 Tryz.ntmps65 rfl (by kernel_rfl) rfl <| Wr fun bt a5 => Oa rfl rfl <| O_nil (a5 _ _ <| Wr fun bu a6 => Oa rfl rfl ?_)
  have hs := hs.rowNil 67 rVal.sz
  have a7 := RowR.nil rVal ρ
  refine O_nil (a6 _ _ <| W_seq fun bv a8 => Wr fun bw a9 => Om rfl rfl <| O_y rfl (Y_lenR un24 h0 rfl) <| Om rfl rfl <| O_nil (a9 _ _ <| W_block fun bx ba bz => W_loop (σ := Nat × List Val × Int × Value × List Value × Hp) (fun (af, ab, aa, ac, ad, ah) => [(1, .func (.func 66) #[] #[]), (5, ac), (12, v0), (13, .int .i64 (x0.length : Int)), (14, .int .i64 aa)]) (fun (af, ab, aa, ac, ad, ah) w => book_numbered_api_Chars_fhb.l1 af x0 ab aa = some r ∧ Le ρ ah ∧ St w0 ah ((.row ac 67 rVal.sz ab.length ad) :: Γ) w ∧ RowR rVal ah ad ab) (fun s => s.1) (K0, ([] : List Val), 0, (.slice none 0 0), ([]), ρ) (by repeat first | exact Sub.nil | refine Sub.cons rfl ?_) (Ai H (Ai (Le.rfl' _) (Ai hs a7))) ?_))
  rintro ⟨af, ab, aa, ac, ad, ah⟩ w b0 ⟨H, ai, hs, ag⟩ aj
  show W _ _ _ _ _ _ [(1, .func (.func 66) #[] #[]), (5, ac), (12, v0), (13, .int .i64 (x0.length : Int)), (14, .int .i64 aa)] w
  cases af with
  | zero => rw [book_numbered_api_Chars_fhb.l1] at H; cases H
  | succ af =>
  rw [book_numbered_api_Chars_fhb.l1] at H
  refine Wr fun b1 bb => O_y rfl (Y_lss rfl rfl) <| O_nil (bb _ _ <| W_seq fun b2 bc => W_if rfl (fun ar => ?_) (fun ar => ?_))
  ·rw [if_pos ar] at H
   refine W_skip (bc _ _ <| W_seq fun b3 bd => W_block fun b4 b5 b6 => Wr fun b7 be => Om rfl rfl ?_)
   obtain ⟨a2, H⟩ := gd H
   obtain ⟨b8, b9, bf, bg⟩ := (h0.mono ai).ix el24 a2.1 a2.2
   obtain ⟨_, ⟨ca, rfl, a3⟩, bh⟩ := bf
   refine O_y rfl (bg rfl rfl) <| O_y rfl (Y_loadN ag110 sz110 rfl rfl (fun j u hu => hs.see (bh j u hu))) <| O_alloc zr110 hs rfl (fun cb w hs => Oa rfl rfl <| O_storeN (i := 0) sz110 hs rfl rfl rfl rfl rfl (one_cons rfl (one_cons rfl (one_cons a3.one one_nil))) (fun w hs => O_nil (be _ _ <| Wr fun cc bi => Om rfl rfl <| O_y rfl (Y_loadbN (i := 0) ag110 sz110 hs rfl rfl rfl rfl) ?_)))
   obtain ⟨ae, au, H⟩ := bnd H
   refine O_callv rfl rfl rfl (book_ofChars.c hs ⟨_, rfl, a3⟩ au) (fun cd w hpost => ?_)
   obtain ⟨a4, bj, rfl, al, hs, bk⟩ := hpost
   have bl := bk
   obtain rfl := bl
   refine O_alloc zr129 hs rfl (fun ce w hs => O_storeN (i := 0) sz129 hs rfl rfl rfl rfl rfl (one_cons rfl (one_cons rfl one_nil)) (fun w hs => O_nil (bi _ _ <| W.weak [(1, _), (5, _), (6, _), (8, _), (12, _), (13, _), (14, _)] (by repeat first | exact Sub.nil | refine Sub.cons rfl ?_) ?_)))
   refine W_region <| Om rfl rfl <| O_y rfl (Y_field fo129_0 rfl) <| O_y rfl (Yb 0 ag21 hs rfl rfl rfl) <| O_y rfl (Y_field fo129_1 rfl) <| O_y rfl (Yb 0 ag21 hs rfl rfl rfl) <| Om rfl rfl <| O_y rfl (Y_add rfl rfl) <| O_y rfl (Y_build (cs := [.int .i32 ae.lo, .int .i32 ae.hi, .int .i64 (IntKind.i64.wrap (aa + 1))]) zr67 pl67 ((Parts.cons rfl rfl (Parts.cons rfl rfl (Parts.cons rfl rfl Parts.nil)))) ag67 (by kernel_rfl)) <| O_lit2 (xs := [.tmp 29]) (cs := [.int .i32 ae.lo, .int .i32 ae.hi, .int .i64 (IntKind.i64.wrap (aa + 1))]) el23 hs rfl rfl rfl (by decide) (by decide) rfl (sz_cons rfl sz_nil) (flat_cons rfl flat_nil) (fun bm w hs => ?_)
   have am : RowR rVal a4 ([.int .i32 ae.lo, .int .i32 ae.hi, .int .i64 (IntKind.i64.wrap (aa + 1))]) [(⟨ae.lo, ae.hi, IntKind.i64.wrap (aa + 1)⟩ : Val)] := RowR.cons (c := [.int .i32 ae.lo, .int .i32 ae.hi, .int .i64 (IntKind.i64.wrap (aa + 1))]) (x := (⟨ae.lo, ae.hi, IntKind.i64.wrap (aa + 1)⟩ : Val)) rfl (RowR.nil _ _)
   obtain ⟨av, H⟩ := gd H
   refine O_appendR (i := 3) el23 hs rfl (ag.mono al) rfl rfl rfl (Src.lit (j := 0) hs rfl am) am av (fun aw an w ax hs => Oa rfl rfl <| O_nil (bd _ _ <| W.weak [(1, _), (5, _), (12, _), (13, _), (14, _)] (by repeat first | exact Sub.nil | refine Sub.cons rfl ?_) ?_))
   refine W_region <| O_y rfl (Y_add rfl rfl) <| Om rfl rfl <| O_nil (aj (af, (ab ++ ([(⟨ae.lo, ae.hi, IntKind.i64.wrap (aa + 1)⟩ : Val)])), (IntKind.i64.wrap (aa + 1)), aw, an, a4) _ _ (by repeat first | exact Sub.nil | refine Sub.cons rfl ?_) (Ai H (Ai (ai.trans al) (Ai (hs.sub (ssk (ssk (ssk (ssc ssr))))) ax))) (Nat.lt_succ_self _))
  ·rw [if_neg ar] at H
   refine W_exit (ba _ _ (a8 _ _ <| W_seq fun bn ay => ?_))
   obtain ⟨bo, ao, hs, az⟩ := hs.rowEnd (j := 0) ag rfl
   refine W_region <| Om rfl rfl ?_
   obtain ⟨ak, ap, H⟩ := bnd H
   refine O_call rfl rfl (stage_Build.c hs az ap) (fun bp w hpost => ?_)
   obtain ⟨bq, br, rfl, aq, hs, a0⟩ := hpost
   refine Om rfl rfl <| O_y rfl (Y_extract rfl rfl) <| O_y rfl (Y_extract rfl rfl) <| O_y rfl (Y_extract rfl rfl) <| Oa rfl rfl <| Oa rfl rfl <| Oa rfl rfl <| O_nil (ay _ _ <| W.weak [(9, _)] (S1 rfl) <| Wr fun bs a1 => Om rfl rfl <| Oa rfl rfl <| O_nil (a1 _ _ ?_))
   refine W_ret ?_
   obtain rfl := sinj H
   exact ret1 rfl rfl ⟨_, _, rfl, ((ai.trans ao).trans aq), hs, a0⟩

def stage_Table_Look.j1 (x0 : Option Tab) (x1 : Int) (aa : Bool) : Option Int := if aa = true then (some 0) else (if x0.isSome = true then (if (0 : Int) ≤ IntKind.i32.wrap (x1.tdiv 128) ∧ IntKind.i32.wrap (x1.tdiv 128) < ((8704 : Nat) : Int) then (if (0 : Int) ≤ vg (((x0).getD default).which) (IntKind.i32.wrap (x1.tdiv 128)) ∧ vg (((x0).getD default).which) (IntKind.i32.wrap (x1.tdiv 128)) < ((((x0).getD default).unlike).length : Int) then (if (0 : Int) ≤ x1.tmod 128 ∧ x1.tmod 128 < ((128 : Nat) : Int) then (some (IntKind.i64.wrap (vg (rd (((x0).getD default).unlike) (vg (((x0).getD default).which) (IntKind.i32.wrap (x1.tdiv 128)))) (x1.tmod 128)))) else none) else none) else none) else none)
def stage_Table_Look.f (x0 : Option Tab) (x1 : Int) : Option Int := if ((x0).isNone) = true then (stage_Table_Look.j1 x0 x1 true) else (if x1 < 0 then (stage_Table_Look.j1 x0 x1 true) else (stage_Table_Look.j1 x0 x1 (decide (1114111 < x1))))
theorem stage_Table_Look.c {w0 w : World} {ρ : Hp} {Γ : List Item} (hs : St w0 ρ (Γ) w) {v0 : Value} {x0 : Option Tab} (h0 : PtrR rTab ρ v0 x0) {x1 r : Int} (H : stage_Table_Look.f x0 x1 = some r) : CallsR Tryz.prog 67 [v0, .int .i32 x1] w (fun v w' => v = .int .i64 r ∧ St w0 ρ Γ w') := by
  rw [stage_Table_Look.f] at H
  refine enter Tryz.func67 Tryz.ntmps67 rfl (by kernel_rfl) rfl <| Wr fun a4 am => Oa rfl rfl <| O_nil (am _ _ <| W_seq fun a5 an => W_seqj fun ao ap ad => ?_)
  have ae : ∀ (aa : Bool) (w : World), stage_Table_Look.j1 x0 x1 aa = some r → St w0 ρ (Γ) w → ao [(0, v0), (1, .int .i32 x1), (14, .bool aa)] w := by
   intro aa w H hs
   rw [stage_Table_Look.j1] at H
   refine ap _ _ <| W_cond rfl (fun af => ?_) (fun af => ?_)
   ·rw [if_pos af] at H
    refine Wr fun a6 aq => Oa rfl rfl <| O_nil (aq _ _ <| W_ret ?_)
    obtain rfl := sinj H
    exact ret1 rfl rfl ⟨rfl, hs⟩
   ·rw [if_neg (bft af)] at H
    refine W_skip (an _ _ <| W_seq fun a7 ar => W_drawS 18 [0, 1, 2, 4, 0, 0, 32, 16, 128, 320, 512, 0, 2048, 1032, 12288, 16384, 32768, 131071] [131068, 131064, 131056, 122864, 130927, 130975, 130463, 130671, 130159, 129039, 120847, 124927, 108543, 104448, 65536, 0, 0, 0] [0, 1, 3, 7, 0, 0, 32, 16, 144, 496, 1008, 0, 2048, 2047, 16383, 32767, 65535, 131071] [] (fun w => St w0 ρ (Γ) w) mixed (by kernel_rfl) (fun sh => ?_))
    have hs := hs.drew
    refine Dm 0 sh rfl rfl (by kernel_rfl) rfl ?_
    obtain ⟨ak, H⟩ := gd H
    obtain ⟨a8, ag, au⟩ := h0.open ak
    obtain ⟨_, ⟨a9, ba, rfl, av, bb⟩, aw⟩ := au
    refine Dp 1 sh rfl rfl (by kernel_rfl) (fun w => Y_nilp (congrArg some ag)) <| Dp 2 sh rfl rfl (by kernel_rfl) (fun w => Y_field fo156_1 rfl) <| Dy 3 sh rfl rfl (by kernel_rfl) hs (fun w hs => Y_load ag154 rfl (hs.see (aw 8704 _ (seg_beh (q := 0) rfl rfl)))) <| Dm 4 sh rfl rfl (by kernel_rfl) rfl <| Dm 5 sh rfl rfl (by kernel_rfl) rfl <| Dp 6 sh rfl rfl (by kernel_rfl) (fun w => Y_quo rfl rfl (by decide)) ?_
    obtain ⟨bc, ah, ax⟩ := h0.open ak
    obtain ⟨_, ⟨bd, be, rfl, bf, bg⟩, ay⟩ := ax
    refine Dp 7 sh rfl rfl (by kernel_rfl) (fun w => Y_nilp (congrArg some ah)) <| Dp 8 sh rfl rfl (by kernel_rfl) (fun w => Y_field fo156_0 rfl) ?_
    obtain ⟨ab, H⟩ := gd H
    have az := CA.seg (q := 0) ay rfl ab.1 ab.2
    refine Dp 9 sh rfl rfl (by kernel_rfl) (fun w => Y_ixArr un153 sz150 rfl rfl ab.1 ab.2) <| Dy 10 sh rfl rfl (by kernel_rfl) hs (fun w hs => Y_load ag150 rfl (hs.see az)) <| Dm 11 sh rfl rfl (by kernel_rfl) rfl <| Dp 12 sh rfl rfl (by kernel_rfl) (fun w => Y_rem rfl rfl (by decide)) ?_
    obtain ⟨al, H⟩ := gd H
    obtain ⟨bh, bi, a0, a1⟩ := av.ix el154 al.1 al.2
    have a2 := a0.arr
    refine Dp 13 sh rfl rfl (by kernel_rfl) (fun w => a1 rfl rfl) ?_
    obtain ⟨ac, H⟩ := gd H
    have a3 := CA.seg (q := 0) a2 rfl ac.1 ac.2
    refine Dp 14 sh rfl rfl (by kernel_rfl) (fun w => Y_ixArr un152 sz150 rfl rfl ac.1 ac.2) <| Dy 15 sh rfl rfl (by kernel_rfl) hs (fun w hs => Y_load ag150 rfl (hs.see a3)) <| Dp 16 sh rfl rfl (by kernel_rfl) (fun w => Y_conv un150 un3 rfl) <| Dp 17 sh rfl rfl (by kernel_rfl) (fun w => Y_assign rfl) <| OD_doneS sh (by kernel_rfl) (ar _ _ <| W.weak [(4, _)] (S1 rfl) <| W_ret ?_)
    obtain rfl := sinj H
    exact ret1 rfl rfl ⟨rfl, hs⟩
  refine W_region <| Om rfl rfl <| O_y rfl ((h0.eqn un104 rfl rfl)) <| Om rfl rfl <| O_cases (dj := 7) rfl (fun ai => ?_) (fun ai => ?_)
  ·rw [if_pos ai] at H
   refine O_no rfl rfl rfl rfl <| O_no rfl rfl rfl rfl <| O_y rfl (Y_pick_t rfl rfl) <| Om rfl rfl <| O_no rfl rfl rfl rfl <| O_no rfl rfl rfl rfl <| O_y rfl (Y_pick_t rfl rfl) <| O_nil (ad _ _ _ (S3 rfl rfl rfl) (ae true _ H hs))
  ·rw [if_neg (bft ai)] at H
   refine O_yes rfl rfl <| Om rfl rfl <| O_yes rfl rfl <| O_y rfl (Y_lss rfl rfl) <| O_y rfl (Y_pick_f rfl rfl) <| Om rfl rfl <| O_if (dj := 11) rfl (fun aj => ?_) (fun aj => ?_)
   ·rw [if_pos aj] at H
    refine O_no rfl rfl rfl rfl <| O_no rfl rfl rfl rfl <| O_y rfl (Y_pick_t rfl rfl) <| O_nil (ad _ _ _ (S3 rfl rfl rfl) (ae true _ H hs))
   ·rw [if_neg aj] at H
    refine O_yes rfl rfl <| Om rfl rfl <| O_yes rfl rfl <| O_y rfl (Y_gtr rfl rfl) <| O_y rfl (Y_pick_f rfl rfl) <| O_nil (ad _ _ _ (S3 rfl rfl rfl) (ae (decide (1114111 < x1)) _ H hs))

end Go.Proofs.YthoicbafdanmkaaGreatDoor
/- Written by this repo's gen.py: for each Go function a Lean function with the same answers and the walk that shows it. -/
namespace Go.Proofs.YthoicbafdanmkaaGreatDoor
open Go.RowKit
set_option maxRecDepth 100000
set_option maxHeartbeats 4000000
set_option linter.unusedVariables false
def book_Tables_Class.f (x0 : Option Tbs) (x1 : Int) : Option Int := if ((x0).isNone) = true then (some 0) else (if x0.isSome = true then ((stage_Table_Look.f (((x0).getD default).class_) x1).bind fun aa => (some aa)) else none)
theorem book_Tables_Class.c {w0 w : World} {ρ : Hp} {Γ : List Item} (hs : St w0 ρ (Γ) w) {v0 : Value} {x0 : Option Tbs} (h0 : PtrR rTbs ρ v0 x0) {x1 r : Int} (H : book_Tables_Class.f x0 x1 = some r) : CallsR Tryz.prog 133 [v0, .int .i32 x1] w (fun v w' => v = .int .i64 r ∧ St w0 ρ Γ w') := by
  rw [book_Tables_Class.f] at H
  refine enter Tryz.func133 Tryz.ntmps133 rfl (by kernel_rfl) rfl <| Wr fun a0 af => Oa rfl rfl <| O_nil (af _ _ <| W_seq fun a1 ag => Wr fun a2 ah => Om rfl rfl <| O_y rfl ((h0.eqn un29 rfl rfl)) <| O_nil (ah _ _ <| W_cond rfl (fun ac => ?_) (fun ac => ?_)))
  ·rw [if_pos ac] at H
   refine Wr fun a3 ai => Oa rfl rfl <| O_nil (ai _ _ <| W_ret ?_)
   obtain rfl := sinj H
   exact ret1 rfl rfl ⟨rfl, hs⟩
  ·rw [if_neg (bft ac)] at H
   refine W_skip (ag _ _ <| Wr fun a4 aj => Om rfl rfl ?_)
   obtain ⟨ak, H⟩ := gd H
   obtain ⟨a5, ad, al⟩ := h0.open ak
   obtain ⟨_, ⟨a6, a7, a8, a9, ba, bb, bc, bd, be, bf, bg, bh, bi, bj, bk, bl, bm, am, an, ao, ap, aq, rfl, bn, bo, bp, bq, br, bs, bt, bu, bv, bw, bx, bz, ar, b0, b1, b2, b3, au, av, aw, ax, ay⟩, ae⟩ := al
   refine O_y rfl (Y_nilp (congrArg some ad)) <| O_y rfl (Y_field fo114_2 rfl) <| O_y rfl (Y_load ag104 rfl (hs.see (ae 12 _ rfl))) <| Om rfl rfl ?_
   obtain ⟨aa, ab, H⟩ := bnd H
   refine O_call rfl rfl (stage_Table_Look.c hs ar ab) (fun az w hpost => ?_)
   obtain ⟨rfl, hs⟩ := hpost
   refine Oa rfl rfl <| O_nil (aj _ _ <| W_ret ?_)
   obtain rfl := sinj H
   exact ret1 rfl rfl ⟨rfl, hs⟩

def cmp_isNaN_int.f (x0 : Int) : Option Bool := some (decide (x0 ≠ x0))
theorem cmp_isNaN_int.c {w0 w : World} {ρ : Hp} {Γ : List Item} (hs : St w0 ρ (Γ) w) {x0 : Int} {r : Bool} (H : cmp_isNaN_int.f x0 = some r) : CallsR Tryz.prog 179 [.int .i64 x0] w (fun v w' => v = .bool r ∧ St w0 ρ Γ w') := by
  rw [cmp_isNaN_int.f] at H
  refine enter Tryz.func179 Tryz.ntmps179 rfl (by kernel_rfl) rfl <| Wr fun ac aa => Oa rfl rfl <| O_nil (aa _ _ <| Wr fun ad ab => Om rfl rfl <| Om rfl rfl <| O_y rfl (Y_neq rfl rfl) <| Oa rfl rfl <| O_nil (ab _ _ <| W_ret ?_))
  obtain rfl := sinj H
  exact ret1 rfl rfl ⟨rfl, hs⟩

def cmp_Compare_int.f (x0 x1 : Int) : Option Int := (cmp_isNaN_int.f x0).bind fun ai => ((cmp_isNaN_int.f x1).bind fun aa => (if ai = true then (if aa = true then (some 0) else (some (-1))) else (if aa = true then (some 1) else (if x0 < x1 then (some (-1)) else (if x1 < x0 then (some 1) else (some 0))))))
theorem cmp_Compare_int.c {w0 w : World} {ρ : Hp} {Γ : List Item} (hs : St w0 ρ (Γ) w) {x0 x1 r : Int} (H : cmp_Compare_int.f x0 x1 = some r) : CallsR Tryz.prog 167 [.int .i64 x0, .int .i64 x1] w (fun v w' => v = .int .i64 r ∧ St w0 ρ Γ w') := by
  rw [cmp_Compare_int.f] at H
  refine enter Tryz.func167 Tryz.ntmps167 rfl (by kernel_rfl) rfl <| Wr fun a4 aj => Oa rfl rfl <| O_nil (aj _ _ <| Wr fun a5 ak => Om rfl rfl ?_)
  obtain ⟨ai, ab, H⟩ := bnd H
  refine O_call rfl rfl (cmp_isNaN_int.c hs ab) (fun a6 w hpost => ?_)
  obtain ⟨rfl, hs⟩ := hpost
  refine Oa rfl rfl <| O_nil (ak _ _ <| Wr fun a7 al => Om rfl rfl ?_)
  obtain ⟨aa, ac, H⟩ := bnd H
  refine O_call rfl rfl (cmp_isNaN_int.c hs ac) (fun a8 w hpost => ?_)
  obtain ⟨rfl, hs⟩ := hpost
  refine Oa rfl rfl <| O_nil (al _ _ <| W_seq fun a9 am => Wr fun ba an => Om rfl rfl <| O_nil (an _ _ <| W_cond rfl (fun ad => ?_) (fun ad => ?_)))
  ·rw [if_pos ad] at H
   refine W_seq fun bb ao => Wr fun bc ap => Om rfl rfl <| O_nil (ap _ _ <| W_cond rfl (fun ae => ?_) (fun ae => ?_))
   ·rw [if_pos ae] at H
    refine Wr fun bd aq => Oa rfl rfl <| O_nil (aq _ _ <| W_ret ?_)
    obtain rfl := sinj H
    exact ret1 rfl rfl ⟨rfl, hs⟩
   ·rw [if_neg (bft ae)] at H
    refine W_skip (ao _ _ <| Wr fun be ar => Oa rfl rfl <| O_nil (ar _ _ <| W_ret ?_))
    obtain rfl := sinj H
    exact ret1 rfl rfl ⟨rfl, hs⟩
  ·rw [if_neg (bft ad)] at H
   refine W_skip (am _ _ <| W_seq fun bf au => Wr fun bg av => Om rfl rfl <| O_nil (av _ _ <| W_cond rfl (fun af => ?_) (fun af => ?_)))
   ·rw [if_pos af] at H
    refine Wr fun bh aw => Oa rfl rfl <| O_nil (aw _ _ <| W_ret ?_)
    obtain rfl := sinj H
    exact ret1 rfl rfl ⟨rfl, hs⟩
   ·rw [if_neg (bft af)] at H
    refine W_skip (au _ _ <| W_seq fun bi ax => Wr fun bj ay => Om rfl rfl <| Om rfl rfl <| O_y rfl (Y_lss rfl rfl) <| O_nil (ay _ _ <| W_if rfl (fun ag => ?_) (fun ag => ?_)))
    ·rw [if_pos ag] at H
     refine Wr fun bk az => Oa rfl rfl <| O_nil (az _ _ <| W_ret ?_)
     obtain rfl := sinj H
     exact ret1 rfl rfl ⟨rfl, hs⟩
    ·rw [if_neg ag] at H
     refine W_skip (ax _ _ <| W_seq fun bl a0 => Wr fun bm a1 => Om rfl rfl <| Om rfl rfl <| O_y rfl (Y_gtr rfl rfl) <| O_nil (a1 _ _ <| W.weak [(19, _)] (S1 rfl) <| W_if rfl (fun ah => ?_) (fun ah => ?_)))
     ·rw [if_pos ah] at H
      refine Wr fun bn a2 => Oa rfl rfl <| O_nil (a2 _ _ <| W_ret ?_)
      obtain rfl := sinj H
      exact ret1 rfl rfl ⟨rfl, hs⟩
     ·rw [if_neg ah] at H
      refine W_skip (a0 _ _ <| Wr fun bo a3 => Oa rfl rfl <| O_nil (a3 _ _ <| W_ret ?_))
      obtain rfl := sinj H
      exact ret1 rfl rfl ⟨rfl, hs⟩

def canon_Order_1_ccl.f (x0 x1 : Int) (y0_0 : Option Tbs) : Option Int := (book_Tables_Class.f y0_0 x0).bind fun ad => ((book_Tables_Class.f y0_0 x1).bind fun ae => ((cmp_Compare_int.f ad ae).bind fun af => (some af)))
theorem canon_Order_1_ccl.c {w0 w : World} {ρ : Hp} {Γ : List Item} {pb0 : Nat} {w0_0 : Value} {y0_0 : Option Tbs} (hs : St w0 ρ ((.box pb0 29 ([w0_0])) :: Γ) w) {x0 x1 : Int} (g0_0 : PtrR rTbs ρ w0_0 y0_0) {r : Int} (H : canon_Order_1_ccl.f x0 x1 y0_0 = some r) : CallsR Tryz.prog 166 [.int .i32 x0, .int .i32 x1, .pointer (some ⟨pb0, 0, none⟩)] w (fun v w' => v = .int .i64 r ∧ St w0 ρ ((.box pb0 29 ([w0_0])) :: Γ) w') := by
  rw [canon_Order_1_ccl.f] at H
  refine enter Tryz.func166 Tryz.ntmps166 rfl (by kernel_rfl) rfl <| Wr fun al ag => Oa rfl rfl <| O_nil (ag _ _ <| W_seq fun am ah => W_drawS 8 [0, 0, 3, 0, 0, 28, 36, 127] [122, 121, 24, 87, 79, 0, 0, 0] [0, 0, 3, 0, 0, 31, 63, 127] [] (fun w => St w0 ρ ((.box pb0 29 ([w0_0])) :: Γ) w) mixed (by kernel_rfl) (fun sh => ?_))
  have hs := hs.drew
  refine Dy 0 sh rfl rfl (by kernel_rfl) hs (fun w hs => Yb 0 ag29 hs rfl rfl rfl) <| Dm 1 sh rfl rfl (by kernel_rfl) rfl <| Dy 3 sh rfl rfl (by kernel_rfl) hs (fun w hs => Yb 0 ag29 hs rfl rfl rfl) <| Dm 4 sh rfl rfl (by kernel_rfl) rfl <| D1 2 sh rfl (by kernel_rfl) (fun an ai => ?_)
  obtain ⟨ad, aa, H⟩ := bnd H
  refine O_call rfl rfl (book_Tables_Class.c hs g0_0 aa) (fun ao w hpost => ?_)
  obtain ⟨rfl, hs⟩ := hpost
  refine O_nil (ai _ _ (fun _ _ => hs) <| D1 5 sh rfl (by kernel_rfl) (fun ap aj => ?_))
  obtain ⟨ae, ab, H⟩ := bnd H
  refine O_call rfl rfl (book_Tables_Class.c hs g0_0 ab) (fun aq w hpost => ?_)
  obtain ⟨rfl, hs⟩ := hpost
  refine O_nil (aj _ _ (fun _ _ => hs) <| D1 6 sh rfl (by kernel_rfl) (fun ar ak => ?_))
  obtain ⟨af, ac, H⟩ := bnd H
  refine O_call rfl rfl (cmp_Compare_int.c hs ac) (fun au w hpost => ?_)
  obtain ⟨rfl, hs⟩ := hpost
  refine O_nil (ak _ _ (fun _ _ => hs) <| Dp 7 sh rfl rfl (by kernel_rfl) (fun w => Y_assign rfl) <| OD_doneS sh (by kernel_rfl) (ah _ _ <| W_ret ?_))
  obtain rfl := sinj H
  exact ret1 rfl rfl ⟨rfl, hs⟩

def slices_insertionSortCmpFunc_rune_lbg.j1 (ah : List Int → Int → Option (List Int)) (aq : List Int → Int → Option (List Int)) (ac : Int) (aa : List Int) (ab : Int) (ai : Bool) : Option (List Int) := if ai = true then (if (0 : Int) ≤ IntKind.i64.wrap (ab - 1) ∧ IntKind.i64.wrap (ab - 1) < (aa.length : Int) then (if (0 : Int) ≤ ab ∧ ab < (aa.length : Int) then (if (0 : Int) ≤ IntKind.i64.wrap (ab - 1) ∧ IntKind.i64.wrap (ab - 1) < ((aa.set ab.toNat (rd aa (IntKind.i64.wrap (ab - 1)))).length : Int) then (aq ((aa.set ab.toNat (rd aa (IntKind.i64.wrap (ab - 1)))).set (IntKind.i64.wrap (ab - 1)).toNat (rd aa ab)) (IntKind.i64.wrap (ab - 1))) else none) else none) else none) else (ah aa (IntKind.i64.wrap (ac + 1)))
def slices_insertionSortCmpFunc_rune_lbg.l1 (ah : List Int → Int → Option (List Int)) : Nat → Option Tbs → Int → Int → List Int → Int → Option (List Int)
  | 0, _, _, _, _, _ => none
  | ak + 1, y1_0, x1, ac, aa, ab => if x1 < ab then (if (0 : Int) ≤ ab ∧ ab < (aa.length : Int) then (if (0 : Int) ≤ IntKind.i64.wrap (ab - 1) ∧ IntKind.i64.wrap (ab - 1) < (aa.length : Int) then ((canon_Order_1_ccl.f (rd aa ab) (rd aa (IntKind.i64.wrap (ab - 1))) y1_0).bind fun ar => (slices_insertionSortCmpFunc_rune_lbg.j1 ah (slices_insertionSortCmpFunc_rune_lbg.l1 ah ak y1_0 x1 ac) ac aa ab (decide (ar < 0)))) else none) else none) else (slices_insertionSortCmpFunc_rune_lbg.j1 ah (slices_insertionSortCmpFunc_rune_lbg.l1 ah ak y1_0 x1 ac) ac aa ab false)
def slices_insertionSortCmpFunc_rune_lbg.l2 : Nat → Option Tbs → Int → Int → List Int → Int → Option (List Int)
  | 0, _, _, _, _, _ => none
  | aj + 1, y1_0, x1, x2, ae, ac => if ac < x2 then (slices_insertionSortCmpFunc_rune_lbg.l1 (slices_insertionSortCmpFunc_rune_lbg.l2 aj y1_0 x1 x2) K0 y1_0 x1 ac ae ac) else (some ae)
def slices_insertionSortCmpFunc_rune_lbg.f (x1 x2 : Int) (y0 : List Int) (y1_0 : Option Tbs) : Option (List Int) := slices_insertionSortCmpFunc_rune_lbg.l2 K0 y1_0 x1 x2 y0 (IntKind.i64.wrap (x1 + 1))
theorem slices_insertionSortCmpFunc_rune_lbg.c {w0 w : World} {ρ : Hp} {Γ : List Item} {wr0 wd0 : Value} {d0 : List Value} {wp0 wq0 : List Int} {wm0 : Nat} {y0 : List Int} {pb1 : Nat} {w1_0 : Value} {y1_0 : Option Tbs} (hs : St w0 ρ ((.row wr0 21 ((Rep.int .i32).sz) wm0 d0) :: (.box pb1 29 ([w1_0])) :: Γ) w) {x1 x2 : Int} (g0 : WinR .i32 ρ wr0 d0 wd0 wp0 wq0 y0) (g1_0 : PtrR rTbs ρ w1_0 y1_0) {r : List Int} (H : slices_insertionSortCmpFunc_rune_lbg.f x1 x2 y0 y1_0 = some r) : CallsR Tryz.prog 185 [wd0, .int .i64 x1, .int .i64 x2, .func (.func 166) #[] #[.pointer (some ⟨pb1, 0, none⟩)]] w (fun v w' => ∃ (ρ' : Hp) (ds0 : List Value), v = .tuple #[] ∧ Le ρ ρ' ∧ St w0 ρ' ((.row wr0 21 ((Rep.int .i32).sz) wm0 ds0) :: (.box pb1 29 ([w1_0])) :: Γ) w' ∧ WinR .i32 ρ' wr0 ds0 wd0 wp0 wq0 r) := by
  rw [slices_insertionSortCmpFunc_rune_lbg.f] at H
  refine enter Tryz.func185 Tryz.ntmps185 rfl (by kernel_rfl) rfl <| Wr fun b5 bj => Om rfl rfl <| O_y rfl (Y_add rfl rfl) <| Oa rfl rfl <| O_nil (bj _ _ <| W_block fun b6 bk b7 => W_loop (σ := Nat × List Int × Int × List Value) (fun (aj, ae, ac, ag) => [(0, wd0), (1, .int .i64 x1), (2, .int .i64 x2), (3, .func (.func 166) #[] #[.pointer (some ⟨pb1, 0, none⟩)]), (8, .int .i64 ac)]) (fun (aj, ae, ac, ag) w => slices_insertionSortCmpFunc_rune_lbg.l2 aj y1_0 x1 x2 ae ac = some r ∧ St w0 ρ ((.row wr0 21 ((Rep.int .i32).sz) wm0 ag) :: (.box pb1 29 ([w1_0])) :: Γ) w ∧ WinR .i32 ρ wr0 ag wd0 wp0 wq0 ae) (fun s => s.1) (K0, y0, (IntKind.i64.wrap (x1 + 1)), d0) (by repeat first | exact Sub.nil | refine Sub.cons rfl ?_) (Ai H (Ai hs g0)) ?_)
  rintro ⟨aj, ae, ac, ag⟩ w b8 ⟨H, hs, al⟩ au
  show W _ _ _ _ _ _ [(0, wd0), (1, .int .i64 x1), (2, .int .i64 x2), (3, .func (.func 166) #[] #[.pointer (some ⟨pb1, 0, none⟩)]), (8, .int .i64 ac)] w
  cases aj with
  | zero => rw [slices_insertionSortCmpFunc_rune_lbg.l2] at H; cases H
  | succ aj =>
  rw [slices_insertionSortCmpFunc_rune_lbg.l2] at H
  refine W_seq fun b9 bl => Wr fun ca bm => Om rfl rfl <| Om rfl rfl <| O_y rfl (Y_lss rfl rfl) <| O_nil (bm _ _ <| W_if rfl (fun a4 => ?_) (fun a4 => ?_))
  ·rw [if_pos a4] at H
   refine W_skip (bl _ _ <| W_seq fun cb bn => W_block fun cc cd ce => Wr fun cf bo => Om rfl rfl <| Oa rfl rfl <| O_nil (bo _ _ <| W_block fun cg bp ch => W_loop (σ := Nat × List Int × Int × List Value) (fun (ak, aa, ab, af) => [(0, wd0), (1, .int .i64 x1), (2, .int .i64 x2), (3, .func (.func 166) #[] #[.pointer (some ⟨pb1, 0, none⟩)]), (8, .int .i64 ac), (9, .int .i64 ab)]) (fun (ak, aa, ab, af) w => slices_insertionSortCmpFunc_rune_lbg.l1 (slices_insertionSortCmpFunc_rune_lbg.l2 aj y1_0 x1 x2) ak y1_0 x1 ac aa ab = some r ∧ St w0 ρ ((.row wr0 21 ((Rep.int .i32).sz) wm0 af) :: (.box pb1 29 ([w1_0])) :: Γ) w ∧ WinR .i32 ρ wr0 af wd0 wp0 wq0 aa) (fun s => s.1) (K0, ae, ac, ag) (by repeat first | exact Sub.nil | refine Sub.cons rfl ?_) (Ai H (Ai hs al)) ?_))
   rintro ⟨ak, aa, ab, af⟩ w ci ⟨H, hs, ad⟩ av
   show W _ _ _ _ _ _ [(0, wd0), (1, .int .i64 x1), (2, .int .i64 x2), (3, .func (.func 166) #[] #[.pointer (some ⟨pb1, 0, none⟩)]), (8, .int .i64 ac), (9, .int .i64 ab)] w
   cases ak with
   | zero => rw [slices_insertionSortCmpFunc_rune_lbg.l1] at H; cases H
   | succ ak =>
   rw [slices_insertionSortCmpFunc_rune_lbg.l1] at H
   refine W_seq fun cj bq => W_seqj fun br bs bg => ?_
   have bh : ∀ (ai : Bool) (w : World), slices_insertionSortCmpFunc_rune_lbg.j1 (slices_insertionSortCmpFunc_rune_lbg.l2 aj y1_0 x1 x2) (slices_insertionSortCmpFunc_rune_lbg.l1 (slices_insertionSortCmpFunc_rune_lbg.l2 aj y1_0 x1 x2) ak y1_0 x1 ac) ac aa ab ai = some r → St w0 ρ ((.row wr0 21 ((Rep.int .i32).sz) wm0 af) :: (.box pb1 29 ([w1_0])) :: Γ) w → br [(0, wd0), (1, .int .i64 x1), (2, .int .i64 x2), (3, .func (.func 166) #[] #[.pointer (some ⟨pb1, 0, none⟩)]), (8, .int .i64 ac), (9, .int .i64 ab), (34, .bool ai)] w := by
    intro ai w H hs
    rw [slices_insertionSortCmpFunc_rune_lbg.j1] at H
    refine bs _ _ <| W_cond rfl (fun a5 => ?_) (fun a5 => ?_)
    ·rw [if_pos a5] at H
     refine W_skip (bq _ _ <| W_seq fun ck bt => W_block fun cl cm cn => W_drawS 18 [0, 0, 0, 0, 8, 0, 0, 64, 160, 256, 0, 0, 3072, 4096, 9187, 25571, 65535, 131071] [16382, 16381, 65531, 65511, 65511, 16095, 16191, 15935, 15391, 15391, 60415, 59391, 50175, 1023, 28, 0, 0, 0] [0, 0, 0, 0, 8, 0, 0, 64, 224, 480, 0, 0, 3072, 7168, 16355, 32739, 65535, 131071] [15, 16, 17] (fun w => St w0 ρ ((.row wr0 21 ((Rep.int .i32).sz) wm0 af) :: (.box pb1 29 ([w1_0])) :: Γ) w) mixed (by kernel_rfl) (fun sh => ?_))
     have hs := hs.drew
     refine Dm 0 sh rfl rfl (by kernel_rfl) rfl <| Dm 1 sh rfl rfl (by kernel_rfl) rfl <| Dm 2 sh rfl rfl (by kernel_rfl) rfl <| Dm 3 sh rfl rfl (by kernel_rfl) rfl <| Dp 4 sh rfl rfl (by kernel_rfl) (fun w => Y_sub rfl rfl) <| Dm 5 sh rfl rfl (by kernel_rfl) rfl <| Dm 6 sh rfl rfl (by kernel_rfl) rfl <| Dp 7 sh rfl rfl (by kernel_rfl) (fun w => Y_sub rfl rfl) ?_
     obtain ⟨a3, H⟩ := gd H
     obtain ⟨co, a6, bu⟩ := ad.ix el28 a3.1 a3.2
     refine Dp 8 sh rfl rfl (by kernel_rfl) (fun w => bu rfl rfl) <| Dy 9 sh rfl rfl (by kernel_rfl) hs (fun w hs => Y_ldWin (j := 0) ag21 hs rfl a6 ad a3.1 a3.2 rfl) <| Dm 10 sh rfl rfl (by kernel_rfl) rfl <| Dm 11 sh rfl rfl (by kernel_rfl) rfl ?_
     obtain ⟨ap, H⟩ := gd H
     obtain ⟨cp, a7, bv⟩ := ad.ix el28 ap.1 ap.2
     refine Dp 12 sh rfl rfl (by kernel_rfl) (fun w => bv rfl rfl) <| Dy 13 sh rfl rfl (by kernel_rfl) hs (fun w hs => Y_ldWin (j := 0) ag21 hs rfl a7 ad ap.1 ap.2 rfl) ?_
     obtain ⟨cq, a8, bw⟩ := ad.ix el28 ap.1 ap.2
     refine Dp 14 sh rfl rfl (by kernel_rfl) (fun w => bw rfl rfl) <| D1 15 sh rfl (by kernel_rfl) (fun bx a9 => O_stWin (j := 0) sz21 hs rfl a8 ad ap.1 ap.2 rfl rfl (fun bi w ax hs => O_nil (a9 _ _ (fun h _ => absurd h (by decide)) <| OD_resetS sh [17] hs (by kernel_rfl) ?_)))
     obtain ⟨am, H⟩ := gd H
     obtain ⟨bz, ay, ba⟩ := ax.ix el28 am.1 am.2
     refine Dp 16 sh rfl rfl (by kernel_rfl) (fun w => ba rfl rfl) <| D1 17 sh rfl (by kernel_rfl) (fun b0 bb => O_stWin (j := 0) sz21 hs rfl ay ax am.1 am.2 rfl rfl (fun az w bc hs => O_nil (bb _ _ (fun h _ => absurd h (by decide)) <| OD_doneS sh (by kernel_rfl) (bt _ _ <| W.weak [(0, _), (1, _), (2, _), (3, _), (8, _), (9, _)] (by repeat first | exact Sub.nil | refine Sub.cons rfl ?_) ?_))))
     refine W_region <| Om rfl rfl <| O_y rfl (Y_sub rfl rfl) <| Oa rfl rfl <| O_nil (av (ak, ((aa.set ab.toNat (rd aa (IntKind.i64.wrap (ab - 1)))).set (IntKind.i64.wrap (ab - 1)).toNat (rd aa ab)), (IntKind.i64.wrap (ab - 1)), az) _ _ (by repeat first | exact Sub.nil | refine Sub.cons rfl ?_) (Ai H (Ai hs bc)) (Nat.lt_succ_self _))
    ·rw [if_neg (bft a5)] at H
     refine W_exit (bp _ _ (bn _ _ <| W_region <| Om rfl rfl <| O_y rfl (Y_add rfl rfl) <| Oa rfl rfl <| O_nil (au (aj, aa, (IntKind.i64.wrap (ac + 1)), af) _ _ (by repeat first | exact Sub.nil | refine Sub.cons rfl ?_) (Ai H (Ai hs ad)) (Nat.lt_succ_self _))))
   refine W_drawS 17 [0, 0, 3, 4, 8, 8, 8, 104, 136, 8, 8, 1032, 2568, 4104, 8472, 16392, 32776] [131066, 131065, 131056, 0, 114656, 130896, 130864, 130576, 114192, 126448, 127984, 123888, 115184, 98800, 65536, 0, 0] [0, 0, 3, 7, 15, 15, 15, 111, 239, 15, 15, 1039, 3599, 7695, 16383, 32767, 65535] [14, 15, 16] (fun w => St w0 ρ ((.row wr0 21 ((Rep.int .i32).sz) wm0 af) :: (.box pb1 29 ([w1_0])) :: Γ) w) mixed (by kernel_rfl) (fun sh => ?_)
   have hs := hs.drew
   refine Dm 0 sh rfl rfl (by kernel_rfl) rfl <| Dm 1 sh rfl rfl (by kernel_rfl) rfl <| Dp 2 sh rfl rfl (by kernel_rfl) (fun w => Y_gtr rfl rfl) <| Dm 3 sh rfl rfl (by kernel_rfl) rfl <| OD_if (dj := 21) rfl (fun aw => ?_) (fun aw => ?_)
   ·rw [if_pos aw] at H
    refine Dq 4 sh rfl rfl rfl rfl (by kernel_rfl) (fun w => Y_move rfl) <| Dq 5 sh rfl rfl rfl rfl (by kernel_rfl) (fun w => Y_move rfl) <| Dq 6 sh rfl rfl rfl rfl (by kernel_rfl) (fun w => Y_move rfl) ?_
    obtain ⟨an, H⟩ := gd H
    obtain ⟨b1, a0, bd⟩ := ad.ix el28 an.1 an.2
    refine Dq 7 sh rfl rfl rfl rfl (by kernel_rfl) (fun w => bd rfl rfl) <| Dz 8 sh rfl rfl rfl rfl (by kernel_rfl) hs (fun w hs => Y_ldWin (j := 0) ag21 hs rfl a0 ad an.1 an.2 rfl) <| Dq 9 sh rfl rfl rfl rfl (by kernel_rfl) (fun w => Y_move rfl) <| Dq 10 sh rfl rfl rfl rfl (by kernel_rfl) (fun w => Y_move rfl) <| Dq 11 sh rfl rfl rfl rfl (by kernel_rfl) (fun w => Y_sub rfl rfl) ?_
    obtain ⟨ao, H⟩ := gd H
    obtain ⟨b2, a1, be⟩ := ad.ix el28 ao.1 ao.2
    refine Dq 12 sh rfl rfl rfl rfl (by kernel_rfl) (fun w => be rfl rfl) <| Dz 13 sh rfl rfl rfl rfl (by kernel_rfl) hs (fun w hs => Y_ldWin (j := 0) ag21 hs rfl a1 ad ao.1 ao.2 rfl) <| D1 14 sh rfl (by kernel_rfl) (fun b3 bf => O_yes rfl rfl ?_)
    have hs := hs.front 1 rfl
    obtain ⟨ar, a2, H⟩ := bnd H
    refine O_callv rfl rfl rfl (canon_Order_1_ccl.c hs g1_0 a2) (fun b4 w hpost => ?_)
    obtain ⟨rfl, hs⟩ := hpost
    have hs := hs.sink 1
    refine O_nil (bf _ _ (fun h _ => absurd h (by decide)) <| OD_resetS sh [] hs (by kernel_rfl) <| Dq 15 sh rfl rfl rfl rfl (by kernel_rfl) (fun w => Y_lss rfl rfl) <| Dp 16 sh rfl rfl (by kernel_rfl) (fun w => Y_pick_t rfl rfl) <| OD_doneS sh (by kernel_rfl) (bg _ _ _ (by repeat first | exact Sub.nil | refine Sub.cons rfl ?_) (bh (decide (ar < 0)) _ H hs)))
   ·rw [if_neg aw] at H
    refine Dn 4 sh rfl rfl rfl rfl rfl (by kernel_rfl) <| Dn 5 sh rfl rfl rfl rfl rfl (by kernel_rfl) <| Dn 6 sh rfl rfl rfl rfl rfl (by kernel_rfl) <| Dn 7 sh rfl rfl rfl rfl rfl (by kernel_rfl) <| Dn 8 sh rfl rfl rfl rfl rfl (by kernel_rfl) <| Dn 9 sh rfl rfl rfl rfl rfl (by kernel_rfl) <| Dn 10 sh rfl rfl rfl rfl rfl (by kernel_rfl) <| Dn 11 sh rfl rfl rfl rfl rfl (by kernel_rfl) <| Dn 12 sh rfl rfl rfl rfl rfl (by kernel_rfl) <| Dn 13 sh rfl rfl rfl rfl rfl (by kernel_rfl) <| Dn 14 sh rfl rfl rfl rfl rfl (by kernel_rfl) <| Dn 15 sh rfl rfl rfl rfl rfl (by kernel_rfl) <| Dp 16 sh rfl rfl (by kernel_rfl) (fun w => Y_pick_f rfl rfl) <| OD_doneS sh (by kernel_rfl) (bg _ _ _ (by repeat first | exact Sub.nil | refine Sub.cons rfl ?_) (bh false _ H hs))
  ·rw [if_neg a4] at H
   refine W_exit (bk _ _ ?_)
   obtain rfl := sinj H
   exact ret0 rfl ⟨_, _, rfl, Le.rfl' _, hs, al⟩

def slices_swapRangeCmpFunc_rune_bji.l1 : Nat → Int → Int → Int → List Int → Int → Option (List Int)
  | 0, _, _, _, _, _ => none
  | ae + 1, x1, x2, x3, ab, aa => if aa < x3 then (if (0 : Int) ≤ IntKind.i64.wrap (x2 + aa) ∧ IntKind.i64.wrap (x2 + aa) < (ab.length : Int) then (if (0 : Int) ≤ IntKind.i64.wrap (x1 + aa) ∧ IntKind.i64.wrap (x1 + aa) < (ab.length : Int) then (if (0 : Int) ≤ IntKind.i64.wrap (x2 + aa) ∧ IntKind.i64.wrap (x2 + aa) < ((ab.set (IntKind.i64.wrap (x1 + aa)).toNat (rd ab (IntKind.i64.wrap (x2 + aa)))).length : Int) then ((slices_swapRangeCmpFunc_rune_bji.l1 ae x1 x2 x3) ((ab.set (IntKind.i64.wrap (x1 + aa)).toNat (rd ab (IntKind.i64.wrap (x2 + aa)))).set (IntKind.i64.wrap (x2 + aa)).toNat (rd ab (IntKind.i64.wrap (x1 + aa)))) (IntKind.i64.wrap (aa + 1))) else none) else none) else none) else (some ab)
def slices_swapRangeCmpFunc_rune_bji.f (x1 x2 x3 : Int) (y0 : List Int) (y1_0 : Option Tbs) : Option (List Int) := slices_swapRangeCmpFunc_rune_bji.l1 K0 x1 x2 x3 y0 0
theorem slices_swapRangeCmpFunc_rune_bji.c {w0 w : World} {ρ : Hp} {Γ : List Item} {wr0 wd0 : Value} {d0 : List Value} {wp0 wq0 : List Int} {wm0 : Nat} {y0 : List Int} {pb1 : Nat} {w1_0 : Value} {y1_0 : Option Tbs} (hs : St w0 ρ ((.row wr0 21 ((Rep.int .i32).sz) wm0 d0) :: (.box pb1 29 ([w1_0])) :: Γ) w) {x1 x2 x3 : Int} (g0 : WinR .i32 ρ wr0 d0 wd0 wp0 wq0 y0) (g1_0 : PtrR rTbs ρ w1_0 y1_0) {r : List Int} (H : slices_swapRangeCmpFunc_rune_bji.f x1 x2 x3 y0 y1_0 = some r) : CallsR Tryz.prog 189 [wd0, .int .i64 x1, .int .i64 x2, .int .i64 x3, .func (.func 166) #[] #[.pointer (some ⟨pb1, 0, none⟩)]] w (fun v w' => ∃ (ρ' : Hp) (ds0 : List Value), v = .tuple #[] ∧ Le ρ ρ' ∧ St w0 ρ' ((.row wr0 21 ((Rep.int .i32).sz) wm0 ds0) :: (.box pb1 29 ([w1_0])) :: Γ) w' ∧ WinR .i32 ρ' wr0 ds0 wd0 wp0 wq0 r) := by
  rw [slices_swapRangeCmpFunc_rune_bji.f] at H
  refine enter Tryz.func189 Tryz.ntmps189 rfl (by kernel_rfl) rfl <| Wr fun a5 aq => Oa rfl rfl <| O_nil (aq _ _ <| W_block fun a6 ar a7 => W_loop (σ := Nat × List Int × Int × List Value) (fun (ae, ab, aa, ad) => [(0, wd0), (1, .int .i64 x1), (2, .int .i64 x2), (3, .int .i64 x3), (10, .int .i64 aa)]) (fun (ae, ab, aa, ad) w => slices_swapRangeCmpFunc_rune_bji.l1 ae x1 x2 x3 ab aa = some r ∧ St w0 ρ ((.row wr0 21 ((Rep.int .i32).sz) wm0 ad) :: (.box pb1 29 ([w1_0])) :: Γ) w ∧ WinR .i32 ρ wr0 ad wd0 wp0 wq0 ab) (fun s => s.1) (K0, y0, 0, d0) (by repeat first | exact Sub.nil | refine Sub.cons rfl ?_) (Ai H (Ai hs g0)) ?_)
  rintro ⟨ae, ab, aa, ad⟩ w a8 ⟨H, hs, ac⟩ ag
  show W _ _ _ _ _ _ [(0, wd0), (1, .int .i64 x1), (2, .int .i64 x2), (3, .int .i64 x3), (10, .int .i64 aa)] w
  cases ae with
  | zero => rw [slices_swapRangeCmpFunc_rune_bji.l1] at H; cases H
  | succ ae =>
  rw [slices_swapRangeCmpFunc_rune_bji.l1] at H
  refine W_seq fun a9 au => Wr fun ba av => Om rfl rfl <| Om rfl rfl <| O_y rfl (Y_lss rfl rfl) <| O_nil (av _ _ <| W_if rfl (fun aj => ?_) (fun aj => ?_))
  ·rw [if_pos aj] at H
   refine W_skip (au _ _ <| W_seq fun bb aw => W_block fun bc bd be => W_drawS 24 [0, 0, 0, 6, 0, 0, 0, 96, 0, 0, 0, 1536, 2304, 4096, 0, 0, 0, 98304, 147456, 262144, 540431, 1589007, 4194303, 8388607] [1048574, 1048565, 1048563, 1048561, 4194287, 4194143, 4194111, 4194079, 1044223, 1046015, 1045503, 1040895, 1032447, 1032447, 3915775, 4030463, 3997695, 3702783, 3162111, 16383, 240, 0, 0, 0] [0, 0, 0, 6, 0, 0, 0, 96, 0, 0, 0, 1536, 3840, 7936, 0, 0, 0, 98304, 245760, 507904, 1048335, 2096911, 4194303, 8388607] [21, 22, 23] (fun w => St w0 ρ ((.row wr0 21 ((Rep.int .i32).sz) wm0 ad) :: (.box pb1 29 ([w1_0])) :: Γ) w) mixed (by kernel_rfl) (fun sh => ?_))
   have hs := hs.drew
   refine Dm 0 sh rfl rfl (by kernel_rfl) rfl <| Dm 1 sh rfl rfl (by kernel_rfl) rfl <| Dm 2 sh rfl rfl (by kernel_rfl) rfl <| Dp 3 sh rfl rfl (by kernel_rfl) (fun w => Y_add rfl rfl) <| Dm 4 sh rfl rfl (by kernel_rfl) rfl <| Dm 5 sh rfl rfl (by kernel_rfl) rfl <| Dm 6 sh rfl rfl (by kernel_rfl) rfl <| Dp 7 sh rfl rfl (by kernel_rfl) (fun w => Y_add rfl rfl) <| Dm 8 sh rfl rfl (by kernel_rfl) rfl <| Dm 9 sh rfl rfl (by kernel_rfl) rfl <| Dm 10 sh rfl rfl (by kernel_rfl) rfl <| Dp 11 sh rfl rfl (by kernel_rfl) (fun w => Y_add rfl rfl) ?_
   obtain ⟨ah, H⟩ := gd H
   obtain ⟨bf, ak, ax⟩ := ac.ix el28 ah.1 ah.2
   refine Dp 12 sh rfl rfl (by kernel_rfl) (fun w => ax rfl rfl) <| Dy 13 sh rfl rfl (by kernel_rfl) hs (fun w hs => Y_ldWin (j := 0) ag21 hs rfl ak ac ah.1 ah.2 rfl) <| Dm 14 sh rfl rfl (by kernel_rfl) rfl <| Dm 15 sh rfl rfl (by kernel_rfl) rfl <| Dm 16 sh rfl rfl (by kernel_rfl) rfl <| Dp 17 sh rfl rfl (by kernel_rfl) (fun w => Y_add rfl rfl) ?_
   obtain ⟨af, H⟩ := gd H
   obtain ⟨bg, al, ay⟩ := ac.ix el28 af.1 af.2
   refine Dp 18 sh rfl rfl (by kernel_rfl) (fun w => ay rfl rfl) <| Dy 19 sh rfl rfl (by kernel_rfl) hs (fun w hs => Y_ldWin (j := 0) ag21 hs rfl al ac af.1 af.2 rfl) ?_
   obtain ⟨bh, am, az⟩ := ac.ix el28 af.1 af.2
   refine Dp 20 sh rfl rfl (by kernel_rfl) (fun w => az rfl rfl) <| D1 21 sh rfl (by kernel_rfl) (fun bi a0 => O_stWin (j := 0) sz21 hs rfl am ac af.1 af.2 rfl rfl (fun a1 w ap hs => O_nil (a0 _ _ (fun h _ => absurd h (by decide)) <| OD_resetS sh [23] hs (by kernel_rfl) ?_)))
   obtain ⟨ai, H⟩ := gd H
   obtain ⟨bj, an, a2⟩ := ap.ix el28 ai.1 ai.2
   refine Dp 22 sh rfl rfl (by kernel_rfl) (fun w => a2 rfl rfl) <| D1 23 sh rfl (by kernel_rfl) (fun bk a3 => O_stWin (j := 0) sz21 hs rfl an ap ai.1 ai.2 rfl rfl (fun ao w a4 hs => O_nil (a3 _ _ (fun h _ => absurd h (by decide)) <| OD_doneS sh (by kernel_rfl) (aw _ _ <| W.weak [(0, _), (1, _), (2, _), (3, _), (10, _)] (by repeat first | exact Sub.nil | refine Sub.cons rfl ?_) ?_))))
   refine W_region <| Om rfl rfl <| O_y rfl (Y_add rfl rfl) <| Oa rfl rfl <| O_nil (ag (ae, ((ab.set (IntKind.i64.wrap (x1 + aa)).toNat (rd ab (IntKind.i64.wrap (x2 + aa)))).set (IntKind.i64.wrap (x2 + aa)).toNat (rd ab (IntKind.i64.wrap (x1 + aa)))), (IntKind.i64.wrap (aa + 1)), ao) _ _ (by repeat first | exact Sub.nil | refine Sub.cons rfl ?_) (Ai H (Ai hs a4)) (Nat.lt_succ_self _))
  ·rw [if_neg aj] at H
   refine W_exit (ar _ _ ?_)
   obtain rfl := sinj H
   exact ret0 rfl ⟨_, _, rfl, Le.rfl' _, hs, ac⟩

def slices_rotateCmpFunc_rune_bji.l1 : Nat → Option Tbs → Int → List Int → Int → Int → Option (List Int)
  | 0, _, _, _, _, _ => none
  | af + 1, y1_0, x2, ac, aa, ab => if aa ≠ ab then (if ab < aa then ((slices_swapRangeCmpFunc_rune_bji.f (IntKind.i64.wrap (x2 - aa)) x2 ab ac y1_0).bind fun aj => ((slices_rotateCmpFunc_rune_bji.l1 af y1_0 x2) aj (IntKind.i64.wrap (aa - ab)) ab)) else ((slices_swapRangeCmpFunc_rune_bji.f (IntKind.i64.wrap (x2 - aa)) (IntKind.i64.wrap ((IntKind.i64.wrap (x2 + ab)) - aa)) aa ac y1_0).bind fun ak => ((slices_rotateCmpFunc_rune_bji.l1 af y1_0 x2) ak aa (IntKind.i64.wrap (ab - aa))))) else ((slices_swapRangeCmpFunc_rune_bji.f (IntKind.i64.wrap (x2 - aa)) x2 aa ac y1_0).bind fun ax => (some ax))
def slices_rotateCmpFunc_rune_bji.f (x1 x2 x3 : Int) (y0 : List Int) (y1_0 : Option Tbs) : Option (List Int) := slices_rotateCmpFunc_rune_bji.l1 K0 y1_0 x2 y0 (IntKind.i64.wrap (x2 - x1)) (IntKind.i64.wrap (x3 - x2))
theorem slices_rotateCmpFunc_rune_bji.c {w0 w : World} {ρ : Hp} {Γ : List Item} {wr0 wd0 : Value} {d0 : List Value} {wp0 wq0 : List Int} {wm0 : Nat} {y0 : List Int} {pb1 : Nat} {w1_0 : Value} {y1_0 : Option Tbs} (hs : St w0 ρ ((.row wr0 21 ((Rep.int .i32).sz) wm0 d0) :: (.box pb1 29 ([w1_0])) :: Γ) w) {x1 x2 x3 : Int} (g0 : WinR .i32 ρ wr0 d0 wd0 wp0 wq0 y0) (g1_0 : PtrR rTbs ρ w1_0 y1_0) {r : List Int} (H : slices_rotateCmpFunc_rune_bji.f x1 x2 x3 y0 y1_0 = some r) : CallsR Tryz.prog 188 [wd0, .int .i64 x1, .int .i64 x2, .int .i64 x3, .func (.func 166) #[] #[.pointer (some ⟨pb1, 0, none⟩)]] w (fun v w' => ∃ (ρ' : Hp) (ds0 : List Value), v = .tuple #[] ∧ Le ρ ρ' ∧ St w0 ρ' ((.row wr0 21 ((Rep.int .i32).sz) wm0 ds0) :: (.box pb1 29 ([w1_0])) :: Γ) w' ∧ WinR .i32 ρ' wr0 ds0 wd0 wp0 wq0 r) := by
  rw [slices_rotateCmpFunc_rune_bji.f] at H
  refine enter Tryz.func188 Tryz.ntmps188 rfl (by kernel_rfl) rfl <| Wr fun bd ay => Om rfl rfl <| Om rfl rfl <| O_y rfl (Y_sub rfl rfl) <| Oa rfl rfl <| O_nil (ay _ _ <| Wr fun be az => Om rfl rfl <| Om rfl rfl <| O_y rfl (Y_sub rfl rfl) <| Oa rfl rfl ?_)
  refine O_nil (az _ _ <| W_seq fun bf a0 => W_block fun bg a1 bh => W_loop (σ := Nat × List Int × Int × Int × List Value × Hp) (fun (af, ac, aa, ab, ad, ah) => [(0, wd0), (2, .int .i64 x2), (4, .func (.func 166) #[] #[.pointer (some ⟨pb1, 0, none⟩)]), (10, .int .i64 aa), (11, .int .i64 ab)]) (fun (af, ac, aa, ab, ad, ah) w => slices_rotateCmpFunc_rune_bji.l1 af y1_0 x2 ac aa ab = some r ∧ Le ρ ah ∧ St w0 ah ((.row wr0 21 ((Rep.int .i32).sz) wm0 ad) :: (.box pb1 29 ([w1_0])) :: Γ) w ∧ WinR .i32 ah wr0 ad wd0 wp0 wq0 ac) (fun s => s.1) (K0, y0, (IntKind.i64.wrap (x2 - x1)), (IntKind.i64.wrap (x3 - x2)), d0, ρ) (by repeat first | exact Sub.nil | refine Sub.cons rfl ?_) (Ai H (Ai (Le.rfl' _) (Ai hs g0))) ?_)
  rintro ⟨af, ac, aa, ab, ad, ah⟩ w bi ⟨H, ag, hs, ae⟩ ai
  show W _ _ _ _ _ _ [(0, wd0), (2, .int .i64 x2), (4, .func (.func 166) #[] #[.pointer (some ⟨pb1, 0, none⟩)]), (10, .int .i64 aa), (11, .int .i64 ab)] w
  cases af with
  | zero => rw [slices_rotateCmpFunc_rune_bji.l1] at H; cases H
  | succ af =>
  rw [slices_rotateCmpFunc_rune_bji.l1] at H
  refine W_seq fun bj a2 => Wr fun bk a3 => Om rfl rfl <| Om rfl rfl <| O_y rfl (Y_neq rfl rfl) <| O_nil (a3 _ _ <| W_if rfl (fun al => ?_) (fun al => ?_))
  ·rw [if_pos al] at H
   refine W_skip (a2 _ _ <| W_block fun bl bm bn => Wr fun bo a4 => Om rfl rfl <| Om rfl rfl <| O_y rfl (Y_gtr rfl rfl) <| O_nil (a4 _ _ <| W_if rfl (fun am => ?_) (fun am => ?_)))
   ·rw [if_pos am] at H
    refine Wr fun bp a5 => Om rfl rfl <| Om rfl rfl <| Om rfl rfl <| O_y rfl (Y_sub rfl rfl) <| Om rfl rfl <| Om rfl rfl <| Om rfl rfl ?_
    have hs := hs.front 1 rfl
    have hs := hs.front 1 rfl
    obtain ⟨aj, an, H⟩ := bnd H
    refine O_call rfl rfl (slices_swapRangeCmpFunc_rune_bji.c hs ae (g1_0.mono ag) an) (fun bq w hpost => ?_)
    obtain ⟨a6, ao, rfl, ap, hs, a7⟩ := hpost
    have hs := hs.sink 1
    have hs := hs.sink 1
    refine O_nil (a5 _ _ <| W.weak [(0, _), (2, _), (4, _), (10, _), (11, _)] (by repeat first | exact Sub.nil | refine Sub.cons rfl ?_) ?_)
    refine W_region <| Om rfl rfl <| Om rfl rfl <| O_y rfl (Y_sub rfl rfl) <| Oa rfl rfl <| O_nil (ai (af, aj, (IntKind.i64.wrap (aa - ab)), ab, ao, a6) _ _ (by repeat first | exact Sub.nil | refine Sub.cons rfl ?_) (Ai H (Ai (ag.trans ap) (Ai hs a7))) (Nat.lt_succ_self _))
   ·rw [if_neg am] at H
    refine Wr fun br a8 => Om rfl rfl <| Om rfl rfl <| Om rfl rfl <| O_y rfl (Y_sub rfl rfl) <| Om rfl rfl <| Om rfl rfl <| O_y rfl (Y_add rfl rfl) <| Om rfl rfl <| O_y rfl (Y_sub rfl rfl) <| Om rfl rfl <| Om rfl rfl ?_
    have hs := hs.front 1 rfl
    have hs := hs.front 1 rfl
    obtain ⟨ak, aq, H⟩ := bnd H
    refine O_call rfl rfl (slices_swapRangeCmpFunc_rune_bji.c hs ae (g1_0.mono ag) aq) (fun bs w hpost => ?_)
    obtain ⟨a9, ar, rfl, au, hs, ba⟩ := hpost
    have hs := hs.sink 1
    have hs := hs.sink 1
    refine O_nil (a8 _ _ <| W.weak [(0, _), (2, _), (4, _), (10, _), (11, _)] (by repeat first | exact Sub.nil | refine Sub.cons rfl ?_) ?_)
    refine W_region <| Om rfl rfl <| Om rfl rfl <| O_y rfl (Y_sub rfl rfl) <| Oa rfl rfl <| O_nil (ai (af, ak, aa, (IntKind.i64.wrap (ab - aa)), ar, a9) _ _ (by repeat first | exact Sub.nil | refine Sub.cons rfl ?_) (Ai H (Ai (ag.trans au) (Ai hs ba))) (Nat.lt_succ_self _))
  ·rw [if_neg al] at H
   refine W_exit (a1 _ _ (a0 _ _ <| W_region <| Om rfl rfl <| Om rfl rfl <| Om rfl rfl <| O_y rfl (Y_sub rfl rfl) <| Om rfl rfl <| Om rfl rfl <| Om rfl rfl ?_))
   have hs := hs.front 1 rfl
   have hs := hs.front 1 rfl
   obtain ⟨ax, av, H⟩ := bnd H
   refine O_call rfl rfl (slices_swapRangeCmpFunc_rune_bji.c hs ae (g1_0.mono ag) av) (fun bt w hpost => ?_)
   obtain ⟨bu, bb, rfl, aw, hs, bc⟩ := hpost
   have hs := hs.sink 1
   have hs := hs.sink 1
   refine O_nil ?_
   obtain rfl := sinj H
   exact ret0 rfl ⟨_, _, rfl, (ag.trans aw), hs, bc⟩

def slices_symMergeCmpFunc_rune_bji.l1 : Nat → Int → List Int → Int → Option (List Int)
  | 0, _, _, _ => none
  | a1 + 1, ah, ae, ab => if ab < (IntKind.i64.wrap (ah - 1)) then (if (0 : Int) ≤ IntKind.i64.wrap (ab + 1) ∧ IntKind.i64.wrap (ab + 1) < (ae.length : Int) then (if (0 : Int) ≤ ab ∧ ab < (ae.length : Int) then (if (0 : Int) ≤ IntKind.i64.wrap (ab + 1) ∧ IntKind.i64.wrap (ab + 1) < ((ae.set ab.toNat (rd ae (IntKind.i64.wrap (ab + 1)))).length : Int) then ((slices_symMergeCmpFunc_rune_bji.l1 a1 ah) ((ae.set ab.toNat (rd ae (IntKind.i64.wrap (ab + 1)))).set (IntKind.i64.wrap (ab + 1)).toNat (rd ae ab)) (IntKind.i64.wrap (ab + 1))) else none) else none) else none) else (some ae)
def slices_symMergeCmpFunc_rune_bji.l2 : Nat → List Int → Option Tbs → Int → Int → Int → Option (List Int)
  | 0, _, _, _, _, _ => none
  | a4 + 1, y0, y1_0, x1, ah, al => if ah < al then (if (0 : Int) ≤ IntKind.i64.wrap ((IntKind.u64.wrap (IntKind.i64.wrap (ah + al))).fdiv (2 ^ (min (1 : Int).toNat IntKind.u64.bits))) ∧ IntKind.i64.wrap ((IntKind.u64.wrap (IntKind.i64.wrap (ah + al))).fdiv (2 ^ (min (1 : Int).toNat IntKind.u64.bits))) < (y0.length : Int) then (if (0 : Int) ≤ x1 ∧ x1 < (y0.length : Int) then ((canon_Order_1_ccl.f (rd y0 (IntKind.i64.wrap ((IntKind.u64.wrap (IntKind.i64.wrap (ah + al))).fdiv (2 ^ (min (1 : Int).toNat IntKind.u64.bits))))) (rd y0 x1) y1_0).bind fun gf => (if gf < 0 then ((slices_symMergeCmpFunc_rune_bji.l2 a4 y0 y1_0 x1) (IntKind.i64.wrap ((IntKind.i64.wrap ((IntKind.u64.wrap (IntKind.i64.wrap (ah + al))).fdiv (2 ^ (min (1 : Int).toNat IntKind.u64.bits)))) + 1)) al) else ((slices_symMergeCmpFunc_rune_bji.l2 a4 y0 y1_0 x1) ah (IntKind.i64.wrap ((IntKind.u64.wrap (IntKind.i64.wrap (ah + al))).fdiv (2 ^ (min (1 : Int).toNat IntKind.u64.bits))))))) else none) else none) else (slices_symMergeCmpFunc_rune_bji.l1 K0 ah y0 x1)
def slices_symMergeCmpFunc_rune_bji.l3 : Nat → Int → List Int → Int → Option (List Int)
  | 0, _, _, _ => none
  | a2 + 1, ad, af, ac => if ad < ac then (if (0 : Int) ≤ IntKind.i64.wrap (ac - 1) ∧ IntKind.i64.wrap (ac - 1) < (af.length : Int) then (if (0 : Int) ≤ ac ∧ ac < (af.length : Int) then (if (0 : Int) ≤ IntKind.i64.wrap (ac - 1) ∧ IntKind.i64.wrap (ac - 1) < ((af.set ac.toNat (rd af (IntKind.i64.wrap (ac - 1)))).length : Int) then ((slices_symMergeCmpFunc_rune_bji.l3 a2 ad) ((af.set ac.toNat (rd af (IntKind.i64.wrap (ac - 1)))).set (IntKind.i64.wrap (ac - 1)).toNat (rd af ac)) (IntKind.i64.wrap (ac - 1))) else none) else none) else none) else (some af)
def slices_symMergeCmpFunc_rune_bji.l4 : Nat → List Int → Option Tbs → Int → Int → Int → Option (List Int)
  | 0, _, _, _, _, _ => none
  | az + 1, y0, y1_0, x2, ad, ai => if ad < ai then (if (0 : Int) ≤ x2 ∧ x2 < (y0.length : Int) then (if (0 : Int) ≤ IntKind.i64.wrap ((IntKind.u64.wrap (IntKind.i64.wrap (ad + ai))).fdiv (2 ^ (min (1 : Int).toNat IntKind.u64.bits))) ∧ IntKind.i64.wrap ((IntKind.u64.wrap (IntKind.i64.wrap (ad + ai))).fdiv (2 ^ (min (1 : Int).toNat IntKind.u64.bits))) < (y0.length : Int) then ((canon_Order_1_ccl.f (rd y0 x2) (rd y0 (IntKind.i64.wrap ((IntKind.u64.wrap (IntKind.i64.wrap (ad + ai))).fdiv (2 ^ (min (1 : Int).toNat IntKind.u64.bits))))) y1_0).bind fun b6 => (if ¬ (b6 < 0) then ((slices_symMergeCmpFunc_rune_bji.l4 az y0 y1_0 x2) (IntKind.i64.wrap ((IntKind.i64.wrap ((IntKind.u64.wrap (IntKind.i64.wrap (ad + ai))).fdiv (2 ^ (min (1 : Int).toNat IntKind.u64.bits)))) + 1)) ai) else ((slices_symMergeCmpFunc_rune_bji.l4 az y0 y1_0 x2) ad (IntKind.i64.wrap ((IntKind.u64.wrap (IntKind.i64.wrap (ad + ai))).fdiv (2 ^ (min (1 : Int).toNat IntKind.u64.bits))))))) else none) else none) else (slices_symMergeCmpFunc_rune_bji.l3 K0 ad y0 x2)
def slices_symMergeCmpFunc_rune_bji.j1 (rec : Int → Int → Int → List Int → Option Tbs → Option (List Int)) (y1_0 : Option Tbs) (x1 x2 x3 aa : Int) (ak : List Int) (ar : Bool) : Option (List Int) := if ar = true then ((rec (IntKind.i64.wrap ((IntKind.u64.wrap (IntKind.i64.wrap (x1 + x3))).fdiv (2 ^ (min (1 : Int).toNat IntKind.u64.bits)))) (IntKind.i64.wrap ((IntKind.i64.wrap ((IntKind.i64.wrap ((IntKind.u64.wrap (IntKind.i64.wrap (x1 + x3))).fdiv (2 ^ (min (1 : Int).toNat IntKind.u64.bits)))) + x2)) - aa)) x3 ak y1_0).bind fun b7 => (some b7)) else (some ak)
def slices_symMergeCmpFunc_rune_bji.j2 (rec : Int → Int → Int → List Int → Option Tbs → Option (List Int)) (y1_0 : Option Tbs) (x1 x2 x3 aa : Int) (ak : List Int) : Option (List Int) := if (IntKind.i64.wrap ((IntKind.u64.wrap (IntKind.i64.wrap (x1 + x3))).fdiv (2 ^ (min (1 : Int).toNat IntKind.u64.bits)))) < (IntKind.i64.wrap ((IntKind.i64.wrap ((IntKind.i64.wrap ((IntKind.u64.wrap (IntKind.i64.wrap (x1 + x3))).fdiv (2 ^ (min (1 : Int).toNat IntKind.u64.bits)))) + x2)) - aa)) then (slices_symMergeCmpFunc_rune_bji.j1 rec y1_0 x1 x2 x3 aa ak (decide ((IntKind.i64.wrap ((IntKind.i64.wrap ((IntKind.i64.wrap ((IntKind.u64.wrap (IntKind.i64.wrap (x1 + x3))).fdiv (2 ^ (min (1 : Int).toNat IntKind.u64.bits)))) + x2)) - aa)) < x3))) else (slices_symMergeCmpFunc_rune_bji.j1 rec y1_0 x1 x2 x3 aa ak false)
def slices_symMergeCmpFunc_rune_bji.j3 (rec : Int → Int → Int → List Int → Option Tbs → Option (List Int)) (y1_0 : Option Tbs) (x1 x2 x3 aa : Int) (aj : List Int) (au : Bool) : Option (List Int) := if au = true then ((rec x1 aa (IntKind.i64.wrap ((IntKind.u64.wrap (IntKind.i64.wrap (x1 + x3))).fdiv (2 ^ (min (1 : Int).toNat IntKind.u64.bits)))) aj y1_0).bind fun bp => (slices_symMergeCmpFunc_rune_bji.j2 rec y1_0 x1 x2 x3 aa bp)) else (slices_symMergeCmpFunc_rune_bji.j2 rec y1_0 x1 x2 x3 aa aj)
def slices_symMergeCmpFunc_rune_bji.j4 (rec : Int → Int → Int → List Int → Option Tbs → Option (List Int)) (y1_0 : Option Tbs) (x1 x2 x3 aa : Int) (aj : List Int) : Option (List Int) := if x1 < aa then (slices_symMergeCmpFunc_rune_bji.j3 rec y1_0 x1 x2 x3 aa aj (decide (aa < (IntKind.i64.wrap ((IntKind.u64.wrap (IntKind.i64.wrap (x1 + x3))).fdiv (2 ^ (min (1 : Int).toNat IntKind.u64.bits))))))) else (slices_symMergeCmpFunc_rune_bji.j3 rec y1_0 x1 x2 x3 aa aj false)
def slices_symMergeCmpFunc_rune_bji.j5 (rec : Int → Int → Int → List Int → Option Tbs → Option (List Int)) (y0 : List Int) (y1_0 : Option Tbs) (x1 x2 x3 aa : Int) (av : Bool) : Option (List Int) := if av = true then ((slices_rotateCmpFunc_rune_bji.f aa x2 (IntKind.i64.wrap ((IntKind.i64.wrap ((IntKind.i64.wrap ((IntKind.u64.wrap (IntKind.i64.wrap (x1 + x3))).fdiv (2 ^ (min (1 : Int).toNat IntKind.u64.bits)))) + x2)) - aa)) y0 y1_0).bind fun bq => (slices_symMergeCmpFunc_rune_bji.j4 rec y1_0 x1 x2 x3 aa bq)) else (slices_symMergeCmpFunc_rune_bji.j4 rec y1_0 x1 x2 x3 aa y0)
def slices_symMergeCmpFunc_rune_bji.l5 : Nat → (Int → Int → Int → List Int → Option Tbs → Option (List Int)) → List Int → Option Tbs → Int → Int → Int → Int → Int → Option (List Int)
  | 0, _, _, _, _, _, _, _, _ => none
  | a0 + 1, rec, y0, y1_0, x1, x2, x3, aa, ag => if aa < ag then (if (0 : Int) ≤ IntKind.i64.wrap ((IntKind.i64.wrap ((IntKind.i64.wrap ((IntKind.i64.wrap ((IntKind.u64.wrap (IntKind.i64.wrap (x1 + x3))).fdiv (2 ^ (min (1 : Int).toNat IntKind.u64.bits)))) + x2)) - 1)) - (IntKind.i64.wrap ((IntKind.u64.wrap (IntKind.i64.wrap (aa + ag))).fdiv (2 ^ (min (1 : Int).toNat IntKind.u64.bits))))) ∧ IntKind.i64.wrap ((IntKind.i64.wrap ((IntKind.i64.wrap ((IntKind.i64.wrap ((IntKind.u64.wrap (IntKind.i64.wrap (x1 + x3))).fdiv (2 ^ (min (1 : Int).toNat IntKind.u64.bits)))) + x2)) - 1)) - (IntKind.i64.wrap ((IntKind.u64.wrap (IntKind.i64.wrap (aa + ag))).fdiv (2 ^ (min (1 : Int).toNat IntKind.u64.bits))))) < (y0.length : Int) then (if (0 : Int) ≤ IntKind.i64.wrap ((IntKind.u64.wrap (IntKind.i64.wrap (aa + ag))).fdiv (2 ^ (min (1 : Int).toNat IntKind.u64.bits))) ∧ IntKind.i64.wrap ((IntKind.u64.wrap (IntKind.i64.wrap (aa + ag))).fdiv (2 ^ (min (1 : Int).toNat IntKind.u64.bits))) < (y0.length : Int) then ((canon_Order_1_ccl.f (rd y0 (IntKind.i64.wrap ((IntKind.i64.wrap ((IntKind.i64.wrap ((IntKind.i64.wrap ((IntKind.u64.wrap (IntKind.i64.wrap (x1 + x3))).fdiv (2 ^ (min (1 : Int).toNat IntKind.u64.bits)))) + x2)) - 1)) - (IntKind.i64.wrap ((IntKind.u64.wrap (IntKind.i64.wrap (aa + ag))).fdiv (2 ^ (min (1 : Int).toNat IntKind.u64.bits))))))) (rd y0 (IntKind.i64.wrap ((IntKind.u64.wrap (IntKind.i64.wrap (aa + ag))).fdiv (2 ^ (min (1 : Int).toNat IntKind.u64.bits))))) y1_0).bind fun b8 => (if ¬ (b8 < 0) then ((slices_symMergeCmpFunc_rune_bji.l5 a0 rec y0 y1_0 x1 x2 x3) (IntKind.i64.wrap ((IntKind.i64.wrap ((IntKind.u64.wrap (IntKind.i64.wrap (aa + ag))).fdiv (2 ^ (min (1 : Int).toNat IntKind.u64.bits)))) + 1)) ag) else ((slices_symMergeCmpFunc_rune_bji.l5 a0 rec y0 y1_0 x1 x2 x3) aa (IntKind.i64.wrap ((IntKind.u64.wrap (IntKind.i64.wrap (aa + ag))).fdiv (2 ^ (min (1 : Int).toNat IntKind.u64.bits))))))) else none) else none) else (if aa < x2 then (slices_symMergeCmpFunc_rune_bji.j5 rec y0 y1_0 x1 x2 x3 aa (decide (x2 < (IntKind.i64.wrap ((IntKind.i64.wrap ((IntKind.i64.wrap ((IntKind.u64.wrap (IntKind.i64.wrap (x1 + x3))).fdiv (2 ^ (min (1 : Int).toNat IntKind.u64.bits)))) + x2)) - aa))))) else (slices_symMergeCmpFunc_rune_bji.j5 rec y0 y1_0 x1 x2 x3 aa false))
def slices_symMergeCmpFunc_rune_bji.j6 (rec : Int → Int → Int → List Int → Option Tbs → Option (List Int)) (y0 : List Int) (y1_0 : Option Tbs) (x1 x2 x3 aw ax : Int) : Option (List Int) := slices_symMergeCmpFunc_rune_bji.l5 K0 rec y0 y1_0 x1 x2 x3 aw ax
def slices_symMergeCmpFunc_rune_bji.b (rec : Int → Int → Int → List Int → Option Tbs → Option (List Int)) (x1 x2 x3 : Int) (y0 : List Int) (y1_0 : Option Tbs) : Option (List Int) := if (IntKind.i64.wrap (x2 - x1)) = 1 then (slices_symMergeCmpFunc_rune_bji.l2 K0 y0 y1_0 x1 x2 x3) else (if (IntKind.i64.wrap (x3 - x2)) = 1 then (slices_symMergeCmpFunc_rune_bji.l4 K0 y0 y1_0 x2 x1 x2) else (if (IntKind.i64.wrap ((IntKind.u64.wrap (IntKind.i64.wrap (x1 + x3))).fdiv (2 ^ (min (1 : Int).toNat IntKind.u64.bits)))) < x2 then (slices_symMergeCmpFunc_rune_bji.j6 rec y0 y1_0 x1 x2 x3 (IntKind.i64.wrap ((IntKind.i64.wrap ((IntKind.i64.wrap ((IntKind.u64.wrap (IntKind.i64.wrap (x1 + x3))).fdiv (2 ^ (min (1 : Int).toNat IntKind.u64.bits)))) + x2)) - x3)) (IntKind.i64.wrap ((IntKind.u64.wrap (IntKind.i64.wrap (x1 + x3))).fdiv (2 ^ (min (1 : Int).toNat IntKind.u64.bits))))) else (slices_symMergeCmpFunc_rune_bji.j6 rec y0 y1_0 x1 x2 x3 x1 x2)))
def slices_symMergeCmpFunc_rune_bji.f : Nat → Int → Int → Int → List Int → Option Tbs → Option (List Int)
  | 0, _, _, _, _, _ => none
  | k + 1, x1, x2, x3, y0, y1_0 => slices_symMergeCmpFunc_rune_bji.b (slices_symMergeCmpFunc_rune_bji.f k) x1 x2 x3 y0 y1_0
def slices_symMergeCmpFunc_rune_bji.Spec (rec : Int → Int → Int → List Int → Option Tbs → Option (List Int)) : Prop := ∀ {w0 w : World} {ρ : Hp} {Γ : List Item} {wr0 wd0 : Value} {d0 : List Value} {wp0 wq0 : List Int} {wm0 : Nat} {y0 : List Int} {pb1 : Nat} {w1_0 : Value} {y1_0 : Option Tbs} (hs : St w0 ρ ((.row wr0 21 ((Rep.int .i32).sz) wm0 d0) :: (.box pb1 29 ([w1_0])) :: Γ) w) {x1 x2 x3 : Int} (g0 : WinR .i32 ρ wr0 d0 wd0 wp0 wq0 y0) (g1_0 : PtrR rTbs ρ w1_0 y1_0) {r : List Int}, rec x1 x2 x3 y0 y1_0 = some r → CallsR Tryz.prog 186 [wd0, .int .i64 x1, .int .i64 x2, .int .i64 x3, .func (.func 166) #[] #[.pointer (some ⟨pb1, 0, none⟩)]] w (fun v w' => ∃ (ρ' : Hp) (ds0 : List Value), v = .tuple #[] ∧ Le ρ ρ' ∧ St w0 ρ' ((.row wr0 21 ((Rep.int .i32).sz) wm0 ds0) :: (.box pb1 29 ([w1_0])) :: Γ) w' ∧ WinR .i32 ρ' wr0 ds0 wd0 wp0 wq0 r)
theorem slices_symMergeCmpFunc_rune_bji.cb (rec : Int → Int → Int → List Int → Option Tbs → Option (List Int)) (hrec : slices_symMergeCmpFunc_rune_bji.Spec rec) {w0 w : World} {ρ : Hp} {Γ : List Item} {wr0 wd0 : Value} {d0 : List Value} {wp0 wq0 : List Int} {wm0 : Nat} {y0 : List Int} {pb1 : Nat} {w1_0 : Value} {y1_0 : Option Tbs} (hs : St w0 ρ ((.row wr0 21 ((Rep.int .i32).sz) wm0 d0) :: (.box pb1 29 ([w1_0])) :: Γ) w) {x1 x2 x3 : Int} (g0 : WinR .i32 ρ wr0 d0 wd0 wp0 wq0 y0) (g1_0 : PtrR rTbs ρ w1_0 y1_0) {r : List Int} (H : slices_symMergeCmpFunc_rune_bji.b rec x1 x2 x3 y0 y1_0 = some r) : CallsR Tryz.prog 186 [wd0, .int .i64 x1, .int .i64 x2, .int .i64 x3, .func (.func 166) #[] #[.pointer (some ⟨pb1, 0, none⟩)]] w (fun v w' => ∃ (ρ' : Hp) (ds0 : List Value), v = .tuple #[] ∧ Le ρ ρ' ∧ St w0 ρ' ((.row wr0 21 ((Rep.int .i32).sz) wm0 ds0) :: (.box pb1 29 ([w1_0])) :: Γ) w' ∧ WinR .i32 ρ' wr0 ds0 wd0 wp0 wq0 r) := by
  rw [slices_symMergeCmpFunc_rune_bji.b] at H
  refine enter Tryz.func186 Tryz.ntmps186 rfl (by kernel_rfl) rfl <| W_seq fun ka gj => Wr fun kb gk => Om rfl rfl <| Om rfl rfl <| O_y rfl (Y_sub rfl rfl) <| O_y rfl (Y_eql rfl rfl) <| O_nil (gk _ _ <| W_if rfl (fun dq => ?_) (fun dq => ?_))
  ·rw [if_pos dq] at H
   refine Wr fun kc gl => Om rfl rfl <| Oa rfl rfl <| O_nil (gl _ _ <| Wr fun kd gm => Om rfl rfl <| Oa rfl rfl <| O_nil (gm _ _ <| W_seq fun ke gn => W_block fun kf go kg => W_loop (σ := Nat × Int × Int) (fun (a4, ah, al) => [(0, wd0), (1, .int .i64 x1), (4, .func (.func 166) #[] #[.pointer (some ⟨pb1, 0, none⟩)]), (10, .int .i64 ah), (11, .int .i64 al)]) (fun (a4, ah, al) w => slices_symMergeCmpFunc_rune_bji.l2 a4 y0 y1_0 x1 ah al = some r ∧ St w0 ρ ((.row wr0 21 ((Rep.int .i32).sz) wm0 d0) :: (.box pb1 29 ([w1_0])) :: Γ) w) (fun s => s.1) (K0, x2, x3) (by repeat first | exact Sub.nil | refine Sub.cons rfl ?_) (Ai H hs) ?_))
   rintro ⟨a4, ah, al⟩ w kh ⟨H, hs⟩ be
   show W _ _ _ _ _ _ [(0, wd0), (1, .int .i64 x1), (4, .func (.func 166) #[] #[.pointer (some ⟨pb1, 0, none⟩)]), (10, .int .i64 ah), (11, .int .i64 al)] w
   cases a4 with
   | zero => rw [slices_symMergeCmpFunc_rune_bji.l2] at H; cases H
   | succ a4 =>
   rw [slices_symMergeCmpFunc_rune_bji.l2] at H
   refine W_seq fun ki gp => Wr fun kj gq => Om rfl rfl <| Om rfl rfl <| O_y rfl (Y_lss rfl rfl) <| O_nil (gq _ _ <| W_if rfl (fun dr => ?_) (fun dr => ?_))
   ·rw [if_pos dr] at H
    refine W_skip (gp _ _ <| W_block fun kk kl km => Wr fun kn gr => Om rfl rfl <| Om rfl rfl <| O_y rfl (Y_add rfl rfl) <| O_y rfl (Y_conv un3 un215 rfl) <| O_y rfl (Y_shr rfl rfl (by decide)) <| O_y rfl (Y_conv un215 un3 rfl) <| Oa rfl rfl <| O_nil (gr _ _ <| W.weak [(0, _), (1, _), (4, _), (10, _), (11, _), (12, _)] (by repeat first | exact Sub.nil | refine Sub.cons rfl ?_) ?_))
    refine W_seq fun ko gs => W_drawS 11 [0, 0, 0, 6, 8, 0, 0, 96, 128, 273, 512] [1534, 2037, 2035, 2017, 1505, 1887, 1855, 1567, 1055, 0, 0] [0, 0, 0, 6, 14, 0, 0, 96, 224, 511, 1023] [9, 10] (fun w => St w0 ρ ((.row wr0 21 ((Rep.int .i32).sz) wm0 d0) :: (.box pb1 29 ([w1_0])) :: Γ) w) mixed (by kernel_rfl) (fun sh => ?_)
    have hs := hs.drew
    refine Dm 0 sh rfl rfl (by kernel_rfl) rfl <| Dm 1 sh rfl rfl (by kernel_rfl) rfl <| Dm 2 sh rfl rfl (by kernel_rfl) rfl ?_
    obtain ⟨dn, H⟩ := gd H
    obtain ⟨kp, ds, gt⟩ := g0.ix el28 dn.1 dn.2
    refine Dp 3 sh rfl rfl (by kernel_rfl) (fun w => gt rfl rfl) <| Dy 4 sh rfl rfl (by kernel_rfl) hs (fun w hs => Y_ldWin (j := 0) ag21 hs rfl ds g0 dn.1 dn.2 rfl) <| Dm 5 sh rfl rfl (by kernel_rfl) rfl <| Dm 6 sh rfl rfl (by kernel_rfl) rfl ?_
    obtain ⟨dp, H⟩ := gd H
    obtain ⟨kq, dt, gu⟩ := g0.ix el28 dp.1 dp.2
    refine Dp 7 sh rfl rfl (by kernel_rfl) (fun w => gu rfl rfl) <| Dy 8 sh rfl rfl (by kernel_rfl) hs (fun w hs => Y_ldWin (j := 0) ag21 hs rfl dt g0 dp.1 dp.2 rfl) <| D1 9 sh rfl (by kernel_rfl) (fun kr gv => ?_)
    have hs := hs.front 1 rfl
    obtain ⟨gf, du, H⟩ := bnd H
    refine O_callv rfl rfl rfl (canon_Order_1_ccl.c hs g1_0 du) (fun ks w hpost => ?_)
    obtain ⟨rfl, hs⟩ := hpost
    have hs := hs.sink 1
    refine O_nil (gv _ _ (fun h _ => absurd h (by decide)) <| OD_resetS sh [] hs (by kernel_rfl) <| Dp 10 sh rfl rfl (by kernel_rfl) (fun w => Y_lss rfl rfl) <| OD_doneS sh (by kernel_rfl) (gs _ _ <| W.weak [(0, _), (1, _), (4, _), (10, _), (11, _), (12, _), (50, _)] (by repeat first | exact Sub.nil | refine Sub.cons rfl ?_) ?_))
    refine W_if rfl (fun dv => ?_) (fun dv => ?_)
    ·rw [if_pos dv] at H
     refine W_region <| Om rfl rfl <| O_y rfl (Y_add rfl rfl) <| Oa rfl rfl <| O_nil (be (a4, (IntKind.i64.wrap ((IntKind.i64.wrap ((IntKind.u64.wrap (IntKind.i64.wrap (ah + al))).fdiv (2 ^ (min (1 : Int).toNat IntKind.u64.bits)))) + 1)), al) _ _ (by repeat first | exact Sub.nil | refine Sub.cons rfl ?_) (Ai H hs) (Nat.lt_succ_self _))
    ·rw [if_neg dv] at H
     refine W_region <| Om rfl rfl <| Oa rfl rfl <| O_nil (be (a4, ah, (IntKind.i64.wrap ((IntKind.u64.wrap (IntKind.i64.wrap (ah + al))).fdiv (2 ^ (min (1 : Int).toNat IntKind.u64.bits))))) _ _ (by repeat first | exact Sub.nil | refine Sub.cons rfl ?_) (Ai H hs) (Nat.lt_succ_self _))
   ·rw [if_neg dr] at H
    refine W_exit (go _ _ (gn _ _ <| W_seq fun kt gw => Wr fun ku gx => Om rfl rfl <| Oa rfl rfl <| O_nil (gx _ _ <| W_block fun kv gy gz => W_loop (σ := Nat × List Int × Int × List Value) (fun (a1, ae, ab, ao) => [(0, wd0), (10, .int .i64 ah), (13, .int .i64 ab)]) (fun (a1, ae, ab, ao) w => slices_symMergeCmpFunc_rune_bji.l1 a1 ah ae ab = some r ∧ St w0 ρ ((.row wr0 21 ((Rep.int .i32).sz) wm0 ao) :: (.box pb1 29 ([w1_0])) :: Γ) w ∧ WinR .i32 ρ wr0 ao wd0 wp0 wq0 ae) (fun s => s.1) (K0, y0, x1, d0) (S3 rfl rfl rfl) (Ai H (Ai hs g0)) ?_)))
    rintro ⟨a1, ae, ab, ao⟩ w ha ⟨H, hs, am⟩ bf
    show W _ _ _ _ _ _ [(0, wd0), (10, .int .i64 ah), (13, .int .i64 ab)] w
    cases a1 with
    | zero => rw [slices_symMergeCmpFunc_rune_bji.l1] at H; cases H
    | succ a1 =>
    rw [slices_symMergeCmpFunc_rune_bji.l1] at H
    refine W_seq fun hb dw => Wr fun hc dx => Om rfl rfl <| Om rfl rfl <| O_y rfl (Y_sub rfl rfl) <| O_y rfl (Y_lss rfl rfl) <| O_nil (dx _ _ <| W_if rfl (fun br => ?_) (fun br => ?_))
    ·rw [if_pos br] at H
     refine W_skip (dw _ _ <| W_seq fun hd dy => W_block fun he hf hg => W_drawS 18 [0, 0, 0, 0, 8, 0, 0, 64, 160, 256, 0, 0, 3072, 4096, 9187, 25571, 65535, 131071] [16382, 16381, 65531, 65511, 65511, 16095, 16191, 15935, 15391, 15391, 60415, 59391, 50175, 1023, 28, 0, 0, 0] [0, 0, 0, 0, 8, 0, 0, 64, 224, 480, 0, 0, 3072, 7168, 16355, 32739, 65535, 131071] [15, 16, 17] (fun w => St w0 ρ ((.row wr0 21 ((Rep.int .i32).sz) wm0 ao) :: (.box pb1 29 ([w1_0])) :: Γ) w) mixed (by kernel_rfl) (fun sh => ?_))
     have hs := hs.drew
     refine Dm 0 sh rfl rfl (by kernel_rfl) rfl <| Dm 1 sh rfl rfl (by kernel_rfl) rfl <| Dm 2 sh rfl rfl (by kernel_rfl) rfl <| Dm 3 sh rfl rfl (by kernel_rfl) rfl <| Dp 4 sh rfl rfl (by kernel_rfl) (fun w => Y_add rfl rfl) <| Dm 5 sh rfl rfl (by kernel_rfl) rfl <| Dm 6 sh rfl rfl (by kernel_rfl) rfl <| Dp 7 sh rfl rfl (by kernel_rfl) (fun w => Y_add rfl rfl) ?_
     obtain ⟨bg, H⟩ := gd H
     obtain ⟨hh, b9, dz⟩ := am.ix el28 bg.1 bg.2
     refine Dp 8 sh rfl rfl (by kernel_rfl) (fun w => dz rfl rfl) <| Dy 9 sh rfl rfl (by kernel_rfl) hs (fun w hs => Y_ldWin (j := 0) ag21 hs rfl b9 am bg.1 bg.2 rfl) <| Dm 10 sh rfl rfl (by kernel_rfl) rfl <| Dm 11 sh rfl rfl (by kernel_rfl) rfl ?_
     obtain ⟨a8, H⟩ := gd H
     obtain ⟨hi, ca, ea⟩ := am.ix el28 a8.1 a8.2
     refine Dp 12 sh rfl rfl (by kernel_rfl) (fun w => ea rfl rfl) <| Dy 13 sh rfl rfl (by kernel_rfl) hs (fun w hs => Y_ldWin (j := 0) ag21 hs rfl ca am a8.1 a8.2 rfl) ?_
     obtain ⟨hj, cc, eb⟩ := am.ix el28 a8.1 a8.2
     refine Dp 14 sh rfl rfl (by kernel_rfl) (fun w => eb rfl rfl) <| D1 15 sh rfl (by kernel_rfl) (fun hk ec => O_stWin (j := 0) sz21 hs rfl cc am a8.1 a8.2 rfl rfl (fun gg w cd hs => O_nil (ec _ _ (fun h _ => absurd h (by decide)) <| OD_resetS sh [17] hs (by kernel_rfl) ?_)))
     obtain ⟨bh, H⟩ := gd H
     obtain ⟨hl, ce, ed⟩ := cd.ix el28 bh.1 bh.2
     refine Dp 16 sh rfl rfl (by kernel_rfl) (fun w => ed rfl rfl) <| D1 17 sh rfl (by kernel_rfl) (fun hm ee => O_stWin (j := 0) sz21 hs rfl ce cd bh.1 bh.2 rfl rfl (fun cf w ef hs => O_nil (ee _ _ (fun h _ => absurd h (by decide)) <| OD_doneS sh (by kernel_rfl) (dy _ _ <| W.weak [(0, _), (10, _), (13, _)] (S3 rfl rfl rfl) <| W_region <| Om rfl rfl <| O_y rfl (Y_add rfl rfl) <| Oa rfl rfl <| O_nil (bf (a1, ((ae.set ab.toNat (rd ae (IntKind.i64.wrap (ab + 1)))).set (IntKind.i64.wrap (ab + 1)).toNat (rd ae ab)), (IntKind.i64.wrap (ab + 1)), cf) _ _ (S3 rfl rfl rfl) (Ai H (Ai hs ef)) (Nat.lt_succ_self _))))))
    ·rw [if_neg br] at H
     refine W_exit (gy _ _ (gw _ _ <| W_ret ?_))
     obtain rfl := sinj H
     exact ret0 rfl ⟨_, _, rfl, Le.rfl' _, hs, am⟩
  ·rw [if_neg dq] at H
   refine W_skip (gj _ _ <| W_seq fun hn eg => Wr fun ho eh => Om rfl rfl <| Om rfl rfl <| O_y rfl (Y_sub rfl rfl) <| O_y rfl (Y_eql rfl rfl) <| O_nil (eh _ _ <| W_if rfl (fun bs => ?_) (fun bs => ?_)))
   ·rw [if_pos bs] at H
    refine Wr fun hp ei => Om rfl rfl <| Oa rfl rfl <| O_nil (ei _ _ <| W.weak [(0, _), (2, _), (4, _), (14, _)] (S4 rfl rfl rfl rfl) <| Wr fun hq ej => Om rfl rfl <| Oa rfl rfl <| O_nil (ej _ _ <| W_seq fun hr ek => W_block fun ht el hu => W_loop (σ := Nat × Int × Int) (fun (az, ad, ai) => [(0, wd0), (2, .int .i64 x2), (4, .func (.func 166) #[] #[.pointer (some ⟨pb1, 0, none⟩)]), (14, .int .i64 ad), (15, .int .i64 ai)]) (fun (az, ad, ai) w => slices_symMergeCmpFunc_rune_bji.l4 az y0 y1_0 x2 ad ai = some r ∧ St w0 ρ ((.row wr0 21 ((Rep.int .i32).sz) wm0 d0) :: (.box pb1 29 ([w1_0])) :: Γ) w) (fun s => s.1) (K0, x1, x2) (by repeat first | exact Sub.nil | refine Sub.cons rfl ?_) (Ai H hs) ?_))
    rintro ⟨az, ad, ai⟩ w hv ⟨H, hs⟩ bc
    show W _ _ _ _ _ _ [(0, wd0), (2, .int .i64 x2), (4, .func (.func 166) #[] #[.pointer (some ⟨pb1, 0, none⟩)]), (14, .int .i64 ad), (15, .int .i64 ai)] w
    cases az with
    | zero => rw [slices_symMergeCmpFunc_rune_bji.l4] at H; cases H
    | succ az =>
    rw [slices_symMergeCmpFunc_rune_bji.l4] at H
    refine W_seq fun hw em => Wr fun hx en => Om rfl rfl <| Om rfl rfl <| O_y rfl (Y_lss rfl rfl) <| O_nil (en _ _ <| W_if rfl (fun bt => ?_) (fun bt => ?_))
    ·rw [if_pos bt] at H
     refine W_skip (em _ _ <| W_block fun hy hz ia => Wr fun ib eo => Om rfl rfl <| Om rfl rfl <| O_y rfl (Y_add rfl rfl) <| O_y rfl (Y_conv un3 un215 rfl) <| O_y rfl (Y_shr rfl rfl (by decide)) <| O_y rfl (Y_conv un215 un3 rfl) <| Oa rfl rfl <| O_nil (eo _ _ <| W.weak [(0, _), (2, _), (4, _), (14, _), (15, _), (16, _)] (by repeat first | exact Sub.nil | refine Sub.cons rfl ?_) ?_))
     refine W_seq fun ic ep => W_drawS 12 [0, 0, 0, 6, 8, 0, 0, 96, 128, 273, 512, 1024] [3582, 4085, 4083, 4065, 3553, 3935, 3903, 3615, 3103, 2048, 0, 0] [0, 0, 0, 6, 14, 0, 0, 96, 224, 511, 1023, 2047] [9, 10, 11] (fun w => St w0 ρ ((.row wr0 21 ((Rep.int .i32).sz) wm0 d0) :: (.box pb1 29 ([w1_0])) :: Γ) w) mixed (by kernel_rfl) (fun sh => ?_)
     have hs := hs.drew
     refine Dm 0 sh rfl rfl (by kernel_rfl) rfl <| Dm 1 sh rfl rfl (by kernel_rfl) rfl <| Dm 2 sh rfl rfl (by kernel_rfl) rfl ?_
     obtain ⟨bi, H⟩ := gd H
     obtain ⟨id, cg, eq⟩ := g0.ix el28 bi.1 bi.2
     refine Dp 3 sh rfl rfl (by kernel_rfl) (fun w => eq rfl rfl) <| Dy 4 sh rfl rfl (by kernel_rfl) hs (fun w hs => Y_ldWin (j := 0) ag21 hs rfl cg g0 bi.1 bi.2 rfl) <| Dm 5 sh rfl rfl (by kernel_rfl) rfl <| Dm 6 sh rfl rfl (by kernel_rfl) rfl ?_
     obtain ⟨bj, H⟩ := gd H
     obtain ⟨ie, ch, er⟩ := g0.ix el28 bj.1 bj.2
     refine Dp 7 sh rfl rfl (by kernel_rfl) (fun w => er rfl rfl) <| Dy 8 sh rfl rfl (by kernel_rfl) hs (fun w hs => Y_ldWin (j := 0) ag21 hs rfl ch g0 bj.1 bj.2 rfl) <| D1 9 sh rfl (by kernel_rfl) (fun ig es => ?_)
     have hs := hs.front 1 rfl
     obtain ⟨b6, ci, H⟩ := bnd H
     refine O_callv rfl rfl rfl (canon_Order_1_ccl.c hs g1_0 ci) (fun ii w hpost => ?_)
     obtain ⟨rfl, hs⟩ := hpost
     have hs := hs.sink 1
     refine O_nil (es _ _ (fun h _ => absurd h (by decide)) <| OD_resetS sh [] hs (by kernel_rfl) <| Dp 10 sh rfl rfl (by kernel_rfl) (fun w => Y_lss rfl rfl) <| Dp 11 sh rfl rfl (by kernel_rfl) (fun w => Y_notd rfl) <| OD_doneS sh (by kernel_rfl) (ep _ _ <| W.weak [(0, _), (2, _), (4, _), (14, _), (15, _), (16, _), (103, _)] (by repeat first | exact Sub.nil | refine Sub.cons rfl ?_) ?_))
     refine W_if rfl (fun bu => ?_) (fun bu => ?_)
     ·rw [if_pos bu] at H
      refine W_region <| Om rfl rfl <| O_y rfl (Y_add rfl rfl) <| Oa rfl rfl <| O_nil (bc (az, (IntKind.i64.wrap ((IntKind.i64.wrap ((IntKind.u64.wrap (IntKind.i64.wrap (ad + ai))).fdiv (2 ^ (min (1 : Int).toNat IntKind.u64.bits)))) + 1)), ai) _ _ (by repeat first | exact Sub.nil | refine Sub.cons rfl ?_) (Ai H hs) (Nat.lt_succ_self _))
     ·rw [if_neg bu] at H
      refine W_region <| Om rfl rfl <| Oa rfl rfl <| O_nil (bc (az, ad, (IntKind.i64.wrap ((IntKind.u64.wrap (IntKind.i64.wrap (ad + ai))).fdiv (2 ^ (min (1 : Int).toNat IntKind.u64.bits))))) _ _ (by repeat first | exact Sub.nil | refine Sub.cons rfl ?_) (Ai H hs) (Nat.lt_succ_self _))
    ·rw [if_neg bt] at H
     refine W_exit (el _ _ (ek _ _ <| W_seq fun ij et => Wr fun ik eu => Om rfl rfl <| Oa rfl rfl <| O_nil (eu _ _ <| W_block fun il ev im => W_loop (σ := Nat × List Int × Int × List Value) (fun (a2, af, ac, ap) => [(0, wd0), (14, .int .i64 ad), (17, .int .i64 ac)]) (fun (a2, af, ac, ap) w => slices_symMergeCmpFunc_rune_bji.l3 a2 ad af ac = some r ∧ St w0 ρ ((.row wr0 21 ((Rep.int .i32).sz) wm0 ap) :: (.box pb1 29 ([w1_0])) :: Γ) w ∧ WinR .i32 ρ wr0 ap wd0 wp0 wq0 af) (fun s => s.1) (K0, y0, x2, d0) (S3 rfl rfl rfl) (Ai H (Ai hs g0)) ?_)))
     rintro ⟨a2, af, ac, ap⟩ w io ⟨H, hs, an⟩ bk
     show W _ _ _ _ _ _ [(0, wd0), (14, .int .i64 ad), (17, .int .i64 ac)] w
     cases a2 with
     | zero => rw [slices_symMergeCmpFunc_rune_bji.l3] at H; cases H
     | succ a2 =>
     rw [slices_symMergeCmpFunc_rune_bji.l3] at H
     refine W_seq fun ip ew => Wr fun iq ex => Om rfl rfl <| Om rfl rfl <| O_y rfl (Y_gtr rfl rfl) <| O_nil (ex _ _ <| W_if rfl (fun bv => ?_) (fun bv => ?_))
     ·rw [if_pos bv] at H
      refine W_skip (ew _ _ <| W_seq fun ir ey => W_block fun it iu iv => W_drawS 18 [0, 0, 0, 0, 8, 0, 0, 64, 160, 256, 0, 0, 3072, 4096, 9187, 25571, 65535, 131071] [16382, 16381, 65531, 65511, 65511, 16095, 16191, 15935, 15391, 15391, 60415, 59391, 50175, 1023, 28, 0, 0, 0] [0, 0, 0, 0, 8, 0, 0, 64, 224, 480, 0, 0, 3072, 7168, 16355, 32739, 65535, 131071] [15, 16, 17] (fun w => St w0 ρ ((.row wr0 21 ((Rep.int .i32).sz) wm0 ap) :: (.box pb1 29 ([w1_0])) :: Γ) w) mixed (by kernel_rfl) (fun sh => ?_))
      have hs := hs.drew
      refine Dm 0 sh rfl rfl (by kernel_rfl) rfl <| Dm 1 sh rfl rfl (by kernel_rfl) rfl <| Dm 2 sh rfl rfl (by kernel_rfl) rfl <| Dm 3 sh rfl rfl (by kernel_rfl) rfl <| Dp 4 sh rfl rfl (by kernel_rfl) (fun w => Y_sub rfl rfl) <| Dm 5 sh rfl rfl (by kernel_rfl) rfl <| Dm 6 sh rfl rfl (by kernel_rfl) rfl <| Dp 7 sh rfl rfl (by kernel_rfl) (fun w => Y_sub rfl rfl) ?_
      obtain ⟨bl, H⟩ := gd H
      obtain ⟨iw, cj, ez⟩ := an.ix el28 bl.1 bl.2
      refine Dp 8 sh rfl rfl (by kernel_rfl) (fun w => ez rfl rfl) <| Dy 9 sh rfl rfl (by kernel_rfl) hs (fun w hs => Y_ldWin (j := 0) ag21 hs rfl cj an bl.1 bl.2 rfl) <| Dm 10 sh rfl rfl (by kernel_rfl) rfl <| Dm 11 sh rfl rfl (by kernel_rfl) rfl ?_
      obtain ⟨a9, H⟩ := gd H
      obtain ⟨iy, ck, e0⟩ := an.ix el28 a9.1 a9.2
      refine Dp 12 sh rfl rfl (by kernel_rfl) (fun w => e0 rfl rfl) <| Dy 13 sh rfl rfl (by kernel_rfl) hs (fun w hs => Y_ldWin (j := 0) ag21 hs rfl ck an a9.1 a9.2 rfl) ?_
      obtain ⟨iz, cl, e1⟩ := an.ix el28 a9.1 a9.2
      refine Dp 14 sh rfl rfl (by kernel_rfl) (fun w => e1 rfl rfl) <| D1 15 sh rfl (by kernel_rfl) (fun ja e2 => O_stWin (j := 0) sz21 hs rfl cl an a9.1 a9.2 rfl rfl (fun gh w cm hs => O_nil (e2 _ _ (fun h _ => absurd h (by decide)) <| OD_resetS sh [17] hs (by kernel_rfl) ?_)))
      obtain ⟨bm, H⟩ := gd H
      obtain ⟨jb, cn, e3⟩ := cm.ix el28 bm.1 bm.2
      refine Dp 16 sh rfl rfl (by kernel_rfl) (fun w => e3 rfl rfl) <| D1 17 sh rfl (by kernel_rfl) (fun jc e4 => O_stWin (j := 0) sz21 hs rfl cn cm bm.1 bm.2 rfl rfl (fun co w e5 hs => O_nil (e4 _ _ (fun h _ => absurd h (by decide)) <| OD_doneS sh (by kernel_rfl) (ey _ _ <| W.weak [(0, _), (14, _), (17, _)] (S3 rfl rfl rfl) <| W_region <| Om rfl rfl <| O_y rfl (Y_sub rfl rfl) <| Oa rfl rfl <| O_nil (bk (a2, ((af.set ac.toNat (rd af (IntKind.i64.wrap (ac - 1)))).set (IntKind.i64.wrap (ac - 1)).toNat (rd af ac)), (IntKind.i64.wrap (ac - 1)), co) _ _ (S3 rfl rfl rfl) (Ai H (Ai hs e5)) (Nat.lt_succ_self _))))))
     ·rw [if_neg bv] at H
      refine W_exit (ev _ _ (et _ _ <| W_ret ?_))
      obtain rfl := sinj H
      exact ret0 rfl ⟨_, _, rfl, Le.rfl' _, hs, an⟩
   ·rw [if_neg bs] at H
    refine W_skip (eg _ _ <| Wr fun jd e6 => Om rfl rfl <| Om rfl rfl <| O_y rfl (Y_add rfl rfl) <| O_y rfl (Y_conv un3 un215 rfl) <| O_y rfl (Y_shr rfl rfl (by decide)) <| O_y rfl (Y_conv un215 un3 rfl) <| Oa rfl rfl <| O_nil (e6 _ _ <| W.weak [(0, _), (1, _), (2, _), (3, _), (4, _), (18, _)] (by repeat first | exact Sub.nil | refine Sub.cons rfl ?_) ?_))
    refine Wr fun je e7 => Om rfl rfl <| Om rfl rfl <| O_y rfl (Y_add rfl rfl) <| Oa rfl rfl <| O_nil (e7 _ _ <| Wr fun jf e8 => Oa rfl rfl <| Oa rfl rfl <| O_nil (e8 _ _ <| W_seqj fun e9 fa cp => ?_))
    have cq : ∀ (aw ax : Int) (w : World), slices_symMergeCmpFunc_rune_bji.j6 rec y0 y1_0 x1 x2 x3 aw ax = some r → St w0 ρ ((.row wr0 21 ((Rep.int .i32).sz) wm0 d0) :: (.box pb1 29 ([w1_0])) :: Γ) w → e9 [(0, wd0), (1, .int .i64 x1), (2, .int .i64 x2), (3, .int .i64 x3), (4, .func (.func 166) #[] #[.pointer (some ⟨pb1, 0, none⟩)]), (18, .int .i64 (IntKind.i64.wrap ((IntKind.u64.wrap (IntKind.i64.wrap (x1 + x3))).fdiv (2 ^ (min (1 : Int).toNat IntKind.u64.bits))))), (19, .int .i64 (IntKind.i64.wrap ((IntKind.i64.wrap ((IntKind.u64.wrap (IntKind.i64.wrap (x1 + x3))).fdiv (2 ^ (min (1 : Int).toNat IntKind.u64.bits)))) + x2))), (20, .int .i64 aw), (21, .int .i64 ax)] w := by
     intro aw ax w H hs
     rw [slices_symMergeCmpFunc_rune_bji.j6] at H
     refine fa _ _ <| Wr fun jg fb => Om rfl rfl <| O_y rfl (Y_sub rfl rfl) <| Oa rfl rfl <| O_nil (fb _ _ <| W_seq fun jh fc => W_block fun ji fd jj => W_loop (σ := Nat × Int × Int) (fun (a0, aa, ag) => [(0, wd0), (1, .int .i64 x1), (2, .int .i64 x2), (3, .int .i64 x3), (4, .func (.func 166) #[] #[.pointer (some ⟨pb1, 0, none⟩)]), (18, .int .i64 (IntKind.i64.wrap ((IntKind.u64.wrap (IntKind.i64.wrap (x1 + x3))).fdiv (2 ^ (min (1 : Int).toNat IntKind.u64.bits))))), (19, .int .i64 (IntKind.i64.wrap ((IntKind.i64.wrap ((IntKind.u64.wrap (IntKind.i64.wrap (x1 + x3))).fdiv (2 ^ (min (1 : Int).toNat IntKind.u64.bits)))) + x2))), (20, .int .i64 aa), (21, .int .i64 ag), (22, .int .i64 (IntKind.i64.wrap ((IntKind.i64.wrap ((IntKind.i64.wrap ((IntKind.u64.wrap (IntKind.i64.wrap (x1 + x3))).fdiv (2 ^ (min (1 : Int).toNat IntKind.u64.bits)))) + x2)) - 1)))]) (fun (a0, aa, ag) w => slices_symMergeCmpFunc_rune_bji.l5 a0 rec y0 y1_0 x1 x2 x3 aa ag = some r ∧ St w0 ρ ((.row wr0 21 ((Rep.int .i32).sz) wm0 d0) :: (.box pb1 29 ([w1_0])) :: Γ) w) (fun s => s.1) (K0, aw, ax) (by repeat first | exact Sub.nil | refine Sub.cons rfl ?_) (Ai H hs) ?_)
     rintro ⟨a0, aa, ag⟩ w jk ⟨H, hs⟩ bd
     show W _ _ _ _ _ _ [(0, wd0), (1, .int .i64 x1), (2, .int .i64 x2), (3, .int .i64 x3), (4, .func (.func 166) #[] #[.pointer (some ⟨pb1, 0, none⟩)]), (18, .int .i64 (IntKind.i64.wrap ((IntKind.u64.wrap (IntKind.i64.wrap (x1 + x3))).fdiv (2 ^ (min (1 : Int).toNat IntKind.u64.bits))))), (19, .int .i64 (IntKind.i64.wrap ((IntKind.i64.wrap ((IntKind.u64.wrap (IntKind.i64.wrap (x1 + x3))).fdiv (2 ^ (min (1 : Int).toNat IntKind.u64.bits)))) + x2))), (20, .int .i64 aa), (21, .int .i64 ag), (22, .int .i64 (IntKind.i64.wrap ((IntKind.i64.wrap ((IntKind.i64.wrap ((IntKind.u64.wrap (IntKind.i64.wrap (x1 + x3))).fdiv (2 ^ (min (1 : Int).toNat IntKind.u64.bits)))) + x2)) - 1)))] w
     cases a0 with
     | zero => rw [slices_symMergeCmpFunc_rune_bji.l5] at H; cases H
     | succ a0 =>
     rw [slices_symMergeCmpFunc_rune_bji.l5] at H
     refine W_seq fun jl fe => Wr fun jm ff => Om rfl rfl <| Om rfl rfl <| O_y rfl (Y_lss rfl rfl) <| O_nil (ff _ _ <| W_if rfl (fun bw => ?_) (fun bw => ?_))
     ·rw [if_pos bw] at H
      refine W_skip (fe _ _ <| W_block fun jn jo jp => Wr fun jq fg => Om rfl rfl <| Om rfl rfl <| O_y rfl (Y_add rfl rfl) <| O_y rfl (Y_conv un3 un215 rfl) <| O_y rfl (Y_shr rfl rfl (by decide)) <| O_y rfl (Y_conv un215 un3 rfl) <| Oa rfl rfl <| O_nil (fg _ _ <| W.weak [(0, _), (1, _), (2, _), (3, _), (4, _), (18, _), (19, _), (20, _), (21, _), (22, _), (23, _)] (by repeat first | exact Sub.nil | refine Sub.cons rfl ?_) ?_))
      refine W_seq fun jr fh => W_drawS 14 [0, 0, 0, 0, 12, 18, 32, 0, 0, 384, 512, 1089, 2048, 4096] [14334, 16349, 16363, 16359, 16323, 16257, 14209, 15743, 15615, 14463, 12415, 8192, 0, 0] [0, 0, 0, 0, 12, 30, 62, 0, 0, 384, 896, 2047, 4095, 8191] [11, 12, 13] (fun w => St w0 ρ ((.row wr0 21 ((Rep.int .i32).sz) wm0 d0) :: (.box pb1 29 ([w1_0])) :: Γ) w) mixed (by kernel_rfl) (fun sh => ?_)
      have hs := hs.drew
      refine Dm 0 sh rfl rfl (by kernel_rfl) rfl <| Dm 1 sh rfl rfl (by kernel_rfl) rfl <| Dm 2 sh rfl rfl (by kernel_rfl) rfl <| Dm 3 sh rfl rfl (by kernel_rfl) rfl <| Dp 4 sh rfl rfl (by kernel_rfl) (fun w => Y_sub rfl rfl) ?_
      obtain ⟨bn, H⟩ := gd H
      obtain ⟨js, cr, fi⟩ := g0.ix el28 bn.1 bn.2
      refine Dp 5 sh rfl rfl (by kernel_rfl) (fun w => fi rfl rfl) <| Dy 6 sh rfl rfl (by kernel_rfl) hs (fun w hs => Y_ldWin (j := 0) ag21 hs rfl cr g0 bn.1 bn.2 rfl) <| Dm 7 sh rfl rfl (by kernel_rfl) rfl <| Dm 8 sh rfl rfl (by kernel_rfl) rfl ?_
      obtain ⟨bo, H⟩ := gd H
      obtain ⟨jt, cs, fj⟩ := g0.ix el28 bo.1 bo.2
      refine Dp 9 sh rfl rfl (by kernel_rfl) (fun w => fj rfl rfl) <| Dy 10 sh rfl rfl (by kernel_rfl) hs (fun w hs => Y_ldWin (j := 0) ag21 hs rfl cs g0 bo.1 bo.2 rfl) <| D1 11 sh rfl (by kernel_rfl) (fun ju fk => ?_)
      have hs := hs.front 1 rfl
      obtain ⟨b8, ct, H⟩ := bnd H
      refine O_callv rfl rfl rfl (canon_Order_1_ccl.c hs g1_0 ct) (fun jv w hpost => ?_)
      obtain ⟨rfl, hs⟩ := hpost
      have hs := hs.sink 1
      refine O_nil (fk _ _ (fun h _ => absurd h (by decide)) <| OD_resetS sh [] hs (by kernel_rfl) <| Dp 12 sh rfl rfl (by kernel_rfl) (fun w => Y_lss rfl rfl) <| Dp 13 sh rfl rfl (by kernel_rfl) (fun w => Y_notd rfl) <| OD_doneS sh (by kernel_rfl) (fh _ _ <| W.weak [(0, _), (1, _), (2, _), (3, _), (4, _), (18, _), (19, _), (20, _), (21, _), (22, _), (23, _), (171, _)] (by repeat first | exact Sub.nil | refine Sub.cons rfl ?_) ?_))
      refine W_if rfl (fun bx => ?_) (fun bx => ?_)
      ·rw [if_pos bx] at H
       refine W_region <| Om rfl rfl <| O_y rfl (Y_add rfl rfl) <| Oa rfl rfl <| O_nil (bd (a0, (IntKind.i64.wrap ((IntKind.i64.wrap ((IntKind.u64.wrap (IntKind.i64.wrap (aa + ag))).fdiv (2 ^ (min (1 : Int).toNat IntKind.u64.bits)))) + 1)), ag) _ _ (by repeat first | exact Sub.nil | refine Sub.cons rfl ?_) (Ai H hs) (Nat.lt_succ_self _))
      ·rw [if_neg bx] at H
       refine W_region <| Om rfl rfl <| Oa rfl rfl <| O_nil (bd (a0, aa, (IntKind.i64.wrap ((IntKind.u64.wrap (IntKind.i64.wrap (aa + ag))).fdiv (2 ^ (min (1 : Int).toNat IntKind.u64.bits))))) _ _ (by repeat first | exact Sub.nil | refine Sub.cons rfl ?_) (Ai H hs) (Nat.lt_succ_self _))
     ·rw [if_neg bw] at H
      refine W_exit (fd _ _ (fc _ _ <| Wr fun jw fl => Om rfl rfl <| Om rfl rfl <| O_y rfl (Y_sub rfl rfl) <| Oa rfl rfl <| O_nil (fl _ _ <| W.weak [(0, _), (1, _), (2, _), (3, _), (4, _), (18, _), (20, _), (24, _)] (by repeat first | exact Sub.nil | refine Sub.cons rfl ?_) ?_)))
      refine W_seqj fun fm fn cu => ?_
      have cv : ∀ (aj : List Int) (aq : List Value) (a3 : Hp) (w : World), slices_symMergeCmpFunc_rune_bji.j4 rec y1_0 x1 x2 x3 aa aj = some r → Le ρ a3 → St w0 a3 ((.row wr0 21 ((Rep.int .i32).sz) wm0 aq) :: (.box pb1 29 ([w1_0])) :: Γ) w → WinR .i32 a3 wr0 aq wd0 wp0 wq0 aj → fm [(0, wd0), (1, .int .i64 x1), (3, .int .i64 x3), (4, .func (.func 166) #[] #[.pointer (some ⟨pb1, 0, none⟩)]), (18, .int .i64 (IntKind.i64.wrap ((IntKind.u64.wrap (IntKind.i64.wrap (x1 + x3))).fdiv (2 ^ (min (1 : Int).toNat IntKind.u64.bits))))), (20, .int .i64 aa), (24, .int .i64 (IntKind.i64.wrap ((IntKind.i64.wrap ((IntKind.i64.wrap ((IntKind.u64.wrap (IntKind.i64.wrap (x1 + x3))).fdiv (2 ^ (min (1 : Int).toNat IntKind.u64.bits)))) + x2)) - aa)))] w := by
       intro aj aq a3 w H a7 hs a5
       rw [slices_symMergeCmpFunc_rune_bji.j4] at H
       refine fn _ _ <| W_seqj fun fo fp cw => ?_
       have cx : ∀ (ak : List Int) (ay : List Value) (ba : Hp) (w : World), slices_symMergeCmpFunc_rune_bji.j2 rec y1_0 x1 x2 x3 aa ak = some r → Le a3 ba → St w0 ba ((.row wr0 21 ((Rep.int .i32).sz) wm0 ay) :: (.box pb1 29 ([w1_0])) :: Γ) w → WinR .i32 ba wr0 ay wd0 wp0 wq0 ak → fo [(0, wd0), (3, .int .i64 x3), (4, .func (.func 166) #[] #[.pointer (some ⟨pb1, 0, none⟩)]), (18, .int .i64 (IntKind.i64.wrap ((IntKind.u64.wrap (IntKind.i64.wrap (x1 + x3))).fdiv (2 ^ (min (1 : Int).toNat IntKind.u64.bits))))), (24, .int .i64 (IntKind.i64.wrap ((IntKind.i64.wrap ((IntKind.i64.wrap ((IntKind.u64.wrap (IntKind.i64.wrap (x1 + x3))).fdiv (2 ^ (min (1 : Int).toNat IntKind.u64.bits)))) + x2)) - aa)))] w := by
        intro ak ay ba w H bb hs a6
        rw [slices_symMergeCmpFunc_rune_bji.j2] at H
        refine fp _ _ <| W_seqj fun fq fr cy => ?_
        have cz : ∀ (ar : Bool) (w : World), slices_symMergeCmpFunc_rune_bji.j1 rec y1_0 x1 x2 x3 aa ak ar = some r → St w0 ba ((.row wr0 21 ((Rep.int .i32).sz) wm0 ay) :: (.box pb1 29 ([w1_0])) :: Γ) w → fq [(0, wd0), (3, .int .i64 x3), (4, .func (.func 166) #[] #[.pointer (some ⟨pb1, 0, none⟩)]), (18, .int .i64 (IntKind.i64.wrap ((IntKind.u64.wrap (IntKind.i64.wrap (x1 + x3))).fdiv (2 ^ (min (1 : Int).toNat IntKind.u64.bits))))), (24, .int .i64 (IntKind.i64.wrap ((IntKind.i64.wrap ((IntKind.i64.wrap ((IntKind.u64.wrap (IntKind.i64.wrap (x1 + x3))).fdiv (2 ^ (min (1 : Int).toNat IntKind.u64.bits)))) + x2)) - aa))), (213, .bool ar)] w := by
         intro ar w H hs
         rw [slices_symMergeCmpFunc_rune_bji.j1] at H
         refine fr _ _ <| W_cond rfl (fun bz => ?_) (fun bz => ?_)
         ·rw [if_pos bz] at H
          refine W_region <| Om rfl rfl <| Om rfl rfl <| Om rfl rfl <| Om rfl rfl <| Om rfl rfl ?_
          have hs := hs.front 1 rfl
          have hs := hs.front 1 rfl
          obtain ⟨b7, da, H⟩ := bnd H
          refine O_call rfl rfl (hrec hs a6 (g1_0.mono (a7.trans bb)) da) (fun jx w hpost => ?_)
          obtain ⟨jy, gi, rfl, db, hs, fs⟩ := hpost
          have hs := hs.sink 1
          have hs := hs.sink 1
          refine O_nil ?_
          obtain rfl := sinj H
          exact ret0 rfl ⟨_, _, rfl, ((a7.trans bb).trans db), hs, fs⟩
         ·rw [if_neg (bft bz)] at H
          refine W_skip ?_
          obtain rfl := sinj H
          exact ret0 rfl ⟨_, _, rfl, (a7.trans bb), hs, a6⟩
        refine W_region <| Om rfl rfl <| Om rfl rfl <| O_y rfl (Y_lss rfl rfl) <| Om rfl rfl <| O_if (dj := 209) rfl (fun b0 => ?_) (fun b0 => ?_)
        ·rw [if_pos b0] at H
         refine O_yes rfl rfl <| Om rfl rfl <| O_yes rfl rfl <| Om rfl rfl <| O_yes rfl rfl <| O_y rfl (Y_lss rfl rfl) <| O_y rfl (Y_pick_t rfl rfl) <| O_nil (cy _ _ _ (by repeat first | exact Sub.nil | refine Sub.cons rfl ?_) (cz (decide ((IntKind.i64.wrap ((IntKind.i64.wrap ((IntKind.i64.wrap ((IntKind.u64.wrap (IntKind.i64.wrap (x1 + x3))).fdiv (2 ^ (min (1 : Int).toNat IntKind.u64.bits)))) + x2)) - aa)) < x3)) _ H hs))
        ·rw [if_neg b0] at H
         refine O_no rfl rfl rfl rfl <| O_no rfl rfl rfl rfl <| O_no rfl rfl rfl rfl <| O_y rfl (Y_pick_f rfl rfl) <| O_nil (cy _ _ _ (by repeat first | exact Sub.nil | refine Sub.cons rfl ?_) (cz false _ H hs))
       refine W_seqj fun ft fu dc => ?_
       have dd : ∀ (au : Bool) (w : World), slices_symMergeCmpFunc_rune_bji.j3 rec y1_0 x1 x2 x3 aa aj au = some r → St w0 a3 ((.row wr0 21 ((Rep.int .i32).sz) wm0 aq) :: (.box pb1 29 ([w1_0])) :: Γ) w → ft [(0, wd0), (1, .int .i64 x1), (3, .int .i64 x3), (4, .func (.func 166) #[] #[.pointer (some ⟨pb1, 0, none⟩)]), (18, .int .i64 (IntKind.i64.wrap ((IntKind.u64.wrap (IntKind.i64.wrap (x1 + x3))).fdiv (2 ^ (min (1 : Int).toNat IntKind.u64.bits))))), (20, .int .i64 aa), (24, .int .i64 (IntKind.i64.wrap ((IntKind.i64.wrap ((IntKind.i64.wrap ((IntKind.u64.wrap (IntKind.i64.wrap (x1 + x3))).fdiv (2 ^ (min (1 : Int).toNat IntKind.u64.bits)))) + x2)) - aa))), (199, .bool au)] w := by
        intro au w H hs
        rw [slices_symMergeCmpFunc_rune_bji.j3] at H
        refine fu _ _ <| W_cond rfl (fun b1 => ?_) (fun b1 => ?_)
        ·rw [if_pos b1] at H
         refine W_region <| Om rfl rfl <| Om rfl rfl <| Om rfl rfl <| Om rfl rfl <| Om rfl rfl ?_
         have hs := hs.front 1 rfl
         have hs := hs.front 1 rfl
         obtain ⟨bp, de, H⟩ := bnd H
         refine O_call rfl rfl (hrec hs a5 (g1_0.mono a7) de) (fun jz w hpost => ?_)
         obtain ⟨fv, df, rfl, dg, hs, fw⟩ := hpost
         have hs := hs.sink 1
         have hs := hs.sink 1
         exact O_nil (cw _ _ _ (by repeat first | exact Sub.nil | refine Sub.cons rfl ?_) (cx bp df fv _ H dg hs fw))
        ·rw [if_neg (bft b1)] at H
         exact W_skip (cw _ _ _ (by repeat first | exact Sub.nil | refine Sub.cons rfl ?_) (cx aj aq a3 _ H (Le.rfl' _) hs a5))
       refine W_region <| Om rfl rfl <| Om rfl rfl <| O_y rfl (Y_lss rfl rfl) <| Om rfl rfl <| O_if (dj := 195) rfl (fun b2 => ?_) (fun b2 => ?_)
       ·rw [if_pos b2] at H
        refine O_yes rfl rfl <| Om rfl rfl <| O_yes rfl rfl <| Om rfl rfl <| O_yes rfl rfl <| O_y rfl (Y_lss rfl rfl) <| O_y rfl (Y_pick_t rfl rfl) <| O_nil (dc _ _ _ (by repeat first | exact Sub.nil | refine Sub.cons rfl ?_) (dd (decide (aa < (IntKind.i64.wrap ((IntKind.u64.wrap (IntKind.i64.wrap (x1 + x3))).fdiv (2 ^ (min (1 : Int).toNat IntKind.u64.bits)))))) _ H hs))
       ·rw [if_neg b2] at H
        refine O_no rfl rfl rfl rfl <| O_no rfl rfl rfl rfl <| O_no rfl rfl rfl rfl <| O_y rfl (Y_pick_f rfl rfl) <| O_nil (dc _ _ _ (by repeat first | exact Sub.nil | refine Sub.cons rfl ?_) (dd false _ H hs))
      refine W_seqj fun fx fy dh => ?_
      have di : ∀ (av : Bool) (w : World), slices_symMergeCmpFunc_rune_bji.j5 rec y0 y1_0 x1 x2 x3 aa av = some r → St w0 ρ ((.row wr0 21 ((Rep.int .i32).sz) wm0 d0) :: (.box pb1 29 ([w1_0])) :: Γ) w → fx [(0, wd0), (1, .int .i64 x1), (2, .int .i64 x2), (3, .int .i64 x3), (4, .func (.func 166) #[] #[.pointer (some ⟨pb1, 0, none⟩)]), (18, .int .i64 (IntKind.i64.wrap ((IntKind.u64.wrap (IntKind.i64.wrap (x1 + x3))).fdiv (2 ^ (min (1 : Int).toNat IntKind.u64.bits))))), (20, .int .i64 aa), (24, .int .i64 (IntKind.i64.wrap ((IntKind.i64.wrap ((IntKind.i64.wrap ((IntKind.u64.wrap (IntKind.i64.wrap (x1 + x3))).fdiv (2 ^ (min (1 : Int).toNat IntKind.u64.bits)))) + x2)) - aa))), (185, .bool av)] w := by
       intro av w H hs
       rw [slices_symMergeCmpFunc_rune_bji.j5] at H
       refine fy _ _ <| W_cond rfl (fun b3 => ?_) (fun b3 => ?_)
       ·rw [if_pos b3] at H
        refine W_region <| Om rfl rfl <| Om rfl rfl <| Om rfl rfl <| Om rfl rfl <| Om rfl rfl ?_
        have hs := hs.front 1 rfl
        have hs := hs.front 1 rfl
        obtain ⟨bq, dk, H⟩ := bnd H
        refine O_call rfl rfl (slices_rotateCmpFunc_rune_bji.c hs g0 g1_0 dk) (fun j0 w hpost => ?_)
        obtain ⟨fz, dl, rfl, dm, hs, ga⟩ := hpost
        have hs := hs.sink 1
        have hs := hs.sink 1
        exact O_nil (cu _ _ _ (by repeat first | exact Sub.nil | refine Sub.cons rfl ?_) (cv bq dl fz _ H dm hs ga))
       ·rw [if_neg (bft b3)] at H
        exact W_skip (cu _ _ _ (by repeat first | exact Sub.nil | refine Sub.cons rfl ?_) (cv y0 d0 ρ _ H (Le.rfl' _) hs g0))
      refine W_region <| Om rfl rfl <| Om rfl rfl <| O_y rfl (Y_lss rfl rfl) <| Om rfl rfl <| O_if (dj := 181) rfl (fun b4 => ?_) (fun b4 => ?_)
      ·rw [if_pos b4] at H
       refine O_yes rfl rfl <| Om rfl rfl <| O_yes rfl rfl <| Om rfl rfl <| O_yes rfl rfl <| O_y rfl (Y_lss rfl rfl) <| O_y rfl (Y_pick_t rfl rfl) <| O_nil (dh _ _ _ (by repeat first | exact Sub.nil | refine Sub.cons rfl ?_) (di (decide (x2 < (IntKind.i64.wrap ((IntKind.i64.wrap ((IntKind.i64.wrap ((IntKind.u64.wrap (IntKind.i64.wrap (x1 + x3))).fdiv (2 ^ (min (1 : Int).toNat IntKind.u64.bits)))) + x2)) - aa)))) _ H hs))
      ·rw [if_neg b4] at H
       refine O_no rfl rfl rfl rfl <| O_no rfl rfl rfl rfl <| O_no rfl rfl rfl rfl <| O_y rfl (Y_pick_f rfl rfl) <| O_nil (dh _ _ _ (by repeat first | exact Sub.nil | refine Sub.cons rfl ?_) (di false _ H hs))
    refine Wr fun j7 gb => Om rfl rfl <| Om rfl rfl <| O_y rfl (Y_gtr rfl rfl) <| O_nil (gb _ _ <| W.weak [(0, _), (1, _), (2, _), (3, _), (4, _), (18, _), (19, _), (140, _)] (by repeat first | exact Sub.nil | refine Sub.cons rfl ?_) ?_)
    refine W_if rfl (fun b5 => ?_) (fun b5 => ?_)
    ·rw [if_pos b5] at H
     refine Wr fun j8 gc => Om rfl rfl <| Om rfl rfl <| O_y rfl (Y_sub rfl rfl) <| Oa rfl rfl <| O_nil (gc _ _ <| W_region <| Om rfl rfl <| Oa rfl rfl <| O_nil (cp _ _ _ (by repeat first | exact Sub.nil | refine Sub.cons rfl ?_) (cq (IntKind.i64.wrap ((IntKind.i64.wrap ((IntKind.i64.wrap ((IntKind.u64.wrap (IntKind.i64.wrap (x1 + x3))).fdiv (2 ^ (min (1 : Int).toNat IntKind.u64.bits)))) + x2)) - x3)) (IntKind.i64.wrap ((IntKind.u64.wrap (IntKind.i64.wrap (x1 + x3))).fdiv (2 ^ (min (1 : Int).toNat IntKind.u64.bits)))) _ H hs)))
    ·rw [if_neg b5] at H
     refine Wr fun j9 ge => Om rfl rfl <| Oa rfl rfl <| O_nil (ge _ _ <| W_region <| Om rfl rfl <| Oa rfl rfl <| O_nil (cp _ _ _ (by repeat first | exact Sub.nil | refine Sub.cons rfl ?_) (cq x1 x2 _ H hs)))
theorem slices_symMergeCmpFunc_rune_bji.c (k : Nat) : slices_symMergeCmpFunc_rune_bji.Spec (slices_symMergeCmpFunc_rune_bji.f k) := by
  induction k with
  | zero => intro w0 w ρ Γ wr0 wd0 d0 wp0 wq0 wm0 y0 pb1 w1_0 y1_0 hs x1 x2 x3 g0 g1_0 r H; exact nomatch (show (none : Option _) = some _ from H)
  | succ k ih => intro w0 w ρ Γ wr0 wd0 d0 wp0 wq0 wm0 y0 pb1 w1_0 y1_0 hs x1 x2 x3 g0 g1_0 r H; exact slices_symMergeCmpFunc_rune_bji.cb (slices_symMergeCmpFunc_rune_bji.f k) ih hs g0 g1_0 H

def slices_stableCmpFunc_rune_ian.j1 (ap : List Int → Int → Option (List Int)) (aa : Int) (ae : List Int) : Option (List Int) := ap ae (IntKind.i64.wrap (aa * 2))
def slices_stableCmpFunc_rune_ian.l1 (ap : List Int → Int → Option (List Int)) : Nat → Option Tbs → Int → Int → List Int → Int → Int → Option (List Int)
  | 0, _, _, _, _, _, _ => none
  | an + 1, y1_0, x1, aa, ab, af, ad => if ad ≤ x1 then ((slices_symMergeCmpFunc_rune_bji.f K0 af (IntKind.i64.wrap (af + aa)) ad ab y1_0).bind fun a5 => ((slices_stableCmpFunc_rune_ian.l1 ap an y1_0 x1 aa) a5 ad (IntKind.i64.wrap (ad + (IntKind.i64.wrap (2 * aa)))))) else (if (IntKind.i64.wrap (af + aa)) < x1 then ((slices_symMergeCmpFunc_rune_bji.f K0 af (IntKind.i64.wrap (af + aa)) x1 ab y1_0).bind fun a6 => (slices_stableCmpFunc_rune_ian.j1 ap aa a6)) else (slices_stableCmpFunc_rune_ian.j1 ap aa ab))
def slices_stableCmpFunc_rune_ian.l2 : Nat → Option Tbs → Int → List Int → Int → Option (List Int)
  | 0, _, _, _, _ => none
  | ar + 1, y1_0, x1, ac, aa => if aa < x1 then (slices_stableCmpFunc_rune_ian.l1 (slices_stableCmpFunc_rune_ian.l2 ar y1_0 x1) K0 y1_0 x1 aa ac 0 (IntKind.i64.wrap (2 * aa))) else (some ac)
def slices_stableCmpFunc_rune_ian.l3 : Nat → Option Tbs → Int → List Int → Int → Int → Option (List Int)
  | 0, _, _, _, _, _ => none
  | aw + 1, y1_0, x1, ag, ao, ai => if ai ≤ x1 then ((slices_insertionSortCmpFunc_rune_lbg.f ao ai ag y1_0).bind fun bm => ((slices_stableCmpFunc_rune_ian.l3 aw y1_0 x1) bm ai (IntKind.i64.wrap (ai + 20)))) else ((slices_insertionSortCmpFunc_rune_lbg.f ao x1 ag y1_0).bind fun bn => (slices_stableCmpFunc_rune_ian.l2 K0 y1_0 x1 bn 20))
def slices_stableCmpFunc_rune_ian.f (x1 : Int) (y0 : List Int) (y1_0 : Option Tbs) : Option (List Int) := slices_stableCmpFunc_rune_ian.l3 K0 y1_0 x1 y0 0 20
theorem slices_stableCmpFunc_rune_ian.c {w0 w : World} {ρ : Hp} {Γ : List Item} {wr0 wd0 : Value} {d0 : List Value} {wp0 wq0 : List Int} {wm0 : Nat} {y0 : List Int} {pb1 : Nat} {w1_0 : Value} {y1_0 : Option Tbs} (hs : St w0 ρ ((.row wr0 21 ((Rep.int .i32).sz) wm0 d0) :: (.box pb1 29 ([w1_0])) :: Γ) w) {x1 : Int} (g0 : WinR .i32 ρ wr0 d0 wd0 wp0 wq0 y0) (g1_0 : PtrR rTbs ρ w1_0 y1_0) {r : List Int} (H : slices_stableCmpFunc_rune_ian.f x1 y0 y1_0 = some r) : CallsR Tryz.prog 178 [wd0, .int .i64 x1, .func (.func 166) #[] #[.pointer (some ⟨pb1, 0, none⟩)]] w (fun v w' => ∃ (ρ' : Hp) (ds0 : List Value), v = .tuple #[] ∧ Le ρ ρ' ∧ St w0 ρ' ((.row wr0 21 ((Rep.int .i32).sz) wm0 ds0) :: (.box pb1 29 ([w1_0])) :: Γ) w' ∧ WinR .i32 ρ' wr0 ds0 wd0 wp0 wq0 r) := by
  rw [slices_stableCmpFunc_rune_ian.f] at H
  refine enter Tryz.func178 Tryz.ntmps178 rfl (by kernel_rfl) rfl <| Wr fun dj cc => Oa rfl rfl <| O_nil (cc _ _ <| Wr fun dk cd => Om rfl rfl <| Oa rfl rfl <| Oa rfl rfl <| O_nil (cd _ _ <| W_seq fun dl ce => W_block fun dm cf dn => W_loop (σ := Nat × List Int × Int × Int × List Value × Hp) (fun (aw, ag, ao, ai, al, a3) => [(0, wd0), (1, .int .i64 x1), (2, .func (.func 166) #[] #[.pointer (some ⟨pb1, 0, none⟩)]), (6, .int .i64 20), (7, .int .i64 ao), (8, .int .i64 ai)]) (fun (aw, ag, ao, ai, al, a3) w => slices_stableCmpFunc_rune_ian.l3 aw y1_0 x1 ag ao ai = some r ∧ Le ρ a3 ∧ St w0 a3 ((.row wr0 21 ((Rep.int .i32).sz) wm0 al) :: (.box pb1 29 ([w1_0])) :: Γ) w ∧ WinR .i32 a3 wr0 al wd0 wp0 wq0 ag) (fun s => s.1) (K0, y0, 0, 20, d0, ρ) (by repeat first | exact Sub.nil | refine Sub.cons rfl ?_) (Ai H (Ai (Le.rfl' _) (Ai hs g0))) ?_))
  rintro ⟨aw, ag, ao, ai, al, a3⟩ w dp ⟨H, au, hs, ax⟩ a7
  show W _ _ _ _ _ _ [(0, wd0), (1, .int .i64 x1), (2, .func (.func 166) #[] #[.pointer (some ⟨pb1, 0, none⟩)]), (6, .int .i64 20), (7, .int .i64 ao), (8, .int .i64 ai)] w
  cases aw with
  | zero => rw [slices_stableCmpFunc_rune_ian.l3] at H; cases H
  | succ aw =>
  rw [slices_stableCmpFunc_rune_ian.l3] at H
  refine W_seq fun dq cg => Wr fun dr ch => Om rfl rfl <| Om rfl rfl <| O_y rfl (Y_leq rfl rfl) <| O_nil (ch _ _ <| W_if rfl (fun bo => ?_) (fun bo => ?_))
  ·rw [if_pos bo] at H
   refine W_skip (cg _ _ <| W_block fun ds dt du => Wr fun dv ci => Om rfl rfl <| Om rfl rfl <| Om rfl rfl <| Om rfl rfl ?_)
   have hs := hs.front 1 rfl
   have hs := hs.front 1 rfl
   obtain ⟨bm, bp, H⟩ := bnd H
   refine O_call rfl rfl (slices_insertionSortCmpFunc_rune_lbg.c hs ax (g1_0.mono au) bp) (fun dw w hpost => ?_)
   obtain ⟨cj, bq, rfl, br, hs, ck⟩ := hpost
   have hs := hs.sink 1
   have hs := hs.sink 1
   refine O_nil (ci _ _ <| Wr fun dx cl => Om rfl rfl <| Oa rfl rfl <| O_nil (cl _ _ <| W.weak [(0, _), (1, _), (2, _), (6, _), (7, _), (8, _)] (by repeat first | exact Sub.nil | refine Sub.cons rfl ?_) ?_))
   refine W_region <| Om rfl rfl <| Om rfl rfl <| O_y rfl (Y_add rfl rfl) <| Oa rfl rfl <| O_nil (a7 (aw, bm, ai, (IntKind.i64.wrap (ai + 20)), bq, cj) _ _ (by repeat first | exact Sub.nil | refine Sub.cons rfl ?_) (Ai H (Ai (au.trans br) (Ai hs ck))) (Nat.lt_succ_self _))
  ·rw [if_neg bo] at H
   refine W_exit (cf _ _ (ce _ _ <| Wr fun dy cm => Om rfl rfl <| Om rfl rfl <| Om rfl rfl <| Om rfl rfl ?_))
   have hs := hs.front 1 rfl
   have hs := hs.front 1 rfl
   obtain ⟨bn, bs, H⟩ := bnd H
   refine O_call rfl rfl (slices_insertionSortCmpFunc_rune_lbg.c hs ax (g1_0.mono au) bs) (fun dz w hpost => ?_)
   obtain ⟨cb, bt, rfl, a8, hs, cn⟩ := hpost
   have hs := hs.sink 1
   have hs := hs.sink 1
   refine O_nil (cm _ _ <| W_block fun ea co eb => W_loop (σ := Nat × List Int × Int × List Value × Hp) (fun (ar, ac, aa, aj, a0) => [(0, wd0), (1, .int .i64 x1), (2, .func (.func 166) #[] #[.pointer (some ⟨pb1, 0, none⟩)]), (6, .int .i64 aa)]) (fun (ar, ac, aa, aj, a0) w => slices_stableCmpFunc_rune_ian.l2 ar y1_0 x1 ac aa = some r ∧ Le cb a0 ∧ St w0 a0 ((.row wr0 21 ((Rep.int .i32).sz) wm0 aj) :: (.box pb1 29 ([w1_0])) :: Γ) w ∧ WinR .i32 a0 wr0 aj wd0 wp0 wq0 ac) (fun s => s.1) (K0, bn, 20, bt, cb) (S4 rfl rfl rfl rfl) (Ai H (Ai (Le.rfl' _) (Ai hs cn))) ?_)
   rintro ⟨ar, ac, aa, aj, a0⟩ w ec ⟨H, a1, hs, ay⟩ a9
   show W _ _ _ _ _ _ [(0, wd0), (1, .int .i64 x1), (2, .func (.func 166) #[] #[.pointer (some ⟨pb1, 0, none⟩)]), (6, .int .i64 aa)] w
   cases ar with
   | zero => rw [slices_stableCmpFunc_rune_ian.l2] at H; cases H
   | succ ar =>
   rw [slices_stableCmpFunc_rune_ian.l2] at H
   refine W_seq fun ed cp => Wr fun ee bu => Om rfl rfl <| Om rfl rfl <| O_y rfl (Y_lss rfl rfl) <| O_nil (bu _ _ <| W_if rfl (fun ba => ?_) (fun ba => ?_))
   ·rw [if_pos ba] at H
    refine W_skip (cp _ _ <| W_block fun cq cr cs => Wr fun ct bv => Om rfl rfl <| O_y rfl (Y_mul rfl rfl) <| Oa rfl rfl <| Oa rfl rfl <| O_nil (bv _ _ <| W_seq fun cu bw => W_block fun cv bx cw => W_loop (σ := Nat × List Int × Int × Int × List Value × Hp) (fun (an, ab, af, ad, ah, aq) => [(0, wd0), (1, .int .i64 x1), (2, .func (.func 166) #[] #[.pointer (some ⟨pb1, 0, none⟩)]), (6, .int .i64 aa), (7, .int .i64 af), (8, .int .i64 ad)]) (fun (an, ab, af, ad, ah, aq) w => slices_stableCmpFunc_rune_ian.l1 (slices_stableCmpFunc_rune_ian.l2 ar y1_0 x1) an y1_0 x1 aa ab af ad = some r ∧ Le a0 aq ∧ St w0 aq ((.row wr0 21 ((Rep.int .i32).sz) wm0 ah) :: (.box pb1 29 ([w1_0])) :: Γ) w ∧ WinR .i32 aq wr0 ah wd0 wp0 wq0 ab) (fun s => s.1) (K0, ac, 0, (IntKind.i64.wrap (2 * aa)), aj, a0) (by repeat first | exact Sub.nil | refine Sub.cons rfl ?_) (Ai H (Ai (Le.rfl' _) (Ai hs ay))) ?_))
    rintro ⟨an, ab, af, ad, ah, aq⟩ w cx ⟨H, av, hs, am⟩ a4
    show W _ _ _ _ _ _ [(0, wd0), (1, .int .i64 x1), (2, .func (.func 166) #[] #[.pointer (some ⟨pb1, 0, none⟩)]), (6, .int .i64 aa), (7, .int .i64 af), (8, .int .i64 ad)] w
    cases an with
    | zero => rw [slices_stableCmpFunc_rune_ian.l1] at H; cases H
    | succ an =>
    rw [slices_stableCmpFunc_rune_ian.l1] at H
    refine W_seq fun cy bz => Wr fun cz b0 => Om rfl rfl <| Om rfl rfl <| O_y rfl (Y_leq rfl rfl) <| O_nil (b0 _ _ <| W_if rfl (fun bb => ?_) (fun bb => ?_))
    ·rw [if_pos bb] at H
     refine W_skip (bz _ _ <| W_block fun da db dc => Wr fun dd b1 => Om rfl rfl <| Om rfl rfl <| Om rfl rfl <| Om rfl rfl <| O_y rfl (Y_add rfl rfl) <| Om rfl rfl <| Om rfl rfl ?_)
     have hs := hs.front 1 rfl
     have hs := hs.front 1 rfl
     obtain ⟨a5, be, H⟩ := bnd H
     refine O_call rfl rfl ((slices_symMergeCmpFunc_rune_bji.c K0) hs am (g1_0.mono (((au.trans a8).trans a1).trans av)) be) (fun de w hpost => ?_)
     obtain ⟨b2, bf, rfl, bg, hs, b3⟩ := hpost
     have hs := hs.sink 1
     have hs := hs.sink 1
     refine O_nil (b1 _ _ <| W.weak [(0, _), (1, _), (2, _), (6, _), (8, _)] (by repeat first | exact Sub.nil | refine Sub.cons rfl ?_) ?_)
     refine Wr fun df b4 => Om rfl rfl <| Oa rfl rfl <| O_nil (b4 _ _ <| W_region <| Om rfl rfl <| Om rfl rfl <| O_y rfl (Y_mul rfl rfl) <| O_y rfl (Y_add rfl rfl) <| Oa rfl rfl <| O_nil (a4 (an, a5, ad, (IntKind.i64.wrap (ad + (IntKind.i64.wrap (2 * aa)))), bf, b2) _ _ (by repeat first | exact Sub.nil | refine Sub.cons rfl ?_) (Ai H (Ai (av.trans bg) (Ai hs b3))) (Nat.lt_succ_self _)))
    ·rw [if_neg bb] at H
     refine W_exit (bx _ _ (bw _ _ <| W_seqj fun b5 b6 bh => ?_))
     have bi : ∀ (ae : List Int) (ak : List Value) (az : Hp) (w : World), slices_stableCmpFunc_rune_ian.j1 (slices_stableCmpFunc_rune_ian.l2 ar y1_0 x1) aa ae = some r → Le aq az → St w0 az ((.row wr0 21 ((Rep.int .i32).sz) wm0 ak) :: (.box pb1 29 ([w1_0])) :: Γ) w → WinR .i32 az wr0 ak wd0 wp0 wq0 ae → b5 [(0, wd0), (1, .int .i64 x1), (2, .func (.func 166) #[] #[.pointer (some ⟨pb1, 0, none⟩)]), (6, .int .i64 aa)] w := by
      intro ae ak az w H bc hs a2
      rw [slices_stableCmpFunc_rune_ian.j1] at H
      refine b6 _ _ <| W_region <| Om rfl rfl <| O_y rfl (Y_mul rfl rfl) <| Oa rfl rfl <| O_nil (a9 (ar, ae, (IntKind.i64.wrap (aa * 2)), ak, az) _ _ (S4 rfl rfl rfl rfl) (Ai H (Ai ((a1.trans av).trans bc) (Ai hs a2))) (Nat.lt_succ_self _))
     refine Wr fun dg b7 => Om rfl rfl <| Om rfl rfl <| O_y rfl (Y_add rfl rfl) <| Oa rfl rfl <| O_nil (b7 _ _ <| Wr fun dh b8 => Om rfl rfl <| Om rfl rfl <| O_y rfl (Y_lss rfl rfl) <| O_nil (b8 _ _ <| W.weak [(0, _), (1, _), (2, _), (6, _), (7, _), (9, _), (54, _)] (by repeat first | exact Sub.nil | refine Sub.cons rfl ?_) ?_))
     refine W_if rfl (fun bd => ?_) (fun bd => ?_)
     ·rw [if_pos bd] at H
      refine W_region <| Om rfl rfl <| Om rfl rfl <| Om rfl rfl <| Om rfl rfl <| Om rfl rfl ?_
      have hs := hs.front 1 rfl
      have hs := hs.front 1 rfl
      obtain ⟨a6, bj, H⟩ := bnd H
      refine O_call rfl rfl ((slices_symMergeCmpFunc_rune_bji.c K0) hs am (g1_0.mono (((au.trans a8).trans a1).trans av)) bj) (fun di w hpost => ?_)
      obtain ⟨b9, bk, rfl, bl, hs, ca⟩ := hpost
      have hs := hs.sink 1
      have hs := hs.sink 1
      exact O_nil (bh _ _ _ (S4 rfl rfl rfl rfl) (bi a6 bk b9 _ H bl hs ca))
     ·rw [if_neg bd] at H
      exact W_skip (bh _ _ _ (S4 rfl rfl rfl rfl) (bi ab ah aq _ H (Le.rfl' _) hs am))
   ·rw [if_neg ba] at H
    refine W_exit (co _ _ ?_)
    obtain rfl := sinj H
    exact ret0 rfl ⟨_, _, rfl, ((au.trans a8).trans a1), hs, ay⟩

def slices_SortStableFunc_rune_rune_mmi.f (y0 : List Int) (y1_0 : Option Tbs) : Option (List Int) := (slices_stableCmpFunc_rune_ian.f (y0.length : Int) y0 y1_0).bind fun ac => (some ac)
theorem slices_SortStableFunc_rune_rune_mmi.c {w0 w : World} {ρ : Hp} {Γ : List Item} {wr0 wd0 : Value} {d0 : List Value} {wp0 wq0 : List Int} {wm0 : Nat} {y0 : List Int} {pb1 : Nat} {w1_0 : Value} {y1_0 : Option Tbs} (hs : St w0 ρ ((.row wr0 21 ((Rep.int .i32).sz) wm0 d0) :: (.box pb1 29 ([w1_0])) :: Γ) w) (g0 : WinR .i32 ρ wr0 d0 wd0 wp0 wq0 y0) (g1_0 : PtrR rTbs ρ w1_0 y1_0) {r : List Int} (H : slices_SortStableFunc_rune_rune_mmi.f y0 y1_0 = some r) : CallsR Tryz.prog 165 [wd0, .func (.func 166) #[] #[.pointer (some ⟨pb1, 0, none⟩)]] w (fun v w' => ∃ (ρ' : Hp) (ds0 : List Value), v = .tuple #[] ∧ Le ρ ρ' ∧ St w0 ρ' ((.row wr0 21 ((Rep.int .i32).sz) wm0 ds0) :: (.box pb1 29 ([w1_0])) :: Γ) w' ∧ WinR .i32 ρ' wr0 ds0 wd0 wp0 wq0 r) := by
  rw [slices_SortStableFunc_rune_rune_mmi.f] at H
  refine enter Tryz.func165 Tryz.ntmps165 rfl (by kernel_rfl) rfl <| W_region <| Om rfl rfl <| Om rfl rfl <| O_y rfl (Y_lenWin un28 g0 rfl) <| Om rfl rfl ?_
  have hs := hs.front 1 rfl
  have hs := hs.front 1 rfl
  obtain ⟨ac, aa, H⟩ := bnd H
  refine O_call rfl rfl (slices_stableCmpFunc_rune_ian.c hs g0 g1_0 aa) (fun af w hpost => ?_)
  obtain ⟨ag, ad, rfl, ab, hs, ae⟩ := hpost
  have hs := hs.sink 1
  have hs := hs.sink 1
  refine O_nil ?_
  obtain rfl := sinj H
  exact ret0 rfl ⟨_, _, rfl, ab, hs, ae⟩

def canon_Order.j1 (ag : List Int → Int → Option (List Int)) (aq : Int → Option (List Int)) (x0 : Option Tbs) (aa : List Int) (ab ad : Int) (af : Bool) : Option (List Int) := if af = true then (aq (IntKind.i64.wrap (ad + 1))) else (if (0 : Int) ≤ ab ∧ ab ≤ ad ∧ ad ≤ (aa.length : Int) then ((slices_SortStableFunc_rune_rune_mmi.f (sub aa ab ad) x0).bind fun ar => (ag (aa.take ab.toNat ++ (ar ++ aa.drop ad.toNat)) (IntKind.i64.wrap (ad + 1)))) else none)
def canon_Order.l1 (ag : List Int → Int → Option (List Int)) : Nat → Option Tbs → List Int → Int → Int → Option (List Int)
  | 0, _, _, _, _ => none
  | aj + 1, x0, aa, ab, ad => if ad < (aa.length : Int) then (if (0 : Int) ≤ ad ∧ ad < (aa.length : Int) then ((book_Tables_Class.f x0 (rd aa ad)).bind fun au => (canon_Order.j1 ag (canon_Order.l1 ag aj x0 aa ab) x0 aa ab ad (decide (au ≠ 0)))) else none) else (canon_Order.j1 ag (canon_Order.l1 ag aj x0 aa ab) x0 aa ab ad false)
def canon_Order.l2 : Nat → Option Tbs → List Int → Int → Option (List Int)
  | 0, _, _, _ => none
  | ah + 1, x0, aa, ab => if ab < (aa.length : Int) then (canon_Order.l1 (canon_Order.l2 ah x0) K0 x0 aa ab ab) else (some aa)
def canon_Order.f (x0 : Option Tbs) (x1 : List Int) : Option (List Int) := (slices_Clone_rune_rune.f x1).bind fun a8 => (canon_Order.l2 K0 x0 a8 0)
theorem canon_Order.c {w0 w : World} {ρ : Hp} {Γ : List Item} (hs : St w0 ρ (Γ) w) {v0 : Value} {x0 : Option Tbs} (h0 : PtrR rTbs ρ v0 x0) {v1 : Value} {x1 : List Int} (h1 : SlR (Rep.int .i32) ρ v1 x1) {r : List Int} (H : canon_Order.f x0 x1 = some r) : CallsR Tryz.prog 135 [v0, v1] w (fun v w' => ∃ (ρ' : Hp) (v0 : Value) (cs0 : List Value), v = v0 ∧ Le ρ ρ' ∧ St w0 ρ' (.row v0 21 (Rep.int .i32).sz r.length cs0 :: Γ) w' ∧ RowR (Rep.int .i32) ρ' cs0 r) := by
  rw [canon_Order.f] at H
  refine enter Tryz.func135 Tryz.ntmps135 rfl (by kernel_rfl) rfl <| Wr fun cc bl => O_box1 hs rfl rfl h0.one (fun ao w hs => Oa rfl rfl <| O_nil (bl _ _ <| Wr fun cd bm => Om rfl rfl ?_))
  obtain ⟨a8, a9, H⟩ := bnd H
  refine O_call rfl rfl (slices_Clone_rune_rune.c hs h1 a9) (fun bn w hpost => ?_)
  obtain ⟨bj, ce, ba, rfl, av, hs, bo⟩ := hpost
  refine Oa rfl rfl <| O_nil (bm _ _ <| W_seq fun cf bp => Wr fun cg bq => Oa rfl rfl <| O_nil (bq _ _ <| W_block fun ch br ci => W_loop (σ := Nat × List Int × Int × Value × List Value × Hp) (fun (ah, aa, ab, ac, ae, ak) => [(2, .pointer (some ⟨ao, 0, none⟩)), (5, ac), (6, .int .i64 ab)]) (fun (ah, aa, ab, ac, ae, ak) w => canon_Order.l2 ah x0 aa ab = some r ∧ Le bj ak ∧ St w0 ak ((.row ac 21 ((Rep.int .i32).sz) aa.length ae) :: (.box ao 29 ([v0])) :: Γ) w ∧ RowR (Rep.int .i32) ak ae aa) (fun s => s.1) (K0, a8, 0, bn, ba, bj) (S3 rfl rfl rfl) (Ai H (Ai (Le.rfl' _) (Ai hs bo))) ?_))
  rintro ⟨ah, aa, ab, ac, ae, ak⟩ w cj ⟨H, al, hs, ai⟩ aw
  show W _ _ _ _ _ _ [(2, .pointer (some ⟨ao, 0, none⟩)), (5, ac), (6, .int .i64 ab)] w
  cases ah with
  | zero => rw [canon_Order.l2] at H; cases H
  | succ ah =>
  rw [canon_Order.l2] at H
  refine W_seq fun ck bs => Wr fun cl bt => Om rfl rfl <| Om rfl rfl <| O_y rfl (Y_lenRow (i := 0) un28 hs rfl rfl) <| O_y rfl (Y_lss rfl rfl) <| O_nil (bt _ _ <| W_if rfl (fun bb => ?_) (fun bb => ?_))
  ·rw [if_pos bb] at H
   refine W_skip (bs _ _ <| W_seq fun cm bu => W_block fun cn co cp => Wr fun cq bv => Om rfl rfl <| Oa rfl rfl <| O_nil (bv _ _ <| W_seq fun cr bw => W_block fun cs bx ct => W_loop (σ := Nat × Int) (fun (aj, ad) => [(2, .pointer (some ⟨ao, 0, none⟩)), (5, ac), (6, .int .i64 ab), (7, .int .i64 ad)]) (fun (aj, ad) w => canon_Order.l1 (canon_Order.l2 ah x0) aj x0 aa ab ad = some r ∧ St w0 ak ((.row ac 21 ((Rep.int .i32).sz) aa.length ae) :: (.box ao 29 ([v0])) :: Γ) w) (fun s => s.1) (K0, ab) (S4 rfl rfl rfl rfl) (Ai H hs) ?_))
   rintro ⟨aj, ad⟩ w cu ⟨H, hs⟩ ax
   show W _ _ _ _ _ _ [(2, .pointer (some ⟨ao, 0, none⟩)), (5, ac), (6, .int .i64 ab), (7, .int .i64 ad)] w
   cases aj with
   | zero => rw [canon_Order.l1] at H; cases H
   | succ aj =>
   rw [canon_Order.l1] at H
   refine W_seq fun cv bz => W_seqj fun b0 b1 bk => ?_
   have a0 : ∀ (af : Bool) (w : World), canon_Order.j1 (canon_Order.l2 ah x0) (canon_Order.l1 (canon_Order.l2 ah x0) aj x0 aa ab) x0 aa ab ad af = some r → St w0 ak ((.row ac 21 ((Rep.int .i32).sz) aa.length ae) :: (.box ao 29 ([v0])) :: Γ) w → b0 [(2, .pointer (some ⟨ao, 0, none⟩)), (5, ac), (6, .int .i64 ab), (7, .int .i64 ad), (29, .bool af)] w := by
    intro af w H hs
    rw [canon_Order.j1] at H
    refine b1 _ _ <| W_cond rfl (fun ay => ?_) (fun ay => ?_)
    ·rw [if_pos ay] at H
     refine W_skip (bz _ _ <| W_block fun b2 b3 b4 => W_region <| Om rfl rfl <| O_y rfl (Y_add rfl rfl) <| Oa rfl rfl <| O_nil (ax (aj, (IntKind.i64.wrap (ad + 1))) _ _ (S4 rfl rfl rfl rfl) (Ai H hs) (Nat.lt_succ_self _)))
    ·rw [if_neg (bft ay)] at H
     refine W_exit (bx _ _ (bw _ _ <| Wr fun b5 bc => Om rfl rfl <| Om rfl rfl <| Om rfl rfl ?_))
     obtain ⟨am, H⟩ := gd H
     obtain ⟨b6, a1, bd⟩ := Y_sliceWin' (k := .i32) el28 hs (j := 0) rfl am.1 am.2.1 am.2.2
     refine O_y rfl (bd rfl (.inr ⟨_, _, rfl, rfl⟩) (.inr ⟨_, _, rfl, rfl⟩)) <| O_y rfl (Y_func rfl) ?_
     have hs := hs.front 1 rfl
     have hs := hs.front 1 rfl
     obtain ⟨ar, a2, H⟩ := bnd H
     refine O_call rfl rfl (slices_SortStableFunc_rune_rune_mmi.c hs (WinR.of ai a1 am.1 am.2.1 am.2.2) (h0.mono (av.trans al)) a2) (fun b7 w hpost => ?_)
     obtain ⟨be, a3, rfl, a4, hs, bf⟩ := hpost
     obtain ⟨bg, a5⟩ := WinR.done hs bf (j := 0) rfl
     have hs := hs.rowLen (j := 0) rfl a5
     have hs := hs.sink 1
     have hs := hs.sink 1
     refine O_nil (bc _ _ <| W_region <| Om rfl rfl <| Oa rfl rfl <| O_nil (bu _ _ <| W_region <| Om rfl rfl <| O_y rfl (Y_add rfl rfl) <| Oa rfl rfl <| O_nil (aw (ah, (aa.take ab.toNat ++ (ar ++ aa.drop ad.toNat)), (IntKind.i64.wrap (ad + 1)), ac, a3, be) _ _ (S3 rfl rfl rfl) (Ai H (Ai (al.trans a4) (Ai hs bg))) (Nat.lt_succ_self _))))
   refine W_drawS 13 [0, 0, 2, 5, 8, 16, 16, 16, 208, 272, 560, 1040, 2064] [8182, 8185, 8177, 8160, 0, 7104, 7840, 7776, 7200, 6176, 4096, 0, 0] [0, 0, 2, 7, 15, 31, 31, 31, 223, 479, 1023, 2047, 4095] [10, 11, 12] (fun w => St w0 ak ((.row ac 21 ((Rep.int .i32).sz) aa.length ae) :: (.box ao 29 ([v0])) :: Γ) w) mixed (by kernel_rfl) (fun sh => ?_)
   have hs := hs.drew
   refine Dm 0 sh rfl rfl (by kernel_rfl) rfl <| Dm 1 sh rfl rfl (by kernel_rfl) rfl <| Dy 2 sh rfl rfl (by kernel_rfl) hs (fun w hs => Y_lenRow (i := 0) un28 hs rfl rfl) <| Dp 3 sh rfl rfl (by kernel_rfl) (fun w => Y_lss rfl rfl) <| Dm 4 sh rfl rfl (by kernel_rfl) rfl <| OD_if (dj := 21) rfl (fun az => ?_) (fun az => ?_)
   ·rw [if_pos az] at H
    refine Dz 5 sh rfl rfl rfl rfl (by kernel_rfl) hs (fun w hs => Yb 1 ag29 hs rfl rfl rfl) <| Dq 6 sh rfl rfl rfl rfl (by kernel_rfl) (fun w => Y_move rfl) <| Dq 7 sh rfl rfl rfl rfl (by kernel_rfl) (fun w => Y_move rfl) ?_
    obtain ⟨an, H⟩ := gd H
    obtain ⟨b8, ap⟩ := hs.rowBlock (j := 0) rfl (by have := an.2; omega)
    obtain ⟨_, rfl, a6⟩ := ai.at an.1 an.2
    refine Dz 8 sh rfl rfl rfl rfl (by kernel_rfl) hs (fun w hs => Y_ixRow (j := 0) el28 hs rfl ap rfl rfl an.1 an.2) <| Dz 9 sh rfl rfl rfl rfl (by kernel_rfl) hs (fun w hs => Y_load ag21 rfl (hs.rowCell (j := 0) rfl ap (a6 0 _ rfl))) <| D1 10 sh rfl (by kernel_rfl) (fun b9 bh => O_yes rfl rfl ?_)
    obtain ⟨au, a7, H⟩ := bnd H
    refine O_call rfl rfl (book_Tables_Class.c hs (h0.mono (av.trans al)) a7) (fun ca w hpost => ?_)
    obtain ⟨rfl, hs⟩ := hpost
    refine O_nil (bh _ _ (fun h _ => absurd h (by decide)) <| OD_resetS sh [] hs (by kernel_rfl) <| Dq 11 sh rfl rfl rfl rfl (by kernel_rfl) (fun w => Y_neq rfl rfl) <| Dp 12 sh rfl rfl (by kernel_rfl) (fun w => Y_pick_t rfl rfl) <| OD_doneS sh (by kernel_rfl) (bk _ _ _ (by repeat first | exact Sub.nil | refine Sub.cons rfl ?_) (a0 (decide (au ≠ 0)) _ H hs)))
   ·rw [if_neg az] at H
    refine Dn 5 sh rfl rfl rfl rfl rfl (by kernel_rfl) <| Dn 6 sh rfl rfl rfl rfl rfl (by kernel_rfl) <| Dn 7 sh rfl rfl rfl rfl rfl (by kernel_rfl) <| Dn 8 sh rfl rfl rfl rfl rfl (by kernel_rfl) <| Dn 9 sh rfl rfl rfl rfl rfl (by kernel_rfl) <| Dn 10 sh rfl rfl rfl rfl rfl (by kernel_rfl) <| Dn 11 sh rfl rfl rfl rfl rfl (by kernel_rfl) <| Dp 12 sh rfl rfl (by kernel_rfl) (fun w => Y_pick_f rfl rfl) <| OD_doneS sh (by kernel_rfl) (bk _ _ _ (by repeat first | exact Sub.nil | refine Sub.cons rfl ?_) (a0 false _ H hs))
  ·rw [if_neg bb] at H
   refine W_exit (br _ _ (bp _ _ <| Wr fun cb bi => Om rfl rfl <| Oa rfl rfl <| O_nil (bi _ _ <| W_ret ?_)))
   obtain rfl := sinj H
   exact ret1 rfl rfl ⟨_, _, _, rfl, (av.trans al), (hs.sub (ssc (ssk ssr))), ai⟩

def canon_Syllable.j1 (x0 ab : Int) : Option (Int × Int × Int × Bool) := some (IntKind.i32.wrap (4352 + (IntKind.i32.wrap ((IntKind.i32.wrap (x0 - 44032)).tdiv 588))), IntKind.i32.wrap (4449 + ((IntKind.i32.wrap ((IntKind.i32.wrap (x0 - 44032)).tdiv 28)).tmod 21)), ab, true)
def canon_Syllable.j2 (x0 : Int) (aa : Bool) : Option (Int × Int × Int × Bool) := if aa = true then (some (0, 0, 0, false)) else (if (IntKind.i32.wrap (4519 + ((IntKind.i32.wrap (x0 - 44032)).tmod 28))) = 4519 then (canon_Syllable.j1 x0 0) else (canon_Syllable.j1 x0 (IntKind.i32.wrap (4519 + ((IntKind.i32.wrap (x0 - 44032)).tmod 28)))))
def canon_Syllable.f (x0 : Int) : Option (Int × Int × Int × Bool) := if x0 < 44032 then (canon_Syllable.j2 x0 true) else (canon_Syllable.j2 x0 (decide (11172 ≤ (IntKind.i32.wrap (x0 - 44032)))))
theorem canon_Syllable.c {w0 w : World} {ρ : Hp} {Γ : List Item} (hs : St w0 ρ (Γ) w) {x0 : Int} {r : Int × Int × Int × Bool} (H : canon_Syllable.f x0 = some r) : CallsR Tryz.prog 180 [.int .i32 x0] w (fun v w' => v = .tuple #[.int .i32 r.1, .int .i32 r.2.1, .int .i32 r.2.2.1, .bool r.2.2.2] ∧ St w0 ρ Γ w') := by
  rw [canon_Syllable.f] at H
  refine enter Tryz.func180 Tryz.ntmps180 rfl (by kernel_rfl) rfl <| Wr fun aw aj => Oa rfl rfl <| Oa rfl rfl <| Oa rfl rfl <| Oa rfl rfl <| O_nil (aj _ _ <| Wr fun ax ak => Om rfl rfl <| O_y rfl (Y_sub rfl rfl) <| Oa rfl rfl <| O_nil (ak _ _ ?_))
  refine W_seq fun ay al => W_seqj fun am an af => ?_
  have ag : ∀ (aa : Bool) (w : World), canon_Syllable.j2 x0 aa = some r → St w0 ρ (Γ) w → am [(6, .int .i32 (IntKind.i32.wrap (x0 - 44032))), (15, .bool aa)] w := by
   intro aa w H hs
   rw [canon_Syllable.j2] at H
   refine an _ _ <| W_cond rfl (fun ac => ?_) (fun ac => ?_)
   ·rw [if_pos ac] at H
    refine Wr fun az ao => Oa rfl rfl <| Oa rfl rfl <| Oa rfl rfl <| Oa rfl rfl <| O_nil (ao _ _ <| W_ret ?_)
    obtain rfl := sinj H
    exact ret4 rfl rfl rfl rfl rfl ⟨rfl, hs⟩
   ·rw [if_neg (bft ac)] at H
    refine W_skip (al _ _ <| Wr fun a0 ap => Om rfl rfl <| O_y rfl (Y_rem rfl rfl (by decide)) <| O_y rfl (Y_add rfl rfl) <| Oa rfl rfl <| O_nil (ap _ _ <| W_seqj fun aq ar ah => ?_))
    have ai : ∀ (ab : Int) (w : World), canon_Syllable.j1 x0 ab = some r → St w0 ρ (Γ) w → aq [(6, .int .i32 (IntKind.i32.wrap (x0 - 44032))), (7, .int .i32 ab)] w := by
     intro ab w H hs
     rw [canon_Syllable.j1] at H
     refine ar _ _ <| Wr fun a1 au => Om rfl rfl <| O_y rfl (Y_quo rfl rfl (by decide)) <| O_y rfl (Y_add rfl rfl) <| Om rfl rfl <| O_y rfl (Y_quo rfl rfl (by decide)) <| O_y rfl (Y_rem rfl rfl (by decide)) <| O_y rfl (Y_add rfl rfl) <| Om rfl rfl <| Oa rfl rfl <| Oa rfl rfl <| Oa rfl rfl ?_
     refine Oa rfl rfl <| O_nil (au _ _ <| W_ret ?_)
     obtain rfl := sinj H
     exact ret4 rfl rfl rfl rfl rfl ⟨rfl, hs⟩
    refine Wr fun a2 av => Om rfl rfl <| O_y rfl (Y_eql rfl rfl) <| O_nil (av _ _ <| W_if rfl (fun ad => ?_) (fun ad => ?_))
    ·rw [if_pos ad] at H
     refine W_region <| Oa rfl rfl <| O_nil (ah _ _ _ (S2 rfl rfl) (ai 0 _ H hs))
    ·rw [if_neg ad] at H
     exact W_skip (ah _ _ _ (S2 rfl rfl) (ai (IntKind.i32.wrap (4519 + ((IntKind.i32.wrap (x0 - 44032)).tmod 28))) _ H hs))
  refine W_region <| Om rfl rfl <| O_y rfl (Y_lss rfl rfl) <| Om rfl rfl <| O_if (dj := 12) rfl (fun ae => ?_) (fun ae => ?_)
  ·rw [if_pos ae] at H
   refine O_no rfl rfl rfl rfl <| O_no rfl rfl rfl rfl <| O_y rfl (Y_pick_t rfl rfl) <| O_nil (af _ _ _ (S2 rfl rfl) (ag true _ H hs))
  ·rw [if_neg ae] at H
   refine O_yes rfl rfl <| Om rfl rfl <| O_yes rfl rfl <| O_y rfl (Y_geq rfl rfl) <| O_y rfl (Y_pick_f rfl rfl) <| O_nil (af _ _ _ (S2 rfl rfl) (ag (decide (11172 ≤ (IntKind.i32.wrap (x0 - 44032)))) _ H hs))

end Go.Proofs.YthoicbafdanmkaaGreatDoor
/- Written by this repo's gen.py: for each Go function a Lean function with the same answers and the walk that shows it. -/
namespace Go.Proofs.YthoicbafdanmkaaGreatDoor
open Go.RowKit
set_option maxRecDepth 100000
set_option maxHeartbeats 4000000
set_option linter.unusedVariables false
def book_row.f (x0 : Option Tab) (x1 : List Chs) (x2 : Int) : Option (List Int) := (stage_Table_Look.f x0 x2).bind fun aa => (if aa = 0 then (some ([] : List Int)) else (if (0 : Int) ≤ IntKind.i64.wrap (aa - 1) ∧ IntKind.i64.wrap (aa - 1) < (x1.length : Int) then ((slices_Clone_rune_rune.f ((rd x1 (IntKind.i64.wrap (aa - 1))).is_)).bind fun af => (some af)) else none))
theorem book_row.c {w0 w : World} {ρ : Hp} {Γ : List Item} (hs : St w0 ρ (Γ) w) {v0 : Value} {x0 : Option Tab} (h0 : PtrR rTab ρ v0 x0) {v1 : Value} {x1 : List Chs} (h1 : SlR rChs ρ v1 x1) {x2 : Int} {r : List Int} (H : book_row.f x0 x1 x2 = some r) : CallsR Tryz.prog 137 [v0, v1, .int .i32 x2] w (fun v w' => ∃ (ρ' : Hp) (v0 : Value) (cs0 : List Value), v = v0 ∧ Le ρ ρ' ∧ St w0 ρ' (.row v0 21 (Rep.int .i32).sz r.length cs0 :: Γ) w' ∧ RowR (Rep.int .i32) ρ' cs0 r) := by
  rw [book_row.f] at H
  refine enter Tryz.func137 Tryz.ntmps137 rfl (by kernel_rfl) rfl <| Wr fun aw ah => Oa rfl rfl <| O_nil (ah _ _ <| Wr fun ax ai => Om rfl rfl <| Om rfl rfl ?_)
  obtain ⟨aa, ab, H⟩ := bnd H
  refine O_call rfl rfl (stage_Table_Look.c hs h0 ab) (fun ay w hpost => ?_)
  obtain ⟨rfl, hs⟩ := hpost
  refine Oa rfl rfl <| O_nil (ai _ _ <| W_seq fun az aj => Wr fun a0 ak => Om rfl rfl <| O_y rfl (Y_eql rfl rfl) <| O_nil (ak _ _ <| W_if rfl (fun ac => ?_) (fun ac => ?_)))
  ·rw [if_pos ac] at H
   refine Wr fun a1 al => Oa rfl rfl <| O_nil (al _ _ <| W_ret ?_)
   have hs := hs.rowNil 21 (Rep.int .i32).sz
   have am := RowR.nil (Rep.int .i32) ρ
   obtain rfl := sinj H
   exact ret1 rfl rfl ⟨_, _, _, rfl, Le.rfl' _, hs, am⟩
  ·rw [if_neg ac] at H
   refine W_skip (aj _ _ <| Wr fun a2 an => Om rfl rfl <| Om rfl rfl <| O_y rfl (Y_sub rfl rfl) ?_)
   obtain ⟨ag, H⟩ := gd H
   obtain ⟨a3, a4, ao, ap⟩ := h1.ix el24 ag.1 ag.2
   obtain ⟨_, ⟨a5, rfl, aq⟩, ar⟩ := ao
   refine O_y rfl (ap rfl rfl) <| O_y rfl (Y_field fo110_2 rfl) <| O_y rfl (Y_load ag28 rfl (hs.see (ar 2 _ rfl))) ?_
   obtain ⟨af, ad, H⟩ := bnd H
   refine O_call rfl rfl (slices_Clone_rune_rune.c hs aq ad) (fun a6 w hpost => ?_)
   obtain ⟨a7, a8, au, rfl, ae, hs, av⟩ := hpost
   refine Oa rfl rfl <| O_nil (an _ _ <| W.weak [(6, _)] (S1 rfl) <| W_ret ?_)
   obtain rfl := sinj H
   exact ret1 rfl rfl ⟨_, _, _, rfl, ae, hs, av⟩

def book_Tables_Parts.f (x0 : Option Tbs) (x1 : Int) : Option (List Int) := if ((x0).isNone) = true then (some ([] : List Int)) else (if x0.isSome = true then ((book_row.f (((x0).getD default).decomp) ((((x0).getD default).b).decomp) x1).bind fun aa => (some aa)) else none)
theorem book_Tables_Parts.c {w0 w : World} {ρ : Hp} {Γ : List Item} (hs : St w0 ρ (Γ) w) {v0 : Value} {x0 : Option Tbs} (h0 : PtrR rTbs ρ v0 x0) {x1 : Int} {r : List Int} (H : book_Tables_Parts.f x0 x1 = some r) : CallsR Tryz.prog 181 [v0, .int .i32 x1] w (fun v w' => ∃ (ρ' : Hp) (v0 : Value) (cs0 : List Value), v = v0 ∧ Le ρ ρ' ∧ St w0 ρ' (.row v0 21 (Rep.int .i32).sz r.length cs0 :: Γ) w' ∧ RowR (Rep.int .i32) ρ' cs0 r) := by
  rw [book_Tables_Parts.f] at H
  refine enter Tryz.func181 Tryz.ntmps181 rfl (by kernel_rfl) rfl <| Wr fun cm ap => Oa rfl rfl <| O_nil (ap _ _ <| W_seq fun cn aq => Wr fun co ar => Om rfl rfl <| O_y rfl ((h0.eqn un29 rfl rfl)) <| O_nil (ar _ _ <| W_cond rfl (fun ae => ?_) (fun ae => ?_)))
  ·rw [if_pos ae] at H
   refine Wr fun cp au => Oa rfl rfl <| O_nil (au _ _ <| W_ret ?_)
   have hs := hs.rowNil 21 (Rep.int .i32).sz
   have av := RowR.nil (Rep.int .i32) ρ
   obtain rfl := sinj H
   exact ret1 rfl rfl ⟨_, _, _, rfl, Le.rfl' _, hs, av⟩
  ·rw [if_neg (bft ae)] at H
   refine W_skip (aq _ _ <| W_seq fun cq aw => W_drawS 12 [0, 1, 2, 4, 0, 16, 32, 64, 128, 0, 776, 2047] [2044, 2040, 2032, 1008, 1999, 1935, 1807, 1551, 527, 511, 0, 0] [0, 1, 3, 7, 0, 16, 48, 112, 240, 0, 1023, 2047] [10, 11] (fun w => St w0 ρ (Γ) w) mixed (by kernel_rfl) (fun sh => ?_))
   have hs := hs.drew
   refine Dm 0 sh rfl rfl (by kernel_rfl) rfl ?_
   obtain ⟨an, H⟩ := gd H
   obtain ⟨cr, af, ax⟩ := h0.open an
   obtain ⟨_, ⟨cs, ct, cu, cv, cw, cx, cy, cz, da, db, dc, dd, de, df, dg, dh, ay, az, a0, a1, a2, a3, rfl, di, dj, dk, dl, dm, dn, dp, dq, dr, ds, dt, du, dv, dw, dx, dy, a4, a5, a6, ag, a7, a8⟩, ah⟩ := ax
   refine Dp 1 sh rfl rfl (by kernel_rfl) (fun w => Y_nilp (congrArg some af)) <| Dp 2 sh rfl rfl (by kernel_rfl) (fun w => Y_field fo114_9 rfl) <| Dy 3 sh rfl rfl (by kernel_rfl) hs (fun w hs => Y_load ag104 rfl (hs.see (ah 19 _ rfl))) <| Dm 4 sh rfl rfl (by kernel_rfl) rfl ?_
   obtain ⟨a9, ab, ai⟩ := h0.open an
   obtain ⟨_, ⟨ba, bb, bc, bd, be, bf, bg, bh, bi, bj, bk, bl, bm, bn, bo, bp, bq, br, bs, bt, bu, bv, rfl, bw, bx, bz, b0, aj, b1, b2, b3, b4, b5, b6, b7, b8, b9, ca, cb, cc, cd, ce, cf, cg, ch⟩, ak⟩ := ai
   refine Dp 5 sh rfl rfl (by kernel_rfl) (fun w => Y_nilp (congrArg some ab)) <| Dp 6 sh rfl rfl (by kernel_rfl) (fun w => Y_field fo114_0 rfl) <| Dp 7 sh rfl rfl (by kernel_rfl) (fun w => Y_field fo27_4 rfl) <| Dy 8 sh rfl rfl (by kernel_rfl) hs (fun w hs => Y_load ag24 rfl (hs.see (ak 4 _ rfl))) <| Dm 9 sh rfl rfl (by kernel_rfl) rfl <| D1 10 sh rfl (by kernel_rfl) (fun ci al => ?_)
   obtain ⟨aa, ac, H⟩ := bnd H
   refine O_call rfl rfl (book_row.c hs ag aj ac) (fun cj w hpost => ?_)
   obtain ⟨ck, cl, ao, rfl, ad, hs, am⟩ := hpost
   refine O_nil (al _ _ (fun h _ => absurd h (by decide)) <| OD_resetS sh [] hs (by kernel_rfl) <| Dp 11 sh rfl rfl (by kernel_rfl) (fun w => Y_assign rfl) <| OD_doneS sh (by kernel_rfl) (aw _ _ <| W.weak [(4, _)] (S1 rfl) <| W_ret ?_))
   obtain rfl := sinj H
   exact ret1 rfl rfl ⟨_, _, _, rfl, ad, hs, am⟩

def canon_Full.l1 : Nat → (Option Tbs → Int → Option (List Int)) → Option Tbs → List Int → List Int → Int → Option (List Int)
  | 0, _, _, _, _, _ => none
  | af + 1, rec, x0, aj, aa, ab => if ab < (aj.length : Int) then (if (0 : Int) ≤ ab ∧ ab < (aj.length : Int) then ((rec x0 (rd aj ab)).bind fun al => (if aa.length + al.length ≤ most then ((canon_Full.l1 af rec x0 aj) (aa ++ al) (IntKind.i64.wrap (ab + 1))) else none)) else none) else (some aa)
def canon_Full.b (rec : Option Tbs → Int → Option (List Int)) (x0 : Option Tbs) (x1 : Int) : Option (List Int) := (canon_Syllable.f x1).bind fun ae => (if ae.2.2.2 = true then (if ae.2.2.1 = 0 then (some ([ae.1, ae.2.1])) else (some ([ae.1, ae.2.1, ae.2.2.1]))) else ((book_Tables_Parts.f x0 x1).bind fun aj => (if (aj.length : Int) = 0 then (some ([x1])) else (canon_Full.l1 K0 rec x0 aj ([] : List Int) 0))))
def canon_Full.f : Nat → Option Tbs → Int → Option (List Int)
  | 0, _, _ => none
  | k + 1, x0, x1 => canon_Full.b (canon_Full.f k) x0 x1
def canon_Full.Spec (rec : Option Tbs → Int → Option (List Int)) : Prop := ∀ {w0 w : World} {ρ : Hp} {Γ : List Item} (hs : St w0 ρ (Γ) w) {v0 : Value} {x0 : Option Tbs} (h0 : PtrR rTbs ρ v0 x0) {x1 : Int} {r : List Int}, rec x0 x1 = some r → CallsR Tryz.prog 168 [v0, .int .i32 x1] w (fun v w' => ∃ (ρ' : Hp) (v0 : Value) (cs0 : List Value), v = v0 ∧ Le ρ ρ' ∧ St w0 ρ' (.row v0 21 (Rep.int .i32).sz r.length cs0 :: Γ) w' ∧ RowR (Rep.int .i32) ρ' cs0 r)
theorem canon_Full.cb (rec : Option Tbs → Int → Option (List Int)) (hrec : canon_Full.Spec rec) {w0 w : World} {ρ : Hp} {Γ : List Item} (hs : St w0 ρ (Γ) w) {v0 : Value} {x0 : Option Tbs} (h0 : PtrR rTbs ρ v0 x0) {x1 : Int} {r : List Int} (H : canon_Full.b rec x0 x1 = some r) : CallsR Tryz.prog 168 [v0, .int .i32 x1] w (fun v w' => ∃ (ρ' : Hp) (v0 : Value) (cs0 : List Value), v = v0 ∧ Le ρ ρ' ∧ St w0 ρ' (.row v0 21 (Rep.int .i32).sz r.length cs0 :: Γ) w' ∧ RowR (Rep.int .i32) ρ' cs0 r) := by
  rw [canon_Full.b] at H
  refine enter Tryz.func168 Tryz.ntmps168 rfl (by kernel_rfl) rfl <| Wr fun ci bk => Oa rfl rfl <| O_nil (bk _ _ <| W_seq fun cj bl => Wr fun ck bm => Om rfl rfl ?_)
  obtain ⟨ae, ay, H⟩ := bnd H
  refine O_call rfl rfl (canon_Syllable.c hs ay) (fun cl w hpost => ?_)
  obtain ⟨rfl, hs⟩ := hpost
  refine Om rfl rfl <| O_y rfl (Y_extract rfl rfl) <| O_y rfl (Y_extract rfl rfl) <| O_y rfl (Y_extract rfl rfl) <| O_y rfl (Y_extract rfl rfl) <| Oa rfl rfl <| Oa rfl rfl <| Oa rfl rfl <| Oa rfl rfl <| O_nil (bm _ _ <| Wr fun cm bn => Om rfl rfl <| O_nil (bn _ _ ?_))
  refine W.weak [(0, _), (1, _), (5, _), (6, _), (7, _), (20, _)] (by repeat first | exact Sub.nil | refine Sub.cons rfl ?_) ?_
  refine W_cond rfl (fun az => ?_) (fun az => ?_)
  ·rw [if_pos az] at H
   refine W_seq fun cn bo => Wr fun co bp => Om rfl rfl <| O_y rfl (Y_eql rfl rfl) <| O_nil (bp _ _ <| W_if rfl (fun a0 => ?_) (fun a0 => ?_))
   ·rw [if_pos a0] at H
    refine Wr fun cp bq => Om rfl rfl <| Om rfl rfl <| O_lit2 (xs := [.tmp 23, .tmp 24]) (cs := [.int .i32 ae.1, .int .i32 ae.2.1]) el28 hs rfl rfl rfl (by decide) (by decide) rfl (sz_cons rfl (sz_cons rfl sz_nil)) (flat_cons rfl (flat_cons rfl flat_nil)) (fun cq w hs => ?_)
    have br : RowR (Rep.int .i32) ρ ([.int .i32 ae.1, .int .i32 ae.2.1]) [ae.1, ae.2.1] := RowR.cons (c := [.int .i32 ae.1]) (x := ae.1) rfl (RowR.cons (c := [.int .i32 ae.2.1]) (x := ae.2.1) rfl (RowR.nil _ _))
    refine Oa rfl rfl <| O_nil (bq _ _ <| W_ret ?_)
    obtain rfl := sinj H
    exact ret1 rfl rfl ⟨_, _, _, rfl, Le.rfl' _, hs, br⟩
   ·rw [if_neg a0] at H
    refine W_skip (bo _ _ <| Wr fun cr bs => Om rfl rfl <| Om rfl rfl <| Om rfl rfl <| O_lit2 (xs := [.tmp 26, .tmp 27, .tmp 28]) (cs := [.int .i32 ae.1, .int .i32 ae.2.1, .int .i32 ae.2.2.1]) el28 hs rfl rfl rfl (by decide) (by decide) rfl (sz_cons rfl (sz_cons rfl (sz_cons rfl sz_nil))) (flat_cons rfl (flat_cons rfl (flat_cons rfl flat_nil))) (fun ct w hs => ?_))
    have bt : RowR (Rep.int .i32) ρ ([.int .i32 ae.1, .int .i32 ae.2.1, .int .i32 ae.2.2.1]) [ae.1, ae.2.1, ae.2.2.1] := RowR.cons (c := [.int .i32 ae.1]) (x := ae.1) rfl (RowR.cons (c := [.int .i32 ae.2.1]) (x := ae.2.1) rfl (RowR.cons (c := [.int .i32 ae.2.2.1]) (x := ae.2.2.1) rfl (RowR.nil _ _)))
    refine Oa rfl rfl <| O_nil (bs _ _ <| W_ret ?_)
    obtain rfl := sinj H
    exact ret1 rfl rfl ⟨_, _, _, rfl, Le.rfl' _, hs, bt⟩
  ·rw [if_neg (bft az)] at H
   refine W_skip (bl _ _ <| Wr fun cu bu => Om rfl rfl <| Om rfl rfl ?_)
   obtain ⟨aj, a1, H⟩ := bnd H
   refine O_call rfl rfl (book_Tables_Parts.c hs h0 a1) (fun a2 w hpost => ?_)
   obtain ⟨ax, cv, a3, rfl, ap, hs, bv⟩ := hpost
   refine Oa rfl rfl <| O_nil (bu _ _ <| W_seq fun cw bw => Wr fun cx bx => Om rfl rfl <| O_y rfl (Y_lenRow (i := 0) un28 hs rfl rfl) <| O_y rfl (Y_eql rfl rfl) <| O_nil (bx _ _ <| W_if rfl (fun a4 => ?_) (fun a4 => ?_)))
   ·rw [if_pos a4] at H
    refine Wr fun cy bz => Om rfl rfl <| O_lit2 (xs := [.tmp 36]) (cs := [.int .i32 x1]) el28 hs rfl rfl rfl (by decide) (by decide) rfl (sz_cons rfl sz_nil) (flat_cons rfl flat_nil) (fun cz w hs => ?_)
    have b0 : RowR (Rep.int .i32) ax ([.int .i32 x1]) [x1] := RowR.cons (c := [.int .i32 x1]) (x := x1) rfl (RowR.nil _ _)
    refine Oa rfl rfl <| O_nil (bz _ _ <| W.weak [(4, _)] (S1 rfl) <| W_ret ?_)
    obtain rfl := sinj H
    exact ret1 rfl rfl ⟨_, _, _, rfl, ap, (hs.sub (ssc (ssk ssr))), b0⟩
   ·rw [if_neg a4] at H
    refine W_skip (bw _ _ <| Wr fun da a5 => Oa rfl rfl ?_)
    have hs := hs.rowNil 21 (Rep.int .i32).sz
    have a6 := RowR.nil (Rep.int .i32) ax
    refine O_nil (a5 _ _ <| W_seq fun b1 a7 => Wr fun b2 a8 => Om rfl rfl <| O_y rfl (Y_lenRow (i := 1) un28 hs rfl rfl) <| Om rfl rfl <| O_nil (a8 _ _ <| W.weak [(0, _), (10, _), (38, _), (39, _), (40, _)] (by repeat first | exact Sub.nil | refine Sub.cons rfl ?_) ?_))
    refine W_block fun b3 a9 b4 => W_loop (σ := Nat × List Int × Int × Value × List Value × Hp) (fun (af, aa, ab, ac, ad, ai) => [(0, v0), (10, ac), (38, a2), (39, .int .i64 (aj.length : Int)), (40, .int .i64 ab)]) (fun (af, aa, ab, ac, ad, ai) w => canon_Full.l1 af rec x0 aj aa ab = some r ∧ Le ax ai ∧ St w0 ai ((.row ac 21 ((Rep.int .i32).sz) aa.length ad) :: (.row a2 21 ((Rep.int .i32).sz) aj.length a3) :: Γ) w ∧ RowR (Rep.int .i32) ai ad aa) (fun s => s.1) (K0, ([] : List Int), 0, (.slice none 0 0), ([]), ax) (by repeat first | exact Sub.nil | refine Sub.cons rfl ?_) (Ai H (Ai (Le.rfl' _) (Ai hs a6))) ?_
    rintro ⟨af, aa, ab, ac, ad, ai⟩ w b5 ⟨H, ah, hs, ag⟩ am
    show W _ _ _ _ _ _ [(0, v0), (10, ac), (38, a2), (39, .int .i64 (aj.length : Int)), (40, .int .i64 ab)] w
    cases af with
    | zero => rw [canon_Full.l1] at H; cases H
    | succ af =>
    rw [canon_Full.l1] at H
    refine Wr fun b6 ba => O_y rfl (Y_lss rfl rfl) <| O_nil (ba _ _ <| W_seq fun b7 bb => W_if rfl (fun aq => ?_) (fun aq => ?_))
    ·rw [if_pos aq] at H
     refine W_skip (bb _ _ <| W_seq fun b8 bc => W_block fun b9 ca cc => W_seq fun cd bd => W_region ?_)
     obtain ⟨ak, H⟩ := gd H
     obtain ⟨ce, an⟩ := hs.rowBlock (j := 1) rfl (by have := ak.2; omega)
     obtain ⟨_, rfl, ar⟩ := (bv.mono ah).at ak.1 ak.2
     refine O_y rfl (Y_ixRow (j := 1) el28 hs rfl an rfl rfl ak.1 ak.2) <| O_y rfl (Y_load ag21 rfl (hs.rowCell (j := 1) rfl an (ar 0 _ rfl))) <| Oa rfl rfl <| O_nil (bd _ _ <| W_region <| Om rfl rfl <| Om rfl rfl <| Om rfl rfl ?_)
     obtain ⟨al, au, H⟩ := bnd H
     refine O_call rfl rfl (hrec hs (h0.mono (ap.trans ah)) au) (fun cf w hpost => ?_)
     obtain ⟨be, cg, bj, rfl, ao, hs, av⟩ := hpost
     obtain ⟨bf, H⟩ := gd H
     refine O_appendR (i := 1) el28 hs rfl (ag.mono ao) rfl rfl rfl (Src.lit (j := 0) hs rfl av) av bf (fun bg aw w bh hs => Oa rfl rfl <| O_nil (bc _ _ <| W_region <| O_y rfl (Y_add rfl rfl) <| Om rfl rfl <| O_nil (am (af, (aa ++ al), (IntKind.i64.wrap (ab + 1)), bg, aw, be) _ _ (by repeat first | exact Sub.nil | refine Sub.cons rfl ?_) (Ai H (Ai (ah.trans ao) (Ai (hs.sub (ssk (ssc (ssc ssr)))) bh))) (Nat.lt_succ_self _))))
    ·rw [if_neg aq] at H
     refine W_exit (a9 _ _ (a7 _ _ <| Wr fun ch bi => Om rfl rfl <| Oa rfl rfl <| O_nil (bi _ _ <| W_ret ?_)))
     obtain rfl := sinj H
     exact ret1 rfl rfl ⟨_, _, _, rfl, (ap.trans ah), (hs.sub (ssc (ssk ssr))), ag⟩
theorem canon_Full.c (k : Nat) : canon_Full.Spec (canon_Full.f k) := by
  induction k with
  | zero => intro w0 w ρ Γ hs v0 x0 h0 x1 r H; exact nomatch (show (none : Option _) = some _ from H)
  | succ k ih => intro w0 w ρ Γ hs v0 x0 h0 x1 r H; exact canon_Full.cb (canon_Full.f k) ih hs h0 H

def canon_parts.l1 : Nat → Option Tbs → List Int → List Int → Int → Option (List Int)
  | 0, _, _, _, _ => none
  | ae + 1, x0, x1, aa, ab => if ab < (x1.length : Int) then (if (0 : Int) ≤ ab ∧ ab < (x1.length : Int) then ((canon_Full.f K0 x0 (rd x1 ab)).bind fun ak => (if aa.length + ak.length ≤ most then ((canon_parts.l1 ae x0 x1) (aa ++ ak) (IntKind.i64.wrap (ab + 1))) else none)) else none) else (some aa)
def canon_parts.f (x0 : Option Tbs) (x1 : List Int) : Option (List Int) := canon_parts.l1 K0 x0 x1 ([] : List Int) 0
theorem canon_parts.c {w0 w : World} {ρ : Hp} {Γ : List Item} (hs : St w0 ρ (Γ) w) {v0 : Value} {x0 : Option Tbs} (h0 : PtrR rTbs ρ v0 x0) {v1 : Value} {x1 : List Int} (h1 : SlR (Rep.int .i32) ρ v1 x1) {r : List Int} (H : canon_parts.f x0 x1 = some r) : CallsR Tryz.prog 136 [v0, v1] w (fun v w' => ∃ (ρ' : Hp) (v0 : Value) (cs0 : List Value), v = v0 ∧ Le ρ ρ' ∧ St w0 ρ' (.row v0 21 (Rep.int .i32).sz r.length cs0 :: Γ) w' ∧ RowR (Rep.int .i32) ρ' cs0 r) := by
  rw [canon_parts.f] at H
  refine enter Tryz.func136 Tryz.ntmps136 rfl (by kernel_rfl) rfl <| Wr fun ba aq => Oa rfl rfl <| O_nil (aq _ _ <| Wr fun bb ar => Oa rfl rfl ?_)
  have hs := hs.rowNil 21 (Rep.int .i32).sz
  have au := RowR.nil (Rep.int .i32) ρ
  refine O_nil (ar _ _ <| W_seq fun bc av => Wr fun bd aw => Om rfl rfl <| O_y rfl (Y_lenR un28 h1 rfl) <| Om rfl rfl <| O_nil (aw _ _ <| W_block fun be ax bf => W_loop (σ := Nat × List Int × Int × Value × List Value × Hp) (fun (ae, aa, ab, ac, ad, ah) => [(0, v0), (5, ac), (8, v1), (9, .int .i64 (x1.length : Int)), (10, .int .i64 ab)]) (fun (ae, aa, ab, ac, ad, ah) w => canon_parts.l1 ae x0 x1 aa ab = some r ∧ Le ρ ah ∧ St w0 ah ((.row ac 21 ((Rep.int .i32).sz) aa.length ad) :: Γ) w ∧ RowR (Rep.int .i32) ah ad aa) (fun s => s.1) (K0, ([] : List Int), 0, (.slice none 0 0), ([]), ρ) (by repeat first | exact Sub.nil | refine Sub.cons rfl ?_) (Ai H (Ai (Le.rfl' _) (Ai hs au))) ?_))
  rintro ⟨ae, aa, ab, ac, ad, ah⟩ w bg ⟨H, ag, hs, af⟩ ai
  show W _ _ _ _ _ _ [(0, v0), (5, ac), (8, v1), (9, .int .i64 (x1.length : Int)), (10, .int .i64 ab)] w
  cases ae with
  | zero => rw [canon_parts.l1] at H; cases H
  | succ ae =>
  rw [canon_parts.l1] at H
  refine Wr fun bh ay => O_y rfl (Y_lss rfl rfl) <| O_nil (ay _ _ <| W_seq fun bi az => W_if rfl (fun al => ?_) (fun al => ?_))
  ·rw [if_pos al] at H
   refine W_skip (az _ _ <| W_seq fun bj a0 => W_block fun bk bl bm => W_seq fun bn a1 => W_region ?_)
   obtain ⟨ao, H⟩ := gd H
   obtain ⟨bo, bp, a2, a3⟩ := (h1.mono ag).ix el28 ao.1 ao.2
   refine O_y rfl (a3 rfl rfl) <| O_y rfl (Y_load ag21 rfl (hs.see a2.int)) <| Oa rfl rfl <| O_nil (a1 _ _ <| W_region <| Om rfl rfl <| Om rfl rfl <| Om rfl rfl ?_)
   obtain ⟨ak, am, H⟩ := bnd H
   refine O_call rfl rfl ((canon_Full.c K0) hs (h0.mono ag) am) (fun bq w hpost => ?_)
   obtain ⟨a4, br, a5, rfl, aj, hs, ap⟩ := hpost
   obtain ⟨a6, H⟩ := gd H
   refine O_appendR (i := 1) el28 hs rfl (af.mono aj) rfl rfl rfl (Src.lit (j := 0) hs rfl ap) ap a6 (fun a7 an w a8 hs => Oa rfl rfl <| O_nil (a0 _ _ <| W_region <| O_y rfl (Y_add rfl rfl) <| Om rfl rfl <| O_nil (ai (ae, (aa ++ ak), (IntKind.i64.wrap (ab + 1)), a7, an, a4) _ _ (by repeat first | exact Sub.nil | refine Sub.cons rfl ?_) (Ai H (Ai (ag.trans aj) (Ai (hs.sub (ssk (ssc ssr))) a8))) (Nat.lt_succ_self _))))
  ·rw [if_neg al] at H
   refine W_exit (ax _ _ (av _ _ <| Wr fun bs a9 => Om rfl rfl <| Oa rfl rfl <| O_nil (a9 _ _ <| W_ret ?_)))
   obtain rfl := sinj H
   exact ret1 rfl rfl ⟨_, _, _, rfl, ag, hs, af⟩

def canon_Decompose.f (x0 : Option Tbs) (x1 : List Int) : Option (List Int) := (canon_parts.f x0 x1).bind fun af => ((canon_Order.f x0 af).bind fun ag => (some ag))
theorem canon_Decompose.c {w0 w : World} {ρ : Hp} {Γ : List Item} (hs : St w0 ρ (Γ) w) {v0 : Value} {x0 : Option Tbs} (h0 : PtrR rTbs ρ v0 x0) {v1 : Value} {x1 : List Int} (h1 : SlR (Rep.int .i32) ρ v1 x1) {r : List Int} (H : canon_Decompose.f x0 x1 = some r) : CallsR Tryz.prog 80 [v0, v1] w (fun v w' => ∃ (ρ' : Hp) (v0 : Value) (cs0 : List Value), v = v0 ∧ Le ρ ρ' ∧ St w0 ρ' (.row v0 21 (Rep.int .i32).sz r.length cs0 :: Γ) w' ∧ RowR (Rep.int .i32) ρ' cs0 r) := by
  rw [canon_Decompose.f] at H
  refine enter Tryz.func80 Tryz.ntmps80 rfl (by kernel_rfl) rfl <| Wr fun ao ah => Oa rfl rfl <| O_nil (ah _ _ <| Wr fun ap ai => Om rfl rfl <| Om rfl rfl <| Om rfl rfl ?_)
  obtain ⟨af, ac, H⟩ := bnd H
  refine O_call rfl rfl (canon_parts.c hs h0 h1 ac) (fun aq w hpost => ?_)
  obtain ⟨ar, au, aj, rfl, aa, hs, ak⟩ := hpost
  obtain ⟨av, ab, hs, al⟩ := hs.rowEnd (j := 0) ak rfl
  obtain ⟨ag, ad, H⟩ := bnd H
  refine O_call rfl rfl (canon_Order.c hs (h0.mono (aa.trans ab)) al ad) (fun aw w hpost => ?_)
  obtain ⟨ax, ay, am, rfl, ae, hs, an⟩ := hpost
  refine Oa rfl rfl <| O_nil (ai _ _ <| W_ret ?_)
  obtain rfl := sinj H
  exact ret1 rfl rfl ⟨_, _, _, rfl, ((aa.trans ab).trans ae), hs, an⟩

end Go.Proofs.YthoicbafdanmkaaGreatDoor
