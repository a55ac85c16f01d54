/- Written by this repo's gen.py: for each Go function a Lean function with the same answers and the walk that shows it. -/
import Derived.Test.YtekafkokpnihfaaGreatTA0
import Derived.Test.YtekafkokpnihfaaGreatTA2
import Derived.Test.YtekafkokpnihfaaGreatData
import Derived.Test.YtekafkokpnihfaaGreatFacts
namespace Go.Proofs.YtekafkokpnihfaaGreat
open Go.RowKit
set_option maxRecDepth 100000
set_option maxHeartbeats 4000000
set_option linter.unusedVariables false
def stage_Table_Over_1_aek.j1 (aa : Vector Int 128) (ab : Int) (ad : Bool) : Option (Bool × Vector Int 128 × Int) := some (ad, aa, ab)
def stage_Table_Over_1_aek.j2 (y1_0 : Option Tab) (y2_0 : List Val) (y3_0 x0 : Int) (ac : Vector Int 128) : Option (Bool × Vector Int 128 × Int) := (stage_lay_fod.f y2_0 x0 y3_0 ac).bind fun ae => (if ae.1 = true then (stage_Table_Over_1_aek.j1 ae.2.2 ae.2.1 true) else (stage_Table_Over_1_aek.j1 ae.2.2 ae.2.1 ((y1_0).isSome)))
def stage_Table_Over_1_aek.f (x0 : Int) (y0_0 : Vector Int 128) (y1_0 : Option Tab) (y2_0 : List Val) (y3_0 : Int) : Option (Bool × Vector Int 128 × Int) := if ((y1_0).isSome) = true then (if y1_0.isSome = true then (if (0 : Int) ≤ IntKind.i32.wrap (x0.tdiv 128) ∧ IntKind.i32.wrap (x0.tdiv 128) < ((8704 : Nat) : Int) then (if (0 : Int) ≤ vg (((y1_0).getD default).which) (IntKind.i32.wrap (x0.tdiv 128)) ∧ vg (((y1_0).getD default).which) (IntKind.i32.wrap (x0.tdiv 128)) < ((((y1_0).getD default).unlike).length : Int) then (stage_Table_Over_1_aek.j2 y1_0 y2_0 y3_0 x0 (rd (((y1_0).getD default).unlike) (vg (((y1_0).getD default).which) (IntKind.i32.wrap (x0.tdiv 128))))) else none) else none) else none) else (stage_Table_Over_1_aek.j2 y1_0 y2_0 y3_0 x0 y0_0)
theorem stage_Table_Over_1_aek.c {w0 w : World} {ρ : Hp} {Γ : List Item} {pb0 : Nat} {y0_0 : Vector Int 128} {pb1 : Nat} {w1_0 : Value} {y1_0 : Option Tab} {pb2 : Nat} {w2_0 : Value} {y2_0 : List Val} {pb3 : Nat} {y3_0 : Int} (hs : St w0 ρ ((.box pb0 101 ([] ++ (vcs (Value.int .u16) y0_0 ++ []))) :: (.box pb1 59 ([w1_0])) :: (.box pb2 23 ([w2_0])) :: (.box pb3 3 ([.int .i64 y3_0])) :: Γ) w) {x0 : Int} (g1_0 : PtrR rTab ρ w1_0 y1_0) (g2_0 : SlR rVal ρ w2_0 y2_0) {r : Bool × Vector Int 128 × Int} (H : stage_Table_Over_1_aek.f x0 y0_0 y1_0 y2_0 y3_0 = some r) : CallsR Tryz.prog 106 [.int .i32 x0, .pointer (some ⟨pb0, 0, none⟩), .pointer (some ⟨pb1, 0, none⟩), .pointer (some ⟨pb2, 0, none⟩), .pointer (some ⟨pb3, 0, none⟩)] w (fun v w' => v = .bool r.1 ∧ St w0 ρ ((.box pb0 101 ([] ++ (vcs (Value.int .u16) r.2.1 ++ []))) :: (.box pb1 59 ([w1_0])) :: (.box pb2 23 ([w2_0])) :: (.box pb3 3 ([.int .i64 r.2.2])) :: Γ) w') := by
  rw [stage_Table_Over_1_aek.f] at H
  refine enter Tryz.func106 Tryz.ntmps106 rfl (by kernel_rfl) rfl <| Wr fun a9 ar => Oa rfl rfl <| O_nil (ar _ _ <| W_seqj fun au av al => ?_)
  have am : ∀ (ac : Vector Int 128) (w : World), stage_Table_Over_1_aek.j2 y1_0 y2_0 y3_0 x0 ac = some r → St w0 ρ ((.box pb0 101 ([] ++ (vcs (Value.int .u16) ac ++ []))) :: (.box pb1 59 ([w1_0])) :: (.box pb2 23 ([w2_0])) :: (.box pb3 3 ([.int .i64 y3_0])) :: Γ) w → au [(0, .int .i32 x0), (1, .pointer (some ⟨pb0, 0, none⟩)), (2, .pointer (some ⟨pb1, 0, none⟩)), (3, .pointer (some ⟨pb2, 0, none⟩)), (4, .pointer (some ⟨pb3, 0, none⟩))] w := by
   intro ac w H hs
   rw [stage_Table_Over_1_aek.j2] at H
   refine av _ _ <| W_seqj fun aw ax an => ?_
   have ao : ∀ (aa : Vector Int 128) (ab : Int) (ad : Bool) (w : World), stage_Table_Over_1_aek.j1 aa ab ad = some r → St w0 ρ ((.box pb0 101 ([] ++ (vcs (Value.int .u16) aa ++ []))) :: (.box pb1 59 ([w1_0])) :: (.box pb2 23 ([w2_0])) :: (.box pb3 3 ([.int .i64 ab])) :: Γ) w → aw [(7, .bool ad)] w := by
    intro aa ab ad w H hs
    rw [stage_Table_Over_1_aek.j1] at H
    refine ax _ _ <| W_ret ?_
    obtain rfl := sinj H
    exact ret1 rfl rfl ⟨rfl, hs⟩
   refine W_region <| O_y rfl (Yb 2 ag23 hs rfl rfl rfl) <| Om rfl rfl <| Om rfl rfl ?_
   have hs := hs.front 3 rfl
   obtain ⟨ae, ag, H⟩ := bnd H
   refine O_call rfl rfl (stage_lay_fod.c hs g2_0 ag) (fun ba w hpost => ?_)
   obtain ⟨rfl, hs⟩ := hpost
   have hs := hs.sink 3
   refine Om rfl rfl <| O_cases (dj := 29) rfl (fun ah => ?_) (fun ah => ?_)
   ·rw [if_pos ah] at H
    refine O_no rfl rfl rfl rfl <| O_no rfl rfl rfl rfl <| O_y rfl (Y_pick_t rfl rfl) <| Oa rfl rfl <| O_nil (an _ _ _ (S1 rfl) (ao ae.2.2 ae.2.1 true _ H hs))
   ·rw [if_neg (bft ah)] at H
    refine O_yes rfl rfl <| O_y rfl (Yb 1 ag59 hs rfl rfl rfl) <| O_yes rfl rfl <| O_y rfl ((g1_0.nen un59 rfl rfl)) <| O_y rfl (Y_pick_f rfl rfl) <| Oa rfl rfl <| O_nil (an _ _ _ (S1 rfl) (ao ae.2.2 ae.2.1 ((y1_0).isSome) _ H hs))
  refine Wr fun bb ay => O_y rfl (Yb 1 ag59 hs rfl rfl rfl) <| O_y rfl ((g1_0.nen un59 rfl rfl)) <| O_nil (ay _ _ <| W_cond rfl (fun ai => ?_) (fun ai => ?_))
  ·rw [if_pos ai] at H
   refine W_drawS 16 [0, 0, 2, 4, 8, 0, 0, 64, 32, 256, 640, 1024, 2064, 4096, 16383, 32767] [16382, 16377, 16369, 16353, 12257, 16095, 16191, 15167, 15583, 14559, 12319, 8223, 1, 1, 0, 0] [0, 0, 2, 6, 14, 0, 0, 64, 32, 288, 992, 2016, 4094, 8190, 16383, 32767] [15] (fun w => St w0 ρ ((.box pb0 101 ([] ++ (vcs (Value.int .u16) y0_0 ++ []))) :: (.box pb1 59 ([w1_0])) :: (.box pb2 23 ([w2_0])) :: (.box pb3 3 ([.int .i64 y3_0])) :: Γ) w) mixed (by kernel_rfl) (fun sh => ?_)
   have hs := hs.drew
   refine Dm 0 sh rfl rfl (by kernel_rfl) rfl <| Dy 1 sh rfl rfl (by kernel_rfl) hs (fun w hs => Yb 1 ag59 hs rfl rfl rfl) ?_
   obtain ⟨ap, H⟩ := gd H
   obtain ⟨bc, aj, az⟩ := g1_0.open ap
   obtain ⟨_, ⟨bd, be, rfl, a0, bf⟩, a1⟩ := az
   refine Dp 2 sh rfl rfl (by kernel_rfl) (fun w => Y_nilp (congrArg some aj)) <| Dp 3 sh rfl rfl (by kernel_rfl) (fun w => Y_field fo105_1 rfl) <| Dy 4 sh rfl rfl (by kernel_rfl) hs (fun w hs => Y_load ag103 rfl (hs.see (a1 8704 _ (seg_beh (q := 0) rfl rfl)))) <| Dy 5 sh rfl rfl (by kernel_rfl) hs (fun w hs => Yb 1 ag59 hs rfl rfl rfl) <| Dm 6 sh rfl rfl (by kernel_rfl) rfl <| Dp 7 sh rfl rfl (by kernel_rfl) (fun w => Y_quo rfl rfl (by decide)) ?_
   obtain ⟨bg, ak, a2⟩ := g1_0.open ap
   obtain ⟨_, ⟨bh, bi, rfl, bj, bk⟩, a3⟩ := a2
   refine Dp 8 sh rfl rfl (by kernel_rfl) (fun w => Y_nilp (congrArg some ak)) <| Dp 9 sh rfl rfl (by kernel_rfl) (fun w => Y_field fo105_0 rfl) ?_
   obtain ⟨af, H⟩ := gd H
   have a4 := CA.seg (q := 0) a3 rfl af.1 af.2
   refine Dp 10 sh rfl rfl (by kernel_rfl) (fun w => Y_ixArr un102 sz99 rfl rfl af.1 af.2) <| Dy 11 sh rfl rfl (by kernel_rfl) hs (fun w hs => Y_load ag99 rfl (hs.see a4)) ?_
   obtain ⟨aq, H⟩ := gd H
   obtain ⟨bl, bm, a5, a6⟩ := a0.ix el103 aq.1 aq.2
   have a7 := a5.arr
   refine Dp 12 sh rfl rfl (by kernel_rfl) (fun w => a6 rfl rfl) <| Dy 13 sh rfl rfl (by kernel_rfl) hs (fun w hs => Y_loadN (cs := vcs (Value.int .u16) (rd (((y1_0).getD default).unlike) (vg (((y1_0).getD default).which) (IntKind.i32.wrap (x0.tdiv 128))))) ag101 sz101 (vcs_length _ _) rfl (fun j u hu => hs.see (a7 j u (by simpa using hu)))) <| Dp 14 sh rfl rfl (by kernel_rfl) (fun w => Y_nilp rfl) <| D1 15 sh rfl (by kernel_rfl) (fun bn a8 => O_storeArr (j := 0) (u := rd (((y1_0).getD default).unlike) (vg (((y1_0).getD default).which) (IntKind.i32.wrap (x0.tdiv 128)))) sz101 (one_int .u16) hs rfl rfl rfl (fun w hs => O_nil (a8 _ _ (fun _ _ => by first | contradiction | (rename_i h; cases h)) <| OD_doneS sh (by kernel_rfl) (al _ _ _ (by repeat first | exact Sub.nil | refine Sub.cons rfl ?_) (am (rd (((y1_0).getD default).unlike) (vg (((y1_0).getD default).which) (IntKind.i32.wrap (x0.tdiv 128)))) _ H hs)))))
  ·rw [if_neg (bft ai)] at H
   exact W_skip (al _ _ _ (by repeat first | exact Sub.nil | refine Sub.cons rfl ?_) (am y0_0 _ H hs))

def stage_block_flat_ejg.l1 : Nat → Vector Int 128 → Int → Option Bool
  | 0, _, _ => none
  | ab + 1, y0_0, aa => if aa < 128 then (if (0 : Int) ≤ aa ∧ aa < ((128 : Nat) : Int) then (if (0 : Int) ≤ 0 ∧ 0 < ((128 : Nat) : Int) then (if (vg y0_0 aa) ≠ (vg y0_0 0) then (some false) else ((stage_block_flat_ejg.l1 ab y0_0) (IntKind.i64.wrap (aa + 1)))) else none) else none) else (some true)
def stage_block_flat_ejg.f (y0_0 : Vector Int 128) : Option Bool := stage_block_flat_ejg.l1 K0 y0_0 0
theorem stage_block_flat_ejg.c {w0 w : World} {ρ : Hp} {Γ : List Item} {pb0 : Nat} {y0_0 : Vector Int 128} (hs : St w0 ρ ((.box pb0 101 ([] ++ (vcs (Value.int .u16) y0_0 ++ []))) :: Γ) w) {r : Bool} (H : stage_block_flat_ejg.f y0_0 = some r) : CallsR Tryz.prog 114 [.pointer (some ⟨pb0, 0, none⟩)] w (fun v w' => v = .bool r ∧ St w0 ρ ((.box pb0 101 ([] ++ (vcs (Value.int .u16) y0_0 ++ []))) :: Γ) w') := by
  rw [stage_block_flat_ejg.f] at H
  refine enter Tryz.func114 Tryz.ntmps114 rfl (by kernel_rfl) rfl <| Wr fun au ah => Oa rfl rfl <| O_nil (ah _ _ <| W_seq fun av ai => Wr fun aw aj => Om rfl rfl <| Om rfl rfl <| O_nil (aj _ _ <| W_block fun ax ak ay => W_loop (σ := Nat × Int) (fun (ab, aa) => [(0, .pointer (some ⟨pb0, 0, none⟩)), (5, .pointer (some ⟨pb0, 0, none⟩)), (6, .int .i64 aa)]) (fun (ab, aa) w => stage_block_flat_ejg.l1 ab y0_0 aa = some r ∧ St w0 ρ ((.box pb0 101 ([] ++ (vcs (Value.int .u16) y0_0 ++ []))) :: Γ) w) (fun s => s.1) (K0, 0) (S3 rfl rfl rfl) (Ai H hs) ?_))
  rintro ⟨ab, aa⟩ w az ⟨H, hs⟩ ac
  show W _ _ _ _ _ _ [(0, .pointer (some ⟨pb0, 0, none⟩)), (5, .pointer (some ⟨pb0, 0, none⟩)), (6, .int .i64 aa)] w
  cases ab with
  | zero => rw [stage_block_flat_ejg.l1] at H; cases H
  | succ ab =>
  rw [stage_block_flat_ejg.l1] at H
  refine Wr fun a0 al => O_y rfl (Y_lss rfl rfl) <| O_nil (al _ _ <| W_seq fun a1 am => W_if rfl (fun af => ?_) (fun af => ?_))
  ·rw [if_pos af] at H
   refine W_skip (am _ _ <| W_seq fun a2 an => W_block fun a3 a4 a5 => Wr fun a6 ao => O_y rfl (Y_nilp rfl) ?_)
   obtain ⟨ad, H⟩ := gd H
   refine O_y rfl (Y_ixArr un101 sz99 rfl rfl ad.1 ad.2) <| O_y rfl (Y_loadSeg (j := 0) ag99 hs rfl rfl ad.1 ad.2 rfl) <| Oa rfl rfl <| O_nil (ao _ _ <| Wr fun a7 ap => Om rfl rfl <| Om rfl rfl <| O_y rfl (Y_nilp rfl) ?_)
   obtain ⟨ae, H⟩ := gd H
   refine O_y rfl (Y_ixArr un101 sz99 rfl rfl ae.1 ae.2) <| O_y rfl (Y_loadSeg (j := 0) ag99 hs rfl rfl ae.1 ae.2 rfl) <| O_y rfl (Y_neq rfl rfl) <| O_nil (ap _ _ <| W_if rfl (fun ag => ?_) (fun ag => ?_))
   ·rw [if_pos ag] at H
    refine Wr fun a8 aq => Oa rfl rfl <| O_nil (aq _ _ <| W.weak [(2, _)] (S1 rfl) <| W_ret ?_)
    obtain rfl := sinj H
    exact ret1 rfl rfl ⟨rfl, hs⟩
   ·rw [if_neg ag] at H
    refine W_skip (an _ _ <| W_region <| O_y rfl (Y_add rfl rfl) <| Om rfl rfl <| O_nil (ac (ab, (IntKind.i64.wrap (aa + 1))) _ _ (S3 rfl rfl rfl) (Ai H hs) (Nat.lt_succ_self _)))
  ·rw [if_neg af] at H
   refine W_exit (ak _ _ (ai _ _ <| Wr fun a9 ar => Oa rfl rfl <| O_nil (ar _ _ <| W_ret ?_)))
   obtain rfl := sinj H
   exact ret1 rfl rfl ⟨rfl, hs⟩

def stage_made_mbk.j1 (a3 : List Bool → List (Vector Int 128) → Vector Int 128 → (List (Vector Int 128 × Int)) → Vector Int 8704 → Int → Int → Int → Option (Option Tab × Int)) (ac : Int) (av : List Bool) (aw : List (Vector Int 128)) (ap : Vector Int 128) (ay : List (Vector Int 128 × Int)) (aq : Vector Int 8704) (ar bc : Int) : Option (Option Tab × Int) := a3 av aw ap ay aq ar bc (IntKind.i64.wrap (ac + 1))
def stage_made_mbk.j2 (a3 : List Bool → List (Vector Int 128) → Vector Int 128 → (List (Vector Int 128 × Int)) → Vector Int 8704 → Int → Int → Int → Option (Option Tab × Int)) (aa : Vector Int 8704) (af ac : Int) (ao : Bool × Vector Int 128 × Int) (ah : List Bool) (ai : List (Vector Int 128)) (ak : List (Vector Int 128 × Int)) (ax : Int) : Option (Option Tab × Int) := if (0 : Int) ≤ ac ∧ ac < ((8704 : Nat) : Int) then (if ao.1 = true then (stage_made_mbk.j1 a3 ac ah ai (Vector.replicate 128 0 : Vector Int 128) ak (vset aa ac ax) ao.2.2 af) else (stage_made_mbk.j1 a3 ac ah ai ao.2.1 ak (vset aa ac ax) ao.2.2 (IntKind.i64.wrap ax))) else none
def stage_made_mbk.j3 (a3 : List Bool → List (Vector Int 128) → Vector Int 128 → (List (Vector Int 128 × Int)) → Vector Int 8704 → Int → Int → Int → Option (Option Tab × Int)) (ae : List Bool) (ab : List (Vector Int 128)) (ad : List (Vector Int 128 × Int)) (aa : Vector Int 8704) (af ac : Int) (ao : Bool × Vector Int 128 × Int) (a4 : Bool) : Option (Option Tab × Int) := if a4 = true then (if (0 : Int) ≤ ac ∧ ac < ((8704 : Nat) : Int) then (stage_made_mbk.j1 a3 ac ae ab ao.2.1 ad (vset aa ac (IntKind.u16.wrap af)) ao.2.2 af) else none) else (if (!((mget ad ao.2.1).isSome)) = true then (if ab.length + ([ao.2.1]).length ≤ most then ((stage_block_flat_ejg.f ao.2.1).bind fun bf => (if ae.length + ([bf]).length ≤ most then (stage_made_mbk.j2 a3 aa af ac ao (ae ++ ([bf])) (ab ++ ([ao.2.1])) (mput ad ao.2.1 (IntKind.u16.wrap (ab.length : Int))) (IntKind.u16.wrap (ab.length : Int))) else none)) else none) else (stage_made_mbk.j2 a3 aa af ac ao ae ab ad ((mget ad ao.2.1).getD 0)))
def stage_made_mbk.l1 : Nat → Option Tab → List Val → List Bool → List (Vector Int 128) → Vector Int 128 → (List (Vector Int 128 × Int)) → Vector Int 8704 → Int → Int → Int → Option (Option Tab × Int)
  | 0, _, _, _, _, _, _, _, _, _, _ => none
  | bb + 1, y0_0, y1_0, ae, ab, au, ad, aa, am, af, ac => if ac < 8704 then ((stage_Table_Over_1_aek.f (IntKind.i32.wrap (IntKind.i64.wrap (ac * 128))) au y0_0 y1_0 am).bind fun ao => (if (!ao.1) = true then (stage_made_mbk.j3 (stage_made_mbk.l1 bb y0_0 y1_0) ae ab ad aa af ac ao (decide (0 ≤ af))) else (stage_made_mbk.j3 (stage_made_mbk.l1 bb y0_0 y1_0) ae ab ad aa af ac ao false))) else (some ((some (⟨aa, ab, ae⟩ : Tab)), am))
def stage_made_mbk.f (y0_0 : Option Tab) (y1_0 : List Val) (y2_0 : Int) : Option (Option Tab × Int) := stage_made_mbk.l1 K0 y0_0 y1_0 ([] : List Bool) ([] : List (Vector Int 128)) (Vector.replicate 128 0 : Vector Int 128) ([] : List (Vector Int 128 × Int)) (Vector.replicate 8704 0 : Vector Int 8704) y2_0 (-1) 0
theorem stage_made_mbk.c {w0 w : World} {ρ : Hp} {Γ : List Item} {pb0 : Nat} {w0_0 : Value} {y0_0 : Option Tab} {pb1 : Nat} {w1_0 : Value} {y1_0 : List Val} {pb2 : Nat} {y2_0 : Int} (hs : St w0 ρ ((.box pb0 59 ([w0_0])) :: (.box pb1 23 ([w1_0])) :: (.box pb2 3 ([.int .i64 y2_0])) :: Γ) w) (g0_0 : PtrR rTab ρ w0_0 y0_0) (g1_0 : SlR rVal ρ w1_0 y1_0) {r : Option Tab × Int} (H : stage_made_mbk.f y0_0 y1_0 y2_0 = some r) : CallsR Tryz.prog 105 [.func (.func 106) #[] #[.pointer (some ⟨pb0, 0, none⟩), .pointer (some ⟨pb1, 0, none⟩), .pointer (some ⟨pb2, 0, none⟩)]] w (fun v w' => ∃ (ρ' : Hp) (v0 : Value), v = v0 ∧ Le ρ ρ' ∧ St w0 ρ' ((.box pb0 59 ([w0_0])) :: (.box pb1 23 ([w1_0])) :: (.box pb2 3 ([.int .i64 r.2])) :: Γ) w' ∧ PtrR rTab ρ' v0 r.1) := by
  rw [stage_made_mbk.f] at H
  refine enter Tryz.func105 Tryz.ntmps105 rfl (by kernel_rfl) rfl <| Wr fun eu df => Oa rfl rfl <| O_nil (df _ _ <| Wr fun ev dg => O_y rfl (Y_build0s zr105 pl105) <| O_boxN (cs := [] ++ (vcs (Value.int .u16) (Vector.replicate 8704 0 : Vector Int 8704) ++ [.slice none 0 0, .slice none 0 0])) hs rfl rfl (fun bg w hs => Oa rfl rfl <| O_nil (dg _ _ <| Wr fun ew dh => O_mapNew kv101.enc (Value.int .u16) hs rfl (fun bh w hs => ?_))))
  refine Oa rfl rfl <| O_nil (dh _ _ <| Wr fun ex di => Oa rfl rfl <| O_nil (di _ _ <| Wr fun ey dk => O_alloc zr101 hs rfl (fun bi w hs => O_nil (dk _ _ <| W_seq fun ez dl => Wr fun e0 dm => Om rfl rfl ?_))))
  refine O_nil (dm _ _ <| W_block fun e1 dn e2 => ?_)
  have hs := hs.rowNil 101 (Rep.arr (Value.int .u16) (one_int .u16) 128).sz
  have dp := RowR.nil (Rep.arr (Value.int .u16) (one_int .u16) 128) ρ
  have hs := hs.rowNil 4 Rep.bool.sz
  have dq := RowR.nil Rep.bool ρ
  refine W_loop (σ := Nat × List Bool × List (Vector Int 128) × Vector Int 128 × (List (Vector Int 128 × Int)) × Vector Int 8704 × Int × Int × Int × Value × List Value × Value × List Value) (fun (bb, ae, ab, au, ad, aa, am, af, ac, ag, al, aj, an) => [(0, .func (.func 106) #[] #[.pointer (some ⟨pb0, 0, none⟩), .pointer (some ⟨pb1, 0, none⟩), .pointer (some ⟨pb2, 0, none⟩)]), (3, .pointer (some ⟨bg, 0, none⟩)), (4, .map (some bh)), (5, .int .i64 af), (6, .pointer (some ⟨bi, 0, none⟩)), (14, .int .i64 ac)]) (fun (bb, ae, ab, au, ad, aa, am, af, ac, ag, al, aj, an) w => stage_made_mbk.l1 bb y0_0 y1_0 ae ab au ad aa am af ac = some r ∧ St w0 ρ ((.row ag 4 Rep.bool.sz ae.length al) :: (.row aj 101 ((Rep.arr (Value.int .u16) (one_int .u16) 128).sz) ab.length an) :: (.box bi 101 ([] ++ (vcs (Value.int .u16) au ++ []))) :: (.obj bh (mapObj kv101.enc (vs (Value.int .u16) ad))) :: (.box bg 105 ([] ++ (vcs (Value.int .u16) aa ++ [aj, ag]))) :: (.box pb0 59 ([w0_0])) :: (.box pb1 23 ([w1_0])) :: (.box pb2 3 ([.int .i64 am])) :: Γ) w ∧ RowR Rep.bool ρ al ae ∧ RowR (Rep.arr (Value.int .u16) (one_int .u16) 128) ρ an ab) (fun s => s.1) (K0, ([] : List Bool), ([] : List (Vector Int 128)), (Vector.replicate 128 0 : Vector Int 128), ([] : List (Vector Int 128 × Int)), (Vector.replicate 8704 0 : Vector Int 8704), y2_0, (-1), 0, (.slice none 0 0), ([]), (.slice none 0 0), ([])) (by repeat first | exact Sub.nil | refine Sub.cons rfl ?_) (Ai H (Ai hs (Ai dq dp))) ?_
  rintro ⟨bb, ae, ab, au, ad, aa, am, af, ac, ag, al, aj, an⟩ w e3 ⟨H, hs, a5, a6⟩ br
  show W _ _ _ _ _ _ [(0, .func (.func 106) #[] #[.pointer (some ⟨pb0, 0, none⟩), .pointer (some ⟨pb1, 0, none⟩), .pointer (some ⟨pb2, 0, none⟩)]), (3, .pointer (some ⟨bg, 0, none⟩)), (4, .map (some bh)), (5, .int .i64 af), (6, .pointer (some ⟨bi, 0, none⟩)), (14, .int .i64 ac)] w
  cases bb with
  | zero => rw [stage_made_mbk.l1] at H; cases H
  | succ bb =>
  rw [stage_made_mbk.l1] at H
  refine Wr fun e4 dr => O_y rfl (Y_lss rfl rfl) <| O_nil (dr _ _ <| W_seq fun e5 ds => W_if rfl (fun b7 => ?_) (fun b7 => ?_))
  ·rw [if_pos b7] at H
   refine W_skip (ds _ _ <| W_seqj fun dt du b8 => ?_)
   have b9 : ∀ (av : List Bool) (aw : List (Vector Int 128)) (ap : Vector Int 128) (ay : List (Vector Int 128 × Int)) (aq : Vector Int 8704) (ar bc : Int) (a7 : Value) (a8 : List Value) (a9 : Value) (ba : List Value) (w : World), stage_made_mbk.j1 (stage_made_mbk.l1 bb y0_0 y1_0) ac av aw ap ay aq ar bc = some r → St w0 ρ ((.row a7 4 Rep.bool.sz av.length a8) :: (.row a9 101 ((Rep.arr (Value.int .u16) (one_int .u16) 128).sz) aw.length ba) :: (.box bi 101 ([] ++ (vcs (Value.int .u16) ap ++ []))) :: (.obj bh (mapObj kv101.enc (vs (Value.int .u16) ay))) :: (.box bg 105 ([] ++ (vcs (Value.int .u16) aq ++ [a9, a7]))) :: (.box pb0 59 ([w0_0])) :: (.box pb1 23 ([w1_0])) :: (.box pb2 3 ([.int .i64 ar])) :: Γ) w → RowR Rep.bool ρ a8 av → RowR (Rep.arr (Value.int .u16) (one_int .u16) 128) ρ ba aw → dt [(0, .func (.func 106) #[] #[.pointer (some ⟨pb0, 0, none⟩), .pointer (some ⟨pb1, 0, none⟩), .pointer (some ⟨pb2, 0, none⟩)]), (3, .pointer (some ⟨bg, 0, none⟩)), (4, .map (some bh)), (5, .int .i64 bc), (6, .pointer (some ⟨bi, 0, none⟩)), (14, .int .i64 ac)] w := by
    intro av aw ap ay aq ar bc a7 a8 a9 ba w H hs bj bk
    rw [stage_made_mbk.j1] at H
    refine du _ _ <| W_region <| O_y rfl (Y_add rfl rfl) <| Om rfl rfl <| O_nil (br (bb, av, aw, ap, ay, aq, ar, bc, (IntKind.i64.wrap (ac + 1)), a7, a8, a9, ba) _ _ (by repeat first | exact Sub.nil | refine Sub.cons rfl ?_) (Ai H (Ai hs (Ai bj bk))) (Nat.lt_succ_self _))
   refine W_block fun e6 dv e7 => Wr fun e8 dw => Om rfl rfl <| Oa rfl rfl <| O_nil (dw _ _ <| Wr fun e9 dx => Om rfl rfl <| Om rfl rfl <| O_y rfl (Y_mul rfl rfl) <| O_y rfl (Y_conv un3 un21 rfl) ?_)
   have hs := hs.front 7 rfl
   have hs := hs.front 7 rfl
   have hs := hs.front 7 rfl
   have hs := hs.front 5 rfl
   obtain ⟨ao, ca, H⟩ := bnd H
   refine O_callv rfl rfl rfl (stage_Table_Over_1_aek.c hs g0_0 g1_0 ca) (fun fa w hpost => ?_)
   obtain ⟨rfl, hs⟩ := hpost
   have hs := hs.sink 5
   have hs := hs.sink 7
   have hs := hs.sink 7
   have hs := hs.sink 7
   refine Oa rfl rfl <| O_nil (dx _ _ <| W.weak [(0, _), (3, _), (4, _), (5, _), (6, _), (7, _), (8, _), (14, _)] (by repeat first | exact Sub.nil | refine Sub.cons rfl ?_) ?_)
   refine W_seq fun fb dy => W_seqj fun dz cb bx => ?_
   have bz : ∀ (a4 : Bool) (w : World), stage_made_mbk.j3 (stage_made_mbk.l1 bb y0_0 y1_0) ae ab ad aa af ac ao a4 = some r → St w0 ρ ((.row ag 4 Rep.bool.sz ae.length al) :: (.row aj 101 ((Rep.arr (Value.int .u16) (one_int .u16) 128).sz) ab.length an) :: (.box bi 101 ([] ++ (vcs (Value.int .u16) ao.2.1 ++ []))) :: (.obj bh (mapObj kv101.enc (vs (Value.int .u16) ad))) :: (.box bg 105 ([] ++ (vcs (Value.int .u16) aa ++ [aj, ag]))) :: (.box pb0 59 ([w0_0])) :: (.box pb1 23 ([w1_0])) :: (.box pb2 3 ([.int .i64 ao.2.2])) :: Γ) w → dz [(0, .func (.func 106) #[] #[.pointer (some ⟨pb0, 0, none⟩), .pointer (some ⟨pb1, 0, none⟩), .pointer (some ⟨pb2, 0, none⟩)]), (3, .pointer (some ⟨bg, 0, none⟩)), (4, .map (some bh)), (5, .int .i64 af), (6, .pointer (some ⟨bi, 0, none⟩)), (7, .int .i64 ac), (8, .bool ao.1), (14, .int .i64 ac), (27, .bool a4)] w := by
    intro a4 w H hs
    rw [stage_made_mbk.j3] at H
    refine cb _ _ <| W_cond rfl (fun bs => ?_) (fun bs => ?_)
    ·rw [if_pos bs] at H
     refine Wr fun ea cc => Om rfl rfl <| Om rfl rfl <| Om rfl rfl <| O_y rfl (Y_conv un3 un99 rfl) <| O_y rfl (Y_nilp rfl) <| O_y rfl (Y_field fo105_0 rfl) ?_
     obtain ⟨bm, H⟩ := gd H
     refine O_y rfl (Y_ixArr un102 sz99 rfl rfl bm.1 bm.2) <| O_storeSeg (j := 4) (u := IntKind.u16.wrap af) sz99 (one_int .u16) hs rfl rfl bm.1 bm.2 rfl rfl (fun w hs => O_nil (cc _ _ <| W.weak [(0, _), (3, _), (4, _), (5, _), (6, _), (14, _)] (by repeat first | exact Sub.nil | refine Sub.cons rfl ?_) ?_))
     exact W_exit (dv _ _ (b8 _ _ _ (by repeat first | exact Sub.nil | refine Sub.cons rfl ?_) (b9 ae ab ao.2.1 ad (vset aa ac (IntKind.u16.wrap af)) ao.2.2 af ag al aj an _ H hs a5 a6)))
    ·rw [if_neg (bft bs)] at H
     refine W_skip (dy _ _ <| Wr fun eb cd => Om rfl rfl <| O_y rfl (Y_loadArr (j := 2) ag101 sz101 hs rfl rfl) <| O_y rfl (Y_mapGet2 (i := 3) (m := ad) (x := ao.2.1) (E := (Value.int .u16)) un167 kv101 trivial (fun _ _ => trivial) zv99 hs rfl rfl rfl) <| Om rfl rfl <| O_y rfl (Y_extract rfl rfl) <| O_y rfl (Y_extract rfl rfl) <| Oa rfl rfl <| Oa rfl rfl <| O_nil (cd _ _ <| W.weak [(0, _), (3, _), (4, _), (5, _), (6, _), (7, _), (8, _), (9, _), (10, _), (14, _)] (by repeat first | exact Sub.nil | refine Sub.cons rfl ?_) ?_))
     refine W_seqj fun ce cf b0 => ?_
     have b1 : ∀ (ah : List Bool) (ai : List (Vector Int 128)) (ak : List (Vector Int 128 × Int)) (ax : Int) (az : Value) (a0 : List Value) (a1 : Value) (a2 : List Value) (w : World), stage_made_mbk.j2 (stage_made_mbk.l1 bb y0_0 y1_0) aa af ac ao ah ai ak ax = some r → St w0 ρ ((.row az 4 Rep.bool.sz ah.length a0) :: (.row a1 101 ((Rep.arr (Value.int .u16) (one_int .u16) 128).sz) ai.length a2) :: (.box bi 101 ([] ++ (vcs (Value.int .u16) ao.2.1 ++ []))) :: (.obj bh (mapObj kv101.enc (vs (Value.int .u16) ak))) :: (.box bg 105 ([] ++ (vcs (Value.int .u16) aa ++ [a1, az]))) :: (.box pb0 59 ([w0_0])) :: (.box pb1 23 ([w1_0])) :: (.box pb2 3 ([.int .i64 ao.2.2])) :: Γ) w → RowR Rep.bool ρ a0 ah → RowR (Rep.arr (Value.int .u16) (one_int .u16) 128) ρ a2 ai → ce [(0, .func (.func 106) #[] #[.pointer (some ⟨pb0, 0, none⟩), .pointer (some ⟨pb1, 0, none⟩), .pointer (some ⟨pb2, 0, none⟩)]), (3, .pointer (some ⟨bg, 0, none⟩)), (4, .map (some bh)), (5, .int .i64 af), (6, .pointer (some ⟨bi, 0, none⟩)), (7, .int .i64 ac), (8, .bool ao.1), (9, .int .u16 ax), (14, .int .i64 ac)] w := by
      intro ah ai ak ax az a0 a1 a2 w H hs bd be
      rw [stage_made_mbk.j2] at H
      refine cf _ _ <| Wr fun ec cg => Om rfl rfl <| Om rfl rfl <| Om rfl rfl <| O_y rfl (Y_nilp rfl) <| O_y rfl (Y_field fo105_0 rfl) ?_
      obtain ⟨bn, H⟩ := gd H
      refine O_y rfl (Y_ixArr un102 sz99 rfl rfl bn.1 bn.2) <| O_storeSeg (j := 4) (u := ax) sz99 (one_int .u16) hs rfl rfl bn.1 bn.2 rfl rfl (fun w hs => O_nil (cg _ _ <| W.weak [(0, _), (3, _), (4, _), (5, _), (6, _), (8, _), (9, _), (14, _)] (by repeat first | exact Sub.nil | refine Sub.cons rfl ?_) ?_))
      refine Wr fun ed ch => Om rfl rfl <| O_nil (ch _ _ <| W_cond rfl (fun bt => ?_) (fun bt => ?_))
      ·rw [if_pos bt] at H
       refine W_region <| O_y rfl (Y_build0a (zs := vcs (Value.int .u16) (Vector.replicate 128 0 : Vector Int 128)) un101 sz99 zb101) <| O_storeArr (j := 2) (u := (Vector.replicate 128 0 : Vector Int 128)) sz101 (one_int .u16) hs rfl rfl rfl (fun w hs => O_nil (b8 _ _ _ (by repeat first | exact Sub.nil | refine Sub.cons rfl ?_) (b9 ah ai (Vector.replicate 128 0 : Vector Int 128) ak (vset aa ac ax) ao.2.2 af az a0 a1 a2 _ H hs bd be)))
      ·rw [if_neg (bft bt)] at H
       refine W_region <| Om rfl rfl <| O_y rfl (Y_conv un99 un3 rfl) <| Oa rfl rfl <| O_nil (b8 _ _ _ (by repeat first | exact Sub.nil | refine Sub.cons rfl ?_) (b9 ah ai ao.2.1 ak (vset aa ac ax) ao.2.2 (IntKind.i64.wrap ax) az a0 a1 a2 _ H hs bd be))
     refine Wr fun ee ci => Om rfl rfl <| O_y rfl (Y_not rfl) <| O_nil (ci _ _ <| W_cond rfl (fun bu => ?_) (fun bu => ?_))
     ·rw [if_pos bu] at H
      refine Wr fun ef cj => Om rfl rfl <| O_y rfl (Y_nilp rfl) <| O_y rfl (Y_field fo105_1 rfl) <| O_y rfl (Yb 4 ag103 hs rfl (seg_beh (q := 0) rfl rfl) rfl) <| O_y rfl (Y_lenRow (i := 1) un103 hs rfl rfl) <| O_y rfl (Y_conv un3 un99 rfl) <| Oa rfl rfl <| O_nil (cj _ _ <| W.weak [(0, _), (3, _), (4, _), (5, _), (6, _), (7, _), (8, _), (9, _), (14, _)] (by repeat first | exact Sub.nil | refine Sub.cons rfl ?_) ?_)
      refine Wr fun eg ck => Om rfl rfl <| O_y rfl (Y_loadArr (j := 2) ag101 sz101 hs rfl rfl) <| Om rfl rfl <| O_mapPut (i := 3) (m := ad) (x := ao.2.1) (v := IntKind.u16.wrap (ab.length : Int)) (E := (Value.int .u16)) un167 kv101 trivial (fun _ _ => trivial) hs rfl rfl rfl rfl (fun w hs => O_nil (ck _ _ <| W_seq fun eh cl => W_drawS 11 [0, 0, 2, 4, 8, 0, 32, 80, 255, 511, 767] [254, 249, 241, 225, 97, 159, 31, 1, 1024, 0, 0] [0, 0, 2, 6, 14, 0, 32, 126, 255, 511, 1023] [7, 8, 9, 10] (fun w => St w0 ρ ((.row ag 4 Rep.bool.sz ae.length al) :: (.row aj 101 ((Rep.arr (Value.int .u16) (one_int .u16) 128).sz) ab.length an) :: (.box bi 101 ([] ++ (vcs (Value.int .u16) ao.2.1 ++ []))) :: (.obj bh (mapObj kv101.enc (vs (Value.int .u16) (mput ad ao.2.1 (IntKind.u16.wrap (ab.length : Int)))))) :: (.box bg 105 ([] ++ (vcs (Value.int .u16) aa ++ [aj, ag]))) :: (.box pb0 59 ([w0_0])) :: (.box pb1 23 ([w1_0])) :: (.box pb2 3 ([.int .i64 ao.2.2])) :: Γ) w) mixed (by kernel_rfl) (fun sh => ?_)))
      have hs := hs.drew
      refine Dm 0 sh rfl rfl (by kernel_rfl) rfl <| Dm 1 sh rfl rfl (by kernel_rfl) rfl <| Dp 2 sh rfl rfl (by kernel_rfl) (fun w => Y_nilp rfl) <| Dp 3 sh rfl rfl (by kernel_rfl) (fun w => Y_field fo105_1 rfl) <| Dy 4 sh rfl rfl (by kernel_rfl) hs (fun w hs => Yb 4 ag103 hs rfl (seg_beh (q := 0) rfl rfl) rfl) <| Dy 5 sh rfl rfl (by kernel_rfl) hs (fun w hs => Y_loadArr (j := 2) ag101 sz101 hs rfl rfl) <| D1 6 sh rfl (by kernel_rfl) (fun ei cm => O_lit2 (xs := [.tmp 57]) (cs := vcs (Value.int .u16) ao.2.1 ++ ([])) el103 hs rfl rfl rfl (by decide) (by decide) rfl (sz_cons (vcs_csize _ _) sz_nil) (flat_cons rfl flat_nil) (fun cn w hs => ?_))
      have b2 : RowR (Rep.arr (Value.int .u16) (one_int .u16) 128) ρ (vcs (Value.int .u16) ao.2.1 ++ ([])) [ao.2.1] := RowR.cons (c := vcs (Value.int .u16) ao.2.1) (x := ao.2.1) rfl (RowR.nil _ _)
      refine O_nil (cm _ _ (fun _ _ => (hs.sub (ssk (ssc (ssc (ssc (ssc (ssc (ssc (ssc (ssc ssr))))))))))) ?_)
      obtain ⟨co, H⟩ := gd H
      refine D1 7 sh rfl (by kernel_rfl) (fun ej cp => O_appendR (i := 2) el103 hs rfl a6 rfl rfl rfl (Src.lit (j := 0) hs rfl b2) b2 co (fun bv bo w cq hs => O_nil (cp _ _ (fun _ _ => by first | contradiction | (rename_i h; cases h)) <| OD_resetS sh [10] hs (by kernel_rfl) <| Dp 8 sh rfl rfl (by kernel_rfl) (fun w => Y_nilp rfl) <| Dp 9 sh rfl rfl (by kernel_rfl) (fun w => Y_field fo105_1 rfl) <| D1 10 sh rfl (by kernel_rfl) (fun ek cr => O_storeBeh (j := 5) (q := 0) sz103 hs rfl rfl rfl rfl rfl (St.rowOne hs (j := 2) rfl) (fun w hs => O_nil (cr _ _ (fun _ _ => by first | contradiction | (rename_i h; cases h)) <| OD_doneS sh (by kernel_rfl) (cl _ _ <| W.weak [(0, _), (3, _), (4, _), (5, _), (6, _), (7, _), (8, _), (9, _), (14, _)] (by repeat first | exact Sub.nil | refine Sub.cons rfl ?_) ?_)))))))
      refine W_drawS 11 [0, 0, 2, 4, 8, 0, 32, 112, 255, 511, 767] [254, 249, 241, 225, 97, 31, 31, 1, 1024, 0, 0] [0, 0, 2, 6, 14, 0, 32, 126, 255, 511, 1023] [7, 8, 9, 10] (fun w => St w0 ρ ((.row (.slice (some ⟨cn, 0, none⟩) 1 1) 101 ((Rep.arr (Value.int .u16) (one_int .u16) 128).sz) (([ao.2.1]).length) (vcs (Value.int .u16) ao.2.1 ++ ([]))) :: (.row ag 4 Rep.bool.sz ae.length al) :: (.row bv 101 ((Rep.arr (Value.int .u16) (one_int .u16) 128).sz) ((ab ++ ([ao.2.1])).length) bo) :: (.box bi 101 ([] ++ (vcs (Value.int .u16) ao.2.1 ++ []))) :: (.obj bh (mapObj kv101.enc (vs (Value.int .u16) (mput ad ao.2.1 (IntKind.u16.wrap (ab.length : Int)))))) :: (.box bg 105 ([] ++ (vcs (Value.int .u16) aa ++ [bv, ag]))) :: (.box pb0 59 ([w0_0])) :: (.box pb1 23 ([w1_0])) :: (.box pb2 3 ([.int .i64 ao.2.2])) :: Γ) w) mixed (by kernel_rfl) (fun sh => ?_)
      have hs := hs.drew
      refine Dm 0 sh rfl rfl (by kernel_rfl) rfl <| Dm 1 sh rfl rfl (by kernel_rfl) rfl <| Dp 2 sh rfl rfl (by kernel_rfl) (fun w => Y_nilp rfl) <| Dp 3 sh rfl rfl (by kernel_rfl) (fun w => Y_field fo105_2 rfl) <| Dy 4 sh rfl rfl (by kernel_rfl) hs (fun w hs => Yb 5 ag68 hs rfl (seg_beh (q := 1) rfl rfl) rfl) <| D1 5 sh rfl (by kernel_rfl) (fun el ct => ?_)
      have hs := hs.front 3 rfl
      obtain ⟨bf, b3, H⟩ := bnd H
      refine O_call rfl rfl (stage_block_flat_ejg.c hs b3) (fun em w hpost => ?_)
      obtain ⟨rfl, hs⟩ := hpost
      have hs := hs.sink 3
      refine O_nil (ct _ _ (fun _ _ => hs) <| D1 6 sh rfl (by kernel_rfl) (fun en cu => O_lit2 (xs := [.tmp 67]) (cs := [.bool bf]) el68 hs rfl rfl rfl (by decide) (by decide) rfl (sz_cons rfl sz_nil) (flat_cons rfl flat_nil) (fun eo w hs => ?_)))
      have b4 : RowR Rep.bool ρ ([.bool bf]) [bf] := RowR.cons (c := [.bool bf]) (x := bf) rfl (RowR.nil _ _)
      refine O_nil (cu _ _ (fun _ _ => (hs.sub (ssk (ssc (ssc (ssc (ssc (ssc (ssc (ssc (ssc (ssc ssr)))))))))))) ?_)
      obtain ⟨cv, H⟩ := gd H
      refine D1 7 sh rfl (by kernel_rfl) (fun ep cw => O_appendR (i := 2) el68 hs rfl a5 rfl rfl rfl (Src.lit (j := 0) hs rfl b4) b4 cv (fun cx b5 w cy hs => O_nil (cw _ _ (fun _ _ => by first | contradiction | (rename_i h; cases h)) <| OD_resetS sh [10] hs (by kernel_rfl) <| Dp 8 sh rfl rfl (by kernel_rfl) (fun w => Y_nilp rfl) <| Dp 9 sh rfl rfl (by kernel_rfl) (fun w => Y_field fo105_2 rfl) <| D1 10 sh rfl (by kernel_rfl) (fun eq cz => O_storeBeh (j := 6) (q := 1) sz68 hs rfl rfl rfl rfl rfl (St.rowOne hs (j := 2) rfl) (fun w hs => O_nil (cz _ _ (fun _ _ => by first | contradiction | (rename_i h; cases h)) <| OD_doneS sh (by kernel_rfl) (b0 _ _ _ (by repeat first | exact Sub.nil | refine Sub.cons rfl ?_) (b1 (ae ++ ([bf])) (ab ++ ([ao.2.1])) (mput ad ao.2.1 (IntKind.u16.wrap (ab.length : Int))) (IntKind.u16.wrap (ab.length : Int)) cx b5 bv bo _ H (hs.sub (ssk (ssk (ssc (ssc (ssc (ssc (ssc (ssc (ssc (ssc ssr))))))))))) cy cq))))))))
     ·rw [if_neg (bft bu)] at H
      exact W_skip (b0 _ _ _ (by repeat first | exact Sub.nil | refine Sub.cons rfl ?_) (b1 ae ab ad ((mget ad ao.2.1).getD 0) ag al aj an _ H hs a5 a6))
   refine W_region <| Om rfl rfl <| O_y rfl (Y_not rfl) <| Om rfl rfl <| O_cases (dj := 24) rfl (fun bw => ?_) (fun bw => ?_)
   ·rw [if_pos bw] at H
    refine O_yes rfl rfl <| Om rfl rfl <| O_yes rfl rfl <| O_y rfl (Y_geq rfl rfl) <| O_y rfl (Y_pick_t rfl rfl) <| O_nil (bx _ _ _ (by repeat first | exact Sub.nil | refine Sub.cons rfl ?_) (bz (decide (0 ≤ af)) _ H hs))
   ·rw [if_neg (bft bw)] at H
    refine O_no rfl rfl rfl rfl <| O_no rfl rfl rfl rfl <| O_y rfl (Y_pick_f rfl rfl) <| O_nil (bx _ _ _ (by repeat first | exact Sub.nil | refine Sub.cons rfl ?_) (bz false _ H hs))
  ·rw [if_neg b7] at H
   refine W_exit (dn _ _ (dl _ _ <| Wr fun er da => Om rfl rfl <| Oa rfl rfl <| O_nil (da _ _ <| W_ret ?_)))
   obtain ⟨es, bp, hs, db⟩ := hs.rowEnd (j := 1) a6 rfl
   obtain ⟨et, bq, hs, dc⟩ := hs.rowEnd (j := 0) (a5.mono bp) rfl
   obtain ⟨dd, bl, hs, b6⟩ := hs.boxEnd (j := 2) rfl
   have de : PtrR rTab dd (.pointer (some ⟨bg, 0, none⟩)) (some (⟨aa, ab, ae⟩ : Tab)) := .inr ⟨bg, _, rfl, rfl, _, ⟨_, _, rfl, (db.mono (bq.trans bl)), (dc.mono bl)⟩, b6⟩
   obtain rfl := sinj H
   exact ret1 rfl rfl ⟨_, _, rfl, ((bp.trans bq).trans bl), (hs.sub (ssk (ssk (ssc (ssc (ssc ssr)))))), de⟩

def stage_Table_Over.f (x0 : Option Tab) (x1 : List Val) : Option (Option Tab × Int × Int) := (stage_check.f x1).bind fun aa => (if aa.2 ≠ 0 then (some (none, aa.1, aa.2)) else ((stage_made_mbk.f x0 x1 0).bind fun af => (some (af.1, 0, 0))))
theorem stage_Table_Over.c {w0 w : World} {ρ : Hp} {Γ : List Item} (hs : St w0 ρ (Γ) w) {v0 : Value} {x0 : Option Tab} (h0 : PtrR rTab ρ v0 x0) {v1 : Value} {x1 : List Val} (h1 : SlR rVal ρ v1 x1) {r : Option Tab × Int × Int} (H : stage_Table_Over.f x0 x1 = some r) : CallsR Tryz.prog 85 [v0, v1] w (fun v w' => ∃ (ρ' : Hp) (v0 : Value), v = .tuple #[v0, .int .i64 r.2.1, .int .i64 r.2.2] ∧ Le ρ ρ' ∧ St w0 ρ' (Γ) w' ∧ PtrR rTab ρ' v0 r.1) := by
  rw [stage_Table_Over.f] at H
  refine enter Tryz.func85 Tryz.ntmps85 rfl (by kernel_rfl) rfl <| Wr fun ap ag => O_box1 hs rfl rfl h0.one (fun aq w hs => O_box1 hs rfl rfl h1.one (fun ar w hs => Oa rfl rfl <| Oa rfl rfl <| Oa rfl rfl <| O_nil (ag _ _ <| W_seq fun au ah => Wr fun av ai => O_y rfl (Yb 0 ag23 hs rfl rfl rfl) ?_)))
  obtain ⟨aa, ab, H⟩ := bnd H
  refine O_call rfl rfl (stage_check.c hs h1 ab) (fun aw w hpost => ?_)
  obtain ⟨rfl, hs⟩ := hpost
  refine Om rfl rfl <| O_y rfl (Y_extract rfl rfl) <| O_y rfl (Y_extract rfl rfl) <| Oa rfl rfl <| Oa rfl rfl <| O_nil (ai _ _ <| Wr fun ax aj => Om rfl rfl <| O_y rfl (Y_neq rfl rfl) <| O_nil (aj _ _ <| W.weak [(2, _), (3, _), (7, _), (8, _), (16, _)] (by repeat first | exact Sub.nil | refine Sub.cons rfl ?_) ?_))
  refine W_if rfl (fun ac => ?_) (fun ac => ?_)
  ·rw [if_pos ac] at H
   refine Wr fun ay ak => Om rfl rfl <| Om rfl rfl <| Oa rfl rfl <| Oa rfl rfl <| Oa rfl rfl <| O_nil (ak _ _ <| W_ret ?_)
   have al : PtrR rTab ρ (.pointer none) none := PtrR.nil _ _
   obtain rfl := sinj H
   exact ret3 rfl rfl rfl rfl ⟨_, _, rfl, Le.rfl' _, (hs.sub (ssk (ssk ssr))), al⟩
  ·rw [if_neg ac] at H
   refine W_skip (ah _ _ <| Wr fun az am => O_alloc zr3 hs rfl (fun a0 w hs => O_store (i := 0) sz3 hs rfl rfl rfl rfl rfl (fun w hs => O_nil (am _ _ <| Wr fun a1 an => O_y rfl (Y_func rfl) ?_))))
   have hs := hs.front 1 rfl
   have hs := hs.front 2 rfl
   obtain ⟨af, ad, H⟩ := bnd H
   refine O_call rfl rfl (stage_made_mbk.c hs h0 h1 ad) (fun a2 w hpost => ?_)
   obtain ⟨a3, a4, rfl, ae, hs, ao⟩ := hpost
   have hs := hs.sink 2
   have hs := hs.sink 1
   refine Oa rfl rfl <| Oa rfl rfl <| Oa rfl rfl <| O_nil (an _ _ <| W_ret ?_)
   obtain rfl := sinj H
   exact ret3 rfl rfl rfl rfl ⟨_, _, rfl, ae, (hs.sub (ssk (ssk (ssk ssr)))), ao⟩

def stage_Build.f (x0 : List Val) : Option (Option Tab × Int × Int) := (stage_Table_Over.f none x0).bind fun aa => (some (aa.1, aa.2.1, aa.2.2))
theorem stage_Build.c {w0 w : World} {ρ : Hp} {Γ : List Item} (hs : St w0 ρ (Γ) w) {v0 : Value} {x0 : List Val} (h0 : SlR rVal ρ v0 x0) {r : Option Tab × Int × Int} (H : stage_Build.f x0 = some r) : CallsR Tryz.prog 42 [v0] w (fun v w' => ∃ (ρ' : Hp) (v0 : Value), v = .tuple #[v0, .int .i64 r.2.1, .int .i64 r.2.2] ∧ Le ρ ρ' ∧ St w0 ρ' (Γ) w' ∧ PtrR rTab ρ' v0 r.1) := by
  rw [stage_Build.f] at H
  refine enter Tryz.func42 Tryz.ntmps42 rfl (by kernel_rfl) rfl <| Wr fun ah ad => Oa rfl rfl <| Oa rfl rfl <| Oa rfl rfl <| O_nil (ad _ _ <| Wr fun ai ae => Om rfl rfl ?_)
  have af : PtrR rTab ρ (.pointer none) none := PtrR.nil _ _
  obtain ⟨aa, ab, H⟩ := bnd H
  refine O_call rfl rfl (stage_Table_Over.c hs af h0 ab) (fun aj w hpost => ?_)
  obtain ⟨ak, al, rfl, ac, hs, ag⟩ := hpost
  refine O_y rfl (Y_extract rfl rfl) <| O_y rfl (Y_extract rfl rfl) <| O_y rfl (Y_extract rfl rfl) <| Oa rfl rfl <| Oa rfl rfl <| Oa rfl rfl <| O_nil (ae _ _ <| W_ret ?_)
  obtain rfl := sinj H
  exact ret3 rfl rfl rfl rfl ⟨_, _, rfl, ac, hs, ag⟩

def book_Compile_1.f (x0 : List Val) : Option (Option Tab) := (stage_Build.f x0).bind fun ac => (some ac.1)
theorem book_Compile_1.c {w0 w : World} {ρ : Hp} {Γ : List Item} (hs : St w0 ρ (Γ) w) {v0 : Value} {x0 : List Val} (h0 : SlR rVal ρ v0 x0) {r : Option Tab} (H : book_Compile_1.f x0 = some r) : CallsR Tryz.prog 41 [v0] w (fun v w' => ∃ (ρ' : Hp) (v0 : Value), v = v0 ∧ Le ρ ρ' ∧ St w0 ρ' (Γ) w' ∧ PtrR rTab ρ' v0 r) := by
  rw [book_Compile_1.f] at H
  refine enter Tryz.func41 Tryz.ntmps41 rfl (by kernel_rfl) rfl <| Wr fun ah ad => Oa rfl rfl <| O_nil (ad _ _ <| Wr fun ai ae => Om rfl rfl ?_)
  obtain ⟨ac, aa, H⟩ := bnd H
  refine O_call rfl rfl (stage_Build.c hs h0 aa) (fun aj w hpost => ?_)
  obtain ⟨ak, al, rfl, ab, hs, af⟩ := hpost
  refine Om rfl rfl <| O_y rfl (Y_extract rfl rfl) <| O_y rfl (Y_extract rfl rfl) <| O_y rfl (Y_extract rfl rfl) <| Oa rfl rfl <| Oa rfl rfl <| Oa rfl rfl <| O_nil (ae _ _ <| Wr fun am ag => Om rfl rfl <| Oa rfl rfl <| O_nil (ag _ _ <| W_ret ?_))
  obtain rfl := sinj H
  exact ret1 rfl rfl ⟨_, _, rfl, ab, hs, af⟩

def book_marked.l1 : Nat → List Spn → List Val → Int → Option (Option Tab)
  | 0, _, _, _ => none
  | ae + 1, x0, ab, aa => if aa < (x0.length : Int) then (if (0 : Int) ≤ aa ∧ aa < (x0.length : Int) then (if ab.length + ([(⟨(rd x0 aa).lo, (rd x0 aa).hi, 1⟩ : Val)]).length ≤ most then ((book_marked.l1 ae x0) (ab ++ ([(⟨(rd x0 aa).lo, (rd x0 aa).hi, 1⟩ : Val)])) (IntKind.i64.wrap (aa + 1))) else none) else none) else ((stage_Build.f ab).bind fun ao => (some ao.1))
def book_marked.f (x0 : List Spn) : Option (Option Tab) := book_marked.l1 K0 x0 ([] : List Val) 0
theorem book_marked.c {w0 w : World} {ρ : Hp} {Γ : List Item} (hs : St w0 ρ (Γ) w) {v0 : Value} {x0 : List Spn} (h0 : SlR rSpn ρ v0 x0) {r : Option Tab} (H : book_marked.f x0 = some r) : CallsR Tryz.prog 43 [v0] w (fun v w' => ∃ (ρ' : Hp) (v0 : Value), v = v0 ∧ Le ρ ρ' ∧ St w0 ρ' (Γ) w' ∧ PtrR rTab ρ' v0 r) := by
  rw [book_marked.f] at H
  refine enter Tryz.func43 Tryz.ntmps43 rfl (by kernel_rfl) rfl <| Wr fun bf ar => Oa rfl rfl <| O_nil (ar _ _ <| Wr fun bg au => Oa rfl rfl ?_)
  have hs := hs.rowNil 108 rVal.sz
  have av := RowR.nil rVal ρ
  refine O_nil (au _ _ <| W_seq fun bh aw => Wr fun bi ax => Om rfl rfl <| O_y rfl (Y_lenR un25 h0 rfl) <| Om rfl rfl <| O_nil (ax _ _ <| W_block fun bj ay bk => W_loop (σ := Nat × List Val × Int × Value × List Value) (fun (ae, ab, aa, ac, ad) => [(3, ac), (9, v0), (10, .int .i64 (x0.length : Int)), (11, .int .i64 aa)]) (fun (ae, ab, aa, ac, ad) w => book_marked.l1 ae x0 ab aa = some r ∧ St w0 ρ ((.row ac 108 rVal.sz ab.length ad) :: Γ) w ∧ RowR rVal ρ ad ab) (fun s => s.1) (K0, ([] : List Val), 0, (.slice none 0 0), ([])) (S4 rfl rfl rfl rfl) (Ai H (Ai hs av)) ?_))
  rintro ⟨ae, ab, aa, ac, ad⟩ w bl ⟨H, hs, af⟩ ag
  show W _ _ _ _ _ _ [(3, ac), (9, v0), (10, .int .i64 (x0.length : Int)), (11, .int .i64 aa)] w
  cases ae with
  | zero => rw [book_marked.l1] at H; cases H
  | succ ae =>
  rw [book_marked.l1] at H
  refine Wr fun bm az => O_y rfl (Y_lss rfl rfl) <| O_nil (az _ _ <| W_seq fun bn a0 => W_if rfl (fun aj => ?_) (fun aj => ?_))
  ·rw [if_pos aj] at H
   refine W_skip (a0 _ _ <| W_seq fun bo a1 => W_block fun bp bq br => W_seq fun bs a2 => W_region ?_)
   obtain ⟨ap, H⟩ := gd H
   obtain ⟨bt, bu, a3, a4⟩ := h0.ix el25 ap.1 ap.2
   obtain ⟨_, rfl, a5⟩ := a3
   refine O_y rfl (a4 rfl rfl) <| O_y rfl (Y_loadN ag110 sz110 rfl rfl (fun j u hu => hs.see (a5 j u hu))) <| O_alloc zr110 hs rfl (fun bv w hs => O_storeN (i := 0) sz110 hs rfl rfl rfl rfl rfl (one_cons rfl (one_cons rfl one_nil)) (fun w hs => O_nil (a2 _ _ <| W_region <| Om rfl rfl <| O_y rfl (Y_field fo110_0 rfl) <| O_y rfl (Yb 0 ag21 hs rfl rfl rfl) <| O_y rfl (Y_field fo110_1 rfl) <| O_y rfl (Yb 0 ag21 hs rfl rfl rfl) <| O_y rfl (Y_build (cs := [.int .i32 ((rd x0 aa).lo), .int .i32 ((rd x0 aa).hi), .int .i64 1]) zr108 pl108 ((Parts.cons rfl rfl (Parts.cons rfl rfl (Parts.cons rfl rfl Parts.nil)))) ag108 (by kernel_rfl)) <| O_lit2 (xs := [.tmp 20]) (cs := [.int .i32 ((rd x0 aa).lo), .int .i32 ((rd x0 aa).hi), .int .i64 1]) el23 hs rfl rfl rfl (by decide) (by decide) rfl (sz_cons rfl sz_nil) (flat_cons rfl flat_nil) (fun bw w hs => ?_))))
   have aq : RowR rVal ρ ([.int .i32 ((rd x0 aa).lo), .int .i32 ((rd x0 aa).hi), .int .i64 1]) [(⟨(rd x0 aa).lo, (rd x0 aa).hi, 1⟩ : Val)] := RowR.cons (c := [.int .i32 ((rd x0 aa).lo), .int .i32 ((rd x0 aa).hi), .int .i64 1]) (x := (⟨(rd x0 aa).lo, (rd x0 aa).hi, 1⟩ : Val)) rfl (RowR.nil _ _)
   obtain ⟨a6, H⟩ := gd H
   refine O_appendR (i := 2) el23 hs rfl af rfl rfl rfl (Src.lit (j := 0) hs rfl aq) aq a6 (fun a7 ak w a8 hs => Oa rfl rfl <| O_nil (a1 _ _ <| W.weak [(3, _), (9, _), (10, _), (11, _)] (S4 rfl rfl rfl rfl) <| W_region <| O_y rfl (Y_add rfl rfl) <| Om rfl rfl <| O_nil (ag (ae, (ab ++ ([(⟨(rd x0 aa).lo, (rd x0 aa).hi, 1⟩ : Val)])), (IntKind.i64.wrap (aa + 1)), a7, ak) _ _ (S4 rfl rfl rfl rfl) (Ai H (Ai (hs.sub (ssk (ssk (ssc ssr)))) a8)) (Nat.lt_succ_self _))))
  ·rw [if_neg aj] at H
   refine W_exit (ay _ _ (aw _ _ <| W_seq fun bx a9 => ?_))
   obtain ⟨bz, al, hs, ba⟩ := hs.rowEnd (j := 0) af rfl
   refine W_region <| Om rfl rfl ?_
   obtain ⟨ao, ah, H⟩ := bnd H
   refine O_call rfl rfl (stage_Build.c hs ba ah) (fun bb w hpost => ?_)
   obtain ⟨bc, bd, rfl, ai, hs, am⟩ := hpost
   refine Om rfl rfl <| O_y rfl (Y_extract rfl rfl) <| O_y rfl (Y_extract rfl rfl) <| O_y rfl (Y_extract rfl rfl) <| Oa rfl rfl <| Oa rfl rfl <| Oa rfl rfl <| O_nil (a9 _ _ <| Wr fun be an => Om rfl rfl <| Oa rfl rfl <| O_nil (an _ _ <| W.weak [(2, _)] (S1 rfl) ?_))
   refine W_ret ?_
   obtain rfl := sinj H
   exact ret1 rfl rfl ⟨_, _, rfl, (al.trans ai), hs, am⟩

def book_numbered_api_Chars_fhb.l1 : Nat → List Chs → List Val → Int → Option (Option Tab)
  | 0, _, _, _ => none
  | af + 1, x0, ab, aa => if aa < (x0.length : Int) then (if (0 : Int) ≤ aa ∧ aa < (x0.length : Int) then ((book_ofChars.f (rd x0 aa)).bind fun ae => (if ab.length + ([(⟨ae.lo, ae.hi, IntKind.i64.wrap (aa + 1)⟩ : Val)]).length ≤ most then ((book_numbered_api_Chars_fhb.l1 af x0) (ab ++ ([(⟨ae.lo, ae.hi, IntKind.i64.wrap (aa + 1)⟩ : Val)])) (IntKind.i64.wrap (aa + 1))) else none)) else none) else ((stage_Build.f ab).bind fun ak => (some ak.1))
def book_numbered_api_Chars_fhb.f (x0 : List Chs) : Option (Option Tab) := book_numbered_api_Chars_fhb.l1 K0 x0 ([] : List Val) 0
theorem book_numbered_api_Chars_fhb.c {w0 w : World} {ρ : Hp} {Γ : List Item} (hs : St w0 ρ (Γ) w) {v0 : Value} {x0 : List Chs} (h0 : SlR rChs ρ v0 x0) {r : Option Tab} (H : book_numbered_api_Chars_fhb.f x0 = some r) : CallsR Tryz.prog 44 [v0, .func (.func 45) #[] #[]] w (fun v w' => ∃ (ρ' : Hp) (v0 : Value), v = v0 ∧ Le ρ ρ' ∧ St w0 ρ' (Γ) w' ∧ PtrR rTab ρ' v0 r) := by
  rw [book_numbered_api_Chars_fhb.f] at H
  refine enter Tryz.func44 Tryz.ntmps44 rfl (by kernel_rfl) rfl <| Wr fun bt a5 => Oa rfl rfl <| O_nil (a5 _ _ <| Wr fun bu a6 => Oa rfl rfl ?_)
  have hs := hs.rowNil 108 rVal.sz
  have a7 := RowR.nil rVal ρ
  refine O_nil (a6 _ _ <| W_seq fun bv a8 => Wr fun bw a9 => Om rfl rfl <| O_y rfl (Y_lenR un24 h0 rfl) <| Om rfl rfl <| O_nil (a9 _ _ <| W_block fun bx ba bz => W_loop (σ := Nat × List Val × Int × Value × List Value × Hp) (fun (af, ab, aa, ac, ad, ah) => [(1, .func (.func 45) #[] #[]), (5, ac), (12, v0), (13, .int .i64 (x0.length : Int)), (14, .int .i64 aa)]) (fun (af, ab, aa, ac, ad, ah) w => book_numbered_api_Chars_fhb.l1 af x0 ab aa = some r ∧ Le ρ ah ∧ St w0 ah ((.row ac 108 rVal.sz ab.length ad) :: Γ) w ∧ RowR rVal ah ad ab) (fun s => s.1) (K0, ([] : List Val), 0, (.slice none 0 0), ([]), ρ) (by repeat first | exact Sub.nil | refine Sub.cons rfl ?_) (Ai H (Ai (Le.rfl' _) (Ai hs a7))) ?_))
  rintro ⟨af, ab, aa, ac, ad, ah⟩ w b0 ⟨H, ai, hs, ag⟩ aj
  show W _ _ _ _ _ _ [(1, .func (.func 45) #[] #[]), (5, ac), (12, v0), (13, .int .i64 (x0.length : Int)), (14, .int .i64 aa)] w
  cases af with
  | zero => rw [book_numbered_api_Chars_fhb.l1] at H; cases H
  | succ af =>
  rw [book_numbered_api_Chars_fhb.l1] at H
  refine Wr fun b1 bb => O_y rfl (Y_lss rfl rfl) <| O_nil (bb _ _ <| W_seq fun b2 bc => W_if rfl (fun ar => ?_) (fun ar => ?_))
  ·rw [if_pos ar] at H
   refine W_skip (bc _ _ <| W_seq fun b3 bd => W_block fun b4 b5 b6 => Wr fun b7 be => Om rfl rfl ?_)
   obtain ⟨a2, H⟩ := gd H
   obtain ⟨b8, b9, bf, bg⟩ := (h0.mono ai).ix el24 a2.1 a2.2
   obtain ⟨_, ⟨ca, rfl, a3⟩, bh⟩ := bf
   refine O_y rfl (bg rfl rfl) <| O_y rfl (Y_loadN ag94 sz94 rfl rfl (fun j u hu => hs.see (bh j u hu))) <| O_alloc zr94 hs rfl (fun cb w hs => Oa rfl rfl <| O_storeN (i := 0) sz94 hs rfl rfl rfl rfl rfl (one_cons rfl (one_cons rfl (one_cons a3.one one_nil))) (fun w hs => O_nil (be _ _ <| Wr fun cc bi => Om rfl rfl <| O_y rfl (Y_loadbN (i := 0) ag94 sz94 hs rfl rfl rfl rfl) ?_)))
   obtain ⟨ae, au, H⟩ := bnd H
   refine O_callv rfl rfl rfl (book_ofChars.c hs ⟨_, rfl, a3⟩ au) (fun cd w hpost => ?_)
   obtain ⟨a4, bj, rfl, al, hs, bk⟩ := hpost
   have bl := bk
   obtain rfl := bl
   refine O_alloc zr110 hs rfl (fun ce w hs => O_storeN (i := 0) sz110 hs rfl rfl rfl rfl rfl (one_cons rfl (one_cons rfl one_nil)) (fun w hs => O_nil (bi _ _ <| W.weak [(1, _), (5, _), (6, _), (8, _), (12, _), (13, _), (14, _)] (by repeat first | exact Sub.nil | refine Sub.cons rfl ?_) ?_)))
   refine W_region <| Om rfl rfl <| O_y rfl (Y_field fo110_0 rfl) <| O_y rfl (Yb 0 ag21 hs rfl rfl rfl) <| O_y rfl (Y_field fo110_1 rfl) <| O_y rfl (Yb 0 ag21 hs rfl rfl rfl) <| Om rfl rfl <| O_y rfl (Y_add rfl rfl) <| O_y rfl (Y_build (cs := [.int .i32 ae.lo, .int .i32 ae.hi, .int .i64 (IntKind.i64.wrap (aa + 1))]) zr108 pl108 ((Parts.cons rfl rfl (Parts.cons rfl rfl (Parts.cons rfl rfl Parts.nil)))) ag108 (by kernel_rfl)) <| O_lit2 (xs := [.tmp 29]) (cs := [.int .i32 ae.lo, .int .i32 ae.hi, .int .i64 (IntKind.i64.wrap (aa + 1))]) el23 hs rfl rfl rfl (by decide) (by decide) rfl (sz_cons rfl sz_nil) (flat_cons rfl flat_nil) (fun bm w hs => ?_)
   have am : RowR rVal a4 ([.int .i32 ae.lo, .int .i32 ae.hi, .int .i64 (IntKind.i64.wrap (aa + 1))]) [(⟨ae.lo, ae.hi, IntKind.i64.wrap (aa + 1)⟩ : Val)] := RowR.cons (c := [.int .i32 ae.lo, .int .i32 ae.hi, .int .i64 (IntKind.i64.wrap (aa + 1))]) (x := (⟨ae.lo, ae.hi, IntKind.i64.wrap (aa + 1)⟩ : Val)) rfl (RowR.nil _ _)
   obtain ⟨av, H⟩ := gd H
   refine O_appendR (i := 3) el23 hs rfl (ag.mono al) rfl rfl rfl (Src.lit (j := 0) hs rfl am) am av (fun aw an w ax hs => Oa rfl rfl <| O_nil (bd _ _ <| W.weak [(1, _), (5, _), (12, _), (13, _), (14, _)] (by repeat first | exact Sub.nil | refine Sub.cons rfl ?_) ?_))
   refine W_region <| O_y rfl (Y_add rfl rfl) <| Om rfl rfl <| O_nil (aj (af, (ab ++ ([(⟨ae.lo, ae.hi, IntKind.i64.wrap (aa + 1)⟩ : Val)])), (IntKind.i64.wrap (aa + 1)), aw, an, a4) _ _ (by repeat first | exact Sub.nil | refine Sub.cons rfl ?_) (Ai H (Ai (ai.trans al) (Ai (hs.sub (ssk (ssk (ssk (ssc ssr))))) ax))) (Nat.lt_succ_self _))
  ·rw [if_neg ar] at H
   refine W_exit (ba _ _ (a8 _ _ <| W_seq fun bn ay => ?_))
   obtain ⟨bo, ao, hs, az⟩ := hs.rowEnd (j := 0) ag rfl
   refine W_region <| Om rfl rfl ?_
   obtain ⟨ak, ap, H⟩ := bnd H
   refine O_call rfl rfl (stage_Build.c hs az ap) (fun bp w hpost => ?_)
   obtain ⟨bq, br, rfl, aq, hs, a0⟩ := hpost
   refine Om rfl rfl <| O_y rfl (Y_extract rfl rfl) <| O_y rfl (Y_extract rfl rfl) <| O_y rfl (Y_extract rfl rfl) <| Oa rfl rfl <| Oa rfl rfl <| Oa rfl rfl <| O_nil (ay _ _ <| W.weak [(9, _)] (S1 rfl) <| Wr fun bs a1 => Om rfl rfl <| Oa rfl rfl <| O_nil (a1 _ _ ?_))
   refine W_ret ?_
   obtain rfl := sinj H
   exact ret1 rfl rfl ⟨_, _, rfl, ((ai.trans ao).trans aq), hs, a0⟩

def stage_Table_Look.j1 (x0 : Option Tab) (x1 : Int) (aa : Bool) : Option Int := if aa = true then (some 0) else (if x0.isSome = true then (if (0 : Int) ≤ IntKind.i32.wrap (x1.tdiv 128) ∧ IntKind.i32.wrap (x1.tdiv 128) < ((8704 : Nat) : Int) then (if (0 : Int) ≤ vg (((x0).getD default).which) (IntKind.i32.wrap (x1.tdiv 128)) ∧ vg (((x0).getD default).which) (IntKind.i32.wrap (x1.tdiv 128)) < ((((x0).getD default).unlike).length : Int) then (if (0 : Int) ≤ x1.tmod 128 ∧ x1.tmod 128 < ((128 : Nat) : Int) then (some (IntKind.i64.wrap (vg (rd (((x0).getD default).unlike) (vg (((x0).getD default).which) (IntKind.i32.wrap (x1.tdiv 128)))) (x1.tmod 128)))) else none) else none) else none) else none)
def stage_Table_Look.f (x0 : Option Tab) (x1 : Int) : Option Int := if ((x0).isNone) = true then (stage_Table_Look.j1 x0 x1 true) else (if x1 < 0 then (stage_Table_Look.j1 x0 x1 true) else (stage_Table_Look.j1 x0 x1 (decide (1114111 < x1))))
theorem stage_Table_Look.c {w0 w : World} {ρ : Hp} {Γ : List Item} (hs : St w0 ρ (Γ) w) {v0 : Value} {x0 : Option Tab} (h0 : PtrR rTab ρ v0 x0) {x1 r : Int} (H : stage_Table_Look.f x0 x1 = some r) : CallsR Tryz.prog 24 [v0, .int .i32 x1] w (fun v w' => v = .int .i64 r ∧ St w0 ρ Γ w') := by
  rw [stage_Table_Look.f] at H
  refine enter Tryz.func24 Tryz.ntmps24 rfl (by kernel_rfl) rfl <| Wr fun a4 am => Oa rfl rfl <| O_nil (am _ _ <| W_seq fun a5 an => W_seqj fun ao ap ad => ?_)
  have ae : ∀ (aa : Bool) (w : World), stage_Table_Look.j1 x0 x1 aa = some r → St w0 ρ (Γ) w → ao [(0, v0), (1, .int .i32 x1), (14, .bool aa)] w := by
   intro aa w H hs
   rw [stage_Table_Look.j1] at H
   refine ap _ _ <| W_cond rfl (fun af => ?_) (fun af => ?_)
   ·rw [if_pos af] at H
    refine Wr fun a6 aq => Oa rfl rfl <| O_nil (aq _ _ <| W_ret ?_)
    obtain rfl := sinj H
    exact ret1 rfl rfl ⟨rfl, hs⟩
   ·rw [if_neg (bft af)] at H
    refine W_skip (an _ _ <| W_seq fun a7 ar => W_drawS 18 [0, 1, 2, 4, 0, 0, 32, 16, 128, 320, 512, 0, 2048, 1032, 12288, 16384, 32768, 131071] [131068, 131064, 131056, 122864, 130927, 130975, 130463, 130671, 130159, 129039, 120847, 124927, 108543, 104448, 65536, 0, 0, 0] [0, 1, 3, 7, 0, 0, 32, 16, 144, 496, 1008, 0, 2048, 2047, 16383, 32767, 65535, 131071] [] (fun w => St w0 ρ (Γ) w) mixed (by kernel_rfl) (fun sh => ?_))
    have hs := hs.drew
    refine Dm 0 sh rfl rfl (by kernel_rfl) rfl ?_
    obtain ⟨ak, H⟩ := gd H
    obtain ⟨a8, ag, au⟩ := h0.open ak
    obtain ⟨_, ⟨a9, ba, rfl, av, bb⟩, aw⟩ := au
    refine Dp 1 sh rfl rfl (by kernel_rfl) (fun w => Y_nilp (congrArg some ag)) <| Dp 2 sh rfl rfl (by kernel_rfl) (fun w => Y_field fo105_1 rfl) <| Dy 3 sh rfl rfl (by kernel_rfl) hs (fun w hs => Y_load ag103 rfl (hs.see (aw 8704 _ (seg_beh (q := 0) rfl rfl)))) <| Dm 4 sh rfl rfl (by kernel_rfl) rfl <| Dm 5 sh rfl rfl (by kernel_rfl) rfl <| Dp 6 sh rfl rfl (by kernel_rfl) (fun w => Y_quo rfl rfl (by decide)) ?_
    obtain ⟨bc, ah, ax⟩ := h0.open ak
    obtain ⟨_, ⟨bd, be, rfl, bf, bg⟩, ay⟩ := ax
    refine Dp 7 sh rfl rfl (by kernel_rfl) (fun w => Y_nilp (congrArg some ah)) <| Dp 8 sh rfl rfl (by kernel_rfl) (fun w => Y_field fo105_0 rfl) ?_
    obtain ⟨ab, H⟩ := gd H
    have az := CA.seg (q := 0) ay rfl ab.1 ab.2
    refine Dp 9 sh rfl rfl (by kernel_rfl) (fun w => Y_ixArr un102 sz99 rfl rfl ab.1 ab.2) <| Dy 10 sh rfl rfl (by kernel_rfl) hs (fun w hs => Y_load ag99 rfl (hs.see az)) <| Dm 11 sh rfl rfl (by kernel_rfl) rfl <| Dp 12 sh rfl rfl (by kernel_rfl) (fun w => Y_rem rfl rfl (by decide)) ?_
    obtain ⟨al, H⟩ := gd H
    obtain ⟨bh, bi, a0, a1⟩ := av.ix el103 al.1 al.2
    have a2 := a0.arr
    refine Dp 13 sh rfl rfl (by kernel_rfl) (fun w => a1 rfl rfl) ?_
    obtain ⟨ac, H⟩ := gd H
    have a3 := CA.seg (q := 0) a2 rfl ac.1 ac.2
    refine Dp 14 sh rfl rfl (by kernel_rfl) (fun w => Y_ixArr un101 sz99 rfl rfl ac.1 ac.2) <| Dy 15 sh rfl rfl (by kernel_rfl) hs (fun w hs => Y_load ag99 rfl (hs.see a3)) <| Dp 16 sh rfl rfl (by kernel_rfl) (fun w => Y_conv un99 un3 rfl) <| Dp 17 sh rfl rfl (by kernel_rfl) (fun w => Y_assign rfl) <| OD_doneS sh (by kernel_rfl) (ar _ _ <| W.weak [(4, _)] (S1 rfl) <| W_ret ?_)
    obtain rfl := sinj H
    exact ret1 rfl rfl ⟨rfl, hs⟩
  refine W_region <| Om rfl rfl <| O_y rfl ((h0.eqn un59 rfl rfl)) <| Om rfl rfl <| O_cases (dj := 7) rfl (fun ai => ?_) (fun ai => ?_)
  ·rw [if_pos ai] at H
   refine O_no rfl rfl rfl rfl <| O_no rfl rfl rfl rfl <| O_y rfl (Y_pick_t rfl rfl) <| Om rfl rfl <| O_no rfl rfl rfl rfl <| O_no rfl rfl rfl rfl <| O_y rfl (Y_pick_t rfl rfl) <| O_nil (ad _ _ _ (S3 rfl rfl rfl) (ae true _ H hs))
  ·rw [if_neg (bft ai)] at H
   refine O_yes rfl rfl <| Om rfl rfl <| O_yes rfl rfl <| O_y rfl (Y_lss rfl rfl) <| O_y rfl (Y_pick_f rfl rfl) <| Om rfl rfl <| O_if (dj := 11) rfl (fun aj => ?_) (fun aj => ?_)
   ·rw [if_pos aj] at H
    refine O_no rfl rfl rfl rfl <| O_no rfl rfl rfl rfl <| O_y rfl (Y_pick_t rfl rfl) <| O_nil (ad _ _ _ (S3 rfl rfl rfl) (ae true _ H hs))
   ·rw [if_neg aj] at H
    refine O_yes rfl rfl <| Om rfl rfl <| O_yes rfl rfl <| O_y rfl (Y_gtr rfl rfl) <| O_y rfl (Y_pick_f rfl rfl) <| O_nil (ad _ _ _ (S3 rfl rfl rfl) (ae (decide (1114111 < x1)) _ H hs))

end Go.Proofs.YtekafkokpnihfaaGreat
