/- Written by this repo's gen.py: for each Go function a Lean function with the same answers and the walk that shows it. -/
import Derived.Test.YtekafkokpnihfaaGreatTA4
import Derived.Test.YtekafkokpnihfaaGreatData
import Derived.Test.YtekafkokpnihfaaGreatFacts
namespace Go.Proofs.YtekafkokpnihfaaGreat
open Go.RowKit
set_option maxRecDepth 100000
set_option maxHeartbeats 4000000
set_option linter.unusedVariables false
def ref10_names.l1 (ae : Int → Option Int) : Nat → List ByteArray → Int → Int → Option Int
  | 0, _, _, _ => none
  | ac + 1, x0, aa, ab => if ab < ((sub x0 0 aa).length : Int) then (if (0 : Int) ≤ ab ∧ ab < ((sub x0 0 aa).length : Int) then (if (rd (sub x0 0 aa) ab) = (rd x0 aa) then (some aa) else ((ref10_names.l1 ae ac x0 aa) (IntKind.i64.wrap (ab + 1)))) else none) else (ae (IntKind.i64.wrap (aa + 1)))
def ref10_names.l2 : Nat → List ByteArray → Int → Option Int
  | 0, _, _ => none
  | ad + 1, x0, aa => if aa < (x0.length : Int) then (if (0 : Int) ≤ aa ∧ aa < (x0.length : Int) then ((ref10_named.f (rd x0 aa)).bind fun a4 => (if (!a4) = true then (some aa) else (if (0 : Int) ≤ 0 ∧ 0 ≤ aa ∧ aa ≤ (x0.length : Int) then (ref10_names.l1 (ref10_names.l2 ad x0) K0 x0 aa 0) else none))) else none) else (some (-1))
def ref10_names.f (x0 : List ByteArray) : Option Int := if 64 < (x0.length : Int) then (some 64) else (ref10_names.l2 K0 x0 0)
theorem ref10_names.c {w0 w : World} {ρ : Hp} {Γ : List Item} (hs : St w0 ρ (Γ) w) {v0 : Value} {x0 : List ByteArray} (h0 : SlR Rep.str ρ v0 x0) {r : Int} (H : ref10_names.f x0 = some r) : CallsR Tryz.prog 32 [v0] w (fun v w' => v = .int .i64 r ∧ St w0 ρ Γ w') := by
  rw [ref10_names.f] at H
  refine enter Tryz.func32 Tryz.ntmps32 rfl (by kernel_rfl) rfl <| Wr fun b3 a6 => Oa rfl rfl <| O_nil (a6 _ _ <| W_seq fun b4 a7 => Wr fun b5 a8 => Om rfl rfl <| O_y rfl (Y_lenR un22 h0 rfl) <| O_y rfl (Y_gtr rfl rfl) <| O_nil (a8 _ _ <| W_if rfl (fun am => ?_) (fun am => ?_)))
  ·rw [if_pos am] at H
   refine Wr fun b6 a9 => Oa rfl rfl <| O_nil (a9 _ _ <| W_ret ?_)
   obtain rfl := sinj H
   exact ret1 rfl rfl ⟨rfl, hs⟩
  ·rw [if_neg am] at H
   refine W_skip (a7 _ _ <| W_seq fun b7 ba => Wr fun b8 bb => Om rfl rfl <| O_y rfl (Y_lenR un22 h0 rfl) <| Om rfl rfl <| O_nil (bb _ _ <| W_block fun b9 bc ca => W_loop (σ := Nat × Int) (fun (ad, aa) => [(0, v0), (10, v0), (11, .int .i64 (x0.length : Int)), (12, .int .i64 aa)]) (fun (ad, aa) w => ref10_names.l2 ad x0 aa = some r ∧ St w0 ρ (Γ) w) (fun s => s.1) (K0, 0) (S4 rfl rfl rfl rfl) (Ai H hs) ?_))
   rintro ⟨ad, aa⟩ w cb ⟨H, hs⟩ ag
   show W _ _ _ _ _ _ [(0, v0), (10, v0), (11, .int .i64 (x0.length : Int)), (12, .int .i64 aa)] w
   cases ad with
   | zero => rw [ref10_names.l2] at H; cases H
   | succ ad =>
   rw [ref10_names.l2] at H
   refine Wr fun cc bd => O_y rfl (Y_lss rfl rfl) <| O_nil (bd _ _ <| W_seq fun cd be => W_if rfl (fun an => ?_) (fun an => ?_))
   ·rw [if_pos an] at H
    refine W_skip (be _ _ <| W_seq fun ce bf => W_block fun cf cg ch => Wr fun ci bg => Om rfl rfl ?_)
    obtain ⟨a5, H⟩ := gd H
    obtain ⟨cj, ck, bh, bi⟩ := h0.ix el22 a5.1 a5.2
    refine O_y rfl (bi rfl rfl) <| O_y rfl (Y_load ag9 rfl (hs.see bh.str)) <| Oa rfl rfl <| Oa rfl rfl <| O_nil (bg _ _ <| W_seq fun cl bj => Wr fun cm bk => Om rfl rfl ?_)
    obtain ⟨a4, ao, H⟩ := bnd H
    refine O_call rfl rfl (ref10_named.c hs ao) (fun cn w hpost => ?_)
    obtain ⟨rfl, hs⟩ := hpost
    refine O_y rfl (Y_not rfl) <| O_nil (bk _ _ <| W_cond rfl (fun ap => ?_) (fun ap => ?_))
    ·rw [if_pos ap] at H
     refine Wr fun co bl => Om rfl rfl <| Oa rfl rfl <| O_nil (bl _ _ <| W.weak [(2, _)] (S1 rfl) <| W_ret ?_)
     obtain rfl := sinj H
     exact ret1 rfl rfl ⟨rfl, hs⟩
    ·rw [if_neg (bft ap)] at H
     refine W_skip (bj _ _ <| Wr fun cp bm => Om rfl rfl <| Om rfl rfl ?_)
     obtain ⟨aq, H⟩ := gd H
     obtain ⟨aj, ak, ar⟩ := h0.cut el22 aq.1 aq.2.1 aq.2.2
     refine O_y rfl (ar rfl (.inl ⟨rfl, rfl⟩) (.inr ⟨_, _, rfl, rfl⟩)) <| O_y rfl (Y_lenR un22 ak rfl) <| Om rfl rfl <| O_nil (bm _ _ <| W.weak [(0, _), (3, _), (4, _), (10, _), (11, _), (12, _), (23, _), (24, _), (25, _)] (by repeat first | exact Sub.nil | refine Sub.cons rfl ?_) ?_)
     refine W_block fun bn au bo => W_loop (σ := Nat × Int) (fun (ac, ab) => [(0, v0), (3, .int .i64 aa), (4, .string (rd x0 aa)), (10, v0), (11, .int .i64 (x0.length : Int)), (12, .int .i64 aa), (23, aj), (24, .int .i64 ((sub x0 0 aa).length : Int)), (25, .int .i64 ab)]) (fun (ac, ab) w => ref10_names.l1 (ref10_names.l2 ad x0) ac x0 aa ab = some r ∧ St w0 ρ (Γ) w) (fun s => s.1) (K0, 0) (by repeat first | exact Sub.nil | refine Sub.cons rfl ?_) (Ai H hs) ?_
     rintro ⟨ac, ab⟩ w bp ⟨H, hs⟩ af
     show W _ _ _ _ _ _ [(0, v0), (3, .int .i64 aa), (4, .string (rd x0 aa)), (10, v0), (11, .int .i64 (x0.length : Int)), (12, .int .i64 aa), (23, aj), (24, .int .i64 ((sub x0 0 aa).length : Int)), (25, .int .i64 ab)] w
     cases ac with
     | zero => rw [ref10_names.l1] at H; cases H
     | succ ac =>
     rw [ref10_names.l1] at H
     refine Wr fun bq av => O_y rfl (Y_lss rfl rfl) <| O_nil (av _ _ <| W_seq fun br aw => W_if rfl (fun ah => ?_) (fun ah => ?_))
     ·rw [if_pos ah] at H
      refine W_skip (aw _ _ <| W_seq fun bs ax => W_block fun bt bu bv => W_seq fun bw ay => W_region ?_)
      obtain ⟨al, H⟩ := gd H
      obtain ⟨bx, bz, az, a0⟩ := ak.ix el22 al.1 al.2
      refine O_y rfl (a0 rfl rfl) <| O_y rfl (Y_load ag9 rfl (hs.see az.str)) <| Oa rfl rfl <| O_nil (ay _ _ <| Wr fun b0 a1 => Om rfl rfl <| Om rfl rfl <| O_y rfl (Y_eqls rfl rfl) <| O_nil (a1 _ _ <| W.weak [(0, _), (3, _), (4, _), (10, _), (11, _), (12, _), (23, _), (24, _), (25, _), (31, _)] (by repeat first | exact Sub.nil | refine Sub.cons rfl ?_) ?_))
      refine W_if rfl (fun ai => ?_) (fun ai => ?_)
      ·rw [if_pos ai] at H
       refine Wr fun b1 a2 => Om rfl rfl <| Oa rfl rfl <| O_nil (a2 _ _ <| W_ret ?_)
       obtain rfl := sinj H
       exact ret1 rfl rfl ⟨rfl, hs⟩
      ·rw [if_neg ai] at H
       refine W_skip (ax _ _ <| W_region <| O_y rfl (Y_add rfl rfl) <| Om rfl rfl <| O_nil (af (ac, (IntKind.i64.wrap (ab + 1))) _ _ (by repeat first | exact Sub.nil | refine Sub.cons rfl ?_) (Ai H hs) (Nat.lt_succ_self _)))
     ·rw [if_neg ah] at H
      refine W_exit (au _ _ (bf _ _ <| W_region <| O_y rfl (Y_add rfl rfl) <| Om rfl rfl <| O_nil (ag (ad, (IntKind.i64.wrap (aa + 1))) _ _ (S4 rfl rfl rfl rfl) (Ai H hs) (Nat.lt_succ_self _))))
   ·rw [if_neg an] at H
    refine W_exit (bc _ _ (ba _ _ <| Wr fun b2 a3 => Oa rfl rfl <| O_nil (a3 _ _ <| W_ret ?_)))
    obtain rfl := sinj H
    exact ret1 rfl rfl ⟨rfl, hs⟩

def ref10_spans.l1 : Nat → List Val → List Spn → Int → Option (List Spn)
  | 0, _, _, _ => none
  | ae + 1, x0, ab, aa => if aa < (x0.length : Int) then (if (0 : Int) ≤ aa ∧ aa < (x0.length : Int) then (if ab.length + ([(⟨(rd x0 aa).lo, (rd x0 aa).hi⟩ : Spn)]).length ≤ most then ((ref10_spans.l1 ae x0) (ab ++ ([(⟨(rd x0 aa).lo, (rd x0 aa).hi⟩ : Spn)])) (IntKind.i64.wrap (aa + 1))) else none) else none) else (some ab)
def ref10_spans.f (x0 : List Val) : Option (List Spn) := ref10_spans.l1 K0 x0 ([] : List Spn) 0
theorem ref10_spans.c {w0 w : World} {ρ : Hp} {Γ : List Item} (hs : St w0 ρ (Γ) w) {v0 : Value} {x0 : List Val} (h0 : SlR rVal ρ v0 x0) {r : List Spn} (H : ref10_spans.f x0 = some r) : CallsR Tryz.prog 34 [v0] w (fun v w' => ∃ (ρ' : Hp) (v0 : Value) (cs0 : List Value), v = v0 ∧ Le ρ ρ' ∧ St w0 ρ' (.row v0 74 rSpn.sz r.length cs0 :: Γ) w' ∧ RowR rSpn ρ' cs0 r) := by
  rw [ref10_spans.f] at H
  refine enter Tryz.func34 Tryz.ntmps34 rfl (by kernel_rfl) rfl <| Wr fun a5 al => Oa rfl rfl <| O_nil (al _ _ <| Wr fun a6 am => O_lit2 (xs := []) (cs := []) el32 hs rfl rfl rfl (by decide) (by decide) rfl sz_nil flat_nil (fun an w hs => ?_))
  have ao : RowR rSpn ρ ([]) ([] : List Spn) := RowR.nil _ _
  refine Oa rfl rfl <| O_nil (am _ _ <| W_seq fun a7 ap => Wr fun a8 aq => Om rfl rfl <| O_y rfl (Y_lenR un30 h0 rfl) <| Om rfl rfl <| O_nil (aq _ _ <| W_block fun a9 ar ba => W_loop (σ := Nat × List Spn × Int × Value × List Value) (fun (ae, ab, aa, ac, ad) => [(3, ac), (7, v0), (8, .int .i64 (x0.length : Int)), (9, .int .i64 aa)]) (fun (ae, ab, aa, ac, ad) w => ref10_spans.l1 ae x0 ab aa = some r ∧ St w0 ρ ((.row ac 74 rSpn.sz ab.length ad) :: Γ) w ∧ RowR rSpn ρ ad ab) (fun s => s.1) (K0, ([] : List Spn), 0, (.slice (some ⟨an, 0, none⟩) 0 0), ([])) (S4 rfl rfl rfl rfl) (Ai H (Ai hs ao)) ?_))
  rintro ⟨ae, ab, aa, ac, ad⟩ w bb ⟨H, hs, af⟩ ag
  show W _ _ _ _ _ _ [(3, ac), (7, v0), (8, .int .i64 (x0.length : Int)), (9, .int .i64 aa)] w
  cases ae with
  | zero => rw [ref10_spans.l1] at H; cases H
  | succ ae =>
  rw [ref10_spans.l1] at H
  refine Wr fun bc au => O_y rfl (Y_lss rfl rfl) <| O_nil (au _ _ <| W_seq fun bd av => W_if rfl (fun ah => ?_) (fun ah => ?_))
  ·rw [if_pos ah] at H
   refine W_skip (av _ _ <| W_seq fun be aw => W_block fun bf bg bh => W_seq fun bi ax => W_region ?_)
   obtain ⟨aj, H⟩ := gd H
   obtain ⟨bj, bk, ay, az⟩ := h0.ix el30 aj.1 aj.2
   obtain ⟨_, rfl, a0⟩ := ay
   refine O_y rfl (az rfl rfl) <| O_y rfl (Y_loadN ag109 sz109 rfl rfl (fun j u hu => hs.see (a0 j u hu))) <| O_alloc zr109 hs rfl (fun bl w hs => O_storeN (i := 0) sz109 hs rfl rfl rfl rfl rfl (one_cons rfl (one_cons rfl (one_cons rfl one_nil))) (fun w hs => O_nil (ax _ _ <| W_region <| Om rfl rfl <| O_y rfl (Y_field fo109_0 rfl) <| O_y rfl (Yb 0 ag21 hs rfl rfl rfl) <| O_y rfl (Y_field fo109_1 rfl) <| O_y rfl (Yb 0 ag21 hs rfl rfl rfl) <| O_y rfl (Y_build (cs := [.int .i32 ((rd x0 aa).lo), .int .i32 ((rd x0 aa).hi)]) zr74 pl74 ((Parts.cons rfl rfl (Parts.cons rfl rfl Parts.nil))) ag74 (by kernel_rfl)) <| O_lit2 (xs := [.tmp 18]) (cs := [.int .i32 ((rd x0 aa).lo), .int .i32 ((rd x0 aa).hi)]) el32 hs rfl rfl rfl (by decide) (by decide) rfl (sz_cons rfl sz_nil) (flat_cons rfl flat_nil) (fun bm w hs => ?_))))
   have ak : RowR rSpn ρ ([.int .i32 ((rd x0 aa).lo), .int .i32 ((rd x0 aa).hi)]) [(⟨(rd x0 aa).lo, (rd x0 aa).hi⟩ : Spn)] := RowR.cons (c := [.int .i32 ((rd x0 aa).lo), .int .i32 ((rd x0 aa).hi)]) (x := (⟨(rd x0 aa).lo, (rd x0 aa).hi⟩ : Spn)) rfl (RowR.nil _ _)
   obtain ⟨a1, H⟩ := gd H
   refine O_appendR (i := 2) el32 hs rfl af rfl rfl rfl (Src.lit (j := 0) hs rfl ak) ak a1 (fun a2 ai w a3 hs => Oa rfl rfl <| O_nil (aw _ _ <| W.weak [(3, _), (7, _), (8, _), (9, _)] (S4 rfl rfl rfl rfl) <| W_region <| O_y rfl (Y_add rfl rfl) <| Om rfl rfl <| O_nil (ag (ae, (ab ++ ([(⟨(rd x0 aa).lo, (rd x0 aa).hi⟩ : Spn)])), (IntKind.i64.wrap (aa + 1)), a2, ai) _ _ (S4 rfl rfl rfl rfl) (Ai H (Ai (hs.sub (ssk (ssk (ssc ssr)))) a3)) (Nat.lt_succ_self _))))
  ·rw [if_neg ah] at H
   refine W_exit (ar _ _ (ap _ _ <| Wr fun bn a4 => Om rfl rfl <| Oa rfl rfl <| O_nil (a4 _ _ <| W_ret ?_)))
   obtain rfl := sinj H
   exact ret1 rfl rfl ⟨_, _, _, rfl, Le.rfl' _, hs, af⟩

def ref10_numbered.j1 (al : List Bool → Int → Option (List Bool)) (ab : Int) (ac : List Bool) : Option (List Bool) := al ac (IntKind.i64.wrap (ab + 1))
def ref10_numbered.l1 : Nat → List Val → Int → Int → Bool → List Bool → Int → Option (List Bool)
  | 0, _, _, _, _, _, _ => none
  | ai + 1, x0, x1, x2, x3, aa, ab => if ab < (x0.length : Int) then (if (0 : Int) ≤ ab ∧ ab < (x0.length : Int) then (if ((rd x0 ab).n) < x1 then (if aa.length + ([true]).length ≤ most then (ref10_numbered.j1 (ref10_numbered.l1 ai x0 x1 x2 x3) ab (aa ++ ([true]))) else none) else (if x2 < ((rd x0 ab).n) then (if aa.length + ([true]).length ≤ most then (ref10_numbered.j1 (ref10_numbered.l1 ai x0 x1 x2 x3) ab (aa ++ ([true]))) else none) else (if x3 = true then ((ref10_touches.f ((rd x0 ab).lo) ((rd x0 ab).hi)).bind fun aj => (if aa.length + ([aj]).length ≤ most then (ref10_numbered.j1 (ref10_numbered.l1 ai x0 x1 x2 x3) ab (aa ++ ([aj]))) else none)) else (if aa.length + ([false]).length ≤ most then (ref10_numbered.j1 (ref10_numbered.l1 ai x0 x1 x2 x3) ab (aa ++ ([false]))) else none)))) else none) else (some aa)
def ref10_numbered.f (x0 : List Val) (x1 x2 : Int) (x3 : Bool) : Option (List Bool) := ref10_numbered.l1 K0 x0 x1 x2 x3 ([] : List Bool) 0
theorem ref10_numbered.c {w0 w : World} {ρ : Hp} {Γ : List Item} (hs : St w0 ρ (Γ) w) {v0 : Value} {x0 : List Val} (h0 : SlR rVal ρ v0 x0) {x1 x2 : Int} {x3 : Bool} {r : List Bool} (H : ref10_numbered.f x0 x1 x2 x3 = some r) : CallsR Tryz.prog 35 [v0, .int .i64 x1, .int .i64 x2, .bool x3] w (fun v w' => ∃ (ρ' : Hp) (v0 : Value) (cs0 : List Value), v = v0 ∧ Le ρ ρ' ∧ St w0 ρ' (.row v0 4 Rep.bool.sz r.length cs0 :: Γ) w' ∧ RowR Rep.bool ρ' cs0 r) := by
  rw [ref10_numbered.f] at H
  refine enter Tryz.func35 Tryz.ntmps35 rfl (by kernel_rfl) rfl <| Wr fun b2 bf => Oa rfl rfl <| O_nil (bf _ _ <| Wr fun b3 bg => O_lit2 (xs := []) (cs := []) el68 hs rfl rfl rfl (by decide) (by decide) rfl sz_nil flat_nil (fun bh w hs => ?_))
  have bi : RowR Rep.bool ρ ([]) ([] : List Bool) := RowR.nil _ _
  refine Oa rfl rfl <| O_nil (bg _ _ <| W_seq fun b4 bj => Wr fun b5 bk => Om rfl rfl <| O_y rfl (Y_lenR un30 h0 rfl) <| Om rfl rfl <| O_nil (bk _ _ <| W_block fun b6 bl b7 => W_loop (σ := Nat × List Bool × Int × Value × List Value) (fun (ai, aa, ab, ad, af) => [(1, .int .i64 x1), (2, .int .i64 x2), (3, .bool x3), (9, ad), (13, v0), (14, .int .i64 (x0.length : Int)), (15, .int .i64 ab)]) (fun (ai, aa, ab, ad, af) w => ref10_numbered.l1 ai x0 x1 x2 x3 aa ab = some r ∧ St w0 ρ ((.row ad 4 Rep.bool.sz aa.length af) :: Γ) w ∧ RowR Rep.bool ρ af aa) (fun s => s.1) (K0, ([] : List Bool), 0, (.slice (some ⟨bh, 0, none⟩) 0 0), ([])) (by repeat first | exact Sub.nil | refine Sub.cons rfl ?_) (Ai H (Ai hs bi)) ?_))
  rintro ⟨ai, aa, ab, ad, af⟩ w b8 ⟨H, hs, ae⟩ am
  show W _ _ _ _ _ _ [(1, .int .i64 x1), (2, .int .i64 x2), (3, .bool x3), (9, ad), (13, v0), (14, .int .i64 (x0.length : Int)), (15, .int .i64 ab)] w
  cases ai with
  | zero => rw [ref10_numbered.l1] at H; cases H
  | succ ai =>
  rw [ref10_numbered.l1] at H
  refine Wr fun b9 bm => O_y rfl (Y_lss rfl rfl) <| O_nil (bm _ _ <| W_seq fun ca bn => W_if rfl (fun az => ?_) (fun az => ?_))
  ·rw [if_pos az] at H
   refine W_skip (bn _ _ <| W_seqj fun bo bp ax => ?_)
   have ay : ∀ (ac : List Bool) (ag : Value) (ah : List Value) (w : World), ref10_numbered.j1 (ref10_numbered.l1 ai x0 x1 x2 x3) ab ac = some r → St w0 ρ ((.row ag 4 Rep.bool.sz ac.length ah) :: Γ) w → RowR Rep.bool ρ ah ac → bo [(1, .int .i64 x1), (2, .int .i64 x2), (3, .bool x3), (9, ag), (13, v0), (14, .int .i64 (x0.length : Int)), (15, .int .i64 ab)] w := by
    intro ac ag ah w H hs ak
    rw [ref10_numbered.j1] at H
    refine bp _ _ <| W_region <| O_y rfl (Y_add rfl rfl) <| Om rfl rfl <| O_nil (am (ai, ac, (IntKind.i64.wrap (ab + 1)), ag, ah) _ _ (by repeat first | exact Sub.nil | refine Sub.cons rfl ?_) (Ai H (Ai hs ak)) (Nat.lt_succ_self _))
   refine W_block fun cb cc cd => W_seq fun ce bq => W_region ?_
   obtain ⟨bd, H⟩ := gd H
   obtain ⟨cf, cg, br, bs⟩ := h0.ix el30 bd.1 bd.2
   obtain ⟨_, rfl, bt⟩ := br
   refine O_y rfl (bs rfl rfl) <| O_y rfl (Y_loadN ag109 sz109 rfl rfl (fun j u hu => hs.see (bt j u hu))) <| O_alloc zr109 hs rfl (fun ch w hs => O_storeN (i := 0) sz109 hs rfl rfl rfl rfl rfl (one_cons rfl (one_cons rfl (one_cons rfl one_nil))) (fun w hs => O_nil (bq _ _ <| W_region <| Om rfl rfl <| O_y rfl (Y_field fo109_2 rfl) <| O_y rfl (Yb 0 ag3 hs rfl rfl rfl) <| Om rfl rfl <| O_y rfl (Y_lss rfl rfl) <| Om rfl rfl <| O_if (dj := 24) rfl (fun a0 => ?_) (fun a0 => ?_))))
   ·rw [if_pos a0] at H
    refine O_no rfl rfl rfl rfl <| O_no rfl rfl rfl rfl <| O_no rfl rfl rfl rfl <| O_no rfl rfl rfl rfl <| O_y rfl (Y_pick_t rfl rfl) <| Om rfl rfl <| O_no rfl rfl rfl rfl <| O_no rfl rfl rfl rfl <| O_nou rfl rfl rfl <| O_nou rfl rfl rfl <| O_nou rfl rfl rfl <| O_nou rfl rfl rfl <| O_nou rfl rfl rfl <| O_no rfl rfl rfl rfl ?_
    refine O_y rfl (Y_pick_t rfl rfl) <| O_lit2 (xs := [.tmp 39]) (cs := [.bool true]) el68 hs rfl rfl rfl (by decide) (by decide) rfl (sz_cons rfl sz_nil) (flat_cons rfl flat_nil) (fun ci w hs => ?_)
    have be : RowR Rep.bool ρ ([.bool true]) [true] := RowR.cons (c := [.bool true]) (x := true) rfl (RowR.nil _ _)
    obtain ⟨bu, H⟩ := gd H
    refine O_appendR (i := 2) el68 hs rfl ae rfl rfl rfl (Src.lit (j := 0) hs rfl be) be bu (fun bv a1 w bw hs => Oa rfl rfl <| O_nil (ax _ _ _ (by repeat first | exact Sub.nil | refine Sub.cons rfl ?_) (ay (aa ++ ([true])) bv a1 _ H (hs.sub (ssk (ssk (ssc ssr)))) bw)))
   ·rw [if_neg a0] at H
    refine O_yes rfl rfl <| O_y rfl (Y_field fo109_2 rfl) <| O_yes rfl rfl <| O_y rfl (Yb 0 ag3 hs rfl rfl rfl) <| O_yes rfl rfl <| Om rfl rfl <| O_yes rfl rfl <| O_y rfl (Y_gtr rfl rfl) <| O_y rfl (Y_pick_f rfl rfl) <| Om rfl rfl <| O_if (dj := 30) rfl (fun a2 => ?_) (fun a2 => ?_)
    ·rw [if_pos a2] at H
     refine O_no rfl rfl rfl rfl <| O_no rfl rfl rfl rfl <| O_nou rfl rfl rfl <| O_nou rfl rfl rfl <| O_nou rfl rfl rfl <| O_nou rfl rfl rfl <| O_nou rfl rfl rfl <| O_no rfl rfl rfl rfl <| O_y rfl (Y_pick_t rfl rfl) <| O_lit2 (xs := [.tmp 39]) (cs := [.bool true]) el68 hs rfl rfl rfl (by decide) (by decide) rfl (sz_cons rfl sz_nil) (flat_cons rfl flat_nil) (fun cj w hs => ?_)
     have ao : RowR Rep.bool ρ ([.bool true]) [true] := RowR.cons (c := [.bool true]) (x := true) rfl (RowR.nil _ _)
     obtain ⟨a3, H⟩ := gd H
     refine O_appendR (i := 2) el68 hs rfl ae rfl rfl rfl (Src.lit (j := 0) hs rfl ao) ao a3 (fun a4 ap w a5 hs => Oa rfl rfl <| O_nil (ax _ _ _ (by repeat first | exact Sub.nil | refine Sub.cons rfl ?_) (ay (aa ++ ([true])) a4 ap _ H (hs.sub (ssk (ssk (ssc ssr)))) a5)))
    ·rw [if_neg a2] at H
     refine O_yes rfl rfl <| Om rfl rfl <| O_yes rfl rfl <| Om rfl rfl <| O_cases (dj := 32) rfl (fun an => ?_) (fun an => ?_)
     ·rw [if_pos an] at H
      refine O_yes rfl rfl <| O_y rfl (Y_field fo109_0 rfl) <| O_yes rfl rfl <| O_y rfl (Yb 0 ag21 hs rfl rfl rfl) <| O_yes rfl rfl <| O_y rfl (Y_field fo109_1 rfl) <| O_yes rfl rfl <| O_y rfl (Yb 0 ag21 hs rfl rfl rfl) <| O_yes rfl rfl ?_
      obtain ⟨aj, aq, H⟩ := bnd H
      refine O_call rfl rfl (ref10_touches.c hs aq) (fun bx w hpost => ?_)
      obtain ⟨rfl, hs⟩ := hpost
      refine O_yes rfl rfl <| O_y rfl (Y_pick_t rfl rfl) <| O_y rfl (Y_pick_f rfl rfl) <| O_lit2 (xs := [.tmp 39]) (cs := [.bool aj]) el68 hs rfl rfl rfl (by decide) (by decide) rfl (sz_cons rfl sz_nil) (flat_cons rfl flat_nil) (fun bz w hs => ?_)
      have ar : RowR Rep.bool ρ ([.bool aj]) [aj] := RowR.cons (c := [.bool aj]) (x := aj) rfl (RowR.nil _ _)
      obtain ⟨a6, H⟩ := gd H
      refine O_appendR (i := 2) el68 hs rfl ae rfl rfl rfl (Src.lit (j := 0) hs rfl ar) ar a6 (fun a7 au w a8 hs => Oa rfl rfl <| O_nil (ax _ _ _ (by repeat first | exact Sub.nil | refine Sub.cons rfl ?_) (ay (aa ++ ([aj])) a7 au _ H (hs.sub (ssk (ssk (ssc ssr)))) a8)))
     ·rw [if_neg (bft an)] at H
      refine O_no rfl rfl rfl rfl <| O_no rfl rfl rfl rfl <| O_no rfl rfl rfl rfl <| O_no rfl rfl rfl rfl <| O_no rfl rfl rfl rfl <| O_yes rfl rfl <| O_y rfl (Y_pick_f rfl rfl) <| O_y rfl (Y_pick_f rfl rfl) <| O_lit2 (xs := [.tmp 39]) (cs := [.bool false]) el68 hs rfl rfl rfl (by decide) (by decide) rfl (sz_cons rfl sz_nil) (flat_cons rfl flat_nil) (fun b0 w hs => ?_)
      have av : RowR Rep.bool ρ ([.bool false]) [false] := RowR.cons (c := [.bool false]) (x := false) rfl (RowR.nil _ _)
      obtain ⟨a9, H⟩ := gd H
      refine O_appendR (i := 2) el68 hs rfl ae rfl rfl rfl (Src.lit (j := 0) hs rfl av) av a9 (fun ba aw w bb hs => Oa rfl rfl <| O_nil (ax _ _ _ (by repeat first | exact Sub.nil | refine Sub.cons rfl ?_) (ay (aa ++ ([false])) ba aw _ H (hs.sub (ssk (ssk (ssc ssr)))) bb)))
  ·rw [if_neg az] at H
   refine W_exit (bl _ _ (bj _ _ <| Wr fun b1 bc => Om rfl rfl <| Oa rfl rfl <| O_nil (bc _ _ <| W_ret ?_)))
   obtain rfl := sinj H
   exact ret1 rfl rfl ⟨_, _, _, rfl, Le.rfl' _, hs, ae⟩

def ref10_row.j1 (aa : Bool) : Option Bool := some aa
def ref10_row.f (x0 : List Spn) (x1 : Int) : Option Bool := if (0 : Int) ≤ x1 ∧ x1 < (x0.length : Int) then (if 0 ≤ ((rd x0 x1).lo) then (if ((rd x0 x1).lo) ≤ ((rd x0 x1).hi) then (if ((rd x0 x1).hi) ≤ 1114111 then (if x1 = 0 then (ref10_row.j1 true) else (if (0 : Int) ≤ IntKind.i64.wrap (x1 - 1) ∧ IntKind.i64.wrap (x1 - 1) < (x0.length : Int) then (ref10_row.j1 (decide (((rd x0 (IntKind.i64.wrap (x1 - 1))).hi) < ((rd x0 x1).lo)))) else none)) else (ref10_row.j1 false)) else (ref10_row.j1 false)) else (ref10_row.j1 false)) else none
theorem ref10_row.c {w0 w : World} {ρ : Hp} {Γ : List Item} (hs : St w0 ρ (Γ) w) {v0 : Value} {x0 : List Spn} (h0 : SlR rSpn ρ v0 x0) {x1 : Int} {r : Bool} (H : ref10_row.f x0 x1 = some r) : CallsR Tryz.prog 51 [v0, .int .i64 x1] w (fun v w' => v = .bool r ∧ St w0 ρ Γ w') := by
  rw [ref10_row.f] at H
  refine enter Tryz.func51 Tryz.ntmps51 rfl (by kernel_rfl) rfl <| Wr fun aw ak => Oa rfl rfl <| O_nil (ak _ _ <| Wr fun ax al => Om rfl rfl <| Om rfl rfl ?_)
  obtain ⟨ah, H⟩ := gd H
  obtain ⟨ay, az, am, an⟩ := h0.ix el32 ah.1 ah.2
  obtain ⟨_, rfl, ao⟩ := am
  refine O_y rfl (an rfl rfl) <| O_y rfl (Y_loadN ag74 sz74 rfl rfl (fun j u hu => hs.see (ao j u hu))) <| O_alloc zr74 hs rfl (fun ai w hs => O_storeN (i := 0) sz74 hs rfl rfl rfl rfl rfl (one_cons rfl (one_cons rfl one_nil)) (fun w hs => O_nil (al _ _ <| W_seqj fun ap aq ab => ?_)))
  have ac : ∀ (aa : Bool) (w : World), ref10_row.j1 aa = some r → St w0 ρ ((.box ai 74 ([.int .i32 ((rd x0 x1).lo), .int .i32 ((rd x0 x1).hi)])) :: Γ) w → ap [(4, .bool aa)] w := by
   intro aa w H hs
   rw [ref10_row.j1] at H
   refine aq _ _ <| W_ret ?_
   obtain rfl := sinj H
   exact ret1 rfl rfl ⟨rfl, (hs.sub (ssk ssr))⟩
  refine W_drawS 31 [0, 1, 2, 4, 8, 24, 8, 72, 168, 264, 520, 1024, 3072, 5120, 9216, 17408, 32768, 98304, 163840, 262144, 786432, 262144, 262144, 4456448, 10747904, 17039360, 33816576, 68419584, 134512640, 268468224, 1073741823] [1073741820, 1073741816, 1073741808, 1073739776, 1073741760, 1073741504, 1073741616, 1073741360, 1073740800, 1073739776, 1073676288, 1073733632, 1073725440, 1073709056, 1073676288, 267911168, 1073479680, 1073217536, 536870912, 1071644672, 937426944, 1054343168, 1060634624, 1043857408, 1008205824, 941096960, 806879232, 536870912, 0, 0, 0] [0, 1, 3, 7, 15, 31, 15, 79, 255, 511, 1023, 2047, 4095, 8191, 16383, 32767, 65535, 131071, 262143, 524287, 1048575, 524287, 524287, 4718591, 15204351, 31981567, 65535999, 134217727, 268435455, 536870911, 1073741823] [] (fun w => St w0 ρ ((.box ai 74 ([.int .i32 ((rd x0 x1).lo), .int .i32 ((rd x0 x1).hi)])) :: Γ) w) mixed (by kernel_rfl) (fun sh => ?_)
  have hs := hs.drew
  refine Dp 0 sh rfl rfl (by kernel_rfl) (fun w => Y_field fo74_0 rfl) <| Dy 1 sh rfl rfl (by kernel_rfl) hs (fun w hs => Yb 0 ag21 hs rfl rfl rfl) <| Dp 2 sh rfl rfl (by kernel_rfl) (fun w => Y_geq rfl rfl) <| Dm 3 sh rfl rfl (by kernel_rfl) rfl <| OD_if (dj := 13) rfl (fun ad => ?_) (fun ad => ?_)
  ·rw [if_pos ad] at H
   refine Dq 4 sh rfl rfl rfl rfl (by kernel_rfl) (fun w => Y_field fo74_0 rfl) <| Dz 5 sh rfl rfl rfl rfl (by kernel_rfl) hs (fun w hs => Yb 0 ag21 hs rfl rfl rfl) <| Dq 6 sh rfl rfl rfl rfl (by kernel_rfl) (fun w => Y_field fo74_1 rfl) <| Dz 7 sh rfl rfl rfl rfl (by kernel_rfl) hs (fun w hs => Yb 0 ag21 hs rfl rfl rfl) <| Dq 8 sh rfl rfl rfl rfl (by kernel_rfl) (fun w => Y_leq rfl rfl) <| Dp 9 sh rfl rfl (by kernel_rfl) (fun w => Y_pick_t rfl rfl) <| Dm 10 sh rfl rfl (by kernel_rfl) rfl <| OD_if (dj := 20) rfl (fun ae => ?_) (fun ae => ?_)
   ·rw [if_pos ae] at H
    refine Dq 11 sh rfl rfl rfl rfl (by kernel_rfl) (fun w => Y_field fo74_1 rfl) <| Dz 12 sh rfl rfl rfl rfl (by kernel_rfl) hs (fun w hs => Yb 0 ag21 hs rfl rfl rfl) <| Dq 13 sh rfl rfl rfl rfl (by kernel_rfl) (fun w => Y_leq rfl rfl) <| Dp 14 sh rfl rfl (by kernel_rfl) (fun w => Y_pick_t rfl rfl) <| Dm 15 sh rfl rfl (by kernel_rfl) rfl <| OD_if (dj := 25) rfl (fun af => ?_) (fun af => ?_)
    ·rw [if_pos af] at H
     refine Dq 16 sh rfl rfl rfl rfl (by kernel_rfl) (fun w => Y_move rfl) <| Dq 17 sh rfl rfl rfl rfl (by kernel_rfl) (fun w => Y_eql rfl rfl) <| Dq 18 sh rfl rfl rfl rfl (by kernel_rfl) (fun w => Y_move rfl) <| OD_if (dj := 28) rfl (fun ag => ?_) (fun ag => ?_)
     ·rw [if_pos ag] at H
      refine Dn 19 sh rfl rfl rfl rfl rfl (by kernel_rfl) <| Dn 20 sh rfl rfl rfl rfl rfl (by kernel_rfl) <| Dn 21 sh rfl rfl rfl rfl rfl (by kernel_rfl) <| Dn 22 sh rfl rfl rfl rfl rfl (by kernel_rfl) <| Dn 23 sh rfl rfl rfl rfl rfl (by kernel_rfl) <| Dn 24 sh rfl rfl rfl rfl rfl (by kernel_rfl) <| Dn 25 sh rfl rfl rfl rfl rfl (by kernel_rfl) <| Dn 26 sh rfl rfl rfl rfl rfl (by kernel_rfl) <| Dn 27 sh rfl rfl rfl rfl rfl (by kernel_rfl) <| Dq 28 sh rfl rfl rfl rfl (by kernel_rfl) (fun w => Y_pick_t rfl rfl) <| Dp 29 sh rfl rfl (by kernel_rfl) (fun w => Y_pick_t rfl rfl) <| Dp 30 sh rfl rfl (by kernel_rfl) (fun w => Y_assign rfl) <| OD_doneS sh (by kernel_rfl) (ab _ _ _ (S1 rfl) (ac true _ H hs))
     ·rw [if_neg ag] at H
      refine Dq 19 sh rfl rfl rfl rfl (by kernel_rfl) (fun w => Y_field fo74_0 rfl) <| Dz 20 sh rfl rfl rfl rfl (by kernel_rfl) hs (fun w hs => Yb 0 ag21 hs rfl rfl rfl) <| Dq 21 sh rfl rfl rfl rfl (by kernel_rfl) (fun w => Y_move rfl) <| Dq 22 sh rfl rfl rfl rfl (by kernel_rfl) (fun w => Y_move rfl) <| Dq 23 sh rfl rfl rfl rfl (by kernel_rfl) (fun w => Y_sub rfl rfl) ?_
      obtain ⟨aj, H⟩ := gd H
      obtain ⟨a0, a1, ar, au⟩ := h0.ix el32 aj.1 aj.2
      obtain ⟨_, rfl, av⟩ := ar
      refine Dq 24 sh rfl rfl rfl rfl (by kernel_rfl) (fun w => au rfl rfl) <| Dq 25 sh rfl rfl rfl rfl (by kernel_rfl) (fun w => Y_field fo74_1 rfl) <| Dz 26 sh rfl rfl rfl rfl (by kernel_rfl) hs (fun w hs => Y_load ag21 rfl (hs.see (av 1 _ rfl))) <| Dq 27 sh rfl rfl rfl rfl (by kernel_rfl) (fun w => Y_gtr rfl rfl) <| Dq 28 sh rfl rfl rfl rfl (by kernel_rfl) (fun w => Y_pick_f rfl rfl) <| Dp 29 sh rfl rfl (by kernel_rfl) (fun w => Y_pick_t rfl rfl) <| Dp 30 sh rfl rfl (by kernel_rfl) (fun w => Y_assign rfl) <| OD_doneS sh (by kernel_rfl) (ab _ _ _ (S1 rfl) (ac (decide (((rd x0 (IntKind.i64.wrap (x1 - 1))).hi) < ((rd x0 x1).lo))) _ H hs))
    ·rw [if_neg af] at H
     refine Dn 16 sh rfl rfl rfl rfl rfl (by kernel_rfl) <| Dn 17 sh rfl rfl rfl rfl rfl (by kernel_rfl) <| Dn 18 sh rfl rfl rfl rfl rfl (by kernel_rfl) <| OD_nouS sh (i := 19) rfl rfl rfl rfl (by kernel_rfl) <| OD_nouS sh (i := 20) rfl rfl rfl rfl (by kernel_rfl) <| OD_nouS sh (i := 21) rfl rfl rfl rfl (by kernel_rfl) <| OD_nouS sh (i := 22) rfl rfl rfl rfl (by kernel_rfl) <| OD_nouS sh (i := 23) rfl rfl rfl rfl (by kernel_rfl) <| OD_nouS sh (i := 24) rfl rfl rfl rfl (by kernel_rfl) <| OD_nouS sh (i := 25) rfl rfl rfl rfl (by kernel_rfl) <| OD_nouS sh (i := 26) rfl rfl rfl rfl (by kernel_rfl) <| OD_nouS sh (i := 27) rfl rfl rfl rfl (by kernel_rfl) <| Dn 28 sh rfl rfl rfl rfl rfl (by kernel_rfl) <| Dp 29 sh rfl rfl (by kernel_rfl) (fun w => Y_pick_f rfl rfl) ?_
     refine Dp 30 sh rfl rfl (by kernel_rfl) (fun w => Y_assign rfl) <| OD_doneS sh (by kernel_rfl) (ab _ _ _ (S1 rfl) (ac false _ H hs))
   ·rw [if_neg ae] at H
    refine Dn 11 sh rfl rfl rfl rfl rfl (by kernel_rfl) <| Dn 12 sh rfl rfl rfl rfl rfl (by kernel_rfl) <| Dn 13 sh rfl rfl rfl rfl rfl (by kernel_rfl) <| Dp 14 sh rfl rfl (by kernel_rfl) (fun w => Y_pick_f rfl rfl) <| Dm 15 sh rfl rfl (by kernel_rfl) rfl <| Dn 16 sh rfl rfl rfl rfl rfl (by kernel_rfl) <| Dn 17 sh rfl rfl rfl rfl rfl (by kernel_rfl) <| Dn 18 sh rfl rfl rfl rfl rfl (by kernel_rfl) <| OD_nouS sh (i := 19) rfl rfl rfl rfl (by kernel_rfl) <| OD_nouS sh (i := 20) rfl rfl rfl rfl (by kernel_rfl) <| OD_nouS sh (i := 21) rfl rfl rfl rfl (by kernel_rfl) <| OD_nouS sh (i := 22) rfl rfl rfl rfl (by kernel_rfl) <| OD_nouS sh (i := 23) rfl rfl rfl rfl (by kernel_rfl) <| OD_nouS sh (i := 24) rfl rfl rfl rfl (by kernel_rfl) ?_
    refine OD_nouS sh (i := 25) rfl rfl rfl rfl (by kernel_rfl) <| OD_nouS sh (i := 26) rfl rfl rfl rfl (by kernel_rfl) <| OD_nouS sh (i := 27) rfl rfl rfl rfl (by kernel_rfl) <| Dn 28 sh rfl rfl rfl rfl rfl (by kernel_rfl) <| Dp 29 sh rfl rfl (by kernel_rfl) (fun w => Y_pick_f rfl rfl) <| Dp 30 sh rfl rfl (by kernel_rfl) (fun w => Y_assign rfl) <| OD_doneS sh (by kernel_rfl) (ab _ _ _ (S1 rfl) (ac false _ H hs))
  ·rw [if_neg ad] at H
   refine Dn 4 sh rfl rfl rfl rfl rfl (by kernel_rfl) <| Dn 5 sh rfl rfl rfl rfl rfl (by kernel_rfl) <| Dn 6 sh rfl rfl rfl rfl rfl (by kernel_rfl) <| Dn 7 sh rfl rfl rfl rfl rfl (by kernel_rfl) <| Dn 8 sh rfl rfl rfl rfl rfl (by kernel_rfl) <| Dp 9 sh rfl rfl (by kernel_rfl) (fun w => Y_pick_f rfl rfl) <| Dm 10 sh rfl rfl (by kernel_rfl) rfl <| Dn 11 sh rfl rfl rfl rfl rfl (by kernel_rfl) <| Dn 12 sh rfl rfl rfl rfl rfl (by kernel_rfl) <| Dn 13 sh rfl rfl rfl rfl rfl (by kernel_rfl) <| Dp 14 sh rfl rfl (by kernel_rfl) (fun w => Y_pick_f rfl rfl) <| Dm 15 sh rfl rfl (by kernel_rfl) rfl <| Dn 16 sh rfl rfl rfl rfl rfl (by kernel_rfl) <| Dn 17 sh rfl rfl rfl rfl rfl (by kernel_rfl) ?_
   refine Dn 18 sh rfl rfl rfl rfl rfl (by kernel_rfl) <| OD_nouS sh (i := 19) rfl rfl rfl rfl (by kernel_rfl) <| OD_nouS sh (i := 20) rfl rfl rfl rfl (by kernel_rfl) <| OD_nouS sh (i := 21) rfl rfl rfl rfl (by kernel_rfl) <| OD_nouS sh (i := 22) rfl rfl rfl rfl (by kernel_rfl) <| OD_nouS sh (i := 23) rfl rfl rfl rfl (by kernel_rfl) <| OD_nouS sh (i := 24) rfl rfl rfl rfl (by kernel_rfl) <| OD_nouS sh (i := 25) rfl rfl rfl rfl (by kernel_rfl) <| OD_nouS sh (i := 26) rfl rfl rfl rfl (by kernel_rfl) <| OD_nouS sh (i := 27) rfl rfl rfl rfl (by kernel_rfl) <| Dn 28 sh rfl rfl rfl rfl rfl (by kernel_rfl) <| Dp 29 sh rfl rfl (by kernel_rfl) (fun w => Y_pick_f rfl rfl) <| Dp 30 sh rfl rfl (by kernel_rfl) (fun w => Y_assign rfl) <| OD_doneS sh (by kernel_rfl) (ab _ _ _ (S1 rfl) (ac false _ H hs))

def ref10_many.j1 (ad : Int → Option Int) (aa : Int) (ab : Bool) : Option Int := if ab = true then (some aa) else (ad (IntKind.i64.wrap (aa + 1)))
def ref10_many.l1 : Nat → List Spn → List Bool → Int → Option Int
  | 0, _, _, _ => none
  | ac + 1, x0, x1, aa => if aa < (x0.length : Int) then ((ref10_row.f x0 aa).bind fun ak => (if (!ak) = true then (ref10_many.j1 (ref10_many.l1 ac x0 x1) aa true) else (if (0 : Int) ≤ aa ∧ aa < (x1.length : Int) then (ref10_many.j1 (ref10_many.l1 ac x0 x1) aa (rd x1 aa)) else none))) else (some (-1))
def ref10_many.f (x0 : List Spn) (x1 : List Bool) : Option Int := if 65536 < (x0.length : Int) then (some 65536) else (ref10_many.l1 K0 x0 x1 0)
theorem ref10_many.c {w0 w : World} {ρ : Hp} {Γ : List Item} (hs : St w0 ρ (Γ) w) {v0 : Value} {x0 : List Spn} (h0 : SlR rSpn ρ v0 x0) {v1 : Value} {x1 : List Bool} (h1 : SlR Rep.bool ρ v1 x1) {r : Int} (H : ref10_many.f x0 x1 = some r) : CallsR Tryz.prog 33 [v0, v1] w (fun v w' => v = .int .i64 r ∧ St w0 ρ Γ w') := by
  rw [ref10_many.f] at H
  refine enter Tryz.func33 Tryz.ntmps33 rfl (by kernel_rfl) rfl <| Wr fun a7 ao => Oa rfl rfl <| O_nil (ao _ _ <| W_seq fun a8 ap => Wr fun a9 aq => Om rfl rfl <| O_y rfl (Y_lenR un32 h0 rfl) <| O_y rfl (Y_gtr rfl rfl) <| O_nil (aq _ _ <| W_if rfl (fun af => ?_) (fun af => ?_)))
  ·rw [if_pos af] at H
   refine Wr fun ba ar => Oa rfl rfl <| O_nil (ar _ _ <| W_ret ?_)
   obtain rfl := sinj H
   exact ret1 rfl rfl ⟨rfl, hs⟩
  ·rw [if_neg af] at H
   refine W_skip (ap _ _ <| W_seq fun bb au => Wr fun bc av => Om rfl rfl <| O_y rfl (Y_lenR un32 h0 rfl) <| Om rfl rfl <| O_nil (av _ _ <| W_block fun bd aw be => W_loop (σ := Nat × Int) (fun (ac, aa) => [(0, v0), (1, v1), (10, .int .i64 (x0.length : Int)), (11, .int .i64 aa)]) (fun (ac, aa) w => ref10_many.l1 ac x0 x1 aa = some r ∧ St w0 ρ (Γ) w) (fun s => s.1) (K0, 0) (S4 rfl rfl rfl rfl) (Ai H hs) ?_))
   rintro ⟨ac, aa⟩ w bf ⟨H, hs⟩ ae
   show W _ _ _ _ _ _ [(0, v0), (1, v1), (10, .int .i64 (x0.length : Int)), (11, .int .i64 aa)] w
   cases ac with
   | zero => rw [ref10_many.l1] at H; cases H
   | succ ac =>
   rw [ref10_many.l1] at H
   refine Wr fun bg ax => O_y rfl (Y_lss rfl rfl) <| O_nil (ax _ _ <| W_seq fun bh ay => W_if rfl (fun ag => ?_) (fun ag => ?_))
   ·rw [if_pos ag] at H
    refine W_skip (ay _ _ <| W_seq fun bi az => W_block fun bj bk bl => Wr fun bm a0 => Om rfl rfl <| Oa rfl rfl <| O_nil (a0 _ _ <| W_seqj fun a1 a2 al => ?_))
    have am : ∀ (ab : Bool) (w : World), ref10_many.j1 (ref10_many.l1 ac x0 x1) aa ab = some r → St w0 ρ (Γ) w → a1 [(0, v0), (1, v1), (5, .int .i64 aa), (10, .int .i64 (x0.length : Int)), (11, .int .i64 aa), (23, .bool ab)] w := by
     intro ab w H hs
     rw [ref10_many.j1] at H
     refine a2 _ _ <| W_cond rfl (fun ah => ?_) (fun ah => ?_)
     ·rw [if_pos ah] at H
      refine Wr fun bn a3 => Om rfl rfl <| Oa rfl rfl <| O_nil (a3 _ _ <| W_ret ?_)
      obtain rfl := sinj H
      exact ret1 rfl rfl ⟨rfl, hs⟩
     ·rw [if_neg (bft ah)] at H
      refine W_skip (az _ _ <| W_region <| O_y rfl (Y_add rfl rfl) <| Om rfl rfl <| O_nil (ae (ac, (IntKind.i64.wrap (aa + 1))) _ _ (S4 rfl rfl rfl rfl) (Ai H hs) (Nat.lt_succ_self _)))
    refine W_region <| Om rfl rfl <| Om rfl rfl ?_
    obtain ⟨ak, ai, H⟩ := bnd H
    refine O_call rfl rfl (ref10_row.c hs h0 ai) (fun bo w hpost => ?_)
    obtain ⟨rfl, hs⟩ := hpost
    refine O_y rfl (Y_not rfl) <| Om rfl rfl <| O_cases (dj := 18) rfl (fun aj => ?_) (fun aj => ?_)
    ·rw [if_pos aj] at H
     refine O_no rfl rfl rfl rfl <| O_no rfl rfl rfl rfl <| O_no rfl rfl rfl rfl <| O_no rfl rfl rfl rfl <| O_y rfl (Y_pick_t rfl rfl) <| O_nil (al _ _ _ (by repeat first | exact Sub.nil | refine Sub.cons rfl ?_) (am true _ H hs))
    ·rw [if_neg (bft aj)] at H
     refine O_yes rfl rfl <| Om rfl rfl <| O_yes rfl rfl <| Om rfl rfl ?_
     obtain ⟨an, H⟩ := gd H
     obtain ⟨bp, bq, a4, a5⟩ := h1.ix el68 an.1 an.2
     refine O_yes rfl rfl <| O_y rfl (a5 rfl rfl) <| O_yes rfl rfl <| O_y rfl (Y_load ag4 rfl (hs.see a4.bool)) <| O_y rfl (Y_pick_f rfl rfl) <| O_nil (al _ _ _ (by repeat first | exact Sub.nil | refine Sub.cons rfl ?_) (am (rd x1 aa) _ H hs))
   ·rw [if_neg ag] at H
    refine W_exit (aw _ _ (au _ _ <| Wr fun br a6 => Oa rfl rfl <| O_nil (a6 _ _ <| W_ret ?_)))
    obtain rfl := sinj H
    exact ret1 rfl rfl ⟨rfl, hs⟩

def ref10_spansOf.l1 : Nat → List Chs → List Spn → Int → Option (List Spn)
  | 0, _, _, _ => none
  | ae + 1, x0, ab, aa => if aa < (x0.length : Int) then (if (0 : Int) ≤ aa ∧ aa < (x0.length : Int) then (if ab.length + ([(⟨(rd x0 aa).lo, (rd x0 aa).hi⟩ : Spn)]).length ≤ most then ((ref10_spansOf.l1 ae x0) (ab ++ ([(⟨(rd x0 aa).lo, (rd x0 aa).hi⟩ : Spn)])) (IntKind.i64.wrap (aa + 1))) else none) else none) else (some ab)
def ref10_spansOf.f (x0 : List Chs) : Option (List Spn) := ref10_spansOf.l1 K0 x0 ([] : List Spn) 0
theorem ref10_spansOf.c {w0 w : World} {ρ : Hp} {Γ : List Item} (hs : St w0 ρ (Γ) w) {v0 : Value} {x0 : List Chs} (h0 : SlR rChs ρ v0 x0) {r : List Spn} (H : ref10_spansOf.f x0 = some r) : CallsR Tryz.prog 36 [v0] w (fun v w' => ∃ (ρ' : Hp) (v0 : Value) (cs0 : List Value), v = v0 ∧ Le ρ ρ' ∧ St w0 ρ' (.row v0 74 rSpn.sz r.length cs0 :: Γ) w' ∧ RowR rSpn ρ' cs0 r) := by
  rw [ref10_spansOf.f] at H
  refine enter Tryz.func36 Tryz.ntmps36 rfl (by kernel_rfl) rfl <| Wr fun a6 al => Oa rfl rfl <| O_nil (al _ _ <| Wr fun a7 am => O_lit2 (xs := []) (cs := []) el32 hs rfl rfl rfl (by decide) (by decide) rfl sz_nil flat_nil (fun an w hs => ?_))
  have ao : RowR rSpn ρ ([]) ([] : List Spn) := RowR.nil _ _
  refine Oa rfl rfl <| O_nil (am _ _ <| W_seq fun a8 ap => Wr fun a9 aq => Om rfl rfl <| O_y rfl (Y_lenR un31 h0 rfl) <| Om rfl rfl <| O_nil (aq _ _ <| W_block fun ba ar bb => W_loop (σ := Nat × List Spn × Int × Value × List Value) (fun (ae, ab, aa, ac, ad) => [(3, ac), (7, v0), (8, .int .i64 (x0.length : Int)), (9, .int .i64 aa)]) (fun (ae, ab, aa, ac, ad) w => ref10_spansOf.l1 ae x0 ab aa = some r ∧ St w0 ρ ((.row ac 74 rSpn.sz ab.length ad) :: Γ) w ∧ RowR rSpn ρ ad ab) (fun s => s.1) (K0, ([] : List Spn), 0, (.slice (some ⟨an, 0, none⟩) 0 0), ([])) (S4 rfl rfl rfl rfl) (Ai H (Ai hs ao)) ?_))
  rintro ⟨ae, ab, aa, ac, ad⟩ w bc ⟨H, hs, af⟩ ag
  show W _ _ _ _ _ _ [(3, ac), (7, v0), (8, .int .i64 (x0.length : Int)), (9, .int .i64 aa)] w
  cases ae with
  | zero => rw [ref10_spansOf.l1] at H; cases H
  | succ ae =>
  rw [ref10_spansOf.l1] at H
  refine Wr fun bd au => O_y rfl (Y_lss rfl rfl) <| O_nil (au _ _ <| W_seq fun be av => W_if rfl (fun ah => ?_) (fun ah => ?_))
  ·rw [if_pos ah] at H
   refine W_skip (av _ _ <| W_seq fun bf aw => W_block fun bg bh bi => W_seq fun bj ax => W_region ?_)
   obtain ⟨aj, H⟩ := gd H
   obtain ⟨bk, bl, ay, az⟩ := h0.ix el31 aj.1 aj.2
   obtain ⟨_, ⟨bm, rfl, a0⟩, a1⟩ := ay
   refine O_y rfl (az rfl rfl) <| O_y rfl (Y_loadN ag71 sz71 rfl rfl (fun j u hu => hs.see (a1 j u hu))) <| O_alloc zr71 hs rfl (fun bn w hs => O_storeN (i := 0) sz71 hs rfl rfl rfl rfl rfl (one_cons rfl (one_cons rfl (one_cons a0.one one_nil))) (fun w hs => O_nil (ax _ _ <| W_region <| Om rfl rfl <| O_y rfl (Y_field fo71_0 rfl) <| O_y rfl (Yb 0 ag21 hs rfl rfl rfl) <| O_y rfl (Y_field fo71_1 rfl) <| O_y rfl (Yb 0 ag21 hs rfl rfl rfl) <| O_y rfl (Y_build (cs := [.int .i32 ((rd x0 aa).lo), .int .i32 ((rd x0 aa).hi)]) zr74 pl74 ((Parts.cons rfl rfl (Parts.cons rfl rfl Parts.nil))) ag74 (by kernel_rfl)) <| O_lit2 (xs := [.tmp 18]) (cs := [.int .i32 ((rd x0 aa).lo), .int .i32 ((rd x0 aa).hi)]) el32 hs rfl rfl rfl (by decide) (by decide) rfl (sz_cons rfl sz_nil) (flat_cons rfl flat_nil) (fun bo w hs => ?_))))
   have ak : RowR rSpn ρ ([.int .i32 ((rd x0 aa).lo), .int .i32 ((rd x0 aa).hi)]) [(⟨(rd x0 aa).lo, (rd x0 aa).hi⟩ : Spn)] := RowR.cons (c := [.int .i32 ((rd x0 aa).lo), .int .i32 ((rd x0 aa).hi)]) (x := (⟨(rd x0 aa).lo, (rd x0 aa).hi⟩ : Spn)) rfl (RowR.nil _ _)
   obtain ⟨a2, H⟩ := gd H
   refine O_appendR (i := 2) el32 hs rfl af rfl rfl rfl (Src.lit (j := 0) hs rfl ak) ak a2 (fun a3 ai w a4 hs => Oa rfl rfl <| O_nil (aw _ _ <| W.weak [(3, _), (7, _), (8, _), (9, _)] (S4 rfl rfl rfl rfl) <| W_region <| O_y rfl (Y_add rfl rfl) <| Om rfl rfl <| O_nil (ag (ae, (ab ++ ([(⟨(rd x0 aa).lo, (rd x0 aa).hi⟩ : Spn)])), (IntKind.i64.wrap (aa + 1)), a3, ai) _ _ (S4 rfl rfl rfl rfl) (Ai H (Ai (hs.sub (ssk (ssk (ssc ssr)))) a4)) (Nat.lt_succ_self _))))
  ·rw [if_neg ah] at H
   refine W_exit (ar _ _ (ap _ _ <| Wr fun bp a5 => Om rfl rfl <| Oa rfl rfl <| O_nil (a5 _ _ <| W_ret ?_)))
   obtain rfl := sinj H
   exact ret1 rfl rfl ⟨_, _, _, rfl, Le.rfl' _, hs, af⟩

def ref10_hangul.j1 (ac : Bool) : Option Bool := some ac
def ref10_hangul.f (x0 : Int) : Option Bool := if 4352 ≤ x0 then (if x0 ≤ 4370 then (ref10_hangul.j1 true) else (if 4449 ≤ x0 then (if x0 ≤ 4469 then (ref10_hangul.j1 true) else (if 4520 ≤ x0 then (if x0 ≤ 4546 then (ref10_hangul.j1 true) else (if 44032 ≤ x0 then (ref10_hangul.j1 (decide (x0 ≤ 55203))) else (ref10_hangul.j1 false))) else (if 44032 ≤ x0 then (ref10_hangul.j1 (decide (x0 ≤ 55203))) else (ref10_hangul.j1 false)))) else (if 4520 ≤ x0 then (if x0 ≤ 4546 then (ref10_hangul.j1 true) else (if 44032 ≤ x0 then (ref10_hangul.j1 (decide (x0 ≤ 55203))) else (ref10_hangul.j1 false))) else (if 44032 ≤ x0 then (ref10_hangul.j1 (decide (x0 ≤ 55203))) else (ref10_hangul.j1 false))))) else (if 4449 ≤ x0 then (if x0 ≤ 4469 then (ref10_hangul.j1 true) else (if 4520 ≤ x0 then (if x0 ≤ 4546 then (ref10_hangul.j1 true) else (if 44032 ≤ x0 then (ref10_hangul.j1 (decide (x0 ≤ 55203))) else (ref10_hangul.j1 false))) else (if 44032 ≤ x0 then (ref10_hangul.j1 (decide (x0 ≤ 55203))) else (ref10_hangul.j1 false)))) else (if 4520 ≤ x0 then (if x0 ≤ 4546 then (ref10_hangul.j1 true) else (if 44032 ≤ x0 then (ref10_hangul.j1 (decide (x0 ≤ 55203))) else (ref10_hangul.j1 false))) else (if 44032 ≤ x0 then (ref10_hangul.j1 (decide (x0 ≤ 55203))) else (ref10_hangul.j1 false))))
theorem ref10_hangul.c {w0 w : World} {ρ : Hp} {Γ : List Item} (hs : St w0 ρ (Γ) w) {x0 : Int} {r : Bool} (H : ref10_hangul.f x0 = some r) : CallsR Tryz.prog 52 [.int .i32 x0] w (fun v w' => v = .bool r ∧ St w0 ρ Γ w') := by
  rw [ref10_hangul.f] at H
  refine enter Tryz.func52 Tryz.ntmps52 rfl (by kernel_rfl) rfl <| Wr fun a4 a1 => Oa rfl rfl <| O_nil (a1 _ _ <| W_seqj fun a2 a3 aa => ?_)
  have ab : ∀ (ac : Bool) (w : World), ref10_hangul.j1 ac = some r → St w0 ρ (Γ) w → a2 [(2, .bool ac)] w := by
   intro ac w H hs
   rw [ref10_hangul.j1] at H
   refine a3 _ _ <| W_ret ?_
   obtain rfl := sinj H
   exact ret1 rfl rfl ⟨rfl, hs⟩
  refine W_region <| Om rfl rfl <| O_y rfl (Y_geq rfl rfl) <| Om rfl rfl <| O_if (dj := 5) rfl (fun ad => ?_) (fun ad => ?_)
  ·rw [if_pos ad] at H
   refine O_yes rfl rfl <| Om rfl rfl <| O_yes rfl rfl <| O_y rfl (Y_leq rfl rfl) <| O_y rfl (Y_pick_t rfl rfl) <| Om rfl rfl <| O_if (dj := 9) rfl (fun ae => ?_) (fun ae => ?_)
   ·rw [if_pos ae] at H
    refine O_no rfl rfl rfl rfl <| O_no rfl rfl rfl rfl <| O_no rfl rfl rfl rfl <| O_nou rfl rfl rfl <| O_nou rfl rfl rfl <| O_no rfl rfl rfl rfl <| O_y rfl (Y_pick_t rfl rfl) <| Om rfl rfl <| O_no rfl rfl rfl rfl <| O_no rfl rfl rfl rfl <| O_no rfl rfl rfl rfl <| O_nou rfl rfl rfl <| O_nou rfl rfl rfl <| O_no rfl rfl rfl rfl ?_
    refine O_y rfl (Y_pick_t rfl rfl) <| Om rfl rfl <| O_no rfl rfl rfl rfl <| O_no rfl rfl rfl rfl <| O_no rfl rfl rfl rfl <| O_nou rfl rfl rfl <| O_nou rfl rfl rfl <| O_no rfl rfl rfl rfl <| O_y rfl (Y_pick_t rfl rfl) <| Oa rfl rfl <| O_nil (aa _ _ _ (S1 rfl) (ab true _ H hs))
   ·rw [if_neg ae] at H
    refine O_yes rfl rfl <| Om rfl rfl <| O_yes rfl rfl <| O_y rfl (Y_geq rfl rfl) <| O_yes rfl rfl <| Om rfl rfl <| O_if (dj := 12) rfl (fun af => ?_) (fun af => ?_)
    ·rw [if_pos af] at H
     refine O_yes rfl rfl <| Om rfl rfl <| O_yes rfl rfl <| O_y rfl (Y_leq rfl rfl) <| O_yes rfl rfl <| O_y rfl (Y_pick_t rfl rfl) <| O_y rfl (Y_pick_f rfl rfl) <| Om rfl rfl <| O_if (dj := 17) rfl (fun ag => ?_) (fun ag => ?_)
     ·rw [if_pos ag] at H
      refine O_no rfl rfl rfl rfl <| O_no rfl rfl rfl rfl <| O_no rfl rfl rfl rfl <| O_nou rfl rfl rfl <| O_nou rfl rfl rfl <| O_no rfl rfl rfl rfl <| O_y rfl (Y_pick_t rfl rfl) <| Om rfl rfl <| O_no rfl rfl rfl rfl <| O_no rfl rfl rfl rfl <| O_no rfl rfl rfl rfl <| O_nou rfl rfl rfl <| O_nou rfl rfl rfl <| O_no rfl rfl rfl rfl ?_
      refine O_y rfl (Y_pick_t rfl rfl) <| Oa rfl rfl <| O_nil (aa _ _ _ (S1 rfl) (ab true _ H hs))
     ·rw [if_neg ag] at H
      refine O_yes rfl rfl <| Om rfl rfl <| O_yes rfl rfl <| O_y rfl (Y_geq rfl rfl) <| O_yes rfl rfl <| Om rfl rfl <| O_if (dj := 20) rfl (fun ah => ?_) (fun ah => ?_)
      ·rw [if_pos ah] at H
       refine O_yes rfl rfl <| Om rfl rfl <| O_yes rfl rfl <| O_y rfl (Y_leq rfl rfl) <| O_yes rfl rfl <| O_y rfl (Y_pick_t rfl rfl) <| O_y rfl (Y_pick_f rfl rfl) <| Om rfl rfl <| O_if (dj := 25) rfl (fun ai => ?_) (fun ai => ?_)
       ·rw [if_pos ai] at H
        refine O_no rfl rfl rfl rfl <| O_no rfl rfl rfl rfl <| O_no rfl rfl rfl rfl <| O_nou rfl rfl rfl <| O_nou rfl rfl rfl <| O_no rfl rfl rfl rfl <| O_y rfl (Y_pick_t rfl rfl) <| Oa rfl rfl <| O_nil (aa _ _ _ (S1 rfl) (ab true _ H hs))
       ·rw [if_neg ai] at H
        refine O_yes rfl rfl <| Om rfl rfl <| O_yes rfl rfl <| O_y rfl (Y_geq rfl rfl) <| O_yes rfl rfl <| Om rfl rfl <| O_if (dj := 28) rfl (fun aj => ?_) (fun aj => ?_)
        ·rw [if_pos aj] at H
         refine O_yes rfl rfl <| Om rfl rfl <| O_yes rfl rfl <| O_y rfl (Y_leq rfl rfl) <| O_yes rfl rfl <| O_y rfl (Y_pick_t rfl rfl) <| O_y rfl (Y_pick_f rfl rfl) <| Oa rfl rfl <| O_nil (aa _ _ _ (S1 rfl) (ab (decide (x0 ≤ 55203)) _ H hs))
        ·rw [if_neg aj] at H
         refine O_no rfl rfl rfl rfl <| O_no rfl rfl rfl rfl <| O_yes rfl rfl <| O_y rfl (Y_pick_f rfl rfl) <| O_y rfl (Y_pick_f rfl rfl) <| Oa rfl rfl <| O_nil (aa _ _ _ (S1 rfl) (ab false _ H hs))
      ·rw [if_neg ah] at H
       refine O_no rfl rfl rfl rfl <| O_no rfl rfl rfl rfl <| O_yes rfl rfl <| O_y rfl (Y_pick_f rfl rfl) <| O_y rfl (Y_pick_f rfl rfl) <| Om rfl rfl <| O_yes rfl rfl <| Om rfl rfl <| O_yes rfl rfl <| O_y rfl (Y_geq rfl rfl) <| O_yes rfl rfl <| Om rfl rfl <| O_if (dj := 28) rfl (fun ak => ?_) (fun ak => ?_)
       ·rw [if_pos ak] at H
        refine O_yes rfl rfl <| Om rfl rfl <| O_yes rfl rfl <| O_y rfl (Y_leq rfl rfl) <| O_yes rfl rfl <| O_y rfl (Y_pick_t rfl rfl) <| O_y rfl (Y_pick_f rfl rfl) <| Oa rfl rfl <| O_nil (aa _ _ _ (S1 rfl) (ab (decide (x0 ≤ 55203)) _ H hs))
       ·rw [if_neg ak] at H
        refine O_no rfl rfl rfl rfl <| O_no rfl rfl rfl rfl <| O_yes rfl rfl <| O_y rfl (Y_pick_f rfl rfl) <| O_y rfl (Y_pick_f rfl rfl) <| Oa rfl rfl <| O_nil (aa _ _ _ (S1 rfl) (ab false _ H hs))
    ·rw [if_neg af] at H
     refine O_no rfl rfl rfl rfl <| O_no rfl rfl rfl rfl <| O_yes rfl rfl <| O_y rfl (Y_pick_f rfl rfl) <| O_y rfl (Y_pick_f rfl rfl) <| Om rfl rfl <| O_yes rfl rfl <| Om rfl rfl <| O_yes rfl rfl <| O_y rfl (Y_geq rfl rfl) <| O_yes rfl rfl <| Om rfl rfl <| O_if (dj := 20) rfl (fun al => ?_) (fun al => ?_)
     ·rw [if_pos al] at H
      refine O_yes rfl rfl <| Om rfl rfl <| O_yes rfl rfl <| O_y rfl (Y_leq rfl rfl) <| O_yes rfl rfl <| O_y rfl (Y_pick_t rfl rfl) <| O_y rfl (Y_pick_f rfl rfl) <| Om rfl rfl <| O_if (dj := 25) rfl (fun am => ?_) (fun am => ?_)
      ·rw [if_pos am] at H
       refine O_no rfl rfl rfl rfl <| O_no rfl rfl rfl rfl <| O_no rfl rfl rfl rfl <| O_nou rfl rfl rfl <| O_nou rfl rfl rfl <| O_no rfl rfl rfl rfl <| O_y rfl (Y_pick_t rfl rfl) <| Oa rfl rfl <| O_nil (aa _ _ _ (S1 rfl) (ab true _ H hs))
      ·rw [if_neg am] at H
       refine O_yes rfl rfl <| Om rfl rfl <| O_yes rfl rfl <| O_y rfl (Y_geq rfl rfl) <| O_yes rfl rfl <| Om rfl rfl <| O_if (dj := 28) rfl (fun an => ?_) (fun an => ?_)
       ·rw [if_pos an] at H
        refine O_yes rfl rfl <| Om rfl rfl <| O_yes rfl rfl <| O_y rfl (Y_leq rfl rfl) <| O_yes rfl rfl <| O_y rfl (Y_pick_t rfl rfl) <| O_y rfl (Y_pick_f rfl rfl) <| Oa rfl rfl <| O_nil (aa _ _ _ (S1 rfl) (ab (decide (x0 ≤ 55203)) _ H hs))
       ·rw [if_neg an] at H
        refine O_no rfl rfl rfl rfl <| O_no rfl rfl rfl rfl <| O_yes rfl rfl <| O_y rfl (Y_pick_f rfl rfl) <| O_y rfl (Y_pick_f rfl rfl) <| Oa rfl rfl <| O_nil (aa _ _ _ (S1 rfl) (ab false _ H hs))
     ·rw [if_neg al] at H
      refine O_no rfl rfl rfl rfl <| O_no rfl rfl rfl rfl <| O_yes rfl rfl <| O_y rfl (Y_pick_f rfl rfl) <| O_y rfl (Y_pick_f rfl rfl) <| Om rfl rfl <| O_yes rfl rfl <| Om rfl rfl <| O_yes rfl rfl <| O_y rfl (Y_geq rfl rfl) <| O_yes rfl rfl <| Om rfl rfl <| O_if (dj := 28) rfl (fun ao => ?_) (fun ao => ?_)
      ·rw [if_pos ao] at H
       refine O_yes rfl rfl <| Om rfl rfl <| O_yes rfl rfl <| O_y rfl (Y_leq rfl rfl) <| O_yes rfl rfl <| O_y rfl (Y_pick_t rfl rfl) <| O_y rfl (Y_pick_f rfl rfl) <| Oa rfl rfl <| O_nil (aa _ _ _ (S1 rfl) (ab (decide (x0 ≤ 55203)) _ H hs))
      ·rw [if_neg ao] at H
       refine O_no rfl rfl rfl rfl <| O_no rfl rfl rfl rfl <| O_yes rfl rfl <| O_y rfl (Y_pick_f rfl rfl) <| O_y rfl (Y_pick_f rfl rfl) <| Oa rfl rfl <| O_nil (aa _ _ _ (S1 rfl) (ab false _ H hs))
  ·rw [if_neg ad] at H
   refine O_no rfl rfl rfl rfl <| O_no rfl rfl rfl rfl <| O_y rfl (Y_pick_f rfl rfl) <| Om rfl rfl <| O_yes rfl rfl <| Om rfl rfl <| O_yes rfl rfl <| O_y rfl (Y_geq rfl rfl) <| O_yes rfl rfl <| Om rfl rfl <| O_if (dj := 12) rfl (fun ap => ?_) (fun ap => ?_)
   ·rw [if_pos ap] at H
    refine O_yes rfl rfl <| Om rfl rfl <| O_yes rfl rfl <| O_y rfl (Y_leq rfl rfl) <| O_yes rfl rfl <| O_y rfl (Y_pick_t rfl rfl) <| O_y rfl (Y_pick_f rfl rfl) <| Om rfl rfl <| O_if (dj := 17) rfl (fun aq => ?_) (fun aq => ?_)
    ·rw [if_pos aq] at H
     refine O_no rfl rfl rfl rfl <| O_no rfl rfl rfl rfl <| O_no rfl rfl rfl rfl <| O_nou rfl rfl rfl <| O_nou rfl rfl rfl <| O_no rfl rfl rfl rfl <| O_y rfl (Y_pick_t rfl rfl) <| Om rfl rfl <| O_no rfl rfl rfl rfl <| O_no rfl rfl rfl rfl <| O_no rfl rfl rfl rfl <| O_nou rfl rfl rfl <| O_nou rfl rfl rfl <| O_no rfl rfl rfl rfl ?_
     refine O_y rfl (Y_pick_t rfl rfl) <| Oa rfl rfl <| O_nil (aa _ _ _ (S1 rfl) (ab true _ H hs))
    ·rw [if_neg aq] at H
     refine O_yes rfl rfl <| Om rfl rfl <| O_yes rfl rfl <| O_y rfl (Y_geq rfl rfl) <| O_yes rfl rfl <| Om rfl rfl <| O_if (dj := 20) rfl (fun ar => ?_) (fun ar => ?_)
     ·rw [if_pos ar] at H
      refine O_yes rfl rfl <| Om rfl rfl <| O_yes rfl rfl <| O_y rfl (Y_leq rfl rfl) <| O_yes rfl rfl <| O_y rfl (Y_pick_t rfl rfl) <| O_y rfl (Y_pick_f rfl rfl) <| Om rfl rfl <| O_if (dj := 25) rfl (fun au => ?_) (fun au => ?_)
      ·rw [if_pos au] at H
       refine O_no rfl rfl rfl rfl <| O_no rfl rfl rfl rfl <| O_no rfl rfl rfl rfl <| O_nou rfl rfl rfl <| O_nou rfl rfl rfl <| O_no rfl rfl rfl rfl <| O_y rfl (Y_pick_t rfl rfl) <| Oa rfl rfl <| O_nil (aa _ _ _ (S1 rfl) (ab true _ H hs))
      ·rw [if_neg au] at H
       refine O_yes rfl rfl <| Om rfl rfl <| O_yes rfl rfl <| O_y rfl (Y_geq rfl rfl) <| O_yes rfl rfl <| Om rfl rfl <| O_if (dj := 28) rfl (fun av => ?_) (fun av => ?_)
       ·rw [if_pos av] at H
        refine O_yes rfl rfl <| Om rfl rfl <| O_yes rfl rfl <| O_y rfl (Y_leq rfl rfl) <| O_yes rfl rfl <| O_y rfl (Y_pick_t rfl rfl) <| O_y rfl (Y_pick_f rfl rfl) <| Oa rfl rfl <| O_nil (aa _ _ _ (S1 rfl) (ab (decide (x0 ≤ 55203)) _ H hs))
       ·rw [if_neg av] at H
        refine O_no rfl rfl rfl rfl <| O_no rfl rfl rfl rfl <| O_yes rfl rfl <| O_y rfl (Y_pick_f rfl rfl) <| O_y rfl (Y_pick_f rfl rfl) <| Oa rfl rfl <| O_nil (aa _ _ _ (S1 rfl) (ab false _ H hs))
     ·rw [if_neg ar] at H
      refine O_no rfl rfl rfl rfl <| O_no rfl rfl rfl rfl <| O_yes rfl rfl <| O_y rfl (Y_pick_f rfl rfl) <| O_y rfl (Y_pick_f rfl rfl) <| Om rfl rfl <| O_yes rfl rfl <| Om rfl rfl <| O_yes rfl rfl <| O_y rfl (Y_geq rfl rfl) <| O_yes rfl rfl <| Om rfl rfl <| O_if (dj := 28) rfl (fun aw => ?_) (fun aw => ?_)
      ·rw [if_pos aw] at H
       refine O_yes rfl rfl <| Om rfl rfl <| O_yes rfl rfl <| O_y rfl (Y_leq rfl rfl) <| O_yes rfl rfl <| O_y rfl (Y_pick_t rfl rfl) <| O_y rfl (Y_pick_f rfl rfl) <| Oa rfl rfl <| O_nil (aa _ _ _ (S1 rfl) (ab (decide (x0 ≤ 55203)) _ H hs))
      ·rw [if_neg aw] at H
       refine O_no rfl rfl rfl rfl <| O_no rfl rfl rfl rfl <| O_yes rfl rfl <| O_y rfl (Y_pick_f rfl rfl) <| O_y rfl (Y_pick_f rfl rfl) <| Oa rfl rfl <| O_nil (aa _ _ _ (S1 rfl) (ab false _ H hs))
   ·rw [if_neg ap] at H
    refine O_no rfl rfl rfl rfl <| O_no rfl rfl rfl rfl <| O_yes rfl rfl <| O_y rfl (Y_pick_f rfl rfl) <| O_y rfl (Y_pick_f rfl rfl) <| Om rfl rfl <| O_yes rfl rfl <| Om rfl rfl <| O_yes rfl rfl <| O_y rfl (Y_geq rfl rfl) <| O_yes rfl rfl <| Om rfl rfl <| O_if (dj := 20) rfl (fun ax => ?_) (fun ax => ?_)
    ·rw [if_pos ax] at H
     refine O_yes rfl rfl <| Om rfl rfl <| O_yes rfl rfl <| O_y rfl (Y_leq rfl rfl) <| O_yes rfl rfl <| O_y rfl (Y_pick_t rfl rfl) <| O_y rfl (Y_pick_f rfl rfl) <| Om rfl rfl <| O_if (dj := 25) rfl (fun ay => ?_) (fun ay => ?_)
     ·rw [if_pos ay] at H
      refine O_no rfl rfl rfl rfl <| O_no rfl rfl rfl rfl <| O_no rfl rfl rfl rfl <| O_nou rfl rfl rfl <| O_nou rfl rfl rfl <| O_no rfl rfl rfl rfl <| O_y rfl (Y_pick_t rfl rfl) <| Oa rfl rfl <| O_nil (aa _ _ _ (S1 rfl) (ab true _ H hs))
     ·rw [if_neg ay] at H
      refine O_yes rfl rfl <| Om rfl rfl <| O_yes rfl rfl <| O_y rfl (Y_geq rfl rfl) <| O_yes rfl rfl <| Om rfl rfl <| O_if (dj := 28) rfl (fun az => ?_) (fun az => ?_)
      ·rw [if_pos az] at H
       refine O_yes rfl rfl <| Om rfl rfl <| O_yes rfl rfl <| O_y rfl (Y_leq rfl rfl) <| O_yes rfl rfl <| O_y rfl (Y_pick_t rfl rfl) <| O_y rfl (Y_pick_f rfl rfl) <| Oa rfl rfl <| O_nil (aa _ _ _ (S1 rfl) (ab (decide (x0 ≤ 55203)) _ H hs))
      ·rw [if_neg az] at H
       refine O_no rfl rfl rfl rfl <| O_no rfl rfl rfl rfl <| O_yes rfl rfl <| O_y rfl (Y_pick_f rfl rfl) <| O_y rfl (Y_pick_f rfl rfl) <| Oa rfl rfl <| O_nil (aa _ _ _ (S1 rfl) (ab false _ H hs))
    ·rw [if_neg ax] at H
     refine O_no rfl rfl rfl rfl <| O_no rfl rfl rfl rfl <| O_yes rfl rfl <| O_y rfl (Y_pick_f rfl rfl) <| O_y rfl (Y_pick_f rfl rfl) <| Om rfl rfl <| O_yes rfl rfl <| Om rfl rfl <| O_yes rfl rfl <| O_y rfl (Y_geq rfl rfl) <| O_yes rfl rfl <| Om rfl rfl <| O_if (dj := 28) rfl (fun a0 => ?_) (fun a0 => ?_)
     ·rw [if_pos a0] at H
      refine O_yes rfl rfl <| Om rfl rfl <| O_yes rfl rfl <| O_y rfl (Y_leq rfl rfl) <| O_yes rfl rfl <| O_y rfl (Y_pick_t rfl rfl) <| O_y rfl (Y_pick_f rfl rfl) <| Oa rfl rfl <| O_nil (aa _ _ _ (S1 rfl) (ab (decide (x0 ≤ 55203)) _ H hs))
     ·rw [if_neg a0] at H
      refine O_no rfl rfl rfl rfl <| O_no rfl rfl rfl rfl <| O_yes rfl rfl <| O_y rfl (Y_pick_f rfl rfl) <| O_y rfl (Y_pick_f rfl rfl) <| Oa rfl rfl <| O_nil (aa _ _ _ (S1 rfl) (ab false _ H hs))

def ref10_decomposed.j1 (aq : List Bool → Int → Option (List Bool)) (aa : Int) (ae : List Bool) : Option (List Bool) := aq ae (IntKind.i64.wrap (aa + 1))
def ref10_decomposed.l1 : Nat → List Chs → List Bool → Int → Option (List Bool)
  | 0, _, _, _ => none
  | aj + 1, x0, ab, aa => if aa < (x0.length : Int) then (if (0 : Int) ≤ aa ∧ aa < (x0.length : Int) then (if (0 : Int) ≤ aa ∧ aa < (ab.length : Int) then (if (rd ab aa) = true then (ref10_decomposed.j1 (ref10_decomposed.l1 aj x0) aa (ab.set aa.toNat true)) else (if ((rd x0 aa).lo) ≠ ((rd x0 aa).hi) then (ref10_decomposed.j1 (ref10_decomposed.l1 aj x0) aa (ab.set aa.toNat true)) else ((ref10_hangul.f ((rd x0 aa).lo)).bind fun az => (if az = true then (ref10_decomposed.j1 (ref10_decomposed.l1 aj x0) aa (ab.set aa.toNat true)) else ((ref10_scalar.f ((rd x0 aa).lo)).bind fun ar => (ref10_decomposed.j1 (ref10_decomposed.l1 aj x0) aa (ab.set aa.toNat (!ar)))))))) else none) else none) else (some ab)
def ref10_decomposed.f (x0 : List Chs) : Option (List Bool) := (ref10_written.f x0 2).bind fun ba => (ref10_decomposed.l1 K0 x0 ba 0)
theorem ref10_decomposed.c {w0 w : World} {ρ : Hp} {Γ : List Item} (hs : St w0 ρ (Γ) w) {v0 : Value} {x0 : List Chs} (h0 : SlR rChs ρ v0 x0) {r : List Bool} (H : ref10_decomposed.f x0 = some r) : CallsR Tryz.prog 37 [v0] w (fun v w' => ∃ (ρ' : Hp) (v0 : Value) (cs0 : List Value), v = v0 ∧ Le ρ ρ' ∧ St w0 ρ' (.row v0 4 Rep.bool.sz r.length cs0 :: Γ) w' ∧ RowR Rep.bool ρ' cs0 r) := by
  rw [ref10_decomposed.f] at H
  refine enter Tryz.func37 Tryz.ntmps37 rfl (by kernel_rfl) rfl <| Wr fun cc bo => Oa rfl rfl <| O_nil (bo _ _ <| Wr fun cd bp => Om rfl rfl ?_)
  obtain ⟨ba, bb, H⟩ := bnd H
  refine O_call rfl rfl (ref10_written.c hs h0 bb) (fun bq w hpost => ?_)
  obtain ⟨a7, ce, bc, rfl, au, hs, br⟩ := hpost
  refine Oa rfl rfl <| O_nil (bp _ _ <| W_seq fun cf bs => Wr fun cg bt => Om rfl rfl <| O_y rfl (Y_lenR un31 (h0.mono au) rfl) <| Om rfl rfl <| O_nil (bt _ _ <| W_block fun ch bu ci => W_loop (σ := Nat × List Bool × Int × Value × List Value) (fun (aj, ab, aa, ad, ag) => [(3, ad), (8, v0), (9, .int .i64 (x0.length : Int)), (10, .int .i64 aa)]) (fun (aj, ab, aa, ad, ag) w => ref10_decomposed.l1 aj x0 ab aa = some r ∧ St w0 a7 ((.row ad 4 Rep.bool.sz ab.length ag) :: Γ) w ∧ RowR Rep.bool a7 ag ab) (fun s => s.1) (K0, ba, 0, bq, bc) (S4 rfl rfl rfl rfl) (Ai H (Ai hs br)) ?_))
  rintro ⟨aj, ab, aa, ad, ag⟩ w cj ⟨H, hs, ac⟩ av
  show W _ _ _ _ _ _ [(3, ad), (8, v0), (9, .int .i64 (x0.length : Int)), (10, .int .i64 aa)] w
  cases aj with
  | zero => rw [ref10_decomposed.l1] at H; cases H
  | succ aj =>
  rw [ref10_decomposed.l1] at H
  refine Wr fun ck bv => O_y rfl (Y_lss rfl rfl) <| O_nil (bv _ _ <| W_seq fun cl bw => W_if rfl (fun bd => ?_) (fun bd => ?_))
  ·rw [if_pos bd] at H
   refine W_skip (bw _ _ <| W_seqj fun bx bz a8 => ?_)
   have a9 : ∀ (ae : List Bool) (ah : Value) (ai : List Value) (w : World), ref10_decomposed.j1 (ref10_decomposed.l1 aj x0) aa ae = some r → St w0 a7 ((.row ah 4 Rep.bool.sz ae.length ai) :: Γ) w → RowR Rep.bool a7 ai ae → bx [(3, ah), (8, v0), (9, .int .i64 (x0.length : Int)), (10, .int .i64 aa)] w := by
    intro ae ah ai w H hs ak
    rw [ref10_decomposed.j1] at H
    refine bz _ _ <| W_region <| O_y rfl (Y_add rfl rfl) <| Om rfl rfl <| O_nil (av (aj, ae, (IntKind.i64.wrap (aa + 1)), ah, ai) _ _ (S4 rfl rfl rfl rfl) (Ai H (Ai hs ak)) (Nat.lt_succ_self _))
   refine W_block fun cm cn co => Wr fun cp b0 => Om rfl rfl ?_
   obtain ⟨bj, H⟩ := gd H
   obtain ⟨cq, cr, b1, b2⟩ := (h0.mono au).ix el31 bj.1 bj.2
   obtain ⟨_, ⟨cs, rfl, b3⟩, b4⟩ := b1
   refine O_y rfl (b2 rfl rfl) <| O_y rfl (Y_loadN ag71 sz71 rfl rfl (fun j u hu => hs.see (b4 j u hu))) <| O_alloc zr71 hs rfl (fun ct w hs => Oa rfl rfl <| O_storeN (i := 0) sz71 hs rfl rfl rfl rfl rfl (one_cons rfl (one_cons rfl (one_cons b3.one one_nil))) (fun w hs => O_nil (b0 _ _ <| W_region <| Om rfl rfl <| Om rfl rfl <| Om rfl rfl <| Om rfl rfl ?_)))
   obtain ⟨af, H⟩ := gd H
   obtain ⟨cu, al⟩ := hs.rowBlock (j := 1) rfl (by have := af.2; omega)
   obtain ⟨_, rfl, a0⟩ := ac.at af.1 af.2
   refine O_y rfl (Y_ixRow (j := 1) el68 hs rfl al rfl rfl af.1 af.2) <| O_y rfl (Y_load ag4 rfl (hs.rowCell (j := 1) rfl al (a0 0 _ rfl))) <| Om rfl rfl <| O_cases (dj := 21) rfl (fun aw => ?_) (fun aw => ?_)
   ·rw [if_pos aw] at H
    refine O_no rfl rfl rfl rfl <| O_no rfl rfl rfl rfl <| O_no rfl rfl rfl rfl <| O_no rfl rfl rfl rfl <| O_no rfl rfl rfl rfl <| O_y rfl (Y_pick_t rfl rfl) <| Om rfl rfl <| O_no rfl rfl rfl rfl <| O_no rfl rfl rfl rfl <| O_no rfl rfl rfl rfl <| O_y rfl (Y_pick_t rfl rfl) <| Om rfl rfl <| O_no rfl rfl rfl rfl <| O_no rfl rfl rfl rfl ?_
    refine O_no rfl rfl rfl rfl <| O_no rfl rfl rfl rfl <| O_y rfl (Y_pick_t rfl rfl) ?_
    obtain ⟨b5, am⟩ := hs.rowBlock (j := 1) rfl (by have := af.2; omega)
    obtain ⟨_, rfl, bk⟩ := ac.at af.1 af.2
    refine O_y rfl (Y_ixRow (j := 1) el68 hs rfl am rfl rfl af.1 af.2) <| O_storeRowR (j := 1) sz4 hs rfl am af.1 af.2 ac rfl rfl rfl (fun a1 w be hs => O_nil (a8 _ _ _ (S4 rfl rfl rfl rfl) (a9 (ab.set aa.toNat true) ad a1 _ H (hs.sub (ssk (ssc ssr))) be)))
   ·rw [if_neg (bft aw)] at H
    refine O_yes rfl rfl <| O_y rfl (Y_field fo71_0 rfl) <| O_yes rfl rfl <| O_y rfl (Yb 0 ag21 hs rfl rfl rfl) <| O_yes rfl rfl <| O_y rfl (Y_field fo71_1 rfl) <| O_yes rfl rfl <| O_y rfl (Yb 0 ag21 hs rfl rfl rfl) <| O_yes rfl rfl <| O_y rfl (Y_neq rfl rfl) <| O_y rfl (Y_pick_f rfl rfl) <| Om rfl rfl <| O_if (dj := 28) rfl (fun ax => ?_) (fun ax => ?_)
    ·rw [if_pos ax] at H
     refine O_no rfl rfl rfl rfl <| O_no rfl rfl rfl rfl <| O_no rfl rfl rfl rfl <| O_y rfl (Y_pick_t rfl rfl) <| Om rfl rfl <| O_no rfl rfl rfl rfl <| O_no rfl rfl rfl rfl <| O_no rfl rfl rfl rfl <| O_no rfl rfl rfl rfl <| O_y rfl (Y_pick_t rfl rfl) ?_
     obtain ⟨b6, an⟩ := hs.rowBlock (j := 1) rfl (by have := af.2; omega)
     obtain ⟨_, rfl, bl⟩ := ac.at af.1 af.2
     refine O_y rfl (Y_ixRow (j := 1) el68 hs rfl an rfl rfl af.1 af.2) <| O_storeRowR (j := 1) sz4 hs rfl an af.1 af.2 ac rfl rfl rfl (fun a2 w bf hs => O_nil (a8 _ _ _ (S4 rfl rfl rfl rfl) (a9 (ab.set aa.toNat true) ad a2 _ H (hs.sub (ssk (ssc ssr))) bf)))
    ·rw [if_neg ax] at H
     refine O_yes rfl rfl <| O_y rfl (Y_field fo71_0 rfl) <| O_yes rfl rfl <| O_y rfl (Yb 0 ag21 hs rfl rfl rfl) <| O_yes rfl rfl ?_
     obtain ⟨az, a3, H⟩ := bnd H
     refine O_call rfl rfl (ref10_hangul.c hs a3) (fun b7 w hpost => ?_)
     obtain ⟨rfl, hs⟩ := hpost
     refine O_y rfl (Y_pick_f rfl rfl) <| Om rfl rfl <| O_cases (dj := 33) rfl (fun ay => ?_) (fun ay => ?_)
     ·rw [if_pos ay] at H
      refine O_no rfl rfl rfl rfl <| O_no rfl rfl rfl rfl <| O_no rfl rfl rfl rfl <| O_no rfl rfl rfl rfl <| O_y rfl (Y_pick_t rfl rfl) ?_
      obtain ⟨b8, ao⟩ := hs.rowBlock (j := 1) rfl (by have := af.2; omega)
      obtain ⟨_, rfl, bm⟩ := ac.at af.1 af.2
      refine O_y rfl (Y_ixRow (j := 1) el68 hs rfl ao rfl rfl af.1 af.2) <| O_storeRowR (j := 1) sz4 hs rfl ao af.1 af.2 ac rfl rfl rfl (fun a4 w bg hs => O_nil (a8 _ _ _ (S4 rfl rfl rfl rfl) (a9 (ab.set aa.toNat true) ad a4 _ H (hs.sub (ssk (ssc ssr))) bg)))
     ·rw [if_neg (bft ay)] at H
      refine O_yes rfl rfl <| O_y rfl (Y_field fo71_0 rfl) <| O_yes rfl rfl <| O_y rfl (Yb 0 ag21 hs rfl rfl rfl) <| O_yes rfl rfl ?_
      obtain ⟨ar, a5, H⟩ := bnd H
      refine O_call rfl rfl (ref10_scalar.c hs a5) (fun b9 w hpost => ?_)
      obtain ⟨rfl, hs⟩ := hpost
      refine O_yes rfl rfl <| O_y rfl (Y_not rfl) <| O_y rfl (Y_pick_f rfl rfl) ?_
      obtain ⟨ca, ap⟩ := hs.rowBlock (j := 1) rfl (by have := af.2; omega)
      obtain ⟨_, rfl, bn⟩ := ac.at af.1 af.2
      refine O_y rfl (Y_ixRow (j := 1) el68 hs rfl ap rfl rfl af.1 af.2) <| O_storeRowR (j := 1) sz4 hs rfl ap af.1 af.2 ac rfl rfl rfl (fun a6 w bh hs => O_nil (a8 _ _ _ (S4 rfl rfl rfl rfl) (a9 (ab.set aa.toNat (!ar)) ad a6 _ H (hs.sub (ssk (ssc ssr))) bh)))
  ·rw [if_neg bd] at H
   refine W_exit (bu _ _ (bs _ _ <| Wr fun cb bi => Om rfl rfl <| Oa rfl rfl <| O_nil (bi _ _ <| W_ret ?_)))
   obtain rfl := sinj H
   exact ret1 rfl rfl ⟨_, _, _, rfl, au, hs, ac⟩

def ref10_chars.j1 (ad : Int → Option (List Int)) (x0 : List Chs) (aa : Int) (ab : Bool) : Option (List Int) := if ab = true then (some ((rd x0 aa).is_)) else (ad (IntKind.i64.wrap (aa + 1)))
def ref10_chars.l1 : Nat → List Chs → Int → Int → Option (List Int)
  | 0, _, _, _ => none
  | ac + 1, x0, x1, aa => if aa < (x0.length : Int) then (if (0 : Int) ≤ aa ∧ aa < (x0.length : Int) then (if ((rd x0 aa).lo) ≤ x1 then (ref10_chars.j1 (ref10_chars.l1 ac x0 x1) x0 aa (decide (x1 ≤ ((rd x0 aa).hi)))) else (ref10_chars.j1 (ref10_chars.l1 ac x0 x1) x0 aa false)) else none) else (some ([] : List Int))
def ref10_chars.f (x0 : List Chs) (x1 : Int) : Option (List Int) := ref10_chars.l1 K0 x0 x1 0
theorem ref10_chars.c {w0 w : World} {ρ : Hp} {Γ : List Item} (hs : St w0 ρ (Γ) w) {v0 : Value} {x0 : List Chs} (h0 : SlR rChs ρ v0 x0) {x1 : Int} {r : List Int} (H : ref10_chars.f x0 x1 = some r) : CallsR Tryz.prog 110 [v0, .int .i32 x1] w (fun v w' => ∃ (ρ' : Hp) (v0 : Value), v = v0 ∧ Le ρ ρ' ∧ St w0 ρ' (Γ) w' ∧ SlR (Rep.int .i32) ρ' v0 r) := by
  rw [ref10_chars.f] at H
  refine enter Tryz.func110 Tryz.ntmps110 rfl (by kernel_rfl) rfl <| Wr fun a6 an => Oa rfl rfl <| O_nil (an _ _ <| W_seq fun a7 ao => Wr fun a8 ap => Om rfl rfl <| O_y rfl (Y_lenR un31 h0 rfl) <| Om rfl rfl <| O_nil (ap _ _ <| W_block fun a9 aq ba => W_loop (σ := Nat × Int) (fun (ac, aa) => [(1, .int .i32 x1), (7, v0), (8, .int .i64 (x0.length : Int)), (9, .int .i64 aa)]) (fun (ac, aa) w => ref10_chars.l1 ac x0 x1 aa = some r ∧ St w0 ρ (Γ) w) (fun s => s.1) (K0, 0) (S4 rfl rfl rfl rfl) (Ai H hs) ?_))
  rintro ⟨ac, aa⟩ w bb ⟨H, hs⟩ ae
  show W _ _ _ _ _ _ [(1, .int .i32 x1), (7, v0), (8, .int .i64 (x0.length : Int)), (9, .int .i64 aa)] w
  cases ac with
  | zero => rw [ref10_chars.l1] at H; cases H
  | succ ac =>
  rw [ref10_chars.l1] at H
  refine Wr fun bc ar => O_y rfl (Y_lss rfl rfl) <| O_nil (ar _ _ <| W_seq fun bd au => W_if rfl (fun af => ?_) (fun af => ?_))
  ·rw [if_pos af] at H
   refine W_skip (au _ _ <| W_seq fun be av => W_block fun bf bg bh => W_seq fun bi aw => W_region ?_)
   obtain ⟨ai, H⟩ := gd H
   obtain ⟨bj, bk, ax, ay⟩ := h0.ix el31 ai.1 ai.2
   obtain ⟨_, ⟨az, rfl, aj⟩, a0⟩ := ax
   refine O_y rfl (ay rfl rfl) <| O_y rfl (Y_loadN ag71 sz71 rfl rfl (fun j u hu => hs.see (a0 j u hu))) <| O_alloc zr71 hs rfl (fun ak w hs => O_storeN (i := 0) sz71 hs rfl rfl rfl rfl rfl (one_cons rfl (one_cons rfl (one_cons aj.one one_nil))) (fun w hs => O_nil (aw _ _ <| W_seqj fun a1 a2 al => ?_)))
   have am : ∀ (ab : Bool) (w : World), ref10_chars.j1 (ref10_chars.l1 ac x0 x1) x0 aa ab = some r → St w0 ρ ((.box ak 71 ([.int .i32 ((rd x0 aa).lo), .int .i32 ((rd x0 aa).hi), az])) :: Γ) w → a1 [(1, .int .i32 x1), (6, .pointer (some ⟨ak, 0, none⟩)), (7, v0), (8, .int .i64 (x0.length : Int)), (9, .int .i64 aa), (22, .bool ab)] w := by
    intro ab w H hs
    rw [ref10_chars.j1] at H
    refine a2 _ _ <| W_cond rfl (fun ag => ?_) (fun ag => ?_)
    ·rw [if_pos ag] at H
     refine Wr fun bl a3 => O_y rfl (Y_field fo71_2 rfl) <| O_y rfl (Yb 0 ag28 hs rfl rfl rfl) <| Oa rfl rfl <| O_nil (a3 _ _ <| W_ret ?_)
     obtain rfl := sinj H
     exact ret1 rfl rfl ⟨_, _, rfl, Le.rfl' _, (hs.sub (ssk ssr)), aj⟩
    ·rw [if_neg (bft ag)] at H
     refine W_skip (av _ _ <| W_region <| O_y rfl (Y_add rfl rfl) <| Om rfl rfl <| O_nil (ae (ac, (IntKind.i64.wrap (aa + 1))) _ _ (S4 rfl rfl rfl rfl) (Ai H (hs.sub (ssk ssr))) (Nat.lt_succ_self _)))
   refine W_region <| Om rfl rfl <| O_y rfl (Y_field fo71_0 rfl) <| O_y rfl (Yb 0 ag21 hs rfl rfl rfl) <| O_y rfl (Y_geq rfl rfl) <| Om rfl rfl <| O_if (dj := 17) rfl (fun ah => ?_) (fun ah => ?_)
   ·rw [if_pos ah] at H
    refine O_yes rfl rfl <| Om rfl rfl <| O_yes rfl rfl <| O_y rfl (Y_field fo71_1 rfl) <| O_yes rfl rfl <| O_y rfl (Yb 0 ag21 hs rfl rfl rfl) <| O_yes rfl rfl <| O_y rfl (Y_leq rfl rfl) <| O_y rfl (Y_pick_t rfl rfl) <| O_nil (al _ _ _ (by repeat first | exact Sub.nil | refine Sub.cons rfl ?_) (am (decide (x1 ≤ ((rd x0 aa).hi))) _ H hs))
   ·rw [if_neg ah] at H
    refine O_no rfl rfl rfl rfl <| O_no rfl rfl rfl rfl <| O_no rfl rfl rfl rfl <| O_no rfl rfl rfl rfl <| O_y rfl (Y_pick_f rfl rfl) <| O_nil (al _ _ _ (by repeat first | exact Sub.nil | refine Sub.cons rfl ?_) (am false _ H hs))
  ·rw [if_neg af] at H
   refine W_exit (aq _ _ (ao _ _ <| Wr fun bm a4 => Oa rfl rfl <| O_nil (a4 _ _ <| W_ret ?_)))
   have a5 : SlR (Rep.int .i32) ρ (.slice none 0 0) [] := .inl ⟨rfl, none, 0, rfl⟩
   obtain rfl := sinj H
   exact ret1 rfl rfl ⟨_, _, rfl, Le.rfl' _, hs, a5⟩

def ref10_Parts.f (x0 : Bk) (x1 : Int) : Option (List Int) := (ref10_chars.f x0.decomp x1).bind fun ac => (some ac)
theorem ref10_Parts.c {w0 w : World} {ρ : Hp} {Γ : List Item} (hs : St w0 ρ (Γ) w) {c0 : List Value} {x0 : Bk} (h0 : rBk.R ρ c0 x0) {x1 : Int} {r : List Int} (H : ref10_Parts.f x0 x1 = some r) : CallsR Tryz.prog 90 [.agg c0.toArray, .int .i32 x1] w (fun v w' => ∃ (ρ' : Hp) (v0 : Value), v = v0 ∧ Le ρ ρ' ∧ St w0 ρ' (Γ) w' ∧ SlR (Rep.int .i32) ρ' v0 r) := by
  rw [ref10_Parts.f] at H
  refine enter Tryz.func90 Tryz.ntmps90 rfl (by kernel_rfl) rfl ?_
  have ad := h0
  obtain ⟨ae, af, ag, ah, ai, aj, ak, al, am, an, ao, rfl, av, aw, ax, ay, ap, az, a0, a1, a2, a3, a4⟩ := ad
  refine Wr fun a5 aq => O_boxN (cs := [ae, af, ag, ah, ai, aj, ak, al, am, an, ao]) hs rfl rfl (fun a6 w hs => Oa rfl rfl <| O_nil (aq _ _ <| Wr fun a7 ar => O_y rfl (Y_field fo34_4 rfl) <| O_y rfl (Yb 0 ag31 hs rfl rfl rfl) <| Om rfl rfl ?_))
  obtain ⟨ac, aa, H⟩ := bnd H
  refine O_call rfl rfl (ref10_chars.c hs ap aa) (fun a8 w hpost => ?_)
  obtain ⟨a9, ba, rfl, ab, hs, au⟩ := hpost
  refine Oa rfl rfl <| O_nil (ar _ _ <| W_ret ?_)
  obtain rfl := sinj H
  exact ret1 rfl rfl ⟨_, _, rfl, ab, (hs.sub (ssk ssr)), au⟩

def ref10_long.j1 (ag : Int → Int → Option Int) (aa ad : Int) : Option Int := ag ad (IntKind.i64.wrap (aa + 1))
def ref10_long.l1 : Nat → (Bk → Int → Int → Option Int) → Bk → Int → List Int → Int → Int → Option Int
  | 0, _, _, _, _, _, _ => none
  | ac + 1, rec, x0, x2, ae, ab, aa => if aa < (ae.length : Int) then (if (0 : Int) ≤ aa ∧ aa < (ae.length : Int) then (if ab ≤ 18 then ((rec x0 (rd ae aa) (IntKind.i64.wrap (x2 + 1))).bind fun ai => (ref10_long.j1 (ref10_long.l1 ac rec x0 x2 ae) aa (IntKind.i64.wrap (ab + ai)))) else (ref10_long.j1 (ref10_long.l1 ac rec x0 x2 ae) aa ab)) else none) else (if 18 < ab then (some 19) else (some ab))
def ref10_long.b (rec : Bk → Int → Int → Option Int) (x0 : Bk) (x1 x2 : Int) : Option Int := (ref10_Parts.f x0 x1).bind fun ae => (if (ae.length : Int) = 0 then (some 1) else (if (x0.decomp.length : Int) < x2 then (some 19) else (ref10_long.l1 K0 rec x0 x2 ae 0 0)))
def ref10_long.f : Nat → Bk → Int → Int → Option Int
  | 0, _, _, _ => none
  | k + 1, x0, x1, x2 => ref10_long.b (ref10_long.f k) x0 x1 x2
def ref10_long.Spec (rec : Bk → Int → Int → Option Int) : Prop := ∀ {w0 w : World} {ρ : Hp} {Γ : List Item} (hs : St w0 ρ (Γ) w) {c0 : List Value} {x0 : Bk} (h0 : rBk.R ρ c0 x0) {x1 x2 r : Int}, rec x0 x1 x2 = some r → CallsR Tryz.prog 53 [.agg c0.toArray, .int .i32 x1, .int .i64 x2] w (fun v w' => v = .int .i64 r ∧ St w0 ρ Γ w')
theorem ref10_long.cb (rec : Bk → Int → Int → Option Int) (hrec : ref10_long.Spec rec) {w0 w : World} {ρ : Hp} {Γ : List Item} (hs : St w0 ρ (Γ) w) {c0 : List Value} {x0 : Bk} (h0 : rBk.R ρ c0 x0) {x1 x2 r : Int} (H : ref10_long.b rec x0 x1 x2 = some r) : CallsR Tryz.prog 53 [.agg c0.toArray, .int .i32 x1, .int .i64 x2] w (fun v w' => v = .int .i64 r ∧ St w0 ρ Γ w') := by
  rw [ref10_long.b] at H
  refine enter Tryz.func53 Tryz.ntmps53 rfl (by kernel_rfl) rfl ?_
  have bq := h0
  obtain ⟨ar, au, av, aw, ax, ay, az, a0, a1, a2, a3, rfl, cm, cn, co, cp, br, cq, cr, ct, cu, cv, cw⟩ := bq
  refine Wr fun cx bs => O_boxN (cs := [ar, au, av, aw, ax, ay, az, a0, a1, a2, a3]) hs rfl rfl (fun am w hs => Oa rfl rfl <| O_nil (bs _ _ <| Wr fun cy bt => O_y rfl (Y_loadbN (i := 0) ag34 sz34 hs rfl rfl rfl rfl) <| Om rfl rfl ?_))
  obtain ⟨ae, a4, H⟩ := bnd H
  refine O_call rfl rfl (ref10_Parts.c hs h0 a4) (fun a5 w hpost => ?_)
  obtain ⟨bp, cz, rfl, af, hs, a6⟩ := hpost
  refine Oa rfl rfl <| O_nil (bt _ _ <| W_seq fun da bu => Wr fun db bv => Om rfl rfl <| O_y rfl (Y_lenR un28 a6 rfl) <| O_y rfl (Y_eql rfl rfl) <| O_nil (bv _ _ <| W_if rfl (fun a7 => ?_) (fun a7 => ?_)))
  ·rw [if_pos a7] at H
   refine Wr fun dc bw => Oa rfl rfl <| O_nil (bw _ _ <| W_ret ?_)
   obtain rfl := sinj H
   exact ret1 rfl rfl ⟨rfl, ((hs.sub (ssk ssr)).less af)⟩
  ·rw [if_neg a7] at H
   refine W_skip (bu _ _ <| W_seq fun dd bx => Wr fun de bz => Om rfl rfl <| O_y rfl (Y_field fo34_4 rfl) <| O_y rfl (Yb 0 ag31 hs rfl rfl rfl) <| O_y rfl (Y_lenR un31 (br.mono af) rfl) <| O_y rfl (Y_gtr rfl rfl) <| O_nil (bz _ _ <| W.weak [(2, _), (3, _), (7, _), (21, _)] (S4 rfl rfl rfl rfl) <| W_if rfl (fun a8 => ?_) (fun a8 => ?_)))
   ·rw [if_pos a8] at H
    refine Wr fun df b0 => Oa rfl rfl <| O_nil (b0 _ _ <| W_ret ?_)
    obtain rfl := sinj H
    exact ret1 rfl rfl ⟨rfl, ((hs.sub (ssk ssr)).less af)⟩
   ·rw [if_neg a8] at H
    refine W_skip (bx _ _ <| Wr fun b1 a9 => Oa rfl rfl <| O_nil (a9 _ _ <| W_seq fun b2 ba => Wr fun b3 bb => Om rfl rfl <| O_y rfl (Y_lenR un28 a6 rfl) <| Om rfl rfl <| O_nil (bb _ _ <| W_block fun b4 bc b5 => W_loop (σ := Nat × Int × Int) (fun (ac, ab, aa) => [(2, .int .i64 x2), (3, .pointer (some ⟨am, 0, none⟩)), (8, .int .i64 ab), (22, a5), (23, .int .i64 (ae.length : Int)), (24, .int .i64 aa)]) (fun (ac, ab, aa) w => ref10_long.l1 ac rec x0 x2 ae ab aa = some r ∧ St w0 bp ((.box am 34 ([ar, au, av, aw, ax, ay, az, a0, a1, a2, a3])) :: Γ) w) (fun s => s.1) (K0, 0, 0) (by repeat first | exact Sub.nil | refine Sub.cons rfl ?_) (Ai H hs) ?_)))
    rintro ⟨ac, ab, aa⟩ w b6 ⟨H, hs⟩ ah
    show W _ _ _ _ _ _ [(2, .int .i64 x2), (3, .pointer (some ⟨am, 0, none⟩)), (8, .int .i64 ab), (22, a5), (23, .int .i64 (ae.length : Int)), (24, .int .i64 aa)] w
    cases ac with
    | zero => rw [ref10_long.l1] at H; cases H
    | succ ac =>
    rw [ref10_long.l1] at H
    refine Wr fun b7 bd => O_y rfl (Y_lss rfl rfl) <| O_nil (bd _ _ <| W_seq fun b8 be => W_if rfl (fun aj => ?_) (fun aj => ?_))
    ·rw [if_pos aj] at H
     refine W_skip (be _ _ <| W_seqj fun bf bg an => ?_)
     have ao : ∀ (ad : Int) (w : World), ref10_long.j1 (ref10_long.l1 ac rec x0 x2 ae) aa ad = some r → St w0 bp ((.box am 34 ([ar, au, av, aw, ax, ay, az, a0, a1, a2, a3])) :: Γ) w → bf [(2, .int .i64 x2), (3, .pointer (some ⟨am, 0, none⟩)), (8, .int .i64 ad), (22, a5), (23, .int .i64 (ae.length : Int)), (24, .int .i64 aa)] w := by
      intro ad w H hs
      rw [ref10_long.j1] at H
      refine bg _ _ <| W_region <| O_y rfl (Y_add rfl rfl) <| Om rfl rfl <| O_nil (ah (ac, ad, (IntKind.i64.wrap (aa + 1))) _ _ (by repeat first | exact Sub.nil | refine Sub.cons rfl ?_) (Ai H hs) (Nat.lt_succ_self _))
     refine W_block fun b9 ca cc => W_seq fun cd bh => W_region ?_
     obtain ⟨ap, H⟩ := gd H
     obtain ⟨ce, cf, bi, bj⟩ := a6.ix el28 ap.1 ap.2
     refine O_y rfl (bj rfl rfl) <| O_y rfl (Y_load ag21 rfl (hs.see bi.int)) <| Oa rfl rfl <| O_nil (bh _ _ <| Wr fun cg bk => Om rfl rfl <| O_y rfl (Y_leq rfl rfl) <| O_nil (bk _ _ <| W_if rfl (fun ak => ?_) (fun ak => ?_)))
     ·rw [if_pos ak] at H
      refine W_region <| Om rfl rfl <| O_y rfl (Y_loadbN (i := 0) ag34 sz34 hs rfl rfl rfl rfl) <| Om rfl rfl <| Om rfl rfl <| O_y rfl (Y_add rfl rfl) ?_
      obtain ⟨ai, aq, H⟩ := bnd H
      refine O_call rfl rfl (hrec hs (rBk.mono af h0) aq) (fun ch w hpost => ?_)
      obtain ⟨rfl, hs⟩ := hpost
      refine O_y rfl (Y_add rfl rfl) <| Oa rfl rfl <| O_nil (an _ _ _ (by repeat first | exact Sub.nil | refine Sub.cons rfl ?_) (ao (IntKind.i64.wrap (ab + ai)) _ H hs))
     ·rw [if_neg ak] at H
      exact W_skip (an _ _ _ (by repeat first | exact Sub.nil | refine Sub.cons rfl ?_) (ao ab _ H hs))
    ·rw [if_neg aj] at H
     refine W_exit (bc _ _ (ba _ _ <| W_seq fun ci bl => Wr fun cj bm => Om rfl rfl <| O_y rfl (Y_gtr rfl rfl) <| O_nil (bm _ _ <| W_if rfl (fun al => ?_) (fun al => ?_))))
     ·rw [if_pos al] at H
      refine Wr fun ck bn => Oa rfl rfl <| O_nil (bn _ _ <| W_ret ?_)
      obtain rfl := sinj H
      exact ret1 rfl rfl ⟨rfl, ((hs.sub (ssk ssr)).less af)⟩
     ·rw [if_neg al] at H
      refine W_skip (bl _ _ <| Wr fun cl bo => Om rfl rfl <| Oa rfl rfl <| O_nil (bo _ _ <| W_ret ?_))
      obtain rfl := sinj H
      exact ret1 rfl rfl ⟨rfl, ((hs.sub (ssk ssr)).less af)⟩
theorem ref10_long.c (k : Nat) : ref10_long.Spec (ref10_long.f k) := by
  induction k with
  | zero => intro w0 w ρ Γ hs c0 x0 h0 x1 x2 r H; exact nomatch (show (none : Option _) = some _ from H)
  | succ k ih => intro w0 w ρ Γ hs c0 x0 h0 x1 x2 r H; exact ref10_long.cb (ref10_long.f k) ih hs h0 H

def ref10_whole.j1 (ai : Int → Option Int) (aa ab : Int) (ad : Bool) : Option Int := if ad = true then (some aa) else (ai (IntKind.i64.wrap (ab + 1)))
def ref10_whole.l1 (ae : Int → Option Int) : Nat → Bk → Int → Int → Option Int
  | 0, _, _, _ => none
  | ac + 1, x0, aa, ab => if ab < ((sub x0.decomp 0 aa).length : Int) then (if (0 : Int) ≤ ab ∧ ab < ((sub x0.decomp 0 aa).length : Int) then (if (((rd x0.decomp aa).is_).length : Int) = 2 then (if (((rd (sub x0.decomp 0 aa) ab).is_).length : Int) = 2 then (if (0 : Int) ≤ 0 ∧ 0 < (((rd x0.decomp aa).is_).length : Int) then (if (0 : Int) ≤ 0 ∧ 0 < (((rd (sub x0.decomp 0 aa) ab).is_).length : Int) then (if (rd ((rd x0.decomp aa).is_) 0) = (rd ((rd (sub x0.decomp 0 aa) ab).is_) 0) then (if (0 : Int) ≤ 1 ∧ 1 < (((rd x0.decomp aa).is_).length : Int) then (if (0 : Int) ≤ 1 ∧ 1 < (((rd (sub x0.decomp 0 aa) ab).is_).length : Int) then (ref10_whole.j1 (ref10_whole.l1 ae ac x0 aa) aa ab (decide ((rd ((rd x0.decomp aa).is_) 1) = (rd ((rd (sub x0.decomp 0 aa) ab).is_) 1)))) else none) else none) else (ref10_whole.j1 (ref10_whole.l1 ae ac x0 aa) aa ab false)) else none) else none) else (ref10_whole.j1 (ref10_whole.l1 ae ac x0 aa) aa ab false)) else (ref10_whole.j1 (ref10_whole.l1 ae ac x0 aa) aa ab false)) else none) else (ae (IntKind.i64.wrap (aa + 1)))
def ref10_whole.l2 : Nat → Bk → Int → Option Int
  | 0, _, _ => none
  | af + 1, x0, aa => if aa < (x0.decomp.length : Int) then (if (0 : Int) ≤ aa ∧ aa < (x0.decomp.length : Int) then ((ref10_long.f K0 x0 ((rd x0.decomp aa).lo) 0).bind fun a1 => (if 18 < a1 then (some aa) else (if (0 : Int) ≤ 0 ∧ 0 ≤ aa ∧ aa ≤ (x0.decomp.length : Int) then (ref10_whole.l1 (ref10_whole.l2 af x0) K0 x0 aa 0) else none))) else none) else (some (-1))
def ref10_whole.f (x0 : Bk) : Option Int := ref10_whole.l2 K0 x0 0
theorem ref10_whole.c {w0 w : World} {ρ : Hp} {Γ : List Item} (hs : St w0 ρ (Γ) w) {c0 : List Value} {x0 : Bk} (h0 : rBk.R ρ c0 x0) {r : Int} (H : ref10_whole.f x0 = some r) : CallsR Tryz.prog 38 [.agg c0.toArray] w (fun v w' => v = .int .i64 r ∧ St w0 ρ Γ w') := by
  rw [ref10_whole.f] at H
  refine enter Tryz.func38 Tryz.ntmps38 rfl (by kernel_rfl) rfl ?_
  have ch := h0
  obtain ⟨a2, a3, a4, a5, ah, a6, a7, a8, a9, ba, bb, rfl, dw, dx, dy, dz, bl, ea, eb, ec, ed, ee, ef⟩ := ch
  refine Wr fun eg ci => O_boxN (cs := [a2, a3, a4, a5, ah, a6, a7, a8, a9, ba, bb]) hs rfl rfl (fun aj w hs => Oa rfl rfl <| O_nil (ci _ _ <| W_seq fun eh cj => Wr fun ei ck => O_y rfl (Y_field fo34_4 rfl) <| O_y rfl (Yb 0 ag31 hs rfl rfl rfl) <| O_y rfl (Y_lenR un31 bl rfl) <| Om rfl rfl <| O_nil (ck _ _ <| W_block fun ej cl ek => ?_)))
  refine W_loop (σ := Nat × Int) (fun (af, aa) => [(1, .pointer (some ⟨aj, 0, none⟩)), (8, ah), (9, .int .i64 (x0.decomp.length : Int)), (10, .int .i64 aa)]) (fun (af, aa) w => ref10_whole.l2 af x0 aa = some r ∧ St w0 ρ ((.box aj 34 ([a2, a3, a4, a5, ah, a6, a7, a8, a9, ba, bb])) :: Γ) w) (fun s => s.1) (K0, 0) (S4 rfl rfl rfl rfl) (Ai H hs) ?_
  rintro ⟨af, aa⟩ w el ⟨H, hs⟩ ap
  show W _ _ _ _ _ _ [(1, .pointer (some ⟨aj, 0, none⟩)), (8, ah), (9, .int .i64 (x0.decomp.length : Int)), (10, .int .i64 aa)] w
  cases af with
  | zero => rw [ref10_whole.l2] at H; cases H
  | succ af =>
  rw [ref10_whole.l2] at H
  refine Wr fun em cm => O_y rfl (Y_lss rfl rfl) <| O_nil (cm _ _ <| W_seq fun en cn => W_if rfl (fun bm => ?_) (fun bm => ?_))
  ·rw [if_pos bm] at H
   refine W_skip (cn _ _ <| W_seq fun eo co => W_block fun ep eq er => Wr fun es cp => Om rfl rfl ?_)
   obtain ⟨cg, H⟩ := gd H
   obtain ⟨cq, cr, bn, bo⟩ := bl.ix el31 cg.1 cg.2
   obtain ⟨_, ⟨aq, rfl, ak⟩, bp⟩ := bn
   refine O_y rfl (bo rfl rfl) <| O_y rfl (Y_loadN ag71 sz71 rfl rfl (fun j u hu => hs.see (bp j u hu))) <| O_alloc zr71 hs rfl (fun ag w hs => Oa rfl rfl <| O_storeN (i := 0) sz71 hs rfl rfl rfl rfl rfl (one_cons rfl (one_cons rfl (one_cons ak.one one_nil))) (fun w hs => O_nil (cp _ _ <| W_seq fun ct bq => Wr fun cu br => O_y rfl (Y_loadbN (i := 1) ag34 sz34 hs rfl rfl rfl rfl) <| O_y rfl (Y_field fo71_0 rfl) <| O_y rfl (Yb 0 ag21 hs rfl rfl rfl) ?_)))
   obtain ⟨a1, bc, H⟩ := bnd H
   refine O_call rfl rfl ((ref10_long.c K0) hs h0 bc) (fun cv w hpost => ?_)
   obtain ⟨rfl, hs⟩ := hpost
   refine O_y rfl (Y_gtr rfl rfl) <| O_nil (br _ _ <| W.weak [(1, _), (3, _), (4, _), (8, _), (9, _), (10, _), (19, _)] (by repeat first | exact Sub.nil | refine Sub.cons rfl ?_) ?_)
   refine W_if rfl (fun ar => ?_) (fun ar => ?_)
   ·rw [if_pos ar] at H
    refine Wr fun cw bs => Om rfl rfl <| Oa rfl rfl <| O_nil (bs _ _ <| W_ret ?_)
    obtain rfl := sinj H
    exact ret1 rfl rfl ⟨rfl, (hs.sub (ssk (ssk ssr)))⟩
   ·rw [if_neg ar] at H
    refine W_skip (bq _ _ <| Wr fun cx bt => O_y rfl (Y_field fo34_4 rfl) <| O_y rfl (Yb 1 ag31 hs rfl rfl rfl) <| Om rfl rfl ?_)
    obtain ⟨au, H⟩ := gd H
    obtain ⟨av, bd, bu⟩ := bl.cut el31 au.1 au.2.1 au.2.2
    refine O_y rfl (bu rfl (.inl ⟨rfl, rfl⟩) (.inr ⟨_, _, rfl, rfl⟩)) <| O_y rfl (Y_lenR un31 bd rfl) <| Om rfl rfl <| O_nil (bt _ _ <| W_block fun cy bv cz => W_loop (σ := Nat × Int) (fun (ac, ab) => [(1, .pointer (some ⟨aj, 0, none⟩)), (3, .int .i64 aa), (4, .pointer (some ⟨ag, 0, none⟩)), (8, ah), (9, .int .i64 (x0.decomp.length : Int)), (10, .int .i64 aa), (24, av), (25, .int .i64 ((sub x0.decomp 0 aa).length : Int)), (26, .int .i64 ab)]) (fun (ac, ab) w => ref10_whole.l1 (ref10_whole.l2 af x0) ac x0 aa ab = some r ∧ St w0 ρ ((.box ag 71 ([.int .i32 ((rd x0.decomp aa).lo), .int .i32 ((rd x0.decomp aa).hi), aq])) :: (.box aj 34 ([a2, a3, a4, a5, ah, a6, a7, a8, a9, ba, bb])) :: Γ) w) (fun s => s.1) (K0, 0) (by repeat first | exact Sub.nil | refine Sub.cons rfl ?_) (Ai H hs) ?_)
    rintro ⟨ac, ab⟩ w da ⟨H, hs⟩ al
    show W _ _ _ _ _ _ [(1, .pointer (some ⟨aj, 0, none⟩)), (3, .int .i64 aa), (4, .pointer (some ⟨ag, 0, none⟩)), (8, ah), (9, .int .i64 (x0.decomp.length : Int)), (10, .int .i64 aa), (24, av), (25, .int .i64 ((sub x0.decomp 0 aa).length : Int)), (26, .int .i64 ab)] w
    cases ac with
    | zero => rw [ref10_whole.l1] at H; cases H
    | succ ac =>
    rw [ref10_whole.l1] at H
    refine Wr fun db bw => O_y rfl (Y_lss rfl rfl) <| O_nil (bw _ _ <| W_seq fun dc bx => W_if rfl (fun aw => ?_) (fun aw => ?_))
    ·rw [if_pos aw] at H
     refine W_skip (bx _ _ <| W_seq fun dd bz => W_block fun de df dg => W_seq fun dh b0 => W_region ?_)
     obtain ⟨be, H⟩ := gd H
     obtain ⟨di, dk, b1, b2⟩ := bd.ix el31 be.1 be.2
     obtain ⟨_, ⟨bf, rfl, am⟩, b3⟩ := b1
     refine O_y rfl (b2 rfl rfl) <| O_y rfl (Y_loadN ag71 sz71 rfl rfl (fun j u hu => hs.see (b3 j u hu))) <| O_alloc zr71 hs rfl (fun bg w hs => O_storeN (i := 0) sz71 hs rfl rfl rfl rfl rfl (one_cons rfl (one_cons rfl (one_cons am.one one_nil))) (fun w hs => O_nil (b0 _ _ <| W_seqj fun b4 b5 an => ?_)))
     have ao : ∀ (ad : Bool) (w : World), ref10_whole.j1 (ref10_whole.l1 (ref10_whole.l2 af x0) ac x0 aa) aa ab ad = some r → St w0 ρ ((.box bg 71 ([.int .i32 ((rd (sub x0.decomp 0 aa) ab).lo), .int .i32 ((rd (sub x0.decomp 0 aa) ab).hi), bf])) :: (.box ag 71 ([.int .i32 ((rd x0.decomp aa).lo), .int .i32 ((rd x0.decomp aa).hi), aq])) :: (.box aj 34 ([a2, a3, a4, a5, ah, a6, a7, a8, a9, ba, bb])) :: Γ) w → b4 [(1, .pointer (some ⟨aj, 0, none⟩)), (3, .int .i64 aa), (4, .pointer (some ⟨ag, 0, none⟩)), (8, ah), (9, .int .i64 (x0.decomp.length : Int)), (10, .int .i64 aa), (24, av), (25, .int .i64 ((sub x0.decomp 0 aa).length : Int)), (26, .int .i64 ab), (61, .bool ad)] w := by
      intro ad w H hs
      rw [ref10_whole.j1] at H
      refine b5 _ _ <| W_cond rfl (fun ax => ?_) (fun ax => ?_)
      ·rw [if_pos ax] at H
       refine Wr fun dl b6 => Om rfl rfl <| Oa rfl rfl <| O_nil (b6 _ _ <| W_ret ?_)
       obtain rfl := sinj H
       exact ret1 rfl rfl ⟨rfl, (hs.sub (ssk (ssk (ssk ssr))))⟩
      ·rw [if_neg (bft ax)] at H
       refine W_skip (bz _ _ <| W_region <| O_y rfl (Y_add rfl rfl) <| Om rfl rfl <| O_nil (al (ac, (IntKind.i64.wrap (ab + 1))) _ _ (by repeat first | exact Sub.nil | refine Sub.cons rfl ?_) (Ai H (hs.sub (ssk (ssc (ssc ssr))))) (Nat.lt_succ_self _)))
     refine W_drawS 32 [0, 1, 2, 4, 8, 16, 48, 80, 144, 272, 528, 1024, 3072, 5120, 9216, 1024, 33792, 66560, 132096, 279552, 525312, 1049600, 2097152, 6291456, 10485760, 18874368, 2097152, 69206016, 136314880, 270532608, 572522496, 1075838976] [4294967292, 4294967288, 4294967280, 4294967264, 4294965248, 4294967168, 4294967040, 4294966784, 4294966272, 4294965248, 4290772992, 4294959104, 4294950912, 4294934528, 4294410240, 4294866944, 4294735872, 4294473728, 4293949440, 4292870144, 4290772992, 0, 4278190080, 4261412864, 4227858432, 3154116608, 4089446400, 3821010944, 3284140032, 2210398208, 0, 0] [0, 1, 3, 7, 15, 31, 63, 127, 255, 511, 1023, 2047, 4095, 8191, 16383, 2047, 34815, 100351, 231423, 524287, 1048575, 2097151, 4194303, 8388607, 16777215, 33554431, 4194303, 71303167, 205520895, 473956351, 1073741823, 2147483647] [] (fun w => St w0 ρ ((.box bg 71 ([.int .i32 ((rd (sub x0.decomp 0 aa) ab).lo), .int .i32 ((rd (sub x0.decomp 0 aa) ab).hi), bf])) :: (.box ag 71 ([.int .i32 ((rd x0.decomp aa).lo), .int .i32 ((rd x0.decomp aa).hi), aq])) :: (.box aj 34 ([a2, a3, a4, a5, ah, a6, a7, a8, a9, ba, bb])) :: Γ) w) mixed (by kernel_rfl) (fun sh => ?_)
     have hs := hs.drew
     refine Dp 0 sh rfl rfl (by kernel_rfl) (fun w => Y_field fo71_2 rfl) <| Dy 1 sh rfl rfl (by kernel_rfl) hs (fun w hs => Yb 1 ag28 hs rfl rfl rfl) <| Dp 2 sh rfl rfl (by kernel_rfl) (fun w => Y_lenR un28 ak rfl) <| Dp 3 sh rfl rfl (by kernel_rfl) (fun w => Y_eql rfl rfl) <| Dm 4 sh rfl rfl (by kernel_rfl) rfl <| OD_if (dj := 34) rfl (fun ay => ?_) (fun ay => ?_)
     ·rw [if_pos ay] at H
      refine Dq 5 sh rfl rfl rfl rfl (by kernel_rfl) (fun w => Y_field fo71_2 rfl) <| Dz 6 sh rfl rfl rfl rfl (by kernel_rfl) hs (fun w hs => Yb 0 ag28 hs rfl rfl rfl) <| Dq 7 sh rfl rfl rfl rfl (by kernel_rfl) (fun w => Y_lenR un28 am rfl) <| Dq 8 sh rfl rfl rfl rfl (by kernel_rfl) (fun w => Y_eql rfl rfl) <| Dp 9 sh rfl rfl (by kernel_rfl) (fun w => Y_pick_t rfl rfl) <| Dm 10 sh rfl rfl (by kernel_rfl) rfl <| OD_if (dj := 40) rfl (fun az => ?_) (fun az => ?_)
      ·rw [if_pos az] at H
       refine Dq 11 sh rfl rfl rfl rfl (by kernel_rfl) (fun w => Y_field fo71_2 rfl) <| Dz 12 sh rfl rfl rfl rfl (by kernel_rfl) hs (fun w hs => Yb 1 ag28 hs rfl rfl rfl) ?_
       obtain ⟨bh, H⟩ := gd H
       obtain ⟨dm, dn, b7, b8⟩ := ak.ix el28 bh.1 bh.2
       refine Dq 13 sh rfl rfl rfl rfl (by kernel_rfl) (fun w => b8 rfl rfl) <| Dz 14 sh rfl rfl rfl rfl (by kernel_rfl) hs (fun w hs => Y_load ag21 rfl (hs.see b7.int)) <| Dq 15 sh rfl rfl rfl rfl (by kernel_rfl) (fun w => Y_field fo71_2 rfl) <| Dz 16 sh rfl rfl rfl rfl (by kernel_rfl) hs (fun w hs => Yb 0 ag28 hs rfl rfl rfl) ?_
       obtain ⟨bi, H⟩ := gd H
       obtain ⟨dp, dq, b9, ca⟩ := am.ix el28 bi.1 bi.2
       refine Dq 17 sh rfl rfl rfl rfl (by kernel_rfl) (fun w => ca rfl rfl) <| Dz 18 sh rfl rfl rfl rfl (by kernel_rfl) hs (fun w hs => Y_load ag21 rfl (hs.see b9.int)) <| Dq 19 sh rfl rfl rfl rfl (by kernel_rfl) (fun w => Y_eql rfl rfl) <| Dp 20 sh rfl rfl (by kernel_rfl) (fun w => Y_pick_t rfl rfl) <| Dm 21 sh rfl rfl (by kernel_rfl) rfl <| OD_if (dj := 51) rfl (fun a0 => ?_) (fun a0 => ?_)
       ·rw [if_pos a0] at H
        refine Dq 22 sh rfl rfl rfl rfl (by kernel_rfl) (fun w => Y_field fo71_2 rfl) <| Dz 23 sh rfl rfl rfl rfl (by kernel_rfl) hs (fun w hs => Yb 1 ag28 hs rfl rfl rfl) ?_
        obtain ⟨bj, H⟩ := gd H
        obtain ⟨dr, ds, cb, cc⟩ := ak.ix el28 bj.1 bj.2
        refine Dq 24 sh rfl rfl rfl rfl (by kernel_rfl) (fun w => cc rfl rfl) <| Dz 25 sh rfl rfl rfl rfl (by kernel_rfl) hs (fun w hs => Y_load ag21 rfl (hs.see cb.int)) <| Dq 26 sh rfl rfl rfl rfl (by kernel_rfl) (fun w => Y_field fo71_2 rfl) <| Dz 27 sh rfl rfl rfl rfl (by kernel_rfl) hs (fun w hs => Yb 0 ag28 hs rfl rfl rfl) ?_
        obtain ⟨bk, H⟩ := gd H
        obtain ⟨dt, du, cd, ce⟩ := am.ix el28 bk.1 bk.2
        refine Dq 28 sh rfl rfl rfl rfl (by kernel_rfl) (fun w => ce rfl rfl) <| Dz 29 sh rfl rfl rfl rfl (by kernel_rfl) hs (fun w hs => Y_load ag21 rfl (hs.see cd.int)) <| Dq 30 sh rfl rfl rfl rfl (by kernel_rfl) (fun w => Y_eql rfl rfl) <| Dp 31 sh rfl rfl (by kernel_rfl) (fun w => Y_pick_t rfl rfl) <| OD_doneS sh (by kernel_rfl) (an _ _ _ (by repeat first | exact Sub.nil | refine Sub.cons rfl ?_) (ao (decide ((rd ((rd x0.decomp aa).is_) 1) = (rd ((rd (sub x0.decomp 0 aa) ab).is_) 1))) _ H hs))
       ·rw [if_neg a0] at H
        refine Dn 22 sh rfl rfl rfl rfl rfl (by kernel_rfl) <| Dn 23 sh rfl rfl rfl rfl rfl (by kernel_rfl) <| Dn 24 sh rfl rfl rfl rfl rfl (by kernel_rfl) <| Dn 25 sh rfl rfl rfl rfl rfl (by kernel_rfl) <| Dn 26 sh rfl rfl rfl rfl rfl (by kernel_rfl) <| Dn 27 sh rfl rfl rfl rfl rfl (by kernel_rfl) <| Dn 28 sh rfl rfl rfl rfl rfl (by kernel_rfl) <| Dn 29 sh rfl rfl rfl rfl rfl (by kernel_rfl) <| Dn 30 sh rfl rfl rfl rfl rfl (by kernel_rfl) <| Dp 31 sh rfl rfl (by kernel_rfl) (fun w => Y_pick_f rfl rfl) <| OD_doneS sh (by kernel_rfl) (an _ _ _ (by repeat first | exact Sub.nil | refine Sub.cons rfl ?_) (ao false _ H hs))
      ·rw [if_neg az] at H
       refine Dn 11 sh rfl rfl rfl rfl rfl (by kernel_rfl) <| Dn 12 sh rfl rfl rfl rfl rfl (by kernel_rfl) <| Dn 13 sh rfl rfl rfl rfl rfl (by kernel_rfl) <| Dn 14 sh rfl rfl rfl rfl rfl (by kernel_rfl) <| Dn 15 sh rfl rfl rfl rfl rfl (by kernel_rfl) <| Dn 16 sh rfl rfl rfl rfl rfl (by kernel_rfl) <| Dn 17 sh rfl rfl rfl rfl rfl (by kernel_rfl) <| Dn 18 sh rfl rfl rfl rfl rfl (by kernel_rfl) <| Dn 19 sh rfl rfl rfl rfl rfl (by kernel_rfl) <| Dp 20 sh rfl rfl (by kernel_rfl) (fun w => Y_pick_f rfl rfl) <| Dm 21 sh rfl rfl (by kernel_rfl) rfl <| Dn 22 sh rfl rfl rfl rfl rfl (by kernel_rfl) <| Dn 23 sh rfl rfl rfl rfl rfl (by kernel_rfl) <| Dn 24 sh rfl rfl rfl rfl rfl (by kernel_rfl) ?_
       refine Dn 25 sh rfl rfl rfl rfl rfl (by kernel_rfl) <| Dn 26 sh rfl rfl rfl rfl rfl (by kernel_rfl) <| Dn 27 sh rfl rfl rfl rfl rfl (by kernel_rfl) <| Dn 28 sh rfl rfl rfl rfl rfl (by kernel_rfl) <| Dn 29 sh rfl rfl rfl rfl rfl (by kernel_rfl) <| Dn 30 sh rfl rfl rfl rfl rfl (by kernel_rfl) <| Dp 31 sh rfl rfl (by kernel_rfl) (fun w => Y_pick_f rfl rfl) <| OD_doneS sh (by kernel_rfl) (an _ _ _ (by repeat first | exact Sub.nil | refine Sub.cons rfl ?_) (ao false _ H hs))
     ·rw [if_neg ay] at H
      refine Dn 5 sh rfl rfl rfl rfl rfl (by kernel_rfl) <| Dn 6 sh rfl rfl rfl rfl rfl (by kernel_rfl) <| Dn 7 sh rfl rfl rfl rfl rfl (by kernel_rfl) <| Dn 8 sh rfl rfl rfl rfl rfl (by kernel_rfl) <| Dp 9 sh rfl rfl (by kernel_rfl) (fun w => Y_pick_f rfl rfl) <| Dm 10 sh rfl rfl (by kernel_rfl) rfl <| Dn 11 sh rfl rfl rfl rfl rfl (by kernel_rfl) <| Dn 12 sh rfl rfl rfl rfl rfl (by kernel_rfl) <| Dn 13 sh rfl rfl rfl rfl rfl (by kernel_rfl) <| Dn 14 sh rfl rfl rfl rfl rfl (by kernel_rfl) <| Dn 15 sh rfl rfl rfl rfl rfl (by kernel_rfl) <| Dn 16 sh rfl rfl rfl rfl rfl (by kernel_rfl) <| Dn 17 sh rfl rfl rfl rfl rfl (by kernel_rfl) <| Dn 18 sh rfl rfl rfl rfl rfl (by kernel_rfl) ?_
      refine Dn 19 sh rfl rfl rfl rfl rfl (by kernel_rfl) <| Dp 20 sh rfl rfl (by kernel_rfl) (fun w => Y_pick_f rfl rfl) <| Dm 21 sh rfl rfl (by kernel_rfl) rfl <| Dn 22 sh rfl rfl rfl rfl rfl (by kernel_rfl) <| Dn 23 sh rfl rfl rfl rfl rfl (by kernel_rfl) <| Dn 24 sh rfl rfl rfl rfl rfl (by kernel_rfl) <| Dn 25 sh rfl rfl rfl rfl rfl (by kernel_rfl) <| Dn 26 sh rfl rfl rfl rfl rfl (by kernel_rfl) <| Dn 27 sh rfl rfl rfl rfl rfl (by kernel_rfl) <| Dn 28 sh rfl rfl rfl rfl rfl (by kernel_rfl) <| Dn 29 sh rfl rfl rfl rfl rfl (by kernel_rfl) <| Dn 30 sh rfl rfl rfl rfl rfl (by kernel_rfl) <| Dp 31 sh rfl rfl (by kernel_rfl) (fun w => Y_pick_f rfl rfl) <| OD_doneS sh (by kernel_rfl) (an _ _ _ (by repeat first | exact Sub.nil | refine Sub.cons rfl ?_) (ao false _ H hs))
    ·rw [if_neg aw] at H
     refine W_exit (bv _ _ (co _ _ <| W_region <| O_y rfl (Y_add rfl rfl) <| Om rfl rfl <| O_nil (ap (af, (IntKind.i64.wrap (aa + 1))) _ _ (S4 rfl rfl rfl rfl) (Ai H (hs.sub (ssk (ssc ssr)))) (Nat.lt_succ_self _))))
  ·rw [if_neg bm] at H
   refine W_exit (cl _ _ (cj _ _ <| Wr fun dv cf => Oa rfl rfl <| O_nil (cf _ _ <| W_ret ?_)))
   obtain rfl := sinj H
   exact ret1 rfl rfl ⟨rfl, (hs.sub (ssk ssr))⟩

end Go.Proofs.YtekafkokpnihfaaGreat
