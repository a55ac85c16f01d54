/- Texts of this repo, merged for the claim: TP0, TP1. -/
import Derived.Test.YthoicbafdanmkaaGreatDoorWhole1
/- Written by this repo's gen.py: for each Go function a Lean function with the same answers and the walk that shows it. -/
namespace Go.Proofs.YthoicbafdanmkaaGreatDoor
open Go.RowKit
set_option maxRecDepth 100000
set_option maxHeartbeats 4000000
variable {w0 w : World} {ρ : Hp} {Γ : List Item}
set_option linter.unusedVariables false
def book_isName.j1 (ae : Int → Option Bool) (aa : Int) (ab : Bool) : Option Bool := if ab = true then (some false) else (ae (IntKind.i64.wrap (aa + 1)))
def book_isName.l1 : Nat → ByteArray → Int → Option Bool
  | 0, _, _ => none
  | ad + 1, x0, aa => if aa < ((bytesI x0).length : Int) then (if (0 : Int) ≤ aa ∧ aa < ((bytesI x0).length : Int) then (if (bOr .u8 (rd (bytesI x0) aa) 32) < 97 then (book_isName.j1 (book_isName.l1 ad x0) aa true) else (book_isName.j1 (book_isName.l1 ad x0) aa (decide (122 < (bOr .u8 (rd (bytesI x0) aa) 32))))) else none) else (some true)
def book_isName.j2 (x0 : ByteArray) (ac : Bool) : Option Bool := if ac = true then (some false) else (book_isName.l1 K0 x0 0)
def book_isName.f (x0 : ByteArray) : Option Bool := if (x0.size : Int) < 1 then (book_isName.j2 x0 true) else (book_isName.j2 x0 (decide (32 < (x0.size : Int))))
theorem book_isName.c (hs : St w0 ρ (Γ) w) {x0 : ByteArray} {r : Bool} (H : book_isName.f x0 = some r) : CallsR Tryz.prog 143 [.string x0] w (fun v w' => v = .bool r ∧ St w0 ρ Γ w') := by
  rw [book_isName.f] at H
  refine Et Tryz.func143 Tryz.ntmps143 rfl <| Wr fun bf ax => As rfl <| Ox ax <| W_seq fun bg ay => W_seqj fun az a0 ao => ?_
  have ap : ∀ (ac : Bool) (w : World), book_isName.j2 x0 ac = some r → St w0 ρ (Γ) w → az [(0, .string x0), (12, .bool ac)] w := by
   intro ac w H hs
   rw [book_isName.j2] at H
   refine a0 _ _ <| W_cond rfl (fun aj => ?_) (fun aj => ?_)
   ·rw [if_pos aj] at H
    refine Wr fun bh a1 => As rfl <| Ox a1 <| W_ret ?_
    obtain rfl := sinj H
    exact r1 rfl ⟨rfl, hs⟩
   ·rw [if_neg (bft aj)] at H
    refine Wx ay <| W_seq fun bi a2 => Wr fun bj a3 => Mv rfl <| O_bytes un9 un72 un5 hs rfl rfl (fun aq ak w ai hs ar => O_y rfl (Y_lenR un72 ar rfl) <| Mv rfl <| Ox a3 <| W_block fun bk a4 bl => W_loop (σ := Nat × Int) (fun (ad, aa) => [(14, ak), (15, .int .i64 ((bytesI x0).length : Int)), (16, .int .i64 aa)]) (fun (ad, aa) w => book_isName.l1 ad x0 aa = some r ∧ St w0 aq (Γ) w) (fun s => s.1) (K0, 0) (T3 rfl) (Ai H hs) ?_)
    rintro ⟨ad, aa⟩ w bm ⟨H, hs⟩ af
    show W _ _ _ _ _ _ [(14, ak), (15, .int .i64 ((bytesI x0).length : Int)), (16, .int .i64 aa)] w
    cases ad with
    | zero => rw [book_isName.l1] at H; cases H
    | succ ad =>
    rw [book_isName.l1] at H
    refine Wr fun bn a5 => Ols rfl <| Ox a5 <| W_seq fun bo a6 => W_if rfl (fun al => ?_) (fun al => ?_)
    ·rw [if_pos al] at H
     refine Wx a6 <| W_seq fun bp a7 => W_block fun bq br bs => W_seq fun bt a8 => W_region ?_
     obtain ⟨au, H⟩ := gd H
     obtain ⟨bu, bv, a9, ba⟩ := ar.ix el72 au.1 au.2
     refine O_y rfl (ba rfl rfl) <| O_y rfl (Y_load ag5 rfl (hs.see a9.int)) <| As rfl <| Ox a8 <| W_seqj fun bb bc av => ?_
     have aw : ∀ (ab : Bool) (w : World), book_isName.j1 (book_isName.l1 ad x0) aa ab = some r → St w0 aq (Γ) w → bb [(14, ak), (15, .int .i64 ((bytesI x0).length : Int)), (16, .int .i64 aa), (27, .bool ab)] w := by
      intro ab w H hs
      rw [book_isName.j1] at H
      refine bc _ _ <| W_cond rfl (fun am => ?_) (fun am => ?_)
      ·rw [if_pos am] at H
       refine Wr fun bw bd => As rfl <| Ox bd <| W_ret ?_
       obtain rfl := sinj H
       exact r1 rfl ⟨rfl, (hs.less ai)⟩
      ·rw [if_neg (bft am)] at H
       refine Wx a7 <| W_region <| Oad rfl <| Mv rfl <| O_nil (af (ad, (IntKind.i64.wrap (aa + 1))) _ _ (T3 rfl) (Ai H hs) (Nat.lt_succ_self _))
     refine W_region <| Mv rfl <| O_y rfl (Y_or rfl rfl) <| Ols rfl <| Mv rfl <| O_if (dj := 23) rfl (fun ag => ?_) (fun ag => ?_)
     ·rw [if_pos ag] at H
      refine On rfl <| On rfl <| On rfl <| Opk rfl <| O_nil (av _ _ _ (T4 rfl) (aw true _ H hs))
     ·rw [if_neg ag] at H
      refine Oe rfl <| Mv rfl <| Oe rfl <| O_y rfl (Y_or rfl rfl) <| Oe rfl <| Ogt rfl <| Opk rfl <| O_nil (av _ _ _ (T4 rfl) (aw (decide (122 < (bOr .u8 (rd (bytesI x0) aa) 32))) _ H hs))
    ·rw [if_neg al] at H
     refine W_exit (a4 _ _ (a2 _ _ <| Wr fun be an => As rfl <| Ox an <| W_ret ?_))
     obtain rfl := sinj H
     exact r1 rfl ⟨rfl, (hs.less ai)⟩
  refine W_region <| Mv rfl <| O_y rfl (Y_lens un9 rfl) <| Ols rfl <| Mv rfl <| O_if (dj := 8) rfl (fun ah => ?_) (fun ah => ?_)
  ·rw [if_pos ah] at H
   refine On rfl <| On rfl <| On rfl <| Opk rfl <| O_nil (ao _ _ _ (T2 rfl) (ap true _ H hs))
  ·rw [if_neg ah] at H
   refine Oe rfl <| Mv rfl <| Oe rfl <| O_y rfl (Y_lens un9 rfl) <| Oe rfl <| Ogt rfl <| Opk rfl <| O_nil (ao _ _ _ (T2 rfl) (ap (decide (32 < (x0.size : Int))) _ H hs))

def slices_Index_string_string.l1 : Nat → List ByteArray → ByteArray → Int → Option Int
  | 0, _, _, _ => none
  | ab + 1, x0, x1, aa => if aa < (x0.length : Int) then (if (0 : Int) ≤ aa ∧ aa < (x0.length : Int) then (if x1 = (rd x0 aa) then (some aa) else ((slices_Index_string_string.l1 ab x0 x1) (IntKind.i64.wrap (aa + 1)))) else none) else (some (-1))
def slices_Index_string_string.f (x0 : List ByteArray) (x1 : ByteArray) : Option Int := slices_Index_string_string.l1 K0 x0 x1 0
theorem slices_Index_string_string.c (hs : St w0 ρ (Γ) w) {v0 : Value} {x0 : List ByteArray} (h0 : SlR Rep.str ρ v0 x0) {x1 : ByteArray} {r : Int} (H : slices_Index_string_string.f x0 x1 = some r) : CallsR Tryz.prog 171 [v0, .string x1] w (fun v w' => v = .int .i64 r ∧ St w0 ρ Γ w') := by
  rw [slices_Index_string_string.f] at H
  refine Et Tryz.func171 Tryz.ntmps171 rfl <| Wr fun av ag => As rfl <| Ox ag <| W_seq fun aw ah => Wr fun ax ai => Mv rfl <| O_y rfl (Y_lenR un22 h0 rfl) <| Mv rfl <| Ox ai <| W_block fun ay aj az => W_loop (σ := Nat × Int) (fun (ab, aa) => [(0, v0), (1, .string x1), (7, .int .i64 (x0.length : Int)), (8, .int .i64 aa)]) (fun (ab, aa) w => slices_Index_string_string.l1 ab x0 x1 aa = some r ∧ St w0 ρ (Γ) w) (fun s => s.1) (K0, 0) (T4 rfl) (Ai H hs) ?_
  rintro ⟨ab, aa⟩ w a0 ⟨H, hs⟩ ac
  show W _ _ _ _ _ _ [(0, v0), (1, .string x1), (7, .int .i64 (x0.length : Int)), (8, .int .i64 aa)] w
  cases ab with
  | zero => rw [slices_Index_string_string.l1] at H; cases H
  | succ ab =>
  rw [slices_Index_string_string.l1] at H
  refine Wr fun a1 ak => Ols rfl <| Ox ak <| W_seq fun a2 al => W_if rfl (fun ad => ?_) (fun ad => ?_)
  ·rw [if_pos ad] at H
   refine Wx al <| W_seq fun a3 am => W_block fun a4 a5 a6 => Wr fun a7 an => Mv rfl <| As rfl <| Ox an <| Wr fun a8 ao => Mv rfl <| Mv rfl <| Mv rfl ?_
   obtain ⟨af, H⟩ := gd H
   obtain ⟨a9, ba, ap, aq⟩ := h0.ix el22 af.1 af.2
   refine O_y rfl (aq rfl rfl) <| O_y rfl (Y_load ag9 rfl (hs.see ap.str)) <| O_y rfl (Y_eqls rfl rfl) <| Ox ao <| W_if rfl (fun ae => ?_) (fun ae => ?_)
   ·rw [if_pos ae] at H
    refine Wr fun bb ar => Mv rfl <| As rfl <| Ox ar <| W.weak [(4, _)] (S1 rfl) <| W_ret ?_
    obtain rfl := sinj H
    exact r1 rfl ⟨rfl, hs⟩
   ·rw [if_neg ae] at H
    refine Wx am <| W_region <| Oad rfl <| Mv rfl <| O_nil (ac (ab, (IntKind.i64.wrap (aa + 1))) _ _ (T4 rfl) (Ai H hs) (Nat.lt_succ_self _))
  ·rw [if_neg ad] at H
   refine W_exit (aj _ _ (ah _ _ <| Wr fun bc au => As rfl <| Ox au <| W_ret ?_))
   obtain rfl := sinj H
   exact r1 rfl ⟨rfl, hs⟩

def slices_Contains_string_string.f (x0 : List ByteArray) (x1 : ByteArray) : Option Bool := (slices_Index_string_string.f x0 x1).bind fun ab => (some (decide (0 ≤ ab)))
theorem slices_Contains_string_string.c (hs : St w0 ρ (Γ) w) {v0 : Value} {x0 : List ByteArray} (h0 : SlR Rep.str ρ v0 x0) {x1 : ByteArray} {r : Bool} (H : slices_Contains_string_string.f x0 x1 = some r) : CallsR Tryz.prog 144 [v0, .string x1] w (fun v w' => v = .bool r ∧ St w0 ρ Γ w') := by
  rw [slices_Contains_string_string.f] at H
  refine Et Tryz.func144 Tryz.ntmps144 rfl <| Wr fun ae ac => As rfl <| Ox ac <| Wr fun af ad => Mv rfl <| Mv rfl ?_
  obtain ⟨ab, aa, H⟩ := bnd H
  refine Oc rfl (slices_Index_string_string.c hs h0 aa) (fun ag w hpost => ?_)
  obtain ⟨rfl, hs⟩ := hpost
  refine Oge rfl <| As rfl <| Ox ad <| W_ret ?_
  obtain rfl := sinj H
  exact r1 rfl ⟨rfl, hs⟩

def book_names.j1 (ad : Int → Option Int) (aa : Int) (ab : Bool) : Option Int := if ab = true then (some aa) else (ad (IntKind.i64.wrap (aa + 1)))
def book_names.l1 : Nat → List ByteArray → Int → Option Int
  | 0, _, _ => none
  | ac + 1, x0, aa => if aa < (x0.length : Int) then (if (0 : Int) ≤ aa ∧ aa < (x0.length : Int) then ((book_isName.f (rd x0 aa)).bind fun aq => (if (!aq) = true then (book_names.j1 (book_names.l1 ac x0) aa true) else (if (0 : Int) ≤ 0 ∧ 0 ≤ aa ∧ aa ≤ (x0.length : Int) then ((slices_Contains_string_string.f (sub x0 0 aa) (rd x0 aa)).bind fun ae => (book_names.j1 (book_names.l1 ac x0) aa ae)) else none))) else none) else (some (-1))
def book_names.f (x0 : List ByteArray) : Option Int := if 64 < (x0.length : Int) then (some 64) else (book_names.l1 K0 x0 0)
theorem book_names.c (hs : St w0 ρ (Γ) w) {v0 : Value} {x0 : List ByteArray} (h0 : SlR Rep.str ρ v0 x0) {r : Int} (H : book_names.f x0 = some r) : CallsR Tryz.prog 93 [v0] w (fun v w' => v = .int .i64 r ∧ St w0 ρ Γ w') := by
  rw [book_names.f] at H
  refine Et Tryz.func93 Tryz.ntmps93 rfl <| Wr fun be aw => As rfl <| Ox aw <| W_seq fun bf ax => Wr fun bg ay => Mv rfl <| O_y rfl (Y_lenR un22 h0 rfl) <| Ogt rfl <| Ox ay <| W_if rfl (fun ah => ?_) (fun ah => ?_)
  ·rw [if_pos ah] at H
   refine Wr fun bh az => As rfl <| Ox az <| W_ret ?_
   obtain rfl := sinj H
   exact r1 rfl ⟨rfl, hs⟩
  ·rw [if_neg ah] at H
   refine Wx ax <| W_seq fun bi a0 => Wr fun bj a1 => Mv rfl <| O_y rfl (Y_lenR un22 h0 rfl) <| Mv rfl <| Ox a1 <| W_block fun bk a2 bl => W_loop (σ := Nat × Int) (fun (ac, aa) => [(0, v0), (8, v0), (9, .int .i64 (x0.length : Int)), (10, .int .i64 aa)]) (fun (ac, aa) w => book_names.l1 ac x0 aa = some r ∧ St w0 ρ (Γ) w) (fun s => s.1) (K0, 0) (T4 rfl) (Ai H hs) ?_
   rintro ⟨ac, aa⟩ w bm ⟨H, hs⟩ af
   show W _ _ _ _ _ _ [(0, v0), (8, v0), (9, .int .i64 (x0.length : Int)), (10, .int .i64 aa)] w
   cases ac with
   | zero => rw [book_names.l1] at H; cases H
   | succ ac =>
   rw [book_names.l1] at H
   refine Wr fun bn a3 => Ols rfl <| Ox a3 <| W_seq fun bo a4 => W_if rfl (fun ai => ?_) (fun ai => ?_)
   ·rw [if_pos ai] at H
    refine Wx a4 <| W_seq fun bp a5 => W_block fun bq br bs => Wr fun bt a6 => Mv rfl ?_
    obtain ⟨ar, H⟩ := gd H
    obtain ⟨bu, bv, a7, a8⟩ := h0.ix el22 ar.1 ar.2
    refine O_y rfl (a8 rfl rfl) <| O_y rfl (Y_load ag9 rfl (hs.see a7.str)) <| As rfl <| As rfl <| Ox a6 <| W_seqj fun a9 ba au => ?_
    have av : ∀ (ab : Bool) (w : World), book_names.j1 (book_names.l1 ac x0) aa ab = some r → St w0 ρ (Γ) w → a9 [(0, v0), (3, .int .i64 aa), (8, v0), (9, .int .i64 (x0.length : Int)), (10, .int .i64 aa), (24, .bool ab)] w := by
     intro ab w H hs
     rw [book_names.j1] at H
     refine ba _ _ <| W_cond rfl (fun aj => ?_) (fun aj => ?_)
     ·rw [if_pos aj] at H
      refine Wr fun bw bb => Mv rfl <| As rfl <| Ox bb <| W_ret ?_
      obtain rfl := sinj H
      exact r1 rfl ⟨rfl, hs⟩
     ·rw [if_neg (bft aj)] at H
      refine Wx a5 <| W_region <| Oad rfl <| Mv rfl <| O_nil (af (ac, (IntKind.i64.wrap (aa + 1))) _ _ (T4 rfl) (Ai H hs) (Nat.lt_succ_self _))
    refine W_region <| Mv rfl ?_
    obtain ⟨aq, ak, H⟩ := bnd H
    refine Oc rfl (book_isName.c hs ak) (fun bx w hpost => ?_)
    obtain ⟨rfl, hs⟩ := hpost
    refine Ont rfl <| Mv rfl <| O_cases (dj := 18) rfl (fun al => ?_) (fun al => ?_)
    ·rw [if_pos al] at H
     refine On rfl <| On rfl <| On rfl <| On rfl <| On rfl <| Opk rfl <| O_nil (au _ _ _ sbn (av true _ H hs))
    ·rw [if_neg (bft al)] at H
     refine Oe rfl <| Mv rfl <| Oe rfl <| Mv rfl ?_
     obtain ⟨am, H⟩ := gd H
     obtain ⟨bz, an, ao⟩ := h0.cut el22 am.1 am.2.1 am.2.2
     refine Oe rfl <| O_y rfl (ao rfl (.inl ⟨rfl, rfl⟩) (.inr ⟨_, _, rfl, rfl⟩)) <| Oe rfl <| Mv rfl <| Oe rfl ?_
     obtain ⟨ae, ag, H⟩ := bnd H
     refine Oc rfl (slices_Contains_string_string.c hs an ag) (fun bc w hpost => ?_)
     obtain ⟨rfl, hs⟩ := hpost
     refine Opk rfl <| O_nil (au _ _ _ sbn (av ae _ H hs))
   ·rw [if_neg ai] at H
    refine W_exit (a2 _ _ (a0 _ _ <| Wr fun bd ap => As rfl <| Ox ap <| W_ret ?_))
    obtain rfl := sinj H
    exact r1 rfl ⟨rfl, hs⟩

def book_Check_4_mae.f (y0_0 : List ByteArray) (y0_1 : List Val) (y0_2 : List Chs) (y0_3 : List Val) (y0_4 : List Chs) (y0_5 : List Spn) (y0_6 y0_7 : List Val) (y0_8 : List Spn) (y0_9 : List Val) (y0_10 : List Chs) : Option Int := (book_names.f y0_0).bind fun ab => (some ab)
theorem book_Check_4_mae.c {pb0 : Nat} {w0_0 : Value} {y0_0 : List ByteArray} {w0_1 : Value} {y0_1 : List Val} {w0_2 : Value} {y0_2 : List Chs} {w0_3 : Value} {y0_3 : List Val} {w0_4 : Value} {y0_4 : List Chs} {w0_5 : Value} {y0_5 : List Spn} {w0_6 : Value} {y0_6 : List Val} {w0_7 : Value} {y0_7 : List Val} {w0_8 : Value} {y0_8 : List Spn} {w0_9 : Value} {y0_9 : List Val} {w0_10 : Value} {y0_10 : List Chs} (hs : St w0 ρ ((.box pb0 27 ([w0_0, w0_1, w0_2, w0_3, w0_4, w0_5, w0_6, w0_7, w0_8, w0_9, w0_10])) :: Γ) w) (g0_0 : SlR Rep.str ρ w0_0 y0_0) (g0_1 : SlR rVal ρ w0_1 y0_1) (g0_2 : SlR rChs ρ w0_2 y0_2) (g0_3 : SlR rVal ρ w0_3 y0_3) (g0_4 : SlR rChs ρ w0_4 y0_4) (g0_5 : SlR rSpn ρ w0_5 y0_5) (g0_6 : SlR rVal ρ w0_6 y0_6) (g0_7 : SlR rVal ρ w0_7 y0_7) (g0_8 : SlR rSpn ρ w0_8 y0_8) (g0_9 : SlR rVal ρ w0_9 y0_9) (g0_10 : SlR rChs ρ w0_10 y0_10) {r : Int} (H : book_Check_4_mae.f y0_0 y0_1 y0_2 y0_3 y0_4 y0_5 y0_6 y0_7 y0_8 y0_9 y0_10 = some r) : CallsR Tryz.prog 92 [.pointer (some ⟨pb0, 0, none⟩)] w (fun v w' => v = .int .i64 r ∧ St w0 ρ ((.box pb0 27 ([w0_0, w0_1, w0_2, w0_3, w0_4, w0_5, w0_6, w0_7, w0_8, w0_9, w0_10])) :: Γ) w') := by
  rw [book_Check_4_mae.f] at H
  refine Et Tryz.func92 Tryz.ntmps92 rfl <| Wr fun ae ac => As rfl <| Ox ac <| Wr fun af ad => Ofd fo27_0 rfl <| Obx 0 ag22 hs rfl ?_
  obtain ⟨ab, aa, H⟩ := bnd H
  refine Oc rfl (book_names.c hs g0_0 aa) (fun ag w hpost => ?_)
  obtain ⟨rfl, hs⟩ := hpost
  refine As rfl <| Ox ad <| W_ret ?_
  obtain rfl := sinj H
  exact r1 rfl ⟨rfl, hs⟩

def book_ofValue.f (x0 : Val) : Option Spn := some (⟨x0.lo, x0.hi⟩ : Spn)
theorem book_ofValue.c (hs : St w0 ρ (Γ) w) {c0 : List Value} {x0 : Val} (h0 : rVal.R ρ c0 x0) {r : Spn} (H : book_ofValue.f x0 = some r) : CallsR Tryz.prog 146 [.agg c0.toArray] w (fun v w' => ∃ (ρ' : Hp) (cs0 : List Value), v = .agg cs0.toArray ∧ Le ρ ρ' ∧ St w0 ρ' (Γ) w' ∧ rSpn.R ρ' cs0 r) := by
  rw [book_ofValue.f] at H
  refine Et Tryz.func146 Tryz.ntmps146 rfl ?_
  have aa := h0
  obtain rfl := aa
  refine Wr fun ad ab => O_boxN (cs := [.int .i32 x0.lo, .int .i32 x0.hi, .int .i64 x0.n]) hs rfl rfl (fun ae w hs => O_alloc zr129 hs rfl (fun af w hs => Ox ab <| Wr fun ag ac => Ofd fo67_0 rfl <| Obx 1 ag21 hs rfl <| Ofd fo67_1 rfl <| Obx 1 ag21 hs rfl <| O_y rfl (Y_build (cs := [.int .i32 x0.lo, .int .i32 x0.hi]) zr129 pl129 ((Parts.cons rfl rfl (Parts.cons rfl rfl Parts.nil))) ag129 (by kernel_rfl)) <| O_storeN (i := 0) sz129 hs rfl rfl rfl rfl rfl (one_cons rfl (one_cons rfl one_nil)) (fun w hs => O_nil (ac _ _ ?_))))
  refine W_ret ?_
  obtain rfl := sinj H
  exact retc (i := 0) rfl rfl ag129 sz129 hs rfl rfl ⟨_, _, rfl, Le.rfl' _, (hs.sub (ssk (ssk ssr))), rfl⟩

def book_Check_1.f (x0 : Spn) : Option Bool := some true
theorem book_Check_1.c (hs : St w0 ρ (Γ) w) {c0 : List Value} {x0 : Spn} (h0 : rSpn.R ρ c0 x0) {r : Bool} (H : book_Check_1.f x0 = some r) : CallsR Tryz.prog 87 [.agg c0.toArray] w (fun v w' => v = .bool r ∧ St w0 ρ Γ w') := by
  rw [book_Check_1.f] at H
  refine Et Tryz.func87 Tryz.ntmps87 rfl ?_
  have aa := h0
  obtain rfl := aa
  refine Wr fun ad ab => O_boxN (cs := [.int .i32 x0.lo, .int .i32 x0.hi]) hs rfl rfl (fun ae w hs => As rfl <| Ox ab <| Wr fun af ac => As rfl <| Ox ac <| W_ret ?_)
  obtain rfl := sinj H
  exact r1 rfl ⟨rfl, (hs.sub (ssk ssr))⟩

def book_values_1_ifo.j1 (aa : Bool) : Option Bool := some aa
def book_values_1_ifo.f (x0 : Val) (y0_0 y1_0 : Int) : Option Bool := if y0_0 ≤ x0.n then (if x0.n ≤ y1_0 then ((book_ofValue.f x0).bind fun al => ((book_Check_1.f al).bind fun ae => (book_values_1_ifo.j1 ae))) else (book_values_1_ifo.j1 false)) else (book_values_1_ifo.j1 false)
theorem book_values_1_ifo.c {pb0 : Nat} {y0_0 : Int} {pb1 : Nat} {y1_0 : Int} {pb2 : Nat} (hs : St w0 ρ ((.box pb0 3 ([.int .i64 y0_0])) :: (.box pb1 3 ([.int .i64 y1_0])) :: (.box pb2 133 ([.func (.func 87) #[] #[]])) :: Γ) w) {c0 : List Value} {x0 : Val} (h0 : rVal.R ρ c0 x0) {r : Bool} (H : book_values_1_ifo.f x0 y0_0 y1_0 = some r) : CallsR Tryz.prog 147 [.agg c0.toArray, .pointer (some ⟨pb0, 0, none⟩), .pointer (some ⟨pb1, 0, none⟩), .pointer (some ⟨pb2, 0, none⟩)] w (fun v w' => v = .bool r ∧ St w0 ρ ((.box pb0 3 ([.int .i64 y0_0])) :: (.box pb1 3 ([.int .i64 y1_0])) :: (.box pb2 133 ([.func (.func 87) #[] #[]])) :: Γ) w') := by
  rw [book_values_1_ifo.f] at H
  refine Et Tryz.func147 Tryz.ntmps147 rfl ?_
  have ao := h0
  obtain rfl := ao
  refine Wr fun az ap => O_boxN (cs := [.int .i32 x0.lo, .int .i32 x0.hi, .int .i64 x0.n]) hs rfl rfl (fun am w hs => As rfl <| Ox ap <| W_seqj fun aq ar af => ?_)
  have ag : ∀ (aa : Bool) (ab : Hp) (w : World), book_values_1_ifo.j1 aa = some r → Le ρ ab → St w0 ab ((.box am 67 ([.int .i32 x0.lo, .int .i32 x0.hi, .int .i64 x0.n])) :: (.box pb0 3 ([.int .i64 y0_0])) :: (.box pb1 3 ([.int .i64 y1_0])) :: (.box pb2 133 ([.func (.func 87) #[] #[]])) :: Γ) w → aq [(5, .bool aa)] w := by
   intro aa ab w H ad hs
   rw [book_values_1_ifo.j1] at H
   refine ar _ _ <| W_ret ?_
   obtain rfl := sinj H
   exact r1 rfl ⟨rfl, ((hs.sub (ssk (ssc (ssc (ssc ssr))))).less ad)⟩
  refine W_drawS 17 [0, 1, 0, 6, 8, 16, 48, 16, 208, 272, 528, 1024, 1024, 5120, 11264, 17408, 65535] [65532, 65524, 65523, 65504, 63488, 65408, 65152, 65120, 64512, 63488, 0, 45056, 51200, 34816, 0, 0, 0] [0, 1, 0, 7, 15, 31, 63, 31, 255, 511, 1023, 2047, 2047, 6143, 16383, 32767, 65535] [] (fun w => St w0 ρ ((.box am 67 ([.int .i32 x0.lo, .int .i32 x0.hi, .int .i64 x0.n])) :: (.box pb0 3 ([.int .i64 y0_0])) :: (.box pb1 3 ([.int .i64 y1_0])) :: (.box pb2 133 ([.func (.func 87) #[] #[]])) :: Γ) w) mixed (by kernel_rfl) (fun sh => ?_)
  have hs := hs.drew
  refine Fp 0 sh rfl (fun w => Y_field fo67_2 rfl) <| Fy 1 sh rfl hs (fun w hs => Yb 0 ag3 hs rfl rfl rfl) <| Fy 2 sh rfl hs (fun w hs => Yb 1 ag3 hs rfl rfl rfl) <| Fp 3 sh rfl (fun w => Y_geq rfl rfl) <| Fm 4 sh rfl <| OD_if (dj := 10) rfl (fun ah => ?_) (fun ah => ?_)
  ·rw [if_pos ah] at H
   refine Fp 5 sh rfl (fun w => Y_field fo67_2 rfl) <| Fy 6 sh rfl hs (fun w hs => Yb 0 ag3 hs rfl rfl rfl) <| Fy 7 sh rfl hs (fun w hs => Yb 2 ag3 hs rfl rfl rfl) <| Fp 8 sh rfl (fun w => Y_leq rfl rfl) <| Fp 9 sh rfl (fun w => Y_pick_t rfl rfl) <| Fm 10 sh rfl <| OD_if (dj := 16) rfl (fun ai => ?_) (fun ai => ?_)
   ·rw [if_pos ai] at H
    refine Fy 11 sh rfl hs (fun w hs => Yb 3 ag133 hs rfl rfl rfl) <| Fy 12 sh rfl hs (fun w hs => Y_loadbN (i := 0) ag67 sz67 hs rfl rfl rfl rfl) <| F1 13 sh rfl (fun a0 au => Oe rfl ?_)
    obtain ⟨al, aj, H⟩ := bnd H
    refine Oc rfl (book_ofValue.c hs h0 aj) (fun a1 w hpost => ?_)
    obtain ⟨av, aw, rfl, ac, hs, an⟩ := hpost
    have ax := an
    obtain rfl := ax
    refine O_nil (au _ _ (fun _ _ => (hs.less ac)) <| F1 14 sh rfl (fun a2 ay => Oe rfl ?_))
    obtain ⟨ae, ak, H⟩ := bnd H
    refine O_callv rfl rfl rfl (book_Check_1.c hs an ak) (fun a3 w hpost => ?_)
    obtain ⟨rfl, hs⟩ := hpost
    refine O_nil (ay _ _ (fun _ _ => (hs.less ac)) <| Fp 15 sh rfl (fun w => Y_pick_t rfl rfl) <| Fp 16 sh rfl (fun w => Y_assign rfl) <| FE sh (af _ _ _ (S1 rfl) (ag ae av _ H ac hs)))
   ·rw [if_neg ai] at H
    refine Fn 11 sh rfl <| Fn 12 sh rfl <| Fn 13 sh rfl <| Fn 14 sh rfl <| Fp 15 sh rfl (fun w => Y_pick_f rfl rfl) <| Fp 16 sh rfl (fun w => Y_assign rfl) <| FE sh (af _ _ _ (S1 rfl) (ag false ρ _ H (Le.rfl' _) hs))
  ·rw [if_neg ah] at H
   refine Fn 5 sh rfl <| Fn 6 sh rfl <| Fn 7 sh rfl <| Fn 8 sh rfl <| Fp 9 sh rfl (fun w => Y_pick_f rfl rfl) <| Fm 10 sh rfl <| Fn 11 sh rfl <| Fn 12 sh rfl <| Fn 13 sh rfl <| Fn 14 sh rfl <| Fp 15 sh rfl (fun w => Y_pick_f rfl rfl) <| Fp 16 sh rfl (fun w => Y_assign rfl) <| FE sh (af _ _ _ (S1 rfl) (ag false ρ _ H (Le.rfl' _) hs))

def book_rising_api_Value_dif.j1 (ak : Int → Int → Option Int) (aa : Int) (ae : Spn) (ab : Bool) : Option Int := if ab = true then (some aa) else (ak ae.hi (IntKind.i64.wrap (aa + 1)))
def book_rising_api_Value_dif.l1 : Nat → Int → Int → List Val → Int → Int → Option Int
  | 0, _, _, _, _, _ => none
  | ac + 1, y0_0, y1_0, x0, ad, aa => if aa < (x0.length : Int) then (if (0 : Int) ≤ aa ∧ aa < (x0.length : Int) then ((book_ofValue.f (rd x0 aa)).bind fun ae => (if ae.lo ≤ ad then (book_rising_api_Value_dif.j1 (book_rising_api_Value_dif.l1 ac y0_0 y1_0 x0) aa ae true) else (if ae.hi < ae.lo then (book_rising_api_Value_dif.j1 (book_rising_api_Value_dif.l1 ac y0_0 y1_0 x0) aa ae true) else (if 1114111 < ae.hi then (book_rising_api_Value_dif.j1 (book_rising_api_Value_dif.l1 ac y0_0 y1_0 x0) aa ae true) else ((book_values_1_ifo.f (rd x0 aa) y0_0 y1_0).bind fun al => (book_rising_api_Value_dif.j1 (book_rising_api_Value_dif.l1 ac y0_0 y1_0 x0) aa ae (!al))))))) else none) else (some (-1))
def book_rising_api_Value_dif.f (x0 : List Val) (y0_0 y1_0 : Int) : Option Int := if 65536 < (x0.length : Int) then (some 65536) else (book_rising_api_Value_dif.l1 K0 y0_0 y1_0 x0 (-1) 0)
theorem book_rising_api_Value_dif.c {pb0 : Nat} {y0_0 : Int} {pb1 : Nat} {y1_0 : Int} {pb2 : Nat} (hs : St w0 ρ ((.box pb0 3 ([.int .i64 y0_0])) :: (.box pb1 3 ([.int .i64 y1_0])) :: (.box pb2 133 ([.func (.func 87) #[] #[]])) :: Γ) w) {v0 : Value} {x0 : List Val} (h0 : SlR rVal ρ v0 x0) {r : Int} (H : book_rising_api_Value_dif.f x0 y0_0 y1_0 = some r) : CallsR Tryz.prog 145 [v0, .func (.func 146) #[] #[], .func (.func 147) #[] #[.pointer (some ⟨pb0, 0, none⟩), .pointer (some ⟨pb1, 0, none⟩), .pointer (some ⟨pb2, 0, none⟩)]] w (fun v w' => v = .int .i64 r ∧ St w0 ρ ((.box pb0 3 ([.int .i64 y0_0])) :: (.box pb1 3 ([.int .i64 y1_0])) :: (.box pb2 133 ([.func (.func 87) #[] #[]])) :: Γ) w') := by
  rw [book_rising_api_Value_dif.f] at H
  refine Et Tryz.func145 Tryz.ntmps145 rfl <| Wr fun bt a6 => As rfl <| Ox a6 <| W_seq fun bu a7 => Wr fun bv a8 => Mv rfl <| O_y rfl (Y_lenR un23 h0 rfl) <| Ogt rfl <| Ox a8 <| W_if rfl (fun av => ?_) (fun av => ?_)
  ·rw [if_pos av] at H
   refine Wr fun bw a9 => As rfl <| Ox a9 <| W_ret ?_
   obtain rfl := sinj H
   exact r1 rfl ⟨rfl, hs⟩
  ·rw [if_neg av] at H
   refine Wx a7 <| Wr fun bx ba => As rfl <| Ox ba <| W_seq fun bz bb => Wr fun b0 bc => Mv rfl <| O_y rfl (Y_lenR un23 h0 rfl) <| Mv rfl <| Ox bc <| W_block fun b1 bd b2 => W_loop (σ := Nat × Int × Int × Hp) (fun (ac, ad, aa, ag) => [(1, .func (.func 146) #[] #[]), (2, .func (.func 147) #[] #[.pointer (some ⟨pb0, 0, none⟩), .pointer (some ⟨pb1, 0, none⟩), .pointer (some ⟨pb2, 0, none⟩)]), (7, .int .i32 ad), (14, v0), (15, .int .i64 (x0.length : Int)), (16, .int .i64 aa)]) (fun (ac, ad, aa, ag) w => book_rising_api_Value_dif.l1 ac y0_0 y1_0 x0 ad aa = some r ∧ Le ρ ag ∧ St w0 ag ((.box pb0 3 ([.int .i64 y0_0])) :: (.box pb1 3 ([.int .i64 y1_0])) :: (.box pb2 133 ([.func (.func 87) #[] #[]])) :: Γ) w) (fun s => s.1) (K0, (-1), 0, ρ) sbn (Ai H (Ai (Le.rfl' _) hs)) ?_
   rintro ⟨ac, ad, aa, ag⟩ w b3 ⟨H, af, hs⟩ am
   show W _ _ _ _ _ _ [(1, .func (.func 146) #[] #[]), (2, .func (.func 147) #[] #[.pointer (some ⟨pb0, 0, none⟩), .pointer (some ⟨pb1, 0, none⟩), .pointer (some ⟨pb2, 0, none⟩)]), (7, .int .i32 ad), (14, v0), (15, .int .i64 (x0.length : Int)), (16, .int .i64 aa)] w
   cases ac with
   | zero => rw [book_rising_api_Value_dif.l1] at H; cases H
   | succ ac =>
   rw [book_rising_api_Value_dif.l1] at H
   refine Wr fun b4 be => Ols rfl <| Ox be <| W_seq fun b5 bf => W_if rfl (fun aw => ?_) (fun aw => ?_)
   ·rw [if_pos aw] at H
    refine Wx bf <| W_seq fun b6 bg => W_block fun b7 b8 b9 => Wr fun ca bh => Mv rfl ?_
    obtain ⟨a4, H⟩ := gd H
    obtain ⟨cb, cc, bi, bj⟩ := (h0.mono af).ix el23 a4.1 a4.2
    obtain ⟨_, rfl, bk⟩ := bi
    refine O_y rfl (bj rfl rfl) <| O_y rfl (Y_loadN ag67 sz67 rfl rfl (fun j u hu => hs.see (bk j u hu))) <| O_alloc zr67 hs rfl (fun bl w hs => As rfl <| O_storeN (i := 0) sz67 hs rfl rfl rfl rfl rfl (one_cons rfl (one_cons rfl (one_cons rfl one_nil))) (fun w hs => Ox bh <| Wr fun cd bm => Mv rfl <| O_y rfl (Y_loadbN (i := 0) ag67 sz67 hs rfl rfl rfl rfl) ?_))
    obtain ⟨ae, ax, H⟩ := bnd H
    refine O_callv rfl rfl rfl (book_ofValue.c hs rfl ax) (fun ce w hpost => ?_)
    obtain ⟨a5, bn, rfl, aj, hs, bo⟩ := hpost
    have ay := bo
    obtain rfl := ay
    refine O_alloc zr129 hs rfl (fun ar w hs => O_storeN (i := 0) sz129 hs rfl rfl rfl rfl rfl (one_cons rfl (one_cons rfl one_nil)) (fun w hs => Ox bm <| W.weak [(1, _), (2, _), (7, _), (8, _), (9, _), (10, _), (14, _), (15, _), (16, _)] sbn ?_))
    refine W_seq fun bp az => W_seqj fun a0 a1 ah => ?_
    have ai : ∀ (ab : Bool) (w : World), book_rising_api_Value_dif.j1 (book_rising_api_Value_dif.l1 ac y0_0 y1_0 x0) aa ae ab = some r → St w0 a5 ((.box ar 129 ([.int .i32 ae.lo, .int .i32 ae.hi])) :: (.box bl 67 ([.int .i32 ((rd x0 aa).lo), .int .i32 ((rd x0 aa).hi), .int .i64 ((rd x0 aa).n)])) :: (.box pb0 3 ([.int .i64 y0_0])) :: (.box pb1 3 ([.int .i64 y1_0])) :: (.box pb2 133 ([.func (.func 87) #[] #[]])) :: Γ) w → a0 [(1, .func (.func 146) #[] #[]), (2, .func (.func 147) #[] #[.pointer (some ⟨pb0, 0, none⟩), .pointer (some ⟨pb1, 0, none⟩), .pointer (some ⟨pb2, 0, none⟩)]), (8, .int .i64 aa), (10, .pointer (some ⟨ar, 0, none⟩)), (14, v0), (15, .int .i64 (x0.length : Int)), (16, .int .i64 aa), (45, .bool ab)] w := by
     intro ab w H hs
     rw [book_rising_api_Value_dif.j1] at H
     refine a1 _ _ <| W_cond rfl (fun an => ?_) (fun an => ?_)
     ·rw [if_pos an] at H
      refine Wr fun bq a2 => Mv rfl <| As rfl <| Ox a2 <| W_ret ?_
      obtain rfl := sinj H
      exact r1 rfl ⟨rfl, ((hs.sub (ssk (ssk (ssc (ssc (ssc ssr)))))).less (af.trans aj))⟩
     ·rw [if_neg (bft an)] at H
      refine Wx az <| W_region <| Ofd fo129_1 rfl <| Obx 0 ag21 hs rfl <| As rfl <| Ox bg <| W_region <| Oad rfl <| Mv rfl <| O_nil (am (ac, ae.hi, (IntKind.i64.wrap (aa + 1)), a5) _ _ sbn (Ai H (Ai (af.trans aj) (hs.sub (ssk (ssk (ssc (ssc (ssc ssr)))))))) (Nat.lt_succ_self _))
    refine W_region <| Ofd fo129_0 rfl <| Obx 0 ag21 hs rfl <| Mv rfl <| Ole rfl <| Mv rfl <| O_if (dj := 28) rfl (fun ao => ?_) (fun ao => ?_)
    ·rw [if_pos ao] at H
     refine On rfl <| On rfl <| On rfl <| On rfl <| On rfl <| Opk rfl <| Mv rfl <| On rfl <| On rfl <| On rfl <| Opk rfl <| Mv rfl <| On rfl <| On rfl ?_
     refine On rfl <| On rfl <| Opk rfl <| O_nil (ah _ _ _ sbn (ai true _ H hs))
    ·rw [if_neg ao] at H
     refine Oe rfl <| Ofd fo129_1 rfl <| Oe rfl <| Obx 0 ag21 hs rfl <| Oe rfl <| Ofd fo129_0 rfl <| Oe rfl <| Obx 0 ag21 hs rfl <| Oe rfl <| Ols rfl <| Opk rfl <| Mv rfl <| O_if (dj := 35) rfl (fun ap => ?_) (fun ap => ?_)
     ·rw [if_pos ap] at H
      refine On rfl <| On rfl <| On rfl <| Opk rfl <| Mv rfl <| On rfl <| On rfl <| On rfl <| On rfl <| Opk rfl <| O_nil (ah _ _ _ sbn (ai true _ H hs))
     ·rw [if_neg ap] at H
      refine Oe rfl <| Ofd fo129_1 rfl <| Oe rfl <| Obx 0 ag21 hs rfl <| Oe rfl <| Ogt rfl <| Opk rfl <| Mv rfl <| O_if (dj := 40) rfl (fun aq => ?_) (fun aq => ?_)
      ·rw [if_pos aq] at H
       refine On rfl <| On rfl <| On rfl <| On rfl <| Opk rfl <| O_nil (ah _ _ _ sbn (ai true _ H hs))
      ·rw [if_neg aq] at H
       refine Oe rfl <| Mv rfl <| Oe rfl <| O_y rfl (Y_loadbN (i := 1) ag67 sz67 hs rfl rfl rfl rfl) <| Oe rfl ?_
       have hs := hs.front 4 rfl
       have hs := hs.front 4 rfl
       have hs := hs.front 4 rfl
       obtain ⟨al, au, H⟩ := bnd H
       refine O_callv rfl rfl rfl (book_values_1_ifo.c hs rfl au) (fun br w hpost => ?_)
       obtain ⟨rfl, hs⟩ := hpost
       have hs := hs.sink 4
       have hs := hs.sink 4
       have hs := hs.sink 4
       refine Oe rfl <| Ont rfl <| Opk rfl <| O_nil (ah _ _ _ sbn (ai (!al) _ H hs))
   ·rw [if_neg aw] at H
    refine W_exit (bd _ _ (bb _ _ <| Wr fun bs a3 => As rfl <| Ox a3 <| W_ret ?_))
    obtain rfl := sinj H
    exact r1 rfl ⟨rfl, (hs.less af)⟩

def book_values_bpe.f (x0 : List Val) (x1 x2 : Int) : Option Int := (book_rising_api_Value_dif.f x0 x1 x2).bind fun ab => (some ab)
theorem book_values_bpe.c (hs : St w0 ρ (Γ) w) {v0 : Value} {x0 : List Val} (h0 : SlR rVal ρ v0 x0) {x1 x2 r : Int} (H : book_values_bpe.f x0 x1 x2 = some r) : CallsR Tryz.prog 95 [v0, .int .i64 x1, .int .i64 x2, .func (.func 87) #[] #[]] w (fun v w' => v = .int .i64 r ∧ St w0 ρ Γ w') := by
  rw [book_values_bpe.f] at H
  refine Et Tryz.func95 Tryz.ntmps95 rfl <| Wr fun ae ac => O_box1 hs rfl rfl rfl (fun af w hs => O_box1 hs rfl rfl rfl (fun ag w hs => O_box1 hs rfl rfl rfl (fun ah w hs => As rfl <| Ox ac <| Wr fun ai ad => Mv rfl <| O_y rfl (Y_func rfl) ?_)))
  have hs := hs.front 1 rfl
  have hs := hs.front 2 rfl
  obtain ⟨ab, aa, H⟩ := bnd H
  refine Oc rfl (book_rising_api_Value_dif.c hs h0 aa) (fun aj w hpost => ?_)
  obtain ⟨rfl, hs⟩ := hpost
  have hs := hs.sink 2
  have hs := hs.sink 1
  refine As rfl <| Ox ad <| W_ret ?_
  obtain rfl := sinj H
  exact r1 rfl ⟨rfl, (hs.sub (ssk (ssk (ssk ssr))))⟩

def book_Check_5_ion.f (y0_0 : List ByteArray) (y0_1 : List Val) (y0_2 : List Chs) (y0_3 : List Val) (y0_4 : List Chs) (y0_5 : List Spn) (y0_6 y0_7 : List Val) (y0_8 : List Spn) (y0_9 : List Val) (y0_10 : List Chs) : Option Int := (book_values_bpe.f y0_1 1 3).bind fun ab => (some ab)
theorem book_Check_5_ion.c {pb0 : Nat} {w0_0 : Value} {y0_0 : List ByteArray} {w0_1 : Value} {y0_1 : List Val} {w0_2 : Value} {y0_2 : List Chs} {w0_3 : Value} {y0_3 : List Val} {w0_4 : Value} {y0_4 : List Chs} {w0_5 : Value} {y0_5 : List Spn} {w0_6 : Value} {y0_6 : List Val} {w0_7 : Value} {y0_7 : List Val} {w0_8 : Value} {y0_8 : List Spn} {w0_9 : Value} {y0_9 : List Val} {w0_10 : Value} {y0_10 : List Chs} {pb1 : Nat} (hs : St w0 ρ ((.box pb0 27 ([w0_0, w0_1, w0_2, w0_3, w0_4, w0_5, w0_6, w0_7, w0_8, w0_9, w0_10])) :: (.box pb1 133 ([.func (.func 87) #[] #[]])) :: Γ) w) (g0_0 : SlR Rep.str ρ w0_0 y0_0) (g0_1 : SlR rVal ρ w0_1 y0_1) (g0_2 : SlR rChs ρ w0_2 y0_2) (g0_3 : SlR rVal ρ w0_3 y0_3) (g0_4 : SlR rChs ρ w0_4 y0_4) (g0_5 : SlR rSpn ρ w0_5 y0_5) (g0_6 : SlR rVal ρ w0_6 y0_6) (g0_7 : SlR rVal ρ w0_7 y0_7) (g0_8 : SlR rSpn ρ w0_8 y0_8) (g0_9 : SlR rVal ρ w0_9 y0_9) (g0_10 : SlR rChs ρ w0_10 y0_10) {r : Int} (H : book_Check_5_ion.f y0_0 y0_1 y0_2 y0_3 y0_4 y0_5 y0_6 y0_7 y0_8 y0_9 y0_10 = some r) : CallsR Tryz.prog 94 [.pointer (some ⟨pb0, 0, none⟩), .pointer (some ⟨pb1, 0, none⟩)] w (fun v w' => v = .int .i64 r ∧ St w0 ρ ((.box pb0 27 ([w0_0, w0_1, w0_2, w0_3, w0_4, w0_5, w0_6, w0_7, w0_8, w0_9, w0_10])) :: (.box pb1 133 ([.func (.func 87) #[] #[]])) :: Γ) w') := by
  rw [book_Check_5_ion.f] at H
  refine Et Tryz.func94 Tryz.ntmps94 rfl <| Wr fun ae ac => As rfl <| Ox ac <| Wr fun af ad => Ofd fo27_1 rfl <| Obx 0 ag23 hs rfl <| Obx 1 ag133 hs rfl ?_
  obtain ⟨ab, aa, H⟩ := bnd H
  refine Oc rfl (book_values_bpe.c hs g0_1 aa) (fun ag w hpost => ?_)
  obtain ⟨rfl, hs⟩ := hpost
  refine As rfl <| Ox ad <| W_ret ?_
  obtain rfl := sinj H
  exact r1 rfl ⟨rfl, hs⟩

def book_ofChars.f (x0 : Chs) : Option Spn := some (⟨x0.lo, x0.hi⟩ : Spn)
theorem book_ofChars.c (hs : St w0 ρ (Γ) w) {c0 : List Value} {x0 : Chs} (h0 : rChs.R ρ c0 x0) {r : Spn} (H : book_ofChars.f x0 = some r) : CallsR Tryz.prog 66 [.agg c0.toArray] w (fun v w' => ∃ (ρ' : Hp) (cs0 : List Value), v = .agg cs0.toArray ∧ Le ρ ρ' ∧ St w0 ρ' (Γ) w' ∧ rSpn.R ρ' cs0 r) := by
  rw [book_ofChars.f] at H
  refine Et Tryz.func66 Tryz.ntmps66 rfl ?_
  have aa := h0
  obtain ⟨ab, rfl, ae⟩ := aa
  refine Wr fun af ac => O_boxN (cs := [.int .i32 x0.lo, .int .i32 x0.hi, ab]) hs rfl rfl (fun ag w hs => O_alloc zr129 hs rfl (fun ah w hs => Ox ac <| Wr fun ai ad => Ofd fo110_0 rfl <| Obx 1 ag21 hs rfl <| Ofd fo110_1 rfl <| Obx 1 ag21 hs rfl <| O_y rfl (Y_build (cs := [.int .i32 x0.lo, .int .i32 x0.hi]) zr129 pl129 ((Parts.cons rfl rfl (Parts.cons rfl rfl Parts.nil))) ag129 (by kernel_rfl)) <| O_storeN (i := 0) sz129 hs rfl rfl rfl rfl rfl (one_cons rfl (one_cons rfl one_nil)) (fun w hs => O_nil (ad _ _ ?_))))
  refine W_ret ?_
  obtain rfl := sinj H
  exact retc (i := 0) rfl rfl ag129 sz129 hs rfl rfl ⟨_, _, rfl, Le.rfl' _, (hs.sub (ssk (ssk ssr))), rfl⟩

def book_scalars_1.j1 (aa : Bool) : Option Bool := some aa
def book_scalars_1.f (x0 : Int) : Option Bool := if x0 < 0 then (book_scalars_1.j1 true) else (if 1114111 < x0 then (book_scalars_1.j1 true) else (if 55296 ≤ x0 then (book_scalars_1.j1 (decide (x0 ≤ 57343))) else (book_scalars_1.j1 false)))
theorem book_scalars_1.c (hs : St w0 ρ (Γ) w) {x0 : Int} {r : Bool} (H : book_scalars_1.f x0 = some r) : CallsR Tryz.prog 142 [.int .i32 x0] w (fun v w' => v = .bool r ∧ St w0 ρ Γ w') := by
  rw [book_scalars_1.f] at H
  refine Et Tryz.func142 Tryz.ntmps142 rfl <| Wr fun aj ag => As rfl <| Ox ag <| W_seqj fun ah ai ab => ?_
  have ac : ∀ (aa : Bool) (w : World), book_scalars_1.j1 aa = some r → St w0 ρ (Γ) w → ah [(2, .bool aa)] w := by
   intro aa w H hs
   rw [book_scalars_1.j1] at H
   refine ai _ _ <| W_ret ?_
   obtain rfl := sinj H
   exact r1 rfl ⟨rfl, hs⟩
  refine W_region <| Mv rfl <| Ols rfl <| Mv rfl <| O_if (dj := 5) rfl (fun ad => ?_) (fun ad => ?_)
  ·rw [if_pos ad] at H
   refine On rfl <| On rfl <| Opk rfl <| Mv rfl <| On rfl <| On rfl <| On rfl <| O_nou rfl rfl rfl <| O_nou rfl rfl rfl <| On rfl <| Opk rfl <| As rfl <| O_nil (ab _ _ _ (S1 rfl) (ac true _ H hs))
  ·rw [if_neg ad] at H
   refine Oe rfl <| Mv rfl <| Oe rfl <| Ogt rfl <| Opk rfl <| Mv rfl <| O_if (dj := 9) rfl (fun ae => ?_) (fun ae => ?_)
   ·rw [if_pos ae] at H
    refine On rfl <| On rfl <| On rfl <| O_nou rfl rfl rfl <| O_nou rfl rfl rfl <| On rfl <| Opk rfl <| As rfl <| O_nil (ab _ _ _ (S1 rfl) (ac true _ H hs))
   ·rw [if_neg ae] at H
    refine Oe rfl <| Mv rfl <| Oe rfl <| Oge rfl <| Oe rfl <| Mv rfl <| O_if (dj := 12) rfl (fun af => ?_) (fun af => ?_)
    ·rw [if_pos af] at H
     refine Oe rfl <| Mv rfl <| Oe rfl <| Ole rfl <| Oe rfl <| Opk rfl <| Opk rfl <| As rfl <| O_nil (ab _ _ _ (S1 rfl) (ac (decide (x0 ≤ 57343)) _ H hs))
    ·rw [if_neg af] at H
     refine On rfl <| On rfl <| Oe rfl <| Opk rfl <| Opk rfl <| As rfl <| O_nil (ab _ _ _ (S1 rfl) (ac false _ H hs))

def slices_IndexFunc_rune_rune_igm.l1 : Nat → List Int → Int → Option Int
  | 0, _, _ => none
  | ab + 1, x0, aa => if aa < (x0.length : Int) then (if (0 : Int) ≤ aa ∧ aa < (x0.length : Int) then ((book_scalars_1.f (rd x0 aa)).bind fun ag => (if ag = true then (some aa) else ((slices_IndexFunc_rune_rune_igm.l1 ab x0) (IntKind.i64.wrap (aa + 1))))) else none) else (some (-1))
def slices_IndexFunc_rune_rune_igm.f (x0 : List Int) : Option Int := slices_IndexFunc_rune_rune_igm.l1 K0 x0 0
theorem slices_IndexFunc_rune_rune_igm.c (hs : St w0 ρ (Γ) w) {v0 : Value} {x0 : List Int} (h0 : SlR (Rep.int .i32) ρ v0 x0) {r : Int} (H : slices_IndexFunc_rune_rune_igm.f x0 = some r) : CallsR Tryz.prog 77 [v0, .func (.func 142) #[] #[]] w (fun v w' => v = .int .i64 r ∧ St w0 ρ Γ w') := by
  rw [slices_IndexFunc_rune_rune_igm.f] at H
  refine Et Tryz.func77 Tryz.ntmps77 rfl <| Wr fun ax ai => As rfl <| Ox ai <| W_seq fun ay aj => Wr fun az ak => Mv rfl <| O_y rfl (Y_lenR un28 h0 rfl) <| Mv rfl <| Ox ak <| W_block fun a0 al a1 => W_loop (σ := Nat × Int) (fun (ab, aa) => [(0, v0), (1, .func (.func 142) #[] #[]), (7, .int .i64 (x0.length : Int)), (8, .int .i64 aa)]) (fun (ab, aa) w => slices_IndexFunc_rune_rune_igm.l1 ab x0 aa = some r ∧ St w0 ρ (Γ) w) (fun s => s.1) (K0, 0) (T4 rfl) (Ai H hs) ?_
  rintro ⟨ab, aa⟩ w a2 ⟨H, hs⟩ ac
  show W _ _ _ _ _ _ [(0, v0), (1, .func (.func 142) #[] #[]), (7, .int .i64 (x0.length : Int)), (8, .int .i64 aa)] w
  cases ab with
  | zero => rw [slices_IndexFunc_rune_rune_igm.l1] at H; cases H
  | succ ab =>
  rw [slices_IndexFunc_rune_rune_igm.l1] at H
  refine Wr fun a3 am => Ols rfl <| Ox am <| W_seq fun a4 an => W_if rfl (fun ad => ?_) (fun ad => ?_)
  ·rw [if_pos ad] at H
   refine Wx an <| W_seq fun a5 ao => W_block fun a6 a7 a8 => Wr fun a9 ap => Mv rfl <| As rfl <| Ox ap <| Wr fun ba aq => Mv rfl <| Mv rfl <| Mv rfl ?_
   obtain ⟨ah, H⟩ := gd H
   obtain ⟨bb, bc, ar, au⟩ := h0.ix el28 ah.1 ah.2
   refine O_y rfl (au rfl rfl) <| O_y rfl (Y_load ag21 rfl (hs.see ar.int)) ?_
   obtain ⟨ag, ae, H⟩ := bnd H
   refine O_callv rfl rfl rfl (book_scalars_1.c hs ae) (fun bd w hpost => ?_)
   obtain ⟨rfl, hs⟩ := hpost
   refine Ox aq <| W_cond rfl (fun af => ?_) (fun af => ?_)
   ·rw [if_pos af] at H
    refine Wr fun be av => Mv rfl <| As rfl <| Ox av <| W.weak [(4, _)] (S1 rfl) <| W_ret ?_
    obtain rfl := sinj H
    exact r1 rfl ⟨rfl, hs⟩
   ·rw [if_neg (bft af)] at H
    refine Wx ao <| W_region <| Oad rfl <| Mv rfl <| O_nil (ac (ab, (IntKind.i64.wrap (aa + 1))) _ _ (T4 rfl) (Ai H hs) (Nat.lt_succ_self _))
  ·rw [if_neg ad] at H
   refine W_exit (al _ _ (aj _ _ <| Wr fun bf aw => As rfl <| Ox aw <| W_ret ?_))
   obtain rfl := sinj H
   exact r1 rfl ⟨rfl, hs⟩

def slices_ContainsFunc_rune_rune_igm.f (x0 : List Int) : Option Bool := (slices_IndexFunc_rune_rune_igm.f x0).bind fun ab => (some (decide (0 ≤ ab)))
theorem slices_ContainsFunc_rune_rune_igm.c (hs : St w0 ρ (Γ) w) {v0 : Value} {x0 : List Int} (h0 : SlR (Rep.int .i32) ρ v0 x0) {r : Bool} (H : slices_ContainsFunc_rune_rune_igm.f x0 = some r) : CallsR Tryz.prog 39 [v0, .func (.func 142) #[] #[]] w (fun v w' => v = .bool r ∧ St w0 ρ Γ w') := by
  rw [slices_ContainsFunc_rune_rune_igm.f] at H
  refine Et Tryz.func39 Tryz.ntmps39 rfl <| Wr fun ae ac => As rfl <| Ox ac <| Wr fun af ad => Mv rfl <| Mv rfl ?_
  obtain ⟨ab, aa, H⟩ := bnd H
  refine Oc rfl (slices_IndexFunc_rune_rune_igm.c hs h0 aa) (fun ag w hpost => ?_)
  obtain ⟨rfl, hs⟩ := hpost
  refine Oge rfl <| As rfl <| Ox ad <| W_ret ?_
  obtain rfl := sinj H
  exact r1 rfl ⟨rfl, hs⟩

def book_scalars.j1 (aa : Bool) : Option Bool := some aa
def book_scalars.f (x0 : List Int) (x1 x2 : Int) : Option Bool := if x1 ≤ (x0.length : Int) then (if (x0.length : Int) ≤ x2 then ((slices_ContainsFunc_rune_rune_igm.f x0).bind fun ab => (book_scalars.j1 (!ab))) else (book_scalars.j1 false)) else (book_scalars.j1 false)
theorem book_scalars.c (hs : St w0 ρ (Γ) w) {v0 : Value} {x0 : List Int} (h0 : SlR (Rep.int .i32) ρ v0 x0) {x1 x2 : Int} {r : Bool} (H : book_scalars.f x0 x1 x2 = some r) : CallsR Tryz.prog 91 [v0, .int .i64 x1, .int .i64 x2] w (fun v w' => v = .bool r ∧ St w0 ρ Γ w') := by
  rw [book_scalars.f] at H
  refine Et Tryz.func91 Tryz.ntmps91 rfl <| Wr fun ak ah => As rfl <| Ox ah <| W_seqj fun ai aj ac => ?_
  have ad : ∀ (aa : Bool) (w : World), book_scalars.j1 aa = some r → St w0 ρ (Γ) w → ai [(6, .bool aa)] w := by
   intro aa w H hs
   rw [book_scalars.j1] at H
   refine aj _ _ <| W_ret ?_
   obtain rfl := sinj H
   exact r1 rfl ⟨rfl, hs⟩
  refine W_region <| Mv rfl <| O_y rfl (Y_lenR un28 h0 rfl) <| Mv rfl <| Oge rfl <| Mv rfl <| O_if (dj := 11) rfl (fun ae => ?_) (fun ae => ?_)
  ·rw [if_pos ae] at H
   refine Oe rfl <| Mv rfl <| Oe rfl <| O_y rfl (Y_lenR un28 h0 rfl) <| Oe rfl <| Mv rfl <| Oe rfl <| Ole rfl <| Opk rfl <| Mv rfl <| O_if (dj := 17) rfl (fun af => ?_) (fun af => ?_)
   ·rw [if_pos af] at H
    refine Oe rfl <| Mv rfl <| Oe rfl ?_
    obtain ⟨ab, ag, H⟩ := bnd H
    refine Oc rfl (slices_ContainsFunc_rune_rune_igm.c hs h0 ag) (fun al w hpost => ?_)
    obtain ⟨rfl, hs⟩ := hpost
    refine Oe rfl <| Ont rfl <| Opk rfl <| As rfl <| O_nil (ac _ _ _ (S1 rfl) (ad (!ab) _ H hs))
   ·rw [if_neg af] at H
    refine On rfl <| On rfl <| On rfl <| Opk rfl <| As rfl <| O_nil (ac _ _ _ (S1 rfl) (ad false _ H hs))
  ·rw [if_neg ae] at H
   refine On rfl <| On rfl <| On rfl <| On rfl <| Opk rfl <| Mv rfl <| On rfl <| On rfl <| On rfl <| Opk rfl <| As rfl <| O_nil (ac _ _ _ (S1 rfl) (ad false _ H hs))

def book_apart_1_cbj.j1 (aa : Int) (ad : Bool) : Option (Bool × Int) := some (ad, aa)
def book_apart_1_cbj.j2 (af : Int → Option (Bool × Int)) (y1_1 : List Val) (x0 : Chs) (aa : Int) (ab : Bool) : Option (Bool × Int) := if ab = true then (af (IntKind.i64.wrap (aa + 1))) else ((book_scalars.f x0.is_ 1 18).bind fun ap => (if ap = true then (if aa = (y1_1.length : Int) then (book_apart_1_cbj.j1 aa true) else (if (0 : Int) ≤ aa ∧ aa < (y1_1.length : Int) then (book_apart_1_cbj.j1 aa (decide (x0.hi < ((rd y1_1 aa).lo)))) else none)) else (book_apart_1_cbj.j1 aa false)))
def book_apart_1_cbj.l1 : Nat → List Val → Chs → Int → Option (Bool × Int)
  | 0, _, _, _ => none
  | ac + 1, y1_1, x0, aa => if aa < (y1_1.length : Int) then (if (0 : Int) ≤ aa ∧ aa < (y1_1.length : Int) then (book_apart_1_cbj.j2 (book_apart_1_cbj.l1 ac y1_1 x0) y1_1 x0 aa (decide (((rd y1_1 aa).hi) < x0.lo))) else none) else (book_apart_1_cbj.j2 (book_apart_1_cbj.l1 ac y1_1 x0) y1_1 x0 aa false)
def book_apart_1_cbj.f (x0 : Chs) (y0_0 : Int) (y1_0 : List ByteArray) (y1_1 : List Val) (y1_2 : List Chs) (y1_3 : List Val) (y1_4 : List Chs) (y1_5 : List Spn) (y1_6 y1_7 : List Val) (y1_8 : List Spn) (y1_9 : List Val) (y1_10 : List Chs) : Option (Bool × Int) := book_apart_1_cbj.l1 K0 y1_1 x0 y0_0
theorem book_apart_1_cbj.c {pb0 : Nat} {y0_0 : Int} {pb1 : Nat} {w1_0 : Value} {y1_0 : List ByteArray} {w1_1 : Value} {y1_1 : List Val} {w1_2 : Value} {y1_2 : List Chs} {w1_3 : Value} {y1_3 : List Val} {w1_4 : Value} {y1_4 : List Chs} {w1_5 : Value} {y1_5 : List Spn} {w1_6 : Value} {y1_6 : List Val} {w1_7 : Value} {y1_7 : List Val} {w1_8 : Value} {y1_8 : List Spn} {w1_9 : Value} {y1_9 : List Val} {w1_10 : Value} {y1_10 : List Chs} (hs : St w0 ρ ((.box pb0 3 ([.int .i64 y0_0])) :: (.box pb1 27 ([w1_0, w1_1, w1_2, w1_3, w1_4, w1_5, w1_6, w1_7, w1_8, w1_9, w1_10])) :: Γ) w) {c0 : List Value} {x0 : Chs} (h0 : rChs.R ρ c0 x0) (g1_0 : SlR Rep.str ρ w1_0 y1_0) (g1_1 : SlR rVal ρ w1_1 y1_1) (g1_2 : SlR rChs ρ w1_2 y1_2) (g1_3 : SlR rVal ρ w1_3 y1_3) (g1_4 : SlR rChs ρ w1_4 y1_4) (g1_5 : SlR rSpn ρ w1_5 y1_5) (g1_6 : SlR rVal ρ w1_6 y1_6) (g1_7 : SlR rVal ρ w1_7 y1_7) (g1_8 : SlR rSpn ρ w1_8 y1_8) (g1_9 : SlR rVal ρ w1_9 y1_9) (g1_10 : SlR rChs ρ w1_10 y1_10) {r : Bool × Int} (H : book_apart_1_cbj.f x0 y0_0 y1_0 y1_1 y1_2 y1_3 y1_4 y1_5 y1_6 y1_7 y1_8 y1_9 y1_10 = some r) : CallsR Tryz.prog 148 [.agg c0.toArray, .pointer (some ⟨pb0, 0, none⟩), .pointer (some ⟨pb1, 0, none⟩)] w (fun v w' => v = .bool r.1 ∧ St w0 ρ ((.box pb0 3 ([.int .i64 r.2])) :: (.box pb1 27 ([w1_0, w1_1, w1_2, w1_3, w1_4, w1_5, w1_6, w1_7, w1_8, w1_9, w1_10])) :: Γ) w') := by
  rw [book_apart_1_cbj.f] at H
  refine Et Tryz.func148 Tryz.ntmps148 rfl ?_
  have aw := h0
  obtain ⟨ah, rfl, ax⟩ := aw
  refine Wr fun bd ay => O_boxN (cs := [.int .i32 x0.lo, .int .i32 x0.hi, ah]) hs rfl rfl (fun ae w hs => As rfl <| Ox ay <| W_seq fun be az => W_block fun bf a0 bg => W_loop (σ := Nat × Int) (fun (ac, aa) => [(1, .pointer (some ⟨pb0, 0, none⟩)), (2, .pointer (some ⟨pb1, 0, none⟩)), (3, .pointer (some ⟨ae, 0, none⟩))]) (fun (ac, aa) w => book_apart_1_cbj.l1 ac y1_1 x0 aa = some r ∧ St w0 ρ ((.box ae 110 ([.int .i32 x0.lo, .int .i32 x0.hi, ah])) :: (.box pb0 3 ([.int .i64 aa])) :: (.box pb1 27 ([w1_0, w1_1, w1_2, w1_3, w1_4, w1_5, w1_6, w1_7, w1_8, w1_9, w1_10])) :: Γ) w) (fun s => s.1) (K0, y0_0) (T3 rfl) (Ai H hs) ?_)
  rintro ⟨ac, aa⟩ w bh ⟨H, hs⟩ ag
  show W _ _ _ _ _ _ [(1, .pointer (some ⟨pb0, 0, none⟩)), (2, .pointer (some ⟨pb1, 0, none⟩)), (3, .pointer (some ⟨ae, 0, none⟩))] w
  cases ac with
  | zero => rw [book_apart_1_cbj.l1] at H; cases H
  | succ ac =>
  rw [book_apart_1_cbj.l1] at H
  refine W_seq fun bi a1 => W_seqj fun a2 a3 aq => ?_
  have ar : ∀ (ab : Bool) (w : World), book_apart_1_cbj.j2 (book_apart_1_cbj.l1 ac y1_1 x0) y1_1 x0 aa ab = some r → St w0 ρ ((.box ae 110 ([.int .i32 x0.lo, .int .i32 x0.hi, ah])) :: (.box pb0 3 ([.int .i64 aa])) :: (.box pb1 27 ([w1_0, w1_1, w1_2, w1_3, w1_4, w1_5, w1_6, w1_7, w1_8, w1_9, w1_10])) :: Γ) w → a2 [(1, .pointer (some ⟨pb0, 0, none⟩)), (2, .pointer (some ⟨pb1, 0, none⟩)), (3, .pointer (some ⟨ae, 0, none⟩)), (20, .bool ab)] w := by
   intro ab w H hs
   rw [book_apart_1_cbj.j2] at H
   refine a3 _ _ <| W_cond rfl (fun ai => ?_) (fun ai => ?_)
   ·rw [if_pos ai] at H
    refine Wx a1 <| W_block fun bj bk bl => W_region <| Obx 1 ag3 hs rfl <| Oad rfl <| O_store (i := 1) sz3 hs rfl rfl rfl rfl rfl (fun w hs => O_nil (ag (ac, (IntKind.i64.wrap (aa + 1))) _ _ (T3 rfl) (Ai H hs) (Nat.lt_succ_self _)))
   ·rw [if_neg (bft ai)] at H
    refine W_exit (a0 _ _ (az _ _ <| W_seqj fun a4 a5 aj => ?_))
    have ak : ∀ (ad : Bool) (w : World), book_apart_1_cbj.j1 aa ad = some r → St w0 ρ ((.box ae 110 ([.int .i32 x0.lo, .int .i32 x0.hi, ah])) :: (.box pb0 3 ([.int .i64 aa])) :: (.box pb1 27 ([w1_0, w1_1, w1_2, w1_3, w1_4, w1_5, w1_6, w1_7, w1_8, w1_9, w1_10])) :: Γ) w → a4 [(4, .bool ad)] w := by
     intro ad w H hs
     rw [book_apart_1_cbj.j1] at H
     refine a5 _ _ <| W_ret ?_
     obtain rfl := sinj H
     exact r1 rfl ⟨rfl, (hs.sub (ssk (ssc (ssc ssr))))⟩
    refine W_drawS 22 [0, 1, 2, 4, 8, 8, 40, 72, 152, 264, 512, 1536, 512, 6656, 8704, 16896, 512, 66048, 164352, 262664, 524296, 2097151] [2097148, 2097144, 2097136, 523264, 2096864, 2097040, 2096912, 2096656, 2096128, 1048576, 2093056, 2084864, 2083840, 2064384, 2031616, 1769472, 1899520, 1637376, 1048576, 0, 0, 0] [0, 1, 3, 7, 15, 15, 47, 111, 255, 511, 1023, 2047, 1023, 8191, 16383, 32767, 1023, 66559, 262143, 524287, 1048575, 2097151] [2, 3, 4, 5, 6, 7, 8, 9, 10, 11, 12, 13, 14, 15, 16, 17, 18, 19, 20, 21] (fun w => St w0 ρ ((.box ae 110 ([.int .i32 x0.lo, .int .i32 x0.hi, ah])) :: (.box pb0 3 ([.int .i64 aa])) :: (.box pb1 27 ([w1_0, w1_1, w1_2, w1_3, w1_4, w1_5, w1_6, w1_7, w1_8, w1_9, w1_10])) :: Γ) w) mixed (by kernel_rfl) (fun sh => ?_)
    have hs := hs.drew
    refine Fp 0 sh rfl (fun w => Y_field fo110_2 rfl) <| Fy 1 sh rfl hs (fun w hs => Yb 0 ag28 hs rfl rfl rfl) <| F1 2 sh rfl (fun bm a6 => ?_)
    obtain ⟨ap, al, H⟩ := bnd H
    refine Oc rfl (book_scalars.c hs ax al) (fun bn w hpost => ?_)
    obtain ⟨rfl, hs⟩ := hpost
    refine O_nil (a6 _ _ (fun h _ => absurd h (by decide)) <| OD_resetS sh [] hs (by kernel_rfl) <| Fm 3 sh rfl <| OD_cases (dj := 26) rfl (fun am => ?_) (fun am => ?_))
    ·rw [if_pos am] at H
     refine Fy 4 sh rfl hs (fun w hs => Yb 1 ag3 hs rfl rfl rfl) <| Fp 5 sh rfl (fun w => Y_field fo27_1 rfl) <| Fy 6 sh rfl hs (fun w hs => Yb 2 ag23 hs rfl rfl rfl) <| Fp 7 sh rfl (fun w => Y_lenR un23 g1_1 rfl) <| Fp 8 sh rfl (fun w => Y_eql rfl rfl) <| Fp 9 sh rfl (fun w => Y_move rfl) <| OD_if (dj := 32) rfl (fun an => ?_) (fun an => ?_)
     ·rw [if_pos an] at H
      refine Fn 10 sh rfl <| Fn 11 sh rfl <| Fn 12 sh rfl <| Fn 13 sh rfl <| Fn 14 sh rfl <| Fn 15 sh rfl <| Fn 16 sh rfl <| Fn 17 sh rfl <| Fn 18 sh rfl <| Fp 19 sh rfl (fun w => Y_pick_t rfl rfl) <| Fp 20 sh rfl (fun w => Y_pick_t rfl rfl) <| Fp 21 sh rfl (fun w => Y_assign rfl) <| FE sh (aj _ _ _ (S1 rfl) (ak true _ H hs))
     ·rw [if_neg an] at H
      refine Fp 10 sh rfl (fun w => Y_field fo27_1 rfl) <| Fy 11 sh rfl hs (fun w hs => Yb 2 ag23 hs rfl rfl rfl) <| Fy 12 sh rfl hs (fun w hs => Yb 1 ag3 hs rfl rfl rfl) ?_
      obtain ⟨au, H⟩ := gd H
      obtain ⟨bo, bp, a7, a8⟩ := g1_1.ix el23 au.1 au.2
      obtain ⟨_, rfl, a9⟩ := a7
      refine Fp 13 sh rfl (fun w => a8 rfl rfl) <| Fp 14 sh rfl (fun w => Y_field fo67_0 rfl) <| Fy 15 sh rfl hs (fun w hs => Y_load ag21 rfl (hs.see (a9 0 _ rfl))) <| Fp 16 sh rfl (fun w => Y_field fo110_1 rfl) <| Fy 17 sh rfl hs (fun w hs => Yb 0 ag21 hs rfl rfl rfl) <| Fp 18 sh rfl (fun w => Y_gtr rfl rfl) <| Fp 19 sh rfl (fun w => Y_pick_f rfl rfl) <| Fp 20 sh rfl (fun w => Y_pick_t rfl rfl) <| Fp 21 sh rfl (fun w => Y_assign rfl) <| FE sh (aj _ _ _ (S1 rfl) (ak (decide (x0.hi < ((rd y1_1 aa).lo))) _ H hs))
    ·rw [if_neg (bft am)] at H
     refine Fn 4 sh rfl <| Fn 5 sh rfl <| Fn 6 sh rfl <| Fn 7 sh rfl <| Fn 8 sh rfl <| Fn 9 sh rfl <| Fu 10 sh rfl <| Fu 11 sh rfl <| Fu 12 sh rfl <| Fu 13 sh rfl <| Fu 14 sh rfl <| Fu 15 sh rfl <| Fu 16 sh rfl <| Fu 17 sh rfl ?_
     refine Fu 18 sh rfl <| Fn 19 sh rfl <| Fp 20 sh rfl (fun w => Y_pick_f rfl rfl) <| Fp 21 sh rfl (fun w => Y_assign rfl) <| FE sh (aj _ _ _ (S1 rfl) (ak false _ H hs))
  refine W_drawS 16 [0, 0, 2, 4, 9, 16, 32, 96, 32, 416, 544, 1056, 32, 4128, 10272, 16416] [65518, 65529, 65521, 65505, 65472, 0, 65280, 64768, 64704, 63488, 61440, 45056, 53184, 36800, 0, 0] [0, 0, 2, 6, 15, 31, 63, 127, 63, 511, 1023, 2047, 63, 4159, 16383, 32767] [] (fun w => St w0 ρ ((.box ae 110 ([.int .i32 x0.lo, .int .i32 x0.hi, ah])) :: (.box pb0 3 ([.int .i64 aa])) :: (.box pb1 27 ([w1_0, w1_1, w1_2, w1_3, w1_4, w1_5, w1_6, w1_7, w1_8, w1_9, w1_10])) :: Γ) w) mixed (by kernel_rfl) (fun sh => ?_)
  have hs := hs.drew
  refine Fy 0 sh rfl hs (fun w hs => Yb 1 ag3 hs rfl rfl rfl) <| Fp 1 sh rfl (fun w => Y_field fo27_1 rfl) <| Fy 2 sh rfl hs (fun w hs => Yb 2 ag23 hs rfl rfl rfl) <| Fp 3 sh rfl (fun w => Y_lenR un23 g1_1 rfl) <| Fp 4 sh rfl (fun w => Y_lss rfl rfl) <| Fm 5 sh rfl <| OD_if (dj := 10) rfl (fun ao => ?_) (fun ao => ?_)
  ·rw [if_pos ao] at H
   refine Fp 6 sh rfl (fun w => Y_field fo27_1 rfl) <| Fy 7 sh rfl hs (fun w hs => Yb 2 ag23 hs rfl rfl rfl) <| Fy 8 sh rfl hs (fun w hs => Yb 1 ag3 hs rfl rfl rfl) ?_
   obtain ⟨av, H⟩ := gd H
   obtain ⟨bq, br, ba, bb⟩ := g1_1.ix el23 av.1 av.2
   obtain ⟨_, rfl, bc⟩ := ba
   refine Fp 9 sh rfl (fun w => bb rfl rfl) <| Fp 10 sh rfl (fun w => Y_field fo67_1 rfl) <| Fy 11 sh rfl hs (fun w hs => Y_load ag21 rfl (hs.see (bc 1 _ rfl))) <| Fp 12 sh rfl (fun w => Y_field fo110_0 rfl) <| Fy 13 sh rfl hs (fun w hs => Yb 0 ag21 hs rfl rfl rfl) <| Fp 14 sh rfl (fun w => Y_lss rfl rfl) <| Fp 15 sh rfl (fun w => Y_pick_t rfl rfl) <| FE sh (aq _ _ _ (T4 rfl) (ar (decide (((rd y1_1 aa).hi) < x0.lo)) _ H hs))
  ·rw [if_neg ao] at H
   refine Fn 6 sh rfl <| Fn 7 sh rfl <| Fn 8 sh rfl <| Fn 9 sh rfl <| Fn 10 sh rfl <| Fn 11 sh rfl <| Fn 12 sh rfl <| Fn 13 sh rfl <| Fn 14 sh rfl <| Fp 15 sh rfl (fun w => Y_pick_f rfl rfl) <| FE sh (aq _ _ _ (T4 rfl) (ar false _ H hs))

def book_rising_api_Chars_mdm.j1 (an : Int → Int → Int → Option (Int × Int)) (aa : Int) (ai : Spn) (ac : Int) (af : Bool) : Option (Int × Int) := if af = true then (some (aa, ac)) else (an ac ai.hi (IntKind.i64.wrap (aa + 1)))
def book_rising_api_Chars_mdm.l1 : Nat → List ByteArray → List Val → List Chs → List Val → List Chs → List Spn → List Val → List Val → List Spn → List Val → List Chs → List Chs → Int → Int → Int → Option (Int × Int)
  | 0, _, _, _, _, _, _, _, _, _, _, _, _, _, _, _ => none
  | ag + 1, y1_0, y1_1, y1_2, y1_3, y1_4, y1_5, y1_6, y1_7, y1_8, y1_9, y1_10, x0, ab, ah, aa => if aa < (x0.length : Int) then (if (0 : Int) ≤ aa ∧ aa < (x0.length : Int) then ((book_ofChars.f (rd x0 aa)).bind fun ai => (if ai.lo ≤ ah then (book_rising_api_Chars_mdm.j1 (book_rising_api_Chars_mdm.l1 ag y1_0 y1_1 y1_2 y1_3 y1_4 y1_5 y1_6 y1_7 y1_8 y1_9 y1_10 x0) aa ai ab true) else (if ai.hi < ai.lo then (book_rising_api_Chars_mdm.j1 (book_rising_api_Chars_mdm.l1 ag y1_0 y1_1 y1_2 y1_3 y1_4 y1_5 y1_6 y1_7 y1_8 y1_9 y1_10 x0) aa ai ab true) else (if 1114111 < ai.hi then (book_rising_api_Chars_mdm.j1 (book_rising_api_Chars_mdm.l1 ag y1_0 y1_1 y1_2 y1_3 y1_4 y1_5 y1_6 y1_7 y1_8 y1_9 y1_10 x0) aa ai ab true) else ((book_apart_1_cbj.f (rd x0 aa) ab y1_0 y1_1 y1_2 y1_3 y1_4 y1_5 y1_6 y1_7 y1_8 y1_9 y1_10).bind fun aj => (book_rising_api_Chars_mdm.j1 (book_rising_api_Chars_mdm.l1 ag y1_0 y1_1 y1_2 y1_3 y1_4 y1_5 y1_6 y1_7 y1_8 y1_9 y1_10 x0) aa ai aj.2 (!aj.1))))))) else none) else (some ((-1), ab))
def book_rising_api_Chars_mdm.f (x0 : List Chs) (y0_0 : Int) (y1_0 : List ByteArray) (y1_1 : List Val) (y1_2 : List Chs) (y1_3 : List Val) (y1_4 : List Chs) (y1_5 : List Spn) (y1_6 y1_7 : List Val) (y1_8 : List Spn) (y1_9 : List Val) (y1_10 : List Chs) : Option (Int × Int) := if 65536 < (x0.length : Int) then (some (65536, y0_0)) else (book_rising_api_Chars_mdm.l1 K0 y1_0 y1_1 y1_2 y1_3 y1_4 y1_5 y1_6 y1_7 y1_8 y1_9 y1_10 x0 y0_0 (-1) 0)
theorem book_rising_api_Chars_mdm.c {pb0 : Nat} {y0_0 : Int} {pb1 : Nat} {w1_0 : Value} {y1_0 : List ByteArray} {w1_1 : Value} {y1_1 : List Val} {w1_2 : Value} {y1_2 : List Chs} {w1_3 : Value} {y1_3 : List Val} {w1_4 : Value} {y1_4 : List Chs} {w1_5 : Value} {y1_5 : List Spn} {w1_6 : Value} {y1_6 : List Val} {w1_7 : Value} {y1_7 : List Val} {w1_8 : Value} {y1_8 : List Spn} {w1_9 : Value} {y1_9 : List Val} {w1_10 : Value} {y1_10 : List Chs} (hs : St w0 ρ ((.box pb0 3 ([.int .i64 y0_0])) :: (.box pb1 27 ([w1_0, w1_1, w1_2, w1_3, w1_4, w1_5, w1_6, w1_7, w1_8, w1_9, w1_10])) :: Γ) w) {v0 : Value} {x0 : List Chs} (h0 : SlR rChs ρ v0 x0) (g1_0 : SlR Rep.str ρ w1_0 y1_0) (g1_1 : SlR rVal ρ w1_1 y1_1) (g1_2 : SlR rChs ρ w1_2 y1_2) (g1_3 : SlR rVal ρ w1_3 y1_3) (g1_4 : SlR rChs ρ w1_4 y1_4) (g1_5 : SlR rSpn ρ w1_5 y1_5) (g1_6 : SlR rVal ρ w1_6 y1_6) (g1_7 : SlR rVal ρ w1_7 y1_7) (g1_8 : SlR rSpn ρ w1_8 y1_8) (g1_9 : SlR rVal ρ w1_9 y1_9) (g1_10 : SlR rChs ρ w1_10 y1_10) {r : Int × Int} (H : book_rising_api_Chars_mdm.f x0 y0_0 y1_0 y1_1 y1_2 y1_3 y1_4 y1_5 y1_6 y1_7 y1_8 y1_9 y1_10 = some r) : CallsR Tryz.prog 100 [v0, .func (.func 66) #[] #[], .func (.func 148) #[] #[.pointer (some ⟨pb0, 0, none⟩), .pointer (some ⟨pb1, 0, none⟩)]] w (fun v w' => v = .int .i64 r.1 ∧ St w0 ρ ((.box pb0 3 ([.int .i64 r.2])) :: (.box pb1 27 ([w1_0, w1_1, w1_2, w1_3, w1_4, w1_5, w1_6, w1_7, w1_8, w1_9, w1_10])) :: Γ) w') := by
  rw [book_rising_api_Chars_mdm.f] at H
  refine Et Tryz.func100 Tryz.ntmps100 rfl <| Wr fun bx ba => As rfl <| Ox ba <| W_seq fun bz bb => Wr fun b0 bc => Mv rfl <| O_y rfl (Y_lenR un24 h0 rfl) <| Ogt rfl <| Ox bc <| W_if rfl (fun ay => ?_) (fun ay => ?_)
  ·rw [if_pos ay] at H
   refine Wr fun b1 bd => As rfl <| Ox bd <| W_ret ?_
   obtain rfl := sinj H
   exact r1 rfl ⟨rfl, hs⟩
  ·rw [if_neg ay] at H
   refine Wx bb <| Wr fun b2 be => As rfl <| Ox be <| W_seq fun b3 bf => Wr fun b4 bg => Mv rfl <| O_y rfl (Y_lenR un24 h0 rfl) <| Mv rfl <| Ox bg <| W_block fun b5 bh b6 => W_loop (σ := Nat × Int × Int × Int × Hp) (fun (ag, ab, ah, aa, ak) => [(1, .func (.func 66) #[] #[]), (2, .func (.func 148) #[] #[.pointer (some ⟨pb0, 0, none⟩), .pointer (some ⟨pb1, 0, none⟩)]), (7, .int .i32 ah), (14, v0), (15, .int .i64 (x0.length : Int)), (16, .int .i64 aa)]) (fun (ag, ab, ah, aa, ak) w => book_rising_api_Chars_mdm.l1 ag y1_0 y1_1 y1_2 y1_3 y1_4 y1_5 y1_6 y1_7 y1_8 y1_9 y1_10 x0 ab ah aa = some r ∧ Le ρ ak ∧ St w0 ak ((.box pb0 3 ([.int .i64 ab])) :: (.box pb1 27 ([w1_0, w1_1, w1_2, w1_3, w1_4, w1_5, w1_6, w1_7, w1_8, w1_9, w1_10])) :: Γ) w) (fun s => s.1) (K0, y0_0, (-1), 0, ρ) sbn (Ai H (Ai (Le.rfl' _) hs)) ?_
   rintro ⟨ag, ab, ah, aa, ak⟩ w b7 ⟨H, ad, hs⟩ ao
   show W _ _ _ _ _ _ [(1, .func (.func 66) #[] #[]), (2, .func (.func 148) #[] #[.pointer (some ⟨pb0, 0, none⟩), .pointer (some ⟨pb1, 0, none⟩)]), (7, .int .i32 ah), (14, v0), (15, .int .i64 (x0.length : Int)), (16, .int .i64 aa)] w
   cases ag with
   | zero => rw [book_rising_api_Chars_mdm.l1] at H; cases H
   | succ ag =>
   rw [book_rising_api_Chars_mdm.l1] at H
   refine Wr fun b8 bi => Ols rfl <| Ox bi <| W_seq fun b9 bj => W_if rfl (fun az => ?_) (fun az => ?_)
   ·rw [if_pos az] at H
    refine Wx bj <| W_seq fun ca bk => W_block fun cb cc cd => Wr fun ce bl => Mv rfl ?_
    obtain ⟨a9, H⟩ := gd H
    obtain ⟨cf, cg, bm, bn⟩ := (h0.mono ad).ix el24 a9.1 a9.2
    obtain ⟨_, ⟨bo, rfl, a0⟩, bp⟩ := bm
    refine O_y rfl (bn rfl rfl) <| O_y rfl (Y_loadN ag110 sz110 rfl rfl (fun j u hu => hs.see (bp j u hu))) <| O_alloc zr110 hs rfl (fun bq w hs => As rfl <| O_storeN (i := 0) sz110 hs rfl rfl rfl rfl rfl (one_cons rfl (one_cons rfl (one_cons a0.one one_nil))) (fun w hs => Ox bl <| Wr fun ch br => Mv rfl <| O_y rfl (Y_loadbN (i := 0) ag110 sz110 hs rfl rfl rfl rfl) ?_))
    obtain ⟨ai, a1, H⟩ := bnd H
    refine O_callv rfl rfl rfl (book_ofChars.c hs ⟨_, rfl, a0⟩ a1) (fun ci w hpost => ?_)
    obtain ⟨av, bs, rfl, ae, hs, a2⟩ := hpost
    have a3 := a2
    obtain rfl := a3
    refine O_alloc zr129 hs rfl (fun aw w hs => O_storeN (i := 0) sz129 hs rfl rfl rfl rfl rfl (one_cons rfl (one_cons rfl one_nil)) (fun w hs => Ox br <| W.weak [(1, _), (2, _), (7, _), (8, _), (9, _), (10, _), (14, _), (15, _), (16, _)] sbn ?_))
    refine W_seq fun bt a4 => W_seqj fun a5 a6 al => ?_
    have am : ∀ (ac : Int) (af : Bool) (w : World), book_rising_api_Chars_mdm.j1 (book_rising_api_Chars_mdm.l1 ag y1_0 y1_1 y1_2 y1_3 y1_4 y1_5 y1_6 y1_7 y1_8 y1_9 y1_10 x0) aa ai ac af = some r → St w0 av ((.box aw 129 ([.int .i32 ai.lo, .int .i32 ai.hi])) :: (.box bq 110 ([.int .i32 ((rd x0 aa).lo), .int .i32 ((rd x0 aa).hi), bo])) :: (.box pb0 3 ([.int .i64 ac])) :: (.box pb1 27 ([w1_0, w1_1, w1_2, w1_3, w1_4, w1_5, w1_6, w1_7, w1_8, w1_9, w1_10])) :: Γ) w → a5 [(1, .func (.func 66) #[] #[]), (2, .func (.func 148) #[] #[.pointer (some ⟨pb0, 0, none⟩), .pointer (some ⟨pb1, 0, none⟩)]), (8, .int .i64 aa), (10, .pointer (some ⟨aw, 0, none⟩)), (14, v0), (15, .int .i64 (x0.length : Int)), (16, .int .i64 aa), (45, .bool af)] w := by
     intro ac af w H hs
     rw [book_rising_api_Chars_mdm.j1] at H
     refine a6 _ _ <| W_cond rfl (fun ap => ?_) (fun ap => ?_)
     ·rw [if_pos ap] at H
      refine Wr fun bu a7 => Mv rfl <| As rfl <| Ox a7 <| W_ret ?_
      obtain rfl := sinj H
      exact r1 rfl ⟨rfl, ((hs.sub (ssk (ssk (ssc (ssc ssr))))).less (ad.trans ae))⟩
     ·rw [if_neg (bft ap)] at H
      refine Wx a4 <| W_region <| Ofd fo129_1 rfl <| Obx 0 ag21 hs rfl <| As rfl <| Ox bk <| W_region <| Oad rfl <| Mv rfl <| O_nil (ao (ag, ac, ai.hi, (IntKind.i64.wrap (aa + 1)), av) _ _ sbn (Ai H (Ai (ad.trans ae) (hs.sub (ssk (ssk (ssc (ssc ssr))))))) (Nat.lt_succ_self _))
    refine W_region <| Ofd fo129_0 rfl <| Obx 0 ag21 hs rfl <| Mv rfl <| Ole rfl <| Mv rfl <| O_if (dj := 28) rfl (fun aq => ?_) (fun aq => ?_)
    ·rw [if_pos aq] at H
     refine On rfl <| On rfl <| On rfl <| On rfl <| On rfl <| Opk rfl <| Mv rfl <| On rfl <| On rfl <| On rfl <| Opk rfl <| Mv rfl <| On rfl <| On rfl ?_
     refine On rfl <| On rfl <| Opk rfl <| O_nil (al _ _ _ sbn (am ab true _ H hs))
    ·rw [if_neg aq] at H
     refine Oe rfl <| Ofd fo129_1 rfl <| Oe rfl <| Obx 0 ag21 hs rfl <| Oe rfl <| Ofd fo129_0 rfl <| Oe rfl <| Obx 0 ag21 hs rfl <| Oe rfl <| Ols rfl <| Opk rfl <| Mv rfl <| O_if (dj := 35) rfl (fun ar => ?_) (fun ar => ?_)
     ·rw [if_pos ar] at H
      refine On rfl <| On rfl <| On rfl <| Opk rfl <| Mv rfl <| On rfl <| On rfl <| On rfl <| On rfl <| Opk rfl <| O_nil (al _ _ _ sbn (am ab true _ H hs))
     ·rw [if_neg ar] at H
      refine Oe rfl <| Ofd fo129_1 rfl <| Oe rfl <| Obx 0 ag21 hs rfl <| Oe rfl <| Ogt rfl <| Opk rfl <| Mv rfl <| O_if (dj := 40) rfl (fun au => ?_) (fun au => ?_)
      ·rw [if_pos au] at H
       refine On rfl <| On rfl <| On rfl <| On rfl <| Opk rfl <| O_nil (al _ _ _ sbn (am ab true _ H hs))
      ·rw [if_neg au] at H
       refine Oe rfl <| Mv rfl <| Oe rfl <| O_y rfl (Y_loadbN (i := 1) ag110 sz110 hs rfl rfl rfl rfl) <| Oe rfl ?_
       have hs := hs.front 3 rfl
       have hs := hs.front 3 rfl
       obtain ⟨aj, ax, H⟩ := bnd H
       refine O_callv rfl rfl rfl (book_apart_1_cbj.c hs ⟨_, rfl, (a0.mono ae)⟩ (g1_0.mono (ad.trans ae)) (g1_1.mono (ad.trans ae)) (g1_2.mono (ad.trans ae)) (g1_3.mono (ad.trans ae)) (g1_4.mono (ad.trans ae)) (g1_5.mono (ad.trans ae)) (g1_6.mono (ad.trans ae)) (g1_7.mono (ad.trans ae)) (g1_8.mono (ad.trans ae)) (g1_9.mono (ad.trans ae)) (g1_10.mono (ad.trans ae)) ax) (fun bv w hpost => ?_)
       obtain ⟨rfl, hs⟩ := hpost
       have hs := hs.sink 3
       have hs := hs.sink 3
       refine Oe rfl <| Ont rfl <| Opk rfl <| O_nil (al _ _ _ sbn (am aj.2 (!aj.1) _ H hs))
   ·rw [if_neg az] at H
    refine W_exit (bh _ _ (bf _ _ <| Wr fun bw a8 => As rfl <| Ox a8 <| W_ret ?_))
    obtain rfl := sinj H
    exact r1 rfl ⟨rfl, (hs.less ad)⟩

def book_apart.f (x0 : Bk) : Option Int := (book_rising_api_Chars_mdm.f x0.maps 0 x0.names x0.status x0.maps x0.class_ x0.decomp x0.excl x0.bidi x0.join x0.marks x0.script x0.like).bind fun ab => (some ab.1)
theorem book_apart.c (hs : St w0 ρ (Γ) w) {c0 : List Value} {x0 : Bk} (h0 : rBk.R ρ c0 x0) {r : Int} (H : book_apart.f x0 = some r) : CallsR Tryz.prog 97 [.agg c0.toArray] w (fun v w' => v = .int .i64 r ∧ St w0 ρ Γ w') := by
  rw [book_apart.f] at H
  refine Et Tryz.func97 Tryz.ntmps97 rfl ?_
  have ad := h0
  obtain ⟨ae, af, ag, ah, ai, aj, ak, al, am, an, ao, rfl, ap, aq, ac, ar, au, av, aw, ax, ay, az, a0⟩ := ad
  refine Wr fun a4 a1 => O_boxN (cs := [ae, af, ag, ah, ai, aj, ak, al, am, an, ao]) hs rfl rfl (fun a5 w hs => As rfl <| Ox a1 <| Wr fun a6 a2 => O_alloc zr3 hs rfl (fun a7 w hs => O_store (i := 0) sz3 hs rfl rfl rfl rfl rfl (fun w hs => Ox a2 <| Wr fun a8 a3 => Ofd fo27_2 rfl <| Obx 1 ag24 hs rfl ?_)))
  refine O_y rfl (Y_func rfl) ?_
  have hs := hs.front 1 rfl
  have hs := hs.front 1 rfl
  obtain ⟨ab, aa, H⟩ := bnd H
  refine Oc rfl (book_rising_api_Chars_mdm.c hs ac ap aq ac ar au av aw ax ay az a0 aa) (fun a9 w hpost => ?_)
  obtain ⟨rfl, hs⟩ := hpost
  have hs := hs.sink 1
  have hs := hs.sink 1
  refine As rfl <| Ox a3 <| W_ret ?_
  obtain rfl := sinj H
  exact r1 rfl ⟨rfl, (hs.sub (ssk (ssk ssr)))⟩

def book_Check_6_mae.f (y0_0 : List ByteArray) (y0_1 : List Val) (y0_2 : List Chs) (y0_3 : List Val) (y0_4 : List Chs) (y0_5 : List Spn) (y0_6 y0_7 : List Val) (y0_8 : List Spn) (y0_9 : List Val) (y0_10 : List Chs) : Option Int := (book_apart.f (⟨y0_0, y0_1, y0_2, y0_3, y0_4, y0_5, y0_6, y0_7, y0_8, y0_9, y0_10⟩ : Bk)).bind fun ab => (some ab)
theorem book_Check_6_mae.c {pb0 : Nat} {w0_0 : Value} {y0_0 : List ByteArray} {w0_1 : Value} {y0_1 : List Val} {w0_2 : Value} {y0_2 : List Chs} {w0_3 : Value} {y0_3 : List Val} {w0_4 : Value} {y0_4 : List Chs} {w0_5 : Value} {y0_5 : List Spn} {w0_6 : Value} {y0_6 : List Val} {w0_7 : Value} {y0_7 : List Val} {w0_8 : Value} {y0_8 : List Spn} {w0_9 : Value} {y0_9 : List Val} {w0_10 : Value} {y0_10 : List Chs} (hs : St w0 ρ ((.box pb0 27 ([w0_0, w0_1, w0_2, w0_3, w0_4, w0_5, w0_6, w0_7, w0_8, w0_9, w0_10])) :: Γ) w) (g0_0 : SlR Rep.str ρ w0_0 y0_0) (g0_1 : SlR rVal ρ w0_1 y0_1) (g0_2 : SlR rChs ρ w0_2 y0_2) (g0_3 : SlR rVal ρ w0_3 y0_3) (g0_4 : SlR rChs ρ w0_4 y0_4) (g0_5 : SlR rSpn ρ w0_5 y0_5) (g0_6 : SlR rVal ρ w0_6 y0_6) (g0_7 : SlR rVal ρ w0_7 y0_7) (g0_8 : SlR rSpn ρ w0_8 y0_8) (g0_9 : SlR rVal ρ w0_9 y0_9) (g0_10 : SlR rChs ρ w0_10 y0_10) {r : Int} (H : book_Check_6_mae.f y0_0 y0_1 y0_2 y0_3 y0_4 y0_5 y0_6 y0_7 y0_8 y0_9 y0_10 = some r) : CallsR Tryz.prog 96 [.pointer (some ⟨pb0, 0, none⟩)] w (fun v w' => v = .int .i64 r ∧ St w0 ρ ((.box pb0 27 ([w0_0, w0_1, w0_2, w0_3, w0_4, w0_5, w0_6, w0_7, w0_8, w0_9, w0_10])) :: Γ) w') := by
  rw [book_Check_6_mae.f] at H
  refine Et Tryz.func96 Tryz.ntmps96 rfl <| Wr fun ae ac => As rfl <| Ox ac <| Wr fun af ad => O_y rfl (Y_loadbN (i := 0) ag27 sz27 hs rfl rfl rfl rfl) ?_
  obtain ⟨ab, aa, H⟩ := bnd H
  refine Oc rfl (book_apart.c hs ⟨_, _, _, _, _, _, _, _, _, _, _, rfl, g0_0, g0_1, g0_2, g0_3, g0_4, g0_5, g0_6, g0_7, g0_8, g0_9, g0_10⟩ aa) (fun ag w hpost => ?_)
  obtain ⟨rfl, hs⟩ := hpost
  refine As rfl <| Ox ad <| W_ret ?_
  obtain rfl := sinj H
  exact r1 rfl ⟨rfl, hs⟩

def book_hangul.f : Option (List Spn) := some ([(⟨4352, 4370⟩ : Spn), (⟨4449, 4469⟩ : Spn), (⟨4520, 4546⟩ : Spn), (⟨44032, 55203⟩ : Spn)])
theorem book_hangul.c (hs : St w0 ρ (Γ) w) {r : List Spn} (H : book_hangul.f = some r) : CallsR Tryz.prog 140 [] w (fun v w' => ∃ (ρ' : Hp) (v0 : Value) (cs0 : List Value), v = v0 ∧ Le ρ ρ' ∧ St w0 ρ' (.row v0 129 rSpn.sz r.length cs0 :: Γ) w' ∧ RowR rSpn ρ' cs0 r) := by
  rw [book_hangul.f] at H
  refine Et Tryz.func140 Tryz.ntmps140 rfl <| Wr fun ad aa => As rfl <| Ox aa <| Wr fun ae ab => O_y rfl (Y_build (cs := [.int .i32 4352, .int .i32 4370]) zr129 pl129 ((Parts.cons rfl rfl (Parts.cons rfl rfl Parts.nil))) ag129 (by kernel_rfl)) <| O_y rfl (Y_build (cs := [.int .i32 4449, .int .i32 4469]) zr129 pl129 ((Parts.cons rfl rfl (Parts.cons rfl rfl Parts.nil))) ag129 (by kernel_rfl)) <| O_y rfl (Y_build (cs := [.int .i32 4520, .int .i32 4546]) zr129 pl129 ((Parts.cons rfl rfl (Parts.cons rfl rfl Parts.nil))) ag129 (by kernel_rfl)) <| O_y rfl (Y_build (cs := [.int .i32 44032, .int .i32 55203]) zr129 pl129 ((Parts.cons rfl rfl (Parts.cons rfl rfl Parts.nil))) ag129 (by kernel_rfl)) <| O_lit2 (xs := [.tmp 1, .tmp 2, .tmp 3, .tmp 4]) (cs := [.int .i32 4352, .int .i32 4370, .int .i32 4449, .int .i32 4469, .int .i32 4520, .int .i32 4546, .int .i32 44032, .int .i32 55203]) el25 hs rfl rfl rfl (by decide) (by decide) rfl (sz_cons rfl (sz_cons rfl (sz_cons rfl (sz_cons rfl sz_nil)))) (flat_cons rfl (flat_cons rfl (flat_cons rfl (flat_cons rfl flat_nil)))) (fun af w hs => ?_)
  have ac : RowR rSpn ρ ([.int .i32 4352, .int .i32 4370, .int .i32 4449, .int .i32 4469, .int .i32 4520, .int .i32 4546, .int .i32 44032, .int .i32 55203]) [(⟨4352, 4370⟩ : Spn), (⟨4449, 4469⟩ : Spn), (⟨4520, 4546⟩ : Spn), (⟨44032, 55203⟩ : Spn)] := RowR.cons (c := [.int .i32 4352, .int .i32 4370]) (x := (⟨4352, 4370⟩ : Spn)) rfl (RowR.cons (c := [.int .i32 4449, .int .i32 4469]) (x := (⟨4449, 4469⟩ : Spn)) rfl (RowR.cons (c := [.int .i32 4520, .int .i32 4546]) (x := (⟨4520, 4546⟩ : Spn)) rfl (RowR.cons (c := [.int .i32 44032, .int .i32 55203]) (x := (⟨44032, 55203⟩ : Spn)) rfl (RowR.nil _ _))))
  refine As rfl <| Ox ab <| W_ret ?_
  obtain rfl := sinj H
  exact r1 rfl ⟨_, _, _, rfl, Le.rfl' _, hs, ac⟩

def book_touches_1_aek.j1 (aa : Bool) : Option Bool := some aa
def book_touches_1_aek.f (x0 : Spn) (y0_0 y0_1 : Int) : Option Bool := if y0_0 ≤ x0.hi then (book_touches_1_aek.j1 (decide (x0.lo ≤ y0_1))) else (book_touches_1_aek.j1 false)
theorem book_touches_1_aek.c {pb0 : Nat} {y0_0 y0_1 : Int} (hs : St w0 ρ ((.box pb0 129 ([.int .i32 y0_0, .int .i32 y0_1])) :: Γ) w) {c0 : List Value} {x0 : Spn} (h0 : rSpn.R ρ c0 x0) {r : Bool} (H : book_touches_1_aek.f x0 y0_0 y0_1 = some r) : CallsR Tryz.prog 141 [.agg c0.toArray, .pointer (some ⟨pb0, 0, none⟩)] w (fun v w' => v = .bool r ∧ St w0 ρ ((.box pb0 129 ([.int .i32 y0_0, .int .i32 y0_1])) :: Γ) w') := by
  rw [book_touches_1_aek.f] at H
  refine Et Tryz.func141 Tryz.ntmps141 rfl ?_
  have ae := h0
  obtain rfl := ae
  refine Wr fun aj af => O_boxN (cs := [.int .i32 x0.lo, .int .i32 x0.hi]) hs rfl rfl (fun ag w hs => As rfl <| Ox af <| W_seqj fun ah ai ac => ?_)
  have ad : ∀ (aa : Bool) (w : World), book_touches_1_aek.j1 aa = some r → St w0 ρ ((.box ag 129 ([.int .i32 x0.lo, .int .i32 x0.hi])) :: (.box pb0 129 ([.int .i32 y0_0, .int .i32 y0_1])) :: Γ) w → ah [(3, .bool aa)] w := by
   intro aa w H hs
   rw [book_touches_1_aek.j1] at H
   refine ai _ _ <| W_ret ?_
   obtain rfl := sinj H
   exact r1 rfl ⟨rfl, (hs.sub (ssk (ssc ssr)))⟩
  refine W_region <| Ofd fo129_0 rfl <| Obx 1 ag21 hs rfl <| Ofd fo129_1 rfl <| Obx 0 ag21 hs rfl <| Ole rfl <| Mv rfl <| O_if (dj := 9) rfl (fun ab => ?_) (fun ab => ?_)
  ·rw [if_pos ab] at H
   refine Oe rfl <| Ofd fo129_0 rfl <| Oe rfl <| Obx 0 ag21 hs rfl <| Oe rfl <| Ofd fo129_1 rfl <| Oe rfl <| Obx 1 ag21 hs rfl <| Oe rfl <| Ole rfl <| Opk rfl <| As rfl <| O_nil (ac _ _ _ (S1 rfl) (ad (decide (x0.lo ≤ y0_1)) _ H hs))
  ·rw [if_neg ab] at H
   refine On rfl <| On rfl <| On rfl <| On rfl <| On rfl <| Opk rfl <| As rfl <| O_nil (ac _ _ _ (S1 rfl) (ad false _ H hs))

def slices_IndexFunc_api_Span_api_Span_fdc.l1 : Nat → Int → Int → List Spn → Int → Option Int
  | 0, _, _, _, _ => none
  | ab + 1, y0_0, y0_1, x0, aa => if aa < (x0.length : Int) then (if (0 : Int) ≤ aa ∧ aa < (x0.length : Int) then ((book_touches_1_aek.f (rd x0 aa) y0_0 y0_1).bind fun ag => (if ag = true then (some aa) else ((slices_IndexFunc_api_Span_api_Span_fdc.l1 ab y0_0 y0_1 x0) (IntKind.i64.wrap (aa + 1))))) else none) else (some (-1))
def slices_IndexFunc_api_Span_api_Span_fdc.f (x0 : List Spn) (y0_0 y0_1 : Int) : Option Int := slices_IndexFunc_api_Span_api_Span_fdc.l1 K0 y0_0 y0_1 x0 0
theorem slices_IndexFunc_api_Span_api_Span_fdc.c {pb0 : Nat} {y0_0 y0_1 : Int} (hs : St w0 ρ ((.box pb0 129 ([.int .i32 y0_0, .int .i32 y0_1])) :: Γ) w) {v0 : Value} {x0 : List Spn} (h0 : SlR rSpn ρ v0 x0) {r : Int} (H : slices_IndexFunc_api_Span_api_Span_fdc.f x0 y0_0 y0_1 = some r) : CallsR Tryz.prog 170 [v0, .func (.func 141) #[] #[.pointer (some ⟨pb0, 0, none⟩)]] w (fun v w' => v = .int .i64 r ∧ St w0 ρ ((.box pb0 129 ([.int .i32 y0_0, .int .i32 y0_1])) :: Γ) w') := by
  rw [slices_IndexFunc_api_Span_api_Span_fdc.f] at H
  refine Et Tryz.func170 Tryz.ntmps170 rfl <| Wr fun ay ai => As rfl <| Ox ai <| W_seq fun az aj => Wr fun a0 ak => Mv rfl <| O_y rfl (Y_lenR un25 h0 rfl) <| Mv rfl <| Ox ak <| W_block fun a1 al a2 => W_loop (σ := Nat × Int) (fun (ab, aa) => [(0, v0), (1, .func (.func 141) #[] #[.pointer (some ⟨pb0, 0, none⟩)]), (7, .int .i64 (x0.length : Int)), (8, .int .i64 aa)]) (fun (ab, aa) w => slices_IndexFunc_api_Span_api_Span_fdc.l1 ab y0_0 y0_1 x0 aa = some r ∧ St w0 ρ ((.box pb0 129 ([.int .i32 y0_0, .int .i32 y0_1])) :: Γ) w) (fun s => s.1) (K0, 0) (T4 rfl) (Ai H hs) ?_
  rintro ⟨ab, aa⟩ w a3 ⟨H, hs⟩ ac
  show W _ _ _ _ _ _ [(0, v0), (1, .func (.func 141) #[] #[.pointer (some ⟨pb0, 0, none⟩)]), (7, .int .i64 (x0.length : Int)), (8, .int .i64 aa)] w
  cases ab with
  | zero => rw [slices_IndexFunc_api_Span_api_Span_fdc.l1] at H; cases H
  | succ ab =>
  rw [slices_IndexFunc_api_Span_api_Span_fdc.l1] at H
  refine Wr fun a4 am => Ols rfl <| Ox am <| W_seq fun a5 an => W_if rfl (fun ad => ?_) (fun ad => ?_)
  ·rw [if_pos ad] at H
   refine Wx an <| W_seq fun a6 ao => W_block fun a7 a8 a9 => Wr fun ba ap => Mv rfl <| As rfl <| Ox ap <| Wr fun bb aq => Mv rfl <| Mv rfl <| Mv rfl ?_
   obtain ⟨ah, H⟩ := gd H
   obtain ⟨bc, bd, ar, au⟩ := h0.ix el25 ah.1 ah.2
   obtain ⟨_, rfl, av⟩ := ar
   refine O_y rfl (au rfl rfl) <| O_y rfl (Y_loadN ag129 sz129 rfl rfl (fun j u hu => hs.see (av j u hu))) ?_
   obtain ⟨ag, ae, H⟩ := bnd H
   refine O_callv rfl rfl rfl (book_touches_1_aek.c hs rfl ae) (fun be w hpost => ?_)
   obtain ⟨rfl, hs⟩ := hpost
   refine Ox aq <| W_cond rfl (fun af => ?_) (fun af => ?_)
   ·rw [if_pos af] at H
    refine Wr fun bf aw => Mv rfl <| As rfl <| Ox aw <| W.weak [(4, _)] (S1 rfl) <| W_ret ?_
    obtain rfl := sinj H
    exact r1 rfl ⟨rfl, hs⟩
   ·rw [if_neg (bft af)] at H
    refine Wx ao <| W_region <| Oad rfl <| Mv rfl <| O_nil (ac (ab, (IntKind.i64.wrap (aa + 1))) _ _ (T4 rfl) (Ai H hs) (Nat.lt_succ_self _))
  ·rw [if_neg ad] at H
   refine W_exit (al _ _ (aj _ _ <| Wr fun bg ax => As rfl <| Ox ax <| W_ret ?_))
   obtain rfl := sinj H
   exact r1 rfl ⟨rfl, hs⟩

def slices_ContainsFunc_api_Span_api_Span_fdc.f (x0 : List Spn) (y0_0 y0_1 : Int) : Option Bool := (slices_IndexFunc_api_Span_api_Span_fdc.f x0 y0_0 y0_1).bind fun ab => (some (decide (0 ≤ ab)))
theorem slices_ContainsFunc_api_Span_api_Span_fdc.c {pb0 : Nat} {y0_0 y0_1 : Int} (hs : St w0 ρ ((.box pb0 129 ([.int .i32 y0_0, .int .i32 y0_1])) :: Γ) w) {v0 : Value} {x0 : List Spn} (h0 : SlR rSpn ρ v0 x0) {r : Bool} (H : slices_ContainsFunc_api_Span_api_Span_fdc.f x0 y0_0 y0_1 = some r) : CallsR Tryz.prog 139 [v0, .func (.func 141) #[] #[.pointer (some ⟨pb0, 0, none⟩)]] w (fun v w' => v = .bool r ∧ St w0 ρ ((.box pb0 129 ([.int .i32 y0_0, .int .i32 y0_1])) :: Γ) w') := by
  rw [slices_ContainsFunc_api_Span_api_Span_fdc.f] at H
  refine Et Tryz.func139 Tryz.ntmps139 rfl <| Wr fun ae ac => As rfl <| Ox ac <| Wr fun af ad => Mv rfl <| Mv rfl ?_
  obtain ⟨ab, aa, H⟩ := bnd H
  refine Oc rfl (slices_IndexFunc_api_Span_api_Span_fdc.c hs h0 aa) (fun ag w hpost => ?_)
  obtain ⟨rfl, hs⟩ := hpost
  refine Oge rfl <| As rfl <| Ox ad <| W_ret ?_
  obtain rfl := sinj H
  exact r1 rfl ⟨rfl, hs⟩

def book_touches.f (x0 : Spn) : Option Bool := (book_hangul.f).bind fun ae => ((slices_ContainsFunc_api_Span_api_Span_fdc.f ae x0.lo x0.hi).bind fun af => (some af))
theorem book_touches.c (hs : St w0 ρ (Γ) w) {c0 : List Value} {x0 : Spn} (h0 : rSpn.R ρ c0 x0) {r : Bool} (H : book_touches.f x0 = some r) : CallsR Tryz.prog 89 [.agg c0.toArray] w (fun v w' => v = .bool r ∧ St w0 ρ Γ w') := by
  rw [book_touches.f] at H
  refine Et Tryz.func89 Tryz.ntmps89 rfl ?_
  have ag := h0
  obtain rfl := ag
  refine Wr fun am ah => O_boxN (cs := [.int .i32 x0.lo, .int .i32 x0.hi]) hs rfl rfl (fun an w hs => As rfl <| Ox ah <| W_seq fun ao ai => W_region ?_)
  obtain ⟨ae, aa, H⟩ := bnd H
  refine Oc rfl (book_hangul.c hs aa) (fun ap w hpost => ?_)
  obtain ⟨aq, ar, aj, rfl, ab, hs, ak⟩ := hpost
  refine O_y rfl (Y_func rfl) ?_
  obtain ⟨au, ac, hs, al⟩ := hs.rowEnd (j := 0) ak rfl
  obtain ⟨af, ad, H⟩ := bnd H
  refine Oc rfl (slices_ContainsFunc_api_Span_api_Span_fdc.c hs al ad) (fun av w hpost => ?_)
  obtain ⟨rfl, hs⟩ := hpost
  refine As rfl <| Ox ai <| W_ret ?_
  obtain rfl := sinj H
  exact r1 rfl ⟨rfl, ((hs.sub (ssk ssr)).less (ab.trans ac))⟩

def book_Check_2.f (x0 : Spn) : Option Bool := (book_touches.f x0).bind fun ab => (some (!ab))
theorem book_Check_2.c (hs : St w0 ρ (Γ) w) {c0 : List Value} {x0 : Spn} (h0 : rSpn.R ρ c0 x0) {r : Bool} (H : book_Check_2.f x0 = some r) : CallsR Tryz.prog 88 [.agg c0.toArray] w (fun v w' => v = .bool r ∧ St w0 ρ Γ w') := by
  rw [book_Check_2.f] at H
  refine Et Tryz.func88 Tryz.ntmps88 rfl ?_
  have ac := h0
  obtain rfl := ac
  refine Wr fun af ad => O_boxN (cs := [.int .i32 x0.lo, .int .i32 x0.hi]) hs rfl rfl (fun ag w hs => As rfl <| Ox ad <| Wr fun ah ae => O_y rfl (Y_loadbN (i := 0) ag129 sz129 hs rfl rfl rfl rfl) ?_)
  obtain ⟨ab, aa, H⟩ := bnd H
  refine Oc rfl (book_touches.c hs h0 aa) (fun ai w hpost => ?_)
  obtain ⟨rfl, hs⟩ := hpost
  refine Ont rfl <| As rfl <| Ox ae <| W_ret ?_
  obtain rfl := sinj H
  exact r1 rfl ⟨rfl, (hs.sub (ssk ssr))⟩

def book_values_1_nlj.j1 (aa : Bool) : Option Bool := some aa
def book_values_1_nlj.f (x0 : Val) (y0_0 y1_0 : Int) : Option Bool := if y0_0 ≤ x0.n then (if x0.n ≤ y1_0 then ((book_ofValue.f x0).bind fun al => ((book_Check_2.f al).bind fun ae => (book_values_1_nlj.j1 ae))) else (book_values_1_nlj.j1 false)) else (book_values_1_nlj.j1 false)
theorem book_values_1_nlj.c {pb0 : Nat} {y0_0 : Int} {pb1 : Nat} {y1_0 : Int} {pb2 : Nat} (hs : St w0 ρ ((.box pb0 3 ([.int .i64 y0_0])) :: (.box pb1 3 ([.int .i64 y1_0])) :: (.box pb2 133 ([.func (.func 88) #[] #[]])) :: Γ) w) {c0 : List Value} {x0 : Val} (h0 : rVal.R ρ c0 x0) {r : Bool} (H : book_values_1_nlj.f x0 y0_0 y1_0 = some r) : CallsR Tryz.prog 147 [.agg c0.toArray, .pointer (some ⟨pb0, 0, none⟩), .pointer (some ⟨pb1, 0, none⟩), .pointer (some ⟨pb2, 0, none⟩)] w (fun v w' => v = .bool r ∧ St w0 ρ ((.box pb0 3 ([.int .i64 y0_0])) :: (.box pb1 3 ([.int .i64 y1_0])) :: (.box pb2 133 ([.func (.func 88) #[] #[]])) :: Γ) w') := by
  rw [book_values_1_nlj.f] at H
  refine Et Tryz.func147 Tryz.ntmps147 rfl ?_
  have ao := h0
  obtain rfl := ao
  refine Wr fun az ap => O_boxN (cs := [.int .i32 x0.lo, .int .i32 x0.hi, .int .i64 x0.n]) hs rfl rfl (fun am w hs => As rfl <| Ox ap <| W_seqj fun aq ar af => ?_)
  have ag : ∀ (aa : Bool) (ab : Hp) (w : World), book_values_1_nlj.j1 aa = some r → Le ρ ab → St w0 ab ((.box am 67 ([.int .i32 x0.lo, .int .i32 x0.hi, .int .i64 x0.n])) :: (.box pb0 3 ([.int .i64 y0_0])) :: (.box pb1 3 ([.int .i64 y1_0])) :: (.box pb2 133 ([.func (.func 88) #[] #[]])) :: Γ) w → aq [(5, .bool aa)] w := by
   intro aa ab w H ad hs
   rw [book_values_1_nlj.j1] at H
   refine ar _ _ <| W_ret ?_
   obtain rfl := sinj H
   exact r1 rfl ⟨rfl, ((hs.sub (ssk (ssc (ssc (ssc ssr))))).less ad)⟩
  refine W_drawS 17 [0, 1, 0, 6, 8, 16, 48, 16, 208, 272, 528, 1024, 1024, 5120, 11264, 17408, 65535] [65532, 65524, 65523, 65504, 63488, 65408, 65152, 65120, 64512, 63488, 0, 45056, 51200, 34816, 0, 0, 0] [0, 1, 0, 7, 15, 31, 63, 31, 255, 511, 1023, 2047, 2047, 6143, 16383, 32767, 65535] [] (fun w => St w0 ρ ((.box am 67 ([.int .i32 x0.lo, .int .i32 x0.hi, .int .i64 x0.n])) :: (.box pb0 3 ([.int .i64 y0_0])) :: (.box pb1 3 ([.int .i64 y1_0])) :: (.box pb2 133 ([.func (.func 88) #[] #[]])) :: Γ) w) mixed (by kernel_rfl) (fun sh => ?_)
  have hs := hs.drew
  refine Fp 0 sh rfl (fun w => Y_field fo67_2 rfl) <| Fy 1 sh rfl hs (fun w hs => Yb 0 ag3 hs rfl rfl rfl) <| Fy 2 sh rfl hs (fun w hs => Yb 1 ag3 hs rfl rfl rfl) <| Fp 3 sh rfl (fun w => Y_geq rfl rfl) <| Fm 4 sh rfl <| OD_if (dj := 10) rfl (fun ah => ?_) (fun ah => ?_)
  ·rw [if_pos ah] at H
   refine Fp 5 sh rfl (fun w => Y_field fo67_2 rfl) <| Fy 6 sh rfl hs (fun w hs => Yb 0 ag3 hs rfl rfl rfl) <| Fy 7 sh rfl hs (fun w hs => Yb 2 ag3 hs rfl rfl rfl) <| Fp 8 sh rfl (fun w => Y_leq rfl rfl) <| Fp 9 sh rfl (fun w => Y_pick_t rfl rfl) <| Fm 10 sh rfl <| OD_if (dj := 16) rfl (fun ai => ?_) (fun ai => ?_)
   ·rw [if_pos ai] at H
    refine Fy 11 sh rfl hs (fun w hs => Yb 3 ag133 hs rfl rfl rfl) <| Fy 12 sh rfl hs (fun w hs => Y_loadbN (i := 0) ag67 sz67 hs rfl rfl rfl rfl) <| F1 13 sh rfl (fun a0 au => Oe rfl ?_)
    obtain ⟨al, aj, H⟩ := bnd H
    refine Oc rfl (book_ofValue.c hs h0 aj) (fun a1 w hpost => ?_)
    obtain ⟨av, aw, rfl, ac, hs, an⟩ := hpost
    have ax := an
    obtain rfl := ax
    refine O_nil (au _ _ (fun _ _ => (hs.less ac)) <| F1 14 sh rfl (fun a2 ay => Oe rfl ?_))
    obtain ⟨ae, ak, H⟩ := bnd H
    refine O_callv rfl rfl rfl (book_Check_2.c hs an ak) (fun a3 w hpost => ?_)
    obtain ⟨rfl, hs⟩ := hpost
    refine O_nil (ay _ _ (fun _ _ => (hs.less ac)) <| Fp 15 sh rfl (fun w => Y_pick_t rfl rfl) <| Fp 16 sh rfl (fun w => Y_assign rfl) <| FE sh (af _ _ _ (S1 rfl) (ag ae av _ H ac hs)))
   ·rw [if_neg ai] at H
    refine Fn 11 sh rfl <| Fn 12 sh rfl <| Fn 13 sh rfl <| Fn 14 sh rfl <| Fp 15 sh rfl (fun w => Y_pick_f rfl rfl) <| Fp 16 sh rfl (fun w => Y_assign rfl) <| FE sh (af _ _ _ (S1 rfl) (ag false ρ _ H (Le.rfl' _) hs))
  ·rw [if_neg ah] at H
   refine Fn 5 sh rfl <| Fn 6 sh rfl <| Fn 7 sh rfl <| Fn 8 sh rfl <| Fp 9 sh rfl (fun w => Y_pick_f rfl rfl) <| Fm 10 sh rfl <| Fn 11 sh rfl <| Fn 12 sh rfl <| Fn 13 sh rfl <| Fn 14 sh rfl <| Fp 15 sh rfl (fun w => Y_pick_f rfl rfl) <| Fp 16 sh rfl (fun w => Y_assign rfl) <| FE sh (af _ _ _ (S1 rfl) (ag false ρ _ H (Le.rfl' _) hs))

def book_rising_api_Value_ion.j1 (ak : Int → Int → Option Int) (aa : Int) (ae : Spn) (ab : Bool) : Option Int := if ab = true then (some aa) else (ak ae.hi (IntKind.i64.wrap (aa + 1)))
def book_rising_api_Value_ion.l1 : Nat → Int → Int → List Val → Int → Int → Option Int
  | 0, _, _, _, _, _ => none
  | ac + 1, y0_0, y1_0, x0, ad, aa => if aa < (x0.length : Int) then (if (0 : Int) ≤ aa ∧ aa < (x0.length : Int) then ((book_ofValue.f (rd x0 aa)).bind fun ae => (if ae.lo ≤ ad then (book_rising_api_Value_ion.j1 (book_rising_api_Value_ion.l1 ac y0_0 y1_0 x0) aa ae true) else (if ae.hi < ae.lo then (book_rising_api_Value_ion.j1 (book_rising_api_Value_ion.l1 ac y0_0 y1_0 x0) aa ae true) else (if 1114111 < ae.hi then (book_rising_api_Value_ion.j1 (book_rising_api_Value_ion.l1 ac y0_0 y1_0 x0) aa ae true) else ((book_values_1_nlj.f (rd x0 aa) y0_0 y1_0).bind fun al => (book_rising_api_Value_ion.j1 (book_rising_api_Value_ion.l1 ac y0_0 y1_0 x0) aa ae (!al))))))) else none) else (some (-1))
def book_rising_api_Value_ion.f (x0 : List Val) (y0_0 y1_0 : Int) : Option Int := if 65536 < (x0.length : Int) then (some 65536) else (book_rising_api_Value_ion.l1 K0 y0_0 y1_0 x0 (-1) 0)
theorem book_rising_api_Value_ion.c {pb0 : Nat} {y0_0 : Int} {pb1 : Nat} {y1_0 : Int} {pb2 : Nat} (hs : St w0 ρ ((.box pb0 3 ([.int .i64 y0_0])) :: (.box pb1 3 ([.int .i64 y1_0])) :: (.box pb2 133 ([.func (.func 88) #[] #[]])) :: Γ) w) {v0 : Value} {x0 : List Val} (h0 : SlR rVal ρ v0 x0) {r : Int} (H : book_rising_api_Value_ion.f x0 y0_0 y1_0 = some r) : CallsR Tryz.prog 145 [v0, .func (.func 146) #[] #[], .func (.func 147) #[] #[.pointer (some ⟨pb0, 0, none⟩), .pointer (some ⟨pb1, 0, none⟩), .pointer (some ⟨pb2, 0, none⟩)]] w (fun v w' => v = .int .i64 r ∧ St w0 ρ ((.box pb0 3 ([.int .i64 y0_0])) :: (.box pb1 3 ([.int .i64 y1_0])) :: (.box pb2 133 ([.func (.func 88) #[] #[]])) :: Γ) w') := by
  rw [book_rising_api_Value_ion.f] at H
  refine Et Tryz.func145 Tryz.ntmps145 rfl <| Wr fun bt a6 => As rfl <| Ox a6 <| W_seq fun bu a7 => Wr fun bv a8 => Mv rfl <| O_y rfl (Y_lenR un23 h0 rfl) <| Ogt rfl <| Ox a8 <| W_if rfl (fun av => ?_) (fun av => ?_)
  ·rw [if_pos av] at H
   refine Wr fun bw a9 => As rfl <| Ox a9 <| W_ret ?_
   obtain rfl := sinj H
   exact r1 rfl ⟨rfl, hs⟩
  ·rw [if_neg av] at H
   refine Wx a7 <| Wr fun bx ba => As rfl <| Ox ba <| W_seq fun bz bb => Wr fun b0 bc => Mv rfl <| O_y rfl (Y_lenR un23 h0 rfl) <| Mv rfl <| Ox bc <| W_block fun b1 bd b2 => W_loop (σ := Nat × Int × Int × Hp) (fun (ac, ad, aa, ag) => [(1, .func (.func 146) #[] #[]), (2, .func (.func 147) #[] #[.pointer (some ⟨pb0, 0, none⟩), .pointer (some ⟨pb1, 0, none⟩), .pointer (some ⟨pb2, 0, none⟩)]), (7, .int .i32 ad), (14, v0), (15, .int .i64 (x0.length : Int)), (16, .int .i64 aa)]) (fun (ac, ad, aa, ag) w => book_rising_api_Value_ion.l1 ac y0_0 y1_0 x0 ad aa = some r ∧ Le ρ ag ∧ St w0 ag ((.box pb0 3 ([.int .i64 y0_0])) :: (.box pb1 3 ([.int .i64 y1_0])) :: (.box pb2 133 ([.func (.func 88) #[] #[]])) :: Γ) w) (fun s => s.1) (K0, (-1), 0, ρ) sbn (Ai H (Ai (Le.rfl' _) hs)) ?_
   rintro ⟨ac, ad, aa, ag⟩ w b3 ⟨H, af, hs⟩ am
   show W _ _ _ _ _ _ [(1, .func (.func 146) #[] #[]), (2, .func (.func 147) #[] #[.pointer (some ⟨pb0, 0, none⟩), .pointer (some ⟨pb1, 0, none⟩), .pointer (some ⟨pb2, 0, none⟩)]), (7, .int .i32 ad), (14, v0), (15, .int .i64 (x0.length : Int)), (16, .int .i64 aa)] w
   cases ac with
   | zero => rw [book_rising_api_Value_ion.l1] at H; cases H
   | succ ac =>
   rw [book_rising_api_Value_ion.l1] at H
   refine Wr fun b4 be => Ols rfl <| Ox be <| W_seq fun b5 bf => W_if rfl (fun aw => ?_) (fun aw => ?_)
   ·rw [if_pos aw] at H
    refine Wx bf <| W_seq fun b6 bg => W_block fun b7 b8 b9 => Wr fun ca bh => Mv rfl ?_
    obtain ⟨a4, H⟩ := gd H
    obtain ⟨cb, cc, bi, bj⟩ := (h0.mono af).ix el23 a4.1 a4.2
    obtain ⟨_, rfl, bk⟩ := bi
    refine O_y rfl (bj rfl rfl) <| O_y rfl (Y_loadN ag67 sz67 rfl rfl (fun j u hu => hs.see (bk j u hu))) <| O_alloc zr67 hs rfl (fun bl w hs => As rfl <| O_storeN (i := 0) sz67 hs rfl rfl rfl rfl rfl (one_cons rfl (one_cons rfl (one_cons rfl one_nil))) (fun w hs => Ox bh <| Wr fun cd bm => Mv rfl <| O_y rfl (Y_loadbN (i := 0) ag67 sz67 hs rfl rfl rfl rfl) ?_))
    obtain ⟨ae, ax, H⟩ := bnd H
    refine O_callv rfl rfl rfl (book_ofValue.c hs rfl ax) (fun ce w hpost => ?_)
    obtain ⟨a5, bn, rfl, aj, hs, bo⟩ := hpost
    have ay := bo
    obtain rfl := ay
    refine O_alloc zr129 hs rfl (fun ar w hs => O_storeN (i := 0) sz129 hs rfl rfl rfl rfl rfl (one_cons rfl (one_cons rfl one_nil)) (fun w hs => Ox bm <| W.weak [(1, _), (2, _), (7, _), (8, _), (9, _), (10, _), (14, _), (15, _), (16, _)] sbn ?_))
    refine W_seq fun bp az => W_seqj fun a0 a1 ah => ?_
    have ai : ∀ (ab : Bool) (w : World), book_rising_api_Value_ion.j1 (book_rising_api_Value_ion.l1 ac y0_0 y1_0 x0) aa ae ab = some r → St w0 a5 ((.box ar 129 ([.int .i32 ae.lo, .int .i32 ae.hi])) :: (.box bl 67 ([.int .i32 ((rd x0 aa).lo), .int .i32 ((rd x0 aa).hi), .int .i64 ((rd x0 aa).n)])) :: (.box pb0 3 ([.int .i64 y0_0])) :: (.box pb1 3 ([.int .i64 y1_0])) :: (.box pb2 133 ([.func (.func 88) #[] #[]])) :: Γ) w → a0 [(1, .func (.func 146) #[] #[]), (2, .func (.func 147) #[] #[.pointer (some ⟨pb0, 0, none⟩), .pointer (some ⟨pb1, 0, none⟩), .pointer (some ⟨pb2, 0, none⟩)]), (8, .int .i64 aa), (10, .pointer (some ⟨ar, 0, none⟩)), (14, v0), (15, .int .i64 (x0.length : Int)), (16, .int .i64 aa), (45, .bool ab)] w := by
     intro ab w H hs
     rw [book_rising_api_Value_ion.j1] at H
     refine a1 _ _ <| W_cond rfl (fun an => ?_) (fun an => ?_)
     ·rw [if_pos an] at H
      refine Wr fun bq a2 => Mv rfl <| As rfl <| Ox a2 <| W_ret ?_
      obtain rfl := sinj H
      exact r1 rfl ⟨rfl, ((hs.sub (ssk (ssk (ssc (ssc (ssc ssr)))))).less (af.trans aj))⟩
     ·rw [if_neg (bft an)] at H
      refine Wx az <| W_region <| Ofd fo129_1 rfl <| Obx 0 ag21 hs rfl <| As rfl <| Ox bg <| W_region <| Oad rfl <| Mv rfl <| O_nil (am (ac, ae.hi, (IntKind.i64.wrap (aa + 1)), a5) _ _ sbn (Ai H (Ai (af.trans aj) (hs.sub (ssk (ssk (ssc (ssc (ssc ssr)))))))) (Nat.lt_succ_self _))
    refine W_region <| Ofd fo129_0 rfl <| Obx 0 ag21 hs rfl <| Mv rfl <| Ole rfl <| Mv rfl <| O_if (dj := 28) rfl (fun ao => ?_) (fun ao => ?_)
    ·rw [if_pos ao] at H
     refine On rfl <| On rfl <| On rfl <| On rfl <| On rfl <| Opk rfl <| Mv rfl <| On rfl <| On rfl <| On rfl <| Opk rfl <| Mv rfl <| On rfl <| On rfl ?_
     refine On rfl <| On rfl <| Opk rfl <| O_nil (ah _ _ _ sbn (ai true _ H hs))
    ·rw [if_neg ao] at H
     refine Oe rfl <| Ofd fo129_1 rfl <| Oe rfl <| Obx 0 ag21 hs rfl <| Oe rfl <| Ofd fo129_0 rfl <| Oe rfl <| Obx 0 ag21 hs rfl <| Oe rfl <| Ols rfl <| Opk rfl <| Mv rfl <| O_if (dj := 35) rfl (fun ap => ?_) (fun ap => ?_)
     ·rw [if_pos ap] at H
      refine On rfl <| On rfl <| On rfl <| Opk rfl <| Mv rfl <| On rfl <| On rfl <| On rfl <| On rfl <| Opk rfl <| O_nil (ah _ _ _ sbn (ai true _ H hs))
     ·rw [if_neg ap] at H
      refine Oe rfl <| Ofd fo129_1 rfl <| Oe rfl <| Obx 0 ag21 hs rfl <| Oe rfl <| Ogt rfl <| Opk rfl <| Mv rfl <| O_if (dj := 40) rfl (fun aq => ?_) (fun aq => ?_)
      ·rw [if_pos aq] at H
       refine On rfl <| On rfl <| On rfl <| On rfl <| Opk rfl <| O_nil (ah _ _ _ sbn (ai true _ H hs))
      ·rw [if_neg aq] at H
       refine Oe rfl <| Mv rfl <| Oe rfl <| O_y rfl (Y_loadbN (i := 1) ag67 sz67 hs rfl rfl rfl rfl) <| Oe rfl ?_
       have hs := hs.front 4 rfl
       have hs := hs.front 4 rfl
       have hs := hs.front 4 rfl
       obtain ⟨al, au, H⟩ := bnd H
       refine O_callv rfl rfl rfl (book_values_1_nlj.c hs rfl au) (fun br w hpost => ?_)
       obtain ⟨rfl, hs⟩ := hpost
       have hs := hs.sink 4
       have hs := hs.sink 4
       have hs := hs.sink 4
       refine Oe rfl <| Ont rfl <| Opk rfl <| O_nil (ah _ _ _ sbn (ai (!al) _ H hs))
   ·rw [if_neg aw] at H
    refine W_exit (bd _ _ (bb _ _ <| Wr fun bs a3 => As rfl <| Ox a3 <| W_ret ?_))
    obtain rfl := sinj H
    exact r1 rfl ⟨rfl, (hs.less af)⟩

def book_values_pcd.f (x0 : List Val) (x1 x2 : Int) : Option Int := (book_rising_api_Value_ion.f x0 x1 x2).bind fun ab => (some ab)
theorem book_values_pcd.c (hs : St w0 ρ (Γ) w) {v0 : Value} {x0 : List Val} (h0 : SlR rVal ρ v0 x0) {x1 x2 r : Int} (H : book_values_pcd.f x0 x1 x2 = some r) : CallsR Tryz.prog 95 [v0, .int .i64 x1, .int .i64 x2, .func (.func 88) #[] #[]] w (fun v w' => v = .int .i64 r ∧ St w0 ρ Γ w') := by
  rw [book_values_pcd.f] at H
  refine Et Tryz.func95 Tryz.ntmps95 rfl <| Wr fun ae ac => O_box1 hs rfl rfl rfl (fun af w hs => O_box1 hs rfl rfl rfl (fun ag w hs => O_box1 hs rfl rfl rfl (fun ah w hs => As rfl <| Ox ac <| Wr fun ai ad => Mv rfl <| O_y rfl (Y_func rfl) ?_)))
  have hs := hs.front 1 rfl
  have hs := hs.front 2 rfl
  obtain ⟨ab, aa, H⟩ := bnd H
  refine Oc rfl (book_rising_api_Value_ion.c hs h0 aa) (fun aj w hpost => ?_)
  obtain ⟨rfl, hs⟩ := hpost
  have hs := hs.sink 2
  have hs := hs.sink 1
  refine As rfl <| Ox ad <| W_ret ?_
  obtain rfl := sinj H
  exact r1 rfl ⟨rfl, (hs.sub (ssk (ssk (ssk ssr))))⟩

def book_Check_7_hpj.f (y0_0 : List ByteArray) (y0_1 : List Val) (y0_2 : List Chs) (y0_3 : List Val) (y0_4 : List Chs) (y0_5 : List Spn) (y0_6 y0_7 : List Val) (y0_8 : List Spn) (y0_9 : List Val) (y0_10 : List Chs) : Option Int := (book_values_pcd.f y0_3 1 254).bind fun ab => (some ab)
theorem book_Check_7_hpj.c {pb0 : Nat} {w0_0 : Value} {y0_0 : List ByteArray} {w0_1 : Value} {y0_1 : List Val} {w0_2 : Value} {y0_2 : List Chs} {w0_3 : Value} {y0_3 : List Val} {w0_4 : Value} {y0_4 : List Chs} {w0_5 : Value} {y0_5 : List Spn} {w0_6 : Value} {y0_6 : List Val} {w0_7 : Value} {y0_7 : List Val} {w0_8 : Value} {y0_8 : List Spn} {w0_9 : Value} {y0_9 : List Val} {w0_10 : Value} {y0_10 : List Chs} {pb1 : Nat} (hs : St w0 ρ ((.box pb0 27 ([w0_0, w0_1, w0_2, w0_3, w0_4, w0_5, w0_6, w0_7, w0_8, w0_9, w0_10])) :: (.box pb1 133 ([.func (.func 88) #[] #[]])) :: Γ) w) (g0_0 : SlR Rep.str ρ w0_0 y0_0) (g0_1 : SlR rVal ρ w0_1 y0_1) (g0_2 : SlR rChs ρ w0_2 y0_2) (g0_3 : SlR rVal ρ w0_3 y0_3) (g0_4 : SlR rChs ρ w0_4 y0_4) (g0_5 : SlR rSpn ρ w0_5 y0_5) (g0_6 : SlR rVal ρ w0_6 y0_6) (g0_7 : SlR rVal ρ w0_7 y0_7) (g0_8 : SlR rSpn ρ w0_8 y0_8) (g0_9 : SlR rVal ρ w0_9 y0_9) (g0_10 : SlR rChs ρ w0_10 y0_10) {r : Int} (H : book_Check_7_hpj.f y0_0 y0_1 y0_2 y0_3 y0_4 y0_5 y0_6 y0_7 y0_8 y0_9 y0_10 = some r) : CallsR Tryz.prog 98 [.pointer (some ⟨pb0, 0, none⟩), .pointer (some ⟨pb1, 0, none⟩)] w (fun v w' => v = .int .i64 r ∧ St w0 ρ ((.box pb0 27 ([w0_0, w0_1, w0_2, w0_3, w0_4, w0_5, w0_6, w0_7, w0_8, w0_9, w0_10])) :: (.box pb1 133 ([.func (.func 88) #[] #[]])) :: Γ) w') := by
  rw [book_Check_7_hpj.f] at H
  refine Et Tryz.func98 Tryz.ntmps98 rfl <| Wr fun ae ac => As rfl <| Ox ac <| Wr fun af ad => Ofd fo27_3 rfl <| Obx 0 ag23 hs rfl <| Obx 1 ag133 hs rfl ?_
  obtain ⟨ab, aa, H⟩ := bnd H
  refine Oc rfl (book_values_pcd.c hs g0_3 aa) (fun ag w hpost => ?_)
  obtain ⟨rfl, hs⟩ := hpost
  refine As rfl <| Ox ad <| W_ret ?_
  obtain rfl := sinj H
  exact r1 rfl ⟨rfl, hs⟩

end Go.Proofs.YthoicbafdanmkaaGreatDoor
/- Written by this repo's gen.py: for each Go function a Lean function with the same answers and the walk that shows it. -/
namespace Go.Proofs.YthoicbafdanmkaaGreatDoor
open Go.RowKit
set_option maxRecDepth 100000
set_option maxHeartbeats 4000000
variable {w0 w : World} {ρ : Hp} {Γ : List Item}
set_option linter.unusedVariables false
def book_Check_8_1_kid.j1 (aa : Bool) : Option Bool := some aa
def book_Check_8_1_kid.f (x0 : Chs) : Option Bool := if x0.lo = x0.hi then ((book_scalars.f ([x0.lo]) 1 1).bind fun aq => (if aq = true then ((book_scalars.f x0.is_ 1 2).bind fun ar => (if ar = true then ((book_ofChars.f x0).bind fun au => ((book_Check_2.f au).bind fun ah => (book_Check_8_1_kid.j1 ah))) else (book_Check_8_1_kid.j1 false))) else (book_Check_8_1_kid.j1 false))) else (book_Check_8_1_kid.j1 false)
theorem book_Check_8_1_kid.c {pb0 : Nat} (hs : St w0 ρ ((.box pb0 133 ([.func (.func 88) #[] #[]])) :: Γ) w) {c0 : List Value} {x0 : Chs} (h0 : rChs.R ρ c0 x0) {r : Bool} (H : book_Check_8_1_kid.f x0 = some r) : CallsR Tryz.prog 101 [.agg c0.toArray, .pointer (some ⟨pb0, 0, none⟩)] w (fun v w' => v = .bool r ∧ St w0 ρ ((.box pb0 133 ([.func (.func 88) #[] #[]])) :: Γ) w') := by
  rw [book_Check_8_1_kid.f] at H
  refine Et Tryz.func101 Tryz.ntmps101 rfl ?_
  have az := h0
  obtain ⟨ai, rfl, a0⟩ := az
  refine Wr fun bf a1 => O_boxN (cs := [.int .i32 x0.lo, .int .i32 x0.hi, ai]) hs rfl rfl (fun av w hs => As rfl <| Ox a1 <| W_seqj fun a2 a3 af => ?_)
  have ag : ∀ (aa : Bool) (ac : Hp) (w : World), book_Check_8_1_kid.j1 aa = some r → Le ρ ac → St w0 ac ((.box av 110 ([.int .i32 x0.lo, .int .i32 x0.hi, ai])) :: (.box pb0 133 ([.func (.func 88) #[] #[]])) :: Γ) w → a2 [(3, .bool aa)] w := by
   intro aa ac w H ae hs
   rw [book_Check_8_1_kid.j1] at H
   refine a3 _ _ <| W_ret ?_
   obtain rfl := sinj H
   exact r1 rfl ⟨rfl, ((hs.sub (ssk (ssc ssr))).less ae)⟩
  refine W_drawS 23 [0, 1, 0, 4, 10, 16, 32, 96, 160, 288, 544, 1536, 2048, 6144, 10240, 18432, 49152, 65536, 65536, 327680, 720896, 1114112, 4194303] [4194300, 4194284, 4194291, 4194275, 4194240, 4192256, 4194048, 4193792, 4193280, 4190208, 4190208, 4128768, 4177920, 4161536, 4063232, 4063232, 0, 2883584, 3276800, 2228224, 0, 0, 0] [0, 1, 0, 4, 15, 31, 63, 127, 255, 511, 1023, 2047, 4095, 8191, 16383, 32767, 65535, 131071, 131071, 393215, 1048575, 2097151, 4194303] [8, 9, 10, 11, 12, 13, 14, 15, 16, 17, 18, 19, 20, 21, 22] (fun w => St w0 ρ ((.box av 110 ([.int .i32 x0.lo, .int .i32 x0.hi, ai])) :: (.box pb0 133 ([.func (.func 88) #[] #[]])) :: Γ) w) mixed (by kernel_rfl) (fun sh => ?_)
  have hs := hs.drew
  refine Fp 0 sh rfl (fun w => Y_field fo110_0 rfl) <| Fy 1 sh rfl hs (fun w hs => Yb 0 ag21 hs rfl rfl rfl) <| Fp 2 sh rfl (fun w => Y_field fo110_1 rfl) <| Fy 3 sh rfl hs (fun w hs => Yb 0 ag21 hs rfl rfl rfl) <| Fp 4 sh rfl (fun w => Y_eql rfl rfl) <| Fm 5 sh rfl <| OD_if (dj := 9) rfl (fun aj => ?_) (fun aj => ?_)
  ·rw [if_pos aj] at H
   refine Fp 6 sh rfl (fun w => Y_field fo110_0 rfl) <| Fy 7 sh rfl hs (fun w hs => Yb 0 ag21 hs rfl rfl rfl) <| F1 8 sh rfl (fun bg a4 => Oe rfl <| O_lit2 (xs := [.tmp 11]) (cs := [.int .i32 x0.lo]) el28 hs rfl rfl rfl (by decide) (by decide) rfl (sz_cons rfl sz_nil) (flat_cons rfl flat_nil) (fun bh w hs => ?_))
   have a5 : RowR (Rep.int .i32) ρ ([.int .i32 x0.lo]) [x0.lo] := RowR.cons (c := [.int .i32 x0.lo]) (x := x0.lo) rfl (RowR.nil _ _)
   refine O_nil (a4 _ _ (fun h _ => absurd h (by decide)) <| OD_resetS sh [9, 10, 11, 12, 13, 14, 15, 16, 17, 18, 19, 20, 21, 22] hs (by kernel_rfl) ?_)
   have aw := hs
   obtain ⟨ax, ab, hs, a6⟩ := hs.rowEnd (j := 0) a5 rfl
   refine F1 9 sh rfl (fun bi a7 => Oe rfl ?_)
   obtain ⟨aq, ak, H⟩ := bnd H
   refine Oc rfl (book_scalars.c hs a6 ak) (fun bj w hpost => ?_)
   obtain ⟨rfl, hs⟩ := hpost
   refine O_nil (a7 _ _ (fun h _ => absurd h (by decide)) <| OD_resetS sh [14, 15, 16, 17, 18, 19, 20, 21, 22] hs (by kernel_rfl) <| Fp 10 sh rfl (fun w => Y_pick_t rfl rfl) <| Fm 11 sh rfl <| OD_cases (dj := 15) rfl (fun al => ?_) (fun al => ?_))
   ·rw [if_pos al] at H
    refine Fp 12 sh rfl (fun w => Y_field fo110_2 rfl) <| Fy 13 sh rfl hs (fun w hs => Yb 0 ag28 hs rfl rfl rfl) <| F1 14 sh rfl (fun bk a8 => Oe rfl ?_)
    obtain ⟨ar, am, H⟩ := bnd H
    refine Oc rfl (book_scalars.c hs (a0.mono ab) am) (fun bl w hpost => ?_)
    obtain ⟨rfl, hs⟩ := hpost
    refine O_nil (a8 _ _ (fun h _ => absurd h (by decide)) <| OD_resetS sh [] hs (by kernel_rfl) <| Fp 15 sh rfl (fun w => Y_pick_t rfl rfl) <| Fm 16 sh rfl <| OD_cases (dj := 20) rfl (fun an => ?_) (fun an => ?_))
    ·rw [if_pos an] at H
     refine Fy 17 sh rfl hs (fun w hs => Yb 1 ag133 hs rfl rfl rfl) <| Fy 18 sh rfl hs (fun w hs => Y_loadbN (i := 0) ag110 sz110 hs rfl rfl rfl rfl) <| F1 19 sh rfl (fun bm a9 => Oe rfl ?_)
     obtain ⟨au, ao, H⟩ := bnd H
     refine Oc rfl (book_ofChars.c hs (rChs.mono ab h0) ao) (fun bn w hpost => ?_)
     obtain ⟨ba, bb, rfl, ad, hs, ay⟩ := hpost
     have bc := ab.trans ad
     have bd := ay
     obtain rfl := bd
     refine O_nil (a9 _ _ (fun _ _ => (hs.less ad)) <| F1 20 sh rfl (fun bo be => Oe rfl ?_))
     obtain ⟨ah, ap, H⟩ := bnd H
     refine O_callv rfl rfl rfl (book_Check_2.c hs ay ap) (fun bp w hpost => ?_)
     obtain ⟨rfl, hs⟩ := hpost
     refine O_nil (be _ _ (fun _ _ => (hs.less ad)) <| Fp 21 sh rfl (fun w => Y_pick_t rfl rfl) <| Fp 22 sh rfl (fun w => Y_assign rfl) <| FE sh (af _ _ _ (S1 rfl) (ag ah ba _ H bc hs)))
    ·rw [if_neg (bft an)] at H
     refine Fn 17 sh rfl <| Fn 18 sh rfl <| Fn 19 sh rfl <| Fn 20 sh rfl <| Fp 21 sh rfl (fun w => Y_pick_f rfl rfl) <| Fp 22 sh rfl (fun w => Y_assign rfl) <| FE sh (af _ _ _ (S1 rfl) (ag false ax _ H ab hs))
   ·rw [if_neg (bft al)] at H
    refine Fn 12 sh rfl <| Fn 13 sh rfl <| Fn 14 sh rfl <| Fp 15 sh rfl (fun w => Y_pick_f rfl rfl) <| Fm 16 sh rfl <| Fn 17 sh rfl <| Fn 18 sh rfl <| Fn 19 sh rfl <| Fn 20 sh rfl <| Fp 21 sh rfl (fun w => Y_pick_f rfl rfl) <| Fp 22 sh rfl (fun w => Y_assign rfl) <| FE sh (af _ _ _ (S1 rfl) (ag false ax _ H ab hs))
  ·rw [if_neg aj] at H
   refine Fn 6 sh rfl <| Fn 7 sh rfl <| Fn 8 sh rfl <| Fn 9 sh rfl <| Fp 10 sh rfl (fun w => Y_pick_f rfl rfl) <| Fm 11 sh rfl <| Fn 12 sh rfl <| Fn 13 sh rfl <| Fn 14 sh rfl <| Fp 15 sh rfl (fun w => Y_pick_f rfl rfl) <| Fm 16 sh rfl <| Fn 17 sh rfl <| Fn 18 sh rfl <| Fn 19 sh rfl ?_
   refine Fn 20 sh rfl <| Fp 21 sh rfl (fun w => Y_pick_f rfl rfl) <| Fp 22 sh rfl (fun w => Y_assign rfl) <| FE sh (af _ _ _ (S1 rfl) (ag false ρ _ H (Le.rfl' _) hs))

def book_rising_api_Chars_mbg.j1 (ak : Int → Int → Option Int) (aa : Int) (ae : Spn) (ab : Bool) : Option Int := if ab = true then (some aa) else (ak ae.hi (IntKind.i64.wrap (aa + 1)))
def book_rising_api_Chars_mbg.l1 : Nat → List Chs → Int → Int → Option Int
  | 0, _, _, _ => none
  | ac + 1, x0, ad, aa => if aa < (x0.length : Int) then (if (0 : Int) ≤ aa ∧ aa < (x0.length : Int) then ((book_ofChars.f (rd x0 aa)).bind fun ae => (if ae.lo ≤ ad then (book_rising_api_Chars_mbg.j1 (book_rising_api_Chars_mbg.l1 ac x0) aa ae true) else (if ae.hi < ae.lo then (book_rising_api_Chars_mbg.j1 (book_rising_api_Chars_mbg.l1 ac x0) aa ae true) else (if 1114111 < ae.hi then (book_rising_api_Chars_mbg.j1 (book_rising_api_Chars_mbg.l1 ac x0) aa ae true) else ((book_Check_8_1_kid.f (rd x0 aa)).bind fun al => (book_rising_api_Chars_mbg.j1 (book_rising_api_Chars_mbg.l1 ac x0) aa ae (!al))))))) else none) else (some (-1))
def book_rising_api_Chars_mbg.f (x0 : List Chs) : Option Int := if 65536 < (x0.length : Int) then (some 65536) else (book_rising_api_Chars_mbg.l1 K0 x0 (-1) 0)
theorem book_rising_api_Chars_mbg.c {pb0 : Nat} (hs : St w0 ρ ((.box pb0 133 ([.func (.func 88) #[] #[]])) :: Γ) w) {v0 : Value} {x0 : List Chs} (h0 : SlR rChs ρ v0 x0) {r : Int} (H : book_rising_api_Chars_mbg.f x0 = some r) : CallsR Tryz.prog 100 [v0, .func (.func 66) #[] #[], .func (.func 101) #[] #[.pointer (some ⟨pb0, 0, none⟩)]] w (fun v w' => v = .int .i64 r ∧ St w0 ρ ((.box pb0 133 ([.func (.func 88) #[] #[]])) :: Γ) w') := by
  rw [book_rising_api_Chars_mbg.f] at H
  refine Et Tryz.func100 Tryz.ntmps100 rfl <| Wr fun bv a8 => As rfl <| Ox a8 <| W_seq fun bw a9 => Wr fun bx ba => Mv rfl <| O_y rfl (Y_lenR un24 h0 rfl) <| Ogt rfl <| Ox ba <| W_if rfl (fun aw => ?_) (fun aw => ?_)
  ·rw [if_pos aw] at H
   refine Wr fun bz bb => As rfl <| Ox bb <| W_ret ?_
   obtain rfl := sinj H
   exact r1 rfl ⟨rfl, hs⟩
  ·rw [if_neg aw] at H
   refine Wx a9 <| Wr fun b0 bc => As rfl <| Ox bc <| W_seq fun b1 bd => Wr fun b2 be => Mv rfl <| O_y rfl (Y_lenR un24 h0 rfl) <| Mv rfl <| Ox be <| W_block fun b3 bf b4 => W_loop (σ := Nat × Int × Int × Hp) (fun (ac, ad, aa, ah) => [(1, .func (.func 66) #[] #[]), (2, .func (.func 101) #[] #[.pointer (some ⟨pb0, 0, none⟩)]), (7, .int .i32 ad), (14, v0), (15, .int .i64 (x0.length : Int)), (16, .int .i64 aa)]) (fun (ac, ad, aa, ah) w => book_rising_api_Chars_mbg.l1 ac x0 ad aa = some r ∧ Le ρ ah ∧ St w0 ah ((.box pb0 133 ([.func (.func 88) #[] #[]])) :: Γ) w) (fun s => s.1) (K0, (-1), 0, ρ) sbn (Ai H (Ai (Le.rfl' _) hs)) ?_
   rintro ⟨ac, ad, aa, ah⟩ w b5 ⟨H, af, hs⟩ am
   show W _ _ _ _ _ _ [(1, .func (.func 66) #[] #[]), (2, .func (.func 101) #[] #[.pointer (some ⟨pb0, 0, none⟩)]), (7, .int .i32 ad), (14, v0), (15, .int .i64 (x0.length : Int)), (16, .int .i64 aa)] w
   cases ac with
   | zero => rw [book_rising_api_Chars_mbg.l1] at H; cases H
   | succ ac =>
   rw [book_rising_api_Chars_mbg.l1] at H
   refine Wr fun b6 bg => Ols rfl <| Ox bg <| W_seq fun b7 bh => W_if rfl (fun ax => ?_) (fun ax => ?_)
   ·rw [if_pos ax] at H
    refine Wx bh <| W_seq fun b8 bi => W_block fun b9 ca cb => Wr fun cc bj => Mv rfl ?_
    obtain ⟨a7, H⟩ := gd H
    obtain ⟨cd, ce, bk, bl⟩ := (h0.mono af).ix el24 a7.1 a7.2
    obtain ⟨_, ⟨bm, rfl, ay⟩, bn⟩ := bk
    refine O_y rfl (bl rfl rfl) <| O_y rfl (Y_loadN ag110 sz110 rfl rfl (fun j u hu => hs.see (bn j u hu))) <| O_alloc zr110 hs rfl (fun bo w hs => As rfl <| O_storeN (i := 0) sz110 hs rfl rfl rfl rfl rfl (one_cons rfl (one_cons rfl (one_cons ay.one one_nil))) (fun w hs => Ox bj <| Wr fun cf bp => Mv rfl <| O_y rfl (Y_loadbN (i := 0) ag110 sz110 hs rfl rfl rfl rfl) ?_))
    obtain ⟨ae, az, H⟩ := bnd H
    refine O_callv rfl rfl rfl (book_ofChars.c hs ⟨_, rfl, ay⟩ az) (fun cg w hpost => ?_)
    obtain ⟨ar, bq, rfl, ag, hs, a0⟩ := hpost
    have a1 := a0
    obtain rfl := a1
    refine O_alloc zr129 hs rfl (fun au w hs => O_storeN (i := 0) sz129 hs rfl rfl rfl rfl rfl (one_cons rfl (one_cons rfl one_nil)) (fun w hs => Ox bp <| W.weak [(1, _), (2, _), (7, _), (8, _), (9, _), (10, _), (14, _), (15, _), (16, _)] sbn ?_))
    refine W_seq fun br a2 => W_seqj fun a3 a4 ai => ?_
    have aj : ∀ (ab : Bool) (w : World), book_rising_api_Chars_mbg.j1 (book_rising_api_Chars_mbg.l1 ac x0) aa ae ab = some r → St w0 ar ((.box au 129 ([.int .i32 ae.lo, .int .i32 ae.hi])) :: (.box bo 110 ([.int .i32 ((rd x0 aa).lo), .int .i32 ((rd x0 aa).hi), bm])) :: (.box pb0 133 ([.func (.func 88) #[] #[]])) :: Γ) w → a3 [(1, .func (.func 66) #[] #[]), (2, .func (.func 101) #[] #[.pointer (some ⟨pb0, 0, none⟩)]), (8, .int .i64 aa), (10, .pointer (some ⟨au, 0, none⟩)), (14, v0), (15, .int .i64 (x0.length : Int)), (16, .int .i64 aa), (45, .bool ab)] w := by
     intro ab w H hs
     rw [book_rising_api_Chars_mbg.j1] at H
     refine a4 _ _ <| W_cond rfl (fun an => ?_) (fun an => ?_)
     ·rw [if_pos an] at H
      refine Wr fun bs a5 => Mv rfl <| As rfl <| Ox a5 <| W_ret ?_
      obtain rfl := sinj H
      exact r1 rfl ⟨rfl, ((hs.sub (ssk (ssk (ssc ssr)))).less (af.trans ag))⟩
     ·rw [if_neg (bft an)] at H
      refine Wx a2 <| W_region <| Ofd fo129_1 rfl <| Obx 0 ag21 hs rfl <| As rfl <| Ox bi <| W_region <| Oad rfl <| Mv rfl <| O_nil (am (ac, ae.hi, (IntKind.i64.wrap (aa + 1)), ar) _ _ sbn (Ai H (Ai (af.trans ag) (hs.sub (ssk (ssk (ssc ssr)))))) (Nat.lt_succ_self _))
    refine W_region <| Ofd fo129_0 rfl <| Obx 0 ag21 hs rfl <| Mv rfl <| Ole rfl <| Mv rfl <| O_if (dj := 28) rfl (fun ao => ?_) (fun ao => ?_)
    ·rw [if_pos ao] at H
     refine On rfl <| On rfl <| On rfl <| On rfl <| On rfl <| Opk rfl <| Mv rfl <| On rfl <| On rfl <| On rfl <| Opk rfl <| Mv rfl <| On rfl <| On rfl ?_
     refine On rfl <| On rfl <| Opk rfl <| O_nil (ai _ _ _ sbn (aj true _ H hs))
    ·rw [if_neg ao] at H
     refine Oe rfl <| Ofd fo129_1 rfl <| Oe rfl <| Obx 0 ag21 hs rfl <| Oe rfl <| Ofd fo129_0 rfl <| Oe rfl <| Obx 0 ag21 hs rfl <| Oe rfl <| Ols rfl <| Opk rfl <| Mv rfl <| O_if (dj := 35) rfl (fun ap => ?_) (fun ap => ?_)
     ·rw [if_pos ap] at H
      refine On rfl <| On rfl <| On rfl <| Opk rfl <| Mv rfl <| On rfl <| On rfl <| On rfl <| On rfl <| Opk rfl <| O_nil (ai _ _ _ sbn (aj true _ H hs))
     ·rw [if_neg ap] at H
      refine Oe rfl <| Ofd fo129_1 rfl <| Oe rfl <| Obx 0 ag21 hs rfl <| Oe rfl <| Ogt rfl <| Opk rfl <| Mv rfl <| O_if (dj := 40) rfl (fun aq => ?_) (fun aq => ?_)
      ·rw [if_pos aq] at H
       refine On rfl <| On rfl <| On rfl <| On rfl <| Opk rfl <| O_nil (ai _ _ _ sbn (aj true _ H hs))
      ·rw [if_neg aq] at H
       refine Oe rfl <| Mv rfl <| Oe rfl <| O_y rfl (Y_loadbN (i := 1) ag110 sz110 hs rfl rfl rfl rfl) <| Oe rfl ?_
       have hs := hs.front 2 rfl
       obtain ⟨al, av, H⟩ := bnd H
       refine O_callv rfl rfl rfl (book_Check_8_1_kid.c hs ⟨_, rfl, (ay.mono ag)⟩ av) (fun bt w hpost => ?_)
       obtain ⟨rfl, hs⟩ := hpost
       have hs := hs.sink 2
       refine Oe rfl <| Ont rfl <| Opk rfl <| O_nil (ai _ _ _ sbn (aj (!al) _ H hs))
   ·rw [if_neg ax] at H
    refine W_exit (bf _ _ (bd _ _ <| Wr fun bu a6 => As rfl <| Ox a6 <| W_ret ?_))
    obtain rfl := sinj H
    exact r1 rfl ⟨rfl, (hs.less af)⟩

def book_Check_8_hpj.f (y0_0 : List ByteArray) (y0_1 : List Val) (y0_2 : List Chs) (y0_3 : List Val) (y0_4 : List Chs) (y0_5 : List Spn) (y0_6 y0_7 : List Val) (y0_8 : List Spn) (y0_9 : List Val) (y0_10 : List Chs) : Option Int := (book_rising_api_Chars_mbg.f y0_4).bind fun ab => (some ab)
theorem book_Check_8_hpj.c {pb0 : Nat} {w0_0 : Value} {y0_0 : List ByteArray} {w0_1 : Value} {y0_1 : List Val} {w0_2 : Value} {y0_2 : List Chs} {w0_3 : Value} {y0_3 : List Val} {w0_4 : Value} {y0_4 : List Chs} {w0_5 : Value} {y0_5 : List Spn} {w0_6 : Value} {y0_6 : List Val} {w0_7 : Value} {y0_7 : List Val} {w0_8 : Value} {y0_8 : List Spn} {w0_9 : Value} {y0_9 : List Val} {w0_10 : Value} {y0_10 : List Chs} {pb1 : Nat} (hs : St w0 ρ ((.box pb0 27 ([w0_0, w0_1, w0_2, w0_3, w0_4, w0_5, w0_6, w0_7, w0_8, w0_9, w0_10])) :: (.box pb1 133 ([.func (.func 88) #[] #[]])) :: Γ) w) (g0_0 : SlR Rep.str ρ w0_0 y0_0) (g0_1 : SlR rVal ρ w0_1 y0_1) (g0_2 : SlR rChs ρ w0_2 y0_2) (g0_3 : SlR rVal ρ w0_3 y0_3) (g0_4 : SlR rChs ρ w0_4 y0_4) (g0_5 : SlR rSpn ρ w0_5 y0_5) (g0_6 : SlR rVal ρ w0_6 y0_6) (g0_7 : SlR rVal ρ w0_7 y0_7) (g0_8 : SlR rSpn ρ w0_8 y0_8) (g0_9 : SlR rVal ρ w0_9 y0_9) (g0_10 : SlR rChs ρ w0_10 y0_10) {r : Int} (H : book_Check_8_hpj.f y0_0 y0_1 y0_2 y0_3 y0_4 y0_5 y0_6 y0_7 y0_8 y0_9 y0_10 = some r) : CallsR Tryz.prog 99 [.pointer (some ⟨pb0, 0, none⟩), .pointer (some ⟨pb1, 0, none⟩)] w (fun v w' => v = .int .i64 r ∧ St w0 ρ ((.box pb0 27 ([w0_0, w0_1, w0_2, w0_3, w0_4, w0_5, w0_6, w0_7, w0_8, w0_9, w0_10])) :: (.box pb1 133 ([.func (.func 88) #[] #[]])) :: Γ) w') := by
  rw [book_Check_8_hpj.f] at H
  refine Et Tryz.func99 Tryz.ntmps99 rfl <| Wr fun ae ac => As rfl <| Ox ac <| Wr fun af ad => Ofd fo27_4 rfl <| Obx 0 ag24 hs rfl <| O_y rfl (Y_func rfl) ?_
  have hs := hs.front 1 rfl
  obtain ⟨ab, aa, H⟩ := bnd H
  refine Oc rfl (book_rising_api_Chars_mbg.c hs g0_4 aa) (fun ag w hpost => ?_)
  obtain ⟨rfl, hs⟩ := hpost
  have hs := hs.sink 1
  refine As rfl <| Ox ad <| W_ret ?_
  obtain rfl := sinj H
  exact r1 rfl ⟨rfl, hs⟩

def book_ofSpan.f (x0 : Spn) : Option Spn := some x0
theorem book_ofSpan.c (hs : St w0 ρ (Γ) w) {c0 : List Value} {x0 : Spn} (h0 : rSpn.R ρ c0 x0) {r : Spn} (H : book_ofSpan.f x0 = some r) : CallsR Tryz.prog 104 [.agg c0.toArray] w (fun v w' => ∃ (ρ' : Hp) (cs0 : List Value), v = .agg cs0.toArray ∧ Le ρ ρ' ∧ St w0 ρ' (Γ) w' ∧ rSpn.R ρ' cs0 r) := by
  rw [book_ofSpan.f] at H
  refine Et Tryz.func104 Tryz.ntmps104 rfl ?_
  have aa := h0
  obtain rfl := aa
  refine Wr fun ad ab => O_boxN (cs := [.int .i32 x0.lo, .int .i32 x0.hi]) hs rfl rfl (fun ae w hs => O_alloc zr129 hs rfl (fun af w hs => Ox ab <| Wr fun ag ac => O_y rfl (Y_loadbN (i := 1) ag129 sz129 hs rfl rfl rfl rfl) <| O_storeN (i := 0) sz129 hs rfl rfl rfl rfl rfl (one_cons rfl (one_cons rfl one_nil)) (fun w hs => Ox ac <| W_ret ?_)))
  obtain rfl := sinj H
  exact retc (i := 0) rfl rfl ag129 sz129 hs rfl rfl ⟨_, _, rfl, Le.rfl' _, (hs.sub (ssk (ssk ssr))), h0⟩

def book_rising_api_Span_fbg.j1 (ak : Int → Int → Option Int) (aa : Int) (ae : Spn) (ab : Bool) : Option Int := if ab = true then (some aa) else (ak ae.hi (IntKind.i64.wrap (aa + 1)))
def book_rising_api_Span_fbg.l1 : Nat → List Spn → Int → Int → Option Int
  | 0, _, _, _ => none
  | ac + 1, x0, ad, aa => if aa < (x0.length : Int) then (if (0 : Int) ≤ aa ∧ aa < (x0.length : Int) then ((book_ofSpan.f (rd x0 aa)).bind fun ae => (if ae.lo ≤ ad then (book_rising_api_Span_fbg.j1 (book_rising_api_Span_fbg.l1 ac x0) aa ae true) else (if ae.hi < ae.lo then (book_rising_api_Span_fbg.j1 (book_rising_api_Span_fbg.l1 ac x0) aa ae true) else (if 1114111 < ae.hi then (book_rising_api_Span_fbg.j1 (book_rising_api_Span_fbg.l1 ac x0) aa ae true) else ((book_Check_2.f (rd x0 aa)).bind fun al => (book_rising_api_Span_fbg.j1 (book_rising_api_Span_fbg.l1 ac x0) aa ae (!al))))))) else none) else (some (-1))
def book_rising_api_Span_fbg.f (x0 : List Spn) : Option Int := if 65536 < (x0.length : Int) then (some 65536) else (book_rising_api_Span_fbg.l1 K0 x0 (-1) 0)
theorem book_rising_api_Span_fbg.c (hs : St w0 ρ (Γ) w) {v0 : Value} {x0 : List Spn} (h0 : SlR rSpn ρ v0 x0) {r : Int} (H : book_rising_api_Span_fbg.f x0 = some r) : CallsR Tryz.prog 103 [v0, .func (.func 104) #[] #[], .func (.func 88) #[] #[]] w (fun v w' => v = .int .i64 r ∧ St w0 ρ Γ w') := by
  rw [book_rising_api_Span_fbg.f] at H
  refine Et Tryz.func103 Tryz.ntmps103 rfl <| Wr fun bt a6 => As rfl <| Ox a6 <| W_seq fun bu a7 => Wr fun bv a8 => Mv rfl <| O_y rfl (Y_lenR un25 h0 rfl) <| Ogt rfl <| Ox a8 <| W_if rfl (fun av => ?_) (fun av => ?_)
  ·rw [if_pos av] at H
   refine Wr fun bw a9 => As rfl <| Ox a9 <| W_ret ?_
   obtain rfl := sinj H
   exact r1 rfl ⟨rfl, hs⟩
  ·rw [if_neg av] at H
   refine Wx a7 <| Wr fun bx ba => As rfl <| Ox ba <| W_seq fun bz bb => Wr fun b0 bc => Mv rfl <| O_y rfl (Y_lenR un25 h0 rfl) <| Mv rfl <| Ox bc <| W_block fun b1 bd b2 => W_loop (σ := Nat × Int × Int × Hp) (fun (ac, ad, aa, ag) => [(1, .func (.func 104) #[] #[]), (2, .func (.func 88) #[] #[]), (7, .int .i32 ad), (14, v0), (15, .int .i64 (x0.length : Int)), (16, .int .i64 aa)]) (fun (ac, ad, aa, ag) w => book_rising_api_Span_fbg.l1 ac x0 ad aa = some r ∧ Le ρ ag ∧ St w0 ag (Γ) w) (fun s => s.1) (K0, (-1), 0, ρ) sbn (Ai H (Ai (Le.rfl' _) hs)) ?_
   rintro ⟨ac, ad, aa, ag⟩ w b3 ⟨H, af, hs⟩ am
   show W _ _ _ _ _ _ [(1, .func (.func 104) #[] #[]), (2, .func (.func 88) #[] #[]), (7, .int .i32 ad), (14, v0), (15, .int .i64 (x0.length : Int)), (16, .int .i64 aa)] w
   cases ac with
   | zero => rw [book_rising_api_Span_fbg.l1] at H; cases H
   | succ ac =>
   rw [book_rising_api_Span_fbg.l1] at H
   refine Wr fun b4 be => Ols rfl <| Ox be <| W_seq fun b5 bf => W_if rfl (fun aw => ?_) (fun aw => ?_)
   ·rw [if_pos aw] at H
    refine Wx bf <| W_seq fun b6 bg => W_block fun b7 b8 b9 => Wr fun ca bh => Mv rfl ?_
    obtain ⟨a4, H⟩ := gd H
    obtain ⟨cb, cc, bi, bj⟩ := (h0.mono af).ix el25 a4.1 a4.2
    obtain ⟨_, rfl, bk⟩ := bi
    refine O_y rfl (bj rfl rfl) <| O_y rfl (Y_loadN ag129 sz129 rfl rfl (fun j u hu => hs.see (bk j u hu))) <| O_alloc zr129 hs rfl (fun bl w hs => As rfl <| O_storeN (i := 0) sz129 hs rfl rfl rfl rfl rfl (one_cons rfl (one_cons rfl one_nil)) (fun w hs => Ox bh <| Wr fun cd bm => Mv rfl <| O_y rfl (Y_loadbN (i := 0) ag129 sz129 hs rfl rfl rfl rfl) ?_))
    obtain ⟨ae, ax, H⟩ := bnd H
    refine O_callv rfl rfl rfl (book_ofSpan.c hs rfl ax) (fun ce w hpost => ?_)
    obtain ⟨a5, bn, rfl, aj, hs, bo⟩ := hpost
    have ay := bo
    obtain rfl := ay
    refine O_alloc zr129 hs rfl (fun ar w hs => O_storeN (i := 0) sz129 hs rfl rfl rfl rfl rfl (one_cons rfl (one_cons rfl one_nil)) (fun w hs => Ox bm <| W.weak [(1, _), (2, _), (7, _), (8, _), (9, _), (10, _), (14, _), (15, _), (16, _)] sbn ?_))
    refine W_seq fun bp az => W_seqj fun a0 a1 ah => ?_
    have ai : ∀ (ab : Bool) (w : World), book_rising_api_Span_fbg.j1 (book_rising_api_Span_fbg.l1 ac x0) aa ae ab = some r → St w0 a5 ((.box ar 129 ([.int .i32 ae.lo, .int .i32 ae.hi])) :: (.box bl 129 ([.int .i32 ((rd x0 aa).lo), .int .i32 ((rd x0 aa).hi)])) :: Γ) w → a0 [(1, .func (.func 104) #[] #[]), (2, .func (.func 88) #[] #[]), (8, .int .i64 aa), (10, .pointer (some ⟨ar, 0, none⟩)), (14, v0), (15, .int .i64 (x0.length : Int)), (16, .int .i64 aa), (45, .bool ab)] w := by
     intro ab w H hs
     rw [book_rising_api_Span_fbg.j1] at H
     refine a1 _ _ <| W_cond rfl (fun an => ?_) (fun an => ?_)
     ·rw [if_pos an] at H
      refine Wr fun bq a2 => Mv rfl <| As rfl <| Ox a2 <| W_ret ?_
      obtain rfl := sinj H
      exact r1 rfl ⟨rfl, ((hs.sub (ssk (ssk ssr))).less (af.trans aj))⟩
     ·rw [if_neg (bft an)] at H
      refine Wx az <| W_region <| Ofd fo129_1 rfl <| Obx 0 ag21 hs rfl <| As rfl <| Ox bg <| W_region <| Oad rfl <| Mv rfl <| O_nil (am (ac, ae.hi, (IntKind.i64.wrap (aa + 1)), a5) _ _ sbn (Ai H (Ai (af.trans aj) (hs.sub (ssk (ssk ssr))))) (Nat.lt_succ_self _))
    refine W_region <| Ofd fo129_0 rfl <| Obx 0 ag21 hs rfl <| Mv rfl <| Ole rfl <| Mv rfl <| O_if (dj := 28) rfl (fun ao => ?_) (fun ao => ?_)
    ·rw [if_pos ao] at H
     refine On rfl <| On rfl <| On rfl <| On rfl <| On rfl <| Opk rfl <| Mv rfl <| On rfl <| On rfl <| On rfl <| Opk rfl <| Mv rfl <| On rfl <| On rfl ?_
     refine On rfl <| On rfl <| Opk rfl <| O_nil (ah _ _ _ sbn (ai true _ H hs))
    ·rw [if_neg ao] at H
     refine Oe rfl <| Ofd fo129_1 rfl <| Oe rfl <| Obx 0 ag21 hs rfl <| Oe rfl <| Ofd fo129_0 rfl <| Oe rfl <| Obx 0 ag21 hs rfl <| Oe rfl <| Ols rfl <| Opk rfl <| Mv rfl <| O_if (dj := 35) rfl (fun ap => ?_) (fun ap => ?_)
     ·rw [if_pos ap] at H
      refine On rfl <| On rfl <| On rfl <| Opk rfl <| Mv rfl <| On rfl <| On rfl <| On rfl <| On rfl <| Opk rfl <| O_nil (ah _ _ _ sbn (ai true _ H hs))
     ·rw [if_neg ap] at H
      refine Oe rfl <| Ofd fo129_1 rfl <| Oe rfl <| Obx 0 ag21 hs rfl <| Oe rfl <| Ogt rfl <| Opk rfl <| Mv rfl <| O_if (dj := 40) rfl (fun aq => ?_) (fun aq => ?_)
      ·rw [if_pos aq] at H
       refine On rfl <| On rfl <| On rfl <| On rfl <| Opk rfl <| O_nil (ah _ _ _ sbn (ai true _ H hs))
      ·rw [if_neg aq] at H
       refine Oe rfl <| Mv rfl <| Oe rfl <| O_y rfl (Y_loadbN (i := 1) ag129 sz129 hs rfl rfl rfl rfl) <| Oe rfl ?_
       obtain ⟨al, au, H⟩ := bnd H
       refine O_callv rfl rfl rfl (book_Check_2.c hs rfl au) (fun br w hpost => ?_)
       obtain ⟨rfl, hs⟩ := hpost
       refine Oe rfl <| Ont rfl <| Opk rfl <| O_nil (ah _ _ _ sbn (ai (!al) _ H hs))
   ·rw [if_neg aw] at H
    refine W_exit (bd _ _ (bb _ _ <| Wr fun bs a3 => As rfl <| Ox a3 <| W_ret ?_))
    obtain rfl := sinj H
    exact r1 rfl ⟨rfl, (hs.less af)⟩

def book_Check_9_hpj.f (y0_0 : List ByteArray) (y0_1 : List Val) (y0_2 : List Chs) (y0_3 : List Val) (y0_4 : List Chs) (y0_5 : List Spn) (y0_6 y0_7 : List Val) (y0_8 : List Spn) (y0_9 : List Val) (y0_10 : List Chs) : Option Int := (book_rising_api_Span_fbg.f y0_5).bind fun ab => (some ab)
theorem book_Check_9_hpj.c {pb0 : Nat} {w0_0 : Value} {y0_0 : List ByteArray} {w0_1 : Value} {y0_1 : List Val} {w0_2 : Value} {y0_2 : List Chs} {w0_3 : Value} {y0_3 : List Val} {w0_4 : Value} {y0_4 : List Chs} {w0_5 : Value} {y0_5 : List Spn} {w0_6 : Value} {y0_6 : List Val} {w0_7 : Value} {y0_7 : List Val} {w0_8 : Value} {y0_8 : List Spn} {w0_9 : Value} {y0_9 : List Val} {w0_10 : Value} {y0_10 : List Chs} {pb1 : Nat} (hs : St w0 ρ ((.box pb0 27 ([w0_0, w0_1, w0_2, w0_3, w0_4, w0_5, w0_6, w0_7, w0_8, w0_9, w0_10])) :: (.box pb1 133 ([.func (.func 88) #[] #[]])) :: Γ) w) (g0_0 : SlR Rep.str ρ w0_0 y0_0) (g0_1 : SlR rVal ρ w0_1 y0_1) (g0_2 : SlR rChs ρ w0_2 y0_2) (g0_3 : SlR rVal ρ w0_3 y0_3) (g0_4 : SlR rChs ρ w0_4 y0_4) (g0_5 : SlR rSpn ρ w0_5 y0_5) (g0_6 : SlR rVal ρ w0_6 y0_6) (g0_7 : SlR rVal ρ w0_7 y0_7) (g0_8 : SlR rSpn ρ w0_8 y0_8) (g0_9 : SlR rVal ρ w0_9 y0_9) (g0_10 : SlR rChs ρ w0_10 y0_10) {r : Int} (H : book_Check_9_hpj.f y0_0 y0_1 y0_2 y0_3 y0_4 y0_5 y0_6 y0_7 y0_8 y0_9 y0_10 = some r) : CallsR Tryz.prog 102 [.pointer (some ⟨pb0, 0, none⟩), .pointer (some ⟨pb1, 0, none⟩)] w (fun v w' => v = .int .i64 r ∧ St w0 ρ ((.box pb0 27 ([w0_0, w0_1, w0_2, w0_3, w0_4, w0_5, w0_6, w0_7, w0_8, w0_9, w0_10])) :: (.box pb1 133 ([.func (.func 88) #[] #[]])) :: Γ) w') := by
  rw [book_Check_9_hpj.f] at H
  refine Et Tryz.func102 Tryz.ntmps102 rfl <| Wr fun ae ac => As rfl <| Ox ac <| Wr fun af ad => Ofd fo27_5 rfl <| Obx 0 ag25 hs rfl <| Obx 1 ag133 hs rfl ?_
  obtain ⟨ab, aa, H⟩ := bnd H
  refine Oc rfl (book_rising_api_Span_fbg.c hs g0_5 aa) (fun ag w hpost => ?_)
  obtain ⟨rfl, hs⟩ := hpost
  refine As rfl <| Ox ad <| W_ret ?_
  obtain rfl := sinj H
  exact r1 rfl ⟨rfl, hs⟩

def book_directions.f : Option (List ByteArray) := some ([(⟨#[76]⟩ : ByteArray), (⟨#[82]⟩ : ByteArray), (⟨#[65, 76]⟩ : ByteArray), (⟨#[69, 78]⟩ : ByteArray), (⟨#[69, 83]⟩ : ByteArray), (⟨#[69, 84]⟩ : ByteArray), (⟨#[65, 78]⟩ : ByteArray), (⟨#[67, 83]⟩ : ByteArray), (⟨#[78, 83, 77]⟩ : ByteArray), (⟨#[66, 78]⟩ : ByteArray), (⟨#[79, 78]⟩ : ByteArray), (⟨#[66]⟩ : ByteArray), (⟨#[83]⟩ : ByteArray), (⟨#[87, 83]⟩ : ByteArray), (⟨#[76, 82, 69]⟩ : ByteArray), (⟨#[76, 82, 79]⟩ : ByteArray), (⟨#[82, 76, 69]⟩ : ByteArray), (⟨#[82, 76, 79]⟩ : ByteArray), (⟨#[80, 68, 70]⟩ : ByteArray), (⟨#[76, 82, 73]⟩ : ByteArray), (⟨#[82, 76, 73]⟩ : ByteArray), (⟨#[70, 83, 73]⟩ : ByteArray), (⟨#[80, 68, 73]⟩ : ByteArray)])
theorem book_directions.c (hs : St w0 ρ (Γ) w) {r : List ByteArray} (H : book_directions.f = some r) : CallsR Tryz.prog 106 [] w (fun v w' => ∃ (ρ' : Hp) (v0 : Value) (cs0 : List Value), v = v0 ∧ Le ρ ρ' ∧ St w0 ρ' (.row v0 9 Rep.str.sz r.length cs0 :: Γ) w' ∧ RowR Rep.str ρ' cs0 r) := by
  rw [book_directions.f] at H
  refine Et Tryz.func106 Tryz.ntmps106 rfl <| Wr fun ad aa => As rfl <| Ox aa <| Wr fun ae ab => O_lit2 (xs := [.const (.string (⟨#[76]⟩ : ByteArray)), .const (.string (⟨#[82]⟩ : ByteArray)), .const (.string (⟨#[65, 76]⟩ : ByteArray)), .const (.string (⟨#[69, 78]⟩ : ByteArray)), .const (.string (⟨#[69, 83]⟩ : ByteArray)), .const (.string (⟨#[69, 84]⟩ : ByteArray)), .const (.string (⟨#[65, 78]⟩ : ByteArray)), .const (.string (⟨#[67, 83]⟩ : ByteArray)), .const (.string (⟨#[78, 83, 77]⟩ : ByteArray)), .const (.string (⟨#[66, 78]⟩ : ByteArray)), .const (.string (⟨#[79, 78]⟩ : ByteArray)), .const (.string (⟨#[66]⟩ : ByteArray)), .const (.string (⟨#[83]⟩ : ByteArray)), .const (.string (⟨#[87, 83]⟩ : ByteArray)), .const (.string (⟨#[76, 82, 69]⟩ : ByteArray)), .const (.string (⟨#[76, 82, 79]⟩ : ByteArray)), .const (.string (⟨#[82, 76, 69]⟩ : ByteArray)), .const (.string (⟨#[82, 76, 79]⟩ : ByteArray)), .const (.string (⟨#[80, 68, 70]⟩ : ByteArray)), .const (.string (⟨#[76, 82, 73]⟩ : ByteArray)), .const (.string (⟨#[82, 76, 73]⟩ : ByteArray)), .const (.string (⟨#[70, 83, 73]⟩ : ByteArray)), .const (.string (⟨#[80, 68, 73]⟩ : ByteArray))]) (cs := [.string (⟨#[76]⟩ : ByteArray), .string (⟨#[82]⟩ : ByteArray), .string (⟨#[65, 76]⟩ : ByteArray), .string (⟨#[69, 78]⟩ : ByteArray), .string (⟨#[69, 83]⟩ : ByteArray), .string (⟨#[69, 84]⟩ : ByteArray), .string (⟨#[65, 78]⟩ : ByteArray), .string (⟨#[67, 83]⟩ : ByteArray), .string (⟨#[78, 83, 77]⟩ : ByteArray), .string (⟨#[66, 78]⟩ : ByteArray), .string (⟨#[79, 78]⟩ : ByteArray), .string (⟨#[66]⟩ : ByteArray), .string (⟨#[83]⟩ : ByteArray), .string (⟨#[87, 83]⟩ : ByteArray), .string (⟨#[76, 82, 69]⟩ : ByteArray), .string (⟨#[76, 82, 79]⟩ : ByteArray), .string (⟨#[82, 76, 69]⟩ : ByteArray), .string (⟨#[82, 76, 79]⟩ : ByteArray), .string (⟨#[80, 68, 70]⟩ : ByteArray), .string (⟨#[76, 82, 73]⟩ : ByteArray), .string (⟨#[82, 76, 73]⟩ : ByteArray), .string (⟨#[70, 83, 73]⟩ : ByteArray), .string (⟨#[80, 68, 73]⟩ : ByteArray)]) el22 hs rfl rfl rfl (by decide) (by decide) rfl (sz_cons rfl (sz_cons rfl (sz_cons rfl (sz_cons rfl (sz_cons rfl (sz_cons rfl (sz_cons rfl (sz_cons rfl (sz_cons rfl (sz_cons rfl (sz_cons rfl (sz_cons rfl (sz_cons rfl (sz_cons rfl (sz_cons rfl (sz_cons rfl (sz_cons rfl (sz_cons rfl (sz_cons rfl (sz_cons rfl (sz_cons rfl (sz_cons rfl (sz_cons rfl sz_nil))))))))))))))))))))))) (flat_cons rfl (flat_cons rfl (flat_cons rfl (flat_cons rfl (flat_cons rfl (flat_cons rfl (flat_cons rfl (flat_cons rfl (flat_cons rfl (flat_cons rfl (flat_cons rfl (flat_cons rfl (flat_cons rfl (flat_cons rfl (flat_cons rfl (flat_cons rfl (flat_cons rfl (flat_cons rfl (flat_cons rfl (flat_cons rfl (flat_cons rfl (flat_cons rfl (flat_cons rfl flat_nil))))))))))))))))))))))) (fun af w hs => ?_)
  have ac : RowR Rep.str ρ ([.string (⟨#[76]⟩ : ByteArray), .string (⟨#[82]⟩ : ByteArray), .string (⟨#[65, 76]⟩ : ByteArray), .string (⟨#[69, 78]⟩ : ByteArray), .string (⟨#[69, 83]⟩ : ByteArray), .string (⟨#[69, 84]⟩ : ByteArray), .string (⟨#[65, 78]⟩ : ByteArray), .string (⟨#[67, 83]⟩ : ByteArray), .string (⟨#[78, 83, 77]⟩ : ByteArray), .string (⟨#[66, 78]⟩ : ByteArray), .string (⟨#[79, 78]⟩ : ByteArray), .string (⟨#[66]⟩ : ByteArray), .string (⟨#[83]⟩ : ByteArray), .string (⟨#[87, 83]⟩ : ByteArray), .string (⟨#[76, 82, 69]⟩ : ByteArray), .string (⟨#[76, 82, 79]⟩ : ByteArray), .string (⟨#[82, 76, 69]⟩ : ByteArray), .string (⟨#[82, 76, 79]⟩ : ByteArray), .string (⟨#[80, 68, 70]⟩ : ByteArray), .string (⟨#[76, 82, 73]⟩ : ByteArray), .string (⟨#[82, 76, 73]⟩ : ByteArray), .string (⟨#[70, 83, 73]⟩ : ByteArray), .string (⟨#[80, 68, 73]⟩ : ByteArray)]) [(⟨#[76]⟩ : ByteArray), (⟨#[82]⟩ : ByteArray), (⟨#[65, 76]⟩ : ByteArray), (⟨#[69, 78]⟩ : ByteArray), (⟨#[69, 83]⟩ : ByteArray), (⟨#[69, 84]⟩ : ByteArray), (⟨#[65, 78]⟩ : ByteArray), (⟨#[67, 83]⟩ : ByteArray), (⟨#[78, 83, 77]⟩ : ByteArray), (⟨#[66, 78]⟩ : ByteArray), (⟨#[79, 78]⟩ : ByteArray), (⟨#[66]⟩ : ByteArray), (⟨#[83]⟩ : ByteArray), (⟨#[87, 83]⟩ : ByteArray), (⟨#[76, 82, 69]⟩ : ByteArray), (⟨#[76, 82, 79]⟩ : ByteArray), (⟨#[82, 76, 69]⟩ : ByteArray), (⟨#[82, 76, 79]⟩ : ByteArray), (⟨#[80, 68, 70]⟩ : ByteArray), (⟨#[76, 82, 73]⟩ : ByteArray), (⟨#[82, 76, 73]⟩ : ByteArray), (⟨#[70, 83, 73]⟩ : ByteArray), (⟨#[80, 68, 73]⟩ : ByteArray)] := RowR.cons (c := [.string (⟨#[76]⟩ : ByteArray)]) (x := (⟨#[76]⟩ : ByteArray)) rfl (RowR.cons (c := [.string (⟨#[82]⟩ : ByteArray)]) (x := (⟨#[82]⟩ : ByteArray)) rfl (RowR.cons (c := [.string (⟨#[65, 76]⟩ : ByteArray)]) (x := (⟨#[65, 76]⟩ : ByteArray)) rfl (RowR.cons (c := [.string (⟨#[69, 78]⟩ : ByteArray)]) (x := (⟨#[69, 78]⟩ : ByteArray)) rfl (RowR.cons (c := [.string (⟨#[69, 83]⟩ : ByteArray)]) (x := (⟨#[69, 83]⟩ : ByteArray)) rfl (RowR.cons (c := [.string (⟨#[69, 84]⟩ : ByteArray)]) (x := (⟨#[69, 84]⟩ : ByteArray)) rfl (RowR.cons (c := [.string (⟨#[65, 78]⟩ : ByteArray)]) (x := (⟨#[65, 78]⟩ : ByteArray)) rfl (RowR.cons (c := [.string (⟨#[67, 83]⟩ : ByteArray)]) (x := (⟨#[67, 83]⟩ : ByteArray)) rfl (RowR.cons (c := [.string (⟨#[78, 83, 77]⟩ : ByteArray)]) (x := (⟨#[78, 83, 77]⟩ : ByteArray)) rfl (RowR.cons (c := [.string (⟨#[66, 78]⟩ : ByteArray)]) (x := (⟨#[66, 78]⟩ : ByteArray)) rfl (RowR.cons (c := [.string (⟨#[79, 78]⟩ : ByteArray)]) (x := (⟨#[79, 78]⟩ : ByteArray)) rfl (RowR.cons (c := [.string (⟨#[66]⟩ : ByteArray)]) (x := (⟨#[66]⟩ : ByteArray)) rfl (RowR.cons (c := [.string (⟨#[83]⟩ : ByteArray)]) (x := (⟨#[83]⟩ : ByteArray)) rfl (RowR.cons (c := [.string (⟨#[87, 83]⟩ : ByteArray)]) (x := (⟨#[87, 83]⟩ : ByteArray)) rfl (RowR.cons (c := [.string (⟨#[76, 82, 69]⟩ : ByteArray)]) (x := (⟨#[76, 82, 69]⟩ : ByteArray)) rfl (RowR.cons (c := [.string (⟨#[76, 82, 79]⟩ : ByteArray)]) (x := (⟨#[76, 82, 79]⟩ : ByteArray)) rfl (RowR.cons (c := [.string (⟨#[82, 76, 69]⟩ : ByteArray)]) (x := (⟨#[82, 76, 69]⟩ : ByteArray)) rfl (RowR.cons (c := [.string (⟨#[82, 76, 79]⟩ : ByteArray)]) (x := (⟨#[82, 76, 79]⟩ : ByteArray)) rfl (RowR.cons (c := [.string (⟨#[80, 68, 70]⟩ : ByteArray)]) (x := (⟨#[80, 68, 70]⟩ : ByteArray)) rfl (RowR.cons (c := [.string (⟨#[76, 82, 73]⟩ : ByteArray)]) (x := (⟨#[76, 82, 73]⟩ : ByteArray)) rfl (RowR.cons (c := [.string (⟨#[82, 76, 73]⟩ : ByteArray)]) (x := (⟨#[82, 76, 73]⟩ : ByteArray)) rfl (RowR.cons (c := [.string (⟨#[70, 83, 73]⟩ : ByteArray)]) (x := (⟨#[70, 83, 73]⟩ : ByteArray)) rfl (RowR.cons (c := [.string (⟨#[80, 68, 73]⟩ : ByteArray)]) (x := (⟨#[80, 68, 73]⟩ : ByteArray)) rfl (RowR.nil _ _)))))))))))))))))))))))
  refine As rfl <| Ox ab <| W_ret ?_
  obtain rfl := sinj H
  exact r1 rfl ⟨_, _, _, rfl, Le.rfl' _, hs, ac⟩

def book_Check_10_ion.f (y0_0 : List ByteArray) (y0_1 : List Val) (y0_2 : List Chs) (y0_3 : List Val) (y0_4 : List Chs) (y0_5 : List Spn) (y0_6 y0_7 : List Val) (y0_8 : List Spn) (y0_9 : List Val) (y0_10 : List Chs) : Option Int := (book_directions.f).bind fun af => ((book_values_bpe.f y0_6 0 (IntKind.i64.wrap ((af.length : Int) - 1))).bind fun ag => (some ag))
theorem book_Check_10_ion.c {pb0 : Nat} {w0_0 : Value} {y0_0 : List ByteArray} {w0_1 : Value} {y0_1 : List Val} {w0_2 : Value} {y0_2 : List Chs} {w0_3 : Value} {y0_3 : List Val} {w0_4 : Value} {y0_4 : List Chs} {w0_5 : Value} {y0_5 : List Spn} {w0_6 : Value} {y0_6 : List Val} {w0_7 : Value} {y0_7 : List Val} {w0_8 : Value} {y0_8 : List Spn} {w0_9 : Value} {y0_9 : List Val} {w0_10 : Value} {y0_10 : List Chs} {pb1 : Nat} (hs : St w0 ρ ((.box pb0 27 ([w0_0, w0_1, w0_2, w0_3, w0_4, w0_5, w0_6, w0_7, w0_8, w0_9, w0_10])) :: (.box pb1 133 ([.func (.func 87) #[] #[]])) :: Γ) w) (g0_0 : SlR Rep.str ρ w0_0 y0_0) (g0_1 : SlR rVal ρ w0_1 y0_1) (g0_2 : SlR rChs ρ w0_2 y0_2) (g0_3 : SlR rVal ρ w0_3 y0_3) (g0_4 : SlR rChs ρ w0_4 y0_4) (g0_5 : SlR rSpn ρ w0_5 y0_5) (g0_6 : SlR rVal ρ w0_6 y0_6) (g0_7 : SlR rVal ρ w0_7 y0_7) (g0_8 : SlR rSpn ρ w0_8 y0_8) (g0_9 : SlR rVal ρ w0_9 y0_9) (g0_10 : SlR rChs ρ w0_10 y0_10) {r : Int} (H : book_Check_10_ion.f y0_0 y0_1 y0_2 y0_3 y0_4 y0_5 y0_6 y0_7 y0_8 y0_9 y0_10 = some r) : CallsR Tryz.prog 105 [.pointer (some ⟨pb0, 0, none⟩), .pointer (some ⟨pb1, 0, none⟩)] w (fun v w' => v = .int .i64 r ∧ St w0 ρ ((.box pb0 27 ([w0_0, w0_1, w0_2, w0_3, w0_4, w0_5, w0_6, w0_7, w0_8, w0_9, w0_10])) :: (.box pb1 133 ([.func (.func 87) #[] #[]])) :: Γ) w') := by
  rw [book_Check_10_ion.f] at H
  refine Et Tryz.func105 Tryz.ntmps105 rfl <| Wr fun ao ah => As rfl <| Ox ah <| W_seq fun ap ai => W_drawS 8 [0, 1, 0, 4, 8, 0, 54, 127] [124, 60, 51, 99, 35, 31, 0, 0] [0, 1, 0, 4, 12, 0, 63, 127] [] (fun w => St w0 ρ ((.box pb0 27 ([w0_0, w0_1, w0_2, w0_3, w0_4, w0_5, w0_6, w0_7, w0_8, w0_9, w0_10])) :: (.box pb1 133 ([.func (.func 87) #[] #[]])) :: Γ) w) mixed (by kernel_rfl) (fun sh => ?_)
  have hs := hs.drew
  refine Fp 0 sh rfl (fun w => Y_field fo27_6 rfl) <| Fy 1 sh rfl hs (fun w hs => Yb 0 ag23 hs rfl rfl rfl) <| Fy 5 sh rfl hs (fun w hs => Yb 1 ag133 hs rfl rfl rfl) <| F1 2 sh rfl (fun aq aj => ?_)
  obtain ⟨af, ab, H⟩ := bnd H
  refine Oc rfl (book_directions.c hs ab) (fun ar w hpost => ?_)
  obtain ⟨au, av, ak, rfl, aa, hs, al⟩ := hpost
  refine O_nil (aj _ _ (fun _ _ => ((hs.less aa).sub (ssk (ssc (ssc ssr))))) ?_)
  obtain ⟨aw, ac, hs, am⟩ := hs.rowEnd (j := 0) al rfl
  have ad := aa.trans ac
  refine Fp 3 sh rfl (fun w => Y_lenR un22 am rfl) <| Fp 4 sh rfl (fun w => Y_sub rfl rfl) <| F1 6 sh rfl (fun ax an => ?_)
  obtain ⟨ag, ae, H⟩ := bnd H
  refine Oc rfl (book_values_bpe.c hs (g0_6.mono ad) ae) (fun ay w hpost => ?_)
  obtain ⟨rfl, hs⟩ := hpost
  refine O_nil (an _ _ (fun _ _ => (hs.less ad)) <| Fp 7 sh rfl (fun w => Y_assign rfl) <| FE sh (ai _ _ <| W_ret ?_))
  obtain rfl := sinj H
  exact r1 rfl ⟨rfl, (hs.less ad)⟩

def book_joinings.f : Option (List ByteArray) := some ([(⟨#[85]⟩ : ByteArray), (⟨#[76]⟩ : ByteArray), (⟨#[82]⟩ : ByteArray), (⟨#[68]⟩ : ByteArray), (⟨#[84]⟩ : ByteArray), (⟨#[67]⟩ : ByteArray)])
theorem book_joinings.c (hs : St w0 ρ (Γ) w) {r : List ByteArray} (H : book_joinings.f = some r) : CallsR Tryz.prog 108 [] w (fun v w' => ∃ (ρ' : Hp) (v0 : Value) (cs0 : List Value), v = v0 ∧ Le ρ ρ' ∧ St w0 ρ' (.row v0 9 Rep.str.sz r.length cs0 :: Γ) w' ∧ RowR Rep.str ρ' cs0 r) := by
  rw [book_joinings.f] at H
  refine Et Tryz.func108 Tryz.ntmps108 rfl <| Wr fun ad aa => As rfl <| Ox aa <| Wr fun ae ab => O_lit2 (xs := [.const (.string (⟨#[85]⟩ : ByteArray)), .const (.string (⟨#[76]⟩ : ByteArray)), .const (.string (⟨#[82]⟩ : ByteArray)), .const (.string (⟨#[68]⟩ : ByteArray)), .const (.string (⟨#[84]⟩ : ByteArray)), .const (.string (⟨#[67]⟩ : ByteArray))]) (cs := [.string (⟨#[85]⟩ : ByteArray), .string (⟨#[76]⟩ : ByteArray), .string (⟨#[82]⟩ : ByteArray), .string (⟨#[68]⟩ : ByteArray), .string (⟨#[84]⟩ : ByteArray), .string (⟨#[67]⟩ : ByteArray)]) el22 hs rfl rfl rfl (by decide) (by decide) rfl (sz_cons rfl (sz_cons rfl (sz_cons rfl (sz_cons rfl (sz_cons rfl (sz_cons rfl sz_nil)))))) (flat_cons rfl (flat_cons rfl (flat_cons rfl (flat_cons rfl (flat_cons rfl (flat_cons rfl flat_nil)))))) (fun af w hs => ?_)
  have ac : RowR Rep.str ρ ([.string (⟨#[85]⟩ : ByteArray), .string (⟨#[76]⟩ : ByteArray), .string (⟨#[82]⟩ : ByteArray), .string (⟨#[68]⟩ : ByteArray), .string (⟨#[84]⟩ : ByteArray), .string (⟨#[67]⟩ : ByteArray)]) [(⟨#[85]⟩ : ByteArray), (⟨#[76]⟩ : ByteArray), (⟨#[82]⟩ : ByteArray), (⟨#[68]⟩ : ByteArray), (⟨#[84]⟩ : ByteArray), (⟨#[67]⟩ : ByteArray)] := RowR.cons (c := [.string (⟨#[85]⟩ : ByteArray)]) (x := (⟨#[85]⟩ : ByteArray)) rfl (RowR.cons (c := [.string (⟨#[76]⟩ : ByteArray)]) (x := (⟨#[76]⟩ : ByteArray)) rfl (RowR.cons (c := [.string (⟨#[82]⟩ : ByteArray)]) (x := (⟨#[82]⟩ : ByteArray)) rfl (RowR.cons (c := [.string (⟨#[68]⟩ : ByteArray)]) (x := (⟨#[68]⟩ : ByteArray)) rfl (RowR.cons (c := [.string (⟨#[84]⟩ : ByteArray)]) (x := (⟨#[84]⟩ : ByteArray)) rfl (RowR.cons (c := [.string (⟨#[67]⟩ : ByteArray)]) (x := (⟨#[67]⟩ : ByteArray)) rfl (RowR.nil _ _))))))
  refine As rfl <| Ox ab <| W_ret ?_
  obtain rfl := sinj H
  exact r1 rfl ⟨_, _, _, rfl, Le.rfl' _, hs, ac⟩

def book_Check_11_ion.f (y0_0 : List ByteArray) (y0_1 : List Val) (y0_2 : List Chs) (y0_3 : List Val) (y0_4 : List Chs) (y0_5 : List Spn) (y0_6 y0_7 : List Val) (y0_8 : List Spn) (y0_9 : List Val) (y0_10 : List Chs) : Option Int := (book_joinings.f).bind fun af => ((book_values_bpe.f y0_7 0 (IntKind.i64.wrap ((af.length : Int) - 1))).bind fun ag => (some ag))
theorem book_Check_11_ion.c {pb0 : Nat} {w0_0 : Value} {y0_0 : List ByteArray} {w0_1 : Value} {y0_1 : List Val} {w0_2 : Value} {y0_2 : List Chs} {w0_3 : Value} {y0_3 : List Val} {w0_4 : Value} {y0_4 : List Chs} {w0_5 : Value} {y0_5 : List Spn} {w0_6 : Value} {y0_6 : List Val} {w0_7 : Value} {y0_7 : List Val} {w0_8 : Value} {y0_8 : List Spn} {w0_9 : Value} {y0_9 : List Val} {w0_10 : Value} {y0_10 : List Chs} {pb1 : Nat} (hs : St w0 ρ ((.box pb0 27 ([w0_0, w0_1, w0_2, w0_3, w0_4, w0_5, w0_6, w0_7, w0_8, w0_9, w0_10])) :: (.box pb1 133 ([.func (.func 87) #[] #[]])) :: Γ) w) (g0_0 : SlR Rep.str ρ w0_0 y0_0) (g0_1 : SlR rVal ρ w0_1 y0_1) (g0_2 : SlR rChs ρ w0_2 y0_2) (g0_3 : SlR rVal ρ w0_3 y0_3) (g0_4 : SlR rChs ρ w0_4 y0_4) (g0_5 : SlR rSpn ρ w0_5 y0_5) (g0_6 : SlR rVal ρ w0_6 y0_6) (g0_7 : SlR rVal ρ w0_7 y0_7) (g0_8 : SlR rSpn ρ w0_8 y0_8) (g0_9 : SlR rVal ρ w0_9 y0_9) (g0_10 : SlR rChs ρ w0_10 y0_10) {r : Int} (H : book_Check_11_ion.f y0_0 y0_1 y0_2 y0_3 y0_4 y0_5 y0_6 y0_7 y0_8 y0_9 y0_10 = some r) : CallsR Tryz.prog 107 [.pointer (some ⟨pb0, 0, none⟩), .pointer (some ⟨pb1, 0, none⟩)] w (fun v w' => v = .int .i64 r ∧ St w0 ρ ((.box pb0 27 ([w0_0, w0_1, w0_2, w0_3, w0_4, w0_5, w0_6, w0_7, w0_8, w0_9, w0_10])) :: (.box pb1 133 ([.func (.func 87) #[] #[]])) :: Γ) w') := by
  rw [book_Check_11_ion.f] at H
  refine Et Tryz.func107 Tryz.ntmps107 rfl <| Wr fun ao ah => As rfl <| Ox ah <| W_seq fun ap ai => W_drawS 8 [0, 1, 0, 4, 8, 0, 54, 127] [124, 60, 51, 99, 35, 31, 0, 0] [0, 1, 0, 4, 12, 0, 63, 127] [] (fun w => St w0 ρ ((.box pb0 27 ([w0_0, w0_1, w0_2, w0_3, w0_4, w0_5, w0_6, w0_7, w0_8, w0_9, w0_10])) :: (.box pb1 133 ([.func (.func 87) #[] #[]])) :: Γ) w) mixed (by kernel_rfl) (fun sh => ?_)
  have hs := hs.drew
  refine Fp 0 sh rfl (fun w => Y_field fo27_7 rfl) <| Fy 1 sh rfl hs (fun w hs => Yb 0 ag23 hs rfl rfl rfl) <| Fy 5 sh rfl hs (fun w hs => Yb 1 ag133 hs rfl rfl rfl) <| F1 2 sh rfl (fun aq aj => ?_)
  obtain ⟨af, ab, H⟩ := bnd H
  refine Oc rfl (book_joinings.c hs ab) (fun ar w hpost => ?_)
  obtain ⟨au, av, ak, rfl, aa, hs, al⟩ := hpost
  refine O_nil (aj _ _ (fun _ _ => ((hs.less aa).sub (ssk (ssc (ssc ssr))))) ?_)
  obtain ⟨aw, ac, hs, am⟩ := hs.rowEnd (j := 0) al rfl
  have ad := aa.trans ac
  refine Fp 3 sh rfl (fun w => Y_lenR un22 am rfl) <| Fp 4 sh rfl (fun w => Y_sub rfl rfl) <| F1 6 sh rfl (fun ax an => ?_)
  obtain ⟨ag, ae, H⟩ := bnd H
  refine Oc rfl (book_values_bpe.c hs (g0_7.mono ad) ae) (fun ay w hpost => ?_)
  obtain ⟨rfl, hs⟩ := hpost
  refine O_nil (an _ _ (fun _ _ => (hs.less ad)) <| Fp 7 sh rfl (fun w => Y_assign rfl) <| FE sh (ai _ _ <| W_ret ?_))
  obtain rfl := sinj H
  exact r1 rfl ⟨rfl, (hs.less ad)⟩

def book_rising_api_Span_and.j1 (ak : Int → Int → Option Int) (aa : Int) (ae : Spn) (ab : Bool) : Option Int := if ab = true then (some aa) else (ak ae.hi (IntKind.i64.wrap (aa + 1)))
def book_rising_api_Span_and.l1 : Nat → List Spn → Int → Int → Option Int
  | 0, _, _, _ => none
  | ac + 1, x0, ad, aa => if aa < (x0.length : Int) then (if (0 : Int) ≤ aa ∧ aa < (x0.length : Int) then ((book_ofSpan.f (rd x0 aa)).bind fun ae => (if ae.lo ≤ ad then (book_rising_api_Span_and.j1 (book_rising_api_Span_and.l1 ac x0) aa ae true) else (if ae.hi < ae.lo then (book_rising_api_Span_and.j1 (book_rising_api_Span_and.l1 ac x0) aa ae true) else (if 1114111 < ae.hi then (book_rising_api_Span_and.j1 (book_rising_api_Span_and.l1 ac x0) aa ae true) else ((book_Check_1.f (rd x0 aa)).bind fun al => (book_rising_api_Span_and.j1 (book_rising_api_Span_and.l1 ac x0) aa ae (!al))))))) else none) else (some (-1))
def book_rising_api_Span_and.f (x0 : List Spn) : Option Int := if 65536 < (x0.length : Int) then (some 65536) else (book_rising_api_Span_and.l1 K0 x0 (-1) 0)
theorem book_rising_api_Span_and.c (hs : St w0 ρ (Γ) w) {v0 : Value} {x0 : List Spn} (h0 : SlR rSpn ρ v0 x0) {r : Int} (H : book_rising_api_Span_and.f x0 = some r) : CallsR Tryz.prog 103 [v0, .func (.func 104) #[] #[], .func (.func 87) #[] #[]] w (fun v w' => v = .int .i64 r ∧ St w0 ρ Γ w') := by
  rw [book_rising_api_Span_and.f] at H
  refine Et Tryz.func103 Tryz.ntmps103 rfl <| Wr fun bt a6 => As rfl <| Ox a6 <| W_seq fun bu a7 => Wr fun bv a8 => Mv rfl <| O_y rfl (Y_lenR un25 h0 rfl) <| Ogt rfl <| Ox a8 <| W_if rfl (fun av => ?_) (fun av => ?_)
  ·rw [if_pos av] at H
   refine Wr fun bw a9 => As rfl <| Ox a9 <| W_ret ?_
   obtain rfl := sinj H
   exact r1 rfl ⟨rfl, hs⟩
  ·rw [if_neg av] at H
   refine Wx a7 <| Wr fun bx ba => As rfl <| Ox ba <| W_seq fun bz bb => Wr fun b0 bc => Mv rfl <| O_y rfl (Y_lenR un25 h0 rfl) <| Mv rfl <| Ox bc <| W_block fun b1 bd b2 => W_loop (σ := Nat × Int × Int × Hp) (fun (ac, ad, aa, ag) => [(1, .func (.func 104) #[] #[]), (2, .func (.func 87) #[] #[]), (7, .int .i32 ad), (14, v0), (15, .int .i64 (x0.length : Int)), (16, .int .i64 aa)]) (fun (ac, ad, aa, ag) w => book_rising_api_Span_and.l1 ac x0 ad aa = some r ∧ Le ρ ag ∧ St w0 ag (Γ) w) (fun s => s.1) (K0, (-1), 0, ρ) sbn (Ai H (Ai (Le.rfl' _) hs)) ?_
   rintro ⟨ac, ad, aa, ag⟩ w b3 ⟨H, af, hs⟩ am
   show W _ _ _ _ _ _ [(1, .func (.func 104) #[] #[]), (2, .func (.func 87) #[] #[]), (7, .int .i32 ad), (14, v0), (15, .int .i64 (x0.length : Int)), (16, .int .i64 aa)] w
   cases ac with
   | zero => rw [book_rising_api_Span_and.l1] at H; cases H
   | succ ac =>
   rw [book_rising_api_Span_and.l1] at H
   refine Wr fun b4 be => Ols rfl <| Ox be <| W_seq fun b5 bf => W_if rfl (fun aw => ?_) (fun aw => ?_)
   ·rw [if_pos aw] at H
    refine Wx bf <| W_seq fun b6 bg => W_block fun b7 b8 b9 => Wr fun ca bh => Mv rfl ?_
    obtain ⟨a4, H⟩ := gd H
    obtain ⟨cb, cc, bi, bj⟩ := (h0.mono af).ix el25 a4.1 a4.2
    obtain ⟨_, rfl, bk⟩ := bi
    refine O_y rfl (bj rfl rfl) <| O_y rfl (Y_loadN ag129 sz129 rfl rfl (fun j u hu => hs.see (bk j u hu))) <| O_alloc zr129 hs rfl (fun bl w hs => As rfl <| O_storeN (i := 0) sz129 hs rfl rfl rfl rfl rfl (one_cons rfl (one_cons rfl one_nil)) (fun w hs => Ox bh <| Wr fun cd bm => Mv rfl <| O_y rfl (Y_loadbN (i := 0) ag129 sz129 hs rfl rfl rfl rfl) ?_))
    obtain ⟨ae, ax, H⟩ := bnd H
    refine O_callv rfl rfl rfl (book_ofSpan.c hs rfl ax) (fun ce w hpost => ?_)
    obtain ⟨a5, bn, rfl, aj, hs, bo⟩ := hpost
    have ay := bo
    obtain rfl := ay
    refine O_alloc zr129 hs rfl (fun ar w hs => O_storeN (i := 0) sz129 hs rfl rfl rfl rfl rfl (one_cons rfl (one_cons rfl one_nil)) (fun w hs => Ox bm <| W.weak [(1, _), (2, _), (7, _), (8, _), (9, _), (10, _), (14, _), (15, _), (16, _)] sbn ?_))
    refine W_seq fun bp az => W_seqj fun a0 a1 ah => ?_
    have ai : ∀ (ab : Bool) (w : World), book_rising_api_Span_and.j1 (book_rising_api_Span_and.l1 ac x0) aa ae ab = some r → St w0 a5 ((.box ar 129 ([.int .i32 ae.lo, .int .i32 ae.hi])) :: (.box bl 129 ([.int .i32 ((rd x0 aa).lo), .int .i32 ((rd x0 aa).hi)])) :: Γ) w → a0 [(1, .func (.func 104) #[] #[]), (2, .func (.func 87) #[] #[]), (8, .int .i64 aa), (10, .pointer (some ⟨ar, 0, none⟩)), (14, v0), (15, .int .i64 (x0.length : Int)), (16, .int .i64 aa), (45, .bool ab)] w := by
     intro ab w H hs
     rw [book_rising_api_Span_and.j1] at H
     refine a1 _ _ <| W_cond rfl (fun an => ?_) (fun an => ?_)
     ·rw [if_pos an] at H
      refine Wr fun bq a2 => Mv rfl <| As rfl <| Ox a2 <| W_ret ?_
      obtain rfl := sinj H
      exact r1 rfl ⟨rfl, ((hs.sub (ssk (ssk ssr))).less (af.trans aj))⟩
     ·rw [if_neg (bft an)] at H
      refine Wx az <| W_region <| Ofd fo129_1 rfl <| Obx 0 ag21 hs rfl <| As rfl <| Ox bg <| W_region <| Oad rfl <| Mv rfl <| O_nil (am (ac, ae.hi, (IntKind.i64.wrap (aa + 1)), a5) _ _ sbn (Ai H (Ai (af.trans aj) (hs.sub (ssk (ssk ssr))))) (Nat.lt_succ_self _))
    refine W_region <| Ofd fo129_0 rfl <| Obx 0 ag21 hs rfl <| Mv rfl <| Ole rfl <| Mv rfl <| O_if (dj := 28) rfl (fun ao => ?_) (fun ao => ?_)
    ·rw [if_pos ao] at H
     refine On rfl <| On rfl <| On rfl <| On rfl <| On rfl <| Opk rfl <| Mv rfl <| On rfl <| On rfl <| On rfl <| Opk rfl <| Mv rfl <| On rfl <| On rfl ?_
     refine On rfl <| On rfl <| Opk rfl <| O_nil (ah _ _ _ sbn (ai true _ H hs))
    ·rw [if_neg ao] at H
     refine Oe rfl <| Ofd fo129_1 rfl <| Oe rfl <| Obx 0 ag21 hs rfl <| Oe rfl <| Ofd fo129_0 rfl <| Oe rfl <| Obx 0 ag21 hs rfl <| Oe rfl <| Ols rfl <| Opk rfl <| Mv rfl <| O_if (dj := 35) rfl (fun ap => ?_) (fun ap => ?_)
     ·rw [if_pos ap] at H
      refine On rfl <| On rfl <| On rfl <| Opk rfl <| Mv rfl <| On rfl <| On rfl <| On rfl <| On rfl <| Opk rfl <| O_nil (ah _ _ _ sbn (ai true _ H hs))
     ·rw [if_neg ap] at H
      refine Oe rfl <| Ofd fo129_1 rfl <| Oe rfl <| Obx 0 ag21 hs rfl <| Oe rfl <| Ogt rfl <| Opk rfl <| Mv rfl <| O_if (dj := 40) rfl (fun aq => ?_) (fun aq => ?_)
      ·rw [if_pos aq] at H
       refine On rfl <| On rfl <| On rfl <| On rfl <| Opk rfl <| O_nil (ah _ _ _ sbn (ai true _ H hs))
      ·rw [if_neg aq] at H
       refine Oe rfl <| Mv rfl <| Oe rfl <| O_y rfl (Y_loadbN (i := 1) ag129 sz129 hs rfl rfl rfl rfl) <| Oe rfl ?_
       obtain ⟨al, au, H⟩ := bnd H
       refine O_callv rfl rfl rfl (book_Check_1.c hs rfl au) (fun br w hpost => ?_)
       obtain ⟨rfl, hs⟩ := hpost
       refine Oe rfl <| Ont rfl <| Opk rfl <| O_nil (ah _ _ _ sbn (ai (!al) _ H hs))
   ·rw [if_neg aw] at H
    refine W_exit (bd _ _ (bb _ _ <| Wr fun bs a3 => As rfl <| Ox a3 <| W_ret ?_))
    obtain rfl := sinj H
    exact r1 rfl ⟨rfl, (hs.less af)⟩

def book_Check_12_ion.f (y0_0 : List ByteArray) (y0_1 : List Val) (y0_2 : List Chs) (y0_3 : List Val) (y0_4 : List Chs) (y0_5 : List Spn) (y0_6 y0_7 : List Val) (y0_8 : List Spn) (y0_9 : List Val) (y0_10 : List Chs) : Option Int := (book_rising_api_Span_and.f y0_8).bind fun ab => (some ab)
theorem book_Check_12_ion.c {pb0 : Nat} {w0_0 : Value} {y0_0 : List ByteArray} {w0_1 : Value} {y0_1 : List Val} {w0_2 : Value} {y0_2 : List Chs} {w0_3 : Value} {y0_3 : List Val} {w0_4 : Value} {y0_4 : List Chs} {w0_5 : Value} {y0_5 : List Spn} {w0_6 : Value} {y0_6 : List Val} {w0_7 : Value} {y0_7 : List Val} {w0_8 : Value} {y0_8 : List Spn} {w0_9 : Value} {y0_9 : List Val} {w0_10 : Value} {y0_10 : List Chs} {pb1 : Nat} (hs : St w0 ρ ((.box pb0 27 ([w0_0, w0_1, w0_2, w0_3, w0_4, w0_5, w0_6, w0_7, w0_8, w0_9, w0_10])) :: (.box pb1 133 ([.func (.func 87) #[] #[]])) :: Γ) w) (g0_0 : SlR Rep.str ρ w0_0 y0_0) (g0_1 : SlR rVal ρ w0_1 y0_1) (g0_2 : SlR rChs ρ w0_2 y0_2) (g0_3 : SlR rVal ρ w0_3 y0_3) (g0_4 : SlR rChs ρ w0_4 y0_4) (g0_5 : SlR rSpn ρ w0_5 y0_5) (g0_6 : SlR rVal ρ w0_6 y0_6) (g0_7 : SlR rVal ρ w0_7 y0_7) (g0_8 : SlR rSpn ρ w0_8 y0_8) (g0_9 : SlR rVal ρ w0_9 y0_9) (g0_10 : SlR rChs ρ w0_10 y0_10) {r : Int} (H : book_Check_12_ion.f y0_0 y0_1 y0_2 y0_3 y0_4 y0_5 y0_6 y0_7 y0_8 y0_9 y0_10 = some r) : CallsR Tryz.prog 109 [.pointer (some ⟨pb0, 0, none⟩), .pointer (some ⟨pb1, 0, none⟩)] w (fun v w' => v = .int .i64 r ∧ St w0 ρ ((.box pb0 27 ([w0_0, w0_1, w0_2, w0_3, w0_4, w0_5, w0_6, w0_7, w0_8, w0_9, w0_10])) :: (.box pb1 133 ([.func (.func 87) #[] #[]])) :: Γ) w') := by
  rw [book_Check_12_ion.f] at H
  refine Et Tryz.func109 Tryz.ntmps109 rfl <| Wr fun ae ac => As rfl <| Ox ac <| Wr fun af ad => Ofd fo27_8 rfl <| Obx 0 ag25 hs rfl <| Obx 1 ag133 hs rfl ?_
  obtain ⟨ab, aa, H⟩ := bnd H
  refine Oc rfl (book_rising_api_Span_and.c hs g0_8 aa) (fun ag w hpost => ?_)
  obtain ⟨rfl, hs⟩ := hpost
  refine As rfl <| Ox ad <| W_ret ?_
  obtain rfl := sinj H
  exact r1 rfl ⟨rfl, hs⟩

def book_Check_13_ion.f (y0_0 : List ByteArray) (y0_1 : List Val) (y0_2 : List Chs) (y0_3 : List Val) (y0_4 : List Chs) (y0_5 : List Spn) (y0_6 y0_7 : List Val) (y0_8 : List Spn) (y0_9 : List Val) (y0_10 : List Chs) : Option Int := (book_values_bpe.f y0_9 1 (y0_0.length : Int)).bind fun ab => (some ab)
theorem book_Check_13_ion.c {pb0 : Nat} {w0_0 : Value} {y0_0 : List ByteArray} {w0_1 : Value} {y0_1 : List Val} {w0_2 : Value} {y0_2 : List Chs} {w0_3 : Value} {y0_3 : List Val} {w0_4 : Value} {y0_4 : List Chs} {w0_5 : Value} {y0_5 : List Spn} {w0_6 : Value} {y0_6 : List Val} {w0_7 : Value} {y0_7 : List Val} {w0_8 : Value} {y0_8 : List Spn} {w0_9 : Value} {y0_9 : List Val} {w0_10 : Value} {y0_10 : List Chs} {pb1 : Nat} (hs : St w0 ρ ((.box pb0 27 ([w0_0, w0_1, w0_2, w0_3, w0_4, w0_5, w0_6, w0_7, w0_8, w0_9, w0_10])) :: (.box pb1 133 ([.func (.func 87) #[] #[]])) :: Γ) w) (g0_0 : SlR Rep.str ρ w0_0 y0_0) (g0_1 : SlR rVal ρ w0_1 y0_1) (g0_2 : SlR rChs ρ w0_2 y0_2) (g0_3 : SlR rVal ρ w0_3 y0_3) (g0_4 : SlR rChs ρ w0_4 y0_4) (g0_5 : SlR rSpn ρ w0_5 y0_5) (g0_6 : SlR rVal ρ w0_6 y0_6) (g0_7 : SlR rVal ρ w0_7 y0_7) (g0_8 : SlR rSpn ρ w0_8 y0_8) (g0_9 : SlR rVal ρ w0_9 y0_9) (g0_10 : SlR rChs ρ w0_10 y0_10) {r : Int} (H : book_Check_13_ion.f y0_0 y0_1 y0_2 y0_3 y0_4 y0_5 y0_6 y0_7 y0_8 y0_9 y0_10 = some r) : CallsR Tryz.prog 110 [.pointer (some ⟨pb0, 0, none⟩), .pointer (some ⟨pb1, 0, none⟩)] w (fun v w' => v = .int .i64 r ∧ St w0 ρ ((.box pb0 27 ([w0_0, w0_1, w0_2, w0_3, w0_4, w0_5, w0_6, w0_7, w0_8, w0_9, w0_10])) :: (.box pb1 133 ([.func (.func 87) #[] #[]])) :: Γ) w') := by
  rw [book_Check_13_ion.f] at H
  refine Et Tryz.func110 Tryz.ntmps110 rfl <| Wr fun ae ac => As rfl <| Ox ac <| Wr fun af ad => Ofd fo27_9 rfl <| Obx 0 ag23 hs rfl <| Ofd fo27_0 rfl <| Obx 0 ag22 hs rfl <| O_y rfl (Y_lenR un22 g0_0 rfl) <| Obx 1 ag133 hs rfl ?_
  obtain ⟨ab, aa, H⟩ := bnd H
  refine Oc rfl (book_values_bpe.c hs g0_9 aa) (fun ag w hpost => ?_)
  obtain ⟨rfl, hs⟩ := hpost
  refine As rfl <| Ox ad <| W_ret ?_
  obtain rfl := sinj H
  exact r1 rfl ⟨rfl, hs⟩

def book_Check_3.f (x0 : Chs) : Option Bool := (book_scalars.f x0.is_ 1 18).bind fun ab => (some ab)
theorem book_Check_3.c (hs : St w0 ρ (Γ) w) {c0 : List Value} {x0 : Chs} (h0 : rChs.R ρ c0 x0) {r : Bool} (H : book_Check_3.f x0 = some r) : CallsR Tryz.prog 90 [.agg c0.toArray] w (fun v w' => v = .bool r ∧ St w0 ρ Γ w') := by
  rw [book_Check_3.f] at H
  refine Et Tryz.func90 Tryz.ntmps90 rfl ?_
  have ac := h0
  obtain ⟨ad, rfl, ae⟩ := ac
  refine Wr fun ah af => O_boxN (cs := [.int .i32 x0.lo, .int .i32 x0.hi, ad]) hs rfl rfl (fun ai w hs => As rfl <| Ox af <| Wr fun aj ag => Ofd fo110_2 rfl <| Obx 0 ag28 hs rfl ?_)
  obtain ⟨ab, aa, H⟩ := bnd H
  refine Oc rfl (book_scalars.c hs ae aa) (fun ak w hpost => ?_)
  obtain ⟨rfl, hs⟩ := hpost
  refine As rfl <| Ox ag <| W_ret ?_
  obtain rfl := sinj H
  exact r1 rfl ⟨rfl, (hs.sub (ssk ssr))⟩

def book_rising_api_Chars_hdj.j1 (ak : Int → Int → Option Int) (aa : Int) (ae : Spn) (ab : Bool) : Option Int := if ab = true then (some aa) else (ak ae.hi (IntKind.i64.wrap (aa + 1)))
def book_rising_api_Chars_hdj.l1 : Nat → List Chs → Int → Int → Option Int
  | 0, _, _, _ => none
  | ac + 1, x0, ad, aa => if aa < (x0.length : Int) then (if (0 : Int) ≤ aa ∧ aa < (x0.length : Int) then ((book_ofChars.f (rd x0 aa)).bind fun ae => (if ae.lo ≤ ad then (book_rising_api_Chars_hdj.j1 (book_rising_api_Chars_hdj.l1 ac x0) aa ae true) else (if ae.hi < ae.lo then (book_rising_api_Chars_hdj.j1 (book_rising_api_Chars_hdj.l1 ac x0) aa ae true) else (if 1114111 < ae.hi then (book_rising_api_Chars_hdj.j1 (book_rising_api_Chars_hdj.l1 ac x0) aa ae true) else ((book_Check_3.f (rd x0 aa)).bind fun al => (book_rising_api_Chars_hdj.j1 (book_rising_api_Chars_hdj.l1 ac x0) aa ae (!al))))))) else none) else (some (-1))
def book_rising_api_Chars_hdj.f (x0 : List Chs) : Option Int := if 65536 < (x0.length : Int) then (some 65536) else (book_rising_api_Chars_hdj.l1 K0 x0 (-1) 0)
theorem book_rising_api_Chars_hdj.c (hs : St w0 ρ (Γ) w) {v0 : Value} {x0 : List Chs} (h0 : SlR rChs ρ v0 x0) {r : Int} (H : book_rising_api_Chars_hdj.f x0 = some r) : CallsR Tryz.prog 100 [v0, .func (.func 66) #[] #[], .func (.func 90) #[] #[]] w (fun v w' => v = .int .i64 r ∧ St w0 ρ Γ w') := by
  rw [book_rising_api_Chars_hdj.f] at H
  refine Et Tryz.func100 Tryz.ntmps100 rfl <| Wr fun bv a8 => As rfl <| Ox a8 <| W_seq fun bw a9 => Wr fun bx ba => Mv rfl <| O_y rfl (Y_lenR un24 h0 rfl) <| Ogt rfl <| Ox ba <| W_if rfl (fun aw => ?_) (fun aw => ?_)
  ·rw [if_pos aw] at H
   refine Wr fun bz bb => As rfl <| Ox bb <| W_ret ?_
   obtain rfl := sinj H
   exact r1 rfl ⟨rfl, hs⟩
  ·rw [if_neg aw] at H
   refine Wx a9 <| Wr fun b0 bc => As rfl <| Ox bc <| W_seq fun b1 bd => Wr fun b2 be => Mv rfl <| O_y rfl (Y_lenR un24 h0 rfl) <| Mv rfl <| Ox be <| W_block fun b3 bf b4 => W_loop (σ := Nat × Int × Int × Hp) (fun (ac, ad, aa, ah) => [(1, .func (.func 66) #[] #[]), (2, .func (.func 90) #[] #[]), (7, .int .i32 ad), (14, v0), (15, .int .i64 (x0.length : Int)), (16, .int .i64 aa)]) (fun (ac, ad, aa, ah) w => book_rising_api_Chars_hdj.l1 ac x0 ad aa = some r ∧ Le ρ ah ∧ St w0 ah (Γ) w) (fun s => s.1) (K0, (-1), 0, ρ) sbn (Ai H (Ai (Le.rfl' _) hs)) ?_
   rintro ⟨ac, ad, aa, ah⟩ w b5 ⟨H, af, hs⟩ am
   show W _ _ _ _ _ _ [(1, .func (.func 66) #[] #[]), (2, .func (.func 90) #[] #[]), (7, .int .i32 ad), (14, v0), (15, .int .i64 (x0.length : Int)), (16, .int .i64 aa)] w
   cases ac with
   | zero => rw [book_rising_api_Chars_hdj.l1] at H; cases H
   | succ ac =>
   rw [book_rising_api_Chars_hdj.l1] at H
   refine Wr fun b6 bg => Ols rfl <| Ox bg <| W_seq fun b7 bh => W_if rfl (fun ax => ?_) (fun ax => ?_)
   ·rw [if_pos ax] at H
    refine Wx bh <| W_seq fun b8 bi => W_block fun b9 ca cb => Wr fun cc bj => Mv rfl ?_
    obtain ⟨a7, H⟩ := gd H
    obtain ⟨cd, ce, bk, bl⟩ := (h0.mono af).ix el24 a7.1 a7.2
    obtain ⟨_, ⟨bm, rfl, ay⟩, bn⟩ := bk
    refine O_y rfl (bl rfl rfl) <| O_y rfl (Y_loadN ag110 sz110 rfl rfl (fun j u hu => hs.see (bn j u hu))) <| O_alloc zr110 hs rfl (fun bo w hs => As rfl <| O_storeN (i := 0) sz110 hs rfl rfl rfl rfl rfl (one_cons rfl (one_cons rfl (one_cons ay.one one_nil))) (fun w hs => Ox bj <| Wr fun cf bp => Mv rfl <| O_y rfl (Y_loadbN (i := 0) ag110 sz110 hs rfl rfl rfl rfl) ?_))
    obtain ⟨ae, az, H⟩ := bnd H
    refine O_callv rfl rfl rfl (book_ofChars.c hs ⟨_, rfl, ay⟩ az) (fun cg w hpost => ?_)
    obtain ⟨ar, bq, rfl, ag, hs, a0⟩ := hpost
    have a1 := a0
    obtain rfl := a1
    refine O_alloc zr129 hs rfl (fun au w hs => O_storeN (i := 0) sz129 hs rfl rfl rfl rfl rfl (one_cons rfl (one_cons rfl one_nil)) (fun w hs => Ox bp <| W.weak [(1, _), (2, _), (7, _), (8, _), (9, _), (10, _), (14, _), (15, _), (16, _)] sbn ?_))
    refine W_seq fun br a2 => W_seqj fun a3 a4 ai => ?_
    have aj : ∀ (ab : Bool) (w : World), book_rising_api_Chars_hdj.j1 (book_rising_api_Chars_hdj.l1 ac x0) aa ae ab = some r → St w0 ar ((.box au 129 ([.int .i32 ae.lo, .int .i32 ae.hi])) :: (.box bo 110 ([.int .i32 ((rd x0 aa).lo), .int .i32 ((rd x0 aa).hi), bm])) :: Γ) w → a3 [(1, .func (.func 66) #[] #[]), (2, .func (.func 90) #[] #[]), (8, .int .i64 aa), (10, .pointer (some ⟨au, 0, none⟩)), (14, v0), (15, .int .i64 (x0.length : Int)), (16, .int .i64 aa), (45, .bool ab)] w := by
     intro ab w H hs
     rw [book_rising_api_Chars_hdj.j1] at H
     refine a4 _ _ <| W_cond rfl (fun an => ?_) (fun an => ?_)
     ·rw [if_pos an] at H
      refine Wr fun bs a5 => Mv rfl <| As rfl <| Ox a5 <| W_ret ?_
      obtain rfl := sinj H
      exact r1 rfl ⟨rfl, ((hs.sub (ssk (ssk ssr))).less (af.trans ag))⟩
     ·rw [if_neg (bft an)] at H
      refine Wx a2 <| W_region <| Ofd fo129_1 rfl <| Obx 0 ag21 hs rfl <| As rfl <| Ox bi <| W_region <| Oad rfl <| Mv rfl <| O_nil (am (ac, ae.hi, (IntKind.i64.wrap (aa + 1)), ar) _ _ sbn (Ai H (Ai (af.trans ag) (hs.sub (ssk (ssk ssr))))) (Nat.lt_succ_self _))
    refine W_region <| Ofd fo129_0 rfl <| Obx 0 ag21 hs rfl <| Mv rfl <| Ole rfl <| Mv rfl <| O_if (dj := 28) rfl (fun ao => ?_) (fun ao => ?_)
    ·rw [if_pos ao] at H
     refine On rfl <| On rfl <| On rfl <| On rfl <| On rfl <| Opk rfl <| Mv rfl <| On rfl <| On rfl <| On rfl <| Opk rfl <| Mv rfl <| On rfl <| On rfl ?_
     refine On rfl <| On rfl <| Opk rfl <| O_nil (ai _ _ _ sbn (aj true _ H hs))
    ·rw [if_neg ao] at H
     refine Oe rfl <| Ofd fo129_1 rfl <| Oe rfl <| Obx 0 ag21 hs rfl <| Oe rfl <| Ofd fo129_0 rfl <| Oe rfl <| Obx 0 ag21 hs rfl <| Oe rfl <| Ols rfl <| Opk rfl <| Mv rfl <| O_if (dj := 35) rfl (fun ap => ?_) (fun ap => ?_)
     ·rw [if_pos ap] at H
      refine On rfl <| On rfl <| On rfl <| Opk rfl <| Mv rfl <| On rfl <| On rfl <| On rfl <| On rfl <| Opk rfl <| O_nil (ai _ _ _ sbn (aj true _ H hs))
     ·rw [if_neg ap] at H
      refine Oe rfl <| Ofd fo129_1 rfl <| Oe rfl <| Obx 0 ag21 hs rfl <| Oe rfl <| Ogt rfl <| Opk rfl <| Mv rfl <| O_if (dj := 40) rfl (fun aq => ?_) (fun aq => ?_)
      ·rw [if_pos aq] at H
       refine On rfl <| On rfl <| On rfl <| On rfl <| Opk rfl <| O_nil (ai _ _ _ sbn (aj true _ H hs))
      ·rw [if_neg aq] at H
       refine Oe rfl <| Mv rfl <| Oe rfl <| O_y rfl (Y_loadbN (i := 1) ag110 sz110 hs rfl rfl rfl rfl) <| Oe rfl ?_
       obtain ⟨al, av, H⟩ := bnd H
       refine O_callv rfl rfl rfl (book_Check_3.c hs ⟨_, rfl, (ay.mono ag)⟩ av) (fun bt w hpost => ?_)
       obtain ⟨rfl, hs⟩ := hpost
       refine Oe rfl <| Ont rfl <| Opk rfl <| O_nil (ai _ _ _ sbn (aj (!al) _ H hs))
   ·rw [if_neg ax] at H
    refine W_exit (bf _ _ (bd _ _ <| Wr fun bu a6 => As rfl <| Ox a6 <| W_ret ?_))
    obtain rfl := sinj H
    exact r1 rfl ⟨rfl, (hs.less af)⟩

def book_Check_14_gdi.f (y0_0 : List ByteArray) (y0_1 : List Val) (y0_2 : List Chs) (y0_3 : List Val) (y0_4 : List Chs) (y0_5 : List Spn) (y0_6 y0_7 : List Val) (y0_8 : List Spn) (y0_9 : List Val) (y0_10 : List Chs) : Option Int := (book_rising_api_Chars_hdj.f y0_10).bind fun ab => (some ab)
theorem book_Check_14_gdi.c {pb0 : Nat} {w0_0 : Value} {y0_0 : List ByteArray} {w0_1 : Value} {y0_1 : List Val} {w0_2 : Value} {y0_2 : List Chs} {w0_3 : Value} {y0_3 : List Val} {w0_4 : Value} {y0_4 : List Chs} {w0_5 : Value} {y0_5 : List Spn} {w0_6 : Value} {y0_6 : List Val} {w0_7 : Value} {y0_7 : List Val} {w0_8 : Value} {y0_8 : List Spn} {w0_9 : Value} {y0_9 : List Val} {w0_10 : Value} {y0_10 : List Chs} {pb1 : Nat} (hs : St w0 ρ ((.box pb0 27 ([w0_0, w0_1, w0_2, w0_3, w0_4, w0_5, w0_6, w0_7, w0_8, w0_9, w0_10])) :: (.box pb1 135 ([.func (.func 90) #[] #[]])) :: Γ) w) (g0_0 : SlR Rep.str ρ w0_0 y0_0) (g0_1 : SlR rVal ρ w0_1 y0_1) (g0_2 : SlR rChs ρ w0_2 y0_2) (g0_3 : SlR rVal ρ w0_3 y0_3) (g0_4 : SlR rChs ρ w0_4 y0_4) (g0_5 : SlR rSpn ρ w0_5 y0_5) (g0_6 : SlR rVal ρ w0_6 y0_6) (g0_7 : SlR rVal ρ w0_7 y0_7) (g0_8 : SlR rSpn ρ w0_8 y0_8) (g0_9 : SlR rVal ρ w0_9 y0_9) (g0_10 : SlR rChs ρ w0_10 y0_10) {r : Int} (H : book_Check_14_gdi.f y0_0 y0_1 y0_2 y0_3 y0_4 y0_5 y0_6 y0_7 y0_8 y0_9 y0_10 = some r) : CallsR Tryz.prog 111 [.pointer (some ⟨pb0, 0, none⟩), .pointer (some ⟨pb1, 0, none⟩)] w (fun v w' => v = .int .i64 r ∧ St w0 ρ ((.box pb0 27 ([w0_0, w0_1, w0_2, w0_3, w0_4, w0_5, w0_6, w0_7, w0_8, w0_9, w0_10])) :: (.box pb1 135 ([.func (.func 90) #[] #[]])) :: Γ) w') := by
  rw [book_Check_14_gdi.f] at H
  refine Et Tryz.func111 Tryz.ntmps111 rfl <| Wr fun ae ac => As rfl <| Ox ac <| Wr fun af ad => Ofd fo27_10 rfl <| Obx 0 ag24 hs rfl <| Obx 1 ag135 hs rfl ?_
  obtain ⟨ab, aa, H⟩ := bnd H
  refine Oc rfl (book_rising_api_Chars_hdj.c hs g0_10 aa) (fun ag w hpost => ?_)
  obtain ⟨rfl, hs⟩ := hpost
  refine As rfl <| Ox ad <| W_ret ?_
  obtain rfl := sinj H
  exact r1 rfl ⟨rfl, hs⟩

def book_tree_length_bjo.j1 (ah : (List (Int × Int)) → Int → Int → Option (Int × (List (Int × Int)))) (ad aa : Int) (ac : List (Int × Int)) (ae : Int) : Option (Int × (List (Int × Int))) := if ae = 0 then (some (0, ac)) else (ah ac (IntKind.i64.wrap (ad + ae)) (IntKind.i64.wrap (aa + 1)))
def book_tree_length_bjo.l1 : Nat → (Int → List Chs → (List (Int × Int)) → (List (Int × Int)) → Option (Int × (List (Int × Int)))) → List Chs → (List (Int × Int)) → Int → (List (Int × Int)) → Int → Int → Option (Int × (List (Int × Int)))
  | 0, _, _, _, _, _, _, _ => none
  | af + 1, rec, y0_0, y1, x1, ab, ad, aa => if aa < (((rd y0_0 x1).is_).length : Int) then (if (0 : Int) ≤ aa ∧ aa < (((rd y0_0 x1).is_).length : Int) then (if ((mget y1 (rd ((rd y0_0 x1).is_) aa)).isSome) = true then ((rec ((mget y1 (rd ((rd y0_0 x1).is_) aa)).getD 0) y0_0 y1 ab).bind fun ag => (book_tree_length_bjo.j1 (book_tree_length_bjo.l1 af rec y0_0 y1 x1) ad aa ag.2 ag.1)) else (book_tree_length_bjo.j1 (book_tree_length_bjo.l1 af rec y0_0 y1 x1) ad aa ab 1)) else none) else (if 18 < ad then (some (0, ab)) else (some (ad, mput ab x1 ad)))
def book_tree_length_bjo.b (rec : Int → List Chs → (List (Int × Int)) → (List (Int × Int)) → Option (Int × (List (Int × Int)))) (x1 : Int) (y0_0 : List Chs) (y1 : List (Int × Int)) (y2 : List (Int × Int)) : Option (Int × (List (Int × Int))) := if ((mget y2 x1).isSome) = true then (some ((mget y2 x1).getD 0, y2)) else (if (0 : Int) ≤ x1 ∧ x1 < (y0_0.length : Int) then (book_tree_length_bjo.l1 K0 rec y0_0 y1 x1 (mput y2 x1 0) 0 0) else none)
def book_tree_length_bjo.f : Nat → Int → List Chs → (List (Int × Int)) → (List (Int × Int)) → Option (Int × (List (Int × Int)))
  | 0, _, _, _, _ => none
  | k + 1, x1, y0_0, y1, y2 => book_tree_length_bjo.b (book_tree_length_bjo.f k) x1 y0_0 y1 y2
def book_tree_length_bjo.Spec (rec : Int → List Chs → (List (Int × Int)) → (List (Int × Int)) → Option (Int × (List (Int × Int)))) : Prop := ∀ {w0 w : World} {ρ : Hp} {Γ : List Item} {pb0 : Nat} {w0_0 : Value} {y0_0 : List Chs} {pm1 : Nat} {y1 : List (Int × Int)} {pm2 : Nat} {y2 : List (Int × Int)} (hs : St w0 ρ ((.box pb0 184 ([w0_0, .map (some pm1), .map (some pm2)])) :: (.obj pm1 (mapObj (KeyK.int un21).enc (vs (Value.int .i64) y1))) :: (.obj pm2 (mapObj (KeyK.int un3).enc (vs (Value.int .i64) y2))) :: Γ) w) {x1 : Int} (g0_0 : SlR rChs ρ w0_0 y0_0) {r : Int × (List (Int × Int))}, rec x1 y0_0 y1 y2 = some r → CallsR Tryz.prog 149 [.pointer (some ⟨pb0, 0, none⟩), .int .i64 x1] w (fun v w' => v = .int .i64 r.1 ∧ St w0 ρ ((.box pb0 184 ([w0_0, .map (some pm1), .map (some pm2)])) :: (.obj pm1 (mapObj (KeyK.int un21).enc (vs (Value.int .i64) y1))) :: (.obj pm2 (mapObj (KeyK.int un3).enc (vs (Value.int .i64) r.2))) :: Γ) w')
theorem book_tree_length_bjo.cb (rec : Int → List Chs → (List (Int × Int)) → (List (Int × Int)) → Option (Int × (List (Int × Int)))) (hrec : book_tree_length_bjo.Spec rec) {w0 w : World} {ρ : Hp} {Γ : List Item} {pb0 : Nat} {w0_0 : Value} {y0_0 : List Chs} {pm1 : Nat} {y1 : List (Int × Int)} {pm2 : Nat} {y2 : List (Int × Int)} (hs : St w0 ρ ((.box pb0 184 ([w0_0, .map (some pm1), .map (some pm2)])) :: (.obj pm1 (mapObj (KeyK.int un21).enc (vs (Value.int .i64) y1))) :: (.obj pm2 (mapObj (KeyK.int un3).enc (vs (Value.int .i64) y2))) :: Γ) w) {x1 : Int} (g0_0 : SlR rChs ρ w0_0 y0_0) {r : Int × (List (Int × Int))} (H : book_tree_length_bjo.b rec x1 y0_0 y1 y2 = some r) : CallsR Tryz.prog 149 [.pointer (some ⟨pb0, 0, none⟩), .int .i64 x1] w (fun v w' => v = .int .i64 r.1 ∧ St w0 ρ ((.box pb0 184 ([w0_0, .map (some pm1), .map (some pm2)])) :: (.obj pm1 (mapObj (KeyK.int un21).enc (vs (Value.int .i64) y1))) :: (.obj pm2 (mapObj (KeyK.int un3).enc (vs (Value.int .i64) r.2))) :: Γ) w') := by
  rw [book_tree_length_bjo.b] at H
  refine Et Tryz.func149 Tryz.ntmps149 rfl <| Wr fun b6 bc => As rfl <| Ox bc <| W_seq fun b7 bd => Wr fun b8 be => Mv rfl <| Onp rfl <| Ofd fo184_2 rfl <| Obx 0 ag182 hs rfl <| Mv rfl <| O_y rfl (Y_mapGet2 (i := 2) (m := y2) (x := x1) (E := (Value.int .i64)) un182 (KeyK.int un3) trivial (fun _ _ => trivial) zv3 hs rfl rfl rfl) ?_
  refine Mv rfl <| Oxt rfl <| Oxt rfl <| As rfl <| As rfl <| Ox be <| Wr fun b9 bf => Mv rfl <| Ox bf <| W.weak [(0, _), (1, _), (5, _), (22, _)] (T4 rfl) <| W_cond rfl (fun ap => ?_) (fun ap => ?_)
  ·rw [if_pos ap] at H
   refine Wr fun ca bg => Mv rfl <| As rfl <| Ox bg <| W_ret ?_
   obtain rfl := sinj H
   exact r1 rfl ⟨rfl, hs⟩
  ·rw [if_neg (bft ap)] at H
   refine Wx bd <| Wr fun cc bh => Mv rfl <| Onp rfl <| Ofd fo184_2 rfl <| Obx 0 ag182 hs rfl <| Mv rfl <| O_mapPut (i := 2) (m := y2) (x := x1) (v := 0) (E := (Value.int .i64)) un182 (KeyK.int un3) trivial (fun _ _ => trivial) hs rfl rfl rfl rfl (fun w hs => Ox bh <| Wr fun cd bi => As rfl <| O_nil (bi _ _ ?_))
   refine W_seq fun ce bj => Wr fun cf bk => Mv rfl <| Onp rfl <| Ofd fo184_0 rfl <| Obx 0 ag24 hs rfl <| Mv rfl ?_
   obtain ⟨a9, H⟩ := gd H
   obtain ⟨cg, ch, bl, bm⟩ := g0_0.ix el24 a9.1 a9.2
   obtain ⟨_, ⟨aq, rfl, ba⟩, bn⟩ := bl
   refine O_y rfl (bm rfl rfl) <| Ofd fo110_2 rfl <| O_y rfl (Y_load ag28 rfl (hs.see (bn 2 _ rfl))) <| O_y rfl (Y_lenR un28 ba rfl) <| Mv rfl <| Ox bk <| W.weak [(0, _), (1, _), (7, _), (36, _), (37, _), (38, _)] sbn ?_
   refine W_block fun ci bo cj => W_loop (σ := Nat × (List (Int × Int)) × Int × Int) (fun (af, ab, ad, aa) => [(0, .pointer (some ⟨pb0, 0, none⟩)), (1, .int .i64 x1), (7, .int .i64 ad), (36, aq), (37, .int .i64 (((rd y0_0 x1).is_).length : Int)), (38, .int .i64 aa)]) (fun (af, ab, ad, aa) w => book_tree_length_bjo.l1 af rec y0_0 y1 x1 ab ad aa = some r ∧ St w0 ρ ((.box pb0 184 ([w0_0, .map (some pm1), .map (some pm2)])) :: (.obj pm1 (mapObj (KeyK.int un21).enc (vs (Value.int .i64) y1))) :: (.obj pm2 (mapObj (KeyK.int un3).enc (vs (Value.int .i64) ab))) :: Γ) w) (fun s => s.1) (K0, (mput y2 x1 0), 0, 0) sbn (Ai H hs) ?_
   rintro ⟨af, ab, ad, aa⟩ w ck ⟨H, hs⟩ ai
   show W _ _ _ _ _ _ [(0, .pointer (some ⟨pb0, 0, none⟩)), (1, .int .i64 x1), (7, .int .i64 ad), (36, aq), (37, .int .i64 (((rd y0_0 x1).is_).length : Int)), (38, .int .i64 aa)] w
   cases af with
   | zero => rw [book_tree_length_bjo.l1] at H; cases H
   | succ af =>
   rw [book_tree_length_bjo.l1] at H
   refine Wr fun cl bp => Ols rfl <| Ox bp <| W_seq fun cm bq => W_if rfl (fun ar => ?_) (fun ar => ?_)
   ·rw [if_pos ar] at H
    refine Wx bq <| W_seq fun cn br => W_block fun co cp cq => W_seq fun cr bs => W_region ?_
    obtain ⟨bb, H⟩ := gd H
    obtain ⟨cs, ct, au, av⟩ := ba.ix el28 bb.1 bb.2
    refine O_y rfl (av rfl rfl) <| O_y rfl (Y_load ag21 rfl (hs.see au.int)) <| As rfl <| Ox bs <| Wr fun bt aw => As rfl <| Ox aw <| W_seqj fun ax ay am => ?_
    have an : ∀ (ac : List (Int × Int)) (ae : Int) (w : World), book_tree_length_bjo.j1 (book_tree_length_bjo.l1 af rec y0_0 y1 x1) ad aa ac ae = some r → St w0 ρ ((.box pb0 184 ([w0_0, .map (some pm1), .map (some pm2)])) :: (.obj pm1 (mapObj (KeyK.int un21).enc (vs (Value.int .i64) y1))) :: (.obj pm2 (mapObj (KeyK.int un3).enc (vs (Value.int .i64) ac))) :: Γ) w → ax [(0, .pointer (some ⟨pb0, 0, none⟩)), (1, .int .i64 x1), (7, .int .i64 ad), (10, .int .i64 ae), (36, aq), (37, .int .i64 (((rd y0_0 x1).is_).length : Int)), (38, .int .i64 aa)] w := by
     intro ac ae w H hs
     rw [book_tree_length_bjo.j1] at H
     refine ay _ _ <| W_seq fun bu az => Wr fun bv a0 => Mv rfl <| Oeq rfl <| Ox a0 <| W_if rfl (fun aj => ?_) (fun aj => ?_)
     ·rw [if_pos aj] at H
      refine Wr fun bw a1 => As rfl <| Ox a1 <| W_ret ?_
      obtain rfl := sinj H
      exact r1 rfl ⟨rfl, hs⟩
     ·rw [if_neg aj] at H
      refine Wx az <| W_region <| Mv rfl <| Mv rfl <| Oad rfl <| As rfl <| Ox br <| W_region <| Oad rfl <| Mv rfl <| O_nil (ai (af, ac, (IntKind.i64.wrap (ad + ae)), (IntKind.i64.wrap (aa + 1))) _ _ sbn (Ai H hs) (Nat.lt_succ_self _))
    refine Wr fun bx a2 => Mv rfl <| Onp rfl <| Ofd fo184_1 rfl <| Obx 0 ag181 hs rfl <| Mv rfl <| O_y rfl (Y_mapGet2 (i := 1) (m := y1) (x := rd ((rd y0_0 x1).is_) aa) (E := (Value.int .i64)) un181 (KeyK.int un21) trivial (fun _ _ => trivial) zv3 hs rfl rfl rfl) <| Mv rfl <| Oxt rfl <| Oxt rfl <| As rfl <| As rfl <| O_nil (a2 _ _ ?_)
    refine W.weak [(0, _), (1, _), (7, _), (10, _), (11, _), (12, _), (36, _), (37, _), (38, _)] sbn ?_
    refine Wr fun bz a3 => Mv rfl <| Ox a3 <| W_cond rfl (fun ak => ?_) (fun ak => ?_)
    ·rw [if_pos ak] at H
     refine W_region <| Mv rfl <| Mv rfl ?_
     have hs := hs.front 2 rfl
     have hs := hs.front 2 rfl
     have hs := hs.front 2 rfl
     obtain ⟨ag, ao, H⟩ := bnd H
     refine Oc rfl (hrec hs g0_0 ao) (fun b0 w hpost => ?_)
     obtain ⟨rfl, hs⟩ := hpost
     have hs := hs.sink 2
     have hs := hs.sink 2
     have hs := hs.sink 2
     refine As rfl <| O_nil (am _ _ _ sbn (an ag.2 ag.1 _ H hs))
    ·rw [if_neg (bft ak)] at H
     exact W_skip (am _ _ _ sbn (an ab 1 _ H hs))
   ·rw [if_neg ar] at H
    refine W_exit (bo _ _ (bj _ _ <| W_seq fun b1 a4 => Wr fun b2 a5 => Mv rfl <| Ogt rfl <| Ox a5 <| W_if rfl (fun al => ?_) (fun al => ?_)))
    ·rw [if_pos al] at H
     refine Wr fun b3 a6 => As rfl <| Ox a6 <| W_ret ?_
     obtain rfl := sinj H
     exact r1 rfl ⟨rfl, hs⟩
    ·rw [if_neg al] at H
     refine Wx a4 <| Wr fun b4 a7 => Mv rfl <| Onp rfl <| Ofd fo184_2 rfl <| Obx 0 ag182 hs rfl <| Mv rfl <| Mv rfl <| O_mapPut (i := 2) (m := ab) (x := x1) (v := ad) (E := (Value.int .i64)) un182 (KeyK.int un3) trivial (fun _ _ => trivial) hs rfl rfl rfl rfl (fun w hs => Ox a7 <| W.weak [(7, _)] (S1 rfl) <| W_seq fun b5 a8 => W_region ?_)
     refine Mv rfl <| As rfl <| Ox a8 <| W_ret ?_
     obtain rfl := sinj H
     exact r1 rfl ⟨rfl, hs⟩
theorem book_tree_length_bjo.c (k : Nat) : book_tree_length_bjo.Spec (book_tree_length_bjo.f k) := by
  induction k with
  | zero => intro w0 w ρ Γ pb0 w0_0 y0_0 pm1 y1 pm2 y2 hs x1 g0_0 r H; exact nomatch (show (none : Option _) = some _ from H)
  | succ k ih => intro w0 w ρ Γ pb0 w0_0 y0_0 pm1 y1 pm2 y2 hs x1 g0_0 r H; exact book_tree_length_bjo.cb (book_tree_length_bjo.f k) ih hs g0_0 H

def book_whole.j1 (an : (List (Vector Int 2 × Bool)) → (List (Int × Int)) → Int → Option Int) (aa : Int) (ae : List (Vector Int 2 × Bool)) (af : List (Int × Int)) : Option Int := an ae af (IntKind.i64.wrap (aa + 1))
def book_whole.l1 : Nat → List Chs → (List (Int × Int)) → (List (Vector Int 2 × Bool)) → (List (Int × Int)) → Int → Option Int
  | 0, _, _, _, _, _ => none
  | ah + 1, x0, ab, ac, ag, aa => if aa < (x0.length : Int) then (if (0 : Int) ≤ aa ∧ aa < (x0.length : Int) then ((book_tree_length_bjo.f K0 aa x0 ab ag).bind fun aj => (if aj.1 = 0 then (some aa) else (if (((rd x0 aa).is_).length : Int) = 2 then (if (0 : Int) ≤ 0 ∧ 0 < (((rd x0 aa).is_).length : Int) then (if (0 : Int) ≤ 1 ∧ 1 < (((rd x0 aa).is_).length : Int) then (if ((mget ac (#v[rd ((rd x0 aa).is_) 0, rd ((rd x0 aa).is_) 1])).getD false) = true then (some aa) else (book_whole.j1 (book_whole.l1 ah x0 ab) aa (mput ac (#v[rd ((rd x0 aa).is_) 0, rd ((rd x0 aa).is_) 1]) true) aj.2)) else none) else none) else (book_whole.j1 (book_whole.l1 ah x0 ab) aa ac aj.2)))) else none) else (some (-1))
def book_whole.l2 : Nat → List Chs → (List (Int × Int)) → Int → Option Int
  | 0, _, _, _ => none
  | ai + 1, x0, ab, ad => if ad < (x0.length : Int) then (if (0 : Int) ≤ ad ∧ ad < (x0.length : Int) then ((book_whole.l2 ai x0) (mput ab ((rd x0 ad).lo) ad) (IntKind.i64.wrap (ad + 1))) else none) else (book_whole.l1 K0 x0 ab ([] : List (Vector Int 2 × Bool)) ([] : List (Int × Int)) 0)
def book_whole.f (x0 : List Chs) : Option Int := book_whole.l2 K0 x0 ([] : List (Int × Int)) 0
theorem book_whole.c (hs : St w0 ρ (Γ) w) {v0 : Value} {x0 : List Chs} (h0 : SlR rChs ρ v0 x0) {r : Int} (H : book_whole.f x0 = some r) : CallsR Tryz.prog 113 [v0] w (fun v w' => v = .int .i64 r ∧ St w0 ρ Γ w') := by
  rw [book_whole.f] at H
  refine Et Tryz.func113 Tryz.ntmps113 rfl <| Wr fun di bx => As rfl <| Ox bx <| Wr fun dj bz => Mv rfl <| O_mapNew (KeyK.int un21).enc (Value.int .i64) hs rfl (fun ak w hs => O_mapNew (KeyK.int un3).enc (Value.int .i64) hs rfl (fun al w hs => O_y rfl (Y_build (cs := [v0, .map (some ak), .map (some al)]) zr184 pl184 ((Parts.cons rfl h0.cellsL (Parts.cons rfl rfl (Parts.cons rfl rfl Parts.nil)))) ag184 (by kernel_rfl)) <| O_boxN (cs := [v0, .map (some ak), .map (some al)]) hs rfl rfl (fun am w hs => As rfl <| O_nil (bz _ _ ?_))))
  refine W_seq fun dk b0 => Wr fun dl b1 => Mv rfl <| O_y rfl (Y_lenR un24 h0 rfl) <| Mv rfl <| Ox b1 <| W_block fun dm b2 dn => W_loop (σ := Nat × (List (Int × Int)) × Int) (fun (ai, ab, ad) => [(0, v0), (3, .pointer (some ⟨am, 0, none⟩)), (15, v0), (16, .int .i64 (x0.length : Int)), (17, .int .i64 ad)]) (fun (ai, ab, ad) w => book_whole.l2 ai x0 ab ad = some r ∧ St w0 ρ ((.box am 184 ([v0, .map (some ak), .map (some al)])) :: (.obj al (mapObj (KeyK.int un3).enc (vs (Value.int .i64) ([] : List (Int × Int))))) :: (.obj ak (mapObj (KeyK.int un21).enc (vs (Value.int .i64) ab))) :: Γ) w) (fun s => s.1) (K0, ([] : List (Int × Int)), 0) sbn (Ai H hs) ?_
  rintro ⟨ai, ab, ad⟩ w dp ⟨H, hs⟩ aq
  show W _ _ _ _ _ _ [(0, v0), (3, .pointer (some ⟨am, 0, none⟩)), (15, v0), (16, .int .i64 (x0.length : Int)), (17, .int .i64 ad)] w
  cases ai with
  | zero => rw [book_whole.l2] at H; cases H
  | succ ai =>
  rw [book_whole.l2] at H
  refine Wr fun dq b3 => Ols rfl <| Ox b3 <| W_seq fun dr b4 => W_if rfl (fun a4 => ?_) (fun a4 => ?_)
  ·rw [if_pos a4] at H
   refine Wx b4 <| W_seq fun ds b5 => W_block fun dt du dv => Wr fun dw b6 => Mv rfl ?_
   obtain ⟨bv, H⟩ := gd H
   obtain ⟨dx, dy, b7, b8⟩ := h0.ix el24 bv.1 bv.2
   obtain ⟨_, ⟨b9, rfl, ca⟩, cb⟩ := b7
   refine O_y rfl (b8 rfl rfl) <| O_y rfl (Y_loadN ag110 sz110 rfl rfl (fun j u hu => hs.see (cb j u hu))) <| O_alloc zr110 hs rfl (fun cc w hs => As rfl <| O_storeN (i := 0) sz110 hs rfl rfl rfl rfl rfl (one_cons rfl (one_cons rfl (one_cons ca.one one_nil))) (fun w hs => Ox b6 <| W_drawS 8 [0, 1, 2, 4, 0, 16, 0, 127] [124, 120, 112, 112, 79, 79, 63, 0] [0, 1, 3, 7, 0, 16, 0, 127] [7] (fun w => St w0 ρ ((.box cc 110 ([.int .i32 ((rd x0 ad).lo), .int .i32 ((rd x0 ad).hi), b9])) :: (.box am 184 ([v0, .map (some ak), .map (some al)])) :: (.obj al (mapObj (KeyK.int un3).enc (vs (Value.int .i64) ([] : List (Int × Int))))) :: (.obj ak (mapObj (KeyK.int un21).enc (vs (Value.int .i64) ab))) :: Γ) w) mixed (by kernel_rfl) (fun sh => ?_)))
   have hs := hs.drew
   refine Fm 0 sh rfl <| Fp 1 sh rfl (fun w => Y_nilp rfl) <| Fp 2 sh rfl (fun w => Y_field fo184_1 rfl) <| Fy 3 sh rfl hs (fun w hs => Yb 1 ag181 hs rfl rfl rfl) <| Fp 4 sh rfl (fun w => Y_field fo110_0 rfl) <| Fy 5 sh rfl hs (fun w hs => Yb 0 ag21 hs rfl rfl rfl) <| Fm 6 sh rfl <| F1 7 sh rfl (fun dz cd => O_mapPut (i := 3) (m := ab) (x := (rd x0 ad).lo) (v := ad) (E := (Value.int .i64)) un181 (KeyK.int un21) trivial (fun _ _ => trivial) hs rfl rfl rfl rfl (fun w hs => O_nil (cd _ _ (fun h _ => absurd h (by decide)) <| FE sh (b5 _ _ <| W.weak [(0, _), (3, _), (15, _), (16, _), (17, _)] sbn ?_))))
   refine W_region <| Oad rfl <| Mv rfl <| O_nil (aq (ai, (mput ab ((rd x0 ad).lo) ad), (IntKind.i64.wrap (ad + 1))) _ _ sbn (Ai H (hs.sub (ssk (ssc (ssc (ssc ssr)))))) (Nat.lt_succ_self _))
  ·rw [if_neg a4] at H
   refine W_exit (b2 _ _ (b0 _ _ <| Wr fun ea ce => O_mapNew kv115.enc Value.bool hs rfl (fun ax w hs => As rfl <| Ox ce <| W_seq fun eb cf => Wr fun ec cg => Mv rfl <| O_y rfl (Y_lenR un24 h0 rfl) <| Mv rfl <| Ox cg <| W_block fun ed a5 ch => ?_)))
   refine W_loop (σ := Nat × (List (Vector Int 2 × Bool)) × (List (Int × Int)) × Int) (fun (ah, ac, ag, aa) => [(3, .pointer (some ⟨am, 0, none⟩)), (6, .map (some ax)), (31, v0), (32, .int .i64 (x0.length : Int)), (33, .int .i64 aa)]) (fun (ah, ac, ag, aa) w => book_whole.l1 ah x0 ab ac ag aa = some r ∧ St w0 ρ ((.obj ax (mapObj kv115.enc (vs Value.bool ac))) :: (.box am 184 ([v0, .map (some ak), .map (some al)])) :: (.obj al (mapObj (KeyK.int un3).enc (vs (Value.int .i64) ag))) :: (.obj ak (mapObj (KeyK.int un21).enc (vs (Value.int .i64) ab))) :: Γ) w) (fun s => s.1) (K0, ([] : List (Vector Int 2 × Bool)), ([] : List (Int × Int)), 0) sbn (Ai H hs) ?_
   rintro ⟨ah, ac, ag, aa⟩ w ci ⟨H, hs⟩ ao
   show W _ _ _ _ _ _ [(3, .pointer (some ⟨am, 0, none⟩)), (6, .map (some ax)), (31, v0), (32, .int .i64 (x0.length : Int)), (33, .int .i64 aa)] w
   cases ah with
   | zero => rw [book_whole.l1] at H; cases H
   | succ ah =>
   rw [book_whole.l1] at H
   refine Wr fun cj a6 => Ols rfl <| Ox a6 <| W_seq fun ck a7 => W_if rfl (fun ar => ?_) (fun ar => ?_)
   ·rw [if_pos ar] at H
    refine Wx a7 <| W_seqj fun a8 a9 ay => ?_
    have az : ∀ (ae : List (Vector Int 2 × Bool)) (af : List (Int × Int)) (w : World), book_whole.j1 (book_whole.l1 ah x0 ab) aa ae af = some r → St w0 ρ ((.obj ax (mapObj kv115.enc (vs Value.bool ae))) :: (.box am 184 ([v0, .map (some ak), .map (some al)])) :: (.obj al (mapObj (KeyK.int un3).enc (vs (Value.int .i64) af))) :: (.obj ak (mapObj (KeyK.int un21).enc (vs (Value.int .i64) ab))) :: Γ) w → a8 [(3, .pointer (some ⟨am, 0, none⟩)), (6, .map (some ax)), (31, v0), (32, .int .i64 (x0.length : Int)), (33, .int .i64 aa)] w := by
     intro ae af w H hs
     rw [book_whole.j1] at H
     refine a9 _ _ <| W_region <| Oad rfl <| Mv rfl <| O_nil (ao (ah, ae, af, (IntKind.i64.wrap (aa + 1))) _ _ sbn (Ai H hs) (Nat.lt_succ_self _))
    refine W_block fun cl cm cn => Wr fun co ba => Mv rfl ?_
    obtain ⟨a0, H⟩ := gd H
    obtain ⟨cp, cq, bb, bc⟩ := h0.ix el24 a0.1 a0.2
    obtain ⟨_, ⟨bd, rfl, ap⟩, be⟩ := bb
    refine O_y rfl (bc rfl rfl) <| O_y rfl (Y_loadN ag110 sz110 rfl rfl (fun j u hu => hs.see (be j u hu))) <| O_alloc zr110 hs rfl (fun bf w hs => As rfl <| O_storeN (i := 0) sz110 hs rfl rfl rfl rfl rfl (one_cons rfl (one_cons rfl (one_cons ap.one one_nil))) (fun w hs => Ox ba <| W_seq fun cr bg => Wr fun ct bh => Mv rfl <| Mv rfl ?_))
    have hs := hs.front 3 rfl
    have hs := hs.front 4 rfl
    have hs := hs.front 4 rfl
    obtain ⟨aj, a1, H⟩ := bnd H
    refine Oc rfl ((book_tree_length_bjo.c K0) hs h0 a1) (fun cu w hpost => ?_)
    obtain ⟨rfl, hs⟩ := hpost
    have hs := hs.sink 4
    have hs := hs.sink 4
    have hs := hs.sink 3
    refine Oeq rfl <| Ox bh <| W.weak [(3, _), (6, _), (7, _), (8, _), (31, _), (32, _), (33, _), (41, _)] sbn ?_
    refine W_if rfl (fun au => ?_) (fun au => ?_)
    ·rw [if_pos au] at H
     refine Wr fun cv bi => Mv rfl <| As rfl <| Ox bi <| W_ret ?_
     obtain rfl := sinj H
     exact r1 rfl ⟨rfl, (hs.sub (ssk (ssk (ssk (ssk (ssk ssr))))))⟩
    ·rw [if_neg au] at H
     refine Wx bg <| Wr fun cw bj => Ofd fo110_2 rfl <| Obx 0 ag28 hs rfl <| O_y rfl (Y_lenR un28 ap rfl) <| Oeq rfl <| Ox bj <| W_if rfl (fun av => ?_) (fun av => ?_)
     ·rw [if_pos av] at H
      refine W_seq fun cx bk => W_drawS 11 [0, 1, 2, 4, 0, 16, 32, 64, 136, 0, 1023] [1020, 1016, 1008, 752, 975, 911, 783, 527, 512, 511, 0] [0, 1, 3, 7, 0, 16, 48, 112, 255, 0, 1023] [10] (fun w => St w0 ρ ((.box bf 110 ([.int .i32 ((rd x0 aa).lo), .int .i32 ((rd x0 aa).hi), bd])) :: (.obj ax (mapObj kv115.enc (vs Value.bool ac))) :: (.box am 184 ([v0, .map (some ak), .map (some al)])) :: (.obj al (mapObj (KeyK.int un3).enc (vs (Value.int .i64) aj.2))) :: (.obj ak (mapObj (KeyK.int un21).enc (vs (Value.int .i64) ab))) :: Γ) w) mixed (by kernel_rfl) (fun sh => ?_)
      have hs := hs.drew
      refine Fp 0 sh rfl (fun w => Y_field fo110_2 rfl) <| Fy 1 sh rfl hs (fun w hs => Yb 0 ag28 hs rfl rfl rfl) ?_
      obtain ⟨a2, H⟩ := gd H
      obtain ⟨cy, cz, bl, bm⟩ := ap.ix el28 a2.1 a2.2
      refine Fp 2 sh rfl (fun w => bm rfl rfl) <| Fy 3 sh rfl hs (fun w hs => Y_load ag21 rfl (hs.see bl.int)) <| Fp 4 sh rfl (fun w => Y_field fo110_2 rfl) <| Fy 5 sh rfl hs (fun w hs => Yb 0 ag28 hs rfl rfl rfl) ?_
      obtain ⟨a3, H⟩ := gd H
      obtain ⟨da, db, bn, bo⟩ := ap.ix el28 a3.1 a3.2
      refine Fp 6 sh rfl (fun w => bo rfl rfl) <| Fy 7 sh rfl hs (fun w hs => Y_load ag21 rfl (hs.see bn.int)) <| Fp 8 sh rfl (fun w => Y_buildArr (xs := [.tmp 50, .tmp 54]) (zs := vcs (Value.int .i32) #v[rd ((rd x0 aa).is_) 0, rd ((rd x0 aa).is_) 1]) un115 sz21 zl115 rfl rfl rfl (sz1_cons rfl (sz1_cons rfl sz1_nil)) rfl) <| F1 9 sh rfl (fun dc bp => O_alloc zr115 hs rfl (fun bw w hs => O_nil (bp _ _ (fun _ _ => (hs.sub (ssk (ssc (ssc (ssc (ssc (ssc ssr)))))))) <| F1 10 sh rfl (fun dd bq => O_storeArr (j := 0) (u := #v[rd ((rd x0 aa).is_) 0, rd ((rd x0 aa).is_) 1]) sz115 (one_int .i32) hs rfl rfl rfl (fun w hs => O_nil (bq _ _ (fun h _ => absurd h (by decide)) <| FE sh (bk _ _ <| W.weak [(3, _), (6, _), (7, _), (9, _), (31, _), (32, _), (33, _)] sbn ?_)))))))
      refine W_seq fun de br => Wr fun df bs => Mv rfl <| O_y rfl (Y_loadArr (j := 0) ag115 sz115 hs rfl rfl) <| O_y rfl (Y_mapGet1 (i := 2) (m := ac) (x := #v[rd ((rd x0 aa).is_) 0, rd ((rd x0 aa).is_) 1]) (E := Value.bool) un185 kv115 trivial (fun _ _ => trivial) zv4 hs rfl rfl rfl) <| Ox bs <| W_cond rfl (fun aw => ?_) (fun aw => ?_)
      ·rw [if_pos aw] at H
       refine Wr fun dg bt => Mv rfl <| As rfl <| Ox bt <| W_ret ?_
       obtain rfl := sinj H
       exact r1 rfl ⟨rfl, (hs.sub (ssk (ssk (ssk (ssk (ssk (ssk ssr)))))))⟩
      ·rw [if_neg (bft aw)] at H
       refine Wx br <| W_region <| Mv rfl <| O_y rfl (Y_loadArr (j := 0) ag115 sz115 hs rfl rfl) <| O_mapPut (i := 2) (m := ac) (x := #v[rd ((rd x0 aa).is_) 0, rd ((rd x0 aa).is_) 1]) (v := true) (E := Value.bool) un185 kv115 trivial (fun _ _ => trivial) hs rfl rfl rfl rfl (fun w hs => O_nil (ay _ _ _ sbn (az (mput ac (#v[rd ((rd x0 aa).is_) 0, rd ((rd x0 aa).is_) 1]) true) aj.2 _ H (hs.sub (ssk (ssk (ssc (ssc (ssc (ssc ssr))))))))))
     ·rw [if_neg av] at H
      exact W_skip (ay _ _ _ sbn (az ac aj.2 _ H (hs.sub (ssk (ssc (ssc (ssc (ssc ssr))))))))
   ·rw [if_neg ar] at H
    refine W_exit (a5 _ _ (cf _ _ <| Wr fun dh bu => As rfl <| Ox bu <| W_ret ?_))
    obtain rfl := sinj H
    exact r1 rfl ⟨rfl, (hs.sub (ssk (ssk (ssk (ssk ssr)))))⟩

def book_Check_15_mae.f (y0_0 : List ByteArray) (y0_1 : List Val) (y0_2 : List Chs) (y0_3 : List Val) (y0_4 : List Chs) (y0_5 : List Spn) (y0_6 y0_7 : List Val) (y0_8 : List Spn) (y0_9 : List Val) (y0_10 : List Chs) : Option Int := (book_whole.f y0_4).bind fun ab => (some ab)
theorem book_Check_15_mae.c {pb0 : Nat} {w0_0 : Value} {y0_0 : List ByteArray} {w0_1 : Value} {y0_1 : List Val} {w0_2 : Value} {y0_2 : List Chs} {w0_3 : Value} {y0_3 : List Val} {w0_4 : Value} {y0_4 : List Chs} {w0_5 : Value} {y0_5 : List Spn} {w0_6 : Value} {y0_6 : List Val} {w0_7 : Value} {y0_7 : List Val} {w0_8 : Value} {y0_8 : List Spn} {w0_9 : Value} {y0_9 : List Val} {w0_10 : Value} {y0_10 : List Chs} (hs : St w0 ρ ((.box pb0 27 ([w0_0, w0_1, w0_2, w0_3, w0_4, w0_5, w0_6, w0_7, w0_8, w0_9, w0_10])) :: Γ) w) (g0_0 : SlR Rep.str ρ w0_0 y0_0) (g0_1 : SlR rVal ρ w0_1 y0_1) (g0_2 : SlR rChs ρ w0_2 y0_2) (g0_3 : SlR rVal ρ w0_3 y0_3) (g0_4 : SlR rChs ρ w0_4 y0_4) (g0_5 : SlR rSpn ρ w0_5 y0_5) (g0_6 : SlR rVal ρ w0_6 y0_6) (g0_7 : SlR rVal ρ w0_7 y0_7) (g0_8 : SlR rSpn ρ w0_8 y0_8) (g0_9 : SlR rVal ρ w0_9 y0_9) (g0_10 : SlR rChs ρ w0_10 y0_10) {r : Int} (H : book_Check_15_mae.f y0_0 y0_1 y0_2 y0_3 y0_4 y0_5 y0_6 y0_7 y0_8 y0_9 y0_10 = some r) : CallsR Tryz.prog 112 [.pointer (some ⟨pb0, 0, none⟩)] w (fun v w' => v = .int .i64 r ∧ St w0 ρ ((.box pb0 27 ([w0_0, w0_1, w0_2, w0_3, w0_4, w0_5, w0_6, w0_7, w0_8, w0_9, w0_10])) :: Γ) w') := by
  rw [book_Check_15_mae.f] at H
  refine Et Tryz.func112 Tryz.ntmps112 rfl <| Wr fun ae ac => As rfl <| Ox ac <| Wr fun af ad => Ofd fo27_4 rfl <| Obx 0 ag24 hs rfl ?_
  obtain ⟨ab, aa, H⟩ := bnd H
  refine Oc rfl (book_whole.c hs g0_4 aa) (fun ag w hpost => ?_)
  obtain ⟨rfl, hs⟩ := hpost
  refine As rfl <| Ox ad <| W_ret ?_
  obtain rfl := sinj H
  exact r1 rfl ⟨rfl, hs⟩

end Go.Proofs.YthoicbafdanmkaaGreatDoor
