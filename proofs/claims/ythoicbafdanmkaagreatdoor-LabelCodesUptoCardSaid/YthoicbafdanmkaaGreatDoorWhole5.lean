/- Texts of this repo, merged for the claim: TL1, TP4, TL2, TK1, TS0, PureS, PureA. -/
import Derived.Test.YthoicbafdanmkaaGreatDoorWhole1
import Derived.Test.YthoicbafdanmkaaGreatDoorWhole4
import Derived.Test.YthoicbafdanmkaaGreatDoorWhole3
import Derived.Test.YthoicbafdanmkaaGreatDoorWhole0
import Derived.Test.YthoicbafdanmkaaGreatDoorWhole2
/- Written by this repo's gen.py: for each Go function a Lean function with the same answers and the walk that shows it. -/
namespace Go.Proofs.YthoicbafdanmkaaGreatDoor
open Go.RowKit
set_option maxRecDepth 100000
set_option maxHeartbeats 4000000
variable {w0 w : World} {ρ : Hp} {Γ : List Item}
set_option linter.unusedVariables false
def bytes_indexFunc_maj.l1 : Nat → Int → Int → Int → Int → Int → Int → Int → Int → List Int → Bool → Int → Option Int
  | 0, _, _, _, _, _, _, _, _, _, _, _ => none
  | ab + 1, y0_0, y0_1, y0_2, y0_3, y0_4, y0_5, y0_6, y0_7, x0, x2, aa => if aa < (x0.length : Int) then (if (0 : Int) ≤ aa ∧ aa ≤ (x0.length : Int) ∧ (x0.length : Int) ≤ (x0.length : Int) then ((unicode_utf8_DecodeRune.f (sub x0 aa (x0.length : Int))).bind fun ad => ((puny_boot_decode_1_hme.f ad.1 y0_0 y0_1 y0_2 y0_3 y0_4 y0_5 y0_6 y0_7).bind fun aj => (if (aj == x2) = true then (some aa) else ((bytes_indexFunc_maj.l1 ab y0_0 y0_1 y0_2 y0_3 y0_4 y0_5 y0_6 y0_7 x0 x2) (IntKind.i64.wrap (aa + ad.2)))))) else none) else (some (-1))
def bytes_indexFunc_maj.f (x0 : List Int) (x2 : Bool) (y0_0 y0_1 y0_2 y0_3 y0_4 y0_5 y0_6 y0_7 : Int) : Option Int := bytes_indexFunc_maj.l1 K0 y0_0 y0_1 y0_2 y0_3 y0_4 y0_5 y0_6 y0_7 x0 x2 0
theorem bytes_indexFunc_maj.c {pb0 : Nat} {y0_0 y0_1 y0_2 y0_3 y0_4 y0_5 y0_6 y0_7 : Int} (hs : St w0 ρ ((.box pb0 117 ([.int .i64 y0_0, .int .i64 y0_1, .int .i64 y0_2, .int .i64 y0_3, .int .i64 y0_4, .int .i64 y0_5, .int .i64 y0_6, .int .u8 y0_7])) :: Γ) w) {v0 : Value} {x0 : List Int} (h0 : SlR (Rep.int .u8) ρ v0 x0) {x2 : Bool} {r : Int} (H : bytes_indexFunc_maj.f x0 x2 y0_0 y0_1 y0_2 y0_3 y0_4 y0_5 y0_6 y0_7 = some r) : CallsR Tryz.prog 160 [v0, .func (.func 126) #[] #[.pointer (some ⟨pb0, 0, none⟩)], .bool x2] w (fun v w' => v = .int .i64 r ∧ St w0 ρ ((.box pb0 117 ([.int .i64 y0_0, .int .i64 y0_1, .int .i64 y0_2, .int .i64 y0_3, .int .i64 y0_4, .int .i64 y0_5, .int .i64 y0_6, .int .u8 y0_7])) :: Γ) w') := by
  rw [bytes_indexFunc_maj.f] at H
  refine Et Tryz.func160 Tryz.ntmps160 rfl <| Wr fun az ak => As rfl <| Ox ak <| Wr fun a0 al => As rfl <| Ox al <| W_seq fun a1 am => W_block fun a2 an a3 => W_loop (σ := Nat × Int) (fun (ab, aa) => [(0, v0), (1, .func (.func 126) #[] #[.pointer (some ⟨pb0, 0, none⟩)]), (2, .bool x2), (7, .int .i64 aa)]) (fun (ab, aa) w => bytes_indexFunc_maj.l1 ab y0_0 y0_1 y0_2 y0_3 y0_4 y0_5 y0_6 y0_7 x0 x2 aa = some r ∧ St w0 ρ ((.box pb0 117 ([.int .i64 y0_0, .int .i64 y0_1, .int .i64 y0_2, .int .i64 y0_3, .int .i64 y0_4, .int .i64 y0_5, .int .i64 y0_6, .int .u8 y0_7])) :: Γ) w) (fun s => s.1) (K0, 0) (T4 rfl) (Ai H hs) ?_
  rintro ⟨ab, aa⟩ w a4 ⟨H, hs⟩ ac
  show W _ _ _ _ _ _ [(0, v0), (1, .func (.func 126) #[] #[.pointer (some ⟨pb0, 0, none⟩)]), (2, .bool x2), (7, .int .i64 aa)] w
  cases ab with
  | zero => rw [bytes_indexFunc_maj.l1] at H; cases H
  | succ ab =>
  rw [bytes_indexFunc_maj.l1] at H
  refine W_seq fun a5 ao => Wr fun a6 ap => Mv rfl <| Mv rfl <| O_y rfl (Y_lenR un72 h0 rfl) <| Ols rfl <| Ox ap <| W_if rfl (fun ae => ?_) (fun ae => ?_)
  ·rw [if_pos ae] at H
   refine Wx ao <| W_block fun a7 a8 a9 => Wr fun ba aq => Mv rfl <| Mv rfl ?_
   obtain ⟨af, H⟩ := gd H
   obtain ⟨bb, ar, au⟩ := h0.cut el72 af.1 af.2.1 af.2.2
   refine O_y rfl (au rfl (.inr ⟨_, _, rfl, rfl⟩) (.inl ⟨rfl, rfl⟩)) ?_
   obtain ⟨ad, ag, H⟩ := bnd H
   refine Oc rfl (unicode_utf8_DecodeRune.c hs ar ag) (fun bc w hpost => ?_)
   obtain ⟨rfl, hs⟩ := hpost
   refine Mv rfl <| Oxt rfl <| Oxt rfl <| As rfl <| As rfl <| Ox aq <| W.weak [(0, _), (1, _), (2, _), (7, _), (8, _), (9, _)] sbn ?_
   refine W_seq fun bd av => Wr fun be aw => Mv rfl <| Mv rfl ?_
   obtain ⟨aj, ah, H⟩ := bnd H
   refine O_callv rfl rfl rfl (puny_boot_decode_1_hme.c hs ah) (fun bf w hpost => ?_)
   obtain ⟨rfl, hs⟩ := hpost
   refine Mv rfl <| O_y rfl (Y_eqlb un4 rfl rfl) <| Ox aw <| W_cond rfl (fun ai => ?_) (fun ai => ?_)
   ·rw [if_pos ai] at H
    refine Wr fun bg ax => Mv rfl <| As rfl <| Ox ax <| W_ret ?_
    obtain rfl := sinj H
    exact r1 rfl ⟨rfl, hs⟩
   ·rw [if_neg (bft ai)] at H
    refine Wx av <| W_region <| Mv rfl <| Mv rfl <| Oad rfl <| As rfl <| O_nil (ac (ab, (IntKind.i64.wrap (aa + ad.2))) _ _ (T4 rfl) (Ai H hs) (Nat.lt_succ_self _))
  ·rw [if_neg ae] at H
   refine W_exit (an _ _ (am _ _ <| Wr fun bh ay => As rfl <| Ox ay <| W_ret ?_))
   obtain rfl := sinj H
   exact r1 rfl ⟨rfl, hs⟩

def bytes_IndexFunc_mjo.f (x0 : List Int) (y0_0 y0_1 y0_2 y0_3 y0_4 y0_5 y0_6 y0_7 : Int) : Option Int := (bytes_indexFunc_maj.f x0 true y0_0 y0_1 y0_2 y0_3 y0_4 y0_5 y0_6 y0_7).bind fun ab => (some ab)
theorem bytes_IndexFunc_mjo.c {pb0 : Nat} {y0_0 y0_1 y0_2 y0_3 y0_4 y0_5 y0_6 y0_7 : Int} (hs : St w0 ρ ((.box pb0 117 ([.int .i64 y0_0, .int .i64 y0_1, .int .i64 y0_2, .int .i64 y0_3, .int .i64 y0_4, .int .i64 y0_5, .int .i64 y0_6, .int .u8 y0_7])) :: Γ) w) {v0 : Value} {x0 : List Int} (h0 : SlR (Rep.int .u8) ρ v0 x0) {r : Int} (H : bytes_IndexFunc_mjo.f x0 y0_0 y0_1 y0_2 y0_3 y0_4 y0_5 y0_6 y0_7 = some r) : CallsR Tryz.prog 125 [v0, .func (.func 126) #[] #[.pointer (some ⟨pb0, 0, none⟩)]] w (fun v w' => v = .int .i64 r ∧ St w0 ρ ((.box pb0 117 ([.int .i64 y0_0, .int .i64 y0_1, .int .i64 y0_2, .int .i64 y0_3, .int .i64 y0_4, .int .i64 y0_5, .int .i64 y0_6, .int .u8 y0_7])) :: Γ) w') := by
  rw [bytes_IndexFunc_mjo.f] at H
  refine Et Tryz.func125 Tryz.ntmps125 rfl <| Wr fun ae ac => As rfl <| Ox ac <| Wr fun af ad => Mv rfl <| Mv rfl ?_
  obtain ⟨ab, aa, H⟩ := bnd H
  refine Oc rfl (bytes_indexFunc_maj.c hs h0 aa) (fun ag w hpost => ?_)
  obtain ⟨rfl, hs⟩ := hpost
  refine As rfl <| Ox ad <| W_ret ?_
  obtain rfl := sinj H
  exact r1 rfl ⟨rfl, hs⟩

def puny_Digit.j1 (x0 : Int) (aa : Bool) : Option Int := if aa = true then (some (IntKind.i64.wrap ((IntKind.i64.wrap (IntKind.u8.wrap (x0 - 48))) + 26))) else (some (-1))
def puny_Digit.j2 (x0 : Int) (ab : Bool) : Option Int := if ab = true then (some (IntKind.i64.wrap (IntKind.u8.wrap (x0 - 65)))) else (if 48 ≤ x0 then (puny_Digit.j1 x0 (decide (x0 ≤ 57))) else (puny_Digit.j1 x0 false))
def puny_Digit.j3 (x0 : Int) (ac : Bool) : Option Int := if ac = true then (some (IntKind.i64.wrap (IntKind.u8.wrap (x0 - 97)))) else (if 65 ≤ x0 then (puny_Digit.j2 x0 (decide (x0 ≤ 90))) else (puny_Digit.j2 x0 false))
def puny_Digit.f (x0 : Int) : Option Int := if 97 ≤ x0 then (puny_Digit.j3 x0 (decide (x0 ≤ 122))) else (puny_Digit.j3 x0 false)
theorem puny_Digit.c (hs : St w0 ρ (Γ) w) {x0 r : Int} (H : puny_Digit.f x0 = some r) : CallsR Tryz.prog 183 [.int .u8 x0] w (fun v w' => v = .int .i64 r ∧ St w0 ρ Γ w') := by
  rw [puny_Digit.f] at H
  refine Et Tryz.func183 Tryz.ntmps183 rfl <| Wr fun a3 ap => As rfl <| Ox ap <| W_seq fun a4 aq => W_block fun a5 a6 a7 => W_seqj fun ar au aj => ?_
  have ak : ∀ (ac : Bool) (w : World), puny_Digit.j3 x0 ac = some r → St w0 ρ (Γ) w → ar [(0, .int .u8 x0), (3, .bool ac)] w := by
   intro ac w H hs
   rw [puny_Digit.j3] at H
   refine au _ _ <| W_cond rfl (fun ad => ?_) (fun ad => ?_)
   ·rw [if_pos ad] at H
    refine Wr fun a8 av => Mv rfl <| Osu rfl <| O_y rfl (Y_conv un5 un3 rfl) <| As rfl <| Ox av <| W_ret ?_
    obtain rfl := sinj H
    exact r1 rfl ⟨rfl, hs⟩
   ·rw [if_neg (bft ad)] at H
    refine W_seqj fun aw ax al => ?_
    have am : ∀ (ab : Bool) (w : World), puny_Digit.j2 x0 ab = some r → St w0 ρ (Γ) w → aw [(0, .int .u8 x0), (13, .bool ab)] w := by
     intro ab w H hs
     rw [puny_Digit.j2] at H
     refine ax _ _ <| W_cond rfl (fun ae => ?_) (fun ae => ?_)
     ·rw [if_pos ae] at H
      refine Wr fun a9 ay => Mv rfl <| Osu rfl <| O_y rfl (Y_conv un5 un3 rfl) <| As rfl <| Ox ay <| W_ret ?_
      obtain rfl := sinj H
      exact r1 rfl ⟨rfl, hs⟩
     ·rw [if_neg (bft ae)] at H
      refine W_seqj fun az a0 an => ?_
      have ao : ∀ (aa : Bool) (w : World), puny_Digit.j1 x0 aa = some r → St w0 ρ (Γ) w → az [(0, .int .u8 x0), (23, .bool aa)] w := by
       intro aa w H hs
       rw [puny_Digit.j1] at H
       refine a0 _ _ <| W_cond rfl (fun af => ?_) (fun af => ?_)
       ·rw [if_pos af] at H
        refine Wr fun ba a1 => Mv rfl <| Osu rfl <| O_y rfl (Y_conv un5 un3 rfl) <| Oad rfl <| As rfl <| Ox a1 <| W_ret ?_
        obtain rfl := sinj H
        exact r1 rfl ⟨rfl, hs⟩
       ·rw [if_neg (bft af)] at H
        refine Wx aq <| Wr fun bb a2 => As rfl <| Ox a2 <| W_ret ?_
        obtain rfl := sinj H
        exact r1 rfl ⟨rfl, hs⟩
      refine W_region <| Mv rfl <| Oge rfl <| Mv rfl <| O_if (dj := 26) rfl (fun ag => ?_) (fun ag => ?_)
      ·rw [if_pos ag] at H
       refine Oe rfl <| Mv rfl <| Oe rfl <| Ole rfl <| Opk rfl <| As rfl <| O_nil (an _ _ _ (T2 rfl) (ao (decide (x0 ≤ 57)) _ H hs))
      ·rw [if_neg ag] at H
       refine On rfl <| On rfl <| Opk rfl <| As rfl <| O_nil (an _ _ _ (T2 rfl) (ao false _ H hs))
    refine W_region <| Mv rfl <| Oge rfl <| Mv rfl <| O_if (dj := 16) rfl (fun ah => ?_) (fun ah => ?_)
    ·rw [if_pos ah] at H
     refine Oe rfl <| Mv rfl <| Oe rfl <| Ole rfl <| Opk rfl <| As rfl <| O_nil (al _ _ _ (T2 rfl) (am (decide (x0 ≤ 90)) _ H hs))
    ·rw [if_neg ah] at H
     refine On rfl <| On rfl <| Opk rfl <| As rfl <| O_nil (al _ _ _ (T2 rfl) (am false _ H hs))
  refine W_region <| Mv rfl <| Oge rfl <| Mv rfl <| O_if (dj := 6) rfl (fun ai => ?_) (fun ai => ?_)
  ·rw [if_pos ai] at H
   refine Oe rfl <| Mv rfl <| Oe rfl <| Ole rfl <| Opk rfl <| As rfl <| O_nil (aj _ _ _ (T2 rfl) (ak (decide (x0 ≤ 122)) _ H hs))
  ·rw [if_neg ai] at H
   refine On rfl <| On rfl <| Opk rfl <| As rfl <| O_nil (aj _ _ _ (T2 rfl) (ak false _ H hs))

def puny_boot_digit.f (x0 : S11) (x1 : Int) : Option Int := (puny_Digit.f x1).bind fun aa => (if aa < x0.base then (some aa) else (some (-1)))
theorem puny_boot_digit.c (hs : St w0 ρ (Γ) w) {c0 : List Value} {x0 : S11} (h0 : rS11.R ρ c0 x0) {x1 r : Int} (H : puny_boot_digit.f x0 x1 = some r) : CallsR Tryz.prog 175 [.agg c0.toArray, .int .u8 x1] w (fun v w' => v = .int .i64 r ∧ St w0 ρ Γ w') := by
  rw [puny_boot_digit.f] at H
  refine Et Tryz.func175 Tryz.ntmps175 rfl ?_
  have ad := h0
  obtain rfl := ad
  refine Wr fun ak ae => O_boxN (cs := [.int .i64 x0.base, .int .i64 x0.least, .int .i64 x0.most, .int .i64 x0.skew, .int .i64 x0.damp, .int .i64 x0.bias, .int .i64 x0.first, .int .u8 x0.between]) hs rfl rfl (fun al w hs => As rfl <| Ox ae <| W_seq fun am af => Wr fun an ag => Mv rfl ?_)
  obtain ⟨aa, ab, H⟩ := bnd H
  refine Oc rfl (puny_Digit.c hs ab) (fun ao w hpost => ?_)
  obtain ⟨rfl, hs⟩ := hpost
  refine As rfl <| Ox ag <| Wr fun ap ah => Mv rfl <| Ofd fo117_0 rfl <| Obx 0 ag3 hs rfl <| Ols rfl <| Ox ah <| W_if rfl (fun ac => ?_) (fun ac => ?_)
  ·rw [if_pos ac] at H
   refine Wr fun aq ai => Mv rfl <| As rfl <| Ox ai <| W_ret ?_
   obtain rfl := sinj H
   exact r1 rfl ⟨rfl, (hs.sub (ssk ssr))⟩
  ·rw [if_neg ac] at H
   refine Wx af <| Wr fun ar aj => As rfl <| Ox aj <| W_ret ?_
   obtain rfl := sinj H
   exact r1 rfl ⟨rfl, (hs.sub (ssk ssr))⟩

def puny_boot_threshold.f (x0 : S11) (x1 x2 : Int) : Option Int := some (min (max (IntKind.i64.wrap (x1 - x2)) x0.least) x0.most)
theorem puny_boot_threshold.c (hs : St w0 ρ (Γ) w) {c0 : List Value} {x0 : S11} (h0 : rS11.R ρ c0 x0) {x1 x2 r : Int} (H : puny_boot_threshold.f x0 x1 x2 = some r) : CallsR Tryz.prog 157 [.agg c0.toArray, .int .i64 x1, .int .i64 x2] w (fun v w' => v = .int .i64 r ∧ St w0 ρ Γ w') := by
  rw [puny_boot_threshold.f] at H
  refine Et Tryz.func157 Tryz.ntmps157 rfl ?_
  have aa := h0
  obtain rfl := aa
  refine Wr fun ad ab => O_boxN (cs := [.int .i64 x0.base, .int .i64 x0.least, .int .i64 x0.most, .int .i64 x0.skew, .int .i64 x0.damp, .int .i64 x0.bias, .int .i64 x0.first, .int .u8 x0.between]) hs rfl rfl (fun ae w hs => As rfl <| Ox ab <| Wr fun af ac => Mv rfl <| Mv rfl <| Osu rfl <| Ofd fo117_1 rfl <| Obx 0 ag3 hs rfl <| O_y rfl (Y_max rfl rfl) <| Ofd fo117_2 rfl ?_)
  refine Obx 0 ag3 hs rfl <| O_y rfl (Y_min rfl rfl) <| As rfl <| Ox ac <| W_ret ?_
  obtain rfl := sinj H
  exact r1 rfl ⟨rfl, (hs.sub (ssk ssr))⟩

def puny_reader_number_ndm.l1 : Nat → Int → Int → Int → Int → Int → Int → Int → Int → ByteArray → Int → Int → Int → Int → Int → Option (Int × Int × Int × Int)
  | 0, _, _, _, _, _, _, _, _, _, _, _, _, _, _ => none
  | ae + 1, y0_0, y0_1, y0_2, y0_3, y0_4, y0_5, y0_6, y0_7, y0_8, y0_13, aa, ab, ac, ad => if aa = (y0_8.size : Int) then (some (aa, 140, aa, ab)) else (if (0 : Int) ≤ aa ∧ aa < (y0_8.size : Int) then ((puny_boot_digit.f (⟨y0_0, y0_1, y0_2, y0_3, y0_4, y0_5, y0_6, y0_7⟩ : S11) (bt y0_8 aa)).bind fun ag => (if ag < 0 then (some (aa, 140, aa, ab)) else (if 2147483647 < (IntKind.i64.wrap (ab + (IntKind.i64.wrap (ag * ac)))) then (some (aa, 142, IntKind.i64.wrap (aa + 1), IntKind.i64.wrap (ab + (IntKind.i64.wrap (ag * ac))))) else ((puny_boot_threshold.f (⟨y0_0, y0_1, y0_2, y0_3, y0_4, y0_5, y0_6, y0_7⟩ : S11) ad y0_13).bind fun af => (if ag < af then (some (0, 0, IntKind.i64.wrap (aa + 1), IntKind.i64.wrap (ab + (IntKind.i64.wrap (ag * ac))))) else (if 2147483647 < (IntKind.i64.wrap (ac * (IntKind.i64.wrap (y0_0 - af)))) then (some (aa, 142, IntKind.i64.wrap (aa + 1), IntKind.i64.wrap (ab + (IntKind.i64.wrap (ag * ac))))) else ((puny_reader_number_ndm.l1 ae y0_0 y0_1 y0_2 y0_3 y0_4 y0_5 y0_6 y0_7 y0_8 y0_13) (IntKind.i64.wrap (aa + 1)) (IntKind.i64.wrap (ab + (IntKind.i64.wrap (ag * ac)))) (IntKind.i64.wrap (ac * (IntKind.i64.wrap (y0_0 - af)))) (IntKind.i64.wrap (ad + y0_0))))))))) else none)
def puny_reader_number_ndm.f (y0_0 y0_1 y0_2 y0_3 y0_4 y0_5 y0_6 y0_7 : Int) (y0_8 : ByteArray) (y0_9 y0_11 y0_12 y0_13 : Int) (y1 : List Int) : Option (Int × Int × Int × Int) := puny_reader_number_ndm.l1 K0 y0_0 y0_1 y0_2 y0_3 y0_4 y0_5 y0_6 y0_7 y0_8 y0_13 y0_9 y0_12 1 y0_0
theorem puny_reader_number_ndm.c {pb0 : Nat} {y0_0 y0_1 y0_2 y0_3 y0_4 y0_5 y0_6 y0_7 : Int} {y0_8 : ByteArray} {y0_9 y0_11 y0_12 y0_13 : Int} {w1 : Value} {d1 : List Value} {y1 : List Int} (hs : St w0 ρ ((.box pb0 163 ([.int .i64 y0_0, .int .i64 y0_1, .int .i64 y0_2, .int .i64 y0_3, .int .i64 y0_4, .int .i64 y0_5, .int .i64 y0_6, .int .u8 y0_7, .string y0_8, .int .i64 y0_9, w1, .int .i64 y0_11, .int .i64 y0_12, .int .i64 y0_13])) :: (.row w1 21 ((Rep.int .i32).sz) y1.length d1) :: Γ) w) (g1 : RowR (Rep.int .i32) ρ d1 y1) {r : Int × Int × Int × Int} (H : puny_reader_number_ndm.f y0_0 y0_1 y0_2 y0_3 y0_4 y0_5 y0_6 y0_7 y0_8 y0_9 y0_11 y0_12 y0_13 y1 = some r) : CallsR Tryz.prog 161 [.pointer (some ⟨pb0, 0, none⟩)] w (fun v w' => v = .tuple #[.int .i64 r.1, .int .i64 r.2.1] ∧ St w0 ρ ((.box pb0 163 ([.int .i64 y0_0, .int .i64 y0_1, .int .i64 y0_2, .int .i64 y0_3, .int .i64 y0_4, .int .i64 y0_5, .int .i64 y0_6, .int .u8 y0_7, .string y0_8, .int .i64 r.2.2.1, w1, .int .i64 y0_11, .int .i64 r.2.2.2, .int .i64 y0_13])) :: (.row w1 21 ((Rep.int .i32).sz) y1.length d1) :: Γ) w') := by
  rw [puny_reader_number_ndm.f] at H
  refine Et Tryz.func161 Tryz.ntmps161 rfl <| Wr fun bs a1 => As rfl <| As rfl <| Ox a1 <| Wr fun bu a2 => As rfl <| Ox a2 <| Wr fun bv a3 => Mv rfl <| Onp rfl ?_
  refine Ofd fo163_0 rfl <| Ofd fo117_0 rfl <| Obx 0 ag3 hs rfl <| As rfl <| Ox a3 <| W_block fun bw bx bz => W_loop (σ := Nat × Int × Int × Int × Int) (fun (ae, aa, ab, ac, ad) => [(0, .pointer (some ⟨pb0, 0, none⟩)), (4, .int .i64 ac), (5, .int .i64 ad)]) (fun (ae, aa, ab, ac, ad) w => puny_reader_number_ndm.l1 ae y0_0 y0_1 y0_2 y0_3 y0_4 y0_5 y0_6 y0_7 y0_8 y0_13 aa ab ac ad = some r ∧ St w0 ρ ((.box pb0 163 ([.int .i64 y0_0, .int .i64 y0_1, .int .i64 y0_2, .int .i64 y0_3, .int .i64 y0_4, .int .i64 y0_5, .int .i64 y0_6, .int .u8 y0_7, .string y0_8, .int .i64 aa, w1, .int .i64 y0_11, .int .i64 ab, .int .i64 y0_13])) :: (.row w1 21 ((Rep.int .i32).sz) y1.length d1) :: Γ) w) (fun s => s.1) (K0, y0_9, y0_12, 1, y0_0) (T3 rfl) (Ai H hs) ?_
  rintro ⟨ae, aa, ab, ac, ad⟩ w b0 ⟨H, hs⟩ ah
  show W _ _ _ _ _ _ [(0, .pointer (some ⟨pb0, 0, none⟩)), (4, .int .i64 ac), (5, .int .i64 ad)] w
  cases ae with
  | zero => rw [puny_reader_number_ndm.l1] at H; cases H
  | succ ae =>
  rw [puny_reader_number_ndm.l1] at H
  refine W_seq fun b1 a4 => W_block fun b2 b3 b4 => W_seq fun b5 a5 => W_seq fun b6 a6 => W_drawS 10 [0, 1, 2, 4, 0, 16, 32, 64, 128, 264] [1020, 1016, 1008, 496, 975, 911, 783, 527, 15, 0] [0, 1, 3, 7, 0, 16, 48, 112, 240, 511] [] (fun w => St w0 ρ ((.box pb0 163 ([.int .i64 y0_0, .int .i64 y0_1, .int .i64 y0_2, .int .i64 y0_3, .int .i64 y0_4, .int .i64 y0_5, .int .i64 y0_6, .int .u8 y0_7, .string y0_8, .int .i64 aa, w1, .int .i64 y0_11, .int .i64 ab, .int .i64 y0_13])) :: (.row w1 21 ((Rep.int .i32).sz) y1.length d1) :: Γ) w) mixed (by kernel_rfl) (fun sh => ?_)
  have hs := hs.drew
  refine Fm 0 sh rfl <| Fp 1 sh rfl (fun w => Y_nilp rfl) <| Fp 2 sh rfl (fun w => Y_field fo163_2 rfl) <| Fy 3 sh rfl hs (fun w hs => Yb 0 ag3 hs rfl rfl rfl) <| Fm 4 sh rfl <| Fp 5 sh rfl (fun w => Y_nilp rfl) <| Fp 6 sh rfl (fun w => Y_field fo163_1 rfl) <| Fy 7 sh rfl hs (fun w hs => Yb 0 ag9 hs rfl rfl rfl) <| Fp 8 sh rfl (fun w => Y_lens un9 rfl) <| Fp 9 sh rfl (fun w => Y_eql rfl rfl) <| FE sh (a6 _ _ <| W_if rfl (fun am => ?_) (fun am => ?_))
  ·rw [if_pos am] at H
   refine Wr fun b7 a7 => Mv rfl <| Onp rfl <| Ofd fo163_2 rfl <| Obx 0 ag3 hs rfl <| As rfl <| As rfl <| Ox a7 <| W.weak [(2, _), (3, _)] (T2 rfl) <| W_ret ?_
   obtain rfl := sinj H
   exact ret2 rfl rfl rfl ⟨rfl, hs⟩
  ·rw [if_neg am] at H
   refine Wx a5 <| Wr fun b8 a8 => Mv rfl <| Onp rfl <| Ofd fo163_2 rfl <| Obx 0 ag3 hs rfl <| As rfl <| Ox a8 <| W.weak [(0, _), (4, _), (5, _), (6, _)] (T4 rfl) <| W_seq fun b9 a9 => W_drawS 12 [0, 1, 2, 4, 0, 16, 32, 64, 0, 384, 520, 2047] [2044, 2040, 2032, 1008, 1999, 1935, 1807, 1295, 1279, 15, 0, 0] [0, 1, 3, 7, 0, 16, 48, 112, 0, 496, 1023, 2047] [10, 11] (fun w => St w0 ρ ((.box pb0 163 ([.int .i64 y0_0, .int .i64 y0_1, .int .i64 y0_2, .int .i64 y0_3, .int .i64 y0_4, .int .i64 y0_5, .int .i64 y0_6, .int .u8 y0_7, .string y0_8, .int .i64 aa, w1, .int .i64 y0_11, .int .i64 ab, .int .i64 y0_13])) :: (.row w1 21 ((Rep.int .i32).sz) y1.length d1) :: Γ) w) mixed (by kernel_rfl) (fun sh => ?_)
   have hs := hs.drew
   refine Fm 0 sh rfl <| Fp 1 sh rfl (fun w => Y_nilp rfl) <| Fp 2 sh rfl (fun w => Y_field fo163_0 rfl) <| Fy 3 sh rfl hs (fun w hs => Y_loadbN (i := 0) ag117 sz117 hs rfl rfl rfl rfl) <| Fm 4 sh rfl <| Fp 5 sh rfl (fun w => Y_nilp rfl) <| Fp 6 sh rfl (fun w => Y_field fo163_1 rfl) <| Fy 7 sh rfl hs (fun w hs => Yb 0 ag9 hs rfl rfl rfl) <| Fm 8 sh rfl ?_
   obtain ⟨a0, H⟩ := gd H
   refine Fp 9 sh rfl (fun w => Y_ixs un9 rfl rfl a0.1 a0.2) <| F1 10 sh rfl (fun ca ba => ?_)
   obtain ⟨ag, an, H⟩ := bnd H
   refine Oc rfl (puny_boot_digit.c hs (show rS11.R ρ _ (⟨y0_0, y0_1, y0_2, y0_3, y0_4, y0_5, y0_6, y0_7⟩ : S11) from rfl) an) (fun cb w hpost => ?_)
   obtain ⟨rfl, hs⟩ := hpost
   refine O_nil (ba _ _ (fun h _ => absurd h (by decide)) <| OD_resetS sh [] hs (by kernel_rfl) <| Fp 11 sh rfl (fun w => Y_assign rfl) <| FE sh (a9 _ _ <| W.weak [(0, _), (4, _), (5, _), (6, _), (7, _)] sbn ?_))
   refine W_seq fun cc bb => Wr fun cd bc => Mv rfl <| Ols rfl <| Ox bc <| W_if rfl (fun ao => ?_) (fun ao => ?_)
   ·rw [if_pos ao] at H
    refine Wr fun ce bd => Mv rfl <| As rfl <| As rfl <| Ox bd <| W_ret ?_
    obtain rfl := sinj H
    exact ret2 rfl rfl rfl ⟨rfl, hs⟩
   ·rw [if_neg ao] at H
    refine Wx bb <| Wr fun cf be => Mv rfl <| Onp rfl <| Ofd fo163_2 rfl <| Obx 0 ag3 hs rfl <| Oad rfl <| Onp rfl <| Ofd fo163_2 rfl <| O_store (i := 0) sz3 hs rfl rfl rfl rfl rfl (fun w hs => Ox be <| W_seq fun cg bf => W_seq fun ch bg => ?_)
    refine W_region <| Mv rfl <| Onp rfl <| Ofd fo163_5 rfl <| Obx 0 ag3 hs rfl <| Mv rfl <| Mv rfl <| Oml rfl <| Oad rfl <| Onp rfl <| Ofd fo163_5 rfl <| O_store (i := 0) sz3 hs rfl rfl rfl rfl rfl (fun w hs => Ox bg <| W.weak [(0, _), (4, _), (5, _), (6, _), (7, _)] sbn ?_)
    refine Wr fun ci bh => Mv rfl <| Onp rfl <| Ofd fo163_5 rfl <| Obx 0 ag3 hs rfl <| Ogt rfl <| Ox bh <| W_if rfl (fun ai => ?_) (fun ai => ?_)
    ·rw [if_pos ai] at H
     refine Wr fun bi ap => Mv rfl <| As rfl <| As rfl <| Ox ap <| W_ret ?_
     obtain rfl := sinj H
     exact ret2 rfl rfl rfl ⟨rfl, hs⟩
    ·rw [if_neg ai] at H
     refine Wx bf <| W_seq fun bj aq => W_drawS 11 [0, 1, 2, 4, 0, 0, 32, 64, 128, 280, 1023] [1020, 1016, 1008, 496, 495, 927, 799, 543, 31, 0, 0] [0, 1, 3, 7, 0, 0, 32, 96, 224, 511, 1023] [9, 10] (fun w => St w0 ρ ((.box pb0 163 ([.int .i64 y0_0, .int .i64 y0_1, .int .i64 y0_2, .int .i64 y0_3, .int .i64 y0_4, .int .i64 y0_5, .int .i64 y0_6, .int .u8 y0_7, .string y0_8, .int .i64 (IntKind.i64.wrap (aa + 1)), w1, .int .i64 y0_11, .int .i64 (IntKind.i64.wrap (ab + (IntKind.i64.wrap (ag * ac)))), .int .i64 y0_13])) :: (.row w1 21 ((Rep.int .i32).sz) y1.length d1) :: Γ) w) mixed (by kernel_rfl) (fun sh => ?_)
     have hs := hs.drew
     refine Fm 0 sh rfl <| Fp 1 sh rfl (fun w => Y_nilp rfl) <| Fp 2 sh rfl (fun w => Y_field fo163_0 rfl) <| Fy 3 sh rfl hs (fun w hs => Y_loadbN (i := 0) ag117 sz117 hs rfl rfl rfl rfl) <| Fm 4 sh rfl <| Fm 5 sh rfl <| Fp 6 sh rfl (fun w => Y_nilp rfl) <| Fp 7 sh rfl (fun w => Y_field fo163_6 rfl) <| Fy 8 sh rfl hs (fun w hs => Yb 0 ag3 hs rfl rfl rfl) <| F1 9 sh rfl (fun bk ar => ?_)
     obtain ⟨af, al, H⟩ := bnd H
     refine Oc rfl (puny_boot_threshold.c hs (show rS11.R ρ _ (⟨y0_0, y0_1, y0_2, y0_3, y0_4, y0_5, y0_6, y0_7⟩ : S11) from rfl) al) (fun bl w hpost => ?_)
     obtain ⟨rfl, hs⟩ := hpost
     refine O_nil (ar _ _ (fun h _ => absurd h (by decide)) <| OD_resetS sh [] hs (by kernel_rfl) <| Fp 10 sh rfl (fun w => Y_assign rfl) <| FE sh (aq _ _ <| W.weak [(0, _), (4, _), (5, _), (6, _), (7, _), (8, _)] sbn ?_))
     refine W_seq fun bm au => Wr fun bn av => Mv rfl <| Mv rfl <| Ols rfl <| Ox av <| W_if rfl (fun aj => ?_) (fun aj => ?_)
     ·rw [if_pos aj] at H
      refine Wr fun bo aw => As rfl <| As rfl <| Ox aw <| W_ret ?_
      obtain rfl := sinj H
      exact ret2 rfl rfl rfl ⟨rfl, hs⟩
     ·rw [if_neg aj] at H
      refine Wx au <| Wr fun bp ax => Mv rfl <| Mv rfl <| Onp rfl <| Ofd fo163_0 rfl <| Ofd fo117_0 rfl <| Obx 0 ag3 hs rfl <| Mv rfl <| Osu rfl <| Oml rfl <| As rfl <| O_nil (ax _ _ ?_)
      refine W.weak [(0, _), (4, _), (5, _), (6, _)] (T4 rfl) <| Wr fun bq ay => Mv rfl <| Ogt rfl <| Ox ay <| W_if rfl (fun ak => ?_) (fun ak => ?_)
      ·rw [if_pos ak] at H
       refine Wr fun br az => Mv rfl <| As rfl <| As rfl <| Ox az <| W_ret ?_
       obtain rfl := sinj H
       exact ret2 rfl rfl rfl ⟨rfl, hs⟩
      ·rw [if_neg ak] at H
       refine Wx a4 <| W_region <| Mv rfl <| Mv rfl <| Onp rfl <| Ofd fo163_0 rfl <| Ofd fo117_0 rfl <| Obx 0 ag3 hs rfl <| Oad rfl <| As rfl <| O_nil (ah (ae, (IntKind.i64.wrap (aa + 1)), (IntKind.i64.wrap (ab + (IntKind.i64.wrap (ag * ac)))), (IntKind.i64.wrap (ac * (IntKind.i64.wrap (y0_0 - af)))), (IntKind.i64.wrap (ad + y0_0))) _ _ (T3 rfl) (Ai H hs) (Nat.lt_succ_self _))

def puny_boot_adapted.l1 : Nat → S11 → Int → Int → Option Int
  | 0, _, _, _ => none
  | ad + 1, x0, ab, aa => if (IntKind.i64.wrap ((IntKind.i64.wrap ((IntKind.i64.wrap (x0.base - x0.least)) * x0.most)).tdiv 2)) < ab then (if (IntKind.i64.wrap (x0.base - x0.least)) ≠ 0 then ((puny_boot_adapted.l1 ad x0) (IntKind.i64.wrap (ab.tdiv (IntKind.i64.wrap (x0.base - x0.least)))) (IntKind.i64.wrap (aa + x0.base))) else none) else (if (IntKind.i64.wrap (ab + x0.skew)) ≠ 0 then (some (IntKind.i64.wrap (aa + (IntKind.i64.wrap ((IntKind.i64.wrap ((IntKind.i64.wrap ((IntKind.i64.wrap (x0.base - x0.least)) + 1)) * ab)).tdiv (IntKind.i64.wrap (ab + x0.skew))))))) else none)
def puny_boot_adapted.j1 (x0 : S11) (x2 ac : Int) : Option Int := if x2 ≠ 0 then (puny_boot_adapted.l1 K0 x0 (IntKind.i64.wrap (ac + (IntKind.i64.wrap (ac.tdiv x2)))) 0) else none
def puny_boot_adapted.f (x0 : S11) (x1 x2 : Int) (x3 : Bool) : Option Int := if x3 = true then (if x0.damp ≠ 0 then (puny_boot_adapted.j1 x0 x2 (IntKind.i64.wrap (x1.tdiv x0.damp))) else none) else (puny_boot_adapted.j1 x0 x2 (IntKind.i64.wrap (x1.tdiv 2)))
theorem puny_boot_adapted.c (hs : St w0 ρ (Γ) w) {c0 : List Value} {x0 : S11} (h0 : rS11.R ρ c0 x0) {x1 x2 : Int} {x3 : Bool} {r : Int} (H : puny_boot_adapted.f x0 x1 x2 x3 = some r) : CallsR Tryz.prog 123 [.agg c0.toArray, .int .i64 x1, .int .i64 x2, .bool x3] w (fun v w' => v = .int .i64 r ∧ St w0 ρ Γ w') := by
  rw [puny_boot_adapted.f] at H
  refine Et Tryz.func123 Tryz.ntmps123 rfl ?_
  have ak := h0
  obtain rfl := ak
  refine Wr fun a4 al => O_boxN (cs := [.int .i64 x0.base, .int .i64 x0.least, .int .i64 x0.most, .int .i64 x0.skew, .int .i64 x0.damp, .int .i64 x0.bias, .int .i64 x0.first, .int .u8 x0.between]) hs rfl rfl (fun af w hs => As rfl <| Ox al <| W_seqj fun am an ai => ?_)
  have aj : ∀ (ac : Int) (w : World), puny_boot_adapted.j1 x0 x2 ac = some r → St w0 ρ ((.box af 117 ([.int .i64 x0.base, .int .i64 x0.least, .int .i64 x0.most, .int .i64 x0.skew, .int .i64 x0.damp, .int .i64 x0.bias, .int .i64 x0.first, .int .u8 x0.between])) :: Γ) w → am [(1, .int .i64 ac), (2, .int .i64 x2), (4, .pointer (some ⟨af, 0, none⟩))] w := by
   intro ac w H hs
   rw [puny_boot_adapted.j1] at H
   refine an _ _ <| Wr fun a5 ao => Mv rfl <| Mv rfl <| Mv rfl ?_
   obtain ⟨ap, H⟩ := gd H
   refine O_y rfl (Y_quo rfl rfl ap) <| Oad rfl <| As rfl <| Ox ao <| Wr fun a6 aq => Ofd fo117_0 rfl <| Obx 0 ag3 hs rfl <| Ofd fo117_1 rfl <| Obx 0 ag3 hs rfl <| Osu rfl <| As rfl <| Ox aq <| W_seq fun a7 ar => ?_
   refine W_region <| As rfl <| Ox ar <| W.weak [(1, _), (4, _), (9, _), (10, _)] (T4 rfl) <| W_seq fun a8 au => W_block fun a9 av ba => W_loop (σ := Nat × Int × Int) (fun (ad, ab, aa) => [(1, .int .i64 ab), (4, .pointer (some ⟨af, 0, none⟩)), (9, .int .i64 (IntKind.i64.wrap (x0.base - x0.least))), (10, .int .i64 aa)]) (fun (ad, ab, aa) w => puny_boot_adapted.l1 ad x0 ab aa = some r ∧ St w0 ρ ((.box af 117 ([.int .i64 x0.base, .int .i64 x0.least, .int .i64 x0.most, .int .i64 x0.skew, .int .i64 x0.damp, .int .i64 x0.bias, .int .i64 x0.first, .int .u8 x0.between])) :: Γ) w) (fun s => s.1) (K0, (IntKind.i64.wrap (ac + (IntKind.i64.wrap (ac.tdiv x2)))), 0) (T4 rfl) (Ai H hs) ?_
   rintro ⟨ad, ab, aa⟩ w bb ⟨H, hs⟩ ae
   show W _ _ _ _ _ _ [(1, .int .i64 ab), (4, .pointer (some ⟨af, 0, none⟩)), (9, .int .i64 (IntKind.i64.wrap (x0.base - x0.least))), (10, .int .i64 aa)] w
   cases ad with
   | zero => rw [puny_boot_adapted.l1] at H; cases H
   | succ ad =>
   rw [puny_boot_adapted.l1] at H
   refine W_seq fun bc aw => Wr fun bd ax => Mv rfl <| Mv rfl <| Ofd fo117_2 rfl <| Obx 0 ag3 hs rfl <| Oml rfl <| O_y rfl (Y_quo rfl rfl (by decide)) <| Ogt rfl <| Ox ax <| W_if rfl (fun ag => ?_) (fun ag => ?_)
   ·rw [if_pos ag] at H
    refine Wx aw <| W_seq fun be ay => W_block fun bf bg bh => W_region <| Mv rfl <| Mv rfl ?_
    obtain ⟨az, H⟩ := gd H
    refine O_y rfl (Y_quo rfl rfl az) <| As rfl <| Ox ay <| W_region <| Mv rfl <| Ofd fo117_0 rfl <| Obx 0 ag3 hs rfl <| Oad rfl <| As rfl <| O_nil (ae (ad, (IntKind.i64.wrap (ab.tdiv (IntKind.i64.wrap (x0.base - x0.least)))), (IntKind.i64.wrap (aa + x0.base))) _ _ (T4 rfl) (Ai H hs) (Nat.lt_succ_self _))
   ·rw [if_neg ag] at H
    refine W_exit (av _ _ (au _ _ <| Wr fun bi a0 => Mv rfl <| Mv rfl <| Oad rfl <| Mv rfl <| Oml rfl <| Mv rfl <| Ofd fo117_3 rfl <| Obx 0 ag3 hs rfl <| Oad rfl ?_))
    obtain ⟨a1, H⟩ := gd H
    refine O_y rfl (Y_quo rfl rfl a1) <| Oad rfl <| As rfl <| Ox a0 <| W.weak [(8, _)] (S1 rfl) <| W_ret ?_
    obtain rfl := sinj H
    exact r1 rfl ⟨rfl, (hs.sub (ssk ssr))⟩
  refine Wr fun bj a2 => Mv rfl <| Ox a2 <| W_cond rfl (fun ah => ?_) (fun ah => ?_)
  ·rw [if_pos ah] at H
   refine W_region <| Mv rfl <| Ofd fo117_4 rfl <| Obx 0 ag3 hs rfl ?_
   obtain ⟨a3, H⟩ := gd H
   refine O_y rfl (Y_quo rfl rfl a3) <| As rfl <| O_nil (ai _ _ _ (T3 rfl) (aj (IntKind.i64.wrap (x1.tdiv x0.damp)) _ H hs))
  ·rw [if_neg (bft ah)] at H
   refine W_region <| Mv rfl <| O_y rfl (Y_quo rfl rfl (by decide)) <| As rfl <| O_nil (ai _ _ _ (T3 rfl) (aj (IntKind.i64.wrap (x1.tdiv 2)) _ H hs))

def unicode_utf8_ValidRune.j1 (aa : Bool) : Option Bool := if aa = true then (some true) else (some false)
def unicode_utf8_ValidRune.j2 (x0 : Int) (ab : Bool) : Option Bool := if ab = true then (some true) else (if 57343 < x0 then (unicode_utf8_ValidRune.j1 (decide (x0 ≤ 1114111))) else (unicode_utf8_ValidRune.j1 false))
def unicode_utf8_ValidRune.f (x0 : Int) : Option Bool := if 0 ≤ x0 then (unicode_utf8_ValidRune.j2 x0 (decide (x0 < 55296))) else (unicode_utf8_ValidRune.j2 x0 false)
theorem unicode_utf8_ValidRune.c (hs : St w0 ρ (Γ) w) {x0 : Int} {r : Bool} (H : unicode_utf8_ValidRune.f x0 = some r) : CallsR Tryz.prog 173 [.int .i32 x0] w (fun v w' => v = .bool r ∧ St w0 ρ Γ w') := by
  rw [unicode_utf8_ValidRune.f] at H
  refine Et Tryz.func173 Tryz.ntmps173 rfl <| Wr fun av ak => As rfl <| Ox ak <| W_seq fun aw al => W_block fun ax ay az => W_seqj fun am an ag => ?_
  have ah : ∀ (ab : Bool) (w : World), unicode_utf8_ValidRune.j2 x0 ab = some r → St w0 ρ (Γ) w → am [(0, .int .i32 x0), (3, .bool ab)] w := by
   intro ab w H hs
   rw [unicode_utf8_ValidRune.j2] at H
   refine an _ _ <| W_cond rfl (fun ac => ?_) (fun ac => ?_)
   ·rw [if_pos ac] at H
    refine Wr fun a0 ao => As rfl <| Ox ao <| W_ret ?_
    obtain rfl := sinj H
    exact r1 rfl ⟨rfl, hs⟩
   ·rw [if_neg (bft ac)] at H
    refine W_seqj fun ap aq ai => ?_
    have aj : ∀ (aa : Bool) (w : World), unicode_utf8_ValidRune.j1 aa = some r → St w0 ρ (Γ) w → ap [(10, .bool aa)] w := by
     intro aa w H hs
     rw [unicode_utf8_ValidRune.j1] at H
     refine aq _ _ <| W_cond rfl (fun ad => ?_) (fun ad => ?_)
     ·rw [if_pos ad] at H
      refine Wr fun a1 ar => As rfl <| Ox ar <| W_ret ?_
      obtain rfl := sinj H
      exact r1 rfl ⟨rfl, hs⟩
     ·rw [if_neg (bft ad)] at H
      refine Wx al <| Wr fun a2 au => As rfl <| Ox au <| W_ret ?_
      obtain rfl := sinj H
      exact r1 rfl ⟨rfl, hs⟩
    refine W_region <| Mv rfl <| Ols rfl <| Mv rfl <| O_if (dj := 13) rfl (fun ae => ?_) (fun ae => ?_)
    ·rw [if_pos ae] at H
     refine Oe rfl <| Mv rfl <| Oe rfl <| Ole rfl <| Opk rfl <| As rfl <| O_nil (ai _ _ _ (S1 rfl) (aj (decide (x0 ≤ 1114111)) _ H hs))
    ·rw [if_neg ae] at H
     refine On rfl <| On rfl <| Opk rfl <| As rfl <| O_nil (ai _ _ _ (S1 rfl) (aj false _ H hs))
  refine W_region <| Mv rfl <| Ole rfl <| Mv rfl <| O_if (dj := 6) rfl (fun af => ?_) (fun af => ?_)
  ·rw [if_pos af] at H
   refine Oe rfl <| Mv rfl <| Oe rfl <| Ols rfl <| Opk rfl <| As rfl <| O_nil (ag _ _ _ (T2 rfl) (ah (decide (x0 < 55296)) _ H hs))
  ·rw [if_neg af] at H
   refine On rfl <| On rfl <| Opk rfl <| As rfl <| O_nil (ag _ _ _ (T2 rfl) (ah false _ H hs))

def scalar_Scalar.f (x0 : Int) : Option Bool := (unicode_utf8_ValidRune.f x0).bind fun ab => (some ab)
theorem scalar_Scalar.c (hs : St w0 ρ (Γ) w) {x0 : Int} {r : Bool} (H : scalar_Scalar.f x0 = some r) : CallsR Tryz.prog 155 [.int .i32 x0] w (fun v w' => v = .bool r ∧ St w0 ρ Γ w') := by
  rw [scalar_Scalar.f] at H
  refine Et Tryz.func155 Tryz.ntmps155 rfl <| Wr fun ae ac => As rfl <| Ox ac <| Wr fun af ad => Mv rfl ?_
  obtain ⟨ab, aa, H⟩ := bnd H
  refine Oc rfl (unicode_utf8_ValidRune.c hs aa) (fun ag w hpost => ?_)
  obtain ⟨rfl, hs⟩ := hpost
  refine As rfl <| Ox ad <| W_ret ?_
  obtain rfl := sinj H
  exact r1 rfl ⟨rfl, hs⟩

def puny_reader_next_ndm.f (y0_0 y0_1 y0_2 y0_3 y0_4 y0_5 y0_6 y0_7 : Int) (y0_8 : ByteArray) (y0_9 y0_11 y0_12 y0_13 : Int) (y1 : List Int) : Option (Int × Int × Int × Int × Int × Int × List Int) := (puny_reader_number_ndm.f y0_0 y0_1 y0_2 y0_3 y0_4 y0_5 y0_6 y0_7 y0_8 y0_9 y0_11 y0_12 y0_13 y1).bind fun aa => (if aa.2.1 ≠ 0 then (some (aa.1, aa.2.1, aa.2.2.1, y0_11, aa.2.2.2, y0_13, y1)) else ((puny_boot_adapted.f (⟨y0_0, y0_1, y0_2, y0_3, y0_4, y0_5, y0_6, y0_7⟩ : S11) (IntKind.i64.wrap (aa.2.2.2 - y0_12)) (IntKind.i64.wrap ((y1.length : Int) + 1)) (decide (y0_12 = 0))).bind fun ad => (if (IntKind.i64.wrap ((y1.length : Int) + 1)) ≠ 0 then (if 1114111 < (IntKind.i64.wrap (y0_11 + (IntKind.i64.wrap (aa.2.2.2.tdiv (IntKind.i64.wrap ((y1.length : Int) + 1)))))) then (some (IntKind.i64.wrap (aa.2.2.1 - 1), 142, aa.2.2.1, IntKind.i64.wrap (y0_11 + (IntKind.i64.wrap (aa.2.2.2.tdiv (IntKind.i64.wrap ((y1.length : Int) + 1))))), aa.2.2.2.tmod (IntKind.i64.wrap ((y1.length : Int) + 1)), ad, y1)) else ((scalar_Scalar.f (IntKind.i32.wrap (IntKind.i64.wrap (y0_11 + (IntKind.i64.wrap (aa.2.2.2.tdiv (IntKind.i64.wrap ((y1.length : Int) + 1)))))))).bind fun au => (if (!au) = true then (some (IntKind.i64.wrap (aa.2.2.1 - 1), 143, aa.2.2.1, IntKind.i64.wrap (y0_11 + (IntKind.i64.wrap (aa.2.2.2.tdiv (IntKind.i64.wrap ((y1.length : Int) + 1))))), aa.2.2.2.tmod (IntKind.i64.wrap ((y1.length : Int) + 1)), ad, y1)) else (if (0 : Int) ≤ aa.2.2.2.tmod (IntKind.i64.wrap ((y1.length : Int) + 1)) ∧ aa.2.2.2.tmod (IntKind.i64.wrap ((y1.length : Int) + 1)) ≤ (y1.length : Int) ∧ y1.length + 1 ≤ most then (some (0, 0, aa.2.2.1, IntKind.i64.wrap (y0_11 + (IntKind.i64.wrap (aa.2.2.2.tdiv (IntKind.i64.wrap ((y1.length : Int) + 1))))), IntKind.i64.wrap ((aa.2.2.2.tmod (IntKind.i64.wrap ((y1.length : Int) + 1))) + 1), ad, insZ y1 (aa.2.2.2.tmod (IntKind.i64.wrap ((y1.length : Int) + 1))) (IntKind.i32.wrap (IntKind.i64.wrap (y0_11 + (IntKind.i64.wrap (aa.2.2.2.tdiv (IntKind.i64.wrap ((y1.length : Int) + 1))))))))) else none)))) else none)))
theorem puny_reader_next_ndm.c {pb0 : Nat} {y0_0 y0_1 y0_2 y0_3 y0_4 y0_5 y0_6 y0_7 : Int} {y0_8 : ByteArray} {y0_9 y0_11 y0_12 y0_13 : Int} {w1 : Value} {d1 : List Value} {y1 : List Int} (hs : St w0 ρ ((.box pb0 163 ([.int .i64 y0_0, .int .i64 y0_1, .int .i64 y0_2, .int .i64 y0_3, .int .i64 y0_4, .int .i64 y0_5, .int .i64 y0_6, .int .u8 y0_7, .string y0_8, .int .i64 y0_9, w1, .int .i64 y0_11, .int .i64 y0_12, .int .i64 y0_13])) :: (.row w1 21 ((Rep.int .i32).sz) y1.length d1) :: Γ) w) (g1 : RowR (Rep.int .i32) ρ d1 y1) {r : Int × Int × Int × Int × Int × Int × List Int} (H : puny_reader_next_ndm.f y0_0 y0_1 y0_2 y0_3 y0_4 y0_5 y0_6 y0_7 y0_8 y0_9 y0_11 y0_12 y0_13 y1 = some r) : CallsR Tryz.prog 127 [.pointer (some ⟨pb0, 0, none⟩)] w (fun v w' => ∃ (ρ' : Hp) (u4 : Value) (ds4 : List Value), v = .tuple #[.int .i64 r.1, .int .i64 r.2.1] ∧ Le ρ ρ' ∧ St w0 ρ' ((.box pb0 163 ([.int .i64 y0_0, .int .i64 y0_1, .int .i64 y0_2, .int .i64 y0_3, .int .i64 y0_4, .int .i64 y0_5, .int .i64 y0_6, .int .u8 y0_7, .string y0_8, .int .i64 r.2.2.1, u4, .int .i64 r.2.2.2.1, .int .i64 r.2.2.2.2.1, .int .i64 r.2.2.2.2.2.1])) :: (.row u4 21 ((Rep.int .i32).sz) r.2.2.2.2.2.2.length ds4) :: Γ) w' ∧ RowR (Rep.int .i32) ρ' ds4 r.2.2.2.2.2.2) := by
  rw [puny_reader_next_ndm.f] at H
  refine Et Tryz.func127 Tryz.ntmps127 rfl <| Wr fun bn ax => As rfl <| As rfl <| Ox ax <| Wr fun bo ay => Mv rfl <| Onp rfl <| Ofd fo163_5 rfl <| Obx 0 ag3 hs rfl <| As rfl <| O_nil (ay _ _ ?_)
  refine W_seq fun bp az => Wr fun bq a0 => Mv rfl ?_
  have hs := hs.front 1 rfl
  have hs := hs.front 1 rfl
  obtain ⟨aa, ae, H⟩ := bnd H
  refine Oc rfl (puny_reader_number_ndm.c hs g1 ae) (fun br w hpost => ?_)
  obtain ⟨rfl, hs⟩ := hpost
  have hs := hs.sink 1
  have hs := hs.sink 1
  refine Mv rfl <| Oxt rfl <| Oxt rfl <| As rfl <| As rfl <| Ox a0 <| W.weak [(0, _), (4, _), (5, _), (6, _)] (T4 rfl) <| Wr fun bs a1 => Mv rfl <| One rfl <| Ox a1 <| W_if rfl (fun af => ?_) (fun af => ?_)
  ·rw [if_pos af] at H
   refine Wr fun bt a2 => Mv rfl <| Mv rfl <| As rfl <| As rfl <| Ox a2 <| W_ret ?_
   obtain rfl := sinj H
   exact ret2 rfl rfl rfl ⟨_, _, _, rfl, Le.rfl' _, hs, g1⟩
  ·rw [if_neg af] at H
   refine Wx az <| Wr fun bu a3 => Mv rfl <| Onp rfl <| Ofd fo163_3 rfl <| Obx 0 ag28 hs rfl <| O_y rfl (Y_lenRow (i := 1) un28 hs rfl rfl) <| Oad rfl <| As rfl <| Ox a3 <| W_seq fun bv a4 => W_drawS 18 [0, 0, 2, 4, 8, 0, 32, 64, 128, 0, 768, 0, 0, 4096, 11280, 32767, 65535, 98303] [32766, 32761, 32753, 32737, 16353, 32671, 32543, 32287, 31263, 31231, 14367, 14335, 20479, 4095, 1, 131072, 0, 0] [0, 0, 2, 6, 14, 0, 32, 96, 224, 0, 992, 0, 0, 4096, 16382, 32767, 65535, 131071] [14, 15, 16, 17] (fun w => St w0 ρ ((.box pb0 163 ([.int .i64 y0_0, .int .i64 y0_1, .int .i64 y0_2, .int .i64 y0_3, .int .i64 y0_4, .int .i64 y0_5, .int .i64 y0_6, .int .u8 y0_7, .string y0_8, .int .i64 aa.2.2.1, w1, .int .i64 y0_11, .int .i64 aa.2.2.2, .int .i64 y0_13])) :: (.row w1 21 ((Rep.int .i32).sz) y1.length d1) :: Γ) w) mixed (by kernel_rfl) (fun sh => ?_)
   have hs := hs.drew
   refine Fm 0 sh rfl <| Fm 1 sh rfl <| Fp 2 sh rfl (fun w => Y_nilp rfl) <| Fp 3 sh rfl (fun w => Y_field fo163_0 rfl) <| Fy 4 sh rfl hs (fun w hs => Y_loadbN (i := 0) ag117 sz117 hs rfl rfl rfl rfl) <| Fm 5 sh rfl <| Fp 6 sh rfl (fun w => Y_nilp rfl) <| Fp 7 sh rfl (fun w => Y_field fo163_5 rfl) <| Fy 8 sh rfl hs (fun w hs => Yb 0 ag3 hs rfl rfl rfl) <| Fm 9 sh rfl <| Fp 10 sh rfl (fun w => Y_sub rfl rfl) <| Fm 11 sh rfl <| Fm 12 sh rfl <| Fp 13 sh rfl (fun w => Y_eql rfl rfl) ?_
   refine F1 14 sh rfl (fun bw a5 => ?_)
   obtain ⟨ad, ag, H⟩ := bnd H
   refine Oc rfl (puny_boot_adapted.c hs (show rS11.R ρ _ (⟨y0_0, y0_1, y0_2, y0_3, y0_4, y0_5, y0_6, y0_7⟩ : S11) from rfl) ag) (fun bx w hpost => ?_)
   obtain ⟨rfl, hs⟩ := hpost
   refine O_nil (a5 _ _ (fun h _ => absurd h (by decide)) <| OD_resetS sh [17] hs (by kernel_rfl) <| Fp 15 sh rfl (fun w => Y_nilp rfl) <| Fp 16 sh rfl (fun w => Y_field fo163_6 rfl) <| F1 17 sh rfl (fun bz a6 => O_store (i := 0) sz3 hs rfl rfl rfl rfl rfl (fun w hs => O_nil (a6 _ _ (fun h _ => absurd h (by decide)) <| FE sh (a4 _ _ <| W.weak [(0, _), (7, _)] (T2 rfl) <| W_seq fun b0 a7 => W_drawS 14 [0, 1, 2, 4, 0, 16, 32, 64, 0, 384, 520, 2047, 4095, 6143] [2044, 2040, 2032, 1008, 1999, 1935, 1807, 1295, 1279, 15, 0, 8192, 0, 0] [0, 1, 3, 7, 0, 16, 48, 112, 0, 496, 1023, 2047, 4095, 8191] [13] (fun w => St w0 ρ ((.box pb0 163 ([.int .i64 y0_0, .int .i64 y0_1, .int .i64 y0_2, .int .i64 y0_3, .int .i64 y0_4, .int .i64 y0_5, .int .i64 y0_6, .int .u8 y0_7, .string y0_8, .int .i64 aa.2.2.1, w1, .int .i64 y0_11, .int .i64 aa.2.2.2, .int .i64 ad])) :: (.row w1 21 ((Rep.int .i32).sz) y1.length d1) :: Γ) w) mixed (by kernel_rfl) (fun sh => ?_))))))
   have hs := hs.drew
   refine Fm 0 sh rfl <| Fp 1 sh rfl (fun w => Y_nilp rfl) <| Fp 2 sh rfl (fun w => Y_field fo163_4 rfl) <| Fy 3 sh rfl hs (fun w hs => Yb 0 ag3 hs rfl rfl rfl) <| Fm 4 sh rfl <| Fp 5 sh rfl (fun w => Y_nilp rfl) <| Fp 6 sh rfl (fun w => Y_field fo163_5 rfl) <| Fy 7 sh rfl hs (fun w hs => Yb 0 ag3 hs rfl rfl rfl) <| Fm 8 sh rfl ?_
   obtain ⟨av, H⟩ := gd H
   refine Fp 9 sh rfl (fun w => Y_quo rfl rfl av) <| Fp 10 sh rfl (fun w => Y_add rfl rfl) <| Fp 11 sh rfl (fun w => Y_nilp rfl) <| Fp 12 sh rfl (fun w => Y_field fo163_4 rfl) <| F1 13 sh rfl (fun b1 a8 => O_store (i := 0) sz3 hs rfl rfl rfl rfl rfl (fun w hs => O_nil (a8 _ _ (fun h _ => absurd h (by decide)) <| FE sh (a7 _ _ <| W.weak [(0, _), (7, _)] (T2 rfl) <| Wr fun b2 a9 => Mv rfl <| Onp rfl <| Ofd fo163_5 rfl ?_))))
   refine Obx 0 ag3 hs rfl <| Mv rfl <| O_y rfl (Y_rem rfl rfl av) <| Onp rfl <| Ofd fo163_5 rfl <| O_store (i := 0) sz3 hs rfl rfl rfl rfl rfl (fun w hs => Ox a9 <| W_seq fun b3 ba => W_block fun b4 b5 b6 => Wr fun b7 bb => Mv rfl <| Onp rfl <| Ofd fo163_4 rfl ?_)
   refine Obx 0 ag3 hs rfl <| Ogt rfl <| As rfl <| Ox bb <| W.weak [(0, _), (65, _)] (T2 rfl) <| W_if rfl (fun ah => ?_) (fun ah => ?_)
   ·rw [if_pos ah] at H
    refine Wr fun b8 bc => Mv rfl <| Onp rfl <| Ofd fo163_2 rfl <| Obx 0 ag3 hs rfl <| Osu rfl <| As rfl <| As rfl <| Ox bc <| W_ret ?_
    obtain rfl := sinj H
    exact ret2 rfl rfl rfl ⟨_, _, _, rfl, Le.rfl' _, hs, g1⟩
   ·rw [if_neg ah] at H
    refine Wr fun b9 bd => Mv rfl <| Onp rfl <| Ofd fo163_4 rfl <| Obx 0 ag3 hs rfl <| O_y rfl (Y_conv un3 un21 rfl) ?_
    obtain ⟨au, ai, H⟩ := bnd H
    refine Oc rfl (scalar_Scalar.c hs ai) (fun ca w hpost => ?_)
    obtain ⟨rfl, hs⟩ := hpost
    refine Ont rfl <| As rfl <| Ox bd <| W_cond rfl (fun ab => ?_) (fun ab => ?_)
    ·rw [if_pos ab] at H
     refine Wr fun be aj => Mv rfl <| Onp rfl <| Ofd fo163_2 rfl <| Obx 0 ag3 hs rfl <| Osu rfl <| As rfl <| As rfl <| Ox aj <| W.weak [(2, _), (3, _)] (T2 rfl) <| W_ret ?_
     obtain rfl := sinj H
     exact ret2 rfl rfl rfl ⟨_, _, _, rfl, Le.rfl' _, hs, g1⟩
    ·rw [if_neg (bft ab)] at H
     refine Wx ba <| W_seq fun bf ak => W_drawS 19 [0, 0, 2, 4, 8, 0, 32, 64, 128, 0, 512, 1024, 2048, 4096, 8192, 16656, 65535, 131071, 196607] [65534, 65529, 65521, 65505, 32737, 65439, 65311, 65055, 32287, 63999, 61951, 57855, 49663, 33279, 511, 1, 262144, 0, 0] [0, 0, 2, 6, 14, 0, 32, 96, 224, 0, 512, 1536, 3584, 7680, 15872, 32766, 65535, 131071, 262143] [15, 16, 17, 18] (fun w => St w0 ρ ((.box pb0 163 ([.int .i64 y0_0, .int .i64 y0_1, .int .i64 y0_2, .int .i64 y0_3, .int .i64 y0_4, .int .i64 y0_5, .int .i64 y0_6, .int .u8 y0_7, .string y0_8, .int .i64 aa.2.2.1, w1, .int .i64 (IntKind.i64.wrap (y0_11 + (IntKind.i64.wrap (aa.2.2.2.tdiv (IntKind.i64.wrap ((y1.length : Int) + 1)))))), .int .i64 (aa.2.2.2.tmod (IntKind.i64.wrap ((y1.length : Int) + 1))), .int .i64 ad])) :: (.row w1 21 ((Rep.int .i32).sz) y1.length d1) :: Γ) w) mixed (by kernel_rfl) (fun sh => ?_)
     have hs := hs.drew
     refine Fm 0 sh rfl <| Fm 1 sh rfl <| Fp 2 sh rfl (fun w => Y_nilp rfl) <| Fp 3 sh rfl (fun w => Y_field fo163_3 rfl) <| Fy 4 sh rfl hs (fun w hs => Yb 0 ag28 hs rfl rfl rfl) <| Fm 5 sh rfl <| Fp 6 sh rfl (fun w => Y_nilp rfl) <| Fp 7 sh rfl (fun w => Y_field fo163_5 rfl) <| Fy 8 sh rfl hs (fun w hs => Yb 0 ag3 hs rfl rfl rfl) <| Fm 9 sh rfl <| Fp 10 sh rfl (fun w => Y_nilp rfl) <| Fp 11 sh rfl (fun w => Y_field fo163_4 rfl) <| Fy 12 sh rfl hs (fun w hs => Yb 0 ag3 hs rfl rfl rfl) <| Fp 13 sh rfl (fun w => Y_conv un3 un21 rfl) ?_
     refine F1 14 sh rfl (fun bg al => O_lit2 (xs := [.tmp 102]) (cs := [.int .i32 (IntKind.i32.wrap (IntKind.i64.wrap (y0_11 + (IntKind.i64.wrap (aa.2.2.2.tdiv (IntKind.i64.wrap ((y1.length : Int) + 1)))))))]) el28 hs rfl rfl rfl (by decide) (by decide) rfl (sz_cons rfl sz_nil) (flat_cons rfl flat_nil) (fun bh w hs => ?_))
     have am : RowR (Rep.int .i32) ρ ([.int .i32 (IntKind.i32.wrap (IntKind.i64.wrap (y0_11 + (IntKind.i64.wrap (aa.2.2.2.tdiv (IntKind.i64.wrap ((y1.length : Int) + 1)))))))]) [IntKind.i32.wrap (IntKind.i64.wrap (y0_11 + (IntKind.i64.wrap (aa.2.2.2.tdiv (IntKind.i64.wrap ((y1.length : Int) + 1))))))] := RowR.cons (c := [.int .i32 (IntKind.i32.wrap (IntKind.i64.wrap (y0_11 + (IntKind.i64.wrap (aa.2.2.2.tdiv (IntKind.i64.wrap ((y1.length : Int) + 1)))))))]) (x := IntKind.i32.wrap (IntKind.i64.wrap (y0_11 + (IntKind.i64.wrap (aa.2.2.2.tdiv (IntKind.i64.wrap ((y1.length : Int) + 1))))))) rfl (RowR.nil _ _)
     refine O_nil (al _ _ (fun _ _ => (hs.sub (ssk (ssc (ssc ssr))))) ?_)
     obtain ⟨ac, H⟩ := gd H
     refine F1 15 sh rfl (fun bi an => ?_)
     have hs := hs.front 2 rfl
     refine Oc rfl (slices_Insert.c hs g1 am ac.1 ac.2.1 ac.2.2) (fun bj w hpost => ?_)
     obtain ⟨aw, hs, ao⟩ := hpost
     have hs := hs.sink 1
     refine O_nil (an _ _ (fun h _ => absurd h (by decide)) <| OD_resetS sh [18] hs (by kernel_rfl) <| Fp 16 sh rfl (fun w => Y_nilp rfl) <| Fp 17 sh rfl (fun w => Y_field fo163_3 rfl) <| F1 18 sh rfl (fun bk ap => O_store (i := 0) sz28 hs rfl rfl rfl rfl (St.rowOne hs (j := 1) rfl) (fun w hs => O_nil (ap _ _ (fun h _ => absurd h (by decide)) <| FE sh (ak _ _ <| W.weak [(0, _)] (S1 rfl) <| Wr fun bl aq => Mv rfl <| Onp rfl <| Ofd fo163_5 rfl ?_)))))
     refine Obx 0 ag3 hs rfl <| Oad rfl <| Onp rfl <| Ofd fo163_5 rfl <| O_store (i := 0) sz3 hs rfl rfl rfl rfl rfl (fun w hs => Ox aq <| Wr fun bm ar => As rfl <| As rfl <| Ox ar <| W_ret ?_)
     obtain rfl := sinj H
     exact ret2 rfl rfl rfl ⟨_, _, _, rfl, Le.rfl' _, hs, ao⟩

def puny_boot_decode.l1 : Nat → S11 → ByteArray → List Int → Int → Int → Int → Int → Option (List Int × Int × Int)
  | 0, _, _, _, _, _, _, _ => none
  | am + 1, x0, x1, ae, aa, ab, ac, ad => if aa < (x1.size : Int) then ((puny_reader_next_ndm.f x0.base x0.least x0.most x0.skew x0.damp x0.bias x0.first x0.between x1 aa ab ac ad ae).bind fun ao => (if ao.2.1 ≠ 0 then (some (([] : List Int), ao.1, ao.2.1)) else ((puny_boot_decode.l1 am x0 x1) ao.2.2.2.2.2.2 ao.2.2.1 ao.2.2.2.1 ao.2.2.2.2.1 ao.2.2.2.2.2.1))) else (some (ae, 0, 0))
def puny_boot_decode.j1 (x0 : S11) (x1 : ByteArray) (ag : List Int) (af : Int) : Option (List Int × Int × Int) := puny_boot_decode.l1 K0 x0 x1 ag af x0.first 0 x0.bias
def puny_boot_decode.f (x0 : S11) (x1 : ByteArray) : Option (List Int × Int × Int) := (strings_LastIndexByte.f x1 x0.between).bind fun al => (if 0 < al then (if (0 : Int) ≤ 0 ∧ 0 ≤ al ∧ al ≤ (x1.size : Int) then ((bytes_IndexFunc_mjo.f (bytesI (x1.extract (0 : Int).toNat (al : Int).toNat)) x0.base x0.least x0.most x0.skew x0.damp x0.bias x0.first x0.between).bind fun ay => (if 0 ≤ ay then (some (([] : List Int), ay, 141)) else (if (runesL (x1.extract (0 : Int).toNat (al : Int).toNat)).length ≤ most then (puny_boot_decode.j1 x0 x1 (runesL (x1.extract (0 : Int).toNat (al : Int).toNat)) (IntKind.i64.wrap (al + 1))) else none))) else none) else (puny_boot_decode.j1 x0 x1 ([] : List Int) 0))
theorem puny_boot_decode.c (hs : St w0 ρ (Γ) w) {c0 : List Value} {x0 : S11} (h0 : rS11.R ρ c0 x0) {x1 : ByteArray} {r : List Int × Int × Int} (H : puny_boot_decode.f x0 x1 = some r) : CallsR Tryz.prog 71 [.agg c0.toArray, .string x1] w (fun v w' => ∃ (ρ' : Hp) (v0 : Value) (cs0 : List Value), v = .tuple #[v0, .int .i64 r.2.1, .int .i64 r.2.2] ∧ Le ρ ρ' ∧ St w0 ρ' (.row v0 21 (Rep.int .i32).sz r.1.length cs0 :: Γ) w' ∧ RowR (Rep.int .i32) ρ' cs0 r.1) := by
  rw [puny_boot_decode.f] at H
  refine Et Tryz.func71 Tryz.ntmps71 rfl ?_
  have bs := h0
  obtain rfl := bs
  refine Wr fun cj bt => O_boxN (cs := [.int .i64 x0.base, .int .i64 x0.least, .int .i64 x0.most, .int .i64 x0.skew, .int .i64 x0.damp, .int .i64 x0.bias, .int .i64 x0.first, .int .u8 x0.between]) hs rfl rfl (fun bo w hs => As rfl <| As rfl <| As rfl <| Ox bt <| Wr fun ck bu => O_y rfl (Y_loadbN (i := 0) ag117 sz117 hs rfl rfl rfl rfl) <| Mv rfl <| Ofd fo117_6 rfl <| Obx 0 ag3 hs rfl <| Ofd fo117_5 rfl ?_)
  refine Obx 0 ag3 hs rfl <| O_y rfl (Y_build (cs := [.int .i64 x0.base, .int .i64 x0.least, .int .i64 x0.most, .int .i64 x0.skew, .int .i64 x0.damp, .int .i64 x0.bias, .int .i64 x0.first, .int .u8 x0.between, .string x1, .int .i64 0, .slice none 0 0, .int .i64 x0.first, .int .i64 0, .int .i64 x0.bias]) zr163 pl163 ((Parts.cons rfl rfl (Parts.cons rfl rfl (Parts.cons rfl rfl (Parts.cons rfl rfl Parts.nil))))) ag163 (by kernel_rfl)) <| O_boxN (cs := [.int .i64 x0.base, .int .i64 x0.least, .int .i64 x0.most, .int .i64 x0.skew, .int .i64 x0.damp, .int .i64 x0.bias, .int .i64 x0.first, .int .u8 x0.between, .string x1, .int .i64 0, .slice none 0 0, .int .i64 x0.first, .int .i64 0, .int .i64 x0.bias]) hs rfl rfl (fun a2 w hs => As rfl <| Ox bu <| W.weak [(1, _), (2, _), (7, _)] (T3 rfl) ?_)
  have hs := hs.rowNil 21 (Rep.int .i32).sz
  have bv := RowR.nil (Rep.int .i32) ρ
  refine W_seqj fun bw bx bp => ?_
  have bq : ∀ (ag : List Int) (af : Int) (ah : Value) (ai : List Value) (ap : Hp) (w : World), puny_boot_decode.j1 x0 x1 ag af = some r → Le ρ ap → St w0 ap ((.row ah 21 ((Rep.int .i32).sz) ag.length ai) :: (.box a2 163 ([.int .i64 x0.base, .int .i64 x0.least, .int .i64 x0.most, .int .i64 x0.skew, .int .i64 x0.damp, .int .i64 x0.bias, .int .i64 x0.first, .int .u8 x0.between, .string x1, .int .i64 af, ah, .int .i64 x0.first, .int .i64 0, .int .i64 x0.bias])) :: (.box bo 117 ([.int .i64 x0.base, .int .i64 x0.least, .int .i64 x0.most, .int .i64 x0.skew, .int .i64 x0.damp, .int .i64 x0.bias, .int .i64 x0.first, .int .u8 x0.between])) :: Γ) w → RowR (Rep.int .i32) ap ai ag → bw [(1, .string x1), (7, .pointer (some ⟨a2, 0, none⟩))] w := by
   intro ag af ah ai ap w H aw hs ar
   rw [puny_boot_decode.j1] at H
   refine bx _ _ <| W_seq fun cl bz => W_block fun cm b0 cn => W_loop (σ := Nat × List Int × Int × Int × Int × Int × Value × List Value × Hp) (fun (am, ae, aa, ab, ac, ad, aj, ak, au) => [(1, .string x1), (7, .pointer (some ⟨a2, 0, none⟩))]) (fun (am, ae, aa, ab, ac, ad, aj, ak, au) w => puny_boot_decode.l1 am x0 x1 ae aa ab ac ad = some r ∧ Le ap au ∧ St w0 au ((.row aj 21 ((Rep.int .i32).sz) ae.length ak) :: (.box a2 163 ([.int .i64 x0.base, .int .i64 x0.least, .int .i64 x0.most, .int .i64 x0.skew, .int .i64 x0.damp, .int .i64 x0.bias, .int .i64 x0.first, .int .u8 x0.between, .string x1, .int .i64 aa, aj, .int .i64 ab, .int .i64 ac, .int .i64 ad])) :: (.box bo 117 ([.int .i64 x0.base, .int .i64 x0.least, .int .i64 x0.most, .int .i64 x0.skew, .int .i64 x0.damp, .int .i64 x0.bias, .int .i64 x0.first, .int .u8 x0.between])) :: Γ) w ∧ RowR (Rep.int .i32) au ak ae) (fun s => s.1) (K0, ag, af, x0.first, 0, x0.bias, ah, ai, ap) (T2 rfl) (Ai H (Ai (Le.rfl' _) (Ai hs ar))) ?_
   rintro ⟨am, ae, aa, ab, ac, ad, aj, ak, au⟩ w co ⟨H, av, hs, an⟩ az
   show W _ _ _ _ _ _ [(1, .string x1), (7, .pointer (some ⟨a2, 0, none⟩))] w
   cases am with
   | zero => rw [puny_boot_decode.l1] at H; cases H
   | succ am =>
   rw [puny_boot_decode.l1] at H
   refine W_seq fun cp b1 => Wr fun cq b2 => Mv rfl <| Onp rfl <| Ofd fo163_2 rfl <| Obx 1 ag3 hs rfl <| Mv rfl <| O_y rfl (Y_lens un9 rfl) <| Ols rfl <| Ox b2 <| W_if rfl (fun a8 => ?_) (fun a8 => ?_)
   ·rw [if_pos a8] at H
    refine Wx b1 <| W_block fun cr ct cu => Wr fun cv b3 => Mv rfl ?_
    have hs := hs.front 1 rfl
    obtain ⟨ao, a9, H⟩ := bnd H
    refine Oc rfl (puny_reader_next_ndm.c hs an a9) (fun cw w hpost => ?_)
    obtain ⟨br, b4, ba, rfl, a3, hs, b5⟩ := hpost
    have hs := hs.sink 1
    refine Mv rfl <| Oxt rfl <| Oxt rfl <| As rfl <| As rfl <| Ox b3 <| W.weak [(1, _), (7, _), (10, _), (11, _)] (T4 rfl) <| Wr fun cx b6 => Mv rfl <| One rfl <| Ox b6 <| W_if rfl (fun bb => ?_) (fun bb => ?_)
    ·rw [if_pos bb] at H
     refine Wr fun cy b7 => Mv rfl <| Mv rfl <| As rfl <| As rfl <| As rfl <| Ox b7 <| W_ret ?_
     have hs := hs.rowNil 21 (Rep.int .i32).sz
     have b8 := RowR.nil (Rep.int .i32) br
     obtain rfl := sinj H
     exact ret3 rfl rfl rfl rfl ⟨_, _, _, rfl, ((aw.trans av).trans a3), (hs.sub (ssc (ssk (ssk (ssk ssr))))), b8⟩
    ·rw [if_neg bb] at H
     exact W_skip (az (am, ao.2.2.2.2.2.2, ao.2.2.1, ao.2.2.2.1, ao.2.2.2.2.1, ao.2.2.2.2.2.1, b4, ba, br) _ _ (T2 rfl) (Ai H (Ai (av.trans a3) (Ai hs b5))) (Nat.lt_succ_self _))
   ·rw [if_neg a8] at H
    refine W_exit (b0 _ _ (bz _ _ <| Wr fun cz b9 => Mv rfl <| Onp rfl <| Ofd fo163_3 rfl <| Obx 1 ag28 hs rfl <| As rfl <| As rfl <| As rfl <| Ox b9 <| W.weak [(4, _), (5, _), (6, _)] (T3 rfl) <| W_ret ?_))
    obtain rfl := sinj H
    exact ret3 rfl rfl rfl rfl ⟨_, _, _, rfl, (aw.trans av), (hs.sub (ssc (ssk (ssk ssr)))), an⟩
  refine Wr fun da bc => Mv rfl <| Ofd fo117_7 rfl <| Obx 2 ag5 hs rfl ?_
  obtain ⟨al, a4, H⟩ := bnd H
  refine Oc rfl (strings_LastIndexByte.c hs a4) (fun ca w hpost => ?_)
  obtain ⟨rfl, hs⟩ := hpost
  refine As rfl <| Ox bc <| Wr fun cb bd => Mv rfl <| Ogt rfl <| Ox bd <| W_if rfl (fun a0 => ?_) (fun a0 => ?_)
  ·rw [if_pos a0] at H
   refine W_seq fun cc be => Wr fun cd bf => Mv rfl <| Mv rfl ?_
   obtain ⟨aq, H⟩ := gd H
   refine O_y rfl (Y_cutS un9 rfl (.inl ⟨rfl, rfl⟩) (.inr ⟨_, _, rfl, rfl⟩) aq.1 aq.2.1 aq.2.2) <| O_bytes un9 un72 un5 hs rfl rfl (fun a5 ce w ax hs bg => O_y rfl (Y_func rfl) ?_)
   have hs := hs.front 2 rfl
   obtain ⟨ay, a6, H⟩ := bnd H
   refine Oc rfl (bytes_IndexFunc_mjo.c hs bg a6) (fun cf w hpost => ?_)
   obtain ⟨rfl, hs⟩ := hpost
   have hs := hs.sink 2
   refine As rfl <| Ox bf <| W.weak [(1, _), (7, _), (8, _), (9, _)] (T4 rfl) <| Wr fun cg bh => Mv rfl <| Oge rfl <| Ox bh <| W_if rfl (fun a1 => ?_) (fun a1 => ?_)
   ·rw [if_pos a1] at H
    refine Wr fun ch bi => Mv rfl <| As rfl <| As rfl <| As rfl <| Ox bi <| W_ret ?_
    have hs := hs.rowNil 21 (Rep.int .i32).sz
    have bj := RowR.nil (Rep.int .i32) a5
    obtain rfl := sinj H
    exact ret3 rfl rfl rfl rfl ⟨_, _, _, rfl, ax, (hs.sub (ssc (ssk (ssk (ssk ssr))))), bj⟩
   ·rw [if_neg a1] at H
    refine Wx be <| Wr fun ci bk => Mv rfl <| Mv rfl <| Mv rfl <| O_y rfl (Y_cutS un9 rfl (.inl ⟨rfl, rfl⟩) (.inr ⟨_, _, rfl, rfl⟩) aq.1 aq.2.1 aq.2.2) ?_
    obtain ⟨bl, H⟩ := gd H
    refine O_runes un9 un28 un21 hs rfl rfl bl (fun bm a7 w hs bn => Onp rfl <| Ofd fo163_3 rfl <| O_store (i := 2) sz28 hs rfl rfl rfl rfl (St.rowOne hs (j := 0) rfl) (fun w hs => Ox bk <| W_region <| Mv rfl <| Mv rfl <| Oad rfl <| Onp rfl <| Ofd fo163_2 rfl <| O_store (i := 2) sz3 hs rfl rfl rfl rfl rfl (fun w hs => ?_)))
    have hs := hs.sub (ssc (ssk (ssc (ssc ssr))))
    have hs := hs.front 2 rfl
    have hs := hs.front 2 rfl
    have hs := hs.front 2 rfl
    exact O_nil (bp _ _ _ (T2 rfl) (bq (runesL (x1.extract (0 : Int).toNat (al : Int).toNat)) (IntKind.i64.wrap (al + 1)) bm a7 a5 _ H ax hs bn))
  ·rw [if_neg a0] at H
   exact W_skip (bp _ _ _ (T2 rfl) (bq ([] : List Int) 0 (.slice none 0 0) ([]) ρ _ H (Le.rfl' _) hs bv))

def puny_Decode.f (x0 : ByteArray) : Option (List Int × Int × Int) := (puny_Usual.f).bind fun af => ((puny_boot_decode.f af x0).bind fun aa => (some (aa.1, aa.2.1, aa.2.2)))
theorem puny_Decode.c (hs : St w0 ρ (Γ) w) {x0 : ByteArray} {r : List Int × Int × Int} (H : puny_Decode.f x0 = some r) : CallsR Tryz.prog 32 [.string x0] w (fun v w' => ∃ (ρ' : Hp) (v0 : Value) (cs0 : List Value), v = .tuple #[v0, .int .i64 r.2.1, .int .i64 r.2.2] ∧ Le ρ ρ' ∧ St w0 ρ' (.row v0 21 (Rep.int .i32).sz r.1.length cs0 :: Γ) w' ∧ RowR (Rep.int .i32) ρ' cs0 r.1) := by
  rw [puny_Decode.f] at H
  refine Et Tryz.func32 Tryz.ntmps32 rfl <| Wr fun an ah => As rfl <| As rfl <| As rfl <| Ox ah <| W_seq fun ao ai => W_region ?_
  obtain ⟨af, ab, H⟩ := bnd H
  refine Oc rfl (puny_Usual.c hs ab) (fun ap w hpost => ?_)
  obtain ⟨aq, aj, rfl, ac, hs, ag⟩ := hpost
  have ak := ag
  obtain rfl := ak
  refine Mv rfl ?_
  obtain ⟨aa, ad, H⟩ := bnd H
  refine Oc rfl (puny_boot_decode.c hs ag ad) (fun ar w hpost => ?_)
  obtain ⟨au, av, al, rfl, ae, hs, am⟩ := hpost
  refine Oxt rfl <| Oxt rfl <| Oxt rfl <| As rfl <| As rfl <| As rfl <| Ox ai <| W_ret ?_
  obtain rfl := sinj H
  exact ret3 rfl rfl rfl rfl ⟨_, _, _, rfl, (ac.trans ae), hs, am⟩

def label_Read.f (x0 : Option Tbs) (x1 : List Int) : Option S10 := (slices_Clone_rune_rune.f x1).bind fun a1 => ((label_Coded.f x1).bind fun ag => (if (!ag) = true then ((label_Faults.f x0 x1).bind fun bq => ((label_first.f bq).bind fun br => (some (⟨a1, ag, br⟩ : S10)))) else ((label_plain.f x1).bind fun ao => (if (!ao) = true then (some (⟨a1, ag, 7⟩ : S10)) else (if (0 : Int) ≤ 4 ∧ 4 ≤ (x1.length : Int) ∧ (x1.length : Int) ≤ (x1.length : Int) then ((puny_Decode.f (runesBytes (sub x1 4 (x1.length : Int)))).bind fun ad => (if ad.2.2 ≠ 0 then (some (⟨a1, ag, 8⟩ : S10)) else ((label_plain.f ad.1).bind fun ap => (if ap = true then (some (⟨ad.1, ag, 9⟩ : S10)) else ((label_Faults.f x0 ad.1).bind fun aq => ((label_first.f aq).bind fun ar => (some (⟨ad.1, ag, ar⟩ : S10)))))))) else none)))))
theorem label_Read.c (hs : St w0 ρ (Γ) w) {v0 : Value} {x0 : Option Tbs} (h0 : PtrR rTbs ρ v0 x0) {v1 : Value} {x1 : List Int} (h1 : SlR (Rep.int .i32) ρ v1 x1) {r : S10} (H : label_Read.f x0 x1 = some r) : CallsR Tryz.prog 11 [v0, v1] w (fun v w' => ∃ (ρ' : Hp) (cs0 : List Value), v = .agg cs0.toArray ∧ Le ρ ρ' ∧ St w0 ρ' (Γ) w' ∧ rS10.R ρ' cs0 r) := by
  rw [label_Read.f] at H
  refine Et Tryz.func11 Tryz.ntmps11 rfl <| Wr fun da bu => O_alloc zr43 hs rfl (fun db w hs => Ox bu <| Wr fun dc bv => Mv rfl ?_)
  obtain ⟨a1, a2, H⟩ := bnd H
  refine Oc rfl (slices_Clone_rune_rune.c hs h1 a2) (fun bw w hpost => ?_)
  obtain ⟨dd, de, bx, rfl, aa, hs, bz⟩ := hpost
  refine Mv rfl ?_
  obtain ⟨ag, a3, H⟩ := bnd H
  refine Oc rfl (label_Coded.c hs (h1.mono aa) a3) (fun df w hpost => ?_)
  obtain ⟨rfl, hs⟩ := hpost
  obtain ⟨dg, ab, hs, ah⟩ := hs.rowEnd (j := 0) bz rfl
  refine O_y rfl (Y_build (cs := [bw, .bool ag, .int .i64 0]) zr43 pl43 ((Parts.cons rfl ah.cellsL (Parts.cons rfl rfl Parts.nil))) ag43 (by kernel_rfl)) <| O_alloc zr43 hs rfl (fun dh w hs => O_storeN (i := 0) sz43 hs rfl rfl rfl rfl rfl (one_cons ah.one (one_cons rfl (one_cons rfl one_nil))) (fun w hs => Ox bv <| W_seq fun di b0 => Wr fun dj b1 => Ofd fo43_1 rfl <| Obx 0 ag4 hs rfl <| Ont rfl <| Ox b1 <| W_cond rfl (fun a4 => ?_) (fun a4 => ?_)))
  ·rw [if_pos a4] at H
   refine Wr fun dk b2 => Mv rfl <| Mv rfl ?_
   obtain ⟨bq, a5, H⟩ := bnd H
   refine Oc rfl (label_Faults.c hs (h0.mono (aa.trans ab)) (h1.mono (aa.trans ab)) a5) (fun dl w hpost => ?_)
   obtain ⟨dm, dn, b3, rfl, au, hs, b4⟩ := hpost
   obtain ⟨dp, av, hs, b5⟩ := hs.rowEnd (j := 0) b4 rfl
   obtain ⟨br, a6, H⟩ := bnd H
   refine Oc rfl (label_first.c hs b5 a6) (fun dq w hpost => ?_)
   obtain ⟨rfl, hs⟩ := hpost
   refine Ofd fo43_2 rfl <| O_store (i := 0) sz3 hs rfl rfl rfl rfl rfl (fun w hs => Ox b2 <| W.weak [(4, _), (5, _)] (T2 rfl) <| Wr fun dr b6 => O_y rfl (Y_loadbN (i := 0) ag43 sz43 hs rfl rfl rfl rfl) <| O_storeN (i := 1) sz43 hs rfl rfl rfl rfl rfl (one_cons ah.one (one_cons rfl (one_cons rfl one_nil))) (fun w hs => Ox b6 <| W_ret ?_))
   obtain rfl := sinj H
   exact retc (i := 1) rfl rfl ag43 sz43 hs rfl rfl ⟨_, _, rfl, (((aa.trans ab).trans au).trans av), (hs.sub (ssk (ssk ssr))), ⟨_, rfl, (ah.mono (au.trans av))⟩⟩
  ·rw [if_neg (bft a4)] at H
   refine Wx b0 <| W_seq fun ds b7 => Wr fun dt b8 => Mv rfl ?_
   obtain ⟨ao, aw, H⟩ := bnd H
   refine Oc rfl (label_plain.c hs (h1.mono (aa.trans ab)) aw) (fun b9 w hpost => ?_)
   obtain ⟨rfl, hs⟩ := hpost
   refine Ont rfl <| Ox b8 <| W.weak [(0, _), (1, _), (4, _), (5, _), (25, _)] sbn ?_
   refine W_cond rfl (fun ak => ?_) (fun ak => ?_)
   ·rw [if_pos ak] at H
    refine Wr fun ca a7 => Ofd fo43_2 rfl <| O_store (i := 0) sz3 hs rfl rfl rfl rfl rfl (fun w hs => Ox a7 <| Wr fun cb a8 => O_y rfl (Y_loadbN (i := 0) ag43 sz43 hs rfl rfl rfl rfl) <| O_storeN (i := 1) sz43 hs rfl rfl rfl rfl rfl (one_cons ah.one (one_cons rfl (one_cons rfl one_nil))) (fun w hs => Ox a8 <| W_ret ?_))
    obtain rfl := sinj H
    exact retc (i := 1) rfl rfl ag43 sz43 hs rfl rfl ⟨_, _, rfl, (aa.trans ab), (hs.sub (ssk (ssk ssr))), ⟨_, rfl, ah⟩⟩
   ·rw [if_neg (bft ak)] at H
    refine Wx b7 <| Wr fun cc a9 => Mv rfl ?_
    obtain ⟨al, H⟩ := gd H
    obtain ⟨cd, ba, bb⟩ := (h1.mono (aa.trans ab)).cut el28 al.1 al.2.1 al.2.2
    refine O_y rfl (bb rfl (.inr ⟨_, _, rfl, rfl⟩) (.inl ⟨rfl, rfl⟩)) <| O_y rfl (Y_srunes un28 un21 un9 hs ba rfl) ?_
    obtain ⟨ad, ax, H⟩ := bnd H
    refine Oc rfl (puny_Decode.c hs ax) (fun ce w hpost => ?_)
    obtain ⟨cf, cg, bs, rfl, ac, hs, bc⟩ := hpost
    refine Mv rfl <| Oxt rfl <| Oxt rfl <| Oxt rfl <| As rfl <| As rfl <| As rfl <| Ox a9 <| W.weak [(0, _), (4, _), (5, _), (6, _), (8, _)] sbn ?_
    refine W_seq fun ch bd => Wr fun ci be => Mv rfl <| One rfl <| Ox be <| W_if rfl (fun am => ?_) (fun am => ?_)
    ·rw [if_pos am] at H
     refine Wr fun cj bf => Ofd fo43_2 rfl <| O_store (i := 1) sz3 hs rfl rfl rfl rfl rfl (fun w hs => Ox bf <| Wr fun ck bg => O_y rfl (Y_loadbN (i := 1) ag43 sz43 hs rfl rfl rfl rfl) <| O_storeN (i := 2) sz43 hs rfl rfl rfl rfl rfl (one_cons ah.one (one_cons rfl (one_cons rfl one_nil))) (fun w hs => Ox bg <| W_ret ?_))
     obtain rfl := sinj H
     exact retc (i := 2) rfl rfl ag43 sz43 hs rfl rfl ⟨_, _, rfl, ((aa.trans ab).trans ac), (hs.sub (ssk (ssk (ssk ssr)))), ⟨_, rfl, (ah.mono ac)⟩⟩
    ·rw [if_neg am] at H
     refine Wx bd <| Wr fun cl bh => Mv rfl <| Ofd fo43_0 rfl <| O_store (i := 1) sz28 hs rfl rfl rfl rfl (St.rowOne hs (j := 0) rfl) (fun w hs => Ox bh <| W_seq fun cm bi => W_seq fun cn bj => ?_)
     obtain ⟨co, af, hs, ae⟩ := hs.rowEnd (j := 0) bc rfl
     refine W_region <| Mv rfl ?_
     obtain ⟨ap, ay, H⟩ := bnd H
     refine Oc rfl (label_plain.c hs ae ay) (fun cp w hpost => ?_)
     obtain ⟨rfl, hs⟩ := hpost
     refine Ox bj <| W_cond rfl (fun an => ?_) (fun an => ?_)
     ·rw [if_pos an] at H
      refine Wr fun cq bk => Ofd fo43_2 rfl <| O_store (i := 0) sz3 hs rfl rfl rfl rfl rfl (fun w hs => Ox bk <| Wr fun cr bl => O_y rfl (Y_loadbN (i := 0) ag43 sz43 hs rfl rfl rfl rfl) <| O_storeN (i := 1) sz43 hs rfl rfl rfl rfl rfl (one_cons ae.one (one_cons rfl (one_cons rfl one_nil))) (fun w hs => Ox bl <| W_ret ?_))
      obtain rfl := sinj H
      exact retc (i := 1) rfl rfl ag43 sz43 hs rfl rfl ⟨_, _, rfl, (((aa.trans ab).trans ac).trans af), (hs.sub (ssk (ssk ssr))), ⟨_, rfl, ae⟩⟩
     ·rw [if_neg (bft an)] at H
      refine Wx bi <| Wr fun ct bm => Mv rfl <| Mv rfl ?_
      obtain ⟨aq, az, H⟩ := bnd H
      refine Oc rfl (label_Faults.c hs (h0.mono (((aa.trans ab).trans ac).trans af)) ae az) (fun cu w hpost => ?_)
      obtain ⟨cv, cw, bt, rfl, ai, hs, bn⟩ := hpost
      obtain ⟨cx, aj, hs, bo⟩ := hs.rowEnd (j := 0) bn rfl
      obtain ⟨ar, a0, H⟩ := bnd H
      refine Oc rfl (label_first.c hs bo a0) (fun cy w hpost => ?_)
      obtain ⟨rfl, hs⟩ := hpost
      refine Ofd fo43_2 rfl <| O_store (i := 0) sz3 hs rfl rfl rfl rfl rfl (fun w hs => Ox bm <| W.weak [(4, _), (5, _)] (T2 rfl) <| Wr fun cz bp => O_y rfl (Y_loadbN (i := 0) ag43 sz43 hs rfl rfl rfl rfl) <| O_storeN (i := 1) sz43 hs rfl rfl rfl rfl rfl (one_cons ae.one (one_cons rfl (one_cons rfl one_nil))) (fun w hs => Ox bp <| W_ret ?_))
      obtain rfl := sinj H
      exact retc (i := 1) rfl rfl ag43 sz43 hs rfl rfl ⟨_, _, rfl, (((((aa.trans ab).trans ac).trans af).trans ai).trans aj), (hs.sub (ssk (ssk ssr))), ⟨_, rfl, (ae.mono (ai.trans aj))⟩⟩

def puny_boot_check_1_hme.j1 (aa : Bool) : Option Bool := some aa
def puny_boot_check_1_hme.f (x0 y0_0 y0_1 y0_2 y0_3 y0_4 y0_5 y0_6 y0_7 : Int) : Option Bool := if (IntKind.i64.wrap x0) < y0_6 then ((puny_boot_basic.f (⟨y0_0, y0_1, y0_2, y0_3, y0_4, y0_5, y0_6, y0_7⟩ : S11) x0).bind fun ab => (puny_boot_check_1_hme.j1 (!ab))) else (puny_boot_check_1_hme.j1 false)
theorem puny_boot_check_1_hme.c {pb0 : Nat} {y0_0 y0_1 y0_2 y0_3 y0_4 y0_5 y0_6 y0_7 : Int} (hs : St w0 ρ ((.box pb0 117 ([.int .i64 y0_0, .int .i64 y0_1, .int .i64 y0_2, .int .i64 y0_3, .int .i64 y0_4, .int .i64 y0_5, .int .i64 y0_6, .int .u8 y0_7])) :: Γ) w) {x0 : Int} {r : Bool} (H : puny_boot_check_1_hme.f x0 y0_0 y0_1 y0_2 y0_3 y0_4 y0_5 y0_6 y0_7 = some r) : CallsR Tryz.prog 156 [.int .i32 x0, .pointer (some ⟨pb0, 0, none⟩)] w (fun v w' => v = .bool r ∧ St w0 ρ ((.box pb0 117 ([.int .i64 y0_0, .int .i64 y0_1, .int .i64 y0_2, .int .i64 y0_3, .int .i64 y0_4, .int .i64 y0_5, .int .i64 y0_6, .int .u8 y0_7])) :: Γ) w') := by
  rw [puny_boot_check_1_hme.f] at H
  refine Et Tryz.func156 Tryz.ntmps156 rfl <| Wr fun aj ag => As rfl <| Ox ag <| W_seqj fun ah ai ae => ?_
  have af : ∀ (aa : Bool) (w : World), puny_boot_check_1_hme.j1 aa = some r → St w0 ρ ((.box pb0 117 ([.int .i64 y0_0, .int .i64 y0_1, .int .i64 y0_2, .int .i64 y0_3, .int .i64 y0_4, .int .i64 y0_5, .int .i64 y0_6, .int .u8 y0_7])) :: Γ) w → ah [(3, .bool aa)] w := by
   intro aa w H hs
   rw [puny_boot_check_1_hme.j1] at H
   refine ai _ _ <| W_ret ?_
   obtain rfl := sinj H
   exact r1 rfl ⟨rfl, hs⟩
  refine W_region <| Mv rfl <| O_y rfl (Y_conv un21 un3 rfl) <| Ofd fo117_6 rfl <| Obx 0 ag3 hs rfl <| Ols rfl <| Mv rfl <| O_if (dj := 9) rfl (fun ac => ?_) (fun ac => ?_)
  ·rw [if_pos ac] at H
   refine Oe rfl <| O_y rfl (Y_loadbN (i := 0) ag117 sz117 hs rfl rfl rfl rfl) <| Oe rfl <| Mv rfl <| Oe rfl ?_
   obtain ⟨ab, ad, H⟩ := bnd H
   refine Oc rfl (puny_boot_basic.c hs (show rS11.R ρ _ (⟨y0_0, y0_1, y0_2, y0_3, y0_4, y0_5, y0_6, y0_7⟩ : S11) from rfl) ad) (fun ak w hpost => ?_)
   obtain ⟨rfl, hs⟩ := hpost
   refine Oe rfl <| Ont rfl <| Opk rfl <| As rfl <| O_nil (ae _ _ _ (S1 rfl) (af (!ab) _ H hs))
  ·rw [if_neg ac] at H
   refine On rfl <| On rfl <| On rfl <| On rfl <| Opk rfl <| As rfl <| O_nil (ae _ _ _ (S1 rfl) (af false _ H hs))

def slices_IndexFunc_rune_rune_him.l1 : Nat → Int → Int → Int → Int → Int → Int → Int → Int → List Int → Int → Option Int
  | 0, _, _, _, _, _, _, _, _, _, _ => none
  | ab + 1, y0_0, y0_1, y0_2, y0_3, y0_4, y0_5, y0_6, y0_7, x0, aa => if aa < (x0.length : Int) then (if (0 : Int) ≤ aa ∧ aa < (x0.length : Int) then ((puny_boot_check_1_hme.f (rd x0 aa) y0_0 y0_1 y0_2 y0_3 y0_4 y0_5 y0_6 y0_7).bind fun ag => (if ag = true then (some aa) else ((slices_IndexFunc_rune_rune_him.l1 ab y0_0 y0_1 y0_2 y0_3 y0_4 y0_5 y0_6 y0_7 x0) (IntKind.i64.wrap (aa + 1))))) else none) else (some (-1))
def slices_IndexFunc_rune_rune_him.f (x0 : List Int) (y0_0 y0_1 y0_2 y0_3 y0_4 y0_5 y0_6 y0_7 : Int) : Option Int := slices_IndexFunc_rune_rune_him.l1 K0 y0_0 y0_1 y0_2 y0_3 y0_4 y0_5 y0_6 y0_7 x0 0
theorem slices_IndexFunc_rune_rune_him.c {pb0 : Nat} {y0_0 y0_1 y0_2 y0_3 y0_4 y0_5 y0_6 y0_7 : Int} (hs : St w0 ρ ((.box pb0 117 ([.int .i64 y0_0, .int .i64 y0_1, .int .i64 y0_2, .int .i64 y0_3, .int .i64 y0_4, .int .i64 y0_5, .int .i64 y0_6, .int .u8 y0_7])) :: Γ) w) {v0 : Value} {x0 : List Int} (h0 : SlR (Rep.int .i32) ρ v0 x0) {r : Int} (H : slices_IndexFunc_rune_rune_him.f x0 y0_0 y0_1 y0_2 y0_3 y0_4 y0_5 y0_6 y0_7 = some r) : CallsR Tryz.prog 77 [v0, .func (.func 156) #[] #[.pointer (some ⟨pb0, 0, none⟩)]] w (fun v w' => v = .int .i64 r ∧ St w0 ρ ((.box pb0 117 ([.int .i64 y0_0, .int .i64 y0_1, .int .i64 y0_2, .int .i64 y0_3, .int .i64 y0_4, .int .i64 y0_5, .int .i64 y0_6, .int .u8 y0_7])) :: Γ) w') := by
  rw [slices_IndexFunc_rune_rune_him.f] at H
  refine Et Tryz.func77 Tryz.ntmps77 rfl <| Wr fun ax ai => As rfl <| Ox ai <| W_seq fun ay aj => Wr fun az ak => Mv rfl <| O_y rfl (Y_lenR un28 h0 rfl) <| Mv rfl <| Ox ak <| W_block fun a0 al a1 => W_loop (σ := Nat × Int) (fun (ab, aa) => [(0, v0), (1, .func (.func 156) #[] #[.pointer (some ⟨pb0, 0, none⟩)]), (7, .int .i64 (x0.length : Int)), (8, .int .i64 aa)]) (fun (ab, aa) w => slices_IndexFunc_rune_rune_him.l1 ab y0_0 y0_1 y0_2 y0_3 y0_4 y0_5 y0_6 y0_7 x0 aa = some r ∧ St w0 ρ ((.box pb0 117 ([.int .i64 y0_0, .int .i64 y0_1, .int .i64 y0_2, .int .i64 y0_3, .int .i64 y0_4, .int .i64 y0_5, .int .i64 y0_6, .int .u8 y0_7])) :: Γ) w) (fun s => s.1) (K0, 0) (T4 rfl) (Ai H hs) ?_
  rintro ⟨ab, aa⟩ w a2 ⟨H, hs⟩ ac
  show W _ _ _ _ _ _ [(0, v0), (1, .func (.func 156) #[] #[.pointer (some ⟨pb0, 0, none⟩)]), (7, .int .i64 (x0.length : Int)), (8, .int .i64 aa)] w
  cases ab with
  | zero => rw [slices_IndexFunc_rune_rune_him.l1] at H; cases H
  | succ ab =>
  rw [slices_IndexFunc_rune_rune_him.l1] at H
  refine Wr fun a3 am => Ols rfl <| Ox am <| W_seq fun a4 an => W_if rfl (fun ad => ?_) (fun ad => ?_)
  ·rw [if_pos ad] at H
   refine Wx an <| W_seq fun a5 ao => W_block fun a6 a7 a8 => Wr fun a9 ap => Mv rfl <| As rfl <| Ox ap <| Wr fun ba aq => Mv rfl <| Mv rfl <| Mv rfl ?_
   obtain ⟨ah, H⟩ := gd H
   obtain ⟨bb, bc, ar, au⟩ := h0.ix el28 ah.1 ah.2
   refine O_y rfl (au rfl rfl) <| O_y rfl (Y_load ag21 rfl (hs.see ar.int)) ?_
   obtain ⟨ag, ae, H⟩ := bnd H
   refine O_callv rfl rfl rfl (puny_boot_check_1_hme.c hs ae) (fun bd w hpost => ?_)
   obtain ⟨rfl, hs⟩ := hpost
   refine Ox aq <| W_cond rfl (fun af => ?_) (fun af => ?_)
   ·rw [if_pos af] at H
    refine Wr fun be av => Mv rfl <| As rfl <| Ox av <| W.weak [(4, _)] (S1 rfl) <| W_ret ?_
    obtain rfl := sinj H
    exact r1 rfl ⟨rfl, hs⟩
   ·rw [if_neg (bft af)] at H
    refine Wx ao <| W_region <| Oad rfl <| Mv rfl <| O_nil (ac (ab, (IntKind.i64.wrap (aa + 1))) _ _ (T4 rfl) (Ai H hs) (Nat.lt_succ_self _))
  ·rw [if_neg ad] at H
   refine W_exit (al _ _ (aj _ _ <| Wr fun bf aw => As rfl <| Ox aw <| W_ret ?_))
   obtain rfl := sinj H
   exact r1 rfl ⟨rfl, hs⟩

def puny_boot_check.l1 : Nat → S11 → List Int → Int → Option (Int × Int)
  | 0, _, _, _ => none
  | ab + 1, x0, x1, aa => if aa < (x1.length : Int) then (if (0 : Int) ≤ aa ∧ aa < (x1.length : Int) then ((scalar_Scalar.f (rd x1 aa)).bind fun am => (if (!am) = true then (some (aa, 20)) else ((puny_boot_check.l1 ab x0 x1) (IntKind.i64.wrap (aa + 1))))) else none) else ((slices_IndexFunc_rune_rune_him.f x1 x0.base x0.least x0.most x0.skew x0.damp x0.bias x0.first x0.between).bind fun ad => (if 0 ≤ ad then (some (ad, 141)) else (some (0, 0))))
def puny_boot_check.f (x0 : S11) (x1 : List Int) : Option (Int × Int) := puny_boot_check.l1 K0 x0 x1 0
theorem puny_boot_check.c (hs : St w0 ρ (Γ) w) {c0 : List Value} {x0 : S11} (h0 : rS11.R ρ c0 x0) {v1 : Value} {x1 : List Int} (h1 : SlR (Rep.int .i32) ρ v1 x1) {r : Int × Int} (H : puny_boot_check.f x0 x1 = some r) : CallsR Tryz.prog 119 [.agg c0.toArray, v1] w (fun v w' => v = .tuple #[.int .i64 r.1, .int .i64 r.2] ∧ St w0 ρ Γ w') := by
  rw [puny_boot_check.f] at H
  refine Et Tryz.func119 Tryz.ntmps119 rfl ?_
  have ao := h0
  obtain rfl := ao
  refine Wr fun a8 ap => O_boxN (cs := [.int .i64 x0.base, .int .i64 x0.least, .int .i64 x0.most, .int .i64 x0.skew, .int .i64 x0.damp, .int .i64 x0.bias, .int .i64 x0.first, .int .u8 x0.between]) hs rfl rfl (fun ae w hs => As rfl <| As rfl <| Ox ap <| W_seq fun a9 aq => Wr fun ba ar => Mv rfl <| O_y rfl (Y_lenR un28 h1 rfl) <| Mv rfl <| Ox ar <| W_block fun bb au bc => ?_)
  refine W_loop (σ := Nat × Int) (fun (ab, aa) => [(1, v1), (2, .pointer (some ⟨ae, 0, none⟩)), (9, v1), (10, .int .i64 (x1.length : Int)), (11, .int .i64 aa)]) (fun (ab, aa) w => puny_boot_check.l1 ab x0 x1 aa = some r ∧ St w0 ρ ((.box ae 117 ([.int .i64 x0.base, .int .i64 x0.least, .int .i64 x0.most, .int .i64 x0.skew, .int .i64 x0.damp, .int .i64 x0.bias, .int .i64 x0.first, .int .u8 x0.between])) :: Γ) w) (fun s => s.1) (K0, 0) sbn (Ai H hs) ?_
  rintro ⟨ab, aa⟩ w bd ⟨H, hs⟩ ac
  show W _ _ _ _ _ _ [(1, v1), (2, .pointer (some ⟨ae, 0, none⟩)), (9, v1), (10, .int .i64 (x1.length : Int)), (11, .int .i64 aa)] w
  cases ab with
  | zero => rw [puny_boot_check.l1] at H; cases H
  | succ ab =>
  rw [puny_boot_check.l1] at H
  refine Wr fun be av => Ols rfl <| Ox av <| W_seq fun bf aw => W_if rfl (fun af => ?_) (fun af => ?_)
  ·rw [if_pos af] at H
   refine Wx aw <| W_seq fun bg ax => W_block fun bh bi bj => Wr fun bk ay => Mv rfl ?_
   obtain ⟨an, H⟩ := gd H
   obtain ⟨bl, bm, az, a0⟩ := h1.ix el28 an.1 an.2
   refine O_y rfl (a0 rfl rfl) <| O_y rfl (Y_load ag21 rfl (hs.see az.int)) <| As rfl <| As rfl <| Ox ay <| Wr fun bn a1 => Mv rfl ?_
   obtain ⟨am, ag, H⟩ := bnd H
   refine Oc rfl (scalar_Scalar.c hs ag) (fun bo w hpost => ?_)
   obtain ⟨rfl, hs⟩ := hpost
   refine Ont rfl <| Ox a1 <| W_cond rfl (fun ah => ?_) (fun ah => ?_)
   ·rw [if_pos ah] at H
    refine Wr fun bp a2 => Mv rfl <| As rfl <| As rfl <| Ox a2 <| W.weak [(4, _), (5, _)] (T2 rfl) <| W_ret ?_
    obtain rfl := sinj H
    exact ret2 rfl rfl rfl ⟨rfl, (hs.sub (ssk ssr))⟩
   ·rw [if_neg (bft ah)] at H
    refine Wx ax <| W_region <| Oad rfl <| Mv rfl <| O_nil (ac (ab, (IntKind.i64.wrap (aa + 1))) _ _ sbn (Ai H hs) (Nat.lt_succ_self _))
  ·rw [if_neg af] at H
   refine W_exit (au _ _ (aq _ _ <| W_seq fun bq a3 => Wr fun br a4 => Mv rfl <| O_y rfl (Y_func rfl) ?_))
   obtain ⟨ad, ai, H⟩ := bnd H
   refine Oc rfl (slices_IndexFunc_rune_rune_him.c hs h1 ai) (fun bs w hpost => ?_)
   obtain ⟨rfl, hs⟩ := hpost
   refine As rfl <| Ox a4 <| Wr fun bt a5 => Mv rfl <| Oge rfl <| Ox a5 <| W_if rfl (fun aj => ?_) (fun aj => ?_)
   ·rw [if_pos aj] at H
    refine Wr fun a6 ak => Mv rfl <| As rfl <| As rfl <| Ox ak <| W.weak [(4, _), (5, _)] (T2 rfl) <| W_ret ?_
    obtain rfl := sinj H
    exact ret2 rfl rfl rfl ⟨rfl, (hs.sub (ssk ssr))⟩
   ·rw [if_neg aj] at H
    refine Wx a3 <| Wr fun a7 al => As rfl <| As rfl <| Ox al <| W_ret ?_
    obtain rfl := sinj H
    exact ret2 rfl rfl rfl ⟨rfl, (hs.sub (ssk ssr))⟩

def puny_next.j1 (ae : Int → Int → Option Int) (aa ad : Int) : Option Int := ae ad (IntKind.i64.wrap (aa + 1))
def puny_next.l1 : Nat → List Int → Int → Int → Int → Option Int
  | 0, _, _, _, _ => none
  | ac + 1, x0, x1, ab, aa => if aa < (x0.length : Int) then (if (0 : Int) ≤ aa ∧ aa < (x0.length : Int) then (if x1 ≤ (IntKind.i64.wrap (rd x0 aa)) then (puny_next.j1 (puny_next.l1 ac x0 x1) aa (min ab (IntKind.i64.wrap (rd x0 aa)))) else (puny_next.j1 (puny_next.l1 ac x0 x1) aa ab)) else none) else (some ab)
def puny_next.f (x0 : List Int) (x1 : Int) : Option Int := puny_next.l1 K0 x0 x1 1114111 0
theorem puny_next.c (hs : St w0 ρ (Γ) w) {v0 : Value} {x0 : List Int} (h0 : SlR (Rep.int .i32) ρ v0 x0) {x1 r : Int} (H : puny_next.f x0 x1 = some r) : CallsR Tryz.prog 121 [v0, .int .i64 x1] w (fun v w' => v = .int .i64 r ∧ St w0 ρ Γ w') := by
  rw [puny_next.f] at H
  refine Et Tryz.func121 Tryz.ntmps121 rfl <| Wr fun a1 al => As rfl <| Ox al <| Wr fun a2 am => As rfl <| Ox am <| W_seq fun a3 an => Wr fun a4 ao => Mv rfl <| O_y rfl (Y_lenR un28 h0 rfl) ?_
  refine Mv rfl <| Ox ao <| W_block fun a5 ap a6 => W_loop (σ := Nat × Int × Int) (fun (ac, ab, aa) => [(1, .int .i64 x1), (5, .int .i64 ab), (8, v0), (9, .int .i64 (x0.length : Int)), (10, .int .i64 aa)]) (fun (ac, ab, aa) w => puny_next.l1 ac x0 x1 ab aa = some r ∧ St w0 ρ (Γ) w) (fun s => s.1) (K0, 1114111, 0) sbn (Ai H hs) ?_
  rintro ⟨ac, ab, aa⟩ w a7 ⟨H, hs⟩ af
  show W _ _ _ _ _ _ [(1, .int .i64 x1), (5, .int .i64 ab), (8, v0), (9, .int .i64 (x0.length : Int)), (10, .int .i64 aa)] w
  cases ac with
  | zero => rw [puny_next.l1] at H; cases H
  | succ ac =>
  rw [puny_next.l1] at H
  refine Wr fun a8 aq => Ols rfl <| Ox aq <| W_seq fun a9 ar => W_if rfl (fun ag => ?_) (fun ag => ?_)
  ·rw [if_pos ag] at H
   refine Wx ar <| W_seqj fun au av ai => ?_
   have aj : ∀ (ad : Int) (w : World), puny_next.j1 (puny_next.l1 ac x0 x1) aa ad = some r → St w0 ρ (Γ) w → au [(1, .int .i64 x1), (5, .int .i64 ad), (8, v0), (9, .int .i64 (x0.length : Int)), (10, .int .i64 aa)] w := by
    intro ad w H hs
    rw [puny_next.j1] at H
    refine av _ _ <| W_region <| Oad rfl <| Mv rfl <| O_nil (af (ac, ad, (IntKind.i64.wrap (aa + 1))) _ _ sbn (Ai H hs) (Nat.lt_succ_self _))
   refine W_block fun ba bb bc => W_seq fun bd aw => W_region ?_
   obtain ⟨ak, H⟩ := gd H
   obtain ⟨be, bf, ax, ay⟩ := h0.ix el28 ak.1 ak.2
   refine O_y rfl (ay rfl rfl) <| O_y rfl (Y_load ag21 rfl (hs.see ax.int)) <| As rfl <| Ox aw <| Wr fun bg az => Mv rfl <| O_y rfl (Y_conv un21 un3 rfl) <| Mv rfl <| Oge rfl <| Ox az <| W_if rfl (fun ah => ?_) (fun ah => ?_)
   ·rw [if_pos ah] at H
    refine W_region <| Mv rfl <| Mv rfl <| O_y rfl (Y_conv un21 un3 rfl) <| O_y rfl (Y_min rfl rfl) <| As rfl <| O_nil (ai _ _ _ sbn (aj (min ab (IntKind.i64.wrap (rd x0 aa))) _ H hs))
   ·rw [if_neg ah] at H
    exact W_skip (ai _ _ _ sbn (aj ab _ H hs))
  ·rw [if_neg ag] at H
   refine W_exit (ap _ _ (an _ _ <| Wr fun bh a0 => Mv rfl <| As rfl <| Ox a0 <| W_ret ?_))
   obtain rfl := sinj H
   exact r1 rfl ⟨rfl, hs⟩

def puny_letter.f (x0 : Int) : Option Int := if x0 < 26 then (some (IntKind.u8.wrap (IntKind.i64.wrap (97 + x0)))) else (some (IntKind.u8.wrap (IntKind.i64.wrap ((IntKind.i64.wrap (48 + x0)) - 26))))
theorem puny_letter.c (hs : St w0 ρ (Γ) w) {x0 r : Int} (H : puny_letter.f x0 = some r) : CallsR Tryz.prog 158 [.int .i64 x0] w (fun v w' => v = .int .u8 r ∧ St w0 ρ Γ w') := by
  rw [puny_letter.f] at H
  refine Et Tryz.func158 Tryz.ntmps158 rfl <| Wr fun ag ab => As rfl <| Ox ab <| W_seq fun ah ac => Wr fun ai ad => Mv rfl <| Ols rfl <| Ox ad <| W_if rfl (fun aa => ?_) (fun aa => ?_)
  ·rw [if_pos aa] at H
   refine Wr fun aj ae => Mv rfl <| Oad rfl <| O_y rfl (Y_conv un3 un5 rfl) <| As rfl <| Ox ae <| W_ret ?_
   obtain rfl := sinj H
   exact r1 rfl ⟨rfl, hs⟩
  ·rw [if_neg aa] at H
   refine Wx ac <| Wr fun ak af => Mv rfl <| Oad rfl <| Osu rfl <| O_y rfl (Y_conv un3 un5 rfl) <| As rfl <| Ox af <| W_ret ?_
   obtain rfl := sinj H
   exact r1 rfl ⟨rfl, hs⟩

def puny_boot_written.l1 : Nat → S11 → Int → List Int → Int → Int → Option (List Int)
  | 0, _, _, _, _, _ => none
  | af + 1, x0, x2, aa, ab, ad => (puny_boot_threshold.f x0 ad x2).bind fun ah => (if ab < ah then ((puny_letter.f ab).bind fun aj => (if aa.length + ([aj]).length ≤ most then (some (aa ++ ([aj]))) else none)) else (if (IntKind.i64.wrap (x0.base - ah)) ≠ 0 then ((puny_letter.f (IntKind.i64.wrap (ah + ((IntKind.i64.wrap (ab - ah)).tmod (IntKind.i64.wrap (x0.base - ah)))))).bind fun ai => (if aa.length + ([ai]).length ≤ most then ((puny_boot_written.l1 af x0 x2) (aa ++ ([ai])) (IntKind.i64.wrap ((IntKind.i64.wrap (ab - ah)).tdiv (IntKind.i64.wrap (x0.base - ah)))) (IntKind.i64.wrap (ad + x0.base))) else none)) else none))
def puny_boot_written.f (x0 : S11) (x1 x2 : Int) : Option (List Int) := puny_boot_written.l1 K0 x0 x2 ([] : List Int) x1 x0.base
theorem puny_boot_written.c (hs : St w0 ρ (Γ) w) {c0 : List Value} {x0 : S11} (h0 : rS11.R ρ c0 x0) {x1 x2 : Int} {r : List Int} (H : puny_boot_written.f x0 x1 x2 = some r) : CallsR Tryz.prog 122 [.agg c0.toArray, .int .i64 x1, .int .i64 x2] w (fun v w' => ∃ (ρ' : Hp) (v0 : Value) (cs0 : List Value), v = v0 ∧ Le ρ ρ' ∧ St w0 ρ' (.row v0 5 (Rep.int .u8).sz r.length cs0 :: Γ) w' ∧ RowR (Rep.int .u8) ρ' cs0 r) := by
  rw [puny_boot_written.f] at H
  refine Et Tryz.func122 Tryz.ntmps122 rfl ?_
  have az := h0
  obtain rfl := az
  refine Wr fun bg a0 => O_boxN (cs := [.int .i64 x0.base, .int .i64 x0.least, .int .i64 x0.most, .int .i64 x0.skew, .int .i64 x0.damp, .int .i64 x0.bias, .int .i64 x0.first, .int .u8 x0.between]) hs rfl rfl (fun ao w hs => As rfl <| Ox a0 <| Wr fun bh a1 => As rfl ?_)
  have hs := hs.rowNil 5 (Rep.int .u8).sz
  have a2 := RowR.nil (Rep.int .u8) ρ
  refine Ox a1 <| Wr fun bi a3 => Mv rfl <| As rfl <| Ox a3 <| Wr fun bj a4 => Ofd fo117_0 rfl <| Obx 1 ag3 hs rfl <| As rfl <| Ox a4 <| W_block fun bk bl bm => W_loop (σ := Nat × List Int × Int × Int × Value × List Value) (fun (af, aa, ab, ad, ac, ae) => [(2, .int .i64 x2), (3, .pointer (some ⟨ao, 0, none⟩)), (7, ac), (8, .int .i64 ab), (9, .int .i64 ad)]) (fun (af, aa, ab, ad, ac, ae) w => puny_boot_written.l1 af x0 x2 aa ab ad = some r ∧ St w0 ρ ((.row ac 5 ((Rep.int .u8).sz) aa.length ae) :: (.box ao 117 ([.int .i64 x0.base, .int .i64 x0.least, .int .i64 x0.most, .int .i64 x0.skew, .int .i64 x0.damp, .int .i64 x0.bias, .int .i64 x0.first, .int .u8 x0.between])) :: Γ) w ∧ RowR (Rep.int .u8) ρ ae aa) (fun s => s.1) (K0, ([] : List Int), x1, x0.base, (.slice none 0 0), ([])) sbn (Ai H (Ai hs a2)) ?_
  rintro ⟨af, aa, ab, ad, ac, ae⟩ w bn ⟨H, hs, ag⟩ ak
  show W _ _ _ _ _ _ [(2, .int .i64 x2), (3, .pointer (some ⟨ao, 0, none⟩)), (7, ac), (8, .int .i64 ab), (9, .int .i64 ad)] w
  cases af with
  | zero => rw [puny_boot_written.l1] at H; cases H
  | succ af =>
  rw [puny_boot_written.l1] at H
  refine W_seq fun bo a5 => W_block fun bp bq br => Wr fun bs a6 => O_y rfl (Y_loadbN (i := 1) ag117 sz117 hs rfl rfl rfl rfl) <| Mv rfl <| Mv rfl ?_
  obtain ⟨ah, ap, H⟩ := bnd H
  refine Oc rfl (puny_boot_threshold.c hs h0 ap) (fun bt w hpost => ?_)
  obtain ⟨rfl, hs⟩ := hpost
  refine As rfl <| Ox a6 <| W_seq fun bu a7 => Wr fun bv a8 => Mv rfl <| Mv rfl <| Ols rfl <| Ox a8 <| W_if rfl (fun aq => ?_) (fun aq => ?_)
  ·rw [if_pos aq] at H
   refine Wr fun bw a9 => Mv rfl <| Mv rfl ?_
   obtain ⟨aj, ar, H⟩ := bnd H
   refine Oc rfl (puny_letter.c hs ar) (fun bx w hpost => ?_)
   obtain ⟨rfl, hs⟩ := hpost
   refine O_lit2 (xs := [.tmp 27]) (cs := [.int .u8 aj]) el72 hs rfl rfl rfl (by decide) (by decide) rfl (sz_cons rfl sz_nil) (flat_cons rfl flat_nil) (fun bz w hs => ?_)
   have ax : RowR (Rep.int .u8) ρ ([.int .u8 aj]) [aj] := RowR.cons (c := [.int .u8 aj]) (x := aj) rfl (RowR.nil _ _)
   obtain ⟨ba, H⟩ := gd H
   refine O_appendR (i := 1) el72 hs rfl ag rfl rfl rfl (Src.lit (j := 0) hs rfl ax) ax ba (fun b0 bb w bc hs => As rfl <| Ox a9 <| W.weak [(6, _)] (S1 rfl) <| W_ret ?_)
   obtain rfl := sinj H
   exact r1 rfl ⟨_, _, _, rfl, Le.rfl' _, (hs.sub (ssk (ssc (ssk ssr)))), bc⟩
  ·rw [if_neg aq] at H
   refine Wx a7 <| Wr fun b1 bd => Mv rfl <| Mv rfl <| Mv rfl <| Mv rfl <| Osu rfl <| Ofd fo117_0 rfl <| Obx 1 ag3 hs rfl <| Mv rfl <| Osu rfl ?_
   obtain ⟨ay, H⟩ := gd H
   refine O_y rfl (Y_rem rfl rfl ay) <| Oad rfl ?_
   obtain ⟨ai, al, H⟩ := bnd H
   refine Oc rfl (puny_letter.c hs al) (fun be w hpost => ?_)
   obtain ⟨rfl, hs⟩ := hpost
   refine O_lit2 (xs := [.tmp 41]) (cs := [.int .u8 ai]) el72 hs rfl rfl rfl (by decide) (by decide) rfl (sz_cons rfl sz_nil) (flat_cons rfl flat_nil) (fun bf w hs => ?_)
   have am : RowR (Rep.int .u8) ρ ([.int .u8 ai]) [ai] := RowR.cons (c := [.int .u8 ai]) (x := ai) rfl (RowR.nil _ _)
   obtain ⟨au, H⟩ := gd H
   refine O_appendR (i := 1) el72 hs rfl ag rfl rfl rfl (Src.lit (j := 0) hs rfl am) am au (fun av an w aw hs => As rfl <| Ox bd <| W.weak [(2, _), (3, _), (7, _), (8, _), (9, _), (10, _)] sbn ?_)
   refine W_region <| Mv rfl <| Mv rfl <| Osu rfl <| Ofd fo117_0 rfl <| Obx 2 ag3 hs rfl <| Mv rfl <| Osu rfl <| O_y rfl (Y_quo rfl rfl ay) <| As rfl <| Ox a5 <| W_region <| Mv rfl <| Ofd fo117_0 rfl ?_
   refine Obx 2 ag3 hs rfl <| Oad rfl <| As rfl <| O_nil (ak (af, (aa ++ ([ai])), (IntKind.i64.wrap ((IntKind.i64.wrap (ab - ah)).tdiv (IntKind.i64.wrap (x0.base - ah)))), (IntKind.i64.wrap (ad + x0.base)), av, an) _ _ sbn (Ai H (Ai (hs.sub (ssk (ssc (ssc ssr)))) aw)) (Nat.lt_succ_self _))

end Go.Proofs.YthoicbafdanmkaaGreatDoor
/- Written by this repo's gen.py: for each Go function a Lean function with the same answers and the walk that shows it. -/
namespace Go.Proofs.YthoicbafdanmkaaGreatDoor
open Go.RowKit
set_option maxRecDepth 100000
set_option maxHeartbeats 4000000
variable {w0 w : World} {ρ : Hp} {Γ : List Item}
set_option linter.unusedVariables false
def book_Compile.j1 (ff : (List (Vector Int 2 × Int)) → Int → Option (Option Tbs × Int)) (ab : Int) (bj : List (Vector Int 2 × Int)) : Option (Option Tbs × Int) := ff bj (IntKind.i64.wrap (ab + 1))
def book_Compile.j2 (ff : (List (Vector Int 2 × Int)) → Int → Option (Option Tbs × Int)) (ap : Bk) (ac : List (Vector Int 2 × Int)) (ab : Int) (b6 : Bool) : Option (Option Tbs × Int) := if b6 = true then (if (0 : Int) ≤ 0 ∧ 0 < (((rd ap.decomp ab).is_).length : Int) then (if (0 : Int) ≤ 1 ∧ 1 < (((rd ap.decomp ab).is_).length : Int) then (book_Compile.j1 ff ab (mput ac (#v[rd ((rd ap.decomp ab).is_) 0, rd ((rd ap.decomp ab).is_) 1]) ((rd ap.decomp ab).lo))) else none) else none) else (book_Compile.j1 ff ab ac)
def book_Compile.l1 : Nat → Bk → Option Tab → Option Tab → Option Tab → Option Tab → Option Tab → Option Tab → Option Tab → Option Tab → Option Tab → Option Tab → (List (Vector Int 2 × Int)) → Int → Option (Option Tbs × Int)
  | 0, _, _, _, _, _, _, _, _, _, _, _, _, _ => none
  | bs + 1, ap, af, ad, ag, ah, ai, ae, aj, ak, al, am, ac, ab => if ab < (ap.decomp.length : Int) then (if (0 : Int) ≤ ab ∧ ab < (ap.decomp.length : Int) then (if (((rd ap.decomp ab).is_).length : Int) = 2 then ((stage_Table_Look.f ae ((rd ap.decomp ab).lo)).bind fun ku => (if ku = 0 then ((stage_Table_Look.f ad ((rd ap.decomp ab).lo)).bind fun kv => (if kv = 0 then (if (0 : Int) ≤ 0 ∧ 0 < (((rd ap.decomp ab).is_).length : Int) then ((stage_Table_Look.f ad (rd ((rd ap.decomp ab).is_) 0)).bind fun j8 => (book_Compile.j2 (book_Compile.l1 bs ap af ad ag ah ai ae aj ak al am) ap ac ab (decide (j8 = 0)))) else none) else (book_Compile.j2 (book_Compile.l1 bs ap af ad ag ah ai ae aj ak al am) ap ac ab false))) else (book_Compile.j2 (book_Compile.l1 bs ap af ad ag ah ai ae aj ak al am) ap ac ab false))) else (book_Compile.j2 (book_Compile.l1 bs ap af ad ag ah ai ae aj ak al am) ap ac ab false)) else none) else (some ((some (⟨(⟨ap.names, ap.status, ap.maps, ap.class_, ap.decomp, ap.excl, ap.bidi, ap.join, ap.marks, ap.script, ap.like⟩ : Bk), af, ad, ag, ah, ai, ae, aj, ak, al, am, ac⟩ : Tbs)), 0))
def book_Compile.j3 (ap : Bk) (af ad ag ah ai ae aj ak al am : Option Tab) : Option (Option Tbs × Int) := book_Compile.l1 K0 ap af ad ag ah ai ae aj ak al am ([] : List (Vector Int 2 × Int)) 0
def book_Compile.t1 (ap : Bk) (b9 ca cb cc cd ce cf cg ch : Option Tab) : Option (Option Tbs × Int) := (book_numbered_api_Chars_fhb.f ap.like).bind fun j9 => (book_Compile.j3 ap b9 ca cb cc cd ce cf cg ch j9)
def book_Compile.t2 (ap : Bk) (ci cj ck cl cm cn co cp : Option Tab) : Option (Option Tbs × Int) := (book_numbered_api_Chars_fhb.f ap.decomp).bind fun ka => (book_Compile.t1 ap ci cj ck cl cm cn co cp ka)
def book_Compile.t3 (ap : Bk) (cq cr ct cu cv cw cx : Option Tab) : Option (Option Tbs × Int) := (book_numbered_api_Chars_fhb.f ap.maps).bind fun kb => (book_Compile.t2 ap cq cr ct cu cv cw cx kb)
def book_Compile.t4 (ap : Bk) (cy cz da db dc dd : Option Tab) : Option (Option Tbs × Int) := (book_marked.f ap.marks).bind fun kc => (book_Compile.t3 ap cy cz da db dc dd kc)
def book_Compile.t5 (ap : Bk) (de df dg dh di : Option Tab) : Option (Option Tbs × Int) := (book_marked.f ap.excl).bind fun kd => (book_Compile.t4 ap de df dg dh di kd)
def book_Compile.t6 (ap : Bk) (dk dl dm dn : Option Tab) : Option (Option Tbs × Int) := (book_Compile_1.f ap.script).bind fun ke => (book_Compile.t5 ap dk dl dm dn ke)
def book_Compile.t7 (ap : Bk) (dp dq dr : Option Tab) : Option (Option Tbs × Int) := (book_Compile_1.f ap.join).bind fun kf => (book_Compile.t6 ap dp dq dr kf)
def book_Compile.t8 (ap : Bk) (ds dt : Option Tab) : Option (Option Tbs × Int) := (book_Compile_1.f ap.bidi).bind fun kg => (book_Compile.t7 ap ds dt kg)
def book_Compile.t9 (ap : Bk) (du : Option Tab) : Option (Option Tbs × Int) := (book_Compile_1.f ap.class_).bind fun kh => (book_Compile.t8 ap du kh)
def book_Compile.t10 (ap : Bk) : Option (Option Tbs × Int) := (book_Compile_1.f ap.status).bind fun ki => (book_Compile.t9 ap ki)
def book_Compile.f (x0 : Bk) : Option (Option Tbs × Int) := (book_Check.f x0).bind fun bl => (if bl.2 ≠ 0 then (some (none, bl.2)) else ((book_copied.f x0).bind fun ap => (book_Compile.t10 ap )))
theorem book_Compile.c (hs : St w0 ρ (Γ) w) {c0 : List Value} {x0 : Bk} (h0 : rBk.R ρ c0 x0) {r : Option Tbs × Int} (H : book_Compile.f x0 = some r) : CallsR Tryz.prog 27 [.agg c0.toArray] w (fun v w' => ∃ (ρ' : Hp) (v0 : Value), v = .tuple #[v0, .int .i64 r.2] ∧ Le ρ ρ' ∧ St w0 ρ' (Γ) w' ∧ PtrR rTbs ρ' v0 r.1) := by
  rw [book_Compile.f] at H
  refine Et Tryz.func27 Tryz.ntmps27 rfl ?_
  have pb := h0
  obtain ⟨pc, pd, pe, pf, pg, ph, pi, pj, pk, pl, pm, rfl, sb, sc, sd, se, sf, sg, si, sj, sk, sl, sm⟩ := pb
  refine Wr fun sn pn => O_boxN (cs := [pc, pd, pe, pf, pg, ph, pi, pj, pk, pl, pm]) hs rfl rfl (fun b3 w hs => As rfl <| As rfl <| Ox pn <| W_seq fun so po => Wr fun sp pp => O_y rfl (Y_loadbN (i := 0) ag27 sz27 hs rfl rfl rfl rfl) ?_)
  obtain ⟨bl, l8, H⟩ := bnd H
  refine Oc rfl (book_Check.c hs h0 l8) (fun sq w hpost => ?_)
  obtain ⟨pq, pr, rfl, kj, hs, ps⟩ := hpost
  have pt := ps
  obtain rfl := pt
  refine Mv rfl <| Oxt rfl <| Oxt rfl <| O_alloc zr100 hs rfl (fun fb w hs => O_storeN (i := 0) sz100 hs rfl rfl rfl rfl rfl (one_cons rfl (one_cons rfl one_nil)) (fun w hs => As rfl <| Ox pp <| Wr fun sr pu => Mv rfl <| One rfl <| Ox pu <| W_if rfl (fun l9 => ?_) (fun l9 => ?_)))
  ·rw [if_pos l9] at H
   refine Wr fun ss pv => Mv rfl <| As rfl <| As rfl <| Ox pv <| W_ret ?_
   have pw : PtrR rTbs pq (.pointer none) none := PtrR.nil _ _
   obtain rfl := sinj H
   exact ret2 rfl rfl rfl ⟨_, _, rfl, kj, (hs.sub (ssk (ssk ssr))), pw⟩
  ·rw [if_neg l9] at H
   refine Wx po <| Wr fun st px => O_y rfl (Y_loadbN (i := 1) ag27 sz27 hs rfl rfl rfl rfl) ?_
   obtain ⟨ap, ma, H⟩ := bnd H
   refine Oc rfl (book_copied.c hs (rBk.mono kj h0) ma) (fun py w hpost => ?_)
   obtain ⟨br, pa, rfl, kw, hs, mb⟩ := hpost
   have mc := mb
   obtain ⟨ba, a9, aq, a8, an, au, a7, a6, ar, a5, ao, rfl, kx, jn, jo, jp, hf, jq, jr, js, jt, ju, jv⟩ := mc
   refine O_storeN (i := 1) sz27 hs rfl rfl rfl rfl rfl (one_cons kx.one (one_cons jn.one (one_cons jo.one (one_cons jp.one (one_cons hf.one (one_cons jq.one (one_cons jr.one (one_cons js.one (one_cons jt.one (one_cons ju.one (one_cons jv.one one_nil))))))))))) (fun w hs => Ox px <| W.weak [(1, _)] (S1 rfl) <| Wr fun pz md => As rfl <| Ox md <| W_seqj fun me mf ky => ?_)
   have kz : ∀ (af ad ag ah ai ae aj ak al am : Option Tab) (av aw ax ay az a0 a1 a2 a3 a4 : Value) (bm aa : Nat) (bn : Hp) (w : World), book_Compile.j3 ap af ad ag ah ai ae aj ak al am = some r → Le br bn → St w0 bn ((.box bm 114 ([ba, a9, aq, a8, an, au, a7, a6, ar, a5, ao, av, aw, ax, ay, az, a0, a1, a2, a3, a4, .map (some aa)])) :: (.obj aa (mapObj kv115.enc (vs (Value.int .i32) ([] : List (Vector Int 2 × Int))))) :: (.box fb 100 ([.int .i64 bl.1.list, .int .i64 bl.1.row])) :: (.box b3 27 ([ba, a9, aq, a8, an, au, a7, a6, ar, a5, ao])) :: Γ) w → PtrR rTab bn av af → PtrR rTab bn aw ad → PtrR rTab bn ax ag → PtrR rTab bn ay ah → PtrR rTab bn az ai → PtrR rTab bn a0 ae → PtrR rTab bn a1 aj → PtrR rTab bn a2 ak → PtrR rTab bn a3 al → PtrR rTab bn a4 am → me [(1, .pointer (some ⟨b3, 0, none⟩)), (7, .pointer (some ⟨bm, 0, none⟩))] w := by
    intro af ad ag ah ai ae aj ak al am av aw ax ay az a0 a1 a2 a3 a4 bm aa bn w H bk hs fg bq fh fi fj b7 fk fl fm fn
    rw [book_Compile.j3] at H
    refine mf _ _ <| W_seq fun p0 mg => Wr fun p1 mh => Ofd fo27_4 rfl <| Obx 3 ag24 hs rfl <| O_y rfl (Y_lenR un24 (hf.mono bk) rfl) <| Mv rfl <| Ox mh <| W_block fun p2 mi p3 => W_loop (σ := Nat × (List (Vector Int 2 × Int)) × Int) (fun (bs, ac, ab) => [(7, .pointer (some ⟨bm, 0, none⟩)), (60, an), (61, .int .i64 (ap.decomp.length : Int)), (62, .int .i64 ab)]) (fun (bs, ac, ab) w => book_Compile.l1 bs ap af ad ag ah ai ae aj ak al am ac ab = some r ∧ St w0 bn ((.box bm 114 ([ba, a9, aq, a8, an, au, a7, a6, ar, a5, ao, av, aw, ax, ay, az, a0, a1, a2, a3, a4, .map (some aa)])) :: (.obj aa (mapObj kv115.enc (vs (Value.int .i32) ac))) :: (.box fb 100 ([.int .i64 bl.1.list, .int .i64 bl.1.row])) :: (.box b3 27 ([ba, a9, aq, a8, an, au, a7, a6, ar, a5, ao])) :: Γ) w) (fun s => s.1) (K0, ([] : List (Vector Int 2 × Int)), 0) (T4 rfl) (Ai H hs) ?_
    rintro ⟨bs, ac, ab⟩ w p4 ⟨H, hs⟩ jw
    show W _ _ _ _ _ _ [(7, .pointer (some ⟨bm, 0, none⟩)), (60, an), (61, .int .i64 (ap.decomp.length : Int)), (62, .int .i64 ab)] w
    cases bs with
    | zero => rw [book_Compile.l1] at H; cases H
    | succ bs =>
    rw [book_Compile.l1] at H
    refine Wr fun p5 mj => Ols rfl <| Ox mj <| W_seq fun p6 mk => W_if rfl (fun kk => ?_) (fun kk => ?_)
    ·rw [if_pos kk] at H
     refine Wx mk <| W_seqj fun ml mm k0 => ?_
     have k1 : ∀ (bj : List (Vector Int 2 × Int)) (w : World), book_Compile.j1 (book_Compile.l1 bs ap af ad ag ah ai ae aj ak al am) ab bj = some r → St w0 bn ((.box bm 114 ([ba, a9, aq, a8, an, au, a7, a6, ar, a5, ao, av, aw, ax, ay, az, a0, a1, a2, a3, a4, .map (some aa)])) :: (.obj aa (mapObj kv115.enc (vs (Value.int .i32) bj))) :: (.box fb 100 ([.int .i64 bl.1.list, .int .i64 bl.1.row])) :: (.box b3 27 ([ba, a9, aq, a8, an, au, a7, a6, ar, a5, ao])) :: Γ) w → ml [(7, .pointer (some ⟨bm, 0, none⟩)), (60, an), (61, .int .i64 (ap.decomp.length : Int)), (62, .int .i64 ab)] w := by
      intro bj w H hs
      rw [book_Compile.j1] at H
      refine mm _ _ <| W_region <| Oad rfl <| Mv rfl <| O_nil (jw (bs, bj, (IntKind.i64.wrap (ab + 1))) _ _ (T4 rfl) (Ai H hs) (Nat.lt_succ_self _))
     refine W_block fun p7 p8 p9 => W_seq fun qa mn => W_region ?_
     obtain ⟨k2, H⟩ := gd H
     obtain ⟨qb, qc, mo, mp⟩ := (hf.mono bk).ix el24 k2.1 k2.2
     obtain ⟨_, ⟨kl, rfl, hk⟩, mq⟩ := mo
     refine O_y rfl (mp rfl rfl) <| O_y rfl (Y_loadN ag110 sz110 rfl rfl (fun j u hu => hs.see (mq j u hu))) <| O_alloc zr110 hs rfl (fun jx w hs => O_storeN (i := 0) sz110 hs rfl rfl rfl rfl rfl (one_cons rfl (one_cons rfl (one_cons hk.one one_nil))) (fun w hs => Ox mn <| W_seqj fun mr ms jy => ?_))
     have jz : ∀ (b6 : Bool) (w : World), book_Compile.j2 (book_Compile.l1 bs ap af ad ag ah ai ae aj ak al am) ap ac ab b6 = some r → St w0 bn ((.box jx 110 ([.int .i32 ((rd ap.decomp ab).lo), .int .i32 ((rd ap.decomp ab).hi), kl])) :: (.box bm 114 ([ba, a9, aq, a8, an, au, a7, a6, ar, a5, ao, av, aw, ax, ay, az, a0, a1, a2, a3, a4, .map (some aa)])) :: (.obj aa (mapObj kv115.enc (vs (Value.int .i32) ac))) :: (.box fb 100 ([.int .i64 bl.1.list, .int .i64 bl.1.row])) :: (.box b3 27 ([ba, a9, aq, a8, an, au, a7, a6, ar, a5, ao])) :: Γ) w → mr [(7, .pointer (some ⟨bm, 0, none⟩)), (9, .pointer (some ⟨jx, 0, none⟩)), (60, an), (61, .int .i64 (ap.decomp.length : Int)), (62, .int .i64 ab), (101, .bool b6)] w := by
      intro b6 w H hs
      rw [book_Compile.j2] at H
      refine ms _ _ <| W_cond rfl (fun km => ?_) (fun km => ?_)
      ·rw [if_pos km] at H
       refine W_drawS 16 [0, 1, 2, 4, 0, 16, 32, 64, 0, 256, 512, 1024, 2176, 0, 8192, 32767] [32764, 32760, 32752, 32752, 32719, 32655, 32527, 28431, 31999, 30975, 28927, 24831, 24591, 8191, 8191, 0] [0, 1, 3, 7, 0, 16, 48, 112, 0, 256, 768, 1792, 4080, 0, 8192, 32767] [15] (fun w => St w0 bn ((.box jx 110 ([.int .i32 ((rd ap.decomp ab).lo), .int .i32 ((rd ap.decomp ab).hi), kl])) :: (.box bm 114 ([ba, a9, aq, a8, an, au, a7, a6, ar, a5, ao, av, aw, ax, ay, az, a0, a1, a2, a3, a4, .map (some aa)])) :: (.obj aa (mapObj kv115.enc (vs (Value.int .i32) ac))) :: (.box fb 100 ([.int .i64 bl.1.list, .int .i64 bl.1.row])) :: (.box b3 27 ([ba, a9, aq, a8, an, au, a7, a6, ar, a5, ao])) :: Γ) w) mixed (by kernel_rfl) (fun sh => ?_)
       have hs := hs.drew
       refine Fm 0 sh rfl <| Fp 1 sh rfl (fun w => Y_nilp rfl) <| Fp 2 sh rfl (fun w => Y_field fo114_11 rfl) <| Fy 3 sh rfl hs (fun w hs => Yb 1 ag112 hs rfl rfl rfl) <| Fp 4 sh rfl (fun w => Y_field fo110_2 rfl) <| Fy 5 sh rfl hs (fun w hs => Yb 0 ag28 hs rfl rfl rfl) ?_
       obtain ⟨k3, H⟩ := gd H
       obtain ⟨qd, qe, mt, mu⟩ := hk.ix el28 k3.1 k3.2
       refine Fp 6 sh rfl (fun w => mu rfl rfl) <| Fy 7 sh rfl hs (fun w hs => Y_load ag21 rfl (hs.see mt.int)) <| Fp 8 sh rfl (fun w => Y_field fo110_2 rfl) <| Fy 9 sh rfl hs (fun w hs => Yb 0 ag28 hs rfl rfl rfl) ?_
       obtain ⟨k4, H⟩ := gd H
       obtain ⟨qf, qg, mv, mw⟩ := hk.ix el28 k4.1 k4.2
       refine Fp 10 sh rfl (fun w => mw rfl rfl) <| Fy 11 sh rfl hs (fun w hs => Y_load ag21 rfl (hs.see mv.int)) <| Fp 12 sh rfl (fun w => Y_buildArr (xs := [.tmp 109, .tmp 113]) (zs := vcs (Value.int .i32) #v[rd ((rd ap.decomp ab).is_) 0, rd ((rd ap.decomp ab).is_) 1]) un115 sz21 zl115 rfl rfl rfl (sz1_cons rfl (sz1_cons rfl sz1_nil)) rfl) <| Fp 13 sh rfl (fun w => Y_field fo110_0 rfl) <| Fy 14 sh rfl hs (fun w hs => Yb 0 ag21 hs rfl rfl rfl) <| F1 15 sh rfl (fun qh mx => O_mapPut (i := 2) (m := ac) (x := #v[rd ((rd ap.decomp ab).is_) 0, rd ((rd ap.decomp ab).is_) 1]) (v := (rd ap.decomp ab).lo) (E := (Value.int .i32)) un112 kv115 trivial (fun _ _ => trivial) hs rfl rfl rfl rfl (fun w hs => O_nil (mx _ _ (fun h _ => absurd h (by decide)) <| FE sh (k0 _ _ _ (T4 rfl) (k1 (mput ac (#v[rd ((rd ap.decomp ab).is_) 0, rd ((rd ap.decomp ab).is_) 1]) ((rd ap.decomp ab).lo)) _ H (hs.sub (ssk (ssc (ssc (ssc (ssc ssr)))))))))))
      ·rw [if_neg (bft km)] at H
       exact W_skip (k0 _ _ _ (T4 rfl) (k1 ac _ H (hs.sub (ssk (ssc (ssc (ssc (ssc ssr))))))))
     refine W_drawS 36 [0, 1, 2, 4, 8, 16, 48, 80, 144, 16, 528, 1296, 2064, 4112, 10240, 16384, 49152, 81920, 147456, 16384, 540672, 1327104, 2113536, 4210688, 10485760, 16777216, 50331648, 83886080, 150994944, 16777216, 553648128, 1090519040, 2164260864, 4580179968, 8606711808, 17196646400] [68719476732, 68719476728, 68719476720, 68719476704, 68719460352, 68719476608, 68719476480, 68719476224, 68719474176, 68719475168, 68719473120, 68719452160, 68719460352, 68719443968, 68702699520, 68719345664, 68719214592, 68718952448, 68716855296, 68717871104, 68715773952, 68694310912, 68702699520, 68685922304, 0, 68585259008, 68451041280, 68182605824, 59592671232, 67075309568, 64927825920, 60632858624, 52042924032, 34359738368, 0, 0] [0, 1, 3, 7, 15, 31, 63, 127, 255, 31, 543, 2047, 4095, 8191, 16383, 32767, 65535, 131071, 262143, 32767, 557055, 2097151, 4194303, 8388607, 16777215, 33554431, 67108863, 134217727, 268435455, 33554431, 570425343, 1644167167, 3791650815, 8589934591, 17179869183, 34359738367] [11, 12, 13, 14, 15, 16, 17, 18, 19, 20, 21, 22, 23, 24, 25, 26, 27, 28, 29, 30, 31, 32, 33, 34, 35] (fun w => St w0 bn ((.box jx 110 ([.int .i32 ((rd ap.decomp ab).lo), .int .i32 ((rd ap.decomp ab).hi), kl])) :: (.box bm 114 ([ba, a9, aq, a8, an, au, a7, a6, ar, a5, ao, av, aw, ax, ay, az, a0, a1, a2, a3, a4, .map (some aa)])) :: (.obj aa (mapObj kv115.enc (vs (Value.int .i32) ac))) :: (.box fb 100 ([.int .i64 bl.1.list, .int .i64 bl.1.row])) :: (.box b3 27 ([ba, a9, aq, a8, an, au, a7, a6, ar, a5, ao])) :: Γ) w) mixed (by kernel_rfl) (fun sh => ?_)
     have hs := hs.drew
     refine Fp 0 sh rfl (fun w => Y_field fo110_2 rfl) <| Fy 1 sh rfl hs (fun w hs => Yb 0 ag28 hs rfl rfl rfl) <| Fp 2 sh rfl (fun w => Y_lenR un28 hk rfl) <| Fp 3 sh rfl (fun w => Y_eql rfl rfl) <| Fm 4 sh rfl <| OD_if (dj := 70) rfl (fun kn => ?_) (fun kn => ?_)
     ·rw [if_pos kn] at H
      refine Fp 5 sh rfl (fun w => Y_move rfl) <| Fp 6 sh rfl (fun w => Y_nilp rfl) <| Fp 7 sh rfl (fun w => Y_field fo114_6 rfl) <| Fy 8 sh rfl hs (fun w hs => Yb 1 ag104 hs rfl rfl rfl) <| Fp 9 sh rfl (fun w => Y_field fo110_0 rfl) <| Fy 10 sh rfl hs (fun w hs => Yb 0 ag21 hs rfl rfl rfl) <| F1 11 sh rfl (fun qi my => Oe rfl ?_)
      obtain ⟨ku, k5, H⟩ := bnd H
      refine Oc rfl (stage_Table_Look.c hs b7 k5) (fun qj w hpost => ?_)
      obtain ⟨rfl, hs⟩ := hpost
      refine O_nil (my _ _ (fun h _ => absurd h (by decide)) <| OD_resetS sh [21, 22, 23, 24, 25, 26, 27, 28, 29, 30, 31, 32, 33, 34, 35] hs (by kernel_rfl) <| Fp 12 sh rfl (fun w => Y_eql rfl rfl) <| Fp 13 sh rfl (fun w => Y_pick_t rfl rfl) <| Fm 14 sh rfl <| OD_if (dj := 80) rfl (fun ko => ?_) (fun ko => ?_))
      ·rw [if_pos ko] at H
       refine Fp 15 sh rfl (fun w => Y_move rfl) <| Fp 16 sh rfl (fun w => Y_nilp rfl) <| Fp 17 sh rfl (fun w => Y_field fo114_2 rfl) <| Fy 18 sh rfl hs (fun w hs => Yb 1 ag104 hs rfl rfl rfl) <| Fp 19 sh rfl (fun w => Y_field fo110_0 rfl) <| Fy 20 sh rfl hs (fun w hs => Yb 0 ag21 hs rfl rfl rfl) <| F1 21 sh rfl (fun qk mz => Oe rfl ?_)
       obtain ⟨kv, k6, H⟩ := bnd H
       refine Oc rfl (stage_Table_Look.c hs bq k6) (fun ql w hpost => ?_)
       obtain ⟨rfl, hs⟩ := hpost
       refine O_nil (mz _ _ (fun h _ => absurd h (by decide)) <| OD_resetS sh [33, 34, 35] hs (by kernel_rfl) <| Fp 22 sh rfl (fun w => Y_eql rfl rfl) <| Fp 23 sh rfl (fun w => Y_pick_t rfl rfl) <| Fm 24 sh rfl <| OD_if (dj := 90) rfl (fun kp => ?_) (fun kp => ?_))
       ·rw [if_pos kp] at H
        refine Fp 25 sh rfl (fun w => Y_move rfl) <| Fp 26 sh rfl (fun w => Y_nilp rfl) <| Fp 27 sh rfl (fun w => Y_field fo114_2 rfl) <| Fy 28 sh rfl hs (fun w hs => Yb 1 ag104 hs rfl rfl rfl) <| Fp 29 sh rfl (fun w => Y_field fo110_2 rfl) <| Fy 30 sh rfl hs (fun w hs => Yb 0 ag28 hs rfl rfl rfl) ?_
        obtain ⟨k7, H⟩ := gd H
        obtain ⟨qm, qn, m0, m1⟩ := hk.ix el28 k7.1 k7.2
        refine Fp 31 sh rfl (fun w => m1 rfl rfl) <| Fy 32 sh rfl hs (fun w hs => Y_load ag21 rfl (hs.see m0.int)) <| F1 33 sh rfl (fun qo m2 => Oe rfl ?_)
        obtain ⟨j8, k8, H⟩ := bnd H
        refine Oc rfl (stage_Table_Look.c hs bq k8) (fun qp w hpost => ?_)
        obtain ⟨rfl, hs⟩ := hpost
        refine O_nil (m2 _ _ (fun h _ => absurd h (by decide)) <| OD_resetS sh [] hs (by kernel_rfl) <| Fp 34 sh rfl (fun w => Y_eql rfl rfl) <| Fp 35 sh rfl (fun w => Y_pick_t rfl rfl) <| FE sh (jy _ _ _ sbn (jz (decide (j8 = 0)) _ H hs)))
       ·rw [if_neg kp] at H
        refine Fn 25 sh rfl <| Fn 26 sh rfl <| Fn 27 sh rfl <| Fn 28 sh rfl <| Fn 29 sh rfl <| Fn 30 sh rfl <| Fn 31 sh rfl <| Fn 32 sh rfl <| Fn 33 sh rfl <| Fn 34 sh rfl <| Fp 35 sh rfl (fun w => Y_pick_f rfl rfl) <| FE sh (jy _ _ _ sbn (jz false _ H hs))
      ·rw [if_neg ko] at H
       refine Fn 15 sh rfl <| Fn 16 sh rfl <| Fn 17 sh rfl <| Fn 18 sh rfl <| Fn 19 sh rfl <| Fn 20 sh rfl <| Fn 21 sh rfl <| Fn 22 sh rfl <| Fp 23 sh rfl (fun w => Y_pick_f rfl rfl) <| Fm 24 sh rfl <| Fn 25 sh rfl <| Fn 26 sh rfl <| Fn 27 sh rfl <| Fn 28 sh rfl ?_
       refine Fn 29 sh rfl <| Fn 30 sh rfl <| Fn 31 sh rfl <| Fn 32 sh rfl <| Fn 33 sh rfl <| Fn 34 sh rfl <| Fp 35 sh rfl (fun w => Y_pick_f rfl rfl) <| FE sh (jy _ _ _ sbn (jz false _ H hs))
     ·rw [if_neg kn] at H
      refine Fn 5 sh rfl <| Fn 6 sh rfl <| Fn 7 sh rfl <| Fn 8 sh rfl <| Fn 9 sh rfl <| Fn 10 sh rfl <| Fn 11 sh rfl <| Fn 12 sh rfl <| Fp 13 sh rfl (fun w => Y_pick_f rfl rfl) <| Fm 14 sh rfl <| Fn 15 sh rfl <| Fn 16 sh rfl <| Fn 17 sh rfl <| Fn 18 sh rfl ?_
      refine Fn 19 sh rfl <| Fn 20 sh rfl <| Fn 21 sh rfl <| Fn 22 sh rfl <| Fp 23 sh rfl (fun w => Y_pick_f rfl rfl) <| Fm 24 sh rfl <| Fn 25 sh rfl <| Fn 26 sh rfl <| Fn 27 sh rfl <| Fn 28 sh rfl <| Fn 29 sh rfl <| Fn 30 sh rfl <| Fn 31 sh rfl <| Fn 32 sh rfl ?_
      refine Fn 33 sh rfl <| Fn 34 sh rfl <| Fp 35 sh rfl (fun w => Y_pick_f rfl rfl) <| FE sh (jy _ _ _ sbn (jz false _ H hs))
    ·rw [if_neg kk] at H
     refine W_exit (mi _ _ (mg _ _ <| Wr fun qq m3 => Mv rfl <| As rfl <| As rfl <| Ox m3 <| W_ret ?_))
     obtain ⟨qr, bg, hs, m4⟩ := hs.objEnd (enc := (fun y : Vector Int 2 => Value.agg (acs .i32 y.toList).toArray)) (E := (Value.int .i32)) (m := ac) (j := 1) rfl
     obtain ⟨m5, bf, hs, k9⟩ := hs.boxEnd (j := 0) rfl
     have m6 : PtrR rTbs m5 (.pointer (some ⟨bm, 0, none⟩)) (some (⟨(⟨ap.names, ap.status, ap.maps, ap.class_, ap.decomp, ap.excl, ap.bidi, ap.join, ap.marks, ap.script, ap.like⟩ : Bk), af, ad, ag, ah, ai, ae, aj, ak, al, am, ac⟩ : Tbs)) := .inr ⟨bm, _, rfl, rfl, _, ⟨_, _, _, _, _, _, _, _, _, _, _, _, _, _, _, _, _, _, _, _, _, _, rfl, (kx.mono ((bk.trans bg).trans bf)), (jn.mono ((bk.trans bg).trans bf)), (jo.mono ((bk.trans bg).trans bf)), (jp.mono ((bk.trans bg).trans bf)), (hf.mono ((bk.trans bg).trans bf)), (jq.mono ((bk.trans bg).trans bf)), (jr.mono ((bk.trans bg).trans bf)), (js.mono ((bk.trans bg).trans bf)), (jt.mono ((bk.trans bg).trans bf)), (ju.mono ((bk.trans bg).trans bf)), (jv.mono ((bk.trans bg).trans bf)), (fg.mono (bg.trans bf)), (bq.mono (bg.trans bf)), (fh.mono (bg.trans bf)), (fi.mono (bg.trans bf)), (fj.mono (bg.trans bf)), (b7.mono (bg.trans bf)), (fk.mono (bg.trans bf)), (fl.mono (bg.trans bf)), (fm.mono (bg.trans bf)), (fn.mono (bg.trans bf)), (m4.mono bf)⟩, k9⟩
     obtain rfl := sinj H
     exact ret2 rfl rfl rfl ⟨_, _, rfl, ((((kj.trans kw).trans bk).trans bg).trans bf), (hs.sub (ssk (ssk ssr))), m6⟩
   refine W_drawS 40 [0, 0, 0, 4, 10, 0, 0, 64, 176, 0, 0, 1024, 2816, 0, 0, 16384, 45056, 0, 0, 262144, 720896, 0, 2097152, 5242880, 0, 16777216, 41943040, 0, 134217728, 335544320, 0, 1073741824, 2684354560, 0, 8589934592, 21474836480, 0, 107987669265, 137438953472, 549755813887] [412316860414, 549755813869, 549755813875, 549755813859, 412316860129, 549755813599, 549755813695, 549755813439, 412316855809, 549755809279, 549755810815, 549755806719, 412316786689, 549755740159, 549755764735, 549755699199, 412315680769, 549754634239, 549755027455, 549753978879, 412306374657, 549749522431, 549741133823, 412232974337, 549705482239, 549638373375, 411645771777, 549353160703, 548816289791, 406948151297, 546534588415, 542239621119, 369367187457, 523986010111, 489626271743, 343597383681, 343597383679, 0, 0, 0] [0, 0, 0, 4, 14, 0, 0, 64, 254, 0, 0, 1024, 4094, 0, 0, 16384, 65534, 0, 0, 262144, 1048574, 0, 2097152, 8388606, 0, 16777216, 67108862, 0, 134217728, 536870910, 0, 1073741824, 4294967294, 0, 8589934592, 34359738366, 0, 137438953471, 274877906943, 549755813887] [] (fun w => St w0 br ((.box fb 100 ([.int .i64 bl.1.list, .int .i64 bl.1.row])) :: (.box b3 27 ([ba, a9, aq, a8, an, au, a7, a6, ar, a5, ao])) :: Γ) w) mixed (by kernel_rfl) (fun sh => ?_)
   have hs := hs.drew
   refine Fy 0 sh rfl hs (fun w hs => Y_loadbN (i := 1) ag27 sz27 hs rfl rfl rfl rfl) <| Fm 1 sh rfl <| Fp 2 sh rfl (fun w => Y_field fo27_1 rfl) <| Fy 3 sh rfl hs (fun w hs => Yb 1 ag23 hs rfl rfl rfl) <| Fm 5 sh rfl <| Fp 6 sh rfl (fun w => Y_field fo27_3 rfl) <| Fy 7 sh rfl hs (fun w hs => Yb 1 ag23 hs rfl rfl rfl) <| Fm 9 sh rfl <| Fp 10 sh rfl (fun w => Y_field fo27_6 rfl) <| Fy 11 sh rfl hs (fun w hs => Yb 1 ag23 hs rfl rfl rfl) <| Fm 13 sh rfl <| Fp 14 sh rfl (fun w => Y_field fo27_7 rfl) <| Fy 15 sh rfl hs (fun w hs => Yb 1 ag23 hs rfl rfl rfl) <| Fm 17 sh rfl ?_
   refine Fp 18 sh rfl (fun w => Y_field fo27_9 rfl) <| Fy 19 sh rfl hs (fun w hs => Yb 1 ag23 hs rfl rfl rfl) <| Fp 21 sh rfl (fun w => Y_field fo27_5 rfl) <| Fy 22 sh rfl hs (fun w hs => Yb 1 ag25 hs rfl rfl rfl) <| Fp 24 sh rfl (fun w => Y_field fo27_8 rfl) <| Fy 25 sh rfl hs (fun w hs => Yb 1 ag25 hs rfl rfl rfl) <| Fp 27 sh rfl (fun w => Y_field fo27_2 rfl) <| Fy 28 sh rfl hs (fun w hs => Yb 1 ag24 hs rfl rfl rfl) <| Fp 30 sh rfl (fun w => Y_field fo27_4 rfl) <| Fy 31 sh rfl hs (fun w hs => Yb 1 ag24 hs rfl rfl rfl) <| Fp 33 sh rfl (fun w => Y_field fo27_10 rfl) <| Fy 34 sh rfl hs (fun w hs => Yb 1 ag24 hs rfl rfl rfl) <| OD_abs fun fs bb => ?_
   have la : ∀ (b9 ca cb cc cd ce cf cg ch : Option Tab) (aa : Nat) (bt bu bv bw bx bz b0 b1 b2 : Value) (b4 : Hp) (w : World), book_Compile.t1 ap b9 ca cb cc cd ce cf cg ch = some r → Le br b4 → St w0 b4 ((.obj aa (mapObj kv115.enc (vs (Value.int .i32) ([] : List (Vector Int 2 × Int))))) :: (.box fb 100 ([.int .i64 bl.1.list, .int .i64 bl.1.row])) :: (.box b3 27 ([ba, a9, aq, a8, an, au, a7, a6, ar, a5, ao])) :: Γ) w → PtrR rTab b4 bt b9 → PtrR rTab b4 bu ca → PtrR rTab b4 bv cb → PtrR rTab b4 bw cc → PtrR rTab b4 bx cd → PtrR rTab b4 bz ce → PtrR rTab b4 b0 cf → PtrR rTab b4 b1 cg → PtrR rTab b4 b2 ch → fs [] (fun w => St w0 br ((.box fb 100 ([.int .i64 bl.1.list, .int .i64 bl.1.row])) :: (.box b3 27 ([ba, a9, aq, a8, an, au, a7, a6, ar, a5, ao])) :: Γ) w) 4 [32, 29, 26, 23, 20, 16, 12, 8, 4, 36, 34, 33, 31, 30, 28, 27, 25, 24, 22, 21, 19, 18, 17, 15, 14, 13, 11, 10, 9, 7, 6, 5, 3, 2, 1, 0] [(1, .pointer (some ⟨b3, 0, none⟩)), (20, .agg #[ba, a9, aq, a8, an, au, a7, a6, ar, a5, ao]), (24, bt), (28, bu), (32, bv), (36, bw), (40, bx), (43, bz), (46, b0), (49, b1), (52, b2), (54, ao), (56, .map (some aa))] w := by
    intro b9 ca cb cc cd ce cf cg ch aa bt bu bv bw bx bz b0 b1 b2 b4 w H fy hs gc ge gf gg gh gi gj gk gl
    rw [book_Compile.t1] at H
    refine (bb _ _ _ _ _ _).1 <| F1 35 sh rfl (fun qs m7 => ?_)
    obtain ⟨j9, lb, H⟩ := bnd H
    refine Oc rfl (book_numbered_api_Chars_fhb.c hs (jv.mono fy) lb) (fun kq w hpost => ?_)
    obtain ⟨m8, qt, rfl, b5, hs, lc⟩ := hpost
    refine O_nil (m7 _ _ (fun _ _ => ((hs.less (fy.trans b5)).sub (ssk (ssc (ssc ssr))))) <| Fp 37 sh rfl (fun w => Y_build (cs := [ba, a9, aq, a8, an, au, a7, a6, ar, a5, ao, bt, bu, bv, bw, bx, bz, b0, b1, b2, kq, .map (some aa)]) zr114 pl114 ((Parts.cons rfl rfl (Parts.cons rfl gc.cellsL (Parts.cons rfl ge.cellsL (Parts.cons rfl gf.cellsL (Parts.cons rfl gg.cellsL (Parts.cons rfl gh.cellsL (Parts.cons rfl gi.cellsL (Parts.cons rfl gj.cellsL (Parts.cons rfl gk.cellsL (Parts.cons rfl gl.cellsL (Parts.cons rfl lc.cellsL (Parts.cons rfl rfl Parts.nil))))))))))))) ag114 (by kernel_rfl)) <| F1 38 sh rfl (fun qu m9 => O_boxN (cs := [ba, a9, aq, a8, an, au, a7, a6, ar, a5, ao, bt, bu, bv, bw, bx, bz, b0, b1, b2, kq, .map (some aa)]) hs rfl rfl (fun bm w hs => O_nil (m9 _ _ (fun _ _ => ((hs.less (fy.trans b5)).sub (ssk (ssk (ssc (ssc ssr)))))) <| Fp 39 sh rfl (fun w => Y_assign rfl) <| FE sh (ky _ _ _ (T2 rfl) (kz b9 ca cb cc cd ce cf cg ch j9 bt bu bv bw bx bz b0 b1 b2 kq bm aa m8 _ H (fy.trans b5) hs (gc.mono b5) (ge.mono b5) (gf.mono b5) (gg.mono b5) (gh.mono b5) (gi.mono b5) (gj.mono b5) (gk.mono b5) (gl.mono b5) lc))))))
   have ld : ∀ (ci cj ck cl cm cn co cp : Option Tab) (aa : Nat) (dz ea eb ec ed ee ef eg : Value) (b8 : Hp) (w : World), book_Compile.t2 ap ci cj ck cl cm cn co cp = some r → Le br b8 → St w0 b8 ((.obj aa (mapObj kv115.enc (vs (Value.int .i32) ([] : List (Vector Int 2 × Int))))) :: (.box fb 100 ([.int .i64 bl.1.list, .int .i64 bl.1.row])) :: (.box b3 27 ([ba, a9, aq, a8, an, au, a7, a6, ar, a5, ao])) :: Γ) w → PtrR rTab b8 dz ci → PtrR rTab b8 ea cj → PtrR rTab b8 eb ck → PtrR rTab b8 ec cl → PtrR rTab b8 ed cm → PtrR rTab b8 ee cn → PtrR rTab b8 ef co → PtrR rTab b8 eg cp → fs [] (fun w => St w0 br ((.box fb 100 ([.int .i64 bl.1.list, .int .i64 bl.1.row])) :: (.box b3 27 ([ba, a9, aq, a8, an, au, a7, a6, ar, a5, ao])) :: Γ) w) 5 [29, 26, 23, 20, 16, 12, 8, 4, 36, 34, 33, 31, 30, 28, 27, 25, 24, 22, 21, 19, 18, 17, 15, 14, 13, 11, 10, 9, 7, 6, 5, 3, 2, 1, 0] [(1, .pointer (some ⟨b3, 0, none⟩)), (20, .agg #[ba, a9, aq, a8, an, au, a7, a6, ar, a5, ao]), (24, dz), (28, ea), (32, eb), (36, ec), (40, ed), (43, ee), (46, ef), (49, eg), (51, an), (54, ao), (56, .map (some aa))] w := by
    intro ci cj ck cl cm cn co cp aa dz ea eb ec ed ee ef eg b8 w H gs hs hl hm hn ho hp hq hr ht
    rw [book_Compile.t2] at H
    refine (bb _ _ _ _ _ _).1 <| F1 32 sh rfl (fun qv na => ?_)
    obtain ⟨ka, le, H⟩ := bnd H
    refine Oc rfl (book_numbered_api_Chars_fhb.c hs (hf.mono gs) le) (fun nb w hpost => ?_)
    obtain ⟨nc, qw, rfl, dv, hs, nd⟩ := hpost
    refine O_nil (na _ _ (fun _ _ => ((hs.less (gs.trans dv)).sub (ssk (ssc (ssc ssr))))) <| (OD_land rfl (by kernel_rfl) (OD.weak [(1, _), (20, _), (24, _), (28, _), (32, _), (36, _), (40, _), (43, _), (46, _), (49, _), (52, _), (54, _), (56, _)] sbn ((bb _ _ _ _ _ _).2 (la ci cj ck cl cm cn co cp ka aa dz ea eb ec ed ee ef eg nb nc _ H (gs.trans dv) hs (hl.mono dv) (hm.mono dv) (hn.mono dv) (ho.mono dv) (hp.mono dv) (hq.mono dv) (hr.mono dv) (ht.mono dv) nd)))))
   have lf : ∀ (cq cr ct cu cv cw cx : Option Tab) (aa : Nat) (eh ei ej ek el em en : Value) (dw : Hp) (w : World), book_Compile.t3 ap cq cr ct cu cv cw cx = some r → Le br dw → St w0 dw ((.obj aa (mapObj kv115.enc (vs (Value.int .i32) ([] : List (Vector Int 2 × Int))))) :: (.box fb 100 ([.int .i64 bl.1.list, .int .i64 bl.1.row])) :: (.box b3 27 ([ba, a9, aq, a8, an, au, a7, a6, ar, a5, ao])) :: Γ) w → PtrR rTab dw eh cq → PtrR rTab dw ei cr → PtrR rTab dw ej ct → PtrR rTab dw ek cu → PtrR rTab dw el cv → PtrR rTab dw em cw → PtrR rTab dw en cx → fs [] (fun w => St w0 br ((.box fb 100 ([.int .i64 bl.1.list, .int .i64 bl.1.row])) :: (.box b3 27 ([ba, a9, aq, a8, an, au, a7, a6, ar, a5, ao])) :: Γ) w) 6 [26, 23, 20, 16, 12, 8, 4, 36, 34, 33, 31, 30, 28, 27, 25, 24, 22, 21, 19, 18, 17, 15, 14, 13, 11, 10, 9, 7, 6, 5, 3, 2, 1, 0] [(1, .pointer (some ⟨b3, 0, none⟩)), (20, .agg #[ba, a9, aq, a8, an, au, a7, a6, ar, a5, ao]), (24, eh), (28, ei), (32, ej), (36, ek), (40, el), (43, em), (46, en), (48, aq), (51, an), (54, ao), (56, .map (some aa))] w := by
    intro cq cr ct cu cv cw cx aa eh ei ej ek el em en dw w H gt hs hv hw hx hy hz ia ib
    rw [book_Compile.t3] at H
    refine (bb _ _ _ _ _ _).1 <| F1 29 sh rfl (fun qx ne => ?_)
    obtain ⟨kb, lg, H⟩ := bnd H
    refine Oc rfl (book_numbered_api_Chars_fhb.c hs (jo.mono gt) lg) (fun nf w hpost => ?_)
    obtain ⟨ng, qy, rfl, eo, hs, nh⟩ := hpost
    refine O_nil (ne _ _ (fun _ _ => ((hs.less (gt.trans eo)).sub (ssk (ssc (ssc ssr))))) <| (OD_land rfl (by kernel_rfl) (OD.weak [(1, _), (20, _), (24, _), (28, _), (32, _), (36, _), (40, _), (43, _), (46, _), (49, _), (51, _), (54, _), (56, _)] sbn ((bb _ _ _ _ _ _).2 (ld cq cr ct cu cv cw cx kb aa eh ei ej ek el em en nf ng _ H (gt.trans eo) hs (hv.mono eo) (hw.mono eo) (hx.mono eo) (hy.mono eo) (hz.mono eo) (ia.mono eo) (ib.mono eo) nh)))))
   have lh : ∀ (cy cz da db dc dd : Option Tab) (aa : Nat) (ep eq er es et eu : Value) (ev : Hp) (w : World), book_Compile.t4 ap cy cz da db dc dd = some r → Le br ev → St w0 ev ((.obj aa (mapObj kv115.enc (vs (Value.int .i32) ([] : List (Vector Int 2 × Int))))) :: (.box fb 100 ([.int .i64 bl.1.list, .int .i64 bl.1.row])) :: (.box b3 27 ([ba, a9, aq, a8, an, au, a7, a6, ar, a5, ao])) :: Γ) w → PtrR rTab ev ep cy → PtrR rTab ev eq cz → PtrR rTab ev er da → PtrR rTab ev es db → PtrR rTab ev et dc → PtrR rTab ev eu dd → fs [] (fun w => St w0 br ((.box fb 100 ([.int .i64 bl.1.list, .int .i64 bl.1.row])) :: (.box b3 27 ([ba, a9, aq, a8, an, au, a7, a6, ar, a5, ao])) :: Γ) w) 7 [23, 20, 16, 12, 8, 4, 36, 34, 33, 31, 30, 28, 27, 25, 24, 22, 21, 19, 18, 17, 15, 14, 13, 11, 10, 9, 7, 6, 5, 3, 2, 1, 0] [(1, .pointer (some ⟨b3, 0, none⟩)), (20, .agg #[ba, a9, aq, a8, an, au, a7, a6, ar, a5, ao]), (24, ep), (28, eq), (32, er), (36, es), (40, et), (43, eu), (45, ar), (48, aq), (51, an), (54, ao), (56, .map (some aa))] w := by
    intro cy cz da db dc dd aa ep eq er es et eu ev w H gu hs ic id ie ig ih ii
    rw [book_Compile.t4] at H
    refine (bb _ _ _ _ _ _).1 <| F1 26 sh rfl (fun qz ni => ?_)
    obtain ⟨kc, li, H⟩ := bnd H
    refine Oc rfl (book_marked.c hs (jt.mono gu) li) (fun nj w hpost => ?_)
    obtain ⟨nk, q0, rfl, fc, hs, nl⟩ := hpost
    refine O_nil (ni _ _ (fun _ _ => ((hs.less (gu.trans fc)).sub (ssk (ssc (ssc ssr))))) <| (OD_land rfl (by kernel_rfl) (OD.weak [(1, _), (20, _), (24, _), (28, _), (32, _), (36, _), (40, _), (43, _), (46, _), (48, _), (51, _), (54, _), (56, _)] sbn ((bb _ _ _ _ _ _).2 (lf cy cz da db dc dd kc aa ep eq er es et eu nj nk _ H (gu.trans fc) hs (ic.mono fc) (id.mono fc) (ie.mono fc) (ig.mono fc) (ih.mono fc) (ii.mono fc) nl)))))
   have lj : ∀ (de df dg dh di : Option Tab) (aa : Nat) (ew ex ey ez e0 : Value) (fd : Hp) (w : World), book_Compile.t5 ap de df dg dh di = some r → Le br fd → St w0 fd ((.obj aa (mapObj kv115.enc (vs (Value.int .i32) ([] : List (Vector Int 2 × Int))))) :: (.box fb 100 ([.int .i64 bl.1.list, .int .i64 bl.1.row])) :: (.box b3 27 ([ba, a9, aq, a8, an, au, a7, a6, ar, a5, ao])) :: Γ) w → PtrR rTab fd ew de → PtrR rTab fd ex df → PtrR rTab fd ey dg → PtrR rTab fd ez dh → PtrR rTab fd e0 di → fs [] (fun w => St w0 br ((.box fb 100 ([.int .i64 bl.1.list, .int .i64 bl.1.row])) :: (.box b3 27 ([ba, a9, aq, a8, an, au, a7, a6, ar, a5, ao])) :: Γ) w) 8 [20, 16, 12, 8, 4, 36, 34, 33, 31, 30, 28, 27, 25, 24, 22, 21, 19, 18, 17, 15, 14, 13, 11, 10, 9, 7, 6, 5, 3, 2, 1, 0] [(1, .pointer (some ⟨b3, 0, none⟩)), (20, .agg #[ba, a9, aq, a8, an, au, a7, a6, ar, a5, ao]), (24, ew), (28, ex), (32, ey), (36, ez), (40, e0), (42, au), (45, ar), (48, aq), (51, an), (54, ao), (56, .map (some aa))] w := by
    intro de df dg dh di aa ew ex ey ez e0 fd w H gv hs ij ik il im io
    rw [book_Compile.t5] at H
    refine (bb _ _ _ _ _ _).1 <| F1 23 sh rfl (fun q1 nm => ?_)
    obtain ⟨kd, lk, H⟩ := bnd H
    refine Oc rfl (book_marked.c hs (jq.mono gv) lk) (fun nn w hpost => ?_)
    obtain ⟨no, q2, rfl, fo, hs, np⟩ := hpost
    refine O_nil (nm _ _ (fun _ _ => ((hs.less (gv.trans fo)).sub (ssk (ssc (ssc ssr))))) <| (OD_land rfl (by kernel_rfl) (OD.weak [(1, _), (20, _), (24, _), (28, _), (32, _), (36, _), (40, _), (43, _), (45, _), (48, _), (51, _), (54, _), (56, _)] sbn ((bb _ _ _ _ _ _).2 (lh de df dg dh di kd aa ew ex ey ez e0 nn no _ H (gv.trans fo) hs (ij.mono fo) (ik.mono fo) (il.mono fo) (im.mono fo) (io.mono fo) np)))))
   have ll : ∀ (dk dl dm dn : Option Tab) (aa : Nat) (e1 e2 e3 e4 : Value) (fp : Hp) (w : World), book_Compile.t6 ap dk dl dm dn = some r → Le br fp → St w0 fp ((.obj aa (mapObj kv115.enc (vs (Value.int .i32) ([] : List (Vector Int 2 × Int))))) :: (.box fb 100 ([.int .i64 bl.1.list, .int .i64 bl.1.row])) :: (.box b3 27 ([ba, a9, aq, a8, an, au, a7, a6, ar, a5, ao])) :: Γ) w → PtrR rTab fp e1 dk → PtrR rTab fp e2 dl → PtrR rTab fp e3 dm → PtrR rTab fp e4 dn → fs [] (fun w => St w0 br ((.box fb 100 ([.int .i64 bl.1.list, .int .i64 bl.1.row])) :: (.box b3 27 ([ba, a9, aq, a8, an, au, a7, a6, ar, a5, ao])) :: Γ) w) 9 [16, 12, 8, 4, 36, 34, 33, 31, 30, 28, 27, 25, 24, 22, 21, 19, 18, 17, 15, 14, 13, 11, 10, 9, 7, 6, 5, 3, 2, 1, 0] [(1, .pointer (some ⟨b3, 0, none⟩)), (20, .agg #[ba, a9, aq, a8, an, au, a7, a6, ar, a5, ao]), (24, e1), (28, e2), (32, e3), (36, e4), (37, .func (.func 62) #[] #[]), (39, a5), (42, au), (45, ar), (48, aq), (51, an), (54, ao), (56, .map (some aa))] w := by
    intro dk dl dm dn aa e1 e2 e3 e4 fp w H gw hs ip iq ir it
    rw [book_Compile.t6] at H
    refine (bb _ _ _ _ _ _).1 <| F1 20 sh rfl (fun q3 nq => ?_)
    obtain ⟨ke, lm, H⟩ := bnd H
    refine O_callv rfl rfl rfl (book_Compile_1.c hs (ju.mono gw) lm) (fun nr w hpost => ?_)
    obtain ⟨ns, q4, rfl, fw, hs, nt⟩ := hpost
    refine O_nil (nq _ _ (fun _ _ => ((hs.less (gw.trans fw)).sub (ssk (ssc (ssc ssr))))) <| (OD_land rfl (by kernel_rfl) (OD.weak [(1, _), (20, _), (24, _), (28, _), (32, _), (36, _), (40, _), (42, _), (45, _), (48, _), (51, _), (54, _), (56, _)] sbn ((bb _ _ _ _ _ _).2 (lj dk dl dm dn ke aa e1 e2 e3 e4 nr ns _ H (gw.trans fw) hs (ip.mono fw) (iq.mono fw) (ir.mono fw) (it.mono fw) nt)))))
   have ln : ∀ (dp dq dr : Option Tab) (aa : Nat) (e5 e6 e7 : Value) (fx : Hp) (w : World), book_Compile.t7 ap dp dq dr = some r → Le br fx → St w0 fx ((.obj aa (mapObj kv115.enc (vs (Value.int .i32) ([] : List (Vector Int 2 × Int))))) :: (.box fb 100 ([.int .i64 bl.1.list, .int .i64 bl.1.row])) :: (.box b3 27 ([ba, a9, aq, a8, an, au, a7, a6, ar, a5, ao])) :: Γ) w → PtrR rTab fx e5 dp → PtrR rTab fx e6 dq → PtrR rTab fx e7 dr → fs [] (fun w => St w0 br ((.box fb 100 ([.int .i64 bl.1.list, .int .i64 bl.1.row])) :: (.box b3 27 ([ba, a9, aq, a8, an, au, a7, a6, ar, a5, ao])) :: Γ) w) 10 [12, 8, 4, 36, 34, 33, 31, 30, 28, 27, 25, 24, 22, 21, 19, 18, 17, 15, 14, 13, 11, 10, 9, 7, 6, 5, 3, 2, 1, 0] [(1, .pointer (some ⟨b3, 0, none⟩)), (20, .agg #[ba, a9, aq, a8, an, au, a7, a6, ar, a5, ao]), (24, e5), (28, e6), (32, e7), (33, .func (.func 62) #[] #[]), (35, a6), (37, .func (.func 62) #[] #[]), (39, a5), (42, au), (45, ar), (48, aq), (51, an), (54, ao), (56, .map (some aa))] w := by
    intro dp dq dr aa e5 e6 e7 fx w H gx hs iu iv iw
    rw [book_Compile.t7] at H
    refine (bb _ _ _ _ _ _).1 <| F1 16 sh rfl (fun q5 nu => ?_)
    obtain ⟨kf, lp, H⟩ := bnd H
    refine O_callv rfl rfl rfl (book_Compile_1.c hs (js.mono gx) lp) (fun nv w hpost => ?_)
    obtain ⟨nw, q6, rfl, gm, hs, nx⟩ := hpost
    refine O_nil (nu _ _ (fun _ _ => ((hs.less (gx.trans gm)).sub (ssk (ssc (ssc ssr))))) <| (OD_land rfl (by kernel_rfl) (OD.weak [(1, _), (20, _), (24, _), (28, _), (32, _), (36, _), (37, _), (39, _), (42, _), (45, _), (48, _), (51, _), (54, _), (56, _)] sbn ((bb _ _ _ _ _ _).2 (ll dp dq dr kf aa e5 e6 e7 nv nw _ H (gx.trans gm) hs (iu.mono gm) (iv.mono gm) (iw.mono gm) nx)))))
   have lq : ∀ (ds dt : Option Tab) (aa : Nat) (e8 e9 : Value) (gn : Hp) (w : World), book_Compile.t8 ap ds dt = some r → Le br gn → St w0 gn ((.obj aa (mapObj kv115.enc (vs (Value.int .i32) ([] : List (Vector Int 2 × Int))))) :: (.box fb 100 ([.int .i64 bl.1.list, .int .i64 bl.1.row])) :: (.box b3 27 ([ba, a9, aq, a8, an, au, a7, a6, ar, a5, ao])) :: Γ) w → PtrR rTab gn e8 ds → PtrR rTab gn e9 dt → fs [] (fun w => St w0 br ((.box fb 100 ([.int .i64 bl.1.list, .int .i64 bl.1.row])) :: (.box b3 27 ([ba, a9, aq, a8, an, au, a7, a6, ar, a5, ao])) :: Γ) w) 11 [8, 4, 36, 34, 33, 31, 30, 28, 27, 25, 24, 22, 21, 19, 18, 17, 15, 14, 13, 11, 10, 9, 7, 6, 5, 3, 2, 1, 0] [(1, .pointer (some ⟨b3, 0, none⟩)), (20, .agg #[ba, a9, aq, a8, an, au, a7, a6, ar, a5, ao]), (24, e8), (28, e9), (29, .func (.func 62) #[] #[]), (31, a7), (33, .func (.func 62) #[] #[]), (35, a6), (37, .func (.func 62) #[] #[]), (39, a5), (42, au), (45, ar), (48, aq), (51, an), (54, ao), (56, .map (some aa))] w := by
    intro ds dt aa e8 e9 gn w H gy hs iy iz
    rw [book_Compile.t8] at H
    refine (bb _ _ _ _ _ _).1 <| F1 12 sh rfl (fun q7 ny => ?_)
    obtain ⟨kg, lr, H⟩ := bnd H
    refine O_callv rfl rfl rfl (book_Compile_1.c hs (jr.mono gy) lr) (fun nz w hpost => ?_)
    obtain ⟨n0, q8, rfl, hd, hs, n1⟩ := hpost
    refine O_nil (ny _ _ (fun _ _ => ((hs.less (gy.trans hd)).sub (ssk (ssc (ssc ssr))))) <| (OD_land rfl (by kernel_rfl) (OD.weak [(1, _), (20, _), (24, _), (28, _), (32, _), (33, _), (35, _), (37, _), (39, _), (42, _), (45, _), (48, _), (51, _), (54, _), (56, _)] sbn ((bb _ _ _ _ _ _).2 (ln ds dt kg aa e8 e9 nz n0 _ H (gy.trans hd) hs (iy.mono hd) (iz.mono hd) n1)))))
   have ls : ∀ (du : Option Tab) (aa : Nat) (fa : Value) (he : Hp) (w : World), book_Compile.t9 ap du = some r → Le br he → St w0 he ((.obj aa (mapObj kv115.enc (vs (Value.int .i32) ([] : List (Vector Int 2 × Int))))) :: (.box fb 100 ([.int .i64 bl.1.list, .int .i64 bl.1.row])) :: (.box b3 27 ([ba, a9, aq, a8, an, au, a7, a6, ar, a5, ao])) :: Γ) w → PtrR rTab he fa du → fs [] (fun w => St w0 br ((.box fb 100 ([.int .i64 bl.1.list, .int .i64 bl.1.row])) :: (.box b3 27 ([ba, a9, aq, a8, an, au, a7, a6, ar, a5, ao])) :: Γ) w) 12 [4, 36, 34, 33, 31, 30, 28, 27, 25, 24, 22, 21, 19, 18, 17, 15, 14, 13, 11, 10, 9, 7, 6, 5, 3, 2, 1, 0] [(1, .pointer (some ⟨b3, 0, none⟩)), (20, .agg #[ba, a9, aq, a8, an, au, a7, a6, ar, a5, ao]), (24, fa), (25, .func (.func 62) #[] #[]), (27, a8), (29, .func (.func 62) #[] #[]), (31, a7), (33, .func (.func 62) #[] #[]), (35, a6), (37, .func (.func 62) #[] #[]), (39, a5), (42, au), (45, ar), (48, aq), (51, an), (54, ao), (56, .map (some aa))] w := by
    intro du aa fa he w H gz hs ja
    rw [book_Compile.t9] at H
    refine (bb _ _ _ _ _ _).1 <| F1 8 sh rfl (fun q9 n2 => ?_)
    obtain ⟨kh, lt, H⟩ := bnd H
    refine O_callv rfl rfl rfl (book_Compile_1.c hs (jp.mono gz) lt) (fun n3 w hpost => ?_)
    obtain ⟨n4, ra, rfl, jb, hs, n5⟩ := hpost
    refine O_nil (n2 _ _ (fun _ _ => ((hs.less (gz.trans jb)).sub (ssk (ssc (ssc ssr))))) <| (OD_land rfl (by kernel_rfl) (OD.weak [(1, _), (20, _), (24, _), (28, _), (29, _), (31, _), (33, _), (35, _), (37, _), (39, _), (42, _), (45, _), (48, _), (51, _), (54, _), (56, _)] sbn ((bb _ _ _ _ _ _).2 (lq du kh aa fa n3 n4 _ H (gz.trans jb) hs (ja.mono jb) n5)))))
   have n6 : ∀ (aa : Nat) (w : World), book_Compile.t10 ap = some r → St w0 br ((.obj aa (mapObj kv115.enc (vs (Value.int .i32) ([] : List (Vector Int 2 × Int))))) :: (.box fb 100 ([.int .i64 bl.1.list, .int .i64 bl.1.row])) :: (.box b3 27 ([ba, a9, aq, a8, an, au, a7, a6, ar, a5, ao])) :: Γ) w → fs [] (fun w => St w0 br ((.box fb 100 ([.int .i64 bl.1.list, .int .i64 bl.1.row])) :: (.box b3 27 ([ba, a9, aq, a8, an, au, a7, a6, ar, a5, ao])) :: Γ) w) 13 [36, 34, 33, 31, 30, 28, 27, 25, 24, 22, 21, 19, 18, 17, 15, 14, 13, 11, 10, 9, 7, 6, 5, 3, 2, 1, 0] [(1, .pointer (some ⟨b3, 0, none⟩)), (20, .agg #[ba, a9, aq, a8, an, au, a7, a6, ar, a5, ao]), (21, .func (.func 62) #[] #[]), (23, a9), (25, .func (.func 62) #[] #[]), (27, a8), (29, .func (.func 62) #[] #[]), (31, a7), (33, .func (.func 62) #[] #[]), (35, a6), (37, .func (.func 62) #[] #[]), (39, a5), (42, au), (45, ar), (48, aq), (51, an), (54, ao), (56, .map (some aa))] w := by
    intro aa w H hs
    rw [book_Compile.t10] at H
    refine (bb _ _ _ _ _ _).1 <| F1 4 sh rfl (fun rb n7 => ?_)
    obtain ⟨ki, lu, H⟩ := bnd H
    refine O_callv rfl rfl rfl (book_Compile_1.c hs jn lu) (fun n8 w hpost => ?_)
    obtain ⟨n9, rc, rfl, j7, hs, oa⟩ := hpost
    refine O_nil (n7 _ _ (fun _ _ => ((hs.less j7).sub (ssk (ssc (ssc ssr))))) <| (OD_land rfl (by kernel_rfl) (OD.weak [(1, _), (20, _), (24, _), (25, _), (27, _), (29, _), (31, _), (33, _), (35, _), (37, _), (39, _), (42, _), (45, _), (48, _), (51, _), (54, _), (56, _)] sbn ((bb _ _ _ _ _ _).2 (ls ki aa n8 n9 _ H j7 hs oa)))))
   refine (bb _ _ _ _ _ _).1 <| OD_twoS sh (i := 36) (j := 4) rfl rfl (by kernel_rfl) (fun re ob => ?_) (fun rf oc => ?_)
   ·refine O_mapNew kv115.enc (Value.int .i32) hs rfl (fun aa w hs => O_nil (ob _ _ (fun _ _ => (hs.sub (ssk (ssc (ssc ssr))))) <| (OD_land rfl (by kernel_rfl) (OD.weak [(1, _), (20, _), (21, _), (23, _), (25, _), (27, _), (29, _), (31, _), (33, _), (35, _), (37, _), (39, _), (42, _), (45, _), (48, _), (51, _), (54, _), (56, _)] sbn ((bb _ _ _ _ _ _).2 (n6 aa _ H hs))))))
   ·rw [book_Compile.t10] at H
    obtain ⟨ft, lv, H⟩ := bnd H
    refine O_callv rfl rfl rfl (book_Compile_1.c hs jn lv) (fun fe w hpost => ?_)
    obtain ⟨od, rg, rfl, go, hs, fq⟩ := hpost
    refine O_nil (oc _ _ (fun _ _ => (hs.less go)) <| OD_twoS sh (i := 36) (j := 8) rfl rfl (by kernel_rfl) (fun rh oe => ?_) (fun ri og => ?_))
    ·refine O_mapNew kv115.enc (Value.int .i32) hs rfl (fun aa w hs => O_nil (oe _ _ (fun _ _ => ((hs.less go).sub (ssk (ssc (ssc ssr))))) <| (OD_land rfl (by kernel_rfl) (OD.weak [(1, _), (20, _), (24, _), (25, _), (27, _), (29, _), (31, _), (33, _), (35, _), (37, _), (39, _), (42, _), (45, _), (48, _), (51, _), (54, _), (56, _)] sbn ((bb _ _ _ _ _ _).2 (ls ft aa fe od _ H go hs fq))))))
    ·rw [book_Compile.t9] at H
     obtain ⟨fz, lw, H⟩ := bnd H
     refine O_callv rfl rfl rfl (book_Compile_1.c hs (jp.mono go) lw) (fun fr w hpost => ?_)
     obtain ⟨oh, rj, rfl, dx, hs, fu⟩ := hpost
     have jc := go.trans dx
     refine O_nil (og _ _ (fun _ _ => (hs.less jc)) <| OD_twoS sh (i := 36) (j := 12) rfl rfl (by kernel_rfl) (fun rk oi => ?_) (fun rl oj => ?_))
     ·refine O_mapNew kv115.enc (Value.int .i32) hs rfl (fun aa w hs => O_nil (oi _ _ (fun _ _ => ((hs.less jc).sub (ssk (ssc (ssc ssr))))) <| (OD_land rfl (by kernel_rfl) (OD.weak [(1, _), (20, _), (24, _), (28, _), (29, _), (31, _), (33, _), (35, _), (37, _), (39, _), (42, _), (45, _), (48, _), (51, _), (54, _), (56, _)] sbn ((bb _ _ _ _ _ _).2 (lq ft fz aa fe fr oh _ H jc hs (fq.mono dx) fu))))))
     ·rw [book_Compile.t8] at H
      obtain ⟨gp, lx, H⟩ := bnd H
      refine O_callv rfl rfl rfl (book_Compile_1.c hs (jr.mono jc) lx) (fun fv w hpost => ?_)
      obtain ⟨ok, rm, rfl, bo, hs, ga⟩ := hpost
      have jd := jc.trans bo
      refine O_nil (oj _ _ (fun _ _ => (hs.less jd)) <| OD_twoS sh (i := 36) (j := 16) rfl rfl (by kernel_rfl) (fun rn ol => ?_) (fun ro om => ?_))
      ·refine O_mapNew kv115.enc (Value.int .i32) hs rfl (fun aa w hs => O_nil (ol _ _ (fun _ _ => ((hs.less jd).sub (ssk (ssc (ssc ssr))))) <| (OD_land rfl (by kernel_rfl) (OD.weak [(1, _), (20, _), (24, _), (28, _), (32, _), (33, _), (35, _), (37, _), (39, _), (42, _), (45, _), (48, _), (51, _), (54, _), (56, _)] sbn ((bb _ _ _ _ _ _).2 (ln ft fz gp aa fe fr fv ok _ H jd hs (fq.mono (dx.trans bo)) (fu.mono bo) ga))))))
      ·rw [book_Compile.t7] at H
       obtain ⟨ha, ly, H⟩ := bnd H
       refine O_callv rfl rfl rfl (book_Compile_1.c hs (js.mono jd) ly) (fun gb w hpost => ?_)
       obtain ⟨on, rp, rfl, bh, hs, gq⟩ := hpost
       have je := jd.trans bh
       refine O_nil (om _ _ (fun _ _ => (hs.less je)) <| OD_twoS sh (i := 36) (j := 20) rfl rfl (by kernel_rfl) (fun rq oo => ?_) (fun rr op => ?_))
       ·refine O_mapNew kv115.enc (Value.int .i32) hs rfl (fun aa w hs => O_nil (oo _ _ (fun _ _ => ((hs.less je).sub (ssk (ssc (ssc ssr))))) <| (OD_land rfl (by kernel_rfl) (OD.weak [(1, _), (20, _), (24, _), (28, _), (32, _), (36, _), (37, _), (39, _), (42, _), (45, _), (48, _), (51, _), (54, _), (56, _)] sbn ((bb _ _ _ _ _ _).2 (ll ft fz gp ha aa fe fr fv gb on _ H je hs (fq.mono ((dx.trans bo).trans bh)) (fu.mono (bo.trans bh)) (ga.mono bh) gq))))))
       ·rw [book_Compile.t6] at H
        obtain ⟨hg, lz, H⟩ := bnd H
        refine O_callv rfl rfl rfl (book_Compile_1.c hs (ju.mono je) lz) (fun gr w hpost => ?_)
        obtain ⟨oq, rs, rfl, bd, hs, hb⟩ := hpost
        have jf := je.trans bd
        refine O_nil (op _ _ (fun _ _ => (hs.less jf)) <| OD_twoS sh (i := 36) (j := 23) rfl rfl (by kernel_rfl) (fun rt os => ?_) (fun ru ot => ?_))
        ·refine O_mapNew kv115.enc (Value.int .i32) hs rfl (fun aa w hs => O_nil (os _ _ (fun _ _ => ((hs.less jf).sub (ssk (ssc (ssc ssr))))) <| (OD_land rfl (by kernel_rfl) (OD.weak [(1, _), (20, _), (24, _), (28, _), (32, _), (36, _), (40, _), (42, _), (45, _), (48, _), (51, _), (54, _), (56, _)] sbn ((bb _ _ _ _ _ _).2 (lj ft fz gp ha hg aa fe fr fv gb gr oq _ H jf hs (fq.mono (((dx.trans bo).trans bh).trans bd)) (fu.mono ((bo.trans bh).trans bd)) (ga.mono (bh.trans bd)) (gq.mono bd) hb))))))
        ·rw [book_Compile.t5] at H
         obtain ⟨jg, l0, H⟩ := bnd H
         refine Oc rfl (book_marked.c hs (jq.mono jf) l0) (fun hc w hpost => ?_)
         obtain ⟨ou, rv, rfl, bc, hs, hh⟩ := hpost
         have jh := jf.trans bc
         refine O_nil (ot _ _ (fun _ _ => (hs.less jh)) <| OD_twoS sh (i := 36) (j := 26) rfl rfl (by kernel_rfl) (fun rx ov => ?_) (fun ry ow => ?_))
         ·refine O_mapNew kv115.enc (Value.int .i32) hs rfl (fun aa w hs => O_nil (ov _ _ (fun _ _ => ((hs.less jh).sub (ssk (ssc (ssc ssr))))) <| (OD_land rfl (by kernel_rfl) (OD.weak [(1, _), (20, _), (24, _), (28, _), (32, _), (36, _), (40, _), (43, _), (45, _), (48, _), (51, _), (54, _), (56, _)] sbn ((bb _ _ _ _ _ _).2 (lh ft fz gp ha hg jg aa fe fr fv gb gr hc ou _ H jh hs (fq.mono ((((dx.trans bo).trans bh).trans bd).trans bc)) (fu.mono (((bo.trans bh).trans bd).trans bc)) (ga.mono ((bh.trans bd).trans bc)) (gq.mono (bd.trans bc)) (hb.mono bc) hh))))))
         ·rw [book_Compile.t4] at H
          obtain ⟨j0, l2, H⟩ := bnd H
          refine Oc rfl (book_marked.c hs (jt.mono jh) l2) (fun hj w hpost => ?_)
          obtain ⟨ox, rz, rfl, be, hs, ji⟩ := hpost
          have jj := jh.trans be
          refine O_nil (ow _ _ (fun _ _ => (hs.less jj)) <| OD_twoS sh (i := 36) (j := 29) rfl rfl (by kernel_rfl) (fun r0 oy => ?_) (fun r1 oz => ?_))
          ·refine O_mapNew kv115.enc (Value.int .i32) hs rfl (fun aa w hs => O_nil (oy _ _ (fun _ _ => ((hs.less jj).sub (ssk (ssc (ssc ssr))))) <| (OD_land rfl (by kernel_rfl) (OD.weak [(1, _), (20, _), (24, _), (28, _), (32, _), (36, _), (40, _), (43, _), (46, _), (48, _), (51, _), (54, _), (56, _)] sbn ((bb _ _ _ _ _ _).2 (lf ft fz gp ha hg jg j0 aa fe fr fv gb gr hc hj ox _ H jj hs (fq.mono (((((dx.trans bo).trans bh).trans bd).trans bc).trans be)) (fu.mono ((((bo.trans bh).trans bd).trans bc).trans be)) (ga.mono (((bh.trans bd).trans bc).trans be)) (gq.mono ((bd.trans bc).trans be)) (hb.mono (bc.trans be)) (hh.mono be) ji))))))
          ·rw [book_Compile.t3] at H
           obtain ⟨kr, l3, H⟩ := bnd H
           refine Oc rfl (book_numbered_api_Chars_fhb.c hs (jo.mono jj) l3) (fun jk w hpost => ?_)
           obtain ⟨o0, r2, rfl, bi, hs, j4⟩ := hpost
           have jl := jj.trans bi
           refine O_nil (oz _ _ (fun _ _ => (hs.less jl)) <| OD_twoS sh (i := 36) (j := 32) rfl rfl (by kernel_rfl) (fun r3 o1 => ?_) (fun r4 o2 => ?_))
           ·refine O_mapNew kv115.enc (Value.int .i32) hs rfl (fun aa w hs => O_nil (o1 _ _ (fun _ _ => ((hs.less jl).sub (ssk (ssc (ssc ssr))))) <| (OD_land rfl (by kernel_rfl) (OD.weak [(1, _), (20, _), (24, _), (28, _), (32, _), (36, _), (40, _), (43, _), (46, _), (49, _), (51, _), (54, _), (56, _)] sbn ((bb _ _ _ _ _ _).2 (ld ft fz gp ha hg jg j0 kr aa fe fr fv gb gr hc hj jk o0 _ H jl hs (fq.mono ((((((dx.trans bo).trans bh).trans bd).trans bc).trans be).trans bi)) (fu.mono (((((bo.trans bh).trans bd).trans bc).trans be).trans bi)) (ga.mono ((((bh.trans bd).trans bc).trans be).trans bi)) (gq.mono (((bd.trans bc).trans be).trans bi)) (hb.mono ((bc.trans be).trans bi)) (hh.mono (be.trans bi)) (ji.mono bi) j4))))))
           ·rw [book_Compile.t2] at H
            obtain ⟨l4, l5, H⟩ := bnd H
            refine Oc rfl (book_numbered_api_Chars_fhb.c hs (hf.mono jl) l5) (fun j5 w hpost => ?_)
            obtain ⟨o3, r5, rfl, bp, hs, ks⟩ := hpost
            have jm := jl.trans bp
            refine O_nil (o2 _ _ (fun _ _ => (hs.less jm)) <| OD_twoS sh (i := 36) (j := 35) rfl rfl (by kernel_rfl) (fun r6 o4 => ?_) (fun r7 o5 => ?_))
            ·refine O_mapNew kv115.enc (Value.int .i32) hs rfl (fun aa w hs => O_nil (o4 _ _ (fun _ _ => ((hs.less jm).sub (ssk (ssc (ssc ssr))))) <| (OD_land rfl (by kernel_rfl) (OD.weak [(1, _), (20, _), (24, _), (28, _), (32, _), (36, _), (40, _), (43, _), (46, _), (49, _), (52, _), (54, _), (56, _)] sbn ((bb _ _ _ _ _ _).2 (la ft fz gp ha hg jg j0 kr l4 aa fe fr fv gb gr hc hj jk j5 o3 _ H jm hs (fq.mono (((((((dx.trans bo).trans bh).trans bd).trans bc).trans be).trans bi).trans bp)) (fu.mono ((((((bo.trans bh).trans bd).trans bc).trans be).trans bi).trans bp)) (ga.mono (((((bh.trans bd).trans bc).trans be).trans bi).trans bp)) (gq.mono ((((bd.trans bc).trans be).trans bi).trans bp)) (hb.mono (((bc.trans be).trans bi).trans bp)) (hh.mono ((be.trans bi).trans bp)) (ji.mono (bi.trans bp)) (j4.mono bp) ks))))))
            ·rw [book_Compile.t1] at H
             obtain ⟨o6, l6, H⟩ := bnd H
             refine Oc rfl (book_numbered_api_Chars_fhb.c hs (jv.mono jm) l6) (fun kt w hpost => ?_)
             obtain ⟨o7, r8, rfl, dy, hs, l7⟩ := hpost
             have j6 := jm.trans dy
             refine O_nil (o5 _ _ (fun _ _ => (hs.less j6)) <| F1 36 sh rfl (fun r9 o8 => O_mapNew kv115.enc (Value.int .i32) hs rfl (fun aa w hs => O_nil (o8 _ _ (fun _ _ => ((hs.less j6).sub (ssk (ssc (ssc ssr))))) <| Fp 37 sh rfl (fun w => Y_build (cs := [ba, a9, aq, a8, an, au, a7, a6, ar, a5, ao, fe, fr, fv, gb, gr, hc, hj, jk, j5, kt, .map (some aa)]) zr114 pl114 ((Parts.cons rfl rfl (Parts.cons rfl fq.cellsL (Parts.cons rfl fu.cellsL (Parts.cons rfl ga.cellsL (Parts.cons rfl gq.cellsL (Parts.cons rfl hb.cellsL (Parts.cons rfl hh.cellsL (Parts.cons rfl ji.cellsL (Parts.cons rfl j4.cellsL (Parts.cons rfl ks.cellsL (Parts.cons rfl l7.cellsL (Parts.cons rfl rfl Parts.nil))))))))))))) ag114 (by kernel_rfl)) <| F1 38 sh rfl (fun sa o9 => O_boxN (cs := [ba, a9, aq, a8, an, au, a7, a6, ar, a5, ao, fe, fr, fv, gb, gr, hc, hj, jk, j5, kt, .map (some aa)]) hs rfl rfl (fun bm w hs => O_nil (o9 _ _ (fun _ _ => ((hs.less j6).sub (ssk (ssk (ssc (ssc ssr)))))) <| Fp 39 sh rfl (fun w => Y_assign rfl) <| FE sh (ky _ _ _ (T2 rfl) (kz ft fz gp ha hg jg j0 kr l4 o6 fe fr fv gb gr hc hj jk j5 kt bm aa o7 _ H j6 hs (fq.mono ((((((((dx.trans bo).trans bh).trans bd).trans bc).trans be).trans bi).trans bp).trans dy)) (fu.mono (((((((bo.trans bh).trans bd).trans bc).trans be).trans bi).trans bp).trans dy)) (ga.mono ((((((bh.trans bd).trans bc).trans be).trans bi).trans bp).trans dy)) (gq.mono (((((bd.trans bc).trans be).trans bi).trans bp).trans dy)) (hb.mono ((((bc.trans be).trans bi).trans bp).trans dy)) (hh.mono (((be.trans bi).trans bp).trans dy)) (ji.mono ((bi.trans bp).trans dy)) (j4.mono (bp.trans dy)) (ks.mono dy) l7)))))))))

end Go.Proofs.YthoicbafdanmkaaGreatDoor
/- Written by this repo's gen.py: for each Go function a Lean function with the same answers and the walk that shows it. -/
namespace Go.Proofs.YthoicbafdanmkaaGreatDoor
open Go.RowKit
set_option maxRecDepth 100000
set_option maxHeartbeats 4000000
variable {w0 w : World} {ρ : Hp} {Γ : List Item}
set_option linter.unusedVariables false
def puny_boot_encode.j1 (b2 : List Int → Int → Option (ByteArray × Int × Int)) (ac : Int) (av : List Int) : Option (ByteArray × Int × Int) := b2 av (IntKind.i64.wrap (ac + 1))
def puny_boot_encode.j2 (x0 : S11) (am : List Int) : Option (ByteArray × Int × Int) := (puny_boot_decode.f x0 (bytesS am)).bind fun ci => (if ci.2.2 ≠ 0 then (some ((⟨#[]⟩ : ByteArray), 0, 142)) else (some (bytesS am, 0, 0)))
def puny_boot_encode.j3 (bw : List Int → Int → Int → Int → Int → Option (ByteArray × Int × Int)) (ad : Int) (an : List Int) (a2 a6 a7 : Int) : Option (ByteArray × Int × Int) := if 2147483647 < a2 then (some ((⟨#[]⟩ : ByteArray), 0, 142)) else (bw an a2 a6 a7 (IntKind.i64.wrap (ad + 1)))
def puny_boot_encode.l1 (bi : List Int → Int → Int → Int → Int → Option (ByteArray × Int × Int)) : Nat → S11 → List Int → List Int → Int → List Int → Int → Int → Int → Int → Option (ByteArray × Int × Int)
  | 0, _, _, _, _, _, _, _, _, _ => none
  | a5 + 1, x0, x1, aa, a4, ab, af, ah, ae, ad => if ad < (x1.length : Int) then (if (0 : Int) ≤ ad ∧ ad < (x1.length : Int) then (if (IntKind.i64.wrap (rd x1 ad)) < a4 then (puny_boot_encode.j3 (puny_boot_encode.l1 bi a5 x0 x1 aa a4) ad ab (IntKind.i64.wrap (af + 1)) ah ae) else (if (IntKind.i64.wrap (rd x1 ad)) = a4 then ((puny_boot_written.f x0 af ah).bind fun bx => (if ab.length + bx.length ≤ most then ((puny_boot_adapted.f x0 af (IntKind.i64.wrap (ae + 1)) (decide (ae = (aa.length : Int)))).bind fun b3 => (puny_boot_encode.j3 (puny_boot_encode.l1 bi a5 x0 x1 aa a4) ad (ab ++ bx) 0 b3 (IntKind.i64.wrap (ae + 1)))) else none)) else (puny_boot_encode.j3 (puny_boot_encode.l1 bi a5 x0 x1 aa a4) ad ab af ah ae))) else none) else (if ae = (x1.length : Int) then (puny_boot_encode.j2 x0 ab) else (if 2147483647 < (IntKind.i64.wrap (af + 1)) then (some ((⟨#[]⟩ : ByteArray), 0, 142)) else (bi ab (IntKind.i64.wrap (a4 + 1)) (IntKind.i64.wrap (af + 1)) ah ae)))
def puny_boot_encode.l2 : Nat → S11 → List Int → List Int → List Int → Int → Int → Int → Int → Option (ByteArray × Int × Int)
  | 0, _, _, _, _, _, _, _, _ => none
  | ba + 1, x0, x1, aa, ag, aq, ar, ax, aj => if aj < (x1.length : Int) then ((puny_next.f x1 aq).bind fun a4 => (if 2147483647 < (IntKind.i64.wrap (ar + (IntKind.i64.wrap ((IntKind.i64.wrap (a4 - aq)) * (IntKind.i64.wrap (aj + 1)))))) then (some ((⟨#[]⟩ : ByteArray), 0, 142)) else (puny_boot_encode.l1 (puny_boot_encode.l2 ba x0 x1 aa) K0 x0 x1 aa a4 ag (IntKind.i64.wrap (ar + (IntKind.i64.wrap ((IntKind.i64.wrap (a4 - aq)) * (IntKind.i64.wrap (aj + 1)))))) ax aj 0))) else (puny_boot_encode.j2 x0 ag)
def puny_boot_encode.j4 (x0 : S11) (x1 aa ak : List Int) : Option (ByteArray × Int × Int) := puny_boot_encode.l2 K0 x0 x1 aa ak x0.first 0 x0.bias (aa.length : Int)
def puny_boot_encode.l3 : Nat → S11 → List Int → List Int → Int → Option (ByteArray × Int × Int)
  | 0, _, _, _, _ => none
  | bj + 1, x0, x1, aa, ac => if ac < (x1.length : Int) then (if (0 : Int) ≤ ac ∧ ac < (x1.length : Int) then ((puny_boot_basic.f x0 (rd x1 ac)).bind fun cj => (if cj = true then (if aa.length + ([IntKind.u8.wrap (rd x1 ac)]).length ≤ most then (puny_boot_encode.j1 (puny_boot_encode.l3 bj x0 x1) ac (aa ++ ([IntKind.u8.wrap (rd x1 ac)]))) else none) else (puny_boot_encode.j1 (puny_boot_encode.l3 bj x0 x1) ac aa))) else none) else (if 0 < (aa.length : Int) then (if aa.length + ([x0.between]).length ≤ most then (puny_boot_encode.j4 x0 x1 aa (aa ++ ([x0.between]))) else none) else (puny_boot_encode.j4 x0 x1 aa aa))
def puny_boot_encode.f (x0 : S11) (x1 : List Int) : Option (ByteArray × Int × Int) := (puny_boot_check.f x0 x1).bind fun dc => (if dc.2 ≠ 0 then (some ((⟨#[]⟩ : ByteArray), dc.1, dc.2)) else (puny_boot_encode.l3 K0 x0 x1 ([] : List Int) 0))
theorem puny_boot_encode.c (hs : St w0 ρ (Γ) w) {c0 : List Value} {x0 : S11} (h0 : rS11.R ρ c0 x0) {v1 : Value} {x1 : List Int} (h1 : SlR (Rep.int .i32) ρ v1 x1) {r : ByteArray × Int × Int} (H : puny_boot_encode.f x0 x1 = some r) : CallsR Tryz.prog 70 [.agg c0.toArray, v1] w (fun v w' => v = .tuple #[.string r.1, .int .i64 r.2.1, .int .i64 r.2.2] ∧ St w0 ρ Γ w') := by
  rw [puny_boot_encode.f] at H
  refine Et Tryz.func70 Tryz.ntmps70 rfl ?_
  have fj := h0
  obtain rfl := fj
  refine Wr fun iu fk => O_boxN (cs := [.int .i64 x0.base, .int .i64 x0.least, .int .i64 x0.most, .int .i64 x0.skew, .int .i64 x0.damp, .int .i64 x0.bias, .int .i64 x0.first, .int .u8 x0.between]) hs rfl rfl (fun bl w hs => As rfl <| As rfl <| As rfl <| Ox fk <| W_seq fun iv fl => Wr fun iw fm => O_y rfl (Y_loadbN (i := 0) ag117 sz117 hs rfl rfl rfl rfl) <| Mv rfl ?_)
  obtain ⟨dc, dd, H⟩ := bnd H
  refine Oc rfl (puny_boot_check.c hs h0 h1 dd) (fun iy w hpost => ?_)
  obtain ⟨rfl, hs⟩ := hpost
  refine Mv rfl <| Oxt rfl <| Oxt rfl <| As rfl <| As rfl <| Ox fm <| Wr fun iz fn => Mv rfl <| One rfl <| Ox fn <| W.weak [(1, _), (2, _), (7, _), (8, _), (31, _)] sbn ?_
  refine W_if rfl (fun de => ?_) (fun de => ?_)
  ·rw [if_pos de] at H
   refine Wr fun ja fo => Mv rfl <| Mv rfl <| As rfl <| As rfl <| As rfl <| Ox fo <| W_ret ?_
   obtain rfl := sinj H
   exact ret3 rfl rfl rfl rfl ⟨rfl, (hs.sub (ssk ssr))⟩
  ·rw [if_neg de] at H
   refine Wx fl <| Wr fun jb fp => As rfl ?_
   have hs := hs.rowNil 5 (Rep.int .u8).sz
   have fq := RowR.nil (Rep.int .u8) ρ
   refine Ox fp <| W_seq fun jc fr => Wr fun jd fs => Mv rfl <| O_y rfl (Y_lenR un28 h1 rfl) <| Mv rfl <| Ox fs <| W_block fun je ft jf => W_loop (σ := Nat × List Int × Int × Value × List Value) (fun (bj, aa, ac, aw, ay) => [(1, v1), (2, .pointer (some ⟨bl, 0, none⟩)), (9, aw), (34, v1), (35, .int .i64 (x1.length : Int)), (36, .int .i64 ac)]) (fun (bj, aa, ac, aw, ay) w => puny_boot_encode.l3 bj x0 x1 aa ac = some r ∧ St w0 ρ ((.row aw 5 ((Rep.int .u8).sz) aa.length ay) :: (.box bl 117 ([.int .i64 x0.base, .int .i64 x0.least, .int .i64 x0.most, .int .i64 x0.skew, .int .i64 x0.damp, .int .i64 x0.bias, .int .i64 x0.first, .int .u8 x0.between])) :: Γ) w ∧ RowR (Rep.int .u8) ρ ay aa) (fun s => s.1) (K0, ([] : List Int), 0, (.slice none 0 0), ([])) sbn (Ai H (Ai hs fq)) ?_
   rintro ⟨bj, aa, ac, aw, ay⟩ w jg ⟨H, hs, bc⟩ b4
   show W _ _ _ _ _ _ [(1, v1), (2, .pointer (some ⟨bl, 0, none⟩)), (9, aw), (34, v1), (35, .int .i64 (x1.length : Int)), (36, .int .i64 ac)] w
   cases bj with
   | zero => rw [puny_boot_encode.l3] at H; cases H
   | succ bj =>
   rw [puny_boot_encode.l3] at H
   refine Wr fun jh fu => Ols rfl <| Ox fu <| W_seq fun ji fv => W_if rfl (fun df => ?_) (fun df => ?_)
   ·rw [if_pos df] at H
    refine Wx fv <| W_seqj fun fw fx fe => ?_
    have ff : ∀ (av : List Int) (bd : Value) (be : List Value) (w : World), puny_boot_encode.j1 (puny_boot_encode.l3 bj x0 x1) ac av = some r → St w0 ρ ((.row bd 5 ((Rep.int .u8).sz) av.length be) :: (.box bl 117 ([.int .i64 x0.base, .int .i64 x0.least, .int .i64 x0.most, .int .i64 x0.skew, .int .i64 x0.damp, .int .i64 x0.bias, .int .i64 x0.first, .int .u8 x0.between])) :: Γ) w → RowR (Rep.int .u8) ρ be av → fw [(1, v1), (2, .pointer (some ⟨bl, 0, none⟩)), (9, bd), (34, v1), (35, .int .i64 (x1.length : Int)), (36, .int .i64 ac)] w := by
     intro av bd be w H hs bs
     rw [puny_boot_encode.j1] at H
     refine fx _ _ <| W_region <| Oad rfl <| Mv rfl <| O_nil (b4 (bj, av, (IntKind.i64.wrap (ac + 1)), bd, be) _ _ sbn (Ai H (Ai hs bs)) (Nat.lt_succ_self _))
    refine W_block fun jj jk jl => W_seq fun jm fy => W_region ?_
    obtain ⟨fg, H⟩ := gd H
    obtain ⟨jn, jo, fz, ga⟩ := h1.ix el28 fg.1 fg.2
    refine O_y rfl (ga rfl rfl) <| O_y rfl (Y_load ag21 rfl (hs.see fz.int)) <| As rfl <| Ox fy <| Wr fun gb dg => O_y rfl (Y_loadbN (i := 1) ag117 sz117 hs rfl rfl rfl rfl) <| Mv rfl ?_
    obtain ⟨cj, ck, H⟩ := bnd H
    refine Oc rfl (puny_boot_basic.c hs h0 ck) (fun gc w hpost => ?_)
    obtain ⟨rfl, hs⟩ := hpost
    refine Ox dg <| W_cond rfl (fun b5 => ?_) (fun b5 => ?_)
    ·rw [if_pos b5] at H
     refine W_region <| Mv rfl <| Mv rfl <| O_y rfl (Y_conv un21 un5 rfl) <| O_lit2 (xs := [.tmp 45]) (cs := [.int .u8 (IntKind.u8.wrap (rd x1 ac))]) el72 hs rfl rfl rfl (by decide) (by decide) rfl (sz_cons rfl sz_nil) (flat_cons rfl flat_nil) (fun ge w hs => ?_)
     have cl : RowR (Rep.int .u8) ρ ([.int .u8 (IntKind.u8.wrap (rd x1 ac))]) [IntKind.u8.wrap (rd x1 ac)] := RowR.cons (c := [.int .u8 (IntKind.u8.wrap (rd x1 ac))]) (x := IntKind.u8.wrap (rd x1 ac)) rfl (RowR.nil _ _)
     obtain ⟨dh, H⟩ := gd H
     refine O_appendR (i := 1) el72 hs rfl bc rfl rfl rfl (Src.lit (j := 0) hs rfl cl) cl dh (fun di cm w dj hs => As rfl <| O_nil (fe _ _ _ sbn (ff (aa ++ ([IntKind.u8.wrap (rd x1 ac)])) di cm _ H (hs.sub (ssk (ssc (ssc ssr)))) dj)))
    ·rw [if_neg (bft b5)] at H
     exact W_skip (fe _ _ _ sbn (ff aa aw ay _ H hs bc))
   ·rw [if_neg df] at H
    refine W_exit (ft _ _ (fr _ _ <| Wr fun gf dk => Mv rfl <| O_y rfl (Y_lenRow (i := 0) un72 hs rfl rfl) <| As rfl <| Ox dk <| W_seqj fun dl dm cn => ?_))
    have co : ∀ (ak : List Int) (az : Value) (a0 : List Value) (w : World), puny_boot_encode.j4 x0 x1 aa ak = some r → St w0 ρ ((.row az 5 ((Rep.int .u8).sz) ak.length a0) :: (.box bl 117 ([.int .i64 x0.base, .int .i64 x0.least, .int .i64 x0.most, .int .i64 x0.skew, .int .i64 x0.damp, .int .i64 x0.bias, .int .i64 x0.first, .int .u8 x0.between])) :: Γ) w → RowR (Rep.int .u8) ρ a0 ak → dl [(1, v1), (2, .pointer (some ⟨bl, 0, none⟩)), (9, az), (12, .int .i64 (aa.length : Int))] w := by
     intro ak az a0 w H hs bp
     rw [puny_boot_encode.j4] at H
     refine dm _ _ <| W_seq fun gg dn => W_drawS 7 [0, 1, 0, 4, 3, 19, 63] [12, 12, 51, 51, 12, 12, 0] [0, 1, 0, 4, 3, 19, 63] [] (fun w => St w0 ρ ((.row az 5 ((Rep.int .u8).sz) ak.length a0) :: (.box bl 117 ([.int .i64 x0.base, .int .i64 x0.least, .int .i64 x0.most, .int .i64 x0.skew, .int .i64 x0.damp, .int .i64 x0.bias, .int .i64 x0.first, .int .u8 x0.between])) :: Γ) w) mixed (by kernel_rfl) (fun sh => ?_)
     have hs := hs.drew
     refine Fp 0 sh rfl (fun w => Y_field fo117_6 rfl) <| Fy 1 sh rfl hs (fun w hs => Yb 1 ag3 hs rfl rfl rfl) <| Fp 2 sh rfl (fun w => Y_field fo117_5 rfl) <| Fy 3 sh rfl hs (fun w hs => Yb 1 ag3 hs rfl rfl rfl) <| Fp 4 sh rfl (fun w => Y_assign rfl) <| Fp 5 sh rfl (fun w => Y_assign rfl) <| Fp 6 sh rfl (fun w => Y_assign rfl) <| FE sh (dn _ _ <| W_seqj fun dp dq cp => ?_)
     have cq : ∀ (am : List Int) (bf : Value) (bg : List Value) (bo : Hp) (w : World), puny_boot_encode.j2 x0 am = some r → Le ρ bo → St w0 bo ((.row bf 5 ((Rep.int .u8).sz) am.length bg) :: (.box bl 117 ([.int .i64 x0.base, .int .i64 x0.least, .int .i64 x0.most, .int .i64 x0.skew, .int .i64 x0.damp, .int .i64 x0.bias, .int .i64 x0.first, .int .u8 x0.between])) :: Γ) w → RowR (Rep.int .u8) bo bg am → dp [(2, .pointer (some ⟨bl, 0, none⟩)), (9, bf)] w := by
      intro am bf bg bo w H bn hs bq
      rw [puny_boot_encode.j2] at H
      refine dq _ _ <| Wr fun gh dr => Mv rfl ?_
      obtain ⟨gi, bt, hs, ds⟩ := hs.rowEnd (j := 0) bq rfl
      refine O_y rfl (Y_sbytes un72 un5 un9 hs ds rfl) <| As rfl <| Ox dr <| W_seq fun gj dt => Wr fun gk du => O_y rfl (Y_loadbN (i := 0) ag117 sz117 hs rfl rfl rfl rfl) <| Mv rfl ?_
      obtain ⟨ci, cr, H⟩ := bnd H
      refine Oc rfl (puny_boot_decode.c hs (rS11.mono (bn.trans bt) h0) cr) (fun gl w hpost => ?_)
      obtain ⟨gm, gn, fh, rfl, b1, hs, go⟩ := hpost
      refine Mv rfl <| Oxt rfl <| Oxt rfl <| Oxt rfl <| As rfl <| As rfl <| As rfl <| Ox du <| W.weak [(20, _), (23, _)] (T2 rfl) <| Wr fun gp dv => Mv rfl <| One rfl <| O_nil (dv _ _ ?_)
      refine W_if rfl (fun b6 => ?_) (fun b6 => ?_)
      ·rw [if_pos b6] at H
       refine Wr fun gq dw => As rfl <| As rfl <| As rfl <| Ox dw <| W_ret ?_
       obtain rfl := sinj H
       exact ret3 rfl rfl rfl rfl ⟨rfl, ((hs.sub (ssk (ssk ssr))).less ((bn.trans bt).trans b1))⟩
      ·rw [if_neg b6] at H
       refine Wx dt <| Wr fun gr dx => Mv rfl <| As rfl <| As rfl <| As rfl <| Ox dx <| W_ret ?_
       obtain rfl := sinj H
       exact ret3 rfl rfl rfl rfl ⟨rfl, ((hs.sub (ssk (ssk ssr))).less ((bn.trans bt).trans b1))⟩
     refine Wr fun gs dy => Mv rfl <| As rfl <| Ox dy <| W_block fun gt ct gu => W_loop (σ := Nat × List Int × Int × Int × Int × Int × Value × List Value × Hp) (fun (ba, ag, aq, ar, ax, aj, ao, au, bh) => [(1, v1), (2, .pointer (some ⟨bl, 0, none⟩)), (9, ao), (12, .int .i64 (aa.length : Int)), (13, .int .i64 aq), (14, .int .i64 ar), (15, .int .i64 ax), (16, .int .i64 aj)]) (fun (ba, ag, aq, ar, ax, aj, ao, au, bh) w => puny_boot_encode.l2 ba x0 x1 aa ag aq ar ax aj = some r ∧ Le ρ bh ∧ St w0 bh ((.row ao 5 ((Rep.int .u8).sz) ag.length au) :: (.box bl 117 ([.int .i64 x0.base, .int .i64 x0.least, .int .i64 x0.most, .int .i64 x0.skew, .int .i64 x0.damp, .int .i64 x0.bias, .int .i64 x0.first, .int .u8 x0.between])) :: Γ) w ∧ RowR (Rep.int .u8) bh au ag) (fun s => s.1) (K0, ak, x0.first, 0, x0.bias, (aa.length : Int), az, a0, ρ) sbn (Ai H (Ai (Le.rfl' _) (Ai hs bp))) ?_
     rintro ⟨ba, ag, aq, ar, ax, aj, ao, au, bh⟩ w gv ⟨H, ap, hs, bk⟩ bz
     show W _ _ _ _ _ _ [(1, v1), (2, .pointer (some ⟨bl, 0, none⟩)), (9, ao), (12, .int .i64 (aa.length : Int)), (13, .int .i64 aq), (14, .int .i64 ar), (15, .int .i64 ax), (16, .int .i64 aj)] w
     cases ba with
     | zero => rw [puny_boot_encode.l2] at H; cases H
     | succ ba =>
     rw [puny_boot_encode.l2] at H
     refine W_seq fun gw dz => Wr fun gx ea => Mv rfl <| Mv rfl <| O_y rfl (Y_lenR un28 (h1.mono ap) rfl) <| Ols rfl <| Ox ea <| W_if rfl (fun b7 => ?_) (fun b7 => ?_)
     ·rw [if_pos b7] at H
      refine Wx dz <| W_block fun gy gz eb => Wr fun ha ec => Mv rfl <| Mv rfl ?_
      obtain ⟨a4, cu, H⟩ := bnd H
      refine Oc rfl (puny_next.c hs (h1.mono ap) cu) (fun hb w hpost => ?_)
      obtain ⟨rfl, hs⟩ := hpost
      refine As rfl <| Ox ec <| W.weak [(1, _), (2, _), (9, _), (12, _), (13, _), (14, _), (15, _), (16, _), (17, _)] sbn ?_
      refine Wr fun hc ed => Mv rfl <| Mv rfl <| Mv rfl <| Osu rfl <| Mv rfl <| Oad rfl <| Oml rfl <| Oad rfl <| As rfl <| Ox ed <| W.weak [(1, _), (2, _), (9, _), (12, _), (14, _), (15, _), (16, _), (17, _)] sbn ?_
      refine W_seq fun hd ee => Wr fun he ef => Mv rfl <| Ogt rfl <| Ox ef <| W_if rfl (fun b8 => ?_) (fun b8 => ?_)
      ·rw [if_pos b8] at H
       refine Wr fun hf eg => As rfl <| As rfl <| As rfl <| Ox eg <| W_ret ?_
       obtain rfl := sinj H
       exact ret3 rfl rfl rfl rfl ⟨rfl, ((hs.sub (ssk (ssk ssr))).less ap)⟩
      ·rw [if_neg b8] at H
       refine Wx ee <| Wr fun hg eh => Mv rfl <| As rfl <| Ox eh <| W_seq fun hh ei => Wr fun hi ej => Mv rfl <| O_y rfl (Y_lenR un28 (h1.mono ap) rfl) <| Mv rfl <| Ox ej <| W.weak [(1, _), (2, _), (9, _), (12, _), (13, _), (14, _), (15, _), (16, _), (81, _), (82, _), (83, _)] sbn ?_
       refine W_block fun hj ek hk => W_loop (σ := Nat × List Int × Int × Int × Int × Int × Value × List Value × Hp) (fun (a5, ab, af, ah, ae, ad, ai, al, bb) => [(1, v1), (2, .pointer (some ⟨bl, 0, none⟩)), (9, ai), (12, .int .i64 (aa.length : Int)), (13, .int .i64 a4), (14, .int .i64 af), (15, .int .i64 ah), (16, .int .i64 ae), (81, v1), (82, .int .i64 (x1.length : Int)), (83, .int .i64 ad)]) (fun (a5, ab, af, ah, ae, ad, ai, al, bb) w => puny_boot_encode.l1 (puny_boot_encode.l2 ba x0 x1 aa) a5 x0 x1 aa a4 ab af ah ae ad = some r ∧ Le bh bb ∧ St w0 bb ((.row ai 5 ((Rep.int .u8).sz) ab.length al) :: (.box bl 117 ([.int .i64 x0.base, .int .i64 x0.least, .int .i64 x0.most, .int .i64 x0.skew, .int .i64 x0.damp, .int .i64 x0.bias, .int .i64 x0.first, .int .u8 x0.between])) :: Γ) w ∧ RowR (Rep.int .u8) bb al ab) (fun s => s.1) (K0, ag, (IntKind.i64.wrap (ar + (IntKind.i64.wrap ((IntKind.i64.wrap (a4 - aq)) * (IntKind.i64.wrap (aj + 1)))))), ax, aj, 0, ao, au, bh) sbn (Ai H (Ai (Le.rfl' _) (Ai hs bk))) ?_
       rintro ⟨a5, ab, af, ah, ae, ad, ai, al, bb⟩ w hl ⟨H, a3, hs, a1⟩ b0
       show W _ _ _ _ _ _ [(1, v1), (2, .pointer (some ⟨bl, 0, none⟩)), (9, ai), (12, .int .i64 (aa.length : Int)), (13, .int .i64 a4), (14, .int .i64 af), (15, .int .i64 ah), (16, .int .i64 ae), (81, v1), (82, .int .i64 (x1.length : Int)), (83, .int .i64 ad)] w
       cases a5 with
       | zero => rw [puny_boot_encode.l1] at H; cases H
       | succ a5 =>
       rw [puny_boot_encode.l1] at H
       refine Wr fun hm el => Ols rfl <| Ox el <| W_seq fun hn em => W_if rfl (fun b9 => ?_) (fun b9 => ?_)
       ·rw [if_pos b9] at H
        refine Wx em <| W_seq fun ho en => W_block fun hp hq hr => W_seq fun ht eo => W_region ?_
        obtain ⟨cv, H⟩ := gd H
        obtain ⟨hu, hv, ep, eq⟩ := (h1.mono (ap.trans a3)).ix el28 cv.1 cv.2
        refine O_y rfl (eq rfl rfl) <| O_y rfl (Y_load ag21 rfl (hs.see ep.int)) <| As rfl <| Ox eo <| W.weak [(1, _), (2, _), (9, _), (12, _), (13, _), (14, _), (15, _), (16, _), (19, _), (81, _), (82, _), (83, _)] sbn ?_
        refine W_seqj fun er es ca => ?_
        have cb : ∀ (an : List Int) (a2 a6 a7 : Int) (a8 : Value) (a9 : List Value) (bm : Hp) (w : World), puny_boot_encode.j3 (puny_boot_encode.l1 (puny_boot_encode.l2 ba x0 x1 aa) a5 x0 x1 aa a4) ad an a2 a6 a7 = some r → Le bb bm → St w0 bm ((.row a8 5 ((Rep.int .u8).sz) an.length a9) :: (.box bl 117 ([.int .i64 x0.base, .int .i64 x0.least, .int .i64 x0.most, .int .i64 x0.skew, .int .i64 x0.damp, .int .i64 x0.bias, .int .i64 x0.first, .int .u8 x0.between])) :: Γ) w → RowR (Rep.int .u8) bm a9 an → er [(1, v1), (2, .pointer (some ⟨bl, 0, none⟩)), (9, a8), (12, .int .i64 (aa.length : Int)), (13, .int .i64 a4), (14, .int .i64 a2), (15, .int .i64 a6), (16, .int .i64 a7), (81, v1), (82, .int .i64 (x1.length : Int)), (83, .int .i64 ad)] w := by
         intro an a2 a6 a7 a8 a9 bm w H bu hs br
         rw [puny_boot_encode.j3] at H
         refine es _ _ <| Wr fun hw et => Mv rfl <| Ogt rfl <| Ox et <| W_if rfl (fun cc => ?_) (fun cc => ?_)
         ·rw [if_pos cc] at H
          refine Wr fun hx eu => As rfl <| As rfl <| As rfl <| Ox eu <| W.weak [(4, _), (5, _), (6, _)] (T3 rfl) <| W_ret ?_
          obtain rfl := sinj H
          exact ret3 rfl rfl rfl rfl ⟨rfl, ((hs.sub (ssk (ssk ssr))).less ((ap.trans a3).trans bu))⟩
         ·rw [if_neg cc] at H
          refine Wx en <| W_region <| Oad rfl <| Mv rfl <| O_nil (b0 (a5, an, a2, a6, a7, (IntKind.i64.wrap (ad + 1)), a8, a9, bm) _ _ sbn (Ai H (Ai (a3.trans bu) (Ai hs br))) (Nat.lt_succ_self _))
        refine W_block fun hy hz ia => Wr fun ib ev => Mv rfl <| O_y rfl (Y_conv un21 un3 rfl) <| Mv rfl <| Ols rfl <| As rfl <| Ox ev <| W.weak [(1, _), (2, _), (9, _), (12, _), (13, _), (14, _), (15, _), (16, _), (19, _), (81, _), (82, _), (83, _), (87, _)] sbn ?_
        refine W_if rfl (fun cd => ?_) (fun cd => ?_)
        ·rw [if_pos cd] at H
         refine W_region <| Mv rfl <| Oad rfl <| As rfl <| O_nil (ca _ _ _ sbn (cb ab (IntKind.i64.wrap (af + 1)) ah ae ai al bb _ H (Le.rfl' _) hs a1))
        ·rw [if_neg cd] at H
         refine Wr fun ic ew => Mv rfl <| O_y rfl (Y_conv un21 un3 rfl) <| Mv rfl <| Oeq rfl <| As rfl <| Ox ew <| W.weak [(1, _), (2, _), (9, _), (12, _), (13, _), (14, _), (15, _), (16, _), (81, _), (82, _), (83, _), (94, _)] sbn ?_
         refine W_if rfl (fun ce => ?_) (fun ce => ?_)
         ·rw [if_pos ce] at H
          refine Wr fun id ex => Mv rfl <| O_y rfl (Y_loadbN (i := 1) ag117 sz117 hs rfl rfl rfl rfl) <| Mv rfl <| Mv rfl ?_
          obtain ⟨bx, cw, H⟩ := bnd H
          refine Oc rfl (puny_boot_written.c hs (rS11.mono (ap.trans a3) h0) cw) (fun ie w hpost => ?_)
          obtain ⟨ey, ig, fi, rfl, bv, hs, cx⟩ := hpost
          obtain ⟨ez, H⟩ := gd H
          refine O_appendR (i := 1) el72 hs rfl (a1.mono bv) rfl rfl rfl (Src.lit (j := 0) hs rfl cx) cx ez (fun e0 cy w e1 hs => As rfl <| Ox ex <| W.weak [(1, _), (2, _), (9, _), (12, _), (13, _), (14, _), (16, _), (81, _), (82, _), (83, _)] sbn ?_)
          refine Wr fun ih e2 => O_y rfl (Y_loadbN (i := 2) ag117 sz117 hs rfl rfl rfl rfl) <| Mv rfl <| Mv rfl <| Oad rfl <| Mv rfl <| Mv rfl <| Oeq rfl ?_
          obtain ⟨b3, cz, H⟩ := bnd H
          refine Oc rfl (puny_boot_adapted.c hs (rS11.mono ((ap.trans a3).trans bv) h0) cz) (fun ii w hpost => ?_)
          obtain ⟨rfl, hs⟩ := hpost
          refine As rfl <| Ox e2 <| W.weak [(1, _), (2, _), (9, _), (12, _), (13, _), (15, _), (16, _), (81, _), (82, _), (83, _)] sbn ?_
          refine Wr fun ij e3 => As rfl <| Ox e3 <| W_region <| Mv rfl <| Oad rfl <| As rfl <| O_nil (ca _ _ _ sbn (cb (ab ++ bx) 0 b3 (IntKind.i64.wrap (ae + 1)) e0 cy ey _ H bv (hs.sub (ssk (ssc (ssc ssr)))) e1))
         ·rw [if_neg ce] at H
          exact W_skip (ca _ _ _ sbn (cb ab af ah ae ai al bb _ H (Le.rfl' _) hs a1))
       ·rw [if_neg b9] at H
        refine W_exit (ek _ _ (ei _ _ <| W_seq fun ik e4 => Wr fun il e5 => Mv rfl <| Mv rfl <| O_y rfl (Y_lenR un28 (h1.mono (ap.trans a3)) rfl) <| Oeq rfl <| Ox e5 <| W.weak [(1, _), (2, _), (9, _), (12, _), (13, _), (14, _), (15, _), (16, _), (121, _)] sbn ?_))
        refine W_if rfl (fun cf => ?_) (fun cf => ?_)
        ·rw [if_pos cf] at H
         exact W_exit (eb _ _ _ rfl (ct _ _ (cp _ _ _ (T2 rfl) (cq ab ai al bb _ H (ap.trans a3) hs a1))))
        ·rw [if_neg cf] at H
         refine Wx e4 <| Wr fun im e6 => Mv rfl <| Oad rfl <| As rfl <| Ox e6 <| Wr fun io e7 => Mv rfl <| Oad rfl <| As rfl <| Ox e7 <| W_seq fun ip e8 => ?_
         refine W_region <| Mv rfl <| Ogt rfl <| Ox e8 <| W.weak [(1, _), (2, _), (9, _), (12, _), (13, _), (14, _), (15, _), (16, _), (127, _)] sbn ?_
         refine W_if rfl (fun cg => ?_) (fun cg => ?_)
         ·rw [if_pos cg] at H
          refine Wr fun iq e9 => As rfl <| As rfl <| As rfl <| Ox e9 <| W_ret ?_
          obtain rfl := sinj H
          exact ret3 rfl rfl rfl rfl ⟨rfl, ((hs.sub (ssk (ssk ssr))).less (ap.trans a3))⟩
         ·rw [if_neg cg] at H
          exact W_skip (bz (ba, ab, (IntKind.i64.wrap (a4 + 1)), (IntKind.i64.wrap (af + 1)), ah, ae, ai, al, bb) _ _ sbn (Ai H (Ai (ap.trans a3) (Ai hs a1))) (Nat.lt_succ_self _))
     ·rw [if_neg b7] at H
      exact W_exit (ct _ _ (cp _ _ _ (T2 rfl) (cq ag ao au bh _ H ap hs bk)))
    refine Wr fun ir fa => Mv rfl <| Ogt rfl <| Ox fa <| W_if rfl (fun ch => ?_) (fun ch => ?_)
    ·rw [if_pos ch] at H
     refine W_region <| Mv rfl <| Ofd fo117_7 rfl <| Obx 1 ag5 hs rfl <| O_lit2 (xs := [.tmp 55]) (cs := [.int .u8 x0.between]) el72 hs rfl rfl rfl (by decide) (by decide) rfl (sz_cons rfl sz_nil) (flat_cons rfl flat_nil) (fun it w hs => ?_)
     have da : RowR (Rep.int .u8) ρ ([.int .u8 x0.between]) [x0.between] := RowR.cons (c := [.int .u8 x0.between]) (x := x0.between) rfl (RowR.nil _ _)
     obtain ⟨fb, H⟩ := gd H
     refine O_appendR (i := 1) el72 hs rfl bc rfl rfl rfl (Src.lit (j := 0) hs rfl da) da fb (fun fc db w fd hs => As rfl <| O_nil (cn _ _ _ (T4 rfl) (co (aa ++ ([x0.between])) fc db _ H (hs.sub (ssk (ssc (ssc ssr)))) fd)))
    ·rw [if_neg ch] at H
     exact W_skip (cn _ _ _ (T4 rfl) (co aa aw ay _ H hs bc))

def puny_Encode.f (x0 : List Int) : Option (ByteArray × Int × Int) := (puny_Usual.f).bind fun ae => ((puny_boot_encode.f ae x0).bind fun ab => (some (ab.1, ab.2.1, ab.2.2)))
theorem puny_Encode.c (hs : St w0 ρ (Γ) w) {v0 : Value} {x0 : List Int} (h0 : SlR (Rep.int .i32) ρ v0 x0) {r : ByteArray × Int × Int} (H : puny_Encode.f x0 = some r) : CallsR Tryz.prog 29 [v0] w (fun v w' => v = .tuple #[.string r.1, .int .i64 r.2.1, .int .i64 r.2.2] ∧ St w0 ρ Γ w') := by
  rw [puny_Encode.f] at H
  refine Et Tryz.func29 Tryz.ntmps29 rfl <| Wr fun ak ag => As rfl <| As rfl <| As rfl <| Ox ag <| W_seq fun al ah => W_region ?_
  obtain ⟨ae, ac, H⟩ := bnd H
  refine Oc rfl (puny_Usual.c hs ac) (fun am w hpost => ?_)
  obtain ⟨an, ai, rfl, aa, hs, af⟩ := hpost
  have aj := af
  obtain rfl := aj
  refine Mv rfl ?_
  obtain ⟨ab, ad, H⟩ := bnd H
  refine Oc rfl (puny_boot_encode.c hs af (h0.mono aa) ad) (fun ao w hpost => ?_)
  obtain ⟨rfl, hs⟩ := hpost
  refine Oxt rfl <| Oxt rfl <| Oxt rfl <| As rfl <| As rfl <| As rfl <| Ox ah <| W_ret ?_
  obtain rfl := sinj H
  exact ret3 rfl rfl rfl rfl ⟨rfl, (hs.less aa)⟩

def label_ASCII.f (x0 : List Int) : Option (ByteArray × Int × Int) := (label_plain.f x0).bind fun af => (if af = true then (some (runesBytes x0, 0, 0)) else ((puny_Encode.f x0).bind fun aa => (if aa.2.2 ≠ 0 then (some ((⟨#[]⟩ : ByteArray), aa.2.1, aa.2.2)) else (if (⟨#[120, 110, 45, 45]⟩ : ByteArray).size + aa.1.size ≤ 9223372036854775807 then (some ((⟨#[120, 110, 45, 45]⟩ : ByteArray) ++ aa.1, 0, 0)) else none))))
theorem label_ASCII.c (hs : St w0 ρ (Γ) w) {v0 : Value} {x0 : List Int} (h0 : SlR (Rep.int .i32) ρ v0 x0) {r : ByteArray × Int × Int} (H : label_ASCII.f x0 = some r) : CallsR Tryz.prog 9 [v0] w (fun v w' => v = .tuple #[.string r.1, .int .i64 r.2.1, .int .i64 r.2.2] ∧ St w0 ρ Γ w') := by
  rw [label_ASCII.f] at H
  refine Et Tryz.func9 Tryz.ntmps9 rfl <| Wr fun aq ag => As rfl <| As rfl <| As rfl <| Ox ag <| W_seq fun ar ah => Wr fun au ai => Mv rfl ?_
  obtain ⟨af, ab, H⟩ := bnd H
  refine Oc rfl (label_plain.c hs h0 ab) (fun av w hpost => ?_)
  obtain ⟨rfl, hs⟩ := hpost
  refine Ox ai <| W_cond rfl (fun ac => ?_) (fun ac => ?_)
  ·rw [if_pos ac] at H
   refine Wr fun aw aj => Mv rfl <| O_y rfl (Y_srunes un28 un21 un9 hs h0 rfl) <| As rfl <| As rfl <| As rfl <| Ox aj <| W_ret ?_
   obtain rfl := sinj H
   exact ret3 rfl rfl rfl rfl ⟨rfl, hs⟩
  ·rw [if_neg (bft ac)] at H
   refine Wx ah <| Wr fun ax ak => Mv rfl ?_
   obtain ⟨aa, ad, H⟩ := bnd H
   refine Oc rfl (puny_Encode.c hs h0 ad) (fun ay w hpost => ?_)
   obtain ⟨rfl, hs⟩ := hpost
   refine Mv rfl <| Oxt rfl <| Oxt rfl <| Oxt rfl <| As rfl <| As rfl <| As rfl <| Ox ak <| W.weak [(5, _), (6, _), (7, _)] (T3 rfl) <| W_seq fun az al => Wr fun a0 am => Mv rfl <| One rfl ?_
   refine Ox am <| W_if rfl (fun ae => ?_) (fun ae => ?_)
   ·rw [if_pos ae] at H
    refine Wr fun a1 an => Mv rfl <| Mv rfl <| As rfl <| As rfl <| As rfl <| Ox an <| W_ret ?_
    obtain rfl := sinj H
    exact ret3 rfl rfl rfl rfl ⟨rfl, hs⟩
   ·rw [if_neg ae] at H
    refine Wx al <| Wr fun a2 ao => Mv rfl ?_
    obtain ⟨ap, H⟩ := gd H
    refine O_y rfl (Y_cat rfl rfl ap) <| As rfl <| As rfl <| As rfl <| Ox ao <| W_ret ?_
    obtain rfl := sinj H
    exact ret3 rfl rfl rfl rfl ⟨rfl, hs⟩

def label_Valid.f (x0 : Option Tbs) (x1 : List Int) : Option Bool := (label_Faults.f x0 x1).bind fun ac => (some (decide ((ac.length : Int) = 0)))
theorem label_Valid.c (hs : St w0 ρ (Γ) w) {v0 : Value} {x0 : Option Tbs} (h0 : PtrR rTbs ρ v0 x0) {v1 : Value} {x1 : List Int} (h1 : SlR (Rep.int .i32) ρ v1 x1) {r : Bool} (H : label_Valid.f x0 x1 = some r) : CallsR Tryz.prog 10 [v0, v1] w (fun v w' => v = .bool r ∧ St w0 ρ Γ w') := by
  rw [label_Valid.f] at H
  refine Et Tryz.func10 Tryz.ntmps10 rfl <| Wr fun ag ad => As rfl <| Ox ad <| Wr fun ah ae => Mv rfl <| Mv rfl ?_
  obtain ⟨ac, aa, H⟩ := bnd H
  refine Oc rfl (label_Faults.c hs h0 h1 aa) (fun ai w hpost => ?_)
  obtain ⟨aj, ak, af, rfl, ab, hs, al⟩ := hpost
  refine O_y rfl (Y_lenRow (i := 0) un56 hs rfl rfl) <| Oeq rfl <| As rfl <| Ox ae <| W_ret ?_
  obtain rfl := sinj H
  exact r1 rfl ⟨rfl, ((hs.sub (ssk ssr)).less ab)⟩

def law18_awake.j1 (aa : Bool) : Option Bool := some aa
def law18_awake.f : Option Bool := (book_Compile.f (⟨([] : List ByteArray), [(⟨97, 122, 1⟩ : Val), (⟨252, 252, 1⟩ : Val)], ([] : List Chs), ([] : List Val), ([] : List Chs), ([] : List Spn), ([] : List Val), ([] : List Val), ([] : List Spn), ([] : List Val), ([] : List Chs)⟩ : Bk)).bind fun az => ((label_Read.f az.1 ([120, 110, 45, 45, 98, 99, 104, 101, 114, 45, 107, 118, 97])).bind fun av => ((label_ASCII.f ([98, 252])).bind fun ah => (if az.2 = 0 then (if av.coded = true then (if av.fault = 0 then (if (av.says.length : Int) = 6 then (if ah.1 = (⟨#[120, 110, 45, 45, 98, 45, 101, 104, 97]⟩ : ByteArray) then (if ah.2.1 = 0 then (if ah.2.2 = 0 then ((label_Valid.f az.1 ([97])).bind fun aj => (law18_awake.j1 aj)) else (law18_awake.j1 false)) else (law18_awake.j1 false)) else (law18_awake.j1 false)) else (law18_awake.j1 false)) else (law18_awake.j1 false)) else (law18_awake.j1 false)) else (law18_awake.j1 false))))
theorem law18_awake.c (hs : St w0 ρ (Γ) w) {r : Bool} (H : law18_awake.f = some r) : CallsR Tryz.prog 8 [] w (fun v w' => v = .bool r ∧ St w0 ρ Γ w') := by
  rw [law18_awake.f] at H
  refine Et Tryz.func8 Tryz.ntmps8 rfl <| Wr fun b7 be => As rfl <| Ox be <| Wr fun b8 bf => O_y rfl (Y_build (cs := [.int .i32 97, .int .i32 122, .int .i64 1]) zr67 pl67 ((Parts.cons rfl rfl (Parts.cons rfl rfl (Parts.cons rfl rfl Parts.nil)))) ag67 (by kernel_rfl)) <| O_y rfl (Y_build (cs := [.int .i32 252, .int .i32 252, .int .i64 1]) zr67 pl67 ((Parts.cons rfl rfl (Parts.cons rfl rfl (Parts.cons rfl rfl Parts.nil)))) ag67 (by kernel_rfl)) <| O_lit2 (xs := [.tmp 8, .tmp 9]) (cs := [.int .i32 97, .int .i32 122, .int .i64 1, .int .i32 252, .int .i32 252, .int .i64 1]) el23 hs rfl rfl rfl (by decide) (by decide) rfl (sz_cons rfl (sz_cons rfl sz_nil)) (flat_cons rfl (flat_cons rfl flat_nil)) (fun bg w hs => ?_)
  have bh : RowR rVal ρ ([.int .i32 97, .int .i32 122, .int .i64 1, .int .i32 252, .int .i32 252, .int .i64 1]) [(⟨97, 122, 1⟩ : Val), (⟨252, 252, 1⟩ : Val)] := RowR.cons (c := [.int .i32 97, .int .i32 122, .int .i64 1]) (x := (⟨97, 122, 1⟩ : Val)) rfl (RowR.cons (c := [.int .i32 252, .int .i32 252, .int .i64 1]) (x := (⟨252, 252, 1⟩ : Val)) rfl (RowR.nil _ _))
  obtain ⟨ag, a0, hs, bb⟩ := hs.rowEnd (j := 0) bh rfl
  refine O_y rfl (Y_build (cs := [.slice none 0 0, .slice (some ⟨bg, 0, none⟩) 2 2, .slice none 0 0, .slice none 0 0, .slice none 0 0, .slice none 0 0, .slice none 0 0, .slice none 0 0, .slice none 0 0, .slice none 0 0, .slice none 0 0]) zr27 pl27 ((Parts.cons rfl bb.cellsL Parts.nil)) ag27 (by kernel_rfl)) ?_
  have bi : SlR Rep.str ag (.slice none 0 0) [] := .inl ⟨rfl, none, 0, rfl⟩
  have bj : SlR rChs ag (.slice none 0 0) [] := .inl ⟨rfl, none, 0, rfl⟩
  have bk : SlR rVal ag (.slice none 0 0) [] := .inl ⟨rfl, none, 0, rfl⟩
  have bl : SlR rChs ag (.slice none 0 0) [] := .inl ⟨rfl, none, 0, rfl⟩
  have bm : SlR rSpn ag (.slice none 0 0) [] := .inl ⟨rfl, none, 0, rfl⟩
  have bn : SlR rVal ag (.slice none 0 0) [] := .inl ⟨rfl, none, 0, rfl⟩
  have bo : SlR rVal ag (.slice none 0 0) [] := .inl ⟨rfl, none, 0, rfl⟩
  have bp : SlR rSpn ag (.slice none 0 0) [] := .inl ⟨rfl, none, 0, rfl⟩
  have bq : SlR rVal ag (.slice none 0 0) [] := .inl ⟨rfl, none, 0, rfl⟩
  have br : SlR rChs ag (.slice none 0 0) [] := .inl ⟨rfl, none, 0, rfl⟩
  obtain ⟨az, a1, H⟩ := bnd H
  refine Oc rfl (book_Compile.c hs ⟨_, _, _, _, _, _, _, _, _, _, _, rfl, bi, bb, bj, bk, bl, bm, bn, bo, bp, bq, br⟩ a1) (fun b9 w hpost => ?_)
  obtain ⟨bs, ca, rfl, a2, hs, bc⟩ := hpost
  refine Mv rfl <| Oxt rfl <| Oxt rfl <| As rfl <| As rfl <| Ox bf <| Wr fun cb bt => Mv rfl <| O_lit2 (xs := [.const (.int .i32 120), .const (.int .i32 110), .const (.int .i32 45), .const (.int .i32 45), .const (.int .i32 98), .const (.int .i32 99), .const (.int .i32 104), .const (.int .i32 101), .const (.int .i32 114), .const (.int .i32 45), .const (.int .i32 107), .const (.int .i32 118), .const (.int .i32 97)]) (cs := [.int .i32 120, .int .i32 110, .int .i32 45, .int .i32 45, .int .i32 98, .int .i32 99, .int .i32 104, .int .i32 101, .int .i32 114, .int .i32 45, .int .i32 107, .int .i32 118, .int .i32 97]) el28 hs rfl rfl rfl (by decide) (by decide) rfl (sz_cons rfl (sz_cons rfl (sz_cons rfl (sz_cons rfl (sz_cons rfl (sz_cons rfl (sz_cons rfl (sz_cons rfl (sz_cons rfl (sz_cons rfl (sz_cons rfl (sz_cons rfl (sz_cons rfl sz_nil))))))))))))) (flat_cons rfl (flat_cons rfl (flat_cons rfl (flat_cons rfl (flat_cons rfl (flat_cons rfl (flat_cons rfl (flat_cons rfl (flat_cons rfl (flat_cons rfl (flat_cons rfl (flat_cons rfl (flat_cons rfl flat_nil))))))))))))) (fun cc w hs => ?_)
  have bu : RowR (Rep.int .i32) bs ([.int .i32 120, .int .i32 110, .int .i32 45, .int .i32 45, .int .i32 98, .int .i32 99, .int .i32 104, .int .i32 101, .int .i32 114, .int .i32 45, .int .i32 107, .int .i32 118, .int .i32 97]) [120, 110, 45, 45, 98, 99, 104, 101, 114, 45, 107, 118, 97] := RowR.cons (c := [.int .i32 120]) (x := 120) rfl (RowR.cons (c := [.int .i32 110]) (x := 110) rfl (RowR.cons (c := [.int .i32 45]) (x := 45) rfl (RowR.cons (c := [.int .i32 45]) (x := 45) rfl (RowR.cons (c := [.int .i32 98]) (x := 98) rfl (RowR.cons (c := [.int .i32 99]) (x := 99) rfl (RowR.cons (c := [.int .i32 104]) (x := 104) rfl (RowR.cons (c := [.int .i32 101]) (x := 101) rfl (RowR.cons (c := [.int .i32 114]) (x := 114) rfl (RowR.cons (c := [.int .i32 45]) (x := 45) rfl (RowR.cons (c := [.int .i32 107]) (x := 107) rfl (RowR.cons (c := [.int .i32 118]) (x := 118) rfl (RowR.cons (c := [.int .i32 97]) (x := 97) rfl (RowR.nil _ _)))))))))))))
  obtain ⟨cd, ak, hs, bv⟩ := hs.rowEnd (j := 0) bu rfl
  obtain ⟨av, a3, H⟩ := bnd H
  refine Oc rfl (label_Read.c hs (bc.mono ak) bv a3) (fun ce w hpost => ?_)
  obtain ⟨bw, bx, rfl, aw, hs, bz⟩ := hpost
  have b0 := bz
  obtain ⟨b1, rfl, bd⟩ := b0
  refine O_alloc zr43 hs rfl (fun b2 w hs => O_storeN (i := 0) sz43 hs rfl rfl rfl rfl rfl (one_cons bd.one (one_cons rfl (one_cons rfl one_nil))) (fun w hs => Ox bt <| W.weak [(1, _), (2, _), (3, _)] (T3 rfl) <| Wr fun cf b3 => O_lit2 (xs := [.const (.int .i32 98), .const (.int .i32 252)]) (cs := [.int .i32 98, .int .i32 252]) el28 hs rfl rfl rfl (by decide) (by decide) rfl (sz_cons rfl (sz_cons rfl sz_nil)) (flat_cons rfl (flat_cons rfl flat_nil)) (fun cg w hs => ?_)))
  have a4 : RowR (Rep.int .i32) bw ([.int .i32 98, .int .i32 252]) [98, 252] := RowR.cons (c := [.int .i32 98]) (x := 98) rfl (RowR.cons (c := [.int .i32 252]) (x := 252) rfl (RowR.nil _ _))
  obtain ⟨ab, ae, hs, a5⟩ := hs.rowEnd (j := 0) a4 rfl
  obtain ⟨ah, ax, H⟩ := bnd H
  refine Oc rfl (label_ASCII.c hs a5 ax) (fun b4 w hpost => ?_)
  obtain ⟨rfl, hs⟩ := hpost
  refine Mv rfl <| Oxt rfl <| Oxt rfl <| Oxt rfl <| As rfl <| As rfl <| As rfl <| Ox b3 <| W_seqj fun a6 a7 ac => ?_
  have ad : ∀ (aa : Bool) (af : Hp) (w : World), law18_awake.j1 aa = some r → Le ab af → St w0 af ((.box b2 43 ([b1, .bool av.coded, .int .i64 av.fault])) :: Γ) w → a6 [(0, .bool aa)] w := by
   intro aa af w H al hs
   rw [law18_awake.j1] at H
   refine a7 _ _ <| W_ret ?_
   obtain rfl := sinj H
   exact r1 rfl ⟨rfl, ((hs.sub (ssk ssr)).less (((((a0.trans a2).trans ak).trans aw).trans ae).trans al))⟩
  refine W_region <| Mv rfl <| Oeq rfl <| Mv rfl <| O_if (dj := 26) rfl (fun am => ?_) (fun am => ?_)
  ·rw [if_pos am] at H
   refine Oe rfl <| Ofd fo43_1 rfl <| Oe rfl <| Obx 0 ag4 hs rfl <| Opk rfl <| Mv rfl <| O_cases (dj := 30) rfl (fun an => ?_) (fun an => ?_)
   ·rw [if_pos an] at H
    refine Oe rfl <| Ofd fo43_2 rfl <| Oe rfl <| Obx 0 ag3 hs rfl <| Oe rfl <| Oeq rfl <| Opk rfl <| Mv rfl <| O_if (dj := 35) rfl (fun ao => ?_) (fun ao => ?_)
    ·rw [if_pos ao] at H
     refine Oe rfl <| Ofd fo43_0 rfl <| Oe rfl <| Obx 0 ag28 hs rfl <| Oe rfl <| O_y rfl (Y_lenR un28 (bd.mono ae) rfl) <| Oe rfl <| Oeq rfl <| Opk rfl <| Mv rfl <| O_if (dj := 41) rfl (fun ap => ?_) (fun ap => ?_)
     ·rw [if_pos ap] at H
      refine Oe rfl <| Mv rfl <| Oe rfl <| O_y rfl (Y_eqls rfl rfl) <| Opk rfl <| Mv rfl <| O_if (dj := 45) rfl (fun aq => ?_) (fun aq => ?_)
      ·rw [if_pos aq] at H
       refine Oe rfl <| Mv rfl <| Oe rfl <| Oeq rfl <| Opk rfl <| Mv rfl <| O_if (dj := 49) rfl (fun ar => ?_) (fun ar => ?_)
       ·rw [if_pos ar] at H
        refine Oe rfl <| Mv rfl <| Oe rfl <| Oeq rfl <| Opk rfl <| Mv rfl <| O_if (dj := 53) rfl (fun au => ?_) (fun au => ?_)
        ·rw [if_pos au] at H
         refine Oe rfl <| Mv rfl <| Oe rfl <| O_lit2 (xs := [.const (.int .i32 97)]) (cs := [.int .i32 97]) el28 hs rfl rfl rfl (by decide) (by decide) rfl (sz_cons rfl sz_nil) (flat_cons rfl flat_nil) (fun b5 w hs => ?_)
         have a8 : RowR (Rep.int .i32) ab ([.int .i32 97]) [97] := RowR.cons (c := [.int .i32 97]) (x := 97) rfl (RowR.nil _ _)
         obtain ⟨a9, ai, hs, ba⟩ := hs.rowEnd (j := 0) a8 rfl
         refine Oe rfl ?_
         obtain ⟨aj, ay, H⟩ := bnd H
         refine Oc rfl (label_Valid.c hs (bc.mono (((ak.trans aw).trans ae).trans ai)) ba ay) (fun b6 w hpost => ?_)
         obtain ⟨rfl, hs⟩ := hpost
         refine Opk rfl <| As rfl <| O_nil (ac _ _ _ (S1 rfl) (ad aj a9 _ H ai hs))
        ·rw [if_neg au] at H
         refine On rfl <| On rfl <| On rfl <| Opk rfl <| As rfl <| O_nil (ac _ _ _ (S1 rfl) (ad false ab _ H (Le.rfl' _) hs))
       ·rw [if_neg ar] at H
        refine On rfl <| On rfl <| Opk rfl <| Mv rfl <| On rfl <| On rfl <| On rfl <| Opk rfl <| As rfl <| O_nil (ac _ _ _ (S1 rfl) (ad false ab _ H (Le.rfl' _) hs))
      ·rw [if_neg aq] at H
       refine On rfl <| On rfl <| Opk rfl <| Mv rfl <| On rfl <| On rfl <| Opk rfl <| Mv rfl <| On rfl <| On rfl <| On rfl <| Opk rfl <| As rfl <| O_nil (ac _ _ _ (S1 rfl) (ad false ab _ H (Le.rfl' _) hs))
     ·rw [if_neg ap] at H
      refine On rfl <| On rfl <| Opk rfl <| Mv rfl <| On rfl <| On rfl <| Opk rfl <| Mv rfl <| On rfl <| On rfl <| Opk rfl <| Mv rfl <| On rfl <| On rfl ?_
      refine On rfl <| Opk rfl <| As rfl <| O_nil (ac _ _ _ (S1 rfl) (ad false ab _ H (Le.rfl' _) hs))
    ·rw [if_neg ao] at H
     refine On rfl <| On rfl <| On rfl <| On rfl <| Opk rfl <| Mv rfl <| On rfl <| On rfl <| Opk rfl <| Mv rfl <| On rfl <| On rfl <| Opk rfl <| Mv rfl ?_
     refine On rfl <| On rfl <| Opk rfl <| Mv rfl <| On rfl <| On rfl <| On rfl <| Opk rfl <| As rfl <| O_nil (ac _ _ _ (S1 rfl) (ad false ab _ H (Le.rfl' _) hs))
   ·rw [if_neg (bft an)] at H
    refine On rfl <| On rfl <| On rfl <| Opk rfl <| Mv rfl <| On rfl <| On rfl <| On rfl <| On rfl <| Opk rfl <| Mv rfl <| On rfl <| On rfl <| Opk rfl ?_
    refine Mv rfl <| On rfl <| On rfl <| Opk rfl <| Mv rfl <| On rfl <| On rfl <| Opk rfl <| Mv rfl <| On rfl <| On rfl <| On rfl <| Opk rfl <| As rfl ?_
    exact O_nil (ac _ _ _ (S1 rfl) (ad false ab _ H (Le.rfl' _) hs))
  ·rw [if_neg am] at H
   refine On rfl <| On rfl <| Opk rfl <| Mv rfl <| On rfl <| On rfl <| On rfl <| Opk rfl <| Mv rfl <| On rfl <| On rfl <| On rfl <| On rfl <| Opk rfl ?_
   refine Mv rfl <| On rfl <| On rfl <| Opk rfl <| Mv rfl <| On rfl <| On rfl <| Opk rfl <| Mv rfl <| On rfl <| On rfl <| Opk rfl <| Mv rfl <| On rfl ?_
   refine On rfl <| On rfl <| Opk rfl <| As rfl <| O_nil (ac _ _ _ (S1 rfl) (ad false ab _ H (Le.rfl' _) hs))

end Go.Proofs.YthoicbafdanmkaaGreatDoor
/- Written by this repo's gen.py: for each Go function a Lean function with the same answers and the walk that shows it. -/
namespace Go.Proofs.YthoicbafdanmkaaGreatDoor
open Go.RowKit
set_option maxRecDepth 100000
set_option maxHeartbeats 4000000
variable {w0 w : World} {ρ : Hp} {Γ : List Item}
set_option linter.unusedVariables false
def ref18_Hyphens.j1 (aa ab : Bool) : Option (Bool × Bool) := some (aa, ab)
def ref18_Hyphens.f (x0 : List Int) : Option (Bool × Bool) := if 4 ≤ (x0.length : Int) then (if (0 : Int) ≤ 2 ∧ 2 < (x0.length : Int) then (if (rd x0 2) = 45 then (if (0 : Int) ≤ 3 ∧ 3 < (x0.length : Int) then (if 0 < (x0.length : Int) then (if (0 : Int) ≤ 0 ∧ 0 < (x0.length : Int) then (if (rd x0 0) = 45 then (ref18_Hyphens.j1 (decide ((rd x0 3) = 45)) true) else (if (0 : Int) ≤ IntKind.i64.wrap ((x0.length : Int) - 1) ∧ IntKind.i64.wrap ((x0.length : Int) - 1) < (x0.length : Int) then (ref18_Hyphens.j1 (decide ((rd x0 3) = 45)) (decide ((rd x0 (IntKind.i64.wrap ((x0.length : Int) - 1))) = 45))) else none)) else none) else (ref18_Hyphens.j1 (decide ((rd x0 3) = 45)) false)) else none) else (if 0 < (x0.length : Int) then (if (0 : Int) ≤ 0 ∧ 0 < (x0.length : Int) then (if (rd x0 0) = 45 then (ref18_Hyphens.j1 false true) else (if (0 : Int) ≤ IntKind.i64.wrap ((x0.length : Int) - 1) ∧ IntKind.i64.wrap ((x0.length : Int) - 1) < (x0.length : Int) then (ref18_Hyphens.j1 false (decide ((rd x0 (IntKind.i64.wrap ((x0.length : Int) - 1))) = 45))) else none)) else none) else (ref18_Hyphens.j1 false false))) else none) else (if 0 < (x0.length : Int) then (if (0 : Int) ≤ 0 ∧ 0 < (x0.length : Int) then (if (rd x0 0) = 45 then (ref18_Hyphens.j1 false true) else (if (0 : Int) ≤ IntKind.i64.wrap ((x0.length : Int) - 1) ∧ IntKind.i64.wrap ((x0.length : Int) - 1) < (x0.length : Int) then (ref18_Hyphens.j1 false (decide ((rd x0 (IntKind.i64.wrap ((x0.length : Int) - 1))) = 45))) else none)) else none) else (ref18_Hyphens.j1 false false))
theorem ref18_Hyphens.c (hs : St w0 ρ (Γ) w) {v0 : Value} {x0 : List Int} (h0 : SlR (Rep.int .i32) ρ v0 x0) {r : Bool × Bool} (H : ref18_Hyphens.f x0 = some r) : CallsR Tryz.prog 15 [v0] w (fun v w' => v = .tuple #[.bool r.1, .bool r.2] ∧ St w0 ρ Γ w') := by
  rw [ref18_Hyphens.f] at H
  refine Et Tryz.func15 Tryz.ntmps15 rfl <| Wr fun bi az => As rfl <| As rfl <| Ox az <| Wr fun bj a0 => Mv rfl <| O_y rfl (Y_lenR un28 h0 rfl) <| As rfl <| Ox a0 <| W_seqj fun a1 a2 ac => ?_
  have ad : ∀ (aa ab : Bool) (w : World), ref18_Hyphens.j1 aa ab = some r → St w0 ρ (Γ) w → a1 [(2, .bool aa), (3, .bool ab)] w := by
   intro aa ab w H hs
   rw [ref18_Hyphens.j1] at H
   refine a2 _ _ <| W_ret ?_
   obtain rfl := sinj H
   exact ret2 rfl rfl rfl ⟨rfl, hs⟩
  refine W_drawS 32 [0, 1, 2, 4, 12, 20, 36, 68, 132, 256, 768, 1280, 2304, 4352, 0, 16384, 33024, 65536, 196608, 327680, 589824, 1114112, 2097152, 2097152, 10485760, 23068672, 35651584, 69206016, 136380416, 268500992, 2113535, 2147483647] [1073741820, 1073741816, 1073741312, 1073741792, 1073741760, 1073741696, 1073741568, 1073741312, 1073659904, 1073739776, 1073737728, 1073733632, 1073725440, 1073725440, 2147434495, 2147368959, 1337998848, 2146975232, 2146450944, 2145402368, 2143305216, 536886784, 2105556480, 2118139392, 2084584960, 2013281792, 1879064064, 1610628608, 1073757696, 1073757696, 1069547520, 0] [0, 1, 3, 7, 15, 31, 63, 127, 255, 511, 1023, 2047, 4095, 8191, 0, 16384, 49663, 115199, 246271, 508415, 1032703, 2081279, 4178431, 4178431, 12567039, 33538559, 67092991, 134201855, 268419583, 536855039, 4194303, 2147483647] [] (fun w => St w0 ρ (Γ) w) mixed (by kernel_rfl) (fun sh => ?_)
  have hs := hs.drew
  refine Fm 0 sh rfl <| Fp 1 sh rfl (fun w => Y_geq rfl rfl) <| Fm 2 sh rfl <| OD_if (dj := 9) rfl (fun ag => ?_) (fun ag => ?_)
  ·rw [if_pos ag] at H
   refine Fp 3 sh rfl (fun w => Y_move rfl) ?_
   obtain ⟨aq, H⟩ := gd H
   obtain ⟨bk, bl, a3, a4⟩ := h0.ix el28 aq.1 aq.2
   refine Fp 4 sh rfl (fun w => a4 rfl rfl) <| Fy 5 sh rfl hs (fun w hs => Y_load ag21 rfl (hs.see a3.int)) <| Fp 6 sh rfl (fun w => Y_eql rfl rfl) <| Fp 7 sh rfl (fun w => Y_pick_t rfl rfl) <| Fm 8 sh rfl <| OD_if (dj := 15) rfl (fun ah => ?_) (fun ah => ?_)
   ·rw [if_pos ah] at H
    refine Fp 9 sh rfl (fun w => Y_move rfl) ?_
    obtain ⟨ar, H⟩ := gd H
    obtain ⟨bm, bn, a5, a6⟩ := h0.ix el28 ar.1 ar.2
    refine Fp 10 sh rfl (fun w => a6 rfl rfl) <| Fy 11 sh rfl hs (fun w hs => Y_load ag21 rfl (hs.see a5.int)) <| Fp 12 sh rfl (fun w => Y_eql rfl rfl) <| Fp 13 sh rfl (fun w => Y_pick_t rfl rfl) <| Fm 14 sh rfl <| Fp 15 sh rfl (fun w => Y_gtr rfl rfl) <| Fm 16 sh rfl <| OD_if (dj := 23) rfl (fun ai => ?_) (fun ai => ?_)
    ·rw [if_pos ai] at H
     refine Fp 17 sh rfl (fun w => Y_move rfl) ?_
     obtain ⟨au, H⟩ := gd H
     obtain ⟨bo, bp, a7, a8⟩ := h0.ix el28 au.1 au.2
     refine Fp 18 sh rfl (fun w => a8 rfl rfl) <| Fy 19 sh rfl hs (fun w hs => Y_load ag21 rfl (hs.see a7.int)) <| Fp 20 sh rfl (fun w => Y_eql rfl rfl) <| Fp 21 sh rfl (fun w => Y_move rfl) <| OD_if (dj := 28) rfl (fun aj => ?_) (fun aj => ?_)
     ·rw [if_pos aj] at H
      refine Fn 22 sh rfl <| Fn 23 sh rfl <| Fn 24 sh rfl <| Fn 25 sh rfl <| Fn 26 sh rfl <| Fn 27 sh rfl <| Fp 28 sh rfl (fun w => Y_pick_t rfl rfl) <| Fp 29 sh rfl (fun w => Y_pick_t rfl rfl) <| Fp 30 sh rfl (fun w => Y_assign rfl) <| Fp 31 sh rfl (fun w => Y_assign rfl) <| FE sh (ac _ _ _ (T2 rfl) (ad (decide ((rd x0 3) = 45)) true _ H hs))
     ·rw [if_neg aj] at H
      refine Fp 22 sh rfl (fun w => Y_move rfl) <| Fp 23 sh rfl (fun w => Y_move rfl) <| Fp 24 sh rfl (fun w => Y_sub rfl rfl) ?_
      obtain ⟨av, H⟩ := gd H
      obtain ⟨bq, br, a9, ba⟩ := h0.ix el28 av.1 av.2
      refine Fp 25 sh rfl (fun w => ba rfl rfl) <| Fy 26 sh rfl hs (fun w hs => Y_load ag21 rfl (hs.see a9.int)) <| Fp 27 sh rfl (fun w => Y_eql rfl rfl) <| Fp 28 sh rfl (fun w => Y_pick_f rfl rfl) <| Fp 29 sh rfl (fun w => Y_pick_t rfl rfl) <| Fp 30 sh rfl (fun w => Y_assign rfl) <| Fp 31 sh rfl (fun w => Y_assign rfl) <| FE sh (ac _ _ _ (T2 rfl) (ad (decide ((rd x0 3) = 45)) (decide ((rd x0 (IntKind.i64.wrap ((x0.length : Int) - 1))) = 45)) _ H hs))
    ·rw [if_neg ai] at H
     refine Fn 17 sh rfl <| Fn 18 sh rfl <| Fn 19 sh rfl <| Fn 20 sh rfl <| Fn 21 sh rfl <| Fu 22 sh rfl <| Fu 23 sh rfl <| Fu 24 sh rfl <| Fu 25 sh rfl <| Fu 26 sh rfl <| Fu 27 sh rfl <| Fn 28 sh rfl <| Fp 29 sh rfl (fun w => Y_pick_f rfl rfl) <| Fp 30 sh rfl (fun w => Y_assign rfl) ?_
     refine Fp 31 sh rfl (fun w => Y_assign rfl) <| FE sh (ac _ _ _ (T2 rfl) (ad (decide ((rd x0 3) = 45)) false _ H hs))
   ·rw [if_neg ah] at H
    refine Fn 9 sh rfl <| Fn 10 sh rfl <| Fn 11 sh rfl <| Fn 12 sh rfl <| Fp 13 sh rfl (fun w => Y_pick_f rfl rfl) <| Fm 14 sh rfl <| Fp 15 sh rfl (fun w => Y_gtr rfl rfl) <| Fm 16 sh rfl <| OD_if (dj := 23) rfl (fun ak => ?_) (fun ak => ?_)
    ·rw [if_pos ak] at H
     refine Fp 17 sh rfl (fun w => Y_move rfl) ?_
     obtain ⟨aw, H⟩ := gd H
     obtain ⟨bs, bt, bb, bc⟩ := h0.ix el28 aw.1 aw.2
     refine Fp 18 sh rfl (fun w => bc rfl rfl) <| Fy 19 sh rfl hs (fun w hs => Y_load ag21 rfl (hs.see bb.int)) <| Fp 20 sh rfl (fun w => Y_eql rfl rfl) <| Fp 21 sh rfl (fun w => Y_move rfl) <| OD_if (dj := 28) rfl (fun al => ?_) (fun al => ?_)
     ·rw [if_pos al] at H
      refine Fn 22 sh rfl <| Fn 23 sh rfl <| Fn 24 sh rfl <| Fn 25 sh rfl <| Fn 26 sh rfl <| Fn 27 sh rfl <| Fp 28 sh rfl (fun w => Y_pick_t rfl rfl) <| Fp 29 sh rfl (fun w => Y_pick_t rfl rfl) <| Fp 30 sh rfl (fun w => Y_assign rfl) <| Fp 31 sh rfl (fun w => Y_assign rfl) <| FE sh (ac _ _ _ (T2 rfl) (ad false true _ H hs))
     ·rw [if_neg al] at H
      refine Fp 22 sh rfl (fun w => Y_move rfl) <| Fp 23 sh rfl (fun w => Y_move rfl) <| Fp 24 sh rfl (fun w => Y_sub rfl rfl) ?_
      obtain ⟨ax, H⟩ := gd H
      obtain ⟨bu, bv, bd, be⟩ := h0.ix el28 ax.1 ax.2
      refine Fp 25 sh rfl (fun w => be rfl rfl) <| Fy 26 sh rfl hs (fun w hs => Y_load ag21 rfl (hs.see bd.int)) <| Fp 27 sh rfl (fun w => Y_eql rfl rfl) <| Fp 28 sh rfl (fun w => Y_pick_f rfl rfl) <| Fp 29 sh rfl (fun w => Y_pick_t rfl rfl) <| Fp 30 sh rfl (fun w => Y_assign rfl) <| Fp 31 sh rfl (fun w => Y_assign rfl) <| FE sh (ac _ _ _ (T2 rfl) (ad false (decide ((rd x0 (IntKind.i64.wrap ((x0.length : Int) - 1))) = 45)) _ H hs))
    ·rw [if_neg ak] at H
     refine Fn 17 sh rfl <| Fn 18 sh rfl <| Fn 19 sh rfl <| Fn 20 sh rfl <| Fn 21 sh rfl <| Fu 22 sh rfl <| Fu 23 sh rfl <| Fu 24 sh rfl <| Fu 25 sh rfl <| Fu 26 sh rfl <| Fu 27 sh rfl <| Fn 28 sh rfl <| Fp 29 sh rfl (fun w => Y_pick_f rfl rfl) <| Fp 30 sh rfl (fun w => Y_assign rfl) ?_
     refine Fp 31 sh rfl (fun w => Y_assign rfl) <| FE sh (ac _ _ _ (T2 rfl) (ad false false _ H hs))
  ·rw [if_neg ag] at H
   refine Fn 3 sh rfl <| Fn 4 sh rfl <| Fn 5 sh rfl <| Fn 6 sh rfl <| Fp 7 sh rfl (fun w => Y_pick_f rfl rfl) <| Fm 8 sh rfl <| Fn 9 sh rfl <| Fn 10 sh rfl <| Fn 11 sh rfl <| Fn 12 sh rfl <| Fp 13 sh rfl (fun w => Y_pick_f rfl rfl) <| Fm 14 sh rfl <| Fp 15 sh rfl (fun w => Y_gtr rfl rfl) <| Fm 16 sh rfl ?_
   refine OD_if (dj := 23) rfl (fun am => ?_) (fun am => ?_)
   ·rw [if_pos am] at H
    refine Fp 17 sh rfl (fun w => Y_move rfl) ?_
    obtain ⟨ay, H⟩ := gd H
    obtain ⟨bw, bx, bf, an⟩ := h0.ix el28 ay.1 ay.2
    refine Fp 18 sh rfl (fun w => an rfl rfl) <| Fy 19 sh rfl hs (fun w hs => Y_load ag21 rfl (hs.see bf.int)) <| Fp 20 sh rfl (fun w => Y_eql rfl rfl) <| Fp 21 sh rfl (fun w => Y_move rfl) <| OD_if (dj := 28) rfl (fun ae => ?_) (fun ae => ?_)
    ·rw [if_pos ae] at H
     refine Fn 22 sh rfl <| Fn 23 sh rfl <| Fn 24 sh rfl <| Fn 25 sh rfl <| Fn 26 sh rfl <| Fn 27 sh rfl <| Fp 28 sh rfl (fun w => Y_pick_t rfl rfl) <| Fp 29 sh rfl (fun w => Y_pick_t rfl rfl) <| Fp 30 sh rfl (fun w => Y_assign rfl) <| Fp 31 sh rfl (fun w => Y_assign rfl) <| FE sh (ac _ _ _ (T2 rfl) (ad false true _ H hs))
    ·rw [if_neg ae] at H
     refine Fp 22 sh rfl (fun w => Y_move rfl) <| Fp 23 sh rfl (fun w => Y_move rfl) <| Fp 24 sh rfl (fun w => Y_sub rfl rfl) ?_
     obtain ⟨af, H⟩ := gd H
     obtain ⟨bg, bh, ao, ap⟩ := h0.ix el28 af.1 af.2
     refine Fp 25 sh rfl (fun w => ap rfl rfl) <| Fy 26 sh rfl hs (fun w hs => Y_load ag21 rfl (hs.see ao.int)) <| Fp 27 sh rfl (fun w => Y_eql rfl rfl) <| Fp 28 sh rfl (fun w => Y_pick_f rfl rfl) <| Fp 29 sh rfl (fun w => Y_pick_t rfl rfl) <| Fp 30 sh rfl (fun w => Y_assign rfl) <| Fp 31 sh rfl (fun w => Y_assign rfl) <| FE sh (ac _ _ _ (T2 rfl) (ad false (decide ((rd x0 (IntKind.i64.wrap ((x0.length : Int) - 1))) = 45)) _ H hs))
   ·rw [if_neg am] at H
    refine Fn 17 sh rfl <| Fn 18 sh rfl <| Fn 19 sh rfl <| Fn 20 sh rfl <| Fn 21 sh rfl <| Fu 22 sh rfl <| Fu 23 sh rfl <| Fu 24 sh rfl <| Fu 25 sh rfl <| Fu 26 sh rfl <| Fu 27 sh rfl <| Fn 28 sh rfl <| Fp 29 sh rfl (fun w => Y_pick_f rfl rfl) <| Fp 30 sh rfl (fun w => Y_assign rfl) ?_
    refine Fp 31 sh rfl (fun w => Y_assign rfl) <| FE sh (ac _ _ _ (T2 rfl) (ad false false _ H hs))

def ref18_Coded.j1 (aa : Bool) : Option Bool := some aa
def ref18_Coded.f (x0 : List Int) : Option Bool := if 4 ≤ (x0.length : Int) then (if (0 : Int) ≤ 0 ∧ 0 < (x0.length : Int) then (if (rd x0 0) = 120 then (if (0 : Int) ≤ 1 ∧ 1 < (x0.length : Int) then (if (rd x0 1) = 110 then (if (0 : Int) ≤ 2 ∧ 2 < (x0.length : Int) then (if (rd x0 2) = 45 then (if (0 : Int) ≤ 3 ∧ 3 < (x0.length : Int) then (ref18_Coded.j1 (decide ((rd x0 3) = 45))) else none) else (ref18_Coded.j1 false)) else none) else (ref18_Coded.j1 false)) else none) else (ref18_Coded.j1 false)) else none) else (ref18_Coded.j1 false)
theorem ref18_Coded.c (hs : St w0 ρ (Γ) w) {v0 : Value} {x0 : List Int} (h0 : SlR (Rep.int .i32) ρ v0 x0) {r : Bool} (H : ref18_Coded.f x0 = some r) : CallsR Tryz.prog 17 [v0] w (fun v w' => v = .bool r ∧ St w0 ρ Γ w') := by
  rw [ref18_Coded.f] at H
  refine Et Tryz.func17 Tryz.ntmps17 rfl <| Wr fun ay al => As rfl <| Ox al <| W_seqj fun am an ab => ?_
  have ac : ∀ (aa : Bool) (w : World), ref18_Coded.j1 aa = some r → St w0 ρ (Γ) w → am [(2, .bool aa)] w := by
   intro aa w H hs
   rw [ref18_Coded.j1] at H
   refine an _ _ <| W_ret ?_
   obtain rfl := sinj H
   exact r1 rfl ⟨rfl, hs⟩
  refine W_region <| Mv rfl <| O_y rfl (Y_lenR un28 h0 rfl) <| Oge rfl <| Mv rfl <| O_if (dj := 6) rfl (fun ad => ?_) (fun ad => ?_)
  ·rw [if_pos ad] at H
   refine Oe rfl <| Mv rfl ?_
   obtain ⟨ah, H⟩ := gd H
   obtain ⟨az, a0, ao, ap⟩ := h0.ix el28 ah.1 ah.2
   refine Oe rfl <| O_y rfl (ap rfl rfl) <| Oe rfl <| O_y rfl (Y_load ag21 rfl (hs.see ao.int)) <| Oe rfl <| Oeq rfl <| Opk rfl <| Mv rfl <| O_if (dj := 12) rfl (fun ae => ?_) (fun ae => ?_)
   ·rw [if_pos ae] at H
    refine Oe rfl <| Mv rfl ?_
    obtain ⟨ai, H⟩ := gd H
    obtain ⟨a1, a2, aq, ar⟩ := h0.ix el28 ai.1 ai.2
    refine Oe rfl <| O_y rfl (ar rfl rfl) <| Oe rfl <| O_y rfl (Y_load ag21 rfl (hs.see aq.int)) <| Oe rfl <| Oeq rfl <| Opk rfl <| Mv rfl <| O_if (dj := 18) rfl (fun af => ?_) (fun af => ?_)
    ·rw [if_pos af] at H
     refine Oe rfl <| Mv rfl ?_
     obtain ⟨aj, H⟩ := gd H
     obtain ⟨a3, a4, au, av⟩ := h0.ix el28 aj.1 aj.2
     refine Oe rfl <| O_y rfl (av rfl rfl) <| Oe rfl <| O_y rfl (Y_load ag21 rfl (hs.see au.int)) <| Oe rfl <| Oeq rfl <| Opk rfl <| Mv rfl <| O_if (dj := 24) rfl (fun ag => ?_) (fun ag => ?_)
     ·rw [if_pos ag] at H
      refine Oe rfl <| Mv rfl ?_
      obtain ⟨ak, H⟩ := gd H
      obtain ⟨a5, a6, aw, ax⟩ := h0.ix el28 ak.1 ak.2
      refine Oe rfl <| O_y rfl (ax rfl rfl) <| Oe rfl <| O_y rfl (Y_load ag21 rfl (hs.see aw.int)) <| Oe rfl <| Oeq rfl <| Opk rfl <| As rfl <| O_nil (ab _ _ _ (S1 rfl) (ac (decide ((rd x0 3) = 45)) _ H hs))
     ·rw [if_neg ag] at H
      refine On rfl <| On rfl <| On rfl <| On rfl <| Opk rfl <| As rfl <| O_nil (ab _ _ _ (S1 rfl) (ac false _ H hs))
    ·rw [if_neg af] at H
     refine On rfl <| On rfl <| On rfl <| On rfl <| Opk rfl <| Mv rfl <| On rfl <| On rfl <| On rfl <| On rfl <| Opk rfl <| As rfl <| O_nil (ab _ _ _ (S1 rfl) (ac false _ H hs))
   ·rw [if_neg ae] at H
    refine On rfl <| On rfl <| On rfl <| On rfl <| Opk rfl <| Mv rfl <| On rfl <| On rfl <| On rfl <| On rfl <| Opk rfl <| Mv rfl <| On rfl <| On rfl ?_
    refine On rfl <| On rfl <| Opk rfl <| As rfl <| O_nil (ab _ _ _ (S1 rfl) (ac false _ H hs))
  ·rw [if_neg ad] at H
   refine On rfl <| On rfl <| On rfl <| On rfl <| Opk rfl <| Mv rfl <| On rfl <| On rfl <| On rfl <| On rfl <| Opk rfl <| Mv rfl <| On rfl <| On rfl ?_
   refine On rfl <| On rfl <| Opk rfl <| Mv rfl <| On rfl <| On rfl <| On rfl <| On rfl <| Opk rfl <| As rfl <| O_nil (ab _ _ _ (S1 rfl) (ac false _ H hs))

def law18_LabelCodes.j1 (aa : Bool) : Option Bool := some aa
def law18_LabelCodes.f (x0 : List Int) : Option Bool := (law18_awake.f).bind fun aw => (if (!aw) = true then (some false) else ((label_ASCII.f x0).bind fun ad => ((ref18_ASCII.f x0).bind fun ae => ((label_Hyphens.f x0).bind fun af => ((ref18_Hyphens.f x0).bind fun ag => (if ad.1 = ae.1 then (if ad.2.1 = ae.2.1 then (if ad.2.2 = ae.2.2 then ((label_Coded.f x0).bind fun ax => ((ref18_Coded.f x0).bind fun ay => (if (ax == ay) = true then (if (af.1 == ag.1) = true then (law18_LabelCodes.j1 (af.2 == ag.2)) else (law18_LabelCodes.j1 false)) else (law18_LabelCodes.j1 false)))) else (law18_LabelCodes.j1 false)) else (law18_LabelCodes.j1 false)) else (law18_LabelCodes.j1 false)))))))
theorem law18_LabelCodes.c (hs : St w0 ρ (Γ) w) {v0 : Value} {x0 : List Int} (h0 : SlR (Rep.int .i32) ρ v0 x0) {r : Bool} (H : law18_LabelCodes.f x0 = some r) : CallsR Tryz.prog 4 [v0] w (fun v w' => v = .bool r ∧ St w0 ρ Γ w') := by
  rw [law18_LabelCodes.f] at H
  refine Et Tryz.func4 Tryz.ntmps4 rfl <| Wr fun a9 az => As rfl <| Ox az <| W_seq fun ba a0 => W_seq fun bb a1 => W_region ?_
  obtain ⟨aw, ah, H⟩ := bnd H
  refine Oc rfl (law18_awake.c hs ah) (fun bc w hpost => ?_)
  obtain ⟨rfl, hs⟩ := hpost
  refine Ont rfl <| Ox a1 <| W_cond rfl (fun ai => ?_) (fun ai => ?_)
  ·rw [if_pos ai] at H
   refine Wr fun bd a2 => As rfl <| Ox a2 <| W_ret ?_
   obtain rfl := sinj H
   exact r1 rfl ⟨rfl, hs⟩
  ·rw [if_neg (bft ai)] at H
   refine Wx a0 <| Wr fun be a3 => Mv rfl ?_
   obtain ⟨ad, aj, H⟩ := bnd H
   refine Oc rfl (label_ASCII.c hs h0 aj) (fun bf w hpost => ?_)
   obtain ⟨rfl, hs⟩ := hpost
   refine Mv rfl <| Oxt rfl <| Oxt rfl <| Oxt rfl <| As rfl <| As rfl <| As rfl <| Ox a3 <| Wr fun bg a4 => Mv rfl ?_
   obtain ⟨ae, ak, H⟩ := bnd H
   refine Oc rfl (ref18_ASCII.c hs h0 ak) (fun bh w hpost => ?_)
   obtain ⟨rfl, hs⟩ := hpost
   refine Mv rfl <| Oxt rfl <| Oxt rfl <| Oxt rfl <| As rfl <| As rfl <| As rfl <| Ox a4 <| W.weak [(0, _), (3, _), (4, _), (5, _), (6, _), (7, _), (8, _)] sbn ?_
   refine Wr fun bi a5 => Mv rfl ?_
   obtain ⟨af, al, H⟩ := bnd H
   refine Oc rfl (label_Hyphens.c hs h0 al) (fun bj w hpost => ?_)
   obtain ⟨rfl, hs⟩ := hpost
   refine Mv rfl <| Oxt rfl <| Oxt rfl <| As rfl <| As rfl <| Ox a5 <| Wr fun bk a6 => Mv rfl ?_
   obtain ⟨ag, am, H⟩ := bnd H
   refine Oc rfl (ref18_Hyphens.c hs h0 am) (fun bl w hpost => ?_)
   obtain ⟨rfl, hs⟩ := hpost
   refine Mv rfl <| Oxt rfl <| Oxt rfl <| As rfl <| As rfl <| Ox a6 <| W.weak [(0, _), (3, _), (4, _), (5, _), (6, _), (7, _), (8, _), (9, _), (10, _), (11, _), (12, _)] sbn ?_
   refine W_seqj fun a7 a8 ab => ?_
   have ac : ∀ (aa : Bool) (w : World), law18_LabelCodes.j1 aa = some r → St w0 ρ (Γ) w → a7 [(2, .bool aa)] w := by
    intro aa w H hs
    rw [law18_LabelCodes.j1] at H
    refine a8 _ _ <| W_ret ?_
    obtain rfl := sinj H
    exact r1 rfl ⟨rfl, hs⟩
   refine W_region <| Mv rfl <| Mv rfl <| O_y rfl (Y_eqls rfl rfl) <| Mv rfl <| O_if (dj := 40) rfl (fun an => ?_) (fun an => ?_)
   ·rw [if_pos an] at H
    refine Oe rfl <| Mv rfl <| Oe rfl <| Mv rfl <| Oe rfl <| Oeq rfl <| Opk rfl <| Mv rfl <| O_if (dj := 45) rfl (fun ao => ?_) (fun ao => ?_)
    ·rw [if_pos ao] at H
     refine Oe rfl <| Mv rfl <| Oe rfl <| Mv rfl <| Oe rfl <| Oeq rfl <| Opk rfl <| Mv rfl <| O_if (dj := 50) rfl (fun ap => ?_) (fun ap => ?_)
     ·rw [if_pos ap] at H
      refine Oe rfl <| Mv rfl <| Oe rfl ?_
      obtain ⟨ax, aq, H⟩ := bnd H
      refine Oc rfl (label_Coded.c hs h0 aq) (fun bm w hpost => ?_)
      obtain ⟨rfl, hs⟩ := hpost
      refine Oe rfl <| Mv rfl <| Oe rfl ?_
      obtain ⟨ay, ar, H⟩ := bnd H
      refine Oc rfl (ref18_Coded.c hs h0 ar) (fun bn w hpost => ?_)
      obtain ⟨rfl, hs⟩ := hpost
      refine Oe rfl <| O_y rfl (Y_eqlb un4 rfl rfl) <| Opk rfl <| Mv rfl <| O_cases (dj := 57) rfl (fun au => ?_) (fun au => ?_)
      ·rw [if_pos au] at H
       refine Oe rfl <| Mv rfl <| Oe rfl <| Mv rfl <| Oe rfl <| O_y rfl (Y_eqlb un4 rfl rfl) <| Opk rfl <| Mv rfl <| O_cases (dj := 62) rfl (fun av => ?_) (fun av => ?_)
       ·rw [if_pos av] at H
        refine Oe rfl <| Mv rfl <| Oe rfl <| Mv rfl <| Oe rfl <| O_y rfl (Y_eqlb un4 rfl rfl) <| Opk rfl <| As rfl <| O_nil (ab _ _ _ (S1 rfl) (ac (af.2 == ag.2) _ H hs))
       ·rw [if_neg (bft av)] at H
        refine On rfl <| On rfl <| On rfl <| Opk rfl <| As rfl <| O_nil (ab _ _ _ (S1 rfl) (ac false _ H hs))
      ·rw [if_neg (bft au)] at H
       refine On rfl <| On rfl <| On rfl <| Opk rfl <| Mv rfl <| On rfl <| On rfl <| On rfl <| Opk rfl <| As rfl <| O_nil (ab _ _ _ (S1 rfl) (ac false _ H hs))
     ·rw [if_neg ap] at H
      refine On rfl <| On rfl <| On rfl <| On rfl <| On rfl <| Opk rfl <| Mv rfl <| On rfl <| On rfl <| On rfl <| Opk rfl <| Mv rfl <| On rfl <| On rfl ?_
      refine On rfl <| Opk rfl <| As rfl <| O_nil (ab _ _ _ (S1 rfl) (ac false _ H hs))
    ·rw [if_neg ao] at H
     refine On rfl <| On rfl <| On rfl <| Opk rfl <| Mv rfl <| On rfl <| On rfl <| On rfl <| On rfl <| On rfl <| Opk rfl <| Mv rfl <| On rfl <| On rfl ?_
     refine On rfl <| Opk rfl <| Mv rfl <| On rfl <| On rfl <| On rfl <| Opk rfl <| As rfl <| O_nil (ab _ _ _ (S1 rfl) (ac false _ H hs))
   ·rw [if_neg an] at H
    refine On rfl <| On rfl <| On rfl <| Opk rfl <| Mv rfl <| On rfl <| On rfl <| On rfl <| Opk rfl <| Mv rfl <| On rfl <| On rfl <| On rfl <| On rfl ?_
    refine On rfl <| Opk rfl <| Mv rfl <| On rfl <| On rfl <| On rfl <| Opk rfl <| Mv rfl <| On rfl <| On rfl <| On rfl <| Opk rfl <| As rfl <| O_nil (ab _ _ _ (S1 rfl) (ac false _ H hs))

end Go.Proofs.YthoicbafdanmkaaGreatDoor
/- Written by this repo's gen.py: for each Go function a Lean function with the same answers and the walk that shows it. -/
namespace Go.Proofs.YthoicbafdanmkaaGreatDoor
open Go.RowKit
set_option maxRecDepth 100000
set_option maxHeartbeats 4000000
variable {w0 w : World} {ρ : Hp} {Γ : List Item}
set_option linter.unusedVariables false
def ref10_Runes.l1 : Nat → List Int → List Int → Int → Option Bool
  | 0, _, _, _ => none
  | ab + 1, x0, x1, aa => if aa < (x0.length : Int) then (if (0 : Int) ≤ aa ∧ aa < (x0.length : Int) then (if (0 : Int) ≤ aa ∧ aa < (x1.length : Int) then (if (rd x0 aa) ≠ (rd x1 aa) then (some false) else ((ref10_Runes.l1 ab x0 x1) (IntKind.i64.wrap (aa + 1)))) else none) else none) else (some true)
def ref10_Runes.f (x0 x1 : List Int) : Option Bool := if (x0.length : Int) ≠ (x1.length : Int) then (some false) else (ref10_Runes.l1 K0 x0 x1 0)
end Go.Proofs.YthoicbafdanmkaaGreatDoor
/- Plain laws of the canonical order: a stable sort of each stretch without class 0; what is ordered in pieces is ordered in all. Own work of this repo; it needs no walk. -/
namespace Go.Proofs.YthoicbafdanmkaaGreatDoor

section
variable {α : Type} (key : α → Int)
def insL (x : α) : List α → List α
  | [] => [x]
  | y :: t => if key x ≤ key y then x :: y :: t else y :: insL x t
def sortL : List α → List α
  | [] => []
  | x :: t => insL key x (sortL t)
def Srt : List α → Prop
  | [] => True
  | x :: t => (∀ y ∈ t, key x ≤ key y) ∧ Srt t
def Feq (a b : List α) : Prop := ∀ c, a.filter (fun x => decide (key x = c)) = b.filter (fun x => decide (key x = c))
theorem Feq.refl (a : List α) : Feq key a a := fun _ => rfl
theorem Feq.symm {a b : List α} (h : Feq key a b) : Feq key b a := fun c => (h c).symm
theorem Feq.trans {a b c : List α} (h : Feq key a b) (g : Feq key b c) : Feq key a c := fun d => (h d).trans (g d)
theorem Feq.app {a a' b b' : List α} (h : Feq key a a') (g : Feq key b b') : Feq key (a ++ b) (a' ++ b') := fun c => by rw [List.filter_append, List.filter_append, h c, g c]
theorem Feq.mem {a b : List α} (h : Feq key a b) {x : α} (hx : x ∈ a) : x ∈ b := by
  have : x ∈ a.filter (fun y => decide (key y = key x)) := List.mem_filter.2 ⟨hx, by simp⟩
  rw [h] at this
  exact (List.mem_filter.1 this).1
theorem mem_ins {x y : α} {t : List α} : y ∈ insL key x t ↔ y = x ∨ y ∈ t := by
  induction t with
  | nil => simp [insL]
  | cons z t ih =>
    unfold insL
    split
    · simp
    · simp only [List.mem_cons, ih]
      constructor
      · rintro (h | h | h) <;> simp [h]
      · rintro (h | h | h) <;> simp [h]
theorem srt_ins {x : α} : ∀ {t : List α}, Srt key t → Srt key (insL key x t)
  | [], _ => ⟨fun y hy => (by cases hy), trivial⟩
  | y :: t, h => by
    unfold insL
    split
    · rename_i c
      refine ⟨fun z hz => ?_, h⟩
      rcases List.mem_cons.1 hz with rfl | hz
      · exact c
      · exact Int.le_trans c (h.1 z hz)
    · rename_i c
      refine ⟨fun z hz => ?_, srt_ins h.2⟩
      rcases (mem_ins key).1 hz with rfl | hz
      · omega
      · exact h.1 z hz
theorem feq_ins (x : α) : ∀ (t : List α), Feq key (insL key x t) (x :: t)
  | [], _ => rfl
  | y :: t, c => by
    unfold insL
    split
    · rfl
    · rename_i h
      have ih := feq_ins x t c
      simp only [List.filter_cons] at ih ⊢
      rw [ih]
      by_cases c1 : key y = c
      · have : ¬ key x = c := by omega
        simp [c1, this]
      · simp [c1]
theorem srt_sort : ∀ (l : List α), Srt key (sortL key l)
  | [] => trivial
  | _ :: t => srt_ins key (srt_sort t)
theorem feq_sort : ∀ (l : List α), Feq key (sortL key l) l
  | [], _ => rfl
  | x :: t, c => by
    rw [sortL, feq_ins key x _ c, List.filter_cons, List.filter_cons, feq_sort t c]
theorem srt_unique : ∀ {a b : List α}, Srt key a → Srt key b → Feq key a b → a = b
  | [], [], _, _, _ => rfl
  | [], y :: b, _, _, h => by have := Feq.mem key (Feq.symm key h) (List.mem_cons_self (a := y) (l := b)); cases this
  | x :: a, [], _, _, h => by have := Feq.mem key h (List.mem_cons_self (a := x) (l := a)); cases this
  | x :: a, y :: b, ha, hb, h => by
    have h1 : key y ≤ key x := by
      rcases List.mem_cons.1 (Feq.mem key h (List.mem_cons_self (a := x) (l := a))) with e | e
      · rw [e]; exact Int.le_refl _
      · exact hb.1 x e
    have h2 : key x ≤ key y := by
      rcases List.mem_cons.1 (Feq.mem key (Feq.symm key h) (List.mem_cons_self (a := y) (l := b))) with e | e
      · rw [e]; exact Int.le_refl _
      · exact ha.1 y e
    have hk : key x = key y := by omega
    have h3 := h (key x)
    rw [List.filter_cons, List.filter_cons, if_pos (by simp), if_pos (by simp [hk])] at h3
    have hxy : x = y := (List.cons.inj h3).1
    subst hxy
    rw [srt_unique ha.2 hb.2 (fun c => by
      by_cases e : key x = c
      · subst e; exact (List.cons.inj h3).2
      · have := h c
        rw [List.filter_cons, List.filter_cons, if_neg (by simp [e]), if_neg (by simp [e])] at this
        exact this)]
theorem sort_feq {a b : List α} (h : Feq key a b) : sortL key a = sortL key b :=
  srt_unique key (srt_sort key a) (srt_sort key b) (Feq.trans key (feq_sort key a) (Feq.trans key h (Feq.symm key (feq_sort key b))))
theorem sort_is {a b : List α} (h : Srt key b) (g : Feq key a b) : sortL key a = b :=
  srt_unique key (srt_sort key a) h (Feq.trans key (feq_sort key a) g)
theorem sort_mem {l : List α} {x : α} (h : x ∈ sortL key l) : x ∈ l := Feq.mem key (feq_sort key l) h
theorem sort_len : ∀ (l : List α), (sortL key l).length = l.length := by
  have ins : ∀ (x : α) (t : List α), (insL key x t).length = t.length + 1 := by
    intro x t
    induction t with
    | nil => rfl
    | cons y t ih => unfold insL; split <;> simp [ih]
  intro l
  induction l with
  | nil => rfl
  | cons x t ih => rw [sortL, ins, ih]; rfl
theorem feq_swap {x y : List α} (h : ∀ a ∈ x, ∀ b ∈ y, key b < key a) : Feq key (x ++ y) (y ++ x) := by
  intro c
  rw [List.filter_append, List.filter_append]
  by_cases e : x.filter (fun z => decide (key z = c)) = []
  · rw [e]; simp
  · obtain ⟨a, ha⟩ := List.exists_mem_of_ne_nil _ e
    have ha := List.mem_filter.1 ha
    have : y.filter (fun z => decide (key z = c)) = [] := by
      rw [List.filter_eq_nil_iff]
      intro b hb
      have := h a ha.1 b hb
      have e2 : key a = c := by simpa using ha.2
      simp; omega
    rw [this]; simp
theorem srt_app : ∀ {a b : List α}, Srt key a → Srt key b → (∀ x ∈ a, ∀ y ∈ b, key x ≤ key y) → Srt key (a ++ b)
  | [], _, _, hb, _ => hb
  | x :: a, b, ha, hb, h => by
    refine ⟨fun z hz => ?_, srt_app ha.2 hb fun u hu v hv => h u (List.mem_cons_of_mem _ hu) v hv⟩
    rcases List.mem_append.1 hz with hz | hz
    · exact ha.1 z hz
    · exact h x (List.mem_cons_self ..) z hz
theorem srt_parts {b : List α} : ∀ {a : List α}, Srt key (a ++ b) → Srt key a ∧ Srt key b ∧ ∀ x ∈ a, ∀ y ∈ b, key x ≤ key y
  | [], h => ⟨trivial, h, fun x hx => (by cases hx)⟩
  | x :: a, h => by
    obtain ⟨h1, h2, h3⟩ := srt_parts h.2
    refine ⟨⟨fun y hy => h.1 y (List.mem_append_left _ hy), h1⟩, h2, fun u hu v hv => ?_⟩
    rcases List.mem_cons.1 hu with rfl | hu
    · exact h.1 v (List.mem_append_right _ hv)
    · exact h3 u hu v hv

def ordA (acc : List α) : List α → List α
  | [] => sortL key acc
  | x :: t => if key x = 0 then sortL key acc ++ x :: ordA [] t else ordA (acc ++ [x]) t
def ordL (l : List α) : List α := ordA key [] l
theorem ordA_run : ∀ (s : List α) (acc l : List α), (∀ x ∈ s, key x ≠ 0) → ordA key acc (s ++ l) = ordA key (acc ++ s) l
  | [], acc, l, _ => by simp
  | x :: s, acc, l, h => by
    rw [List.cons_append, ordA, if_neg (h x (List.mem_cons_self ..)), ordA_run s _ l fun y hy => h y (List.mem_cons_of_mem _ hy)]
    simp
theorem ordA_len : ∀ (l acc : List α), (ordA key acc l).length = acc.length + l.length
  | [], acc => by simp [ordA, sort_len]
  | x :: t, acc => by
    unfold ordA
    split
    · simp [sort_len, ordA_len t]
    · simp [ordA_len t]; omega
theorem ord_len (l : List α) : (ordL key l).length = l.length := by simp [ordL, ordA_len]
theorem merge_split {a x y b : List α} (h1 : Srt key (a ++ x)) (h2 : Srt key (y ++ b)) (h3 : ∀ u ∈ x, ∀ v ∈ y, key v < key u) (h4 : ∀ u ∈ a, ∀ v ∈ b, key u ≤ key v) :
    sortL key ((a ++ x) ++ (y ++ b)) = sortL key (a ++ y) ++ sortL key (x ++ b) := by
  obtain ⟨_, _, h1c⟩ := srt_parts key h1
  obtain ⟨_, _, h2c⟩ := srt_parts key h2
  refine sort_is key (srt_app key (srt_sort key _) (srt_sort key _) fun u hu v hv => ?_) ?_
  · rcases List.mem_append.1 (sort_mem key hu) with hu | hu <;> rcases List.mem_append.1 (sort_mem key hv) with hv | hv
    · exact h1c u hu v hv
    · exact h4 u hu v hv
    · exact Int.le_of_lt (h3 v hv u hu)
    · exact h2c u hu v hv
  · refine Feq.trans key ?_ (Feq.app key (Feq.symm key (feq_sort key (a ++ y))) (Feq.symm key (feq_sort key (x ++ b))))
    have := Feq.app key (Feq.app key (Feq.refl key a) (feq_swap key h3)) (Feq.refl key b)
    simpa [List.append_assoc] using this
theorem merge_first {u : α} {y b : List α} (h2 : Srt key (y ++ b)) (h3 : ∀ v ∈ y, key v < key u) (h4 : ∀ v ∈ b, key u ≤ key v) : sortL key (u :: (y ++ b)) = y ++ u :: b := by
  obtain ⟨hy, hb, hc⟩ := srt_parts key h2
  refine sort_is key (srt_app key hy ⟨h4, hb⟩ fun v hv w hw => ?_) ?_
  · rcases List.mem_cons.1 hw with rfl | hw
    · exact Int.le_of_lt (h3 v hv)
    · exact hc v hv w hw
  · have := Feq.app key (feq_swap key (x := [u]) (y := y) fun a ha v hv => by rw [List.mem_singleton.1 ha]; exact h3 v hv) (Feq.refl key b)
    simpa using this
theorem merge_last {v : α} {a x : List α} (h1 : Srt key (a ++ x)) (h3 : ∀ u ∈ x, key v < key u) (h4 : ∀ u ∈ a, key u ≤ key v) : sortL key (a ++ x ++ [v]) = a ++ v :: x := by
  obtain ⟨ha, hx, hc⟩ := srt_parts key h1
  refine sort_is key (srt_app key ha ⟨fun u hu => Int.le_of_lt (h3 u hu), hx⟩ fun u hu w hw => ?_) ?_
  · rcases List.mem_cons.1 hw with rfl | hw
    · exact h4 u hu
    · exact hc u hu w hw
  · have := Feq.app key (Feq.refl key a) (feq_swap key (x := x) (y := [v]) fun u hu w hw => by rw [List.mem_singleton.1 hw]; exact h3 u hu)
    simpa [List.append_assoc] using this
theorem sort_front (a b : List α) : sortL key (sortL key a ++ b) = sortL key (a ++ b) := sort_feq key (Feq.app key (feq_sort key a) (Feq.refl key b))
theorem sort_id {a : List α} (h : Srt key a) : sortL key a = a := sort_is key h (Feq.refl key a)
end
end Go.Proofs.YthoicbafdanmkaaGreatDoor
/- Plain laws, first part: loops over lists; what each check of a book says. Own work of this repo. -/
namespace Go.Proofs.YthoicbafdanmkaaGreatDoor
open Go.RowKit

theorem w32 {x : Int} (h0 : -2147483648 ≤ x) (h1 : x ≤ 2147483647) : IntKind.i32.wrap x = x := by rw [IntKind.wrap_i32]; omega
theorem w64 {x : Int} (h0 : -9223372036854775808 ≤ x) (h1 : x ≤ 9223372036854775807) : IntKind.i64.wrap x = x := by rw [IntKind.wrap_i64]; omega
theorem w16 {x : Int} (h0 : 0 ≤ x) (h1 : x < 65536) : IntKind.u16.wrap x = x := by rw [IntKind.wrap_u16]; omega

def bigN : Nat := 1073741824
theorem mid {α : Type} [Inhabited α] {xs pre t : List α} {x : α} (e : xs = pre ++ x :: t) : rd xs (pre.length : Int) = x ∧ ((0 : Int) ≤ (pre.length : Int) ∧ (pre.length : Int) < (xs.length : Int)) := by
  subst e
  refine ⟨by simp [rd], by omega, by simp; omega⟩
theorem nxt {α : Type} {xs pre t : List α} {x : α} (hx : xs.length ≤ bigN) (e : xs = pre ++ x :: t) : IntKind.i64.wrap ((pre.length : Int) + 1) = (pre.length : Int) + 1 := by
  have : xs.length = pre.length + (t.length + 1) := by rw [e]; simp
  unfold bigN at hx
  exact w64 (by omega) (by omega)
theorem loop_ind {α σ β : Type} (L : Nat → Int → σ → Option β) (xs : List α) (Spec : List α → List α → σ → Option β → Prop)
    (hnil : ∀ s k, Spec xs [] s (L (k + 1) (xs.length : Int) s))
    (hcons : ∀ pre x t s k, xs = pre ++ x :: t → (∀ s', Spec (pre ++ [x]) t s' (L k ((pre.length : Int) + 1) s')) → Spec pre (x :: t) s (L (k + 1) (pre.length : Int) s)) :
    ∀ s k, xs.length < k → Spec [] xs s (L k 0 s) := by
  have key : ∀ t pre s k, xs = pre ++ t → t.length < k → Spec pre t s (L k (pre.length : Int) s) := by
    intro t
    induction t with
    | nil =>
      intro pre s k e hk
      obtain ⟨k, rfl⟩ : ∃ j, k = j + 1 := ⟨k - 1, by simp at hk; omega⟩
      have : xs = pre := by rw [e]; simp
      subst this
      exact hnil s k
    | cons x t ih =>
      intro pre s k e hk
      obtain ⟨k, rfl⟩ : ∃ j, k = j + 1 := ⟨k - 1, by simp at hk; omega⟩
      refine hcons pre x t s k e (fun s' => ?_)
      have := ih (pre ++ [x]) s' k (by rw [e]; simp) (by simp at hk; omega)
      simpa using this
  intro s k hk
  have := key xs [] s k rfl hk
  simpa using this
theorem ltK {n : Nat} (h : n ≤ bigN) : n < K0 := by unfold bigN at h; unfold K0; omega

def Says (r : Int) (b : Bool) : Prop := (b = true ∧ r = -1) ∨ (b = false ∧ 0 ≤ r)
theorem Says.val {r : Int} {b : Bool} (h : Says r b) : (decide (0 ≤ r)) = !b := by
  rcases h with ⟨rfl, rfl⟩ | ⟨rfl, h⟩ <;> simp [*]

def okRows {α : Type} (lo hi : α → Int) (may : α → Bool) : Int → List α → Bool
  | _, [] => true
  | last, x :: t => decide (last < lo x) && decide (lo x ≤ hi x) && decide (hi x ≤ 1114111) && may x && okRows lo hi may (hi x) t
theorem okRows_no1 {α : Type} {lo hi : α → Int} {may : α → Bool} {last : Int} {x : α} {t : List α} (h : lo x ≤ last ∨ hi x < lo x ∨ 1114111 < hi x ∨ may x = false) : okRows lo hi may last (x :: t) = false := by
  rcases h with h | h | h | h
  · simp [okRows, show ¬ last < lo x by omega]
  · simp [okRows, show ¬ lo x ≤ hi x by omega]
  · simp [okRows, show ¬ hi x ≤ 1114111 by omega]
  · simp [okRows, h]
theorem okRows_yes {α : Type} {lo hi : α → Int} {may : α → Bool} {last : Int} {x : α} {t : List α} (h1 : ¬ lo x ≤ last) (h2 : ¬ hi x < lo x) (h3 : ¬ 1114111 < hi x) (h4 : may x = true) : okRows lo hi may last (x :: t) = okRows lo hi may (hi x) t := by
  simp [okRows, h4, show last < lo x by omega, show lo x ≤ hi x by omega, show hi x ≤ 1114111 by omega]

def letterB (c : Int) : Bool := decide (97 ≤ c ∧ c ≤ 122) || decide (65 ≤ c ∧ c ≤ 90)
theorem letter_or : ∀ n : Fin 256, (decide (97 ≤ bOr .u8 (n.val : Int) 32) && decide (bOr .u8 (n.val : Int) 32 ≤ 122)) = letterB (n.val : Int) := by decide +kernel
def nameB (s : ByteArray) : Bool := decide (1 ≤ s.size) && decide (s.size ≤ 32) && (bytesI s).all letterB
theorem bytesI_range {s : ByteArray} {c : Int} (h : c ∈ bytesI s) : ∃ n : Fin 256, c = (n.val : Int) := by
  simp only [bytesI, List.mem_map] at h
  obtain ⟨b, _, rfl⟩ := h
  exact ⟨⟨b.toNat, b.toNat_lt⟩, rfl⟩
theorem bt_rd (s : ByteArray) (i : Int) : bt s i = rd (bytesI s) i := by
  simp only [bt, rd, bytesI, List.getD_eq_getElem?_getD, List.getElem?_map, Array.getElem?_toList, Array.getD_eq_getD_getElem?]
  cases s.data[i.toNat]? <;> rfl
theorem isName_loop (s : ByteArray) (hs : s.size ≤ 32) : book_isName.l1 K0 s 0 = some ((bytesI s).all letterB) := by
  have hl : (bytesI s).length ≤ bigN := by rw [bytesI_length]; unfold bigN; omega
  refine loop_ind (fun k i (_ : Unit) => book_isName.l1 k s i) (bytesI s) (fun pre t _ o => o = some (t.all letterB)) ?_ ?_ () K0 (ltK hl)
  · intro _ k
    simp only [book_isName.l1, if_neg (show ¬ ((bytesI s).length : Int) < ((bytesI s).length : Int) by omega), List.all_nil]
  · intro pre x t _ k e ih
    obtain ⟨h1, h2⟩ := mid e
    obtain ⟨n, hn⟩ := bytesI_range (s := s) (c := x) (by rw [e]; simp)
    have hx := letter_or n
    rw [← hn] at hx
    simp only [book_isName.l1, if_pos h2.2, if_pos h2, h1, book_isName.j1, nxt hl e, List.all_cons]
    by_cases c1 : bOr .u8 x 32 < 97
    · have : letterB x = false := by rw [← hx]; simp [show ¬ 97 ≤ bOr .u8 x 32 by omega]
      simp [c1, this]
    · by_cases c2 : 122 < bOr .u8 x 32
      · have : letterB x = false := by rw [← hx]; simp [show ¬ bOr .u8 x 32 ≤ 122 by omega]
        simp [c1, c2, this]
      · have : letterB x = true := by rw [← hx]; simp [show 97 ≤ bOr .u8 x 32 by omega, show bOr .u8 x 32 ≤ 122 by omega]
        simp only [if_neg c1, c2, decide_false, Bool.false_eq_true, if_false, this, Bool.true_and]
        exact ih ()
theorem isName_eq (s : ByteArray) : book_isName.f s = some (nameB s) := by
  unfold book_isName.f book_isName.j2 nameB
  by_cases h1 : (s.size : Int) < 1
  · rw [if_pos h1, if_pos rfl]; simp [show ¬ 1 ≤ s.size by omega]
  · by_cases h2 : (32 : Int) < s.size
    · rw [if_neg h1, if_pos (by simpa using h2)]; simp [show ¬ s.size ≤ 32 by omega]
    · rw [if_neg h1, if_neg (by simpa using h2), isName_loop s (by omega)]
      simp [show 1 ≤ s.size by omega, show s.size ≤ 32 by omega]
def hasB : List ByteArray → ByteArray → Bool
  | [], _ => false
  | x :: t, y => decide (x = y) || hasB t y
theorem sub_pre {α : Type} {xs pre t : List α} (e : xs = pre ++ t) : sub xs 0 (pre.length : Int) = pre := by
  subst e
  simp [sub]
theorem index_eq (l : List ByteArray) (hl : l.length ≤ bigN) (y : ByteArray) : ∃ r, slices_Index_string_string.f l y = some r ∧ Says r (!hasB l y) := by
  refine loop_ind (fun k i (_ : Unit) => slices_Index_string_string.l1 k l y i) l (fun pre t _ o => ∃ r, o = some r ∧ Says r (!hasB t y)) ?_ ?_ () K0 (ltK hl)
  · intro _ k
    exact ⟨-1, by simp only [slices_Index_string_string.l1, if_neg (show ¬ (l.length : Int) < (l.length : Int) by omega)], .inl ⟨rfl, rfl⟩⟩
  · intro pre x t _ k e ih
    obtain ⟨h1, h2⟩ := mid e
    simp only [slices_Index_string_string.l1, if_pos h2.2, if_pos h2, h1, nxt hl e]
    by_cases c : y = x
    · exact ⟨pre.length, by rw [if_pos c], .inr ⟨by simp [hasB, c], by omega⟩⟩
    · rw [if_neg c]
      obtain ⟨r, h3, h4⟩ := ih ()
      refine ⟨r, h3, ?_⟩
      have : hasB (x :: t) y = hasB t y := by simp [hasB, Ne.symm c]
      rwa [this]
theorem contains_eq (l : List ByteArray) (hl : l.length ≤ bigN) (y : ByteArray) : slices_Contains_string_string.f l y = some (hasB l y) := by
  obtain ⟨r, h1, h2⟩ := index_eq l hl y
  simp only [slices_Contains_string_string.f, h1, Option.bind_some, h2.val, Bool.not_not]
def okNames : List ByteArray → List ByteArray → Bool
  | _, [] => true
  | pre, s :: t => nameB s && !hasB pre s && okNames (pre ++ [s]) t
def namesB (l : List ByteArray) : Bool := decide (l.length ≤ 64) && okNames [] l
theorem names_eq (l : List ByteArray) : ∃ r, book_names.f l = some r ∧ Says r (namesB l) := by
  unfold book_names.f namesB
  by_cases h : (64 : Int) < l.length
  · exact ⟨64, by rw [if_pos h], .inr ⟨by simp [show ¬ l.length ≤ 64 by omega], by decide⟩⟩
  · rw [if_neg h]
    have hl : l.length ≤ bigN := by unfold bigN; omega
    simp only [show l.length ≤ 64 by omega, decide_true, Bool.true_and]
    refine loop_ind (fun k i (_ : Unit) => book_names.l1 k l i) l (fun pre t _ o => ∃ r, o = some r ∧ Says r (okNames pre t)) ?_ ?_ () K0 (ltK hl)
    · intro _ k
      exact ⟨-1, by simp only [book_names.l1, if_neg (show ¬ (l.length : Int) < (l.length : Int) by omega)], .inl ⟨rfl, rfl⟩⟩
    · intro pre x t _ k e ih
      obtain ⟨h1, h2⟩ := mid e
      have hp : pre.length ≤ bigN := by rw [e] at hl; simp at hl; omega
      simp only [book_names.l1, if_pos h2.2, if_pos h2, h1, isName_eq, Option.bind_some, book_names.j1, nxt hl e, okNames]
      cases c : nameB x with
      | false => exact ⟨pre.length, by simp, .inr ⟨by simp, by omega⟩⟩
      | true =>
        simp only [Bool.not_true, Bool.false_eq_true, if_false]
        rw [if_pos ⟨by decide, h2.1, by omega⟩, sub_pre e, contains_eq pre hp, Option.bind_some]
        cases c2 : hasB pre x with
        | true => exact ⟨pre.length, by simp, .inr ⟨by simp, by omega⟩⟩
        | false => simpa using ih ()
end Go.Proofs.YthoicbafdanmkaaGreatDoor
