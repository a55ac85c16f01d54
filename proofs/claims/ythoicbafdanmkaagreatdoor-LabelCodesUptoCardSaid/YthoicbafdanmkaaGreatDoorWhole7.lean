/- Texts of this repo, merged for the claim: PureLF, PureLG, PureLH, PureLK, PureLN, EngR, PureLO, LaidRow, RowLabelCodes, CardLabelCodes. -/
import Derived.Test.YthoicbafdanmkaaGreatDoorWhole1
import Derived.Test.YthoicbafdanmkaaGreatDoorWhole5
import Derived.Test.YthoicbafdanmkaaGreatDoorWhole6
import Derived.Test.YthoicbafdanmkaaGreatDoorWhole4
import Derived.Test.YthoicbafdanmkaaGreatDoorWhole0
import Derived.Test.YthoicbafdanmkaaGreatDoorRows
import Derived.ChangeArms
import Derived.JoinedCond
import Derived.Lay
import Derived.LaidOnce
import Derived.LaidLaws
import Derived.WalkKit
import Derived.ProofKit
import Derived.OpenShut
import Derived.ShutString
import Derived.ChangeOld
import Derived.Below
import Derived.Lib.SmallJoins
import Derived.Test.YthoicbafdanmkaaGreatDoorCards
import Derived.Test.YthoicbafdanmkaaGreatDoorTie
import Derived.SevenTiedAt
/- Plain laws: Punycode is read alike by the program and by the document. Own work of this repo. -/
namespace Go.Proofs.YthoicbafdanmkaaGreatDoor
open Go.RowKit

theorem shift_in (a0 : List Int → Int → Int → Int → Int → Option (List Int × Int × Int)) (aa : List Int) (ag ae ac ab ao a7 p : Int) (hp : IntKind.i64.wrap (ac + IntKind.i64.wrap (ao * ab)) = p) {i : Nat} (hm : p.tmod (IntKind.i64.wrap ((aa.length : Int) + 1)) = (i : Int)) (hl : aa.length + 1 ≤ bigN) :
    ∀ (j : Nat) (z : Int) (k : Nat), i ≤ j → j ≤ aa.length → j < k →
      ref14_Decode.l1 a0 k aa ag ae ac ab ao a7 (aa.take j ++ z :: aa.drop j) (j : Int) =
        a0 (insZ aa (i : Int) (IntKind.i32.wrap (IntKind.i64.wrap (ag + (IntKind.i64.wrap (p.tdiv (IntKind.i64.wrap ((aa.length : Int) + 1)))))))) (IntKind.i64.wrap (ae + 1)) (IntKind.i64.wrap (ag + (IntKind.i64.wrap (p.tdiv (IntKind.i64.wrap ((aa.length : Int) + 1)))))) (IntKind.i64.wrap ((i : Int) + 1)) a7 := by
  have hb := hl
  unfold bigN at hb
  intro j
  induction j with
  | zero =>
    intro z k h1 h2 h3
    obtain ⟨k, rfl⟩ : ∃ q, k = q + 1 := ⟨k - 1, by omega⟩
    obtain rfl : i = 0 := by omega
    simp only [ref14_Decode.l1, hp, hm]
    rw [if_neg (by omega), if_pos ⟨by omega, by simp <;> omega⟩]
    simp [insZ]
  | succ j ih =>
    intro z k h1 h2 h3
    obtain ⟨k, rfl⟩ : ∃ q, k = q + 1 := ⟨k - 1, by omega⟩
    have hlen : (aa.take (j + 1) ++ z :: aa.drop (j + 1)).length = aa.length + 1 := by simp; omega
    simp only [ref14_Decode.l1, hp, hm]
    by_cases c : i = j + 1
    · subst c
      rw [if_neg (by omega), if_pos ⟨by omega, by rw [hlen]; omega⟩]
      congr 1
      have e : ((j + 1 : Nat) : Int).toNat = j + 1 := by omega
      rw [insZ, e, List.set_append_right _ _ (by simp; omega)]
      congr 1
      have : j + 1 - (aa.take (j + 1)).length = 0 := by simp; omega
      rw [this]; rfl
    · have w1 : IntKind.i64.wrap (((j + 1 : Nat) : Int) - 1) = (j : Int) := by rw [w64 (by omega) (by omega)]; omega
      rw [if_pos (by omega), w1, if_pos ⟨by omega, by rw [hlen]; omega⟩, if_pos ⟨by omega, by rw [hlen]; omega⟩]
      have hj : j < aa.length := by omega
      have e : ((j + 1 : Nat) : Int).toNat = j + 1 := by omega
      have er : rd (aa.take (j + 1) ++ z :: aa.drop (j + 1)) (j : Int) = aa[j] := by
        unfold rd
        have e2 : ((j : Nat) : Int).toNat = j := by omega
        rw [e2]
        rw [List.getD_eq_getElem?_getD, List.getElem?_append_left (by simp; omega), List.getElem?_take, if_pos (by omega), List.getElem?_eq_getElem hj]; rfl
      have es : (aa.take (j + 1) ++ z :: aa.drop (j + 1)).set (j + 1) aa[j] = aa.take j ++ aa[j] :: aa.drop j := by
        rw [List.set_append_right _ _ (by simp; omega)]
        have : j + 1 - (aa.take (j + 1)).length = 0 := by simp; omega
        have e3 : aa.take (j + 1) = aa.take j ++ [aa[j]] := by rw [List.take_add_one, List.getElem?_eq_getElem hj]; rfl
        have e4 : aa.drop j = aa[j] :: aa.drop (j + 1) := List.drop_eq_getElem_cons hj
        rw [this, List.set_cons_zero, e3, List.append_assoc, e4]; rfl
      rw [e, er, es]
      exact ih aa[j] k (by omega) (by omega) (by omega)
def tailR (a0 : List Int → Int → Int → Int → Int → Option (List Int × Int × Int)) (aa : List Int) (ag ai ae ac ab ao : Int) : Option (List Int × Int × Int) :=
  (ref14_Adapt.f (IntKind.i64.wrap ((IntKind.i64.wrap (ac + (IntKind.i64.wrap (ao * ab)))) - ai)) (IntKind.i64.wrap ((aa.length : Int) + 1)) (decide (ai = 0))).bind fun a7 => (if (IntKind.i64.wrap ((aa.length : Int) + 1)) ≠ 0 then (if 1114111 < (IntKind.i64.wrap (ag + (IntKind.i64.wrap ((IntKind.i64.wrap (ac + (IntKind.i64.wrap (ao * ab)))).tdiv (IntKind.i64.wrap ((aa.length : Int) + 1)))))) then (some (([] : List Int), ae, 142)) else ((ref14_scalar.f (IntKind.i32.wrap (IntKind.i64.wrap (ag + (IntKind.i64.wrap ((IntKind.i64.wrap (ac + (IntKind.i64.wrap (ao * ab)))).tdiv (IntKind.i64.wrap ((aa.length : Int) + 1)))))))).bind fun b2 => (if (!b2) = true then (some (([] : List Int), ae, 143)) else (if aa.length + ([0]).length ≤ most then (ref14_Decode.l1 a0 K0 aa ag ae ac ab ao a7 (aa ++ ([0])) (IntKind.i64.wrap (((aa ++ ([0])).length : Int) - 1))) else none)))) else none)
theorem bt_range (s : ByteArray) (i : Int) (h0 : 0 ≤ i) (h1 : i < (s.size : Int)) : 0 ≤ bt s i ∧ bt s i < 256 := by
  rw [bt_rd]
  obtain ⟨n, hn⟩ := bytesI_range (s := s) (rd_mem (D := bytesI s) h0 (by rw [bytesI_length]; exact h1))
  rw [hn]
  have := n.isLt
  omega
theorem number_eq (a0 : List Int → Int → Int → Int → Int → Option (List Int × Int × Int)) (s : ByteArray) (hs : s.size ≤ bigN) (aa : List Int) (ag ai aj : Int) :
    ∀ (k : Nat) (ae ac ab ar : Int), (s.size : Int) - ae < (k : Int) → 0 ≤ ae → ae ≤ (s.size : Int) → 0 ≤ ac → ac ≤ 2147483647 → 1 ≤ ab → ab ≤ 2147483647 → 36 ≤ ar → ar ≤ 36 * (ae + 1) →
      ∃ pl e at' i', puny_reader_number_ndm.l1 k 36 1 26 38 700 72 128 45 s aj ae ac ab ar = some (pl, e, at', i') ∧ (e ≠ 0 → ref14_Decode.l2 a0 k s aa ag ai aj ae ac ab ar = some ([], pl, e)) ∧
        (e = 0 → ae < at' ∧ at' ≤ (s.size : Int) ∧ ac ≤ i' ∧ i' ≤ 2147483647 ∧ ∃ ac' ab' ao', IntKind.i64.wrap (ac' + IntKind.i64.wrap (ao' * ab')) = i' ∧ ref14_Decode.l2 a0 k s aa ag ai aj ae ac ab ar = tailR a0 aa ag ai (at' - 1) ac' ab' ao') := by
  have hb := hs
  unfold bigN at hb
  intro k
  induction k with
  | zero => intro ae ac ab ar h; omega
  | succ k ih =>
    intro ae ac ab ar h1 h2 h3 h4 h5 h6 h7 h8 h9
    simp only [puny_reader_number_ndm.l1, ref14_Decode.l2]
    by_cases c : ae = (s.size : Int)
    · rw [if_pos c, if_pos c]
      exact ⟨_, _, _, _, rfl, fun _ => rfl, fun h => absurd h (by decide)⟩
    · rw [if_neg c, if_neg c, if_pos ⟨h2, by omega⟩, if_pos ⟨h2, by omega⟩]
      obtain ⟨r1, r2⟩ := bt_range s ae h2 (by omega)
      obtain ⟨d, g1, g2, g3⟩ := digit_val _ r1 r2
      rw [show puny_boot_digit.f ⟨36, 1, 26, 38, 700, 72, 128, 45⟩ (bt s ae) = some d from by rw [bdigit_eq _ r1 r2, g1], g1, Option.bind_some, Option.bind_some]
      by_cases c2 : d < 0
      · rw [if_pos c2, if_pos c2]
        exact ⟨_, _, _, _, rfl, fun _ => rfl, fun h => absurd h (by decide)⟩
      · have hdb : 0 ≤ d * ab ∧ d * ab ≤ 75161927645 := by
          constructor
          · exact Int.mul_nonneg (by omega) (by omega)
          · have : d * ab ≤ 35 * ab := Int.mul_le_mul_of_nonneg_right (by omega) (by omega)
            omega
        have w1 : IntKind.i64.wrap (d * ab) = d * ab := w64 (by omega) (by omega)
        have w2 : IntKind.i64.wrap (ac + d * ab) = ac + d * ab := w64 (by omega) (by omega)
        have w3 : IntKind.i64.wrap (ae + 1) = ae + 1 := w64 (by omega) (by omega)
        have w4 : IntKind.i64.wrap (ar + 36) = ar + 36 := w64 (by omega) (by omega)
        rw [if_neg c2, if_neg c2]
        by_cases c3 : 2147483647 < IntKind.i64.wrap (ac + IntKind.i64.wrap (d * ab))
        · rw [if_pos c3, if_pos c3]
          exact ⟨_, _, _, _, rfl, fun _ => rfl, fun h => absurd h (by decide)⟩
        · obtain ⟨t, t1, t2, t3⟩ := thr_val ar aj
          rw [if_neg c3, if_neg c3, show puny_boot_threshold.f ⟨36, 1, 26, 38, 700, 72, 128, 45⟩ ar aj = some t from by rw [thr_eq, t1], t1, Option.bind_some, Option.bind_some]
          by_cases c4 : d < t
          · rw [if_pos c4, if_pos c4]
            refine ⟨_, _, _, _, rfl, fun h => absurd rfl h, fun _ => ⟨by omega, by omega, by rw [w1, w2]; omega, by omega, ac, ab, d, rfl, ?_⟩⟩
            rw [w3, show ae + 1 - 1 = ae by omega]; rfl
          · rw [if_neg c4, if_neg c4]
            have w5 : IntKind.i64.wrap (36 - t) = 36 - t := w64 (by omega) (by omega)
            have hab : 0 ≤ ab * (36 - t) ∧ ab * (36 - t) ≤ 75161927645 ∧ 1 ≤ ab * (36 - t) := by
              have a1 : ab * 1 ≤ ab * (36 - t) := Int.mul_le_mul_of_nonneg_left (by omega) (by omega)
              have a2 : ab * (36 - t) ≤ ab * 35 := Int.mul_le_mul_of_nonneg_left (by omega) (by omega)
              omega
            have w6 : IntKind.i64.wrap (ab * (36 - t)) = ab * (36 - t) := w64 (by omega) (by omega)
            by_cases c5 : 2147483647 < IntKind.i64.wrap (ab * IntKind.i64.wrap (36 - t))
            · rw [if_pos c5, if_pos c5]
              exact ⟨_, _, _, _, rfl, fun _ => rfl, fun h => absurd h (by decide)⟩
            · rw [if_neg c5, if_neg c5]
              rw [w5, w6] at c5 ⊢
              rw [w1, w2] at c3 ⊢
              rw [w3, w4]
              obtain ⟨pl, e, at', i', q1, q2, q3⟩ := ih (ae + 1) (ac + d * ab) (ab * (36 - t)) (ar + 36) (by omega) (by omega) (by omega) (by omega) (by omega) (by omega) (by omega) (by omega) (by omega)
              refine ⟨pl, e, at', i', q1, q2, fun he => ?_⟩
              obtain ⟨p1, p2, p3, p4⟩ := q3 he
              exact ⟨by omega, p2, by omega, p4⟩
theorem scal_eq (x : Int) : scalar_Scalar.f x = ref14_scalar.f x := by
  simp only [scalar_Scalar.f, unicode_utf8_ValidRune.f, unicode_utf8_ValidRune.j2, unicode_utf8_ValidRune.j1, ref14_scalar.f, ref14_scalar.j1]
  by_cases a : 0 ≤ x
  · rw [if_pos a, if_pos a]
    by_cases b : x < 55296
    · simp [b]
    · simp only [b, decide_false, if_false, Bool.false_eq_true]
      by_cases c : 57343 < x
      · by_cases d : x ≤ 1114111 <;> simp [c, d]
      · simp [c]
  · rw [if_neg a, if_neg a]
    simp [show ¬ 57343 < x by omega]
theorem scal_val (x : Int) : ∃ b, ref14_scalar.f x = some b := by
  unfold ref14_scalar.f ref14_scalar.j1
  repeat' first | exact ⟨_, rfl⟩ | apply ite_tot
theorem adapt_loop : ∀ (k : Nat) (a b : Int), 0 ≤ a → a ≤ 8589934592 → a < (k : Int) → ∃ r, ref14_Adapt.l1 k a b = some r
  | 0, a, b, h0, _, h2 => by omega
  | k + 1, a, b, h0, h1, h2 => by
    simp only [ref14_Adapt.l1]
    by_cases c : 455 < a
    · have ht : a.tdiv 35 = a / 35 := Int.tdiv_eq_ediv_of_nonneg h0
      have hw : IntKind.i64.wrap (a.tdiv 35) = a / 35 := by rw [ht]; exact w64 (by omega) (by omega)
      rw [if_pos c, hw]
      exact adapt_loop k _ _ (by omega) (by omega) (by omega)
    · rw [if_neg c, w64 (x := a + 38) (by omega) (by omega), if_pos (by omega)]
      exact ⟨_, rfl⟩
theorem adapt_val (d p : Int) (f : Bool) (h0 : 0 ≤ d) (h1 : d ≤ 2147483648) (hp : 1 ≤ p) : ∃ r, ref14_Adapt.f d p f = some r := by
  have hK : (K0 : Int) = 1180591620717411303424 := rfl
  have key : ∀ c : Int, 0 ≤ c → c ≤ 2147483648 → ∃ r, ref14_Adapt.j1 p c = some r := by
    intro c c0 c1
    have e1 : c.tdiv p = c / p := Int.tdiv_eq_ediv_of_nonneg c0
    have e2 : 0 ≤ c / p := Int.ediv_nonneg c0 (by omega)
    have e3 : c / p ≤ c := Int.ediv_le_self p c0
    rw [ref14_Adapt.j1, if_pos (by omega), e1, w64 (x := c / p) (by omega) (by omega), w64 (by omega) (by omega)]
    exact adapt_loop K0 _ _ (by omega) (by omega) (by omega)
  have t1 : d.tdiv 700 = d / 700 := Int.tdiv_eq_ediv_of_nonneg h0
  have t2 : d.tdiv 2 = d / 2 := Int.tdiv_eq_ediv_of_nonneg h0
  rw [ref14_Adapt.f, t1, t2, w64 (x := d / 700) (by omega) (by omega), w64 (x := d / 2) (by omega) (by omega)]
  split
  · exact key _ (by omega) (by omega)
  · exact key _ (by omega) (by omega)
theorem read_eq (s : ByteArray) (hs : 2 * s.size ≤ bigN) : ∀ (q : Nat) (out : List Int) (at' n i b : Int) (k : Nat), (s.size : Int) - at' ≤ (q : Int) → q < k → 0 ≤ at' → (out.length : Int) ≤ at' → at' ≤ (s.size : Int) + 1 → 0 ≤ n → n ≤ 1114111 → 0 ≤ i → i ≤ (out.length : Int) →
    ∃ l a e, puny_boot_decode.l1 k pU s out at' n i b = some (l, a, e) ∧ ref14_Decode.l3 k s out at' n i b = some (l, a, e) ∧ (l.length : Int) ≤ (s.size : Int) + 1 := by
  have hb := hs
  unfold bigN at hb
  have hK : (K0 : Int) = 1180591620717411303424 := rfl
  intro q
  induction q with
  | zero =>
    intro out at' n i b k h1 h2 h3 h4 h5 h6 h7 h8 h9
    obtain ⟨k, rfl⟩ : ∃ j, k = j + 1 := ⟨k - 1, by omega⟩
    simp only [puny_boot_decode.l1, ref14_Decode.l3]
    rw [if_neg (by omega), if_neg (by omega)]
    exact ⟨_, _, _, rfl, rfl, by first | omega | (simp; omega)⟩
  | succ q ih =>
    intro out at' n i b k h1 h2 h3 h4 h5 h6 h7 h8 h9
    obtain ⟨k, rfl⟩ : ∃ j, k = j + 1 := ⟨k - 1, by omega⟩
    simp only [puny_boot_decode.l1, ref14_Decode.l3]
    by_cases c : at' < (s.size : Int)
    · rw [if_pos c, if_pos c]
      obtain ⟨pl, e, at2, i2, q1, q2, q3⟩ := number_eq (ref14_Decode.l3 k s) s (by unfold bigN; omega) out n i b K0 at' i 1 36 (by omega) h3 (by omega) h8 (by omega) (by omega) (by omega) (by omega) (by omega)
      simp only [puny_reader_next_ndm.f, puny_reader_number_ndm.f, q1, Option.bind_some]
      by_cases he : e = 0
      · obtain ⟨p1, p2, p3, p4, ac, ab, ao, p5, p6⟩ := q3 he
        rw [p6]
        have wl : IntKind.i64.wrap ((out.length : Int) + 1) = (out.length : Int) + 1 := w64 (by omega) (by omega)
        have hpos : (0 : Int) < (out.length : Int) + 1 := by omega
        have td : i2.tdiv ((out.length : Int) + 1) = i2 / ((out.length : Int) + 1) := Int.tdiv_eq_ediv_of_nonneg (by omega)
        have tm : i2.tmod ((out.length : Int) + 1) = i2 % ((out.length : Int) + 1) := Int.tmod_eq_emod_of_nonneg (by omega)
        have d0 : 0 ≤ i2 / ((out.length : Int) + 1) := Int.ediv_nonneg (by omega) (by omega)
        have d1 : i2 / ((out.length : Int) + 1) ≤ i2 := Int.ediv_le_self _ (by omega)
        have m0 : 0 ≤ i2 % ((out.length : Int) + 1) := Int.emod_nonneg _ (by omega)
        have m1 : i2 % ((out.length : Int) + 1) < (out.length : Int) + 1 := Int.emod_lt_of_pos _ hpos
        have wd : IntKind.i64.wrap (i2 - i) = i2 - i := w64 (by omega) (by omega)
        have w1 : IntKind.i64.wrap (i2 / ((out.length : Int) + 1)) = i2 / ((out.length : Int) + 1) := w64 (by omega) (by omega)
        have w2 : IntKind.i64.wrap (n + i2 / ((out.length : Int) + 1)) = n + i2 / ((out.length : Int) + 1) := w64 (by omega) (by omega)
        have w3 : IntKind.i64.wrap (at2 - 1) = at2 - 1 := w64 (by omega) (by omega)
        have w4 : IntKind.i64.wrap (i2 % ((out.length : Int) + 1) + 1) = i2 % ((out.length : Int) + 1) + 1 := w64 (by omega) (by omega)
        have w5 : IntKind.i64.wrap (at2 - 1 + 1) = at2 := by rw [w64 (by omega) (by omega)]; omega
        obtain ⟨ad, had⟩ := adapt_val (i2 - i) ((out.length : Int) + 1) (decide (i = 0)) (by omega) (by omega) (by omega)
        have hne : ¬ (out.length : Int) + 1 = 0 := by omega
        simp only [he, ne_eq, not_true_eq_false, if_false, tailR, p5, wl, adapt_eq, wd, had, Option.bind_some, hne, not_false_eq_true, if_true, td, tm, w1, w2, w3, w4]
        by_cases c2 : 1114111 < n + i2 / ((out.length : Int) + 1)
        · simp only [if_pos c2, Option.bind_some]
          exact ⟨_, _, _, rfl, rfl, by first | omega | (simp; omega)⟩
        · simp only [if_neg c2, scal_eq]
          obtain ⟨sb, hsb⟩ := scal_val (IntKind.i32.wrap (n + i2 / ((out.length : Int) + 1)))
          simp only [hsb, Option.bind_some]
          cases sb with
          | false => exact ⟨_, _, _, rfl, rfl, by first | omega | (simp; omega)⟩
          | true =>
            have hms : out.length + 1 ≤ most := by unfold most; omega
            obtain ⟨im, him⟩ : ∃ im : Nat, i2 % ((out.length : Int) + 1) = (im : Int) := ⟨(i2 % ((out.length : Int) + 1)).toNat, by omega⟩
            have hsh := shift_in (ref14_Decode.l3 k s) out n (at2 - 1) ac ab ao ad i2 p5 (i := im) (by rw [wl, tm, him]) (by unfold bigN; omega) out.length 0 K0 (by omega) (Nat.le_refl _) (by omega)
            have e1 : out.take out.length ++ (0 : Int) :: out.drop out.length = out ++ [0] := by simp
            have e2 : IntKind.i64.wrap (((out ++ [(0 : Int)]).length : Int) - 1) = (out.length : Int) := by
              rw [List.length_append, w64 (by simp <;> omega) (by simp <;> omega)]; simp
            rw [e1, wl, td, w1, w2, w5, ← him, w4] at hsh
            have hil : (insZ out (i2 % ((out.length : Int) + 1)) (IntKind.i32.wrap (n + i2 / ((out.length : Int) + 1)))).length = out.length + 1 := by simp [insZ]; omega
            obtain ⟨l, a, e', r1, r2, r3⟩ := ih (insZ out (i2 % ((out.length : Int) + 1)) (IntKind.i32.wrap (n + i2 / ((out.length : Int) + 1)))) at2 (n + i2 / ((out.length : Int) + 1)) (i2 % ((out.length : Int) + 1) + 1) ad k (by omega) (by omega) (by omega) (by rw [hil]; omega) (by omega) (by omega) (by omega) (by omega) (by rw [hil]; omega)
            refine ⟨l, a, e', ?_, ?_, r3⟩
            · rw [if_neg (by decide), if_pos ⟨m0, by omega, hms⟩, Option.bind_some, if_neg (by simp)]
              exact r1
            · rw [if_neg (by decide), if_pos (by simpa using hms), e2, hsh]
              exact r2
      · rw [q2 he]
        simp only [ne_eq, he, not_false_eq_true, if_true, Option.bind_some]
        exact ⟨_, _, _, rfl, rfl, by first | omega | (simp; omega)⟩
    · rw [if_neg c, if_neg c]
      exact ⟨_, _, _, rfl, rfl, by first | omega | (simp; omega)⟩
end Go.Proofs.YthoicbafdanmkaaGreatDoor
/- Plain laws: Punycode's last hyphen, and what stands ahead of it. Own work of this repo. -/
namespace Go.Proofs.YthoicbafdanmkaaGreatDoor
open Go.RowKit

theorem last_prog (s : ByteArray) (hs : s.size ≤ bigN) : ∀ (m : Nat) (i : Int) (k : Nat), i + 1 ≤ (m : Int) → m < k → -1 ≤ i → i < (s.size : Int) →
    ∃ r, internal_bytealg_LastIndexByteString.l1 k s 45 i = some r ∧ ((r = -1 ∧ ∀ j, 0 ≤ j → j ≤ i → bt s j ≠ 45) ∨ (0 ≤ r ∧ r ≤ i ∧ bt s r = 45 ∧ ∀ j, r < j → j ≤ i → bt s j ≠ 45)) := by
  have hb := hs
  unfold bigN at hb
  intro m
  induction m with
  | zero =>
    intro i k h1 h2 h3 h4
    obtain ⟨k, rfl⟩ : ∃ q, k = q + 1 := ⟨k - 1, by omega⟩
    simp only [internal_bytealg_LastIndexByteString.l1]
    rw [if_neg (by omega)]
    exact ⟨-1, rfl, .inl ⟨rfl, fun j a b => by omega⟩⟩
  | succ m ih =>
    intro i k h1 h2 h3 h4
    obtain ⟨k, rfl⟩ : ∃ q, k = q + 1 := ⟨k - 1, by omega⟩
    simp only [internal_bytealg_LastIndexByteString.l1]
    by_cases c : 0 ≤ i
    · rw [if_pos c, if_pos ⟨c, h4⟩]
      by_cases d : bt s i = 45
      · rw [if_pos d]
        exact ⟨i, rfl, .inr ⟨c, Int.le_refl _, d, fun j a b => by omega⟩⟩
      · rw [if_neg d, w64 (by omega) (by omega)]
        obtain ⟨r, q1, q2⟩ := ih (i - 1) k (by omega) (by omega) (by omega) (by omega)
        refine ⟨r, q1, ?_⟩
        rcases q2 with ⟨a1, a2⟩ | ⟨a1, a2, a3, a4⟩
        · refine .inl ⟨a1, fun j b1 b2 => ?_⟩
          by_cases e : j = i
          · rw [e]; exact d
          · exact a2 j b1 (by omega)
        · refine .inr ⟨a1, by omega, a3, fun j b1 b2 => ?_⟩
          by_cases e : j = i
          · rw [e]; exact d
          · exact a4 j b1 (by omega)
    · rw [if_neg c]
      exact ⟨-1, rfl, .inl ⟨rfl, fun j a b => by omega⟩⟩
def LastR (s : ByteArray) (i al : Int) : Prop := (al = 0 ∧ ∀ j, 0 < j → j < i → bt s j ≠ 45) ∨ (0 < al ∧ al < i ∧ bt s al = 45 ∧ ∀ j, al < j → j < i → bt s j ≠ 45)
theorem last_ref (s : ByteArray) (hs : s.size ≤ bigN) : ∀ (m : Nat) (i al : Int) (k : Nat), (s.size : Int) - i ≤ (m : Int) → m < k → 0 ≤ i → i ≤ (s.size : Int) → LastR s i al →
    ∃ al', ref14_Decode.l5 k s al i = ref14_Decode.l4 K0 s al' [] 0 ∧ LastR s (s.size : Int) al' := by
  have hb := hs
  unfold bigN at hb
  intro m
  induction m with
  | zero =>
    intro i al k h1 h2 h3 h4 h5
    obtain ⟨k, rfl⟩ : ∃ q, k = q + 1 := ⟨k - 1, by omega⟩
    obtain rfl : i = (s.size : Int) := by omega
    simp only [ref14_Decode.l5]
    rw [if_neg (by omega)]
    exact ⟨al, rfl, h5⟩
  | succ m ih =>
    intro i al k h1 h2 h3 h4 h5
    obtain ⟨k, rfl⟩ : ∃ q, k = q + 1 := ⟨k - 1, by omega⟩
    simp only [ref14_Decode.l5, ref14_Decode.j1]
    by_cases c : i < (s.size : Int)
    · rw [if_pos c, if_pos ⟨h3, c⟩, w64 (by omega) (by omega)]
      by_cases d : bt s i = 45
      · rw [if_pos d]
        refine ih (i + 1) i k (by omega) (by omega) (by omega) (by omega) ?_
        by_cases e : i = 0
        · exact .inl ⟨e, fun j a b => by omega⟩
        · exact .inr ⟨by omega, by omega, d, fun j a b => by omega⟩
      · rw [if_neg d]
        refine ih (i + 1) al k (by omega) (by omega) (by omega) (by omega) ?_
        rcases h5 with ⟨a1, a2⟩ | ⟨a1, a2, a3, a4⟩
        · refine .inl ⟨a1, fun j b1 b2 => ?_⟩
          by_cases e : j = i
          · rw [e]; exact d
          · exact a2 j b1 (by omega)
        · refine .inr ⟨a1, by omega, a3, fun j b1 b2 => ?_⟩
          by_cases e : j = i
          · rw [e]; exact d
          · exact a4 j b1 (by omega)
    · rw [if_neg c]
      obtain rfl : i = (s.size : Int) := by omega
      exact ⟨al, rfl, h5⟩
theorem last_both (s : ByteArray) (hs : s.size ≤ bigN) : ∃ r al, strings_LastIndexByte.f s 45 = some r ∧ ref14_Decode.f s = ref14_Decode.l4 K0 s al [] 0 ∧ (if 0 < r then al = r else al = 0) ∧ r < (s.size : Int) := by
  have hb := hs
  unfold bigN at hb
  have hK : (K0 : Int) = 1180591620717411303424 := rfl
  obtain ⟨r, p1, p2⟩ := last_prog s hs s.size ((s.size : Int) - 1) K0 (by omega) (by omega) (by omega) (by omega)
  obtain ⟨al, q1, q2⟩ := last_ref s hs s.size 0 0 K0 (by omega) (by omega) (by omega) (by omega) (.inl ⟨rfl, fun j a b => by omega⟩)
  refine ⟨r, al, ?_, q1, ?_, ?_⟩
  · rw [strings_LastIndexByte.f, internal_bytealg_LastIndexByteString.f, w64 (by omega) (by omega), p1]; rfl
  · rcases p2 with ⟨a1, a2⟩ | ⟨a1, a2, a3, a4⟩
    · rw [if_neg (by omega)]
      rcases q2 with ⟨b1, _⟩ | ⟨b1, b2, b3, _⟩
      · exact b1
      · exact absurd b3 (a2 al (by omega) (by omega))
    · by_cases c : 0 < r
      · rw [if_pos c]
        rcases q2 with ⟨b1, b2⟩ | ⟨b1, b2, b3, b4⟩
        · exact absurd a3 (b2 r c (by omega))
        · by_cases d : al < r
          · exact absurd a3 (b4 r d (by omega))
          · by_cases d2 : r < al
            · exact absurd b3 (a4 al d2 (by omega))
            · omega
      · rw [if_neg c]
        rcases q2 with ⟨b1, b2⟩ | ⟨b1, b2, b3, b4⟩
        · exact b1
        · exact absurd b3 (a4 al (by omega) (by omega))
  · rcases p2 with ⟨a1, _⟩ | ⟨_, a2, _, _⟩ <;> omega
def AscS (s : ByteArray) : Prop := ∀ j, 0 ≤ j → j < (s.size : Int) → bt s j < 128
theorem ref_prefix (s : ByteArray) (hs : 2 * s.size ≤ bigN) (ha : AscS s) (al : Int) (h0 : 0 ≤ al) (h1 : al ≤ (s.size : Int)) : ∀ (m : Nat) (i : Nat) (k : Nat), al - i ≤ (m : Int) → m < k → (i : Int) ≤ al →
    ref14_Decode.l4 k s al ((bytesI s).take i) (i : Int) = ref14_Decode.j2 s ((bytesI s).take al.toNat) (if 0 < al then IntKind.i64.wrap (al + 1) else al) := by
  have hb := hs
  unfold bigN at hb
  intro m
  induction m with
  | zero =>
    intro i k a b c
    obtain ⟨k, rfl⟩ : ∃ q, k = q + 1 := ⟨k - 1, by omega⟩
    simp only [ref14_Decode.l4]
    have e : al.toNat = i := by omega
    rw [if_neg (by omega), e]
    split <;> rfl
  | succ m ih =>
    intro i k a b c
    obtain ⟨k, rfl⟩ : ∃ q, k = q + 1 := ⟨k - 1, by omega⟩
    simp only [ref14_Decode.l4]
    by_cases d : (i : Int) < al
    · have hi := ha i (by omega) (by omega)
      obtain ⟨r1, r2⟩ := bt_range s i (by omega) (by omega)
      have wv : IntKind.i32.wrap (bt s i) = bt s i := w32 (by omega) (by omega)
      have hl : i < (bytesI s).length := by rw [bytesI_length]; omega
      rw [if_pos d, if_pos ⟨by omega, by omega⟩, if_neg (by omega), wv, if_pos (by unfold most; simp; omega), w64 (by omega) (by omega)]
      have e : (bytesI s).take i ++ [bt s i] = (bytesI s).take (i + 1) := by
        rw [List.take_add_one, List.getElem?_eq_getElem hl, bt_rd]
        unfold rd
        simp [List.getD_eq_getElem?_getD, hl]
      rw [e]
      have := ih (i + 1) k (by omega) (by omega) (by omega)
      rw [show ((i + 1 : Nat) : Int) = (i : Int) + 1 by omega] at this
      exact this
    · have e : al.toNat = i := by omega
      rw [if_neg d, e]
      split <;> rfl
theorem dec_rune {xs : List Int} {x : Int} {t : List Int} (e : xs = x :: t) (h0 : 0 ≤ x) (h1 : x < 128) : unicode_utf8_DecodeRune.f xs = some (x, 1) := by
  subst e
  obtain ⟨k, hk⟩ : ∃ k, K0 = k + 1 := ⟨1180591620717411303423, rfl⟩
  rw [unicode_utf8_DecodeRune.f, hk]
  simp only [unicode_utf8_DecodeRune.l1]
  rw [if_pos (by simp <;> omega), if_pos ⟨by omega, by simp <;> omega⟩, show rd (x :: t) 0 = x from rfl, if_pos h1, w32 (by omega) (by omega)]
theorem bidx_none (xs : List Int) (hx : xs.length ≤ bigN) (ha : ∀ x ∈ xs, 0 ≤ x ∧ x < 128) : bytes_IndexFunc_mjo.f xs 36 1 26 38 700 72 128 45 = some (-1) := by
  rw [bytes_IndexFunc_mjo.f, bytes_indexFunc_maj.f]
  have key := loop_ind (fun k i (_ : Unit) => bytes_indexFunc_maj.l1 k 36 1 26 38 700 72 128 45 xs true i) xs (fun _ _ _ o => o = some (-1)) (fun _ k => ?_) (fun pre x t _ k e ih => ?_) () K0 (ltK hx)
  · rw [key]; rfl
  · simp only [bytes_indexFunc_maj.l1, if_neg (show ¬ (xs.length : Int) < (xs.length : Int) by omega)]
  · obtain ⟨m1, m2⟩ := mid e
    obtain ⟨h0, h1⟩ := ha x (by rw [e]; simp)
    have hs : sub xs (pre.length : Int) (xs.length : Int) = x :: t := sub_suf e
    have hbas : puny_boot_decode_1_hme.f x 36 1 26 38 700 72 128 45 = some false := by
      rw [puny_boot_decode_1_hme.f, puny_boot_basic.f, w64 (by omega) (by omega), if_pos h1, puny_boot_basic.j1, decide_eq_true h1]; rfl
    simp only [bytes_indexFunc_maj.l1, if_pos m2.2, if_pos (show (0 : Int) ≤ (pre.length : Int) ∧ (pre.length : Int) ≤ (xs.length : Int) ∧ (xs.length : Int) ≤ (xs.length : Int) from ⟨by omega, by omega, by omega⟩), hs, dec_rune rfl h0 h1, Option.bind_some, hbas, nxt hx e]
    rw [if_neg (by decide)]
    exact ih ()
theorem dec_ascii (s : ByteArray) (i : Nat) (h : i < s.size) (ha : bt s (i : Int) < 128) : Utf8.decode s i = ((bt s (i : Int)).toNat, 1) := by
  have e : (s.get! i).toNat = (bt s (i : Int)).toNat := by
    have e1 : ((i : Nat) : Int).toNat = i := by omega
    have hd : i < s.data.size := h
    unfold bt
    rw [e1]
    cases s with
    | mk d => simp [ByteArray.get!, Array.getD_eq_getD_getElem?, show i < d.size from hd]
  have hlt : (s.get! i).toNat < 128 := by rw [e]; omega
  unfold Utf8.decode
  simp only [Nat.add_zero]
  rw [if_pos hlt, e]
theorem runes_from (s : ByteArray) (ha : AscS s) : ∀ (b i : Nat) (acc : Array Value), s.size ≤ b + i → (Conv.runesFrom s b i acc).toList = acc.toList ++ ((bytesI s).drop i).map (Value.int .i32)
  | 0, i, acc, h => by
    rw [Conv.runesFrom, List.drop_of_length_le (by rw [bytesI_length]; omega)]; simp
  | b + 1, i, acc, h => by
    unfold Conv.runesFrom
    by_cases c : i < s.size
    · have hi := ha i (by omega) (by omega)
      obtain ⟨r1, r2⟩ := bt_range s i (by omega) (by omega)
      have hl : i < (bytesI s).length := by rw [bytesI_length]; exact c
      rw [if_pos c, dec_ascii s i c hi]
      simp only
      rw [runes_from s ha b (i + 1) _ (by omega), List.drop_eq_getElem_cons hl]
      have e : (bytesI s)[i] = bt s (i : Int) := by
        rw [bt_rd]
        unfold rd
        simp [List.getD_eq_getElem?_getD, hl]
      rw [e, Array.toList_push, List.map_cons, List.append_assoc]
      have e2 : (Int.ofNat (bt s (i : Int)).toNat) = bt s (i : Int) := by
        show (((bt s (i : Int)).toNat : Nat) : Int) = _
        omega
      rw [e2]; rfl
    · rw [if_neg c, List.drop_of_length_le (by rw [bytesI_length]; omega)]; simp
theorem runesL_ascii (s : ByteArray) (ha : AscS s) : runesL s = bytesI s := by
  have h := runesL_eq s
  rw [runes_from s ha s.size 0 #[] (by omega)] at h
  simp only [List.nil_append, List.drop_zero] at h
  have hinj : ∀ (a b : List Int), a.map (Value.int .i32) = b.map (Value.int .i32) → a = b := by
    intro a
    induction a with
    | nil => intro b h; cases b with | nil => rfl | cons _ _ => simp at h
    | cons x a ih =>
      intro b h
      cases b with
      | nil => simp at h
      | cons y b => simp at h; rw [h.1, ih b (by simpa using h.2)]
  exact (hinj _ _ h).symm
theorem bytesI_cut (s : ByteArray) (n : Nat) : bytesI (s.extract 0 n) = (bytesI s).take n := by
  simp [bytesI, ByteArray.extract, ByteArray.copySlice, List.map_take]
theorem dec_eq (s : ByteArray) (hs : 2 * s.size ≤ bigN) (ha : AscS s) : ∃ l a e, puny_boot_decode.f pU s = some (l, a, e) ∧ ref14_Decode.f s = some (l, a, e) ∧ (l.length : Int) ≤ (s.size : Int) + 1 := by
  have hb := hs
  unfold bigN at hb
  have hK : (K0 : Int) = 1180591620717411303424 := rfl
  obtain ⟨r, al, p1, p2, p3, p4⟩ := last_both s (by unfold bigN; omega)
  by_cases c : 0 < r
  · rw [if_pos c] at p3
    subst p3
    have hpre := ref_prefix s hs ha al (by omega) (by omega) s.size 0 K0 (by omega) (by omega) (by omega)
    rw [if_pos c, w64 (by omega) (by omega)] at hpre
    have hlen : ((bytesI s).take al.toNat).length = al.toNat := by rw [List.length_take, bytesI_length]; omega
    obtain ⟨l, a, e, q1, q2, q3⟩ := read_eq s hs (s.size + 1) ((bytesI s).take al.toNat) (al + 1) 128 0 72 K0 (by omega) (by omega) (by omega) (by rw [hlen]; omega) (by omega) (by omega) (by omega) (by omega) (by omega)
    refine ⟨l, a, e, ?_, ?_, q3⟩
    · have hx : ∀ x ∈ bytesI (s.extract 0 al.toNat), 0 ≤ x ∧ x < 128 := by
        intro x hx
        rw [bytesI_cut] at hx
        obtain ⟨j, hj0, hj2⟩ := List.getElem_of_mem (List.mem_of_mem_take hx)
        have hj : j < s.size := by rw [← bytesI_length]; exact hj0
        have h1 := ha j (by omega) (by omega)
        obtain ⟨h2, _⟩ := bt_range s j (by omega) (by omega)
        have e1 : bt s (j : Int) = x := by
          rw [bt_rd, ← hj2]
          unfold rd
          simp [List.getD_eq_getElem?_getD, hj0]
        rw [e1] at h1 h2
        exact ⟨h2, h1⟩
      have hsz : (s.extract 0 al.toNat).size = al.toNat := by rw [← bytesI_length, bytesI_cut, hlen]
      have hasc : AscS (s.extract 0 al.toNat) := fun j j0 j1 => by
        rw [bt_rd]
        exact (hx _ (rd_mem j0 (by rw [bytesI_length]; exact j1))).2
      have z : ((0 : Int)).toNat = 0 := rfl
      simp only [puny_boot_decode.f, p1, Option.bind_some, if_pos c, z]
      rw [if_pos ⟨by omega, by omega, by omega⟩, bidx_none _ (by rw [bytesI_length, hsz]; unfold bigN; omega) hx, Option.bind_some, if_neg (by omega), runesL_ascii _ hasc, bytesI_cut, if_pos (by rw [hlen]; unfold most; omega), puny_boot_decode.j1, w64 (by omega) (by omega)]
      exact q1
    · rw [p2]
      exact hpre.trans q2
  · rw [if_neg c] at p3
    subst p3
    have hpre := ref_prefix s hs ha 0 (by omega) (by omega) s.size 0 K0 (by omega) (by omega) (by omega)
    rw [if_neg (by omega)] at hpre
    obtain ⟨l, a, e, q1, q2, q3⟩ := read_eq s hs (s.size + 1) [] 0 128 0 72 K0 (by omega) (by omega) (by omega) (by simp) (by omega) (by omega) (by omega) (by omega) (by simp)
    refine ⟨l, a, e, ?_, ?_, q3⟩
    · simp only [puny_boot_decode.f, p1, Option.bind_some, if_neg c, puny_boot_decode.j1]
      exact q1
    · rw [p2]
      exact hpre.trans q2
end Go.Proofs.YthoicbafdanmkaaGreatDoor
/- Plain laws: Punycode is written alike by the program and by the document: the digits of a number. Own work of this repo. -/
namespace Go.Proofs.YthoicbafdanmkaaGreatDoor
open Go.RowKit

def dig (d : Int) : Int := if d < 26 then 97 + d else 22 + d
def thrI (k b : Int) : Int := (ref14_threshold.f k b).getD 0
theorem thrI_eq (k b : Int) : ref14_threshold.f k b = some (thrI k b) ∧ 1 ≤ thrI k b ∧ thrI k b ≤ 26 := by
  obtain ⟨t, h1, h2, h3⟩ := thr_val k b
  rw [thrI, h1]; exact ⟨rfl, h2, h3⟩
theorem dig_eq {d : Int} (h0 : 0 ≤ d) (h1 : d < 36) : ref14_Letter.f d = some (dig d) ∧ 0 ≤ dig d ∧ dig d < 128 := by
  unfold ref14_Letter.f dig
  by_cases c : d < 26
  · rw [if_pos c, if_pos c, w64 (by omega) (by omega), u8_small (by omega) (by omega)]
    exact ⟨rfl, by omega, by omega⟩
  · rw [if_neg c, if_neg c, w64 (x := 48 + d) (by omega) (by omega), w64 (by omega) (by omega), u8_small (by omega) (by omega)]
    exact ⟨by congr 1; omega, by omega, by omega⟩
def digs : Nat → Int → Int → Int → List Int
  | 0, q, _, _ => [dig q]
  | f + 1, q, k, b => if q < thrI k b then [dig q] else dig (thrI k b + (q - thrI k b) % (36 - thrI k b)) :: digs f ((q - thrI k b) / (36 - thrI k b)) (k + 36) b
theorem digits_eq (a5 : List Int → Int → Int → Int → Int → Option (ByteArray × Int × Int)) (aa : List Int) (bias af ac ap : Int) : ∀ (L : Nat) (q kk : Int) (acc an : List Int) (k : Nat), L < k → 0 ≤ q → q < 10 ^ L → q ≤ 2147483647 → 0 ≤ kk → kk + 36 * L ≤ 4294967296 → acc.length + L + 1 ≤ most → an.length + L + 1 ≤ most →
    ((digs L q kk bias).length ≤ L + 1 ∧ ∀ c ∈ digs L q kk bias, 0 ≤ c ∧ c < 128) ∧ puny_boot_written.l1 k pU bias acc q kk = some (acc ++ digs L q kk bias) ∧ ref14_Encode.l1 a5 k aa bias af ac ap an q kk = ((ref14_Adapt.f ap (IntKind.i64.wrap (af + 1)) (decide (af = (aa.length : Int)))).bind fun b6 => (ref14_Encode.j4 a5 ac (an ++ digs L q kk bias) 0 b6 (IntKind.i64.wrap (af + 1)))) := by
  intro L
  induction L with
  | zero =>
    intro q kk acc an k h1 h2 h3 h4 h5 h6 h7 h8
    obtain ⟨k, rfl⟩ : ∃ j, k = j + 1 := ⟨k - 1, by omega⟩
    obtain ⟨t1, t2, t3⟩ := thrI_eq kk bias
    have hq : q < thrI kk bias := by simp at h3; omega
    obtain ⟨hc, c1, c2⟩ := dig_eq (d := q) h2 (by omega)
    refine ⟨⟨by simp [digs], fun c hm => ?_⟩, ?_, ?_⟩
    · simp only [digs, List.mem_singleton] at hm; subst hm; exact ⟨c1, c2⟩
    · simp only [puny_boot_written.l1, thr_eq, t1, Option.bind_some, if_pos hq, letter_eq, hc, digs]
      rw [if_pos (by simp; omega)]
    · simp only [ref14_Encode.l1, t1, Option.bind_some, if_pos hq, hc, digs]
      rw [if_pos (by simp; omega)]
  | succ L ih =>
    intro q kk acc an k h1 h2 h3 h4 h5 h6 h7 h8
    obtain ⟨k, rfl⟩ : ∃ j, k = j + 1 := ⟨k - 1, by omega⟩
    obtain ⟨t1, t2, t3⟩ := thrI_eq kk bias
    by_cases hq : q < thrI kk bias
    · obtain ⟨hc, c1, c2⟩ := dig_eq (d := q) h2 (by omega)
      have ed : digs (L + 1) q kk bias = [dig q] := by rw [digs, if_pos hq]
      rw [ed]
      refine ⟨⟨by simp, fun c hm => ?_⟩, ?_, ?_⟩
      · simp only [List.mem_singleton] at hm; subst hm; exact ⟨c1, c2⟩
      · simp only [puny_boot_written.l1, thr_eq, t1, Option.bind_some, if_pos hq, letter_eq, hc]
        rw [if_pos (by simp; omega)]
      · simp only [ref14_Encode.l1, t1, Option.bind_some, if_pos hq, hc]
        rw [if_pos (by simp; omega)]
    · have ed : digs (L + 1) q kk bias = dig (thrI kk bias + (q - thrI kk bias) % (36 - thrI kk bias)) :: digs L ((q - thrI kk bias) / (36 - thrI kk bias)) (kk + 36) bias := by rw [digs, if_neg hq]
      rw [ed]
      revert hq t1 t2 t3
      generalize thrI kk bias = t
      intro t1 t2 t3 hq
      have w1 : IntKind.i64.wrap (36 - t) = 36 - t := w64 (by omega) (by omega)
      have w2 : IntKind.i64.wrap (q - t) = q - t := w64 (by omega) (by omega)
      have e1 : (q - t).tdiv (36 - t) = (q - t) / (36 - t) := Int.tdiv_eq_ediv_of_nonneg (by omega)
      have e2 : (q - t).tmod (36 - t) = (q - t) % (36 - t) := Int.tmod_eq_emod_of_nonneg (by omega)
      have m0 : 0 ≤ (q - t) % (36 - t) := Int.emod_nonneg _ (by omega)
      have m1 : (q - t) % (36 - t) < 36 - t := Int.emod_lt_of_pos _ (by omega)
      have d0 : 0 ≤ (q - t) / (36 - t) := Int.ediv_nonneg (by omega) (by omega)
      have d1 : (q - t) / (36 - t) ≤ q - t := Int.ediv_le_self _ (by omega)
      have d2 : (q - t) / (36 - t) < 10 ^ L := by
        apply Int.ediv_lt_of_lt_mul (by omega)
        have p0 : (0 : Int) < 10 ^ L := Int.pow_pos (by omega)
        have p1 : (10 : Int) ^ (L + 1) = 10 ^ L * 10 := Int.pow_succ 10 L
        have p2 : (10 : Int) ^ L * 10 ≤ 10 ^ L * (36 - t) := Int.mul_le_mul_of_nonneg_left (by omega) (by omega)
        omega
      have w3 : IntKind.i64.wrap ((q - t) / (36 - t)) = (q - t) / (36 - t) := w64 (by omega) (by omega)
      have w4 : IntKind.i64.wrap (kk + 36) = kk + 36 := w64 (by omega) (by omega)
      have w5 : IntKind.i64.wrap (t + (q - t) % (36 - t)) = t + (q - t) % (36 - t) := w64 (by omega) (by omega)
      obtain ⟨hc, c1, c2⟩ := dig_eq (d := t + (q - t) % (36 - t)) (by omega) (by omega)
      obtain ⟨⟨i0, i1⟩, i2, i3⟩ := ih ((q - t) / (36 - t)) (kk + 36) (acc ++ [dig (t + (q - t) % (36 - t))]) (an ++ [dig (t + (q - t) % (36 - t))]) k (by omega) d0 d2 (by omega) (by omega) (by omega) (by simp; omega) (by simp; omega)
      refine ⟨⟨by simp; omega, fun c hm => ?_⟩, ?_, ?_⟩
      · rcases List.mem_cons.1 hm with rfl | hm
        · exact ⟨c1, c2⟩
        · exact i1 c hm
      · simp only [puny_boot_written.l1, thr_eq, t1, Option.bind_some, if_neg hq, w1, w2, e2, w5, letter_eq, hc, e1, w3, w4]
        rw [if_pos (by omega), if_pos (by simp; omega), i2]
        simp
      · simp only [ref14_Encode.l1, t1, Option.bind_some, if_neg hq, w1, w2, e2, w5, hc, e1, w3, w4]
        rw [if_pos (by omega), if_pos (by simp; omega), i3]
        simp
def scB (p : Int) : Bool := (ref14_scalar.f p).getD false
theorem scB_eq (p : Int) : ref14_scalar.f p = some (scB p) := by
  obtain ⟨b, hb⟩ := scal_val p
  rw [scB, hb]; rfl
theorem him_none (l : List Int) (hl : l.length ≤ bigN) (hr : ∀ x ∈ l, -2147483648 ≤ x ∧ x ≤ 2147483647) : slices_IndexFunc_rune_rune_him.f l 36 1 26 38 700 72 128 45 = some (-1) := by
  rw [slices_IndexFunc_rune_rune_him.f]
  have key := fIx_loop (fun k i => slices_IndexFunc_rune_rune_him.l1 k 36 1 26 38 700 72 128 45 l i) l (fun _ => false) hl (fun k => ?_) (fun k pre x t e => ?_)
  · rw [key]
    have : ∀ (m : List Int) (n : Nat), fIx (fun _ => false) m n = -1 := by
      intro m
      induction m with
      | nil => intro n; rfl
      | cons y m ih => intro n; rw [fIx, if_neg (by decide), ih]
    rw [this]
  · simp only [slices_IndexFunc_rune_rune_him.l1, if_neg (show ¬ (l.length : Int) < (l.length : Int) by omega)]
  · obtain ⟨m1, m2⟩ := mid e
    obtain ⟨x0, x1⟩ := hr x (by rw [e]; simp)
    have hx : puny_boot_check_1_hme.f x 36 1 26 38 700 72 128 45 = some false := by
      simp only [puny_boot_check_1_hme.f, puny_boot_check_1_hme.j1, puny_boot_basic.f, puny_boot_basic.j1, w64 (x := x) (by omega) (by omega)]
      by_cases c : x < 128 <;> simp [c]
    simp only [slices_IndexFunc_rune_rune_him.l1, if_pos m2.2, if_pos m2, m1, hx, Option.bind_some, nxt hl e]
theorem pcheck_eq (l : List Int) (hl : l.length ≤ bigN) (hr : ∀ x ∈ l, -2147483648 ≤ x ∧ x ≤ 2147483647) : puny_boot_check.f pU l = some (if fIx (fun p => !scB p) l 0 = -1 then (0, 0) else (fIx (fun p => !scB p) l 0, 20)) := by
  rw [puny_boot_check.f]
  refine loop_ind (fun k i (_ : Unit) => puny_boot_check.l1 k pU l i) l (fun pre t _ o => o = some (if fIx (fun p => !scB p) t pre.length = -1 then (0, 0) else (fIx (fun p => !scB p) t pre.length, 20))) (fun _ k => ?_) (fun pre x t _ k e ih => ?_) () K0 (ltK hl)
  · simp only [puny_boot_check.l1, if_neg (show ¬ (l.length : Int) < (l.length : Int) by omega), him_none l hl hr, Option.bind_some, fIx]
    rfl
  · obtain ⟨m1, m2⟩ := mid e
    have h2 := ih ()
    simp only [List.length_append, List.length_cons, List.length_nil, Nat.zero_add] at h2
    simp only [puny_boot_check.l1, if_pos m2.2, if_pos m2, m1, scal_eq, scB_eq, Option.bind_some, nxt hl e]
    by_cases c : (!scB x) = true
    · have ef : fIx (fun p => !scB p) (x :: t) pre.length = (pre.length : Int) := by rw [fIx, if_pos c]
      rw [if_pos c, ef, if_neg (by omega)]
    · have ef : fIx (fun p => !scB p) (x :: t) pre.length = fIx (fun p => !scB p) t (pre.length + 1) := by rw [fIx, if_neg c]
      rw [if_neg c, h2, ef]
def minG (n m r : Int) : Int := if n ≤ r then min m r else m
theorem next_eq (l : List Int) (n : Int) (hl : l.length ≤ bigN) (hr : ∀ x ∈ l, -2147483648 ≤ x ∧ x ≤ 2147483647) : puny_next.f l n = some (l.foldl (minG n) 1114111) := by
  rw [puny_next.f]
  refine loop_ind (fun k i s => puny_next.l1 k l n s i) l (fun _ t s o => o = some (t.foldl (minG n) s)) (fun s k => ?_) (fun pre x t s k e ih => ?_) 1114111 K0 (ltK hl)
  · simp only [puny_next.l1, if_neg (show ¬ (l.length : Int) < (l.length : Int) by omega)]; rfl
  · obtain ⟨m1, m2⟩ := mid e
    obtain ⟨x0, x1⟩ := hr x (by rw [e]; simp)
    simp only [puny_next.l1, if_pos m2.2, if_pos m2, m1, w64 (x := x) (by omega) (by omega), puny_next.j1, nxt hl e, List.foldl_cons]
    by_cases c : n ≤ x
    · rw [if_pos c, ih, minG, if_pos c]
    · rw [if_neg c, ih, minG, if_neg c]
theorem min_fold (n : Int) : ∀ (l : List Int) (a : Int), (l.foldl (minG n) a ≤ a) ∧ (∀ x ∈ l, n ≤ x → l.foldl (minG n) a ≤ x) ∧ (l.foldl (minG n) a = a ∨ ∃ x ∈ l, n ≤ x ∧ l.foldl (minG n) a = x)
  | [], a => ⟨Int.le_refl _, (fun _ h => by cases h), .inl rfl⟩
  | y :: l, a => by
    obtain ⟨h1, h2, h3⟩ := min_fold n l (minG n a y)
    have g : minG n a y ≤ a ∧ (n ≤ y → minG n a y ≤ y) ∧ (minG n a y = a ∨ (n ≤ y ∧ minG n a y = y)) := by
      unfold minG
      split <;> omega
    rw [List.foldl_cons]
    refine ⟨by omega, fun x hx hn => ?_, ?_⟩
    · rcases List.mem_cons.1 hx with rfl | hx
      · have := g.2.1 hn; omega
      · exact h2 x hx hn
    · rcases h3 with h3 | ⟨x, hx, hn, h3⟩
      · rcases g.2.2 with h4 | ⟨h4, h5⟩
        · exact .inl (by omega)
        · exact .inr ⟨y, by simp, h4, by omega⟩
      · exact .inr ⟨x, by simp [hx], hn, h3⟩
theorem ref_next (a6 : List Int → Int → Int → Int → Int → Option (ByteArray × Int × Int)) (l aa ad : List Int) (ao ak al ah : Int) (hl : l.length ≤ bigN) (hr : ∀ x ∈ l, -2147483648 ≤ x ∧ x ≤ 2147483647) :
    ref14_Encode.l3 a6 K0 l aa ad ao ak al ah 1114112 0 = (if 2147483647 < (IntKind.i64.wrap (ak + (IntKind.i64.wrap ((IntKind.i64.wrap ((l.foldl (minG ao) 1114112) - ao)) * (IntKind.i64.wrap (ah + 1)))))) then (some ((⟨#[]⟩ : ByteArray), 0, 142)) else (ref14_Encode.l2 a6 K0 l aa (l.foldl (minG ao) 1114112) ad (IntKind.i64.wrap (ak + (IntKind.i64.wrap ((IntKind.i64.wrap ((l.foldl (minG ao) 1114112) - ao)) * (IntKind.i64.wrap (ah + 1)))))) al ah 0)) := by
  refine loop_ind (fun k i s => ref14_Encode.l3 a6 k l aa ad ao ak al ah s i) l (fun _ t s o => o = (if 2147483647 < (IntKind.i64.wrap (ak + (IntKind.i64.wrap ((IntKind.i64.wrap ((t.foldl (minG ao) s) - ao)) * (IntKind.i64.wrap (ah + 1)))))) then (some ((⟨#[]⟩ : ByteArray), 0, 142)) else (ref14_Encode.l2 a6 K0 l aa (t.foldl (minG ao) s) ad (IntKind.i64.wrap (ak + (IntKind.i64.wrap ((IntKind.i64.wrap ((t.foldl (minG ao) s) - ao)) * (IntKind.i64.wrap (ah + 1)))))) al ah 0))) (fun s k => ?_) (fun pre x t s k e ih => ?_) 1114112 K0 (ltK hl)
  · simp only [ref14_Encode.l3, if_neg (show ¬ (l.length : Int) < (l.length : Int) by omega), List.foldl_nil]; rfl
  · obtain ⟨m1, m2⟩ := mid e
    obtain ⟨x0, x1⟩ := hr x (by rw [e]; simp)
    have wx : IntKind.i64.wrap x = x := w64 (by omega) (by omega)
    have g : (if ao ≤ x then ref14_Encode.j3 (ref14_Encode.l3 a6 k l aa ad ao ak al ah) l s (pre.length : Int) (decide (x < s)) else ref14_Encode.j3 (ref14_Encode.l3 a6 k l aa ad ao ak al ah) l s (pre.length : Int) false) = ref14_Encode.l3 a6 k l aa ad ao ak al ah (minG ao s x) ((pre.length : Int) + 1) := by
      simp only [ref14_Encode.j3, ref14_Encode.j2, m1, wx, nxt hl e, minG]
      by_cases c : ao ≤ x
      · rw [if_pos c, if_pos c]
        by_cases d : x < s
        · rw [decide_eq_true d, if_pos rfl, show min s x = x by omega]
        · rw [decide_eq_false d, if_neg (by decide), show min s x = s by omega]
      · rw [if_neg c, if_neg c, if_neg (by decide)]
    simp only [ref14_Encode.l3, if_pos m2.2, if_pos m2, m1, wx]
    rw [g, List.foldl_cons]
    exact ih _
end Go.Proofs.YthoicbafdanmkaaGreatDoor
/- Plain laws: Punycode is written alike by the program and by the document. Own work of this repo. -/
namespace Go.Proofs.YthoicbafdanmkaaGreatDoor
open Go.RowKit

abbrev SE := List Int × Int × Int × Int
def adI (d p : Int) (f : Bool) : Int := (ref14_Adapt.f d p f).getD 0
theorem adI_eq (d p : Int) (f : Bool) (h0 : 0 ≤ d) (h1 : d ≤ 2147483648) (hp : 1 ≤ p) : ref14_Adapt.f d p f = some (adI d p f) := by
  obtain ⟨r, hr⟩ := adapt_val d p f h0 h1 hp
  rw [adI, hr]; rfl
def stepE (b0 m : Int) (s : SE) (x : Int) : Option SE :=
  if x < m then (if 2147483647 < s.2.1 + 1 then none else some (s.1, s.2.1 + 1, s.2.2.1, s.2.2.2))
  else if x = m then some (s.1 ++ digs 10 s.2.1 36 s.2.2.1, 0, adI s.2.1 (s.2.2.2 + 1) (decide (s.2.2.2 = b0)), s.2.2.2 + 1) else some s
def passE (b0 m : Int) : List Int → SE → Option SE
  | [], s => some s
  | x :: t, s => (stepE b0 m s x).bind (passE b0 m t)
structure OkE (H : Int) (s : SE) : Prop where
  d0 : 0 ≤ s.2.1
  d1 : s.2.1 ≤ 2147483647
  h0 : 0 ≤ s.2.2.2
  h1 : s.2.2.2 ≤ H
  len : (s.1.length : Int) ≤ 12 * s.2.2.2 + 1
  asc : ∀ c ∈ s.1, 0 ≤ c ∧ c < 128
def errE : Option (ByteArray × Int × Int) := some ((⟨#[]⟩ : ByteArray), 0, 142)
theorem digs_ok (q b : Int) (h0 : 0 ≤ q) (h1 : q ≤ 2147483647) : (digs 10 q 36 b).length ≤ 11 ∧ ∀ c ∈ digs 10 q 36 b, 0 ≤ c ∧ c < 128 :=
  (digits_eq (fun _ _ _ _ _ => none) [] b 0 0 0 10 q 36 [] [] 11 (by omega) h0 (by omega) h1 (by omega) (by omega) (by unfold most; simp) (by unfold most; simp)).1
theorem stepE_ok {b0 m H : Int} {s s' : SE} {x : Int} (hs : OkE H s) (e : stepE b0 m s x = some s') : OkE (H + 1) s' ∧ s'.2.2.2 = s.2.2.2 + (if x = m then 1 else 0) := by
  obtain ⟨d0, d1, h0, h1, len, asc⟩ := hs
  unfold stepE at e
  by_cases c : x < m
  · rw [if_pos c] at e
    by_cases c2 : 2147483647 < s.2.1 + 1
    · rw [if_pos c2] at e; cases e
    · rw [if_neg c2] at e
      obtain rfl := Option.some.inj e
      refine ⟨⟨by simp only; omega, by simp only; omega, h0, by simp only; omega, len, asc⟩, ?_⟩
      rw [if_neg (by omega)]; simp
  · rw [if_neg c] at e
    by_cases c2 : x = m
    · rw [if_pos c2] at e
      obtain rfl := Option.some.inj e
      obtain ⟨g1, g2⟩ := digs_ok s.2.1 s.2.2.1 d0 d1
      refine ⟨⟨Int.le_refl 0, by simp only; omega, by simp only; omega, by simp only; omega, ?_, fun c hc => ?_⟩, by rw [if_pos c2]⟩
      · simp only [List.length_append]; omega
      · rcases List.mem_append.1 hc with hc | hc
        · exact asc c hc
        · exact g2 c hc
    · rw [if_neg c2] at e
      obtain rfl := Option.some.inj e
      exact ⟨⟨d0, d1, h0, by omega, len, asc⟩, by rw [if_neg c2]; simp⟩
theorem prog_step (bi : List Int → Int → Int → Int → Int → Option (ByteArray × Int × Int)) (L aa : List Int) (m : Int) (k : Nat) {pre t : List Int} {x : Int} (e : L = pre ++ x :: t) (hl : L.length ≤ bigN) (hr : -2147483648 ≤ x ∧ x ≤ 2147483647) {H : Int} (s : SE) (hs : OkE H s) (hH : H ≤ 4194304) :
    puny_boot_encode.l1 bi (k + 1) pU L aa m s.1 s.2.1 s.2.2.1 s.2.2.2 (pre.length : Int) = match stepE (aa.length : Int) m s x with | none => errE | some s' => puny_boot_encode.l1 bi k pU L aa m s'.1 s'.2.1 s'.2.2.1 s'.2.2.2 ((pre.length : Int) + 1) := by
  obtain ⟨d0, d1, h0, h1, len, asc⟩ := hs
  obtain ⟨m1, m2⟩ := mid e
  have wx : IntKind.i64.wrap x = x := w64 (by omega) (by omega)
  have wd : IntKind.i64.wrap (s.2.1 + 1) = s.2.1 + 1 := w64 (by omega) (by omega)
  have wh : IntKind.i64.wrap (s.2.2.2 + 1) = s.2.2.2 + 1 := w64 (by omega) (by omega)
  simp only [puny_boot_encode.l1, if_pos m2.2, if_pos m2, m1, wx, wd, puny_boot_encode.j3, nxt hl e, stepE]
  by_cases c : x < m
  · rw [if_pos c, if_pos c]
    by_cases c2 : 2147483647 < s.2.1 + 1
    · rw [if_pos c2, if_pos c2]; rfl
    · rw [if_neg c2, if_neg c2]
  · rw [if_neg c, if_neg c]
    by_cases c2 : x = m
    · obtain ⟨_, g2, _⟩ := digits_eq (fun _ _ _ _ _ => none) [] s.2.2.1 0 0 0 10 s.2.1 36 [] [] K0 (by unfold K0; omega) d0 (by omega) d1 (by omega) (by omega) (by unfold most; simp) (by unfold most; simp)
      obtain ⟨g3, _⟩ := digs_ok s.2.1 s.2.2.1 d0 d1
      rw [if_pos c2, if_pos c2, puny_boot_written.f, g2, List.nil_append, Option.bind_some, if_pos (by unfold most; omega), wh, adapt_eq, adI_eq _ _ _ d0 (by omega) (by omega), Option.bind_some, if_neg (by decide)]
    · rw [if_neg c2, if_neg c2, if_neg (by omega)]
theorem ref_step (a6 : List Int → Int → Int → Int → Int → Option (ByteArray × Int × Int)) (L aa : List Int) (m : Int) (k : Nat) {pre t : List Int} {x : Int} (e : L = pre ++ x :: t) (hl : L.length ≤ bigN) (hr : -2147483648 ≤ x ∧ x ≤ 2147483647) {H : Int} (s : SE) (hs : OkE H s) (hH : H ≤ 4194304) :
    ref14_Encode.l2 a6 (k + 1) L aa m s.1 s.2.1 s.2.2.1 s.2.2.2 (pre.length : Int) = match stepE (aa.length : Int) m s x with | none => errE | some s' => ref14_Encode.l2 a6 k L aa m s'.1 s'.2.1 s'.2.2.1 s'.2.2.2 ((pre.length : Int) + 1) := by
  obtain ⟨d0, d1, h0, h1, len, asc⟩ := hs
  obtain ⟨m1, m2⟩ := mid e
  have wx : IntKind.i64.wrap x = x := w64 (by omega) (by omega)
  have wd : IntKind.i64.wrap (s.2.1 + 1) = s.2.1 + 1 := w64 (by omega) (by omega)
  have wh : IntKind.i64.wrap (s.2.2.2 + 1) = s.2.2.2 + 1 := w64 (by omega) (by omega)
  simp only [ref14_Encode.l2, if_pos m2.2, if_pos m2, m1, wx, wd, ref14_Encode.j5, stepE]
  by_cases c : x < m
  · rw [if_pos c, if_pos c]
    by_cases c2 : 2147483647 < s.2.1 + 1
    · rw [if_pos c2, if_pos c2]; rfl
    · rw [if_neg c2, if_neg c2, if_pos (by omega)]
      simp only [ref14_Encode.j4, nxt hl e]
  · rw [if_neg c, if_neg c]
    by_cases c2 : x = m
    · obtain ⟨_, _, g2⟩ := digits_eq (ref14_Encode.l2 a6 k L aa m) aa s.2.2.1 s.2.2.2 (pre.length : Int) s.2.1 10 s.2.1 36 [] s.1 K0 (by unfold K0; omega) d0 (by omega) d1 (by omega) (by omega) (by unfold most; simp) (by unfold most; omega)
      rw [if_neg (by omega), if_pos c2, g2, wh, adI_eq _ _ _ d0 (by omega) (by omega), Option.bind_some]
      simp only [ref14_Encode.j4, nxt hl e]
    · rw [if_pos (by omega), if_neg c2]
      simp only [ref14_Encode.j4, nxt hl e]
def endP (bi : List Int → Int → Int → Int → Int → Option (ByteArray × Int × Int)) (n m : Int) : Option SE → Option (ByteArray × Int × Int)
  | none => errE
  | some s => (if s.2.2.2 = n then puny_boot_encode.j2 pU s.1 else if 2147483647 < s.2.1 + 1 then errE else bi s.1 (IntKind.i64.wrap (m + 1)) (s.2.1 + 1) s.2.2.1 s.2.2.2)
def endR (a6 : List Int → Int → Int → Int → Int → Option (ByteArray × Int × Int)) (m : Int) : Option SE → Option (ByteArray × Int × Int)
  | none => errE
  | some s => a6 s.1 (IntKind.i64.wrap (m + 1)) (s.2.1 + 1) s.2.2.1 s.2.2.2
theorem prog_pass (bi : List Int → Int → Int → Int → Int → Option (ByteArray × Int × Int)) (L aa : List Int) (m : Int) (hl : 2 * L.length ≤ 4194304) (hr : ∀ x ∈ L, -2147483648 ≤ x ∧ x ≤ 2147483647) (s : SE) (hs : OkE (L.length : Int) s) :
    puny_boot_encode.l1 bi K0 pU L aa m s.1 s.2.1 s.2.2.1 s.2.2.2 0 = endP bi (L.length : Int) m (passE (aa.length : Int) m L s) := by
  have hb : L.length ≤ bigN := by unfold bigN; omega
  refine (fun key => key (by simpa using hs)) (loop_ind (σ := SE) (β := ByteArray × Int × Int) (fun k i s => puny_boot_encode.l1 bi k pU L aa m s.1 s.2.1 s.2.2.1 s.2.2.2 i) L (fun pre t s o => OkE ((L.length : Int) + pre.length) s → o = endP bi (L.length : Int) m (passE (aa.length : Int) m t s)) ?_ ?_ s K0 (ltK hb))
  · intro s k h
    have wd : IntKind.i64.wrap (s.2.1 + 1) = s.2.1 + 1 := w64 (by have := h.d0; omega) (by have := h.d1; omega)
    simp only [puny_boot_encode.l1, if_neg (show ¬ (L.length : Int) < (L.length : Int) by omega), passE, wd, endP]
    rfl
  · intro pre x t s k e ih h
    have hle : L.length = pre.length + (t.length + 1) := by rw [e]; simp
    show puny_boot_encode.l1 bi (k + 1) pU L aa m s.1 s.2.1 s.2.2.1 s.2.2.2 (pre.length : Int) = _
    rw [prog_step bi L aa m k e hb (hr x (by rw [e]; simp)) s h (by omega), passE]
    cases hst : stepE (aa.length : Int) m s x with
    | none => rfl
    | some s' =>
      obtain ⟨k1, _⟩ := stepE_ok h hst
      rw [Option.bind_some]
      refine ih s' ?_
      rw [List.length_append]
      simpa [Int.add_assoc] using k1
theorem ref_pass (a6 : List Int → Int → Int → Int → Int → Option (ByteArray × Int × Int)) (L aa : List Int) (m : Int) (hl : 2 * L.length ≤ 4194304) (hr : ∀ x ∈ L, -2147483648 ≤ x ∧ x ≤ 2147483647) (s : SE) (hs : OkE (L.length : Int) s) :
    ref14_Encode.l2 a6 K0 L aa m s.1 s.2.1 s.2.2.1 s.2.2.2 0 = endR a6 m (passE (aa.length : Int) m L s) := by
  have hb : L.length ≤ bigN := by unfold bigN; omega
  refine (fun key => key (by simpa using hs)) (loop_ind (σ := SE) (β := ByteArray × Int × Int) (fun k i s => ref14_Encode.l2 a6 k L aa m s.1 s.2.1 s.2.2.1 s.2.2.2 i) L (fun pre t s o => OkE ((L.length : Int) + pre.length) s → o = endR a6 m (passE (aa.length : Int) m t s)) ?_ ?_ s K0 (ltK hb))
  · intro s k h
    have wd : IntKind.i64.wrap (s.2.1 + 1) = s.2.1 + 1 := w64 (by have := h.d0; omega) (by have := h.d1; omega)
    simp only [ref14_Encode.l2, if_neg (show ¬ (L.length : Int) < (L.length : Int) by omega), passE, wd, endR]
  · intro pre x t s k e ih h
    have hle : L.length = pre.length + (t.length + 1) := by rw [e]; simp
    show ref14_Encode.l2 a6 (k + 1) L aa m s.1 s.2.1 s.2.2.1 s.2.2.2 (pre.length : Int) = _
    rw [ref_step a6 L aa m k e hb (hr x (by rw [e]; simp)) s h (by omega), passE]
    cases hst : stepE (aa.length : Int) m s x with
    | none => rfl
    | some s' =>
      obtain ⟨k1, _⟩ := stepE_ok h hst
      rw [Option.bind_some]
      refine ih s' ?_
      rw [List.length_append]
      simpa [Int.add_assoc] using k1
theorem passE_ok {b0 m : Int} : ∀ (t : List Int) {H : Int} {s s' : SE}, OkE H s → passE b0 m t s = some s' → OkE (H + t.length) s' ∧ s'.2.2.2 = s.2.2.2 + (t.countP (fun x => decide (x = m)) : Int)
  | [], H, s, s', hs, e => by
    obtain rfl := Option.some.inj e
    exact ⟨by simpa using hs, by simp⟩
  | x :: t, H, s, s', hs, e => by
    rw [passE] at e
    cases hst : stepE b0 m s x with
    | none => rw [hst] at e; cases e
    | some s1 =>
      rw [hst, Option.bind_some] at e
      obtain ⟨h1, h2⟩ := stepE_ok hs hst
      obtain ⟨h3, h4⟩ := passE_ok t h1 e
      refine ⟨?_, ?_⟩
      · rw [List.length_cons]
        have : H + ((t.length + 1 : Nat) : Int) = H + 1 + t.length := by omega
        rw [this]; exact h3
      · rw [h4, h2, List.countP_cons]
        by_cases c : x = m <;> simp [c] <;> omega
def lessC (n : Int) (L : List Int) : Int := (L.countP (fun x => decide (x < n)) : Int)
theorem lessC_le (n : Int) (L : List Int) : lessC n L ≤ (L.length : Int) := by
  have := List.countP_le_length (p := fun x => decide (x < n)) (l := L)
  unfold lessC; omega
theorem lessC_next {n m : Int} (hn : n ≤ m) : ∀ (L : List Int), (∀ x ∈ L, n ≤ x → m ≤ x) → lessC (m + 1) L = lessC n L + (L.countP (fun x => decide (x = m)) : Int)
  | [], _ => rfl
  | y :: L, h => by
    have ih := lessC_next hn L (fun x hx => h x (by simp [hx]))
    have hy := h y (by simp)
    unfold lessC at ih ⊢
    simp only [List.countP_cons, decide_eq_true_eq]
    by_cases c : y < n
    · rw [if_pos (by omega), if_pos c, if_neg (by omega)]; omega
    · have := hy (by omega)
      by_cases c2 : y = m
      · rw [if_pos (by omega), if_neg c, if_pos c2]; omega
      · rw [if_neg (by omega), if_neg c, if_neg c2]; omega
theorem less_some {n : Int} {L : List Int} (h : lessC n L < (L.length : Int)) : ∃ x ∈ L, n ≤ x := by
  apply Classical.byContradiction
  intro hc
  have : L.countP (fun x => decide (x < n)) = L.length := List.countP_eq_length.2 fun x hx => by
    simp only [decide_eq_true_eq]
    apply Classical.byContradiction
    intro hx2
    exact hc ⟨x, hx, by omega⟩
  unfold lessC at h
  omega
theorem min_some {n : Int} {L : List Int} (hr : ∀ x ∈ L, x ≤ 1114111) (h : lessC n L < (L.length : Int)) : L.foldl (minG n) 1114112 = L.foldl (minG n) 1114111 ∧ L.foldl (minG n) 1114111 ∈ L ∧ n ≤ L.foldl (minG n) 1114111 ∧ ∀ x ∈ L, n ≤ x → L.foldl (minG n) 1114111 ≤ x := by
  obtain ⟨x, hx, hn⟩ := less_some h
  obtain ⟨a1, a2, a3⟩ := min_fold n L 1114111
  obtain ⟨b1, b2, b3⟩ := min_fold n L 1114112
  have hx1 := hr x hx
  have hx2 := a2 x hx hn
  have hx3 := b2 x hx hn
  have hm : L.foldl (minG n) 1114111 ∈ L ∧ n ≤ L.foldl (minG n) 1114111 := by
    rcases a3 with a3 | ⟨y, hy, hy2, a3⟩
    · have : L.foldl (minG n) 1114111 = x := by omega
      rw [this]; exact ⟨hx, hn⟩
    · rw [a3]; exact ⟨hy, hy2⟩
  refine ⟨?_, hm.1, hm.2, a2⟩
  have h1 := b2 _ hm.1 hm.2
  rcases b3 with b3 | ⟨y, hy, hy2, b3⟩
  · omega
  · have := a2 y hy hy2; omega
def minE (L : List Int) (n : Int) : Int := L.foldl (minG n) 1114111
def encE (L : List Int) (b0 : Int) : Nat → List Int → Int → Int → Int → Int → Option (Option (List Int))
  | 0, _, _, _, _, _ => none
  | k + 1, o, n, d, b, h => if h < (L.length : Int) then (if 2147483647 < d + (minE L n - n) * (h + 1) then some none else match passE b0 (minE L n) L (o, d + (minE L n - n) * (h + 1), b, h) with
      | none => some none
      | some s => encE L b0 k s.1 (minE L n + 1) (s.2.1 + 1) s.2.2.1 s.2.2.2) else some (some o)
def finE : Option (List Int) → Option (ByteArray × Int × Int)
  | none => errE
  | some o => (ref14_Decode.f (bytesS o)).bind fun ck => if ck.2.2 ≠ 0 then errE else some (bytesS o, 0, 0)
theorem bytesI_S {o : List Int} (h : ∀ c ∈ o, 0 ≤ c ∧ c < 128) : bytesI (bytesS o) = o := by
  rw [bytesI, bytesS_list, List.map_map]
  have : ∀ m : List Int, (∀ c ∈ m, 0 ≤ c ∧ c < 128) → m.map ((fun b : UInt8 => (b.toNat : Int)) ∘ fun n : Int => UInt8.ofNat n.toNat) = m := by
    intro m
    induction m with
    | nil => intro _; rfl
    | cons x m ih =>
      intro hm
      have hx := hm x (by simp)
      rw [List.map_cons, ih fun y hy => hm y (by simp [hy])]
      congr 1
      simp only [Function.comp, UInt8.toNat_ofNat']
      omega
  exact this o h
theorem size_S {o : List Int} (h : ∀ c ∈ o, 0 ≤ c ∧ c < 128) : (bytesS o).size = o.length := by rw [← bytesI_length, bytesI_S h]
theorem asc_S {o : List Int} (h : ∀ c ∈ o, 0 ≤ c ∧ c < 128) : AscS (bytesS o) := fun j j0 j1 => by
  rw [size_S h] at j1
  rw [bt_rd, bytesI_S h]
  exact (h _ (rd_mem j0 j1)).2
theorem j2_fin {o : List Int} (h : ∀ c ∈ o, 0 ≤ c ∧ c < 128) (hl : 2 * o.length ≤ bigN) : puny_boot_encode.j2 pU o = finE (some o) := by
  obtain ⟨l, a, e, h1, h2, _⟩ := dec_eq (bytesS o) (by rw [size_S h]; exact hl) (asc_S h)
  rw [puny_boot_encode.j2, finE, h1, h2]; rfl
theorem enc_both (L aa : List Int) (hl : L.length ≤ 2097152) (hr : ∀ x ∈ L, 0 ≤ x ∧ x ≤ 1114111) : ∀ (q k : Nat) (o : List Int) (n d b h : Int), (L.length : Int) - h ≤ (q : Int) → q < k → 128 ≤ n → n ≤ 1114112 → 0 ≤ d → d ≤ 2147483648 → h = lessC n L → (o.length : Int) ≤ 12 * h + 1 → (∀ c ∈ o, 0 ≤ c ∧ c < 128) →
    ∃ r, encE L (aa.length : Int) k o n d b h = some r ∧ ref14_Encode.l4 k L aa o n d b h = finE r ∧ (d ≤ 2147483647 → puny_boot_encode.l2 k pU L aa o n d b h = finE r) ∧ (2147483647 < d → h < (L.length : Int) → r = none) ∧ (∀ o', r = some o' → (∀ c ∈ o', 0 ≤ c ∧ c < 128) ∧ o'.length ≤ 12 * L.length + 1) := by
  have hb : L.length ≤ bigN := by unfold bigN; omega
  have hr2 : ∀ x ∈ L, -2147483648 ≤ x ∧ x ≤ 2147483647 := fun x hx => by have := hr x hx; omega
  intro q
  induction q with
  | zero =>
    intro k o n d b h h1 h2 h3 h4 h5 h6 h7 h8 h9
    obtain ⟨k, rfl⟩ : ∃ j, k = j + 1 := ⟨k - 1, by omega⟩
    have hle := lessC_le n L
    have hn : ¬ h < (L.length : Int) := by omega
    refine ⟨some o, by rw [encE, if_neg hn], ?_, fun _ => ?_, fun _ c => absurd c hn, fun o' e => ?_⟩
    · rw [ref14_Encode.l4, if_neg hn]; rfl
    · rw [puny_boot_encode.l2, if_neg hn]
      exact j2_fin h9 (by unfold bigN; omega)
    · obtain rfl := Option.some.inj e
      exact ⟨h9, by omega⟩
  | succ q ih =>
    intro k o n d b h h1 h2 h3 h4 h5 h6 h7 h8 h9
    obtain ⟨k, rfl⟩ : ∃ j, k = j + 1 := ⟨k - 1, by omega⟩
    have hle := lessC_le n L
    by_cases hn : h < (L.length : Int)
    · obtain ⟨g1, g2, g3, g4⟩ := min_some (fun x hx => (hr x hx).2) (n := n) (L := L) (by omega)
      have g5 := (hr _ g2).2
      change minE L n ∈ L at g2
      change n ≤ minE L n at g3
      change ∀ x ∈ L, n ≤ x → minE L n ≤ x at g4
      change minE L n ≤ 1114111 at g5
      change L.foldl (minG n) 1114112 = minE L n at g1
      have hh0 : 0 ≤ h := by rw [h7]; unfold lessC; omega
      have p0 : 0 ≤ (minE L n - n) * (h + 1) := Int.mul_nonneg (by omega) (by omega)
      have p1 : (minE L n - n) * (h + 1) ≤ 1114112 * 2097153 := Int.mul_le_mul (by omega) (by omega) (by omega) (by omega)
      have w1 : IntKind.i64.wrap (minE L n - n) = minE L n - n := w64 (by omega) (by omega)
      have w2 : IntKind.i64.wrap (h + 1) = h + 1 := w64 (by omega) (by omega)
      have w3 : IntKind.i64.wrap ((minE L n - n) * (h + 1)) = (minE L n - n) * (h + 1) := w64 (by omega) (by omega)
      have w4 : IntKind.i64.wrap (d + (minE L n - n) * (h + 1)) = d + (minE L n - n) * (h + 1) := w64 (by omega) (by omega)
      have w5 : IntKind.i64.wrap (minE L n + 1) = minE L n + 1 := w64 (by omega) (by omega)
      have ep : puny_boot_encode.l2 (k + 1) pU L aa o n d b h = if 2147483647 < d + (minE L n - n) * (h + 1) then errE else puny_boot_encode.l1 (puny_boot_encode.l2 k pU L aa) K0 pU L aa (minE L n) o (d + (minE L n - n) * (h + 1)) b h 0 := by
        have e9 : puny_next.f L n = some (minE L n) := next_eq L n hb hr2
        rw [puny_boot_encode.l2, if_pos hn, e9, Option.bind_some, w1, w2, w3, w4]; rfl
      have er : ref14_Encode.l4 (k + 1) L aa o n d b h = if 2147483647 < d + (minE L n - n) * (h + 1) then errE else ref14_Encode.l2 (ref14_Encode.l4 k L aa) K0 L aa (minE L n) o (d + (minE L n - n) * (h + 1)) b h 0 := by
        rw [ref14_Encode.l4, if_pos hn, ref_next _ _ _ _ _ _ _ _ hb hr2, g1, w1, w2, w3, w4]; rfl
      rw [ep, er, encE, if_pos hn]
      by_cases c : 2147483647 < d + (minE L n - n) * (h + 1)
      · rw [if_pos c, if_pos c, if_pos c]
        exact ⟨none, rfl, rfl, fun _ => rfl, fun _ _ => rfl, fun o' e => by cases e⟩
      · rw [if_neg c, if_neg c, if_neg c]
        have hok : OkE (L.length : Int) (o, d + (minE L n - n) * (h + 1), b, h) := ⟨by simp only; omega, by simp only; omega, hh0, by simp only; omega, h8, h9⟩
        have e1 := prog_pass (puny_boot_encode.l2 k pU L aa) L aa (minE L n) (by omega) hr2 _ hok
        have e2 := ref_pass (ref14_Encode.l4 k L aa) L aa (minE L n) (by omega) hr2 _ hok
        simp only at e1 e2
        rw [e1, e2]
        cases hp : passE (aa.length : Int) (minE L n) L (o, d + (minE L n - n) * (h + 1), b, h) with
        | none => exact ⟨none, rfl, rfl, fun _ => rfl, fun _ _ => rfl, fun o' e => by cases e⟩
        | some s =>
          obtain ⟨hs, hc⟩ := passE_ok L hok hp
          have hcnt := lessC_next g3 L g4
          have hpos : 0 < L.countP (fun x => decide (x = minE L n)) := List.countP_pos_iff.2 ⟨_, g2, by simp⟩
          have hh : s.2.2.2 = lessC (minE L n + 1) L := by rw [hcnt, hc, h7]
          have hle2 := lessC_le (minE L n + 1) L
          obtain ⟨r, r1, r2, r3, r4, r5⟩ := ih k s.1 (minE L n + 1) (s.2.1 + 1) s.2.2.1 s.2.2.2 (by simp only at hc; omega) (by omega) (by omega) (by omega) (by have := hs.d0; omega) (by have := hs.d1; omega) hh hs.len hs.asc
          refine ⟨r, r1, by rw [endR, w5]; exact r2, fun _ => ?_, fun c2 _ => absurd c2 (by omega), r5⟩
          rw [endP]
          by_cases c2 : s.2.2.2 = (L.length : Int)
          · rw [if_pos c2]
            obtain ⟨k, rfl⟩ : ∃ j, k = j + 1 := ⟨k - 1, by omega⟩
            rw [encE, if_neg (by omega)] at r1
            rw [← Option.some.inj r1]
            exact j2_fin hs.asc (by have := hs.len; unfold bigN; omega)
          · rw [if_neg c2]
            by_cases c3 : 2147483647 < s.2.1 + 1
            · rw [if_pos c3, r4 c3 (by omega)]; rfl
            · rw [if_neg c3, w5]
              exact r3 (by omega)
    · refine ⟨some o, by rw [encE, if_neg hn], ?_, fun _ => ?_, fun _ c => absurd c hn, fun o' e => ?_⟩
      · rw [ref14_Encode.l4, if_neg hn]; rfl
      · rw [puny_boot_encode.l2, if_neg hn]
        exact j2_fin h9 (by unfold bigN; omega)
      · obtain rfl := Option.some.inj e
        exact ⟨h9, by omega⟩
end Go.Proofs.YthoicbafdanmkaaGreatDoor
/- Plain laws: Punycode is written alike: from the check to the text. Own work of this repo. -/
namespace Go.Proofs.YthoicbafdanmkaaGreatDoor
open Go.RowKit

def basS (L : List Int) : List Int := L.filter fun x => decide (x < 128)
def headS (aa : List Int) : List Int := if 0 < (aa.length : Int) then aa ++ [45] else aa
theorem scB_range {p : Int} (h : scB p = true) : 0 ≤ p ∧ p ≤ 1114111 := by
  have e := scB_eq p
  rw [h] at e
  unfold ref14_scalar.f ref14_scalar.j1 at e
  by_cases a : 0 ≤ p
  · rw [if_pos a] at e
    by_cases b : p < 55296
    · omega
    · rw [if_neg b] at e
      by_cases c : 57343 < p
      · rw [if_pos c] at e
        have := of_decide_eq_true (Option.some.inj e)
        omega
      · rw [if_neg c] at e; cases e
  · rw [if_neg a, if_neg (by omega)] at e; cases e
theorem basS_snoc (pre : List Int) (x : Int) : basS (pre ++ [x]) = if x < 128 then basS pre ++ [x] else basS pre := by
  unfold basS
  by_cases c : x < 128 <;> simp [List.filter_append, c]
theorem basS_len (L : List Int) : (basS L).length ≤ L.length := List.length_filter_le _ _
theorem less_bas (L : List Int) : lessC 128 L = ((basS L).length : Int) := by
  unfold lessC basS
  rw [List.countP_eq_length_filter]
theorem prog_bas (L : List Int) (hl : L.length ≤ 2097152) (hr : ∀ x ∈ L, 0 ≤ x ∧ x ≤ 1114111) : puny_boot_encode.l3 K0 pU L [] 0 = puny_boot_encode.l2 K0 pU L (basS L) (headS (basS L)) 128 0 72 ((basS L).length : Int) := by
  have hb : L.length ≤ bigN := by unfold bigN; omega
  refine (fun key => key rfl) (loop_ind (σ := List Int) (β := ByteArray × Int × Int) (fun k i s => puny_boot_encode.l3 k pU L s i) L (fun pre _ s o => s = basS pre → o = puny_boot_encode.l2 K0 pU L (basS L) (headS (basS L)) 128 0 72 ((basS L).length : Int)) ?_ ?_ [] K0 (ltK hb))
  · intro s k hs
    -- the last round
    have hs' : s = basS L → puny_boot_encode.l3 (k + 1) pU L s (L.length : Int) = puny_boot_encode.l2 K0 pU L (basS L) (headS (basS L)) 128 0 72 ((basS L).length : Int) := by
      rintro rfl
      have := basS_len L
      simp only [puny_boot_encode.l3, if_neg (show ¬ (L.length : Int) < (L.length : Int) by omega), puny_boot_encode.j4, headS]
      by_cases c : 0 < ((basS L).length : Int)
      · rw [if_pos c, if_pos c, if_pos (by unfold most; simp; omega)]
      · rw [if_neg c, if_neg c]
    exact hs' hs
  · intro pre x t s k e ih hs
    obtain ⟨m1, m2⟩ := mid e
    obtain ⟨x0, x1⟩ := hr x (by rw [e]; simp)
    have hle : L.length = pre.length + (t.length + 1) := by rw [e]; simp
    have hlen := basS_len pre
    have wx : IntKind.i64.wrap x = x := w64 (by omega) (by omega)
    have hbas : puny_boot_basic.f pU x = some (decide (x < 128)) := by
      simp only [puny_boot_basic.f, puny_boot_basic.j1, wx]
      by_cases c : x < 128 <;> simp [c]
    simp only [puny_boot_encode.l3, if_pos m2.2, if_pos m2, m1, hbas, Option.bind_some, decide_eq_true_eq, puny_boot_encode.j1, nxt hb e]
    by_cases c : x < 128
    · rw [if_pos c, if_pos (by rw [hs]; unfold most; simp; omega), u8_small x0 (by omega)]
      exact ih _ (by rw [basS_snoc, if_pos c, hs])
    · rw [if_neg c]
      exact ih _ (by rw [basS_snoc, if_neg c, hs])
theorem ref_bas (L : List Int) (hl : L.length ≤ 2097152) : ref14_Encode.l5 K0 L [] 0 = if fIx (fun p => !scB p) L 0 = -1 then ref14_Encode.l4 K0 L (basS L) (headS (basS L)) 128 0 72 ((basS L).length : Int) else some ((⟨#[]⟩ : ByteArray), fIx (fun p => !scB p) L 0, 20) := by
  have hb : L.length ≤ bigN := by unfold bigN; omega
  refine (fun key => key rfl) (loop_ind (σ := List Int) (β := ByteArray × Int × Int) (fun k i s => ref14_Encode.l5 k L s i) L (fun pre t s o => s = basS pre → o = if fIx (fun p => !scB p) t pre.length = -1 then ref14_Encode.l4 K0 L (basS L) (headS (basS L)) 128 0 72 ((basS L).length : Int) else some ((⟨#[]⟩ : ByteArray), fIx (fun p => !scB p) t pre.length, 20)) ?_ ?_ [] K0 (ltK hb))
  · intro s k hs
    subst hs
    have := basS_len L
    simp only [ref14_Encode.l5, if_neg (show ¬ (L.length : Int) < (L.length : Int) by omega), ref14_Encode.j6, headS, fIx, if_true]
    by_cases c : 0 < ((basS L).length : Int)
    · rw [if_pos c, if_pos c, if_pos (by unfold most; simp; omega)]
    · rw [if_neg c, if_neg c]
  · intro pre x t s k e ih hs
    obtain ⟨m1, m2⟩ := mid e
    have hle : L.length = pre.length + (t.length + 1) := by rw [e]; simp
    have hlen := basS_len pre
    simp only [ref14_Encode.l5, if_pos m2.2, if_pos m2, m1, scB_eq, Option.bind_some, ref14_Encode.j1, nxt hb e]
    by_cases c : (!scB x) = true
    · have ef : fIx (fun p => !scB p) (x :: t) pre.length = (pre.length : Int) := by rw [fIx, if_pos c]
      rw [if_pos c, ef, if_neg (by omega)]
    · have ef : fIx (fun p => !scB p) (x :: t) pre.length = fIx (fun p => !scB p) t (pre.length + 1) := by rw [fIx, if_neg c]
      obtain ⟨x0, x1⟩ := scB_range (p := x) (by simpa using c)
      have ih2 := fun s' h => ih s' h
      simp only [List.length_append, List.length_cons, List.length_nil, Nat.zero_add] at ih2
      rw [if_neg c, ef]
      by_cases c2 : x < 128
      · rw [if_pos c2, if_pos (by rw [hs]; unfold most; simp; omega), u8_small x0 (by omega)]
        exact ih2 _ (by rw [basS_snoc, if_pos c2, hs])
      · rw [if_neg c2]
        exact ih2 _ (by rw [basS_snoc, if_neg c2, hs])
theorem enc_val (L : List Int) (hl : L.length ≤ 2097152) (hr : ∀ x ∈ L, 0 ≤ x ∧ x ≤ 1114111) : ∃ r, encE L ((basS L).length : Int) K0 (headS (basS L)) 128 0 72 ((basS L).length : Int) = some r ∧ ref14_Encode.l4 K0 L (basS L) (headS (basS L)) 128 0 72 ((basS L).length : Int) = finE r ∧ puny_boot_encode.l2 K0 pU L (basS L) (headS (basS L)) 128 0 72 ((basS L).length : Int) = finE r ∧ (∀ o', r = some o' → (∀ c ∈ o', 0 ≤ c ∧ c < 128) ∧ o'.length ≤ 12 * L.length + 1) := by
  have h1 := basS_len L
  have hK : (K0 : Int) = 1180591620717411303424 := rfl
  have hm : ∀ c ∈ basS L, 0 ≤ c ∧ c < 128 := fun c hc => by
    obtain ⟨h2, h3⟩ := List.mem_filter.1 hc
    have := hr c h2
    have := of_decide_eq_true h3
    omega
  obtain ⟨r, r1, r2, r3, _, r5⟩ := enc_both L (basS L) hl hr L.length K0 (headS (basS L)) 128 0 72 ((basS L).length : Int) (by omega) (by omega) (by omega) (by omega) (by omega) (by omega) (less_bas L).symm (by unfold headS; split <;> first | (simp; omega) | omega) (fun c hc => by
    unfold headS at hc
    split at hc
    · rcases List.mem_append.1 hc with hc | hc
      · exact hm c hc
      · simp only [List.mem_singleton] at hc; omega
    · exact hm c hc)
  exact ⟨r, r1, r2, r3 (by omega), r5⟩
theorem fin_some {r : Option (List Int)} {n : Nat} (h : ∀ o', r = some o' → (∀ c ∈ o', 0 ≤ c ∧ c < 128) ∧ o'.length ≤ n) (hn : 2 * n ≤ bigN) : ∃ s a e, finE r = some (s, a, e) ∧ s.size ≤ n := by
  cases r with
  | none => exact ⟨_, _, _, rfl, Nat.zero_le _⟩
  | some o =>
    obtain ⟨h1, h2⟩ := h o rfl
    obtain ⟨l, a, e, _, h4, _⟩ := dec_eq (bytesS o) (by rw [size_S h1]; omega) (asc_S h1)
    rw [finE, h4, Option.bind_some]
    by_cases c : e = 0
    · exact ⟨_, _, _, by rw [if_neg (by simp [c])], by rw [size_S h1]; exact h2⟩
    · exact ⟨_, _, _, by rw [if_pos (by simp [c])]; rfl, Nat.zero_le _⟩
theorem encode_eq (L : List Int) (hl : L.length ≤ 2097152) (hr : ∀ x ∈ L, -2147483648 ≤ x ∧ x ≤ 2147483647) : ∃ s a e, puny_Encode.f L = some (s, a, e) ∧ ref14_Encode.f L = some (s, a, e) ∧ s.size ≤ 9223372036854775800 := by
  have hb : L.length ≤ bigN := by unfold bigN; omega
  have hu : puny_Usual.f = some pU := rfl
  have hp := pcheck_eq L hb hr
  rw [ref14_Encode.f, ref_bas L hl, puny_Encode.f, hu, Option.bind_some, puny_boot_encode.f, hp, Option.bind_some]
  rcases fIx_cases (fun p => !scB p) L 0 with ⟨c, h⟩ | ⟨a, x, r, e, hx, _, h⟩
  · have hr2 : ∀ x ∈ L, 0 ≤ x ∧ x ≤ 1114111 := fun x hx => scB_range (by simpa using h x hx)
    obtain ⟨r, r1, r2, r3, r4⟩ := enc_val L hl hr2
    obtain ⟨s, a, e, h3, h4⟩ := fin_some r4 (by unfold bigN; omega)
    rw [if_pos c, if_pos c, if_neg (by simp), prog_bas L hl hr2, r3, r2, h3]
    exact ⟨s, a, e, rfl, rfl, by omega⟩
  · have hne : ¬ fIx (fun p => !scB p) L 0 = -1 := by rw [h]; omega
    rw [if_neg hne, if_neg hne, if_pos (by simp)]
    exact ⟨_, _, _, rfl, rfl, Nat.zero_le _⟩
theorem codes_all (l : List Int) (hl : l.length ≤ 2097152) (hr : ∀ x ∈ l, -2147483648 ≤ x ∧ x ≤ 2147483647) : law18_LabelCodes.f l = some true :=
  codes_true l (by unfold bigN; omega) fun _ => encode_eq l hl hr
end Go.Proofs.YthoicbafdanmkaaGreatDoor
/- Arguments: what is read as data is what the representations say, and the data's bulk bounds the sizes. Own work of this repo. -/
namespace Go.Proofs.YthoicbafdanmkaaGreatDoor
open Go.RowKit

section
variable {H : Type} {enc : TypeId × Value → H} {P : Program} {W : World}
def Reads {α : Type} (enc : TypeId × Value → H) (P : Program) (W : World) (t : TypeId) (r : Rep α) (sz : α → Nat) (wf : α → Prop) : Prop :=
  ∀ fuel cs d ps, DataW.trod enc P W 0 (fun _ => true) true fuel t cs = some (d, ps) → ∃ x, r.R (seen W) cs x ∧ sz x ≤ Rows.uptoBulk d ∧ wf x
theorem inK_of {k : IntKind} {n : Int} (h : (Lit.int k n).wf = true) : InK k n := by
  simp only [Lit.wf, Bool.and_eq_true, decide_eq_true_eq] at h
  cases k <;> simp only [InK] <;> simp [IntKind.min, IntKind.max, IntKind.signed, IntKind.bits] at h <;> omega
theorem Reads.int {t : TypeId} {k : IntKind} (hu : P.underlying t = some (.int k)) : Reads enc P W t (Rep.int k) (fun _ => 1) (InK k) := by
  intro fuel cs d ps h
  obtain ⟨n, rfl, he, hw⟩ := DataW.trod_int hu h
  simp only [Prod.mk.injEq] at he
  obtain ⟨rfl, rfl⟩ := he
  exact ⟨n, rfl, by simp [Rows.uptoBulk], inK_of hw⟩
theorem Reads.str {t : TypeId} (hu : P.underlying t = some .string) : Reads enc P W t Rep.str (fun s => s.size + 1) (fun _ => True) := by
  intro fuel cs d ps h
  obtain ⟨s, rfl, he, hw⟩ := DataW.trod_string hu h
  simp only [Prod.mk.injEq] at he
  obtain ⟨rfl, rfl⟩ := he
  exact ⟨s, rfl, by simp [Rows.uptoBulk], trivial⟩
theorem mapM_some_at {α β : Type} {f : α → Option β} : ∀ {l : List α} {ys : List β}, l.mapM f = some ys → ys.length = l.length ∧ ∀ (i : Nat) (x : α), l[i]? = some x → f x = ys[i]?
  | [], ys, h => by simp at h; subst h; exact ⟨rfl, fun i x hx => by simp at hx⟩
  | a :: l, ys, h => by
    rw [List.mapM_cons] at h
    simp only [bind, Option.bind_eq_some_iff, pure, Option.some.injEq] at h
    obtain ⟨y, hy, ys', hys, rfl⟩ := h
    obtain ⟨h1, h2⟩ := mapM_some_at hys
    refine ⟨by simp [h1], fun i x hx => ?_⟩
    cases i with
    | zero => simp at hx; subst hx; simpa using hy
    | succ i => simpa using h2 i x (by simpa using hx)
theorem cells_at {w : World} {a : Addr} {n : Nat} {cs : List Value} (h : w.cells? 0 a n = some cs) : cs.length = n ∧ ∀ j u, cs[j]? = some u → w.cell? (a.add j) = some u := by
  unfold World.cells? at h
  simp only [Nat.zero_le, if_true] at h
  obtain ⟨h1, h2⟩ := mapM_some_at h
  refine ⟨by simpa using h1, fun j u hu => ?_⟩
  have hj : j < n := by have := (List.getElem?_eq_some_iff.1 hu).1; simp at h1; omega
  rw [h2 j j (by simp [hj]), hu]
theorem spot_none {w : World} {a : Addr} {v : Value} (h : w.cell? a = some v) : a.spot = none := by
  unfold World.cell? at h
  split at h
  · split at h
    · cases h
    · rename_i hs
      cases hsp : a.spot with
      | none => rfl
      | some x => rw [hsp] at hs; simp at hs
  · cases h
def szL {α : Type} (sz : α → Nat) : List α → Nat
  | [] => 1
  | x :: t => sz x + szL sz t
theorem szL_len {α : Type} {sz : α → Nat} (h1 : ∀ x, 1 ≤ sz x) : ∀ xs : List α, xs.length < szL sz xs
  | [] => by simp [szL]
  | x :: t => by have := szL_len h1 t; have := h1 x; simp [szL]; omega
theorem Reads.slice {α : Type} {t e sz' bytes : Nat} {r : Rep α} {sz : α → Nat} {wf : α → Prop} (he : ElemOf P t e sz' bytes) (hr : r.sz = sz') (h : Reads enc P W e r sz wf) : Reads enc P W t (Rep.slice r) (szL sz) (fun xs => ∀ x ∈ xs, wf x) := by
  intro fuel cs d ps h1
  obtain ⟨inf, z, hi, _, hsz, _, _⟩ := he.info
  have hc : P.cellsOf e = r.sz := by simp [Program.cellsOf, hi, hsz, hr]
  have hpos : 0 < r.sz := hr ▸ he.pos
  rcases DataW.trod_slice he.under h1 with ⟨rfl, hx⟩ | ⟨a, len, cap, elems, rest, n, _, rfl, hx, _, hl, hm, hlen, hel, _, _⟩
  · simp only [Prod.mk.injEq] at hx
    obtain ⟨rfl, rfl⟩ := hx
    exact ⟨[], ⟨_, rfl, .inl ⟨rfl, none, 0, rfl⟩⟩, by simp [szL, Rows.uptoBulk], fun x hx => by cases hx⟩
  · simp only [Prod.mk.injEq] at hx
    obtain ⟨rfl, _⟩ := hx
    rw [hc] at hel
    have key : ∀ (es : List (DataW H × List MemPlace)) (k : Nat), k + es.length = len → (∀ i y, es[i]? = some y → elems[k + i]? = some y) →
        ∃ xs : List α, xs.length = es.length ∧ szL sz xs ≤ Rows.uptoBulkAll (es.map (·.1)) + 1 ∧ (∀ x ∈ xs, wf x) ∧ ∀ i x, xs[i]? = some x → a.spot = none ∧ ∃ c, r.R (seen W) c x ∧ ∀ j u, c[j]? = some u → W.cell? ⟨a.block, a.off + (k + i) * r.sz + j, none⟩ = some u := by
      intro es
      induction es with
      | nil => intro k _ _; exact ⟨[], rfl, by simp [szL, Rows.uptoBulkAll], fun x hx => (by cases hx), fun i x hx => (by simp at hx)⟩
      | cons y es ih =>
        intro k hk hes
        have hy := hes 0 y rfl
        have h2 := hel k (by simp at hk; omega)
        rw [Nat.add_zero] at hy
        rw [hy] at h2
        obtain ⟨c, hc1, hc2⟩ := Option.bind_eq_some_iff.1 h2
        obtain ⟨hc3, hc4⟩ := cells_at hc1
        obtain ⟨x, hx1, hx2, hx3⟩ := h n c y.1 y.2 hc2
        obtain ⟨xs, e1, e2, e3, e4⟩ := ih (k + 1) (by simp at hk; omega) (fun i z hz => by
          have := hes (i + 1) z (by simpa using hz)
          rwa [show k + 1 + i = k + (i + 1) by omega])
        have hlc : c.length = r.sz := r.len hx1
        have hsp : a.spot = none := by
          have h5 := hc4 0 c[0] (List.getElem?_eq_getElem (by omega))
          simp only [Addr.add, if_true] at h5
          have h6 := spot_none h5
          by_cases hk0 : k * r.sz = 0
          · simpa [hk0] using h6
          · have h7 := hel 0 (by simp at hk; omega)
            have h8 : elems[0]? ≠ none := by
              rw [ne_eq, List.getElem?_eq_none_iff]; simp at hk; omega
            obtain ⟨z0, hz0⟩ := Option.ne_none_iff_exists'.1 h8
            rw [hz0] at h7
            obtain ⟨c0, hd1, hd2⟩ := Option.bind_eq_some_iff.1 h7
            obtain ⟨hd3, hd4⟩ := cells_at hd1
            have := hd4 0 c0[0] (List.getElem?_eq_getElem (by omega))
            simp only [Nat.zero_mul, Addr.add, if_true] at this
            exact spot_none this
        have hadd : ∀ m j, (a.add m).add j = ⟨a.block, a.off + m + j, none⟩ := by
          intro m j
          cases a with
          | mk ab ao asp =>
            simp only at hsp
            subst hsp
            rw [Addr.add_lit, Addr.add_lit]
        refine ⟨x :: xs, by simp [e1], ?_, ?_, ?_⟩
        · simp only [szL, List.map_cons, Rows.uptoBulkAll]; omega
        · intro z hz
          rcases List.mem_cons.1 hz with rfl | hz
          · exact hx3
          · exact e3 z hz
        · intro i z hz
          cases i with
          | zero =>
            simp at hz; subst hz
            refine ⟨hsp, c, hx1, fun j u hu => ?_⟩
            have := hc4 j u hu
            rw [hadd] at this
            exact this
          | succ i =>
            obtain ⟨_, c', f1, f2⟩ := e4 i z (by simpa using hz)
            refine ⟨hsp, c', f1, fun j u hu => ?_⟩
            have := f2 j u hu
            rwa [show k + 1 + i = k + (i + 1) by omega] at this
    obtain ⟨xs, e1, e2, e3, e4⟩ := key elems 0 (by omega) (fun i y hy => by rwa [Nat.zero_add])
    refine ⟨xs, ⟨_, rfl, ?_⟩, by simp only [Rows.uptoBulk]; omega, e3⟩
    cases hxs : xs with
    | nil =>
      subst hxs
      have h0 : len = 0 := by simp at e1; omega
      subst h0
      exact .inl ⟨rfl, _, _, rfl⟩
    | cons x0 xs0 =>
      rw [← hxs]
      have hsp := (e4 0 x0 (by rw [hxs]; rfl)).1
      refine .inr ⟨a.block, a.off, cap, ?_, by omega, fun i x hx => ?_⟩
      · rw [e1, hlen]
        cases a with
        | mk ab ao asp => simp only at hsp; subst hsp; rfl
      · obtain ⟨_, c, f1, f2⟩ := e4 i x hx
        exact ⟨c, f1, fun j u hu => by have := f2 j u hu; rw [Nat.zero_add] at this; exact this⟩
end
end Go.Proofs.YthoicbafdanmkaaGreatDoor
/- LabelCodes in the row's words. Own work of this repo. -/
namespace Go.Proofs.YthoicbafdanmkaaGreatDoor
open Go.RowKit
theorem ink32 {n : Int} (h : InK .i32 n) : -2147483648 ≤ n ∧ n ≤ 2147483647 := h
theorem codes_row (l : List Int) (h1 : l.length ≤ 1048577) (h2 : ∀ x ∈ l, InK .i32 x) : law18_LabelCodes.f l = some true :=
  codes_all l (by omega) fun x hx => ink32 (h2 x hx)
end Go.Proofs.YthoicbafdanmkaaGreatDoor
/- A row with a condition whose program's laid variables are told as well. Own work of this repo. -/
namespace Go.Proofs.YthoicbafdanmkaaGreatDoor
open Go Go.ChangeShapes
section
variable {H : Type} {enc : TypeId × Value → H}
theorem ret_cond_laid {a : Assume} {C : Checked} {os : Os} {f : FuncId} {fn : Func} {s : OpenSpec} {k : (H : Type) → List (DataW H) → Bool} (hk : s.cond = some k) {F : Stop.Interp} {conds : List PathCond} {apart fresh handsOn again : Bool} {l : List (String × DataW Unit)}
    (own : ownKnob C.prog.godebug = none) (started : os.Started) (noInit : C.prog.inits.idxOf? f = none) (hfn : C.prog.funcs[f]? = some fn)
    (witness : ∃ (w : World) (tape : Tape) (i : Input), w.os = os ∧ (w.forCall tape i).Shaped C.prog ∧ i.vars = [] ∧ Input.okWide C.prog (w.forCall tape i) .any w.heap.size f i ∧
      ((s.pre enc C.prog fn conds apart (w.forCall tape i).memory i.args ∧ laidMetH C.prog l (w.forCall tape i).memory) ∧ sizedMet enc C.prog fn s apart (w.forCall tape i).memory i.args) ∧ a.holds C.prog (lone (Frame.enter C.prog f i.args .normal) [] (w.forCall tape i)))
    (contract : ∀ (W : World) (base : Nat) (args : Array Value) (ds gs : List (DataW H)) (before : List MemPlace),
      (∀ (j : Nat) t v, fn.params[j]? = some t → args[j]? = some v → Value.okWide C.prog W .any base t v) →
      DataW.Whole enc C.prog fn.params.toList s.vars apart W args.toList ds gs before →
      conds.all (PathCond.test C.prog ⟨fn.params.toList, ds, s.bare.plain.varTypes C.prog, gs⟩) = true → k H (ds ++ gs) = true →
      a.holds C.prog (lone (Frame.enter C.prog f args .normal) [] W) →
      Calls C.prog f args W fun e W' => ∃ v, e = .returned v ∧ (s.at F).post enc C.prog fn apart fresh handsOn again W args v W') :
    ReturnsInHanded a C os f .any (fun w args => (s.pre enc C.prog fn conds apart w args ∧ laidMetH C.prog l w) ∧ sizedMet enc C.prog fn s apart w args) ((s.at F).post enc C.prog fn apart fresh handsOn again) := by
  refine returnsInHanded_of_calls own started noInit witness ?_
  intro w tape i _ _ _ hok hpre hholds
  obtain ⟨_, _, _, fn', hfn', _, _, _, _, hval⟩ := hok
  have e : fn' = fn := Option.some.inj (hfn'.symm.trans hfn)
  subst e
  obtain ⟨ds, gs, before, hw, hc, hkk⟩ := (OpenSpec.pre_some hk conds apart _ _).1 hpre.1.1
  have hw' := DataW.Whole.of_heap (w' := w.forCall tape i) (by rfl) hw
  refine (contract (w.forCall tape i) w.heap.size i.args ds gs before hval hw' hc hkk hholds).mono fun e W' ⟨v, he, hp⟩ => ?_
  subst he
  exact ChangeSpec.post_blind hp
theorem wit_laid {C : Checked} {os : Os} {f : FuncId} {fn : Func} {s : OpenSpec} {k : (H : Type) → List (DataW H) → Bool} (hk : s.cond = some k) {conds : List PathCond} {apart : Bool} {l : List (String × DataW Unit)} (modest : Bool) (w0 : World) (args : Array Value) (fuel : Nat) (hos : w0.os = os)
    (hsh : (w0.forCall (fun _ _ => 0) ⟨#[], args, []⟩).Shaped C.prog)
    (hok : Input.okWideB C.prog (w0.forCall (fun _ _ => 0) ⟨#[], args, []⟩) f ⟨#[], args, []⟩ = true)
    {x : List (DataW H) × List (DataW H) × List MemPlace} (hx : DataW.whole enc C.prog (w0.forCall (fun _ _ => 0) ⟨#[], args, []⟩).memory fn.params.toList s.vars apart args.toList fuel = some x)
    (hconds : conds.all (PathCond.test C.prog ⟨fn.params.toList, x.1, s.bare.plain.varTypes C.prog, x.2.1⟩) = true) (hkk : k H (x.1 ++ x.2.1) = true)
    (hsz : s.bare.sizedB enc C.prog fn apart (w0.forCall (fun _ _ => 0) ⟨#[], args, []⟩).memory args fuel = true)
    (hl : laidMetH C.prog l (w0.forCall (fun _ _ => 0) ⟨#[], args, []⟩).memory) :
    ∃ (w : World) (tape : Tape) (i : Input), w.os = os ∧ (w.forCall tape i).Shaped C.prog ∧ i.vars = [] ∧ Input.okWide C.prog (w.forCall tape i) .any w.heap.size f i ∧
      ((s.pre enc C.prog fn conds apart (w.forCall tape i).memory i.args ∧ laidMetH C.prog l (w.forCall tape i).memory) ∧ sizedMet enc C.prog fn s apart (w.forCall tape i).memory i.args) ∧ ({ modest := modest } : Assume).holds C.prog (lone (Frame.enter C.prog f i.args .normal) [] (w.forCall tape i)) :=
  ⟨w0, fun _ _ => 0, ⟨#[], args, []⟩, hos, hsh, (Input.okWide_of_okWideB (base := 0) hok).1, (Input.okWide_of_okWideB hok).2,
    ⟨⟨(OpenSpec.pre_some hk conds apart _ _).2 ⟨x.1, x.2.1, x.2.2, DataW.Whole_of_whole hx, hconds, hkk⟩, hl⟩, sizedMet_of_sizedB hsz⟩, by
    simp only [Assume.holds]
    exact ⟨by simp, by simp, fun _ => Modest.zero, by simp, by simp⟩⟩
end
end Go.Proofs.YthoicbafdanmkaaGreatDoor
/- PROVED: 'posternlaw18.LabelCodes' returns true for every input whose bulk is at most 1048576, and what came in reads as it did. No other conditions. -/
namespace Go.Proofs.YthoicbafdanmkaaGreatDoor
open Go.ChangeShapes Go.WideShapes Go.ChangeAt Go.RowKit Go.Joins
set_option linter.constructorNameAsVariable false
namespace RowLabelCodes
theorem own : ownKnob Tryz.prog.godebug = none := by kernel_rfl
theorem laidOut : laidOutB Tryz.prog = true := by kernel_rfl
set_option maxRecDepth 100000 in
theorem slice_cell28 {W : World} {base : Nat} {v v' : Value} (h : Value.okWide Tryz.prog W .any base 28 v) (e : v.cells.toList = [v']) : v = v' := by
  obtain ⟨a, l, c, rfl⟩ := okWide_slice Tryz.underlying28 h
  simpa [Value.cells] using e
set_option maxRecDepth 100000 in
theorem lifted (os : Os) (started : os.Started) (H : Type) (enc : TypeId × Value → H) (F : Stop.Interp) :
    ReturnsInHanded {} Tryz.checked os 4 .any (fun w args => ((Rows.OpenSpec.upto Rows.labelCodesSpec).pre enc Tryz.prog Tryz.f4 Rows.labelCodesUptoRow.domain false w args ∧ laidMetH Tryz.prog Rows.labelCodesUptoRow.laid w) ∧ sizedMet enc Tryz.prog Tryz.f4 (Rows.OpenSpec.upto Rows.labelCodesSpec) false w args) (((Rows.OpenSpec.upto Rows.labelCodesSpec).at F).post enc Tryz.prog Tryz.f4 false true false false) := by
  refine ret_cond_laid (C := Tryz.checked) (s := Rows.OpenSpec.upto Rows.labelCodesSpec) (k := Rows.uptoSmall) rfl own started (by kernel_rfl) Tryz.func4
    (wit_laid (enc := enc) (C := Tryz.checked) (s := Rows.OpenSpec.upto Rows.labelCodesSpec) (k := Rows.uptoSmall) rfl false (World.laidAll Tryz.prog os Rows.labelCodesUptoRow.laid) #[.slice none 0 0] 8 (World.laidAll_os _ _ _) (World.shaped_of_ZipB (by kernel_rfl) (by kernel_rfl)) (by kernel_rfl)
      (x := ([.nil], [], [])) (by kernel_rfl) rfl rfl (by kernel_rfl) (by rw [MakeChecks.laidMetH_plain _ _ _ (by kernel_rfl)]; exact laidMet_laidAll _ (by kernel_rfl) (by kernel_rfl))) ?_
  intro W base args ds gs before hval0 hW hk0 hk _
  have hval : ∀ (j : Nat) t v, Tryz.f4.params[j]? = some t → args[j]? = some v → Value.okWide Tryz.prog W .any base t v := hval0
  have hW' := hW
  obtain ⟨p, q, hA0, hV, rfl, hfz, hnd⟩ := hW
  have hA : DataW.TrodAll enc Tryz.prog W 0 (fun _ => true) true Tryz.f4.params.toList args.toList ds p := hA0
  rw [Tryz.params4] at hA hval
  obtain ⟨v0, vs0, d0, ds0, p0, q0, hargs, rfl, rfl, h0, r0⟩ := trodAll_cons hA
  obtain ⟨rfl, rfl, rfl⟩ := trodAll_nil r0
  obtain rfl : args = #[v0] := by cases args; simp_all
  obtain ⟨rfl, rfl⟩ := trodVars_none hV
  have k0 := h0
  have lt0 : ∀ x ∈ p0, x.block < W.heap.size := by obtain ⟨m, hm⟩ := k0; exact DataW.trod_lt m _ _ _ hm
  obtain ⟨m0, hm0⟩ := h0
  obtain ⟨x0, ⟨v0', e0, f0⟩, s0, w0⟩ := (Reads.slice el28 rfl (Reads.int Tryz.underlying21)) m0 _ _ _ hm0
  have hv0 : v0 = v0' := slice_cell28 (hval 0 28 v0 rfl rfl) e0
  subst hv0
  have hbulk : Rows.uptoBulkAll [d0] ≤ 1048576 := of_decide_eq_true hk
  have hsz : (szL (fun _ => 1)) x0 ≤ 1048576 := by simp only [Rows.uptoBulkAll] at hbulk; omega
  have hT : law18_LabelCodes.f x0 = some true := codes_row x0 (by have := szL_len (sz := fun _ : Int => 1) (fun _ => Nat.le_refl 1) x0; omega) w0
  refine ((law18_LabelCodes.c (St.refl W)  f0 hT).2.mono fun e W' h => ?_)
  obtain ⟨v, rfl, rfl, hs⟩ := h
  have bel := hs.below
  exact ⟨_, rfl, _, _, _, [], _, [], hW', trodAll_mk1 (shut_bool Tryz.underlying4 _), (trodAll_cons_mk (Below.trod laidOut (by kernel_rfl) (of_decide_eq_true (by kernel_rfl)) k0 bel lt0) trodAll_mk0), rfl, bel.frame _, fun h => by cases h⟩
end RowLabelCodes
set_option maxRecDepth 100000 in
theorem labelCodes_closed : joinedFacts Tryz.prog 4 Tryz.f4 (Rows.OpenSpec.upto Rows.labelCodesSpec).bare Rows.labelCodesUptoRow = true := by kernel_rfl
set_option maxRecDepth 100000 in
theorem labelCodes_holds : Rows.LabelCodesUptoSaid :=
  OpenClaim.holds_of_cond 4 Tryz.f4 rfl rfl rfl rfl rfl rfl rfl ⟨rfl, rfl, rfl, rfl, rfl⟩ rfl rfl rfl rfl rfl (by kernel_rfl) Tryz.func4 labelCodes_closed
    (of_decide_eq_true (by kernel_rfl)) (by unfold Func.isWrapper; first | (rw [if_pos (by decide +kernel)]; kernel_rfl) | (rw [if_neg (by decide +kernel)]; exact ⟨rfl, rfl⟩))
    (fun os started H enc _ F => RowLabelCodes.lifted os started H enc F)
#print axioms labelCodes_holds
end Go.Proofs.YthoicbafdanmkaaGreatDoor
/- PROVED: the tied card of posternlaw18.LabelCodes (bulk at most 1048576). Own work of this repo. -/
namespace Go.Proofs.YthoicbafdanmkaaGreatDoor
open Go.ChangeShapes Go.WideShapes Go.ChangeAt
theorem labelCodes_card : Rows.LabelCodesUptoCardSaid :=
  Claim7.holds_tied_plain_at .later [] [.data, .pinned] true (true, "b5c56cd741947b617a96b64b9b4e1db8a6070d5cfa35c56202826c52d526a920") false labelCodes_holds (fun _ h => by cases h) (by kernel_rfl) (fun _ h => by cases h) labelCodesUpto_row_tie rfl ⟨rfl, rfl⟩ (by kernel_rfl) rfl
    (fun f fn hf hfn => by
      obtain rfl : f = 4 := Option.some.inj ((show Tryz.prog.funcNamed "postern/posternlaw18.LabelCodes" = some 4 by kernel_rfl).symm.trans hf) |>.symm
      obtain rfl : fn = Tryz.f4 := (Option.some.inj (Tryz.func4.symm.trans hfn)).symm
      exact ⟨by kernel_rfl, fun j t ht => by
        rw [Tryz.params4] at ht
        have hm : t ∈ [28] := by simpa using Array.mem_of_getElem? ht
        have hall : ([28].all fun u => !Tryz.prog.wantsStandIn u) = true := by kernel_rfl
        exact (show Tryz.prog.wantsStandIn t = false by simpa using List.all_eq_true.1 hall t hm)⟩)
    (by kernel_rfl)
#print axioms labelCodes_card
end Go.Proofs.YthoicbafdanmkaaGreatDoor
