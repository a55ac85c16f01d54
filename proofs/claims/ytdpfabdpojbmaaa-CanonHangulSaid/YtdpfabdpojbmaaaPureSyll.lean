/- Plain law of 'posternlaw12.CanonSyllables' and 'posternlaw12.CanonHangul': what the walked functions compute is true. -/
import Derived.Test.YtdpfabdpojbmaaaT1
import Derived.IntWalk
namespace Go.Proofs.Ytdpfabdpojbmaaa
open Go.RowKit

theorem awake_true : law12_awake.f = some true := by kernel_rfl

/-! ### syllables and their jamo -/
def jamoOk (l v t : Int) : Prop := (4352 ≤ l ∧ l < 4371) ∧ (4449 ≤ v ∧ v < 4470) ∧ (t = 0 ∨ (4520 ≤ t ∧ t < 4547))
instance (l v t : Int) : Decidable (jamoOk l v t) := by unfold jamoOk; exact inferInstance
def sylOf (l v t : Int) : Int := 44032 + ((l - 4352) * 21 + (v - 4449)) * 28 + (if t = 0 then 0 else t - 4519)
theorem sylOf_arith {l v t : Int} (h : jamoOk l v t) : 44032 ≤ sylOf l v t ∧ sylOf l v t < 55204 ∧ (sylOf l v t - 44032) / 588 = l - 4352 ∧ (sylOf l v t - 44032) / 28 % 21 = v - 4449 ∧ (sylOf l v t - 44032) % 588 / 28 = v - 4449 ∧ (sylOf l v t - 44032) % 28 = (if t = 0 then 0 else t - 4519) := by
  obtain ⟨⟨h1, h2⟩, ⟨h3, h4⟩, h5⟩ := h
  unfold sylOf
  by_cases ht : t = 0
  · simp only [if_pos ht]; omega
  · simp only [if_neg ht]; omega
theorem wrapc (x : Int) (h0 : -2147483648 ≤ x) (h1 : x ≤ 2147483647) : IntKind.i32.wrap x = x := by rw [IntKind.wrap_i32]; omega
theorem wrapd (x : Int) (h0 : -9223372036854775808 ≤ x) (h1 : x ≤ 9223372036854775807) : IntKind.i64.wrap x = x := by rw [IntKind.wrap_i64]; omega
theorem hangulVal {l v t u : Int} (h1 : 4352 ≤ l) (h2 : l < 4371) (h3 : 4449 ≤ v) (h4 : v < 4470) (h5 : 4519 ≤ u) (h6 : u < 4547) (hu : u - 4519 = if t = 0 then 0 else t - 4519) :
    IntKind.i32.wrap ((IntKind.i32.wrap ((IntKind.i32.wrap (44032 + (IntKind.i32.wrap ((IntKind.i32.wrap ((IntKind.i32.wrap ((IntKind.i32.wrap ((IntKind.i32.wrap (l - 4352)) * 21)) + v)) - 4449)) * 28)))) + u)) - 4519) = sylOf l v t := by
  rw [wrapc (l - 4352) (by omega) (by omega), wrapc ((l - 4352) * 21) (by omega) (by omega), wrapc ((l - 4352) * 21 + v) (by omega) (by omega), wrapc ((l - 4352) * 21 + v - 4449) (by omega) (by omega), wrapc (((l - 4352) * 21 + v - 4449) * 28) (by omega) (by omega), wrapc (44032 + ((l - 4352) * 21 + v - 4449) * 28) (by omega) (by omega), wrapc (44032 + ((l - 4352) * 21 + v - 4449) * 28 + u) (by omega) (by omega), wrapc _ (by omega) (by omega)]
  unfold sylOf
  rw [← hu]
  omega
theorem hangul_ok {l v t : Int} (h : jamoOk l v t) : canon_Hangul.f l v t = some (sylOf l v t, true) := by
  obtain ⟨⟨h1, h2⟩, ⟨h3, h4⟩, h5⟩ := h
  have key : ∀ u, 4519 ≤ u → u < 4547 → (u - 4519 = if t = 0 then 0 else t - 4519) → canon_Hangul.j56 l v u = some (sylOf l v t, true) := by
    intro u h6 h7 hu
    unfold canon_Hangul.j56 canon_Hangul.j62
    rw [if_neg (by omega), if_neg (by omega), if_neg (by omega), if_neg (by omega), if_neg (by omega), if_neg (by simp; omega), hangulVal h1 h2 h3 h4 h6 h7 hu]
  unfold canon_Hangul.f
  by_cases ht : t = 0
  · rw [if_pos ht]; exact key 4519 (by omega) (by omega) (by rw [if_pos ht]; omega)
  · rw [if_neg ht, if_neg (by omega)]; exact key t (by omega) (by omega) (by rw [if_neg ht])
theorem hangul_no {l v t : Int} (h : ¬ jamoOk l v t) : canon_Hangul.f l v t = some (0, false) := by
  have key : ∀ u, ((4352 ≤ l ∧ l < 4371) → (4449 ≤ v ∧ v < 4470) → u < 4519 ∨ 4547 ≤ u) → canon_Hangul.j56 l v u = some (0, false) := by
    intro u hu
    unfold canon_Hangul.j56 canon_Hangul.j62
    by_cases a1 : l < 4352
    · rw [if_pos a1, if_pos rfl]
    by_cases a2 : 4371 ≤ l
    · rw [if_neg a1, if_pos a2, if_pos rfl]
    by_cases a3 : v < 4449
    · rw [if_neg a1, if_neg a2, if_pos a3, if_pos rfl]
    by_cases a4 : 4470 ≤ v
    · rw [if_neg a1, if_neg a2, if_neg a3, if_pos a4, if_pos rfl]
    by_cases a5 : u < 4519
    · rw [if_neg a1, if_neg a2, if_neg a3, if_neg a4, if_pos a5, if_pos rfl]
    · rw [if_neg a1, if_neg a2, if_neg a3, if_neg a4, if_neg a5, if_pos (by simp; have := hu (by omega) (by omega); omega)]
  unfold jamoOk at h
  unfold canon_Hangul.f
  by_cases ht : t = 0
  · rw [if_pos ht]; exact key 4519 (fun h1 h2 => absurd ⟨h1, h2, .inl ht⟩ h)
  · rw [if_neg ht]
    by_cases h9 : t = 4519
    · rw [if_pos h9]
    · rw [if_neg h9]; exact key t (fun h1 h2 => by have : ¬ (t = 0 ∨ (4520 ≤ t ∧ t < 4547)) := fun h3 => h ⟨h1, h2, h3⟩; omega)
theorem syl_ok {p : Int} (h0 : 44032 ≤ p) (h1 : p < 55204) : canon_Syllable.f p = some (4352 + (p - 44032) / 588, 4449 + (p - 44032) / 28 % 21, if (p - 44032) % 28 = 0 then 0 else 4519 + (p - 44032) % 28, true) := by
  unfold canon_Syllable.f canon_Syllable.j60 canon_Syllable.j69
  rw [if_neg (by omega), wrapc (p - 44032) (by omega) (by omega), if_neg (by simp; omega)]
  rw [Int.tmod_eq_emod_of_nonneg (by omega : 0 ≤ p - 44032), Int.tdiv_eq_ediv_of_nonneg (by omega : 0 ≤ p - 44032), Int.tdiv_eq_ediv_of_nonneg (by omega : 0 ≤ p - 44032)]
  try rw [wrapc ((p - 44032) / 28) (by omega) (by omega)]
  rw [Int.tmod_eq_emod_of_nonneg (by omega : 0 ≤ (p - 44032) / 28)]
  rw [wrapc ((p - 44032) / 588) (by omega) (by omega), wrapc (4352 + (p - 44032) / 588) (by omega) (by omega), wrapc (4449 + (p - 44032) / 28 % 21) (by omega) (by omega), wrapc (4519 + (p - 44032) % 28) (by omega) (by omega)]
  by_cases h : (p - 44032) % 28 = 0
  · rw [if_pos (by omega), if_pos h]
  · rw [if_neg (by omega), if_neg h]
theorem syl_no {p : Int} (h : p < 44032 ∨ 55204 ≤ p) (h1 : p ≤ 2147483647) : canon_Syllable.f p = some (0, 0, 0, false) := by
  unfold canon_Syllable.f canon_Syllable.j60
  by_cases h0 : p < 44032
  · rw [if_pos h0, if_pos rfl]
  · rw [if_neg h0, wrapc (p - 44032) (by omega) (by omega), if_pos (by simp; omega)]
theorem syl_of {l v t : Int} (h : jamoOk l v t) : canon_Syllable.f (sylOf l v t) = some (l, v, t, true) := by
  obtain ⟨a, b, c, d, e, f⟩ := sylOf_arith h
  rw [syl_ok a b, c, d, f]
  have ht : (if (if t = 0 then 0 else t - 4519) = 0 then 0 else 4519 + (if t = 0 then 0 else t - 4519)) = t := by
    obtain ⟨_, _, h5⟩ := h
    by_cases h0 : t = 0
    · simp [h0]
    · rw [if_neg h0, if_neg (by omega)]; omega
  rw [ht]
  congr 1
  rw [show (4352 : Int) + (l - 4352) = l by omega, show (4449 : Int) + (v - 4449) = v by omega]

/-! ### the loops of CanonSyllables -/
def cntT (l v t : Int) : Int := if (4352 ≤ l ∧ l < 4371) ∧ (4449 ≤ v ∧ v < 4470) then (if t ≤ 4519 then 28 else if t ≤ 4547 then 4547 - t else 0) else 0
def cntV (l v : Int) : Int := if 4352 ≤ l ∧ l < 4371 then (if v ≤ 4449 then 588 else if v ≤ 4470 then (4470 - v) * 28 else 0) else 0
theorem loopT (go : Int → Int → Option Bool) (l v : Int) (hv : 4440 ≤ v ∧ v < 4480) : ∀ (d k : Nat) (n t : Int), 4518 ≤ t → t + d = 4550 → d < k → 0 ≤ n → n ≤ 1000000 + 32 * (t - 4518) →
    law12_CanonSyllables.l108 go k l v n t = go (n + cntT l v t) (v + 1) := by
  intro d
  induction d with
  | zero =>
    intro k n t h0 h1 h2 h3 h4
    obtain ⟨k, rfl⟩ : ∃ m, k = m + 1 := ⟨k - 1, by omega⟩
    rw [law12_CanonSyllables.l108, if_neg (by omega), wrapc (v + 1) (by omega) (by omega)]
    rw [show n + cntT l v t = n by unfold cntT; repeat' split
                                   all_goals omega]
  | succ d ih =>
    intro k n t h0 h1 h2 h3 h4
    obtain ⟨k, rfl⟩ : ∃ m, k = m + 1 := ⟨k - 1, by omega⟩
    rw [law12_CanonSyllables.l108, if_pos (by omega)]
    have step : ∀ x : Int, (x = if t = 4519 then 0 else t) → law12_CanonSyllables.j128 (law12_CanonSyllables.l108 go k l v) l v n t x = go (n + cntT l v t) (v + 1) := by
      intro x hx
      unfold law12_CanonSyllables.j128
      by_cases hj : jamoOk l v x
      · rw [hangul_ok hj]
        simp only [Option.bind_some]
        rw [if_neg (by simp), syl_of hj]
        simp only [Option.bind_some]
        rw [if_neg (by simp), if_neg (by simp), if_neg (by simp)]
        unfold law12_CanonSyllables.j149 law12_CanonSyllables.j119
        rw [if_neg (by simp), wrapc (t + 1) (by omega) (by omega), wrapd (n + 1) (by omega) (by omega), ih k (n + 1) (t + 1) (by omega) (by omega) (by omega) (by omega) (by omega)]
        congr 1
        unfold jamoOk at hj
        have hx' : (t = 4519 ∧ x = 0) ∨ (t ≠ 4519 ∧ x = t) := by split at hx <;> omega
        clear ih hx
        unfold cntT
        repeat' split
        all_goals omega
      · rw [hangul_no hj]
        simp only [Option.bind_some]
        rw [if_pos (by simp)]
        unfold law12_CanonSyllables.j119
        rw [wrapc (t + 1) (by omega) (by omega), ih k n (t + 1) (by omega) (by omega) (by omega) (by omega) (by omega)]
        congr 1
        unfold jamoOk at hj
        have hx' : (t = 4519 ∧ x = 0) ∨ (t ≠ 4519 ∧ x = t) := by split at hx <;> omega
        clear ih hx
        unfold cntT
        repeat' split
        all_goals omega
    by_cases h9 : t = 4519
    · rw [if_pos h9]; exact step 0 (by rw [if_pos h9])
    · rw [if_neg h9]; exact step t (by rw [if_neg h9])
theorem loopV (go : Int → Int → Option Bool) (l : Int) (hl : 0 ≤ l ∧ l < 4400) : ∀ (d k : Nat) (n v : Int), 4440 ≤ v → v + d = 4480 → d < k → 0 ≤ n → n ≤ 100000 + 32 * (v - 4440) →
    law12_CanonSyllables.l90 go k l n v = go (n + cntV l v) (l + 1) := by
  intro d
  induction d with
  | zero =>
    intro k n v h0 h1 h2 h3 h4
    obtain ⟨k, rfl⟩ : ∃ m, k = m + 1 := ⟨k - 1, by omega⟩
    rw [law12_CanonSyllables.l90, if_neg (by omega), wrapc (l + 1) (by omega) (by omega)]
    rw [show n + cntV l v = n by unfold cntV; repeat' split
                                 all_goals omega]
  | succ d ih =>
    intro k n v h0 h1 h2 h3 h4
    obtain ⟨k, rfl⟩ : ∃ m, k = m + 1 := ⟨k - 1, by omega⟩
    have hc : 0 ≤ cntT l v 4518 ∧ cntT l v 4518 ≤ 28 := by unfold cntT; split <;> simp
    rw [law12_CanonSyllables.l90, if_pos (by omega), loopT _ l v ⟨by omega, by omega⟩ 32 K0 n 4518 (by omega) (by omega) (by decide) h3 (by omega), ih k _ (v + 1) (by omega) (by omega) (by omega) (by omega) (by omega)]
    congr 1
    unfold cntT cntV
    by_cases h : 4352 ≤ l ∧ l < 4371
    · by_cases h5 : 4449 ≤ v ∧ v < 4470
      · rw [if_pos ⟨h, h5⟩, if_pos (by omega), if_pos h, if_pos h]
        by_cases h6 : v = 4449
        · rw [if_neg (by omega), if_pos (by omega), if_pos (by omega)]; omega
        · rw [if_neg (by omega), if_pos (by omega), if_neg (by omega), if_pos (by omega)]; omega
      · rw [if_neg (fun h7 => h5 h7.2), if_pos h, if_pos h]
        by_cases h6 : v < 4449
        · rw [if_pos (by omega), if_pos (by omega)]; omega
        · by_cases h7 : v = 4470
          · rw [if_neg (by omega), if_neg (by omega), if_neg (by omega), if_pos (by omega)]; omega
          · rw [if_neg (by omega), if_neg (by omega), if_neg (by omega), if_neg (by omega)]; omega
    · rw [if_neg (fun h7 => h h7.1), if_neg h, if_neg h]; omega
def cntL (m l : Int) : Int := if m ≤ l then 0 else if m ≤ 4352 then 0 else if 4371 ≤ l then 0 else (min m 4371 - max l 4352) * 588
theorem loopL (x y : Int) : ∀ (d k : Nat) (n l : Int), 4300 ≤ l → (l + d = 4400 ∨ (d = 0 ∧ 4400 ≤ l)) → d < k → 0 ≤ n → n ≤ 588 * (l - 4300) → n + cntL (min y 4400) l ≤ 11172 →
    law12_CanonSyllables.l72 k x y n l = (if 4352 < x ∨ y < 4371 then some (decide (n + cntL (min y 4400) l < 11172)) else some (decide (n + cntL (min y 4400) l = 11172))) := by
  have fin : ∀ n : Int, (if 4352 < x then law12_CanonSyllables.j164 n true else law12_CanonSyllables.j164 n (decide (y < 4371))) = (if 4352 < x ∨ y < 4371 then some (decide (n < 11172)) else some (decide (n = 11172))) := by
    intro n
    unfold law12_CanonSyllables.j164
    by_cases h1 : 4352 < x
    · rw [if_pos h1, if_pos rfl, if_pos (.inl h1)]
    · by_cases h2 : y < 4371
      · rw [if_neg h1, if_pos (by simp [h2]), if_pos (.inr h2)]
      · rw [if_neg h1, if_neg (by simp [h2]), if_neg (by omega)]
  intro d
  induction d with
  | zero =>
    intro k n l h0 h1 h2 h3 h4 _
    obtain ⟨k, rfl⟩ : ∃ m, k = m + 1 := ⟨k - 1, by omega⟩
    rw [law12_CanonSyllables.l72, if_neg (by omega), fin, show cntL (min y 4400) l = 0 by unfold cntL; rw [if_pos (by omega)]]
    simp
  | succ d ih =>
    intro k n l h0 h1 h2 h3 h4 h5
    obtain ⟨k, rfl⟩ : ∃ m, k = m + 1 := ⟨k - 1, by omega⟩
    rw [law12_CanonSyllables.l72]
    by_cases h : l < min y 4400
    · have hstep : cntV l 4440 + cntL (min y 4400) (l + 1) = cntL (min y 4400) l := by
        have hm : min y 4400 ≤ 4400 := by omega
        generalize min y 4400 = m at *
        clear ih fin h1 h2 h3 h4 h5
        unfold cntV cntL
        repeat' split
        all_goals omega
      have hcv : 0 ≤ cntV l 4440 ∧ cntV l 4440 ≤ 588 := by unfold cntV; split <;> simp
      rw [if_pos h, loopV _ l ⟨by omega, by omega⟩ 40 K0 n 4440 (by omega) (by omega) (by decide) h3 (by omega), ih k _ (l + 1) (by omega) (by omega) (by omega) (by omega) (by omega) (by omega)]
      rw [show n + cntV l 4440 + cntL (min y 4400) (l + 1) = n + cntL (min y 4400) l by omega]
    · rw [if_neg h, fin, show cntL (min y 4400) l = 0 by unfold cntL; rw [if_pos (by omega)]]
      simp
theorem canonSyllables_true {x y : Int} (hx : (Lit.int .i32 x).wf = true) (hy : (Lit.int .i32 y).wf = true) : law12_CanonSyllables.f x y = some true := by
  unfold law12_CanonSyllables.f
  rw [awake_true]
  simp only [Option.bind_some]
  rw [if_neg (by simp)]
  have hb : cntL (min y 4400) (max x 4300) ≤ 11172 := by
    unfold cntL
    split
    · omega
    split
    · omega
    split
    · omega
    · omega
  rw [loopL x y (4400 - max x 4300).toNat K0 0 (max x 4300) (by omega) (by omega) (by have : K0 = 1180591620717411303424 := rfl; omega) (by omega) (by omega) (by omega)]
  unfold cntL
  by_cases h1 : 4352 < x ∨ y < 4371
  · rw [if_pos h1]
    congr 1
    simp only [decide_eq_true_eq]
    split
    · omega
    split
    · omega
    split
    · omega
    · omega
  · rw [if_neg h1]
    congr 1
    simp only [decide_eq_true_eq]
    rw [if_neg (by omega), if_neg (by omega), if_neg (by omega)]
    omega
end Go.Proofs.Ytdpfabdpojbmaaa
