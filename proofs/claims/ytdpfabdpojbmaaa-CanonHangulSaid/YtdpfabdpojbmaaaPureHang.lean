/- Plain law of 'posternlaw12.CanonHangul': what the walked function computes is true. -/
import Derived.Test.YtdpfabdpojbmaaaPureSyll
namespace Go.Proofs.Ytdpfabdpojbmaaa
open Go.RowKit

theorem refVal {l v t : Int} (h1 : 4352 ≤ l) (h2 : l < 4371) (h3 : 4449 ≤ v) (h4 : v < 4470) :
    IntKind.i32.wrap ((IntKind.i32.wrap (44032 + (IntKind.i32.wrap (588 * (IntKind.i32.wrap (l - 4352)))))) + (IntKind.i32.wrap (28 * (IntKind.i32.wrap (v - 4449))))) = 44032 + ((l - 4352) * 21 + (v - 4449)) * 28 := by
  rw [wrapc (l - 4352) (by omega) (by omega), wrapc (588 * (l - 4352)) (by omega) (by omega), wrapc (44032 + 588 * (l - 4352)) (by omega) (by omega), wrapc (v - 4449) (by omega) (by omega), wrapc (28 * (v - 4449)) (by omega) (by omega), wrapc _ (by omega) (by omega)]
  omega
theorem refHangul_eq (l v t : Int) : ref12_Hangul.f l v t = canon_Hangul.f l v t := by
  by_cases h : jamoOk l v t
  · rw [hangul_ok h]
    obtain ⟨⟨h1, h2⟩, ⟨h3, h4⟩, h5⟩ := h
    unfold ref12_Hangul.f ref12_Hangul.j58 ref12_Hangul.j67
    rw [if_neg (by omega), if_neg (by omega), if_neg (by omega), if_neg (by omega)]
    by_cases ht : t = 0
    · rw [if_neg (by simpa using ht), if_neg (by simp), if_neg (by simpa using ht), refVal (t := t) h1 h2 h3 h4]
      unfold sylOf
      rw [if_pos ht]
      simp
    · rw [if_pos ht, if_neg (by omega), if_neg (by simp; omega), if_pos ht, refVal (t := t) h1 h2 h3 h4, wrapc (t - 4519) (by omega) (by omega), wrapc _ (by omega) (by omega)]
      unfold sylOf
      rw [if_neg ht]
  · rw [hangul_no h]
    unfold ref12_Hangul.f ref12_Hangul.j58
    unfold jamoOk at h
    by_cases a1 : l < 4352
    · rw [if_pos a1, if_pos rfl]
    by_cases a2 : 4370 < l
    · rw [if_neg a1, if_pos a2, if_pos rfl]
    by_cases a3 : v < 4449
    · rw [if_neg a1, if_neg a2, if_pos a3, if_pos rfl]
    by_cases a4 : 4469 < v
    · rw [if_neg a1, if_neg a2, if_neg a3, if_pos a4, if_pos rfl]
    have ht : t ≠ 0 := fun h0 => h ⟨by omega, by omega, .inl h0⟩
    by_cases a5 : t < 4520
    · rw [if_neg a1, if_neg a2, if_neg a3, if_neg a4, if_pos ht, if_pos a5, if_pos rfl]
    · have a6 : 4546 < t := by
        have : ¬ (t = 0 ∨ (4520 ≤ t ∧ t < 4547)) := fun h3 => h ⟨by omega, by omega, h3⟩
        omega
      rw [if_neg a1, if_neg a2, if_neg a3, if_neg a4, if_pos ht, if_neg a5, if_pos (by simpa using a6)]
theorem refSyl_eq {p : Int} (h1 : p ≤ 2147483647) : ref12_Syllable.f p = canon_Syllable.f p := by
  unfold ref12_Syllable.f ref12_Syllable.j58
  by_cases a : p < 44032
  · rw [syl_no (.inl a) h1, if_pos a, if_pos rfl]
  by_cases b : 55203 < p
  · rw [syl_no (.inr (by omega)) h1, if_neg a, if_pos (by simpa using b)]
  · rw [syl_ok (by omega) (by omega), if_neg a, if_neg (by simpa using b), wrapc (p - 44032) (by omega) (by omega)]
    rw [Int.tmod_eq_emod_of_nonneg (by omega : 0 ≤ p - 44032), Int.tdiv_eq_ediv_of_nonneg (by omega : 0 ≤ p - 44032)]
    try rw [Int.tmod_eq_emod_of_nonneg (by omega : 0 ≤ p - 44032)]
    rw [Int.tdiv_eq_ediv_of_nonneg (by omega : 0 ≤ (p - 44032) % 588)]
    rw [wrapc ((p - 44032) / 588) (by omega) (by omega), wrapc (4352 + (p - 44032) / 588) (by omega) (by omega), wrapc ((p - 44032) % 588 / 28) (by omega) (by omega), wrapc (4449 + (p - 44032) % 588 / 28) (by omega) (by omega), wrapc (4519 + (p - 44032) % 28) (by omega) (by omega)]
    rw [show (p - 44032) % 588 / 28 = (p - 44032) / 28 % 21 by omega]
    by_cases h : (p - 44032) % 28 = 0
    · rw [if_pos h, if_pos h]
    · rw [if_neg h, if_neg h]
theorem sylOf_back {p : Int} (h0 : 44032 ≤ p) (h1 : p < 55204) : jamoOk (4352 + (p - 44032) / 588) (4449 + (p - 44032) / 28 % 21) (if (p - 44032) % 28 = 0 then 0 else 4519 + (p - 44032) % 28) ∧
    sylOf (4352 + (p - 44032) / 588) (4449 + (p - 44032) / 28 % 21) (if (p - 44032) % 28 = 0 then 0 else 4519 + (p - 44032) % 28) = p := by
  have e1 : p - 44032 = 588 * ((p - 44032) / 588) + 28 * ((p - 44032) / 28 % 21) + (p - 44032) % 28 := by omega
  have e2 : 0 ≤ (p - 44032) / 588 ∧ (p - 44032) / 588 < 19 := by omega
  have e3 : 0 ≤ (p - 44032) / 28 % 21 ∧ (p - 44032) / 28 % 21 < 21 := by omega
  have e4 : 0 ≤ (p - 44032) % 28 ∧ (p - 44032) % 28 < 28 := by omega
  generalize (p - 44032) / 588 = a at *
  generalize (p - 44032) / 28 % 21 = b at *
  generalize (p - 44032) % 28 = c at *
  unfold jamoOk sylOf
  by_cases h : c = 0
  · rw [if_pos h, if_pos rfl]; omega
  · rw [if_neg h, if_neg (by omega)]; omega
theorem canonHangul_true {x : Int} (hx : x ≤ 2147483647) (j : Jam) : law12_CanonHangul.f x j = some true := by
  unfold law12_CanonHangul.f
  rw [awake_true]
  simp only [Option.bind_some]
  rw [if_neg (by simp), refSyl_eq hx, refHangul_eq]
  obtain ⟨rh, eh⟩ : ∃ r, canon_Hangul.f j.l j.v j.t = some r := by
    by_cases h : jamoOk j.l j.v j.t
    · exact ⟨_, hangul_ok h⟩
    · exact ⟨_, hangul_no h⟩
  rw [eh]
  by_cases h : 44032 ≤ x ∧ x < 55204
  · rw [syl_ok h.1 h.2]
    simp only [Option.bind_some, ne_eq, not_true_eq_false, if_false, bne_self_eq_false, Bool.false_eq_true]
    unfold law12_CanonHangul.j90 law12_CanonHangul.j107
    obtain ⟨k1, k2⟩ := sylOf_back h.1 h.2
    rw [if_neg (by simp), if_pos rfl, hangul_ok k1]
    simp only [Option.bind_some]
    rw [if_pos k2]
  · rw [syl_no (by omega) hx]
    simp only [Option.bind_some, ne_eq, not_true_eq_false, if_false, bne_self_eq_false, Bool.false_eq_true]
    unfold law12_CanonHangul.j90
    rw [if_neg (by simp), if_neg (by simp)]
end Go.Proofs.Ytdpfabdpojbmaaa
