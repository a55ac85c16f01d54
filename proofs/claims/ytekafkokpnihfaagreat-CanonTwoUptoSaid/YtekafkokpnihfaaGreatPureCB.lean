/- Plain laws: what the statements of layer 12 stand on. Own work of this repo. -/
import Derived.Test.YtekafkokpnihfaaGreatPureX
import Derived.Test.YtekafkokpnihfaaGreatTD0
namespace Go.Proofs.YtekafkokpnihfaaGreat
open Go.RowKit

theorem runes_eq (a b : List Int) (hb : a.length ≤ bigN) : ref10_Runes.f a b = some (decide (a = b)) := by
  unfold ref10_Runes.f
  by_cases c : (a.length : Int) = (b.length : Int)
  · rw [if_neg (by omega)]
    have key : ∀ (s pre u preb : List Int) (q : Nat), a = pre ++ s → b = preb ++ u → pre = preb → s.length < q → ref10_Runes.l1 q a b (pre.length : Int) = some (decide (s = u)) := by
      intro s
      induction s with
      | nil =>
        intro pre u preb q e1 e2 e3 hq
        obtain ⟨q, rfl⟩ : ∃ j, q = j + 1 := ⟨q - 1, by omega⟩
        have hl : a.length = pre.length := by rw [e1]; simp
        obtain rfl : u = [] := by
          apply List.eq_nil_of_length_eq_zero
          have : b.length = preb.length + u.length := by rw [e2]; simp
          subst e3; omega
        simp only [ref10_Runes.l1, hl, if_neg (show ¬ (pre.length : Int) < (pre.length : Int) by omega)]
        rfl
      | cons x s ih =>
        intro pre u preb q e1 e2 e3 hq
        obtain ⟨q, rfl⟩ : ∃ j, q = j + 1 := ⟨q - 1, by omega⟩
        simp only [List.length_cons] at hq
        have la : a.length = pre.length + (s.length + 1) := by rw [e1]; simp
        have lb : b.length = preb.length + u.length := by rw [e2]; simp
        cases u with
        | nil => subst e3; simp at lb; omega
        | cons y u =>
          subst e3
          obtain ⟨m1, m2⟩ := mid e1
          obtain ⟨m3, m4⟩ := mid e2
          simp only [ref10_Runes.l1, if_pos m2.2, if_pos m2, if_pos m4, m1, m3, nxt hb e1]
          by_cases d : x = y
          · subst d
            rw [if_neg (by simp)]
            have := ih (pre ++ [x]) u (pre ++ [x]) q (by rw [e1]; simp) (by rw [e2]; simp) rfl (by omega)
            have e4 : ((pre ++ [x]).length : Int) = (pre.length : Int) + 1 := by simp
            rw [e4] at this
            rw [this]; simp
          · rw [if_pos d]; simp [d]
    have := key a [] b [] K0 rfl rfl rfl (ltK hb)
    simpa using this
  · rw [if_pos c, decide_eq_false (fun e => c (by rw [e]))]
theorem awake12 : law12_awake.f = some true := by
  have h1 := decompose_eq tb_none [65, 44032] (by unfold bigN; simp)
  have h2 : ordL (fun _ => (0 : Int)) (([65, 44032] : List Int).flatMap (fullN (fun _ => []) 0)) = [65, 4352, 4449] := by decide +kernel
  rw [h2] at h1
  have h3 := runes_eq [65, 4352, 4449] [65, 4352, 4449] (by unfold bigN; simp)
  rw [law12_awake.f, h1, Option.bind_some, h3, Option.bind_some]
  simp [canon_NewDecomposer.f, law12_awake.j1]

theorem tables12_yes (b : Bk) (hb : Few b) (h : okB b = true) : ∃ t, law12_tables.f b = some (some t, b, true) ∧ TabsOf b t := by
  obtain ⟨t, h1, h2⟩ := compile_eq b hb h
  obtain ⟨p, q, h3⟩ := ref_check_eq b hb
  rw [h] at h3
  refine ⟨t, ?_, h2⟩
  rw [law12_tables.f, of_eq b hb, Option.bind_some, h3, Option.bind_some, h1, Option.bind_some, if_neg (by simp), if_pos rfl, law12_tables.j1]
  rfl
theorem tables12_no (b : Bk) (hb : Few b) (h : okB b = false) : law12_tables.f b = some (none, ⟨[], [], [], [], [], [], [], [], [], [], []⟩, true) := by
  obtain ⟨p, h1⟩ := book_check_eq b
  obtain ⟨p', q, h3⟩ := ref_check_eq b hb
  rw [h] at h1 h3
  rw [law12_tables.f, of_eq b hb, Option.bind_some, h3, Option.bind_some, book_Compile.f, h1, Option.bind_some, if_pos (by simp), Option.bind_some, if_pos (by simp)]
  rfl
theorem tables12 (b : Bk) (hb : Few b) : ∃ t c key pa n, law12_tables.f b = some (t, c, true) ∧ Tb t key pa n := by
  cases h : okB b with
  | true =>
    obtain ⟨t, h1, h2⟩ := tables12_yes b hb h
    obtain ⟨key, pa, h3⟩ := tb_some hb h h2
    exact ⟨_, _, key, pa, _, h1, h3⟩
  | false => exact ⟨_, _, _, _, _, tables12_no b hb h, tb_none⟩
end Go.Proofs.YtekafkokpnihfaaGreat
