/- Plain laws, eighth part: the reference's check of a book says the same. Own work of this repo. -/
import Derived.Test.YtekafkokpnihfaaGreatPureG
namespace Go.Proofs.YtekafkokpnihfaaGreat
open Go.RowKit

theorem hang_touch (p : Int) : touchB p p = hangB p := by
  unfold touchB hangB
  rw [Bool.eq_iff_iff]
  simp only [Bool.or_eq_true, Bool.and_eq_true, decide_eq_true_eq]
  omega
theorem wrong_decomp (x : Chs) : (!wrongD (wrongW 2 x) x) = decompB x := by
  unfold wrongD wrongW decompB
  by_cases c : x.lo = x.hi
  · rw [← c, hang_touch]
    have : charsB [x.lo] 1 1 = scalB x.lo := by simp [charsB]
    rw [this]
    cases charsB x.is_ 1 2 <;> cases hangB x.lo <;> cases scalB x.lo <;> simp
  · simp [c]
theorem wrong_num (a b : Int) (x : Val) : (!wrongN a b false x) = (decide (a ≤ x.n) && decide (x.n ≤ b)) := by
  unfold wrongN
  rw [Bool.eq_iff_iff]; simp
theorem wrong_cla (a b : Int) (x : Val) : (!wrongN a b true x) = (decide (a ≤ x.n) && decide (x.n ≤ b) && !touchB x.lo x.hi) := by
  unfold wrongN
  rw [Bool.eq_iff_iff]; simp
theorem many_same {α : Type} (l : List α) (sp : α → Spn) (wr may : α → Bool) (h : ∀ x, (!wr x) = may x) : ∃ r, ref10_many.f (l.map sp) (l.map wr) = some r ∧ Says r (rowsB (fun x => (sp x).lo) (fun x => (sp x).hi) may l) := by
  obtain ⟨r, h1, h2⟩ := ref_many_map l sp wr
  rw [show (fun x => !wr x) = may from funext h] at h2
  exact ⟨r, h1, h2⟩
theorem map_id' {α : Type} (l : List α) : l.map (fun x => x) = l := by simp
theorem neg_of {r : Int} {w : Bool} (h : Says r w) : decide (r < 0) = w := by
  rcases h with ⟨rfl, rfl⟩ | ⟨rfl, h⟩
  · rfl
  · simp; omega
theorem ref_places (b : Bk) (a1 a2 a3 a4 a5 a6 a7 a8 a9 a10 a11 : Int) (h : a5 < 0 → Dok b.decomp) :
    ∃ p q, ref10_Check.l1 K0 b a1 a2 a3 a4 a5 a6 a7 a8 a9 a10 a11 0 = some (p, q, if [a1, a2, a3, a4, a5, a6, a7, a8, a9, a10, a11].all (fun x => decide (x < 0)) && goodB b.decomp [] b.decomp then 0 else 100) := by
  have hl : [a1, a2, a3, a4, a5, a6, a7, a8, a9, a10, a11].length ≤ bigN := by unfold bigN; simp
  refine loop_ind (fun k i (_ : Unit) => ref10_Check.l1 k b a1 a2 a3 a4 a5 a6 a7 a8 a9 a10 a11 i) [a1, a2, a3, a4, a5, a6, a7, a8, a9, a10, a11]
    (fun pre t _ o => (∀ x ∈ pre, x < 0) → ∃ p q, o = some (p, q, if t.all (fun x => decide (x < 0)) && goodB b.decomp [] b.decomp then 0 else 100)) ?_ ?_ () K0 (ltK hl) (fun x hx => by cases hx)
  · intro _ k hx
    have h5 := h (hx a5 (by simp))
    obtain ⟨r, e, s⟩ := ref_whole_eq b h5
    simp only [ref10_Check.l1]
    rw [if_neg (show ¬ (([a1, a2, a3, a4, a5, a6, a7, a8, a9, a10, a11] : List Int).length : Int) < (([a1, a2, a3, a4, a5, a6, a7, a8, a9, a10, a11] : List Int).length : Int) by omega), e, Option.bind_some]
    rcases s.cases' with ⟨s1, s2⟩ | ⟨s1, s2⟩
    · exact ⟨5, r, by rw [if_pos s2, s1]; rfl⟩
    · exact ⟨0, 0, by rw [if_neg s2, s1]; rfl⟩
  · intro pre x t _ k e ih hx
    obtain ⟨h1, h2⟩ := mid e
    simp only [ref10_Check.l1]
    rw [if_pos h2.2, if_pos h2, h1, nxt hl e, List.all_cons]
    by_cases c : 0 ≤ x
    · exact ⟨_, _, by rw [if_pos c, show decide (x < 0) = false by simp; omega]; rfl⟩
    · rw [if_neg c, show decide (x < 0) = true by simp; omega, Bool.true_and]
      exact ih () fun y hy => by
        rcases List.mem_append.1 hy with hy | hy
        · exact hx y hy
        · rw [List.mem_singleton.1 hy]; omega
theorem loop_map' {b : Bk} (hb : Few b) {ms : List Bool} : ref10_Check.l2 K0 b ms [] 0 = ref10_Check.t20 b ms (b.excl.map fun x => touchB x.lo x.hi) := by
  have := loop_ind (fun k i s => ref10_Check.l2 k b ms s i) b.excl
    (fun pre t s o => s = pre.map (fun x => touchB x.lo x.hi) → o = ref10_Check.t20 b ms (b.excl.map fun x => touchB x.lo x.hi))
    (fun s k hs => by
      simp only [ref10_Check.l2, if_neg (show ¬ (b.excl.length : Int) < (b.excl.length : Int) by omega)]
      rw [if_pos ⟨by omega, by have := hb.marks; unfold bigN at this; unfold most; omega⟩, hs])
    (fun pre x t s k e ih hs => by
      obtain ⟨h1, h2⟩ := mid e
      have hp : pre.length ≤ bigN := by have := hb.excl; rw [e] at this; simp at this; omega
      simp only [ref10_Check.l2, if_pos h2.2, if_pos h2, h1, ref_touches, Option.bind_some, nxt hb.excl e]
      rw [if_pos (by rw [hs, List.length_map]; exact mostle hp (Nat.le_refl _))]
      exact ih _ (by rw [hs]; simp)) [] K0 (ltK hb.excl) rfl
  exact this
theorem ref_check_eq (b : Bk) (hb : Few b) : ∃ p q, ref10_Check.f b = some (p, q, if okB b then 0 else 100) := by
  have hw := ref_written b.maps 18 hb.maps hb.mapsI
  rw [ref10_Check.f, hw, Option.bind_some]
  -- the rows of Maps
  have hl3 := loop_ind (fun k i s => ref10_Check.l3 k b s i) b.maps
    (fun pre t s o => s = (pre.map fun x => !mapB b.status x) ++ t.map (wrongW 18) → o = ref10_Check.l2 K0 b (b.maps.map fun x => !mapB b.status x) [] 0)
    (fun s k hs => by
      simp only [ref10_Check.l3, if_neg (show ¬ (b.maps.length : Int) < (b.maps.length : Int) by omega), hs, List.map_nil, List.append_nil])
    (fun pre x t s k e ih hs => by
      obtain ⟨h1, h2⟩ := mid e
      have hlen : s.length = b.maps.length := by rw [hs, e]; simp
      have hr : rd s (pre.length : Int) = wrongW 18 x := by rw [hs]; simp [rd]
      have hset : ∀ w : Bool, w = !mapB b.status x → s.set ((pre.length : Int).toNat) w = ((pre ++ [x]).map fun x => !mapB b.status x) ++ t.map (wrongW 18) := by
        intro w ew
        rw [hs, ew]; simp
      simp only [ref10_Check.l3, if_pos h2.2, if_pos h2, h1, hr, ref10_Check.j1, nxt hb.maps e, ref_meets x b.status hb.status, Option.bind_some]
      rw [if_pos ⟨h2.1, by omega⟩]
      by_cases c : wrongW 18 x = true
      · rw [if_pos c]
        refine ih _ (hset _ ?_)
        have : charsB x.is_ 1 18 = false := by unfold wrongW at c; simpa using c
        simp [mapB, this]
      · rw [if_neg c]
        refine ih _ (hset _ ?_)
        have : charsB x.is_ 1 18 = true := by unfold wrongW at c; simpa using c
        simp [mapB, this]) (b.maps.map (wrongW 18)) K0 (ltK hb.maps) (by simp)
  rw [hl3]
  rw [loop_map' hb]
  obtain ⟨r1, e1, s1⟩ := ref_names_eq b.names
  obtain ⟨r2, e2, s2⟩ := many_same b.status (fun x => (⟨x.lo, x.hi⟩ : Spn)) (wrongN 1 3 false) _ (wrong_num 1 3)
  obtain ⟨r3, e3, s3⟩ := many_same b.maps (fun x => (⟨x.lo, x.hi⟩ : Spn)) (fun x => !mapB b.status x) (mapB b.status) (fun x => by simp)
  obtain ⟨r4, e4, s4⟩ := many_same b.class_ (fun x => (⟨x.lo, x.hi⟩ : Spn)) (wrongN 1 254 true) _ (wrong_cla 1 254)
  obtain ⟨r5, e5, s5⟩ := many_same b.decomp (fun x => (⟨x.lo, x.hi⟩ : Spn)) (fun x => wrongD (wrongW 2 x) x) decompB wrong_decomp
  obtain ⟨r6, e6, s6⟩ := many_same b.excl (fun x => x) (fun x => touchB x.lo x.hi) (fun x => !touchB x.lo x.hi) (fun x => rfl)
  obtain ⟨r7, e7, s7⟩ := many_same b.bidi (fun x => (⟨x.lo, x.hi⟩ : Spn)) (wrongN 0 22 false) _ (wrong_num 0 22)
  obtain ⟨r8, e8, s8⟩ := many_same b.join (fun x => (⟨x.lo, x.hi⟩ : Spn)) (wrongN 0 5 false) _ (wrong_num 0 5)
  obtain ⟨r9, e9, s9⟩ := many_same b.marks (fun x => x) (fun _ => false) (fun _ => true) (fun x => rfl)
  obtain ⟨r10, e10, s10⟩ := many_same b.script (fun x => (⟨x.lo, x.hi⟩ : Spn)) (wrongN 1 (b.names.length : Int) false) _ (wrong_num 1 (b.names.length : Int))
  obtain ⟨r11, e11, s11⟩ := many_same b.like (fun x => (⟨x.lo, x.hi⟩ : Spn)) (wrongW 18) (fun x => charsB x.is_ 1 18) (fun x => by simp [wrongW])
  rw [map_id'] at e6 e9
  have e9' : List.map (fun _ : Spn => false) b.marks = List.replicate (b.marks.length : Int).toNat false := by rw [Int.toNat_natCast, List.map_const']
  rw [e9'] at e9
  rw [ref10_Check.t20, e1, Option.bind_some, ref10_Check.t19, ref_spans _ hb.status, Option.bind_some, ref10_Check.t18, ref_numbered _ _ _ _ hb.status, Option.bind_some, ref10_Check.t17, e2, Option.bind_some,
    ref10_Check.t16, ref_spansOf _ hb.maps, Option.bind_some, ref10_Check.t15, e3, Option.bind_some, ref10_Check.t14, ref_spans _ hb.class_, Option.bind_some, ref10_Check.t13, ref_numbered _ _ _ _ hb.class_, Option.bind_some,
    ref10_Check.t12, e4, Option.bind_some, ref10_Check.t11, ref_spansOf _ hb.decomp, Option.bind_some, ref10_Check.t10, ref_decomposed _ hb.decomp hb.decompI, Option.bind_some, ref10_Check.t9, e5, Option.bind_some,
    ref10_Check.t8, e6, Option.bind_some, ref10_Check.t7, ref_spans _ hb.bidi, Option.bind_some, ref10_Check.t6, ref_numbered _ _ _ _ hb.bidi, Option.bind_some, ref10_Check.t5, e7, Option.bind_some,
    ref10_Check.t4, ref_spans _ hb.join, Option.bind_some, ref10_Check.t3, ref_numbered _ _ _ _ hb.join, Option.bind_some, ref10_Check.t2, e8, Option.bind_some, ref10_Check.t1, e9, Option.bind_some,
    ref_spans _ hb.script, Option.bind_some, ref_numbered _ _ _ _ hb.script, Option.bind_some, e10, Option.bind_some, ref_spansOf _ hb.like, Option.bind_some, ref_written _ _ hb.like hb.likeI, Option.bind_some, e11, Option.bind_some]
  obtain ⟨p, q, e⟩ := ref_places b r1 r2 r3 r4 r5 r6 r7 r8 r9 r10 r11 (fun h => Dok.mk' (by have := neg_of s5; simp [h] at this; exact this))
  refine ⟨p, q, ?_⟩
  rw [e]
  simp only [List.all_cons, List.all_nil, Bool.and_true, neg_of s1, neg_of s2, neg_of s3, neg_of s4, neg_of s5, neg_of s6, neg_of s7, neg_of s8, neg_of s9, neg_of s10, neg_of s11]
  unfold okB numB claB
  simp only [Bool.and_assoc]
end Go.Proofs.YtekafkokpnihfaaGreat
