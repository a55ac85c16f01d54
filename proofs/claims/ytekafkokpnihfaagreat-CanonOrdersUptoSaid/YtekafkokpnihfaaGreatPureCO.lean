/- Plain law of posternlaw12.CanonOrders. Own work of this repo. -/
import Derived.Test.YtekafkokpnihfaaGreatPureX
import Derived.Test.YtekafkokpnihfaaGreatTD0
namespace Go.Proofs.YtekafkokpnihfaaGreat
open Go.RowKit

theorem runes_eq (a b : List Int) (hb : a.length ≤ bigN) : ref10_Runes.f a b = some (decide (a = b)) := by
  unfold ref10_Runes.f
  by_cases c : (a.length : Int) = (b.length : Int)
  · rw [if_neg (by omega)]
    have key : ∀ (s pre u preb : List Int) (q : Nat), a = pre ++ s → b = preb ++ u → pre = preb → s.length < q → ref10_Runes.l1 q a b (pre.length : Int) = some (decide (s = u)) := by
      intro s
      induction s with
      | nil =>
        intro pre u preb q e1 e2 e3 hq
        obtain ⟨q, rfl⟩ : ∃ j, q = j + 1 := ⟨q - 1, by omega⟩
        have hl : a.length = pre.length := by rw [e1]; simp
        obtain rfl : u = [] := by
          apply List.eq_nil_of_length_eq_zero
          have : b.length = preb.length + u.length := by rw [e2]; simp
          subst e3; omega
        simp only [ref10_Runes.l1, hl, if_neg (show ¬ (pre.length : Int) < (pre.length : Int) by omega)]
        rfl
      | cons x s ih =>
        intro pre u preb q e1 e2 e3 hq
        obtain ⟨q, rfl⟩ : ∃ j, q = j + 1 := ⟨q - 1, by omega⟩
        simp only [List.length_cons] at hq
        have la : a.length = pre.length + (s.length + 1) := by rw [e1]; simp
        have lb : b.length = preb.length + u.length := by rw [e2]; simp
        cases u with
        | nil => subst e3; simp at lb; omega
        | cons y u =>
          subst e3
          obtain ⟨m1, m2⟩ := mid e1
          obtain ⟨m3, m4⟩ := mid e2
          simp only [ref10_Runes.l1, if_pos m2.2, if_pos m2, if_pos m4, m1, m3, nxt hb e1]
          by_cases d : x = y
          · subst d
            rw [if_neg (by simp)]
            have := ih (pre ++ [x]) u (pre ++ [x]) q (by rw [e1]; simp) (by rw [e2]; simp) rfl (by omega)
            have e4 : ((pre ++ [x]).length : Int) = (pre.length : Int) + 1 := by simp
            rw [e4] at this
            rw [this]; simp
          · rw [if_pos d]; simp [d]
    have := key a [] b [] K0 rfl rfl rfl (ltK hb)
    simpa using this
  · rw [if_pos c, decide_eq_false (fun e => c (by rw [e]))]
theorem awake12 : law12_awake.f = some true := by
  have h1 := decompose_eq tb_none [65, 44032] (by unfold bigN; simp)
  have h2 : ordL (fun _ => (0 : Int)) (([65, 44032] : List Int).flatMap (fullN (fun _ => []) 0)) = [65, 4352, 4449] := by decide +kernel
  rw [h2] at h1
  have h3 := runes_eq [65, 4352, 4449] [65, 4352, 4449] (by unfold bigN; simp)
  rw [law12_awake.f, h1, Option.bind_some, h3, Option.bind_some]
  simp [canon_NewDecomposer.f, law12_awake.j1]

def okO (key : Int → Int) : Int → List Int → Prop
  | _, [] => True
  | a, x :: t => ¬ (key x ≠ 0 ∧ key x < a) ∧ okO key (key x) t
theorem srt_ok {key : Int → Int} {rest : List Int} (hr : ∀ b, okO key b rest) : ∀ (S : List Int) (a : Int), Srt key S → (∀ x ∈ S, a ≤ key x) → okO key a (S ++ rest)
  | [], a, _, _ => hr a
  | x :: S, a, h, h2 => ⟨fun hc => by have := h2 x (by simp); omega, srt_ok hr S (key x) h.2 h.1⟩
theorem ordA_ok {key : Int → Int} (nn : ∀ p, 0 ≤ key p) : ∀ (l acc : List Int), okO key 0 (ordA key acc l)
  | [], acc => by
    have := srt_ok (key := key) (rest := []) (fun _ => trivial) (sortL key acc) 0 (srt_sort key _) (fun x _ => nn x)
    simpa [ordA] using this
  | x :: t, acc => by
    unfold ordA
    split
    · rename_i c
      exact srt_ok (key := key) (rest := x :: ordA key [] t) (fun b => ⟨fun hc => hc.1 c, by rw [c]; exact ordA_ok nn t []⟩) _ 0 (srt_sort key _) (fun x _ => nn x)
    · exact ordA_ok nn t _
theorem ordered_ok {t : Option Tbs} {key : Int → Int} (h : Cls t key) (l : List Int) (hl : l.length ≤ bigN) (ho : okO key 0 l) : canon_Ordered.f t l = some (-1) := by
  have key' : ∀ (s pre : List Int) (a : Int) (q : Nat), l = pre ++ s → s.length < q → okO key a s → canon_Ordered.l1 q t l a (pre.length : Int) = some (-1) := by
    intro s
    induction s with
    | nil =>
      intro pre a q e1 hq _
      obtain ⟨q, rfl⟩ : ∃ j, q = j + 1 := ⟨q - 1, by omega⟩
      have hl : l.length = pre.length := by rw [e1]; simp
      simp only [canon_Ordered.l1, hl, if_neg (show ¬ (pre.length : Int) < (pre.length : Int) by omega)]
    | cons x s ih =>
      intro pre a q e1 hq hk
      obtain ⟨q, rfl⟩ : ∃ j, q = j + 1 := ⟨q - 1, by omega⟩
      simp only [List.length_cons] at hq
      obtain ⟨m1, m2⟩ := mid e1
      have := ih (pre ++ [x]) (key x) q (by rw [e1]; simp) (by omega) hk.2
      have e4 : ((pre ++ [x]).length : Int) = (pre.length : Int) + 1 := by simp
      rw [e4] at this
      simp only [canon_Ordered.l1, if_pos m2.2, if_pos m2, m1, h x, Option.bind_some, canon_Ordered.j1, nxt hl e1]
      by_cases c : key x = 0
      · rw [if_neg (by simpa using c), if_neg (by decide)]; exact this
      · rw [if_pos c]
        have hc := hk.1
        rw [if_neg (by simp; omega)]; exact this
  have := key' l [] 0 K0 rfl (ltK hl) ho
  simpa [canon_Ordered.f] using this

theorem shuf_sub (a b : List Int) (go : Int → Option Bool) (p i : Int) (hp : rd a i = p) (hb : b.length ≤ bigN) : ∀ (s pre : List Int) (n : Int) (q : Nat), b = pre ++ s → s.length < q → n = (s.count p : Int) →
    law12_shuffled.l1 go q a b i n (pre.length : Int) = go (IntKind.i64.wrap (i + 1)) := by
  intro s
  induction s with
  | nil =>
    intro pre n q e1 hq hn
    obtain ⟨q, rfl⟩ : ∃ j, q = j + 1 := ⟨q - 1, by omega⟩
    have hl : b.length = pre.length := by rw [e1]; simp
    simp only [law12_shuffled.l1, hl, if_neg (show ¬ (pre.length : Int) < (pre.length : Int) by omega)]
    rw [if_neg (by simp at hn; omega)]
  | cons x s ih =>
    intro pre n q e1 hq hn
    obtain ⟨q, rfl⟩ : ∃ j, q = j + 1 := ⟨q - 1, by omega⟩
    simp only [List.length_cons] at hq
    obtain ⟨m1, m2⟩ := mid e1
    have e4 : ((pre ++ [x]).length : Int) = (pre.length : Int) + 1 := by simp
    have hc : s.count p ≤ s.length := List.count_le_length
    have hl : b.length = pre.length + (s.length + 1) := by rw [e1]; simp
    unfold bigN at hb
    simp only [law12_shuffled.l1, if_pos m2.2, if_pos m2, m1, hp, law12_shuffled.j2, nxt (show b.length ≤ bigN by unfold bigN; omega) e1]
    by_cases c : p = x
    · subst c
      rw [if_pos rfl]
      have hn' : n = (s.count p : Int) + 1 := by rw [hn]; simp
      have := ih (pre ++ [p]) (n - 1) q (by rw [e1]; simp) (by omega) (by omega)
      rw [e4] at this
      rw [w64 (by omega) (by omega)]; exact this
    · rw [if_neg c]
      have hn' : n = (s.count p : Int) := by rw [hn, List.count_cons_of_ne (fun h => c h.symm)]
      have := ih (pre ++ [x]) n q (by rw [e1]; simp) (by omega) hn'
      rw [e4] at this
      exact this
theorem shuf_add (a b : List Int) (go : Int → Option Bool) (p i : Int) (hp : rd a i = p) (ha : a.length ≤ bigN) (hb : b.length ≤ bigN) (hab : a.count p = b.count p) : ∀ (s pre : List Int) (n : Int) (q : Nat), a = pre ++ s → s.length < q → n + s.count p = (a.count p : Int) → 0 ≤ n →
    law12_shuffled.l2 go q a b i n (pre.length : Int) = go (IntKind.i64.wrap (i + 1)) := by
  intro s
  have hc : a.count p ≤ a.length := List.count_le_length
  have ha' := ha
  unfold bigN at ha'
  induction s with
  | nil =>
    intro pre n q e1 hq hn h0
    obtain ⟨q, rfl⟩ : ∃ j, q = j + 1 := ⟨q - 1, by omega⟩
    have hl : a.length = pre.length := by rw [e1]; simp
    simp only [law12_shuffled.l2, hl, if_neg (show ¬ (pre.length : Int) < (pre.length : Int) by omega)]
    exact shuf_sub a b go p i hp hb b [] n K0 rfl (ltK hb) (by simp at hn; omega)
  | cons x s ih =>
    intro pre n q e1 hq hn h0
    obtain ⟨q, rfl⟩ : ∃ j, q = j + 1 := ⟨q - 1, by omega⟩
    simp only [List.length_cons] at hq
    obtain ⟨m1, m2⟩ := mid e1
    have e4 : ((pre ++ [x]).length : Int) = (pre.length : Int) + 1 := by simp
    simp only [law12_shuffled.l2, if_pos m2.2, if_pos m2, m1, hp, law12_shuffled.j1, nxt ha e1]
    by_cases c : p = x
    · subst c
      rw [if_pos rfl]
      have hn' : n + 1 + (s.count p : Int) = (a.count p : Int) := by simp at hn; omega
      have := ih (pre ++ [p]) (n + 1) q (by rw [e1]; simp) (by omega) hn' (by omega)
      rw [e4] at this
      rw [w64 (by omega) (by omega)]; exact this
    · rw [if_neg c]
      have hn' : n + (s.count p : Int) = (a.count p : Int) := by rw [List.count_cons_of_ne (fun h => c h.symm)] at hn; exact hn
      have := ih (pre ++ [x]) n q (by rw [e1]; simp) (by omega) hn' h0
      rw [e4] at this
      exact this
theorem shuf_ok (a b : List Int) (ha : a.length ≤ bigN) (hl : a.length = b.length) (hc : ∀ p, a.count p = b.count p) : law12_shuffled.f a b = some true := by
  have key : ∀ (s pre : List Int) (q : Nat), a = pre ++ s → s.length < q → law12_shuffled.l3 q a b (pre.length : Int) = some true := by
    intro s
    induction s with
    | nil =>
      intro pre q e1 hq
      obtain ⟨q, rfl⟩ : ∃ j, q = j + 1 := ⟨q - 1, by omega⟩
      have hl' : a.length = pre.length := by rw [e1]; simp
      simp only [law12_shuffled.l3, if_neg (show ¬ (pre.length : Int) < (a.length : Int) by omega)]
      rw [decide_eq_true (by omega)]
    | cons x s ih =>
      intro pre q e1 hq
      obtain ⟨q, rfl⟩ : ∃ j, q = j + 1 := ⟨q - 1, by omega⟩
      simp only [List.length_cons] at hq
      obtain ⟨m1, m2⟩ := mid e1
      have e4 : ((pre ++ [x]).length : Int) = (pre.length : Int) + 1 := by simp
      have := ih (pre ++ [x]) q (by rw [e1]; simp) (by omega)
      rw [e4] at this
      simp only [law12_shuffled.l3, if_pos m2.2, if_pos m2]
      have h2 := shuf_add a b (law12_shuffled.l3 q a b) x (pre.length : Int) m1 ha (by omega) (hc x) a [] 0 K0 rfl (ltK ha) (by simp) (by omega)
      simp only [List.length_nil] at h2
      rw [show ((0 : Nat) : Int) = 0 from rfl] at h2
      rw [h2, nxt ha e1]; exact this
  have := key a [] K0 rfl (ltK ha)
  simpa [law12_shuffled.f] using this
theorem feq_count {key : Int → Int} {a b : List Int} (h : Feq key a b) (p : Int) : a.count p = b.count p := by
  have h1 := List.count_filter (p := fun x => decide (key x = key p)) (a := p) (l := a) (by simp)
  have h2 := List.count_filter (p := fun x => decide (key x = key p)) (a := p) (l := b) (by simp)
  rw [← h1, ← h2, h (key p)]
theorem sub_mid {A M R : List Int} : sub (A ++ (M ++ R)) (A.length : Int) ((A.length : Int) + M.length) = M := by
  have : ((A.length : Int) + M.length).toNat = A.length + M.length := by omega
  simp [sub, this, List.take_append]

theorem orders_loop {t : Option Tbs} {key : Int → Int} (h : Cls t key) (x y : List Int) (r : Option Tbs × Bk × Bool) (hr : r.1 = t) (hx : x.length ≤ bigN - 1) (fin : Option Bool)
    (hfin : ∀ (q : Nat) (f i : Int), (x.length : Int) < i → law12_CanonOrders.l1 (q + 1) x y r (ordL key x) f i = fin) : ∀ (R A A' E acc : List Int) (q : Nat), x = A ++ ((E ++ acc) ++ R) → A'.length = A.length → ordL key x = A' ++ (E ++ ordA key acc R) → R.length + 1 < q →
    law12_CanonOrders.l1 q x y r (ordL key x) (A.length : Int) ((A.length : Int) + (E ++ acc).length) = fin := by
  have hb' := hx
  unfold bigN at hb'
  -- one stretch
  have one : ∀ (A A' E acc R : List Int) (go : Int → Int → Option Bool), x = A ++ ((E ++ acc) ++ R) → A'.length = A.length → ordL key x = A' ++ ((E ++ sortL key acc) ++ ordA key [] R) ∨ (ordL key x = A' ++ ((E ++ sortL key acc) ++ R)) → 
      ∃ g : True, sub (ordL key x) (A.length : Int) ((A.length : Int) + (E ++ acc).length) = E ++ sortL key acc ∧ sub x (A.length : Int) ((A.length : Int) + (E ++ acc).length) = E ++ acc ∧ law12_shuffled.f (E ++ sortL key acc) (E ++ acc) = some true := by
    intro A A' E acc R go e1 e2 e3
    refine ⟨trivial, ?_, ?_, ?_⟩
    · have hl : (E ++ acc).length = (E ++ sortL key acc).length := by simp [sort_len]
      rcases e3 with e3 | e3 <;> rw [e3, hl, ← e2, sub_mid]
    · have := sub_mid (A := A) (M := E ++ acc) (R := R)
      rw [← e1] at this; exact this
    · have hxl : x.length = A.length + ((E ++ acc).length + R.length) := by rw [e1]; simp; omega
      have hl : (E ++ sortL key acc).length = (E ++ acc).length := by simp [sort_len]
      refine shuf_ok _ _ (by rw [hl]; unfold bigN; omega) hl (fun p => ?_)
      rw [List.count_append, List.count_append, feq_count (feq_sort key acc)]
  intro R
  induction R with
  | nil =>
    intro A A' E acc q e1 e2 e3 hq
    obtain ⟨q, rfl⟩ : ∃ j, q = j + 2 := ⟨q - 2, by simp at hq; omega⟩
    have hxl : x.length = A.length + (E ++ acc).length := by rw [e1]; simp
    have hol : (ordL key x).length = x.length := ord_len key x
    obtain ⟨_, g1, g2, g3⟩ := one A A' E acc [] (fun _ _ => none) e1 e2 (.inr (by rw [e3]; simp [ordA]))
    have w1 : IntKind.i64.wrap ((A.length : Int) + (E ++ acc).length + 1) = (A.length : Int) + (E ++ acc).length + 1 := w64 (by omega) (by omega)
    rw [law12_CanonOrders.l1]
    simp only [hxl]
    rw [if_pos (by omega), if_neg (by omega)]
    simp only [law12_CanonOrders.j3, Bool.false_eq_true, if_false, hol, hxl]
    rw [if_neg (by omega), if_pos ⟨by omega, by omega, by omega⟩, if_pos ⟨by omega, by omega, by omega⟩, g1, g2, g3, Option.bind_some]
    simp only [law12_CanonOrders.j2, Bool.not_true, Bool.false_eq_true, if_false, law12_CanonOrders.j1, w1]
    exact hfin q _ _ (by omega)
  | cons z R ih =>
    intro A A' E acc q e1 e2 e3 hq
    obtain ⟨q, rfl⟩ : ∃ j, q = j + 1 := ⟨q - 1, by omega⟩
    simp only [List.length_cons] at hq
    have hxl : x.length = A.length + (E ++ acc).length + R.length + 1 := by rw [e1]; simp; omega
    have hol : (ordL key x).length = x.length := ord_len key x
    have rz : rd x ((A.length : Int) + (E ++ acc).length) = z := by
      have := rd_at (A := A ++ (E ++ acc)) (B := R) (x := z) (i := (A.length : Int) + (E ++ acc).length) (by simp)
      rw [e1]; simpa using this
    have w1 : IntKind.i64.wrap ((A.length : Int) + (E ++ acc).length + 1) = (A.length : Int) + (E ++ acc).length + 1 := w64 (by omega) (by omega)
    rw [law12_CanonOrders.l1, if_pos (by omega), if_pos (by omega), if_pos ⟨by omega, by omega⟩, hr, rz, h z, Option.bind_some]
    by_cases c : key z = 0
    · rw [decide_eq_false (by simpa using c)]
      have e5 : ordL key x = A' ++ ((E ++ sortL key acc) ++ (z :: ordA key [] R)) := by rw [e3, ordA, if_pos c]; simp
      obtain ⟨_, g1, g2, g3⟩ := one A A' E acc (z :: R) (fun _ _ => none) e1 e2 (.inl (by rw [e5, ordA, if_pos c]; simp [sortL]))
      have ro : rd (ordL key x) ((A.length : Int) + (E ++ acc).length) = z := by
        have hl : (E ++ acc).length = (E ++ sortL key acc).length := by simp [sort_len]
        have := rd_at (A := A' ++ (E ++ sortL key acc)) (B := ordA key [] R) (x := z) (i := (A.length : Int) + (E ++ acc).length) (by simp [sort_len]; omega)
        rw [e5]; simpa using this
      simp only [law12_CanonOrders.j3, Bool.false_eq_true, if_false, hol]
      rw [if_pos (by omega), if_pos ⟨by omega, by omega⟩, if_pos ⟨by omega, by omega⟩, ro, rz, if_neg (by simp), if_pos ⟨by omega, by omega, by omega⟩, if_pos ⟨by omega, by omega, by omega⟩, g1, g2, g3, Option.bind_some]
      simp only [law12_CanonOrders.j2, Bool.not_true, Bool.false_eq_true, if_false, law12_CanonOrders.j1, w1]
      have := ih (A ++ (E ++ acc)) (A' ++ (E ++ sortL key acc)) [z] [] q (by rw [e1]; simp) (by simp [sort_len]; omega) (by rw [e5]; simp) (by omega)
      have e6 : ((A ++ (E ++ acc)).length : Int) = (A.length : Int) + (E ++ acc).length := by simp
      have e7 : (([z] ++ ([] : List Int)).length : Int) = 1 := rfl
      rw [e6, e7] at this
      exact this
    · rw [decide_eq_true (by simpa using c)]
      simp only [law12_CanonOrders.j3, if_true, law12_CanonOrders.j1, w1]
      have := ih A A' E (acc ++ [z]) q (by rw [e1]; simp) e2 (by rw [e3, ordA, if_neg c]) (by omega)
      have e6 : ((E ++ (acc ++ [z])).length : Int) = ((E ++ acc).length : Int) + 1 := by simp; omega
      rw [e6] at this
      have e8 : (A.length : Int) + (((E ++ acc).length : Int) + 1) = (A.length : Int) + (E ++ acc).length + 1 := by omega
      rw [e8] at this
      exact this

theorem tables12_yes (b : Bk) (hb : Few b) (h : okB b = true) : ∃ t, law12_tables.f b = some (some t, b, true) ∧ TabsOf b t := by
  obtain ⟨t, h1, h2⟩ := compile_eq b hb h
  obtain ⟨p, q, h3⟩ := ref_check_eq b hb
  rw [h] at h3
  refine ⟨t, ?_, h2⟩
  rw [law12_tables.f, of_eq b hb, Option.bind_some, h3, Option.bind_some, h1, Option.bind_some, if_neg (by simp), if_pos rfl, law12_tables.j1]
  rfl
theorem tables12_no (b : Bk) (hb : Few b) (h : okB b = false) : law12_tables.f b = some (none, ⟨[], [], [], [], [], [], [], [], [], [], []⟩, true) := by
  obtain ⟨p, h1⟩ := book_check_eq b
  obtain ⟨p', q, h3⟩ := ref_check_eq b hb
  rw [h] at h1 h3
  rw [law12_tables.f, of_eq b hb, Option.bind_some, h3, Option.bind_some, book_Compile.f, h1, Option.bind_some, if_pos (by simp), Option.bind_some, if_pos (by simp)]
  rfl
theorem tables12 (b : Bk) (hb : Few b) : ∃ t c key pa n, law12_tables.f b = some (t, c, true) ∧ Tb t key pa n := by
  cases h : okB b with
  | true =>
    obtain ⟨t, h1, h2⟩ := tables12_yes b hb h
    obtain ⟨key, pa, h3⟩ := tb_some hb h h2
    exact ⟨_, _, key, pa, _, h1, h3⟩
  | false => exact ⟨_, _, _, _, _, tables12_no b hb h, tb_none⟩
theorem canonOrders_true (b : Bk) (hb : Few b) (x y : List Int) (hxy : x.length + y.length ≤ 1048577) : law12_CanonOrders.f b x y = some true := by
  obtain ⟨t, c, key, pa, n, h1, h2⟩ := tables12 b hb
  have hx : x.length ≤ bigN := by unfold bigN; omega
  have fx := flat_len h2 x
  have fy := flat_len h2 y
  have oe := order_eq h2.cls x hx
  have oo := order_eq h2.cls (ordL key x) (by rw [ord_len]; exact hx)
  have dx := decompose_eq h2 x (by unfold bigN; omega)
  have dy := decompose_eq h2 y (by unfold bigN; omega)
  have dxy := decompose_eq h2 (x ++ y) (by unfold bigN; simp; omega)
  rw [law12_CanonOrders.f, h1, Option.bind_some, awake12, Option.bind_some, if_neg (by simp)]
  simp only [law12_CanonOrders.j5, Bool.not_true, Bool.false_eq_true, if_false, oe, Option.bind_some]
  rw [if_neg (by rw [ord_len]; simp), ordered_ok h2.cls (ordL key x) (by rw [ord_len]; exact hx) (ordA_ok h2.nn x []), Option.bind_some, if_neg (by simp), oo, Option.bind_some, runes_eq _ _ (by rw [ord_len, ord_len]; exact hx), Option.bind_some, ord_again, decide_eq_true rfl]
  simp only [law12_CanonOrders.j4, Bool.not_true, Bool.false_eq_true, if_false]
  have := orders_loop h2.cls x y (t, c, true) rfl (by unfold bigN; omega) (some true) (fun q f i hi => ?_) x [] [] [] [] K0 (by simp) rfl (by simp [ordL]) (by unfold K0; omega)
  · simpa using this
  · rw [law12_CanonOrders.l1, if_neg (by omega)]
    simp only [dx, dy, Option.bind_some, List.nil_append, List.length_nil, Nat.zero_add]
    rw [if_pos (by unfold most; omega), if_pos (by unfold most; omega), dxy, Option.bind_some, if_pos (by rw [ord_len]; unfold most; omega), if_pos (by rw [ord_len, ord_len]; unfold most; omega),
      order_eq h2.cls _ (by simp only [List.length_append, ord_len]; unfold bigN; omega), Option.bind_some, ord_both, List.flatMap_append, runes_eq _ _ (by rw [ord_len]; simp only [List.length_append]; unfold bigN; omega), Option.bind_some, decide_eq_true rfl]
end Go.Proofs.YtekafkokpnihfaaGreat
