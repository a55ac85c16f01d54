/- Plain laws, first part: loops over lists; what each check of a book says. Own work of this repo. -/
import Derived.Test.YtekafkokpnihfaaGreatTA5
import Derived.Test.YtekafkokpnihfaaGreatTA2
namespace Go.Proofs.YtekafkokpnihfaaGreat
open Go.RowKit

theorem w32 {x : Int} (h0 : -2147483648 ≤ x) (h1 : x ≤ 2147483647) : IntKind.i32.wrap x = x := by rw [IntKind.wrap_i32]; omega
theorem w64 {x : Int} (h0 : -9223372036854775808 ≤ x) (h1 : x ≤ 9223372036854775807) : IntKind.i64.wrap x = x := by rw [IntKind.wrap_i64]; omega
theorem w16 {x : Int} (h0 : 0 ≤ x) (h1 : x < 65536) : IntKind.u16.wrap x = x := by rw [IntKind.wrap_u16]; omega

def bigN : Nat := 1073741824
theorem mid {α : Type} [Inhabited α] {xs pre t : List α} {x : α} (e : xs = pre ++ x :: t) : rd xs (pre.length : Int) = x ∧ ((0 : Int) ≤ (pre.length : Int) ∧ (pre.length : Int) < (xs.length : Int)) := by
  subst e
  refine ⟨by simp [rd], by omega, by simp; omega⟩
theorem nxt {α : Type} {xs pre t : List α} {x : α} (hx : xs.length ≤ bigN) (e : xs = pre ++ x :: t) : IntKind.i64.wrap ((pre.length : Int) + 1) = (pre.length : Int) + 1 := by
  have : xs.length = pre.length + (t.length + 1) := by rw [e]; simp
  unfold bigN at hx
  exact w64 (by omega) (by omega)
theorem loop_ind {α σ β : Type} (L : Nat → Int → σ → Option β) (xs : List α) (Spec : List α → List α → σ → Option β → Prop)
    (hnil : ∀ s k, Spec xs [] s (L (k + 1) (xs.length : Int) s))
    (hcons : ∀ pre x t s k, xs = pre ++ x :: t → (∀ s', Spec (pre ++ [x]) t s' (L k ((pre.length : Int) + 1) s')) → Spec pre (x :: t) s (L (k + 1) (pre.length : Int) s)) :
    ∀ s k, xs.length < k → Spec [] xs s (L k 0 s) := by
  have key : ∀ t pre s k, xs = pre ++ t → t.length < k → Spec pre t s (L k (pre.length : Int) s) := by
    intro t
    induction t with
    | nil =>
      intro pre s k e hk
      obtain ⟨k, rfl⟩ : ∃ j, k = j + 1 := ⟨k - 1, by simp at hk; omega⟩
      have : xs = pre := by rw [e]; simp
      subst this
      exact hnil s k
    | cons x t ih =>
      intro pre s k e hk
      obtain ⟨k, rfl⟩ : ∃ j, k = j + 1 := ⟨k - 1, by simp at hk; omega⟩
      refine hcons pre x t s k e (fun s' => ?_)
      have := ih (pre ++ [x]) s' k (by rw [e]; simp) (by simp at hk; omega)
      simpa using this
  intro s k hk
  have := key xs [] s k rfl hk
  simpa using this
theorem ltK {n : Nat} (h : n ≤ bigN) : n < K0 := by unfold bigN at h; unfold K0; omega

def Says (r : Int) (b : Bool) : Prop := (b = true ∧ r = -1) ∨ (b = false ∧ 0 ≤ r)
theorem Says.val {r : Int} {b : Bool} (h : Says r b) : (decide (0 ≤ r)) = !b := by
  rcases h with ⟨rfl, rfl⟩ | ⟨rfl, h⟩ <;> simp [*]

def okRows {α : Type} (lo hi : α → Int) (may : α → Bool) : Int → List α → Bool
  | _, [] => true
  | last, x :: t => decide (last < lo x) && decide (lo x ≤ hi x) && decide (hi x ≤ 1114111) && may x && okRows lo hi may (hi x) t
theorem okRows_no1 {α : Type} {lo hi : α → Int} {may : α → Bool} {last : Int} {x : α} {t : List α} (h : lo x ≤ last ∨ hi x < lo x ∨ 1114111 < hi x ∨ may x = false) : okRows lo hi may last (x :: t) = false := by
  rcases h with h | h | h | h
  · simp [okRows, show ¬ last < lo x by omega]
  · simp [okRows, show ¬ lo x ≤ hi x by omega]
  · simp [okRows, show ¬ hi x ≤ 1114111 by omega]
  · simp [okRows, h]
theorem okRows_yes {α : Type} {lo hi : α → Int} {may : α → Bool} {last : Int} {x : α} {t : List α} (h1 : ¬ lo x ≤ last) (h2 : ¬ hi x < lo x) (h3 : ¬ 1114111 < hi x) (h4 : may x = true) : okRows lo hi may last (x :: t) = okRows lo hi may (hi x) t := by
  simp [okRows, h4, show last < lo x by omega, show lo x ≤ hi x by omega, show hi x ≤ 1114111 by omega]

def letterB (c : Int) : Bool := decide (97 ≤ c ∧ c ≤ 122) || decide (65 ≤ c ∧ c ≤ 90)
theorem letter_or : ∀ n : Fin 256, (decide (97 ≤ bOr .u8 (n.val : Int) 32) && decide (bOr .u8 (n.val : Int) 32 ≤ 122)) = letterB (n.val : Int) := by decide +kernel
def nameB (s : ByteArray) : Bool := decide (1 ≤ s.size) && decide (s.size ≤ 32) && (bytesI s).all letterB
theorem bytesI_range {s : ByteArray} {c : Int} (h : c ∈ bytesI s) : ∃ n : Fin 256, c = (n.val : Int) := by
  simp only [bytesI, List.mem_map] at h
  obtain ⟨b, _, rfl⟩ := h
  exact ⟨⟨b.toNat, b.toNat_lt⟩, rfl⟩
theorem bt_rd (s : ByteArray) (i : Int) : bt s i = rd (bytesI s) i := by
  simp only [bt, rd, bytesI, List.getD_eq_getElem?_getD, List.getElem?_map, Array.getElem?_toList, Array.getD_eq_getD_getElem?]
  cases s.data[i.toNat]? <;> rfl
theorem isName_loop (s : ByteArray) (hs : s.size ≤ 32) : book_isName.l1 K0 s 0 = some ((bytesI s).all letterB) := by
  have hl : (bytesI s).length ≤ bigN := by rw [bytesI_length]; unfold bigN; omega
  refine loop_ind (fun k i (_ : Unit) => book_isName.l1 k s i) (bytesI s) (fun pre t _ o => o = some (t.all letterB)) ?_ ?_ () K0 (ltK hl)
  · intro _ k
    simp only [book_isName.l1, if_neg (show ¬ ((bytesI s).length : Int) < ((bytesI s).length : Int) by omega), List.all_nil]
  · intro pre x t _ k e ih
    obtain ⟨h1, h2⟩ := mid e
    obtain ⟨n, hn⟩ := bytesI_range (s := s) (c := x) (by rw [e]; simp)
    have hx := letter_or n
    rw [← hn] at hx
    simp only [book_isName.l1, if_pos h2.2, if_pos h2, h1, book_isName.j1, nxt hl e, List.all_cons]
    by_cases c1 : bOr .u8 x 32 < 97
    · have : letterB x = false := by rw [← hx]; simp [show ¬ 97 ≤ bOr .u8 x 32 by omega]
      simp [c1, this]
    · by_cases c2 : 122 < bOr .u8 x 32
      · have : letterB x = false := by rw [← hx]; simp [show ¬ bOr .u8 x 32 ≤ 122 by omega]
        simp [c1, c2, this]
      · have : letterB x = true := by rw [← hx]; simp [show 97 ≤ bOr .u8 x 32 by omega, show bOr .u8 x 32 ≤ 122 by omega]
        simp only [if_neg c1, c2, decide_false, Bool.false_eq_true, if_false, this, Bool.true_and]
        exact ih ()
theorem isName_eq (s : ByteArray) : book_isName.f s = some (nameB s) := by
  unfold book_isName.f book_isName.j2 nameB
  by_cases h1 : (s.size : Int) < 1
  · rw [if_pos h1, if_pos rfl]; simp [show ¬ 1 ≤ s.size by omega]
  · by_cases h2 : (32 : Int) < s.size
    · rw [if_neg h1, if_pos (by simpa using h2)]; simp [show ¬ s.size ≤ 32 by omega]
    · rw [if_neg h1, if_neg (by simpa using h2), isName_loop s (by omega)]
      simp [show 1 ≤ s.size by omega, show s.size ≤ 32 by omega]
theorem named_loop (s : ByteArray) (hs : s.size ≤ 32) : ref10_named.l1 K0 s 0 = some ((bytesI s).all letterB) := by
  have hl : (bytesI s).length ≤ bigN := by rw [bytesI_length]; unfold bigN; omega
  refine loop_ind (fun k i (_ : Unit) => ref10_named.l1 k s i) (bytesI s) (fun pre t _ o => o = some (t.all letterB)) ?_ ?_ () K0 (ltK hl)
  · intro _ k
    simp only [ref10_named.l1, bytesI_length, if_neg (show ¬ (s.size : Int) < (s.size : Int) by omega), List.all_nil]
  · intro pre x t _ k e ih
    obtain ⟨h1, h2⟩ := mid e
    have h3 := h2
    rw [bytesI_length] at h3
    simp only [ref10_named.l1, if_pos h3.2, if_pos h3, bt_rd, h1, ref10_named.j1, nxt hl e, List.all_cons]
    have ih := ih ()
    by_cases c1 : 97 ≤ x
    · by_cases c2 : x ≤ 122
      · have : letterB x = true := by simp [letterB, c1, c2]
        simpa [c1, c2, this] using ih
      · by_cases c3 : 65 ≤ x
        · have : letterB x = false := by simp [letterB]; omega
          simp [c1, c2, c3, this, show ¬ x ≤ 90 by omega]
        · omega
    · by_cases c3 : 65 ≤ x
      · by_cases c4 : x ≤ 90
        · have : letterB x = true := by simp [letterB, c3, c4]
          simpa [c1, c3, c4, this] using ih
        · have : letterB x = false := by simp [letterB]; omega
          simp [c1, c3, c4, this]
      · have : letterB x = false := by simp [letterB]; omega
        simp [c1, c3, this]
theorem named_eq (s : ByteArray) : ref10_named.f s = some (nameB s) := by
  unfold ref10_named.f ref10_named.j2 nameB
  by_cases h1 : (s.size : Int) < 1
  · rw [if_pos h1, if_pos rfl]; simp [show ¬ 1 ≤ s.size by omega]
  · by_cases h2 : (32 : Int) < s.size
    · rw [if_neg h1, if_pos (by simpa using h2)]; simp [show ¬ s.size ≤ 32 by omega]
    · rw [if_neg h1, if_neg (by simpa using h2), named_loop s (by omega)]
      simp [show 1 ≤ s.size by omega, show s.size ≤ 32 by omega]

def hasB : List ByteArray → ByteArray → Bool
  | [], _ => false
  | x :: t, y => decide (x = y) || hasB t y
theorem sub_pre {α : Type} {xs pre t : List α} (e : xs = pre ++ t) : sub xs 0 (pre.length : Int) = pre := by
  subst e
  simp [sub]
theorem index_eq (l : List ByteArray) (hl : l.length ≤ bigN) (y : ByteArray) : ∃ r, slices_Index_string_string.f l y = some r ∧ Says r (!hasB l y) := by
  refine loop_ind (fun k i (_ : Unit) => slices_Index_string_string.l1 k l y i) l (fun pre t _ o => ∃ r, o = some r ∧ Says r (!hasB t y)) ?_ ?_ () K0 (ltK hl)
  · intro _ k
    exact ⟨-1, by simp only [slices_Index_string_string.l1, if_neg (show ¬ (l.length : Int) < (l.length : Int) by omega)], .inl ⟨rfl, rfl⟩⟩
  · intro pre x t _ k e ih
    obtain ⟨h1, h2⟩ := mid e
    simp only [slices_Index_string_string.l1, if_pos h2.2, if_pos h2, h1, nxt hl e]
    by_cases c : y = x
    · exact ⟨pre.length, by rw [if_pos c], .inr ⟨by simp [hasB, c], by omega⟩⟩
    · rw [if_neg c]
      obtain ⟨r, h3, h4⟩ := ih ()
      refine ⟨r, h3, ?_⟩
      have : hasB (x :: t) y = hasB t y := by simp [hasB, Ne.symm c]
      rwa [this]
theorem contains_eq (l : List ByteArray) (hl : l.length ≤ bigN) (y : ByteArray) : slices_Contains_string_string.f l y = some (hasB l y) := by
  obtain ⟨r, h1, h2⟩ := index_eq l hl y
  simp only [slices_Contains_string_string.f, h1, Option.bind_some, h2.val, Bool.not_not]
def okNames : List ByteArray → List ByteArray → Bool
  | _, [] => true
  | pre, s :: t => nameB s && !hasB pre s && okNames (pre ++ [s]) t
def namesB (l : List ByteArray) : Bool := decide (l.length ≤ 64) && okNames [] l
theorem names_eq (l : List ByteArray) : ∃ r, book_names.f l = some r ∧ Says r (namesB l) := by
  unfold book_names.f namesB
  by_cases h : (64 : Int) < l.length
  · exact ⟨64, by rw [if_pos h], .inr ⟨by simp [show ¬ l.length ≤ 64 by omega], by decide⟩⟩
  · rw [if_neg h]
    have hl : l.length ≤ bigN := by unfold bigN; omega
    simp only [show l.length ≤ 64 by omega, decide_true, Bool.true_and]
    refine loop_ind (fun k i (_ : Unit) => book_names.l1 k l i) l (fun pre t _ o => ∃ r, o = some r ∧ Says r (okNames pre t)) ?_ ?_ () K0 (ltK hl)
    · intro _ k
      exact ⟨-1, by simp only [book_names.l1, if_neg (show ¬ (l.length : Int) < (l.length : Int) by omega)], .inl ⟨rfl, rfl⟩⟩
    · intro pre x t _ k e ih
      obtain ⟨h1, h2⟩ := mid e
      have hp : pre.length ≤ bigN := by rw [e] at hl; simp at hl; omega
      simp only [book_names.l1, if_pos h2.2, if_pos h2, h1, isName_eq, Option.bind_some, book_names.j1, nxt hl e, okNames]
      cases c : nameB x with
      | false => exact ⟨pre.length, by simp, .inr ⟨by simp, by omega⟩⟩
      | true =>
        simp only [Bool.not_true, Bool.false_eq_true, if_false]
        rw [if_pos ⟨by decide, h2.1, by omega⟩, sub_pre e, contains_eq pre hp, Option.bind_some]
        cases c2 : hasB pre x with
        | true => exact ⟨pre.length, by simp, .inr ⟨by simp, by omega⟩⟩
        | false => simpa using ih ()
theorem ref_names_in (l pre t : List ByteArray) (x : ByteArray) (hl : l.length ≤ bigN) (e : l = pre ++ x :: t) (go : Int → Option Int) :
    ref10_names.l1 go K0 l (pre.length : Int) 0 = if hasB pre x = true then some (pre.length : Int) else go (IntKind.i64.wrap ((pre.length : Int) + 1)) := by
  have hp : pre.length ≤ bigN := by rw [e] at hl; simp at hl; omega
  obtain ⟨h1, h2⟩ := mid e
  refine loop_ind (fun k i (_ : Unit) => ref10_names.l1 go k l (pre.length : Int) i) pre (fun _ u _ o => o = if hasB u x = true then some (pre.length : Int) else go (IntKind.i64.wrap ((pre.length : Int) + 1))) ?_ ?_ () K0 (ltK hp)
  · intro _ k
    simp only [ref10_names.l1, sub_pre e, if_neg (show ¬ (pre.length : Int) < (pre.length : Int) by omega)]
    simp [hasB]
  · intro p y u _ k e2 ih
    obtain ⟨h3, h4⟩ := mid e2
    simp only [ref10_names.l1, sub_pre e, if_pos h4.2, if_pos h4, h3, h1, nxt hp e2]
    by_cases c : y = x
    · simp [hasB, c]
    · rw [if_neg c]
      have : hasB (y :: u) x = hasB u x := by simp [hasB, c]
      rw [this]; exact ih ()
theorem ref_names_eq (l : List ByteArray) : ∃ r, ref10_names.f l = some r ∧ Says r (namesB l) := by
  unfold ref10_names.f namesB
  by_cases h : (64 : Int) < l.length
  · exact ⟨64, by rw [if_pos h], .inr ⟨by simp [show ¬ l.length ≤ 64 by omega], by decide⟩⟩
  · rw [if_neg h]
    have hl : l.length ≤ bigN := by unfold bigN; omega
    simp only [show l.length ≤ 64 by omega, decide_true, Bool.true_and]
    refine loop_ind (fun k i (_ : Unit) => ref10_names.l2 k l i) l (fun pre t _ o => ∃ r, o = some r ∧ Says r (okNames pre t)) ?_ ?_ () K0 (ltK hl)
    · intro _ k
      exact ⟨-1, by simp only [ref10_names.l2, if_neg (show ¬ (l.length : Int) < (l.length : Int) by omega)], .inl ⟨rfl, rfl⟩⟩
    · intro pre x t _ k e ih
      obtain ⟨h1, h2⟩ := mid e
      simp only [ref10_names.l2, if_pos h2.2, if_pos h2, h1, named_eq, Option.bind_some, okNames]
      cases c : nameB x with
      | false => exact ⟨pre.length, by simp, .inr ⟨by simp, by omega⟩⟩
      | true =>
        simp only [Bool.not_true, Bool.false_eq_true, if_false]
        rw [if_pos ⟨by decide, h2.1, by omega⟩, ref_names_in l pre t x hl e, nxt hl e]
        cases c2 : hasB pre x with
        | true => exact ⟨pre.length, by simp, .inr ⟨by simp, by omega⟩⟩
        | false => simpa using ih ()
end Go.Proofs.YtekafkokpnihfaaGreat
