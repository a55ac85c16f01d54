/- Plain laws of the canonical order: a stable sort of each stretch without class 0; what is ordered in pieces is ordered in all. Own work of this repo; it needs no walk. -/
import Derived.Test.YtekafkokpnihfaaGreatEngG
namespace Go.Proofs.YtekafkokpnihfaaGreat

section
variable {α : Type} (key : α → Int)
def insL (x : α) : List α → List α
  | [] => [x]
  | y :: t => if key x ≤ key y then x :: y :: t else y :: insL x t
def sortL : List α → List α
  | [] => []
  | x :: t => insL key x (sortL t)
def Srt : List α → Prop
  | [] => True
  | x :: t => (∀ y ∈ t, key x ≤ key y) ∧ Srt t
def Feq (a b : List α) : Prop := ∀ c, a.filter (fun x => decide (key x = c)) = b.filter (fun x => decide (key x = c))
theorem Feq.refl (a : List α) : Feq key a a := fun _ => rfl
theorem Feq.symm {a b : List α} (h : Feq key a b) : Feq key b a := fun c => (h c).symm
theorem Feq.trans {a b c : List α} (h : Feq key a b) (g : Feq key b c) : Feq key a c := fun d => (h d).trans (g d)
theorem Feq.app {a a' b b' : List α} (h : Feq key a a') (g : Feq key b b') : Feq key (a ++ b) (a' ++ b') := fun c => by rw [List.filter_append, List.filter_append, h c, g c]
theorem Feq.mem {a b : List α} (h : Feq key a b) {x : α} (hx : x ∈ a) : x ∈ b := by
  have : x ∈ a.filter (fun y => decide (key y = key x)) := List.mem_filter.2 ⟨hx, by simp⟩
  rw [h] at this
  exact (List.mem_filter.1 this).1
theorem mem_ins {x y : α} {t : List α} : y ∈ insL key x t ↔ y = x ∨ y ∈ t := by
  induction t with
  | nil => simp [insL]
  | cons z t ih =>
    unfold insL
    split
    · simp
    · simp only [List.mem_cons, ih]
      constructor
      · rintro (h | h | h) <;> simp [h]
      · rintro (h | h | h) <;> simp [h]
theorem srt_ins {x : α} : ∀ {t : List α}, Srt key t → Srt key (insL key x t)
  | [], _ => ⟨fun y hy => (by cases hy), trivial⟩
  | y :: t, h => by
    unfold insL
    split
    · rename_i c
      refine ⟨fun z hz => ?_, h⟩
      rcases List.mem_cons.1 hz with rfl | hz
      · exact c
      · exact Int.le_trans c (h.1 z hz)
    · rename_i c
      refine ⟨fun z hz => ?_, srt_ins h.2⟩
      rcases (mem_ins key).1 hz with rfl | hz
      · omega
      · exact h.1 z hz
theorem feq_ins (x : α) : ∀ (t : List α), Feq key (insL key x t) (x :: t)
  | [], _ => rfl
  | y :: t, c => by
    unfold insL
    split
    · rfl
    · rename_i h
      have ih := feq_ins x t c
      simp only [List.filter_cons] at ih ⊢
      rw [ih]
      by_cases c1 : key y = c
      · have : ¬ key x = c := by omega
        simp [c1, this]
      · simp [c1]
theorem srt_sort : ∀ (l : List α), Srt key (sortL key l)
  | [] => trivial
  | _ :: t => srt_ins key (srt_sort t)
theorem feq_sort : ∀ (l : List α), Feq key (sortL key l) l
  | [], _ => rfl
  | x :: t, c => by
    rw [sortL, feq_ins key x _ c, List.filter_cons, List.filter_cons, feq_sort t c]
theorem srt_unique : ∀ {a b : List α}, Srt key a → Srt key b → Feq key a b → a = b
  | [], [], _, _, _ => rfl
  | [], y :: b, _, _, h => by have := Feq.mem key (Feq.symm key h) (List.mem_cons_self (a := y) (l := b)); cases this
  | x :: a, [], _, _, h => by have := Feq.mem key h (List.mem_cons_self (a := x) (l := a)); cases this
  | x :: a, y :: b, ha, hb, h => by
    have h1 : key y ≤ key x := by
      rcases List.mem_cons.1 (Feq.mem key h (List.mem_cons_self (a := x) (l := a))) with e | e
      · rw [e]; exact Int.le_refl _
      · exact hb.1 x e
    have h2 : key x ≤ key y := by
      rcases List.mem_cons.1 (Feq.mem key (Feq.symm key h) (List.mem_cons_self (a := y) (l := b))) with e | e
      · rw [e]; exact Int.le_refl _
      · exact ha.1 y e
    have hk : key x = key y := by omega
    have h3 := h (key x)
    rw [List.filter_cons, List.filter_cons, if_pos (by simp), if_pos (by simp [hk])] at h3
    have hxy : x = y := (List.cons.inj h3).1
    subst hxy
    rw [srt_unique ha.2 hb.2 (fun c => by
      by_cases e : key x = c
      · subst e; exact (List.cons.inj h3).2
      · have := h c
        rw [List.filter_cons, List.filter_cons, if_neg (by simp [e]), if_neg (by simp [e])] at this
        exact this)]
theorem sort_feq {a b : List α} (h : Feq key a b) : sortL key a = sortL key b :=
  srt_unique key (srt_sort key a) (srt_sort key b) (Feq.trans key (feq_sort key a) (Feq.trans key h (Feq.symm key (feq_sort key b))))
theorem sort_is {a b : List α} (h : Srt key b) (g : Feq key a b) : sortL key a = b :=
  srt_unique key (srt_sort key a) h (Feq.trans key (feq_sort key a) g)
theorem sort_mem {l : List α} {x : α} (h : x ∈ sortL key l) : x ∈ l := Feq.mem key (feq_sort key l) h
theorem sort_len : ∀ (l : List α), (sortL key l).length = l.length := by
  have ins : ∀ (x : α) (t : List α), (insL key x t).length = t.length + 1 := by
    intro x t
    induction t with
    | nil => rfl
    | cons y t ih => unfold insL; split <;> simp [ih]
  intro l
  induction l with
  | nil => rfl
  | cons x t ih => rw [sortL, ins, ih]; rfl
theorem feq_swap {x y : List α} (h : ∀ a ∈ x, ∀ b ∈ y, key b < key a) : Feq key (x ++ y) (y ++ x) := by
  intro c
  rw [List.filter_append, List.filter_append]
  by_cases e : x.filter (fun z => decide (key z = c)) = []
  · rw [e]; simp
  · obtain ⟨a, ha⟩ := List.exists_mem_of_ne_nil _ e
    have ha := List.mem_filter.1 ha
    have : y.filter (fun z => decide (key z = c)) = [] := by
      rw [List.filter_eq_nil_iff]
      intro b hb
      have := h a ha.1 b hb
      have e2 : key a = c := by simpa using ha.2
      simp; omega
    rw [this]; simp
theorem srt_app : ∀ {a b : List α}, Srt key a → Srt key b → (∀ x ∈ a, ∀ y ∈ b, key x ≤ key y) → Srt key (a ++ b)
  | [], _, _, hb, _ => hb
  | x :: a, b, ha, hb, h => by
    refine ⟨fun z hz => ?_, srt_app ha.2 hb fun u hu v hv => h u (List.mem_cons_of_mem _ hu) v hv⟩
    rcases List.mem_append.1 hz with hz | hz
    · exact ha.1 z hz
    · exact h x (List.mem_cons_self ..) z hz
theorem srt_parts {b : List α} : ∀ {a : List α}, Srt key (a ++ b) → Srt key a ∧ Srt key b ∧ ∀ x ∈ a, ∀ y ∈ b, key x ≤ key y
  | [], h => ⟨trivial, h, fun x hx => (by cases hx)⟩
  | x :: a, h => by
    obtain ⟨h1, h2, h3⟩ := srt_parts h.2
    refine ⟨⟨fun y hy => h.1 y (List.mem_append_left _ hy), h1⟩, h2, fun u hu v hv => ?_⟩
    rcases List.mem_cons.1 hu with rfl | hu
    · exact h.1 v (List.mem_append_right _ hv)
    · exact h3 u hu v hv

def ordA (acc : List α) : List α → List α
  | [] => sortL key acc
  | x :: t => if key x = 0 then sortL key acc ++ x :: ordA [] t else ordA (acc ++ [x]) t
def ordL (l : List α) : List α := ordA key [] l
theorem ordA_run : ∀ (s : List α) (acc l : List α), (∀ x ∈ s, key x ≠ 0) → ordA key acc (s ++ l) = ordA key (acc ++ s) l
  | [], acc, l, _ => by simp
  | x :: s, acc, l, h => by
    rw [List.cons_append, ordA, if_neg (h x (List.mem_cons_self ..)), ordA_run s _ l fun y hy => h y (List.mem_cons_of_mem _ hy)]
    simp
theorem ordA_len : ∀ (l acc : List α), (ordA key acc l).length = acc.length + l.length
  | [], acc => by simp [ordA, sort_len]
  | x :: t, acc => by
    unfold ordA
    split
    · simp [sort_len, ordA_len t]
    · simp [ordA_len t]; omega
theorem ord_len (l : List α) : (ordL key l).length = l.length := by simp [ordL, ordA_len]
theorem merge_split {a x y b : List α} (h1 : Srt key (a ++ x)) (h2 : Srt key (y ++ b)) (h3 : ∀ u ∈ x, ∀ v ∈ y, key v < key u) (h4 : ∀ u ∈ a, ∀ v ∈ b, key u ≤ key v) :
    sortL key ((a ++ x) ++ (y ++ b)) = sortL key (a ++ y) ++ sortL key (x ++ b) := by
  obtain ⟨_, _, h1c⟩ := srt_parts key h1
  obtain ⟨_, _, h2c⟩ := srt_parts key h2
  refine sort_is key (srt_app key (srt_sort key _) (srt_sort key _) fun u hu v hv => ?_) ?_
  · rcases List.mem_append.1 (sort_mem key hu) with hu | hu <;> rcases List.mem_append.1 (sort_mem key hv) with hv | hv
    · exact h1c u hu v hv
    · exact h4 u hu v hv
    · exact Int.le_of_lt (h3 v hv u hu)
    · exact h2c u hu v hv
  · refine Feq.trans key ?_ (Feq.app key (Feq.symm key (feq_sort key (a ++ y))) (Feq.symm key (feq_sort key (x ++ b))))
    have := Feq.app key (Feq.app key (Feq.refl key a) (feq_swap key h3)) (Feq.refl key b)
    simpa [List.append_assoc] using this
theorem merge_first {u : α} {y b : List α} (h2 : Srt key (y ++ b)) (h3 : ∀ v ∈ y, key v < key u) (h4 : ∀ v ∈ b, key u ≤ key v) : sortL key (u :: (y ++ b)) = y ++ u :: b := by
  obtain ⟨hy, hb, hc⟩ := srt_parts key h2
  refine sort_is key (srt_app key hy ⟨h4, hb⟩ fun v hv w hw => ?_) ?_
  · rcases List.mem_cons.1 hw with rfl | hw
    · exact Int.le_of_lt (h3 v hv)
    · exact hc v hv w hw
  · have := Feq.app key (feq_swap key (x := [u]) (y := y) fun a ha v hv => by rw [List.mem_singleton.1 ha]; exact h3 v hv) (Feq.refl key b)
    simpa using this
theorem merge_last {v : α} {a x : List α} (h1 : Srt key (a ++ x)) (h3 : ∀ u ∈ x, key v < key u) (h4 : ∀ u ∈ a, key u ≤ key v) : sortL key (a ++ x ++ [v]) = a ++ v :: x := by
  obtain ⟨ha, hx, hc⟩ := srt_parts key h1
  refine sort_is key (srt_app key ha ⟨fun u hu => Int.le_of_lt (h3 u hu), hx⟩ fun u hu w hw => ?_) ?_
  · rcases List.mem_cons.1 hw with rfl | hw
    · exact h4 u hu
    · exact hc u hu w hw
  · have := Feq.app key (Feq.refl key a) (feq_swap key (x := x) (y := [v]) fun u hu w hw => by rw [List.mem_singleton.1 hw]; exact h3 u hu)
    simpa [List.append_assoc] using this
theorem sort_front (a b : List α) : sortL key (sortL key a ++ b) = sortL key (a ++ b) := sort_feq key (Feq.app key (feq_sort key a) (Feq.refl key b))
theorem sort_id {a : List α} (h : Srt key a) : sortL key a = a := sort_is key h (Feq.refl key a)
end
end Go.Proofs.YtekafkokpnihfaaGreat
