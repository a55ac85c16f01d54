/- Plain laws, third part: what the reference says of rows. Own work of this repo. -/
import Derived.Test.YtekafkokpnihfaaGreatPureB
import Derived.Test.YtekafkokpnihfaaGreatTA6
namespace Go.Proofs.YtekafkokpnihfaaGreat
open Go.RowKit

theorem mostle {a b : Nat} (h : a ≤ bigN) (hb : b ≤ 1) : a + b ≤ most := by unfold bigN at h; unfold most; omega
theorem loop_map {α β : Type} (L : Nat → Int → List β → Option (List β)) (xs : List α) (f : α → β) (hl : xs.length ≤ bigN)
    (hnil : ∀ s k, L (k + 1) (xs.length : Int) s = some s)
    (hcons : ∀ pre x t s k, xs = pre ++ x :: t → s.length + 1 ≤ most → L (k + 1) (pre.length : Int) s = L k ((pre.length : Int) + 1) (s ++ [f x])) : L K0 0 [] = some (xs.map f) := by
  have := loop_ind (fun k i s => L k i s) xs (fun pre t s o => s.length = pre.length → o = some (s ++ t.map f)) (fun s k hs => by simp [hnil]) (fun pre x t s k e ih hs => by
    have hp : pre.length ≤ bigN := by rw [e] at hl; simp at hl; omega
    show L (k + 1) (pre.length : Int) s = _
    rw [hcons pre x t s k e (by rw [hs]; exact mostle hp (Nat.le_refl _)), ih (s ++ [f x]) (by simp [hs])]
    simp) [] K0 (ltK hl) rfl
  simpa using this
theorem ref_spans (l : List Val) (hl : l.length ≤ bigN) : ref10_spans.f l = some (l.map fun x => (⟨x.lo, x.hi⟩ : Spn)) := by
  refine loop_map (fun k i s => ref10_spans.l1 k l s i) l _ hl ?_ ?_
  · intro s k
    simp only [ref10_spans.l1, if_neg (show ¬ (l.length : Int) < (l.length : Int) by omega)]
  · intro pre x t s k e hs
    obtain ⟨h1, h2⟩ := mid e
    simp only [ref10_spans.l1, if_pos h2.2, if_pos h2, h1, nxt hl e]
    exact if_pos hs
theorem ref_spansOf (l : List Chs) (hl : l.length ≤ bigN) : ref10_spansOf.f l = some (l.map fun x => (⟨x.lo, x.hi⟩ : Spn)) := by
  refine loop_map (fun k i s => ref10_spansOf.l1 k l s i) l _ hl ?_ ?_
  · intro s k
    simp only [ref10_spansOf.l1, if_neg (show ¬ (l.length : Int) < (l.length : Int) by omega)]
  · intro pre x t s k e hs
    obtain ⟨h1, h2⟩ := mid e
    simp only [ref10_spansOf.l1, if_pos h2.2, if_pos h2, h1, nxt hl e]
    exact if_pos hs
def wrongN (a b : Int) (apart : Bool) (x : Val) : Bool := decide (x.n < a) || decide (b < x.n) || (apart && touchB x.lo x.hi)
theorem ref_numbered (l : List Val) (a b : Int) (apart : Bool) (hl : l.length ≤ bigN) : ref10_numbered.f l a b apart = some (l.map (wrongN a b apart)) := by
  refine loop_map (fun k i s => ref10_numbered.l1 k l a b apart s i) l _ hl ?_ ?_
  · intro s k
    simp only [ref10_numbered.l1, if_neg (show ¬ (l.length : Int) < (l.length : Int) by omega)]
  · intro pre x t s k e hs
    obtain ⟨h1, h2⟩ := mid e
    simp only [ref10_numbered.l1, if_pos h2.2, if_pos h2, h1, nxt hl e, ref10_numbered.j1, ref_touches, Option.bind_some]
    have hone : ∀ c : Bool, s.length + [c].length ≤ most := fun c => hs
    by_cases c1 : x.n < a
    · rw [if_pos c1, if_pos (hone _)]; simp [wrongN, c1]
    · rw [if_neg c1]
      by_cases c2 : b < x.n
      · rw [if_pos c2, if_pos (hone _)]; simp [wrongN, c2]
      · rw [if_neg c2]
        cases apart with
        | true => rw [if_pos rfl, if_pos (hone _)]; simp [wrongN, c1, c2]
        | false => rw [if_neg (by decide), if_pos (hone _)]; simp [wrongN, c1, c2]
def wrongW (b : Int) (x : Chs) : Bool := !charsB x.is_ 1 b
theorem ref_written_in (x0 : List Chs) (acc : List Bool) (i : Int) (go : List Bool → Int → Option (List Bool)) (l : List Int) (e : (rd x0 i).is_ = l) (hl : l.length ≤ bigN) (b0 : Bool) (hacc : acc.length + 1 ≤ most) :
    ref10_written.l1 go K0 x0 acc i b0 0 = go (acc ++ [b0 || !l.all scalB]) (IntKind.i64.wrap (i + 1)) := by
  refine loop_ind (fun k j b => ref10_written.l1 go k x0 acc i b j) l (fun pre t b o => o = go (acc ++ [b || !t.all scalB]) (IntKind.i64.wrap (i + 1))) ?_ ?_ b0 K0 (ltK hl)
  · intro b k
    simp only [ref10_written.l1, e, if_neg (show ¬ (l.length : Int) < (l.length : Int) by omega)]
    rw [if_pos (show acc.length + [b].length ≤ most from hacc)]
    simp
  · intro pre x t b k e2 ih
    obtain ⟨h1, h2⟩ := mid e2
    simp only [ref10_written.l1, e, if_pos h2.2, if_pos h2, h1, ref10_written.j1, nxt hl e2, ref_scalar, Option.bind_some]
    cases b with
    | true => rw [if_pos rfl]; simpa using ih true
    | false =>
      rw [if_neg (by decide), ih (!scalB x)]
      cases h : scalB x <;> simp [h]
theorem ref_written (l : List Chs) (b : Int) (hl : l.length ≤ bigN) (hi : ∀ x ∈ l, x.is_.length ≤ bigN) : ref10_written.f l b = some (l.map (wrongW b)) := by
  refine loop_map (fun k i s => ref10_written.l2 k l b s i) l _ hl ?_ ?_
  · intro s k
    simp only [ref10_written.l2, if_neg (show ¬ (l.length : Int) < (l.length : Int) by omega)]
  · intro pre x t s k e hs
    obtain ⟨h1, h2⟩ := mid e
    have hx := hi x (by rw [e]; simp)
    simp only [ref10_written.l2, if_pos h2.2, if_pos h2, h1, ref10_written.j2]
    by_cases c1 : (x.is_.length : Int) < 1
    · rw [if_pos c1, ref_written_in l s _ _ x.is_ (by rw [h1]) hx true hs, nxt hl e]
      simp [wrongW, charsB, show ¬ (1 : Int) ≤ (x.is_.length : Int) by omega]
    · rw [if_neg c1, ref_written_in l s _ _ x.is_ (by rw [h1]) hx _ hs, nxt hl e]
      by_cases c2 : b < (x.is_.length : Int)
      · simp [wrongW, charsB, c2, show ¬ (x.is_.length : Int) ≤ b by omega]
      · simp [wrongW, charsB, c2, show (1 : Int) ≤ (x.is_.length : Int) by omega, show (x.is_.length : Int) ≤ b by omega]
def wrongD (w : Bool) (x : Chs) : Bool := w || decide (x.lo ≠ x.hi) || hangB x.lo || !scalB x.lo
theorem ref_decomposed (l : List Chs) (hl : l.length ≤ bigN) (hi : ∀ x ∈ l, x.is_.length ≤ bigN) : ref10_decomposed.f l = some (l.map fun x => wrongD (wrongW 2 x) x) := by
  unfold ref10_decomposed.f
  rw [ref_written l 2 hl hi, Option.bind_some]
  have := loop_ind (fun k i ws => ref10_decomposed.l1 k l ws i) l (fun pre t ws o => ws = (pre.map fun x => wrongD (wrongW 2 x) x) ++ t.map (wrongW 2) → o = some (l.map fun x => wrongD (wrongW 2 x) x)) (fun ws k hw => by
    simp only [ref10_decomposed.l1, if_neg (show ¬ (l.length : Int) < (l.length : Int) by omega)]
    simp [hw]) (fun pre x t ws k e ih hw => by
    obtain ⟨h1, h2⟩ := mid e
    have hwl : ws.length = l.length := by rw [hw, e]; simp
    have hmid := mid (xs := ws) (pre := pre.map fun x => wrongD (wrongW 2 x) x) (x := wrongW 2 x) (t := t.map (wrongW 2)) (by rw [hw]; simp)
    simp only [List.length_map] at hmid
    have hset : ∀ c : Bool, ws.set (pre.length : Int).toNat c = (pre.map fun x => wrongD (wrongW 2 x) x) ++ c :: t.map (wrongW 2) := fun c => by
      rw [hw, Int.toNat_natCast, List.set_append_right _ _ (by simp)]
      simp
    have fin : ∀ c : Bool, c = wrongD (wrongW 2 x) x → ref10_decomposed.l1 k l (ws.set (pre.length : Int).toNat c) ((pre.length : Int) + 1) = some (l.map fun x => wrongD (wrongW 2 x) x) := fun c hc => by
      rw [hset]
      exact ih _ (by rw [hc]; simp)
    simp only [ref10_decomposed.l1, if_pos h2.2, if_pos h2, if_pos hmid.2, h1, hmid.1, ref10_decomposed.j1, nxt hl e, ref_hangul, ref_scalar, Option.bind_some]
    by_cases c1 : wrongW 2 x = true
    · rw [if_pos c1]; exact fin true (by simp [wrongD, c1])
    · rw [if_neg c1]
      by_cases c2 : x.lo ≠ x.hi
      · rw [if_pos c2]; exact fin true (by simp [wrongD, c2])
      · rw [if_neg c2]
        have c2' : x.lo = x.hi := Classical.not_not.1 c2
        by_cases c3 : hangB x.lo = true
        · rw [if_pos c3]; exact fin true (by simp [wrongD, c3])
        · rw [if_neg c3]; exact fin _ (by simp at c1 c3; simp [wrongD, c1, c2', c3]; rw [← c2']; simp [c3]))
    (l.map (wrongW 2)) K0 (ltK hl) (by simp)
  exact this
def endOf (pre : List Spn) : Int := (pre.getLast?.map (·.hi)).getD (-1)
theorem ref_row (xs pre t : List Spn) (x : Spn) (hl : xs.length ≤ bigN) (e : xs = pre ++ x :: t) (hpre : ∀ y ∈ pre, 0 ≤ y.hi) :
    ref10_row.f xs (pre.length : Int) = some (decide (endOf pre < x.lo) && decide (x.lo ≤ x.hi) && decide (x.hi ≤ 1114111)) := by
  obtain ⟨h1, h2⟩ := mid e
  unfold ref10_row.f
  simp only [if_pos h2, h1, ref10_row.j1]
  rcases List.eq_nil_or_concat pre with hp | ⟨p, z, hp⟩
  · subst hp
    simp only [endOf, List.getLast?_nil, Option.map_none, Option.getD_none]
    by_cases c1 : 0 ≤ x.lo
    · by_cases c2 : x.lo ≤ x.hi
      · by_cases c3 : x.hi ≤ 1114111
        · simp [c1, c2, c3, show (-1 : Int) < x.lo by omega]
        · simp [c1, c2, c3]
      · simp [c1, c2]
    · simp [c1, show ¬ (-1 : Int) < x.lo by omega]
  · subst hp
    have hz : 0 ≤ z.hi := hpre z (by simp)
    obtain ⟨h3, h4⟩ := mid (xs := xs) (pre := p) (x := z) (t := x :: t) (by rw [e]; simp)
    have hlen : xs.length = p.length + 1 + (t.length + 1) := by rw [e]; simp; omega
    unfold bigN at hl
    have hw : IntKind.i64.wrap (((p ++ [z]).length : Int) - 1) = (p.length : Int) := by
      have e1 : ((p ++ [z]).length : Int) - 1 = (p.length : Int) := by simp
      rw [e1]; exact w64 (by omega) (by omega)
    have hend : endOf (p ++ [z]) = z.hi := by simp [endOf]
    rw [List.concat_eq_append] at *
    simp only [hw, hend, h3, if_pos h4]
    have hne : ¬ (((p ++ [z]).length : Int) = 0) := by simp; omega
    by_cases c1 : 0 ≤ x.lo
    · by_cases c2 : x.lo ≤ x.hi
      · by_cases c3 : x.hi ≤ 1114111
        · rw [if_pos c1, if_pos c2, if_pos c3, if_neg hne]; simp [c2, c3]
        · simp [c1, c2, c3]
      · simp [c1, c2]
    · simp [c1, show ¬ z.hi < x.lo by omega]
theorem ref_many (xs : List Spn) (ws : List Bool) (hw : ws.length = xs.length) : ∃ r, ref10_many.f xs ws = some r ∧ Says r (rowsB (fun p : Spn × Bool => p.1.lo) (fun p => p.1.hi) (fun p => !p.2) (xs.zip ws)) := by
  unfold ref10_many.f rowsB
  have hz : (xs.zip ws).length = xs.length := by simp [hw]
  rw [hz]
  by_cases h : (65536 : Int) < xs.length
  · exact ⟨65536, by rw [if_pos h], .inr ⟨by simp [show ¬ xs.length ≤ 65536 by omega], by decide⟩⟩
  · rw [if_neg h]
    have hl : xs.length ≤ bigN := by unfold bigN; omega
    simp only [show xs.length ≤ 65536 by omega, decide_true, Bool.true_and]
    have := loop_ind (fun k i (_ : Unit) => ref10_many.l1 k xs ws i) (xs.zip ws) (fun pre t _ o => (∀ y ∈ pre.map Prod.fst, 0 ≤ y.hi) → ∃ r, o = some r ∧ Says r (okRows (fun p : Spn × Bool => p.1.lo) (fun p => p.1.hi) (fun p => !p.2) (endOf (pre.map Prod.fst)) t)) (fun _ k _ =>
      ⟨-1, by simp only [hz, ref10_many.l1, if_neg (show ¬ (xs.length : Int) < (xs.length : Int) by omega)], .inl ⟨rfl, rfl⟩⟩) (fun pre x t _ k e ih hpre => by
      obtain ⟨y, b⟩ := x
      have ex : xs = pre.map Prod.fst ++ y :: t.map Prod.fst := by
        have := congrArg (List.map Prod.fst) e
        rw [List.map_fst_zip (by omega)] at this
        simpa using this
      have ew : ws = pre.map Prod.snd ++ b :: t.map Prod.snd := by
        have := congrArg (List.map Prod.snd) e
        rw [List.map_snd_zip (by omega)] at this
        simpa using this
      obtain ⟨h1, h2⟩ := mid ex
      obtain ⟨h3, h4⟩ := mid ew
      have hr := ref_row xs _ _ y hl ex hpre
      have hn := nxt hl ex
      simp only [List.length_map] at h1 h2 h3 h4 hr hn
      simp only [ref10_many.l1, if_pos h2.2, hr, Option.bind_some, if_pos h4, h3, ref10_many.j1, hn]
      by_cases c1 : endOf (pre.map Prod.fst) < y.lo
      · by_cases c2 : y.lo ≤ y.hi
        · by_cases c3 : y.hi ≤ 1114111
          · simp only [c1, c2, c3, decide_true, Bool.and_self, Bool.not_true, Bool.false_eq_true, if_false]
            cases b with
            | true => exact ⟨pre.length, by simp, .inr ⟨okRows_no1 (.inr (.inr (.inr rfl))), by omega⟩⟩
            | false =>
              rw [okRows_yes (lo := fun p : Spn × Bool => p.1.lo) (hi := fun p : Spn × Bool => p.1.hi) (may := fun p : Spn × Bool => !p.2) (x := (y, false)) (show ¬ y.lo ≤ _ by omega) (show ¬ y.hi < y.lo by omega) (show ¬ 1114111 < y.hi by omega) rfl]
              have hend : endOf ((pre ++ [(y, false)]).map Prod.fst) = y.hi := by simp [endOf]
              have hge : -1 ≤ endOf (pre.map Prod.fst) := by
                unfold endOf
                cases hg : (pre.map Prod.fst).getLast? with
                | none => simp
                | some z => simp; have := hpre z (List.mem_of_getLast? hg); omega
              have := ih () (fun z hz => by
                simp only [List.map_append, List.map_cons, List.map_nil, List.mem_append, List.mem_singleton] at hz
                rcases hz with hz | rfl
                · exact hpre z hz
                · omega)
              rw [hend] at this
              simpa using this
          · exact ⟨pre.length, by simp [c3], .inr ⟨okRows_no1 (.inr (.inr (.inl (by show 1114111 < y.hi; omega)))), by omega⟩⟩
        · exact ⟨pre.length, by simp [c2], .inr ⟨okRows_no1 (.inr (.inl (by show y.hi < y.lo; omega))), by omega⟩⟩
      · exact ⟨pre.length, by simp [c1], .inr ⟨okRows_no1 (.inl (by show y.lo ≤ _; omega)), by omega⟩⟩) () K0 (by rw [hz]; exact ltK hl) (fun y hy => by simp at hy)
    exact this
theorem okRows_map {α β : Type} (f : β → α) (lo hi : α → Int) (may : α → Bool) : ∀ (last : Int) (l : List β), okRows lo hi may last (l.map f) = okRows (fun x => lo (f x)) (fun x => hi (f x)) (fun x => may (f x)) last l
  | _, [] => rfl
  | last, x :: t => by simp only [List.map_cons, okRows, okRows_map f lo hi may (hi (f x)) t]
theorem ref_many_map {α : Type} (l : List α) (sp : α → Spn) (wr : α → Bool) : ∃ r, ref10_many.f (l.map sp) (l.map wr) = some r ∧ Says r (rowsB (fun x => (sp x).lo) (fun x => (sp x).hi) (fun x => !wr x) l) := by
  obtain ⟨r, h1, h2⟩ := ref_many (l.map sp) (l.map wr) (by simp)
  refine ⟨r, h1, ?_⟩
  have e : (l.map sp).zip (l.map wr) = l.map fun x => (sp x, wr x) := by
    rw [List.zip_map']
  rw [e] at h2
  unfold rowsB at h2 ⊢
  rw [okRows_map] at h2
  simpa using h2
end Go.Proofs.YtekafkokpnihfaaGreat
