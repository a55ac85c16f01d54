/- Arguments: what is read as data is what the representations say, and the data's bulk bounds the sizes. Own work of this repo. -/
import Derived.Test.YtekafkokpnihfaaGreatEngL
import Derived.Test.YtekafkokpnihfaaGreatRows
import Derived.ChangeArms
namespace Go.Proofs.YtekafkokpnihfaaGreat
open Go.RowKit

section
variable {H : Type} {enc : TypeId × Value → H} {P : Program} {W : World}
def Reads {α : Type} (enc : TypeId × Value → H) (P : Program) (W : World) (t : TypeId) (r : Rep α) (sz : α → Nat) (wf : α → Prop) : Prop :=
  ∀ fuel cs d ps, DataW.trod enc P W 0 (fun _ => true) true fuel t cs = some (d, ps) → ∃ x, r.R (seen W) cs x ∧ sz x ≤ Rows.uptoBulk d ∧ wf x
theorem inK_of {k : IntKind} {n : Int} (h : (Lit.int k n).wf = true) : InK k n := by
  simp only [Lit.wf, Bool.and_eq_true, decide_eq_true_eq] at h
  cases k <;> simp only [InK] <;> simp [IntKind.min, IntKind.max, IntKind.signed, IntKind.bits] at h <;> omega
theorem Reads.int {t : TypeId} {k : IntKind} (hu : P.underlying t = some (.int k)) : Reads enc P W t (Rep.int k) (fun _ => 1) (InK k) := by
  intro fuel cs d ps h
  obtain ⟨n, rfl, he, hw⟩ := DataW.trod_int hu h
  simp only [Prod.mk.injEq] at he
  obtain ⟨rfl, rfl⟩ := he
  exact ⟨n, rfl, by simp [Rows.uptoBulk], inK_of hw⟩
theorem Reads.str {t : TypeId} (hu : P.underlying t = some .string) : Reads enc P W t Rep.str (fun s => s.size + 1) (fun _ => True) := by
  intro fuel cs d ps h
  obtain ⟨s, rfl, he, hw⟩ := DataW.trod_string hu h
  simp only [Prod.mk.injEq] at he
  obtain ⟨rfl, rfl⟩ := he
  exact ⟨s, rfl, by simp [Rows.uptoBulk], trivial⟩
theorem mapM_some_at {α β : Type} {f : α → Option β} : ∀ {l : List α} {ys : List β}, l.mapM f = some ys → ys.length = l.length ∧ ∀ (i : Nat) (x : α), l[i]? = some x → f x = ys[i]?
  | [], ys, h => by simp at h; subst h; exact ⟨rfl, fun i x hx => by simp at hx⟩
  | a :: l, ys, h => by
    rw [List.mapM_cons] at h
    simp only [bind, Option.bind_eq_some_iff, pure, Option.some.injEq] at h
    obtain ⟨y, hy, ys', hys, rfl⟩ := h
    obtain ⟨h1, h2⟩ := mapM_some_at hys
    refine ⟨by simp [h1], fun i x hx => ?_⟩
    cases i with
    | zero => simp at hx; subst hx; simpa using hy
    | succ i => simpa using h2 i x (by simpa using hx)
theorem cells_at {w : World} {a : Addr} {n : Nat} {cs : List Value} (h : w.cells? 0 a n = some cs) : cs.length = n ∧ ∀ j u, cs[j]? = some u → w.cell? (a.add j) = some u := by
  unfold World.cells? at h
  simp only [Nat.zero_le, if_true] at h
  obtain ⟨h1, h2⟩ := mapM_some_at h
  refine ⟨by simpa using h1, fun j u hu => ?_⟩
  have hj : j < n := by have := (List.getElem?_eq_some_iff.1 hu).1; simp at h1; omega
  rw [h2 j j (by simp [hj]), hu]
theorem spot_none {w : World} {a : Addr} {v : Value} (h : w.cell? a = some v) : a.spot = none := by
  unfold World.cell? at h
  split at h
  · split at h
    · cases h
    · rename_i hs
      cases hsp : a.spot with
      | none => rfl
      | some x => rw [hsp] at hs; simp at hs
  · cases h
def szL {α : Type} (sz : α → Nat) : List α → Nat
  | [] => 1
  | x :: t => sz x + szL sz t
theorem szL_len {α : Type} {sz : α → Nat} (h1 : ∀ x, 1 ≤ sz x) : ∀ xs : List α, xs.length < szL sz xs
  | [] => by simp [szL]
  | x :: t => by have := szL_len h1 t; have := h1 x; simp [szL]; omega
theorem szL_mem {α : Type} {sz : α → Nat} {x : α} : ∀ {xs : List α}, x ∈ xs → sz x < szL sz xs
  | y :: t, h => by
    rcases List.mem_cons.1 h with rfl | h
    · have : ∀ l : List α, 1 ≤ szL sz l := fun l => by induction l with
        | nil => simp [szL]
        | cons a l ih => simp [szL]; omega
      have := this t
      simp [szL]; omega
    · have := szL_mem (sz := sz) h
      simp [szL]; omega
theorem Reads.slice {α : Type} {t e sz' bytes : Nat} {r : Rep α} {sz : α → Nat} {wf : α → Prop} (he : ElemOf P t e sz' bytes) (hr : r.sz = sz') (h : Reads enc P W e r sz wf) : Reads enc P W t (Rep.slice r) (szL sz) (fun xs => ∀ x ∈ xs, wf x) := by
  intro fuel cs d ps h1
  obtain ⟨inf, z, hi, _, hsz, _, _⟩ := he.info
  have hc : P.cellsOf e = r.sz := by simp [Program.cellsOf, hi, hsz, hr]
  have hpos : 0 < r.sz := hr ▸ he.pos
  rcases DataW.trod_slice he.under h1 with ⟨rfl, hx⟩ | ⟨a, len, cap, elems, rest, n, _, rfl, hx, _, hl, hm, hlen, hel, _, _⟩
  · simp only [Prod.mk.injEq] at hx
    obtain ⟨rfl, rfl⟩ := hx
    exact ⟨[], ⟨_, rfl, .inl ⟨rfl, none, 0, rfl⟩⟩, by simp [szL, Rows.uptoBulk], fun x hx => by cases hx⟩
  · simp only [Prod.mk.injEq] at hx
    obtain ⟨rfl, _⟩ := hx
    rw [hc] at hel
    have key : ∀ (es : List (DataW H × List MemPlace)) (k : Nat), k + es.length = len → (∀ i y, es[i]? = some y → elems[k + i]? = some y) →
        ∃ xs : List α, xs.length = es.length ∧ szL sz xs ≤ Rows.uptoBulkAll (es.map (·.1)) + 1 ∧ (∀ x ∈ xs, wf x) ∧ ∀ i x, xs[i]? = some x → a.spot = none ∧ ∃ c, r.R (seen W) c x ∧ ∀ j u, c[j]? = some u → W.cell? ⟨a.block, a.off + (k + i) * r.sz + j, none⟩ = some u := by
      intro es
      induction es with
      | nil => intro k _ _; exact ⟨[], rfl, by simp [szL, Rows.uptoBulkAll], fun x hx => (by cases hx), fun i x hx => (by simp at hx)⟩
      | cons y es ih =>
        intro k hk hes
        have hy := hes 0 y rfl
        have h2 := hel k (by simp at hk; omega)
        rw [Nat.add_zero] at hy
        rw [hy] at h2
        obtain ⟨c, hc1, hc2⟩ := Option.bind_eq_some_iff.1 h2
        obtain ⟨hc3, hc4⟩ := cells_at hc1
        obtain ⟨x, hx1, hx2, hx3⟩ := h n c y.1 y.2 hc2
        obtain ⟨xs, e1, e2, e3, e4⟩ := ih (k + 1) (by simp at hk; omega) (fun i z hz => by
          have := hes (i + 1) z (by simpa using hz)
          rwa [show k + 1 + i = k + (i + 1) by omega])
        have hlc : c.length = r.sz := r.len hx1
        have hsp : a.spot = none := by
          have h5 := hc4 0 c[0] (List.getElem?_eq_getElem (by omega))
          simp only [Addr.add, if_true] at h5
          have h6 := spot_none h5
          by_cases hk0 : k * r.sz = 0
          · simpa [hk0] using h6
          · have h7 := hel 0 (by simp at hk; omega)
            have h8 : elems[0]? ≠ none := by
              rw [ne_eq, List.getElem?_eq_none_iff]; simp at hk; omega
            obtain ⟨z0, hz0⟩ := Option.ne_none_iff_exists'.1 h8
            rw [hz0] at h7
            obtain ⟨c0, hd1, hd2⟩ := Option.bind_eq_some_iff.1 h7
            obtain ⟨hd3, hd4⟩ := cells_at hd1
            have := hd4 0 c0[0] (List.getElem?_eq_getElem (by omega))
            simp only [Nat.zero_mul, Addr.add, if_true] at this
            exact spot_none this
        have hadd : ∀ m j, (a.add m).add j = ⟨a.block, a.off + m + j, none⟩ := by
          intro m j
          cases a with
          | mk ab ao asp =>
            simp only at hsp
            subst hsp
            rw [Addr.add_lit, Addr.add_lit]
        refine ⟨x :: xs, by simp [e1], ?_, ?_, ?_⟩
        · simp only [szL, List.map_cons, Rows.uptoBulkAll]; omega
        · intro z hz
          rcases List.mem_cons.1 hz with rfl | hz
          · exact hx3
          · exact e3 z hz
        · intro i z hz
          cases i with
          | zero =>
            simp at hz; subst hz
            refine ⟨hsp, c, hx1, fun j u hu => ?_⟩
            have := hc4 j u hu
            rw [hadd] at this
            exact this
          | succ i =>
            obtain ⟨_, c', f1, f2⟩ := e4 i z (by simpa using hz)
            refine ⟨hsp, c', f1, fun j u hu => ?_⟩
            have := f2 j u hu
            rwa [show k + 1 + i = k + (i + 1) by omega] at this
    obtain ⟨xs, e1, e2, e3, e4⟩ := key elems 0 (by omega) (fun i y hy => by rwa [Nat.zero_add])
    refine ⟨xs, ⟨_, rfl, ?_⟩, by simp only [Rows.uptoBulk]; omega, e3⟩
    cases hxs : xs with
    | nil =>
      subst hxs
      have h0 : len = 0 := by simp at e1; omega
      subst h0
      exact .inl ⟨rfl, _, _, rfl⟩
    | cons x0 xs0 =>
      rw [← hxs]
      have hsp := (e4 0 x0 (by rw [hxs]; rfl)).1
      refine .inr ⟨a.block, a.off, cap, ?_, by omega, fun i x hx => ?_⟩
      · rw [e1, hlen]
        cases a with
        | mk ab ao asp => simp only at hsp; subst hsp; rfl
      · obtain ⟨_, c, f1, f2⟩ := e4 i x hx
        exact ⟨c, f1, fun j u hu => by have := f2 j u hu; rw [Nat.zero_add] at this; exact this⟩
end
end Go.Proofs.YtekafkokpnihfaaGreat
