/- Windows: a stretch of an own row is handed down as a slice, is read and is written. Own work of this repo. -/
import Derived.Test.YtekafkokpnihfaaGreatEngL
namespace Go.Proofs.YtekafkokpnihfaaGreat
open Go.RowKit
section
variable {P : Program} {n : Nat} {N : Nxt} {L : Loc} {w w0 : World} {ops : Array Oper} {rest : List Oper} {d t : Nat} {pos : String} {aft : Array Edge} {ρ : Hp} {Γ : List Item} {x y : Operand}

def Win (v : Value) (lo m : Nat) (d : Value) : Prop := ∃ a c, d = .slice a m c ∧ m ≤ c ∧ (0 < m → ∃ g, v.ownBlock = some g ∧ a = some ⟨g, lo, none⟩)
theorem Win.one {v d : Value} {lo m : Nat} (h : Win v lo m d) : d.oneCell' = true := by obtain ⟨a, c, rfl, _⟩ := h; rfl
theorem Y_ixWin {sl e bytes lo m g : Nat} {v d : Value} {k : IntKind} {i : Int} (he : ElemOf P sl e 1 bytes) (hw : Win v lo m d) (hg : v.ownBlock = some g) (hx : ev L x = some d) (hy : ev L y = some (.int k i)) (h0 : 0 ≤ i) (h1 : i < (m : Int)) :
    Y P n L w (.indexAddr sl x y) t (.pointer (some ⟨g, lo + i.toNat, none⟩)) := by
  obtain ⟨a, c, rfl, hc, hp⟩ := hw
  obtain ⟨g', e1, rfl⟩ := hp (by omega)
  rw [hg] at e1
  cases e1
  have := Y_ix (n := n) (L := L) (w := w) (t := t) he hx hy h0 h1
  simpa using this
theorem Y_ldRow {ty j e m g q : Nat} {v : Value} {cs : List Value} {xs : List Int} {k : IntKind} (ha : isAggOf P ty = some false) (hs : St w0 ρ Γ w) (hi : Γ[j]? = some (.row v e 1 m cs)) (hg : v.ownBlock = some g) (hr : RowR (Rep.int k) ρ cs xs) (hq : q < xs.length)
    (hx : ev L x = some (.pointer (some ⟨g, q, none⟩))) : Y P n L w (.load ty x) t (.int k (rd xs (q : Int))) := by
  obtain ⟨c, hc, hcs⟩ := hr.2 q (rd xs (q : Int)) (by have := rd_get (xs := xs) (i := (q : Int)) (by omega) (by omega); simpa using this)
  have hc : c = [.int k (rd xs (q : Int))] := hc
  have := hcs 0 (.int k (rd xs (q : Int))) (by rw [hc]; rfl)
  have hsz : (Rep.int k).sz = 1 := rfl
  rw [hsz, Nat.mul_one, Nat.add_zero] at this
  exact Y_load ha hx (hs.rowCell hi hg this)
theorem RowR.setInt {k : IntKind} {cs : List Value} {xs : List Int} (hr : RowR (Rep.int k) ρ cs xs) (q : Nat) (z : Int) : RowR (Rep.int k) ρ (cs.set q (.int k z)) (xs.set q z) := by
  have hsz : (Rep.int k).sz = 1 := rfl
  refine ⟨by simpa using hr.1, fun i u hu => ⟨[.int k u], rfl, fun j a ha => ?_⟩⟩
  rw [hsz, Nat.mul_one]
  cases j with
  | succ j => simp at ha
  | zero =>
    simp only [List.getElem?_cons_zero, Option.some.injEq] at ha
    subst ha
    rw [Nat.add_zero]
    by_cases c : q = i
    · subst c
      have hl : q < xs.length := by
        have := List.getElem?_eq_some_iff.1 hu
        obtain ⟨h, _⟩ := this; simpa using h
      rw [List.getElem?_set_self hl] at hu
      rw [List.getElem?_set_self (by rw [hr.1, hsz]; omega)]
      simp only [Option.some.injEq] at hu ⊢
      rw [hu]
    · rw [List.getElem?_set_ne c] at hu
      rw [List.getElem?_set_ne c]
      obtain ⟨c', h1, h2⟩ := hr.2 i u hu
      have h1 : c' = [.int k u] := h1
      have := h2 0 (.int k u) (by rw [h1]; rfl)
      rw [hsz, Nat.mul_one, Nat.add_zero] at this
      exact this
end
end Go.Proofs.YtekafkokpnihfaaGreat
