/- A book of small bulk has few rows. Own work of this repo. -/
import Derived.Test.YtekafkokpnihfaaGreatReads
import Derived.Test.YtekafkokpnihfaaGreatPureG
namespace Go.Proofs.YtekafkokpnihfaaGreat
theorem few_of_sz {b : Bk} (h : sz_27 b ≤ 1048577) : Few b := by
  unfold sz_27 at h
  have v1 : ∀ x, 1 ≤ sz_108 x := fun x => by unfold sz_108; omega
  have c1 : ∀ x, 1 ≤ sz_94 x := fun x => by unfold sz_94; omega
  have p1 : ∀ x, 1 ≤ sz_110 x := fun x => by unfold sz_110; omega
  have a0 := szL_len (sz := fun s : ByteArray => s.size + 1) (fun x => by omega) b.names
  have a1 := szL_len v1 b.status
  have a2 := szL_len c1 b.maps
  have a3 := szL_len v1 b.class_
  have a4 := szL_len c1 b.decomp
  have a5 := szL_len p1 b.excl
  have a6 := szL_len v1 b.bidi
  have a7 := szL_len v1 b.join
  have a8 := szL_len p1 b.marks
  have a9 := szL_len v1 b.script
  have a10 := szL_len c1 b.like
  have inn : ∀ (l : List Chs), szL sz_94 l ≤ 1048577 → ∀ x ∈ l, x.is_.length ≤ bigN := by
    intro l hl x hx
    have h1 := szL_mem (sz := sz_94) hx
    have h2 := szL_len (sz := fun _ : Int => 1) (fun _ => Nat.le_refl 1) x.is_
    have h3 : szL (fun _ : Int => 1) x.is_ ≤ sz_94 x := by unfold sz_94; omega
    unfold bigN
    omega
  constructor
  all_goals first | (unfold bigN; omega) | exact inn _ (by omega)
theorem flat_szL : ∀ l : List (List Int), l.flatten.length + l.length < szL (szL (fun _ : Int => 1)) l
  | [] => by simp [szL]
  | x :: l => by
    have h1 := flat_szL l
    have h2 := szL_len (sz := fun _ : Int => 1) (fun _ => Nat.le_refl 1) x
    simp only [szL, List.flatten_cons, List.length_append, List.length_cons]
    omega
end Go.Proofs.YtekafkokpnihfaaGreat
