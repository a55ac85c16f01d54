/- PROVED: 'posternlaw12.CanonTwo' returns true for every input whose bulk is at most 1048576, and what came in reads as it did. No other conditions. -/
import Derived.Test.YtekafkokpnihfaaGreatPureCT
import Derived.Test.YtekafkokpnihfaaGreatFew
import Derived.Test.YtekafkokpnihfaaGreatReads
import Derived.Test.YtekafkokpnihfaaGreatRows
import Derived.WalkKit
import Derived.ProofKit
import Derived.OpenShut
import Derived.ShutString
import Derived.ChangeOld
import Derived.Below
import Derived.JoinedCond
import Derived.Lib.SmallJoins
namespace Go.Proofs.YtekafkokpnihfaaGreat
open Go.ChangeShapes Go.WideShapes Go.ChangeAt Go.RowKit Go.Joins
set_option linter.constructorNameAsVariable false
namespace RowCanonTwo
theorem own : ownKnob Tryz.prog.godebug = none := by kernel_rfl
theorem laidOut : laidOutB Tryz.prog = true := by kernel_rfl
set_option maxRecDepth 100000 in
theorem slice_cell43 {W : World} {base : Nat} {v v' : Value} (h : Value.okWide Tryz.prog W .any base 43 v) (e : v.cells.toList = [v']) : v = v' := by
  obtain ⟨a, l, c, rfl⟩ := okWide_slice Tryz.underlying43 h
  simpa [Value.cells] using e
set_option maxRecDepth 100000 in
theorem lifted (os : Os) (started : os.Started) (H : Type) (enc : TypeId × Value → H) (F : Stop.Interp) :
    ReturnsInHanded {} Tryz.checked os 4 .any ((Rows.OpenSpec.upto Rows.canonTwoSpec).pre6 enc Tryz.prog Tryz.f4 Rows.canonTwoUptoRow.domain false) (((Rows.OpenSpec.upto Rows.canonTwoSpec).at F).post enc Tryz.prog Tryz.f4 false true false false) := by
  refine returnsInHanded_of_cond (C := Tryz.checked) (s := Rows.OpenSpec.upto Rows.canonTwoSpec) (k := Rows.uptoSmall) rfl own started (by kernel_rfl) Tryz.func4
    (OpenSpec.witness (enc := enc) (C := Tryz.checked) (s := Rows.OpenSpec.upto Rows.canonTwoSpec) (k := Rows.uptoSmall) rfl false ⟨#[], #[.agg #[.slice none 0 0, .slice none 0 0, .slice none 0 0, .slice none 0 0, .slice none 0 0, .slice none 0 0, .slice none 0 0, .slice none 0 0, .slice none 0 0, .slice none 0 0, .slice none 0 0], .slice none 0 0, .slice none 0 0], []⟩ 8 (by kernel_rfl) (by kernel_rfl) (by kernel_rfl) (by kernel_rfl)
      (x := ([(.agg [.nil, .nil, .nil, .nil, .nil, .nil, .nil, .nil, .nil, .nil, .nil]), .nil, .nil], [], [])) (by kernel_rfl) rfl rfl) ?_
  intro W base args ds gs before hval0 hW hk0 hk _
  have hval : ∀ (j : Nat) t v, Tryz.f4.params[j]? = some t → args[j]? = some v → Value.okWide Tryz.prog W .any base t v := hval0
  have hW' := hW
  obtain ⟨p, q, hA0, hV, rfl, hfz, hnd⟩ := hW
  have hA : DataW.TrodAll enc Tryz.prog W 0 (fun _ => true) true Tryz.f4.params.toList args.toList ds p := hA0
  rw [Tryz.params4] at hA hval
  obtain ⟨v0, vs0, d0, ds0, p0, q0, hargs, rfl, rfl, h0, r0⟩ := trodAll_cons hA
  obtain ⟨v1, vs1, d1, ds1, p1, q1, rfl, rfl, rfl, h1, r1⟩ := trodAll_cons r0
  obtain ⟨v2, vs2, d2, ds2, p2, q2, rfl, rfl, rfl, h2, r2⟩ := trodAll_cons r1
  obtain ⟨rfl, rfl, rfl⟩ := trodAll_nil r2
  obtain rfl : args = #[v0, v1, v2] := by cases args; simp_all
  obtain ⟨rfl, rfl⟩ := trodVars_none hV
  have k0 := h0
  have lt0 : ∀ x ∈ p0, x.block < W.heap.size := by obtain ⟨m, hm⟩ := k0; exact DataW.trod_lt m _ _ _ hm
  have k1 := h1
  have lt1 : ∀ x ∈ p1, x.block < W.heap.size := by obtain ⟨m, hm⟩ := k1; exact DataW.trod_lt m _ _ _ hm
  have k2 := h2
  have lt2 : ∀ x ∈ p2, x.block < W.heap.size := by obtain ⟨m, hm⟩ := k2; exact DataW.trod_lt m _ _ _ hm
  obtain ⟨c0, rfl, _⟩ := okWide_struct Tryz.underlying27 (hval 0 27 v0 rfl rfl)
  obtain ⟨m0, hm0⟩ := h0
  obtain ⟨x0, f0, s0, w0⟩ := reads_27 m0 _ _ _ hm0
  obtain ⟨m1, hm1⟩ := h1
  obtain ⟨x1, ⟨v1', e1, f1⟩, s1, w1⟩ := (Reads.slice el43 rfl (Reads.slice el28 rfl (Reads.int Tryz.underlying21))) m1 _ _ _ hm1
  have hv1 : v1 = v1' := slice_cell43 (hval 1 43 v1 rfl rfl) e1
  subst hv1
  obtain ⟨m2, hm2⟩ := h2
  obtain ⟨x2, ⟨v2', e2, f2⟩, s2, w2⟩ := (Reads.slice el43 rfl (Reads.slice el28 rfl (Reads.int Tryz.underlying21))) m2 _ _ _ hm2
  have hv2 : v2 = v2' := slice_cell43 (hval 2 43 v2 rfl rfl) e2
  subst hv2
  have hbulk : Rows.uptoBulkAll [d0, d1, d2] ≤ 1048576 := of_decide_eq_true hk
  have hsz : sz_27 x0 + (szL (szL (fun _ => 1))) x1 + (szL (szL (fun _ => 1))) x2 ≤ 1048576 := by simp only [Rows.uptoBulkAll] at hbulk; omega
  have hT : law12_CanonTwo.f x0 x1 x2 = some true := canonTwo_true x0 (few_of_sz (by omega)) x1 x2 (by have := flat_szL x1; omega) (by have := flat_szL x2; omega) (by have := flat_szL x1; omega) (by have := flat_szL x2; omega)
  refine ((law12_CanonTwo.c (St.refl W) (c0 := c0.toList) f0 f1 f2 hT).2.mono fun e W' h => ?_)
  obtain ⟨v, rfl, rfl, hs⟩ := h
  have bel := hs.below
  exact ⟨_, rfl, _, _, _, [], _, [], hW', trodAll_mk1 (shut_bool Tryz.underlying4 _), (trodAll_cons_mk (Below.trod laidOut (by kernel_rfl) (of_decide_eq_true (by kernel_rfl)) k0 bel lt0) (trodAll_cons_mk (Below.trod laidOut (by kernel_rfl) (of_decide_eq_true (by kernel_rfl)) k1 bel lt1) (trodAll_cons_mk (Below.trod laidOut (by kernel_rfl) (of_decide_eq_true (by kernel_rfl)) k2 bel lt2) trodAll_mk0))), rfl, bel.frame _, fun h => by cases h⟩
end RowCanonTwo
set_option maxRecDepth 100000 in
theorem canonTwo_closed : joinedFacts Tryz.prog 4 Tryz.f4 (Rows.OpenSpec.upto Rows.canonTwoSpec).bare Rows.canonTwoUptoRow = true := by kernel_rfl
set_option maxRecDepth 100000 in
theorem canonTwo_holds : Rows.CanonTwoUptoSaid :=
  OpenClaim.holds_of_cond 4 Tryz.f4 rfl rfl rfl rfl rfl rfl rfl ⟨rfl, rfl, rfl, rfl, rfl⟩ rfl rfl rfl rfl rfl (by kernel_rfl) Tryz.func4 canonTwo_closed
    (of_decide_eq_true (by kernel_rfl)) (by unfold Func.isWrapper; first | (rw [if_pos (by decide +kernel)]; kernel_rfl) | (rw [if_neg (by decide +kernel)]; exact ⟨rfl, rfl⟩))
    (fun os started H enc _ F => RowCanonTwo.lifted os started H enc F)
#print axioms canonTwo_holds
end Go.Proofs.YtekafkokpnihfaaGreat
