/- Arrays: a stretch of cells in a box or in what never changes, as a Vector. Own work of this repo. -/
import Derived.Test.YtekafkokpnihfaaGreatEngI
namespace Go.Proofs.YtekafkokpnihfaaGreat
open Go.RowKit

section
variable {α : Type} {m : Nat}
def vcs (E : α → Value) (y : Vector α m) : List Value := y.toList.map E
def vg [Inhabited α] (y : Vector α m) (i : Int) : α := y.toList.getD i.toNat default
def vset (y : Vector α m) (i : Int) (z : α) : Vector α m := ⟨y.toArray.setIfInBounds i.toNat z, by simp⟩
@[simp] theorem vcs_length (E : α → Value) (y : Vector α m) : (vcs E y).length = m := by simp [vcs]
theorem vset_toList (y : Vector α m) (i : Int) (z : α) : (vset y i z).toList = y.toList.set i.toNat z := by
  simp [vset, Vector.toList]
theorem vcs_vset (E : α → Value) (y : Vector α m) (i : Int) (z : α) : vcs E (vset y i z) = (vcs E y).set i.toNat (E z) := by
  simp [vcs, vset_toList, List.map_set]
theorem vcs_get [Inhabited α] (E : α → Value) (y : Vector α m) {i : Int} (h0 : 0 ≤ i) (h1 : i < (m : Int)) : (vcs E y)[i.toNat]? = some (E (vg y i)) := by
  have : i.toNat < y.toList.length := by simp; omega
  simp only [vcs, List.getElem?_map, List.getElem?_eq_getElem this, Option.map_some, vg, List.getD_eq_getElem?_getD, Option.getD_some]
theorem seg_get [Inhabited α] {E : α → Value} {y : Vector α m} {A B : List Value} {i : Int} {o : Nat} (ho : o = A.length) (h0 : 0 ≤ i) (h1 : i < (m : Int)) : (A ++ (vcs E y ++ B))[o + i.toNat]? = some (E (vg y i)) := by
  subst ho
  rw [List.getElem?_append_right (by omega), Nat.add_sub_cancel_left, List.getElem?_append_left (by simp; omega)]
  exact vcs_get E y h0 h1
theorem seg_set {E : α → Value} {y : Vector α m} {A B : List Value} {i : Int} {z : α} {o : Nat} (ho : o = A.length) (h0 : 0 ≤ i) (h1 : i < (m : Int)) : (A ++ (vcs E y ++ B)).set (o + i.toNat) (E z) = A ++ (vcs E (vset y i z) ++ B) := by
  subst ho
  rw [List.set_append_right _ _ (by omega), Nat.add_sub_cancel_left, List.set_append_left _ _ (by simp; omega), vcs_vset]
theorem seg_beh {E : α → Value} {y : Vector α m} {A B : List Value} {o q : Nat} {v : Value} (ho : o = A.length + m + q) (hv : B[q]? = some v) : (A ++ (vcs E y ++ B))[o]? = some v := by
  subst ho
  rw [List.getElem?_append_right (by omega), List.getElem?_append_right (by simp; omega)]
  rw [← hv]; congr 1; simp; omega
theorem seg_behSet {E : α → Value} {y : Vector α m} {A B : List Value} {o q : Nat} {v : Value} (ho : o = A.length + m + q) : (A ++ (vcs E y ++ B)).set o v = A ++ (vcs E y ++ B.set q v) := by
  subst ho
  rw [List.set_append_right _ _ (by omega), List.set_append_right _ _ (by simp; omega)]
  congr 3; simp; omega
theorem vcs_one {E : α → Value} (hE : ∀ x, (E x).oneCell' = true) (y : Vector α m) : ∀ u ∈ vcs E y, u.oneCell' = true := by
  intro u hu
  obtain ⟨x, _, rfl⟩ := List.mem_map.1 hu
  exact hE x
theorem one_app {l l' : List Value} (h : ∀ v ∈ l, v.oneCell' = true) (h' : ∀ v ∈ l', v.oneCell' = true) : ∀ v ∈ l ++ l', v.oneCell' = true := fun v hv => by
  rcases List.mem_append.1 hv with hv | hv
  · exact h v hv
  · exact h' v hv
end
def Rep.arr {α : Type} (E : α → Value) (hE : ∀ x, (E x).oneCell' = true) (m : Nat) : Rep (Vector α m) := ⟨m, fun _ cs y => cs = vcs E y, fun h => by rw [h]; simp, fun _ h => h, fun h => by rw [h]; exact vcs_one hE _⟩
theorem one_int (k : IntKind) : ∀ x, (Value.int k x).oneCell' = true := fun _ => rfl
section
variable {P : Program} {n : Nat} {N : Nxt} {L : Loc} {w w0 : World} {ρ : Hp} {Γ : List Item} {ops : Array Oper} {rest : List Oper} {d t : Nat} {pos : String} {aft : Array Edge} {x y : Operand}
variable {α : Type} {m : Nat} {E : α → Value}

theorem Y_ixArr {ty e b o : Nat} {k : IntKind} {i : Int} (hu : P.underlying ty = some (.array m e)) (hs : sizeOf' P e = some 1) (hx : ev L x = some (.pointer (some ⟨b, o, none⟩))) (hy : ev L y = some (.int k i)) (h0 : 0 ≤ i) (h1 : i < (m : Int)) :
    Y P n L w (.indexAddr ty x y) t (.pointer (some ⟨b, o + i.toNat, none⟩)) := by
  intro a ha _ _ _ _
  simp only [execOp, Instr.indexAt, Instr.sureAddr, ha.ev hx, ha.ev hy, asIntOf, bind_pure_comp, Sem.run_map, Sem.run_bind, Sem.run_pure, Result.andThen, run_underlying hu]
  rw [if_pos ⟨h0, h1⟩]
  simp only [Sem.run_bind, Sem.run_map, run_sizeOf hs, Result.andThen, Nat.mul_one, Addr.add_lit]
theorem Y_loadSeg [Inhabited α] {ty b o T j : Nat} {A B : List Value} {z : Vector α m} {i : Int} (ha : isAggOf P ty = some false) (hs : St w0 ρ Γ w) (hj : Γ[j]? = some (.box b T (A ++ (vcs E z ++ B)))) (ho : o = A.length) (h0 : 0 ≤ i) (h1 : i < (m : Int)) (hx : ev L x = some (.pointer (some ⟨b, o + i.toNat, none⟩))) :
    Y P n L w (.load ty x) t (E (vg z i)) := Y_load ha hx (hs.boxCell hj (seg_get ho h0 h1))
theorem O_storeSeg {ty b o T j : Nat} {A B : List Value} {z : Vector α m} {i : Int} {u : α} (hsz : sizeOf' P ty = some 1) (hE : ∀ x, (E x).oneCell' = true) (hs : St w0 ρ Γ w) (hj : Γ[j]? = some (.box b T (A ++ (vcs E z ++ B)))) (ho : o = A.length) (h0 : 0 ≤ i) (h1 : i < (m : Int)) (hx : ev L x = some (.pointer (some ⟨b, o + i.toNat, none⟩))) (hy : ev L y = some (E u))
    (k : ∀ w', St w0 ρ (Γ.set j (.box b T (A ++ (vcs E (vset z i u) ++ B)))) w' → O P n ops rest N L w') : O P n ops (⟨none, .store ty x y, t, pos, aft, none⟩ :: rest) N L w :=
  O_store hsz hs hj (by show Nat.ble _ _ = true; rw [Nat.ble_eq]; simp; omega) hx hy (hE u) (by rw [seg_set ho h0 h1]; exact k)
theorem O_storeBeh {ty b o T j q : Nat} {A B : List Value} {z : Vector α m} {u : Value} (hsz : sizeOf' P ty = some 1) (hs : St w0 ρ Γ w) (hj : Γ[j]? = some (.box b T (A ++ (vcs E z ++ B)))) (ho : o = A.length + m + q) (hq : Nat.blt q B.length = true) (hx : ev L x = some (.pointer (some ⟨b, o, none⟩))) (hy : ev L y = some u) (hu : u.oneCell' = true)
    (k : ∀ w', St w0 ρ (Γ.set j (.box b T (A ++ (vcs E z ++ B.set q u)))) w' → O P n ops rest N L w') : O P n ops (⟨none, .store ty x y, t, pos, aft, none⟩ :: rest) N L w :=
  O_store hsz hs hj (by have := Nat.le_of_ble_eq_true hq; show Nat.ble _ _ = true; rw [Nat.ble_eq]; simp; omega) hx hy hu (by rw [seg_behSet ho]; exact k)
theorem Y_loadArr {ty b T j : Nat} {z : Vector α m} (ha : isAggOf P ty = some true) (hsz : sizeOf' P ty = some m) (hs : St w0 ρ Γ w) (hj : Γ[j]? = some (.box b T ([] ++ (vcs E z ++ [])))) (hx : ev L x = some (.pointer (some ⟨b, 0, none⟩))) : Y P n L w (.load ty x) t (.agg (vcs E z).toArray) :=
  Y_loadbN ha hsz hs hj (by simp; exact List.take_of_length_le (by simp)) (vcs_length E z) hx
theorem O_storeArr {ty b T j : Nat} {z u : Vector α m} (hsz : sizeOf' P ty = some m) (hE : ∀ x, (E x).oneCell' = true) (hs : St w0 ρ Γ w) (hj : Γ[j]? = some (.box b T ([] ++ (vcs E z ++ [])))) (hx : ev L x = some (.pointer (some ⟨b, 0, none⟩))) (hy : ev L y = some (.agg (vcs E u).toArray))
    (k : ∀ w', St w0 ρ (Γ.set j (.box b T ([] ++ (vcs E u ++ [])))) w' → O P n ops rest N L w') : O P n ops (⟨none, .store ty x y, t, pos, aft, none⟩ :: rest) N L w :=
  O_storeN hsz hs hj (by simp) (by show Nat.ble _ _ = true; rw [Nat.ble_eq]; simp) hx hy (by simpa using vcs_one hE u) (by
    have e : ([] ++ (vcs E z ++ [])).take 0 ++ (vcs E u).toArray.toList ++ ([] ++ (vcs E z ++ [])).drop (0 + m) = [] ++ (vcs E u ++ []) := by
      simp [List.drop_of_length_le]
    rw [e]; exact k)
theorem At.arr {hE : ∀ x, (E x).oneCell' = true} {b o : Nat} {z : Vector α m} (h : At ρ (Rep.arr E hE m) b o z) : CA ρ b o ([] ++ (vcs E z ++ [])) := by
  obtain ⟨cs, rfl, h2⟩ := h
  simpa using h2
theorem CA.seg [Inhabited α] {A B : List Value} {b o q : Nat} {z : Vector α m} {i : Int} (h : CA ρ b o (A ++ (vcs E z ++ B))) (hq : q = A.length) (h0 : 0 ≤ i) (h1 : i < (m : Int)) : ρ ⟨b, o + q + i.toNat, none⟩ = some (E (vg z i)) := by
  have := h (q + i.toNat) _ (seg_get hq h0 h1)
  rwa [← Nat.add_assoc] at this
theorem Y_to {op : Op} {v v' : Value} (h : Y P n L w op t v) (e : v = v') : Y P n L w op t v' := e ▸ h
theorem CA.sub {b o off k : Nat} {cs ds : List Value} (h : CA ρ b o cs) (e : (cs.drop off).take k = ds) : CA ρ b (o + off) ds := fun j u hu => by
  subst e
  rw [List.getElem?_take] at hu
  split at hu
  · rw [List.getElem?_drop] at hu
    have := h _ u hu
    rwa [← Nat.add_assoc] at this
  · cases hu
theorem get_part {o k : Nat} {cs ds : List Value} (e : (cs.drop o).take k = ds) : ∀ (j : Nat) (u : Value), ds[j]? = some u → cs[o + j]? = some u := fun j u hu => by
  subst e
  rw [List.getElem?_take] at hu
  split at hu
  · rw [List.getElem?_drop] at hu; exact hu
  · cases hu
theorem O_storeRowF {β : Type} [Inhabited β] {r : Rep β} {ty j e g off : Nat} {v u : Value} {cs : List Value} {xs : List β} {i : Int} {z : β} (hsz : sizeOf' P ty = some 1) (hs : St w0 ρ Γ w) (hi : Γ[j]? = some (.row v e r.sz xs.length cs)) (hg : v.ownBlock = some g) (h0 : 0 ≤ i) (h1 : i < (xs.length : Int)) (hoff : off < r.sz) (hr : RowR r ρ cs xs) (hx : ev L x = some (.pointer (some ⟨g, i.toNat * r.sz + off, none⟩))) (hy : ev L y = some u) (hu : u.oneCell' = true)
    (hz : ∀ c, r.R ρ c (rd xs i) → r.R ρ (c.set off u) z)
    (hK : ∀ cs' w', RowR r ρ cs' (xs.set i.toNat z) → St w0 ρ (Γ.set j (.row v e r.sz (xs.set i.toNat z).length cs')) w' → O P n ops rest N L w') : O P n ops (⟨none, .store ty x y, t, pos, aft, none⟩ :: rest) N L w := by
  have hlt : i.toNat < xs.length := by omega
  have hle : i.toNat * r.sz + r.sz ≤ xs.length * r.sz := by
    rw [← Nat.succ_mul]; exact Nat.mul_le_mul_right _ hlt
  have hk : i.toNat * r.sz + off < cs.length := by rw [hr.1]; omega
  refine O_storeRow hsz hs hi hg hk hx hy hu fun w' h => hK _ w' ?_ (by rw [List.length_set]; exact h)
  refine ⟨by simp [hr.1], fun p q hq => ?_⟩
  rw [List.getElem?_set] at hq
  by_cases hp : i.toNat = p
  · subst hp
    rw [if_pos rfl, if_pos hlt] at hq
    obtain rfl := Option.some.inj hq
    obtain ⟨c, h2, h3⟩ := hr.at h0 h1
    refine ⟨c.set off u, hz c h2, fun k a ha => ?_⟩
    rw [List.getElem?_set] at ha
    split at ha
    · rename_i e
      subst e
      split at ha
      · rw [List.getElem?_set, if_pos rfl, if_pos hk]; exact ha
      · cases ha
    · rename_i e
      rw [List.getElem?_set_ne (by omega)]
      exact h3 k a ha
  · rw [if_neg hp] at hq
    obtain ⟨c, h2, h3⟩ := hr.2 p q hq
    refine ⟨c, h2, fun k a ha => ?_⟩
    have hkl : k < r.sz := by rw [← r.len h2]; exact (List.getElem?_eq_some_iff.1 ha).1
    have hne : i.toNat * r.sz + off ≠ p * r.sz + k := by
      intro e
      rcases Nat.lt_or_gt_of_ne hp with hlt' | hgt
      · have := Nat.mul_le_mul_right r.sz (show i.toNat + 1 ≤ p from hlt'); rw [Nat.succ_mul] at this; omega
      · have := Nat.mul_le_mul_right r.sz (show p + 1 ≤ i.toNat from hgt); rw [Nat.succ_mul] at this; omega
    rw [List.getElem?_set_ne hne]
    exact h3 k a ha
end
section
variable {P : Program} {n : Nat} {N : Nxt} {X : Nat → Nxt} {R : Nxt} {L : Loc} {w : World} {c : Code}
def WL (P : Program) (n : Nat) (c : Code) (X : Nat → Nxt) (R : Nxt) (L : Loc) (w : World) : Prop :=
  ∀ a, Sat n L a → ∀ b kk cs, ∃ e a' w', Out n (fun _ _ => False) X R e a' w' ∧ Arrives P (lone (b.at a (.code c :: .inLoop c :: kk)) cs w) b kk cs e a' w'
theorem WL_round (h : ∀ N' : Nxt, (∀ L w, WL P n c X R L w → N' L w) → W P n c N' X R L w) : WL P n c X R L w := by
  intro a ha b kk cs
  obtain ⟨e, a', w', hq, harr⟩ := h (fun L w => WL P n c X R L w) (fun _ _ h => h) a ha b (.inLoop c :: kk) cs
  cases e with
  | normal =>
    obtain ⟨L', hs', hWL⟩ := hq
    obtain ⟨e₂, a₂, w₂, hq₂, harr₂⟩ := hWL a' hs' b kk cs
    exact ⟨e₂, a₂, w₂, hq₂, .of_steps (Steps.trans harr (.one step_inLoop)) harr₂⟩
  | exit i => exact ⟨.exit i, a', w', hq, .pass (x := .inLoop c) rfl (fun _ _ => .inl (by simp)) harr⟩
  | goto l => exact hq.elim
  | ret => exact ⟨.ret, a', w', hq, .pass (x := .inLoop c) rfl (fun _ _ => .inl (by simp)) harr⟩
  | panic ch => exact hq.elim
  | outgrown => exact hq.elim
theorem W_unr (h : WL P n c X R L w) : W P n (.loop c) N X R L w := by
  intro a ha b kk cs
  obtain ⟨e, a', w', hq, harr⟩ := h a ha b kk cs
  refine ⟨e, a', w', ?_, .of_steps (.one step_loop) harr⟩
  cases e with
  | normal => obtain ⟨_, _, hf⟩ := hq; exact hf.elim
  | exit i => exact hq
  | goto l => exact hq
  | ret => exact hq
  | panic ch => exact hq
  | outgrown => exact hq
end
def KeyK.vec {P : Program} {t e m : Nat} {k : IntKind} (hu : P.underlying t = some (.array m e)) (hi : (P.info? e).isSome = true) (hc : P.cellsOf e = 1) (hs : sizeOf' P e = some 1) (he : P.underlying e = some (.int k)) (hg : isAggOf P e = some false) : KeyK P t (Vector Int m) :=
  KeyK.arr (fun y => y.toList) (fun x y h => Vector.toList_inj.1 h) (fun y => Vector.length_toList) hu hi hc hs he hg
end Go.Proofs.YtekafkokpnihfaaGreat
