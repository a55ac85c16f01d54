/- Keys that are short arrays; maps, boxes and pointers that never change any more. Own work of this repo. -/
import Derived.Test.YtekafkokpnihfaaGreatEngH
import Derived.ChangeKeysEq
namespace Go.Proofs.YtekafkokpnihfaaGreat
open Go.RowKit Go.MapKept

section
variable {P : Program} {w : World}
def acs (k : IntKind) (xs : List Int) : List Value := xs.map fun x => .int k x
theorem run_part_int {e : Nat} {k : IntKind} (hg : isAggOf P e = some false) (xs : List Int) {i : Nat} {x : Int} (hi : xs[i]? = some x) : (part e (acs k xs).toArray i).run P w = .ok (.int k x) w := by
  have : (acs k xs).toArray[i]? = some (.int k x) := by simp [acs, hi]
  simp only [part, Sem.run_bind, run_isAgg hg, Result.andThen, Bool.false_eq_true, if_false, this, Sem.run_pure]
theorem run_eq_int {e : Nat} {k : IntKind} (hu : P.underlying e = some (.int k)) (d : Nat) (x y : Int) : (Op.equalIn (d + 1) e (.int k x) (.int k y)).run P w = .ok (x == y) w := by
  unfold Op.equalIn
  simp only [Sem.run_bind, run_underlying hu, Result.andThen, if_true, Sem.run_pure]
theorem run_items_int {e : Nat} {k : IntKind} (hu : P.underlying e = some (.int k)) (hg : isAggOf P e = some false) (d : Nat) (xs ys : List Int) (hl : xs.length = ys.length) :
    ∀ is : List Nat, (∀ i ∈ is, i < xs.length) → (Op.eqItems (d + 1) e 1 (acs k xs).toArray (acs k ys).toArray is).run P w = .ok (is.all fun i => decide (xs[i]? = ys[i]?)) w
  | [], _ => by simp [Op.eqItems]
  | i :: is, h => by
    have hi := h i (List.mem_cons_self ..)
    have h1 : xs[i]? = some xs[i] := List.getElem?_eq_getElem hi
    have h2 : ys[i]? = some (ys[i]'(hl ▸ hi)) := List.getElem?_eq_getElem _
    have ih := run_items_int hu hg d xs ys hl is (fun j hj => h j (List.mem_cons_of_mem _ hj))
    simp only [Op.eqItems, Sem.run_bind, Nat.mul_one, run_part_int hg xs h1, run_part_int hg ys h2, run_eq_int hu, Result.andThen, List.all_cons]
    by_cases e : xs[i] = ys[i]'(hl ▸ hi)
    · simp only [e, BEq.rfl, Bool.not_true, Bool.false_eq_true, if_false, ih, h1, h2, decide_true, Bool.true_and]
    · simp [e, h1, h2]
theorem all_range_eq {xs ys : List Int} {n : Nat} (h1 : xs.length = n) (h2 : ys.length = n) : ((List.range n).all fun i => decide (xs[i]? = ys[i]?)) = decide (xs = ys) := by
  by_cases e : xs = ys
  · subst e; simp
  · have : ∃ i, i < n ∧ xs[i]? ≠ ys[i]? := by
      apply Classical.byContradiction
      intro hn
      apply e
      apply List.ext_getElem?
      intro i
      rcases Nat.lt_or_ge i n with h | h
      · exact Classical.byContradiction fun hc => hn ⟨i, h, hc⟩
      · rw [List.getElem?_eq_none (by omega), List.getElem?_eq_none (by omega)]
    obtain ⟨i, hi, hne⟩ := this
    simp only [e, decide_false, List.all_eq_false, List.mem_range]
    exact ⟨i, hi, by simpa using hne⟩
theorem run_equal_arr {t e n : Nat} {k : IntKind} {inf : TypeInfo} (hu : P.underlying t = some (.array n e)) (hi : P.info? e = some inf) (hc : P.cellsOf e = 1) (he : P.underlying e = some (.int k)) (hg : isAggOf P e = some false) {xs ys : List Int} (h1 : xs.length = n) (h2 : ys.length = n) :
    (Op.equal t (.agg (acs k xs).toArray) (.agg (acs k ys).toArray)).run P w = .ok (decide (xs = ys)) w := by
  show (Op.equalIn (9999 + 1) t _ _).run P w = _
  rw [run_equalIn_array w 9999 _ _ hu hi, hc]
  rw [run_items_int he hg 9998 xs ys (by omega) (List.range n) (fun i hi => by rw [h1]; exact List.mem_range.1 hi), all_range_eq h1 h2]
theorem run_check_arr {t e n : Nat} {k : IntKind} (hu : P.underlying t = some (.array n e)) (hs : sizeOf' P e = some 1) (he : P.underlying e = some (.int k)) (hg : isAggOf P e = some false) (em : Bool) {xs : List Int} (h1 : xs.length = n) :
    (Instr.checkKey em 10000 t (.agg (acs k xs).toArray)).run P w = .ok () w := by
  show (Instr.checkKey em (9998 + 1 + 1) t (.agg (acs k xs).toArray)).run P w = _
  rw [Instr.checkKey]
  simp only [Sem.run_bind, run_underlying hu, Result.andThen]
  simp only [Std.Legacy.Range.forIn_eq_forIn_range', Std.Legacy.Range.size, Nat.sub_zero, Nat.add_one_sub_one, Nat.div_one]
  have key : ∀ is : List Nat, (∀ i ∈ is, i < n) → (forIn (m := Sem) is PUnit.unit fun i r => (do
      let z ← sizeOf e
      let v ← part e (acs k xs).toArray (i * z)
      Instr.checkKey em (9998 + 1) e v
      pure (ForInStep.yield PUnit.unit))).run P w = .ok PUnit.unit w := by
    intro is
    induction is with
    | nil => intro _; simp
    | cons i is ih =>
      intro h
      have hi := h i (List.mem_cons_self ..)
      have hx : xs[i]? = some (xs[i]'(by omega)) := List.getElem?_eq_getElem _
      have hk : (Instr.checkKey em (9998 + 1) e (.int k (xs[i]'(by omega)))).run P w = .ok () w := run_checkKey he (by simp [IsKey]) em 9998
      simp only [List.forIn_cons, Sem.run_bind, run_sizeOf hs, Nat.mul_one, run_part_int hg xs hx, hk, Result.andThen, Sem.run_pure]
      exact ih (fun j hj => h j (List.mem_cons_of_mem _ hj))
  have := key (List.range' 0 n) (fun i hi => by simpa using (List.mem_range'_1.1 hi).2)
  simp only [bind_pure_comp] at this ⊢
  rw [this]
  rfl
theorem same_arr (k : IntKind) (xs : List Int) : Instr.sameBits 10000 (.agg (acs k xs).toArray) (.agg (acs k xs).toArray) = true := by
  show Instr.sameBits (9999 + 1) _ _ = true
  simp only [Instr.sameBits, BEq.rfl, Bool.true_and, List.all_eq_true]
  intro p hp
  obtain ⟨i, hi, e⟩ := List.getElem_of_mem hp
  rw [List.getElem_zip] at e
  rw [← e]
  simp [acs, Instr.sameBits]
end
def KeyK.arr {P : Program} {t e n : Nat} {k : IntKind} {κ : Type} [DecidableEq κ] (f : κ → List Int) (inj : ∀ x y, f x = f y → x = y) (len : ∀ x, (f x).length = n)
    (hu : P.underlying t = some (.array n e)) (hi : (P.info? e).isSome = true) (hc : P.cellsOf e = 1) (hs : sizeOf' P e = some 1) (he : P.underlying e = some (.int k)) (hg : isAggOf P e = some false) : KeyK P t κ where
  enc x := .agg (acs k (f x)).toArray
  dom _ := True
  fine em x w _ := run_check_arr hu hs he hg em (len x)
  find l x w _ _ := by
    have hask := find_ask (P := P) (t := t) (enc := fun x => .agg (acs k (f x)).toArray) (dom := fun _ => True) (fun x y w _ _ => by
      obtain ⟨inf, hinf⟩ := Option.isSome_iff_exists.1 hi
      rw [run_equal_arr hu hinf hc he hg (len x) (len y)]
      by_cases h : x = y
      · simp [h]
      · have : ¬ f x = f y := fun e => h (inj x y e)
        simp [h, this]) l x w 0 0 trivial (fun _ _ => trivial)
    simp only [Instr.findKey, Sem.run_bind, run_underlying hu, Result.andThen]
    cases l with
    | nil => simp [ents, Instr.findNow, mpos]
    | cons p l =>
      have : Instr.findNow (.array n e) (.agg (acs k (f x)).toArray) (ents (fun x => .agg (acs k (f x)).toArray) (p :: l) 0) 0 = none := by
        simp [ents, Instr.findNow, Instr.sameNow]
      rw [this]
      exact hask
  same x _ := same_arr k (f x)
def two (p : Int × Int) : List Int := [p.1, p.2]
theorem two_inj (x y : Int × Int) (h : two x = two y) : x = y := by
  simp only [two, List.cons.injEq, and_true] at h
  exact Prod.ext h.1 h.2
def KeyK.two {P : Program} {t e : Nat} {k : IntKind} (hu : P.underlying t = some (.array 2 e)) (hi : (P.info? e).isSome = true) (hc : P.cellsOf e = 1) (hs : sizeOf' P e = some 1) (he : P.underlying e = some (.int k)) (hg : isAggOf P e = some false) : KeyK P t (Int × Int) :=
  KeyK.arr Go.Proofs.YtekafkokpnihfaaGreat.two two_inj (fun _ => rfl) hu hi hc hs he hg

section
variable {w0 w : World} {ρ ρ' : Hp} {Γ : List Item}
theorem St.boxEnd (hs : St w0 ρ Γ w) {j b T : Nat} {cs : List Value} (hi : Γ[j]? = some (.box b T cs)) : ∃ ρ', Le ρ ρ' ∧ St w0 ρ' (Γ.eraseIdx j) w ∧ CA ρ' b 0 cs := by
  obtain ⟨h1, h2⟩ := hs.freeze hi rfl
  refine ⟨_, h2, h1, fun k u hu => ?_⟩
  have := hs.boxCell hi hu
  unfold Hp.with
  simp only [if_true, Nat.zero_add]
  exact this
theorem encMap_inj {es fs : Array MapEntry} {m n : Nat} (h : encMap es m = encMap fs n) : es = fs ∧ m = n := by
  simp only [encMap, Value.tuple.injEq] at h
  have h2 := congrArg Array.toList h
  simp only [Array.toList_append, Array.toList_map, List.cons_append, List.nil_append, List.cons.injEq, Value.int.injEq, true_and] at h2
  obtain ⟨h3, h4⟩ := h2
  refine ⟨?_, by omega⟩
  have key : ∀ l l' : List MapEntry, l.map (fun e => Value.tuple #[e.key, e.val, .int .i64 e.born]) = l'.map (fun e => Value.tuple #[e.key, e.val, .int .i64 e.born]) → l = l' := by
    intro l
    induction l with
    | nil => intro l' h; cases l' with
      | nil => rfl
      | cons => simp at h
    | cons e l ih =>
      intro l' h
      cases l' with
      | nil => simp at h
      | cons f l' =>
        simp only [List.map_cons, List.cons.injEq, Value.tuple.injEq, Array.mk.injEq, Value.int.injEq, true_and, and_true] at h
        obtain ⟨⟨ha, hb, hc⟩, ht⟩ := h
        rw [ih l' ht]
        congr 1
        cases e; cases f
        simp at ha hb hc
        have hc' := Int.ofNat.inj hc
        simp [ha, hb, hc']
  exact Array.ext' (key _ _ h4)
def MapR {κ ν : Type} [DecidableEq κ] (enc : κ → Value) (E : ν → Value) (ρ : Hp) (v : Value) (m : List (κ × ν)) : Prop :=
  ∃ b, v = .map (some b) ∧ ρ ⟨b, 0, some 0⟩ = some (encMap (ents enc (vs E m) 0).toArray (vs E m).length)
theorem MapR.mono {κ ν : Type} [DecidableEq κ] {enc : κ → Value} {E : ν → Value} {v : Value} {m : List (κ × ν)} (h : MapR enc E ρ v m) (hle : Le ρ ρ') : MapR enc E ρ' v m := by
  obtain ⟨b, hv, hb⟩ := h; exact ⟨b, hv, hle _ _ hb⟩
theorem MapR.one {κ ν : Type} [DecidableEq κ] {enc : κ → Value} {E : ν → Value} {v : Value} {m : List (κ × ν)} (h : MapR enc E ρ v m) : v.oneCell' = true := by
  obtain ⟨b, rfl, _⟩ := h; rfl
theorem MapR.obj {κ ν : Type} [DecidableEq κ] {enc : κ → Value} {E : ν → Value} {v : Value} {m : List (κ × ν)} (hs : St w0 ρ Γ w) (h : MapR enc E ρ v m) : ∃ b, v = .map (some b) ∧ w.heap[b]? = some (.map (ents enc (vs E m) 0).toArray (vs E m).length) := by
  obtain ⟨b, hv, hb⟩ := h
  refine ⟨b, hv, ?_⟩
  have := hs.sees _ _ hb
  simp only [seen] at this
  split at this
  · rename_i es n hg
    obtain ⟨rfl, rfl⟩ := encMap_inj (Option.some.inj this)
    exact hg
  · simp [encMap, encCells] at this
  · cases this
theorem St.objEnd {κ ν : Type} [DecidableEq κ] {enc : κ → Value} {E : ν → Value} {m : List (κ × ν)} (hs : St w0 ρ Γ w) {j b : Nat} (hi : Γ[j]? = some (.obj b (mapObj enc (vs E m)))) : ∃ ρ', Le ρ ρ' ∧ St w0 ρ' (Γ.eraseIdx j) w ∧ MapR enc E ρ' (.map (some b)) m := by
  obtain ⟨h1, h2⟩ := hs.freeze hi rfl
  refine ⟨_, h2, h1, b, rfl, ?_⟩
  have hb : w.heap[b]? = some (mapObj enc (vs E m)) := (hs.ok _ (List.mem_of_getElem? hi)).1
  unfold Hp.with
  simp only [if_true, seen, hb, mapObj]
end
section
variable {P : Program} {n : Nat} {N : Nxt} {L : Loc} {w w0 : World} {ρ ρ' : Hp} {Γ : List Item} {ops : Array Oper} {rest : List Oper} {d t : Nat} {pos : String} {aft : Array Edge} {x y : Operand}
def PtrR {α : Type} (r : Rep α) (ρ : Hp) (v : Value) (x : Option α) : Prop := (v = .pointer none ∧ x = none) ∨ ∃ b y, v = .pointer (some ⟨b, 0, none⟩) ∧ x = some y ∧ At ρ r b 0 y
theorem PtrR.mono {α : Type} {r : Rep α} {v : Value} {x : Option α} (h : PtrR r ρ v x) (hle : Le ρ ρ') : PtrR r ρ' v x := by
  rcases h with h | ⟨b, y, h1, h2, h3⟩
  · exact .inl h
  · exact .inr ⟨b, y, h1, h2, h3.mono hle⟩
theorem PtrR.one {α : Type} {r : Rep α} {v : Value} {x : Option α} (h : PtrR r ρ v x) : v.oneCell' = true := by
  rcases h with ⟨rfl, _⟩ | ⟨b, y, rfl, _⟩ <;> rfl
theorem PtrR.cellsL {α : Type} {r : Rep α} {v : Value} {x : Option α} (h : PtrR r ρ v x) : v.cells.toList = [v] := by
  rcases h with ⟨rfl, _⟩ | ⟨b, y, rfl, _⟩ <;> rfl
theorem PtrR.nil {α : Type} (r : Rep α) (ρ : Hp) : PtrR r ρ (.pointer none) none := .inl ⟨rfl, rfl⟩
theorem PtrR.val {α : Type} {r : Rep α} {v : Value} {x : Option α} (h : PtrR r ρ v x) : ∃ a, v = .pointer a ∧ a.isNone = x.isNone ∧ a.isSome = x.isSome := by
  rcases h with ⟨rfl, rfl⟩ | ⟨b, y, rfl, rfl, _⟩
  · exact ⟨_, rfl, rfl, rfl⟩
  · exact ⟨_, rfl, rfl, rfl⟩
theorem PtrR.open {α : Type} [Inhabited α] {r : Rep α} {v : Value} {x : Option α} (h : PtrR r ρ v x) (hx : x.isSome = true) : ∃ b, v = .pointer (some ⟨b, 0, none⟩) ∧ At ρ r b 0 (x.getD default) := by
  rcases h with ⟨rfl, rfl⟩ | ⟨b, y, rfl, rfl, h3⟩
  · cases hx
  · exact ⟨b, rfl, h3⟩
theorem PtrR.eqn {α : Type} {r : Rep α} {v : Value} {z : Option α} (h : PtrR r ρ v z) {xt yt e : TypeId} (ht : P.underlying xt = some (.pointer e)) (hx : ev L x = some v) (hy : ev L y = some (.pointer none)) : Y P n L w (.binOp .eql xt x y yt) t (.bool z.isNone) := by
  obtain ⟨a, rfl, h1, h2⟩ := h.val; rw [← h1]; exact Y_eqlp ht hx hy
theorem PtrR.nen {α : Type} {r : Rep α} {v : Value} {z : Option α} (h : PtrR r ρ v z) {xt yt e : TypeId} (ht : P.underlying xt = some (.pointer e)) (hx : ev L x = some v) (hy : ev L y = some (.pointer none)) : Y P n L w (.binOp .neq xt x y yt) t (.bool z.isSome) := by
  obtain ⟨a, rfl, h1, h2⟩ := h.val; rw [← h2]; exact Y_neqp ht hx hy
end
end Go.Proofs.YtekafkokpnihfaaGreat
