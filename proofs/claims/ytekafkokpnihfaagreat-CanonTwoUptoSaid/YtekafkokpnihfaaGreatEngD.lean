/- Rules for operations that touch memory. Own work of this repo. -/
import Derived.Test.YtekafkokpnihfaaGreatEngC
namespace Go.Proofs.YtekafkokpnihfaaGreat
open Go.RowKit
section
variable {P : Program} {n : Nat} {N : Nxt} {L : Loc} {w w0 : World} {ops : Array Oper} {rest : List Oper} {d t : Nat} {pos : String} {aft : Array Edge} {ρ : Hp} {Γ : List Item} {x y : Operand}

theorem O_run {op : Op} {v : Value} {w' : World} (hd : Nat.blt d n = true) (h : ∀ a, Sat n L a → (execOp a.eval ⟨some d, op, t, pos, aft, none⟩).run P w = .ok (.value v) w') (k : O P n ops rest N ((d, v) :: L) w') :
    O P n ops (⟨some d, op, t, pos, aft, none⟩ :: rest) N L w := O_op hd fun a ha => ⟨v, w', h a ha, k⟩

theorem O_box {ty : Nat} {v : Value} (hs : St w0 ρ Γ w) (hd : Nat.blt d n = true) (hx : ev L x = some v)
    (k : ∀ b w', St w0 ρ (.box b ty v.cells.toList :: Γ) w' → O P n ops rest N ((d, .pointer (some ⟨b, 0, none⟩)) :: L) w') : O P n ops (⟨some d, .box ty x, t, pos, aft, none⟩ :: rest) N L w :=
  O_run (w' := w.alloc (.cells v.cells ty)) hd (fun c hc => by simp only [execOp, hc.ev hx, Instr.box, newVar, newRow, newObj]; rfl) (k _ _ (by simpa using hs.box ty v.cells.toList))
theorem O_box1 {ty : Nat} {v : Value} (hs : St w0 ρ Γ w) (hd : Nat.blt d n = true) (hx : ev L x = some v) (h1 : v.oneCell' = true)
    (k : ∀ b w', St w0 ρ (.box b ty [v] :: Γ) w' → O P n ops rest N ((d, .pointer (some ⟨b, 0, none⟩)) :: L) w') : O P n ops (⟨some d, .box ty x, t, pos, aft, none⟩ :: rest) N L w :=
  O_box hs hd hx fun b w' h => k b w' (by
    have hvc : v.cells = #[v] := by cases v <;> first | rfl | cases h1
    rw [hvc] at h; exact h)
theorem O_boxN {ty : Nat} {cs : List Value} (hs : St w0 ρ Γ w) (hd : Nat.blt d n = true) (hx : ev L x = some (.agg cs.toArray))
    (k : ∀ b w', St w0 ρ (.box b ty cs :: Γ) w' → O P n ops rest N ((d, .pointer (some ⟨b, 0, none⟩)) :: L) w') : O P n ops (⟨some d, .box ty x, t, pos, aft, none⟩ :: rest) N L w :=
  O_box hs hd hx fun b w' h => k b w' h
def zeroOf (P : Program) (ty : Nat) : Option (List Value) := (P.info? ty).bind fun i => i.zero.map (·.cells.toList)
theorem O_alloc {ty : Nat} {zs : List Value} (hz : zeroOf P ty = some zs) (hs : St w0 ρ Γ w) (hd : Nat.blt d n = true)
    (k : ∀ b w', St w0 ρ (.box b ty zs :: Γ) w' → O P n ops rest N ((d, .pointer (some ⟨b, 0, none⟩)) :: L) w') : O P n ops (⟨some d, .alloc ty, t, pos, aft, none⟩ :: rest) N L w := by
  obtain ⟨i, hi, hz⟩ := Option.bind_eq_some_iff.1 hz
  obtain ⟨z, hzz, rfl⟩ := Option.map_eq_some_iff.1 hz
  refine O_run (w' := w.alloc (.cells z.cells ty)) hd (fun c hc => ?_) (k _ _ (by simpa using hs.box ty z.cells.toList))
  have hz' : i.zero = some z := by assumption
  have hzv : (zeroValue ty).run P w = .ok z w := by simp [zeroValue, typeInfo, hi, hz']
  simp only [execOp, Instr.alloc, newVar, newRow, newObj, bind_pure_comp, Sem.run_map, Sem.run_bind, hzv, Result.andThen, Sem.run]
  rfl
theorem run_store1 {a : Addr} {v u : Value} (hv : w.cell? a = some u) (hf : w.frozen? a = false) (h1 : v.oneCell' = true) : (store a v).run P w = .ok () (w.setCell a v) := by
  cases v with
  | agg cs => cases h1
  | tuple vs => cases h1
  | _ => simp [store, Sem.run, hv, hf]
theorem O_store {ty b o i T : Nat} {cs : List Value} {v : Value} (hsz : sizeOf' P ty = some 1) (hs : St w0 ρ Γ w) (hi : Γ[i]? = some (.box b T cs)) (ho : Nat.blt o cs.length = true) (hx : ev L x = some (.pointer (some ⟨b, o, none⟩))) (hy : ev L y = some v) (h1 : v.oneCell' = true)
    (k : ∀ w', St w0 ρ (Γ.set i (.box b T (cs.set o v))) w' → O P n ops rest N L w') : O P n ops (⟨none, .store ty x y, t, pos, aft, none⟩ :: rest) N L w := by
  have ho := Nat.le_of_ble_eq_true ho
  have hc : cs[o]? = some cs[o] := List.getElem?_eq_getElem ho
  refine O_skip (w' := w.setCell ⟨b, o, none⟩ v) (fun c hcs => ?_) (k _ (hs.boxSet hi v))
  have hcell := hs.boxCell hi hc
  have hfree := hs.boxFree (k := o) hi
  have hvc : v.cells = #[v] := by cases v <;> first | rfl | cases h1
  have hadd : (⟨b, o, none⟩ : Addr).add 0 = ⟨b, o, none⟩ := rfl
  simp only [execOp, hcs.ev hx, hcs.ev hy, Instr.storeAt, Instr.sureAddr, storeVar, Sem.run_bind, Sem.run_pure, Result.andThen, run_sizeOf hsz, hvc]
  simp [storeCells, hadd, run_store1 (P := P) hcell hfree h1]
theorem set_same {α : Type} {l : List α} {i : Nat} {x : α} (h : l[i]? = some x) : l.set i x = l := by
  obtain ⟨hlt, hx⟩ := List.getElem?_eq_some_iff.1 h
  subst hx
  exact List.set_getElem_self hlt
theorem run_storeBox {P : Program} {w0 : World} {ρ : Hp} {i b T : Nat} : ∀ (Γ : List Item) (vs : List Value) (j o : Nat) (cs : List Value) (w : World), St w0 ρ Γ w → Γ[i]? = some (.box b T cs) → o + j + vs.length ≤ cs.length → (∀ v ∈ vs, v.oneCell' = true) →
    ∃ w', (storeCells ⟨b, o, none⟩ vs j).run P w = .ok () w' ∧ St w0 ρ (Γ.set i (.box b T (cs.take (o + j) ++ vs ++ cs.drop (o + j + vs.length)))) w'
  | Γ, [], j, o, cs, w, hs, hi, hl, _ => ⟨w, rfl, by
    simp only [List.append_nil, List.length_nil, Nat.add_zero, List.take_append_drop]
    rwa [set_same hi]⟩
  | Γ, v :: t, j, o, cs, w, hs, hi, hl, h1 => by
    have ho : o + j < cs.length := by simp at hl; omega
    have hc : cs[o + j]? = some cs[o + j] := List.getElem?_eq_getElem ho
    have hcell := hs.boxCell hi hc
    have hfree := hs.boxFree (k := o + j) hi
    have hadd : (⟨b, o, none⟩ : Addr).add j = ⟨b, o + j, none⟩ := Addr.add_lit ..
    have hlt : i < Γ.length := (List.getElem?_eq_some_iff.1 hi).1
    have hs' := hs.boxSet (k := o + j) hi v
    -- the rest, over the turned items
    have key : ∃ w', (storeCells ⟨b, o, none⟩ t (j + 1)).run P (w.setCell ⟨b, o + j, none⟩ v) = .ok () w' ∧ St w0 ρ ((Γ.set i (.box b T (cs.set (o + j) v))).set i (.box b T ((cs.set (o + j) v).take (o + (j + 1)) ++ t ++ (cs.set (o + j) v).drop (o + (j + 1) + t.length)))) w' :=
      run_storeBox (Γ.set i (.box b T (cs.set (o + j) v))) t (j + 1) o (cs.set (o + j) v) _ hs' (by simp [hlt]) (by simp at hl ⊢; omega) (fun u hu => h1 u (List.mem_cons_of_mem _ hu))
    obtain ⟨w', hr, hs''⟩ := key
    refine ⟨w', by simp [storeCells, hadd, run_store1 (P := P) hcell hfree (h1 v (List.mem_cons_self ..)), hr], ?_⟩
    rw [List.set_set] at hs''
    have e : (cs.set (o + j) v).take (o + (j + 1)) ++ t ++ (cs.set (o + j) v).drop (o + (j + 1) + t.length) = cs.take (o + j) ++ (v :: t) ++ cs.drop (o + j + (v :: t).length) := by
      rw [List.take_set, List.drop_set_of_lt (by omega), show o + (j + 1) = (o + j) + 1 from by omega, List.take_add_one, hc]
      simp only [Option.toList_some, List.length_cons]
      rw [List.set_append_right _ _ (by simp; omega)]
      have hmin : min (o + j) cs.length = o + j := by omega
      simp [hmin, Nat.add_comm 1 t.length, Nat.add_assoc]
    rwa [e] at hs''
theorem O_storeN {ty b o i T m : Nat} {cs : List Value} {vs : Array Value} (hsz : sizeOf' P ty = some m) (hs : St w0 ρ Γ w) (hi : Γ[i]? = some (.box b T cs)) (hm : vs.size = m) (ho : Nat.ble (o + m) cs.length = true) (hx : ev L x = some (.pointer (some ⟨b, o, none⟩))) (hy : ev L y = some (.agg vs))
    (h1 : ∀ v ∈ vs.toList, v.oneCell' = true) (k : ∀ w', St w0 ρ (Γ.set i (.box b T (cs.take o ++ vs.toList ++ cs.drop (o + m)))) w' → O P n ops rest N L w') : O P n ops (⟨none, .store ty x y, t, pos, aft, none⟩ :: rest) N L w := by
  obtain ⟨w', hr, hs'⟩ := run_storeBox (P := P) Γ vs.toList 0 o cs w hs hi (by have := Nat.le_of_ble_eq_true ho; simp; omega) h1
  simp only [Nat.add_zero, Array.length_toList, hm] at hs'
  refine O_skip (w' := w') (fun c hcs => ?_) (k _ hs')
  simp only [execOp, hcs.ev hx, hcs.ev hy, Instr.storeAt, Instr.sureAddr, storeVar, Sem.run_bind, Sem.run_pure, Result.andThen, run_sizeOf hsz, Value.cells, hm]
  simp [hr]
theorem Y_loadb {ty b o i T : Nat} {cs : List Value} {v : Value} (ha : isAggOf P ty = some false) (hs : St w0 ρ Γ w) (hi : Γ[i]? = some (.box b T cs)) (hv : cs[o]? = some v) (hx : ev L x = some (.pointer (some ⟨b, o, none⟩))) : Y P n L w (.load ty x) t v :=
  Y_load ha hx (hs.boxCell hi hv)
theorem Y_loadbN {ty b o i T m : Nat} {cs vs : List Value} (ha : isAggOf P ty = some true) (hsz : sizeOf' P ty = some m) (hs : St w0 ρ Γ w) (hi : Γ[i]? = some (.box b T cs)) (hv : (cs.drop o).take m = vs) (hl : vs.length = m) (hx : ev L x = some (.pointer (some ⟨b, o, none⟩))) : Y P n L w (.load ty x) t (.agg vs.toArray) :=
  Y_loadN ha hsz hl hx (fun j u hu => hs.boxCell hi (by
    subst hv
    rw [List.getElem?_take] at hu
    split at hu
    · rw [List.getElem?_drop] at hu; exact hu
    · cases hu))

theorem fold_set : ∀ (l : List Value) (o k : Nat) (cur : List Value), o + k + l.length ≤ cur.length → (l.zipIdx k).foldl (fun cs p => cs.set (o + p.2) p.1) cur = cur.take (o + k) ++ l ++ cur.drop (o + k + l.length)
  | [], o, k, cur, h => by simp
  | v :: l, o, k, cur, h => by
    have hlt : o + k < cur.length := by simp at h; omega
    rw [List.zipIdx_cons, List.foldl_cons, fold_set l o (k + 1) _ (by simp at h ⊢; omega)]
    rw [List.take_set, List.drop_set_of_lt (by omega), show o + (k + 1) = (o + k) + 1 from by omega, List.take_add_one, List.getElem?_eq_getElem hlt]
    simp only [Option.toList_some, List.length_cons]
    rw [List.set_append_right _ _ (by simp; omega)]
    have hmin : min (o + k) cur.length = o + k := by omega
    simp [hmin, Nat.add_comm 1 l.length, Nat.add_assoc]
theorem fold_set_array (l : Array Value) (o : Nat) (cur : Array Value) (h : o + l.size ≤ cur.size) : l.zipIdx.foldl (fun cs p => cs.setIfInBounds (o + p.2) p.1) cur = (cur.toList.take o ++ l.toList ++ cur.toList.drop (o + l.size)).toArray := by
  have key : ∀ (ps : List (Value × Nat)) (cur : Array Value), (ps.foldl (fun cs p => cs.setIfInBounds (o + p.2) p.1) cur).toList = ps.foldl (fun cs p => cs.set (o + p.2) p.1) cur.toList := by
    intro ps
    induction ps with
    | nil => intro cur; rfl
    | cons p ps ih => intro cur; rw [List.foldl_cons, List.foldl_cons, ih]; simp
  apply Array.ext'
  rw [← Array.foldl_toList, key]
  have := fold_set l.toList o 0 cur.toList (by simp; omega)
  simpa using this
theorem fill_full (sz : Nat) : ∀ (vs : List Value) (k : Nat) (cur : Array Value), (∀ v ∈ vs, v.cells.size = sz) → cur.size = (k + vs.length) * sz →
    Instr.fill (fun i => some (i * sz, sz)) cur ((vs.zipIdx k).map fun p => (p.2, p.1)) = some (cur.toList.take (k * sz) ++ vs.flatMap (·.cells.toList)).toArray
  | [], k, cur, _, h => by
    simp only [List.zipIdx_nil, List.map_nil, Instr.fill, List.flatMap_nil, List.append_nil]
    rw [List.take_of_length_le (by simp at h ⊢; omega)]
  | v :: vs, k, cur, hv, h => by
    have hsz := hv v (List.mem_cons_self ..)
    simp only [List.zipIdx_cons, List.map_cons, Instr.fill]
    have hfit : k * sz + v.cells.size ≤ cur.size := by
      rw [h, hsz, List.length_cons, Nat.add_mul, Nat.add_mul]; omega
    have hno : (decide (v.cells.size ≠ sz) || decide (k * sz + v.cells.size > cur.size)) = false := by simp [hsz] at hfit ⊢; omega
    rw [if_neg (by rw [hno]; exact Bool.false_ne_true)]
    rw [fold_set_array v.cells (k * sz) cur hfit]
    rw [fill_full sz vs (k + 1) _ (fun u hu => hv u (List.mem_cons_of_mem _ hu)) (by
      simp only [List.size_toArray, List.length_append, List.length_take, List.length_drop, Array.length_toList]
      simp only [List.length_cons] at h
      rw [show k + 1 + vs.length = k + (vs.length + 1) from by omega]
      omega)]
    congr 2
    simp only [List.flatMap_cons]
    rw [show (k + 1) * sz = k * sz + sz from by rw [Nat.add_mul, Nat.one_mul]]
    rw [List.take_append, List.take_append]
    have e1 : (List.take (k * sz) cur.toList).length = k * sz := by simp; omega
    simp [e1, hsz, List.take_take, hfit]
    rw [List.take_of_length_le (by simp [hsz])]
theorem O_lit {sl e sz bytes : Nat} {xs : List Operand} {vs : List Value} {ps : List (Nat × Operand)} {m : Nat} (he : ElemOf P sl e sz bytes) (hs : St w0 ρ Γ w) (hd : Nat.blt d n = true) (hps : ps = (xs.zipIdx 0).map fun p => (p.2, p.1)) (hml : xs.length = m) (hm : m ≤ 1000) (hsz : sz ≤ 1000)
    (hx : evs L xs = some vs) (hv : ∀ v ∈ vs, v.cells.size = sz)
    (k : ∀ b w', St w0 ρ (.row (.slice (some ⟨b, 0, none⟩) m m) e sz m (vs.flatMap (·.cells.toList)) :: Γ) w' → O P n ops rest N ((d, .slice (some ⟨b, 0, none⟩) m m) :: L) w') :
    O P n ops (⟨some d, .buildSlice sl m ps.toArray, t, pos, aft, none⟩ :: rest) N L w := by
  obtain ⟨j, z, hj, hz, hjs, _, hzs⟩ := he.info
  have evs_len : ∀ {xs : List Operand} {vs : List Value}, evs L xs = some vs → vs.length = xs.length := by
    intro xs
    induction xs with
    | nil => intro vs h; simp [evs] at h; subst h; rfl
    | cons x xs ih =>
      intro vs h
      simp only [evs] at h
      split at h
      · rename_i v vs' _ h2; simp at h; subst h; simp [ih h2]
      · cases h
  have hvl : vs.length = m := by rw [evs_len hx, hml]
  have hcs : (vs.flatMap (·.cells.toList)).length = m * sz := by
    rw [← hvl]
    clear hx hvl k
    induction vs with
    | nil => simp
    | cons v vs ih =>
      have h1 := hv v (List.mem_cons_self ..)
      have h2 := ih (fun u hu => hv u (List.mem_cons_of_mem _ hu))
      rw [List.flatMap_cons, List.length_append, h2, List.length_cons, Nat.add_mul]
      simp [h1]; omega
  have hb := hs.rowFull e m sz _ hcs (by simp only [maxLen]; omega)
  refine O_run (w' := w.alloc (.cells (vs.flatMap (·.cells.toList)).toArray e)) hd (fun c hc => ?_) (k _ _ hb)
  have hbig : ¬ m * sz > 2 ^ 24 := by
    have := Nat.mul_le_mul hm hsz
    omega
  have hparts : (ps.toArray.map fun p => (p.1, c.eval p.2)).toList = (vs.zipIdx 0).map fun p => (p.2, p.1) := by
    subst hps
    have := hc.evs hx
    rw [← this]
    simp only [List.map_toArray, List.map_map, List.zipIdx_map]
    simp
  have hfill : ∀ (cur : Array Value), cur.size = m * sz → Instr.fill (fun i => some (i * sz, sz)) cur (ps.toArray.map fun p => (p.1, c.eval p.2)).toList = some (vs.flatMap (·.cells.toList)).toArray := by
    intro cur hcur
    rw [hparts, fill_full sz vs 0 cur hv (by rw [hcur, hvl]; simp)]
    simp
  by_cases h0 : m * sz = 0
  · have hrun : (Instr.buildSlice sl m (ps.toArray.map fun p => (p.1, c.eval p.2))).run P w = .ok (.slice (some ⟨w.heap.size, 0, none⟩) m m) (w.alloc (.cells (vs.flatMap (·.cells.toList)).toArray e)) := by
      unfold Instr.buildSlice
      simp only [Sem.run_bind, run_underlying he.under, Result.andThen, sizeOf, typeInfo, program, Sem.run, hj, Sem.run_pure, hjs]
      rw [if_neg hbig]
      simp only [Sem.run_bind, if_pos h0, Sem.run_pure, Result.andThen]
      rw [hfill _ (by simp)]
      rfl
    simp only [execOp, bind_pure_comp, Sem.run_map, hrun, Result.andThen]
  · have hrun : (Instr.buildSlice sl m (ps.toArray.map fun p => (p.1, c.eval p.2))).run P w = .ok (.slice (some ⟨w.heap.size, 0, none⟩) m m) (w.alloc (.cells (vs.flatMap (·.cells.toList)).toArray e)) := by
      unfold Instr.buildSlice
      have hzv : (zeroValue e).run P w = .ok z w := by simp [zeroValue, typeInfo, hj, hz]
      simp only [Sem.run_bind, run_underlying he.under, Result.andThen, sizeOf, typeInfo, program, Sem.run, hj, Sem.run_pure, hjs]
      rw [if_neg hbig]
      simp only [Sem.run_bind, if_neg h0, Sem.run_pure, Result.andThen, hzv, bind_pure_comp, Sem.run_map]
      rw [hfill _ (by simp)]
      rfl
    simp only [execOp, bind_pure_comp, Sem.run_map, hrun, Result.andThen]
theorem O_append {sl e sz bytes i m c : Nat} {v u : Value} {cs news : List Value} (he : ElemOf P sl e sz bytes) (hs : St w0 ρ Γ w) (hi : Γ[i]? = some (.row v e sz m cs)) (hd : Nat.blt d n = true) (hx : ev L x = some v) (hy : ev L y = some u) (hsrc : Src w sz u c news) (hb : m + c ≤ most)
    (k : ∀ v' w', St w0 ρ (Γ.set i (.row v' e sz (m + c) (cs ++ news))) w' → O P n ops rest N ((d, v') :: L) w') :
    O P n ops (⟨some d, .call { callee := .builtin .append, args := #[x, y], argTypes := #[sl, sl] }, t, pos, aft, none⟩ :: rest) N L w := by
  refine O_op hd fun a ha => ?_
  obtain ⟨v', w', hr, hs'⟩ := run_append (P := P) hs he (ty := t) hi hsrc hb
  exact ⟨v', w', by simp only [execOp, resolve, invoke, builtin, Sem.run_bind, Sem.run_pure, Result.andThen_ok, List.map_toArray, List.map_cons, List.map_nil, ha.ev hx, ha.ev hy, hr], k v' w' hs'⟩
end
end Go.Proofs.YtekafkokpnihfaaGreat
