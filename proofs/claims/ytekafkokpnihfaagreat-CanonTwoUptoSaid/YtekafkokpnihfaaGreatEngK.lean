/- More operations: fields of a struct's value, arrays written out, slices that are made. Own work of this repo. -/
import Derived.Test.YtekafkokpnihfaaGreatEngJ
import Derived.Laws.MakeOwn
namespace Go.Proofs.YtekafkokpnihfaaGreat
open Go.RowKit
section
variable {P : Program} {n : Nat} {N : Nxt} {L : Loc} {w w0 : World} {ρ : Hp} {Γ : List Item} {ops : Array Oper} {rest : List Oper} {d t : Nat} {pos : String} {aft : Array Edge} {x y : Operand}
def fieldAt (P : Program) (s i : Nat) : Option (Nat × Nat) :=
  match P.underlying s with
  | some (.struct fs) => (fs[i]?).map fun f => (f.offset, f.type)
  | _ => none
theorem Y_buildArr {ty e m : Nat} {xs : List Operand} {vs : List Value} {ps : List (Nat × Operand)} {zs : List Value} (hu : P.underlying ty = some (.array m e)) (hs : sizeOf' P e = some 1) (hz : (zeroOf P ty).map (·.length) = some m) (hps : ps = (xs.zipIdx 0).map fun p => (p.2, p.1)) (hml : xs.length = m) (hx : evs L xs = some vs) (h1 : ∀ v ∈ vs, v.cells.toList = [v]) (hzs : vs = zs) :
    Y P n L w (.build ty ps.toArray) t (.agg zs.toArray) := by
  subst hzs
  intro a ha _ _ _ _
  obtain ⟨zl, hz1, hz2⟩ := Option.map_eq_some_iff.1 hz
  obtain ⟨i, hi, hzi⟩ := Option.bind_eq_some_iff.1 hz1
  obtain ⟨z, hzz, rfl⟩ := Option.map_eq_some_iff.1 hzi
  have hzv : (zeroValue ty).run P w = .ok z w := by simp [zeroValue, typeInfo, hi, hzz]
  have hparts : (ps.toArray.map fun p => (p.1, a.eval p.2)).toList = (vs.zipIdx 0).map fun p => (p.2, p.1) := by
    subst hps
    have := ha.evs hx
    rw [← this]
    simp only [List.map_toArray, List.map_map, List.zipIdx_map]
    simp
  have hvl : vs.length = m := by
    have := ha.evs hx
    rw [← this, List.length_map, hml]
  have hsz : ∀ v ∈ vs, v.cells.size = 1 := fun v hv => by
    have := congrArg List.length (h1 v hv)
    simpa using this
  have hfm : vs.flatMap (·.cells.toList) = vs := by
    clear hparts hx hvl hsz
    induction vs with
    | nil => rfl
    | cons v vs ih =>
      rw [List.flatMap_cons, h1 v (List.mem_cons_self ..), ih (fun u hu => h1 u (List.mem_cons_of_mem _ hu))]
      rfl
  have hfill : Instr.fill (fun i => some (i * 1, 1)) z.cells (ps.toArray.map fun p => (p.1, a.eval p.2)).toList = some vs.toArray := by
    rw [hparts, fill_full 1 vs 0 z.cells hsz (by simp at hz2; omega), hfm]
    simp
  simp only [execOp, Instr.build, bind_pure_comp, Sem.run_map, Sem.run_bind, hzv, Result.andThen, run_underlying hu, run_sizeOf hs]
  rw [hfill]
  rfl
theorem made_one (v : Value) (m : Nat) : madeCells #[v] m = (List.replicate m v).toArray := by
  apply Array.ext
  · simp [madeCells]
  · intro i h1 h2
    simp [madeCells, Nat.mod_one]
theorem O_makeSlice {α : Type} {r : Rep α} {sl e bytes : Nat} {k1 k2 : IntKind} {m : Int} {x0 : α} {v0 : Value} (he : ElemOf P sl e r.sz bytes) (hz : zeroOf P e = some [v0]) (h1 : r.sz = 1) (hr : r.R ρ [v0] x0) (hs : St w0 ρ Γ w) (hd : Nat.blt d n = true) (hx : ev L x = some (.int k1 m)) (hy : ev L y = some (.int k2 m)) (h0 : 0 ≤ m) (hm : m ≤ (most : Int))
    (k : ∀ b cs w', RowR r ρ cs (List.replicate m.toNat x0) → St w0 ρ (.row (.slice (some ⟨b, 0, none⟩) m.toNat m.toNat) e r.sz (List.replicate m.toNat x0).length cs :: Γ) w' → O P n ops rest N ((d, .slice (some ⟨b, 0, none⟩) m.toNat m.toNat) :: L) w') :
    O P n ops (⟨some d, .makeSlice sl x y, t, pos, aft, none⟩ :: rest) N L w := by
  obtain ⟨j, z, hj, hzz, hsz, hby, hzs⟩ := he.info
  obtain ⟨i, hi, hz⟩ := Option.bind_eq_some_iff.1 hz
  obtain ⟨z', hz', hzc⟩ := Option.map_eq_some_iff.1 hz
  rw [hj] at hi
  obtain rfl := Option.some.inj hi
  rw [hzz] at hz'
  obtain rfl := Option.some.inj hz'
  have hcells : z.cells = #[v0] := Array.ext' (by simpa using hzc)
  have hb : (j.bytes : Int) * m ≤ 281474976710656 := by
    have h2 : (j.bytes : Int) ≤ 65536 := by rw [hby]; exact Int.ofNat_le.2 he.small
    have h3 : m ≤ 2147483648 := hm
    exact Int.le_trans (Int.mul_le_mul_of_nonneg_right h2 h0) (Int.le_trans (Int.mul_le_mul_of_nonneg_left h3 (by decide)) (by decide))
  have h3 : m ≤ 2147483648 := hm
  have hrun := run_make (P := P) w sl e j z he.under hj hzz k1 k2 m m h0 (Int.le_refl _) hb (by omega)
  rw [hcells, hsz, h1, Nat.mul_one, made_one] at hrun
  have hrow := hs.rowFull e m.toNat 1 (List.replicate m.toNat v0) (by simp) (by simp only [maxLen]; omega)
  have hR : RowR r ρ (List.replicate m.toNat v0) (List.replicate m.toNat x0) := ⟨by simp [h1], fun p q hq => by
    rw [List.getElem?_replicate] at hq
    split at hq
    · rename_i hlt
      obtain rfl := Option.some.inj hq
      refine ⟨[v0], hr, fun k u hu => ?_⟩
      cases k with
      | zero => simp at hu; subst hu; simp [h1, hlt]
      | succ k => simp at hu
    · cases hq⟩
  refine O_run (w' := w.alloc (.cells (List.replicate m.toNat v0).toArray e)) hd (fun c hc => ?_) (k w.heap.size _ _ hR (by rw [h1, List.length_replicate]; exact hrow))
  simp only [execOp, hc.ev hx, hc.ev hy, bind_pure_comp, Sem.run_map, hrun, Result.andThen]
theorem vcs_csize {α : Type} {m : Nat} (E : α → Value) (y : Vector α m) : (Value.agg (vcs E y).toArray).cells.size = m := by simp [Value.cells]
theorem flat_nil : ([] : List Value).flatMap (·.cells.toList) = [] := rfl
theorem flat_cons {v : Value} {l c ds : List Value} (h : v.cells.toList = c) (hl : l.flatMap (·.cells.toList) = ds) : (v :: l).flatMap (·.cells.toList) = c ++ ds := by rw [List.flatMap_cons, h, hl]
theorem O_lit2 {sl e sz bytes : Nat} {xs : List Operand} {vs cs : List Value} {ps : List (Nat × Operand)} {m : Nat} (he : ElemOf P sl e sz bytes) (hs : St w0 ρ Γ w) (hd : Nat.blt d n = true) (hps : ps = (xs.zipIdx 0).map fun p => (p.2, p.1)) (hml : xs.length = m) (hm : m ≤ 1000) (hsz : sz ≤ 1000)
    (hx : evs L xs = some vs) (hv : ∀ v ∈ vs, v.cells.size = sz) (hcs : vs.flatMap (·.cells.toList) = cs)
    (k : ∀ b w', St w0 ρ (.row (.slice (some ⟨b, 0, none⟩) m m) e sz m cs :: Γ) w' → O P n ops rest N ((d, .slice (some ⟨b, 0, none⟩) m m) :: L) w') :
    O P n ops (⟨some d, .buildSlice sl m ps.toArray, t, pos, aft, none⟩ :: rest) N L w := by
  subst hcs
  exact O_lit he hs hd hps hml hm hsz hx hv k
theorem sz1_nil : ∀ v ∈ ([] : List Value), v.cells.toList = [v] := fun _ h => by cases h
theorem sz1_cons {a : Value} {l : List Value} (h : a.cells.toList = [a]) (hl : ∀ v ∈ l, v.cells.toList = [v]) : ∀ v ∈ a :: l, v.cells.toList = [v] := fun v hv => by
  rcases List.mem_cons.1 hv with rfl | hv
  · exact h
  · exact hl v hv
theorem retc1 {fn : Func} {S : Value → World → Prop} {i b T ty k tm u : Nat} {cs : List Value} {x : Value} (hr : fn.results = #[.cell tm ty, .tmp u]) (hl : lk tm L = some (.pointer (some ⟨b, 0, none⟩))) (hu : lk u L = some x) (ha : isAggOf P ty = some true) (hsz : sizeOf' P ty = some k) (hs : St w0 ρ Γ w) (hi : Γ[i]? = some (.box b T cs)) (hk : cs.length = k) (h : S (.tuple #[.agg cs.toArray, x]) w) :
    Ret P n fn S L w := by
  refine ⟨_, fun a hsat => ?_, h⟩
  subst hk
  have := run_loadCellsFrom (P := P) (w := w) (a := ⟨b, 0, none⟩) cs 0 #[] (fun j u hu => by rw [Nat.zero_add, Addr.add_lit, Nat.zero_add]; exact hs.boxCell hi hu)
  have hx := hsat.get tm _ hl
  have hy := hsat.get u _ hu
  have h2 : (loadVar ty ⟨b, 0, none⟩).run P w = .ok (.agg cs.toArray) w := by simp [loadVar, run_isAgg ha, run_sizeOf hsz, loadCells, this]
  have hx' : a.tmps[tm]?.getD undef = .pointer (some ⟨b, 0, none⟩) := by simpa using hx
  have hy' : a.tmps[u]?.getD undef = x := by simpa using hy
  simp [results, hr, hx', hy', asAddr, h2]
theorem run_zero {ty : Nat} {zs : List Value} (hz : zeroOf P ty = some zs) : ∃ z, (zeroValue ty).run P w = .ok z w ∧ z.cells = zs.toArray := by
  obtain ⟨i, hi, hzi⟩ := Option.bind_eq_some_iff.1 hz
  obtain ⟨z, hzz, rfl⟩ := Option.map_eq_some_iff.1 hzi
  exact ⟨z, by simp [zeroValue, typeInfo, hi, hzz], by simp⟩
theorem Y_build0a {ty e m : Nat} {zs : List Value} (hu : P.underlying ty = some (.array m e)) (hs : sizeOf' P e = some 1) (hz : zeroOf P ty = some zs) : Y P n L w (.build ty #[]) t (.agg zs.toArray) := by
  intro a ha _ _ _ _
  obtain ⟨z, h1, h2⟩ := run_zero (w := w) hz
  simp [execOp, Instr.build, h1, h2, run_underlying hu, run_sizeOf hs, Instr.fill]
theorem Y_build0s {ty : Nat} {zs : List Value} {ps : List (Nat × Nat)} (hz : zeroOf P ty = some zs) (hp : placesOf P ty = some ps) : Y P n L w (.build ty #[]) t (.agg zs.toArray) := by
  intro a ha _ _ _ _
  obtain ⟨z, h1, h2⟩ := run_zero (w := w) hz
  unfold placesOf at hp
  split at hp
  · rename_i fs hfs
    have hm : ∃ r, (fs.mapM fun f => (do pure (f.offset, ← sizeOf f.type) : Sem (Nat × Nat))).run P w = .ok r w := by
      have key : ∀ (l : List Field) (qs : List (Nat × Nat)), (l.mapM fun f => (P.info? f.type).map fun i => (f.offset, i.size)) = some qs → (l.mapM fun f => (do pure (f.offset, ← sizeOf f.type) : Sem (Nat × Nat))).run P w = .ok qs w := by
        intro l
        induction l with
        | nil => intro qs h; simp at h; subst h; rfl
        | cons f l ih =>
          intro qs h
          simp only [List.mapM_cons, bind_pure_comp, Option.bind_eq_bind, Option.bind_eq_some_iff, Option.map_eq_some_iff] at h
          obtain ⟨q, ⟨inf, hinf, rfl⟩, h⟩ := h
          simp only [Option.map_eq_map, Option.map_eq_some_iff] at h
          obtain ⟨qs', hqs, rfl⟩ := h
          have := ih qs' hqs
          simp [List.mapM_cons, sizeOf, typeInfo, hinf]
          simp [sizeOf, typeInfo] at this
          rw [this]; rfl
      have := key fs.toList ps hp
      rw [Array.mapM_eq_mapM_toList]
      simp only [bind_pure_comp] at this ⊢
      rw [Sem.run_map, this]
      exact ⟨_, rfl⟩
    obtain ⟨r, hm⟩ := hm
    simp only [bind_pure_comp] at hm
    simp only [execOp, Instr.build, bind_pure_comp, Sem.run_map, Sem.run_bind, h1, h2, Result.andThen, run_underlying hfs, hm, List.map_toArray, List.map_nil, Instr.fill]
    try rfl
  · cases hp
inductive RV (P : Program) (L : Loc) (w : World) : List ResultVar → List Value → Prop where
  | nil : RV P L w [] []
  | tmp {t : Nat} {v : Value} {rs : List ResultVar} {vs : List Value} (hl : lk t L = some v) (h : RV P L w rs vs) : RV P L w (.tmp t :: rs) (v :: vs)
  | cell {tm ty b k : Nat} {cs : List Value} {rs : List ResultVar} {vs : List Value} (hl : lk tm L = some (.pointer (some ⟨b, 0, none⟩))) (ha : isAggOf P ty = some true) (hsz : sizeOf' P ty = some k) (hk : cs.length = k) (hc : ∀ j u, cs[j]? = some u → w.cell? ⟨b, j, none⟩ = some u) (h : RV P L w rs vs) : RV P L w (.cell tm ty :: rs) (.agg cs.toArray :: vs)
def rvf (tmps : Array Value) : ResultVar → Sem Value
  | .tmp t => pure (tmps.getD t undef)
  | .cell a t => do loadVar t (← asAddr (tmps.getD a undef))
theorem results_rvf (fn : Func) (tmps : Array Value) : results fn tmps = (do
    let vs ← fn.results.mapM (rvf tmps)
    pure (if h : vs.size = 1 then vs[0] else .tuple vs)) := rfl
theorem RV.run {rs : List ResultVar} {vs : List Value} (h : RV P L w rs vs) {a : Act} (hsat : Sat n L a) : (rs.mapM (rvf a.tmps)).run P w = .ok vs w := by
  induction h with
  | nil => rfl
  | tmp hl _ ih =>
    have hx := hsat.get _ _ hl
    simp only [List.mapM_cons, Sem.run_bind, rvf, Sem.run_pure, Result.andThen, hx, ih]
  | @cell tm ty b k cs rs vs hl ha hsz hk hc _ ih =>
    subst hk
    have hx := hsat.get _ _ hl
    have := run_loadCellsFrom (P := P) (w := w) (a := ⟨b, 0, none⟩) cs 0 #[] (fun j u hu => by rw [Nat.zero_add, Addr.add_lit, Nat.zero_add]; exact hc j u hu)
    have h2 : (loadVar ty ⟨b, 0, none⟩).run P w = .ok (.agg cs.toArray) w := by simp [loadVar, run_isAgg ha, run_sizeOf hsz, loadCells, this]
    simp only [List.mapM_cons, Sem.run_bind, rvf, Sem.run_pure, Result.andThen, hx, asAddr, h2, ih]
theorem retN {fn : Func} {S : Value → World → Prop} {rs : List ResultVar} {vs : List Value} (hr : fn.results = rs.toArray) (h : RV P L w rs vs) (h1 : vs.length ≠ 1) (hS : S (.tuple vs.toArray) w) : Ret P n fn S L w := by
  refine ⟨_, fun a hsat => ?_, hS⟩
  have := h.run hsat
  rw [results_rvf, hr, Array.mapM_eq_mapM_toList]
  simp only [bind_pure_comp, Sem.run_map, this, Result.andThen]
  simp [h1]
end
end Go.Proofs.YtekafkokpnihfaaGreat
