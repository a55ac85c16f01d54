/- What the generator's texts use besides. Own work of this repo. -/
import Derived.Test.YtekafkokpnihfaaGreatEngF
namespace Go.Proofs.YtekafkokpnihfaaGreat
open Go.RowKit

def K0 : Nat := 1180591620717411303424
theorem Sub.nil {L : Loc} : Sub [] L := trivial
theorem Sub.cons {L t : Loc} {d : Nat} {v : Value} (h : Go.Proofs.YtekafkokpnihfaaGreat.lk d L = some v) (ht : Sub t L) : Sub ((d, v) :: t) L := ⟨h, ht⟩

section
variable {P : Program} {n : Nat} {N : Nxt} {X : Nat → Nxt} {R : Nxt} {L : Loc} {w w0 : World} {ops : Array Oper} {rest : List Oper} {d t : Nat} {pos : String} {aft : Array Edge} {ρ : Hp} {Γ : List Item} {x y : Operand}

theorem W_seqj {x y : Code} (h : ∀ N' : Nxt, (∀ L w, W P n y N X R L w → N' L w) → (∀ L L' w, Sub L' L → N' L' w → N' L w) → W P n x N' X R L w) : W P n (.seq x y) N X R L w := by
  intro a ha
  refine wp_seq (wp_mono (h (fun L w => W P n y N X R L w) (fun _ _ h => h) (fun L L' w hs hw => W.weak L' hs hw) a ha) ?_)
  intro e a' w' hq
  cases e with
  | normal => obtain ⟨L', hs, hw⟩ := hq; exact hw a' hs
  | exit i => exact hq
  | ret => exact hq
  | goto l => exact hq
  | panic c => exact hq
  | outgrown => exact hq

theorem St.rowOne {j e sz m : Nat} {v : Value} {cs : List Value} (hs : St w0 ρ Γ w) (hi : Γ[j]? = some (.row v e sz m cs)) : v.oneCell' = true := by
  have hok := hs.ok _ (List.mem_of_getElem? hi)
  rcases hok.2 with ⟨rfl, _⟩ | ⟨g, cap, cur, rfl, _⟩ <;> rfl
theorem St.rowCellsL {j e sz m : Nat} {v : Value} {cs : List Value} (hs : St w0 ρ Γ w) (hi : Γ[j]? = some (.row v e sz m cs)) : v.cells.toList = [v] := by
  have hok := hs.ok _ (List.mem_of_getElem? hi)
  rcases hok.2 with ⟨rfl, _⟩ | ⟨g, cap, cur, rfl, _⟩ <;> rfl

theorem Y_func {f : FuncId} {caps : List Operand} {vs : List Value} (hx : evs L caps = some vs) : Y P n L w (.makeFunc (.func f) #[] caps.toArray) t (.func (.func f) #[] vs.toArray) :=
  fun a ha _ _ _ _ => by
    have := ha.evs hx
    simp [execOp, Instr.makeFunc, this]
theorem Y_max {k : IntKind} {p q : Int} {ts : Array TypeId} (hx : ev L x = some (.int k p)) (hy : ev L y = some (.int k q)) : Y P n L w (.call { callee := .builtin .max, args := #[x, y], argTypes := ts }) t (.int k (max p q)) :=
  fun a ha _ _ _ _ => by
    have e : (Builtin.max_ ts t #[.int k p, .int k q]).run P w = .ok (.int k (max p q)) w := by
      simp only [Builtin.max_, List.foldlM, Builtin.max2, bind_pure_comp, Sem.run_bind, Sem.run_pure, Result.andThen]
      congr 2; omega
    simp [execOp, resolve, invoke, builtin, ha.ev hx, ha.ev hy, e]
theorem Y_min {k : IntKind} {p q : Int} {ts : Array TypeId} (hx : ev L x = some (.int k p)) (hy : ev L y = some (.int k q)) : Y P n L w (.call { callee := .builtin .min, args := #[x, y], argTypes := ts }) t (.int k (min p q)) :=
  fun a ha _ _ _ _ => by
    have e : (Builtin.min_ ts t #[.int k p, .int k q]).run P w = .ok (.int k (min p q)) w := by
      simp only [Builtin.min_, List.foldlM, Builtin.min2, bind_pure_comp, Sem.run_bind, Sem.run_pure, Result.andThen]
      congr 2; omega
    simp [execOp, resolve, invoke, builtin, ha.ev hx, ha.ev hy, e]
def bt (s : ByteArray) (i : Int) : Int := ((s.data.getD i.toNat 0).toNat : Int)
theorem Y_ixs {sl : Nat} {s : ByteArray} {k : IntKind} {i : Int} (hu : P.underlying sl = some .string) (hx : ev L x = some (.string s)) (hy : ev L y = some (.int k i)) (h0 : 0 ≤ i) (h1 : i < (s.size : Int)) : Y P n L w (.index sl x y) t (.int .u8 (bt s i)) :=
  fun a ha _ _ _ _ => by
    have hlt : i.toNat < s.size := by omega
    have hlt' : i.toNat < s.data.size := hlt
    have e : s[i.toNat]? = some s[i.toNat] := getElem?_pos s i.toNat hlt
    simp only [execOp, Instr.index, ha.ev hx, ha.ev hy, asIntOf, bind_pure_comp, Sem.run_map, Sem.run_bind, Sem.run_pure, Result.andThen, run_underlying hu, h0, if_true, e]
    have e2 : bt s i = (s[i.toNat].toNat : Int) := by
      simp only [bt, Array.getD_eq_getD_getElem?, getElem?_pos s.data i.toNat hlt', Option.getD_some]; rfl
    rw [e2]

def placesOf (P : Program) (t : Nat) : Option (List (Nat × Nat)) :=
  match P.underlying t with
  | some (.struct fs) => fs.toList.mapM fun f => (P.info? f.type).map fun i => (f.offset, i.size)
  | _ => none
def Parts (L : Loc) : List (Nat × Operand) → List (Nat × List Value) → Prop
  | [], [] => True
  | (i, x) :: t, (j, c) :: u => i = j ∧ (∃ v, ev L x = some v ∧ v.cells.toList = c) ∧ Parts L t u
  | _, _ => False
theorem Parts.nil : Parts L [] [] := trivial
theorem Parts.cons {i : Nat} {x : Operand} {c : List Value} {v : Value} {ps : List (Nat × Operand)} {cs : List (Nat × List Value)} (hx : ev L x = some v) (hc : v.cells.toList = c) (h : Parts L ps cs) : Parts L ((i, x) :: ps) ((i, c) :: cs) := ⟨rfl, ⟨v, hx, hc⟩, h⟩
def fillC (ps : List (Nat × Nat)) : List Value → List (Nat × List Value) → Option (List Value)
  | cs, [] => some cs
  | cs, (i, c) :: t => match ps[i]? with
    | some (off, sz) => bif Nat.beq c.length sz && Nat.ble (off + c.length) cs.length then fillC ps (cs.take off ++ c ++ cs.drop (off + c.length)) t else none
    | none => none
theorem fill_fillC (ps : List (Nat × Nat)) {a : Act} (ha : Sat n L a) : ∀ (parts : List (Nat × Operand)) (css : List (Nat × List Value)) (cs out : List Value), Parts L parts css → fillC ps cs css = some out →
    Instr.fill (ps.toArray[·]?) cs.toArray (parts.map fun p => (p.1, a.eval p.2)) = some out.toArray
  | [], [], cs, out, _, h => by simp only [fillC, Option.some.injEq] at h; subst h; rfl
  | [], _ :: _, _, _, h, _ => h.elim
  | _ :: _, [], _, _, h, _ => h.elim
  | (i, x) :: t, (j, c) :: u, cs, out, h, hf => by
    obtain ⟨rfl, ⟨v, hv, hc⟩, ht⟩ := h
    simp only [fillC] at hf
    cases hp : ps[i]? with
    | none => rw [hp] at hf; cases hf
    | some q =>
      obtain ⟨off, sz⟩ := q
      rw [hp] at hf
      simp only [] at hf
      cases hb : (Nat.beq c.length sz && Nat.ble (off + c.length) cs.length) with
      | false => rw [hb] at hf; cases hf
      | true =>
        rw [hb] at hf
        simp only [cond_true] at hf
        simp only [Bool.and_eq_true] at hb
        have h1 := Nat.eq_of_beq_eq_true hb.1
        have h2 := Nat.le_of_ble_eq_true hb.2
        have hsz : v.cells.size = c.length := by rw [← hc]; simp
        simp only [List.map_cons, ha.ev hv, Instr.fill]
        have hp' : ps.toArray[i]? = some (off, sz) := by simpa using hp
        rw [hp']
        simp only []
        have hno : (decide (v.cells.size ≠ sz) || decide (off + v.cells.size > cs.toArray.size)) = false := by simp; omega
        rw [if_neg (by rw [hno]; exact Bool.false_ne_true)]
        rw [fold_set_array v.cells off cs.toArray (by simp; omega)]
        simp only [hc, hsz]
        exact fill_fillC ps ha t u _ _ ht hf
theorem Y_build {ty : Nat} {zs cs : List Value} {ps : List (Nat × Nat)} {parts : List (Nat × Operand)} {css : List (Nat × List Value)} (hz : zeroOf P ty = some zs) (hp : placesOf P ty = some ps) (hx : Parts L parts css) (hs : isAggOf P ty = some true) (hf : fillC ps zs css = some cs) : Y P n L w (.build ty parts.toArray) t (.agg cs.toArray) := by
  intro a ha _ _ _ _
  obtain ⟨i, hi, hzi⟩ := Option.bind_eq_some_iff.1 hz
  obtain ⟨z, hzz, rfl⟩ := Option.map_eq_some_iff.1 hzi
  have hzv : (zeroValue ty).run P w = .ok z w := by simp [zeroValue, typeInfo, hi, hzz]
  unfold placesOf at hp
  split at hp
  · rename_i fs hfs
    have hm : (fs.mapM fun f => (do pure (f.offset, ← sizeOf f.type) : Sem (Nat × Nat))).run P w = .ok ps.toArray w := by
      have key : ∀ (l : List Field) (qs : List (Nat × Nat)), (l.mapM fun f => (P.info? f.type).map fun i => (f.offset, i.size)) = some qs → (l.mapM fun f => (do pure (f.offset, ← sizeOf f.type) : Sem (Nat × Nat))).run P w = .ok qs w := by
        intro l
        induction l with
        | nil => intro qs h; simp at h; subst h; rfl
        | cons f l ih =>
          intro qs h
          simp only [List.mapM_cons, bind_pure_comp, Option.bind_eq_bind, Option.bind_eq_some_iff, Option.map_eq_some_iff] at h
          obtain ⟨q, ⟨inf, hinf, rfl⟩, h⟩ := h
          simp only [Option.map_eq_map, Option.map_eq_some_iff] at h
          obtain ⟨qs', hqs, rfl⟩ := h
          have := ih qs' hqs
          simp [List.mapM_cons, sizeOf, typeInfo, hinf]
          simp [sizeOf, typeInfo] at this
          rw [this]; rfl
      have := key fs.toList ps hp
      rw [Array.mapM_eq_mapM_toList]
      simp only [bind_pure_comp] at this ⊢
      rw [Sem.run_map, this]; rfl
    have hfill := fill_fillC ps ha parts css z.cells.toList cs hx hf
    simp only [execOp, Instr.build, bind_pure_comp, Sem.run_map, Sem.run_bind, hzv, Result.andThen, run_underlying hfs]
    simp only [bind_pure_comp] at hm
    rw [hm]
    simp only [Result.andThen]
    rw [Array.toArray_toList] at hfill
    simp only [List.map_toArray]
    rw [hfill]
    rfl
  · cases hp

theorem O_storeRowR {α : Type} [Inhabited α] {r : Rep α} {ty j e g : Nat} {v u : Value} {cs : List Value} {xs : List α} {i : Int} {z : α} (hsz : sizeOf' P ty = some 1) (hs : St w0 ρ Γ w) (hi : Γ[j]? = some (.row v e r.sz xs.length cs)) (hg : v.ownBlock = some g) (h0 : 0 ≤ i) (h1 : i < (xs.length : Int)) (hr : RowR r ρ cs xs) (hx : ev L x = some (.pointer (some ⟨g, i.toNat * r.sz, none⟩))) (hy : ev L y = some u) (hu : r.R ρ [u] z)
    (hK : ∀ cs' w', RowR r ρ cs' (xs.set i.toNat z) → St w0 ρ (Γ.set j (.row v e r.sz (xs.set i.toNat z).length cs')) w' → O P n ops rest N L w') : O P n ops (⟨none, .store ty x y, t, pos, aft, none⟩ :: rest) N L w := by
  have h1z : r.sz = 1 := by have := r.len hu; simpa using this.symm
  have hlt : i.toNat < xs.length := by omega
  have hk : i.toNat * r.sz < cs.length := by rw [hr.1]; rw [h1z]; omega
  refine O_storeRow hsz hs hi hg hk hx hy (r.one hu u (List.mem_singleton.2 rfl)) fun w' h => hK _ w' ?_ (by rw [List.length_set]; exact h)
  refine ⟨by simp [hr.1], fun p q hq => ?_⟩
  rw [List.getElem?_set] at hq
  by_cases hp : i.toNat = p
  · subst hp
    rw [if_pos rfl, if_pos hlt] at hq
    obtain rfl := Option.some.inj hq
    refine ⟨[u], hu, fun k a ha => ?_⟩
    cases k with
    | zero => simp at ha; subst ha; simp [hk]
    | succ k => simp at ha
  · rw [if_neg hp] at hq
    obtain ⟨c, h2, h3⟩ := hr.2 p q hq
    refine ⟨c, h2, fun k a ha => ?_⟩
    have hkl : k < r.sz := by rw [← r.len h2]; exact (List.getElem?_eq_some_iff.1 ha).1
    rw [List.getElem?_set_ne (by rw [h1z] at hkl ⊢; omega)]
    exact h3 k a ha
theorem retc {fn : Func} {S : Value → World → Prop} {i b T ty k tm : Nat} {cs : List Value} (hr : fn.results = #[.cell tm ty]) (hl : lk tm L = some (.pointer (some ⟨b, 0, none⟩))) (ha : isAggOf P ty = some true) (hsz : sizeOf' P ty = some k) (hs : St w0 ρ Γ w) (hi : Γ[i]? = some (.box b T cs)) (hk : cs.length = k) (h : S (.agg cs.toArray) w) :
    Ret P n fn S L w := by
  refine ⟨_, fun a hsat => ?_, h⟩
  subst hk
  have := run_loadCellsFrom (P := P) (w := w) (a := ⟨b, 0, none⟩) cs 0 #[] (fun j u hu => by rw [Nat.zero_add, Addr.add_lit, Nat.zero_add]; exact hs.boxCell hi hu)
  have hx := hsat.get tm _ hl
  have h2 : (loadVar ty ⟨b, 0, none⟩).run P w = .ok (.agg cs.toArray) w := by simp [loadVar, run_isAgg ha, run_sizeOf hsz, loadCells, this]
  have hx' : a.tmps[tm]?.getD undef = .pointer (some ⟨b, 0, none⟩) := by simpa using hx
  simp [results, hr, hx', asAddr, h2]
theorem yielded_undef {a : Act} (ha : Sat n L a) {j dj : Nat} (hj : (ops[j]?).bind (·.dst) = some dj) (hl : lk dj L = some undef) : yielded ops a.tmps j = none := by
  unfold yielded
  rw [hj]
  have := ha.get dj _ hl
  simp only [Option.bind_some]
  cases hx : a.tmps[dj]? with
  | none => rfl
  | some u => simp [hx] at this; subst this; rfl
theorem O_nou {j : Nat} {b : Bool} {dj : Nat} {op : Op} (hj : (ops[j]?).bind (·.dst) = some dj) (hl : lk dj L = some undef) (hd : Nat.blt d n = true)
    (h : O P n ops rest N ((d, undef) :: L) w) : O P n ops (⟨some d, op, t, pos, aft, some (j, b)⟩ :: rest) N L w := by
  intro a ha
  unfold wpList
  simp only [Region.wanted, yielded_undef ha hj hl]
  exact h _ (ha.put hd undef)
end
theorem wpAnyI_reset {P : Program} {ops : Array Oper} {Q : Exit → Act → World → Prop} {late late' : List Nat} {J J' : World → Prop} : ∀ (fuel : Nat) (listed : Array Bool) (a : Act) (w : World), (∀ i, listed[i]? = some false → late.contains i = true) →
    wpAnyI P ops Q late' J' fuel listed a w → wpAnyI P ops Q late J fuel listed a w
  | 0, _, _, _, _, h => h
  | fuel + 1, listed, a, w, hl, h => ⟨h.1, fun i hi => by
      refine wpOp_mono (fun a' w' hk => ⟨fun hn _ => ?_, wpAnyI_reset fuel _ a' w' (fun j hj => ?_) hk.2⟩) (h.2 i hi)
      · have hiun := (mem_ready.1 hi).1
        have hilt : i < listed.size := by
          rcases Nat.lt_or_ge i listed.size with h' | h'
          · exact h'
          · simp [Array.getElem?_eq_none h'] at hiun
        have := hl i (by simp [hilt] at hiun ⊢; exact hiun)
        rw [this] at hn; cases hn
      · apply hl
        rw [Array.getElem?_setIfInBounds] at hj
        split at hj
        · split at hj <;> cases hj
        · exact hj⟩
theorem OD_reset {P : Program} {n : Nat} {ops : Array Oper} {late : List Nat} {J : World → Prop} {fuel : Nat} {done : List Nat} {N : Nxt} {L : Loc} {w : World} (late' : List Nat) (J' : World → Prop)
    (hl : ((List.range ops.size).all fun i => done.contains i || late.contains i) = true) (h : OD P n ops late' J' fuel done N L w) : OD P n ops late J fuel done N L w := by
  intro a ha
  refine wpAnyI_reset fuel _ a w (fun i hi => ?_) (h a ha)
  have hlt : i < ops.size := by
    have := (Array.getElem?_eq_some_iff.1 hi).1
    simpa [lst_size] using this
  have h2 := List.all_eq_true.1 hl i (List.mem_range.2 hlt)
  have h3 : (lst ops.size done).getD i false = false := by simp [Array.getD_eq_getD_getElem?, hi]
  rw [lst_get hlt] at h3
  rw [h3] at h2
  simpa using h2
theorem SlR.nilEmpty {α : Type} {r : Rep α} {ρ : Hp} {m c : Nat} {xs : List α} (h : SlR r ρ (.slice none m c) xs) : xs = [] := by
  rcases h with ⟨h, _⟩ | ⟨b, o, c', hv, _⟩
  · exact h
  · cases hv
def NN (_ρ : Hp) (v : Value) (_x : Unit) : Prop := ∃ a : Addr, v = .pointer (some a)
theorem NN.one {ρ : Hp} {v : Value} {x : Unit} (h : NN ρ v x) : v.oneCell' = true := by obtain ⟨a, rfl⟩ := h; rfl
theorem NN.mono {ρ ρ' : Hp} {v : Value} {x : Unit} (_ : Le ρ ρ') (h : NN ρ v x) : NN ρ' v x := h
end Go.Proofs.YtekafkokpnihfaaGreat
