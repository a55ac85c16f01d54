/- Data in memory that never changes, and the operations that read it. Own work of this repo. -/
import Derived.Test.YtekafkokpnihfaaGreatEngE
namespace Go.Proofs.YtekafkokpnihfaaGreat
open Go.RowKit

def InK : IntKind → Int → Prop
  | .i8, x => -128 ≤ x ∧ x ≤ 127
  | .i16, x => -32768 ≤ x ∧ x ≤ 32767
  | .i32, x => -2147483648 ≤ x ∧ x ≤ 2147483647
  | .i64, x => -9223372036854775808 ≤ x ∧ x ≤ 9223372036854775807
  | .u8, x => 0 ≤ x ∧ x ≤ 255
  | .u16, x => 0 ≤ x ∧ x ≤ 65535
  | .u32, x => 0 ≤ x ∧ x ≤ 4294967295
  | .u64, x => 0 ≤ x ∧ x ≤ 18446744073709551615

structure Rep (α : Type) where
  sz : Nat
  R : Hp → List Value → α → Prop
  len : ∀ {ρ cs x}, R ρ cs x → cs.length = sz
  mono : ∀ {ρ ρ' cs x}, Le ρ ρ' → R ρ cs x → R ρ' cs x
  one : ∀ {ρ cs x}, R ρ cs x → ∀ u ∈ cs, u.oneCell' = true

def Rep.int (k : IntKind) : Rep Int := ⟨1, fun _ cs x => cs = [.int k x], fun h => by rw [h]; rfl, fun _ h => h, fun h u hu => by rw [h] at hu; simp at hu; subst hu; rfl⟩
def Rep.bool : Rep Bool := ⟨1, fun _ cs x => cs = [.bool x], fun h => by rw [h]; rfl, fun _ h => h, fun h u hu => by rw [h] at hu; simp at hu; subst hu; rfl⟩
def Rep.str : Rep ByteArray := ⟨1, fun _ cs x => cs = [.string x], fun h => by rw [h]; rfl, fun _ h => h, fun h u hu => by rw [h] at hu; simp at hu; subst hu; rfl⟩

def SlR {α : Type} (r : Rep α) (ρ : Hp) (v : Value) (xs : List α) : Prop :=
  (xs = [] ∧ ∃ a c, v = .slice a 0 c) ∨ ∃ b o c, v = .slice (some ⟨b, o, none⟩) xs.length c ∧ xs.length ≤ c ∧ ∀ i x, xs[i]? = some x → ∃ cs, r.R ρ cs x ∧ ∀ j u, cs[j]? = some u → ρ ⟨b, o + i * r.sz + j, none⟩ = some u
theorem SlR.mono {α : Type} {r : Rep α} {ρ ρ' : Hp} {v : Value} {xs : List α} (hle : Le ρ ρ') (h : SlR r ρ v xs) : SlR r ρ' v xs := by
  rcases h with h | ⟨b, o, c, hv, hc, h⟩
  · exact .inl h
  · exact .inr ⟨b, o, c, hv, hc, fun i x hx => by obtain ⟨cs, h1, h2⟩ := h i x hx; exact ⟨cs, r.mono hle h1, fun j u hu => hle _ _ (h2 j u hu)⟩⟩
theorem SlR.shape {α : Type} {r : Rep α} {ρ : Hp} {v : Value} {xs : List α} (h : SlR r ρ v xs) : ∃ a c, v = .slice a xs.length c := by
  rcases h with ⟨rfl, a, c, h⟩ | ⟨b, o, c, hv, _⟩
  · exact ⟨a, c, h⟩
  · exact ⟨_, c, hv⟩
theorem SlR.fits {α : Type} {r : Rep α} {ρ : Hp} {v : Value} {xs : List α} (h : SlR r ρ v xs) : ∃ a c, v = .slice a xs.length c ∧ xs.length ≤ c := by
  rcases h with ⟨rfl, a, c, h⟩ | ⟨b, o, c, hv, hc, _⟩
  · exact ⟨a, c, h, Nat.zero_le _⟩
  · exact ⟨_, c, hv, hc⟩
theorem SlR.one {α : Type} {r : Rep α} {ρ : Hp} {v : Value} {xs : List α} (h : SlR r ρ v xs) : v.oneCell' = true := by obtain ⟨a, c, rfl⟩ := h.shape; rfl
theorem SlR.cellsL {α : Type} {r : Rep α} {ρ : Hp} {v : Value} {xs : List α} (h : SlR r ρ v xs) : v.cells.toList = [v] := by obtain ⟨a, c, rfl⟩ := h.shape; rfl
theorem SlR.cells {α : Type} {r : Rep α} {ρ : Hp} {v : Value} {xs : List α} (h : SlR r ρ v xs) : v.cells = #[v] := by obtain ⟨a, c, rfl⟩ := h.shape; rfl
def Rep.slice {α : Type} (r : Rep α) : Rep (List α) := ⟨1, fun ρ cs xs => ∃ v, cs = [v] ∧ SlR r ρ v xs, fun h => by obtain ⟨v, h, _⟩ := h; rw [h]; rfl, fun hle h => by obtain ⟨v, h, hv⟩ := h; exact ⟨v, h, hv.mono hle⟩, fun h u hu => by
  obtain ⟨v, h, hv⟩ := h; rw [h] at hu; simp at hu; subst hu; exact hv.one⟩

def CA (ρ : Hp) (b o : Nat) (cs : List Value) : Prop := ∀ j u, cs[j]? = some u → ρ ⟨b, o + j, none⟩ = some u
theorem CA.mono {ρ ρ' : Hp} {b o : Nat} {cs : List Value} (hle : Le ρ ρ') (h : CA ρ b o cs) : CA ρ' b o cs := fun j u hu => hle _ _ (h j u hu)
def At {α : Type} (ρ : Hp) (r : Rep α) (b o : Nat) (x : α) : Prop := ∃ cs, r.R ρ cs x ∧ CA ρ b o cs
theorem At.mono {α : Type} {ρ ρ' : Hp} {r : Rep α} {b o : Nat} {x : α} (hle : Le ρ ρ') (h : At ρ r b o x) : At ρ' r b o x := by
  obtain ⟨cs, h1, h2⟩ := h; exact ⟨cs, r.mono hle h1, fun j u hu => hle _ _ (h2 j u hu)⟩
theorem At.int {ρ : Hp} {k : IntKind} {b o : Nat} {x : Int} (h : At ρ (Rep.int k) b o x) : ρ ⟨b, o, none⟩ = some (.int k x) := by
  obtain ⟨cs, hcs, h2⟩ := h; subst hcs; exact h2 0 _ rfl
theorem At.bool {ρ : Hp} {b o : Nat} {x : Bool} (h : At ρ Rep.bool b o x) : ρ ⟨b, o, none⟩ = some (.bool x) := by
  obtain ⟨cs, hcs, h2⟩ := h; subst hcs; exact h2 0 _ rfl
theorem At.str {ρ : Hp} {b o : Nat} {x : ByteArray} (h : At ρ Rep.str b o x) : ρ ⟨b, o, none⟩ = some (.string x) := by
  obtain ⟨cs, hcs, h2⟩ := h; subst hcs; exact h2 0 _ rfl
theorem At.slice {α : Type} {ρ : Hp} {r : Rep α} {b o : Nat} {xs : List α} (h : At ρ (Rep.slice r) b o xs) : ∃ v, ρ ⟨b, o, none⟩ = some v ∧ SlR r ρ v xs := by
  obtain ⟨cs, ⟨v, hcs, hv⟩, h2⟩ := h; subst hcs; exact ⟨v, h2 0 _ rfl, hv⟩

def rd {α : Type} [Inhabited α] (xs : List α) (i : Int) : α := xs.getD i.toNat default
theorem rd_get {α : Type} [Inhabited α] {xs : List α} {i : Int} (h0 : 0 ≤ i) (h1 : i < (xs.length : Int)) : xs[i.toNat]? = some (rd xs i) := by
  have : i.toNat < xs.length := by omega
  simp [rd, this]

section
variable {P : Program} {n : Nat} {N : Nxt} {L : Loc} {w w0 : World} {ops : Array Oper} {rest : List Oper} {d t : Nat} {pos : String} {aft : Array Edge} {ρ : Hp} {Γ : List Item} {x y : Operand}

theorem Y_len {sl e : Nat} {a : Option Addr} {m c : Nat} (hu : P.underlying sl = some (.slice e)) (hx : ev L x = some (.slice a m c)) : Y P n L w (.call { callee := .builtin .len, args := #[x], argTypes := #[sl] }) t (.int .i64 m) :=
  fun z hz _ _ _ _ => by simp [execOp, resolve, invoke, builtin, hz.ev hx, Builtin.len_, run_underlying hu, goInt]
theorem Y_lenR {α : Type} {r : Rep α} {sl e : Nat} {v : Value} {xs : List α} (hu : P.underlying sl = some (.slice e)) (h : SlR r ρ v xs) (hx : ev L x = some v) : Y P n L w (.call { callee := .builtin .len, args := #[x], argTypes := #[sl] }) t (.int .i64 xs.length) := by
  obtain ⟨a, c, rfl⟩ := h.shape; exact Y_len hu hx
theorem Y_lenRow {sl e i sz m : Nat} {v : Value} {cs : List Value} (hu : P.underlying sl = some (.slice e)) (hs : St w0 ρ Γ w) (hi : Γ[i]? = some (.row v e sz m cs)) (hx : ev L x = some v) : Y P n L w (.call { callee := .builtin .len, args := #[x], argTypes := #[sl] }) t (.int .i64 m) := by
  have hok := hs.ok _ (List.mem_of_getElem? hi)
  rcases hok.2 with ⟨rfl, hm⟩ | ⟨g, cap, cur, rfl, _⟩
  · subst hm; exact Y_len hu hx
  · exact Y_len hu hx
theorem Y_lens {sl : Nat} {s : ByteArray} (hu : P.underlying sl = some .string) (hx : ev L x = some (.string s)) : Y P n L w (.call { callee := .builtin .len, args := #[x], argTypes := #[sl] }) t (.int .i64 s.size) :=
  fun z hz _ _ _ _ => by simp [execOp, resolve, invoke, builtin, hz.ev hx, Builtin.len_, run_underlying hu, goInt]
theorem Y_ix {sl e sz bytes b o m c : Nat} {k : IntKind} {i : Int} (he : ElemOf P sl e sz bytes) (hx : ev L x = some (.slice (some ⟨b, o, none⟩) m c)) (hy : ev L y = some (.int k i)) (h0 : 0 ≤ i) (h1 : i < (m : Int)) : Y P n L w (.indexAddr sl x y) t (.pointer (some ⟨b, o + i.toNat * sz, none⟩)) := by
  obtain ⟨j, z, hj, _, hsz, _, _⟩ := he.info
  intro a ha _ _ _ _
  have hsize : (sizeOf e).run P w = .ok sz w := by simp [sizeOf, typeInfo, hj, hsz]
  simp only [execOp, Instr.indexAt, ha.ev hx, ha.ev hy, asIntOf, bind_pure_comp, Sem.run_map, Sem.run_bind, Sem.run_pure, Result.andThen, run_underlying he.under]
  rw [if_pos ⟨h0, h1⟩]
  simp only [Sem.run_bind, Sem.run_map, hsize, Result.andThen, Addr.add_lit]
theorem SlR.ix {α : Type} [Inhabited α] {r : Rep α} {sl e bytes : Nat} {v : Value} {xs : List α} {i : Int} (h : SlR r ρ v xs) (he : ElemOf P sl e r.sz bytes) (h0 : 0 ≤ i) (h1 : i < (xs.length : Int)) :
    ∃ b o, At ρ r b o (rd xs i) ∧ ∀ {n : Nat} {L : Loc} {w : World} {x y : Operand} {k : IntKind} {t : TypeId}, ev L x = some v → ev L y = some (.int k i) → Y P n L w (.indexAddr sl x y) t (.pointer (some ⟨b, o, none⟩)) := by
  rcases h with ⟨rfl, _⟩ | ⟨b, o, c, rfl, _, h⟩
  · simp at h1; omega
  · obtain ⟨cs, h2, h3⟩ := h _ _ (rd_get h0 h1)
    exact ⟨b, o + i.toNat * r.sz, ⟨cs, h2, h3⟩, fun hx hy => Y_ix he hx hy h0 h1⟩
theorem Y_ixRow {sl e sz bytes j m : Nat} {v : Value} {cs : List Value} {k : IntKind} {i : Int} {g : Nat} (he : ElemOf P sl e sz bytes) (hs : St w0 ρ Γ w) (hi : Γ[j]? = some (.row v e sz m cs)) (hg : v.ownBlock = some g) (hx : ev L x = some v) (hy : ev L y = some (.int k i)) (h0 : 0 ≤ i) (h1 : i < (m : Int)) :
    Y P n L w (.indexAddr sl x y) t (.pointer (some ⟨g, i.toNat * sz, none⟩)) := by
  have hok := hs.ok _ (List.mem_of_getElem? hi)
  rcases hok.2 with ⟨rfl, hm⟩ | ⟨g', cap, cur, rfl, _⟩
  · cases hg
  · simp only [Value.ownBlock, Option.some.injEq] at hg
    subst hg
    have := Y_ix (n := n) (L := L) (w := w) (t := t) he hx hy h0 h1
    simpa using this
theorem St.rowBlock (hs : St w0 ρ Γ w) {j e sz m : Nat} {v : Value} {cs : List Value} (hi : Γ[j]? = some (.row v e sz m cs)) (hm : 0 < m) : ∃ g, v.ownBlock = some g := by
  have hok := hs.ok _ (List.mem_of_getElem? hi)
  rcases hok.2 with ⟨rfl, h0⟩ | ⟨g', cap, cur, rfl, _⟩
  · omega
  · exact ⟨g', rfl⟩
theorem St.rowCell (hs : St w0 ρ Γ w) {j e sz m g k : Nat} {v u : Value} {cs : List Value} (hi : Γ[j]? = some (.row v e sz m cs)) (hg : v.ownBlock = some g) (hu : cs[k]? = some u) : w.cell? ⟨g, k, none⟩ = some u := by
  have := (hs.ok _ (List.mem_of_getElem? hi) : w.ownsRow 0 e sz v m cs).cells hg k u hu
  simpa [Addr.add_lit] using this
theorem St.rowSet (hs : St w0 ρ Γ w) {j e sz m g k : Nat} {v u : Value} {cs : List Value} (hi : Γ[j]? = some (.row v e sz m cs)) (hg : v.ownBlock = some g) (hk : k < cs.length) : St w0 ρ (Γ.set j (.row v e sz m (cs.set k u))) (w.setCell ⟨g, k, none⟩ u) := by
  have hok : w.ownsRow 0 e sz v m cs := hs.ok _ (List.mem_of_getElem? hi)
  have hbase := hs.base g (List.mem_filterMap.2 ⟨_, List.mem_of_getElem? hi, hg⟩)
  refine hs.turn hi ((Below.refl _ _).setCell (p := ⟨g, k, none⟩) hbase u) (fun c _ hc => Below.heap_setCell _ _ _ _ (fun e => hc (by rw [e]; exact hg))) ?_ (.inl rfl)
  refine ⟨by simp [hok.1], ?_⟩
  rcases hok.2 with ⟨rfl, hm⟩ | ⟨g', cap, cur, rfl, h0, hgg, hnc, hcm, hcs, htk⟩
  · cases hg
  · simp only [Value.ownBlock, Option.some.injEq] at hg
    subst hg
    refine .inr ⟨g', cap, cur.setIfInBounds k u, rfl, h0, ?_, hnc, hcm, by simp [hcs], ?_⟩
    · simp [World.setCell, Array.getElem?_modify, hgg]
    · rw [Array.toList_setIfInBounds, List.take_set, htk]
theorem O_storeRow {ty j e sz m g k : Nat} {v u : Value} {cs : List Value} (hsz : sizeOf' P ty = some 1) (hs : St w0 ρ Γ w) (hi : Γ[j]? = some (.row v e sz m cs)) (hg : v.ownBlock = some g) (hk : k < cs.length) (hx : ev L x = some (.pointer (some ⟨g, k, none⟩))) (hy : ev L y = some u) (h1 : u.oneCell' = true)
    (hK : ∀ w', St w0 ρ (Γ.set j (.row v e sz m (cs.set k u))) w' → O P n ops rest N L w') : O P n ops (⟨none, .store ty x y, t, pos, aft, none⟩ :: rest) N L w := by
  have hc : cs[k]? = some cs[k] := List.getElem?_eq_getElem hk
  refine O_skip (w' := w.setCell ⟨g, k, none⟩ u) (fun c hcs => ?_) (hK _ (hs.rowSet hi hg hk))
  have hcell := hs.rowCell hi hg hc
  have hok : w.ownsRow 0 e sz v m cs := hs.ok _ (List.mem_of_getElem? hi)
  have hfree : w.frozen? ⟨g, k, none⟩ = false := by
    rcases hok.2 with ⟨rfl, hm⟩ | ⟨g', cap, cur, rfl, h0, hgg, _⟩
    · cases hg
    · simp only [Value.ownBlock, Option.some.injEq] at hg
      subst hg
      simp [World.frozen?, hgg]
  have hvc : u.cells = #[u] := by cases u <;> first | rfl | cases h1
  have hadd : (⟨g, k, none⟩ : Addr).add 0 = ⟨g, k, none⟩ := rfl
  simp only [execOp, hcs.ev hx, hcs.ev hy, Instr.storeAt, Instr.sureAddr, storeVar, Sem.run_bind, Sem.run_pure, Result.andThen, run_sizeOf hsz, hvc]
  simp [storeCells, hadd, run_store1 (P := P) hcell hfree h1]

def Hp.with (ρ : Hp) (g : Nat) (w : World) : Hp := fun a => if a.block = g then seen w a else ρ a
theorem St.freeze (hs : St w0 ρ Γ w) {j : Nat} {it : Item} {g : Nat} (hi : Γ[j]? = some it) (hg : it.blk = some g) : St w0 (ρ.with g w) (Γ.eraseIdx j) w ∧ Le ρ (ρ.with g w) := by
  have hsub : (Γ.eraseIdx j).Sublist Γ := List.eraseIdx_sublist ..
  have h1 := hs.sub hsub
  have hmem : g ∈ Γ.filterMap Item.blk := List.mem_filterMap.2 ⟨it, List.mem_of_getElem? hi, hg⟩
  have hnot : g ∉ (Γ.eraseIdx j).filterMap Item.blk := by
    intro hm
    obtain ⟨x, hx, hxb⟩ := List.mem_filterMap.1 hm
    obtain ⟨k, hk⟩ := List.getElem?_of_mem hx
    rw [List.getElem?_eraseIdx] at hk
    split at hk
    · rename_i hlt
      have := apart_of hs.nodup hi hg k x hk hxb; omega
    · have := apart_of hs.nodup hi hg (k + 1) x hk hxb; omega
  have hle : Le ρ (ρ.with g w) := fun a v ha => by
    unfold Hp.with
    rw [if_neg (fun e => hs.clean a v ha (by rw [e]; exact hmem))]
    exact ha
  refine ⟨⟨h1.below, fun a v ha => ?_, h1.ok, h1.nodup, h1.base, fun a v ha hm => ?_⟩, hle⟩
  · unfold Hp.with at ha
    split at ha
    · exact ha
    · exact hs.sees a v ha
  · unfold Hp.with at ha
    split at ha
    · rename_i e; rw [e] at hm; exact hnot hm
    · exact h1.clean a v ha hm
theorem St.rowDone {α : Type} (hs : St w0 ρ Γ w) (r : Rep α) {j e m : Nat} {v : Value} {cs : List Value} {xs : List α} (hi : Γ[j]? = some (.row v e r.sz m cs)) (hm : m = xs.length)
    (hel : ∀ i x, xs[i]? = some x → ∃ c, r.R ρ c x ∧ ∀ k u, c[k]? = some u → cs[i * r.sz + k]? = some u) : ∃ ρ', St w0 ρ' (Γ.eraseIdx j) w ∧ Le ρ ρ' ∧ SlR r ρ' v xs := by
  have hok : w.ownsRow 0 e r.sz v m cs := hs.ok _ (List.mem_of_getElem? hi)
  cases hg : v.ownBlock with
  | none =>
    rcases hok.2 with ⟨rfl, h0⟩ | ⟨g, cap, cur, rfl, _⟩
    · refine ⟨ρ, hs.sub (List.eraseIdx_sublist ..), Le.rfl' ρ, .inl ⟨?_, none, 0, rfl⟩⟩
      subst h0; exact List.eq_nil_of_length_eq_zero hm.symm
    · cases hg
  | some g =>
    obtain ⟨h1, h2⟩ := hs.freeze hi hg
    refine ⟨_, h1, h2, ?_⟩
    rcases hok.2 with ⟨rfl, h0⟩ | ⟨g', cap, cur, rfl, _, _, hnc, _⟩
    · cases hg
    · simp only [Value.ownBlock, Option.some.injEq] at hg
      subst hg
      refine .inr ⟨g', 0, cap, by rw [hm], by omega, fun i x hx => ?_⟩
      obtain ⟨c, h3, h4⟩ := hel i x hx
      refine ⟨c, r.mono h2 h3, fun k u hu => ?_⟩
      have := hs.rowCell (g := g') hi rfl (h4 k u hu)
      unfold Hp.with
      simp only [if_true, Nat.zero_add]
      exact this
def RowR {α : Type} (r : Rep α) (ρ : Hp) (cs : List Value) (xs : List α) : Prop :=
  cs.length = xs.length * r.sz ∧ ∀ i x, xs[i]? = some x → ∃ c, r.R ρ c x ∧ ∀ k u, c[k]? = some u → cs[i * r.sz + k]? = some u
theorem RowR.mono {α : Type} {r : Rep α} {ρ ρ' : Hp} {cs : List Value} {xs : List α} (hle : Le ρ ρ') (h : RowR r ρ cs xs) : RowR r ρ' cs xs :=
  ⟨h.1, fun i x hx => by obtain ⟨c, h1, h2⟩ := h.2 i x hx; exact ⟨c, r.mono hle h1, h2⟩⟩
theorem RowR.nil {α : Type} (r : Rep α) (ρ : Hp) : RowR r ρ [] [] := ⟨by simp, fun i x hx => by simp at hx⟩
theorem RowR.one' {α : Type} {r : Rep α} {ρ : Hp} {c : List Value} {x : α} (h : r.R ρ c x) : RowR r ρ c [x] :=
  ⟨by rw [r.len h]; simp, fun i y hy => by
    cases i with
    | zero => simp at hy; subst hy; exact ⟨c, h, fun k u hu => by simpa using hu⟩
    | succ i => simp at hy⟩
theorem RowR.append {α : Type} {r : Rep α} {ρ : Hp} {cs ds : List Value} {xs ys : List α} (h : RowR r ρ cs xs) (g : RowR r ρ ds ys) : RowR r ρ (cs ++ ds) (xs ++ ys) := by
  refine ⟨by simp [h.1, g.1, Nat.add_mul], fun i x hx => ?_⟩
  rw [List.getElem?_append] at hx
  split at hx
  · obtain ⟨c, h1, h2⟩ := h.2 i x hx
    refine ⟨c, h1, fun k u hu => ?_⟩
    have := h2 k u hu
    rw [List.getElem?_append_left (List.getElem?_eq_some_iff.1 this).1]
    exact this
  · obtain ⟨c, h1, h2⟩ := g.2 _ x hx
    refine ⟨c, h1, fun k u hu => ?_⟩
    have := h2 k u hu
    have hge : xs.length ≤ i := by omega
    have e : i * r.sz + k = cs.length + ((i - xs.length) * r.sz + k) := by
      rw [h.1, Nat.sub_mul]
      have := Nat.mul_le_mul_right r.sz hge
      omega
    rw [e, List.getElem?_append_right (by omega), Nat.add_sub_cancel_left]
    exact this
theorem RowR.cons {α : Type} {r : Rep α} {ρ : Hp} {c ds : List Value} {x : α} {ys : List α} (h : r.R ρ c x) (g : RowR r ρ ds ys) : RowR r ρ (c ++ ds) (x :: ys) := (RowR.one' h).append g
theorem RowR.ones {α : Type} {r : Rep α} {ρ : Hp} {cs : List Value} {xs : List α} (h : RowR r ρ cs xs) : ∀ u ∈ cs, u.oneCell' = true := by
  intro u hu
  obtain ⟨p, hp⟩ := List.getElem?_of_mem hu
  have hlt : p < xs.length * r.sz := by rw [← h.1]; exact (List.getElem?_eq_some_iff.1 hp).1
  have hpos : 0 < r.sz := by
    rcases Nat.eq_zero_or_pos r.sz with e | e
    · rw [e] at hlt; omega
    · exact e
  have hi : p / r.sz < xs.length := (Nat.div_lt_iff_lt_mul hpos).2 hlt
  obtain ⟨c, h1, h2⟩ := h.2 (p / r.sz) _ (List.getElem?_eq_getElem hi)
  have hk : p % r.sz < c.length := by rw [r.len h1]; exact Nat.mod_lt _ hpos
  have := h2 (p % r.sz) _ (List.getElem?_eq_getElem hk)
  rw [Nat.div_add_mod' p r.sz, hp] at this
  obtain rfl := Option.some.inj this
  exact r.one h1 _ (List.getElem_mem hk)
theorem RowR.at {α : Type} [Inhabited α] {r : Rep α} {ρ : Hp} {cs : List Value} {xs : List α} (h : RowR r ρ cs xs) {i : Int} (h0 : 0 ≤ i) (h1 : i < (xs.length : Int)) : ∃ c, r.R ρ c (rd xs i) ∧ ∀ k u, c[k]? = some u → cs[i.toNat * r.sz + k]? = some u := h.2 _ _ (rd_get h0 h1)
theorem St.rowEnd {α : Type} {r : Rep α} (hs : St w0 ρ Γ w) {j e : Nat} {v : Value} {cs : List Value} {xs : List α} (hr : RowR r ρ cs xs) (hi : Γ[j]? = some (.row v e r.sz xs.length cs)) : ∃ ρ', Le ρ ρ' ∧ St w0 ρ' (Γ.eraseIdx j) w ∧ SlR r ρ' v xs := by
  obtain ⟨ρ', h1, h2, h3⟩ := hs.rowDone r hi rfl hr.2
  exact ⟨ρ', h2, h1, h3⟩
theorem Src.row (hs : St w0 ρ Γ w) {j e sz m : Nat} {v : Value} {cs : List Value} (hi : Γ[j]? = some (.row v e sz m cs)) (h1 : ∀ u ∈ cs, u.oneCell' = true) : Src w sz v m cs := by
  have hok : w.ownsRow 0 e sz v m cs := hs.ok _ (List.mem_of_getElem? hi)
  refine ⟨?_, hok.1, h1⟩
  rcases hok.2 with ⟨rfl, h0⟩ | ⟨g, cap, cur, rfl, _⟩
  · exact ⟨none, 0, by rw [h0], fun _ => h0, fun ad h => by cases h⟩
  · refine ⟨_, cap, rfl, fun h => (by cases h), fun ad had k u hu => ?_⟩
    obtain rfl := Option.some.inj had
    exact hok.cells rfl k u hu
theorem Src.nil (sz : Nat) : Src w sz (.slice none 0 0) 0 [] := ⟨⟨none, 0, rfl, fun _ => rfl, fun _ h => by cases h⟩, by simp, fun _ h => by cases h⟩
theorem Src.sl {α : Type} {r : Rep α} {v : Value} {xs : List α} (hs : St w0 ρ Γ w) (h : SlR r ρ v xs) : ∃ cs, Src w r.sz v xs.length cs ∧ RowR r ρ cs xs := by
  rcases h with ⟨rfl, a, c, rfl⟩ | ⟨b, o, c, rfl, _, h⟩
  · exact ⟨[], ⟨⟨a, c, rfl, fun _ => rfl, fun ad _ j u hu => by simp at hu⟩, by simp, fun u hu => by cases hu⟩, RowR.nil r ρ⟩
  · -- element by element
    have key : ∀ (m : Nat), m ≤ xs.length → ∃ cs, RowR r ρ cs (xs.take m) ∧ ∀ j u, cs[j]? = some u → ρ ⟨b, o + j, none⟩ = some u := by
      intro m
      induction m with
      | zero => intro _; exact ⟨[], by simpa using RowR.nil r ρ, fun j u hu => by simp at hu⟩
      | succ m ih =>
        intro hm
        obtain ⟨cs, h1, h2⟩ := ih (by omega)
        have hlt : m < xs.length := by omega
        obtain ⟨c, h3, h4⟩ := h m _ (List.getElem?_eq_getElem hlt)
        refine ⟨cs ++ c, ?_, fun j u hu => ?_⟩
        · rw [List.take_add_one, List.getElem?_eq_getElem hlt]
          exact h1.append (RowR.one' h3)
        · rw [List.getElem?_append] at hu
          split at hu
          · exact h2 j u hu
          · have hl : cs.length = m * r.sz := by rw [h1.1, List.length_take, Nat.min_eq_left (by omega)]
            have := h4 _ u hu
            rw [hl] at this
            rw [show o + j = o + m * r.sz + (j - m * r.sz) from by omega]
            exact this
    obtain ⟨cs, h1, h2⟩ := key xs.length (Nat.le_refl _)
    rw [List.take_length] at h1
    refine ⟨cs, ⟨⟨_, c, rfl, fun h => (by cases h), fun ad had j u hu => ?_⟩, h1.1, h1.ones⟩, h1⟩
    obtain rfl := Option.some.inj had
    rw [Addr.add_lit]
    exact hs.see (h2 j u hu)
theorem O_appendR {α : Type} {r : Rep α} {sl e bytes i : Nat} {v u : Value} {cs news : List Value} {xs ys : List α} (he : ElemOf P sl e r.sz bytes) (hs : St w0 ρ Γ w) (hi : Γ[i]? = some (.row v e r.sz xs.length cs)) (hr : RowR r ρ cs xs)
    (hd : Nat.blt d n = true) (hx : ev L x = some v) (hy : ev L y = some u) (hsrc : Src w r.sz u ys.length news) (hn : RowR r ρ news ys) (hb : xs.length + ys.length ≤ most)
    (k : ∀ v' cs' w', RowR r ρ cs' (xs ++ ys) → St w0 ρ (Γ.set i (.row v' e r.sz (xs ++ ys).length cs')) w' → O P n ops rest N ((d, v') :: L) w') :
    O P n ops (⟨some d, .call { callee := .builtin .append, args := #[x, y], argTypes := #[sl, sl] }, t, pos, aft, none⟩ :: rest) N L w :=
  O_append he hs hi hd hx hy hsrc hb fun v' w' h => k v' _ w' (hr.append hn) (by rw [List.length_append]; exact h)
theorem Src.lit {α : Type} {r : Rep α} (hs : St w0 ρ Γ w) {j e : Nat} {v : Value} {cs : List Value} {ys : List α} (hi : Γ[j]? = some (.row v e r.sz ys.length cs)) (hr : RowR r ρ cs ys) : Src w r.sz v ys.length cs := Src.row hs hi hr.ones
def sub {α : Type} (xs : List α) (lo hi : Int) : List α := (xs.take hi.toNat).drop lo.toNat
theorem run_bound {v : Value} {k : IntKind} {i : Int} {y : Nat} {c : BoundsCode} (hv : v = .int k i) (h0 : 0 ≤ i) (h1 : i ≤ (y : Int)) : (Instr.sliceBound v y c).run P w = .ok i.toNat w := by
  subst hv
  simp only [Instr.sliceBound, asIntOf, Sem.run_bind, Sem.run_pure, Result.andThen, if_pos (And.intro h0 h1)]
theorem SlR.part {α : Type} {r : Rep α} {v : Value} {xs : List α} {lo hi : Int} (h : SlR r ρ v xs) (h0 : 0 ≤ lo) (h1 : lo ≤ hi) (h2 : hi ≤ (xs.length : Int)) {a : Option Addr} {m c : Nat} (hv : v = .slice a m c) (hm : hi ≤ (m : Int)) (hmc : m ≤ c) :
    SlR r ρ (.slice (if c = lo.toNat then a else a.map (·.add (lo.toNat * r.sz))) (hi.toNat - lo.toNat) (c - lo.toNat)) (sub xs lo hi) := by
  have hlen : (sub xs lo hi).length = hi.toNat - lo.toNat := by simp [sub]; omega
  by_cases he : hi.toNat - lo.toNat = 0
  · left
    refine ⟨List.eq_nil_of_length_eq_zero (by rw [hlen, he]), ?_⟩
    rw [he]; exact ⟨_, _, rfl⟩
  · rcases h with ⟨rfl, _⟩ | ⟨b, o, c', hv', _, hx⟩
    · simp at h2; omega
    · rw [hv'] at hv
      simp only [Value.slice.injEq] at hv
      obtain ⟨rfl, hml, rfl⟩ := hv
      have hne : ¬ c' = lo.toNat := by omega
      right
      refine ⟨b, o + lo.toNat * r.sz, c' - lo.toNat, ?_, by rw [hlen]; omega, fun i x hi' => ?_⟩
      · rw [if_neg hne, hlen]; simp [Addr.add_lit]
      · have hi2 : xs[lo.toNat + i]? = some x := by
          simp only [sub, List.getElem?_drop] at hi'
          rw [List.getElem?_take] at hi'
          split at hi'
          · exact hi'
          · cases hi'
        obtain ⟨cs, h3, h4⟩ := hx _ _ hi2
        refine ⟨cs, h3, fun j u hu => ?_⟩
        have := h4 j u hu
        rw [Nat.add_mul] at this
        rw [show o + lo.toNat * r.sz + i * r.sz + j = o + (lo.toNat * r.sz + i * r.sz) + j from by omega]
        exact this
theorem Y_slice {sl e sz bytes : Nat} {a : Option Addr} {m c : Nat} {lo hi : Option Operand} {l h : Int} (he : ElemOf P sl e sz bytes) (hx : ev L x = some (.slice a m c)) (hl : (lo = none ∧ l = 0) ∨ ∃ z k, lo = some z ∧ ev L z = some (.int k l)) (hh : (hi = none ∧ h = m) ∨ ∃ z k, hi = some z ∧ ev L z = some (.int k h))
    (h0 : 0 ≤ l) (h1 : l ≤ h) (h2 : h ≤ (m : Int)) (hmc : m ≤ c) : Y P n L w (.slice sl x lo hi none) t (.slice (if c = l.toNat then a else a.map (·.add (l.toNat * sz))) (h.toNat - l.toNat) (c - l.toNat)) := by
  obtain ⟨j, z, hj, _, hsz, _, _⟩ := he.info
  intro q hq _ _ _ _
  have hsize : (sizeOf e).run P w = .ok sz w := by simp [sizeOf, typeInfo, hj, hsz]
  have hb : (Instr.sliceBounds true m c (lo.map q.eval) (hi.map q.eval) none).run P w = .ok (l.toNat, h.toNat, c) w := by
    rcases hl with ⟨rfl, rfl⟩ | ⟨zl, kl, rfl, hzl⟩ <;> rcases hh with ⟨rfl, rfl⟩ | ⟨zh, kh, rfl, hzh⟩
    · simp [Instr.sliceBounds]
    · have e1 := run_bound (P := P) (w := w) (c := .sliceAcap) (hq.ev hzh) (by omega) (show h ≤ (c : Int) by omega)
      simp [Instr.sliceBounds, e1]
    · have e1 := run_bound (P := P) (w := w) (c := .sliceB) (hq.ev hzl) h0 h1
      simp [Instr.sliceBounds, e1]
    · have e1 := run_bound (P := P) (w := w) (c := .sliceAcap) (hq.ev hzh) (by omega) (show h ≤ (c : Int) by omega)
      have e2 := run_bound (P := P) (w := w) (c := .sliceB) (hq.ev hzl) h0 (show l ≤ (h.toNat : Int) by omega)
      simp [Instr.sliceBounds, e1, e2]
  simp [execOp, Instr.sliceAt, Instr.slice, hq.ev hx, run_underlying he.under, hb, hsize]
theorem SlR.cut {α : Type} {r : Rep α} {v : Value} {xs : List α} {sl e bytes : Nat} (f : SlR r ρ v xs) (he : ElemOf P sl e r.sz bytes) {l h : Int} (h0 : 0 ≤ l) (h1 : l ≤ h) (h2 : h ≤ (xs.length : Int)) :
    ∃ v', SlR r ρ v' (sub xs l h) ∧ ∀ {n : Nat} {L : Loc} {w : World} {x : Operand} {t : TypeId} {lo hi : Option Operand}, ev L x = some v → ((lo = none ∧ l = 0) ∨ ∃ z k, lo = some z ∧ ev L z = some (.int k l)) → ((hi = none ∧ h = (xs.length : Int)) ∨ ∃ z k, hi = some z ∧ ev L z = some (.int k h)) → Y P n L w (.slice sl x lo hi none) t v' := by
  obtain ⟨a, c, rfl, hc⟩ := f.fits
  exact ⟨_, f.part h0 h1 h2 rfl h2 hc, fun hx hl hh => Y_slice he hx hl hh h0 h1 h2 hc⟩
theorem one_nil : ∀ v ∈ ([] : List Value), v.oneCell' = true := fun _ h => by cases h
theorem one_cons {a : Value} {l : List Value} (h : a.oneCell' = true) (hl : ∀ v ∈ l, v.oneCell' = true) : ∀ v ∈ a :: l, v.oneCell' = true := fun v hv => by
  rcases List.mem_cons.1 hv with rfl | hv
  · exact h
  · exact hl v hv
theorem sz_nil {s : Nat} : ∀ v ∈ ([] : List Value), v.cells.size = s := fun _ h => by cases h
theorem sz_cons {a : Value} {s : Nat} {l : List Value} (h : a.cells.size = s) (hl : ∀ v ∈ l, v.cells.size = s) : ∀ v ∈ a :: l, v.cells.size = s := fun v hv => by
  rcases List.mem_cons.1 hv with rfl | hv
  · exact h
  · exact hl v hv
theorem bnd {α β : Type} {o : Option α} {f : α → Option β} {b : β} (h : o.bind f = some b) : ∃ a, o = some a ∧ f a = some b := Option.bind_eq_some_iff.1 h
end
end Go.Proofs.YtekafkokpnihfaaGreat
