/- Memory for the walks: what never changes is a part 'ρ' of the cells; what the call itself writes is a list of items. Own work of this repo. -/
import Derived.Test.YtekafkokpnihfaaGreatEngA
import Derived.Laws.AppendOwnNone
namespace Go.Proofs.YtekafkokpnihfaaGreat
open Go.RowKit

abbrev Hp := Addr → Option Value
def encMap (es : Array MapEntry) (n : Nat) : Value := .tuple (#[.int .i64 n] ++ (es.map fun e => .tuple #[e.key, e.val, .int .i64 e.born]))
def encCells (cs : Array Value) (T : TypeId) (fr : Nat × Nat) : Value := .agg #[.agg cs, .int .i64 (T : Nat), .int .i64 fr.1, .int .i64 fr.2]
def seen (w : World) (a : Addr) : Option Value :=
  match a.spot with
  | none => w.cell? a
  | some _ => match w.heap[a.block]? with
    | some (.map es n) => some (encMap es n)
    | some (.cells cs T fr) => some (encCells cs T fr)
    | _ => none
theorem seen_of_block {w w' : World} {a : Addr} (h : w'.heap[a.block]? = w.heap[a.block]?) : seen w' a = seen w a := by
  unfold seen
  rw [World.cell?_of_block h, h]
theorem seen_lt {w : World} {a : Addr} {v : Value} (h : seen w a = some v) : a.block < w.heap.size := by
  unfold seen at h
  split at h
  · exact World.block_lt_of_cell? w a h
  · rcases Nat.lt_or_ge a.block w.heap.size with h' | h'
    · exact h'
    · simp [Array.getElem?_eq_none h'] at h
def Sees (ρ : Hp) (w : World) : Prop := ∀ a v, ρ a = some v → seen w a = some v
def Le (ρ ρ' : Hp) : Prop := ∀ a v, ρ a = some v → ρ' a = some v
theorem Le.rfl' (ρ : Hp) : Le ρ ρ := fun _ _ h => h
theorem Le.trans {a b c : Hp} (h : Le a b) (k : Le b c) : Le a c := fun x v hx => k x v (h x v hx)

inductive Item where
  | box (b : Nat) (T : TypeId) (cs : List Value)
  | row (v : Value) (e : TypeId) (sz n : Nat) (cs : List Value)
  | obj (b : Nat) (o : Obj)
def Item.blk : Item → Option Nat
  | .box b _ _ => some b
  | .row v _ _ _ _ => v.ownBlock
  | .obj b _ => some b
def Item.ok (w : World) : Item → Prop
  | .box b T cs => w.heap[b]? = some (.cells cs.toArray T (0, 0))
  | .row v e sz n cs => w.ownsRow 0 e sz v n cs
  | .obj b o => w.heap[b]? = some o ∧ (∀ c t f, o ≠ .cells c t f)

structure St (w0 : World) (ρ : Hp) (Γ : List Item) (w : World) : Prop where
  below : Below w0.heap.size w0 w
  sees : Sees ρ w
  ok : ∀ it ∈ Γ, it.ok w
  nodup : (Γ.filterMap Item.blk).Nodup
  base : ∀ b ∈ Γ.filterMap Item.blk, w0.heap.size ≤ b
  clean : ∀ a v, ρ a = some v → a.block ∉ Γ.filterMap Item.blk

theorem Item.ok_lt {w : World} {it : Item} (h : it.ok w) {b : Nat} (hb : it.blk = some b) : b < w.heap.size := by
  cases it with
  | box c T cs => simp only [Item.blk, Option.some.injEq] at hb; subst hb; exact (Array.getElem?_eq_some_iff.1 h).1
  | row v e sz n cs => exact (World.ownsRow.lt h b hb).2
  | obj c o => simp only [Item.blk, Option.some.injEq] at hb; subst hb; exact (Array.getElem?_eq_some_iff.1 h.1).1
theorem Item.ok_keep {w w' : World} {it : Item} (h : it.ok w) (hk : ∀ b, it.blk = some b → w'.heap[b]? = w.heap[b]?) : it.ok w' := by
  cases it with
  | box c T cs => simp only [Item.ok] at h ⊢; rw [hk c rfl]; exact h
  | row v e sz n cs =>
    refine ⟨h.1, ?_⟩
    rcases h.2 with hn | ⟨g, cap, cur, rfl, hb, hg, rest⟩
    · exact .inl hn
    · exact .inr ⟨g, cap, cur, rfl, hb, by rw [hk g rfl]; exact hg, rest⟩
  | obj c o => simp only [Item.ok] at h ⊢; rw [hk c rfl]; exact h
theorem Sees.lt {ρ : Hp} {w : World} (h : Sees ρ w) {a : Addr} {v : Value} (ha : ρ a = some v) : a.block < w.heap.size := seen_lt (h a v ha)

theorem apart_of {l : List Item} (h : (l.filterMap Item.blk).Nodup) {i : Nat} {it : Item} (hi : l[i]? = some it) {b : Nat} (hb : it.blk = some b) :
    ∀ j it', l[j]? = some it' → it'.blk = some b → j = i := by
  induction l generalizing i with
  | nil => simp at hi
  | cons x t ih =>
    intro j it' hj hb'
    cases hx : x.blk with
    | none =>
      rw [List.filterMap_cons, hx] at h
      cases i with
      | zero => simp at hi; subst hi; rw [hx] at hb; cases hb
      | succ i =>
        cases j with
        | zero => simp at hj; subst hj; rw [hx] at hb'; cases hb'
        | succ j => simp at hi hj; rw [ih h hi j it' hj hb']
    | some c =>
      rw [List.filterMap_cons, hx] at h
      simp only [List.nodup_cons, List.mem_filterMap, not_exists, not_and] at h
      cases i with
      | zero =>
        simp at hi; subst hi
        rw [hx] at hb; obtain rfl := Option.some.inj hb
        cases j with
        | zero => rfl
        | succ j => simp at hj; exact absurd hb' (h.1 it' (List.mem_of_getElem? hj))
      | succ i =>
        simp at hi
        cases j with
        | zero =>
          simp at hj; subst hj
          rw [hx] at hb'; obtain rfl := Option.some.inj hb'
          exact absurd hb (h.1 it (List.mem_of_getElem? hi))
        | succ j => simp at hj; rw [ih h.2 hi j it' hj hb']

section
variable {w0 w w' : World} {ρ ρ' : Hp} {Γ : List Item}

theorem St.refl (w : World) : St w (seen w) [] w := ⟨Below.refl _ _, fun _ _ h => h, fun _ h => by simp at h, by simp, fun _ h => by simp at h, fun _ _ _ => by simp⟩
theorem St.lt (h : St w0 ρ Γ w) {b : Nat} (hb : b ∈ Γ.filterMap Item.blk) : b < w.heap.size := by
  obtain ⟨it, hit, hbb⟩ := List.mem_filterMap.1 hb
  exact Item.ok_lt (h.ok it hit) hbb
theorem St.see (h : St w0 ρ Γ w) {b o : Nat} {v : Value} (hv : ρ ⟨b, o, none⟩ = some v) : w.cell? ⟨b, o, none⟩ = some v := h.sees _ _ hv
theorem St.drew (h : St w0 ρ Γ w) : St w0 ρ Γ { w with drawn := w.drawn + 1 } := ⟨h.below.drew, h.sees, h.ok, h.nodup, h.base, h.clean⟩
theorem St.sub {Γ' : List Item} (h : St w0 ρ Γ w) (hs : Γ'.Sublist Γ) : St w0 ρ Γ' w :=
  ⟨h.below, h.sees, fun it hi => h.ok it (hs.subset hi), (hs.filterMap _).nodup h.nodup, fun b hb => h.base b ((hs.filterMap _).subset hb), fun a v ha hb => h.clean a v ha ((hs.filterMap _).subset hb)⟩
theorem St.less (h : St w0 ρ Γ w) (hle : Le ρ' ρ) : St w0 ρ' Γ w := ⟨h.below, fun a v ha => h.sees a v (hle a v ha), h.ok, h.nodup, h.base, fun a v ha => h.clean a v (hle a v ha)⟩
theorem St.keep (h : St w0 ρ Γ w) (hb : Below w0.heap.size w w') (hk : ∀ b, b < w.heap.size → (b ∈ Γ.filterMap Item.blk ∨ ∃ a v, ρ a = some v ∧ a.block = b) → w'.heap[b]? = w.heap[b]?) : St w0 ρ Γ w' := by
  refine ⟨h.below.trans hb, fun a v ha => ?_, fun it hi => ?_, h.nodup, h.base, h.clean⟩
  · rw [seen_of_block (hk a.block (h.sees.lt ha) (.inr ⟨a, v, ha, rfl⟩))]; exact h.sees a v ha
  · exact Item.ok_keep (h.ok it hi) fun b hb => hk b (Item.ok_lt (h.ok it hi) hb) (.inl (List.mem_filterMap.2 ⟨it, hi, hb⟩))

theorem St.push (h : St w0 ρ Γ w) (o : Obj) (it : Item) (hb : it.blk = some w.heap.size) (hok : it.ok (w.alloc o)) : St w0 ρ (it :: Γ) (w.alloc o) := by
  have hsz := h.below.size
  have h1 : St w0 ρ Γ (w.alloc o) := h.keep ((Below.refl _ _).alloc hsz o) (fun b hlt _ => Below.heap_alloc w o b hlt)
  have hfresh : w.heap.size ∉ Γ.filterMap Item.blk := fun hm => Nat.lt_irrefl _ (h.lt hm)
  refine ⟨h1.below, h1.sees, ?_, ?_, ?_, ?_⟩
  · intro i hi
    rcases List.mem_cons.1 hi with rfl | hi
    · exact hok
    · exact h1.ok i hi
  · rw [List.filterMap_cons, hb]
    exact List.nodup_cons.2 ⟨hfresh, h.nodup⟩
  · intro b hm
    rw [List.filterMap_cons, hb] at hm
    rcases List.mem_cons.1 hm with rfl | hm
    · exact hsz
    · exact h.base b hm
  · intro a v ha hm
    rw [List.filterMap_cons, hb] at hm
    rcases List.mem_cons.1 hm with hm | hm
    · have := h.sees.lt ha; omega
    · exact h.clean a v ha hm
theorem St.box (h : St w0 ρ Γ w) (T : TypeId) (cs : List Value) : St w0 ρ (.box w.heap.size T cs :: Γ) (w.alloc (.cells cs.toArray T)) :=
  h.push _ _ rfl (heap_alloc_new w _)
theorem St.rowNil (h : St w0 ρ Γ w) (e : TypeId) (sz : Nat) : St w0 ρ (.row (.slice none 0 0) e sz 0 [] :: Γ) w :=
  ⟨h.below, h.sees, fun i hi => by
    rcases List.mem_cons.1 hi with rfl | hi
    · exact World.ownsRow_nil w 0 e sz
    · exact h.ok i hi, h.nodup, h.base, h.clean⟩
theorem St.rowFull (h : St w0 ρ Γ w) (T : TypeId) (n sz : Nat) (cs : List Value) (hl : cs.length = n * sz) (hm : n ≤ maxLen) :
    St w0 ρ (.row (.slice (some ⟨w.heap.size, 0, none⟩) n n) T sz n cs :: Γ) (w.alloc (.cells cs.toArray T)) :=
  h.push _ _ rfl ⟨hl, .inr ⟨w.heap.size, n, cs.toArray, rfl, Nat.zero_le _, heap_alloc_new w _, Nat.le_refl _, hm, by simp [hl], by simp [← hl]⟩⟩

theorem St.turn (h : St w0 ρ Γ w) {i : Nat} {it it' : Item} (hi : Γ[i]? = some it) (hb : Below w0.heap.size w w') (hk : ∀ b, b < w.heap.size → it.blk ≠ some b → w'.heap[b]? = w.heap[b]?)
    (hok : it'.ok w') (hblk : it'.blk = it.blk ∨ ∀ b, it'.blk = some b → w.heap.size ≤ b) : St w0 ρ (Γ.set i it') w' := by
  have hap := fun {b} (hbb : it.blk = some b) => apart_of h.nodup hi hbb
  have hsz := h.below.size
  have hmem : it ∈ Γ := List.mem_of_getElem? hi
  have hlt : i < Γ.length := (List.getElem?_eq_some_iff.1 hi).1
  -- what the new list's blocks are
  have hin : ∀ b, b ∈ (Γ.set i it').filterMap Item.blk → b ∈ Γ.filterMap Item.blk ∨ (it'.blk = some b ∧ w.heap.size ≤ b) := by
    intro b hm
    obtain ⟨x, hx, hxb⟩ := List.mem_filterMap.1 hm
    obtain ⟨j, hj⟩ := List.getElem?_of_mem hx
    rw [List.getElem?_set] at hj
    split at hj
    · simp at hj; subst hj
      · rcases hblk with he | he
        · exact .inl (List.mem_filterMap.2 ⟨it, hmem, by rw [← he]; exact hxb⟩)
        · exact .inr ⟨hxb, he b hxb⟩
    · exact .inl (List.mem_filterMap.2 ⟨x, List.mem_of_getElem? hj, hxb⟩)
  refine ⟨h.below.trans hb, ?_, ?_, ?_, ?_, ?_⟩
  · intro a v ha
    have hlt' := h.sees.lt ha
    rw [seen_of_block (hk a.block hlt' (fun e => h.clean a v ha (List.mem_filterMap.2 ⟨it, hmem, e⟩)))]
    exact h.sees a v ha
  · intro x hx
    obtain ⟨j, hj⟩ := List.getElem?_of_mem hx
    rw [List.getElem?_set] at hj
    split at hj
    · simp at hj; subst hj; exact hok
    · rename_i hne
      have hx0 := h.ok x (List.mem_of_getElem? hj)
      refine Item.ok_keep hx0 fun b hbb => hk b (Item.ok_lt hx0 hbb) (fun e => hne (hap e j x hj hbb).symm)
  · -- no two have one block
    have key : ∀ (l : List Item) (i : Nat), l[i]? = some it → (l.filterMap Item.blk).Nodup → (∀ b ∈ l.filterMap Item.blk, b < w.heap.size) → ((l.set i it').filterMap Item.blk).Nodup := by
      intro l
      induction l with
      | nil => intro i hi; simp at hi
      | cons x t ih =>
        intro i hi hn hlt
        cases i with
        | zero =>
          simp at hi; subst hi
          simp only [List.set_cons_zero]
          cases hx' : it'.blk with
          | none =>
            rw [List.filterMap_cons, hx']
            cases hx : x.blk with
            | none => rw [List.filterMap_cons, hx] at hn; exact hn
            | some c => rw [List.filterMap_cons, hx] at hn; exact (List.nodup_cons.1 hn).2
          | some c =>
            rw [List.filterMap_cons, hx']
            refine List.nodup_cons.2 ⟨?_, ?_⟩
            · rcases hblk with he | he
              · rw [List.filterMap_cons, ← he, hx'] at hn; exact (List.nodup_cons.1 hn).1
              · intro hm
                have := hlt c (by
                  cases hx : x.blk with
                  | none => rw [List.filterMap_cons, hx]; exact hm
                  | some _ => rw [List.filterMap_cons, hx]; exact List.mem_cons_of_mem _ hm)
                have := he c hx'
                omega
            · cases hx : x.blk with
              | none => rw [List.filterMap_cons, hx] at hn; exact hn
              | some d => rw [List.filterMap_cons, hx] at hn; exact (List.nodup_cons.1 hn).2
        | succ i =>
          simp at hi
          simp only [List.set_cons_succ]
          cases hx : x.blk with
          | none =>
            rw [List.filterMap_cons, hx] at hn hlt ⊢
            exact ih i hi hn hlt
          | some c =>
            rw [List.filterMap_cons, hx] at hn hlt ⊢
            obtain ⟨h1, h2⟩ := List.nodup_cons.1 hn
            refine List.nodup_cons.2 ⟨?_, ih i hi h2 (fun b hb => hlt b (List.mem_cons_of_mem _ hb))⟩
            intro hm
            obtain ⟨y, hy, hyb⟩ := List.mem_filterMap.1 hm
            rcases List.mem_or_eq_of_mem_set hy with hy | rfl
            · exact h1 (List.mem_filterMap.2 ⟨y, hy, hyb⟩)
            · rcases hblk with he | he
              · exact h1 (List.mem_filterMap.2 ⟨it, List.mem_of_getElem? hi, by rw [← he]; exact hyb⟩)
              · have := he c hyb
                have := hlt c (List.mem_cons_self ..)
                omega
    exact key Γ i hi h.nodup (fun b hb => h.lt hb)
  · intro b hm
    rcases hin b hm with hm | ⟨_, hm⟩
    · exact h.base b hm
    · omega
  · intro a v ha hm
    rcases hin _ hm with hm | ⟨_, hm⟩
    · exact h.clean a v ha hm
    · have := h.sees.lt ha; omega

theorem St.boxCell (h : St w0 ρ Γ w) {i b T k : Nat} {cs : List Value} {v : Value} (hi : Γ[i]? = some (.box b T cs)) (hk : cs[k]? = some v) : w.cell? ⟨b, k, none⟩ = some v := by
  have := h.ok _ (List.mem_of_getElem? hi)
  simp only [Item.ok] at this
  rw [cell_of_row w b k _ _ _ this]
  simpa using hk
theorem St.boxFree (h : St w0 ρ Γ w) {i b T k : Nat} {cs : List Value} (hi : Γ[i]? = some (.box b T cs)) : w.frozen? ⟨b, k, none⟩ = false := by
  have := h.ok _ (List.mem_of_getElem? hi)
  simp only [Item.ok] at this
  simp [World.frozen?, this]
theorem St.boxSet (h : St w0 ρ Γ w) {i b T k : Nat} {cs : List Value} (hi : Γ[i]? = some (.box b T cs)) (v : Value) : St w0 ρ (Γ.set i (.box b T (cs.set k v))) (w.setCell ⟨b, k, none⟩ v) := by
  have hok := h.ok _ (List.mem_of_getElem? hi)
  simp only [Item.ok] at hok
  have hbase := h.base b (List.mem_filterMap.2 ⟨_, List.mem_of_getElem? hi, rfl⟩)
  refine h.turn hi ((Below.refl _ _).setCell (p := ⟨b, k, none⟩) hbase v) (fun c _ hc => Below.heap_setCell _ _ _ _ (fun e => hc (by rw [e]; rfl))) ?_ (.inl rfl)
  simp only [Item.ok, World.setCell, Array.getElem?_modify, hok]
  simp
structure Src (w : World) (sz : Nat) (v : Value) (m : Nat) (cs : List Value) : Prop where
  shape : ∃ a c, v = .slice a m c ∧ (a = none → m = 0) ∧ ∀ ad, a = some ad → ∀ j u, cs[j]? = some u → w.cell? (ad.add j) = some u
  len : cs.length = m * sz
  one : ∀ u ∈ cs, u.oneCell' = true
end

structure ElemOf (P : Program) (t e sz bytes : Nat) : Prop where
  under : P.underlying t = some (.slice e)
  info : ∃ i z, P.info? e = some i ∧ i.zero = some z ∧ i.size = sz ∧ i.bytes = bytes ∧ z.cells.size = sz
  pos : 0 < sz
  small : bytes ≤ 65536
theorem elemOf_of {P : Program} {t e sz bytes : Nat} (h1 : P.underlying t = some (.slice e)) (h2 : (P.info? e).map (fun i => (i.zero.map (·.cells.size), i.size, i.bytes)) = some (some sz, sz, bytes)) (h3 : Nat.blt 0 sz = true) (h4 : Nat.ble bytes 65536 = true) : ElemOf P t e sz bytes := by
  obtain ⟨i, hi, hz⟩ := Option.map_eq_some_iff.1 h2
  simp only [Prod.mk.injEq] at hz
  obtain ⟨hz1, hz2, hz3⟩ := hz
  obtain ⟨z, hz, hzs⟩ := Option.map_eq_some_iff.1 hz1
  exact ⟨h1, ⟨i, z, hi, hz, hz2, hz3, hzs⟩, Nat.le_of_ble_eq_true h3, Nat.le_of_ble_eq_true h4⟩

def most : Nat := 2147483648

theorem run_append {P : Program} {w0 w : World} {ρ : Hp} {Γ : List Item} (hs : St w0 ρ Γ w) {t e sz bytes ty : Nat} (he : ElemOf P t e sz bytes) {i n m : Nat} {v x : Value} {cs news : List Value}
    (hi : Γ[i]? = some (.row v e sz n cs)) (hx : Src w sz x m news) (hb : n + m ≤ most) :
    ∃ v' w', (Builtin.append_ #[t, t] ty #[v, x]).run P w = .ok v' w' ∧ St w0 ρ (Γ.set i (.row v' e sz (n + m) (cs ++ news))) w' := by
  obtain ⟨j, z, hj, hz, hsz, hby, hzs⟩ := he.info
  obtain ⟨a, c, rfl, hnone, hcell⟩ := hx.shape
  have hown := hs.ok _ (List.mem_of_getElem? hi)
  simp only [Item.ok] at hown
  have hm : n + m ≤ maxLen := by unfold most at hb; simp only [maxLen]; omega
  have h63 : n + m ≤ 9223372036854775807 := by unfold most at hb; omega
  have hbytes : (n + m) * bytes ≤ 140737488355328 := by
    have := Nat.mul_le_mul hb he.small
    unfold most at this; omega
  have hbase : ∀ b, v.ownBlock = some b → w0.heap.size ≤ b := fun b hv => hs.base b (List.mem_filterMap.2 ⟨_, List.mem_of_getElem? hi, hv⟩)
  cases a with
  | none =>
    obtain rfl := hnone rfl
    have hn : news = [] := List.eq_nil_of_length_eq_zero (by simpa using hx.len)
    subst hn
    have hc : c = 0 ∨ c ≠ 0 := by omega
    -- nothing is appended
    refine ⟨v, w, ?_, ?_⟩
    · rcases hown.2 with ⟨rfl, rfl⟩ | ⟨g, cap, cur, rfl, _, hg, hnc, _, hcs, _⟩
      · simp [Builtin.append_, run_underlying he.under, sizeOf, typeInfo, hj, Builtin.lenOf, Builtin.firstCells]
      · simp [Builtin.append_, run_underlying he.under, sizeOf, typeInfo, hj, Builtin.lenOf, Builtin.firstCells, hnc, storeCells]
    · simp only [Nat.add_zero, List.append_nil]
      exact hs.turn hi (Below.refl _ _) (fun _ _ _ => rfl) hown (.inl rfl)
  | some ad =>
    obtain ⟨v', w', hr, ho, hg, hnn⟩ := run_append_own (P := P) w 0 t ty e j z sz bytes he.under hj hz hsz hby hzs he.pos v n cs hown ad m c news hx.len (hcell ad rfl) hx.one hm hbytes (Nat.zero_le _)
    refine ⟨v', w', hr, ?_⟩
    have hblk : (Item.row v' e sz (n + m) (cs ++ news)).blk = (Item.row v e sz n cs).blk ∨ ∀ b, (Item.row v' e sz (n + m) (cs ++ news)).blk = some b → w.heap.size ≤ b := by
      -- the row stays in its block, or lies in a new one
      by_cases hlt : ∃ b, v'.ownBlock = some b ∧ b < w.heap.size
      · obtain ⟨b, hb', hlt⟩ := hlt
        left
        simp only [Item.blk]
        rw [hb']
        -- an elder block that holds the row is the elder row's
        rcases hown.2 with ⟨rfl, rfl⟩ | ⟨g, cap, cur, rfl, _, hgg, hnc, hcm, hcs, htk⟩
        · by_cases hm0 : m = 0
          · subst hm0
            have hnil : news = [] := List.eq_nil_of_length_eq_zero (by simpa using hx.len)
            subst hnil
            have : v' = .slice none 0 0 := hnn.2 ⟨rfl, rfl⟩
            subst this
            cases hb'
          · have hr2 := run_append_nil (P := P) w t ty e j z he.under hj hz ad m c news (by rw [hsz]; exact hx.len) (hcell ad rfl) (by omega) (by omega) (by rw [hby]; have hb := hbytes; simp only [Nat.zero_add] at hb; omega)
            rw [hr2] at hr
            simp only [Result.ok.injEq] at hr
            obtain ⟨rfl, rfl⟩ := hr
            simp only [Value.ownBlock, Option.some.injEq] at hb'
            omega
        · by_cases hroom : n + m ≤ cap
          · have hr2 := run_append_room (P := P) w t ty e j he.under hj g n cap cur hgg ad m c news (by rw [hsz]; exact hx.len) (hcell ad rfl) hx.one hroom (by rw [hx.len, hcs, hsz, ← Nat.add_mul]; exact Nat.mul_le_mul_right _ hroom)
            rw [hr2] at hr
            simp only [Result.ok.injEq] at hr
            obtain ⟨rfl, rfl⟩ := hr
            simpa [Value.ownBlock] using hb'.symm
          · have holds : ∀ j u, cs[j]? = some u → w.cell? ((⟨g, 0, none⟩ : Addr).add j) = some u := hown.cells (g := g) rfl
            have hr2 := run_append_grow (P := P) w t ty e j z he.under hj hz ⟨g, 0, none⟩ n cap cs (by rw [hsz]; exact hown.1) holds ad m c news (by rw [hsz]; exact hx.len) (hcell ad rfl) (by omega) (by omega) (by rw [hby]; exact growslice_fits (by omega) hbytes)
            rw [hr2] at hr
            simp only [Result.ok.injEq] at hr
            obtain ⟨rfl, rfl⟩ := hr
            simp only [Value.ownBlock, Option.some.injEq] at hb'
            omega
      · right
        intro b hb'
        simp only [Item.blk] at hb'
        rcases Nat.lt_or_ge b w.heap.size with h | h
        · exact absurd ⟨b, hb', h⟩ hlt
        · exact h
    refine hs.turn hi ((Below.refl _ _).grown hg hs.below.size hbase) (fun b hlt hne => hg.block b hlt (fun e => hne (by simp only [Item.blk]; exact e.symm))) ho hblk
end Go.Proofs.YtekafkokpnihfaaGreat
