/- Maps: an own map is an item of the state; what it holds is a list of keys and values, in the order in which they came. Own work of this repo. -/
import Derived.Test.YtekafkokpnihfaaGreatEngG
import Derived.MapKept
import Derived.Lib.ConvBytes
namespace Go.Proofs.YtekafkokpnihfaaGreat
open Go.RowKit Go.MapKept

section
variable {κ : Type} [DecidableEq κ]
def mget {ν : Type} : List (κ × ν) → κ → Option ν
  | [], _ => none
  | p :: l, x => if x = p.1 then some p.2 else mget l x
def mpos : List (κ × Value) → κ → Nat → Option (Nat × Value)
  | [], _, _ => none
  | p :: l, x, i => if x = p.1 then some (i, p.2) else mpos l x (i + 1)
def mput {ν : Type} : List (κ × ν) → κ → ν → List (κ × ν)
  | [], x, v => [(x, v)]
  | p :: l, x, v => if x = p.1 then (x, v) :: l else p :: mput l x v
def ents (enc : κ → Value) : List (κ × Value) → Nat → List MapEntry
  | [], _ => []
  | p :: l, i => ⟨enc p.1, p.2, i⟩ :: ents enc l (i + 1)
theorem mpos_get (l : List (κ × Value)) (x : κ) (i : Nat) : (mpos l x i).map (·.2) = mget l x := by
  induction l generalizing i with
  | nil => rfl
  | cons p l ih => simp only [mpos, mget]; split <;> simp [ih]
omit [DecidableEq κ] in
omit [DecidableEq κ] in
theorem ents_append (enc : κ → Value) (l : List (κ × Value)) (x : κ) (v : Value) (i : Nat) : ents enc (l ++ [(x, v)]) i = ents enc l i ++ [⟨enc x, v, i + l.length⟩] := by
  induction l generalizing i with
  | nil => simp [ents]
  | cons p l ih => simp [ents, ih]; omega
theorem mput_new {l : List (κ × Value)} {x : κ} (v : Value) {i : Nat} (h : mpos l x i = none) : mput l x v = l ++ [(x, v)] := by
  induction l generalizing i with
  | nil => rfl
  | cons p l ih =>
    simp only [mpos] at h
    split at h
    · cases h
    · rename_i hn; simp only [mput, if_neg hn, ih h, List.cons_append]
theorem mput_old {enc : κ → Value} {l : List (κ × Value)} {x : κ} (v : Value) {i j b : Nat} {u : Value} (h : mpos l x i = some (j, u)) :
    i ≤ j ∧ ((ents enc l b)[j - i]?).map (·.key) = some (enc x) ∧ (ents enc l b).modify (j - i) (fun e => { e with key := enc x, val := v }) = ents enc (mput l x v) b ∧ (mput l x v).length = l.length := by
  induction l generalizing i b with
  | nil => cases h
  | cons p l ih =>
    simp only [mpos] at h
    split at h
    · rename_i hx
      simp only [Option.some.injEq, Prod.mk.injEq] at h
      obtain ⟨rfl, rfl⟩ := h
      simp [ents, mput, hx]
    · rename_i hn
      obtain ⟨h1, h2, h3, h4⟩ := ih (b := b + 1) h
      refine ⟨by omega, ?_, ?_, ?_⟩
      · rw [show j - i = (j - (i + 1)) + 1 by omega]; simpa [ents] using h2
      · rw [show j - i = (j - (i + 1)) + 1 by omega]; simp only [ents, mput, if_neg hn, List.modify_succ_cons, h3]
      · simp [mput, if_neg hn, h4]
end

structure KeyK (P : Program) (t : TypeId) (κ : Type) [DecidableEq κ] where
  enc : κ → Value
  dom : κ → Prop
  fine : ∀ (e : Bool) (x : κ) (w : World), dom x → (Instr.checkKey e 10000 t (enc x)).run P w = .ok () w
  find : ∀ (l : List (κ × Value)) (x : κ) (w : World), dom x → (∀ p ∈ l, dom p.1) → (Instr.findKey t (enc x) (ents enc l 0)).run P w = .ok (mpos l x 0) w
  same : ∀ x, dom x → Instr.sameBits 10000 (enc x) (enc x) = true

theorem find_ask {P : Program} {t : TypeId} {κ : Type} [DecidableEq κ] {enc : κ → Value} {dom : κ → Prop} (heq : ∀ (x y : κ) (w : World), dom x → dom y → (Op.equal t (enc x) (enc y)).run P w = .ok (decide (x = y)) w) :
    ∀ (l : List (κ × Value)) (x : κ) (w : World) (i b : Nat), dom x → (∀ p ∈ l, dom p.1) → (Instr.findAsking t (enc x) (ents enc l b) i).run P w = .ok (mpos l x i) w := by
  intro l
  induction l with
  | nil => intro x w i b _ _; simp [ents, Instr.findAsking, mpos]
  | cons p l ih =>
    intro x w i b hx hl
    simp only [ents, Instr.findAsking, Sem.run_bind, heq x p.1 w hx (hl p (List.mem_cons_self ..)), Result.andThen, mpos]
    by_cases h : x = p.1
    · simp [h]
    · simp only [h, decide_false, Bool.false_eq_true, if_false]
      exact ih x w (i + 1) (b + 1) hx (fun q hq => hl q (List.mem_cons_of_mem _ hq))

theorem beq_bytes (a b : ByteArray) : (a == b) = decide (a = b) := by
  by_cases e : a = b
  · subst e; cases a; rename_i d; show (d == d) = _; simp
  · cases a; cases b; rename_i c d; show (c == d) = _; simp at e; simp [e]

def KeyK.int {P : Program} {t : TypeId} {k : IntKind} (hu : P.underlying t = some (.int k)) : KeyK P t Int where
  enc x := .int k x
  dom _ := True
  fine e x w _ := run_checkKey hu (by simp [IsKey]) e 9999
  find l x w _ _ := by
    have key : ∀ (l : List (Int × Value)) (i b : Nat), Instr.findNow (.int k) (.int k x) (ents (fun x => .int k x) l b) i = some (mpos l x i) := by
      intro l
      induction l with
      | nil => intro i b; rfl
      | cons p l ih =>
        intro i b
        simp only [ents, Instr.findNow, Instr.sameNow, if_true, mpos]
        by_cases h : x = p.1
        · simp [h]
        · have : (x == p.1) = false := by simpa using h
          simp [this, h, ih]
    simp [Instr.findKey, run_underlying hu, key]
  same x _ := by simp [Instr.sameBits]
def KeyK.str {P : Program} {t : TypeId} (hu : P.underlying t = some .string) : KeyK P t ByteArray where
  enc x := .string x
  dom _ := True
  fine e x w _ := run_checkKey hu (by simp [IsKey]) e 9999
  find l x w _ _ := by
    have key : ∀ (l : List (ByteArray × Value)) (i b : Nat), Instr.findNow .string (.string x) (ents (fun x => .string x) l b) i = some (mpos l x i) := by
      intro l
      induction l with
      | nil => intro i b; rfl
      | cons p l ih =>
        intro i b
        simp only [ents, Instr.findNow, Instr.sameNow, mpos, beq_bytes]
        by_cases h : x = p.1
        · simp [h]
        · simp [h, ih]
    simp [Instr.findKey, run_underlying hu, key]
  same x _ := by simp [Instr.sameBits, beq_bytes]

def mapObj {κ : Type} (enc : κ → Value) [DecidableEq κ] (l : List (κ × Value)) : Obj := .map (ents enc l 0).toArray l.length
theorem mapObj_no {κ : Type} [DecidableEq κ] (enc : κ → Value) (l : List (κ × Value)) : ∀ c t f, mapObj enc l ≠ .cells c t f := by intro c t f h; cases h

section
variable {P : Program} {n : Nat} {N : Nxt} {L : Loc} {w w0 : World} {ρ : Hp} {Γ : List Item} {ops : Array Oper} {rest : List Oper} {d t : Nat} {pos : String} {aft : Array Edge}
variable {κ : Type} [DecidableEq κ]
theorem O_makeMap {mt : TypeId} (enc : κ → Value) (hs : St w0 ρ Γ w) (hd : Nat.blt d n = true)
    (k : ∀ b w', St w0 ρ (.obj b (mapObj enc []) :: Γ) w' → O P n ops rest N ((d, .map (some b)) :: L) w') : O P n ops (⟨some d, .makeMap mt none, t, pos, aft, none⟩ :: rest) N L w := by
  refine O_op hd fun a ha => ⟨_, _, ?_, k w.heap.size (w.alloc (mapObj enc [])) (hs.push _ _ rfl ⟨heap_alloc_new w _, mapObj_no enc []⟩)⟩
  simp only [execOp, Instr.makeMap, newObj, mapObj, ents]
  rfl
theorem St.putObj {b i : Nat} {o o' : Obj} (hs : St w0 ρ Γ w) (hi : Γ[i]? = some (.obj b o)) (ho : ∀ c t f, o' ≠ .cells c t f) : St w0 ρ (Γ.set i (.obj b o')) { w with heap := w.heap.setIfInBounds b o' } := by
  have hb : w.heap[b]? = some o := (hs.ok _ (List.mem_of_getElem? hi)).1
  have hlt : b < w.heap.size := (Array.getElem?_eq_some_iff.1 hb).1
  have hbase : w0.heap.size ≤ b := hs.base b (List.mem_filterMap.2 ⟨_, List.mem_of_getElem? hi, rfl⟩)
  have hne : ∀ c, c ≠ b → (w.heap.setIfInBounds b o')[c]? = w.heap[c]? := fun c hc => by
    rw [Array.getElem?_setIfInBounds, if_neg (Ne.symm hc)]
  refine hs.turn hi ⟨rfl, rfl, rfl, by simp, fun k hk => hne k (by omega)⟩ (fun c hc hn => hne c (fun h => hn (by rw [h]; rfl))) ⟨?_, ho⟩ (.inl rfl)
  simp [hlt]
theorem O_mapUpdate {mt kt e : TypeId} {b i : Nat} {l : List (κ × Value)} {m y z : Operand} (hu : P.underlying mt = some (.map kt e)) (K : KeyK P kt κ) {x : κ} {v : Value} (hx : K.dom x) (hl : ∀ p ∈ l, K.dom p.1) (hs : St w0 ρ Γ w) (hi : Γ[i]? = some (.obj b (mapObj K.enc l)))
    (hm : ev L m = some (.map (some b))) (hy : ev L y = some (K.enc x)) (hz : ev L z = some v)
    (k : ∀ w', St w0 ρ (Γ.set i (.obj b (mapObj K.enc (mput l x v)))) w' → O P n ops rest N L w') : O P n ops (⟨none, .mapUpdate mt m y z, t, pos, aft, none⟩ :: rest) N L w := by
  have hb : w.heap[b]? = some (.map (ents K.enc l 0).toArray l.length) := (hs.ok _ (List.mem_of_getElem? hi)).1
  refine O_skip (w' := { w with heap := w.heap.setIfInBounds b (mapObj K.enc (mput l x v)) }) (fun c hcs => ?_) (k _ (hs.putObj hi (mapObj_no _ _)))
  simp only [execOp, hcs.ev hm, hcs.ev hy, hcs.ev hz, Instr.mapUpdate, Sem.run_bind, run_underlying hu, Result.andThen, MapKept.run_getObj_map hb, K.fine false x w hx, K.find l x w hx hl]
  cases hp : mpos l x 0 with
  | none =>
    simp only [Sem.run_bind, run_setObj_map _ hb, Result.andThen]
    rw [mput_new v hp]
    simp [mapObj, ents_append]
  | some q =>
    obtain ⟨j, u⟩ := q
    obtain ⟨_, h2, h3, h4⟩ := mput_old (enc := K.enc) (b := 0) v hp
    rw [Nat.sub_zero] at h2 h3
    have hk : (((ents K.enc l 0).toArray[j]?).map (·.key)).getD (K.enc x) = K.enc x := by simp [h2]
    simp only [hk, Instr.keyThatStays, K.same x hx, if_true, Sem.run_bind, Sem.run_pure, Result.andThen, run_setObj_map _ hb]
    simp [mapObj, ← h3, h4]
theorem Y_lookup2 {mt kt e : TypeId} {b i : Nat} {l : List (κ × Value)} {m y : Operand} {zv : Value} (hu : P.underlying mt = some (.map kt e)) (K : KeyK P kt κ) {x : κ} (hx : K.dom x) (hl : ∀ p ∈ l, K.dom p.1) (hzv : ∀ w, (zeroValue e).run P w = .ok zv w) (hs : St w0 ρ Γ w) (hi : Γ[i]? = some (.obj b (mapObj K.enc l)))
    (hm : ev L m = some (.map (some b))) (hy : ev L y = some (K.enc x)) :
    Y P n L w (.lookup mt m y true) t (.tuple #[(mget l x).getD zv, .bool (mget l x).isSome]) := by
  intro a ha _ _ _ _
  have hb : w.heap[b]? = some (.map (ents K.enc l 0).toArray l.length) := (hs.ok _ (List.mem_of_getElem? hi)).1
  have hg := mpos_get l x 0
  simp only [execOp, ha.ev hm, ha.ev hy, Instr.lookup, bind_pure_comp, Sem.run_map, Sem.run_bind, run_underlying hu, Result.andThen, MapKept.run_getObj_map hb, Sem.run_pure, K.fine _ x w hx, K.find l x w hx hl]
  cases hp : mpos l x 0 with
  | none => rw [hp] at hg; simp [← hg, hzv]
  | some q => rw [hp] at hg; simp [← hg]
theorem Y_lookup1 {mt kt e : TypeId} {b i : Nat} {l : List (κ × Value)} {m y : Operand} {zv : Value} (hu : P.underlying mt = some (.map kt e)) (K : KeyK P kt κ) {x : κ} (hx : K.dom x) (hl : ∀ p ∈ l, K.dom p.1) (hzv : ∀ w, (zeroValue e).run P w = .ok zv w) (hs : St w0 ρ Γ w) (hi : Γ[i]? = some (.obj b (mapObj K.enc l)))
    (hm : ev L m = some (.map (some b))) (hy : ev L y = some (K.enc x)) :
    Y P n L w (.lookup mt m y false) t ((mget l x).getD zv) := by
  intro a ha _ _ _ _
  have hb : w.heap[b]? = some (.map (ents K.enc l 0).toArray l.length) := (hs.ok _ (List.mem_of_getElem? hi)).1
  have hg := mpos_get l x 0
  simp only [execOp, ha.ev hm, ha.ev hy, Instr.lookup, bind_pure_comp, Sem.run_map, Sem.run_bind, run_underlying hu, Result.andThen, MapKept.run_getObj_map hb, Sem.run_pure, K.fine _ x w hx, K.find l x w hx hl]
  cases hp : mpos l x 0 with
  | none => rw [hp] at hg; simp [← hg, hzv]
  | some q => rw [hp] at hg; simp [← hg]
end
def vs {κ ν : Type} (e : ν → Value) (m : List (κ × ν)) : List (κ × Value) := m.map fun p => (p.1, e p.2)
theorem vs_get {κ ν : Type} [DecidableEq κ] (e : ν → Value) (m : List (κ × ν)) (x : κ) : mget (vs e m) x = (mget m x).map e := by
  induction m with
  | nil => rfl
  | cons p m ih =>
    show (if x = p.1 then some (e p.2) else mget (vs e m) x) = _
    simp only [mget]
    split <;> simp [ih]
theorem vs_put {κ ν : Type} [DecidableEq κ] (e : ν → Value) (m : List (κ × ν)) (x : κ) (v : ν) : mput (vs e m) x (e v) = vs e (mput m x v) := by
  induction m with
  | nil => rfl
  | cons p m ih =>
    show (if x = p.1 then (x, e v) :: vs e m else (p.1, e p.2) :: mput (vs e m) x (e v)) = _
    simp only [mput]
    split <;> simp [vs, ih] <;> exact ih
theorem St.perm {w0 w : World} {ρ : Hp} {Γ Γ' : List Item} (h : St w0 ρ Γ w) (hp : Γ'.Perm Γ) : St w0 ρ Γ' w :=
  ⟨h.below, h.sees, fun it hi => h.ok it (hp.subset hi), (hp.filterMap _).symm.nodup h.nodup, fun b hb => h.base b ((hp.filterMap _).subset hb), fun a v ha hb => h.clean a v ha ((hp.filterMap _).subset hb)⟩
theorem St.front {w0 w : World} {ρ : Hp} {Γ : List Item} (i : Nat) {it : Item} (h : St w0 ρ Γ w) (hi : Γ[i]? = some it) : St w0 ρ (it :: Γ.eraseIdx i) w := by
  obtain ⟨hlt, rfl⟩ := List.getElem?_eq_some_iff.1 hi
  refine h.perm ?_
  clear h hi
  induction Γ generalizing i with
  | nil => simp at hlt
  | cons a l ih =>
    cases i with
    | zero => exact .refl _
    | succ i => exact (List.Perm.swap _ _ _).trans ((ih i (by simpa using hlt)).cons _)
theorem St.sink {w0 w : World} {ρ : Hp} {Γ : List Item} (k : Nat) {it : Item} (h : St w0 ρ (it :: Γ) w) : St w0 ρ (Γ.insertIdx k it) w := by
  by_cases hk : k ≤ Γ.length
  · exact h.perm (List.perm_insertIdx it Γ hk)
  · rw [List.insertIdx_of_length_lt (by omega)]
    exact h.sub (.cons _ (List.Sublist.refl _))

section
variable {P : Program} {n : Nat} {N : Nxt} {L : Loc} {w w0 : World} {ρ : Hp} {Γ : List Item} {ops : Array Oper} {rest : List Oper} {d t : Nat} {pos : String} {aft : Array Edge}
variable {κ ν : Type} [DecidableEq κ]
omit [DecidableEq κ] in
theorem vs_dom {E : ν → Value} {m : List (κ × ν)} {D : κ → Prop} (h : ∀ p ∈ m, D p.1) : ∀ p ∈ vs E m, D p.1 := by
  intro p hp
  obtain ⟨q, hq, rfl⟩ := List.mem_map.1 hp
  exact h q hq
theorem O_mapNew {mt : TypeId} (enc : κ → Value) (E : ν → Value) (hs : St w0 ρ Γ w) (hd : Nat.blt d n = true)
    (k : ∀ b w', St w0 ρ (.obj b (mapObj enc (vs E [])) :: Γ) w' → O P n ops rest N ((d, .map (some b)) :: L) w') : O P n ops (⟨some d, .makeMap mt none, t, pos, aft, none⟩ :: rest) N L w :=
  O_makeMap enc hs hd k
theorem O_mapPut {mt kt e : TypeId} {b i : Nat} {m : List (κ × ν)} {x : κ} {v : ν} {E : ν → Value} {o y z : Operand} (hu : P.underlying mt = some (.map kt e)) (K : KeyK P kt κ) (hx : K.dom x) (hl : ∀ p ∈ m, K.dom p.1) (hs : St w0 ρ Γ w) (hi : Γ[i]? = some (.obj b (mapObj K.enc (vs E m))))
    (hm : ev L o = some (.map (some b))) (hy : ev L y = some (K.enc x)) (hz : ev L z = some (E v))
    (k : ∀ w', St w0 ρ (Γ.set i (.obj b (mapObj K.enc (vs E (mput m x v))))) w' → O P n ops rest N L w') : O P n ops (⟨none, .mapUpdate mt o y z, t, pos, aft, none⟩ :: rest) N L w :=
  O_mapUpdate hu K hx (vs_dom hl) hs hi hm hy hz (by rw [vs_put]; exact k)
theorem Y_mapGet2 {mt kt e : TypeId} {b i : Nat} {m : List (κ × ν)} {x : κ} {E : ν → Value} {z0 : ν} {o y : Operand} (hu : P.underlying mt = some (.map kt e)) (K : KeyK P kt κ) (hx : K.dom x) (hl : ∀ p ∈ m, K.dom p.1) (hzv : ∀ w, (zeroValue e).run P w = .ok (E z0) w) (hs : St w0 ρ Γ w) (hi : Γ[i]? = some (.obj b (mapObj K.enc (vs E m))))
    (hm : ev L o = some (.map (some b))) (hy : ev L y = some (K.enc x)) : Y P n L w (.lookup mt o y true) t (.tuple #[E ((mget m x).getD z0), .bool (mget m x).isSome]) := by
  have := Y_lookup2 (t := t) (n := n) hu K hx (vs_dom hl) hzv hs hi hm hy
  rw [vs_get] at this
  cases hg : mget m x <;> rw [hg] at this <;> simpa using this
theorem Y_mapGet1 {mt kt e : TypeId} {b i : Nat} {m : List (κ × ν)} {x : κ} {E : ν → Value} {z0 : ν} {o y : Operand} (hu : P.underlying mt = some (.map kt e)) (K : KeyK P kt κ) (hx : K.dom x) (hl : ∀ p ∈ m, K.dom p.1) (hzv : ∀ w, (zeroValue e).run P w = .ok (E z0) w) (hs : St w0 ρ Γ w) (hi : Γ[i]? = some (.obj b (mapObj K.enc (vs E m))))
    (hm : ev L o = some (.map (some b))) (hy : ev L y = some (K.enc x)) : Y P n L w (.lookup mt o y false) t (E ((mget m x).getD z0)) := by
  have := Y_lookup1 (t := t) (n := n) hu K hx (vs_dom hl) hzv hs hi hm hy
  rw [vs_get] at this
  cases hg : mget m x <;> rw [hg] at this <;> simpa using this
end
def bytesI (s : ByteArray) : List Int := s.data.toList.map fun b => (b.toNat : Int)
theorem bytesI_length (s : ByteArray) : (bytesI s).length = s.size := by simp [bytesI]
theorem bytes_below {B : Nat} (w : World) (hB : B ≤ w.heap.size) (e : TypeId) (s : ByteArray) : Below B w (Lib.bytesWorld w e s) :=
  ⟨rfl, rfl, rfl, by rw [Lib.bytesWorld_size]; omega, fun k hk => Lib.bytesWorld_at_old w e s k (by omega)⟩
theorem St.bytes {w0 w : World} {ρ : Hp} {Γ : List Item} (h : St w0 ρ Γ w) (e : TypeId) (s : ByteArray) : ∃ ρ', Le ρ ρ' ∧ St w0 ρ' Γ (Lib.bytesWorld w e s) ∧ SlR (Rep.int .u8) ρ' (.slice (some ⟨w.heap.size, 0, none⟩) s.size (grownCap w s.size 0 e)) (bytesI s) := by
  have h1 : St w0 ρ Γ (Lib.bytesWorld w e s) := h.keep (bytes_below w h.below.size e s) (fun b hb _ => Lib.bytesWorld_at_old w e s b hb)
  refine ⟨fun a => if a.block = w.heap.size then seen (Lib.bytesWorld w e s) a else ρ a, fun a v ha => ?_, ⟨h1.below, fun a v ha => ?_, h1.ok, h1.nodup, h1.base, fun a v ha hm => ?_⟩, ?_⟩
  · have := h.sees.lt ha
    show (if a.block = w.heap.size then _ else ρ a) = _
    rw [if_neg (by omega)]; exact ha
  · change (if a.block = w.heap.size then _ else ρ a) = some v at ha
    split at ha
    · exact ha
    · exact h1.sees a v ha
  · change (if a.block = w.heap.size then _ else ρ a) = some v at ha
    split at ha
    · rename_i hb
      have := h.lt hm
      omega
    · exact h1.clean a v ha hm
  · refine .inr ⟨w.heap.size, 0, grownCap w s.size 0 e, by rw [bytesI_length], by rw [bytesI_length]; exact grownCap_ge _ _ _ _, fun i x hx => ⟨[.int .u8 x], rfl, fun j u hu => ?_⟩⟩
    have hi : i < s.size := by rw [← bytesI_length]; exact (List.getElem?_eq_some_iff.1 hx).1
    obtain ⟨rfl, rfl⟩ : j = 0 ∧ u = .int .u8 x := by
      cases j with
      | zero => simp at hu; exact ⟨rfl, hu.symm⟩
      | succ j => simp at hu
    show (if w.heap.size = w.heap.size then _ else _) = _
    rw [if_pos rfl]
    show (Lib.bytesWorld w e s).cell? ⟨w.heap.size, 0 + i * 1 + 0, none⟩ = _
    rw [show 0 + i * 1 + 0 = i by omega, Lib.bytesWorld_cell w e s i hi]
    simp only [bytesI, List.getElem?_map] at hx
    cases hg : s.data.toList[i]? with
    | none => rw [hg] at hx; cases hx
    | some b => rw [hg] at hx; simp at hx; simp [List.getD, hg, hx]
theorem O_bytes {P : Program} {n : Nat} {N : Nxt} {L : Loc} {w w0 : World} {ρ : Hp} {Γ : List Item} {ops : Array Oper} {rest : List Oper} {d t : Nat} {pos : String} {aft : Array Edge} {src dst e : TypeId} {s : ByteArray} {x : Operand}
    (hu : P.underlying src = some .string) (hd' : P.underlying dst = some (.slice e)) (he : P.underlying e = some (.int .u8)) (hs : St w0 ρ Γ w) (hd : Nat.blt d n = true) (hx : ev L x = some (.string s))
    (k : ∀ ρ' v w', Le ρ ρ' → St w0 ρ' Γ w' → SlR (Rep.int .u8) ρ' v (bytesI s) → O P n ops rest N ((d, v) :: L) w') : O P n ops (⟨some d, .convert src dst x, t, pos, aft, none⟩ :: rest) N L w := by
  obtain ⟨ρ', h1, h2, h3⟩ := hs.bytes e s
  refine O_op hd fun a ha => ⟨_, _, ?_, k ρ' _ _ h1 h2 h3⟩
  simp [execOp, ha.ev hx, Lib.run_convert_string_bytes w src dst e s hu hd' he]
def bOr (k : IntKind) (x y : Int) : Int := k.wrap (BitVec.ofInt k.bits x ||| BitVec.ofInt k.bits y).toNat
theorem Y_or {P : Program} {n : Nat} {L : Loc} {w : World} {k : IntKind} {p q : Int} {x y : Operand} {xt yt t : TypeId} (hx : ev L x = some (.int k p)) (hy : ev L y = some (.int k q)) : Y P n L w (.binOp .or xt x y yt) t (.int k (bOr k p q)) :=
  Y_bin (by decide) hx hy (fun _ => rfl)
theorem OD_step {P : Program} {n : Nat} {ops : Array Oper} {late : List Nat} {J : World → Prop} {fuel : Nat} {done : List Nat} {N : Nxt} {L : Loc} {w : World} {i : Nat} {o : Oper} (hi : ops[i]? = some o)
    (h : ∀ N' : Nxt, (∀ L' w', (late.contains i = false → J w → J w') → OD P n ops late J fuel (i :: done) N L' w' → N' L' w') → O P n ops [o] N' L w) {a : Act} (ha : Sat n L a) :
    wpOp P ops (Qo n N) i (fun a' w' => (late.contains i = false → J w → J w') ∧ wpAnyI P ops (Qo n N) late J fuel ((lst ops.size done).setIfInBounds i true) a' w') a w := by
  have h1 := h (fun L' w' => (late.contains i = false → J w → J w') ∧ OD P n ops late J fuel (i :: done) N L' w') (fun _ _ a b => ⟨a, b⟩) a ha
  unfold wpOp
  simp only [hi]
  unfold wpList at h1
  have conv : ∀ (a' : Act) (w' : World), wpList P ops (fun e a' w' => e = .normal ∧ ∃ L', Sat n L' a' ∧ (late.contains i = false → J w → J w') ∧ OD P n ops late J fuel (i :: done) N L' w') [] a' w' →
      ((late.contains i = false → J w → J w') ∧ wpAnyI P ops (Qo n N) late J fuel ((lst ops.size done).setIfInBounds i true) a' w') := by
    intro a' w' hq
    obtain ⟨_, L', hs', hJ', ho⟩ := hq
    rw [lst_set]
    exact ⟨hJ', ho a' hs'⟩
  split
  · rename_i hw
    simp only [hw, if_true] at h1
    rcases h1 with h1 | ⟨_, hlets⟩
    · refine .inl ?_
      unfold Oper.wp at h1 ⊢
      generalize (execOp a.eval o).run P w = r at h1 ⊢
      cases r with
      | ok x w' =>
        cases x <;> simp only [Oper.upon] at h1 ⊢ <;> first
          | exact conv _ _ h1
          | (refine Calls.mono h1 fun e w'' he => ?_; cases e <;> first | exact conv _ _ he | exact absurd he.1 (by simp) | (obtain ⟨_, _, hh, _⟩ := he; cases hh))
          | exact Rows.mono h1 fun _ _ he => conv _ _ he
      | halt x w' =>
        cases x <;> simp only [Oper.upon] at h1 ⊢
        case panic u => cases h1.1
    · obtain ⟨_, _, hh, _⟩ := hlets
      cases hh
  · rename_i hw
    simp only [hw] at h1
    exact conv _ _ h1
end Go.Proofs.YtekafkokpnihfaaGreat
