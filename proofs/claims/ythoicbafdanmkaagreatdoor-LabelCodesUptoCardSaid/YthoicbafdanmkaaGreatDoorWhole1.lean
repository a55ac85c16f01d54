/- Texts of this repo, merged for the claim: EngP, EngQ, EngS, Data, Facts, TK0. -/
import Derived.Test.YthoicbafdanmkaaGreatDoorWhole0
import Derived.Laws.BytesString
import Derived.Laws.IdiomStrings
import Derived.Laws.Cover4
import Derived.Laws.IdiomCopy
import Derived.Lib.AppendZerosOnto
import Derived.Lib.Overlaps
import Derived.Test.YthoicbafdanmkaaGreatDoorProg
import Derived.KernelRfl
/- Strings: conversions, parts, one behind the other. Own work of this repo. -/
namespace Go.Proofs.YthoicbafdanmkaaGreatDoor
open Go.RowKit
section
variable {P : Program} {n : Nat} {N : Nxt} {L : Loc} {w w0 : World} {ops : Array Oper} {rest : List Oper} {d t : Nat} {pos : String} {aft : Array Edge} {ρ : Hp} {Γ : List Item} {x y : Operand} {xt yt : TypeId}
def bytesS (xs : List Int) : ByteArray := xs.foldl (fun r n => r.push (UInt8.ofNat n.toNat)) ByteArray.empty
theorem slr_load {k : IntKind} {xs : List Int} {b o : Nat} (hs : St w0 ρ Γ w) (h : ∀ i x, xs[i]? = some x → ∃ cs, (Rep.int k).R ρ cs x ∧ ∀ j u, cs[j]? = some u → ρ ⟨b, o + i * (Rep.int k).sz + j, none⟩ = some u) :
    (loadCells ⟨b, o, none⟩ xs.length).run P w = .ok (xs.map (Value.int k)).toArray w := by
  have := run_loadCellsFrom (P := P) (w := w) (a := ⟨b, o, none⟩) (xs.map (Value.int k)) 0 #[] (fun j u hu => by
    rw [Nat.zero_add, Addr.add_lit]
    rw [List.getElem?_map] at hu
    obtain ⟨z, hz, rfl⟩ := Option.map_eq_some_iff.1 hu
    obtain ⟨cs, h1, h2⟩ := h j z hz
    have h1' : cs = [.int k z] := h1
    have := h2 0 (.int k z) (by rw [h1']; rfl)
    exact hs.see (by simpa [Rep.int] using this))
  rw [List.length_map] at this
  simpa [loadCells] using this
theorem Y_srunes {src dst e : TypeId} {v : Value} {xs : List Int} (hu : P.underlying src = some (.slice e)) (he : P.underlying e = some (.int .i32)) (hd : P.underlying dst = some .string) (hs : St w0 ρ Γ w) (f : SlR (Rep.int .i32) ρ v xs) (hx : ev L x = some v) :
    Y P n L w (.convert src dst x) t (.string (runesBytes xs)) := fun a ha _ _ _ _ => by
  rcases f with ⟨rfl, p, c, rfl⟩ | ⟨b, o, c, rfl, _, h⟩
  · have : (Conv.runesToString (.slice p 0 c)).run P w = .ok (.string (runesBytes [])) w := by
      cases p with
      | none => rfl
      | some p => exact run_runesToString w p 0 c [] (by simp [loadCells, loadCellsFrom])
    simp [execOp, ha.ev hx, run_convert_runes_string w src dst e p 0 c hu he hd, this]
  · simp [execOp, ha.ev hx, run_convert_runes_string w src dst e _ _ c hu he hd, run_runesToString w _ xs.length c xs (slr_load hs h)]
theorem Y_sbytes {src dst e : TypeId} {v : Value} {xs : List Int} (hu : P.underlying src = some (.slice e)) (he : P.underlying e = some (.int .u8)) (hd : P.underlying dst = some .string) (hs : St w0 ρ Γ w) (f : SlR (Rep.int .u8) ρ v xs) (hx : ev L x = some v) :
    Y P n L w (.convert src dst x) t (.string (bytesS xs)) := fun a ha _ _ _ _ => by
  rcases f with ⟨rfl, p, c, rfl⟩ | ⟨b, o, c, rfl, _, h⟩
  · have : (Conv.bytesToString (.slice p 0 c)).run P w = .ok (.string (bytesS [])) w := by
      cases p with
      | none => rfl
      | some p => exact run_bytesToString w p 0 c [] (by simp [loadCells, loadCellsFrom])
    simp [execOp, ha.ev hx, run_convert_bytes_string w src dst e p 0 c hu he hd, this]
  · simp [execOp, ha.ev hx, run_convert_bytes_string w src dst e _ _ c hu he hd, run_bytesToString w _ xs.length c xs (slr_load hs h), bytesS]
def runesL (s : ByteArray) : List Int := (Conv.runesFrom s s.size 0 #[]).toList.map fun v => match v with | .int _ n => n | _ => 0
theorem runesFrom_ints (s : ByteArray) : ∀ (b i : Nat) (acc : Array Value), (∃ l : List Int, acc.toList = l.map (Value.int .i32)) → ∃ l : List Int, (Conv.runesFrom s b i acc).toList = l.map (Value.int .i32)
  | 0, i, acc, h => by simpa [Conv.runesFrom] using h
  | b + 1, i, acc, ⟨l, hl⟩ => by
    unfold Conv.runesFrom
    split
    · exact runesFrom_ints s b _ _ ⟨l ++ [Int.ofNat (Utf8.decode s i).1], by rw [Array.toList_push, hl, List.map_append]; rfl⟩
    · exact ⟨l, hl⟩
theorem runesL_eq (s : ByteArray) : (Conv.runesFrom s s.size 0 #[]).toList = (runesL s).map (Value.int .i32) := by
  obtain ⟨l, hl⟩ := runesFrom_ints s s.size 0 #[] ⟨[], rfl⟩
  have e : runesL s = l := by
    rw [runesL, hl, List.map_map]
    have : ((fun v : Value => match v with | .int _ n => n | _ => 0) ∘ Value.int .i32) = id := rfl
    rw [this, List.map_id]
  rw [hl, e]
theorem runesL_size (s : ByteArray) : (Conv.runesFrom s s.size 0 #[]).size = (runesL s).length := by
  have := congrArg List.length (runesL_eq s)
  simpa using this
theorem O_runes {src dst e : TypeId} {s : ByteArray} (hu : P.underlying src = some .string) (hd' : P.underlying dst = some (.slice e)) (he : P.underlying e = some (.int .i32)) (hs : St w0 ρ Γ w) (hd : Nat.blt d n = true) (hx : ev L x = some (.string s)) (hm : (runesL s).length ≤ most)
    (k : ∀ v cs w', St w0 ρ (.row v e 1 (runesL s).length cs :: Γ) w' → RowR (Rep.int .i32) ρ cs (runesL s) → O P n ops rest N ((d, v) :: L) w') : O P n ops (⟨some d, .convert src dst x, t, pos, aft, none⟩ :: rest) N L w := by
  have hbig : most = 2147483648 := rfl
  have h46 : (Conv.runesFrom s s.size 0 #[]).size ≤ 70368744177664 := by rw [runesL_size]; omega
  refine O_op hd fun a ha => ?_
  have hr := run_runes_of_string (P := P) w src dst e s hu hd' he h46
  rw [runesL_size] at hr
  refine ⟨_, _, by simp only [execOp, ha.ev hx, Sem.run_bind, hr, Result.andThen]; rfl, k (.slice (some ⟨w.heap.size, 0, none⟩) (runesL s).length (grownCap w (runesL s).length 0 e)) ((runesL s).map (Value.int .i32)) _ ?_ ?_⟩
  · have hs' : St w0 ρ Γ w.drew := hs.drew
    refine hs'.push _ (.row (.slice (some ⟨w.heap.size, 0, none⟩) (runesL s).length (grownCap w (runesL s).length 0 e)) e 1 (runesL s).length ((runesL s).map (Value.int .i32))) rfl ⟨by simp, .inr ⟨w.heap.size, grownCap w (runesL s).length 0 e, _, rfl, Nat.zero_le _, heap_alloc_new w.drew _, grownCap_ge _ _ _ _, grownCap_le_maxLen w _ _ e (by unfold maxLen; omega), ?_, ?_⟩⟩
    · have := grownCap_ge w (runesL s).length 0 e
      simp [runesL_size]
      omega
    · rw [Array.toList_append, List.take_append_of_le_length (by simp [runesL_size]), runesL_eq, List.take_of_length_le (by simp)]
  · refine ⟨by simp [Rep.int], fun i z hz => ⟨[.int .i32 z], rfl, fun j u hu => ?_⟩⟩
    cases j with
    | zero => simp at hu; subst hu; simpa [Rep.int] using hz
    | succ j => simp at hu
theorem Y_cat {a b : ByteArray} (hx : ev L x = some (.string a)) (hy : ev L y = some (.string b)) (h : a.size + b.size ≤ 9223372036854775807) : Y P n L w (.binOp .add xt x y yt) t (.string (a ++ b)) :=
  Y_op2 hx hy rfl (by
    have : ¬ (((a.size + b.size : Nat) : Int) > IntKind.i64.max) := by show ¬ (_ > (9223372036854775807 : Int)); omega
    simp only [binOp, Op.stringOp, this, if_false, Sem.run_pure])
theorem Y_cutS {sl : TypeId} {s : ByteArray} {lo hi : Option Operand} {l h : Int} (hu : P.underlying sl = some .string) (hx : ev L x = some (.string s)) (hl : (lo = none ∧ l = 0) ∨ ∃ z k, lo = some z ∧ ev L z = some (.int k l)) (hh : (hi = none ∧ h = (s.size : Int)) ∨ ∃ z k, hi = some z ∧ ev L z = some (.int k h))
    (h0 : 0 ≤ l) (h1 : l ≤ h) (h2 : h ≤ (s.size : Int)) : Y P n L w (.slice sl x lo hi none) t (.string (s.extract l.toNat h.toNat)) := by
  intro q hq _ _ _ _
  have hb : (Instr.sliceBounds false s.size s.size (lo.map q.eval) (hi.map q.eval) none).run P w = .ok (l.toNat, h.toNat, s.size) w := by
    rcases hl with ⟨rfl, rfl⟩ | ⟨zl, kl, rfl, hzl⟩ <;> rcases hh with ⟨rfl, rfl⟩ | ⟨zh, kh, rfl, hzh⟩
    · simp [Instr.sliceBounds]
    · have e1 := run_bound (P := P) (w := w) (c := .sliceAlen) (hq.ev hzh) (by omega) h2
      simp [Instr.sliceBounds, e1]
    · have e1 := run_bound (P := P) (w := w) (c := .sliceB) (hq.ev hzl) h0 h1
      simp [Instr.sliceBounds, e1]
    · have e1 := run_bound (P := P) (w := w) (c := .sliceAlen) (hq.ev hzh) (by omega) h2
      have e2 := run_bound (P := P) (w := w) (c := .sliceB) (hq.ev hzl) h0 (show l ≤ (h.toNat : Int) by omega)
      simp [Instr.sliceBounds, e1, e2]
  simp [execOp, Instr.sliceAt, Instr.slice, hq.ev hx, run_underlying hu, hb]
end
end Go.Proofs.YthoicbafdanmkaaGreatDoor
/- Own rows are written in stretches: copy, room behind the end, an append of a make. Own work of this repo. -/
namespace Go.Proofs.YthoicbafdanmkaaGreatDoor
open Go.RowKit
section
variable {P : Program} {n : Nat} {N : Nxt} {L : Loc} {w w0 : World} {ops : Array Oper} {rest : List Oper} {d t : Nat} {pos : String} {aft : Array Edge} {ρ : Hp} {Γ : List Item} {x y : Operand}
def wl : List Value → Nat → List Value → List Value
  | [], _, cs => cs
  | v :: r, o, cs => wl r (o + 1) (cs.set o v)
theorem wl_len : ∀ (vs : List Value) (o : Nat) (cs : List Value), (wl vs o cs).length = cs.length
  | [], _, _ => rfl
  | v :: r, o, cs => by rw [wl, wl_len r]; simp
theorem wl_eq : ∀ (vs : List Value) (o : Nat) (cs : List Value), o + vs.length ≤ cs.length → wl vs o cs = cs.take o ++ (vs ++ cs.drop (o + vs.length))
  | [], o, cs, _ => by simp [wl]
  | v :: r, o, cs, h => by
    simp only [List.length_cons] at h
    rw [wl, wl_eq r (o + 1) (cs.set o v) (by simp; omega), List.drop_set_of_lt (by omega), List.take_add_one, List.getElem?_set_self (by omega)]
    rw [List.take_set_of_le (by omega)]
    simp [Nat.add_assoc, Nat.add_comm 1]
theorem St.rowWrite {e m g : Nat} {v : Value} (hg : v.ownBlock = some g) {j : Nat} : ∀ (vs : List Value) (o : Nat) (cs : List Value) (Γ : List Item) (w : World), St w0 ρ Γ w → Γ[j]? = some (.row v e 1 m cs) → o + vs.length ≤ cs.length → St w0 ρ (Γ.set j (.row v e 1 m (wl vs o cs))) (w.setCells g o vs)
  | [], o, cs, Γ, w, hs, hi, _ => by
    rw [wl, World.setCells]
    have : Γ.set j (.row v e 1 m cs) = Γ := by
      apply List.ext_getElem? 
      intro k
      by_cases hk : j = k
      · subst hk
        rw [List.getElem?_set_self (List.getElem?_eq_some_iff.1 hi).1, hi]
      · rw [List.getElem?_set_ne hk]
    rw [this]; exact hs
  | u :: r, o, cs, Γ, w, hs, hi, h => by
    simp only [List.length_cons] at h
    have hlt : j < Γ.length := (List.getElem?_eq_some_iff.1 hi).1
    have h1 := hs.rowSet (k := o) (u := u) hi hg (by omega)
    have h2 := St.rowWrite hg (j := j) r (o + 1) (cs.set o u) _ _ h1 (by rw [List.getElem?_set_self hlt]) (by simp; omega)
    rw [List.set_set] at h2
    exact h2
theorem St.rowRoom {e m cap g j : Nat} {cs : List Value} (hs : St w0 ρ Γ w) (hi : Γ[j]? = some (.row (.slice (some ⟨g, 0, none⟩) m cap) e 1 m cs)) (hc : m + 1 ≤ cap) : ∃ z, St w0 ρ (Γ.set j (.row (.slice (some ⟨g, 0, none⟩) (m + 1) cap) e 1 (m + 1) (cs ++ [z]))) w := by
  have hok : w.ownsRow 0 e 1 (.slice (some ⟨g, 0, none⟩) m cap) m cs := hs.ok _ (List.mem_of_getElem? hi)
  rcases hok.2 with ⟨h, _⟩ | ⟨g', cap', cur, h, h0, hgg, hnc, hcm, hcs, htk⟩
  · cases h
  · cases h
    have hl := hok.1
    have hsz : m < cur.toList.length := by simp; omega
    refine ⟨cur.toList[m], hs.turn hi (Below.refl _ _) (fun _ _ _ => rfl) ⟨by simp [hl], .inr ⟨g, cap, cur, rfl, h0, hgg, hc, hcm, hcs, ?_⟩⟩ (.inl rfl)⟩
    rw [Nat.mul_one, List.take_add_one, List.getElem?_eq_getElem hsz, ← htk]
    simp
theorem goCopy {e m g o n1 c1 n2 c2 : Nat} {a : Addr} {v : Value} {cs vs : List Value} {j : Nat} {dT sT ty : TypeId} (hs : St w0 ρ Γ w) (hi : Γ[j]? = some (.row v e 1 m cs)) (hg : v.ownBlock = some g) {bytes : Nat} (he : ElemOf P dT e 1 bytes)
    (hn : vs.length = Nat.min n2 n1) (hfit : o + vs.length ≤ cs.length) (hsrc : ∀ j v, vs[j]? = some v → w.cell? (a.add j) = some v) (h1 : ∀ v ∈ vs, v.oneCell' = true) :
    (Builtin.copy_ #[dT, sT] ty #[.slice (some ⟨g, o, none⟩) n1 c1, .slice (some a) n2 c2]).run P w = .ok (goInt vs.length) (w.setCells g o vs) := by
  obtain ⟨q, z, hq, _, hsz, _, _⟩ := he.info
  have hok : w.ownsRow 0 e 1 v m cs := hs.ok _ (List.mem_of_getElem? hi)
  refine run_copy_cells w dT sT ty e g o n1 c1 a n2 c2 vs he.under (by rw [hq]; simp [hsz]) hn hsrc (fun k hk => ?_) (fun k hk => ?_) h1
  · rw [hs.rowCell hi hg (List.getElem?_eq_getElem (show o + k < cs.length by omega))]; rfl
  · rcases hok.2 with ⟨rfl, hm⟩ | ⟨g', cap, cur, rfl, h0, hgg, _⟩
    · cases hg
    · simp only [Value.ownBlock, Option.some.injEq] at hg
      subst hg
      simp [World.frozen?, hgg]
theorem Y_sliceUp {sl e sz bytes : Nat} {a : Addr} {m c : Nat} {hi : Operand} {h : Int} {k : IntKind} (he : ElemOf P sl e sz bytes) (hx : ev L x = some (.slice (some a) m c)) (hh : ev L hi = some (.int k h))
    (h0 : 0 ≤ h) (h2 : h ≤ (c : Int)) : Y P n L w (.slice sl x none (some hi) none) t (.slice (some a) h.toNat c) := by
  obtain ⟨j, z, hj, _, hsz, _, _⟩ := he.info
  intro q hq _ _ _ _
  have hsize : (sizeOf e).run P w = .ok sz w := by simp [sizeOf, typeInfo, hj, hsz]
  have hb : (Instr.sliceBounds true m c none (some (q.eval hi)) none).run P w = .ok (0, h.toNat, c) w := by
    have e1 := run_bound (P := P) (w := w) (c := .sliceAcap) (hq.ev hh) h0 h2
    simp [Instr.sliceBounds, e1]
  have hz : a.add 0 = a := by obtain ⟨b, o, s⟩ := a; cases s <;> rfl
  simp [execOp, Instr.sliceAt, Instr.slice, hq.ev hx, run_underlying he.under, hb, hsize, hz]
theorem Y_cap {sl e : Nat} {a : Option Addr} {m c : Nat} (hu : P.underlying sl = some (.slice e)) (hx : ev L x = some (.slice a m c)) : Y P n L w (.call { callee := .builtin .cap, args := #[x], argTypes := #[sl] }) t (.int .i64 (c : Int)) := by
  intro q hq _ _ _ _
  simp [execOp, resolve, invoke, builtin, hq.ev hx, Builtin.cap_, run_underlying hu, goInt]
theorem Y_ext {f : FuncId} {xs : List Operand} {ts : Array TypeId} {vs : List Value} {r : Value} (hx : evs L xs = some vs) (hc : (callFunc f vs.toArray).run P w = .ok (.value r) w) : Y P n L w (.call { callee := .value (.func f), args := xs.toArray, argTypes := ts }) t r := by
  intro a ha _ _ _ _
  have := ha.evs hx
  simp [execOp, resolve, Act.eval, Deferred.ofValue, invoke, this, go_sem]
  exact hc
theorem Y_sliceFrom {sl e bytes : Nat} {g o m c l : Nat} {z : Operand} {k : IntKind} (he : ElemOf P sl e 1 bytes) (hx : ev L x = some (.slice (some ⟨g, o, none⟩) m c)) (hl : ev L z = some (.int k (l : Int))) (h1 : l ≤ m) (hc : l < c) (hmc : m ≤ c) :
    Y P n L w (.slice sl x (some z) none none) t (.slice (some ⟨g, o + l, none⟩) (m - l) (c - l)) := by
  have := Y_slice (n := n) (w := w) (t := t) (hi := none) (h := (m : Int)) he hx (.inr ⟨z, k, rfl, hl⟩) (.inl ⟨rfl, rfl⟩) (by omega) (by omega) (by omega) hmc
  have e1 : ((l : Int)).toNat = l := by omega
  rw [e1, if_neg (by omega)] at this
  simpa [Addr.add_lit] using this
theorem O_copyRow {sl e bytes m g o n1 c1 n2 c2 j : Nat} {a : Addr} {v : Value} {cs vs : List Value} (he : ElemOf P sl e 1 bytes) (hs : St w0 ρ Γ w) (hi : Γ[j]? = some (.row v e 1 m cs)) (hg : v.ownBlock = some g) (hd : Nat.blt d n = true) (hx : ev L x = some (.slice (some ⟨g, o, none⟩) n1 c1)) (hy : ev L y = some (.slice (some a) n2 c2))
    (hn : vs.length = Nat.min n2 n1) (hfit : o + vs.length ≤ cs.length) (hsrc : ∀ j v, vs[j]? = some v → w.cell? (a.add j) = some v) (h1 : ∀ v ∈ vs, v.oneCell' = true)
    (k : ∀ w', St w0 ρ (Γ.set j (.row v e 1 m (wl vs o cs))) w' → O P n ops rest N ((d, goInt vs.length) :: L) w') :
    O P n ops (⟨some d, .call { callee := .builtin .copy, args := #[x, y], argTypes := #[sl, sl] }, t, pos, aft, none⟩ :: rest) N L w := by
  refine O_op hd fun q hq => ⟨_, _, ?_, k _ (hs.rowWrite hg vs o cs _ _ hi hfit)⟩
  have hr := goCopy (P := P) (c1 := c1) (c2 := c2) (sT := sl) (ty := t) hs hi hg he hn hfit hsrc h1
  simp only [execOp, resolve, invoke, builtin, Sem.run_bind, Sem.run_pure, Result.andThen_ok, List.map_toArray, List.map_cons, List.map_nil, hq.ev hx, hq.ev hy, hr]
theorem O_appendMake {sl ti e bytes m c q : Nat} {g : Addr} {kn kq : IntKind} {olds : List Value} (he : ElemOf P sl e 1 bytes) (hti : P.underlying ti = some (.int kn)) (hs : St w0 ρ Γ w) (hd : Nat.blt d n = true) (hx : ev L x = some (.slice (some g) m c)) (hy : ev L y = some (.int kq (q : Int)))
    (hl : olds.length = m) (hc : ∀ j v, olds[j]? = some v → w.cell? (g.add j) = some v) (h0 : 0 < q) (hg : c < m + q) (hb : m + q ≤ most)
    (k : ∀ b zs c' w', zs.length = q → m + q ≤ c' → St w0 ρ (.row (.slice (some ⟨b, 0, none⟩) (m + q) c') e 1 (m + q) (olds ++ zs) :: Γ) w' → O P n ops rest N ((d, .slice (some ⟨b, 0, none⟩) (m + q) c') :: L) w') :
    O P n ops (⟨some d, .call { callee := .builtin .append, args := #[x, y], argTypes := #[sl, ti] }, t, pos, aft, none⟩ :: rest) N L w := by
  have hbig : most = 2147483648 := rfl
  obtain ⟨i, z, hi, hz, hsz, hby, hzs⟩ := he.info
  have hsm := he.small
  have hold : (Builtin.firstCells i.size m (.slice (some g) m c)).run P w.drew = .ok olds.toArray w.drew := run_firstCells_some (w := w.drew) i.size m g m c olds (by rw [hsz, hl, Nat.mul_one]) (fun j v hj => hc j v hj)
  have hmb : (m + q) * bytes ≤ 140737488355328 := Nat.le_trans (Nat.mul_le_mul (show m + q ≤ 2147483648 by omega) hsm) (by decide)
  have hr := Lib.run_append_grow_zeros (P := P) w sl ti t e i z kq kn he.under hti hi hz (some g) m c olds hold q h0 (by omega) hg (by omega) (by rw [hby]; exact Nat.le_trans (Nat.mul_le_mul (show q ≤ 2147483648 by omega) hsm) (by decide)) (by rw [hby]; exact growslice_fits hg hmb)
  have hcap := grownCap_ge w (m + q) c e
  refine O_op hd fun p hp => ⟨_, _, ?_, k w.heap.size (Builtin.zeroCells z.cells q).toList (grownCap w (m + q) c e) (w.drew.alloc (.cells (olds.toArray ++ Builtin.zeroCells z.cells q ++ Builtin.zeroCells z.cells (grownCap w (m + q) c e - (m + q))) e)) ?_ hcap ?_⟩
  · simp only [execOp, resolve, invoke, builtin, Sem.run_bind, Sem.run_pure, Result.andThen_ok, List.map_toArray, List.map_cons, List.map_nil, hp.ev hx, hp.ev hy, hr]
  · have : ∀ k, (Builtin.zeroCells z.cells k).size = k := fun k => by simp [Builtin.zeroCells, hzs]
    simp [this]
  · have hzc : ∀ k, (Builtin.zeroCells z.cells k).size = k := fun k => by simp [Builtin.zeroCells, hzs]
    have hs' : St w0 ρ Γ w.drew := hs.drew
    refine hs'.push _ (.row (.slice (some ⟨w.heap.size, 0, none⟩) (m + q) (grownCap w (m + q) c e)) e 1 (m + q) (olds ++ (Builtin.zeroCells z.cells q).toList)) rfl ⟨by simp [hzc, hl], .inr ⟨w.heap.size, grownCap w (m + q) c e, _, rfl, Nat.zero_le _, heap_alloc_new w.drew _, hcap, grownCap_le_maxLen w _ _ e (by unfold maxLen; omega), ?_, ?_⟩⟩
    · simp [hzc, hl]
      omega
    · rw [Array.toList_append, List.take_append_of_le_length (by simp [hzc, hl])]
      rw [List.take_of_length_le (by simp [hzc, hl])]
      simp
theorem RowR.ints {k : IntKind} {cs : List Value} {xs : List Int} (h : RowR (Rep.int k) ρ cs xs) : cs = xs.map (Value.int k) := by
  apply List.ext_getElem?
  intro i
  rw [List.getElem?_map]
  cases hx : xs[i]? with
  | none => rw [Option.map_none]; have := h.1; have := List.getElem?_eq_none_iff.1 hx; rw [List.getElem?_eq_none_iff]; simp [Rep.int] at *; omega
  | some x =>
    obtain ⟨c, h1, h2⟩ := h.2 i x hx
    have h1' : c = [.int k x] := h1
    have := h2 0 (.int k x) (by rw [h1']; rfl)
    simpa [Rep.int] using this
theorem RowR.ofInts {k : IntKind} (xs : List Int) : RowR (Rep.int k) ρ (xs.map (Value.int k)) xs := by
  refine ⟨by simp [Rep.int], fun i z hz => ⟨[.int k z], rfl, fun j u hu => ?_⟩⟩
  cases j with
  | zero => simp at hu; subst hu; simpa [Rep.int] using hz
  | succ j => simp at hu
def insZ (xs : List Int) (i z : Int) : List Int := xs.take i.toNat ++ z :: xs.drop i.toNat
end
end Go.Proofs.YthoicbafdanmkaaGreatDoor
/- The steps that come most often, each with one fact that is looked up. Own work of this repo. -/
namespace Go.Proofs.YthoicbafdanmkaaGreatDoor
open Go.RowKit
section
variable {P : Program} {n : Nat} {N : Nxt} {X : Nat → Nxt} {R : Nxt} {L : Loc} {w w0 : World} {ops : Array Oper} {rest : List Oper} {d t : Nat} {pos : String} {aft : Array Edge} {ρ : Hp} {Γ : List Item} {x y : Operand}
def bel {α : Type} (n d : Nat) (o : Option α) : Option α := bif Nat.blt d n then o else none
theorem bel_some {α : Type} {n d : Nat} {o : Option α} {a : α} (h : bel n d o = some a) : Nat.blt d n = true ∧ o = some a := by
  unfold bel at h
  cases hb : Nat.blt d n with
  | true => rw [hb] at h; exact ⟨rfl, h⟩
  | false => rw [hb] at h; cases h
def tw2 {α β : Type} : Option α → Option β → Option (α × β)
  | some a, some b => some (a, b)
  | _, _ => none
theorem tw2_some {α β : Type} {o : Option α} {p : Option β} {a : α} {b : β} (h : tw2 o p = some (a, b)) : o = some a ∧ p = some b := by
  cases o <;> cases p <;> simp_all [tw2]
def ev2 (n d : Nat) (L : Loc) (x y : Operand) : Option (Value × Value) := bel n d (tw2 (ev L x) (ev L y))
theorem ev2_some {u v : Value} (h : ev2 n d L x y = some (u, v)) : Nat.blt d n = true ∧ ev L x = some u ∧ ev L y = some v := by
  obtain ⟨h1, h2⟩ := bel_some h
  exact ⟨h1, tw2_some h2⟩
theorem T2 {a b : Nat} {u v : Value} (h : tw2 (lk a L) (lk b L) = some (u, v)) : Sub [(a, u), (b, v)] L := S2 (tw2_some h).1 (tw2_some h).2
theorem T3 {a b c : Nat} {u v z : Value} (h : tw2 (lk a L) (tw2 (lk b L) (lk c L)) = some (u, v, z)) : Sub [(a, u), (b, v), (c, z)] L := Sub.cons (tw2_some h).1 (T2 (tw2_some h).2)
theorem T4 {a b c e : Nat} {u v z q : Value} (h : tw2 (lk a L) (tw2 (lk b L) (tw2 (lk c L) (lk e L))) = some (u, v, z, q)) : Sub [(a, u), (b, v), (c, z), (e, q)] L := Sub.cons (tw2_some h).1 (T3 (tw2_some h).2)
theorem sbn {A B : Loc} (h : Sub A B := by repeat first | exact Sub.nil | refine Sub.cons rfl ?_) : Sub A B := h
theorem Mv {v : Value} (h : bel n d (ev L x) = some v) (k : O P n ops rest N ((d, v) :: L) w) : O P n ops (⟨some d, .move x, t, pos, aft, none⟩ :: rest) N L w := O_y (bel_some h).1 (Y_move (bel_some h).2) k
theorem As {v : Value} (h : bel n d (ev L x) = some v) (k : O P n ops rest N ((d, v) :: L) w) : O P n ops (⟨some d, .assign x, t, pos, aft, none⟩ :: rest) N L w := O_y (bel_some h).1 (Y_assign (bel_some h).2) k
def gdv (ops : Array Oper) (L : Loc) (j : Nat) : Option Value := ((ops[j]?).bind (·.dst)).bind (lk · L)
def gB : Option Value → Bool → Bool
  | some (.bool c), b => c == b
  | _, _ => false
theorem gB_some {o : Option Value} {b : Bool} (h : gB o b = true) : o = some (.bool b) := by
  unfold gB at h
  split at h
  · rw [eq_of_beq h]
  · cases h
theorem gdv_some {j : Nat} {v : Value} (h : gdv ops L j = some v) : ∃ dj, (ops[j]?).bind (·.dst) = some dj ∧ lk dj L = some v := Option.bind_eq_some_iff.1 h
theorem On {j : Nat} {b : Bool} {op : Op} (h : (Nat.blt d n && gB (gdv ops L j) (!b)) = true) (k : O P n ops rest N ((d, undef) :: L) w) : O P n ops (⟨some d, op, t, pos, aft, some (j, b)⟩ :: rest) N L w := by
  rw [Bool.and_eq_true] at h
  obtain ⟨dj, h1, h2⟩ := gdv_some (gB_some h.2)
  exact O_no h1 h2 rfl h.1 k
theorem Oe {j : Nat} {b : Bool} {dst : Option Nat} {op : Op} (h : gB (gdv ops L j) b = true) (k : O P n ops (⟨dst, op, t, pos, aft, none⟩ :: rest) N L w) : O P n ops (⟨dst, op, t, pos, aft, some (j, b)⟩ :: rest) N L w := by
  obtain ⟨dj, h1, h2⟩ := gdv_some (gB_some h)
  exact O_yes h1 h2 k
theorem Oc {f : FuncId} {xs : List Operand} {ts : Array TypeId} {vs : List Value} {S : Value → World → Prop} (hx : bel n d (evs L xs) = some vs) (hc : CallsR P f vs w S) (k : ∀ v w', S v w' → O P n ops rest N ((d, v) :: L) w') :
    O P n ops (⟨some d, .call { callee := .value (.func f), args := xs.toArray, argTypes := ts }, t, pos, aft, none⟩ :: rest) N L w := O_call (bel_some hx).1 (bel_some hx).2 hc k
theorem Ox {A : Nxt} (f : ∀ L w, A L w → N L w) (k : A L w) : O P n ops [] N L w := O_nil (f _ _ k)
theorem Wx {A : Nxt} (f : ∀ L w, A L w → N L w) (k : A L w) : W P n .skip N X R L w := W_skip (f _ _ k)
theorem Et {f : FuncId} {fn : Func} {c : Code} {args : List Value} {S : Value → World → Prop} (hf : P.funcs[f]? = some fn) (hn : fn.ntmps = n) (hb : fn.body = some c) (h : W P n c (Ret P n fn S) (fun _ _ _ => False) (Ret P n fn S) (rowsFrom 0 args) w)
    (hname : (fn.name == "runtime.NumGoroutine") = false := by kernel_rfl) (hs : Nat.ble args.length n = true := by exact rfl) : CallsR P f args w S := enter hf hn hb hname hs h
def rtv (fn : Func) (L : Loc) : Option Value := match fn.results.toList with
  | [.tmp t] => lk t L
  | _ => none
theorem r1 {fn : Func} {S : Value → World → Prop} {v : Value} (hr : rtv fn L = some v) (h : S v w) : Ret P n fn S L w := by
  unfold rtv at hr
  split at hr
  · rename_i t e
    exact ret1 (Array.toList_inj.1 e) hr h
  · cases hr
section
variable {xt yt : TypeId} {k : IntKind} {p q : Int}
theorem Oad (h : ev2 n d L x y = some (.int k p, .int k q)) (c : O P n ops rest N ((d, .int k (k.wrap (p + q))) :: L) w) : O P n ops (⟨some d, .binOp .add xt x y yt, t, pos, aft, none⟩ :: rest) N L w := O_y (ev2_some h).1 (Y_add (ev2_some h).2.1 (ev2_some h).2.2) c
theorem Osu (h : ev2 n d L x y = some (.int k p, .int k q)) (c : O P n ops rest N ((d, .int k (k.wrap (p - q))) :: L) w) : O P n ops (⟨some d, .binOp .sub xt x y yt, t, pos, aft, none⟩ :: rest) N L w := O_y (ev2_some h).1 (Y_sub (ev2_some h).2.1 (ev2_some h).2.2) c
theorem Oml (h : ev2 n d L x y = some (.int k p, .int k q)) (c : O P n ops rest N ((d, .int k (k.wrap (p * q))) :: L) w) : O P n ops (⟨some d, .binOp .mul xt x y yt, t, pos, aft, none⟩ :: rest) N L w := O_y (ev2_some h).1 (Y_mul (ev2_some h).2.1 (ev2_some h).2.2) c
theorem Oeq (h : ev2 n d L x y = some (.int k p, .int k q)) (c : O P n ops rest N ((d, .bool (decide (p = q))) :: L) w) : O P n ops (⟨some d, .binOp .eql xt x y yt, t, pos, aft, none⟩ :: rest) N L w := O_y (ev2_some h).1 (Y_eql (ev2_some h).2.1 (ev2_some h).2.2) c
theorem One (h : ev2 n d L x y = some (.int k p, .int k q)) (c : O P n ops rest N ((d, .bool (decide (p ≠ q))) :: L) w) : O P n ops (⟨some d, .binOp .neq xt x y yt, t, pos, aft, none⟩ :: rest) N L w := O_y (ev2_some h).1 (Y_neq (ev2_some h).2.1 (ev2_some h).2.2) c
theorem Ols (h : ev2 n d L x y = some (.int k p, .int k q)) (c : O P n ops rest N ((d, .bool (decide (p < q))) :: L) w) : O P n ops (⟨some d, .binOp .lss xt x y yt, t, pos, aft, none⟩ :: rest) N L w := O_y (ev2_some h).1 (Y_lss (ev2_some h).2.1 (ev2_some h).2.2) c
theorem Ole (h : ev2 n d L x y = some (.int k p, .int k q)) (c : O P n ops rest N ((d, .bool (decide (p ≤ q))) :: L) w) : O P n ops (⟨some d, .binOp .leq xt x y yt, t, pos, aft, none⟩ :: rest) N L w := O_y (ev2_some h).1 (Y_leq (ev2_some h).2.1 (ev2_some h).2.2) c
theorem Ogt (h : ev2 n d L x y = some (.int k p, .int k q)) (c : O P n ops rest N ((d, .bool (decide (q < p))) :: L) w) : O P n ops (⟨some d, .binOp .gtr xt x y yt, t, pos, aft, none⟩ :: rest) N L w := O_y (ev2_some h).1 (Y_gtr (ev2_some h).2.1 (ev2_some h).2.2) c
theorem Oge (h : ev2 n d L x y = some (.int k p, .int k q)) (c : O P n ops rest N ((d, .bool (decide (q ≤ p))) :: L) w) : O P n ops (⟨some d, .binOp .geq xt x y yt, t, pos, aft, none⟩ :: rest) N L w := O_y (ev2_some h).1 (Y_geq (ev2_some h).2.1 (ev2_some h).2.2) c
end
def pkv (n d : Nat) (L : Loc) (c x y : Operand) : Option Value := bel n d (match ev L c with
  | some (.bool true) => ev L x
  | some (.bool false) => ev L y
  | _ => none)
theorem Opk {c : Operand} {v : Value} (h : pkv n d L c x y = some v) (k : O P n ops rest N ((d, v) :: L) w) : O P n ops (⟨some d, .pick c x y, t, pos, aft, none⟩ :: rest) N L w := by
  obtain ⟨h1, h2⟩ := bel_some h
  split at h2
  · rename_i e
    exact O_y h1 (Y_pick_t e h2) k
  · rename_i e
    exact O_y h1 (Y_pick_f e h2) k
  · cases h2
theorem Oxt {tu : Operand} {i : Nat} {v : Value} (h : bel n d ((ev L tu).bind fun | .tuple vs => vs[i]? | _ => none) = some v) (k : O P n ops rest N ((d, v) :: L) w) : O P n ops (⟨some d, .extract tu i, t, pos, aft, none⟩ :: rest) N L w := by
  obtain ⟨h1, h2⟩ := bel_some h
  obtain ⟨u, h3, h4⟩ := Option.bind_eq_some_iff.1 h2
  split at h4
  · exact O_y h1 (Y_extract h3 h4) k
  · cases h4
theorem Ont {xt : TypeId} {b : Bool} (h : bel n d (ev L x) = some (.bool b)) (k : O P n ops rest N ((d, .bool (!b)) :: L) w) : O P n ops (⟨some d, .unOp .not xt x, t, pos, aft, none⟩ :: rest) N L w := O_y (bel_some h).1 (Y_not (bel_some h).2) k
theorem Onp {a : Addr} (h : bel n d (ev L x) = some (.pointer (some a))) (k : O P n ops rest N ((d, .pointer (some a)) :: L) w) : O P n ops (⟨some d, .nilCheck x, t, pos, aft, none⟩ :: rest) N L w := O_y (bel_some h).1 (Y_nilp (bel_some h).2) k
theorem Ofd {s i off b o : Nat} (hf : fieldOff P s i = some off) (h : bel n d (ev L x) = some (.pointer (some ⟨b, o, none⟩))) (k : O P n ops rest N ((d, .pointer (some ⟨b, o + off, none⟩)) :: L) w) : O P n ops (⟨some d, .fieldAddr s x i, t, pos, aft, none⟩ :: rest) N L w := O_y (bel_some h).1 (Y_field hf (bel_some h).2) k
def bxl (n d : Nat) (L : Loc) (Γ : List Item) (i : Nat) (x : Operand) : Option (Nat × Nat × Value) := match bel n d (ev L x), Γ[i]? with
  | some (.pointer (some ⟨b, o, none⟩)), some (.box b' _ cs) => (cs[o]?).map fun v => (b, b', v)
  | _, _ => none
theorem Obx (i : Nat) {ty b : Nat} {v : Value} (ha : isAggOf P ty = some false) (hs : St w0 ρ Γ w) (h : bxl n d L Γ i x = some (b, b, v)) (k : O P n ops rest N ((d, v) :: L) w) : O P n ops (⟨some d, .load ty x, t, pos, aft, none⟩ :: rest) N L w := by
  unfold bxl at h
  split at h
  · rename_i e1 e2
    obtain ⟨u, h1, h2⟩ := Option.map_eq_some_iff.1 h
    simp only [Prod.mk.injEq] at h2
    obtain ⟨rfl, rfl, rfl⟩ := h2
    exact O_y (bel_some e1).1 (Yb i ha hs e2 h1 (bel_some e1).2) k
  · cases h
end
section
variable {P : Program} {n : Nat} {ops : Array Oper} {late done : List Nat} {J : World → Prop} {N : Nxt} {L : Loc} {w : World} {d t : Nat} {pos : String} {aft : Array Edge} {fuel : Nat} {m : Nat} {ms ap tm : List Nat}
def rdy (n : Nat) (ops : Array Oper) (L : Loc) (i : Nat) : Option (Bool × Oper) := (ops[i]?).bind fun o => match o.dst with
  | some d => bel n d (match o.guard with
    | none => some (true, o)
    | some (j, b) => bif gB (gdv ops L j) b then some (false, { o with guard := none }) else none)
  | none => none
theorem rdy_some {i : Nat} {g : Bool} {op : Op} (h : rdy n ops L i = some (g, ⟨some d, op, t, pos, aft, none⟩)) : Nat.blt d n = true ∧ (ops[i]? = some ⟨some d, op, t, pos, aft, none⟩ ∨ ∃ j b dj, ops[i]? = some ⟨some d, op, t, pos, aft, some (j, b)⟩ ∧ (ops[j]?).bind (·.dst) = some dj ∧ lk dj L = some (.bool b)) := by
  obtain ⟨o, h1, h2⟩ := Option.bind_eq_some_iff.1 h
  cases o with
  | mk dst op' t' pos' aft' g =>
    cases dst with
    | none => cases h2
    | some d' =>
      obtain ⟨h3, h4⟩ := bel_some h2
      cases g with
      | none =>
        simp only [Option.some.injEq, Prod.mk.injEq, Oper.mk.injEq] at h4
        obtain ⟨_, rfl, rfl, rfl, rfl, rfl, _⟩ := h4
        exact ⟨h3, .inl h1⟩
      | some jb =>
        obtain ⟨j, b⟩ := jb
        simp only at h4
        cases hb : gB (gdv ops L j) b with
        | false => rw [hb] at h4; cases h4
        | true =>
          rw [hb] at h4
          simp only [cond_true, Option.some.injEq, Prod.mk.injEq, Oper.mk.injEq] at h4
          obtain ⟨_, rfl, rfl, rfl, rfl, rfl, _⟩ := h4
          obtain ⟨dj, h5, h6⟩ := gdv_some (gB_some hb)
          exact ⟨h3, .inr ⟨j, b, dj, h1, h5, h6⟩⟩
theorem Fp (i : Nat) {g : Bool} {op : Op} {v : Value} (hS : Shape ops m ms ap tm) (h : rdy n ops L i = some (g, ⟨some d, op, t, pos, aft, none⟩)) (hy : ∀ w, Y P n L w op t v) (k : OD P n ops late J fuel (i :: done) N ((d, v) :: L) w) (hok : okPM m ms ap (maskOf done) i = true := by kernel_rfl) : OD P n ops late J (fuel + 1) done N L w := by
  obtain ⟨hd, h | ⟨j, b, dj, h1, h2, h3⟩⟩ := rdy_some h
  · exact OD_pS hS h hd hok hy k
  · exact OD_pyesS hS h1 h2 h3 hd hok hy k
theorem Fy (i : Nat) {g : Bool} {op : Op} {v : Value} (hS : Shape ops m ms ap tm) (h : rdy n ops L i = some (g, ⟨some d, op, t, pos, aft, none⟩)) (hJ : J w) (hy : ∀ w, J w → Y P n L w op t v) (k : OD P n ops late J fuel (i :: done) N ((d, v) :: L) w) (hok : (okPM m ms ap (maskOf done) i && (closM (maskOf done) 0 ms && lateM tm i late)) = true := by kernel_rfl) : OD P n ops late J (fuel + 1) done N L w := by
  obtain ⟨hd, h | ⟨j, b, dj, h1, h2, h3⟩⟩ := rdy_some h
  · exact OD_yS hS h hd hok hJ hy k
  · exact OD_yesS hS h1 h2 h3 hd hok hJ hy k
def rdm (n : Nat) (ops : Array Oper) (L : Loc) (i : Nat) : Option (Nat × Value) := match ops[i]? with
  | some ⟨some d, .move x, _, _, _, none⟩ => bel n d ((ev L x).map fun v => (d, v))
  | _ => none
theorem Fm (i : Nat) {v : Value} (hS : Shape ops m ms ap tm) (h : rdm n ops L i = some (d, v)) (k : OD P n ops late J fuel (i :: done) N ((d, v) :: L) w) (hok : okPM m ms ap (maskOf done) i = true := by kernel_rfl) : OD P n ops late J (fuel + 1) done N L w := by
  unfold rdm at h
  split at h
  · rename_i e
    obtain ⟨h1, h2⟩ := bel_some h
    obtain ⟨u, h3, h4⟩ := Option.map_eq_some_iff.1 h2
    simp only [Prod.mk.injEq] at h4
    obtain ⟨rfl, rfl⟩ := h4
    exact OD_pS hS e h1 hok (fun _ => Y_move h3) k
  · cases h
def rdn (n : Nat) (ops : Array Oper) (L : Loc) (i : Nat) : Option Nat := match ops[i]? with
  | some ⟨some d, _, _, _, _, some (j, b)⟩ => bel n d (bif gB (gdv ops L j) (!b) then some d else none)
  | _ => none
theorem Fn (i : Nat) (hS : Shape ops m ms ap tm) (h : rdn n ops L i = some d) (k : OD P n ops late J fuel (i :: done) N ((d, undef) :: L) w) (hok : okPM m ms ap (maskOf done) i = true := by kernel_rfl) : OD P n ops late J (fuel + 1) done N L w := by
  unfold rdn at h
  split at h
  · rename_i d' _ _ _ _ j b e
    obtain ⟨h1, h2⟩ := bel_some h
    cases hb : gB (gdv ops L j) (!b) with
    | false => rw [hb] at h2; cases h2
    | true =>
      rw [hb] at h2
      obtain rfl := Option.some.inj h2
      obtain ⟨dj, h5, h6⟩ := gdv_some (gB_some hb)
      exact OD_noS hS e h5 h6 rfl h1 hok k
  · cases h
def rdu (n : Nat) (ops : Array Oper) (L : Loc) (i : Nat) : Option (Nat × Value) := match ops[i]? with
  | some ⟨some d, _, _, _, _, some (j, _)⟩ => bel n d ((gdv ops L j).map fun v => (d, v))
  | _ => none
theorem Fu (i : Nat) (hS : Shape ops m ms ap tm) (h : rdu n ops L i = some (d, undef)) (k : OD P n ops late J fuel (i :: done) N ((d, undef) :: L) w) (hok : okPM m ms ap (maskOf done) i = true := by kernel_rfl) : OD P n ops late J (fuel + 1) done N L w := by
  unfold rdu at h
  split at h
  · rename_i e
    obtain ⟨h1, h2⟩ := bel_some h
    obtain ⟨u, h3, h4⟩ := Option.map_eq_some_iff.1 h2
    simp only [Prod.mk.injEq] at h4
    obtain ⟨rfl, rfl⟩ := h4
    obtain ⟨dj, h5, h6⟩ := gdv_some h3
    exact OD_nouS hS e h5 h6 h1 hok k
  · cases h
theorem F1 (i : Nat) {o : Oper} (hS : Shape ops m ms ap tm) (hi : ops[i]? = some o) (h : ∀ N' : Nxt, (∀ L' w', (late.contains i = false → J w → J w') → OD P n ops late J fuel (i :: done) N L' w' → N' L' w') → O P n ops [o] N' L w) (hok : (Nat.blt i m && rdyM ms (maskOf done) i && onlyM (maskOf done) i 0 ms) = true := by kernel_rfl) : OD P n ops late J (fuel + 1) done N L w := OD_oneS hS hi hok h
theorem FE (hS : Shape ops m ms ap tm) (h : N L w) (hr : onlyM (maskOf done) m 0 ms = true := by kernel_rfl) : OD P n ops late J fuel done N L w := OD_doneS hS hr h
end
end Go.Proofs.YthoicbafdanmkaaGreatDoor
/- The data of the program's structs. Written by this repo's structs.py. -/
namespace Go.Proofs.YthoicbafdanmkaaGreatDoor
open Go.RowKit
structure S8 where
  x : Int
  y : Int
  signed : Bool
  code : Int
  deriving Inhabited
structure S9 where
  msg : ByteArray
  addr : Int
  deriving Inhabited
structure Val where
  lo : Int
  hi : Int
  n : Int
  deriving Inhabited
def rVal : Rep Val := ⟨3, fun ρ cs x => cs = [.int .i32 x.lo, .int .i32 x.hi, .int .i64 x.n], fun h => by obtain rfl := h; rfl, fun hle h => by obtain rfl := h; exact rfl, fun h => by obtain rfl := h; exact (one_cons rfl (one_cons rfl (one_cons rfl one_nil)))⟩
structure Chs where
  lo : Int
  hi : Int
  is_ : List Int
  deriving Inhabited
def rChs : Rep Chs := ⟨3, fun ρ cs x => ∃ v2 : Value, cs = [.int .i32 x.lo, .int .i32 x.hi, v2] ∧ SlR (Rep.int .i32) ρ v2 x.is_, fun h => by obtain ⟨v2, rfl, f0⟩ := h; rfl, fun hle h => by obtain ⟨v2, rfl, f0⟩ := h; exact ⟨v2, rfl, f0.mono hle⟩, fun h => by obtain ⟨v2, rfl, f0⟩ := h; exact (one_cons rfl (one_cons rfl (one_cons f0.one one_nil)))⟩
structure Spn where
  lo : Int
  hi : Int
  deriving Inhabited
def rSpn : Rep Spn := ⟨2, fun ρ cs x => cs = [.int .i32 x.lo, .int .i32 x.hi], fun h => by obtain rfl := h; rfl, fun hle h => by obtain rfl := h; exact rfl, fun h => by obtain rfl := h; exact (one_cons rfl (one_cons rfl one_nil))⟩
structure Bk where
  names : List ByteArray
  status : List Val
  maps : List Chs
  class_ : List Val
  decomp : List Chs
  excl : List Spn
  bidi : List Val
  join : List Val
  marks : List Spn
  script : List Val
  like : List Chs
  deriving Inhabited
def rBk : Rep Bk := ⟨11, fun ρ cs x => ∃ v0 v1 v2 v3 v4 v5 v6 v7 v8 v9 v10 : Value, cs = [v0, v1, v2, v3, v4, v5, v6, v7, v8, v9, v10] ∧ SlR Rep.str ρ v0 x.names ∧ SlR rVal ρ v1 x.status ∧ SlR rChs ρ v2 x.maps ∧ SlR rVal ρ v3 x.class_ ∧ SlR rChs ρ v4 x.decomp ∧ SlR rSpn ρ v5 x.excl ∧ SlR rVal ρ v6 x.bidi ∧ SlR rVal ρ v7 x.join ∧ SlR rSpn ρ v8 x.marks ∧ SlR rVal ρ v9 x.script ∧ SlR rChs ρ v10 x.like, fun h => by obtain ⟨v0, v1, v2, v3, v4, v5, v6, v7, v8, v9, v10, rfl, f0, f1, f2, f3, f4, f5, f6, f7, f8, f9, f10⟩ := h; rfl, fun hle h => by obtain ⟨v0, v1, v2, v3, v4, v5, v6, v7, v8, v9, v10, rfl, f0, f1, f2, f3, f4, f5, f6, f7, f8, f9, f10⟩ := h; exact ⟨v0, v1, v2, v3, v4, v5, v6, v7, v8, v9, v10, rfl, f0.mono hle, f1.mono hle, f2.mono hle, f3.mono hle, f4.mono hle, f5.mono hle, f6.mono hle, f7.mono hle, f8.mono hle, f9.mono hle, f10.mono hle⟩, fun h => by obtain ⟨v0, v1, v2, v3, v4, v5, v6, v7, v8, v9, v10, rfl, f0, f1, f2, f3, f4, f5, f6, f7, f8, f9, f10⟩ := h; exact (one_cons f0.one (one_cons f1.one (one_cons f2.one (one_cons f3.one (one_cons f4.one (one_cons f5.one (one_cons f6.one (one_cons f7.one (one_cons f8.one (one_cons f9.one (one_cons f10.one one_nil)))))))))))⟩
structure Tab where
  which : Vector Int 8704
  unlike : List (Vector Int 128)
  plain : List Bool
  deriving Inhabited
def rTab : Rep Tab := ⟨8706, fun ρ cs x => ∃ v1 v2 : Value, cs = [] ++ (vcs (Value.int .u16) x.which ++ [v1, v2]) ∧ SlR (Rep.arr (Value.int .u16) (one_int .u16) 128) ρ v1 x.unlike ∧ SlR Rep.bool ρ v2 x.plain, fun h => by obtain ⟨v1, v2, rfl, f0, f1⟩ := h; simp, fun hle h => by obtain ⟨v1, v2, rfl, f0, f1⟩ := h; exact ⟨v1, v2, rfl, f0.mono hle, f1.mono hle⟩, fun h => by obtain ⟨v1, v2, rfl, f0, f1⟩ := h; exact (one_app one_nil (one_app (vcs_one (one_int .u16) _) (one_cons f0.one (one_cons f1.one one_nil))))⟩
structure Tbs where
  b : Bk
  status : Option Tab
  class_ : Option Tab
  bidi : Option Tab
  join : Option Tab
  script : Option Tab
  excl : Option Tab
  mark : Option Tab
  maps : Option Tab
  decomp : Option Tab
  likes : Option Tab
  pairs : List (Vector Int 2 × Int)
  deriving Inhabited
def rTbs : Rep Tbs := ⟨22, fun ρ cs x => ∃ v0 v1 v2 v3 v4 v5 v6 v7 v8 v9 v10 v11 v12 v13 v14 v15 v16 v17 v18 v19 v20 v21 : Value, cs = [v0, v1, v2, v3, v4, v5, v6, v7, v8, v9, v10, v11, v12, v13, v14, v15, v16, v17, v18, v19, v20, v21] ∧ SlR Rep.str ρ v0 x.b.names ∧ SlR rVal ρ v1 x.b.status ∧ SlR rChs ρ v2 x.b.maps ∧ SlR rVal ρ v3 x.b.class_ ∧ SlR rChs ρ v4 x.b.decomp ∧ SlR rSpn ρ v5 x.b.excl ∧ SlR rVal ρ v6 x.b.bidi ∧ SlR rVal ρ v7 x.b.join ∧ SlR rSpn ρ v8 x.b.marks ∧ SlR rVal ρ v9 x.b.script ∧ SlR rChs ρ v10 x.b.like ∧ PtrR rTab ρ v11 x.status ∧ PtrR rTab ρ v12 x.class_ ∧ PtrR rTab ρ v13 x.bidi ∧ PtrR rTab ρ v14 x.join ∧ PtrR rTab ρ v15 x.script ∧ PtrR rTab ρ v16 x.excl ∧ PtrR rTab ρ v17 x.mark ∧ PtrR rTab ρ v18 x.maps ∧ PtrR rTab ρ v19 x.decomp ∧ PtrR rTab ρ v20 x.likes ∧ MapR (fun y : Vector Int 2 => Value.agg (acs .i32 y.toList).toArray) (Value.int .i32) ρ v21 x.pairs, fun h => by obtain ⟨v0, v1, v2, v3, v4, v5, v6, v7, v8, v9, v10, v11, v12, v13, v14, v15, v16, v17, v18, v19, v20, v21, rfl, f0, f1, f2, f3, f4, f5, f6, f7, f8, f9, f10, f11, f12, f13, f14, f15, f16, f17, f18, f19, f20, f21⟩ := h; rfl, fun hle h => by obtain ⟨v0, v1, v2, v3, v4, v5, v6, v7, v8, v9, v10, v11, v12, v13, v14, v15, v16, v17, v18, v19, v20, v21, rfl, f0, f1, f2, f3, f4, f5, f6, f7, f8, f9, f10, f11, f12, f13, f14, f15, f16, f17, f18, f19, f20, f21⟩ := h; exact ⟨v0, v1, v2, v3, v4, v5, v6, v7, v8, v9, v10, v11, v12, v13, v14, v15, v16, v17, v18, v19, v20, v21, rfl, f0.mono hle, f1.mono hle, f2.mono hle, f3.mono hle, f4.mono hle, f5.mono hle, f6.mono hle, f7.mono hle, f8.mono hle, f9.mono hle, f10.mono hle, f11.mono hle, f12.mono hle, f13.mono hle, f14.mono hle, f15.mono hle, f16.mono hle, f17.mono hle, f18.mono hle, f19.mono hle, f20.mono hle, f21.mono hle⟩, fun h => by obtain ⟨v0, v1, v2, v3, v4, v5, v6, v7, v8, v9, v10, v11, v12, v13, v14, v15, v16, v17, v18, v19, v20, v21, rfl, f0, f1, f2, f3, f4, f5, f6, f7, f8, f9, f10, f11, f12, f13, f14, f15, f16, f17, f18, f19, f20, f21⟩ := h; exact (one_cons f0.one (one_cons f1.one (one_cons f2.one (one_cons f3.one (one_cons f4.one (one_cons f5.one (one_cons f6.one (one_cons f7.one (one_cons f8.one (one_cons f9.one (one_cons f10.one (one_cons f11.one (one_cons f12.one (one_cons f13.one (one_cons f14.one (one_cons f15.one (one_cons f16.one (one_cons f17.one (one_cons f18.one (one_cons f19.one (one_cons f20.one (one_cons f21.one one_nil))))))))))))))))))))))⟩
structure S10 where
  says : List Int
  coded : Bool
  fault : Int
  deriving Inhabited
def rS10 : Rep S10 := ⟨3, fun ρ cs x => ∃ v0 : Value, cs = [v0, .bool x.coded, .int .i64 x.fault] ∧ SlR (Rep.int .i32) ρ v0 x.says, fun h => by obtain ⟨v0, rfl, f0⟩ := h; rfl, fun hle h => by obtain ⟨v0, rfl, f0⟩ := h; exact ⟨v0, rfl, f0.mono hle⟩, fun h => by obtain ⟨v0, rfl, f0⟩ := h; exact (one_cons f0.one (one_cons rfl (one_cons rfl one_nil)))⟩
structure Wh where
  list : Int
  row : Int
  deriving Inhabited
def rWh : Rep Wh := ⟨2, fun ρ cs x => cs = [.int .i64 x.list, .int .i64 x.row], fun h => by obtain rfl := h; rfl, fun hle h => by obtain rfl := h; exact rfl, fun h => by obtain rfl := h; exact (one_cons rfl (one_cons rfl one_nil))⟩
structure S11 where
  base : Int
  least : Int
  most : Int
  skew : Int
  damp : Int
  bias : Int
  first : Int
  between : Int
  deriving Inhabited
def rS11 : Rep S11 := ⟨8, fun ρ cs x => cs = [.int .i64 x.base, .int .i64 x.least, .int .i64 x.most, .int .i64 x.skew, .int .i64 x.damp, .int .i64 x.bias, .int .i64 x.first, .int .u8 x.between], fun h => by obtain rfl := h; rfl, fun hle h => by obtain rfl := h; exact rfl, fun h => by obtain rfl := h; exact (one_cons rfl (one_cons rfl (one_cons rfl (one_cons rfl (one_cons rfl (one_cons rfl (one_cons rfl (one_cons rfl one_nil))))))))⟩
structure S12 where
  p : S11
  s : ByteArray
  at_ : Int
  out : List Int
  n : Int
  i : Int
  bias : Int
  deriving Inhabited
structure S13 where
  l : List Chs
  rows : List (Int × Int)
  long : List (Int × Int)
  deriving Inhabited
structure S14 where
  lo : Int
  hi : Int
  deriving Inhabited
end Go.Proofs.YthoicbafdanmkaaGreatDoor
namespace Go.Proofs.YthoicbafdanmkaaGreatDoor
theorem mixed : Tryz.prog.follows .mixedOrders = true := by kernel_rfl
theorem ag27 : isAggOf Tryz.prog 27 = some true := by kernel_rfl
theorem sz27 : sizeOf' Tryz.prog 27 = some 11 := by kernel_rfl
theorem un28 : Tryz.prog.underlying 28 = some (.slice 21) := by kernel_rfl
theorem el28 : ElemOf Tryz.prog 28 21 1 4 := elemOf_of un28 (by kernel_rfl) rfl rfl
theorem un3 : Tryz.prog.underlying 3 = some (.int .i64) := by kernel_rfl
theorem ag21 : isAggOf Tryz.prog 21 = some false := by kernel_rfl
theorem sz21 : sizeOf' Tryz.prog 21 = some 1 := by kernel_rfl
theorem un21 : Tryz.prog.underlying 21 = some (.int .i32) := by kernel_rfl
theorem un29 : Tryz.prog.underlying 29 = some (.pointer 114) := by kernel_rfl
theorem un9 : Tryz.prog.underlying 9 = some .string := by kernel_rfl
theorem sz43 : sizeOf' Tryz.prog 43 = some 3 := by kernel_rfl
theorem zr43 : zeroOf Tryz.prog 43 = some [.slice none 0 0, .bool false, .int .i64 0] := by kernel_rfl
theorem fo43_1 : fieldOff Tryz.prog 43 1 = some 1 := by kernel_rfl
theorem ag4 : isAggOf Tryz.prog 4 = some false := by kernel_rfl
theorem fo43_2 : fieldOff Tryz.prog 43 2 = some 2 := by kernel_rfl
theorem ag3 : isAggOf Tryz.prog 3 = some false := by kernel_rfl
theorem sz3 : sizeOf' Tryz.prog 3 = some 1 := by kernel_rfl
theorem fo43_0 : fieldOff Tryz.prog 43 0 = some 0 := by kernel_rfl
theorem ag28 : isAggOf Tryz.prog 28 = some false := by kernel_rfl
theorem sz28 : sizeOf' Tryz.prog 28 = some 1 := by kernel_rfl
theorem un4 : Tryz.prog.underlying 4 = some .bool := by kernel_rfl
theorem un56 : Tryz.prog.underlying 56 = some (.slice 3) := by kernel_rfl
theorem el56 : ElemOf Tryz.prog 56 3 1 8 := elemOf_of un56 (by kernel_rfl) rfl rfl
theorem ag67 : isAggOf Tryz.prog 67 = some true := by kernel_rfl
theorem sz67 : sizeOf' Tryz.prog 67 = some 3 := by kernel_rfl
theorem zr67 : zeroOf Tryz.prog 67 = some [.int .i32 0, .int .i32 0, .int .i64 0] := by kernel_rfl
theorem pl67 : placesOf Tryz.prog 67 = some [(0, 1), (1, 1), (2, 1)] := by kernel_rfl
theorem un23 : Tryz.prog.underlying 23 = some (.slice 67) := by kernel_rfl
theorem el23 : ElemOf Tryz.prog 23 67 3 16 := elemOf_of un23 (by kernel_rfl) rfl rfl
theorem zr27 : zeroOf Tryz.prog 27 = some [.slice none 0 0, .slice none 0 0, .slice none 0 0, .slice none 0 0, .slice none 0 0, .slice none 0 0, .slice none 0 0, .slice none 0 0, .slice none 0 0, .slice none 0 0, .slice none 0 0] := by kernel_rfl
theorem pl27 : placesOf Tryz.prog 27 = some [(0, 1), (1, 1), (2, 1), (3, 1), (4, 1), (5, 1), (6, 1), (7, 1), (8, 1), (9, 1), (10, 1)] := by kernel_rfl
theorem ag43 : isAggOf Tryz.prog 43 = some true := by kernel_rfl
theorem pl43 : placesOf Tryz.prog 43 = some [(0, 1), (1, 1), (2, 1)] := by kernel_rfl
theorem un72 : Tryz.prog.underlying 72 = some (.slice 5) := by kernel_rfl
theorem el72 : ElemOf Tryz.prog 72 5 1 1 := elemOf_of un72 (by kernel_rfl) rfl rfl
theorem un5 : Tryz.prog.underlying 5 = some (.int .u8) := by kernel_rfl
theorem sz56 : sizeOf' Tryz.prog 56 = some 1 := by kernel_rfl
theorem zr56 : zeroOf Tryz.prog 56 = some [.slice none 0 0] := by kernel_rfl
theorem ag29 : isAggOf Tryz.prog 29 = some false := by kernel_rfl
theorem ag56 : isAggOf Tryz.prog 56 = some false := by kernel_rfl
theorem un22 : Tryz.prog.underlying 22 = some (.slice 9) := by kernel_rfl
theorem el22 : ElemOf Tryz.prog 22 9 1 16 := elemOf_of un22 (by kernel_rfl) rfl rfl
theorem fo27_0 : fieldOff Tryz.prog 27 0 = some 0 := by kernel_rfl
theorem ag22 : isAggOf Tryz.prog 22 = some false := by kernel_rfl
theorem fo27_1 : fieldOff Tryz.prog 27 1 = some 1 := by kernel_rfl
theorem ag23 : isAggOf Tryz.prog 23 = some false := by kernel_rfl
theorem fo27_2 : fieldOff Tryz.prog 27 2 = some 2 := by kernel_rfl
theorem ag24 : isAggOf Tryz.prog 24 = some false := by kernel_rfl
theorem un24 : Tryz.prog.underlying 24 = some (.slice 110) := by kernel_rfl
theorem el24 : ElemOf Tryz.prog 24 110 3 32 := elemOf_of un24 (by kernel_rfl) rfl rfl
theorem fo27_3 : fieldOff Tryz.prog 27 3 = some 3 := by kernel_rfl
theorem fo27_4 : fieldOff Tryz.prog 27 4 = some 4 := by kernel_rfl
theorem fo27_5 : fieldOff Tryz.prog 27 5 = some 5 := by kernel_rfl
theorem ag25 : isAggOf Tryz.prog 25 = some false := by kernel_rfl
theorem un25 : Tryz.prog.underlying 25 = some (.slice 129) := by kernel_rfl
theorem el25 : ElemOf Tryz.prog 25 129 2 8 := elemOf_of un25 (by kernel_rfl) rfl rfl
theorem fo27_6 : fieldOff Tryz.prog 27 6 = some 6 := by kernel_rfl
theorem fo27_7 : fieldOff Tryz.prog 27 7 = some 7 := by kernel_rfl
theorem fo27_8 : fieldOff Tryz.prog 27 8 = some 8 := by kernel_rfl
theorem fo27_9 : fieldOff Tryz.prog 27 9 = some 9 := by kernel_rfl
theorem fo27_10 : fieldOff Tryz.prog 27 10 = some 10 := by kernel_rfl
theorem un84 : Tryz.prog.underlying 84 = some (.slice 4) := by kernel_rfl
theorem el84 : ElemOf Tryz.prog 84 4 1 1 := elemOf_of un84 (by kernel_rfl) rfl rfl
theorem sz100 : sizeOf' Tryz.prog 100 = some 2 := by kernel_rfl
theorem zr100 : zeroOf Tryz.prog 100 = some [.int .i64 0, .int .i64 0] := by kernel_rfl
theorem un112 : Tryz.prog.underlying 112 = some (.map 115 21) := by kernel_rfl
theorem un115 : Tryz.prog.underlying 115 = some (.array 2 21) := by kernel_rfl
def kv115 : KeyK Tryz.prog 115 (Vector Int 2) := KeyK.vec un115 (by kernel_rfl) (by kernel_rfl) sz21 un21 ag21
theorem zv21 : ∀ w : World, (zeroValue 21).run Tryz.prog w = .ok (.int .i32 0) w := fun _ => by kernel_rfl
theorem ag114 : isAggOf Tryz.prog 114 = some true := by kernel_rfl
theorem zr114 : zeroOf Tryz.prog 114 = some [.slice none 0 0, .slice none 0 0, .slice none 0 0, .slice none 0 0, .slice none 0 0, .slice none 0 0, .slice none 0 0, .slice none 0 0, .slice none 0 0, .slice none 0 0, .slice none 0 0, .pointer none, .pointer none, .pointer none, .pointer none, .pointer none, .pointer none, .pointer none, .pointer none, .pointer none, .pointer none, .map none] := by kernel_rfl
theorem pl114 : placesOf Tryz.prog 114 = some [(0, 11), (11, 1), (12, 1), (13, 1), (14, 1), (15, 1), (16, 1), (17, 1), (18, 1), (19, 1), (20, 1), (21, 1)] := by kernel_rfl
theorem ag110 : isAggOf Tryz.prog 110 = some true := by kernel_rfl
theorem sz110 : sizeOf' Tryz.prog 110 = some 3 := by kernel_rfl
theorem zr110 : zeroOf Tryz.prog 110 = some [.int .i32 0, .int .i32 0, .slice none 0 0] := by kernel_rfl
theorem fo110_2 : fieldOff Tryz.prog 110 2 = some 2 := by kernel_rfl
theorem fo114_6 : fieldOff Tryz.prog 114 6 = some 16 := by kernel_rfl
theorem ag104 : isAggOf Tryz.prog 104 = some false := by kernel_rfl
theorem fo110_0 : fieldOff Tryz.prog 110 0 = some 0 := by kernel_rfl
theorem un104 : Tryz.prog.underlying 104 = some (.pointer 156) := by kernel_rfl
theorem fo114_2 : fieldOff Tryz.prog 114 2 = some 12 := by kernel_rfl
theorem fo114_11 : fieldOff Tryz.prog 114 11 = some 21 := by kernel_rfl
theorem ag112 : isAggOf Tryz.prog 112 = some false := by kernel_rfl
theorem ag115 : isAggOf Tryz.prog 115 = some true := by kernel_rfl
theorem sz115 : sizeOf' Tryz.prog 115 = some 2 := by kernel_rfl
set_option maxRecDepth 1000000 in
theorem zl115 : (zeroOf Tryz.prog 115).map (·.length) = some 2 := by kernel_rfl
theorem fo114_7 : fieldOff Tryz.prog 114 7 = some 17 := by kernel_rfl
theorem fo114_8 : fieldOff Tryz.prog 114 8 = some 18 := by kernel_rfl
theorem fo114_1 : fieldOff Tryz.prog 114 1 = some 11 := by kernel_rfl
theorem fo67_0 : fieldOff Tryz.prog 67 0 = some 0 := by kernel_rfl
theorem fo67_1 : fieldOff Tryz.prog 67 1 = some 1 := by kernel_rfl
theorem fo67_2 : fieldOff Tryz.prog 67 2 = some 2 := by kernel_rfl
theorem fo110_1 : fieldOff Tryz.prog 110 1 = some 1 := by kernel_rfl
theorem ag129 : isAggOf Tryz.prog 129 = some true := by kernel_rfl
theorem sz129 : sizeOf' Tryz.prog 129 = some 2 := by kernel_rfl
theorem zr129 : zeroOf Tryz.prog 129 = some [.int .i32 0, .int .i32 0] := by kernel_rfl
theorem fo129_0 : fieldOff Tryz.prog 129 0 = some 0 := by kernel_rfl
theorem fo129_1 : fieldOff Tryz.prog 129 1 = some 1 := by kernel_rfl
theorem ag9 : isAggOf Tryz.prog 9 = some false := by kernel_rfl
theorem ag100 : isAggOf Tryz.prog 100 = some true := by kernel_rfl
theorem sz133 : sizeOf' Tryz.prog 133 = some 1 := by kernel_rfl
theorem zr133 : zeroOf Tryz.prog 133 = some [.nilFunc] := by kernel_rfl
theorem sz135 : sizeOf' Tryz.prog 135 = some 1 := by kernel_rfl
theorem zr135 : zeroOf Tryz.prog 135 = some [.nilFunc] := by kernel_rfl
theorem ag137 : isAggOf Tryz.prog 137 = some true := by kernel_rfl
theorem sz137 : sizeOf' Tryz.prog 137 = some 2 := by kernel_rfl
theorem zr137 : zeroOf Tryz.prog 137 = some [.int .i64 0, .nilFunc] := by kernel_rfl
theorem pl137 : placesOf Tryz.prog 137 = some [(0, 1), (1, 1)] := by kernel_rfl
theorem un145 : Tryz.prog.underlying 145 = some (.slice 137) := by kernel_rfl
theorem el145 : ElemOf Tryz.prog 145 137 2 16 := elemOf_of un145 (by kernel_rfl) rfl rfl
theorem fo137_1 : fieldOff Tryz.prog 137 1 = some 1 := by kernel_rfl
theorem ag136 : isAggOf Tryz.prog 136 = some false := by kernel_rfl
theorem fo137_0 : fieldOff Tryz.prog 137 0 = some 0 := by kernel_rfl
theorem pl100 : placesOf Tryz.prog 100 = some [(0, 1), (1, 1)] := by kernel_rfl
theorem pl129 : placesOf Tryz.prog 129 = some [(0, 1), (1, 1)] := by kernel_rfl
theorem fo156_1 : fieldOff Tryz.prog 156 1 = some 8704 := by kernel_rfl
theorem ag154 : isAggOf Tryz.prog 154 = some false := by kernel_rfl
theorem sz154 : sizeOf' Tryz.prog 154 = some 1 := by kernel_rfl
theorem fo156_0 : fieldOff Tryz.prog 156 0 = some 0 := by kernel_rfl
theorem un153 : Tryz.prog.underlying 153 = some (.array 8704 150) := by kernel_rfl
theorem sz150 : sizeOf' Tryz.prog 150 = some 1 := by kernel_rfl
theorem ag150 : isAggOf Tryz.prog 150 = some false := by kernel_rfl
theorem un154 : Tryz.prog.underlying 154 = some (.slice 152) := by kernel_rfl
theorem el154 : ElemOf Tryz.prog 154 152 128 256 := elemOf_of un154 (by kernel_rfl) rfl rfl
theorem un152 : Tryz.prog.underlying 152 = some (.array 128 150) := by kernel_rfl
theorem un150 : Tryz.prog.underlying 150 = some (.int .u16) := by kernel_rfl
theorem ag118 : isAggOf Tryz.prog 118 = some true := by kernel_rfl
theorem sz118 : sizeOf' Tryz.prog 118 = some 8 := by kernel_rfl
theorem zr118 : zeroOf Tryz.prog 118 = some [.int .i64 0, .int .i64 0, .int .i64 0, .int .i64 0, .int .i64 0, .int .i64 0, .int .i64 0, .int .u8 0] := by kernel_rfl
theorem pl118 : placesOf Tryz.prog 118 = some [(0, 1), (1, 1), (2, 1), (3, 1), (4, 1), (5, 1), (6, 1), (7, 1)] := by kernel_rfl
theorem ag117 : isAggOf Tryz.prog 117 = some true := by kernel_rfl
theorem sz117 : sizeOf' Tryz.prog 117 = some 8 := by kernel_rfl
theorem fo117_7 : fieldOff Tryz.prog 117 7 = some 7 := by kernel_rfl
theorem ag5 : isAggOf Tryz.prog 5 = some false := by kernel_rfl
theorem fo117_6 : fieldOff Tryz.prog 117 6 = some 6 := by kernel_rfl
theorem fo117_5 : fieldOff Tryz.prog 117 5 = some 5 := by kernel_rfl
theorem ag163 : isAggOf Tryz.prog 163 = some true := by kernel_rfl
theorem zr163 : zeroOf Tryz.prog 163 = some [.int .i64 0, .int .i64 0, .int .i64 0, .int .i64 0, .int .i64 0, .int .i64 0, .int .i64 0, .int .u8 0, .string ⟨#[]⟩, .int .i64 0, .slice none 0 0, .int .i64 0, .int .i64 0, .int .i64 0] := by kernel_rfl
theorem pl163 : placesOf Tryz.prog 163 = some [(0, 8), (8, 1), (9, 1), (10, 1), (11, 1), (12, 1), (13, 1)] := by kernel_rfl
theorem fo163_3 : fieldOff Tryz.prog 163 3 = some 10 := by kernel_rfl
theorem fo163_2 : fieldOff Tryz.prog 163 2 = some 9 := by kernel_rfl
theorem fo114_0 : fieldOff Tryz.prog 114 0 = some 0 := by kernel_rfl
theorem ag133 : isAggOf Tryz.prog 133 = some false := by kernel_rfl
theorem zr3 : zeroOf Tryz.prog 3 = some [.int .i64 0] := by kernel_rfl
theorem ag135 : isAggOf Tryz.prog 135 = some false := by kernel_rfl
theorem un181 : Tryz.prog.underlying 181 = some (.map 21 3) := by kernel_rfl
theorem zv3 : ∀ w : World, (zeroValue 3).run Tryz.prog w = .ok (.int .i64 0) w := fun _ => by kernel_rfl
theorem un182 : Tryz.prog.underlying 182 = some (.map 3 3) := by kernel_rfl
theorem ag184 : isAggOf Tryz.prog 184 = some true := by kernel_rfl
theorem zr184 : zeroOf Tryz.prog 184 = some [.slice none 0 0, .map none, .map none] := by kernel_rfl
theorem pl184 : placesOf Tryz.prog 184 = some [(0, 1), (1, 1), (2, 1)] := by kernel_rfl
theorem fo184_1 : fieldOff Tryz.prog 184 1 = some 1 := by kernel_rfl
theorem ag181 : isAggOf Tryz.prog 181 = some false := by kernel_rfl
theorem un185 : Tryz.prog.underlying 185 = some (.map 115 4) := by kernel_rfl
theorem zv4 : ∀ w : World, (zeroValue 4).run Tryz.prog w = .ok (.bool false) w := fun _ => by kernel_rfl
set_option maxRecDepth 1000000 in
theorem zr115 : zeroOf Tryz.prog 115 = some ([] ++ (vcs (Value.int .i32) (Vector.replicate 2 (0 : Int)) ++ [])) := by kernel_rfl
theorem fo117_0 : fieldOff Tryz.prog 117 0 = some 0 := by kernel_rfl
theorem fo117_4 : fieldOff Tryz.prog 117 4 = some 4 := by kernel_rfl
theorem fo117_1 : fieldOff Tryz.prog 117 1 = some 1 := by kernel_rfl
theorem fo117_2 : fieldOff Tryz.prog 117 2 = some 2 := by kernel_rfl
theorem fo117_3 : fieldOff Tryz.prog 117 3 = some 3 := by kernel_rfl
theorem fo163_5 : fieldOff Tryz.prog 163 5 = some 12 := by kernel_rfl
theorem fo163_0 : fieldOff Tryz.prog 163 0 = some 0 := by kernel_rfl
theorem fo163_6 : fieldOff Tryz.prog 163 6 = some 13 := by kernel_rfl
theorem fo163_4 : fieldOff Tryz.prog 163 4 = some 11 := by kernel_rfl
theorem fo184_2 : fieldOff Tryz.prog 184 2 = some 2 := by kernel_rfl
theorem ag182 : isAggOf Tryz.prog 182 = some false := by kernel_rfl
theorem fo184_0 : fieldOff Tryz.prog 184 0 = some 0 := by kernel_rfl
set_option maxRecDepth 1000000 in
theorem zr156 : zeroOf Tryz.prog 156 = some ([] ++ (vcs (Value.int .u16) (Vector.replicate 8704 (0 : Int)) ++ [.slice none 0 0, .slice none 0 0])) := by kernel_rfl
theorem pl156 : placesOf Tryz.prog 156 = some [(0, 8704), (8704, 1), (8705, 1)] := by kernel_rfl
theorem un203 : Tryz.prog.underlying 203 = some (.map 152 150) := by kernel_rfl
def kv152 : KeyK Tryz.prog 152 (Vector Int 128) := KeyK.vec un152 (by kernel_rfl) (by kernel_rfl) sz150 un150 ag150
theorem zv150 : ∀ w : World, (zeroValue 150).run Tryz.prog w = .ok (.int .u16 0) w := fun _ => by kernel_rfl
theorem sz152 : sizeOf' Tryz.prog 152 = some 128 := by kernel_rfl
set_option maxRecDepth 1000000 in
theorem zr152 : zeroOf Tryz.prog 152 = some ([] ++ (vcs (Value.int .u16) (Vector.replicate 128 (0 : Int)) ++ [])) := by kernel_rfl
theorem ag152 : isAggOf Tryz.prog 152 = some true := by kernel_rfl
theorem fo156_2 : fieldOff Tryz.prog 156 2 = some 8705 := by kernel_rfl
theorem ag84 : isAggOf Tryz.prog 84 = some false := by kernel_rfl
theorem sz84 : sizeOf' Tryz.prog 84 = some 1 := by kernel_rfl
set_option maxRecDepth 1000000 in
theorem zb152 : zeroOf Tryz.prog 152 = some (vcs (Value.int .u16) (Vector.replicate 128 (0 : Int))) := by kernel_rfl
theorem fo163_1 : fieldOff Tryz.prog 163 1 = some 8 := by kernel_rfl
theorem fo114_4 : fieldOff Tryz.prog 114 4 = some 14 := by kernel_rfl
theorem fo114_9 : fieldOff Tryz.prog 114 9 = some 19 := by kernel_rfl
theorem un215 : Tryz.prog.underlying 215 = some (.int .u64) := by kernel_rfl
end Go.Proofs.YthoicbafdanmkaaGreatDoor
/- Written by this repo's gen.py: for each Go function a Lean function with the same answers and the walk that shows it. -/
namespace Go.Proofs.YthoicbafdanmkaaGreatDoor
open Go.RowKit
set_option maxRecDepth 100000
set_option maxHeartbeats 4000000
variable {w0 w : World} {ρ : Hp} {Γ : List Item}
set_option linter.unusedVariables false
def ref18_high.j1 (ad : Int → Option Bool) (aa : Int) (ab : Bool) : Option Bool := if ab = true then (some true) else (ad (IntKind.i64.wrap (aa + 1)))
def ref18_high.l1 : Nat → List Int → Int → Option Bool
  | 0, _, _ => none
  | ac + 1, x0, aa => if aa < (x0.length : Int) then (if (0 : Int) ≤ aa ∧ aa < (x0.length : Int) then (if (rd x0 aa) < 0 then (ref18_high.j1 (ref18_high.l1 ac x0) aa true) else (ref18_high.j1 (ref18_high.l1 ac x0) aa (decide (127 < (rd x0 aa))))) else none) else (some false)
def ref18_high.f (x0 : List Int) : Option Bool := ref18_high.l1 K0 x0 0
theorem ref18_high.c (hs : St w0 ρ (Γ) w) {v0 : Value} {x0 : List Int} (h0 : SlR (Rep.int .i32) ρ v0 x0) {r : Bool} (H : ref18_high.f x0 = some r) : CallsR Tryz.prog 33 [v0] w (fun v w' => v = .bool r ∧ St w0 ρ Γ w') := by
  rw [ref18_high.f] at H
  refine Et Tryz.func33 Tryz.ntmps33 rfl <| Wr fun a1 al => As rfl <| Ox al <| W_seq fun a2 am => Wr fun a3 an => Mv rfl <| O_y rfl (Y_lenR un28 h0 rfl) <| Mv rfl <| Ox an <| W_block fun a4 ao a5 => W_loop (σ := Nat × Int) (fun (ac, aa) => [(5, v0), (6, .int .i64 (x0.length : Int)), (7, .int .i64 aa)]) (fun (ac, aa) w => ref18_high.l1 ac x0 aa = some r ∧ St w0 ρ (Γ) w) (fun s => s.1) (K0, 0) (T3 rfl) (Ai H hs) ?_
  rintro ⟨ac, aa⟩ w a6 ⟨H, hs⟩ ae
  show W _ _ _ _ _ _ [(5, v0), (6, .int .i64 (x0.length : Int)), (7, .int .i64 aa)] w
  cases ac with
  | zero => rw [ref18_high.l1] at H; cases H
  | succ ac =>
  rw [ref18_high.l1] at H
  refine Wr fun a7 ap => Ols rfl <| Ox ap <| W_seq fun a8 aq => W_if rfl (fun af => ?_) (fun af => ?_)
  ·rw [if_pos af] at H
   refine Wx aq <| W_seq fun a9 ar => W_block fun ba bb bc => W_seq fun bd au => W_region ?_
   obtain ⟨ai, H⟩ := gd H
   obtain ⟨be, bf, av, aw⟩ := h0.ix el28 ai.1 ai.2
   refine O_y rfl (aw rfl rfl) <| O_y rfl (Y_load ag21 rfl (hs.see av.int)) <| As rfl <| Ox au <| W_seqj fun ax ay aj => ?_
   have ak : ∀ (ab : Bool) (w : World), ref18_high.j1 (ref18_high.l1 ac x0) aa ab = some r → St w0 ρ (Γ) w → ax [(5, v0), (6, .int .i64 (x0.length : Int)), (7, .int .i64 aa), (16, .bool ab)] w := by
    intro ab w H hs
    rw [ref18_high.j1] at H
    refine ay _ _ <| W_cond rfl (fun ag => ?_) (fun ag => ?_)
    ·rw [if_pos ag] at H
     refine Wr fun bg az => As rfl <| Ox az <| W_ret ?_
     obtain rfl := sinj H
     exact r1 rfl ⟨rfl, hs⟩
    ·rw [if_neg (bft ag)] at H
     refine Wx ar <| W_region <| Oad rfl <| Mv rfl <| O_nil (ae (ac, (IntKind.i64.wrap (aa + 1))) _ _ (T3 rfl) (Ai H hs) (Nat.lt_succ_self _))
   refine W_region <| Mv rfl <| Ols rfl <| Mv rfl <| O_if (dj := 13) rfl (fun ah => ?_) (fun ah => ?_)
   ·rw [if_pos ah] at H
    refine On rfl <| On rfl <| Opk rfl <| O_nil (aj _ _ _ (T4 rfl) (ak true _ H hs))
   ·rw [if_neg ah] at H
    refine Oe rfl <| Mv rfl <| Oe rfl <| Ogt rfl <| Opk rfl <| O_nil (aj _ _ _ (T4 rfl) (ak (decide (127 < (rd x0 aa))) _ H hs))
  ·rw [if_neg af] at H
   refine W_exit (ao _ _ (am _ _ <| Wr fun bh a0 => As rfl <| Ox a0 <| W_ret ?_))
   obtain rfl := sinj H
   exact r1 rfl ⟨rfl, hs⟩

def ref14_scalar.j1 (aa : Bool) : Option Bool := some aa
def ref14_scalar.f (x0 : Int) : Option Bool := if 0 ≤ x0 then (if x0 < 55296 then (ref14_scalar.j1 true) else (if 57343 < x0 then (ref14_scalar.j1 (decide (x0 ≤ 1114111))) else (ref14_scalar.j1 false))) else (if 57343 < x0 then (ref14_scalar.j1 (decide (x0 ≤ 1114111))) else (ref14_scalar.j1 false))
theorem ref14_scalar.c (hs : St w0 ρ (Γ) w) {x0 : Int} {r : Bool} (H : ref14_scalar.f x0 = some r) : CallsR Tryz.prog 72 [.int .i32 x0] w (fun v w' => v = .bool r ∧ St w0 ρ Γ w') := by
  rw [ref14_scalar.f] at H
  refine Et Tryz.func72 Tryz.ntmps72 rfl <| Wr fun ak ah => As rfl <| Ox ah <| W_seqj fun ai aj ab => ?_
  have ac : ∀ (aa : Bool) (w : World), ref14_scalar.j1 aa = some r → St w0 ρ (Γ) w → ai [(2, .bool aa)] w := by
   intro aa w H hs
   rw [ref14_scalar.j1] at H
   refine aj _ _ <| W_ret ?_
   obtain rfl := sinj H
   exact r1 rfl ⟨rfl, hs⟩
  refine W_region <| Mv rfl <| Oge rfl <| Mv rfl <| O_if (dj := 5) rfl (fun ad => ?_) (fun ad => ?_)
  ·rw [if_pos ad] at H
   refine Oe rfl <| Mv rfl <| Oe rfl <| Ols rfl <| Opk rfl <| Mv rfl <| O_if (dj := 9) rfl (fun ae => ?_) (fun ae => ?_)
   ·rw [if_pos ae] at H
    refine On rfl <| On rfl <| On rfl <| O_nou rfl rfl rfl <| O_nou rfl rfl rfl <| On rfl <| Opk rfl <| As rfl <| O_nil (ab _ _ _ (S1 rfl) (ac true _ H hs))
   ·rw [if_neg ae] at H
    refine Oe rfl <| Mv rfl <| Oe rfl <| Ogt rfl <| Oe rfl <| Mv rfl <| O_if (dj := 12) rfl (fun af => ?_) (fun af => ?_)
    ·rw [if_pos af] at H
     refine Oe rfl <| Mv rfl <| Oe rfl <| Ole rfl <| Oe rfl <| Opk rfl <| Opk rfl <| As rfl <| O_nil (ab _ _ _ (S1 rfl) (ac (decide (x0 ≤ 1114111)) _ H hs))
    ·rw [if_neg af] at H
     refine On rfl <| On rfl <| Oe rfl <| Opk rfl <| Opk rfl <| As rfl <| O_nil (ab _ _ _ (S1 rfl) (ac false _ H hs))
  ·rw [if_neg ad] at H
   refine On rfl <| On rfl <| Opk rfl <| Mv rfl <| Oe rfl <| Mv rfl <| Oe rfl <| Ogt rfl <| Oe rfl <| Mv rfl <| O_if (dj := 12) rfl (fun ag => ?_) (fun ag => ?_)
   ·rw [if_pos ag] at H
    refine Oe rfl <| Mv rfl <| Oe rfl <| Ole rfl <| Oe rfl <| Opk rfl <| Opk rfl <| As rfl <| O_nil (ab _ _ _ (S1 rfl) (ac (decide (x0 ≤ 1114111)) _ H hs))
   ·rw [if_neg ag] at H
    refine On rfl <| On rfl <| Oe rfl <| Opk rfl <| Opk rfl <| As rfl <| O_nil (ab _ _ _ (S1 rfl) (ac false _ H hs))

def ref14_threshold.f (x0 x1 : Int) : Option Int := if (IntKind.i64.wrap (x0 - x1)) < 1 then (some 1) else (if 26 < (IntKind.i64.wrap (x0 - x1)) then (some 26) else (some (IntKind.i64.wrap (x0 - x1))))
theorem ref14_threshold.c (hs : St w0 ρ (Γ) w) {x0 x1 r : Int} (H : ref14_threshold.f x0 x1 = some r) : CallsR Tryz.prog 73 [.int .i64 x0, .int .i64 x1] w (fun v w' => v = .int .i64 r ∧ St w0 ρ Γ w') := by
  rw [ref14_threshold.f] at H
  refine Et Tryz.func73 Tryz.ntmps73 rfl <| Wr fun ak ac => As rfl <| Ox ac <| W_seq fun al ad => Wr fun am ae => Mv rfl <| Mv rfl <| Osu rfl <| Ols rfl <| Ox ae <| W_if rfl (fun aa => ?_) (fun aa => ?_)
  ·rw [if_pos aa] at H
   refine Wr fun an af => As rfl <| Ox af <| W_ret ?_
   obtain rfl := sinj H
   exact r1 rfl ⟨rfl, hs⟩
  ·rw [if_neg aa] at H
   refine Wx ad <| W_seq fun ao ag => Wr fun ap ah => Mv rfl <| Mv rfl <| Osu rfl <| Ogt rfl <| Ox ah <| W_if rfl (fun ab => ?_) (fun ab => ?_)
   ·rw [if_pos ab] at H
    refine Wr fun aq ai => As rfl <| Ox ai <| W_ret ?_
    obtain rfl := sinj H
    exact r1 rfl ⟨rfl, hs⟩
   ·rw [if_neg ab] at H
    refine Wx ag <| Wr fun ar aj => Mv rfl <| Mv rfl <| Osu rfl <| As rfl <| Ox aj <| W_ret ?_
    obtain rfl := sinj H
    exact r1 rfl ⟨rfl, hs⟩

def ref14_Letter.f (x0 : Int) : Option Int := if x0 < 26 then (some (IntKind.u8.wrap (IntKind.i64.wrap (97 + x0)))) else (some (IntKind.u8.wrap (IntKind.i64.wrap ((IntKind.i64.wrap (48 + x0)) - 26))))
theorem ref14_Letter.c (hs : St w0 ρ (Γ) w) {x0 r : Int} (H : ref14_Letter.f x0 = some r) : CallsR Tryz.prog 74 [.int .i64 x0] w (fun v w' => v = .int .u8 r ∧ St w0 ρ Γ w') := by
  rw [ref14_Letter.f] at H
  refine Et Tryz.func74 Tryz.ntmps74 rfl <| Wr fun ag ab => As rfl <| Ox ab <| W_seq fun ah ac => Wr fun ai ad => Mv rfl <| Ols rfl <| Ox ad <| W_if rfl (fun aa => ?_) (fun aa => ?_)
  ·rw [if_pos aa] at H
   refine Wr fun aj ae => Mv rfl <| Oad rfl <| O_y rfl (Y_conv un3 un5 rfl) <| As rfl <| Ox ae <| W_ret ?_
   obtain rfl := sinj H
   exact r1 rfl ⟨rfl, hs⟩
  ·rw [if_neg aa] at H
   refine Wx ac <| Wr fun ak af => Mv rfl <| Oad rfl <| Osu rfl <| O_y rfl (Y_conv un3 un5 rfl) <| As rfl <| Ox af <| W_ret ?_
   obtain rfl := sinj H
   exact r1 rfl ⟨rfl, hs⟩

def ref14_Adapt.l1 : Nat → Int → Int → Option Int
  | 0, _, _ => none
  | ad + 1, aa, ab => if 455 < aa then ((ref14_Adapt.l1 ad ) (IntKind.i64.wrap (aa.tdiv 35)) (IntKind.i64.wrap (ab + 36))) else (if (IntKind.i64.wrap (aa + 38)) ≠ 0 then (some (IntKind.i64.wrap (ab + (IntKind.i64.wrap ((IntKind.i64.wrap (36 * aa)).tdiv (IntKind.i64.wrap (aa + 38))))))) else none)
def ref14_Adapt.j1 (x1 ac : Int) : Option Int := if x1 ≠ 0 then (ref14_Adapt.l1 K0 (IntKind.i64.wrap (ac + (IntKind.i64.wrap (ac.tdiv x1)))) 0) else none
def ref14_Adapt.f (x0 x1 : Int) (x2 : Bool) : Option Int := if x2 = true then (ref14_Adapt.j1 x1 (IntKind.i64.wrap (x0.tdiv 700))) else (ref14_Adapt.j1 x1 (IntKind.i64.wrap (x0.tdiv 2)))
theorem ref14_Adapt.c (hs : St w0 ρ (Γ) w) {x0 x1 : Int} {x2 : Bool} {r : Int} (H : ref14_Adapt.f x0 x1 x2 = some r) : CallsR Tryz.prog 75 [.int .i64 x0, .int .i64 x1, .bool x2] w (fun v w' => v = .int .i64 r ∧ St w0 ρ Γ w') := by
  rw [ref14_Adapt.f] at H
  refine Et Tryz.func75 Tryz.ntmps75 rfl <| Wr fun az aj => As rfl <| Ox aj <| W_seqj fun ak al ah => ?_
  have ai : ∀ (ac : Int) (w : World), ref14_Adapt.j1 x1 ac = some r → St w0 ρ (Γ) w → ak [(0, .int .i64 ac), (1, .int .i64 x1)] w := by
   intro ac w H hs
   rw [ref14_Adapt.j1] at H
   refine al _ _ <| Wr fun a0 am => Mv rfl <| Mv rfl <| Mv rfl ?_
   obtain ⟨an, H⟩ := gd H
   refine O_y rfl (Y_quo rfl rfl an) <| Oad rfl <| As rfl <| Ox am <| Wr fun a1 ao => As rfl <| Ox ao <| W_seq fun a2 ap => W_block fun a3 aq a4 => W_loop (σ := Nat × Int × Int) (fun (ad, aa, ab) => [(0, .int .i64 aa), (7, .int .i64 ab)]) (fun (ad, aa, ab) w => ref14_Adapt.l1 ad aa ab = some r ∧ St w0 ρ (Γ) w) (fun s => s.1) (K0, (IntKind.i64.wrap (ac + (IntKind.i64.wrap (ac.tdiv x1)))), 0) (T2 rfl) (Ai H hs) ?_
   rintro ⟨ad, aa, ab⟩ w a5 ⟨H, hs⟩ ae
   show W _ _ _ _ _ _ [(0, .int .i64 aa), (7, .int .i64 ab)] w
   cases ad with
   | zero => rw [ref14_Adapt.l1] at H; cases H
   | succ ad =>
   rw [ref14_Adapt.l1] at H
   refine W_seq fun a6 ar => Wr fun a7 au => Mv rfl <| Ogt rfl <| Ox au <| W_if rfl (fun af => ?_) (fun af => ?_)
   ·rw [if_pos af] at H
    refine Wx ar <| W_block fun a8 a9 ba => Wr fun bb av => Mv rfl <| O_y rfl (Y_quo rfl rfl (by decide)) <| As rfl <| Ox av <| W_region <| Mv rfl <| Oad rfl <| As rfl <| O_nil (ae (ad, (IntKind.i64.wrap (aa.tdiv 35)), (IntKind.i64.wrap (ab + 36))) _ _ (T2 rfl) (Ai H hs) (Nat.lt_succ_self _))
   ·rw [if_neg af] at H
    refine W_exit (aq _ _ (ap _ _ <| Wr fun bc aw => Mv rfl <| Mv rfl <| Oml rfl <| Mv rfl <| Oad rfl ?_))
    obtain ⟨ax, H⟩ := gd H
    refine O_y rfl (Y_quo rfl rfl ax) <| Oad rfl <| As rfl <| Ox aw <| W_ret ?_
    obtain rfl := sinj H
    exact r1 rfl ⟨rfl, hs⟩
  refine Wr fun bd ay => Mv rfl <| Ox ay <| W_cond rfl (fun ag => ?_) (fun ag => ?_)
  ·rw [if_pos ag] at H
   refine W_region <| Mv rfl <| O_y rfl (Y_quo rfl rfl (by decide)) <| As rfl <| O_nil (ah _ _ _ (T2 rfl) (ai (IntKind.i64.wrap (x0.tdiv 700)) _ H hs))
  ·rw [if_neg (bft ag)] at H
   refine W_region <| Mv rfl <| O_y rfl (Y_quo rfl rfl (by decide)) <| As rfl <| O_nil (ah _ _ _ (T2 rfl) (ai (IntKind.i64.wrap (x0.tdiv 2)) _ H hs))

def ref14_Digit.j1 (x0 : Int) (aa : Bool) : Option Int := if aa = true then (some (IntKind.i64.wrap ((IntKind.i64.wrap (IntKind.u8.wrap (x0 - 48))) + 26))) else (some (-1))
def ref14_Digit.j2 (x0 : Int) (ab : Bool) : Option Int := if ab = true then (some (IntKind.i64.wrap (IntKind.u8.wrap (x0 - 65)))) else (if 48 ≤ x0 then (ref14_Digit.j1 x0 (decide (x0 ≤ 57))) else (ref14_Digit.j1 x0 false))
def ref14_Digit.j3 (x0 : Int) (ac : Bool) : Option Int := if ac = true then (some (IntKind.i64.wrap (IntKind.u8.wrap (x0 - 97)))) else (if 65 ≤ x0 then (ref14_Digit.j2 x0 (decide (x0 ≤ 90))) else (ref14_Digit.j2 x0 false))
def ref14_Digit.f (x0 : Int) : Option Int := if 97 ≤ x0 then (ref14_Digit.j3 x0 (decide (x0 ≤ 122))) else (ref14_Digit.j3 x0 false)
theorem ref14_Digit.c (hs : St w0 ρ (Γ) w) {x0 r : Int} (H : ref14_Digit.f x0 = some r) : CallsR Tryz.prog 128 [.int .u8 x0] w (fun v w' => v = .int .i64 r ∧ St w0 ρ Γ w') := by
  rw [ref14_Digit.f] at H
  refine Et Tryz.func128 Tryz.ntmps128 rfl <| Wr fun a5 ap => As rfl <| Ox ap <| W_seq fun a6 aq => W_seqj fun ar au aj => ?_
  have ak : ∀ (ac : Bool) (w : World), ref14_Digit.j3 x0 ac = some r → St w0 ρ (Γ) w → ar [(0, .int .u8 x0), (8, .bool ac)] w := by
   intro ac w H hs
   rw [ref14_Digit.j3] at H
   refine au _ _ <| W_cond rfl (fun ad => ?_) (fun ad => ?_)
   ·rw [if_pos ad] at H
    refine Wr fun a7 av => Mv rfl <| Osu rfl <| O_y rfl (Y_conv un5 un3 rfl) <| As rfl <| Ox av <| W_ret ?_
    obtain rfl := sinj H
    exact r1 rfl ⟨rfl, hs⟩
   ·rw [if_neg (bft ad)] at H
    refine Wx aq <| W_seq fun a8 aw => W_seqj fun ax ay al => ?_
    have am : ∀ (ab : Bool) (w : World), ref14_Digit.j2 x0 ab = some r → St w0 ρ (Γ) w → ax [(0, .int .u8 x0), (17, .bool ab)] w := by
     intro ab w H hs
     rw [ref14_Digit.j2] at H
     refine ay _ _ <| W_cond rfl (fun ae => ?_) (fun ae => ?_)
     ·rw [if_pos ae] at H
      refine Wr fun a9 az => Mv rfl <| Osu rfl <| O_y rfl (Y_conv un5 un3 rfl) <| As rfl <| Ox az <| W_ret ?_
      obtain rfl := sinj H
      exact r1 rfl ⟨rfl, hs⟩
     ·rw [if_neg (bft ae)] at H
      refine Wx aw <| W_seq fun ba a0 => W_seqj fun a1 a2 an => ?_
      have ao : ∀ (aa : Bool) (w : World), ref14_Digit.j1 x0 aa = some r → St w0 ρ (Γ) w → a1 [(0, .int .u8 x0), (26, .bool aa)] w := by
       intro aa w H hs
       rw [ref14_Digit.j1] at H
       refine a2 _ _ <| W_cond rfl (fun af => ?_) (fun af => ?_)
       ·rw [if_pos af] at H
        refine Wr fun bb a3 => Mv rfl <| Osu rfl <| O_y rfl (Y_conv un5 un3 rfl) <| Oad rfl <| As rfl <| Ox a3 <| W_ret ?_
        obtain rfl := sinj H
        exact r1 rfl ⟨rfl, hs⟩
       ·rw [if_neg (bft af)] at H
        refine Wx a0 <| Wr fun bc a4 => As rfl <| Ox a4 <| W_ret ?_
        obtain rfl := sinj H
        exact r1 rfl ⟨rfl, hs⟩
      refine W_region <| Mv rfl <| Oge rfl <| Mv rfl <| O_if (dj := 23) rfl (fun ag => ?_) (fun ag => ?_)
      ·rw [if_pos ag] at H
       refine Oe rfl <| Mv rfl <| Oe rfl <| Ole rfl <| Opk rfl <| O_nil (an _ _ _ (T2 rfl) (ao (decide (x0 ≤ 57)) _ H hs))
      ·rw [if_neg ag] at H
       refine On rfl <| On rfl <| Opk rfl <| O_nil (an _ _ _ (T2 rfl) (ao false _ H hs))
    refine W_region <| Mv rfl <| Oge rfl <| Mv rfl <| O_if (dj := 14) rfl (fun ah => ?_) (fun ah => ?_)
    ·rw [if_pos ah] at H
     refine Oe rfl <| Mv rfl <| Oe rfl <| Ole rfl <| Opk rfl <| O_nil (al _ _ _ (T2 rfl) (am (decide (x0 ≤ 90)) _ H hs))
    ·rw [if_neg ah] at H
     refine On rfl <| On rfl <| Opk rfl <| O_nil (al _ _ _ (T2 rfl) (am false _ H hs))
  refine W_region <| Mv rfl <| Oge rfl <| Mv rfl <| O_if (dj := 5) rfl (fun ai => ?_) (fun ai => ?_)
  ·rw [if_pos ai] at H
   refine Oe rfl <| Mv rfl <| Oe rfl <| Ole rfl <| Opk rfl <| O_nil (aj _ _ _ (T2 rfl) (ak (decide (x0 ≤ 122)) _ H hs))
  ·rw [if_neg ai] at H
   refine On rfl <| On rfl <| Opk rfl <| O_nil (aj _ _ _ (T2 rfl) (ak false _ H hs))

def ref14_Decode.j1 (bl : Int → Int → Option (List Int × Int × Int)) (an a5 : Int) : Option (List Int × Int × Int) := bl a5 (IntKind.i64.wrap (an + 1))
def ref14_Decode.l1 (a0 : List Int → Int → Int → Int → Int → Option (List Int × Int × Int)) : Nat → List Int → Int → Int → Int → Int → Int → Int → List Int → Int → Option (List Int × Int × Int)
  | 0, _, _, _, _, _, _, _, _, _ => none
  | a2 + 1, aa, ag, ae, ac, ab, ao, a7, ad, ah => if ((IntKind.i64.wrap (ac + (IntKind.i64.wrap (ao * ab)))).tmod (IntKind.i64.wrap ((aa.length : Int) + 1))) < ah then (if (0 : Int) ≤ IntKind.i64.wrap (ah - 1) ∧ IntKind.i64.wrap (ah - 1) < (ad.length : Int) then (if (0 : Int) ≤ ah ∧ ah < (ad.length : Int) then ((ref14_Decode.l1 a0 a2 aa ag ae ac ab ao a7) (ad.set ah.toNat (rd ad (IntKind.i64.wrap (ah - 1)))) (IntKind.i64.wrap (ah - 1))) else none) else none) else (if (0 : Int) ≤ (IntKind.i64.wrap (ac + (IntKind.i64.wrap (ao * ab)))).tmod (IntKind.i64.wrap ((aa.length : Int) + 1)) ∧ (IntKind.i64.wrap (ac + (IntKind.i64.wrap (ao * ab)))).tmod (IntKind.i64.wrap ((aa.length : Int) + 1)) < (ad.length : Int) then (a0 (ad.set ((IntKind.i64.wrap (ac + (IntKind.i64.wrap (ao * ab)))).tmod (IntKind.i64.wrap ((aa.length : Int) + 1))).toNat (IntKind.i32.wrap (IntKind.i64.wrap (ag + (IntKind.i64.wrap ((IntKind.i64.wrap (ac + (IntKind.i64.wrap (ao * ab)))).tdiv (IntKind.i64.wrap ((aa.length : Int) + 1)))))))) (IntKind.i64.wrap (ae + 1)) (IntKind.i64.wrap (ag + (IntKind.i64.wrap ((IntKind.i64.wrap (ac + (IntKind.i64.wrap (ao * ab)))).tdiv (IntKind.i64.wrap ((aa.length : Int) + 1)))))) (IntKind.i64.wrap (((IntKind.i64.wrap (ac + (IntKind.i64.wrap (ao * ab)))).tmod (IntKind.i64.wrap ((aa.length : Int) + 1))) + 1)) a7) else none)
def ref14_Decode.l2 (a0 : List Int → Int → Int → Int → Int → Option (List Int × Int × Int)) : Nat → ByteArray → List Int → Int → Int → Int → Int → Int → Int → Int → Option (List Int × Int × Int)
  | 0, _, _, _, _, _, _, _, _, _ => none
  | a3 + 1, x0, aa, ag, ai, aj, ae, ac, ab, ar => if ae = (x0.size : Int) then (some (([] : List Int), ae, 140)) else (if (0 : Int) ≤ ae ∧ ae < (x0.size : Int) then ((ref14_Digit.f (bt x0 ae)).bind fun ao => (if ao < 0 then (some (([] : List Int), ae, 140)) else (if 2147483647 < (IntKind.i64.wrap (ac + (IntKind.i64.wrap (ao * ab)))) then (some (([] : List Int), ae, 142)) else ((ref14_threshold.f ar aj).bind fun bc => (if ao < bc then ((ref14_Adapt.f (IntKind.i64.wrap ((IntKind.i64.wrap (ac + (IntKind.i64.wrap (ao * ab)))) - ai)) (IntKind.i64.wrap ((aa.length : Int) + 1)) (decide (ai = 0))).bind fun a7 => (if (IntKind.i64.wrap ((aa.length : Int) + 1)) ≠ 0 then (if 1114111 < (IntKind.i64.wrap (ag + (IntKind.i64.wrap ((IntKind.i64.wrap (ac + (IntKind.i64.wrap (ao * ab)))).tdiv (IntKind.i64.wrap ((aa.length : Int) + 1)))))) then (some (([] : List Int), ae, 142)) else ((ref14_scalar.f (IntKind.i32.wrap (IntKind.i64.wrap (ag + (IntKind.i64.wrap ((IntKind.i64.wrap (ac + (IntKind.i64.wrap (ao * ab)))).tdiv (IntKind.i64.wrap ((aa.length : Int) + 1)))))))).bind fun b2 => (if (!b2) = true then (some (([] : List Int), ae, 143)) else (if aa.length + ([0]).length ≤ most then (ref14_Decode.l1 a0 K0 aa ag ae ac ab ao a7 (aa ++ ([0])) (IntKind.i64.wrap (((aa ++ ([0])).length : Int) - 1))) else none)))) else none)) else (if 2147483647 < (IntKind.i64.wrap (ab * (IntKind.i64.wrap (36 - bc)))) then (some (([] : List Int), ae, 142)) else ((ref14_Decode.l2 a0 a3 x0 aa ag ai aj) (IntKind.i64.wrap (ae + 1)) (IntKind.i64.wrap (ac + (IntKind.i64.wrap (ao * ab)))) (IntKind.i64.wrap (ab * (IntKind.i64.wrap (36 - bc)))) (IntKind.i64.wrap (ar + 36))))))))) else none)
def ref14_Decode.l3 : Nat → ByteArray → List Int → Int → Int → Int → Int → Option (List Int × Int × Int)
  | 0, _, _, _, _, _, _ => none
  | az + 1, x0, aa, ax, ag, ai, aj => if ax < (x0.size : Int) then (ref14_Decode.l2 (ref14_Decode.l3 az x0) K0 x0 aa ag ai aj ax ai 1 36) else (some (aa, 0, 0))
def ref14_Decode.j2 (x0 : ByteArray) (af : List Int) (a1 : Int) : Option (List Int × Int × Int) := ref14_Decode.l3 K0 x0 af a1 128 0 72
def ref14_Decode.l4 : Nat → ByteArray → Int → List Int → Int → Option (List Int × Int × Int)
  | 0, _, _, _, _ => none
  | a8 + 1, x0, al, af, ak => if ak < al then (if (0 : Int) ≤ ak ∧ ak < (x0.size : Int) then (if 127 < (bt x0 ak) then (some (([] : List Int), ak, 141)) else (if af.length + ([IntKind.i32.wrap (bt x0 ak)]).length ≤ most then ((ref14_Decode.l4 a8 x0 al) (af ++ ([IntKind.i32.wrap (bt x0 ak)])) (IntKind.i64.wrap (ak + 1))) else none)) else none) else (if 0 < al then (ref14_Decode.j2 x0 af (IntKind.i64.wrap (al + 1))) else (ref14_Decode.j2 x0 af al))
def ref14_Decode.l5 : Nat → ByteArray → Int → Int → Option (List Int × Int × Int)
  | 0, _, _, _ => none
  | a4 + 1, x0, al, an => if an < (x0.size : Int) then (if (0 : Int) ≤ an ∧ an < (x0.size : Int) then (if (bt x0 an) = 45 then (ref14_Decode.j1 (ref14_Decode.l5 a4 x0) an an) else (ref14_Decode.j1 (ref14_Decode.l5 a4 x0) an al)) else none) else (ref14_Decode.l4 K0 x0 al ([] : List Int) 0)
def ref14_Decode.f (x0 : ByteArray) : Option (List Int × Int × Int) := ref14_Decode.l5 K0 x0 0 0
theorem ref14_Decode.c (hs : St w0 ρ (Γ) w) {x0 : ByteArray} {r : List Int × Int × Int} (H : ref14_Decode.f x0 = some r) : CallsR Tryz.prog 76 [.string x0] w (fun v w' => ∃ (ρ' : Hp) (v0 : Value) (cs0 : List Value), v = .tuple #[v0, .int .i64 r.2.1, .int .i64 r.2.2] ∧ Le ρ ρ' ∧ St w0 ρ' (.row v0 21 (Rep.int .i32).sz r.1.length cs0 :: Γ) w' ∧ RowR (Rep.int .i32) ρ' cs0 r.1) := by
  rw [ref14_Decode.f] at H
  refine Et Tryz.func76 Tryz.ntmps76 rfl <| Wr fun iw fa => As rfl <| As rfl <| As rfl <| Ox fa <| Wr fun ix fb => As rfl <| Ox fb <| W_seq fun iy fc => W_seq fun iz fd => W_region ?_
  refine As rfl <| Ox fd <| W_block fun ja fe jb => W_loop (σ := Nat × Int × Int) (fun (a4, al, an) => [(0, .string x0), (5, .int .i64 al), (6, .int .i64 an)]) (fun (a4, al, an) w => ref14_Decode.l5 a4 x0 al an = some r ∧ St w0 ρ (Γ) w) (fun s => s.1) (K0, 0, 0) (T3 rfl) (Ai H hs) ?_
  rintro ⟨a4, al, an⟩ w jc ⟨H, hs⟩ bm
  show W _ _ _ _ _ _ [(0, .string x0), (5, .int .i64 al), (6, .int .i64 an)] w
  cases a4 with
  | zero => rw [ref14_Decode.l5] at H; cases H
  | succ a4 =>
  rw [ref14_Decode.l5] at H
  refine W_seq fun jd ff => Wr fun je fg => Mv rfl <| Mv rfl <| O_y rfl (Y_lens un9 rfl) <| Ols rfl <| Ox fg <| W_if rfl (fun ci => ?_) (fun ci => ?_)
  ·rw [if_pos ci] at H
   refine Wx ff <| W_seqj fun fh fi e5 => ?_
   have e6 : ∀ (a5 : Int) (w : World), ref14_Decode.j1 (ref14_Decode.l5 a4 x0) an a5 = some r → St w0 ρ (Γ) w → fh [(0, .string x0), (5, .int .i64 a5), (6, .int .i64 an)] w := by
    intro a5 w H hs
    rw [ref14_Decode.j1] at H
    refine fi _ _ <| W_region <| Mv rfl <| Oad rfl <| As rfl <| O_nil (bm (a4, a5, (IntKind.i64.wrap (an + 1))) _ _ (T3 rfl) (Ai H hs) (Nat.lt_succ_self _))
   refine W_block fun jf jg jh => Wr fun ji fj => Mv rfl <| Mv rfl ?_
   obtain ⟨e7, H⟩ := gd H
   refine O_y rfl (Y_ixs un9 rfl rfl e7.1 e7.2) <| Oeq rfl <| Ox fj <| W_if rfl (fun cj => ?_) (fun cj => ?_)
   ·rw [if_pos cj] at H
    refine W_region <| Mv rfl <| As rfl <| O_nil (e5 _ _ _ (T3 rfl) (e6 an _ H hs))
   ·rw [if_neg cj] at H
    exact W_skip (e5 _ _ _ (T3 rfl) (e6 al _ H hs))
  ·rw [if_neg ci] at H
   refine W_exit (fe _ _ (fc _ _ <| Wr fun jj fk => O_lit2 (xs := []) (cs := []) el28 hs rfl rfl rfl (by decide) (by decide) rfl sz_nil flat_nil (fun fl w hs => ?_)))
   have fm : RowR (Rep.int .i32) ρ ([]) ([] : List Int) := RowR.nil _ _
   refine As rfl <| Ox fk <| W_seq fun jk fn => Wr fun jl fo => As rfl <| Ox fo <| W_block fun jm fp jn => W_loop (σ := Nat × List Int × Int × Value × List Value) (fun (a8, af, ak, aq, au) => [(0, .string x0), (5, .int .i64 al), (7, aq), (8, .int .i64 ak)]) (fun (a8, af, ak, aq, au) w => ref14_Decode.l4 a8 x0 al af ak = some r ∧ St w0 ρ ((.row aq 21 ((Rep.int .i32).sz) af.length au) :: Γ) w ∧ RowR (Rep.int .i32) ρ au af) (fun s => s.1) (K0, ([] : List Int), 0, (.slice (some ⟨fl, 0, none⟩) 0 0), ([])) (T4 rfl) (Ai H (Ai hs fm)) ?_
   rintro ⟨a8, af, ak, aq, au⟩ w jo ⟨H, hs, a9⟩ bn
   show W _ _ _ _ _ _ [(0, .string x0), (5, .int .i64 al), (7, aq), (8, .int .i64 ak)] w
   cases a8 with
   | zero => rw [ref14_Decode.l4] at H; cases H
   | succ a8 =>
   rw [ref14_Decode.l4] at H
   refine W_seq fun jp fq => Wr fun jq fr => Mv rfl <| Mv rfl <| Ols rfl <| Ox fr <| W_if rfl (fun bo => ?_) (fun bo => ?_)
   ·rw [if_pos bo] at H
    refine Wx fq <| W_seq fun fs ck => W_block fun ft fu fv => W_seq fun fw cl => Wr fun fx cm => Mv rfl <| Mv rfl ?_
    obtain ⟨be, H⟩ := gd H
    refine O_y rfl (Y_ixs un9 rfl rfl be.1 be.2) <| Ogt rfl <| Ox cm <| W_if rfl (fun bp => ?_) (fun bp => ?_)
    ·rw [if_pos bp] at H
     refine Wr fun fy cn => Mv rfl <| As rfl <| As rfl <| As rfl <| Ox cn <| W.weak [(2, _), (3, _), (4, _)] (T3 rfl) <| W_ret ?_
     have hs := hs.rowNil 21 (Rep.int .i32).sz
     have co := RowR.nil (Rep.int .i32) ρ
     obtain rfl := sinj H
     exact ret3 rfl rfl rfl rfl ⟨_, _, _, rfl, Le.rfl' _, (hs.sub (ssc (ssk ssr))), co⟩
    ·rw [if_neg bp] at H
     refine Wx cl <| W_region <| Mv rfl <| Mv rfl <| Mv rfl <| O_y rfl (Y_ixs un9 rfl rfl be.1 be.2) <| O_y rfl (Y_conv un5 un21 rfl) <| O_lit2 (xs := [.tmp 45]) (cs := [.int .i32 (IntKind.i32.wrap (bt x0 ak))]) el28 hs rfl rfl rfl (by decide) (by decide) rfl (sz_cons rfl sz_nil) (flat_cons rfl flat_nil) (fun fz w hs => ?_)
     have b3 : RowR (Rep.int .i32) ρ ([.int .i32 (IntKind.i32.wrap (bt x0 ak))]) [IntKind.i32.wrap (bt x0 ak)] := RowR.cons (c := [.int .i32 (IntKind.i32.wrap (bt x0 ak))]) (x := IntKind.i32.wrap (bt x0 ak)) rfl (RowR.nil _ _)
     obtain ⟨cp, H⟩ := gd H
     refine O_appendR (i := 1) el28 hs rfl a9 rfl rfl rfl (Src.lit (j := 0) hs rfl b3) b3 cp (fun cq b4 w cr hs => As rfl <| Ox ck <| W.weak [(0, _), (5, _), (7, _), (8, _)] (T4 rfl) <| W_region <| Mv rfl <| Oad rfl <| As rfl <| O_nil (bn (a8, (af ++ ([IntKind.i32.wrap (bt x0 ak)])), (IntKind.i64.wrap (ak + 1)), cq, b4) _ _ (T4 rfl) (Ai H (Ai (hs.sub (ssk (ssc ssr))) cr)) (Nat.lt_succ_self _)))
   ·rw [if_neg bo] at H
    refine W_exit (fp _ _ (fn _ _ <| W_seqj fun ct cu b5 => ?_))
    have b6 : ∀ (a1 : Int) (w : World), ref14_Decode.j2 x0 af a1 = some r → St w0 ρ ((.row aq 21 ((Rep.int .i32).sz) af.length au) :: Γ) w → ct [(0, .string x0), (5, .int .i64 a1), (7, aq)] w := by
     intro a1 w H hs
     rw [ref14_Decode.j2] at H
     refine cu _ _ <| Wr fun ga cv => As rfl <| As rfl <| As rfl <| Ox cv <| W_seq fun gb cw => W_block fun gc cx ge => W_loop (σ := Nat × List Int × Int × Int × Int × Int × Value × List Value) (fun (az, aa, ax, ag, ai, aj, am, av) => [(0, .string x0), (5, .int .i64 ax), (7, am), (9, .int .i64 ag), (10, .int .i64 ai), (11, .int .i64 aj)]) (fun (az, aa, ax, ag, ai, aj, am, av) w => ref14_Decode.l3 az x0 aa ax ag ai aj = some r ∧ St w0 ρ ((.row am 21 ((Rep.int .i32).sz) aa.length av) :: Γ) w ∧ RowR (Rep.int .i32) ρ av aa) (fun s => s.1) (K0, af, a1, 128, 0, 72, aq, au) sbn (Ai H (Ai hs a9)) ?_
     rintro ⟨az, aa, ax, ag, ai, aj, am, av⟩ w gf ⟨H, hs, a6⟩ bf
     show W _ _ _ _ _ _ [(0, .string x0), (5, .int .i64 ax), (7, am), (9, .int .i64 ag), (10, .int .i64 ai), (11, .int .i64 aj)] w
     cases az with
     | zero => rw [ref14_Decode.l3] at H; cases H
     | succ az =>
     rw [ref14_Decode.l3] at H
     refine W_seq fun gg cy => Wr fun gh cz => Mv rfl <| Mv rfl <| O_y rfl (Y_lens un9 rfl) <| Ols rfl <| Ox cz <| W_if rfl (fun bq => ?_) (fun bq => ?_)
     ·rw [if_pos bq] at H
      refine Wx cy <| W_block fun gi gj gk => Wr fun gl da => Mv rfl <| As rfl <| As rfl <| As rfl <| Ox da <| W_seq fun gm db => W_block fun gn dc go => W_loop (σ := Nat × Int × Int × Int × Int) (fun (a3, ae, ac, ab, ar) => [(0, .string x0), (5, .int .i64 ae), (7, am), (9, .int .i64 ag), (10, .int .i64 ac), (11, .int .i64 aj), (12, .int .i64 ai), (13, .int .i64 ab), (14, .int .i64 ar)]) (fun (a3, ae, ac, ab, ar) w => ref14_Decode.l2 (ref14_Decode.l3 az x0) a3 x0 aa ag ai aj ae ac ab ar = some r ∧ St w0 ρ ((.row am 21 ((Rep.int .i32).sz) aa.length av) :: Γ) w) (fun s => s.1) (K0, ax, ai, 1, 36) sbn (Ai H hs) ?_
      rintro ⟨a3, ae, ac, ab, ar⟩ w gp ⟨H, hs⟩ bg
      show W _ _ _ _ _ _ [(0, .string x0), (5, .int .i64 ae), (7, am), (9, .int .i64 ag), (10, .int .i64 ac), (11, .int .i64 aj), (12, .int .i64 ai), (13, .int .i64 ab), (14, .int .i64 ar)] w
      cases a3 with
      | zero => rw [ref14_Decode.l2] at H; cases H
      | succ a3 =>
      rw [ref14_Decode.l2] at H
      refine W_block fun gq gr dd => W_seq fun gs de => Wr fun gt df => Mv rfl <| Mv rfl <| O_y rfl (Y_lens un9 rfl) <| Oeq rfl <| Ox df <| W_if rfl (fun br => ?_) (fun br => ?_)
      ·rw [if_pos br] at H
       refine Wr fun gu dg => Mv rfl <| As rfl <| As rfl <| As rfl <| Ox dg <| W.weak [(2, _), (3, _), (4, _)] (T3 rfl) <| W_ret ?_
       have hs := hs.rowNil 21 (Rep.int .i32).sz
       have dh := RowR.nil (Rep.int .i32) ρ
       obtain rfl := sinj H
       exact ret3 rfl rfl rfl rfl ⟨_, _, _, rfl, Le.rfl' _, (hs.sub (ssc (ssk ssr))), dh⟩
      ·rw [if_neg br] at H
       refine Wx de <| Wr fun gv di => Mv rfl <| Mv rfl ?_
       obtain ⟨b7, H⟩ := gd H
       refine O_y rfl (Y_ixs un9 rfl rfl b7.1 b7.2) ?_
       obtain ⟨ao, b8, H⟩ := bnd H
       refine Oc rfl (ref14_Digit.c hs b8) (fun gw w hpost => ?_)
       obtain ⟨rfl, hs⟩ := hpost
       refine As rfl <| Ox di <| W.weak [(0, _), (5, _), (7, _), (9, _), (10, _), (11, _), (12, _), (13, _), (14, _), (15, _)] sbn ?_
       refine W_seq fun gx dj => Wr fun gy dk => Mv rfl <| Ols rfl <| Ox dk <| W_if rfl (fun bs => ?_) (fun bs => ?_)
       ·rw [if_pos bs] at H
        refine Wr fun gz dl => Mv rfl <| As rfl <| As rfl <| As rfl <| Ox dl <| W.weak [(2, _), (3, _), (4, _)] (T3 rfl) <| W_ret ?_
        have hs := hs.rowNil 21 (Rep.int .i32).sz
        have dm := RowR.nil (Rep.int .i32) ρ
        obtain rfl := sinj H
        exact ret3 rfl rfl rfl rfl ⟨_, _, _, rfl, Le.rfl' _, (hs.sub (ssc (ssk ssr))), dm⟩
       ·rw [if_neg bs] at H
        refine Wx dj <| Wr fun ha dn => Mv rfl <| Mv rfl <| Mv rfl <| Oml rfl <| Oad rfl <| As rfl <| Ox dn <| W.weak [(0, _), (5, _), (7, _), (9, _), (10, _), (11, _), (12, _), (13, _), (14, _), (15, _)] sbn ?_
        refine W_seq fun hb dp => Wr fun hc dq => Mv rfl <| Ogt rfl <| Ox dq <| W_if rfl (fun bu => ?_) (fun bu => ?_)
        ·rw [if_pos bu] at H
         refine Wr fun hd dr => Mv rfl <| As rfl <| As rfl <| As rfl <| Ox dr <| W.weak [(2, _), (3, _), (4, _)] (T3 rfl) <| W_ret ?_
         have hs := hs.rowNil 21 (Rep.int .i32).sz
         have ds := RowR.nil (Rep.int .i32) ρ
         obtain rfl := sinj H
         exact ret3 rfl rfl rfl rfl ⟨_, _, _, rfl, Le.rfl' _, (hs.sub (ssc (ssk ssr))), ds⟩
        ·rw [if_neg bu] at H
         refine Wx dp <| Wr fun he dt => Mv rfl <| Mv rfl ?_
         obtain ⟨bc, b9, H⟩ := bnd H
         refine Oc rfl (ref14_threshold.c hs b9) (fun hf w hpost => ?_)
         obtain ⟨rfl, hs⟩ := hpost
         refine As rfl <| Ox dt <| W.weak [(0, _), (5, _), (7, _), (9, _), (10, _), (11, _), (12, _), (13, _), (14, _), (15, _), (16, _)] sbn ?_
         refine W_seq fun hg du => Wr fun hh dv => Mv rfl <| Mv rfl <| Ols rfl <| Ox dv <| W_if rfl (fun bv => ?_) (fun bv => ?_)
         ·rw [if_pos bv] at H
          refine W_exit (dd _ _ _ rfl (dc _ _ (db _ _ <| Wr fun hi dw => Mv rfl <| O_y rfl (Y_lenRow (i := 0) un28 hs rfl rfl) <| Oad rfl <| As rfl <| Ox dw <| W.weak [(0, _), (5, _), (7, _), (9, _), (10, _), (12, _), (17, _)] sbn ?_)))
          refine Wr fun hj dx => Mv rfl <| Mv rfl <| Osu rfl <| Mv rfl <| Mv rfl <| Oeq rfl ?_
          obtain ⟨a7, ca, H⟩ := bnd H
          refine Oc rfl (ref14_Adapt.c hs ca) (fun hk w hpost => ?_)
          obtain ⟨rfl, hs⟩ := hpost
          refine As rfl <| Ox dx <| W.weak [(0, _), (5, _), (7, _), (9, _), (10, _), (11, _), (17, _)] sbn ?_
          refine Wr fun hl dy => Mv rfl <| Mv rfl <| Mv rfl ?_
          obtain ⟨cb, H⟩ := gd H
          refine O_y rfl (Y_quo rfl rfl cb) <| Oad rfl <| As rfl <| Ox dy <| Wr fun hm dz => Mv rfl <| Mv rfl <| O_y rfl (Y_rem rfl rfl cb) <| As rfl <| Ox dz <| W.weak [(0, _), (5, _), (7, _), (9, _), (10, _), (11, _)] sbn ?_
          refine W_seq fun hn ea => Wr fun ho eb => Mv rfl <| Ogt rfl <| Ox eb <| W_if rfl (fun bw => ?_) (fun bw => ?_)
          ·rw [if_pos bw] at H
           refine Wr fun hp ec => Mv rfl <| As rfl <| As rfl <| As rfl <| Ox ec <| W_ret ?_
           have hs := hs.rowNil 21 (Rep.int .i32).sz
           have ed := RowR.nil (Rep.int .i32) ρ
           obtain rfl := sinj H
           exact ret3 rfl rfl rfl rfl ⟨_, _, _, rfl, Le.rfl' _, (hs.sub (ssc (ssk ssr))), ed⟩
          ·rw [if_neg bw] at H
           refine Wx ea <| W_seq fun hq ee => Wr fun hr ef => Mv rfl <| O_y rfl (Y_conv un3 un21 rfl) ?_
           obtain ⟨b2, cc, H⟩ := bnd H
           refine Oc rfl (ref14_scalar.c hs cc) (fun ht w hpost => ?_)
           obtain ⟨rfl, hs⟩ := hpost
           refine Ont rfl <| Ox ef <| W_cond rfl (fun bx => ?_) (fun bx => ?_)
           ·rw [if_pos bx] at H
            refine Wr fun hu eg => Mv rfl <| As rfl <| As rfl <| As rfl <| Ox eg <| W.weak [(2, _), (3, _), (4, _)] (T3 rfl) <| W_ret ?_
            have hs := hs.rowNil 21 (Rep.int .i32).sz
            have eh := RowR.nil (Rep.int .i32) ρ
            obtain rfl := sinj H
            exact ret3 rfl rfl rfl rfl ⟨_, _, _, rfl, Le.rfl' _, (hs.sub (ssc (ssk ssr))), eh⟩
           ·rw [if_neg (bft bx)] at H
            refine Wx ee <| Wr fun hv ei => Mv rfl <| O_lit2 (xs := [.const (.int .i32 0)]) (cs := [.int .i32 0]) el28 hs rfl rfl rfl (by decide) (by decide) rfl (sz_cons rfl sz_nil) (flat_cons rfl flat_nil) (fun ej w hs => ?_)
            have cd : RowR (Rep.int .i32) ρ ([.int .i32 0]) [0] := RowR.cons (c := [.int .i32 0]) (x := 0) rfl (RowR.nil _ _)
            obtain ⟨ek, H⟩ := gd H
            refine O_appendR (i := 1) el28 hs rfl a6 rfl rfl rfl (Src.lit (j := 0) hs rfl cd) cd ek (fun el ce w em hs => As rfl <| Ox ei <| W.weak [(0, _), (5, _), (7, _), (9, _), (10, _), (11, _)] sbn ?_)
            refine W_seq fun hw en => Wr fun hx eo => Mv rfl <| O_y rfl (Y_lenRow (i := 1) un28 hs rfl rfl) <| Osu rfl <| As rfl <| Ox eo <| W_block fun hy ep hz => W_loop (σ := Nat × List Int × Int × Value × List Value) (fun (a2, ad, ah, ap, ay) => [(0, .string x0), (5, .int .i64 ae), (7, ap), (9, .int .i64 (IntKind.i64.wrap (ag + (IntKind.i64.wrap ((IntKind.i64.wrap (ac + (IntKind.i64.wrap (ao * ab)))).tdiv (IntKind.i64.wrap ((aa.length : Int) + 1))))))), (10, .int .i64 ((IntKind.i64.wrap (ac + (IntKind.i64.wrap (ao * ab)))).tmod (IntKind.i64.wrap ((aa.length : Int) + 1)))), (11, .int .i64 a7), (18, .int .i64 ah)]) (fun (a2, ad, ah, ap, ay) w => ref14_Decode.l1 (ref14_Decode.l3 az x0) a2 aa ag ae ac ab ao a7 ad ah = some r ∧ St w0 ρ ((.row (.slice (some ⟨ej, 0, none⟩) 1 1) 21 ((Rep.int .i32).sz) (([0]).length) ([.int .i32 0])) :: (.row ap 21 ((Rep.int .i32).sz) ad.length ay) :: Γ) w ∧ RowR (Rep.int .i32) ρ ay ad) (fun s => s.1) (K0, (aa ++ ([0])), (IntKind.i64.wrap (((aa ++ ([0])).length : Int) - 1)), el, ce) sbn (Ai H (Ai hs em)) ?_
            rintro ⟨a2, ad, ah, ap, ay⟩ w ia ⟨H, hs, aw⟩ bh
            show W _ _ _ _ _ _ [(0, .string x0), (5, .int .i64 ae), (7, ap), (9, .int .i64 (IntKind.i64.wrap (ag + (IntKind.i64.wrap ((IntKind.i64.wrap (ac + (IntKind.i64.wrap (ao * ab)))).tdiv (IntKind.i64.wrap ((aa.length : Int) + 1))))))), (10, .int .i64 ((IntKind.i64.wrap (ac + (IntKind.i64.wrap (ao * ab)))).tmod (IntKind.i64.wrap ((aa.length : Int) + 1)))), (11, .int .i64 a7), (18, .int .i64 ah)] w
            cases a2 with
            | zero => rw [ref14_Decode.l1] at H; cases H
            | succ a2 =>
            rw [ref14_Decode.l1] at H
            refine W_seq fun ib eq => Wr fun ic er => Mv rfl <| Mv rfl <| Ogt rfl <| Ox er <| W_if rfl (fun bz => ?_) (fun bz => ?_)
            ·rw [if_pos bz] at H
             refine Wx eq <| W_seq fun id es => W_block fun ie ig ih => W_region <| Mv rfl <| Mv rfl <| Mv rfl <| Mv rfl <| Osu rfl ?_
             obtain ⟨bd, H⟩ := gd H
             obtain ⟨ii, bi⟩ := hs.rowBlock (j := 1) rfl (by have := bd.2; omega)
             obtain ⟨_, rfl, cf⟩ := aw.at bd.1 bd.2
             refine O_y rfl (Y_ixRow (j := 1) el28 hs rfl bi rfl rfl bd.1 bd.2) <| O_y rfl (Y_load ag21 rfl (hs.rowCell (j := 1) rfl bi (cf 0 _ rfl))) ?_
             obtain ⟨ba, H⟩ := gd H
             obtain ⟨ij, bj⟩ := hs.rowBlock (j := 1) rfl (by have := ba.2; omega)
             obtain ⟨_, rfl, e8⟩ := aw.at ba.1 ba.2
             refine O_y rfl (Y_ixRow (j := 1) el28 hs rfl bj rfl rfl ba.1 ba.2) <| O_storeRowR (j := 1) sz21 hs rfl bj ba.1 ba.2 aw rfl rfl rfl (fun cg w et hs => Ox es <| W.weak [(0, _), (5, _), (7, _), (9, _), (10, _), (11, _), (18, _)] sbn ?_)
             refine W_region <| Mv rfl <| Osu rfl <| As rfl <| O_nil (bh (a2, (ad.set ah.toNat (rd ad (IntKind.i64.wrap (ah - 1)))), (IntKind.i64.wrap (ah - 1)), ap, cg) _ _ sbn (Ai H (Ai hs et)) (Nat.lt_succ_self _))
            ·rw [if_neg bz] at H
             refine W_exit (ep _ _ (en _ _ <| Wr fun ik eu => Mv rfl <| Mv rfl <| Mv rfl <| O_y rfl (Y_conv un3 un21 rfl) ?_))
             obtain ⟨bb, H⟩ := gd H
             obtain ⟨il, bk⟩ := hs.rowBlock (j := 1) rfl (by have := bb.2; omega)
             obtain ⟨_, rfl, e9⟩ := aw.at bb.1 bb.2
             refine O_y rfl (Y_ixRow (j := 1) el28 hs rfl bk rfl rfl bb.1 bb.2) <| O_storeRowR (j := 1) sz21 hs rfl bk bb.1 bb.2 aw rfl rfl rfl (fun ch w ev hs => Ox eu <| W.weak [(0, _), (5, _), (7, _), (9, _), (10, _), (11, _)] sbn ?_)
             refine Wr fun im ew => Mv rfl <| Oad rfl <| As rfl <| Ox ew <| W_region <| Mv rfl <| Oad rfl <| As rfl <| O_nil (bf (az, (ad.set ((IntKind.i64.wrap (ac + (IntKind.i64.wrap (ao * ab)))).tmod (IntKind.i64.wrap ((aa.length : Int) + 1))).toNat (IntKind.i32.wrap (IntKind.i64.wrap (ag + (IntKind.i64.wrap ((IntKind.i64.wrap (ac + (IntKind.i64.wrap (ao * ab)))).tdiv (IntKind.i64.wrap ((aa.length : Int) + 1)))))))), (IntKind.i64.wrap (ae + 1)), (IntKind.i64.wrap (ag + (IntKind.i64.wrap ((IntKind.i64.wrap (ac + (IntKind.i64.wrap (ao * ab)))).tdiv (IntKind.i64.wrap ((aa.length : Int) + 1)))))), (IntKind.i64.wrap (((IntKind.i64.wrap (ac + (IntKind.i64.wrap (ao * ab)))).tmod (IntKind.i64.wrap ((aa.length : Int) + 1))) + 1)), a7, ap, ch) _ _ sbn (Ai H (Ai (hs.sub (ssk (ssc ssr))) ev)) (Nat.lt_succ_self _))
         ·rw [if_neg bv] at H
          refine Wx du <| Wr fun io ex => Mv rfl <| Mv rfl <| Osu rfl <| Oml rfl <| As rfl <| Ox ex <| W.weak [(0, _), (5, _), (7, _), (9, _), (10, _), (11, _), (12, _), (13, _), (14, _)] sbn ?_
          refine W_seq fun ip ey => Wr fun iq ez => Mv rfl <| Ogt rfl <| Ox ez <| W_if rfl (fun b0 => ?_) (fun b0 => ?_)
          ·rw [if_pos b0] at H
           refine Wr fun ir e0 => Mv rfl <| As rfl <| As rfl <| As rfl <| Ox e0 <| W.weak [(2, _), (3, _), (4, _)] (T3 rfl) <| W_ret ?_
           have hs := hs.rowNil 21 (Rep.int .i32).sz
           have e1 := RowR.nil (Rep.int .i32) ρ
           obtain rfl := sinj H
           exact ret3 rfl rfl rfl rfl ⟨_, _, _, rfl, Le.rfl' _, (hs.sub (ssc (ssk ssr))), e1⟩
          ·rw [if_neg b0] at H
           refine Wx ey <| Wr fun it e2 => Mv rfl <| Oad rfl <| As rfl <| Ox e2 <| W_region <| Mv rfl <| Oad rfl <| As rfl <| O_nil (bg (a3, (IntKind.i64.wrap (ae + 1)), (IntKind.i64.wrap (ac + (IntKind.i64.wrap (ao * ab)))), (IntKind.i64.wrap (ab * (IntKind.i64.wrap (36 - bc)))), (IntKind.i64.wrap (ar + 36))) _ _ sbn (Ai H hs) (Nat.lt_succ_self _))
     ·rw [if_neg bq] at H
      refine W_exit (cx _ _ (cw _ _ <| Wr fun iu e3 => Mv rfl <| As rfl <| As rfl <| As rfl <| Ox e3 <| W_ret ?_))
      obtain rfl := sinj H
      exact ret3 rfl rfl rfl rfl ⟨_, _, _, rfl, Le.rfl' _, hs, a6⟩
    refine Wr fun iv e4 => Mv rfl <| Ogt rfl <| Ox e4 <| W_if rfl (fun b1 => ?_) (fun b1 => ?_)
    ·rw [if_pos b1] at H
     refine W_region <| Mv rfl <| Oad rfl <| As rfl <| O_nil (b5 _ _ _ (T3 rfl) (b6 (IntKind.i64.wrap (al + 1)) _ H hs))
    ·rw [if_neg b1] at H
     exact W_skip (b5 _ _ _ (T3 rfl) (b6 al _ H hs))

def ref14_Encode.j1 (b5 : List Int → Int → Option (ByteArray × Int × Int)) (aj : Int) (a0 : List Int) : Option (ByteArray × Int × Int) := b5 a0 (IntKind.i64.wrap (aj + 1))
def ref14_Encode.j2 (bo : Int → Int → Option (ByteArray × Int × Int)) (ae a9 : Int) : Option (ByteArray × Int × Int) := bo a9 (IntKind.i64.wrap (ae + 1))
def ref14_Encode.j3 (bo : Int → Int → Option (ByteArray × Int × Int)) (x0 : List Int) (ab ae : Int) (bi : Bool) : Option (ByteArray × Int × Int) := if bi = true then (ref14_Encode.j2 bo ae (IntKind.i64.wrap (rd x0 ae))) else (ref14_Encode.j2 bo ae ab)
def ref14_Encode.j4 (a5 : List Int → Int → Int → Int → Int → Option (ByteArray × Int × Int)) (ac : Int) (ax : List Int) (ba bb bc : Int) : Option (ByteArray × Int × Int) := a5 ax ba bb bc (IntKind.i64.wrap (ac + 1))
def ref14_Encode.l1 (a5 : List Int → Int → Int → Int → Int → Option (ByteArray × Int × Int)) : Nat → List Int → Int → Int → Int → Int → List Int → Int → Int → Option (ByteArray × Int × Int)
  | 0, _, _, _, _, _, _, _, _ => none
  | bn + 1, aa, ai, af, ac, ap, an, aw, az => (ref14_threshold.f az ai).bind fun bp => (if aw < bp then ((ref14_Letter.f aw).bind fun bt => (if an.length + ([bt]).length ≤ most then ((ref14_Adapt.f ap (IntKind.i64.wrap (af + 1)) (decide (af = (aa.length : Int)))).bind fun b6 => (ref14_Encode.j4 a5 ac (an ++ ([bt])) 0 b6 (IntKind.i64.wrap (af + 1)))) else none)) else (if (IntKind.i64.wrap (36 - bp)) ≠ 0 then ((ref14_Letter.f (IntKind.i64.wrap (bp + ((IntKind.i64.wrap (aw - bp)).tmod (IntKind.i64.wrap (36 - bp)))))).bind fun bu => (if an.length + ([bu]).length ≤ most then ((ref14_Encode.l1 a5 bn aa ai af ac ap) (an ++ ([bu])) (IntKind.i64.wrap ((IntKind.i64.wrap (aw - bp)).tdiv (IntKind.i64.wrap (36 - bp)))) (IntKind.i64.wrap (az + 36))) else none)) else none))
def ref14_Encode.j5 (a5 : List Int → Int → Int → Int → Int → Option (ByteArray × Int × Int)) (x0 aa : List Int) (ab : Int) (ag : List Int) (ai af ac ap : Int) : Option (ByteArray × Int × Int) := if (IntKind.i64.wrap (rd x0 ac)) ≠ ab then (ref14_Encode.j4 a5 ac ag ap ai af) else (ref14_Encode.l1 a5 K0 aa ai af ac ap ag ap 36)
def ref14_Encode.l2 (a6 : List Int → Int → Int → Int → Int → Option (ByteArray × Int × Int)) : Nat → List Int → List Int → Int → List Int → Int → Int → Int → Int → Option (ByteArray × Int × Int)
  | 0, _, _, _, _, _, _, _, _ => none
  | a7 + 1, x0, aa, ab, ag, ar, ai, af, ac => if ac < (x0.length : Int) then (if (0 : Int) ≤ ac ∧ ac < (x0.length : Int) then (if (IntKind.i64.wrap (rd x0 ac)) < ab then (if 2147483647 < (IntKind.i64.wrap (ar + 1)) then (some ((⟨#[]⟩ : ByteArray), 0, 142)) else (ref14_Encode.j5 (ref14_Encode.l2 a6 a7 x0 aa ab) x0 aa ab ag ai af ac (IntKind.i64.wrap (ar + 1)))) else (ref14_Encode.j5 (ref14_Encode.l2 a6 a7 x0 aa ab) x0 aa ab ag ai af ac ar)) else none) else (a6 ag (IntKind.i64.wrap (ab + 1)) (IntKind.i64.wrap (ar + 1)) ai af)
def ref14_Encode.l3 (a6 : List Int → Int → Int → Int → Int → Option (ByteArray × Int × Int)) : Nat → List Int → List Int → List Int → Int → Int → Int → Int → Int → Int → Option (ByteArray × Int × Int)
  | 0, _, _, _, _, _, _, _, _, _ => none
  | a8 + 1, x0, aa, ad, ao, ak, al, ah, ab, ae => if ae < (x0.length : Int) then (if (0 : Int) ≤ ae ∧ ae < (x0.length : Int) then (if ao ≤ (IntKind.i64.wrap (rd x0 ae)) then (ref14_Encode.j3 (ref14_Encode.l3 a6 a8 x0 aa ad ao ak al ah) x0 ab ae (decide ((IntKind.i64.wrap (rd x0 ae)) < ab))) else (ref14_Encode.j3 (ref14_Encode.l3 a6 a8 x0 aa ad ao ak al ah) x0 ab ae false)) else none) else (if 2147483647 < (IntKind.i64.wrap (ak + (IntKind.i64.wrap ((IntKind.i64.wrap (ab - ao)) * (IntKind.i64.wrap (ah + 1)))))) then (some ((⟨#[]⟩ : ByteArray), 0, 142)) else (ref14_Encode.l2 a6 K0 x0 aa ab ad (IntKind.i64.wrap (ak + (IntKind.i64.wrap ((IntKind.i64.wrap (ab - ao)) * (IntKind.i64.wrap (ah + 1)))))) al ah 0))
def ref14_Encode.l4 : Nat → List Int → List Int → List Int → Int → Int → Int → Int → Option (ByteArray × Int × Int)
  | 0, _, _, _, _, _, _, _ => none
  | a1 + 1, x0, aa, ad, ao, ak, al, ah => if ah < (x0.length : Int) then (ref14_Encode.l3 (ref14_Encode.l4 a1 x0 aa) K0 x0 aa ad ao ak al ah 1114112 0) else ((ref14_Decode.f (bytesS ad)).bind fun ck => (if ck.2.2 ≠ 0 then (some ((⟨#[]⟩ : ByteArray), 0, 142)) else (some (bytesS ad, 0, 0))))
def ref14_Encode.j6 (x0 aa ay : List Int) : Option (ByteArray × Int × Int) := ref14_Encode.l4 K0 x0 aa ay 128 0 72 (aa.length : Int)
def ref14_Encode.l5 : Nat → List Int → List Int → Int → Option (ByteArray × Int × Int)
  | 0, _, _, _ => none
  | bq + 1, x0, aa, aj => if aj < (x0.length : Int) then (if (0 : Int) ≤ aj ∧ aj < (x0.length : Int) then ((ref14_scalar.f (rd x0 aj)).bind fun gi => (if (!gi) = true then (some ((⟨#[]⟩ : ByteArray), aj, 20)) else (if (rd x0 aj) < 128 then (if aa.length + ([IntKind.u8.wrap (rd x0 aj)]).length ≤ most then (ref14_Encode.j1 (ref14_Encode.l5 bq x0) aj (aa ++ ([IntKind.u8.wrap (rd x0 aj)]))) else none) else (ref14_Encode.j1 (ref14_Encode.l5 bq x0) aj aa)))) else none) else (if 0 < (aa.length : Int) then (if aa.length + ([45]).length ≤ most then (ref14_Encode.j6 x0 aa (aa ++ ([45]))) else none) else (ref14_Encode.j6 x0 aa aa))
def ref14_Encode.f (x0 : List Int) : Option (ByteArray × Int × Int) := ref14_Encode.l5 K0 x0 ([] : List Int) 0
theorem ref14_Encode.c (hs : St w0 ρ (Γ) w) {v0 : Value} {x0 : List Int} (h0 : SlR (Rep.int .i32) ρ v0 x0) {r : ByteArray × Int × Int} (H : ref14_Encode.f x0 = some r) : CallsR Tryz.prog 34 [v0] w (fun v w' => v = .tuple #[.string r.1, .int .i64 r.2.1, .int .i64 r.2.2] ∧ St w0 ρ Γ w') := by
  rw [ref14_Encode.f] at H
  refine Et Tryz.func34 Tryz.ntmps34 rfl <| Wr fun kl gn => As rfl <| As rfl <| As rfl <| Ox gn <| Wr fun km go => O_lit2 (xs := []) (cs := []) el72 hs rfl rfl rfl (by decide) (by decide) rfl sz_nil flat_nil (fun gp w hs => ?_)
  have gq : RowR (Rep.int .u8) ρ ([]) ([] : List Int) := RowR.nil _ _
  refine As rfl <| Ox go <| W_seq fun kn gr => Wr fun ko gs => Mv rfl <| O_y rfl (Y_lenR un28 h0 rfl) <| Mv rfl <| Ox gs <| W_block fun kp gt kq => W_loop (σ := Nat × List Int × Int × Value × List Value) (fun (bq, aa, aj, a2, a3) => [(0, v0), (5, a2), (25, v0), (26, .int .i64 (x0.length : Int)), (27, .int .i64 aj)]) (fun (bq, aa, aj, a2, a3) w => ref14_Encode.l5 bq x0 aa aj = some r ∧ St w0 ρ ((.row a2 5 ((Rep.int .u8).sz) aa.length a3) :: Γ) w ∧ RowR (Rep.int .u8) ρ a3 aa) (fun s => s.1) (K0, ([] : List Int), 0, (.slice (some ⟨gp, 0, none⟩) 0 0), ([])) sbn (Ai H (Ai hs gq)) ?_
  rintro ⟨bq, aa, aj, a2, a3⟩ w kr ⟨H, hs, bj⟩ b7
  show W _ _ _ _ _ _ [(0, v0), (5, a2), (25, v0), (26, .int .i64 (x0.length : Int)), (27, .int .i64 aj)] w
  cases bq with
  | zero => rw [ref14_Encode.l5] at H; cases H
  | succ bq =>
  rw [ref14_Encode.l5] at H
  refine Wr fun ks gu => Ols rfl <| Ox gu <| W_seq fun kt gv => W_if rfl (fun dp => ?_) (fun dp => ?_)
  ·rw [if_pos dp] at H
   refine Wx gv <| W_seqj fun gw gx gj => ?_
   have gk : ∀ (a0 : List Int) (bk : Value) (bl : List Value) (w : World), ref14_Encode.j1 (ref14_Encode.l5 bq x0) aj a0 = some r → St w0 ρ ((.row bk 5 ((Rep.int .u8).sz) a0.length bl) :: Γ) w → RowR (Rep.int .u8) ρ bl a0 → gw [(0, v0), (5, bk), (25, v0), (26, .int .i64 (x0.length : Int)), (27, .int .i64 aj)] w := by
    intro a0 bk bl w H hs bx
    rw [ref14_Encode.j1] at H
    refine gx _ _ <| W_region <| Oad rfl <| Mv rfl <| O_nil (b7 (bq, a0, (IntKind.i64.wrap (aj + 1)), bk, bl) _ _ sbn (Ai H (Ai hs bx)) (Nat.lt_succ_self _))
   refine W_block fun ku kv kw => Wr fun kx gy => Mv rfl ?_
   obtain ⟨gl, H⟩ := gd H
   obtain ⟨ky, kz, gz, ha⟩ := h0.ix el28 gl.1 gl.2
   refine O_y rfl (ha rfl rfl) <| O_y rfl (Y_load ag21 rfl (hs.see gz.int)) <| As rfl <| As rfl <| Ox gy <| W_seq fun k0 hb => Wr fun k1 hc => Mv rfl ?_
   obtain ⟨gi, dq, H⟩ := bnd H
   refine Oc rfl (ref14_scalar.c hs dq) (fun k2 w hpost => ?_)
   obtain ⟨rfl, hs⟩ := hpost
   refine Ont rfl <| Ox hc <| W_cond rfl (fun dr => ?_) (fun dr => ?_)
   ·rw [if_pos dr] at H
    refine Wr fun k3 hd => Mv rfl <| As rfl <| As rfl <| As rfl <| Ox hd <| W.weak [(2, _), (3, _), (4, _)] (T3 rfl) <| W_ret ?_
    obtain rfl := sinj H
    exact ret3 rfl rfl rfl rfl ⟨rfl, (hs.sub (ssk ssr))⟩
   ·rw [if_neg (bft dr)] at H
    refine Wx hb <| Wr fun k4 he => Mv rfl <| Ols rfl <| Ox he <| W.weak [(0, _), (5, _), (7, _), (25, _), (26, _), (27, _), (37, _)] sbn ?_
    refine W_if rfl (fun ds => ?_) (fun ds => ?_)
    ·rw [if_pos ds] at H
     refine W_region <| Mv rfl <| Mv rfl <| O_y rfl (Y_conv un21 un5 rfl) <| O_lit2 (xs := [.tmp 40]) (cs := [.int .u8 (IntKind.u8.wrap (rd x0 aj))]) el72 hs rfl rfl rfl (by decide) (by decide) rfl (sz_cons rfl sz_nil) (flat_cons rfl flat_nil) (fun hf w hs => ?_)
     have cl : RowR (Rep.int .u8) ρ ([.int .u8 (IntKind.u8.wrap (rd x0 aj))]) [IntKind.u8.wrap (rd x0 aj)] := RowR.cons (c := [.int .u8 (IntKind.u8.wrap (rd x0 aj))]) (x := IntKind.u8.wrap (rd x0 aj)) rfl (RowR.nil _ _)
     obtain ⟨dt, H⟩ := gd H
     refine O_appendR (i := 1) el72 hs rfl bj rfl rfl rfl (Src.lit (j := 0) hs rfl cl) cl dt (fun du cm w dv hs => As rfl <| O_nil (gj _ _ _ sbn (gk (aa ++ ([IntKind.u8.wrap (rd x0 aj)])) du cm _ H (hs.sub (ssk (ssc ssr))) dv)))
    ·rw [if_neg ds] at H
     exact W_skip (gj _ _ _ sbn (gk aa a2 a3 _ H hs bj))
  ·rw [if_neg dp] at H
   refine W_exit (gt _ _ (gr _ _ <| Wr fun hg dw => Mv rfl <| O_y rfl (Y_lenRow (i := 0) un72 hs rfl rfl) <| As rfl <| Ox dw <| W_seqj fun dx dy cn => ?_))
   have co : ∀ (ay : List Int) (bd : Value) (be : List Value) (w : World), ref14_Encode.j6 x0 aa ay = some r → St w0 ρ ((.row bd 5 ((Rep.int .u8).sz) ay.length be) :: Γ) w → RowR (Rep.int .u8) ρ be ay → dx [(0, v0), (5, bd), (8, .int .i64 (aa.length : Int))] w := by
    intro ay bd be w H hs bv
    rw [ref14_Encode.j6] at H
    refine dy _ _ <| Wr fun hh dz => Mv rfl <| As rfl <| As rfl <| As rfl <| As rfl <| Ox dz <| W_seq fun hi ea => W_block fun hj eb hk => W_loop (σ := Nat × List Int × Int × Int × Int × Int × Value × List Value) (fun (a1, ad, ao, ak, al, ah, am, au) => [(0, v0), (5, am), (8, .int .i64 (aa.length : Int)), (9, .int .i64 ao), (10, .int .i64 ak), (11, .int .i64 al), (12, .int .i64 ah)]) (fun (a1, ad, ao, ak, al, ah, am, au) w => ref14_Encode.l4 a1 x0 aa ad ao ak al ah = some r ∧ St w0 ρ ((.row am 5 ((Rep.int .u8).sz) ad.length au) :: Γ) w ∧ RowR (Rep.int .u8) ρ au ad) (fun s => s.1) (K0, ay, 128, 0, 72, (aa.length : Int), bd, be) sbn (Ai H (Ai hs bv)) ?_
    rintro ⟨a1, ad, ao, ak, al, ah, am, au⟩ w hl ⟨H, hs, br⟩ b0
    show W _ _ _ _ _ _ [(0, v0), (5, am), (8, .int .i64 (aa.length : Int)), (9, .int .i64 ao), (10, .int .i64 ak), (11, .int .i64 al), (12, .int .i64 ah)] w
    cases a1 with
    | zero => rw [ref14_Encode.l4] at H; cases H
    | succ a1 =>
    rw [ref14_Encode.l4] at H
    refine W_seq fun hm ec => Wr fun hn ed => Mv rfl <| Mv rfl <| O_y rfl (Y_lenR un28 h0 rfl) <| Ols rfl <| Ox ed <| W_if rfl (fun b8 => ?_) (fun b8 => ?_)
    ·rw [if_pos b8] at H
     refine Wx ec <| W_block fun ho hp hq => Wr fun hr ee => As rfl <| Ox ee <| W_seq fun ht ef => Wr fun hu eg => Mv rfl <| O_y rfl (Y_lenR un28 h0 rfl) <| Mv rfl <| Ox eg <| W.weak [(0, _), (5, _), (8, _), (9, _), (10, _), (11, _), (12, _), (13, _), (56, _), (57, _), (58, _)] sbn ?_
     refine W_block fun hv eh hw => W_loop (σ := Nat × Int × Int) (fun (a8, ab, ae) => [(0, v0), (5, am), (8, .int .i64 (aa.length : Int)), (9, .int .i64 ao), (10, .int .i64 ak), (11, .int .i64 al), (12, .int .i64 ah), (13, .int .i64 ab), (56, v0), (57, .int .i64 (x0.length : Int)), (58, .int .i64 ae)]) (fun (a8, ab, ae) w => ref14_Encode.l3 (ref14_Encode.l4 a1 x0 aa) a8 x0 aa ad ao ak al ah ab ae = some r ∧ St w0 ρ ((.row am 5 ((Rep.int .u8).sz) ad.length au) :: Γ) w) (fun s => s.1) (K0, 1114112, 0) sbn (Ai H hs) ?_
     rintro ⟨a8, ab, ae⟩ w hx ⟨H, hs⟩ b1
     show W _ _ _ _ _ _ [(0, v0), (5, am), (8, .int .i64 (aa.length : Int)), (9, .int .i64 ao), (10, .int .i64 ak), (11, .int .i64 al), (12, .int .i64 ah), (13, .int .i64 ab), (56, v0), (57, .int .i64 (x0.length : Int)), (58, .int .i64 ae)] w
     cases a8 with
     | zero => rw [ref14_Encode.l3] at H; cases H
     | succ a8 =>
     rw [ref14_Encode.l3] at H
     refine Wr fun hy ei => Ols rfl <| Ox ei <| W_seq fun hz ej => W_if rfl (fun b9 => ?_) (fun b9 => ?_)
     ·rw [if_pos b9] at H
      refine Wx ej <| W_seqj fun ek el cp => ?_
      have cq : ∀ (a9 : Int) (w : World), ref14_Encode.j2 (ref14_Encode.l3 (ref14_Encode.l4 a1 x0 aa) a8 x0 aa ad ao ak al ah) ae a9 = some r → St w0 ρ ((.row am 5 ((Rep.int .u8).sz) ad.length au) :: Γ) w → ek [(0, v0), (5, am), (8, .int .i64 (aa.length : Int)), (9, .int .i64 ao), (10, .int .i64 ak), (11, .int .i64 al), (12, .int .i64 ah), (13, .int .i64 a9), (56, v0), (57, .int .i64 (x0.length : Int)), (58, .int .i64 ae)] w := by
       intro a9 w H hs
       rw [ref14_Encode.j2] at H
       refine el _ _ <| W_region <| Oad rfl <| Mv rfl <| O_nil (b1 (a8, a9, (IntKind.i64.wrap (ae + 1))) _ _ sbn (Ai H hs) (Nat.lt_succ_self _))
      refine W_block fun ia ib ic => W_seq fun id em => W_region ?_
      obtain ⟨cr, H⟩ := gd H
      obtain ⟨ie, ig, en, eo⟩ := h0.ix el28 cr.1 cr.2
      refine O_y rfl (eo rfl rfl) <| O_y rfl (Y_load ag21 rfl (hs.see en.int)) <| As rfl <| Ox em <| W.weak [(0, _), (5, _), (8, _), (9, _), (10, _), (11, _), (12, _), (13, _), (15, _), (56, _), (57, _), (58, _)] sbn ?_
      refine W_seqj fun ep eq ct => ?_
      have cu : ∀ (bi : Bool) (w : World), ref14_Encode.j3 (ref14_Encode.l3 (ref14_Encode.l4 a1 x0 aa) a8 x0 aa ad ao ak al ah) x0 ab ae bi = some r → St w0 ρ ((.row am 5 ((Rep.int .u8).sz) ad.length au) :: Γ) w → ep [(0, v0), (5, am), (8, .int .i64 (aa.length : Int)), (9, .int .i64 ao), (10, .int .i64 ak), (11, .int .i64 al), (12, .int .i64 ah), (13, .int .i64 ab), (15, .int .i32 (rd x0 ae)), (56, v0), (57, .int .i64 (x0.length : Int)), (58, .int .i64 ae), (71, .bool bi)] w := by
       intro bi w H hs
       rw [ref14_Encode.j3] at H
       refine eq _ _ <| W_cond rfl (fun ca => ?_) (fun ca => ?_)
       ·rw [if_pos ca] at H
        refine W_region <| Mv rfl <| O_y rfl (Y_conv un21 un3 rfl) <| As rfl <| O_nil (cp _ _ _ sbn (cq (IntKind.i64.wrap (rd x0 ae)) _ H hs))
       ·rw [if_neg (bft ca)] at H
        exact W_skip (cp _ _ _ sbn (cq ab _ H hs))
      refine W_region <| Mv rfl <| O_y rfl (Y_conv un21 un3 rfl) <| Mv rfl <| Oge rfl <| Mv rfl <| O_if (dj := 66) rfl (fun cb => ?_) (fun cb => ?_)
      ·rw [if_pos cb] at H
       refine Oe rfl <| Mv rfl <| Oe rfl <| O_y rfl (Y_conv un21 un3 rfl) <| Oe rfl <| Mv rfl <| Oe rfl <| Ols rfl <| Opk rfl <| O_nil (ct _ _ _ sbn (cu (decide ((IntKind.i64.wrap (rd x0 ae)) < ab)) _ H hs))
      ·rw [if_neg cb] at H
       refine On rfl <| On rfl <| On rfl <| On rfl <| Opk rfl <| O_nil (ct _ _ _ sbn (cu false _ H hs))
     ·rw [if_neg b9] at H
      refine W_exit (eh _ _ (ef _ _ <| Wr fun ih er => Mv rfl <| Mv rfl <| Mv rfl <| Osu rfl <| Mv rfl <| Oad rfl <| Oml rfl <| Oad rfl <| As rfl <| Ox er <| W.weak [(0, _), (5, _), (8, _), (10, _), (11, _), (12, _), (13, _)] sbn ?_))
      refine W_seq fun ii es => Wr fun ij et => Mv rfl <| Ogt rfl <| Ox et <| W_if rfl (fun cc => ?_) (fun cc => ?_)
      ·rw [if_pos cc] at H
       refine Wr fun ik eu => As rfl <| As rfl <| As rfl <| Ox eu <| W_ret ?_
       obtain rfl := sinj H
       exact ret3 rfl rfl rfl rfl ⟨rfl, (hs.sub (ssk ssr))⟩
      ·rw [if_neg cc] at H
       refine Wx es <| Wr fun il ev => Mv rfl <| As rfl <| Ox ev <| W_seq fun im ew => Wr fun io ex => Mv rfl <| O_y rfl (Y_lenR un28 h0 rfl) <| Mv rfl <| Ox ex <| W_block fun ip ey iq => ?_
       refine W_loop (σ := Nat × List Int × Int × Int × Int × Int × Value × List Value) (fun (a7, ag, ar, ai, af, ac, aq, av) => [(0, v0), (5, aq), (8, .int .i64 (aa.length : Int)), (9, .int .i64 ab), (10, .int .i64 ar), (11, .int .i64 ai), (12, .int .i64 af), (86, v0), (87, .int .i64 (x0.length : Int)), (88, .int .i64 ac)]) (fun (a7, ag, ar, ai, af, ac, aq, av) w => ref14_Encode.l2 (ref14_Encode.l4 a1 x0 aa) a7 x0 aa ab ag ar ai af ac = some r ∧ St w0 ρ ((.row aq 5 ((Rep.int .u8).sz) ag.length av) :: Γ) w ∧ RowR (Rep.int .u8) ρ av ag) (fun s => s.1) (K0, ad, (IntKind.i64.wrap (ak + (IntKind.i64.wrap ((IntKind.i64.wrap (ab - ao)) * (IntKind.i64.wrap (ah + 1)))))), al, ah, 0, am, au) sbn (Ai H (Ai hs br)) ?_
       rintro ⟨a7, ag, ar, ai, af, ac, aq, av⟩ w ir ⟨H, hs, bm⟩ b2
       show W _ _ _ _ _ _ [(0, v0), (5, aq), (8, .int .i64 (aa.length : Int)), (9, .int .i64 ab), (10, .int .i64 ar), (11, .int .i64 ai), (12, .int .i64 af), (86, v0), (87, .int .i64 (x0.length : Int)), (88, .int .i64 ac)] w
       cases a7 with
       | zero => rw [ref14_Encode.l2] at H; cases H
       | succ a7 =>
       rw [ref14_Encode.l2] at H
       refine Wr fun it ez => Ols rfl <| Ox ez <| W_seq fun iu e0 => W_if rfl (fun cd => ?_) (fun cd => ?_)
       ·rw [if_pos cd] at H
        refine Wx e0 <| W_seqj fun e1 e2 cv => ?_
        have cw : ∀ (ax : List Int) (ba bb bc : Int) (bf : Value) (bg : List Value) (w : World), ref14_Encode.j4 (ref14_Encode.l2 (ref14_Encode.l4 a1 x0 aa) a7 x0 aa ab) ac ax ba bb bc = some r → St w0 ρ ((.row bf 5 ((Rep.int .u8).sz) ax.length bg) :: Γ) w → RowR (Rep.int .u8) ρ bg ax → e1 [(0, v0), (5, bf), (8, .int .i64 (aa.length : Int)), (9, .int .i64 ab), (10, .int .i64 ba), (11, .int .i64 bb), (12, .int .i64 bc), (86, v0), (87, .int .i64 (x0.length : Int)), (88, .int .i64 ac)] w := by
         intro ax ba bb bc bf bg w H hs bw
         rw [ref14_Encode.j4] at H
         refine e2 _ _ <| W_region <| Oad rfl <| Mv rfl <| O_nil (b2 (a7, ax, ba, bb, bc, (IntKind.i64.wrap (ac + 1)), bf, bg) _ _ sbn (Ai H (Ai hs bw)) (Nat.lt_succ_self _))
        refine W_block fun iv e3 iw => W_seq fun iy e4 => W_region ?_
        obtain ⟨cx, H⟩ := gd H
        obtain ⟨iz, ja, e5, e6⟩ := h0.ix el28 cx.1 cx.2
        refine O_y rfl (e6 rfl rfl) <| O_y rfl (Y_load ag21 rfl (hs.see e5.int)) <| As rfl <| Ox e4 <| W_seqj fun e7 e8 cy => ?_
        have cz : ∀ (ap : Int) (w : World), ref14_Encode.j5 (ref14_Encode.l2 (ref14_Encode.l4 a1 x0 aa) a7 x0 aa ab) x0 aa ab ag ai af ac ap = some r → St w0 ρ ((.row aq 5 ((Rep.int .u8).sz) ag.length av) :: Γ) w → e7 [(0, v0), (5, aq), (8, .int .i64 (aa.length : Int)), (9, .int .i64 ab), (10, .int .i64 ap), (11, .int .i64 ai), (12, .int .i64 af), (17, .int .i32 (rd x0 ac)), (86, v0), (87, .int .i64 (x0.length : Int)), (88, .int .i64 ac)] w := by
         intro ap w H hs
         rw [ref14_Encode.j5] at H
         refine e8 _ _ <| W_seq fun jb e9 => Wr fun jc fa => Mv rfl <| O_y rfl (Y_conv un21 un3 rfl) <| Mv rfl <| One rfl <| Ox fa <| W.weak [(0, _), (5, _), (8, _), (9, _), (10, _), (11, _), (12, _), (86, _), (87, _), (88, _), (103, _)] sbn ?_
         refine W_if rfl (fun ce => ?_) (fun ce => ?_)
         ·rw [if_pos ce] at H
          exact W_exit (e3 _ _ (cv _ _ _ sbn (cw ag ap ai af aq av _ H hs bm)))
         ·rw [if_neg ce] at H
          refine Wx e9 <| Wr fun jd fb => Mv rfl <| As rfl <| As rfl <| Ox fb <| W_seq fun je fc => W_block fun jf fd jg => W_loop (σ := Nat × List Int × Int × Int × Value × List Value) (fun (bn, an, aw, az, a4, bh) => [(0, v0), (5, a4), (8, .int .i64 (aa.length : Int)), (9, .int .i64 ab), (10, .int .i64 ap), (11, .int .i64 ai), (12, .int .i64 af), (18, .int .i64 aw), (19, .int .i64 az), (86, v0), (87, .int .i64 (x0.length : Int)), (88, .int .i64 ac)]) (fun (bn, an, aw, az, a4, bh) w => ref14_Encode.l1 (ref14_Encode.l2 (ref14_Encode.l4 a1 x0 aa) a7 x0 aa ab) bn aa ai af ac ap an aw az = some r ∧ St w0 ρ ((.row a4 5 ((Rep.int .u8).sz) an.length bh) :: Γ) w ∧ RowR (Rep.int .u8) ρ bh an) (fun s => s.1) (K0, ag, ap, 36, aq, av) sbn (Ai H (Ai hs bm)) ?_
          rintro ⟨bn, an, aw, az, a4, bh⟩ w jh ⟨H, hs, bs⟩ b3
          show W _ _ _ _ _ _ [(0, v0), (5, a4), (8, .int .i64 (aa.length : Int)), (9, .int .i64 ab), (10, .int .i64 ap), (11, .int .i64 ai), (12, .int .i64 af), (18, .int .i64 aw), (19, .int .i64 az), (86, v0), (87, .int .i64 (x0.length : Int)), (88, .int .i64 ac)] w
          cases bn with
          | zero => rw [ref14_Encode.l1] at H; cases H
          | succ bn =>
          rw [ref14_Encode.l1] at H
          refine W_block fun ji jj fe => Wr fun jk ff => Mv rfl <| Mv rfl ?_
          obtain ⟨bp, da, H⟩ := bnd H
          refine Oc rfl (ref14_threshold.c hs da) (fun jl w hpost => ?_)
          obtain ⟨rfl, hs⟩ := hpost
          refine As rfl <| Ox ff <| W.weak [(0, _), (5, _), (8, _), (9, _), (10, _), (11, _), (12, _), (18, _), (19, _), (20, _), (86, _), (87, _), (88, _)] sbn ?_
          refine W_seq fun jm fg => Wr fun jn fh => Mv rfl <| Mv rfl <| Ols rfl <| Ox fh <| W.weak [(0, _), (5, _), (8, _), (9, _), (10, _), (11, _), (12, _), (18, _), (19, _), (20, _), (86, _), (87, _), (88, _), (110, _)] sbn ?_
          refine W_if rfl (fun cf => ?_) (fun cf => ?_)
          ·rw [if_pos cf] at H
           refine W_exit (fe _ _ _ rfl (fd _ _ (fc _ _ <| Wr fun jo fi => Mv rfl <| Mv rfl ?_)))
           obtain ⟨bt, db, H⟩ := bnd H
           refine Oc rfl (ref14_Letter.c hs db) (fun jp w hpost => ?_)
           obtain ⟨rfl, hs⟩ := hpost
           refine O_lit2 (xs := [.tmp 133]) (cs := [.int .u8 bt]) el72 hs rfl rfl rfl (by decide) (by decide) rfl (sz_cons rfl sz_nil) (flat_cons rfl flat_nil) (fun jq w hs => ?_)
           have dc : RowR (Rep.int .u8) ρ ([.int .u8 bt]) [bt] := RowR.cons (c := [.int .u8 bt]) (x := bt) rfl (RowR.nil _ _)
           obtain ⟨fj, H⟩ := gd H
           refine O_appendR (i := 1) el72 hs rfl bs rfl rfl rfl (Src.lit (j := 0) hs rfl dc) dc fj (fun fk dd w fl hs => As rfl <| Ox fi <| W.weak [(0, _), (5, _), (8, _), (9, _), (10, _), (12, _), (86, _), (87, _), (88, _)] sbn ?_)
           refine Wr fun jr fm => Mv rfl <| Mv rfl <| Oad rfl <| Mv rfl <| Mv rfl <| Oeq rfl ?_
           obtain ⟨b6, de, H⟩ := bnd H
           refine Oc rfl (ref14_Adapt.c hs de) (fun js w hpost => ?_)
           obtain ⟨rfl, hs⟩ := hpost
           refine As rfl <| Ox fm <| W.weak [(0, _), (5, _), (8, _), (9, _), (11, _), (12, _), (86, _), (87, _), (88, _)] sbn ?_
           refine Wr fun jt fn => As rfl <| Ox fn <| W_region <| Mv rfl <| Oad rfl <| As rfl <| O_nil (cv _ _ _ sbn (cw (an ++ ([bt])) 0 b6 (IntKind.i64.wrap (af + 1)) fk dd _ H (hs.sub (ssk (ssc ssr))) fl))
          ·rw [if_neg cf] at H
           refine Wx fg <| Wr fun ju fo => Mv rfl <| Mv rfl <| Mv rfl <| Mv rfl <| Osu rfl <| Mv rfl <| Osu rfl ?_
           obtain ⟨df, H⟩ := gd H
           refine O_y rfl (Y_rem rfl rfl df) <| Oad rfl ?_
           obtain ⟨bu, dg, H⟩ := bnd H
           refine Oc rfl (ref14_Letter.c hs dg) (fun jv w hpost => ?_)
           obtain ⟨rfl, hs⟩ := hpost
           refine O_lit2 (xs := [.tmp 120]) (cs := [.int .u8 bu]) el72 hs rfl rfl rfl (by decide) (by decide) rfl (sz_cons rfl sz_nil) (flat_cons rfl flat_nil) (fun jw w hs => ?_)
           have dh : RowR (Rep.int .u8) ρ ([.int .u8 bu]) [bu] := RowR.cons (c := [.int .u8 bu]) (x := bu) rfl (RowR.nil _ _)
           obtain ⟨fp, H⟩ := gd H
           refine O_appendR (i := 1) el72 hs rfl bs rfl rfl rfl (Src.lit (j := 0) hs rfl dh) dh fp (fun fq di w fr hs => As rfl <| Ox fo <| W.weak [(0, _), (5, _), (8, _), (9, _), (10, _), (11, _), (12, _), (18, _), (19, _), (20, _), (86, _), (87, _), (88, _)] sbn ?_)
           refine Wr fun jx fs => Mv rfl <| Mv rfl <| Osu rfl <| Mv rfl <| Osu rfl <| O_y rfl (Y_quo rfl rfl df) <| As rfl <| Ox fs <| W.weak [(0, _), (5, _), (8, _), (9, _), (10, _), (11, _), (12, _), (18, _), (19, _), (86, _), (87, _), (88, _)] sbn ?_
           refine W_region <| Mv rfl <| Oad rfl <| As rfl <| O_nil (b3 (bn, (an ++ ([bu])), (IntKind.i64.wrap ((IntKind.i64.wrap (aw - bp)).tdiv (IntKind.i64.wrap (36 - bp)))), (IntKind.i64.wrap (az + 36)), fq, di) _ _ sbn (Ai H (Ai (hs.sub (ssk (ssc ssr))) fr)) (Nat.lt_succ_self _))
        refine Wr fun jy ft => Mv rfl <| O_y rfl (Y_conv un21 un3 rfl) <| Mv rfl <| Ols rfl <| Ox ft <| W.weak [(0, _), (5, _), (8, _), (9, _), (10, _), (11, _), (12, _), (17, _), (86, _), (87, _), (88, _), (95, _)] sbn ?_
        refine W_if rfl (fun cg => ?_) (fun cg => ?_)
        ·rw [if_pos cg] at H
         refine Wr fun jz fu => Mv rfl <| Oad rfl <| As rfl <| Ox fu <| Wr fun j0 fv => Mv rfl <| Ogt rfl <| Ox fv <| W.weak [(0, _), (5, _), (8, _), (9, _), (10, _), (11, _), (12, _), (17, _), (86, _), (87, _), (88, _), (99, _)] sbn ?_
         refine W_if rfl (fun ch => ?_) (fun ch => ?_)
         ·rw [if_pos ch] at H
          refine Wr fun j7 fw => As rfl <| As rfl <| As rfl <| Ox fw <| W.weak [(2, _), (3, _), (4, _)] (T3 rfl) <| W_ret ?_
          obtain rfl := sinj H
          exact ret3 rfl rfl rfl rfl ⟨rfl, (hs.sub (ssk ssr))⟩
         ·rw [if_neg ch] at H
          exact W_skip (cy _ _ _ sbn (cz (IntKind.i64.wrap (ar + 1)) _ H hs))
        ·rw [if_neg cg] at H
         exact W_skip (cy _ _ _ sbn (cz ar _ H hs))
       ·rw [if_neg cd] at H
        refine W_exit (ey _ _ (ew _ _ <| Wr fun j8 fx => Mv rfl <| Oad rfl <| As rfl <| Ox fx <| W_region <| Mv rfl <| Oad rfl <| As rfl <| O_nil (b0 (a1, ag, (IntKind.i64.wrap (ab + 1)), (IntKind.i64.wrap (ar + 1)), ai, af, aq, av) _ _ sbn (Ai H (Ai hs bm)) (Nat.lt_succ_self _))))
    ·rw [if_neg b8] at H
     refine W_exit (eb _ _ (ea _ _ <| W_seq fun j9 fy => Wr fun ka fz => Mv rfl ?_))
     obtain ⟨kb, b4, hs, dk⟩ := hs.rowEnd (j := 0) br rfl
     refine O_y rfl (Y_sbytes un72 un5 un9 hs dk rfl) ?_
     obtain ⟨ck, dl, H⟩ := bnd H
     refine Oc rfl (ref14_Decode.c hs dl) (fun kc w hpost => ?_)
     obtain ⟨kd, ke, gm, rfl, bz, hs, kf⟩ := hpost
     refine Mv rfl <| Oxt rfl <| Oxt rfl <| Oxt rfl <| As rfl <| As rfl <| As rfl <| Ox fz <| W.weak [(5, _), (23, _)] (T2 rfl) <| Wr fun kg ga => Mv rfl <| One rfl <| O_nil (ga _ _ ?_)
     refine W_if rfl (fun ci => ?_) (fun ci => ?_)
     ·rw [if_pos ci] at H
      refine Wr fun kh gb => As rfl <| As rfl <| As rfl <| Ox gb <| W_ret ?_
      obtain rfl := sinj H
      exact ret3 rfl rfl rfl rfl ⟨rfl, ((hs.sub (ssk ssr)).less (b4.trans bz))⟩
     ·rw [if_neg ci] at H
      refine Wx fy <| Wr fun ki gc => Mv rfl <| O_y rfl (Y_sbytes un72 un5 un9 hs (dk.mono bz) rfl) <| As rfl <| As rfl <| As rfl <| Ox gc <| W_ret ?_
      obtain rfl := sinj H
      exact ret3 rfl rfl rfl rfl ⟨rfl, ((hs.sub (ssk ssr)).less (b4.trans bz))⟩
   refine Wr fun kj ge => Mv rfl <| Ogt rfl <| Ox ge <| W_if rfl (fun cj => ?_) (fun cj => ?_)
   ·rw [if_pos cj] at H
    refine W_region <| Mv rfl <| O_lit2 (xs := [.const (.int .u8 45)]) (cs := [.int .u8 45]) el72 hs rfl rfl rfl (by decide) (by decide) rfl (sz_cons rfl sz_nil) (flat_cons rfl flat_nil) (fun kk w hs => ?_)
    have dm : RowR (Rep.int .u8) ρ ([.int .u8 45]) [45] := RowR.cons (c := [.int .u8 45]) (x := 45) rfl (RowR.nil _ _)
    obtain ⟨gf, H⟩ := gd H
    refine O_appendR (i := 1) el72 hs rfl bj rfl rfl rfl (Src.lit (j := 0) hs rfl dm) dm gf (fun gg dn w gh hs => As rfl <| O_nil (cn _ _ _ (T3 rfl) (co (aa ++ ([45])) gg dn _ H (hs.sub (ssk (ssc ssr))) gh)))
   ·rw [if_neg cj] at H
    exact W_skip (cn _ _ _ (T3 rfl) (co aa a2 a3 _ H hs bj))

def ref18_ASCII.l1 : Nat → List Int → List Int → Int → Option (ByteArray × Int × Int)
  | 0, _, _, _ => none
  | ae + 1, x0, ab, aa => if aa < (x0.length : Int) then (if (0 : Int) ≤ aa ∧ aa < (x0.length : Int) then (if ab.length + ([IntKind.u8.wrap (rd x0 aa)]).length ≤ most then ((ref18_ASCII.l1 ae x0) (ab ++ ([IntKind.u8.wrap (rd x0 aa)])) (IntKind.i64.wrap (aa + 1))) else none) else none) else (some (bytesS ab, 0, 0))
def ref18_ASCII.f (x0 : List Int) : Option (ByteArray × Int × Int) := (ref18_high.f x0).bind fun az => (if (!az) = true then (ref18_ASCII.l1 K0 x0 ([] : List Int) 0) else ((ref14_Encode.f x0).bind fun ag => (if ag.2.2 ≠ 0 then (some ((⟨#[]⟩ : ByteArray), ag.2.1, ag.2.2)) else (if (⟨#[120, 110, 45, 45]⟩ : ByteArray).size + ag.1.size ≤ 9223372036854775807 then (some ((⟨#[120, 110, 45, 45]⟩ : ByteArray) ++ ag.1, 0, 0)) else none))))
theorem ref18_ASCII.c (hs : St w0 ρ (Γ) w) {v0 : Value} {x0 : List Int} (h0 : SlR (Rep.int .i32) ρ v0 x0) {r : ByteArray × Int × Int} (H : ref18_ASCII.f x0 = some r) : CallsR Tryz.prog 13 [v0] w (fun v w' => v = .tuple #[.string r.1, .int .i64 r.2.1, .int .i64 r.2.2] ∧ St w0 ρ Γ w') := by
  rw [ref18_ASCII.f] at H
  refine Et Tryz.func13 Tryz.ntmps13 rfl <| Wr fun bs a2 => As rfl <| As rfl <| As rfl <| Ox a2 <| W_seq fun bt a3 => Wr fun bu a4 => Mv rfl ?_
  obtain ⟨az, al, H⟩ := bnd H
  refine Oc rfl (ref18_high.c hs h0 al) (fun bv w hpost => ?_)
  obtain ⟨rfl, hs⟩ := hpost
  refine Ont rfl <| Ox a4 <| W_cond rfl (fun am => ?_) (fun am => ?_)
  ·rw [if_pos am] at H
   refine Wr fun bw a5 => O_lit2 (xs := []) (cs := []) el72 hs rfl rfl rfl (by decide) (by decide) rfl sz_nil flat_nil (fun a6 w hs => ?_)
   have a7 : RowR (Rep.int .u8) ρ ([]) ([] : List Int) := RowR.nil _ _
   refine As rfl <| Ox a5 <| W_seq fun bx a8 => Wr fun bz a9 => Mv rfl <| O_y rfl (Y_lenR un28 h0 rfl) <| Mv rfl <| Ox a9 <| W_block fun b0 ba b1 => W_loop (σ := Nat × List Int × Int × Value × List Value) (fun (ae, ab, aa, ac, ad) => [(5, ac), (15, v0), (16, .int .i64 (x0.length : Int)), (17, .int .i64 aa)]) (fun (ae, ab, aa, ac, ad) w => ref18_ASCII.l1 ae x0 ab aa = some r ∧ St w0 ρ ((.row ac 5 ((Rep.int .u8).sz) ab.length ad) :: Γ) w ∧ RowR (Rep.int .u8) ρ ad ab) (fun s => s.1) (K0, ([] : List Int), 0, (.slice (some ⟨a6, 0, none⟩) 0 0), ([])) (T4 rfl) (Ai H (Ai hs a7)) ?_
   rintro ⟨ae, ab, aa, ac, ad⟩ w b2 ⟨H, hs, af⟩ ah
   show W _ _ _ _ _ _ [(5, ac), (15, v0), (16, .int .i64 (x0.length : Int)), (17, .int .i64 aa)] w
   cases ae with
   | zero => rw [ref18_ASCII.l1] at H; cases H
   | succ ae =>
   rw [ref18_ASCII.l1] at H
   refine Wr fun b3 bb => Ols rfl <| Ox bb <| W_seq fun b4 bc => W_if rfl (fun an => ?_) (fun an => ?_)
   ·rw [if_pos an] at H
    refine Wx bc <| W_seq fun b5 bd => W_block fun b6 b7 b8 => W_seq fun b9 be => W_region ?_
    obtain ⟨a0, H⟩ := gd H
    obtain ⟨ca, cb, bf, bg⟩ := h0.ix el28 a0.1 a0.2
    refine O_y rfl (bg rfl rfl) <| O_y rfl (Y_load ag21 rfl (hs.see bf.int)) <| As rfl <| Ox be <| W_region <| Mv rfl <| Mv rfl <| O_y rfl (Y_conv un21 un5 rfl) <| O_lit2 (xs := [.tmp 23]) (cs := [.int .u8 (IntKind.u8.wrap (rd x0 aa))]) el72 hs rfl rfl rfl (by decide) (by decide) rfl (sz_cons rfl sz_nil) (flat_cons rfl flat_nil) (fun cc w hs => ?_)
    have a1 : RowR (Rep.int .u8) ρ ([.int .u8 (IntKind.u8.wrap (rd x0 aa))]) [IntKind.u8.wrap (rd x0 aa)] := RowR.cons (c := [.int .u8 (IntKind.u8.wrap (rd x0 aa))]) (x := IntKind.u8.wrap (rd x0 aa)) rfl (RowR.nil _ _)
    obtain ⟨bh, H⟩ := gd H
    refine O_appendR (i := 1) el72 hs rfl af rfl rfl rfl (Src.lit (j := 0) hs rfl a1) a1 bh (fun bi ao w bj hs => As rfl <| Ox bd <| W_region <| Oad rfl <| Mv rfl <| O_nil (ah (ae, (ab ++ ([IntKind.u8.wrap (rd x0 aa)])), (IntKind.i64.wrap (aa + 1)), bi, ao) _ _ (T4 rfl) (Ai H (Ai (hs.sub (ssk (ssc ssr))) bj)) (Nat.lt_succ_self _)))
   ·rw [if_neg an] at H
    refine W_exit (ba _ _ (a8 _ _ <| Wr fun bk ap => Mv rfl ?_))
    obtain ⟨bl, aj, hs, aq⟩ := hs.rowEnd (j := 0) af rfl
    refine O_y rfl (Y_sbytes un72 un5 un9 hs aq rfl) <| As rfl <| As rfl <| As rfl <| Ox ap <| W_ret ?_
    obtain rfl := sinj H
    exact ret3 rfl rfl rfl rfl ⟨rfl, (hs.less aj)⟩
  ·rw [if_neg (bft am)] at H
   refine Wx a3 <| Wr fun bm ar => Mv rfl ?_
   obtain ⟨ag, ak, H⟩ := bnd H
   refine Oc rfl (ref14_Encode.c hs h0 ak) (fun bn w hpost => ?_)
   obtain ⟨rfl, hs⟩ := hpost
   refine Mv rfl <| Oxt rfl <| Oxt rfl <| Oxt rfl <| As rfl <| As rfl <| As rfl <| Ox ar <| W.weak [(8, _), (9, _), (10, _)] (T3 rfl) <| W_seq fun bo au => Wr fun bp av => Mv rfl <| One rfl ?_
   refine Ox av <| W_if rfl (fun ai => ?_) (fun ai => ?_)
   ·rw [if_pos ai] at H
    refine Wr fun bq aw => Mv rfl <| Mv rfl <| As rfl <| As rfl <| As rfl <| Ox aw <| W_ret ?_
    obtain rfl := sinj H
    exact ret3 rfl rfl rfl rfl ⟨rfl, hs⟩
   ·rw [if_neg ai] at H
    refine Wx au <| Wr fun br ax => Mv rfl ?_
    obtain ⟨ay, H⟩ := gd H
    refine O_y rfl (Y_cat rfl rfl ay) <| As rfl <| As rfl <| As rfl <| Ox ax <| W_ret ?_
    obtain rfl := sinj H
    exact ret3 rfl rfl rfl rfl ⟨rfl, hs⟩

def label_Hyphens.j1 (aa ab : Bool) : Option (Bool × Bool) := some (aa, ab)
def label_Hyphens.f (x0 : List Int) : Option (Bool × Bool) := if 4 ≤ (x0.length : Int) then (if (0 : Int) ≤ 2 ∧ 2 < (x0.length : Int) then (if (rd x0 2) = 45 then (if (0 : Int) ≤ 3 ∧ 3 < (x0.length : Int) then (if 0 < (x0.length : Int) then (if (0 : Int) ≤ 0 ∧ 0 < (x0.length : Int) then (if (rd x0 0) = 45 then (label_Hyphens.j1 (decide ((rd x0 3) = 45)) true) else (if (0 : Int) ≤ IntKind.i64.wrap ((x0.length : Int) - 1) ∧ IntKind.i64.wrap ((x0.length : Int) - 1) < (x0.length : Int) then (label_Hyphens.j1 (decide ((rd x0 3) = 45)) (decide ((rd x0 (IntKind.i64.wrap ((x0.length : Int) - 1))) = 45))) else none)) else none) else (label_Hyphens.j1 (decide ((rd x0 3) = 45)) false)) else none) else (if 0 < (x0.length : Int) then (if (0 : Int) ≤ 0 ∧ 0 < (x0.length : Int) then (if (rd x0 0) = 45 then (label_Hyphens.j1 false true) else (if (0 : Int) ≤ IntKind.i64.wrap ((x0.length : Int) - 1) ∧ IntKind.i64.wrap ((x0.length : Int) - 1) < (x0.length : Int) then (label_Hyphens.j1 false (decide ((rd x0 (IntKind.i64.wrap ((x0.length : Int) - 1))) = 45))) else none)) else none) else (label_Hyphens.j1 false false))) else none) else (if 0 < (x0.length : Int) then (if (0 : Int) ≤ 0 ∧ 0 < (x0.length : Int) then (if (rd x0 0) = 45 then (label_Hyphens.j1 false true) else (if (0 : Int) ≤ IntKind.i64.wrap ((x0.length : Int) - 1) ∧ IntKind.i64.wrap ((x0.length : Int) - 1) < (x0.length : Int) then (label_Hyphens.j1 false (decide ((rd x0 (IntKind.i64.wrap ((x0.length : Int) - 1))) = 45))) else none)) else none) else (label_Hyphens.j1 false false))
theorem label_Hyphens.c (hs : St w0 ρ (Γ) w) {v0 : Value} {x0 : List Int} (h0 : SlR (Rep.int .i32) ρ v0 x0) {r : Bool × Bool} (H : label_Hyphens.f x0 = some r) : CallsR Tryz.prog 14 [v0] w (fun v w' => v = .tuple #[.bool r.1, .bool r.2] ∧ St w0 ρ Γ w') := by
  rw [label_Hyphens.f] at H
  refine Et Tryz.func14 Tryz.ntmps14 rfl <| Wr fun bi az => As rfl <| As rfl <| Ox az <| Wr fun bj a0 => Mv rfl <| O_y rfl (Y_lenR un28 h0 rfl) <| As rfl <| Ox a0 <| W_seqj fun a1 a2 ac => ?_
  have ad : ∀ (aa ab : Bool) (w : World), label_Hyphens.j1 aa ab = some r → St w0 ρ (Γ) w → a1 [(2, .bool aa), (3, .bool ab)] w := by
   intro aa ab w H hs
   rw [label_Hyphens.j1] at H
   refine a2 _ _ <| W_ret ?_
   obtain rfl := sinj H
   exact ret2 rfl rfl rfl ⟨rfl, hs⟩
  refine W_drawS 32 [0, 1, 2, 4, 12, 20, 36, 68, 132, 256, 768, 1280, 2304, 4352, 0, 16384, 33024, 65536, 196608, 327680, 589824, 1114112, 2097152, 2097152, 10485760, 23068672, 35651584, 69206016, 136380416, 268500992, 2113535, 2147483647] [1073741820, 1073741816, 1073741312, 1073741792, 1073741760, 1073741696, 1073741568, 1073741312, 1073659904, 1073739776, 1073737728, 1073733632, 1073725440, 1073725440, 2147434495, 2147368959, 1337998848, 2146975232, 2146450944, 2145402368, 2143305216, 536886784, 2105556480, 2118139392, 2084584960, 2013281792, 1879064064, 1610628608, 1073757696, 1073757696, 1069547520, 0] [0, 1, 3, 7, 15, 31, 63, 127, 255, 511, 1023, 2047, 4095, 8191, 0, 16384, 49663, 115199, 246271, 508415, 1032703, 2081279, 4178431, 4178431, 12567039, 33538559, 67092991, 134201855, 268419583, 536855039, 4194303, 2147483647] [] (fun w => St w0 ρ (Γ) w) mixed (by kernel_rfl) (fun sh => ?_)
  have hs := hs.drew
  refine Fm 0 sh rfl <| Fp 1 sh rfl (fun w => Y_geq rfl rfl) <| Fm 2 sh rfl <| OD_if (dj := 9) rfl (fun ag => ?_) (fun ag => ?_)
  ·rw [if_pos ag] at H
   refine Fp 3 sh rfl (fun w => Y_move rfl) ?_
   obtain ⟨aq, H⟩ := gd H
   obtain ⟨bk, bl, a3, a4⟩ := h0.ix el28 aq.1 aq.2
   refine Fp 4 sh rfl (fun w => a4 rfl rfl) <| Fy 5 sh rfl hs (fun w hs => Y_load ag21 rfl (hs.see a3.int)) <| Fp 6 sh rfl (fun w => Y_eql rfl rfl) <| Fp 7 sh rfl (fun w => Y_pick_t rfl rfl) <| Fm 8 sh rfl <| OD_if (dj := 15) rfl (fun ah => ?_) (fun ah => ?_)
   ·rw [if_pos ah] at H
    refine Fp 9 sh rfl (fun w => Y_move rfl) ?_
    obtain ⟨ar, H⟩ := gd H
    obtain ⟨bm, bn, a5, a6⟩ := h0.ix el28 ar.1 ar.2
    refine Fp 10 sh rfl (fun w => a6 rfl rfl) <| Fy 11 sh rfl hs (fun w hs => Y_load ag21 rfl (hs.see a5.int)) <| Fp 12 sh rfl (fun w => Y_eql rfl rfl) <| Fp 13 sh rfl (fun w => Y_pick_t rfl rfl) <| Fm 14 sh rfl <| Fp 15 sh rfl (fun w => Y_gtr rfl rfl) <| Fm 16 sh rfl <| OD_if (dj := 23) rfl (fun ai => ?_) (fun ai => ?_)
    ·rw [if_pos ai] at H
     refine Fp 17 sh rfl (fun w => Y_move rfl) ?_
     obtain ⟨au, H⟩ := gd H
     obtain ⟨bo, bp, a7, a8⟩ := h0.ix el28 au.1 au.2
     refine Fp 18 sh rfl (fun w => a8 rfl rfl) <| Fy 19 sh rfl hs (fun w hs => Y_load ag21 rfl (hs.see a7.int)) <| Fp 20 sh rfl (fun w => Y_eql rfl rfl) <| Fp 21 sh rfl (fun w => Y_move rfl) <| OD_if (dj := 28) rfl (fun aj => ?_) (fun aj => ?_)
     ·rw [if_pos aj] at H
      refine Fn 22 sh rfl <| Fn 23 sh rfl <| Fn 24 sh rfl <| Fn 25 sh rfl <| Fn 26 sh rfl <| Fn 27 sh rfl <| Fp 28 sh rfl (fun w => Y_pick_t rfl rfl) <| Fp 29 sh rfl (fun w => Y_pick_t rfl rfl) <| Fp 30 sh rfl (fun w => Y_assign rfl) <| Fp 31 sh rfl (fun w => Y_assign rfl) <| FE sh (ac _ _ _ (T2 rfl) (ad (decide ((rd x0 3) = 45)) true _ H hs))
     ·rw [if_neg aj] at H
      refine Fp 22 sh rfl (fun w => Y_move rfl) <| Fp 23 sh rfl (fun w => Y_move rfl) <| Fp 24 sh rfl (fun w => Y_sub rfl rfl) ?_
      obtain ⟨av, H⟩ := gd H
      obtain ⟨bq, br, a9, ba⟩ := h0.ix el28 av.1 av.2
      refine Fp 25 sh rfl (fun w => ba rfl rfl) <| Fy 26 sh rfl hs (fun w hs => Y_load ag21 rfl (hs.see a9.int)) <| Fp 27 sh rfl (fun w => Y_eql rfl rfl) <| Fp 28 sh rfl (fun w => Y_pick_f rfl rfl) <| Fp 29 sh rfl (fun w => Y_pick_t rfl rfl) <| Fp 30 sh rfl (fun w => Y_assign rfl) <| Fp 31 sh rfl (fun w => Y_assign rfl) <| FE sh (ac _ _ _ (T2 rfl) (ad (decide ((rd x0 3) = 45)) (decide ((rd x0 (IntKind.i64.wrap ((x0.length : Int) - 1))) = 45)) _ H hs))
    ·rw [if_neg ai] at H
     refine Fn 17 sh rfl <| Fn 18 sh rfl <| Fn 19 sh rfl <| Fn 20 sh rfl <| Fn 21 sh rfl <| Fu 22 sh rfl <| Fu 23 sh rfl <| Fu 24 sh rfl <| Fu 25 sh rfl <| Fu 26 sh rfl <| Fu 27 sh rfl <| Fn 28 sh rfl <| Fp 29 sh rfl (fun w => Y_pick_f rfl rfl) <| Fp 30 sh rfl (fun w => Y_assign rfl) ?_
     refine Fp 31 sh rfl (fun w => Y_assign rfl) <| FE sh (ac _ _ _ (T2 rfl) (ad (decide ((rd x0 3) = 45)) false _ H hs))
   ·rw [if_neg ah] at H
    refine Fn 9 sh rfl <| Fn 10 sh rfl <| Fn 11 sh rfl <| Fn 12 sh rfl <| Fp 13 sh rfl (fun w => Y_pick_f rfl rfl) <| Fm 14 sh rfl <| Fp 15 sh rfl (fun w => Y_gtr rfl rfl) <| Fm 16 sh rfl <| OD_if (dj := 23) rfl (fun ak => ?_) (fun ak => ?_)
    ·rw [if_pos ak] at H
     refine Fp 17 sh rfl (fun w => Y_move rfl) ?_
     obtain ⟨aw, H⟩ := gd H
     obtain ⟨bs, bt, bb, bc⟩ := h0.ix el28 aw.1 aw.2
     refine Fp 18 sh rfl (fun w => bc rfl rfl) <| Fy 19 sh rfl hs (fun w hs => Y_load ag21 rfl (hs.see bb.int)) <| Fp 20 sh rfl (fun w => Y_eql rfl rfl) <| Fp 21 sh rfl (fun w => Y_move rfl) <| OD_if (dj := 28) rfl (fun al => ?_) (fun al => ?_)
     ·rw [if_pos al] at H
      refine Fn 22 sh rfl <| Fn 23 sh rfl <| Fn 24 sh rfl <| Fn 25 sh rfl <| Fn 26 sh rfl <| Fn 27 sh rfl <| Fp 28 sh rfl (fun w => Y_pick_t rfl rfl) <| Fp 29 sh rfl (fun w => Y_pick_t rfl rfl) <| Fp 30 sh rfl (fun w => Y_assign rfl) <| Fp 31 sh rfl (fun w => Y_assign rfl) <| FE sh (ac _ _ _ (T2 rfl) (ad false true _ H hs))
     ·rw [if_neg al] at H
      refine Fp 22 sh rfl (fun w => Y_move rfl) <| Fp 23 sh rfl (fun w => Y_move rfl) <| Fp 24 sh rfl (fun w => Y_sub rfl rfl) ?_
      obtain ⟨ax, H⟩ := gd H
      obtain ⟨bu, bv, bd, be⟩ := h0.ix el28 ax.1 ax.2
      refine Fp 25 sh rfl (fun w => be rfl rfl) <| Fy 26 sh rfl hs (fun w hs => Y_load ag21 rfl (hs.see bd.int)) <| Fp 27 sh rfl (fun w => Y_eql rfl rfl) <| Fp 28 sh rfl (fun w => Y_pick_f rfl rfl) <| Fp 29 sh rfl (fun w => Y_pick_t rfl rfl) <| Fp 30 sh rfl (fun w => Y_assign rfl) <| Fp 31 sh rfl (fun w => Y_assign rfl) <| FE sh (ac _ _ _ (T2 rfl) (ad false (decide ((rd x0 (IntKind.i64.wrap ((x0.length : Int) - 1))) = 45)) _ H hs))
    ·rw [if_neg ak] at H
     refine Fn 17 sh rfl <| Fn 18 sh rfl <| Fn 19 sh rfl <| Fn 20 sh rfl <| Fn 21 sh rfl <| Fu 22 sh rfl <| Fu 23 sh rfl <| Fu 24 sh rfl <| Fu 25 sh rfl <| Fu 26 sh rfl <| Fu 27 sh rfl <| Fn 28 sh rfl <| Fp 29 sh rfl (fun w => Y_pick_f rfl rfl) <| Fp 30 sh rfl (fun w => Y_assign rfl) ?_
     refine Fp 31 sh rfl (fun w => Y_assign rfl) <| FE sh (ac _ _ _ (T2 rfl) (ad false false _ H hs))
  ·rw [if_neg ag] at H
   refine Fn 3 sh rfl <| Fn 4 sh rfl <| Fn 5 sh rfl <| Fn 6 sh rfl <| Fp 7 sh rfl (fun w => Y_pick_f rfl rfl) <| Fm 8 sh rfl <| Fn 9 sh rfl <| Fn 10 sh rfl <| Fn 11 sh rfl <| Fn 12 sh rfl <| Fp 13 sh rfl (fun w => Y_pick_f rfl rfl) <| Fm 14 sh rfl <| Fp 15 sh rfl (fun w => Y_gtr rfl rfl) <| Fm 16 sh rfl ?_
   refine OD_if (dj := 23) rfl (fun am => ?_) (fun am => ?_)
   ·rw [if_pos am] at H
    refine Fp 17 sh rfl (fun w => Y_move rfl) ?_
    obtain ⟨ay, H⟩ := gd H
    obtain ⟨bw, bx, bf, an⟩ := h0.ix el28 ay.1 ay.2
    refine Fp 18 sh rfl (fun w => an rfl rfl) <| Fy 19 sh rfl hs (fun w hs => Y_load ag21 rfl (hs.see bf.int)) <| Fp 20 sh rfl (fun w => Y_eql rfl rfl) <| Fp 21 sh rfl (fun w => Y_move rfl) <| OD_if (dj := 28) rfl (fun ae => ?_) (fun ae => ?_)
    ·rw [if_pos ae] at H
     refine Fn 22 sh rfl <| Fn 23 sh rfl <| Fn 24 sh rfl <| Fn 25 sh rfl <| Fn 26 sh rfl <| Fn 27 sh rfl <| Fp 28 sh rfl (fun w => Y_pick_t rfl rfl) <| Fp 29 sh rfl (fun w => Y_pick_t rfl rfl) <| Fp 30 sh rfl (fun w => Y_assign rfl) <| Fp 31 sh rfl (fun w => Y_assign rfl) <| FE sh (ac _ _ _ (T2 rfl) (ad false true _ H hs))
    ·rw [if_neg ae] at H
     refine Fp 22 sh rfl (fun w => Y_move rfl) <| Fp 23 sh rfl (fun w => Y_move rfl) <| Fp 24 sh rfl (fun w => Y_sub rfl rfl) ?_
     obtain ⟨af, H⟩ := gd H
     obtain ⟨bg, bh, ao, ap⟩ := h0.ix el28 af.1 af.2
     refine Fp 25 sh rfl (fun w => ap rfl rfl) <| Fy 26 sh rfl hs (fun w hs => Y_load ag21 rfl (hs.see ao.int)) <| Fp 27 sh rfl (fun w => Y_eql rfl rfl) <| Fp 28 sh rfl (fun w => Y_pick_f rfl rfl) <| Fp 29 sh rfl (fun w => Y_pick_t rfl rfl) <| Fp 30 sh rfl (fun w => Y_assign rfl) <| Fp 31 sh rfl (fun w => Y_assign rfl) <| FE sh (ac _ _ _ (T2 rfl) (ad false (decide ((rd x0 (IntKind.i64.wrap ((x0.length : Int) - 1))) = 45)) _ H hs))
   ·rw [if_neg am] at H
    refine Fn 17 sh rfl <| Fn 18 sh rfl <| Fn 19 sh rfl <| Fn 20 sh rfl <| Fn 21 sh rfl <| Fu 22 sh rfl <| Fu 23 sh rfl <| Fu 24 sh rfl <| Fu 25 sh rfl <| Fu 26 sh rfl <| Fu 27 sh rfl <| Fn 28 sh rfl <| Fp 29 sh rfl (fun w => Y_pick_f rfl rfl) <| Fp 30 sh rfl (fun w => Y_assign rfl) ?_
    refine Fp 31 sh rfl (fun w => Y_assign rfl) <| FE sh (ac _ _ _ (T2 rfl) (ad false false _ H hs))

end Go.Proofs.YthoicbafdanmkaaGreatDoor
