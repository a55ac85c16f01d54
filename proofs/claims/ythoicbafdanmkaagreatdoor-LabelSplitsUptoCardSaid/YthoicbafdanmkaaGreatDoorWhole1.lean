/- Texts of this repo, merged for the claim: EngO, EngP, EngQ, Data, Facts, TP0. -/
import Derived.Test.YthoicbafdanmkaaGreatDoorWhole0
import Derived.Laws.BytesString
import Derived.Laws.IdiomStrings
import Derived.Laws.Cover4
import Derived.Laws.IdiomCopy
import Derived.Lib.AppendZerosOnto
import Derived.Lib.Overlaps
import Derived.Test.YthoicbafdanmkaaGreatDoorProg
import Derived.KernelRfl
/- Short names for the steps that come most often. Own work of this repo. -/
namespace Go.Proofs.YthoicbafdanmkaaGreatDoor
open Go.RowKit
theorem gd {α : Type} {p : Prop} [Decidable p] {x : Option α} {r : α} (H : (if p then x else none) = some r) : p ∧ x = some r := by
  by_cases c : p
  · rw [if_pos c] at H; exact ⟨c, H⟩
  · rw [if_neg c] at H; cases H
theorem sinj {α : Type} {a b : α} (h : some a = some b) : a = b := Option.some.inj h
theorem bft {b : Bool} (h : b = false) : ¬ b = true := by rw [h]; exact Bool.false_ne_true
theorem Ai {a b : Prop} (h : a) (k : b) : a ∧ b := ⟨h, k⟩
theorem ssr {α : Type} {l : List α} : l.Sublist l := List.Sublist.refl l
theorem ssk {α : Type} {a : α} {l m : List α} (h : l.Sublist m) : l.Sublist (a :: m) := h.cons _
theorem ssc {α : Type} {a : α} {l m : List α} (h : l.Sublist m) : (a :: l).Sublist (a :: m) := h.cons_cons _
section
variable {P : Program} {n : Nat} {N : Nxt} {X : Nat → Nxt} {R : Nxt} {L : Loc} {w w0 : World} {ops : Array Oper} {rest : List Oper} {d t : Nat} {pos : String} {aft : Array Edge} {ρ : Hp} {Γ : List Item} {x y : Operand}
theorem S1 {a : Nat} {u : Value} (h : lk a L = some u) : Sub [(a, u)] L := Sub.cons h Sub.nil
theorem S2 {a b : Nat} {u v : Value} (h : lk a L = some u) (k : lk b L = some v) : Sub [(a, u), (b, v)] L := Sub.cons h (S1 k)
theorem S3 {a b c : Nat} {u v z : Value} (h : lk a L = some u) (k : lk b L = some v) (l : lk c L = some z) : Sub [(a, u), (b, v), (c, z)] L := Sub.cons h (S2 k l)
theorem S4 {a b c e : Nat} {u v z q : Value} (h : lk a L = some u) (k : lk b L = some v) (l : lk c L = some z) (m : lk e L = some q) : Sub [(a, u), (b, v), (c, z), (e, q)] L := Sub.cons h (S3 k l m)
theorem Om {v : Value} (hd : Nat.blt d n = true) (hx : ev L x = some v) (k : O P n ops rest N ((d, v) :: L) w) : O P n ops (⟨some d, .move x, t, pos, aft, none⟩ :: rest) N L w := O_y hd (Y_move hx) k
theorem Oa {v : Value} (hd : Nat.blt d n = true) (hx : ev L x = some v) (k : O P n ops rest N ((d, v) :: L) w) : O P n ops (⟨some d, .assign x, t, pos, aft, none⟩ :: rest) N L w := O_y hd (Y_assign hx) k
theorem Wr {id : Nat} {l : List Oper} {y : Code} (h : ∀ N' : Nxt, (∀ L w, W P n y N X R L w → N' L w) → O P n l.toArray l N' L w) : W P n (.seq (.region id l.toArray false) y) N X R L w := W_seq fun N' h' => W_region (h N' h')
theorem Yb (i : Nat) {ty b o T : Nat} {cs : List Value} {v : Value} (ha : isAggOf P ty = some false) (hs : St w0 ρ Γ w) (hi : Γ[i]? = some (.box b T cs)) (hv : cs[o]? = some v) (hx : ev L x = some (.pointer (some ⟨b, o, none⟩))) : Y P n L w (.load ty x) t v := Y_loadb ha hs hi hv hx
end
section
variable {P : Program} {n : Nat} {ops : Array Oper} {late done : List Nat} {J : World → Prop} {N : Nxt} {L : Loc} {w : World} {d t : Nat} {pos : String} {aft : Array Edge} {fuel : Nat} {m : Nat} {ms ap tm : List Nat}
theorem Dy (i : Nat) {op : Op} {v : Value} (hS : Shape ops m ms ap tm) (hi : ops[i]? = some ⟨some d, op, t, pos, aft, none⟩) (hd : Nat.blt d n = true) (hok : (okPM m ms ap (maskOf done) i && (closM (maskOf done) 0 ms && lateM tm i late)) = true) (hJ : J w)
    (hy : ∀ w, J w → Y P n L w op t v) (k : OD P n ops late J fuel (i :: done) N ((d, v) :: L) w) : OD P n ops late J (fuel + 1) done N L w := OD_yS hS hi hd hok hJ hy k
theorem Dz (i : Nat) {j dj : Nat} {b : Bool} {op : Op} {v : Value} (hS : Shape ops m ms ap tm) (hi : ops[i]? = some ⟨some d, op, t, pos, aft, some (j, b)⟩) (hj : (ops[j]?).bind (·.dst) = some dj) (hl : lk dj L = some (.bool b)) (hd : Nat.blt d n = true) (hok : (okPM m ms ap (maskOf done) i && (closM (maskOf done) 0 ms && lateM tm i late)) = true) (hJ : J w)
    (hy : ∀ w, J w → Y P n L w op t v) (k : OD P n ops late J fuel (i :: done) N ((d, v) :: L) w) : OD P n ops late J (fuel + 1) done N L w := OD_yesS hS hi hj hl hd hok hJ hy k
theorem Dp (i : Nat) {op : Op} {v : Value} (hS : Shape ops m ms ap tm) (hi : ops[i]? = some ⟨some d, op, t, pos, aft, none⟩) (hd : Nat.blt d n = true) (hok : okPM m ms ap (maskOf done) i = true)
    (hy : ∀ w, Y P n L w op t v) (k : OD P n ops late J fuel (i :: done) N ((d, v) :: L) w) : OD P n ops late J (fuel + 1) done N L w := OD_pS hS hi hd hok hy k
theorem Dm (i : Nat) {x : Operand} {v : Value} (hS : Shape ops m ms ap tm) (hi : ops[i]? = some ⟨some d, .move x, t, pos, aft, none⟩) (hd : Nat.blt d n = true) (hok : okPM m ms ap (maskOf done) i = true)
    (hx : ev L x = some v) (k : OD P n ops late J fuel (i :: done) N ((d, v) :: L) w) : OD P n ops late J (fuel + 1) done N L w := OD_pS hS hi hd hok (fun _ => Y_move hx) k
theorem Dq (i : Nat) {j dj : Nat} {b : Bool} {op : Op} {v : Value} (hS : Shape ops m ms ap tm) (hi : ops[i]? = some ⟨some d, op, t, pos, aft, some (j, b)⟩) (hj : (ops[j]?).bind (·.dst) = some dj) (hl : lk dj L = some (.bool b)) (hd : Nat.blt d n = true) (hok : okPM m ms ap (maskOf done) i = true)
    (hy : ∀ w, Y P n L w op t v) (k : OD P n ops late J fuel (i :: done) N ((d, v) :: L) w) : OD P n ops late J (fuel + 1) done N L w := OD_pyesS hS hi hj hl hd hok hy k
theorem Dn (i : Nat) {j dj : Nat} {b c : Bool} {op : Op} (hS : Shape ops m ms ap tm) (hi : ops[i]? = some ⟨some d, op, t, pos, aft, some (j, b)⟩) (hj : (ops[j]?).bind (·.dst) = some dj) (hl : lk dj L = some (.bool c)) (hc : c = !b) (hd : Nat.blt d n = true) (hok : okPM m ms ap (maskOf done) i = true)
    (k : OD P n ops late J fuel (i :: done) N ((d, undef) :: L) w) : OD P n ops late J (fuel + 1) done N L w := OD_noS hS hi hj hl hc hd hok k
theorem D1 (i : Nat) {o : Oper} (hS : Shape ops m ms ap tm) (hi : ops[i]? = some o) (hok : (Nat.blt i m && rdyM ms (maskOf done) i && onlyM (maskOf done) i 0 ms) = true)
    (h : ∀ N' : Nxt, (∀ L' w', (late.contains i = false → J w → J w') → OD P n ops late J fuel (i :: done) N L' w' → N' L' w') → O P n ops [o] N' L w) : OD P n ops late J (fuel + 1) done N L w := OD_oneS hS hi hok h
end
end Go.Proofs.YthoicbafdanmkaaGreatDoor
/- Strings: conversions, parts, one behind the other. Own work of this repo. -/
namespace Go.Proofs.YthoicbafdanmkaaGreatDoor
open Go.RowKit
section
variable {P : Program} {n : Nat} {N : Nxt} {L : Loc} {w w0 : World} {ops : Array Oper} {rest : List Oper} {d t : Nat} {pos : String} {aft : Array Edge} {ρ : Hp} {Γ : List Item} {x y : Operand} {xt yt : TypeId}
def bytesS (xs : List Int) : ByteArray := xs.foldl (fun r n => r.push (UInt8.ofNat n.toNat)) ByteArray.empty
theorem slr_load {k : IntKind} {xs : List Int} {b o : Nat} (hs : St w0 ρ Γ w) (h : ∀ i x, xs[i]? = some x → ∃ cs, (Rep.int k).R ρ cs x ∧ ∀ j u, cs[j]? = some u → ρ ⟨b, o + i * (Rep.int k).sz + j, none⟩ = some u) :
    (loadCells ⟨b, o, none⟩ xs.length).run P w = .ok (xs.map (Value.int k)).toArray w := by
  have := run_loadCellsFrom (P := P) (w := w) (a := ⟨b, o, none⟩) (xs.map (Value.int k)) 0 #[] (fun j u hu => by
    rw [Nat.zero_add, Addr.add_lit]
    rw [List.getElem?_map] at hu
    obtain ⟨z, hz, rfl⟩ := Option.map_eq_some_iff.1 hu
    obtain ⟨cs, h1, h2⟩ := h j z hz
    have h1' : cs = [.int k z] := h1
    have := h2 0 (.int k z) (by rw [h1']; rfl)
    exact hs.see (by simpa [Rep.int] using this))
  rw [List.length_map] at this
  simpa [loadCells] using this
theorem Y_srunes {src dst e : TypeId} {v : Value} {xs : List Int} (hu : P.underlying src = some (.slice e)) (he : P.underlying e = some (.int .i32)) (hd : P.underlying dst = some .string) (hs : St w0 ρ Γ w) (f : SlR (Rep.int .i32) ρ v xs) (hx : ev L x = some v) :
    Y P n L w (.convert src dst x) t (.string (runesBytes xs)) := fun a ha _ _ _ _ => by
  rcases f with ⟨rfl, p, c, rfl⟩ | ⟨b, o, c, rfl, _, h⟩
  · have : (Conv.runesToString (.slice p 0 c)).run P w = .ok (.string (runesBytes [])) w := by
      cases p with
      | none => rfl
      | some p => exact run_runesToString w p 0 c [] (by simp [loadCells, loadCellsFrom])
    simp [execOp, ha.ev hx, run_convert_runes_string w src dst e p 0 c hu he hd, this]
  · simp [execOp, ha.ev hx, run_convert_runes_string w src dst e _ _ c hu he hd, run_runesToString w _ xs.length c xs (slr_load hs h)]
theorem Y_sbytes {src dst e : TypeId} {v : Value} {xs : List Int} (hu : P.underlying src = some (.slice e)) (he : P.underlying e = some (.int .u8)) (hd : P.underlying dst = some .string) (hs : St w0 ρ Γ w) (f : SlR (Rep.int .u8) ρ v xs) (hx : ev L x = some v) :
    Y P n L w (.convert src dst x) t (.string (bytesS xs)) := fun a ha _ _ _ _ => by
  rcases f with ⟨rfl, p, c, rfl⟩ | ⟨b, o, c, rfl, _, h⟩
  · have : (Conv.bytesToString (.slice p 0 c)).run P w = .ok (.string (bytesS [])) w := by
      cases p with
      | none => rfl
      | some p => exact run_bytesToString w p 0 c [] (by simp [loadCells, loadCellsFrom])
    simp [execOp, ha.ev hx, run_convert_bytes_string w src dst e p 0 c hu he hd, this]
  · simp [execOp, ha.ev hx, run_convert_bytes_string w src dst e _ _ c hu he hd, run_bytesToString w _ xs.length c xs (slr_load hs h), bytesS]
def runesL (s : ByteArray) : List Int := (Conv.runesFrom s s.size 0 #[]).toList.map fun v => match v with | .int _ n => n | _ => 0
theorem runesFrom_ints (s : ByteArray) : ∀ (b i : Nat) (acc : Array Value), (∃ l : List Int, acc.toList = l.map (Value.int .i32)) → ∃ l : List Int, (Conv.runesFrom s b i acc).toList = l.map (Value.int .i32)
  | 0, i, acc, h => by simpa [Conv.runesFrom] using h
  | b + 1, i, acc, ⟨l, hl⟩ => by
    unfold Conv.runesFrom
    split
    · exact runesFrom_ints s b _ _ ⟨l ++ [Int.ofNat (Utf8.decode s i).1], by rw [Array.toList_push, hl, List.map_append]; rfl⟩
    · exact ⟨l, hl⟩
theorem runesL_eq (s : ByteArray) : (Conv.runesFrom s s.size 0 #[]).toList = (runesL s).map (Value.int .i32) := by
  obtain ⟨l, hl⟩ := runesFrom_ints s s.size 0 #[] ⟨[], rfl⟩
  have e : runesL s = l := by
    rw [runesL, hl, List.map_map]
    have : ((fun v : Value => match v with | .int _ n => n | _ => 0) ∘ Value.int .i32) = id := rfl
    rw [this, List.map_id]
  rw [hl, e]
theorem runesL_size (s : ByteArray) : (Conv.runesFrom s s.size 0 #[]).size = (runesL s).length := by
  have := congrArg List.length (runesL_eq s)
  simpa using this
theorem O_runes {src dst e : TypeId} {s : ByteArray} (hu : P.underlying src = some .string) (hd' : P.underlying dst = some (.slice e)) (he : P.underlying e = some (.int .i32)) (hs : St w0 ρ Γ w) (hd : Nat.blt d n = true) (hx : ev L x = some (.string s)) (hm : (runesL s).length ≤ most)
    (k : ∀ v cs w', St w0 ρ (.row v e 1 (runesL s).length cs :: Γ) w' → RowR (Rep.int .i32) ρ cs (runesL s) → O P n ops rest N ((d, v) :: L) w') : O P n ops (⟨some d, .convert src dst x, t, pos, aft, none⟩ :: rest) N L w := by
  have hbig : most = 2147483648 := rfl
  have h46 : (Conv.runesFrom s s.size 0 #[]).size ≤ 70368744177664 := by rw [runesL_size]; omega
  refine O_op hd fun a ha => ?_
  have hr := run_runes_of_string (P := P) w src dst e s hu hd' he h46
  rw [runesL_size] at hr
  refine ⟨_, _, by simp only [execOp, ha.ev hx, Sem.run_bind, hr, Result.andThen]; rfl, k (.slice (some ⟨w.heap.size, 0, none⟩) (runesL s).length (grownCap w (runesL s).length 0 e)) ((runesL s).map (Value.int .i32)) _ ?_ ?_⟩
  · have hs' : St w0 ρ Γ w.drew := hs.drew
    refine hs'.push _ (.row (.slice (some ⟨w.heap.size, 0, none⟩) (runesL s).length (grownCap w (runesL s).length 0 e)) e 1 (runesL s).length ((runesL s).map (Value.int .i32))) rfl ⟨by simp, .inr ⟨w.heap.size, grownCap w (runesL s).length 0 e, _, rfl, Nat.zero_le _, heap_alloc_new w.drew _, grownCap_ge _ _ _ _, grownCap_le_maxLen w _ _ e (by unfold maxLen; omega), ?_, ?_⟩⟩
    · have := grownCap_ge w (runesL s).length 0 e
      simp [runesL_size]
      omega
    · rw [Array.toList_append, List.take_append_of_le_length (by simp [runesL_size]), runesL_eq, List.take_of_length_le (by simp)]
  · refine ⟨by simp [Rep.int], fun i z hz => ⟨[.int .i32 z], rfl, fun j u hu => ?_⟩⟩
    cases j with
    | zero => simp at hu; subst hu; simpa [Rep.int] using hz
    | succ j => simp at hu
theorem Y_cat {a b : ByteArray} (hx : ev L x = some (.string a)) (hy : ev L y = some (.string b)) (h : a.size + b.size ≤ 9223372036854775807) : Y P n L w (.binOp .add xt x y yt) t (.string (a ++ b)) :=
  Y_op2 hx hy rfl (by
    have : ¬ (((a.size + b.size : Nat) : Int) > IntKind.i64.max) := by show ¬ (_ > (9223372036854775807 : Int)); omega
    simp only [binOp, Op.stringOp, this, if_false, Sem.run_pure])
theorem Y_cutS {sl : TypeId} {s : ByteArray} {lo hi : Option Operand} {l h : Int} (hu : P.underlying sl = some .string) (hx : ev L x = some (.string s)) (hl : (lo = none ∧ l = 0) ∨ ∃ z k, lo = some z ∧ ev L z = some (.int k l)) (hh : (hi = none ∧ h = (s.size : Int)) ∨ ∃ z k, hi = some z ∧ ev L z = some (.int k h))
    (h0 : 0 ≤ l) (h1 : l ≤ h) (h2 : h ≤ (s.size : Int)) : Y P n L w (.slice sl x lo hi none) t (.string (s.extract l.toNat h.toNat)) := by
  intro q hq _ _ _ _
  have hb : (Instr.sliceBounds false s.size s.size (lo.map q.eval) (hi.map q.eval) none).run P w = .ok (l.toNat, h.toNat, s.size) w := by
    rcases hl with ⟨rfl, rfl⟩ | ⟨zl, kl, rfl, hzl⟩ <;> rcases hh with ⟨rfl, rfl⟩ | ⟨zh, kh, rfl, hzh⟩
    · simp [Instr.sliceBounds]
    · have e1 := run_bound (P := P) (w := w) (c := .sliceAlen) (hq.ev hzh) (by omega) h2
      simp [Instr.sliceBounds, e1]
    · have e1 := run_bound (P := P) (w := w) (c := .sliceB) (hq.ev hzl) h0 h1
      simp [Instr.sliceBounds, e1]
    · have e1 := run_bound (P := P) (w := w) (c := .sliceAlen) (hq.ev hzh) (by omega) h2
      have e2 := run_bound (P := P) (w := w) (c := .sliceB) (hq.ev hzl) h0 (show l ≤ (h.toNat : Int) by omega)
      simp [Instr.sliceBounds, e1, e2]
  simp [execOp, Instr.sliceAt, Instr.slice, hq.ev hx, run_underlying hu, hb]
end
end Go.Proofs.YthoicbafdanmkaaGreatDoor
/- Own rows are written in stretches: copy, room behind the end, an append of a make. Own work of this repo. -/
namespace Go.Proofs.YthoicbafdanmkaaGreatDoor
open Go.RowKit
section
variable {P : Program} {n : Nat} {N : Nxt} {L : Loc} {w w0 : World} {ops : Array Oper} {rest : List Oper} {d t : Nat} {pos : String} {aft : Array Edge} {ρ : Hp} {Γ : List Item} {x y : Operand}
def wl : List Value → Nat → List Value → List Value
  | [], _, cs => cs
  | v :: r, o, cs => wl r (o + 1) (cs.set o v)
theorem wl_len : ∀ (vs : List Value) (o : Nat) (cs : List Value), (wl vs o cs).length = cs.length
  | [], _, _ => rfl
  | v :: r, o, cs => by rw [wl, wl_len r]; simp
theorem wl_eq : ∀ (vs : List Value) (o : Nat) (cs : List Value), o + vs.length ≤ cs.length → wl vs o cs = cs.take o ++ (vs ++ cs.drop (o + vs.length))
  | [], o, cs, _ => by simp [wl]
  | v :: r, o, cs, h => by
    simp only [List.length_cons] at h
    rw [wl, wl_eq r (o + 1) (cs.set o v) (by simp; omega), List.drop_set_of_lt (by omega), List.take_add_one, List.getElem?_set_self (by omega)]
    rw [List.take_set_of_le (by omega)]
    simp [Nat.add_assoc, Nat.add_comm 1]
theorem St.rowWrite {e m g : Nat} {v : Value} (hg : v.ownBlock = some g) {j : Nat} : ∀ (vs : List Value) (o : Nat) (cs : List Value) (Γ : List Item) (w : World), St w0 ρ Γ w → Γ[j]? = some (.row v e 1 m cs) → o + vs.length ≤ cs.length → St w0 ρ (Γ.set j (.row v e 1 m (wl vs o cs))) (w.setCells g o vs)
  | [], o, cs, Γ, w, hs, hi, _ => by
    rw [wl, World.setCells]
    have : Γ.set j (.row v e 1 m cs) = Γ := by
      apply List.ext_getElem? 
      intro k
      by_cases hk : j = k
      · subst hk
        rw [List.getElem?_set_self (List.getElem?_eq_some_iff.1 hi).1, hi]
      · rw [List.getElem?_set_ne hk]
    rw [this]; exact hs
  | u :: r, o, cs, Γ, w, hs, hi, h => by
    simp only [List.length_cons] at h
    have hlt : j < Γ.length := (List.getElem?_eq_some_iff.1 hi).1
    have h1 := hs.rowSet (k := o) (u := u) hi hg (by omega)
    have h2 := St.rowWrite hg (j := j) r (o + 1) (cs.set o u) _ _ h1 (by rw [List.getElem?_set_self hlt]) (by simp; omega)
    rw [List.set_set] at h2
    exact h2
theorem St.rowRoom {e m cap g j : Nat} {cs : List Value} (hs : St w0 ρ Γ w) (hi : Γ[j]? = some (.row (.slice (some ⟨g, 0, none⟩) m cap) e 1 m cs)) (hc : m + 1 ≤ cap) : ∃ z, St w0 ρ (Γ.set j (.row (.slice (some ⟨g, 0, none⟩) (m + 1) cap) e 1 (m + 1) (cs ++ [z]))) w := by
  have hok : w.ownsRow 0 e 1 (.slice (some ⟨g, 0, none⟩) m cap) m cs := hs.ok _ (List.mem_of_getElem? hi)
  rcases hok.2 with ⟨h, _⟩ | ⟨g', cap', cur, h, h0, hgg, hnc, hcm, hcs, htk⟩
  · cases h
  · cases h
    have hl := hok.1
    have hsz : m < cur.toList.length := by simp; omega
    refine ⟨cur.toList[m], hs.turn hi (Below.refl _ _) (fun _ _ _ => rfl) ⟨by simp [hl], .inr ⟨g, cap, cur, rfl, h0, hgg, hc, hcm, hcs, ?_⟩⟩ (.inl rfl)⟩
    rw [Nat.mul_one, List.take_add_one, List.getElem?_eq_getElem hsz, ← htk]
    simp
theorem goCopy {e m g o n1 c1 n2 c2 : Nat} {a : Addr} {v : Value} {cs vs : List Value} {j : Nat} {dT sT ty : TypeId} (hs : St w0 ρ Γ w) (hi : Γ[j]? = some (.row v e 1 m cs)) (hg : v.ownBlock = some g) {bytes : Nat} (he : ElemOf P dT e 1 bytes)
    (hn : vs.length = Nat.min n2 n1) (hfit : o + vs.length ≤ cs.length) (hsrc : ∀ j v, vs[j]? = some v → w.cell? (a.add j) = some v) (h1 : ∀ v ∈ vs, v.oneCell' = true) :
    (Builtin.copy_ #[dT, sT] ty #[.slice (some ⟨g, o, none⟩) n1 c1, .slice (some a) n2 c2]).run P w = .ok (goInt vs.length) (w.setCells g o vs) := by
  obtain ⟨q, z, hq, _, hsz, _, _⟩ := he.info
  have hok : w.ownsRow 0 e 1 v m cs := hs.ok _ (List.mem_of_getElem? hi)
  refine run_copy_cells w dT sT ty e g o n1 c1 a n2 c2 vs he.under (by rw [hq]; simp [hsz]) hn hsrc (fun k hk => ?_) (fun k hk => ?_) h1
  · rw [hs.rowCell hi hg (List.getElem?_eq_getElem (show o + k < cs.length by omega))]; rfl
  · rcases hok.2 with ⟨rfl, hm⟩ | ⟨g', cap, cur, rfl, h0, hgg, _⟩
    · cases hg
    · simp only [Value.ownBlock, Option.some.injEq] at hg
      subst hg
      simp [World.frozen?, hgg]
theorem Y_sliceUp {sl e sz bytes : Nat} {a : Addr} {m c : Nat} {hi : Operand} {h : Int} {k : IntKind} (he : ElemOf P sl e sz bytes) (hx : ev L x = some (.slice (some a) m c)) (hh : ev L hi = some (.int k h))
    (h0 : 0 ≤ h) (h2 : h ≤ (c : Int)) : Y P n L w (.slice sl x none (some hi) none) t (.slice (some a) h.toNat c) := by
  obtain ⟨j, z, hj, _, hsz, _, _⟩ := he.info
  intro q hq _ _ _ _
  have hsize : (sizeOf e).run P w = .ok sz w := by simp [sizeOf, typeInfo, hj, hsz]
  have hb : (Instr.sliceBounds true m c none (some (q.eval hi)) none).run P w = .ok (0, h.toNat, c) w := by
    have e1 := run_bound (P := P) (w := w) (c := .sliceAcap) (hq.ev hh) h0 h2
    simp [Instr.sliceBounds, e1]
  have hz : a.add 0 = a := by obtain ⟨b, o, s⟩ := a; cases s <;> rfl
  simp [execOp, Instr.sliceAt, Instr.slice, hq.ev hx, run_underlying he.under, hb, hsize, hz]
theorem Y_cap {sl e : Nat} {a : Option Addr} {m c : Nat} (hu : P.underlying sl = some (.slice e)) (hx : ev L x = some (.slice a m c)) : Y P n L w (.call { callee := .builtin .cap, args := #[x], argTypes := #[sl] }) t (.int .i64 (c : Int)) := by
  intro q hq _ _ _ _
  simp [execOp, resolve, invoke, builtin, hq.ev hx, Builtin.cap_, run_underlying hu, goInt]
theorem Y_ext {f : FuncId} {xs : List Operand} {ts : Array TypeId} {vs : List Value} {r : Value} (hx : evs L xs = some vs) (hc : (callFunc f vs.toArray).run P w = .ok (.value r) w) : Y P n L w (.call { callee := .value (.func f), args := xs.toArray, argTypes := ts }) t r := by
  intro a ha _ _ _ _
  have := ha.evs hx
  simp [execOp, resolve, Act.eval, Deferred.ofValue, invoke, this, go_sem]
  exact hc
theorem Y_sliceFrom {sl e bytes : Nat} {g o m c l : Nat} {z : Operand} {k : IntKind} (he : ElemOf P sl e 1 bytes) (hx : ev L x = some (.slice (some ⟨g, o, none⟩) m c)) (hl : ev L z = some (.int k (l : Int))) (h1 : l ≤ m) (hc : l < c) (hmc : m ≤ c) :
    Y P n L w (.slice sl x (some z) none none) t (.slice (some ⟨g, o + l, none⟩) (m - l) (c - l)) := by
  have := Y_slice (n := n) (w := w) (t := t) (hi := none) (h := (m : Int)) he hx (.inr ⟨z, k, rfl, hl⟩) (.inl ⟨rfl, rfl⟩) (by omega) (by omega) (by omega) hmc
  have e1 : ((l : Int)).toNat = l := by omega
  rw [e1, if_neg (by omega)] at this
  simpa [Addr.add_lit] using this
theorem O_copyRow {sl e bytes m g o n1 c1 n2 c2 j : Nat} {a : Addr} {v : Value} {cs vs : List Value} (he : ElemOf P sl e 1 bytes) (hs : St w0 ρ Γ w) (hi : Γ[j]? = some (.row v e 1 m cs)) (hg : v.ownBlock = some g) (hd : Nat.blt d n = true) (hx : ev L x = some (.slice (some ⟨g, o, none⟩) n1 c1)) (hy : ev L y = some (.slice (some a) n2 c2))
    (hn : vs.length = Nat.min n2 n1) (hfit : o + vs.length ≤ cs.length) (hsrc : ∀ j v, vs[j]? = some v → w.cell? (a.add j) = some v) (h1 : ∀ v ∈ vs, v.oneCell' = true)
    (k : ∀ w', St w0 ρ (Γ.set j (.row v e 1 m (wl vs o cs))) w' → O P n ops rest N ((d, goInt vs.length) :: L) w') :
    O P n ops (⟨some d, .call { callee := .builtin .copy, args := #[x, y], argTypes := #[sl, sl] }, t, pos, aft, none⟩ :: rest) N L w := by
  refine O_op hd fun q hq => ⟨_, _, ?_, k _ (hs.rowWrite hg vs o cs _ _ hi hfit)⟩
  have hr := goCopy (P := P) (c1 := c1) (c2 := c2) (sT := sl) (ty := t) hs hi hg he hn hfit hsrc h1
  simp only [execOp, resolve, invoke, builtin, Sem.run_bind, Sem.run_pure, Result.andThen_ok, List.map_toArray, List.map_cons, List.map_nil, hq.ev hx, hq.ev hy, hr]
theorem O_appendMake {sl ti e bytes m c q : Nat} {g : Addr} {kn kq : IntKind} {olds : List Value} (he : ElemOf P sl e 1 bytes) (hti : P.underlying ti = some (.int kn)) (hs : St w0 ρ Γ w) (hd : Nat.blt d n = true) (hx : ev L x = some (.slice (some g) m c)) (hy : ev L y = some (.int kq (q : Int)))
    (hl : olds.length = m) (hc : ∀ j v, olds[j]? = some v → w.cell? (g.add j) = some v) (h0 : 0 < q) (hg : c < m + q) (hb : m + q ≤ most)
    (k : ∀ b zs c' w', zs.length = q → m + q ≤ c' → St w0 ρ (.row (.slice (some ⟨b, 0, none⟩) (m + q) c') e 1 (m + q) (olds ++ zs) :: Γ) w' → O P n ops rest N ((d, .slice (some ⟨b, 0, none⟩) (m + q) c') :: L) w') :
    O P n ops (⟨some d, .call { callee := .builtin .append, args := #[x, y], argTypes := #[sl, ti] }, t, pos, aft, none⟩ :: rest) N L w := by
  have hbig : most = 2147483648 := rfl
  obtain ⟨i, z, hi, hz, hsz, hby, hzs⟩ := he.info
  have hsm := he.small
  have hold : (Builtin.firstCells i.size m (.slice (some g) m c)).run P w.drew = .ok olds.toArray w.drew := run_firstCells_some (w := w.drew) i.size m g m c olds (by rw [hsz, hl, Nat.mul_one]) (fun j v hj => hc j v hj)
  have hmb : (m + q) * bytes ≤ 140737488355328 := Nat.le_trans (Nat.mul_le_mul (show m + q ≤ 2147483648 by omega) hsm) (by decide)
  have hr := Lib.run_append_grow_zeros (P := P) w sl ti t e i z kq kn he.under hti hi hz (some g) m c olds hold q h0 (by omega) hg (by omega) (by rw [hby]; exact Nat.le_trans (Nat.mul_le_mul (show q ≤ 2147483648 by omega) hsm) (by decide)) (by rw [hby]; exact growslice_fits hg hmb)
  have hcap := grownCap_ge w (m + q) c e
  refine O_op hd fun p hp => ⟨_, _, ?_, k w.heap.size (Builtin.zeroCells z.cells q).toList (grownCap w (m + q) c e) (w.drew.alloc (.cells (olds.toArray ++ Builtin.zeroCells z.cells q ++ Builtin.zeroCells z.cells (grownCap w (m + q) c e - (m + q))) e)) ?_ hcap ?_⟩
  · simp only [execOp, resolve, invoke, builtin, Sem.run_bind, Sem.run_pure, Result.andThen_ok, List.map_toArray, List.map_cons, List.map_nil, hp.ev hx, hp.ev hy, hr]
  · have : ∀ k, (Builtin.zeroCells z.cells k).size = k := fun k => by simp [Builtin.zeroCells, hzs]
    simp [this]
  · have hzc : ∀ k, (Builtin.zeroCells z.cells k).size = k := fun k => by simp [Builtin.zeroCells, hzs]
    have hs' : St w0 ρ Γ w.drew := hs.drew
    refine hs'.push _ (.row (.slice (some ⟨w.heap.size, 0, none⟩) (m + q) (grownCap w (m + q) c e)) e 1 (m + q) (olds ++ (Builtin.zeroCells z.cells q).toList)) rfl ⟨by simp [hzc, hl], .inr ⟨w.heap.size, grownCap w (m + q) c e, _, rfl, Nat.zero_le _, heap_alloc_new w.drew _, hcap, grownCap_le_maxLen w _ _ e (by unfold maxLen; omega), ?_, ?_⟩⟩
    · simp [hzc, hl]
      omega
    · rw [Array.toList_append, List.take_append_of_le_length (by simp [hzc, hl])]
      rw [List.take_of_length_le (by simp [hzc, hl])]
      simp
theorem RowR.ints {k : IntKind} {cs : List Value} {xs : List Int} (h : RowR (Rep.int k) ρ cs xs) : cs = xs.map (Value.int k) := by
  apply List.ext_getElem?
  intro i
  rw [List.getElem?_map]
  cases hx : xs[i]? with
  | none => rw [Option.map_none]; have := h.1; have := List.getElem?_eq_none_iff.1 hx; rw [List.getElem?_eq_none_iff]; simp [Rep.int] at *; omega
  | some x =>
    obtain ⟨c, h1, h2⟩ := h.2 i x hx
    have h1' : c = [.int k x] := h1
    have := h2 0 (.int k x) (by rw [h1']; rfl)
    simpa [Rep.int] using this
theorem RowR.ofInts {k : IntKind} (xs : List Int) : RowR (Rep.int k) ρ (xs.map (Value.int k)) xs := by
  refine ⟨by simp [Rep.int], fun i z hz => ⟨[.int k z], rfl, fun j u hu => ?_⟩⟩
  cases j with
  | zero => simp at hu; subst hu; simpa [Rep.int] using hz
  | succ j => simp at hu
def insZ (xs : List Int) (i z : Int) : List Int := xs.take i.toNat ++ z :: xs.drop i.toNat
end
end Go.Proofs.YthoicbafdanmkaaGreatDoor
/- The data of the program's structs. Written by this repo's structs.py. -/
namespace Go.Proofs.YthoicbafdanmkaaGreatDoor
open Go.RowKit
structure S8 where
  x : Int
  y : Int
  signed : Bool
  code : Int
  deriving Inhabited
structure S9 where
  msg : ByteArray
  addr : Int
  deriving Inhabited
structure Val where
  lo : Int
  hi : Int
  n : Int
  deriving Inhabited
def rVal : Rep Val := ⟨3, fun ρ cs x => cs = [.int .i32 x.lo, .int .i32 x.hi, .int .i64 x.n], fun h => by obtain rfl := h; rfl, fun hle h => by obtain rfl := h; exact rfl, fun h => by obtain rfl := h; exact (one_cons rfl (one_cons rfl (one_cons rfl one_nil)))⟩
structure Chs where
  lo : Int
  hi : Int
  is_ : List Int
  deriving Inhabited
def rChs : Rep Chs := ⟨3, fun ρ cs x => ∃ v2 : Value, cs = [.int .i32 x.lo, .int .i32 x.hi, v2] ∧ SlR (Rep.int .i32) ρ v2 x.is_, fun h => by obtain ⟨v2, rfl, f0⟩ := h; rfl, fun hle h => by obtain ⟨v2, rfl, f0⟩ := h; exact ⟨v2, rfl, f0.mono hle⟩, fun h => by obtain ⟨v2, rfl, f0⟩ := h; exact (one_cons rfl (one_cons rfl (one_cons f0.one one_nil)))⟩
structure Spn where
  lo : Int
  hi : Int
  deriving Inhabited
def rSpn : Rep Spn := ⟨2, fun ρ cs x => cs = [.int .i32 x.lo, .int .i32 x.hi], fun h => by obtain rfl := h; rfl, fun hle h => by obtain rfl := h; exact rfl, fun h => by obtain rfl := h; exact (one_cons rfl (one_cons rfl one_nil))⟩
structure Bk where
  names : List ByteArray
  status : List Val
  maps : List Chs
  class_ : List Val
  decomp : List Chs
  excl : List Spn
  bidi : List Val
  join : List Val
  marks : List Spn
  script : List Val
  like : List Chs
  deriving Inhabited
def rBk : Rep Bk := ⟨11, fun ρ cs x => ∃ v0 v1 v2 v3 v4 v5 v6 v7 v8 v9 v10 : Value, cs = [v0, v1, v2, v3, v4, v5, v6, v7, v8, v9, v10] ∧ SlR Rep.str ρ v0 x.names ∧ SlR rVal ρ v1 x.status ∧ SlR rChs ρ v2 x.maps ∧ SlR rVal ρ v3 x.class_ ∧ SlR rChs ρ v4 x.decomp ∧ SlR rSpn ρ v5 x.excl ∧ SlR rVal ρ v6 x.bidi ∧ SlR rVal ρ v7 x.join ∧ SlR rSpn ρ v8 x.marks ∧ SlR rVal ρ v9 x.script ∧ SlR rChs ρ v10 x.like, fun h => by obtain ⟨v0, v1, v2, v3, v4, v5, v6, v7, v8, v9, v10, rfl, f0, f1, f2, f3, f4, f5, f6, f7, f8, f9, f10⟩ := h; rfl, fun hle h => by obtain ⟨v0, v1, v2, v3, v4, v5, v6, v7, v8, v9, v10, rfl, f0, f1, f2, f3, f4, f5, f6, f7, f8, f9, f10⟩ := h; exact ⟨v0, v1, v2, v3, v4, v5, v6, v7, v8, v9, v10, rfl, f0.mono hle, f1.mono hle, f2.mono hle, f3.mono hle, f4.mono hle, f5.mono hle, f6.mono hle, f7.mono hle, f8.mono hle, f9.mono hle, f10.mono hle⟩, fun h => by obtain ⟨v0, v1, v2, v3, v4, v5, v6, v7, v8, v9, v10, rfl, f0, f1, f2, f3, f4, f5, f6, f7, f8, f9, f10⟩ := h; exact (one_cons f0.one (one_cons f1.one (one_cons f2.one (one_cons f3.one (one_cons f4.one (one_cons f5.one (one_cons f6.one (one_cons f7.one (one_cons f8.one (one_cons f9.one (one_cons f10.one one_nil)))))))))))⟩
structure Tab where
  which : Vector Int 8704
  unlike : List (Vector Int 128)
  plain : List Bool
  deriving Inhabited
def rTab : Rep Tab := ⟨8706, fun ρ cs x => ∃ v1 v2 : Value, cs = [] ++ (vcs (Value.int .u16) x.which ++ [v1, v2]) ∧ SlR (Rep.arr (Value.int .u16) (one_int .u16) 128) ρ v1 x.unlike ∧ SlR Rep.bool ρ v2 x.plain, fun h => by obtain ⟨v1, v2, rfl, f0, f1⟩ := h; simp, fun hle h => by obtain ⟨v1, v2, rfl, f0, f1⟩ := h; exact ⟨v1, v2, rfl, f0.mono hle, f1.mono hle⟩, fun h => by obtain ⟨v1, v2, rfl, f0, f1⟩ := h; exact (one_app one_nil (one_app (vcs_one (one_int .u16) _) (one_cons f0.one (one_cons f1.one one_nil))))⟩
structure Tbs where
  b : Bk
  status : Option Tab
  class_ : Option Tab
  bidi : Option Tab
  join : Option Tab
  script : Option Tab
  excl : Option Tab
  mark : Option Tab
  maps : Option Tab
  decomp : Option Tab
  likes : Option Tab
  pairs : List (Vector Int 2 × Int)
  deriving Inhabited
def rTbs : Rep Tbs := ⟨22, fun ρ cs x => ∃ v0 v1 v2 v3 v4 v5 v6 v7 v8 v9 v10 v11 v12 v13 v14 v15 v16 v17 v18 v19 v20 v21 : Value, cs = [v0, v1, v2, v3, v4, v5, v6, v7, v8, v9, v10, v11, v12, v13, v14, v15, v16, v17, v18, v19, v20, v21] ∧ SlR Rep.str ρ v0 x.b.names ∧ SlR rVal ρ v1 x.b.status ∧ SlR rChs ρ v2 x.b.maps ∧ SlR rVal ρ v3 x.b.class_ ∧ SlR rChs ρ v4 x.b.decomp ∧ SlR rSpn ρ v5 x.b.excl ∧ SlR rVal ρ v6 x.b.bidi ∧ SlR rVal ρ v7 x.b.join ∧ SlR rSpn ρ v8 x.b.marks ∧ SlR rVal ρ v9 x.b.script ∧ SlR rChs ρ v10 x.b.like ∧ PtrR rTab ρ v11 x.status ∧ PtrR rTab ρ v12 x.class_ ∧ PtrR rTab ρ v13 x.bidi ∧ PtrR rTab ρ v14 x.join ∧ PtrR rTab ρ v15 x.script ∧ PtrR rTab ρ v16 x.excl ∧ PtrR rTab ρ v17 x.mark ∧ PtrR rTab ρ v18 x.maps ∧ PtrR rTab ρ v19 x.decomp ∧ PtrR rTab ρ v20 x.likes ∧ MapR (fun y : Vector Int 2 => Value.agg (acs .i32 y.toList).toArray) (Value.int .i32) ρ v21 x.pairs, fun h => by obtain ⟨v0, v1, v2, v3, v4, v5, v6, v7, v8, v9, v10, v11, v12, v13, v14, v15, v16, v17, v18, v19, v20, v21, rfl, f0, f1, f2, f3, f4, f5, f6, f7, f8, f9, f10, f11, f12, f13, f14, f15, f16, f17, f18, f19, f20, f21⟩ := h; rfl, fun hle h => by obtain ⟨v0, v1, v2, v3, v4, v5, v6, v7, v8, v9, v10, v11, v12, v13, v14, v15, v16, v17, v18, v19, v20, v21, rfl, f0, f1, f2, f3, f4, f5, f6, f7, f8, f9, f10, f11, f12, f13, f14, f15, f16, f17, f18, f19, f20, f21⟩ := h; exact ⟨v0, v1, v2, v3, v4, v5, v6, v7, v8, v9, v10, v11, v12, v13, v14, v15, v16, v17, v18, v19, v20, v21, rfl, f0.mono hle, f1.mono hle, f2.mono hle, f3.mono hle, f4.mono hle, f5.mono hle, f6.mono hle, f7.mono hle, f8.mono hle, f9.mono hle, f10.mono hle, f11.mono hle, f12.mono hle, f13.mono hle, f14.mono hle, f15.mono hle, f16.mono hle, f17.mono hle, f18.mono hle, f19.mono hle, f20.mono hle, f21.mono hle⟩, fun h => by obtain ⟨v0, v1, v2, v3, v4, v5, v6, v7, v8, v9, v10, v11, v12, v13, v14, v15, v16, v17, v18, v19, v20, v21, rfl, f0, f1, f2, f3, f4, f5, f6, f7, f8, f9, f10, f11, f12, f13, f14, f15, f16, f17, f18, f19, f20, f21⟩ := h; exact (one_cons f0.one (one_cons f1.one (one_cons f2.one (one_cons f3.one (one_cons f4.one (one_cons f5.one (one_cons f6.one (one_cons f7.one (one_cons f8.one (one_cons f9.one (one_cons f10.one (one_cons f11.one (one_cons f12.one (one_cons f13.one (one_cons f14.one (one_cons f15.one (one_cons f16.one (one_cons f17.one (one_cons f18.one (one_cons f19.one (one_cons f20.one (one_cons f21.one one_nil))))))))))))))))))))))⟩
structure S10 where
  says : List Int
  coded : Bool
  fault : Int
  deriving Inhabited
def rS10 : Rep S10 := ⟨3, fun ρ cs x => ∃ v0 : Value, cs = [v0, .bool x.coded, .int .i64 x.fault] ∧ SlR (Rep.int .i32) ρ v0 x.says, fun h => by obtain ⟨v0, rfl, f0⟩ := h; rfl, fun hle h => by obtain ⟨v0, rfl, f0⟩ := h; exact ⟨v0, rfl, f0.mono hle⟩, fun h => by obtain ⟨v0, rfl, f0⟩ := h; exact (one_cons f0.one (one_cons rfl (one_cons rfl one_nil)))⟩
structure Wh where
  list : Int
  row : Int
  deriving Inhabited
def rWh : Rep Wh := ⟨2, fun ρ cs x => cs = [.int .i64 x.list, .int .i64 x.row], fun h => by obtain rfl := h; rfl, fun hle h => by obtain rfl := h; exact rfl, fun h => by obtain rfl := h; exact (one_cons rfl (one_cons rfl one_nil))⟩
structure S11 where
  base : Int
  least : Int
  most : Int
  skew : Int
  damp : Int
  bias : Int
  first : Int
  between : Int
  deriving Inhabited
def rS11 : Rep S11 := ⟨8, fun ρ cs x => cs = [.int .i64 x.base, .int .i64 x.least, .int .i64 x.most, .int .i64 x.skew, .int .i64 x.damp, .int .i64 x.bias, .int .i64 x.first, .int .u8 x.between], fun h => by obtain rfl := h; rfl, fun hle h => by obtain rfl := h; exact rfl, fun h => by obtain rfl := h; exact (one_cons rfl (one_cons rfl (one_cons rfl (one_cons rfl (one_cons rfl (one_cons rfl (one_cons rfl (one_cons rfl one_nil))))))))⟩
structure S12 where
  p : S11
  s : ByteArray
  at_ : Int
  out : List Int
  n : Int
  i : Int
  bias : Int
  deriving Inhabited
structure S13 where
  l : List Chs
  rows : List (Int × Int)
  long : List (Int × Int)
  deriving Inhabited
structure S14 where
  lo : Int
  hi : Int
  deriving Inhabited
end Go.Proofs.YthoicbafdanmkaaGreatDoor
namespace Go.Proofs.YthoicbafdanmkaaGreatDoor
theorem mixed : Tryz.prog.follows .mixedOrders = true := by kernel_rfl
theorem ag27 : isAggOf Tryz.prog 27 = some true := by kernel_rfl
theorem sz27 : sizeOf' Tryz.prog 27 = some 11 := by kernel_rfl
theorem un28 : Tryz.prog.underlying 28 = some (.slice 21) := by kernel_rfl
theorem el28 : ElemOf Tryz.prog 28 21 1 4 := elemOf_of un28 (by kernel_rfl) rfl rfl
theorem un3 : Tryz.prog.underlying 3 = some (.int .i64) := by kernel_rfl
theorem ag21 : isAggOf Tryz.prog 21 = some false := by kernel_rfl
theorem sz21 : sizeOf' Tryz.prog 21 = some 1 := by kernel_rfl
theorem un21 : Tryz.prog.underlying 21 = some (.int .i32) := by kernel_rfl
theorem un29 : Tryz.prog.underlying 29 = some (.pointer 114) := by kernel_rfl
theorem un9 : Tryz.prog.underlying 9 = some .string := by kernel_rfl
theorem sz43 : sizeOf' Tryz.prog 43 = some 3 := by kernel_rfl
theorem zr43 : zeroOf Tryz.prog 43 = some [.slice none 0 0, .bool false, .int .i64 0] := by kernel_rfl
theorem fo43_1 : fieldOff Tryz.prog 43 1 = some 1 := by kernel_rfl
theorem ag4 : isAggOf Tryz.prog 4 = some false := by kernel_rfl
theorem fo43_2 : fieldOff Tryz.prog 43 2 = some 2 := by kernel_rfl
theorem ag3 : isAggOf Tryz.prog 3 = some false := by kernel_rfl
theorem sz3 : sizeOf' Tryz.prog 3 = some 1 := by kernel_rfl
theorem fo43_0 : fieldOff Tryz.prog 43 0 = some 0 := by kernel_rfl
theorem ag28 : isAggOf Tryz.prog 28 = some false := by kernel_rfl
theorem sz28 : sizeOf' Tryz.prog 28 = some 1 := by kernel_rfl
theorem un4 : Tryz.prog.underlying 4 = some .bool := by kernel_rfl
theorem un52 : Tryz.prog.underlying 52 = some (.slice 28) := by kernel_rfl
theorem el52 : ElemOf Tryz.prog 52 28 1 24 := elemOf_of un52 (by kernel_rfl) rfl rfl
theorem un56 : Tryz.prog.underlying 56 = some (.slice 3) := by kernel_rfl
theorem el56 : ElemOf Tryz.prog 56 3 1 8 := elemOf_of un56 (by kernel_rfl) rfl rfl
theorem ag67 : isAggOf Tryz.prog 67 = some true := by kernel_rfl
theorem sz67 : sizeOf' Tryz.prog 67 = some 3 := by kernel_rfl
theorem zr67 : zeroOf Tryz.prog 67 = some [.int .i32 0, .int .i32 0, .int .i64 0] := by kernel_rfl
theorem pl67 : placesOf Tryz.prog 67 = some [(0, 1), (1, 1), (2, 1)] := by kernel_rfl
theorem un23 : Tryz.prog.underlying 23 = some (.slice 67) := by kernel_rfl
theorem el23 : ElemOf Tryz.prog 23 67 3 16 := elemOf_of un23 (by kernel_rfl) rfl rfl
theorem zr27 : zeroOf Tryz.prog 27 = some [.slice none 0 0, .slice none 0 0, .slice none 0 0, .slice none 0 0, .slice none 0 0, .slice none 0 0, .slice none 0 0, .slice none 0 0, .slice none 0 0, .slice none 0 0, .slice none 0 0] := by kernel_rfl
theorem pl27 : placesOf Tryz.prog 27 = some [(0, 1), (1, 1), (2, 1), (3, 1), (4, 1), (5, 1), (6, 1), (7, 1), (8, 1), (9, 1), (10, 1)] := by kernel_rfl
theorem ag43 : isAggOf Tryz.prog 43 = some true := by kernel_rfl
theorem pl43 : placesOf Tryz.prog 43 = some [(0, 1), (1, 1), (2, 1)] := by kernel_rfl
theorem un72 : Tryz.prog.underlying 72 = some (.slice 5) := by kernel_rfl
theorem el72 : ElemOf Tryz.prog 72 5 1 1 := elemOf_of un72 (by kernel_rfl) rfl rfl
theorem un5 : Tryz.prog.underlying 5 = some (.int .u8) := by kernel_rfl
theorem sz56 : sizeOf' Tryz.prog 56 = some 1 := by kernel_rfl
theorem zr56 : zeroOf Tryz.prog 56 = some [.slice none 0 0] := by kernel_rfl
theorem ag29 : isAggOf Tryz.prog 29 = some false := by kernel_rfl
theorem ag56 : isAggOf Tryz.prog 56 = some false := by kernel_rfl
theorem un22 : Tryz.prog.underlying 22 = some (.slice 9) := by kernel_rfl
theorem el22 : ElemOf Tryz.prog 22 9 1 16 := elemOf_of un22 (by kernel_rfl) rfl rfl
theorem fo27_0 : fieldOff Tryz.prog 27 0 = some 0 := by kernel_rfl
theorem ag22 : isAggOf Tryz.prog 22 = some false := by kernel_rfl
theorem fo27_1 : fieldOff Tryz.prog 27 1 = some 1 := by kernel_rfl
theorem ag23 : isAggOf Tryz.prog 23 = some false := by kernel_rfl
theorem fo27_2 : fieldOff Tryz.prog 27 2 = some 2 := by kernel_rfl
theorem ag24 : isAggOf Tryz.prog 24 = some false := by kernel_rfl
theorem un24 : Tryz.prog.underlying 24 = some (.slice 110) := by kernel_rfl
theorem el24 : ElemOf Tryz.prog 24 110 3 32 := elemOf_of un24 (by kernel_rfl) rfl rfl
theorem fo27_3 : fieldOff Tryz.prog 27 3 = some 3 := by kernel_rfl
theorem fo27_4 : fieldOff Tryz.prog 27 4 = some 4 := by kernel_rfl
theorem fo27_5 : fieldOff Tryz.prog 27 5 = some 5 := by kernel_rfl
theorem ag25 : isAggOf Tryz.prog 25 = some false := by kernel_rfl
theorem un25 : Tryz.prog.underlying 25 = some (.slice 129) := by kernel_rfl
theorem el25 : ElemOf Tryz.prog 25 129 2 8 := elemOf_of un25 (by kernel_rfl) rfl rfl
theorem fo27_6 : fieldOff Tryz.prog 27 6 = some 6 := by kernel_rfl
theorem fo27_7 : fieldOff Tryz.prog 27 7 = some 7 := by kernel_rfl
theorem fo27_8 : fieldOff Tryz.prog 27 8 = some 8 := by kernel_rfl
theorem fo27_9 : fieldOff Tryz.prog 27 9 = some 9 := by kernel_rfl
theorem fo27_10 : fieldOff Tryz.prog 27 10 = some 10 := by kernel_rfl
theorem un84 : Tryz.prog.underlying 84 = some (.slice 4) := by kernel_rfl
theorem el84 : ElemOf Tryz.prog 84 4 1 1 := elemOf_of un84 (by kernel_rfl) rfl rfl
theorem sz100 : sizeOf' Tryz.prog 100 = some 2 := by kernel_rfl
theorem zr100 : zeroOf Tryz.prog 100 = some [.int .i64 0, .int .i64 0] := by kernel_rfl
theorem un112 : Tryz.prog.underlying 112 = some (.map 115 21) := by kernel_rfl
theorem un115 : Tryz.prog.underlying 115 = some (.array 2 21) := by kernel_rfl
def kv115 : KeyK Tryz.prog 115 (Vector Int 2) := KeyK.vec un115 (by kernel_rfl) (by kernel_rfl) sz21 un21 ag21
theorem zv21 : ∀ w : World, (zeroValue 21).run Tryz.prog w = .ok (.int .i32 0) w := fun _ => by kernel_rfl
theorem ag114 : isAggOf Tryz.prog 114 = some true := by kernel_rfl
theorem zr114 : zeroOf Tryz.prog 114 = some [.slice none 0 0, .slice none 0 0, .slice none 0 0, .slice none 0 0, .slice none 0 0, .slice none 0 0, .slice none 0 0, .slice none 0 0, .slice none 0 0, .slice none 0 0, .slice none 0 0, .pointer none, .pointer none, .pointer none, .pointer none, .pointer none, .pointer none, .pointer none, .pointer none, .pointer none, .pointer none, .map none] := by kernel_rfl
theorem pl114 : placesOf Tryz.prog 114 = some [(0, 11), (11, 1), (12, 1), (13, 1), (14, 1), (15, 1), (16, 1), (17, 1), (18, 1), (19, 1), (20, 1), (21, 1)] := by kernel_rfl
theorem ag110 : isAggOf Tryz.prog 110 = some true := by kernel_rfl
theorem sz110 : sizeOf' Tryz.prog 110 = some 3 := by kernel_rfl
theorem zr110 : zeroOf Tryz.prog 110 = some [.int .i32 0, .int .i32 0, .slice none 0 0] := by kernel_rfl
theorem fo110_2 : fieldOff Tryz.prog 110 2 = some 2 := by kernel_rfl
theorem fo114_6 : fieldOff Tryz.prog 114 6 = some 16 := by kernel_rfl
theorem ag104 : isAggOf Tryz.prog 104 = some false := by kernel_rfl
theorem fo110_0 : fieldOff Tryz.prog 110 0 = some 0 := by kernel_rfl
theorem un104 : Tryz.prog.underlying 104 = some (.pointer 156) := by kernel_rfl
theorem fo114_2 : fieldOff Tryz.prog 114 2 = some 12 := by kernel_rfl
theorem fo114_11 : fieldOff Tryz.prog 114 11 = some 21 := by kernel_rfl
theorem ag112 : isAggOf Tryz.prog 112 = some false := by kernel_rfl
theorem ag115 : isAggOf Tryz.prog 115 = some true := by kernel_rfl
theorem sz115 : sizeOf' Tryz.prog 115 = some 2 := by kernel_rfl
set_option maxRecDepth 1000000 in
theorem zl115 : (zeroOf Tryz.prog 115).map (·.length) = some 2 := by kernel_rfl
theorem fo114_7 : fieldOff Tryz.prog 114 7 = some 17 := by kernel_rfl
theorem fo114_8 : fieldOff Tryz.prog 114 8 = some 18 := by kernel_rfl
theorem fo114_1 : fieldOff Tryz.prog 114 1 = some 11 := by kernel_rfl
theorem fo67_0 : fieldOff Tryz.prog 67 0 = some 0 := by kernel_rfl
theorem fo67_1 : fieldOff Tryz.prog 67 1 = some 1 := by kernel_rfl
theorem fo67_2 : fieldOff Tryz.prog 67 2 = some 2 := by kernel_rfl
theorem fo110_1 : fieldOff Tryz.prog 110 1 = some 1 := by kernel_rfl
theorem ag129 : isAggOf Tryz.prog 129 = some true := by kernel_rfl
theorem sz129 : sizeOf' Tryz.prog 129 = some 2 := by kernel_rfl
theorem zr129 : zeroOf Tryz.prog 129 = some [.int .i32 0, .int .i32 0] := by kernel_rfl
theorem fo129_0 : fieldOff Tryz.prog 129 0 = some 0 := by kernel_rfl
theorem fo129_1 : fieldOff Tryz.prog 129 1 = some 1 := by kernel_rfl
theorem ag9 : isAggOf Tryz.prog 9 = some false := by kernel_rfl
theorem ag100 : isAggOf Tryz.prog 100 = some true := by kernel_rfl
theorem sz133 : sizeOf' Tryz.prog 133 = some 1 := by kernel_rfl
theorem zr133 : zeroOf Tryz.prog 133 = some [.nilFunc] := by kernel_rfl
theorem sz135 : sizeOf' Tryz.prog 135 = some 1 := by kernel_rfl
theorem zr135 : zeroOf Tryz.prog 135 = some [.nilFunc] := by kernel_rfl
theorem ag137 : isAggOf Tryz.prog 137 = some true := by kernel_rfl
theorem sz137 : sizeOf' Tryz.prog 137 = some 2 := by kernel_rfl
theorem zr137 : zeroOf Tryz.prog 137 = some [.int .i64 0, .nilFunc] := by kernel_rfl
theorem pl137 : placesOf Tryz.prog 137 = some [(0, 1), (1, 1)] := by kernel_rfl
theorem un145 : Tryz.prog.underlying 145 = some (.slice 137) := by kernel_rfl
theorem el145 : ElemOf Tryz.prog 145 137 2 16 := elemOf_of un145 (by kernel_rfl) rfl rfl
theorem fo137_1 : fieldOff Tryz.prog 137 1 = some 1 := by kernel_rfl
theorem ag136 : isAggOf Tryz.prog 136 = some false := by kernel_rfl
theorem fo137_0 : fieldOff Tryz.prog 137 0 = some 0 := by kernel_rfl
theorem pl100 : placesOf Tryz.prog 100 = some [(0, 1), (1, 1)] := by kernel_rfl
theorem pl129 : placesOf Tryz.prog 129 = some [(0, 1), (1, 1)] := by kernel_rfl
theorem fo156_1 : fieldOff Tryz.prog 156 1 = some 8704 := by kernel_rfl
theorem ag154 : isAggOf Tryz.prog 154 = some false := by kernel_rfl
theorem sz154 : sizeOf' Tryz.prog 154 = some 1 := by kernel_rfl
theorem fo156_0 : fieldOff Tryz.prog 156 0 = some 0 := by kernel_rfl
theorem un153 : Tryz.prog.underlying 153 = some (.array 8704 150) := by kernel_rfl
theorem sz150 : sizeOf' Tryz.prog 150 = some 1 := by kernel_rfl
theorem ag150 : isAggOf Tryz.prog 150 = some false := by kernel_rfl
theorem un154 : Tryz.prog.underlying 154 = some (.slice 152) := by kernel_rfl
theorem el154 : ElemOf Tryz.prog 154 152 128 256 := elemOf_of un154 (by kernel_rfl) rfl rfl
theorem un152 : Tryz.prog.underlying 152 = some (.array 128 150) := by kernel_rfl
theorem un150 : Tryz.prog.underlying 150 = some (.int .u16) := by kernel_rfl
theorem ag118 : isAggOf Tryz.prog 118 = some true := by kernel_rfl
theorem sz118 : sizeOf' Tryz.prog 118 = some 8 := by kernel_rfl
theorem zr118 : zeroOf Tryz.prog 118 = some [.int .i64 0, .int .i64 0, .int .i64 0, .int .i64 0, .int .i64 0, .int .i64 0, .int .i64 0, .int .u8 0] := by kernel_rfl
theorem pl118 : placesOf Tryz.prog 118 = some [(0, 1), (1, 1), (2, 1), (3, 1), (4, 1), (5, 1), (6, 1), (7, 1)] := by kernel_rfl
theorem ag117 : isAggOf Tryz.prog 117 = some true := by kernel_rfl
theorem sz117 : sizeOf' Tryz.prog 117 = some 8 := by kernel_rfl
theorem fo117_7 : fieldOff Tryz.prog 117 7 = some 7 := by kernel_rfl
theorem ag5 : isAggOf Tryz.prog 5 = some false := by kernel_rfl
theorem fo117_6 : fieldOff Tryz.prog 117 6 = some 6 := by kernel_rfl
theorem fo117_5 : fieldOff Tryz.prog 117 5 = some 5 := by kernel_rfl
theorem ag163 : isAggOf Tryz.prog 163 = some true := by kernel_rfl
theorem zr163 : zeroOf Tryz.prog 163 = some [.int .i64 0, .int .i64 0, .int .i64 0, .int .i64 0, .int .i64 0, .int .i64 0, .int .i64 0, .int .u8 0, .string ⟨#[]⟩, .int .i64 0, .slice none 0 0, .int .i64 0, .int .i64 0, .int .i64 0] := by kernel_rfl
theorem pl163 : placesOf Tryz.prog 163 = some [(0, 8), (8, 1), (9, 1), (10, 1), (11, 1), (12, 1), (13, 1)] := by kernel_rfl
theorem fo163_3 : fieldOff Tryz.prog 163 3 = some 10 := by kernel_rfl
theorem fo163_2 : fieldOff Tryz.prog 163 2 = some 9 := by kernel_rfl
theorem fo114_0 : fieldOff Tryz.prog 114 0 = some 0 := by kernel_rfl
theorem ag133 : isAggOf Tryz.prog 133 = some false := by kernel_rfl
theorem zr3 : zeroOf Tryz.prog 3 = some [.int .i64 0] := by kernel_rfl
theorem ag135 : isAggOf Tryz.prog 135 = some false := by kernel_rfl
theorem un181 : Tryz.prog.underlying 181 = some (.map 21 3) := by kernel_rfl
theorem zv3 : ∀ w : World, (zeroValue 3).run Tryz.prog w = .ok (.int .i64 0) w := fun _ => by kernel_rfl
theorem un182 : Tryz.prog.underlying 182 = some (.map 3 3) := by kernel_rfl
theorem ag184 : isAggOf Tryz.prog 184 = some true := by kernel_rfl
theorem zr184 : zeroOf Tryz.prog 184 = some [.slice none 0 0, .map none, .map none] := by kernel_rfl
theorem pl184 : placesOf Tryz.prog 184 = some [(0, 1), (1, 1), (2, 1)] := by kernel_rfl
theorem fo184_1 : fieldOff Tryz.prog 184 1 = some 1 := by kernel_rfl
theorem ag181 : isAggOf Tryz.prog 181 = some false := by kernel_rfl
theorem un185 : Tryz.prog.underlying 185 = some (.map 115 4) := by kernel_rfl
theorem zv4 : ∀ w : World, (zeroValue 4).run Tryz.prog w = .ok (.bool false) w := fun _ => by kernel_rfl
set_option maxRecDepth 1000000 in
theorem zr115 : zeroOf Tryz.prog 115 = some ([] ++ (vcs (Value.int .i32) (Vector.replicate 2 (0 : Int)) ++ [])) := by kernel_rfl
theorem fo117_0 : fieldOff Tryz.prog 117 0 = some 0 := by kernel_rfl
theorem fo117_4 : fieldOff Tryz.prog 117 4 = some 4 := by kernel_rfl
theorem fo117_1 : fieldOff Tryz.prog 117 1 = some 1 := by kernel_rfl
theorem fo117_2 : fieldOff Tryz.prog 117 2 = some 2 := by kernel_rfl
theorem fo117_3 : fieldOff Tryz.prog 117 3 = some 3 := by kernel_rfl
theorem fo163_5 : fieldOff Tryz.prog 163 5 = some 12 := by kernel_rfl
theorem fo163_0 : fieldOff Tryz.prog 163 0 = some 0 := by kernel_rfl
theorem fo163_6 : fieldOff Tryz.prog 163 6 = some 13 := by kernel_rfl
theorem fo163_4 : fieldOff Tryz.prog 163 4 = some 11 := by kernel_rfl
theorem fo184_2 : fieldOff Tryz.prog 184 2 = some 2 := by kernel_rfl
theorem ag182 : isAggOf Tryz.prog 182 = some false := by kernel_rfl
theorem fo184_0 : fieldOff Tryz.prog 184 0 = some 0 := by kernel_rfl
set_option maxRecDepth 1000000 in
theorem zr156 : zeroOf Tryz.prog 156 = some ([] ++ (vcs (Value.int .u16) (Vector.replicate 8704 (0 : Int)) ++ [.slice none 0 0, .slice none 0 0])) := by kernel_rfl
theorem pl156 : placesOf Tryz.prog 156 = some [(0, 8704), (8704, 1), (8705, 1)] := by kernel_rfl
theorem un203 : Tryz.prog.underlying 203 = some (.map 152 150) := by kernel_rfl
def kv152 : KeyK Tryz.prog 152 (Vector Int 128) := KeyK.vec un152 (by kernel_rfl) (by kernel_rfl) sz150 un150 ag150
theorem zv150 : ∀ w : World, (zeroValue 150).run Tryz.prog w = .ok (.int .u16 0) w := fun _ => by kernel_rfl
theorem sz152 : sizeOf' Tryz.prog 152 = some 128 := by kernel_rfl
set_option maxRecDepth 1000000 in
theorem zr152 : zeroOf Tryz.prog 152 = some ([] ++ (vcs (Value.int .u16) (Vector.replicate 128 (0 : Int)) ++ [])) := by kernel_rfl
theorem ag152 : isAggOf Tryz.prog 152 = some true := by kernel_rfl
theorem fo156_2 : fieldOff Tryz.prog 156 2 = some 8705 := by kernel_rfl
theorem ag84 : isAggOf Tryz.prog 84 = some false := by kernel_rfl
theorem sz84 : sizeOf' Tryz.prog 84 = some 1 := by kernel_rfl
set_option maxRecDepth 1000000 in
theorem zb152 : zeroOf Tryz.prog 152 = some (vcs (Value.int .u16) (Vector.replicate 128 (0 : Int))) := by kernel_rfl
theorem fo163_1 : fieldOff Tryz.prog 163 1 = some 8 := by kernel_rfl
theorem fo114_4 : fieldOff Tryz.prog 114 4 = some 14 := by kernel_rfl
theorem fo114_9 : fieldOff Tryz.prog 114 9 = some 19 := by kernel_rfl
theorem un215 : Tryz.prog.underlying 215 = some (.int .u64) := by kernel_rfl
end Go.Proofs.YthoicbafdanmkaaGreatDoor
/- Written by this repo's gen.py: for each Go function a Lean function with the same answers and the walk that shows it. -/
namespace Go.Proofs.YthoicbafdanmkaaGreatDoor
open Go.RowKit
set_option maxRecDepth 100000
set_option maxHeartbeats 4000000
set_option linter.unusedVariables false
def book_isName.j1 (ae : Int → Option Bool) (aa : Int) (ab : Bool) : Option Bool := if ab = true then (some false) else (ae (IntKind.i64.wrap (aa + 1)))
def book_isName.l1 : Nat → ByteArray → Int → Option Bool
  | 0, _, _ => none
  | ad + 1, x0, aa => if aa < ((bytesI x0).length : Int) then (if (0 : Int) ≤ aa ∧ aa < ((bytesI x0).length : Int) then (if (bOr .u8 (rd (bytesI x0) aa) 32) < 97 then (book_isName.j1 (book_isName.l1 ad x0) aa true) else (book_isName.j1 (book_isName.l1 ad x0) aa (decide (122 < (bOr .u8 (rd (bytesI x0) aa) 32))))) else none) else (some true)
def book_isName.j2 (x0 : ByteArray) (ac : Bool) : Option Bool := if ac = true then (some false) else (book_isName.l1 K0 x0 0)
def book_isName.f (x0 : ByteArray) : Option Bool := if (x0.size : Int) < 1 then (book_isName.j2 x0 true) else (book_isName.j2 x0 (decide (32 < (x0.size : Int))))
theorem book_isName.c {w0 w : World} {ρ : Hp} {Γ : List Item} (hs : St w0 ρ (Γ) w) {x0 : ByteArray} {r : Bool} (H : book_isName.f x0 = some r) : CallsR Tryz.prog 143 [.string x0] w (fun v w' => v = .bool r ∧ St w0 ρ Γ w') := by
  rw [book_isName.f] at H
  refine enter Tryz.func143 Tryz.ntmps143 rfl (by kernel_rfl) rfl <| Wr fun bf ax => Oa rfl rfl <| O_nil (ax _ _ <| W_seq fun bg ay => W_seqj fun az a0 ao => ?_)
  have ap : ∀ (ac : Bool) (w : World), book_isName.j2 x0 ac = some r → St w0 ρ (Γ) w → az [(0, .string x0), (12, .bool ac)] w := by
   intro ac w H hs
   rw [book_isName.j2] at H
   refine a0 _ _ <| W_cond rfl (fun aj => ?_) (fun aj => ?_)
   ·rw [if_pos aj] at H
    refine Wr fun bh a1 => Oa rfl rfl <| O_nil (a1 _ _ <| W_ret ?_)
    obtain rfl := sinj H
    exact ret1 rfl rfl ⟨rfl, hs⟩
   ·rw [if_neg (bft aj)] at H
    refine W_skip (ay _ _ <| W_seq fun bi a2 => Wr fun bj a3 => Om rfl rfl <| O_bytes un9 un72 un5 hs rfl rfl (fun aq ak w ai hs ar => O_y rfl (Y_lenR un72 ar rfl) <| Om rfl rfl <| O_nil (a3 _ _ <| W_block fun bk a4 bl => W_loop (σ := Nat × Int) (fun (ad, aa) => [(14, ak), (15, .int .i64 ((bytesI x0).length : Int)), (16, .int .i64 aa)]) (fun (ad, aa) w => book_isName.l1 ad x0 aa = some r ∧ St w0 aq (Γ) w) (fun s => s.1) (K0, 0) (S3 rfl rfl rfl) (Ai H hs) ?_)))
    rintro ⟨ad, aa⟩ w bm ⟨H, hs⟩ af
    show W _ _ _ _ _ _ [(14, ak), (15, .int .i64 ((bytesI x0).length : Int)), (16, .int .i64 aa)] w
    cases ad with
    | zero => rw [book_isName.l1] at H; cases H
    | succ ad =>
    rw [book_isName.l1] at H
    refine Wr fun bn a5 => O_y rfl (Y_lss rfl rfl) <| O_nil (a5 _ _ <| W_seq fun bo a6 => W_if rfl (fun al => ?_) (fun al => ?_))
    ·rw [if_pos al] at H
     refine W_skip (a6 _ _ <| W_seq fun bp a7 => W_block fun bq br bs => W_seq fun bt a8 => W_region ?_)
     obtain ⟨au, H⟩ := gd H
     obtain ⟨bu, bv, a9, ba⟩ := ar.ix el72 au.1 au.2
     refine O_y rfl (ba rfl rfl) <| O_y rfl (Y_load ag5 rfl (hs.see a9.int)) <| Oa rfl rfl <| O_nil (a8 _ _ <| W_seqj fun bb bc av => ?_)
     have aw : ∀ (ab : Bool) (w : World), book_isName.j1 (book_isName.l1 ad x0) aa ab = some r → St w0 aq (Γ) w → bb [(14, ak), (15, .int .i64 ((bytesI x0).length : Int)), (16, .int .i64 aa), (27, .bool ab)] w := by
      intro ab w H hs
      rw [book_isName.j1] at H
      refine bc _ _ <| W_cond rfl (fun am => ?_) (fun am => ?_)
      ·rw [if_pos am] at H
       refine Wr fun bw bd => Oa rfl rfl <| O_nil (bd _ _ <| W_ret ?_)
       obtain rfl := sinj H
       exact ret1 rfl rfl ⟨rfl, (hs.less ai)⟩
      ·rw [if_neg (bft am)] at H
       refine W_skip (a7 _ _ <| W_region <| O_y rfl (Y_add rfl rfl) <| Om rfl rfl <| O_nil (af (ad, (IntKind.i64.wrap (aa + 1))) _ _ (S3 rfl rfl rfl) (Ai H hs) (Nat.lt_succ_self _)))
     refine W_region <| Om rfl rfl <| O_y rfl (Y_or rfl rfl) <| O_y rfl (Y_lss rfl rfl) <| Om rfl rfl <| O_if (dj := 23) rfl (fun ag => ?_) (fun ag => ?_)
     ·rw [if_pos ag] at H
      refine O_no rfl rfl rfl rfl <| O_no rfl rfl rfl rfl <| O_no rfl rfl rfl rfl <| O_y rfl (Y_pick_t rfl rfl) <| O_nil (av _ _ _ (S4 rfl rfl rfl rfl) (aw true _ H hs))
     ·rw [if_neg ag] at H
      refine O_yes rfl rfl <| Om rfl rfl <| O_yes rfl rfl <| O_y rfl (Y_or rfl rfl) <| O_yes rfl rfl <| O_y rfl (Y_gtr rfl rfl) <| O_y rfl (Y_pick_f rfl rfl) <| O_nil (av _ _ _ (S4 rfl rfl rfl rfl) (aw (decide (122 < (bOr .u8 (rd (bytesI x0) aa) 32))) _ H hs))
    ·rw [if_neg al] at H
     refine W_exit (a4 _ _ (a2 _ _ <| Wr fun be an => Oa rfl rfl <| O_nil (an _ _ <| W_ret ?_)))
     obtain rfl := sinj H
     exact ret1 rfl rfl ⟨rfl, (hs.less ai)⟩
  refine W_region <| Om rfl rfl <| O_y rfl (Y_lens un9 rfl) <| O_y rfl (Y_lss rfl rfl) <| Om rfl rfl <| O_if (dj := 8) rfl (fun ah => ?_) (fun ah => ?_)
  ·rw [if_pos ah] at H
   refine O_no rfl rfl rfl rfl <| O_no rfl rfl rfl rfl <| O_no rfl rfl rfl rfl <| O_y rfl (Y_pick_t rfl rfl) <| O_nil (ao _ _ _ (S2 rfl rfl) (ap true _ H hs))
  ·rw [if_neg ah] at H
   refine O_yes rfl rfl <| Om rfl rfl <| O_yes rfl rfl <| O_y rfl (Y_lens un9 rfl) <| O_yes rfl rfl <| O_y rfl (Y_gtr rfl rfl) <| O_y rfl (Y_pick_f rfl rfl) <| O_nil (ao _ _ _ (S2 rfl rfl) (ap (decide (32 < (x0.size : Int))) _ H hs))

def slices_Index_string_string.l1 : Nat → List ByteArray → ByteArray → Int → Option Int
  | 0, _, _, _ => none
  | ab + 1, x0, x1, aa => if aa < (x0.length : Int) then (if (0 : Int) ≤ aa ∧ aa < (x0.length : Int) then (if x1 = (rd x0 aa) then (some aa) else ((slices_Index_string_string.l1 ab x0 x1) (IntKind.i64.wrap (aa + 1)))) else none) else (some (-1))
def slices_Index_string_string.f (x0 : List ByteArray) (x1 : ByteArray) : Option Int := slices_Index_string_string.l1 K0 x0 x1 0
theorem slices_Index_string_string.c {w0 w : World} {ρ : Hp} {Γ : List Item} (hs : St w0 ρ (Γ) w) {v0 : Value} {x0 : List ByteArray} (h0 : SlR Rep.str ρ v0 x0) {x1 : ByteArray} {r : Int} (H : slices_Index_string_string.f x0 x1 = some r) : CallsR Tryz.prog 171 [v0, .string x1] w (fun v w' => v = .int .i64 r ∧ St w0 ρ Γ w') := by
  rw [slices_Index_string_string.f] at H
  refine enter Tryz.func171 Tryz.ntmps171 rfl (by kernel_rfl) rfl <| Wr fun av ag => Oa rfl rfl <| O_nil (ag _ _ <| W_seq fun aw ah => Wr fun ax ai => Om rfl rfl <| O_y rfl (Y_lenR un22 h0 rfl) <| Om rfl rfl <| O_nil (ai _ _ <| W_block fun ay aj az => W_loop (σ := Nat × Int) (fun (ab, aa) => [(0, v0), (1, .string x1), (7, .int .i64 (x0.length : Int)), (8, .int .i64 aa)]) (fun (ab, aa) w => slices_Index_string_string.l1 ab x0 x1 aa = some r ∧ St w0 ρ (Γ) w) (fun s => s.1) (K0, 0) (S4 rfl rfl rfl rfl) (Ai H hs) ?_))
  rintro ⟨ab, aa⟩ w a0 ⟨H, hs⟩ ac
  show W _ _ _ _ _ _ [(0, v0), (1, .string x1), (7, .int .i64 (x0.length : Int)), (8, .int .i64 aa)] w
  cases ab with
  | zero => rw [slices_Index_string_string.l1] at H; cases H
  | succ ab =>
  rw [slices_Index_string_string.l1] at H
  refine Wr fun a1 ak => O_y rfl (Y_lss rfl rfl) <| O_nil (ak _ _ <| W_seq fun a2 al => W_if rfl (fun ad => ?_) (fun ad => ?_))
  ·rw [if_pos ad] at H
   refine W_skip (al _ _ <| W_seq fun a3 am => W_block fun a4 a5 a6 => Wr fun a7 an => Om rfl rfl <| Oa rfl rfl <| O_nil (an _ _ <| Wr fun a8 ao => Om rfl rfl <| Om rfl rfl <| Om rfl rfl ?_))
   obtain ⟨af, H⟩ := gd H
   obtain ⟨a9, ba, ap, aq⟩ := h0.ix el22 af.1 af.2
   refine O_y rfl (aq rfl rfl) <| O_y rfl (Y_load ag9 rfl (hs.see ap.str)) <| O_y rfl (Y_eqls rfl rfl) <| O_nil (ao _ _ <| W_if rfl (fun ae => ?_) (fun ae => ?_))
   ·rw [if_pos ae] at H
    refine Wr fun bb ar => Om rfl rfl <| Oa rfl rfl <| O_nil (ar _ _ <| W.weak [(4, _)] (S1 rfl) <| W_ret ?_)
    obtain rfl := sinj H
    exact ret1 rfl rfl ⟨rfl, hs⟩
   ·rw [if_neg ae] at H
    refine W_skip (am _ _ <| W_region <| O_y rfl (Y_add rfl rfl) <| Om rfl rfl <| O_nil (ac (ab, (IntKind.i64.wrap (aa + 1))) _ _ (S4 rfl rfl rfl rfl) (Ai H hs) (Nat.lt_succ_self _)))
  ·rw [if_neg ad] at H
   refine W_exit (aj _ _ (ah _ _ <| Wr fun bc au => Oa rfl rfl <| O_nil (au _ _ <| W_ret ?_)))
   obtain rfl := sinj H
   exact ret1 rfl rfl ⟨rfl, hs⟩

def slices_Contains_string_string.f (x0 : List ByteArray) (x1 : ByteArray) : Option Bool := (slices_Index_string_string.f x0 x1).bind fun ab => (some (decide (0 ≤ ab)))
theorem slices_Contains_string_string.c {w0 w : World} {ρ : Hp} {Γ : List Item} (hs : St w0 ρ (Γ) w) {v0 : Value} {x0 : List ByteArray} (h0 : SlR Rep.str ρ v0 x0) {x1 : ByteArray} {r : Bool} (H : slices_Contains_string_string.f x0 x1 = some r) : CallsR Tryz.prog 144 [v0, .string x1] w (fun v w' => v = .bool r ∧ St w0 ρ Γ w') := by
  rw [slices_Contains_string_string.f] at H
  refine enter Tryz.func144 Tryz.ntmps144 rfl (by kernel_rfl) rfl <| Wr fun ae ac => Oa rfl rfl <| O_nil (ac _ _ <| Wr fun af ad => Om rfl rfl <| Om rfl rfl ?_)
  obtain ⟨ab, aa, H⟩ := bnd H
  refine O_call rfl rfl (slices_Index_string_string.c hs h0 aa) (fun ag w hpost => ?_)
  obtain ⟨rfl, hs⟩ := hpost
  refine O_y rfl (Y_geq rfl rfl) <| Oa rfl rfl <| O_nil (ad _ _ <| W_ret ?_)
  obtain rfl := sinj H
  exact ret1 rfl rfl ⟨rfl, hs⟩

def book_names.j1 (ad : Int → Option Int) (aa : Int) (ab : Bool) : Option Int := if ab = true then (some aa) else (ad (IntKind.i64.wrap (aa + 1)))
def book_names.l1 : Nat → List ByteArray → Int → Option Int
  | 0, _, _ => none
  | ac + 1, x0, aa => if aa < (x0.length : Int) then (if (0 : Int) ≤ aa ∧ aa < (x0.length : Int) then ((book_isName.f (rd x0 aa)).bind fun aq => (if (!aq) = true then (book_names.j1 (book_names.l1 ac x0) aa true) else (if (0 : Int) ≤ 0 ∧ 0 ≤ aa ∧ aa ≤ (x0.length : Int) then ((slices_Contains_string_string.f (sub x0 0 aa) (rd x0 aa)).bind fun ae => (book_names.j1 (book_names.l1 ac x0) aa ae)) else none))) else none) else (some (-1))
def book_names.f (x0 : List ByteArray) : Option Int := if 64 < (x0.length : Int) then (some 64) else (book_names.l1 K0 x0 0)
theorem book_names.c {w0 w : World} {ρ : Hp} {Γ : List Item} (hs : St w0 ρ (Γ) w) {v0 : Value} {x0 : List ByteArray} (h0 : SlR Rep.str ρ v0 x0) {r : Int} (H : book_names.f x0 = some r) : CallsR Tryz.prog 93 [v0] w (fun v w' => v = .int .i64 r ∧ St w0 ρ Γ w') := by
  rw [book_names.f] at H
  refine enter Tryz.func93 Tryz.ntmps93 rfl (by kernel_rfl) rfl <| Wr fun be aw => Oa rfl rfl <| O_nil (aw _ _ <| W_seq fun bf ax => Wr fun bg ay => Om rfl rfl <| O_y rfl (Y_lenR un22 h0 rfl) <| O_y rfl (Y_gtr rfl rfl) <| O_nil (ay _ _ <| W_if rfl (fun ah => ?_) (fun ah => ?_)))
  ·rw [if_pos ah] at H
   refine Wr fun bh az => Oa rfl rfl <| O_nil (az _ _ <| W_ret ?_)
   obtain rfl := sinj H
   exact ret1 rfl rfl ⟨rfl, hs⟩
  ·rw [if_neg ah] at H
   refine W_skip (ax _ _ <| W_seq fun bi a0 => Wr fun bj a1 => Om rfl rfl <| O_y rfl (Y_lenR un22 h0 rfl) <| Om rfl rfl <| O_nil (a1 _ _ <| W_block fun bk a2 bl => W_loop (σ := Nat × Int) (fun (ac, aa) => [(0, v0), (8, v0), (9, .int .i64 (x0.length : Int)), (10, .int .i64 aa)]) (fun (ac, aa) w => book_names.l1 ac x0 aa = some r ∧ St w0 ρ (Γ) w) (fun s => s.1) (K0, 0) (S4 rfl rfl rfl rfl) (Ai H hs) ?_))
   rintro ⟨ac, aa⟩ w bm ⟨H, hs⟩ af
   show W _ _ _ _ _ _ [(0, v0), (8, v0), (9, .int .i64 (x0.length : Int)), (10, .int .i64 aa)] w
   cases ac with
   | zero => rw [book_names.l1] at H; cases H
   | succ ac =>
   rw [book_names.l1] at H
   refine Wr fun bn a3 => O_y rfl (Y_lss rfl rfl) <| O_nil (a3 _ _ <| W_seq fun bo a4 => W_if rfl (fun ai => ?_) (fun ai => ?_))
   ·rw [if_pos ai] at H
    refine W_skip (a4 _ _ <| W_seq fun bp a5 => W_block fun bq br bs => Wr fun bt a6 => Om rfl rfl ?_)
    obtain ⟨ar, H⟩ := gd H
    obtain ⟨bu, bv, a7, a8⟩ := h0.ix el22 ar.1 ar.2
    refine O_y rfl (a8 rfl rfl) <| O_y rfl (Y_load ag9 rfl (hs.see a7.str)) <| Oa rfl rfl <| Oa rfl rfl <| O_nil (a6 _ _ <| W_seqj fun a9 ba au => ?_)
    have av : ∀ (ab : Bool) (w : World), book_names.j1 (book_names.l1 ac x0) aa ab = some r → St w0 ρ (Γ) w → a9 [(0, v0), (3, .int .i64 aa), (8, v0), (9, .int .i64 (x0.length : Int)), (10, .int .i64 aa), (24, .bool ab)] w := by
     intro ab w H hs
     rw [book_names.j1] at H
     refine ba _ _ <| W_cond rfl (fun aj => ?_) (fun aj => ?_)
     ·rw [if_pos aj] at H
      refine Wr fun bw bb => Om rfl rfl <| Oa rfl rfl <| O_nil (bb _ _ <| W_ret ?_)
      obtain rfl := sinj H
      exact ret1 rfl rfl ⟨rfl, hs⟩
     ·rw [if_neg (bft aj)] at H
      refine W_skip (a5 _ _ <| W_region <| O_y rfl (Y_add rfl rfl) <| Om rfl rfl <| O_nil (af (ac, (IntKind.i64.wrap (aa + 1))) _ _ (S4 rfl rfl rfl rfl) (Ai H hs) (Nat.lt_succ_self _)))
    refine W_region <| Om rfl rfl ?_
    obtain ⟨aq, ak, H⟩ := bnd H
    refine O_call rfl rfl (book_isName.c hs ak) (fun bx w hpost => ?_)
    obtain ⟨rfl, hs⟩ := hpost
    refine O_y rfl (Y_not rfl) <| Om rfl rfl <| O_cases (dj := 18) rfl (fun al => ?_) (fun al => ?_)
    ·rw [if_pos al] at H
     refine O_no rfl rfl rfl rfl <| O_no rfl rfl rfl rfl <| O_no rfl rfl rfl rfl <| O_no rfl rfl rfl rfl <| O_no rfl rfl rfl rfl <| O_y rfl (Y_pick_t rfl rfl) <| O_nil (au _ _ _ (by repeat first | exact Sub.nil | refine Sub.cons rfl ?_) (av true _ H hs))
    ·rw [if_neg (bft al)] at H
     refine O_yes rfl rfl <| Om rfl rfl <| O_yes rfl rfl <| Om rfl rfl ?_
     obtain ⟨am, H⟩ := gd H
     obtain ⟨bz, an, ao⟩ := h0.cut el22 am.1 am.2.1 am.2.2
     refine O_yes rfl rfl <| O_y rfl (ao rfl (.inl ⟨rfl, rfl⟩) (.inr ⟨_, _, rfl, rfl⟩)) <| O_yes rfl rfl <| Om rfl rfl <| O_yes rfl rfl ?_
     obtain ⟨ae, ag, H⟩ := bnd H
     refine O_call rfl rfl (slices_Contains_string_string.c hs an ag) (fun bc w hpost => ?_)
     obtain ⟨rfl, hs⟩ := hpost
     refine O_y rfl (Y_pick_f rfl rfl) <| O_nil (au _ _ _ (by repeat first | exact Sub.nil | refine Sub.cons rfl ?_) (av ae _ H hs))
   ·rw [if_neg ai] at H
    refine W_exit (a2 _ _ (a0 _ _ <| Wr fun bd ap => Oa rfl rfl <| O_nil (ap _ _ <| W_ret ?_)))
    obtain rfl := sinj H
    exact ret1 rfl rfl ⟨rfl, hs⟩

def book_Check_4_mae.f (y0_0 : List ByteArray) (y0_1 : List Val) (y0_2 : List Chs) (y0_3 : List Val) (y0_4 : List Chs) (y0_5 : List Spn) (y0_6 y0_7 : List Val) (y0_8 : List Spn) (y0_9 : List Val) (y0_10 : List Chs) : Option Int := (book_names.f y0_0).bind fun ab => (some ab)
theorem book_Check_4_mae.c {w0 w : World} {ρ : Hp} {Γ : List Item} {pb0 : Nat} {w0_0 : Value} {y0_0 : List ByteArray} {w0_1 : Value} {y0_1 : List Val} {w0_2 : Value} {y0_2 : List Chs} {w0_3 : Value} {y0_3 : List Val} {w0_4 : Value} {y0_4 : List Chs} {w0_5 : Value} {y0_5 : List Spn} {w0_6 : Value} {y0_6 : List Val} {w0_7 : Value} {y0_7 : List Val} {w0_8 : Value} {y0_8 : List Spn} {w0_9 : Value} {y0_9 : List Val} {w0_10 : Value} {y0_10 : List Chs} (hs : St w0 ρ ((.box pb0 27 ([w0_0, w0_1, w0_2, w0_3, w0_4, w0_5, w0_6, w0_7, w0_8, w0_9, w0_10])) :: Γ) w) (g0_0 : SlR Rep.str ρ w0_0 y0_0) (g0_1 : SlR rVal ρ w0_1 y0_1) (g0_2 : SlR rChs ρ w0_2 y0_2) (g0_3 : SlR rVal ρ w0_3 y0_3) (g0_4 : SlR rChs ρ w0_4 y0_4) (g0_5 : SlR rSpn ρ w0_5 y0_5) (g0_6 : SlR rVal ρ w0_6 y0_6) (g0_7 : SlR rVal ρ w0_7 y0_7) (g0_8 : SlR rSpn ρ w0_8 y0_8) (g0_9 : SlR rVal ρ w0_9 y0_9) (g0_10 : SlR rChs ρ w0_10 y0_10) {r : Int} (H : book_Check_4_mae.f y0_0 y0_1 y0_2 y0_3 y0_4 y0_5 y0_6 y0_7 y0_8 y0_9 y0_10 = some r) : CallsR Tryz.prog 92 [.pointer (some ⟨pb0, 0, none⟩)] w (fun v w' => v = .int .i64 r ∧ St w0 ρ ((.box pb0 27 ([w0_0, w0_1, w0_2, w0_3, w0_4, w0_5, w0_6, w0_7, w0_8, w0_9, w0_10])) :: Γ) w') := by
  rw [book_Check_4_mae.f] at H
  refine enter Tryz.func92 Tryz.ntmps92 rfl (by kernel_rfl) rfl <| Wr fun ae ac => Oa rfl rfl <| O_nil (ac _ _ <| Wr fun af ad => O_y rfl (Y_field fo27_0 rfl) <| O_y rfl (Yb 0 ag22 hs rfl rfl rfl) ?_)
  obtain ⟨ab, aa, H⟩ := bnd H
  refine O_call rfl rfl (book_names.c hs g0_0 aa) (fun ag w hpost => ?_)
  obtain ⟨rfl, hs⟩ := hpost
  refine Oa rfl rfl <| O_nil (ad _ _ <| W_ret ?_)
  obtain rfl := sinj H
  exact ret1 rfl rfl ⟨rfl, hs⟩

def book_ofValue.f (x0 : Val) : Option Spn := some (⟨x0.lo, x0.hi⟩ : Spn)
theorem book_ofValue.c {w0 w : World} {ρ : Hp} {Γ : List Item} (hs : St w0 ρ (Γ) w) {c0 : List Value} {x0 : Val} (h0 : rVal.R ρ c0 x0) {r : Spn} (H : book_ofValue.f x0 = some r) : CallsR Tryz.prog 146 [.agg c0.toArray] w (fun v w' => ∃ (ρ' : Hp) (cs0 : List Value), v = .agg cs0.toArray ∧ Le ρ ρ' ∧ St w0 ρ' (Γ) w' ∧ rSpn.R ρ' cs0 r) := by
  rw [book_ofValue.f] at H
  refine enter Tryz.func146 Tryz.ntmps146 rfl (by kernel_rfl) rfl ?_
  have aa := h0
  obtain rfl := aa
  refine Wr fun ad ab => O_boxN (cs := [.int .i32 x0.lo, .int .i32 x0.hi, .int .i64 x0.n]) hs rfl rfl (fun ae w hs => O_alloc zr129 hs rfl (fun af w hs => O_nil (ab _ _ <| Wr fun ag ac => O_y rfl (Y_field fo67_0 rfl) <| O_y rfl (Yb 1 ag21 hs rfl rfl rfl) <| O_y rfl (Y_field fo67_1 rfl) <| O_y rfl (Yb 1 ag21 hs rfl rfl rfl) <| O_y rfl (Y_build (cs := [.int .i32 x0.lo, .int .i32 x0.hi]) zr129 pl129 ((Parts.cons rfl rfl (Parts.cons rfl rfl Parts.nil))) ag129 (by kernel_rfl)) <| O_storeN (i := 0) sz129 hs rfl rfl rfl rfl rfl (one_cons rfl (one_cons rfl one_nil)) (fun w hs => O_nil (ac _ _ ?_)))))
  refine W_ret ?_
  obtain rfl := sinj H
  exact retc (i := 0) rfl rfl ag129 sz129 hs rfl rfl ⟨_, _, rfl, Le.rfl' _, (hs.sub (ssk (ssk ssr))), rfl⟩

def book_Check_1.f (x0 : Spn) : Option Bool := some true
theorem book_Check_1.c {w0 w : World} {ρ : Hp} {Γ : List Item} (hs : St w0 ρ (Γ) w) {c0 : List Value} {x0 : Spn} (h0 : rSpn.R ρ c0 x0) {r : Bool} (H : book_Check_1.f x0 = some r) : CallsR Tryz.prog 87 [.agg c0.toArray] w (fun v w' => v = .bool r ∧ St w0 ρ Γ w') := by
  rw [book_Check_1.f] at H
  refine enter Tryz.func87 Tryz.ntmps87 rfl (by kernel_rfl) rfl ?_
  have aa := h0
  obtain rfl := aa
  refine Wr fun ad ab => O_boxN (cs := [.int .i32 x0.lo, .int .i32 x0.hi]) hs rfl rfl (fun ae w hs => Oa rfl rfl <| O_nil (ab _ _ <| Wr fun af ac => Oa rfl rfl <| O_nil (ac _ _ <| W_ret ?_)))
  obtain rfl := sinj H
  exact ret1 rfl rfl ⟨rfl, (hs.sub (ssk ssr))⟩

def book_values_1_ifo.j1 (aa : Bool) : Option Bool := some aa
def book_values_1_ifo.f (x0 : Val) (y0_0 y1_0 : Int) : Option Bool := if y0_0 ≤ x0.n then (if x0.n ≤ y1_0 then ((book_ofValue.f x0).bind fun al => ((book_Check_1.f al).bind fun ae => (book_values_1_ifo.j1 ae))) else (book_values_1_ifo.j1 false)) else (book_values_1_ifo.j1 false)
theorem book_values_1_ifo.c {w0 w : World} {ρ : Hp} {Γ : List Item} {pb0 : Nat} {y0_0 : Int} {pb1 : Nat} {y1_0 : Int} {pb2 : Nat} (hs : St w0 ρ ((.box pb0 3 ([.int .i64 y0_0])) :: (.box pb1 3 ([.int .i64 y1_0])) :: (.box pb2 133 ([.func (.func 87) #[] #[]])) :: Γ) w) {c0 : List Value} {x0 : Val} (h0 : rVal.R ρ c0 x0) {r : Bool} (H : book_values_1_ifo.f x0 y0_0 y1_0 = some r) : CallsR Tryz.prog 147 [.agg c0.toArray, .pointer (some ⟨pb0, 0, none⟩), .pointer (some ⟨pb1, 0, none⟩), .pointer (some ⟨pb2, 0, none⟩)] w (fun v w' => v = .bool r ∧ St w0 ρ ((.box pb0 3 ([.int .i64 y0_0])) :: (.box pb1 3 ([.int .i64 y1_0])) :: (.box pb2 133 ([.func (.func 87) #[] #[]])) :: Γ) w') := by
  rw [book_values_1_ifo.f] at H
  refine enter Tryz.func147 Tryz.ntmps147 rfl (by kernel_rfl) rfl ?_
  have ao := h0
  obtain rfl := ao
  refine Wr fun az ap => O_boxN (cs := [.int .i32 x0.lo, .int .i32 x0.hi, .int .i64 x0.n]) hs rfl rfl (fun am w hs => Oa rfl rfl <| O_nil (ap _ _ <| W_seqj fun aq ar af => ?_))
  have ag : ∀ (aa : Bool) (ab : Hp) (w : World), book_values_1_ifo.j1 aa = some r → Le ρ ab → St w0 ab ((.box am 67 ([.int .i32 x0.lo, .int .i32 x0.hi, .int .i64 x0.n])) :: (.box pb0 3 ([.int .i64 y0_0])) :: (.box pb1 3 ([.int .i64 y1_0])) :: (.box pb2 133 ([.func (.func 87) #[] #[]])) :: Γ) w → aq [(5, .bool aa)] w := by
   intro aa ab w H ad hs
   rw [book_values_1_ifo.j1] at H
   refine ar _ _ <| W_ret ?_
   obtain rfl := sinj H
   exact ret1 rfl rfl ⟨rfl, ((hs.sub (ssk (ssc (ssc (ssc ssr))))).less ad)⟩
  refine W_drawS 17 [0, 1, 0, 6, 8, 16, 48, 16, 208, 272, 528, 1024, 1024, 5120, 11264, 17408, 65535] [65532, 65524, 65523, 65504, 63488, 65408, 65152, 65120, 64512, 63488, 0, 45056, 51200, 34816, 0, 0, 0] [0, 1, 0, 7, 15, 31, 63, 31, 255, 511, 1023, 2047, 2047, 6143, 16383, 32767, 65535] [] (fun w => St w0 ρ ((.box am 67 ([.int .i32 x0.lo, .int .i32 x0.hi, .int .i64 x0.n])) :: (.box pb0 3 ([.int .i64 y0_0])) :: (.box pb1 3 ([.int .i64 y1_0])) :: (.box pb2 133 ([.func (.func 87) #[] #[]])) :: Γ) w) mixed (by kernel_rfl) (fun sh => ?_)
  have hs := hs.drew
  refine Dp 0 sh rfl rfl (by kernel_rfl) (fun w => Y_field fo67_2 rfl) <| Dy 1 sh rfl rfl (by kernel_rfl) hs (fun w hs => Yb 0 ag3 hs rfl rfl rfl) <| Dy 2 sh rfl rfl (by kernel_rfl) hs (fun w hs => Yb 1 ag3 hs rfl rfl rfl) <| Dp 3 sh rfl rfl (by kernel_rfl) (fun w => Y_geq rfl rfl) <| Dm 4 sh rfl rfl (by kernel_rfl) rfl <| OD_if (dj := 10) rfl (fun ah => ?_) (fun ah => ?_)
  ·rw [if_pos ah] at H
   refine Dq 5 sh rfl rfl rfl rfl (by kernel_rfl) (fun w => Y_field fo67_2 rfl) <| Dz 6 sh rfl rfl rfl rfl (by kernel_rfl) hs (fun w hs => Yb 0 ag3 hs rfl rfl rfl) <| Dz 7 sh rfl rfl rfl rfl (by kernel_rfl) hs (fun w hs => Yb 2 ag3 hs rfl rfl rfl) <| Dq 8 sh rfl rfl rfl rfl (by kernel_rfl) (fun w => Y_leq rfl rfl) <| Dp 9 sh rfl rfl (by kernel_rfl) (fun w => Y_pick_t rfl rfl) <| Dm 10 sh rfl rfl (by kernel_rfl) rfl <| OD_if (dj := 16) rfl (fun ai => ?_) (fun ai => ?_)
   ·rw [if_pos ai] at H
    refine Dz 11 sh rfl rfl rfl rfl (by kernel_rfl) hs (fun w hs => Yb 3 ag133 hs rfl rfl rfl) <| Dz 12 sh rfl rfl rfl rfl (by kernel_rfl) hs (fun w hs => Y_loadbN (i := 0) ag67 sz67 hs rfl rfl rfl rfl) <| D1 13 sh rfl (by kernel_rfl) (fun a0 au => O_yes rfl rfl ?_)
    obtain ⟨al, aj, H⟩ := bnd H
    refine O_call rfl rfl (book_ofValue.c hs h0 aj) (fun a1 w hpost => ?_)
    obtain ⟨av, aw, rfl, ac, hs, an⟩ := hpost
    have ax := an
    obtain rfl := ax
    refine O_nil (au _ _ (fun _ _ => (hs.less ac)) <| D1 14 sh rfl (by kernel_rfl) (fun a2 ay => O_yes rfl rfl ?_))
    obtain ⟨ae, ak, H⟩ := bnd H
    refine O_callv rfl rfl rfl (book_Check_1.c hs an ak) (fun a3 w hpost => ?_)
    obtain ⟨rfl, hs⟩ := hpost
    refine O_nil (ay _ _ (fun _ _ => (hs.less ac)) <| Dp 15 sh rfl rfl (by kernel_rfl) (fun w => Y_pick_t rfl rfl) <| Dp 16 sh rfl rfl (by kernel_rfl) (fun w => Y_assign rfl) <| OD_doneS sh (by kernel_rfl) (af _ _ _ (S1 rfl) (ag ae av _ H ac hs)))
   ·rw [if_neg ai] at H
    refine Dn 11 sh rfl rfl rfl rfl rfl (by kernel_rfl) <| Dn 12 sh rfl rfl rfl rfl rfl (by kernel_rfl) <| Dn 13 sh rfl rfl rfl rfl rfl (by kernel_rfl) <| Dn 14 sh rfl rfl rfl rfl rfl (by kernel_rfl) <| Dp 15 sh rfl rfl (by kernel_rfl) (fun w => Y_pick_f rfl rfl) <| Dp 16 sh rfl rfl (by kernel_rfl) (fun w => Y_assign rfl) <| OD_doneS sh (by kernel_rfl) (af _ _ _ (S1 rfl) (ag false ρ _ H (Le.rfl' _) hs))
  ·rw [if_neg ah] at H
   refine Dn 5 sh rfl rfl rfl rfl rfl (by kernel_rfl) <| Dn 6 sh rfl rfl rfl rfl rfl (by kernel_rfl) <| Dn 7 sh rfl rfl rfl rfl rfl (by kernel_rfl) <| Dn 8 sh rfl rfl rfl rfl rfl (by kernel_rfl) <| Dp 9 sh rfl rfl (by kernel_rfl) (fun w => Y_pick_f rfl rfl) <| Dm 10 sh rfl rfl (by kernel_rfl) rfl <| Dn 11 sh rfl rfl rfl rfl rfl (by kernel_rfl) <| Dn 12 sh rfl rfl rfl rfl rfl (by kernel_rfl) <| Dn 13 sh rfl rfl rfl rfl rfl (by kernel_rfl) <| Dn 14 sh rfl rfl rfl rfl rfl (by kernel_rfl) <| Dp 15 sh rfl rfl (by kernel_rfl) (fun w => Y_pick_f rfl rfl) <| Dp 16 sh rfl rfl (by kernel_rfl) (fun w => Y_assign rfl) <| OD_doneS sh (by kernel_rfl) (af _ _ _ (S1 rfl) (ag false ρ _ H (Le.rfl' _) hs))

def book_rising_api_Value_dif.j1 (ak : Int → Int → Option Int) (aa : Int) (ae : Spn) (ab : Bool) : Option Int := if ab = true then (some aa) else (ak ae.hi (IntKind.i64.wrap (aa + 1)))
def book_rising_api_Value_dif.l1 : Nat → Int → Int → List Val → Int → Int → Option Int
  | 0, _, _, _, _, _ => none
  | ac + 1, y0_0, y1_0, x0, ad, aa => if aa < (x0.length : Int) then (if (0 : Int) ≤ aa ∧ aa < (x0.length : Int) then ((book_ofValue.f (rd x0 aa)).bind fun ae => (if ae.lo ≤ ad then (book_rising_api_Value_dif.j1 (book_rising_api_Value_dif.l1 ac y0_0 y1_0 x0) aa ae true) else (if ae.hi < ae.lo then (book_rising_api_Value_dif.j1 (book_rising_api_Value_dif.l1 ac y0_0 y1_0 x0) aa ae true) else (if 1114111 < ae.hi then (book_rising_api_Value_dif.j1 (book_rising_api_Value_dif.l1 ac y0_0 y1_0 x0) aa ae true) else ((book_values_1_ifo.f (rd x0 aa) y0_0 y1_0).bind fun al => (book_rising_api_Value_dif.j1 (book_rising_api_Value_dif.l1 ac y0_0 y1_0 x0) aa ae (!al))))))) else none) else (some (-1))
def book_rising_api_Value_dif.f (x0 : List Val) (y0_0 y1_0 : Int) : Option Int := if 65536 < (x0.length : Int) then (some 65536) else (book_rising_api_Value_dif.l1 K0 y0_0 y1_0 x0 (-1) 0)
theorem book_rising_api_Value_dif.c {w0 w : World} {ρ : Hp} {Γ : List Item} {pb0 : Nat} {y0_0 : Int} {pb1 : Nat} {y1_0 : Int} {pb2 : Nat} (hs : St w0 ρ ((.box pb0 3 ([.int .i64 y0_0])) :: (.box pb1 3 ([.int .i64 y1_0])) :: (.box pb2 133 ([.func (.func 87) #[] #[]])) :: Γ) w) {v0 : Value} {x0 : List Val} (h0 : SlR rVal ρ v0 x0) {r : Int} (H : book_rising_api_Value_dif.f x0 y0_0 y1_0 = some r) : CallsR Tryz.prog 145 [v0, .func (.func 146) #[] #[], .func (.func 147) #[] #[.pointer (some ⟨pb0, 0, none⟩), .pointer (some ⟨pb1, 0, none⟩), .pointer (some ⟨pb2, 0, none⟩)]] w (fun v w' => v = .int .i64 r ∧ St w0 ρ ((.box pb0 3 ([.int .i64 y0_0])) :: (.box pb1 3 ([.int .i64 y1_0])) :: (.box pb2 133 ([.func (.func 87) #[] #[]])) :: Γ) w') := by
  rw [book_rising_api_Value_dif.f] at H
  refine enter Tryz.func145 Tryz.ntmps145 rfl (by kernel_rfl) rfl <| Wr fun bt a6 => Oa rfl rfl <| O_nil (a6 _ _ <| W_seq fun bu a7 => Wr fun bv a8 => Om rfl rfl <| O_y rfl (Y_lenR un23 h0 rfl) <| O_y rfl (Y_gtr rfl rfl) <| O_nil (a8 _ _ <| W_if rfl (fun av => ?_) (fun av => ?_)))
  ·rw [if_pos av] at H
   refine Wr fun bw a9 => Oa rfl rfl <| O_nil (a9 _ _ <| W_ret ?_)
   obtain rfl := sinj H
   exact ret1 rfl rfl ⟨rfl, hs⟩
  ·rw [if_neg av] at H
   refine W_skip (a7 _ _ <| Wr fun bx ba => Oa rfl rfl <| O_nil (ba _ _ <| W_seq fun bz bb => Wr fun b0 bc => Om rfl rfl <| O_y rfl (Y_lenR un23 h0 rfl) <| Om rfl rfl <| O_nil (bc _ _ <| W_block fun b1 bd b2 => W_loop (σ := Nat × Int × Int × Hp) (fun (ac, ad, aa, ag) => [(1, .func (.func 146) #[] #[]), (2, .func (.func 147) #[] #[.pointer (some ⟨pb0, 0, none⟩), .pointer (some ⟨pb1, 0, none⟩), .pointer (some ⟨pb2, 0, none⟩)]), (7, .int .i32 ad), (14, v0), (15, .int .i64 (x0.length : Int)), (16, .int .i64 aa)]) (fun (ac, ad, aa, ag) w => book_rising_api_Value_dif.l1 ac y0_0 y1_0 x0 ad aa = some r ∧ Le ρ ag ∧ St w0 ag ((.box pb0 3 ([.int .i64 y0_0])) :: (.box pb1 3 ([.int .i64 y1_0])) :: (.box pb2 133 ([.func (.func 87) #[] #[]])) :: Γ) w) (fun s => s.1) (K0, (-1), 0, ρ) (by repeat first | exact Sub.nil | refine Sub.cons rfl ?_) (Ai H (Ai (Le.rfl' _) hs)) ?_)))
   rintro ⟨ac, ad, aa, ag⟩ w b3 ⟨H, af, hs⟩ am
   show W _ _ _ _ _ _ [(1, .func (.func 146) #[] #[]), (2, .func (.func 147) #[] #[.pointer (some ⟨pb0, 0, none⟩), .pointer (some ⟨pb1, 0, none⟩), .pointer (some ⟨pb2, 0, none⟩)]), (7, .int .i32 ad), (14, v0), (15, .int .i64 (x0.length : Int)), (16, .int .i64 aa)] w
   cases ac with
   | zero => rw [book_rising_api_Value_dif.l1] at H; cases H
   | succ ac =>
   rw [book_rising_api_Value_dif.l1] at H
   refine Wr fun b4 be => O_y rfl (Y_lss rfl rfl) <| O_nil (be _ _ <| W_seq fun b5 bf => W_if rfl (fun aw => ?_) (fun aw => ?_))
   ·rw [if_pos aw] at H
    refine W_skip (bf _ _ <| W_seq fun b6 bg => W_block fun b7 b8 b9 => Wr fun ca bh => Om rfl rfl ?_)
    obtain ⟨a4, H⟩ := gd H
    obtain ⟨cb, cc, bi, bj⟩ := (h0.mono af).ix el23 a4.1 a4.2
    obtain ⟨_, rfl, bk⟩ := bi
    refine O_y rfl (bj rfl rfl) <| O_y rfl (Y_loadN ag67 sz67 rfl rfl (fun j u hu => hs.see (bk j u hu))) <| O_alloc zr67 hs rfl (fun bl w hs => Oa rfl rfl <| O_storeN (i := 0) sz67 hs rfl rfl rfl rfl rfl (one_cons rfl (one_cons rfl (one_cons rfl one_nil))) (fun w hs => O_nil (bh _ _ <| Wr fun cd bm => Om rfl rfl <| O_y rfl (Y_loadbN (i := 0) ag67 sz67 hs rfl rfl rfl rfl) ?_)))
    obtain ⟨ae, ax, H⟩ := bnd H
    refine O_callv rfl rfl rfl (book_ofValue.c hs rfl ax) (fun ce w hpost => ?_)
    obtain ⟨a5, bn, rfl, aj, hs, bo⟩ := hpost
    have ay := bo
    obtain rfl := ay
    refine O_alloc zr129 hs rfl (fun ar w hs => O_storeN (i := 0) sz129 hs rfl rfl rfl rfl rfl (one_cons rfl (one_cons rfl one_nil)) (fun w hs => O_nil (bm _ _ <| W.weak [(1, _), (2, _), (7, _), (8, _), (9, _), (10, _), (14, _), (15, _), (16, _)] (by repeat first | exact Sub.nil | refine Sub.cons rfl ?_) ?_)))
    refine W_seq fun bp az => W_seqj fun a0 a1 ah => ?_
    have ai : ∀ (ab : Bool) (w : World), book_rising_api_Value_dif.j1 (book_rising_api_Value_dif.l1 ac y0_0 y1_0 x0) aa ae ab = some r → St w0 a5 ((.box ar 129 ([.int .i32 ae.lo, .int .i32 ae.hi])) :: (.box bl 67 ([.int .i32 ((rd x0 aa).lo), .int .i32 ((rd x0 aa).hi), .int .i64 ((rd x0 aa).n)])) :: (.box pb0 3 ([.int .i64 y0_0])) :: (.box pb1 3 ([.int .i64 y1_0])) :: (.box pb2 133 ([.func (.func 87) #[] #[]])) :: Γ) w → a0 [(1, .func (.func 146) #[] #[]), (2, .func (.func 147) #[] #[.pointer (some ⟨pb0, 0, none⟩), .pointer (some ⟨pb1, 0, none⟩), .pointer (some ⟨pb2, 0, none⟩)]), (8, .int .i64 aa), (10, .pointer (some ⟨ar, 0, none⟩)), (14, v0), (15, .int .i64 (x0.length : Int)), (16, .int .i64 aa), (45, .bool ab)] w := by
     intro ab w H hs
     rw [book_rising_api_Value_dif.j1] at H
     refine a1 _ _ <| W_cond rfl (fun an => ?_) (fun an => ?_)
     ·rw [if_pos an] at H
      refine Wr fun bq a2 => Om rfl rfl <| Oa rfl rfl <| O_nil (a2 _ _ <| W_ret ?_)
      obtain rfl := sinj H
      exact ret1 rfl rfl ⟨rfl, ((hs.sub (ssk (ssk (ssc (ssc (ssc ssr)))))).less (af.trans aj))⟩
     ·rw [if_neg (bft an)] at H
      refine W_skip (az _ _ <| W_region <| O_y rfl (Y_field fo129_1 rfl) <| O_y rfl (Yb 0 ag21 hs rfl rfl rfl) <| Oa rfl rfl <| O_nil (bg _ _ <| W_region <| O_y rfl (Y_add rfl rfl) <| Om rfl rfl <| O_nil (am (ac, ae.hi, (IntKind.i64.wrap (aa + 1)), a5) _ _ (by repeat first | exact Sub.nil | refine Sub.cons rfl ?_) (Ai H (Ai (af.trans aj) (hs.sub (ssk (ssk (ssc (ssc (ssc ssr)))))))) (Nat.lt_succ_self _))))
    refine W_region <| O_y rfl (Y_field fo129_0 rfl) <| O_y rfl (Yb 0 ag21 hs rfl rfl rfl) <| Om rfl rfl <| O_y rfl (Y_leq rfl rfl) <| Om rfl rfl <| O_if (dj := 28) rfl (fun ao => ?_) (fun ao => ?_)
    ·rw [if_pos ao] at H
     refine O_no rfl rfl rfl rfl <| O_no rfl rfl rfl rfl <| O_no rfl rfl rfl rfl <| O_no rfl rfl rfl rfl <| O_no rfl rfl rfl rfl <| O_y rfl (Y_pick_t rfl rfl) <| Om rfl rfl <| O_no rfl rfl rfl rfl <| O_no rfl rfl rfl rfl <| O_no rfl rfl rfl rfl <| O_y rfl (Y_pick_t rfl rfl) <| Om rfl rfl <| O_no rfl rfl rfl rfl <| O_no rfl rfl rfl rfl ?_
     refine O_no rfl rfl rfl rfl <| O_no rfl rfl rfl rfl <| O_y rfl (Y_pick_t rfl rfl) <| O_nil (ah _ _ _ (by repeat first | exact Sub.nil | refine Sub.cons rfl ?_) (ai true _ H hs))
    ·rw [if_neg ao] at H
     refine O_yes rfl rfl <| O_y rfl (Y_field fo129_1 rfl) <| O_yes rfl rfl <| O_y rfl (Yb 0 ag21 hs rfl rfl rfl) <| O_yes rfl rfl <| O_y rfl (Y_field fo129_0 rfl) <| O_yes rfl rfl <| O_y rfl (Yb 0 ag21 hs rfl rfl rfl) <| O_yes rfl rfl <| O_y rfl (Y_lss rfl rfl) <| O_y rfl (Y_pick_f rfl rfl) <| Om rfl rfl <| O_if (dj := 35) rfl (fun ap => ?_) (fun ap => ?_)
     ·rw [if_pos ap] at H
      refine O_no rfl rfl rfl rfl <| O_no rfl rfl rfl rfl <| O_no rfl rfl rfl rfl <| O_y rfl (Y_pick_t rfl rfl) <| Om rfl rfl <| O_no rfl rfl rfl rfl <| O_no rfl rfl rfl rfl <| O_no rfl rfl rfl rfl <| O_no rfl rfl rfl rfl <| O_y rfl (Y_pick_t rfl rfl) <| O_nil (ah _ _ _ (by repeat first | exact Sub.nil | refine Sub.cons rfl ?_) (ai true _ H hs))
     ·rw [if_neg ap] at H
      refine O_yes rfl rfl <| O_y rfl (Y_field fo129_1 rfl) <| O_yes rfl rfl <| O_y rfl (Yb 0 ag21 hs rfl rfl rfl) <| O_yes rfl rfl <| O_y rfl (Y_gtr rfl rfl) <| O_y rfl (Y_pick_f rfl rfl) <| Om rfl rfl <| O_if (dj := 40) rfl (fun aq => ?_) (fun aq => ?_)
      ·rw [if_pos aq] at H
       refine O_no rfl rfl rfl rfl <| O_no rfl rfl rfl rfl <| O_no rfl rfl rfl rfl <| O_no rfl rfl rfl rfl <| O_y rfl (Y_pick_t rfl rfl) <| O_nil (ah _ _ _ (by repeat first | exact Sub.nil | refine Sub.cons rfl ?_) (ai true _ H hs))
      ·rw [if_neg aq] at H
       refine O_yes rfl rfl <| Om rfl rfl <| O_yes rfl rfl <| O_y rfl (Y_loadbN (i := 1) ag67 sz67 hs rfl rfl rfl rfl) <| O_yes rfl rfl ?_
       have hs := hs.front 4 rfl
       have hs := hs.front 4 rfl
       have hs := hs.front 4 rfl
       obtain ⟨al, au, H⟩ := bnd H
       refine O_callv rfl rfl rfl (book_values_1_ifo.c hs rfl au) (fun br w hpost => ?_)
       obtain ⟨rfl, hs⟩ := hpost
       have hs := hs.sink 4
       have hs := hs.sink 4
       have hs := hs.sink 4
       refine O_yes rfl rfl <| O_y rfl (Y_not rfl) <| O_y rfl (Y_pick_f rfl rfl) <| O_nil (ah _ _ _ (by repeat first | exact Sub.nil | refine Sub.cons rfl ?_) (ai (!al) _ H hs))
   ·rw [if_neg aw] at H
    refine W_exit (bd _ _ (bb _ _ <| Wr fun bs a3 => Oa rfl rfl <| O_nil (a3 _ _ <| W_ret ?_)))
    obtain rfl := sinj H
    exact ret1 rfl rfl ⟨rfl, (hs.less af)⟩

def book_values_bpe.f (x0 : List Val) (x1 x2 : Int) : Option Int := (book_rising_api_Value_dif.f x0 x1 x2).bind fun ab => (some ab)
theorem book_values_bpe.c {w0 w : World} {ρ : Hp} {Γ : List Item} (hs : St w0 ρ (Γ) w) {v0 : Value} {x0 : List Val} (h0 : SlR rVal ρ v0 x0) {x1 x2 r : Int} (H : book_values_bpe.f x0 x1 x2 = some r) : CallsR Tryz.prog 95 [v0, .int .i64 x1, .int .i64 x2, .func (.func 87) #[] #[]] w (fun v w' => v = .int .i64 r ∧ St w0 ρ Γ w') := by
  rw [book_values_bpe.f] at H
  refine enter Tryz.func95 Tryz.ntmps95 rfl (by kernel_rfl) rfl <| Wr fun ae ac => O_box1 hs rfl rfl rfl (fun af w hs => O_box1 hs rfl rfl rfl (fun ag w hs => O_box1 hs rfl rfl rfl (fun ah w hs => Oa rfl rfl <| O_nil (ac _ _ <| Wr fun ai ad => Om rfl rfl <| O_y rfl (Y_func rfl) ?_))))
  have hs := hs.front 1 rfl
  have hs := hs.front 2 rfl
  obtain ⟨ab, aa, H⟩ := bnd H
  refine O_call rfl rfl (book_rising_api_Value_dif.c hs h0 aa) (fun aj w hpost => ?_)
  obtain ⟨rfl, hs⟩ := hpost
  have hs := hs.sink 2
  have hs := hs.sink 1
  refine Oa rfl rfl <| O_nil (ad _ _ <| W_ret ?_)
  obtain rfl := sinj H
  exact ret1 rfl rfl ⟨rfl, (hs.sub (ssk (ssk (ssk ssr))))⟩

def book_Check_5_ion.f (y0_0 : List ByteArray) (y0_1 : List Val) (y0_2 : List Chs) (y0_3 : List Val) (y0_4 : List Chs) (y0_5 : List Spn) (y0_6 y0_7 : List Val) (y0_8 : List Spn) (y0_9 : List Val) (y0_10 : List Chs) : Option Int := (book_values_bpe.f y0_1 1 3).bind fun ab => (some ab)
theorem book_Check_5_ion.c {w0 w : World} {ρ : Hp} {Γ : List Item} {pb0 : Nat} {w0_0 : Value} {y0_0 : List ByteArray} {w0_1 : Value} {y0_1 : List Val} {w0_2 : Value} {y0_2 : List Chs} {w0_3 : Value} {y0_3 : List Val} {w0_4 : Value} {y0_4 : List Chs} {w0_5 : Value} {y0_5 : List Spn} {w0_6 : Value} {y0_6 : List Val} {w0_7 : Value} {y0_7 : List Val} {w0_8 : Value} {y0_8 : List Spn} {w0_9 : Value} {y0_9 : List Val} {w0_10 : Value} {y0_10 : List Chs} {pb1 : Nat} (hs : St w0 ρ ((.box pb0 27 ([w0_0, w0_1, w0_2, w0_3, w0_4, w0_5, w0_6, w0_7, w0_8, w0_9, w0_10])) :: (.box pb1 133 ([.func (.func 87) #[] #[]])) :: Γ) w) (g0_0 : SlR Rep.str ρ w0_0 y0_0) (g0_1 : SlR rVal ρ w0_1 y0_1) (g0_2 : SlR rChs ρ w0_2 y0_2) (g0_3 : SlR rVal ρ w0_3 y0_3) (g0_4 : SlR rChs ρ w0_4 y0_4) (g0_5 : SlR rSpn ρ w0_5 y0_5) (g0_6 : SlR rVal ρ w0_6 y0_6) (g0_7 : SlR rVal ρ w0_7 y0_7) (g0_8 : SlR rSpn ρ w0_8 y0_8) (g0_9 : SlR rVal ρ w0_9 y0_9) (g0_10 : SlR rChs ρ w0_10 y0_10) {r : Int} (H : book_Check_5_ion.f y0_0 y0_1 y0_2 y0_3 y0_4 y0_5 y0_6 y0_7 y0_8 y0_9 y0_10 = some r) : CallsR Tryz.prog 94 [.pointer (some ⟨pb0, 0, none⟩), .pointer (some ⟨pb1, 0, none⟩)] w (fun v w' => v = .int .i64 r ∧ St w0 ρ ((.box pb0 27 ([w0_0, w0_1, w0_2, w0_3, w0_4, w0_5, w0_6, w0_7, w0_8, w0_9, w0_10])) :: (.box pb1 133 ([.func (.func 87) #[] #[]])) :: Γ) w') := by
  rw [book_Check_5_ion.f] at H
  refine enter Tryz.func94 Tryz.ntmps94 rfl (by kernel_rfl) rfl <| Wr fun ae ac => Oa rfl rfl <| O_nil (ac _ _ <| Wr fun af ad => O_y rfl (Y_field fo27_1 rfl) <| O_y rfl (Yb 0 ag23 hs rfl rfl rfl) <| O_y rfl (Yb 1 ag133 hs rfl rfl rfl) ?_)
  obtain ⟨ab, aa, H⟩ := bnd H
  refine O_call rfl rfl (book_values_bpe.c hs g0_1 aa) (fun ag w hpost => ?_)
  obtain ⟨rfl, hs⟩ := hpost
  refine Oa rfl rfl <| O_nil (ad _ _ <| W_ret ?_)
  obtain rfl := sinj H
  exact ret1 rfl rfl ⟨rfl, hs⟩

def book_ofChars.f (x0 : Chs) : Option Spn := some (⟨x0.lo, x0.hi⟩ : Spn)
theorem book_ofChars.c {w0 w : World} {ρ : Hp} {Γ : List Item} (hs : St w0 ρ (Γ) w) {c0 : List Value} {x0 : Chs} (h0 : rChs.R ρ c0 x0) {r : Spn} (H : book_ofChars.f x0 = some r) : CallsR Tryz.prog 66 [.agg c0.toArray] w (fun v w' => ∃ (ρ' : Hp) (cs0 : List Value), v = .agg cs0.toArray ∧ Le ρ ρ' ∧ St w0 ρ' (Γ) w' ∧ rSpn.R ρ' cs0 r) := by
  rw [book_ofChars.f] at H
  refine enter Tryz.func66 Tryz.ntmps66 rfl (by kernel_rfl) rfl ?_
  have aa := h0
  obtain ⟨ab, rfl, ae⟩ := aa
  refine Wr fun af ac => O_boxN (cs := [.int .i32 x0.lo, .int .i32 x0.hi, ab]) hs rfl rfl (fun ag w hs => O_alloc zr129 hs rfl (fun ah w hs => O_nil (ac _ _ <| Wr fun ai ad => O_y rfl (Y_field fo110_0 rfl) <| O_y rfl (Yb 1 ag21 hs rfl rfl rfl) <| O_y rfl (Y_field fo110_1 rfl) <| O_y rfl (Yb 1 ag21 hs rfl rfl rfl) <| O_y rfl (Y_build (cs := [.int .i32 x0.lo, .int .i32 x0.hi]) zr129 pl129 ((Parts.cons rfl rfl (Parts.cons rfl rfl Parts.nil))) ag129 (by kernel_rfl)) <| O_storeN (i := 0) sz129 hs rfl rfl rfl rfl rfl (one_cons rfl (one_cons rfl one_nil)) (fun w hs => O_nil (ad _ _ ?_)))))
  refine W_ret ?_
  obtain rfl := sinj H
  exact retc (i := 0) rfl rfl ag129 sz129 hs rfl rfl ⟨_, _, rfl, Le.rfl' _, (hs.sub (ssk (ssk ssr))), rfl⟩

def book_scalars_1.j1 (aa : Bool) : Option Bool := some aa
def book_scalars_1.f (x0 : Int) : Option Bool := if x0 < 0 then (book_scalars_1.j1 true) else (if 1114111 < x0 then (book_scalars_1.j1 true) else (if 55296 ≤ x0 then (book_scalars_1.j1 (decide (x0 ≤ 57343))) else (book_scalars_1.j1 false)))
theorem book_scalars_1.c {w0 w : World} {ρ : Hp} {Γ : List Item} (hs : St w0 ρ (Γ) w) {x0 : Int} {r : Bool} (H : book_scalars_1.f x0 = some r) : CallsR Tryz.prog 142 [.int .i32 x0] w (fun v w' => v = .bool r ∧ St w0 ρ Γ w') := by
  rw [book_scalars_1.f] at H
  refine enter Tryz.func142 Tryz.ntmps142 rfl (by kernel_rfl) rfl <| Wr fun aj ag => Oa rfl rfl <| O_nil (ag _ _ <| W_seqj fun ah ai ab => ?_)
  have ac : ∀ (aa : Bool) (w : World), book_scalars_1.j1 aa = some r → St w0 ρ (Γ) w → ah [(2, .bool aa)] w := by
   intro aa w H hs
   rw [book_scalars_1.j1] at H
   refine ai _ _ <| W_ret ?_
   obtain rfl := sinj H
   exact ret1 rfl rfl ⟨rfl, hs⟩
  refine W_region <| Om rfl rfl <| O_y rfl (Y_lss rfl rfl) <| Om rfl rfl <| O_if (dj := 5) rfl (fun ad => ?_) (fun ad => ?_)
  ·rw [if_pos ad] at H
   refine O_no rfl rfl rfl rfl <| O_no rfl rfl rfl rfl <| O_y rfl (Y_pick_t rfl rfl) <| Om rfl rfl <| O_no rfl rfl rfl rfl <| O_no rfl rfl rfl rfl <| O_no rfl rfl rfl rfl <| O_nou rfl rfl rfl <| O_nou rfl rfl rfl <| O_no rfl rfl rfl rfl <| O_y rfl (Y_pick_t rfl rfl) <| Oa rfl rfl <| O_nil (ab _ _ _ (S1 rfl) (ac true _ H hs))
  ·rw [if_neg ad] at H
   refine O_yes rfl rfl <| Om rfl rfl <| O_yes rfl rfl <| O_y rfl (Y_gtr rfl rfl) <| O_y rfl (Y_pick_f rfl rfl) <| Om rfl rfl <| O_if (dj := 9) rfl (fun ae => ?_) (fun ae => ?_)
   ·rw [if_pos ae] at H
    refine O_no rfl rfl rfl rfl <| O_no rfl rfl rfl rfl <| O_no rfl rfl rfl rfl <| O_nou rfl rfl rfl <| O_nou rfl rfl rfl <| O_no rfl rfl rfl rfl <| O_y rfl (Y_pick_t rfl rfl) <| Oa rfl rfl <| O_nil (ab _ _ _ (S1 rfl) (ac true _ H hs))
   ·rw [if_neg ae] at H
    refine O_yes rfl rfl <| Om rfl rfl <| O_yes rfl rfl <| O_y rfl (Y_geq rfl rfl) <| O_yes rfl rfl <| Om rfl rfl <| O_if (dj := 12) rfl (fun af => ?_) (fun af => ?_)
    ·rw [if_pos af] at H
     refine O_yes rfl rfl <| Om rfl rfl <| O_yes rfl rfl <| O_y rfl (Y_leq rfl rfl) <| O_yes rfl rfl <| O_y rfl (Y_pick_t rfl rfl) <| O_y rfl (Y_pick_f rfl rfl) <| Oa rfl rfl <| O_nil (ab _ _ _ (S1 rfl) (ac (decide (x0 ≤ 57343)) _ H hs))
    ·rw [if_neg af] at H
     refine O_no rfl rfl rfl rfl <| O_no rfl rfl rfl rfl <| O_yes rfl rfl <| O_y rfl (Y_pick_f rfl rfl) <| O_y rfl (Y_pick_f rfl rfl) <| Oa rfl rfl <| O_nil (ab _ _ _ (S1 rfl) (ac false _ H hs))

def slices_IndexFunc_rune_rune_igm.l1 : Nat → List Int → Int → Option Int
  | 0, _, _ => none
  | ab + 1, x0, aa => if aa < (x0.length : Int) then (if (0 : Int) ≤ aa ∧ aa < (x0.length : Int) then ((book_scalars_1.f (rd x0 aa)).bind fun ag => (if ag = true then (some aa) else ((slices_IndexFunc_rune_rune_igm.l1 ab x0) (IntKind.i64.wrap (aa + 1))))) else none) else (some (-1))
def slices_IndexFunc_rune_rune_igm.f (x0 : List Int) : Option Int := slices_IndexFunc_rune_rune_igm.l1 K0 x0 0
theorem slices_IndexFunc_rune_rune_igm.c {w0 w : World} {ρ : Hp} {Γ : List Item} (hs : St w0 ρ (Γ) w) {v0 : Value} {x0 : List Int} (h0 : SlR (Rep.int .i32) ρ v0 x0) {r : Int} (H : slices_IndexFunc_rune_rune_igm.f x0 = some r) : CallsR Tryz.prog 77 [v0, .func (.func 142) #[] #[]] w (fun v w' => v = .int .i64 r ∧ St w0 ρ Γ w') := by
  rw [slices_IndexFunc_rune_rune_igm.f] at H
  refine enter Tryz.func77 Tryz.ntmps77 rfl (by kernel_rfl) rfl <| Wr fun ax ai => Oa rfl rfl <| O_nil (ai _ _ <| W_seq fun ay aj => Wr fun az ak => Om rfl rfl <| O_y rfl (Y_lenR un28 h0 rfl) <| Om rfl rfl <| O_nil (ak _ _ <| W_block fun a0 al a1 => W_loop (σ := Nat × Int) (fun (ab, aa) => [(0, v0), (1, .func (.func 142) #[] #[]), (7, .int .i64 (x0.length : Int)), (8, .int .i64 aa)]) (fun (ab, aa) w => slices_IndexFunc_rune_rune_igm.l1 ab x0 aa = some r ∧ St w0 ρ (Γ) w) (fun s => s.1) (K0, 0) (S4 rfl rfl rfl rfl) (Ai H hs) ?_))
  rintro ⟨ab, aa⟩ w a2 ⟨H, hs⟩ ac
  show W _ _ _ _ _ _ [(0, v0), (1, .func (.func 142) #[] #[]), (7, .int .i64 (x0.length : Int)), (8, .int .i64 aa)] w
  cases ab with
  | zero => rw [slices_IndexFunc_rune_rune_igm.l1] at H; cases H
  | succ ab =>
  rw [slices_IndexFunc_rune_rune_igm.l1] at H
  refine Wr fun a3 am => O_y rfl (Y_lss rfl rfl) <| O_nil (am _ _ <| W_seq fun a4 an => W_if rfl (fun ad => ?_) (fun ad => ?_))
  ·rw [if_pos ad] at H
   refine W_skip (an _ _ <| W_seq fun a5 ao => W_block fun a6 a7 a8 => Wr fun a9 ap => Om rfl rfl <| Oa rfl rfl <| O_nil (ap _ _ <| Wr fun ba aq => Om rfl rfl <| Om rfl rfl <| Om rfl rfl ?_))
   obtain ⟨ah, H⟩ := gd H
   obtain ⟨bb, bc, ar, au⟩ := h0.ix el28 ah.1 ah.2
   refine O_y rfl (au rfl rfl) <| O_y rfl (Y_load ag21 rfl (hs.see ar.int)) ?_
   obtain ⟨ag, ae, H⟩ := bnd H
   refine O_callv rfl rfl rfl (book_scalars_1.c hs ae) (fun bd w hpost => ?_)
   obtain ⟨rfl, hs⟩ := hpost
   refine O_nil (aq _ _ <| W_cond rfl (fun af => ?_) (fun af => ?_))
   ·rw [if_pos af] at H
    refine Wr fun be av => Om rfl rfl <| Oa rfl rfl <| O_nil (av _ _ <| W.weak [(4, _)] (S1 rfl) <| W_ret ?_)
    obtain rfl := sinj H
    exact ret1 rfl rfl ⟨rfl, hs⟩
   ·rw [if_neg (bft af)] at H
    refine W_skip (ao _ _ <| W_region <| O_y rfl (Y_add rfl rfl) <| Om rfl rfl <| O_nil (ac (ab, (IntKind.i64.wrap (aa + 1))) _ _ (S4 rfl rfl rfl rfl) (Ai H hs) (Nat.lt_succ_self _)))
  ·rw [if_neg ad] at H
   refine W_exit (al _ _ (aj _ _ <| Wr fun bf aw => Oa rfl rfl <| O_nil (aw _ _ <| W_ret ?_)))
   obtain rfl := sinj H
   exact ret1 rfl rfl ⟨rfl, hs⟩

def slices_ContainsFunc_rune_rune_igm.f (x0 : List Int) : Option Bool := (slices_IndexFunc_rune_rune_igm.f x0).bind fun ab => (some (decide (0 ≤ ab)))
theorem slices_ContainsFunc_rune_rune_igm.c {w0 w : World} {ρ : Hp} {Γ : List Item} (hs : St w0 ρ (Γ) w) {v0 : Value} {x0 : List Int} (h0 : SlR (Rep.int .i32) ρ v0 x0) {r : Bool} (H : slices_ContainsFunc_rune_rune_igm.f x0 = some r) : CallsR Tryz.prog 39 [v0, .func (.func 142) #[] #[]] w (fun v w' => v = .bool r ∧ St w0 ρ Γ w') := by
  rw [slices_ContainsFunc_rune_rune_igm.f] at H
  refine enter Tryz.func39 Tryz.ntmps39 rfl (by kernel_rfl) rfl <| Wr fun ae ac => Oa rfl rfl <| O_nil (ac _ _ <| Wr fun af ad => Om rfl rfl <| Om rfl rfl ?_)
  obtain ⟨ab, aa, H⟩ := bnd H
  refine O_call rfl rfl (slices_IndexFunc_rune_rune_igm.c hs h0 aa) (fun ag w hpost => ?_)
  obtain ⟨rfl, hs⟩ := hpost
  refine O_y rfl (Y_geq rfl rfl) <| Oa rfl rfl <| O_nil (ad _ _ <| W_ret ?_)
  obtain rfl := sinj H
  exact ret1 rfl rfl ⟨rfl, hs⟩

def book_scalars.j1 (aa : Bool) : Option Bool := some aa
def book_scalars.f (x0 : List Int) (x1 x2 : Int) : Option Bool := if x1 ≤ (x0.length : Int) then (if (x0.length : Int) ≤ x2 then ((slices_ContainsFunc_rune_rune_igm.f x0).bind fun ab => (book_scalars.j1 (!ab))) else (book_scalars.j1 false)) else (book_scalars.j1 false)
theorem book_scalars.c {w0 w : World} {ρ : Hp} {Γ : List Item} (hs : St w0 ρ (Γ) w) {v0 : Value} {x0 : List Int} (h0 : SlR (Rep.int .i32) ρ v0 x0) {x1 x2 : Int} {r : Bool} (H : book_scalars.f x0 x1 x2 = some r) : CallsR Tryz.prog 91 [v0, .int .i64 x1, .int .i64 x2] w (fun v w' => v = .bool r ∧ St w0 ρ Γ w') := by
  rw [book_scalars.f] at H
  refine enter Tryz.func91 Tryz.ntmps91 rfl (by kernel_rfl) rfl <| Wr fun ak ah => Oa rfl rfl <| O_nil (ah _ _ <| W_seqj fun ai aj ac => ?_)
  have ad : ∀ (aa : Bool) (w : World), book_scalars.j1 aa = some r → St w0 ρ (Γ) w → ai [(6, .bool aa)] w := by
   intro aa w H hs
   rw [book_scalars.j1] at H
   refine aj _ _ <| W_ret ?_
   obtain rfl := sinj H
   exact ret1 rfl rfl ⟨rfl, hs⟩
  refine W_region <| Om rfl rfl <| O_y rfl (Y_lenR un28 h0 rfl) <| Om rfl rfl <| O_y rfl (Y_geq rfl rfl) <| Om rfl rfl <| O_if (dj := 11) rfl (fun ae => ?_) (fun ae => ?_)
  ·rw [if_pos ae] at H
   refine O_yes rfl rfl <| Om rfl rfl <| O_yes rfl rfl <| O_y rfl (Y_lenR un28 h0 rfl) <| O_yes rfl rfl <| Om rfl rfl <| O_yes rfl rfl <| O_y rfl (Y_leq rfl rfl) <| O_y rfl (Y_pick_t rfl rfl) <| Om rfl rfl <| O_if (dj := 17) rfl (fun af => ?_) (fun af => ?_)
   ·rw [if_pos af] at H
    refine O_yes rfl rfl <| Om rfl rfl <| O_yes rfl rfl ?_
    obtain ⟨ab, ag, H⟩ := bnd H
    refine O_call rfl rfl (slices_ContainsFunc_rune_rune_igm.c hs h0 ag) (fun al w hpost => ?_)
    obtain ⟨rfl, hs⟩ := hpost
    refine O_yes rfl rfl <| O_y rfl (Y_not rfl) <| O_y rfl (Y_pick_t rfl rfl) <| Oa rfl rfl <| O_nil (ac _ _ _ (S1 rfl) (ad (!ab) _ H hs))
   ·rw [if_neg af] at H
    refine O_no rfl rfl rfl rfl <| O_no rfl rfl rfl rfl <| O_no rfl rfl rfl rfl <| O_y rfl (Y_pick_f rfl rfl) <| Oa rfl rfl <| O_nil (ac _ _ _ (S1 rfl) (ad false _ H hs))
  ·rw [if_neg ae] at H
   refine O_no rfl rfl rfl rfl <| O_no rfl rfl rfl rfl <| O_no rfl rfl rfl rfl <| O_no rfl rfl rfl rfl <| O_y rfl (Y_pick_f rfl rfl) <| Om rfl rfl <| O_no rfl rfl rfl rfl <| O_no rfl rfl rfl rfl <| O_no rfl rfl rfl rfl <| O_y rfl (Y_pick_f rfl rfl) <| Oa rfl rfl <| O_nil (ac _ _ _ (S1 rfl) (ad false _ H hs))

def book_apart_1_cbj.j1 (aa : Int) (ad : Bool) : Option (Bool × Int) := some (ad, aa)
def book_apart_1_cbj.j2 (af : Int → Option (Bool × Int)) (y1_1 : List Val) (x0 : Chs) (aa : Int) (ab : Bool) : Option (Bool × Int) := if ab = true then (af (IntKind.i64.wrap (aa + 1))) else ((book_scalars.f x0.is_ 1 18).bind fun ap => (if ap = true then (if aa = (y1_1.length : Int) then (book_apart_1_cbj.j1 aa true) else (if (0 : Int) ≤ aa ∧ aa < (y1_1.length : Int) then (book_apart_1_cbj.j1 aa (decide (x0.hi < ((rd y1_1 aa).lo)))) else none)) else (book_apart_1_cbj.j1 aa false)))
def book_apart_1_cbj.l1 : Nat → List Val → Chs → Int → Option (Bool × Int)
  | 0, _, _, _ => none
  | ac + 1, y1_1, x0, aa => if aa < (y1_1.length : Int) then (if (0 : Int) ≤ aa ∧ aa < (y1_1.length : Int) then (book_apart_1_cbj.j2 (book_apart_1_cbj.l1 ac y1_1 x0) y1_1 x0 aa (decide (((rd y1_1 aa).hi) < x0.lo))) else none) else (book_apart_1_cbj.j2 (book_apart_1_cbj.l1 ac y1_1 x0) y1_1 x0 aa false)
def book_apart_1_cbj.f (x0 : Chs) (y0_0 : Int) (y1_0 : List ByteArray) (y1_1 : List Val) (y1_2 : List Chs) (y1_3 : List Val) (y1_4 : List Chs) (y1_5 : List Spn) (y1_6 y1_7 : List Val) (y1_8 : List Spn) (y1_9 : List Val) (y1_10 : List Chs) : Option (Bool × Int) := book_apart_1_cbj.l1 K0 y1_1 x0 y0_0
theorem book_apart_1_cbj.c {w0 w : World} {ρ : Hp} {Γ : List Item} {pb0 : Nat} {y0_0 : Int} {pb1 : Nat} {w1_0 : Value} {y1_0 : List ByteArray} {w1_1 : Value} {y1_1 : List Val} {w1_2 : Value} {y1_2 : List Chs} {w1_3 : Value} {y1_3 : List Val} {w1_4 : Value} {y1_4 : List Chs} {w1_5 : Value} {y1_5 : List Spn} {w1_6 : Value} {y1_6 : List Val} {w1_7 : Value} {y1_7 : List Val} {w1_8 : Value} {y1_8 : List Spn} {w1_9 : Value} {y1_9 : List Val} {w1_10 : Value} {y1_10 : List Chs} (hs : St w0 ρ ((.box pb0 3 ([.int .i64 y0_0])) :: (.box pb1 27 ([w1_0, w1_1, w1_2, w1_3, w1_4, w1_5, w1_6, w1_7, w1_8, w1_9, w1_10])) :: Γ) w) {c0 : List Value} {x0 : Chs} (h0 : rChs.R ρ c0 x0) (g1_0 : SlR Rep.str ρ w1_0 y1_0) (g1_1 : SlR rVal ρ w1_1 y1_1) (g1_2 : SlR rChs ρ w1_2 y1_2) (g1_3 : SlR rVal ρ w1_3 y1_3) (g1_4 : SlR rChs ρ w1_4 y1_4) (g1_5 : SlR rSpn ρ w1_5 y1_5) (g1_6 : SlR rVal ρ w1_6 y1_6) (g1_7 : SlR rVal ρ w1_7 y1_7) (g1_8 : SlR rSpn ρ w1_8 y1_8) (g1_9 : SlR rVal ρ w1_9 y1_9) (g1_10 : SlR rChs ρ w1_10 y1_10) {r : Bool × Int} (H : book_apart_1_cbj.f x0 y0_0 y1_0 y1_1 y1_2 y1_3 y1_4 y1_5 y1_6 y1_7 y1_8 y1_9 y1_10 = some r) : CallsR Tryz.prog 148 [.agg c0.toArray, .pointer (some ⟨pb0, 0, none⟩), .pointer (some ⟨pb1, 0, none⟩)] w (fun v w' => v = .bool r.1 ∧ St w0 ρ ((.box pb0 3 ([.int .i64 r.2])) :: (.box pb1 27 ([w1_0, w1_1, w1_2, w1_3, w1_4, w1_5, w1_6, w1_7, w1_8, w1_9, w1_10])) :: Γ) w') := by
  rw [book_apart_1_cbj.f] at H
  refine enter Tryz.func148 Tryz.ntmps148 rfl (by kernel_rfl) rfl ?_
  have aw := h0
  obtain ⟨ah, rfl, ax⟩ := aw
  refine Wr fun bd ay => O_boxN (cs := [.int .i32 x0.lo, .int .i32 x0.hi, ah]) hs rfl rfl (fun ae w hs => Oa rfl rfl <| O_nil (ay _ _ <| W_seq fun be az => W_block fun bf a0 bg => W_loop (σ := Nat × Int) (fun (ac, aa) => [(1, .pointer (some ⟨pb0, 0, none⟩)), (2, .pointer (some ⟨pb1, 0, none⟩)), (3, .pointer (some ⟨ae, 0, none⟩))]) (fun (ac, aa) w => book_apart_1_cbj.l1 ac y1_1 x0 aa = some r ∧ St w0 ρ ((.box ae 110 ([.int .i32 x0.lo, .int .i32 x0.hi, ah])) :: (.box pb0 3 ([.int .i64 aa])) :: (.box pb1 27 ([w1_0, w1_1, w1_2, w1_3, w1_4, w1_5, w1_6, w1_7, w1_8, w1_9, w1_10])) :: Γ) w) (fun s => s.1) (K0, y0_0) (S3 rfl rfl rfl) (Ai H hs) ?_))
  rintro ⟨ac, aa⟩ w bh ⟨H, hs⟩ ag
  show W _ _ _ _ _ _ [(1, .pointer (some ⟨pb0, 0, none⟩)), (2, .pointer (some ⟨pb1, 0, none⟩)), (3, .pointer (some ⟨ae, 0, none⟩))] w
  cases ac with
  | zero => rw [book_apart_1_cbj.l1] at H; cases H
  | succ ac =>
  rw [book_apart_1_cbj.l1] at H
  refine W_seq fun bi a1 => W_seqj fun a2 a3 aq => ?_
  have ar : ∀ (ab : Bool) (w : World), book_apart_1_cbj.j2 (book_apart_1_cbj.l1 ac y1_1 x0) y1_1 x0 aa ab = some r → St w0 ρ ((.box ae 110 ([.int .i32 x0.lo, .int .i32 x0.hi, ah])) :: (.box pb0 3 ([.int .i64 aa])) :: (.box pb1 27 ([w1_0, w1_1, w1_2, w1_3, w1_4, w1_5, w1_6, w1_7, w1_8, w1_9, w1_10])) :: Γ) w → a2 [(1, .pointer (some ⟨pb0, 0, none⟩)), (2, .pointer (some ⟨pb1, 0, none⟩)), (3, .pointer (some ⟨ae, 0, none⟩)), (20, .bool ab)] w := by
   intro ab w H hs
   rw [book_apart_1_cbj.j2] at H
   refine a3 _ _ <| W_cond rfl (fun ai => ?_) (fun ai => ?_)
   ·rw [if_pos ai] at H
    refine W_skip (a1 _ _ <| W_block fun bj bk bl => W_region <| O_y rfl (Yb 1 ag3 hs rfl rfl rfl) <| O_y rfl (Y_add rfl rfl) <| O_store (i := 1) sz3 hs rfl rfl rfl rfl rfl (fun w hs => O_nil (ag (ac, (IntKind.i64.wrap (aa + 1))) _ _ (S3 rfl rfl rfl) (Ai H hs) (Nat.lt_succ_self _))))
   ·rw [if_neg (bft ai)] at H
    refine W_exit (a0 _ _ (az _ _ <| W_seqj fun a4 a5 aj => ?_))
    have ak : ∀ (ad : Bool) (w : World), book_apart_1_cbj.j1 aa ad = some r → St w0 ρ ((.box ae 110 ([.int .i32 x0.lo, .int .i32 x0.hi, ah])) :: (.box pb0 3 ([.int .i64 aa])) :: (.box pb1 27 ([w1_0, w1_1, w1_2, w1_3, w1_4, w1_5, w1_6, w1_7, w1_8, w1_9, w1_10])) :: Γ) w → a4 [(4, .bool ad)] w := by
     intro ad w H hs
     rw [book_apart_1_cbj.j1] at H
     refine a5 _ _ <| W_ret ?_
     obtain rfl := sinj H
     exact ret1 rfl rfl ⟨rfl, (hs.sub (ssk (ssc (ssc ssr))))⟩
    refine W_drawS 22 [0, 1, 2, 4, 8, 8, 40, 72, 152, 264, 512, 1536, 512, 6656, 8704, 16896, 512, 66048, 164352, 262664, 524296, 2097151] [2097148, 2097144, 2097136, 523264, 2096864, 2097040, 2096912, 2096656, 2096128, 1048576, 2093056, 2084864, 2083840, 2064384, 2031616, 1769472, 1899520, 1637376, 1048576, 0, 0, 0] [0, 1, 3, 7, 15, 15, 47, 111, 255, 511, 1023, 2047, 1023, 8191, 16383, 32767, 1023, 66559, 262143, 524287, 1048575, 2097151] [2, 3, 4, 5, 6, 7, 8, 9, 10, 11, 12, 13, 14, 15, 16, 17, 18, 19, 20, 21] (fun w => St w0 ρ ((.box ae 110 ([.int .i32 x0.lo, .int .i32 x0.hi, ah])) :: (.box pb0 3 ([.int .i64 aa])) :: (.box pb1 27 ([w1_0, w1_1, w1_2, w1_3, w1_4, w1_5, w1_6, w1_7, w1_8, w1_9, w1_10])) :: Γ) w) mixed (by kernel_rfl) (fun sh => ?_)
    have hs := hs.drew
    refine Dp 0 sh rfl rfl (by kernel_rfl) (fun w => Y_field fo110_2 rfl) <| Dy 1 sh rfl rfl (by kernel_rfl) hs (fun w hs => Yb 0 ag28 hs rfl rfl rfl) <| D1 2 sh rfl (by kernel_rfl) (fun bm a6 => ?_)
    obtain ⟨ap, al, H⟩ := bnd H
    refine O_call rfl rfl (book_scalars.c hs ax al) (fun bn w hpost => ?_)
    obtain ⟨rfl, hs⟩ := hpost
    refine O_nil (a6 _ _ (fun h _ => absurd h (by decide)) <| OD_resetS sh [] hs (by kernel_rfl) <| Dm 3 sh rfl rfl (by kernel_rfl) rfl <| OD_cases (dj := 26) rfl (fun am => ?_) (fun am => ?_))
    ·rw [if_pos am] at H
     refine Dz 4 sh rfl rfl rfl rfl (by kernel_rfl) hs (fun w hs => Yb 1 ag3 hs rfl rfl rfl) <| Dq 5 sh rfl rfl rfl rfl (by kernel_rfl) (fun w => Y_field fo27_1 rfl) <| Dz 6 sh rfl rfl rfl rfl (by kernel_rfl) hs (fun w hs => Yb 2 ag23 hs rfl rfl rfl) <| Dq 7 sh rfl rfl rfl rfl (by kernel_rfl) (fun w => Y_lenR un23 g1_1 rfl) <| Dq 8 sh rfl rfl rfl rfl (by kernel_rfl) (fun w => Y_eql rfl rfl) <| Dq 9 sh rfl rfl rfl rfl (by kernel_rfl) (fun w => Y_move rfl) <| OD_if (dj := 32) rfl (fun an => ?_) (fun an => ?_)
     ·rw [if_pos an] at H
      refine Dn 10 sh rfl rfl rfl rfl rfl (by kernel_rfl) <| Dn 11 sh rfl rfl rfl rfl rfl (by kernel_rfl) <| Dn 12 sh rfl rfl rfl rfl rfl (by kernel_rfl) <| Dn 13 sh rfl rfl rfl rfl rfl (by kernel_rfl) <| Dn 14 sh rfl rfl rfl rfl rfl (by kernel_rfl) <| Dn 15 sh rfl rfl rfl rfl rfl (by kernel_rfl) <| Dn 16 sh rfl rfl rfl rfl rfl (by kernel_rfl) <| Dn 17 sh rfl rfl rfl rfl rfl (by kernel_rfl) <| Dn 18 sh rfl rfl rfl rfl rfl (by kernel_rfl) <| Dq 19 sh rfl rfl rfl rfl (by kernel_rfl) (fun w => Y_pick_t rfl rfl) <| Dp 20 sh rfl rfl (by kernel_rfl) (fun w => Y_pick_t rfl rfl) <| Dp 21 sh rfl rfl (by kernel_rfl) (fun w => Y_assign rfl) <| OD_doneS sh (by kernel_rfl) (aj _ _ _ (S1 rfl) (ak true _ H hs))
     ·rw [if_neg an] at H
      refine Dq 10 sh rfl rfl rfl rfl (by kernel_rfl) (fun w => Y_field fo27_1 rfl) <| Dz 11 sh rfl rfl rfl rfl (by kernel_rfl) hs (fun w hs => Yb 2 ag23 hs rfl rfl rfl) <| Dz 12 sh rfl rfl rfl rfl (by kernel_rfl) hs (fun w hs => Yb 1 ag3 hs rfl rfl rfl) ?_
      obtain ⟨au, H⟩ := gd H
      obtain ⟨bo, bp, a7, a8⟩ := g1_1.ix el23 au.1 au.2
      obtain ⟨_, rfl, a9⟩ := a7
      refine Dq 13 sh rfl rfl rfl rfl (by kernel_rfl) (fun w => a8 rfl rfl) <| Dq 14 sh rfl rfl rfl rfl (by kernel_rfl) (fun w => Y_field fo67_0 rfl) <| Dz 15 sh rfl rfl rfl rfl (by kernel_rfl) hs (fun w hs => Y_load ag21 rfl (hs.see (a9 0 _ rfl))) <| Dq 16 sh rfl rfl rfl rfl (by kernel_rfl) (fun w => Y_field fo110_1 rfl) <| Dz 17 sh rfl rfl rfl rfl (by kernel_rfl) hs (fun w hs => Yb 0 ag21 hs rfl rfl rfl) <| Dq 18 sh rfl rfl rfl rfl (by kernel_rfl) (fun w => Y_gtr rfl rfl) <| Dq 19 sh rfl rfl rfl rfl (by kernel_rfl) (fun w => Y_pick_f rfl rfl) <| Dp 20 sh rfl rfl (by kernel_rfl) (fun w => Y_pick_t rfl rfl) <| Dp 21 sh rfl rfl (by kernel_rfl) (fun w => Y_assign rfl) <| OD_doneS sh (by kernel_rfl) (aj _ _ _ (S1 rfl) (ak (decide (x0.hi < ((rd y1_1 aa).lo))) _ H hs))
    ·rw [if_neg (bft am)] at H
     refine Dn 4 sh rfl rfl rfl rfl rfl (by kernel_rfl) <| Dn 5 sh rfl rfl rfl rfl rfl (by kernel_rfl) <| Dn 6 sh rfl rfl rfl rfl rfl (by kernel_rfl) <| Dn 7 sh rfl rfl rfl rfl rfl (by kernel_rfl) <| Dn 8 sh rfl rfl rfl rfl rfl (by kernel_rfl) <| Dn 9 sh rfl rfl rfl rfl rfl (by kernel_rfl) <| OD_nouS sh (i := 10) rfl rfl rfl rfl (by kernel_rfl) <| OD_nouS sh (i := 11) rfl rfl rfl rfl (by kernel_rfl) <| OD_nouS sh (i := 12) rfl rfl rfl rfl (by kernel_rfl) <| OD_nouS sh (i := 13) rfl rfl rfl rfl (by kernel_rfl) <| OD_nouS sh (i := 14) rfl rfl rfl rfl (by kernel_rfl) <| OD_nouS sh (i := 15) rfl rfl rfl rfl (by kernel_rfl) <| OD_nouS sh (i := 16) rfl rfl rfl rfl (by kernel_rfl) <| OD_nouS sh (i := 17) rfl rfl rfl rfl (by kernel_rfl) ?_
     refine OD_nouS sh (i := 18) rfl rfl rfl rfl (by kernel_rfl) <| Dn 19 sh rfl rfl rfl rfl rfl (by kernel_rfl) <| Dp 20 sh rfl rfl (by kernel_rfl) (fun w => Y_pick_f rfl rfl) <| Dp 21 sh rfl rfl (by kernel_rfl) (fun w => Y_assign rfl) <| OD_doneS sh (by kernel_rfl) (aj _ _ _ (S1 rfl) (ak false _ H hs))
  refine W_drawS 16 [0, 0, 2, 4, 9, 16, 32, 96, 32, 416, 544, 1056, 32, 4128, 10272, 16416] [65518, 65529, 65521, 65505, 65472, 0, 65280, 64768, 64704, 63488, 61440, 45056, 53184, 36800, 0, 0] [0, 0, 2, 6, 15, 31, 63, 127, 63, 511, 1023, 2047, 63, 4159, 16383, 32767] [] (fun w => St w0 ρ ((.box ae 110 ([.int .i32 x0.lo, .int .i32 x0.hi, ah])) :: (.box pb0 3 ([.int .i64 aa])) :: (.box pb1 27 ([w1_0, w1_1, w1_2, w1_3, w1_4, w1_5, w1_6, w1_7, w1_8, w1_9, w1_10])) :: Γ) w) mixed (by kernel_rfl) (fun sh => ?_)
  have hs := hs.drew
  refine Dy 0 sh rfl rfl (by kernel_rfl) hs (fun w hs => Yb 1 ag3 hs rfl rfl rfl) <| Dp 1 sh rfl rfl (by kernel_rfl) (fun w => Y_field fo27_1 rfl) <| Dy 2 sh rfl rfl (by kernel_rfl) hs (fun w hs => Yb 2 ag23 hs rfl rfl rfl) <| Dp 3 sh rfl rfl (by kernel_rfl) (fun w => Y_lenR un23 g1_1 rfl) <| Dp 4 sh rfl rfl (by kernel_rfl) (fun w => Y_lss rfl rfl) <| Dm 5 sh rfl rfl (by kernel_rfl) rfl <| OD_if (dj := 10) rfl (fun ao => ?_) (fun ao => ?_)
  ·rw [if_pos ao] at H
   refine Dq 6 sh rfl rfl rfl rfl (by kernel_rfl) (fun w => Y_field fo27_1 rfl) <| Dz 7 sh rfl rfl rfl rfl (by kernel_rfl) hs (fun w hs => Yb 2 ag23 hs rfl rfl rfl) <| Dz 8 sh rfl rfl rfl rfl (by kernel_rfl) hs (fun w hs => Yb 1 ag3 hs rfl rfl rfl) ?_
   obtain ⟨av, H⟩ := gd H
   obtain ⟨bq, br, ba, bb⟩ := g1_1.ix el23 av.1 av.2
   obtain ⟨_, rfl, bc⟩ := ba
   refine Dq 9 sh rfl rfl rfl rfl (by kernel_rfl) (fun w => bb rfl rfl) <| Dq 10 sh rfl rfl rfl rfl (by kernel_rfl) (fun w => Y_field fo67_1 rfl) <| Dz 11 sh rfl rfl rfl rfl (by kernel_rfl) hs (fun w hs => Y_load ag21 rfl (hs.see (bc 1 _ rfl))) <| Dq 12 sh rfl rfl rfl rfl (by kernel_rfl) (fun w => Y_field fo110_0 rfl) <| Dz 13 sh rfl rfl rfl rfl (by kernel_rfl) hs (fun w hs => Yb 0 ag21 hs rfl rfl rfl) <| Dq 14 sh rfl rfl rfl rfl (by kernel_rfl) (fun w => Y_lss rfl rfl) <| Dp 15 sh rfl rfl (by kernel_rfl) (fun w => Y_pick_t rfl rfl) <| OD_doneS sh (by kernel_rfl) (aq _ _ _ (S4 rfl rfl rfl rfl) (ar (decide (((rd y1_1 aa).hi) < x0.lo)) _ H hs))
  ·rw [if_neg ao] at H
   refine Dn 6 sh rfl rfl rfl rfl rfl (by kernel_rfl) <| Dn 7 sh rfl rfl rfl rfl rfl (by kernel_rfl) <| Dn 8 sh rfl rfl rfl rfl rfl (by kernel_rfl) <| Dn 9 sh rfl rfl rfl rfl rfl (by kernel_rfl) <| Dn 10 sh rfl rfl rfl rfl rfl (by kernel_rfl) <| Dn 11 sh rfl rfl rfl rfl rfl (by kernel_rfl) <| Dn 12 sh rfl rfl rfl rfl rfl (by kernel_rfl) <| Dn 13 sh rfl rfl rfl rfl rfl (by kernel_rfl) <| Dn 14 sh rfl rfl rfl rfl rfl (by kernel_rfl) <| Dp 15 sh rfl rfl (by kernel_rfl) (fun w => Y_pick_f rfl rfl) <| OD_doneS sh (by kernel_rfl) (aq _ _ _ (S4 rfl rfl rfl rfl) (ar false _ H hs))

def book_rising_api_Chars_mdm.j1 (an : Int → Int → Int → Option (Int × Int)) (aa : Int) (ai : Spn) (ac : Int) (af : Bool) : Option (Int × Int) := if af = true then (some (aa, ac)) else (an ac ai.hi (IntKind.i64.wrap (aa + 1)))
def book_rising_api_Chars_mdm.l1 : Nat → List ByteArray → List Val → List Chs → List Val → List Chs → List Spn → List Val → List Val → List Spn → List Val → List Chs → List Chs → Int → Int → Int → Option (Int × Int)
  | 0, _, _, _, _, _, _, _, _, _, _, _, _, _, _, _ => none
  | ag + 1, y1_0, y1_1, y1_2, y1_3, y1_4, y1_5, y1_6, y1_7, y1_8, y1_9, y1_10, x0, ab, ah, aa => if aa < (x0.length : Int) then (if (0 : Int) ≤ aa ∧ aa < (x0.length : Int) then ((book_ofChars.f (rd x0 aa)).bind fun ai => (if ai.lo ≤ ah then (book_rising_api_Chars_mdm.j1 (book_rising_api_Chars_mdm.l1 ag y1_0 y1_1 y1_2 y1_3 y1_4 y1_5 y1_6 y1_7 y1_8 y1_9 y1_10 x0) aa ai ab true) else (if ai.hi < ai.lo then (book_rising_api_Chars_mdm.j1 (book_rising_api_Chars_mdm.l1 ag y1_0 y1_1 y1_2 y1_3 y1_4 y1_5 y1_6 y1_7 y1_8 y1_9 y1_10 x0) aa ai ab true) else (if 1114111 < ai.hi then (book_rising_api_Chars_mdm.j1 (book_rising_api_Chars_mdm.l1 ag y1_0 y1_1 y1_2 y1_3 y1_4 y1_5 y1_6 y1_7 y1_8 y1_9 y1_10 x0) aa ai ab true) else ((book_apart_1_cbj.f (rd x0 aa) ab y1_0 y1_1 y1_2 y1_3 y1_4 y1_5 y1_6 y1_7 y1_8 y1_9 y1_10).bind fun aj => (book_rising_api_Chars_mdm.j1 (book_rising_api_Chars_mdm.l1 ag y1_0 y1_1 y1_2 y1_3 y1_4 y1_5 y1_6 y1_7 y1_8 y1_9 y1_10 x0) aa ai aj.2 (!aj.1))))))) else none) else (some ((-1), ab))
def book_rising_api_Chars_mdm.f (x0 : List Chs) (y0_0 : Int) (y1_0 : List ByteArray) (y1_1 : List Val) (y1_2 : List Chs) (y1_3 : List Val) (y1_4 : List Chs) (y1_5 : List Spn) (y1_6 y1_7 : List Val) (y1_8 : List Spn) (y1_9 : List Val) (y1_10 : List Chs) : Option (Int × Int) := if 65536 < (x0.length : Int) then (some (65536, y0_0)) else (book_rising_api_Chars_mdm.l1 K0 y1_0 y1_1 y1_2 y1_3 y1_4 y1_5 y1_6 y1_7 y1_8 y1_9 y1_10 x0 y0_0 (-1) 0)
theorem book_rising_api_Chars_mdm.c {w0 w : World} {ρ : Hp} {Γ : List Item} {pb0 : Nat} {y0_0 : Int} {pb1 : Nat} {w1_0 : Value} {y1_0 : List ByteArray} {w1_1 : Value} {y1_1 : List Val} {w1_2 : Value} {y1_2 : List Chs} {w1_3 : Value} {y1_3 : List Val} {w1_4 : Value} {y1_4 : List Chs} {w1_5 : Value} {y1_5 : List Spn} {w1_6 : Value} {y1_6 : List Val} {w1_7 : Value} {y1_7 : List Val} {w1_8 : Value} {y1_8 : List Spn} {w1_9 : Value} {y1_9 : List Val} {w1_10 : Value} {y1_10 : List Chs} (hs : St w0 ρ ((.box pb0 3 ([.int .i64 y0_0])) :: (.box pb1 27 ([w1_0, w1_1, w1_2, w1_3, w1_4, w1_5, w1_6, w1_7, w1_8, w1_9, w1_10])) :: Γ) w) {v0 : Value} {x0 : List Chs} (h0 : SlR rChs ρ v0 x0) (g1_0 : SlR Rep.str ρ w1_0 y1_0) (g1_1 : SlR rVal ρ w1_1 y1_1) (g1_2 : SlR rChs ρ w1_2 y1_2) (g1_3 : SlR rVal ρ w1_3 y1_3) (g1_4 : SlR rChs ρ w1_4 y1_4) (g1_5 : SlR rSpn ρ w1_5 y1_5) (g1_6 : SlR rVal ρ w1_6 y1_6) (g1_7 : SlR rVal ρ w1_7 y1_7) (g1_8 : SlR rSpn ρ w1_8 y1_8) (g1_9 : SlR rVal ρ w1_9 y1_9) (g1_10 : SlR rChs ρ w1_10 y1_10) {r : Int × Int} (H : book_rising_api_Chars_mdm.f x0 y0_0 y1_0 y1_1 y1_2 y1_3 y1_4 y1_5 y1_6 y1_7 y1_8 y1_9 y1_10 = some r) : CallsR Tryz.prog 100 [v0, .func (.func 66) #[] #[], .func (.func 148) #[] #[.pointer (some ⟨pb0, 0, none⟩), .pointer (some ⟨pb1, 0, none⟩)]] w (fun v w' => v = .int .i64 r.1 ∧ St w0 ρ ((.box pb0 3 ([.int .i64 r.2])) :: (.box pb1 27 ([w1_0, w1_1, w1_2, w1_3, w1_4, w1_5, w1_6, w1_7, w1_8, w1_9, w1_10])) :: Γ) w') := by
  rw [book_rising_api_Chars_mdm.f] at H
  refine enter Tryz.func100 Tryz.ntmps100 rfl (by kernel_rfl) rfl <| Wr fun bx ba => Oa rfl rfl <| O_nil (ba _ _ <| W_seq fun bz bb => Wr fun b0 bc => Om rfl rfl <| O_y rfl (Y_lenR un24 h0 rfl) <| O_y rfl (Y_gtr rfl rfl) <| O_nil (bc _ _ <| W_if rfl (fun ay => ?_) (fun ay => ?_)))
  ·rw [if_pos ay] at H
   refine Wr fun b1 bd => Oa rfl rfl <| O_nil (bd _ _ <| W_ret ?_)
   obtain rfl := sinj H
   exact ret1 rfl rfl ⟨rfl, hs⟩
  ·rw [if_neg ay] at H
   refine W_skip (bb _ _ <| Wr fun b2 be => Oa rfl rfl <| O_nil (be _ _ <| W_seq fun b3 bf => Wr fun b4 bg => Om rfl rfl <| O_y rfl (Y_lenR un24 h0 rfl) <| Om rfl rfl <| O_nil (bg _ _ <| W_block fun b5 bh b6 => W_loop (σ := Nat × Int × Int × Int × Hp) (fun (ag, ab, ah, aa, ak) => [(1, .func (.func 66) #[] #[]), (2, .func (.func 148) #[] #[.pointer (some ⟨pb0, 0, none⟩), .pointer (some ⟨pb1, 0, none⟩)]), (7, .int .i32 ah), (14, v0), (15, .int .i64 (x0.length : Int)), (16, .int .i64 aa)]) (fun (ag, ab, ah, aa, ak) w => book_rising_api_Chars_mdm.l1 ag y1_0 y1_1 y1_2 y1_3 y1_4 y1_5 y1_6 y1_7 y1_8 y1_9 y1_10 x0 ab ah aa = some r ∧ Le ρ ak ∧ St w0 ak ((.box pb0 3 ([.int .i64 ab])) :: (.box pb1 27 ([w1_0, w1_1, w1_2, w1_3, w1_4, w1_5, w1_6, w1_7, w1_8, w1_9, w1_10])) :: Γ) w) (fun s => s.1) (K0, y0_0, (-1), 0, ρ) (by repeat first | exact Sub.nil | refine Sub.cons rfl ?_) (Ai H (Ai (Le.rfl' _) hs)) ?_)))
   rintro ⟨ag, ab, ah, aa, ak⟩ w b7 ⟨H, ad, hs⟩ ao
   show W _ _ _ _ _ _ [(1, .func (.func 66) #[] #[]), (2, .func (.func 148) #[] #[.pointer (some ⟨pb0, 0, none⟩), .pointer (some ⟨pb1, 0, none⟩)]), (7, .int .i32 ah), (14, v0), (15, .int .i64 (x0.length : Int)), (16, .int .i64 aa)] w
   cases ag with
   | zero => rw [book_rising_api_Chars_mdm.l1] at H; cases H
   | succ ag =>
   rw [book_rising_api_Chars_mdm.l1] at H
   refine Wr fun b8 bi => O_y rfl (Y_lss rfl rfl) <| O_nil (bi _ _ <| W_seq fun b9 bj => W_if rfl (fun az => ?_) (fun az => ?_))
   ·rw [if_pos az] at H
    refine W_skip (bj _ _ <| W_seq fun ca bk => W_block fun cb cc cd => Wr fun ce bl => Om rfl rfl ?_)
    obtain ⟨a9, H⟩ := gd H
    obtain ⟨cf, cg, bm, bn⟩ := (h0.mono ad).ix el24 a9.1 a9.2
    obtain ⟨_, ⟨bo, rfl, a0⟩, bp⟩ := bm
    refine O_y rfl (bn rfl rfl) <| O_y rfl (Y_loadN ag110 sz110 rfl rfl (fun j u hu => hs.see (bp j u hu))) <| O_alloc zr110 hs rfl (fun bq w hs => Oa rfl rfl <| O_storeN (i := 0) sz110 hs rfl rfl rfl rfl rfl (one_cons rfl (one_cons rfl (one_cons a0.one one_nil))) (fun w hs => O_nil (bl _ _ <| Wr fun ch br => Om rfl rfl <| O_y rfl (Y_loadbN (i := 0) ag110 sz110 hs rfl rfl rfl rfl) ?_)))
    obtain ⟨ai, a1, H⟩ := bnd H
    refine O_callv rfl rfl rfl (book_ofChars.c hs ⟨_, rfl, a0⟩ a1) (fun ci w hpost => ?_)
    obtain ⟨av, bs, rfl, ae, hs, a2⟩ := hpost
    have a3 := a2
    obtain rfl := a3
    refine O_alloc zr129 hs rfl (fun aw w hs => O_storeN (i := 0) sz129 hs rfl rfl rfl rfl rfl (one_cons rfl (one_cons rfl one_nil)) (fun w hs => O_nil (br _ _ <| W.weak [(1, _), (2, _), (7, _), (8, _), (9, _), (10, _), (14, _), (15, _), (16, _)] (by repeat first | exact Sub.nil | refine Sub.cons rfl ?_) ?_)))
    refine W_seq fun bt a4 => W_seqj fun a5 a6 al => ?_
    have am : ∀ (ac : Int) (af : Bool) (w : World), book_rising_api_Chars_mdm.j1 (book_rising_api_Chars_mdm.l1 ag y1_0 y1_1 y1_2 y1_3 y1_4 y1_5 y1_6 y1_7 y1_8 y1_9 y1_10 x0) aa ai ac af = some r → St w0 av ((.box aw 129 ([.int .i32 ai.lo, .int .i32 ai.hi])) :: (.box bq 110 ([.int .i32 ((rd x0 aa).lo), .int .i32 ((rd x0 aa).hi), bo])) :: (.box pb0 3 ([.int .i64 ac])) :: (.box pb1 27 ([w1_0, w1_1, w1_2, w1_3, w1_4, w1_5, w1_6, w1_7, w1_8, w1_9, w1_10])) :: Γ) w → a5 [(1, .func (.func 66) #[] #[]), (2, .func (.func 148) #[] #[.pointer (some ⟨pb0, 0, none⟩), .pointer (some ⟨pb1, 0, none⟩)]), (8, .int .i64 aa), (10, .pointer (some ⟨aw, 0, none⟩)), (14, v0), (15, .int .i64 (x0.length : Int)), (16, .int .i64 aa), (45, .bool af)] w := by
     intro ac af w H hs
     rw [book_rising_api_Chars_mdm.j1] at H
     refine a6 _ _ <| W_cond rfl (fun ap => ?_) (fun ap => ?_)
     ·rw [if_pos ap] at H
      refine Wr fun bu a7 => Om rfl rfl <| Oa rfl rfl <| O_nil (a7 _ _ <| W_ret ?_)
      obtain rfl := sinj H
      exact ret1 rfl rfl ⟨rfl, ((hs.sub (ssk (ssk (ssc (ssc ssr))))).less (ad.trans ae))⟩
     ·rw [if_neg (bft ap)] at H
      refine W_skip (a4 _ _ <| W_region <| O_y rfl (Y_field fo129_1 rfl) <| O_y rfl (Yb 0 ag21 hs rfl rfl rfl) <| Oa rfl rfl <| O_nil (bk _ _ <| W_region <| O_y rfl (Y_add rfl rfl) <| Om rfl rfl <| O_nil (ao (ag, ac, ai.hi, (IntKind.i64.wrap (aa + 1)), av) _ _ (by repeat first | exact Sub.nil | refine Sub.cons rfl ?_) (Ai H (Ai (ad.trans ae) (hs.sub (ssk (ssk (ssc (ssc ssr))))))) (Nat.lt_succ_self _))))
    refine W_region <| O_y rfl (Y_field fo129_0 rfl) <| O_y rfl (Yb 0 ag21 hs rfl rfl rfl) <| Om rfl rfl <| O_y rfl (Y_leq rfl rfl) <| Om rfl rfl <| O_if (dj := 28) rfl (fun aq => ?_) (fun aq => ?_)
    ·rw [if_pos aq] at H
     refine O_no rfl rfl rfl rfl <| O_no rfl rfl rfl rfl <| O_no rfl rfl rfl rfl <| O_no rfl rfl rfl rfl <| O_no rfl rfl rfl rfl <| O_y rfl (Y_pick_t rfl rfl) <| Om rfl rfl <| O_no rfl rfl rfl rfl <| O_no rfl rfl rfl rfl <| O_no rfl rfl rfl rfl <| O_y rfl (Y_pick_t rfl rfl) <| Om rfl rfl <| O_no rfl rfl rfl rfl <| O_no rfl rfl rfl rfl ?_
     refine O_no rfl rfl rfl rfl <| O_no rfl rfl rfl rfl <| O_y rfl (Y_pick_t rfl rfl) <| O_nil (al _ _ _ (by repeat first | exact Sub.nil | refine Sub.cons rfl ?_) (am ab true _ H hs))
    ·rw [if_neg aq] at H
     refine O_yes rfl rfl <| O_y rfl (Y_field fo129_1 rfl) <| O_yes rfl rfl <| O_y rfl (Yb 0 ag21 hs rfl rfl rfl) <| O_yes rfl rfl <| O_y rfl (Y_field fo129_0 rfl) <| O_yes rfl rfl <| O_y rfl (Yb 0 ag21 hs rfl rfl rfl) <| O_yes rfl rfl <| O_y rfl (Y_lss rfl rfl) <| O_y rfl (Y_pick_f rfl rfl) <| Om rfl rfl <| O_if (dj := 35) rfl (fun ar => ?_) (fun ar => ?_)
     ·rw [if_pos ar] at H
      refine O_no rfl rfl rfl rfl <| O_no rfl rfl rfl rfl <| O_no rfl rfl rfl rfl <| O_y rfl (Y_pick_t rfl rfl) <| Om rfl rfl <| O_no rfl rfl rfl rfl <| O_no rfl rfl rfl rfl <| O_no rfl rfl rfl rfl <| O_no rfl rfl rfl rfl <| O_y rfl (Y_pick_t rfl rfl) <| O_nil (al _ _ _ (by repeat first | exact Sub.nil | refine Sub.cons rfl ?_) (am ab true _ H hs))
     ·rw [if_neg ar] at H
      refine O_yes rfl rfl <| O_y rfl (Y_field fo129_1 rfl) <| O_yes rfl rfl <| O_y rfl (Yb 0 ag21 hs rfl rfl rfl) <| O_yes rfl rfl <| O_y rfl (Y_gtr rfl rfl) <| O_y rfl (Y_pick_f rfl rfl) <| Om rfl rfl <| O_if (dj := 40) rfl (fun au => ?_) (fun au => ?_)
      ·rw [if_pos au] at H
       refine O_no rfl rfl rfl rfl <| O_no rfl rfl rfl rfl <| O_no rfl rfl rfl rfl <| O_no rfl rfl rfl rfl <| O_y rfl (Y_pick_t rfl rfl) <| O_nil (al _ _ _ (by repeat first | exact Sub.nil | refine Sub.cons rfl ?_) (am ab true _ H hs))
      ·rw [if_neg au] at H
       refine O_yes rfl rfl <| Om rfl rfl <| O_yes rfl rfl <| O_y rfl (Y_loadbN (i := 1) ag110 sz110 hs rfl rfl rfl rfl) <| O_yes rfl rfl ?_
       have hs := hs.front 3 rfl
       have hs := hs.front 3 rfl
       obtain ⟨aj, ax, H⟩ := bnd H
       refine O_callv rfl rfl rfl (book_apart_1_cbj.c hs ⟨_, rfl, (a0.mono ae)⟩ (g1_0.mono (ad.trans ae)) (g1_1.mono (ad.trans ae)) (g1_2.mono (ad.trans ae)) (g1_3.mono (ad.trans ae)) (g1_4.mono (ad.trans ae)) (g1_5.mono (ad.trans ae)) (g1_6.mono (ad.trans ae)) (g1_7.mono (ad.trans ae)) (g1_8.mono (ad.trans ae)) (g1_9.mono (ad.trans ae)) (g1_10.mono (ad.trans ae)) ax) (fun bv w hpost => ?_)
       obtain ⟨rfl, hs⟩ := hpost
       have hs := hs.sink 3
       have hs := hs.sink 3
       refine O_yes rfl rfl <| O_y rfl (Y_not rfl) <| O_y rfl (Y_pick_f rfl rfl) <| O_nil (al _ _ _ (by repeat first | exact Sub.nil | refine Sub.cons rfl ?_) (am aj.2 (!aj.1) _ H hs))
   ·rw [if_neg az] at H
    refine W_exit (bh _ _ (bf _ _ <| Wr fun bw a8 => Oa rfl rfl <| O_nil (a8 _ _ <| W_ret ?_)))
    obtain rfl := sinj H
    exact ret1 rfl rfl ⟨rfl, (hs.less ad)⟩

def book_apart.f (x0 : Bk) : Option Int := (book_rising_api_Chars_mdm.f x0.maps 0 x0.names x0.status x0.maps x0.class_ x0.decomp x0.excl x0.bidi x0.join x0.marks x0.script x0.like).bind fun ab => (some ab.1)
theorem book_apart.c {w0 w : World} {ρ : Hp} {Γ : List Item} (hs : St w0 ρ (Γ) w) {c0 : List Value} {x0 : Bk} (h0 : rBk.R ρ c0 x0) {r : Int} (H : book_apart.f x0 = some r) : CallsR Tryz.prog 97 [.agg c0.toArray] w (fun v w' => v = .int .i64 r ∧ St w0 ρ Γ w') := by
  rw [book_apart.f] at H
  refine enter Tryz.func97 Tryz.ntmps97 rfl (by kernel_rfl) rfl ?_
  have ad := h0
  obtain ⟨ae, af, ag, ah, ai, aj, ak, al, am, an, ao, rfl, ap, aq, ac, ar, au, av, aw, ax, ay, az, a0⟩ := ad
  refine Wr fun a4 a1 => O_boxN (cs := [ae, af, ag, ah, ai, aj, ak, al, am, an, ao]) hs rfl rfl (fun a5 w hs => Oa rfl rfl <| O_nil (a1 _ _ <| Wr fun a6 a2 => O_alloc zr3 hs rfl (fun a7 w hs => O_store (i := 0) sz3 hs rfl rfl rfl rfl rfl (fun w hs => O_nil (a2 _ _ <| Wr fun a8 a3 => O_y rfl (Y_field fo27_2 rfl) <| O_y rfl (Yb 1 ag24 hs rfl rfl rfl) ?_)))))
  refine O_y rfl (Y_func rfl) ?_
  have hs := hs.front 1 rfl
  have hs := hs.front 1 rfl
  obtain ⟨ab, aa, H⟩ := bnd H
  refine O_call rfl rfl (book_rising_api_Chars_mdm.c hs ac ap aq ac ar au av aw ax ay az a0 aa) (fun a9 w hpost => ?_)
  obtain ⟨rfl, hs⟩ := hpost
  have hs := hs.sink 1
  have hs := hs.sink 1
  refine Oa rfl rfl <| O_nil (a3 _ _ <| W_ret ?_)
  obtain rfl := sinj H
  exact ret1 rfl rfl ⟨rfl, (hs.sub (ssk (ssk ssr)))⟩

def book_Check_6_mae.f (y0_0 : List ByteArray) (y0_1 : List Val) (y0_2 : List Chs) (y0_3 : List Val) (y0_4 : List Chs) (y0_5 : List Spn) (y0_6 y0_7 : List Val) (y0_8 : List Spn) (y0_9 : List Val) (y0_10 : List Chs) : Option Int := (book_apart.f (⟨y0_0, y0_1, y0_2, y0_3, y0_4, y0_5, y0_6, y0_7, y0_8, y0_9, y0_10⟩ : Bk)).bind fun ab => (some ab)
theorem book_Check_6_mae.c {w0 w : World} {ρ : Hp} {Γ : List Item} {pb0 : Nat} {w0_0 : Value} {y0_0 : List ByteArray} {w0_1 : Value} {y0_1 : List Val} {w0_2 : Value} {y0_2 : List Chs} {w0_3 : Value} {y0_3 : List Val} {w0_4 : Value} {y0_4 : List Chs} {w0_5 : Value} {y0_5 : List Spn} {w0_6 : Value} {y0_6 : List Val} {w0_7 : Value} {y0_7 : List Val} {w0_8 : Value} {y0_8 : List Spn} {w0_9 : Value} {y0_9 : List Val} {w0_10 : Value} {y0_10 : List Chs} (hs : St w0 ρ ((.box pb0 27 ([w0_0, w0_1, w0_2, w0_3, w0_4, w0_5, w0_6, w0_7, w0_8, w0_9, w0_10])) :: Γ) w) (g0_0 : SlR Rep.str ρ w0_0 y0_0) (g0_1 : SlR rVal ρ w0_1 y0_1) (g0_2 : SlR rChs ρ w0_2 y0_2) (g0_3 : SlR rVal ρ w0_3 y0_3) (g0_4 : SlR rChs ρ w0_4 y0_4) (g0_5 : SlR rSpn ρ w0_5 y0_5) (g0_6 : SlR rVal ρ w0_6 y0_6) (g0_7 : SlR rVal ρ w0_7 y0_7) (g0_8 : SlR rSpn ρ w0_8 y0_8) (g0_9 : SlR rVal ρ w0_9 y0_9) (g0_10 : SlR rChs ρ w0_10 y0_10) {r : Int} (H : book_Check_6_mae.f y0_0 y0_1 y0_2 y0_3 y0_4 y0_5 y0_6 y0_7 y0_8 y0_9 y0_10 = some r) : CallsR Tryz.prog 96 [.pointer (some ⟨pb0, 0, none⟩)] w (fun v w' => v = .int .i64 r ∧ St w0 ρ ((.box pb0 27 ([w0_0, w0_1, w0_2, w0_3, w0_4, w0_5, w0_6, w0_7, w0_8, w0_9, w0_10])) :: Γ) w') := by
  rw [book_Check_6_mae.f] at H
  refine enter Tryz.func96 Tryz.ntmps96 rfl (by kernel_rfl) rfl <| Wr fun ae ac => Oa rfl rfl <| O_nil (ac _ _ <| Wr fun af ad => O_y rfl (Y_loadbN (i := 0) ag27 sz27 hs rfl rfl rfl rfl) ?_)
  obtain ⟨ab, aa, H⟩ := bnd H
  refine O_call rfl rfl (book_apart.c hs ⟨_, _, _, _, _, _, _, _, _, _, _, rfl, g0_0, g0_1, g0_2, g0_3, g0_4, g0_5, g0_6, g0_7, g0_8, g0_9, g0_10⟩ aa) (fun ag w hpost => ?_)
  obtain ⟨rfl, hs⟩ := hpost
  refine Oa rfl rfl <| O_nil (ad _ _ <| W_ret ?_)
  obtain rfl := sinj H
  exact ret1 rfl rfl ⟨rfl, hs⟩

def book_hangul.f : Option (List Spn) := some ([(⟨4352, 4370⟩ : Spn), (⟨4449, 4469⟩ : Spn), (⟨4520, 4546⟩ : Spn), (⟨44032, 55203⟩ : Spn)])
theorem book_hangul.c {w0 w : World} {ρ : Hp} {Γ : List Item} (hs : St w0 ρ (Γ) w) {r : List Spn} (H : book_hangul.f = some r) : CallsR Tryz.prog 140 [] w (fun v w' => ∃ (ρ' : Hp) (v0 : Value) (cs0 : List Value), v = v0 ∧ Le ρ ρ' ∧ St w0 ρ' (.row v0 129 rSpn.sz r.length cs0 :: Γ) w' ∧ RowR rSpn ρ' cs0 r) := by
  rw [book_hangul.f] at H
  refine enter Tryz.func140 Tryz.ntmps140 rfl (by kernel_rfl) rfl <| Wr fun ad aa => Oa rfl rfl <| O_nil (aa _ _ <| Wr fun ae ab => O_y rfl (Y_build (cs := [.int .i32 4352, .int .i32 4370]) zr129 pl129 ((Parts.cons rfl rfl (Parts.cons rfl rfl Parts.nil))) ag129 (by kernel_rfl)) <| O_y rfl (Y_build (cs := [.int .i32 4449, .int .i32 4469]) zr129 pl129 ((Parts.cons rfl rfl (Parts.cons rfl rfl Parts.nil))) ag129 (by kernel_rfl)) <| O_y rfl (Y_build (cs := [.int .i32 4520, .int .i32 4546]) zr129 pl129 ((Parts.cons rfl rfl (Parts.cons rfl rfl Parts.nil))) ag129 (by kernel_rfl)) <| O_y rfl (Y_build (cs := [.int .i32 44032, .int .i32 55203]) zr129 pl129 ((Parts.cons rfl rfl (Parts.cons rfl rfl Parts.nil))) ag129 (by kernel_rfl)) <| O_lit2 (xs := [.tmp 1, .tmp 2, .tmp 3, .tmp 4]) (cs := [.int .i32 4352, .int .i32 4370, .int .i32 4449, .int .i32 4469, .int .i32 4520, .int .i32 4546, .int .i32 44032, .int .i32 55203]) el25 hs rfl rfl rfl (by decide) (by decide) rfl (sz_cons rfl (sz_cons rfl (sz_cons rfl (sz_cons rfl sz_nil)))) (flat_cons rfl (flat_cons rfl (flat_cons rfl (flat_cons rfl flat_nil)))) (fun af w hs => ?_))
  have ac : RowR rSpn ρ ([.int .i32 4352, .int .i32 4370, .int .i32 4449, .int .i32 4469, .int .i32 4520, .int .i32 4546, .int .i32 44032, .int .i32 55203]) [(⟨4352, 4370⟩ : Spn), (⟨4449, 4469⟩ : Spn), (⟨4520, 4546⟩ : Spn), (⟨44032, 55203⟩ : Spn)] := RowR.cons (c := [.int .i32 4352, .int .i32 4370]) (x := (⟨4352, 4370⟩ : Spn)) rfl (RowR.cons (c := [.int .i32 4449, .int .i32 4469]) (x := (⟨4449, 4469⟩ : Spn)) rfl (RowR.cons (c := [.int .i32 4520, .int .i32 4546]) (x := (⟨4520, 4546⟩ : Spn)) rfl (RowR.cons (c := [.int .i32 44032, .int .i32 55203]) (x := (⟨44032, 55203⟩ : Spn)) rfl (RowR.nil _ _))))
  refine Oa rfl rfl <| O_nil (ab _ _ <| W_ret ?_)
  obtain rfl := sinj H
  exact ret1 rfl rfl ⟨_, _, _, rfl, Le.rfl' _, hs, ac⟩

def book_touches_1_aek.j1 (aa : Bool) : Option Bool := some aa
def book_touches_1_aek.f (x0 : Spn) (y0_0 y0_1 : Int) : Option Bool := if y0_0 ≤ x0.hi then (book_touches_1_aek.j1 (decide (x0.lo ≤ y0_1))) else (book_touches_1_aek.j1 false)
theorem book_touches_1_aek.c {w0 w : World} {ρ : Hp} {Γ : List Item} {pb0 : Nat} {y0_0 y0_1 : Int} (hs : St w0 ρ ((.box pb0 129 ([.int .i32 y0_0, .int .i32 y0_1])) :: Γ) w) {c0 : List Value} {x0 : Spn} (h0 : rSpn.R ρ c0 x0) {r : Bool} (H : book_touches_1_aek.f x0 y0_0 y0_1 = some r) : CallsR Tryz.prog 141 [.agg c0.toArray, .pointer (some ⟨pb0, 0, none⟩)] w (fun v w' => v = .bool r ∧ St w0 ρ ((.box pb0 129 ([.int .i32 y0_0, .int .i32 y0_1])) :: Γ) w') := by
  rw [book_touches_1_aek.f] at H
  refine enter Tryz.func141 Tryz.ntmps141 rfl (by kernel_rfl) rfl ?_
  have ae := h0
  obtain rfl := ae
  refine Wr fun aj af => O_boxN (cs := [.int .i32 x0.lo, .int .i32 x0.hi]) hs rfl rfl (fun ag w hs => Oa rfl rfl <| O_nil (af _ _ <| W_seqj fun ah ai ac => ?_))
  have ad : ∀ (aa : Bool) (w : World), book_touches_1_aek.j1 aa = some r → St w0 ρ ((.box ag 129 ([.int .i32 x0.lo, .int .i32 x0.hi])) :: (.box pb0 129 ([.int .i32 y0_0, .int .i32 y0_1])) :: Γ) w → ah [(3, .bool aa)] w := by
   intro aa w H hs
   rw [book_touches_1_aek.j1] at H
   refine ai _ _ <| W_ret ?_
   obtain rfl := sinj H
   exact ret1 rfl rfl ⟨rfl, (hs.sub (ssk (ssc ssr)))⟩
  refine W_region <| O_y rfl (Y_field fo129_0 rfl) <| O_y rfl (Yb 1 ag21 hs rfl rfl rfl) <| O_y rfl (Y_field fo129_1 rfl) <| O_y rfl (Yb 0 ag21 hs rfl rfl rfl) <| O_y rfl (Y_leq rfl rfl) <| Om rfl rfl <| O_if (dj := 9) rfl (fun ab => ?_) (fun ab => ?_)
  ·rw [if_pos ab] at H
   refine O_yes rfl rfl <| O_y rfl (Y_field fo129_0 rfl) <| O_yes rfl rfl <| O_y rfl (Yb 0 ag21 hs rfl rfl rfl) <| O_yes rfl rfl <| O_y rfl (Y_field fo129_1 rfl) <| O_yes rfl rfl <| O_y rfl (Yb 1 ag21 hs rfl rfl rfl) <| O_yes rfl rfl <| O_y rfl (Y_leq rfl rfl) <| O_y rfl (Y_pick_t rfl rfl) <| Oa rfl rfl <| O_nil (ac _ _ _ (S1 rfl) (ad (decide (x0.lo ≤ y0_1)) _ H hs))
  ·rw [if_neg ab] at H
   refine O_no rfl rfl rfl rfl <| O_no rfl rfl rfl rfl <| O_no rfl rfl rfl rfl <| O_no rfl rfl rfl rfl <| O_no rfl rfl rfl rfl <| O_y rfl (Y_pick_f rfl rfl) <| Oa rfl rfl <| O_nil (ac _ _ _ (S1 rfl) (ad false _ H hs))

def slices_IndexFunc_api_Span_api_Span_fdc.l1 : Nat → Int → Int → List Spn → Int → Option Int
  | 0, _, _, _, _ => none
  | ab + 1, y0_0, y0_1, x0, aa => if aa < (x0.length : Int) then (if (0 : Int) ≤ aa ∧ aa < (x0.length : Int) then ((book_touches_1_aek.f (rd x0 aa) y0_0 y0_1).bind fun ag => (if ag = true then (some aa) else ((slices_IndexFunc_api_Span_api_Span_fdc.l1 ab y0_0 y0_1 x0) (IntKind.i64.wrap (aa + 1))))) else none) else (some (-1))
def slices_IndexFunc_api_Span_api_Span_fdc.f (x0 : List Spn) (y0_0 y0_1 : Int) : Option Int := slices_IndexFunc_api_Span_api_Span_fdc.l1 K0 y0_0 y0_1 x0 0
theorem slices_IndexFunc_api_Span_api_Span_fdc.c {w0 w : World} {ρ : Hp} {Γ : List Item} {pb0 : Nat} {y0_0 y0_1 : Int} (hs : St w0 ρ ((.box pb0 129 ([.int .i32 y0_0, .int .i32 y0_1])) :: Γ) w) {v0 : Value} {x0 : List Spn} (h0 : SlR rSpn ρ v0 x0) {r : Int} (H : slices_IndexFunc_api_Span_api_Span_fdc.f x0 y0_0 y0_1 = some r) : CallsR Tryz.prog 170 [v0, .func (.func 141) #[] #[.pointer (some ⟨pb0, 0, none⟩)]] w (fun v w' => v = .int .i64 r ∧ St w0 ρ ((.box pb0 129 ([.int .i32 y0_0, .int .i32 y0_1])) :: Γ) w') := by
  rw [slices_IndexFunc_api_Span_api_Span_fdc.f] at H
  refine enter Tryz.func170 Tryz.ntmps170 rfl (by kernel_rfl) rfl <| Wr fun ay ai => Oa rfl rfl <| O_nil (ai _ _ <| W_seq fun az aj => Wr fun a0 ak => Om rfl rfl <| O_y rfl (Y_lenR un25 h0 rfl) <| Om rfl rfl <| O_nil (ak _ _ <| W_block fun a1 al a2 => W_loop (σ := Nat × Int) (fun (ab, aa) => [(0, v0), (1, .func (.func 141) #[] #[.pointer (some ⟨pb0, 0, none⟩)]), (7, .int .i64 (x0.length : Int)), (8, .int .i64 aa)]) (fun (ab, aa) w => slices_IndexFunc_api_Span_api_Span_fdc.l1 ab y0_0 y0_1 x0 aa = some r ∧ St w0 ρ ((.box pb0 129 ([.int .i32 y0_0, .int .i32 y0_1])) :: Γ) w) (fun s => s.1) (K0, 0) (S4 rfl rfl rfl rfl) (Ai H hs) ?_))
  rintro ⟨ab, aa⟩ w a3 ⟨H, hs⟩ ac
  show W _ _ _ _ _ _ [(0, v0), (1, .func (.func 141) #[] #[.pointer (some ⟨pb0, 0, none⟩)]), (7, .int .i64 (x0.length : Int)), (8, .int .i64 aa)] w
  cases ab with
  | zero => rw [slices_IndexFunc_api_Span_api_Span_fdc.l1] at H; cases H
  | succ ab =>
  rw [slices_IndexFunc_api_Span_api_Span_fdc.l1] at H
  refine Wr fun a4 am => O_y rfl (Y_lss rfl rfl) <| O_nil (am _ _ <| W_seq fun a5 an => W_if rfl (fun ad => ?_) (fun ad => ?_))
  ·rw [if_pos ad] at H
   refine W_skip (an _ _ <| W_seq fun a6 ao => W_block fun a7 a8 a9 => Wr fun ba ap => Om rfl rfl <| Oa rfl rfl <| O_nil (ap _ _ <| Wr fun bb aq => Om rfl rfl <| Om rfl rfl <| Om rfl rfl ?_))
   obtain ⟨ah, H⟩ := gd H
   obtain ⟨bc, bd, ar, au⟩ := h0.ix el25 ah.1 ah.2
   obtain ⟨_, rfl, av⟩ := ar
   refine O_y rfl (au rfl rfl) <| O_y rfl (Y_loadN ag129 sz129 rfl rfl (fun j u hu => hs.see (av j u hu))) ?_
   obtain ⟨ag, ae, H⟩ := bnd H
   refine O_callv rfl rfl rfl (book_touches_1_aek.c hs rfl ae) (fun be w hpost => ?_)
   obtain ⟨rfl, hs⟩ := hpost
   refine O_nil (aq _ _ <| W_cond rfl (fun af => ?_) (fun af => ?_))
   ·rw [if_pos af] at H
    refine Wr fun bf aw => Om rfl rfl <| Oa rfl rfl <| O_nil (aw _ _ <| W.weak [(4, _)] (S1 rfl) <| W_ret ?_)
    obtain rfl := sinj H
    exact ret1 rfl rfl ⟨rfl, hs⟩
   ·rw [if_neg (bft af)] at H
    refine W_skip (ao _ _ <| W_region <| O_y rfl (Y_add rfl rfl) <| Om rfl rfl <| O_nil (ac (ab, (IntKind.i64.wrap (aa + 1))) _ _ (S4 rfl rfl rfl rfl) (Ai H hs) (Nat.lt_succ_self _)))
  ·rw [if_neg ad] at H
   refine W_exit (al _ _ (aj _ _ <| Wr fun bg ax => Oa rfl rfl <| O_nil (ax _ _ <| W_ret ?_)))
   obtain rfl := sinj H
   exact ret1 rfl rfl ⟨rfl, hs⟩

def slices_ContainsFunc_api_Span_api_Span_fdc.f (x0 : List Spn) (y0_0 y0_1 : Int) : Option Bool := (slices_IndexFunc_api_Span_api_Span_fdc.f x0 y0_0 y0_1).bind fun ab => (some (decide (0 ≤ ab)))
theorem slices_ContainsFunc_api_Span_api_Span_fdc.c {w0 w : World} {ρ : Hp} {Γ : List Item} {pb0 : Nat} {y0_0 y0_1 : Int} (hs : St w0 ρ ((.box pb0 129 ([.int .i32 y0_0, .int .i32 y0_1])) :: Γ) w) {v0 : Value} {x0 : List Spn} (h0 : SlR rSpn ρ v0 x0) {r : Bool} (H : slices_ContainsFunc_api_Span_api_Span_fdc.f x0 y0_0 y0_1 = some r) : CallsR Tryz.prog 139 [v0, .func (.func 141) #[] #[.pointer (some ⟨pb0, 0, none⟩)]] w (fun v w' => v = .bool r ∧ St w0 ρ ((.box pb0 129 ([.int .i32 y0_0, .int .i32 y0_1])) :: Γ) w') := by
  rw [slices_ContainsFunc_api_Span_api_Span_fdc.f] at H
  refine enter Tryz.func139 Tryz.ntmps139 rfl (by kernel_rfl) rfl <| Wr fun ae ac => Oa rfl rfl <| O_nil (ac _ _ <| Wr fun af ad => Om rfl rfl <| Om rfl rfl ?_)
  obtain ⟨ab, aa, H⟩ := bnd H
  refine O_call rfl rfl (slices_IndexFunc_api_Span_api_Span_fdc.c hs h0 aa) (fun ag w hpost => ?_)
  obtain ⟨rfl, hs⟩ := hpost
  refine O_y rfl (Y_geq rfl rfl) <| Oa rfl rfl <| O_nil (ad _ _ <| W_ret ?_)
  obtain rfl := sinj H
  exact ret1 rfl rfl ⟨rfl, hs⟩

def book_touches.f (x0 : Spn) : Option Bool := (book_hangul.f).bind fun ae => ((slices_ContainsFunc_api_Span_api_Span_fdc.f ae x0.lo x0.hi).bind fun af => (some af))
theorem book_touches.c {w0 w : World} {ρ : Hp} {Γ : List Item} (hs : St w0 ρ (Γ) w) {c0 : List Value} {x0 : Spn} (h0 : rSpn.R ρ c0 x0) {r : Bool} (H : book_touches.f x0 = some r) : CallsR Tryz.prog 89 [.agg c0.toArray] w (fun v w' => v = .bool r ∧ St w0 ρ Γ w') := by
  rw [book_touches.f] at H
  refine enter Tryz.func89 Tryz.ntmps89 rfl (by kernel_rfl) rfl ?_
  have ag := h0
  obtain rfl := ag
  refine Wr fun am ah => O_boxN (cs := [.int .i32 x0.lo, .int .i32 x0.hi]) hs rfl rfl (fun an w hs => Oa rfl rfl <| O_nil (ah _ _ <| W_seq fun ao ai => W_region ?_))
  obtain ⟨ae, aa, H⟩ := bnd H
  refine O_call rfl rfl (book_hangul.c hs aa) (fun ap w hpost => ?_)
  obtain ⟨aq, ar, aj, rfl, ab, hs, ak⟩ := hpost
  refine O_y rfl (Y_func rfl) ?_
  obtain ⟨au, ac, hs, al⟩ := hs.rowEnd (j := 0) ak rfl
  obtain ⟨af, ad, H⟩ := bnd H
  refine O_call rfl rfl (slices_ContainsFunc_api_Span_api_Span_fdc.c hs al ad) (fun av w hpost => ?_)
  obtain ⟨rfl, hs⟩ := hpost
  refine Oa rfl rfl <| O_nil (ai _ _ <| W_ret ?_)
  obtain rfl := sinj H
  exact ret1 rfl rfl ⟨rfl, ((hs.sub (ssk ssr)).less (ab.trans ac))⟩

def book_Check_2.f (x0 : Spn) : Option Bool := (book_touches.f x0).bind fun ab => (some (!ab))
theorem book_Check_2.c {w0 w : World} {ρ : Hp} {Γ : List Item} (hs : St w0 ρ (Γ) w) {c0 : List Value} {x0 : Spn} (h0 : rSpn.R ρ c0 x0) {r : Bool} (H : book_Check_2.f x0 = some r) : CallsR Tryz.prog 88 [.agg c0.toArray] w (fun v w' => v = .bool r ∧ St w0 ρ Γ w') := by
  rw [book_Check_2.f] at H
  refine enter Tryz.func88 Tryz.ntmps88 rfl (by kernel_rfl) rfl ?_
  have ac := h0
  obtain rfl := ac
  refine Wr fun af ad => O_boxN (cs := [.int .i32 x0.lo, .int .i32 x0.hi]) hs rfl rfl (fun ag w hs => Oa rfl rfl <| O_nil (ad _ _ <| Wr fun ah ae => O_y rfl (Y_loadbN (i := 0) ag129 sz129 hs rfl rfl rfl rfl) ?_))
  obtain ⟨ab, aa, H⟩ := bnd H
  refine O_call rfl rfl (book_touches.c hs h0 aa) (fun ai w hpost => ?_)
  obtain ⟨rfl, hs⟩ := hpost
  refine O_y rfl (Y_not rfl) <| Oa rfl rfl <| O_nil (ae _ _ <| W_ret ?_)
  obtain rfl := sinj H
  exact ret1 rfl rfl ⟨rfl, (hs.sub (ssk ssr))⟩

def book_values_1_nlj.j1 (aa : Bool) : Option Bool := some aa
def book_values_1_nlj.f (x0 : Val) (y0_0 y1_0 : Int) : Option Bool := if y0_0 ≤ x0.n then (if x0.n ≤ y1_0 then ((book_ofValue.f x0).bind fun al => ((book_Check_2.f al).bind fun ae => (book_values_1_nlj.j1 ae))) else (book_values_1_nlj.j1 false)) else (book_values_1_nlj.j1 false)
theorem book_values_1_nlj.c {w0 w : World} {ρ : Hp} {Γ : List Item} {pb0 : Nat} {y0_0 : Int} {pb1 : Nat} {y1_0 : Int} {pb2 : Nat} (hs : St w0 ρ ((.box pb0 3 ([.int .i64 y0_0])) :: (.box pb1 3 ([.int .i64 y1_0])) :: (.box pb2 133 ([.func (.func 88) #[] #[]])) :: Γ) w) {c0 : List Value} {x0 : Val} (h0 : rVal.R ρ c0 x0) {r : Bool} (H : book_values_1_nlj.f x0 y0_0 y1_0 = some r) : CallsR Tryz.prog 147 [.agg c0.toArray, .pointer (some ⟨pb0, 0, none⟩), .pointer (some ⟨pb1, 0, none⟩), .pointer (some ⟨pb2, 0, none⟩)] w (fun v w' => v = .bool r ∧ St w0 ρ ((.box pb0 3 ([.int .i64 y0_0])) :: (.box pb1 3 ([.int .i64 y1_0])) :: (.box pb2 133 ([.func (.func 88) #[] #[]])) :: Γ) w') := by
  rw [book_values_1_nlj.f] at H
  refine enter Tryz.func147 Tryz.ntmps147 rfl (by kernel_rfl) rfl ?_
  have ao := h0
  obtain rfl := ao
  refine Wr fun az ap => O_boxN (cs := [.int .i32 x0.lo, .int .i32 x0.hi, .int .i64 x0.n]) hs rfl rfl (fun am w hs => Oa rfl rfl <| O_nil (ap _ _ <| W_seqj fun aq ar af => ?_))
  have ag : ∀ (aa : Bool) (ab : Hp) (w : World), book_values_1_nlj.j1 aa = some r → Le ρ ab → St w0 ab ((.box am 67 ([.int .i32 x0.lo, .int .i32 x0.hi, .int .i64 x0.n])) :: (.box pb0 3 ([.int .i64 y0_0])) :: (.box pb1 3 ([.int .i64 y1_0])) :: (.box pb2 133 ([.func (.func 88) #[] #[]])) :: Γ) w → aq [(5, .bool aa)] w := by
   intro aa ab w H ad hs
   rw [book_values_1_nlj.j1] at H
   refine ar _ _ <| W_ret ?_
   obtain rfl := sinj H
   exact ret1 rfl rfl ⟨rfl, ((hs.sub (ssk (ssc (ssc (ssc ssr))))).less ad)⟩
  refine W_drawS 17 [0, 1, 0, 6, 8, 16, 48, 16, 208, 272, 528, 1024, 1024, 5120, 11264, 17408, 65535] [65532, 65524, 65523, 65504, 63488, 65408, 65152, 65120, 64512, 63488, 0, 45056, 51200, 34816, 0, 0, 0] [0, 1, 0, 7, 15, 31, 63, 31, 255, 511, 1023, 2047, 2047, 6143, 16383, 32767, 65535] [] (fun w => St w0 ρ ((.box am 67 ([.int .i32 x0.lo, .int .i32 x0.hi, .int .i64 x0.n])) :: (.box pb0 3 ([.int .i64 y0_0])) :: (.box pb1 3 ([.int .i64 y1_0])) :: (.box pb2 133 ([.func (.func 88) #[] #[]])) :: Γ) w) mixed (by kernel_rfl) (fun sh => ?_)
  have hs := hs.drew
  refine Dp 0 sh rfl rfl (by kernel_rfl) (fun w => Y_field fo67_2 rfl) <| Dy 1 sh rfl rfl (by kernel_rfl) hs (fun w hs => Yb 0 ag3 hs rfl rfl rfl) <| Dy 2 sh rfl rfl (by kernel_rfl) hs (fun w hs => Yb 1 ag3 hs rfl rfl rfl) <| Dp 3 sh rfl rfl (by kernel_rfl) (fun w => Y_geq rfl rfl) <| Dm 4 sh rfl rfl (by kernel_rfl) rfl <| OD_if (dj := 10) rfl (fun ah => ?_) (fun ah => ?_)
  ·rw [if_pos ah] at H
   refine Dq 5 sh rfl rfl rfl rfl (by kernel_rfl) (fun w => Y_field fo67_2 rfl) <| Dz 6 sh rfl rfl rfl rfl (by kernel_rfl) hs (fun w hs => Yb 0 ag3 hs rfl rfl rfl) <| Dz 7 sh rfl rfl rfl rfl (by kernel_rfl) hs (fun w hs => Yb 2 ag3 hs rfl rfl rfl) <| Dq 8 sh rfl rfl rfl rfl (by kernel_rfl) (fun w => Y_leq rfl rfl) <| Dp 9 sh rfl rfl (by kernel_rfl) (fun w => Y_pick_t rfl rfl) <| Dm 10 sh rfl rfl (by kernel_rfl) rfl <| OD_if (dj := 16) rfl (fun ai => ?_) (fun ai => ?_)
   ·rw [if_pos ai] at H
    refine Dz 11 sh rfl rfl rfl rfl (by kernel_rfl) hs (fun w hs => Yb 3 ag133 hs rfl rfl rfl) <| Dz 12 sh rfl rfl rfl rfl (by kernel_rfl) hs (fun w hs => Y_loadbN (i := 0) ag67 sz67 hs rfl rfl rfl rfl) <| D1 13 sh rfl (by kernel_rfl) (fun a0 au => O_yes rfl rfl ?_)
    obtain ⟨al, aj, H⟩ := bnd H
    refine O_call rfl rfl (book_ofValue.c hs h0 aj) (fun a1 w hpost => ?_)
    obtain ⟨av, aw, rfl, ac, hs, an⟩ := hpost
    have ax := an
    obtain rfl := ax
    refine O_nil (au _ _ (fun _ _ => (hs.less ac)) <| D1 14 sh rfl (by kernel_rfl) (fun a2 ay => O_yes rfl rfl ?_))
    obtain ⟨ae, ak, H⟩ := bnd H
    refine O_callv rfl rfl rfl (book_Check_2.c hs an ak) (fun a3 w hpost => ?_)
    obtain ⟨rfl, hs⟩ := hpost
    refine O_nil (ay _ _ (fun _ _ => (hs.less ac)) <| Dp 15 sh rfl rfl (by kernel_rfl) (fun w => Y_pick_t rfl rfl) <| Dp 16 sh rfl rfl (by kernel_rfl) (fun w => Y_assign rfl) <| OD_doneS sh (by kernel_rfl) (af _ _ _ (S1 rfl) (ag ae av _ H ac hs)))
   ·rw [if_neg ai] at H
    refine Dn 11 sh rfl rfl rfl rfl rfl (by kernel_rfl) <| Dn 12 sh rfl rfl rfl rfl rfl (by kernel_rfl) <| Dn 13 sh rfl rfl rfl rfl rfl (by kernel_rfl) <| Dn 14 sh rfl rfl rfl rfl rfl (by kernel_rfl) <| Dp 15 sh rfl rfl (by kernel_rfl) (fun w => Y_pick_f rfl rfl) <| Dp 16 sh rfl rfl (by kernel_rfl) (fun w => Y_assign rfl) <| OD_doneS sh (by kernel_rfl) (af _ _ _ (S1 rfl) (ag false ρ _ H (Le.rfl' _) hs))
  ·rw [if_neg ah] at H
   refine Dn 5 sh rfl rfl rfl rfl rfl (by kernel_rfl) <| Dn 6 sh rfl rfl rfl rfl rfl (by kernel_rfl) <| Dn 7 sh rfl rfl rfl rfl rfl (by kernel_rfl) <| Dn 8 sh rfl rfl rfl rfl rfl (by kernel_rfl) <| Dp 9 sh rfl rfl (by kernel_rfl) (fun w => Y_pick_f rfl rfl) <| Dm 10 sh rfl rfl (by kernel_rfl) rfl <| Dn 11 sh rfl rfl rfl rfl rfl (by kernel_rfl) <| Dn 12 sh rfl rfl rfl rfl rfl (by kernel_rfl) <| Dn 13 sh rfl rfl rfl rfl rfl (by kernel_rfl) <| Dn 14 sh rfl rfl rfl rfl rfl (by kernel_rfl) <| Dp 15 sh rfl rfl (by kernel_rfl) (fun w => Y_pick_f rfl rfl) <| Dp 16 sh rfl rfl (by kernel_rfl) (fun w => Y_assign rfl) <| OD_doneS sh (by kernel_rfl) (af _ _ _ (S1 rfl) (ag false ρ _ H (Le.rfl' _) hs))

def book_rising_api_Value_ion.j1 (ak : Int → Int → Option Int) (aa : Int) (ae : Spn) (ab : Bool) : Option Int := if ab = true then (some aa) else (ak ae.hi (IntKind.i64.wrap (aa + 1)))
def book_rising_api_Value_ion.l1 : Nat → Int → Int → List Val → Int → Int → Option Int
  | 0, _, _, _, _, _ => none
  | ac + 1, y0_0, y1_0, x0, ad, aa => if aa < (x0.length : Int) then (if (0 : Int) ≤ aa ∧ aa < (x0.length : Int) then ((book_ofValue.f (rd x0 aa)).bind fun ae => (if ae.lo ≤ ad then (book_rising_api_Value_ion.j1 (book_rising_api_Value_ion.l1 ac y0_0 y1_0 x0) aa ae true) else (if ae.hi < ae.lo then (book_rising_api_Value_ion.j1 (book_rising_api_Value_ion.l1 ac y0_0 y1_0 x0) aa ae true) else (if 1114111 < ae.hi then (book_rising_api_Value_ion.j1 (book_rising_api_Value_ion.l1 ac y0_0 y1_0 x0) aa ae true) else ((book_values_1_nlj.f (rd x0 aa) y0_0 y1_0).bind fun al => (book_rising_api_Value_ion.j1 (book_rising_api_Value_ion.l1 ac y0_0 y1_0 x0) aa ae (!al))))))) else none) else (some (-1))
def book_rising_api_Value_ion.f (x0 : List Val) (y0_0 y1_0 : Int) : Option Int := if 65536 < (x0.length : Int) then (some 65536) else (book_rising_api_Value_ion.l1 K0 y0_0 y1_0 x0 (-1) 0)
theorem book_rising_api_Value_ion.c {w0 w : World} {ρ : Hp} {Γ : List Item} {pb0 : Nat} {y0_0 : Int} {pb1 : Nat} {y1_0 : Int} {pb2 : Nat} (hs : St w0 ρ ((.box pb0 3 ([.int .i64 y0_0])) :: (.box pb1 3 ([.int .i64 y1_0])) :: (.box pb2 133 ([.func (.func 88) #[] #[]])) :: Γ) w) {v0 : Value} {x0 : List Val} (h0 : SlR rVal ρ v0 x0) {r : Int} (H : book_rising_api_Value_ion.f x0 y0_0 y1_0 = some r) : CallsR Tryz.prog 145 [v0, .func (.func 146) #[] #[], .func (.func 147) #[] #[.pointer (some ⟨pb0, 0, none⟩), .pointer (some ⟨pb1, 0, none⟩), .pointer (some ⟨pb2, 0, none⟩)]] w (fun v w' => v = .int .i64 r ∧ St w0 ρ ((.box pb0 3 ([.int .i64 y0_0])) :: (.box pb1 3 ([.int .i64 y1_0])) :: (.box pb2 133 ([.func (.func 88) #[] #[]])) :: Γ) w') := by
  rw [book_rising_api_Value_ion.f] at H
  refine enter Tryz.func145 Tryz.ntmps145 rfl (by kernel_rfl) rfl <| Wr fun bt a6 => Oa rfl rfl <| O_nil (a6 _ _ <| W_seq fun bu a7 => Wr fun bv a8 => Om rfl rfl <| O_y rfl (Y_lenR un23 h0 rfl) <| O_y rfl (Y_gtr rfl rfl) <| O_nil (a8 _ _ <| W_if rfl (fun av => ?_) (fun av => ?_)))
  ·rw [if_pos av] at H
   refine Wr fun bw a9 => Oa rfl rfl <| O_nil (a9 _ _ <| W_ret ?_)
   obtain rfl := sinj H
   exact ret1 rfl rfl ⟨rfl, hs⟩
  ·rw [if_neg av] at H
   refine W_skip (a7 _ _ <| Wr fun bx ba => Oa rfl rfl <| O_nil (ba _ _ <| W_seq fun bz bb => Wr fun b0 bc => Om rfl rfl <| O_y rfl (Y_lenR un23 h0 rfl) <| Om rfl rfl <| O_nil (bc _ _ <| W_block fun b1 bd b2 => W_loop (σ := Nat × Int × Int × Hp) (fun (ac, ad, aa, ag) => [(1, .func (.func 146) #[] #[]), (2, .func (.func 147) #[] #[.pointer (some ⟨pb0, 0, none⟩), .pointer (some ⟨pb1, 0, none⟩), .pointer (some ⟨pb2, 0, none⟩)]), (7, .int .i32 ad), (14, v0), (15, .int .i64 (x0.length : Int)), (16, .int .i64 aa)]) (fun (ac, ad, aa, ag) w => book_rising_api_Value_ion.l1 ac y0_0 y1_0 x0 ad aa = some r ∧ Le ρ ag ∧ St w0 ag ((.box pb0 3 ([.int .i64 y0_0])) :: (.box pb1 3 ([.int .i64 y1_0])) :: (.box pb2 133 ([.func (.func 88) #[] #[]])) :: Γ) w) (fun s => s.1) (K0, (-1), 0, ρ) (by repeat first | exact Sub.nil | refine Sub.cons rfl ?_) (Ai H (Ai (Le.rfl' _) hs)) ?_)))
   rintro ⟨ac, ad, aa, ag⟩ w b3 ⟨H, af, hs⟩ am
   show W _ _ _ _ _ _ [(1, .func (.func 146) #[] #[]), (2, .func (.func 147) #[] #[.pointer (some ⟨pb0, 0, none⟩), .pointer (some ⟨pb1, 0, none⟩), .pointer (some ⟨pb2, 0, none⟩)]), (7, .int .i32 ad), (14, v0), (15, .int .i64 (x0.length : Int)), (16, .int .i64 aa)] w
   cases ac with
   | zero => rw [book_rising_api_Value_ion.l1] at H; cases H
   | succ ac =>
   rw [book_rising_api_Value_ion.l1] at H
   refine Wr fun b4 be => O_y rfl (Y_lss rfl rfl) <| O_nil (be _ _ <| W_seq fun b5 bf => W_if rfl (fun aw => ?_) (fun aw => ?_))
   ·rw [if_pos aw] at H
    refine W_skip (bf _ _ <| W_seq fun b6 bg => W_block fun b7 b8 b9 => Wr fun ca bh => Om rfl rfl ?_)
    obtain ⟨a4, H⟩ := gd H
    obtain ⟨cb, cc, bi, bj⟩ := (h0.mono af).ix el23 a4.1 a4.2
    obtain ⟨_, rfl, bk⟩ := bi
    refine O_y rfl (bj rfl rfl) <| O_y rfl (Y_loadN ag67 sz67 rfl rfl (fun j u hu => hs.see (bk j u hu))) <| O_alloc zr67 hs rfl (fun bl w hs => Oa rfl rfl <| O_storeN (i := 0) sz67 hs rfl rfl rfl rfl rfl (one_cons rfl (one_cons rfl (one_cons rfl one_nil))) (fun w hs => O_nil (bh _ _ <| Wr fun cd bm => Om rfl rfl <| O_y rfl (Y_loadbN (i := 0) ag67 sz67 hs rfl rfl rfl rfl) ?_)))
    obtain ⟨ae, ax, H⟩ := bnd H
    refine O_callv rfl rfl rfl (book_ofValue.c hs rfl ax) (fun ce w hpost => ?_)
    obtain ⟨a5, bn, rfl, aj, hs, bo⟩ := hpost
    have ay := bo
    obtain rfl := ay
    refine O_alloc zr129 hs rfl (fun ar w hs => O_storeN (i := 0) sz129 hs rfl rfl rfl rfl rfl (one_cons rfl (one_cons rfl one_nil)) (fun w hs => O_nil (bm _ _ <| W.weak [(1, _), (2, _), (7, _), (8, _), (9, _), (10, _), (14, _), (15, _), (16, _)] (by repeat first | exact Sub.nil | refine Sub.cons rfl ?_) ?_)))
    refine W_seq fun bp az => W_seqj fun a0 a1 ah => ?_
    have ai : ∀ (ab : Bool) (w : World), book_rising_api_Value_ion.j1 (book_rising_api_Value_ion.l1 ac y0_0 y1_0 x0) aa ae ab = some r → St w0 a5 ((.box ar 129 ([.int .i32 ae.lo, .int .i32 ae.hi])) :: (.box bl 67 ([.int .i32 ((rd x0 aa).lo), .int .i32 ((rd x0 aa).hi), .int .i64 ((rd x0 aa).n)])) :: (.box pb0 3 ([.int .i64 y0_0])) :: (.box pb1 3 ([.int .i64 y1_0])) :: (.box pb2 133 ([.func (.func 88) #[] #[]])) :: Γ) w → a0 [(1, .func (.func 146) #[] #[]), (2, .func (.func 147) #[] #[.pointer (some ⟨pb0, 0, none⟩), .pointer (some ⟨pb1, 0, none⟩), .pointer (some ⟨pb2, 0, none⟩)]), (8, .int .i64 aa), (10, .pointer (some ⟨ar, 0, none⟩)), (14, v0), (15, .int .i64 (x0.length : Int)), (16, .int .i64 aa), (45, .bool ab)] w := by
     intro ab w H hs
     rw [book_rising_api_Value_ion.j1] at H
     refine a1 _ _ <| W_cond rfl (fun an => ?_) (fun an => ?_)
     ·rw [if_pos an] at H
      refine Wr fun bq a2 => Om rfl rfl <| Oa rfl rfl <| O_nil (a2 _ _ <| W_ret ?_)
      obtain rfl := sinj H
      exact ret1 rfl rfl ⟨rfl, ((hs.sub (ssk (ssk (ssc (ssc (ssc ssr)))))).less (af.trans aj))⟩
     ·rw [if_neg (bft an)] at H
      refine W_skip (az _ _ <| W_region <| O_y rfl (Y_field fo129_1 rfl) <| O_y rfl (Yb 0 ag21 hs rfl rfl rfl) <| Oa rfl rfl <| O_nil (bg _ _ <| W_region <| O_y rfl (Y_add rfl rfl) <| Om rfl rfl <| O_nil (am (ac, ae.hi, (IntKind.i64.wrap (aa + 1)), a5) _ _ (by repeat first | exact Sub.nil | refine Sub.cons rfl ?_) (Ai H (Ai (af.trans aj) (hs.sub (ssk (ssk (ssc (ssc (ssc ssr)))))))) (Nat.lt_succ_self _))))
    refine W_region <| O_y rfl (Y_field fo129_0 rfl) <| O_y rfl (Yb 0 ag21 hs rfl rfl rfl) <| Om rfl rfl <| O_y rfl (Y_leq rfl rfl) <| Om rfl rfl <| O_if (dj := 28) rfl (fun ao => ?_) (fun ao => ?_)
    ·rw [if_pos ao] at H
     refine O_no rfl rfl rfl rfl <| O_no rfl rfl rfl rfl <| O_no rfl rfl rfl rfl <| O_no rfl rfl rfl rfl <| O_no rfl rfl rfl rfl <| O_y rfl (Y_pick_t rfl rfl) <| Om rfl rfl <| O_no rfl rfl rfl rfl <| O_no rfl rfl rfl rfl <| O_no rfl rfl rfl rfl <| O_y rfl (Y_pick_t rfl rfl) <| Om rfl rfl <| O_no rfl rfl rfl rfl <| O_no rfl rfl rfl rfl ?_
     refine O_no rfl rfl rfl rfl <| O_no rfl rfl rfl rfl <| O_y rfl (Y_pick_t rfl rfl) <| O_nil (ah _ _ _ (by repeat first | exact Sub.nil | refine Sub.cons rfl ?_) (ai true _ H hs))
    ·rw [if_neg ao] at H
     refine O_yes rfl rfl <| O_y rfl (Y_field fo129_1 rfl) <| O_yes rfl rfl <| O_y rfl (Yb 0 ag21 hs rfl rfl rfl) <| O_yes rfl rfl <| O_y rfl (Y_field fo129_0 rfl) <| O_yes rfl rfl <| O_y rfl (Yb 0 ag21 hs rfl rfl rfl) <| O_yes rfl rfl <| O_y rfl (Y_lss rfl rfl) <| O_y rfl (Y_pick_f rfl rfl) <| Om rfl rfl <| O_if (dj := 35) rfl (fun ap => ?_) (fun ap => ?_)
     ·rw [if_pos ap] at H
      refine O_no rfl rfl rfl rfl <| O_no rfl rfl rfl rfl <| O_no rfl rfl rfl rfl <| O_y rfl (Y_pick_t rfl rfl) <| Om rfl rfl <| O_no rfl rfl rfl rfl <| O_no rfl rfl rfl rfl <| O_no rfl rfl rfl rfl <| O_no rfl rfl rfl rfl <| O_y rfl (Y_pick_t rfl rfl) <| O_nil (ah _ _ _ (by repeat first | exact Sub.nil | refine Sub.cons rfl ?_) (ai true _ H hs))
     ·rw [if_neg ap] at H
      refine O_yes rfl rfl <| O_y rfl (Y_field fo129_1 rfl) <| O_yes rfl rfl <| O_y rfl (Yb 0 ag21 hs rfl rfl rfl) <| O_yes rfl rfl <| O_y rfl (Y_gtr rfl rfl) <| O_y rfl (Y_pick_f rfl rfl) <| Om rfl rfl <| O_if (dj := 40) rfl (fun aq => ?_) (fun aq => ?_)
      ·rw [if_pos aq] at H
       refine O_no rfl rfl rfl rfl <| O_no rfl rfl rfl rfl <| O_no rfl rfl rfl rfl <| O_no rfl rfl rfl rfl <| O_y rfl (Y_pick_t rfl rfl) <| O_nil (ah _ _ _ (by repeat first | exact Sub.nil | refine Sub.cons rfl ?_) (ai true _ H hs))
      ·rw [if_neg aq] at H
       refine O_yes rfl rfl <| Om rfl rfl <| O_yes rfl rfl <| O_y rfl (Y_loadbN (i := 1) ag67 sz67 hs rfl rfl rfl rfl) <| O_yes rfl rfl ?_
       have hs := hs.front 4 rfl
       have hs := hs.front 4 rfl
       have hs := hs.front 4 rfl
       obtain ⟨al, au, H⟩ := bnd H
       refine O_callv rfl rfl rfl (book_values_1_nlj.c hs rfl au) (fun br w hpost => ?_)
       obtain ⟨rfl, hs⟩ := hpost
       have hs := hs.sink 4
       have hs := hs.sink 4
       have hs := hs.sink 4
       refine O_yes rfl rfl <| O_y rfl (Y_not rfl) <| O_y rfl (Y_pick_f rfl rfl) <| O_nil (ah _ _ _ (by repeat first | exact Sub.nil | refine Sub.cons rfl ?_) (ai (!al) _ H hs))
   ·rw [if_neg aw] at H
    refine W_exit (bd _ _ (bb _ _ <| Wr fun bs a3 => Oa rfl rfl <| O_nil (a3 _ _ <| W_ret ?_)))
    obtain rfl := sinj H
    exact ret1 rfl rfl ⟨rfl, (hs.less af)⟩

def book_values_pcd.f (x0 : List Val) (x1 x2 : Int) : Option Int := (book_rising_api_Value_ion.f x0 x1 x2).bind fun ab => (some ab)
theorem book_values_pcd.c {w0 w : World} {ρ : Hp} {Γ : List Item} (hs : St w0 ρ (Γ) w) {v0 : Value} {x0 : List Val} (h0 : SlR rVal ρ v0 x0) {x1 x2 r : Int} (H : book_values_pcd.f x0 x1 x2 = some r) : CallsR Tryz.prog 95 [v0, .int .i64 x1, .int .i64 x2, .func (.func 88) #[] #[]] w (fun v w' => v = .int .i64 r ∧ St w0 ρ Γ w') := by
  rw [book_values_pcd.f] at H
  refine enter Tryz.func95 Tryz.ntmps95 rfl (by kernel_rfl) rfl <| Wr fun ae ac => O_box1 hs rfl rfl rfl (fun af w hs => O_box1 hs rfl rfl rfl (fun ag w hs => O_box1 hs rfl rfl rfl (fun ah w hs => Oa rfl rfl <| O_nil (ac _ _ <| Wr fun ai ad => Om rfl rfl <| O_y rfl (Y_func rfl) ?_))))
  have hs := hs.front 1 rfl
  have hs := hs.front 2 rfl
  obtain ⟨ab, aa, H⟩ := bnd H
  refine O_call rfl rfl (book_rising_api_Value_ion.c hs h0 aa) (fun aj w hpost => ?_)
  obtain ⟨rfl, hs⟩ := hpost
  have hs := hs.sink 2
  have hs := hs.sink 1
  refine Oa rfl rfl <| O_nil (ad _ _ <| W_ret ?_)
  obtain rfl := sinj H
  exact ret1 rfl rfl ⟨rfl, (hs.sub (ssk (ssk (ssk ssr))))⟩

def book_Check_7_hpj.f (y0_0 : List ByteArray) (y0_1 : List Val) (y0_2 : List Chs) (y0_3 : List Val) (y0_4 : List Chs) (y0_5 : List Spn) (y0_6 y0_7 : List Val) (y0_8 : List Spn) (y0_9 : List Val) (y0_10 : List Chs) : Option Int := (book_values_pcd.f y0_3 1 254).bind fun ab => (some ab)
theorem book_Check_7_hpj.c {w0 w : World} {ρ : Hp} {Γ : List Item} {pb0 : Nat} {w0_0 : Value} {y0_0 : List ByteArray} {w0_1 : Value} {y0_1 : List Val} {w0_2 : Value} {y0_2 : List Chs} {w0_3 : Value} {y0_3 : List Val} {w0_4 : Value} {y0_4 : List Chs} {w0_5 : Value} {y0_5 : List Spn} {w0_6 : Value} {y0_6 : List Val} {w0_7 : Value} {y0_7 : List Val} {w0_8 : Value} {y0_8 : List Spn} {w0_9 : Value} {y0_9 : List Val} {w0_10 : Value} {y0_10 : List Chs} {pb1 : Nat} (hs : St w0 ρ ((.box pb0 27 ([w0_0, w0_1, w0_2, w0_3, w0_4, w0_5, w0_6, w0_7, w0_8, w0_9, w0_10])) :: (.box pb1 133 ([.func (.func 88) #[] #[]])) :: Γ) w) (g0_0 : SlR Rep.str ρ w0_0 y0_0) (g0_1 : SlR rVal ρ w0_1 y0_1) (g0_2 : SlR rChs ρ w0_2 y0_2) (g0_3 : SlR rVal ρ w0_3 y0_3) (g0_4 : SlR rChs ρ w0_4 y0_4) (g0_5 : SlR rSpn ρ w0_5 y0_5) (g0_6 : SlR rVal ρ w0_6 y0_6) (g0_7 : SlR rVal ρ w0_7 y0_7) (g0_8 : SlR rSpn ρ w0_8 y0_8) (g0_9 : SlR rVal ρ w0_9 y0_9) (g0_10 : SlR rChs ρ w0_10 y0_10) {r : Int} (H : book_Check_7_hpj.f y0_0 y0_1 y0_2 y0_3 y0_4 y0_5 y0_6 y0_7 y0_8 y0_9 y0_10 = some r) : CallsR Tryz.prog 98 [.pointer (some ⟨pb0, 0, none⟩), .pointer (some ⟨pb1, 0, none⟩)] w (fun v w' => v = .int .i64 r ∧ St w0 ρ ((.box pb0 27 ([w0_0, w0_1, w0_2, w0_3, w0_4, w0_5, w0_6, w0_7, w0_8, w0_9, w0_10])) :: (.box pb1 133 ([.func (.func 88) #[] #[]])) :: Γ) w') := by
  rw [book_Check_7_hpj.f] at H
  refine enter Tryz.func98 Tryz.ntmps98 rfl (by kernel_rfl) rfl <| Wr fun ae ac => Oa rfl rfl <| O_nil (ac _ _ <| Wr fun af ad => O_y rfl (Y_field fo27_3 rfl) <| O_y rfl (Yb 0 ag23 hs rfl rfl rfl) <| O_y rfl (Yb 1 ag133 hs rfl rfl rfl) ?_)
  obtain ⟨ab, aa, H⟩ := bnd H
  refine O_call rfl rfl (book_values_pcd.c hs g0_3 aa) (fun ag w hpost => ?_)
  obtain ⟨rfl, hs⟩ := hpost
  refine Oa rfl rfl <| O_nil (ad _ _ <| W_ret ?_)
  obtain rfl := sinj H
  exact ret1 rfl rfl ⟨rfl, hs⟩

end Go.Proofs.YthoicbafdanmkaaGreatDoor
