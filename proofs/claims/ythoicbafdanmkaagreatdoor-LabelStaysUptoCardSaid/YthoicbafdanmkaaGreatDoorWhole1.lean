/- Texts of this repo, merged for the claim: EngQ, EngS, Data, Facts, TA0, TA1. -/
import Derived.Test.YthoicbafdanmkaaGreatDoorWhole0
import Derived.Laws.IdiomCopy
import Derived.Lib.AppendZerosOnto
import Derived.Lib.Overlaps
import Derived.Test.YthoicbafdanmkaaGreatDoorProg
import Derived.KernelRfl
/- Own rows are written in stretches: copy, room behind the end, an append of a make. Own work of this repo. -/
namespace Go.Proofs.YthoicbafdanmkaaGreatDoor
open Go.RowKit
section
variable {P : Program} {n : Nat} {N : Nxt} {L : Loc} {w w0 : World} {ops : Array Oper} {rest : List Oper} {d t : Nat} {pos : String} {aft : Array Edge} {ρ : Hp} {Γ : List Q5} {x y : Operand}
def wl : List Value → Nat → List Value → List Value
 | [], _, cs => cs
 | v :: r, o, cs => wl r (o + 1) (cs.set o v)
theorem Zno : ∀ (vs : List Value) (o : Nat) (cs : List Value), (wl vs o cs).length = cs.length
 | [], _, _ => rfl
 | v :: r, o, cs => by rw [wl, Zno r]; simp
theorem Zmh : ∀ (vs : List Value) (o : Nat) (cs : List Value), o + vs.length ≤ cs.length → wl vs o cs = cs.take o ++ (vs ++ cs.drop (o + vs.length))
 | [], o, cs, _ => by simp [wl]
 | v :: r, o, cs, h => by
  simp only [List.length_cons] at h
  rw [wl, Zmh r (o + 1) (cs.set o v) (by simp; omega), List.drop_set_of_lt (by omega), List.take_add_one, List.getElem?_set_self (by omega)]
  rw [List.take_set_of_le (by omega)]
  simp [Nat.add_assoc, Nat.add_comm 1]
theorem St.rowWrite {e m g : Nat} {v : Value} (hg : v.ownBlock = some g) {j : Nat} : ∀ (vs : List Value) (o : Nat) (cs : List Value) (Γ : List Q5) (w : World), St w0 ρ Γ w → Γ[j]? = some (.row v e 1 m cs) → o + vs.length ≤ cs.length → St w0 ρ (Γ.set j (.row v e 1 m (wl vs o cs))) (w.setCells g o vs)
 | [], o, cs, Γ, w, hs, hi, _ => by
  rw [wl, World.setCells]
  have : Γ.set j (.row v e 1 m cs) = Γ := by
   apply List.ext_getElem? 
   intro k
   by_cases hk : j = k
   ·subst hk
    rw [List.getElem?_set_self (List.getElem?_eq_some_iff.1 hi).1, hi]
   ·rw [List.getElem?_set_ne hk]
  rw [this]; exact hs
 | u :: r, o, cs, Γ, w, hs, hi, h => by
  simp only [List.length_cons] at h
  have hlt : j < Γ.length := (List.getElem?_eq_some_iff.1 hi).1
  have h1 := hs.rowSet (k := o) (u := u) hi hg (by omega)
  have h2 := St.rowWrite hg (j := j) r (o + 1) (cs.set o u) _ _ h1 (by rw [List.getElem?_set_self hlt]) (by simp; omega)
  rw [List.set_set] at h2
  exact h2
theorem St.rowRoom {e m cap g j : Nat} {cs : List Value} (hs : St w0 ρ Γ w) (hi : Γ[j]? = some (.row (.slice (some ⟨g, 0, none⟩) m cap) e 1 m cs)) (hc : m + 1 ≤ cap) : ∃ z, St w0 ρ (Γ.set j (.row (.slice (some ⟨g, 0, none⟩) (m + 1) cap) e 1 (m + 1) (cs ++ [z]))) w := by
 have hok : w.ownsRow 0 e 1 (.slice (some ⟨g, 0, none⟩) m cap) m cs := hs.ok _ (List.mem_of_getElem? hi)
 rcases hok.2 with ⟨h, _⟩ | ⟨g', cap', cur, h, h0, hgg, hnc, hcm, hcs, htk⟩
 ·cases h
 ·cases h
  have hl := hok.1
  have hsz : m < cur.toList.length := by simp; omega
  refine ⟨cur.toList[m], hs.turn hi (Below.refl _ _) (fun _ _ _ => rfl) ⟨by simp [hl], .inr ⟨g, cap, cur, rfl, h0, hgg, hc, hcm, hcs, ?_⟩⟩ (.inl rfl)⟩
  rw [Nat.mul_one, List.take_add_one, List.getElem?_eq_getElem hsz, ← htk]
  simp
theorem Zvu {e m g o n1 c1 n2 c2 : Nat} {a : Addr} {v : Value} {cs vs : List Value} {j : Nat} {dT sT ty : TypeId} (hs : St w0 ρ Γ w) (hi : Γ[j]? = some (.row v e 1 m cs)) (hg : v.ownBlock = some g) {bytes : Nat} (he : Vn P dT e 1 bytes)
  (hn : vs.length = Nat.min n2 n1) (hfit : o + vs.length ≤ cs.length) (hsrc : ∀ j v, vs[j]? = some v → w.cell? (a.add j) = some v) (h1 : ∀ v ∈ vs, v.oneCell' = true) :
  (Builtin.copy_ #[dT, sT] ty #[.slice (some ⟨g, o, none⟩) n1 c1, .slice (some a) n2 c2]).run P w = .ok (goInt vs.length) (w.setCells g o vs) := by
 obtain ⟨q, z, hq, _, hsz, _, _⟩ := he.info
 have hok : w.ownsRow 0 e 1 v m cs := hs.ok _ (List.mem_of_getElem? hi)
 refine run_copy_cells w dT sT ty e g o n1 c1 a n2 c2 vs he.under (by rw [hq]; simp [hsz]) hn hsrc (fun k hk => ?_) (fun k hk => ?_) h1
 ·rw [hs.rowCell hi hg (List.getElem?_eq_getElem (show o + k < cs.length by omega))]; rfl
 ·rcases hok.2 with ⟨rfl, hm⟩ | ⟨g', cap, cur, rfl, h0, hgg, _⟩
  ·cases hg
  ·simp only [Value.ownBlock, Option.some.injEq] at hg
   subst hg
   simp [World.frozen?, hgg]
theorem Zj0 {sl e sz bytes : Nat} {a : Addr} {m c : Nat} {hi : Operand} {h : Int} {k : IntKind} (he : Vn P sl e sz bytes) (hx : ev L x = some (.slice (some a) m c)) (hh : ev L hi = some (.int k h))
  (h0 : 0 ≤ h) (h2 : h ≤ (c : Int)) : Y P n L w (.slice sl x none (some hi) none) t (.slice (some a) h.toNat c) := by
 obtain ⟨j, z, hj, _, hsz, _, _⟩ := he.info
 intro q hq _ _ _ _
 have hsize : (sizeOf e).run P w = .ok sz w := by simp [sizeOf, typeInfo, hj, hsz]
 have hb : (Instr.sliceBounds true m c none (some (q.eval hi)) none).run P w = .ok (0, h.toNat, c) w := by
  have e1 := Zat (P := P) (w := w) (c := .sliceAcap) (hq.ev hh) h0 h2
  simp [Instr.sliceBounds, e1]
 have hz : a.add 0 = a := by obtain ⟨b, o, s⟩ := a; cases s <;> rfl
 simp [execOp, Instr.sliceAt, Instr.slice, hq.ev hx, run_underlying he.under, hb, hsize, hz]
theorem Zwz {sl e : Nat} {a : Option Addr} {m c : Nat} (hu : P.underlying sl = some (.slice e)) (hx : ev L x = some (.slice a m c)) : Y P n L w (.call { callee := .builtin .cap, args := #[x], argTypes := #[sl] }) t (.int .i64 (c : Int)) := by
 intro q hq _ _ _ _
 simp [execOp, resolve, invoke, builtin, hq.ev hx, Builtin.cap_, run_underlying hu, goInt]
theorem Zwb {f : FuncId} {xs : List Operand} {ts : Array TypeId} {vs : List Value} {r : Value} (hx : evs L xs = some vs) (hc : (callFunc f vs.toArray).run P w = .ok (.value r) w) : Y P n L w (.call { callee := .value (.func f), args := xs.toArray, argTypes := ts }) t r := by
 intro a ha _ _ _ _
 have := ha.evs hx
 simp [execOp, resolve, Act.eval, Deferred.ofValue, invoke, this, go_sem]
 exact hc
theorem Zak {sl e bytes : Nat} {g o m c l : Nat} {z : Operand} {k : IntKind} (he : Vn P sl e 1 bytes) (hx : ev L x = some (.slice (some ⟨g, o, none⟩) m c)) (hl : ev L z = some (.int k (l : Int))) (h1 : l ≤ m) (hc : l < c) (hmc : m ≤ c) :
  Y P n L w (.slice sl x (some z) none none) t (.slice (some ⟨g, o + l, none⟩) (m - l) (c - l)) := by
 have := Zfj (n := n) (w := w) (t := t) (hi := none) (h := (m : Int)) he hx (.inr ⟨z, k, rfl, hl⟩) (.inl ⟨rfl, rfl⟩) (by omega) (by omega) (by omega) hmc
 have e1 : ((l : Int)).toNat = l := by omega
 rw [e1, if_neg (by omega)] at this
 simpa [Addr.add_lit] using this
theorem Zd4 {sl e bytes m g o n1 c1 n2 c2 j : Nat} {a : Addr} {v : Value} {cs vs : List Value} (he : Vn P sl e 1 bytes) (hs : St w0 ρ Γ w) (hi : Γ[j]? = some (.row v e 1 m cs)) (hg : v.ownBlock = some g) (hd : Nat.blt d n = true) (hx : ev L x = some (.slice (some ⟨g, o, none⟩) n1 c1)) (hy : ev L y = some (.slice (some a) n2 c2))
  (hn : vs.length = Nat.min n2 n1) (hfit : o + vs.length ≤ cs.length) (hsrc : ∀ j v, vs[j]? = some v → w.cell? (a.add j) = some v) (h1 : ∀ v ∈ vs, v.oneCell' = true)
  (k : ∀ w', St w0 ρ (Γ.set j (.row v e 1 m (wl vs o cs))) w' → O P n ops rest N ((d, goInt vs.length) :: L) w') :
  O P n ops (⟨some d, .call { callee := .builtin .copy, args := #[x, y], argTypes := #[sl, sl] }, t, pos, aft, none⟩ :: rest) N L w := by
 refine Zl3 hd fun q hq => ⟨_, _, ?_, k _ (hs.rowWrite hg vs o cs _ _ hi hfit)⟩
 have hr := Zvu (P := P) (c1 := c1) (c2 := c2) (sT := sl) (ty := t) hs hi hg he hn hfit hsrc h1
 simp only [execOp, resolve, invoke, builtin, Sem.run_bind, Sem.run_pure, Result.andThen_ok, List.map_toArray, List.map_cons, List.map_nil, hq.ev hx, hq.ev hy, hr]
theorem Zlv {sl ti e bytes m c q : Nat} {g : Addr} {kn kq : IntKind} {olds : List Value} (he : Vn P sl e 1 bytes) (hti : P.underlying ti = some (.int kn)) (hs : St w0 ρ Γ w) (hd : Nat.blt d n = true) (hx : ev L x = some (.slice (some g) m c)) (hy : ev L y = some (.int kq (q : Int)))
  (hl : olds.length = m) (hc : ∀ j v, olds[j]? = some v → w.cell? (g.add j) = some v) (h0 : 0 < q) (hg : c < m + q) (hb : m + q ≤ most)
  (k : ∀ b zs c' w', zs.length = q → m + q ≤ c' → St w0 ρ (.row (.slice (some ⟨b, 0, none⟩) (m + q) c') e 1 (m + q) (olds ++ zs) :: Γ) w' → O P n ops rest N ((d, .slice (some ⟨b, 0, none⟩) (m + q) c') :: L) w') :
  O P n ops (⟨some d, .call { callee := .builtin .append, args := #[x, y], argTypes := #[sl, ti] }, t, pos, aft, none⟩ :: rest) N L w := by
 have hbig : most = 2147483648 := rfl
 obtain ⟨i, z, hi, hz, hsz, hby, hzs⟩ := he.info
 have hsm := he.small
 have hold : (Builtin.firstCells i.size m (.slice (some g) m c)).run P w.drew = .ok olds.toArray w.drew := run_firstCells_some (w := w.drew) i.size m g m c olds (by rw [hsz, hl, Nat.mul_one]) (fun j v hj => hc j v hj)
 have hmb : (m + q) * bytes ≤ 140737488355328 := Nat.le_trans (Nat.mul_le_mul (show m + q ≤ 2147483648 by omega) hsm) (by decide)
 have hr := Lib.run_append_grow_zeros (P := P) w sl ti t e i z kq kn he.under hti hi hz (some g) m c olds hold q h0 (by omega) hg (by omega) (by rw [hby]; exact Nat.le_trans (Nat.mul_le_mul (show q ≤ 2147483648 by omega) hsm) (by decide)) (by rw [hby]; exact growslice_fits hg hmb)
 have hcap := grownCap_ge w (m + q) c e
 refine Zl3 hd fun p hp => ⟨_, _, ?_, k w.heap.size (Builtin.zeroCells z.cells q).toList (grownCap w (m + q) c e) (w.drew.alloc (.cells (olds.toArray ++ Builtin.zeroCells z.cells q ++ Builtin.zeroCells z.cells (grownCap w (m + q) c e - (m + q))) e)) ?_ hcap ?_⟩
 ·simp only [execOp, resolve, invoke, builtin, Sem.run_bind, Sem.run_pure, Result.andThen_ok, List.map_toArray, List.map_cons, List.map_nil, hp.ev hx, hp.ev hy, hr]
 ·have : ∀ k, (Builtin.zeroCells z.cells k).size = k := fun k => by simp [Builtin.zeroCells, hzs]
  simp [this]
 ·have hzc : ∀ k, (Builtin.zeroCells z.cells k).size = k := fun k => by simp [Builtin.zeroCells, hzs]
  have hs' : St w0 ρ Γ w.drew := hs.drew
  refine hs'.push _ (.row (.slice (some ⟨w.heap.size, 0, none⟩) (m + q) (grownCap w (m + q) c e)) e 1 (m + q) (olds ++ (Builtin.zeroCells z.cells q).toList)) rfl ⟨by simp [hzc, hl], .inr ⟨w.heap.size, grownCap w (m + q) c e, _, rfl, Nat.zero_le _, heap_alloc_new w.drew _, hcap, grownCap_le_maxLen w _ _ e (by unfold maxLen; omega), ?_, ?_⟩⟩
  ·simp [hzc, hl]
   omega
  ·rw [Array.toList_append, List.take_append_of_le_length (by simp [hzc, hl])]
   rw [List.take_of_length_le (by simp [hzc, hl])]
   simp
theorem Zm.ints {k : IntKind} {cs : List Value} {xs : List Int} (h : Zm (Rep.int k) ρ cs xs) : cs = xs.map (Value.int k) := by
 apply List.ext_getElem?
 intro i
 rw [List.getElem?_map]
 cases hx : xs[i]? with
 | none => rw [Option.map_none]; have := h.1; have := List.getElem?_eq_none_iff.1 hx; rw [List.getElem?_eq_none_iff]; simp [Rep.int] at *; omega
 | some x =>
  obtain ⟨c, h1, h2⟩ := h.2 i x hx
  have h1' : c = [.int k x] := h1
  have := h2 0 (.int k x) (by rw [h1']; rfl)
  simpa [Rep.int] using this
theorem Zm.ofInts {k : IntKind} (xs : List Int) : Zm (Rep.int k) ρ (xs.map (Value.int k)) xs := by
 refine ⟨by simp [Rep.int], fun i z hz => ⟨[.int k z], rfl, fun j u hu => ?_⟩⟩
 cases j with
 | zero => simp at hu; subst hu; simpa [Rep.int] using hz
 | succ j => simp at hu
def Zc5 (xs : List Int) (i z : Int) : List Int := xs.take i.toNat ++ z :: xs.drop i.toNat
end
end Go.Proofs.YthoicbafdanmkaaGreatDoor
/- The steps that come most often, each with one fact that is looked up. Own work of this repo. -/
namespace Go.Proofs.YthoicbafdanmkaaGreatDoor
open Go.RowKit
section
variable {P : Program} {n : Nat} {N : Nxt} {X : Nat → Nxt} {R : Nxt} {L : Loc} {w w0 : World} {ops : Array Oper} {rest : List Oper} {d t : Nat} {pos : String} {aft : Array Edge} {ρ : Hp} {Γ : List Q5} {x y : Operand}
def bel {α : Type} (n d : Nat) (o : Option α) : Option α := bif Nat.blt d n then o else none
theorem Vw {α : Type} {n d : Nat} {o : Option α} {a : α} (h : bel n d o = some a) : Nat.blt d n = true ∧ o = some a := by
 unfold bel at h
 cases hb : Nat.blt d n with
 | true => rw [hb] at h; exact ⟨rfl, h⟩
 | false => rw [hb] at h; cases h
def tw2 {α β : Type} : Option α → Option β → Option (α × β)
 | some a, some b => some (a, b)
 | _, _ => none
theorem Zby {α β : Type} {o : Option α} {p : Option β} {a : α} {b : β} (h : tw2 o p = some (a, b)) : o = some a ∧ p = some b := by
 cases o <;> cases p <;> simp_all [tw2]
def ev2 (n d : Nat) (L : Loc) (x y : Operand) : Option (Value × Value) := bel n d (tw2 (ev L x) (ev L y))
theorem K9 {u v : Value} (h : ev2 n d L x y = some (u, v)) : Nat.blt d n = true ∧ ev L x = some u ∧ ev L y = some v := by
 obtain ⟨h1, h2⟩ := Vw h
 exact ⟨h1, Zby h2⟩
theorem T2 {a b : Nat} {u v : Value} (h : tw2 (lk a L) (lk b L) = some (u, v)) : Sub [(a, u), (b, v)] L := S2 (Zby h).1 (Zby h).2
theorem T3 {a b c : Nat} {u v z : Value} (h : tw2 (lk a L) (tw2 (lk b L) (lk c L)) = some (u, v, z)) : Sub [(a, u), (b, v), (c, z)] L := Sub.cons (Zby h).1 (T2 (Zby h).2)
theorem T4 {a b c e : Nat} {u v z q : Value} (h : tw2 (lk a L) (tw2 (lk b L) (tw2 (lk c L) (lk e L))) = some (u, v, z, q)) : Sub [(a, u), (b, v), (c, z), (e, q)] L := Sub.cons (Zby h).1 (T3 (Zby h).2)
theorem sbn {A B : Loc} (h : Sub A B := by repeat first | exact Sub.nil | refine Sub.cons rfl ?_) : Sub A B := h
theorem Mv {v : Value} (h : bel n d (ev L x) = some v) (k : O P n ops rest N ((d, v) :: L) w) : O P n ops (⟨some d, .move x, t, pos, aft, none⟩ :: rest) N L w := O_y (Vw h).1 (Qk (Vw h).2) k
theorem As {v : Value} (h : bel n d (ev L x) = some v) (k : O P n ops rest N ((d, v) :: L) w) : O P n ops (⟨some d, .assign x, t, pos, aft, none⟩ :: rest) N L w := O_y (Vw h).1 (Xv (Vw h).2) k
def gdv (ops : Array Oper) (L : Loc) (j : Nat) : Option Value := ((ops[j]?).bind (·.dst)).bind (lk · L)
def gB : Option Value → Bool → Bool
 | some (.bool c), b => c == b
 | _, _ => false
theorem Zhi {o : Option Value} {b : Bool} (h : gB o b = true) : o = some (.bool b) := by
 unfold gB at h
 split at h
 ·rw [eq_of_beq h]
 ·cases h
theorem Zdn {j : Nat} {v : Value} (h : gdv ops L j = some v) : ∃ dj, (ops[j]?).bind (·.dst) = some dj ∧ lk dj L = some v := Option.bind_eq_some_iff.1 h
theorem On {j : Nat} {b : Bool} {op : Op} (h : (Nat.blt d n && gB (gdv ops L j) (!b)) = true) (k : O P n ops rest N ((d, undef) :: L) w) : O P n ops (⟨some d, op, t, pos, aft, some (j, b)⟩ :: rest) N L w := by
 rw [Bool.and_eq_true] at h
 obtain ⟨dj, h1, h2⟩ := Zdn (Zhi h.2)
 exact Zxo h1 h2 rfl h.1 k
theorem Oe {j : Nat} {b : Bool} {dst : Option Nat} {op : Op} (h : gB (gdv ops L j) b = true) (k : O P n ops (⟨dst, op, t, pos, aft, none⟩ :: rest) N L w) : O P n ops (⟨dst, op, t, pos, aft, some (j, b)⟩ :: rest) N L w := by
 obtain ⟨dj, h1, h2⟩ := Zdn (Zhi h)
 exact Zwx h1 h2 k
theorem Oc {f : FuncId} {xs : List Operand} {ts : Array TypeId} {vs : List Value} {S : Value → World → Prop} (hx : bel n d (evs L xs) = some vs) (hc : Zn P f vs w S) (k : ∀ v w', S v w' → O P n ops rest N ((d, v) :: L) w') :
  O P n ops (⟨some d, .call { callee := .value (.func f), args := xs.toArray, argTypes := ts }, t, pos, aft, none⟩ :: rest) N L w := Zvp (Vw hx).1 (Vw hx).2 hc k
theorem Ox {A : Nxt} (f : ∀ L w, A L w → N L w) (k : A L w) : O P n ops [] N L w := Zd (f _ _ k)
theorem Wx {A : Nxt} (f : ∀ L w, A L w → N L w) (k : A L w) : W P n .skip N X R L w := Ua (f _ _ k)
theorem Et {f : FuncId} {fn : Func} {c : Code} {args : List Value} {S : Value → World → Prop} (hf : P.funcs[f]? = some fn) (hn : fn.ntmps = n) (hb : fn.body = some c) (h : W P n c (Ret P n fn S) (fun _ _ _ => False) (Ret P n fn S) (Zc1 0 args) w)
  (hname : (fn.name == "runtime.NumGoroutine") = false := by kernel_rfl) (hs : Nat.ble args.length n = true := by exact rfl) : Zn P f args w S := enter hf hn hb hname hs h
def rtv (fn : Func) (L : Loc) : Option Value := match fn.results.toList with
 | [.tmp t] => lk t L
 | _ => none
theorem r1 {fn : Func} {S : Value → World → Prop} {v : Value} (hr : rtv fn L = some v) (h : S v w) : Ret P n fn S L w := by
 unfold rtv at hr
 split at hr
 ·rename_i t e
  exact Ztn (Array.toList_inj.1 e) hr h
 ·cases hr
section
variable {xt yt : TypeId} {k : IntKind} {p q : Int}
theorem Oad (h : ev2 n d L x y = some (.int k p, .int k q)) (c : O P n ops rest N ((d, .int k (k.wrap (p + q))) :: L) w) : O P n ops (⟨some d, .binOp .add xt x y yt, t, pos, aft, none⟩ :: rest) N L w := O_y (K9 h).1 (Hy (K9 h).2.1 (K9 h).2.2) c
theorem Osu (h : ev2 n d L x y = some (.int k p, .int k q)) (c : O P n ops rest N ((d, .int k (k.wrap (p - q))) :: L) w) : O P n ops (⟨some d, .binOp .sub xt x y yt, t, pos, aft, none⟩ :: rest) N L w := O_y (K9 h).1 (Zc2 (K9 h).2.1 (K9 h).2.2) c
theorem Oml (h : ev2 n d L x y = some (.int k p, .int k q)) (c : O P n ops rest N ((d, .int k (k.wrap (p * q))) :: L) w) : O P n ops (⟨some d, .binOp .mul xt x y yt, t, pos, aft, none⟩ :: rest) N L w := O_y (K9 h).1 (Zw3 (K9 h).2.1 (K9 h).2.2) c
theorem Oeq (h : ev2 n d L x y = some (.int k p, .int k q)) (c : O P n ops rest N ((d, .bool (decide (p = q))) :: L) w) : O P n ops (⟨some d, .binOp .eql xt x y yt, t, pos, aft, none⟩ :: rest) N L w := O_y (K9 h).1 (Zbn (K9 h).2.1 (K9 h).2.2) c
theorem One (h : ev2 n d L x y = some (.int k p, .int k q)) (c : O P n ops rest N ((d, .bool (decide (p ≠ q))) :: L) w) : O P n ops (⟨some d, .binOp .neq xt x y yt, t, pos, aft, none⟩ :: rest) N L w := O_y (K9 h).1 (Zo1 (K9 h).2.1 (K9 h).2.2) c
theorem Ols (h : ev2 n d L x y = some (.int k p, .int k q)) (c : O P n ops rest N ((d, .bool (decide (p < q))) :: L) w) : O P n ops (⟨some d, .binOp .lss xt x y yt, t, pos, aft, none⟩ :: rest) N L w := O_y (K9 h).1 (Zax (K9 h).2.1 (K9 h).2.2) c
theorem Ole (h : ev2 n d L x y = some (.int k p, .int k q)) (c : O P n ops rest N ((d, .bool (decide (p ≤ q))) :: L) w) : O P n ops (⟨some d, .binOp .leq xt x y yt, t, pos, aft, none⟩ :: rest) N L w := O_y (K9 h).1 (Zmd (K9 h).2.1 (K9 h).2.2) c
theorem Ogt (h : ev2 n d L x y = some (.int k p, .int k q)) (c : O P n ops rest N ((d, .bool (decide (q < p))) :: L) w) : O P n ops (⟨some d, .binOp .gtr xt x y yt, t, pos, aft, none⟩ :: rest) N L w := O_y (K9 h).1 (Zjk (K9 h).2.1 (K9 h).2.2) c
theorem Oge (h : ev2 n d L x y = some (.int k p, .int k q)) (c : O P n ops rest N ((d, .bool (decide (q ≤ p))) :: L) w) : O P n ops (⟨some d, .binOp .geq xt x y yt, t, pos, aft, none⟩ :: rest) N L w := O_y (K9 h).1 (Zoj (K9 h).2.1 (K9 h).2.2) c
end
def pkv (n d : Nat) (L : Loc) (c x y : Operand) : Option Value := bel n d (match ev L c with
 | some (.bool true) => ev L x
 | some (.bool false) => ev L y
 | _ => none)
theorem Opk {c : Operand} {v : Value} (h : pkv n d L c x y = some v) (k : O P n ops rest N ((d, v) :: L) w) : O P n ops (⟨some d, .pick c x y, t, pos, aft, none⟩ :: rest) N L w := by
 obtain ⟨h1, h2⟩ := Vw h
 split at h2
 ·rename_i e
  exact O_y h1 (J7 e h2) k
 ·rename_i e
  exact O_y h1 (Qr e h2) k
 ·cases h2
theorem Oxt {tu : Operand} {i : Nat} {v : Value} (h : bel n d ((ev L tu).bind fun | .tuple vs => vs[i]? | _ => none) = some v) (k : O P n ops rest N ((d, v) :: L) w) : O P n ops (⟨some d, .extract tu i, t, pos, aft, none⟩ :: rest) N L w := by
 obtain ⟨h1, h2⟩ := Vw h
 obtain ⟨u, h3, h4⟩ := Option.bind_eq_some_iff.1 h2
 split at h4
 ·exact O_y h1 (Zpp h3 h4) k
 ·cases h4
theorem Ont {xt : TypeId} {b : Bool} (h : bel n d (ev L x) = some (.bool b)) (k : O P n ops rest N ((d, .bool (!b)) :: L) w) : O P n ops (⟨some d, .unOp .not xt x, t, pos, aft, none⟩ :: rest) N L w := O_y (Vw h).1 (Zr4 (Vw h).2) k
theorem Onp {a : Addr} (h : bel n d (ev L x) = some (.pointer (some a))) (k : O P n ops rest N ((d, .pointer (some a)) :: L) w) : O P n ops (⟨some d, .nilCheck x, t, pos, aft, none⟩ :: rest) N L w := O_y (Vw h).1 (K1 (Vw h).2) k
theorem Ofd {s i off b o : Nat} (hf : Yl P s i = some off) (h : bel n d (ev L x) = some (.pointer (some ⟨b, o, none⟩))) (k : O P n ops rest N ((d, .pointer (some ⟨b, o + off, none⟩)) :: L) w) : O P n ops (⟨some d, .fieldAddr s x i, t, pos, aft, none⟩ :: rest) N L w := O_y (Vw h).1 (Zp hf (Vw h).2) k
def bxl (n d : Nat) (L : Loc) (Γ : List Q5) (i : Nat) (x : Operand) : Option (Nat × Nat × Value) := match bel n d (ev L x), Γ[i]? with
 | some (.pointer (some ⟨b, o, none⟩)), some (.box b' _ cs) => (cs[o]?).map fun v => (b, b', v)
 | _, _ => none
theorem Obx (i : Nat) {ty b : Nat} {v : Value} (ha : Xe P ty = some false) (hs : St w0 ρ Γ w) (h : bxl n d L Γ i x = some (b, b, v)) (k : O P n ops rest N ((d, v) :: L) w) : O P n ops (⟨some d, .load ty x, t, pos, aft, none⟩ :: rest) N L w := by
 unfold bxl at h
 split at h
 ·rename_i e1 e2
  obtain ⟨u, h1, h2⟩ := Option.map_eq_some_iff.1 h
  simp only [Prod.mk.injEq] at h2
  obtain ⟨rfl, rfl, rfl⟩ := h2
  exact O_y (Vw e1).1 (Yb i ha hs e2 h1 (Vw e1).2) k
 ·cases h
end
section
variable {P : Program} {n : Nat} {ops : Array Oper} {late done : List Nat} {J : World → Prop} {N : Nxt} {L : Loc} {w : World} {d t : Nat} {pos : String} {aft : Array Edge} {fuel : Nat} {m : Nat} {ms ap tm : List Nat}
def rdy (n : Nat) (ops : Array Oper) (L : Loc) (i : Nat) : Option (Bool × Oper) := (ops[i]?).bind fun o => match o.dst with
 | some d => bel n d (match o.guard with
  | none => some (true, o)
  | some (j, b) => bif gB (gdv ops L j) b then some (false, { o with guard := none }) else none)
 | none => none
theorem Zmb {i : Nat} {g : Bool} {op : Op} (h : rdy n ops L i = some (g, ⟨some d, op, t, pos, aft, none⟩)) : Nat.blt d n = true ∧ (ops[i]? = some ⟨some d, op, t, pos, aft, none⟩ ∨ ∃ j b dj, ops[i]? = some ⟨some d, op, t, pos, aft, some (j, b)⟩ ∧ (ops[j]?).bind (·.dst) = some dj ∧ lk dj L = some (.bool b)) := by
 obtain ⟨o, h1, h2⟩ := Option.bind_eq_some_iff.1 h
 cases o with
 | mk dst op' t' pos' aft' g =>
  cases dst with
  | none => cases h2
  | some d' =>
   obtain ⟨h3, h4⟩ := Vw h2
   cases g with
   | none =>
    simp only [Option.some.injEq, Prod.mk.injEq, Oper.mk.injEq] at h4
    obtain ⟨_, rfl, rfl, rfl, rfl, rfl, _⟩ := h4
    exact ⟨h3, .inl h1⟩
   | some jb =>
    obtain ⟨j, b⟩ := jb
    simp only at h4
    cases hb : gB (gdv ops L j) b with
    | false => rw [hb] at h4; cases h4
    | true =>
     rw [hb] at h4
     simp only [cond_true, Option.some.injEq, Prod.mk.injEq, Oper.mk.injEq] at h4
     obtain ⟨_, rfl, rfl, rfl, rfl, rfl, _⟩ := h4
     obtain ⟨dj, h5, h6⟩ := Zdn (Zhi hb)
     exact ⟨h3, .inr ⟨j, b, dj, h1, h5, h6⟩⟩
theorem Fp (i : Nat) {g : Bool} {op : Op} {v : Value} (hS : Hi ops m ms ap tm) (h : rdy n ops L i = some (g, ⟨some d, op, t, pos, aft, none⟩)) (hy : ∀ w, Y P n L w op t v) (k : OD P n ops late J fuel (i :: done) N ((d, v) :: L) w) (hok : Ze3 m ms ap (Kq done) i = true := by kernel_rfl) : OD P n ops late J (fuel + 1) done N L w := by
 obtain ⟨hd, h | ⟨j, b, dj, h1, h2, h3⟩⟩ := Zmb h
 ·exact Zbf hS h hd hok hy k
 ·exact Zsx hS h1 h2 h3 hd hok hy k
theorem Fy (i : Nat) {g : Bool} {op : Op} {v : Value} (hS : Hi ops m ms ap tm) (h : rdy n ops L i = some (g, ⟨some d, op, t, pos, aft, none⟩)) (hJ : J w) (hy : ∀ w, J w → Y P n L w op t v) (k : OD P n ops late J fuel (i :: done) N ((d, v) :: L) w) (hok : (Ze3 m ms ap (Kq done) i && (Zgu (Kq done) 0 ms && Zh6 tm i late)) = true := by kernel_rfl) : OD P n ops late J (fuel + 1) done N L w := by
 obtain ⟨hd, h | ⟨j, b, dj, h1, h2, h3⟩⟩ := Zmb h
 ·exact Zwy hS h hd hok hJ hy k
 ·exact Zt0 hS h1 h2 h3 hd hok hJ hy k
def rdm (n : Nat) (ops : Array Oper) (L : Loc) (i : Nat) : Option (Nat × Value) := match ops[i]? with
 | some ⟨some d, .move x, _, _, _, none⟩ => bel n d ((ev L x).map fun v => (d, v))
 | _ => none
theorem Fm (i : Nat) {v : Value} (hS : Hi ops m ms ap tm) (h : rdm n ops L i = some (d, v)) (k : OD P n ops late J fuel (i :: done) N ((d, v) :: L) w) (hok : Ze3 m ms ap (Kq done) i = true := by kernel_rfl) : OD P n ops late J (fuel + 1) done N L w := by
 unfold rdm at h
 split at h
 ·rename_i e
  obtain ⟨h1, h2⟩ := Vw h
  obtain ⟨u, h3, h4⟩ := Option.map_eq_some_iff.1 h2
  simp only [Prod.mk.injEq] at h4
  obtain ⟨rfl, rfl⟩ := h4
  exact Zbf hS e h1 hok (fun _ => Qk h3) k
 ·cases h
def rdn (n : Nat) (ops : Array Oper) (L : Loc) (i : Nat) : Option Nat := match ops[i]? with
 | some ⟨some d, _, _, _, _, some (j, b)⟩ => bel n d (bif gB (gdv ops L j) (!b) then some d else none)
 | _ => none
theorem Fn (i : Nat) (hS : Hi ops m ms ap tm) (h : rdn n ops L i = some d) (k : OD P n ops late J fuel (i :: done) N ((d, undef) :: L) w) (hok : Ze3 m ms ap (Kq done) i = true := by kernel_rfl) : OD P n ops late J (fuel + 1) done N L w := by
 unfold rdn at h
 split at h
 ·rename_i d' _ _ _ _ j b e
  obtain ⟨h1, h2⟩ := Vw h
  cases hb : gB (gdv ops L j) (!b) with
  | false => rw [hb] at h2; cases h2
  | true =>
   rw [hb] at h2
   obtain rfl := Option.some.inj h2
   obtain ⟨dj, h5, h6⟩ := Zdn (Zhi hb)
   exact Zvx hS e h5 h6 rfl h1 hok k
 ·cases h
def rdu (n : Nat) (ops : Array Oper) (L : Loc) (i : Nat) : Option (Nat × Value) := match ops[i]? with
 | some ⟨some d, _, _, _, _, some (j, _)⟩ => bel n d ((gdv ops L j).map fun v => (d, v))
 | _ => none
theorem Fu (i : Nat) (hS : Hi ops m ms ap tm) (h : rdu n ops L i = some (d, undef)) (k : OD P n ops late J fuel (i :: done) N ((d, undef) :: L) w) (hok : Ze3 m ms ap (Kq done) i = true := by kernel_rfl) : OD P n ops late J (fuel + 1) done N L w := by
 unfold rdu at h
 split at h
 ·rename_i e
  obtain ⟨h1, h2⟩ := Vw h
  obtain ⟨u, h3, h4⟩ := Option.map_eq_some_iff.1 h2
  simp only [Prod.mk.injEq] at h4
  obtain ⟨rfl, rfl⟩ := h4
  obtain ⟨dj, h5, h6⟩ := Zdn h3
  exact Ztg hS e h5 h6 h1 hok k
 ·cases h
theorem F1 (i : Nat) {o : Oper} (hS : Hi ops m ms ap tm) (hi : ops[i]? = some o) (h : ∀ N' : Nxt, (∀ L' w', (late.contains i = false → J w → J w') → OD P n ops late J fuel (i :: done) N L' w' → N' L' w') → O P n ops [o] N' L w) (hok : (Nat.blt i m && Zp8 ms (Kq done) i && Zgw (Kq done) i 0 ms) = true := by kernel_rfl) : OD P n ops late J (fuel + 1) done N L w := Zlj hS hi hok h
theorem FE (hS : Hi ops m ms ap tm) (h : N L w) (hr : Zgw (Kq done) m 0 ms = true := by kernel_rfl) : OD P n ops late J fuel done N L w := Zhn hS hr h
end
end Go.Proofs.YthoicbafdanmkaaGreatDoor
/- The data of the program's structs. Written by this repo's structs.py. -/
namespace Go.Proofs.YthoicbafdanmkaaGreatDoor
open Go.RowKit
structure S8 where
 x : Int
 y : Int
 signed : Bool
 code : Int
 deriving Inhabited
structure S9 where
 msg : ByteArray
 addr : Int
 deriving Inhabited
structure Val where
 lo : Int
 hi : Int
 n : Int
 deriving Inhabited
def X9 : Rep Val := ⟨3, fun ρ cs x => cs = [.int .i32 x.lo, .int .i32 x.hi, .int .i64 x.n], fun h => by obtain rfl := h; rfl, fun hle h => by obtain rfl := h; exact rfl, fun h => by obtain rfl := h; exact (Zb rfl (Zb rfl (Zb rfl Yj)))⟩
structure Chs where
 lo : Int
 hi : Int
 is_ : List Int
 deriving Inhabited
def Ks : Rep Chs := ⟨3, fun ρ cs x => ∃ v2 : Value, cs = [.int .i32 x.lo, .int .i32 x.hi, v2] ∧ SlR (Rep.int .i32) ρ v2 x.is_, fun h => by obtain ⟨v2, rfl, f0⟩ := h; rfl, fun hle h => by obtain ⟨v2, rfl, f0⟩ := h; exact ⟨v2, rfl, f0.mono hle⟩, fun h => by obtain ⟨v2, rfl, f0⟩ := h; exact (Zb rfl (Zb rfl (Zb f0.one Yj)))⟩
structure Spn where
 lo : Int
 hi : Int
 deriving Inhabited
def Kd : Rep Spn := ⟨2, fun ρ cs x => cs = [.int .i32 x.lo, .int .i32 x.hi], fun h => by obtain rfl := h; rfl, fun hle h => by obtain rfl := h; exact rfl, fun h => by obtain rfl := h; exact (Zb rfl (Zb rfl Yj))⟩
structure Bk where
 names : List ByteArray
 status : List Val
 maps : List Chs
 class_ : List Val
 decomp : List Chs
 excl : List Spn
 bidi : List Val
 join : List Val
 marks : List Spn
 script : List Val
 like : List Chs
 deriving Inhabited
def rBk : Rep Bk := ⟨11, fun ρ cs x => ∃ v0 v1 v2 v3 v4 v5 v6 v7 v8 v9 v10 : Value, cs = [v0, v1, v2, v3, v4, v5, v6, v7, v8, v9, v10] ∧ SlR Rep.str ρ v0 x.names ∧ SlR X9 ρ v1 x.status ∧ SlR Ks ρ v2 x.maps ∧ SlR X9 ρ v3 x.class_ ∧ SlR Ks ρ v4 x.decomp ∧ SlR Kd ρ v5 x.excl ∧ SlR X9 ρ v6 x.bidi ∧ SlR X9 ρ v7 x.join ∧ SlR Kd ρ v8 x.marks ∧ SlR X9 ρ v9 x.script ∧ SlR Ks ρ v10 x.like, fun h => by obtain ⟨v0, v1, v2, v3, v4, v5, v6, v7, v8, v9, v10, rfl, f0, f1, f2, f3, f4, f5, f6, f7, f8, f9, f10⟩ := h; rfl, fun hle h => by obtain ⟨v0, v1, v2, v3, v4, v5, v6, v7, v8, v9, v10, rfl, f0, f1, f2, f3, f4, f5, f6, f7, f8, f9, f10⟩ := h; exact ⟨v0, v1, v2, v3, v4, v5, v6, v7, v8, v9, v10, rfl, f0.mono hle, f1.mono hle, f2.mono hle, f3.mono hle, f4.mono hle, f5.mono hle, f6.mono hle, f7.mono hle, f8.mono hle, f9.mono hle, f10.mono hle⟩, fun h => by obtain ⟨v0, v1, v2, v3, v4, v5, v6, v7, v8, v9, v10, rfl, f0, f1, f2, f3, f4, f5, f6, f7, f8, f9, f10⟩ := h; exact (Zb f0.one (Zb f1.one (Zb f2.one (Zb f3.one (Zb f4.one (Zb f5.one (Zb f6.one (Zb f7.one (Zb f8.one (Zb f9.one (Zb f10.one Yj)))))))))))⟩
structure Tab where
 which : Vector Int 8704
 unlike : List (Vector Int 128)
 plain : List Bool
 deriving Inhabited
def Vc : Rep Tab := ⟨8706, fun ρ cs x => ∃ v1 v2 : Value, cs = [] ++ (vcs (Value.int .u16) x.which ++ [v1, v2]) ∧ SlR (Rep.arr (Value.int .u16) (Ue .u16) 128) ρ v1 x.unlike ∧ SlR Rep.bool ρ v2 x.plain, fun h => by obtain ⟨v1, v2, rfl, f0, f1⟩ := h; simp, fun hle h => by obtain ⟨v1, v2, rfl, f0, f1⟩ := h; exact ⟨v1, v2, rfl, f0.mono hle, f1.mono hle⟩, fun h => by obtain ⟨v1, v2, rfl, f0, f1⟩ := h; exact (Zo4 Yj (Zo4 (Zkt (Ue .u16) _) (Zb f0.one (Zb f1.one Yj))))⟩
structure Tbs where
 b : Bk
 status : Option Tab
 class_ : Option Tab
 bidi : Option Tab
 join : Option Tab
 script : Option Tab
 excl : Option Tab
 mark : Option Tab
 maps : Option Tab
 decomp : Option Tab
 likes : Option Tab
 pairs : List (Vector Int 2 × Int)
 deriving Inhabited
def Hm : Rep Tbs := ⟨22, fun ρ cs x => ∃ v0 v1 v2 v3 v4 v5 v6 v7 v8 v9 v10 v11 v12 v13 v14 v15 v16 v17 v18 v19 v20 v21 : Value, cs = [v0, v1, v2, v3, v4, v5, v6, v7, v8, v9, v10, v11, v12, v13, v14, v15, v16, v17, v18, v19, v20, v21] ∧ SlR Rep.str ρ v0 x.b.names ∧ SlR X9 ρ v1 x.b.status ∧ SlR Ks ρ v2 x.b.maps ∧ SlR X9 ρ v3 x.b.class_ ∧ SlR Ks ρ v4 x.b.decomp ∧ SlR Kd ρ v5 x.b.excl ∧ SlR X9 ρ v6 x.b.bidi ∧ SlR X9 ρ v7 x.b.join ∧ SlR Kd ρ v8 x.b.marks ∧ SlR X9 ρ v9 x.b.script ∧ SlR Ks ρ v10 x.b.like ∧ Xs Vc ρ v11 x.status ∧ Xs Vc ρ v12 x.class_ ∧ Xs Vc ρ v13 x.bidi ∧ Xs Vc ρ v14 x.join ∧ Xs Vc ρ v15 x.script ∧ Xs Vc ρ v16 x.excl ∧ Xs Vc ρ v17 x.mark ∧ Xs Vc ρ v18 x.maps ∧ Xs Vc ρ v19 x.decomp ∧ Xs Vc ρ v20 x.likes ∧ Zi6 (fun y : Vector Int 2 => Value.agg (acs .i32 y.toList).toArray) (Value.int .i32) ρ v21 x.pairs, fun h => by obtain ⟨v0, v1, v2, v3, v4, v5, v6, v7, v8, v9, v10, v11, v12, v13, v14, v15, v16, v17, v18, v19, v20, v21, rfl, f0, f1, f2, f3, f4, f5, f6, f7, f8, f9, f10, f11, f12, f13, f14, f15, f16, f17, f18, f19, f20, f21⟩ := h; rfl, fun hle h => by obtain ⟨v0, v1, v2, v3, v4, v5, v6, v7, v8, v9, v10, v11, v12, v13, v14, v15, v16, v17, v18, v19, v20, v21, rfl, f0, f1, f2, f3, f4, f5, f6, f7, f8, f9, f10, f11, f12, f13, f14, f15, f16, f17, f18, f19, f20, f21⟩ := h; exact ⟨v0, v1, v2, v3, v4, v5, v6, v7, v8, v9, v10, v11, v12, v13, v14, v15, v16, v17, v18, v19, v20, v21, rfl, f0.mono hle, f1.mono hle, f2.mono hle, f3.mono hle, f4.mono hle, f5.mono hle, f6.mono hle, f7.mono hle, f8.mono hle, f9.mono hle, f10.mono hle, f11.mono hle, f12.mono hle, f13.mono hle, f14.mono hle, f15.mono hle, f16.mono hle, f17.mono hle, f18.mono hle, f19.mono hle, f20.mono hle, f21.mono hle⟩, fun h => by obtain ⟨v0, v1, v2, v3, v4, v5, v6, v7, v8, v9, v10, v11, v12, v13, v14, v15, v16, v17, v18, v19, v20, v21, rfl, f0, f1, f2, f3, f4, f5, f6, f7, f8, f9, f10, f11, f12, f13, f14, f15, f16, f17, f18, f19, f20, f21⟩ := h; exact (Zb f0.one (Zb f1.one (Zb f2.one (Zb f3.one (Zb f4.one (Zb f5.one (Zb f6.one (Zb f7.one (Zb f8.one (Zb f9.one (Zb f10.one (Zb f11.one (Zb f12.one (Zb f13.one (Zb f14.one (Zb f15.one (Zb f16.one (Zb f17.one (Zb f18.one (Zb f19.one (Zb f20.one (Zb f21.one Yj))))))))))))))))))))))⟩
structure S10 where
 says : List Int
 coded : Bool
 fault : Int
 deriving Inhabited
def Zxj : Rep S10 := ⟨3, fun ρ cs x => ∃ v0 : Value, cs = [v0, .bool x.coded, .int .i64 x.fault] ∧ SlR (Rep.int .i32) ρ v0 x.says, fun h => by obtain ⟨v0, rfl, f0⟩ := h; rfl, fun hle h => by obtain ⟨v0, rfl, f0⟩ := h; exact ⟨v0, rfl, f0.mono hle⟩, fun h => by obtain ⟨v0, rfl, f0⟩ := h; exact (Zb f0.one (Zb rfl (Zb rfl Yj)))⟩
structure Wh where
 list : Int
 row : Int
 deriving Inhabited
def rWh : Rep Wh := ⟨2, fun ρ cs x => cs = [.int .i64 x.list, .int .i64 x.row], fun h => by obtain rfl := h; rfl, fun hle h => by obtain rfl := h; exact rfl, fun h => by obtain rfl := h; exact (Zb rfl (Zb rfl Yj))⟩
structure S11 where
 base : Int
 least : Int
 most : Int
 skew : Int
 damp : Int
 bias : Int
 first : Int
 between : Int
 deriving Inhabited
def Zde : Rep S11 := ⟨8, fun ρ cs x => cs = [.int .i64 x.base, .int .i64 x.least, .int .i64 x.most, .int .i64 x.skew, .int .i64 x.damp, .int .i64 x.bias, .int .i64 x.first, .int .u8 x.between], fun h => by obtain rfl := h; rfl, fun hle h => by obtain rfl := h; exact rfl, fun h => by obtain rfl := h; exact (Zb rfl (Zb rfl (Zb rfl (Zb rfl (Zb rfl (Zb rfl (Zb rfl (Zb rfl Yj))))))))⟩
structure S12 where
 p : S11
 s : ByteArray
 at_ : Int
 out : List Int
 n : Int
 i : Int
 bias : Int
 deriving Inhabited
structure S13 where
 l : List Chs
 rows : List (Int × Int)
 long : List (Int × Int)
 deriving Inhabited
structure S14 where
 lo : Int
 hi : Int
 deriving Inhabited
end Go.Proofs.YthoicbafdanmkaaGreatDoor
namespace Go.Proofs.YthoicbafdanmkaaGreatDoor
theorem Vl : Tryz.prog.follows .mixedOrders = true := by kernel_rfl
theorem Zja : Xe Tryz.prog 27 = some true := by kernel_rfl
theorem Zje : Qm Tryz.prog 27 = some 11 := by kernel_rfl
theorem Zey : Qm Tryz.prog 34 = some 11 := by kernel_rfl
theorem Zqs : Vp Tryz.prog 34 = some [.slice none 0 0, .slice none 0 0, .slice none 0 0, .slice none 0 0, .slice none 0 0, .slice none 0 0, .slice none 0 0, .slice none 0 0, .slice none 0 0, .slice none 0 0, .slice none 0 0] := by kernel_rfl
theorem V2 : Tryz.prog.underlying 28 = some (.slice 21) := by kernel_rfl
theorem Q7 : Vn Tryz.prog 28 21 1 4 := U2 V2 (by kernel_rfl) rfl rfl
theorem un3 : Tryz.prog.underlying 3 = some (.int .i64) := by kernel_rfl
theorem Xm : Xe Tryz.prog 21 = some false := by kernel_rfl
theorem Zf0 : Qm Tryz.prog 21 = some 1 := by kernel_rfl
theorem Za9 : Tryz.prog.underlying 21 = some (.int .i32) := by kernel_rfl
theorem Zl0 : Tryz.prog.underlying 29 = some (.pointer 114) := by kernel_rfl
theorem un9 : Tryz.prog.underlying 9 = some .string := by kernel_rfl
theorem Zdu : Qm Tryz.prog 43 = some 3 := by kernel_rfl
theorem Zti : Vp Tryz.prog 43 = some [.slice none 0 0, .bool false, .int .i64 0] := by kernel_rfl
theorem Zra : Yl Tryz.prog 43 1 = some 1 := by kernel_rfl
theorem ag4 : Xe Tryz.prog 4 = some false := by kernel_rfl
theorem sz4 : Qm Tryz.prog 4 = some 1 := by kernel_rfl
theorem Zgc : Yl Tryz.prog 43 2 = some 2 := by kernel_rfl
theorem ag3 : Xe Tryz.prog 3 = some false := by kernel_rfl
theorem sz3 : Qm Tryz.prog 3 = some 1 := by kernel_rfl
theorem Zr0 : Yl Tryz.prog 43 0 = some 0 := by kernel_rfl
theorem Za8 : Xe Tryz.prog 28 = some false := by kernel_rfl
theorem Zte : Qm Tryz.prog 28 = some 1 := by kernel_rfl
theorem un4 : Tryz.prog.underlying 4 = some .bool := by kernel_rfl
theorem Zqa : Tryz.prog.underlying 56 = some (.slice 3) := by kernel_rfl
theorem Zsk : Vn Tryz.prog 56 3 1 8 := U2 Zqa (by kernel_rfl) rfl rfl
theorem Zim : Xe Tryz.prog 34 = some true := by kernel_rfl
theorem Zwj : V5 Tryz.prog 34 = some [(0, 1), (1, 1), (2, 1), (3, 1), (4, 1), (5, 1), (6, 1), (7, 1), (8, 1), (9, 1), (10, 1)] := by kernel_rfl
theorem Ze7 : Xe Tryz.prog 67 = some true := by kernel_rfl
theorem Zeg : Qm Tryz.prog 67 = some 3 := by kernel_rfl
theorem Zlb : Vp Tryz.prog 67 = some [.int .i32 0, .int .i32 0, .int .i64 0] := by kernel_rfl
theorem Zth : V5 Tryz.prog 67 = some [(0, 1), (1, 1), (2, 1)] := by kernel_rfl
theorem Zfb : Tryz.prog.underlying 23 = some (.slice 67) := by kernel_rfl
theorem Zcg : Vn Tryz.prog 23 67 3 16 := U2 Zfb (by kernel_rfl) rfl rfl
theorem Zvt : Vp Tryz.prog 27 = some [.slice none 0 0, .slice none 0 0, .slice none 0 0, .slice none 0 0, .slice none 0 0, .slice none 0 0, .slice none 0 0, .slice none 0 0, .slice none 0 0, .slice none 0 0, .slice none 0 0] := by kernel_rfl
theorem Zww : V5 Tryz.prog 27 = some [(0, 1), (1, 1), (2, 1), (3, 1), (4, 1), (5, 1), (6, 1), (7, 1), (8, 1), (9, 1), (10, 1)] := by kernel_rfl
theorem Zh5 : Xe Tryz.prog 43 = some true := by kernel_rfl
theorem Zxr : V5 Tryz.prog 43 = some [(0, 1), (1, 1), (2, 1)] := by kernel_rfl
theorem Zmx : Tryz.prog.underlying 72 = some (.slice 5) := by kernel_rfl
theorem Zg8 : Vn Tryz.prog 72 5 1 1 := U2 Zmx (by kernel_rfl) rfl rfl
theorem un5 : Tryz.prog.underlying 5 = some (.int .u8) := by kernel_rfl
theorem Zxq : Qm Tryz.prog 56 = some 1 := by kernel_rfl
theorem Zxn : Vp Tryz.prog 56 = some [.slice none 0 0] := by kernel_rfl
theorem Znx : Xe Tryz.prog 29 = some false := by kernel_rfl
theorem Zwi : Xe Tryz.prog 56 = some false := by kernel_rfl
theorem Zxi : Vp Tryz.prog 28 = some [.slice none 0 0] := by kernel_rfl
theorem Zga : Tryz.prog.underlying 22 = some (.slice 9) := by kernel_rfl
theorem Zf7 : Vn Tryz.prog 22 9 1 16 := U2 Zga (by kernel_rfl) rfl rfl
theorem Zk6 : Yl Tryz.prog 27 0 = some 0 := by kernel_rfl
theorem Zp2 : Xe Tryz.prog 22 = some false := by kernel_rfl
theorem Zdz : Yl Tryz.prog 27 1 = some 1 := by kernel_rfl
theorem Zbl : Xe Tryz.prog 23 = some false := by kernel_rfl
theorem Zik : Yl Tryz.prog 27 2 = some 2 := by kernel_rfl
theorem Zdw : Xe Tryz.prog 24 = some false := by kernel_rfl
theorem Ze5 : Tryz.prog.underlying 24 = some (.slice 110) := by kernel_rfl
theorem Zdo : Vn Tryz.prog 24 110 3 32 := U2 Ze5 (by kernel_rfl) rfl rfl
theorem Zkz : Yl Tryz.prog 27 3 = some 3 := by kernel_rfl
theorem Zeq : Yl Tryz.prog 27 4 = some 4 := by kernel_rfl
theorem Zk8 : Yl Tryz.prog 27 5 = some 5 := by kernel_rfl
theorem Zl1 : Xe Tryz.prog 25 = some false := by kernel_rfl
theorem Zjf : Tryz.prog.underlying 25 = some (.slice 129) := by kernel_rfl
theorem Zi5 : Vn Tryz.prog 25 129 2 8 := U2 Zjf (by kernel_rfl) rfl rfl
theorem Zlh : Yl Tryz.prog 27 6 = some 6 := by kernel_rfl
theorem Zk7 : Yl Tryz.prog 27 7 = some 7 := by kernel_rfl
theorem Zlf : Yl Tryz.prog 27 8 = some 8 := by kernel_rfl
theorem Zk1 : Yl Tryz.prog 27 9 = some 9 := by kernel_rfl
theorem Zhf : Yl Tryz.prog 27 10 = some 10 := by kernel_rfl
theorem Zn3 : Yl Tryz.prog 34 2 = some 2 := by kernel_rfl
theorem Zh8 : Xe Tryz.prog 31 = some false := by kernel_rfl
theorem Zlo : Tryz.prog.underlying 31 = some (.slice 87) := by kernel_rfl
theorem Zh1 : Vn Tryz.prog 31 87 3 32 := U2 Zlo (by kernel_rfl) rfl rfl
theorem Zkw : Xe Tryz.prog 87 = some true := by kernel_rfl
theorem Zev : Qm Tryz.prog 87 = some 3 := by kernel_rfl
theorem Zlz : Vp Tryz.prog 87 = some [.int .i32 0, .int .i32 0, .slice none 0 0] := by kernel_rfl
theorem Zxp : Tryz.prog.underlying 84 = some (.slice 4) := by kernel_rfl
theorem U9 : Vn Tryz.prog 84 4 1 1 := U2 Zxp (by kernel_rfl) rfl rfl
theorem Znn : Yl Tryz.prog 34 1 = some 1 := by kernel_rfl
theorem Zhv : Xe Tryz.prog 30 = some false := by kernel_rfl
theorem Zt9 : Tryz.prog.underlying 30 = some (.slice 128) := by kernel_rfl
theorem Zpo : Vn Tryz.prog 30 128 3 16 := U2 Zt9 (by kernel_rfl) rfl rfl
theorem Zsc : Yl Tryz.prog 34 5 = some 5 := by kernel_rfl
theorem Zus : Xe Tryz.prog 32 = some false := by kernel_rfl
theorem Zq7 : Tryz.prog.underlying 32 = some (.slice 90) := by kernel_rfl
theorem Zg6 : Vn Tryz.prog 32 90 2 8 := U2 Zq7 (by kernel_rfl) rfl rfl
theorem Zsb : Xe Tryz.prog 90 = some true := by kernel_rfl
theorem Zud : Qm Tryz.prog 90 = some 2 := by kernel_rfl
theorem Zs1 : Vp Tryz.prog 90 = some [.int .i32 0, .int .i32 0] := by kernel_rfl
theorem Zkx : Yl Tryz.prog 90 0 = some 0 := by kernel_rfl
theorem Zku : Yl Tryz.prog 90 1 = some 1 := by kernel_rfl
theorem Zro : Yl Tryz.prog 34 0 = some 0 := by kernel_rfl
theorem Zs0 : Yl Tryz.prog 34 3 = some 3 := by kernel_rfl
theorem Zgg : Yl Tryz.prog 34 4 = some 4 := by kernel_rfl
theorem Zsv : Yl Tryz.prog 34 6 = some 6 := by kernel_rfl
theorem Zsu : Yl Tryz.prog 34 7 = some 7 := by kernel_rfl
theorem Zrg : Yl Tryz.prog 34 8 = some 8 := by kernel_rfl
theorem zr4 : Vp Tryz.prog 4 = some [.bool false] := by kernel_rfl
theorem Zs2 : Yl Tryz.prog 34 9 = some 9 := by kernel_rfl
theorem Zow : Yl Tryz.prog 34 10 = some 10 := by kernel_rfl
theorem Hs : Qm Tryz.prog 100 = some 2 := by kernel_rfl
theorem Zb8 : Vp Tryz.prog 100 = some [.int .i64 0, .int .i64 0] := by kernel_rfl
theorem Zu9 : Tryz.prog.underlying 112 = some (.map 115 21) := by kernel_rfl
theorem Zpi : Tryz.prog.underlying 115 = some (.array 2 21) := by kernel_rfl
def Uf : Ug Tryz.prog 115 (Vector Int 2) := Ug.vec Zpi (by kernel_rfl) (by kernel_rfl) Zf0 Za9 Xm
theorem Zxk : ∀ w : World, (zeroValue 21).run Tryz.prog w = .ok (.int .i32 0) w := fun _ => by kernel_rfl
theorem Zvc : Xe Tryz.prog 114 = some true := by kernel_rfl
theorem Zux : Vp Tryz.prog 114 = some [.slice none 0 0, .slice none 0 0, .slice none 0 0, .slice none 0 0, .slice none 0 0, .slice none 0 0, .slice none 0 0, .slice none 0 0, .slice none 0 0, .slice none 0 0, .slice none 0 0, .pointer none, .pointer none, .pointer none, .pointer none, .pointer none, .pointer none, .pointer none, .pointer none, .pointer none, .pointer none, .map none] := by kernel_rfl
theorem Zuw : V5 Tryz.prog 114 = some [(0, 11), (11, 1), (12, 1), (13, 1), (14, 1), (15, 1), (16, 1), (17, 1), (18, 1), (19, 1), (20, 1), (21, 1)] := by kernel_rfl
theorem Zbq : Xe Tryz.prog 110 = some true := by kernel_rfl
theorem Zag : Qm Tryz.prog 110 = some 3 := by kernel_rfl
theorem Zgz : Vp Tryz.prog 110 = some [.int .i32 0, .int .i32 0, .slice none 0 0] := by kernel_rfl
theorem H4 : Yl Tryz.prog 110 2 = some 2 := by kernel_rfl
theorem Zuj : Yl Tryz.prog 114 6 = some 16 := by kernel_rfl
theorem Zcc : Xe Tryz.prog 104 = some false := by kernel_rfl
theorem Zbu : Yl Tryz.prog 110 0 = some 0 := by kernel_rfl
theorem Zrh : Tryz.prog.underlying 104 = some (.pointer 156) := by kernel_rfl
theorem Zlk : Yl Tryz.prog 114 2 = some 12 := by kernel_rfl
theorem Zmu : Yl Tryz.prog 114 11 = some 21 := by kernel_rfl
theorem Zvh : Xe Tryz.prog 112 = some false := by kernel_rfl
theorem Zuv : Xe Tryz.prog 115 = some true := by kernel_rfl
theorem Zq5 : Qm Tryz.prog 115 = some 2 := by kernel_rfl
set_option maxRecDepth 1000000 in
theorem Zry : (Vp Tryz.prog 115).map (·.length) = some 2 := by kernel_rfl
theorem Zty : Yl Tryz.prog 114 7 = some 17 := by kernel_rfl
theorem Zos : Yl Tryz.prog 114 8 = some 18 := by kernel_rfl
theorem Zun : Yl Tryz.prog 114 1 = some 11 := by kernel_rfl
theorem Zep : Yl Tryz.prog 67 0 = some 0 := by kernel_rfl
theorem Zdm : Yl Tryz.prog 67 1 = some 1 := by kernel_rfl
theorem Zdt : Yl Tryz.prog 67 2 = some 2 := by kernel_rfl
theorem Zof : Xe Tryz.prog 128 = some true := by kernel_rfl
theorem Zjz : Qm Tryz.prog 128 = some 3 := by kernel_rfl
theorem Zoy : Vp Tryz.prog 128 = some [.int .i32 0, .int .i32 0, .int .i64 0] := by kernel_rfl
theorem Zw6 : V5 Tryz.prog 128 = some [(0, 1), (1, 1), (2, 1)] := by kernel_rfl
theorem Zhe : Yl Tryz.prog 110 1 = some 1 := by kernel_rfl
theorem Zxm : V5 Tryz.prog 87 = some [(0, 1), (1, 1), (2, 1)] := by kernel_rfl
theorem Za7 : Xe Tryz.prog 129 = some true := by kernel_rfl
theorem Hj : Qm Tryz.prog 129 = some 2 := by kernel_rfl
theorem Zay : Vp Tryz.prog 129 = some [.int .i32 0, .int .i32 0] := by kernel_rfl
theorem Uw : Yl Tryz.prog 129 0 = some 0 := by kernel_rfl
theorem Vr : Yl Tryz.prog 129 1 = some 1 := by kernel_rfl
theorem Zvq : V5 Tryz.prog 90 = some [(0, 1), (1, 1)] := by kernel_rfl
theorem Zck : Yl Tryz.prog 87 2 = some 2 := by kernel_rfl
theorem Zlq : Yl Tryz.prog 128 0 = some 0 := by kernel_rfl
theorem Zkm : Yl Tryz.prog 87 1 = some 1 := by kernel_rfl
theorem Zk4 : Yl Tryz.prog 128 1 = some 1 := by kernel_rfl
theorem Zez : Yl Tryz.prog 87 0 = some 0 := by kernel_rfl
theorem ag9 : Xe Tryz.prog 9 = some false := by kernel_rfl
theorem Zol : Yl Tryz.prog 128 2 = some 2 := by kernel_rfl
theorem Hx : Xe Tryz.prog 100 = some true := by kernel_rfl
theorem Zu4 : Qm Tryz.prog 133 = some 1 := by kernel_rfl
theorem Zu5 : Vp Tryz.prog 133 = some [.nilFunc] := by kernel_rfl
theorem Zxf : Qm Tryz.prog 135 = some 1 := by kernel_rfl
theorem Zxh : Vp Tryz.prog 135 = some [.nilFunc] := by kernel_rfl
theorem Zae : Xe Tryz.prog 137 = some true := by kernel_rfl
theorem Zai : Qm Tryz.prog 137 = some 2 := by kernel_rfl
theorem Zah : Vp Tryz.prog 137 = some [.int .i64 0, .nilFunc] := by kernel_rfl
theorem Zc9 : V5 Tryz.prog 137 = some [(0, 1), (1, 1)] := by kernel_rfl
theorem Zvf : Tryz.prog.underlying 145 = some (.slice 137) := by kernel_rfl
theorem Zcw : Vn Tryz.prog 145 137 2 16 := U2 Zvf (by kernel_rfl) rfl rfl
theorem Za0 : Yl Tryz.prog 137 1 = some 1 := by kernel_rfl
theorem Zdd : Xe Tryz.prog 136 = some false := by kernel_rfl
theorem Zaz : Yl Tryz.prog 137 0 = some 0 := by kernel_rfl
theorem Zcr : V5 Tryz.prog 100 = some [(0, 1), (1, 1)] := by kernel_rfl
theorem Zj2 : V5 Tryz.prog 129 = some [(0, 1), (1, 1)] := by kernel_rfl
theorem Zfy : Yl Tryz.prog 156 1 = some 8704 := by kernel_rfl
theorem Zo3 : Xe Tryz.prog 154 = some false := by kernel_rfl
theorem Zwn : Qm Tryz.prog 154 = some 1 := by kernel_rfl
theorem Zhk : Yl Tryz.prog 156 0 = some 0 := by kernel_rfl
theorem Zpd : Tryz.prog.underlying 153 = some (.array 8704 150) := by kernel_rfl
theorem Zcl : Qm Tryz.prog 150 = some 1 := by kernel_rfl
theorem Zke : Xe Tryz.prog 150 = some false := by kernel_rfl
theorem Zva : Tryz.prog.underlying 154 = some (.slice 152) := by kernel_rfl
theorem Zor : Vn Tryz.prog 154 152 128 256 := U2 Zva (by kernel_rfl) rfl rfl
theorem Zj4 : Tryz.prog.underlying 152 = some (.array 128 150) := by kernel_rfl
theorem Zkf : Tryz.prog.underlying 150 = some (.int .u16) := by kernel_rfl
theorem Zu1 : Xe Tryz.prog 118 = some true := by kernel_rfl
theorem Zvd : Qm Tryz.prog 118 = some 8 := by kernel_rfl
theorem Zvb : Vp Tryz.prog 118 = some [.int .i64 0, .int .i64 0, .int .i64 0, .int .i64 0, .int .i64 0, .int .i64 0, .int .i64 0, .int .u8 0] := by kernel_rfl
theorem Zwd : V5 Tryz.prog 118 = some [(0, 1), (1, 1), (2, 1), (3, 1), (4, 1), (5, 1), (6, 1), (7, 1)] := by kernel_rfl
theorem Zc8 : Xe Tryz.prog 117 = some true := by kernel_rfl
theorem Zda : Qm Tryz.prog 117 = some 8 := by kernel_rfl
theorem Zoq : Yl Tryz.prog 117 7 = some 7 := by kernel_rfl
theorem ag5 : Xe Tryz.prog 5 = some false := by kernel_rfl
theorem Zhj : Yl Tryz.prog 117 6 = some 6 := by kernel_rfl
theorem Zo0 : Yl Tryz.prog 117 5 = some 5 := by kernel_rfl
theorem Zwf : Xe Tryz.prog 163 = some true := by kernel_rfl
theorem Zxd : Vp Tryz.prog 163 = some [.int .i64 0, .int .i64 0, .int .i64 0, .int .i64 0, .int .i64 0, .int .i64 0, .int .i64 0, .int .u8 0, .string ⟨#[]⟩, .int .i64 0, .slice none 0 0, .int .i64 0, .int .i64 0, .int .i64 0] := by kernel_rfl
theorem Zws : V5 Tryz.prog 163 = some [(0, 8), (8, 1), (9, 1), (10, 1), (11, 1), (12, 1), (13, 1)] := by kernel_rfl
theorem Zf3 : Yl Tryz.prog 163 3 = some 10 := by kernel_rfl
theorem Zbt : Yl Tryz.prog 163 2 = some 9 := by kernel_rfl
theorem Zo9 : Yl Tryz.prog 114 0 = some 0 := by kernel_rfl
theorem Zej : Xe Tryz.prog 133 = some false := by kernel_rfl
theorem zr3 : Vp Tryz.prog 3 = some [.int .i64 0] := by kernel_rfl
theorem Zwp : Xe Tryz.prog 135 = some false := by kernel_rfl
theorem Zuy : Tryz.prog.underlying 181 = some (.map 21 3) := by kernel_rfl
theorem zv3 : ∀ w : World, (zeroValue 3).run Tryz.prog w = .ok (.int .i64 0) w := fun _ => by kernel_rfl
theorem Zr2 : Tryz.prog.underlying 182 = some (.map 3 3) := by kernel_rfl
theorem Zwa : Xe Tryz.prog 184 = some true := by kernel_rfl
theorem Zw2 : Vp Tryz.prog 184 = some [.slice none 0 0, .map none, .map none] := by kernel_rfl
theorem Zwl : V5 Tryz.prog 184 = some [(0, 1), (1, 1), (2, 1)] := by kernel_rfl
theorem Zph : Yl Tryz.prog 184 1 = some 1 := by kernel_rfl
theorem Zu7 : Xe Tryz.prog 181 = some false := by kernel_rfl
theorem Zu0 : Tryz.prog.underlying 185 = some (.map 115 4) := by kernel_rfl
theorem zv4 : ∀ w : World, (zeroValue 4).run Tryz.prog w = .ok (.bool false) w := fun _ => by kernel_rfl
set_option maxRecDepth 1000000 in
theorem Zwg : Vp Tryz.prog 115 = some ([] ++ (vcs (Value.int .i32) (Vector.replicate 2 (0 : Int)) ++ [])) := by kernel_rfl
theorem Zbi : Yl Tryz.prog 117 0 = some 0 := by kernel_rfl
theorem Ztq : Yl Tryz.prog 117 4 = some 4 := by kernel_rfl
theorem Zo6 : Yl Tryz.prog 117 1 = some 1 := by kernel_rfl
theorem Zoi : Yl Tryz.prog 117 2 = some 2 := by kernel_rfl
theorem Ztk : Yl Tryz.prog 117 3 = some 3 := by kernel_rfl
theorem Zbd : Yl Tryz.prog 163 5 = some 12 := by kernel_rfl
theorem Zed : Yl Tryz.prog 163 0 = some 0 := by kernel_rfl
theorem Zo2 : Yl Tryz.prog 163 6 = some 13 := by kernel_rfl
theorem Zfd : Yl Tryz.prog 163 4 = some 11 := by kernel_rfl
theorem Zkh : Yl Tryz.prog 184 2 = some 2 := by kernel_rfl
theorem Zrs : Xe Tryz.prog 182 = some false := by kernel_rfl
theorem Zuh : Yl Tryz.prog 184 0 = some 0 := by kernel_rfl
set_option maxRecDepth 1000000 in
theorem Zxg : Vp Tryz.prog 156 = some ([] ++ (vcs (Value.int .u16) (Vector.replicate 8704 (0 : Int)) ++ [.slice none 0 0, .slice none 0 0])) := by kernel_rfl
theorem Zw1 : V5 Tryz.prog 156 = some [(0, 8704), (8704, 1), (8705, 1)] := by kernel_rfl
theorem Zu8 : Tryz.prog.underlying 203 = some (.map 152 150) := by kernel_rfl
def Zft : Ug Tryz.prog 152 (Vector Int 128) := Ug.vec Zj4 (by kernel_rfl) (by kernel_rfl) Zcl Zkf Zke
theorem Zxb : ∀ w : World, (zeroValue 150).run Tryz.prog w = .ok (.int .u16 0) w := fun _ => by kernel_rfl
theorem Zjt : Qm Tryz.prog 152 = some 128 := by kernel_rfl
set_option maxRecDepth 1000000 in
theorem Zwo : Vp Tryz.prog 152 = some ([] ++ (vcs (Value.int .u16) (Vector.replicate 128 (0 : Int)) ++ [])) := by kernel_rfl
theorem Zpa : Xe Tryz.prog 152 = some true := by kernel_rfl
theorem Zot : Yl Tryz.prog 156 2 = some 8705 := by kernel_rfl
theorem Zxs : Xe Tryz.prog 84 = some false := by kernel_rfl
theorem Zxt : Qm Tryz.prog 84 = some 1 := by kernel_rfl
set_option maxRecDepth 1000000 in
theorem Zwm : Vp Tryz.prog 152 = some (vcs (Value.int .u16) (Vector.replicate 128 (0 : Int))) := by kernel_rfl
theorem Zon : Yl Tryz.prog 163 1 = some 8 := by kernel_rfl
theorem Zup : Yl Tryz.prog 114 4 = some 14 := by kernel_rfl
theorem Ztv : Yl Tryz.prog 114 9 = some 19 := by kernel_rfl
theorem Zg2 : Tryz.prog.underlying 215 = some (.int .u64) := by kernel_rfl
end Go.Proofs.YthoicbafdanmkaaGreatDoor
/- Written by this repo's gen.py: for each Go function a Lean function with the same answers and the walk that shows it. -/
namespace Go.Proofs.YthoicbafdanmkaaGreatDoor
open Go.IntKind (i8 i16 i32 i64 u8 u16 u32 u64)
open Go.RowKit
set_option maxRecDepth 100000
set_option maxHeartbeats 4000000
variable {w0 w : World} {ρ : Hp} {Γ : List Q5}
set_option linter.unusedVariables false
def Kk.j1 (aa : Bool) : Option Bool := some aa
def Kk.f (x0 : Int) : Option Bool := if 0 ≤ x0 then (if x0 < 55296 then (Kk.j1 true) else (if 57343 < x0 then (Kk.j1 (decide (x0 ≤ 1114111))) else (Kk.j1 false))) else (if 57343 < x0 then (Kk.j1 (decide (x0 ≤ 1114111))) else (Kk.j1 false))
theorem Kk.c (hs : St w0 ρ (Γ) w) {x0 : Int} {r : Bool} (H : Kk.f x0 = some r) : Zn Tryz.prog 82 [.int .i32 x0] w (fun v w' => v = .bool r ∧ St w0 ρ Γ w') := by
 rw [Kk.f] at H
 refine Et Tryz.func82 Tryz.ntmps82 rfl <| Wr fun ak ah => As rfl <| Ox ah <| Yu fun ai aj ab => ?_
 have ac : ∀ (aa : Bool) (w : World), Kk.j1 aa = some r → St w0 ρ (Γ) w → ai [(2, .bool aa)] w := by
  intro aa w H hs
  rw [Kk.j1] at H
  refine aj _ _ <| Zk ?_
  obtain rfl := Zz H
  exact r1 rfl ⟨rfl, hs⟩
 refine Zc <| Mv rfl <| Oge rfl <| Mv rfl <| X6 (dj := 5) rfl (fun ad => ?_) (fun ad => ?_)
 rw [if_pos ad] at H
 refine Oe rfl <| Mv rfl <| Oe rfl <| Ols rfl <| Opk rfl <| Mv rfl <| X6 (dj := 9) rfl (fun ae => ?_) (fun ae => ?_)
 rw [if_pos ae] at H
 refine On rfl <| On rfl <| On rfl <| Kh rfl rfl rfl <| Kh rfl rfl rfl <| On rfl <| Opk rfl <| As rfl <| Zd (ab _ _ _ (S1 rfl) (ac true _ H hs))
 rw [if_neg ae] at H
 refine Oe rfl <| Mv rfl <| Oe rfl <| Ogt rfl <| Oe rfl <| Mv rfl <| X6 (dj := 12) rfl (fun af => ?_) (fun af => ?_)
 rw [if_pos af] at H
 refine Oe rfl <| Mv rfl <| Oe rfl <| Ole rfl <| Oe rfl <| Opk rfl <| Opk rfl <| As rfl <| Zd (ab _ _ _ (S1 rfl) (ac (decide (x0 ≤ 1114111)) _ H hs))
 rw [if_neg af] at H
 refine On rfl <| On rfl <| Oe rfl <| Opk rfl <| Opk rfl <| As rfl <| Zd (ab _ _ _ (S1 rfl) (ac false _ H hs))
 rw [if_neg ad] at H
 refine On rfl <| On rfl <| Opk rfl <| Mv rfl <| Oe rfl <| Mv rfl <| Oe rfl <| Ogt rfl <| Oe rfl <| Mv rfl <| X6 (dj := 12) rfl (fun ag => ?_) (fun ag => ?_)
 rw [if_pos ag] at H
 refine Oe rfl <| Mv rfl <| Oe rfl <| Ole rfl <| Oe rfl <| Opk rfl <| Opk rfl <| As rfl <| Zd (ab _ _ _ (S1 rfl) (ac (decide (x0 ≤ 1114111)) _ H hs))
 rw [if_neg ag] at H
 refine On rfl <| On rfl <| Oe rfl <| Opk rfl <| Opk rfl <| As rfl <| Zd (ab _ _ _ (S1 rfl) (ac false _ H hs))

def Ya.j1 (am : Bool → Int → Option (List Bool)) (ac : Int) (ah : Bool) : Option (List Bool) := am ah (i64.wrap (ac + 1))
def Ya.l1 (aj : List Bool → Int → Option (List Bool)) : Nat → List Chs → List Bool → Int → Bool → Int → Option (List Bool)
  | 0, _, _, _, _, _ => none
  | ag + 1, x0, ab, aa, ae, ac => if ac < (((rd x0 aa).is_).length : Int) then (if (0 : Int) ≤ ac ∧ ac < (((rd x0 aa).is_).length : Int) then (if ae = true then (Ya.j1 (Ya.l1 aj ag x0 ab aa) ac true) else ((Kk.f (rd ((rd x0 aa).is_) ac)).bind fun ao => (Ya.j1 (Ya.l1 aj ag x0 ab aa) ac (!ao)))) else none) else (if ab.length + ([ae]).length ≤ most then (aj (ab ++ ([ae])) (i64.wrap (aa + 1))) else none)
def Ya.j2 (aj : List Bool → Int → Option (List Bool)) (x0 : List Chs) (ab : List Bool) (aa : Int) (ak : Bool) : Option (List Bool) := Ya.l1 aj K0 x0 ab aa ak 0
def Ya.l2 : Nat → List Chs → Int → List Bool → Int → Option (List Bool)
  | 0, _, _, _, _ => none
  | ai + 1, x0, x1, ab, aa => if aa < (x0.length : Int) then (if (0 : Int) ≤ aa ∧ aa < (x0.length : Int) then (if (((rd x0 aa).is_).length : Int) < 1 then (Ya.j2 (Ya.l2 ai x0 x1) x0 ab aa true) else (Ya.j2 (Ya.l2 ai x0 x1) x0 ab aa (decide (x1 < (((rd x0 aa).is_).length : Int))))) else none) else (some ab)
def Ya.f (x0 : List Chs) (x1 : Int) : Option (List Bool) := Ya.l2 K0 x0 x1 ([] : List Bool) 0
theorem Ya.c (hs : St w0 ρ (Γ) w) {v0 : Value} {x0 : List Chs} (h0 : SlR Ks ρ v0 x0) {x1 : Int} {r : List Bool} (H : Ya.f x0 x1 = some r) : Zn Tryz.prog 50 [v0, .int .i64 x1] w (fun v w' => ∃ (ρ' : Hp) (v0 : Value) (cs0 : List Value), v = v0 ∧ Le ρ ρ' ∧ St w0 ρ' (.row v0 4 Rep.bool.sz r.length cs0 :: Γ) w' ∧ Zm Rep.bool ρ' cs0 r) := by
 rw [Ya.f] at H
 refine Et Tryz.func50 Tryz.ntmps50 rfl <| Wr fun cg bj => As rfl <| Ox bj <| Wr fun ch bk => Ku (xs := []) (cs := []) U9 hs rfl rfl rfl (by decide) (by decide) rfl Kb Xy (fun bl w hs => ?_)
 have bm : Zm Rep.bool ρ ([]) ([] : List Bool) := Zm.nil _ _
 refine As rfl <| Ox bk <| Zh fun ci bn => Wr fun cj bo => Mv rfl <| O_y rfl (Yv Zlo h0 rfl) <| Mv rfl <| Ox bo <| Zj fun ck bp cl => Y9 (σ := Nat × List Bool × Int × Value × List Value) (fun (ai, ab, aa, ad, af) => [(1, .int .i64 x1), (5, ad), (12, v0), (13, .int .i64 (x0.length : Int)), (14, .int .i64 aa)]) (fun (ai, ab, aa, ad, af) w => Ya.l2 ai x0 x1 ab aa = some r ∧ St w0 ρ ((.row ad 4 Rep.bool.sz ab.length af) :: Γ) w ∧ Zm Rep.bool ρ af ab) (fun s => s.1) (K0, ([] : List Bool), 0, (.slice (some ⟨bl, 0, none⟩) 0 0), ([])) sbn (Ai H (Ai hs bm)) ?_
 rintro ⟨ai, ab, aa, ad, af⟩ w cm ⟨H, hs, al⟩ ap
 show W _ _ _ _ _ _ [(1, .int .i64 x1), (5, ad), (12, v0), (13, .int .i64 (x0.length : Int)), (14, .int .i64 aa)] w
 cases ai with
 | zero => rw [Ya.l2] at H; cases H
 | succ ai =>
 rw [Ya.l2] at H
 refine Wr fun cn bq => Ols rfl <| Ox bq <| Zh fun co br => Y7 rfl (fun a4 => ?_) (fun a4 => ?_)
 rw [if_pos a4] at H
 refine Wx br <| Zh fun cp bs => Zj fun cq cr ct => Zh fun cu bt => Zc ?_
 obtain ⟨bg, H⟩ := gd H
 obtain ⟨cv, cw, bu, bv⟩ := h0.ix Zh1 bg.1 bg.2
 obtain ⟨_, ⟨av, rfl, aw⟩, bw⟩ := bu
 refine O_y rfl (bv rfl rfl) <| O_y rfl (Qv Zkw Zev rfl rfl (fun j u hu => hs.see (bw j u hu))) <| Y6 Zlz hs rfl (fun a3 w hs => Ye (i := 0) Zev hs rfl rfl rfl rfl rfl (Zb rfl (Zb rfl (Zb aw.one Yj))) (fun w hs => Ox bt <| Yu fun bx bz bh => ?_))
 have bi : ∀ (ak : Bool) (w : World), Ya.j2 (Ya.l2 ai x0 x1) x0 ab aa ak = some r → St w0 ρ ((.box a3 87 ([.int .i32 ((rd x0 aa).lo), .int .i32 ((rd x0 aa).hi), av])) :: (.row ad 4 Rep.bool.sz ab.length af) :: Γ) w → bx [(1, .int .i64 x1), (5, ad), (7, .pointer (some ⟨a3, 0, none⟩)), (8, .bool ak), (12, v0), (13, .int .i64 (x0.length : Int)), (14, .int .i64 aa)] w := by
  intro ak w H hs
  rw [Ya.j2] at H
  refine bz _ _ <| Zh fun cx b0 => Wr fun cy b1 => Ofd Zck rfl <| Obx 0 Za8 hs rfl <| O_y rfl (Yv V2 aw rfl) <| Mv rfl <| Ox b1 <| Zj fun cz b2 b3 => Y9 (σ := Nat × Bool × Int) (fun (ag, ae, ac) => [(1, .int .i64 x1), (5, ad), (8, .bool ae), (12, v0), (13, .int .i64 (x0.length : Int)), (14, .int .i64 aa), (30, av), (31, .int .i64 (((rd x0 aa).is_).length : Int)), (32, .int .i64 ac)]) (fun (ag, ae, ac) w => Ya.l1 (Ya.l2 ai x0 x1) ag x0 ab aa ae ac = some r ∧ St w0 ρ ((.box a3 87 ([.int .i32 ((rd x0 aa).lo), .int .i32 ((rd x0 aa).hi), av])) :: (.row ad 4 Rep.bool.sz ab.length af) :: Γ) w) (fun s => s.1) (K0, ak, 0) sbn (Ai H hs) ?_
  rintro ⟨ag, ae, ac⟩ w b4 ⟨H, hs⟩ an
  show W _ _ _ _ _ _ [(1, .int .i64 x1), (5, ad), (8, .bool ae), (12, v0), (13, .int .i64 (x0.length : Int)), (14, .int .i64 aa), (30, av), (31, .int .i64 (((rd x0 aa).is_).length : Int)), (32, .int .i64 ac)] w
  cases ag with
  | zero => rw [Ya.l1] at H; cases H
  | succ ag =>
  rw [Ya.l1] at H
  refine Wr fun b5 a5 => Ols rfl <| Ox a5 <| Zh fun b6 a6 => Y7 rfl (fun aq => ?_) (fun aq => ?_)
  rw [if_pos aq] at H
  refine Wx a6 <| Yu fun a7 a8 ax => ?_
  have ay : ∀ (ah : Bool) (w : World), Ya.j1 (Ya.l1 (Ya.l2 ai x0 x1) ag x0 ab aa) ac ah = some r → St w0 ρ ((.box a3 87 ([.int .i32 ((rd x0 aa).lo), .int .i32 ((rd x0 aa).hi), av])) :: (.row ad 4 Rep.bool.sz ab.length af) :: Γ) w → a7 [(1, .int .i64 x1), (5, ad), (8, .bool ah), (12, v0), (13, .int .i64 (x0.length : Int)), (14, .int .i64 aa), (30, av), (31, .int .i64 (((rd x0 aa).is_).length : Int)), (32, .int .i64 ac)] w := by
   intro ah w H hs
   rw [Ya.j1] at H
   refine a8 _ _ <| Zc <| Oad rfl <| Mv rfl <| Zd (an (ag, ah, (i64.wrap (ac + 1))) _ _ sbn (Ai H hs) (Nat.lt_succ_self _))
  refine Zj fun b7 b8 b9 => Zh fun ca a9 => Zc ?_
  obtain ⟨az, H⟩ := gd H
  obtain ⟨cb, cc, ba, bb⟩ := aw.ix Q7 az.1 az.2
  refine O_y rfl (bb rfl rfl) <| O_y rfl (Xp Xm rfl (hs.see ba.int)) <| As rfl <| Ox a9 <| Zc <| Mv rfl <| Mv rfl <| U8 (dj := 37) rfl (fun ar => ?_) (fun ar => ?_)
  rw [if_pos ar] at H
  refine On rfl <| On rfl <| On rfl <| Opk rfl <| As rfl <| Zd (ax _ _ _ sbn (ay true _ H hs))
  rw [if_neg (bft ar)] at H
  refine Oe rfl <| Mv rfl <| Oe rfl ?_
  obtain ⟨ao, a0, H⟩ := bnd H
  refine Oc rfl (Kk.c hs a0) (fun cd w hpost => ?_)
  obtain ⟨rfl, hs⟩ := hpost
  refine Oe rfl <| Ont rfl <| Opk rfl <| As rfl <| Zd (ax _ _ _ sbn (ay (!ao) _ H hs))
  rw [if_neg aq] at H
  refine Y4 (b2 _ _ (b0 _ _ <| Zc <| Mv rfl <| Mv rfl <| Ku (xs := [.tmp 44]) (cs := [.bool ae]) U9 hs rfl rfl rfl (by decide) (by decide) rfl (Yc rfl Kb) (Zv rfl Xy) (fun ce w hs => ?_)))
  have a1 : Zm Rep.bool ρ ([.bool ae]) [ae] := Zm.cons (c := [.bool ae]) (x := ae) rfl (Zm.nil _ _)
  obtain ⟨bc, H⟩ := gd H
  refine Qt (i := 2) U9 hs rfl al rfl rfl rfl (Src.lit (j := 0) hs rfl a1) a1 bc (fun bd a2 w be hs => As rfl <| Ox bs <| Zc <| Oad rfl <| Mv rfl <| Zd (ap (ai, (ab ++ ([ae])), (i64.wrap (aa + 1)), bd, a2) _ _ sbn (Ai H (Ai (hs.sub (ssk (ssk (ssc ssr)))) be)) (Nat.lt_succ_self _)))
 refine Zc <| Ofd Zck rfl <| Obx 0 Za8 hs rfl <| O_y rfl (Yv V2 aw rfl) <| Ols rfl <| Mv rfl <| X6 (dj := 22) rfl (fun au => ?_) (fun au => ?_)
 rw [if_pos au] at H
 refine On rfl <| On rfl <| On rfl <| On rfl <| On rfl <| Opk rfl <| As rfl <| Zd (bh _ _ _ sbn (bi true _ H hs))
 rw [if_neg au] at H
 refine Oe rfl <| Ofd Zck rfl <| Oe rfl <| Obx 0 Za8 hs rfl <| Oe rfl <| O_y rfl (Yv V2 aw rfl) <| Oe rfl <| Mv rfl <| Oe rfl <| Ogt rfl <| Opk rfl <| As rfl <| Zd (bh _ _ _ sbn (bi (decide (x1 < (((rd x0 aa).is_).length : Int))) _ H hs))
 rw [if_neg a4] at H
 refine Y4 (bp _ _ (bn _ _ <| Wr fun cf bf => Mv rfl <| As rfl <| Ox bf <| Zk ?_))
 obtain rfl := Zz H
 exact r1 rfl ⟨_, _, _, rfl, Le.rfl' _, hs, al⟩

def Q4.j1 (ad : Int → Option Bool) (aa : Int) (ab : Bool) : Option Bool := if ab = true then (some true) else (ad (i64.wrap (aa + 1)))
def Q4.l1 : Nat → Chs → List Val → Int → Option Bool
  | 0, _, _, _ => none
  | ac + 1, x0, x1, aa => if aa < (x1.length : Int) then (if (0 : Int) ≤ aa ∧ aa < (x1.length : Int) then (if ((rd x1 aa).lo) ≤ x0.hi then (Q4.j1 (Q4.l1 ac x0 x1) aa (decide (x0.lo ≤ ((rd x1 aa).hi)))) else (Q4.j1 (Q4.l1 ac x0 x1) aa false)) else none) else (some false)
def Q4.f (x0 : Chs) (x1 : List Val) : Option Bool := Q4.l1 K0 x0 x1 0
theorem Q4.c (hs : St w0 ρ (Γ) w) {c0 : List Value} {x0 : Chs} (h0 : Ks.R ρ c0 x0) {v1 : Value} {x1 : List Val} (h1 : SlR X9 ρ v1 x1) {r : Bool} (H : Q4.f x0 x1 = some r) : Zn Tryz.prog 51 [.agg c0.toArray, v1] w (fun v w' => v = .bool r ∧ St w0 ρ Γ w') := by
 rw [Q4.f] at H
 refine Et Tryz.func51 Tryz.ntmps51 rfl ?_
 have an := h0
 obtain ⟨ag, rfl, a6⟩ := an
 refine Wr fun a7 ao => Vg (cs := [.int .i32 x0.lo, .int .i32 x0.hi, ag]) hs rfl rfl (fun af w hs => As rfl <| Ox ao <| Zh fun a8 ap => Wr fun a9 aq => Mv rfl <| O_y rfl (Yv Zt9 h1 rfl) <| Mv rfl <| Ox aq <| Zj fun ba ar bb => Y9 (σ := Nat × Int) (fun (ac, aa) => [(2, .pointer (some ⟨af, 0, none⟩)), (7, v1), (8, .int .i64 (x1.length : Int)), (9, .int .i64 aa)]) (fun (ac, aa) w => Q4.l1 ac x0 x1 aa = some r ∧ St w0 ρ ((.box af 87 ([.int .i32 x0.lo, .int .i32 x0.hi, ag])) :: Γ) w) (fun s => s.1) (K0, 0) (T4 rfl) (Ai H hs) ?_)
 rintro ⟨ac, aa⟩ w bc ⟨H, hs⟩ ae
 show W _ _ _ _ _ _ [(2, .pointer (some ⟨af, 0, none⟩)), (7, v1), (8, .int .i64 (x1.length : Int)), (9, .int .i64 aa)] w
 cases ac with
 | zero => rw [Q4.l1] at H; cases H
 | succ ac =>
 rw [Q4.l1] at H
 refine Wr fun bd au => Ols rfl <| Ox au <| Zh fun be av => Y7 rfl (fun ah => ?_) (fun ah => ?_)
 rw [if_pos ah] at H
 refine Wx av <| Zh fun bf aw => Zj fun bg bh bi => Zh fun bj ax => Zc ?_
 obtain ⟨ak, H⟩ := gd H
 obtain ⟨bk, bl, ay, az⟩ := h1.ix Zpo ak.1 ak.2
 obtain ⟨_, rfl, a0⟩ := ay
 refine O_y rfl (az rfl rfl) <| O_y rfl (Qv Zof Zjz rfl rfl (fun j u hu => hs.see (a0 j u hu))) <| Y6 Zoy hs rfl (fun a1 w hs => Ye (i := 0) Zjz hs rfl rfl rfl rfl rfl (Zb rfl (Zb rfl (Zb rfl Yj))) (fun w hs => Ox ax <| Yu fun a2 a3 al => ?_))
 have am : ∀ (ab : Bool) (w : World), Q4.j1 (Q4.l1 ac x0 x1) aa ab = some r → St w0 ρ ((.box a1 128 ([.int .i32 ((rd x1 aa).lo), .int .i32 ((rd x1 aa).hi), .int .i64 ((rd x1 aa).n)])) :: (.box af 87 ([.int .i32 x0.lo, .int .i32 x0.hi, ag])) :: Γ) w → a2 [(2, .pointer (some ⟨af, 0, none⟩)), (7, v1), (8, .int .i64 (x1.length : Int)), (9, .int .i64 aa), (24, .bool ab)] w := by
  intro ab w H hs
  rw [Q4.j1] at H
  refine a3 _ _ <| Xg rfl (fun ai => ?_) (fun ai => ?_)
  rw [if_pos ai] at H
  refine Wr fun bm a4 => As rfl <| Ox a4 <| Zk ?_
  obtain rfl := Zz H
  exact r1 rfl ⟨rfl, (hs.sub (ssk (ssk ssr)))⟩
  rw [if_neg (bft ai)] at H
  refine Wx aw <| Zc <| Oad rfl <| Mv rfl <| Zd (ae (ac, (i64.wrap (aa + 1))) _ _ (T4 rfl) (Ai H (hs.sub (ssk (ssc ssr)))) (Nat.lt_succ_self _))
 refine Zc <| Ofd Zlq rfl <| Obx 0 Xm hs rfl <| Ofd Zkm rfl <| Obx 1 Xm hs rfl <| Ole rfl <| Mv rfl <| X6 (dj := 18) rfl (fun aj => ?_) (fun aj => ?_)
 rw [if_pos aj] at H
 refine Oe rfl <| Ofd Zk4 rfl <| Oe rfl <| Obx 0 Xm hs rfl <| Oe rfl <| Ofd Zez rfl <| Oe rfl <| Obx 1 Xm hs rfl <| Oe rfl <| Oge rfl <| Opk rfl <| Zd (al _ _ _ sbn (am (decide (x0.lo ≤ ((rd x1 aa).hi))) _ H hs))
 rw [if_neg aj] at H
 refine On rfl <| On rfl <| On rfl <| On rfl <| On rfl <| Opk rfl <| Zd (al _ _ _ sbn (am false _ H hs))
 rw [if_neg ah] at H
 refine Y4 (ar _ _ (ap _ _ <| Wr fun bn a5 => As rfl <| Ox a5 <| Zk ?_))
 obtain rfl := Zz H
 exact r1 rfl ⟨rfl, (hs.sub (ssk ssr))⟩

def Ys.j1 (ac : Bool) : Option Bool := some ac
def Ys.f (x0 x1 : Int) : Option Bool := if x0 ≤ 4370 then (if 4352 ≤ x1 then (Ys.j1 true) else (if x0 ≤ 4469 then (if 4449 ≤ x1 then (Ys.j1 true) else (if x0 ≤ 4546 then (if 4520 ≤ x1 then (Ys.j1 true) else (if x0 ≤ 55203 then (Ys.j1 (decide (44032 ≤ x1))) else (Ys.j1 false))) else (if x0 ≤ 55203 then (Ys.j1 (decide (44032 ≤ x1))) else (Ys.j1 false)))) else (if x0 ≤ 4546 then (if 4520 ≤ x1 then (Ys.j1 true) else (if x0 ≤ 55203 then (Ys.j1 (decide (44032 ≤ x1))) else (Ys.j1 false))) else (if x0 ≤ 55203 then (Ys.j1 (decide (44032 ≤ x1))) else (Ys.j1 false))))) else (if x0 ≤ 4469 then (if 4449 ≤ x1 then (Ys.j1 true) else (if x0 ≤ 4546 then (if 4520 ≤ x1 then (Ys.j1 true) else (if x0 ≤ 55203 then (Ys.j1 (decide (44032 ≤ x1))) else (Ys.j1 false))) else (if x0 ≤ 55203 then (Ys.j1 (decide (44032 ≤ x1))) else (Ys.j1 false)))) else (if x0 ≤ 4546 then (if 4520 ≤ x1 then (Ys.j1 true) else (if x0 ≤ 55203 then (Ys.j1 (decide (44032 ≤ x1))) else (Ys.j1 false))) else (if x0 ≤ 55203 then (Ys.j1 (decide (44032 ≤ x1))) else (Ys.j1 false))))
theorem Ys.c (hs : St w0 ρ (Γ) w) {x0 x1 : Int} {r : Bool} (H : Ys.f x0 x1 = some r) : Zn Tryz.prog 52 [.int .i32 x0, .int .i32 x1] w (fun v w' => v = .bool r ∧ St w0 ρ Γ w') := by
 rw [Ys.f] at H
 refine Et Tryz.func52 Tryz.ntmps52 rfl <| Wr fun a4 a1 => As rfl <| Ox a1 <| Yu fun a2 a3 aa => ?_
 have ab : ∀ (ac : Bool) (w : World), Ys.j1 ac = some r → St w0 ρ (Γ) w → a2 [(4, .bool ac)] w := by
  intro ac w H hs
  rw [Ys.j1] at H
  refine a3 _ _ <| Zk ?_
  obtain rfl := Zz H
  exact r1 rfl ⟨rfl, hs⟩
 refine Zc <| Mv rfl <| Ole rfl <| Mv rfl <| X6 (dj := 7) rfl (fun ad => ?_) (fun ad => ?_)
 rw [if_pos ad] at H
 refine Oe rfl <| Mv rfl <| Oe rfl <| Oge rfl <| Opk rfl <| Mv rfl <| X6 (dj := 11) rfl (fun ae => ?_) (fun ae => ?_)
 rw [if_pos ae] at H
 refine On rfl <| On rfl <| On rfl <| Kh rfl rfl rfl <| Kh rfl rfl rfl <| On rfl <| Opk rfl <| Mv rfl <| On rfl <| On rfl <| On rfl <| Kh rfl rfl rfl <| Kh rfl rfl rfl <| On rfl ?_
 refine Opk rfl <| Mv rfl <| On rfl <| On rfl <| On rfl <| Kh rfl rfl rfl <| Kh rfl rfl rfl <| On rfl <| Opk rfl <| As rfl <| Zd (aa _ _ _ (S1 rfl) (ab true _ H hs))
 rw [if_neg ae] at H
 refine Oe rfl <| Mv rfl <| Oe rfl <| Ole rfl <| Oe rfl <| Mv rfl <| X6 (dj := 14) rfl (fun af => ?_) (fun af => ?_)
 rw [if_pos af] at H
 refine Oe rfl <| Mv rfl <| Oe rfl <| Oge rfl <| Oe rfl <| Opk rfl <| Opk rfl <| Mv rfl <| X6 (dj := 19) rfl (fun ag => ?_) (fun ag => ?_)
 rw [if_pos ag] at H
 refine On rfl <| On rfl <| On rfl <| Kh rfl rfl rfl <| Kh rfl rfl rfl <| On rfl <| Opk rfl <| Mv rfl <| On rfl <| On rfl <| On rfl <| Kh rfl rfl rfl <| Kh rfl rfl rfl <| On rfl ?_
 refine Opk rfl <| As rfl <| Zd (aa _ _ _ (S1 rfl) (ab true _ H hs))
 rw [if_neg ag] at H
 refine Oe rfl <| Mv rfl <| Oe rfl <| Ole rfl <| Oe rfl <| Mv rfl <| X6 (dj := 22) rfl (fun ah => ?_) (fun ah => ?_)
 rw [if_pos ah] at H
 refine Oe rfl <| Mv rfl <| Oe rfl <| Oge rfl <| Oe rfl <| Opk rfl <| Opk rfl <| Mv rfl <| X6 (dj := 27) rfl (fun ai => ?_) (fun ai => ?_)
 rw [if_pos ai] at H
 refine On rfl <| On rfl <| On rfl <| Kh rfl rfl rfl <| Kh rfl rfl rfl <| On rfl <| Opk rfl <| As rfl <| Zd (aa _ _ _ (S1 rfl) (ab true _ H hs))
 rw [if_neg ai] at H
 refine Oe rfl <| Mv rfl <| Oe rfl <| Ole rfl <| Oe rfl <| Mv rfl <| X6 (dj := 30) rfl (fun aj => ?_) (fun aj => ?_)
 rw [if_pos aj] at H
 refine Oe rfl <| Mv rfl <| Oe rfl <| Oge rfl <| Oe rfl <| Opk rfl <| Opk rfl <| As rfl <| Zd (aa _ _ _ (S1 rfl) (ab (decide (44032 ≤ x1)) _ H hs))
 rw [if_neg aj] at H
 refine On rfl <| On rfl <| Oe rfl <| Opk rfl <| Opk rfl <| As rfl <| Zd (aa _ _ _ (S1 rfl) (ab false _ H hs))
 rw [if_neg ah] at H
 refine On rfl <| On rfl <| Oe rfl <| Opk rfl <| Opk rfl <| Mv rfl <| Oe rfl <| Mv rfl <| Oe rfl <| Ole rfl <| Oe rfl <| Mv rfl <| X6 (dj := 30) rfl (fun ak => ?_) (fun ak => ?_)
 rw [if_pos ak] at H
 refine Oe rfl <| Mv rfl <| Oe rfl <| Oge rfl <| Oe rfl <| Opk rfl <| Opk rfl <| As rfl <| Zd (aa _ _ _ (S1 rfl) (ab (decide (44032 ≤ x1)) _ H hs))
 rw [if_neg ak] at H
 refine On rfl <| On rfl <| Oe rfl <| Opk rfl <| Opk rfl <| As rfl <| Zd (aa _ _ _ (S1 rfl) (ab false _ H hs))
 rw [if_neg af] at H
 refine On rfl <| On rfl <| Oe rfl <| Opk rfl <| Opk rfl <| Mv rfl <| Oe rfl <| Mv rfl <| Oe rfl <| Ole rfl <| Oe rfl <| Mv rfl <| X6 (dj := 22) rfl (fun al => ?_) (fun al => ?_)
 rw [if_pos al] at H
 refine Oe rfl <| Mv rfl <| Oe rfl <| Oge rfl <| Oe rfl <| Opk rfl <| Opk rfl <| Mv rfl <| X6 (dj := 27) rfl (fun am => ?_) (fun am => ?_)
 rw [if_pos am] at H
 refine On rfl <| On rfl <| On rfl <| Kh rfl rfl rfl <| Kh rfl rfl rfl <| On rfl <| Opk rfl <| As rfl <| Zd (aa _ _ _ (S1 rfl) (ab true _ H hs))
 rw [if_neg am] at H
 refine Oe rfl <| Mv rfl <| Oe rfl <| Ole rfl <| Oe rfl <| Mv rfl <| X6 (dj := 30) rfl (fun an => ?_) (fun an => ?_)
 rw [if_pos an] at H
 refine Oe rfl <| Mv rfl <| Oe rfl <| Oge rfl <| Oe rfl <| Opk rfl <| Opk rfl <| As rfl <| Zd (aa _ _ _ (S1 rfl) (ab (decide (44032 ≤ x1)) _ H hs))
 rw [if_neg an] at H
 refine On rfl <| On rfl <| Oe rfl <| Opk rfl <| Opk rfl <| As rfl <| Zd (aa _ _ _ (S1 rfl) (ab false _ H hs))
 rw [if_neg al] at H
 refine On rfl <| On rfl <| Oe rfl <| Opk rfl <| Opk rfl <| Mv rfl <| Oe rfl <| Mv rfl <| Oe rfl <| Ole rfl <| Oe rfl <| Mv rfl <| X6 (dj := 30) rfl (fun ao => ?_) (fun ao => ?_)
 rw [if_pos ao] at H
 refine Oe rfl <| Mv rfl <| Oe rfl <| Oge rfl <| Oe rfl <| Opk rfl <| Opk rfl <| As rfl <| Zd (aa _ _ _ (S1 rfl) (ab (decide (44032 ≤ x1)) _ H hs))
 rw [if_neg ao] at H
 refine On rfl <| On rfl <| Oe rfl <| Opk rfl <| Opk rfl <| As rfl <| Zd (aa _ _ _ (S1 rfl) (ab false _ H hs))
 rw [if_neg ad] at H
 refine On rfl <| On rfl <| Opk rfl <| Mv rfl <| Oe rfl <| Mv rfl <| Oe rfl <| Ole rfl <| Oe rfl <| Mv rfl <| X6 (dj := 14) rfl (fun ap => ?_) (fun ap => ?_)
 rw [if_pos ap] at H
 refine Oe rfl <| Mv rfl <| Oe rfl <| Oge rfl <| Oe rfl <| Opk rfl <| Opk rfl <| Mv rfl <| X6 (dj := 19) rfl (fun aq => ?_) (fun aq => ?_)
 rw [if_pos aq] at H
 refine On rfl <| On rfl <| On rfl <| Kh rfl rfl rfl <| Kh rfl rfl rfl <| On rfl <| Opk rfl <| Mv rfl <| On rfl <| On rfl <| On rfl <| Kh rfl rfl rfl <| Kh rfl rfl rfl <| On rfl ?_
 refine Opk rfl <| As rfl <| Zd (aa _ _ _ (S1 rfl) (ab true _ H hs))
 rw [if_neg aq] at H
 refine Oe rfl <| Mv rfl <| Oe rfl <| Ole rfl <| Oe rfl <| Mv rfl <| X6 (dj := 22) rfl (fun ar => ?_) (fun ar => ?_)
 rw [if_pos ar] at H
 refine Oe rfl <| Mv rfl <| Oe rfl <| Oge rfl <| Oe rfl <| Opk rfl <| Opk rfl <| Mv rfl <| X6 (dj := 27) rfl (fun au => ?_) (fun au => ?_)
 rw [if_pos au] at H
 refine On rfl <| On rfl <| On rfl <| Kh rfl rfl rfl <| Kh rfl rfl rfl <| On rfl <| Opk rfl <| As rfl <| Zd (aa _ _ _ (S1 rfl) (ab true _ H hs))
 rw [if_neg au] at H
 refine Oe rfl <| Mv rfl <| Oe rfl <| Ole rfl <| Oe rfl <| Mv rfl <| X6 (dj := 30) rfl (fun av => ?_) (fun av => ?_)
 rw [if_pos av] at H
 refine Oe rfl <| Mv rfl <| Oe rfl <| Oge rfl <| Oe rfl <| Opk rfl <| Opk rfl <| As rfl <| Zd (aa _ _ _ (S1 rfl) (ab (decide (44032 ≤ x1)) _ H hs))
 rw [if_neg av] at H
 refine On rfl <| On rfl <| Oe rfl <| Opk rfl <| Opk rfl <| As rfl <| Zd (aa _ _ _ (S1 rfl) (ab false _ H hs))
 rw [if_neg ar] at H
 refine On rfl <| On rfl <| Oe rfl <| Opk rfl <| Opk rfl <| Mv rfl <| Oe rfl <| Mv rfl <| Oe rfl <| Ole rfl <| Oe rfl <| Mv rfl <| X6 (dj := 30) rfl (fun aw => ?_) (fun aw => ?_)
 rw [if_pos aw] at H
 refine Oe rfl <| Mv rfl <| Oe rfl <| Oge rfl <| Oe rfl <| Opk rfl <| Opk rfl <| As rfl <| Zd (aa _ _ _ (S1 rfl) (ab (decide (44032 ≤ x1)) _ H hs))
 rw [if_neg aw] at H
 refine On rfl <| On rfl <| Oe rfl <| Opk rfl <| Opk rfl <| As rfl <| Zd (aa _ _ _ (S1 rfl) (ab false _ H hs))
 rw [if_neg ap] at H
 refine On rfl <| On rfl <| Oe rfl <| Opk rfl <| Opk rfl <| Mv rfl <| Oe rfl <| Mv rfl <| Oe rfl <| Ole rfl <| Oe rfl <| Mv rfl <| X6 (dj := 22) rfl (fun ax => ?_) (fun ax => ?_)
 rw [if_pos ax] at H
 refine Oe rfl <| Mv rfl <| Oe rfl <| Oge rfl <| Oe rfl <| Opk rfl <| Opk rfl <| Mv rfl <| X6 (dj := 27) rfl (fun ay => ?_) (fun ay => ?_)
 rw [if_pos ay] at H
 refine On rfl <| On rfl <| On rfl <| Kh rfl rfl rfl <| Kh rfl rfl rfl <| On rfl <| Opk rfl <| As rfl <| Zd (aa _ _ _ (S1 rfl) (ab true _ H hs))
 rw [if_neg ay] at H
 refine Oe rfl <| Mv rfl <| Oe rfl <| Ole rfl <| Oe rfl <| Mv rfl <| X6 (dj := 30) rfl (fun az => ?_) (fun az => ?_)
 rw [if_pos az] at H
 refine Oe rfl <| Mv rfl <| Oe rfl <| Oge rfl <| Oe rfl <| Opk rfl <| Opk rfl <| As rfl <| Zd (aa _ _ _ (S1 rfl) (ab (decide (44032 ≤ x1)) _ H hs))
 rw [if_neg az] at H
 refine On rfl <| On rfl <| Oe rfl <| Opk rfl <| Opk rfl <| As rfl <| Zd (aa _ _ _ (S1 rfl) (ab false _ H hs))
 rw [if_neg ax] at H
 refine On rfl <| On rfl <| Oe rfl <| Opk rfl <| Opk rfl <| Mv rfl <| Oe rfl <| Mv rfl <| Oe rfl <| Ole rfl <| Oe rfl <| Mv rfl <| X6 (dj := 30) rfl (fun a0 => ?_) (fun a0 => ?_)
 rw [if_pos a0] at H
 refine Oe rfl <| Mv rfl <| Oe rfl <| Oge rfl <| Oe rfl <| Opk rfl <| Opk rfl <| As rfl <| Zd (aa _ _ _ (S1 rfl) (ab (decide (44032 ≤ x1)) _ H hs))
 rw [if_neg a0] at H
 refine On rfl <| On rfl <| Oe rfl <| Opk rfl <| Opk rfl <| As rfl <| Zd (aa _ _ _ (S1 rfl) (ab false _ H hs))

def Xb.j1 (ae : Int → Option Bool) (aa : Int) (ac : Bool) : Option Bool := if ac = true then (some false) else (ae (i64.wrap (aa + 1)))
def Xb.l1 : Nat → ByteArray → Int → Option Bool
  | 0, _, _ => none
  | ab + 1, x0, aa => if aa < (x0.size : Int) then (if (0 : Int) ≤ aa ∧ aa < (x0.size : Int) then (if 97 ≤ (bt x0 aa) then (if (bt x0 aa) ≤ 122 then (Xb.j1 (Xb.l1 ab x0) aa (!true)) else (if 65 ≤ (bt x0 aa) then (Xb.j1 (Xb.l1 ab x0) aa (decide (¬ ((bt x0 aa) ≤ 90)))) else (Xb.j1 (Xb.l1 ab x0) aa (!false)))) else (if 65 ≤ (bt x0 aa) then (Xb.j1 (Xb.l1 ab x0) aa (decide (¬ ((bt x0 aa) ≤ 90)))) else (Xb.j1 (Xb.l1 ab x0) aa (!false)))) else none) else (some true)
def Xb.j2 (x0 : ByteArray) (ad : Bool) : Option Bool := if ad = true then (some false) else (Xb.l1 K0 x0 0)
def Xb.f (x0 : ByteArray) : Option Bool := if (x0.size : Int) < 1 then (Xb.j2 x0 true) else (Xb.j2 x0 (decide (32 < (x0.size : Int))))
theorem Xb.c (hs : St w0 ρ (Γ) w) {x0 : ByteArray} {r : Bool} (H : Xb.f x0 = some r) : Zn Tryz.prog 83 [.string x0] w (fun v w' => v = .bool r ∧ St w0 ρ Γ w') := by
 rw [Xb.f] at H
 refine Et Tryz.func83 Tryz.ntmps83 rfl <| Wr fun bb av => As rfl <| Ox av <| Zh fun bc aw => Yu fun ax ay aq => ?_
 have ar : ∀ (ad : Bool) (w : World), Xb.j2 x0 ad = some r → St w0 ρ (Γ) w → ax [(0, .string x0), (12, .bool ad)] w := by
  intro ad w H hs
  rw [Xb.j2] at H
  refine ay _ _ <| Xg rfl (fun ai => ?_) (fun ai => ?_)
  rw [if_pos ai] at H
  refine Wr fun bd az => As rfl <| Ox az <| Zk ?_
  obtain rfl := Zz H
  exact r1 rfl ⟨rfl, hs⟩
  rw [if_neg (bft ai)] at H
  refine Wx aw <| Zh fun be a0 => Wr fun bf a1 => As rfl <| Ox a1 <| Zj fun bg a2 bh => Y9 (σ := Nat × Int) (fun (ab, aa) => [(0, .string x0), (3, .int .i64 aa)]) (fun (ab, aa) w => Xb.l1 ab x0 aa = some r ∧ St w0 ρ (Γ) w) (fun s => s.1) (K0, 0) (T2 rfl) (Ai H hs) ?_
  rintro ⟨ab, aa⟩ w bi ⟨H, hs⟩ af
  show W _ _ _ _ _ _ [(0, .string x0), (3, .int .i64 aa)] w
  cases ab with
  | zero => rw [Xb.l1] at H; cases H
  | succ ab =>
  rw [Xb.l1] at H
  refine Zh fun bj a3 => Wr fun bk a4 => Mv rfl <| Mv rfl <| O_y rfl (Zd0 un9 rfl) <| Ols rfl <| Ox a4 <| Y7 rfl (fun aj => ?_) (fun aj => ?_)
  rw [if_pos aj] at H
  refine Wx a3 <| Zh fun bl a5 => Zj fun bm bn bo => Wr fun bp a6 => Mv rfl <| Mv rfl ?_
  obtain ⟨au, H⟩ := gd H
  refine O_y rfl (Zs4 un9 rfl rfl au.1 au.2) <| As rfl <| Ox a6 <| Yu fun a7 a8 ag => ?_
  have ah : ∀ (ac : Bool) (w : World), Xb.j1 (Xb.l1 ab x0) aa ac = some r → St w0 ρ (Γ) w → a7 [(0, .string x0), (3, .int .i64 aa), (36, .bool ac)] w := by
   intro ac w H hs
   rw [Xb.j1] at H
   refine a8 _ _ <| Xg rfl (fun ak => ?_) (fun ak => ?_)
   rw [if_pos ak] at H
   refine Wr fun bq a9 => As rfl <| Ox a9 <| Zk ?_
   obtain rfl := Zz H
   exact r1 rfl ⟨rfl, hs⟩
   rw [if_neg (bft ak)] at H
   refine Wx a5 <| Zc <| Mv rfl <| Oad rfl <| As rfl <| Zd (af (ab, (i64.wrap (aa + 1))) _ _ (T2 rfl) (Ai H hs) (Nat.lt_succ_self _))
  refine Zc <| Mv rfl <| Oge rfl <| Mv rfl <| X6 (dj := 24) rfl (fun al => ?_) (fun al => ?_)
  rw [if_pos al] at H
  refine Oe rfl <| Mv rfl <| Oe rfl <| Ole rfl <| Opk rfl <| Mv rfl <| X6 (dj := 28) rfl (fun am => ?_) (fun am => ?_)
  rw [if_pos am] at H
  refine On rfl <| On rfl <| On rfl <| Kh rfl rfl rfl <| Kh rfl rfl rfl <| On rfl <| Opk rfl <| Ont rfl <| Zd (ag _ _ _ (T3 rfl) (ah (!true) _ H hs))
  rw [if_neg am] at H
  refine Oe rfl <| Mv rfl <| Oe rfl <| Oge rfl <| Oe rfl <| Mv rfl <| X6 (dj := 31) rfl (fun an => ?_) (fun an => ?_)
  rw [if_pos an] at H
  refine Oe rfl <| Mv rfl <| Oe rfl <| Ole rfl <| Oe rfl <| Opk rfl <| Opk rfl <| O_y rfl (Zk5 rfl) <| Zd (ag _ _ _ (T3 rfl) (ah (decide (¬ ((bt x0 aa) ≤ 90))) _ H hs))
  rw [if_neg an] at H
  refine On rfl <| On rfl <| Oe rfl <| Opk rfl <| Opk rfl <| Ont rfl <| Zd (ag _ _ _ (T3 rfl) (ah (!false) _ H hs))
  rw [if_neg al] at H
  refine On rfl <| On rfl <| Opk rfl <| Mv rfl <| Oe rfl <| Mv rfl <| Oe rfl <| Oge rfl <| Oe rfl <| Mv rfl <| X6 (dj := 31) rfl (fun ao => ?_) (fun ao => ?_)
  rw [if_pos ao] at H
  refine Oe rfl <| Mv rfl <| Oe rfl <| Ole rfl <| Oe rfl <| Opk rfl <| Opk rfl <| O_y rfl (Zk5 rfl) <| Zd (ag _ _ _ (T3 rfl) (ah (decide (¬ ((bt x0 aa) ≤ 90))) _ H hs))
  rw [if_neg ao] at H
  refine On rfl <| On rfl <| Oe rfl <| Opk rfl <| Opk rfl <| Ont rfl <| Zd (ag _ _ _ (T3 rfl) (ah (!false) _ H hs))
  rw [if_neg aj] at H
  refine Y4 (a2 _ _ (a0 _ _ <| Wr fun br ba => As rfl <| Ox ba <| Zk ?_))
  obtain rfl := Zz H
  exact r1 rfl ⟨rfl, hs⟩
 refine Zc <| Mv rfl <| O_y rfl (Zd0 un9 rfl) <| Ols rfl <| Mv rfl <| X6 (dj := 8) rfl (fun ap => ?_) (fun ap => ?_)
 rw [if_pos ap] at H
 refine On rfl <| On rfl <| On rfl <| Opk rfl <| Zd (aq _ _ _ (T2 rfl) (ar true _ H hs))
 rw [if_neg ap] at H
 refine Oe rfl <| Mv rfl <| Oe rfl <| O_y rfl (Zd0 un9 rfl) <| Oe rfl <| Ogt rfl <| Opk rfl <| Zd (aq _ _ _ (T2 rfl) (ar (decide (32 < (x0.size : Int))) _ H hs))

def Qa.l1 (ae : Int → Option Int) : Nat → List ByteArray → Int → Int → Option Int
  | 0, _, _, _ => none
  | ac + 1, x0, aa, ab => if ab < ((sub x0 0 aa).length : Int) then (if (0 : Int) ≤ ab ∧ ab < ((sub x0 0 aa).length : Int) then (if (rd (sub x0 0 aa) ab) = (rd x0 aa) then (some aa) else ((Qa.l1 ae ac x0 aa) (i64.wrap (ab + 1)))) else none) else (ae (i64.wrap (aa + 1)))
def Qa.l2 : Nat → List ByteArray → Int → Option Int
  | 0, _, _ => none
  | ad + 1, x0, aa => if aa < (x0.length : Int) then (if (0 : Int) ≤ aa ∧ aa < (x0.length : Int) then ((Xb.f (rd x0 aa)).bind fun a4 => (if (!a4) = true then (some aa) else (if (0 : Int) ≤ 0 ∧ 0 ≤ aa ∧ aa ≤ (x0.length : Int) then (Qa.l1 (Qa.l2 ad x0) K0 x0 aa 0) else none))) else none) else (some (-1))
def Qa.f (x0 : List ByteArray) : Option Int := if 64 < (x0.length : Int) then (some 64) else (Qa.l2 K0 x0 0)
theorem Qa.c (hs : St w0 ρ (Γ) w) {v0 : Value} {x0 : List ByteArray} (h0 : SlR Rep.str ρ v0 x0) {r : Int} (H : Qa.f x0 = some r) : Zn Tryz.prog 53 [v0] w (fun v w' => v = .int .i64 r ∧ St w0 ρ Γ w') := by
 rw [Qa.f] at H
 refine Et Tryz.func53 Tryz.ntmps53 rfl <| Wr fun b3 a6 => As rfl <| Ox a6 <| Zh fun b4 a7 => Wr fun b5 a8 => Mv rfl <| O_y rfl (Yv Zga h0 rfl) <| Ogt rfl <| Ox a8 <| Y7 rfl (fun am => ?_) (fun am => ?_)
 rw [if_pos am] at H
 refine Wr fun b6 a9 => As rfl <| Ox a9 <| Zk ?_
 obtain rfl := Zz H
 exact r1 rfl ⟨rfl, hs⟩
 rw [if_neg am] at H
 refine Wx a7 <| Zh fun b7 ba => Wr fun b8 bb => Mv rfl <| O_y rfl (Yv Zga h0 rfl) <| Mv rfl <| Ox bb <| Zj fun b9 bc ca => Y9 (σ := Nat × Int) (fun (ad, aa) => [(0, v0), (10, v0), (11, .int .i64 (x0.length : Int)), (12, .int .i64 aa)]) (fun (ad, aa) w => Qa.l2 ad x0 aa = some r ∧ St w0 ρ (Γ) w) (fun s => s.1) (K0, 0) (T4 rfl) (Ai H hs) ?_
 rintro ⟨ad, aa⟩ w cb ⟨H, hs⟩ ag
 show W _ _ _ _ _ _ [(0, v0), (10, v0), (11, .int .i64 (x0.length : Int)), (12, .int .i64 aa)] w
 cases ad with
 | zero => rw [Qa.l2] at H; cases H
 | succ ad =>
 rw [Qa.l2] at H
 refine Wr fun cc bd => Ols rfl <| Ox bd <| Zh fun cd be => Y7 rfl (fun an => ?_) (fun an => ?_)
 ·rw [if_pos an] at H
  refine Wx be <| Zh fun ce bf => Zj fun cf cg ch => Wr fun ci bg => Mv rfl ?_
  obtain ⟨a5, H⟩ := gd H
  obtain ⟨cj, ck, bh, bi⟩ := h0.ix Zf7 a5.1 a5.2
  refine O_y rfl (bi rfl rfl) <| O_y rfl (Xp ag9 rfl (hs.see bh.str)) <| As rfl <| As rfl <| Ox bg <| Zh fun cl bj => Wr fun cm bk => Mv rfl ?_
  obtain ⟨a4, ao, H⟩ := bnd H
  refine Oc rfl (Xb.c hs ao) (fun cn w hpost => ?_)
  obtain ⟨rfl, hs⟩ := hpost
  refine Ont rfl <| Ox bk <| Xg rfl (fun ap => ?_) (fun ap => ?_)
  rw [if_pos ap] at H
  refine Wr fun co bl => Mv rfl <| As rfl <| Ox bl <| W.weak [(2, _)] (S1 rfl) <| Zk ?_
  obtain rfl := Zz H
  exact r1 rfl ⟨rfl, hs⟩
  rw [if_neg (bft ap)] at H
  refine Wx bj <| Wr fun cp bm => Mv rfl <| Mv rfl ?_
  obtain ⟨aq, H⟩ := gd H
  obtain ⟨aj, ak, ar⟩ := h0.cut Zf7 aq.1 aq.2.1 aq.2.2
  refine O_y rfl (ar rfl (.inl ⟨rfl, rfl⟩) (.inr ⟨_, _, rfl, rfl⟩)) <| O_y rfl (Yv Zga ak rfl) <| Mv rfl <| Ox bm <| W.weak [(0, _), (3, _), (4, _), (10, _), (11, _), (12, _), (23, _), (24, _), (25, _)] sbn ?_
  refine Zj fun bn au bo => Y9 (σ := Nat × Int) (fun (ac, ab) => [(0, v0), (3, .int .i64 aa), (4, .string (rd x0 aa)), (10, v0), (11, .int .i64 (x0.length : Int)), (12, .int .i64 aa), (23, aj), (24, .int .i64 ((sub x0 0 aa).length : Int)), (25, .int .i64 ab)]) (fun (ac, ab) w => Qa.l1 (Qa.l2 ad x0) ac x0 aa ab = some r ∧ St w0 ρ (Γ) w) (fun s => s.1) (K0, 0) sbn (Ai H hs) ?_
  rintro ⟨ac, ab⟩ w bp ⟨H, hs⟩ af
  show W _ _ _ _ _ _ [(0, v0), (3, .int .i64 aa), (4, .string (rd x0 aa)), (10, v0), (11, .int .i64 (x0.length : Int)), (12, .int .i64 aa), (23, aj), (24, .int .i64 ((sub x0 0 aa).length : Int)), (25, .int .i64 ab)] w
  cases ac with
  | zero => rw [Qa.l1] at H; cases H
  | succ ac =>
  rw [Qa.l1] at H
  refine Wr fun bq av => Ols rfl <| Ox av <| Zh fun br aw => Y7 rfl (fun ah => ?_) (fun ah => ?_)
  rw [if_pos ah] at H
  refine Wx aw <| Zh fun bs ax => Zj fun bt bu bv => Zh fun bw ay => Zc ?_
  obtain ⟨al, H⟩ := gd H
  obtain ⟨bx, bz, az, a0⟩ := ak.ix Zf7 al.1 al.2
  refine O_y rfl (a0 rfl rfl) <| O_y rfl (Xp ag9 rfl (hs.see az.str)) <| As rfl <| Ox ay <| Wr fun b0 a1 => Mv rfl <| Mv rfl <| O_y rfl (Zls rfl rfl) <| Ox a1 <| W.weak [(0, _), (3, _), (4, _), (10, _), (11, _), (12, _), (23, _), (24, _), (25, _), (31, _)] sbn ?_
  refine Y7 rfl (fun ai => ?_) (fun ai => ?_)
  rw [if_pos ai] at H
  refine Wr fun b1 a2 => Mv rfl <| As rfl <| Ox a2 <| Zk ?_
  obtain rfl := Zz H
  exact r1 rfl ⟨rfl, hs⟩
  rw [if_neg ai] at H
  refine Wx ax <| Zc <| Oad rfl <| Mv rfl <| Zd (af (ac, (i64.wrap (ab + 1))) _ _ sbn (Ai H hs) (Nat.lt_succ_self _))
  rw [if_neg ah] at H
  refine Y4 (au _ _ (bf _ _ <| Zc <| Oad rfl <| Mv rfl <| Zd (ag (ad, (i64.wrap (aa + 1))) _ _ (T4 rfl) (Ai H hs) (Nat.lt_succ_self _))))
 rw [if_neg an] at H
 refine Y4 (bc _ _ (ba _ _ <| Wr fun b2 a3 => As rfl <| Ox a3 <| Zk ?_))
 obtain rfl := Zz H
 exact r1 rfl ⟨rfl, hs⟩

def Qg.l1 : Nat → List Val → List Spn → Int → Option (List Spn)
  | 0, _, _, _ => none
  | ae + 1, x0, ab, aa => if aa < (x0.length : Int) then (if (0 : Int) ≤ aa ∧ aa < (x0.length : Int) then (if ab.length + ([(⟨(rd x0 aa).lo, (rd x0 aa).hi⟩ : Spn)]).length ≤ most then ((Qg.l1 ae x0) (ab ++ ([(⟨(rd x0 aa).lo, (rd x0 aa).hi⟩ : Spn)])) (i64.wrap (aa + 1))) else none) else none) else (some ab)
def Qg.f (x0 : List Val) : Option (List Spn) := Qg.l1 K0 x0 ([] : List Spn) 0
theorem Qg.c (hs : St w0 ρ (Γ) w) {v0 : Value} {x0 : List Val} (h0 : SlR X9 ρ v0 x0) {r : List Spn} (H : Qg.f x0 = some r) : Zn Tryz.prog 55 [v0] w (fun v w' => ∃ (ρ' : Hp) (v0 : Value) (cs0 : List Value), v = v0 ∧ Le ρ ρ' ∧ St w0 ρ' (.row v0 90 Kd.sz r.length cs0 :: Γ) w' ∧ Zm Kd ρ' cs0 r) := by
 rw [Qg.f] at H
 refine Et Tryz.func55 Tryz.ntmps55 rfl <| Wr fun a5 al => As rfl <| Ox al <| Wr fun a6 am => Ku (xs := []) (cs := []) Zg6 hs rfl rfl rfl (by decide) (by decide) rfl Kb Xy (fun an w hs => ?_)
 have ao : Zm Kd ρ ([]) ([] : List Spn) := Zm.nil _ _
 refine As rfl <| Ox am <| Zh fun a7 ap => Wr fun a8 aq => Mv rfl <| O_y rfl (Yv Zt9 h0 rfl) <| Mv rfl <| Ox aq <| Zj fun a9 ar ba => Y9 (σ := Nat × List Spn × Int × Value × List Value) (fun (ae, ab, aa, ac, ad) => [(3, ac), (7, v0), (8, .int .i64 (x0.length : Int)), (9, .int .i64 aa)]) (fun (ae, ab, aa, ac, ad) w => Qg.l1 ae x0 ab aa = some r ∧ St w0 ρ ((.row ac 90 Kd.sz ab.length ad) :: Γ) w ∧ Zm Kd ρ ad ab) (fun s => s.1) (K0, ([] : List Spn), 0, (.slice (some ⟨an, 0, none⟩) 0 0), ([])) (T4 rfl) (Ai H (Ai hs ao)) ?_
 rintro ⟨ae, ab, aa, ac, ad⟩ w bb ⟨H, hs, af⟩ ag
 show W _ _ _ _ _ _ [(3, ac), (7, v0), (8, .int .i64 (x0.length : Int)), (9, .int .i64 aa)] w
 cases ae with
 | zero => rw [Qg.l1] at H; cases H
 | succ ae =>
 rw [Qg.l1] at H
 refine Wr fun bc au => Ols rfl <| Ox au <| Zh fun bd av => Y7 rfl (fun ah => ?_) (fun ah => ?_)
 rw [if_pos ah] at H
 refine Wx av <| Zh fun be aw => Zj fun bf bg bh => Zh fun bi ax => Zc ?_
 obtain ⟨aj, H⟩ := gd H
 obtain ⟨bj, bk, ay, az⟩ := h0.ix Zpo aj.1 aj.2
 obtain ⟨_, rfl, a0⟩ := ay
 refine O_y rfl (az rfl rfl) <| O_y rfl (Qv Zof Zjz rfl rfl (fun j u hu => hs.see (a0 j u hu))) <| Y6 Zoy hs rfl (fun bl w hs => Ye (i := 0) Zjz hs rfl rfl rfl rfl rfl (Zb rfl (Zb rfl (Zb rfl Yj))) (fun w hs => Ox ax <| Zc <| Mv rfl <| Ofd Zlq rfl <| Obx 0 Xm hs rfl <| Ofd Zk4 rfl <| Obx 0 Xm hs rfl <| O_y rfl (Qe (cs := [.int .i32 ((rd x0 aa).lo), .int .i32 ((rd x0 aa).hi)]) Zs1 Zvq ((Z2.cons rfl rfl (Z2.cons rfl rfl Z2.nil))) Zsb (by kernel_rfl)) <| Ku (xs := [.tmp 18]) (cs := [.int .i32 ((rd x0 aa).lo), .int .i32 ((rd x0 aa).hi)]) Zg6 hs rfl rfl rfl (by decide) (by decide) rfl (Yc rfl Kb) (Zv rfl Xy) (fun bm w hs => ?_)))
 have ak : Zm Kd ρ ([.int .i32 ((rd x0 aa).lo), .int .i32 ((rd x0 aa).hi)]) [(⟨(rd x0 aa).lo, (rd x0 aa).hi⟩ : Spn)] := Zm.cons (c := [.int .i32 ((rd x0 aa).lo), .int .i32 ((rd x0 aa).hi)]) (x := (⟨(rd x0 aa).lo, (rd x0 aa).hi⟩ : Spn)) rfl (Zm.nil _ _)
 obtain ⟨a1, H⟩ := gd H
 refine Qt (i := 2) Zg6 hs rfl af rfl rfl rfl (Src.lit (j := 0) hs rfl ak) ak a1 (fun a2 ai w a3 hs => As rfl <| Ox aw <| W.weak [(3, _), (7, _), (8, _), (9, _)] (T4 rfl) <| Zc <| Oad rfl <| Mv rfl <| Zd (ag (ae, (ab ++ ([(⟨(rd x0 aa).lo, (rd x0 aa).hi⟩ : Spn)])), (i64.wrap (aa + 1)), a2, ai) _ _ (T4 rfl) (Ai H (Ai (hs.sub (ssk (ssk (ssc ssr)))) a3)) (Nat.lt_succ_self _)))
 rw [if_neg ah] at H
 refine Y4 (ar _ _ (ap _ _ <| Wr fun bn a4 => Mv rfl <| As rfl <| Ox a4 <| Zk ?_))
 obtain rfl := Zz H
 exact r1 rfl ⟨_, _, _, rfl, Le.rfl' _, hs, af⟩

def Yg.j1 (al : List Bool → Int → Option (List Bool)) (ab : Int) (ac : List Bool) : Option (List Bool) := al ac (i64.wrap (ab + 1))
def Yg.l1 : Nat → List Val → Int → Int → Bool → List Bool → Int → Option (List Bool)
  | 0, _, _, _, _, _, _ => none
  | ai + 1, x0, x1, x2, x3, aa, ab => if ab < (x0.length : Int) then (if (0 : Int) ≤ ab ∧ ab < (x0.length : Int) then (if ((rd x0 ab).n) < x1 then (if aa.length + ([true]).length ≤ most then (Yg.j1 (Yg.l1 ai x0 x1 x2 x3) ab (aa ++ ([true]))) else none) else (if x2 < ((rd x0 ab).n) then (if aa.length + ([true]).length ≤ most then (Yg.j1 (Yg.l1 ai x0 x1 x2 x3) ab (aa ++ ([true]))) else none) else (if x3 = true then ((Ys.f ((rd x0 ab).lo) ((rd x0 ab).hi)).bind fun aj => (if aa.length + ([aj]).length ≤ most then (Yg.j1 (Yg.l1 ai x0 x1 x2 x3) ab (aa ++ ([aj]))) else none)) else (if aa.length + ([false]).length ≤ most then (Yg.j1 (Yg.l1 ai x0 x1 x2 x3) ab (aa ++ ([false]))) else none)))) else none) else (some aa)
def Yg.f (x0 : List Val) (x1 x2 : Int) (x3 : Bool) : Option (List Bool) := Yg.l1 K0 x0 x1 x2 x3 ([] : List Bool) 0
theorem Yg.c (hs : St w0 ρ (Γ) w) {v0 : Value} {x0 : List Val} (h0 : SlR X9 ρ v0 x0) {x1 x2 : Int} {x3 : Bool} {r : List Bool} (H : Yg.f x0 x1 x2 x3 = some r) : Zn Tryz.prog 56 [v0, .int .i64 x1, .int .i64 x2, .bool x3] w (fun v w' => ∃ (ρ' : Hp) (v0 : Value) (cs0 : List Value), v = v0 ∧ Le ρ ρ' ∧ St w0 ρ' (.row v0 4 Rep.bool.sz r.length cs0 :: Γ) w' ∧ Zm Rep.bool ρ' cs0 r) := by
 rw [Yg.f] at H
 refine Et Tryz.func56 Tryz.ntmps56 rfl <| Wr fun b2 bf => As rfl <| Ox bf <| Wr fun b3 bg => Ku (xs := []) (cs := []) U9 hs rfl rfl rfl (by decide) (by decide) rfl Kb Xy (fun bh w hs => ?_)
 have bi : Zm Rep.bool ρ ([]) ([] : List Bool) := Zm.nil _ _
 refine As rfl <| Ox bg <| Zh fun b4 bj => Wr fun b5 bk => Mv rfl <| O_y rfl (Yv Zt9 h0 rfl) <| Mv rfl <| Ox bk <| Zj fun b6 bl b7 => Y9 (σ := Nat × List Bool × Int × Value × List Value) (fun (ai, aa, ab, ad, af) => [(1, .int .i64 x1), (2, .int .i64 x2), (3, .bool x3), (9, ad), (13, v0), (14, .int .i64 (x0.length : Int)), (15, .int .i64 ab)]) (fun (ai, aa, ab, ad, af) w => Yg.l1 ai x0 x1 x2 x3 aa ab = some r ∧ St w0 ρ ((.row ad 4 Rep.bool.sz aa.length af) :: Γ) w ∧ Zm Rep.bool ρ af aa) (fun s => s.1) (K0, ([] : List Bool), 0, (.slice (some ⟨bh, 0, none⟩) 0 0), ([])) sbn (Ai H (Ai hs bi)) ?_
 rintro ⟨ai, aa, ab, ad, af⟩ w b8 ⟨H, hs, ae⟩ am
 show W _ _ _ _ _ _ [(1, .int .i64 x1), (2, .int .i64 x2), (3, .bool x3), (9, ad), (13, v0), (14, .int .i64 (x0.length : Int)), (15, .int .i64 ab)] w
 cases ai with
 | zero => rw [Yg.l1] at H; cases H
 | succ ai =>
 rw [Yg.l1] at H
 refine Wr fun b9 bm => Ols rfl <| Ox bm <| Zh fun ca bn => Y7 rfl (fun az => ?_) (fun az => ?_)
 rw [if_pos az] at H
 refine Wx bn <| Yu fun bo bp ax => ?_
 have ay : ∀ (ac : List Bool) (ag : Value) (ah : List Value) (w : World), Yg.j1 (Yg.l1 ai x0 x1 x2 x3) ab ac = some r → St w0 ρ ((.row ag 4 Rep.bool.sz ac.length ah) :: Γ) w → Zm Rep.bool ρ ah ac → bo [(1, .int .i64 x1), (2, .int .i64 x2), (3, .bool x3), (9, ag), (13, v0), (14, .int .i64 (x0.length : Int)), (15, .int .i64 ab)] w := by
  intro ac ag ah w H hs ak
  rw [Yg.j1] at H
  refine bp _ _ <| Zc <| Oad rfl <| Mv rfl <| Zd (am (ai, ac, (i64.wrap (ab + 1)), ag, ah) _ _ sbn (Ai H (Ai hs ak)) (Nat.lt_succ_self _))
 refine Zj fun cb cc cd => Zh fun ce bq => Zc ?_
 obtain ⟨bd, H⟩ := gd H
 obtain ⟨cf, cg, br, bs⟩ := h0.ix Zpo bd.1 bd.2
 obtain ⟨_, rfl, bt⟩ := br
 refine O_y rfl (bs rfl rfl) <| O_y rfl (Qv Zof Zjz rfl rfl (fun j u hu => hs.see (bt j u hu))) <| Y6 Zoy hs rfl (fun ch w hs => Ye (i := 0) Zjz hs rfl rfl rfl rfl rfl (Zb rfl (Zb rfl (Zb rfl Yj))) (fun w hs => Ox bq <| Zc <| Mv rfl <| Ofd Zol rfl <| Obx 0 ag3 hs rfl <| Mv rfl <| Ols rfl <| Mv rfl <| X6 (dj := 24) rfl (fun a0 => ?_) (fun a0 => ?_)))
 rw [if_pos a0] at H
 refine On rfl <| On rfl <| On rfl <| On rfl <| Opk rfl <| Mv rfl <| On rfl <| On rfl <| Kh rfl rfl rfl <| Kh rfl rfl rfl <| Kh rfl rfl rfl <| Kh rfl rfl rfl <| Kh rfl rfl rfl <| On rfl ?_
 refine Opk rfl <| Ku (xs := [.tmp 39]) (cs := [.bool true]) U9 hs rfl rfl rfl (by decide) (by decide) rfl (Yc rfl Kb) (Zv rfl Xy) (fun ci w hs => ?_)
 have be : Zm Rep.bool ρ ([.bool true]) [true] := Zm.cons (c := [.bool true]) (x := true) rfl (Zm.nil _ _)
 obtain ⟨bu, H⟩ := gd H
 refine Qt (i := 2) U9 hs rfl ae rfl rfl rfl (Src.lit (j := 0) hs rfl be) be bu (fun bv a1 w bw hs => As rfl <| Zd (ax _ _ _ sbn (ay (aa ++ ([true])) bv a1 _ H (hs.sub (ssk (ssk (ssc ssr)))) bw)))
 rw [if_neg a0] at H
 refine Oe rfl <| Ofd Zol rfl <| Oe rfl <| Obx 0 ag3 hs rfl <| Oe rfl <| Mv rfl <| Oe rfl <| Ogt rfl <| Opk rfl <| Mv rfl <| X6 (dj := 30) rfl (fun a2 => ?_) (fun a2 => ?_)
 rw [if_pos a2] at H
 refine On rfl <| On rfl <| Kh rfl rfl rfl <| Kh rfl rfl rfl <| Kh rfl rfl rfl <| Kh rfl rfl rfl <| Kh rfl rfl rfl <| On rfl <| Opk rfl <| Ku (xs := [.tmp 39]) (cs := [.bool true]) U9 hs rfl rfl rfl (by decide) (by decide) rfl (Yc rfl Kb) (Zv rfl Xy) (fun cj w hs => ?_)
 have ao : Zm Rep.bool ρ ([.bool true]) [true] := Zm.cons (c := [.bool true]) (x := true) rfl (Zm.nil _ _)
 obtain ⟨a3, H⟩ := gd H
 refine Qt (i := 2) U9 hs rfl ae rfl rfl rfl (Src.lit (j := 0) hs rfl ao) ao a3 (fun a4 ap w a5 hs => As rfl <| Zd (ax _ _ _ sbn (ay (aa ++ ([true])) a4 ap _ H (hs.sub (ssk (ssk (ssc ssr)))) a5)))
 rw [if_neg a2] at H
 refine Oe rfl <| Mv rfl <| Oe rfl <| Mv rfl <| U8 (dj := 32) rfl (fun an => ?_) (fun an => ?_)
 rw [if_pos an] at H
 refine Oe rfl <| Ofd Zlq rfl <| Oe rfl <| Obx 0 Xm hs rfl <| Oe rfl <| Ofd Zk4 rfl <| Oe rfl <| Obx 0 Xm hs rfl <| Oe rfl ?_
 obtain ⟨aj, aq, H⟩ := bnd H
 refine Oc rfl (Ys.c hs aq) (fun bx w hpost => ?_)
 obtain ⟨rfl, hs⟩ := hpost
 refine Oe rfl <| Opk rfl <| Opk rfl <| Ku (xs := [.tmp 39]) (cs := [.bool aj]) U9 hs rfl rfl rfl (by decide) (by decide) rfl (Yc rfl Kb) (Zv rfl Xy) (fun bz w hs => ?_)
 have ar : Zm Rep.bool ρ ([.bool aj]) [aj] := Zm.cons (c := [.bool aj]) (x := aj) rfl (Zm.nil _ _)
 obtain ⟨a6, H⟩ := gd H
 refine Qt (i := 2) U9 hs rfl ae rfl rfl rfl (Src.lit (j := 0) hs rfl ar) ar a6 (fun a7 au w a8 hs => As rfl <| Zd (ax _ _ _ sbn (ay (aa ++ ([aj])) a7 au _ H (hs.sub (ssk (ssk (ssc ssr)))) a8)))
 rw [if_neg (bft an)] at H
 refine On rfl <| On rfl <| On rfl <| On rfl <| On rfl <| Oe rfl <| Opk rfl <| Opk rfl <| Ku (xs := [.tmp 39]) (cs := [.bool false]) U9 hs rfl rfl rfl (by decide) (by decide) rfl (Yc rfl Kb) (Zv rfl Xy) (fun b0 w hs => ?_)
 have av : Zm Rep.bool ρ ([.bool false]) [false] := Zm.cons (c := [.bool false]) (x := false) rfl (Zm.nil _ _)
 obtain ⟨a9, H⟩ := gd H
 refine Qt (i := 2) U9 hs rfl ae rfl rfl rfl (Src.lit (j := 0) hs rfl av) av a9 (fun ba aw w bb hs => As rfl <| Zd (ax _ _ _ sbn (ay (aa ++ ([false])) ba aw _ H (hs.sub (ssk (ssk (ssc ssr)))) bb)))
 rw [if_neg az] at H
 refine Y4 (bl _ _ (bj _ _ <| Wr fun b1 bc => Mv rfl <| As rfl <| Ox bc <| Zk ?_))
 obtain rfl := Zz H
 exact r1 rfl ⟨_, _, _, rfl, Le.rfl' _, hs, ae⟩

def V6.j1 (aa : Bool) : Option Bool := some aa
def V6.f (x0 : List Spn) (x1 : Int) : Option Bool := if (0 : Int) ≤ x1 ∧ x1 < (x0.length : Int) then (if 0 ≤ ((rd x0 x1).lo) then (if ((rd x0 x1).lo) ≤ ((rd x0 x1).hi) then (if ((rd x0 x1).hi) ≤ 1114111 then (if x1 = 0 then (V6.j1 true) else (if (0 : Int) ≤ i64.wrap (x1 - 1) ∧ i64.wrap (x1 - 1) < (x0.length : Int) then (V6.j1 (decide (((rd x0 (i64.wrap (x1 - 1))).hi) < ((rd x0 x1).lo)))) else none)) else (V6.j1 false)) else (V6.j1 false)) else (V6.j1 false)) else none
theorem V6.c (hs : St w0 ρ (Γ) w) {v0 : Value} {x0 : List Spn} (h0 : SlR Kd ρ v0 x0) {x1 : Int} {r : Bool} (H : V6.f x0 x1 = some r) : Zn Tryz.prog 84 [v0, .int .i64 x1] w (fun v w' => v = .bool r ∧ St w0 ρ Γ w') := by
 rw [V6.f] at H
 refine Et Tryz.func84 Tryz.ntmps84 rfl <| Wr fun aw ak => As rfl <| Ox ak <| Wr fun ax al => Mv rfl <| Mv rfl ?_
 obtain ⟨ah, H⟩ := gd H
 obtain ⟨ay, az, am, an⟩ := h0.ix Zg6 ah.1 ah.2
 obtain ⟨_, rfl, ao⟩ := am
 refine O_y rfl (an rfl rfl) <| O_y rfl (Qv Zsb Zud rfl rfl (fun j u hu => hs.see (ao j u hu))) <| Y6 Zs1 hs rfl (fun ai w hs => Ye (i := 0) Zud hs rfl rfl rfl rfl rfl (Zb rfl (Zb rfl Yj)) (fun w hs => Ox al <| Yu fun ap aq ab => ?_))
 have ac : ∀ (aa : Bool) (w : World), V6.j1 aa = some r → St w0 ρ ((.box ai 90 ([.int .i32 ((rd x0 x1).lo), .int .i32 ((rd x0 x1).hi)])) :: Γ) w → ap [(4, .bool aa)] w := by
  intro aa w H hs
  rw [V6.j1] at H
  refine aq _ _ <| Zk ?_
  obtain rfl := Zz H
  exact r1 rfl ⟨rfl, (hs.sub (ssk ssr))⟩
 refine Qn 31 [0, 1, 2, 4, 8, 24, 8, 72, 168, 264, 520, 1024, 3072, 5120, 9216, 17408, 32768, 98304, 163840, 262144, 786432, 262144, 262144, 4456448, 10747904, 17039360, 33816576, 68419584, 134512640, 268468224, 1073741823] [1073741820, 1073741816, 1073741808, 1073739776, 1073741760, 1073741504, 1073741616, 1073741360, 1073740800, 1073739776, 1073676288, 1073733632, 1073725440, 1073709056, 1073676288, 267911168, 1073479680, 1073217536, 536870912, 1071644672, 937426944, 1054343168, 1060634624, 1043857408, 1008205824, 941096960, 806879232, 536870912, 0, 0, 0] [0, 1, 3, 7, 15, 31, 15, 79, 255, 511, 1023, 2047, 4095, 8191, 16383, 32767, 65535, 131071, 262143, 524287, 1048575, 524287, 524287, 4718591, 15204351, 31981567, 65535999, 134217727, 268435455, 536870911, 1073741823] [] (fun w => St w0 ρ ((.box ai 90 ([.int .i32 ((rd x0 x1).lo), .int .i32 ((rd x0 x1).hi)])) :: Γ) w) Vl (by kernel_rfl) (fun sh => ?_)
 have hs := hs.drew
 refine Fp 0 sh rfl (fun w => Zp Zkx rfl) <| Fy 1 sh rfl hs (fun w hs => Yb 0 Xm hs rfl rfl rfl) <| Fp 2 sh rfl (fun w => Zoj rfl rfl) <| Fm 3 sh rfl <| Zav (dj := 13) rfl (fun ad => ?_) (fun ad => ?_)
 rw [if_pos ad] at H
 refine Fp 4 sh rfl (fun w => Zp Zkx rfl) <| Fy 5 sh rfl hs (fun w hs => Yb 0 Xm hs rfl rfl rfl) <| Fp 6 sh rfl (fun w => Zp Zku rfl) <| Fy 7 sh rfl hs (fun w hs => Yb 0 Xm hs rfl rfl rfl) <| Fp 8 sh rfl (fun w => Zmd rfl rfl) <| Fp 9 sh rfl (fun w => J7 rfl rfl) <| Fm 10 sh rfl <| Zav (dj := 20) rfl (fun ae => ?_) (fun ae => ?_)
 rw [if_pos ae] at H
 refine Fp 11 sh rfl (fun w => Zp Zku rfl) <| Fy 12 sh rfl hs (fun w hs => Yb 0 Xm hs rfl rfl rfl) <| Fp 13 sh rfl (fun w => Zmd rfl rfl) <| Fp 14 sh rfl (fun w => J7 rfl rfl) <| Fm 15 sh rfl <| Zav (dj := 25) rfl (fun af => ?_) (fun af => ?_)
 rw [if_pos af] at H
 refine Fp 16 sh rfl (fun w => Qk rfl) <| Fp 17 sh rfl (fun w => Zbn rfl rfl) <| Fp 18 sh rfl (fun w => Qk rfl) <| Zav (dj := 28) rfl (fun ag => ?_) (fun ag => ?_)
 rw [if_pos ag] at H
 refine Fn 19 sh rfl <| Fn 20 sh rfl <| Fn 21 sh rfl <| Fn 22 sh rfl <| Fn 23 sh rfl <| Fn 24 sh rfl <| Fn 25 sh rfl <| Fn 26 sh rfl <| Fn 27 sh rfl <| Fp 28 sh rfl (fun w => J7 rfl rfl) <| Fp 29 sh rfl (fun w => J7 rfl rfl) <| Fp 30 sh rfl (fun w => Xv rfl) <| FE sh (ab _ _ _ (S1 rfl) (ac true _ H hs))
 rw [if_neg ag] at H
 refine Fp 19 sh rfl (fun w => Zp Zkx rfl) <| Fy 20 sh rfl hs (fun w hs => Yb 0 Xm hs rfl rfl rfl) <| Fp 21 sh rfl (fun w => Qk rfl) <| Fp 22 sh rfl (fun w => Qk rfl) <| Fp 23 sh rfl (fun w => Zc2 rfl rfl) ?_
 obtain ⟨aj, H⟩ := gd H
 obtain ⟨a0, a1, ar, au⟩ := h0.ix Zg6 aj.1 aj.2
 obtain ⟨_, rfl, av⟩ := ar
 refine Fp 24 sh rfl (fun w => au rfl rfl) <| Fp 25 sh rfl (fun w => Zp Zku rfl) <| Fy 26 sh rfl hs (fun w hs => Xp Xm rfl (hs.see (av 1 _ rfl))) <| Fp 27 sh rfl (fun w => Zjk rfl rfl) <| Fp 28 sh rfl (fun w => Qr rfl rfl) <| Fp 29 sh rfl (fun w => J7 rfl rfl) <| Fp 30 sh rfl (fun w => Xv rfl) <| FE sh (ab _ _ _ (S1 rfl) (ac (decide (((rd x0 (i64.wrap (x1 - 1))).hi) < ((rd x0 x1).lo))) _ H hs))
 rw [if_neg af] at H
 refine Fn 16 sh rfl <| Fn 17 sh rfl <| Fn 18 sh rfl <| Fu 19 sh rfl <| Fu 20 sh rfl <| Fu 21 sh rfl <| Fu 22 sh rfl <| Fu 23 sh rfl <| Fu 24 sh rfl <| Fu 25 sh rfl <| Fu 26 sh rfl <| Fu 27 sh rfl <| Fn 28 sh rfl <| Fp 29 sh rfl (fun w => Qr rfl rfl) ?_
 refine Fp 30 sh rfl (fun w => Xv rfl) <| FE sh (ab _ _ _ (S1 rfl) (ac false _ H hs))
 rw [if_neg ae] at H
 refine Fn 11 sh rfl <| Fn 12 sh rfl <| Fn 13 sh rfl <| Fp 14 sh rfl (fun w => Qr rfl rfl) <| Fm 15 sh rfl <| Fn 16 sh rfl <| Fn 17 sh rfl <| Fn 18 sh rfl <| Fu 19 sh rfl <| Fu 20 sh rfl <| Fu 21 sh rfl <| Fu 22 sh rfl <| Fu 23 sh rfl <| Fu 24 sh rfl ?_
 refine Fu 25 sh rfl <| Fu 26 sh rfl <| Fu 27 sh rfl <| Fn 28 sh rfl <| Fp 29 sh rfl (fun w => Qr rfl rfl) <| Fp 30 sh rfl (fun w => Xv rfl) <| FE sh (ab _ _ _ (S1 rfl) (ac false _ H hs))
 rw [if_neg ad] at H
 refine Fn 4 sh rfl <| Fn 5 sh rfl <| Fn 6 sh rfl <| Fn 7 sh rfl <| Fn 8 sh rfl <| Fp 9 sh rfl (fun w => Qr rfl rfl) <| Fm 10 sh rfl <| Fn 11 sh rfl <| Fn 12 sh rfl <| Fn 13 sh rfl <| Fp 14 sh rfl (fun w => Qr rfl rfl) <| Fm 15 sh rfl <| Fn 16 sh rfl <| Fn 17 sh rfl ?_
 refine Fn 18 sh rfl <| Fu 19 sh rfl <| Fu 20 sh rfl <| Fu 21 sh rfl <| Fu 22 sh rfl <| Fu 23 sh rfl <| Fu 24 sh rfl <| Fu 25 sh rfl <| Fu 26 sh rfl <| Fu 27 sh rfl <| Fn 28 sh rfl <| Fp 29 sh rfl (fun w => Qr rfl rfl) <| Fp 30 sh rfl (fun w => Xv rfl) <| FE sh (ab _ _ _ (S1 rfl) (ac false _ H hs))

def Yq.j1 (ad : Int → Option Int) (aa : Int) (ab : Bool) : Option Int := if ab = true then (some aa) else (ad (i64.wrap (aa + 1)))
def Yq.l1 : Nat → List Spn → List Bool → Int → Option Int
  | 0, _, _, _ => none
  | ac + 1, x0, x1, aa => if aa < (x0.length : Int) then ((V6.f x0 aa).bind fun ak => (if (!ak) = true then (Yq.j1 (Yq.l1 ac x0 x1) aa true) else (if (0 : Int) ≤ aa ∧ aa < (x1.length : Int) then (Yq.j1 (Yq.l1 ac x0 x1) aa (rd x1 aa)) else none))) else (some (-1))
def Yq.f (x0 : List Spn) (x1 : List Bool) : Option Int := if 65536 < (x0.length : Int) then (some 65536) else (Yq.l1 K0 x0 x1 0)
theorem Yq.c (hs : St w0 ρ (Γ) w) {v0 : Value} {x0 : List Spn} (h0 : SlR Kd ρ v0 x0) {v1 : Value} {x1 : List Bool} (h1 : SlR Rep.bool ρ v1 x1) {r : Int} (H : Yq.f x0 x1 = some r) : Zn Tryz.prog 54 [v0, v1] w (fun v w' => v = .int .i64 r ∧ St w0 ρ Γ w') := by
 rw [Yq.f] at H
 refine Et Tryz.func54 Tryz.ntmps54 rfl <| Wr fun a7 ao => As rfl <| Ox ao <| Zh fun a8 ap => Wr fun a9 aq => Mv rfl <| O_y rfl (Yv Zq7 h0 rfl) <| Ogt rfl <| Ox aq <| Y7 rfl (fun af => ?_) (fun af => ?_)
 rw [if_pos af] at H
 refine Wr fun ba ar => As rfl <| Ox ar <| Zk ?_
 obtain rfl := Zz H
 exact r1 rfl ⟨rfl, hs⟩
 rw [if_neg af] at H
 refine Wx ap <| Zh fun bb au => Wr fun bc av => Mv rfl <| O_y rfl (Yv Zq7 h0 rfl) <| Mv rfl <| Ox av <| Zj fun bd aw be => Y9 (σ := Nat × Int) (fun (ac, aa) => [(0, v0), (1, v1), (10, .int .i64 (x0.length : Int)), (11, .int .i64 aa)]) (fun (ac, aa) w => Yq.l1 ac x0 x1 aa = some r ∧ St w0 ρ (Γ) w) (fun s => s.1) (K0, 0) (T4 rfl) (Ai H hs) ?_
 rintro ⟨ac, aa⟩ w bf ⟨H, hs⟩ ae
 show W _ _ _ _ _ _ [(0, v0), (1, v1), (10, .int .i64 (x0.length : Int)), (11, .int .i64 aa)] w
 cases ac with
 | zero => rw [Yq.l1] at H; cases H
 | succ ac =>
 rw [Yq.l1] at H
 refine Wr fun bg ax => Ols rfl <| Ox ax <| Zh fun bh ay => Y7 rfl (fun ag => ?_) (fun ag => ?_)
 rw [if_pos ag] at H
 refine Wx ay <| Zh fun bi az => Zj fun bj bk bl => Wr fun bm a0 => Mv rfl <| As rfl <| Ox a0 <| Yu fun a1 a2 al => ?_
 have am : ∀ (ab : Bool) (w : World), Yq.j1 (Yq.l1 ac x0 x1) aa ab = some r → St w0 ρ (Γ) w → a1 [(0, v0), (1, v1), (5, .int .i64 aa), (10, .int .i64 (x0.length : Int)), (11, .int .i64 aa), (23, .bool ab)] w := by
  intro ab w H hs
  rw [Yq.j1] at H
  refine a2 _ _ <| Xg rfl (fun ah => ?_) (fun ah => ?_)
  rw [if_pos ah] at H
  refine Wr fun bn a3 => Mv rfl <| As rfl <| Ox a3 <| Zk ?_
  obtain rfl := Zz H
  exact r1 rfl ⟨rfl, hs⟩
  rw [if_neg (bft ah)] at H
  refine Wx az <| Zc <| Oad rfl <| Mv rfl <| Zd (ae (ac, (i64.wrap (aa + 1))) _ _ (T4 rfl) (Ai H hs) (Nat.lt_succ_self _))
 refine Zc <| Mv rfl <| Mv rfl ?_
 obtain ⟨ak, ai, H⟩ := bnd H
 refine Oc rfl (V6.c hs h0 ai) (fun bo w hpost => ?_)
 obtain ⟨rfl, hs⟩ := hpost
 refine Ont rfl <| Mv rfl <| U8 (dj := 18) rfl (fun aj => ?_) (fun aj => ?_)
 rw [if_pos aj] at H
 refine On rfl <| On rfl <| On rfl <| On rfl <| Opk rfl <| Zd (al _ _ _ sbn (am true _ H hs))
 rw [if_neg (bft aj)] at H
 refine Oe rfl <| Mv rfl <| Oe rfl <| Mv rfl ?_
 obtain ⟨an, H⟩ := gd H
 obtain ⟨bp, bq, a4, a5⟩ := h1.ix U9 an.1 an.2
 refine Oe rfl <| O_y rfl (a5 rfl rfl) <| Oe rfl <| O_y rfl (Xp ag4 rfl (hs.see a4.bool)) <| Opk rfl <| Zd (al _ _ _ sbn (am (rd x1 aa) _ H hs))
 rw [if_neg ag] at H
 refine Y4 (aw _ _ (au _ _ <| Wr fun br a6 => As rfl <| Ox a6 <| Zk ?_))
 obtain rfl := Zz H
 exact r1 rfl ⟨rfl, hs⟩

def Qp.l1 : Nat → List Chs → List Spn → Int → Option (List Spn)
  | 0, _, _, _ => none
  | ae + 1, x0, ab, aa => if aa < (x0.length : Int) then (if (0 : Int) ≤ aa ∧ aa < (x0.length : Int) then (if ab.length + ([(⟨(rd x0 aa).lo, (rd x0 aa).hi⟩ : Spn)]).length ≤ most then ((Qp.l1 ae x0) (ab ++ ([(⟨(rd x0 aa).lo, (rd x0 aa).hi⟩ : Spn)])) (i64.wrap (aa + 1))) else none) else none) else (some ab)
def Qp.f (x0 : List Chs) : Option (List Spn) := Qp.l1 K0 x0 ([] : List Spn) 0
theorem Qp.c (hs : St w0 ρ (Γ) w) {v0 : Value} {x0 : List Chs} (h0 : SlR Ks ρ v0 x0) {r : List Spn} (H : Qp.f x0 = some r) : Zn Tryz.prog 57 [v0] w (fun v w' => ∃ (ρ' : Hp) (v0 : Value) (cs0 : List Value), v = v0 ∧ Le ρ ρ' ∧ St w0 ρ' (.row v0 90 Kd.sz r.length cs0 :: Γ) w' ∧ Zm Kd ρ' cs0 r) := by
 rw [Qp.f] at H
 refine Et Tryz.func57 Tryz.ntmps57 rfl <| Wr fun a6 al => As rfl <| Ox al <| Wr fun a7 am => Ku (xs := []) (cs := []) Zg6 hs rfl rfl rfl (by decide) (by decide) rfl Kb Xy (fun an w hs => ?_)
 have ao : Zm Kd ρ ([]) ([] : List Spn) := Zm.nil _ _
 refine As rfl <| Ox am <| Zh fun a8 ap => Wr fun a9 aq => Mv rfl <| O_y rfl (Yv Zlo h0 rfl) <| Mv rfl <| Ox aq <| Zj fun ba ar bb => Y9 (σ := Nat × List Spn × Int × Value × List Value) (fun (ae, ab, aa, ac, ad) => [(3, ac), (7, v0), (8, .int .i64 (x0.length : Int)), (9, .int .i64 aa)]) (fun (ae, ab, aa, ac, ad) w => Qp.l1 ae x0 ab aa = some r ∧ St w0 ρ ((.row ac 90 Kd.sz ab.length ad) :: Γ) w ∧ Zm Kd ρ ad ab) (fun s => s.1) (K0, ([] : List Spn), 0, (.slice (some ⟨an, 0, none⟩) 0 0), ([])) (T4 rfl) (Ai H (Ai hs ao)) ?_
 rintro ⟨ae, ab, aa, ac, ad⟩ w bc ⟨H, hs, af⟩ ag
 show W _ _ _ _ _ _ [(3, ac), (7, v0), (8, .int .i64 (x0.length : Int)), (9, .int .i64 aa)] w
 cases ae with
 | zero => rw [Qp.l1] at H; cases H
 | succ ae =>
 rw [Qp.l1] at H
 refine Wr fun bd au => Ols rfl <| Ox au <| Zh fun be av => Y7 rfl (fun ah => ?_) (fun ah => ?_)
 rw [if_pos ah] at H
 refine Wx av <| Zh fun bf aw => Zj fun bg bh bi => Zh fun bj ax => Zc ?_
 obtain ⟨aj, H⟩ := gd H
 obtain ⟨bk, bl, ay, az⟩ := h0.ix Zh1 aj.1 aj.2
 obtain ⟨_, ⟨bm, rfl, a0⟩, a1⟩ := ay
 refine O_y rfl (az rfl rfl) <| O_y rfl (Qv Zkw Zev rfl rfl (fun j u hu => hs.see (a1 j u hu))) <| Y6 Zlz hs rfl (fun bn w hs => Ye (i := 0) Zev hs rfl rfl rfl rfl rfl (Zb rfl (Zb rfl (Zb a0.one Yj))) (fun w hs => Ox ax <| Zc <| Mv rfl <| Ofd Zez rfl <| Obx 0 Xm hs rfl <| Ofd Zkm rfl <| Obx 0 Xm hs rfl <| O_y rfl (Qe (cs := [.int .i32 ((rd x0 aa).lo), .int .i32 ((rd x0 aa).hi)]) Zs1 Zvq ((Z2.cons rfl rfl (Z2.cons rfl rfl Z2.nil))) Zsb (by kernel_rfl)) <| Ku (xs := [.tmp 18]) (cs := [.int .i32 ((rd x0 aa).lo), .int .i32 ((rd x0 aa).hi)]) Zg6 hs rfl rfl rfl (by decide) (by decide) rfl (Yc rfl Kb) (Zv rfl Xy) (fun bo w hs => ?_)))
 have ak : Zm Kd ρ ([.int .i32 ((rd x0 aa).lo), .int .i32 ((rd x0 aa).hi)]) [(⟨(rd x0 aa).lo, (rd x0 aa).hi⟩ : Spn)] := Zm.cons (c := [.int .i32 ((rd x0 aa).lo), .int .i32 ((rd x0 aa).hi)]) (x := (⟨(rd x0 aa).lo, (rd x0 aa).hi⟩ : Spn)) rfl (Zm.nil _ _)
 obtain ⟨a2, H⟩ := gd H
 refine Qt (i := 2) Zg6 hs rfl af rfl rfl rfl (Src.lit (j := 0) hs rfl ak) ak a2 (fun a3 ai w a4 hs => As rfl <| Ox aw <| W.weak [(3, _), (7, _), (8, _), (9, _)] (T4 rfl) <| Zc <| Oad rfl <| Mv rfl <| Zd (ag (ae, (ab ++ ([(⟨(rd x0 aa).lo, (rd x0 aa).hi⟩ : Spn)])), (i64.wrap (aa + 1)), a3, ai) _ _ (T4 rfl) (Ai H (Ai (hs.sub (ssk (ssk (ssc ssr)))) a4)) (Nat.lt_succ_self _)))
 rw [if_neg ah] at H
 refine Y4 (ar _ _ (ap _ _ <| Wr fun bp a5 => Mv rfl <| As rfl <| Ox a5 <| Zk ?_))
 obtain rfl := Zz H
 exact r1 rfl ⟨_, _, _, rfl, Le.rfl' _, hs, af⟩

def Xa.j1 (ac : Bool) : Option Bool := some ac
def Xa.f (x0 : Int) : Option Bool := if 4352 ≤ x0 then (if x0 ≤ 4370 then (Xa.j1 true) else (if 4449 ≤ x0 then (if x0 ≤ 4469 then (Xa.j1 true) else (if 4520 ≤ x0 then (if x0 ≤ 4546 then (Xa.j1 true) else (if 44032 ≤ x0 then (Xa.j1 (decide (x0 ≤ 55203))) else (Xa.j1 false))) else (if 44032 ≤ x0 then (Xa.j1 (decide (x0 ≤ 55203))) else (Xa.j1 false)))) else (if 4520 ≤ x0 then (if x0 ≤ 4546 then (Xa.j1 true) else (if 44032 ≤ x0 then (Xa.j1 (decide (x0 ≤ 55203))) else (Xa.j1 false))) else (if 44032 ≤ x0 then (Xa.j1 (decide (x0 ≤ 55203))) else (Xa.j1 false))))) else (if 4449 ≤ x0 then (if x0 ≤ 4469 then (Xa.j1 true) else (if 4520 ≤ x0 then (if x0 ≤ 4546 then (Xa.j1 true) else (if 44032 ≤ x0 then (Xa.j1 (decide (x0 ≤ 55203))) else (Xa.j1 false))) else (if 44032 ≤ x0 then (Xa.j1 (decide (x0 ≤ 55203))) else (Xa.j1 false)))) else (if 4520 ≤ x0 then (if x0 ≤ 4546 then (Xa.j1 true) else (if 44032 ≤ x0 then (Xa.j1 (decide (x0 ≤ 55203))) else (Xa.j1 false))) else (if 44032 ≤ x0 then (Xa.j1 (decide (x0 ≤ 55203))) else (Xa.j1 false))))
theorem Xa.c (hs : St w0 ρ (Γ) w) {x0 : Int} {r : Bool} (H : Xa.f x0 = some r) : Zn Tryz.prog 85 [.int .i32 x0] w (fun v w' => v = .bool r ∧ St w0 ρ Γ w') := by
 rw [Xa.f] at H
 refine Et Tryz.func85 Tryz.ntmps85 rfl <| Wr fun a4 a1 => As rfl <| Ox a1 <| Yu fun a2 a3 aa => ?_
 have ab : ∀ (ac : Bool) (w : World), Xa.j1 ac = some r → St w0 ρ (Γ) w → a2 [(2, .bool ac)] w := by
  intro ac w H hs
  rw [Xa.j1] at H
  refine a3 _ _ <| Zk ?_
  obtain rfl := Zz H
  exact r1 rfl ⟨rfl, hs⟩
 refine Zc <| Mv rfl <| Oge rfl <| Mv rfl <| X6 (dj := 5) rfl (fun ad => ?_) (fun ad => ?_)
 rw [if_pos ad] at H
 refine Oe rfl <| Mv rfl <| Oe rfl <| Ole rfl <| Opk rfl <| Mv rfl <| X6 (dj := 9) rfl (fun ae => ?_) (fun ae => ?_)
 rw [if_pos ae] at H
 refine On rfl <| On rfl <| On rfl <| Kh rfl rfl rfl <| Kh rfl rfl rfl <| On rfl <| Opk rfl <| Mv rfl <| On rfl <| On rfl <| On rfl <| Kh rfl rfl rfl <| Kh rfl rfl rfl <| On rfl ?_
 refine Opk rfl <| Mv rfl <| On rfl <| On rfl <| On rfl <| Kh rfl rfl rfl <| Kh rfl rfl rfl <| On rfl <| Opk rfl <| As rfl <| Zd (aa _ _ _ (S1 rfl) (ab true _ H hs))
 rw [if_neg ae] at H
 refine Oe rfl <| Mv rfl <| Oe rfl <| Oge rfl <| Oe rfl <| Mv rfl <| X6 (dj := 12) rfl (fun af => ?_) (fun af => ?_)
 rw [if_pos af] at H
 refine Oe rfl <| Mv rfl <| Oe rfl <| Ole rfl <| Oe rfl <| Opk rfl <| Opk rfl <| Mv rfl <| X6 (dj := 17) rfl (fun ag => ?_) (fun ag => ?_)
 rw [if_pos ag] at H
 refine On rfl <| On rfl <| On rfl <| Kh rfl rfl rfl <| Kh rfl rfl rfl <| On rfl <| Opk rfl <| Mv rfl <| On rfl <| On rfl <| On rfl <| Kh rfl rfl rfl <| Kh rfl rfl rfl <| On rfl ?_
 refine Opk rfl <| As rfl <| Zd (aa _ _ _ (S1 rfl) (ab true _ H hs))
 rw [if_neg ag] at H
 refine Oe rfl <| Mv rfl <| Oe rfl <| Oge rfl <| Oe rfl <| Mv rfl <| X6 (dj := 20) rfl (fun ah => ?_) (fun ah => ?_)
 rw [if_pos ah] at H
 refine Oe rfl <| Mv rfl <| Oe rfl <| Ole rfl <| Oe rfl <| Opk rfl <| Opk rfl <| Mv rfl <| X6 (dj := 25) rfl (fun ai => ?_) (fun ai => ?_)
 rw [if_pos ai] at H
 refine On rfl <| On rfl <| On rfl <| Kh rfl rfl rfl <| Kh rfl rfl rfl <| On rfl <| Opk rfl <| As rfl <| Zd (aa _ _ _ (S1 rfl) (ab true _ H hs))
 rw [if_neg ai] at H
 refine Oe rfl <| Mv rfl <| Oe rfl <| Oge rfl <| Oe rfl <| Mv rfl <| X6 (dj := 28) rfl (fun aj => ?_) (fun aj => ?_)
 rw [if_pos aj] at H
 refine Oe rfl <| Mv rfl <| Oe rfl <| Ole rfl <| Oe rfl <| Opk rfl <| Opk rfl <| As rfl <| Zd (aa _ _ _ (S1 rfl) (ab (decide (x0 ≤ 55203)) _ H hs))
 rw [if_neg aj] at H
 refine On rfl <| On rfl <| Oe rfl <| Opk rfl <| Opk rfl <| As rfl <| Zd (aa _ _ _ (S1 rfl) (ab false _ H hs))
 rw [if_neg ah] at H
 refine On rfl <| On rfl <| Oe rfl <| Opk rfl <| Opk rfl <| Mv rfl <| Oe rfl <| Mv rfl <| Oe rfl <| Oge rfl <| Oe rfl <| Mv rfl <| X6 (dj := 28) rfl (fun ak => ?_) (fun ak => ?_)
 rw [if_pos ak] at H
 refine Oe rfl <| Mv rfl <| Oe rfl <| Ole rfl <| Oe rfl <| Opk rfl <| Opk rfl <| As rfl <| Zd (aa _ _ _ (S1 rfl) (ab (decide (x0 ≤ 55203)) _ H hs))
 rw [if_neg ak] at H
 refine On rfl <| On rfl <| Oe rfl <| Opk rfl <| Opk rfl <| As rfl <| Zd (aa _ _ _ (S1 rfl) (ab false _ H hs))
 rw [if_neg af] at H
 refine On rfl <| On rfl <| Oe rfl <| Opk rfl <| Opk rfl <| Mv rfl <| Oe rfl <| Mv rfl <| Oe rfl <| Oge rfl <| Oe rfl <| Mv rfl <| X6 (dj := 20) rfl (fun al => ?_) (fun al => ?_)
 rw [if_pos al] at H
 refine Oe rfl <| Mv rfl <| Oe rfl <| Ole rfl <| Oe rfl <| Opk rfl <| Opk rfl <| Mv rfl <| X6 (dj := 25) rfl (fun am => ?_) (fun am => ?_)
 rw [if_pos am] at H
 refine On rfl <| On rfl <| On rfl <| Kh rfl rfl rfl <| Kh rfl rfl rfl <| On rfl <| Opk rfl <| As rfl <| Zd (aa _ _ _ (S1 rfl) (ab true _ H hs))
 rw [if_neg am] at H
 refine Oe rfl <| Mv rfl <| Oe rfl <| Oge rfl <| Oe rfl <| Mv rfl <| X6 (dj := 28) rfl (fun an => ?_) (fun an => ?_)
 rw [if_pos an] at H
 refine Oe rfl <| Mv rfl <| Oe rfl <| Ole rfl <| Oe rfl <| Opk rfl <| Opk rfl <| As rfl <| Zd (aa _ _ _ (S1 rfl) (ab (decide (x0 ≤ 55203)) _ H hs))
 rw [if_neg an] at H
 refine On rfl <| On rfl <| Oe rfl <| Opk rfl <| Opk rfl <| As rfl <| Zd (aa _ _ _ (S1 rfl) (ab false _ H hs))
 rw [if_neg al] at H
 refine On rfl <| On rfl <| Oe rfl <| Opk rfl <| Opk rfl <| Mv rfl <| Oe rfl <| Mv rfl <| Oe rfl <| Oge rfl <| Oe rfl <| Mv rfl <| X6 (dj := 28) rfl (fun ao => ?_) (fun ao => ?_)
 rw [if_pos ao] at H
 refine Oe rfl <| Mv rfl <| Oe rfl <| Ole rfl <| Oe rfl <| Opk rfl <| Opk rfl <| As rfl <| Zd (aa _ _ _ (S1 rfl) (ab (decide (x0 ≤ 55203)) _ H hs))
 rw [if_neg ao] at H
 refine On rfl <| On rfl <| Oe rfl <| Opk rfl <| Opk rfl <| As rfl <| Zd (aa _ _ _ (S1 rfl) (ab false _ H hs))
 rw [if_neg ad] at H
 refine On rfl <| On rfl <| Opk rfl <| Mv rfl <| Oe rfl <| Mv rfl <| Oe rfl <| Oge rfl <| Oe rfl <| Mv rfl <| X6 (dj := 12) rfl (fun ap => ?_) (fun ap => ?_)
 rw [if_pos ap] at H
 refine Oe rfl <| Mv rfl <| Oe rfl <| Ole rfl <| Oe rfl <| Opk rfl <| Opk rfl <| Mv rfl <| X6 (dj := 17) rfl (fun aq => ?_) (fun aq => ?_)
 rw [if_pos aq] at H
 refine On rfl <| On rfl <| On rfl <| Kh rfl rfl rfl <| Kh rfl rfl rfl <| On rfl <| Opk rfl <| Mv rfl <| On rfl <| On rfl <| On rfl <| Kh rfl rfl rfl <| Kh rfl rfl rfl <| On rfl ?_
 refine Opk rfl <| As rfl <| Zd (aa _ _ _ (S1 rfl) (ab true _ H hs))
 rw [if_neg aq] at H
 refine Oe rfl <| Mv rfl <| Oe rfl <| Oge rfl <| Oe rfl <| Mv rfl <| X6 (dj := 20) rfl (fun ar => ?_) (fun ar => ?_)
 rw [if_pos ar] at H
 refine Oe rfl <| Mv rfl <| Oe rfl <| Ole rfl <| Oe rfl <| Opk rfl <| Opk rfl <| Mv rfl <| X6 (dj := 25) rfl (fun au => ?_) (fun au => ?_)
 rw [if_pos au] at H
 refine On rfl <| On rfl <| On rfl <| Kh rfl rfl rfl <| Kh rfl rfl rfl <| On rfl <| Opk rfl <| As rfl <| Zd (aa _ _ _ (S1 rfl) (ab true _ H hs))
 rw [if_neg au] at H
 refine Oe rfl <| Mv rfl <| Oe rfl <| Oge rfl <| Oe rfl <| Mv rfl <| X6 (dj := 28) rfl (fun av => ?_) (fun av => ?_)
 rw [if_pos av] at H
 refine Oe rfl <| Mv rfl <| Oe rfl <| Ole rfl <| Oe rfl <| Opk rfl <| Opk rfl <| As rfl <| Zd (aa _ _ _ (S1 rfl) (ab (decide (x0 ≤ 55203)) _ H hs))
 rw [if_neg av] at H
 refine On rfl <| On rfl <| Oe rfl <| Opk rfl <| Opk rfl <| As rfl <| Zd (aa _ _ _ (S1 rfl) (ab false _ H hs))
 rw [if_neg ar] at H
 refine On rfl <| On rfl <| Oe rfl <| Opk rfl <| Opk rfl <| Mv rfl <| Oe rfl <| Mv rfl <| Oe rfl <| Oge rfl <| Oe rfl <| Mv rfl <| X6 (dj := 28) rfl (fun aw => ?_) (fun aw => ?_)
 rw [if_pos aw] at H
 refine Oe rfl <| Mv rfl <| Oe rfl <| Ole rfl <| Oe rfl <| Opk rfl <| Opk rfl <| As rfl <| Zd (aa _ _ _ (S1 rfl) (ab (decide (x0 ≤ 55203)) _ H hs))
 rw [if_neg aw] at H
 refine On rfl <| On rfl <| Oe rfl <| Opk rfl <| Opk rfl <| As rfl <| Zd (aa _ _ _ (S1 rfl) (ab false _ H hs))
 rw [if_neg ap] at H
 refine On rfl <| On rfl <| Oe rfl <| Opk rfl <| Opk rfl <| Mv rfl <| Oe rfl <| Mv rfl <| Oe rfl <| Oge rfl <| Oe rfl <| Mv rfl <| X6 (dj := 20) rfl (fun ax => ?_) (fun ax => ?_)
 rw [if_pos ax] at H
 refine Oe rfl <| Mv rfl <| Oe rfl <| Ole rfl <| Oe rfl <| Opk rfl <| Opk rfl <| Mv rfl <| X6 (dj := 25) rfl (fun ay => ?_) (fun ay => ?_)
 rw [if_pos ay] at H
 refine On rfl <| On rfl <| On rfl <| Kh rfl rfl rfl <| Kh rfl rfl rfl <| On rfl <| Opk rfl <| As rfl <| Zd (aa _ _ _ (S1 rfl) (ab true _ H hs))
 rw [if_neg ay] at H
 refine Oe rfl <| Mv rfl <| Oe rfl <| Oge rfl <| Oe rfl <| Mv rfl <| X6 (dj := 28) rfl (fun az => ?_) (fun az => ?_)
 rw [if_pos az] at H
 refine Oe rfl <| Mv rfl <| Oe rfl <| Ole rfl <| Oe rfl <| Opk rfl <| Opk rfl <| As rfl <| Zd (aa _ _ _ (S1 rfl) (ab (decide (x0 ≤ 55203)) _ H hs))
 rw [if_neg az] at H
 refine On rfl <| On rfl <| Oe rfl <| Opk rfl <| Opk rfl <| As rfl <| Zd (aa _ _ _ (S1 rfl) (ab false _ H hs))
 rw [if_neg ax] at H
 refine On rfl <| On rfl <| Oe rfl <| Opk rfl <| Opk rfl <| Mv rfl <| Oe rfl <| Mv rfl <| Oe rfl <| Oge rfl <| Oe rfl <| Mv rfl <| X6 (dj := 28) rfl (fun a0 => ?_) (fun a0 => ?_)
 rw [if_pos a0] at H
 refine Oe rfl <| Mv rfl <| Oe rfl <| Ole rfl <| Oe rfl <| Opk rfl <| Opk rfl <| As rfl <| Zd (aa _ _ _ (S1 rfl) (ab (decide (x0 ≤ 55203)) _ H hs))
 rw [if_neg a0] at H
 refine On rfl <| On rfl <| Oe rfl <| Opk rfl <| Opk rfl <| As rfl <| Zd (aa _ _ _ (S1 rfl) (ab false _ H hs))

def Yp.j1 (aq : List Bool → Int → Option (List Bool)) (aa : Int) (ae : List Bool) : Option (List Bool) := aq ae (i64.wrap (aa + 1))
def Yp.l1 : Nat → List Chs → List Bool → Int → Option (List Bool)
  | 0, _, _, _ => none
  | aj + 1, x0, ab, aa => if aa < (x0.length : Int) then (if (0 : Int) ≤ aa ∧ aa < (x0.length : Int) then (if (0 : Int) ≤ aa ∧ aa < (ab.length : Int) then (if (rd ab aa) = true then (Yp.j1 (Yp.l1 aj x0) aa (ab.set aa.toNat true)) else (if ((rd x0 aa).lo) ≠ ((rd x0 aa).hi) then (Yp.j1 (Yp.l1 aj x0) aa (ab.set aa.toNat true)) else ((Xa.f ((rd x0 aa).lo)).bind fun az => (if az = true then (Yp.j1 (Yp.l1 aj x0) aa (ab.set aa.toNat true)) else ((Kk.f ((rd x0 aa).lo)).bind fun ar => (Yp.j1 (Yp.l1 aj x0) aa (ab.set aa.toNat (!ar)))))))) else none) else none) else (some ab)
def Yp.f (x0 : List Chs) : Option (List Bool) := (Ya.f x0 2).bind fun ba => (Yp.l1 K0 x0 ba 0)
theorem Yp.c (hs : St w0 ρ (Γ) w) {v0 : Value} {x0 : List Chs} (h0 : SlR Ks ρ v0 x0) {r : List Bool} (H : Yp.f x0 = some r) : Zn Tryz.prog 58 [v0] w (fun v w' => ∃ (ρ' : Hp) (v0 : Value) (cs0 : List Value), v = v0 ∧ Le ρ ρ' ∧ St w0 ρ' (.row v0 4 Rep.bool.sz r.length cs0 :: Γ) w' ∧ Zm Rep.bool ρ' cs0 r) := by
 rw [Yp.f] at H
 refine Et Tryz.func58 Tryz.ntmps58 rfl <| Wr fun cc bo => As rfl <| Ox bo <| Wr fun cd bp => Mv rfl ?_
 obtain ⟨ba, bb, H⟩ := bnd H
 refine Oc rfl (Ya.c hs h0 bb) (fun bq w hpost => ?_)
 obtain ⟨a7, ce, bc, rfl, au, hs, br⟩ := hpost
 refine As rfl <| Ox bp <| Zh fun cf bs => Wr fun cg bt => Mv rfl <| O_y rfl (Yv Zlo (h0.mono au) rfl) <| Mv rfl <| Ox bt <| Zj fun ch bu ci => Y9 (σ := Nat × List Bool × Int × Value × List Value) (fun (aj, ab, aa, ad, ag) => [(3, ad), (8, v0), (9, .int .i64 (x0.length : Int)), (10, .int .i64 aa)]) (fun (aj, ab, aa, ad, ag) w => Yp.l1 aj x0 ab aa = some r ∧ St w0 a7 ((.row ad 4 Rep.bool.sz ab.length ag) :: Γ) w ∧ Zm Rep.bool a7 ag ab) (fun s => s.1) (K0, ba, 0, bq, bc) (T4 rfl) (Ai H (Ai hs br)) ?_
 rintro ⟨aj, ab, aa, ad, ag⟩ w cj ⟨H, hs, ac⟩ av
 show W _ _ _ _ _ _ [(3, ad), (8, v0), (9, .int .i64 (x0.length : Int)), (10, .int .i64 aa)] w
 cases aj with
 | zero => rw [Yp.l1] at H; cases H
 | succ aj =>
 rw [Yp.l1] at H
 refine Wr fun ck bv => Ols rfl <| Ox bv <| Zh fun cl bw => Y7 rfl (fun bd => ?_) (fun bd => ?_)
 rw [if_pos bd] at H
 refine Wx bw <| Yu fun bx bz a8 => ?_
 have a9 : ∀ (ae : List Bool) (ah : Value) (ai : List Value) (w : World), Yp.j1 (Yp.l1 aj x0) aa ae = some r → St w0 a7 ((.row ah 4 Rep.bool.sz ae.length ai) :: Γ) w → Zm Rep.bool a7 ai ae → bx [(3, ah), (8, v0), (9, .int .i64 (x0.length : Int)), (10, .int .i64 aa)] w := by
  intro ae ah ai w H hs ak
  rw [Yp.j1] at H
  refine bz _ _ <| Zc <| Oad rfl <| Mv rfl <| Zd (av (aj, ae, (i64.wrap (aa + 1)), ah, ai) _ _ (T4 rfl) (Ai H (Ai hs ak)) (Nat.lt_succ_self _))
 refine Zj fun cm cn co => Wr fun cp b0 => Mv rfl ?_
 obtain ⟨bj, H⟩ := gd H
 obtain ⟨cq, cr, b1, b2⟩ := (h0.mono au).ix Zh1 bj.1 bj.2
 obtain ⟨_, ⟨cs, rfl, b3⟩, b4⟩ := b1
 refine O_y rfl (b2 rfl rfl) <| O_y rfl (Qv Zkw Zev rfl rfl (fun j u hu => hs.see (b4 j u hu))) <| Y6 Zlz hs rfl (fun ct w hs => As rfl <| Ye (i := 0) Zev hs rfl rfl rfl rfl rfl (Zb rfl (Zb rfl (Zb b3.one Yj))) (fun w hs => Ox b0 <| Zc <| Mv rfl <| Mv rfl <| Mv rfl <| Mv rfl ?_))
 obtain ⟨af, H⟩ := gd H
 obtain ⟨cu, al⟩ := hs.rowBlock (j := 1) rfl (by have := af.2; omega)
 obtain ⟨_, rfl, a0⟩ := ac.at af.1 af.2
 refine O_y rfl (Vm (j := 1) U9 hs rfl al rfl rfl af.1 af.2) <| O_y rfl (Xp ag4 rfl (hs.rowCell (j := 1) rfl al (a0 0 _ rfl))) <| Mv rfl <| U8 (dj := 21) rfl (fun aw => ?_) (fun aw => ?_)
 rw [if_pos aw] at H
 refine On rfl <| On rfl <| On rfl <| On rfl <| On rfl <| Opk rfl <| Mv rfl <| On rfl <| On rfl <| On rfl <| Opk rfl <| Mv rfl <| On rfl <| On rfl ?_
 refine On rfl <| On rfl <| Opk rfl ?_
 obtain ⟨b5, am⟩ := hs.rowBlock (j := 1) rfl (by have := af.2; omega)
 obtain ⟨_, rfl, bk⟩ := ac.at af.1 af.2
 refine O_y rfl (Vm (j := 1) U9 hs rfl am rfl rfl af.1 af.2) <| Zaq (j := 1) sz4 hs rfl am af.1 af.2 ac rfl rfl rfl (fun a1 w be hs => Zd (a8 _ _ _ (T4 rfl) (a9 (ab.set aa.toNat true) ad a1 _ H (hs.sub (ssk (ssc ssr))) be)))
 rw [if_neg (bft aw)] at H
 refine Oe rfl <| Ofd Zez rfl <| Oe rfl <| Obx 0 Xm hs rfl <| Oe rfl <| Ofd Zkm rfl <| Oe rfl <| Obx 0 Xm hs rfl <| Oe rfl <| One rfl <| Opk rfl <| Mv rfl <| X6 (dj := 28) rfl (fun ax => ?_) (fun ax => ?_)
 rw [if_pos ax] at H
 refine On rfl <| On rfl <| On rfl <| Opk rfl <| Mv rfl <| On rfl <| On rfl <| On rfl <| On rfl <| Opk rfl ?_
 obtain ⟨b6, an⟩ := hs.rowBlock (j := 1) rfl (by have := af.2; omega)
 obtain ⟨_, rfl, bl⟩ := ac.at af.1 af.2
 refine O_y rfl (Vm (j := 1) U9 hs rfl an rfl rfl af.1 af.2) <| Zaq (j := 1) sz4 hs rfl an af.1 af.2 ac rfl rfl rfl (fun a2 w bf hs => Zd (a8 _ _ _ (T4 rfl) (a9 (ab.set aa.toNat true) ad a2 _ H (hs.sub (ssk (ssc ssr))) bf)))
 rw [if_neg ax] at H
 refine Oe rfl <| Ofd Zez rfl <| Oe rfl <| Obx 0 Xm hs rfl <| Oe rfl ?_
 obtain ⟨az, a3, H⟩ := bnd H
 refine Oc rfl (Xa.c hs a3) (fun b7 w hpost => ?_)
 obtain ⟨rfl, hs⟩ := hpost
 refine Opk rfl <| Mv rfl <| U8 (dj := 33) rfl (fun ay => ?_) (fun ay => ?_)
 rw [if_pos ay] at H
 refine On rfl <| On rfl <| On rfl <| On rfl <| Opk rfl ?_
 obtain ⟨b8, ao⟩ := hs.rowBlock (j := 1) rfl (by have := af.2; omega)
 obtain ⟨_, rfl, bm⟩ := ac.at af.1 af.2
 refine O_y rfl (Vm (j := 1) U9 hs rfl ao rfl rfl af.1 af.2) <| Zaq (j := 1) sz4 hs rfl ao af.1 af.2 ac rfl rfl rfl (fun a4 w bg hs => Zd (a8 _ _ _ (T4 rfl) (a9 (ab.set aa.toNat true) ad a4 _ H (hs.sub (ssk (ssc ssr))) bg)))
 rw [if_neg (bft ay)] at H
 refine Oe rfl <| Ofd Zez rfl <| Oe rfl <| Obx 0 Xm hs rfl <| Oe rfl ?_
 obtain ⟨ar, a5, H⟩ := bnd H
 refine Oc rfl (Kk.c hs a5) (fun b9 w hpost => ?_)
 obtain ⟨rfl, hs⟩ := hpost
 refine Oe rfl <| Ont rfl <| Opk rfl ?_
 obtain ⟨ca, ap⟩ := hs.rowBlock (j := 1) rfl (by have := af.2; omega)
 obtain ⟨_, rfl, bn⟩ := ac.at af.1 af.2
 refine O_y rfl (Vm (j := 1) U9 hs rfl ap rfl rfl af.1 af.2) <| Zaq (j := 1) sz4 hs rfl ap af.1 af.2 ac rfl rfl rfl (fun a6 w bh hs => Zd (a8 _ _ _ (T4 rfl) (a9 (ab.set aa.toNat (!ar)) ad a6 _ H (hs.sub (ssk (ssc ssr))) bh)))
 rw [if_neg bd] at H
 refine Y4 (bu _ _ (bs _ _ <| Wr fun cb bi => Mv rfl <| As rfl <| Ox bi <| Zk ?_))
 obtain rfl := Zz H
 exact r1 rfl ⟨_, _, _, rfl, au, hs, ac⟩

end Go.Proofs.YthoicbafdanmkaaGreatDoor
/- Written by this repo's gen.py: for each Go function a Lean function with the same answers and the walk that shows it. -/
namespace Go.Proofs.YthoicbafdanmkaaGreatDoor
open Go.IntKind (i8 i16 i32 i64 u8 u16 u32 u64)
open Go.RowKit
set_option maxRecDepth 100000
set_option maxHeartbeats 4000000
variable {w0 w : World} {ρ : Hp} {Γ : List Q5}
set_option linter.unusedVariables false
def Q3.j1 (ad : Int → Option (List Int)) (x0 : List Chs) (aa : Int) (ab : Bool) : Option (List Int) := if ab = true then (some ((rd x0 aa).is_)) else (ad (i64.wrap (aa + 1)))
def Q3.l1 : Nat → List Chs → Int → Int → Option (List Int)
  | 0, _, _, _ => none
  | ac + 1, x0, x1, aa => if aa < (x0.length : Int) then (if (0 : Int) ≤ aa ∧ aa < (x0.length : Int) then (if ((rd x0 aa).lo) ≤ x1 then (Q3.j1 (Q3.l1 ac x0 x1) x0 aa (decide (x1 ≤ ((rd x0 aa).hi)))) else (Q3.j1 (Q3.l1 ac x0 x1) x0 aa false)) else none) else (some ([] : List Int))
def Q3.f (x0 : List Chs) (x1 : Int) : Option (List Int) := Q3.l1 K0 x0 x1 0
theorem Q3.c (hs : St w0 ρ (Γ) w) {v0 : Value} {x0 : List Chs} (h0 : SlR Ks ρ v0 x0) {x1 : Int} {r : List Int} (H : Q3.f x0 x1 = some r) : Zn Tryz.prog 169 [v0, .int .i32 x1] w (fun v w' => ∃ (ρ' : Hp) (v0 : Value), v = v0 ∧ Le ρ ρ' ∧ St w0 ρ' (Γ) w' ∧ SlR (Rep.int .i32) ρ' v0 r) := by
 rw [Q3.f] at H
 refine Et Tryz.func169 Tryz.ntmps169 rfl <| Wr fun a6 an => As rfl <| Ox an <| Zh fun a7 ao => Wr fun a8 ap => Mv rfl <| O_y rfl (Yv Zlo h0 rfl) <| Mv rfl <| Ox ap <| Zj fun a9 aq ba => Y9 (σ := Nat × Int) (fun (ac, aa) => [(1, .int .i32 x1), (7, v0), (8, .int .i64 (x0.length : Int)), (9, .int .i64 aa)]) (fun (ac, aa) w => Q3.l1 ac x0 x1 aa = some r ∧ St w0 ρ (Γ) w) (fun s => s.1) (K0, 0) (T4 rfl) (Ai H hs) ?_
 rintro ⟨ac, aa⟩ w bb ⟨H, hs⟩ ae
 show W _ _ _ _ _ _ [(1, .int .i32 x1), (7, v0), (8, .int .i64 (x0.length : Int)), (9, .int .i64 aa)] w
 cases ac with
 | zero => rw [Q3.l1] at H; cases H
 | succ ac =>
 rw [Q3.l1] at H
 refine Wr fun bc ar => Ols rfl <| Ox ar <| Zh fun bd au => Y7 rfl (fun af => ?_) (fun af => ?_)
 rw [if_pos af] at H
 refine Wx au <| Zh fun be av => Zj fun bf bg bh => Zh fun bi aw => Zc ?_
 obtain ⟨ai, H⟩ := gd H
 obtain ⟨bj, bk, ax, ay⟩ := h0.ix Zh1 ai.1 ai.2
 obtain ⟨_, ⟨az, rfl, aj⟩, a0⟩ := ax
 refine O_y rfl (ay rfl rfl) <| O_y rfl (Qv Zkw Zev rfl rfl (fun j u hu => hs.see (a0 j u hu))) <| Y6 Zlz hs rfl (fun ak w hs => Ye (i := 0) Zev hs rfl rfl rfl rfl rfl (Zb rfl (Zb rfl (Zb aj.one Yj))) (fun w hs => Ox aw <| Yu fun a1 a2 al => ?_))
 have am : ∀ (ab : Bool) (w : World), Q3.j1 (Q3.l1 ac x0 x1) x0 aa ab = some r → St w0 ρ ((.box ak 87 ([.int .i32 ((rd x0 aa).lo), .int .i32 ((rd x0 aa).hi), az])) :: Γ) w → a1 [(1, .int .i32 x1), (6, .pointer (some ⟨ak, 0, none⟩)), (7, v0), (8, .int .i64 (x0.length : Int)), (9, .int .i64 aa), (22, .bool ab)] w := by
  intro ab w H hs
  rw [Q3.j1] at H
  refine a2 _ _ <| Xg rfl (fun ag => ?_) (fun ag => ?_)
  rw [if_pos ag] at H
  refine Wr fun bl a3 => Ofd Zck rfl <| Obx 0 Za8 hs rfl <| As rfl <| Ox a3 <| Zk ?_
  obtain rfl := Zz H
  exact r1 rfl ⟨_, _, rfl, Le.rfl' _, (hs.sub (ssk ssr)), aj⟩
  rw [if_neg (bft ag)] at H
  refine Wx av <| Zc <| Oad rfl <| Mv rfl <| Zd (ae (ac, (i64.wrap (aa + 1))) _ _ (T4 rfl) (Ai H (hs.sub (ssk ssr))) (Nat.lt_succ_self _))
 refine Zc <| Mv rfl <| Ofd Zez rfl <| Obx 0 Xm hs rfl <| Oge rfl <| Mv rfl <| X6 (dj := 17) rfl (fun ah => ?_) (fun ah => ?_)
 rw [if_pos ah] at H
 refine Oe rfl <| Mv rfl <| Oe rfl <| Ofd Zkm rfl <| Oe rfl <| Obx 0 Xm hs rfl <| Oe rfl <| Ole rfl <| Opk rfl <| Zd (al _ _ _ sbn (am (decide (x1 ≤ ((rd x0 aa).hi))) _ H hs))
 rw [if_neg ah] at H
 refine On rfl <| On rfl <| On rfl <| On rfl <| Opk rfl <| Zd (al _ _ _ sbn (am false _ H hs))
 rw [if_neg af] at H
 refine Y4 (aq _ _ (ao _ _ <| Wr fun bm a4 => As rfl <| Ox a4 <| Zk ?_))
 have a5 : SlR (Rep.int .i32) ρ (.slice none 0 0) [] := .inl ⟨rfl, none, 0, rfl⟩
 obtain rfl := Zz H
 exact r1 rfl ⟨_, _, rfl, Le.rfl' _, hs, a5⟩

def Zaj.f (x0 : Bk) (x1 : Int) : Option (List Int) := (Q3.f x0.decomp x1).bind fun ac => (some ac)
theorem Zaj.c (hs : St w0 ρ (Γ) w) {c0 : List Value} {x0 : Bk} (h0 : rBk.R ρ c0 x0) {x1 : Int} {r : List Int} (H : Zaj.f x0 x1 = some r) : Zn Tryz.prog 138 [.agg c0.toArray, .int .i32 x1] w (fun v w' => ∃ (ρ' : Hp) (v0 : Value), v = v0 ∧ Le ρ ρ' ∧ St w0 ρ' (Γ) w' ∧ SlR (Rep.int .i32) ρ' v0 r) := by
 rw [Zaj.f] at H
 refine Et Tryz.func138 Tryz.ntmps138 rfl ?_
 have ad := h0
 obtain ⟨ae, af, ag, ah, ai, aj, ak, al, am, an, ao, rfl, av, aw, ax, ay, ap, az, a0, a1, a2, a3, a4⟩ := ad
 refine Wr fun a5 aq => Vg (cs := [ae, af, ag, ah, ai, aj, ak, al, am, an, ao]) hs rfl rfl (fun a6 w hs => As rfl <| Ox aq <| Wr fun a7 ar => Ofd Zgg rfl <| Obx 0 Zh8 hs rfl <| Mv rfl ?_)
 obtain ⟨ac, aa, H⟩ := bnd H
 refine Oc rfl (Q3.c hs ap aa) (fun a8 w hpost => ?_)
 obtain ⟨a9, ba, rfl, ab, hs, au⟩ := hpost
 refine As rfl <| Ox ar <| Zk ?_
 obtain rfl := Zz H
 exact r1 rfl ⟨_, _, rfl, ab, (hs.sub (ssk ssr)), au⟩

def Xl.j1 (ag : Int → Int → Option Int) (aa ad : Int) : Option Int := ag ad (i64.wrap (aa + 1))
def Xl.l1 : Nat → (Bk → Int → Int → Option Int) → Bk → Int → List Int → Int → Int → Option Int
  | 0, _, _, _, _, _, _ => none
  | ac + 1, rec, x0, x2, ae, ab, aa => if aa < (ae.length : Int) then (if (0 : Int) ≤ aa ∧ aa < (ae.length : Int) then (if ab ≤ 18 then ((rec x0 (rd ae aa) (i64.wrap (x2 + 1))).bind fun ai => (Xl.j1 (Xl.l1 ac rec x0 x2 ae) aa (i64.wrap (ab + ai)))) else (Xl.j1 (Xl.l1 ac rec x0 x2 ae) aa ab)) else none) else (if 18 < ab then (some 19) else (some ab))
def Xl.b (rec : Bk → Int → Int → Option Int) (x0 : Bk) (x1 x2 : Int) : Option Int := (Zaj.f x0 x1).bind fun ae => (if (ae.length : Int) = 0 then (some 1) else (if (x0.decomp.length : Int) < x2 then (some 19) else (Xl.l1 K0 rec x0 x2 ae 0 0)))
def Xl.f : Nat → Bk → Int → Int → Option Int
  | 0, _, _, _ => none
  | k + 1, x0, x1, x2 => Xl.b (Xl.f k) x0 x1 x2
def Xl.Spec (rec : Bk → Int → Int → Option Int) : Prop := ∀ {w0 w : World} {ρ : Hp} {Γ : List Q5} (hs : St w0 ρ (Γ) w) {c0 : List Value} {x0 : Bk} (h0 : rBk.R ρ c0 x0) {x1 x2 r : Int}, rec x0 x1 x2 = some r → Zn Tryz.prog 86 [.agg c0.toArray, .int .i32 x1, .int .i64 x2] w (fun v w' => v = .int .i64 r ∧ St w0 ρ Γ w')
theorem Xl.cb (rec : Bk → Int → Int → Option Int) (hrec : Xl.Spec rec) {w0 w : World} {ρ : Hp} {Γ : List Q5} (hs : St w0 ρ (Γ) w) {c0 : List Value} {x0 : Bk} (h0 : rBk.R ρ c0 x0) {x1 x2 r : Int} (H : Xl.b rec x0 x1 x2 = some r) : Zn Tryz.prog 86 [.agg c0.toArray, .int .i32 x1, .int .i64 x2] w (fun v w' => v = .int .i64 r ∧ St w0 ρ Γ w') := by
 rw [Xl.b] at H
 refine Et Tryz.func86 Tryz.ntmps86 rfl ?_
 have bq := h0
 obtain ⟨ar, au, av, aw, ax, ay, az, a0, a1, a2, a3, rfl, cm, cn, co, cp, br, cq, cr, ct, cu, cv, cw⟩ := bq
 refine Wr fun cx bs => Vg (cs := [ar, au, av, aw, ax, ay, az, a0, a1, a2, a3]) hs rfl rfl (fun am w hs => As rfl <| Ox bs <| Wr fun cy bt => O_y rfl (Xk (i := 0) Zim Zey hs rfl rfl rfl rfl) <| Mv rfl ?_)
 obtain ⟨ae, a4, H⟩ := bnd H
 refine Oc rfl (Zaj.c hs h0 a4) (fun a5 w hpost => ?_)
 obtain ⟨bp, cz, rfl, af, hs, a6⟩ := hpost
 refine As rfl <| Ox bt <| Zh fun da bu => Wr fun db bv => Mv rfl <| O_y rfl (Yv V2 a6 rfl) <| Oeq rfl <| Ox bv <| Y7 rfl (fun a7 => ?_) (fun a7 => ?_)
 rw [if_pos a7] at H
 refine Wr fun dc bw => As rfl <| Ox bw <| Zk ?_
 obtain rfl := Zz H
 exact r1 rfl ⟨rfl, ((hs.sub (ssk ssr)).less af)⟩
 rw [if_neg a7] at H
 refine Wx bu <| Zh fun dd bx => Wr fun de bz => Mv rfl <| Ofd Zgg rfl <| Obx 0 Zh8 hs rfl <| O_y rfl (Yv Zlo (br.mono af) rfl) <| Ogt rfl <| Ox bz <| W.weak [(2, _), (3, _), (7, _), (21, _)] (T4 rfl) <| Y7 rfl (fun a8 => ?_) (fun a8 => ?_)
 rw [if_pos a8] at H
 refine Wr fun df b0 => As rfl <| Ox b0 <| Zk ?_
 obtain rfl := Zz H
 exact r1 rfl ⟨rfl, ((hs.sub (ssk ssr)).less af)⟩
 rw [if_neg a8] at H
 refine Wx bx <| Wr fun b1 a9 => As rfl <| Ox a9 <| Zh fun b2 ba => Wr fun b3 bb => Mv rfl <| O_y rfl (Yv V2 a6 rfl) <| Mv rfl <| Ox bb <| Zj fun b4 bc b5 => Y9 (σ := Nat × Int × Int) (fun (ac, ab, aa) => [(2, .int .i64 x2), (3, .pointer (some ⟨am, 0, none⟩)), (8, .int .i64 ab), (22, a5), (23, .int .i64 (ae.length : Int)), (24, .int .i64 aa)]) (fun (ac, ab, aa) w => Xl.l1 ac rec x0 x2 ae ab aa = some r ∧ St w0 bp ((.box am 34 ([ar, au, av, aw, ax, ay, az, a0, a1, a2, a3])) :: Γ) w) (fun s => s.1) (K0, 0, 0) sbn (Ai H hs) ?_
 rintro ⟨ac, ab, aa⟩ w b6 ⟨H, hs⟩ ah
 show W _ _ _ _ _ _ [(2, .int .i64 x2), (3, .pointer (some ⟨am, 0, none⟩)), (8, .int .i64 ab), (22, a5), (23, .int .i64 (ae.length : Int)), (24, .int .i64 aa)] w
 cases ac with
 | zero => rw [Xl.l1] at H; cases H
 | succ ac =>
 rw [Xl.l1] at H
 refine Wr fun b7 bd => Ols rfl <| Ox bd <| Zh fun b8 be => Y7 rfl (fun aj => ?_) (fun aj => ?_)
 rw [if_pos aj] at H
 refine Wx be <| Yu fun bf bg an => ?_
 have ao : ∀ (ad : Int) (w : World), Xl.j1 (Xl.l1 ac rec x0 x2 ae) aa ad = some r → St w0 bp ((.box am 34 ([ar, au, av, aw, ax, ay, az, a0, a1, a2, a3])) :: Γ) w → bf [(2, .int .i64 x2), (3, .pointer (some ⟨am, 0, none⟩)), (8, .int .i64 ad), (22, a5), (23, .int .i64 (ae.length : Int)), (24, .int .i64 aa)] w := by
  intro ad w H hs
  rw [Xl.j1] at H
  refine bg _ _ <| Zc <| Oad rfl <| Mv rfl <| Zd (ah (ac, ad, (i64.wrap (aa + 1))) _ _ sbn (Ai H hs) (Nat.lt_succ_self _))
 refine Zj fun b9 ca cc => Zh fun cd bh => Zc ?_
 obtain ⟨ap, H⟩ := gd H
 obtain ⟨ce, cf, bi, bj⟩ := a6.ix Q7 ap.1 ap.2
 refine O_y rfl (bj rfl rfl) <| O_y rfl (Xp Xm rfl (hs.see bi.int)) <| As rfl <| Ox bh <| Wr fun cg bk => Mv rfl <| Ole rfl <| Ox bk <| Y7 rfl (fun ak => ?_) (fun ak => ?_)
 rw [if_pos ak] at H
 refine Zc <| Mv rfl <| O_y rfl (Xk (i := 0) Zim Zey hs rfl rfl rfl rfl) <| Mv rfl <| Mv rfl <| Oad rfl ?_
 obtain ⟨ai, aq, H⟩ := bnd H
 refine Oc rfl (hrec hs (rBk.mono af h0) aq) (fun ch w hpost => ?_)
 obtain ⟨rfl, hs⟩ := hpost
 refine Oad rfl <| As rfl <| Zd (an _ _ _ sbn (ao (i64.wrap (ab + ai)) _ H hs))
 rw [if_neg ak] at H
 exact Ua (an _ _ _ sbn (ao ab _ H hs))
 rw [if_neg aj] at H
 refine Y4 (bc _ _ (ba _ _ <| Zh fun ci bl => Wr fun cj bm => Mv rfl <| Ogt rfl <| Ox bm <| Y7 rfl (fun al => ?_) (fun al => ?_)))
 rw [if_pos al] at H
 refine Wr fun ck bn => As rfl <| Ox bn <| Zk ?_
 obtain rfl := Zz H
 exact r1 rfl ⟨rfl, ((hs.sub (ssk ssr)).less af)⟩
 rw [if_neg al] at H
 refine Wx bl <| Wr fun cl bo => Mv rfl <| As rfl <| Ox bo <| Zk ?_
 obtain rfl := Zz H
 exact r1 rfl ⟨rfl, ((hs.sub (ssk ssr)).less af)⟩
theorem Xl.c (k : Nat) : Xl.Spec (Xl.f k) := by
 induction k with
 | zero => intro w0 w ρ Γ hs c0 x0 h0 x1 x2 r H; exact nomatch (show (none : Option _) = some _ from H)
 | succ k ih => intro w0 w ρ Γ hs c0 x0 h0 x1 x2 r H; exact Xl.cb (Xl.f k) ih hs h0 H

def Y0.j1 (ai : Int → Option Int) (aa ab : Int) (ad : Bool) : Option Int := if ad = true then (some aa) else (ai (i64.wrap (ab + 1)))
def Y0.l1 (ae : Int → Option Int) : Nat → Bk → Int → Int → Option Int
  | 0, _, _, _ => none
  | ac + 1, x0, aa, ab => if ab < ((sub x0.decomp 0 aa).length : Int) then (if (0 : Int) ≤ ab ∧ ab < ((sub x0.decomp 0 aa).length : Int) then (if (((rd x0.decomp aa).is_).length : Int) = 2 then (if (((rd (sub x0.decomp 0 aa) ab).is_).length : Int) = 2 then (if (0 : Int) ≤ 0 ∧ 0 < (((rd x0.decomp aa).is_).length : Int) then (if (0 : Int) ≤ 0 ∧ 0 < (((rd (sub x0.decomp 0 aa) ab).is_).length : Int) then (if (rd ((rd x0.decomp aa).is_) 0) = (rd ((rd (sub x0.decomp 0 aa) ab).is_) 0) then (if (0 : Int) ≤ 1 ∧ 1 < (((rd x0.decomp aa).is_).length : Int) then (if (0 : Int) ≤ 1 ∧ 1 < (((rd (sub x0.decomp 0 aa) ab).is_).length : Int) then (Y0.j1 (Y0.l1 ae ac x0 aa) aa ab (decide ((rd ((rd x0.decomp aa).is_) 1) = (rd ((rd (sub x0.decomp 0 aa) ab).is_) 1)))) else none) else none) else (Y0.j1 (Y0.l1 ae ac x0 aa) aa ab false)) else none) else none) else (Y0.j1 (Y0.l1 ae ac x0 aa) aa ab false)) else (Y0.j1 (Y0.l1 ae ac x0 aa) aa ab false)) else none) else (ae (i64.wrap (aa + 1)))
def Y0.l2 : Nat → Bk → Int → Option Int
  | 0, _, _ => none
  | af + 1, x0, aa => if aa < (x0.decomp.length : Int) then (if (0 : Int) ≤ aa ∧ aa < (x0.decomp.length : Int) then ((Xl.f K0 x0 ((rd x0.decomp aa).lo) 0).bind fun a1 => (if 18 < a1 then (some aa) else (if (0 : Int) ≤ 0 ∧ 0 ≤ aa ∧ aa ≤ (x0.decomp.length : Int) then (Y0.l1 (Y0.l2 af x0) K0 x0 aa 0) else none))) else none) else (some (-1))
def Y0.f (x0 : Bk) : Option Int := Y0.l2 K0 x0 0
theorem Y0.c (hs : St w0 ρ (Γ) w) {c0 : List Value} {x0 : Bk} (h0 : rBk.R ρ c0 x0) {r : Int} (H : Y0.f x0 = some r) : Zn Tryz.prog 59 [.agg c0.toArray] w (fun v w' => v = .int .i64 r ∧ St w0 ρ Γ w') := by
 rw [Y0.f] at H
 refine Et Tryz.func59 Tryz.ntmps59 rfl ?_
 have ch := h0
 obtain ⟨a2, a3, a4, a5, ah, a6, a7, a8, a9, ba, bb, rfl, dw, dx, dy, dz, bl, ea, eb, ec, ed, ee, ef⟩ := ch
 refine Wr fun eg ci => Vg (cs := [a2, a3, a4, a5, ah, a6, a7, a8, a9, ba, bb]) hs rfl rfl (fun aj w hs => As rfl <| Ox ci <| Zh fun eh cj => Wr fun ei ck => Ofd Zgg rfl <| Obx 0 Zh8 hs rfl <| O_y rfl (Yv Zlo bl rfl) <| Mv rfl <| Ox ck <| Zj fun ej cl ek => ?_)
 refine Y9 (σ := Nat × Int) (fun (af, aa) => [(1, .pointer (some ⟨aj, 0, none⟩)), (8, ah), (9, .int .i64 (x0.decomp.length : Int)), (10, .int .i64 aa)]) (fun (af, aa) w => Y0.l2 af x0 aa = some r ∧ St w0 ρ ((.box aj 34 ([a2, a3, a4, a5, ah, a6, a7, a8, a9, ba, bb])) :: Γ) w) (fun s => s.1) (K0, 0) (T4 rfl) (Ai H hs) ?_
 rintro ⟨af, aa⟩ w el ⟨H, hs⟩ ap
 show W _ _ _ _ _ _ [(1, .pointer (some ⟨aj, 0, none⟩)), (8, ah), (9, .int .i64 (x0.decomp.length : Int)), (10, .int .i64 aa)] w
 cases af with
 | zero => rw [Y0.l2] at H; cases H
 | succ af =>
 rw [Y0.l2] at H
 refine Wr fun em cm => Ols rfl <| Ox cm <| Zh fun en cn => Y7 rfl (fun bm => ?_) (fun bm => ?_)
 ·rw [if_pos bm] at H
  refine Wx cn <| Zh fun eo co => Zj fun ep eq er => Wr fun es cp => Mv rfl ?_
  obtain ⟨cg, H⟩ := gd H
  obtain ⟨cq, cr, bn, bo⟩ := bl.ix Zh1 cg.1 cg.2
  obtain ⟨_, ⟨aq, rfl, ak⟩, bp⟩ := bn
  refine O_y rfl (bo rfl rfl) <| O_y rfl (Qv Zkw Zev rfl rfl (fun j u hu => hs.see (bp j u hu))) <| Y6 Zlz hs rfl (fun ag w hs => As rfl <| Ye (i := 0) Zev hs rfl rfl rfl rfl rfl (Zb rfl (Zb rfl (Zb ak.one Yj))) (fun w hs => Ox cp <| Zh fun ct bq => Wr fun cu br => O_y rfl (Xk (i := 1) Zim Zey hs rfl rfl rfl rfl) <| Ofd Zez rfl <| Obx 0 Xm hs rfl ?_))
  obtain ⟨a1, bc, H⟩ := bnd H
  refine Oc rfl ((Xl.c K0) hs h0 bc) (fun cv w hpost => ?_)
  obtain ⟨rfl, hs⟩ := hpost
  refine Ogt rfl <| Ox br <| W.weak [(1, _), (3, _), (4, _), (8, _), (9, _), (10, _), (19, _)] sbn ?_
  refine Y7 rfl (fun ar => ?_) (fun ar => ?_)
  rw [if_pos ar] at H
  refine Wr fun cw bs => Mv rfl <| As rfl <| Ox bs <| Zk ?_
  obtain rfl := Zz H
  exact r1 rfl ⟨rfl, (hs.sub (ssk (ssk ssr)))⟩
  rw [if_neg ar] at H
  refine Wx bq <| Wr fun cx bt => Ofd Zgg rfl <| Obx 1 Zh8 hs rfl <| Mv rfl ?_
  obtain ⟨au, H⟩ := gd H
  obtain ⟨av, bd, bu⟩ := bl.cut Zh1 au.1 au.2.1 au.2.2
  refine O_y rfl (bu rfl (.inl ⟨rfl, rfl⟩) (.inr ⟨_, _, rfl, rfl⟩)) <| O_y rfl (Yv Zlo bd rfl) <| Mv rfl <| Ox bt <| Zj fun cy bv cz => Y9 (σ := Nat × Int) (fun (ac, ab) => [(1, .pointer (some ⟨aj, 0, none⟩)), (3, .int .i64 aa), (4, .pointer (some ⟨ag, 0, none⟩)), (8, ah), (9, .int .i64 (x0.decomp.length : Int)), (10, .int .i64 aa), (24, av), (25, .int .i64 ((sub x0.decomp 0 aa).length : Int)), (26, .int .i64 ab)]) (fun (ac, ab) w => Y0.l1 (Y0.l2 af x0) ac x0 aa ab = some r ∧ St w0 ρ ((.box ag 87 ([.int .i32 ((rd x0.decomp aa).lo), .int .i32 ((rd x0.decomp aa).hi), aq])) :: (.box aj 34 ([a2, a3, a4, a5, ah, a6, a7, a8, a9, ba, bb])) :: Γ) w) (fun s => s.1) (K0, 0) sbn (Ai H hs) ?_
  rintro ⟨ac, ab⟩ w da ⟨H, hs⟩ al
  show W _ _ _ _ _ _ [(1, .pointer (some ⟨aj, 0, none⟩)), (3, .int .i64 aa), (4, .pointer (some ⟨ag, 0, none⟩)), (8, ah), (9, .int .i64 (x0.decomp.length : Int)), (10, .int .i64 aa), (24, av), (25, .int .i64 ((sub x0.decomp 0 aa).length : Int)), (26, .int .i64 ab)] w
  cases ac with
  | zero => rw [Y0.l1] at H; cases H
  | succ ac =>
  rw [Y0.l1] at H
  refine Wr fun db bw => Ols rfl <| Ox bw <| Zh fun dc bx => Y7 rfl (fun aw => ?_) (fun aw => ?_)
  rw [if_pos aw] at H
  refine Wx bx <| Zh fun dd bz => Zj fun de df dg => Zh fun dh b0 => Zc ?_
  obtain ⟨be, H⟩ := gd H
  obtain ⟨di, dk, b1, b2⟩ := bd.ix Zh1 be.1 be.2
  obtain ⟨_, ⟨bf, rfl, am⟩, b3⟩ := b1
  refine O_y rfl (b2 rfl rfl) <| O_y rfl (Qv Zkw Zev rfl rfl (fun j u hu => hs.see (b3 j u hu))) <| Y6 Zlz hs rfl (fun bg w hs => Ye (i := 0) Zev hs rfl rfl rfl rfl rfl (Zb rfl (Zb rfl (Zb am.one Yj))) (fun w hs => Ox b0 <| Yu fun b4 b5 an => ?_))
  have ao : ∀ (ad : Bool) (w : World), Y0.j1 (Y0.l1 (Y0.l2 af x0) ac x0 aa) aa ab ad = some r → St w0 ρ ((.box bg 87 ([.int .i32 ((rd (sub x0.decomp 0 aa) ab).lo), .int .i32 ((rd (sub x0.decomp 0 aa) ab).hi), bf])) :: (.box ag 87 ([.int .i32 ((rd x0.decomp aa).lo), .int .i32 ((rd x0.decomp aa).hi), aq])) :: (.box aj 34 ([a2, a3, a4, a5, ah, a6, a7, a8, a9, ba, bb])) :: Γ) w → b4 [(1, .pointer (some ⟨aj, 0, none⟩)), (3, .int .i64 aa), (4, .pointer (some ⟨ag, 0, none⟩)), (8, ah), (9, .int .i64 (x0.decomp.length : Int)), (10, .int .i64 aa), (24, av), (25, .int .i64 ((sub x0.decomp 0 aa).length : Int)), (26, .int .i64 ab), (61, .bool ad)] w := by
   intro ad w H hs
   rw [Y0.j1] at H
   refine b5 _ _ <| Xg rfl (fun ax => ?_) (fun ax => ?_)
   rw [if_pos ax] at H
   refine Wr fun dl b6 => Mv rfl <| As rfl <| Ox b6 <| Zk ?_
   obtain rfl := Zz H
   exact r1 rfl ⟨rfl, (hs.sub (ssk (ssk (ssk ssr))))⟩
   rw [if_neg (bft ax)] at H
   refine Wx bz <| Zc <| Oad rfl <| Mv rfl <| Zd (al (ac, (i64.wrap (ab + 1))) _ _ sbn (Ai H (hs.sub (ssk (ssc (ssc ssr))))) (Nat.lt_succ_self _))
  refine Qn 32 [0, 1, 2, 4, 8, 16, 48, 80, 144, 272, 528, 1024, 3072, 5120, 9216, 1024, 33792, 66560, 132096, 279552, 525312, 1049600, 2097152, 6291456, 10485760, 18874368, 2097152, 69206016, 136314880, 270532608, 572522496, 1075838976] [4294967292, 4294967288, 4294967280, 4294967264, 4294965248, 4294967168, 4294967040, 4294966784, 4294966272, 4294965248, 4290772992, 4294959104, 4294950912, 4294934528, 4294410240, 4294866944, 4294735872, 4294473728, 4293949440, 4292870144, 4290772992, 0, 4278190080, 4261412864, 4227858432, 3154116608, 4089446400, 3821010944, 3284140032, 2210398208, 0, 0] [0, 1, 3, 7, 15, 31, 63, 127, 255, 511, 1023, 2047, 4095, 8191, 16383, 2047, 34815, 100351, 231423, 524287, 1048575, 2097151, 4194303, 8388607, 16777215, 33554431, 4194303, 71303167, 205520895, 473956351, 1073741823, 2147483647] [] (fun w => St w0 ρ ((.box bg 87 ([.int .i32 ((rd (sub x0.decomp 0 aa) ab).lo), .int .i32 ((rd (sub x0.decomp 0 aa) ab).hi), bf])) :: (.box ag 87 ([.int .i32 ((rd x0.decomp aa).lo), .int .i32 ((rd x0.decomp aa).hi), aq])) :: (.box aj 34 ([a2, a3, a4, a5, ah, a6, a7, a8, a9, ba, bb])) :: Γ) w) Vl (by kernel_rfl) (fun sh => ?_)
  have hs := hs.drew
  refine Fp 0 sh rfl (fun w => Zp Zck rfl) <| Fy 1 sh rfl hs (fun w hs => Yb 1 Za8 hs rfl rfl rfl) <| Fp 2 sh rfl (fun w => Yv V2 ak rfl) <| Fp 3 sh rfl (fun w => Zbn rfl rfl) <| Fm 4 sh rfl <| Zav (dj := 34) rfl (fun ay => ?_) (fun ay => ?_)
  rw [if_pos ay] at H
  refine Fp 5 sh rfl (fun w => Zp Zck rfl) <| Fy 6 sh rfl hs (fun w hs => Yb 0 Za8 hs rfl rfl rfl) <| Fp 7 sh rfl (fun w => Yv V2 am rfl) <| Fp 8 sh rfl (fun w => Zbn rfl rfl) <| Fp 9 sh rfl (fun w => J7 rfl rfl) <| Fm 10 sh rfl <| Zav (dj := 40) rfl (fun az => ?_) (fun az => ?_)
  rw [if_pos az] at H
  refine Fp 11 sh rfl (fun w => Zp Zck rfl) <| Fy 12 sh rfl hs (fun w hs => Yb 1 Za8 hs rfl rfl rfl) ?_
  obtain ⟨bh, H⟩ := gd H
  obtain ⟨dm, dn, b7, b8⟩ := ak.ix Q7 bh.1 bh.2
  refine Fp 13 sh rfl (fun w => b8 rfl rfl) <| Fy 14 sh rfl hs (fun w hs => Xp Xm rfl (hs.see b7.int)) <| Fp 15 sh rfl (fun w => Zp Zck rfl) <| Fy 16 sh rfl hs (fun w hs => Yb 0 Za8 hs rfl rfl rfl) ?_
  obtain ⟨bi, H⟩ := gd H
  obtain ⟨dp, dq, b9, ca⟩ := am.ix Q7 bi.1 bi.2
  refine Fp 17 sh rfl (fun w => ca rfl rfl) <| Fy 18 sh rfl hs (fun w hs => Xp Xm rfl (hs.see b9.int)) <| Fp 19 sh rfl (fun w => Zbn rfl rfl) <| Fp 20 sh rfl (fun w => J7 rfl rfl) <| Fm 21 sh rfl <| Zav (dj := 51) rfl (fun a0 => ?_) (fun a0 => ?_)
  rw [if_pos a0] at H
  refine Fp 22 sh rfl (fun w => Zp Zck rfl) <| Fy 23 sh rfl hs (fun w hs => Yb 1 Za8 hs rfl rfl rfl) ?_
  obtain ⟨bj, H⟩ := gd H
  obtain ⟨dr, ds, cb, cc⟩ := ak.ix Q7 bj.1 bj.2
  refine Fp 24 sh rfl (fun w => cc rfl rfl) <| Fy 25 sh rfl hs (fun w hs => Xp Xm rfl (hs.see cb.int)) <| Fp 26 sh rfl (fun w => Zp Zck rfl) <| Fy 27 sh rfl hs (fun w hs => Yb 0 Za8 hs rfl rfl rfl) ?_
  obtain ⟨bk, H⟩ := gd H
  obtain ⟨dt, du, cd, ce⟩ := am.ix Q7 bk.1 bk.2
  refine Fp 28 sh rfl (fun w => ce rfl rfl) <| Fy 29 sh rfl hs (fun w hs => Xp Xm rfl (hs.see cd.int)) <| Fp 30 sh rfl (fun w => Zbn rfl rfl) <| Fp 31 sh rfl (fun w => J7 rfl rfl) <| FE sh (an _ _ _ sbn (ao (decide ((rd ((rd x0.decomp aa).is_) 1) = (rd ((rd (sub x0.decomp 0 aa) ab).is_) 1))) _ H hs))
  rw [if_neg a0] at H
  refine Fn 22 sh rfl <| Fn 23 sh rfl <| Fn 24 sh rfl <| Fn 25 sh rfl <| Fn 26 sh rfl <| Fn 27 sh rfl <| Fn 28 sh rfl <| Fn 29 sh rfl <| Fn 30 sh rfl <| Fp 31 sh rfl (fun w => Qr rfl rfl) <| FE sh (an _ _ _ sbn (ao false _ H hs))
  rw [if_neg az] at H
  refine Fn 11 sh rfl <| Fn 12 sh rfl <| Fn 13 sh rfl <| Fn 14 sh rfl <| Fn 15 sh rfl <| Fn 16 sh rfl <| Fn 17 sh rfl <| Fn 18 sh rfl <| Fn 19 sh rfl <| Fp 20 sh rfl (fun w => Qr rfl rfl) <| Fm 21 sh rfl <| Fn 22 sh rfl <| Fn 23 sh rfl <| Fn 24 sh rfl ?_
  refine Fn 25 sh rfl <| Fn 26 sh rfl <| Fn 27 sh rfl <| Fn 28 sh rfl <| Fn 29 sh rfl <| Fn 30 sh rfl <| Fp 31 sh rfl (fun w => Qr rfl rfl) <| FE sh (an _ _ _ sbn (ao false _ H hs))
  rw [if_neg ay] at H
  refine Fn 5 sh rfl <| Fn 6 sh rfl <| Fn 7 sh rfl <| Fn 8 sh rfl <| Fp 9 sh rfl (fun w => Qr rfl rfl) <| Fm 10 sh rfl <| Fn 11 sh rfl <| Fn 12 sh rfl <| Fn 13 sh rfl <| Fn 14 sh rfl <| Fn 15 sh rfl <| Fn 16 sh rfl <| Fn 17 sh rfl <| Fn 18 sh rfl ?_
  refine Fn 19 sh rfl <| Fp 20 sh rfl (fun w => Qr rfl rfl) <| Fm 21 sh rfl <| Fn 22 sh rfl <| Fn 23 sh rfl <| Fn 24 sh rfl <| Fn 25 sh rfl <| Fn 26 sh rfl <| Fn 27 sh rfl <| Fn 28 sh rfl <| Fn 29 sh rfl <| Fn 30 sh rfl <| Fp 31 sh rfl (fun w => Qr rfl rfl) <| FE sh (an _ _ _ sbn (ao false _ H hs))
  rw [if_neg aw] at H
  refine Y4 (bv _ _ (co _ _ <| Zc <| Oad rfl <| Mv rfl <| Zd (ap (af, (i64.wrap (aa + 1))) _ _ (T4 rfl) (Ai H (hs.sub (ssk (ssc ssr)))) (Nat.lt_succ_self _))))
 rw [if_neg bm] at H
 refine Y4 (cl _ _ (cj _ _ <| Wr fun dv cf => As rfl <| Ox cf <| Zk ?_))
 obtain rfl := Zz H
 exact r1 rfl ⟨rfl, (hs.sub (ssk ssr))⟩

end Go.Proofs.YthoicbafdanmkaaGreatDoor
