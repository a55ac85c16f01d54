/- Short names for the steps that come most often. Own work of this repo. -/
import Derived.Test.YtekafkokpnihfaaGreatEngN
namespace Go.Proofs.YtekafkokpnihfaaGreat
open Go.RowKit
theorem gd {α : Type} {p : Prop} [Decidable p] {x : Option α} {r : α} (H : (if p then x else none) = some r) : p ∧ x = some r := by
  by_cases c : p
  · rw [if_pos c] at H; exact ⟨c, H⟩
  · rw [if_neg c] at H; cases H
theorem sinj {α : Type} {a b : α} (h : some a = some b) : a = b := Option.some.inj h
theorem bft {b : Bool} (h : b = false) : ¬ b = true := by rw [h]; exact Bool.false_ne_true
theorem Ai {a b : Prop} (h : a) (k : b) : a ∧ b := ⟨h, k⟩
theorem ssr {α : Type} {l : List α} : l.Sublist l := List.Sublist.refl l
theorem ssk {α : Type} {a : α} {l m : List α} (h : l.Sublist m) : l.Sublist (a :: m) := h.cons _
theorem ssc {α : Type} {a : α} {l m : List α} (h : l.Sublist m) : (a :: l).Sublist (a :: m) := h.cons_cons _
section
variable {P : Program} {n : Nat} {N : Nxt} {X : Nat → Nxt} {R : Nxt} {L : Loc} {w w0 : World} {ops : Array Oper} {rest : List Oper} {d t : Nat} {pos : String} {aft : Array Edge} {ρ : Hp} {Γ : List Item} {x y : Operand}
theorem S1 {a : Nat} {u : Value} (h : lk a L = some u) : Sub [(a, u)] L := Sub.cons h Sub.nil
theorem S2 {a b : Nat} {u v : Value} (h : lk a L = some u) (k : lk b L = some v) : Sub [(a, u), (b, v)] L := Sub.cons h (S1 k)
theorem S3 {a b c : Nat} {u v z : Value} (h : lk a L = some u) (k : lk b L = some v) (l : lk c L = some z) : Sub [(a, u), (b, v), (c, z)] L := Sub.cons h (S2 k l)
theorem S4 {a b c e : Nat} {u v z q : Value} (h : lk a L = some u) (k : lk b L = some v) (l : lk c L = some z) (m : lk e L = some q) : Sub [(a, u), (b, v), (c, z), (e, q)] L := Sub.cons h (S3 k l m)
theorem Om {v : Value} (hd : Nat.blt d n = true) (hx : ev L x = some v) (k : O P n ops rest N ((d, v) :: L) w) : O P n ops (⟨some d, .move x, t, pos, aft, none⟩ :: rest) N L w := O_y hd (Y_move hx) k
theorem Oa {v : Value} (hd : Nat.blt d n = true) (hx : ev L x = some v) (k : O P n ops rest N ((d, v) :: L) w) : O P n ops (⟨some d, .assign x, t, pos, aft, none⟩ :: rest) N L w := O_y hd (Y_assign hx) k
theorem Wr {id : Nat} {l : List Oper} {y : Code} (h : ∀ N' : Nxt, (∀ L w, W P n y N X R L w → N' L w) → O P n l.toArray l N' L w) : W P n (.seq (.region id l.toArray false) y) N X R L w := W_seq fun N' h' => W_region (h N' h')
theorem Yb (i : Nat) {ty b o T : Nat} {cs : List Value} {v : Value} (ha : isAggOf P ty = some false) (hs : St w0 ρ Γ w) (hi : Γ[i]? = some (.box b T cs)) (hv : cs[o]? = some v) (hx : ev L x = some (.pointer (some ⟨b, o, none⟩))) : Y P n L w (.load ty x) t v := Y_loadb ha hs hi hv hx
end
section
variable {P : Program} {n : Nat} {ops : Array Oper} {late done : List Nat} {J : World → Prop} {N : Nxt} {L : Loc} {w : World} {d t : Nat} {pos : String} {aft : Array Edge} {fuel : Nat} {m : Nat} {ms ap tm : List Nat}
theorem Dy (i : Nat) {op : Op} {v : Value} (hS : Shape ops m ms ap tm) (hi : ops[i]? = some ⟨some d, op, t, pos, aft, none⟩) (hd : Nat.blt d n = true) (hok : (okPM m ms ap (maskOf done) i && (closM (maskOf done) 0 ms && lateM tm i late)) = true) (hJ : J w)
    (hy : ∀ w, J w → Y P n L w op t v) (k : OD P n ops late J fuel (i :: done) N ((d, v) :: L) w) : OD P n ops late J (fuel + 1) done N L w := OD_yS hS hi hd hok hJ hy k
theorem Dz (i : Nat) {j dj : Nat} {b : Bool} {op : Op} {v : Value} (hS : Shape ops m ms ap tm) (hi : ops[i]? = some ⟨some d, op, t, pos, aft, some (j, b)⟩) (hj : (ops[j]?).bind (·.dst) = some dj) (hl : lk dj L = some (.bool b)) (hd : Nat.blt d n = true) (hok : (okPM m ms ap (maskOf done) i && (closM (maskOf done) 0 ms && lateM tm i late)) = true) (hJ : J w)
    (hy : ∀ w, J w → Y P n L w op t v) (k : OD P n ops late J fuel (i :: done) N ((d, v) :: L) w) : OD P n ops late J (fuel + 1) done N L w := OD_yesS hS hi hj hl hd hok hJ hy k
theorem Dp (i : Nat) {op : Op} {v : Value} (hS : Shape ops m ms ap tm) (hi : ops[i]? = some ⟨some d, op, t, pos, aft, none⟩) (hd : Nat.blt d n = true) (hok : okPM m ms ap (maskOf done) i = true)
    (hy : ∀ w, Y P n L w op t v) (k : OD P n ops late J fuel (i :: done) N ((d, v) :: L) w) : OD P n ops late J (fuel + 1) done N L w := OD_pS hS hi hd hok hy k
theorem Dm (i : Nat) {x : Operand} {v : Value} (hS : Shape ops m ms ap tm) (hi : ops[i]? = some ⟨some d, .move x, t, pos, aft, none⟩) (hd : Nat.blt d n = true) (hok : okPM m ms ap (maskOf done) i = true)
    (hx : ev L x = some v) (k : OD P n ops late J fuel (i :: done) N ((d, v) :: L) w) : OD P n ops late J (fuel + 1) done N L w := OD_pS hS hi hd hok (fun _ => Y_move hx) k
theorem Dq (i : Nat) {j dj : Nat} {b : Bool} {op : Op} {v : Value} (hS : Shape ops m ms ap tm) (hi : ops[i]? = some ⟨some d, op, t, pos, aft, some (j, b)⟩) (hj : (ops[j]?).bind (·.dst) = some dj) (hl : lk dj L = some (.bool b)) (hd : Nat.blt d n = true) (hok : okPM m ms ap (maskOf done) i = true)
    (hy : ∀ w, Y P n L w op t v) (k : OD P n ops late J fuel (i :: done) N ((d, v) :: L) w) : OD P n ops late J (fuel + 1) done N L w := OD_pyesS hS hi hj hl hd hok hy k
theorem Dn (i : Nat) {j dj : Nat} {b c : Bool} {op : Op} (hS : Shape ops m ms ap tm) (hi : ops[i]? = some ⟨some d, op, t, pos, aft, some (j, b)⟩) (hj : (ops[j]?).bind (·.dst) = some dj) (hl : lk dj L = some (.bool c)) (hc : c = !b) (hd : Nat.blt d n = true) (hok : okPM m ms ap (maskOf done) i = true)
    (k : OD P n ops late J fuel (i :: done) N ((d, undef) :: L) w) : OD P n ops late J (fuel + 1) done N L w := OD_noS hS hi hj hl hc hd hok k
theorem D1 (i : Nat) {o : Oper} (hS : Shape ops m ms ap tm) (hi : ops[i]? = some o) (hok : (Nat.blt i m && rdyM ms (maskOf done) i && onlyM (maskOf done) i 0 ms) = true)
    (h : ∀ N' : Nxt, (∀ L' w', (late.contains i = false → J w → J w') → OD P n ops late J fuel (i :: done) N L' w' → N' L' w') → O P n ops [o] N' L w) : OD P n ops late J (fuel + 1) done N L w := OD_oneS hS hi hok h
end
end Go.Proofs.YtekafkokpnihfaaGreat
