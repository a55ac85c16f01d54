/- One rule for each operation. Own work of this repo. -/
import Derived.Test.YtekafkokpnihfaaGreatEngB
import Derived.WideLaws
import Derived.WalkSpells
namespace Go.Proofs.YtekafkokpnihfaaGreat
open Go.RowKit
section
variable {P : Program} {n : Nat} {N : Nxt} {L : Loc} {w : World} {ops : Array Oper} {rest : List Oper} {d t : Nat} {pos : String} {aft : Array Edge}

def Y (P : Program) (n : Nat) (L : Loc) (w : World) (op : Op) (t : TypeId) (v : Value) : Prop :=
  ∀ a, Sat n L a → ∀ dst pos aft g, (execOp a.eval ⟨dst, op, t, pos, aft, g⟩).run P w = .ok (.value v) w
theorem O_y {op : Op} {v : Value} (hd : Nat.blt d n = true) (hy : Y P n L w op t v) (k : O P n ops rest N ((d, v) :: L) w) : O P n ops (⟨some d, op, t, pos, aft, none⟩ :: rest) N L w :=
  O_val hd (fun a ha => hy a ha _ _ _ _) k
theorem Y_move {x : Operand} {v : Value} (hx : ev L x = some v) : Y P n L w (.move x) t (v) :=
  fun a ha _ _ _ _ => by simp [execOp, ha.ev hx]
theorem Y_assign {x : Operand} {v : Value} (hx : ev L x = some v) : Y P n L w (.assign x) t (v) :=
  fun a ha _ _ _ _ => by simp [execOp, ha.ev hx]
theorem Y_pick_t {c x y : Operand} {v : Value} (hc : ev L c = some (.bool true)) (hx : ev L x = some v) : Y P n L w (.pick c x y) t (v) :=
  fun a ha _ _ _ _ => by simp [execOp, ha.ev hx, ha.ev hc, asBool]
theorem Y_pick_f {c x y : Operand} {v : Value} (hc : ev L c = some (.bool false)) (hx : ev L y = some v) : Y P n L w (.pick c x y) t (v) :=
  fun a ha _ _ _ _ => by simp [execOp, ha.ev hx, ha.ev hc, asBool]

section
variable {xt yt : TypeId} {x y : Operand} {k : IntKind} {p q : Int}
theorem run_bin_int (op : BinOp) (hop : op ≠ .shl ∧ op ≠ .shr) (a b : Int) : (do eqGuard op xt x y (.int k a) (.int k b); binOp op xt (.int k a) (.int k b) : Sem Value).run P w =
    (match op with
    | .add | .sub | .mul => Op.intArith op k a b
    | .quo | .rem => Op.intDiv op k a b
    | .and | .or | .xor | .andNot => Op.intBits op k a b
    | _ => Op.intCmp op a b : Sem Value).run P w := by
  cases op <;> first | exact absurd rfl hop.1 | exact absurd rfl hop.2 | simp [eqGuard, binOp]
theorem Y_bin {op : BinOp} {v : Value} (hop : op ≠ .shl ∧ op ≠ .shr) (hx : ev L x = some (.int k p)) (hy : ev L y = some (.int k q))
    (hr : ∀ w : World, (match op with
    | .add | .sub | .mul => Op.intArith op k p q
    | .quo | .rem => Op.intDiv op k p q
    | .and | .or | .xor | .andNot => Op.intBits op k p q
    | _ => Op.intCmp op p q : Sem Value).run P w = .ok v w)
    : Y P n L w (.binOp op xt x y yt) t (v) :=
  fun a ha _ _ _ _ => by
    have h1 := run_bin_int (P := P) (w := w) (xt := xt) (x := x) (y := y) (k := k) op hop p q
    rw [hr] at h1
    simp only [execOp, ha.ev hx, ha.ev hy, bind_pure_comp, Sem.run_map]
    rw [h1]; rfl
theorem Y_add (hx : ev L x = some (.int k p)) (hy : ev L y = some (.int k q)) : Y P n L w (.binOp .add xt x y yt) t (.int k (k.wrap (p + q))) :=
  Y_bin (by decide) hx hy (fun _ => rfl)
theorem Y_sub (hx : ev L x = some (.int k p)) (hy : ev L y = some (.int k q)) : Y P n L w (.binOp .sub xt x y yt) t (.int k (k.wrap (p - q))) :=
  Y_bin (by decide) hx hy (fun _ => rfl)
theorem Y_mul (hx : ev L x = some (.int k p)) (hy : ev L y = some (.int k q)) : Y P n L w (.binOp .mul xt x y yt) t (.int k (k.wrap (p * q))) :=
  Y_bin (by decide) hx hy (fun _ => rfl)
theorem Y_quo (hx : ev L x = some (.int k p)) (hy : ev L y = some (.int k q)) (hq : q ≠ 0) : Y P n L w (.binOp .quo xt x y yt) t (.int k (k.wrap (p.tdiv q))) :=
  Y_bin (by decide) hx hy (fun _ => by simp [Op.intDiv, hq])
theorem Y_rem (hx : ev L x = some (.int k p)) (hy : ev L y = some (.int k q)) (hq : q ≠ 0) : Y P n L w (.binOp .rem xt x y yt) t (.int k (p.tmod q)) :=
  Y_bin (by decide) hx hy (fun _ => by simp [Op.intDiv, hq])
theorem Y_eql (hx : ev L x = some (.int k p)) (hy : ev L y = some (.int k q)) : Y P n L w (.binOp .eql xt x y yt) t (.bool (decide (p = q))) :=
  Y_bin (by decide) hx hy (fun _ => rfl)
theorem Y_neq (hx : ev L x = some (.int k p)) (hy : ev L y = some (.int k q)) : Y P n L w (.binOp .neq xt x y yt) t (.bool (decide (p ≠ q))) :=
  Y_bin (by decide) hx hy (fun _ => by simp only [Op.intCmp, Sem.run_pure]; by_cases e : p = q <;> simp [e, bne])
theorem Y_lss (hx : ev L x = some (.int k p)) (hy : ev L y = some (.int k q)) : Y P n L w (.binOp .lss xt x y yt) t (.bool (decide (p < q))) :=
  Y_bin (by decide) hx hy (fun _ => rfl)
theorem Y_leq (hx : ev L x = some (.int k p)) (hy : ev L y = some (.int k q)) : Y P n L w (.binOp .leq xt x y yt) t (.bool (decide (p ≤ q))) :=
  Y_bin (by decide) hx hy (fun _ => rfl)
theorem Y_gtr (hx : ev L x = some (.int k p)) (hy : ev L y = some (.int k q)) : Y P n L w (.binOp .gtr xt x y yt) t (.bool (decide (q < p))) :=
  Y_bin (by decide) hx hy (fun _ => rfl)
theorem Y_geq (hx : ev L x = some (.int k p)) (hy : ev L y = some (.int k q)) : Y P n L w (.binOp .geq xt x y yt) t (.bool (decide (q ≤ p))) :=
  Y_bin (by decide) hx hy (fun _ => rfl)
theorem Y_shr {yk : IntKind} (hx : ev L x = some (.int k p)) (hy : ev L y = some (.int yk q)) (hq : 0 ≤ q) : Y P n L w (.binOp .shr xt x y yt) t (.int k (p.fdiv (2 ^ (min q.toNat k.bits)))) :=
  fun a ha _ _ _ _ => by
    simp only [execOp, ha.ev hx, ha.ev hy, bind_pure_comp, Sem.run_map, eqGuard, binOp, Sem.run_bind, Op.shift]
    simp [show ¬ q < 0 from by omega]
theorem Y_not {b : Bool} (hx : ev L x = some (.bool b)) : Y P n L w (.unOp .not xt x) t (.bool (!b)) :=
  fun a ha _ _ _ _ => by simp only [execOp, ha.ev hx, Op.unary]; rfl
theorem Y_notd {p : Prop} [Decidable p] (hx : ev L x = some (.bool (decide p))) : Y P n L w (.unOp .not xt x) t (.bool (decide (¬ p))) :=
  by rw [show decide (¬ p) = (!decide p) from by by_cases h : p <;> simp [h]]; exact Y_not hx
theorem Y_conv {src dst : TypeId} {k' : IntKind} {td : TypeDesc} (hs : P.underlying src = some td) (ht : P.underlying dst = some (.int k')) (hx : ev L x = some (.int k p)) : Y P n L w (.convert src dst x) t (.int k' (k'.wrap p)) :=
  fun a ha _ _ _ _ => by simp [execOp, ha.ev hx, convert, run_underlying hs, run_underlying ht, Conv.intToInt]
end

section
variable {xt yt : TypeId} {x y : Operand}
theorem Y_op2 {op : BinOp} {u v r : Value} (hx : ev L x = some u) (hy : ev L y = some v) (hg : (eqGuard op xt x y u v).run P w = .ok () w) (hr : (binOp op xt u v).run P w = .ok r w) : Y P n L w (.binOp op xt x y yt) t (r) :=
  fun c hc _ _ _ _ => by
    simp only [execOp, hc.ev hx, hc.ev hy, bind_pure_comp, Sem.run_map, Sem.run_bind, hg, hr, Result.andThen]
theorem toList_loop (bs : ByteArray) : ∀ (k i : Nat) (r : List UInt8), bs.size - i = k → ByteArray.toList.loop bs i r = r.reverse ++ bs.data.toList.drop i
  | 0, i, r, h => by
    rw [ByteArray.toList.loop, if_neg (by omega), List.drop_of_length_le (by simp; have : bs.size = bs.data.size := rfl; omega), List.append_nil]
  | k + 1, i, r, h => by
    have hlt : i < bs.size := by omega
    have hlt' : i < bs.data.toList.length := by simpa using hlt
    rw [ByteArray.toList.loop, if_pos hlt, toList_loop bs k (i + 1) _ (by omega), List.reverse_cons, List.append_assoc, List.drop_eq_getElem_cons hlt']
    have hg : bs.get! i = bs.data.toList[i] := by
      have : i < bs.data.size := hlt
      simp [ByteArray.get!, getElem!_pos bs.data i this]
    rw [hg]; rfl
theorem bytes_toList (bs : ByteArray) : bs.toList = bs.data.toList := by
  have := toList_loop bs (bs.size) 0 [] (by omega)
  simpa [ByteArray.toList] using this
theorem bytes_eq (a b : ByteArray) : (a.toList == b.toList) = decide (a = b) := by
  rw [bytes_toList, bytes_toList]
  by_cases e : a = b
  · subst e; simp
  · have : ¬ a.data = b.data := fun h => e (by cases a; cases b; simp at h; simp [h])
    simp [e, this]
theorem Y_eqls {a b : ByteArray} (hx : ev L x = some (.string a)) (hy : ev L y = some (.string b)) : Y P n L w (.binOp .eql xt x y yt) t (.bool (decide (a = b))) :=
  Y_op2 hx hy rfl (by
    simp only [binOp, Op.stringOp, Sem.run_pure, bytes_eq])
theorem run_equal_ptr_nil {e : TypeId} (ht : P.underlying xt = some (.pointer e)) (a : Option Addr) : (Op.equal xt (.pointer a) (.pointer none)).run P w = .ok a.isNone w := by
  show (Op.equalIn (9999 + 1) xt (.pointer a) (.pointer none)).run P w = _
  unfold Op.equalIn
  cases a <;> simp only [Sem.run_bind, run_underlying ht, Result.andThen, Sem.run_pure] <;> rfl
theorem Y_eqlp {e : TypeId} {a : Option Addr} (ht : P.underlying xt = some (.pointer e)) (hx : ev L x = some (.pointer a)) (hy : ev L y = some (.pointer none)) : Y P n L w (.binOp .eql xt x y yt) t (.bool a.isNone) :=
  Y_op2 hx hy rfl (by cases a <;> simp only [binOp, Sem.run_bind, run_equal_ptr_nil ht, Result.andThen, Sem.run_pure])
theorem Y_neqp {e : TypeId} {a : Option Addr} (ht : P.underlying xt = some (.pointer e)) (hx : ev L x = some (.pointer a)) (hy : ev L y = some (.pointer none)) : Y P n L w (.binOp .neq xt x y yt) t (.bool a.isSome) :=
  Y_op2 hx hy rfl (by cases a <;> simp only [binOp, Sem.run_bind, run_equal_ptr_nil ht, Result.andThen, Sem.run_pure] <;> rfl)
theorem run_equal_slice_nil {e : TypeId} (ht : P.underlying xt = some (.slice e)) (a : Option Addr) (m c : Nat) : (Op.equal xt (.slice a m c) (.slice none 0 0)).run P w = .ok a.isNone w := by
  show (Op.equalIn (9999 + 1) xt (.slice a m c) (.slice none 0 0)).run P w = _
  unfold Op.equalIn
  cases a <;> simp only [Sem.run_bind, run_underlying ht, Result.andThen, Sem.run_pure] <;> rfl
theorem Y_eqlsl {e : TypeId} {a : Option Addr} {m c : Nat} (ht : P.underlying xt = some (.slice e)) (hx : ev L x = some (.slice a m c)) (hy : ev L y = some (.slice none 0 0)) : Y P n L w (.binOp .eql xt x y yt) t (.bool a.isNone) :=
  Y_op2 hx hy rfl (by cases a <;> simp only [binOp, Sem.run_bind, run_equal_slice_nil ht, Result.andThen, Sem.run_pure])
theorem Y_extract {tu : Operand} {i : Nat} {vs : Array Value} {v : Value} (hx : ev L tu = some (.tuple vs)) (hi : vs[i]? = some v) : Y P n L w (.extract tu i) t (v) :=
  fun a ha _ _ _ _ => by simp [execOp, ha.ev hx, Instr.extract, hi]
theorem Y_nilp {a : Addr} (hx : ev L x = some (.pointer (some a))) : Y P n L w (.nilCheck x) t (.pointer (some a)) :=
  fun c hc _ _ _ _ => by simp [execOp, hc.ev hx]
def fieldOff (P : Program) (s i : Nat) : Option Nat :=
  match P.underlying s with
  | some (.struct fs) => (fs[i]?).bind fun f => (P.info? f.type).bind fun inf => if inf.size = 0 then none else some f.offset
  | _ => none
theorem Y_field {s i off b o : Nat} (hf : fieldOff P s i = some off) (hx : ev L x = some (.pointer (some ⟨b, o, none⟩))) : Y P n L w (.fieldAddr s x i) t (.pointer (some ⟨b, o + off, none⟩)) :=
  fun c hc _ _ _ _ => by
    unfold fieldOff at hf
    split at hf
    · rename_i fs hfs
      cases h1 : fs[i]? with
      | none => rw [h1] at hf; cases hf
      | some f =>
        rw [h1] at hf
        simp only [Option.bind_some] at hf
        cases h2 : P.info? f.type with
        | none => rw [h2] at hf; cases hf
        | some inf =>
          rw [h2] at hf
          simp only [Option.bind_some] at hf
          split at hf
          · cases hf
          · rename_i hne
            simp only [Option.some.injEq] at hf
            subst hf
            simp [execOp, hc.ev hx, Instr.fieldAt, run_underlying hfs, h1, Instr.sureAddr, fieldPlace, sizeOf, typeInfo, h2, hne, Addr.add_lit]
    · cases hf

def isAggOf (P : Program) (t : Nat) : Option Bool := (P.underlying t).map fun | .struct _ | .array _ _ => true | _ => false
theorem run_isAgg {t : Nat} {b : Bool} (h : isAggOf P t = some b) : (isAgg t).run P w = .ok b w := by
  unfold isAggOf at h
  obtain ⟨td, htd, hb⟩ := Option.map_eq_some_iff.1 h
  subst hb
  simp only [isAgg, Sem.run_bind, run_underlying htd, Result.andThen]
  cases td <;> rfl
def sizeOf' (P : Program) (t : Nat) : Option Nat := (P.info? t).map (·.size)
theorem run_sizeOf {t k : Nat} (h : sizeOf' P t = some k) : (sizeOf t).run P w = .ok k w := by
  obtain ⟨i, hi, rfl⟩ := Option.map_eq_some_iff.1 h
  simp [sizeOf, typeInfo, hi]
theorem Y_load {ty : Nat} {a : Addr} {v : Value} (ha : isAggOf P ty = some false) (hx : ev L x = some (.pointer (some a))) (hv : w.cell? a = some v) : Y P n L w (.load ty x) t (v) :=
  fun c hc _ _ _ _ => by simp [execOp, hc.ev hx, Instr.loadAt, Instr.sureAddr, loadVar, run_isAgg ha, load, Sem.run, hv]
theorem run_loadCellsFrom {a : Addr} : ∀ (cs : List Value) (i : Nat) (acc : Array Value), (∀ j u, cs[j]? = some u → w.cell? (a.add (i + j)) = some u) → (loadCellsFrom a i cs.length acc).run P w = .ok (acc ++ cs.toArray) w
  | [], i, acc, _ => by simp [loadCellsFrom]
  | u :: t, i, acc, h => by
    have h0 := h 0 u rfl
    have := run_loadCellsFrom t (i + 1) (acc.push u) (fun j v hv => by rw [show i + 1 + j = i + (j + 1) from by omega]; exact h (j + 1) v hv)
    simp only [List.length_cons, loadCellsFrom, load, Sem.run_bind, Sem.run, show a.add i = a.add (i + 0) from rfl, h0, Result.andThen, this]
    simp
theorem Y_loadN {ty b o k : Nat} {cs : List Value} (ha : isAggOf P ty = some true) (hsz : sizeOf' P ty = some k) (hl : cs.length = k) (hx : ev L x = some (.pointer (some ⟨b, o, none⟩))) (hv : ∀ j u, cs[j]? = some u → w.cell? ⟨b, o + j, none⟩ = some u) : Y P n L w (.load ty x) t (.agg cs.toArray) :=
  fun c hc _ _ _ _ => by
    subst hl
    have := run_loadCellsFrom (P := P) (w := w) (a := ⟨b, o, none⟩) cs 0 #[] (fun j u hu => by rw [Nat.zero_add, Addr.add_lit]; exact hv j u hu)
    simp [execOp, hc.ev hx, Instr.loadAt, Instr.sureAddr, loadVar, run_isAgg ha, run_sizeOf hsz, loadCells, this]
end
end
end Go.Proofs.YtekafkokpnihfaaGreat
