/- Windows as lists: what a stretch of an own row holds, handed down, is read and written as a list of its own; what stands ahead of it and behind it stays. Own work of this repo. -/
import Derived.Test.YtekafkokpnihfaaGreatEngM
namespace Go.Proofs.YtekafkokpnihfaaGreat
open Go.RowKit
section
variable {P : Program} {n : Nat} {N : Nxt} {L : Loc} {w w0 : World} {ops : Array Oper} {rest : List Oper} {t : Nat} {pos : String} {aft : Array Edge} {ρ ρ' : Hp} {Γ : List Item} {x y : Operand}
variable {k : IntKind} {rv d : Value} {cs : List Value} {pre post ys : List Int}

def WinR (k : IntKind) (ρ : Hp) (rv : Value) (cs : List Value) (d : Value) (pre post ys : List Int) : Prop := RowR (Rep.int k) ρ cs (pre ++ (ys ++ post)) ∧ Win rv pre.length ys.length d
theorem WinR.mono (hle : Le ρ ρ') (h : WinR k ρ rv cs d pre post ys) : WinR k ρ' rv cs d pre post ys := ⟨h.1.mono hle, h.2⟩
theorem WinR.one (h : WinR k ρ rv cs d pre post ys) : d.oneCell' = true := h.2.one
theorem Y_lenWin {sl e : Nat} (hu : P.underlying sl = some (.slice e)) (h : WinR k ρ rv cs d pre post ys) (hx : ev L x = some d) : Y P n L w (.call { callee := .builtin .len, args := #[x], argTypes := #[sl] }) t (.int .i64 (ys.length : Int)) := by
  obtain ⟨_, a, c, rfl, _⟩ := h
  exact Y_len hu hx
theorem WinR.ix {sl e bytes : Nat} {i : Int} (h : WinR k ρ rv cs d pre post ys) (he : ElemOf P sl e (Rep.int k).sz bytes) (h0 : 0 ≤ i) (h1 : i < (ys.length : Int)) :
    ∃ g, rv.ownBlock = some g ∧ ∀ {n : Nat} {L : Loc} {w : World} {x y : Operand} {k' : IntKind} {t : TypeId}, ev L x = some d → ev L y = some (.int k' i) → Y P n L w (.indexAddr sl x y) t (.pointer (some ⟨g, pre.length + i.toNat, none⟩)) := by
  have hw := h.2
  obtain ⟨a, c, hd, hc, hp⟩ := h.2
  obtain ⟨g, e1, _⟩ := hp (by omega)
  exact ⟨g, e1, fun hx hy => Y_ixWin he hw e1 hx hy h0 h1⟩
theorem rd_win {i : Int} (h0 : 0 ≤ i) (h1 : i < (ys.length : Int)) : rd (pre ++ (ys ++ post)) ((pre.length + i.toNat : Nat) : Int) = rd ys i := by
  have hl : i.toNat < ys.length := by omega
  unfold rd
  rw [Int.toNat_natCast, List.getD_eq_getElem?_getD, List.getD_eq_getElem?_getD, List.getElem?_append_right (by omega), show pre.length + i.toNat - pre.length = i.toNat from by omega, List.getElem?_append_left hl]
theorem set_win {i : Nat} {z : Int} (h1 : i < ys.length) : (pre ++ (ys ++ post)).set (pre.length + i) z = pre ++ (ys.set i z ++ post) := by
  rw [List.set_append_right _ _ (by omega), show pre.length + i - pre.length = i from by omega, List.set_append_left _ _ h1]
theorem Y_ldWin {ty j e m g : Nat} {i : Int} (ha : isAggOf P ty = some false) (hs : St w0 ρ Γ w) (hi : Γ[j]? = some (.row rv e (Rep.int k).sz m cs)) (hg : rv.ownBlock = some g) (h : WinR k ρ rv cs d pre post ys) (h0 : 0 ≤ i) (h1 : i < (ys.length : Int))
    (hx : ev L x = some (.pointer (some ⟨g, pre.length + i.toNat, none⟩))) : Y P n L w (.load ty x) t (.int k (rd ys i)) := by
  have := Y_ldRow (n := n) (t := t) ha hs hi hg h.1 (q := pre.length + i.toNat) (by simp only [List.length_append]; omega) hx
  rwa [rd_win h0 h1] at this
theorem WinR.set {i : Int} {z : Int} (h : WinR k ρ rv cs d pre post ys) (h0 : 0 ≤ i) (h1 : i < (ys.length : Int)) : WinR k ρ rv (cs.set (pre.length + i.toNat) (.int k z)) d pre post (ys.set i.toNat z) := by
  refine ⟨?_, by rw [List.length_set]; exact h.2⟩
  have := h.1.setInt (pre.length + i.toNat) z
  rwa [set_win (by omega)] at this
theorem O_stWin {ty j e m g : Nat} {i z : Int} (hsz : sizeOf' P ty = some 1) (hs : St w0 ρ Γ w) (hi : Γ[j]? = some (.row rv e (Rep.int k).sz m cs)) (hg : rv.ownBlock = some g) (h : WinR k ρ rv cs d pre post ys) (h0 : 0 ≤ i) (h1 : i < (ys.length : Int))
    (hx : ev L x = some (.pointer (some ⟨g, pre.length + i.toNat, none⟩))) (hy : ev L y = some (.int k z))
    (hK : ∀ cs' w', WinR k ρ rv cs' d pre post (ys.set i.toNat z) → St w0 ρ (Γ.set j (.row rv e (Rep.int k).sz m cs')) w' → O P n ops rest N L w') : O P n ops (⟨none, .store ty x y, t, pos, aft, none⟩ :: rest) N L w := by
  have hr := h.1
  exact O_storeRow hsz hs hi hg (by have e1 := hr.1; have hs1 : (Rep.int k).sz = 1 := rfl; rw [hs1] at e1; simp only [List.length_append] at e1; omega) hx hy rfl fun w' hw' => hK _ w' (h.set h0 h1) hw'
theorem WinR.of {xs : List Int} {l h : Int} (hr : RowR (Rep.int k) ρ cs xs) (hw : Win rv l.toNat (h.toNat - l.toNat) d) (h0 : 0 ≤ l) (h1 : l ≤ h) (h2 : h ≤ (xs.length : Int)) :
    WinR k ρ rv cs d (xs.take l.toNat) (xs.drop h.toNat) (sub xs l h) := by
  have e1 : (xs.take l.toNat).length = l.toNat := by rw [List.length_take]; omega
  have e2 : (sub xs l h).length = h.toNat - l.toNat := by simp [sub]; omega
  refine ⟨?_, by rw [e1, e2]; exact hw⟩
  have : xs.take l.toNat ++ (sub xs l h ++ xs.drop h.toNat) = xs := by
    have a1 : xs.take h.toNat = xs.take l.toNat ++ sub xs l h := by
      have := List.take_append_drop l.toNat (xs.take h.toNat)
      rw [List.take_take, Nat.min_eq_left (by omega)] at this
      exact this.symm
    rw [← List.append_assoc, ← a1, List.take_append_drop]
  rw [this]; exact hr
theorem Y_sliceWin' {sl e bytes j : Nat} {v : Value} {xs : List Int} {l h : Int} (he : ElemOf P sl e (Rep.int k).sz bytes) (hs : St w0 ρ Γ w) (hi' : Γ[j]? = some (.row v e (Rep.int k).sz xs.length cs)) (h0 : 0 ≤ l) (h1 : l ≤ h) (h2 : h ≤ (xs.length : Int)) :
    ∃ d, Win v l.toNat (h.toNat - l.toNat) d ∧ ∀ {n : Nat} {L : Loc} {w : World} {x : Operand} {t : TypeId} {lo hi : Option Operand}, ev L x = some v → ((lo = none ∧ l = 0) ∨ ∃ z k, lo = some z ∧ ev L z = some (.int k l)) → ((hi = none ∧ h = (xs.length : Int)) ∨ ∃ z k, hi = some z ∧ ev L z = some (.int k h)) → Y P n L w (.slice sl x lo hi none) t d := by
  have hok : w.ownsRow 0 e (Rep.int k).sz v xs.length cs := hs.ok _ (List.mem_of_getElem? hi')
  rcases hok.2 with ⟨rfl, hm⟩ | ⟨g, cap, cur, rfl, _, _, hcm, _⟩
  · refine ⟨_, ?_, fun hx hl hh => Y_slice (m := 0) (c := 0) he hx hl (hh.imp (fun ab => ⟨ab.1, by have := ab.2; omega⟩) id) h0 h1 (by omega) (Nat.le_refl _)⟩
    exact ⟨_, _, rfl, by omega, fun hp => by omega⟩
  · refine ⟨_, ?_, fun hx hl hh => Y_slice he hx hl hh h0 h1 h2 (by omega)⟩
    have hs1 : (Rep.int k).sz = 1 := rfl
    refine ⟨_, _, rfl, by omega, fun hp => ⟨g, rfl, ?_⟩⟩
    rw [if_neg (by omega), hs1]
    simp [Addr.add]
    try omega
theorem St.rowLen {e sz m m' j : Nat} {v : Value} (hs : St w0 ρ Γ w) (hi : Γ[j]? = some (.row v e sz m cs)) (hm : m = m') : St w0 ρ (Γ.set j (.row v e sz m' cs)) w := by
  subst hm
  have : Γ.set j (.row v e sz m cs) = Γ := by
    apply List.ext_getElem? 
    intro q
    rw [List.getElem?_set]
    split
    · rename_i h; subst h; split
      · exact hi.symm
      · rename_i h2; rw [List.getElem?_eq_none (by omega)]
    · rfl
  rw [this]; exact hs
theorem WinR.done {m e j : Nat} (hs : St w0 ρ Γ w) (h : WinR k ρ rv cs d pre post ys) (hi : Γ[j]? = some (.row rv e (Rep.int k).sz m cs)) :
    RowR (Rep.int k) ρ cs (pre ++ (ys ++ post)) ∧ m = (pre ++ (ys ++ post)).length := by
  have hok : w.ownsRow 0 e (Rep.int k).sz rv m cs := hs.ok _ (List.mem_of_getElem? hi)
  have e1 := hok.1
  have e2 := h.1.1
  have hs1 : (Rep.int k).sz = 1 := rfl
  rw [hs1, Nat.mul_one] at e1 e2
  exact ⟨h.1, by rw [← e1, e2]⟩
theorem encCells_inj {cs ds : Array Value} {T U : TypeId} {f g : Nat × Nat} (h : encCells cs T f = encCells ds U g) : cs = ds ∧ T = U ∧ f = g := by
  simp only [encCells, Value.agg.injEq, Array.mk.injEq, List.cons.injEq, Value.int.injEq, true_and, and_true] at h
  obtain ⟨h1, h2, h3, h4⟩ := h
  refine ⟨h1, ?_, ?_⟩
  · exact Int.ofNat.inj h2
  · exact Prod.ext (Int.ofNat.inj h3) (Int.ofNat.inj h4)
theorem St.lend {α : Type} {r : Rep α} {e j : Nat} {v : Value} {xs : List α} (hs : St w0 ρ Γ w) (hr : RowR r ρ cs xs) (hi : Γ[j]? = some (.row v e r.sz xs.length cs)) :
    ∃ ρl, Le ρ ρl ∧ St w0 ρl (Γ.eraseIdx j) w ∧ SlR r ρl v xs ∧ ∀ {ρ2 : Hp} {Γ2 : List Item} {w2 : World}, Le ρl ρ2 → St w0 ρ2 Γ2 w2 → ∃ ρ3, Le ρ ρ3 ∧ St w0 ρ3 (.row v e r.sz xs.length cs :: Γ2) w2 := by
  have hok : w.ownsRow 0 e r.sz v xs.length cs := hs.ok _ (List.mem_of_getElem? hi)
  cases hg : v.ownBlock with
  | none =>
    rcases hok.2 with ⟨rfl, h0⟩ | ⟨g, cap, cur, rfl, _⟩
    · refine ⟨ρ, Le.rfl' ρ, hs.sub (List.eraseIdx_sublist ..), .inl ⟨List.eq_nil_of_length_eq_zero h0, none, 0, rfl⟩, fun {ρ2 Γ2 w2} hle h2 => ⟨ρ2, hle, ?_⟩⟩
      refine ⟨h2.below, h2.sees, fun i hm => ?_, h2.nodup, h2.base, h2.clean⟩
      rcases List.mem_cons.1 hm with rfl | hm
      · exact Item.ok_keep (it := .row (.slice none 0 0) e r.sz xs.length cs) hok (fun b hb => by cases hb)
      · exact h2.ok i hm
    · cases hg
  | some g =>
    obtain ⟨h1, h2⟩ := hs.freeze hi hg
    refine ⟨ρ.with g w, h2, h1, ?_, fun {ρ2 Γ2 w2} hle hs2 => ?_⟩
    · rcases hok.2 with ⟨rfl, h0⟩ | ⟨g', cap, cur, rfl, _, _, hnc, _⟩
      · cases hg
      · simp only [Value.ownBlock, Option.some.injEq] at hg
        subst hg
        refine .inr ⟨g', 0, cap, rfl, by omega, fun i x hx => ?_⟩
        obtain ⟨c, h3, h4⟩ := hr.2 i x hx
        refine ⟨c, r.mono h2 h3, fun k u hu => ?_⟩
        have := hs.rowCell (g := g') hi rfl (h4 k u hu)
        unfold Hp.with
        simp only [if_true, Nat.zero_add]
        exact this
    · have hgm : g ∈ Γ.filterMap Item.blk := List.mem_filterMap.2 ⟨_, List.mem_of_getElem? hi, hg⟩
      -- the block is as it was
      have hobj : w2.heap[g]? = w.heap[g]? := by
        rcases hok.2 with ⟨rfl, h0⟩ | ⟨g', cap, cur, rfl, _, hcur, hnc, _⟩
        · cases hg
        · simp only [Value.ownBlock, Option.some.injEq] at hg
          subst hg
          have hb : (ρ.with g' w) ⟨g', 0, some 0⟩ = some (encCells cur e (0, 0)) := by
            unfold Hp.with
            simp only [if_true, seen, hcur]
          have := hs2.sees _ _ (hle _ _ hb)
          simp only [seen] at this
          split at this
          · simp [encMap, encCells] at this
          · rename_i es T fr hh
            obtain ⟨rfl, rfl, rfl⟩ := encCells_inj (Option.some.inj this)
            rw [hh, hcur]
          · cases this
      have hin : ∀ a u, (ρ.with g w) a = some u → a.block = g → ρ2 a = some u := fun a u ha _ => hle a u ha
      have hnot : g ∉ Γ2.filterMap Item.blk := by
        rcases hok.2 with ⟨rfl, h0⟩ | ⟨g', cap, cur, rfl, _, hcur, hnc, _⟩
        · cases hg
        · simp only [Value.ownBlock, Option.some.injEq] at hg
          subst hg
          have hb : (ρ.with g' w) ⟨g', 0, some 0⟩ = some (encCells cur e (0, 0)) := by
            unfold Hp.with
            simp only [if_true, seen, hcur]
          exact hs2.clean _ _ (hle _ _ hb)
      refine ⟨fun a => if a.block = g then none else ρ2 a, fun a u ha => ?_, ⟨hs2.below, fun a u ha => ?_, fun i hm => ?_, ?_, fun b hm => ?_, fun a u ha hm => ?_⟩⟩
      · show (if a.block = g then none else ρ2 a) = some u
        rw [if_neg (fun e => hs.clean a u ha (by rw [e]; exact hgm))]
        exact hle a u (h2 a u ha)
      · change (if a.block = g then none else ρ2 a) = some u at ha
        split at ha
        · cases ha
        · exact hs2.sees a u ha
      · rcases List.mem_cons.1 hm with rfl | hm
        · exact Item.ok_keep (it := .row v e r.sz xs.length cs) hok (fun b hb => by
            have : v.ownBlock = some b := hb
            rw [hg] at this
            obtain rfl := Option.some.inj this
            exact hobj)
        · exact hs2.ok i hm
      · rw [List.filterMap_cons, show (Item.row v e r.sz xs.length cs).blk = some g from hg]
        exact List.nodup_cons.2 ⟨hnot, hs2.nodup⟩
      · rw [List.filterMap_cons, show (Item.row v e r.sz xs.length cs).blk = some g from hg] at hm
        rcases List.mem_cons.1 hm with rfl | hm
        · exact hs.base _ hgm
        · exact hs2.base b hm
      · rw [List.filterMap_cons, show (Item.row v e r.sz xs.length cs).blk = some g from hg] at hm
        change (if a.block = g then none else ρ2 a) = some u at ha
        split at ha
        · cases ha
        · rename_i hne
          rcases List.mem_cons.1 hm with hm | hm
          · exact hne hm
          · exact hs2.clean a u ha hm
theorem St.rowCellsz {j e sz m : Nat} {v : Value} (hs : St w0 ρ Γ w) (hi : Γ[j]? = some (.row v e sz m cs)) : v.cells.size = 1 := by
  have := St.rowCellsL hs hi
  simpa using congrArg List.length this
end
end Go.Proofs.YtekafkokpnihfaaGreat
