/- What is read of arguments. Written by reads.py. -/
import Derived.Test.YtekafkokpnihfaaGreatEngR
import Derived.Test.YtekafkokpnihfaaGreatFacts
import Derived.Test.YtekafkokpnihfaaGreatData
namespace Go.Proofs.YtekafkokpnihfaaGreat
open Go.RowKit
theorem shape_2 {α : Type} (l : List α) (h : l.length = 2) : ∃ a0 a1, l = [a0, a1] := by
  match l, h with
  | [a0, a1], _ => exact ⟨a0, a1, rfl⟩
theorem shape_3 {α : Type} (l : List α) (h : l.length = 3) : ∃ a0 a1 a2, l = [a0, a1, a2] := by
  match l, h with
  | [a0, a1, a2], _ => exact ⟨a0, a1, a2, rfl⟩
theorem shape_11 {α : Type} (l : List α) (h : l.length = 11) : ∃ a0 a1 a2 a3 a4 a5 a6 a7 a8 a9 a10, l = [a0, a1, a2, a3, a4, a5, a6, a7, a8, a9, a10] := by
  match l, h with
  | [a0, a1, a2, a3, a4, a5, a6, a7, a8, a9, a10], _ => exact ⟨a0, a1, a2, a3, a4, a5, a6, a7, a8, a9, a10, rfl⟩
def sz_108 (x : Val) : Nat := 1 + (fun _ => 1) x.lo + (fun _ => 1) x.hi + (fun _ => 1) x.n
def wf_108 (x : Val) : Prop := (InK .i32) x.lo ∧ (InK .i32) x.hi ∧ (InK .i64) x.n
theorem reads_108 {H : Type} {enc : TypeId × Value → H} {W : World} : Reads enc Tryz.prog W 108 rVal sz_108 wf_108 := by
  intro fuel cs d ps h
  obtain ⟨xs, n, _, hx, hl, hn, hf⟩ := DataW.trod_struct Tryz.underlying108 h
  have hl : cs.length = 3 := hl.trans (by kernel_rfl)
  have hn : xs.length = 3 := hn
  obtain ⟨y0, y1, y2, rfl⟩ := shape_3 xs hn
  obtain ⟨c0, c1, c2, rfl⟩ := shape_3 cs hl
  simp only [Prod.mk.injEq] at hx
  obtain ⟨rfl, _⟩ := hx
  have g0 : DataW.trod enc Tryz.prog W 0 (fun _ => true) true n 21 ((([c0, c1, c2] : List Value).drop 0).take (Tryz.prog.cellsOf 21)) = some y0 := hf 0 _ rfl
  rw [show Tryz.prog.cellsOf 21 = 1 by kernel_rfl] at g0
  obtain ⟨x0, r0, s0, w0⟩ := (Reads.int Tryz.underlying21) n [c0] _ _ g0
  have g1 : DataW.trod enc Tryz.prog W 0 (fun _ => true) true n 21 ((([c0, c1, c2] : List Value).drop 1).take (Tryz.prog.cellsOf 21)) = some y1 := hf 1 _ rfl
  rw [show Tryz.prog.cellsOf 21 = 1 by kernel_rfl] at g1
  obtain ⟨x1, r1, s1, w1⟩ := (Reads.int Tryz.underlying21) n [c1] _ _ g1
  have g2 : DataW.trod enc Tryz.prog W 0 (fun _ => true) true n 3 ((([c0, c1, c2] : List Value).drop 2).take (Tryz.prog.cellsOf 3)) = some y2 := hf 2 _ rfl
  rw [show Tryz.prog.cellsOf 3 = 1 by kernel_rfl] at g2
  obtain ⟨x2, r2, s2, w2⟩ := (Reads.int Tryz.underlying3) n [c2] _ _ g2
  obtain rfl : c0 = .int .i32 x0 := by simpa using (show [c0] = [.int .i32 x0] from r0)
  obtain rfl : c1 = .int .i32 x1 := by simpa using (show [c1] = [.int .i32 x1] from r1)
  obtain rfl : c2 = .int .i64 x2 := by simpa using (show [c2] = [.int .i64 x2] from r2)
  refine ⟨⟨x0, x1, x2⟩, rfl, ?_, ⟨w0, w1, w2⟩⟩
  try dsimp only at s0
  try dsimp only at s1
  try dsimp only at s2
  simp only [sz_108, List.map_cons, List.map_nil, Rows.uptoBulk, Rows.uptoBulkAll]; omega
def sz_94 (x : Chs) : Nat := 1 + (fun _ => 1) x.lo + (fun _ => 1) x.hi + (szL (fun _ => 1)) x.is_
def wf_94 (x : Chs) : Prop := (InK .i32) x.lo ∧ (InK .i32) x.hi ∧ (fun xs : List Int => ∀ x ∈ xs, (InK .i32) x) x.is_
theorem reads_94 {H : Type} {enc : TypeId × Value → H} {W : World} : Reads enc Tryz.prog W 94 rChs sz_94 wf_94 := by
  intro fuel cs d ps h
  obtain ⟨xs, n, _, hx, hl, hn, hf⟩ := DataW.trod_struct Tryz.underlying94 h
  have hl : cs.length = 3 := hl.trans (by kernel_rfl)
  have hn : xs.length = 3 := hn
  obtain ⟨y0, y1, y2, rfl⟩ := shape_3 xs hn
  obtain ⟨c0, c1, c2, rfl⟩ := shape_3 cs hl
  simp only [Prod.mk.injEq] at hx
  obtain ⟨rfl, _⟩ := hx
  have g0 : DataW.trod enc Tryz.prog W 0 (fun _ => true) true n 21 ((([c0, c1, c2] : List Value).drop 0).take (Tryz.prog.cellsOf 21)) = some y0 := hf 0 _ rfl
  rw [show Tryz.prog.cellsOf 21 = 1 by kernel_rfl] at g0
  obtain ⟨x0, r0, s0, w0⟩ := (Reads.int Tryz.underlying21) n [c0] _ _ g0
  have g1 : DataW.trod enc Tryz.prog W 0 (fun _ => true) true n 21 ((([c0, c1, c2] : List Value).drop 1).take (Tryz.prog.cellsOf 21)) = some y1 := hf 1 _ rfl
  rw [show Tryz.prog.cellsOf 21 = 1 by kernel_rfl] at g1
  obtain ⟨x1, r1, s1, w1⟩ := (Reads.int Tryz.underlying21) n [c1] _ _ g1
  have g2 : DataW.trod enc Tryz.prog W 0 (fun _ => true) true n 28 ((([c0, c1, c2] : List Value).drop 2).take (Tryz.prog.cellsOf 28)) = some y2 := hf 2 _ rfl
  rw [show Tryz.prog.cellsOf 28 = 1 by kernel_rfl] at g2
  obtain ⟨x2, r2, s2, w2⟩ := (Reads.slice el28 rfl (Reads.int Tryz.underlying21)) n [c2] _ _ g2
  obtain rfl : c0 = .int .i32 x0 := by simpa using (show [c0] = [.int .i32 x0] from r0)
  obtain rfl : c1 = .int .i32 x1 := by simpa using (show [c1] = [.int .i32 x1] from r1)
  obtain ⟨v2, e2, f2⟩ := r2
  obtain rfl : c2 = v2 := by simpa using e2
  refine ⟨⟨x0, x1, x2⟩, ⟨_, rfl, f2⟩, ?_, ⟨w0, w1, w2⟩⟩
  try dsimp only at s0
  try dsimp only at s1
  try dsimp only at s2
  simp only [sz_94, List.map_cons, List.map_nil, Rows.uptoBulk, Rows.uptoBulkAll]; omega
def sz_110 (x : Spn) : Nat := 1 + (fun _ => 1) x.lo + (fun _ => 1) x.hi
def wf_110 (x : Spn) : Prop := (InK .i32) x.lo ∧ (InK .i32) x.hi
theorem reads_110 {H : Type} {enc : TypeId × Value → H} {W : World} : Reads enc Tryz.prog W 110 rSpn sz_110 wf_110 := by
  intro fuel cs d ps h
  obtain ⟨xs, n, _, hx, hl, hn, hf⟩ := DataW.trod_struct Tryz.underlying110 h
  have hl : cs.length = 2 := hl.trans (by kernel_rfl)
  have hn : xs.length = 2 := hn
  obtain ⟨y0, y1, rfl⟩ := shape_2 xs hn
  obtain ⟨c0, c1, rfl⟩ := shape_2 cs hl
  simp only [Prod.mk.injEq] at hx
  obtain ⟨rfl, _⟩ := hx
  have g0 : DataW.trod enc Tryz.prog W 0 (fun _ => true) true n 21 ((([c0, c1] : List Value).drop 0).take (Tryz.prog.cellsOf 21)) = some y0 := hf 0 _ rfl
  rw [show Tryz.prog.cellsOf 21 = 1 by kernel_rfl] at g0
  obtain ⟨x0, r0, s0, w0⟩ := (Reads.int Tryz.underlying21) n [c0] _ _ g0
  have g1 : DataW.trod enc Tryz.prog W 0 (fun _ => true) true n 21 ((([c0, c1] : List Value).drop 1).take (Tryz.prog.cellsOf 21)) = some y1 := hf 1 _ rfl
  rw [show Tryz.prog.cellsOf 21 = 1 by kernel_rfl] at g1
  obtain ⟨x1, r1, s1, w1⟩ := (Reads.int Tryz.underlying21) n [c1] _ _ g1
  obtain rfl : c0 = .int .i32 x0 := by simpa using (show [c0] = [.int .i32 x0] from r0)
  obtain rfl : c1 = .int .i32 x1 := by simpa using (show [c1] = [.int .i32 x1] from r1)
  refine ⟨⟨x0, x1⟩, rfl, ?_, ⟨w0, w1⟩⟩
  try dsimp only at s0
  try dsimp only at s1
  simp only [sz_110, List.map_cons, List.map_nil, Rows.uptoBulk, Rows.uptoBulkAll]; omega
def sz_27 (x : Bk) : Nat := 1 + (szL (fun s : ByteArray => s.size + 1)) x.names + (szL sz_108) x.status + (szL sz_94) x.maps + (szL sz_108) x.class_ + (szL sz_94) x.decomp + (szL sz_110) x.excl + (szL sz_108) x.bidi + (szL sz_108) x.join + (szL sz_110) x.marks + (szL sz_108) x.script + (szL sz_94) x.like
def wf_27 (x : Bk) : Prop := (fun xs : List ByteArray => ∀ x ∈ xs, (fun _ => True) x) x.names ∧ (fun xs : List Val => ∀ x ∈ xs, wf_108 x) x.status ∧ (fun xs : List Chs => ∀ x ∈ xs, wf_94 x) x.maps ∧ (fun xs : List Val => ∀ x ∈ xs, wf_108 x) x.class_ ∧ (fun xs : List Chs => ∀ x ∈ xs, wf_94 x) x.decomp ∧ (fun xs : List Spn => ∀ x ∈ xs, wf_110 x) x.excl ∧ (fun xs : List Val => ∀ x ∈ xs, wf_108 x) x.bidi ∧ (fun xs : List Val => ∀ x ∈ xs, wf_108 x) x.join ∧ (fun xs : List Spn => ∀ x ∈ xs, wf_110 x) x.marks ∧ (fun xs : List Val => ∀ x ∈ xs, wf_108 x) x.script ∧ (fun xs : List Chs => ∀ x ∈ xs, wf_94 x) x.like
theorem reads_27 {H : Type} {enc : TypeId × Value → H} {W : World} : Reads enc Tryz.prog W 27 rBk sz_27 wf_27 := by
  intro fuel cs d ps h
  obtain ⟨xs, n, _, hx, hl, hn, hf⟩ := DataW.trod_struct Tryz.underlying27 h
  have hl : cs.length = 11 := hl.trans (by kernel_rfl)
  have hn : xs.length = 11 := hn
  obtain ⟨y0, y1, y2, y3, y4, y5, y6, y7, y8, y9, y10, rfl⟩ := shape_11 xs hn
  obtain ⟨c0, c1, c2, c3, c4, c5, c6, c7, c8, c9, c10, rfl⟩ := shape_11 cs hl
  simp only [Prod.mk.injEq] at hx
  obtain ⟨rfl, _⟩ := hx
  have g0 : DataW.trod enc Tryz.prog W 0 (fun _ => true) true n 22 ((([c0, c1, c2, c3, c4, c5, c6, c7, c8, c9, c10] : List Value).drop 0).take (Tryz.prog.cellsOf 22)) = some y0 := hf 0 _ rfl
  rw [show Tryz.prog.cellsOf 22 = 1 by kernel_rfl] at g0
  obtain ⟨x0, r0, s0, w0⟩ := (Reads.slice el22 rfl (Reads.str Tryz.underlying9)) n [c0] _ _ g0
  have g1 : DataW.trod enc Tryz.prog W 0 (fun _ => true) true n 23 ((([c0, c1, c2, c3, c4, c5, c6, c7, c8, c9, c10] : List Value).drop 1).take (Tryz.prog.cellsOf 23)) = some y1 := hf 1 _ rfl
  rw [show Tryz.prog.cellsOf 23 = 1 by kernel_rfl] at g1
  obtain ⟨x1, r1, s1, w1⟩ := (Reads.slice el23 rfl reads_108) n [c1] _ _ g1
  have g2 : DataW.trod enc Tryz.prog W 0 (fun _ => true) true n 24 ((([c0, c1, c2, c3, c4, c5, c6, c7, c8, c9, c10] : List Value).drop 2).take (Tryz.prog.cellsOf 24)) = some y2 := hf 2 _ rfl
  rw [show Tryz.prog.cellsOf 24 = 1 by kernel_rfl] at g2
  obtain ⟨x2, r2, s2, w2⟩ := (Reads.slice el24 rfl reads_94) n [c2] _ _ g2
  have g3 : DataW.trod enc Tryz.prog W 0 (fun _ => true) true n 23 ((([c0, c1, c2, c3, c4, c5, c6, c7, c8, c9, c10] : List Value).drop 3).take (Tryz.prog.cellsOf 23)) = some y3 := hf 3 _ rfl
  rw [show Tryz.prog.cellsOf 23 = 1 by kernel_rfl] at g3
  obtain ⟨x3, r3, s3, w3⟩ := (Reads.slice el23 rfl reads_108) n [c3] _ _ g3
  have g4 : DataW.trod enc Tryz.prog W 0 (fun _ => true) true n 24 ((([c0, c1, c2, c3, c4, c5, c6, c7, c8, c9, c10] : List Value).drop 4).take (Tryz.prog.cellsOf 24)) = some y4 := hf 4 _ rfl
  rw [show Tryz.prog.cellsOf 24 = 1 by kernel_rfl] at g4
  obtain ⟨x4, r4, s4, w4⟩ := (Reads.slice el24 rfl reads_94) n [c4] _ _ g4
  have g5 : DataW.trod enc Tryz.prog W 0 (fun _ => true) true n 25 ((([c0, c1, c2, c3, c4, c5, c6, c7, c8, c9, c10] : List Value).drop 5).take (Tryz.prog.cellsOf 25)) = some y5 := hf 5 _ rfl
  rw [show Tryz.prog.cellsOf 25 = 1 by kernel_rfl] at g5
  obtain ⟨x5, r5, s5, w5⟩ := (Reads.slice el25 rfl reads_110) n [c5] _ _ g5
  have g6 : DataW.trod enc Tryz.prog W 0 (fun _ => true) true n 23 ((([c0, c1, c2, c3, c4, c5, c6, c7, c8, c9, c10] : List Value).drop 6).take (Tryz.prog.cellsOf 23)) = some y6 := hf 6 _ rfl
  rw [show Tryz.prog.cellsOf 23 = 1 by kernel_rfl] at g6
  obtain ⟨x6, r6, s6, w6⟩ := (Reads.slice el23 rfl reads_108) n [c6] _ _ g6
  have g7 : DataW.trod enc Tryz.prog W 0 (fun _ => true) true n 23 ((([c0, c1, c2, c3, c4, c5, c6, c7, c8, c9, c10] : List Value).drop 7).take (Tryz.prog.cellsOf 23)) = some y7 := hf 7 _ rfl
  rw [show Tryz.prog.cellsOf 23 = 1 by kernel_rfl] at g7
  obtain ⟨x7, r7, s7, w7⟩ := (Reads.slice el23 rfl reads_108) n [c7] _ _ g7
  have g8 : DataW.trod enc Tryz.prog W 0 (fun _ => true) true n 25 ((([c0, c1, c2, c3, c4, c5, c6, c7, c8, c9, c10] : List Value).drop 8).take (Tryz.prog.cellsOf 25)) = some y8 := hf 8 _ rfl
  rw [show Tryz.prog.cellsOf 25 = 1 by kernel_rfl] at g8
  obtain ⟨x8, r8, s8, w8⟩ := (Reads.slice el25 rfl reads_110) n [c8] _ _ g8
  have g9 : DataW.trod enc Tryz.prog W 0 (fun _ => true) true n 23 ((([c0, c1, c2, c3, c4, c5, c6, c7, c8, c9, c10] : List Value).drop 9).take (Tryz.prog.cellsOf 23)) = some y9 := hf 9 _ rfl
  rw [show Tryz.prog.cellsOf 23 = 1 by kernel_rfl] at g9
  obtain ⟨x9, r9, s9, w9⟩ := (Reads.slice el23 rfl reads_108) n [c9] _ _ g9
  have g10 : DataW.trod enc Tryz.prog W 0 (fun _ => true) true n 24 ((([c0, c1, c2, c3, c4, c5, c6, c7, c8, c9, c10] : List Value).drop 10).take (Tryz.prog.cellsOf 24)) = some y10 := hf 10 _ rfl
  rw [show Tryz.prog.cellsOf 24 = 1 by kernel_rfl] at g10
  obtain ⟨x10, r10, s10, w10⟩ := (Reads.slice el24 rfl reads_94) n [c10] _ _ g10
  obtain ⟨v0, e0, f0⟩ := r0
  obtain rfl : c0 = v0 := by simpa using e0
  obtain ⟨v1, e1, f1⟩ := r1
  obtain rfl : c1 = v1 := by simpa using e1
  obtain ⟨v2, e2, f2⟩ := r2
  obtain rfl : c2 = v2 := by simpa using e2
  obtain ⟨v3, e3, f3⟩ := r3
  obtain rfl : c3 = v3 := by simpa using e3
  obtain ⟨v4, e4, f4⟩ := r4
  obtain rfl : c4 = v4 := by simpa using e4
  obtain ⟨v5, e5, f5⟩ := r5
  obtain rfl : c5 = v5 := by simpa using e5
  obtain ⟨v6, e6, f6⟩ := r6
  obtain rfl : c6 = v6 := by simpa using e6
  obtain ⟨v7, e7, f7⟩ := r7
  obtain rfl : c7 = v7 := by simpa using e7
  obtain ⟨v8, e8, f8⟩ := r8
  obtain rfl : c8 = v8 := by simpa using e8
  obtain ⟨v9, e9, f9⟩ := r9
  obtain rfl : c9 = v9 := by simpa using e9
  obtain ⟨v10, e10, f10⟩ := r10
  obtain rfl : c10 = v10 := by simpa using e10
  refine ⟨⟨x0, x1, x2, x3, x4, x5, x6, x7, x8, x9, x10⟩, ⟨_, _, _, _, _, _, _, _, _, _, _, rfl, f0, f1, f2, f3, f4, f5, f6, f7, f8, f9, f10⟩, ?_, ⟨w0, w1, w2, w3, w4, w5, w6, w7, w8, w9, w10⟩⟩
  try dsimp only at s0
  try dsimp only at s1
  try dsimp only at s2
  try dsimp only at s3
  try dsimp only at s4
  try dsimp only at s5
  try dsimp only at s6
  try dsimp only at s7
  try dsimp only at s8
  try dsimp only at s9
  try dsimp only at s10
  simp only [sz_27, List.map_cons, List.map_nil, Rows.uptoBulk, Rows.uptoBulkAll]; omega
end Go.Proofs.YtekafkokpnihfaaGreat
