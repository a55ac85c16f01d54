/- Plain laws, seventh part: what is a sound book; the book's own check and the reference's. Own work of this repo. -/
import Derived.Test.YtekafkokpnihfaaGreatPureF
namespace Go.Proofs.YtekafkokpnihfaaGreat
open Go.RowKit

structure Few (b : Bk) : Prop where
  names : b.names.length ≤ bigN
  status : b.status.length ≤ bigN
  maps : b.maps.length ≤ bigN
  class_ : b.class_.length ≤ bigN
  decomp : b.decomp.length ≤ bigN
  excl : b.excl.length ≤ bigN
  bidi : b.bidi.length ≤ bigN
  join : b.join.length ≤ bigN
  marks : b.marks.length ≤ bigN
  script : b.script.length ≤ bigN
  like : b.like.length ≤ bigN
  mapsI : ∀ x ∈ b.maps, x.is_.length ≤ bigN
  decompI : ∀ x ∈ b.decomp, x.is_.length ≤ bigN
  likeI : ∀ x ∈ b.like, x.is_.length ≤ bigN
def numB (a b : Int) (l : List Val) : Bool := rowsB (·.lo) (·.hi) (fun x : Val => decide (a ≤ x.n) && decide (x.n ≤ b)) l
def claB (a b : Int) (l : List Val) : Bool := rowsB (·.lo) (·.hi) (fun x : Val => decide (a ≤ x.n) && decide (x.n ≤ b) && !touchB x.lo x.hi) l
def stMay (x : Val) : Bool := decide (1 ≤ x.n) && decide (x.n ≤ 3)
def okB (b : Bk) : Bool :=
  namesB b.names && (numB 1 3 b.status && (rowsB (·.lo) (·.hi) (mapB b.status) b.maps && (claB 1 254 b.class_ && (rowsB (·.lo) (·.hi) decompB b.decomp &&
  (rowsB (·.lo) (·.hi) (fun x : Spn => !touchB x.lo x.hi) b.excl && (numB 0 22 b.bidi && (numB 0 5 b.join && (rowsB (·.lo) (·.hi) (fun _ : Spn => true) b.marks &&
  (numB 1 (b.names.length : Int) b.script && (rowsB (·.lo) (·.hi) (fun x : Chs => charsB x.is_ 1 18) b.like && goodB b.decomp [] b.decomp))))))))))
theorem Says.cases' {r : Int} {w : Bool} (h : Says r w) : (w = false ∧ 0 ≤ r) ∨ (w = true ∧ ¬ 0 ≤ r) := by
  rcases h with ⟨rfl, rfl⟩ | ⟨rfl, h⟩
  · exact .inr ⟨rfl, by decide⟩
  · exact .inl ⟨rfl, h⟩
theorem one_check {w w' : Bool} {p : Wh} {r : Int} {o o' : Option (Wh × Int)} (hs : Says r w) (h : w = true → ∃ p, o' = some (p, if w' then 0 else 100)) (e : o = if 0 ≤ r then some (p, 100) else o') :
    ∃ p, o = some (p, if w && w' then 0 else 100) := by
  rcases hs.cases' with ⟨rfl, hr⟩ | ⟨rfl, hr⟩
  · exact ⟨p, by rw [e, if_pos hr]; rfl⟩
  · obtain ⟨q, hq⟩ := h rfl
    exact ⟨q, by rw [e, if_neg hr, hq]; rfl⟩
theorem book_check_eq (b : Bk) : ∃ p, book_Check.f b = some (p, if okB b then 0 else 100) := by
  unfold book_Check.f okB
  obtain ⟨r1, e1, s1⟩ := names_eq b.names
  rw [book_Check_4_mae.f, e1]
  refine one_check s1 (fun h1 => ?_) rfl
  obtain ⟨r2, e2, s2⟩ := rise_val 1 3 b.status
  rw [book_Check_5_ion.f, show book_values_bpe.f b.status 1 3 = some r2 from by first | exact e2 | (simp only [book_values_bpe.f, book_values_pcd.f, e2]; rfl)]
  refine one_check s2 (fun h2 => ?_) rfl
  have hst : b.status.length ≤ bigN ∧ okRows (·.lo) (·.hi) stMay (-1) b.status = true := by
    simp only [numB, rowsB, Bool.and_eq_true, decide_eq_true_eq] at h2
    exact ⟨by unfold bigN; omega, h2.2⟩
  obtain ⟨r3, e3, s3⟩ := rise_maps b ⟨_, hst.2⟩ hst.1
  rw [book_Check_6_mae.f, show book_apart.f (⟨b.names, b.status, b.maps, b.class_, b.decomp, b.excl, b.bidi, b.join, b.marks, b.script, b.like⟩ : Bk) = some r3 from by first | exact e3 | (simp only [book_values_bpe.f, book_values_pcd.f, e3]; rfl)]
  refine one_check s3 (fun _ => ?_) rfl
  obtain ⟨r4, e4, s4⟩ := rise_plain 1 254 b.class_
  rw [book_Check_7_hpj.f, show book_values_pcd.f b.class_ 1 254 = some r4 from by first | exact e4 | (simp only [book_values_bpe.f, book_values_pcd.f, e4]; rfl)]
  refine one_check s4 (fun _ => ?_) rfl
  obtain ⟨r5, e5, s5⟩ := rise_decomp b.decomp
  rw [book_Check_8_hpj.f, e5]
  refine one_check s5 (fun h5 => ?_) rfl
  obtain ⟨r6, e6, s6⟩ := rise_excl b.excl
  rw [book_Check_9_hpj.f, e6]
  refine one_check s6 (fun _ => ?_) rfl
  obtain ⟨r7, e7, s7⟩ := rise_val 0 22 b.bidi
  rw [book_Check_10_ion.f, show book_directions.f = some _ from rfl, Option.bind_some, show (IntKind.i64.wrap _ : Int) = 22 from by rw [w64 (by simp) (by simp)]; rfl, show book_values_bpe.f b.bidi 0 22 = some r7 from by first | exact e7 | (simp only [book_values_bpe.f, book_values_pcd.f, e7]; rfl)]
  refine one_check s7 (fun _ => ?_) rfl
  obtain ⟨r8, e8, s8⟩ := rise_val 0 5 b.join
  rw [book_Check_11_ion.f, show book_joinings.f = some _ from rfl, Option.bind_some, show (IntKind.i64.wrap _ : Int) = 5 from by rw [w64 (by simp) (by simp)]; rfl, show book_values_bpe.f b.join 0 5 = some r8 from by first | exact e8 | (simp only [book_values_bpe.f, book_values_pcd.f, e8]; rfl)]
  refine one_check s8 (fun _ => ?_) rfl
  obtain ⟨r9, e9, s9⟩ := rise_marks b.marks
  rw [book_Check_12_ion.f, e9]
  refine one_check s9 (fun _ => ?_) rfl
  obtain ⟨r10, e10, s10⟩ := rise_val 1 (b.names.length : Int) b.script
  rw [book_Check_13_ion.f, show book_values_bpe.f b.script 1 _ = some r10 from by first | exact e10 | (simp only [book_values_bpe.f, book_values_pcd.f, e10]; rfl)]
  refine one_check s10 (fun _ => ?_) rfl
  obtain ⟨r11, e11, s11⟩ := rise_like b.like
  rw [book_Check_14_gdi.f, e11]
  refine one_check s11 (fun _ => ?_) rfl
  obtain ⟨r12, e12, s12⟩ := book_whole_eq (Dok.mk' h5)
  rw [book_Check_15_mae.f, e12]
  obtain ⟨p, hp⟩ := one_check (w' := true) (o' := some ((⟨0, 0⟩ : Wh), 0)) s12 (fun _ => ⟨_, rfl⟩) rfl
  exact ⟨p, by rw [Bool.and_true] at hp; exact hp⟩
end Go.Proofs.YtekafkokpnihfaaGreat
