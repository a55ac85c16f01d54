/- Texts of this repo, merged for the claim: PureK, PureX, PureCR, PureLI, PureLB, PureLC, PureLW, PureLD, PureLE, PureLF, PureLG, PureLK, PureLP, PureLS, EngR, Reads, Few, LaidRow, RowLabelStays, CardLabelStays. -/
import Derived.Test.YthoicbafdanmkaaGreatDoorWhole2
import Derived.Test.YthoicbafdanmkaaGreatDoorWhole4
import Derived.Test.YthoicbafdanmkaaGreatDoorWhole3
import Derived.Test.YthoicbafdanmkaaGreatDoorWhole6
import Derived.Test.YthoicbafdanmkaaGreatDoorWhole5
import Derived.Test.YthoicbafdanmkaaGreatDoorWhole1
import Derived.Test.YthoicbafdanmkaaGreatDoorWhole0
import Derived.Test.YthoicbafdanmkaaGreatDoorRows
import Derived.ChangeArms
import Derived.JoinedCond
import Derived.Lay
import Derived.LaidOnce
import Derived.LaidLaws
import Derived.WalkKit
import Derived.ProofKit
import Derived.OpenShut
import Derived.ShutString
import Derived.ChangeOld
import Derived.Below
import Derived.Lib.SmallJoins
import Derived.Test.YthoicbafdanmkaaGreatDoorCards
import Derived.Test.YthoicbafdanmkaaGreatDoorTie
import Derived.SevenTiedAt
/- Plain laws, eleventh part: compiling a book: its copy, its tables; the reference's own copy. Own work of this repo. -/
namespace Go.Proofs.YthoicbafdanmkaaGreatDoor
open Go.RowKit

theorem Zmq (l : List Val) : ∃ a e, Y5.f l = some (a, e) ∧ (e = 0 → Zad l) := by
 unfold Y5.f
 by_cases c : (65536 : Int) < l.length
 ·exact ⟨_, _, by rw [if_pos c], fun h => absurd h (by decide)⟩
 ·rw [if_neg c]
  have hl : l.length ≤ Z9 := by unfold Z9; omega
  have := Qb (fun k i last => Y5.l1 k l last i) l (fun pre t last o => ∃ a e, o = some (a, e) ∧ (e = 0 → Kz (·.lo) (·.hi) Zci last t = true))
   (fun s k => ⟨0, 0, by simp only [Y5.l1, if_neg (show ¬ (l.length : Int) < (l.length : Int) by omega)], fun _ => rfl⟩)
   (fun pre x t s k e ih => by
    obtain ⟨h1, h2⟩ := mid e
    simp only [Y5.l1, if_pos h2.2, if_pos h2, h1, Y5.j2, Y5.j1, nxt hl e]
    by_cases c1 : x.lo ≤ s
    ·exact ⟨_, 80, by rw [if_pos c1, if_pos True.intro], fun h => absurd h (by decide)⟩
    ·rw [if_neg c1]
     by_cases c2 : x.hi < x.lo
     ·exact ⟨_, 80, by rw [if_pos c2, if_pos True.intro], fun h => absurd h (by decide)⟩
     ·rw [if_neg c2]
      by_cases c3 : 1114111 < x.hi
      ·exact ⟨_, 80, by rw [if_pos (by simpa using c3)], fun h => absurd h (by decide)⟩
      ·rw [if_neg (by simpa using c3)]
       by_cases c4 : x.n < 0
       ·exact ⟨_, 81, by rw [if_pos c4, if_pos True.intro], fun h => absurd h (by decide)⟩
       ·rw [if_neg c4]
        by_cases c5 : 65535 < x.n
        ·exact ⟨_, 81, by rw [if_pos (by simpa using c5)], fun h => absurd h (by decide)⟩
        ·rw [if_neg (by simpa using c5)]
         obtain ⟨a, e2, h3, h4⟩ := ih x.hi
         refine ⟨a, e2, h3, fun h => ?_⟩
         rw [H1 c1 c2 c3 (by simp only [Zci, Bool.and_eq_true, decide_eq_true_eq]; omega)]
         exact h4 h) (-1) K0 (ltK hl)
  obtain ⟨a, e, h1, h2⟩ := this
  exact ⟨a, e, h1, fun h => ⟨by omega, h2 h⟩⟩
def Zaw (l : List Val) (T : Option Tab) : Prop := (¬ Zad l → T = none) ∧ (Zad l → ∃ t, T = some t ∧ Zek l t)
theorem Zgp (l : List Val) : ∃ T x y, Vy.f l = some (T, x, y) ∧ Zaw l T := by
 by_cases c : Zad l
 ·obtain ⟨T, h1, h2⟩ := Zr3 l c
  exact ⟨some T, 0, 0, h1, fun h => absurd c h, fun _ => ⟨T, rfl, h2⟩⟩
 ·obtain ⟨a, e, h1, h2⟩ := Zmq l
  have he : e ≠ 0 := fun h => c (h2 h)
  refine ⟨none, a, e, ?_, fun _ => rfl, fun h => absurd h c⟩
  rw [Vy.f, V9.f, h1, Option.bind_some, if_pos he]
  rfl
theorem Zdq {l : List Val} {T : Option Tab} (h : Zaw l T) (hl : Zad l) (p : Int) (h0 : 0 ≤ p) (h1 : p ≤ 1114111) : Z1.f T p = some (Hb l p) := by
 obtain ⟨t, rfl, ht⟩ := h.2 hl
 exact Zug hl ht p h0 h1
theorem Zdk (l : List Val) : ∃ T, Qh.f l = some T ∧ Zaw l T := by
 obtain ⟨T, x, y, h1, h2⟩ := Zgp l
 exact ⟨T, by rw [Qh.f, h1]; rfl, h2⟩
def Zgy (l : List Spn) : List Val := l.map fun x => ⟨x.lo, x.hi, 1⟩
theorem Zj9 (l : List Spn) (hl : l.length ≤ Z9) : ∃ T, Kv.f l = some T ∧ Zaw (Zgy l) T := by
 obtain ⟨T, x, y, h1, h2⟩ := Zgp (Zgy l)
 refine ⟨T, ?_, h2⟩
 refine Qb (fun k i s => Kv.l1 k l s i) l (fun pre t s o => s = Zgy pre → o = some T) ?_ ?_ [] K0 (ltK hl) rfl
 ·intro s k hs
  simp only [Kv.l1, if_neg (show ¬ (l.length : Int) < (l.length : Int) by omega), hs, h1]
  rfl
 ·intro pre x t s k e ih hs
  obtain ⟨h3, h4⟩ := mid e
  have hp : pre.length ≤ Z9 := by rw [e] at hl; simp at hl; omega
  simp only [Kv.l1, if_pos h4.2, if_pos h4, h3, nxt hl e]
  rw [if_pos (by rw [hs, Zgy, List.length_map]; exact Zkr hp (Nat.le_refl _))]
  exact ih _ (by rw [hs]; simp [Zgy])
def Zb9 : Int → List Chs → List Val
 | _, [] => []
 | i, x :: t => ⟨x.lo, x.hi, i + 1⟩ :: Zb9 (i + 1) t
theorem Zmy : ∀ (i : Int) (l : List Chs), (Zb9 i l).length = l.length
 | _, [] => rfl
 | i, x :: t => by simp [Zb9, Zmy (i + 1) t]
theorem Znd : ∀ (i : Int) (a b : List Chs), Zb9 i (a ++ b) = Zb9 i a ++ Zb9 (i + a.length) b
 | i, [], b => by simp [Zb9]
 | i, x :: a, b => by
  simp only [List.cons_append, Zb9, Znd (i + 1) a b, List.length_cons]
  rw [show i + 1 + (a.length : Int) = i + ((a.length + 1 : Nat) : Int) by omega]
theorem Zds (l : List Chs) (hl : l.length ≤ Z9) : ∃ T, Z7.f l = some T ∧ Zaw (Zb9 0 l) T := by
 obtain ⟨T, x, y, h1, h2⟩ := Zgp (Zb9 0 l)
 refine ⟨T, ?_, h2⟩
 refine Qb (fun k i s => Z7.l1 k l s i) l (fun pre t s o => s = Zb9 0 pre → o = some T) ?_ ?_ [] K0 (ltK hl) rfl
 ·intro s k hs
  simp only [Z7.l1, if_neg (show ¬ (l.length : Int) < (l.length : Int) by omega), hs, h1]
  rfl
 ·intro pre x t s k e ih hs
  obtain ⟨h3, h4⟩ := mid e
  have hp : pre.length ≤ Z9 := by rw [e] at hl; simp at hl; omega
  simp only [Z7.l1, if_pos h4.2, if_pos h4, h3, Kl.f, Option.bind_some, nxt hl e]
  rw [if_pos (by rw [hs, Zmy]; exact Zkr hp (Nat.le_refl _))]
  exact ih _ (by rw [hs, Znd]; simp [Zb9])
theorem Zc6 {α : Type} {n : Nat} (h : n ≤ Z9) : ([] : List α).length + n ≤ most := by unfold Z9 at h; unfold most; simp; omega
theorem Zh7 (l : List Val) (h : l.length ≤ Z9) : Yh.f l = some l := by rw [Yh.f, if_pos (Zc6 h)]; rfl
theorem Zvn (l : List ByteArray) (h : l.length ≤ Z9) : Ki.f l = some l := by rw [Ki.f, if_pos (Zc6 h)]; rfl
theorem Zv5 (l : List Chs) (h : l.length ≤ Z9) : Qq.f l = some l := by rw [Qq.f, if_pos (Zc6 h)]; rfl
theorem Zsj (l : List Spn) (h : l.length ≤ Z9) : Xx.f l = some l := by rw [Xx.f, if_pos (Zc6 h)]; rfl
theorem Zgb (l : List Int) (h : l.length ≤ Z9) : Xi.f l = some l := by rw [Xi.f, if_pos (Zc6 h)]; rfl
theorem Znl (l : List Chs) (hl : l.length ≤ Z9) (hi : ∀ x ∈ l, x.is_.length ≤ Z9) : V0.f l = some l := by
 rw [V0.f, Zv5 l hl, Option.bind_some]
 refine Qb (fun k i s => V0.l1 k l s i) l (fun pre t s o => s = l → o = some l) ?_ ?_ l K0 (ltK hl) rfl
 ·intro s k hs
  simp only [V0.l1, if_neg (show ¬ (l.length : Int) < (l.length : Int) by omega), hs]
 ·intro pre x t s k e ih hs
  obtain ⟨h3, h4⟩ := mid e
  rw [hs]
  simp only [V0.l1, if_pos h4.2, if_pos h4, h3, nxt hl e, Zgb _ (hi x (by rw [e]; simp)), Option.bind_some]
  refine ih _ ?_
  rw [Int.toNat_natCast]
  rw [e]
  simp
theorem Zp4 (b : Bk) (hb : Few b) : Zas.f b = some b := by
 rw [Zas.f, Zvn _ hb.names, Option.bind_some, Zh7 _ hb.status, Option.bind_some, Znl _ hb.maps hb.mapsI, Option.bind_some, Zh7 _ hb.class_, Option.bind_some,
  Znl _ hb.decomp hb.decompI, Option.bind_some, Zsj _ hb.excl, Option.bind_some, Zh7 _ hb.bidi, Option.bind_some, Zh7 _ hb.join, Option.bind_some, Zsj _ hb.marks, Option.bind_some,
  Zh7 _ hb.script, Option.bind_some, Znl _ hb.like hb.likeI, Option.bind_some]
theorem Zbx (l : List Val) (hl : l.length ≤ Z9) : Qi.f l = some l := by
 have := Zb4 (fun k i s => Qi.l1 k l s i) l (fun x => (⟨x.lo, x.hi, x.n⟩ : Val)) hl
  (fun s k => by simp only [Qi.l1, if_neg (show ¬ (l.length : Int) < (l.length : Int) by omega)])
  (fun pre x t s k e hs => by
   obtain ⟨h1, h2⟩ := mid e
   simp only [Qi.l1, if_pos h2.2, if_pos h2, h1, nxt hl e]
   exact if_pos hs)
 rw [Qi.f, this]; simp
theorem Zjs (l : List Spn) (hl : l.length ≤ Z9) : K3.f l = some l := by
 have := Zb4 (fun k i s => K3.l1 k l s i) l (fun x => (⟨x.lo, x.hi⟩ : Spn)) hl
  (fun s k => by simp only [K3.l1, if_neg (show ¬ (l.length : Int) < (l.length : Int) by omega)])
  (fun pre x t s k e hs => by
   obtain ⟨h1, h2⟩ := mid e
   simp only [K3.l1, if_pos h2.2, if_pos h2, h1, nxt hl e]
   exact if_pos hs)
 rw [K3.f, this]; simp
theorem Zf6 (l : List Chs) (hl : l.length ≤ Z9) (hi : ∀ x ∈ l, x.is_.length ≤ Z9) : Km.f l = some l := by
 have := Zb4 (fun k i s => Km.l1 k l s i) l (fun x => (⟨x.lo, x.hi, x.is_⟩ : Chs)) hl
  (fun s k => by simp only [Km.l1, if_neg (show ¬ (l.length : Int) < (l.length : Int) by omega)])
  (fun pre x t s k e hs => by
   obtain ⟨h1, h2⟩ := mid e
   simp only [Km.l1, if_pos h2.2, if_pos h2, h1, nxt hl e]
   rw [if_pos (Zc6 (hi x (by rw [e]; simp)))]
   exact if_pos hs)
 rw [Km.f, this]; simp
theorem Zu3 (b : Bk) (hb : Few b) : Zb5.f b = some b := by
 rw [Zb5.f, if_pos (Zc6 hb.names), Zbx _ hb.status, Option.bind_some, Zf6 _ hb.maps hb.mapsI, Option.bind_some, Zbx _ hb.class_, Option.bind_some,
  Zf6 _ hb.decomp hb.decompI, Option.bind_some, Zjs _ hb.excl, Option.bind_some, Zbx _ hb.bidi, Option.bind_some, Zbx _ hb.join, Option.bind_some, Zjs _ hb.marks, Option.bind_some,
  Zbx _ hb.script, Option.bind_some, Zf6 _ hb.like hb.likeI, Option.bind_some]
 rfl
structure Zf4 (b : Bk) (t : Tbs) : Prop where
 book : t.b = b
 status : Zaw b.status t.status
 class_ : Zaw b.class_ t.class_
 bidi : Zaw b.bidi t.bidi
 join : Zaw b.join t.join
 script : Zaw b.script t.script
 excl : Zaw (Zgy b.excl) t.excl
 mark : Zaw (Zgy b.marks) t.mark
 maps : Zaw (Zb9 0 b.maps) t.maps
 decomp : Zaw (Zb9 0 b.decomp) t.decomp
 likes : Zaw (Zb9 0 b.like) t.likes
 pairs : b.decomp = [] → t.pairs = []
theorem Zbh (l : List Val) (T : Option Tab) (h : Zaw l T) (p : Int) : ∃ r, Z1.f T p = some r := by
 by_cases c : p < 0 ∨ 1114111 < p
 ·exact ⟨_, Zdj T p c⟩
 ·by_cases hl : Zad l
  ·exact ⟨_, Zdq h hl p (by omega) (by omega)⟩
  ·exact ⟨0, by rw [h.1 hl, Z1.f]; simp [Z1.j1]⟩
theorem Zlt (b : Bk) (hb : Dok b.decomp) {T1 T2 T3 T4 T5 T6 T7 T8 T9 T10 : Option Tab} (h2 : Zaw b.class_ T2) (h6 : Zaw (Zgy b.excl) T6) :
  ∃ ps, Zi.l1 K0 b T1 T2 T3 T4 T5 T6 T7 T8 T9 T10 [] 0 = some (some ⟨b, T1, T2, T3, T4, T5, T6, T7, T8, T9, T10, ps⟩, 0) ∧ (b.decomp = [] → ps = []) := by
 by_cases hnil : b.decomp = []
 ·refine ⟨[], ?_, fun _ => rfl⟩
  obtain ⟨k, hk⟩ : ∃ k, K0 = k + 1 := ⟨1180591620717411303423, rfl⟩
  rw [hk]
  have hz : ¬ (0 : Int) < (b.decomp.length : Int) := by rw [hnil]; simp
  simp only [Zi.l1, if_neg hz]
 suffices h : ∃ ps, Zi.l1 K0 b T1 T2 T3 T4 T5 T6 T7 T8 T9 T10 [] 0 = some (some ⟨b, T1, T2, T3, T4, T5, T6, T7, T8, T9, T10, ps⟩, 0) from h.imp fun _ h => ⟨h, fun e => absurd e hnil⟩
 have hl : b.decomp.length ≤ Z9 := by have := hb.len; unfold Z9; omega
 refine Qb (fun k i s => Zi.l1 k b T1 T2 T3 T4 T5 T6 T7 T8 T9 T10 s i) b.decomp
  (fun pre t s o => ∃ ps, o = some (some ⟨b, T1, T2, T3, T4, T5, T6, T7, T8, T9, T10, ps⟩, 0)) ?_ ?_ [] K0 (ltK hl)
 ·intro s k
  exact ⟨s, by simp only [Zi.l1, if_neg (show ¬ (b.decomp.length : Int) < (b.decomp.length : Int) by omega)]⟩
 ·intro pre x t s k e ih
  obtain ⟨h3, h4⟩ := mid e
  obtain ⟨r1, e1⟩ := Zbh _ _ h6 x.lo
  obtain ⟨r2, e2⟩ := Zbh _ _ h2 x.lo
  obtain ⟨r3, e3⟩ := Zbh _ _ h2 (rd x.is_ 0)
  simp only [Zi.l1, if_pos h4.2, if_pos h4, h3, Zi.j2, Zi.j1, nxt hl e, e1, e2, e3, Option.bind_some]
  by_cases c1 : (x.is_.length : Int) = 2
  ·rw [if_pos c1]
   by_cases c2 : r1 = 0
   ·rw [if_pos c2]
    by_cases c3 : r2 = 0
    ·rw [if_pos c3, if_pos ⟨Int.le_refl _, by omega⟩]
     by_cases c4 : r3 = 0
     ·rw [if_pos (by simpa using c4), if_pos ⟨by omega, by omega⟩, if_pos ⟨by omega, by omega⟩]; exact ih _
     ·rw [if_neg (by simpa using c4)]; exact ih _
    ·rw [if_neg c3, if_neg (by decide)]; exact ih _
   ·rw [if_neg c2, if_neg (by decide)]; exact ih _
  ·rw [if_neg c1, if_neg (by decide)]; exact ih _
theorem Zie {b : Bk} (h : okB b = true) : Dok b.decomp := by
 unfold okB at h
 simp only [Bool.and_eq_true] at h
 exact Dok.mk' h.2.2.2.2.1
theorem Zih (b : Bk) (hb : Few b) (h : okB b = true) : ∃ t, Zi.f b = some (some t, 0) ∧ Zf4 b t := by
 obtain ⟨p, hp⟩ := Zem b
 rw [h] at hp
 obtain ⟨T1, e1, h1⟩ := Zdk b.status
 obtain ⟨T2, e2, h2⟩ := Zdk b.class_
 obtain ⟨T3, e3, h3⟩ := Zdk b.bidi
 obtain ⟨T4, e4, h4⟩ := Zdk b.join
 obtain ⟨T5, e5, h5⟩ := Zdk b.script
 obtain ⟨T6, e6, h6⟩ := Zj9 b.excl hb.excl
 obtain ⟨T7, e7, h7⟩ := Zj9 b.marks hb.marks
 obtain ⟨T8, e8, h8⟩ := Zds b.maps hb.maps
 obtain ⟨T9, e9, h9⟩ := Zds b.decomp hb.decomp
 obtain ⟨T10, e10, h10⟩ := Zds b.like hb.like
 obtain ⟨ps, hps, hpn⟩ := Zlt b (Zie h) (T1 := T1) (T3 := T3) (T4 := T4) (T5 := T5) (T7 := T7) (T8 := T8) (T9 := T9) (T10 := T10) h2 h6
 refine ⟨⟨b, T1, T2, T3, T4, T5, T6, T7, T8, T9, T10, ps⟩, ?_, ⟨rfl, h1, h2, h3, h4, h5, h6, h7, h8, h9, h10, hpn⟩⟩
 rw [Zi.f, hp, Option.bind_some, if_neg (by simp), Zp4 b hb, Option.bind_some, Zi.t10, e1, Option.bind_some, Zi.t9, e2, Option.bind_some, Zi.t8, e3, Option.bind_some,
  Zi.t7, e4, Option.bind_some, Zi.t6, e5, Option.bind_some, Zi.t5, e6, Option.bind_some, Zi.t4, e7, Option.bind_some, Zi.t3, e8, Option.bind_some,
  Zi.t2, e9, Option.bind_some, Zi.t1, e10, Option.bind_some, Zi.j3, hps]
end Go.Proofs.YthoicbafdanmkaaGreatDoor
/- Plain laws: what tables say of classes and parts; full decompositions; canon.Decompose. Own work of this repo. -/
namespace Go.Proofs.YthoicbafdanmkaaGreatDoor
open Go.IntKind (i8 i16 i32 i64 u8 u16 u32 u64)
open Go.RowKit

structure Tb (t : Option Tbs) (key : Int → Int) (pa : Int → List Int) (n : Nat) : Prop where
 cls : Cls t key
 nn : ∀ p, 0 ≤ key p
 parts : ∀ p, Vt.f t p = some (pa p)
 dep : ∀ c, Lc pa n c ≤ 18
 few : n ≤ Z9
theorem Zuf : Tb none (fun _ => 0) (fun _ => []) 0 := by
 refine ⟨fun p => rfl, fun p => Int.le_refl 0, fun p => rfl, fun c => ?_, by unfold Z9; omega⟩
 simp [Lc]
theorem Zrf {P Q : Int → List Int} (h : ∀ c, P c = Q c ∨ P c = []) : ∀ (n : Nat) (c : Int), Lc P n c ≤ Lc Q n c
 | 0, c => by
  rcases h c with e | e
  ·simp [Lc, e]
  ·rw [Zau e]; exact (Za3 Q 0 c).1
 | n + 1, c => by
  rcases h c with e | e
  ·by_cases e0 : Q c = []
   ·rw [Zau e0, Zau (e.trans e0)]; omega
   ·rw [Lc, if_neg (by rw [e]; exact e0), Lc, if_neg e0, e]
    exact Zm9 (Zd9 fun x _ => Zrf h n x)
  ·rw [Zau e]; exact (Za3 Q (n + 1) c).1
theorem Zpk (p : Int) : ∀ (D : List Chs) (i : Int), (Hb (Zb9 i D) p = 0 ∧ paP D p = []) ∨ (0 ≤ i → ∃ j : Nat, j < D.length ∧ Hb (Zb9 i D) p = i + j + 1 ∧ (rd D (j : Int)).is_ = paP D p) ∨ i < 0
 | [], i => .inl ⟨rfl, rfl⟩
 | x :: D, i => by
  by_cases hi : i < 0
  ·exact .inr (.inr hi)
  by_cases c : x.lo ≤ p ∧ p ≤ x.hi
  ·refine .inr (.inl fun _ => ⟨0, by simp, ?_, ?_⟩)
   ·simp [Zb9, Hb, inB, c.1, c.2]
   ·simp [rd, paP, c.1, c.2]
  ·have hb : inB p ⟨x.lo, x.hi, i + 1⟩ = false := by
    simp only [inB, Bool.and_eq_false_iff, decide_eq_false_iff_not]
    by_cases c1 : x.lo ≤ p
    ·exact .inr fun c2 => c ⟨c1, c2⟩
    ·exact .inl c1
   rcases Zpk p D (i + 1) with ⟨h1, h2⟩ | h | h
   ·refine .inl ⟨?_, ?_⟩
    ·rw [Zb9, Hb, if_neg (by rw [hb]; decide)]; exact h1
    ·rw [paP, if_neg c]; exact h2
   ·refine .inr (.inl fun _ => ?_)
    obtain ⟨j, h1, h2, h3⟩ := h (by omega)
    refine ⟨j + 1, by simp; omega, ?_, ?_⟩
    ·rw [Zb9, Hb, if_neg (by rw [hb]; decide), h2]; omega
    ·rw [paP, if_neg c, ← h3]
     unfold rd
     have e1 : ((j + 1 : Nat) : Int).toNat = j + 1 := by omega
     have e2 : ((j : Nat) : Int).toNat = j := by omega
     rw [e1, e2]; rfl
   ·exact .inr (.inr (by omega))
theorem Zsq {D : List Chs} {T : Option Tab} (hT : Zaw (Zb9 0 D) T) (hl : ∀ x ∈ D, x.is_.length ≤ Z9) (hD : D.length ≤ Z9) (p : Int) : ∃ l, Hr.f T D p = some l ∧ (l = paP D p ∨ l = []) := by
 have hz : Z1.f T p = some 0 → ∃ l, Hr.f T D p = some l ∧ (l = paP D p ∨ l = []) := by
  intro h
  exact ⟨[], by rw [Hr.f, h, Option.bind_some, if_pos rfl], .inr rfl⟩
 by_cases c : p < 0 ∨ 1114111 < p
 ·exact hz (Zdj T p c)
 ·by_cases hr : Zad (Zb9 0 D)
  ·have hv := Zdq hT hr p (by omega) (by omega)
   rcases Zpk p D 0 with ⟨h1, h2⟩ | h | h
   ·exact hz (by rw [hv, h1])
   ·obtain ⟨j, h1, h2, h3⟩ := h (Int.le_refl _)
    rw [h2] at hv
    unfold Z9 at hD
    have w1 : i64.wrap (0 + (j : Int) + 1 - 1) = (j : Int) := by rw [w64 (by omega) (by omega)]; omega
    refine ⟨paP D p, ?_, .inl rfl⟩
    rw [Hr.f, hv, Option.bind_some, if_neg (by omega), w1, if_pos ⟨by omega, by omega⟩, h3]
    have hm : (paP D p).length ≤ Z9 := by
     rw [← h3]
     exact hl _ (Zho (by omega) (by omega))
    rw [Zgb _ hm]; rfl
   ·omega
  ·have := hT.1 hr
   exact hz (by rw [this, Z1.f]; simp [Z1.j1])
theorem Zrt {a b : Int} {l : List Val} (h : Zuu a b l = true) (ha : 0 ≤ a) (hb : b ≤ 65535) : Zad l := by
 simp only [Zuu, Hc, Bool.and_eq_true, decide_eq_true_eq] at h
 refine ⟨h.1, ?_⟩
 have : ∀ (l : List Val) (last : Int), Kz (·.lo) (·.hi) (fun x : Val => decide (a ≤ x.n) && decide (x.n ≤ b) && !Uv x.lo x.hi) last l = true → Kz (·.lo) (·.hi) Zci last l = true := by
  intro l
  induction l with
  | nil => intro _ _; rfl
  | cons x t ih =>
   intro last h
   simp only [Kz, Bool.and_eq_true, decide_eq_true_eq] at h ⊢
   refine ⟨⟨h.1.1, ?_⟩, ih _ h.2⟩
   have := h.1.2.1
   simp only [Zci, Bool.and_eq_true, decide_eq_true_eq]; omega
 exact this l _ h.2
theorem Zpj (l : List Val) (T : Option Tab) (h : Zaw l T) (hl : Zad l) (p : Int) : ∃ r, Z1.f T p = some r ∧ 0 ≤ r := by
 by_cases c : p < 0 ∨ 1114111 < p
 ·exact ⟨_, Zdj T p c, Int.le_refl _⟩
 ·exact ⟨_, Zdq h hl p (by omega) (by omega), (Zg0 (fun x hx => by
   have := (Zbg hl.2 x hx).2.2.2
   simpa [Zci] using this) p).1⟩
theorem Zji {b : Bk} (h : okB b = true) : Zad b.class_ := by
 unfold okB at h
 simp only [Bool.and_eq_true] at h
 exact Zrt h.2.2.2.1 (by omega) (by omega)
theorem Zr6 {b : Bk} (h : okB b = true) : Zb1 b.decomp [] b.decomp = true := by
 unfold okB at h
 simp only [Bool.and_eq_true] at h
 exact h.2.2.2.2.2.2.2.2.2.2.2
theorem Zm0 {D : List Chs} : ∀ {l pre : List Chs}, Zb1 D pre l = true → ∀ x ∈ l, Lc (paP D) (D.length + 1) x.lo ≤ 18
 | [], _, _, _, hx => by cases hx
 | y :: l, pre, h, x, hx => by
  simp only [Zb1, Bool.and_eq_true, decide_eq_true_eq] at h
  rcases List.mem_cons.1 hx with rfl | hx
  ·exact h.1.1
  ·exact Zm0 h.2 x hx
theorem Zqq {D : List Chs} (h : ∀ x ∈ D, x.lo = x.hi) (c : Int) : paP D c = [] ∨ ∃ x ∈ D, x.lo = c := by
 induction D with
 | nil => exact .inl rfl
 | cons x D ih =>
  by_cases e : x.lo = c
  ·exact .inr ⟨x, by simp, e⟩
  ·have := h x (by simp)
   rw [paP, if_neg (by omega)]
   rcases ih (fun y hy => h y (by simp [hy])) with h1 | ⟨y, h1, h2⟩
   ·exact .inl h1
   ·exact .inr ⟨y, by simp [h1], h2⟩
theorem Zts {b : Bk} {t : Tbs} (hb : Few b) (h : okB b = true) (ht : Zf4 b t) : ∃ key pa, Tb (some t) key pa (b.decomp.length + 1) := by
 have hD := Zie h
 refine ⟨fun p => (Z1.f t.class_ p).getD 0, fun p => (Hr.f t.decomp b.decomp p).getD [], fun p => ?_, fun p => ?_, fun p => ?_, fun c => ?_, by have := hD.len; unfold Z9; omega⟩
 ·obtain ⟨r, h1, _⟩ := Zpj _ _ ht.class_ (Zji h) p
  simp only [Qf.f, Option.isNone_some, Bool.false_eq_true, if_false, Option.isSome_some, if_true, Option.getD_some, h1, Option.bind_some]
 ·obtain ⟨r, h1, h2⟩ := Zpj _ _ ht.class_ (Zji h) p
  simp only [h1, Option.getD_some]; exact h2
 ·obtain ⟨l, h1, _⟩ := Zsq ht.decomp hb.decompI hb.decomp p
  simp only [Vt.f, Option.isNone_some, Bool.false_eq_true, if_false, Option.isSome_some, if_true, Option.getD_some, ht.book, h1, Option.bind_some]
 ·refine Int.le_trans (Zrf (Q := paP b.decomp) (fun c => ?_) _ c) ?_
  ·obtain ⟨l, h1, h2⟩ := Zsq ht.decomp hb.decompI hb.decomp c
   simp only [h1, Option.getD_some]; exact h2
  ·rcases Zqq hD.one c with e | ⟨x, hx, rfl⟩
   ·rw [Zau e]; omega
   ·exact Zm0 (Zr6 h) x hx

def Zg5 (c : Int) : Int × Int × Int × Bool := (X7.f c).getD default
theorem Zrc (c : Int) : X7.f c = some (Zg5 c) := by
 have : ∃ r, X7.f c = some r := by
  unfold X7.f
  simp only [X7.j2, X7.j1]
  split
  ·exact ⟨_, if_pos trivial⟩
  ·split
   ·exact ⟨_, rfl⟩
   ·split <;> exact ⟨_, rfl⟩
 obtain ⟨r, hr⟩ := this
 rw [Zg5, hr]; rfl
def Zps (c : Int) : List Int := if (Zg5 c).2.2.1 = 0 then [(Zg5 c).1, (Zg5 c).2.1] else [(Zg5 c).1, (Zg5 c).2.1, (Zg5 c).2.2.1]
def Zbm (pa : Int → List Int) : Nat → Int → List Int
 | 0, c => if (Zg5 c).2.2.2 = true then Zps c else [c]
 | n + 1, c => if (Zg5 c).2.2.2 = true then Zps c else if pa c = [] then [c] else (pa c).flatMap (Zbm pa n)
theorem Zpl (c : Int) : (Zps c).length ≤ 3 := by unfold Zps; split <;> simp
theorem Zfu {pa : Int → List Int} : ∀ (n : Nat) (c : Int), Lc pa n c ≤ 18 → ((Zbm pa n c).length : Int) ≤ 3 * Lc pa n c
 | 0, c, h => by
  have := Za3 pa 0 c
  have := Zpl c
  unfold Zbm
  split
  ·omega
  ·simp; omega
 | n + 1, c, h => by
  have h1 := Za3 pa (n + 1) c
  have h2 := Zpl c
  unfold Zbm
  split
  ·omega
  ·split
   ·simp; omega
   ·rename_i _ e
    rw [Lc, if_neg e] at h ⊢
    have hs : Hv (Lc pa n) (pa c) ≤ 18 := by unfold cap at h; split at h <;> omega
    have hcap : cap (Hv (Lc pa n) (pa c)) = Hv (Lc pa n) (pa c) := by unfold cap; rw [if_neg (by omega)]
    rw [hcap]
    have : ∀ l : List Int, Hv (Lc pa n) l ≤ 18 → ((l.flatMap (Zbm pa n)).length : Int) ≤ 3 * Hv (Lc pa n) l := by
     intro l
     induction l with
     | nil => intro _; simp [Hv]
     | cons x l ih =>
      intro hl
      simp only [Hv] at hl ⊢
      have a1 := Za3 pa n x
      have a2 : 0 ≤ Hv (Lc pa n) l := by
       have := Zb6 (f := Lc pa n) (l := l) (fun y _ => (Za3 pa n y).1)
       omega
      have := Zfu (pa := pa) n x (by omega)
      have := ih (by omega)
      simp only [List.flatMap_cons, List.length_append]; omega
    exact this _ hs
theorem Ztz {t : Option Tbs} {key : Int → Int} {pa : Int → List Int} {m : Nat} (h : Tb t key pa m) : ∀ (n : Nat) (c : Int) (k : Nat), Lc pa n c ≤ 18 → n < k → Ql.f k t c = some (Zbm pa n c) := by
 intro n
 induction n with
 | zero =>
  intro c k hc hk
  obtain ⟨k, rfl⟩ : ∃ j, k = j + 1 := ⟨k - 1, by omega⟩
  rw [Ql.f, Ql.b, Zrc, Option.bind_some, Zbm]
  by_cases s1 : (Zg5 c).2.2.2 = true
  ·rw [if_pos s1, if_pos s1, Zps]; split <;> rfl
  ·have e : pa c = [] := by
    by_cases e : pa c = []
    ·exact e
    ·simp [Lc, e] at hc
   rw [if_neg s1, if_neg s1, h.parts c, Option.bind_some, e, if_pos (by simp)]
 | succ n ih =>
  intro c k hc hk
  obtain ⟨k, rfl⟩ : ∃ j, k = j + 1 := ⟨k - 1, by omega⟩
  rw [Ql.f, Ql.b, Zrc, Option.bind_some, Zbm]
  by_cases s1 : (Zg5 c).2.2.2 = true
  ·rw [if_pos s1, if_pos s1, Zps]; split <;> rfl
  ·rw [if_neg s1, if_neg s1, h.parts c, Option.bind_some]
   by_cases e : pa c = []
   ·rw [if_pos e, e, if_pos (by simp)]
   ·rw [if_neg e, if_neg (by have := List.length_pos_iff.2 e; omega)]
    rw [Lc, if_neg e] at hc
    have hs : Hv (Lc pa n) (pa c) ≤ 18 := by unfold cap at hc; split at hc <;> omega
    have hl : ((pa c).length : Int) ≤ 18 := by
     have := Zb6 (f := Lc pa n) (l := pa c) (fun y _ => (Za3 pa n y).1)
     omega
    have hk1 : ∀ x ∈ pa c, Lc pa n x ≤ 18 := fun x hx => by
     have := Zg9 (f := Lc pa n) (l := pa c) (fun y _ => (Za3 pa n y).1) x hx
     omega
    have key : ∀ (l acc : List Int) (pre : List Int) (q : Nat), pa c = pre ++ l → l.length < q → acc.length + 54 * l.length ≤ 5400 → Ql.l1 q (Ql.f k) t (pa c) acc (pre.length : Int) = some (acc ++ l.flatMap (Zbm pa n)) := by
     intro l
     induction l with
     | nil =>
      intro acc pre q e1 hq ha
      obtain ⟨q, rfl⟩ : ∃ j, q = j + 1 := ⟨q - 1, by omega⟩
      have : (pa c).length = pre.length := by rw [e1]; simp
      simp only [Ql.l1, this, if_neg (show ¬ (pre.length : Int) < (pre.length : Int) by omega)]
      simp
     | cons x l ihl =>
      intro acc pre q e1 hq ha
      obtain ⟨q, rfl⟩ : ∃ j, q = j + 1 := ⟨q - 1, by omega⟩
      simp only [List.length_cons] at hq ha
      obtain ⟨m1, m2⟩ := mid e1
      have hx := hk1 x (by rw [e1]; simp)
      have hfl := Zfu n x hx
      have hlen : (pa c).length ≤ Z9 := by unfold Z9; omega
      simp only [Ql.l1, if_pos m2.2, if_pos m2, m1, ih x k hx (by omega), Option.bind_some, nxt hlen e1]
      rw [if_pos (by unfold most; omega)]
      have := ihl (acc ++ Zbm pa n x) (pre ++ [x]) q (by rw [e1]; simp) (by omega) (by simp; omega)
      have e2 : ((pre ++ [x]).length : Int) = (pre.length : Int) + 1 := by simp
      rw [e2] at this
      rw [this]; simp
    have := key (pa c) [] [] K0 rfl (ltK (by unfold Z9; omega)) (by simp; omega)
    simpa using this
theorem Zsd {t : Option Tbs} {key : Int → Int} {pa : Int → List Int} {n : Nat} (h : Tb t key pa n) (l : List Int) (hl : 54 * l.length ≤ Z9) : Vf.f t l = some (l.flatMap (Zbm pa n)) := by
 have key : ∀ (r acc pre : List Int) (q : Nat), l = pre ++ r → r.length < q → acc.length + 54 * r.length ≤ Z9 → Vf.l1 q t l acc (pre.length : Int) = some (acc ++ r.flatMap (Zbm pa n)) := by
  intro r
  induction r with
  | nil =>
   intro acc pre q e1 hq ha
   obtain ⟨q, rfl⟩ : ∃ j, q = j + 1 := ⟨q - 1, by omega⟩
   have : l.length = pre.length := by rw [e1]; simp
   simp only [Vf.l1, this, if_neg (show ¬ (pre.length : Int) < (pre.length : Int) by omega)]
   simp
  | cons x r ihl =>
   intro acc pre q e1 hq ha
   obtain ⟨q, rfl⟩ : ∃ j, q = j + 1 := ⟨q - 1, by omega⟩
   simp only [List.length_cons] at hq ha
   obtain ⟨m1, m2⟩ := mid e1
   have hx := h.dep x
   have hfl := Zfu n x hx
   have hlen : l.length ≤ Z9 := by omega
   have hbig := ha
   unfold Z9 at hbig
   simp only [Vf.l1, if_pos m2.2, if_pos m2, m1, Ztz h n x K0 hx (ltK h.few), Option.bind_some, nxt hlen e1]
   rw [if_pos (by unfold most; omega)]
   have := ihl (acc ++ Zbm pa n x) (pre ++ [x]) q (by rw [e1]; simp) (by omega) (by simp; omega)
   have e2 : ((pre ++ [x]).length : Int) = (pre.length : Int) + 1 := by simp
   rw [e2] at this
   rw [this]; simp
 have := key l [] [] K0 rfl (ltK (by omega)) (by simpa using hl)
 simpa [Vf.f] using this
theorem Zfe {t : Option Tbs} {key : Int → Int} {pa : Int → List Int} {n : Nat} (h : Tb t key pa n) : ∀ (l : List Int), (l.flatMap (Zbm pa n)).length ≤ 54 * l.length
 | [] => by simp
 | x :: l => by
  have := Zfe h l
  have := Zfu n x (h.dep x)
  have := h.dep x
  simp only [List.flatMap_cons, List.length_append, List.length_cons]; omega
theorem Zld {t : Option Tbs} {key : Int → Int} {pa : Int → List Int} {n : Nat} (h : Tb t key pa n) (l : List Int) (hl : 54 * l.length ≤ Z9) : Ut.f t l = some (Zg7 key (l.flatMap (Zbm pa n))) := by
 have := Zfe h l
 rw [Ut.f, Zsd h l hl, Option.bind_some, Zrr h.cls _ (by omega)]; rfl
end Go.Proofs.YthoicbafdanmkaaGreatDoor
/- Plain laws: two lists, compared. Own work of this repo. -/
namespace Go.Proofs.YthoicbafdanmkaaGreatDoor
open Go.RowKit

theorem Zm2 (a b : List Int) (hb : a.length ≤ Z9) : K2.f a b = some (decide (a = b)) := by
 unfold K2.f
 by_cases c : (a.length : Int) = (b.length : Int)
 ·rw [if_neg (by omega)]
  have key : ∀ (s pre u preb : List Int) (q : Nat), a = pre ++ s → b = preb ++ u → pre = preb → s.length < q → K2.l1 q a b (pre.length : Int) = some (decide (s = u)) := by
   intro s
   induction s with
   | nil =>
    intro pre u preb q e1 e2 e3 hq
    obtain ⟨q, rfl⟩ : ∃ j, q = j + 1 := ⟨q - 1, by omega⟩
    have hl : a.length = pre.length := by rw [e1]; simp
    obtain rfl : u = [] := by
     apply List.eq_nil_of_length_eq_zero
     have : b.length = preb.length + u.length := by rw [e2]; simp
     subst e3; omega
    simp only [K2.l1, hl, if_neg (show ¬ (pre.length : Int) < (pre.length : Int) by omega)]
    rfl
   | cons x s ih =>
    intro pre u preb q e1 e2 e3 hq
    obtain ⟨q, rfl⟩ : ∃ j, q = j + 1 := ⟨q - 1, by omega⟩
    simp only [List.length_cons] at hq
    have la : a.length = pre.length + (s.length + 1) := by rw [e1]; simp
    have lb : b.length = preb.length + u.length := by rw [e2]; simp
    cases u with
    | nil => subst e3; simp at lb; omega
    | cons y u =>
     subst e3
     obtain ⟨m1, m2⟩ := mid e1
     obtain ⟨m3, m4⟩ := mid e2
     simp only [K2.l1, if_pos m2.2, if_pos m2, if_pos m4, m1, m3, nxt hb e1]
     by_cases d : x = y
     ·subst d
      rw [if_neg (by simp)]
      have := ih (pre ++ [x]) u (pre ++ [x]) q (by rw [e1]; simp) (by rw [e2]; simp) rfl (by omega)
      have e4 : ((pre ++ [x]).length : Int) = (pre.length : Int) + 1 := by simp
      rw [e4] at this
      rw [this]; simp
     ·rw [if_pos d]; simp [d]
  have := key a [] b [] K0 rfl rfl rfl (ltK hb)
  simpa using this
 ·rw [if_pos c, decide_eq_false (fun e => c (by rw [e]))]
end Go.Proofs.YthoicbafdanmkaaGreatDoor
/- Plain laws: first places in lists. Own work of this repo. -/
namespace Go.Proofs.YthoicbafdanmkaaGreatDoor
open Go.RowKit

def fIx {α : Type} (p : α → Bool) : List α → Nat → Int
 | [], _ => -1
 | x :: t, n => if p x = true then (n : Int) else fIx p t (n + 1)
theorem Zix {α : Type} [Inhabited α] (L : Nat → Int → Option Int) (xs : List α) (p : α → Bool) (hx : xs.length ≤ Z9) (h0 : ∀ k, L (k + 1) (xs.length : Int) = some (-1))
  (h1 : ∀ k pre x t, xs = pre ++ x :: t → L (k + 1) (pre.length : Int) = if p x = true then some (pre.length : Int) else L k ((pre.length : Int) + 1)) : L K0 0 = some (fIx p xs 0) := by
 refine Qb (fun k i (_ : Unit) => L k i) xs (fun pre t _ o => o = some (fIx p t pre.length)) (fun _ k => h0 k) (fun pre x t _ k e ih => ?_) () K0 (ltK hx)
 show L (k + 1) _ = _
 have h2 := ih ()
 have h3 : L k ((pre.length : Int) + 1) = some (fIx p t (pre.length + 1)) := by simpa using h2
 rw [h1 k pre x t e, h3, fIx]
 split <;> rfl
theorem Zhb {α : Type} (p : α → Bool) : ∀ (xs : List α) (n : Nat), decide (0 ≤ fIx p xs n) = xs.any p
 | [], n => by simp [fIx]
 | x :: t, n => by
  rw [fIx, List.any_cons]
  by_cases c : p x = true
  ·rw [if_pos c, c]; simp
  ·rw [if_neg c, Zhb p t, Bool.eq_false_iff.2 c]; rfl
theorem Zqd (xs : List Int) (v : Int) (hx : xs.length ≤ Z9) : Xc.f xs v = some (fIx (fun x => decide (v = x)) xs 0) := by
 rw [Xc.f]
 refine Zix (fun k i => Xc.l1 k xs v i) xs _ hx (fun k => ?_) (fun k pre x t e => ?_)
 ·simp only [Xc.l1, if_neg (show ¬ (xs.length : Int) < (xs.length : Int) by omega)]
 ·obtain ⟨m1, m2⟩ := mid e
  simp only [Xc.l1, if_pos m2.2, if_pos m2, m1, nxt hx e, decide_eq_true_eq]

end Go.Proofs.YthoicbafdanmkaaGreatDoor
/- Plain laws: composing, joiners, the faults of a label. Own work of this repo. -/
namespace Go.Proofs.YthoicbafdanmkaaGreatDoor
open Go.IntKind (i8 i16 i32 i64 u8 u16 u32 u64)
open Go.RowKit

structure Tq (t : Option Tbs) (key : Int → Int) (pa : Int → List Int) (n : Nat) (pr : Int → Int → Int × Bool) (mk kp : Int → Bool) (jn : Int → Int) : Prop where
 tb : Tb t key pa n
 pair : ∀ a b, Xf.f t a b = some (pr a b)
 mark : ∀ p, Qs.f t p = some (mk p)
 kept : ∀ p, X5.f t p = some (kp p)
 join : ∀ p, J5.f t p = some (jn p)
variable {t : Option Tbs} {key : Int → Int} {pa : Int → List Int} {n : Nat} {pr : Int → Int → Int × Bool} {mk kp : Int → Bool} {jn : Int → Int}

def Zcy (key : Int → Int) (pr : Int → Int → Int × Bool) (s : List Int × Int × Int) (c : Int) : List Int × Int × Int :=
 if 0 ≤ s.2.1 ∧ ¬ (s.2.1 < (s.1.length : Int) - 1 ∧ key c ≤ s.2.2) ∧ (pr (rd s.1 s.2.1) c).2 = true then (s.1.set s.2.1.toNat (pr (rd s.1 s.2.1) c).1, s.2.1, s.2.2)
 else if key c = 0 then (s.1 ++ [c], (s.1.length : Int), 0) else (s.1 ++ [c], s.2.1, max s.2.2 (key c))
def Zfr (key : Int → Int) (pr : Int → Int → Int × Bool) (l : List Int) : List Int := (l.foldl (Zcy key pr) ([], -1, 0)).1
theorem Znr (h : Tq t key pa n pr mk kp jn) (l : List Int) (hl : l.length ≤ Z9) : Zl.f t l = some (Zfr key pr l) := by
 have step : ∀ (r pre : List Int) (s : List Int × Int × Int) (k : Nat), l = pre ++ r → r.length < k → s.1.length + r.length ≤ l.length → -1 ≤ s.2.1 → s.2.1 < (s.1.length : Int) → Zl.l1 k t l s.1 s.2.1 s.2.2 (pre.length : Int) = some (r.foldl (Zcy key pr) s).1 := by
  intro r
  induction r with
  | nil =>
   intro pre s k e hk h1 h2 h3
   obtain ⟨k, rfl⟩ : ∃ j, k = j + 1 := ⟨k - 1, by omega⟩
   have : l.length = pre.length := by rw [e]; simp
   simp only [Zl.l1, this, if_neg (show ¬ (pre.length : Int) < (pre.length : Int) by omega), List.foldl_nil]
  | cons c r ih =>
   intro pre s k e hk h1 h2 h3
   obtain ⟨k, rfl⟩ : ∃ j, k = j + 1 := ⟨k - 1, by omega⟩
   simp only [List.length_cons] at hk h1
   obtain ⟨m1, m2⟩ := mid e
   have hbig := hl
   unfold Z9 at hbig
   obtain ⟨out, st, mo⟩ := s
   simp only at h1 h2 h3
   have e4 : ((pre ++ [c]).length : Int) = (pre.length : Int) + 1 := by simp
   have fin : ∀ s' : List Int × Int × Int, s'.1.length ≤ out.length + 1 → -1 ≤ s'.2.1 → s'.2.1 < (s'.1.length : Int) → Zcy key pr (out, st, mo) c = s' → Zl.l1 k t l s'.1 s'.2.1 s'.2.2 ((pre.length : Int) + 1) = some ((c :: r).foldl (Zcy key pr) (out, st, mo)).1 := by
    intro s' g1 g2 g3 g4
    have := ih (pre ++ [c]) s' k (by rw [e]; simp) (by omega) (by omega) g2 g3
    rw [e4] at this
    rw [List.foldl_cons, g4, this]
   have put : Zl.j3 (Zl.l1 k t l) l out st mo (pre.length : Int) (key c) = if key c = 0 then Zl.l1 k t l (out ++ [c]) (out.length : Int) 0 ((pre.length : Int) + 1) else Zl.l1 k t l (out ++ [c]) st (max mo (key c)) ((pre.length : Int) + 1) := by
    simp only [Zl.j3, Zl.j2, Zl.j1, m1, nxt hl e]
    by_cases c0 : key c = 0
    ·rw [if_pos c0, if_pos c0, if_pos (by unfold most; simp; omega)]
    ·rw [if_neg c0, if_neg c0, if_pos (by unfold most; simp; omega)]
   have put2 : ¬ (0 ≤ st ∧ ¬ (st < (out.length : Int) - 1 ∧ key c ≤ mo) ∧ (pr (rd out st) c).2 = true) → Zl.j3 (Zl.l1 k t l) l out st mo (pre.length : Int) (key c) = some ((c :: r).foldl (Zcy key pr) (out, st, mo)).1 := by
    intro hc
    rw [put]
    by_cases c0 : key c = 0
    ·rw [if_pos c0]
     exact fin (out ++ [c], (out.length : Int), 0) (by simp) (by show (-1 : Int) ≤ (out.length : Int); omega) (by show (out.length : Int) < ((out ++ [c]).length : Int); simp; omega) (by simp only [Zcy, if_neg hc, if_pos c0])
    ·rw [if_neg c0]
     exact fin (out ++ [c], st, max mo (key c)) (by simp) h2 (by simp <;> omega) (by simp only [Zcy, if_neg hc, if_neg c0])
   simp only [Zl.l1, if_pos m2.2, if_pos m2, m1, h.tb.cls c, Option.bind_some, Zl.j5]
   by_cases a1 : 0 ≤ st
   ·rw [if_pos a1, w64 (by omega) (by omega)]
    have j4 : ∀ bl : Bool, (bl = true ↔ (st < (out.length : Int) - 1 ∧ key c ≤ mo)) → Zl.j4 (Zl.l1 k t l) t l out st mo (pre.length : Int) (key c) (!bl) = some ((c :: r).foldl (Zcy key pr) (out, st, mo)).1 := by
     intro bl hb
     simp only [Zl.j4, m1]
     by_cases a2 : bl = true
     ·rw [a2, if_neg (by simp)]
      exact put2 (fun hh => hh.2.1 (hb.1 a2))
     ·rw [Bool.eq_false_iff.2 a2, if_pos (by simp), if_pos ⟨a1, h3⟩, h.pair, Option.bind_some]
      by_cases a3 : (pr (rd out st) c).2 = true
      ·rw [if_pos a3]
       simp only [Zl.j1, nxt hl e]
       exact fin (out.set st.toNat (pr (rd out st) c).1, st, mo) (by simp) h2 (by simpa using h3) (by simp only [Zcy]; rw [if_pos ⟨a1, fun hh => a2 (hb.2 hh), a3⟩])
      ·rw [if_neg a3]
       exact put2 (fun hh => a3 hh.2.2)
    by_cases a4 : st < (out.length : Int) - 1
    ·rw [if_pos a4, if_pos a1]
     exact j4 _ (by simp [a4])
    ·rw [if_neg a4, if_pos a1]
     exact j4 false (by simp [a4])
   ·rw [if_neg a1, if_neg a1]
    simp only [Zl.j4, if_neg (show ¬ false = true by simp)]
    exact put2 (fun hh => a1 hh.1)
 have := step l [] ([], -1, 0) K0 rfl (ltK hl) (by simp) (by simp) (by simp)
 simpa [Zl.f, Zfr] using this
theorem Zg4 (key : Int → Int) (pr : Int → Int → Int × Bool) : ∀ (l : List Int) (s : List Int × Int × Int), (l.foldl (Zcy key pr) s).1.length ≤ s.1.length + l.length
 | [], s => by simp
 | c :: l, s => by
  have h1 : (Zcy key pr s c).1.length ≤ s.1.length + 1 := by
   unfold Zcy
   split
   ·simp
   ·split <;> simp
  have := Zg4 key pr l (Zcy key pr s c)
  simp only [List.foldl_cons, List.length_cons]; omega
def Zdi (key : Int → Int) (pa : Int → List Int) (n : Nat) (pr : Int → Int → Int × Bool) (l : List Int) : List Int := Zfr key pr (Zg7 key (l.flatMap (Zbm pa n)))
theorem Zl2 (key : Int → Int) (l : List Int) : (Zg7 key l).length = l.length := Zua key l
theorem Zpr (h : Tq t key pa n pr mk kp jn) (l : List Int) (hl : 54 * l.length ≤ Z9) : U7.f t l = some (Zdi key pa n pr l) := by
 have := Zfe h.tb l
 rw [U7.f, Zld h.tb l hl, Option.bind_some, Znr h _ (by rw [Zl2]; omega)]; rfl
theorem Zsy (a b : List Int) (hb : a.length ≤ Z9) : Xj.f a b = some (decide (a = b)) := by
 rw [Xj.f]
 have e : ∀ q a b i, Xj.l1 q a b i = K2.l1 q a b i := by
  intro q
  induction q with
  | zero => intros; rfl
  | succ q ih => intro a b i; simp only [Xj.l1, K2.l1, ih]
 rw [e]
 exact Zm2 a b hb
theorem Zve (h : Tq t key pa n pr mk kp jn) (l : List Int) (hl : 54 * l.length ≤ Z9) : Hz.f t l = some (decide (Zdi key pa n pr l = l)) := by
 have h1 := Zfe h.tb l
 have h2 := Zg4 key pr (Zg7 key (l.flatMap (Zbm pa n))) ([], -1, 0)
 rw [Hz.f, Zpr h l hl, Option.bind_some, Zsy _ _ (by rw [Zl2] at h2; simp only [List.length_nil, Nat.zero_add] at h2; unfold Zdi Zfr; omega)]; rfl
theorem Zgr (h : Tq t key pa n pr mk kp jn) (l : List Int) (hl : l.length ≤ Z9) : ∀ (k : Nat) (i : Int), i < (l.length : Int) → i + 1 < (k : Int) → -1 ≤ i → ∃ r, Vj.l1 k t l i = some r
 | 0, i, _, h2, h3 => by omega
 | k + 1, i, h1, h2, h3 => by
  have hb := hl
  unfold Z9 at hb
  simp only [Vj.l1]
  by_cases c : 0 ≤ i
  ·rw [if_pos c, if_pos ⟨c, h1⟩, h.join, Option.bind_some]
   split
   ·exact ⟨_, rfl⟩
   ·rw [w64 (by omega) (by omega)]; exact Zgr h l hl k (i - 1) (by omega) (by omega) (by omega)
  ·exact ⟨0, by rw [if_neg c]⟩
theorem Zfz (h : Tq t key pa n pr mk kp jn) (l : List Int) (hl : l.length ≤ Z9) : ∀ (k : Nat) (i : Int), (l.length : Int) - i < (k : Int) → 0 ≤ i → i ≤ (l.length : Int) → ∃ r, J8.l1 k t l i = some r
 | 0, i, h1, h2, h3 => by omega
 | k + 1, i, h1, h2, h3 => by
  have hb := hl
  unfold Z9 at hb
  simp only [J8.l1]
  by_cases c : i < (l.length : Int)
  ·rw [if_pos c, if_pos ⟨h2, c⟩, h.join, Option.bind_some]
   split
   ·exact ⟨_, rfl⟩
   ·rw [w64 (by omega) (by omega)]; exact Zfz h l hl k (i + 1) (by omega) (by omega) (by omega)
  ·exact ⟨0, by rw [if_neg c]⟩
theorem Zjb (h : Tq t key pa n pr mk kp jn) (l : List Int) (hl : l.length ≤ Z9) (i : Int) (h0 : 0 ≤ i) (h1 : i < (l.length : Int)) : ∃ r, Yr.f t l i = some r ∧ (rd l i ≠ 8204 → rd l i ≠ 8205 → r = true) := by
 have hb := hl
 unfold Z9 at hb
 have hK : (K0 : Int) = 1180591620717411303424 := rfl
 have e0 : Yr.f t l i = Yr.j3 t l i false := by rw [Yr.f, if_neg (by omega), decide_eq_false (by omega)]
 have es : K7.f (rd l i) = some (decide (rd l i = 8204 ∨ rd l i = 8205)) := by
  unfold K7.f K7.j1
  split <;> simp [*]
 rw [e0]
 simp only [Yr.j3, if_neg (show ¬ false = true by simp), if_pos (And.intro h0 h1), es, Option.bind_some]
 by_cases c : rd l i = 8204 ∨ rd l i = 8205
 ·rw [decide_eq_true c, if_neg (by simp)]
  suffices hs : ∃ r, (if 0 < i then (if (0 : Int) ≤ i64.wrap (i - 1) ∧ i64.wrap (i - 1) < (l.length : Int) then ((Hn.f t (rd l (i64.wrap (i - 1)))).bind fun ag => (Yr.j2 t l i ag)) else none) else (Yr.j2 t l i false)) = some r by
   obtain ⟨r, hr⟩ := hs
   exact ⟨r, hr, fun a b => absurd c (by simp [a, b])⟩
  have hj2 : ∀ b, ∃ r, Yr.j2 t l i b = some r := by
   intro b
   obtain ⟨ra, ha⟩ := Zgr h l hl K0 (i - 1) (by omega) (by omega) (by omega)
   obtain ⟨rb, hb'⟩ := Zfz h l hl K0 (i + 1) (by omega) (by omega) (by omega)
   simp only [Yr.j2, Yr.j1, Vj.f, J8.f, w64 (x := i - 1) (by omega) (by omega), w64 (x := i + 1) (by omega) (by omega), ha, hb', Option.bind_some]
   repeat' split
   all_goals exact ⟨_, rfl⟩
  split
  ·rw [w64 (by omega) (by omega), if_pos ⟨by omega, by omega⟩, Hn.f, h.tb.cls, Option.bind_some, Option.bind_some]
   exact hj2 _
  ·exact hj2 _
 ·rw [decide_eq_false c]
  exact ⟨true, by rw [if_pos (by simp)], fun _ _ => rfl⟩
theorem Zkv (h : Tq t key pa n pr mk kp jn) (l : List Int) (hl : l.length ≤ Z9) : ∃ r, K4.f t l = some r ∧ ((∀ x ∈ l, x ≠ 8204 ∧ x ≠ 8205) → r = -1) := by
 rw [K4.f]
 refine Qb (fun k i (_ : Unit) => K4.l1 k t l i) l (fun pre r _ o => ∃ q, o = some q ∧ ((∀ x ∈ r, x ≠ 8204 ∧ x ≠ 8205) → q = -1)) (fun _ k => ?_) (fun pre x r _ k e ih => ?_) () K0 (ltK hl)
 ·exact ⟨-1, by simp only [K4.l1, if_neg (show ¬ (l.length : Int) < (l.length : Int) by omega)], fun _ => rfl⟩
 ·obtain ⟨m1, m2⟩ := mid e
  obtain ⟨b, hb, hb2⟩ := Zjb h l hl _ m2.1 m2.2
  simp only [K4.l1, if_pos m2.2, hb, Option.bind_some, nxt hl e]
  cases b with
  | true =>
   rw [if_neg (by simp)]
   obtain ⟨q, h1, h2⟩ := ih ()
   exact ⟨q, h1, fun hx => h2 fun y hy => hx y (by simp [hy])⟩
  | false =>
   rw [if_pos (by simp)]
   exact ⟨_, rfl, fun hx => by have := hx x (by simp); rw [m1] at hb2; exact absurd (hb2 this.1 this.2) (by simp)⟩
def Zca (n : Int) (has : Bool) (l : List Int) : List Int := if has = true then l ++ [n] else l
theorem Zcq (n : Int) (has : Bool) (l : List Int) : (Zca n has l).length ≤ l.length + 1 := by unfold Zca; split <;> simp
theorem Zbz (n : Int) (has : Bool) (l : List Int) (hl : l.length ≤ 10) : Xh.f n has l = some (Zca n has l) := by
 unfold Xh.f Zca
 split
 ·rw [if_pos (by unfold most; simp; omega)]
 ·rfl
def Zef (l : List Int) : Bool := decide (4 ≤ (l.length : Int)) && decide (runesBytes (sub l 0 4) = (⟨#[120, 110, 45, 45]⟩ : ByteArray))
theorem Zcs (l : List Int) : J9.f l = some (Zef l) := by
 unfold J9.f Zef J9.j1
 split
 ·rename_i h
  rw [if_pos ⟨by omega, by omega, h⟩, decide_eq_true h]; rfl
 ·rename_i h
  rw [decide_eq_false h]; rfl
def Zj7 (mk : Int → Bool) : List Int → Bool
 | [] => false
 | x :: _ => mk x
def Zkn (is cod st mk ks jo : Bool) : List Int := Zca 6 jo (Zca 5 ks (Zca 4 mk (Zca 3 st (Zca 2 cod (Zca 1 (!is) [])))))
theorem Zj5 (h : Tq t key pa n pr mk kp jn) (l : List Int) (hl : 54 * l.length ≤ Z9) : ∃ jo, X3.f t l = some (Zkn (decide (Zdi key pa n pr l = l)) (Zef l) (l.any fun x => decide (46 = x)) (Zj7 mk l) (l.any fun x => !kp x) jo) ∧ ((∀ x ∈ l, x ≠ 8204 ∧ x ≠ 8205) → jo = false) := by
 have hlb : l.length ≤ Z9 := by omega
 obtain ⟨q, hq, hq2⟩ := Zkv h l hlb
 have hk : Qj.f l t = some (l.any fun x => !kp x) := by
  rw [Qj.f, Ym.f]
  have := Zix (fun k i => Ym.l1 k t l i) l (fun x => !kp x) hlb (fun k => ?_) (fun k pre x r e => ?_)
  ·rw [this, Option.bind_some, Zhb]
  ·simp only [Ym.l1, if_neg (show ¬ (l.length : Int) < (l.length : Int) by omega)]
  ·obtain ⟨m1, m2⟩ := mid e
   simp only [Ym.l1, if_pos m2.2, if_pos m2, m1, Ub.f, h.kept, Option.bind_some, nxt hlb e]
 have hc : Kt.f l 46 = some (l.any fun x => decide (46 = x)) := by
  rw [Kt.f, Zqd l 46 hlb, Option.bind_some, Zhb]
 refine ⟨decide (0 ≤ q), ?_, fun hx => by rw [hq2 hx]; rfl⟩
 have l1 := Zcq 1 (!(decide (Zdi key pa n pr l = l))) []
 have l2 := Zcq 2 (Zef l) (Zca 1 (!(decide (Zdi key pa n pr l = l))) [])
 have l3 := Zcq 3 (l.any fun x => decide (46 = x)) (Zca 2 (Zef l) (Zca 1 (!(decide (Zdi key pa n pr l = l))) []))
 have l4 := Zcq 4 (Zj7 mk l) (Zca 3 (l.any fun x => decide (46 = x)) (Zca 2 (Zef l) (Zca 1 (!(decide (Zdi key pa n pr l = l))) [])))
 have l5 := Zcq 5 (l.any fun x => !kp x) (Zca 4 (Zj7 mk l) (Zca 3 (l.any fun x => decide (46 = x)) (Zca 2 (Zef l) (Zca 1 (!(decide (Zdi key pa n pr l = l))) []))))
 simp only [List.length_nil] at l1
 rw [X3.f, Zve h l hl, Option.bind_some, Zbz _ _ _ (by simp), Option.bind_some, Zcs, Option.bind_some, Zbz _ _ _ (by omega), Option.bind_some, hc, Option.bind_some, Zbz _ _ _ (by omega), Option.bind_some]
 have hj : ∀ aa, aa.length ≤ 4 → X3.j1 t l aa = some (Zca 6 (decide (0 ≤ q)) (Zca 5 (l.any fun x => !kp x) aa)) := by
  intro aa ha
  have := Zcq 5 (l.any fun x => !kp x) aa
  rw [X3.j1, hk, Option.bind_some, Zbz _ _ _ (by omega), Option.bind_some, hq, Option.bind_some, Zbz _ _ _ (by omega)]; rfl
 cases l with
 | nil =>
  rw [if_neg (by simp), Zbz _ _ _ (by omega), Option.bind_some, hj _ (by simp only [Zj7] at l4; omega)]; rfl
 | cons x r =>
  rw [if_pos (by simp <;> omega), if_pos ⟨by omega, by simp <;> omega⟩, show rd (x :: r) 0 = x from rfl, h.mark, Option.bind_some, Zbz _ _ _ (by omega), Option.bind_some, hj _ (by simp only [Zj7] at l4; omega)]; rfl
theorem Zi3 (l : List Int) : Hk.f l = some (l.headD 0) := by
 cases l with
 | nil => rfl
 | cons x r => rw [Hk.f, if_neg (by simp <;> omega), if_pos ⟨by omega, by simp <;> omega⟩]; rfl
def Za1 (l : List Int) : Bool := !(l.any fun p => decide (p < 0 ∨ 128 ≤ p))
theorem Zcm (l : List Int) (hl : l.length ≤ Z9) : Uh.f l = some (Za1 l) := by
 rw [Uh.f, Q1.f, Yo.f]
 have := Zix (fun k i => Yo.l1 k l i) l (fun p => decide (p < 0 ∨ 128 ≤ p)) hl (fun k => ?_) (fun k pre x r e => ?_)
 ·rw [this, Option.bind_some, Zhb]; rfl
 ·simp only [Yo.l1, if_neg (show ¬ (l.length : Int) < (l.length : Int) by omega)]
 ·obtain ⟨m1, m2⟩ := mid e
  have ep : Ve.f x = some (decide (x < 0 ∨ 128 ≤ x)) := by
   unfold Ve.f Ve.j1
   split <;> simp [*]
  simp only [Yo.l1, if_pos m2.2, if_pos m2, m1, ep, Option.bind_some, nxt hl e]
theorem Zm3 {l F : List Int} (h : X3.f t l = some F) : Ui.f t l = some (decide (F = [])) := by
 rw [Ui.f, h, Option.bind_some]
 cases F <;> simp
 omega
end Go.Proofs.YthoicbafdanmkaaGreatDoor
/- Plain laws: prefixes, hyphens, ASCII labels: the program and the document say the same. Own work of this repo. -/
namespace Go.Proofs.YthoicbafdanmkaaGreatDoor
open Go.RowKit

def eL (r : Int) : List UInt8 := (Utf8.encode r).data.toList
theorem Zmf {r : Int} (h0 : 0 ≤ r) (h1 : r < 128) : eL r = [UInt8.ofNat r.toNat] := by
 have hv : Utf8.valid r = true := by simp [Utf8.valid]; omega
 have : r.toNat < 128 := by omega
 simp only [eL, Utf8.encode, hv, if_true]
 rw [if_pos (by omega)]
theorem Zsg {n : Nat} (h0 : 128 ≤ n) (h1 : n < 256) : 128 ≤ (UInt8.ofNat n).toNat := by
 rw [UInt8.toNat_ofNat']
 omega
theorem Ztf {r : Int} (h : r < 0 ∨ 128 ≤ r) : ∃ x t, eL r = x :: t ∧ 128 ≤ x.toNat := by
 have hc : ∃ c, (if Utf8.valid r then r.toNat else Utf8.runeError) = c ∧ 128 ≤ c ∧ c < 1114112 := by
  refine ⟨_, rfl, ?_⟩
  by_cases hv : Utf8.valid r = true
  ·rw [if_pos hv]
   simp [Utf8.valid] at hv
   omega
  ·rw [if_neg hv]
   unfold Utf8.runeError
   omega
 obtain ⟨c, e, h1, h2⟩ := hc
 unfold eL Utf8.encode
 simp only [e]
 rw [if_neg (by omega)]
 split
 ·exact ⟨_, _, rfl, Zsg (by omega) (by omega)⟩
 ·split
  ·exact ⟨_, _, rfl, Zsg (by omega) (by omega)⟩
  ·exact ⟨_, _, rfl, Zsg (by omega) (by omega)⟩
theorem Zn5 (l : List Int) : ∀ (s : ByteArray), (l.foldl (fun r n => r ++ Utf8.encode n) s).data.toList = s.data.toList ++ l.flatMap eL := by
 induction l with
 | nil => intro s; simp
 | cons x l ih => intro s; rw [List.foldl_cons, ih]; simp [eL, ByteArray.data_append]
theorem Zdb (l : List Int) : (runesBytes l).data.toList = l.flatMap eL := by
 rw [runesBytes, Zn5]; rfl
theorem Zoa (l : List Int) : ∀ (s : ByteArray), (l.foldl (fun r n => r.push (UInt8.ofNat n.toNat)) s).data.toList = s.data.toList ++ l.map fun n => UInt8.ofNat n.toNat := by
 induction l with
 | nil => intro s; simp
 | cons x l ih => intro s; rw [List.foldl_cons, ih]; simp [ByteArray.push]
theorem Zgs (l : List Int) : (Za4 l).data.toList = l.map fun n => UInt8.ofNat n.toNat := by
 rw [Za4, Zoa]; rfl
theorem Zvw {a b : ByteArray} (h : a.data.toList = b.data.toList) : a = b := by
 cases a; cases b
 simp only at h
 congr
 exact Array.ext' h
theorem Zhc {r : Int} {x : UInt8} {s t : List UInt8} (hx : x.toNat < 128) (h : eL r ++ s = x :: t) : r = (x.toNat : Int) ∧ s = t := by
 by_cases c : 0 ≤ r ∧ r < 128
 ·rw [Zmf c.1 c.2] at h
  simp only [List.cons_append, List.nil_append, List.cons.injEq] at h
  refine ⟨?_, h.2⟩
  rw [← h.1, UInt8.toNat_ofNat']
  omega
 ·obtain ⟨y, u, e, hy⟩ := Ztf (r := r) (by omega)
  rw [e, List.cons_append] at h
  simp only [List.cons.injEq] at h
  rw [h.1] at hy
  omega
theorem Zq4 (l : List Int) : Zef l = true ↔ ∃ r, l = 120 :: 110 :: 45 :: 45 :: r := by
 unfold Zef
 simp only [Bool.and_eq_true, decide_eq_true_eq]
 constructor
 ·rintro ⟨h, e⟩
  match l, h with
  | a :: b :: c :: d :: r, _ =>
   have e1 := congrArg (fun s : ByteArray => s.data.toList) e
   simp only [Zdb] at e1
   have e2 : sub (a :: b :: c :: d :: r) 0 4 = [a, b, c, d] := rfl
   rw [e2] at e1
   simp only [List.flatMap_cons, List.flatMap_nil] at e1
   obtain ⟨h1, e1⟩ := Zhc (by decide) e1
   obtain ⟨h2, e1⟩ := Zhc (by decide) e1
   obtain ⟨h3, e1⟩ := Zhc (by decide) e1
   obtain ⟨h4, e1⟩ := Zhc (by decide) e1
   exact ⟨r, by rw [h1, h2, h3, h4]; rfl⟩
 ·rintro ⟨r, rfl⟩
  refine ⟨by simp; omega, ?_⟩
  show runesBytes [120, 110, 45, 45] = _
  rfl
end Go.Proofs.YthoicbafdanmkaaGreatDoor
/- Plain laws: what the statements of layer 18 are awake by. Own work of this repo. -/
namespace Go.Proofs.YthoicbafdanmkaaGreatDoor
open Go.RowKit

theorem Zw0 : Hh.f (⟨#[98, 99, 104, 101, 114, 45, 107, 118, 97]⟩ : ByteArray) = some ([98, 252, 99, 104, 101, 114], 0, 0) := by kernel_rfl
theorem Zxe : Za5.f [98, 252] = some ((⟨#[98, 45, 101, 104, 97]⟩ : ByteArray), 0, 0) := by kernel_rfl
def aB : Bk := ⟨[], [⟨97, 122, 1⟩, ⟨252, 252, 1⟩], [], [], [], [], [], [], [], [], []⟩
theorem Zvo : Few aB := by constructor <;> simp [aB, Z9]
theorem Zw7 : okB aB = true := by kernel_rfl
theorem Zs9 : Zad [] := ⟨by simp, rfl⟩
theorem Zdh {T : Option Tab} (h : Zaw [] T) (p : Int) : Z1.f T p = some 0 := by
 by_cases c : p < 0 ∨ 1114111 < p
 ·exact Zdj T p c
 ·exact Zdq h Zs9 p (by omega) (by omega)
def pr0 (a b : Int) : Int × Bool := (Xf.f none a b).getD (0, false)
theorem Zfc {α : Type} {p : Prop} [Decidable p] {A B : Option α} (ha : ∃ r, A = some r) (hb : ∃ r, B = some r) : ∃ r, (if p then A else B) = some r := by
 by_cases c : p
 ·rw [if_pos c]; exact ha
 ·rw [if_neg c]; exact hb
theorem Zhs {t : Option Tbs} (h : ∀ a b, ∃ r, K8.f t a b = some r) (a b : Int) : ∃ r, Xf.f t a b = some r := by
 have j1 : ∀ x, ∃ r, Xf.j1 t a b x = some r := by
  intro x
  obtain ⟨r, hr⟩ := h a b
  rw [Xf.j1, hr]
  exact Zfc ⟨_, rfl⟩ ⟨_, rfl⟩
 have j2 : ∀ x, ∃ r, Xf.j2 t a b x = some r := by
  intro x
  rw [Xf.j2]
  repeat' first | exact j1 _ | exact ⟨_, rfl⟩ | apply Zfc
 rw [Xf.f]
 repeat' first | exact j2 _ | exact ⟨_, rfl⟩ | apply Zfc
theorem Zjg (a b : Int) : Xf.f none a b = some (pr0 a b) := by
 obtain ⟨r, hr⟩ := Zhs (t := none) (fun _ _ => ⟨_, rfl⟩) a b
 rw [pr0, hr]; rfl
def kp0 (p : Int) : Bool := if p < 0 ∨ 1114111 < p then false else decide (Hb aB.status p = 1 ∨ Hb aB.status p = 3)
theorem Zse {t : Tbs} (h : Zf4 aB t) : Tq (some t) (fun _ => 0) (fun _ => []) 0 pr0 (fun _ => false) kp0 (fun _ => 0) := by
 have hd := Zdh h.decomp
 have hc := Zdh h.class_
 have hm := Zdh h.mark
 have hp := Zdh h.maps
 have hj := Zdh h.join
 refine ⟨⟨fun p => ?_, fun _ => Int.le_refl 0, fun p => ?_, fun c => by simp [Lc], by unfold Z9; omega⟩, fun a b => ?_, fun p => ?_, fun p => ?_, fun p => ?_⟩
 ·simp only [Qf.f, Option.isNone_some, Bool.false_eq_true, if_false, Option.isSome_some, if_true, Option.getD_some, hc, Option.bind_some]
 ·simp only [Vt.f, Hr.f, Option.isNone_some, Bool.false_eq_true, if_false, Option.isSome_some, if_true, Option.getD_some, hd, Option.bind_some]
 ·have e : ∀ a b, K8.f (some t) a b = K8.f none a b := fun a b => by
   simp only [K8.f, Option.isNone_some, Bool.false_eq_true, if_false, Option.isSome_some, if_true, Option.getD_some, h.pairs rfl]
   rfl
  rw [← Zjg a b]
  simp only [Xf.f, Xf.j2, Xf.j1, e]
 ·simp only [Qs.f, Qs.j1, Option.isSome_some, if_true, Option.getD_some, hm, Option.bind_some]; rfl
 ·have hs : Z1.f t.status p = some (if p < 0 ∨ 1114111 < p then 0 else Hb aB.status p) := by
   by_cases c : p < 0 ∨ 1114111 < p
   ·rw [if_pos c]; exact Zdj _ p c
   ·rw [if_neg c]; exact Zdq h.status ⟨by simp [aB], by kernel_rfl⟩ p (by omega) (by omega)
  simp only [X5.f, X5.j1, Qy.f, Option.isNone_some, Bool.false_eq_true, if_false, Option.isSome_some, if_true, Option.getD_some, hp, Option.bind_some, Int.lt_irrefl, hs, kp0]
  by_cases c : p < 0 ∨ 1114111 < p
  ·simp [c]
  ·simp only [if_neg c]
   by_cases c1 : Hb aB.status p = 1
   ·simp [c1]
   ·simp [c1]
 ·simp only [J5.f, Option.isNone_some, Bool.false_eq_true, if_false, Option.isSome_some, if_true, Option.getD_some, hj, Option.bind_some]
theorem Zfv {t : Tbs} (h : Zf4 aB t) (l : List Int) (hl : 54 * l.length ≤ Z9) (h1 : Zdi (fun _ => 0) (fun _ => []) 0 pr0 l = l) (h2 : Zef l = false) (h3 : (l.any fun x => decide (46 = x)) = false) (h4 : (l.any fun x => !kp0 x) = false) (h5 : ∀ x ∈ l, x ≠ 8204 ∧ x ≠ 8205) :
  X3.f (some t) l = some [] := by
 obtain ⟨jo, e, hj⟩ := Zj5 (Zse h) l hl
 have hh : Zj7 (fun _ => false) l = false := by cases l <;> rfl
 rw [e, hj h5, h1, h2, h3, h4, hh, decide_eq_true rfl]; rfl
theorem Ztj : Kx.f = some true := by
 obtain ⟨t, h1, h2⟩ := Zih aB Zvo Zw7
 have hw : ([98, 252, 99, 104, 101, 114] : List Int).length ≤ Z9 := by unfold Z9; simp
 have f1 := Zfv h2 [98, 252, 99, 104, 101, 114] (by unfold Z9; simp) (by kernel_rfl) (by kernel_rfl) (by kernel_rfl) (by kernel_rfl) (by decide)
 have f2 := Zfv h2 [97] (by unfold Z9; simp) (by kernel_rfl) (by kernel_rfl) (by kernel_rfl) (by kernel_rfl) (by decide)
 have r1 : Vx.f (some t) [120, 110, 45, 45, 98, 99, 104, 101, 114, 45, 107, 118, 97] = some ⟨[98, 252, 99, 104, 101, 114], true, 0⟩ := by
  have e1 : Zef [120, 110, 45, 45, 98, 99, 104, 101, 114, 45, 107, 118, 97] = true := by kernel_rfl
  have e2 : Za1 [120, 110, 45, 45, 98, 99, 104, 101, 114, 45, 107, 118, 97] = true := by kernel_rfl
  have e3 : Za1 [98, 252, 99, 104, 101, 114] = false := by kernel_rfl
  have e4 : runesBytes (sub [120, 110, 45, 45, 98, 99, 104, 101, 114, 45, 107, 118, 97] 4 (([120, 110, 45, 45, 98, 99, 104, 101, 114, 45, 107, 118, 97] : List Int).length : Int)) = ⟨#[98, 99, 104, 101, 114, 45, 107, 118, 97]⟩ := by kernel_rfl
  rw [Vx.f, Zgb _ (by unfold Z9; simp), Option.bind_some, Zcs, Option.bind_some, e1, if_neg (by decide), Zcm _ (by unfold Z9; simp), Option.bind_some, e2, if_neg (by decide), if_pos (by simp), e4, Zw0, Option.bind_some, if_neg (by simp)]
  simp only [Zcm _ hw, e3, Option.bind_some, Bool.false_eq_true, if_false, f1, Zi3]; rfl
 have r2 : Zan.f [98, 252] = some ((⟨#[120, 110, 45, 45, 98, 45, 101, 104, 97]⟩ : ByteArray), 0, 0) := by
  have e1 : Za1 [98, 252] = false := by kernel_rfl
  rw [Zan.f, Zcm _ (by unfold Z9; simp), Option.bind_some, e1, if_neg (by decide), Zxe, Option.bind_some, if_neg (by simp), if_pos (by decide)]
  rfl
 have r3 := Zm3 f2
 rw [Kx.f]
 rw [show (⟨([] : List ByteArray), [(⟨97, 122, 1⟩ : Val), (⟨252, 252, 1⟩ : Val)], ([] : List Chs), ([] : List Val), ([] : List Chs), ([] : List Spn), ([] : List Val), ([] : List Val), ([] : List Spn), ([] : List Val), ([] : List Chs)⟩ : Bk) = aB from rfl, h1, Option.bind_some]
 simp only [r1, r2, r3, Option.bind_some, Kx.j1, if_true]
 rfl
end Go.Proofs.YthoicbafdanmkaaGreatDoor
/- Plain laws: a label in ASCII, but for what has to be encoded. Own work of this repo. -/
namespace Go.Proofs.YthoicbafdanmkaaGreatDoor
open Go.IntKind (i8 i16 i32 i64 u8 u16 u32 u64)
open Go.RowKit

theorem Zjn {l : List Int} (h : Za1 l = true) : ∀ x ∈ l, 0 ≤ x ∧ x < 128 := by
 intro x hx
 simp only [Za1, Bool.not_eq_true', List.any_eq_false, decide_eq_true_eq] at h
 have := h x hx
 omega
theorem Zst {x : Int} (h0 : 0 ≤ x) (h1 : x < 256) : u8.wrap x = x := by rw [IntKind.wrap_u8]; omega
theorem Zmw {l : List Int} (h : Za1 l = true) : runesBytes l = Za4 l := by
 apply Zvw
 rw [Zdb, Zgs]
 have : ∀ m : List Int, (∀ x ∈ m, 0 ≤ x ∧ x < 128) → m.flatMap eL = m.map fun n => UInt8.ofNat n.toNat := by
  intro m
  induction m with
  | nil => intro _; rfl
  | cons x m ih =>
   intro hm
   have hx := hm x (by simp)
   rw [List.flatMap_cons, Zmf hx.1 hx.2, ih fun y hy => hm y (by simp [hy])]; rfl
 exact this l (Zjn h)
end Go.Proofs.YthoicbafdanmkaaGreatDoor
/- Plain laws: the parts of Punycode that the program and the document share. Own work of this repo. -/
namespace Go.Proofs.YthoicbafdanmkaaGreatDoor
open Go.IntKind (i8 i16 i32 i64 u8 u16 u32 u64)
open Go.RowKit

abbrev pU : S11 := ⟨36, 1, 26, 38, 700, 72, 128, 45⟩
theorem Zv2 (k b : Int) : Ko.f pU k b = H5.f k b := by
 unfold Ko.f H5.f
 simp only
 split
 ·congr 1; omega
 ·split <;> (congr 1; omega)
theorem Zto (k b : Int) : ∃ t, H5.f k b = some t ∧ 1 ≤ t ∧ t ≤ 26 := by
 unfold H5.f
 split
 ·exact ⟨1, rfl, by omega, by omega⟩
 ·split
  ·exact ⟨26, rfl, by omega, by omega⟩
  ·exact ⟨_, rfl, by omega, by omega⟩
theorem Ztb (c : Int) : Ka.f c = Kg.f c := by
 simp only [Ka.f, Kg.f, Ka.j3, Kg.j3, Ka.j2, Kg.j2, Ka.j1, Kg.j1]
theorem Zjv (c : Int) (h0 : 0 ≤ c) (h1 : c < 256) : ∃ d, Kg.f c = some d ∧ -1 ≤ d ∧ d < 36 := by
 have w8 : ∀ x : Int, 0 ≤ x → x < 256 → u8.wrap x = x := fun x a b => Zst a b
 simp only [Kg.f, Kg.j3, Kg.j2, Kg.j1]
 by_cases a1 : 97 ≤ c
 ·rw [if_pos a1]
  by_cases a2 : c ≤ 122
  ·rw [decide_eq_true a2, if_pos rfl, w8 _ (by omega) (by omega), w64 (by omega) (by omega)]; exact ⟨_, rfl, by omega, by omega⟩
  ·rw [decide_eq_false a2, if_neg (by decide), if_pos (by omega), decide_eq_false (by omega), if_neg (by decide), if_pos (by omega), decide_eq_false (by omega), if_neg (by decide)]; exact ⟨_, rfl, by omega, by omega⟩
 ·rw [if_neg a1, if_neg (by decide)]
  by_cases a3 : 65 ≤ c
  ·rw [if_pos a3]
   by_cases a4 : c ≤ 90
   ·rw [decide_eq_true a4, if_pos rfl, w8 _ (by omega) (by omega), w64 (by omega) (by omega)]; exact ⟨_, rfl, by omega, by omega⟩
   ·rw [decide_eq_false a4, if_neg (by decide), if_pos (by omega), decide_eq_false (by omega), if_neg (by decide)]; exact ⟨_, rfl, by omega, by omega⟩
  ·rw [if_neg a3, if_neg (by decide)]
   by_cases a5 : 48 ≤ c
   ·rw [if_pos a5]
    by_cases a6 : c ≤ 57
    ·rw [decide_eq_true a6, if_pos rfl, w8 _ (by omega) (by omega), w64 (x := c - 48) (by omega) (by omega), w64 (by omega) (by omega)]; exact ⟨_, rfl, by omega, by omega⟩
    ·rw [decide_eq_false a6, if_neg (by decide)]; exact ⟨_, rfl, by omega, by omega⟩
   ·rw [if_neg a5, if_neg (by decide)]; exact ⟨_, rfl, by omega, by omega⟩
theorem Zqt (c : Int) (h0 : 0 ≤ c) (h1 : c < 256) : V7.f pU c = Kg.f c := by
 obtain ⟨d, h2, h3, h4⟩ := Zjv c h0 h1
 rw [V7.f, Ztb, h2, Option.bind_some, if_pos (by exact h4)]
theorem Zmt : ∀ (k : Nat) (a b : Int), Y8.l1 k pU a b = Ky.l1 k a b
 | 0, _, _ => rfl
 | k + 1, a, b => by
  have e1 : i64.wrap (36 - 1) = 35 := by rw [IntKind.wrap_i64]; decide
  have e2 : i64.wrap (35 * 26) = 910 := by rw [IntKind.wrap_i64]; decide
  have e3 : i64.wrap ((910 : Int).tdiv 2) = 455 := by rw [IntKind.wrap_i64]; decide
  have e4 : i64.wrap (35 + 1) = 36 := by rw [IntKind.wrap_i64]; decide
  simp only [Y8.l1, Ky.l1, e1, e2, e3, e4, Zmt k, ne_eq, if_pos (show ¬ (35 : Int) = 0 by decide)]
theorem Zq9 (d p : Int) (f : Bool) : Y8.f pU d p f = Ky.f d p f := by
 simp only [Y8.f, Ky.f, Y8.j1, Ky.j1, Zmt, ne_eq, if_pos (show ¬ (700 : Int) = 0 by decide)]
end Go.Proofs.YthoicbafdanmkaaGreatDoor
/- Plain laws: Punycode is read alike by the program and by the document. Own work of this repo. -/
namespace Go.Proofs.YthoicbafdanmkaaGreatDoor
open Go.IntKind (i8 i16 i32 i64 u8 u16 u32 u64)
open Go.RowKit

theorem Zq8 (a0 : List Int → Int → Int → Int → Int → Option (List Int × Int × Int)) (aa : List Int) (ag ae ac ab ao a7 p : Int) (hp : i64.wrap (ac + i64.wrap (ao * ab)) = p) {i : Nat} (hm : p.tmod (i64.wrap ((aa.length : Int) + 1)) = (i : Int)) (hl : aa.length + 1 ≤ Z9) :
  ∀ (j : Nat) (z : Int) (k : Nat), i ≤ j → j ≤ aa.length → j < k →
   Yi.l1 a0 k aa ag ae ac ab ao a7 (aa.take j ++ z :: aa.drop j) (j : Int) =
    a0 (Zc5 aa (i : Int) (i32.wrap (i64.wrap (ag + (i64.wrap (p.tdiv (i64.wrap ((aa.length : Int) + 1)))))))) (i64.wrap (ae + 1)) (i64.wrap (ag + (i64.wrap (p.tdiv (i64.wrap ((aa.length : Int) + 1)))))) (i64.wrap ((i : Int) + 1)) a7 := by
 have hb := hl
 unfold Z9 at hb
 intro j
 induction j with
 | zero =>
  intro z k h1 h2 h3
  obtain ⟨k, rfl⟩ : ∃ q, k = q + 1 := ⟨k - 1, by omega⟩
  obtain rfl : i = 0 := by omega
  simp only [Yi.l1, hp, hm]
  rw [if_neg (by omega), if_pos ⟨by omega, by simp <;> omega⟩]
  simp [Zc5]
 | succ j ih =>
  intro z k h1 h2 h3
  obtain ⟨k, rfl⟩ : ∃ q, k = q + 1 := ⟨k - 1, by omega⟩
  have hlen : (aa.take (j + 1) ++ z :: aa.drop (j + 1)).length = aa.length + 1 := by simp; omega
  simp only [Yi.l1, hp, hm]
  by_cases c : i = j + 1
  ·subst c
   rw [if_neg (by omega), if_pos ⟨by omega, by rw [hlen]; omega⟩]
   congr 1
   have e : ((j + 1 : Nat) : Int).toNat = j + 1 := by omega
   rw [Zc5, e, List.set_append_right _ _ (by simp; omega)]
   congr 1
   have : j + 1 - (aa.take (j + 1)).length = 0 := by simp; omega
   rw [this]; rfl
  ·have w1 : i64.wrap (((j + 1 : Nat) : Int) - 1) = (j : Int) := by rw [w64 (by omega) (by omega)]; omega
   rw [if_pos (by omega), w1, if_pos ⟨by omega, by rw [hlen]; omega⟩, if_pos ⟨by omega, by rw [hlen]; omega⟩]
   have hj : j < aa.length := by omega
   have e : ((j + 1 : Nat) : Int).toNat = j + 1 := by omega
   have er : rd (aa.take (j + 1) ++ z :: aa.drop (j + 1)) (j : Int) = aa[j] := by
    unfold rd
    have e2 : ((j : Nat) : Int).toNat = j := by omega
    rw [e2]
    rw [List.getD_eq_getElem?_getD, List.getElem?_append_left (by simp; omega), List.getElem?_take, if_pos (by omega), List.getElem?_eq_getElem hj]; rfl
   have es : (aa.take (j + 1) ++ z :: aa.drop (j + 1)).set (j + 1) aa[j] = aa.take j ++ aa[j] :: aa.drop j := by
    rw [List.set_append_right _ _ (by simp; omega)]
    have : j + 1 - (aa.take (j + 1)).length = 0 := by simp; omega
    have e3 : aa.take (j + 1) = aa.take j ++ [aa[j]] := by rw [List.take_add_one, List.getElem?_eq_getElem hj]; rfl
    have e4 : aa.drop j = aa[j] :: aa.drop (j + 1) := List.drop_eq_getElem_cons hj
    rw [this, List.set_cons_zero, e3, List.append_assoc, e4]; rfl
   rw [e, er, es]
   exact ih aa[j] k (by omega) (by omega) (by omega)
def Zu2 (a0 : List Int → Int → Int → Int → Int → Option (List Int × Int × Int)) (aa : List Int) (ag ai ae ac ab ao : Int) : Option (List Int × Int × Int) :=
 (Ky.f (i64.wrap ((i64.wrap (ac + (i64.wrap (ao * ab)))) - ai)) (i64.wrap ((aa.length : Int) + 1)) (decide (ai = 0))).bind fun a7 => (if (i64.wrap ((aa.length : Int) + 1)) ≠ 0 then (if 1114111 < (i64.wrap (ag + (i64.wrap ((i64.wrap (ac + (i64.wrap (ao * ab)))).tdiv (i64.wrap ((aa.length : Int) + 1)))))) then (some (([] : List Int), ae, 142)) else ((Vi.f (i32.wrap (i64.wrap (ag + (i64.wrap ((i64.wrap (ac + (i64.wrap (ao * ab)))).tdiv (i64.wrap ((aa.length : Int) + 1)))))))).bind fun b2 => (if (!b2) = true then (some (([] : List Int), ae, 143)) else (if aa.length + ([0]).length ≤ most then (Yi.l1 a0 K0 aa ag ae ac ab ao a7 (aa ++ ([0])) (i64.wrap (((aa ++ ([0])).length : Int) - 1))) else none)))) else none)
theorem Zfi (s : ByteArray) (i : Int) (h0 : 0 ≤ i) (h1 : i < (s.size : Int)) : 0 ≤ bt s i ∧ bt s i < 256 := by
 rw [Zhy]
 obtain ⟨n, hn⟩ := Zfl (s := s) (Zho (D := Kr s) h0 (by rw [Q9]; exact h1))
 rw [hn]
 have := n.isLt
 omega
theorem Zqk (a0 : List Int → Int → Int → Int → Int → Option (List Int × Int × Int)) (s : ByteArray) (hs : s.size ≤ Z9) (aa : List Int) (ag ai aj : Int) :
  ∀ (k : Nat) (ae ac ab ar : Int), (s.size : Int) - ae < (k : Int) → 0 ≤ ae → ae ≤ (s.size : Int) → 0 ≤ ac → ac ≤ 2147483647 → 1 ≤ ab → ab ≤ 2147483647 → 36 ≤ ar → ar ≤ 36 * (ae + 1) →
   ∃ pl e at' i', Xq.l1 k 36 1 26 38 700 72 128 45 s aj ae ac ab ar = some (pl, e, at', i') ∧ (e ≠ 0 → Yi.l2 a0 k s aa ag ai aj ae ac ab ar = some ([], pl, e)) ∧
    (e = 0 → ae < at' ∧ at' ≤ (s.size : Int) ∧ ac ≤ i' ∧ i' ≤ 2147483647 ∧ ∃ ac' ab' ao', i64.wrap (ac' + i64.wrap (ao' * ab')) = i' ∧ Yi.l2 a0 k s aa ag ai aj ae ac ab ar = Zu2 a0 aa ag ai (at' - 1) ac' ab' ao') := by
 have hb := hs
 unfold Z9 at hb
 intro k
 induction k with
 | zero => intro ae ac ab ar h; omega
 | succ k ih =>
  intro ae ac ab ar h1 h2 h3 h4 h5 h6 h7 h8 h9
  simp only [Xq.l1, Yi.l2]
  by_cases c : ae = (s.size : Int)
  ·rw [if_pos c, if_pos c]
   exact ⟨_, _, _, _, rfl, fun _ => rfl, fun h => absurd h (by decide)⟩
  ·rw [if_neg c, if_neg c, if_pos ⟨h2, by omega⟩, if_pos ⟨h2, by omega⟩]
   obtain ⟨r1, r2⟩ := Zfi s ae h2 (by omega)
   obtain ⟨d, g1, g2, g3⟩ := Zjv _ r1 r2
   rw [show V7.f ⟨36, 1, 26, 38, 700, 72, 128, 45⟩ (bt s ae) = some d from by rw [Zqt _ r1 r2, g1], g1, Option.bind_some, Option.bind_some]
   by_cases c2 : d < 0
   ·rw [if_pos c2, if_pos c2]
    exact ⟨_, _, _, _, rfl, fun _ => rfl, fun h => absurd h (by decide)⟩
   ·have hdb : 0 ≤ d * ab ∧ d * ab ≤ 75161927645 := by
     constructor
     ·exact Int.mul_nonneg (by omega) (by omega)
     ·have : d * ab ≤ 35 * ab := Int.mul_le_mul_of_nonneg_right (by omega) (by omega)
      omega
    have w1 : i64.wrap (d * ab) = d * ab := w64 (by omega) (by omega)
    have w2 : i64.wrap (ac + d * ab) = ac + d * ab := w64 (by omega) (by omega)
    have w3 : i64.wrap (ae + 1) = ae + 1 := w64 (by omega) (by omega)
    have w4 : i64.wrap (ar + 36) = ar + 36 := w64 (by omega) (by omega)
    rw [if_neg c2, if_neg c2]
    by_cases c3 : 2147483647 < i64.wrap (ac + i64.wrap (d * ab))
    ·rw [if_pos c3, if_pos c3]
     exact ⟨_, _, _, _, rfl, fun _ => rfl, fun h => absurd h (by decide)⟩
    ·obtain ⟨t, t1, t2, t3⟩ := Zto ar aj
     rw [if_neg c3, if_neg c3, show Ko.f ⟨36, 1, 26, 38, 700, 72, 128, 45⟩ ar aj = some t from by rw [Zv2, t1], t1, Option.bind_some, Option.bind_some]
     by_cases c4 : d < t
     ·rw [if_pos c4, if_pos c4]
      refine ⟨_, _, _, _, rfl, fun h => absurd rfl h, fun _ => ⟨by omega, by omega, by rw [w1, w2]; omega, by omega, ac, ab, d, rfl, ?_⟩⟩
      rw [w3, show ae + 1 - 1 = ae by omega]; rfl
     ·rw [if_neg c4, if_neg c4]
      have w5 : i64.wrap (36 - t) = 36 - t := w64 (by omega) (by omega)
      have hab : 0 ≤ ab * (36 - t) ∧ ab * (36 - t) ≤ 75161927645 ∧ 1 ≤ ab * (36 - t) := by
       have a1 : ab * 1 ≤ ab * (36 - t) := Int.mul_le_mul_of_nonneg_left (by omega) (by omega)
       have a2 : ab * (36 - t) ≤ ab * 35 := Int.mul_le_mul_of_nonneg_left (by omega) (by omega)
       omega
      have w6 : i64.wrap (ab * (36 - t)) = ab * (36 - t) := w64 (by omega) (by omega)
      by_cases c5 : 2147483647 < i64.wrap (ab * i64.wrap (36 - t))
      ·rw [if_pos c5, if_pos c5]
       exact ⟨_, _, _, _, rfl, fun _ => rfl, fun h => absurd h (by decide)⟩
      ·rw [if_neg c5, if_neg c5]
       rw [w5, w6] at c5 ⊢
       rw [w1, w2] at c3 ⊢
       rw [w3, w4]
       obtain ⟨pl, e, at', i', q1, q2, q3⟩ := ih (ae + 1) (ac + d * ab) (ab * (36 - t)) (ar + 36) (by omega) (by omega) (by omega) (by omega) (by omega) (by omega) (by omega) (by omega) (by omega)
       refine ⟨pl, e, at', i', q1, q2, fun he => ?_⟩
       obtain ⟨p1, p2, p3, p4⟩ := q3 he
       exact ⟨by omega, p2, by omega, p4⟩
theorem Ztx (x : Int) : Ud.f x = Vi.f x := by
 simp only [Ud.f, Yy.f, Yy.j2, Yy.j1, Vi.f, Vi.j1]
 by_cases a : 0 ≤ x
 ·rw [if_pos a, if_pos a]
  by_cases b : x < 55296
  ·simp [b]
  ·simp only [b, decide_false, if_false, Bool.false_eq_true]
   by_cases c : 57343 < x
   ·by_cases d : x ≤ 1114111 <;> simp [c, d]
   ·simp [c]
 ·rw [if_neg a, if_neg a]
  simp [show ¬ 57343 < x by omega]
theorem Zsz (x : Int) : ∃ b, Vi.f x = some b := by
 unfold Vi.f Vi.j1
 repeat' first | exact ⟨_, rfl⟩ | apply Zfc
theorem Ziz : ∀ (k : Nat) (a b : Int), 0 ≤ a → a ≤ 8589934592 → a < (k : Int) → ∃ r, Ky.l1 k a b = some r
 | 0, a, b, h0, _, h2 => by omega
 | k + 1, a, b, h0, h1, h2 => by
  simp only [Ky.l1]
  by_cases c : 455 < a
  ·have ht : a.tdiv 35 = a / 35 := Int.tdiv_eq_ediv_of_nonneg h0
   have hw : i64.wrap (a.tdiv 35) = a / 35 := by rw [ht]; exact w64 (by omega) (by omega)
   rw [if_pos c, hw]
   exact Ziz k _ _ (by omega) (by omega) (by omega)
  ·rw [if_neg c, w64 (x := a + 38) (by omega) (by omega), if_pos (by omega)]
   exact ⟨_, rfl⟩
theorem Zpn (d p : Int) (f : Bool) (h0 : 0 ≤ d) (h1 : d ≤ 2147483648) (hp : 1 ≤ p) : ∃ r, Ky.f d p f = some r := by
 have hK : (K0 : Int) = 1180591620717411303424 := rfl
 have key : ∀ c : Int, 0 ≤ c → c ≤ 2147483648 → ∃ r, Ky.j1 p c = some r := by
  intro c c0 c1
  have e1 : c.tdiv p = c / p := Int.tdiv_eq_ediv_of_nonneg c0
  have e2 : 0 ≤ c / p := Int.ediv_nonneg c0 (by omega)
  have e3 : c / p ≤ c := Int.ediv_le_self p c0
  rw [Ky.j1, if_pos (by omega), e1, w64 (x := c / p) (by omega) (by omega), w64 (by omega) (by omega)]
  exact Ziz K0 _ _ (by omega) (by omega) (by omega)
 have t1 : d.tdiv 700 = d / 700 := Int.tdiv_eq_ediv_of_nonneg h0
 have t2 : d.tdiv 2 = d / 2 := Int.tdiv_eq_ediv_of_nonneg h0
 rw [Ky.f, t1, t2, w64 (x := d / 700) (by omega) (by omega), w64 (x := d / 2) (by omega) (by omega)]
 split
 ·exact key _ (by omega) (by omega)
 ·exact key _ (by omega) (by omega)
theorem Zoz (s : ByteArray) (hs : 2 * s.size ≤ Z9) : ∀ (q : Nat) (out : List Int) (at' n i b : Int) (k : Nat), (s.size : Int) - at' ≤ (q : Int) → q < k → 0 ≤ at' → (out.length : Int) ≤ at' → at' ≤ (s.size : Int) + 1 → 0 ≤ n → n ≤ 1114111 → 0 ≤ i → i ≤ (out.length : Int) →
  ∃ l a e, Yz.l1 k pU s out at' n i b = some (l, a, e) ∧ Yi.l3 k s out at' n i b = some (l, a, e) ∧ (l.length : Int) ≤ (s.size : Int) + 1 := by
 have hb := hs
 unfold Z9 at hb
 have hK : (K0 : Int) = 1180591620717411303424 := rfl
 intro q
 induction q with
 | zero =>
  intro out at' n i b k h1 h2 h3 h4 h5 h6 h7 h8 h9
  obtain ⟨k, rfl⟩ : ∃ j, k = j + 1 := ⟨k - 1, by omega⟩
  simp only [Yz.l1, Yi.l3]
  rw [if_neg (by omega), if_neg (by omega)]
  exact ⟨_, _, _, rfl, rfl, by first | omega | (simp; omega)⟩
 | succ q ih =>
  intro out at' n i b k h1 h2 h3 h4 h5 h6 h7 h8 h9
  obtain ⟨k, rfl⟩ : ∃ j, k = j + 1 := ⟨k - 1, by omega⟩
  simp only [Yz.l1, Yi.l3]
  by_cases c : at' < (s.size : Int)
  ·rw [if_pos c, if_pos c]
   obtain ⟨pl, e, at2, i2, q1, q2, q3⟩ := Zqk (Yi.l3 k s) s (by unfold Z9; omega) out n i b K0 at' i 1 36 (by omega) h3 (by omega) h8 (by omega) (by omega) (by omega) (by omega) (by omega)
   simp only [Vz.f, Xq.f, q1, Option.bind_some]
   by_cases he : e = 0
   ·obtain ⟨p1, p2, p3, p4, ac, ab, ao, p5, p6⟩ := q3 he
    rw [p6]
    have wl : i64.wrap ((out.length : Int) + 1) = (out.length : Int) + 1 := w64 (by omega) (by omega)
    have hpos : (0 : Int) < (out.length : Int) + 1 := by omega
    have td : i2.tdiv ((out.length : Int) + 1) = i2 / ((out.length : Int) + 1) := Int.tdiv_eq_ediv_of_nonneg (by omega)
    have tm : i2.tmod ((out.length : Int) + 1) = i2 % ((out.length : Int) + 1) := Int.tmod_eq_emod_of_nonneg (by omega)
    have d0 : 0 ≤ i2 / ((out.length : Int) + 1) := Int.ediv_nonneg (by omega) (by omega)
    have d1 : i2 / ((out.length : Int) + 1) ≤ i2 := Int.ediv_le_self _ (by omega)
    have m0 : 0 ≤ i2 % ((out.length : Int) + 1) := Int.emod_nonneg _ (by omega)
    have m1 : i2 % ((out.length : Int) + 1) < (out.length : Int) + 1 := Int.emod_lt_of_pos _ hpos
    have wd : i64.wrap (i2 - i) = i2 - i := w64 (by omega) (by omega)
    have w1 : i64.wrap (i2 / ((out.length : Int) + 1)) = i2 / ((out.length : Int) + 1) := w64 (by omega) (by omega)
    have w2 : i64.wrap (n + i2 / ((out.length : Int) + 1)) = n + i2 / ((out.length : Int) + 1) := w64 (by omega) (by omega)
    have w3 : i64.wrap (at2 - 1) = at2 - 1 := w64 (by omega) (by omega)
    have w4 : i64.wrap (i2 % ((out.length : Int) + 1) + 1) = i2 % ((out.length : Int) + 1) + 1 := w64 (by omega) (by omega)
    have w5 : i64.wrap (at2 - 1 + 1) = at2 := by rw [w64 (by omega) (by omega)]; omega
    obtain ⟨ad, had⟩ := Zpn (i2 - i) ((out.length : Int) + 1) (decide (i = 0)) (by omega) (by omega) (by omega)
    have hne : ¬ (out.length : Int) + 1 = 0 := by omega
    simp only [he, ne_eq, not_true_eq_false, if_false, Zu2, p5, wl, Zq9, wd, had, Option.bind_some, hne, not_false_eq_true, if_true, td, tm, w1, w2, w3, w4]
    by_cases c2 : 1114111 < n + i2 / ((out.length : Int) + 1)
    ·simp only [if_pos c2, Option.bind_some]
     exact ⟨_, _, _, rfl, rfl, by first | omega | (simp; omega)⟩
    ·simp only [if_neg c2, Ztx]
     obtain ⟨sb, hsb⟩ := Zsz (i32.wrap (n + i2 / ((out.length : Int) + 1)))
     simp only [hsb, Option.bind_some]
     cases sb with
     | false => exact ⟨_, _, _, rfl, rfl, by first | omega | (simp; omega)⟩
     | true =>
      have hms : out.length + 1 ≤ most := by unfold most; omega
      obtain ⟨im, him⟩ : ∃ im : Nat, i2 % ((out.length : Int) + 1) = (im : Int) := ⟨(i2 % ((out.length : Int) + 1)).toNat, by omega⟩
      have hsh := Zq8 (Yi.l3 k s) out n (at2 - 1) ac ab ao ad i2 p5 (i := im) (by rw [wl, tm, him]) (by unfold Z9; omega) out.length 0 K0 (by omega) (Nat.le_refl _) (by omega)
      have e1 : out.take out.length ++ (0 : Int) :: out.drop out.length = out ++ [0] := by simp
      have e2 : i64.wrap (((out ++ [(0 : Int)]).length : Int) - 1) = (out.length : Int) := by
       rw [List.length_append, w64 (by simp <;> omega) (by simp <;> omega)]; simp
      rw [e1, wl, td, w1, w2, w5, ← him, w4] at hsh
      have hil : (Zc5 out (i2 % ((out.length : Int) + 1)) (i32.wrap (n + i2 / ((out.length : Int) + 1)))).length = out.length + 1 := by simp [Zc5]; omega
      obtain ⟨l, a, e', r1, r2, r3⟩ := ih (Zc5 out (i2 % ((out.length : Int) + 1)) (i32.wrap (n + i2 / ((out.length : Int) + 1)))) at2 (n + i2 / ((out.length : Int) + 1)) (i2 % ((out.length : Int) + 1) + 1) ad k (by omega) (by omega) (by omega) (by rw [hil]; omega) (by omega) (by omega) (by omega) (by omega) (by rw [hil]; omega)
      refine ⟨l, a, e', ?_, ?_, r3⟩
      ·rw [if_neg (by decide), if_pos ⟨m0, by omega, hms⟩, Option.bind_some, if_neg (by simp)]
       exact r1
      ·rw [if_neg (by decide), if_pos (by simpa using hms), e2, hsh]
       exact r2
   ·rw [q2 he]
    simp only [ne_eq, he, not_false_eq_true, if_true, Option.bind_some]
    exact ⟨_, _, _, rfl, rfl, by first | omega | (simp; omega)⟩
  ·rw [if_neg c, if_neg c]
   exact ⟨_, _, _, rfl, rfl, by first | omega | (simp; omega)⟩
end Go.Proofs.YthoicbafdanmkaaGreatDoor
/- Plain laws: Punycode's last hyphen, and what stands ahead of it. Own work of this repo. -/
namespace Go.Proofs.YthoicbafdanmkaaGreatDoor
open Go.IntKind (i8 i16 i32 i64 u8 u16 u32 u64)
open Go.RowKit

theorem Zpt (s : ByteArray) (hs : s.size ≤ Z9) : ∀ (m : Nat) (i : Int) (k : Nat), i + 1 ≤ (m : Int) → m < k → -1 ≤ i → i < (s.size : Int) →
  ∃ r, Z8.l1 k s 45 i = some r ∧ ((r = -1 ∧ ∀ j, 0 ≤ j → j ≤ i → bt s j ≠ 45) ∨ (0 ≤ r ∧ r ≤ i ∧ bt s r = 45 ∧ ∀ j, r < j → j ≤ i → bt s j ≠ 45)) := by
 have hb := hs
 unfold Z9 at hb
 intro m
 induction m with
 | zero =>
  intro i k h1 h2 h3 h4
  obtain ⟨k, rfl⟩ : ∃ q, k = q + 1 := ⟨k - 1, by omega⟩
  simp only [Z8.l1]
  rw [if_neg (by omega)]
  exact ⟨-1, rfl, .inl ⟨rfl, fun j a b => by omega⟩⟩
 | succ m ih =>
  intro i k h1 h2 h3 h4
  obtain ⟨k, rfl⟩ : ∃ q, k = q + 1 := ⟨k - 1, by omega⟩
  simp only [Z8.l1]
  by_cases c : 0 ≤ i
  ·rw [if_pos c, if_pos ⟨c, h4⟩]
   by_cases d : bt s i = 45
   ·rw [if_pos d]
    exact ⟨i, rfl, .inr ⟨c, Int.le_refl _, d, fun j a b => by omega⟩⟩
   ·rw [if_neg d, w64 (by omega) (by omega)]
    obtain ⟨r, q1, q2⟩ := ih (i - 1) k (by omega) (by omega) (by omega) (by omega)
    refine ⟨r, q1, ?_⟩
    rcases q2 with ⟨a1, a2⟩ | ⟨a1, a2, a3, a4⟩
    ·refine .inl ⟨a1, fun j b1 b2 => ?_⟩
     by_cases e : j = i
     ·rw [e]; exact d
     ·exact a2 j b1 (by omega)
    ·refine .inr ⟨a1, by omega, a3, fun j b1 b2 => ?_⟩
     by_cases e : j = i
     ·rw [e]; exact d
     ·exact a4 j b1 (by omega)
  ·rw [if_neg c]
   exact ⟨-1, rfl, .inl ⟨rfl, fun j a b => by omega⟩⟩
def Zuz (s : ByteArray) (i al : Int) : Prop := (al = 0 ∧ ∀ j, 0 < j → j < i → bt s j ≠ 45) ∨ (0 < al ∧ al < i ∧ bt s al = 45 ∧ ∀ j, al < j → j < i → bt s j ≠ 45)
theorem Zsh (s : ByteArray) (hs : s.size ≤ Z9) : ∀ (m : Nat) (i al : Int) (k : Nat), (s.size : Int) - i ≤ (m : Int) → m < k → 0 ≤ i → i ≤ (s.size : Int) → Zuz s i al →
  ∃ al', Yi.l5 k s al i = Yi.l4 K0 s al' [] 0 ∧ Zuz s (s.size : Int) al' := by
 have hb := hs
 unfold Z9 at hb
 intro m
 induction m with
 | zero =>
  intro i al k h1 h2 h3 h4 h5
  obtain ⟨k, rfl⟩ : ∃ q, k = q + 1 := ⟨k - 1, by omega⟩
  obtain rfl : i = (s.size : Int) := by omega
  simp only [Yi.l5]
  rw [if_neg (by omega)]
  exact ⟨al, rfl, h5⟩
 | succ m ih =>
  intro i al k h1 h2 h3 h4 h5
  obtain ⟨k, rfl⟩ : ∃ q, k = q + 1 := ⟨k - 1, by omega⟩
  simp only [Yi.l5, Yi.j1]
  by_cases c : i < (s.size : Int)
  ·rw [if_pos c, if_pos ⟨h3, c⟩, w64 (by omega) (by omega)]
   by_cases d : bt s i = 45
   ·rw [if_pos d]
    refine ih (i + 1) i k (by omega) (by omega) (by omega) (by omega) ?_
    by_cases e : i = 0
    ·exact .inl ⟨e, fun j a b => by omega⟩
    ·exact .inr ⟨by omega, by omega, d, fun j a b => by omega⟩
   ·rw [if_neg d]
    refine ih (i + 1) al k (by omega) (by omega) (by omega) (by omega) ?_
    rcases h5 with ⟨a1, a2⟩ | ⟨a1, a2, a3, a4⟩
    ·refine .inl ⟨a1, fun j b1 b2 => ?_⟩
     by_cases e : j = i
     ·rw [e]; exact d
     ·exact a2 j b1 (by omega)
    ·refine .inr ⟨a1, by omega, a3, fun j b1 b2 => ?_⟩
     by_cases e : j = i
     ·rw [e]; exact d
     ·exact a4 j b1 (by omega)
  ·rw [if_neg c]
   obtain rfl : i = (s.size : Int) := by omega
   exact ⟨al, rfl, h5⟩
theorem Zqb (s : ByteArray) (hs : s.size ≤ Z9) : ∃ r al, Vh.f s 45 = some r ∧ Yi.f s = Yi.l4 K0 s al [] 0 ∧ (if 0 < r then al = r else al = 0) ∧ r < (s.size : Int) := by
 have hb := hs
 unfold Z9 at hb
 have hK : (K0 : Int) = 1180591620717411303424 := rfl
 obtain ⟨r, p1, p2⟩ := Zpt s hs s.size ((s.size : Int) - 1) K0 (by omega) (by omega) (by omega) (by omega)
 obtain ⟨al, q1, q2⟩ := Zsh s hs s.size 0 0 K0 (by omega) (by omega) (by omega) (by omega) (.inl ⟨rfl, fun j a b => by omega⟩)
 refine ⟨r, al, ?_, q1, ?_, ?_⟩
 ·rw [Vh.f, Z8.f, w64 (by omega) (by omega), p1]; rfl
 ·rcases p2 with ⟨a1, a2⟩ | ⟨a1, a2, a3, a4⟩
  ·rw [if_neg (by omega)]
   rcases q2 with ⟨b1, _⟩ | ⟨b1, b2, b3, _⟩
   ·exact b1
   ·exact absurd b3 (a2 al (by omega) (by omega))
  ·by_cases c : 0 < r
   ·rw [if_pos c]
    rcases q2 with ⟨b1, b2⟩ | ⟨b1, b2, b3, b4⟩
    ·exact absurd a3 (b2 r c (by omega))
    ·by_cases d : al < r
     ·exact absurd a3 (b4 r d (by omega))
     ·by_cases d2 : r < al
      ·exact absurd b3 (a4 al d2 (by omega))
      ·omega
   ·rw [if_neg c]
    rcases q2 with ⟨b1, b2⟩ | ⟨b1, b2, b3, b4⟩
    ·exact b1
    ·exact absurd b3 (a4 al (by omega) (by omega))
 ·rcases p2 with ⟨a1, _⟩ | ⟨_, a2, _, _⟩ <;> omega
def Zqp (s : ByteArray) : Prop := ∀ j, 0 ≤ j → j < (s.size : Int) → bt s j < 128
theorem Zhr (s : ByteArray) (hs : 2 * s.size ≤ Z9) (ha : Zqp s) (al : Int) (h0 : 0 ≤ al) (h1 : al ≤ (s.size : Int)) : ∀ (m : Nat) (i : Nat) (k : Nat), al - i ≤ (m : Int) → m < k → (i : Int) ≤ al →
  Yi.l4 k s al ((Kr s).take i) (i : Int) = Yi.j2 s ((Kr s).take al.toNat) (if 0 < al then i64.wrap (al + 1) else al) := by
 have hb := hs
 unfold Z9 at hb
 intro m
 induction m with
 | zero =>
  intro i k a b c
  obtain ⟨k, rfl⟩ : ∃ q, k = q + 1 := ⟨k - 1, by omega⟩
  simp only [Yi.l4]
  have e : al.toNat = i := by omega
  rw [if_neg (by omega), e]
  split <;> rfl
 | succ m ih =>
  intro i k a b c
  obtain ⟨k, rfl⟩ : ∃ q, k = q + 1 := ⟨k - 1, by omega⟩
  simp only [Yi.l4]
  by_cases d : (i : Int) < al
  ·have hi := ha i (by omega) (by omega)
   obtain ⟨r1, r2⟩ := Zfi s i (by omega) (by omega)
   have wv : i32.wrap (bt s i) = bt s i := w32 (by omega) (by omega)
   have hl : i < (Kr s).length := by rw [Q9]; omega
   rw [if_pos d, if_pos ⟨by omega, by omega⟩, if_neg (by omega), wv, if_pos (by unfold most; simp; omega), w64 (by omega) (by omega)]
   have e : (Kr s).take i ++ [bt s i] = (Kr s).take (i + 1) := by
    rw [List.take_add_one, List.getElem?_eq_getElem hl, Zhy]
    unfold rd
    simp [List.getD_eq_getElem?_getD, hl]
   rw [e]
   have := ih (i + 1) k (by omega) (by omega) (by omega)
   rw [show ((i + 1 : Nat) : Int) = (i : Int) + 1 by omega] at this
   exact this
  ·have e : al.toNat = i := by omega
   rw [if_neg d, e]
   split <;> rfl
theorem Zsn {xs : List Int} {x : Int} {t : List Int} (e : xs = x :: t) (h0 : 0 ≤ x) (h1 : x < 128) : Yt.f xs = some (x, 1) := by
 subst e
 obtain ⟨k, hk⟩ : ∃ k, K0 = k + 1 := ⟨1180591620717411303423, rfl⟩
 rw [Yt.f, hk]
 simp only [Yt.l1]
 rw [if_pos (by simp <;> omega), if_pos ⟨by omega, by simp <;> omega⟩, show rd (x :: t) 0 = x from rfl, if_pos h1, w32 (by omega) (by omega)]
theorem Zpx (xs : List Int) (hx : xs.length ≤ Z9) (ha : ∀ x ∈ xs, 0 ≤ x ∧ x < 128) : Vq.f xs 36 1 26 38 700 72 128 45 = some (-1) := by
 rw [Vq.f, X0.f]
 have key := Qb (fun k i (_ : Unit) => X0.l1 k 36 1 26 38 700 72 128 45 xs true i) xs (fun _ _ _ o => o = some (-1)) (fun _ k => ?_) (fun pre x t _ k e ih => ?_) () K0 (ltK hx)
 ·rw [key]; rfl
 ·simp only [X0.l1, if_neg (show ¬ (xs.length : Int) < (xs.length : Int) by omega)]
 ·obtain ⟨m1, m2⟩ := mid e
  obtain ⟨h0, h1⟩ := ha x (by rw [e]; simp)
  have hs : sub xs (pre.length : Int) (xs.length : Int) = x :: t := Zla e
  have hbas : Vb.f x 36 1 26 38 700 72 128 45 = some false := by
   rw [Vb.f, Qz.f, w64 (by omega) (by omega), if_pos h1, Qz.j1, decide_eq_true h1]; rfl
  simp only [X0.l1, if_pos m2.2, if_pos (show (0 : Int) ≤ (pre.length : Int) ∧ (pre.length : Int) ≤ (xs.length : Int) ∧ (xs.length : Int) ≤ (xs.length : Int) from ⟨by omega, by omega, by omega⟩), hs, Zsn rfl h0 h1, Option.bind_some, hbas, nxt hx e]
  rw [if_neg (by decide)]
  exact ih ()
theorem Zp0 (s : ByteArray) (i : Nat) (h : i < s.size) (ha : bt s (i : Int) < 128) : Utf8.decode s i = ((bt s (i : Int)).toNat, 1) := by
 have e : (s.get! i).toNat = (bt s (i : Int)).toNat := by
  have e1 : ((i : Nat) : Int).toNat = i := by omega
  have hd : i < s.data.size := h
  unfold bt
  rw [e1]
  cases s with
  | mk d => simp [ByteArray.get!, Array.getD_eq_getD_getElem?, show i < d.size from hd]
 have hlt : (s.get! i).toNat < 128 := by rw [e]; omega
 unfold Utf8.decode
 simp only [Nat.add_zero]
 rw [if_pos hlt, e]
theorem Zin (s : ByteArray) (ha : Zqp s) : ∀ (b i : Nat) (acc : Array Value), s.size ≤ b + i → (Conv.runesFrom s b i acc).toList = acc.toList ++ ((Kr s).drop i).map (Value.int .i32)
 | 0, i, acc, h => by
  rw [Conv.runesFrom, List.drop_of_length_le (by rw [Q9]; omega)]; simp
 | b + 1, i, acc, h => by
  unfold Conv.runesFrom
  by_cases c : i < s.size
  ·have hi := ha i (by omega) (by omega)
   obtain ⟨r1, r2⟩ := Zfi s i (by omega) (by omega)
   have hl : i < (Kr s).length := by rw [Q9]; exact c
   rw [if_pos c, Zp0 s i c hi]
   simp only
   rw [Zin s ha b (i + 1) _ (by omega), List.drop_eq_getElem_cons hl]
   have e : (Kr s)[i] = bt s (i : Int) := by
    rw [Zhy]
    unfold rd
    simp [List.getD_eq_getElem?_getD, hl]
   rw [e, Array.toList_push, List.map_cons, List.append_assoc]
   have e2 : (Int.ofNat (bt s (i : Int)).toNat) = bt s (i : Int) := by
    show (((bt s (i : Int)).toNat : Nat) : Int) = _
    omega
   rw [e2]; rfl
  ·rw [if_neg c, List.drop_of_length_le (by rw [Q9]; omega)]; simp
theorem Zlu (s : ByteArray) (ha : Zqp s) : Hq s = Kr s := by
 have h := Zf9 s
 rw [Zin s ha s.size 0 #[] (by omega)] at h
 simp only [List.nil_append, List.drop_zero] at h
 have hinj : ∀ (a b : List Int), a.map (Value.int .i32) = b.map (Value.int .i32) → a = b := by
  intro a
  induction a with
  | nil => intro b h; cases b with | nil => rfl | cons _ _ => simp at h
  | cons x a ih =>
   intro b h
   cases b with
   | nil => simp at h
   | cons y b => simp at h; rw [h.1, ih b (by simpa using h.2)]
 exact (hinj _ _ h).symm
theorem Zeu (s : ByteArray) (n : Nat) : Kr (s.extract 0 n) = (Kr s).take n := by
 simp [Kr, ByteArray.extract, ByteArray.copySlice, List.map_take]
theorem Zvs (s : ByteArray) (hs : 2 * s.size ≤ Z9) (ha : Zqp s) : ∃ l a e, Yz.f pU s = some (l, a, e) ∧ Yi.f s = some (l, a, e) ∧ (l.length : Int) ≤ (s.size : Int) + 1 := by
 have hb := hs
 unfold Z9 at hb
 have hK : (K0 : Int) = 1180591620717411303424 := rfl
 obtain ⟨r, al, p1, p2, p3, p4⟩ := Zqb s (by unfold Z9; omega)
 by_cases c : 0 < r
 ·rw [if_pos c] at p3
  subst p3
  have hpre := Zhr s hs ha al (by omega) (by omega) s.size 0 K0 (by omega) (by omega) (by omega)
  rw [if_pos c, w64 (by omega) (by omega)] at hpre
  have hlen : ((Kr s).take al.toNat).length = al.toNat := by rw [List.length_take, Q9]; omega
  obtain ⟨l, a, e, q1, q2, q3⟩ := Zoz s hs (s.size + 1) ((Kr s).take al.toNat) (al + 1) 128 0 72 K0 (by omega) (by omega) (by omega) (by rw [hlen]; omega) (by omega) (by omega) (by omega) (by omega) (by omega)
  refine ⟨l, a, e, ?_, ?_, q3⟩
  ·have hx : ∀ x ∈ Kr (s.extract 0 al.toNat), 0 ≤ x ∧ x < 128 := by
    intro x hx
    rw [Zeu] at hx
    obtain ⟨j, hj0, hj2⟩ := List.getElem_of_mem (List.mem_of_mem_take hx)
    have hj : j < s.size := by rw [← Q9]; exact hj0
    have h1 := ha j (by omega) (by omega)
    obtain ⟨h2, _⟩ := Zfi s j (by omega) (by omega)
    have e1 : bt s (j : Int) = x := by
     rw [Zhy, ← hj2]
     unfold rd
     simp [List.getD_eq_getElem?_getD, hj0]
    rw [e1] at h1 h2
    exact ⟨h2, h1⟩
   have hsz : (s.extract 0 al.toNat).size = al.toNat := by rw [← Q9, Zeu, hlen]
   have hasc : Zqp (s.extract 0 al.toNat) := fun j j0 j1 => by
    rw [Zhy]
    exact (hx _ (Zho j0 (by rw [Q9]; exact j1))).2
   have z : ((0 : Int)).toNat = 0 := rfl
   simp only [Yz.f, p1, Option.bind_some, if_pos c, z]
   rw [if_pos ⟨by omega, by omega, by omega⟩, Zpx _ (by rw [Q9, hsz]; unfold Z9; omega) hx, Option.bind_some, if_neg (by omega), Zlu _ hasc, Zeu, if_pos (by rw [hlen]; unfold most; omega), Yz.j1, w64 (by omega) (by omega)]
   exact q1
  ·rw [p2]
   exact hpre.trans q2
 ·rw [if_neg c] at p3
  subst p3
  have hpre := Zhr s hs ha 0 (by omega) (by omega) s.size 0 K0 (by omega) (by omega) (by omega)
  rw [if_neg (by omega)] at hpre
  obtain ⟨l, a, e, q1, q2, q3⟩ := Zoz s hs (s.size + 1) [] 0 128 0 72 K0 (by omega) (by omega) (by omega) (by simp) (by omega) (by omega) (by omega) (by omega) (by simp)
  refine ⟨l, a, e, ?_, ?_, q3⟩
  ·simp only [Yz.f, p1, Option.bind_some, if_neg c, Yz.j1]
   exact q1
  ·rw [p2]
   exact hpre.trans q2
end Go.Proofs.YthoicbafdanmkaaGreatDoor
/- Plain laws: Punycode is written alike by the program and by the document. Own work of this repo. -/
namespace Go.Proofs.YthoicbafdanmkaaGreatDoor
open Go.RowKit

abbrev SE := List Int × Int × Int × Int
structure OkE (H : Int) (s : SE) : Prop where
 d0 : 0 ≤ s.2.1
 d1 : s.2.1 ≤ 2147483647
 h0 : 0 ≤ s.2.2.2
 h1 : s.2.2.2 ≤ H
 len : (s.1.length : Int) ≤ 12 * s.2.2.2 + 1
 asc : ∀ c ∈ s.1, 0 ≤ c ∧ c < 128
theorem Zl6 {o : List Int} (h : ∀ c ∈ o, 0 ≤ c ∧ c < 128) : Kr (Za4 o) = o := by
 rw [Kr, Zgs, List.map_map]
 have : ∀ m : List Int, (∀ c ∈ m, 0 ≤ c ∧ c < 128) → m.map ((fun b : UInt8 => (b.toNat : Int)) ∘ fun n : Int => UInt8.ofNat n.toNat) = m := by
  intro m
  induction m with
  | nil => intro _; rfl
  | cons x m ih =>
   intro hm
   have hx := hm x (by simp)
   rw [List.map_cons, ih fun y hy => hm y (by simp [hy])]
   congr 1
   simp only [Function.comp, UInt8.toNat_ofNat']
   omega
 exact this o h
theorem Znp {o : List Int} (h : ∀ c ∈ o, 0 ≤ c ∧ c < 128) : (Za4 o).size = o.length := by rw [← Q9, Zl6 h]
theorem Zwe {o : List Int} (h : ∀ c ∈ o, 0 ≤ c ∧ c < 128) : Zqp (Za4 o) := fun j j0 j1 => by
 rw [Znp h] at j1
 rw [Zhy, Zl6 h]
 exact (h _ (Zho j0 j1)).2
end Go.Proofs.YthoicbafdanmkaaGreatDoor
/- Plain laws: the tables of layer 18's statements; what a label is read as. Own work of this repo. -/
namespace Go.Proofs.YthoicbafdanmkaaGreatDoor
open Go.RowKit

theorem Zle (b : Bk) (hb : Few b) (h : okB b = true) : ∃ t, K5.f b = some (some t, b, true) ∧ Zf4 b t := by
 obtain ⟨t, h1, h2⟩ := Zih b hb h
 obtain ⟨p, q, h3⟩ := Zfk b hb
 rw [h] at h3
 refine ⟨t, ?_, h2⟩
 rw [K5.f, Zu3 b hb, Option.bind_some, h3, Option.bind_some, h1, Option.bind_some, if_neg (by simp), if_pos rfl, K5.j1]
 rfl
theorem Zm5 (b : Bk) (hb : Few b) (h : okB b = false) : K5.f b = some (none, ⟨[], [], [], [], [], [], [], [], [], [], []⟩, true) := by
 obtain ⟨p, h1⟩ := Zem b
 obtain ⟨p', q, h3⟩ := Zfk b hb
 rw [h] at h1 h3
 rw [K5.f, Zu3 b hb, Option.bind_some, h3, Option.bind_some, Zi.f, h1, Option.bind_some, if_pos (by simp), Option.bind_some, if_pos (by simp)]
 rfl
theorem Zha {α : Type} {o : Option α} (d : α) (h : ∃ r, o = some r) : o = some (o.getD d) := by
 obtain ⟨r, rfl⟩ := h; rfl
def Zo5 (t : Option Tbs) (sta : Int → Int) (kp : Int → Bool) : Prop := (∀ p, Qy.f t p = some (sta p)) ∧ ∀ p, kp p = decide (sta p = 1 ∨ sta p = 3)
theorem Zok {t : Option Tbs} {sta : Int → Int} (h : ∀ p, Qy.f t p = some (sta p)) (p : Int) : X5.f t p = some (decide (sta p = 1 ∨ sta p = 3)) := by
 rw [X5.f, h, Option.bind_some]
 by_cases c : sta p = 1
 ·rw [if_pos c, decide_eq_true (.inl c)]; rfl
 ·rw [if_neg c]
  simp only [X5.j1, c, false_or]
theorem Zt4 {b : Bk} {t : Tbs} (hb : Few b) (h : okB b = true) (ht : Zf4 b t) : ∃ key pa n pr mk kp jn sta, Tq (some t) key pa n pr mk kp jn ∧ Zo5 (some t) sta kp := by
 obtain ⟨key, pa, h1⟩ := Zts hb h ht
 have hp : ∀ a c, ∃ r, K8.f (some t) a c = some r := fun a c => by
  simp only [K8.f, Option.isNone_some, Bool.false_eq_true, if_false, Option.isSome_some, if_true]
  exact ⟨_, rfl⟩
 have hs : ∀ p, ∃ r, Qy.f (some t) p = some r := fun p => by
  obtain ⟨r1, e1⟩ := Zbh _ _ ht.maps p
  obtain ⟨r2, e2⟩ := Zbh _ _ ht.status p
  simp only [Qy.f, Option.isNone_some, Bool.false_eq_true, if_false, Option.isSome_some, if_true, Option.getD_some, e1, e2, Option.bind_some]
  exact Zfc ⟨_, rfl⟩ ⟨_, rfl⟩
 have hm : ∀ p, ∃ r, Qs.f (some t) p = some r := fun p => by
  obtain ⟨r1, e1⟩ := Zbh _ _ ht.mark p
  exact ⟨decide (r1 = 1), by simp only [Qs.f, Qs.j1, Option.isSome_some, if_true, Option.getD_some, e1, Option.bind_some]⟩
 have hj : ∀ p, ∃ r, J5.f (some t) p = some r := fun p => by
  obtain ⟨r1, e1⟩ := Zbh _ _ ht.join p
  exact ⟨r1, by simp only [J5.f, Option.isNone_some, Bool.false_eq_true, if_false, Option.isSome_some, if_true, Option.getD_some, e1, Option.bind_some]⟩
 have hs' := fun p => Zha 0 (hs p)
 exact ⟨key, pa, _, _, _, _, _, _, ⟨h1, fun a c => Zha (0, false) (Zhs hp a c), fun p => Zha false (hm p), fun p => Zok hs' p, fun p => Zha 0 (hj p)⟩, hs', fun p => rfl⟩
theorem Ztl : ∃ key pa n pr mk kp jn sta, Tq none key pa n pr mk kp jn ∧ Zo5 none sta kp := by
 have hs : ∀ p, Qy.f none p = some 0 := fun p => rfl
 exact ⟨_, _, _, pr0, fun _ => false, _, fun _ => 0, fun _ => 0, ⟨Zuf, Zjg, fun p => rfl, fun p => Zok hs p, fun p => rfl⟩, hs, fun p => rfl⟩
theorem Zrw (b : Bk) (hb : Few b) : ∃ t c key pa n pr mk kp jn sta, K5.f b = some (t, c, true) ∧ Tq t key pa n pr mk kp jn ∧ Zo5 t sta kp := by
 cases h : okB b with
 | true =>
  obtain ⟨t, h1, h2⟩ := Zle b hb h
  obtain ⟨key, pa, n, pr, mk, kp, jn, sta, h3, h4⟩ := Zt4 hb h h2
  exact ⟨_, _, key, pa, n, pr, mk, kp, jn, sta, h1, h3, h4⟩
 | false =>
  obtain ⟨key, pa, n, pr, mk, kp, jn, sta, h3, h4⟩ := Ztl
  exact ⟨_, _, key, pa, n, pr, mk, kp, jn, sta, Zm5 b hb h, h3, h4⟩
variable {t : Option Tbs} {key : Int → Int} {pa : Int → List Int} {n : Nat} {pr : Int → Int → Int × Bool} {mk kp : Int → Bool} {jn : Int → Int}
theorem Zgt : ∀ a b c d e f : Bool, (Zkn a b c d e f).headD 0 = 0 → a = true ∧ b = false ∧ c = false ∧ d = false ∧ e = false ∧ f = false := by decide
theorem Zlc : ∀ a b c d e f : Bool, Zkn a b c d e f = [] → a = true ∧ b = false ∧ c = false ∧ d = false ∧ e = false ∧ f = false := fun a b c d e f h => Zgt a b c d e f (by rw [h]; rfl)
theorem Zd1 (h : Tq t key pa n pr mk kp jn) (l : List Int) (hl : 54 * l.length ≤ Z9) : ∃ F, X3.f t l = some F ∧ (F.headD 0 = 0 → F = []) ∧ (F = [] → Zdi key pa n pr l = l ∧ Zef l = false ∧ (∀ x ∈ l, x ≠ 46) ∧ ∀ x ∈ l, kp x = true) := by
 obtain ⟨jo, h1, _⟩ := Zj5 h l hl
 refine ⟨_, h1, fun he => ?_, fun he => ?_⟩
 ·obtain ⟨h2, h3, h4, h5, h6, h7⟩ := Zgt _ _ _ _ _ _ he
  rw [h2, h3, h4, h5, h6, h7]; rfl
 ·obtain ⟨h2, h3, h4, h5, h6, h7⟩ := Zlc _ _ _ _ _ _ he
  refine ⟨of_decide_eq_true h2, h3, fun x hx e => ?_, fun x hx => ?_⟩
  ·have := List.any_eq_false.1 h4 x hx
   simp [e] at this
  ·have := List.any_eq_false.1 h6 x hx
   simpa using this
theorem Zxl (l : List Int) : sub l 4 (l.length : Int) = l.drop 4 := by simp [sub]
theorem Ziq {l : List Int} (h : Za1 l = true) (k : Nat) : Za1 (l.drop k) = true := by
 simp only [Za1, Bool.not_eq_true', List.any_eq_false] at h ⊢
 exact fun x hx => h x (List.mem_of_mem_drop hx)
theorem Zrl {l : List Int} (h : Zef l = true) : 4 ≤ (l.length : Int) := by
 obtain ⟨r, e⟩ := (Zq4 l).1 h
 rw [e]; simp; omega
theorem Zkp {l : List Int} (h : Za1 l = true) (hl : 2 * l.length ≤ Z9) : ∃ q a e, Hh.f (Za4 l) = some (q, a, e) ∧ Yi.f (Za4 l) = some (q, a, e) ∧ q.length ≤ l.length + 1 := by
 have hp := Zjn h
 obtain ⟨q, a, e, h1, h2, h3⟩ := Zvs (Za4 l) (by rw [Znp hp]; exact hl) (Zwe hp)
 rw [Znp hp] at h3
 refine ⟨q, a, e, ?_, h2, by omega⟩
 have hu : Zam.f = some pU := rfl
 rw [Hh.f, hu, Option.bind_some, h1]; rfl
theorem Zoe (h : Tq t key pa n pr mk kp jn) (l : List Int) (hl : 54 * l.length ≤ Z9) (hc : Zef l = false) : ∃ f, Vx.f t l = some ⟨l, false, f⟩ := by
 obtain ⟨F, h1, _⟩ := Zd1 h l hl
 exact ⟨F.headD 0, by rw [Vx.f, Zgb _ (by omega), Option.bind_some, Zcs, Option.bind_some, hc, if_pos (by decide), h1, Option.bind_some, Zi3]; rfl⟩
theorem Zr9 (l : List Int) (hl : l.length ≤ Z9) (hc : Zef l = true) (hp : Za1 l = true) {q : List Int} {a e : Int} (hd : Hh.f (Za4 (l.drop 4)) = some (q, a, e)) (hq : q.length ≤ Z9) {F : List Int} (hF : X3.f t q = some F) :
  Vx.f t l = some (if e ≠ 0 then ⟨l, true, 8⟩ else if Za1 q = true then ⟨q, true, 9⟩ else ⟨q, true, F.headD 0⟩) := by
 have e4 := Zxl l
 have e5 := Zrl hc
 rw [Vx.f, Zgb _ hl, Option.bind_some, Zcs, Option.bind_some, hc, if_neg (by decide), Zcm _ hl, Option.bind_some, hp, if_neg (by decide), if_pos ⟨by omega, e5, Int.le_refl _⟩, e4, Zmw (Ziq hp 4), hd, Option.bind_some]
 by_cases c : e ≠ 0
 ·rw [if_pos c, if_pos c]
 ·rw [if_neg c, if_neg c, Zcm _ hq, Option.bind_some]
  by_cases d : Za1 q = true
  ·rw [if_pos d, if_pos d]
  ·rw [if_neg d, if_neg d, hF, Option.bind_some, Zi3]; rfl
theorem Zn2 (h : Tq t key pa n pr mk kp jn) (l : List Int) (hl : 110 * l.length ≤ 1000000000) : ∃ r, Vx.f t l = some r := by
 have hb : l.length ≤ Z9 := by unfold Z9; omega
 cases hc : Zef l with
 | false =>
  obtain ⟨f, hf⟩ := Zoe h l (by unfold Z9; omega) hc
  exact ⟨_, hf⟩
 | true =>
  cases hp : Za1 l with
  | false =>
   exact ⟨⟨l, true, 7⟩, by rw [Vx.f, Zgb _ hb, Option.bind_some, Zcs, Option.bind_some, hc, if_neg (by decide), Zcm _ hb, Option.bind_some, hp, if_pos (by decide)]⟩
  | true =>
   obtain ⟨q, a, e, h1, _, h3⟩ := Zkp (Ziq hp 4) (by simp; unfold Z9; omega)
   have h4 : (l.drop 4).length = l.length - 4 := by simp
   obtain ⟨F, h2, _⟩ := Zd1 h q (by unfold Z9; omega)
   exact ⟨_, Zr9 l hb hc hp h1 (by unfold Z9; omega) h2⟩
end Go.Proofs.YthoicbafdanmkaaGreatDoor
/- Plain laws: LabelStays. Own work of this repo. -/
namespace Go.Proofs.YthoicbafdanmkaaGreatDoor
open Go.RowKit
variable {t : Option Tbs} {key : Int → Int} {pa : Int → List Int} {n : Nat} {pr : Int → Int → Int × Bool} {mk kp : Int → Bool} {jn : Int → Int}
theorem Zrk {sta : Int → Int} (hs : Zo5 t sta kp) (l : List Int) (hl : l.length ≤ 1073741824) (hk : ∀ x ∈ l, kp x = true) : Zal.f t l = some l := by
 have hb : l.length ≤ Z9 := hl
 rw [Zal.f, Yk.f]
 have key := (fun key => key rfl) (Qb (σ := List Int) (fun k i s => Yk.l2 k t l s i) l (fun pre r s o => s = pre → o = some l) ?_ ?_ [] K0 (ltK hb))
 ·rw [key]; rfl
 ·intro s k e
  simp only [Yk.l2, if_neg (show ¬ (l.length : Int) < (l.length : Int) by omega), e]
 ·intro pre x r s k e ih es
  obtain ⟨m1, m2⟩ := mid e
  have hle : l.length = pre.length + (r.length + 1) := by rw [e]; simp
  have hx := hk x (by rw [e]; simp)
  rw [hs.2] at hx
  have hx := of_decide_eq_true hx
  simp only [Yk.l2, if_pos m2.2, if_pos m2, m1, hs.1, Option.bind_some, if_neg (show ¬ sta x = 2 by omega), if_neg (show ¬ sta x = 4 by omega), Vs.f]
  rw [if_pos (by rw [es]; unfold most; simp; omega), Option.bind_some, Yk.j1, nxt hb e, es]
  exact ih _ rfl
theorem Znh (b : Bk) (hb : Few b) (l other : List Int) (hl : l.length ≤ 2097152) (ho : other.length ≤ 2097152) : Z3.f b l other = some true := by
 obtain ⟨t, c, key, pa, n, pr, mk, kp, jn, sta, h1, hq, hs⟩ := Zrw b hb
 have hlb : l.length ≤ Z9 := by unfold Z9; omega
 obtain ⟨F, hF, _, hN⟩ := Zd1 hq l (by unfold Z9; omega)
 obtain ⟨r, hr⟩ := Zn2 hq other (by omega)
 have hv := Zm3 hF
 have hd : (F.length : Int) = 0 ↔ F = [] := by cases F <;> simp; omega
 rw [Z3.f, h1, Option.bind_some, Ztj, Option.bind_some, if_neg (by decide), Z3.j4, if_neg (by simp)]
 simp only [hv, hF, hr, Option.bind_some]
 rw [if_neg (by simp), if_neg (by simp)]
 have e1 : (decide (F = []) != decide ((F.length : Int) = 0)) = false := by
  by_cases c : F = []
  ·simp [c]
  ·rw [decide_eq_false c, decide_eq_false (fun h => c (hd.1 h))]; rfl
 rw [e1, Z3.j3, if_neg (by decide)]
 by_cases c : F = []
 ·obtain ⟨n1, n2, n3, n4⟩ := hN c
  rw [decide_eq_true c, if_neg (by decide)]
  refine Qb (fun k i (_ : Unit) => Z3.l1 k l _ i) l (fun _ _ _ o => o = some true) ?_ ?_ () K0 (ltK hlb)
  ·intro _ k
   simp only [Z3.l1, if_neg (show ¬ (l.length : Int) < (l.length : Int) by omega), Zve hq l (by unfold Z9; omega), n1, Option.bind_some, decide_true, if_true, Zrk hs l (by omega) n4, Zm2 l l hlb, Zcs, n2]
   rfl
  ·intro pre x r _ k e ih
   obtain ⟨m1, m2⟩ := mid e
   have hx := n4 x (by rw [e]; simp)
   have hx2 := n3 x (by rw [e]; simp)
   simp only [Z3.l1, if_pos m2.2, if_pos m2, m1, hq.kept, hx, Option.bind_some, Z3.j1, nxt hlb e]
   rw [if_neg (by decide), decide_eq_false hx2, if_neg (by decide)]
   exact ih ()
 ·rw [decide_eq_false c, if_pos (by decide)]
end Go.Proofs.YthoicbafdanmkaaGreatDoor
/- Arguments: what is read as data is what the representations say, and the data's bulk bounds the sizes. Own work of this repo. -/
namespace Go.Proofs.YthoicbafdanmkaaGreatDoor
open Go.RowKit

section
variable {H : Type} {enc : TypeId × Value → H} {P : Program} {W : World}
def Uc {α : Type} (enc : TypeId × Value → H) (P : Program) (W : World) (t : TypeId) (r : Rep α) (sz : α → Nat) (wf : α → Prop) : Prop :=
 ∀ fuel cs d ps, DataW.trod enc P W 0 (fun _ => true) true fuel t cs = some (d, ps) → ∃ x, r.R (seen W) cs x ∧ sz x ≤ Rows.uptoBulk d ∧ wf x
theorem Zv9 {k : IntKind} {n : Int} (h : (Lit.int k n).wf = true) : InK k n := by
 simp only [Lit.wf, Bool.and_eq_true, decide_eq_true_eq] at h
 cases k <;> simp only [InK] <;> simp [IntKind.min, IntKind.max, IntKind.signed, IntKind.bits] at h <;> omega
theorem Uc.int {t : TypeId} {k : IntKind} (hu : P.underlying t = some (.int k)) : Uc enc P W t (Rep.int k) (fun _ => 1) (InK k) := by
 intro fuel cs d ps h
 obtain ⟨n, rfl, he, hw⟩ := DataW.trod_int hu h
 simp only [Prod.mk.injEq] at he
 obtain ⟨rfl, rfl⟩ := he
 exact ⟨n, rfl, by simp [Rows.uptoBulk], Zv9 hw⟩
theorem Uc.str {t : TypeId} (hu : P.underlying t = some .string) : Uc enc P W t Rep.str (fun s => s.size + 1) (fun _ => True) := by
 intro fuel cs d ps h
 obtain ⟨s, rfl, he, hw⟩ := DataW.trod_string hu h
 simp only [Prod.mk.injEq] at he
 obtain ⟨rfl, rfl⟩ := he
 exact ⟨s, rfl, by simp [Rows.uptoBulk], trivial⟩
theorem Zf2 {α β : Type} {f : α → Option β} : ∀ {l : List α} {ys : List β}, l.mapM f = some ys → ys.length = l.length ∧ ∀ (i : Nat) (x : α), l[i]? = some x → f x = ys[i]?
 | [], ys, h => by simp at h; subst h; exact ⟨rfl, fun i x hx => by simp at hx⟩
 | a :: l, ys, h => by
  rw [List.mapM_cons] at h
  simp only [bind, Option.bind_eq_some_iff, pure, Option.some.injEq] at h
  obtain ⟨y, hy, ys', hys, rfl⟩ := h
  obtain ⟨h1, h2⟩ := Zf2 hys
  refine ⟨by simp [h1], fun i x hx => ?_⟩
  cases i with
  | zero => simp at hx; subst hx; simpa using hy
  | succ i => simpa using h2 i x (by simpa using hx)
theorem Zmk {w : World} {a : Addr} {n : Nat} {cs : List Value} (h : w.cells? 0 a n = some cs) : cs.length = n ∧ ∀ j u, cs[j]? = some u → w.cell? (a.add j) = some u := by
 unfold World.cells? at h
 simp only [Nat.zero_le, if_true] at h
 obtain ⟨h1, h2⟩ := Zf2 h
 refine ⟨by simpa using h1, fun j u hu => ?_⟩
 have hj : j < n := by have := (List.getElem?_eq_some_iff.1 hu).1; simp at h1; omega
 rw [h2 j j (by simp [hj]), hu]
theorem Zj6 {w : World} {a : Addr} {v : Value} (h : w.cell? a = some v) : a.spot = none := by
 unfold World.cell? at h
 split at h
 ·split at h
  ·cases h
  ·rename_i hs
   cases hsp : a.spot with
   | none => rfl
   | some x => rw [hsp] at hs; simp at hs
 ·cases h
def szL {α : Type} (sz : α → Nat) : List α → Nat
 | [] => 1
 | x :: t => sz x + szL sz t
theorem H0 {α : Type} {sz : α → Nat} (h1 : ∀ x, 1 ≤ sz x) : ∀ xs : List α, xs.length < szL sz xs
 | [] => by simp [szL]
 | x :: t => by have := H0 h1 t; have := h1 x; simp [szL]; omega
theorem Zop {α : Type} {sz : α → Nat} {x : α} : ∀ {xs : List α}, x ∈ xs → sz x < szL sz xs
 | y :: t, h => by
  rcases List.mem_cons.1 h with rfl | h
  ·have : ∀ l : List α, 1 ≤ szL sz l := fun l => by induction l with
    | nil => simp [szL]
    | cons a l ih => simp [szL]; omega
   have := this t
   simp [szL]; omega
  ·have := Zop (sz := sz) h
   simp [szL]; omega
theorem Uc.slice {α : Type} {t e sz' bytes : Nat} {r : Rep α} {sz : α → Nat} {wf : α → Prop} (he : Vn P t e sz' bytes) (hr : r.sz = sz') (h : Uc enc P W e r sz wf) : Uc enc P W t (Rep.slice r) (szL sz) (fun xs => ∀ x ∈ xs, wf x) := by
 intro fuel cs d ps h1
 obtain ⟨inf, z, hi, _, hsz, _, _⟩ := he.info
 have hc : P.cellsOf e = r.sz := by simp [Program.cellsOf, hi, hsz, hr]
 have hpos : 0 < r.sz := hr ▸ he.pos
 rcases DataW.trod_slice he.under h1 with ⟨rfl, hx⟩ | ⟨a, len, cap, elems, rest, n, _, rfl, hx, _, hl, hm, hlen, hel, _, _⟩
 ·simp only [Prod.mk.injEq] at hx
  obtain ⟨rfl, rfl⟩ := hx
  exact ⟨[], ⟨_, rfl, .inl ⟨rfl, none, 0, rfl⟩⟩, by simp [szL, Rows.uptoBulk], fun x hx => by cases hx⟩
 ·simp only [Prod.mk.injEq] at hx
  obtain ⟨rfl, _⟩ := hx
  rw [hc] at hel
  have key : ∀ (es : List (DataW H × List MemPlace)) (k : Nat), k + es.length = len → (∀ i y, es[i]? = some y → elems[k + i]? = some y) →
    ∃ xs : List α, xs.length = es.length ∧ szL sz xs ≤ Rows.uptoBulkAll (es.map (·.1)) + 1 ∧ (∀ x ∈ xs, wf x) ∧ ∀ i x, xs[i]? = some x → a.spot = none ∧ ∃ c, r.R (seen W) c x ∧ ∀ j u, c[j]? = some u → W.cell? ⟨a.block, a.off + (k + i) * r.sz + j, none⟩ = some u := by
   intro es
   induction es with
   | nil => intro k _ _; exact ⟨[], rfl, by simp [szL, Rows.uptoBulkAll], fun x hx => (by cases hx), fun i x hx => (by simp at hx)⟩
   | cons y es ih =>
    intro k hk hes
    have hy := hes 0 y rfl
    have h2 := hel k (by simp at hk; omega)
    rw [Nat.add_zero] at hy
    rw [hy] at h2
    obtain ⟨c, hc1, hc2⟩ := Option.bind_eq_some_iff.1 h2
    obtain ⟨hc3, hc4⟩ := Zmk hc1
    obtain ⟨x, hx1, hx2, hx3⟩ := h n c y.1 y.2 hc2
    obtain ⟨xs, e1, e2, e3, e4⟩ := ih (k + 1) (by simp at hk; omega) (fun i z hz => by
     have := hes (i + 1) z (by simpa using hz)
     rwa [show k + 1 + i = k + (i + 1) by omega])
    have hlc : c.length = r.sz := r.len hx1
    have hsp : a.spot = none := by
     have h5 := hc4 0 c[0] (List.getElem?_eq_getElem (by omega))
     simp only [Addr.add, if_true] at h5
     have h6 := Zj6 h5
     by_cases hk0 : k * r.sz = 0
     ·simpa [hk0] using h6
     ·have h7 := hel 0 (by simp at hk; omega)
      have h8 : elems[0]? ≠ none := by
       rw [ne_eq, List.getElem?_eq_none_iff]; simp at hk; omega
      obtain ⟨z0, hz0⟩ := Option.ne_none_iff_exists'.1 h8
      rw [hz0] at h7
      obtain ⟨c0, hd1, hd2⟩ := Option.bind_eq_some_iff.1 h7
      obtain ⟨hd3, hd4⟩ := Zmk hd1
      have := hd4 0 c0[0] (List.getElem?_eq_getElem (by omega))
      simp only [Nat.zero_mul, Addr.add, if_true] at this
      exact Zj6 this
    have hadd : ∀ m j, (a.add m).add j = ⟨a.block, a.off + m + j, none⟩ := by
     intro m j
     cases a with
     | mk ab ao asp =>
      simp only at hsp
      subst hsp
      rw [Addr.add_lit, Addr.add_lit]
    refine ⟨x :: xs, by simp [e1], ?_, ?_, ?_⟩
    ·simp only [szL, List.map_cons, Rows.uptoBulkAll]; omega
    ·intro z hz
     rcases List.mem_cons.1 hz with rfl | hz
     ·exact hx3
     ·exact e3 z hz
    ·intro i z hz
     cases i with
     | zero =>
      simp at hz; subst hz
      refine ⟨hsp, c, hx1, fun j u hu => ?_⟩
      have := hc4 j u hu
      rw [hadd] at this
      exact this
     | succ i =>
      obtain ⟨_, c', f1, f2⟩ := e4 i z (by simpa using hz)
      refine ⟨hsp, c', f1, fun j u hu => ?_⟩
      have := f2 j u hu
      rwa [show k + 1 + i = k + (i + 1) by omega] at this
  obtain ⟨xs, e1, e2, e3, e4⟩ := key elems 0 (by omega) (fun i y hy => by rwa [Nat.zero_add])
  refine ⟨xs, ⟨_, rfl, ?_⟩, by simp only [Rows.uptoBulk]; omega, e3⟩
  cases hxs : xs with
  | nil =>
   subst hxs
   have h0 : len = 0 := by simp at e1; omega
   subst h0
   exact .inl ⟨rfl, _, _, rfl⟩
  | cons x0 xs0 =>
   rw [← hxs]
   have hsp := (e4 0 x0 (by rw [hxs]; rfl)).1
   refine .inr ⟨a.block, a.off, cap, ?_, by omega, fun i x hx => ?_⟩
   ·rw [e1, hlen]
    cases a with
    | mk ab ao asp => simp only at hsp; subst hsp; rfl
   ·obtain ⟨_, c, f1, f2⟩ := e4 i x hx
    exact ⟨c, f1, fun j u hu => by have := f2 j u hu; rw [Nat.zero_add] at this; exact this⟩
end
end Go.Proofs.YthoicbafdanmkaaGreatDoor
/- What is read of arguments. Written by reads.py. -/
namespace Go.Proofs.YthoicbafdanmkaaGreatDoor
open Go.RowKit
theorem Zov {α : Type} (l : List α) (h : l.length = 2) : ∃ a0 a1, l = [a0, a1] := by
 match l, h with
 | [a0, a1], _ => exact ⟨a0, a1, rfl⟩
theorem Zhg {α : Type} (l : List α) (h : l.length = 3) : ∃ a0 a1 a2, l = [a0, a1, a2] := by
 match l, h with
 | [a0, a1, a2], _ => exact ⟨a0, a1, a2, rfl⟩
theorem Zmr {α : Type} (l : List α) (h : l.length = 11) : ∃ a0 a1 a2 a3 a4 a5 a6 a7 a8 a9 a10, l = [a0, a1, a2, a3, a4, a5, a6, a7, a8, a9, a10] := by
 match l, h with
 | [a0, a1, a2, a3, a4, a5, a6, a7, a8, a9, a10], _ => exact ⟨a0, a1, a2, a3, a4, a5, a6, a7, a8, a9, a10, rfl⟩
def Zfg (x : Val) : Nat := 1 + (fun _ => 1) x.lo + (fun _ => 1) x.hi + (fun _ => 1) x.n
def Zjw (x : Val) : Prop := (InK .i32) x.lo ∧ (InK .i32) x.hi ∧ (InK .i64) x.n
theorem Zd3 {H : Type} {enc : TypeId × Value → H} {W : World} : Uc enc Tryz.prog W 67 X9 Zfg Zjw := by
 intro fuel cs d ps h
 obtain ⟨xs, n, _, hx, hl, hn, hf⟩ := DataW.trod_struct Tryz.underlying67 h
 have hl : cs.length = 3 := hl.trans (by kernel_rfl)
 have hn : xs.length = 3 := hn
 obtain ⟨y0, y1, y2, rfl⟩ := Zhg xs hn
 obtain ⟨c0, c1, c2, rfl⟩ := Zhg cs hl
 simp only [Prod.mk.injEq] at hx
 obtain ⟨rfl, _⟩ := hx
 have g0 : DataW.trod enc Tryz.prog W 0 (fun _ => true) true n 21 ((([c0, c1, c2] : List Value).drop 0).take (Tryz.prog.cellsOf 21)) = some y0 := hf 0 _ rfl
 rw [show Tryz.prog.cellsOf 21 = 1 by kernel_rfl] at g0
 obtain ⟨x0, r0, s0, w0⟩ := (Uc.int Tryz.underlying21) n [c0] _ _ g0
 have g1 : DataW.trod enc Tryz.prog W 0 (fun _ => true) true n 21 ((([c0, c1, c2] : List Value).drop 1).take (Tryz.prog.cellsOf 21)) = some y1 := hf 1 _ rfl
 rw [show Tryz.prog.cellsOf 21 = 1 by kernel_rfl] at g1
 obtain ⟨x1, r1, s1, w1⟩ := (Uc.int Tryz.underlying21) n [c1] _ _ g1
 have g2 : DataW.trod enc Tryz.prog W 0 (fun _ => true) true n 3 ((([c0, c1, c2] : List Value).drop 2).take (Tryz.prog.cellsOf 3)) = some y2 := hf 2 _ rfl
 rw [show Tryz.prog.cellsOf 3 = 1 by kernel_rfl] at g2
 obtain ⟨x2, r2, s2, w2⟩ := (Uc.int Tryz.underlying3) n [c2] _ _ g2
 obtain rfl : c0 = .int .i32 x0 := by simpa using (show [c0] = [.int .i32 x0] from r0)
 obtain rfl : c1 = .int .i32 x1 := by simpa using (show [c1] = [.int .i32 x1] from r1)
 obtain rfl : c2 = .int .i64 x2 := by simpa using (show [c2] = [.int .i64 x2] from r2)
 refine ⟨⟨x0, x1, x2⟩, rfl, ?_, ⟨w0, w1, w2⟩⟩
 try dsimp only at s0
 try dsimp only at s1
 try dsimp only at s2
 simp only [Zfg, List.map_cons, List.map_nil, Rows.uptoBulk, Rows.uptoBulkAll]; omega
def Zbw (x : Chs) : Nat := 1 + (fun _ => 1) x.lo + (fun _ => 1) x.hi + (szL (fun _ => 1)) x.is_
def Zk3 (x : Chs) : Prop := (InK .i32) x.lo ∧ (InK .i32) x.hi ∧ (fun xs : List Int => ∀ x ∈ xs, (InK .i32) x) x.is_
theorem Zf8 {H : Type} {enc : TypeId × Value → H} {W : World} : Uc enc Tryz.prog W 110 Ks Zbw Zk3 := by
 intro fuel cs d ps h
 obtain ⟨xs, n, _, hx, hl, hn, hf⟩ := DataW.trod_struct Tryz.underlying110 h
 have hl : cs.length = 3 := hl.trans (by kernel_rfl)
 have hn : xs.length = 3 := hn
 obtain ⟨y0, y1, y2, rfl⟩ := Zhg xs hn
 obtain ⟨c0, c1, c2, rfl⟩ := Zhg cs hl
 simp only [Prod.mk.injEq] at hx
 obtain ⟨rfl, _⟩ := hx
 have g0 : DataW.trod enc Tryz.prog W 0 (fun _ => true) true n 21 ((([c0, c1, c2] : List Value).drop 0).take (Tryz.prog.cellsOf 21)) = some y0 := hf 0 _ rfl
 rw [show Tryz.prog.cellsOf 21 = 1 by kernel_rfl] at g0
 obtain ⟨x0, r0, s0, w0⟩ := (Uc.int Tryz.underlying21) n [c0] _ _ g0
 have g1 : DataW.trod enc Tryz.prog W 0 (fun _ => true) true n 21 ((([c0, c1, c2] : List Value).drop 1).take (Tryz.prog.cellsOf 21)) = some y1 := hf 1 _ rfl
 rw [show Tryz.prog.cellsOf 21 = 1 by kernel_rfl] at g1
 obtain ⟨x1, r1, s1, w1⟩ := (Uc.int Tryz.underlying21) n [c1] _ _ g1
 have g2 : DataW.trod enc Tryz.prog W 0 (fun _ => true) true n 28 ((([c0, c1, c2] : List Value).drop 2).take (Tryz.prog.cellsOf 28)) = some y2 := hf 2 _ rfl
 rw [show Tryz.prog.cellsOf 28 = 1 by kernel_rfl] at g2
 obtain ⟨x2, r2, s2, w2⟩ := (Uc.slice Q7 rfl (Uc.int Tryz.underlying21)) n [c2] _ _ g2
 obtain rfl : c0 = .int .i32 x0 := by simpa using (show [c0] = [.int .i32 x0] from r0)
 obtain rfl : c1 = .int .i32 x1 := by simpa using (show [c1] = [.int .i32 x1] from r1)
 obtain ⟨v2, e2, f2⟩ := r2
 obtain rfl : c2 = v2 := by simpa using e2
 refine ⟨⟨x0, x1, x2⟩, ⟨_, rfl, f2⟩, ?_, ⟨w0, w1, w2⟩⟩
 try dsimp only at s0
 try dsimp only at s1
 try dsimp only at s2
 simp only [Zbw, List.map_cons, List.map_nil, Rows.uptoBulk, Rows.uptoBulkAll]; omega
def Zgn (x : Spn) : Nat := 1 + (fun _ => 1) x.lo + (fun _ => 1) x.hi
def Zn8 (x : Spn) : Prop := (InK .i32) x.lo ∧ (InK .i32) x.hi
theorem Zkd {H : Type} {enc : TypeId × Value → H} {W : World} : Uc enc Tryz.prog W 129 Kd Zgn Zn8 := by
 intro fuel cs d ps h
 obtain ⟨xs, n, _, hx, hl, hn, hf⟩ := DataW.trod_struct Tryz.underlying129 h
 have hl : cs.length = 2 := hl.trans (by kernel_rfl)
 have hn : xs.length = 2 := hn
 obtain ⟨y0, y1, rfl⟩ := Zov xs hn
 obtain ⟨c0, c1, rfl⟩ := Zov cs hl
 simp only [Prod.mk.injEq] at hx
 obtain ⟨rfl, _⟩ := hx
 have g0 : DataW.trod enc Tryz.prog W 0 (fun _ => true) true n 21 ((([c0, c1] : List Value).drop 0).take (Tryz.prog.cellsOf 21)) = some y0 := hf 0 _ rfl
 rw [show Tryz.prog.cellsOf 21 = 1 by kernel_rfl] at g0
 obtain ⟨x0, r0, s0, w0⟩ := (Uc.int Tryz.underlying21) n [c0] _ _ g0
 have g1 : DataW.trod enc Tryz.prog W 0 (fun _ => true) true n 21 ((([c0, c1] : List Value).drop 1).take (Tryz.prog.cellsOf 21)) = some y1 := hf 1 _ rfl
 rw [show Tryz.prog.cellsOf 21 = 1 by kernel_rfl] at g1
 obtain ⟨x1, r1, s1, w1⟩ := (Uc.int Tryz.underlying21) n [c1] _ _ g1
 obtain rfl : c0 = .int .i32 x0 := by simpa using (show [c0] = [.int .i32 x0] from r0)
 obtain rfl : c1 = .int .i32 x1 := by simpa using (show [c1] = [.int .i32 x1] from r1)
 refine ⟨⟨x0, x1⟩, rfl, ?_, ⟨w0, w1⟩⟩
 try dsimp only at s0
 try dsimp only at s1
 simp only [Zgn, List.map_cons, List.map_nil, Rows.uptoBulk, Rows.uptoBulkAll]; omega
def Zm8 (x : Bk) : Nat := 1 + (szL (fun s : ByteArray => s.size + 1)) x.names + (szL Zfg) x.status + (szL Zbw) x.maps + (szL Zfg) x.class_ + (szL Zbw) x.decomp + (szL Zgn) x.excl + (szL Zfg) x.bidi + (szL Zfg) x.join + (szL Zgn) x.marks + (szL Zfg) x.script + (szL Zbw) x.like
def Zwh (x : Bk) : Prop := (fun xs : List ByteArray => ∀ x ∈ xs, (fun _ => True) x) x.names ∧ (fun xs : List Val => ∀ x ∈ xs, Zjw x) x.status ∧ (fun xs : List Chs => ∀ x ∈ xs, Zk3 x) x.maps ∧ (fun xs : List Val => ∀ x ∈ xs, Zjw x) x.class_ ∧ (fun xs : List Chs => ∀ x ∈ xs, Zk3 x) x.decomp ∧ (fun xs : List Spn => ∀ x ∈ xs, Zn8 x) x.excl ∧ (fun xs : List Val => ∀ x ∈ xs, Zjw x) x.bidi ∧ (fun xs : List Val => ∀ x ∈ xs, Zjw x) x.join ∧ (fun xs : List Spn => ∀ x ∈ xs, Zn8 x) x.marks ∧ (fun xs : List Val => ∀ x ∈ xs, Zjw x) x.script ∧ (fun xs : List Chs => ∀ x ∈ xs, Zk3 x) x.like
theorem Zs7 {H : Type} {enc : TypeId × Value → H} {W : World} : Uc enc Tryz.prog W 27 rBk Zm8 Zwh := by
 intro fuel cs d ps h
 obtain ⟨xs, n, _, hx, hl, hn, hf⟩ := DataW.trod_struct Tryz.underlying27 h
 have hl : cs.length = 11 := hl.trans (by kernel_rfl)
 have hn : xs.length = 11 := hn
 obtain ⟨y0, y1, y2, y3, y4, y5, y6, y7, y8, y9, y10, rfl⟩ := Zmr xs hn
 obtain ⟨c0, c1, c2, c3, c4, c5, c6, c7, c8, c9, c10, rfl⟩ := Zmr cs hl
 simp only [Prod.mk.injEq] at hx
 obtain ⟨rfl, _⟩ := hx
 have g0 : DataW.trod enc Tryz.prog W 0 (fun _ => true) true n 22 ((([c0, c1, c2, c3, c4, c5, c6, c7, c8, c9, c10] : List Value).drop 0).take (Tryz.prog.cellsOf 22)) = some y0 := hf 0 _ rfl
 rw [show Tryz.prog.cellsOf 22 = 1 by kernel_rfl] at g0
 obtain ⟨x0, r0, s0, w0⟩ := (Uc.slice Zf7 rfl (Uc.str Tryz.underlying9)) n [c0] _ _ g0
 have g1 : DataW.trod enc Tryz.prog W 0 (fun _ => true) true n 23 ((([c0, c1, c2, c3, c4, c5, c6, c7, c8, c9, c10] : List Value).drop 1).take (Tryz.prog.cellsOf 23)) = some y1 := hf 1 _ rfl
 rw [show Tryz.prog.cellsOf 23 = 1 by kernel_rfl] at g1
 obtain ⟨x1, r1, s1, w1⟩ := (Uc.slice Zcg rfl Zd3) n [c1] _ _ g1
 have g2 : DataW.trod enc Tryz.prog W 0 (fun _ => true) true n 24 ((([c0, c1, c2, c3, c4, c5, c6, c7, c8, c9, c10] : List Value).drop 2).take (Tryz.prog.cellsOf 24)) = some y2 := hf 2 _ rfl
 rw [show Tryz.prog.cellsOf 24 = 1 by kernel_rfl] at g2
 obtain ⟨x2, r2, s2, w2⟩ := (Uc.slice Zdo rfl Zf8) n [c2] _ _ g2
 have g3 : DataW.trod enc Tryz.prog W 0 (fun _ => true) true n 23 ((([c0, c1, c2, c3, c4, c5, c6, c7, c8, c9, c10] : List Value).drop 3).take (Tryz.prog.cellsOf 23)) = some y3 := hf 3 _ rfl
 rw [show Tryz.prog.cellsOf 23 = 1 by kernel_rfl] at g3
 obtain ⟨x3, r3, s3, w3⟩ := (Uc.slice Zcg rfl Zd3) n [c3] _ _ g3
 have g4 : DataW.trod enc Tryz.prog W 0 (fun _ => true) true n 24 ((([c0, c1, c2, c3, c4, c5, c6, c7, c8, c9, c10] : List Value).drop 4).take (Tryz.prog.cellsOf 24)) = some y4 := hf 4 _ rfl
 rw [show Tryz.prog.cellsOf 24 = 1 by kernel_rfl] at g4
 obtain ⟨x4, r4, s4, w4⟩ := (Uc.slice Zdo rfl Zf8) n [c4] _ _ g4
 have g5 : DataW.trod enc Tryz.prog W 0 (fun _ => true) true n 25 ((([c0, c1, c2, c3, c4, c5, c6, c7, c8, c9, c10] : List Value).drop 5).take (Tryz.prog.cellsOf 25)) = some y5 := hf 5 _ rfl
 rw [show Tryz.prog.cellsOf 25 = 1 by kernel_rfl] at g5
 obtain ⟨x5, r5, s5, w5⟩ := (Uc.slice Zi5 rfl Zkd) n [c5] _ _ g5
 have g6 : DataW.trod enc Tryz.prog W 0 (fun _ => true) true n 23 ((([c0, c1, c2, c3, c4, c5, c6, c7, c8, c9, c10] : List Value).drop 6).take (Tryz.prog.cellsOf 23)) = some y6 := hf 6 _ rfl
 rw [show Tryz.prog.cellsOf 23 = 1 by kernel_rfl] at g6
 obtain ⟨x6, r6, s6, w6⟩ := (Uc.slice Zcg rfl Zd3) n [c6] _ _ g6
 have g7 : DataW.trod enc Tryz.prog W 0 (fun _ => true) true n 23 ((([c0, c1, c2, c3, c4, c5, c6, c7, c8, c9, c10] : List Value).drop 7).take (Tryz.prog.cellsOf 23)) = some y7 := hf 7 _ rfl
 rw [show Tryz.prog.cellsOf 23 = 1 by kernel_rfl] at g7
 obtain ⟨x7, r7, s7, w7⟩ := (Uc.slice Zcg rfl Zd3) n [c7] _ _ g7
 have g8 : DataW.trod enc Tryz.prog W 0 (fun _ => true) true n 25 ((([c0, c1, c2, c3, c4, c5, c6, c7, c8, c9, c10] : List Value).drop 8).take (Tryz.prog.cellsOf 25)) = some y8 := hf 8 _ rfl
 rw [show Tryz.prog.cellsOf 25 = 1 by kernel_rfl] at g8
 obtain ⟨x8, r8, s8, w8⟩ := (Uc.slice Zi5 rfl Zkd) n [c8] _ _ g8
 have g9 : DataW.trod enc Tryz.prog W 0 (fun _ => true) true n 23 ((([c0, c1, c2, c3, c4, c5, c6, c7, c8, c9, c10] : List Value).drop 9).take (Tryz.prog.cellsOf 23)) = some y9 := hf 9 _ rfl
 rw [show Tryz.prog.cellsOf 23 = 1 by kernel_rfl] at g9
 obtain ⟨x9, r9, s9, w9⟩ := (Uc.slice Zcg rfl Zd3) n [c9] _ _ g9
 have g10 : DataW.trod enc Tryz.prog W 0 (fun _ => true) true n 24 ((([c0, c1, c2, c3, c4, c5, c6, c7, c8, c9, c10] : List Value).drop 10).take (Tryz.prog.cellsOf 24)) = some y10 := hf 10 _ rfl
 rw [show Tryz.prog.cellsOf 24 = 1 by kernel_rfl] at g10
 obtain ⟨x10, r10, s10, w10⟩ := (Uc.slice Zdo rfl Zf8) n [c10] _ _ g10
 obtain ⟨v0, e0, f0⟩ := r0
 obtain rfl : c0 = v0 := by simpa using e0
 obtain ⟨v1, e1, f1⟩ := r1
 obtain rfl : c1 = v1 := by simpa using e1
 obtain ⟨v2, e2, f2⟩ := r2
 obtain rfl : c2 = v2 := by simpa using e2
 obtain ⟨v3, e3, f3⟩ := r3
 obtain rfl : c3 = v3 := by simpa using e3
 obtain ⟨v4, e4, f4⟩ := r4
 obtain rfl : c4 = v4 := by simpa using e4
 obtain ⟨v5, e5, f5⟩ := r5
 obtain rfl : c5 = v5 := by simpa using e5
 obtain ⟨v6, e6, f6⟩ := r6
 obtain rfl : c6 = v6 := by simpa using e6
 obtain ⟨v7, e7, f7⟩ := r7
 obtain rfl : c7 = v7 := by simpa using e7
 obtain ⟨v8, e8, f8⟩ := r8
 obtain rfl : c8 = v8 := by simpa using e8
 obtain ⟨v9, e9, f9⟩ := r9
 obtain rfl : c9 = v9 := by simpa using e9
 obtain ⟨v10, e10, f10⟩ := r10
 obtain rfl : c10 = v10 := by simpa using e10
 refine ⟨⟨x0, x1, x2, x3, x4, x5, x6, x7, x8, x9, x10⟩, ⟨_, _, _, _, _, _, _, _, _, _, _, rfl, f0, f1, f2, f3, f4, f5, f6, f7, f8, f9, f10⟩, ?_, ⟨w0, w1, w2, w3, w4, w5, w6, w7, w8, w9, w10⟩⟩
 try dsimp only at s0
 try dsimp only at s1
 try dsimp only at s2
 try dsimp only at s3
 try dsimp only at s4
 try dsimp only at s5
 try dsimp only at s6
 try dsimp only at s7
 try dsimp only at s8
 try dsimp only at s9
 try dsimp only at s10
 simp only [Zm8, List.map_cons, List.map_nil, Rows.uptoBulk, Rows.uptoBulkAll]; omega
end Go.Proofs.YthoicbafdanmkaaGreatDoor
/- A book of small bulk has few rows. Own work of this repo. -/
namespace Go.Proofs.YthoicbafdanmkaaGreatDoor
theorem Zqf {b : Bk} (h : Zm8 b ≤ 1048577) : Few b := by
 unfold Zm8 at h
 have v1 : ∀ x, 1 ≤ Zfg x := fun x => by unfold Zfg; omega
 have c1 : ∀ x, 1 ≤ Zbw x := fun x => by unfold Zbw; omega
 have p1 : ∀ x, 1 ≤ Zgn x := fun x => by unfold Zgn; omega
 have a0 := H0 (sz := fun s : ByteArray => s.size + 1) (fun x => by omega) b.names
 have a1 := H0 v1 b.status
 have a2 := H0 c1 b.maps
 have a3 := H0 v1 b.class_
 have a4 := H0 c1 b.decomp
 have a5 := H0 p1 b.excl
 have a6 := H0 v1 b.bidi
 have a7 := H0 v1 b.join
 have a8 := H0 p1 b.marks
 have a9 := H0 v1 b.script
 have a10 := H0 c1 b.like
 have inn : ∀ (l : List Chs), szL Zbw l ≤ 1048577 → ∀ x ∈ l, x.is_.length ≤ Z9 := by
  intro l hl x hx
  have h1 := Zop (sz := Zbw) hx
  have h2 := H0 (sz := fun _ : Int => 1) (fun _ => Nat.le_refl 1) x.is_
  have h3 : szL (fun _ : Int => 1) x.is_ ≤ Zbw x := by unfold Zbw; omega
  unfold Z9
  omega
 constructor
 all_goals first | (unfold Z9; omega) | exact inn _ (by omega)
end Go.Proofs.YthoicbafdanmkaaGreatDoor
/- A row with a condition whose program's laid variables are told as well. Own work of this repo. -/
namespace Go.Proofs.YthoicbafdanmkaaGreatDoor
open Go Go.ChangeShapes
section
variable {H : Type} {enc : TypeId × Value → H}
theorem Zi7 {a : Assume} {C : Checked} {os : Os} {f : FuncId} {fn : Func} {s : OpenSpec} {k : (H : Type) → List (DataW H) → Bool} (hk : s.cond = some k) {F : Stop.Interp} {conds : List PathCond} {apart fresh handsOn again : Bool} {l : List (String × DataW Unit)}
  (own : ownKnob C.prog.godebug = none) (started : os.Started) (noInit : C.prog.inits.idxOf? f = none) (hfn : C.prog.funcs[f]? = some fn)
  (witness : ∃ (w : World) (tape : Tape) (i : Input), w.os = os ∧ (w.forCall tape i).Shaped C.prog ∧ i.vars = [] ∧ Input.okWide C.prog (w.forCall tape i) .any w.heap.size f i ∧
   ((s.pre enc C.prog fn conds apart (w.forCall tape i).memory i.args ∧ laidMetH C.prog l (w.forCall tape i).memory) ∧ sizedMet enc C.prog fn s apart (w.forCall tape i).memory i.args) ∧ a.holds C.prog (lone (Frame.enter C.prog f i.args .normal) [] (w.forCall tape i)))
  (contract : ∀ (W : World) (base : Nat) (args : Array Value) (ds gs : List (DataW H)) (before : List MemPlace),
   (∀ (j : Nat) t v, fn.params[j]? = some t → args[j]? = some v → Value.okWide C.prog W .any base t v) →
   DataW.Whole enc C.prog fn.params.toList s.vars apart W args.toList ds gs before →
   conds.all (PathCond.test C.prog ⟨fn.params.toList, ds, s.bare.plain.varTypes C.prog, gs⟩) = true → k H (ds ++ gs) = true →
   a.holds C.prog (lone (Frame.enter C.prog f args .normal) [] W) →
   Calls C.prog f args W fun e W' => ∃ v, e = .returned v ∧ (s.at F).post enc C.prog fn apart fresh handsOn again W args v W') :
  ReturnsInHanded a C os f .any (fun w args => (s.pre enc C.prog fn conds apart w args ∧ laidMetH C.prog l w) ∧ sizedMet enc C.prog fn s apart w args) ((s.at F).post enc C.prog fn apart fresh handsOn again) := by
 refine returnsInHanded_of_calls own started noInit witness ?_
 intro w tape i _ _ _ hok hpre hholds
 obtain ⟨_, _, _, fn', hfn', _, _, _, _, hval⟩ := hok
 have e : fn' = fn := Option.some.inj (hfn'.symm.trans hfn)
 subst e
 obtain ⟨ds, gs, before, hw, hc, hkk⟩ := (OpenSpec.pre_some hk conds apart _ _).1 hpre.1.1
 have hw' := DataW.Whole.of_heap (w' := w.forCall tape i) (by rfl) hw
 refine (contract (w.forCall tape i) w.heap.size i.args ds gs before hval hw' hc hkk hholds).mono fun e W' ⟨v, he, hp⟩ => ?_
 subst he
 exact ChangeSpec.post_blind hp
theorem Zss {C : Checked} {os : Os} {f : FuncId} {fn : Func} {s : OpenSpec} {k : (H : Type) → List (DataW H) → Bool} (hk : s.cond = some k) {conds : List PathCond} {apart : Bool} {l : List (String × DataW Unit)} (modest : Bool) (w0 : World) (args : Array Value) (fuel : Nat) (hos : w0.os = os)
  (hsh : (w0.forCall (fun _ _ => 0) ⟨#[], args, []⟩).Shaped C.prog)
  (hok : Input.okWideB C.prog (w0.forCall (fun _ _ => 0) ⟨#[], args, []⟩) f ⟨#[], args, []⟩ = true)
  {x : List (DataW H) × List (DataW H) × List MemPlace} (hx : DataW.whole enc C.prog (w0.forCall (fun _ _ => 0) ⟨#[], args, []⟩).memory fn.params.toList s.vars apart args.toList fuel = some x)
  (hconds : conds.all (PathCond.test C.prog ⟨fn.params.toList, x.1, s.bare.plain.varTypes C.prog, x.2.1⟩) = true) (hkk : k H (x.1 ++ x.2.1) = true)
  (hsz : s.bare.sizedB enc C.prog fn apart (w0.forCall (fun _ _ => 0) ⟨#[], args, []⟩).memory args fuel = true)
  (hl : laidMetH C.prog l (w0.forCall (fun _ _ => 0) ⟨#[], args, []⟩).memory) :
  ∃ (w : World) (tape : Tape) (i : Input), w.os = os ∧ (w.forCall tape i).Shaped C.prog ∧ i.vars = [] ∧ Input.okWide C.prog (w.forCall tape i) .any w.heap.size f i ∧
   ((s.pre enc C.prog fn conds apart (w.forCall tape i).memory i.args ∧ laidMetH C.prog l (w.forCall tape i).memory) ∧ sizedMet enc C.prog fn s apart (w.forCall tape i).memory i.args) ∧ ({ modest := modest } : Assume).holds C.prog (lone (Frame.enter C.prog f i.args .normal) [] (w.forCall tape i)) :=
 ⟨w0, fun _ _ => 0, ⟨#[], args, []⟩, hos, hsh, (Input.okWide_of_okWideB (base := 0) hok).1, (Input.okWide_of_okWideB hok).2,
  ⟨⟨(OpenSpec.pre_some hk conds apart _ _).2 ⟨x.1, x.2.1, x.2.2, DataW.Whole_of_whole hx, hconds, hkk⟩, hl⟩, sizedMet_of_sizedB hsz⟩, by
  simp only [Assume.holds]
  exact ⟨by simp, by simp, fun _ => Modest.zero, by simp, by simp⟩⟩
end
end Go.Proofs.YthoicbafdanmkaaGreatDoor
/- PROVED: 'posternlaw18.LabelStays' returns true for every input whose bulk is at most 1048576, and what came in reads as it did. No other conditions. -/
namespace Go.Proofs.YthoicbafdanmkaaGreatDoor
open Go.ChangeShapes Go.WideShapes Go.ChangeAt Go.RowKit Go.Joins
set_option linter.constructorNameAsVariable false
namespace RowLabelStays
theorem own : ownKnob Tryz.prog.godebug = none := by kernel_rfl
theorem Zln : laidOutB Tryz.prog = true := by kernel_rfl
set_option maxRecDepth 100000 in
theorem Zfa {W : World} {base : Nat} {v v' : Value} (h : Value.okWide Tryz.prog W .any base 28 v) (e : v.cells.toList = [v']) : v = v' := by
 obtain ⟨a, l, c, rfl⟩ := okWide_slice Tryz.underlying28 h
 simpa [Value.cells] using e
set_option maxRecDepth 100000 in
theorem lifted (os : Os) (started : os.Started) (H : Type) (enc : TypeId × Value → H) (F : Stop.Interp) :
  ReturnsInHanded {} Tryz.checked os 6 .any (fun w args => ((Rows.OpenSpec.upto Rows.labelStaysSpec).pre enc Tryz.prog Tryz.f6 Rows.labelStaysUptoRow.domain false w args ∧ laidMetH Tryz.prog Rows.labelStaysUptoRow.laid w) ∧ sizedMet enc Tryz.prog Tryz.f6 (Rows.OpenSpec.upto Rows.labelStaysSpec) false w args) (((Rows.OpenSpec.upto Rows.labelStaysSpec).at F).post enc Tryz.prog Tryz.f6 false true false false) := by
 refine Zi7 (C := Tryz.checked) (s := Rows.OpenSpec.upto Rows.labelStaysSpec) (k := Rows.uptoSmall) rfl own started (by kernel_rfl) Tryz.func6
  (Zss (enc := enc) (C := Tryz.checked) (s := Rows.OpenSpec.upto Rows.labelStaysSpec) (k := Rows.uptoSmall) rfl false (World.laidAll Tryz.prog os Rows.labelStaysUptoRow.laid) #[.agg #[.slice none 0 0, .slice none 0 0, .slice none 0 0, .slice none 0 0, .slice none 0 0, .slice none 0 0, .slice none 0 0, .slice none 0 0, .slice none 0 0, .slice none 0 0, .slice none 0 0], .slice none 0 0, .slice none 0 0] 8 (World.laidAll_os _ _ _) (World.shaped_of_ZipB (by kernel_rfl) (by kernel_rfl)) (by kernel_rfl)
   (x := ([(.agg [.nil, .nil, .nil, .nil, .nil, .nil, .nil, .nil, .nil, .nil, .nil]), .nil, .nil], [], [])) (by kernel_rfl) rfl rfl (by kernel_rfl) (by rw [MakeChecks.laidMetH_plain _ _ _ (by kernel_rfl)]; exact laidMet_laidAll _ (by kernel_rfl) (by kernel_rfl))) ?_
 intro W base args ds gs before hval0 hW hk0 hk _
 have hval : ∀ (j : Nat) t v, Tryz.f6.params[j]? = some t → args[j]? = some v → Value.okWide Tryz.prog W .any base t v := hval0
 have hW' := hW
 obtain ⟨p, q, hA0, hV, rfl, hfz, hnd⟩ := hW
 have hA : DataW.TrodAll enc Tryz.prog W 0 (fun _ => true) true Tryz.f6.params.toList args.toList ds p := hA0
 rw [Tryz.params6] at hA hval
 obtain ⟨v0, vs0, d0, ds0, p0, q0, hargs, rfl, rfl, h0, r0⟩ := trodAll_cons hA
 obtain ⟨v1, vs1, d1, ds1, p1, q1, rfl, rfl, rfl, h1, r1⟩ := trodAll_cons r0
 obtain ⟨v2, vs2, d2, ds2, p2, q2, rfl, rfl, rfl, h2, r2⟩ := trodAll_cons r1
 obtain ⟨rfl, rfl, rfl⟩ := trodAll_nil r2
 obtain rfl : args = #[v0, v1, v2] := by cases args; simp_all
 obtain ⟨rfl, rfl⟩ := trodVars_none hV
 have k0 := h0
 have lt0 : ∀ x ∈ p0, x.block < W.heap.size := by obtain ⟨m, hm⟩ := k0; exact DataW.trod_lt m _ _ _ hm
 have k1 := h1
 have lt1 : ∀ x ∈ p1, x.block < W.heap.size := by obtain ⟨m, hm⟩ := k1; exact DataW.trod_lt m _ _ _ hm
 have k2 := h2
 have lt2 : ∀ x ∈ p2, x.block < W.heap.size := by obtain ⟨m, hm⟩ := k2; exact DataW.trod_lt m _ _ _ hm
 obtain ⟨c0, rfl, _⟩ := okWide_struct Tryz.underlying27 (hval 0 27 v0 rfl rfl)
 obtain ⟨m0, hm0⟩ := h0
 obtain ⟨x0, f0, s0, w0⟩ := Zs7 m0 _ _ _ hm0
 obtain ⟨m1, hm1⟩ := h1
 obtain ⟨x1, ⟨v1', e1, f1⟩, s1, w1⟩ := (Uc.slice Q7 rfl (Uc.int Tryz.underlying21)) m1 _ _ _ hm1
 have hv1 : v1 = v1' := Zfa (hval 1 28 v1 rfl rfl) e1
 subst hv1
 obtain ⟨m2, hm2⟩ := h2
 obtain ⟨x2, ⟨v2', e2, f2⟩, s2, w2⟩ := (Uc.slice Q7 rfl (Uc.int Tryz.underlying21)) m2 _ _ _ hm2
 have hv2 : v2 = v2' := Zfa (hval 2 28 v2 rfl rfl) e2
 subst hv2
 have hbulk : Rows.uptoBulkAll [d0, d1, d2] ≤ 1048576 := of_decide_eq_true hk
 have hsz : Zm8 x0 + (szL (fun _ => 1)) x1 + (szL (fun _ => 1)) x2 ≤ 1048576 := by simp only [Rows.uptoBulkAll] at hbulk; omega
 have hT : Z3.f x0 x1 x2 = some true := Znh x0 (Zqf (by omega)) x1 x2 (by have := H0 (sz := fun _ : Int => 1) (fun _ => Nat.le_refl 1) x1; omega) (by have := H0 (sz := fun _ : Int => 1) (fun _ => Nat.le_refl 1) x2; omega)
 refine ((Z3.c (St.refl W) (c0 := c0.toList) f0 f1 f2 hT).2.mono fun e W' h => ?_)
 obtain ⟨v, rfl, rfl, hs⟩ := h
 have bel := hs.below
 exact ⟨_, rfl, _, _, _, [], _, [], hW', trodAll_mk1 (shut_bool Tryz.underlying4 _), (trodAll_cons_mk (Below.trod Zln (by kernel_rfl) (of_decide_eq_true (by kernel_rfl)) k0 bel lt0) (trodAll_cons_mk (Below.trod Zln (by kernel_rfl) (of_decide_eq_true (by kernel_rfl)) k1 bel lt1) (trodAll_cons_mk (Below.trod Zln (by kernel_rfl) (of_decide_eq_true (by kernel_rfl)) k2 bel lt2) trodAll_mk0))), rfl, bel.frame _, fun h => by cases h⟩
end RowLabelStays
set_option maxRecDepth 100000 in
theorem Zfm : joinedFacts Tryz.prog 6 Tryz.f6 (Rows.OpenSpec.upto Rows.labelStaysSpec).bare Rows.labelStaysUptoRow = true := by kernel_rfl
set_option maxRecDepth 100000 in
theorem Zcv : Rows.LabelStaysUptoSaid :=
 OpenClaim.holds_of_cond 6 Tryz.f6 rfl rfl rfl rfl rfl rfl rfl ⟨rfl, rfl, rfl, rfl, rfl⟩ rfl rfl rfl rfl rfl (by kernel_rfl) Tryz.func6 Zfm
  (of_decide_eq_true (by kernel_rfl)) (by unfold Func.isWrapper; first | (rw [if_pos (by decide +kernel)]; kernel_rfl) | (rw [if_neg (by decide +kernel)]; exact ⟨rfl, rfl⟩))
  (fun os started H enc _ F => RowLabelStays.lifted os started H enc F)
#print axioms Zcv
end Go.Proofs.YthoicbafdanmkaaGreatDoor
/- PROVED: the tied card of posternlaw18.LabelStays (bulk at most 1048576). Own work of this repo. -/
namespace Go.Proofs.YthoicbafdanmkaaGreatDoor
open Go.ChangeShapes Go.WideShapes Go.ChangeAt
theorem labelStays_card : Rows.LabelStaysUptoCardSaid :=
 Claim7.holds_tied_plain_at .later [] [.data, .pinned] true (true, "b5c56cd741947b617a96b64b9b4e1db8a6070d5cfa35c56202826c52d526a920") false Zcv (fun _ h => by cases h) (by kernel_rfl) (fun _ h => by cases h) labelStaysUpto_row_tie rfl ⟨rfl, rfl⟩ (by kernel_rfl) rfl
  (fun f fn hf hfn => by
   obtain rfl : f = 6 := Option.some.inj ((show Tryz.prog.funcNamed "postern/posternlaw18.LabelStays" = some 6 by kernel_rfl).symm.trans hf) |>.symm
   obtain rfl : fn = Tryz.f6 := (Option.some.inj (Tryz.func6.symm.trans hfn)).symm
   exact ⟨by kernel_rfl, fun j t ht => by
    rw [Tryz.params6] at ht
    have hm : t ∈ [27, 28] := by simpa using Array.mem_of_getElem? ht
    have hall : ([27, 28].all fun u => !Tryz.prog.wantsStandIn u) = true := by kernel_rfl
    exact (show Tryz.prog.wantsStandIn t = false by simpa using List.all_eq_true.1 hall t hm)⟩)
  (by kernel_rfl)
#print axioms labelStays_card
end Go.Proofs.YthoicbafdanmkaaGreatDoor
