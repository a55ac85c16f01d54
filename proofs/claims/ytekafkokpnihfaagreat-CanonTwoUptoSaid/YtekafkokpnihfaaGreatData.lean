/- The data of the program's structs. Written by this repo's structs.py. -/
import Derived.Test.YtekafkokpnihfaaGreatEngO
namespace Go.Proofs.YtekafkokpnihfaaGreat
open Go.RowKit
structure S8 where
  x : Int
  y : Int
  signed : Bool
  code : Int
  deriving Inhabited
structure S9 where
  msg : ByteArray
  addr : Int
  deriving Inhabited
structure Val where
  lo : Int
  hi : Int
  n : Int
  deriving Inhabited
def rVal : Rep Val := ⟨3, fun ρ cs x => cs = [.int .i32 x.lo, .int .i32 x.hi, .int .i64 x.n], fun h => by obtain rfl := h; rfl, fun hle h => by obtain rfl := h; exact rfl, fun h => by obtain rfl := h; exact (one_cons rfl (one_cons rfl (one_cons rfl one_nil)))⟩
structure Chs where
  lo : Int
  hi : Int
  is_ : List Int
  deriving Inhabited
def rChs : Rep Chs := ⟨3, fun ρ cs x => ∃ v2 : Value, cs = [.int .i32 x.lo, .int .i32 x.hi, v2] ∧ SlR (Rep.int .i32) ρ v2 x.is_, fun h => by obtain ⟨v2, rfl, f0⟩ := h; rfl, fun hle h => by obtain ⟨v2, rfl, f0⟩ := h; exact ⟨v2, rfl, f0.mono hle⟩, fun h => by obtain ⟨v2, rfl, f0⟩ := h; exact (one_cons rfl (one_cons rfl (one_cons f0.one one_nil)))⟩
structure Spn where
  lo : Int
  hi : Int
  deriving Inhabited
def rSpn : Rep Spn := ⟨2, fun ρ cs x => cs = [.int .i32 x.lo, .int .i32 x.hi], fun h => by obtain rfl := h; rfl, fun hle h => by obtain rfl := h; exact rfl, fun h => by obtain rfl := h; exact (one_cons rfl (one_cons rfl one_nil))⟩
structure Bk where
  names : List ByteArray
  status : List Val
  maps : List Chs
  class_ : List Val
  decomp : List Chs
  excl : List Spn
  bidi : List Val
  join : List Val
  marks : List Spn
  script : List Val
  like : List Chs
  deriving Inhabited
def rBk : Rep Bk := ⟨11, fun ρ cs x => ∃ v0 v1 v2 v3 v4 v5 v6 v7 v8 v9 v10 : Value, cs = [v0, v1, v2, v3, v4, v5, v6, v7, v8, v9, v10] ∧ SlR Rep.str ρ v0 x.names ∧ SlR rVal ρ v1 x.status ∧ SlR rChs ρ v2 x.maps ∧ SlR rVal ρ v3 x.class_ ∧ SlR rChs ρ v4 x.decomp ∧ SlR rSpn ρ v5 x.excl ∧ SlR rVal ρ v6 x.bidi ∧ SlR rVal ρ v7 x.join ∧ SlR rSpn ρ v8 x.marks ∧ SlR rVal ρ v9 x.script ∧ SlR rChs ρ v10 x.like, fun h => by obtain ⟨v0, v1, v2, v3, v4, v5, v6, v7, v8, v9, v10, rfl, f0, f1, f2, f3, f4, f5, f6, f7, f8, f9, f10⟩ := h; rfl, fun hle h => by obtain ⟨v0, v1, v2, v3, v4, v5, v6, v7, v8, v9, v10, rfl, f0, f1, f2, f3, f4, f5, f6, f7, f8, f9, f10⟩ := h; exact ⟨v0, v1, v2, v3, v4, v5, v6, v7, v8, v9, v10, rfl, f0.mono hle, f1.mono hle, f2.mono hle, f3.mono hle, f4.mono hle, f5.mono hle, f6.mono hle, f7.mono hle, f8.mono hle, f9.mono hle, f10.mono hle⟩, fun h => by obtain ⟨v0, v1, v2, v3, v4, v5, v6, v7, v8, v9, v10, rfl, f0, f1, f2, f3, f4, f5, f6, f7, f8, f9, f10⟩ := h; exact (one_cons f0.one (one_cons f1.one (one_cons f2.one (one_cons f3.one (one_cons f4.one (one_cons f5.one (one_cons f6.one (one_cons f7.one (one_cons f8.one (one_cons f9.one (one_cons f10.one one_nil)))))))))))⟩
structure Tab where
  which : Vector Int 8704
  unlike : List (Vector Int 128)
  plain : List Bool
  deriving Inhabited
def rTab : Rep Tab := ⟨8706, fun ρ cs x => ∃ v1 v2 : Value, cs = [] ++ (vcs (Value.int .u16) x.which ++ [v1, v2]) ∧ SlR (Rep.arr (Value.int .u16) (one_int .u16) 128) ρ v1 x.unlike ∧ SlR Rep.bool ρ v2 x.plain, fun h => by obtain ⟨v1, v2, rfl, f0, f1⟩ := h; simp, fun hle h => by obtain ⟨v1, v2, rfl, f0, f1⟩ := h; exact ⟨v1, v2, rfl, f0.mono hle, f1.mono hle⟩, fun h => by obtain ⟨v1, v2, rfl, f0, f1⟩ := h; exact (one_app one_nil (one_app (vcs_one (one_int .u16) _) (one_cons f0.one (one_cons f1.one one_nil))))⟩
structure Tbs where
  b : Bk
  status : Option Tab
  class_ : Option Tab
  bidi : Option Tab
  join : Option Tab
  script : Option Tab
  excl : Option Tab
  mark : Option Tab
  maps : Option Tab
  decomp : Option Tab
  likes : Option Tab
  pairs : List (Vector Int 2 × Int)
  deriving Inhabited
def rTbs : Rep Tbs := ⟨22, fun ρ cs x => ∃ v0 v1 v2 v3 v4 v5 v6 v7 v8 v9 v10 v11 v12 v13 v14 v15 v16 v17 v18 v19 v20 v21 : Value, cs = [v0, v1, v2, v3, v4, v5, v6, v7, v8, v9, v10, v11, v12, v13, v14, v15, v16, v17, v18, v19, v20, v21] ∧ SlR Rep.str ρ v0 x.b.names ∧ SlR rVal ρ v1 x.b.status ∧ SlR rChs ρ v2 x.b.maps ∧ SlR rVal ρ v3 x.b.class_ ∧ SlR rChs ρ v4 x.b.decomp ∧ SlR rSpn ρ v5 x.b.excl ∧ SlR rVal ρ v6 x.b.bidi ∧ SlR rVal ρ v7 x.b.join ∧ SlR rSpn ρ v8 x.b.marks ∧ SlR rVal ρ v9 x.b.script ∧ SlR rChs ρ v10 x.b.like ∧ PtrR rTab ρ v11 x.status ∧ PtrR rTab ρ v12 x.class_ ∧ PtrR rTab ρ v13 x.bidi ∧ PtrR rTab ρ v14 x.join ∧ PtrR rTab ρ v15 x.script ∧ PtrR rTab ρ v16 x.excl ∧ PtrR rTab ρ v17 x.mark ∧ PtrR rTab ρ v18 x.maps ∧ PtrR rTab ρ v19 x.decomp ∧ PtrR rTab ρ v20 x.likes ∧ MapR (fun y : Vector Int 2 => Value.agg (acs .i32 y.toList).toArray) (Value.int .i32) ρ v21 x.pairs, fun h => by obtain ⟨v0, v1, v2, v3, v4, v5, v6, v7, v8, v9, v10, v11, v12, v13, v14, v15, v16, v17, v18, v19, v20, v21, rfl, f0, f1, f2, f3, f4, f5, f6, f7, f8, f9, f10, f11, f12, f13, f14, f15, f16, f17, f18, f19, f20, f21⟩ := h; rfl, fun hle h => by obtain ⟨v0, v1, v2, v3, v4, v5, v6, v7, v8, v9, v10, v11, v12, v13, v14, v15, v16, v17, v18, v19, v20, v21, rfl, f0, f1, f2, f3, f4, f5, f6, f7, f8, f9, f10, f11, f12, f13, f14, f15, f16, f17, f18, f19, f20, f21⟩ := h; exact ⟨v0, v1, v2, v3, v4, v5, v6, v7, v8, v9, v10, v11, v12, v13, v14, v15, v16, v17, v18, v19, v20, v21, rfl, f0.mono hle, f1.mono hle, f2.mono hle, f3.mono hle, f4.mono hle, f5.mono hle, f6.mono hle, f7.mono hle, f8.mono hle, f9.mono hle, f10.mono hle, f11.mono hle, f12.mono hle, f13.mono hle, f14.mono hle, f15.mono hle, f16.mono hle, f17.mono hle, f18.mono hle, f19.mono hle, f20.mono hle, f21.mono hle⟩, fun h => by obtain ⟨v0, v1, v2, v3, v4, v5, v6, v7, v8, v9, v10, v11, v12, v13, v14, v15, v16, v17, v18, v19, v20, v21, rfl, f0, f1, f2, f3, f4, f5, f6, f7, f8, f9, f10, f11, f12, f13, f14, f15, f16, f17, f18, f19, f20, f21⟩ := h; exact (one_cons f0.one (one_cons f1.one (one_cons f2.one (one_cons f3.one (one_cons f4.one (one_cons f5.one (one_cons f6.one (one_cons f7.one (one_cons f8.one (one_cons f9.one (one_cons f10.one (one_cons f11.one (one_cons f12.one (one_cons f13.one (one_cons f14.one (one_cons f15.one (one_cons f16.one (one_cons f17.one (one_cons f18.one (one_cons f19.one (one_cons f20.one (one_cons f21.one one_nil))))))))))))))))))))))⟩
structure S10 where
  t : Option Tbs
  kept : List Int
  deriving Inhabited
structure Wh where
  list : Int
  row : Int
  deriving Inhabited
def rWh : Rep Wh := ⟨2, fun ρ cs x => cs = [.int .i64 x.list, .int .i64 x.row], fun h => by obtain rfl := h; rfl, fun hle h => by obtain rfl := h; exact rfl, fun h => by obtain rfl := h; exact (one_cons rfl (one_cons rfl one_nil))⟩
structure S11 where
  l : List Chs
  rows : List (Int × Int)
  long : List (Int × Int)
  deriving Inhabited
end Go.Proofs.YtekafkokpnihfaaGreat
