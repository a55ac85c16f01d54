/- The data of the program's structs. Written by this repo's structs.py. -/
import Derived.Test.YtdpfabdpojbmaaaEngG
namespace Go.Proofs.Ytdpfabdpojbmaaa
open Go.RowKit
structure S6 where
  x : Int
  y : Int
  signed : Bool
  code : Int
  deriving Inhabited
def rS6 : Rep S6 := ⟨4, fun ρ cs x => cs = [.int .i64 x.x, .int .i64 x.y, .bool x.signed, .int .u8 x.code], fun h => by obtain rfl := h; rfl, fun hle h => by obtain rfl := h; exact rfl, fun h => by obtain rfl := h; exact (one_cons rfl (one_cons rfl (one_cons rfl (one_cons rfl one_nil))))⟩
structure S7 where
  msg : ByteArray
  addr : Int
  deriving Inhabited
def rS7 : Rep S7 := ⟨2, fun ρ cs x => cs = [.string x.msg, .int .u64 x.addr], fun h => by obtain rfl := h; rfl, fun hle h => by obtain rfl := h; exact rfl, fun h => by obtain rfl := h; exact (one_cons rfl (one_cons rfl one_nil))⟩
structure Jam where
  l : Int
  v : Int
  t : Int
  deriving Inhabited
def rJam : Rep Jam := ⟨3, fun ρ cs x => cs = [.int .i32 x.l, .int .i32 x.v, .int .i32 x.t], fun h => by obtain rfl := h; rfl, fun hle h => by obtain rfl := h; exact rfl, fun h => by obtain rfl := h; exact (one_cons rfl (one_cons rfl (one_cons rfl one_nil)))⟩
structure Val where
  lo : Int
  hi : Int
  n : Int
  deriving Inhabited
def rVal : Rep Val := ⟨3, fun ρ cs x => cs = [.int .i32 x.lo, .int .i32 x.hi, .int .i64 x.n], fun h => by obtain rfl := h; rfl, fun hle h => by obtain rfl := h; exact rfl, fun h => by obtain rfl := h; exact (one_cons rfl (one_cons rfl (one_cons rfl one_nil)))⟩
structure Chs where
  lo : Int
  hi : Int
  is_ : List Int
  deriving Inhabited
def rChs : Rep Chs := ⟨3, fun ρ cs x => ∃ v2 : Value, cs = [.int .i32 x.lo, .int .i32 x.hi, v2] ∧ SlR (Rep.int .i32) ρ v2 x.is_, fun h => by obtain ⟨v2, rfl, f0⟩ := h; rfl, fun hle h => by obtain ⟨v2, rfl, f0⟩ := h; exact ⟨v2, rfl, f0.mono hle⟩, fun h => by obtain ⟨v2, rfl, f0⟩ := h; exact (one_cons rfl (one_cons rfl (one_cons f0.one one_nil)))⟩
structure Spn where
  lo : Int
  hi : Int
  deriving Inhabited
def rSpn : Rep Spn := ⟨2, fun ρ cs x => cs = [.int .i32 x.lo, .int .i32 x.hi], fun h => by obtain rfl := h; rfl, fun hle h => by obtain rfl := h; exact rfl, fun h => by obtain rfl := h; exact (one_cons rfl (one_cons rfl one_nil))⟩
structure Bk where
  names : List ByteArray
  status : List Val
  maps : List Chs
  class_ : List Val
  decomp : List Chs
  excl : List Spn
  bidi : List Val
  join : List Val
  marks : List Spn
  script : List Val
  like : List Chs
  deriving Inhabited
def rBk : Rep Bk := ⟨11, fun ρ cs x => ∃ v0 v1 v2 v3 v4 v5 v6 v7 v8 v9 v10 : Value, cs = [v0, v1, v2, v3, v4, v5, v6, v7, v8, v9, v10] ∧ SlR Rep.str ρ v0 x.names ∧ SlR rVal ρ v1 x.status ∧ SlR rChs ρ v2 x.maps ∧ SlR rVal ρ v3 x.class_ ∧ SlR rChs ρ v4 x.decomp ∧ SlR rSpn ρ v5 x.excl ∧ SlR rVal ρ v6 x.bidi ∧ SlR rVal ρ v7 x.join ∧ SlR rSpn ρ v8 x.marks ∧ SlR rVal ρ v9 x.script ∧ SlR rChs ρ v10 x.like, fun h => by obtain ⟨v0, v1, v2, v3, v4, v5, v6, v7, v8, v9, v10, rfl, f0, f1, f2, f3, f4, f5, f6, f7, f8, f9, f10⟩ := h; rfl, fun hle h => by obtain ⟨v0, v1, v2, v3, v4, v5, v6, v7, v8, v9, v10, rfl, f0, f1, f2, f3, f4, f5, f6, f7, f8, f9, f10⟩ := h; exact ⟨v0, v1, v2, v3, v4, v5, v6, v7, v8, v9, v10, rfl, f0.mono hle, f1.mono hle, f2.mono hle, f3.mono hle, f4.mono hle, f5.mono hle, f6.mono hle, f7.mono hle, f8.mono hle, f9.mono hle, f10.mono hle⟩, fun h => by obtain ⟨v0, v1, v2, v3, v4, v5, v6, v7, v8, v9, v10, rfl, f0, f1, f2, f3, f4, f5, f6, f7, f8, f9, f10⟩ := h; exact (one_cons f0.one (one_cons f1.one (one_cons f2.one (one_cons f3.one (one_cons f4.one (one_cons f5.one (one_cons f6.one (one_cons f7.one (one_cons f8.one (one_cons f9.one (one_cons f10.one one_nil)))))))))))⟩
end Go.Proofs.Ytdpfabdpojbmaaa
