/- Closed facts on the program's types, written by this repo's facts.py. -/
import Derived.Test.YtdpfabdpojbmaaaEngG
import Derived.Test.YtdpfabdpojbmaaaProg
import Derived.KernelRfl
namespace Go.Proofs.Ytdpfabdpojbmaaa
theorem mixed : Try.prog.follows .mixedOrders = true := by kernel_rfl
theorem un21 : Try.prog.underlying 21 = some (.int .i32) := by kernel_rfl
theorem fo23_0 : fieldOff Try.prog 23 0 = some 0 := by kernel_rfl
theorem ag21 : isAggOf Try.prog 21 = some false := by kernel_rfl
theorem sz21 : sizeOf' Try.prog 21 = some 1 := by kernel_rfl
theorem fo23_1 : fieldOff Try.prog 23 1 = some 1 := by kernel_rfl
theorem fo23_2 : fieldOff Try.prog 23 2 = some 2 := by kernel_rfl
theorem un4 : Try.prog.underlying 4 = some .bool := by kernel_rfl
theorem un3 : Try.prog.underlying 3 = some (.int .i64) := by kernel_rfl
theorem un32 : Try.prog.underlying 32 = some (.slice 21) := by kernel_rfl
theorem el32 : ElemOf Try.prog 32 21 1 4 := elemOf_of un32 (by kernel_rfl) rfl rfl
theorem un36 : Try.prog.underlying 36 = some (.pointer 54) := by kernel_rfl
theorem un34 : Try.prog.underlying 34 = some (.pointer 38) := by kernel_rfl
theorem ag38 : isAggOf Try.prog 38 = some true := by kernel_rfl
theorem sz38 : sizeOf' Try.prog 38 = some 2 := by kernel_rfl
theorem zr38 : zeroOf Try.prog 38 = some [.pointer none, .slice none 0 0] := by kernel_rfl
theorem pl38 : placesOf Try.prog 38 = some [(0, 1), (1, 1)] := by kernel_rfl
theorem ag36 : isAggOf Try.prog 36 = some false := by kernel_rfl
theorem sz36 : sizeOf' Try.prog 36 = some 1 := by kernel_rfl
theorem fo54_2 : fieldOff Try.prog 54 2 = some 12 := by kernel_rfl
theorem ag51 : isAggOf Try.prog 51 = some false := by kernel_rfl
theorem sz51 : sizeOf' Try.prog 51 = some 1 := by kernel_rfl
theorem un51 : Try.prog.underlying 51 = some (.pointer 65) := by kernel_rfl
theorem fo65_1 : fieldOff Try.prog 65 1 = some 8704 := by kernel_rfl
theorem ag62 : isAggOf Try.prog 62 = some false := by kernel_rfl
theorem sz62 : sizeOf' Try.prog 62 = some 1 := by kernel_rfl
theorem fo65_0 : fieldOff Try.prog 65 0 = some 0 := by kernel_rfl
theorem un61 : Try.prog.underlying 61 = some (.array 8704 58) := by kernel_rfl
theorem ag58 : isAggOf Try.prog 58 = some false := by kernel_rfl
theorem sz58 : sizeOf' Try.prog 58 = some 1 := by kernel_rfl
theorem un62 : Try.prog.underlying 62 = some (.slice 60) := by kernel_rfl
theorem el62 : ElemOf Try.prog 62 60 128 256 := elemOf_of un62 (by kernel_rfl) rfl rfl
theorem un60 : Try.prog.underlying 60 = some (.array 128 58) := by kernel_rfl
theorem un58 : Try.prog.underlying 58 = some (.int .u16) := by kernel_rfl
theorem fo54_9 : fieldOff Try.prog 54 9 = some 19 := by kernel_rfl
theorem fo54_0 : fieldOff Try.prog 54 0 = some 0 := by kernel_rfl
theorem fo50_4 : fieldOff Try.prog 50 4 = some 4 := by kernel_rfl
theorem ag47 : isAggOf Try.prog 47 = some false := by kernel_rfl
theorem sz47 : sizeOf' Try.prog 47 = some 1 := by kernel_rfl
theorem un47 : Try.prog.underlying 47 = some (.slice 71) := by kernel_rfl
theorem el47 : ElemOf Try.prog 47 71 3 32 := elemOf_of un47 (by kernel_rfl) rfl rfl
theorem un69 : Try.prog.underlying 69 = some (.int .u64) := by kernel_rfl
theorem fo71_2 : fieldOff Try.prog 71 2 = some 2 := by kernel_rfl
theorem ag32 : isAggOf Try.prog 32 = some false := by kernel_rfl
theorem sz32 : sizeOf' Try.prog 32 = some 1 := by kernel_rfl
theorem un45 : Try.prog.underlying 45 = some (.slice 9) := by kernel_rfl
theorem el45 : ElemOf Try.prog 45 9 1 16 := elemOf_of un45 (by kernel_rfl) rfl rfl
theorem un46 : Try.prog.underlying 46 = some (.slice 91) := by kernel_rfl
theorem el46 : ElemOf Try.prog 46 91 3 16 := elemOf_of un46 (by kernel_rfl) rfl rfl
theorem un48 : Try.prog.underlying 48 = some (.slice 93) := by kernel_rfl
theorem el48 : ElemOf Try.prog 48 93 2 8 := elemOf_of un48 (by kernel_rfl) rfl rfl
theorem un63 : Try.prog.underlying 63 = some (.slice 4) := by kernel_rfl
theorem el63 : ElemOf Try.prog 63 4 1 1 := elemOf_of un63 (by kernel_rfl) rfl rfl
end Go.Proofs.Ytdpfabdpojbmaaa
