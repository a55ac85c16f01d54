import Derived.Test.YtekafkokpnihfaaGreatEngL
import Derived.Test.YtekafkokpnihfaaGreatProg
import Derived.KernelRfl
namespace Go.Proofs.YtekafkokpnihfaaGreat
theorem mixed : Tryz.prog.follows .mixedOrders = true := by kernel_rfl
theorem ag27 : isAggOf Tryz.prog 27 = some true := by kernel_rfl
theorem sz27 : sizeOf' Tryz.prog 27 = some 11 := by kernel_rfl
theorem sz34 : sizeOf' Tryz.prog 34 = some 11 := by kernel_rfl
theorem zr34 : zeroOf Tryz.prog 34 = some [.slice none 0 0, .slice none 0 0, .slice none 0 0, .slice none 0 0, .slice none 0 0, .slice none 0 0, .slice none 0 0, .slice none 0 0, .slice none 0 0, .slice none 0 0, .slice none 0 0] := by kernel_rfl
theorem un29 : Tryz.prog.underlying 29 = some (.pointer 62) := by kernel_rfl
theorem un28 : Tryz.prog.underlying 28 = some (.slice 21) := by kernel_rfl
theorem el28 : ElemOf Tryz.prog 28 21 1 4 := elemOf_of un28 (by kernel_rfl) rfl rfl
theorem un3 : Tryz.prog.underlying 3 = some (.int .i64) := by kernel_rfl
theorem ag21 : isAggOf Tryz.prog 21 = some false := by kernel_rfl
theorem sz21 : sizeOf' Tryz.prog 21 = some 1 := by kernel_rfl
theorem un21 : Tryz.prog.underlying 21 = some (.int .i32) := by kernel_rfl
theorem un43 : Tryz.prog.underlying 43 = some (.slice 28) := by kernel_rfl
theorem el43 : ElemOf Tryz.prog 43 28 1 24 := elemOf_of un43 (by kernel_rfl) rfl rfl
theorem ag28 : isAggOf Tryz.prog 28 = some false := by kernel_rfl
theorem sz28 : sizeOf' Tryz.prog 28 = some 1 := by kernel_rfl
theorem un44 : Tryz.prog.underlying 44 = some (.pointer 64) := by kernel_rfl
theorem ag34 : isAggOf Tryz.prog 34 = some true := by kernel_rfl
theorem pl34 : placesOf Tryz.prog 34 = some [(0, 1), (1, 1), (2, 1), (3, 1), (4, 1), (5, 1), (6, 1), (7, 1), (8, 1), (9, 1), (10, 1)] := by kernel_rfl
theorem ag29 : isAggOf Tryz.prog 29 = some false := by kernel_rfl
theorem fo62_2 : fieldOff Tryz.prog 62 2 = some 12 := by kernel_rfl
theorem ag59 : isAggOf Tryz.prog 59 = some false := by kernel_rfl
theorem un59 : Tryz.prog.underlying 59 = some (.pointer 105) := by kernel_rfl
theorem ag64 : isAggOf Tryz.prog 64 = some true := by kernel_rfl
theorem zr64 : zeroOf Tryz.prog 64 = some [.pointer none, .slice none 0 0] := by kernel_rfl
theorem pl64 : placesOf Tryz.prog 64 = some [(0, 1), (1, 1)] := by kernel_rfl
theorem fo64_1 : fieldOff Tryz.prog 64 1 = some 1 := by kernel_rfl
theorem fo64_0 : fieldOff Tryz.prog 64 0 = some 0 := by kernel_rfl
theorem un22 : Tryz.prog.underlying 22 = some (.slice 9) := by kernel_rfl
theorem el22 : ElemOf Tryz.prog 22 9 1 16 := elemOf_of un22 (by kernel_rfl) rfl rfl
theorem fo27_0 : fieldOff Tryz.prog 27 0 = some 0 := by kernel_rfl
theorem ag22 : isAggOf Tryz.prog 22 = some false := by kernel_rfl
theorem fo27_1 : fieldOff Tryz.prog 27 1 = some 1 := by kernel_rfl
theorem ag23 : isAggOf Tryz.prog 23 = some false := by kernel_rfl
theorem un23 : Tryz.prog.underlying 23 = some (.slice 108) := by kernel_rfl
theorem el23 : ElemOf Tryz.prog 23 108 3 16 := elemOf_of un23 (by kernel_rfl) rfl rfl
theorem fo27_2 : fieldOff Tryz.prog 27 2 = some 2 := by kernel_rfl
theorem ag24 : isAggOf Tryz.prog 24 = some false := by kernel_rfl
theorem un24 : Tryz.prog.underlying 24 = some (.slice 94) := by kernel_rfl
theorem el24 : ElemOf Tryz.prog 24 94 3 32 := elemOf_of un24 (by kernel_rfl) rfl rfl
theorem fo27_3 : fieldOff Tryz.prog 27 3 = some 3 := by kernel_rfl
theorem fo27_4 : fieldOff Tryz.prog 27 4 = some 4 := by kernel_rfl
theorem fo27_5 : fieldOff Tryz.prog 27 5 = some 5 := by kernel_rfl
theorem ag25 : isAggOf Tryz.prog 25 = some false := by kernel_rfl
theorem un25 : Tryz.prog.underlying 25 = some (.slice 110) := by kernel_rfl
theorem el25 : ElemOf Tryz.prog 25 110 2 8 := elemOf_of un25 (by kernel_rfl) rfl rfl
theorem fo27_6 : fieldOff Tryz.prog 27 6 = some 6 := by kernel_rfl
theorem fo27_7 : fieldOff Tryz.prog 27 7 = some 7 := by kernel_rfl
theorem fo27_8 : fieldOff Tryz.prog 27 8 = some 8 := by kernel_rfl
theorem fo27_9 : fieldOff Tryz.prog 27 9 = some 9 := by kernel_rfl
theorem fo27_10 : fieldOff Tryz.prog 27 10 = some 10 := by kernel_rfl
theorem fo34_2 : fieldOff Tryz.prog 34 2 = some 2 := by kernel_rfl
theorem ag31 : isAggOf Tryz.prog 31 = some false := by kernel_rfl
theorem un31 : Tryz.prog.underlying 31 = some (.slice 71) := by kernel_rfl
theorem el31 : ElemOf Tryz.prog 31 71 3 32 := elemOf_of un31 (by kernel_rfl) rfl rfl
theorem ag71 : isAggOf Tryz.prog 71 = some true := by kernel_rfl
theorem sz71 : sizeOf' Tryz.prog 71 = some 3 := by kernel_rfl
theorem zr71 : zeroOf Tryz.prog 71 = some [.int .i32 0, .int .i32 0, .slice none 0 0] := by kernel_rfl
theorem un68 : Tryz.prog.underlying 68 = some (.slice 4) := by kernel_rfl
theorem el68 : ElemOf Tryz.prog 68 4 1 1 := elemOf_of un68 (by kernel_rfl) rfl rfl
theorem ag4 : isAggOf Tryz.prog 4 = some false := by kernel_rfl
theorem sz4 : sizeOf' Tryz.prog 4 = some 1 := by kernel_rfl
theorem fo34_1 : fieldOff Tryz.prog 34 1 = some 1 := by kernel_rfl
theorem ag30 : isAggOf Tryz.prog 30 = some false := by kernel_rfl
theorem un30 : Tryz.prog.underlying 30 = some (.slice 109) := by kernel_rfl
theorem el30 : ElemOf Tryz.prog 30 109 3 16 := elemOf_of un30 (by kernel_rfl) rfl rfl
theorem fo34_5 : fieldOff Tryz.prog 34 5 = some 5 := by kernel_rfl
theorem ag32 : isAggOf Tryz.prog 32 = some false := by kernel_rfl
theorem un32 : Tryz.prog.underlying 32 = some (.slice 74) := by kernel_rfl
theorem el32 : ElemOf Tryz.prog 32 74 2 8 := elemOf_of un32 (by kernel_rfl) rfl rfl
theorem ag74 : isAggOf Tryz.prog 74 = some true := by kernel_rfl
theorem sz74 : sizeOf' Tryz.prog 74 = some 2 := by kernel_rfl
theorem zr74 : zeroOf Tryz.prog 74 = some [.int .i32 0, .int .i32 0] := by kernel_rfl
theorem fo74_0 : fieldOff Tryz.prog 74 0 = some 0 := by kernel_rfl
theorem fo74_1 : fieldOff Tryz.prog 74 1 = some 1 := by kernel_rfl
theorem fo34_0 : fieldOff Tryz.prog 34 0 = some 0 := by kernel_rfl
theorem fo34_3 : fieldOff Tryz.prog 34 3 = some 3 := by kernel_rfl
theorem fo34_4 : fieldOff Tryz.prog 34 4 = some 4 := by kernel_rfl
theorem fo34_6 : fieldOff Tryz.prog 34 6 = some 6 := by kernel_rfl
theorem fo34_7 : fieldOff Tryz.prog 34 7 = some 7 := by kernel_rfl
theorem fo34_8 : fieldOff Tryz.prog 34 8 = some 8 := by kernel_rfl
theorem zr4 : zeroOf Tryz.prog 4 = some [.bool false] := by kernel_rfl
theorem fo34_9 : fieldOff Tryz.prog 34 9 = some 9 := by kernel_rfl
theorem fo34_10 : fieldOff Tryz.prog 34 10 = some 10 := by kernel_rfl
theorem un82 : Tryz.prog.underlying 82 = some (.slice 3) := by kernel_rfl
theorem el82 : ElemOf Tryz.prog 82 3 1 8 := elemOf_of un82 (by kernel_rfl) rfl rfl
theorem ag3 : isAggOf Tryz.prog 3 = some false := by kernel_rfl
theorem sz3 : sizeOf' Tryz.prog 3 = some 1 := by kernel_rfl
theorem sz85 : sizeOf' Tryz.prog 85 = some 2 := by kernel_rfl
theorem zr85 : zeroOf Tryz.prog 85 = some [.int .i64 0, .int .i64 0] := by kernel_rfl
theorem un60 : Tryz.prog.underlying 60 = some (.map 96 21) := by kernel_rfl
theorem un96 : Tryz.prog.underlying 96 = some (.array 2 21) := by kernel_rfl
def kv96 : KeyK Tryz.prog 96 (Vector Int 2) := KeyK.vec un96 (by kernel_rfl) (by kernel_rfl) sz21 un21 ag21
theorem ag62 : isAggOf Tryz.prog 62 = some true := by kernel_rfl
theorem zr62 : zeroOf Tryz.prog 62 = some [.slice none 0 0, .slice none 0 0, .slice none 0 0, .slice none 0 0, .slice none 0 0, .slice none 0 0, .slice none 0 0, .slice none 0 0, .slice none 0 0, .slice none 0 0, .slice none 0 0, .pointer none, .pointer none, .pointer none, .pointer none, .pointer none, .pointer none, .pointer none, .pointer none, .pointer none, .pointer none, .map none] := by kernel_rfl
theorem pl62 : placesOf Tryz.prog 62 = some [(0, 11), (11, 1), (12, 1), (13, 1), (14, 1), (15, 1), (16, 1), (17, 1), (18, 1), (19, 1), (20, 1), (21, 1)] := by kernel_rfl
theorem ag94 : isAggOf Tryz.prog 94 = some true := by kernel_rfl
theorem sz94 : sizeOf' Tryz.prog 94 = some 3 := by kernel_rfl
theorem zr94 : zeroOf Tryz.prog 94 = some [.int .i32 0, .int .i32 0, .slice none 0 0] := by kernel_rfl
theorem fo94_2 : fieldOff Tryz.prog 94 2 = some 2 := by kernel_rfl
theorem fo62_6 : fieldOff Tryz.prog 62 6 = some 16 := by kernel_rfl
theorem fo94_0 : fieldOff Tryz.prog 94 0 = some 0 := by kernel_rfl
theorem fo62_11 : fieldOff Tryz.prog 62 11 = some 21 := by kernel_rfl
theorem ag60 : isAggOf Tryz.prog 60 = some false := by kernel_rfl
theorem ag96 : isAggOf Tryz.prog 96 = some true := by kernel_rfl
theorem sz96 : sizeOf' Tryz.prog 96 = some 2 := by kernel_rfl
set_option maxRecDepth 1000000 in
theorem zl96 : (zeroOf Tryz.prog 96).map (·.length) = some 2 := by kernel_rfl
theorem fo105_1 : fieldOff Tryz.prog 105 1 = some 8704 := by kernel_rfl
theorem ag103 : isAggOf Tryz.prog 103 = some false := by kernel_rfl
theorem sz103 : sizeOf' Tryz.prog 103 = some 1 := by kernel_rfl
theorem fo105_0 : fieldOff Tryz.prog 105 0 = some 0 := by kernel_rfl
theorem un102 : Tryz.prog.underlying 102 = some (.array 8704 99) := by kernel_rfl
theorem sz99 : sizeOf' Tryz.prog 99 = some 1 := by kernel_rfl
theorem ag99 : isAggOf Tryz.prog 99 = some false := by kernel_rfl
theorem un103 : Tryz.prog.underlying 103 = some (.slice 101) := by kernel_rfl
theorem el103 : ElemOf Tryz.prog 103 101 128 256 := elemOf_of un103 (by kernel_rfl) rfl rfl
theorem un101 : Tryz.prog.underlying 101 = some (.array 128 99) := by kernel_rfl
theorem un99 : Tryz.prog.underlying 99 = some (.int .u16) := by kernel_rfl
theorem ag108 : isAggOf Tryz.prog 108 = some true := by kernel_rfl
theorem sz108 : sizeOf' Tryz.prog 108 = some 3 := by kernel_rfl
theorem zr108 : zeroOf Tryz.prog 108 = some [.int .i32 0, .int .i32 0, .int .i64 0] := by kernel_rfl
theorem fo108_0 : fieldOff Tryz.prog 108 0 = some 0 := by kernel_rfl
theorem fo108_1 : fieldOff Tryz.prog 108 1 = some 1 := by kernel_rfl
theorem fo108_2 : fieldOff Tryz.prog 108 2 = some 2 := by kernel_rfl
theorem ag109 : isAggOf Tryz.prog 109 = some true := by kernel_rfl
theorem sz109 : sizeOf' Tryz.prog 109 = some 3 := by kernel_rfl
theorem zr109 : zeroOf Tryz.prog 109 = some [.int .i32 0, .int .i32 0, .int .i64 0] := by kernel_rfl
theorem pl109 : placesOf Tryz.prog 109 = some [(0, 1), (1, 1), (2, 1)] := by kernel_rfl
theorem fo94_1 : fieldOff Tryz.prog 94 1 = some 1 := by kernel_rfl
theorem pl71 : placesOf Tryz.prog 71 = some [(0, 1), (1, 1), (2, 1)] := by kernel_rfl
theorem ag110 : isAggOf Tryz.prog 110 = some true := by kernel_rfl
theorem sz110 : sizeOf' Tryz.prog 110 = some 2 := by kernel_rfl
theorem zr110 : zeroOf Tryz.prog 110 = some [.int .i32 0, .int .i32 0] := by kernel_rfl
theorem fo110_0 : fieldOff Tryz.prog 110 0 = some 0 := by kernel_rfl
theorem fo110_1 : fieldOff Tryz.prog 110 1 = some 1 := by kernel_rfl
theorem pl74 : placesOf Tryz.prog 74 = some [(0, 1), (1, 1)] := by kernel_rfl
theorem fo71_2 : fieldOff Tryz.prog 71 2 = some 2 := by kernel_rfl
theorem fo109_0 : fieldOff Tryz.prog 109 0 = some 0 := by kernel_rfl
theorem fo71_1 : fieldOff Tryz.prog 71 1 = some 1 := by kernel_rfl
theorem fo109_1 : fieldOff Tryz.prog 109 1 = some 1 := by kernel_rfl
theorem fo71_0 : fieldOff Tryz.prog 71 0 = some 0 := by kernel_rfl
theorem ag9 : isAggOf Tryz.prog 9 = some false := by kernel_rfl
theorem un9 : Tryz.prog.underlying 9 = some .string := by kernel_rfl
theorem fo109_2 : fieldOff Tryz.prog 109 2 = some 2 := by kernel_rfl
theorem ag85 : isAggOf Tryz.prog 85 = some true := by kernel_rfl
theorem sz115 : sizeOf' Tryz.prog 115 = some 1 := by kernel_rfl
theorem zr115 : zeroOf Tryz.prog 115 = some [.nilFunc] := by kernel_rfl
theorem sz117 : sizeOf' Tryz.prog 117 = some 1 := by kernel_rfl
theorem zr117 : zeroOf Tryz.prog 117 = some [.nilFunc] := by kernel_rfl
theorem ag119 : isAggOf Tryz.prog 119 = some true := by kernel_rfl
theorem sz119 : sizeOf' Tryz.prog 119 = some 2 := by kernel_rfl
theorem zr119 : zeroOf Tryz.prog 119 = some [.int .i64 0, .nilFunc] := by kernel_rfl
theorem pl119 : placesOf Tryz.prog 119 = some [(0, 1), (1, 1)] := by kernel_rfl
theorem un127 : Tryz.prog.underlying 127 = some (.slice 119) := by kernel_rfl
theorem el127 : ElemOf Tryz.prog 127 119 2 16 := elemOf_of un127 (by kernel_rfl) rfl rfl
theorem fo119_1 : fieldOff Tryz.prog 119 1 = some 1 := by kernel_rfl
theorem ag118 : isAggOf Tryz.prog 118 = some false := by kernel_rfl
theorem fo119_0 : fieldOff Tryz.prog 119 0 = some 0 := by kernel_rfl
theorem pl85 : placesOf Tryz.prog 85 = some [(0, 1), (1, 1)] := by kernel_rfl
theorem zr27 : zeroOf Tryz.prog 27 = some [.slice none 0 0, .slice none 0 0, .slice none 0 0, .slice none 0 0, .slice none 0 0, .slice none 0 0, .slice none 0 0, .slice none 0 0, .slice none 0 0, .slice none 0 0, .slice none 0 0] := by kernel_rfl
theorem pl27 : placesOf Tryz.prog 27 = some [(0, 1), (1, 1), (2, 1), (3, 1), (4, 1), (5, 1), (6, 1), (7, 1), (8, 1), (9, 1), (10, 1)] := by kernel_rfl
theorem pl108 : placesOf Tryz.prog 108 = some [(0, 1), (1, 1), (2, 1)] := by kernel_rfl
theorem pl110 : placesOf Tryz.prog 110 = some [(0, 1), (1, 1)] := by kernel_rfl
theorem un5 : Tryz.prog.underlying 5 = some (.int .u8) := by kernel_rfl
theorem ag115 : isAggOf Tryz.prog 115 = some false := by kernel_rfl
theorem zr3 : zeroOf Tryz.prog 3 = some [.int .i64 0] := by kernel_rfl
theorem ag117 : isAggOf Tryz.prog 117 = some false := by kernel_rfl
theorem un146 : Tryz.prog.underlying 146 = some (.map 21 3) := by kernel_rfl
theorem zv3 : ∀ w : World, (zeroValue 3).run Tryz.prog w = .ok (.int .i64 0) w := fun _ => by kernel_rfl
theorem un147 : Tryz.prog.underlying 147 = some (.map 3 3) := by kernel_rfl
theorem ag149 : isAggOf Tryz.prog 149 = some true := by kernel_rfl
theorem zr149 : zeroOf Tryz.prog 149 = some [.slice none 0 0, .map none, .map none] := by kernel_rfl
theorem pl149 : placesOf Tryz.prog 149 = some [(0, 1), (1, 1), (2, 1)] := by kernel_rfl
theorem fo149_1 : fieldOff Tryz.prog 149 1 = some 1 := by kernel_rfl
theorem ag146 : isAggOf Tryz.prog 146 = some false := by kernel_rfl
theorem un150 : Tryz.prog.underlying 150 = some (.map 96 4) := by kernel_rfl
theorem zv4 : ∀ w : World, (zeroValue 4).run Tryz.prog w = .ok (.bool false) w := fun _ => by kernel_rfl
set_option maxRecDepth 1000000 in
theorem zr96 : zeroOf Tryz.prog 96 = some ([] ++ (vcs (Value.int .i32) (Vector.replicate 2 (0 : Int)) ++ [])) := by kernel_rfl
theorem un159 : Tryz.prog.underlying 159 = some (.int .u64) := by kernel_rfl
theorem fo62_9 : fieldOff Tryz.prog 62 9 = some 19 := by kernel_rfl
theorem fo62_0 : fieldOff Tryz.prog 62 0 = some 0 := by kernel_rfl
theorem un164 : Tryz.prog.underlying 164 = some (.slice 5) := by kernel_rfl
theorem el164 : ElemOf Tryz.prog 164 5 1 1 := elemOf_of un164 (by kernel_rfl) rfl rfl
theorem ag5 : isAggOf Tryz.prog 5 = some false := by kernel_rfl
theorem fo149_2 : fieldOff Tryz.prog 149 2 = some 2 := by kernel_rfl
theorem ag147 : isAggOf Tryz.prog 147 = some false := by kernel_rfl
theorem fo149_0 : fieldOff Tryz.prog 149 0 = some 0 := by kernel_rfl
set_option maxRecDepth 1000000 in
theorem zr105 : zeroOf Tryz.prog 105 = some ([] ++ (vcs (Value.int .u16) (Vector.replicate 8704 (0 : Int)) ++ [.slice none 0 0, .slice none 0 0])) := by kernel_rfl
theorem pl105 : placesOf Tryz.prog 105 = some [(0, 8704), (8704, 1), (8705, 1)] := by kernel_rfl
theorem un167 : Tryz.prog.underlying 167 = some (.map 101 99) := by kernel_rfl
def kv101 : KeyK Tryz.prog 101 (Vector Int 128) := KeyK.vec un101 (by kernel_rfl) (by kernel_rfl) sz99 un99 ag99
theorem zv99 : ∀ w : World, (zeroValue 99).run Tryz.prog w = .ok (.int .u16 0) w := fun _ => by kernel_rfl
theorem sz101 : sizeOf' Tryz.prog 101 = some 128 := by kernel_rfl
set_option maxRecDepth 1000000 in
theorem zr101 : zeroOf Tryz.prog 101 = some ([] ++ (vcs (Value.int .u16) (Vector.replicate 128 (0 : Int)) ++ [])) := by kernel_rfl
theorem ag101 : isAggOf Tryz.prog 101 = some true := by kernel_rfl
theorem fo105_2 : fieldOff Tryz.prog 105 2 = some 8705 := by kernel_rfl
theorem ag68 : isAggOf Tryz.prog 68 = some false := by kernel_rfl
theorem sz68 : sizeOf' Tryz.prog 68 = some 1 := by kernel_rfl
set_option maxRecDepth 1000000 in
theorem zb101 : zeroOf Tryz.prog 101 = some (vcs (Value.int .u16) (Vector.replicate 128 (0 : Int))) := by kernel_rfl
end Go.Proofs.YtekafkokpnihfaaGreat
