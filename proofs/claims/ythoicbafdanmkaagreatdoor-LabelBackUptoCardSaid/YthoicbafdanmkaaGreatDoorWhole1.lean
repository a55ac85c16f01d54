/- Texts of this repo, merged for the claim: Data, Facts, Ins, TP0, TP1. -/
import Derived.Test.YthoicbafdanmkaaGreatDoorWhole0
import Derived.Test.YthoicbafdanmkaaGreatDoorProg
import Derived.KernelRfl
/- The data of the program's structs. Written by this repo's structs.py. -/
namespace Go.Proofs.YthoicbafdanmkaaGreatDoor
open Go.RowKit
structure S8 where
 x:Int
 y:Int
 signed:Bool
 code:Int
 deriving Inhabited
structure S9 where
 msg:ByteArray
 addr:Int
 deriving Inhabited
structure Val where
 lo:Int
 hi:Int
 n:Int
 deriving Inhabited
def Qb:Rep Val:=⟨3,fun ρ cs x=>cs=[.int .i32 x.lo,.int .i32 x.hi,.int .i64 x.n],fun h=>by obtain rfl:=h;rfl,fun hle h=>by obtain rfl:=h;exact rfl,fun h=>by obtain rfl:=h;exact (Zb rfl (Zb rfl (Zb rfl Ym)))⟩
structure Chs where
 lo:Int
 hi:Int
 is_:List Int
 deriving Inhabited
def Kz:Rep Chs:=⟨3,fun ρ cs x=>∃ v2:Value,cs=[.int .i32 x.lo,.int .i32 x.hi,v2]∧SlR (Rep.int .i32) ρ v2 x.is_,fun h=>by obtain ⟨v2,rfl,f0⟩:=h;rfl,fun hle h=>by obtain ⟨v2,rfl,f0⟩:=h;exact ⟨v2,rfl,f0.mono hle⟩,fun h=>by obtain ⟨v2,rfl,f0⟩:=h;exact (Zb rfl (Zb rfl (Zb f0.one Ym)))⟩
structure Spn where
 lo:Int
 hi:Int
 deriving Inhabited
def Kj:Rep Spn:=⟨2,fun ρ cs x=>cs=[.int .i32 x.lo,.int .i32 x.hi],fun h=>by obtain rfl:=h;rfl,fun hle h=>by obtain rfl:=h;exact rfl,fun h=>by obtain rfl:=h;exact (Zb rfl (Zb rfl Ym))⟩
structure Bk where
 names:List ByteArray
 status:List Val
 maps:List Chs
 class_:List Val
 decomp:List Chs
 excl:List Spn
 bidi:List Val
 join:List Val
 marks:List Spn
 script:List Val
 like:List Chs
 deriving Inhabited
def rBk:Rep Bk:=⟨11,fun ρ cs x=>∃ v0 v1 v2 v3 v4 v5 v6 v7 v8 v9 v10:Value,cs=[v0,v1,v2,v3,v4,v5,v6,v7,v8,v9,v10]∧SlR Rep.str ρ v0 x.names∧SlR Qb ρ v1 x.status∧SlR Kz ρ v2 x.maps∧SlR Qb ρ v3 x.class_∧SlR Kz ρ v4 x.decomp∧SlR Kj ρ v5 x.excl∧SlR Qb ρ v6 x.bidi∧SlR Qb ρ v7 x.join∧SlR Kj ρ v8 x.marks∧SlR Qb ρ v9 x.script∧SlR Kz ρ v10 x.like,fun h=>by obtain ⟨v0,v1,v2,v3,v4,v5,v6,v7,v8,v9,v10,rfl,f0,f1,f2,f3,f4,f5,f6,f7,f8,f9,f10⟩:=h;rfl,fun hle h=>by obtain ⟨v0,v1,v2,v3,v4,v5,v6,v7,v8,v9,v10,rfl,f0,f1,f2,f3,f4,f5,f6,f7,f8,f9,f10⟩:=h;exact ⟨v0,v1,v2,v3,v4,v5,v6,v7,v8,v9,v10,rfl,f0.mono hle,f1.mono hle,f2.mono hle,f3.mono hle,f4.mono hle,f5.mono hle,f6.mono hle,f7.mono hle,f8.mono hle,f9.mono hle,f10.mono hle⟩,fun h=>by obtain ⟨v0,v1,v2,v3,v4,v5,v6,v7,v8,v9,v10,rfl,f0,f1,f2,f3,f4,f5,f6,f7,f8,f9,f10⟩:=h;exact (Zb f0.one (Zb f1.one (Zb f2.one (Zb f3.one (Zb f4.one (Zb f5.one (Zb f6.one (Zb f7.one (Zb f8.one (Zb f9.one (Zb f10.one Ym)))))))))))⟩
structure Tab where
 which:Vector Int 8704
 unlike:List (Vector Int 128)
 plain:List Bool
 deriving Inhabited
def Vj:Rep Tab:=⟨8706,fun ρ cs x=>∃ v1 v2:Value,cs=[]++(vcs (Value.int .u16) x.which++[v1,v2])∧SlR (Rep.arr (Value.int .u16) (Un .u16) 128) ρ v1 x.unlike∧SlR Rep.bool ρ v2 x.plain,fun h=>by obtain ⟨v1,v2,rfl,f0,f1⟩:=h;simp,fun hle h=>by obtain ⟨v1,v2,rfl,f0,f1⟩:=h;exact ⟨v1,v2,rfl,f0.mono hle,f1.mono hle⟩,fun h=>by obtain ⟨v1,v2,rfl,f0,f1⟩:=h;exact (Zsg Ym (Zsg (Zmu (Un .u16) _) (Zb f0.one (Zb f1.one Ym))))⟩
structure Tbs where
 b:Bk
 status:Option Tab
 class_:Option Tab
 bidi:Option Tab
 join:Option Tab
 script:Option Tab
 excl:Option Tab
 mark:Option Tab
 maps:Option Tab
 decomp:Option Tab
 likes:Option Tab
 pairs:List (Vector Int 2×Int)
 deriving Inhabited
def H4:Rep Tbs:=⟨22,fun ρ cs x=>∃ v0 v1 v2 v3 v4 v5 v6 v7 v8 v9 v10 v11 v12 v13 v14 v15 v16 v17 v18 v19 v20 v21:Value,cs=[v0,v1,v2,v3,v4,v5,v6,v7,v8,v9,v10,v11,v12,v13,v14,v15,v16,v17,v18,v19,v20,v21]∧SlR Rep.str ρ v0 x.b.names∧SlR Qb ρ v1 x.b.status∧SlR Kz ρ v2 x.b.maps∧SlR Qb ρ v3 x.b.class_∧SlR Kz ρ v4 x.b.decomp∧SlR Kj ρ v5 x.b.excl∧SlR Qb ρ v6 x.b.bidi∧SlR Qb ρ v7 x.b.join∧SlR Kj ρ v8 x.b.marks∧SlR Qb ρ v9 x.b.script∧SlR Kz ρ v10 x.b.like∧Xw Vj ρ v11 x.status∧Xw Vj ρ v12 x.class_∧Xw Vj ρ v13 x.bidi∧Xw Vj ρ v14 x.join∧Xw Vj ρ v15 x.script∧Xw Vj ρ v16 x.excl∧Xw Vj ρ v17 x.mark∧Xw Vj ρ v18 x.maps∧Xw Vj ρ v19 x.decomp∧Xw Vj ρ v20 x.likes∧Zk2 (fun y:Vector Int 2=>Value.agg (acs .i32 y.toList).toArray) (Value.int .i32) ρ v21 x.pairs,fun h=>by obtain ⟨v0,v1,v2,v3,v4,v5,v6,v7,v8,v9,v10,v11,v12,v13,v14,v15,v16,v17,v18,v19,v20,v21,rfl,f0,f1,f2,f3,f4,f5,f6,f7,f8,f9,f10,f11,f12,f13,f14,f15,f16,f17,f18,f19,f20,f21⟩:=h;rfl,fun hle h=>by obtain ⟨v0,v1,v2,v3,v4,v5,v6,v7,v8,v9,v10,v11,v12,v13,v14,v15,v16,v17,v18,v19,v20,v21,rfl,f0,f1,f2,f3,f4,f5,f6,f7,f8,f9,f10,f11,f12,f13,f14,f15,f16,f17,f18,f19,f20,f21⟩:=h;exact ⟨v0,v1,v2,v3,v4,v5,v6,v7,v8,v9,v10,v11,v12,v13,v14,v15,v16,v17,v18,v19,v20,v21,rfl,f0.mono hle,f1.mono hle,f2.mono hle,f3.mono hle,f4.mono hle,f5.mono hle,f6.mono hle,f7.mono hle,f8.mono hle,f9.mono hle,f10.mono hle,f11.mono hle,f12.mono hle,f13.mono hle,f14.mono hle,f15.mono hle,f16.mono hle,f17.mono hle,f18.mono hle,f19.mono hle,f20.mono hle,f21.mono hle⟩,fun h=>by obtain ⟨v0,v1,v2,v3,v4,v5,v6,v7,v8,v9,v10,v11,v12,v13,v14,v15,v16,v17,v18,v19,v20,v21,rfl,f0,f1,f2,f3,f4,f5,f6,f7,f8,f9,f10,f11,f12,f13,f14,f15,f16,f17,f18,f19,f20,f21⟩:=h;exact (Zb f0.one (Zb f1.one (Zb f2.one (Zb f3.one (Zb f4.one (Zb f5.one (Zb f6.one (Zb f7.one (Zb f8.one (Zb f9.one (Zb f10.one (Zb f11.one (Zb f12.one (Zb f13.one (Zb f14.one (Zb f15.one (Zb f16.one (Zb f17.one (Zb f18.one (Zb f19.one (Zb f20.one (Zb f21.one Ym))))))))))))))))))))))⟩
structure S10 where
 says:List Int
 coded:Bool
 fault:Int
 deriving Inhabited
def Z0t:Rep S10:=⟨3,fun ρ cs x=>∃ v0:Value,cs=[v0,.bool x.coded,.int .i64 x.fault]∧SlR (Rep.int .i32) ρ v0 x.says,fun h=>by obtain ⟨v0,rfl,f0⟩:=h;rfl,fun hle h=>by obtain ⟨v0,rfl,f0⟩:=h;exact ⟨v0,rfl,f0.mono hle⟩,fun h=>by obtain ⟨v0,rfl,f0⟩:=h;exact (Zb f0.one (Zb rfl (Zb rfl Ym)))⟩
structure Wh where
 list:Int
 row:Int
 deriving Inhabited
def rWh:Rep Wh:=⟨2,fun ρ cs x=>cs=[.int .i64 x.list,.int .i64 x.row],fun h=>by obtain rfl:=h;rfl,fun hle h=>by obtain rfl:=h;exact rfl,fun h=>by obtain rfl:=h;exact (Zb rfl (Zb rfl Ym))⟩
structure S11 where
 base:Int
 least:Int
 most:Int
 skew:Int
 damp:Int
 bias:Int
 first:Int
 between:Int
 deriving Inhabited
def Zd2:Rep S11:=⟨8,fun ρ cs x=>cs=[.int .i64 x.base,.int .i64 x.least,.int .i64 x.most,.int .i64 x.skew,.int .i64 x.damp,.int .i64 x.bias,.int .i64 x.first,.int .u8 x.between],fun h=>by obtain rfl:=h;rfl,fun hle h=>by obtain rfl:=h;exact rfl,fun h=>by obtain rfl:=h;exact (Zb rfl (Zb rfl (Zb rfl (Zb rfl (Zb rfl (Zb rfl (Zb rfl (Zb rfl Ym))))))))⟩
structure S12 where
 p:S11
 s:ByteArray
 at_:Int
 out:List Int
 n:Int
 i:Int
 bias:Int
 deriving Inhabited
structure S13 where
 l:List Chs
 rows:List (Int×Int)
 long:List (Int×Int)
 deriving Inhabited
structure S14 where
 lo:Int
 hi:Int
 deriving Inhabited
end Go.Proofs.YthoicbafdanmkaaGreatDoor
namespace Go.Proofs.YthoicbafdanmkaaGreatDoor
theorem Vr:Tryz.prog.follows .mixedOrders=true:=by kernel_rfl
theorem Zk3:Xf Tryz.prog 27=some true:=by kernel_rfl
theorem Zkz:Qp Tryz.prog 27=some 11:=by kernel_rfl
theorem Zfu:Qp Tryz.prog 34=some 11:=by kernel_rfl
theorem Zss:V2 Tryz.prog 34=some [.slice none 0 0,.slice none 0 0,.slice none 0 0,.slice none 0 0,.slice none 0 0,.slice none 0 0,.slice none 0 0,.slice none 0 0,.slice none 0 0,.slice none 0 0,.slice none 0 0]:=by kernel_rfl
theorem Ua:Tryz.prog.underlying 28=some (.slice 21):=by kernel_rfl
theorem Kk:Vu Tryz.prog 28 21 1 4:=Ha Ua (by kernel_rfl) rfl rfl
theorem un3:Tryz.prog.underlying 3=some (.int .i64):=by kernel_rfl
theorem Xn:Xf Tryz.prog 21=some false:=by kernel_rfl
theorem Zg3:Qp Tryz.prog 21=some 1:=by kernel_rfl
theorem Za8:Tryz.prog.underlying 21=some (.int .i32):=by kernel_rfl
theorem Zp9:Tryz.prog.underlying 29=some (.pointer 114):=by kernel_rfl
theorem un9:Tryz.prog.underlying 9=some .string:=by kernel_rfl
theorem Zdi:Qp Tryz.prog 43=some 3:=by kernel_rfl
theorem Zta:V2 Tryz.prog 43=some [.slice none 0 0,.bool false,.int .i64 0]:=by kernel_rfl
theorem Zkk:Yn Tryz.prog 43 1=some 1:=by kernel_rfl
theorem ag4:Xf Tryz.prog 4=some false:=by kernel_rfl
theorem sz4:Qp Tryz.prog 4=some 1:=by kernel_rfl
theorem Zd5:Yn Tryz.prog 43 2=some 2:=by kernel_rfl
theorem ag3:Xf Tryz.prog 3=some false:=by kernel_rfl
theorem sz3:Qp Tryz.prog 3=some 1:=by kernel_rfl
theorem Zf2:Yn Tryz.prog 43 0=some 0:=by kernel_rfl
theorem Za1:Xf Tryz.prog 28=some false:=by kernel_rfl
theorem Zw5:Qp Tryz.prog 28=some 1:=by kernel_rfl
theorem un4:Tryz.prog.underlying 4=some .bool:=by kernel_rfl
theorem Zxb:Tryz.prog.underlying 56=some (.slice 3):=by kernel_rfl
theorem Zt1:Vu Tryz.prog 56 3 1 8:=Ha Zxb (by kernel_rfl) rfl rfl
theorem Zkr:Xf Tryz.prog 34=some true:=by kernel_rfl
theorem Z0a:Ub Tryz.prog 34=some [(0,1),(1,1),(2,1),(3,1),(4,1),(5,1),(6,1),(7,1),(8,1),(9,1),(10,1)]:=by kernel_rfl
theorem Zft:Xf Tryz.prog 67=some true:=by kernel_rfl
theorem Zfd:Qp Tryz.prog 67=some 3:=by kernel_rfl
theorem Zml:V2 Tryz.prog 67=some [.int .i32 0,.int .i32 0,.int .i64 0]:=by kernel_rfl
theorem Zwr:Ub Tryz.prog 67=some [(0,1),(1,1),(2,1)]:=by kernel_rfl
theorem Zg2:Tryz.prog.underlying 23=some (.slice 67):=by kernel_rfl
theorem Zcx:Vu Tryz.prog 23 67 3 16:=Ha Zg2 (by kernel_rfl) rfl rfl
theorem Zzf:V2 Tryz.prog 27=some [.slice none 0 0,.slice none 0 0,.slice none 0 0,.slice none 0 0,.slice none 0 0,.slice none 0 0,.slice none 0 0,.slice none 0 0,.slice none 0 0,.slice none 0 0,.slice none 0 0]:=by kernel_rfl
theorem Z0p:Ub Tryz.prog 27=some [(0,1),(1,1),(2,1),(3,1),(4,1),(5,1),(6,1),(7,1),(8,1),(9,1),(10,1)]:=by kernel_rfl
theorem Zjj:Xf Tryz.prog 43=some true:=by kernel_rfl
theorem Z0x:Ub Tryz.prog 43=some [(0,1),(1,1),(2,1)]:=by kernel_rfl
theorem Zor:Tryz.prog.underlying 72=some (.slice 5):=by kernel_rfl
theorem Zii:Vu Tryz.prog 72 5 1 1:=Ha Zor (by kernel_rfl) rfl rfl
theorem un5:Tryz.prog.underlying 5=some (.int .u8):=by kernel_rfl
theorem Z0z:Qp Tryz.prog 56=some 1:=by kernel_rfl
theorem Z0y:V2 Tryz.prog 56=some [.slice none 0 0]:=by kernel_rfl
theorem Zp8:Xf Tryz.prog 29=some false:=by kernel_rfl
theorem Z0m:Xf Tryz.prog 56=some false:=by kernel_rfl
theorem Zhp:Tryz.prog.underlying 22=some (.slice 9):=by kernel_rfl
theorem Zhc:Vu Tryz.prog 22 9 1 16:=Ha Zhp (by kernel_rfl) rfl rfl
theorem Zns:Yn Tryz.prog 27 0=some 0:=by kernel_rfl
theorem Ztp:Xf Tryz.prog 22=some false:=by kernel_rfl
theorem Zd7:Yn Tryz.prog 27 1=some 1:=by kernel_rfl
theorem Zbx:Xf Tryz.prog 23=some false:=by kernel_rfl
theorem Zm1:Yn Tryz.prog 27 2=some 2:=by kernel_rfl
theorem Zfe:Xf Tryz.prog 24=some false:=by kernel_rfl
theorem Zfs:Tryz.prog.underlying 24=some (.slice 110):=by kernel_rfl
theorem Zep:Vu Tryz.prog 24 110 3 32:=Ha Zfs (by kernel_rfl) rfl rfl
theorem Zmg:Yn Tryz.prog 27 3=some 3:=by kernel_rfl
theorem Zfp:Yn Tryz.prog 27 4=some 4:=by kernel_rfl
theorem Zmc:Yn Tryz.prog 27 5=some 5:=by kernel_rfl
theorem Zn5:Xf Tryz.prog 25=some false:=by kernel_rfl
theorem Zky:Tryz.prog.underlying 25=some (.slice 129):=by kernel_rfl
theorem Zkx:Vu Tryz.prog 25 129 2 8:=Ha Zky (by kernel_rfl) rfl rfl
theorem Zne:Yn Tryz.prog 27 6=some 6:=by kernel_rfl
theorem Znm:Yn Tryz.prog 27 7=some 7:=by kernel_rfl
theorem Znf:Yn Tryz.prog 27 8=some 8:=by kernel_rfl
theorem Zmt:Yn Tryz.prog 27 9=some 9:=by kernel_rfl
theorem Zir:Yn Tryz.prog 27 10=some 10:=by kernel_rfl
theorem Zpv:Yn Tryz.prog 34 2=some 2:=by kernel_rfl
theorem Zjv:Xf Tryz.prog 31=some false:=by kernel_rfl
theorem Znh:Tryz.prog.underlying 31=some (.slice 87):=by kernel_rfl
theorem Zi5:Vu Tryz.prog 31 87 3 32:=Ha Znh (by kernel_rfl) rfl rfl
theorem Znc:Xf Tryz.prog 87=some true:=by kernel_rfl
theorem Zfn:Qp Tryz.prog 87=some 3:=by kernel_rfl
theorem Zo4:V2 Tryz.prog 87=some [.int .i32 0,.int .i32 0,.slice none 0 0]:=by kernel_rfl
theorem Z0v:Tryz.prog.underlying 84=some (.slice 4):=by kernel_rfl
theorem Hk:Vu Tryz.prog 84 4 1 1:=Ha Z0v (by kernel_rfl) rfl rfl
theorem Zqo:Yn Tryz.prog 34 1=some 1:=by kernel_rfl
theorem Zkl:Xf Tryz.prog 30=some false:=by kernel_rfl
theorem Zwm:Tryz.prog.underlying 30=some (.slice 128):=by kernel_rfl
theorem Zsz:Vu Tryz.prog 30 128 3 16:=Ha Zwm (by kernel_rfl) rfl rfl
theorem Zt9:Yn Tryz.prog 34 5=some 5:=by kernel_rfl
theorem Zw4:Xf Tryz.prog 32=some false:=by kernel_rfl
theorem Zvf:Tryz.prog.underlying 32=some (.slice 90):=by kernel_rfl
theorem Zih:Vu Tryz.prog 32 90 2 8:=Ha Zvf (by kernel_rfl) rfl rfl
theorem Zui:Xf Tryz.prog 90=some true:=by kernel_rfl
theorem Zxy:Qp Tryz.prog 90=some 2:=by kernel_rfl
theorem Zt4:V2 Tryz.prog 90=some [.int .i32 0,.int .i32 0]:=by kernel_rfl
theorem Zme:Yn Tryz.prog 90 0=some 0:=by kernel_rfl
theorem Zmk:Yn Tryz.prog 90 1=some 1:=by kernel_rfl
theorem Zuy:Yn Tryz.prog 34 0=some 0:=by kernel_rfl
theorem Ztv:Yn Tryz.prog 34 3=some 3:=by kernel_rfl
theorem Zhr:Yn Tryz.prog 34 4=some 4:=by kernel_rfl
theorem Zvx:Yn Tryz.prog 34 6=some 6:=by kernel_rfl
theorem Zuw:Yn Tryz.prog 34 7=some 7:=by kernel_rfl
theorem Zue:Yn Tryz.prog 34 8=some 8:=by kernel_rfl
theorem zr4:V2 Tryz.prog 4=some [.bool false]:=by kernel_rfl
theorem Ztu:Yn Tryz.prog 34 9=some 9:=by kernel_rfl
theorem Zre:Yn Tryz.prog 34 10=some 10:=by kernel_rfl
theorem H0:Qp Tryz.prog 100=some 2:=by kernel_rfl
theorem Zci:V2 Tryz.prog 100=some [.int .i64 0,.int .i64 0]:=by kernel_rfl
theorem Zyo:Tryz.prog.underlying 112=some (.map 115 21):=by kernel_rfl
theorem Zsa:Tryz.prog.underlying 115=some (.array 2 21):=by kernel_rfl
def Uo:Uq Tryz.prog 115 (Vector Int 2):=Uq.vec Zsa (by kernel_rfl) (by kernel_rfl) Zg3 Za8 Xn
theorem Z0r:∀ w:World,(zeroValue 21).run Tryz.prog w=.ok (.int .i32 0) w:=fun _=>by kernel_rfl
theorem Zyj:Xf Tryz.prog 114=some true:=by kernel_rfl
theorem Zx6:V2 Tryz.prog 114=some [.slice none 0 0,.slice none 0 0,.slice none 0 0,.slice none 0 0,.slice none 0 0,.slice none 0 0,.slice none 0 0,.slice none 0 0,.slice none 0 0,.slice none 0 0,.slice none 0 0,.pointer none,.pointer none,.pointer none,.pointer none,.pointer none,.pointer none,.pointer none,.pointer none,.pointer none,.pointer none,.map none]:=by kernel_rfl
theorem Zym:Ub Tryz.prog 114=some [(0,11),(11,1),(12,1),(13,1),(14,1),(15,1),(16,1),(17,1),(18,1),(19,1),(20,1),(21,1)]:=by kernel_rfl
theorem Zb1:Xf Tryz.prog 110=some true:=by kernel_rfl
theorem Zap:Qp Tryz.prog 110=some 3:=by kernel_rfl
theorem Zh1:V2 Tryz.prog 110=some [.int .i32 0,.int .i32 0,.slice none 0 0]:=by kernel_rfl
theorem Zac:Yn Tryz.prog 110 2=some 2:=by kernel_rfl
theorem Zwk:Yn Tryz.prog 114 6=some 16:=by kernel_rfl
theorem Zc5:Xf Tryz.prog 104=some false:=by kernel_rfl
theorem Zb3:Yn Tryz.prog 110 0=some 0:=by kernel_rfl
theorem Zux:Tryz.prog.underlying 104=some (.pointer 156):=by kernel_rfl
theorem Znq:Yn Tryz.prog 114 2=some 12:=by kernel_rfl
theorem Zoc:Yn Tryz.prog 114 11=some 21:=by kernel_rfl
theorem Zx9:Xf Tryz.prog 112=some false:=by kernel_rfl
theorem Zyi:Xf Tryz.prog 115=some true:=by kernel_rfl
theorem Zv8:Qp Tryz.prog 115=some 2:=by kernel_rfl
set_option maxRecDepth 1000000 in
theorem Zv0:(V2 Tryz.prog 115).map (·.length)=some 2:=by kernel_rfl
theorem Zxw:Yn Tryz.prog 114 7=some 17:=by kernel_rfl
theorem Zwu:Yn Tryz.prog 114 8=some 18:=by kernel_rfl
theorem Zxm:Yn Tryz.prog 114 1=some 11:=by kernel_rfl
theorem Zf4:Yn Tryz.prog 67 0=some 0:=by kernel_rfl
theorem Zej:Yn Tryz.prog 67 1=some 1:=by kernel_rfl
theorem Zew:Yn Tryz.prog 67 2=some 2:=by kernel_rfl
theorem Zqs:Xf Tryz.prog 128=some true:=by kernel_rfl
theorem Zl3:Qp Tryz.prog 128=some 3:=by kernel_rfl
theorem Zqz:V2 Tryz.prog 128=some [.int .i32 0,.int .i32 0,.int .i64 0]:=by kernel_rfl
theorem Zz9:Ub Tryz.prog 128=some [(0,1),(1,1),(2,1)]:=by kernel_rfl
theorem Zik:Yn Tryz.prog 110 1=some 1:=by kernel_rfl
theorem Z0s:Ub Tryz.prog 87=some [(0,1),(1,1),(2,1)]:=by kernel_rfl
theorem Zbg:Xf Tryz.prog 129=some true:=by kernel_rfl
theorem Hv:Qp Tryz.prog 129=some 2:=by kernel_rfl
theorem Za5:V2 Tryz.prog 129=some [.int .i32 0,.int .i32 0]:=by kernel_rfl
theorem U6:Yn Tryz.prog 129 0=some 0:=by kernel_rfl
theorem Vy:Yn Tryz.prog 129 1=some 1:=by kernel_rfl
theorem Zzd:Ub Tryz.prog 90=some [(0,1),(1,1)]:=by kernel_rfl
theorem Zct:Yn Tryz.prog 87 2=some 2:=by kernel_rfl
theorem Znd:Yn Tryz.prog 128 0=some 0:=by kernel_rfl
theorem Znv:Yn Tryz.prog 87 1=some 1:=by kernel_rfl
theorem Zm2:Yn Tryz.prog 128 1=some 1:=by kernel_rfl
theorem Zf6:Yn Tryz.prog 87 0=some 0:=by kernel_rfl
theorem ag9:Xf Tryz.prog 9=some false:=by kernel_rfl
theorem Zr3:Yn Tryz.prog 128 2=some 2:=by kernel_rfl
theorem H7:Xf Tryz.prog 100=some true:=by kernel_rfl
theorem Zx5:Qp Tryz.prog 133=some 1:=by kernel_rfl
theorem Zyl:V2 Tryz.prog 133=some [.nilFunc]:=by kernel_rfl
theorem Z0q:Qp Tryz.prog 135=some 1:=by kernel_rfl
theorem Z0l:V2 Tryz.prog 135=some [.nilFunc]:=by kernel_rfl
theorem Zal:Xf Tryz.prog 137=some true:=by kernel_rfl
theorem Zam:Qp Tryz.prog 137=some 2:=by kernel_rfl
theorem Zan:V2 Tryz.prog 137=some [.int .i64 0,.nilFunc]:=by kernel_rfl
theorem Zds:Ub Tryz.prog 137=some [(0,1),(1,1)]:=by kernel_rfl
theorem Zyp:Tryz.prog.underlying 145=some (.slice 137):=by kernel_rfl
theorem Zc3:Vu Tryz.prog 145 137 2 16:=Ha Zyp (by kernel_rfl) rfl rfl
theorem Zbb:Yn Tryz.prog 137 1=some 1:=by kernel_rfl
theorem Zdw:Xf Tryz.prog 136=some false:=by kernel_rfl
theorem Zba:Yn Tryz.prog 137 0=some 0:=by kernel_rfl
theorem Zc1:Ub Tryz.prog 100=some [(0,1),(1,1)]:=by kernel_rfl
theorem Zlc:Ub Tryz.prog 129=some [(0,1),(1,1)]:=by kernel_rfl
theorem Zgu:Yn Tryz.prog 156 1=some 8704:=by kernel_rfl
theorem Zr1:Xf Tryz.prog 154=some false:=by kernel_rfl
theorem Zz3:Qp Tryz.prog 154=some 1:=by kernel_rfl
theorem Zit:Yn Tryz.prog 156 0=some 0:=by kernel_rfl
theorem Zqt:Tryz.prog.underlying 153=some (.array 8704 150):=by kernel_rfl
theorem Zc0:Qp Tryz.prog 150=some 1:=by kernel_rfl
theorem Zlt:Xf Tryz.prog 150=some false:=by kernel_rfl
theorem Zx3:Tryz.prog.underlying 154=some (.slice 152):=by kernel_rfl
theorem Zr5:Vu Tryz.prog 154 152 128 256:=Ha Zx3 (by kernel_rfl) rfl rfl
theorem Zlv:Tryz.prog.underlying 152=some (.array 128 150):=by kernel_rfl
theorem Zl0:Tryz.prog.underlying 150=some (.int .u16):=by kernel_rfl
theorem Zyg:Xf Tryz.prog 118=some true:=by kernel_rfl
theorem Zx4:Qp Tryz.prog 118=some 8:=by kernel_rfl
theorem Zye:V2 Tryz.prog 118=some [.int .i64 0,.int .i64 0,.int .i64 0,.int .i64 0,.int .i64 0,.int .i64 0,.int .i64 0,.int .u8 0]:=by kernel_rfl
theorem Zz4:Ub Tryz.prog 118=some [(0,1),(1,1),(2,1),(3,1),(4,1),(5,1),(6,1),(7,1)]:=by kernel_rfl
theorem Zdr:Xf Tryz.prog 117=some true:=by kernel_rfl
theorem Zdz:Qp Tryz.prog 117=some 8:=by kernel_rfl
theorem Zrt:Yn Tryz.prog 117 7=some 7:=by kernel_rfl
theorem ag5:Xf Tryz.prog 5=some false:=by kernel_rfl
theorem Zio:Yn Tryz.prog 117 6=some 6:=by kernel_rfl
theorem Zq5:Yn Tryz.prog 117 5=some 5:=by kernel_rfl
theorem Zzr:Xf Tryz.prog 163=some true:=by kernel_rfl
theorem Zz2:V2 Tryz.prog 163=some [.int .i64 0,.int .i64 0,.int .i64 0,.int .i64 0,.int .i64 0,.int .i64 0,.int .i64 0,.int .u8 0,.string ⟨#[]⟩,.int .i64 0,.slice none 0 0,.int .i64 0,.int .i64 0,.int .i64 0]:=by kernel_rfl
theorem Z0k:Ub Tryz.prog 163=some [(0,8),(8,1),(9,1),(10,1),(11,1),(12,1),(13,1)]:=by kernel_rfl
theorem Zg4:Yn Tryz.prog 163 3=some 10:=by kernel_rfl
theorem Zb5:Yn Tryz.prog 163 2=some 9:=by kernel_rfl
theorem Zwt:Yn Tryz.prog 114 0=some 0:=by kernel_rfl
theorem Zfm:Xf Tryz.prog 133=some false:=by kernel_rfl
theorem zr3:V2 Tryz.prog 3=some [.int .i64 0]:=by kernel_rfl
theorem Zzq:Xf Tryz.prog 135=some false:=by kernel_rfl
theorem Zyq:Tryz.prog.underlying 181=some (.map 21 3):=by kernel_rfl
theorem zv3:∀ w:World,(zeroValue 3).run Tryz.prog w=.ok (.int .i64 0) w:=fun _=>by kernel_rfl
theorem Zv3:Tryz.prog.underlying 182=some (.map 3 3):=by kernel_rfl
theorem Zzi:Xf Tryz.prog 184=some true:=by kernel_rfl
theorem Zzk:V2 Tryz.prog 184=some [.slice none 0 0,.map none,.map none]:=by kernel_rfl
theorem Z0g:Ub Tryz.prog 184=some [(0,1),(1,1),(2,1)]:=by kernel_rfl
theorem Zrk:Yn Tryz.prog 184 1=some 1:=by kernel_rfl
theorem Zyh:Xf Tryz.prog 181=some false:=by kernel_rfl
theorem Zx7:Tryz.prog.underlying 185=some (.map 115 4):=by kernel_rfl
theorem zv4:∀ w:World,(zeroValue 4).run Tryz.prog w=.ok (.bool false) w:=fun _=>by kernel_rfl
set_option maxRecDepth 1000000 in
theorem Zzu:V2 Tryz.prog 115=some ([]++(vcs (Value.int .i32) (Vector.replicate 2 (0:Int))++[])):=by kernel_rfl
theorem Zbt:Yn Tryz.prog 117 0=some 0:=by kernel_rfl
theorem Zwi:Yn Tryz.prog 117 4=some 4:=by kernel_rfl
theorem Zro:Yn Tryz.prog 117 1=some 1:=by kernel_rfl
theorem Zrj:Yn Tryz.prog 117 2=some 2:=by kernel_rfl
theorem Zxi:Yn Tryz.prog 117 3=some 3:=by kernel_rfl
theorem Zbi:Yn Tryz.prog 163 5=some 12:=by kernel_rfl
theorem Zfb:Yn Tryz.prog 163 0=some 0:=by kernel_rfl
theorem Zsd:Yn Tryz.prog 163 6=some 13:=by kernel_rfl
theorem Zgc:Yn Tryz.prog 163 4=some 11:=by kernel_rfl
theorem Zm4:Yn Tryz.prog 184 2=some 2:=by kernel_rfl
theorem Zvv:Xf Tryz.prog 182=some false:=by kernel_rfl
theorem Zw2:Yn Tryz.prog 184 0=some 0:=by kernel_rfl
set_option maxRecDepth 1000000 in
theorem Z0h:V2 Tryz.prog 156=some ([]++(vcs (Value.int .u16) (Vector.replicate 8704 (0:Int))++[.slice none 0 0,.slice none 0 0])):=by kernel_rfl
theorem Zzl:Ub Tryz.prog 156=some [(0,8704),(8704,1),(8705,1)]:=by kernel_rfl
theorem Zyd:Tryz.prog.underlying 203=some (.map 152 150):=by kernel_rfl
def Zgb:Uq Tryz.prog 152 (Vector Int 128):=Uq.vec Zlv (by kernel_rfl) (by kernel_rfl) Zc0 Zl0 Zlt
theorem Zzy:∀ w:World,(zeroValue 150).run Tryz.prog w=.ok (.int .u16 0) w:=fun _=>by kernel_rfl
theorem Zl7:Qp Tryz.prog 152=some 128:=by kernel_rfl
set_option maxRecDepth 1000000 in
theorem Zzv:V2 Tryz.prog 152=some ([]++(vcs (Value.int .u16) (Vector.replicate 128 (0:Int))++[])):=by kernel_rfl
theorem Zrb:Xf Tryz.prog 152=some true:=by kernel_rfl
theorem Zrv:Yn Tryz.prog 156 2=some 8705:=by kernel_rfl
theorem Z0w:Xf Tryz.prog 84=some false:=by kernel_rfl
theorem Z0u:Qp Tryz.prog 84=some 1:=by kernel_rfl
set_option maxRecDepth 1000000 in
theorem Zz6:V2 Tryz.prog 152=some (vcs (Value.int .u16) (Vector.replicate 128 (0:Int))):=by kernel_rfl
theorem Zqx:Yn Tryz.prog 163 1=some 8:=by kernel_rfl
theorem Zwx:Yn Tryz.prog 114 4=some 14:=by kernel_rfl
theorem Zw7:Yn Tryz.prog 114 9=some 19:=by kernel_rfl
theorem Zh9:Tryz.prog.underlying 215=some (.int .u64):=by kernel_rfl
end Go.Proofs.YthoicbafdanmkaaGreatDoor
/- slices.Insert of one rune into a row of one's own, by hand. Own work of this repo. -/
namespace Go.Proofs.YthoicbafdanmkaaGreatDoor
open Go.IntKind (i8 i16 i32 i64 u8 u16 u32 u64)
open Go.RowKit
theorem Zur (C D zs:List Value) (z:Value) (k:Nat) (hC:C.length=k) (hz:zs.length=D.length+1):wl D (k+1) (wl [z] k (C++zs))=C++z::D:=by
 cases zs with
 | nil=>simp at hz
 | cons y t=>
  have ht:t.length=D.length:=by simpa using hz
  subst hC
  rw [Zny [z] _ _ (by simp)]
  have e:(C++y::t).take C.length++([z]++(C++y::t).drop (C.length+[z].length))=(C++[z])++t:=by
   rw [List.take_left',List.drop_append]
   ·simp
   ·rfl
  rw [e,Zny D _ _ (by simp;omega),List.take_left' (by simp),List.drop_append,List.drop_of_length_le (l:=C++[z]) (by simp),List.drop_of_length_le (by simp;omega)]
  simp
theorem Zus (C D:List Value) (y z:Value) (k:Nat) (hC:C.length=k):wl [z] k (wl D (k+1) (C++D++[y]))=C++z::D:=by
 subst hC
 obtain ⟨h,t,ht,hl⟩:∃ h t,D++[y]=h::t∧t.length=D.length:=by
  cases hd:D++[y] with
  | nil=>simp at hd
  | cons h t=>exact ⟨h,t,rfl,by have:=congrArg List.length hd;simp at this;omega⟩
 rw [List.append_assoc,ht,Zny D _ _ (by simp;omega)]
 have e:(C++h::t).take (C.length+1)++(D++(C++h::t).drop (C.length+1+D.length))=C++(h::D):=by
  rw [show C++h::t=(C++[h])++t by simp,List.take_left' (by simp),List.drop_of_length_le (by simp;omega)]
  simp
 rw [e,Zny [z] _ _ (by simp),List.take_left' rfl,List.drop_append]
 simp
set_option maxRecDepth 100000 in
set_option maxHeartbeats 4000000 in
theorem Zk0.c {w0 w:World} {ρ:Hp} {Γ:List Kd} {v u:Value} {cs ds:List Value} {xs:List Int} {z i:Int} (hs:St w0 ρ ((.row v 21 (Rep.int .i32).sz xs.length cs)::(.row u 21 (Rep.int .i32).sz 1 ds)::Γ) w) (f:Zp (Rep.int .i32) ρ cs xs) (g:Zp (Rep.int .i32) ρ ds [z]) (h0:0≤i) (h1:i≤(xs.length:Int)) (hm:xs.length+1≤most):
  Zq Tryz.prog 162 [v,.int .i64 i,u] w (fun r w'=>∃ cs',St w0 ρ ((.row r 21 (Rep.int .i32).sz (H3 xs i z).length cs')::Γ) w'∧Zp (Rep.int .i32) ρ cs' (H3 xs i z)):=by
 have hbig:most=2147483648:=rfl
 have hn:∃ n,xs.length=n:=⟨_,rfl⟩
 obtain ⟨n,hn⟩:=hn
 obtain ⟨k,rfl⟩:∃ k:Nat,i=k:=⟨i.toNat,by omega⟩
 have hil:(H3 xs k z).length=n+1:=by simp [H3];omega
 rw [hil]
 rw [hn] at hs h1 hm
 have hcs:=f.ints
 have hds:=g.ints
 subst hcs hds
 have hs:St w0 ρ ((.row v 21 1 n (xs.map (Value.int .i32)))::(.row u 21 1 1 [.int .i32 z])::Γ) w:=hs
 clear f g
 have hfin:∀ (r:Value) (w':World),St w0 ρ ((.row r 21 1 (n+1) ((H3 xs k z).map (Value.int .i32)))::Γ) w'→∃ cs',St w0 ρ ((.row r 21 (Rep.int .i32).sz (n+1) cs')::Γ) w'∧Zp (Rep.int .i32) ρ cs' (H3 xs k z):=fun r w' h=>⟨_,h,Zp.ofInts _⟩
 have hik:((k:Int)).toNat=k:=by omega
 have hone:∀ v∈xs.map (Value.int .i32),v.oneCell'=true:=fun v hv=>by
  obtain ⟨y,_,rfl⟩:=List.mem_map.1 hv
  rfl
 have w1:i64.wrap ((n:Int)+((1:Nat):Int))=((n+1:Nat):Int):=by rw [IntKind.wrap_i64];omega
 have w2:i64.wrap ((k:Int)+((1:Nat):Int))=((k+1:Nat):Int):=by rw [IntKind.wrap_i64];omega
 have w3:i64.wrap (((n+1:Nat):Int)-(k:Int))=((n+1-k:Nat):Int):=by rw [IntKind.wrap_i64];omega
 obtain ⟨a,c,rfl,hnc⟩:∃ a c,v=.slice a n c∧n≤c:=by
  have hok:w.ownsRow 0 21 1 v n _:=hs.ok _ (List.mem_of_getElem? (i:=0) rfl)
  rcases hok.2 with ⟨rfl,rfl⟩ | ⟨q,cap,cur,rfl,_,_,h,_⟩
  ·exact ⟨none,0,rfl,Nat.le_refl _⟩
  ·exact ⟨_,_,rfl,h⟩
 refine enter Tryz.func162 Tryz.ntmps162 rfl (by kernel_rfl) rfl ?_
 refine Zi fun N1 n1=>?_
 refine Zc ?_
 refine O_y rfl (Xz rfl) ?_
 refine Zd (n1 _ _ ?_)
 refine Zi fun N2 n2=>?_
 refine Zc ?_
 refine O_y rfl (Qm rfl) ?_
 refine O_y rfl (Qm rfl) ?_
 refine O_y rfl (Zgh Kk rfl (.inr ⟨_,_,rfl,rfl⟩) (.inl ⟨rfl,rfl⟩) h0 h1 (Int.le_refl _) hnc) ?_
 refine Zd (n2 _ _ ?_)
 refine Zi fun N3 n3=>?_
 refine Zc ?_
 refine O_y rfl (Qm rfl) ?_
 refine O_y rfl (Hg (i:=1) Ua hs rfl rfl) ?_
 refine O_y rfl (Xz rfl) ?_
 refine Zd (n3 _ _ ?_)
 refine Zi fun N4 n4=>?_
 refine Zi fun M4 m4=>?_
 refine Zc ?_
 refine O_y rfl (Qm rfl) ?_
 refine O_y rfl (Zbw rfl rfl) ?_
 refine Zd (m4 _ _ ?_)
 refine Xa rfl (fun c1=>absurd c1 (by decide)) (fun _=>?_)
 refine Ui (n4 _ _ ?_)
 refine Zi fun N6 n6=>?_
 refine Zc ?_
 refine O_y rfl (Qm rfl) ?_
 refine O_y rfl (Hg (i:=0) Ua hs rfl rfl) ?_
 refine O_y rfl (Xz rfl) ?_
 refine Zd (n6 _ _ ?_)
 refine Zi fun N7 n7=>?_
 refine Zi fun M7 m7=>?_
 refine Zc ?_
 refine O_y rfl (Qm rfl) ?_
 refine O_y rfl (Qm rfl) ?_
 refine O_y rfl (Zbw rfl rfl) ?_
 refine Zd (m7 _ _ ?_)
 refine Xa rfl (fun c2=>?_) (fun c2=>?_)
 ·refine Zi fun N9 n9=>?_
  refine Zc ?_
  refine O_y rfl (Qm rfl) ?_
  refine O_y rfl (Qm rfl) ?_
  refine Zo8 (i:=0) Kk hs rfl rfl rfl rfl (Src.row hs (j:=1) rfl (by intro y hy;simp at hy;subst hy;rfl)) hm (fun v' w hs=>?_)
  refine O_y rfl (Xz rfl) ?_
  refine Zd (n9 _ _ ?_)
  refine Zm ?_
  refine Zxv rfl rfl (hfin _ _ ?_)
  have e:(H3 xs k z).map (Value.int .i32)=xs.map (Value.int .i32)++[.int .i32 z]:=by
   simp only [H3,hik]
   rw [List.take_of_length_le (by omega),List.drop_of_length_le (by omega)]
   simp
  rw [e]
  exact hs.sub (.cons_cons _ (.cons _ (List.Sublist.refl _)))
 ·have hkn:k<n:=by omega
  refine Ui (n7 _ _ ?_)
  obtain ⟨gb,rfl⟩:∃ gb,a=some ⟨gb,0,none⟩:=by
   have hok:w.ownsRow 0 21 1 (.slice a n c) n _:=hs.ok _ (List.mem_of_getElem? (i:=0) rfl)
   rcases hok.2 with ⟨_,h⟩ | ⟨q,cap,cur,h,_⟩
   ·omega
   ·cases h;exact ⟨_,rfl⟩
  obtain ⟨gu,cu,rfl⟩:∃ gu cu,u=.slice (some ⟨gu,0,none⟩) 1 cu:=by
   have hok:w.ownsRow 0 21 1 u 1 _:=hs.ok _ (List.mem_of_getElem? (i:=1) rfl)
   rcases hok.2 with ⟨_,h⟩ | ⟨q,cap,cur,h,_⟩
   ·omega
   ·exact ⟨_,_,h⟩
  have hne:gu≠gb:=by
   have:=hs.nodup
   simp only [List.filterMap_cons,Kd.blk,Value.ownBlock] at this
   intro e
   subst e
   simp at this
  have hdl:((xs.map (Value.int .i32)).drop k).length=n-k:=by simp;omega
  refine Zi fun N10 n10=>?_
  refine Zi fun M10 m10=>?_
  refine Zc ?_
  refine O_y rfl (Qm rfl) ?_
  refine O_y rfl (Qm rfl) ?_
  refine O_y rfl (H8 rfl rfl) ?_
  rw [w1]
  refine O_y rfl (Qm rfl) ?_
  refine O_y rfl (Z0d Ua rfl) ?_
  refine O_y rfl (Zlq rfl rfl) ?_
  refine Zd (m10 _ _ ?_)
  refine Xa rfl (fun c3=>?_) (fun c3=>?_)
  ·have hcn:c<k+(n+1-k):=by omega
   refine Zi fun N12 n12=>?_
   refine Zc ?_
   refine O_y rfl (Qm rfl) ?_
   refine O_y rfl (Qm rfl) ?_
   refine O_y rfl (Zlf Kk rfl rfl h0 (by omega)) ?_
   rw [hik]
   refine O_y rfl (Qm rfl) ?_
   refine O_y rfl (Qm rfl) ?_
   refine O_y rfl (H8 rfl rfl) ?_
   rw [w1]
   refine O_y rfl (Qm rfl) ?_
   refine O_y rfl (Zc8 rfl rfl) ?_
   rw [w3]
   refine Zms (olds:=(xs.map (Value.int .i32)).take k) Kk un3 hs rfl rfl rfl (by simp;omega) (fun j y hj=>?_) (by omega) hcn (by omega) (fun b zs c' w hz hc' hs=>?_)
   ·rw [List.getElem?_take] at hj
    split at hj
    ·rw [Addr.add_lit,Nat.zero_add];exact hs.rowCell (j:=0) rfl rfl hj
    ·cases hj
   have ek:k+(n+1-k)=n+1:=by omega
   rw [ek] at hs hc' ⊢
   refine O_y rfl (Xz rfl) ?_
   refine Zd (n12 _ _ ?_)
   refine Zi fun N13 n13=>?_
   refine Zc ?_
   refine O_y rfl (Qm rfl) ?_
   refine O_y rfl (Qm rfl) ?_
   refine O_y rfl (Zaw Kk rfl rfl (by omega) (by omega) hc') ?_
   refine O_y rfl (Qm rfl) ?_
   refine Ze7 (j:=0) (vs:=[.int .i32 z]) (g:=b) Kk hs rfl rfl rfl rfl rfl (by simp only [Nat.min_def];split<;>simp<;>omega) (by simp [hz];omega) (fun j y hj=>?_) (by intro y hy;simp at hy;subst hy;rfl) (fun w hs=>?_)
   ·rw [Addr.add_lit,Nat.zero_add];exact hs.rowCell (j:=2) rfl rfl hj
   refine Zd (n13 _ _ ?_)
   refine Zi fun N15 n15=>?_
   refine Qt 9 [0,0,0,6,9,0,0,96,144] [494,501,499,481,224,351,319,31,0] [0,0,0,6,15,0,0,96,255] [] (fun _=>True) Vr (by kernel_rfl) (fun sh=>?_)
   have hs:=hs.drew
   refine Zbo sh (i:=0) rfl rfl (by kernel_rfl) (fun w=>Qm rfl) ?_
   refine Zbo sh (i:=1) rfl rfl (by kernel_rfl) (fun w=>Qm rfl) ?_
   refine Zbo sh (i:=2) rfl rfl (by kernel_rfl) (fun w=>Qm rfl) ?_
   refine Zbo sh (i:=3) rfl rfl (by kernel_rfl) (fun w=>H8 rfl rfl) ?_
   rw [w2]
   refine Zbo sh (i:=4) rfl rfl (by kernel_rfl) (fun w=>Zaw Kk rfl rfl (by omega) (by omega) hc') ?_
   refine Zbo sh (i:=5) rfl rfl (by kernel_rfl) (fun w=>Qm rfl) ?_
   refine Zbo sh (i:=6) rfl rfl (by kernel_rfl) (fun w=>Qm rfl) ?_
   refine Zbo sh (i:=7) rfl rfl (by kernel_rfl) (fun w=>Zaw Kk rfl rfl (by omega) (by omega) hnc) ?_
   refine Zmp sh (i:=8) rfl (by kernel_rfl) (fun N16 n16=>?_)
   refine Ze7 (j:=0) (vs:=(xs.map (Value.int .i32)).drop k) (g:=b) Kk hs rfl rfl rfl rfl rfl (by rw [hdl];simp only [Nat.min_def];split<;>omega) (by simp [Zqn,hz];omega) (fun j y hj=>?_) (fun y hy=>hone y (List.mem_of_mem_drop hy)) (fun w hs=>?_)
   ·rw [Addr.add_lit,Nat.zero_add]
    rw [List.getElem?_drop] at hj
    exact hs.rowCell (j:=1) rfl rfl hj
   refine Zd (n16 _ _ (fun _ _=>trivial) ?_)
   refine Zix sh (by kernel_rfl) (n15 _ _ ?_)
   refine Zi fun N17 n17=>?_
   refine Zc ?_
   refine O_y rfl (Qm rfl) ?_
   refine O_y rfl (Xz rfl) ?_
   refine Zd (n17 _ _ ?_)
   refine Zm ?_
   refine Zxv rfl rfl (hfin _ _ ?_)
   have e:(H3 xs k z).map (Value.int .i32)=wl ((xs.map (Value.int .i32)).drop k) (0+(k+1)) (wl [.int .i32 z] (0+k) ((xs.map (Value.int .i32)).take k++zs)):=by
    rw [Nat.zero_add,Nat.zero_add,Zur _ _ _ _ k (by simp;omega) (by rw [hdl,hz];omega)]
    simp [H3,hik]
   rw [e]
   exact hs.sub (.cons_cons _ (.cons _ (.cons _ (List.Sublist.refl _))))
  ·refine Ui (n10 _ _ ?_)
   have hcn:n+1≤c:=by omega
   refine Zi fun N12 n12=>?_
   refine Zc ?_
   refine O_y rfl (Qm rfl) ?_
   refine O_y rfl (Qm rfl) ?_
   refine O_y rfl (Qm rfl) ?_
   refine O_y rfl (H8 rfl rfl) ?_
   rw [w1]
   refine O_y rfl (Zlf Kk rfl rfl (by omega) (by omega)) ?_
   have e1:((n+1:Nat):Int).toNat=n+1:=by omega
   rw [e1]
   refine O_y rfl (Xz rfl) ?_
   refine Zd (n12 _ _ ?_)
   obtain ⟨y0,hs⟩:=hs.rowRoom (j:=0) rfl hcn
   refine Zi fun N13 n13=>?_
   refine Zi fun M13 m13=>?_
   refine Zc ?_
   refine O_y rfl (Qm rfl) ?_
   refine O_y rfl (Qm rfl) ?_
   refine O_y rfl (Qm rfl) ?_
   refine O_y rfl (Qm rfl) ?_
   refine O_y rfl (H8 rfl rfl) ?_
   rw [w2]
   refine O_y rfl (Zaw Kk rfl rfl (by omega) (by omega) hcn) ?_
   refine O_y rfl (Z0f (r:=.bool false) rfl ?_) ?_
   ·have hu:w.ownsRow 0 21 1 (.slice (some ⟨gu,0,none⟩) 1 cu) 1 _:=hs.ok _ (List.mem_of_getElem? (i:=1) rfl)
    have hv:w.ownsRow 0 21 1 (.slice (some ⟨gb,0,none⟩) (n+1) c) (n+1) _:=hs.ok _ (List.mem_of_getElem? (i:=0) rfl)
    obtain ⟨cA,hA⟩:∃ cA,w.heap[gu]?=some (.cells cA 21 (0,0)):=by
     rcases hu.2 with ⟨h,_⟩ | ⟨q,cap,cur,h,_,hh,_⟩
     ·cases h
     ·cases h;exact ⟨_,hh⟩
    obtain ⟨cB,hB,hBz⟩:∃ cB,w.heap[gb]?=some (.cells cB 21 (0,0))∧cB.size≠0:=by
     rcases hv.2 with ⟨h,_⟩ | ⟨q,cap,cur,h,_,hh,h3,_,h5,_⟩
     ·cases h
     ·cases h;exact ⟨_,hh,by omega⟩
    rw [run_callFunc_extern Tryz.func176 (by kernel_rfl) (by kernel_rfl) (by kernel_rfl) (e:=Extern.SlicesOverlaps.overlaps #[28,28] #[4]) (by kernel_rfl),
     Lib.run_overlaps_apart w 28 4 21 Ua 1 (fun w=>U2 Zg3) ⟨gu,0,none⟩ ⟨gb,0+(k+1),none⟩ 1 cu _ _ hne 21 21 cA.size cB.size (by simp [World.shape?,hA]) (by simp [World.shape?,hB]) hBz (by simp [World.frozen?,hA]) (by simp [World.frozen?,hA])]
    rfl
   refine O_y rfl (Zvz rfl) ?_
   refine Zd (m13 _ _ ?_)
   refine Zak rfl ?_
   refine Zi fun N15 n15=>?_
   refine Qt 9 [0,0,0,6,9,0,0,96,144] [494,501,499,481,224,351,319,31,0] [0,0,0,6,15,0,0,96,255] [] (fun _=>True) Vr (by kernel_rfl) (fun sh=>?_)
   have hs:=hs.drew
   refine Zbo sh (i:=0) rfl rfl (by kernel_rfl) (fun w=>Qm rfl) ?_
   refine Zbo sh (i:=1) rfl rfl (by kernel_rfl) (fun w=>Qm rfl) ?_
   refine Zbo sh (i:=2) rfl rfl (by kernel_rfl) (fun w=>Qm rfl) ?_
   refine Zbo sh (i:=3) rfl rfl (by kernel_rfl) (fun w=>H8 rfl rfl) ?_
   rw [w2]
   refine Zbo sh (i:=4) rfl rfl (by kernel_rfl) (fun w=>Zaw Kk rfl rfl (by omega) (by omega) hcn) ?_
   refine Zbo sh (i:=5) rfl rfl (by kernel_rfl) (fun w=>Qm rfl) ?_
   refine Zbo sh (i:=6) rfl rfl (by kernel_rfl) (fun w=>Qm rfl) ?_
   refine Zbo sh (i:=7) rfl rfl (by kernel_rfl) (fun w=>Zaw Kk rfl rfl (by omega) (by omega) hcn) ?_
   refine Zmp sh (i:=8) rfl (by kernel_rfl) (fun N16 n16=>?_)
   refine Ze7 (j:=0) (vs:=(xs.map (Value.int .i32)).drop k) (g:=gb) Kk hs rfl rfl rfl rfl rfl (by rw [hdl];simp only [Nat.min_def];split<;>omega) (by simp;omega) (fun j y hj=>?_) (fun y hy=>hone y (List.mem_of_mem_drop hy)) (fun w hs=>?_)
   ·rw [Addr.add_lit,Nat.zero_add]
    rw [List.getElem?_drop] at hj
    exact hs.rowCell (j:=0) rfl rfl (by rw [List.getElem?_append_left (List.getElem?_eq_some_iff.1 hj).1];exact hj)
   refine Zd (n16 _ _ (fun _ _=>trivial) ?_)
   refine Zix sh (by kernel_rfl) (n15 _ _ ?_)
   refine Zi fun N17 n17=>?_
   refine Zc ?_
   refine O_y rfl (Qm rfl) ?_
   refine O_y rfl (Qm rfl) ?_
   refine O_y rfl (Zaw Kk rfl rfl (by omega) (by omega) hcn) ?_
   refine O_y rfl (Qm rfl) ?_
   refine Ze7 (j:=0) (vs:=[.int .i32 z]) (g:=gb) Kk hs rfl rfl rfl rfl rfl (by simp only [Nat.min_def];split<;>simp<;>omega) (by simp [Zqn];omega) (fun j y hj=>?_) (by intro y hy;simp at hy;subst hy;rfl) (fun w hs=>?_)
   ·rw [Addr.add_lit,Nat.zero_add];exact hs.rowCell (j:=1) rfl rfl hj
   refine Zd (n17 _ _ ?_)
   refine Zi fun N18 n18=>?_
   refine Zc ?_
   refine O_y rfl (Qm rfl) ?_
   refine O_y rfl (Xz rfl) ?_
   refine Zd (n18 _ _ ?_)
   refine Zm ?_
   refine Zxv rfl rfl (hfin _ _ ?_)
   have e:(H3 xs k z).map (Value.int .i32)=wl [.int .i32 z] (0+k) (wl ((xs.map (Value.int .i32)).drop k) (0+(k+1)) (xs.map (Value.int .i32)++[y0])):=by
    have e0:xs.map (Value.int .i32)=(xs.map (Value.int .i32)).take k++(xs.map (Value.int .i32)).drop k:=(List.take_append_drop k _).symm
    rw [Nat.zero_add,Nat.zero_add]
    rw [show wl ((xs.map (Value.int .i32)).drop k) (k+1) (xs.map (Value.int .i32)++[y0])=wl ((xs.map (Value.int .i32)).drop k) (k+1) ((xs.map (Value.int .i32)).take k++(xs.map (Value.int .i32)).drop k++[y0]) from by rw [← e0]]
    rw [Zus _ _ _ _ k (by simp;omega)]
    simp [H3,hik]
   rw [e]
   exact hs.sub (.cons_cons _ (.cons _ (List.Sublist.refl _)))
end Go.Proofs.YthoicbafdanmkaaGreatDoor
/- Written by this repo's gen.py: for each Go function a Lean function with the same answers and the walk that shows it. -/
namespace Go.Proofs.YthoicbafdanmkaaGreatDoor
open Go.IntKind (i8 i16 i32 i64 u8 u16 u32 u64)
open Go.RowKit
set_option maxRecDepth 100000
set_option maxHeartbeats 4000000
variable {w0 w:World} {ρ:Hp} {Γ:List Kd}
set_option linter.unusedVariables false
def Xt.j1 (ae:Int→Option Bool) (aa:Int) (ab:Bool):Option Bool:=if ab=true then (some false) else (ae (i64.wrap (aa+1)))
def Xt.l1:Nat→ByteArray→Int→Option Bool
  | 0,_,_=>none
  | ad+1,x0,aa=>if aa<((Qs x0).length:Int) then (if (0:Int)≤aa∧aa<((Qs x0).length:Int) then (if (bOr .u8 (rd (Qs x0) aa) 32)<97 then (Xt.j1 (Xt.l1 ad x0) aa true) else (Xt.j1 (Xt.l1 ad x0) aa (decide (122<(bOr .u8 (rd (Qs x0) aa) 32))))) else none) else (some true)
def Xt.j2 (x0:ByteArray) (ac:Bool):Option Bool:=if ac=true then (some false) else (Xt.l1 K0 x0 0)
def Xt.f (x0:ByteArray):Option Bool:=if (x0.size:Int)<1 then (Xt.j2 x0 true) else (Xt.j2 x0 (decide (32<(x0.size:Int))))
theorem Xt.c (hs:St w0 ρ (Γ) w) {x0:ByteArray} {r:Bool} (H:Xt.f x0=some r):Zq Tryz.prog 143 [.string x0] w (fun v w'=>v=.bool r∧St w0 ρ Γ w'):=by
 rw [Xt.f] at H
 refine Et Tryz.func143 Tryz.ntmps143 rfl<|Wr fun bf ax=>As rfl<|Ox ax<|Zi fun bg ay=>Yt fun az a0 ao=>?_
 have ap:∀ (ac:Bool) (w:World),Xt.j2 x0 ac=some r→St w0 ρ (Γ) w→az [(0,.string x0),(12,.bool ac)] w:=by
  intro ac w H hs
  rw [Xt.j2] at H
  refine a0 _ _<|Xh rfl (fun aj=>?_) (fun aj=>?_)
  rw [if_pos aj] at H
  refine Wr fun bh a1=>As rfl<|Ox a1<|Zm ?_
  obtain rfl:=Z4 H
  exact r1 rfl ⟨rfl,hs⟩
  rw [if_neg (bft aj)] at H
  refine Wx ay<|Zi fun bi a2=>Wr fun bj a3=>Mv rfl<|Zri un9 Zor un5 hs rfl rfl (fun aq ak w ai hs ar=>O_y rfl (Yx Zor ar rfl)<|Mv rfl<|Ox a3<|Zl fun bk a4 bl=>Xb (σ:=Nat×Int) (fun (ad,aa)=>[(14,ak),(15,.int .i64 ((Qs x0).length:Int)),(16,.int .i64 aa)]) (fun (ad,aa) w=>Xt.l1 ad x0 aa=some r∧St w0 aq (Γ) w) (fun s=>s.1) (K0,0) (T3 rfl) (Ai H hs) ?_)
  rintro ⟨ad,aa⟩ w bm ⟨H,hs⟩ af
  show W _ _ _ _ _ _ [(14,ak),(15,.int .i64 ((Qs x0).length:Int)),(16,.int .i64 aa)] w
  cases ad with
  | zero=>rw [Xt.l1] at H;cases H
  | succ ad=>
  rw [Xt.l1] at H
  refine Wr fun bn a5=>Ols rfl<|Ox a5<|Zi fun bo a6=>Xa rfl (fun al=>?_) (fun al=>?_)
  rw [if_pos al] at H
  refine Wx a6<|Zi fun bp a7=>Zl fun bq br bs=>Zi fun bt a8=>Zc ?_
  obtain ⟨au,H⟩:=gd H
  obtain ⟨bu,bv,a9,ba⟩:=ar.ix Zii au.1 au.2
  refine O_y rfl (ba rfl rfl)<|O_y rfl (Xq ag5 rfl (hs.see a9.int))<|As rfl<|Ox a8<|Yt fun bb bc av=>?_
  have aw:∀ (ab:Bool) (w:World),Xt.j1 (Xt.l1 ad x0) aa ab=some r→St w0 aq (Γ) w→bb [(14,ak),(15,.int .i64 ((Qs x0).length:Int)),(16,.int .i64 aa),(27,.bool ab)] w:=by
   intro ab w H hs
   rw [Xt.j1] at H
   refine bc _ _<|Xh rfl (fun am=>?_) (fun am=>?_)
   rw [if_pos am] at H
   refine Wr fun bw bd=>As rfl<|Ox bd<|Zm ?_
   obtain rfl:=Z4 H
   exact r1 rfl ⟨rfl,(hs.less ai)⟩
   rw [if_neg (bft am)] at H
   refine Wx a7<|Zc<|Oad rfl<|Mv rfl<|Zd (af (ad,(i64.wrap (aa+1))) _ _ (T3 rfl) (Ai H hs) (Nat.lt_succ_self _))
  refine Zc<|Mv rfl<|O_y rfl (Zz8 rfl rfl)<|Ols rfl<|Mv rfl<|X4 (dj:=23) rfl (fun ag=>?_) (fun ag=>?_)
  rw [if_pos ag] at H
  refine On rfl<|On rfl<|On rfl<|Opk rfl<|Zd (av _ _ _ (T4 rfl) (aw true _ H hs))
  rw [if_neg ag] at H
  refine Oe rfl<|Mv rfl<|Oe rfl<|O_y rfl (Zz8 rfl rfl)<|Oe rfl<|Ogt rfl<|Opk rfl<|Zd (av _ _ _ (T4 rfl) (aw (decide (122<(bOr .u8 (rd (Qs x0) aa) 32))) _ H hs))
  rw [if_neg al] at H
  refine Y5 (a4 _ _ (a2 _ _<|Wr fun be an=>As rfl<|Ox an<|Zm ?_))
  obtain rfl:=Z4 H
  exact r1 rfl ⟨rfl,(hs.less ai)⟩
 refine Zc<|Mv rfl<|O_y rfl (Zee un9 rfl)<|Ols rfl<|Mv rfl<|X4 (dj:=8) rfl (fun ah=>?_) (fun ah=>?_)
 rw [if_pos ah] at H
 refine On rfl<|On rfl<|On rfl<|Opk rfl<|Zd (ao _ _ _ (T2 rfl) (ap true _ H hs))
 rw [if_neg ah] at H
 refine Oe rfl<|Mv rfl<|Oe rfl<|O_y rfl (Zee un9 rfl)<|Oe rfl<|Ogt rfl<|Opk rfl<|Zd (ao _ _ _ (T2 rfl) (ap (decide (32<(x0.size:Int))) _ H hs))

def Yy.l1:Nat→List ByteArray→ByteArray→Int→Option Int
  | 0,_,_,_=>none
  | ab+1,x0,x1,aa=>if aa<(x0.length:Int) then (if (0:Int)≤aa∧aa<(x0.length:Int) then (if x1=(rd x0 aa) then (some aa) else ((Yy.l1 ab x0 x1) (i64.wrap (aa+1)))) else none) else (some (-1))
def Yy.f (x0:List ByteArray) (x1:ByteArray):Option Int:=Yy.l1 K0 x0 x1 0
theorem Yy.c (hs:St w0 ρ (Γ) w) {v0:Value} {x0:List ByteArray} (h0:SlR Rep.str ρ v0 x0) {x1:ByteArray} {r:Int} (H:Yy.f x0 x1=some r):Zq Tryz.prog 171 [v0,.string x1] w (fun v w'=>v=.int .i64 r∧St w0 ρ Γ w'):=by
 rw [Yy.f] at H
 refine Et Tryz.func171 Tryz.ntmps171 rfl<|Wr fun av ag=>As rfl<|Ox ag<|Zi fun aw ah=>Wr fun ax ai=>Mv rfl<|O_y rfl (Yx Zhp h0 rfl)<|Mv rfl<|Ox ai<|Zl fun ay aj az=>Xb (σ:=Nat×Int) (fun (ab,aa)=>[(0,v0),(1,.string x1),(7,.int .i64 (x0.length:Int)),(8,.int .i64 aa)]) (fun (ab,aa) w=>Yy.l1 ab x0 x1 aa=some r∧St w0 ρ (Γ) w) (fun s=>s.1) (K0,0) (T4 rfl) (Ai H hs) ?_
 rintro ⟨ab,aa⟩ w a0 ⟨H,hs⟩ ac
 show W _ _ _ _ _ _ [(0,v0),(1,.string x1),(7,.int .i64 (x0.length:Int)),(8,.int .i64 aa)] w
 cases ab with
 | zero=>rw [Yy.l1] at H;cases H
 | succ ab=>
 rw [Yy.l1] at H
 refine Wr fun a1 ak=>Ols rfl<|Ox ak<|Zi fun a2 al=>Xa rfl (fun ad=>?_) (fun ad=>?_)
 rw [if_pos ad] at H
 refine Wx al<|Zi fun a3 am=>Zl fun a4 a5 a6=>Wr fun a7 an=>Mv rfl<|As rfl<|Ox an<|Wr fun a8 ao=>Mv rfl<|Mv rfl<|Mv rfl ?_
 obtain ⟨af,H⟩:=gd H
 obtain ⟨a9,ba,ap,aq⟩:=h0.ix Zhc af.1 af.2
 refine O_y rfl (aq rfl rfl)<|O_y rfl (Xq ag9 rfl (hs.see ap.str))<|O_y rfl (Zj7 rfl rfl)<|Ox ao<|Xa rfl (fun ae=>?_) (fun ae=>?_)
 rw [if_pos ae] at H
 refine Wr fun bb ar=>Mv rfl<|As rfl<|Ox ar<|W.weak [(4,_)] (S1 rfl)<|Zm ?_
 obtain rfl:=Z4 H
 exact r1 rfl ⟨rfl,hs⟩
 rw [if_neg ae] at H
 refine Wx am<|Zc<|Oad rfl<|Mv rfl<|Zd (ac (ab,(i64.wrap (aa+1))) _ _ (T4 rfl) (Ai H hs) (Nat.lt_succ_self _))
 rw [if_neg ad] at H
 refine Y5 (aj _ _ (ah _ _<|Wr fun bc au=>As rfl<|Ox au<|Zm ?_))
 obtain rfl:=Z4 H
 exact r1 rfl ⟨rfl,hs⟩

def Kb.f (x0:List ByteArray) (x1:ByteArray):Option Bool:=(Yy.f x0 x1).bind fun ab=>(some (decide (0≤ab)))
theorem Kb.c (hs:St w0 ρ (Γ) w) {v0:Value} {x0:List ByteArray} (h0:SlR Rep.str ρ v0 x0) {x1:ByteArray} {r:Bool} (H:Kb.f x0 x1=some r):Zq Tryz.prog 144 [v0,.string x1] w (fun v w'=>v=.bool r∧St w0 ρ Γ w'):=by
 rw [Kb.f] at H
 refine Et Tryz.func144 Tryz.ntmps144 rfl<|Wr fun ae ac=>As rfl<|Ox ac<|Wr fun af ad=>Mv rfl<|Mv rfl ?_
 obtain ⟨ab,aa,H⟩:=bnd H
 refine Oc rfl (Yy.c hs h0 aa) (fun ag w hpost=>?_)
 obtain ⟨rfl,hs⟩:=hpost
 refine Oge rfl<|As rfl<|Ox ad<|Zm ?_
 obtain rfl:=Z4 H
 exact r1 rfl ⟨rfl,hs⟩

def Km.j1 (ad:Int→Option Int) (aa:Int) (ab:Bool):Option Int:=if ab=true then (some aa) else (ad (i64.wrap (aa+1)))
def Km.l1:Nat→List ByteArray→Int→Option Int
  | 0,_,_=>none
  | ac+1,x0,aa=>if aa<(x0.length:Int) then (if (0:Int)≤aa∧aa<(x0.length:Int) then ((Xt.f (rd x0 aa)).bind fun aq=>(if (!aq)=true then (Km.j1 (Km.l1 ac x0) aa true) else (if (0:Int)≤0∧0≤aa∧aa≤(x0.length:Int) then ((Kb.f (sub x0 0 aa) (rd x0 aa)).bind fun ae=>(Km.j1 (Km.l1 ac x0) aa ae)) else none))) else none) else (some (-1))
def Km.f (x0:List ByteArray):Option Int:=if 64<(x0.length:Int) then (some 64) else (Km.l1 K0 x0 0)
theorem Km.c (hs:St w0 ρ (Γ) w) {v0:Value} {x0:List ByteArray} (h0:SlR Rep.str ρ v0 x0) {r:Int} (H:Km.f x0=some r):Zq Tryz.prog 93 [v0] w (fun v w'=>v=.int .i64 r∧St w0 ρ Γ w'):=by
 rw [Km.f] at H
 refine Et Tryz.func93 Tryz.ntmps93 rfl<|Wr fun be aw=>As rfl<|Ox aw<|Zi fun bf ax=>Wr fun bg ay=>Mv rfl<|O_y rfl (Yx Zhp h0 rfl)<|Ogt rfl<|Ox ay<|Xa rfl (fun ah=>?_) (fun ah=>?_)
 rw [if_pos ah] at H
 refine Wr fun bh az=>As rfl<|Ox az<|Zm ?_
 obtain rfl:=Z4 H
 exact r1 rfl ⟨rfl,hs⟩
 rw [if_neg ah] at H
 refine Wx ax<|Zi fun bi a0=>Wr fun bj a1=>Mv rfl<|O_y rfl (Yx Zhp h0 rfl)<|Mv rfl<|Ox a1<|Zl fun bk a2 bl=>Xb (σ:=Nat×Int) (fun (ac,aa)=>[(0,v0),(8,v0),(9,.int .i64 (x0.length:Int)),(10,.int .i64 aa)]) (fun (ac,aa) w=>Km.l1 ac x0 aa=some r∧St w0 ρ (Γ) w) (fun s=>s.1) (K0,0) (T4 rfl) (Ai H hs) ?_
 rintro ⟨ac,aa⟩ w bm ⟨H,hs⟩ af
 show W _ _ _ _ _ _ [(0,v0),(8,v0),(9,.int .i64 (x0.length:Int)),(10,.int .i64 aa)] w
 cases ac with
 | zero=>rw [Km.l1] at H;cases H
 | succ ac=>
 rw [Km.l1] at H
 refine Wr fun bn a3=>Ols rfl<|Ox a3<|Zi fun bo a4=>Xa rfl (fun ai=>?_) (fun ai=>?_)
 rw [if_pos ai] at H
 refine Wx a4<|Zi fun bp a5=>Zl fun bq br bs=>Wr fun bt a6=>Mv rfl ?_
 obtain ⟨ar,H⟩:=gd H
 obtain ⟨bu,bv,a7,a8⟩:=h0.ix Zhc ar.1 ar.2
 refine O_y rfl (a8 rfl rfl)<|O_y rfl (Xq ag9 rfl (hs.see a7.str))<|As rfl<|As rfl<|Ox a6<|Yt fun a9 ba au=>?_
 have av:∀ (ab:Bool) (w:World),Km.j1 (Km.l1 ac x0) aa ab=some r→St w0 ρ (Γ) w→a9 [(0,v0),(3,.int .i64 aa),(8,v0),(9,.int .i64 (x0.length:Int)),(10,.int .i64 aa),(24,.bool ab)] w:=by
  intro ab w H hs
  rw [Km.j1] at H
  refine ba _ _<|Xh rfl (fun aj=>?_) (fun aj=>?_)
  rw [if_pos aj] at H
  refine Wr fun bw bb=>Mv rfl<|As rfl<|Ox bb<|Zm ?_
  obtain rfl:=Z4 H
  exact r1 rfl ⟨rfl,hs⟩
  rw [if_neg (bft aj)] at H
  refine Wx a5<|Zc<|Oad rfl<|Mv rfl<|Zd (af (ac,(i64.wrap (aa+1))) _ _ (T4 rfl) (Ai H hs) (Nat.lt_succ_self _))
 refine Zc<|Mv rfl ?_
 obtain ⟨aq,ak,H⟩:=bnd H
 refine Oc rfl (Xt.c hs ak) (fun bx w hpost=>?_)
 obtain ⟨rfl,hs⟩:=hpost
 refine Ont rfl<|Mv rfl<|V9 (dj:=18) rfl (fun al=>?_) (fun al=>?_)
 rw [if_pos al] at H
 refine On rfl<|On rfl<|On rfl<|On rfl<|On rfl<|Opk rfl<|Zd (au _ _ _ sbn (av true _ H hs))
 rw [if_neg (bft al)] at H
 refine Oe rfl<|Mv rfl<|Oe rfl<|Mv rfl ?_
 obtain ⟨am,H⟩:=gd H
 obtain ⟨bz,an,ao⟩:=h0.cut Zhc am.1 am.2.1 am.2.2
 refine Oe rfl<|O_y rfl (ao rfl (.inl ⟨rfl,rfl⟩) (.inr ⟨_,_,rfl,rfl⟩))<|Oe rfl<|Mv rfl<|Oe rfl ?_
 obtain ⟨ae,ag,H⟩:=bnd H
 refine Oc rfl (Kb.c hs an ag) (fun bc w hpost=>?_)
 obtain ⟨rfl,hs⟩:=hpost
 refine Opk rfl<|Zd (au _ _ _ sbn (av ae _ H hs))
 rw [if_neg ai] at H
 refine Y5 (a2 _ _ (a0 _ _<|Wr fun bd ap=>As rfl<|Ox ap<|Zm ?_))
 obtain rfl:=Z4 H
 exact r1 rfl ⟨rfl,hs⟩

def He.f (y0_0:List ByteArray) (y0_1:List Val) (y0_2:List Chs) (y0_3:List Val) (y0_4:List Chs) (y0_5:List Spn) (y0_6 y0_7:List Val) (y0_8:List Spn) (y0_9:List Val) (y0_10:List Chs):Option Int:=(Km.f y0_0).bind fun ab=>(some ab)
theorem He.c {pb0:Nat} {w0_0:Value} {y0_0:List ByteArray} {w0_1:Value} {y0_1:List Val} {w0_2:Value} {y0_2:List Chs} {w0_3:Value} {y0_3:List Val} {w0_4:Value} {y0_4:List Chs} {w0_5:Value} {y0_5:List Spn} {w0_6:Value} {y0_6:List Val} {w0_7:Value} {y0_7:List Val} {w0_8:Value} {y0_8:List Spn} {w0_9:Value} {y0_9:List Val} {w0_10:Value} {y0_10:List Chs} (hs:St w0 ρ ((.box pb0 27 ([w0_0,w0_1,w0_2,w0_3,w0_4,w0_5,w0_6,w0_7,w0_8,w0_9,w0_10]))::Γ) w) (g0_0:SlR Rep.str ρ w0_0 y0_0) (g0_1:SlR Qb ρ w0_1 y0_1) (g0_2:SlR Kz ρ w0_2 y0_2) (g0_3:SlR Qb ρ w0_3 y0_3) (g0_4:SlR Kz ρ w0_4 y0_4) (g0_5:SlR Kj ρ w0_5 y0_5) (g0_6:SlR Qb ρ w0_6 y0_6) (g0_7:SlR Qb ρ w0_7 y0_7) (g0_8:SlR Kj ρ w0_8 y0_8) (g0_9:SlR Qb ρ w0_9 y0_9) (g0_10:SlR Kz ρ w0_10 y0_10) {r:Int} (H:He.f y0_0 y0_1 y0_2 y0_3 y0_4 y0_5 y0_6 y0_7 y0_8 y0_9 y0_10=some r):Zq Tryz.prog 92 [.pointer (some ⟨pb0,0,none⟩)] w (fun v w'=>v=.int .i64 r∧St w0 ρ ((.box pb0 27 ([w0_0,w0_1,w0_2,w0_3,w0_4,w0_5,w0_6,w0_7,w0_8,w0_9,w0_10]))::Γ) w'):=by
 rw [He.f] at H
 refine Et Tryz.func92 Tryz.ntmps92 rfl<|Wr fun ae ac=>As rfl<|Ox ac<|Wr fun af ad=>Ofd Zns rfl<|Obx 0 Ztp hs rfl ?_
 obtain ⟨ab,aa,H⟩:=bnd H
 refine Oc rfl (Km.c hs g0_0 aa) (fun ag w hpost=>?_)
 obtain ⟨rfl,hs⟩:=hpost
 refine As rfl<|Ox ad<|Zm ?_
 obtain rfl:=Z4 H
 exact r1 rfl ⟨rfl,hs⟩

def Vk.f (x0:Val):Option Spn:=some (⟨x0.lo,x0.hi⟩:Spn)
theorem Vk.c (hs:St w0 ρ (Γ) w) {c0:List Value} {x0:Val} (h0:Qb.R ρ c0 x0) {r:Spn} (H:Vk.f x0=some r):Zq Tryz.prog 146 [.agg c0.toArray] w (fun v w'=>∃ (ρ':Hp) (cs0:List Value),v=.agg cs0.toArray∧Le ρ ρ'∧St w0 ρ' (Γ) w'∧Kj.R ρ' cs0 r):=by
 rw [Vk.f] at H
 refine Et Tryz.func146 Tryz.ntmps146 rfl ?_
 have aa:=h0
 obtain rfl:=aa
 refine Wr fun ad ab=>Vn (cs:=[.int .i32 x0.lo,.int .i32 x0.hi,.int .i64 x0.n]) hs rfl rfl (fun ae w hs=>Y6 Za5 hs rfl (fun af w hs=>Ox ab<|Wr fun ag ac=>Ofd Zf4 rfl<|Obx 1 Xn hs rfl<|Ofd Zej rfl<|Obx 1 Xn hs rfl<|O_y rfl (Qg (cs:=[.int .i32 x0.lo,.int .i32 x0.hi]) Za5 Zlc ((Z3.cons rfl rfl (Z3.cons rfl rfl Z3.nil))) Zbg (by kernel_rfl))<|Ye (i:=0) Hv hs rfl rfl rfl rfl rfl (Zb rfl (Zb rfl Ym)) (fun w hs=>Zd (ac _ _ ?_))))
 refine Zm ?_
 obtain rfl:=Z4 H
 exact Zi2 (i:=0) rfl rfl Zbg Hv hs rfl rfl ⟨_,_,rfl,Le.rfl' _,(hs.sub (ssk (ssk ssr))),rfl⟩

def Hx.f (x0:Spn):Option Bool:=some true
theorem Hx.c (hs:St w0 ρ (Γ) w) {c0:List Value} {x0:Spn} (h0:Kj.R ρ c0 x0) {r:Bool} (H:Hx.f x0=some r):Zq Tryz.prog 87 [.agg c0.toArray] w (fun v w'=>v=.bool r∧St w0 ρ Γ w'):=by
 rw [Hx.f] at H
 refine Et Tryz.func87 Tryz.ntmps87 rfl ?_
 have aa:=h0
 obtain rfl:=aa
 refine Wr fun ad ab=>Vn (cs:=[.int .i32 x0.lo,.int .i32 x0.hi]) hs rfl rfl (fun ae w hs=>As rfl<|Ox ab<|Wr fun af ac=>As rfl<|Ox ac<|Zm ?_)
 obtain rfl:=Z4 H
 exact r1 rfl ⟨rfl,(hs.sub (ssk ssr))⟩

def Q2.j1 (aa:Bool):Option Bool:=some aa
def Q2.f (x0:Val) (y0_0 y1_0:Int):Option Bool:=if y0_0≤x0.n then (if x0.n≤y1_0 then ((Vk.f x0).bind fun al=>((Hx.f al).bind fun ae=>(Q2.j1 ae))) else (Q2.j1 false)) else (Q2.j1 false)
theorem Q2.c {pb0:Nat} {y0_0:Int} {pb1:Nat} {y1_0:Int} {pb2:Nat} (hs:St w0 ρ ((.box pb0 3 ([.int .i64 y0_0]))::(.box pb1 3 ([.int .i64 y1_0]))::(.box pb2 133 ([.func (.func 87) #[] #[]]))::Γ) w) {c0:List Value} {x0:Val} (h0:Qb.R ρ c0 x0) {r:Bool} (H:Q2.f x0 y0_0 y1_0=some r):Zq Tryz.prog 147 [.agg c0.toArray,.pointer (some ⟨pb0,0,none⟩),.pointer (some ⟨pb1,0,none⟩),.pointer (some ⟨pb2,0,none⟩)] w (fun v w'=>v=.bool r∧St w0 ρ ((.box pb0 3 ([.int .i64 y0_0]))::(.box pb1 3 ([.int .i64 y1_0]))::(.box pb2 133 ([.func (.func 87) #[] #[]]))::Γ) w'):=by
 rw [Q2.f] at H
 refine Et Tryz.func147 Tryz.ntmps147 rfl ?_
 have ao:=h0
 obtain rfl:=ao
 refine Wr fun az ap=>Vn (cs:=[.int .i32 x0.lo,.int .i32 x0.hi,.int .i64 x0.n]) hs rfl rfl (fun am w hs=>As rfl<|Ox ap<|Yt fun aq ar af=>?_)
 have ag:∀ (aa:Bool) (ab:Hp) (w:World),Q2.j1 aa=some r→Le ρ ab→St w0 ab ((.box am 67 ([.int .i32 x0.lo,.int .i32 x0.hi,.int .i64 x0.n]))::(.box pb0 3 ([.int .i64 y0_0]))::(.box pb1 3 ([.int .i64 y1_0]))::(.box pb2 133 ([.func (.func 87) #[] #[]]))::Γ) w→aq [(5,.bool aa)] w:=by
  intro aa ab w H ad hs
  rw [Q2.j1] at H
  refine ar _ _<|Zm ?_
  obtain rfl:=Z4 H
  exact r1 rfl ⟨rfl,((hs.sub (ssk (ssc (ssc (ssc ssr))))).less ad)⟩
 refine Qt 17 [0,1,0,6,8,16,48,16,208,272,528,1024,1024,5120,11264,17408,65535] [65532,65524,65523,65504,63488,65408,65152,65120,64512,63488,0,45056,51200,34816,0,0,0] [0,1,0,7,15,31,63,31,255,511,1023,2047,2047,6143,16383,32767,65535] [] (fun w=>St w0 ρ ((.box am 67 ([.int .i32 x0.lo,.int .i32 x0.hi,.int .i64 x0.n]))::(.box pb0 3 ([.int .i64 y0_0]))::(.box pb1 3 ([.int .i64 y1_0]))::(.box pb2 133 ([.func (.func 87) #[] #[]]))::Γ) w) Vr (by kernel_rfl) (fun sh=>?_)
 have hs:=hs.drew
 refine Fp 0 sh rfl (fun w=>Zw Zew rfl)<|Fy 1 sh rfl hs (fun w hs=>Yb 0 ag3 hs rfl rfl rfl)<|Fy 2 sh rfl hs (fun w hs=>Yb 1 ag3 hs rfl rfl rfl)<|Fp 3 sh rfl (fun w=>Zq0 rfl rfl)<|Fm 4 sh rfl<|Za4 (dj:=10) rfl (fun ah=>?_) (fun ah=>?_)
 rw [if_pos ah] at H
 refine Fp 5 sh rfl (fun w=>Zw Zew rfl)<|Fy 6 sh rfl hs (fun w hs=>Yb 0 ag3 hs rfl rfl rfl)<|Fy 7 sh rfl hs (fun w hs=>Yb 2 ag3 hs rfl rfl rfl)<|Fp 8 sh rfl (fun w=>Zn8 rfl rfl)<|Fp 9 sh rfl (fun w=>Ve rfl rfl)<|Fm 10 sh rfl<|Za4 (dj:=16) rfl (fun ai=>?_) (fun ai=>?_)
 rw [if_pos ai] at H
 refine Fy 11 sh rfl hs (fun w hs=>Yb 3 Zfm hs rfl rfl rfl)<|Fy 12 sh rfl hs (fun w hs=>Xl (i:=0) Zft Zfd hs rfl rfl rfl rfl)<|F1 13 sh rfl (fun a0 au=>Oe rfl ?_)
 obtain ⟨al,aj,H⟩:=bnd H
 refine Oc rfl (Vk.c hs h0 aj) (fun a1 w hpost=>?_)
 obtain ⟨av,aw,rfl,ac,hs,an⟩:=hpost
 have ax:=an
 obtain rfl:=ax
 refine Zd (au _ _ (fun _ _=>(hs.less ac))<|F1 14 sh rfl (fun a2 ay=>Oe rfl ?_))
 obtain ⟨ae,ak,H⟩:=bnd H
 refine Xs rfl rfl rfl (Hx.c hs an ak) (fun a3 w hpost=>?_)
 obtain ⟨rfl,hs⟩:=hpost
 refine Zd (ay _ _ (fun _ _=>(hs.less ac))<|Fp 15 sh rfl (fun w=>Ve rfl rfl)<|Fp 16 sh rfl (fun w=>Xz rfl)<|FE sh (af _ _ _ (S1 rfl) (ag ae av _ H ac hs)))
 rw [if_neg ai] at H
 refine Fn 11 sh rfl<|Fn 12 sh rfl<|Fn 13 sh rfl<|Fn 14 sh rfl<|Fp 15 sh rfl (fun w=>Qr rfl rfl)<|Fp 16 sh rfl (fun w=>Xz rfl)<|FE sh (af _ _ _ (S1 rfl) (ag false ρ _ H (Le.rfl' _) hs))
 rw [if_neg ah] at H
 refine Fn 5 sh rfl<|Fn 6 sh rfl<|Fn 7 sh rfl<|Fn 8 sh rfl<|Fp 9 sh rfl (fun w=>Qr rfl rfl)<|Fm 10 sh rfl<|Fn 11 sh rfl<|Fn 12 sh rfl<|Fn 13 sh rfl<|Fn 14 sh rfl<|Fp 15 sh rfl (fun w=>Qr rfl rfl)<|Fp 16 sh rfl (fun w=>Xz rfl)<|FE sh (af _ _ _ (S1 rfl) (ag false ρ _ H (Le.rfl' _) hs))

def Zr.j1 (ak:Int→Int→Option Int) (aa:Int) (ae:Spn) (ab:Bool):Option Int:=if ab=true then (some aa) else (ak ae.hi (i64.wrap (aa+1)))
def Zr.l1:Nat→Int→Int→List Val→Int→Int→Option Int
  | 0,_,_,_,_,_=>none
  | ac+1,y0_0,y1_0,x0,ad,aa=>if aa<(x0.length:Int) then (if (0:Int)≤aa∧aa<(x0.length:Int) then ((Vk.f (rd x0 aa)).bind fun ae=>(if ae.lo≤ad then (Zr.j1 (Zr.l1 ac y0_0 y1_0 x0) aa ae true) else (if ae.hi<ae.lo then (Zr.j1 (Zr.l1 ac y0_0 y1_0 x0) aa ae true) else (if 1114111<ae.hi then (Zr.j1 (Zr.l1 ac y0_0 y1_0 x0) aa ae true) else ((Q2.f (rd x0 aa) y0_0 y1_0).bind fun al=>(Zr.j1 (Zr.l1 ac y0_0 y1_0 x0) aa ae (!al))))))) else none) else (some (-1))
def Zr.f (x0:List Val) (y0_0 y1_0:Int):Option Int:=if 65536<(x0.length:Int) then (some 65536) else (Zr.l1 K0 y0_0 y1_0 x0 (-1) 0)
theorem Zr.c {pb0:Nat} {y0_0:Int} {pb1:Nat} {y1_0:Int} {pb2:Nat} (hs:St w0 ρ ((.box pb0 3 ([.int .i64 y0_0]))::(.box pb1 3 ([.int .i64 y1_0]))::(.box pb2 133 ([.func (.func 87) #[] #[]]))::Γ) w) {v0:Value} {x0:List Val} (h0:SlR Qb ρ v0 x0) {r:Int} (H:Zr.f x0 y0_0 y1_0=some r):Zq Tryz.prog 145 [v0,.func (.func 146) #[] #[],.func (.func 147) #[] #[.pointer (some ⟨pb0,0,none⟩),.pointer (some ⟨pb1,0,none⟩),.pointer (some ⟨pb2,0,none⟩)]] w (fun v w'=>v=.int .i64 r∧St w0 ρ ((.box pb0 3 ([.int .i64 y0_0]))::(.box pb1 3 ([.int .i64 y1_0]))::(.box pb2 133 ([.func (.func 87) #[] #[]]))::Γ) w'):=by
 rw [Zr.f] at H
 refine Et Tryz.func145 Tryz.ntmps145 rfl<|Wr fun bt a6=>As rfl<|Ox a6<|Zi fun bu a7=>Wr fun bv a8=>Mv rfl<|O_y rfl (Yx Zg2 h0 rfl)<|Ogt rfl<|Ox a8<|Xa rfl (fun av=>?_) (fun av=>?_)
 rw [if_pos av] at H
 refine Wr fun bw a9=>As rfl<|Ox a9<|Zm ?_
 obtain rfl:=Z4 H
 exact r1 rfl ⟨rfl,hs⟩
 rw [if_neg av] at H
 refine Wx a7<|Wr fun bx ba=>As rfl<|Ox ba<|Zi fun bz bb=>Wr fun b0 bc=>Mv rfl<|O_y rfl (Yx Zg2 h0 rfl)<|Mv rfl<|Ox bc<|Zl fun b1 bd b2=>Xb (σ:=Nat×Int×Int×Hp) (fun (ac,ad,aa,ag)=>[(1,.func (.func 146) #[] #[]),(2,.func (.func 147) #[] #[.pointer (some ⟨pb0,0,none⟩),.pointer (some ⟨pb1,0,none⟩),.pointer (some ⟨pb2,0,none⟩)]),(7,.int .i32 ad),(14,v0),(15,.int .i64 (x0.length:Int)),(16,.int .i64 aa)]) (fun (ac,ad,aa,ag) w=>Zr.l1 ac y0_0 y1_0 x0 ad aa=some r∧Le ρ ag∧St w0 ag ((.box pb0 3 ([.int .i64 y0_0]))::(.box pb1 3 ([.int .i64 y1_0]))::(.box pb2 133 ([.func (.func 87) #[] #[]]))::Γ) w) (fun s=>s.1) (K0,(-1),0,ρ) sbn (Ai H (Ai (Le.rfl' _) hs)) ?_
 rintro ⟨ac,ad,aa,ag⟩ w b3 ⟨H,af,hs⟩ am
 show W _ _ _ _ _ _ [(1,.func (.func 146) #[] #[]),(2,.func (.func 147) #[] #[.pointer (some ⟨pb0,0,none⟩),.pointer (some ⟨pb1,0,none⟩),.pointer (some ⟨pb2,0,none⟩)]),(7,.int .i32 ad),(14,v0),(15,.int .i64 (x0.length:Int)),(16,.int .i64 aa)] w
 cases ac with
 | zero=>rw [Zr.l1] at H;cases H
 | succ ac=>
 rw [Zr.l1] at H
 refine Wr fun b4 be=>Ols rfl<|Ox be<|Zi fun b5 bf=>Xa rfl (fun aw=>?_) (fun aw=>?_)
 rw [if_pos aw] at H
 refine Wx bf<|Zi fun b6 bg=>Zl fun b7 b8 b9=>Wr fun ca bh=>Mv rfl ?_
 obtain ⟨a4,H⟩:=gd H
 obtain ⟨cb,cc,bi,bj⟩:=(h0.mono af).ix Zcx a4.1 a4.2
 obtain ⟨_,rfl,bk⟩:=bi
 refine O_y rfl (bj rfl rfl)<|O_y rfl (Q0 Zft Zfd rfl rfl (fun j u hu=>hs.see (bk j u hu)))<|Y6 Zml hs rfl (fun bl w hs=>As rfl<|Ye (i:=0) Zfd hs rfl rfl rfl rfl rfl (Zb rfl (Zb rfl (Zb rfl Ym))) (fun w hs=>Ox bh<|Wr fun cd bm=>Mv rfl<|O_y rfl (Xl (i:=0) Zft Zfd hs rfl rfl rfl rfl) ?_))
 obtain ⟨ae,ax,H⟩:=bnd H
 refine Xs rfl rfl rfl (Vk.c hs rfl ax) (fun ce w hpost=>?_)
 obtain ⟨a5,bn,rfl,aj,hs,bo⟩:=hpost
 have ay:=bo
 obtain rfl:=ay
 refine Y6 Za5 hs rfl (fun ar w hs=>Ye (i:=0) Hv hs rfl rfl rfl rfl rfl (Zb rfl (Zb rfl Ym)) (fun w hs=>Ox bm<|W.weak [(1,_),(2,_),(7,_),(8,_),(9,_),(10,_),(14,_),(15,_),(16,_)] sbn ?_))
 refine Zi fun bp az=>Yt fun a0 a1 ah=>?_
 have ai:∀ (ab:Bool) (w:World),Zr.j1 (Zr.l1 ac y0_0 y1_0 x0) aa ae ab=some r→St w0 a5 ((.box ar 129 ([.int .i32 ae.lo,.int .i32 ae.hi]))::(.box bl 67 ([.int .i32 ((rd x0 aa).lo),.int .i32 ((rd x0 aa).hi),.int .i64 ((rd x0 aa).n)]))::(.box pb0 3 ([.int .i64 y0_0]))::(.box pb1 3 ([.int .i64 y1_0]))::(.box pb2 133 ([.func (.func 87) #[] #[]]))::Γ) w→a0 [(1,.func (.func 146) #[] #[]),(2,.func (.func 147) #[] #[.pointer (some ⟨pb0,0,none⟩),.pointer (some ⟨pb1,0,none⟩),.pointer (some ⟨pb2,0,none⟩)]),(8,.int .i64 aa),(10,.pointer (some ⟨ar,0,none⟩)),(14,v0),(15,.int .i64 (x0.length:Int)),(16,.int .i64 aa),(45,.bool ab)] w:=by
  intro ab w H hs
  rw [Zr.j1] at H
  refine a1 _ _<|Xh rfl (fun an=>?_) (fun an=>?_)
  rw [if_pos an] at H
  refine Wr fun bq a2=>Mv rfl<|As rfl<|Ox a2<|Zm ?_
  obtain rfl:=Z4 H
  exact r1 rfl ⟨rfl,((hs.sub (ssk (ssk (ssc (ssc (ssc ssr)))))).less (af.trans aj))⟩
  rw [if_neg (bft an)] at H
  refine Wx az<|Zc<|Ofd Vy rfl<|Obx 0 Xn hs rfl<|As rfl<|Ox bg<|Zc<|Oad rfl<|Mv rfl<|Zd (am (ac,ae.hi,(i64.wrap (aa+1)),a5) _ _ sbn (Ai H (Ai (af.trans aj) (hs.sub (ssk (ssk (ssc (ssc (ssc ssr)))))))) (Nat.lt_succ_self _))
 refine Zc<|Ofd U6 rfl<|Obx 0 Xn hs rfl<|Mv rfl<|Ole rfl<|Mv rfl<|X4 (dj:=28) rfl (fun ao=>?_) (fun ao=>?_)
 rw [if_pos ao] at H
 refine On rfl<|On rfl<|On rfl<|On rfl<|On rfl<|Opk rfl<|Mv rfl<|On rfl<|On rfl<|On rfl<|Opk rfl<|Mv rfl<|On rfl<|On rfl ?_
 refine On rfl<|On rfl<|Opk rfl<|Zd (ah _ _ _ sbn (ai true _ H hs))
 rw [if_neg ao] at H
 refine Oe rfl<|Ofd Vy rfl<|Oe rfl<|Obx 0 Xn hs rfl<|Oe rfl<|Ofd U6 rfl<|Oe rfl<|Obx 0 Xn hs rfl<|Oe rfl<|Ols rfl<|Opk rfl<|Mv rfl<|X4 (dj:=35) rfl (fun ap=>?_) (fun ap=>?_)
 rw [if_pos ap] at H
 refine On rfl<|On rfl<|On rfl<|Opk rfl<|Mv rfl<|On rfl<|On rfl<|On rfl<|On rfl<|Opk rfl<|Zd (ah _ _ _ sbn (ai true _ H hs))
 rw [if_neg ap] at H
 refine Oe rfl<|Ofd Vy rfl<|Oe rfl<|Obx 0 Xn hs rfl<|Oe rfl<|Ogt rfl<|Opk rfl<|Mv rfl<|X4 (dj:=40) rfl (fun aq=>?_) (fun aq=>?_)
 rw [if_pos aq] at H
 refine On rfl<|On rfl<|On rfl<|On rfl<|Opk rfl<|Zd (ah _ _ _ sbn (ai true _ H hs))
 rw [if_neg aq] at H
 refine Oe rfl<|Mv rfl<|Oe rfl<|O_y rfl (Xl (i:=1) Zft Zfd hs rfl rfl rfl rfl)<|Oe rfl ?_
 have hs:=hs.front 4 rfl
 have hs:=hs.front 4 rfl
 have hs:=hs.front 4 rfl
 obtain ⟨al,au,H⟩:=bnd H
 refine Xs rfl rfl rfl (Q2.c hs rfl au) (fun br w hpost=>?_)
 obtain ⟨rfl,hs⟩:=hpost
 have hs:=hs.sink 4
 have hs:=hs.sink 4
 have hs:=hs.sink 4
 refine Oe rfl<|Ont rfl<|Opk rfl<|Zd (ah _ _ _ sbn (ai (!al) _ H hs))
 rw [if_neg aw] at H
 refine Y5 (bd _ _ (bb _ _<|Wr fun bs a3=>As rfl<|Ox a3<|Zm ?_))
 obtain rfl:=Z4 H
 exact r1 rfl ⟨rfl,(hs.less af)⟩

def Xu.f (x0:List Val) (x1 x2:Int):Option Int:=(Zr.f x0 x1 x2).bind fun ab=>(some ab)
theorem Xu.c (hs:St w0 ρ (Γ) w) {v0:Value} {x0:List Val} (h0:SlR Qb ρ v0 x0) {x1 x2 r:Int} (H:Xu.f x0 x1 x2=some r):Zq Tryz.prog 95 [v0,.int .i64 x1,.int .i64 x2,.func (.func 87) #[] #[]] w (fun v w'=>v=.int .i64 r∧St w0 ρ Γ w'):=by
 rw [Xu.f] at H
 refine Et Tryz.func95 Tryz.ntmps95 rfl<|Wr fun ae ac=>Zcv hs rfl rfl rfl (fun af w hs=>Zcv hs rfl rfl rfl (fun ag w hs=>Zcv hs rfl rfl rfl (fun ah w hs=>As rfl<|Ox ac<|Wr fun ai ad=>Mv rfl<|O_y rfl (Hi rfl) ?_)))
 have hs:=hs.front 1 rfl
 have hs:=hs.front 2 rfl
 obtain ⟨ab,aa,H⟩:=bnd H
 refine Oc rfl (Zr.c hs h0 aa) (fun aj w hpost=>?_)
 obtain ⟨rfl,hs⟩:=hpost
 have hs:=hs.sink 2
 have hs:=hs.sink 1
 refine As rfl<|Ox ad<|Zm ?_
 obtain rfl:=Z4 H
 exact r1 rfl ⟨rfl,(hs.sub (ssk (ssk (ssk ssr))))⟩

def Hb.f (y0_0:List ByteArray) (y0_1:List Val) (y0_2:List Chs) (y0_3:List Val) (y0_4:List Chs) (y0_5:List Spn) (y0_6 y0_7:List Val) (y0_8:List Spn) (y0_9:List Val) (y0_10:List Chs):Option Int:=(Xu.f y0_1 1 3).bind fun ab=>(some ab)
theorem Hb.c {pb0:Nat} {w0_0:Value} {y0_0:List ByteArray} {w0_1:Value} {y0_1:List Val} {w0_2:Value} {y0_2:List Chs} {w0_3:Value} {y0_3:List Val} {w0_4:Value} {y0_4:List Chs} {w0_5:Value} {y0_5:List Spn} {w0_6:Value} {y0_6:List Val} {w0_7:Value} {y0_7:List Val} {w0_8:Value} {y0_8:List Spn} {w0_9:Value} {y0_9:List Val} {w0_10:Value} {y0_10:List Chs} {pb1:Nat} (hs:St w0 ρ ((.box pb0 27 ([w0_0,w0_1,w0_2,w0_3,w0_4,w0_5,w0_6,w0_7,w0_8,w0_9,w0_10]))::(.box pb1 133 ([.func (.func 87) #[] #[]]))::Γ) w) (g0_0:SlR Rep.str ρ w0_0 y0_0) (g0_1:SlR Qb ρ w0_1 y0_1) (g0_2:SlR Kz ρ w0_2 y0_2) (g0_3:SlR Qb ρ w0_3 y0_3) (g0_4:SlR Kz ρ w0_4 y0_4) (g0_5:SlR Kj ρ w0_5 y0_5) (g0_6:SlR Qb ρ w0_6 y0_6) (g0_7:SlR Qb ρ w0_7 y0_7) (g0_8:SlR Kj ρ w0_8 y0_8) (g0_9:SlR Qb ρ w0_9 y0_9) (g0_10:SlR Kz ρ w0_10 y0_10) {r:Int} (H:Hb.f y0_0 y0_1 y0_2 y0_3 y0_4 y0_5 y0_6 y0_7 y0_8 y0_9 y0_10=some r):Zq Tryz.prog 94 [.pointer (some ⟨pb0,0,none⟩),.pointer (some ⟨pb1,0,none⟩)] w (fun v w'=>v=.int .i64 r∧St w0 ρ ((.box pb0 27 ([w0_0,w0_1,w0_2,w0_3,w0_4,w0_5,w0_6,w0_7,w0_8,w0_9,w0_10]))::(.box pb1 133 ([.func (.func 87) #[] #[]]))::Γ) w'):=by
 rw [Hb.f] at H
 refine Et Tryz.func94 Tryz.ntmps94 rfl<|Wr fun ae ac=>As rfl<|Ox ac<|Wr fun af ad=>Ofd Zd7 rfl<|Obx 0 Zbx hs rfl<|Obx 1 Zfm hs rfl ?_
 obtain ⟨ab,aa,H⟩:=bnd H
 refine Oc rfl (Xu.c hs g0_1 aa) (fun ag w hpost=>?_)
 obtain ⟨rfl,hs⟩:=hpost
 refine As rfl<|Ox ad<|Zm ?_
 obtain rfl:=Z4 H
 exact r1 rfl ⟨rfl,hs⟩

def Ks.f (x0:Chs):Option Spn:=some (⟨x0.lo,x0.hi⟩:Spn)
theorem Ks.c (hs:St w0 ρ (Γ) w) {c0:List Value} {x0:Chs} (h0:Kz.R ρ c0 x0) {r:Spn} (H:Ks.f x0=some r):Zq Tryz.prog 66 [.agg c0.toArray] w (fun v w'=>∃ (ρ':Hp) (cs0:List Value),v=.agg cs0.toArray∧Le ρ ρ'∧St w0 ρ' (Γ) w'∧Kj.R ρ' cs0 r):=by
 rw [Ks.f] at H
 refine Et Tryz.func66 Tryz.ntmps66 rfl ?_
 have aa:=h0
 obtain ⟨ab,rfl,ae⟩:=aa
 refine Wr fun af ac=>Vn (cs:=[.int .i32 x0.lo,.int .i32 x0.hi,ab]) hs rfl rfl (fun ag w hs=>Y6 Za5 hs rfl (fun ah w hs=>Ox ac<|Wr fun ai ad=>Ofd Zb3 rfl<|Obx 1 Xn hs rfl<|Ofd Zik rfl<|Obx 1 Xn hs rfl<|O_y rfl (Qg (cs:=[.int .i32 x0.lo,.int .i32 x0.hi]) Za5 Zlc ((Z3.cons rfl rfl (Z3.cons rfl rfl Z3.nil))) Zbg (by kernel_rfl))<|Ye (i:=0) Hv hs rfl rfl rfl rfl rfl (Zb rfl (Zb rfl Ym)) (fun w hs=>Zd (ad _ _ ?_))))
 refine Zm ?_
 obtain rfl:=Z4 H
 exact Zi2 (i:=0) rfl rfl Zbg Hv hs rfl rfl ⟨_,_,rfl,Le.rfl' _,(hs.sub (ssk (ssk ssr))),rfl⟩

def Kq.j1 (aa:Bool):Option Bool:=some aa
def Kq.f (x0:Int):Option Bool:=if x0<0 then (Kq.j1 true) else (if 1114111<x0 then (Kq.j1 true) else (if 55296≤x0 then (Kq.j1 (decide (x0≤57343))) else (Kq.j1 false)))
theorem Kq.c (hs:St w0 ρ (Γ) w) {x0:Int} {r:Bool} (H:Kq.f x0=some r):Zq Tryz.prog 142 [.int .i32 x0] w (fun v w'=>v=.bool r∧St w0 ρ Γ w'):=by
 rw [Kq.f] at H
 refine Et Tryz.func142 Tryz.ntmps142 rfl<|Wr fun aj ag=>As rfl<|Ox ag<|Yt fun ah ai ab=>?_
 have ac:∀ (aa:Bool) (w:World),Kq.j1 aa=some r→St w0 ρ (Γ) w→ah [(2,.bool aa)] w:=by
  intro aa w H hs
  rw [Kq.j1] at H
  refine ai _ _<|Zm ?_
  obtain rfl:=Z4 H
  exact r1 rfl ⟨rfl,hs⟩
 refine Zc<|Mv rfl<|Ols rfl<|Mv rfl<|X4 (dj:=5) rfl (fun ad=>?_) (fun ad=>?_)
 rw [if_pos ad] at H
 refine On rfl<|On rfl<|Opk rfl<|Mv rfl<|On rfl<|On rfl<|On rfl<|Qx rfl rfl rfl<|Qx rfl rfl rfl<|On rfl<|Opk rfl<|As rfl<|Zd (ab _ _ _ (S1 rfl) (ac true _ H hs))
 rw [if_neg ad] at H
 refine Oe rfl<|Mv rfl<|Oe rfl<|Ogt rfl<|Opk rfl<|Mv rfl<|X4 (dj:=9) rfl (fun ae=>?_) (fun ae=>?_)
 rw [if_pos ae] at H
 refine On rfl<|On rfl<|On rfl<|Qx rfl rfl rfl<|Qx rfl rfl rfl<|On rfl<|Opk rfl<|As rfl<|Zd (ab _ _ _ (S1 rfl) (ac true _ H hs))
 rw [if_neg ae] at H
 refine Oe rfl<|Mv rfl<|Oe rfl<|Oge rfl<|Oe rfl<|Mv rfl<|X4 (dj:=12) rfl (fun af=>?_) (fun af=>?_)
 rw [if_pos af] at H
 refine Oe rfl<|Mv rfl<|Oe rfl<|Ole rfl<|Oe rfl<|Opk rfl<|Opk rfl<|As rfl<|Zd (ab _ _ _ (S1 rfl) (ac (decide (x0≤57343)) _ H hs))
 rw [if_neg af] at H
 refine On rfl<|On rfl<|Oe rfl<|Opk rfl<|Opk rfl<|As rfl<|Zd (ab _ _ _ (S1 rfl) (ac false _ H hs))

def Yo.l1:Nat→List Int→Int→Option Int
  | 0,_,_=>none
  | ab+1,x0,aa=>if aa<(x0.length:Int) then (if (0:Int)≤aa∧aa<(x0.length:Int) then ((Kq.f (rd x0 aa)).bind fun ag=>(if ag=true then (some aa) else ((Yo.l1 ab x0) (i64.wrap (aa+1))))) else none) else (some (-1))
def Yo.f (x0:List Int):Option Int:=Yo.l1 K0 x0 0
theorem Yo.c (hs:St w0 ρ (Γ) w) {v0:Value} {x0:List Int} (h0:SlR (Rep.int .i32) ρ v0 x0) {r:Int} (H:Yo.f x0=some r):Zq Tryz.prog 77 [v0,.func (.func 142) #[] #[]] w (fun v w'=>v=.int .i64 r∧St w0 ρ Γ w'):=by
 rw [Yo.f] at H
 refine Et Tryz.func77 Tryz.ntmps77 rfl<|Wr fun ax ai=>As rfl<|Ox ai<|Zi fun ay aj=>Wr fun az ak=>Mv rfl<|O_y rfl (Yx Ua h0 rfl)<|Mv rfl<|Ox ak<|Zl fun a0 al a1=>Xb (σ:=Nat×Int) (fun (ab,aa)=>[(0,v0),(1,.func (.func 142) #[] #[]),(7,.int .i64 (x0.length:Int)),(8,.int .i64 aa)]) (fun (ab,aa) w=>Yo.l1 ab x0 aa=some r∧St w0 ρ (Γ) w) (fun s=>s.1) (K0,0) (T4 rfl) (Ai H hs) ?_
 rintro ⟨ab,aa⟩ w a2 ⟨H,hs⟩ ac
 show W _ _ _ _ _ _ [(0,v0),(1,.func (.func 142) #[] #[]),(7,.int .i64 (x0.length:Int)),(8,.int .i64 aa)] w
 cases ab with
 | zero=>rw [Yo.l1] at H;cases H
 | succ ab=>
 rw [Yo.l1] at H
 refine Wr fun a3 am=>Ols rfl<|Ox am<|Zi fun a4 an=>Xa rfl (fun ad=>?_) (fun ad=>?_)
 rw [if_pos ad] at H
 refine Wx an<|Zi fun a5 ao=>Zl fun a6 a7 a8=>Wr fun a9 ap=>Mv rfl<|As rfl<|Ox ap<|Wr fun ba aq=>Mv rfl<|Mv rfl<|Mv rfl ?_
 obtain ⟨ah,H⟩:=gd H
 obtain ⟨bb,bc,ar,au⟩:=h0.ix Kk ah.1 ah.2
 refine O_y rfl (au rfl rfl)<|O_y rfl (Xq Xn rfl (hs.see ar.int)) ?_
 obtain ⟨ag,ae,H⟩:=bnd H
 refine Xs rfl rfl rfl (Kq.c hs ae) (fun bd w hpost=>?_)
 obtain ⟨rfl,hs⟩:=hpost
 refine Ox aq<|Xh rfl (fun af=>?_) (fun af=>?_)
 rw [if_pos af] at H
 refine Wr fun be av=>Mv rfl<|As rfl<|Ox av<|W.weak [(4,_)] (S1 rfl)<|Zm ?_
 obtain rfl:=Z4 H
 exact r1 rfl ⟨rfl,hs⟩
 rw [if_neg (bft af)] at H
 refine Wx ao<|Zc<|Oad rfl<|Mv rfl<|Zd (ac (ab,(i64.wrap (aa+1))) _ _ (T4 rfl) (Ai H hs) (Nat.lt_succ_self _))
 rw [if_neg ad] at H
 refine Y5 (al _ _ (aj _ _<|Wr fun bf aw=>As rfl<|Ox aw<|Zm ?_))
 obtain rfl:=Z4 H
 exact r1 rfl ⟨rfl,hs⟩

def Q6.f (x0:List Int):Option Bool:=(Yo.f x0).bind fun ab=>(some (decide (0≤ab)))
theorem Q6.c (hs:St w0 ρ (Γ) w) {v0:Value} {x0:List Int} (h0:SlR (Rep.int .i32) ρ v0 x0) {r:Bool} (H:Q6.f x0=some r):Zq Tryz.prog 39 [v0,.func (.func 142) #[] #[]] w (fun v w'=>v=.bool r∧St w0 ρ Γ w'):=by
 rw [Q6.f] at H
 refine Et Tryz.func39 Tryz.ntmps39 rfl<|Wr fun ae ac=>As rfl<|Ox ac<|Wr fun af ad=>Mv rfl<|Mv rfl ?_
 obtain ⟨ab,aa,H⟩:=bnd H
 refine Oc rfl (Yo.c hs h0 aa) (fun ag w hpost=>?_)
 obtain ⟨rfl,hs⟩:=hpost
 refine Oge rfl<|As rfl<|Ox ad<|Zm ?_
 obtain rfl:=Z4 H
 exact r1 rfl ⟨rfl,hs⟩

def Qz.j1 (aa:Bool):Option Bool:=some aa
def Qz.f (x0:List Int) (x1 x2:Int):Option Bool:=if x1≤(x0.length:Int) then (if (x0.length:Int)≤x2 then ((Q6.f x0).bind fun ab=>(Qz.j1 (!ab))) else (Qz.j1 false)) else (Qz.j1 false)
theorem Qz.c (hs:St w0 ρ (Γ) w) {v0:Value} {x0:List Int} (h0:SlR (Rep.int .i32) ρ v0 x0) {x1 x2:Int} {r:Bool} (H:Qz.f x0 x1 x2=some r):Zq Tryz.prog 91 [v0,.int .i64 x1,.int .i64 x2] w (fun v w'=>v=.bool r∧St w0 ρ Γ w'):=by
 rw [Qz.f] at H
 refine Et Tryz.func91 Tryz.ntmps91 rfl<|Wr fun ak ah=>As rfl<|Ox ah<|Yt fun ai aj ac=>?_
 have ad:∀ (aa:Bool) (w:World),Qz.j1 aa=some r→St w0 ρ (Γ) w→ai [(6,.bool aa)] w:=by
  intro aa w H hs
  rw [Qz.j1] at H
  refine aj _ _<|Zm ?_
  obtain rfl:=Z4 H
  exact r1 rfl ⟨rfl,hs⟩
 refine Zc<|Mv rfl<|O_y rfl (Yx Ua h0 rfl)<|Mv rfl<|Oge rfl<|Mv rfl<|X4 (dj:=11) rfl (fun ae=>?_) (fun ae=>?_)
 rw [if_pos ae] at H
 refine Oe rfl<|Mv rfl<|Oe rfl<|O_y rfl (Yx Ua h0 rfl)<|Oe rfl<|Mv rfl<|Oe rfl<|Ole rfl<|Opk rfl<|Mv rfl<|X4 (dj:=17) rfl (fun af=>?_) (fun af=>?_)
 rw [if_pos af] at H
 refine Oe rfl<|Mv rfl<|Oe rfl ?_
 obtain ⟨ab,ag,H⟩:=bnd H
 refine Oc rfl (Q6.c hs h0 ag) (fun al w hpost=>?_)
 obtain ⟨rfl,hs⟩:=hpost
 refine Oe rfl<|Ont rfl<|Opk rfl<|As rfl<|Zd (ac _ _ _ (S1 rfl) (ad (!ab) _ H hs))
 rw [if_neg af] at H
 refine On rfl<|On rfl<|On rfl<|Opk rfl<|As rfl<|Zd (ac _ _ _ (S1 rfl) (ad false _ H hs))
 rw [if_neg ae] at H
 refine On rfl<|On rfl<|On rfl<|On rfl<|Opk rfl<|Mv rfl<|On rfl<|On rfl<|On rfl<|Opk rfl<|As rfl<|Zd (ac _ _ _ (S1 rfl) (ad false _ H hs))

def Yh.j1 (aa:Int) (ad:Bool):Option (Bool×Int):=some (ad,aa)
def Yh.j2 (af:Int→Option (Bool×Int)) (y1_1:List Val) (x0:Chs) (aa:Int) (ab:Bool):Option (Bool×Int):=if ab=true then (af (i64.wrap (aa+1))) else ((Qz.f x0.is_ 1 18).bind fun ap=>(if ap=true then (if aa=(y1_1.length:Int) then (Yh.j1 aa true) else (if (0:Int)≤aa∧aa<(y1_1.length:Int) then (Yh.j1 aa (decide (x0.hi<((rd y1_1 aa).lo)))) else none)) else (Yh.j1 aa false)))
def Yh.l1:Nat→List Val→Chs→Int→Option (Bool×Int)
  | 0,_,_,_=>none
  | ac+1,y1_1,x0,aa=>if aa<(y1_1.length:Int) then (if (0:Int)≤aa∧aa<(y1_1.length:Int) then (Yh.j2 (Yh.l1 ac y1_1 x0) y1_1 x0 aa (decide (((rd y1_1 aa).hi)<x0.lo))) else none) else (Yh.j2 (Yh.l1 ac y1_1 x0) y1_1 x0 aa false)
def Yh.f (x0:Chs) (y0_0:Int) (y1_0:List ByteArray) (y1_1:List Val) (y1_2:List Chs) (y1_3:List Val) (y1_4:List Chs) (y1_5:List Spn) (y1_6 y1_7:List Val) (y1_8:List Spn) (y1_9:List Val) (y1_10:List Chs):Option (Bool×Int):=Yh.l1 K0 y1_1 x0 y0_0
theorem Yh.c {pb0:Nat} {y0_0:Int} {pb1:Nat} {w1_0:Value} {y1_0:List ByteArray} {w1_1:Value} {y1_1:List Val} {w1_2:Value} {y1_2:List Chs} {w1_3:Value} {y1_3:List Val} {w1_4:Value} {y1_4:List Chs} {w1_5:Value} {y1_5:List Spn} {w1_6:Value} {y1_6:List Val} {w1_7:Value} {y1_7:List Val} {w1_8:Value} {y1_8:List Spn} {w1_9:Value} {y1_9:List Val} {w1_10:Value} {y1_10:List Chs} (hs:St w0 ρ ((.box pb0 3 ([.int .i64 y0_0]))::(.box pb1 27 ([w1_0,w1_1,w1_2,w1_3,w1_4,w1_5,w1_6,w1_7,w1_8,w1_9,w1_10]))::Γ) w) {c0:List Value} {x0:Chs} (h0:Kz.R ρ c0 x0) (g1_0:SlR Rep.str ρ w1_0 y1_0) (g1_1:SlR Qb ρ w1_1 y1_1) (g1_2:SlR Kz ρ w1_2 y1_2) (g1_3:SlR Qb ρ w1_3 y1_3) (g1_4:SlR Kz ρ w1_4 y1_4) (g1_5:SlR Kj ρ w1_5 y1_5) (g1_6:SlR Qb ρ w1_6 y1_6) (g1_7:SlR Qb ρ w1_7 y1_7) (g1_8:SlR Kj ρ w1_8 y1_8) (g1_9:SlR Qb ρ w1_9 y1_9) (g1_10:SlR Kz ρ w1_10 y1_10) {r:Bool×Int} (H:Yh.f x0 y0_0 y1_0 y1_1 y1_2 y1_3 y1_4 y1_5 y1_6 y1_7 y1_8 y1_9 y1_10=some r):Zq Tryz.prog 148 [.agg c0.toArray,.pointer (some ⟨pb0,0,none⟩),.pointer (some ⟨pb1,0,none⟩)] w (fun v w'=>v=.bool r.1∧St w0 ρ ((.box pb0 3 ([.int .i64 r.2]))::(.box pb1 27 ([w1_0,w1_1,w1_2,w1_3,w1_4,w1_5,w1_6,w1_7,w1_8,w1_9,w1_10]))::Γ) w'):=by
 rw [Yh.f] at H
 refine Et Tryz.func148 Tryz.ntmps148 rfl ?_
 have aw:=h0
 obtain ⟨ah,rfl,ax⟩:=aw
 refine Wr fun bd ay=>Vn (cs:=[.int .i32 x0.lo,.int .i32 x0.hi,ah]) hs rfl rfl (fun ae w hs=>As rfl<|Ox ay<|Zi fun be az=>Zl fun bf a0 bg=>Xb (σ:=Nat×Int) (fun (ac,aa)=>[(1,.pointer (some ⟨pb0,0,none⟩)),(2,.pointer (some ⟨pb1,0,none⟩)),(3,.pointer (some ⟨ae,0,none⟩))]) (fun (ac,aa) w=>Yh.l1 ac y1_1 x0 aa=some r∧St w0 ρ ((.box ae 110 ([.int .i32 x0.lo,.int .i32 x0.hi,ah]))::(.box pb0 3 ([.int .i64 aa]))::(.box pb1 27 ([w1_0,w1_1,w1_2,w1_3,w1_4,w1_5,w1_6,w1_7,w1_8,w1_9,w1_10]))::Γ) w) (fun s=>s.1) (K0,y0_0) (T3 rfl) (Ai H hs) ?_)
 rintro ⟨ac,aa⟩ w bh ⟨H,hs⟩ ag
 show W _ _ _ _ _ _ [(1,.pointer (some ⟨pb0,0,none⟩)),(2,.pointer (some ⟨pb1,0,none⟩)),(3,.pointer (some ⟨ae,0,none⟩))] w
 cases ac with
 | zero=>rw [Yh.l1] at H;cases H
 | succ ac=>
 rw [Yh.l1] at H
 refine Zi fun bi a1=>Yt fun a2 a3 aq=>?_
 have ar:∀ (ab:Bool) (w:World),Yh.j2 (Yh.l1 ac y1_1 x0) y1_1 x0 aa ab=some r→St w0 ρ ((.box ae 110 ([.int .i32 x0.lo,.int .i32 x0.hi,ah]))::(.box pb0 3 ([.int .i64 aa]))::(.box pb1 27 ([w1_0,w1_1,w1_2,w1_3,w1_4,w1_5,w1_6,w1_7,w1_8,w1_9,w1_10]))::Γ) w→a2 [(1,.pointer (some ⟨pb0,0,none⟩)),(2,.pointer (some ⟨pb1,0,none⟩)),(3,.pointer (some ⟨ae,0,none⟩)),(20,.bool ab)] w:=by
  intro ab w H hs
  rw [Yh.j2] at H
  refine a3 _ _<|Xh rfl (fun ai=>?_) (fun ai=>?_)
  rw [if_pos ai] at H
  refine Wx a1<|Zl fun bj bk bl=>Zc<|Obx 1 ag3 hs rfl<|Oad rfl<|V6 (i:=1) sz3 hs rfl rfl rfl rfl rfl (fun w hs=>Zd (ag (ac,(i64.wrap (aa+1))) _ _ (T3 rfl) (Ai H hs) (Nat.lt_succ_self _)))
  rw [if_neg (bft ai)] at H
  refine Y5 (a0 _ _ (az _ _<|Yt fun a4 a5 aj=>?_))
  have ak:∀ (ad:Bool) (w:World),Yh.j1 aa ad=some r→St w0 ρ ((.box ae 110 ([.int .i32 x0.lo,.int .i32 x0.hi,ah]))::(.box pb0 3 ([.int .i64 aa]))::(.box pb1 27 ([w1_0,w1_1,w1_2,w1_3,w1_4,w1_5,w1_6,w1_7,w1_8,w1_9,w1_10]))::Γ) w→a4 [(4,.bool ad)] w:=by
   intro ad w H hs
   rw [Yh.j1] at H
   refine a5 _ _<|Zm ?_
   obtain rfl:=Z4 H
   exact r1 rfl ⟨rfl,(hs.sub (ssk (ssc (ssc ssr))))⟩
  refine Qt 22 [0,1,2,4,8,8,40,72,152,264,512,1536,512,6656,8704,16896,512,66048,164352,262664,524296,2097151] [2097148,2097144,2097136,523264,2096864,2097040,2096912,2096656,2096128,1048576,2093056,2084864,2083840,2064384,2031616,1769472,1899520,1637376,1048576,0,0,0] [0,1,3,7,15,15,47,111,255,511,1023,2047,1023,8191,16383,32767,1023,66559,262143,524287,1048575,2097151] [2,3,4,5,6,7,8,9,10,11,12,13,14,15,16,17,18,19,20,21] (fun w=>St w0 ρ ((.box ae 110 ([.int .i32 x0.lo,.int .i32 x0.hi,ah]))::(.box pb0 3 ([.int .i64 aa]))::(.box pb1 27 ([w1_0,w1_1,w1_2,w1_3,w1_4,w1_5,w1_6,w1_7,w1_8,w1_9,w1_10]))::Γ) w) Vr (by kernel_rfl) (fun sh=>?_)
  have hs:=hs.drew
  refine Fp 0 sh rfl (fun w=>Zw Zac rfl)<|Fy 1 sh rfl hs (fun w hs=>Yb 0 Za1 hs rfl rfl rfl)<|F1 2 sh rfl (fun bm a6=>?_)
  obtain ⟨ap,al,H⟩:=bnd H
  refine Oc rfl (Qz.c hs ax al) (fun bn w hpost=>?_)
  obtain ⟨rfl,hs⟩:=hpost
  refine Zd (a6 _ _ (fun h _=>absurd h (by decide))<|Kn sh [] hs (by kernel_rfl)<|Fm 3 sh rfl<|Zga (dj:=26) rfl (fun am=>?_) (fun am=>?_))
  rw [if_pos am] at H
  refine Fy 4 sh rfl hs (fun w hs=>Yb 1 ag3 hs rfl rfl rfl)<|Fp 5 sh rfl (fun w=>Zw Zd7 rfl)<|Fy 6 sh rfl hs (fun w hs=>Yb 2 Zbx hs rfl rfl rfl)<|Fp 7 sh rfl (fun w=>Yx Zg2 g1_1 rfl)<|Fp 8 sh rfl (fun w=>Zbw rfl rfl)<|Fp 9 sh rfl (fun w=>Qm rfl)<|Za4 (dj:=32) rfl (fun an=>?_) (fun an=>?_)
  rw [if_pos an] at H
  refine Fn 10 sh rfl<|Fn 11 sh rfl<|Fn 12 sh rfl<|Fn 13 sh rfl<|Fn 14 sh rfl<|Fn 15 sh rfl<|Fn 16 sh rfl<|Fn 17 sh rfl<|Fn 18 sh rfl<|Fp 19 sh rfl (fun w=>Ve rfl rfl)<|Fp 20 sh rfl (fun w=>Ve rfl rfl)<|Fp 21 sh rfl (fun w=>Xz rfl)<|FE sh (aj _ _ _ (S1 rfl) (ak true _ H hs))
  rw [if_neg an] at H
  refine Fp 10 sh rfl (fun w=>Zw Zd7 rfl)<|Fy 11 sh rfl hs (fun w hs=>Yb 2 Zbx hs rfl rfl rfl)<|Fy 12 sh rfl hs (fun w hs=>Yb 1 ag3 hs rfl rfl rfl) ?_
  obtain ⟨au,H⟩:=gd H
  obtain ⟨bo,bp,a7,a8⟩:=g1_1.ix Zcx au.1 au.2
  obtain ⟨_,rfl,a9⟩:=a7
  refine Fp 13 sh rfl (fun w=>a8 rfl rfl)<|Fp 14 sh rfl (fun w=>Zw Zf4 rfl)<|Fy 15 sh rfl hs (fun w hs=>Xq Xn rfl (hs.see (a9 0 _ rfl)))<|Fp 16 sh rfl (fun w=>Zw Zik rfl)<|Fy 17 sh rfl hs (fun w hs=>Yb 0 Xn hs rfl rfl rfl)<|Fp 18 sh rfl (fun w=>Zlq rfl rfl)<|Fp 19 sh rfl (fun w=>Qr rfl rfl)<|Fp 20 sh rfl (fun w=>Ve rfl rfl)<|Fp 21 sh rfl (fun w=>Xz rfl)<|FE sh (aj _ _ _ (S1 rfl) (ak (decide (x0.hi<((rd y1_1 aa).lo))) _ H hs))
  rw [if_neg (bft am)] at H
  refine Fn 4 sh rfl<|Fn 5 sh rfl<|Fn 6 sh rfl<|Fn 7 sh rfl<|Fn 8 sh rfl<|Fn 9 sh rfl<|Fu 10 sh rfl<|Fu 11 sh rfl<|Fu 12 sh rfl<|Fu 13 sh rfl<|Fu 14 sh rfl<|Fu 15 sh rfl<|Fu 16 sh rfl<|Fu 17 sh rfl ?_
  refine Fu 18 sh rfl<|Fn 19 sh rfl<|Fp 20 sh rfl (fun w=>Qr rfl rfl)<|Fp 21 sh rfl (fun w=>Xz rfl)<|FE sh (aj _ _ _ (S1 rfl) (ak false _ H hs))
 refine Qt 16 [0,0,2,4,9,16,32,96,32,416,544,1056,32,4128,10272,16416] [65518,65529,65521,65505,65472,0,65280,64768,64704,63488,61440,45056,53184,36800,0,0] [0,0,2,6,15,31,63,127,63,511,1023,2047,63,4159,16383,32767] [] (fun w=>St w0 ρ ((.box ae 110 ([.int .i32 x0.lo,.int .i32 x0.hi,ah]))::(.box pb0 3 ([.int .i64 aa]))::(.box pb1 27 ([w1_0,w1_1,w1_2,w1_3,w1_4,w1_5,w1_6,w1_7,w1_8,w1_9,w1_10]))::Γ) w) Vr (by kernel_rfl) (fun sh=>?_)
 have hs:=hs.drew
 refine Fy 0 sh rfl hs (fun w hs=>Yb 1 ag3 hs rfl rfl rfl)<|Fp 1 sh rfl (fun w=>Zw Zd7 rfl)<|Fy 2 sh rfl hs (fun w hs=>Yb 2 Zbx hs rfl rfl rfl)<|Fp 3 sh rfl (fun w=>Yx Zg2 g1_1 rfl)<|Fp 4 sh rfl (fun w=>Za7 rfl rfl)<|Fm 5 sh rfl<|Za4 (dj:=10) rfl (fun ao=>?_) (fun ao=>?_)
 rw [if_pos ao] at H
 refine Fp 6 sh rfl (fun w=>Zw Zd7 rfl)<|Fy 7 sh rfl hs (fun w hs=>Yb 2 Zbx hs rfl rfl rfl)<|Fy 8 sh rfl hs (fun w hs=>Yb 1 ag3 hs rfl rfl rfl) ?_
 obtain ⟨av,H⟩:=gd H
 obtain ⟨bq,br,ba,bb⟩:=g1_1.ix Zcx av.1 av.2
 obtain ⟨_,rfl,bc⟩:=ba
 refine Fp 9 sh rfl (fun w=>bb rfl rfl)<|Fp 10 sh rfl (fun w=>Zw Zej rfl)<|Fy 11 sh rfl hs (fun w hs=>Xq Xn rfl (hs.see (bc 1 _ rfl)))<|Fp 12 sh rfl (fun w=>Zw Zb3 rfl)<|Fy 13 sh rfl hs (fun w hs=>Yb 0 Xn hs rfl rfl rfl)<|Fp 14 sh rfl (fun w=>Za7 rfl rfl)<|Fp 15 sh rfl (fun w=>Ve rfl rfl)<|FE sh (aq _ _ _ (T4 rfl) (ar (decide (((rd y1_1 aa).hi)<x0.lo)) _ H hs))
 rw [if_neg ao] at H
 refine Fn 6 sh rfl<|Fn 7 sh rfl<|Fn 8 sh rfl<|Fn 9 sh rfl<|Fn 10 sh rfl<|Fn 11 sh rfl<|Fn 12 sh rfl<|Fn 13 sh rfl<|Fn 14 sh rfl<|Fp 15 sh rfl (fun w=>Qr rfl rfl)<|FE sh (aq _ _ _ (T4 rfl) (ar false _ H hs))

def Zy.j1 (an:Int→Int→Int→Option (Int×Int)) (aa:Int) (ai:Spn) (ac:Int) (af:Bool):Option (Int×Int):=if af=true then (some (aa,ac)) else (an ac ai.hi (i64.wrap (aa+1)))
def Zy.l1:Nat→List ByteArray→List Val→List Chs→List Val→List Chs→List Spn→List Val→List Val→List Spn→List Val→List Chs→List Chs→Int→Int→Int→Option (Int×Int)
  | 0,_,_,_,_,_,_,_,_,_,_,_,_,_,_,_=>none
  | ag+1,y1_0,y1_1,y1_2,y1_3,y1_4,y1_5,y1_6,y1_7,y1_8,y1_9,y1_10,x0,ab,ah,aa=>if aa<(x0.length:Int) then (if (0:Int)≤aa∧aa<(x0.length:Int) then ((Ks.f (rd x0 aa)).bind fun ai=>(if ai.lo≤ah then (Zy.j1 (Zy.l1 ag y1_0 y1_1 y1_2 y1_3 y1_4 y1_5 y1_6 y1_7 y1_8 y1_9 y1_10 x0) aa ai ab true) else (if ai.hi<ai.lo then (Zy.j1 (Zy.l1 ag y1_0 y1_1 y1_2 y1_3 y1_4 y1_5 y1_6 y1_7 y1_8 y1_9 y1_10 x0) aa ai ab true) else (if 1114111<ai.hi then (Zy.j1 (Zy.l1 ag y1_0 y1_1 y1_2 y1_3 y1_4 y1_5 y1_6 y1_7 y1_8 y1_9 y1_10 x0) aa ai ab true) else ((Yh.f (rd x0 aa) ab y1_0 y1_1 y1_2 y1_3 y1_4 y1_5 y1_6 y1_7 y1_8 y1_9 y1_10).bind fun aj=>(Zy.j1 (Zy.l1 ag y1_0 y1_1 y1_2 y1_3 y1_4 y1_5 y1_6 y1_7 y1_8 y1_9 y1_10 x0) aa ai aj.2 (!aj.1))))))) else none) else (some ((-1),ab))
def Zy.f (x0:List Chs) (y0_0:Int) (y1_0:List ByteArray) (y1_1:List Val) (y1_2:List Chs) (y1_3:List Val) (y1_4:List Chs) (y1_5:List Spn) (y1_6 y1_7:List Val) (y1_8:List Spn) (y1_9:List Val) (y1_10:List Chs):Option (Int×Int):=if 65536<(x0.length:Int) then (some (65536,y0_0)) else (Zy.l1 K0 y1_0 y1_1 y1_2 y1_3 y1_4 y1_5 y1_6 y1_7 y1_8 y1_9 y1_10 x0 y0_0 (-1) 0)
theorem Zy.c {pb0:Nat} {y0_0:Int} {pb1:Nat} {w1_0:Value} {y1_0:List ByteArray} {w1_1:Value} {y1_1:List Val} {w1_2:Value} {y1_2:List Chs} {w1_3:Value} {y1_3:List Val} {w1_4:Value} {y1_4:List Chs} {w1_5:Value} {y1_5:List Spn} {w1_6:Value} {y1_6:List Val} {w1_7:Value} {y1_7:List Val} {w1_8:Value} {y1_8:List Spn} {w1_9:Value} {y1_9:List Val} {w1_10:Value} {y1_10:List Chs} (hs:St w0 ρ ((.box pb0 3 ([.int .i64 y0_0]))::(.box pb1 27 ([w1_0,w1_1,w1_2,w1_3,w1_4,w1_5,w1_6,w1_7,w1_8,w1_9,w1_10]))::Γ) w) {v0:Value} {x0:List Chs} (h0:SlR Kz ρ v0 x0) (g1_0:SlR Rep.str ρ w1_0 y1_0) (g1_1:SlR Qb ρ w1_1 y1_1) (g1_2:SlR Kz ρ w1_2 y1_2) (g1_3:SlR Qb ρ w1_3 y1_3) (g1_4:SlR Kz ρ w1_4 y1_4) (g1_5:SlR Kj ρ w1_5 y1_5) (g1_6:SlR Qb ρ w1_6 y1_6) (g1_7:SlR Qb ρ w1_7 y1_7) (g1_8:SlR Kj ρ w1_8 y1_8) (g1_9:SlR Qb ρ w1_9 y1_9) (g1_10:SlR Kz ρ w1_10 y1_10) {r:Int×Int} (H:Zy.f x0 y0_0 y1_0 y1_1 y1_2 y1_3 y1_4 y1_5 y1_6 y1_7 y1_8 y1_9 y1_10=some r):Zq Tryz.prog 100 [v0,.func (.func 66) #[] #[],.func (.func 148) #[] #[.pointer (some ⟨pb0,0,none⟩),.pointer (some ⟨pb1,0,none⟩)]] w (fun v w'=>v=.int .i64 r.1∧St w0 ρ ((.box pb0 3 ([.int .i64 r.2]))::(.box pb1 27 ([w1_0,w1_1,w1_2,w1_3,w1_4,w1_5,w1_6,w1_7,w1_8,w1_9,w1_10]))::Γ) w'):=by
 rw [Zy.f] at H
 refine Et Tryz.func100 Tryz.ntmps100 rfl<|Wr fun bx ba=>As rfl<|Ox ba<|Zi fun bz bb=>Wr fun b0 bc=>Mv rfl<|O_y rfl (Yx Zfs h0 rfl)<|Ogt rfl<|Ox bc<|Xa rfl (fun ay=>?_) (fun ay=>?_)
 rw [if_pos ay] at H
 refine Wr fun b1 bd=>As rfl<|Ox bd<|Zm ?_
 obtain rfl:=Z4 H
 exact r1 rfl ⟨rfl,hs⟩
 rw [if_neg ay] at H
 refine Wx bb<|Wr fun b2 be=>As rfl<|Ox be<|Zi fun b3 bf=>Wr fun b4 bg=>Mv rfl<|O_y rfl (Yx Zfs h0 rfl)<|Mv rfl<|Ox bg<|Zl fun b5 bh b6=>Xb (σ:=Nat×Int×Int×Int×Hp) (fun (ag,ab,ah,aa,ak)=>[(1,.func (.func 66) #[] #[]),(2,.func (.func 148) #[] #[.pointer (some ⟨pb0,0,none⟩),.pointer (some ⟨pb1,0,none⟩)]),(7,.int .i32 ah),(14,v0),(15,.int .i64 (x0.length:Int)),(16,.int .i64 aa)]) (fun (ag,ab,ah,aa,ak) w=>Zy.l1 ag y1_0 y1_1 y1_2 y1_3 y1_4 y1_5 y1_6 y1_7 y1_8 y1_9 y1_10 x0 ab ah aa=some r∧Le ρ ak∧St w0 ak ((.box pb0 3 ([.int .i64 ab]))::(.box pb1 27 ([w1_0,w1_1,w1_2,w1_3,w1_4,w1_5,w1_6,w1_7,w1_8,w1_9,w1_10]))::Γ) w) (fun s=>s.1) (K0,y0_0,(-1),0,ρ) sbn (Ai H (Ai (Le.rfl' _) hs)) ?_
 rintro ⟨ag,ab,ah,aa,ak⟩ w b7 ⟨H,ad,hs⟩ ao
 show W _ _ _ _ _ _ [(1,.func (.func 66) #[] #[]),(2,.func (.func 148) #[] #[.pointer (some ⟨pb0,0,none⟩),.pointer (some ⟨pb1,0,none⟩)]),(7,.int .i32 ah),(14,v0),(15,.int .i64 (x0.length:Int)),(16,.int .i64 aa)] w
 cases ag with
 | zero=>rw [Zy.l1] at H;cases H
 | succ ag=>
 rw [Zy.l1] at H
 refine Wr fun b8 bi=>Ols rfl<|Ox bi<|Zi fun b9 bj=>Xa rfl (fun az=>?_) (fun az=>?_)
 rw [if_pos az] at H
 refine Wx bj<|Zi fun ca bk=>Zl fun cb cc cd=>Wr fun ce bl=>Mv rfl ?_
 obtain ⟨a9,H⟩:=gd H
 obtain ⟨cf,cg,bm,bn⟩:=(h0.mono ad).ix Zep a9.1 a9.2
 obtain ⟨_,⟨bo,rfl,a0⟩,bp⟩:=bm
 refine O_y rfl (bn rfl rfl)<|O_y rfl (Q0 Zb1 Zap rfl rfl (fun j u hu=>hs.see (bp j u hu)))<|Y6 Zh1 hs rfl (fun bq w hs=>As rfl<|Ye (i:=0) Zap hs rfl rfl rfl rfl rfl (Zb rfl (Zb rfl (Zb a0.one Ym))) (fun w hs=>Ox bl<|Wr fun ch br=>Mv rfl<|O_y rfl (Xl (i:=0) Zb1 Zap hs rfl rfl rfl rfl) ?_))
 obtain ⟨ai,a1,H⟩:=bnd H
 refine Xs rfl rfl rfl (Ks.c hs ⟨_,rfl,a0⟩ a1) (fun ci w hpost=>?_)
 obtain ⟨av,bs,rfl,ae,hs,a2⟩:=hpost
 have a3:=a2
 obtain rfl:=a3
 refine Y6 Za5 hs rfl (fun aw w hs=>Ye (i:=0) Hv hs rfl rfl rfl rfl rfl (Zb rfl (Zb rfl Ym)) (fun w hs=>Ox br<|W.weak [(1,_),(2,_),(7,_),(8,_),(9,_),(10,_),(14,_),(15,_),(16,_)] sbn ?_))
 refine Zi fun bt a4=>Yt fun a5 a6 al=>?_
 have am:∀ (ac:Int) (af:Bool) (w:World),Zy.j1 (Zy.l1 ag y1_0 y1_1 y1_2 y1_3 y1_4 y1_5 y1_6 y1_7 y1_8 y1_9 y1_10 x0) aa ai ac af=some r→St w0 av ((.box aw 129 ([.int .i32 ai.lo,.int .i32 ai.hi]))::(.box bq 110 ([.int .i32 ((rd x0 aa).lo),.int .i32 ((rd x0 aa).hi),bo]))::(.box pb0 3 ([.int .i64 ac]))::(.box pb1 27 ([w1_0,w1_1,w1_2,w1_3,w1_4,w1_5,w1_6,w1_7,w1_8,w1_9,w1_10]))::Γ) w→a5 [(1,.func (.func 66) #[] #[]),(2,.func (.func 148) #[] #[.pointer (some ⟨pb0,0,none⟩),.pointer (some ⟨pb1,0,none⟩)]),(8,.int .i64 aa),(10,.pointer (some ⟨aw,0,none⟩)),(14,v0),(15,.int .i64 (x0.length:Int)),(16,.int .i64 aa),(45,.bool af)] w:=by
  intro ac af w H hs
  rw [Zy.j1] at H
  refine a6 _ _<|Xh rfl (fun ap=>?_) (fun ap=>?_)
  rw [if_pos ap] at H
  refine Wr fun bu a7=>Mv rfl<|As rfl<|Ox a7<|Zm ?_
  obtain rfl:=Z4 H
  exact r1 rfl ⟨rfl,((hs.sub (ssk (ssk (ssc (ssc ssr))))).less (ad.trans ae))⟩
  rw [if_neg (bft ap)] at H
  refine Wx a4<|Zc<|Ofd Vy rfl<|Obx 0 Xn hs rfl<|As rfl<|Ox bk<|Zc<|Oad rfl<|Mv rfl<|Zd (ao (ag,ac,ai.hi,(i64.wrap (aa+1)),av) _ _ sbn (Ai H (Ai (ad.trans ae) (hs.sub (ssk (ssk (ssc (ssc ssr))))))) (Nat.lt_succ_self _))
 refine Zc<|Ofd U6 rfl<|Obx 0 Xn hs rfl<|Mv rfl<|Ole rfl<|Mv rfl<|X4 (dj:=28) rfl (fun aq=>?_) (fun aq=>?_)
 rw [if_pos aq] at H
 refine On rfl<|On rfl<|On rfl<|On rfl<|On rfl<|Opk rfl<|Mv rfl<|On rfl<|On rfl<|On rfl<|Opk rfl<|Mv rfl<|On rfl<|On rfl ?_
 refine On rfl<|On rfl<|Opk rfl<|Zd (al _ _ _ sbn (am ab true _ H hs))
 rw [if_neg aq] at H
 refine Oe rfl<|Ofd Vy rfl<|Oe rfl<|Obx 0 Xn hs rfl<|Oe rfl<|Ofd U6 rfl<|Oe rfl<|Obx 0 Xn hs rfl<|Oe rfl<|Ols rfl<|Opk rfl<|Mv rfl<|X4 (dj:=35) rfl (fun ar=>?_) (fun ar=>?_)
 rw [if_pos ar] at H
 refine On rfl<|On rfl<|On rfl<|Opk rfl<|Mv rfl<|On rfl<|On rfl<|On rfl<|On rfl<|Opk rfl<|Zd (al _ _ _ sbn (am ab true _ H hs))
 rw [if_neg ar] at H
 refine Oe rfl<|Ofd Vy rfl<|Oe rfl<|Obx 0 Xn hs rfl<|Oe rfl<|Ogt rfl<|Opk rfl<|Mv rfl<|X4 (dj:=40) rfl (fun au=>?_) (fun au=>?_)
 rw [if_pos au] at H
 refine On rfl<|On rfl<|On rfl<|On rfl<|Opk rfl<|Zd (al _ _ _ sbn (am ab true _ H hs))
 rw [if_neg au] at H
 refine Oe rfl<|Mv rfl<|Oe rfl<|O_y rfl (Xl (i:=1) Zb1 Zap hs rfl rfl rfl rfl)<|Oe rfl ?_
 have hs:=hs.front 3 rfl
 have hs:=hs.front 3 rfl
 obtain ⟨aj,ax,H⟩:=bnd H
 refine Xs rfl rfl rfl (Yh.c hs ⟨_,rfl,(a0.mono ae)⟩ (g1_0.mono (ad.trans ae)) (g1_1.mono (ad.trans ae)) (g1_2.mono (ad.trans ae)) (g1_3.mono (ad.trans ae)) (g1_4.mono (ad.trans ae)) (g1_5.mono (ad.trans ae)) (g1_6.mono (ad.trans ae)) (g1_7.mono (ad.trans ae)) (g1_8.mono (ad.trans ae)) (g1_9.mono (ad.trans ae)) (g1_10.mono (ad.trans ae)) ax) (fun bv w hpost=>?_)
 obtain ⟨rfl,hs⟩:=hpost
 have hs:=hs.sink 3
 have hs:=hs.sink 3
 refine Oe rfl<|Ont rfl<|Opk rfl<|Zd (al _ _ _ sbn (am aj.2 (!aj.1) _ H hs))
 rw [if_neg az] at H
 refine Y5 (bh _ _ (bf _ _<|Wr fun bw a8=>As rfl<|Ox a8<|Zm ?_))
 obtain rfl:=Z4 H
 exact r1 rfl ⟨rfl,(hs.less ad)⟩

def Zav.f (x0:Bk):Option Int:=(Zy.f x0.maps 0 x0.names x0.status x0.maps x0.class_ x0.decomp x0.excl x0.bidi x0.join x0.marks x0.script x0.like).bind fun ab=>(some ab.1)
theorem Zav.c (hs:St w0 ρ (Γ) w) {c0:List Value} {x0:Bk} (h0:rBk.R ρ c0 x0) {r:Int} (H:Zav.f x0=some r):Zq Tryz.prog 97 [.agg c0.toArray] w (fun v w'=>v=.int .i64 r∧St w0 ρ Γ w'):=by
 rw [Zav.f] at H
 refine Et Tryz.func97 Tryz.ntmps97 rfl ?_
 have ad:=h0
 obtain ⟨ae,af,ag,ah,ai,aj,ak,al,am,an,ao,rfl,ap,aq,ac,ar,au,av,aw,ax,ay,az,a0⟩:=ad
 refine Wr fun a4 a1=>Vn (cs:=[ae,af,ag,ah,ai,aj,ak,al,am,an,ao]) hs rfl rfl (fun a5 w hs=>As rfl<|Ox a1<|Wr fun a6 a2=>Y6 zr3 hs rfl (fun a7 w hs=>V6 (i:=0) sz3 hs rfl rfl rfl rfl rfl (fun w hs=>Ox a2<|Wr fun a8 a3=>Ofd Zm1 rfl<|Obx 1 Zfe hs rfl ?_)))
 refine O_y rfl (Hi rfl) ?_
 have hs:=hs.front 1 rfl
 have hs:=hs.front 1 rfl
 obtain ⟨ab,aa,H⟩:=bnd H
 refine Oc rfl (Zy.c hs ac ap aq ac ar au av aw ax ay az a0 aa) (fun a9 w hpost=>?_)
 obtain ⟨rfl,hs⟩:=hpost
 have hs:=hs.sink 1
 have hs:=hs.sink 1
 refine As rfl<|Ox a3<|Zm ?_
 obtain rfl:=Z4 H
 exact r1 rfl ⟨rfl,(hs.sub (ssk (ssk ssr)))⟩

def Hc.f (y0_0:List ByteArray) (y0_1:List Val) (y0_2:List Chs) (y0_3:List Val) (y0_4:List Chs) (y0_5:List Spn) (y0_6 y0_7:List Val) (y0_8:List Spn) (y0_9:List Val) (y0_10:List Chs):Option Int:=(Zav.f (⟨y0_0,y0_1,y0_2,y0_3,y0_4,y0_5,y0_6,y0_7,y0_8,y0_9,y0_10⟩:Bk)).bind fun ab=>(some ab)
theorem Hc.c {pb0:Nat} {w0_0:Value} {y0_0:List ByteArray} {w0_1:Value} {y0_1:List Val} {w0_2:Value} {y0_2:List Chs} {w0_3:Value} {y0_3:List Val} {w0_4:Value} {y0_4:List Chs} {w0_5:Value} {y0_5:List Spn} {w0_6:Value} {y0_6:List Val} {w0_7:Value} {y0_7:List Val} {w0_8:Value} {y0_8:List Spn} {w0_9:Value} {y0_9:List Val} {w0_10:Value} {y0_10:List Chs} (hs:St w0 ρ ((.box pb0 27 ([w0_0,w0_1,w0_2,w0_3,w0_4,w0_5,w0_6,w0_7,w0_8,w0_9,w0_10]))::Γ) w) (g0_0:SlR Rep.str ρ w0_0 y0_0) (g0_1:SlR Qb ρ w0_1 y0_1) (g0_2:SlR Kz ρ w0_2 y0_2) (g0_3:SlR Qb ρ w0_3 y0_3) (g0_4:SlR Kz ρ w0_4 y0_4) (g0_5:SlR Kj ρ w0_5 y0_5) (g0_6:SlR Qb ρ w0_6 y0_6) (g0_7:SlR Qb ρ w0_7 y0_7) (g0_8:SlR Kj ρ w0_8 y0_8) (g0_9:SlR Qb ρ w0_9 y0_9) (g0_10:SlR Kz ρ w0_10 y0_10) {r:Int} (H:Hc.f y0_0 y0_1 y0_2 y0_3 y0_4 y0_5 y0_6 y0_7 y0_8 y0_9 y0_10=some r):Zq Tryz.prog 96 [.pointer (some ⟨pb0,0,none⟩)] w (fun v w'=>v=.int .i64 r∧St w0 ρ ((.box pb0 27 ([w0_0,w0_1,w0_2,w0_3,w0_4,w0_5,w0_6,w0_7,w0_8,w0_9,w0_10]))::Γ) w'):=by
 rw [Hc.f] at H
 refine Et Tryz.func96 Tryz.ntmps96 rfl<|Wr fun ae ac=>As rfl<|Ox ac<|Wr fun af ad=>O_y rfl (Xl (i:=0) Zk3 Zkz hs rfl rfl rfl rfl) ?_
 obtain ⟨ab,aa,H⟩:=bnd H
 refine Oc rfl (Zav.c hs ⟨_,_,_,_,_,_,_,_,_,_,_,rfl,g0_0,g0_1,g0_2,g0_3,g0_4,g0_5,g0_6,g0_7,g0_8,g0_9,g0_10⟩ aa) (fun ag w hpost=>?_)
 obtain ⟨rfl,hs⟩:=hpost
 refine As rfl<|Ox ad<|Zm ?_
 obtain rfl:=Z4 H
 exact r1 rfl ⟨rfl,hs⟩

def Zbf.f:Option (List Spn):=some ([(⟨4352,4370⟩:Spn),(⟨4449,4469⟩:Spn),(⟨4520,4546⟩:Spn),(⟨44032,55203⟩:Spn)])
theorem Zbf.c (hs:St w0 ρ (Γ) w) {r:List Spn} (H:Zbf.f=some r):Zq Tryz.prog 140 [] w (fun v w'=>∃ (ρ':Hp) (v0:Value) (cs0:List Value),v=v0∧Le ρ ρ'∧St w0 ρ' (.row v0 129 Kj.sz r.length cs0::Γ) w'∧Zp Kj ρ' cs0 r):=by
 rw [Zbf.f] at H
 refine Et Tryz.func140 Tryz.ntmps140 rfl<|Wr fun ad aa=>As rfl<|Ox aa<|Wr fun ae ab=>O_y rfl (Qg (cs:=[.int .i32 4352,.int .i32 4370]) Za5 Zlc ((Z3.cons rfl rfl (Z3.cons rfl rfl Z3.nil))) Zbg (by kernel_rfl))<|O_y rfl (Qg (cs:=[.int .i32 4449,.int .i32 4469]) Za5 Zlc ((Z3.cons rfl rfl (Z3.cons rfl rfl Z3.nil))) Zbg (by kernel_rfl))<|O_y rfl (Qg (cs:=[.int .i32 4520,.int .i32 4546]) Za5 Zlc ((Z3.cons rfl rfl (Z3.cons rfl rfl Z3.nil))) Zbg (by kernel_rfl))<|O_y rfl (Qg (cs:=[.int .i32 44032,.int .i32 55203]) Za5 Zlc ((Z3.cons rfl rfl (Z3.cons rfl rfl Z3.nil))) Zbg (by kernel_rfl))<|K6 (xs:=[.tmp 1,.tmp 2,.tmp 3,.tmp 4]) (cs:=[.int .i32 4352,.int .i32 4370,.int .i32 4449,.int .i32 4469,.int .i32 4520,.int .i32 4546,.int .i32 44032,.int .i32 55203]) Zkx hs rfl rfl rfl (by decide) (by decide) rfl (Yd rfl (Yd rfl (Yd rfl (Yd rfl Ki)))) (Zx rfl (Zx rfl (Zx rfl (Zx rfl X6)))) (fun af w hs=>?_)
 have ac:Zp Kj ρ ([.int .i32 4352,.int .i32 4370,.int .i32 4449,.int .i32 4469,.int .i32 4520,.int .i32 4546,.int .i32 44032,.int .i32 55203]) [(⟨4352,4370⟩:Spn),(⟨4449,4469⟩:Spn),(⟨4520,4546⟩:Spn),(⟨44032,55203⟩:Spn)]:=Zp.cons (c:=[.int .i32 4352,.int .i32 4370]) (x:=(⟨4352,4370⟩:Spn)) rfl (Zp.cons (c:=[.int .i32 4449,.int .i32 4469]) (x:=(⟨4449,4469⟩:Spn)) rfl (Zp.cons (c:=[.int .i32 4520,.int .i32 4546]) (x:=(⟨4520,4546⟩:Spn)) rfl (Zp.cons (c:=[.int .i32 44032,.int .i32 55203]) (x:=(⟨44032,55203⟩:Spn)) rfl (Zp.nil _ _))))
 refine As rfl<|Ox ab<|Zm ?_
 obtain rfl:=Z4 H
 exact r1 rfl ⟨_,_,_,rfl,Le.rfl' _,hs,ac⟩

def Kg.j1 (aa:Bool):Option Bool:=some aa
def Kg.f (x0:Spn) (y0_0 y0_1:Int):Option Bool:=if y0_0≤x0.hi then (Kg.j1 (decide (x0.lo≤y0_1))) else (Kg.j1 false)
theorem Kg.c {pb0:Nat} {y0_0 y0_1:Int} (hs:St w0 ρ ((.box pb0 129 ([.int .i32 y0_0,.int .i32 y0_1]))::Γ) w) {c0:List Value} {x0:Spn} (h0:Kj.R ρ c0 x0) {r:Bool} (H:Kg.f x0 y0_0 y0_1=some r):Zq Tryz.prog 141 [.agg c0.toArray,.pointer (some ⟨pb0,0,none⟩)] w (fun v w'=>v=.bool r∧St w0 ρ ((.box pb0 129 ([.int .i32 y0_0,.int .i32 y0_1]))::Γ) w'):=by
 rw [Kg.f] at H
 refine Et Tryz.func141 Tryz.ntmps141 rfl ?_
 have ae:=h0
 obtain rfl:=ae
 refine Wr fun aj af=>Vn (cs:=[.int .i32 x0.lo,.int .i32 x0.hi]) hs rfl rfl (fun ag w hs=>As rfl<|Ox af<|Yt fun ah ai ac=>?_)
 have ad:∀ (aa:Bool) (w:World),Kg.j1 aa=some r→St w0 ρ ((.box ag 129 ([.int .i32 x0.lo,.int .i32 x0.hi]))::(.box pb0 129 ([.int .i32 y0_0,.int .i32 y0_1]))::Γ) w→ah [(3,.bool aa)] w:=by
  intro aa w H hs
  rw [Kg.j1] at H
  refine ai _ _<|Zm ?_
  obtain rfl:=Z4 H
  exact r1 rfl ⟨rfl,(hs.sub (ssk (ssc ssr)))⟩
 refine Zc<|Ofd U6 rfl<|Obx 1 Xn hs rfl<|Ofd Vy rfl<|Obx 0 Xn hs rfl<|Ole rfl<|Mv rfl<|X4 (dj:=9) rfl (fun ab=>?_) (fun ab=>?_)
 rw [if_pos ab] at H
 refine Oe rfl<|Ofd U6 rfl<|Oe rfl<|Obx 0 Xn hs rfl<|Oe rfl<|Ofd Vy rfl<|Oe rfl<|Obx 1 Xn hs rfl<|Oe rfl<|Ole rfl<|Opk rfl<|As rfl<|Zd (ac _ _ _ (S1 rfl) (ad (decide (x0.lo≤y0_1)) _ H hs))
 rw [if_neg ab] at H
 refine On rfl<|On rfl<|On rfl<|On rfl<|On rfl<|Opk rfl<|As rfl<|Zd (ac _ _ _ (S1 rfl) (ad false _ H hs))

def Z9.l1:Nat→Int→Int→List Spn→Int→Option Int
  | 0,_,_,_,_=>none
  | ab+1,y0_0,y0_1,x0,aa=>if aa<(x0.length:Int) then (if (0:Int)≤aa∧aa<(x0.length:Int) then ((Kg.f (rd x0 aa) y0_0 y0_1).bind fun ag=>(if ag=true then (some aa) else ((Z9.l1 ab y0_0 y0_1 x0) (i64.wrap (aa+1))))) else none) else (some (-1))
def Z9.f (x0:List Spn) (y0_0 y0_1:Int):Option Int:=Z9.l1 K0 y0_0 y0_1 x0 0
theorem Z9.c {pb0:Nat} {y0_0 y0_1:Int} (hs:St w0 ρ ((.box pb0 129 ([.int .i32 y0_0,.int .i32 y0_1]))::Γ) w) {v0:Value} {x0:List Spn} (h0:SlR Kj ρ v0 x0) {r:Int} (H:Z9.f x0 y0_0 y0_1=some r):Zq Tryz.prog 170 [v0,.func (.func 141) #[] #[.pointer (some ⟨pb0,0,none⟩)]] w (fun v w'=>v=.int .i64 r∧St w0 ρ ((.box pb0 129 ([.int .i32 y0_0,.int .i32 y0_1]))::Γ) w'):=by
 rw [Z9.f] at H
 refine Et Tryz.func170 Tryz.ntmps170 rfl<|Wr fun ay ai=>As rfl<|Ox ai<|Zi fun az aj=>Wr fun a0 ak=>Mv rfl<|O_y rfl (Yx Zky h0 rfl)<|Mv rfl<|Ox ak<|Zl fun a1 al a2=>Xb (σ:=Nat×Int) (fun (ab,aa)=>[(0,v0),(1,.func (.func 141) #[] #[.pointer (some ⟨pb0,0,none⟩)]),(7,.int .i64 (x0.length:Int)),(8,.int .i64 aa)]) (fun (ab,aa) w=>Z9.l1 ab y0_0 y0_1 x0 aa=some r∧St w0 ρ ((.box pb0 129 ([.int .i32 y0_0,.int .i32 y0_1]))::Γ) w) (fun s=>s.1) (K0,0) (T4 rfl) (Ai H hs) ?_
 rintro ⟨ab,aa⟩ w a3 ⟨H,hs⟩ ac
 show W _ _ _ _ _ _ [(0,v0),(1,.func (.func 141) #[] #[.pointer (some ⟨pb0,0,none⟩)]),(7,.int .i64 (x0.length:Int)),(8,.int .i64 aa)] w
 cases ab with
 | zero=>rw [Z9.l1] at H;cases H
 | succ ab=>
 rw [Z9.l1] at H
 refine Wr fun a4 am=>Ols rfl<|Ox am<|Zi fun a5 an=>Xa rfl (fun ad=>?_) (fun ad=>?_)
 rw [if_pos ad] at H
 refine Wx an<|Zi fun a6 ao=>Zl fun a7 a8 a9=>Wr fun ba ap=>Mv rfl<|As rfl<|Ox ap<|Wr fun bb aq=>Mv rfl<|Mv rfl<|Mv rfl ?_
 obtain ⟨ah,H⟩:=gd H
 obtain ⟨bc,bd,ar,au⟩:=h0.ix Zkx ah.1 ah.2
 obtain ⟨_,rfl,av⟩:=ar
 refine O_y rfl (au rfl rfl)<|O_y rfl (Q0 Zbg Hv rfl rfl (fun j u hu=>hs.see (av j u hu))) ?_
 obtain ⟨ag,ae,H⟩:=bnd H
 refine Xs rfl rfl rfl (Kg.c hs rfl ae) (fun be w hpost=>?_)
 obtain ⟨rfl,hs⟩:=hpost
 refine Ox aq<|Xh rfl (fun af=>?_) (fun af=>?_)
 rw [if_pos af] at H
 refine Wr fun bf aw=>Mv rfl<|As rfl<|Ox aw<|W.weak [(4,_)] (S1 rfl)<|Zm ?_
 obtain rfl:=Z4 H
 exact r1 rfl ⟨rfl,hs⟩
 rw [if_neg (bft af)] at H
 refine Wx ao<|Zc<|Oad rfl<|Mv rfl<|Zd (ac (ab,(i64.wrap (aa+1))) _ _ (T4 rfl) (Ai H hs) (Nat.lt_succ_self _))
 rw [if_neg ad] at H
 refine Y5 (al _ _ (aj _ _<|Wr fun bg ax=>As rfl<|Ox ax<|Zm ?_))
 obtain rfl:=Z4 H
 exact r1 rfl ⟨rfl,hs⟩

def X3.f (x0:List Spn) (y0_0 y0_1:Int):Option Bool:=(Z9.f x0 y0_0 y0_1).bind fun ab=>(some (decide (0≤ab)))
theorem X3.c {pb0:Nat} {y0_0 y0_1:Int} (hs:St w0 ρ ((.box pb0 129 ([.int .i32 y0_0,.int .i32 y0_1]))::Γ) w) {v0:Value} {x0:List Spn} (h0:SlR Kj ρ v0 x0) {r:Bool} (H:X3.f x0 y0_0 y0_1=some r):Zq Tryz.prog 139 [v0,.func (.func 141) #[] #[.pointer (some ⟨pb0,0,none⟩)]] w (fun v w'=>v=.bool r∧St w0 ρ ((.box pb0 129 ([.int .i32 y0_0,.int .i32 y0_1]))::Γ) w'):=by
 rw [X3.f] at H
 refine Et Tryz.func139 Tryz.ntmps139 rfl<|Wr fun ae ac=>As rfl<|Ox ac<|Wr fun af ad=>Mv rfl<|Mv rfl ?_
 obtain ⟨ab,aa,H⟩:=bnd H
 refine Oc rfl (Z9.c hs h0 aa) (fun ag w hpost=>?_)
 obtain ⟨rfl,hs⟩:=hpost
 refine Oge rfl<|As rfl<|Ox ad<|Zm ?_
 obtain rfl:=Z4 H
 exact r1 rfl ⟨rfl,hs⟩

def Zad.f (x0:Spn):Option Bool:=(Zbf.f).bind fun ae=>((X3.f ae x0.lo x0.hi).bind fun af=>(some af))
theorem Zad.c (hs:St w0 ρ (Γ) w) {c0:List Value} {x0:Spn} (h0:Kj.R ρ c0 x0) {r:Bool} (H:Zad.f x0=some r):Zq Tryz.prog 89 [.agg c0.toArray] w (fun v w'=>v=.bool r∧St w0 ρ Γ w'):=by
 rw [Zad.f] at H
 refine Et Tryz.func89 Tryz.ntmps89 rfl ?_
 have ag:=h0
 obtain rfl:=ag
 refine Wr fun am ah=>Vn (cs:=[.int .i32 x0.lo,.int .i32 x0.hi]) hs rfl rfl (fun an w hs=>As rfl<|Ox ah<|Zi fun ao ai=>Zc ?_)
 obtain ⟨ae,aa,H⟩:=bnd H
 refine Oc rfl (Zbf.c hs aa) (fun ap w hpost=>?_)
 obtain ⟨aq,ar,aj,rfl,ab,hs,ak⟩:=hpost
 refine O_y rfl (Hi rfl) ?_
 obtain ⟨au,ac,hs,al⟩:=hs.rowEnd (j:=0) ak rfl
 obtain ⟨af,ad,H⟩:=bnd H
 refine Oc rfl (X3.c hs al ad) (fun av w hpost=>?_)
 obtain ⟨rfl,hs⟩:=hpost
 refine As rfl<|Ox ai<|Zm ?_
 obtain rfl:=Z4 H
 exact r1 rfl ⟨rfl,((hs.sub (ssk ssr)).less (ab.trans ac))⟩

def Ue.f (x0:Spn):Option Bool:=(Zad.f x0).bind fun ab=>(some (!ab))
theorem Ue.c (hs:St w0 ρ (Γ) w) {c0:List Value} {x0:Spn} (h0:Kj.R ρ c0 x0) {r:Bool} (H:Ue.f x0=some r):Zq Tryz.prog 88 [.agg c0.toArray] w (fun v w'=>v=.bool r∧St w0 ρ Γ w'):=by
 rw [Ue.f] at H
 refine Et Tryz.func88 Tryz.ntmps88 rfl ?_
 have ac:=h0
 obtain rfl:=ac
 refine Wr fun af ad=>Vn (cs:=[.int .i32 x0.lo,.int .i32 x0.hi]) hs rfl rfl (fun ag w hs=>As rfl<|Ox ad<|Wr fun ah ae=>O_y rfl (Xl (i:=0) Zbg Hv hs rfl rfl rfl rfl) ?_)
 obtain ⟨ab,aa,H⟩:=bnd H
 refine Oc rfl (Zad.c hs h0 aa) (fun ai w hpost=>?_)
 obtain ⟨rfl,hs⟩:=hpost
 refine Ont rfl<|As rfl<|Ox ae<|Zm ?_
 obtain rfl:=Z4 H
 exact r1 rfl ⟨rfl,(hs.sub (ssk ssr))⟩

def Q1.j1 (aa:Bool):Option Bool:=some aa
def Q1.f (x0:Val) (y0_0 y1_0:Int):Option Bool:=if y0_0≤x0.n then (if x0.n≤y1_0 then ((Vk.f x0).bind fun al=>((Ue.f al).bind fun ae=>(Q1.j1 ae))) else (Q1.j1 false)) else (Q1.j1 false)
theorem Q1.c {pb0:Nat} {y0_0:Int} {pb1:Nat} {y1_0:Int} {pb2:Nat} (hs:St w0 ρ ((.box pb0 3 ([.int .i64 y0_0]))::(.box pb1 3 ([.int .i64 y1_0]))::(.box pb2 133 ([.func (.func 88) #[] #[]]))::Γ) w) {c0:List Value} {x0:Val} (h0:Qb.R ρ c0 x0) {r:Bool} (H:Q1.f x0 y0_0 y1_0=some r):Zq Tryz.prog 147 [.agg c0.toArray,.pointer (some ⟨pb0,0,none⟩),.pointer (some ⟨pb1,0,none⟩),.pointer (some ⟨pb2,0,none⟩)] w (fun v w'=>v=.bool r∧St w0 ρ ((.box pb0 3 ([.int .i64 y0_0]))::(.box pb1 3 ([.int .i64 y1_0]))::(.box pb2 133 ([.func (.func 88) #[] #[]]))::Γ) w'):=by
 rw [Q1.f] at H
 refine Et Tryz.func147 Tryz.ntmps147 rfl ?_
 have ao:=h0
 obtain rfl:=ao
 refine Wr fun az ap=>Vn (cs:=[.int .i32 x0.lo,.int .i32 x0.hi,.int .i64 x0.n]) hs rfl rfl (fun am w hs=>As rfl<|Ox ap<|Yt fun aq ar af=>?_)
 have ag:∀ (aa:Bool) (ab:Hp) (w:World),Q1.j1 aa=some r→Le ρ ab→St w0 ab ((.box am 67 ([.int .i32 x0.lo,.int .i32 x0.hi,.int .i64 x0.n]))::(.box pb0 3 ([.int .i64 y0_0]))::(.box pb1 3 ([.int .i64 y1_0]))::(.box pb2 133 ([.func (.func 88) #[] #[]]))::Γ) w→aq [(5,.bool aa)] w:=by
  intro aa ab w H ad hs
  rw [Q1.j1] at H
  refine ar _ _<|Zm ?_
  obtain rfl:=Z4 H
  exact r1 rfl ⟨rfl,((hs.sub (ssk (ssc (ssc (ssc ssr))))).less ad)⟩
 refine Qt 17 [0,1,0,6,8,16,48,16,208,272,528,1024,1024,5120,11264,17408,65535] [65532,65524,65523,65504,63488,65408,65152,65120,64512,63488,0,45056,51200,34816,0,0,0] [0,1,0,7,15,31,63,31,255,511,1023,2047,2047,6143,16383,32767,65535] [] (fun w=>St w0 ρ ((.box am 67 ([.int .i32 x0.lo,.int .i32 x0.hi,.int .i64 x0.n]))::(.box pb0 3 ([.int .i64 y0_0]))::(.box pb1 3 ([.int .i64 y1_0]))::(.box pb2 133 ([.func (.func 88) #[] #[]]))::Γ) w) Vr (by kernel_rfl) (fun sh=>?_)
 have hs:=hs.drew
 refine Fp 0 sh rfl (fun w=>Zw Zew rfl)<|Fy 1 sh rfl hs (fun w hs=>Yb 0 ag3 hs rfl rfl rfl)<|Fy 2 sh rfl hs (fun w hs=>Yb 1 ag3 hs rfl rfl rfl)<|Fp 3 sh rfl (fun w=>Zq0 rfl rfl)<|Fm 4 sh rfl<|Za4 (dj:=10) rfl (fun ah=>?_) (fun ah=>?_)
 rw [if_pos ah] at H
 refine Fp 5 sh rfl (fun w=>Zw Zew rfl)<|Fy 6 sh rfl hs (fun w hs=>Yb 0 ag3 hs rfl rfl rfl)<|Fy 7 sh rfl hs (fun w hs=>Yb 2 ag3 hs rfl rfl rfl)<|Fp 8 sh rfl (fun w=>Zn8 rfl rfl)<|Fp 9 sh rfl (fun w=>Ve rfl rfl)<|Fm 10 sh rfl<|Za4 (dj:=16) rfl (fun ai=>?_) (fun ai=>?_)
 rw [if_pos ai] at H
 refine Fy 11 sh rfl hs (fun w hs=>Yb 3 Zfm hs rfl rfl rfl)<|Fy 12 sh rfl hs (fun w hs=>Xl (i:=0) Zft Zfd hs rfl rfl rfl rfl)<|F1 13 sh rfl (fun a0 au=>Oe rfl ?_)
 obtain ⟨al,aj,H⟩:=bnd H
 refine Oc rfl (Vk.c hs h0 aj) (fun a1 w hpost=>?_)
 obtain ⟨av,aw,rfl,ac,hs,an⟩:=hpost
 have ax:=an
 obtain rfl:=ax
 refine Zd (au _ _ (fun _ _=>(hs.less ac))<|F1 14 sh rfl (fun a2 ay=>Oe rfl ?_))
 obtain ⟨ae,ak,H⟩:=bnd H
 refine Xs rfl rfl rfl (Ue.c hs an ak) (fun a3 w hpost=>?_)
 obtain ⟨rfl,hs⟩:=hpost
 refine Zd (ay _ _ (fun _ _=>(hs.less ac))<|Fp 15 sh rfl (fun w=>Ve rfl rfl)<|Fp 16 sh rfl (fun w=>Xz rfl)<|FE sh (af _ _ _ (S1 rfl) (ag ae av _ H ac hs)))
 rw [if_neg ai] at H
 refine Fn 11 sh rfl<|Fn 12 sh rfl<|Fn 13 sh rfl<|Fn 14 sh rfl<|Fp 15 sh rfl (fun w=>Qr rfl rfl)<|Fp 16 sh rfl (fun w=>Xz rfl)<|FE sh (af _ _ _ (S1 rfl) (ag false ρ _ H (Le.rfl' _) hs))
 rw [if_neg ah] at H
 refine Fn 5 sh rfl<|Fn 6 sh rfl<|Fn 7 sh rfl<|Fn 8 sh rfl<|Fp 9 sh rfl (fun w=>Qr rfl rfl)<|Fm 10 sh rfl<|Fn 11 sh rfl<|Fn 12 sh rfl<|Fn 13 sh rfl<|Fn 14 sh rfl<|Fp 15 sh rfl (fun w=>Qr rfl rfl)<|Fp 16 sh rfl (fun w=>Xz rfl)<|FE sh (af _ _ _ (S1 rfl) (ag false ρ _ H (Le.rfl' _) hs))

def Zs.j1 (ak:Int→Int→Option Int) (aa:Int) (ae:Spn) (ab:Bool):Option Int:=if ab=true then (some aa) else (ak ae.hi (i64.wrap (aa+1)))
def Zs.l1:Nat→Int→Int→List Val→Int→Int→Option Int
  | 0,_,_,_,_,_=>none
  | ac+1,y0_0,y1_0,x0,ad,aa=>if aa<(x0.length:Int) then (if (0:Int)≤aa∧aa<(x0.length:Int) then ((Vk.f (rd x0 aa)).bind fun ae=>(if ae.lo≤ad then (Zs.j1 (Zs.l1 ac y0_0 y1_0 x0) aa ae true) else (if ae.hi<ae.lo then (Zs.j1 (Zs.l1 ac y0_0 y1_0 x0) aa ae true) else (if 1114111<ae.hi then (Zs.j1 (Zs.l1 ac y0_0 y1_0 x0) aa ae true) else ((Q1.f (rd x0 aa) y0_0 y1_0).bind fun al=>(Zs.j1 (Zs.l1 ac y0_0 y1_0 x0) aa ae (!al))))))) else none) else (some (-1))
def Zs.f (x0:List Val) (y0_0 y1_0:Int):Option Int:=if 65536<(x0.length:Int) then (some 65536) else (Zs.l1 K0 y0_0 y1_0 x0 (-1) 0)
theorem Zs.c {pb0:Nat} {y0_0:Int} {pb1:Nat} {y1_0:Int} {pb2:Nat} (hs:St w0 ρ ((.box pb0 3 ([.int .i64 y0_0]))::(.box pb1 3 ([.int .i64 y1_0]))::(.box pb2 133 ([.func (.func 88) #[] #[]]))::Γ) w) {v0:Value} {x0:List Val} (h0:SlR Qb ρ v0 x0) {r:Int} (H:Zs.f x0 y0_0 y1_0=some r):Zq Tryz.prog 145 [v0,.func (.func 146) #[] #[],.func (.func 147) #[] #[.pointer (some ⟨pb0,0,none⟩),.pointer (some ⟨pb1,0,none⟩),.pointer (some ⟨pb2,0,none⟩)]] w (fun v w'=>v=.int .i64 r∧St w0 ρ ((.box pb0 3 ([.int .i64 y0_0]))::(.box pb1 3 ([.int .i64 y1_0]))::(.box pb2 133 ([.func (.func 88) #[] #[]]))::Γ) w'):=by
 rw [Zs.f] at H
 refine Et Tryz.func145 Tryz.ntmps145 rfl<|Wr fun bt a6=>As rfl<|Ox a6<|Zi fun bu a7=>Wr fun bv a8=>Mv rfl<|O_y rfl (Yx Zg2 h0 rfl)<|Ogt rfl<|Ox a8<|Xa rfl (fun av=>?_) (fun av=>?_)
 rw [if_pos av] at H
 refine Wr fun bw a9=>As rfl<|Ox a9<|Zm ?_
 obtain rfl:=Z4 H
 exact r1 rfl ⟨rfl,hs⟩
 rw [if_neg av] at H
 refine Wx a7<|Wr fun bx ba=>As rfl<|Ox ba<|Zi fun bz bb=>Wr fun b0 bc=>Mv rfl<|O_y rfl (Yx Zg2 h0 rfl)<|Mv rfl<|Ox bc<|Zl fun b1 bd b2=>Xb (σ:=Nat×Int×Int×Hp) (fun (ac,ad,aa,ag)=>[(1,.func (.func 146) #[] #[]),(2,.func (.func 147) #[] #[.pointer (some ⟨pb0,0,none⟩),.pointer (some ⟨pb1,0,none⟩),.pointer (some ⟨pb2,0,none⟩)]),(7,.int .i32 ad),(14,v0),(15,.int .i64 (x0.length:Int)),(16,.int .i64 aa)]) (fun (ac,ad,aa,ag) w=>Zs.l1 ac y0_0 y1_0 x0 ad aa=some r∧Le ρ ag∧St w0 ag ((.box pb0 3 ([.int .i64 y0_0]))::(.box pb1 3 ([.int .i64 y1_0]))::(.box pb2 133 ([.func (.func 88) #[] #[]]))::Γ) w) (fun s=>s.1) (K0,(-1),0,ρ) sbn (Ai H (Ai (Le.rfl' _) hs)) ?_
 rintro ⟨ac,ad,aa,ag⟩ w b3 ⟨H,af,hs⟩ am
 show W _ _ _ _ _ _ [(1,.func (.func 146) #[] #[]),(2,.func (.func 147) #[] #[.pointer (some ⟨pb0,0,none⟩),.pointer (some ⟨pb1,0,none⟩),.pointer (some ⟨pb2,0,none⟩)]),(7,.int .i32 ad),(14,v0),(15,.int .i64 (x0.length:Int)),(16,.int .i64 aa)] w
 cases ac with
 | zero=>rw [Zs.l1] at H;cases H
 | succ ac=>
 rw [Zs.l1] at H
 refine Wr fun b4 be=>Ols rfl<|Ox be<|Zi fun b5 bf=>Xa rfl (fun aw=>?_) (fun aw=>?_)
 rw [if_pos aw] at H
 refine Wx bf<|Zi fun b6 bg=>Zl fun b7 b8 b9=>Wr fun ca bh=>Mv rfl ?_
 obtain ⟨a4,H⟩:=gd H
 obtain ⟨cb,cc,bi,bj⟩:=(h0.mono af).ix Zcx a4.1 a4.2
 obtain ⟨_,rfl,bk⟩:=bi
 refine O_y rfl (bj rfl rfl)<|O_y rfl (Q0 Zft Zfd rfl rfl (fun j u hu=>hs.see (bk j u hu)))<|Y6 Zml hs rfl (fun bl w hs=>As rfl<|Ye (i:=0) Zfd hs rfl rfl rfl rfl rfl (Zb rfl (Zb rfl (Zb rfl Ym))) (fun w hs=>Ox bh<|Wr fun cd bm=>Mv rfl<|O_y rfl (Xl (i:=0) Zft Zfd hs rfl rfl rfl rfl) ?_))
 obtain ⟨ae,ax,H⟩:=bnd H
 refine Xs rfl rfl rfl (Vk.c hs rfl ax) (fun ce w hpost=>?_)
 obtain ⟨a5,bn,rfl,aj,hs,bo⟩:=hpost
 have ay:=bo
 obtain rfl:=ay
 refine Y6 Za5 hs rfl (fun ar w hs=>Ye (i:=0) Hv hs rfl rfl rfl rfl rfl (Zb rfl (Zb rfl Ym)) (fun w hs=>Ox bm<|W.weak [(1,_),(2,_),(7,_),(8,_),(9,_),(10,_),(14,_),(15,_),(16,_)] sbn ?_))
 refine Zi fun bp az=>Yt fun a0 a1 ah=>?_
 have ai:∀ (ab:Bool) (w:World),Zs.j1 (Zs.l1 ac y0_0 y1_0 x0) aa ae ab=some r→St w0 a5 ((.box ar 129 ([.int .i32 ae.lo,.int .i32 ae.hi]))::(.box bl 67 ([.int .i32 ((rd x0 aa).lo),.int .i32 ((rd x0 aa).hi),.int .i64 ((rd x0 aa).n)]))::(.box pb0 3 ([.int .i64 y0_0]))::(.box pb1 3 ([.int .i64 y1_0]))::(.box pb2 133 ([.func (.func 88) #[] #[]]))::Γ) w→a0 [(1,.func (.func 146) #[] #[]),(2,.func (.func 147) #[] #[.pointer (some ⟨pb0,0,none⟩),.pointer (some ⟨pb1,0,none⟩),.pointer (some ⟨pb2,0,none⟩)]),(8,.int .i64 aa),(10,.pointer (some ⟨ar,0,none⟩)),(14,v0),(15,.int .i64 (x0.length:Int)),(16,.int .i64 aa),(45,.bool ab)] w:=by
  intro ab w H hs
  rw [Zs.j1] at H
  refine a1 _ _<|Xh rfl (fun an=>?_) (fun an=>?_)
  rw [if_pos an] at H
  refine Wr fun bq a2=>Mv rfl<|As rfl<|Ox a2<|Zm ?_
  obtain rfl:=Z4 H
  exact r1 rfl ⟨rfl,((hs.sub (ssk (ssk (ssc (ssc (ssc ssr)))))).less (af.trans aj))⟩
  rw [if_neg (bft an)] at H
  refine Wx az<|Zc<|Ofd Vy rfl<|Obx 0 Xn hs rfl<|As rfl<|Ox bg<|Zc<|Oad rfl<|Mv rfl<|Zd (am (ac,ae.hi,(i64.wrap (aa+1)),a5) _ _ sbn (Ai H (Ai (af.trans aj) (hs.sub (ssk (ssk (ssc (ssc (ssc ssr)))))))) (Nat.lt_succ_self _))
 refine Zc<|Ofd U6 rfl<|Obx 0 Xn hs rfl<|Mv rfl<|Ole rfl<|Mv rfl<|X4 (dj:=28) rfl (fun ao=>?_) (fun ao=>?_)
 rw [if_pos ao] at H
 refine On rfl<|On rfl<|On rfl<|On rfl<|On rfl<|Opk rfl<|Mv rfl<|On rfl<|On rfl<|On rfl<|Opk rfl<|Mv rfl<|On rfl<|On rfl ?_
 refine On rfl<|On rfl<|Opk rfl<|Zd (ah _ _ _ sbn (ai true _ H hs))
 rw [if_neg ao] at H
 refine Oe rfl<|Ofd Vy rfl<|Oe rfl<|Obx 0 Xn hs rfl<|Oe rfl<|Ofd U6 rfl<|Oe rfl<|Obx 0 Xn hs rfl<|Oe rfl<|Ols rfl<|Opk rfl<|Mv rfl<|X4 (dj:=35) rfl (fun ap=>?_) (fun ap=>?_)
 rw [if_pos ap] at H
 refine On rfl<|On rfl<|On rfl<|Opk rfl<|Mv rfl<|On rfl<|On rfl<|On rfl<|On rfl<|Opk rfl<|Zd (ah _ _ _ sbn (ai true _ H hs))
 rw [if_neg ap] at H
 refine Oe rfl<|Ofd Vy rfl<|Oe rfl<|Obx 0 Xn hs rfl<|Oe rfl<|Ogt rfl<|Opk rfl<|Mv rfl<|X4 (dj:=40) rfl (fun aq=>?_) (fun aq=>?_)
 rw [if_pos aq] at H
 refine On rfl<|On rfl<|On rfl<|On rfl<|Opk rfl<|Zd (ah _ _ _ sbn (ai true _ H hs))
 rw [if_neg aq] at H
 refine Oe rfl<|Mv rfl<|Oe rfl<|O_y rfl (Xl (i:=1) Zft Zfd hs rfl rfl rfl rfl)<|Oe rfl ?_
 have hs:=hs.front 4 rfl
 have hs:=hs.front 4 rfl
 have hs:=hs.front 4 rfl
 obtain ⟨al,au,H⟩:=bnd H
 refine Xs rfl rfl rfl (Q1.c hs rfl au) (fun br w hpost=>?_)
 obtain ⟨rfl,hs⟩:=hpost
 have hs:=hs.sink 4
 have hs:=hs.sink 4
 have hs:=hs.sink 4
 refine Oe rfl<|Ont rfl<|Opk rfl<|Zd (ah _ _ _ sbn (ai (!al) _ H hs))
 rw [if_neg aw] at H
 refine Y5 (bd _ _ (bb _ _<|Wr fun bs a3=>As rfl<|Ox a3<|Zm ?_))
 obtain rfl:=Z4 H
 exact r1 rfl ⟨rfl,(hs.less af)⟩

def J9.f (x0:List Val) (x1 x2:Int):Option Int:=(Zs.f x0 x1 x2).bind fun ab=>(some ab)
theorem J9.c (hs:St w0 ρ (Γ) w) {v0:Value} {x0:List Val} (h0:SlR Qb ρ v0 x0) {x1 x2 r:Int} (H:J9.f x0 x1 x2=some r):Zq Tryz.prog 95 [v0,.int .i64 x1,.int .i64 x2,.func (.func 88) #[] #[]] w (fun v w'=>v=.int .i64 r∧St w0 ρ Γ w'):=by
 rw [J9.f] at H
 refine Et Tryz.func95 Tryz.ntmps95 rfl<|Wr fun ae ac=>Zcv hs rfl rfl rfl (fun af w hs=>Zcv hs rfl rfl rfl (fun ag w hs=>Zcv hs rfl rfl rfl (fun ah w hs=>As rfl<|Ox ac<|Wr fun ai ad=>Mv rfl<|O_y rfl (Hi rfl) ?_)))
 have hs:=hs.front 1 rfl
 have hs:=hs.front 2 rfl
 obtain ⟨ab,aa,H⟩:=bnd H
 refine Oc rfl (Zs.c hs h0 aa) (fun aj w hpost=>?_)
 obtain ⟨rfl,hs⟩:=hpost
 have hs:=hs.sink 2
 have hs:=hs.sink 1
 refine As rfl<|Ox ad<|Zm ?_
 obtain rfl:=Z4 H
 exact r1 rfl ⟨rfl,(hs.sub (ssk (ssk (ssk ssr))))⟩

def Hd.f (y0_0:List ByteArray) (y0_1:List Val) (y0_2:List Chs) (y0_3:List Val) (y0_4:List Chs) (y0_5:List Spn) (y0_6 y0_7:List Val) (y0_8:List Spn) (y0_9:List Val) (y0_10:List Chs):Option Int:=(J9.f y0_3 1 254).bind fun ab=>(some ab)
theorem Hd.c {pb0:Nat} {w0_0:Value} {y0_0:List ByteArray} {w0_1:Value} {y0_1:List Val} {w0_2:Value} {y0_2:List Chs} {w0_3:Value} {y0_3:List Val} {w0_4:Value} {y0_4:List Chs} {w0_5:Value} {y0_5:List Spn} {w0_6:Value} {y0_6:List Val} {w0_7:Value} {y0_7:List Val} {w0_8:Value} {y0_8:List Spn} {w0_9:Value} {y0_9:List Val} {w0_10:Value} {y0_10:List Chs} {pb1:Nat} (hs:St w0 ρ ((.box pb0 27 ([w0_0,w0_1,w0_2,w0_3,w0_4,w0_5,w0_6,w0_7,w0_8,w0_9,w0_10]))::(.box pb1 133 ([.func (.func 88) #[] #[]]))::Γ) w) (g0_0:SlR Rep.str ρ w0_0 y0_0) (g0_1:SlR Qb ρ w0_1 y0_1) (g0_2:SlR Kz ρ w0_2 y0_2) (g0_3:SlR Qb ρ w0_3 y0_3) (g0_4:SlR Kz ρ w0_4 y0_4) (g0_5:SlR Kj ρ w0_5 y0_5) (g0_6:SlR Qb ρ w0_6 y0_6) (g0_7:SlR Qb ρ w0_7 y0_7) (g0_8:SlR Kj ρ w0_8 y0_8) (g0_9:SlR Qb ρ w0_9 y0_9) (g0_10:SlR Kz ρ w0_10 y0_10) {r:Int} (H:Hd.f y0_0 y0_1 y0_2 y0_3 y0_4 y0_5 y0_6 y0_7 y0_8 y0_9 y0_10=some r):Zq Tryz.prog 98 [.pointer (some ⟨pb0,0,none⟩),.pointer (some ⟨pb1,0,none⟩)] w (fun v w'=>v=.int .i64 r∧St w0 ρ ((.box pb0 27 ([w0_0,w0_1,w0_2,w0_3,w0_4,w0_5,w0_6,w0_7,w0_8,w0_9,w0_10]))::(.box pb1 133 ([.func (.func 88) #[] #[]]))::Γ) w'):=by
 rw [Hd.f] at H
 refine Et Tryz.func98 Tryz.ntmps98 rfl<|Wr fun ae ac=>As rfl<|Ox ac<|Wr fun af ad=>Ofd Zmg rfl<|Obx 0 Zbx hs rfl<|Obx 1 Zfm hs rfl ?_
 obtain ⟨ab,aa,H⟩:=bnd H
 refine Oc rfl (J9.c hs g0_3 aa) (fun ag w hpost=>?_)
 obtain ⟨rfl,hs⟩:=hpost
 refine As rfl<|Ox ad<|Zm ?_
 obtain rfl:=Z4 H
 exact r1 rfl ⟨rfl,hs⟩

end Go.Proofs.YthoicbafdanmkaaGreatDoor
/- Written by this repo's gen.py: for each Go function a Lean function with the same answers and the walk that shows it. -/
namespace Go.Proofs.YthoicbafdanmkaaGreatDoor
open Go.IntKind (i8 i16 i32 i64 u8 u16 u32 u64)
open Go.RowKit
set_option maxRecDepth 100000
set_option maxHeartbeats 4000000
variable {w0 w:World} {ρ:Hp} {Γ:List Kd}
set_option linter.unusedVariables false
def Qe.j1 (aa:Bool):Option Bool:=some aa
def Qe.f (x0:Chs):Option Bool:=if x0.lo=x0.hi then ((Qz.f ([x0.lo]) 1 1).bind fun aq=>(if aq=true then ((Qz.f x0.is_ 1 2).bind fun ar=>(if ar=true then ((Ks.f x0).bind fun au=>((Ue.f au).bind fun ah=>(Qe.j1 ah))) else (Qe.j1 false))) else (Qe.j1 false))) else (Qe.j1 false)
theorem Qe.c {pb0:Nat} (hs:St w0 ρ ((.box pb0 133 ([.func (.func 88) #[] #[]]))::Γ) w) {c0:List Value} {x0:Chs} (h0:Kz.R ρ c0 x0) {r:Bool} (H:Qe.f x0=some r):Zq Tryz.prog 101 [.agg c0.toArray,.pointer (some ⟨pb0,0,none⟩)] w (fun v w'=>v=.bool r∧St w0 ρ ((.box pb0 133 ([.func (.func 88) #[] #[]]))::Γ) w'):=by
 rw [Qe.f] at H
 refine Et Tryz.func101 Tryz.ntmps101 rfl ?_
 have az:=h0
 obtain ⟨ai,rfl,a0⟩:=az
 refine Wr fun bf a1=>Vn (cs:=[.int .i32 x0.lo,.int .i32 x0.hi,ai]) hs rfl rfl (fun av w hs=>As rfl<|Ox a1<|Yt fun a2 a3 af=>?_)
 have ag:∀ (aa:Bool) (ac:Hp) (w:World),Qe.j1 aa=some r→Le ρ ac→St w0 ac ((.box av 110 ([.int .i32 x0.lo,.int .i32 x0.hi,ai]))::(.box pb0 133 ([.func (.func 88) #[] #[]]))::Γ) w→a2 [(3,.bool aa)] w:=by
  intro aa ac w H ae hs
  rw [Qe.j1] at H
  refine a3 _ _<|Zm ?_
  obtain rfl:=Z4 H
  exact r1 rfl ⟨rfl,((hs.sub (ssk (ssc ssr))).less ae)⟩
 refine Qt 23 [0,1,0,4,10,16,32,96,160,288,544,1536,2048,6144,10240,18432,49152,65536,65536,327680,720896,1114112,4194303] [4194300,4194284,4194291,4194275,4194240,4192256,4194048,4193792,4193280,4190208,4190208,4128768,4177920,4161536,4063232,4063232,0,2883584,3276800,2228224,0,0,0] [0,1,0,4,15,31,63,127,255,511,1023,2047,4095,8191,16383,32767,65535,131071,131071,393215,1048575,2097151,4194303] [8,9,10,11,12,13,14,15,16,17,18,19,20,21,22] (fun w=>St w0 ρ ((.box av 110 ([.int .i32 x0.lo,.int .i32 x0.hi,ai]))::(.box pb0 133 ([.func (.func 88) #[] #[]]))::Γ) w) Vr (by kernel_rfl) (fun sh=>?_)
 have hs:=hs.drew
 refine Fp 0 sh rfl (fun w=>Zw Zb3 rfl)<|Fy 1 sh rfl hs (fun w hs=>Yb 0 Xn hs rfl rfl rfl)<|Fp 2 sh rfl (fun w=>Zw Zik rfl)<|Fy 3 sh rfl hs (fun w hs=>Yb 0 Xn hs rfl rfl rfl)<|Fp 4 sh rfl (fun w=>Zbw rfl rfl)<|Fm 5 sh rfl<|Za4 (dj:=9) rfl (fun aj=>?_) (fun aj=>?_)
 rw [if_pos aj] at H
 refine Fp 6 sh rfl (fun w=>Zw Zb3 rfl)<|Fy 7 sh rfl hs (fun w hs=>Yb 0 Xn hs rfl rfl rfl)<|F1 8 sh rfl (fun bg a4=>Oe rfl<|K6 (xs:=[.tmp 11]) (cs:=[.int .i32 x0.lo]) Kk hs rfl rfl rfl (by decide) (by decide) rfl (Yd rfl Ki) (Zx rfl X6) (fun bh w hs=>?_))
 have a5:Zp (Rep.int .i32) ρ ([.int .i32 x0.lo]) [x0.lo]:=Zp.cons (c:=[.int .i32 x0.lo]) (x:=x0.lo) rfl (Zp.nil _ _)
 refine Zd (a4 _ _ (fun h _=>absurd h (by decide))<|Kn sh [9,10,11,12,13,14,15,16,17,18,19,20,21,22] hs (by kernel_rfl) ?_)
 have aw:=hs
 obtain ⟨ax,ab,hs,a6⟩:=hs.rowEnd (j:=0) a5 rfl
 refine F1 9 sh rfl (fun bi a7=>Oe rfl ?_)
 obtain ⟨aq,ak,H⟩:=bnd H
 refine Oc rfl (Qz.c hs a6 ak) (fun bj w hpost=>?_)
 obtain ⟨rfl,hs⟩:=hpost
 refine Zd (a7 _ _ (fun h _=>absurd h (by decide))<|Kn sh [14,15,16,17,18,19,20,21,22] hs (by kernel_rfl)<|Fp 10 sh rfl (fun w=>Ve rfl rfl)<|Fm 11 sh rfl<|Zga (dj:=15) rfl (fun al=>?_) (fun al=>?_))
 rw [if_pos al] at H
 refine Fp 12 sh rfl (fun w=>Zw Zac rfl)<|Fy 13 sh rfl hs (fun w hs=>Yb 0 Za1 hs rfl rfl rfl)<|F1 14 sh rfl (fun bk a8=>Oe rfl ?_)
 obtain ⟨ar,am,H⟩:=bnd H
 refine Oc rfl (Qz.c hs (a0.mono ab) am) (fun bl w hpost=>?_)
 obtain ⟨rfl,hs⟩:=hpost
 refine Zd (a8 _ _ (fun h _=>absurd h (by decide))<|Kn sh [] hs (by kernel_rfl)<|Fp 15 sh rfl (fun w=>Ve rfl rfl)<|Fm 16 sh rfl<|Zga (dj:=20) rfl (fun an=>?_) (fun an=>?_))
 rw [if_pos an] at H
 refine Fy 17 sh rfl hs (fun w hs=>Yb 1 Zfm hs rfl rfl rfl)<|Fy 18 sh rfl hs (fun w hs=>Xl (i:=0) Zb1 Zap hs rfl rfl rfl rfl)<|F1 19 sh rfl (fun bm a9=>Oe rfl ?_)
 obtain ⟨au,ao,H⟩:=bnd H
 refine Oc rfl (Ks.c hs (Kz.mono ab h0) ao) (fun bn w hpost=>?_)
 obtain ⟨ba,bb,rfl,ad,hs,ay⟩:=hpost
 have bc:=ab.trans ad
 have bd:=ay
 obtain rfl:=bd
 refine Zd (a9 _ _ (fun _ _=>(hs.less ad))<|F1 20 sh rfl (fun bo be=>Oe rfl ?_))
 obtain ⟨ah,ap,H⟩:=bnd H
 refine Xs rfl rfl rfl (Ue.c hs ay ap) (fun bp w hpost=>?_)
 obtain ⟨rfl,hs⟩:=hpost
 refine Zd (be _ _ (fun _ _=>(hs.less ad))<|Fp 21 sh rfl (fun w=>Ve rfl rfl)<|Fp 22 sh rfl (fun w=>Xz rfl)<|FE sh (af _ _ _ (S1 rfl) (ag ah ba _ H bc hs)))
 rw [if_neg (bft an)] at H
 refine Fn 17 sh rfl<|Fn 18 sh rfl<|Fn 19 sh rfl<|Fn 20 sh rfl<|Fp 21 sh rfl (fun w=>Qr rfl rfl)<|Fp 22 sh rfl (fun w=>Xz rfl)<|FE sh (af _ _ _ (S1 rfl) (ag false ax _ H ab hs))
 rw [if_neg (bft al)] at H
 refine Fn 12 sh rfl<|Fn 13 sh rfl<|Fn 14 sh rfl<|Fp 15 sh rfl (fun w=>Qr rfl rfl)<|Fm 16 sh rfl<|Fn 17 sh rfl<|Fn 18 sh rfl<|Fn 19 sh rfl<|Fn 20 sh rfl<|Fp 21 sh rfl (fun w=>Qr rfl rfl)<|Fp 22 sh rfl (fun w=>Xz rfl)<|FE sh (af _ _ _ (S1 rfl) (ag false ax _ H ab hs))
 rw [if_neg aj] at H
 refine Fn 6 sh rfl<|Fn 7 sh rfl<|Fn 8 sh rfl<|Fn 9 sh rfl<|Fp 10 sh rfl (fun w=>Qr rfl rfl)<|Fm 11 sh rfl<|Fn 12 sh rfl<|Fn 13 sh rfl<|Fn 14 sh rfl<|Fp 15 sh rfl (fun w=>Qr rfl rfl)<|Fm 16 sh rfl<|Fn 17 sh rfl<|Fn 18 sh rfl<|Fn 19 sh rfl ?_
 refine Fn 20 sh rfl<|Fp 21 sh rfl (fun w=>Qr rfl rfl)<|Fp 22 sh rfl (fun w=>Xz rfl)<|FE sh (af _ _ _ (S1 rfl) (ag false ρ _ H (Le.rfl' _) hs))

def Zt.j1 (ak:Int→Int→Option Int) (aa:Int) (ae:Spn) (ab:Bool):Option Int:=if ab=true then (some aa) else (ak ae.hi (i64.wrap (aa+1)))
def Zt.l1:Nat→List Chs→Int→Int→Option Int
  | 0,_,_,_=>none
  | ac+1,x0,ad,aa=>if aa<(x0.length:Int) then (if (0:Int)≤aa∧aa<(x0.length:Int) then ((Ks.f (rd x0 aa)).bind fun ae=>(if ae.lo≤ad then (Zt.j1 (Zt.l1 ac x0) aa ae true) else (if ae.hi<ae.lo then (Zt.j1 (Zt.l1 ac x0) aa ae true) else (if 1114111<ae.hi then (Zt.j1 (Zt.l1 ac x0) aa ae true) else ((Qe.f (rd x0 aa)).bind fun al=>(Zt.j1 (Zt.l1 ac x0) aa ae (!al))))))) else none) else (some (-1))
def Zt.f (x0:List Chs):Option Int:=if 65536<(x0.length:Int) then (some 65536) else (Zt.l1 K0 x0 (-1) 0)
theorem Zt.c {pb0:Nat} (hs:St w0 ρ ((.box pb0 133 ([.func (.func 88) #[] #[]]))::Γ) w) {v0:Value} {x0:List Chs} (h0:SlR Kz ρ v0 x0) {r:Int} (H:Zt.f x0=some r):Zq Tryz.prog 100 [v0,.func (.func 66) #[] #[],.func (.func 101) #[] #[.pointer (some ⟨pb0,0,none⟩)]] w (fun v w'=>v=.int .i64 r∧St w0 ρ ((.box pb0 133 ([.func (.func 88) #[] #[]]))::Γ) w'):=by
 rw [Zt.f] at H
 refine Et Tryz.func100 Tryz.ntmps100 rfl<|Wr fun bv a8=>As rfl<|Ox a8<|Zi fun bw a9=>Wr fun bx ba=>Mv rfl<|O_y rfl (Yx Zfs h0 rfl)<|Ogt rfl<|Ox ba<|Xa rfl (fun aw=>?_) (fun aw=>?_)
 rw [if_pos aw] at H
 refine Wr fun bz bb=>As rfl<|Ox bb<|Zm ?_
 obtain rfl:=Z4 H
 exact r1 rfl ⟨rfl,hs⟩
 rw [if_neg aw] at H
 refine Wx a9<|Wr fun b0 bc=>As rfl<|Ox bc<|Zi fun b1 bd=>Wr fun b2 be=>Mv rfl<|O_y rfl (Yx Zfs h0 rfl)<|Mv rfl<|Ox be<|Zl fun b3 bf b4=>Xb (σ:=Nat×Int×Int×Hp) (fun (ac,ad,aa,ah)=>[(1,.func (.func 66) #[] #[]),(2,.func (.func 101) #[] #[.pointer (some ⟨pb0,0,none⟩)]),(7,.int .i32 ad),(14,v0),(15,.int .i64 (x0.length:Int)),(16,.int .i64 aa)]) (fun (ac,ad,aa,ah) w=>Zt.l1 ac x0 ad aa=some r∧Le ρ ah∧St w0 ah ((.box pb0 133 ([.func (.func 88) #[] #[]]))::Γ) w) (fun s=>s.1) (K0,(-1),0,ρ) sbn (Ai H (Ai (Le.rfl' _) hs)) ?_
 rintro ⟨ac,ad,aa,ah⟩ w b5 ⟨H,af,hs⟩ am
 show W _ _ _ _ _ _ [(1,.func (.func 66) #[] #[]),(2,.func (.func 101) #[] #[.pointer (some ⟨pb0,0,none⟩)]),(7,.int .i32 ad),(14,v0),(15,.int .i64 (x0.length:Int)),(16,.int .i64 aa)] w
 cases ac with
 | zero=>rw [Zt.l1] at H;cases H
 | succ ac=>
 rw [Zt.l1] at H
 refine Wr fun b6 bg=>Ols rfl<|Ox bg<|Zi fun b7 bh=>Xa rfl (fun ax=>?_) (fun ax=>?_)
 rw [if_pos ax] at H
 refine Wx bh<|Zi fun b8 bi=>Zl fun b9 ca cb=>Wr fun cc bj=>Mv rfl ?_
 obtain ⟨a7,H⟩:=gd H
 obtain ⟨cd,ce,bk,bl⟩:=(h0.mono af).ix Zep a7.1 a7.2
 obtain ⟨_,⟨bm,rfl,ay⟩,bn⟩:=bk
 refine O_y rfl (bl rfl rfl)<|O_y rfl (Q0 Zb1 Zap rfl rfl (fun j u hu=>hs.see (bn j u hu)))<|Y6 Zh1 hs rfl (fun bo w hs=>As rfl<|Ye (i:=0) Zap hs rfl rfl rfl rfl rfl (Zb rfl (Zb rfl (Zb ay.one Ym))) (fun w hs=>Ox bj<|Wr fun cf bp=>Mv rfl<|O_y rfl (Xl (i:=0) Zb1 Zap hs rfl rfl rfl rfl) ?_))
 obtain ⟨ae,az,H⟩:=bnd H
 refine Xs rfl rfl rfl (Ks.c hs ⟨_,rfl,ay⟩ az) (fun cg w hpost=>?_)
 obtain ⟨ar,bq,rfl,ag,hs,a0⟩:=hpost
 have a1:=a0
 obtain rfl:=a1
 refine Y6 Za5 hs rfl (fun au w hs=>Ye (i:=0) Hv hs rfl rfl rfl rfl rfl (Zb rfl (Zb rfl Ym)) (fun w hs=>Ox bp<|W.weak [(1,_),(2,_),(7,_),(8,_),(9,_),(10,_),(14,_),(15,_),(16,_)] sbn ?_))
 refine Zi fun br a2=>Yt fun a3 a4 ai=>?_
 have aj:∀ (ab:Bool) (w:World),Zt.j1 (Zt.l1 ac x0) aa ae ab=some r→St w0 ar ((.box au 129 ([.int .i32 ae.lo,.int .i32 ae.hi]))::(.box bo 110 ([.int .i32 ((rd x0 aa).lo),.int .i32 ((rd x0 aa).hi),bm]))::(.box pb0 133 ([.func (.func 88) #[] #[]]))::Γ) w→a3 [(1,.func (.func 66) #[] #[]),(2,.func (.func 101) #[] #[.pointer (some ⟨pb0,0,none⟩)]),(8,.int .i64 aa),(10,.pointer (some ⟨au,0,none⟩)),(14,v0),(15,.int .i64 (x0.length:Int)),(16,.int .i64 aa),(45,.bool ab)] w:=by
  intro ab w H hs
  rw [Zt.j1] at H
  refine a4 _ _<|Xh rfl (fun an=>?_) (fun an=>?_)
  rw [if_pos an] at H
  refine Wr fun bs a5=>Mv rfl<|As rfl<|Ox a5<|Zm ?_
  obtain rfl:=Z4 H
  exact r1 rfl ⟨rfl,((hs.sub (ssk (ssk (ssc ssr)))).less (af.trans ag))⟩
  rw [if_neg (bft an)] at H
  refine Wx a2<|Zc<|Ofd Vy rfl<|Obx 0 Xn hs rfl<|As rfl<|Ox bi<|Zc<|Oad rfl<|Mv rfl<|Zd (am (ac,ae.hi,(i64.wrap (aa+1)),ar) _ _ sbn (Ai H (Ai (af.trans ag) (hs.sub (ssk (ssk (ssc ssr)))))) (Nat.lt_succ_self _))
 refine Zc<|Ofd U6 rfl<|Obx 0 Xn hs rfl<|Mv rfl<|Ole rfl<|Mv rfl<|X4 (dj:=28) rfl (fun ao=>?_) (fun ao=>?_)
 rw [if_pos ao] at H
 refine On rfl<|On rfl<|On rfl<|On rfl<|On rfl<|Opk rfl<|Mv rfl<|On rfl<|On rfl<|On rfl<|Opk rfl<|Mv rfl<|On rfl<|On rfl ?_
 refine On rfl<|On rfl<|Opk rfl<|Zd (ai _ _ _ sbn (aj true _ H hs))
 rw [if_neg ao] at H
 refine Oe rfl<|Ofd Vy rfl<|Oe rfl<|Obx 0 Xn hs rfl<|Oe rfl<|Ofd U6 rfl<|Oe rfl<|Obx 0 Xn hs rfl<|Oe rfl<|Ols rfl<|Opk rfl<|Mv rfl<|X4 (dj:=35) rfl (fun ap=>?_) (fun ap=>?_)
 rw [if_pos ap] at H
 refine On rfl<|On rfl<|On rfl<|Opk rfl<|Mv rfl<|On rfl<|On rfl<|On rfl<|On rfl<|Opk rfl<|Zd (ai _ _ _ sbn (aj true _ H hs))
 rw [if_neg ap] at H
 refine Oe rfl<|Ofd Vy rfl<|Oe rfl<|Obx 0 Xn hs rfl<|Oe rfl<|Ogt rfl<|Opk rfl<|Mv rfl<|X4 (dj:=40) rfl (fun aq=>?_) (fun aq=>?_)
 rw [if_pos aq] at H
 refine On rfl<|On rfl<|On rfl<|On rfl<|Opk rfl<|Zd (ai _ _ _ sbn (aj true _ H hs))
 rw [if_neg aq] at H
 refine Oe rfl<|Mv rfl<|Oe rfl<|O_y rfl (Xl (i:=1) Zb1 Zap hs rfl rfl rfl rfl)<|Oe rfl ?_
 have hs:=hs.front 2 rfl
 obtain ⟨al,av,H⟩:=bnd H
 refine Xs rfl rfl rfl (Qe.c hs ⟨_,rfl,(ay.mono ag)⟩ av) (fun bt w hpost=>?_)
 obtain ⟨rfl,hs⟩:=hpost
 have hs:=hs.sink 2
 refine Oe rfl<|Ont rfl<|Opk rfl<|Zd (ai _ _ _ sbn (aj (!al) _ H hs))
 rw [if_neg ax] at H
 refine Y5 (bf _ _ (bd _ _<|Wr fun bu a6=>As rfl<|Ox a6<|Zm ?_))
 obtain rfl:=Z4 H
 exact r1 rfl ⟨rfl,(hs.less af)⟩

def U9.f (y0_0:List ByteArray) (y0_1:List Val) (y0_2:List Chs) (y0_3:List Val) (y0_4:List Chs) (y0_5:List Spn) (y0_6 y0_7:List Val) (y0_8:List Spn) (y0_9:List Val) (y0_10:List Chs):Option Int:=(Zt.f y0_4).bind fun ab=>(some ab)
theorem U9.c {pb0:Nat} {w0_0:Value} {y0_0:List ByteArray} {w0_1:Value} {y0_1:List Val} {w0_2:Value} {y0_2:List Chs} {w0_3:Value} {y0_3:List Val} {w0_4:Value} {y0_4:List Chs} {w0_5:Value} {y0_5:List Spn} {w0_6:Value} {y0_6:List Val} {w0_7:Value} {y0_7:List Val} {w0_8:Value} {y0_8:List Spn} {w0_9:Value} {y0_9:List Val} {w0_10:Value} {y0_10:List Chs} {pb1:Nat} (hs:St w0 ρ ((.box pb0 27 ([w0_0,w0_1,w0_2,w0_3,w0_4,w0_5,w0_6,w0_7,w0_8,w0_9,w0_10]))::(.box pb1 133 ([.func (.func 88) #[] #[]]))::Γ) w) (g0_0:SlR Rep.str ρ w0_0 y0_0) (g0_1:SlR Qb ρ w0_1 y0_1) (g0_2:SlR Kz ρ w0_2 y0_2) (g0_3:SlR Qb ρ w0_3 y0_3) (g0_4:SlR Kz ρ w0_4 y0_4) (g0_5:SlR Kj ρ w0_5 y0_5) (g0_6:SlR Qb ρ w0_6 y0_6) (g0_7:SlR Qb ρ w0_7 y0_7) (g0_8:SlR Kj ρ w0_8 y0_8) (g0_9:SlR Qb ρ w0_9 y0_9) (g0_10:SlR Kz ρ w0_10 y0_10) {r:Int} (H:U9.f y0_0 y0_1 y0_2 y0_3 y0_4 y0_5 y0_6 y0_7 y0_8 y0_9 y0_10=some r):Zq Tryz.prog 99 [.pointer (some ⟨pb0,0,none⟩),.pointer (some ⟨pb1,0,none⟩)] w (fun v w'=>v=.int .i64 r∧St w0 ρ ((.box pb0 27 ([w0_0,w0_1,w0_2,w0_3,w0_4,w0_5,w0_6,w0_7,w0_8,w0_9,w0_10]))::(.box pb1 133 ([.func (.func 88) #[] #[]]))::Γ) w'):=by
 rw [U9.f] at H
 refine Et Tryz.func99 Tryz.ntmps99 rfl<|Wr fun ae ac=>As rfl<|Ox ac<|Wr fun af ad=>Ofd Zfp rfl<|Obx 0 Zfe hs rfl<|O_y rfl (Hi rfl) ?_
 have hs:=hs.front 1 rfl
 obtain ⟨ab,aa,H⟩:=bnd H
 refine Oc rfl (Zt.c hs g0_4 aa) (fun ag w hpost=>?_)
 obtain ⟨rfl,hs⟩:=hpost
 have hs:=hs.sink 1
 refine As rfl<|Ox ad<|Zm ?_
 obtain rfl:=Z4 H
 exact r1 rfl ⟨rfl,hs⟩

def Ht.f (x0:Spn):Option Spn:=some x0
theorem Ht.c (hs:St w0 ρ (Γ) w) {c0:List Value} {x0:Spn} (h0:Kj.R ρ c0 x0) {r:Spn} (H:Ht.f x0=some r):Zq Tryz.prog 104 [.agg c0.toArray] w (fun v w'=>∃ (ρ':Hp) (cs0:List Value),v=.agg cs0.toArray∧Le ρ ρ'∧St w0 ρ' (Γ) w'∧Kj.R ρ' cs0 r):=by
 rw [Ht.f] at H
 refine Et Tryz.func104 Tryz.ntmps104 rfl ?_
 have aa:=h0
 obtain rfl:=aa
 refine Wr fun ad ab=>Vn (cs:=[.int .i32 x0.lo,.int .i32 x0.hi]) hs rfl rfl (fun ae w hs=>Y6 Za5 hs rfl (fun af w hs=>Ox ab<|Wr fun ag ac=>O_y rfl (Xl (i:=1) Zbg Hv hs rfl rfl rfl rfl)<|Ye (i:=0) Hv hs rfl rfl rfl rfl rfl (Zb rfl (Zb rfl Ym)) (fun w hs=>Ox ac<|Zm ?_)))
 obtain rfl:=Z4 H
 exact Zi2 (i:=0) rfl rfl Zbg Hv hs rfl rfl ⟨_,_,rfl,Le.rfl' _,(hs.sub (ssk (ssk ssr))),h0⟩

def Zz.j1 (ak:Int→Int→Option Int) (aa:Int) (ae:Spn) (ab:Bool):Option Int:=if ab=true then (some aa) else (ak ae.hi (i64.wrap (aa+1)))
def Zz.l1:Nat→List Spn→Int→Int→Option Int
  | 0,_,_,_=>none
  | ac+1,x0,ad,aa=>if aa<(x0.length:Int) then (if (0:Int)≤aa∧aa<(x0.length:Int) then ((Ht.f (rd x0 aa)).bind fun ae=>(if ae.lo≤ad then (Zz.j1 (Zz.l1 ac x0) aa ae true) else (if ae.hi<ae.lo then (Zz.j1 (Zz.l1 ac x0) aa ae true) else (if 1114111<ae.hi then (Zz.j1 (Zz.l1 ac x0) aa ae true) else ((Ue.f (rd x0 aa)).bind fun al=>(Zz.j1 (Zz.l1 ac x0) aa ae (!al))))))) else none) else (some (-1))
def Zz.f (x0:List Spn):Option Int:=if 65536<(x0.length:Int) then (some 65536) else (Zz.l1 K0 x0 (-1) 0)
theorem Zz.c (hs:St w0 ρ (Γ) w) {v0:Value} {x0:List Spn} (h0:SlR Kj ρ v0 x0) {r:Int} (H:Zz.f x0=some r):Zq Tryz.prog 103 [v0,.func (.func 104) #[] #[],.func (.func 88) #[] #[]] w (fun v w'=>v=.int .i64 r∧St w0 ρ Γ w'):=by
 rw [Zz.f] at H
 refine Et Tryz.func103 Tryz.ntmps103 rfl<|Wr fun bt a6=>As rfl<|Ox a6<|Zi fun bu a7=>Wr fun bv a8=>Mv rfl<|O_y rfl (Yx Zky h0 rfl)<|Ogt rfl<|Ox a8<|Xa rfl (fun av=>?_) (fun av=>?_)
 rw [if_pos av] at H
 refine Wr fun bw a9=>As rfl<|Ox a9<|Zm ?_
 obtain rfl:=Z4 H
 exact r1 rfl ⟨rfl,hs⟩
 rw [if_neg av] at H
 refine Wx a7<|Wr fun bx ba=>As rfl<|Ox ba<|Zi fun bz bb=>Wr fun b0 bc=>Mv rfl<|O_y rfl (Yx Zky h0 rfl)<|Mv rfl<|Ox bc<|Zl fun b1 bd b2=>Xb (σ:=Nat×Int×Int×Hp) (fun (ac,ad,aa,ag)=>[(1,.func (.func 104) #[] #[]),(2,.func (.func 88) #[] #[]),(7,.int .i32 ad),(14,v0),(15,.int .i64 (x0.length:Int)),(16,.int .i64 aa)]) (fun (ac,ad,aa,ag) w=>Zz.l1 ac x0 ad aa=some r∧Le ρ ag∧St w0 ag (Γ) w) (fun s=>s.1) (K0,(-1),0,ρ) sbn (Ai H (Ai (Le.rfl' _) hs)) ?_
 rintro ⟨ac,ad,aa,ag⟩ w b3 ⟨H,af,hs⟩ am
 show W _ _ _ _ _ _ [(1,.func (.func 104) #[] #[]),(2,.func (.func 88) #[] #[]),(7,.int .i32 ad),(14,v0),(15,.int .i64 (x0.length:Int)),(16,.int .i64 aa)] w
 cases ac with
 | zero=>rw [Zz.l1] at H;cases H
 | succ ac=>
 rw [Zz.l1] at H
 refine Wr fun b4 be=>Ols rfl<|Ox be<|Zi fun b5 bf=>Xa rfl (fun aw=>?_) (fun aw=>?_)
 rw [if_pos aw] at H
 refine Wx bf<|Zi fun b6 bg=>Zl fun b7 b8 b9=>Wr fun ca bh=>Mv rfl ?_
 obtain ⟨a4,H⟩:=gd H
 obtain ⟨cb,cc,bi,bj⟩:=(h0.mono af).ix Zkx a4.1 a4.2
 obtain ⟨_,rfl,bk⟩:=bi
 refine O_y rfl (bj rfl rfl)<|O_y rfl (Q0 Zbg Hv rfl rfl (fun j u hu=>hs.see (bk j u hu)))<|Y6 Za5 hs rfl (fun bl w hs=>As rfl<|Ye (i:=0) Hv hs rfl rfl rfl rfl rfl (Zb rfl (Zb rfl Ym)) (fun w hs=>Ox bh<|Wr fun cd bm=>Mv rfl<|O_y rfl (Xl (i:=0) Zbg Hv hs rfl rfl rfl rfl) ?_))
 obtain ⟨ae,ax,H⟩:=bnd H
 refine Xs rfl rfl rfl (Ht.c hs rfl ax) (fun ce w hpost=>?_)
 obtain ⟨a5,bn,rfl,aj,hs,bo⟩:=hpost
 have ay:=bo
 obtain rfl:=ay
 refine Y6 Za5 hs rfl (fun ar w hs=>Ye (i:=0) Hv hs rfl rfl rfl rfl rfl (Zb rfl (Zb rfl Ym)) (fun w hs=>Ox bm<|W.weak [(1,_),(2,_),(7,_),(8,_),(9,_),(10,_),(14,_),(15,_),(16,_)] sbn ?_))
 refine Zi fun bp az=>Yt fun a0 a1 ah=>?_
 have ai:∀ (ab:Bool) (w:World),Zz.j1 (Zz.l1 ac x0) aa ae ab=some r→St w0 a5 ((.box ar 129 ([.int .i32 ae.lo,.int .i32 ae.hi]))::(.box bl 129 ([.int .i32 ((rd x0 aa).lo),.int .i32 ((rd x0 aa).hi)]))::Γ) w→a0 [(1,.func (.func 104) #[] #[]),(2,.func (.func 88) #[] #[]),(8,.int .i64 aa),(10,.pointer (some ⟨ar,0,none⟩)),(14,v0),(15,.int .i64 (x0.length:Int)),(16,.int .i64 aa),(45,.bool ab)] w:=by
  intro ab w H hs
  rw [Zz.j1] at H
  refine a1 _ _<|Xh rfl (fun an=>?_) (fun an=>?_)
  rw [if_pos an] at H
  refine Wr fun bq a2=>Mv rfl<|As rfl<|Ox a2<|Zm ?_
  obtain rfl:=Z4 H
  exact r1 rfl ⟨rfl,((hs.sub (ssk (ssk ssr))).less (af.trans aj))⟩
  rw [if_neg (bft an)] at H
  refine Wx az<|Zc<|Ofd Vy rfl<|Obx 0 Xn hs rfl<|As rfl<|Ox bg<|Zc<|Oad rfl<|Mv rfl<|Zd (am (ac,ae.hi,(i64.wrap (aa+1)),a5) _ _ sbn (Ai H (Ai (af.trans aj) (hs.sub (ssk (ssk ssr))))) (Nat.lt_succ_self _))
 refine Zc<|Ofd U6 rfl<|Obx 0 Xn hs rfl<|Mv rfl<|Ole rfl<|Mv rfl<|X4 (dj:=28) rfl (fun ao=>?_) (fun ao=>?_)
 rw [if_pos ao] at H
 refine On rfl<|On rfl<|On rfl<|On rfl<|On rfl<|Opk rfl<|Mv rfl<|On rfl<|On rfl<|On rfl<|Opk rfl<|Mv rfl<|On rfl<|On rfl ?_
 refine On rfl<|On rfl<|Opk rfl<|Zd (ah _ _ _ sbn (ai true _ H hs))
 rw [if_neg ao] at H
 refine Oe rfl<|Ofd Vy rfl<|Oe rfl<|Obx 0 Xn hs rfl<|Oe rfl<|Ofd U6 rfl<|Oe rfl<|Obx 0 Xn hs rfl<|Oe rfl<|Ols rfl<|Opk rfl<|Mv rfl<|X4 (dj:=35) rfl (fun ap=>?_) (fun ap=>?_)
 rw [if_pos ap] at H
 refine On rfl<|On rfl<|On rfl<|Opk rfl<|Mv rfl<|On rfl<|On rfl<|On rfl<|On rfl<|Opk rfl<|Zd (ah _ _ _ sbn (ai true _ H hs))
 rw [if_neg ap] at H
 refine Oe rfl<|Ofd Vy rfl<|Oe rfl<|Obx 0 Xn hs rfl<|Oe rfl<|Ogt rfl<|Opk rfl<|Mv rfl<|X4 (dj:=40) rfl (fun aq=>?_) (fun aq=>?_)
 rw [if_pos aq] at H
 refine On rfl<|On rfl<|On rfl<|On rfl<|Opk rfl<|Zd (ah _ _ _ sbn (ai true _ H hs))
 rw [if_neg aq] at H
 refine Oe rfl<|Mv rfl<|Oe rfl<|O_y rfl (Xl (i:=1) Zbg Hv hs rfl rfl rfl rfl)<|Oe rfl ?_
 obtain ⟨al,au,H⟩:=bnd H
 refine Xs rfl rfl rfl (Ue.c hs rfl au) (fun br w hpost=>?_)
 obtain ⟨rfl,hs⟩:=hpost
 refine Oe rfl<|Ont rfl<|Opk rfl<|Zd (ah _ _ _ sbn (ai (!al) _ H hs))
 rw [if_neg aw] at H
 refine Y5 (bd _ _ (bb _ _<|Wr fun bs a3=>As rfl<|Ox a3<|Zm ?_))
 obtain rfl:=Z4 H
 exact r1 rfl ⟨rfl,(hs.less af)⟩

def U8.f (y0_0:List ByteArray) (y0_1:List Val) (y0_2:List Chs) (y0_3:List Val) (y0_4:List Chs) (y0_5:List Spn) (y0_6 y0_7:List Val) (y0_8:List Spn) (y0_9:List Val) (y0_10:List Chs):Option Int:=(Zz.f y0_5).bind fun ab=>(some ab)
theorem U8.c {pb0:Nat} {w0_0:Value} {y0_0:List ByteArray} {w0_1:Value} {y0_1:List Val} {w0_2:Value} {y0_2:List Chs} {w0_3:Value} {y0_3:List Val} {w0_4:Value} {y0_4:List Chs} {w0_5:Value} {y0_5:List Spn} {w0_6:Value} {y0_6:List Val} {w0_7:Value} {y0_7:List Val} {w0_8:Value} {y0_8:List Spn} {w0_9:Value} {y0_9:List Val} {w0_10:Value} {y0_10:List Chs} {pb1:Nat} (hs:St w0 ρ ((.box pb0 27 ([w0_0,w0_1,w0_2,w0_3,w0_4,w0_5,w0_6,w0_7,w0_8,w0_9,w0_10]))::(.box pb1 133 ([.func (.func 88) #[] #[]]))::Γ) w) (g0_0:SlR Rep.str ρ w0_0 y0_0) (g0_1:SlR Qb ρ w0_1 y0_1) (g0_2:SlR Kz ρ w0_2 y0_2) (g0_3:SlR Qb ρ w0_3 y0_3) (g0_4:SlR Kz ρ w0_4 y0_4) (g0_5:SlR Kj ρ w0_5 y0_5) (g0_6:SlR Qb ρ w0_6 y0_6) (g0_7:SlR Qb ρ w0_7 y0_7) (g0_8:SlR Kj ρ w0_8 y0_8) (g0_9:SlR Qb ρ w0_9 y0_9) (g0_10:SlR Kz ρ w0_10 y0_10) {r:Int} (H:U8.f y0_0 y0_1 y0_2 y0_3 y0_4 y0_5 y0_6 y0_7 y0_8 y0_9 y0_10=some r):Zq Tryz.prog 102 [.pointer (some ⟨pb0,0,none⟩),.pointer (some ⟨pb1,0,none⟩)] w (fun v w'=>v=.int .i64 r∧St w0 ρ ((.box pb0 27 ([w0_0,w0_1,w0_2,w0_3,w0_4,w0_5,w0_6,w0_7,w0_8,w0_9,w0_10]))::(.box pb1 133 ([.func (.func 88) #[] #[]]))::Γ) w'):=by
 rw [U8.f] at H
 refine Et Tryz.func102 Tryz.ntmps102 rfl<|Wr fun ae ac=>As rfl<|Ox ac<|Wr fun af ad=>Ofd Zmc rfl<|Obx 0 Zn5 hs rfl<|Obx 1 Zfm hs rfl ?_
 obtain ⟨ab,aa,H⟩:=bnd H
 refine Oc rfl (Zz.c hs g0_5 aa) (fun ag w hpost=>?_)
 obtain ⟨rfl,hs⟩:=hpost
 refine As rfl<|Ox ad<|Zm ?_
 obtain rfl:=Z4 H
 exact r1 rfl ⟨rfl,hs⟩

def Hr.f:Option (List ByteArray):=some ([(⟨#[76]⟩:ByteArray),(⟨#[82]⟩:ByteArray),(⟨#[65,76]⟩:ByteArray),(⟨#[69,78]⟩:ByteArray),(⟨#[69,83]⟩:ByteArray),(⟨#[69,84]⟩:ByteArray),(⟨#[65,78]⟩:ByteArray),(⟨#[67,83]⟩:ByteArray),(⟨#[78,83,77]⟩:ByteArray),(⟨#[66,78]⟩:ByteArray),(⟨#[79,78]⟩:ByteArray),(⟨#[66]⟩:ByteArray),(⟨#[83]⟩:ByteArray),(⟨#[87,83]⟩:ByteArray),(⟨#[76,82,69]⟩:ByteArray),(⟨#[76,82,79]⟩:ByteArray),(⟨#[82,76,69]⟩:ByteArray),(⟨#[82,76,79]⟩:ByteArray),(⟨#[80,68,70]⟩:ByteArray),(⟨#[76,82,73]⟩:ByteArray),(⟨#[82,76,73]⟩:ByteArray),(⟨#[70,83,73]⟩:ByteArray),(⟨#[80,68,73]⟩:ByteArray)])
theorem Hr.c (hs:St w0 ρ (Γ) w) {r:List ByteArray} (H:Hr.f=some r):Zq Tryz.prog 106 [] w (fun v w'=>∃ (ρ':Hp) (v0:Value) (cs0:List Value),v=v0∧Le ρ ρ'∧St w0 ρ' (.row v0 9 Rep.str.sz r.length cs0::Γ) w'∧Zp Rep.str ρ' cs0 r):=by
 rw [Hr.f] at H
 refine Et Tryz.func106 Tryz.ntmps106 rfl<|Wr fun ad aa=>As rfl<|Ox aa<|Wr fun ae ab=>K6 (xs:=[.const (.string (⟨#[76]⟩:ByteArray)),.const (.string (⟨#[82]⟩:ByteArray)),.const (.string (⟨#[65,76]⟩:ByteArray)),.const (.string (⟨#[69,78]⟩:ByteArray)),.const (.string (⟨#[69,83]⟩:ByteArray)),.const (.string (⟨#[69,84]⟩:ByteArray)),.const (.string (⟨#[65,78]⟩:ByteArray)),.const (.string (⟨#[67,83]⟩:ByteArray)),.const (.string (⟨#[78,83,77]⟩:ByteArray)),.const (.string (⟨#[66,78]⟩:ByteArray)),.const (.string (⟨#[79,78]⟩:ByteArray)),.const (.string (⟨#[66]⟩:ByteArray)),.const (.string (⟨#[83]⟩:ByteArray)),.const (.string (⟨#[87,83]⟩:ByteArray)),.const (.string (⟨#[76,82,69]⟩:ByteArray)),.const (.string (⟨#[76,82,79]⟩:ByteArray)),.const (.string (⟨#[82,76,69]⟩:ByteArray)),.const (.string (⟨#[82,76,79]⟩:ByteArray)),.const (.string (⟨#[80,68,70]⟩:ByteArray)),.const (.string (⟨#[76,82,73]⟩:ByteArray)),.const (.string (⟨#[82,76,73]⟩:ByteArray)),.const (.string (⟨#[70,83,73]⟩:ByteArray)),.const (.string (⟨#[80,68,73]⟩:ByteArray))]) (cs:=[.string (⟨#[76]⟩:ByteArray),.string (⟨#[82]⟩:ByteArray),.string (⟨#[65,76]⟩:ByteArray),.string (⟨#[69,78]⟩:ByteArray),.string (⟨#[69,83]⟩:ByteArray),.string (⟨#[69,84]⟩:ByteArray),.string (⟨#[65,78]⟩:ByteArray),.string (⟨#[67,83]⟩:ByteArray),.string (⟨#[78,83,77]⟩:ByteArray),.string (⟨#[66,78]⟩:ByteArray),.string (⟨#[79,78]⟩:ByteArray),.string (⟨#[66]⟩:ByteArray),.string (⟨#[83]⟩:ByteArray),.string (⟨#[87,83]⟩:ByteArray),.string (⟨#[76,82,69]⟩:ByteArray),.string (⟨#[76,82,79]⟩:ByteArray),.string (⟨#[82,76,69]⟩:ByteArray),.string (⟨#[82,76,79]⟩:ByteArray),.string (⟨#[80,68,70]⟩:ByteArray),.string (⟨#[76,82,73]⟩:ByteArray),.string (⟨#[82,76,73]⟩:ByteArray),.string (⟨#[70,83,73]⟩:ByteArray),.string (⟨#[80,68,73]⟩:ByteArray)]) Zhc hs rfl rfl rfl (by decide) (by decide) rfl (Yd rfl (Yd rfl (Yd rfl (Yd rfl (Yd rfl (Yd rfl (Yd rfl (Yd rfl (Yd rfl (Yd rfl (Yd rfl (Yd rfl (Yd rfl (Yd rfl (Yd rfl (Yd rfl (Yd rfl (Yd rfl (Yd rfl (Yd rfl (Yd rfl (Yd rfl (Yd rfl Ki))))))))))))))))))))))) (Zx rfl (Zx rfl (Zx rfl (Zx rfl (Zx rfl (Zx rfl (Zx rfl (Zx rfl (Zx rfl (Zx rfl (Zx rfl (Zx rfl (Zx rfl (Zx rfl (Zx rfl (Zx rfl (Zx rfl (Zx rfl (Zx rfl (Zx rfl (Zx rfl (Zx rfl (Zx rfl X6))))))))))))))))))))))) (fun af w hs=>?_)
 have ac:Zp Rep.str ρ ([.string (⟨#[76]⟩:ByteArray),.string (⟨#[82]⟩:ByteArray),.string (⟨#[65,76]⟩:ByteArray),.string (⟨#[69,78]⟩:ByteArray),.string (⟨#[69,83]⟩:ByteArray),.string (⟨#[69,84]⟩:ByteArray),.string (⟨#[65,78]⟩:ByteArray),.string (⟨#[67,83]⟩:ByteArray),.string (⟨#[78,83,77]⟩:ByteArray),.string (⟨#[66,78]⟩:ByteArray),.string (⟨#[79,78]⟩:ByteArray),.string (⟨#[66]⟩:ByteArray),.string (⟨#[83]⟩:ByteArray),.string (⟨#[87,83]⟩:ByteArray),.string (⟨#[76,82,69]⟩:ByteArray),.string (⟨#[76,82,79]⟩:ByteArray),.string (⟨#[82,76,69]⟩:ByteArray),.string (⟨#[82,76,79]⟩:ByteArray),.string (⟨#[80,68,70]⟩:ByteArray),.string (⟨#[76,82,73]⟩:ByteArray),.string (⟨#[82,76,73]⟩:ByteArray),.string (⟨#[70,83,73]⟩:ByteArray),.string (⟨#[80,68,73]⟩:ByteArray)]) [(⟨#[76]⟩:ByteArray),(⟨#[82]⟩:ByteArray),(⟨#[65,76]⟩:ByteArray),(⟨#[69,78]⟩:ByteArray),(⟨#[69,83]⟩:ByteArray),(⟨#[69,84]⟩:ByteArray),(⟨#[65,78]⟩:ByteArray),(⟨#[67,83]⟩:ByteArray),(⟨#[78,83,77]⟩:ByteArray),(⟨#[66,78]⟩:ByteArray),(⟨#[79,78]⟩:ByteArray),(⟨#[66]⟩:ByteArray),(⟨#[83]⟩:ByteArray),(⟨#[87,83]⟩:ByteArray),(⟨#[76,82,69]⟩:ByteArray),(⟨#[76,82,79]⟩:ByteArray),(⟨#[82,76,69]⟩:ByteArray),(⟨#[82,76,79]⟩:ByteArray),(⟨#[80,68,70]⟩:ByteArray),(⟨#[76,82,73]⟩:ByteArray),(⟨#[82,76,73]⟩:ByteArray),(⟨#[70,83,73]⟩:ByteArray),(⟨#[80,68,73]⟩:ByteArray)]:=Zp.cons (c:=[.string (⟨#[76]⟩:ByteArray)]) (x:=(⟨#[76]⟩:ByteArray)) rfl (Zp.cons (c:=[.string (⟨#[82]⟩:ByteArray)]) (x:=(⟨#[82]⟩:ByteArray)) rfl (Zp.cons (c:=[.string (⟨#[65,76]⟩:ByteArray)]) (x:=(⟨#[65,76]⟩:ByteArray)) rfl (Zp.cons (c:=[.string (⟨#[69,78]⟩:ByteArray)]) (x:=(⟨#[69,78]⟩:ByteArray)) rfl (Zp.cons (c:=[.string (⟨#[69,83]⟩:ByteArray)]) (x:=(⟨#[69,83]⟩:ByteArray)) rfl (Zp.cons (c:=[.string (⟨#[69,84]⟩:ByteArray)]) (x:=(⟨#[69,84]⟩:ByteArray)) rfl (Zp.cons (c:=[.string (⟨#[65,78]⟩:ByteArray)]) (x:=(⟨#[65,78]⟩:ByteArray)) rfl (Zp.cons (c:=[.string (⟨#[67,83]⟩:ByteArray)]) (x:=(⟨#[67,83]⟩:ByteArray)) rfl (Zp.cons (c:=[.string (⟨#[78,83,77]⟩:ByteArray)]) (x:=(⟨#[78,83,77]⟩:ByteArray)) rfl (Zp.cons (c:=[.string (⟨#[66,78]⟩:ByteArray)]) (x:=(⟨#[66,78]⟩:ByteArray)) rfl (Zp.cons (c:=[.string (⟨#[79,78]⟩:ByteArray)]) (x:=(⟨#[79,78]⟩:ByteArray)) rfl (Zp.cons (c:=[.string (⟨#[66]⟩:ByteArray)]) (x:=(⟨#[66]⟩:ByteArray)) rfl (Zp.cons (c:=[.string (⟨#[83]⟩:ByteArray)]) (x:=(⟨#[83]⟩:ByteArray)) rfl (Zp.cons (c:=[.string (⟨#[87,83]⟩:ByteArray)]) (x:=(⟨#[87,83]⟩:ByteArray)) rfl (Zp.cons (c:=[.string (⟨#[76,82,69]⟩:ByteArray)]) (x:=(⟨#[76,82,69]⟩:ByteArray)) rfl (Zp.cons (c:=[.string (⟨#[76,82,79]⟩:ByteArray)]) (x:=(⟨#[76,82,79]⟩:ByteArray)) rfl (Zp.cons (c:=[.string (⟨#[82,76,69]⟩:ByteArray)]) (x:=(⟨#[82,76,69]⟩:ByteArray)) rfl (Zp.cons (c:=[.string (⟨#[82,76,79]⟩:ByteArray)]) (x:=(⟨#[82,76,79]⟩:ByteArray)) rfl (Zp.cons (c:=[.string (⟨#[80,68,70]⟩:ByteArray)]) (x:=(⟨#[80,68,70]⟩:ByteArray)) rfl (Zp.cons (c:=[.string (⟨#[76,82,73]⟩:ByteArray)]) (x:=(⟨#[76,82,73]⟩:ByteArray)) rfl (Zp.cons (c:=[.string (⟨#[82,76,73]⟩:ByteArray)]) (x:=(⟨#[82,76,73]⟩:ByteArray)) rfl (Zp.cons (c:=[.string (⟨#[70,83,73]⟩:ByteArray)]) (x:=(⟨#[70,83,73]⟩:ByteArray)) rfl (Zp.cons (c:=[.string (⟨#[80,68,73]⟩:ByteArray)]) (x:=(⟨#[80,68,73]⟩:ByteArray)) rfl (Zp.nil _ _)))))))))))))))))))))))
 refine As rfl<|Ox ab<|Zm ?_
 obtain rfl:=Z4 H
 exact r1 rfl ⟨_,_,_,rfl,Le.rfl' _,hs,ac⟩

def Ux.f (y0_0:List ByteArray) (y0_1:List Val) (y0_2:List Chs) (y0_3:List Val) (y0_4:List Chs) (y0_5:List Spn) (y0_6 y0_7:List Val) (y0_8:List Spn) (y0_9:List Val) (y0_10:List Chs):Option Int:=(Hr.f).bind fun af=>((Xu.f y0_6 0 (i64.wrap ((af.length:Int)-1))).bind fun ag=>(some ag))
theorem Ux.c {pb0:Nat} {w0_0:Value} {y0_0:List ByteArray} {w0_1:Value} {y0_1:List Val} {w0_2:Value} {y0_2:List Chs} {w0_3:Value} {y0_3:List Val} {w0_4:Value} {y0_4:List Chs} {w0_5:Value} {y0_5:List Spn} {w0_6:Value} {y0_6:List Val} {w0_7:Value} {y0_7:List Val} {w0_8:Value} {y0_8:List Spn} {w0_9:Value} {y0_9:List Val} {w0_10:Value} {y0_10:List Chs} {pb1:Nat} (hs:St w0 ρ ((.box pb0 27 ([w0_0,w0_1,w0_2,w0_3,w0_4,w0_5,w0_6,w0_7,w0_8,w0_9,w0_10]))::(.box pb1 133 ([.func (.func 87) #[] #[]]))::Γ) w) (g0_0:SlR Rep.str ρ w0_0 y0_0) (g0_1:SlR Qb ρ w0_1 y0_1) (g0_2:SlR Kz ρ w0_2 y0_2) (g0_3:SlR Qb ρ w0_3 y0_3) (g0_4:SlR Kz ρ w0_4 y0_4) (g0_5:SlR Kj ρ w0_5 y0_5) (g0_6:SlR Qb ρ w0_6 y0_6) (g0_7:SlR Qb ρ w0_7 y0_7) (g0_8:SlR Kj ρ w0_8 y0_8) (g0_9:SlR Qb ρ w0_9 y0_9) (g0_10:SlR Kz ρ w0_10 y0_10) {r:Int} (H:Ux.f y0_0 y0_1 y0_2 y0_3 y0_4 y0_5 y0_6 y0_7 y0_8 y0_9 y0_10=some r):Zq Tryz.prog 105 [.pointer (some ⟨pb0,0,none⟩),.pointer (some ⟨pb1,0,none⟩)] w (fun v w'=>v=.int .i64 r∧St w0 ρ ((.box pb0 27 ([w0_0,w0_1,w0_2,w0_3,w0_4,w0_5,w0_6,w0_7,w0_8,w0_9,w0_10]))::(.box pb1 133 ([.func (.func 87) #[] #[]]))::Γ) w'):=by
 rw [Ux.f] at H
 refine Et Tryz.func105 Tryz.ntmps105 rfl<|Wr fun ao ah=>As rfl<|Ox ah<|Zi fun ap ai=>Qt 8 [0,1,0,4,8,0,54,127] [124,60,51,99,35,31,0,0] [0,1,0,4,12,0,63,127] [] (fun w=>St w0 ρ ((.box pb0 27 ([w0_0,w0_1,w0_2,w0_3,w0_4,w0_5,w0_6,w0_7,w0_8,w0_9,w0_10]))::(.box pb1 133 ([.func (.func 87) #[] #[]]))::Γ) w) Vr (by kernel_rfl) (fun sh=>?_)
 have hs:=hs.drew
 refine Fp 0 sh rfl (fun w=>Zw Zne rfl)<|Fy 1 sh rfl hs (fun w hs=>Yb 0 Zbx hs rfl rfl rfl)<|Fy 5 sh rfl hs (fun w hs=>Yb 1 Zfm hs rfl rfl rfl)<|F1 2 sh rfl (fun aq aj=>?_)
 obtain ⟨af,ab,H⟩:=bnd H
 refine Oc rfl (Hr.c hs ab) (fun ar w hpost=>?_)
 obtain ⟨au,av,ak,rfl,aa,hs,al⟩:=hpost
 refine Zd (aj _ _ (fun _ _=>((hs.less aa).sub (ssk (ssc (ssc ssr))))) ?_)
 obtain ⟨aw,ac,hs,am⟩:=hs.rowEnd (j:=0) al rfl
 have ad:=aa.trans ac
 refine Fp 3 sh rfl (fun w=>Yx Zhp am rfl)<|Fp 4 sh rfl (fun w=>Zc8 rfl rfl)<|F1 6 sh rfl (fun ax an=>?_)
 obtain ⟨ag,ae,H⟩:=bnd H
 refine Oc rfl (Xu.c hs (g0_6.mono ad) ae) (fun ay w hpost=>?_)
 obtain ⟨rfl,hs⟩:=hpost
 refine Zd (an _ _ (fun _ _=>(hs.less ad))<|Fp 7 sh rfl (fun w=>Xz rfl)<|FE sh (ai _ _<|Zm ?_))
 obtain rfl:=Z4 H
 exact r1 rfl ⟨rfl,(hs.less ad)⟩

def Zah.f:Option (List ByteArray):=some ([(⟨#[85]⟩:ByteArray),(⟨#[76]⟩:ByteArray),(⟨#[82]⟩:ByteArray),(⟨#[68]⟩:ByteArray),(⟨#[84]⟩:ByteArray),(⟨#[67]⟩:ByteArray)])
theorem Zah.c (hs:St w0 ρ (Γ) w) {r:List ByteArray} (H:Zah.f=some r):Zq Tryz.prog 108 [] w (fun v w'=>∃ (ρ':Hp) (v0:Value) (cs0:List Value),v=v0∧Le ρ ρ'∧St w0 ρ' (.row v0 9 Rep.str.sz r.length cs0::Γ) w'∧Zp Rep.str ρ' cs0 r):=by
 rw [Zah.f] at H
 refine Et Tryz.func108 Tryz.ntmps108 rfl<|Wr fun ad aa=>As rfl<|Ox aa<|Wr fun ae ab=>K6 (xs:=[.const (.string (⟨#[85]⟩:ByteArray)),.const (.string (⟨#[76]⟩:ByteArray)),.const (.string (⟨#[82]⟩:ByteArray)),.const (.string (⟨#[68]⟩:ByteArray)),.const (.string (⟨#[84]⟩:ByteArray)),.const (.string (⟨#[67]⟩:ByteArray))]) (cs:=[.string (⟨#[85]⟩:ByteArray),.string (⟨#[76]⟩:ByteArray),.string (⟨#[82]⟩:ByteArray),.string (⟨#[68]⟩:ByteArray),.string (⟨#[84]⟩:ByteArray),.string (⟨#[67]⟩:ByteArray)]) Zhc hs rfl rfl rfl (by decide) (by decide) rfl (Yd rfl (Yd rfl (Yd rfl (Yd rfl (Yd rfl (Yd rfl Ki)))))) (Zx rfl (Zx rfl (Zx rfl (Zx rfl (Zx rfl (Zx rfl X6)))))) (fun af w hs=>?_)
 have ac:Zp Rep.str ρ ([.string (⟨#[85]⟩:ByteArray),.string (⟨#[76]⟩:ByteArray),.string (⟨#[82]⟩:ByteArray),.string (⟨#[68]⟩:ByteArray),.string (⟨#[84]⟩:ByteArray),.string (⟨#[67]⟩:ByteArray)]) [(⟨#[85]⟩:ByteArray),(⟨#[76]⟩:ByteArray),(⟨#[82]⟩:ByteArray),(⟨#[68]⟩:ByteArray),(⟨#[84]⟩:ByteArray),(⟨#[67]⟩:ByteArray)]:=Zp.cons (c:=[.string (⟨#[85]⟩:ByteArray)]) (x:=(⟨#[85]⟩:ByteArray)) rfl (Zp.cons (c:=[.string (⟨#[76]⟩:ByteArray)]) (x:=(⟨#[76]⟩:ByteArray)) rfl (Zp.cons (c:=[.string (⟨#[82]⟩:ByteArray)]) (x:=(⟨#[82]⟩:ByteArray)) rfl (Zp.cons (c:=[.string (⟨#[68]⟩:ByteArray)]) (x:=(⟨#[68]⟩:ByteArray)) rfl (Zp.cons (c:=[.string (⟨#[84]⟩:ByteArray)]) (x:=(⟨#[84]⟩:ByteArray)) rfl (Zp.cons (c:=[.string (⟨#[67]⟩:ByteArray)]) (x:=(⟨#[67]⟩:ByteArray)) rfl (Zp.nil _ _))))))
 refine As rfl<|Ox ab<|Zm ?_
 obtain rfl:=Z4 H
 exact r1 rfl ⟨_,_,_,rfl,Le.rfl' _,hs,ac⟩

def U0.f (y0_0:List ByteArray) (y0_1:List Val) (y0_2:List Chs) (y0_3:List Val) (y0_4:List Chs) (y0_5:List Spn) (y0_6 y0_7:List Val) (y0_8:List Spn) (y0_9:List Val) (y0_10:List Chs):Option Int:=(Zah.f).bind fun af=>((Xu.f y0_7 0 (i64.wrap ((af.length:Int)-1))).bind fun ag=>(some ag))
theorem U0.c {pb0:Nat} {w0_0:Value} {y0_0:List ByteArray} {w0_1:Value} {y0_1:List Val} {w0_2:Value} {y0_2:List Chs} {w0_3:Value} {y0_3:List Val} {w0_4:Value} {y0_4:List Chs} {w0_5:Value} {y0_5:List Spn} {w0_6:Value} {y0_6:List Val} {w0_7:Value} {y0_7:List Val} {w0_8:Value} {y0_8:List Spn} {w0_9:Value} {y0_9:List Val} {w0_10:Value} {y0_10:List Chs} {pb1:Nat} (hs:St w0 ρ ((.box pb0 27 ([w0_0,w0_1,w0_2,w0_3,w0_4,w0_5,w0_6,w0_7,w0_8,w0_9,w0_10]))::(.box pb1 133 ([.func (.func 87) #[] #[]]))::Γ) w) (g0_0:SlR Rep.str ρ w0_0 y0_0) (g0_1:SlR Qb ρ w0_1 y0_1) (g0_2:SlR Kz ρ w0_2 y0_2) (g0_3:SlR Qb ρ w0_3 y0_3) (g0_4:SlR Kz ρ w0_4 y0_4) (g0_5:SlR Kj ρ w0_5 y0_5) (g0_6:SlR Qb ρ w0_6 y0_6) (g0_7:SlR Qb ρ w0_7 y0_7) (g0_8:SlR Kj ρ w0_8 y0_8) (g0_9:SlR Qb ρ w0_9 y0_9) (g0_10:SlR Kz ρ w0_10 y0_10) {r:Int} (H:U0.f y0_0 y0_1 y0_2 y0_3 y0_4 y0_5 y0_6 y0_7 y0_8 y0_9 y0_10=some r):Zq Tryz.prog 107 [.pointer (some ⟨pb0,0,none⟩),.pointer (some ⟨pb1,0,none⟩)] w (fun v w'=>v=.int .i64 r∧St w0 ρ ((.box pb0 27 ([w0_0,w0_1,w0_2,w0_3,w0_4,w0_5,w0_6,w0_7,w0_8,w0_9,w0_10]))::(.box pb1 133 ([.func (.func 87) #[] #[]]))::Γ) w'):=by
 rw [U0.f] at H
 refine Et Tryz.func107 Tryz.ntmps107 rfl<|Wr fun ao ah=>As rfl<|Ox ah<|Zi fun ap ai=>Qt 8 [0,1,0,4,8,0,54,127] [124,60,51,99,35,31,0,0] [0,1,0,4,12,0,63,127] [] (fun w=>St w0 ρ ((.box pb0 27 ([w0_0,w0_1,w0_2,w0_3,w0_4,w0_5,w0_6,w0_7,w0_8,w0_9,w0_10]))::(.box pb1 133 ([.func (.func 87) #[] #[]]))::Γ) w) Vr (by kernel_rfl) (fun sh=>?_)
 have hs:=hs.drew
 refine Fp 0 sh rfl (fun w=>Zw Znm rfl)<|Fy 1 sh rfl hs (fun w hs=>Yb 0 Zbx hs rfl rfl rfl)<|Fy 5 sh rfl hs (fun w hs=>Yb 1 Zfm hs rfl rfl rfl)<|F1 2 sh rfl (fun aq aj=>?_)
 obtain ⟨af,ab,H⟩:=bnd H
 refine Oc rfl (Zah.c hs ab) (fun ar w hpost=>?_)
 obtain ⟨au,av,ak,rfl,aa,hs,al⟩:=hpost
 refine Zd (aj _ _ (fun _ _=>((hs.less aa).sub (ssk (ssc (ssc ssr))))) ?_)
 obtain ⟨aw,ac,hs,am⟩:=hs.rowEnd (j:=0) al rfl
 have ad:=aa.trans ac
 refine Fp 3 sh rfl (fun w=>Yx Zhp am rfl)<|Fp 4 sh rfl (fun w=>Zc8 rfl rfl)<|F1 6 sh rfl (fun ax an=>?_)
 obtain ⟨ag,ae,H⟩:=bnd H
 refine Oc rfl (Xu.c hs (g0_7.mono ad) ae) (fun ay w hpost=>?_)
 obtain ⟨rfl,hs⟩:=hpost
 refine Zd (an _ _ (fun _ _=>(hs.less ad))<|Fp 7 sh rfl (fun w=>Xz rfl)<|FE sh (ai _ _<|Zm ?_))
 obtain rfl:=Z4 H
 exact r1 rfl ⟨rfl,(hs.less ad)⟩

def Z0.j1 (ak:Int→Int→Option Int) (aa:Int) (ae:Spn) (ab:Bool):Option Int:=if ab=true then (some aa) else (ak ae.hi (i64.wrap (aa+1)))
def Z0.l1:Nat→List Spn→Int→Int→Option Int
  | 0,_,_,_=>none
  | ac+1,x0,ad,aa=>if aa<(x0.length:Int) then (if (0:Int)≤aa∧aa<(x0.length:Int) then ((Ht.f (rd x0 aa)).bind fun ae=>(if ae.lo≤ad then (Z0.j1 (Z0.l1 ac x0) aa ae true) else (if ae.hi<ae.lo then (Z0.j1 (Z0.l1 ac x0) aa ae true) else (if 1114111<ae.hi then (Z0.j1 (Z0.l1 ac x0) aa ae true) else ((Hx.f (rd x0 aa)).bind fun al=>(Z0.j1 (Z0.l1 ac x0) aa ae (!al))))))) else none) else (some (-1))
def Z0.f (x0:List Spn):Option Int:=if 65536<(x0.length:Int) then (some 65536) else (Z0.l1 K0 x0 (-1) 0)
theorem Z0.c (hs:St w0 ρ (Γ) w) {v0:Value} {x0:List Spn} (h0:SlR Kj ρ v0 x0) {r:Int} (H:Z0.f x0=some r):Zq Tryz.prog 103 [v0,.func (.func 104) #[] #[],.func (.func 87) #[] #[]] w (fun v w'=>v=.int .i64 r∧St w0 ρ Γ w'):=by
 rw [Z0.f] at H
 refine Et Tryz.func103 Tryz.ntmps103 rfl<|Wr fun bt a6=>As rfl<|Ox a6<|Zi fun bu a7=>Wr fun bv a8=>Mv rfl<|O_y rfl (Yx Zky h0 rfl)<|Ogt rfl<|Ox a8<|Xa rfl (fun av=>?_) (fun av=>?_)
 rw [if_pos av] at H
 refine Wr fun bw a9=>As rfl<|Ox a9<|Zm ?_
 obtain rfl:=Z4 H
 exact r1 rfl ⟨rfl,hs⟩
 rw [if_neg av] at H
 refine Wx a7<|Wr fun bx ba=>As rfl<|Ox ba<|Zi fun bz bb=>Wr fun b0 bc=>Mv rfl<|O_y rfl (Yx Zky h0 rfl)<|Mv rfl<|Ox bc<|Zl fun b1 bd b2=>Xb (σ:=Nat×Int×Int×Hp) (fun (ac,ad,aa,ag)=>[(1,.func (.func 104) #[] #[]),(2,.func (.func 87) #[] #[]),(7,.int .i32 ad),(14,v0),(15,.int .i64 (x0.length:Int)),(16,.int .i64 aa)]) (fun (ac,ad,aa,ag) w=>Z0.l1 ac x0 ad aa=some r∧Le ρ ag∧St w0 ag (Γ) w) (fun s=>s.1) (K0,(-1),0,ρ) sbn (Ai H (Ai (Le.rfl' _) hs)) ?_
 rintro ⟨ac,ad,aa,ag⟩ w b3 ⟨H,af,hs⟩ am
 show W _ _ _ _ _ _ [(1,.func (.func 104) #[] #[]),(2,.func (.func 87) #[] #[]),(7,.int .i32 ad),(14,v0),(15,.int .i64 (x0.length:Int)),(16,.int .i64 aa)] w
 cases ac with
 | zero=>rw [Z0.l1] at H;cases H
 | succ ac=>
 rw [Z0.l1] at H
 refine Wr fun b4 be=>Ols rfl<|Ox be<|Zi fun b5 bf=>Xa rfl (fun aw=>?_) (fun aw=>?_)
 rw [if_pos aw] at H
 refine Wx bf<|Zi fun b6 bg=>Zl fun b7 b8 b9=>Wr fun ca bh=>Mv rfl ?_
 obtain ⟨a4,H⟩:=gd H
 obtain ⟨cb,cc,bi,bj⟩:=(h0.mono af).ix Zkx a4.1 a4.2
 obtain ⟨_,rfl,bk⟩:=bi
 refine O_y rfl (bj rfl rfl)<|O_y rfl (Q0 Zbg Hv rfl rfl (fun j u hu=>hs.see (bk j u hu)))<|Y6 Za5 hs rfl (fun bl w hs=>As rfl<|Ye (i:=0) Hv hs rfl rfl rfl rfl rfl (Zb rfl (Zb rfl Ym)) (fun w hs=>Ox bh<|Wr fun cd bm=>Mv rfl<|O_y rfl (Xl (i:=0) Zbg Hv hs rfl rfl rfl rfl) ?_))
 obtain ⟨ae,ax,H⟩:=bnd H
 refine Xs rfl rfl rfl (Ht.c hs rfl ax) (fun ce w hpost=>?_)
 obtain ⟨a5,bn,rfl,aj,hs,bo⟩:=hpost
 have ay:=bo
 obtain rfl:=ay
 refine Y6 Za5 hs rfl (fun ar w hs=>Ye (i:=0) Hv hs rfl rfl rfl rfl rfl (Zb rfl (Zb rfl Ym)) (fun w hs=>Ox bm<|W.weak [(1,_),(2,_),(7,_),(8,_),(9,_),(10,_),(14,_),(15,_),(16,_)] sbn ?_))
 refine Zi fun bp az=>Yt fun a0 a1 ah=>?_
 have ai:∀ (ab:Bool) (w:World),Z0.j1 (Z0.l1 ac x0) aa ae ab=some r→St w0 a5 ((.box ar 129 ([.int .i32 ae.lo,.int .i32 ae.hi]))::(.box bl 129 ([.int .i32 ((rd x0 aa).lo),.int .i32 ((rd x0 aa).hi)]))::Γ) w→a0 [(1,.func (.func 104) #[] #[]),(2,.func (.func 87) #[] #[]),(8,.int .i64 aa),(10,.pointer (some ⟨ar,0,none⟩)),(14,v0),(15,.int .i64 (x0.length:Int)),(16,.int .i64 aa),(45,.bool ab)] w:=by
  intro ab w H hs
  rw [Z0.j1] at H
  refine a1 _ _<|Xh rfl (fun an=>?_) (fun an=>?_)
  rw [if_pos an] at H
  refine Wr fun bq a2=>Mv rfl<|As rfl<|Ox a2<|Zm ?_
  obtain rfl:=Z4 H
  exact r1 rfl ⟨rfl,((hs.sub (ssk (ssk ssr))).less (af.trans aj))⟩
  rw [if_neg (bft an)] at H
  refine Wx az<|Zc<|Ofd Vy rfl<|Obx 0 Xn hs rfl<|As rfl<|Ox bg<|Zc<|Oad rfl<|Mv rfl<|Zd (am (ac,ae.hi,(i64.wrap (aa+1)),a5) _ _ sbn (Ai H (Ai (af.trans aj) (hs.sub (ssk (ssk ssr))))) (Nat.lt_succ_self _))
 refine Zc<|Ofd U6 rfl<|Obx 0 Xn hs rfl<|Mv rfl<|Ole rfl<|Mv rfl<|X4 (dj:=28) rfl (fun ao=>?_) (fun ao=>?_)
 rw [if_pos ao] at H
 refine On rfl<|On rfl<|On rfl<|On rfl<|On rfl<|Opk rfl<|Mv rfl<|On rfl<|On rfl<|On rfl<|Opk rfl<|Mv rfl<|On rfl<|On rfl ?_
 refine On rfl<|On rfl<|Opk rfl<|Zd (ah _ _ _ sbn (ai true _ H hs))
 rw [if_neg ao] at H
 refine Oe rfl<|Ofd Vy rfl<|Oe rfl<|Obx 0 Xn hs rfl<|Oe rfl<|Ofd U6 rfl<|Oe rfl<|Obx 0 Xn hs rfl<|Oe rfl<|Ols rfl<|Opk rfl<|Mv rfl<|X4 (dj:=35) rfl (fun ap=>?_) (fun ap=>?_)
 rw [if_pos ap] at H
 refine On rfl<|On rfl<|On rfl<|Opk rfl<|Mv rfl<|On rfl<|On rfl<|On rfl<|On rfl<|Opk rfl<|Zd (ah _ _ _ sbn (ai true _ H hs))
 rw [if_neg ap] at H
 refine Oe rfl<|Ofd Vy rfl<|Oe rfl<|Obx 0 Xn hs rfl<|Oe rfl<|Ogt rfl<|Opk rfl<|Mv rfl<|X4 (dj:=40) rfl (fun aq=>?_) (fun aq=>?_)
 rw [if_pos aq] at H
 refine On rfl<|On rfl<|On rfl<|On rfl<|Opk rfl<|Zd (ah _ _ _ sbn (ai true _ H hs))
 rw [if_neg aq] at H
 refine Oe rfl<|Mv rfl<|Oe rfl<|O_y rfl (Xl (i:=1) Zbg Hv hs rfl rfl rfl rfl)<|Oe rfl ?_
 obtain ⟨al,au,H⟩:=bnd H
 refine Xs rfl rfl rfl (Hx.c hs rfl au) (fun br w hpost=>?_)
 obtain ⟨rfl,hs⟩:=hpost
 refine Oe rfl<|Ont rfl<|Opk rfl<|Zd (ah _ _ _ sbn (ai (!al) _ H hs))
 rw [if_neg aw] at H
 refine Y5 (bd _ _ (bb _ _<|Wr fun bs a3=>As rfl<|Ox a3<|Zm ?_))
 obtain rfl:=Z4 H
 exact r1 rfl ⟨rfl,(hs.less af)⟩

def U1.f (y0_0:List ByteArray) (y0_1:List Val) (y0_2:List Chs) (y0_3:List Val) (y0_4:List Chs) (y0_5:List Spn) (y0_6 y0_7:List Val) (y0_8:List Spn) (y0_9:List Val) (y0_10:List Chs):Option Int:=(Z0.f y0_8).bind fun ab=>(some ab)
theorem U1.c {pb0:Nat} {w0_0:Value} {y0_0:List ByteArray} {w0_1:Value} {y0_1:List Val} {w0_2:Value} {y0_2:List Chs} {w0_3:Value} {y0_3:List Val} {w0_4:Value} {y0_4:List Chs} {w0_5:Value} {y0_5:List Spn} {w0_6:Value} {y0_6:List Val} {w0_7:Value} {y0_7:List Val} {w0_8:Value} {y0_8:List Spn} {w0_9:Value} {y0_9:List Val} {w0_10:Value} {y0_10:List Chs} {pb1:Nat} (hs:St w0 ρ ((.box pb0 27 ([w0_0,w0_1,w0_2,w0_3,w0_4,w0_5,w0_6,w0_7,w0_8,w0_9,w0_10]))::(.box pb1 133 ([.func (.func 87) #[] #[]]))::Γ) w) (g0_0:SlR Rep.str ρ w0_0 y0_0) (g0_1:SlR Qb ρ w0_1 y0_1) (g0_2:SlR Kz ρ w0_2 y0_2) (g0_3:SlR Qb ρ w0_3 y0_3) (g0_4:SlR Kz ρ w0_4 y0_4) (g0_5:SlR Kj ρ w0_5 y0_5) (g0_6:SlR Qb ρ w0_6 y0_6) (g0_7:SlR Qb ρ w0_7 y0_7) (g0_8:SlR Kj ρ w0_8 y0_8) (g0_9:SlR Qb ρ w0_9 y0_9) (g0_10:SlR Kz ρ w0_10 y0_10) {r:Int} (H:U1.f y0_0 y0_1 y0_2 y0_3 y0_4 y0_5 y0_6 y0_7 y0_8 y0_9 y0_10=some r):Zq Tryz.prog 109 [.pointer (some ⟨pb0,0,none⟩),.pointer (some ⟨pb1,0,none⟩)] w (fun v w'=>v=.int .i64 r∧St w0 ρ ((.box pb0 27 ([w0_0,w0_1,w0_2,w0_3,w0_4,w0_5,w0_6,w0_7,w0_8,w0_9,w0_10]))::(.box pb1 133 ([.func (.func 87) #[] #[]]))::Γ) w'):=by
 rw [U1.f] at H
 refine Et Tryz.func109 Tryz.ntmps109 rfl<|Wr fun ae ac=>As rfl<|Ox ac<|Wr fun af ad=>Ofd Znf rfl<|Obx 0 Zn5 hs rfl<|Obx 1 Zfm hs rfl ?_
 obtain ⟨ab,aa,H⟩:=bnd H
 refine Oc rfl (Z0.c hs g0_8 aa) (fun ag w hpost=>?_)
 obtain ⟨rfl,hs⟩:=hpost
 refine As rfl<|Ox ad<|Zm ?_
 obtain rfl:=Z4 H
 exact r1 rfl ⟨rfl,hs⟩

def Us.f (y0_0:List ByteArray) (y0_1:List Val) (y0_2:List Chs) (y0_3:List Val) (y0_4:List Chs) (y0_5:List Spn) (y0_6 y0_7:List Val) (y0_8:List Spn) (y0_9:List Val) (y0_10:List Chs):Option Int:=(Xu.f y0_9 1 (y0_0.length:Int)).bind fun ab=>(some ab)
theorem Us.c {pb0:Nat} {w0_0:Value} {y0_0:List ByteArray} {w0_1:Value} {y0_1:List Val} {w0_2:Value} {y0_2:List Chs} {w0_3:Value} {y0_3:List Val} {w0_4:Value} {y0_4:List Chs} {w0_5:Value} {y0_5:List Spn} {w0_6:Value} {y0_6:List Val} {w0_7:Value} {y0_7:List Val} {w0_8:Value} {y0_8:List Spn} {w0_9:Value} {y0_9:List Val} {w0_10:Value} {y0_10:List Chs} {pb1:Nat} (hs:St w0 ρ ((.box pb0 27 ([w0_0,w0_1,w0_2,w0_3,w0_4,w0_5,w0_6,w0_7,w0_8,w0_9,w0_10]))::(.box pb1 133 ([.func (.func 87) #[] #[]]))::Γ) w) (g0_0:SlR Rep.str ρ w0_0 y0_0) (g0_1:SlR Qb ρ w0_1 y0_1) (g0_2:SlR Kz ρ w0_2 y0_2) (g0_3:SlR Qb ρ w0_3 y0_3) (g0_4:SlR Kz ρ w0_4 y0_4) (g0_5:SlR Kj ρ w0_5 y0_5) (g0_6:SlR Qb ρ w0_6 y0_6) (g0_7:SlR Qb ρ w0_7 y0_7) (g0_8:SlR Kj ρ w0_8 y0_8) (g0_9:SlR Qb ρ w0_9 y0_9) (g0_10:SlR Kz ρ w0_10 y0_10) {r:Int} (H:Us.f y0_0 y0_1 y0_2 y0_3 y0_4 y0_5 y0_6 y0_7 y0_8 y0_9 y0_10=some r):Zq Tryz.prog 110 [.pointer (some ⟨pb0,0,none⟩),.pointer (some ⟨pb1,0,none⟩)] w (fun v w'=>v=.int .i64 r∧St w0 ρ ((.box pb0 27 ([w0_0,w0_1,w0_2,w0_3,w0_4,w0_5,w0_6,w0_7,w0_8,w0_9,w0_10]))::(.box pb1 133 ([.func (.func 87) #[] #[]]))::Γ) w'):=by
 rw [Us.f] at H
 refine Et Tryz.func110 Tryz.ntmps110 rfl<|Wr fun ae ac=>As rfl<|Ox ac<|Wr fun af ad=>Ofd Zmt rfl<|Obx 0 Zbx hs rfl<|Ofd Zns rfl<|Obx 0 Ztp hs rfl<|O_y rfl (Yx Zhp g0_0 rfl)<|Obx 1 Zfm hs rfl ?_
 obtain ⟨ab,aa,H⟩:=bnd H
 refine Oc rfl (Xu.c hs g0_9 aa) (fun ag w hpost=>?_)
 obtain ⟨rfl,hs⟩:=hpost
 refine As rfl<|Ox ad<|Zm ?_
 obtain rfl:=Z4 H
 exact r1 rfl ⟨rfl,hs⟩

def Zaa.f (x0:Chs):Option Bool:=(Qz.f x0.is_ 1 18).bind fun ab=>(some ab)
theorem Zaa.c (hs:St w0 ρ (Γ) w) {c0:List Value} {x0:Chs} (h0:Kz.R ρ c0 x0) {r:Bool} (H:Zaa.f x0=some r):Zq Tryz.prog 90 [.agg c0.toArray] w (fun v w'=>v=.bool r∧St w0 ρ Γ w'):=by
 rw [Zaa.f] at H
 refine Et Tryz.func90 Tryz.ntmps90 rfl ?_
 have ac:=h0
 obtain ⟨ad,rfl,ae⟩:=ac
 refine Wr fun ah af=>Vn (cs:=[.int .i32 x0.lo,.int .i32 x0.hi,ad]) hs rfl rfl (fun ai w hs=>As rfl<|Ox af<|Wr fun aj ag=>Ofd Zac rfl<|Obx 0 Za1 hs rfl ?_)
 obtain ⟨ab,aa,H⟩:=bnd H
 refine Oc rfl (Qz.c hs ae aa) (fun ak w hpost=>?_)
 obtain ⟨rfl,hs⟩:=hpost
 refine As rfl<|Ox ag<|Zm ?_
 obtain rfl:=Z4 H
 exact r1 rfl ⟨rfl,(hs.sub (ssk ssr))⟩

def Zu.j1 (ak:Int→Int→Option Int) (aa:Int) (ae:Spn) (ab:Bool):Option Int:=if ab=true then (some aa) else (ak ae.hi (i64.wrap (aa+1)))
def Zu.l1:Nat→List Chs→Int→Int→Option Int
  | 0,_,_,_=>none
  | ac+1,x0,ad,aa=>if aa<(x0.length:Int) then (if (0:Int)≤aa∧aa<(x0.length:Int) then ((Ks.f (rd x0 aa)).bind fun ae=>(if ae.lo≤ad then (Zu.j1 (Zu.l1 ac x0) aa ae true) else (if ae.hi<ae.lo then (Zu.j1 (Zu.l1 ac x0) aa ae true) else (if 1114111<ae.hi then (Zu.j1 (Zu.l1 ac x0) aa ae true) else ((Zaa.f (rd x0 aa)).bind fun al=>(Zu.j1 (Zu.l1 ac x0) aa ae (!al))))))) else none) else (some (-1))
def Zu.f (x0:List Chs):Option Int:=if 65536<(x0.length:Int) then (some 65536) else (Zu.l1 K0 x0 (-1) 0)
theorem Zu.c (hs:St w0 ρ (Γ) w) {v0:Value} {x0:List Chs} (h0:SlR Kz ρ v0 x0) {r:Int} (H:Zu.f x0=some r):Zq Tryz.prog 100 [v0,.func (.func 66) #[] #[],.func (.func 90) #[] #[]] w (fun v w'=>v=.int .i64 r∧St w0 ρ Γ w'):=by
 rw [Zu.f] at H
 refine Et Tryz.func100 Tryz.ntmps100 rfl<|Wr fun bv a8=>As rfl<|Ox a8<|Zi fun bw a9=>Wr fun bx ba=>Mv rfl<|O_y rfl (Yx Zfs h0 rfl)<|Ogt rfl<|Ox ba<|Xa rfl (fun aw=>?_) (fun aw=>?_)
 rw [if_pos aw] at H
 refine Wr fun bz bb=>As rfl<|Ox bb<|Zm ?_
 obtain rfl:=Z4 H
 exact r1 rfl ⟨rfl,hs⟩
 rw [if_neg aw] at H
 refine Wx a9<|Wr fun b0 bc=>As rfl<|Ox bc<|Zi fun b1 bd=>Wr fun b2 be=>Mv rfl<|O_y rfl (Yx Zfs h0 rfl)<|Mv rfl<|Ox be<|Zl fun b3 bf b4=>Xb (σ:=Nat×Int×Int×Hp) (fun (ac,ad,aa,ah)=>[(1,.func (.func 66) #[] #[]),(2,.func (.func 90) #[] #[]),(7,.int .i32 ad),(14,v0),(15,.int .i64 (x0.length:Int)),(16,.int .i64 aa)]) (fun (ac,ad,aa,ah) w=>Zu.l1 ac x0 ad aa=some r∧Le ρ ah∧St w0 ah (Γ) w) (fun s=>s.1) (K0,(-1),0,ρ) sbn (Ai H (Ai (Le.rfl' _) hs)) ?_
 rintro ⟨ac,ad,aa,ah⟩ w b5 ⟨H,af,hs⟩ am
 show W _ _ _ _ _ _ [(1,.func (.func 66) #[] #[]),(2,.func (.func 90) #[] #[]),(7,.int .i32 ad),(14,v0),(15,.int .i64 (x0.length:Int)),(16,.int .i64 aa)] w
 cases ac with
 | zero=>rw [Zu.l1] at H;cases H
 | succ ac=>
 rw [Zu.l1] at H
 refine Wr fun b6 bg=>Ols rfl<|Ox bg<|Zi fun b7 bh=>Xa rfl (fun ax=>?_) (fun ax=>?_)
 rw [if_pos ax] at H
 refine Wx bh<|Zi fun b8 bi=>Zl fun b9 ca cb=>Wr fun cc bj=>Mv rfl ?_
 obtain ⟨a7,H⟩:=gd H
 obtain ⟨cd,ce,bk,bl⟩:=(h0.mono af).ix Zep a7.1 a7.2
 obtain ⟨_,⟨bm,rfl,ay⟩,bn⟩:=bk
 refine O_y rfl (bl rfl rfl)<|O_y rfl (Q0 Zb1 Zap rfl rfl (fun j u hu=>hs.see (bn j u hu)))<|Y6 Zh1 hs rfl (fun bo w hs=>As rfl<|Ye (i:=0) Zap hs rfl rfl rfl rfl rfl (Zb rfl (Zb rfl (Zb ay.one Ym))) (fun w hs=>Ox bj<|Wr fun cf bp=>Mv rfl<|O_y rfl (Xl (i:=0) Zb1 Zap hs rfl rfl rfl rfl) ?_))
 obtain ⟨ae,az,H⟩:=bnd H
 refine Xs rfl rfl rfl (Ks.c hs ⟨_,rfl,ay⟩ az) (fun cg w hpost=>?_)
 obtain ⟨ar,bq,rfl,ag,hs,a0⟩:=hpost
 have a1:=a0
 obtain rfl:=a1
 refine Y6 Za5 hs rfl (fun au w hs=>Ye (i:=0) Hv hs rfl rfl rfl rfl rfl (Zb rfl (Zb rfl Ym)) (fun w hs=>Ox bp<|W.weak [(1,_),(2,_),(7,_),(8,_),(9,_),(10,_),(14,_),(15,_),(16,_)] sbn ?_))
 refine Zi fun br a2=>Yt fun a3 a4 ai=>?_
 have aj:∀ (ab:Bool) (w:World),Zu.j1 (Zu.l1 ac x0) aa ae ab=some r→St w0 ar ((.box au 129 ([.int .i32 ae.lo,.int .i32 ae.hi]))::(.box bo 110 ([.int .i32 ((rd x0 aa).lo),.int .i32 ((rd x0 aa).hi),bm]))::Γ) w→a3 [(1,.func (.func 66) #[] #[]),(2,.func (.func 90) #[] #[]),(8,.int .i64 aa),(10,.pointer (some ⟨au,0,none⟩)),(14,v0),(15,.int .i64 (x0.length:Int)),(16,.int .i64 aa),(45,.bool ab)] w:=by
  intro ab w H hs
  rw [Zu.j1] at H
  refine a4 _ _<|Xh rfl (fun an=>?_) (fun an=>?_)
  rw [if_pos an] at H
  refine Wr fun bs a5=>Mv rfl<|As rfl<|Ox a5<|Zm ?_
  obtain rfl:=Z4 H
  exact r1 rfl ⟨rfl,((hs.sub (ssk (ssk ssr))).less (af.trans ag))⟩
  rw [if_neg (bft an)] at H
  refine Wx a2<|Zc<|Ofd Vy rfl<|Obx 0 Xn hs rfl<|As rfl<|Ox bi<|Zc<|Oad rfl<|Mv rfl<|Zd (am (ac,ae.hi,(i64.wrap (aa+1)),ar) _ _ sbn (Ai H (Ai (af.trans ag) (hs.sub (ssk (ssk ssr))))) (Nat.lt_succ_self _))
 refine Zc<|Ofd U6 rfl<|Obx 0 Xn hs rfl<|Mv rfl<|Ole rfl<|Mv rfl<|X4 (dj:=28) rfl (fun ao=>?_) (fun ao=>?_)
 rw [if_pos ao] at H
 refine On rfl<|On rfl<|On rfl<|On rfl<|On rfl<|Opk rfl<|Mv rfl<|On rfl<|On rfl<|On rfl<|Opk rfl<|Mv rfl<|On rfl<|On rfl ?_
 refine On rfl<|On rfl<|Opk rfl<|Zd (ai _ _ _ sbn (aj true _ H hs))
 rw [if_neg ao] at H
 refine Oe rfl<|Ofd Vy rfl<|Oe rfl<|Obx 0 Xn hs rfl<|Oe rfl<|Ofd U6 rfl<|Oe rfl<|Obx 0 Xn hs rfl<|Oe rfl<|Ols rfl<|Opk rfl<|Mv rfl<|X4 (dj:=35) rfl (fun ap=>?_) (fun ap=>?_)
 rw [if_pos ap] at H
 refine On rfl<|On rfl<|On rfl<|Opk rfl<|Mv rfl<|On rfl<|On rfl<|On rfl<|On rfl<|Opk rfl<|Zd (ai _ _ _ sbn (aj true _ H hs))
 rw [if_neg ap] at H
 refine Oe rfl<|Ofd Vy rfl<|Oe rfl<|Obx 0 Xn hs rfl<|Oe rfl<|Ogt rfl<|Opk rfl<|Mv rfl<|X4 (dj:=40) rfl (fun aq=>?_) (fun aq=>?_)
 rw [if_pos aq] at H
 refine On rfl<|On rfl<|On rfl<|On rfl<|Opk rfl<|Zd (ai _ _ _ sbn (aj true _ H hs))
 rw [if_neg aq] at H
 refine Oe rfl<|Mv rfl<|Oe rfl<|O_y rfl (Xl (i:=1) Zb1 Zap hs rfl rfl rfl rfl)<|Oe rfl ?_
 obtain ⟨al,av,H⟩:=bnd H
 refine Xs rfl rfl rfl (Zaa.c hs ⟨_,rfl,(ay.mono ag)⟩ av) (fun bt w hpost=>?_)
 obtain ⟨rfl,hs⟩:=hpost
 refine Oe rfl<|Ont rfl<|Opk rfl<|Zd (ai _ _ _ sbn (aj (!al) _ H hs))
 rw [if_neg ax] at H
 refine Y5 (bf _ _ (bd _ _<|Wr fun bu a6=>As rfl<|Ox a6<|Zm ?_))
 obtain rfl:=Z4 H
 exact r1 rfl ⟨rfl,(hs.less af)⟩

def Uw.f (y0_0:List ByteArray) (y0_1:List Val) (y0_2:List Chs) (y0_3:List Val) (y0_4:List Chs) (y0_5:List Spn) (y0_6 y0_7:List Val) (y0_8:List Spn) (y0_9:List Val) (y0_10:List Chs):Option Int:=(Zu.f y0_10).bind fun ab=>(some ab)
theorem Uw.c {pb0:Nat} {w0_0:Value} {y0_0:List ByteArray} {w0_1:Value} {y0_1:List Val} {w0_2:Value} {y0_2:List Chs} {w0_3:Value} {y0_3:List Val} {w0_4:Value} {y0_4:List Chs} {w0_5:Value} {y0_5:List Spn} {w0_6:Value} {y0_6:List Val} {w0_7:Value} {y0_7:List Val} {w0_8:Value} {y0_8:List Spn} {w0_9:Value} {y0_9:List Val} {w0_10:Value} {y0_10:List Chs} {pb1:Nat} (hs:St w0 ρ ((.box pb0 27 ([w0_0,w0_1,w0_2,w0_3,w0_4,w0_5,w0_6,w0_7,w0_8,w0_9,w0_10]))::(.box pb1 135 ([.func (.func 90) #[] #[]]))::Γ) w) (g0_0:SlR Rep.str ρ w0_0 y0_0) (g0_1:SlR Qb ρ w0_1 y0_1) (g0_2:SlR Kz ρ w0_2 y0_2) (g0_3:SlR Qb ρ w0_3 y0_3) (g0_4:SlR Kz ρ w0_4 y0_4) (g0_5:SlR Kj ρ w0_5 y0_5) (g0_6:SlR Qb ρ w0_6 y0_6) (g0_7:SlR Qb ρ w0_7 y0_7) (g0_8:SlR Kj ρ w0_8 y0_8) (g0_9:SlR Qb ρ w0_9 y0_9) (g0_10:SlR Kz ρ w0_10 y0_10) {r:Int} (H:Uw.f y0_0 y0_1 y0_2 y0_3 y0_4 y0_5 y0_6 y0_7 y0_8 y0_9 y0_10=some r):Zq Tryz.prog 111 [.pointer (some ⟨pb0,0,none⟩),.pointer (some ⟨pb1,0,none⟩)] w (fun v w'=>v=.int .i64 r∧St w0 ρ ((.box pb0 27 ([w0_0,w0_1,w0_2,w0_3,w0_4,w0_5,w0_6,w0_7,w0_8,w0_9,w0_10]))::(.box pb1 135 ([.func (.func 90) #[] #[]]))::Γ) w'):=by
 rw [Uw.f] at H
 refine Et Tryz.func111 Tryz.ntmps111 rfl<|Wr fun ae ac=>As rfl<|Ox ac<|Wr fun af ad=>Ofd Zir rfl<|Obx 0 Zfe hs rfl<|Obx 1 Zzq hs rfl ?_
 obtain ⟨ab,aa,H⟩:=bnd H
 refine Oc rfl (Zu.c hs g0_10 aa) (fun ag w hpost=>?_)
 obtain ⟨rfl,hs⟩:=hpost
 refine As rfl<|Ox ad<|Zm ?_
 obtain rfl:=Z4 H
 exact r1 rfl ⟨rfl,hs⟩

def Zv.j1 (ah:(List (Int×Int))→Int→Int→Option (Int×(List (Int×Int)))) (ad aa:Int) (ac:List (Int×Int)) (ae:Int):Option (Int×(List (Int×Int))):=if ae=0 then (some (0,ac)) else (ah ac (i64.wrap (ad+ae)) (i64.wrap (aa+1)))
def Zv.l1:Nat→(Int→List Chs→(List (Int×Int))→(List (Int×Int))→Option (Int×(List (Int×Int))))→List Chs→(List (Int×Int))→Int→(List (Int×Int))→Int→Int→Option (Int×(List (Int×Int)))
  | 0,_,_,_,_,_,_,_=>none
  | af+1,rec,y0_0,y1,x1,ab,ad,aa=>if aa<(((rd y0_0 x1).is_).length:Int) then (if (0:Int)≤aa∧aa<(((rd y0_0 x1).is_).length:Int) then (if ((Vw y1 (rd ((rd y0_0 x1).is_) aa)).isSome)=true then ((rec ((Vw y1 (rd ((rd y0_0 x1).is_) aa)).getD 0) y0_0 y1 ab).bind fun ag=>(Zv.j1 (Zv.l1 af rec y0_0 y1 x1) ad aa ag.2 ag.1)) else (Zv.j1 (Zv.l1 af rec y0_0 y1 x1) ad aa ab 1)) else none) else (if 18<ad then (some (0,ab)) else (some (ad,H1 ab x1 ad)))
def Zv.b (rec:Int→List Chs→(List (Int×Int))→(List (Int×Int))→Option (Int×(List (Int×Int)))) (x1:Int) (y0_0:List Chs) (y1:List (Int×Int)) (y2:List (Int×Int)):Option (Int×(List (Int×Int))):=if ((Vw y2 x1).isSome)=true then (some ((Vw y2 x1).getD 0,y2)) else (if (0:Int)≤x1∧x1<(y0_0.length:Int) then (Zv.l1 K0 rec y0_0 y1 x1 (H1 y2 x1 0) 0 0) else none)
def Zv.f:Nat→Int→List Chs→(List (Int×Int))→(List (Int×Int))→Option (Int×(List (Int×Int)))
  | 0,_,_,_,_=>none
  | k+1,x1,y0_0,y1,y2=>Zv.b (Zv.f k) x1 y0_0 y1 y2
def Zv.Spec (rec:Int→List Chs→(List (Int×Int))→(List (Int×Int))→Option (Int×(List (Int×Int)))):Prop:=∀ {w0 w:World} {ρ:Hp} {Γ:List Kd} {pb0:Nat} {w0_0:Value} {y0_0:List Chs} {pm1:Nat} {y1:List (Int×Int)} {pm2:Nat} {y2:List (Int×Int)} (hs:St w0 ρ ((.box pb0 184 ([w0_0,.map (some pm1),.map (some pm2)]))::(.obj pm1 (X7 (Uq.int Za8).enc (vs (Value.int .i64) y1)))::(.obj pm2 (X7 (Uq.int un3).enc (vs (Value.int .i64) y2)))::Γ) w) {x1:Int} (g0_0:SlR Kz ρ w0_0 y0_0) {r:Int×(List (Int×Int))},rec x1 y0_0 y1 y2=some r→Zq Tryz.prog 149 [.pointer (some ⟨pb0,0,none⟩),.int .i64 x1] w (fun v w'=>v=.int .i64 r.1∧St w0 ρ ((.box pb0 184 ([w0_0,.map (some pm1),.map (some pm2)]))::(.obj pm1 (X7 (Uq.int Za8).enc (vs (Value.int .i64) y1)))::(.obj pm2 (X7 (Uq.int un3).enc (vs (Value.int .i64) r.2)))::Γ) w')
theorem Zv.cb (rec:Int→List Chs→(List (Int×Int))→(List (Int×Int))→Option (Int×(List (Int×Int)))) (hrec:Zv.Spec rec) {w0 w:World} {ρ:Hp} {Γ:List Kd} {pb0:Nat} {w0_0:Value} {y0_0:List Chs} {pm1:Nat} {y1:List (Int×Int)} {pm2:Nat} {y2:List (Int×Int)} (hs:St w0 ρ ((.box pb0 184 ([w0_0,.map (some pm1),.map (some pm2)]))::(.obj pm1 (X7 (Uq.int Za8).enc (vs (Value.int .i64) y1)))::(.obj pm2 (X7 (Uq.int un3).enc (vs (Value.int .i64) y2)))::Γ) w) {x1:Int} (g0_0:SlR Kz ρ w0_0 y0_0) {r:Int×(List (Int×Int))} (H:Zv.b rec x1 y0_0 y1 y2=some r):Zq Tryz.prog 149 [.pointer (some ⟨pb0,0,none⟩),.int .i64 x1] w (fun v w'=>v=.int .i64 r.1∧St w0 ρ ((.box pb0 184 ([w0_0,.map (some pm1),.map (some pm2)]))::(.obj pm1 (X7 (Uq.int Za8).enc (vs (Value.int .i64) y1)))::(.obj pm2 (X7 (Uq.int un3).enc (vs (Value.int .i64) r.2)))::Γ) w'):=by
 rw [Zv.b] at H
 refine Et Tryz.func149 Tryz.ntmps149 rfl<|Wr fun b6 bc=>As rfl<|Ox bc<|Zi fun b7 bd=>Wr fun b8 be=>Mv rfl<|Onp rfl<|Ofd Zm4 rfl<|Obx 0 Zvv hs rfl<|Mv rfl<|O_y rfl (Zho (i:=2) (m:=y2) (x:=x1) (E:=(Value.int .i64)) Zv3 (Uq.int un3) trivial (fun _ _=>trivial) zv3 hs rfl rfl rfl) ?_
 refine Mv rfl<|Oxt rfl<|Oxt rfl<|As rfl<|As rfl<|Ox be<|Wr fun b9 bf=>Mv rfl<|Ox bf<|W.weak [(0,_),(1,_),(5,_),(22,_)] (T4 rfl)<|Xh rfl (fun ap=>?_) (fun ap=>?_)
 rw [if_pos ap] at H
 refine Wr fun ca bg=>Mv rfl<|As rfl<|Ox bg<|Zm ?_
 obtain rfl:=Z4 H
 exact r1 rfl ⟨rfl,hs⟩
 rw [if_neg (bft ap)] at H
 refine Wx bd<|Wr fun cc bh=>Mv rfl<|Onp rfl<|Ofd Zm4 rfl<|Obx 0 Zvv hs rfl<|Mv rfl<|Zdg (i:=2) (m:=y2) (x:=x1) (v:=0) (E:=(Value.int .i64)) Zv3 (Uq.int un3) trivial (fun _ _=>trivial) hs rfl rfl rfl rfl (fun w hs=>Ox bh<|Wr fun cd bi=>As rfl<|Zd (bi _ _ ?_))
 refine Zi fun ce bj=>Wr fun cf bk=>Mv rfl<|Onp rfl<|Ofd Zw2 rfl<|Obx 0 Zfe hs rfl<|Mv rfl ?_
 obtain ⟨a9,H⟩:=gd H
 obtain ⟨cg,ch,bl,bm⟩:=g0_0.ix Zep a9.1 a9.2
 obtain ⟨_,⟨aq,rfl,ba⟩,bn⟩:=bl
 refine O_y rfl (bm rfl rfl)<|Ofd Zac rfl<|O_y rfl (Xq Za1 rfl (hs.see (bn 2 _ rfl)))<|O_y rfl (Yx Ua ba rfl)<|Mv rfl<|Ox bk<|W.weak [(0,_),(1,_),(7,_),(36,_),(37,_),(38,_)] sbn ?_
 refine Zl fun ci bo cj=>Xb (σ:=Nat×(List (Int×Int))×Int×Int) (fun (af,ab,ad,aa)=>[(0,.pointer (some ⟨pb0,0,none⟩)),(1,.int .i64 x1),(7,.int .i64 ad),(36,aq),(37,.int .i64 (((rd y0_0 x1).is_).length:Int)),(38,.int .i64 aa)]) (fun (af,ab,ad,aa) w=>Zv.l1 af rec y0_0 y1 x1 ab ad aa=some r∧St w0 ρ ((.box pb0 184 ([w0_0,.map (some pm1),.map (some pm2)]))::(.obj pm1 (X7 (Uq.int Za8).enc (vs (Value.int .i64) y1)))::(.obj pm2 (X7 (Uq.int un3).enc (vs (Value.int .i64) ab)))::Γ) w) (fun s=>s.1) (K0,(H1 y2 x1 0),0,0) sbn (Ai H hs) ?_
 rintro ⟨af,ab,ad,aa⟩ w ck ⟨H,hs⟩ ai
 show W _ _ _ _ _ _ [(0,.pointer (some ⟨pb0,0,none⟩)),(1,.int .i64 x1),(7,.int .i64 ad),(36,aq),(37,.int .i64 (((rd y0_0 x1).is_).length:Int)),(38,.int .i64 aa)] w
 cases af with
 | zero=>rw [Zv.l1] at H;cases H
 | succ af=>
 rw [Zv.l1] at H
 refine Wr fun cl bp=>Ols rfl<|Ox bp<|Zi fun cm bq=>Xa rfl (fun ar=>?_) (fun ar=>?_)
 rw [if_pos ar] at H
 refine Wx bq<|Zi fun cn br=>Zl fun co cp cq=>Zi fun cr bs=>Zc ?_
 obtain ⟨bb,H⟩:=gd H
 obtain ⟨cs,ct,au,av⟩:=ba.ix Kk bb.1 bb.2
 refine O_y rfl (av rfl rfl)<|O_y rfl (Xq Xn rfl (hs.see au.int))<|As rfl<|Ox bs<|Wr fun bt aw=>As rfl<|Ox aw<|Yt fun ax ay am=>?_
 have an:∀ (ac:List (Int×Int)) (ae:Int) (w:World),Zv.j1 (Zv.l1 af rec y0_0 y1 x1) ad aa ac ae=some r→St w0 ρ ((.box pb0 184 ([w0_0,.map (some pm1),.map (some pm2)]))::(.obj pm1 (X7 (Uq.int Za8).enc (vs (Value.int .i64) y1)))::(.obj pm2 (X7 (Uq.int un3).enc (vs (Value.int .i64) ac)))::Γ) w→ax [(0,.pointer (some ⟨pb0,0,none⟩)),(1,.int .i64 x1),(7,.int .i64 ad),(10,.int .i64 ae),(36,aq),(37,.int .i64 (((rd y0_0 x1).is_).length:Int)),(38,.int .i64 aa)] w:=by
  intro ac ae w H hs
  rw [Zv.j1] at H
  refine ay _ _<|Zi fun bu az=>Wr fun bv a0=>Mv rfl<|Oeq rfl<|Ox a0<|Xa rfl (fun aj=>?_) (fun aj=>?_)
  rw [if_pos aj] at H
  refine Wr fun bw a1=>As rfl<|Ox a1<|Zm ?_
  obtain rfl:=Z4 H
  exact r1 rfl ⟨rfl,hs⟩
  rw [if_neg aj] at H
  refine Wx az<|Zc<|Mv rfl<|Mv rfl<|Oad rfl<|As rfl<|Ox br<|Zc<|Oad rfl<|Mv rfl<|Zd (ai (af,ac,(i64.wrap (ad+ae)),(i64.wrap (aa+1))) _ _ sbn (Ai H hs) (Nat.lt_succ_self _))
 refine Wr fun bx a2=>Mv rfl<|Onp rfl<|Ofd Zrk rfl<|Obx 0 Zyh hs rfl<|Mv rfl<|O_y rfl (Zho (i:=1) (m:=y1) (x:=rd ((rd y0_0 x1).is_) aa) (E:=(Value.int .i64)) Zyq (Uq.int Za8) trivial (fun _ _=>trivial) zv3 hs rfl rfl rfl)<|Mv rfl<|Oxt rfl<|Oxt rfl<|As rfl<|As rfl<|Zd (a2 _ _ ?_)
 refine W.weak [(0,_),(1,_),(7,_),(10,_),(11,_),(12,_),(36,_),(37,_),(38,_)] sbn ?_
 refine Wr fun bz a3=>Mv rfl<|Ox a3<|Xh rfl (fun ak=>?_) (fun ak=>?_)
 rw [if_pos ak] at H
 refine Zc<|Mv rfl<|Mv rfl ?_
 have hs:=hs.front 2 rfl
 have hs:=hs.front 2 rfl
 have hs:=hs.front 2 rfl
 obtain ⟨ag,ao,H⟩:=bnd H
 refine Oc rfl (hrec hs g0_0 ao) (fun b0 w hpost=>?_)
 obtain ⟨rfl,hs⟩:=hpost
 have hs:=hs.sink 2
 have hs:=hs.sink 2
 have hs:=hs.sink 2
 refine As rfl<|Zd (am _ _ _ sbn (an ag.2 ag.1 _ H hs))
 rw [if_neg (bft ak)] at H
 exact Ui (am _ _ _ sbn (an ab 1 _ H hs))
 rw [if_neg ar] at H
 refine Y5 (bo _ _ (bj _ _<|Zi fun b1 a4=>Wr fun b2 a5=>Mv rfl<|Ogt rfl<|Ox a5<|Xa rfl (fun al=>?_) (fun al=>?_)))
 rw [if_pos al] at H
 refine Wr fun b3 a6=>As rfl<|Ox a6<|Zm ?_
 obtain rfl:=Z4 H
 exact r1 rfl ⟨rfl,hs⟩
 rw [if_neg al] at H
 refine Wx a4<|Wr fun b4 a7=>Mv rfl<|Onp rfl<|Ofd Zm4 rfl<|Obx 0 Zvv hs rfl<|Mv rfl<|Mv rfl<|Zdg (i:=2) (m:=ab) (x:=x1) (v:=ad) (E:=(Value.int .i64)) Zv3 (Uq.int un3) trivial (fun _ _=>trivial) hs rfl rfl rfl rfl (fun w hs=>Ox a7<|W.weak [(7,_)] (S1 rfl)<|Zi fun b5 a8=>Zc ?_)
 refine Mv rfl<|As rfl<|Ox a8<|Zm ?_
 obtain rfl:=Z4 H
 exact r1 rfl ⟨rfl,hs⟩
theorem Zv.c (k:Nat):Zv.Spec (Zv.f k):=by
 induction k with
 | zero=>intro w0 w ρ Γ pb0 w0_0 y0_0 pm1 y1 pm2 y2 hs x1 g0_0 r H;exact nomatch (show (none:Option _)=some _ from H)
 | succ k ih=>intro w0 w ρ Γ pb0 w0_0 y0_0 pm1 y1 pm2 y2 hs x1 g0_0 r H;exact Zv.cb (Zv.f k) ih hs g0_0 H

def Xx.j1 (an:(List (Vector Int 2×Bool))→(List (Int×Int))→Int→Option Int) (aa:Int) (ae:List (Vector Int 2×Bool)) (af:List (Int×Int)):Option Int:=an ae af (i64.wrap (aa+1))
def Xx.l1:Nat→List Chs→(List (Int×Int))→(List (Vector Int 2×Bool))→(List (Int×Int))→Int→Option Int
  | 0,_,_,_,_,_=>none
  | ah+1,x0,ab,ac,ag,aa=>if aa<(x0.length:Int) then (if (0:Int)≤aa∧aa<(x0.length:Int) then ((Zv.f K0 aa x0 ab ag).bind fun aj=>(if aj.1=0 then (some aa) else (if (((rd x0 aa).is_).length:Int)=2 then (if (0:Int)≤0∧0<(((rd x0 aa).is_).length:Int) then (if (0:Int)≤1∧1<(((rd x0 aa).is_).length:Int) then (if ((Vw ac (#v[rd ((rd x0 aa).is_) 0,rd ((rd x0 aa).is_) 1])).getD false)=true then (some aa) else (Xx.j1 (Xx.l1 ah x0 ab) aa (H1 ac (#v[rd ((rd x0 aa).is_) 0,rd ((rd x0 aa).is_) 1]) true) aj.2)) else none) else none) else (Xx.j1 (Xx.l1 ah x0 ab) aa ac aj.2)))) else none) else (some (-1))
def Xx.l2:Nat→List Chs→(List (Int×Int))→Int→Option Int
  | 0,_,_,_=>none
  | ai+1,x0,ab,ad=>if ad<(x0.length:Int) then (if (0:Int)≤ad∧ad<(x0.length:Int) then ((Xx.l2 ai x0) (H1 ab ((rd x0 ad).lo) ad) (i64.wrap (ad+1))) else none) else (Xx.l1 K0 x0 ab ([]:List (Vector Int 2×Bool)) ([]:List (Int×Int)) 0)
def Xx.f (x0:List Chs):Option Int:=Xx.l2 K0 x0 ([]:List (Int×Int)) 0
theorem Xx.c (hs:St w0 ρ (Γ) w) {v0:Value} {x0:List Chs} (h0:SlR Kz ρ v0 x0) {r:Int} (H:Xx.f x0=some r):Zq Tryz.prog 113 [v0] w (fun v w'=>v=.int .i64 r∧St w0 ρ Γ w'):=by
 rw [Xx.f] at H
 refine Et Tryz.func113 Tryz.ntmps113 rfl<|Wr fun di bx=>As rfl<|Ox bx<|Wr fun dj bz=>Mv rfl<|Hh (Uq.int Za8).enc (Value.int .i64) hs rfl (fun ak w hs=>Hh (Uq.int un3).enc (Value.int .i64) hs rfl (fun al w hs=>O_y rfl (Qg (cs:=[v0,.map (some ak),.map (some al)]) Zzk Z0g ((Z3.cons rfl h0.cellsL (Z3.cons rfl rfl (Z3.cons rfl rfl Z3.nil)))) Zzi (by kernel_rfl))<|Vn (cs:=[v0,.map (some ak),.map (some al)]) hs rfl rfl (fun am w hs=>As rfl<|Zd (bz _ _ ?_))))
 refine Zi fun dk b0=>Wr fun dl b1=>Mv rfl<|O_y rfl (Yx Zfs h0 rfl)<|Mv rfl<|Ox b1<|Zl fun dm b2 dn=>Xb (σ:=Nat×(List (Int×Int))×Int) (fun (ai,ab,ad)=>[(0,v0),(3,.pointer (some ⟨am,0,none⟩)),(15,v0),(16,.int .i64 (x0.length:Int)),(17,.int .i64 ad)]) (fun (ai,ab,ad) w=>Xx.l2 ai x0 ab ad=some r∧St w0 ρ ((.box am 184 ([v0,.map (some ak),.map (some al)]))::(.obj al (X7 (Uq.int un3).enc (vs (Value.int .i64) ([]:List (Int×Int)))))::(.obj ak (X7 (Uq.int Za8).enc (vs (Value.int .i64) ab)))::Γ) w) (fun s=>s.1) (K0,([]:List (Int×Int)),0) sbn (Ai H hs) ?_
 rintro ⟨ai,ab,ad⟩ w dp ⟨H,hs⟩ aq
 show W _ _ _ _ _ _ [(0,v0),(3,.pointer (some ⟨am,0,none⟩)),(15,v0),(16,.int .i64 (x0.length:Int)),(17,.int .i64 ad)] w
 cases ai with
 | zero=>rw [Xx.l2] at H;cases H
 | succ ai=>
 rw [Xx.l2] at H
 refine Wr fun dq b3=>Ols rfl<|Ox b3<|Zi fun dr b4=>Xa rfl (fun a4=>?_) (fun a4=>?_)
 rw [if_pos a4] at H
 refine Wx b4<|Zi fun ds b5=>Zl fun dt du dv=>Wr fun dw b6=>Mv rfl ?_
 obtain ⟨bv,H⟩:=gd H
 obtain ⟨dx,dy,b7,b8⟩:=h0.ix Zep bv.1 bv.2
 obtain ⟨_,⟨b9,rfl,ca⟩,cb⟩:=b7
 refine O_y rfl (b8 rfl rfl)<|O_y rfl (Q0 Zb1 Zap rfl rfl (fun j u hu=>hs.see (cb j u hu)))<|Y6 Zh1 hs rfl (fun cc w hs=>As rfl<|Ye (i:=0) Zap hs rfl rfl rfl rfl rfl (Zb rfl (Zb rfl (Zb ca.one Ym))) (fun w hs=>Ox b6<|Qt 8 [0,1,2,4,0,16,0,127] [124,120,112,112,79,79,63,0] [0,1,3,7,0,16,0,127] [7] (fun w=>St w0 ρ ((.box cc 110 ([.int .i32 ((rd x0 ad).lo),.int .i32 ((rd x0 ad).hi),b9]))::(.box am 184 ([v0,.map (some ak),.map (some al)]))::(.obj al (X7 (Uq.int un3).enc (vs (Value.int .i64) ([]:List (Int×Int)))))::(.obj ak (X7 (Uq.int Za8).enc (vs (Value.int .i64) ab)))::Γ) w) Vr (by kernel_rfl) (fun sh=>?_)))
 have hs:=hs.drew
 refine Fm 0 sh rfl<|Fp 1 sh rfl (fun w=>Vh rfl)<|Fp 2 sh rfl (fun w=>Zw Zrk rfl)<|Fy 3 sh rfl hs (fun w hs=>Yb 1 Zyh hs rfl rfl rfl)<|Fp 4 sh rfl (fun w=>Zw Zb3 rfl)<|Fy 5 sh rfl hs (fun w hs=>Yb 0 Xn hs rfl rfl rfl)<|Fm 6 sh rfl<|F1 7 sh rfl (fun dz cd=>Zdg (i:=3) (m:=ab) (x:=(rd x0 ad).lo) (v:=ad) (E:=(Value.int .i64)) Zyq (Uq.int Za8) trivial (fun _ _=>trivial) hs rfl rfl rfl rfl (fun w hs=>Zd (cd _ _ (fun h _=>absurd h (by decide))<|FE sh (b5 _ _<|W.weak [(0,_),(3,_),(15,_),(16,_),(17,_)] sbn ?_))))
 refine Zc<|Oad rfl<|Mv rfl<|Zd (aq (ai,(H1 ab ((rd x0 ad).lo) ad),(i64.wrap (ad+1))) _ _ sbn (Ai H (hs.sub (ssk (ssc (ssc (ssc ssr)))))) (Nat.lt_succ_self _))
 rw [if_neg a4] at H
 refine Y5 (b2 _ _ (b0 _ _<|Wr fun ea ce=>Hh Uo.enc Value.bool hs rfl (fun ax w hs=>As rfl<|Ox ce<|Zi fun eb cf=>Wr fun ec cg=>Mv rfl<|O_y rfl (Yx Zfs h0 rfl)<|Mv rfl<|Ox cg<|Zl fun ed a5 ch=>?_)))
 refine Xb (σ:=Nat×(List (Vector Int 2×Bool))×(List (Int×Int))×Int) (fun (ah,ac,ag,aa)=>[(3,.pointer (some ⟨am,0,none⟩)),(6,.map (some ax)),(31,v0),(32,.int .i64 (x0.length:Int)),(33,.int .i64 aa)]) (fun (ah,ac,ag,aa) w=>Xx.l1 ah x0 ab ac ag aa=some r∧St w0 ρ ((.obj ax (X7 Uo.enc (vs Value.bool ac)))::(.box am 184 ([v0,.map (some ak),.map (some al)]))::(.obj al (X7 (Uq.int un3).enc (vs (Value.int .i64) ag)))::(.obj ak (X7 (Uq.int Za8).enc (vs (Value.int .i64) ab)))::Γ) w) (fun s=>s.1) (K0,([]:List (Vector Int 2×Bool)),([]:List (Int×Int)),0) sbn (Ai H hs) ?_
 rintro ⟨ah,ac,ag,aa⟩ w ci ⟨H,hs⟩ ao
 show W _ _ _ _ _ _ [(3,.pointer (some ⟨am,0,none⟩)),(6,.map (some ax)),(31,v0),(32,.int .i64 (x0.length:Int)),(33,.int .i64 aa)] w
 cases ah with
 | zero=>rw [Xx.l1] at H;cases H
 | succ ah=>
 rw [Xx.l1] at H
 refine Wr fun cj a6=>Ols rfl<|Ox a6<|Zi fun ck a7=>Xa rfl (fun ar=>?_) (fun ar=>?_)
 rw [if_pos ar] at H
 refine Wx a7<|Yt fun a8 a9 ay=>?_
 have az:∀ (ae:List (Vector Int 2×Bool)) (af:List (Int×Int)) (w:World),Xx.j1 (Xx.l1 ah x0 ab) aa ae af=some r→St w0 ρ ((.obj ax (X7 Uo.enc (vs Value.bool ae)))::(.box am 184 ([v0,.map (some ak),.map (some al)]))::(.obj al (X7 (Uq.int un3).enc (vs (Value.int .i64) af)))::(.obj ak (X7 (Uq.int Za8).enc (vs (Value.int .i64) ab)))::Γ) w→a8 [(3,.pointer (some ⟨am,0,none⟩)),(6,.map (some ax)),(31,v0),(32,.int .i64 (x0.length:Int)),(33,.int .i64 aa)] w:=by
  intro ae af w H hs
  rw [Xx.j1] at H
  refine a9 _ _<|Zc<|Oad rfl<|Mv rfl<|Zd (ao (ah,ae,af,(i64.wrap (aa+1))) _ _ sbn (Ai H hs) (Nat.lt_succ_self _))
 refine Zl fun cl cm cn=>Wr fun co ba=>Mv rfl ?_
 obtain ⟨a0,H⟩:=gd H
 obtain ⟨cp,cq,bb,bc⟩:=h0.ix Zep a0.1 a0.2
 obtain ⟨_,⟨bd,rfl,ap⟩,be⟩:=bb
 refine O_y rfl (bc rfl rfl)<|O_y rfl (Q0 Zb1 Zap rfl rfl (fun j u hu=>hs.see (be j u hu)))<|Y6 Zh1 hs rfl (fun bf w hs=>As rfl<|Ye (i:=0) Zap hs rfl rfl rfl rfl rfl (Zb rfl (Zb rfl (Zb ap.one Ym))) (fun w hs=>Ox ba<|Zi fun cr bg=>Wr fun ct bh=>Mv rfl<|Mv rfl ?_))
 have hs:=hs.front 3 rfl
 have hs:=hs.front 4 rfl
 have hs:=hs.front 4 rfl
 obtain ⟨aj,a1,H⟩:=bnd H
 refine Oc rfl ((Zv.c K0) hs h0 a1) (fun cu w hpost=>?_)
 obtain ⟨rfl,hs⟩:=hpost
 have hs:=hs.sink 4
 have hs:=hs.sink 4
 have hs:=hs.sink 3
 refine Oeq rfl<|Ox bh<|W.weak [(3,_),(6,_),(7,_),(8,_),(31,_),(32,_),(33,_),(41,_)] sbn ?_
 refine Xa rfl (fun au=>?_) (fun au=>?_)
 rw [if_pos au] at H
 refine Wr fun cv bi=>Mv rfl<|As rfl<|Ox bi<|Zm ?_
 obtain rfl:=Z4 H
 exact r1 rfl ⟨rfl,(hs.sub (ssk (ssk (ssk (ssk (ssk ssr))))))⟩
 rw [if_neg au] at H
 refine Wx bg<|Wr fun cw bj=>Ofd Zac rfl<|Obx 0 Za1 hs rfl<|O_y rfl (Yx Ua ap rfl)<|Oeq rfl<|Ox bj<|Xa rfl (fun av=>?_) (fun av=>?_)
 rw [if_pos av] at H
 refine Zi fun cx bk=>Qt 11 [0,1,2,4,0,16,32,64,136,0,1023] [1020,1016,1008,752,975,911,783,527,512,511,0] [0,1,3,7,0,16,48,112,255,0,1023] [10] (fun w=>St w0 ρ ((.box bf 110 ([.int .i32 ((rd x0 aa).lo),.int .i32 ((rd x0 aa).hi),bd]))::(.obj ax (X7 Uo.enc (vs Value.bool ac)))::(.box am 184 ([v0,.map (some ak),.map (some al)]))::(.obj al (X7 (Uq.int un3).enc (vs (Value.int .i64) aj.2)))::(.obj ak (X7 (Uq.int Za8).enc (vs (Value.int .i64) ab)))::Γ) w) Vr (by kernel_rfl) (fun sh=>?_)
 have hs:=hs.drew
 refine Fp 0 sh rfl (fun w=>Zw Zac rfl)<|Fy 1 sh rfl hs (fun w hs=>Yb 0 Za1 hs rfl rfl rfl) ?_
 obtain ⟨a2,H⟩:=gd H
 obtain ⟨cy,cz,bl,bm⟩:=ap.ix Kk a2.1 a2.2
 refine Fp 2 sh rfl (fun w=>bm rfl rfl)<|Fy 3 sh rfl hs (fun w hs=>Xq Xn rfl (hs.see bl.int))<|Fp 4 sh rfl (fun w=>Zw Zac rfl)<|Fy 5 sh rfl hs (fun w hs=>Yb 0 Za1 hs rfl rfl rfl) ?_
 obtain ⟨a3,H⟩:=gd H
 obtain ⟨da,db,bn,bo⟩:=ap.ix Kk a3.1 a3.2
 refine Fp 6 sh rfl (fun w=>bo rfl rfl)<|Fy 7 sh rfl hs (fun w hs=>Xq Xn rfl (hs.see bn.int))<|Fp 8 sh rfl (fun w=>Zfz (xs:=[.tmp 50,.tmp 54]) (zs:=vcs (Value.int .i32) #v[rd ((rd x0 aa).is_) 0,rd ((rd x0 aa).is_) 1]) Zsa Zg3 Zv0 rfl rfl rfl (Zc4 rfl (Zc4 rfl Zni)) rfl)<|F1 9 sh rfl (fun dc bp=>Y6 Zzu hs rfl (fun bw w hs=>Zd (bp _ _ (fun _ _=>(hs.sub (ssk (ssc (ssc (ssc (ssc (ssc ssr))))))))<|F1 10 sh rfl (fun dd bq=>Zfw (j:=0) (u:=#v[rd ((rd x0 aa).is_) 0,rd ((rd x0 aa).is_) 1]) Zv8 (Un .i32) hs rfl rfl rfl (fun w hs=>Zd (bq _ _ (fun h _=>absurd h (by decide))<|FE sh (bk _ _<|W.weak [(3,_),(6,_),(7,_),(9,_),(31,_),(32,_),(33,_)] sbn ?_)))))))
 refine Zi fun de br=>Wr fun df bs=>Mv rfl<|O_y rfl (Zda (j:=0) Zyi Zv8 hs rfl rfl)<|O_y rfl (Ztb (i:=2) (m:=ac) (x:=#v[rd ((rd x0 aa).is_) 0,rd ((rd x0 aa).is_) 1]) (E:=Value.bool) Zx7 Uo trivial (fun _ _=>trivial) zv4 hs rfl rfl rfl)<|Ox bs<|Xh rfl (fun aw=>?_) (fun aw=>?_)
 rw [if_pos aw] at H
 refine Wr fun dg bt=>Mv rfl<|As rfl<|Ox bt<|Zm ?_
 obtain rfl:=Z4 H
 exact r1 rfl ⟨rfl,(hs.sub (ssk (ssk (ssk (ssk (ssk (ssk ssr)))))))⟩
 rw [if_neg (bft aw)] at H
 refine Wx br<|Zc<|Mv rfl<|O_y rfl (Zda (j:=0) Zyi Zv8 hs rfl rfl)<|Zdg (i:=2) (m:=ac) (x:=#v[rd ((rd x0 aa).is_) 0,rd ((rd x0 aa).is_) 1]) (v:=true) (E:=Value.bool) Zx7 Uo trivial (fun _ _=>trivial) hs rfl rfl rfl rfl (fun w hs=>Zd (ay _ _ _ sbn (az (H1 ac (#v[rd ((rd x0 aa).is_) 0,rd ((rd x0 aa).is_) 1]) true) aj.2 _ H (hs.sub (ssk (ssk (ssc (ssc (ssc (ssc ssr))))))))))
 rw [if_neg av] at H
 exact Ui (ay _ _ _ sbn (az ac aj.2 _ H (hs.sub (ssk (ssc (ssc (ssc (ssc ssr))))))))
 rw [if_neg ar] at H
 refine Y5 (a5 _ _ (cf _ _<|Wr fun dh bu=>As rfl<|Ox bu<|Zm ?_))
 obtain rfl:=Z4 H
 exact r1 rfl ⟨rfl,(hs.sub (ssk (ssk (ssk (ssk ssr)))))⟩

def Uu.f (y0_0:List ByteArray) (y0_1:List Val) (y0_2:List Chs) (y0_3:List Val) (y0_4:List Chs) (y0_5:List Spn) (y0_6 y0_7:List Val) (y0_8:List Spn) (y0_9:List Val) (y0_10:List Chs):Option Int:=(Xx.f y0_4).bind fun ab=>(some ab)
theorem Uu.c {pb0:Nat} {w0_0:Value} {y0_0:List ByteArray} {w0_1:Value} {y0_1:List Val} {w0_2:Value} {y0_2:List Chs} {w0_3:Value} {y0_3:List Val} {w0_4:Value} {y0_4:List Chs} {w0_5:Value} {y0_5:List Spn} {w0_6:Value} {y0_6:List Val} {w0_7:Value} {y0_7:List Val} {w0_8:Value} {y0_8:List Spn} {w0_9:Value} {y0_9:List Val} {w0_10:Value} {y0_10:List Chs} (hs:St w0 ρ ((.box pb0 27 ([w0_0,w0_1,w0_2,w0_3,w0_4,w0_5,w0_6,w0_7,w0_8,w0_9,w0_10]))::Γ) w) (g0_0:SlR Rep.str ρ w0_0 y0_0) (g0_1:SlR Qb ρ w0_1 y0_1) (g0_2:SlR Kz ρ w0_2 y0_2) (g0_3:SlR Qb ρ w0_3 y0_3) (g0_4:SlR Kz ρ w0_4 y0_4) (g0_5:SlR Kj ρ w0_5 y0_5) (g0_6:SlR Qb ρ w0_6 y0_6) (g0_7:SlR Qb ρ w0_7 y0_7) (g0_8:SlR Kj ρ w0_8 y0_8) (g0_9:SlR Qb ρ w0_9 y0_9) (g0_10:SlR Kz ρ w0_10 y0_10) {r:Int} (H:Uu.f y0_0 y0_1 y0_2 y0_3 y0_4 y0_5 y0_6 y0_7 y0_8 y0_9 y0_10=some r):Zq Tryz.prog 112 [.pointer (some ⟨pb0,0,none⟩)] w (fun v w'=>v=.int .i64 r∧St w0 ρ ((.box pb0 27 ([w0_0,w0_1,w0_2,w0_3,w0_4,w0_5,w0_6,w0_7,w0_8,w0_9,w0_10]))::Γ) w'):=by
 rw [Uu.f] at H
 refine Et Tryz.func112 Tryz.ntmps112 rfl<|Wr fun ae ac=>As rfl<|Ox ac<|Wr fun af ad=>Ofd Zfp rfl<|Obx 0 Zfe hs rfl ?_
 obtain ⟨ab,aa,H⟩:=bnd H
 refine Oc rfl (Xx.c hs g0_4 aa) (fun ag w hpost=>?_)
 obtain ⟨rfl,hs⟩:=hpost
 refine As rfl<|Ox ad<|Zm ?_
 obtain rfl:=Z4 H
 exact r1 rfl ⟨rfl,hs⟩

end Go.Proofs.YthoicbafdanmkaaGreatDoor
