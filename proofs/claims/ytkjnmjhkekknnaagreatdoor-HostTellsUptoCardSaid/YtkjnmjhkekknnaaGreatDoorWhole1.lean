/- Texts of this repo, merged for the claim: Data, TG0, Hst, Join, TH0, TH1, TH2, PureHA, PureHB, PureHC, PureHD, PureHE, PureHF, PureHG, PureHH. -/
import Derived.Test.YtkjnmjhkekknnaaGreatDoorWhole0
namespace Go.Proofs.YtkjnmjhkekknnaaGreatDoor
section
open Go.RowKit
structure S8 where
 x:Int
 y:Int
 signed:Bool
 code:Int
 deriving Inhabited
structure S9 where
 msg:ByteArray
 addr:Int
 deriving Inhabited
structure S10 where
 kind:Int
 text:ByteArray
 four:Int
 six0:Int
 six1:Int
 six2:Int
 six3:Int
 six4:Int
 six5:Int
 six6:Int
 six7:Int
 deriving Inhabited
def Yv:Rep S10:=⟨11,λρ cs x=>cs=[.int .i64 x.kind,.string x.text,.int .u32 x.four,.int .u16 x.six0,.int .u16 x.six1,.int .u16 x.six2,.int .u16 x.six3,.int .u16 x.six4,.int .u16 x.six5,.int .u16 x.six6,.int .u16 x.six7],λh=>by obtain rfl:=h;rfl,λhle h=>by obtain rfl:=h;exact rfl,λh=>by obtain rfl:=h;exact (Za rfl (Za rfl (Za rfl (Za rfl (Za rfl (Za rfl (Za rfl (Za rfl (Za rfl (Za rfl (Za rfl Yt)))))))))))⟩
structure Val where
 lo:Int
 hi:Int
 n:Int
 deriving Inhabited
def Zay:Rep Val:=⟨3,λρ cs x=>cs=[.int .i32 x.lo,.int .i32 x.hi,.int .i64 x.n],λh=>by obtain rfl:=h;rfl,λhle h=>by obtain rfl:=h;exact rfl,λh=>by obtain rfl:=h;exact (Za rfl (Za rfl (Za rfl Yt)))⟩
structure Chs where
 lo:Int
 hi:Int
 is_:List Int
 deriving Inhabited
def Zcy:Rep Chs:=⟨3,λρ cs x=>∃ v2:Value,cs=[.int .i32 x.lo,.int .i32 x.hi,v2]/\SlR (Rep.int .i32) ρ v2 x.is_,λh=>by obtain ⟨v2,rfl,f0⟩:=h;rfl,λhle h=>by obtain ⟨v2,rfl,f0⟩:=h;exact ⟨v2,rfl,f0.mono hle⟩,λh=>by obtain ⟨v2,rfl,f0⟩:=h;exact (Za rfl (Za rfl (Za f0.one Yt)))⟩
structure Spn where
 lo:Int
 hi:Int
 deriving Inhabited
def Zds:Rep Spn:=⟨2,λρ cs x=>cs=[.int .i32 x.lo,.int .i32 x.hi],λh=>by obtain rfl:=h;rfl,λhle h=>by obtain rfl:=h;exact rfl,λh=>by obtain rfl:=h;exact (Za rfl (Za rfl Yt))⟩
structure Bk where
 names:List ByteArray
 status:List Val
 maps:List Chs
 class_:List Val
 decomp:List Chs
 excl:List Spn
 bidi:List Val
 join:List Val
 marks:List Spn
 script:List Val
 like:List Chs
 deriving Inhabited
structure Tab where
 which:Vector Int 8704
 unlike:List (Vector Int 128)
 plain:List Bool
 deriving Inhabited
def Vk:Rep Tab:=⟨8706,λρ cs x=>∃ v1 v2:Value,cs=[]++(vcs (Value.int .u16) x.which++[v1,v2])/\SlR (Rep.arr (Value.int .u16) (Ya .u16) 128) ρ v1 x.unlike/\SlR Rep.bool ρ v2 x.plain,λh=>by obtain ⟨v1,v2,rfl,f0,f1⟩:=h;simp,λhle h=>by obtain ⟨v1,v2,rfl,f0,f1⟩:=h;exact ⟨v1,v2,rfl,f0.mono hle,f1.mono hle⟩,λh=>by obtain ⟨v1,v2,rfl,f0,f1⟩:=h;exact (Gt Yt (Gt (U5 (Ya .u16) _) (Za f0.one (Za f1.one Yt))))⟩
structure Tbs where
 b:Bk
 status:Option Tab
 class_:Option Tab
 bidi:Option Tab
 join:Option Tab
 script:Option Tab
 excl:Option Tab
 mark:Option Tab
 maps:Option Tab
 decomp:Option Tab
 likes:Option Tab
 pairs:List (Vector Int 2×Int)
 deriving Inhabited
def Zcz:Rep Tbs:=⟨22,λρ cs x=>∃ v0 v1 v2 v3 v4 v5 v6 v7 v8 v9 v10 v11 v12 v13 v14 v15 v16 v17 v18 v19 v20 v21:Value,cs=[v0,v1,v2,v3,v4,v5,v6,v7,v8,v9,v10,v11,v12,v13,v14,v15,v16,v17,v18,v19,v20,v21]/\SlR Rep.str ρ v0 x.b.names/\SlR Zay ρ v1 x.b.status/\SlR Zcy ρ v2 x.b.maps/\SlR Zay ρ v3 x.b.class_/\SlR Zcy ρ v4 x.b.decomp/\SlR Zds ρ v5 x.b.excl/\SlR Zay ρ v6 x.b.bidi/\SlR Zay ρ v7 x.b.join/\SlR Zds ρ v8 x.b.marks/\SlR Zay ρ v9 x.b.script/\SlR Zcy ρ v10 x.b.like/\Qd Vk ρ v11 x.status/\Qd Vk ρ v12 x.class_/\Qd Vk ρ v13 x.bidi/\Qd Vk ρ v14 x.join/\Qd Vk ρ v15 x.script/\Qd Vk ρ v16 x.excl/\Qd Vk ρ v17 x.mark/\Qd Vk ρ v18 x.maps/\Qd Vk ρ v19 x.decomp/\Qd Vk ρ v20 x.likes/\U8 (λy:Vector Int 2=>Value.agg (acs .i32 y.toList).toArray) (Value.int .i32) ρ v21 x.pairs,λh=>by obtain ⟨v0,v1,v2,v3,v4,v5,v6,v7,v8,v9,v10,v11,v12,v13,v14,v15,v16,v17,v18,v19,v20,v21,rfl,f0,f1,f2,f3,f4,f5,f6,f7,f8,f9,f10,f11,f12,f13,f14,f15,f16,f17,f18,f19,f20,f21⟩:=h;rfl,λhle h=>by obtain ⟨v0,v1,v2,v3,v4,v5,v6,v7,v8,v9,v10,v11,v12,v13,v14,v15,v16,v17,v18,v19,v20,v21,rfl,f0,f1,f2,f3,f4,f5,f6,f7,f8,f9,f10,f11,f12,f13,f14,f15,f16,f17,f18,f19,f20,f21⟩:=h;exact ⟨v0,v1,v2,v3,v4,v5,v6,v7,v8,v9,v10,v11,v12,v13,v14,v15,v16,v17,v18,v19,v20,v21,rfl,f0.mono hle,f1.mono hle,f2.mono hle,f3.mono hle,f4.mono hle,f5.mono hle,f6.mono hle,f7.mono hle,f8.mono hle,f9.mono hle,f10.mono hle,f11.mono hle,f12.mono hle,f13.mono hle,f14.mono hle,f15.mono hle,f16.mono hle,f17.mono hle,f18.mono hle,f19.mono hle,f20.mono hle,f21.mono hle⟩,λh=>by obtain ⟨v0,v1,v2,v3,v4,v5,v6,v7,v8,v9,v10,v11,v12,v13,v14,v15,v16,v17,v18,v19,v20,v21,rfl,f0,f1,f2,f3,f4,f5,f6,f7,f8,f9,f10,f11,f12,f13,f14,f15,f16,f17,f18,f19,f20,f21⟩:=h;exact (Za f0.one (Za f1.one (Za f2.one (Za f3.one (Za f4.one (Za f5.one (Za f6.one (Za f7.one (Za f8.one (Za f9.one (Za f10.one (Za f11.one (Za f12.one (Za f13.one (Za f14.one (Za f15.one (Za f16.one (Za f17.one (Za f18.one (Za f19.one (Za f20.one (Za f21.one Yt))))))))))))))))))))))⟩
structure S11 where
 at_:Int
 size:Int
 rune:Int
 wrong:Bool
 deriving Inhabited
def U0:Rep S11:=⟨4,λρ cs x=>cs=[.int .i64 x.at_,.int .i64 x.size,.int .i32 x.rune,.bool x.wrong],λh=>by obtain rfl:=h;rfl,λhle h=>by obtain rfl:=h;exact rfl,λh=>by obtain rfl:=h;exact (Za rfl (Za rfl (Za rfl (Za rfl Yt))))⟩
structure S12 where
 hyphens:Bool
 bidi:Bool
 joiners:Bool
 std:Bool
 lengths:Bool
 deriving Inhabited
structure S13 where
 where_:Int
 pieces:Int
 gap:Bool
 digits:Int
 number:Int
 value:Int
 deriving Inhabited
structure Wh where
 list:Int
 row:Int
 deriving Inhabited
structure S14 where
 lo:Int
 hi:Int
 deriving Inhabited
structure S15 where
 says:List Int
 coded:Bool
 fault:Int
 deriving Inhabited
structure S16 where
 bidi:Bool
 label:Int
 rule:Int
 deriving Inhabited
structure S17 where
 base:Int
 least:Int
 most:Int
 skew:Int
 damp:Int
 bias:Int
 first:Int
 between:Int
 deriving Inhabited
structure S18 where
 p:S17
 s:ByteArray
 at_:Int
 out:List Int
 n:Int
 i:Int
 bias:Int
 deriving Inhabited
end
section
open Go.IntKind (i8 i16 i32 i64 u8 u16 u32 u64)
open Go.RowKit
set_option maxRecDepth 100000
set_option maxHeartbeats 4000000
variable {w0 w:World} {ρ:Hp} {Γ:List Yd}
set_option linter.unusedVariables false
def Zo.l1:Nat->Int->List Int->Int->List Int->Int->Option (ByteArray×Int)
  | 0,_,_,_,_,_=>none
  | aj+1,x1,aa,ab,ad,ac=>if ac<((aa++([bt (⟨#[48,49,50,51,52,53,54,55,56,57,97,98,99,100,101,102,103,104,105,106,107,108,109,110,111,112,113,114,115,116,117,118,119,120,121,122]⟩:ByteArray) (ab.tmod (u64.wrap x1))])).length:Int) then (if (0:Int)<=ac/\ac<((aa++([bt (⟨#[48,49,50,51,52,53,54,55,56,57,97,98,99,100,101,102,103,104,105,106,107,108,109,110,111,112,113,114,115,116,117,118,119,120,121,122]⟩:ByteArray) (ab.tmod (u64.wrap x1))])).length:Int) then (if (0:Int)<=i64.wrap ((i64.wrap (((aa++([bt (⟨#[48,49,50,51,52,53,54,55,56,57,97,98,99,100,101,102,103,104,105,106,107,108,109,110,111,112,113,114,115,116,117,118,119,120,121,122]⟩:ByteArray) (ab.tmod (u64.wrap x1))])).length:Int)-1))-ac)/\i64.wrap ((i64.wrap (((aa++([bt (⟨#[48,49,50,51,52,53,54,55,56,57,97,98,99,100,101,102,103,104,105,106,107,108,109,110,111,112,113,114,115,116,117,118,119,120,121,122]⟩:ByteArray) (ab.tmod (u64.wrap x1))])).length:Int)-1))-ac)<(ad.length:Int) then ((Zo.l1 aj x1 aa ab) (ad.set (i64.wrap ((i64.wrap (((aa++([bt (⟨#[48,49,50,51,52,53,54,55,56,57,97,98,99,100,101,102,103,104,105,106,107,108,109,110,111,112,113,114,115,116,117,118,119,120,121,122]⟩:ByteArray) (ab.tmod (u64.wrap x1))])).length:Int)-1))-ac)).toNat (rd (aa++([bt (⟨#[48,49,50,51,52,53,54,55,56,57,97,98,99,100,101,102,103,104,105,106,107,108,109,110,111,112,113,114,115,116,117,118,119,120,121,122]⟩:ByteArray) (ab.tmod (u64.wrap x1))])) ac)) (i64.wrap (ac+1))) else none) else none) else (some (Xd ad,0))
def Zo.l2:Nat->Int->List Int->Int->Option (ByteArray×Int)
  | 0,_,_,_=>none
  | al+1,x1,aa,ab=>if (u64.wrap x1)≠0 then (if (0:Int)<=ab.tmod (u64.wrap x1)/\ab.tmod (u64.wrap x1)<((⟨#[48,49,50,51,52,53,54,55,56,57,97,98,99,100,101,102,103,104,105,106,107,108,109,110,111,112,113,114,115,116,117,118,119,120,121,122]⟩:ByteArray).size:Int) then (if aa.length+([bt (⟨#[48,49,50,51,52,53,54,55,56,57,97,98,99,100,101,102,103,104,105,106,107,108,109,110,111,112,113,114,115,116,117,118,119,120,121,122]⟩:ByteArray) (ab.tmod (u64.wrap x1))]).length<=most then (if (u64.wrap (ab.tdiv (u64.wrap x1)))=0 then (if (0:Int)<=((aa++([bt (⟨#[48,49,50,51,52,53,54,55,56,57,97,98,99,100,101,102,103,104,105,106,107,108,109,110,111,112,113,114,115,116,117,118,119,120,121,122]⟩:ByteArray) (ab.tmod (u64.wrap x1))])).length:Int)/\((aa++([bt (⟨#[48,49,50,51,52,53,54,55,56,57,97,98,99,100,101,102,103,104,105,106,107,108,109,110,111,112,113,114,115,116,117,118,119,120,121,122]⟩:ByteArray) (ab.tmod (u64.wrap x1))])).length:Int)<=(most:Int) then (Zo.l1 K0 x1 aa ab (List.replicate ((aa++([bt (⟨#[48,49,50,51,52,53,54,55,56,57,97,98,99,100,101,102,103,104,105,106,107,108,109,110,111,112,113,114,115,116,117,118,119,120,121,122]⟩:ByteArray) (ab.tmod (u64.wrap x1))])).length:Int).toNat 0) 0) else none) else ((Zo.l2 al x1) (aa++([bt (⟨#[48,49,50,51,52,53,54,55,56,57,97,98,99,100,101,102,103,104,105,106,107,108,109,110,111,112,113,114,115,116,117,118,119,120,121,122]⟩:ByteArray) (ab.tmod (u64.wrap x1))])) (u64.wrap (ab.tdiv (u64.wrap x1))))) else none) else none) else none
def Zo.j1 (x0 x1:Int) (ak:Bool):Option (ByteArray×Int):=if ak=true then (some ((⟨#[]⟩:ByteArray),11)) else (Zo.l2 K0 x1 ([]:List Int) x0)
def Zo.f (x0 x1:Int):Option (ByteArray×Int):=if x1<2 then (Zo.j1 x0 x1 true) else (Zo.j1 x0 x1 (decide (36<x1)))
theorem Zo.c (hs:St w0 ρ (Γ) w) {x0 x1:Int} {r:ByteArray×Int} (H:Zo.f x0 x1=some r):Zt Tryz.prog 54 [.int .u64 x0,Lk x1] w (λv w'=>v=.tuple #[.string r.1,Lk r.2]/\St w0 ρ Γ w'):=by
 rw [Zo.f] at H;refine Et Tryz.func54 Tryz.ntmps54 U<|Wr λcn bn=>As U<|As U<|Ox bn<|Zn λco bo=>Ye λbp bq bf=>?_;have bg (ak:Bool) (w:World) (H:Zo.j1 x0 x1 ak=some r) (hs:St w0 ρ (Γ) w):bp [(0,.int .u64 x0),(1,Lk x1),(15,.bool ak)] w:=by
  refine bq _ _<|Ra H (Y5 U) (λ_ H=>?_) λ_ H=>?_;refine Wr λcp br=>As U<|As U<|Ox br<|Zv ?_;cases H;exact Jq U U U ⟨U,hs⟩;refine Wx bo<|Wr λcq bs=>As U ?_;have hs:=hs.rowNil 5 (Rep.int .u8).sz;have bu:=Z3.nil (Rep.int .u8) ρ;refine Ox bs<|Zn λcr bv=>Zu λct bw cu=>Xa (σ:=Nat×List Int×Int×Value×List Value) (λ(al,aa,ab,af,ah)=>[(0,.int .u64 ab),(1,Lk x1),(6,af)]) (λ(al,aa,ab,af,ah) w=>Zo.l2 al x1 aa ab=some r/\St w0 ρ ((.row af 5 ((Rep.int .u8).sz) aa.length ah)::Γ) w/\Z3 (Rep.int .u8) ρ ah aa) (λs=>s.1) (K0,([]:List Int),x0,(Lz),([])) (T3 U) (Ai H (Ai hs bu)) ?_;rintro ⟨al,aa,ab,af,ah⟩ w cv ⟨H,hs,an⟩ au;show W _ _ _ _ _ _ [(0,.int .u64 ab),(1,Lk x1),(6,af)] w
  cases al with
  | zero=>rw [Zo.l2] at H;cases H
  | succ al=>
  rw [Zo.l2] at H;refine Zu λcw cx bx=>Wr λcy bz=>Mv U<|Mv U<|Mv U<|O_y U (Xh un3 Zc5 U)<|G H λbh H=>O_y U (Jy U U bh)<|G H λbi H=>O_y U (Vt un9 U U bi.1 bi.2)<|X5 (xs:=[.tmp 21]) (cs:=[.int .u8 (bt (⟨#[48,49,50,51,52,53,54,55,56,57,97,98,99,100,101,102,103,104,105,106,107,108,109,110,111,112,113,114,115,116,117,118,119,120,121,122]⟩:ByteArray) (ab.tmod (u64.wrap x1)))]) J3 hs U U U (by decide) (by decide) U (Y8 U X8) (Ym U Xc) (λb0 w hs=>?_);have bj:Z3 (Rep.int .u8) ρ ([.int .u8 (bt (⟨#[48,49,50,51,52,53,54,55,56,57,97,98,99,100,101,102,103,104,105,106,107,108,109,110,111,112,113,114,115,116,117,118,119,120,121,122]⟩:ByteArray) (ab.tmod (u64.wrap x1)))]) [bt (⟨#[48,49,50,51,52,53,54,55,56,57,97,98,99,100,101,102,103,104,105,106,107,108,109,110,111,112,113,114,115,116,117,118,119,120,121,122]⟩:ByteArray) (ab.tmod (u64.wrap x1))]:=Z3.cons (c:=[.int .u8 (bt (⟨#[48,49,50,51,52,53,54,55,56,57,97,98,99,100,101,102,103,104,105,106,107,108,109,110,111,112,113,114,115,116,117,118,119,120,121,122]⟩:ByteArray) (ab.tmod (u64.wrap x1)))]) (x:=bt (⟨#[48,49,50,51,52,53,54,55,56,57,97,98,99,100,101,102,103,104,105,106,107,108,109,110,111,112,113,114,115,116,117,118,119,120,121,122]⟩:ByteArray) (ab.tmod (u64.wrap x1))) U (Z3.nil _ _);refine G H λb1 H=>Qt (i:=1) J3 hs U an U U U (Src.lit (j:=0) hs U bj) bj b1 (λax ay w bk hs=>As U<|Ox bz<|Wr λcz b2=>Mv U<|Mv U<|O_y U (Xh un3 Zc5 U)<|O_y U (Vv U U bh)<|As U<|Ox b2<|W.weak [(0,_),(1,_),(6,_)] (T3 U)<|Zn λda b3=>Zg<|Mv U<|Oeq U<|Ox b3<|Yu U (λa3=>?_) (λa3=>?_))
  ·rw [if_pos a3] at H
   refine Y2 (bx _ _ _ U (bw _ _ (bv _ _<|Wr λdb b4=>Mv U<|O_y U (X1 (i:=1) U4 hs U U) ?_)));refine G H λbl H=>Ha (r:=(Rep.int .u8)) (x0:=0) J3 zr5 U U hs U U U bl.1 bl.2 (λb5 a4 w b6 hs=>As U<|Ox b4<|Zn λb7 a5=>Wr λb8 a6=>Mv U<|O_y U (X1 (i:=2) U4 hs U U)<|Mv U<|Ox a6<|Zu λb9 a7 ca=>Xa (σ:=Nat×List Int×Int×Value×List Value) (λ(aj,ad,ac,ae,ag)=>[(6,ax),(7,ae),(33,ax),(34,Lk ((aa++([bt (⟨#[48,49,50,51,52,53,54,55,56,57,97,98,99,100,101,102,103,104,105,106,107,108,109,110,111,112,113,114,115,116,117,118,119,120,121,122]⟩:ByteArray) (ab.tmod (u64.wrap x1))])).length:Int)),(35,Lk ac)]) (λ(aj,ad,ac,ae,ag) w=>Zo.l1 aj x1 aa ab ad ac=some r/\St w0 ρ ((.row ae 5 ((Rep.int .u8).sz) ad.length ag)::(.row (.slice (some ⟨b0,0,none⟩) 1 1) 5 ((Rep.int .u8).sz) (([bt (⟨#[48,49,50,51,52,53,54,55,56,57,97,98,99,100,101,102,103,104,105,106,107,108,109,110,111,112,113,114,115,116,117,118,119,120,121,122]⟩:ByteArray) (ab.tmod (u64.wrap x1))]).length) ([.int .u8 (bt (⟨#[48,49,50,51,52,53,54,55,56,57,97,98,99,100,101,102,103,104,105,106,107,108,109,110,111,112,113,114,115,116,117,118,119,120,121,122]⟩:ByteArray) (ab.tmod (u64.wrap x1)))]))::(.row ax 5 ((Rep.int .u8).sz) ((aa++([bt (⟨#[48,49,50,51,52,53,54,55,56,57,97,98,99,100,101,102,103,104,105,106,107,108,109,110,111,112,113,114,115,116,117,118,119,120,121,122]⟩:ByteArray) (ab.tmod (u64.wrap x1))])).length) ay)::Γ) w/\Z3 (Rep.int .u8) ρ ag ad) (λs=>s.1) (K0,(List.replicate ((aa++([bt (⟨#[48,49,50,51,52,53,54,55,56,57,97,98,99,100,101,102,103,104,105,106,107,108,109,110,111,112,113,114,115,116,117,118,119,120,121,122]⟩:ByteArray) (ab.tmod (u64.wrap x1))])).length:Int).toNat 0),0,(.slice (some ⟨b5,0,none⟩) ((aa++([bt (⟨#[48,49,50,51,52,53,54,55,56,57,97,98,99,100,101,102,103,104,105,106,107,108,109,110,111,112,113,114,115,116,117,118,119,120,121,122]⟩:ByteArray) (ab.tmod (u64.wrap x1))])).length:Int).toNat ((aa++([bt (⟨#[48,49,50,51,52,53,54,55,56,57,97,98,99,100,101,102,103,104,105,106,107,108,109,110,111,112,113,114,115,116,117,118,119,120,121,122]⟩:ByteArray) (ab.tmod (u64.wrap x1))])).length:Int).toNat),a4) sbn (Ai H (Ai hs b6)) ?_);rintro ⟨aj,ad,ac,ae,ag⟩ w cb ⟨H,hs,ai⟩ ap;show W _ _ _ _ _ _ [(6,ax),(7,ae),(33,ax),(34,Lk ((aa++([bt (⟨#[48,49,50,51,52,53,54,55,56,57,97,98,99,100,101,102,103,104,105,106,107,108,109,110,111,112,113,114,115,116,117,118,119,120,121,122]⟩:ByteArray) (ab.tmod (u64.wrap x1))])).length:Int)),(35,Lk ac)] w
   cases aj with
   | zero=>rw [Zo.l1] at H;cases H
   | succ aj=>
   rw [Zo.l1] at H;refine Wr λcc a8=>Ols U<|Ox a8<|Zn λcd a9=>Z H (Yu U) (λ_ H=>?_) λ_ H=>?_;refine Wx a9<|Zn λce ba=>Zu λcf cg ch=>Wr λci bb=>Mv U ?_;obtain ⟨ao,H⟩:=gd H;obtain ⟨cj,aq⟩:=hs.rowBlock (j:=2) U (by have:=ao.2;omega);obtain ⟨_,rfl,az⟩:=bk.at ao.1 ao.2;refine O_y U (Ki (j:=2) J3 hs U aq U U ao.1 ao.2)<|O_y U (Ka ag5 U (hs.rowCell (j:=2) U aq (az 0 _ U)))<|As U<|As U<|Ox bb<|Zg<|Mv U<|Mv U<|O_y U (X1 (i:=2) U4 hs U U)<|Osu U<|Mv U<|Osu U<|Mv U ?_;obtain ⟨am,H⟩:=gd H;obtain ⟨ck,ar⟩:=hs.rowBlock (j:=0) U (by have:=am.2;omega);obtain ⟨_,rfl,bm⟩:=ai.at am.1 am.2;refine O_y U (Ki (j:=0) J3 hs U ar U U am.1 am.2)<|Hb (j:=0) sz5 hs U ar am.1 am.2 ai U U U (λa0 w bc hs=>Ox ba<|W.weak [(6,_),(7,_),(33,_),(34,_),(35,_)] sbn<|Zg<|Oad U<|Mv U<|Zh (ap (aj,(ad.set (i64.wrap ((i64.wrap (((aa++([bt (⟨#[48,49,50,51,52,53,54,55,56,57,97,98,99,100,101,102,103,104,105,106,107,108,109,110,111,112,113,114,115,116,117,118,119,120,121,122]⟩:ByteArray) (ab.tmod (u64.wrap x1))])).length:Int)-1))-ac)).toNat (rd (aa++([bt (⟨#[48,49,50,51,52,53,54,55,56,57,97,98,99,100,101,102,103,104,105,106,107,108,109,110,111,112,113,114,115,116,117,118,119,120,121,122]⟩:ByteArray) (ab.tmod (u64.wrap x1))])) ac)),(i64.wrap (ac+1)),ae,a0) _ _ sbn (Ai H (Ai hs bc)) (Nat.lt_succ_self _)));refine Y2 (a7 _ _ (a5 _ _<|Wr λcl bd=>Mv U ?_));obtain ⟨cm,a1,hs,be⟩:=hs.rowEnd (j:=0) ai U;refine O_y U (Kz U4 un5 un9 hs be U)<|As U<|As U<|Ox bd<|Zv ?_;cases H;exact Jq U U U ⟨U,((hs.sub (ssk (ssk ssr))).less a1)⟩
  rw [if_neg a3] at H;exact Xw (au (al,(aa++([bt (⟨#[48,49,50,51,52,53,54,55,56,57,97,98,99,100,101,102,103,104,105,106,107,108,109,110,111,112,113,114,115,116,117,118,119,120,121,122]⟩:ByteArray) (ab.tmod (u64.wrap x1))])),(u64.wrap (ab.tdiv (u64.wrap x1))),ax,ay) _ _ (T3 U) (Ai H (Ai (hs.sub (ssk (ssc ssr))) bk)) (Nat.lt_succ_self _))
 refine Zg<|Mv U<|Ols U<|Mv U<|Z H (X4 (dj:=12) U) (λ_ H=>?_) λ_ H=>?_;refine On U<|On U<|Opk U<|Zh (bf _ _ _ (T3 U) (bg true _ H hs));refine Oe U<|Mv U<|Oe U<|Ogt U<|Opk U<|Zh (bf _ _ _ (T3 U) (bg (decide (36<x1)) _ H hs))

def Q5.f (x0:Int):Option ByteArray:=(Zo.f (u64.wrap x0) 16).bind λab=>(some ab.1)
theorem Q5.c (hs:St w0 ρ (Γ) w) {x0:Int} {r:ByteArray} (H:Q5.f x0=some r):Zt Tryz.prog 36 [.int .u16 x0] w (λv w'=>v=.string r/\St w0 ρ Γ w'):=by
 refine Et Tryz.func36 Tryz.ntmps36 U<|Wr λaf ac=>As U<|Ox ac<|Wr λag ad=>Mv U<|O_y U (Xh Zd7 Zc5 U)<|M H λab aa H=>Oc U (Zo.c hs aa)<|V λw hs=>Mv U<|Oxt U<|Oxt U<|As U<|As U<|Ox ad<|Wr λai ae=>Mv U<|As U<|Ox ae<|Zv ?_;cases H;exact r1 U ⟨U,hs⟩

def Yh.j1 (ai:Int->Int->Int->Int->Option (Int×Int)) (aa af ag ah:Int):Option (Int×Int):=ai af ag ah (i64.wrap (aa+1))
def Yh.l1:Nat->List Int->Int->Int->Int->Int->Option (Int×Int)
  | 0,_,_,_,_,_=>none
  | ae+1,x0,ac,ad,ab,aa=>if aa<(x0.length:Int) then (if (0:Int)<=aa/\aa<(x0.length:Int) then (if (rd x0 aa)≠0 then (Yh.j1 (Yh.l1 ae x0) aa ac ad (i64.wrap (aa+1))) else (if ad<(i64.wrap ((i64.wrap (aa+1))-ab)) then (Yh.j1 (Yh.l1 ae x0) aa ab (i64.wrap ((i64.wrap (aa+1))-ab)) ab) else (Yh.j1 (Yh.l1 ae x0) aa ac ad ab))) else none) else (if ac<0 then (some ((-1),0)) else (some (ac,ad)))
def Yh.f (x0:List Int):Option (Int×Int):=Yh.l1 K0 x0 (-1) 1 0 0
theorem Yh.c (hs:St w0 ρ (Γ) w) {v0:Value} {x0:List Int} (h0:SlR (Rep.int .u16) ρ v0 x0) {r:Int×Int} (H:Yh.f x0=some r):Zt Tryz.prog 34 [v0] w (λv w'=>v=.tuple #[Lk r.1,Lk r.2]/\St w0 ρ Γ w'):=by
 rw [Yh.f] at H;refine Et Tryz.func34 Tryz.ntmps34 U<|Wr λbj aw=>As U<|As U<|Ox aw<|Wr λbk ax=>As U<|As U<|Ox ax<|Wr λbl ay=>As U<|Ox ay<|Zn λbm az=>Wr λbn a0=>Mv U<|O_y U (Um Zc4 h0 U)<|Mv U<|Ox a0<|Zu λbo a1 bp=>Xa (σ:=Nat×Int×Int×Int×Int) (λ(ae,ac,ad,ab,aa)=>[(4,Lk ac),(5,Lk ad),(6,Lk ab),(10,v0),(11,Lk (x0.length:Int)),(12,Lk aa)]) (λ(ae,ac,ad,ab,aa) w=>Yh.l1 ae x0 ac ad ab aa=some r/\St w0 ρ (Γ) w) (λs=>s.1) (K0,(-1),1,0,0) sbn (Ai H hs) ?_;rintro ⟨ae,ac,ad,ab,aa⟩ w bq ⟨H,hs⟩ aj;show W _ _ _ _ _ _ [(4,Lk ac),(5,Lk ad),(6,Lk ab),(10,v0),(11,Lk (x0.length:Int)),(12,Lk aa)] w
 cases ae with
 | zero=>rw [Yh.l1] at H;cases H
 | succ ae=>
 rw [Yh.l1] at H;refine Wr λbr a2=>Ols U<|Ox a2<|Zn λbs a3=>Z H (Yu U) (λ_ H=>?_) λ_ H=>?_;refine Wx a3<|Ye λa4 a5 am=>?_;have an (af:Int) (ag:Int) (ah:Int) (w:World) (H:Yh.j1 (Yh.l1 ae x0) aa af ag ah=some r) (hs:St w0 ρ (Γ) w):a4 [(4,Lk af),(5,Lk ag),(6,Lk ah),(10,v0),(11,Lk (x0.length:Int)),(12,Lk aa)] w:=by rw [Yh.j1] at H;refine a5 _ _<|Zg<|Oad U<|Mv U<|Zh (aj (ae,af,ag,ah,(i64.wrap (aa+1))) _ _ sbn (Ai H hs) (Nat.lt_succ_self _))
 refine Zu λbt a6 bu=>Wr λbv a7=>Mv U ?_;obtain ⟨av,H⟩:=gd H;obtain ⟨bw,bx,a8,a9⟩:=h0.ix Zdm av.1 av.2;refine O_y U (a9 U U)<|O_y U (Ka Zbo U (hs.see a8.int))<|As U<|As U<|Ox a7<|Zn λbz ba=>Wr λb0 bb=>Mv U<|One U<|Ox bb<|Z H (Yu U) (λ_ H=>?_) λ_ H=>?_;refine Wr λb1 bc=>Mv U<|Oad U<|As U<|Ox bc<|W.weak [(4,_),(5,_),(6,_),(10,_),(11,_),(12,_)] sbn<|Y2 (a6 _ _ (am _ _ _ sbn (an ac ad (i64.wrap (aa+1)) _ H hs)));refine Wx ba<|Wr λb2 bd=>Mv U<|Oad U<|Mv U<|Osu U<|As U<|Ox bd<|W.weak [(4,_),(5,_),(6,_),(9,_),(10,_),(11,_),(12,_)] sbn<|Wr λb3 be=>Mv U<|Mv U<|Ogt U<|Ox be<|Z H (Yu U) (λ_ H=>?_) λ_ H=>?_;refine Zg<|Mv U<|Mv U<|As U<|As U<|Zh (am _ _ _ sbn (an ab (i64.wrap ((i64.wrap (aa+1))-ab)) ab _ H hs));exact Xw (am _ _ _ sbn (an ac ad ab _ H hs));refine Y2 (a1 _ _ (az _ _<|Zn λb4 bf=>Wr λbg aq=>Mv U<|Ols U<|Ox aq<|Yu U (λak=>?_) (λak=>?_)));rw [if_pos ak] at H;refine Wr λbh ar=>As U<|As U<|Ox ar<|Zv ?_;cases H;exact Jq U U U ⟨U,hs⟩;rw [if_neg ak] at H;refine Wx bf<|Wr λbi au=>Mv U<|Mv U<|As U<|As U<|Ox au<|Zv ?_;cases H;exact Jq U U U ⟨U,hs⟩

def Xp.f (x0:Vector Int 4) (x1:Int):Option (Vector Int 4):=if (0:Int)<=u8.wrap (x1.tdiv 64)/\u8.wrap (x1.tdiv 64)<((4:Nat):Int) then (if (0:Int)<=x1.tmod 64 then (some (U6 x0 (u8.wrap (x1.tdiv 64)) (bOr .u64 (vg x0 (u8.wrap (x1.tdiv 64))) (u64.wrap (1*2^(min (x1.tmod 64).toNat 64)))))) else none) else none
theorem Xp.c (hs:St w0 ρ (Γ) w) {x0:Vector Int 4} {x1:Int} {r:Vector Int 4} (H:Xp.f x0 x1=some r):Zt Tryz.prog 122 [.agg (vcs (Value.int .u64) x0).toArray,.int .u8 x1] w (λv w'=>v=.agg (vcs (Value.int .u64) r).toArray/\St w0 ρ Γ w'):=by
 refine Et Tryz.func122 Tryz.ntmps122 U<|Wr λaf ab=>Qb hs U U (λag w hs=>Zx Qf hs U (λah w hs=>Ox ab<|Wr λai ac=>Mv U<|O_y U (Vv U U (by decide))<|G H λaa H=>O_y U (Q1 Vg U3 U U aa.1 aa.2)<|O_y U (Qv (j:=1) Zbq hs U U aa.1 aa.2 U)<|Mv U<|O_y U (Jy U U (by decide))<|G H λad H=>O_y U (Zdi U U ad)<|O_y U (Zdh U U)<|O_y U (Q1 Vg U3 U U aa.1 aa.2)<|Jx (j:=1) (u:=bOr .u64 (vg x0 (u8.wrap (x1.tdiv 64))) (u64.wrap (1*2^(min (x1.tmod 64).toNat 64)))) U3 (Ya .u64) hs U U aa.1 aa.2 U U (λw hs=>Ox ac<|Wr λaj ae=>O_y U (Z8 (j:=1) Yo Z1 hs U U)<|Zw (j:=0) (u:=U6 x0 (u8.wrap (x1.tdiv 64)) (bOr .u64 (vg x0 (u8.wrap (x1.tdiv 64))) (u64.wrap (1*2^(min (x1.tmod 64).toNat 64))))) Z1 (Ya .u64) hs U U U (λw hs=>Ox ae<|Zv ?_))));cases H;exact G2 (i:=0) U U Yo Z1 hs U (by simp) ⟨(by simp only [List.nil_append,List.append_nil]),(hs.sub (ssk (ssk ssr)))⟩

def Z7.l1:Nat->List Int->Vector Int 4->Int->Option (Vector Int 4)
  | 0,_,_,_=>none
  | ae+1,x2,aa,ac=>if ac<(x2.length:Int) then (if (0:Int)<=ac/\ac<(x2.length:Int) then ((Xp.f aa (rd x2 ac)).bind λag=>((Z7.l1 ae x2) ag (i64.wrap (ac+1)))) else none) else (some aa)
def Z7.l2:Nat->Int->List Int->Vector Int 4->Int->Option (Vector Int 4)
  | 0,_,_,_,_=>none
  | af+1,x1,x2,ab,ad=>if ad<=(i64.wrap x1) then ((Xp.f ab (u8.wrap ad)).bind λan=>((Z7.l2 af x1 x2) an (i64.wrap (ad+1)))) else (Z7.l1 K0 x2 ab 0)
def Z7.f (x0 x1:Int) (x2:List Int):Option (Vector Int 4):=Z7.l2 K0 x1 x2 (Vector.replicate 4 0:Vector Int 4) (i64.wrap x0)
theorem Z7.c (hs:St w0 ρ (Γ) w) {x0 x1:Int} {v2:Value} {x2:List Int} (h2:SlR (Rep.int .u8) ρ v2 x2) {r:Vector Int 4} (H:Z7.f x0 x1 x2=some r):Zt Tryz.prog 94 [.int .u8 x0,.int .u8 x1,v2] w (λv w'=>v=.agg (vcs (Value.int .u64) r).toArray/\St w0 ρ Γ w'):=by
 rw [Z7.f] at H;refine Et Tryz.func94 Tryz.ntmps94 U<|Wr λbg ax=>Zx Qf hs U (λaj w hs=>Ox ax<|Wr λbh ay=>Zx Qf hs U (λak w hs=>Ox ay<|Zn λbi az=>Wr λbj a0=>Mv U<|O_y U (Xh un5 un3 U)<|As U<|Ox a0<|Zu λbk a1 bl=>Xa (σ:=Nat×Vector Int 4×Int) (λ(af,ab,ad)=>[(1,.int .u8 x1),(2,v2),(6,Ll aj),(7,Ll ak),(8,Lk ad)]) (λ(af,ab,ad) w=>Z7.l2 af x1 x2 ab ad=some r/\St w0 ρ ((.box ak 110 ([]++(vcs (Value.int .u64) ab++[])))::(.box aj 110 ([]++(vcs (Value.int .u64) (Vector.replicate 4 0:Vector Int 4)++[])))::Γ) w) (λs=>s.1) (K0,(Vector.replicate 4 0:Vector Int 4),(i64.wrap x0)) sbn (Ai H hs) ?_));rintro ⟨af,ab,ad⟩ w bm ⟨H,hs⟩ ah;show W _ _ _ _ _ _ [(1,.int .u8 x1),(2,v2),(6,Ll aj),(7,Ll ak),(8,Lk ad)] w
 cases af with
 | zero=>rw [Z7.l2] at H;cases H
 | succ af=>
 rw [Z7.l2] at H;refine Zn λbn a2=>Wr λbo a3=>Mv U<|Mv U<|O_y U (Xh un5 un3 U)<|Ole U<|Ox a3<|Z H (Yu U) (λ_ H=>?_) λ_ H=>?_;refine Wx a2<|Zn λbp a4=>Zu λbq br bs=>Zg<|O_y U (Z8 (j:=0) Yo Z1 hs U U)<|Mv U<|O_y U (Xh un3 un5 U)<|M H λan ap H=>Oc U (Xp.c hs ap)<|V λw hs=>Zw (j:=0) (u:=an) Z1 (Ya .u64) hs U U U (λw hs=>Ox a4<|Zg<|Mv U<|Oad U<|As U<|Zh (ah (af,an,(i64.wrap (ad+1))) _ _ sbn (Ai H hs) (Nat.lt_succ_self _)));refine Y2 (a1 _ _ (az _ _<|Zn λbu a5=>Wr λbv a6=>Mv U<|O_y U (Um U4 h2 U)<|Mv U<|Ox a6<|Zu λbw a7 bx=>Xa (σ:=Nat×Vector Int 4×Int) (λ(ae,aa,ac)=>[(6,Ll aj),(7,Ll ak),(23,v2),(24,Lk (x2.length:Int)),(25,Lk ac)]) (λ(ae,aa,ac) w=>Z7.l1 ae x2 aa ac=some r/\St w0 ρ ((.box ak 110 ([]++(vcs (Value.int .u64) aa++[])))::(.box aj 110 ([]++(vcs (Value.int .u64) (Vector.replicate 4 0:Vector Int 4)++[])))::Γ) w) (λs=>s.1) (K0,ab,0) sbn (Ai H hs) ?_));rintro ⟨ae,aa,ac⟩ w bz ⟨H,hs⟩ ai;show W _ _ _ _ _ _ [(6,Ll aj),(7,Ll ak),(23,v2),(24,Lk (x2.length:Int)),(25,Lk ac)] w
 cases ae with
 | zero=>rw [Z7.l1] at H;cases H
 | succ ae=>
 rw [Z7.l1] at H;refine Wr λb0 a8=>Ols U<|Ox a8<|Zn λb1 a9=>Z H (Yu U) (λ_ H=>?_) λ_ H=>?_;refine Wx a9<|Zn λb2 ba=>Zu λb3 b4 b5=>Zn λbb ar=>Zg ?_;obtain ⟨al,H⟩:=gd H;obtain ⟨bc,bd,au,av⟩:=h2.ix J3 al.1 al.2;refine O_y U (av U U)<|O_y U (Ka ag5 U (hs.see au.int))<|As U<|Ox ar<|Zg<|O_y U (Z8 (j:=0) Yo Z1 hs U U)<|Mv U<|M H λag am H=>Oc U (Xp.c hs am)<|V λw hs=>Zw (j:=0) (u:=ag) Z1 (Ya .u64) hs U U U (λw hs=>Ox ba<|Zg<|Oad U<|Mv U<|Zh (ai (ae,ag,(i64.wrap (ac+1))) _ _ sbn (Ai H hs) (Nat.lt_succ_self _)));refine Y2 (a7 _ _ (a5 _ _<|Wr λbf aw=>O_y U (Z8 (j:=0) Yo Z1 hs U U)<|Zw (j:=1) (u:=aa) Z1 (Ya .u64) hs U U U (λw hs=>Ox aw<|Zv ?_)));cases H;exact G2 (i:=1) U U Yo Z1 hs U (by simp) ⟨(by simp only [List.nil_append,List.append_nil]),(hs.sub (ssk (ssk ssr)))⟩

def Z9.l1 (ah:Vector Int 4->Int->Option (Vector Int 4)):Nat->List (Vector Int 4)->Int->Vector Int 4->Int->Option (Vector Int 4)
  | 0,_,_,_,_=>none
  | ag+1,x0,aa,ab,ac=>if ac<4 then (if (0:Int)<=ac/\ac<((4:Nat):Int) then ((Z9.l1 ah ag x0 aa) (U6 ab ac (bOr .u64 (vg ab ac) (vg (rd x0 aa) ac))) (i64.wrap (ac+1))) else none) else (ah ab (i64.wrap (aa+1)))
def Z9.l2:Nat->List (Vector Int 4)->Vector Int 4->Int->Option (Vector Int 4)
  | 0,_,_,_=>none
  | af+1,x0,ad,aa=>if aa<(x0.length:Int) then (if (0:Int)<=aa/\aa<(x0.length:Int) then (Z9.l1 (Z9.l2 af x0) K0 x0 aa ad 0) else none) else (some ad)
def Z9.f (x0:List (Vector Int 4)):Option (Vector Int 4):=Z9.l2 K0 x0 (Vector.replicate 4 0:Vector Int 4) 0
theorem Z9.c (hs:St w0 ρ (Γ) w) {v0:Value} {x0:List (Vector Int 4)} (h0:SlR (Rep.arr (Value.int .u64) (Ya .u64) 4) ρ v0 x0) {r:Vector Int 4} (H:Z9.f x0=some r):Zt Tryz.prog 93 [v0] w (λv w'=>v=.agg (vcs (Value.int .u64) r).toArray/\St w0 ρ Γ w'):=by
 rw [Z9.f] at H;refine Et Tryz.func93 Tryz.ntmps93 U<|Wr λbg au=>Zx Qf hs U (λak w hs=>Ox au<|Wr λbh av=>Zx Qf hs U (λal w hs=>Ox av<|Zn λbi aw=>Wr λbj ax=>Mv U<|O_y U (Um Zck h0 U)<|Mv U<|Ox ax<|Zu λbk ay bl=>Xa (σ:=Nat×Vector Int 4×Int) (λ(af,ad,aa)=>[(2,Ll ak),(3,Ll al),(8,v0),(9,Lk (x0.length:Int)),(10,Lk aa)]) (λ(af,ad,aa) w=>Z9.l2 af x0 ad aa=some r/\St w0 ρ ((.box al 110 ([]++(vcs (Value.int .u64) ad++[])))::(.box ak 110 ([]++(vcs (Value.int .u64) (Vector.replicate 4 0:Vector Int 4)++[])))::Γ) w) (λs=>s.1) (K0,(Vector.replicate 4 0:Vector Int 4),0) sbn (Ai H hs) ?_));rintro ⟨af,ad,aa⟩ w bm ⟨H,hs⟩ ai;show W _ _ _ _ _ _ [(2,Ll ak),(3,Ll al),(8,v0),(9,Lk (x0.length:Int)),(10,Lk aa)] w
 cases af with
 | zero=>rw [Z9.l2] at H;cases H
 | succ af=>
 rw [Z9.l2] at H;refine Wr λbn az=>Ols U<|Ox az<|Zn λbo a0=>Yu U (λam=>?_) (λam=>?_)
 ·rw [if_pos am] at H
  refine Wx a0<|Zn λbp a1=>Zu λbq br bs=>Zn λbt a2=>Zg ?_;obtain ⟨ar,H⟩:=gd H;obtain ⟨bu,bv,a3,a4⟩:=h0.ix Zai ar.1 ar.2;have a5:=a3.arr;refine O_y U (a4 U U)<|O_y U (Jt (cs:=vcs (Value.int .u64) (rd x0 aa)) Yo Z1 (Vh _ _) U (λj u hu=>hs.see (a5 j u (by simpa using hu))))<|Zx Qf hs rfl (λa6 w hs=>Zw (j:=0) (u:=rd x0 aa) Z1 (Ya .u64) hs rfl rfl rfl (λw hs=>Ox a2<|Wr λbw a7=>O_y rfl (Z8 (j:=0) Yo Z1 hs rfl rfl)<|Mv rfl<|Ox a7<|Zu λbx a8 bz=>Xa (σ:=Nat×Vector Int 4×Int) (λ(ag,ab,ac)=>[(2,Ll ak),(3,Ll al),(8,v0),(9,Lk (x0.length:Int)),(10,Lk aa),(14,.agg (vcs (Value.int .u64) (rd x0 aa)).toArray),(15,Lk ac)]) (λ(ag,ab,ac) w=>Z9.l1 (Z9.l2 af x0) ag x0 aa ab ac=some r/\St w0 ρ ((.box a6 110 ([]++(vcs (Value.int .u64) (rd x0 aa)++[])))::(.box al 110 ([]++(vcs (Value.int .u64) ab++[])))::(.box ak 110 ([]++(vcs (Value.int .u64) (Vector.replicate 4 0:Vector Int 4)++[])))::Γ) w) (λs=>s.1) (K0,ad,0) sbn (Ai H hs) ?_));rintro ⟨ag,ab,ac⟩ w b0 ⟨H,hs⟩ aj;show W _ _ _ _ _ _ [(2,Ll ak),(3,Ll al),(8,v0),(9,Lk (x0.length:Int)),(10,Lk aa),(14,.agg (vcs (Value.int .u64) (rd x0 aa)).toArray),(15,Lk ac)] w
  cases ag with
  | zero=>rw [Z9.l1] at H;cases H
  | succ ag=>
  rw [Z9.l1] at H;refine Wr λb1 a9=>Ols U<|Ox a9<|Zn λb2 ba=>Z H (Yu U) (λ_ H=>?_) λ_ H=>?_;refine Wx ba<|Zn λb3 ao=>Zu λbb bc bd=>Wr λbe ap=>Mv U<|G H λae H=>O_y U (Gj Vg U3 Zbq U U ae.1 ae.2)<|As U<|As U<|Ox ap<|Zg<|Mv U<|O_y U (Q1 Vg U3 U U ae.1 ae.2)<|O_y U (Qv (j:=1) Zbq hs U U ae.1 ae.2 U)<|Mv U<|O_y U (Zdh U U)<|O_y U (Q1 Vg U3 U U ae.1 ae.2)<|Jx (j:=1) (u:=bOr .u64 (vg ab ac) (vg (rd x0 aa) ac)) U3 (Ya .u64) hs U U ae.1 ae.2 U U (λw hs=>Ox ao<|W.weak [(2,_),(3,_),(8,_),(9,_),(10,_),(14,_),(15,_)] sbn<|Zg<|Oad U<|Mv U<|Zh (aj (ag,(U6 ab ac (bOr .u64 (vg ab ac) (vg (rd x0 aa) ac))),(i64.wrap (ac+1))) _ _ sbn (Ai H hs) (Nat.lt_succ_self _)));refine Y2 (a8 _ _ (a1 _ _<|Zg<|Oad U<|Mv U<|Zh (ai (af,ab,(i64.wrap (aa+1))) _ _ sbn (Ai H (hs.sub (ssk (ssc (ssc ssr))))) (Nat.lt_succ_self _))))
 rw [if_neg am] at H;refine Y2 (ay _ _ (aw _ _<|Wr λbf aq=>O_y U (Z8 (j:=0) Yo Z1 hs U U)<|Zw (j:=1) (u:=ad) Z1 (Ya .u64) hs U U U (λw hs=>Ox aq<|Zv ?_)));cases H;exact G2 (i:=1) U U Yo Z1 hs U (by simp) ⟨(by simp only [List.nil_append,List.append_nil]),(hs.sub (ssk (ssk ssr)))⟩

def Zz.l1:Nat->ByteArray->Vector Int 4->Int->Option (Vector Int 4)
  | 0,_,_,_=>none
  | ac+1,x1,aa,ab=>if ab<(x1.size:Int) then (if (0:Int)<=ab/\ab<(x1.size:Int) then ((Xp.f aa (bt x1 ab)).bind λae=>((Zz.l1 ac x1) ae (i64.wrap (ab+1)))) else none) else (some aa)
def Zz.f (x0:Vector Int 4) (x1:ByteArray):Option (Vector Int 4):=Zz.l1 K0 x1 x0 0
theorem Zz.c (hs:St w0 ρ (Γ) w) {x0:Vector Int 4} {x1:ByteArray} {r:Vector Int 4} (H:Zz.f x0 x1=some r):Zt Tryz.prog 95 [.agg (vcs (Value.int .u64) x0).toArray,.string x1] w (λv w'=>v=.agg (vcs (Value.int .u64) r).toArray/\St w0 ρ Γ w'):=by
 rw [Zz.f] at H;refine Et Tryz.func95 Tryz.ntmps95 U<|Wr λax ak=>Qb hs U U (λaf w hs=>Zx Qf hs U (λag w hs=>Ox ak<|Zn λay al=>Wr λaz am=>Mv U<|O_y U (Xx un9 U)<|Mv U<|Ox am<|Zu λa0 an a1=>Xa (σ:=Nat×Vector Int 4×Int) (λ(ac,aa,ab)=>[(1,.string x1),(2,Ll af),(4,Ll ag),(7,Lk (x1.size:Int)),(8,Lk ab)]) (λ(ac,aa,ab) w=>Zz.l1 ac x1 aa ab=some r/\St w0 ρ ((.box ag 110 ([]++(vcs (Value.int .u64) (Vector.replicate 4 0:Vector Int 4)++[])))::(.box af 110 ([]++(vcs (Value.int .u64) aa++[])))::Γ) w) (λs=>s.1) (K0,x0,0) sbn (Ai H hs) ?_));rintro ⟨ac,aa,ab⟩ w a2 ⟨H,hs⟩ ad;show W _ _ _ _ _ _ [(1,.string x1),(2,Ll af),(4,Ll ag),(7,Lk (x1.size:Int)),(8,Lk ab)] w
 cases ac with
 | zero=>rw [Zz.l1] at H;cases H
 | succ ac=>
 rw [Zz.l1] at H;refine Wr λa3 ao=>Ols U<|Ox ao<|Zn λa4 ap=>Z H (Yu U) (λ_ H=>?_) λ_ H=>?_;refine Wx ap<|Zn λa5 aq=>Zu λa6 a7 a8=>Wr λa9 ar=>Mv U<|As U<|Ox ar<|X9 6 [0,0,0,6,9,31] [14,21,19,1,0,0] [0,0,0,6,15,31] [4,5] (λw=>St w0 ρ ((.box ag 110 ([]++(vcs (Value.int .u64) (Vector.replicate 4 0:Vector Int 4)++[])))::(.box af 110 ([]++(vcs (Value.int .u64) aa++[])))::Γ) w) mixed (by kernel_rfl) (λsh=>?_);have hs:=hs.drew;refine Fy 0 sh U hs (λw hs=>Z8 (j:=1) Yo Z1 hs U U)<|Fm 1 sh U<|Fm 2 sh U<|G H λaj H=>Fp 3 sh U (λw=>Vt un9 U U aj.1 aj.2)<|F1 4 sh U (λba au=>M H λae ai H=>Oc U (Xp.c hs ai)<|V λw hs=>Zh (au _ _ (λh _=>absurd h (by decide))<|Yk sh [5] hs (by kernel_rfl)<|F1 5 sh U (λbc av=>Zw (j:=1) (u:=ae) Z1 (Ya .u64) hs U U U (λw hs=>Zh (av _ _ (λh _=>absurd h (by decide))<|FE sh (aq _ _<|Zg<|Oad U<|Mv U<|Zh (ad (ac,ae,(i64.wrap (ab+1))) _ _ sbn (Ai H hs) (Nat.lt_succ_self _))))))));refine Y2 (an _ _ (al _ _<|Wr λbd aw=>O_y U (Z8 (j:=1) Yo Z1 hs U U)<|Zw (j:=0) (u:=aa) Z1 (Ya .u64) hs U U U (λw hs=>Ox aw<|Zv ?_)));cases H;exact G2 (i:=0) U U Yo Z1 hs U (by simp) ⟨(by simp only [List.nil_append,List.append_nil]),(hs.sub (ssk (ssk ssr)))⟩

def Xl.f (x0:Int):Option (Vector Int 4×Int):=(Z7.f 0 31 ([]:List Int)).bind λaf=>((Z7.f 127 255 ([]:List Int)).bind λag=>((Z9.f ([af,ag])).bind λah=>((Zz.f ah (⟨#[32,34,35,60,62]⟩:ByteArray)).bind λai=>((Zz.f ai (⟨#[63,94,96,123,125]⟩:ByteArray)).bind λaz=>((Zz.f az (⟨#[47,58,59,61,64,91,92,93,124]⟩:ByteArray)).bind λa0=>((Zz.f a0 (⟨#[36,37,38,43,44]⟩:ByteArray)).bind λa1=>((Z7.f 0 0 ([9,10,13])).bind λa2=>((Zz.f a2 (⟨#[32,35,47,58,60,62,63,64,91,92,93,94,124]⟩:ByteArray)).bind λab=>(if x0=1 then (some (ah,0)) else (if x0=2 then ((Zz.f ah (⟨#[32,34,60,62,96]⟩:ByteArray)).bind λaj=>(some (aj,0))) else (if x0=3 then (some (ai,0)) else (if x0=4 then ((Zz.f ai (⟨#[39]⟩:ByteArray)).bind λak=>(some (ak,0))) else (if x0=5 then (some (az,0)) else (if x0=6 then (some (a0,0)) else (if x0=7 then (some (a1,0)) else (if x0=8 then ((Zz.f a1 (⟨#[33,39,40,41,126]⟩:ByteArray)).bind λal=>(some (al,0))) else (if x0=9 then (some (ab,0)) else (if x0=10 then ((Z7.f 0 31 ([37,127])).bind λad=>((Z9.f ([ab,ad])).bind λam=>(some (am,0)))) else (some ((Vector.replicate 4 0:Vector Int 4),10))))))))))))))))))))
theorem Xl.c (hs:St w0 ρ (Γ) w) {x0:Int} {r:Vector Int 4×Int} (H:Xl.f x0=some r):Zt Tryz.prog 63 [Lk x0] w (λv w'=>v=.tuple #[.agg (vcs (Value.int .u64) r.1).toArray,Lk r.2]/\St w0 ρ Γ w'):=by
 refine Et Tryz.func63 Tryz.ntmps63 U<|Wr λev cl=>Zx Qf hs U (λcm w hs=>As U<|Ox cl<|Zn λew cn=>Zg ?_);have co:SlR (Rep.int .u8) ρ (Lz) []:=.inl ⟨U,none,0,U⟩;refine M H λaf bd H=>Oc U (Z7.c hs co bd)<|V λw hs=>?_;have cp:SlR (Rep.int .u8) ρ (Lz) []:=.inl ⟨U,none,0,U⟩;refine M H λag be H=>Oc U (Z7.c hs cp be)<|V λw hs=>X5 (xs:=[.tmp 10,.tmp 11]) (cs:=vcs (Value.int .u64) af++(vcs (Value.int .u64) ag++([]))) Zai hs U U U (by decide) (by decide) U (Y8 (Km _ _) (Y8 (Km _ _) X8)) (Ym U (Ym U Xc)) (λez w hs=>?_);have cq:Z3 (Rep.arr (Value.int .u64) (Ya .u64) 4) ρ (vcs (Value.int .u64) af++(vcs (Value.int .u64) ag++([]))) [af,ag]:=Z3.cons (c:=vcs (Value.int .u64) af) (x:=af) U (Z3.cons (c:=vcs (Value.int .u64) ag) (x:=ag) U (Z3.nil _ _));obtain ⟨cr,ac,hs,ct⟩:=hs.rowEnd (j:=0) cq U;refine M H λah bf H=>Oc U (Z9.c hs ct bf)<|V λw hs=>Zx Qf hs U (λcu w hs=>Zw (j:=0) (u:=ah) Z1 (Ya .u64) hs U U U (λw hs=>Ox cn<|Wr λe1 cv=>O_y U (Z8 (j:=0) Yo Z1 hs U U)<|M H λai bg H=>Oc U (Zz.c hs bg)<|V λw hs=>Zx Qf hs U (λcw w hs=>Zw (j:=0) (u:=ai) Z1 (Ya .u64) hs U U U (λw hs=>Ox cv<|Wr λe3 cx=>O_y U (Z8 (j:=0) Yo Z1 hs U U)<|M H λaz bh H=>Oc U (Zz.c hs bh)<|V λw hs=>Zx Qf hs U (λcy w hs=>Zw (j:=0) (u:=az) Z1 (Ya .u64) hs U U U (λw hs=>Ox cx<|Wr λe5 cz=>O_y U (Z8 (j:=0) Yo Z1 hs U U)<|M H λa0 bi H=>Oc U (Zz.c hs bi)<|V λw hs=>Zx Qf hs U (λda w hs=>Zw (j:=0) (u:=a0) Z1 (Ya .u64) hs U U U (λw hs=>Ox cz<|W.weak [(0,_),(2,_),(4,_),(5,_),(6,_),(7,_)] sbn<|Wr λe7 db=>O_y U (Z8 (j:=0) Yo Z1 hs U U)<|M H λa1 bj H=>Oc U (Zz.c hs bj)<|V λw hs=>?_))))))));refine Zx Qf hs U (λdc w hs=>Zw (j:=0) (u:=a1) Z1 (Ya .u64) hs U U U (λw hs=>Ox db<|Wr λe9 dd=>X5 (xs:=[.const (.int .u8 9),.const (.int .u8 10),.const (.int .u8 13)]) (cs:=[.int .u8 9,.int .u8 10,.int .u8 13]) J3 hs U U U (by decide) (by decide) U (Y8 U (Y8 U (Y8 U X8))) (Ym U (Ym U (Ym U Xc))) (λde w hs=>?_)));have bk:Z3 (Rep.int .u8) cr ([.int .u8 9,.int .u8 10,.int .u8 13]) [9,10,13]:=Z3.cons (c:=[.int .u8 9]) (x:=9) U (Z3.cons (c:=[.int .u8 10]) (x:=10) U (Z3.cons (c:=[.int .u8 13]) (x:=13) U (Z3.nil _ _)));obtain ⟨a3,aa,hs,bl⟩:=hs.rowEnd (j:=0) bk U;refine M H λa2 a4 H=>Oc U (Z7.c hs bl a4)<|V λw hs=>M H λab a5 H=>Oc U (Zz.c hs a5)<|V λw hs=>Zx Qf hs U (λbm w hs=>Zw (j:=0) (u:=ab) Z1 (Ya .u64) hs U U U (λw hs=>Ox dd<|Zn λdh bn=>Wr λdi bo=>Mv U<|Ox bo<|Zu λdj dk dl=>Wr λdm bp=>Oeq U<|As U<|Zh (bp _ _<|W.weak [(2,_),(4,_),(5,_),(6,_),(7,_),(8,_),(9,_),(25,_),(26,_)] sbn<|Z H (Yu U) (λ_ H=>?_) λ_ H=>?_)));refine Wr λdn bq=>O_y U (Z8 (j:=5) Yo Z1 hs U U)<|Zw (j:=6) (u:=ah) Z1 (Ya .u64) hs U U U (λw hs=>As U<|Ox bq<|Zv ?_);cases H
 exact Qe (i:=6) U U U Yo Z1 hs U (by simp) ⟨(by simp only [List.nil_append,List.append_nil]),((hs.sub (ssk (ssk (ssk (ssk (ssk (ssk (ssk ssr)))))))).less (ac.trans aa))⟩;refine Wr λdp br=>Oeq U<|As U<|Ox br<|Z H (Yu U) (λ_ H=>?_) λ_ H=>?_;refine Wr λdq bs=>O_y U (Z8 (j:=5) Yo Z1 hs U U)<|M H λaj a6 H=>Oc U (Zz.c hs a6)<|V λw hs=>Zw (j:=6) (u:=aj) Z1 (Ya .u64) hs U U U (λw hs=>As U<|Ox bs<|Zv ?_);cases H;exact Qe (i:=6) U U U Yo Z1 hs U (by simp) ⟨(by simp only [List.nil_append,List.append_nil]),((hs.sub (ssk (ssk (ssk (ssk (ssk (ssk (ssk ssr)))))))).less (ac.trans aa))⟩;refine Wr λds bt=>Oeq U<|As U<|Ox bt<|Z H (Yu U) (λ_ H=>?_) λ_ H=>?_;refine Wr λdt bu=>O_y U (Z8 (j:=4) Yo Z1 hs U U)<|Zw (j:=6) (u:=ai) Z1 (Ya .u64) hs U U U (λw hs=>As U<|Ox bu<|W.weak [(2,_),(3,_)] (T2 U)<|Zv ?_);cases H;exact Qe (i:=6) U U U Yo Z1 hs U (by simp) ⟨(by simp only [List.nil_append,List.append_nil]),((hs.sub (ssk (ssk (ssk (ssk (ssk (ssk (ssk ssr)))))))).less (ac.trans aa))⟩;refine Wr λdu bv=>Oeq U<|As U<|Ox bv<|W.weak [(2,_),(5,_),(6,_),(7,_),(8,_),(9,_),(25,_),(36,_)] sbn<|Z H (Yu U) (λ_ H=>?_) λ_ H=>?_;refine Wr λdv bw=>O_y U (Z8 (j:=4) Yo Z1 hs U U)<|M H λak a7 H=>Oc U (Zz.c hs a7)<|V λw hs=>Zw (j:=6) (u:=ak) Z1 (Ya .u64) hs U U U (λw hs=>As U<|Ox bw<|Zv ?_);cases H;exact Qe (i:=6) U U U Yo Z1 hs U (by simp) ⟨(by simp only [List.nil_append,List.append_nil]),((hs.sub (ssk (ssk (ssk (ssk (ssk (ssk (ssk ssr)))))))).less (ac.trans aa))⟩;refine Wr λdx bx=>Oeq U<|As U<|Ox bx<|Z H (Yu U) (λ_ H=>?_) λ_ H=>?_;refine Wr λdy bz=>O_y U (Z8 (j:=3) Yo Z1 hs U U)<|Zw (j:=6) (u:=az) Z1 (Ya .u64) hs U U U (λw hs=>As U<|Ox bz<|Zv ?_);cases H;exact Qe (i:=6) U U U Yo Z1 hs U (by simp) ⟨(by simp only [List.nil_append,List.append_nil]),((hs.sub (ssk (ssk (ssk (ssk (ssk (ssk (ssk ssr)))))))).less (ac.trans aa))⟩;refine Wr λdz b0=>Oeq U<|As U<|Ox b0<|Z H (Yu U) (λ_ H=>?_) λ_ H=>?_;refine Wr λea b1=>O_y U (Z8 (j:=2) Yo Z1 hs U U)<|Zw (j:=6) (u:=a0) Z1 (Ya .u64) hs U U U (λw hs=>As U<|Ox b1<|Zv ?_);cases H;exact Qe (i:=6) U U U Yo Z1 hs U (by simp) ⟨(by simp only [List.nil_append,List.append_nil]),((hs.sub (ssk (ssk (ssk (ssk (ssk (ssk (ssk ssr)))))))).less (ac.trans aa))⟩;refine Wr λeb b2=>Oeq U<|As U<|Ox b2<|Z H (Yu U) (λ_ H=>?_) λ_ H=>?_;refine Wr λec b3=>O_y U (Z8 (j:=1) Yo Z1 hs U U)<|Zw (j:=6) (u:=a1) Z1 (Ya .u64) hs U U U (λw hs=>As U<|Ox b3<|W.weak [(2,_),(3,_)] (T2 U)<|Zv ?_);cases H;exact Qe (i:=6) U U U Yo Z1 hs U (by simp) ⟨(by simp only [List.nil_append,List.append_nil]),((hs.sub (ssk (ssk (ssk (ssk (ssk (ssk (ssk ssr)))))))).less (ac.trans aa))⟩;refine Wr λed b4=>Oeq U<|As U<|Ox b4<|W.weak [(2,_),(8,_),(9,_),(25,_),(49,_)] sbn<|Z H (Yu U) (λ_ H=>?_) λ_ H=>?_
 refine Wr λee b5=>O_y U (Z8 (j:=1) Yo Z1 hs U U)<|M H λal a8 H=>Oc U (Zz.c hs a8)<|V λw hs=>Zw (j:=6) (u:=al) Z1 (Ya .u64) hs U U U (λw hs=>As U<|Ox b5<|Zv ?_);cases H;exact Qe (i:=6) U U U Yo Z1 hs U (by simp) ⟨(by simp only [List.nil_append,List.append_nil]),((hs.sub (ssk (ssk (ssk (ssk (ssk (ssk (ssk ssr)))))))).less (ac.trans aa))⟩;refine Wr λeg b6=>Oeq U<|As U<|Ox b6<|Z H (Yu U) (λ_ H=>?_) λ_ H=>?_;refine Wr λeh b7=>O_y U (Z8 (j:=0) Yo Z1 hs U U)<|Zw (j:=6) (u:=ab) Z1 (Ya .u64) hs U U U (λw hs=>As U<|Ox b7<|Zv ?_);cases H;exact Qe (i:=6) U U U Yo Z1 hs U (by simp) ⟨(by simp only [List.nil_append,List.append_nil]),((hs.sub (ssk (ssk (ssk (ssk (ssk (ssk (ssk ssr)))))))).less (ac.trans aa))⟩;refine Wr λei b8=>Oeq U<|As U<|Ox b8<|Z H (Yu U) (λ_ H=>?_) λ_ H=>?_;refine Zn λej b9=>X9 7 [0,0,2,5,12,31,63] [22,25,1,0,0,0,0] [0,0,2,7,15,31,63] [5,6] (λw=>St w0 a3 ((.box bm 110 ([]++(vcs (Value.int .u64) ab++[])))::(.box dc 110 ([]++(vcs (Value.int .u64) a1++[])))::(.box da 110 ([]++(vcs (Value.int .u64) a0++[])))::(.box cy 110 ([]++(vcs (Value.int .u64) az++[])))::(.box cw 110 ([]++(vcs (Value.int .u64) ai++[])))::(.box cu 110 ([]++(vcs (Value.int .u64) ah++[])))::(.box cm 110 ([]++(vcs (Value.int .u64) (Vector.replicate 4 0:Vector Int 4)++[])))::Γ) w) mixed (by kernel_rfl) (λsh=>?_);have hs:=hs.drew;refine Fy 0 sh U hs (λw hs=>Z8 (j:=0) Yo Z1 hs U U)<|F1 1 sh U (λek ca=>X5 (xs:=[.const (.int .u8 37),.const (.int .u8 127)]) (cs:=[.int .u8 37,.int .u8 127]) J3 hs U U U (by decide) (by decide) U (Y8 U (Y8 U X8)) (Ym U (Ym U Xc)) (λel w hs=>?_));have cb:Z3 (Rep.int .u8) a3 ([.int .u8 37,.int .u8 127]) [37,127]:=Z3.cons (c:=[.int .u8 37]) (x:=37) U (Z3.cons (c:=[.int .u8 127]) (x:=127) U (Z3.nil _ _));refine Zh (ca _ _ (λ_ _=>(hs.sub (ssk (ssc (ssc (ssc (ssc (ssc (ssc (ssc ssr)))))))))) ?_);obtain ⟨cc,ae,hs,cd⟩:=hs.rowEnd (j:=0) cb U;refine F1 2 sh U (λem ce=>M H λad a9 H=>Oc U (Z7.c hs cd a9)<|V λw hs=>Zh (ce _ _ (λ_ _=>(hs.less ae))<|F1 3 sh U (λeo cf=>X5 (xs:=[.tmp 58,.tmp 60]) (cs:=vcs (Value.int .u64) ab++(vcs (Value.int .u64) ad++([]))) Zai hs U U U (by decide) (by decide) U (Y8 (Km _ _) (Y8 (Km _ _) X8)) (Ym U (Ym U Xc)) (λep w hs=>?_))));have cg:Z3 (Rep.arr (Value.int .u64) (Ya .u64) 4) cc (vcs (Value.int .u64) ab++(vcs (Value.int .u64) ad++([]))) [ab,ad]:=Z3.cons (c:=vcs (Value.int .u64) ab) (x:=ab) U (Z3.cons (c:=vcs (Value.int .u64) ad) (x:=ad) U (Z3.nil _ _));refine Zh (cf _ _ (λ_ _=>((hs.less ae).sub (ssk (ssc (ssc (ssc (ssc (ssc (ssc (ssc ssr)))))))))) ?_);obtain ⟨eq,ba,hs,ch⟩:=hs.rowEnd (j:=0) cg U;have bb:=ae.trans ba
 refine F1 4 sh U (λer ci=>M H λam bc H=>Oc U (Z9.c hs ch bc)<|V λw hs=>Zh (ci _ _ (λ_ _=>(hs.less bb))<|F1 5 sh U (λet cj=>Zw (j:=6) (u:=am) Z1 (Ya .u64) hs U U U (λw hs=>Zh (cj _ _ (λh _=>absurd h (by decide))<|Yk sh [] hs (by kernel_rfl)<|Fp 6 sh U (λw=>Yz U)<|FE sh (b9 _ _<|W.weak [(2,_),(3,_)] (T2 U)<|Zv ?_))))));cases H;exact Qe (i:=6) U U U Yo Z1 hs U (by simp) ⟨(by simp only [List.nil_append,List.append_nil]),((hs.sub (ssk (ssk (ssk (ssk (ssk (ssk (ssk ssr)))))))).less ((ac.trans aa).trans bb))⟩;refine Wx bn<|Wr λeu ck=>O_y U (Vs (zs:=vcs (Value.int .u64) (Vector.replicate 4 0:Vector Int 4)) Vg U3 Zd0)<|Zw (j:=6) (u:=(Vector.replicate 4 0:Vector Int 4)) Z1 (Ya .u64) hs U U U (λw hs=>As U<|Ox ck<|Zv ?_);cases H;exact Qe (i:=6) U U U Yo Z1 hs U (by simp) ⟨(by simp only [List.nil_append,List.append_nil]),((hs.sub (ssk (ssk (ssk (ssk (ssk (ssk (ssk ssr)))))))).less (ac.trans aa))⟩

end
section
open Go.IntKind (i8 i16 i32 i64 u8 u16 u32 u64)
open Go.RowKit
set_option maxRecDepth 100000
set_option maxHeartbeats 4000000
variable {w0 w:World} {ρ:Hp} {Γ:List Yd}
def Hv:Nat:=140737488355328
def Zs.j1 (k:ByteArray->Int->Option ByteArray) (x0:List Int) (i:Int) (out:ByteArray):Option ByteArray:=if (0:Int)<=i/\i<(x0.length:Int) then ((Q5.f (rd x0 i)).bind λh=>(if out.size+h.size<=Hv then (k (out++h) (i64.wrap (i+1))) else none)) else none
def Zs.j2 (k:ByteArray->Int->Option ByteArray) (x0:List Int) (i:Int) (out:ByteArray) (b:Bool):Option ByteArray:=if b=true then (if out.size+1<=Hv then (Zs.j1 k x0 i (out++(⟨#[58]⟩:ByteArray))) else none) else (Zs.j1 k x0 i out)
def Zs.l1:Nat->List Int->Int->Int->ByteArray->Int->Option ByteArray
 | 0,_,_,_,_,_=>none
 | f+1,x0,at_,n,out,i=>if i<(x0.length:Int) then (if i=at_ then (if out.size+2<=Hv then (Zs.l1 f x0 at_ n (out++(⟨#[58,58]⟩:ByteArray)) (i64.wrap (i+1))) else none) else (if (if (if 0<=at_ then decide (at_<i) else false)=true then decide (i<i64.wrap (at_+n)) else false)=true then (Zs.l1 f x0 at_ n out (i64.wrap (i+1))) else (Zs.j2 (Zs.l1 f x0 at_ n) x0 i out (if 0<i then decide (i≠i64.wrap (at_+n)) else false)))) else (some out)
def Zs.f (x0:List Int):Option ByteArray:=(Yh.f x0).bind λr=>Zs.l1 K0 x0 r.1 r.2 (⟨#[]⟩:ByteArray) 0
theorem bap (a b:ByteArray):a.data.toList++b.data.toList=(a++b).data.toList:=by simp
theorem Bd.lx {w1:World} {b:Nat} {l m:List UInt8} (e:l=m) (h:Bd 67 5 w1 b l w):Bd 67 5 w1 b m w:=e▸h
theorem Zs.c (hs:St w0 ρ (Γ) w) {v0:Value} {x0:List Int} (h0:SlR (Rep.int .u16) ρ v0 x0) {r:ByteArray} (H:Zs.f x0=some r):Zt Tryz.prog 25 [v0] w (λv w'=>v=.string r/\St w0 ρ Γ w'):=by
 rw [Zs.f] at H;obtain ⟨ar,er,H⟩:=bnd H;refine Et Tryz.func25 Tryz.ntmps25 rfl<|Wr λ_ a1=>As rfl<|Ox a1<|Wr λ_ a2=>Mv rfl ?_;refine Oc rfl (Yh.c hs h0 er) (λv1 w hp=>?_);obtain ⟨rfl,hs⟩:=hp;refine Mv rfl<|Oxt rfl<|Oxt rfl<|As rfl<|As rfl<|Ox a2<|Wr λ_ a3=>Vr (e:=5) Zd1 rfl λb w1 hb=>Ox a3 ?_;have hs1:=hs.under hb.1;refine Zn λ_ a4=>Wr λ_ a5=>Mv rfl<|O_y rfl (Um Zc4 h0 rfl)<|Mv rfl<|Ox a5<|Zu λ_ a6 a7=>Xa (σ:=Nat×ByteArray×Int) (λ(_,_,i)=>[(0,v0),(3,.int .i64 ar.1),(4,.int .i64 ar.2),(5,.pointer (some ⟨b,0,none⟩)),(13,.int .i64 (x0.length:Int)),(14,.int .i64 i)]) (λ(f,out,i) w'=>Zs.l1 f x0 ar.1 ar.2 out i=some r/\Bd 67 5 w b out.data.toList w') (λs=>s.1) (K0,(⟨#[]⟩:ByteArray),0) sbn (Ai H hb) ?_;rintro ⟨f,out,i⟩ wl a8 ⟨H,hb⟩ a9;show W _ _ _ _ _ _ [(0,v0),(3,.int .i64 ar.1),(4,.int .i64 ar.2),(5,.pointer (some ⟨b,0,none⟩)),(13,.int .i64 (x0.length:Int)),(14,.int .i64 i)] wl
 cases f with
 | zero=>rw [Zs.l1] at H;cases H
 | succ f=>
 rw [Zs.l1] at H;refine Wr λ_ b1=>Ols rfl<|Ox b1<|Zn λ_ b2=>Yu rfl (λc1=>?_) (λc1=>?_)
 ·rw [if_pos c1] at H
  refine Wx b2<|Ye λb3 b4 b5=>?_;have go:∀ (out':ByteArray) (w':World),Zs.l1 f x0 ar.1 ar.2 out' (i64.wrap (i+1))=some r->Bd 67 5 w b out'.data.toList w'->b3 [(0,v0),(3,.int .i64 ar.1),(4,.int .i64 ar.2),(5,.pointer (some ⟨b,0,none⟩)),(13,.int .i64 (x0.length:Int)),(14,.int .i64 i)] w':=by intro out' w' H hb;refine b4 _ _<|Zg<|Oad rfl<|Mv rfl<|Zh (a9 (f,out',i64.wrap (i+1)) _ _ sbn (Ai H hb) (Nat.lt_succ_self _))
  refine Zu λ_ _ _=>Wr λ_ b6=>Mv rfl<|As rfl<|Ox b6<|Zu λ_ b7 _=>Wr λ_ b8=>Mv rfl<|Mv rfl<|Oeq rfl<|As rfl<|Ox b8<|Yu rfl (λc2=>?_) (λc2=>?_)
  ·rw [if_pos c2] at H
   obtain ⟨g,H⟩:=gd H;refine Zg<|Oc rfl (Zag hb (⟨#[58,58]⟩:ByteArray) g) (λv w' hp=>?_);obtain ⟨rfl,hb⟩:=hp;exact Zh (b5 _ _ _ sbn (go _ _ H (hb.lx (bap _ _))))
  ·rw [if_neg c2] at H
   refine Ye λn9 d1 d2=>?_;have join:∀ (c:Bool) (w':World),(if c=true then Zs.l1 f x0 ar.1 ar.2 out (i64.wrap (i+1)) else Zs.j2 (Zs.l1 f x0 ar.1 ar.2) x0 i out (if 0<i then decide (i≠i64.wrap (ar.1+ar.2)) else false))=some r->Bd 67 5 w b out.data.toList w'->n9 [(0,v0),(3,.int .i64 ar.1),(4,.int .i64 ar.2),(5,.pointer (some ⟨b,0,none⟩)),(6,.int .i64 i),(13,.int .i64 (x0.length:Int)),(14,.int .i64 i),(38,.bool c)] w':=by
    intro c w' H hb;refine d1 _ _<|Y5 rfl (λe=>?_) (λe=>?_)
    ·rw [if_pos e] at H
     exact Xw (b5 _ _ _ sbn (go _ _ H hb))
    ·rw [if_neg (by rw [e];decide)] at H
     refine Ye λn8 f1 f2=>?_;have fin:∀ (out':ByteArray) (w':World),Zs.j1 (Zs.l1 f x0 ar.1 ar.2) x0 i out'=some r->Bd 67 5 w b out'.data.toList w'->n8 [(0,v0),(3,.int .i64 ar.1),(4,.int .i64 ar.2),(5,.pointer (some ⟨b,0,none⟩)),(6,.int .i64 i),(13,.int .i64 (x0.length:Int)),(14,.int .i64 i)] w':=by intro out' w' H hb;rw [Zs.j1] at H;obtain ⟨g1,H⟩:=gd H;obtain ⟨h,eh,H⟩:=bnd H;obtain ⟨g2,H⟩:=gd H;obtain ⟨q1,q2,q3,q4⟩:=h0.ix Zdm g1.1 g1.2;have hsb:=hb.st hs;refine f1 _ _<|Zg<|Mv rfl<|Mv rfl<|O_y rfl (q4 rfl rfl)<|O_y rfl (Ka Zbo rfl (hsb.see q3.int))<|Oc rfl (Q5.c (St.refl w') eh) (λv w2 hp=>?_);obtain ⟨rfl,hk⟩:=hp;have hb:=hb.keep hk.below;refine Oc rfl (Zag hb h g2) (λv w3 hp=>?_);obtain ⟨rfl,hb⟩:=hp;exact Zh (b5 _ _ _ sbn (go _ _ H (hb.lx (bap _ _))))
     refine Ye λn7 g1 g2=>?_;have mid:∀ (c:Bool) (w':World),Zs.j2 (Zs.l1 f x0 ar.1 ar.2) x0 i out c=some r->Bd 67 5 w b out.data.toList w'->n7 [(0,v0),(3,.int .i64 ar.1),(4,.int .i64 ar.2),(5,.pointer (some ⟨b,0,none⟩)),(6,.int .i64 i),(13,.int .i64 (x0.length:Int)),(14,.int .i64 i),(25,.bool c)] w':=by
      intro c w' H hb;rw [Zs.j2] at H;refine g1 _ _<|Y5 rfl (λe=>?_) (λe=>?_)
      ·rw [if_pos e] at H
       obtain ⟨g,H⟩:=gd H;refine Zg<|Oc rfl (Zcv hb 58 g) (λv w2 hp=>?_);obtain ⟨rfl,hb⟩:=hp;exact Zh (f2 _ _ _ sbn (fin _ _ H (hb.lx (by simp))))
      ·rw [if_neg (by rw [e];decide)] at H
       exact Xw (f2 _ _ _ sbn (fin _ _ H hb))
     refine Zg<|Mv rfl<|Ogt rfl<|Mv rfl<|X4 (dj:=19) rfl (λc3=>?_) (λc3=>?_)
     ·rw [if_pos c3] at H
      refine Oe rfl<|Mv rfl<|Oe rfl<|Mv rfl<|Oe rfl<|Mv rfl<|Oe rfl<|Oad rfl<|Oe rfl<|One rfl<|Opk rfl<|Zh (g2 _ _ _ sbn (mid _ _ H hb))
     ·rw [if_neg c3] at H
      refine On rfl<|On rfl<|On rfl<|On rfl<|On rfl<|Opk rfl<|Zh (g2 _ _ _ sbn (mid _ _ H hb))
   refine Zg<|Mv rfl<|Oge rfl<|Mv rfl<|X4 (dj:=41) rfl (λc3=>?_) (λc3=>?_)
   ·rw [if_pos c3] at H
    refine Oe rfl<|Mv rfl<|Oe rfl<|Mv rfl<|Oe rfl<|Ogt rfl<|Opk rfl<|Mv rfl<|X4 (dj:=46) rfl (λc4=>?_) (λc4=>?_)
    ·rw [decide_eq_true c4,if_pos rfl] at H
     refine Oe rfl<|Mv rfl<|Oe rfl<|Mv rfl<|Oe rfl<|Mv rfl<|Oe rfl<|Oad rfl<|Oe rfl<|Ols rfl<|Opk rfl<|As rfl<|Zh (d2 _ _ _ sbn (join _ _ H hb))
    ·rw [decide_eq_false c4] at H
     refine On rfl<|On rfl<|On rfl<|On rfl<|On rfl<|Opk rfl<|As rfl<|Zh (d2 _ _ _ sbn (join false _ H hb))
   ·rw [if_neg c3] at H
    refine On rfl<|On rfl<|On rfl<|Opk rfl<|Mv rfl<|On rfl<|On rfl<|On rfl<|On rfl<|On rfl<|Opk rfl<|As rfl<|Zh (d2 _ _ _ sbn (join false _ H hb))
 ·rw [if_neg c1] at H
  obtain rfl:=Yg H;refine Y2 (a6 _ _ (a4 _ _<|Wr λ_ z1=>Oc rfl (Gl hb hs) (λv w' hp=>?_)));obtain ⟨rfl,hs⟩:=hp;refine As rfl<|Ox z1<|Zv ?_;exact r1 rfl ⟨rfl,hs⟩
def X2.f (x0:ByteArray) (_:Vector Int 4):Option ByteArray:=if x0=(⟨#[]⟩:ByteArray) then some (⟨#[]⟩:ByteArray) else none
theorem X2.c (hs:St w0 ρ (Γ) w) {x0:ByteArray} {x1:Vector Int 4} {r:ByteArray} (H:X2.f x0 x1=some r):Zt Tryz.prog 64 [.string x0,.agg (vcs (Value.int .u64) x1).toArray] w (λv w'=>v=.string r/\St w0 ρ Γ w'):=by
 obtain ⟨e,H⟩:=gd H;obtain rfl:=Yg H;subst e;refine Et Tryz.func64 Tryz.ntmps64 rfl<|Wr λ_ a1=>Qb hs rfl rfl (λag w hs=>As rfl<|Ox a1<|Wr λ_ a2=>Vr (e:=5) Zd1 rfl λb w1 hb=>Ox a2 ?_);refine Zn λ_ a3=>Wr λ_ a4=>Mv rfl<|O_y rfl (Xx un9 rfl)<|Mv rfl<|Ox a4<|Zu λ_ a5 _=>Xa (σ:=Unit) (λ_=>[(5,.pointer (some ⟨b,0,none⟩)),(8,.int .i64 0),(9,.int .i64 0)]) (λ_ w'=>Bd 67 5 w b [] w') (λ_=>0) () sbn hb ?_;rintro _ wl a8 hb a9;refine Wr λ_ b1=>Ols rfl<|Ox b1<|Zn λ_ b2=>Yu rfl (λc=>absurd c (by decide)) (λ_=>Y2 (a5 _ _ (a3 _ _<|Wr λ_ z1=>Oc rfl (Gl hb hs) (λv w' hp=>?_))));obtain ⟨rfl,hs⟩:=hp;refine As rfl<|Ox z1<|Zv ?_;exact r1 rfl ⟨rfl,hs.sub (ssk ssr)⟩
end
section
open Go.RowKit Go.Shelf
set_option maxRecDepth 100000
def Gb:Ren:=⟨Vd [(156,24),(165,31),(166,32),(169,33),(240,52),(241,53),(276,79),(277,80)],Vd [(0,0),(3,3),(4,4),(5,5),(9,9),(20,20),(31,36),(37,63),(70,65),(72,67),(75,70),(76,71),(80,73),(127,95),(164,129)],λn=>n⟩
theorem Zbv:Lays.n156 Tryz.prog Gb where
 mixed:=mixed
 f156:=Tryz.func24.trans (congrArg some (by kernel_rfl))
 f165:=Tryz.func31.trans (congrArg some (by kernel_rfl))
 f166:=Tryz.func32.trans (congrArg some (by kernel_rfl))
 f169:=Tryz.func33.trans (congrArg some (by kernel_rfl))
 f240:=Tryz.func52.trans (congrArg some (by kernel_rfl))
 f241:=Tryz.func53.trans (congrArg some (by kernel_rfl))
 f276:=Tryz.func79.trans (congrArg some (by kernel_rfl))
 f277:=Tryz.func80.trans (congrArg some (by kernel_rfl))
 t0:=by kernel_rfl
 a0:=λ_=>Ze (by kernel_rfl)
 z0:=λ_=>Zc (by kernel_rfl)
 v0:=λ_=>Zf (by kernel_rfl)
 t3:=by kernel_rfl
 a3:=λ_=>Ze (by kernel_rfl)
 z3:=λ_=>Zc (by kernel_rfl)
 v3:=λ_=>Zf (by kernel_rfl)
 t4:=by kernel_rfl
 a4:=λ_=>Ze (by kernel_rfl)
 z4:=λ_=>Zc (by kernel_rfl)
 v4:=λ_=>Zf (by kernel_rfl)
 t9:=by kernel_rfl
 a9:=λ_=>Ze (by kernel_rfl)
 z9:=λ_=>Zc (by kernel_rfl)
 v9:=λ_=>Zf (by kernel_rfl)
 t20:=by kernel_rfl
 a20:=λ_=>Ze (by kernel_rfl)
 z20:=λ_=>Zc (by kernel_rfl)
 v20:=λ_=>Zf (by kernel_rfl)
 t31:=by kernel_rfl
 a31:=λ_=>Ze (by kernel_rfl)
 z31:=λ_=>Zc (by kernel_rfl)
 v31:=λ_=>Zf (by kernel_rfl)
 t37:=by kernel_rfl
 a37:=λ_=>Ze (by kernel_rfl)
 z37:=λ_=>Zc (by kernel_rfl)
 v37:=λ_=>Zf (by kernel_rfl)
 t70:=by kernel_rfl
 a70:=λ_=>Ze (by kernel_rfl)
 z70:=λ_=>Zc (by kernel_rfl)
 v70:=λ_=>Zf (by kernel_rfl)
 t72:=by kernel_rfl
 a72:=λ_=>Ze (by kernel_rfl)
 z72:=λ_=>Zc (by kernel_rfl)
 v72:=λ_=>Zf (by kernel_rfl)
 t75:=by kernel_rfl
 a75:=λ_=>Ze (by kernel_rfl)
 z75:=λ_=>Zc (by kernel_rfl)
 v75:=λ_=>Zf (by kernel_rfl)
 t76:=by kernel_rfl
 a76:=λ_=>Ze (by kernel_rfl)
 z76:=λ_=>Zc (by kernel_rfl)
 v76:=λ_=>Zf (by kernel_rfl)
 t127:=by kernel_rfl
 a127:=λ_=>Ze (by kernel_rfl)
 z127:=λ_=>Zc (by kernel_rfl)
 v127:=λ_=>Zf (by kernel_rfl)
 t164:=by kernel_rfl
 a164:=λ_=>Ze (by kernel_rfl)
 z164:=λ_=>Zc (by kernel_rfl)
 v164:=λ_=>Zf (by kernel_rfl)
theorem Zak:Builder.Extra Tryz.prog Gb where
 sizeBuilder:=by kernel_rfl
 liesBuilder:=by kernel_rfl
 infoByte:=by kernel_rfl
 cellsByte:=by kernel_rfl
 sizeByte:=by kernel_rfl
 t5:=by kernel_rfl
 neB5:=by decide
 a5:=λ_=>Ze (by kernel_rfl)
 z5:=λ_=>Zc (by kernel_rfl)
 v5:=λ_=>Zf (by kernel_rfl)
theorem Xq.c {w0 w:World} {ρ:Hp} {Γ:List Yd} (hs:St w0 ρ Γ w) {v0:Value} {x0:List ByteArray} (h0:SlR Rep.str ρ v0 x0) {x1 r:ByteArray} (H:Xq.f x0 x1=some r):Zt Tryz.prog 24 [v0,.string x1] w (λv w'=>v=.string r/\St w0 ρ Γ w'):=
 H6 (ρs:=Gb) Zbv Zak (Xy Tryz.func24 (by kernel_rfl) (by kernel_rfl)) hs h0 H
end
section
open Go.IntKind (i8 i16 i32 i64 u8 u16 u32 u64)
open Go.RowKit
set_option maxRecDepth 100000
set_option maxHeartbeats 400000
variable {w0 w:World} {ρ:Hp} {Γ:List Yd}
set_option linter.unusedVariables false
def Z0.f (x0:S10):Option S10:=some (⟨x0.kind,x0.text,x0.four,x0.six0,x0.six1,x0.six2,x0.six3,x0.six4,x0.six5,x0.six6,x0.six7⟩:S10)
theorem Z0.c (hs:St w0 ρ (Γ) w) {c0:List Value} {x0:S10} (h0:Yv.R ρ c0 x0) {r:S10} (H:Z0.f x0=some r):Zt Tryz.prog 4 [.agg c0.toArray] w (λv w'=>∃ (ρ':Hp) (cs0:List Value),v=.agg cs0.toArray/\Le ρ ρ'/\St w0 ρ' (Γ) w'/\Yv.R ρ' cs0 r):=by
 rw [Z0.f] at H;refine Et Tryz.func4 Tryz.ntmps4 U ?_;have aa:=h0;obtain rfl:=aa;refine Wr λad ab=>X0 (cs:=[Lk x0.kind,.string x0.text,.int .u32 x0.four,.int .u16 x0.six0,.int .u16 x0.six1,.int .u16 x0.six2,.int .u16 x0.six3,.int .u16 x0.six4,.int .u16 x0.six5,.int .u16 x0.six6,.int .u16 x0.six7]) hs U U (λae w hs=>Zx Qy hs U (λaf w hs=>Ox ab<|Wr λag ac=>Ofd Kb U<|Obx 1 ag3 hs U<|Ofd Qq U<|Obx 1 ag9 hs U<|Ofd Ut U<|Obx 1 Zaf hs U<|Ofd Uu U<|O_y U (Zq (i:=1) Zcu Zb5 hs U U U U)<|O_y U (Kh (cs:=[Lk x0.kind,.string x0.text,.int .u32 x0.four,.int .u16 x0.six0,.int .u16 x0.six1,.int .u16 x0.six2,.int .u16 x0.six3,.int .u16 x0.six4,.int .u16 x0.six5,.int .u16 x0.six6,.int .u16 x0.six7]) Qy Zd4 ((Xs.cons U U (Xs.cons U U (Xs.cons U U (Xs.cons U U Xs.nil))))) Kn (by kernel_rfl))<|Y1 (i:=0) Q8 hs U U U U U (Za U (Za U (Za U (Za U (Za U (Za U (Za U (Za U (Za U (Za U (Za U Yt))))))))))) (λw hs=>Ox ac<|Zv ?_)));cases H;exact G2 (i:=0) U U Kn Q8 hs U U ⟨_,_,U,Le.rfl' _,(hs.sub (ssk (ssk ssr))),(show Yv.R ρ _ (⟨x0.kind,x0.text,x0.four,x0.six0,x0.six1,x0.six2,x0.six3,x0.six4,x0.six5,x0.six6,x0.six7⟩:S10) from U)⟩

def Zp.j1 (ab:Bool):Option Bool:=some ab
def Zp.j2 (ac:Bool):Option Bool:=some ac
def Zp.j3 (ad:Bool):Option Bool:=some ad
def Zp.j4 (ae:Bool):Option Bool:=some ae
def Zp.j5 (x0:S10) (aa:Bool):Option Bool:=if aa=true then (if x0.text≠(⟨#[]⟩:ByteArray) then (if x0.four=0 then (Zp.j1 (decide (([x0.six0,x0.six1,x0.six2,x0.six3,x0.six4,x0.six5,x0.six6,x0.six7]:List Int)=[0,0,0,0,0,0,0,0]))) else (Zp.j1 false)) else (Zp.j1 false)) else (if x0.kind=2 then (if x0.text=(⟨#[]⟩:ByteArray) then (Zp.j2 (decide (([x0.six0,x0.six1,x0.six2,x0.six3,x0.six4,x0.six5,x0.six6,x0.six7]:List Int)=[0,0,0,0,0,0,0,0]))) else (Zp.j2 false)) else (if x0.kind=3 then (if x0.text=(⟨#[]⟩:ByteArray) then (Zp.j3 (decide (x0.four=0))) else (Zp.j3 false)) else (if x0.kind=5 then (if x0.text=(⟨#[]⟩:ByteArray) then (if x0.four=0 then (Zp.j4 (decide (([x0.six0,x0.six1,x0.six2,x0.six3,x0.six4,x0.six5,x0.six6,x0.six7]:List Int)=[0,0,0,0,0,0,0,0]))) else (Zp.j4 false)) else (Zp.j4 false)) else (some false))))
def Zp.f (x0:S10):Option Bool:=if x0.kind=1 then (Zp.j5 x0 (decide (x0.kind=1))) else (Zp.j5 x0 (decide (x0.kind=4)))
theorem Zp.c (hs:St w0 ρ (Γ) w) {c0:List Value} {x0:S10} (h0:Yv.R ρ c0 x0) {r:Bool} (H:Zp.f x0=some r):Zt Tryz.prog 5 [.agg c0.toArray] w (λv w'=>v=.bool r/\St w0 ρ Γ w'):=by
 rw [Zp.f] at H;refine Et Tryz.func5 Tryz.ntmps5 U ?_;have a5:=h0;obtain rfl:=a5;refine Wr λbq a6=>X0 (cs:=[Lk x0.kind,.string x0.text,.int .u32 x0.four,.int .u16 x0.six0,.int .u16 x0.six1,.int .u16 x0.six2,.int .u16 x0.six3,.int .u16 x0.six4,.int .u16 x0.six5,.int .u16 x0.six6,.int .u16 x0.six7]) hs U U (λai w hs=>As U<|Ox a6<|Wr λbr a7=>Ofd Zan U<|Obx 0 Zaf hs U<|Oeq U<|As U<|Ox a7<|Zn λbs a8=>Zg<|Ofd Zao U<|O_y U (Zq (i:=0) Zbp Zb6 hs U U U U)<|O_y U (Vs (zs:=vcs (Value.int .u16) (Vector.replicate 8 0:Vector Int 8)) Zc3 Zb4 Zd9)<|O_y U (Zbk (xs:=[x0.six0,x0.six1,x0.six2,x0.six3,x0.six4,x0.six5,x0.six6,x0.six7]) (ys:=[0,0,0,0,0,0,0,0]) Zdk U U U U)<|As U<|Ox a8<|Zn λbt a9=>Wr λbu ba=>Ofd J5 U<|Obx 0 ag3 hs U<|Ox ba<|Zu λbv bw bx=>Ye λbb bc az=>?_);have a0 (aa:Bool) (w:World) (H:Zp.j5 x0 aa=some r) (hs:St w0 ρ ((.box ai 30 ([Lk x0.kind,.string x0.text,.int .u32 x0.four,.int .u16 x0.six0,.int .u16 x0.six1,.int .u16 x0.six2,.int .u16 x0.six3,.int .u16 x0.six4,.int .u16 x0.six5,.int .u16 x0.six6,.int .u16 x0.six7]))::Γ) w):bb [(1,Ll ai),(3,.bool (decide (x0.four=0))),(4,.bool (decide (([x0.six0,x0.six1,x0.six2,x0.six3,x0.six4,x0.six5,x0.six6,x0.six7]:List Int)=[0,0,0,0,0,0,0,0]))),(13,Lk x0.kind),(14,.bool aa)] w:=by
  refine bc _ _<|Ra H (Y5 U) (λ_ H=>?_) λ_ H=>?_;refine Ye λbd be ak=>?_;have al (ab:Bool) (w:World) (H:Zp.j1 ab=some r) (hs:St w0 ρ ((.box ai 30 ([Lk x0.kind,.string x0.text,.int .u32 x0.four,.int .u16 x0.six0,.int .u16 x0.six1,.int .u16 x0.six2,.int .u16 x0.six3,.int .u16 x0.six4,.int .u16 x0.six5,.int .u16 x0.six6,.int .u16 x0.six7]))::Γ) w):bd [(2,.bool ab)] w:=by rw [Zp.j1] at H;refine be _ _<|Zv ?_;cases H;exact r1 U ⟨U,(hs.sub (ssk ssr))⟩
  refine Zg<|Ofd X6 U<|Obx 0 ag9 hs U<|O_y U (Kt U U)<|Mv U<|Z H (X4 (dj:=20) U) (λ_ H=>?_) λ_ H=>?_;refine Oe U<|Mv U<|Opk U<|Mv U<|Z H (X4 (dj:=23) U) (λ_ H=>?_) λ_ H=>?_;refine Oe U<|Mv U<|Opk U<|As U<|Zh (ak _ _ _ (S1 U) (al (decide (([x0.six0,x0.six1,x0.six2,x0.six3,x0.six4,x0.six5,x0.six6,x0.six7]:List Int)=[0,0,0,0,0,0,0,0])) _ H hs));refine On U<|Opk U<|As U<|Zh (ak _ _ _ (S1 U) (al false _ H hs));refine On U<|Opk U<|Mv U<|On U<|Opk U<|As U<|Zh (ak _ _ _ (S1 U) (al false _ H hs));refine Wr λbz bf=>Oeq U<|As U<|Ox bf<|Z H (Yu U) (λ_ H=>?_) λ_ H=>?_;refine Ye λbg bh a1=>?_;have a2 (ac:Bool) (w:World) (H:Zp.j2 ac=some r) (hs:St w0 ρ ((.box ai 30 ([Lk x0.kind,.string x0.text,.int .u32 x0.four,.int .u16 x0.six0,.int .u16 x0.six1,.int .u16 x0.six2,.int .u16 x0.six3,.int .u16 x0.six4,.int .u16 x0.six5,.int .u16 x0.six6,.int .u16 x0.six7]))::Γ) w):bg [(2,.bool ac)] w:=by rw [Zp.j2] at H;refine bh _ _<|Zv ?_;cases H;exact r1 U ⟨U,(hs.sub (ssk ssr))⟩
  refine Zg<|Ofd X6 U<|Obx 0 ag9 hs U<|O_y U (Q0 U U)<|Mv U<|Z H (X4 (dj:=31) U) (λ_ H=>?_) λ_ H=>?_;refine Oe U<|Mv U<|Opk U<|As U<|Zh (a1 _ _ _ (S1 U) (a2 (decide (([x0.six0,x0.six1,x0.six2,x0.six3,x0.six4,x0.six5,x0.six6,x0.six7]:List Int)=[0,0,0,0,0,0,0,0])) _ H hs));refine On U<|Opk U<|As U<|Zh (a1 _ _ _ (S1 U) (a2 false _ H hs));refine Wr λb0 bi=>Oeq U<|As U<|Ox bi<|Z H (Yu U) (λ_ H=>?_) λ_ H=>?_;refine Ye λbj bk a3=>?_;have a4 (ad:Bool) (w:World) (H:Zp.j3 ad=some r) (hs:St w0 ρ ((.box ai 30 ([Lk x0.kind,.string x0.text,.int .u32 x0.four,.int .u16 x0.six0,.int .u16 x0.six1,.int .u16 x0.six2,.int .u16 x0.six3,.int .u16 x0.six4,.int .u16 x0.six5,.int .u16 x0.six6,.int .u16 x0.six7]))::Γ) w):bj [(2,.bool ad)] w:=by rw [Zp.j3] at H;refine bk _ _<|Zv ?_;cases H;exact r1 U ⟨U,(hs.sub (ssk ssr))⟩
  refine Zg<|Ofd X6 U<|Obx 0 ag9 hs U<|O_y U (Q0 U U)<|Mv U<|Z H (X4 (dj:=39) U) (λ_ H=>?_) λ_ H=>?_;refine Oe U<|Mv U<|Opk U<|As U<|Zh (a3 _ _ _ (S1 U) (a4 (decide (x0.four=0)) _ H hs));refine On U<|Opk U<|As U<|Zh (a3 _ _ _ (S1 U) (a4 false _ H hs));refine Wr λb1 bl=>Oeq U<|As U<|Ox bl<|Z H (Yu U) (λ_ H=>?_) λ_ H=>?_;refine Ye λbm bn av=>?_;have aw (ae:Bool) (w:World) (H:Zp.j4 ae=some r) (hs:St w0 ρ ((.box ai 30 ([Lk x0.kind,.string x0.text,.int .u32 x0.four,.int .u16 x0.six0,.int .u16 x0.six1,.int .u16 x0.six2,.int .u16 x0.six3,.int .u16 x0.six4,.int .u16 x0.six5,.int .u16 x0.six6,.int .u16 x0.six7]))::Γ) w):bm [(2,.bool ae)] w:=by rw [Zp.j4] at H;refine bn _ _<|Zv ?_;cases H;exact r1 U ⟨U,(hs.sub (ssk ssr))⟩
  refine Zg<|Ofd X6 U<|Obx 0 ag9 hs U<|O_y U (Q0 U U)<|Mv U<|Z H (X4 (dj:=47) U) (λ_ H=>?_) λ_ H=>?_;refine Oe U<|Mv U<|Opk U<|Mv U<|Z H (X4 (dj:=50) U) (λ_ H=>?_) λ_ H=>?_;refine Oe U<|Mv U<|Opk U<|As U<|Zh (av _ _ _ (S1 U) (aw (decide (([x0.six0,x0.six1,x0.six2,x0.six3,x0.six4,x0.six5,x0.six6,x0.six7]:List Int)=[0,0,0,0,0,0,0,0])) _ H hs));refine On U<|Opk U<|As U<|Zh (av _ _ _ (S1 U) (aw false _ H hs));refine On U<|Opk U<|Mv U<|On U<|Opk U<|As U<|Zh (av _ _ _ (S1 U) (aw false _ H hs));refine Wx a9<|Wr λbo ax=>As U<|Ox ax<|Zv ?_;cases H;exact r1 U ⟨U,(hs.sub (ssk ssr))⟩
 refine Wr λbp ay=>Oeq U<|As U<|Ox ay<|W.weak [(1,_),(3,_),(4,_),(13,_),(14,_)] sbn<|Z H (Yu U) (λ_ H=>?_) λ_ H=>?_;exact Xw (az _ _ _ sbn (a0 (decide (x0.kind=1)) _ H hs));refine Zg<|Oeq U<|As U<|Zh (az _ _ _ sbn (a0 (decide (x0.kind=4)) _ H hs))

def Z6.j1 (x0:S10) (ab ac ad ae af ag ah ai aa:Int):Option Bool:=some ((x0.kind == x0.kind&&(decide (x0.text=(⟨#[]⟩:ByteArray))&&(x0.four == ab&&true)))&&decide (([x0.six0,x0.six1,x0.six2,x0.six3,x0.six4,x0.six5,x0.six6,x0.six7]:List Int)=[ac,ad,ae,af,ag,ah,ai,aa]))
def Z6.j2 (aj:Bool):Option Bool:=some aj
def Z6.j3 (x0:S10) (ak:Bool):Option Bool:=if ak=true then (if ((x0.kind == x0.kind&&(decide (x0.text=x0.text)&&(x0.four == 0&&true)))&&decide (([x0.six0,x0.six1,x0.six2,x0.six3,x0.six4,x0.six5,x0.six6,x0.six7]:List Int)=[0,0,0,0,0,0,0,0]))=true then (Z6.j2 (decide (x0.text≠(⟨#[]⟩:ByteArray)))) else (Z6.j2 false)) else (if x0.kind=2 then (Z6.j1 x0 x0.four 0 0 0 0 0 0 0 0) else (if x0.kind=3 then (Z6.j1 x0 0 x0.six0 x0.six1 x0.six2 x0.six3 x0.six4 x0.six5 x0.six6 x0.six7) else (if x0.kind=5 then (Z6.j1 x0 0 0 0 0 0 0 0 0 0) else (some false))))
def Z6.f (x0:S10):Option Bool:=if x0.kind=1 then (Z6.j3 x0 (decide (x0.kind=1))) else (Z6.j3 x0 (decide (x0.kind=4)))
theorem Z6.c (hs:St w0 ρ (Γ) w) {c0:List Value} {x0:S10} (h0:Yv.R ρ c0 x0) {r:Bool} (H:Z6.f x0=some r):Zt Tryz.prog 9 [.agg c0.toArray] w (λv w'=>v=.bool r/\St w0 ρ Γ w'):=by
 rw [Z6.f] at H;refine Et Tryz.func9 Tryz.ntmps9 U ?_;have a1:=h0;obtain rfl:=a1;refine Wr λbi a2=>X0 (cs:=[Lk x0.kind,.string x0.text,.int .u32 x0.four,.int .u16 x0.six0,.int .u16 x0.six1,.int .u16 x0.six2,.int .u16 x0.six3,.int .u16 x0.six4,.int .u16 x0.six5,.int .u16 x0.six6,.int .u16 x0.six7]) hs U U (λal w hs=>As U<|Ox a2<|Wr λbj a3=>Ofd Kb U<|Obx 0 ag3 hs U<|O_y U (Kh (cs:=[Lk x0.kind,.string (⟨#[]⟩:ByteArray),.int .u32 0,.int .u16 0,.int .u16 0,.int .u16 0,.int .u16 0,.int .u16 0,.int .u16 0,.int .u16 0,.int .u16 0]) Vp Zax ((Xs.cons U U Xs.nil)) Xj (by kernel_rfl))<|Zx Vp hs U (λam w hs=>Y1 (i:=0) Xe hs U U U U U (Za U (Za U (Za U (Za U (Za U (Za U (Za U (Za U (Za U (Za U (Za U Yt))))))))))) (λw hs=>Ox a3<|Ye λa4 a5 an=>?_)));have ao (ab:Int) (ac:Int) (ad:Int) (ae:Int) (af:Int) (ag:Int) (ah:Int) (ai:Int) (aa:Int) (w:World) (H:Z6.j1 x0 ab ac ad ae af ag ah ai aa=some r) (hs:St w0 ρ ((.box am 27 ([Lk x0.kind,.string (⟨#[]⟩:ByteArray),.int .u32 ab,.int .u16 ac,.int .u16 ad,.int .u16 ae,.int .u16 af,.int .u16 ag,.int .u16 ah,.int .u16 ai,.int .u16 aa]))::(.box al 27 ([Lk x0.kind,.string x0.text,.int .u32 x0.four,.int .u16 x0.six0,.int .u16 x0.six1,.int .u16 x0.six2,.int .u16 x0.six3,.int .u16 x0.six4,.int .u16 x0.six5,.int .u16 x0.six6,.int .u16 x0.six7]))::Γ) w):a4 [(1,Ll al),(3,Ll am)] w:=by rw [Z6.j1] at H;refine a5 _ _<|Wr λbk a6=>O_y U (Zq (i:=1) Xj Xe hs U U U U)<|O_y U (Zq (i:=0) Xj Xe hs U U U U)<|O_y U (Js [Lk x0.kind,.string x0.text,.int .u32 x0.four] [Lk x0.kind,.string (⟨#[]⟩:ByteArray),.int .u32 ab] [x0.six0,x0.six1,x0.six2,x0.six3,x0.six4,x0.six5,x0.six6,x0.six7] [ac,ad,ae,af,ag,ah,ai,aa] Zam Zbr U U U U U)<|As U<|Ox a6<|Zv ?_;cases H;exact r1 U ⟨U,(hs.sub (ssk (ssk ssr)))⟩
 refine Wr λbl a7=>Ofd Kb U<|Obx 1 ag3 hs U<|Ox a7<|Zu λbm bn bo=>Ye λa8 a9 ax=>?_;have ay (ak:Bool) (w:World) (H:Z6.j3 x0 ak=some r) (hs:St w0 ρ ((.box am 27 ([Lk x0.kind,.string (⟨#[]⟩:ByteArray),.int .u32 0,.int .u16 0,.int .u16 0,.int .u16 0,.int .u16 0,.int .u16 0,.int .u16 0,.int .u16 0,.int .u16 0]))::(.box al 27 ([Lk x0.kind,.string x0.text,.int .u32 x0.four,.int .u16 x0.six0,.int .u16 x0.six1,.int .u16 x0.six2,.int .u16 x0.six3,.int .u16 x0.six4,.int .u16 x0.six5,.int .u16 x0.six6,.int .u16 x0.six7]))::Γ) w):a8 [(1,Ll al),(3,Ll am),(8,Lk x0.kind),(9,.bool ak)] w:=by
  refine a9 _ _<|Ra H (Y5 U) (λ_ H=>?_) λ_ H=>?_;refine Wr λbp ba=>Ofd Qq U<|Obx 1 ag9 hs U<|Ofd Qq U<|Ul (i:=0) sz9 hs U U U U U (λw hs=>Ox ba<|Ye λbb bc az=>?_);have a0 (aj:Bool) (w:World) (H:Z6.j2 aj=some r) (hs:St w0 ρ ((.box am 27 ([Lk x0.kind,.string x0.text,.int .u32 0,.int .u16 0,.int .u16 0,.int .u16 0,.int .u16 0,.int .u16 0,.int .u16 0,.int .u16 0,.int .u16 0]))::(.box al 27 ([Lk x0.kind,.string x0.text,.int .u32 x0.four,.int .u16 x0.six0,.int .u16 x0.six1,.int .u16 x0.six2,.int .u16 x0.six3,.int .u16 x0.six4,.int .u16 x0.six5,.int .u16 x0.six6,.int .u16 x0.six7]))::Γ) w):bb [(2,.bool aj)] w:=by rw [Z6.j2] at H;refine bc _ _<|Zv ?_;cases H;exact r1 U ⟨U,(hs.sub (ssk (ssk ssr)))⟩
  refine Zg<|O_y U (Zq (i:=1) Xj Xe hs U U U U)<|O_y U (Zq (i:=0) Xj Xe hs U U U U)<|O_y U (Js [Lk x0.kind,.string x0.text,.int .u32 x0.four] [Lk x0.kind,.string x0.text,.int .u32 0] [x0.six0,x0.six1,x0.six2,x0.six3,x0.six4,x0.six5,x0.six6,x0.six7] [0,0,0,0,0,0,0,0] Zam Zbr U U U U U)<|Mv U<|Ra H (Xv (dj:=18) U) (λ_ H=>?_) λ_ H=>?_;refine Oe U<|Ofd Qq U<|Oe U<|Obx 1 ag9 hs U<|Oe U<|O_y U (Kt U U)<|Opk U<|As U<|Zh (az _ _ _ (S1 U) (a0 (decide (x0.text≠(⟨#[]⟩:ByteArray))) _ H hs));refine On U<|On U<|On U<|Opk U<|As U<|Zh (az _ _ _ (S1 U) (a0 false _ H hs));refine Wr λbq bd=>Oeq U<|As U<|Ox bd<|Z H (Yu U) (λ_ H=>?_) λ_ H=>?_;refine Zg<|Ofd Ut U<|Obx 1 Zaf hs U<|Ofd Ut U<|Ul (i:=0) Zd6 hs U U U U U (λw hs=>Zh (an _ _ _ (T2 U) (ao x0.four 0 0 0 0 0 0 0 0 _ H hs)));refine Wr λbr be=>Oeq U<|As U<|Ox be<|Z H (Yu U) (λ_ H=>?_) λ_ H=>?_;refine Zg<|Ofd Uu U<|O_y U (Zq (i:=1) Zcu Zb5 hs U U U U)<|Ofd Uu U<|Y1 (i:=0) Zb5 hs U U U U U (Za U (Za U (Za U (Za U (Za U (Za U (Za U (Za U Yt)))))))) (λw hs=>Zh (an _ _ _ (T2 U) (ao 0 x0.six0 x0.six1 x0.six2 x0.six3 x0.six4 x0.six5 x0.six6 x0.six7 _ H hs)));refine Wr λbs bf=>Oeq U<|As U<|Ox bf<|Z H (Yu U) (λ_ H=>?_) λ_ H=>?_;exact Xw (an _ _ _ (T2 U) (ao 0 0 0 0 0 0 0 0 0 _ H hs));refine Wr λbt bg=>As U<|Ox bg<|Zv ?_;cases H;exact r1 U ⟨U,(hs.sub (ssk (ssk ssr)))⟩
 refine Wr λbu bh=>Oeq U<|As U<|Ox bh<|Z H (Yu U) (λ_ H=>?_) λ_ H=>?_;exact Xw (ax _ _ _ (T4 U) (ay (decide (x0.kind=1)) _ H hs));refine Zg<|Oeq U<|As U<|Zh (ax _ _ _ (T4 U) (ay (decide (x0.kind=4)) _ H hs))

def Xk.f (x0:Int):Option (Vector Int 4):=some (#v[u8.wrap (x0.fdiv (2^(min (24:Int).toNat u32.bits))),u8.wrap (x0.fdiv (2^(min (16:Int).toNat u32.bits))),u8.wrap (x0.fdiv (2^(min (8:Int).toNat u32.bits))),u8.wrap x0])
theorem Xk.c (hs:St w0 ρ (Γ) w) {x0:Int} {r:Vector Int 4} (H:Xk.f x0=some r):Zt Tryz.prog 22 [.int .u32 x0] w (λv w'=>v=.agg (vcs (Value.int .u8) r).toArray/\St w0 ρ Γ w'):=by
 rw [Xk.f] at H;refine Et Tryz.func22 Tryz.ntmps22 U<|Wr λac aa=>Zx Zeb hs U (λad w hs=>Ox aa<|Wr λae ab=>Mv U<|O_y U (Hc U U (by decide))<|O_y U (Xh Za9 un5 U)<|Mv U<|O_y U (Hc U U (by decide))<|O_y U (Xh Za9 un5 U)<|Mv U<|O_y U (Hc U U (by decide))<|O_y U (Xh Za9 un5 U)<|Mv U<|O_y U (Xh Za9 un5 U)<|O_y U (Hy (xs:=[.tmp 5,.tmp 8,.tmp 11,.tmp 13]) (zs:=vcs (Value.int .u8) #v[u8.wrap (x0.fdiv (2^(min (24:Int).toNat u32.bits))),u8.wrap (x0.fdiv (2^(min (16:Int).toNat u32.bits))),u8.wrap (x0.fdiv (2^(min (8:Int).toNat u32.bits))),u8.wrap x0]) Zdy sz5 Zea U U U (Jc U (Jc U (Jc U (Jc U Zb3)))) U)<|Zw (j:=0) (u:=#v[u8.wrap (x0.fdiv (2^(min (24:Int).toNat u32.bits))),u8.wrap (x0.fdiv (2^(min (16:Int).toNat u32.bits))),u8.wrap (x0.fdiv (2^(min (8:Int).toNat u32.bits))),u8.wrap x0]) Zdw (Ya .u8) hs U U U (λw hs=>Ox ab<|Zv ?_));cases H;exact G2 (i:=0) U U Zd3 Zdw hs U (by simp) ⟨(by simp only [List.nil_append,List.append_nil]),(hs.sub (ssk ssr))⟩

def Yi.l1:Nat->Vector Int 4->List ByteArray->Int->Option ByteArray
  | 0,_,_,_=>none
  | ae+1,ah,aa,ab=>if ab<4 then (if (0:Int)<=ab/\ab<((4:Nat):Int) then ((strconv_Itoa.f (i64.wrap (vg ah ab))).bind λag=>(if aa.length+([ag]).length<=most then ((Yi.l1 ae ah) (aa++([ag])) (i64.wrap (ab+1))) else none)) else none) else ((Xq.f aa (⟨#[46]⟩:ByteArray)).bind λap=>(some ap))
def Yi.f (x0:Int):Option ByteArray:=(Xk.f x0).bind λah=>(Yi.l1 K0 ah ([]:List ByteArray) 0)
theorem Yi.c (hs:St w0 ρ (Γ) w) (hL:Jw w0) {x0:Int} {r:ByteArray} (H:Yi.f x0=some r):Zt Tryz.prog 15 [.int .u32 x0] w (λv w'=>v=.string r/\St w0 ρ Γ w'):=by
 refine Et Tryz.func15 Tryz.ntmps15 U<|Wr λba au=>As U<|Ox au<|Wr λbb av=>As U ?_;have hs:=hs.rowNil 9 Rep.str.sz;have aw:=Z3.nil Rep.str ρ;refine Ox av<|Zn λbc ax=>Wr λbd ay=>Mv U<|M H λah aj H=>Oc U (Xk.c hs aj)<|V λw hs=>Mv U<|Ox ay<|Zu λbf az bg=>Xa (σ:=Nat×List ByteArray×Int×Value×List Value) (λ(ae,aa,ab,ac,ad)=>[(3,ac),(7,.agg (vcs (Value.int .u8) ah).toArray),(8,Lk ab)]) (λ(ae,aa,ab,ac,ad) w=>Yi.l1 ae ah aa ab=some r/\St w0 ρ ((.row ac 9 Rep.str.sz aa.length ad)::Γ) w/\Z3 Rep.str ρ ad aa) (λs=>s.1) (K0,([]:List ByteArray),0,(Lz),([])) (T3 U) (Ai H (Ai hs aw)) ?_;rintro ⟨ae,aa,ab,ac,ad⟩ w bh ⟨H,hs,af⟩ ai;show W _ _ _ _ _ _ [(3,ac),(7,.agg (vcs (Value.int .u8) ah).toArray),(8,Lk ab)] w
 cases ae with
 | zero=>rw [Yi.l1] at H;cases H
 | succ ae=>
 rw [Yi.l1] at H;refine Wr λbi a0=>Ols U<|Ox a0<|Zn λbj a1=>Z H (Yu U) (λ_ H=>?_) λ_ H=>?_;refine Wx a1<|Zn λbk a2=>Zu λbl bm bn=>Zn λbo a3=>Zg<|G H λaq H=>O_y U (Gj Zdy sz5 ag5 U U aq.1 aq.2)<|As U<|Ox a3<|Zg<|Mv U<|Mv U<|O_y U (Xh un5 un3 U)<|M H λag al H=>Oc U (strconv_Itoa.c hs hL al)<|V λw hs=>X5 (xs:=[.tmp 14]) (cs:=[.string ag]) Ur hs U U U (by decide) (by decide) U (Y8 U X8) (Ym U Xc) (λbq w hs=>?_);have ar:Z3 Rep.str ρ ([.string ag]) [ag]:=Z3.cons (c:=[.string ag]) (x:=ag) U (Z3.nil _ _);refine G H λa4 H=>Qt (i:=1) Ur hs U af U U U (Src.lit (j:=0) hs U ar) ar a4 (λa5 am w a6 hs=>As U<|Ox a2<|Zg<|Oad U<|Mv U<|Zh (ai (ae,(aa++([ag])),(i64.wrap (ab+1)),a5,am) _ _ (T3 U) (Ai H (Ai (hs.sub (ssk (ssc ssr))) a6)) (Nat.lt_succ_self _)));refine Y2 (az _ _ (ax _ _<|Zn λbr a7=>?_));obtain ⟨bs,an,hs,a8⟩:=hs.rowEnd (j:=0) af U;refine Zg<|Mv U<|M H λap ao H=>Oc U (Xq.c hs a8 ao)<|V λw hs=>As U<|Ox a7<|Zv ?_;cases H;exact r1 U ⟨U,(hs.less an)⟩

def X7.f (x0:Vector Int 8):Option ByteArray:=(Zs.f x0.toList).bind λad=>(some ad)
theorem X7.c (hs:St w0 ρ (Γ) w) {x0:Vector Int 8} {r:ByteArray} (H:X7.f x0=some r):Zt Tryz.prog 16 [.agg (vcs (Value.int .u16) x0).toArray] w (λv w'=>v=.string r/\St w0 ρ Γ w'):=by
 refine Et Tryz.func16 Tryz.ntmps16 U<|Wr λah ae=>Qb hs U U (λai w hs=>As U<|Ox ae<|Zn λaj af=>Zg ?_);obtain ⟨ak,aa,hs,ab⟩:=hs.boxEnd (j:=0) U;have ag:=CA.slice (k:=.u16) (x:=x0) (by simpa only [List.nil_append,List.append_nil] using ab);refine O_y U (Hz Zbr U Zb4 U)<|M H λad ac H=>Oc U (Zs.c hs ag ac)<|V λw hs=>As U<|Ox af<|Zv ?_;cases H;exact r1 U ⟨U,(hs.less aa)⟩

def Xo.f (x0:S10):Option (ByteArray×Int):=(Z6.f x0).bind λah=>(if (!ah)=true then (some ((⟨#[]⟩:ByteArray),230)) else (if x0.kind=2 then ((Yi.f x0.four).bind λai=>(some (ai,0))) else (if x0.kind=3 then ((X7.f (#v[x0.six0,x0.six1,x0.six2,x0.six3,x0.six4,x0.six5,x0.six6,x0.six7])).bind λaa=>(if (⟨#[91]⟩:ByteArray).size+aa.size<=9223372036854775807 then (if ((⟨#[91]⟩:ByteArray)++aa).size+(⟨#[93]⟩:ByteArray).size<=9223372036854775807 then (some (((⟨#[91]⟩:ByteArray)++aa)++(⟨#[93]⟩:ByteArray),0)) else none) else none)) else (some (x0.text,0)))))
theorem Xo.c (hs:St w0 ρ (Γ) w) (hL:Jw w0) {c0:List Value} {x0:S10} (h0:Yv.R ρ c0 x0) {r:ByteArray×Int} (H:Xo.f x0=some r):Zt Tryz.prog 6 [.agg c0.toArray] w (λv w'=>v=.tuple #[.string r.1,Lk r.2]/\St w0 ρ Γ w'):=by
 refine Et Tryz.func6 Tryz.ntmps6 U ?_;have aj:=h0;obtain rfl:=aj;refine Wr λaz ak=>X0 (cs:=[Lk x0.kind,.string x0.text,.int .u32 x0.four,.int .u16 x0.six0,.int .u16 x0.six1,.int .u16 x0.six2,.int .u16 x0.six3,.int .u16 x0.six4,.int .u16 x0.six5,.int .u16 x0.six6,.int .u16 x0.six7]) hs U U (λa0 w hs=>As U<|As U<|Ox ak<|Zn λa1 al=>Wr λa2 am=>O_y U (Zq (i:=0) Xj Xe hs U U U U)<|M H λah ab H=>Oc U (Z6.c hs h0 ab)<|V λw hs=>Ont U<|Ox am<|Ra H (Y5 U) (λ_ H=>?_) λ_ H=>?_);refine Wr λa4 an=>As U<|As U<|Ox an<|Zv ?_;cases H;exact Jq U U U ⟨U,(hs.sub (ssk ssr))⟩;refine Wx al<|Zn λa5 ao=>Wr λa6 ap=>Ofd Kb U<|Obx 0 ag3 hs U<|Ox ap<|Zu λa7 a8 a9=>Wr λba aq=>Oeq U<|As U<|Ox aq<|Z H (Yu U) (λ_ H=>?_) λ_ H=>?_;refine Wr λbb ar=>Ofd Ut U<|Obx 0 Zaf hs U<|M H λai ae H=>Oc U (Yi.c hs hL ae)<|V λw hs=>As U<|As U<|Ox ar<|Zv ?_;cases H;exact Jq U U U ⟨U,(hs.sub (ssk ssr))⟩;refine Wr λbd au=>Oeq U<|As U<|Ox au<|Z H (Yu U) (λ_ H=>?_) λ_ H=>?_;refine Wr λbe av=>Ofd Uu U<|O_y U (Zq (i:=0) Zcu Zb5 hs U U U U)<|M H λaa ag H=>Oc U (X7.c hs ag :)<|V λw hs=>G H λaw H=>O_y U (Qn U U aw)<|G H λax H=>O_y U (Qn U U ax)<|As U<|As U<|Ox av<|W.weak [(2,_),(3,_)] (T2 U)<|Zv ?_;cases H;exact Jq U U U ⟨U,(hs.sub (ssk ssr))⟩;refine Wx ao<|Wr λbg ay=>Ofd Qq U<|Obx 0 ag9 hs U<|As U<|As U<|Ox ay<|W.weak [(2,_),(3,_)] (T2 U)<|Zv ?_;cases H;exact Jq U U U ⟨U,(hs.sub (ssk ssr))⟩

def Yn.j1 (x0:S10) (aa:Bool):Option (List ByteArray×Int):=if aa=true then (some (([]:List ByteArray),230)) else ((Y0.f x0.text (⟨#[46]⟩:ByteArray)).bind λag=>(some (ag,0)))
def Yn.f (x0:S10):Option (List ByteArray×Int):=(Z6.f x0).bind λah=>(if (!ah)=true then (Yn.j1 x0 true) else (Yn.j1 x0 (decide (x0.kind≠1))))
theorem Yn.c (hs:St w0 ρ (Γ) w) {c0:List Value} {x0:S10} (h0:Yv.R ρ c0 x0) {r:List ByteArray×Int} (H:Yn.f x0=some r):Zt Tryz.prog 7 [.agg c0.toArray] w (λv w'=>∃ (ρ':Hp) (v0:Value) (cs0:List Value),v=.tuple #[v0,Lk r.2]/\Le ρ ρ'/\St w0 ρ' (.row v0 9 Rep.str.sz r.1.length cs0::Γ) w'/\Z3 Rep.str ρ' cs0 r.1):=by
 rw [Yn.f] at H;refine Et Tryz.func7 Tryz.ntmps7 U ?_;have al:=h0;obtain rfl:=al;refine Wr λax am=>X0 (cs:=[Lk x0.kind,.string x0.text,.int .u32 x0.four,.int .u16 x0.six0,.int .u16 x0.six1,.int .u16 x0.six2,.int .u16 x0.six3,.int .u16 x0.six4,.int .u16 x0.six5,.int .u16 x0.six6,.int .u16 x0.six7]) hs U U (λai w hs=>As U<|As U<|Ox am<|Zn λay an=>Ye λao ap aj=>?_);have ak (aa:Bool) (w:World) (H:Yn.j1 x0 aa=some r) (hs:St w0 ρ ((.box ai 27 ([Lk x0.kind,.string x0.text,.int .u32 x0.four,.int .u16 x0.six0,.int .u16 x0.six1,.int .u16 x0.six2,.int .u16 x0.six3,.int .u16 x0.six4,.int .u16 x0.six5,.int .u16 x0.six6,.int .u16 x0.six7]))::Γ) w):ao [(1,Ll ai),(11,.bool aa)] w:=by refine ap _ _<|Ra H (Y5 U) (λ_ H=>?_) λ_ H=>?_;refine Wr λaz aq=>As U<|As U<|Ox aq<|Zv ?_;have hs:=hs.rowNil 9 Rep.str.sz;have ar:=Z3.nil Rep.str ρ;cases H;exact Jq U U U ⟨_,_,_,U,Le.rfl' _,(hs.sub (ssc (ssk ssr))),ar⟩;refine Wx an<|Wr λa0 au=>Ofd Qq U<|Obx 0 ag9 hs U<|M H λag ac H=>Oc U (Y0.c hs ac) (λa1 w hpost=>?_);obtain ⟨a2,a3,av,rfl,ad,hs,aw⟩:=hpost;refine As U<|As U<|Ox au<|Zv ?_;cases H;exact Jq U U U ⟨_,_,_,U,ad,(hs.sub (ssc (ssk ssr))),aw⟩
 refine Zg<|O_y U (Zq (i:=0) Xj Xe hs U U U U)<|M H λah ae H=>Oc U (Z6.c hs h0 ae)<|V λw hs=>Ont U<|Mv U<|Ra H (Xv (dj:=7) U) (λ_ H=>?_) λ_ H=>?_;refine On U<|On U<|On U<|Opk U<|Zh (aj _ _ _ (T2 U) (ak true _ H hs));refine Oe U<|Ofd Kb U<|Oe U<|Obx 0 ag3 hs U<|Oe U<|One U<|Opk U<|Zh (aj _ _ _ (T2 U) (ak (decide (x0.kind≠1)) _ H hs))

def Zl.j1 (aa:Bool):Option Bool:=some aa
def Zl.f (x0 x1:ByteArray):Option Bool:=if (x1.size:Int)<=(x0.size:Int) then (if (0:Int)<=0/\0<=(x1.size:Int)/\(x1.size:Int)<=(x0.size:Int) then (Zl.j1 (decide ((x0.extract (0:Int).toNat ((x1.size:Int):Int).toNat)=x1))) else none) else (Zl.j1 false)
theorem Zl.c (hs:St w0 ρ (Γ) w) {x0 x1:ByteArray} {r:Bool} (H:Zl.f x0 x1=some r):Zt Tryz.prog 59 [.string x0,.string x1] w (λv w'=>v=.bool r/\St w0 ρ Γ w'):=by
 rw [Zl.f] at H;refine Et Tryz.func59 Tryz.ntmps59 U<|Wr λai af=>As U<|Ox af<|Ye λag ah ad=>?_;have ae (aa:Bool) (w:World) (H:Zl.j1 aa=some r) (hs:St w0 ρ (Γ) w):ag [(4,.bool aa)] w:=by rw [Zl.j1] at H;refine ah _ _<|Zv ?_;cases H;exact r1 U ⟨U,hs⟩
 refine Zg<|Mv U<|O_y U (Xx un9 U)<|Mv U<|O_y U (Xx un9 U)<|Oge U<|Mv U<|Z H (X4 (dj:=10) U) (λ_ H=>?_) λ_ H=>?_;refine Oe U<|Mv U<|Oe U<|Mv U<|Oe U<|O_y U (Xx un9 U)<|G H λac H=>Oe U<|O_y U (Kr un9 U (.inl ⟨U,U⟩) (.inr ⟨_,_,U,U⟩) ac.1 ac.2.1 ac.2.2)<|Oe U<|Mv U<|Oe U<|O_y U (Q0 U U)<|Opk U<|As U<|Zh (ad _ _ _ (S1 U) (ae (decide ((x0.extract (0:Int).toNat ((x1.size:Int):Int).toNat)=x1)) _ H hs));refine On U<|On U<|On U<|On U<|On U<|On U<|Opk U<|As U<|Zh (ad _ _ _ (S1 U) (ae false _ H hs))

def Y7.f (x0 x1:ByteArray):Option Bool:=(Zl.f x0 x1).bind λab=>(some ab)
theorem Y7.c (hs:St w0 ρ (Γ) w) {x0 x1:ByteArray} {r:Bool} (H:Y7.f x0 x1=some r):Zt Tryz.prog 40 [.string x0,.string x1] w (λv w'=>v=.bool r/\St w0 ρ Γ w'):=by
 refine Et Tryz.func40 Tryz.ntmps40 U<|Wr λae ac=>As U<|Ox ac<|Wr λaf ad=>Mv U<|Mv U<|M H λab aa H=>Oc U (Zl.c hs aa)<|V λw hs=>As U<|Ox ad<|Zv ?_;cases H;exact r1 U ⟨U,hs⟩

def Yj.l1:Nat->ByteArray->Option (List S11)
  | 0,_=>none
  | aa+1,x0=>if 0<(x0.size:Int) then (if (0:Int)<=0/\0<=(x0.size:Int)/\(x0.size:Int)<=(x0.size:Int) then none else none) else (some ([]:List S11))
def Yj.f (x0:ByteArray):Option (List S11):=Yj.l1 K0 x0 
theorem Yj.c (hs:St w0 ρ (Γ) w) {x0:ByteArray} {r:List S11} (H:Yj.f x0=some r):Zt Tryz.prog 61 [.string x0] w (λv w'=>∃ (ρ':Hp) (v0:Value) (cs0:List Value),v=v0/\Le ρ ρ'/\St w0 ρ' (.row v0 107 U0.sz r.length cs0::Γ) w'/\Z3 U0 ρ' cs0 r):=by
 rw [Yj.f] at H;refine Et Tryz.func61 Tryz.ntmps61 U<|Wr λan ae=>As U<|Ox ae<|Wr λao af=>As U ?_;have hs:=hs.rowNil 107 U0.sz;have ag:=Z3.nil U0 ρ;refine Ox af<|Zn λap ah=>Wr λaq ai=>As U<|Ox ai<|Zu λar aj au=>Xa (σ:=Nat) (λaa=>[(0,.string x0),(3,Lz),(4,Lk 0)]) (λaa w=>Yj.l1 aa x0=some r/\St w0 ρ ((.row (Lz) 107 U0.sz (([]:List S11).length) ([]))::Γ) w) (λs=>s) (K0) (T3 U) (Ai H hs) ?_;rintro aa w av ⟨H,hs⟩ ab;show W _ _ _ _ _ _ [(0,.string x0),(3,Lz),(4,Lk 0)] w
 cases aa with
 | zero=>rw [Yj.l1] at H;cases H
 | succ aa=>
 rw [Yj.l1] at H;refine Zn λaw ak=>Wr λax al=>Mv U<|Mv U<|O_y U (Xx un9 U)<|Ols U<|Ox al<|Z H (Yu U) (λ_ H=>?_) λ_ H=>?_;refine Wx ak<|Zu λay az a0=>Wr λa1 a2=>Mv U<|Mv U<|G H λad H=>O_y U (Kr un9 U (.inr ⟨_,_,U,U⟩) (.inl ⟨U,U⟩) ad.1 ad.2.1 ad.2.2) ?_;cases H;refine Y2 (aj _ _ (ah _ _<|Wr λa3 am=>Mv U<|As U<|Ox am<|Zv ?_));cases H;exact r1 U ⟨_,_,_,U,Le.rfl' _,hs,ag⟩

def Qw.f (x0:Vector Int 4) (x1:Int):Option Bool:=if (0:Int)<=u8.wrap (x1.tdiv 64)/\u8.wrap (x1.tdiv 64)<((4:Nat):Int) then (if (0:Int)<=x1.tmod 64 then (some (decide ((Xg .u64 ((vg x0 (u8.wrap (x1.tdiv 64))).fdiv (2^(min (x1.tmod 64).toNat 64))) 1)=1))) else none) else none
theorem Qw.c (hs:St w0 ρ (Γ) w) {x0:Vector Int 4} {x1:Int} {r:Bool} (H:Qw.f x0 x1=some r):Zt Tryz.prog 96 [.agg (vcs (Value.int .u64) x0).toArray,.int .u8 x1] w (λv w'=>v=.bool r/\St w0 ρ Γ w'):=by
 refine Et Tryz.func96 Tryz.ntmps96 U<|Wr λae ab=>Qb hs U U (λaf w hs=>As U<|Ox ab<|Wr λag ac=>Mv U<|O_y U (Vv U U (by decide))<|G H λaa H=>O_y U (Q1 Vg U3 U U aa.1 aa.2)<|O_y U (Qv (j:=0) Zbq hs U U aa.1 aa.2 U)<|Mv U<|O_y U (Jy U U (by decide))<|G H λad H=>O_y U (Hc U U ad)<|O_y U (Zcb U U)<|Oeq U<|As U<|Ox ac<|Zv ?_);cases H;exact r1 U ⟨U,(hs.sub (ssk ssr))⟩

def Xf.j1 (x0 x1:Int) (aa:Bool):Option Bool:=if aa=true then (some false) else ((Xl.f x1).bind λab=>((Qw.f ab.1 (u8.wrap x0)).bind λag=>(some ag)))
def Xf.f (x0 x1:Int):Option Bool:=if x0<0 then (Xf.j1 x0 x1 true) else (Xf.j1 x0 x1 (decide (127<x0)))
theorem Xf.c (hs:St w0 ρ (Γ) w) {x0 x1:Int} {r:Bool} (H:Xf.f x0 x1=some r):Zt Tryz.prog 92 [Lj x0,Lk x1] w (λv w'=>v=.bool r/\St w0 ρ Γ w'):=by
 rw [Xf.f] at H;refine Et Tryz.func92 Tryz.ntmps92 U<|Wr λaq aj=>As U<|Ox aj<|Zn λar ak=>Ye λal am ah=>?_;have ai (aa:Bool) (w:World) (H:Xf.j1 x0 x1 aa=some r) (hs:St w0 ρ (Γ) w):al [(0,Lj x0),(1,Lk x1),(12,.bool aa)] w:=by refine am _ _<|Ra H (Y5 U) (λ_ H=>?_) λ_ H=>?_;refine Wr λau an=>As U<|Ox an<|Zv ?_;cases H;exact r1 U ⟨U,hs⟩;refine Wx ak<|Wr λav ao=>Mv U<|M H λab ad H=>Oc U (Xl.c hs ad)<|V λw hs=>Mv U<|Oxt U<|Oxt U<|Zx Qf hs U (λax w hs=>Zw (j:=0) (u:=ab.1) Z1 (Ya .u64) hs U U U (λw hs=>As U<|Ox ao<|Wr λay ap=>O_y U (Z8 (j:=0) Yo Z1 hs U U)<|Mv U<|O_y U (Xh Zdx un5 U)<|M H λag ae H=>Oc U (Qw.c hs ae)<|V λw hs=>As U<|Ox ap<|W.weak [(4,_)] (S1 U)<|Zv ?_));cases H;exact r1 U ⟨U,(hs.sub (ssk ssr))⟩
 refine Zg<|Mv U<|Ols U<|Mv U<|Z H (X4 (dj:=9) U) (λ_ H=>?_) λ_ H=>?_;refine On U<|On U<|Opk U<|Zh (ah _ _ _ (T3 U) (ai true _ H hs));refine Oe U<|Mv U<|Oe U<|Ogt U<|Opk U<|Zh (ah _ _ _ (T3 U) (ai (decide (127<x0)) _ H hs))

def Qc.f (x0:Int):Option Bool:=(Xf.f x0 9).bind λab=>(some ab)
theorem Qc.c (hs:St w0 ρ (Γ) w) {x0:Int} {r:Bool} (H:Qc.f x0=some r):Zt Tryz.prog 62 [Lj x0] w (λv w'=>v=.bool r/\St w0 ρ Γ w'):=by
 refine Et Tryz.func62 Tryz.ntmps62 U<|Wr λae ac=>As U<|Ox ac<|Wr λaf ad=>Mv U<|M H λab aa H=>Oc U (Xf.c hs aa)<|V λw hs=>As U<|Ox ad<|Zv ?_;cases H;exact r1 U ⟨U,hs⟩

def Yl.l1:Nat->List S11->List Int->Int->Option (List Int)
  | 0,_,_,_=>none
  | af+1,ae,aa,ab=>if ab<(ae.length:Int) then (if (0:Int)<=ab/\ab<(ae.length:Int) then (if aa.length+([(rd ae ab).rune]).length<=most then ((Yl.l1 af ae) (aa++([(rd ae ab).rune])) (i64.wrap (ab+1))) else none) else none) else (some aa)
def Yl.f (x0:ByteArray):Option (List Int):=(Yj.f x0).bind λae=>(Yl.l1 K0 ae ([]:List Int) 0)
theorem Yl.c (hs:St w0 ρ (Γ) w) {x0:ByteArray} {r:List Int} (H:Yl.f x0=some r):Zt Tryz.prog 44 [.string x0] w (λv w'=>∃ (ρ':Hp) (v0:Value) (cs0:List Value),v=v0/\Le ρ ρ'/\St w0 ρ' (.row v0 21 (Rep.int .i32).sz r.length cs0::Γ) w'/\Z3 (Rep.int .i32) ρ' cs0 r):=by
 refine Et Tryz.func44 Tryz.ntmps44 U<|Wr λbb ax=>As U<|Ox ax<|Wr λbc ay=>As U ?_;have hs:=hs.rowNil 21 (Rep.int .i32).sz;have az:=Z3.nil (Rep.int .i32) ρ;refine Ox ay<|Zn λbd a0=>Wr λbe a1=>Mv U<|M H λae am H=>Oc U (Yj.c hs am) (λan w hpost=>?_);obtain ⟨ao,bf,ap,rfl,ai,hs,a2⟩:=hpost;refine O_y U (X1 (i:=0) Za8 hs U U)<|Mv U<|Ox a1<|Zu λbg a3 bh=>Xa (σ:=Nat×List Int×Int×Value×List Value) (λ(af,aa,ab,ac,ad)=>[(3,ac),(7,an),(8,Lk (ae.length:Int)),(9,Lk ab)]) (λ(af,aa,ab,ac,ad) w=>Yl.l1 af ae aa ab=some r/\St w0 ao ((.row an 107 U0.sz ae.length ap)::(.row ac 21 ((Rep.int .i32).sz) aa.length ad)::Γ) w/\Z3 (Rep.int .i32) ao ad aa) (λs=>s.1) (K0,([]:List Int),0,(Lz),([])) (T4 U) (Ai H (Ai hs (az.mono ai))) ?_;rintro ⟨af,aa,ab,ac,ad⟩ w bi ⟨H,hs,ag⟩ ah;show W _ _ _ _ _ _ [(3,ac),(7,an),(8,Lk (ae.length:Int)),(9,Lk ab)] w
 cases af with
 | zero=>rw [Yl.l1] at H;cases H
 | succ af=>
 rw [Yl.l1] at H;refine Wr λbj a4=>Ols U<|Ox a4<|Zn λbk a5=>Z H (Yu U) (λ_ H=>?_) λ_ H=>?_;refine Wx a5<|Zn λbl a6=>Zu λbm bn bo=>Zn λbp a7=>Zg ?_;obtain ⟨aj,H⟩:=gd H;obtain ⟨bq,ak⟩:=hs.rowBlock (j:=0) U (by have:=aj.2;omega);obtain ⟨_,rfl,ar⟩:=a2.at aj.1 aj.2;refine O_y U (Ki (j:=0) Zcg hs U ak U U aj.1 aj.2)<|O_y U (Jt Zcf Gu U U (λj u hu=>hs.rowCell (j:=0) U ak (ar j u hu)))<|Zx Zcm hs U (λbr w hs=>Y1 (i:=0) Gu hs U U U U U (Za U (Za U (Za U (Za U Yt)))) (λw hs=>Ox a7<|Zg<|Mv U<|Ofd Gn U<|Obx 0 Zdj hs U<|X5 (xs:=[.tmp 15]) (cs:=[Lj ((rd ae ab).rune)]) Zdn hs U U U (by decide) (by decide) U (Y8 U X8) (Ym U Xc) (λbs w hs=>?_)));have aw:Z3 (Rep.int .i32) ao ([Lj ((rd ae ab).rune)]) [(rd ae ab).rune]:=Z3.cons (c:=[Lj ((rd ae ab).rune)]) (x:=(rd ae ab).rune) U (Z3.nil _ _);refine G H λa8 H=>Qt (i:=3) Zdn hs U ag U U U (Src.lit (j:=0) hs U aw) aw a8 (λa9 al w au hs=>As U<|Ox a6<|Zg<|Oad U<|Mv U<|Zh (ah (af,(aa++([(rd ae ab).rune])),(i64.wrap (ab+1)),a9,al) _ _ (T4 U) (Ai H (Ai (hs.sub (ssk (ssk (ssc (ssc ssr))))) au)) (Nat.lt_succ_self _)));refine Y2 (a3 _ _ (a0 _ _<|Wr λba av=>Mv U<|As U<|Ox av<|Zv ?_));cases H;exact r1 U ⟨_,_,_,U,ai,(hs.sub (ssk (ssc ssr))),ag⟩

def X3.f (x0:ByteArray):Option ByteArray:=(Yl.f x0).bind λad=>(some (runesBytes ad))
theorem X3.c (hs:St w0 ρ (Γ) w) {x0 r:ByteArray} (H:X3.f x0=some r):Zt Tryz.prog 65 [.string x0] w (λv w'=>v=.string r/\St w0 ρ Γ w'):=by
 refine Et Tryz.func65 Tryz.ntmps65 U<|Wr λaj ae=>As U<|Ox ae<|Wr λak af=>Mv U<|M H λad aa H=>Oc U (Yl.c hs aa) (λal w hpost=>?_);obtain ⟨am,an,ag,rfl,ab,hs,ah⟩:=hpost;obtain ⟨ao,ac,hs,ai⟩:=hs.rowEnd (j:=0) ah U;refine O_y U (Zae Zdz Zdx un9 hs ai U)<|As U<|Ox af<|Zv ?_;cases H;exact r1 U ⟨U,(hs.less (ab.trans ac))⟩

def Yr.l1:Nat->ByteArray->List S11->Int->Option (ByteArray×Int×Int)
  | 0,_,_,_=>none
  | ac+1,x0,ab,aa=>if aa<(ab.length:Int) then (if (0:Int)<=aa/\aa<(ab.length:Int) then ((Qc.f ((rd ab aa).rune)).bind λa2=>(if a2=true then (some ((⟨#[]⟩:ByteArray),(rd ab aa).at_,220)) else ((Yr.l1 ac x0 ab) (i64.wrap (aa+1))))) else none) else ((Xl.f 1).bind λad=>((X3.f x0).bind λag=>((X2.f ag ad.1).bind λah=>(some (ah,0,0)))))
def Yr.f (x0:ByteArray):Option (ByteArray×Int×Int):=(Yj.f x0).bind λab=>(Yr.l1 K0 x0 ab 0)
theorem Yr.c (hs:St w0 ρ (Γ) w) {x0:ByteArray} {r:ByteArray×Int×Int} (H:Yr.f x0=some r):Zt Tryz.prog 42 [.string x0] w (λv w'=>v=.tuple #[.string r.1,Lk r.2.1,Lk r.2.2]/\St w0 ρ Γ w'):=by
 refine Et Tryz.func42 Tryz.ntmps42 U<|Wr λbl a3=>As U<|As U<|As U<|Ox a3<|Zn λbm a4=>Wr λbn a5=>Mv U<|M H λab ap H=>Oc U (Yj.c hs ap) (λai w hpost=>?_);obtain ⟨aq,bo,ae,rfl,aj,hs,a6⟩:=hpost;refine O_y U (X1 (i:=0) Za8 hs U U)<|Mv U<|Ox a5<|Zu λbp a7 bq=>Xa (σ:=Nat×Int) (λ(ac,aa)=>[(0,.string x0),(10,ai),(11,Lk (ab.length:Int)),(12,Lk aa)]) (λ(ac,aa) w=>Yr.l1 ac x0 ab aa=some r/\St w0 aq ((.row ai 107 U0.sz ab.length ae)::Γ) w) (λs=>s.1) (K0,0) (T4 U) (Ai H hs) ?_;rintro ⟨ac,aa⟩ w br ⟨H,hs⟩ af;show W _ _ _ _ _ _ [(0,.string x0),(10,ai),(11,Lk (ab.length:Int)),(12,Lk aa)] w
 cases ac with
 | zero=>rw [Yr.l1] at H;cases H
 | succ ac=>
 rw [Yr.l1] at H;refine Wr λbs a8=>Ols U<|Ox a8<|Zn λbt a9=>Z H (Yu U) (λ_ H=>?_) λ_ H=>?_;refine Wx a9<|Zn λbu ba=>Zu λbv bw bx=>Zn λbz bb=>Zg ?_;obtain ⟨ak,H⟩:=gd H;obtain ⟨b0,al⟩:=hs.rowBlock (j:=0) U (by have:=ak.2;omega);obtain ⟨_,rfl,au⟩:=a6.at ak.1 ak.2;refine O_y U (Ki (j:=0) Zcg hs U al U U ak.1 ak.2)<|O_y U (Jt Zcf Gu U U (λj u hu=>hs.rowCell (j:=0) U al (au j u hu)))<|Zx Zcm hs U (λbc w hs=>Y1 (i:=0) Gu hs U U U U U (Za U (Za U (Za U (Za U Yt)))) (λw hs=>Ox bb<|Wr λb1 bd=>Ofd Gn U<|Obx 0 Zdj hs U<|M H λa2 av H=>Oc U (Qc.c hs av)<|V λw hs=>Ox bd<|Ra H (Y5 U) (λ_ H=>?_) λ_ H=>?_));refine Zn λb3 be=>X9 5 [0,1,0,7,15] [4,4,3,0,0] [0,1,0,7,15] [] (λw=>St w0 aq ((.box bc 107 ([Lk ((rd ab aa).at_),Lk ((rd ab aa).size),Lj ((rd ab aa).rune),.bool ((rd ab aa).wrong)]))::(.row ai 107 U0.sz ab.length ae)::Γ) w) mixed (by kernel_rfl) (λsh=>?_);have hs:=hs.drew;refine Fp 0 sh U (λw=>Qg Zbt U)<|Fy 1 sh U hs (λw hs=>Yb 0 ag3 hs U U U)<|Fp 2 sh U (λw=>Yz U)<|Fp 3 sh U (λw=>Yz U)<|Fp 4 sh U (λw=>Yz U)<|FE sh (be _ _<|W.weak [(2,_),(3,_),(4,_)] (T3 U)<|Zv ?_);cases H;exact Zdv U U U U ⟨U,((hs.sub (ssk (ssk ssr))).less aj)⟩;refine Wx ba<|Zg<|Oad U<|Mv U<|Zh (af (ac,(i64.wrap (aa+1))) _ _ (T4 U) (Ai H (hs.sub (ssk (ssc ssr)))) (Nat.lt_succ_self _));refine Y2 (a7 _ _ (a4 _ _<|Zn λb4 ax=>Zg<|M H λad am H=>Oc U (Xl.c hs am)<|V λw hs=>Mv U<|Oxt U<|Oxt U<|Zx Qf hs U (λay w hs=>Zw (j:=0) (u:=ad.1) Z1 (Ya .u64) hs U U U (λw hs=>As U<|Ox ax<|Zn λbg az=>X9 7 [0,1,0,6,15,31,63] [12,4,3,0,0,0,0] [0,1,0,7,15,31,63] [] (λw=>St w0 aq ((.box ay 110 ([]++(vcs (Value.int .u64) ad.1++[])))::(.row ai 107 U0.sz ab.length ae)::Γ) w) mixed (by kernel_rfl) (λsh=>?_)))));have hs:=hs.drew;refine Fm 0 sh U<|Fy 2 sh U hs (λw hs=>Z8 (j:=0) Yo Z1 hs U U)<|F1 1 sh U (λbh a0=>M H λag an H=>Oc U (X3.c hs an)<|V λw hs=>Zh (a0 _ _ (λ_ _=>hs)<|F1 3 sh U (λbj a1=>M H λah ao H=>Oc U (X2.c hs ao)<|V λw hs=>Zh (a1 _ _ (λ_ _=>hs)<|Fp 4 sh U (λw=>Yz U)<|Fp 5 sh U (λw=>Yz U)<|Fp 6 sh U (λw=>Yz U)<|FE sh (az _ _<|W.weak [(2,_),(3,_),(4,_)] (T3 U)<|Zv ?_)))));cases H;exact Zdv U U U U ⟨U,((hs.sub (ssk (ssk ssr))).less aj)⟩

def Qj.f (x0:Option Tbs) (x1:ByteArray) (x2:Bool):Option (S10×Int):=(Y7.f x1 (⟨#[91]⟩:ByteArray)).bind λah=>(if ah=true then none else (if x2=true then ((Yr.f x1).bind λaa=>(if aa.2.2≠0 then (some ((⟨0,(⟨#[]⟩:ByteArray),0,0,0,0,0,0,0,0,0⟩:S10),3)) else (if aa.1=(⟨#[]⟩:ByteArray) then (some ((⟨5,(⟨#[]⟩:ByteArray),0,0,0,0,0,0,0,0,0⟩:S10),0)) else (some ((⟨4,aa.1,0,0,0,0,0,0,0,0,0⟩:S10),0))))) else none))
theorem Qj.c (hs:St w0 ρ (Γ) w) {v0:Value} {x0:Option Tbs} (h0:Qd Zcz ρ v0 x0) {x1:ByteArray} {x2:Bool} {r:S10×Int} (H:Qj.f x0 x1 x2=some r):Zt Tryz.prog 27 [v0,.string x1,.bool x2] w (λv w'=>∃ (ρ':Hp) (cs0:List Value),v=.tuple #[.agg cs0.toArray,Lk r.2]/\Le ρ ρ'/\St w0 ρ' (Γ) w'/\Yv.R ρ' cs0 r.1):=by
 refine Et Tryz.func27 Tryz.ntmps27 U<|Wr λaw ai=>Zx Vp hs U (λax w hs=>As U<|Ox ai<|Zn λay aj=>Wr λaz ak=>Mv U<|M H λah ab H=>Oc U (Y7.c hs ab)<|V λw hs=>Ox ak<|Ra H (Y5 U) (λ_ H=>?_) λ_ H=>?_);refine Wr λa1 a2=>Mv U ?_;cases H;refine Wx aj<|Zn λa3 al=>Wr λa4 am=>Mv U<|Ox am<|Ra H (Y5 U) (λ_ H=>?_) λ_ H=>?_;refine Wr λa5 an=>Mv U<|M H λaa ae H=>Oc U (Yr.c hs ae)<|V λw hs=>Mv U<|Oxt U<|Oxt U<|Oxt U<|As U<|As U<|As U<|Ox an<|W.weak [(6,_),(8,_),(10,_)] (T3 U)<|Zn λa7 ao=>Zu λa8 a9 ba=>Wr λbb ap=>Mv U<|One U<|As U<|Ox ap<|Z H (Yu U) (λ_ H=>?_) λ_ H=>?_;refine Wr λbc aq=>O_y U (Kh (cs:=[Lk 0,.string (⟨#[]⟩:ByteArray),.int .u32 0,.int .u16 0,.int .u16 0,.int .u16 0,.int .u16 0,.int .u16 0,.int .u16 0,.int .u16 0,.int .u16 0]) Vp Zax (Xs.nil) Xj (by kernel_rfl))<|Y1 (i:=0) Xe hs U U U U U (Za U (Za U (Za U (Za U (Za U (Za U (Za U (Za U (Za U (Za U (Za U Yt))))))))))) (λw hs=>As U<|Ox aq<|Zv ?_);cases H;exact Qe (i:=0) U U U Xj Xe hs U U ⟨_,_,U,Le.rfl' _,(hs.sub (ssk ssr)),(show Yv.R ρ _ (⟨0,(⟨#[]⟩:ByteArray),0,0,0,0,0,0,0,0,0⟩:S10) from U)⟩;refine Wr λbd ar=>Mv U<|O_y U (Q0 U U)<|As U<|Ox ar<|Z H (Yu U) (λ_ H=>?_) λ_ H=>?_;refine Wr λbe au=>O_y U (Kh (cs:=[Lk 5,.string (⟨#[]⟩:ByteArray),.int .u32 0,.int .u16 0,.int .u16 0,.int .u16 0,.int .u16 0,.int .u16 0,.int .u16 0,.int .u16 0,.int .u16 0]) Vp Zax ((Xs.cons U U Xs.nil)) Xj (by kernel_rfl))<|Y1 (i:=0) Xe hs U U U U U (Za U (Za U (Za U (Za U (Za U (Za U (Za U (Za U (Za U (Za U (Za U Yt))))))))))) (λw hs=>As U<|Ox au<|Zv ?_);cases H;exact Qe (i:=0) U U U Xj Xe hs U U ⟨_,_,U,Le.rfl' _,(hs.sub (ssk ssr)),(show Yv.R ρ _ (⟨5,(⟨#[]⟩:ByteArray),0,0,0,0,0,0,0,0,0⟩:S10) from U)⟩;refine Wx ao<|Wr λbf av=>Mv U<|O_y U (Kh (cs:=[Lk 4,.string aa.1,.int .u32 0,.int .u16 0,.int .u16 0,.int .u16 0,.int .u16 0,.int .u16 0,.int .u16 0,.int .u16 0,.int .u16 0]) Vp Zax ((Xs.cons U U (Xs.cons U U Xs.nil))) Xj (by kernel_rfl))<|Y1 (i:=0) Xe hs U U U U U (Za U (Za U (Za U (Za U (Za U (Za U (Za U (Za U (Za U (Za U (Za U Yt))))))))))) (λw hs=>As U<|Ox av<|Zv ?_);cases H;exact Qe (i:=0) U U U Xj Xe hs U U ⟨_,_,U,Le.rfl' _,(hs.sub (ssk ssr)),(show Yv.R ρ _ (⟨4,aa.1,0,0,0,0,0,0,0,0,0⟩:S10) from U)⟩;refine Wx al<|Wr λbg bh=>Mv U<|Mv U ?_;cases H

def Qi.f (x0:Option Tbs) (x1:ByteArray) (x2:Bool):Option (S10×Int):=(Qj.f x0 x1 x2).bind λab=>(if ab.2≠0 then (some ((⟨0,(⟨#[]⟩:ByteArray),0,0,0,0,0,0,0,0,0⟩:S10),230)) else (some (ab.1,0)))
theorem Qi.c (hs:St w0 ρ (Γ) w) {v0:Value} {x0:Option Tbs} (h0:Qd Zcz ρ v0 x0) {x1:ByteArray} {x2:Bool} {r:S10×Int} (H:Qi.f x0 x1 x2=some r):Zt Tryz.prog 18 [v0,.string x1,.bool x2] w (λv w'=>∃ (ρ':Hp) (cs0:List Value),v=.tuple #[.agg cs0.toArray,Lk r.2]/\Le ρ ρ'/\St w0 ρ' (Γ) w'/\Yv.R ρ' cs0 r.1):=by
 refine Et Tryz.func18 Tryz.ntmps18 U<|Wr λao af=>Zx Vp hs U (λap w hs=>As U<|Ox af<|Wr λaq ag=>Mv U<|Mv U<|Mv U<|M H λab ac H=>Oc U (Qj.c hs h0 ac) (λar w hpost=>?_));obtain ⟨ah,ai,rfl,aa,hs,ae⟩:=hpost;have aj:=ae;obtain rfl:=aj;refine Mv U<|Oxt U<|Oxt U<|Zx Vp hs U (λau w hs=>Y1 (i:=0) Xe hs U U U U U (Za U (Za U (Za U (Za U (Za U (Za U (Za U (Za U (Za U (Za U (Za U Yt))))))))))) (λw hs=>As U<|Ox ag<|Zn λav ak=>Wr λaw al=>Mv U<|One U<|Ox al<|W.weak [(6,_),(8,_),(18,_)] (T3 U)<|Z H (Yu U) (λ_ H=>?_) λ_ H=>?_));refine Wr λax am=>O_y U (Kh (cs:=[Lk 0,.string (⟨#[]⟩:ByteArray),.int .u32 0,.int .u16 0,.int .u16 0,.int .u16 0,.int .u16 0,.int .u16 0,.int .u16 0,.int .u16 0,.int .u16 0]) Vp Zax (Xs.nil) Xj (by kernel_rfl))<|Y1 (i:=1) Xe hs U U U U U (Za U (Za U (Za U (Za U (Za U (Za U (Za U (Za U (Za U (Za U (Za U Yt))))))))))) (λw hs=>As U<|Ox am<|Zv ?_);cases H;exact Qe (i:=1) U U U Xj Xe hs U U ⟨_,_,U,aa,(hs.sub (ssk (ssk ssr))),(show Yv.R ah _ (⟨0,(⟨#[]⟩:ByteArray),0,0,0,0,0,0,0,0,0⟩:S10) from U)⟩;refine Wx ak<|Wr λay an=>O_y U (Zq (i:=0) Xj Xe hs U U U U)<|Y1 (i:=1) Xe hs U U U U U (Za U (Za U (Za U (Za U (Za U (Za U (Za U (Za U (Za U (Za U (Za U Yt))))))))))) (λw hs=>As U<|Ox an<|Zv ?_);cases H;exact Qe (i:=1) U U U Xj Xe hs U U ⟨_,_,U,aa,(hs.sub (ssk (ssk ssr))),ae⟩

def Yx.j1 (aa:Bool):Option Bool:=some aa
def Yx.f:Option Bool:=(Qi.f none (⟨#[]⟩:ByteArray) true).bind λab=>(if ab.2=0 then (Yx.j1 (decide (ab.1.kind=5))) else (Yx.j1 false))
theorem Yx.c (hs:St w0 ρ (Γ) w) {r:Bool} (H:Yx.f=some r):Zt Tryz.prog 8 [] w (λv w'=>v=.bool r/\St w0 ρ Γ w'):=by
 rw [Yx.f] at H;refine Et Tryz.func8 Tryz.ntmps8 U<|Wr λar ah=>As U<|Ox ah<|Zn λau ai=>Zg ?_;have aj:Qd Zcz ρ (.pointer none) none:=Qd.nil _ _;refine M H λab ac H=>Oc U (Qi.c hs aj ac) (λav w hpost=>?_);obtain ⟨ak,al,rfl,ad,hs,am⟩:=hpost;have an:=am;obtain rfl:=an;refine Mv U<|Oxt U<|Oxt U<|Zx Vp hs U (λao w hs=>Y1 (i:=0) Xe hs U U U U U (Za U (Za U (Za U (Za U (Za U (Za U (Za U (Za U (Za U (Za U (Za U Yt))))))))))) (λw hs=>As U<|Ox ai<|Ye λap aq af=>?_));have ag (aa:Bool) (w:World) (H:Yx.j1 aa=some r) (hs:St w0 ak ((.box ao 27 ([Lk ab.1.kind,.string ab.1.text,.int .u32 ab.1.four,.int .u16 ab.1.six0,.int .u16 ab.1.six1,.int .u16 ab.1.six2,.int .u16 ab.1.six3,.int .u16 ab.1.six4,.int .u16 ab.1.six5,.int .u16 ab.1.six6,.int .u16 ab.1.six7]))::Γ) w):ap [(0,.bool aa)] w:=by rw [Yx.j1] at H;refine aq _ _<|Zv ?_;cases H;exact r1 U ⟨U,((hs.sub (ssk ssr)).less ad)⟩
 refine Zg<|Mv U<|Oeq U<|Mv U<|Z H (X4 (dj:=9) U) (λ_ H=>?_) λ_ H=>?_;refine Oe U<|Ofd Kb U<|Oe U<|Obx 0 ag3 hs U<|Oe U<|Oeq U<|Opk U<|As U<|Zh (af _ _ _ (S1 U) (ag (decide (ab.1.kind=5)) _ H hs));refine On U<|On U<|On U<|Opk U<|As U<|Zh (af _ _ _ (S1 U) (ag false _ H hs))

def Yq.j1 (aa:Bool):Option Bool:=some aa
def Yq.f (x0 x1:S10):Option Bool:=(Z6.f x0).bind λad=>(if ad=true then (Yq.j1 ((x0.kind == x1.kind&&(decide (x0.text=x1.text)&&(x0.four == x1.four&&true)))&&decide (([x0.six0,x0.six1,x0.six2,x0.six3,x0.six4,x0.six5,x0.six6,x0.six7]:List Int)=[x1.six0,x1.six1,x1.six2,x1.six3,x1.six4,x1.six5,x1.six6,x1.six7]))) else (Yq.j1 false))
theorem Yq.c (hs:St w0 ρ (Γ) w) {c0:List Value} {x0:S10} (h0:Yv.R ρ c0 x0) {c1:List Value} {x1:S10} (h1:Yv.R ρ c1 x1) {r:Bool} (H:Yq.f x0 x1=some r):Zt Tryz.prog 10 [.agg c0.toArray,.agg c1.toArray] w (λv w'=>v=.bool r/\St w0 ρ Γ w'):=by
 rw [Yq.f] at H;refine Et Tryz.func10 Tryz.ntmps10 U ?_;have ag:=h0;obtain rfl:=ag;have ah:=h1;obtain rfl:=ah;refine Wr λan ai=>X0 (cs:=[Lk x0.kind,.string x0.text,.int .u32 x0.four,.int .u16 x0.six0,.int .u16 x0.six1,.int .u16 x0.six2,.int .u16 x0.six3,.int .u16 x0.six4,.int .u16 x0.six5,.int .u16 x0.six6,.int .u16 x0.six7]) hs U U (λaj w hs=>X0 (cs:=[Lk x1.kind,.string x1.text,.int .u32 x1.four,.int .u16 x1.six0,.int .u16 x1.six1,.int .u16 x1.six2,.int .u16 x1.six3,.int .u16 x1.six4,.int .u16 x1.six5,.int .u16 x1.six6,.int .u16 x1.six7]) hs U U (λak w hs=>As U<|Ox ai<|Ye λal am ae=>?_));have af (aa:Bool) (w:World) (H:Yq.j1 aa=some r) (hs:St w0 ρ ((.box ak 27 ([Lk x1.kind,.string x1.text,.int .u32 x1.four,.int .u16 x1.six0,.int .u16 x1.six1,.int .u16 x1.six2,.int .u16 x1.six3,.int .u16 x1.six4,.int .u16 x1.six5,.int .u16 x1.six6,.int .u16 x1.six7]))::(.box aj 27 ([Lk x0.kind,.string x0.text,.int .u32 x0.four,.int .u16 x0.six0,.int .u16 x0.six1,.int .u16 x0.six2,.int .u16 x0.six3,.int .u16 x0.six4,.int .u16 x0.six5,.int .u16 x0.six6,.int .u16 x0.six7]))::Γ) w):al [(4,.bool aa)] w:=by rw [Yq.j1] at H;refine am _ _<|Zv ?_;cases H;exact r1 U ⟨U,(hs.sub (ssk (ssk ssr)))⟩
 refine Zg<|O_y U (Zq (i:=1) Xj Xe hs U U U U)<|M H λad ab H=>Oc U (Z6.c hs h0 ab)<|V λw hs=>Mv U<|Ra H (Xv (dj:=7) U) (λ_ H=>?_) λ_ H=>?_;refine Oe U<|O_y U (Zq (i:=1) Xj Xe hs U U U U)<|Oe U<|O_y U (Zq (i:=0) Xj Xe hs U U U U)<|Oe U<|O_y U (Js [Lk x0.kind,.string x0.text,.int .u32 x0.four] [Lk x1.kind,.string x1.text,.int .u32 x1.four] [x0.six0,x0.six1,x0.six2,x0.six3,x0.six4,x0.six5,x0.six6,x0.six7] [x1.six0,x1.six1,x1.six2,x1.six3,x1.six4,x1.six5,x1.six6,x1.six7] Zam Zbr U U U U U)<|Opk U<|As U<|Zh (ae _ _ _ (S1 U) (af ((x0.kind == x1.kind&&(decide (x0.text=x1.text)&&(x0.four == x1.four&&true)))&&decide (([x0.six0,x0.six1,x0.six2,x0.six3,x0.six4,x0.six5,x0.six6,x0.six7]:List Int)=[x1.six0,x1.six1,x1.six2,x1.six3,x1.six4,x1.six5,x1.six6,x1.six7])) _ H hs));refine On U<|On U<|On U<|Opk U<|As U<|Zh (ae _ _ _ (S1 U) (af false _ H hs))

def Zj.j1 (aa:Bool):Option Bool:=some aa
def Zj.f (x0 x1:ByteArray):Option Bool:=if (x1.size:Int)<=(x0.size:Int) then (if (0:Int)<=i64.wrap ((x0.size:Int)-(x1.size:Int))/\i64.wrap ((x0.size:Int)-(x1.size:Int))<=(x0.size:Int)/\(x0.size:Int)<=(x0.size:Int) then (Zj.j1 (decide ((x0.extract (i64.wrap ((x0.size:Int)-(x1.size:Int)):Int).toNat ((x0.size:Int):Int).toNat)=x1))) else none) else (Zj.j1 false)
theorem Zj.c (hs:St w0 ρ (Γ) w) {x0 x1:ByteArray} {r:Bool} (H:Zj.f x0 x1=some r):Zt Tryz.prog 28 [.string x0,.string x1] w (λv w'=>v=.bool r/\St w0 ρ Γ w'):=by
 rw [Zj.f] at H;refine Et Tryz.func28 Tryz.ntmps28 U<|Wr λai af=>As U<|Ox af<|Ye λag ah ad=>?_;have ae (aa:Bool) (w:World) (H:Zj.j1 aa=some r) (hs:St w0 ρ (Γ) w):ag [(4,.bool aa)] w:=by rw [Zj.j1] at H;refine ah _ _<|Zv ?_;cases H;exact r1 U ⟨U,hs⟩
 refine Zg<|Mv U<|O_y U (Xx un9 U)<|Mv U<|O_y U (Xx un9 U)<|Oge U<|Mv U<|Z H (X4 (dj:=10) U) (λ_ H=>?_) λ_ H=>?_;refine Oe U<|Mv U<|Oe U<|Mv U<|Oe U<|O_y U (Xx un9 U)<|Oe U<|Mv U<|Oe U<|O_y U (Xx un9 U)<|Oe U<|Osu U<|G H λac H=>Oe U<|O_y U (Kr un9 U (.inr ⟨_,_,U,U⟩) (.inl ⟨U,U⟩) ac.1 ac.2.1 ac.2.2)<|Oe U<|Mv U<|Oe U<|O_y U (Q0 U U)<|Opk U<|As U<|Zh (ad _ _ _ (S1 U) (ae (decide ((x0.extract (i64.wrap ((x0.size:Int)-(x1.size:Int)):Int).toNat ((x0.size:Int):Int).toNat)=x1)) _ H hs));refine On U<|On U<|On U<|On U<|On U<|On U<|On U<|On U<|On U<|Opk U<|As U<|Zh (ad _ _ _ (S1 U) (ae false _ H hs))

def Ys.f (x0 x1:ByteArray):Option Bool:=(Zj.f x0 x1).bind λab=>(some ab)
theorem Ys.c (hs:St w0 ρ (Γ) w) {x0 x1:ByteArray} {r:Bool} (H:Ys.f x0 x1=some r):Zt Tryz.prog 19 [.string x0,.string x1] w (λv w'=>v=.bool r/\St w0 ρ Γ w'):=by
 refine Et Tryz.func19 Tryz.ntmps19 U<|Wr λae ac=>As U<|Ox ac<|Wr λaf ad=>Mv U<|Mv U<|M H λab aa H=>Oc U (Zj.c hs aa)<|V λw hs=>As U<|Ox ad<|Zv ?_;cases H;exact r1 U ⟨U,hs⟩

def Zy.j1 (ab:Bool):Option Bool:=some ab
def Zy.j2 (x0 x1:S10) (aa:Bool):Option Bool:=if aa=true then (some false) else (if x0.text=x1.text then (Zy.j1 true) else (if (⟨#[46]⟩:ByteArray).size+x1.text.size<=9223372036854775807 then ((Ys.f x0.text ((⟨#[46]⟩:ByteArray)++x1.text)).bind λae=>(Zy.j1 ae)) else none))
def Zy.f (x0 x1:S10):Option Bool:=(Z6.f x0).bind λap=>(if (!ap)=true then (Zy.j2 x0 x1 true) else ((Z6.f x1).bind λaq=>(if (!aq)=true then (Zy.j2 x0 x1 true) else (if x0.kind≠1 then (Zy.j2 x0 x1 true) else (Zy.j2 x0 x1 (decide (x1.kind≠1)))))))
theorem Zy.c (hs:St w0 ρ (Γ) w) {c0:List Value} {x0:S10} (h0:Yv.R ρ c0 x0) {c1:List Value} {x1:S10} (h1:Yv.R ρ c1 x1) {r:Bool} (H:Zy.f x0 x1=some r):Zt Tryz.prog 11 [.agg c0.toArray,.agg c1.toArray] w (λv w'=>v=.bool r/\St w0 ρ Γ w'):=by
 rw [Zy.f] at H;refine Et Tryz.func11 Tryz.ntmps11 U ?_;have av:=h0;obtain rfl:=av;have aw:=h1;obtain rfl:=aw;refine Wr λa5 ax=>X0 (cs:=[Lk x0.kind,.string x0.text,.int .u32 x0.four,.int .u16 x0.six0,.int .u16 x0.six1,.int .u16 x0.six2,.int .u16 x0.six3,.int .u16 x0.six4,.int .u16 x0.six5,.int .u16 x0.six6,.int .u16 x0.six7]) hs U U (λaf w hs=>X0 (cs:=[Lk x1.kind,.string x1.text,.int .u32 x1.four,.int .u16 x1.six0,.int .u16 x1.six1,.int .u16 x1.six2,.int .u16 x1.six3,.int .u16 x1.six4,.int .u16 x1.six5,.int .u16 x1.six6,.int .u16 x1.six7]) hs U U (λag w hs=>As U<|Ox ax<|Zn λa6 ay=>Ye λaz a0 ac=>?_));have ad (aa:Bool) (w:World) (H:Zy.j2 x0 x1 aa=some r) (hs:St w0 ρ ((.box ag 27 ([Lk x1.kind,.string x1.text,.int .u32 x1.four,.int .u16 x1.six0,.int .u16 x1.six1,.int .u16 x1.six2,.int .u16 x1.six3,.int .u16 x1.six4,.int .u16 x1.six5,.int .u16 x1.six6,.int .u16 x1.six7]))::(.box af 27 ([Lk x0.kind,.string x0.text,.int .u32 x0.four,.int .u16 x0.six0,.int .u16 x0.six1,.int .u16 x0.six2,.int .u16 x0.six3,.int .u16 x0.six4,.int .u16 x0.six5,.int .u16 x0.six6,.int .u16 x0.six7]))::Γ) w):az [(2,Ll af),(3,Ll ag),(22,.bool aa)] w:=by
  refine a0 _ _<|Ra H (Y5 U) (λ_ H=>?_) λ_ H=>?_;refine Wr λa7 a1=>As U<|Ox a1<|Zv ?_;cases H;exact r1 U ⟨U,(hs.sub (ssk (ssk ssr)))⟩;refine Wx ay<|Ye λa2 a3 ar=>?_;have au (ab:Bool) (w:World) (H:Zy.j1 ab=some r) (hs:St w0 ρ ((.box ag 27 ([Lk x1.kind,.string x1.text,.int .u32 x1.four,.int .u16 x1.six0,.int .u16 x1.six1,.int .u16 x1.six2,.int .u16 x1.six3,.int .u16 x1.six4,.int .u16 x1.six5,.int .u16 x1.six6,.int .u16 x1.six7]))::(.box af 27 ([Lk x0.kind,.string x0.text,.int .u32 x0.four,.int .u16 x0.six0,.int .u16 x0.six1,.int .u16 x0.six2,.int .u16 x0.six3,.int .u16 x0.six4,.int .u16 x0.six5,.int .u16 x0.six6,.int .u16 x0.six7]))::Γ) w):a2 [(4,.bool ab)] w:=by rw [Zy.j1] at H;refine a3 _ _<|Zv ?_;cases H;exact r1 U ⟨U,(hs.sub (ssk (ssk ssr)))⟩
  refine Zg<|Ofd Qq U<|Obx 1 ag9 hs U<|Ofd Qq U<|Obx 0 ag9 hs U<|O_y U (Q0 U U)<|Mv U<|Z H (X4 (dj:=28) U) (λ_ H=>?_) λ_ H=>?_;refine On U<|On U<|On U<|On U<|On U<|On U<|Opk U<|As U<|Zh (ar _ _ _ (S1 U) (au true _ H hs));refine Oe U<|Ofd Qq U<|Oe U<|Obx 1 ag9 hs U<|Oe U<|Ofd Qq U<|Oe U<|Obx 0 ag9 hs U<|G H λa4 H=>Oe U<|O_y U (Qn U U a4)<|Oe U<|M H λae aj H=>Oc U (Ys.c hs aj)<|V λw hs=>Opk U<|As U<|Zh (ar _ _ _ (S1 U) (au ae _ H hs))
 refine Zg<|O_y U (Zq (i:=1) Xj Xe hs U U U U)<|M H λap ak H=>Oc U (Z6.c hs h0 ak)<|V λw hs=>Ont U<|Mv U<|Ra H (Xv (dj:=8) U) (λ_ H=>?_) λ_ H=>?_;refine On U<|On U<|On U<|Opk U<|Mv U<|On U<|On U<|On U<|Opk U<|Mv U<|On U<|On U<|On U<|Opk U<|Zh (ac _ _ _ (T3 U) (ad true _ H hs));refine Oe U<|O_y U (Zq (i:=0) Xj Xe hs U U U U)<|Oe U<|M H λaq am H=>Oc U (Z6.c hs h1 am)<|V λw hs=>Oe U<|Ont U<|Opk U<|Mv U<|Ra H (Xv (dj:=13) U) (λ_ H=>?_) λ_ H=>?_;refine On U<|On U<|On U<|Opk U<|Mv U<|On U<|On U<|On U<|Opk U<|Zh (ac _ _ _ (T3 U) (ad true _ H hs));refine Oe U<|Ofd Kb U<|Oe U<|Obx 1 ag3 hs U<|Oe U<|One U<|Opk U<|Mv U<|Z H (X4 (dj:=18) U) (λ_ H=>?_) λ_ H=>?_;refine On U<|On U<|On U<|Opk U<|Zh (ac _ _ _ (T3 U) (ad true _ H hs));refine Oe U<|Ofd Kb U<|Oe U<|Obx 0 ag3 hs U<|Oe U<|One U<|Opk U<|Zh (ac _ _ _ (T3 U) (ad (decide (x1.kind≠1)) _ H hs))

def Zm.j1 (ab:Bool):Option Bool:=some ab
def Zm.j2 (x0 x1:S10) (aa:Bool):Option Bool:=if aa=true then (some false) else (if x0.text=x1.text then (Zm.j1 true) else (if (x1.text.size:Int)<(x0.text.size:Int) then (if (0:Int)<=i64.wrap ((x0.text.size:Int)-(x1.text.size:Int))/\i64.wrap ((x0.text.size:Int)-(x1.text.size:Int))<=(x0.text.size:Int)/\(x0.text.size:Int)<=(x0.text.size:Int) then (if (x0.text.extract (i64.wrap ((x0.text.size:Int)-(x1.text.size:Int)):Int).toNat ((x0.text.size:Int):Int).toNat)=x1.text then (if (0:Int)<=i64.wrap ((i64.wrap ((x0.text.size:Int)-(x1.text.size:Int)))-1)/\i64.wrap ((i64.wrap ((x0.text.size:Int)-(x1.text.size:Int)))-1)<(x0.text.size:Int) then (Zm.j1 (decide ((bt x0.text (i64.wrap ((i64.wrap ((x0.text.size:Int)-(x1.text.size:Int)))-1)))=46))) else none) else (Zm.j1 false)) else none) else (Zm.j1 false)))
def Zm.f (x0 x1:S10):Option Bool:=if x0.kind≠1 then (Zm.j2 x0 x1 true) else (if x1.kind≠1 then (Zm.j2 x0 x1 true) else ((Zp.f x0).bind λav=>(if (!av)=true then (Zm.j2 x0 x1 true) else ((Zp.f x1).bind λai=>(Zm.j2 x0 x1 (!ai))))))
theorem Zm.c (hs:St w0 ρ (Γ) w) {c0:List Value} {x0:S10} (h0:Yv.R ρ c0 x0) {c1:List Value} {x1:S10} (h1:Yv.R ρ c1 x1) {r:Bool} (H:Zm.f x0 x1=some r):Zt Tryz.prog 12 [.agg c0.toArray,.agg c1.toArray] w (λv w'=>v=.bool r/\St w0 ρ Γ w'):=by
 rw [Zm.f] at H;refine Et Tryz.func12 Tryz.ntmps12 U ?_;have ax:=h0;obtain rfl:=ax;have ay:=h1;obtain rfl:=ay;refine Wr λa7 az=>X0 (cs:=[Lk x0.kind,.string x0.text,.int .u32 x0.four,.int .u16 x0.six0,.int .u16 x0.six1,.int .u16 x0.six2,.int .u16 x0.six3,.int .u16 x0.six4,.int .u16 x0.six5,.int .u16 x0.six6,.int .u16 x0.six7]) hs U U (λac w hs=>X0 (cs:=[Lk x1.kind,.string x1.text,.int .u32 x1.four,.int .u16 x1.six0,.int .u16 x1.six1,.int .u16 x1.six2,.int .u16 x1.six3,.int .u16 x1.six4,.int .u16 x1.six5,.int .u16 x1.six6,.int .u16 x1.six7]) hs U U (λad w hs=>As U<|Ox az<|Zn λa8 a0=>Ye λa1 a2 ae=>?_));have af (aa:Bool) (w:World) (H:Zm.j2 x0 x1 aa=some r) (hs:St w0 ρ ((.box ad 30 ([Lk x1.kind,.string x1.text,.int .u32 x1.four,.int .u16 x1.six0,.int .u16 x1.six1,.int .u16 x1.six2,.int .u16 x1.six3,.int .u16 x1.six4,.int .u16 x1.six5,.int .u16 x1.six6,.int .u16 x1.six7]))::(.box ac 30 ([Lk x0.kind,.string x0.text,.int .u32 x0.four,.int .u16 x0.six0,.int .u16 x0.six1,.int .u16 x0.six2,.int .u16 x0.six3,.int .u16 x0.six4,.int .u16 x0.six5,.int .u16 x0.six6,.int .u16 x0.six7]))::Γ) w):a1 [(2,Ll ac),(3,Ll ad),(24,.bool aa)] w:=by
  refine a2 _ _<|Ra H (Y5 U) (λ_ H=>?_) λ_ H=>?_;refine Wr λa9 a3=>As U<|Ox a3<|Zv ?_;cases H;exact r1 U ⟨U,(hs.sub (ssk (ssk ssr)))⟩;refine Wx a0<|Zn λba a4=>X9 8 [0,1,2,0,8,16,7,127] [60,56,56,103,71,71,56,0] [0,1,3,0,8,24,7,127] [] (λw=>St w0 ρ ((.box ad 30 ([Lk x1.kind,.string x1.text,.int .u32 x1.four,.int .u16 x1.six0,.int .u16 x1.six1,.int .u16 x1.six2,.int .u16 x1.six3,.int .u16 x1.six4,.int .u16 x1.six5,.int .u16 x1.six6,.int .u16 x1.six7]))::(.box ac 30 ([Lk x0.kind,.string x0.text,.int .u32 x0.four,.int .u16 x0.six0,.int .u16 x0.six1,.int .u16 x0.six2,.int .u16 x0.six3,.int .u16 x0.six4,.int .u16 x0.six5,.int .u16 x0.six6,.int .u16 x0.six7]))::Γ) w) mixed (by kernel_rfl) (λsh=>?_);have hs:=hs.drew;refine Fp 0 sh U (λw=>Qg X6 U)<|Fy 1 sh U hs (λw hs=>Yb 1 ag9 hs U U U)<|Fp 2 sh U (λw=>Xx un9 U)<|Fp 3 sh U (λw=>Qg X6 U)<|Fy 4 sh U hs (λw hs=>Yb 0 ag9 hs U U U)<|Fp 5 sh U (λw=>Xx un9 U)<|Fp 6 sh U (λw=>Yz U)<|Fp 7 sh U (λw=>Yz U)<|FE sh (a4 _ _<|Ye λa5 a6 ag=>?_);have ah (ab:Bool) (w:World) (H:Zm.j1 ab=some r) (hs:St w0 ρ ((.box ad 30 ([Lk x1.kind,.string x1.text,.int .u32 x1.four,.int .u16 x1.six0,.int .u16 x1.six1,.int .u16 x1.six2,.int .u16 x1.six3,.int .u16 x1.six4,.int .u16 x1.six5,.int .u16 x1.six6,.int .u16 x1.six7]))::(.box ac 30 ([Lk x0.kind,.string x0.text,.int .u32 x0.four,.int .u16 x0.six0,.int .u16 x0.six1,.int .u16 x0.six2,.int .u16 x0.six3,.int .u16 x0.six4,.int .u16 x0.six5,.int .u16 x0.six6,.int .u16 x0.six7]))::Γ) w):a5 [(4,.bool ab)] w:=by rw [Zm.j1] at H;refine a6 _ _<|Zv ?_;cases H;exact r1 U ⟨U,(hs.sub (ssk (ssk ssr)))⟩
  refine X9 32 [0,1,0,4,10,16,32,32,224,288,512,1536,512,512,12800,18944,512,66048,164352,262688,524832,1048576,3145728,1048576,1048576,26214400,34603008,72351744,135266304,269484064,536870944,2147483647] [2147483644,2147483628,2147483635,2147483619,2147483584,535297024,2147483264,2147483200,2147482624,2145386496,2147479552,2147446784,2147462144,2147458048,2147421184,2147155968,2147286016,2147023872,2146435072,2145386496,1073741824,2139095040,2004877312,2103443456,2095054848,2019557376,1885339648,1610612736,1073741824,0,0,0] [0,1,0,4,15,31,63,63,255,511,1023,2047,1023,1023,13311,32767,1023,66559,262143,524287,1048575,2097151,4194303,2097151,2097151,27262975,60817407,134217727,268435455,536870911,1073741823,2147483647] [] (λw=>St w0 ρ ((.box ad 30 ([Lk x1.kind,.string x1.text,.int .u32 x1.four,.int .u16 x1.six0,.int .u16 x1.six1,.int .u16 x1.six2,.int .u16 x1.six3,.int .u16 x1.six4,.int .u16 x1.six5,.int .u16 x1.six6,.int .u16 x1.six7]))::(.box ac 30 ([Lk x0.kind,.string x0.text,.int .u32 x0.four,.int .u16 x0.six0,.int .u16 x0.six1,.int .u16 x0.six2,.int .u16 x0.six3,.int .u16 x0.six4,.int .u16 x0.six5,.int .u16 x0.six6,.int .u16 x0.six7]))::Γ) w) mixed (by kernel_rfl) (λsh=>?_);have hs:=hs.drew;refine Fp 0 sh U (λw=>Qg X6 U)<|Fy 1 sh U hs (λw hs=>Yb 1 ag9 hs U U U)<|Fp 2 sh U (λw=>Qg X6 U)<|Fy 3 sh U hs (λw hs=>Yb 0 ag9 hs U U U)<|Fp 4 sh U (λw=>Q0 U U)<|Fm 5 sh U<|Z H (G9 (dj:=36) U) (λ_ H=>?_) λ_ H=>?_;refine Fn 6 sh U<|Fn 7 sh U<|Fn 8 sh U<|Fn 9 sh U<|Fu 10 sh U<|Fu 11 sh U<|Fu 12 sh U<|Fu 13 sh U<|Fu 14 sh U<|Fu 15 sh U<|Fu 16 sh U<|Fu 17 sh U<|Fu 18 sh U<|Fn 19 sh U<|Fn 20 sh U<|Fu 21 sh U<|Fu 22 sh U<|Fu 23 sh U<|Fu 24 sh U<|Fu 25 sh U<|Fu 26 sh U<|Fu 27 sh U<|Fu 28 sh U<|Fn 29 sh U<|Fp 30 sh U (λw=>Y6 U U)<|Fp 31 sh U (λw=>Yz U)<|FE sh (ag _ _ _ (S1 U) (ah true _ H hs));refine Fp 6 sh U (λw=>Xi U)<|Fp 7 sh U (λw=>Xi U)<|Fp 8 sh U (λw=>Zcd U U)<|Fp 9 sh U (λw=>Xi U)<|Z H (G9 (dj:=40) U) (λ_ H=>?_) λ_ H=>?_;refine Fp 10 sh U (λw=>Qg X6 U)<|Fy 11 sh U hs (λw hs=>Yb 1 ag9 hs U U U)<|Fp 12 sh U (λw=>Xi U)<|Fp 13 sh U (λw=>Xi U)<|Fp 14 sh U (λw=>Gk U U)<|G H λam H=>Fp 15 sh U (λw=>Kr un9 U (.inr ⟨_,_,U,U⟩) (.inl ⟨U,U⟩) am.1 am.2.1 am.2.2)<|Fp 16 sh U (λw=>Qg X6 U)<|Fy 17 sh U hs (λw hs=>Yb 0 ag9 hs U U U)<|Fp 18 sh U (λw=>Q0 U U)<|Fp 19 sh U (λw=>Y6 U U)<|Fp 20 sh U (λw=>Xi U)<|Z H (G9 (dj:=51) U) (λ_ H=>?_) λ_ H=>?_
  refine Fp 21 sh U (λw=>Qg X6 U)<|Fy 22 sh U hs (λw hs=>Yb 1 ag9 hs U U U)<|Fp 23 sh U (λw=>Xi U)<|Fp 24 sh U (λw=>Xi U)<|Fp 25 sh U (λw=>Gk U U)<|Fp 26 sh U (λw=>Gk U U)<|G H λaw H=>Fp 27 sh U (λw=>Vt un9 U U aw.1 aw.2)<|Fp 28 sh U (λw=>Zcc U U)<|Fp 29 sh U (λw=>Y6 U U)<|Fp 30 sh U (λw=>Yw U U)<|Fp 31 sh U (λw=>Yz U)<|FE sh (ag _ _ _ (S1 U) (ah (decide ((bt x0.text (i64.wrap ((i64.wrap ((x0.text.size:Int)-(x1.text.size:Int)))-1)))=46)) _ H hs));refine Fn 21 sh U<|Fn 22 sh U<|Fn 23 sh U<|Fn 24 sh U<|Fn 25 sh U<|Fn 26 sh U<|Fn 27 sh U<|Fn 28 sh U<|Fp 29 sh U (λw=>Yw U U)<|Fp 30 sh U (λw=>Yw U U)<|Fp 31 sh U (λw=>Yz U)<|FE sh (ag _ _ _ (S1 U) (ah false _ H hs));refine Fn 10 sh U<|Fn 11 sh U<|Fn 12 sh U<|Fn 13 sh U<|Fn 14 sh U<|Fn 15 sh U<|Fn 16 sh U<|Fn 17 sh U<|Fn 18 sh U<|Fp 19 sh U (λw=>Yw U U)<|Fp 20 sh U (λw=>Xi U)<|Fn 21 sh U<|Fn 22 sh U<|Fn 23 sh U<|Fn 24 sh U<|Fn 25 sh U<|Fn 26 sh U<|Fn 27 sh U<|Fn 28 sh U<|Fp 29 sh U (λw=>Yw U U)<|Fp 30 sh U (λw=>Yw U U)<|Fp 31 sh U (λw=>Yz U)<|FE sh (ag _ _ _ (S1 U) (ah false _ H hs))
 refine Zg<|Ofd J5 U<|Obx 1 ag3 hs U<|One U<|Mv U<|Z H (X4 (dj:=10) U) (λ_ H=>?_) λ_ H=>?_;refine On U<|On U<|On U<|Opk U<|Mv U<|On U<|On U<|On U<|Opk U<|Mv U<|On U<|On U<|On U<|Opk U<|Zh (ae _ _ _ (T3 U) (af true _ H hs));refine Oe U<|Ofd J5 U<|Oe U<|Obx 0 ag3 hs U<|Oe U<|One U<|Opk U<|Mv U<|Z H (X4 (dj:=15) U) (λ_ H=>?_) λ_ H=>?_;refine On U<|On U<|On U<|Opk U<|Mv U<|On U<|On U<|On U<|Opk U<|Zh (ae _ _ _ (T3 U) (af true _ H hs));refine Oe U<|O_y U (Zq (i:=1) Kn Q8 hs U U U U)<|Oe U<|M H λav aq H=>Oc U (Zp.c hs h0 aq)<|V λw hs=>Oe U<|Ont U<|Opk U<|Mv U<|Ra H (Xv (dj:=20) U) (λ_ H=>?_) λ_ H=>?_;refine On U<|On U<|On U<|Opk U<|Zh (ae _ _ _ (T3 U) (af true _ H hs));refine Oe U<|O_y U (Zq (i:=0) Kn Q8 hs U U U U)<|Oe U<|M H λai au H=>Oc U (Zp.c hs h1 au)<|V λw hs=>Oe U<|Ont U<|Opk U<|Zh (ae _ _ _ (T3 U) (af (!ai) _ H hs))

end
section
open Go.IntKind (i8 i16 i32 i64 u8 u16 u32 u64)
open Go.RowKit
set_option maxRecDepth 100000
set_option maxHeartbeats 400000
variable {w0 w:World} {ρ:Hp} {Γ:List Yd}
set_option linter.unusedVariables false
def Zi.j1 (ac:ByteArray->Int->Option ByteArray) (x0 aa:Int) (ag:ByteArray):Option ByteArray:=if ag.size+(Xd ([u8.wrap (i64.wrap (48+((i64.wrap (Xg .u32 (x0.fdiv (2^(min (u64.wrap (i64.wrap (24-(i64.wrap (8*aa))))).toNat 32))) 255)).tmod 10)))])).size<=9223372036854775807 then (ac (ag++(Xd ([u8.wrap (i64.wrap (48+((i64.wrap (Xg .u32 (x0.fdiv (2^(min (u64.wrap (i64.wrap (24-(i64.wrap (8*aa))))).toNat 32))) 255)).tmod 10)))]))) (i64.wrap (aa+1))) else none
def Zi.j2 (ac:ByteArray->Int->Option ByteArray) (x0 aa:Int) (ad:ByteArray):Option ByteArray:=if 10<=(i64.wrap (Xg .u32 (x0.fdiv (2^(min (u64.wrap (i64.wrap (24-(i64.wrap (8*aa))))).toNat 32))) 255)) then (if ad.size+(Xd ([u8.wrap (i64.wrap (48+((i64.wrap ((i64.wrap (Xg .u32 (x0.fdiv (2^(min (u64.wrap (i64.wrap (24-(i64.wrap (8*aa))))).toNat 32))) 255)).tdiv 10)).tmod 10)))])).size<=9223372036854775807 then (Zi.j1 ac x0 aa (ad++(Xd ([u8.wrap (i64.wrap (48+((i64.wrap ((i64.wrap (Xg .u32 (x0.fdiv (2^(min (u64.wrap (i64.wrap (24-(i64.wrap (8*aa))))).toNat 32))) 255)).tdiv 10)).tmod 10)))])))) else none) else (Zi.j1 ac x0 aa ad)
def Zi.j3 (ac:ByteArray->Int->Option ByteArray) (x0 aa:Int) (ae:ByteArray):Option ByteArray:=if 100<=(i64.wrap (Xg .u32 (x0.fdiv (2^(min (u64.wrap (i64.wrap (24-(i64.wrap (8*aa))))).toNat 32))) 255)) then (if ae.size+(Xd ([u8.wrap (i64.wrap (48+(i64.wrap ((i64.wrap (Xg .u32 (x0.fdiv (2^(min (u64.wrap (i64.wrap (24-(i64.wrap (8*aa))))).toNat 32))) 255)).tdiv 100))))])).size<=9223372036854775807 then (Zi.j2 ac x0 aa (ae++(Xd ([u8.wrap (i64.wrap (48+(i64.wrap ((i64.wrap (Xg .u32 (x0.fdiv (2^(min (u64.wrap (i64.wrap (24-(i64.wrap (8*aa))))).toNat 32))) 255)).tdiv 100))))])))) else none) else (Zi.j2 ac x0 aa ae)
def Zi.l1:Nat->Int->ByteArray->Int->Option ByteArray
  | 0,_,_,_=>none
  | af+1,x0,ab,aa=>if aa<4 then (if (0:Int)<=u64.wrap (i64.wrap (24-(i64.wrap (8*aa)))) then (if 0<aa then (if ab.size+(⟨#[46]⟩:ByteArray).size<=9223372036854775807 then (Zi.j3 (Zi.l1 af x0) x0 aa (ab++(⟨#[46]⟩:ByteArray))) else none) else (Zi.j3 (Zi.l1 af x0) x0 aa ab)) else none) else (some ab)
def Zi.f (x0:Int):Option ByteArray:=Zi.l1 K0 x0 (⟨#[]⟩:ByteArray) 0
theorem Zi.c (hs:St w0 ρ (Γ) w) {x0:Int} {r:ByteArray} (H:Zi.f x0=some r):Zt Tryz.prog 20 [.int .u32 x0] w (λv w'=>v=.string r/\St w0 ρ Γ w'):=by
 rw [Zi.f] at H;refine Et Tryz.func20 Tryz.ntmps20 U<|Wr λb6 bf=>As U<|Ox bf<|Wr λb7 bg=>As U<|Ox bg<|Zn λb8 bh=>Wr λb9 bi=>As U<|Zh (bi _ _<|Zu λca bj cb=>Xa (σ:=Nat×ByteArray×Int×Hp) (λ(af,ab,aa,ah)=>[(0,.int .u32 x0),(3,.string ab),(4,Lk aa)]) (λ(af,ab,aa,ah) w=>Zi.l1 af x0 ab aa=some r/\Le ρ ah/\St w0 ah (Γ) w) (λs=>s.1) (K0,(⟨#[]⟩:ByteArray),0,ρ) (T3 U) (Ai H (Ai (Le.rfl' _) hs)) ?_);rintro ⟨af,ab,aa,ah⟩ w cc ⟨H,ak,hs⟩ al;show W _ _ _ _ _ _ [(0,.int .u32 x0),(3,.string ab),(4,Lk aa)] w
 cases af with
 | zero=>rw [Zi.l1] at H;cases H
 | succ af=>
 rw [Zi.l1] at H;refine Zn λcd bk=>Wr λce bl=>Mv U<|Ols U<|Ox bl<|Z H (Yu U) (λ_ H=>?_) λ_ H=>?_;refine Wx bk<|Zn λcf bm=>Zu λcg ch ci=>Wr λcj bn=>Mv U<|Mv U<|Oml U<|Osu U<|O_y U (Xh un3 Zd8 U)<|G H λbo H=>O_y U (Hc U U bo)<|O_y U (Zcb U U)<|O_y U (Xh Za9 un3 U)<|As U<|Ox bn<|Ye λbp bq a9=>?_;have ba (ae:ByteArray) (w:World) (H:Zi.j3 (Zi.l1 af x0) x0 aa ae=some r) (hs:St w0 ah (Γ) w):bp [(0,.int .u32 x0),(3,.string ae),(4,Lk aa),(5,Lk (i64.wrap (Xg .u32 (x0.fdiv (2^(min (u64.wrap (i64.wrap (24-(i64.wrap (8*aa))))).toNat 32))) 255)))] w:=by
  rw [Zi.j3] at H;refine bq _ _<|Ye λbr bs bb=>?_;have bc (ad:ByteArray) (ai:Hp) (w:World) (H:Zi.j2 (Zi.l1 af x0) x0 aa ad=some r) (ao:Le ah ai) (hs:St w0 ai (Γ) w):br [(0,.int .u32 x0),(3,.string ad),(4,Lk aa),(5,Lk (i64.wrap (Xg .u32 (x0.fdiv (2^(min (u64.wrap (i64.wrap (24-(i64.wrap (8*aa))))).toNat 32))) 255)))] w:=by
   rw [Zi.j2] at H;refine bs _ _<|Ye λbt bu bd=>?_;have be (ag:ByteArray) (aj:Hp) (w:World) (H:Zi.j1 (Zi.l1 af x0) x0 aa ag=some r) (ap:Le ai aj) (hs:St w0 aj (Γ) w):bt [(0,.int .u32 x0),(3,.string ag),(4,Lk aa),(5,Lk (i64.wrap (Xg .u32 (x0.fdiv (2^(min (u64.wrap (i64.wrap (24-(i64.wrap (8*aa))))).toNat 32))) 255)))] w:=by refine bu _ _<|Zg<|Mv U<|Mv U<|O_y U (Jy U U (by decide))<|Oad U<|O_y U (Xh un3 un5 U)<|X5 (xs:=[.tmp 47]) (cs:=[.int .u8 (u8.wrap (i64.wrap (48+((i64.wrap (Xg .u32 (x0.fdiv (2^(min (u64.wrap (i64.wrap (24-(i64.wrap (8*aa))))).toNat 32))) 255)).tmod 10))))]) J3 hs U U U (by decide) (by decide) U (Y8 U X8) (Ym U Xc) (λck w hs=>?_);have bv:Z3 (Rep.int .u8) aj ([.int .u8 (u8.wrap (i64.wrap (48+((i64.wrap (Xg .u32 (x0.fdiv (2^(min (u64.wrap (i64.wrap (24-(i64.wrap (8*aa))))).toNat 32))) 255)).tmod 10))))]) [u8.wrap (i64.wrap (48+((i64.wrap (Xg .u32 (x0.fdiv (2^(min (u64.wrap (i64.wrap (24-(i64.wrap (8*aa))))).toNat 32))) 255)).tmod 10)))]:=Z3.cons (c:=[.int .u8 (u8.wrap (i64.wrap (48+((i64.wrap (Xg .u32 (x0.fdiv (2^(min (u64.wrap (i64.wrap (24-(i64.wrap (8*aa))))).toNat 32))) 255)).tmod 10))))]) (x:=u8.wrap (i64.wrap (48+((i64.wrap (Xg .u32 (x0.fdiv (2^(min (u64.wrap (i64.wrap (24-(i64.wrap (8*aa))))).toNat 32))) 255)).tmod 10)))) U (Z3.nil _ _);obtain ⟨bw,av,hs,bx⟩:=hs.rowEnd (j:=0) bv U;refine O_y U (Kz U4 un5 un9 hs bx U)<|G H λbz H=>O_y U (Qn U U bz)<|As U<|Ox bm<|Zg<|Mv U<|Oad U<|As U<|Zh (al (af,(ag++(Xd ([u8.wrap (i64.wrap (48+((i64.wrap (Xg .u32 (x0.fdiv (2^(min (u64.wrap (i64.wrap (24-(i64.wrap (8*aa))))).toNat 32))) 255)).tmod 10)))]))),(i64.wrap (aa+1)),bw) _ _ (T3 U) (Ai H (Ai (((ak.trans ao).trans ap).trans av) hs)) (Nat.lt_succ_self _))
   refine Wr λcl b0=>Mv U<|Oge U<|Ox b0<|Z H (Yu U) (λ_ H=>?_) λ_ H=>?_;refine Zg<|Mv U<|Mv U<|O_y U (Vv U U (by decide))<|O_y U (Jy U U (by decide))<|Oad U<|O_y U (Xh un3 un5 U)<|X5 (xs:=[.tmp 39]) (cs:=[.int .u8 (u8.wrap (i64.wrap (48+((i64.wrap ((i64.wrap (Xg .u32 (x0.fdiv (2^(min (u64.wrap (i64.wrap (24-(i64.wrap (8*aa))))).toNat 32))) 255)).tdiv 10)).tmod 10))))]) J3 hs U U U (by decide) (by decide) U (Y8 U X8) (Ym U Xc) (λb1 w hs=>?_);have ax:Z3 (Rep.int .u8) ai ([.int .u8 (u8.wrap (i64.wrap (48+((i64.wrap ((i64.wrap (Xg .u32 (x0.fdiv (2^(min (u64.wrap (i64.wrap (24-(i64.wrap (8*aa))))).toNat 32))) 255)).tdiv 10)).tmod 10))))]) [u8.wrap (i64.wrap (48+((i64.wrap ((i64.wrap (Xg .u32 (x0.fdiv (2^(min (u64.wrap (i64.wrap (24-(i64.wrap (8*aa))))).toNat 32))) 255)).tdiv 10)).tmod 10)))]:=Z3.cons (c:=[.int .u8 (u8.wrap (i64.wrap (48+((i64.wrap ((i64.wrap (Xg .u32 (x0.fdiv (2^(min (u64.wrap (i64.wrap (24-(i64.wrap (8*aa))))).toNat 32))) 255)).tdiv 10)).tmod 10))))]) (x:=u8.wrap (i64.wrap (48+((i64.wrap ((i64.wrap (Xg .u32 (x0.fdiv (2^(min (u64.wrap (i64.wrap (24-(i64.wrap (8*aa))))).toNat 32))) 255)).tdiv 10)).tmod 10)))) U (Z3.nil _ _);obtain ⟨ay,aq,hs,az⟩:=hs.rowEnd (j:=0) ax U;refine O_y U (Kz U4 un5 un9 hs az U)<|G H λa0 H=>O_y U (Qn U U a0)<|As U<|Zh (bd _ _ _ (T4 U) (be (ad++(Xd ([u8.wrap (i64.wrap (48+((i64.wrap ((i64.wrap (Xg .u32 (x0.fdiv (2^(min (u64.wrap (i64.wrap (24-(i64.wrap (8*aa))))).toNat 32))) 255)).tdiv 10)).tmod 10)))]))) ay _ H aq hs));exact Xw (bd _ _ _ (T4 U) (be ad ai _ H (Le.rfl' _) hs))
  refine Wr λb2 a1=>Mv U<|Oge U<|Ox a1<|Z H (Yu U) (λ_ H=>?_) λ_ H=>?_;refine Zg<|Mv U<|Mv U<|O_y U (Vv U U (by decide))<|Oad U<|O_y U (Xh un3 un5 U)<|X5 (xs:=[.tmp 28]) (cs:=[.int .u8 (u8.wrap (i64.wrap (48+(i64.wrap ((i64.wrap (Xg .u32 (x0.fdiv (2^(min (u64.wrap (i64.wrap (24-(i64.wrap (8*aa))))).toNat 32))) 255)).tdiv 100)))))]) J3 hs U U U (by decide) (by decide) U (Y8 U X8) (Ym U Xc) (λb3 w hs=>?_);have a2:Z3 (Rep.int .u8) ah ([.int .u8 (u8.wrap (i64.wrap (48+(i64.wrap ((i64.wrap (Xg .u32 (x0.fdiv (2^(min (u64.wrap (i64.wrap (24-(i64.wrap (8*aa))))).toNat 32))) 255)).tdiv 100)))))]) [u8.wrap (i64.wrap (48+(i64.wrap ((i64.wrap (Xg .u32 (x0.fdiv (2^(min (u64.wrap (i64.wrap (24-(i64.wrap (8*aa))))).toNat 32))) 255)).tdiv 100))))]:=Z3.cons (c:=[.int .u8 (u8.wrap (i64.wrap (48+(i64.wrap ((i64.wrap (Xg .u32 (x0.fdiv (2^(min (u64.wrap (i64.wrap (24-(i64.wrap (8*aa))))).toNat 32))) 255)).tdiv 100)))))]) (x:=u8.wrap (i64.wrap (48+(i64.wrap ((i64.wrap (Xg .u32 (x0.fdiv (2^(min (u64.wrap (i64.wrap (24-(i64.wrap (8*aa))))).toNat 32))) 255)).tdiv 100))))) U (Z3.nil _ _);obtain ⟨a3,ar,hs,a4⟩:=hs.rowEnd (j:=0) a2 U;refine O_y U (Kz U4 un5 un9 hs a4 U)<|G H λa5 H=>O_y U (Qn U U a5)<|As U<|Zh (bb _ _ _ (T4 U) (bc (ae++(Xd ([u8.wrap (i64.wrap (48+(i64.wrap ((i64.wrap (Xg .u32 (x0.fdiv (2^(min (u64.wrap (i64.wrap (24-(i64.wrap (8*aa))))).toNat 32))) 255)).tdiv 100))))]))) a3 _ H ar hs));exact Xw (bb _ _ _ (T4 U) (bc ae ah _ H (Le.rfl' _) hs))
 refine Wr λb4 a6=>Mv U<|Ogt U<|Ox a6<|W.weak [(0,_),(3,_),(4,_),(5,_),(19,_)] sbn<|Z H (Yu U) (λ_ H=>?_) λ_ H=>?_;refine Zg<|Mv U<|G H λa7 H=>O_y U (Qn U U a7)<|As U<|Zh (a9 _ _ _ (T4 U) (ba (ab++(⟨#[46]⟩:ByteArray)) _ H hs));exact Xw (a9 _ _ _ (T4 U) (ba ab _ H hs));refine Y2 (bj _ _ (bh _ _<|Wr λb5 a8=>Mv U<|As U<|Ox a8<|Zv ?_));cases H;exact r1 U ⟨U,(hs.less ak)⟩

def Zk.j1 (ae:Int->Int->Int->Option (Int×Int)) (aa ai aj:Int):Option (Int×Int):=ae ai aj (i64.wrap (aa+1))
def Zk.j2 (ae:Int->Int->Int->Option (Int×Int)) (am:Int->Option (Int×Int)) (ab ac aa ad:Int) (ag:Bool):Option (Int×Int):=if ag=true then (am (i64.wrap (ad+1))) else (if ac<ad then (Zk.j1 ae aa aa ad) else (Zk.j1 ae aa ab ac))
def Zk.l1 (ae:Int->Int->Int->Option (Int×Int)):Nat->Vector Int 8->Int->Int->Int->Int->Int->Option (Int×Int)
  | 0,_,_,_,_,_,_=>none
  | ah+1,x0,x1,ab,ac,aa,ad=>if (i64.wrap (aa+ad))<x1 then (if (0:Int)<=i64.wrap (aa+ad)/\i64.wrap (aa+ad)<((8:Nat):Int) then (Zk.j2 ae (Zk.l1 ae ah x0 x1 ab ac aa) ab ac aa ad (decide ((vg x0 (i64.wrap (aa+ad)))=0))) else none) else (Zk.j2 ae (Zk.l1 ae ah x0 x1 ab ac aa) ab ac aa ad false)
def Zk.l2:Nat->Vector Int 8->Int->Int->Int->Int->Option (Int×Int)
  | 0,_,_,_,_,_=>none
  | af+1,x0,x1,ab,ac,aa=>if aa<x1 then (Zk.l1 (Zk.l2 af x0 x1) K0 x0 x1 ab ac aa 0) else (if ab<0 then (some ((-1),0)) else (some (ab,ac)))
def Zk.f (x0:Vector Int 8) (x1:Int):Option (Int×Int):=Zk.l2 K0 x0 x1 (-1) 1 0
theorem Zk.c (hs:St w0 ρ (Γ) w) {x0:Vector Int 8} {x1:Int} {r:Int×Int} (H:Zk.f x0 x1=some r):Zt Tryz.prog 49 [.agg (vcs (Value.int .u16) x0).toArray,Lk x1] w (λv w'=>v=.tuple #[Lk r.1,Lk r.2]/\St w0 ρ Γ w'):=by
 rw [Zk.f] at H;refine Et Tryz.func49 Tryz.ntmps49 U<|Wr λbo a4=>Qb hs U U (λak w hs=>As U<|As U<|Ox a4<|Wr λbp a5=>As U<|As U<|Ox a5<|Zn λbq a6=>Zn λbr a7=>Zg<|As U<|Ox a7<|Zu λbs a8 bt=>Xa (σ:=Nat×Int×Int×Int) (λ(af,ab,ac,aa)=>[(1,Lk x1),(2,Ll ak),(6,Lk ab),(7,Lk ac),(8,Lk aa)]) (λ(af,ab,ac,aa) w=>Zk.l2 af x0 x1 ab ac aa=some r/\St w0 ρ ((.box ak 28 ([]++(vcs (Value.int .u16) x0++[])))::Γ) w) (λs=>s.1) (K0,(-1),1,0) sbn (Ai H hs) ?_);rintro ⟨af,ab,ac,aa⟩ w bu ⟨H,hs⟩ an;show W _ _ _ _ _ _ [(1,Lk x1),(2,Ll ak),(6,Lk ab),(7,Lk ac),(8,Lk aa)] w
 cases af with
 | zero=>rw [Zk.l2] at H;cases H
 | succ af=>
 rw [Zk.l2] at H;refine Zn λbv a9=>Wr λbw ba=>Mv U<|Mv U<|Ols U<|Ox ba<|Yu U (λau=>?_) (λau=>?_)
 ·rw [if_pos au] at H
  refine Wx a9<|Ye λbb bc a0=>?_;have a1 (ai:Int) (aj:Int) (w:World) (H:Zk.j1 (Zk.l2 af x0 x1) aa ai aj=some r) (hs:St w0 ρ ((.box ak 28 ([]++(vcs (Value.int .u16) x0++[])))::Γ) w):bb [(1,Lk x1),(2,Ll ak),(6,Lk ai),(7,Lk aj),(8,Lk aa)] w:=by rw [Zk.j1] at H;refine bc _ _<|Zg<|Mv U<|Oad U<|As U<|Zh (an (af,ai,aj,(i64.wrap (aa+1))) _ _ sbn (Ai H hs) (Nat.lt_succ_self _))
  refine Zu λbx bz b0=>Wr λb1 bd=>As U<|Ox bd<|Zn λb2 be=>Zu λb3 bf b4=>Xa (σ:=Nat×Int) (λ(ah,ad)=>[(1,Lk x1),(2,Ll ak),(6,Lk ab),(7,Lk ac),(8,Lk aa),(9,Lk ad)]) (λ(ah,ad) w=>Zk.l1 (Zk.l2 af x0 x1) ah x0 x1 ab ac aa ad=some r/\St w0 ρ ((.box ak 28 ([]++(vcs (Value.int .u16) x0++[])))::Γ) w) (λs=>s.1) (K0,0) sbn (Ai H hs) ?_;rintro ⟨ah,ad⟩ w b5 ⟨H,hs⟩ ao;show W _ _ _ _ _ _ [(1,Lk x1),(2,Ll ak),(6,Lk ab),(7,Lk ac),(8,Lk aa),(9,Lk ad)] w
  cases ah with
  | zero=>rw [Zk.l1] at H;cases H
  | succ ah=>
  rw [Zk.l1] at H;refine Zn λb6 bg=>Ye λbh bi a2=>?_;have a3 (ag:Bool) (w:World) (H:Zk.j2 (Zk.l2 af x0 x1) (Zk.l1 (Zk.l2 af x0 x1) ah x0 x1 ab ac aa) ab ac aa ad ag=some r) (hs:St w0 ρ ((.box ak 28 ([]++(vcs (Value.int .u16) x0++[])))::Γ) w):bh [(1,Lk x1),(2,Ll ak),(6,Lk ab),(7,Lk ac),(8,Lk aa),(9,Lk ad),(27,.bool ag)] w:=by refine bi _ _<|Ra H (Y5 U) (λ_ H=>?_) λ_ H=>?_;refine Wx bg<|Zu λb7 b8 b9=>Zg<|Mv U<|Oad U<|As U<|Zh (ao (ah,(i64.wrap (ad+1))) _ _ sbn (Ai H hs) (Nat.lt_succ_self _));refine Y2 (bf _ _ (be _ _<|Wr λca bj=>Mv U<|Mv U<|Ogt U<|Ox bj<|Yu U (λap=>?_) (λap=>?_)));rw [if_pos ap] at H;refine Zg<|Mv U<|Mv U<|As U<|As U<|Zh (a0 _ _ _ sbn (a1 aa ad _ H hs));rw [if_neg ap] at H;exact Xw (a0 _ _ _ sbn (a1 ab ac _ H hs))
  refine Zg<|Mv U<|Mv U<|Oad U<|Mv U<|Ols U<|Mv U<|Z H (X4 (dj:=20) U) (λ_ H=>?_) λ_ H=>?_;refine Oe U<|Mv U<|Oe U<|Mv U<|Oe U<|Oad U<|G H λal H=>Oe U<|O_y U (Q1 Zc3 Zb4 U U al.1 al.2)<|Oe U<|O_y U (Qv (j:=0) Zbo hs U U al.1 al.2 U)<|Oe U<|Oeq U<|Opk U<|Zh (a2 _ _ _ sbn (a3 (decide ((vg x0 (i64.wrap (aa+ad)))=0)) _ H hs));refine On U<|On U<|On U<|On U<|On U<|On U<|Opk U<|Zh (a2 _ _ _ sbn (a3 false _ H hs))
 rw [if_neg au] at H;refine Y2 (a8 _ _ (a6 _ _<|Zn λbk aw=>Wr λbl ax=>Mv U<|Ols U<|Ox ax<|Yu U (λar=>?_) (λar=>?_)));rw [if_pos ar] at H;refine Wr λbm ay=>As U<|As U<|Ox ay<|Zv ?_;cases H;exact Jq U U U ⟨U,(hs.sub (ssk ssr))⟩;rw [if_neg ar] at H;refine Wx aw<|Wr λbn az=>Mv U<|Mv U<|As U<|As U<|Ox az<|Zv ?_;cases H;exact Jq U U U ⟨U,(hs.sub (ssk ssr))⟩

def Z2.j1 (af:Int->ByteArray->Int->Option ByteArray) (aa:Int) (ab:ByteArray) (ac:Int) (ad:Bool):Option ByteArray:=if ad=true then (if (0:Int)<=aa.tmod 16/\aa.tmod 16<=u16.wrap ((aa.tmod 16)+1)/\u16.wrap ((aa.tmod 16)+1)<=((⟨#[48,49,50,51,52,53,54,55,56,57,97,98,99,100,101,102]⟩:ByteArray).size:Int) then (if ((⟨#[48,49,50,51,52,53,54,55,56,57,97,98,99,100,101,102]⟩:ByteArray).extract (aa.tmod 16:Int).toNat (u16.wrap ((aa.tmod 16)+1):Int).toNat).size+ab.size<=9223372036854775807 then (af (u16.wrap (aa.tdiv 16)) (((⟨#[48,49,50,51,52,53,54,55,56,57,97,98,99,100,101,102]⟩:ByteArray).extract (aa.tmod 16:Int).toNat (u16.wrap ((aa.tmod 16)+1):Int).toNat)++ab) (i64.wrap (ac+1))) else none) else none) else (some ab)
def Z2.l1:Nat->Int->Int->ByteArray->Int->Option ByteArray
  | 0,_,_,_,_=>none
  | ae+1,x1,aa,ab,ac=>if ac<x1 then (Z2.j1 (Z2.l1 ae x1) aa ab ac true) else (Z2.j1 (Z2.l1 ae x1) aa ab ac (decide (0<aa)))
def Z2.f (x0 x1:Int):Option ByteArray:=Z2.l1 K0 x1 x0 (⟨#[]⟩:ByteArray) 0
theorem Z2.c (hs:St w0 ρ (Γ) w) {x0 x1:Int} {r:ByteArray} (H:Z2.f x0 x1=some r):Zt Tryz.prog 50 [.int .u16 x0,Lk x1] w (λv w'=>v=.string r/\St w0 ρ Γ w'):=by
 rw [Z2.f] at H;refine Et Tryz.func50 Tryz.ntmps50 U<|Wr λa0 am=>As U<|Ox am<|Wr λa1 an=>As U<|Ox an<|Zn λa2 ao=>Wr λa3 ap=>As U<|Zh (ap _ _<|Zu λa4 aq a5=>Xa (σ:=Nat×Int×ByteArray×Int) (λ(ae,aa,ab,ac)=>[(0,.int .u16 aa),(1,Lk x1),(5,.string ab),(6,Lk ac)]) (λ(ae,aa,ab,ac) w=>Z2.l1 ae x1 aa ab ac=some r/\St w0 ρ (Γ) w) (λs=>s.1) (K0,x0,(⟨#[]⟩:ByteArray),0) (T4 U) (Ai H hs) ?_);rintro ⟨ae,aa,ab,ac⟩ w a6 ⟨H,hs⟩ ag;show W _ _ _ _ _ _ [(0,.int .u16 aa),(1,Lk x1),(5,.string ab),(6,Lk ac)] w
 cases ae with
 | zero=>rw [Z2.l1] at H;cases H
 | succ ae=>
 rw [Z2.l1] at H;refine Zn λa7 ar=>Ye λau av ak=>?_;have al (ad:Bool) (w:World) (H:Z2.j1 (Z2.l1 ae x1) aa ab ac ad=some r) (hs:St w0 ρ (Γ) w):au [(0,.int .u16 aa),(1,Lk x1),(5,.string ab),(6,Lk ac),(13,.bool ad)] w:=by refine av _ _<|Ra H (Y5 U) (λ_ H=>?_) λ_ H=>?_;refine Wx ar<|Zn λa8 aw=>Zu λa9 ba bb=>Wr λbc ax=>Mv U<|O_y U (Jy U U (by decide))<|Mv U<|O_y U (Jy U U (by decide))<|Oad U<|G H λai H=>O_y U (Kr un9 U (.inr ⟨_,_,U,U⟩) (.inr ⟨_,_,U,U⟩) ai.1 ai.2.1 ai.2.2)<|Mv U<|G H λay H=>O_y U (Qn U U ay)<|As U<|Ox ax<|Zg<|Mv U<|O_y U (Vv U U (by decide))<|As U<|Ox aw<|W.weak [(0,_),(1,_),(5,_),(6,_)] (T4 U)<|Zg<|Mv U<|Oad U<|As U<|Zh (ag (ae,(u16.wrap (aa.tdiv 16)),(((⟨#[48,49,50,51,52,53,54,55,56,57,97,98,99,100,101,102]⟩:ByteArray).extract (aa.tmod 16:Int).toNat (u16.wrap ((aa.tmod 16)+1):Int).toNat)++ab),(i64.wrap (ac+1))) _ _ (T4 U) (Ai H hs) (Nat.lt_succ_self _));refine Y2 (aq _ _ (ao _ _<|Wr λbd az=>Mv U<|As U<|Ox az<|Zv ?_));cases H;exact r1 U ⟨U,hs⟩
 refine Zg<|Mv U<|Mv U<|Ols U<|Mv U<|Z H (X4 (dj:=10) U) (λ_ H=>?_) λ_ H=>?_;refine On U<|On U<|Opk U<|Zh (ak _ _ _ sbn (al true _ H hs));refine Oe U<|Mv U<|Oe U<|Ogt U<|Opk U<|Zh (ak _ _ _ sbn (al (decide (0<aa)) _ H hs))

def Zd.j1 (ae:ByteArray->Int->Option ByteArray) (ak:ByteArray) (af:Int):Option ByteArray:=ae ak (i64.wrap (af+1))
def Zd.j2 (ae:ByteArray->Int->Option ByteArray) (x0:Vector Int 8) (ab:Int) (ah:ByteArray):Option ByteArray:=if (0:Int)<=ab/\ab<((8:Nat):Int) then ((Z2.f (vg x0 ab) 1).bind λa1=>(if ah.size+a1.size<=9223372036854775807 then (Zd.j1 ae (ah++a1) ab) else none)) else none
def Zd.j3 (ae:ByteArray->Int->Option ByteArray) (x0:Vector Int 8) (aa:ByteArray) (ab:Int) (ac:Bool):Option ByteArray:=if ac=true then (if aa.size+(⟨#[58]⟩:ByteArray).size<=9223372036854775807 then (Zd.j2 ae x0 ab (aa++(⟨#[58]⟩:ByteArray))) else none) else (Zd.j2 ae x0 ab aa)
def Zd.j4 (ai:ByteArray):Option ByteArray:=some ai
def Zd.j5 (aa:ByteArray) (ad:Bool):Option ByteArray:=if ad=true then (if aa.size+(⟨#[58]⟩:ByteArray).size<=9223372036854775807 then (Zd.j4 (aa++(⟨#[58]⟩:ByteArray))) else none) else (Zd.j4 aa)
def Zd.l1:Nat->Vector Int 8->Int->Bool->(Int×Int)->ByteArray->Int->Option ByteArray
  | 0,_,_,_,_,_,_=>none
  | ag+1,x0,x1,x2,aj,aa,ab=>if ab<x1 then (if ab=aj.1 then (if aa.size+(⟨#[58,58]⟩:ByteArray).size<=9223372036854775807 then (Zd.j1 (Zd.l1 ag x0 x1 x2 aj) (aa++(⟨#[58,58]⟩:ByteArray)) (i64.wrap (ab+(i64.wrap (aj.2-1))))) else none) else (if aa≠(⟨#[]⟩:ByteArray) then (if (0:Int)<=i64.wrap ((aa.size:Int)-1)/\i64.wrap ((aa.size:Int)-1)<(aa.size:Int) then (Zd.j3 (Zd.l1 ag x0 x1 x2 aj) x0 aa ab (decide ((bt aa (i64.wrap ((aa.size:Int)-1)))≠58))) else none) else (Zd.j3 (Zd.l1 ag x0 x1 x2 aj) x0 aa ab false))) else (if x2=true then (if (0:Int)<=i64.wrap ((aa.size:Int)-1)/\i64.wrap ((aa.size:Int)-1)<(aa.size:Int) then (Zd.j5 aa (decide ((bt aa (i64.wrap ((aa.size:Int)-1)))≠58))) else none) else (Zd.j5 aa false))
def Zd.f (x0:Vector Int 8) (x1:Int) (x2:Bool):Option ByteArray:=(Zk.f x0 x1).bind λaj=>(Zd.l1 K0 x0 x1 x2 aj (⟨#[]⟩:ByteArray) 0)
theorem Zd.c (hs:St w0 ρ (Γ) w) {x0:Vector Int 8} {x1:Int} {x2:Bool} {r:ByteArray} (H:Zd.f x0 x1 x2=some r):Zt Tryz.prog 29 [.agg (vcs (Value.int .u16) x0).toArray,Lk x1,.bool x2] w (λv w'=>v=.string r/\St w0 ρ Γ w'):=by
 refine Et Tryz.func29 Tryz.ntmps29 U<|Wr λb7 bl=>Qb hs U U (λal w hs=>As U<|Ox bl<|Wr λb8 bm=>O_y U (Z8 (j:=0) Zbp Zb6 hs U U)<|Mv U<|M H λaj a3 H=>Oc U (Zk.c hs a3)<|V λw hs=>Mv U<|Oxt U<|Oxt U<|As U<|As U<|Ox bm<|Wr λca bn=>As U<|Ox bn<|Zn λcb bo=>Wr λcc bp=>As U<|Ox bp<|W.weak [(1,_),(2,_),(3,_),(7,_),(8,_),(9,_),(10,_)] sbn<|Zu λcd bq ce=>Xa (σ:=Nat×ByteArray×Int) (λ(ag,aa,ab)=>[(1,Lk x1),(2,.bool x2),(3,Ll al),(7,Lk aj.1),(8,Lk aj.2),(9,.string aa),(10,Lk ab)]) (λ(ag,aa,ab) w=>Zd.l1 ag x0 x1 x2 aj aa ab=some r/\St w0 ρ ((.box al 28 ([]++(vcs (Value.int .u16) x0++[])))::Γ) w) (λs=>s.1) (K0,(⟨#[]⟩:ByteArray),0) sbn (Ai H hs) ?_);rintro ⟨ag,aa,ab⟩ w cf ⟨H,hs⟩ am;show W _ _ _ _ _ _ [(1,Lk x1),(2,.bool x2),(3,Ll al),(7,Lk aj.1),(8,Lk aj.2),(9,.string aa),(10,Lk ab)] w
 cases ag with
 | zero=>rw [Zd.l1] at H;cases H
 | succ ag=>
 rw [Zd.l1] at H;refine Zn λcg br=>Wr λch bs=>Mv U<|Mv U<|Ols U<|Ox bs<|Z H (Yu U) (λ_ H=>?_) λ_ H=>?_;refine Wx br<|Ye λbu bv bh=>?_;have bi (ak:ByteArray) (af:Int) (w:World) (H:Zd.j1 (Zd.l1 ag x0 x1 x2 aj) ak af=some r) (hs:St w0 ρ ((.box al 28 ([]++(vcs (Value.int .u16) x0++[])))::Γ) w):bu [(1,Lk x1),(2,.bool x2),(3,Ll al),(7,Lk aj.1),(8,Lk aj.2),(9,.string ak),(10,Lk af)] w:=by rw [Zd.j1] at H;refine bv _ _<|Zg<|Mv U<|Oad U<|As U<|Zh (am (ag,ak,(i64.wrap (af+1))) _ _ sbn (Ai H hs) (Nat.lt_succ_self _))
 refine Zu λci bw cj=>Zn λck bx=>Wr λcl bz=>Mv U<|Mv U<|Oeq U<|Ox bz<|Z H (Yu U) (λ_ H=>?_) λ_ H=>?_;refine Wr λcm b0=>Mv U<|G H λb1 H=>O_y U (Qn U U b1)<|As U<|Ox b0<|W.weak [(1,_),(2,_),(3,_),(7,_),(8,_),(9,_),(10,_)] sbn<|Wr λcn b2=>Mv U<|Mv U<|Osu U<|Oad U<|As U<|Ox b2<|Y2 (bw _ _ (bh _ _ _ sbn (bi (aa++(⟨#[58,58]⟩:ByteArray)) (i64.wrap (ab+(i64.wrap (aj.2-1)))) _ H hs)));refine Wx bx<|Ye λb3 b4 bj=>?_;have bk (ah:ByteArray) (w:World) (H:Zd.j2 (Zd.l1 ag x0 x1 x2 aj) x0 ab ah=some r) (hs:St w0 ρ ((.box al 28 ([]++(vcs (Value.int .u16) x0++[])))::Γ) w):b3 [(1,Lk x1),(2,.bool x2),(3,Ll al),(7,Lk aj.1),(8,Lk aj.2),(9,.string ah),(10,Lk ab)] w:=by refine b4 _ _<|Zg<|Mv U<|Mv U<|G H λa2 H=>O_y U (Q1 Zc3 Zb4 U U a2.1 a2.2)<|O_y U (Qv (j:=0) Zbo hs U U a2.1 a2.2 U)<|M H λa1 a6 H=>Oc U (Z2.c hs a6)<|V λw hs=>G H λa7 H=>O_y U (Qn U U a7)<|As U<|Zh (bh _ _ _ sbn (bi (ah++a1) ab _ H hs))
 refine Ye λa8 a9 ar=>?_;have au (ac:Bool) (w:World) (H:Zd.j3 (Zd.l1 ag x0 x1 x2 aj) x0 aa ab ac=some r) (hs:St w0 ρ ((.box al 28 ([]++(vcs (Value.int .u16) x0++[])))::Γ) w):a8 [(1,Lk x1),(2,.bool x2),(3,Ll al),(7,Lk aj.1),(8,Lk aj.2),(9,.string aa),(10,Lk ab),(40,.bool ac)] w:=by refine a9 _ _<|Ra H (Y5 U) (λ_ H=>?_) λ_ H=>?_;refine Zg<|Mv U<|G H λba H=>O_y U (Qn U U ba)<|As U<|Zh (bj _ _ _ sbn (bk (aa++(⟨#[58]⟩:ByteArray)) _ H hs));exact Xw (bj _ _ _ sbn (bk aa _ H hs))
 refine Zg<|Mv U<|O_y U (Kt U U)<|Mv U<|Z H (X4 (dj:=33) U) (λ_ H=>?_) λ_ H=>?_;refine Oe U<|Mv U<|Oe U<|Mv U<|Oe U<|O_y U (Xx un9 U)<|Oe U<|Osu U<|G H λav H=>Oe U<|O_y U (Vt un9 U U av.1 av.2)<|Oe U<|One U<|Opk U<|Zh (ar _ _ _ sbn (au (decide ((bt aa (i64.wrap ((aa.size:Int)-1)))≠58)) _ H hs));refine On U<|On U<|On U<|On U<|On U<|On U<|Opk U<|Zh (ar _ _ _ sbn (au false _ H hs));refine Y2 (bq _ _ (bo _ _<|Ye λbb bc aw=>?_));have ax (ai:ByteArray) (w:World) (H:Zd.j4 ai=some r) (hs:St w0 ρ ((.box al 28 ([]++(vcs (Value.int .u16) x0++[])))::Γ) w):bb [(9,.string ai)] w:=by rw [Zd.j4] at H;refine bc _ _<|Wr λb6 bd=>Mv U<|As U<|Ox bd<|Zv ?_;cases H;exact r1 U ⟨U,(hs.sub (ssk ssr))⟩
 refine Ye λbe bf ay=>?_;have az (ad:Bool) (w:World) (H:Zd.j5 aa ad=some r) (hs:St w0 ρ ((.box al 28 ([]++(vcs (Value.int .u16) x0++[])))::Γ) w):be [(9,.string aa),(57,.bool ad)] w:=by refine bf _ _<|Ra H (Y5 U) (λ_ H=>?_) λ_ H=>?_;refine Zg<|Mv U<|G H λbg H=>O_y U (Qn U U bg)<|As U<|Zh (aw _ _ _ (S1 U) (ax (aa++(⟨#[58]⟩:ByteArray)) _ H hs));exact Xw (aw _ _ _ (S1 U) (ax aa _ H hs))
 refine Zg<|Mv U<|Mv U<|Ra H (Xv (dj:=50) U) (λ_ H=>?_) λ_ H=>?_;refine Oe U<|Mv U<|Oe U<|Mv U<|Oe U<|O_y U (Xx un9 U)<|Oe U<|Osu U<|G H λa0 H=>Oe U<|O_y U (Vt un9 U U a0.1 a0.2)<|Oe U<|One U<|Opk U<|Zh (ay _ _ _ (T2 U) (az (decide ((bt aa (i64.wrap ((aa.size:Int)-1)))≠58)) _ H hs));refine On U<|On U<|On U<|On U<|On U<|On U<|Opk U<|Zh (ay _ _ _ (T2 U) (az false _ H hs))

def Xm.f (x0:Vector Int 8):Option ByteArray:=(Zd.f x0 8 false).bind λab=>(some ab)
theorem Xm.c (hs:St w0 ρ (Γ) w) {x0:Vector Int 8} {r:ByteArray} (H:Xm.f x0=some r):Zt Tryz.prog 21 [.agg (vcs (Value.int .u16) x0).toArray] w (λv w'=>v=.string r/\St w0 ρ Γ w'):=by
 refine Et Tryz.func21 Tryz.ntmps21 U<|Wr λae ac=>Qb hs U U (λaf w hs=>As U<|Ox ac<|Wr λag ad=>O_y U (Z8 (j:=0) Zbp Zb6 hs U U)<|M H λab aa H=>Oc U (Zd.c hs aa)<|V λw hs=>As U<|Ox ad<|Zv ?_);cases H;exact r1 U ⟨U,(hs.sub (ssk ssr))⟩

def Y3.f (x0:S10):Option ByteArray:=if x0.kind=2 then ((Zi.f x0.four).bind λaf=>(some af)) else (if x0.kind=3 then ((Xm.f (#v[x0.six0,x0.six1,x0.six2,x0.six3,x0.six4,x0.six5,x0.six6,x0.six7])).bind λaa=>(if (⟨#[91]⟩:ByteArray).size+aa.size<=9223372036854775807 then (if ((⟨#[91]⟩:ByteArray)++aa).size+(⟨#[93]⟩:ByteArray).size<=9223372036854775807 then (some (((⟨#[91]⟩:ByteArray)++aa)++(⟨#[93]⟩:ByteArray))) else none) else none)) else (some x0.text))
theorem Y3.c (hs:St w0 ρ (Γ) w) {c0:List Value} {x0:S10} (h0:Yv.R ρ c0 x0) {r:ByteArray} (H:Y3.f x0=some r):Zt Tryz.prog 13 [.agg c0.toArray] w (λv w'=>v=.string r/\St w0 ρ Γ w'):=by
 refine Et Tryz.func13 Tryz.ntmps13 U ?_;have ag:=h0;obtain rfl:=ag;refine Wr λar ah=>X0 (cs:=[Lk x0.kind,.string x0.text,.int .u32 x0.four,.int .u16 x0.six0,.int .u16 x0.six1,.int .u16 x0.six2,.int .u16 x0.six3,.int .u16 x0.six4,.int .u16 x0.six5,.int .u16 x0.six6,.int .u16 x0.six7]) hs U U (λau w hs=>As U<|Ox ah<|Zn λav ai=>Wr λaw aj=>Ofd J5 U<|Obx 0 ag3 hs U<|Ox aj<|Zu λax ay az=>Zn λa0 ak=>Zg<|Oeq U<|As U<|Ox ak<|Z H (Yu U) (λ_ H=>?_) λ_ H=>?_);refine Wr λa1 al=>Ofd Zan U<|Obx 0 Zaf hs U<|M H λaf ac H=>Oc U (Zi.c hs ac)<|V λw hs=>As U<|Ox al<|Zv ?_;cases H;exact r1 U ⟨U,(hs.sub (ssk ssr))⟩;refine Wr λa3 am=>Oeq U<|As U<|Ox am<|Z H (Yu U) (λ_ H=>?_) λ_ H=>?_;refine Wr λa4 an=>Ofd Zao U<|O_y U (Zq (i:=0) Zbp Zb6 hs U U U U)<|M H λaa ae H=>Oc U (Xm.c hs ae :)<|V λw hs=>G H λao H=>O_y U (Qn U U ao)<|G H λap H=>O_y U (Qn U U ap)<|As U<|Ox an<|Zv ?_;cases H;exact r1 U ⟨U,(hs.sub (ssk ssr))⟩;refine Wx ai<|Wr λa6 aq=>Ofd X6 U<|Obx 0 ag9 hs U<|As U<|Ox aq<|Zv ?_;cases H;exact r1 U ⟨U,(hs.sub (ssk ssr))⟩

def Zr.j1 (am:List ByteArray->Int->Int->Option (List ByteArray)) (aa:Int) (ad:List ByteArray) (ak:Int):Option (List ByteArray):=am ad ak (i64.wrap (aa+1))
def Zr.l1:Nat->ByteArray->List ByteArray->Int->Int->Option (List ByteArray)
  | 0,_,_,_,_=>none
  | aj+1,x0,ab,ac,aa=>if aa<(x0.size:Int) then (if (0:Int)<=aa/\aa<(x0.size:Int) then (if (bt x0 aa)=46 then (if (0:Int)<=ac/\ac<=aa/\aa<=(x0.size:Int) then (if ab.length+([x0.extract (ac:Int).toNat (aa:Int).toNat]).length<=most then (Zr.j1 (Zr.l1 aj x0) aa (ab++([x0.extract (ac:Int).toNat (aa:Int).toNat])) (i64.wrap (aa+1))) else none) else none) else (Zr.j1 (Zr.l1 aj x0) aa ab ac)) else none) else (if (0:Int)<=ac/\ac<=(x0.size:Int)/\(x0.size:Int)<=(x0.size:Int) then (if ab.length+([x0.extract (ac:Int).toNat ((x0.size:Int):Int).toNat]).length<=most then (some (ab++([x0.extract (ac:Int).toNat ((x0.size:Int):Int).toNat]))) else none) else none)
def Zr.f (x0:ByteArray):Option (List ByteArray):=Zr.l1 K0 x0 ([]:List ByteArray) 0 0
theorem Zr.c (hs:St w0 ρ (Γ) w) {x0:ByteArray} {r:List ByteArray} (H:Zr.f x0=some r):Zt Tryz.prog 14 [.string x0] w (λv w'=>∃ (ρ':Hp) (v0:Value) (cs0:List Value),v=v0/\Le ρ ρ'/\St w0 ρ' (.row v0 9 Rep.str.sz r.length cs0::Γ) w'/\Z3 Rep.str ρ' cs0 r):=by
 rw [Zr.f] at H;refine Et Tryz.func14 Tryz.ntmps14 U<|Wr λbm a3=>As U<|Ox a3<|Wr λbn a4=>X5 (xs:=[]) (cs:=[]) Ur hs U U U (by decide) (by decide) U X8 Xc (λa5 w hs=>?_);have a6:Z3 Rep.str ρ ([]) ([]:List ByteArray):=Z3.nil _ _;refine As U<|Ox a4<|Wr λbo a7=>As U<|Ox a7<|Zn λbp a8=>Wr λbq a9=>As U<|Ox a9<|Zu λbr ba bs=>Xa (σ:=Nat×List ByteArray×Int×Int×Value×List Value) (λ(aj,ab,ac,aa,ae,af)=>[(0,.string x0),(3,ae),(4,Lk ac),(5,Lk aa)]) (λ(aj,ab,ac,aa,ae,af) w=>Zr.l1 aj x0 ab ac aa=some r/\St w0 ρ ((.row ae 9 Rep.str.sz ab.length af)::Γ) w/\Z3 Rep.str ρ af ab) (λs=>s.1) (K0,([]:List ByteArray),0,0,(.slice (some ⟨a5,0,none⟩) 0 0),([])) (T4 U) (Ai H (Ai hs a6)) ?_;rintro ⟨aj,ab,ac,aa,ae,af⟩ w bu ⟨H,hs,ai⟩ an;show W _ _ _ _ _ _ [(0,.string x0),(3,ae),(4,Lk ac),(5,Lk aa)] w
 cases aj with
 | zero=>rw [Zr.l1] at H;cases H
 | succ aj=>
 rw [Zr.l1] at H;refine Zn λbv bb=>Wr λbw bc=>Mv U<|Mv U<|O_y U (Xx un9 U)<|Ols U<|Ox bc<|Z H (Yu U) (λ_ H=>?_) λ_ H=>?_;refine Wx bb<|Ye λbd be ay=>?_;have az (ad:List ByteArray) (ak:Int) (ag:Value) (ah:List Value) (w:World) (H:Zr.j1 (Zr.l1 aj x0) aa ad ak=some r) (hs:St w0 ρ ((.row ag 9 Rep.str.sz ad.length ah)::Γ) w) (al:Z3 Rep.str ρ ah ad):bd [(0,.string x0),(3,ag),(4,Lk ak),(5,Lk aa)] w:=by rw [Zr.j1] at H;refine be _ _<|Zg<|Mv U<|Oad U<|As U<|Zh (an (aj,ad,ak,(i64.wrap (aa+1)),ag,ah) _ _ (T4 U) (Ai H (Ai hs al)) (Nat.lt_succ_self _))
 refine Zu λbx bz b0=>Wr λb1 bf=>Mv U<|Mv U<|G H λa0 H=>O_y U (Vt un9 U U a0.1 a0.2)<|Oeq U<|Ox bf<|Z H (Yu U) (λ_ H=>?_) λ_ H=>?_;refine Wr λb2 bg=>Mv U<|Mv U<|Mv U<|Mv U<|G H λar H=>O_y U (Kr un9 U (.inr ⟨_,_,U,U⟩) (.inr ⟨_,_,U,U⟩) ar.1 ar.2.1 ar.2.2)<|X5 (xs:=[.tmp 21]) (cs:=[.string (x0.extract (ac:Int).toNat (aa:Int).toNat)]) Ur hs U U U (by decide) (by decide) U (Y8 U X8) (Ym U Xc) (λb3 w hs=>?_);have a1:Z3 Rep.str ρ ([.string (x0.extract (ac:Int).toNat (aa:Int).toNat)]) [x0.extract (ac:Int).toNat (aa:Int).toNat]:=Z3.cons (c:=[.string (x0.extract (ac:Int).toNat (aa:Int).toNat)]) (x:=x0.extract (ac:Int).toNat (aa:Int).toNat) U (Z3.nil _ _);refine G H λbh H=>Qt (i:=1) Ur hs U ai U U U (Src.lit (j:=0) hs U a1) a1 bh (λbi au w bj hs=>As U<|Ox bg<|W.weak [(0,_),(3,_),(5,_)] (T3 U)<|Zg<|Mv U<|Oad U<|As U<|Zh (ay _ _ _ (T4 U) (az (ab++([x0.extract (ac:Int).toNat (aa:Int).toNat])) (i64.wrap (aa+1)) bi au _ H (hs.sub (ssk (ssc ssr))) bj)));exact Xw (ay _ _ _ (T4 U) (az ab ac ae af _ H hs ai));refine Y2 (ba _ _ (a8 _ _<|Wr λb4 bk=>Mv U<|Mv U<|Mv U<|G H λav H=>O_y U (Kr un9 U (.inr ⟨_,_,U,U⟩) (.inl ⟨U,U⟩) av.1 av.2.1 av.2.2)<|X5 (xs:=[.tmp 29]) (cs:=[.string (x0.extract (ac:Int).toNat ((x0.size:Int):Int).toNat)]) Ur hs U U U (by decide) (by decide) U (Y8 U X8) (Ym U Xc) (λb5 w hs=>?_)));have ao:Z3 Rep.str ρ ([.string (x0.extract (ac:Int).toNat ((x0.size:Int):Int).toNat)]) [x0.extract (ac:Int).toNat ((x0.size:Int):Int).toNat]:=Z3.cons (c:=[.string (x0.extract (ac:Int).toNat ((x0.size:Int):Int).toNat)]) (x:=x0.extract (ac:Int).toNat ((x0.size:Int):Int).toNat) U (Z3.nil _ _);refine G H λaw H=>Qt (i:=1) Ur hs U ai U U U (Src.lit (j:=0) hs U ao) ao aw (λbl a2 w ax hs=>As U<|Ox bk<|W.weak [(2,_)] (S1 U)<|Zv ?_);cases H;exact r1 U ⟨_,_,_,U,Le.rfl' _,(hs.sub (ssk (ssc ssr))),ax⟩

end
section
open Go.IntKind (i8 i16 i32 i64 u8 u16 u32 u64)
open Go.RowKit
set_option maxRecDepth 100000
set_option maxHeartbeats 400000
variable {w0 w:World} {ρ:Hp} {Γ:List Yd}
set_option linter.unusedVariables false
def Zb.j1 (bg:Bool):Option Bool:=some bg
def Zb.l1:Nat->(List ByteArray×Int)->List ByteArray->Int->Option Bool
  | 0,_,_,_=>none
  | bf+1,a3,a9,az=>if az<(a3.1.length:Int) then (if (0:Int)<=az/\az<(a3.1.length:Int) then (if (0:Int)<=az/\az<(a9.length:Int) then (if (rd a3.1 az)≠(rd a9 az) then (some false) else ((Zb.l1 bf a3 a9) (i64.wrap (az+1)))) else none) else none) else (some true)
def Zb.j2 (a3:List ByteArray×Int) (a9:List ByteArray) (a8:Bool):Option Bool:=if a8=true then (some false) else (Zb.l1 K0 a3 a9 0)
def Zb.j3 (aa:ByteArray) (a3:List ByteArray×Int) (bb:Bool):Option Bool:=if bb=true then (if a3.2=230 then (Zb.j1 (decide ((a3.1.length:Int)=0))) else (Zb.j1 false)) else ((Zr.f aa).bind λa9=>(if a3.2≠0 then (Zb.j2 a3 a9 true) else (Zb.j2 a3 a9 (decide ((a3.1.length:Int)≠(a9.length:Int))))))
def Zb.j4 (ab:Int) (aa:ByteArray) (bc:Bool) (a3:List ByteArray×Int) (bd:Bool):Option Bool:=if bd=true then (some false) else (if (!bc)=true then (Zb.j3 aa a3 true) else (Zb.j3 aa a3 (decide (ab≠1))))
def Zb.j5 (ab:Int) (aa:ByteArray) (ad ae af ag ah ai aj ak ac:Int) (bc:Bool) (bu:ByteArray×Int) (a3:List ByteArray×Int) (bh:Bool):Option Bool:=if bh=true then (some false) else (if (!bc)=true then (if bu.1≠(⟨#[]⟩:ByteArray) then (Zb.j4 ab aa bc a3 true) else (if bu.2≠230 then (Zb.j4 ab aa bc a3 true) else (if bc=true then ((Y3.f (⟨ab,aa,ad,ae,af,ag,ah,ai,aj,ak,ac⟩:S10)).bind λdw=>(if bu.1≠dw then (Zb.j4 ab aa bc a3 true) else (Zb.j4 ab aa bc a3 (decide (bu.2≠0))))) else (Zb.j4 ab aa bc a3 false)))) else (if bc=true then ((Y3.f (⟨ab,aa,ad,ae,af,ag,ah,ai,aj,ak,ac⟩:S10)).bind λdx=>(if bu.1≠dx then (Zb.j4 ab aa bc a3 true) else (Zb.j4 ab aa bc a3 (decide (bu.2≠0))))) else (Zb.j4 ab aa bc a3 false)))
def Zb.t1 (x0 x1:S10) (ab:Int) (aa:ByteArray) (ad ae af ag ah ai aj ak ac an:Int) (ao:ByteArray) (ap aq ar au av aw ax ay al:Int):Option Bool:=(Zp.f (⟨ab,aa,ad,ae,af,ag,ah,ai,aj,ak,ac⟩:S10)).bind λbc=>((Zp.f (⟨an,ao,ap,aq,ar,au,av,aw,ax,ay,al⟩:S10)).bind λkc=>((Xo.f x0).bind λbu=>((Yn.f x0).bind λa3=>((Yx.f).bind λdy=>(if (!dy)=true then (Zb.j5 ab aa ad ae af ag ah ai aj ak ac bc bu a3 true) else ((Z6.f x0).bind λdz=>(if (dz != bc)=true then (Zb.j5 ab aa ad ae af ag ah ai aj ak ac bc bu a3 true) else ((Yq.f x0 x1).bind λcf=>(if bc=true then (if kc=true then (if (cf != ((ab == an&&(decide (aa=ao)&&(ad == ap&&true)))&&decide (([ae,af,ag,ah,ai,aj,ak,ac]:List Int)=[aq,ar,au,av,aw,ax,ay,al])))=true then (Zb.j5 ab aa ad ae af ag ah ai aj ak ac bc bu a3 true) else ((Zy.f x0 x1).bind λcl=>((Zm.f (⟨ab,aa,ad,ae,af,ag,ah,ai,aj,ak,ac⟩:S10) (⟨an,ao,ap,aq,ar,au,av,aw,ax,ay,al⟩:S10)).bind λcm=>(Zb.j5 ab aa ad ae af ag ah ai aj ak ac bc bu a3 (cl != cm))))) else (if (cf != false)=true then (Zb.j5 ab aa ad ae af ag ah ai aj ak ac bc bu a3 true) else ((Zy.f x0 x1).bind λcn=>((Zm.f (⟨ab,aa,ad,ae,af,ag,ah,ai,aj,ak,ac⟩:S10) (⟨an,ao,ap,aq,ar,au,av,aw,ax,ay,al⟩:S10)).bind λco=>(Zb.j5 ab aa ad ae af ag ah ai aj ak ac bc bu a3 (cn != co)))))) else (if (cf != false)=true then (Zb.j5 ab aa ad ae af ag ah ai aj ak ac bc bu a3 true) else ((Zy.f x0 x1).bind λcp=>((Zm.f (⟨ab,aa,ad,ae,af,ag,ah,ai,aj,ak,ac⟩:S10) (⟨an,ao,ap,aq,ar,au,av,aw,ax,ay,al⟩:S10)).bind λcq=>(Zb.j5 ab aa ad ae af ag ah ai aj ak ac bc bu a3 (cp != cq))))))))))))))
def Zb.f (x0 x1:S10):Option Bool:=(Z0.f x0).bind λam=>((Z0.f x1).bind λa1=>(Zb.t1 x0 x1 am.kind am.text am.four am.six0 am.six1 am.six2 am.six3 am.six4 am.six5 am.six6 am.six7 a1.kind a1.text a1.four a1.six0 a1.six1 a1.six2 a1.six3 a1.six4 a1.six5 a1.six6 a1.six7))
theorem Zb.c (hs:St w0 ρ (Γ) w) (hL:Jw w0) {c0:List Value} {x0:S10} (h0:Yv.R ρ c0 x0) {c1:List Value} {x1:S10} (h1:Yv.R ρ c1 x1) {r:Bool} (H:Zb.f x0 x1=some r):Zt Tryz.prog 3 [.agg c0.toArray,.agg c1.toArray] w (λv w'=>v=.bool r/\St w0 ρ Γ w'):=by
 rw [Zb.f] at H;refine Et Tryz.func3 Tryz.ntmps3 U ?_;have kt:=h0;obtain rfl:=kt;have ku:=h1;obtain rfl:=ku;refine Wr λn1 kv=>X0 (cs:=[Lk x0.kind,.string x0.text,.int .u32 x0.four,.int .u16 x0.six0,.int .u16 x0.six1,.int .u16 x0.six2,.int .u16 x0.six3,.int .u16 x0.six4,.int .u16 x0.six5,.int .u16 x0.six6,.int .u16 x0.six7]) hs U U (λb5 w hs=>X0 (cs:=[Lk x1.kind,.string x1.text,.int .u32 x1.four,.int .u16 x1.six0,.int .u16 x1.six1,.int .u16 x1.six2,.int .u16 x1.six3,.int .u16 x1.six4,.int .u16 x1.six5,.int .u16 x1.six6,.int .u16 x1.six7]) hs U U (λb6 w hs=>As U<|Ox kv<|Zn λn2 kw=>X9 8 [0,1,0,6,0,0,59,127] [60,52,115,48,47,31,0,0] [0,1,0,7,0,0,63,127] [6,7] (λw=>St w0 ρ ((.box b6 27 ([Lk x1.kind,.string x1.text,.int .u32 x1.four,.int .u16 x1.six0,.int .u16 x1.six1,.int .u16 x1.six2,.int .u16 x1.six3,.int .u16 x1.six4,.int .u16 x1.six5,.int .u16 x1.six6,.int .u16 x1.six7]))::(.box b5 27 ([Lk x0.kind,.string x0.text,.int .u32 x0.four,.int .u16 x0.six0,.int .u16 x0.six1,.int .u16 x0.six2,.int .u16 x0.six3,.int .u16 x0.six4,.int .u16 x0.six5,.int .u16 x0.six6,.int .u16 x0.six7]))::Γ) w) mixed (by kernel_rfl) (λsh=>?_)));have hs:=hs.drew;refine Fy 0 sh U hs (λw hs=>Zq (i:=1) Xj Xe hs U U U U)<|Fy 2 sh U hs (λw hs=>Zq (i:=0) Xj Xe hs U U U U)<|Zcn λkx be=>?_
 have b9 (ab:Int) (aa:ByteArray) (ad:Int) (ae:Int) (af:Int) (ag:Int) (ah:Int) (ai:Int) (aj:Int) (ak:Int) (ac:Int) (an:Int) (ao:ByteArray) (ap:Int) (aq:Int) (ar:Int) (au:Int) (av:Int) (aw:Int) (ax:Int) (ay:Int) (al:Int) (a2:Nat) (a0:Nat) (b1:Hp) (w:World) (H:Zb.t1 x0 x1 ab aa ad ae af ag ah ai aj ak ac an ao ap aq ar au av aw ax ay al=some r) (a4:Le ρ b1) (hs:St w0 b1 ((.box a2 30 ([Lk 0,.string (⟨#[]⟩:ByteArray),.int .u32 0,.int .u16 0,.int .u16 0,.int .u16 0,.int .u16 0,.int .u16 0,.int .u16 0,.int .u16 0,.int .u16 0]))::(.box a0 30 ([Lk 0,.string (⟨#[]⟩:ByteArray),.int .u32 0,.int .u16 0,.int .u16 0,.int .u16 0,.int .u16 0,.int .u16 0,.int .u16 0,.int .u16 0,.int .u16 0]))::(.box b6 27 ([Lk x1.kind,.string x1.text,.int .u32 x1.four,.int .u16 x1.six0,.int .u16 x1.six1,.int .u16 x1.six2,.int .u16 x1.six3,.int .u16 x1.six4,.int .u16 x1.six5,.int .u16 x1.six6,.int .u16 x1.six7]))::(.box b5 27 ([Lk x0.kind,.string x0.text,.int .u32 x0.four,.int .u16 x0.six0,.int .u16 x0.six1,.int .u16 x0.six2,.int .u16 x0.six3,.int .u16 x0.six4,.int .u16 x0.six5,.int .u16 x0.six6,.int .u16 x0.six7]))::Γ) w):kx [6,7] (λw=>St w0 b1 ((.box a2 30 ([Lk 0,.string (⟨#[]⟩:ByteArray),.int .u32 0,.int .u16 0,.int .u16 0,.int .u16 0,.int .u16 0,.int .u16 0,.int .u16 0,.int .u16 0,.int .u16 0]))::(.box a0 30 ([Lk 0,.string (⟨#[]⟩:ByteArray),.int .u32 0,.int .u16 0,.int .u16 0,.int .u16 0,.int .u16 0,.int .u16 0,.int .u16 0,.int .u16 0,.int .u16 0]))::(.box b6 27 ([Lk x1.kind,.string x1.text,.int .u32 x1.four,.int .u16 x1.six0,.int .u16 x1.six1,.int .u16 x1.six2,.int .u16 x1.six3,.int .u16 x1.six4,.int .u16 x1.six5,.int .u16 x1.six6,.int .u16 x1.six7]))::(.box b5 27 ([Lk x0.kind,.string x0.text,.int .u32 x0.four,.int .u16 x0.six0,.int .u16 x0.six1,.int .u16 x0.six2,.int .u16 x0.six3,.int .u16 x0.six4,.int .u16 x0.six5,.int .u16 x0.six6,.int .u16 x0.six7]))::Γ) w) 2 [5,4,3,1,2,0] [(2,Ll b5),(3,Ll b6),(5,Ll a0),(6,Ll a2),(16,.agg #[Lk ab,.string aa,.int .u32 ad,.int .u16 ae,.int .u16 af,.int .u16 ag,.int .u16 ah,.int .u16 ai,.int .u16 aj,.int .u16 ak,.int .u16 ac]),(18,.agg #[Lk an,.string ao,.int .u32 ap,.int .u16 aq,.int .u16 ar,.int .u16 au,.int .u16 av,.int .u16 aw,.int .u16 ax,.int .u16 ay,.int .u16 al])] w:=by
  rw [Zb.t1] at H;refine (be _ _ _ _ _ _).1<|F1 6 sh U (λn3 ky=>Y1 (i:=1) Q8 hs U U U U U (Za U (Za U (Za U (Za U (Za U (Za U (Za U (Za U (Za U (Za U (Za U Yt))))))))))) (λw hs=>Zh (ky _ _ (λh _=>absurd h (by decide))<|Yk sh [7] hs (by kernel_rfl)<|F1 7 sh U (λn4 kz=>Y1 (i:=0) Q8 hs U U U U U (Za U (Za U (Za U (Za U (Za U (Za U (Za U (Za U (Za U (Za U (Za U Yt))))))))))) (λw hs=>Zh (kz _ _ (λh _=>absurd h (by decide))<|FE sh (kw _ _<|Zn λn5 k0=>X9 6 [0,1,0,6,11,31] [12,4,19,0,0,0] [0,1,0,7,15,31] [] (λw=>St w0 b1 ((.box a2 30 ([Lk an,.string ao,.int .u32 ap,.int .u16 aq,.int .u16 ar,.int .u16 au,.int .u16 av,.int .u16 aw,.int .u16 ax,.int .u16 ay,.int .u16 al]))::(.box a0 30 ([Lk ab,.string aa,.int .u32 ad,.int .u16 ae,.int .u16 af,.int .u16 ag,.int .u16 ah,.int .u16 ai,.int .u16 aj,.int .u16 ak,.int .u16 ac]))::(.box b6 27 ([Lk x1.kind,.string x1.text,.int .u32 x1.four,.int .u16 x1.six0,.int .u16 x1.six1,.int .u16 x1.six2,.int .u16 x1.six3,.int .u16 x1.six4,.int .u16 x1.six5,.int .u16 x1.six6,.int .u16 x1.six7]))::(.box b5 27 ([Lk x0.kind,.string x0.text,.int .u32 x0.four,.int .u16 x0.six0,.int .u16 x0.six1,.int .u16 x0.six2,.int .u16 x0.six3,.int .u16 x0.six4,.int .u16 x0.six5,.int .u16 x0.six6,.int .u16 x0.six7]))::Γ) w) mixed (by kernel_rfl) (λsh=>?_))))))));have hs:=hs.drew;refine Fy 0 sh U hs (λw hs=>Zq (i:=1) Kn Q8 hs U U U U)<|Fy 2 sh U hs (λw hs=>Zq (i:=0) Kn Q8 hs U U U U)<|F1 1 sh U (λn6 k1=>M H λbc fs H=>Oc U (Zp.c hs (show Yv.R b1 _ (⟨ab,aa,ad,ae,af,ag,ah,ai,aj,ak,ac⟩:S10) from U) fs)<|V λw hs=>Zh (k1 _ _ (λ_ _=>hs)<|F1 3 sh U (λn8 k2=>M H λkc ft H=>Oc U (Zp.c hs (show Yv.R b1 _ (⟨an,ao,ap,aq,ar,au,av,aw,ax,ay,al⟩:S10) from U) ft)<|V λw hs=>Zh (k2 _ _ (λ_ _=>hs)<|Fp 4 sh U (λw=>Yz U)<|Fp 5 sh U (λw=>Yz U)<|FE sh (k0 _ _<|Wr λoa k3=>O_y U (Zq (i:=3) Xj Xe hs U U U U) ?_)))));obtain ⟨bu,fu,H⟩:=bnd H;refine Oc U (Xo.c hs hL (Yv.mono a4 h0) fu) (λob w hpost=>?_);obtain ⟨rfl,hs⟩:=hpost;refine Mv U<|Oxt U<|Oxt U<|As U<|As U<|Ox k3<|W.weak [(2,_),(3,_),(5,_),(6,_),(7,_),(8,_),(9,_),(10,_)] sbn<|Wr λoc k4=>O_y U (Zq (i:=3) Xj Xe hs U U U U) ?_;obtain ⟨a3,fv,H⟩:=bnd H;refine Oc U (Yn.c hs (Yv.mono a4 h0) fv) (λod w hpost=>?_);obtain ⟨b7,b3,bx,rfl,ba,hs,k5⟩:=hpost;refine Mv U<|Oxt U<|Oxt U<|As U<|As U<|Ox k4<|W.weak [(2,_),(3,_),(5,_),(6,_),(7,_),(8,_),(9,_),(10,_),(11,_),(12,_)] sbn<|Zn λoe k6=>Ye λk7 k8 ch=>?_
  have ci (bh:Bool) (w:World) (H:Zb.j5 ab aa ad ae af ag ah ai aj ak ac bc bu a3 bh=some r) (hs:St w0 b7 ((.row b3 9 Rep.str.sz a3.1.length bx)::(.box a2 30 ([Lk an,.string ao,.int .u32 ap,.int .u16 aq,.int .u16 ar,.int .u16 au,.int .u16 av,.int .u16 aw,.int .u16 ax,.int .u16 ay,.int .u16 al]))::(.box a0 30 ([Lk ab,.string aa,.int .u32 ad,.int .u16 ae,.int .u16 af,.int .u16 ag,.int .u16 ah,.int .u16 ai,.int .u16 aj,.int .u16 ak,.int .u16 ac]))::(.box b6 27 ([Lk x1.kind,.string x1.text,.int .u32 x1.four,.int .u16 x1.six0,.int .u16 x1.six1,.int .u16 x1.six2,.int .u16 x1.six3,.int .u16 x1.six4,.int .u16 x1.six5,.int .u16 x1.six6,.int .u16 x1.six7]))::(.box b5 27 ([Lk x0.kind,.string x0.text,.int .u32 x0.four,.int .u16 x0.six0,.int .u16 x0.six1,.int .u16 x0.six2,.int .u16 x0.six3,.int .u16 x0.six4,.int .u16 x0.six5,.int .u16 x0.six6,.int .u16 x0.six7]))::Γ) w):k7 [(5,Ll a0),(7,.bool bc),(9,.string bu.1),(10,Lk bu.2),(11,b3),(12,Lk a3.2),(64,.bool bh)] w:=by
   refine k8 _ _<|Ra H (Y5 U) (λ_ H=>?_) λ_ H=>?_;refine Wr λk9 fw=>As U<|Ox fw<|Zv ?_;cases H;exact r1 U ⟨U,((hs.sub (ssk (ssk (ssk (ssk (ssk ssr)))))).less (a4.trans ba))⟩;refine Wx k6<|Zn λla fx=>Ye λfy fz bz=>?_;have b0 (bd:Bool) (w:World) (H:Zb.j4 ab aa bc a3 bd=some r) (hs:St w0 b7 ((.row b3 9 Rep.str.sz a3.1.length bx)::(.box a2 30 ([Lk an,.string ao,.int .u32 ap,.int .u16 aq,.int .u16 ar,.int .u16 au,.int .u16 av,.int .u16 aw,.int .u16 ax,.int .u16 ay,.int .u16 al]))::(.box a0 30 ([Lk ab,.string aa,.int .u32 ad,.int .u16 ae,.int .u16 af,.int .u16 ag,.int .u16 ah,.int .u16 ai,.int .u16 aj,.int .u16 ak,.int .u16 ac]))::(.box b6 27 ([Lk x1.kind,.string x1.text,.int .u32 x1.four,.int .u16 x1.six0,.int .u16 x1.six1,.int .u16 x1.six2,.int .u16 x1.six3,.int .u16 x1.six4,.int .u16 x1.six5,.int .u16 x1.six6,.int .u16 x1.six7]))::(.box b5 27 ([Lk x0.kind,.string x0.text,.int .u32 x0.four,.int .u16 x0.six0,.int .u16 x0.six1,.int .u16 x0.six2,.int .u16 x0.six3,.int .u16 x0.six4,.int .u16 x0.six5,.int .u16 x0.six6,.int .u16 x0.six7]))::Γ) w):fy [(5,Ll a0),(7,.bool bc),(11,b3),(12,Lk a3.2),(87,.bool bd)] w:=by
    refine fz _ _<|Ra H (Y5 U) (λ_ H=>?_) λ_ H=>?_;refine Wr λlb ga=>As U<|Ox ga<|Zv ?_;cases H;exact r1 U ⟨U,((hs.sub (ssk (ssk (ssk (ssk (ssk ssr)))))).less (a4.trans ba))⟩;refine Wx fx<|Zn λlc gb=>Ye λgc ge ea=>?_;have eb (bb:Bool) (w:World) (H:Zb.j3 aa a3 bb=some r) (hs:St w0 b7 ((.row b3 9 Rep.str.sz a3.1.length bx)::(.box a2 30 ([Lk an,.string ao,.int .u32 ap,.int .u16 aq,.int .u16 ar,.int .u16 au,.int .u16 av,.int .u16 aw,.int .u16 ax,.int .u16 ay,.int .u16 al]))::(.box a0 30 ([Lk ab,.string aa,.int .u32 ad,.int .u16 ae,.int .u16 af,.int .u16 ag,.int .u16 ah,.int .u16 ai,.int .u16 aj,.int .u16 ak,.int .u16 ac]))::(.box b6 27 ([Lk x1.kind,.string x1.text,.int .u32 x1.four,.int .u16 x1.six0,.int .u16 x1.six1,.int .u16 x1.six2,.int .u16 x1.six3,.int .u16 x1.six4,.int .u16 x1.six5,.int .u16 x1.six6,.int .u16 x1.six7]))::(.box b5 27 ([Lk x0.kind,.string x0.text,.int .u32 x0.four,.int .u16 x0.six0,.int .u16 x0.six1,.int .u16 x0.six2,.int .u16 x0.six3,.int .u16 x0.six4,.int .u16 x0.six5,.int .u16 x0.six6,.int .u16 x0.six7]))::Γ) w):gc [(5,Ll a0),(11,b3),(12,Lk a3.2),(94,.bool bb)] w:=by
     refine ge _ _<|Ra H (Y5 U) (λ_ H=>?_) λ_ H=>?_;refine Ye λgf gg ec=>?_;have ed (bg:Bool) (w:World) (H:Zb.j1 bg=some r) (hs:St w0 b7 ((.row b3 9 Rep.str.sz a3.1.length bx)::(.box a2 30 ([Lk an,.string ao,.int .u32 ap,.int .u16 aq,.int .u16 ar,.int .u16 au,.int .u16 av,.int .u16 aw,.int .u16 ax,.int .u16 ay,.int .u16 al]))::(.box a0 30 ([Lk ab,.string aa,.int .u32 ad,.int .u16 ae,.int .u16 af,.int .u16 ag,.int .u16 ah,.int .u16 ai,.int .u16 aj,.int .u16 ak,.int .u16 ac]))::(.box b6 27 ([Lk x1.kind,.string x1.text,.int .u32 x1.four,.int .u16 x1.six0,.int .u16 x1.six1,.int .u16 x1.six2,.int .u16 x1.six3,.int .u16 x1.six4,.int .u16 x1.six5,.int .u16 x1.six6,.int .u16 x1.six7]))::(.box b5 27 ([Lk x0.kind,.string x0.text,.int .u32 x0.four,.int .u16 x0.six0,.int .u16 x0.six1,.int .u16 x0.six2,.int .u16 x0.six3,.int .u16 x0.six4,.int .u16 x0.six5,.int .u16 x0.six6,.int .u16 x0.six7]))::Γ) w):gf [(4,.bool bg)] w:=by rw [Zb.j1] at H;refine gg _ _<|Zv ?_;cases H;exact r1 U ⟨U,((hs.sub (ssk (ssk (ssk (ssk (ssk ssr)))))).less (a4.trans ba))⟩
     refine Zg<|Mv U<|Oeq U<|Mv U<|Z H (X4 (dj:=97) U) (λ_ H=>?_) λ_ H=>?_;refine Oe U<|Mv U<|Oe U<|O_y U (X1 (i:=0) Zba hs U U)<|Oe U<|Oeq U<|Opk U<|As U<|Zh (ec _ _ _ (S1 U) (ed (decide ((a3.1.length:Int)=0)) _ H hs));refine On U<|On U<|On U<|Opk U<|As U<|Zh (ec _ _ _ (S1 U) (ed false _ H hs));refine Wx gb<|Wr λld gh=>Ofd X6 U<|Obx 2 ag9 hs U<|M H λa9 ee H=>Oc U (Zr.c hs ee) (λb8 w hpost=>?_);obtain ⟨cw,le,ca,rfl,b4,hs,gi⟩:=hpost;refine As U<|Ox gh<|Zn λlf gj=>Ye λgk gl ef=>?_;have eg (a8:Bool) (w:World) (H:Zb.j2 a3 a9 a8=some r) (hs:St w0 cw ((.row b8 9 Rep.str.sz a9.length ca)::(.row b3 9 Rep.str.sz a3.1.length bx)::(.box a2 30 ([Lk an,.string ao,.int .u32 ap,.int .u16 aq,.int .u16 ar,.int .u16 au,.int .u16 av,.int .u16 aw,.int .u16 ax,.int .u16 ay,.int .u16 al]))::(.box a0 30 ([Lk ab,.string aa,.int .u32 ad,.int .u16 ae,.int .u16 af,.int .u16 ag,.int .u16 ah,.int .u16 ai,.int .u16 aj,.int .u16 ak,.int .u16 ac]))::(.box b6 27 ([Lk x1.kind,.string x1.text,.int .u32 x1.four,.int .u16 x1.six0,.int .u16 x1.six1,.int .u16 x1.six2,.int .u16 x1.six3,.int .u16 x1.six4,.int .u16 x1.six5,.int .u16 x1.six6,.int .u16 x1.six7]))::(.box b5 27 ([Lk x0.kind,.string x0.text,.int .u32 x0.four,.int .u16 x0.six0,.int .u16 x0.six1,.int .u16 x0.six2,.int .u16 x0.six3,.int .u16 x0.six4,.int .u16 x0.six5,.int .u16 x0.six6,.int .u16 x0.six7]))::Γ) w):gk [(11,b3),(13,b8),(113,.bool a8)] w:=by
      refine gl _ _<|Ra H (Y5 U) (λ_ H=>?_) λ_ H=>?_;refine Wr λlg gm=>As U<|Ox gm<|Zv ?_;cases H;exact r1 U ⟨U,((hs.sub (ssk (ssk (ssk (ssk (ssk (ssk ssr))))))).less ((a4.trans ba).trans b4))⟩;refine Wx gj<|Zn λlh gn=>Wr λli go=>As U<|Ox go<|Zu λlj gp lk=>Xa (σ:=Nat×Int) (λ(bf,az)=>[(11,b3),(13,b8),(14,Lk az)]) (λ(bf,az) w=>Zb.l1 bf a3 a9 az=some r/\St w0 cw ((.row b8 9 Rep.str.sz a9.length ca)::(.row b3 9 Rep.str.sz a3.1.length bx)::(.box a2 30 ([Lk an,.string ao,.int .u32 ap,.int .u16 aq,.int .u16 ar,.int .u16 au,.int .u16 av,.int .u16 aw,.int .u16 ax,.int .u16 ay,.int .u16 al]))::(.box a0 30 ([Lk ab,.string aa,.int .u32 ad,.int .u16 ae,.int .u16 af,.int .u16 ag,.int .u16 ah,.int .u16 ai,.int .u16 aj,.int .u16 ak,.int .u16 ac]))::(.box b6 27 ([Lk x1.kind,.string x1.text,.int .u32 x1.four,.int .u16 x1.six0,.int .u16 x1.six1,.int .u16 x1.six2,.int .u16 x1.six3,.int .u16 x1.six4,.int .u16 x1.six5,.int .u16 x1.six6,.int .u16 x1.six7]))::(.box b5 27 ([Lk x0.kind,.string x0.text,.int .u32 x0.four,.int .u16 x0.six0,.int .u16 x0.six1,.int .u16 x0.six2,.int .u16 x0.six3,.int .u16 x0.six4,.int .u16 x0.six5,.int .u16 x0.six6,.int .u16 x0.six7]))::Γ) w) (λs=>s.1) (K0,0) (T3 U) (Ai H hs) ?_;rintro ⟨bf,az⟩ w ll ⟨H,hs⟩ cg;show W _ _ _ _ _ _ [(11,b3),(13,b8),(14,Lk az)] w
      cases bf with
      | zero=>rw [Zb.l1] at H;cases H
      | succ bf=>
      rw [Zb.l1] at H;refine Zn λlm gq=>Wr λln gr=>Mv U<|Mv U<|O_y U (X1 (i:=1) Zba hs U U)<|Ols U<|Ox gr<|Z H (Yu U) (λ_ H=>?_) λ_ H=>?_;refine Wx gq<|Zn λlo gs=>Zu λlp lq lr=>Zn λls gt=>X9 9 [0,0,3,4,0,0,48,64,136] [506,505,496,240,431,415,271,15,0] [0,0,3,7,0,0,48,112,255] [] (λw=>St w0 cw ((.row b8 9 Rep.str.sz a9.length ca)::(.row b3 9 Rep.str.sz a3.1.length bx)::(.box a2 30 ([Lk an,.string ao,.int .u32 ap,.int .u16 aq,.int .u16 ar,.int .u16 au,.int .u16 av,.int .u16 aw,.int .u16 ax,.int .u16 ay,.int .u16 al]))::(.box a0 30 ([Lk ab,.string aa,.int .u32 ad,.int .u16 ae,.int .u16 af,.int .u16 ag,.int .u16 ah,.int .u16 ai,.int .u16 aj,.int .u16 ak,.int .u16 ac]))::(.box b6 27 ([Lk x1.kind,.string x1.text,.int .u32 x1.four,.int .u16 x1.six0,.int .u16 x1.six1,.int .u16 x1.six2,.int .u16 x1.six3,.int .u16 x1.six4,.int .u16 x1.six5,.int .u16 x1.six6,.int .u16 x1.six7]))::(.box b5 27 ([Lk x0.kind,.string x0.text,.int .u32 x0.four,.int .u16 x0.six0,.int .u16 x0.six1,.int .u16 x0.six2,.int .u16 x0.six3,.int .u16 x0.six4,.int .u16 x0.six5,.int .u16 x0.six6,.int .u16 x0.six7]))::Γ) w) mixed (by kernel_rfl) (λsh=>?_);have hs:=hs.drew;refine Fm 0 sh U<|Fm 1 sh U ?_;obtain ⟨cb,H⟩:=gd H;obtain ⟨lt,cj⟩:=hs.rowBlock (j:=1) U (by have:=cb.2;omega);obtain ⟨_,rfl,eh⟩:=(k5.mono b4).at cb.1 cb.2;refine Fy 2 sh U hs (λw hs=>Ki (j:=1) Ur hs U cj U U cb.1 cb.2)<|Fy 3 sh U hs (λw hs=>Ka ag9 U (hs.rowCell (j:=1) U cj (eh 0 _ U)))<|Fm 4 sh U<|Fm 5 sh U ?_;obtain ⟨cc,H⟩:=gd H;obtain ⟨lu,ck⟩:=hs.rowBlock (j:=0) U (by have:=cc.2;omega);obtain ⟨_,rfl,ei⟩:=gi.at cc.1 cc.2;refine Fy 6 sh U hs (λw hs=>Ki (j:=0) Ur hs U ck U U cc.1 cc.2)<|Fy 7 sh U hs (λw hs=>Ka ag9 U (hs.rowCell (j:=0) U ck (ei 0 _ U)))<|Fp 8 sh U (λw=>Kt U U)<|FE sh (gt _ _<|W.weak [(11,_),(13,_),(14,_),(128,_)] (T4 U)<|Yu U (λcz=>?_) (λcz=>?_));rw [if_pos cz] at H;refine Wr λlv gu=>As U<|Ox gu<|Zv ?_;cases H;exact r1 U ⟨U,((hs.sub (ssk (ssk (ssk (ssk (ssk (ssk ssr))))))).less ((a4.trans ba).trans b4))⟩;rw [if_neg cz] at H;refine Wx gs<|Zg<|Mv U<|Oad U<|As U<|Zh (cg (bf,(i64.wrap (az+1))) _ _ (T3 U) (Ai H hs) (Nat.lt_succ_self _));refine Y2 (gp _ _ (gn _ _<|Wr λlw gv=>As U<|Ox gv<|Zv ?_));cases H;exact r1 U ⟨U,((hs.sub (ssk (ssk (ssk (ssk (ssk (ssk ssr))))))).less ((a4.trans ba).trans b4))⟩
     refine Zg<|Mv U<|One U<|Mv U<|Z H (X4 (dj:=107) U) (λ_ H=>?_) λ_ H=>?_;refine On U<|On U<|On U<|On U<|On U<|Opk U<|Zh (ef _ _ _ (T3 U) (eg true _ H hs));refine Oe U<|Mv U<|Oe U<|O_y U (X1 (i:=1) Zba hs U U)<|Oe U<|Mv U<|Oe U<|O_y U (X1 (i:=0) Zba hs U U)<|Oe U<|One U<|Opk U<|Zh (ef _ _ _ (T3 U) (eg (decide ((a3.1.length:Int)≠(a9.length:Int))) _ H hs))
    refine Zg<|Mv U<|Ont U<|Mv U<|Ra H (Xv (dj:=90) U) (λ_ H=>?_) λ_ H=>?_;refine On U<|On U<|On U<|Opk U<|Zh (ea _ _ _ (T4 U) (eb true _ H hs));refine Oe U<|Ofd J5 U<|Oe U<|Obx 2 ag3 hs U<|Oe U<|One U<|Opk U<|Zh (ea _ _ _ (T4 U) (eb (decide (ab≠1)) _ H hs))
   refine Zg<|Mv U<|Ont U<|Mv U<|Ra H (Xv (dj:=67) U) (λ_ H=>?_) λ_ H=>?_;refine Oe U<|Mv U<|Oe U<|O_y U (Kt U U)<|Oe U<|Mv U<|Z H (X4 (dj:=70) U) (λ_ H=>?_) λ_ H=>?_;refine On U<|On U<|Oe U<|Opk U<|Opk U<|Mv U<|On U<|On U<|Xr U U U<|Xr U U U<|Xr U U U<|Xr U U U<|Xr U U U<|Xr U U U<|Xr U U U<|Xr U U U<|On U<|Opk U<|Zh (bz _ _ _ sbn (b0 true _ H hs));refine Oe U<|Mv U<|Oe U<|One U<|Oe U<|Opk U<|Opk U<|Mv U<|Z H (X4 (dj:=75) U) (λ_ H=>?_) λ_ H=>?_;refine On U<|On U<|Xr U U U<|Xr U U U<|Xr U U U<|Xr U U U<|Xr U U U<|Xr U U U<|Xr U U U<|Xr U U U<|On U<|Opk U<|Zh (bz _ _ _ sbn (b0 true _ H hs));refine Oe U<|Mv U<|Oe U<|Mv U<|Ra H (Xv (dj:=77) U) (λ_ H=>?_) λ_ H=>?_;refine Oe U<|Mv U<|Oe U<|O_y U (Zq (i:=2) Kn Q8 hs U U U U)<|Oe U<|M H λdw ej H=>Oc U (Y3.c hs (show Yv.R b7 _ (⟨ab,aa,ad,ae,af,ag,ah,ai,aj,ak,ac⟩:S10) from U) ej)<|V λw hs=>Oe U<|O_y U (Kt U U)<|Oe U<|Mv U<|Z H (X4 (dj:=82) U) (λ_ H=>?_) λ_ H=>?_;refine On U<|On U<|Oe U<|Opk U<|Oe U<|Opk U<|Opk U<|Zh (bz _ _ _ sbn (b0 true _ H hs));refine Oe U<|Mv U<|Oe U<|One U<|Oe U<|Opk U<|Oe U<|Opk U<|Opk U<|Zh (bz _ _ _ sbn (b0 (decide (bu.2≠0)) _ H hs));refine On U<|On U<|On U<|On U<|On U<|Xr U U U<|Xr U U U<|On U<|Oe U<|Opk U<|Opk U<|Zh (bz _ _ _ sbn (b0 false _ H hs));refine On U<|On U<|On U<|Xr U U U<|Xr U U U<|On U<|Opk U<|Mv U<|Oe U<|Mv U<|Oe U<|Mv U<|Ra H (Xv (dj:=77) U) (λ_ H=>?_) λ_ H=>?_;refine Oe U<|Mv U<|Oe U<|O_y U (Zq (i:=2) Kn Q8 hs U U U U)<|Oe U<|M H λdx ek H=>Oc U (Y3.c hs (show Yv.R b7 _ (⟨ab,aa,ad,ae,af,ag,ah,ai,aj,ak,ac⟩:S10) from U) ek)<|V λw hs=>Oe U<|O_y U (Kt U U)<|Oe U<|Mv U<|Z H (X4 (dj:=82) U) (λ_ H=>?_) λ_ H=>?_;refine On U<|On U<|Oe U<|Opk U<|Oe U<|Opk U<|Opk U<|Zh (bz _ _ _ sbn (b0 true _ H hs));refine Oe U<|Mv U<|Oe U<|One U<|Oe U<|Opk U<|Oe U<|Opk U<|Opk U<|Zh (bz _ _ _ sbn (b0 (decide (bu.2≠0)) _ H hs));refine On U<|On U<|On U<|On U<|On U<|Xr U U U<|Xr U U U<|On U<|Oe U<|Opk U<|Opk U<|Zh (bz _ _ _ sbn (b0 false _ H hs))
  refine X9 32 [0,1,3,4,12,4,52,68,144,256,256,1792,256,6400,8192,24832,41216,65536,65536,458752,590080,1050880,2097408,4259840,8388608,8388608,58720256,8388608,8388608,478150656,612368384,1082130432] [4294967288,4294967288,4294967040,4294967264,4294966944,4294967192,4294967040,4294966784,4287512576,4294964224,4294963712,4292857856,4294954496,4294836224,4294901760,4294836224,4284481536,4294180864,4294049792,4292870144,4290772992,4286578688,4278190080,0,4194304000,4177526784,2550136832,3607101440,3472883712,2147483648,0,0] [0,1,3,7,15,7,63,127,255,511,511,2047,511,8191,16383,32767,65535,131071,131071,524287,1048575,2097151,4194303,8388607,16777215,16777215,67108863,16777215,16777215,536870911,1073741823,2147483647] [0,1,2,3,4,5,6,7,8,9,10,11,12,13,14,15,16,17,18,19,20,21,22,23,24,25,26,27,28,29,30,31] (λw=>St w0 b7 ((.row b3 9 Rep.str.sz a3.1.length bx)::(.box a2 30 ([Lk an,.string ao,.int .u32 ap,.int .u16 aq,.int .u16 ar,.int .u16 au,.int .u16 av,.int .u16 aw,.int .u16 ax,.int .u16 ay,.int .u16 al]))::(.box a0 30 ([Lk ab,.string aa,.int .u32 ad,.int .u16 ae,.int .u16 af,.int .u16 ag,.int .u16 ah,.int .u16 ai,.int .u16 aj,.int .u16 ak,.int .u16 ac]))::(.box b6 27 ([Lk x1.kind,.string x1.text,.int .u32 x1.four,.int .u16 x1.six0,.int .u16 x1.six1,.int .u16 x1.six2,.int .u16 x1.six3,.int .u16 x1.six4,.int .u16 x1.six5,.int .u16 x1.six6,.int .u16 x1.six7]))::(.box b5 27 ([Lk x0.kind,.string x0.text,.int .u32 x0.four,.int .u16 x0.six0,.int .u16 x0.six1,.int .u16 x0.six2,.int .u16 x0.six3,.int .u16 x0.six4,.int .u16 x0.six5,.int .u16 x0.six6,.int .u16 x0.six7]))::Γ) w) mixed (by kernel_rfl) (λsh=>?_);have hs:=hs.drew;refine F1 0 sh U (λlz gw=>M H λdy el H=>Oc U (Yx.c hs el)<|V λw hs=>Zh (gw _ _ (λh _=>absurd h (by decide))<|Yk sh [4,6,7,8,9,10,11,12,13,14,15,16,17,18,19,20,21,22,23,24,25,26,27,28,29,30,31] hs (by kernel_rfl)<|Fp 1 sh U (λw=>Zce U)<|Fm 2 sh U<|Qa (dj:=35) U (λdk=>?_) (λdk=>?_)));rw [if_pos dk] at H;refine Fn 3 sh U<|Fn 4 sh U<|Fn 5 sh U<|Fn 6 sh U<|Fp 7 sh U (λw=>Y6 U U)<|Fm 8 sh U<|Fn 9 sh U<|Fn 10 sh U<|Fn 11 sh U<|Fn 12 sh U<|Fn 13 sh U<|Fu 14 sh U<|Fn 15 sh U<|Fn 16 sh U<|Fu 17 sh U<|Fu 18 sh U<|Fu 19 sh U<|Fn 20 sh U<|Fn 21 sh U<|Fp 22 sh U (λw=>Y6 U U)<|Fm 23 sh U<|Fn 24 sh U<|Fn 25 sh U<|Fn 26 sh U<|Fn 27 sh U<|Fn 28 sh U<|Fn 29 sh U<|Fn 30 sh U<|Fp 31 sh U (λw=>Y6 U U)<|FE sh (ch _ _ _ sbn (ci true _ H hs));rw [if_neg (bft dk)] at H;refine Fy 3 sh U hs (λw hs=>Zq (i:=4) Xj Xe hs U U U U)<|Fp 5 sh U (λw=>Xi U)<|F1 4 sh U (λl2 gx=>Oe U ?_);obtain ⟨dz,em,H⟩:=bnd H;refine Oc U (Z6.c hs (Yv.mono (a4.trans ba) h0) em) (λl3 w hpost=>?_);obtain ⟨rfl,hs⟩:=hpost
  refine Zh (gx _ _ (λh _=>absurd h (by decide))<|Yk sh [11,13,14,15,16,17,18,19,20,21,22,23,24,25,26,27,28,29,30,31] hs (by kernel_rfl)<|Fp 6 sh U (λw=>Ks un4 U U)<|Fp 7 sh U (λw=>Yw U U)<|Fm 8 sh U<|Qa (dj:=41) U (λdl=>?_) (λdl=>?_));rw [if_pos dl] at H;refine Fn 9 sh U<|Fn 10 sh U<|Fn 11 sh U<|Fn 12 sh U<|Fn 13 sh U<|Fu 14 sh U<|Fn 15 sh U<|Fn 16 sh U<|Fu 17 sh U<|Fu 18 sh U<|Fu 19 sh U<|Fn 20 sh U<|Fn 21 sh U<|Fp 22 sh U (λw=>Y6 U U)<|Fm 23 sh U<|Fn 24 sh U<|Fn 25 sh U<|Fn 26 sh U<|Fn 27 sh U<|Fn 28 sh U<|Fn 29 sh U<|Fn 30 sh U<|Fp 31 sh U (λw=>Y6 U U)<|FE sh (ch _ _ _ sbn (ci true _ H hs));rw [if_neg (bft dl)] at H;refine Fy 9 sh U hs (λw hs=>Zq (i:=4) Xj Xe hs U U U U)<|Fy 10 sh U hs (λw hs=>Zq (i:=3) Xj Xe hs U U U U)<|Fp 12 sh U (λw=>Xi U)<|F1 11 sh U (λl4 gy=>Oe U ?_);obtain ⟨cf,en,H⟩:=bnd H;refine Oc U (Yq.c hs (Yv.mono (a4.trans ba) h0) (Yv.mono (a4.trans ba) h1) en) (λl5 w hpost=>?_);obtain ⟨rfl,hs⟩:=hpost;refine Zh (gy _ _ (λh _=>absurd h (by decide))<|Yk sh [] hs (by kernel_rfl)<|Fp 13 sh U (λw=>Xi U)<|Qa (dj:=46) U (λdm=>?_) (λdm=>?_));rw [if_pos dm] at H;refine Fp 14 sh U (λw=>Xi U)<|Fp 15 sh U (λw=>Y6 U U)<|Fp 16 sh U (λw=>Xi U)<|Ra H (Qa (dj:=49) U) (λ_ H=>?_) λ_ H=>?_;refine Fy 17 sh U hs (λw hs=>Zq (i:=2) Kn Q8 hs U U U U)<|Fy 18 sh U hs (λw hs=>Zq (i:=1) Kn Q8 hs U U U U)<|Fp 19 sh U (λw=>Js [Lk ab,.string aa,.int .u32 ad] [Lk an,.string ao,.int .u32 ap] [ae,af,ag,ah,ai,aj,ak,ac] [aq,ar,au,av,aw,ax,ay,al] Zdp Zdk U U U U U)<|Fp 20 sh U (λw=>Y6 U U)<|Fp 21 sh U (λw=>Ks un4 U U)<|Fp 22 sh U (λw=>Yw U U)<|Fm 23 sh U<|Ra H (Qa (dj:=56) U) (λ_ H=>?_) λ_ H=>?_;refine Fn 24 sh U<|Fn 25 sh U<|Fn 26 sh U<|Fn 27 sh U<|Fn 28 sh U<|Fn 29 sh U<|Fn 30 sh U<|Fp 31 sh U (λw=>Y6 U U)<|FE sh (ch _ _ _ sbn (ci true _ H hs));refine Fy 24 sh U hs (λw hs=>Zq (i:=4) Xj Xe hs U U U U)<|Fy 25 sh U hs (λw hs=>Zq (i:=3) Xj Xe hs U U U U)<|Fy 27 sh U hs (λw hs=>Zq (i:=2) Kn Q8 hs U U U U)<|Fy 28 sh U hs (λw hs=>Zq (i:=1) Kn Q8 hs U U U U)<|F1 26 sh U (λl6 gz=>Oe U ?_);obtain ⟨cl,eo,H⟩:=bnd H;refine Oc U (Zy.c hs (Yv.mono (a4.trans ba) h0) (Yv.mono (a4.trans ba) h1) eo) (λl7 w hpost=>?_);obtain ⟨rfl,hs⟩:=hpost;refine Zh (gz _ _ (λ_ _=>hs)<|F1 29 sh U (λl8 ha=>Oe U<|M H λcm ep H=>Oc U (Zm.c hs (show Yv.R b7 _ (⟨ab,aa,ad,ae,af,ag,ah,ai,aj,ak,ac⟩:S10) from U) (show Yv.R b7 _ (⟨an,ao,ap,aq,ar,au,av,aw,ax,ay,al⟩:S10) from U) ep)<|V λw hs=>Zh (ha _ _ (λ_ _=>hs)<|Fp 30 sh U (λw=>Ks un4 U U)<|Fp 31 sh U (λw=>Yw U U)<|FE sh (ch _ _ _ sbn (ci (cl != cm) _ H hs)))))
  refine Fn 17 sh U<|Fn 18 sh U<|Fn 19 sh U<|Fp 20 sh U (λw=>Yw U U)<|Fp 21 sh U (λw=>Ks un4 U U)<|Fp 22 sh U (λw=>Yw U U)<|Fm 23 sh U<|Ra H (Qa (dj:=56) U) (λ_ H=>?_) λ_ H=>?_;refine Fn 24 sh U<|Fn 25 sh U<|Fn 26 sh U<|Fn 27 sh U<|Fn 28 sh U<|Fn 29 sh U<|Fn 30 sh U<|Fp 31 sh U (λw=>Y6 U U)<|FE sh (ch _ _ _ sbn (ci true _ H hs));refine Fy 24 sh U hs (λw hs=>Zq (i:=4) Xj Xe hs U U U U)<|Fy 25 sh U hs (λw hs=>Zq (i:=3) Xj Xe hs U U U U)<|Fy 27 sh U hs (λw hs=>Zq (i:=2) Kn Q8 hs U U U U)<|Fy 28 sh U hs (λw hs=>Zq (i:=1) Kn Q8 hs U U U U)<|F1 26 sh U (λma hb=>Oe U ?_);obtain ⟨cn,eq,H⟩:=bnd H;refine Oc U (Zy.c hs (Yv.mono (a4.trans ba) h0) (Yv.mono (a4.trans ba) h1) eq) (λmb w hpost=>?_);obtain ⟨rfl,hs⟩:=hpost;refine Zh (hb _ _ (λ_ _=>hs)<|F1 29 sh U (λmc hc=>Oe U<|M H λco er H=>Oc U (Zm.c hs (show Yv.R b7 _ (⟨ab,aa,ad,ae,af,ag,ah,ai,aj,ak,ac⟩:S10) from U) (show Yv.R b7 _ (⟨an,ao,ap,aq,ar,au,av,aw,ax,ay,al⟩:S10) from U) er)<|V λw hs=>Zh (hc _ _ (λ_ _=>hs)<|Fp 30 sh U (λw=>Ks un4 U U)<|Fp 31 sh U (λw=>Yw U U)<|FE sh (ch _ _ _ sbn (ci (cn != co) _ H hs)))));rw [if_neg (bft dm)] at H;refine Fn 14 sh U<|Fp 15 sh U (λw=>Yw U U)<|Fp 16 sh U (λw=>Xi U)<|Fn 17 sh U<|Fn 18 sh U<|Fn 19 sh U<|Fp 20 sh U (λw=>Yw U U)<|Fp 21 sh U (λw=>Ks un4 U U)<|Fp 22 sh U (λw=>Yw U U)<|Fm 23 sh U<|Ra H (Qa (dj:=56) U) (λ_ H=>?_) λ_ H=>?_;refine Fn 24 sh U<|Fn 25 sh U<|Fn 26 sh U<|Fn 27 sh U<|Fn 28 sh U<|Fn 29 sh U<|Fn 30 sh U<|Fp 31 sh U (λw=>Y6 U U)<|FE sh (ch _ _ _ sbn (ci true _ H hs));refine Fy 24 sh U hs (λw hs=>Zq (i:=4) Xj Xe hs U U U U)<|Fy 25 sh U hs (λw hs=>Zq (i:=3) Xj Xe hs U U U U)<|Fy 27 sh U hs (λw hs=>Zq (i:=2) Kn Q8 hs U U U U)<|Fy 28 sh U hs (λw hs=>Zq (i:=1) Kn Q8 hs U U U U)<|F1 26 sh U (λme hd=>Oe U ?_);obtain ⟨cp,es,H⟩:=bnd H;refine Oc U (Zy.c hs (Yv.mono (a4.trans ba) h0) (Yv.mono (a4.trans ba) h1) es) (λmf w hpost=>?_);obtain ⟨rfl,hs⟩:=hpost;refine Zh (hd _ _ (λ_ _=>hs)<|F1 29 sh U (λmg he=>Oe U<|M H λcq et H=>Oc U (Zm.c hs (show Yv.R b7 _ (⟨ab,aa,ad,ae,af,ag,ah,ai,aj,ak,ac⟩:S10) from U) (show Yv.R b7 _ (⟨an,ao,ap,aq,ar,au,av,aw,ax,ay,al⟩:S10) from U) et)<|V λw hs=>Zh (he _ _ (λ_ _=>hs)<|Fp 30 sh U (λw=>Ks un4 U U)<|Fp 31 sh U (λw=>Yw U U)<|FE sh (ch _ _ _ sbn (ci (cp != cq) _ H hs)))))
 refine (be _ _ _ _ _ _).1<|Vq sh (i:=1) (j:=4) (g:=5) U U U (by kernel_rfl) (λmi hf=>?_) (λmj hg=>?_) (λmk hh=>?_);refine M H λam eu H=>Oc U (Z0.c hs h0 eu) (λml w hpost=>?_);obtain ⟨mm,kd,rfl,a5,hs,hi⟩:=hpost;have hj:=hi;obtain rfl:=hj;refine Zh (hf _ _ (λ_ _=>(hs.less a5))<|Vq sh (i:=3) (j:=4) (g:=5) U U U (by kernel_rfl) (λmn hk=>?_) (λmo hl=>?_) (λmp hm=>?_));obtain ⟨a1,ev,H⟩:=bnd H;refine Oc U (Z0.c hs (Yv.mono a5 h1) ev) (λmq w hpost=>?_);obtain ⟨ew,ke,rfl,ex,hs,hn⟩:=hpost;have b2:=a5.trans ex;have ho:=hn;obtain rfl:=ho;refine Zh (hk _ _ (λ_ _=>(hs.less b2))<|Qz sh (i:=4) (j:=5) U U (by kernel_rfl) (λmr hp=>?_) (λms hq=>?_));refine Zx Qy hs U (λa0 w hs=>Zh (hp _ _ (λ_ _=>((hs.less b2).sub (ssk (ssc (ssc ssr)))))<|F1 5 sh U (λmt hr=>Zx Qy hs U (λa2 w hs=>Zh (hr _ _ (λ_ _=>((hs.less b2).sub (ssk (ssk (ssc (ssc ssr))))))<|Yk sh [6,7] hs (by kernel_rfl) (Xu U (by kernel_rfl) (OD.weak [(2,_),(3,_),(5,_),(6,_),(16,_),(18,_)] sbn ((be _ _ _ _ _ _).2 (b9 am.kind am.text am.four am.six0 am.six1 am.six2 am.six3 am.six4 am.six5 am.six6 am.six7 a1.kind a1.text a1.four a1.six0 a1.six1 a1.six2 a1.six3 a1.six4 a1.six5 a1.six6 a1.six7 a2 a0 ew _ H b2 hs)))))))));refine Zx Qy hs U (λa2 w hs=>Zh (hq _ _ (λ_ _=>((hs.less b2).sub (ssk (ssc (ssc ssr)))))<|F1 4 sh U (λmu ht=>Zx Qy hs U (λa0 w hs=>Zh (ht _ _ (λ_ _=>((hs.less b2).sub (ssk (ssk (ssc (ssc ssr)))))) ?_)))));have hs:=hs.front 3 U;have hs:=hs.front 3 U;have hs:=hs.front 2 U;have hs:=hs.front 3 U;refine Yk sh [6,7] hs (by kernel_rfl) (Xu U (by kernel_rfl) (OD.weak [(2,_),(3,_),(5,_),(6,_),(16,_),(18,_)] sbn ((be _ _ _ _ _ _).2 (b9 am.kind am.text am.four am.six0 am.six1 am.six2 am.six3 am.six4 am.six5 am.six6 am.six7 a1.kind a1.text a1.four a1.six0 a1.six1 a1.six2 a1.six3 a1.six4 a1.six5 a1.six6 a1.six7 a2 a0 ew _ H b2 hs))));refine Zx Qy hs U (λa0 w hs=>Zh (hl _ _ (λ_ _=>((hs.less a5).sub (ssk (ssc (ssc ssr)))))<|Qz sh (i:=3) (j:=5) U U (by kernel_rfl) (λmv hu=>?_) (λmw hv=>?_)));obtain ⟨bi,ey,H⟩:=bnd H;refine Oc U (Z0.c hs (Yv.mono a5 h1) ey) (λmx w hpost=>?_);obtain ⟨hw,kf,rfl,ez,hs,hx⟩:=hpost;have ds:=a5.trans ez;have hy:=hx;obtain rfl:=hy;refine Zh (hu _ _ (λ_ _=>((hs.less ds).sub (ssk (ssc (ssc ssr)))))<|F1 5 sh U (λmy hz=>Zx Qy hs U (λa2 w hs=>Zh (hz _ _ (λ_ _=>((hs.less ds).sub (ssk (ssk (ssc (ssc ssr))))))<|Yk sh [6,7] hs (by kernel_rfl) (Xu U (by kernel_rfl) (OD.weak [(2,_),(3,_),(5,_),(6,_),(16,_),(18,_)] sbn ((be _ _ _ _ _ _).2 (b9 am.kind am.text am.four am.six0 am.six1 am.six2 am.six3 am.six4 am.six5 am.six6 am.six7 bi.kind bi.text bi.four bi.six0 bi.six1 bi.six2 bi.six3 bi.six4 bi.six5 bi.six6 bi.six7 a2 a0 hw _ H ds hs))))))));refine Zx Qy hs U (λa2 w hs=>Zh (hv _ _ (λ_ _=>((hs.less a5).sub (ssk (ssk (ssc (ssc ssr))))))<|F1 3 sh U (λmz ia=>?_)));obtain ⟨bj,e0,H⟩:=bnd H
 refine Oc U (Z0.c hs (Yv.mono a5 h1) e0) (λm0 w hpost=>?_);obtain ⟨ib,kg,rfl,e1,hs,ic⟩:=hpost;have e2:=a5.trans e1;have id:=ic;obtain rfl:=id;refine Zh (ia _ _ (λ_ _=>((hs.less e2).sub (ssk (ssk (ssc (ssc ssr))))))<|Yk sh [6,7] hs (by kernel_rfl) (Xu U (by kernel_rfl) (OD.weak [(2,_),(3,_),(5,_),(6,_),(16,_),(18,_)] sbn ((be _ _ _ _ _ _).2 (b9 am.kind am.text am.four am.six0 am.six1 am.six2 am.six3 am.six4 am.six5 am.six6 am.six7 bj.kind bj.text bj.four bj.six0 bj.six1 bj.six2 bj.six3 bj.six4 bj.six5 bj.six6 bj.six7 a2 a0 ib _ H e2 hs)))));refine Zx Qy hs U (λa2 w hs=>Zh (hm _ _ (λ_ _=>((hs.less a5).sub (ssk (ssc (ssc ssr)))))<|Qz sh (i:=3) (j:=4) U U (by kernel_rfl) (λm1 ie=>?_) (λm2 ig=>?_)));obtain ⟨bk,e3,H⟩:=bnd H;refine Oc U (Z0.c hs (Yv.mono a5 h1) e3) (λm3 w hpost=>?_);obtain ⟨ih,kh,rfl,e4,hs,ii⟩:=hpost;have dt:=a5.trans e4;have ij:=ii;obtain rfl:=ij;refine Zh (ie _ _ (λ_ _=>((hs.less dt).sub (ssk (ssc (ssc ssr)))))<|F1 4 sh U (λm4 ik=>Zx Qy hs U (λa0 w hs=>Zh (ik _ _ (λ_ _=>((hs.less dt).sub (ssk (ssk (ssc (ssc ssr)))))) ?_))));have hs:=hs.front 3 U;have hs:=hs.front 3 U;have hs:=hs.front 2 U;have hs:=hs.front 3 U;refine Yk sh [6,7] hs (by kernel_rfl) (Xu U (by kernel_rfl) (OD.weak [(2,_),(3,_),(5,_),(6,_),(16,_),(18,_)] sbn ((be _ _ _ _ _ _).2 (b9 am.kind am.text am.four am.six0 am.six1 am.six2 am.six3 am.six4 am.six5 am.six6 am.six7 bk.kind bk.text bk.four bk.six0 bk.six1 bk.six2 bk.six3 bk.six4 bk.six5 bk.six6 bk.six7 a2 a0 ih _ H dt hs))));refine Zx Qy hs U (λa0 w hs=>Zh (ig _ _ (λ_ _=>((hs.less a5).sub (ssk (ssk (ssc (ssc ssr))))))<|F1 3 sh U (λm5 il=>?_)));obtain ⟨bl,e5,H⟩:=bnd H;refine Oc U (Z0.c hs (Yv.mono a5 h1) e5) (λm6 w hpost=>?_);obtain ⟨im,ki,rfl,e6,hs,io⟩:=hpost;have e7:=a5.trans e6;have ip:=io;obtain rfl:=ip;refine Zh (il _ _ (λ_ _=>((hs.less e7).sub (ssk (ssk (ssc (ssc ssr)))))) ?_);have hs:=hs.front 3 U;have hs:=hs.front 3 U;have hs:=hs.front 2 U;have hs:=hs.front 3 U;refine Yk sh [6,7] hs (by kernel_rfl) (Xu U (by kernel_rfl) (OD.weak [(2,_),(3,_),(5,_),(6,_),(16,_),(18,_)] sbn ((be _ _ _ _ _ _).2 (b9 am.kind am.text am.four am.six0 am.six1 am.six2 am.six3 am.six4 am.six5 am.six6 am.six7 bl.kind bl.text bl.four bl.six0 bl.six1 bl.six2 bl.six3 bl.six4 bl.six5 bl.six6 bl.six7 a2 a0 im _ H e7 hs))));refine Zx Qy hs U (λa0 w hs=>Zh (hg _ _ (λ_ _=>(hs.sub (ssk (ssc (ssc ssr)))))<|Qz sh (i:=1) (j:=5) U U (by kernel_rfl) (λm7 iq=>?_) (λm8 ir=>?_)));refine M H λa6 e8 H=>Oc U (Z0.c hs h0 e8) (λm9 w hpost=>?_);obtain ⟨na,kj,rfl,bv,hs,it⟩:=hpost;have iu:=it;obtain rfl:=iu;refine Zh (iq _ _ (λ_ _=>((hs.less bv).sub (ssk (ssc (ssc ssr)))))<|Qz sh (i:=3) (j:=5) U U (by kernel_rfl) (λnb iv=>?_) (λnc iw=>?_));obtain ⟨bm,e9,H⟩:=bnd H;refine Oc U (Z0.c hs (Yv.mono bv h1) e9) (λnd w hpost=>?_);obtain ⟨ix,kk,rfl,fa,hs,iy⟩:=hpost;have du:=bv.trans fa;have iz:=iy;obtain rfl:=iz
 refine Zh (iv _ _ (λ_ _=>((hs.less du).sub (ssk (ssc (ssc ssr)))))<|F1 5 sh U (λne ja=>Zx Qy hs U (λa2 w hs=>Zh (ja _ _ (λ_ _=>((hs.less du).sub (ssk (ssk (ssc (ssc ssr))))))<|Yk sh [6,7] hs (by kernel_rfl) (Xu U (by kernel_rfl) (OD.weak [(2,_),(3,_),(5,_),(6,_),(16,_),(18,_)] sbn ((be _ _ _ _ _ _).2 (b9 a6.kind a6.text a6.four a6.six0 a6.six1 a6.six2 a6.six3 a6.six4 a6.six5 a6.six6 a6.six7 bm.kind bm.text bm.four bm.six0 bm.six1 bm.six2 bm.six3 bm.six4 bm.six5 bm.six6 bm.six7 a2 a0 ix _ H du hs))))))));refine Zx Qy hs U (λa2 w hs=>Zh (iw _ _ (λ_ _=>((hs.less bv).sub (ssk (ssk (ssc (ssc ssr))))))<|F1 3 sh U (λnf jb=>?_)));obtain ⟨bn,fb,H⟩:=bnd H;refine Oc U (Z0.c hs (Yv.mono bv h1) fb) (λng w hpost=>?_);obtain ⟨jc,kl,rfl,fc,hs,jd⟩:=hpost;have fd:=bv.trans fc;have je:=jd;obtain rfl:=je;refine Zh (jb _ _ (λ_ _=>((hs.less fd).sub (ssk (ssk (ssc (ssc ssr))))))<|Yk sh [6,7] hs (by kernel_rfl) (Xu U (by kernel_rfl) (OD.weak [(2,_),(3,_),(5,_),(6,_),(16,_),(18,_)] sbn ((be _ _ _ _ _ _).2 (b9 a6.kind a6.text a6.four a6.six0 a6.six1 a6.six2 a6.six3 a6.six4 a6.six5 a6.six6 a6.six7 bn.kind bn.text bn.four bn.six0 bn.six1 bn.six2 bn.six3 bn.six4 bn.six5 bn.six6 bn.six7 a2 a0 jc _ H fd hs)))));refine Zx Qy hs U (λa2 w hs=>Zh (ir _ _ (λ_ _=>(hs.sub (ssk (ssk (ssc (ssc ssr))))))<|F1 1 sh U (λnh jf=>M H λbo fe H=>Oc U (Z0.c hs h0 fe) (λni w hpost=>?_))));obtain ⟨nj,km,rfl,cd,hs,jg⟩:=hpost;have jh:=jg;obtain rfl:=jh;refine Zh (jf _ _ (λ_ _=>((hs.less cd).sub (ssk (ssk (ssc (ssc ssr))))))<|F1 3 sh U (λnk ji=>?_));obtain ⟨bp,ff,H⟩:=bnd H;refine Oc U (Z0.c hs (Yv.mono cd h1) ff) (λnl w hpost=>?_);obtain ⟨jj,kn,rfl,fg,hs,jk⟩:=hpost;have fh:=cd.trans fg;have jl:=jk;obtain rfl:=jl;refine Zh (ji _ _ (λ_ _=>((hs.less fh).sub (ssk (ssk (ssc (ssc ssr))))))<|Yk sh [6,7] hs (by kernel_rfl) (Xu U (by kernel_rfl) (OD.weak [(2,_),(3,_),(5,_),(6,_),(16,_),(18,_)] sbn ((be _ _ _ _ _ _).2 (b9 bo.kind bo.text bo.four bo.six0 bo.six1 bo.six2 bo.six3 bo.six4 bo.six5 bo.six6 bo.six7 bp.kind bp.text bp.four bp.six0 bp.six1 bp.six2 bp.six3 bp.six4 bp.six5 bp.six6 bp.six7 a2 a0 jj _ H fh hs)))));refine Zx Qy hs U (λa2 w hs=>Zh (hh _ _ (λ_ _=>(hs.sub (ssk (ssc (ssc ssr)))))<|Qz sh (i:=1) (j:=4) U U (by kernel_rfl) (λnm jm=>?_) (λnn jn=>?_)));refine M H λa7 fi H=>Oc U (Z0.c hs h0 fi) (λno w hpost=>?_);obtain ⟨np,ko,rfl,bw,hs,jo⟩:=hpost;have jp:=jo;obtain rfl:=jp;refine Zh (jm _ _ (λ_ _=>((hs.less bw).sub (ssk (ssc (ssc ssr)))))<|Qz sh (i:=3) (j:=4) U U (by kernel_rfl) (λnq jq=>?_) (λnr jr=>?_));obtain ⟨bq,fj,H⟩:=bnd H;refine Oc U (Z0.c hs (Yv.mono bw h1) fj) (λns w hpost=>?_);obtain ⟨js,kp,rfl,fk,hs,jt⟩:=hpost;have dv:=bw.trans fk;have ju:=jt;obtain rfl:=ju;refine Zh (jq _ _ (λ_ _=>((hs.less dv).sub (ssk (ssc (ssc ssr)))))<|F1 4 sh U (λnt jv=>Zx Qy hs U (λa0 w hs=>Zh (jv _ _ (λ_ _=>((hs.less dv).sub (ssk (ssk (ssc (ssc ssr)))))) ?_))))
 have hs:=hs.front 3 U;have hs:=hs.front 3 U;have hs:=hs.front 2 U;have hs:=hs.front 3 U;refine Yk sh [6,7] hs (by kernel_rfl) (Xu U (by kernel_rfl) (OD.weak [(2,_),(3,_),(5,_),(6,_),(16,_),(18,_)] sbn ((be _ _ _ _ _ _).2 (b9 a7.kind a7.text a7.four a7.six0 a7.six1 a7.six2 a7.six3 a7.six4 a7.six5 a7.six6 a7.six7 bq.kind bq.text bq.four bq.six0 bq.six1 bq.six2 bq.six3 bq.six4 bq.six5 bq.six6 bq.six7 a2 a0 js _ H dv hs))));refine Zx Qy hs U (λa0 w hs=>Zh (jr _ _ (λ_ _=>((hs.less bw).sub (ssk (ssk (ssc (ssc ssr))))))<|F1 3 sh U (λnu jw=>?_)));obtain ⟨br,fl,H⟩:=bnd H;refine Oc U (Z0.c hs (Yv.mono bw h1) fl) (λnv w hpost=>?_);obtain ⟨jx,kq,rfl,fm,hs,jy⟩:=hpost;have fn:=bw.trans fm;have jz:=jy;obtain rfl:=jz;refine Zh (jw _ _ (λ_ _=>((hs.less fn).sub (ssk (ssk (ssc (ssc ssr)))))) ?_);have hs:=hs.front 3 U;have hs:=hs.front 3 U;have hs:=hs.front 2 U;have hs:=hs.front 3 U;refine Yk sh [6,7] hs (by kernel_rfl) (Xu U (by kernel_rfl) (OD.weak [(2,_),(3,_),(5,_),(6,_),(16,_),(18,_)] sbn ((be _ _ _ _ _ _).2 (b9 a7.kind a7.text a7.four a7.six0 a7.six1 a7.six2 a7.six3 a7.six4 a7.six5 a7.six6 a7.six7 br.kind br.text br.four br.six0 br.six1 br.six2 br.six3 br.six4 br.six5 br.six6 br.six7 a2 a0 jx _ H fn hs))));refine Zx Qy hs U (λa0 w hs=>Zh (jn _ _ (λ_ _=>(hs.sub (ssk (ssk (ssc (ssc ssr))))))<|F1 1 sh U (λnw j0=>M H λbs fo H=>Oc U (Z0.c hs h0 fo) (λnx w hpost=>?_))));obtain ⟨ny,kr,rfl,ce,hs,j6⟩:=hpost;have j7:=j6;obtain rfl:=j7;refine Zh (j0 _ _ (λ_ _=>((hs.less ce).sub (ssk (ssk (ssc (ssc ssr))))))<|F1 3 sh U (λnz j8=>?_));obtain ⟨bt,fp,H⟩:=bnd H;refine Oc U (Z0.c hs (Yv.mono ce h1) fp) (λn0 w hpost=>?_);obtain ⟨j9,ks,rfl,fq,hs,ka⟩:=hpost;have fr:=ce.trans fq;have kb:=ka;obtain rfl:=kb;refine Zh (j8 _ _ (λ_ _=>((hs.less fr).sub (ssk (ssk (ssc (ssc ssr)))))) ?_);have hs:=hs.front 3 U;have hs:=hs.front 3 U;have hs:=hs.front 2 U;have hs:=hs.front 3 U;refine Yk sh [6,7] hs (by kernel_rfl) (Xu U (by kernel_rfl) (OD.weak [(2,_),(3,_),(5,_),(6,_),(16,_),(18,_)] sbn ((be _ _ _ _ _ _).2 (b9 bs.kind bs.text bs.four bs.six0 bs.six1 bs.six2 bs.six3 bs.six4 bs.six5 bs.six6 bs.six7 bt.kind bt.text bt.four bt.six0 bt.six1 bt.six2 bt.six3 bt.six4 bt.six5 bt.six6 bt.six7 a2 a0 j9 _ H fr hs))))

end
section
open Go.IntKind (i8 i16 i32 i64 u8 u16 u32 u64)
open Go.RowKit
set_option maxRecDepth 100000
theorem w64 {x:Int} (h0:-9223372036854775808<=x) (h1:x<=9223372036854775807):i64.wrap x=x:=by rw [IntKind.wrap_i64];omega
def S10.six (x:S10):List Int:=[x.six0,x.six1,x.six2,x.six3,x.six4,x.six5,x.six6,x.six7]
theorem Gp (x:S10):∃ b,Zp.f x=some b/\Z6.f x=some b:=by
 have e8:([x.six0,x.six1,x.six2,x.six3,x.six4,x.six5,x.six6,x.six7]:List Int)=x.six:=rfl;unfold Zp.f Z6.f Zp.j5 Z6.j3;simp only [Z6.j1,Z6.j2,Zp.j1,Zp.j2,Zp.j3,Zp.j4,e8,beq_self_eq_true,Bool.true_and,Bool.and_true,decide_true];by_cases k1:x.kind=1
 ·simp only [k1,if_true,decide_true]
  by_cases t:x.text=(⟨#[]⟩:ByteArray)<;>by_cases f:x.four=0<;>by_cases s:x.six=[0,0,0,0,0,0,0,0]<;>simp [t,f,s]
 by_cases k4:x.kind=4
 ·simp only [k4,decide_true]
  by_cases t:x.text=(⟨#[]⟩:ByteArray)<;>by_cases f:x.four=0<;>by_cases s:x.six=[0,0,0,0,0,0,0,0]<;>simp [t,f,s]
 simp only [if_neg k1,k4,decide_false];by_cases k2:x.kind=2
 ·by_cases t:x.text=(⟨#[]⟩:ByteArray)<;>by_cases s:x.six=[0,0,0,0,0,0,0,0]<;>simp [k2,t,s]
 by_cases k3:x.kind=3
 ·by_cases t:x.text=(⟨#[]⟩:ByteArray)<;>by_cases f:x.four=0<;>simp [k3,t,f]
 by_cases k5:x.kind=5
 ·by_cases t:x.text=(⟨#[]⟩:ByteArray)<;>by_cases f:x.four=0<;>by_cases s:x.six=[0,0,0,0,0,0,0,0]<;>simp [k5,t,f,s]
 simp [k2,k3,k5]
theorem H0:Yx.f=some true:=by kernel_rfl
end
section
open Go.IntKind (i8 i16 i32 i64 u8 u16 u32 u64)
open Go.RowKit
set_option maxRecDepth 100000
def bA (l:List UInt8):ByteArray:=⟨l.toArray⟩
theorem Ju (s:ByteArray):bA s.data.toList=s:=by simp [bA]
theorem Kj (l:List UInt8):(bA l).data.toList=l:=by simp [bA]
theorem J1 {a b:ByteArray} (h:a.data.toList=b.data.toList):a=b:=by rw [<- Ju a,<- Ju b,h]
theorem Us (s:ByteArray) (a b:Nat) (hb:b<=s.size):s.extract a b=bA ((s.data.toList.drop a).take (b-a)):=by
 apply J1;rw [Kj];simp [ByteArray.extract,ByteArray.copySlice]
def Q7:List UInt8->List UInt8->List (List UInt8)
 | cur,[]=>[cur]
 | cur,c::r=>if c=46 then cur::Q7 [] r else Q7 (cur++[c]) r
theorem V7:∀ (p cur:List UInt8),(46:UInt8)∉p->Q7 cur p=[cur++p]
 | [],cur,_=>by simp [Q7]
 | c::p,cur,h=>by
  simp only [List.mem_cons,not_or] at h
  rw [Q7,if_neg (λe=>h.1 e.symm),V7 p _ h.2]
  simp
theorem Hg:∀ (p cur q:List UInt8),(46:UInt8)∉p->Q7 cur (p++46::q)=(cur++p)::Q7 [] q
 | [],cur,q,_=>by simp [Q7]
 | c::p,cur,q,h=>by
  simp only [List.mem_cons,not_or] at h
  rw [List.cons_append,Q7,if_neg (λe=>h.1 e.symm),Hg p _ q h.2]
  simp
theorem Zah (l:List UInt8):∀ cur,(Q7 cur l).length=l.count 46+1:=by
 induction l with
 | nil=>intro cur;simp [Q7]
 | cons c l ih=>
  intro cur;rw [Q7];by_cases h:c=46
  ·rw [if_pos h,List.length_cons,ih,h,List.count_cons_self]
  ·rw [if_neg h,ih,List.count_cons_of_ne h]
theorem Gq:∀ (p q:List UInt8),(46:UInt8)∉p->Lib.indexByte (p++46::q) 46=(p.length:Int)
 | [],q,_=>rfl
 | c::p,q,h=>by
  simp only [List.mem_cons,not_or] at h
  rw [List.cons_append,Lib.indexByte,if_neg (by simpa using λe:c=46=>h.1 e.symm),Gq p q h.2,if_neg (by simp)]
  simp
theorem Ue {c:UInt8}:∀ {l:List UInt8},c∈l->∃ p q,l=p++c::q/\c∉p
 | x::l,h=>by
  by_cases e:x=c
  ·exact ⟨[],l,by rw [e];rfl,List.not_mem_nil⟩
  ·obtain ⟨p,q,rfl,hp⟩:=Ue (List.mem_of_ne_of_mem (λh=>e h.symm) h)
   exact ⟨x::p,q,rfl,λhm=>(List.mem_cons.1 hm).elim (λh=>e h.symm) hp⟩
theorem G4:∀ (n:Nat) (l:List UInt8),l.length<=n->Lib.splitK [46] 0 (l.count 46) l=Q7 [] l:=by
 intro n
 induction n with
 | zero=>intro l h;obtain rfl:l=[]:=List.length_eq_zero_iff.1 (by omega);rfl
 | succ n ih=>
  intro l h;by_cases hm:(46:UInt8)∈l
  ·obtain ⟨p,q,rfl,hp⟩:=Ue hm
   rw [Hg p [] q hp];have hc:(p++46::q).count 46=q.count 46+1:=by rw [List.count_append,List.count_eq_zero_of_not_mem hp,List.count_cons_self];omega
   have hi:Lib.index (p++46::q) [46]=(p.length:Int):=by rw [Lib.index_one];exact Gq p q hp
   rw [hc,Lib.splitK,hi,if_neg (by simp)];have hq:q.length<=n:=by simp at h;omega
   rw [<- ih q hq];simp
  ·rw [V7 l [] hm,List.count_eq_zero_of_not_mem hm];rfl
theorem Za6 (s:ByteArray) (hs:s.size<=1048576):Y0.f s (⟨#[46]⟩:ByteArray)=some ((Q7 [] s.data.toList).map bA):=by
 rw [Y0.f,if_pos ⟨rfl,by omega⟩];have hc:Lib.countB s ⟨#[46]⟩=s.data.toList.count 46:=Lib.count_one 46 s.data.toList;have hd:=Lib.splitB_data ⟨#[46]⟩ 0 (Lib.countB s ⟨#[46]⟩) s;rw [hc] at hd;have he:Lib.splitK (⟨#[46]⟩:ByteArray).data.toList 0 (s.data.toList.count 46) s.data.toList=Q7 [] s.data.toList:=G4 _ _ (Nat.le_refl _);rw [he] at hd;rw [hc,<- hd,List.map_map];congr 1;have:(bA∘λx:ByteArray=>x.data.toList)=id:=by funext x;exact Ju x
 rw [this,List.map_id]
theorem H2 (s:ByteArray) (i:Nat) (h:i<s.size):bt s (i:Int)=((s.data.toList[i]'h).toNat:Int):=by
 unfold bt;simp [Array.getD,h,show i<s.data.size from h]
theorem Hm (s:ByteArray) (hs:s.size<=1048576):∀ (m k i ac:Nat) (ab:List ByteArray),m<k->i+m=s.size->ac<=i->ab.length<=i->
  Zr.l1 k s ab (ac:Int) (i:Int)=some (ab++(Q7 ((s.data.toList.drop ac).take (i-ac)) (s.data.toList.drop i)).map bA):=by
 have hl:s.data.toList.length=s.size:=rfl;intro m
 induction m with
 | zero=>
  intro k i ac ab hk hi ha hb;obtain ⟨k,rfl⟩:∃ k',k=k'+1:=⟨k-1,by omega⟩;have:i=s.size:=by omega
  subst this;rw [Zr.l1,if_neg (by omega),if_pos ⟨by omega,by omega,by omega⟩,if_pos (by unfold most;simp;omega),show s.data.toList.drop s.size=[] from List.drop_eq_nil_iff.2 (by omega)];simp only [Q7,List.map_cons,List.map_nil,Int.toNat_natCast];rw [Us s ac s.size (Nat.le_refl _)]
 | succ m ih=>
  intro k i ac ab hk hi ha hb;obtain ⟨k,rfl⟩:∃ k',k=k'+1:=⟨k-1,by omega⟩;have hlt:i<s.size:=by omega
  have hg:s.data.toList.drop i=(s.data.toList[i]'hlt)::s.data.toList.drop (i+1):=List.drop_eq_getElem_cons hlt;have hw:i64.wrap ((i:Int)+1)=((i+1:Nat):Int):=by rw [w64 (by omega) (by omega)];omega
  rw [Zr.l1,if_pos (by omega),if_pos ⟨by omega,by omega⟩,H2 s i hlt,hg,Q7];by_cases c:(s.data.toList[i]'hlt)=46
  ·rw [if_pos (by rw [c];rfl),if_pos ⟨by omega,by omega,by omega⟩,if_pos (by unfold most;simp;omega),Zr.j1,hw,if_pos c]
   rw [ih k (i+1) (i+1) _ (by omega) (by omega) (by omega) (by simp;omega)];simp only [Int.toNat_natCast,Us s ac i (by omega),Nat.sub_self,List.take_zero,List.map_cons,List.append_assoc,List.singleton_append]
  ·rw [if_neg (λe=>c (UInt8.toNat_inj.1 (by have:((s.data.toList[i]'hlt).toNat:Int)=46:=e;show _=46;omega))),Zr.j1,hw,if_neg c]
   rw [ih k (i+1) ac ab (by omega) (by omega) (by omega) (by omega)];have:(s.data.toList.drop ac).take (i+1-ac)=(s.data.toList.drop ac).take (i-ac)++[s.data.toList[i]'hlt]:=by rw [show i+1-ac=(i-ac)+1 by omega,List.take_add_one,List.getElem?_drop,show ac+(i-ac)=i by omega,List.getElem?_eq_getElem hlt];rfl
   rw [this]
theorem Gy (s:ByteArray) (hs:s.size<=1048576):∃ l,Y0.f s (⟨#[46]⟩:ByteArray)=some l/\Zr.f s=some l/\l.length<=1048577:=by
 refine ⟨_,Za6 s hs,?_,?_⟩
 ·rw [Zr.f]
  have:=Hm s hs s.size K0 0 0 [] (by unfold K0;omega) (by omega) (Nat.le_refl _) (Nat.le_refl _);simpa using this
 ·rw [List.length_map,Zah]
  have:=List.count_le_length (a:=(46:UInt8)) (l:=s.data.toList);have hl:s.data.toList.length=s.size:=rfl;omega
end
section
open Go.RowKit
set_option maxRecDepth 100000
theorem Q2 (a b:List UInt8):bA a++bA b=bA (a++b):=by apply J1;rw [Kj];simp [bA]
theorem G6 (a b:ByteArray) (ha:a.size<=1048576) (hb:b.size<=1048576):Ys.f a ((⟨#[46]⟩:ByteArray)++b)=some (decide (b.size<a.size/\a.extract (a.size-b.size) a.size=b/\bt a ((a.size-b.size-1:Nat):Int)=46)):=by
 have hz:((⟨#[46]⟩:ByteArray)++b).size=b.size+1:=by rw [ByteArray.size_append];show 1+b.size=_;omega
 rw [Ys.f,Zj.f,hz];by_cases c:b.size<a.size
 ·rw [if_pos (by omega),w64 (by omega) (by omega),if_pos ⟨by omega,by omega,by omega⟩,Zj.j1,Option.bind_some]
  congr 1;have hl:a.data.toList.length=a.size:=rfl;have hlt:a.size-b.size-1<a.size:=by omega
  have e1:((a.size:Int)-((b.size+1:Nat):Int)).toNat=a.size-b.size-1:=by omega
  rw [e1,Int.toNat_natCast,Us a _ _ (Nat.le_refl _),Us a _ _ (Nat.le_refl _),H2 a _ hlt];have hd:a.data.toList.drop (a.size-b.size-1)=(a.data.toList[a.size-b.size-1]'hlt)::a.data.toList.drop (a.size-b.size):=by rw [List.drop_eq_getElem_cons hlt,show a.size-b.size-1+1=a.size-b.size by omega]
  have t1:(a.data.toList.drop (a.size-b.size-1)).take (a.size-(a.size-b.size-1))=a.data.toList.drop (a.size-b.size-1):=List.take_of_length_le (by rw [List.length_drop];omega);have t2:(a.data.toList.drop (a.size-b.size)).take (a.size-(a.size-b.size))=a.data.toList.drop (a.size-b.size):=List.take_of_length_le (by rw [List.length_drop];omega);rw [t1,t2,hd];generalize a.data.toList.drop (a.size-b.size)=m;generalize a.data.toList[a.size-b.size-1]=x;apply decide_eq_decide.2;constructor
  ·intro h
   have h2:(bA (x::m)).data.toList=46::b.data.toList:=by rw [h];simp
   rw [Kj] at h2
   injection h2 with h3 h4
   exact ⟨c,by rw [h4,Ju],by rw [h3];rfl⟩
  ·rintro ⟨_,h2,h3⟩
   have hx:x=46:=UInt8.toNat_inj.1 (by show _=46;omega);apply J1;rw [Kj,<- h2,hx];simp [bA]
 ·rw [if_neg (by omega),Zj.j1,Option.bind_some,decide_eq_false (λh=>c h.1)]
theorem Zbb (x y:S10) (hx:x.text.size<=1048576) (hy:y.text.size<=1048576):∃ b,Zy.f x y=some b/\Zm.f x y=some b:=by
 obtain ⟨bx,r1,h1⟩:=Gp x;obtain ⟨b2,r2,h2⟩:=Gp y;have hj:∃ b,Zy.j2 x y false=some b/\Zm.j2 x y false=some b:=by
  rw [Zy.j2,Zm.j2,if_neg Bool.false_ne_true,if_neg Bool.false_ne_true];by_cases c:x.text=y.text
  ·exact ⟨true,by rw [if_pos c];rfl,by rw [if_pos c];rfl⟩
  ·rw [if_neg c,if_neg c,if_pos (by show 1+y.text.size<=_;omega),G6 _ _ hx hy,Option.bind_some]
   refine ⟨_,rfl,?_⟩;by_cases c2:y.text.size<x.text.size
   ·rw [if_pos (by omega),w64 (by omega) (by omega),if_pos ⟨by omega,by omega,by omega⟩,w64 (by omega) (by omega)]
    have e1:((x.text.size:Int)-(y.text.size:Int)).toNat=x.text.size-y.text.size:=by omega
    have e2:((x.text.size:Int)-(y.text.size:Int)-1)=((x.text.size-y.text.size-1:Nat):Int):=by omega
    rw [e1,Int.toNat_natCast,e2];by_cases c3:x.text.extract (x.text.size-y.text.size) x.text.size=y.text
    ·rw [if_pos c3,if_pos ⟨by omega,by omega⟩,Zm.j1]
     simp [c2,c3]
    ·rw [if_neg c3,Zm.j1]
     simp [c3]
   ·rw [if_neg (by omega),Zm.j1]
    simp [c2]
 have ht1:Zy.j2 x y true=some false:=by rw [Zy.j2,if_pos rfl]
 have ht2:Zm.j2 x y true=some false:=by rw [Zm.j2,if_pos rfl]
 unfold Zy.f Zm.f;rw [h1,h2,r1,r2];simp only [Option.bind_some];obtain ⟨b,j1,j2⟩:=hj;by_cases k1:x.kind=1<;>by_cases k2:y.kind=1<;>cases bx<;>cases b2<;>simp [k1,k2,ht1,ht2,j1,j2]
theorem Zaj (x y:S10):∃ bx b2,Zp.f x=some bx/\Z6.f x=some bx/\Zp.f y=some b2/\Yq.f x y=some (bx&&((x.kind == y.kind&&(decide (x.text=y.text)&&(x.four == y.four&&true)))&&decide (([x.six0,x.six1,x.six2,x.six3,x.six4,x.six5,x.six6,x.six7]:List Int)=[y.six0,y.six1,y.six2,y.six3,y.six4,y.six5,y.six6,y.six7])))
  /\ (bx=true->b2=false->((x.kind == y.kind&&(decide (x.text=y.text)&&(x.four == y.four&&true)))&&decide (([x.six0,x.six1,x.six2,x.six3,x.six4,x.six5,x.six6,x.six7]:List Int)=[y.six0,y.six1,y.six2,y.six3,y.six4,y.six5,y.six6,y.six7]))=false):=by
 obtain ⟨bx,r1,h1⟩:=Gp x;obtain ⟨b2,r2,h2⟩:=Gp y;refine ⟨bx,b2,r1,h1,r2,?_,λe1 e2=>?_⟩
 ·rw [Yq.f,h1,Option.bind_some]
  cases bx
  ·rw [if_neg (by decide),Yq.j1];rfl
  ·rw [if_pos rfl,Yq.j1,Bool.true_and]
 ·rw [Bool.eq_false_iff]
  intro h;simp only [Bool.and_eq_true,beq_iff_eq,decide_eq_true_eq,Bool.and_true,List.cons.injEq,and_true] at h;obtain ⟨⟨a1,a2,a3⟩,a4,a5,a6,a7,a8,a9,b0,b1⟩:=h;have:x=y:=by cases x;cases y;simp_all
  rw [this,r2] at r1;rw [e1,e2] at r1;exact absurd r1 (by decide)
end
section
open Go.IntKind (i8 i16 i32 i64 u8 u16 u32 u64)
open Go.RowKit
set_option maxRecDepth 100000
theorem wu8 {n:Nat} (h:n<256):u8.wrap (n:Int)=(n:Int):=by rw [IntKind.wrap_u8];omega
theorem Zdl (v:Nat) (h:v<256):Lib.decDigits v=(if 100<=v then [UInt8.ofNat (48+v/100)] else [])++((if 10<=v then [UInt8.ofNat (48+v/10%10)] else [])++[UInt8.ofNat (48+v%10)]):=by
 by_cases h1:v<10
 ·rw [Lib.decDigits_one h1,if_neg (by omega),if_neg (by omega),Nat.mod_eq_of_lt h1];rfl
 ·by_cases h2:v<100
  ·rw [Lib.decDigits_two h1 h2,if_neg (by omega),if_pos (by omega),Nat.mod_eq_of_lt (show v/10<10 by omega)];rfl
  ·rw [Lib.decDigits,dif_neg h1,Lib.decDigits_two (by omega) (by omega),if_pos (by omega),if_pos (by omega),show v/10/10=v/100 by omega];rfl
theorem Up (n:Nat):Xd [(n:Int)]=bA [UInt8.ofNat n]:=by apply J1;rw [Kj];simp [Xd]
theorem Un (n:Nat) (h:n<4294967296):Xg .u32 (n:Int) 255=((n%256:Nat):Int):=by
 have e1:BitVec.ofInt 32 (n:Int)=BitVec.ofNat 32 n:=by simp
 have e2:(BitVec.ofNat 32 n &&& BitVec.ofInt 32 255).toNat=n%256:=by rw [BitVec.toNat_and,BitVec.toNat_ofNat,Nat.mod_eq_of_lt (by omega)];show n &&& 255=n%256;exact Nat.and_two_pow_sub_one_eq_mod n 8
 show u32.wrap (((BitVec.ofInt 32 (n:Int)) &&& BitVec.ofInt 32 255).toNat:Int)=_;rw [e1,e2,IntKind.wrap_u32];omega
theorem U2 (ac:ByteArray->Int->Option ByteArray) (x a:Int) (v:Nat) (hv:v<256) (hV:i64.wrap (Xg .u32 (x.fdiv (2^(min (u64.wrap (i64.wrap (24-(i64.wrap (8*a))))).toNat 32))) 255)=(v:Int)) (l:List UInt8) (hl:l.length<=1000):
  Zi.j3 ac x a (bA l)=ac (bA (l++Lib.decDigits v)) (i64.wrap (a+1)):=by
 have hz:∀ l:List UInt8,(bA l).size=l.length:=λl=>by simp [bA,ByteArray.size]
 have d1:u8.wrap (i64.wrap (48+i64.wrap ((v:Int).tdiv 100)))=((48+v/100:Nat):Int):=by rw [show ((v:Int).tdiv 100)=((v/100:Nat):Int) from rfl,w64 (x:=((v/100:Nat):Int)) (by omega) (by omega),w64 (by omega) (by omega),show (48:Int)+((v/100:Nat):Int)=((48+v/100:Nat):Int) by omega,wu8 (by omega)]
 have d2:u8.wrap (i64.wrap (48+(i64.wrap ((v:Int).tdiv 10)).tmod 10))=((48+v/10%10:Nat):Int):=by rw [show ((v:Int).tdiv 10)=((v/10:Nat):Int) from rfl,w64 (x:=((v/10:Nat):Int)) (by omega) (by omega),show (((v/10:Nat):Int).tmod 10)=((v/10%10:Nat):Int) from rfl,w64 (by omega) (by omega),show (48:Int)+((v/10%10:Nat):Int)=((48+v/10%10:Nat):Int) by omega,wu8 (by omega)]
 have d3:u8.wrap (i64.wrap (48+(v:Int).tmod 10))=((48+v%10:Nat):Int):=by rw [show ((v:Int).tmod 10)=((v%10:Nat):Int) from rfl,w64 (by omega) (by omega),show (48:Int)+((v%10:Nat):Int)=((48+v%10:Nat):Int) by omega,wu8 (by omega)]
 have j1:∀ l:List UInt8,l.length<=1010->Zi.j1 ac x a (bA l)=ac (bA (l++[UInt8.ofNat (48+v%10)])) (i64.wrap (a+1)):=by intro l hl;rw [Zi.j1,hV,d3,Up,Q2,if_pos (by rw [hz,hz];simp;omega)]
 have j2:∀ l:List UInt8,l.length<=1005->Zi.j2 ac x a (bA l)=ac (bA (l++((if 10<=v then [UInt8.ofNat (48+v/10%10)] else [])++[UInt8.ofNat (48+v%10)]))) (i64.wrap (a+1)):=by
  intro l hl;rw [Zi.j2,hV];by_cases c:10<=v
  ·rw [if_pos (by omega),d2,Up,Q2,if_pos (by rw [hz,hz];simp;omega),j1 _ (by simp;omega),if_pos c,List.append_assoc]
  ·rw [if_neg (by omega),j1 _ (by omega),if_neg c,List.nil_append]
 rw [Zi.j3,hV,Zdl v hv];by_cases c:100<=v
 ·rw [if_pos (by omega),d1,Up,Q2,if_pos (by rw [hz,hz];simp;omega),j2 _ (by simp;omega),if_pos c,List.append_assoc]
 ·rw [if_neg (by omega),j2 _ (by omega),if_neg c,List.nil_append]
theorem Zbu (x:Int) (h0:0<=x) (h1:x<4294967296):∃ t,Yi.f x=some t/\Zi.f x=some t/\t.size<=1000:=by
 obtain ⟨n,rfl⟩:∃ n:Nat,x=n:=⟨x.toNat,by omega⟩;have hn:n<4294967296:=by omega
 have hz:∀ l:List UInt8,(bA l).size=l.length:=λl=>by simp [bA,ByteArray.size]
 have hd:∀ v,v<256->(Lib.decDigits v).length<=3:=by intro v hv;rw [Zdl v hv];split<;>split<;>simp
 have hi:∀ v:Nat,v<256->strconv_Itoa.f (i64.wrap (v:Int))=some (bA (Lib.decDigits v)):=by intro v hv;rw [w64 (by omega) (by omega),strconv_Itoa.f,if_pos ⟨by omega,by omega⟩,Lib.itoa_nonneg];rfl
 have f24:(n:Int).fdiv (2^24)=((n/16777216:Nat):Int):=by rw [Int.fdiv_eq_ediv_of_nonneg _ (by decide)];omega
 have f16:(n:Int).fdiv (2^16)=((n/65536:Nat):Int):=by rw [Int.fdiv_eq_ediv_of_nonneg _ (by decide)];omega
 have f8:(n:Int).fdiv (2^8)=((n/256:Nat):Int):=by rw [Int.fdiv_eq_ediv_of_nonneg _ (by decide)];omega
 have f0:(n:Int).fdiv (2^0)=((n:Nat):Int):=by rw [Int.fdiv_eq_ediv_of_nonneg _ (by decide)];omega
 have u8:∀ m:Nat,u8.wrap (m:Int)=((m%256:Nat):Int):=λm=>by rw [IntKind.wrap_u8];omega
 refine ⟨bA (Lib.decDigits (n/16777216%256)++[46]++Lib.decDigits (n/65536%256)++[46]++Lib.decDigits (n/256%256)++[46]++Lib.decDigits (n%256)),?_,?_,?_⟩
 ·have ho:Xk.f (n:Int)=some #v[((n/16777216%256:Nat):Int),((n/65536%256:Nat):Int),((n/256%256:Nat):Int),((n%256:Nat):Int)]:=by
   rw [Xk.f];have e24:(2:Int)^(min (24:Int).toNat u32.bits)=2^24:=rfl;have e16:(2:Int)^(min (16:Int).toNat u32.bits)=2^16:=rfl;have e8:(2:Int)^(min (8:Int).toNat u32.bits)=2^8:=rfl;rw [e24,e16,e8,f24,f16,f8,u8,u8,u8,u8]
  rw [Yi.f,ho,Option.bind_some]
  obtain ⟨k,hk⟩:∃ k,K0=k+5:=⟨1180591620717411303419,rfl⟩
  rw [hk]
  have g0:vg (#v[((n/16777216%256:Nat):Int),((n/65536%256:Nat):Int),((n/256%256:Nat):Int),((n%256:Nat):Int)]) 0=((n/16777216%256:Nat):Int):=rfl
  have g1:vg (#v[((n/16777216%256:Nat):Int),((n/65536%256:Nat):Int),((n/256%256:Nat):Int),((n%256:Nat):Int)]) 1=((n/65536%256:Nat):Int):=rfl
  have g2:vg (#v[((n/16777216%256:Nat):Int),((n/65536%256:Nat):Int),((n/256%256:Nat):Int),((n%256:Nat):Int)]) 2=((n/256%256:Nat):Int):=rfl
  have g3:vg (#v[((n/16777216%256:Nat):Int),((n/65536%256:Nat):Int),((n/256%256:Nat):Int),((n%256:Nat):Int)]) 3=((n%256:Nat):Int):=rfl
  rw [Yi.l1,if_pos (by decide),if_pos ⟨by decide,by decide⟩,g0,hi _ (by omega),Option.bind_some,if_pos (by unfold most;simp)]
  rw [show i64.wrap (0+1)=1 from rfl,Yi.l1,if_pos (by decide),if_pos ⟨by decide,by decide⟩,g1,hi _ (by omega),Option.bind_some,if_pos (by unfold most;simp)]
  rw [show i64.wrap (1+1)=2 from rfl,Yi.l1,if_pos (by decide),if_pos ⟨by decide,by decide⟩,g2,hi _ (by omega),Option.bind_some,if_pos (by unfold most;simp)]
  rw [show i64.wrap (2+1)=3 from rfl,Yi.l1,if_pos (by decide),if_pos ⟨by decide,by decide⟩,g3,hi _ (by omega),Option.bind_some,if_pos (by unfold most;simp)]
  rw [show i64.wrap (3+1)=4 from rfl,Yi.l1,if_neg (by decide)]
  have hj:J7 ([]++[bA (Lib.decDigits (n/16777216%256))]++[bA (Lib.decDigits (n/65536%256))]++[bA (Lib.decDigits (n/256%256))]++[bA (Lib.decDigits (n%256))]) (⟨#[46]⟩:ByteArray)=bA (Lib.decDigits (n/16777216%256)++[46]++Lib.decDigits (n/65536%256)++[46]++Lib.decDigits (n/256%256)++[46]++Lib.decDigits (n%256)):=by simp [J7,bA,Lib.join,List.intercalate,List.intersperse]
  rw [Xq.f,hj,if_pos ⟨by simp,by
   rw [hz];have a0:=hd (n/16777216%256) (by omega);have a1:=hd (n/65536%256) (by omega);have a2:=hd (n/256%256) (by omega);have a3:=hd (n%256) (by omega);simp only [List.length_append,List.length_cons,List.length_nil];omega⟩,Option.bind_some]
 ·rw [Zi.f]
  obtain ⟨k,hk⟩:∃ k,K0=k+5:=⟨1180591620717411303419,rfl⟩;rw [hk];have V0:i64.wrap (Xg .u32 ((n:Int).fdiv (2^(min (u64.wrap (i64.wrap (24-(i64.wrap (8*0))))).toNat 32))) 255)=((n/16777216%256:Nat):Int):=by rw [show (2:Int)^(min (u64.wrap (i64.wrap (24-(i64.wrap (8*0))))).toNat 32)=2^24 from rfl,f24,Un _ (by omega),w64 (by omega) (by omega)]
  have V1:i64.wrap (Xg .u32 ((n:Int).fdiv (2^(min (u64.wrap (i64.wrap (24-(i64.wrap (8*1))))).toNat 32))) 255)=((n/65536%256:Nat):Int):=by rw [show (2:Int)^(min (u64.wrap (i64.wrap (24-(i64.wrap (8*1))))).toNat 32)=2^16 from rfl,f16,Un _ (by omega),w64 (by omega) (by omega)]
  have V2:i64.wrap (Xg .u32 ((n:Int).fdiv (2^(min (u64.wrap (i64.wrap (24-(i64.wrap (8*2))))).toNat 32))) 255)=((n/256%256:Nat):Int):=by rw [show (2:Int)^(min (u64.wrap (i64.wrap (24-(i64.wrap (8*2))))).toNat 32)=2^8 from rfl,f8,Un _ (by omega),w64 (by omega) (by omega)]
  have V3:i64.wrap (Xg .u32 ((n:Int).fdiv (2^(min (u64.wrap (i64.wrap (24-(i64.wrap (8*3))))).toNat 32))) 255)=((n%256:Nat):Int):=by rw [show (2:Int)^(min (u64.wrap (i64.wrap (24-(i64.wrap (8*3))))).toNat 32)=2^0 from rfl,f0,Un _ (by omega),w64 (by omega) (by omega)]
  have a0:=hd (n/16777216%256) (by omega);have a1:=hd (n/65536%256) (by omega);have a2:=hd (n/256%256) (by omega);have dot:∀ l:List UInt8,bA l++(⟨#[46]⟩:ByteArray)=bA (l++[46]):=λl=>Q2 l [46];have dz:(⟨#[46]⟩:ByteArray).size=1:=rfl;rw [Zi.l1,if_pos (by decide),if_pos (by decide),if_neg (by decide),show (⟨#[]⟩:ByteArray)=bA [] from rfl,U2 _ _ 0 _ (by omega) V0 [] (by simp)];rw [show i64.wrap (0+1)=1 from rfl,Zi.l1,if_pos (by decide),if_pos (by decide),if_pos (by decide),if_pos (by rw [hz,dz];simp;omega),dot,U2 _ _ 1 _ (by omega) V1 _ (by simp;omega)];rw [show i64.wrap (1+1)=2 from rfl,Zi.l1,if_pos (by decide),if_pos (by decide),if_pos (by decide),if_pos (by rw [hz,dz];simp;omega),dot,U2 _ _ 2 _ (by omega) V2 _ (by simp;omega)];rw [show i64.wrap (2+1)=3 from rfl,Zi.l1,if_pos (by decide),if_pos (by decide),if_pos (by decide),if_pos (by rw [hz,dz];simp;omega),dot,U2 _ _ 3 _ (by omega) V3 _ (by simp;omega)];rw [show i64.wrap (3+1)=4 from rfl,Zi.l1,if_neg (by decide),List.nil_append]
 ·rw [hz];have a0:=hd (n/16777216%256) (by omega);have a1:=hd (n/65536%256) (by omega);have a2:=hd (n/256%256) (by omega);have a3:=hd (n%256) (by omega);simp only [List.length_append,List.length_cons,List.length_nil];omega
end
section
open Go.IntKind (i8 i16 i32 i64 u8 u16 u32 u64)
open Go.RowKit
set_option maxRecDepth 100000
def T36:ByteArray:=⟨#[48,49,50,51,52,53,54,55,56,57,97,98,99,100,101,102,103,104,105,106,107,108,109,110,111,112,113,114,115,116,117,118,119,120,121,122]⟩
def T16:ByteArray:=⟨#[48,49,50,51,52,53,54,55,56,57,97,98,99,100,101,102]⟩
def hx (d:Nat):UInt8:=UInt8.ofNat (if d<10 then 48+d else 87+d)
theorem Hd (l:List Int):Xd l=bA (l.map λn=>UInt8.ofNat n.toNat):=by
 apply J1;rw [Kj];have key:∀ (l:List Int) (r:ByteArray),(l.foldl (λr n=>r.push (UInt8.ofNat n.toNat)) r).data.toList=r.data.toList++l.map λn=>UInt8.ofNat n.toNat:=by
  intro l
  induction l with
  | nil=>intro r;simp
  | cons a l ih=>intro r;rw [List.foldl_cons,ih];simp
 rw [Xd,key];rfl
theorem G1 (x1:Int) (aa:List Int) (ab:Int) (xs:List Int) (hx:xs=aa++[bt T36 (ab.tmod (u64.wrap x1))]) (hn:xs.length<=100000):∀ (m k i:Nat),m<k->i+m=xs.length->
  Zo.l1 k x1 aa ab (List.replicate m 0++(xs.take i).reverse) (i:Int)=some (Xd xs.reverse,0):=by
 intro m
 induction m with
 | zero=>
  intro k i hk hi;obtain ⟨k,rfl⟩:∃ k',k=k'+1:=⟨k-1,by omega⟩;show (if (i:Int)<((aa++[bt T36 (ab.tmod (u64.wrap x1))]).length:Int) then _ else _)=_;rw [<- hx,if_neg (by omega),List.take_of_length_le (by omega)];rfl
 | succ m ih=>
  intro k i hk hi;obtain ⟨k,rfl⟩:∃ k',k=k'+1:=⟨k-1,by omega⟩;have hlt:i<xs.length:=by omega
  rw [Zo.l1];change (if (i:Int)<((aa++[bt T36 (ab.tmod (u64.wrap x1))]).length:Int) then (if (0:Int)<=(i:Int)/\(i:Int)<((aa++[bt T36 (ab.tmod (u64.wrap x1))]).length:Int) then (if (0:Int)<=i64.wrap ((i64.wrap (((aa++[bt T36 (ab.tmod (u64.wrap x1))]).length:Int)-1))-(i:Int))/\i64.wrap ((i64.wrap (((aa++[bt T36 (ab.tmod (u64.wrap x1))]).length:Int)-1))-(i:Int))<((List.replicate (m+1) 0++(xs.take i).reverse).length:Int) then Zo.l1 k x1 aa ab ((List.replicate (m+1) 0++(xs.take i).reverse).set (i64.wrap ((i64.wrap (((aa++[bt T36 (ab.tmod (u64.wrap x1))]).length:Int)-1))-(i:Int))).toNat (rd (aa++[bt T36 (ab.tmod (u64.wrap x1))]) (i:Int))) (i64.wrap ((i:Int)+1)) else none) else none) else _)=_;rw [<- hx,if_pos (by omega),if_pos ⟨by omega,by omega⟩,w64 (x:=(xs.length:Int)-1) (by omega) (by omega),w64 (x:=(xs.length:Int)-1-i) (by omega) (by omega),w64 (x:=(i:Int)+1) (by omega) (by omega)];have hl:(List.replicate (m+1) (0:Int)++(xs.take i).reverse).length=xs.length:=by simp;omega
  rw [hl,if_pos ⟨by omega,by omega⟩,show ((xs.length:Int)-1-i).toNat=m by omega];have hs:(List.replicate (m+1) (0:Int)++(xs.take i).reverse).set m (rd xs (i:Int))=List.replicate m 0++(xs.take (i+1)).reverse:=by
   have hr:rd xs (i:Int)=xs[i]:=by simp [rd,hlt]
   rw [hr,List.take_add_one,List.getElem?_eq_getElem hlt,List.reverse_append,List.replicate_succ',List.append_assoc,List.set_append_right _ _ (by simp)];simp
  rw [hs];exact ih k (i+1) (by omega) (by omega)
def Uq (n:Nat):List Nat:=if _h:n<16 then [n] else n%16::Uq (n/16)
termination_by n
decreasing_by omega
theorem Hh {n:Nat} (h:n<16):Uq n=[n]:=by rw [Uq,dif_pos h]
theorem V9 {n:Nat} (h:¬ n<16):Uq n=n%16::Uq (n/16):=by rw [Uq,dif_neg h]
def cv (d:Nat):Int:=((if d<10 then 48+d else 87+d:Nat):Int)
theorem Zcw:∀ d:Fin 16,bt T36 ((d.val:Nat):Int)=cv d.val:=by decide
theorem Zbj:∀ d:Fin 16,T16.extract d.val (d.val+1)=bA [hx d.val]:=by decide
theorem H8:∀ (n:Nat) (k:Nat) (aa:List Int),n<k->n<65536->aa.length+n<=70000->Zo.l2 k 16 aa (n:Int)=some (Xd (aa++(Uq n).map cv).reverse,0):=by
 intro n
 induction n using Nat.strongRecOn with
 | ind n ih=>
  intro k aa hk hn ha;obtain ⟨k,rfl⟩:∃ k',k=k'+1:=⟨k-1,by omega⟩;have hw:u64.wrap 16=16:=rfl;have hm:((n:Int).tmod 16)=((n%16:Nat):Int):=rfl;have hd:u64.wrap ((n:Int).tdiv 16)=((n/16:Nat):Int):=by rw [show ((n:Int).tdiv 16)=((n/16:Nat):Int) from rfl,IntKind.wrap_u64];omega
  have hb:bt T36 ((n%16:Nat):Int)=cv (n%16):=Zcw ⟨n%16,by omega⟩;rw [Zo.l2];change (if u64.wrap 16≠0 then (if (0:Int)<=(n:Int).tmod (u64.wrap 16)/\(n:Int).tmod (u64.wrap 16)<(T36.size:Int) then (if aa.length+([bt T36 ((n:Int).tmod (u64.wrap 16))]).length<=most then (if (u64.wrap ((n:Int).tdiv (u64.wrap 16)))=0 then (if (0:Int)<=((aa++([bt T36 ((n:Int).tmod (u64.wrap 16))])).length:Int)/\((aa++([bt T36 ((n:Int).tmod (u64.wrap 16))])).length:Int)<=(most:Int) then (Zo.l1 K0 16 aa (n:Int) (List.replicate ((aa++([bt T36 ((n:Int).tmod (u64.wrap 16))])).length:Int).toNat 0) 0) else none) else ((Zo.l2 k 16) (aa++([bt T36 ((n:Int).tmod (u64.wrap 16))])) (u64.wrap ((n:Int).tdiv (u64.wrap 16))))) else none) else none) else none)=_;have hsz:(T36.size:Int)=36:=rfl;have hmost:most=2199023255552:=rfl;simp only [hw,hm,hd,hb,hsz];rw [if_pos (by decide),if_pos ⟨by omega,by omega⟩,if_pos (by rw [hmost];simp;omega)];by_cases c:n<16
  ·rw [if_pos (by omega),if_pos ⟨by omega,by rw [hmost];simp;omega⟩,Hh c]
   have hc:cv (n%16)=cv n:=by rw [Nat.mod_eq_of_lt c]
   have:=G1 16 aa (n:Int) (aa++[cv n]) (by rw [hw,hm,hb,hc]) (by simp;omega) (aa++[cv n]).length K0 0 (by unfold K0;simp;omega) (by omega);rw [hc,Int.toNat_natCast];simpa using this
  ·rw [if_neg (by omega),V9 c,ih (n/16) (by omega) k _ (by omega) (by omega) (by simp;omega)]
   simp
def Q3 (n:Nat):List UInt8:=((Uq n).map hx).reverse
theorem J6 {n:Nat} (h:n<16):Q3 n=[hx n]:=by rw [Q3,Hh h];rfl
theorem Jk {n:Nat} (h:¬ n<16):Q3 n=Q3 (n/16)++[hx (n%16)]:=by rw [Q3,V9 h];simp [Q3]
theorem Zap (n:Nat):1<=(Q3 n).length/\(Q3 n).length<=n+1:=by
 induction n using Nat.strongRecOn with
 | ind n ih=>
  by_cases c:n<16
  ·rw [J6 c];simp
  ·rw [Jk c];have:=ih (n/16) (by omega);simp;omega
theorem Zch:∀ d:Fin 16,hx d.val≠58:=by decide
theorem Gx (n:Nat):∃ l d,Q3 n=l++[hx d]/\hx d≠58:=by
 by_cases c:n<16
 ·exact ⟨[],n,by rw [J6 c];rfl,Zch ⟨n,c⟩⟩
 ·exact ⟨Q3 (n/16),n%16,Jk c,Zch ⟨n%16,by omega⟩⟩
theorem Gg (n:Nat) (hn:n<65536):Q5.f (n:Int)=some (bA (Q3 n)):=by
 have hw:u64.wrap (n:Int)=(n:Int):=by rw [IntKind.wrap_u64];omega
 rw [Q5.f,hw,Zo.f,if_neg (by decide),Zo.j1,if_neg (by decide),H8 n K0 [] (by unfold K0;omega) hn (by simp;omega),Option.bind_some,Hd];have:(([]++(Uq n).map cv).reverse.map λm:Int=>UInt8.ofNat m.toNat)=Q3 n:=by rw [Q3,List.nil_append,List.map_reverse,List.map_map];rfl
 rw [this]
theorem U1:∀ (n:Nat) (k:Nat) (l:List UInt8) (ac:Nat),n<k->n<65536->l.length+n<=200000->ac+n<=200000->(0<n\/ac=0)->Z2.l1 (k+1) 1 (n:Int) (bA l) (ac:Int)=some (bA (Q3 n++l)):=by
 have hz:∀ l:List UInt8,(bA l).size=l.length:=λl=>by simp [bA,ByteArray.size]
 intro n
 induction n using Nat.strongRecOn with
 | ind n ih=>
  intro k l ac hk hn hl hac h0;have hm:((n:Int).tmod 16)=((n%16:Nat):Int):=rfl;have hw1:u16.wrap (((n%16:Nat):Int)+1)=((n%16+1:Nat):Int):=by rw [IntKind.wrap_u16];omega
  have hd:u16.wrap ((n:Int).tdiv 16)=((n/16:Nat):Int):=by rw [show ((n:Int).tdiv 16)=((n/16:Nat):Int) from rfl,IntKind.wrap_u16];omega
  have hT:T16.extract (n%16) (n%16+1)=bA [hx (n%16)]:=Zbj ⟨n%16,by omega⟩;have hsz:(T16.size:Int)=16:=rfl;have hi:i64.wrap ((ac:Int)+1)=((ac+1:Nat):Int):=by rw [w64 (by omega) (by omega)];omega
  have hj:∀ af:Int->ByteArray->Int->Option ByteArray,Z2.j1 af (n:Int) (bA l) (ac:Int) true=af ((n/16:Nat):Int) (bA (hx (n%16)::l)) ((ac+1:Nat):Int):=by intro af;rw [Z2.j1];change (if true=true then (if (0:Int)<=(n:Int).tmod 16/\(n:Int).tmod 16<=u16.wrap (((n:Int).tmod 16)+1)/\u16.wrap (((n:Int).tmod 16)+1)<=(T16.size:Int) then (if (T16.extract ((n:Int).tmod 16).toNat (u16.wrap (((n:Int).tmod 16)+1)).toNat).size+(bA l).size<=9223372036854775807 then (af (u16.wrap ((n:Int).tdiv 16)) ((T16.extract ((n:Int).tmod 16).toNat (u16.wrap (((n:Int).tmod 16)+1)).toNat)++bA l) (i64.wrap ((ac:Int)+1))) else none) else none) else _)=_;simp only [hm,hw1,hd,hsz,hi,Int.toNat_natCast,hT,hz,Q2];rw [if_pos trivial,if_pos ⟨by omega,by omega,by omega⟩,if_pos (by simp;omega)];rfl
  have hb:Z2.l1 (k+1) 1 (n:Int) (bA l) (ac:Int)=Z2.l1 k 1 ((n/16:Nat):Int) (bA (hx (n%16)::l)) ((ac+1:Nat):Int):=by
   rw [Z2.l1];by_cases c:ac=0
   ·rw [if_pos (by omega),hj]
   ·rw [if_neg (by omega),decide_eq_true (by omega),hj]
  rw [hb];by_cases c:n<16
  ·obtain ⟨k,rfl⟩:∃ k',k=k'+1:=⟨k-1,by omega⟩
   have hq:n/16=0:=by omega
   rw [hq,Z2.l1,if_neg (by omega),show decide ((0:Int)<((0:Nat):Int))=false from rfl,Z2.j1,if_neg Bool.false_ne_true,J6 c,Nat.mod_eq_of_lt c];rfl
  ·obtain ⟨k,rfl⟩:∃ k',k=k'+1:=⟨k-1,by omega⟩
   rw [ih (n/16) (by omega) k _ (ac+1) (by omega) (by omega) (by simp;omega) (by omega) (.inl (by omega)),Jk c];simp
theorem Ga (n:Nat) (hn:n<65536):Z2.f (n:Int) 1=some (bA (Q3 n)):=by
 rw [Z2.f];obtain ⟨k,hk⟩:∃ k,K0=k+1:=⟨1180591620717411303423,rfl⟩;have:=U1 n k [] 0 (by unfold K0 at hk;omega) hn (by simp;omega) (by omega) (.inr rfl);rw [hk];rw [List.append_nil] at this;exact this
end
section
open Go.IntKind (i8 i16 i32 i64 u8 u16 u32 u64)
open Go.RowKit
set_option maxRecDepth 100000
theorem Vn {l m:List Int} (hl:l.length=m.length) (hz:∀ i:Int,0<=i->i<(l.length:Int)->(rd l i=0↔rd m i=0)):∀ (k:Nat) (ac ad ab aa:Int),Yh.l1 k l ac ad ab aa=Yh.l1 k m ac ad ab aa:=by
 intro k
 induction k with
 | zero=>intro ac ad ab aa;rfl
 | succ k ih=>
  intro ac ad ab aa;rw [Yh.l1,Yh.l1,<- hl];by_cases c:aa<(l.length:Int)
  ·by_cases c0:(0:Int)<=aa
   ·simp only [c,c0,and_self,if_true,if_pos,Yh.j1,ih]
    by_cases z:rd l aa=0
    ·have z2:=(hz aa c0 c).1 z
     simp only [z,z2]
    ·have z2:=λh=>z ((hz aa c0 c).2 h)
     rw [if_pos z,if_pos z2]
   ·rw [if_pos c,if_pos c,if_neg (λh=>c0 h.1),if_neg (λh=>c0 h.1)]
  ·rw [if_neg c,if_neg c]
theorem Vb {v u:Vector Int 8} (ae:Int->Int->Int->Option (Int×Int)) (hz:∀ i:Int,0<=i->i<8->(vg v i=0↔vg u i=0)):∀ (k:Nat) (ab ac aa ad:Int),Zk.l1 ae k v 8 ab ac aa ad=Zk.l1 ae k u 8 ab ac aa ad:=by
 intro k
 induction k with
 | zero=>intro ab ac aa ad;rfl
 | succ k ih=>
  intro ab ac aa ad;rw [Zk.l1,Zk.l1];have hih:Zk.l1 ae k v 8 ab ac aa=Zk.l1 ae k u 8 ab ac aa:=funext λad=>ih ab ac aa ad;rw [hih];by_cases c:i64.wrap (aa+ad)<8
  ·rw [if_pos c,if_pos c]
   by_cases c2:(0:Int)<=i64.wrap (aa+ad)/\i64.wrap (aa+ad)<((8:Nat):Int)
   ·rw [if_pos c2,if_pos c2,decide_eq_decide.2 (hz _ c2.1 c)]
   ·rw [if_neg c2,if_neg c2]
  ·rw [if_neg c,if_neg c]
theorem Vc {v u:Vector Int 8} (hz:∀ i:Int,0<=i->i<8->(vg v i=0↔vg u i=0)):∀ (k:Nat) (ab ac aa:Int),Zk.l2 k v 8 ab ac aa=Zk.l2 k u 8 ab ac aa:=by
 intro k
 induction k with
 | zero=>intro ab ac aa;rfl
 | succ k ih=>
  intro ab ac aa;rw [Zk.l2,Zk.l2];have hih:Zk.l2 k v 8=Zk.l2 k u 8:=funext λa=>funext λb=>funext λc=>ih a b c;rw [hih,Vb _ hz]
def zb (b:Bool):Int:=if b then 0 else 1
def Zci (b0 b1 b2 b3 b4 b5 b6 b7:Bool):Bool:=
 match Yh.f [zb b0,zb b1,zb b2,zb b3,zb b4,zb b5,zb b6,zb b7],Zk.f #v[zb b0,zb b1,zb b2,zb b3,zb b4,zb b5,zb b6,zb b7] 8 with
 | some r,some q=>decide (r=q)&&(decide (r=(-1,0))||decide (0<=r.1/\2<=r.2/\r.1+r.2<=8))
 | _,_=>false
theorem G3:∀ b0 b1 b2 b3 b4 b5 b6 b7:Bool,Zci b0 b1 b2 b3 b4 b5 b6 b7=true:=by decide +kernel
theorem Zbe (a:Int):zb (decide (a=0))=0↔a=0:=by
 by_cases h:a=0<;>simp [zb,h]
theorem Zc0 (a0 a1 a2 a3 a4 a5 a6 a7:Int):∃ r,Yh.f [a0,a1,a2,a3,a4,a5,a6,a7]=some r/\Zk.f #v[a0,a1,a2,a3,a4,a5,a6,a7] 8=some r/\(r=(-1,0)\/(0<=r.1/\2<=r.2/\r.1+r.2<=8)):=by
 have e1:Yh.f [a0,a1,a2,a3,a4,a5,a6,a7]=Yh.f [zb (decide (a0=0)),zb (decide (a1=0)),zb (decide (a2=0)),zb (decide (a3=0)),zb (decide (a4=0)),zb (decide (a5=0)),zb (decide (a6=0)),zb (decide (a7=0))]:=by
  unfold Yh.f;apply Vn
  ·rfl
  intro i h0 h1;have h2:i<8:=h1;have hi:i=0\/i=1\/i=2\/i=3\/i=4\/i=5\/i=6\/i=7:=by omega
  rcases hi with rfl | rfl | rfl | rfl | rfl | rfl | rfl | rfl<;>exact (Zbe _).symm
 have e2:Zk.f #v[a0,a1,a2,a3,a4,a5,a6,a7] 8=Zk.f #v[zb (decide (a0=0)),zb (decide (a1=0)),zb (decide (a2=0)),zb (decide (a3=0)),zb (decide (a4=0)),zb (decide (a5=0)),zb (decide (a6=0)),zb (decide (a7=0))] 8:=by
  unfold Zk.f;refine Vc (λi h0 h2=>?_) _ _ _ _;have hi:i=0\/i=1\/i=2\/i=3\/i=4\/i=5\/i=6\/i=7:=by omega
  rcases hi with rfl | rfl | rfl | rfl | rfl | rfl | rfl | rfl<;>exact (Zbe _).symm
 have hk:=G3 (decide (a0=0)) (decide (a1=0)) (decide (a2=0)) (decide (a3=0)) (decide (a4=0)) (decide (a5=0)) (decide (a6=0)) (decide (a7=0));rw [e1,e2];unfold Zci at hk;split at hk
 ·rename_i r q h1 h2
  simp only [Bool.and_eq_true,Bool.or_eq_true,decide_eq_true_eq] at hk;obtain ⟨rfl,h⟩:=hk;exact ⟨_,h1,h2,h⟩
 ·cases hk
end
section
open Go.IntKind (i8 i16 i32 i64 u8 u16 u32 u64)
open Go.RowKit
set_option maxRecDepth 100000
def Zda (at_ n:Int) (i:Nat) (out:List UInt8):Prop:=
 out.length<=70000*i+2/\((i=0/\out=[])\/(0<i/\∃ o c,out=o++[c]/\(c=58↔(0<=at_/\(i:Int)=at_+n))))
theorem Za5 (l:List Int) (hl:l.length=8) (at_ n:Int) (h0:0<=at_) (h1:at_+n<=8) (out:ByteArray):∀ (j k i:Nat),at_<i->(i:Int)+j=at_+n->Zs.l1 (k+j) l at_ n out (i:Int)=Zs.l1 k l at_ n out (at_+n):=by
 intro j
 induction j with
 | zero=>intro k i ha hi;rw [<- hi];simp
 | succ j ih=>
  intro k i ha hi;rw [<- Nat.add_assoc,Zs.l1,hl,if_pos (by omega),if_neg (by omega),w64 (x:=at_+n) (by omega) (by omega),if_pos h0,decide_eq_true ha,if_pos rfl,decide_eq_true (by omega),if_pos rfl,w64 (by omega) (by omega)];exact ih k (i+1) (by omega) (by omega)
theorem Zbs (o:List UInt8) (c:UInt8) (h:o.length<=1000000):bt (bA (o++[c])) (i64.wrap (((bA (o++[c])).size:Int)-1))=(c.toNat:Int):=by
 have hz:(bA (o++[c])).size=o.length+1:=by simp [bA,ByteArray.size]
 rw [hz,w64 (by omega) (by omega),show ((o.length+1:Nat):Int)-1=((o.length:Nat):Int) by omega,H2 _ _ (by omega)];simp [bA]
theorem Zb7 (l:List Int) (v:Vector Int 8) (hl:l.length=8) (hv:∀ i:Nat,i<8->∃ n:Nat,n<65536/\rd l (i:Int)=(n:Int)/\vg v (i:Int)=(n:Int)) (r:Int×Int) (hr:r=(-1,0)\/(0<=r.1/\2<=r.2/\r.1+r.2<=8)):
  ∀ (m i k1 k2:Nat) (out:List UInt8),i+m=8->m<k1->m<k2->¬ (0<=r.1/\r.1<(i:Int)/\(i:Int)<r.1+r.2)->Zda r.1 r.2 i out->
   ∃ t:List UInt8,Zs.l1 k1 l r.1 r.2 (bA out) (i:Int)=some (bA t)/\Zd.l1 k2 v 8 false r (bA out) (i:Int)=some (bA t)/\t.length<=600000:=by
 have hz:∀ l:List UInt8,(bA l).size=l.length:=λl=>by simp [bA,ByteArray.size]
 have hr1:-1<=r.1/\r.1<=8/\0<=r.2/\r.2<=8:=by
  rcases hr with rfl | h
  ·decide
  ·omega
 intro m
 induction m using Nat.strongRecOn with
 | ind m ih=>
  intro i k1 k2 out hi hk1 hk2 hin hw;obtain ⟨k1,rfl⟩:∃ k',k1=k'+1:=⟨k1-1,by omega⟩;obtain ⟨k2,rfl⟩:∃ k',k2=k'+1:=⟨k2-1,by omega⟩;obtain ⟨hlen,hw⟩:=hw;rw [Zs.l1,Zd.l1,hl];by_cases c8:i=8
  ·subst c8
   rw [if_neg (by decide),if_neg (by decide),if_neg Bool.false_ne_true,Zd.j5,if_neg Bool.false_ne_true,Zd.j4];exact ⟨out,rfl,rfl,by omega⟩
  rw [if_pos (show (i:Int)<((8:Nat):Int) by omega),if_pos (show (i:Int)<8 by omega)];by_cases ca:(i:Int)=r.1
  ·have h2:2<=r.2/\r.1+r.2<=8:=by
    rcases hr with e | h
    ·rw [e] at ca;simp at ca
    ·exact ⟨h.2.1,h.2.2⟩
   have hs2:(⟨#[58,58]⟩:ByteArray).size=2:=rfl;have hap:bA out++(⟨#[58,58]⟩:ByteArray)=bA (out++[58,58]):=Q2 out [58,58];have hwr:Hv=140737488355328:=rfl;rw [if_pos ca,if_pos (by rw [hz];omega),if_pos ca,if_pos (by rw [hz,hs2];omega),hap,Zd.j1,w64 (x:=(i:Int)+1) (by omega) (by omega),w64 (x:=r.2-1) (by omega) (by omega),w64 (x:=(i:Int)+(r.2-1)) (by omega) (by omega),w64 (by omega) (by omega)];obtain ⟨j,hj⟩:∃ j:Nat,(j:Int)=r.2-1:=⟨(r.2-1).toNat,by omega⟩;obtain ⟨k,rfl⟩:∃ k,k1=k+j:=⟨k1-j,by omega⟩;obtain ⟨q,hq⟩:∃ q:Nat,(q:Int)=r.1+r.2:=⟨(r.1+r.2).toNat,by omega⟩;have hsk:=Za5 l hl r.1 r.2 (by omega) h2.2 (bA (out++[58,58])) j k (i+1) (by omega) (by omega);rw [show ((i+1:Nat):Int)=(i:Int)+1 by omega] at hsk;rw [hsk,show (i:Int)+(r.2-1)+1=(q:Int) by omega,<- hq];exact ih (8-q) (by omega) q k k2 (out++[58,58]) (by omega) (by omega) (by omega) (by omega) ⟨by simp;omega,.inr ⟨by omega,out++[58],58,by simp,by simp;omega⟩⟩
  ·rw [if_neg ca,if_neg ca,w64 (x:=r.1+r.2) (by omega) (by omega)]
   have hcond:¬ ((if (if 0<=r.1 then decide (r.1<(i:Int)) else false)=true then decide ((i:Int)<r.1+r.2) else false)=true):=by
    by_cases a:0<=r.1
    ·rw [if_pos a]
     by_cases b:r.1<(i:Int)
     ·rw [decide_eq_true b,if_pos rfl,decide_eq_true_eq];omega
     ·rw [decide_eq_false b,if_neg Bool.false_ne_true];exact Bool.false_ne_true
    ·rw [if_neg a,if_neg Bool.false_ne_true];exact Bool.false_ne_true
   rw [if_neg hcond];obtain ⟨n,hn,hrd,hvg⟩:=hv i (by omega);obtain ⟨hx1,hx2⟩:=Zap n;obtain ⟨ho,hd,hlast,hne⟩:=Gx n;have hwr:Hv=140737488355328:=rfl;have hi1:i64.wrap ((i:Int)+1)=((i+1:Nat):Int):=by rw [w64 (by omega) (by omega)];omega
   have A:∀ o:List UInt8,o.length<=600000->Zs.j1 (Zs.l1 k1 l r.1 r.2) l (i:Int) (bA o)=Zs.l1 k1 l r.1 r.2 (bA (o++Q3 n)) ((i+1:Nat):Int):=by intro o h;rw [Zs.j1,hl,if_pos ⟨by omega,by omega⟩,hrd,Gg n hn,Option.bind_some,if_pos (by rw [hz,hz];omega),Q2,hi1]
   have B:∀ o:List UInt8,o.length<=600000->Zd.j2 (Zd.l1 k2 v 8 false r) v (i:Int) (bA o)=Zd.l1 k2 v 8 false r (bA (o++Q3 n)) ((i+1:Nat):Int):=by intro o h;rw [Zd.j2,if_pos ⟨by omega,by omega⟩,hvg,Ga n hn,Option.bind_some,if_pos (by rw [hz,hz];omega),Q2,Zd.j1,hi1]
   have next:∀ o:List UInt8,o.length<=70000*i+3->∃ t:List UInt8,Zs.l1 k1 l r.1 r.2 (bA (o++Q3 n)) ((i+1:Nat):Int)=some (bA t)/\Zd.l1 k2 v 8 false r (bA (o++Q3 n)) ((i+1:Nat):Int)=some (bA t)/\t.length<=600000:=by
    intro o h;refine ih (m-1) (by omega) (i+1) k1 k2 _ (by omega) (by omega) (by omega) (by omega) ⟨by simp;omega,.inr ⟨by omega,o++ho,hx hd,by rw [hlast,List.append_assoc],?_⟩⟩;constructor
    ·intro e;exact absurd e hne
    ·rintro ⟨a,b⟩
     exfalso
     rcases hr with e | h
     ·rw [e] at a;simp at a
     ·omega
   rcases hw with ⟨rfl,rfl⟩ | ⟨hpos,o,c,rfl,hc⟩
   ·rw [if_neg (by decide),Zs.j2,if_neg Bool.false_ne_true,A _ (by simp),if_neg (show ¬ (bA []≠(⟨#[]⟩:ByteArray)) from λh=>h rfl),Zd.j3,if_neg Bool.false_ne_true,B _ (by simp)]
    exact next [] (by simp)
   ·have hlen2:o.length+1<=70000*i+2:=by simpa using hlen
    have hol:o.length<=570000:=by omega
    have hnb:bA (o++[c])≠(⟨#[]⟩:ByteArray):=λh=>by
     have:=congrArg ByteArray.size h;rw [hz] at this;simp at this;have h0:(⟨#[]⟩:ByteArray).size=0:=rfl;omega
    rw [if_pos (by omega),if_pos hnb,if_pos (by rw [hz];simp;rw [w64 (by omega) (by omega)];omega),Zbs o c (by omega)];have hdot:bA (o++[c])++(⟨#[58]⟩:ByteArray)=bA (o++[c]++[58]):=Q2 _ [58];have hs1:(⟨#[58]⟩:ByteArray).size=1:=rfl;by_cases e:c=58
    ·have:=hc.1 e
     rw [decide_eq_false (by omega),Zs.j2,if_neg Bool.false_ne_true,A _ (by simp;omega),decide_eq_false (by rw [e];decide),Zd.j3,if_neg Bool.false_ne_true,B _ (by simp;omega)];exact next _ (by simp;omega)
    ·have hne2:(i:Int)≠r.1+r.2:=by
      intro h
      rcases hr with e2 | h2
      ·rw [e2] at h;exact absurd h (by show (i:Int)≠-1+0;omega)
      ·exact e (hc.2 ⟨h2.1,h⟩)
     rw [decide_eq_true hne2,Zs.j2,if_pos rfl,if_pos (by rw [hz];simp;omega),hdot,A _ (by simp;omega),decide_eq_true (by intro h;exact e (UInt8.toNat_inj.1 (by show _=58;omega))),Zd.j3,if_pos rfl,if_pos (by rw [hz,hs1];simp;omega),hdot,B _ (by simp;omega)];exact next _ (by simp;omega)
theorem Zc1 (a0 a1 a2 a3 a4 a5 a6 a7:Int) (h:∀ a∈[a0,a1,a2,a3,a4,a5,a6,a7],0<=a/\a<65536):∃ t,X7.f #v[a0,a1,a2,a3,a4,a5,a6,a7]=some t/\Xm.f #v[a0,a1,a2,a3,a4,a5,a6,a7]=some t/\t.size<=600000:=by
 obtain ⟨r,e1,e2,hr⟩:=Zc0 a0 a1 a2 a3 a4 a5 a6 a7;obtain ⟨t,t1,t2,t3⟩:=Zb7 [a0,a1,a2,a3,a4,a5,a6,a7] #v[a0,a1,a2,a3,a4,a5,a6,a7] rfl (λi hi=>by
  have hi:i=0\/i=1\/i=2\/i=3\/i=4\/i=5\/i=6\/i=7:=by omega
  have key:∀ a:Int,a∈[a0,a1,a2,a3,a4,a5,a6,a7]->∃ n:Nat,n<65536/\a=(n:Int)/\a=(n:Int):=λa ha=>⟨a.toNat,by have:=h a ha;omega,by have:=h a ha;omega,by have:=h a ha;omega⟩
  rcases hi with rfl | rfl | rfl | rfl | rfl | rfl | rfl | rfl
  ·exact key a0 (by simp)
  ·exact key a1 (by simp)
  ·exact key a2 (by simp)
  ·exact key a3 (by simp)
  ·exact key a4 (by simp)
  ·exact key a5 (by simp)
  ·exact key a6 (by simp)
  ·exact key a7 (by simp)) r hr 8 0 K0 K0 [] rfl (by decide) (by decide) (by omega) ⟨by simp,.inl ⟨rfl,rfl⟩⟩
 refine ⟨bA t,?_,?_,by simpa [bA,ByteArray.size] using t3⟩
 ·rw [X7.f,show (#v[a0,a1,a2,a3,a4,a5,a6,a7]:Vector Int 8).toList=[a0,a1,a2,a3,a4,a5,a6,a7] from rfl,Zs.f,e1,Option.bind_some,show (⟨#[]⟩:ByteArray)=bA [] from rfl]
  exact (congrArg (λo=>Option.bind o λad=>some ad) t1).trans rfl
 ·rw [Xm.f,Zd.f,e2,Option.bind_some,show (⟨#[]⟩:ByteArray)=bA [] from rfl]
  exact (congrArg (λo=>Option.bind o λad=>some ad) t2).trans rfl
end
section
open Go.RowKit
set_option maxRecDepth 100000
def Six.ok (x:S10):Prop:=(0<=x.four/\x.four<4294967296)/\∀ a∈x.six,0<=a/\a<65536
theorem G7 (x:S10) (hx:Six.ok x) {b:Bool} (hb:Z6.f x=some b):(b=false->Xo.f x=some ((⟨#[]⟩:ByteArray),230))/\(b=true->∃ t,Xo.f x=some (t,0)/\Y3.f x=some t):=by
 rw [Xo.f,hb,Option.bind_some];refine ⟨λe=>by rw [e];rfl,λe=>?_⟩;subst e;rw [if_neg (by decide)];by_cases k2:x.kind=2
 ·obtain ⟨t,t1,t2,t3⟩:=Zbu x.four hx.1.1 hx.1.2
  exact ⟨t,by rw [if_pos k2,t1];rfl,by rw [Y3.f,if_pos k2,t2];rfl⟩
 by_cases k3:x.kind=3
 ·obtain ⟨t,t1,t2,t3⟩:=Zc1 x.six0 x.six1 x.six2 x.six3 x.six4 x.six5 x.six6 x.six7 hx.2
  have s1:(⟨#[91]⟩:ByteArray).size+t.size<=9223372036854775807:=by show 1+t.size<=_;omega
  have s2:((⟨#[91]⟩:ByteArray)++t).size+(⟨#[93]⟩:ByteArray).size<=9223372036854775807:=by rw [ByteArray.size_append];show 1+t.size+1<=_;omega
  exact ⟨(⟨#[91]⟩:ByteArray)++t++(⟨#[93]⟩:ByteArray),by rw [if_neg k2,if_pos k3,t1,Option.bind_some,if_pos s1,if_pos s2],by rw [Y3.f,if_neg k2,if_pos k3,t2,Option.bind_some,if_pos s1,if_pos s2]⟩
 ·exact ⟨x.text,by rw [if_neg k2,if_neg k3],by rw [Y3.f,if_neg k2,if_neg k3]⟩
theorem Hn (l:List ByteArray) (hl:l.length<=1048577):∀ (m k i:Nat),m<k->i+m=l.length->Zb.l1 k (l,0) l (i:Int)=some true:=by
 intro m
 induction m with
 | zero=>
  intro k i hk hi;obtain ⟨k,rfl⟩:∃ k',k=k'+1:=⟨k-1,by omega⟩;rw [Zb.l1,if_neg (by show ¬ (i:Int)<(l.length:Int);omega)]
 | succ m ih=>
  intro k i hk hi;obtain ⟨k,rfl⟩:∃ k',k=k'+1:=⟨k-1,by omega⟩;rw [Zb.l1,if_pos (by show (i:Int)<(l.length:Int);omega),if_pos (by show (0:Int)<=i/\(i:Int)<(l.length:Int);omega),if_pos ⟨by omega,by omega⟩,if_neg (λh=>h rfl),w64 (by omega) (by omega)];exact ih k (i+1) (by omega) (by omega)
theorem Gh (x y:S10) (hx:Six.ok x) (tx:x.text.size<=1048576) (ty:y.text.size<=1048576):Zb.f x y=some true:=by
 obtain ⟨bx,b2,r1,h1,r2,he,hne⟩:=Zaj x y;obtain ⟨u,u1,u2⟩:=Zbb x y tx ty;obtain ⟨T0,T1⟩:=G7 x hx h1;have g:∀ z:S10,Z0.f z=some z:=λz=>rfl;have ez:∀ z:S10,(⟨z.kind,z.text,z.four,z.six0,z.six1,z.six2,z.six3,z.six4,z.six5,z.six6,z.six7⟩:S10)=z:=λz=>rfl;rw [Zb.f,g,Option.bind_some,g,Option.bind_some,Zb.t1,ez,ez,r1,Option.bind_some,r2,Option.bind_some];have hlab:∃ a3,Yn.f x=some a3/\Zb.j4 x.kind x.text bx a3 false=some true:=by
  rw [Yn.f,h1,Option.bind_some]
  cases bx with
  | false=>exact ⟨([],230),rfl,rfl⟩
  | true=>
   rw [if_neg (by decide)];by_cases k:x.kind=1
   ·obtain ⟨l,l1,l2,l3⟩:=Gy x.text tx
    refine ⟨(l,0),by rw [decide_eq_false (λh=>h k),Yn.j1,if_neg Bool.false_ne_true,l1];rfl,?_⟩;rw [Zb.j4,if_neg Bool.false_ne_true,if_neg (by decide),decide_eq_false (λh=>h k),Zb.j3,if_neg Bool.false_ne_true,l2,Option.bind_some,if_neg (λh=>h rfl),decide_eq_false (λh=>h rfl),Zb.j2,if_neg Bool.false_ne_true];exact Hn l l3 l.length K0 0 (by unfold K0;omega) (by omega)
   ·refine ⟨([],230),by rw [decide_eq_true k];rfl,?_⟩
    rw [Zb.j4,if_neg Bool.false_ne_true,if_neg (by decide),decide_eq_true k];rfl
 obtain ⟨a3,l1,l2⟩:=hlab;have htext:∃ bu,Xo.f x=some bu/\Zb.j5 x.kind x.text x.four x.six0 x.six1 x.six2 x.six3 x.six4 x.six5 x.six6 x.six7 bx bu a3 false=some true:=by
  cases bx with
  | false=>
   refine ⟨_,T0 rfl,?_⟩;rw [Zb.j5,if_neg Bool.false_ne_true,if_pos (by decide),if_neg (λh=>h rfl),if_neg (λh=>h rfl),if_neg Bool.false_ne_true];exact l2
  | true=>
   obtain ⟨t,t1,t2⟩:=T1 rfl;refine ⟨_,t1,?_⟩;rw [Zb.j5,if_neg Bool.false_ne_true,if_neg (by decide),if_pos rfl,ez,t2,Option.bind_some,if_neg (λh=>h rfl),decide_eq_false (λh=>h rfl)];exact l2
 obtain ⟨bu,t1,t2⟩:=htext;rw [t1,Option.bind_some,l1,Option.bind_some,H0,Option.bind_some,if_neg (by decide),h1,Option.bind_some,if_neg (by simp),he,Option.bind_some,u1,u2,Option.bind_some,Option.bind_some];have hu:(u != u)=false:=by simp
 rw [hu,t2]
 cases bx with
 | false=>rfl
 | true=>
  rw [if_pos rfl]
  cases b2 with
  | true=>rw [if_pos rfl,if_neg (by simp)]
  | false=>rw [if_neg Bool.false_ne_true,hne rfl rfl];rfl
end
end Go.Proofs.YtkjnmjhkekknnaaGreatDoor
