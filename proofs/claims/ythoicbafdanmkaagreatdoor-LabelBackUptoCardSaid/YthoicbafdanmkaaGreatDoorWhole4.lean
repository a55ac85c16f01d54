/- Texts of this repo, merged for the claim: TA0, TA1, TA2, TA3, TS0, TW0, TK0. -/
import Derived.Test.YthoicbafdanmkaaGreatDoorWhole0
import Derived.Test.YthoicbafdanmkaaGreatDoorWhole1
import Derived.Test.YthoicbafdanmkaaGreatDoorWhole3
import Derived.Test.YthoicbafdanmkaaGreatDoorWhole2
/- Written by this repo's gen.py: for each Go function a Lean function with the same answers and the walk that shows it. -/
namespace Go.Proofs.YthoicbafdanmkaaGreatDoor
open Go.IntKind (i8 i16 i32 i64 u8 u16 u32 u64)
open Go.RowKit
set_option maxRecDepth 100000
set_option maxHeartbeats 4000000
variable {w0 w:World} {ρ:Hp} {Γ:List Kd}
set_option linter.unusedVariables false
def Ku.j1 (aa:Bool):Option Bool:=some aa
def Ku.f (x0:Int):Option Bool:=if 0≤x0 then (if x0<55296 then (Ku.j1 true) else (if 57343<x0 then (Ku.j1 (decide (x0≤1114111))) else (Ku.j1 false))) else (if 57343<x0 then (Ku.j1 (decide (x0≤1114111))) else (Ku.j1 false))
theorem Ku.c (hs:St w0 ρ (Γ) w) {x0:Int} {r:Bool} (H:Ku.f x0=some r):Zq Tryz.prog 82 [.int .i32 x0] w (fun v w'=>v=.bool r∧St w0 ρ Γ w'):=by
 rw [Ku.f] at H
 refine Et Tryz.func82 Tryz.ntmps82 rfl<|Wr fun ak ah=>As rfl<|Ox ah<|Yt fun ai aj ab=>?_
 have ac:∀ (aa:Bool) (w:World),Ku.j1 aa=some r→St w0 ρ (Γ) w→ai [(2,.bool aa)] w:=by
  intro aa w H hs
  rw [Ku.j1] at H
  refine aj _ _<|Zm ?_
  obtain rfl:=Z4 H
  exact r1 rfl ⟨rfl,hs⟩
 refine Zc<|Mv rfl<|Oge rfl<|Mv rfl<|X4 (dj:=5) rfl (fun ad=>?_) (fun ad=>?_)
 rw [if_pos ad] at H
 refine Oe rfl<|Mv rfl<|Oe rfl<|Ols rfl<|Opk rfl<|Mv rfl<|X4 (dj:=9) rfl (fun ae=>?_) (fun ae=>?_)
 rw [if_pos ae] at H
 refine On rfl<|On rfl<|On rfl<|Qx rfl rfl rfl<|Qx rfl rfl rfl<|On rfl<|Opk rfl<|As rfl<|Zd (ab _ _ _ (S1 rfl) (ac true _ H hs))
 rw [if_neg ae] at H
 refine Oe rfl<|Mv rfl<|Oe rfl<|Ogt rfl<|Oe rfl<|Mv rfl<|X4 (dj:=12) rfl (fun af=>?_) (fun af=>?_)
 rw [if_pos af] at H
 refine Oe rfl<|Mv rfl<|Oe rfl<|Ole rfl<|Oe rfl<|Opk rfl<|Opk rfl<|As rfl<|Zd (ab _ _ _ (S1 rfl) (ac (decide (x0≤1114111)) _ H hs))
 rw [if_neg af] at H
 refine On rfl<|On rfl<|Oe rfl<|Opk rfl<|Opk rfl<|As rfl<|Zd (ab _ _ _ (S1 rfl) (ac false _ H hs))
 rw [if_neg ad] at H
 refine On rfl<|On rfl<|Opk rfl<|Mv rfl<|Oe rfl<|Mv rfl<|Oe rfl<|Ogt rfl<|Oe rfl<|Mv rfl<|X4 (dj:=12) rfl (fun ag=>?_) (fun ag=>?_)
 rw [if_pos ag] at H
 refine Oe rfl<|Mv rfl<|Oe rfl<|Ole rfl<|Oe rfl<|Opk rfl<|Opk rfl<|As rfl<|Zd (ab _ _ _ (S1 rfl) (ac (decide (x0≤1114111)) _ H hs))
 rw [if_neg ag] at H
 refine On rfl<|On rfl<|Oe rfl<|Opk rfl<|Opk rfl<|As rfl<|Zd (ab _ _ _ (S1 rfl) (ac false _ H hs))

def Yc.j1 (am:Bool→Int→Option (List Bool)) (ac:Int) (ah:Bool):Option (List Bool):=am ah (i64.wrap (ac+1))
def Yc.l1 (aj:List Bool→Int→Option (List Bool)):Nat→List Chs→List Bool→Int→Bool→Int→Option (List Bool)
  | 0,_,_,_,_,_=>none
  | ag+1,x0,ab,aa,ae,ac=>if ac<(((rd x0 aa).is_).length:Int) then (if (0:Int)≤ac∧ac<(((rd x0 aa).is_).length:Int) then (if ae=true then (Yc.j1 (Yc.l1 aj ag x0 ab aa) ac true) else ((Ku.f (rd ((rd x0 aa).is_) ac)).bind fun ao=>(Yc.j1 (Yc.l1 aj ag x0 ab aa) ac (!ao)))) else none) else (if ab.length+([ae]).length≤most then (aj (ab++([ae])) (i64.wrap (aa+1))) else none)
def Yc.j2 (aj:List Bool→Int→Option (List Bool)) (x0:List Chs) (ab:List Bool) (aa:Int) (ak:Bool):Option (List Bool):=Yc.l1 aj K0 x0 ab aa ak 0
def Yc.l2:Nat→List Chs→Int→List Bool→Int→Option (List Bool)
  | 0,_,_,_,_=>none
  | ai+1,x0,x1,ab,aa=>if aa<(x0.length:Int) then (if (0:Int)≤aa∧aa<(x0.length:Int) then (if (((rd x0 aa).is_).length:Int)<1 then (Yc.j2 (Yc.l2 ai x0 x1) x0 ab aa true) else (Yc.j2 (Yc.l2 ai x0 x1) x0 ab aa (decide (x1<(((rd x0 aa).is_).length:Int))))) else none) else (some ab)
def Yc.f (x0:List Chs) (x1:Int):Option (List Bool):=Yc.l2 K0 x0 x1 ([]:List Bool) 0
theorem Yc.c (hs:St w0 ρ (Γ) w) {v0:Value} {x0:List Chs} (h0:SlR Kz ρ v0 x0) {x1:Int} {r:List Bool} (H:Yc.f x0 x1=some r):Zq Tryz.prog 50 [v0,.int .i64 x1] w (fun v w'=>∃ (ρ':Hp) (v0:Value) (cs0:List Value),v=v0∧Le ρ ρ'∧St w0 ρ' (.row v0 4 Rep.bool.sz r.length cs0::Γ) w'∧Zp Rep.bool ρ' cs0 r):=by
 rw [Yc.f] at H
 refine Et Tryz.func50 Tryz.ntmps50 rfl<|Wr fun cg bj=>As rfl<|Ox bj<|Wr fun ch bk=>K6 (xs:=[]) (cs:=[]) Hk hs rfl rfl rfl (by decide) (by decide) rfl Ki X6 (fun bl w hs=>?_)
 have bm:Zp Rep.bool ρ ([]) ([]:List Bool):=Zp.nil _ _
 refine As rfl<|Ox bk<|Zi fun ci bn=>Wr fun cj bo=>Mv rfl<|O_y rfl (Yx Znh h0 rfl)<|Mv rfl<|Ox bo<|Zl fun ck bp cl=>Xb (σ:=Nat×List Bool×Int×Value×List Value) (fun (ai,ab,aa,ad,af)=>[(1,.int .i64 x1),(5,ad),(12,v0),(13,.int .i64 (x0.length:Int)),(14,.int .i64 aa)]) (fun (ai,ab,aa,ad,af) w=>Yc.l2 ai x0 x1 ab aa=some r∧St w0 ρ ((.row ad 4 Rep.bool.sz ab.length af)::Γ) w∧Zp Rep.bool ρ af ab) (fun s=>s.1) (K0,([]:List Bool),0,(.slice (some ⟨bl,0,none⟩) 0 0),([])) sbn (Ai H (Ai hs bm)) ?_
 rintro ⟨ai,ab,aa,ad,af⟩ w cm ⟨H,hs,al⟩ ap
 show W _ _ _ _ _ _ [(1,.int .i64 x1),(5,ad),(12,v0),(13,.int .i64 (x0.length:Int)),(14,.int .i64 aa)] w
 cases ai with
 | zero=>rw [Yc.l2] at H;cases H
 | succ ai=>
 rw [Yc.l2] at H
 refine Wr fun cn bq=>Ols rfl<|Ox bq<|Zi fun co br=>Xa rfl (fun a4=>?_) (fun a4=>?_)
 rw [if_pos a4] at H
 refine Wx br<|Zi fun cp bs=>Zl fun cq cr ct=>Zi fun cu bt=>Zc ?_
 obtain ⟨bg,H⟩:=gd H
 obtain ⟨cv,cw,bu,bv⟩:=h0.ix Zi5 bg.1 bg.2
 obtain ⟨_,⟨av,rfl,aw⟩,bw⟩:=bu
 refine O_y rfl (bv rfl rfl)<|O_y rfl (Q0 Znc Zfn rfl rfl (fun j u hu=>hs.see (bw j u hu)))<|Y6 Zo4 hs rfl (fun a3 w hs=>Ye (i:=0) Zfn hs rfl rfl rfl rfl rfl (Zb rfl (Zb rfl (Zb aw.one Ym))) (fun w hs=>Ox bt<|Yt fun bx bz bh=>?_))
 have bi:∀ (ak:Bool) (w:World),Yc.j2 (Yc.l2 ai x0 x1) x0 ab aa ak=some r→St w0 ρ ((.box a3 87 ([.int .i32 ((rd x0 aa).lo),.int .i32 ((rd x0 aa).hi),av]))::(.row ad 4 Rep.bool.sz ab.length af)::Γ) w→bx [(1,.int .i64 x1),(5,ad),(7,.pointer (some ⟨a3,0,none⟩)),(8,.bool ak),(12,v0),(13,.int .i64 (x0.length:Int)),(14,.int .i64 aa)] w:=by
  intro ak w H hs
  rw [Yc.j2] at H
  refine bz _ _<|Zi fun cx b0=>Wr fun cy b1=>Ofd Zct rfl<|Obx 0 Za1 hs rfl<|O_y rfl (Yx Ua aw rfl)<|Mv rfl<|Ox b1<|Zl fun cz b2 b3=>Xb (σ:=Nat×Bool×Int) (fun (ag,ae,ac)=>[(1,.int .i64 x1),(5,ad),(8,.bool ae),(12,v0),(13,.int .i64 (x0.length:Int)),(14,.int .i64 aa),(30,av),(31,.int .i64 (((rd x0 aa).is_).length:Int)),(32,.int .i64 ac)]) (fun (ag,ae,ac) w=>Yc.l1 (Yc.l2 ai x0 x1) ag x0 ab aa ae ac=some r∧St w0 ρ ((.box a3 87 ([.int .i32 ((rd x0 aa).lo),.int .i32 ((rd x0 aa).hi),av]))::(.row ad 4 Rep.bool.sz ab.length af)::Γ) w) (fun s=>s.1) (K0,ak,0) sbn (Ai H hs) ?_
  rintro ⟨ag,ae,ac⟩ w b4 ⟨H,hs⟩ an
  show W _ _ _ _ _ _ [(1,.int .i64 x1),(5,ad),(8,.bool ae),(12,v0),(13,.int .i64 (x0.length:Int)),(14,.int .i64 aa),(30,av),(31,.int .i64 (((rd x0 aa).is_).length:Int)),(32,.int .i64 ac)] w
  cases ag with
  | zero=>rw [Yc.l1] at H;cases H
  | succ ag=>
  rw [Yc.l1] at H
  refine Wr fun b5 a5=>Ols rfl<|Ox a5<|Zi fun b6 a6=>Xa rfl (fun aq=>?_) (fun aq=>?_)
  rw [if_pos aq] at H
  refine Wx a6<|Yt fun a7 a8 ax=>?_
  have ay:∀ (ah:Bool) (w:World),Yc.j1 (Yc.l1 (Yc.l2 ai x0 x1) ag x0 ab aa) ac ah=some r→St w0 ρ ((.box a3 87 ([.int .i32 ((rd x0 aa).lo),.int .i32 ((rd x0 aa).hi),av]))::(.row ad 4 Rep.bool.sz ab.length af)::Γ) w→a7 [(1,.int .i64 x1),(5,ad),(8,.bool ah),(12,v0),(13,.int .i64 (x0.length:Int)),(14,.int .i64 aa),(30,av),(31,.int .i64 (((rd x0 aa).is_).length:Int)),(32,.int .i64 ac)] w:=by
   intro ah w H hs
   rw [Yc.j1] at H
   refine a8 _ _<|Zc<|Oad rfl<|Mv rfl<|Zd (an (ag,ah,(i64.wrap (ac+1))) _ _ sbn (Ai H hs) (Nat.lt_succ_self _))
  refine Zl fun b7 b8 b9=>Zi fun ca a9=>Zc ?_
  obtain ⟨az,H⟩:=gd H
  obtain ⟨cb,cc,ba,bb⟩:=aw.ix Kk az.1 az.2
  refine O_y rfl (bb rfl rfl)<|O_y rfl (Xq Xn rfl (hs.see ba.int))<|As rfl<|Ox a9<|Zc<|Mv rfl<|Mv rfl<|V9 (dj:=37) rfl (fun ar=>?_) (fun ar=>?_)
  rw [if_pos ar] at H
  refine On rfl<|On rfl<|On rfl<|Opk rfl<|As rfl<|Zd (ax _ _ _ sbn (ay true _ H hs))
  rw [if_neg (bft ar)] at H
  refine Oe rfl<|Mv rfl<|Oe rfl ?_
  obtain ⟨ao,a0,H⟩:=bnd H
  refine Oc rfl (Ku.c hs a0) (fun cd w hpost=>?_)
  obtain ⟨rfl,hs⟩:=hpost
  refine Oe rfl<|Ont rfl<|Opk rfl<|As rfl<|Zd (ax _ _ _ sbn (ay (!ao) _ H hs))
  rw [if_neg aq] at H
  refine Y5 (b2 _ _ (b0 _ _<|Zc<|Mv rfl<|Mv rfl<|K6 (xs:=[.tmp 44]) (cs:=[.bool ae]) Hk hs rfl rfl rfl (by decide) (by decide) rfl (Yd rfl Ki) (Zx rfl X6) (fun ce w hs=>?_)))
  have a1:Zp Rep.bool ρ ([.bool ae]) [ae]:=Zp.cons (c:=[.bool ae]) (x:=ae) rfl (Zp.nil _ _)
  obtain ⟨bc,H⟩:=gd H
  refine Q3 (i:=2) Hk hs rfl al rfl rfl rfl (Src.lit (j:=0) hs rfl a1) a1 bc (fun bd a2 w be hs=>As rfl<|Ox bs<|Zc<|Oad rfl<|Mv rfl<|Zd (ap (ai,(ab++([ae])),(i64.wrap (aa+1)),bd,a2) _ _ sbn (Ai H (Ai (hs.sub (ssk (ssk (ssc ssr)))) be)) (Nat.lt_succ_self _)))
 refine Zc<|Ofd Zct rfl<|Obx 0 Za1 hs rfl<|O_y rfl (Yx Ua aw rfl)<|Ols rfl<|Mv rfl<|X4 (dj:=22) rfl (fun au=>?_) (fun au=>?_)
 rw [if_pos au] at H
 refine On rfl<|On rfl<|On rfl<|On rfl<|On rfl<|Opk rfl<|As rfl<|Zd (bh _ _ _ sbn (bi true _ H hs))
 rw [if_neg au] at H
 refine Oe rfl<|Ofd Zct rfl<|Oe rfl<|Obx 0 Za1 hs rfl<|Oe rfl<|O_y rfl (Yx Ua aw rfl)<|Oe rfl<|Mv rfl<|Oe rfl<|Ogt rfl<|Opk rfl<|As rfl<|Zd (bh _ _ _ sbn (bi (decide (x1<(((rd x0 aa).is_).length:Int))) _ H hs))
 rw [if_neg a4] at H
 refine Y5 (bp _ _ (bn _ _<|Wr fun cf bf=>Mv rfl<|As rfl<|Ox bf<|Zm ?_))
 obtain rfl:=Z4 H
 exact r1 rfl ⟨_,_,_,rfl,Le.rfl' _,hs,al⟩

def Kc.j1 (ad:Int→Option Bool) (aa:Int) (ab:Bool):Option Bool:=if ab=true then (some true) else (ad (i64.wrap (aa+1)))
def Kc.l1:Nat→Chs→List Val→Int→Option Bool
  | 0,_,_,_=>none
  | ac+1,x0,x1,aa=>if aa<(x1.length:Int) then (if (0:Int)≤aa∧aa<(x1.length:Int) then (if ((rd x1 aa).lo)≤x0.hi then (Kc.j1 (Kc.l1 ac x0 x1) aa (decide (x0.lo≤((rd x1 aa).hi)))) else (Kc.j1 (Kc.l1 ac x0 x1) aa false)) else none) else (some false)
def Kc.f (x0:Chs) (x1:List Val):Option Bool:=Kc.l1 K0 x0 x1 0
theorem Kc.c (hs:St w0 ρ (Γ) w) {c0:List Value} {x0:Chs} (h0:Kz.R ρ c0 x0) {v1:Value} {x1:List Val} (h1:SlR Qb ρ v1 x1) {r:Bool} (H:Kc.f x0 x1=some r):Zq Tryz.prog 51 [.agg c0.toArray,v1] w (fun v w'=>v=.bool r∧St w0 ρ Γ w'):=by
 rw [Kc.f] at H
 refine Et Tryz.func51 Tryz.ntmps51 rfl ?_
 have an:=h0
 obtain ⟨ag,rfl,a6⟩:=an
 refine Wr fun a7 ao=>Vn (cs:=[.int .i32 x0.lo,.int .i32 x0.hi,ag]) hs rfl rfl (fun af w hs=>As rfl<|Ox ao<|Zi fun a8 ap=>Wr fun a9 aq=>Mv rfl<|O_y rfl (Yx Zwm h1 rfl)<|Mv rfl<|Ox aq<|Zl fun ba ar bb=>Xb (σ:=Nat×Int) (fun (ac,aa)=>[(2,.pointer (some ⟨af,0,none⟩)),(7,v1),(8,.int .i64 (x1.length:Int)),(9,.int .i64 aa)]) (fun (ac,aa) w=>Kc.l1 ac x0 x1 aa=some r∧St w0 ρ ((.box af 87 ([.int .i32 x0.lo,.int .i32 x0.hi,ag]))::Γ) w) (fun s=>s.1) (K0,0) (T4 rfl) (Ai H hs) ?_)
 rintro ⟨ac,aa⟩ w bc ⟨H,hs⟩ ae
 show W _ _ _ _ _ _ [(2,.pointer (some ⟨af,0,none⟩)),(7,v1),(8,.int .i64 (x1.length:Int)),(9,.int .i64 aa)] w
 cases ac with
 | zero=>rw [Kc.l1] at H;cases H
 | succ ac=>
 rw [Kc.l1] at H
 refine Wr fun bd au=>Ols rfl<|Ox au<|Zi fun be av=>Xa rfl (fun ah=>?_) (fun ah=>?_)
 rw [if_pos ah] at H
 refine Wx av<|Zi fun bf aw=>Zl fun bg bh bi=>Zi fun bj ax=>Zc ?_
 obtain ⟨ak,H⟩:=gd H
 obtain ⟨bk,bl,ay,az⟩:=h1.ix Zsz ak.1 ak.2
 obtain ⟨_,rfl,a0⟩:=ay
 refine O_y rfl (az rfl rfl)<|O_y rfl (Q0 Zqs Zl3 rfl rfl (fun j u hu=>hs.see (a0 j u hu)))<|Y6 Zqz hs rfl (fun a1 w hs=>Ye (i:=0) Zl3 hs rfl rfl rfl rfl rfl (Zb rfl (Zb rfl (Zb rfl Ym))) (fun w hs=>Ox ax<|Yt fun a2 a3 al=>?_))
 have am:∀ (ab:Bool) (w:World),Kc.j1 (Kc.l1 ac x0 x1) aa ab=some r→St w0 ρ ((.box a1 128 ([.int .i32 ((rd x1 aa).lo),.int .i32 ((rd x1 aa).hi),.int .i64 ((rd x1 aa).n)]))::(.box af 87 ([.int .i32 x0.lo,.int .i32 x0.hi,ag]))::Γ) w→a2 [(2,.pointer (some ⟨af,0,none⟩)),(7,v1),(8,.int .i64 (x1.length:Int)),(9,.int .i64 aa),(24,.bool ab)] w:=by
  intro ab w H hs
  rw [Kc.j1] at H
  refine a3 _ _<|Xh rfl (fun ai=>?_) (fun ai=>?_)
  rw [if_pos ai] at H
  refine Wr fun bm a4=>As rfl<|Ox a4<|Zm ?_
  obtain rfl:=Z4 H
  exact r1 rfl ⟨rfl,(hs.sub (ssk (ssk ssr)))⟩
  rw [if_neg (bft ai)] at H
  refine Wx aw<|Zc<|Oad rfl<|Mv rfl<|Zd (ae (ac,(i64.wrap (aa+1))) _ _ (T4 rfl) (Ai H (hs.sub (ssk (ssc ssr)))) (Nat.lt_succ_self _))
 refine Zc<|Ofd Znd rfl<|Obx 0 Xn hs rfl<|Ofd Znv rfl<|Obx 1 Xn hs rfl<|Ole rfl<|Mv rfl<|X4 (dj:=18) rfl (fun aj=>?_) (fun aj=>?_)
 rw [if_pos aj] at H
 refine Oe rfl<|Ofd Zm2 rfl<|Oe rfl<|Obx 0 Xn hs rfl<|Oe rfl<|Ofd Zf6 rfl<|Oe rfl<|Obx 1 Xn hs rfl<|Oe rfl<|Oge rfl<|Opk rfl<|Zd (al _ _ _ sbn (am (decide (x0.lo≤((rd x1 aa).hi))) _ H hs))
 rw [if_neg aj] at H
 refine On rfl<|On rfl<|On rfl<|On rfl<|On rfl<|Opk rfl<|Zd (al _ _ _ sbn (am false _ H hs))
 rw [if_neg ah] at H
 refine Y5 (ar _ _ (ap _ _<|Wr fun bn a5=>As rfl<|Ox a5<|Zm ?_))
 obtain rfl:=Z4 H
 exact r1 rfl ⟨rfl,(hs.sub (ssk ssr))⟩

def Yv.j1 (ac:Bool):Option Bool:=some ac
def Yv.f (x0 x1:Int):Option Bool:=if x0≤4370 then (if 4352≤x1 then (Yv.j1 true) else (if x0≤4469 then (if 4449≤x1 then (Yv.j1 true) else (if x0≤4546 then (if 4520≤x1 then (Yv.j1 true) else (if x0≤55203 then (Yv.j1 (decide (44032≤x1))) else (Yv.j1 false))) else (if x0≤55203 then (Yv.j1 (decide (44032≤x1))) else (Yv.j1 false)))) else (if x0≤4546 then (if 4520≤x1 then (Yv.j1 true) else (if x0≤55203 then (Yv.j1 (decide (44032≤x1))) else (Yv.j1 false))) else (if x0≤55203 then (Yv.j1 (decide (44032≤x1))) else (Yv.j1 false))))) else (if x0≤4469 then (if 4449≤x1 then (Yv.j1 true) else (if x0≤4546 then (if 4520≤x1 then (Yv.j1 true) else (if x0≤55203 then (Yv.j1 (decide (44032≤x1))) else (Yv.j1 false))) else (if x0≤55203 then (Yv.j1 (decide (44032≤x1))) else (Yv.j1 false)))) else (if x0≤4546 then (if 4520≤x1 then (Yv.j1 true) else (if x0≤55203 then (Yv.j1 (decide (44032≤x1))) else (Yv.j1 false))) else (if x0≤55203 then (Yv.j1 (decide (44032≤x1))) else (Yv.j1 false))))
theorem Yv.c (hs:St w0 ρ (Γ) w) {x0 x1:Int} {r:Bool} (H:Yv.f x0 x1=some r):Zq Tryz.prog 52 [.int .i32 x0,.int .i32 x1] w (fun v w'=>v=.bool r∧St w0 ρ Γ w'):=by
 rw [Yv.f] at H
 refine Et Tryz.func52 Tryz.ntmps52 rfl<|Wr fun a4 a1=>As rfl<|Ox a1<|Yt fun a2 a3 aa=>?_
 have ab:∀ (ac:Bool) (w:World),Yv.j1 ac=some r→St w0 ρ (Γ) w→a2 [(4,.bool ac)] w:=by
  intro ac w H hs
  rw [Yv.j1] at H
  refine a3 _ _<|Zm ?_
  obtain rfl:=Z4 H
  exact r1 rfl ⟨rfl,hs⟩
 refine Zc<|Mv rfl<|Ole rfl<|Mv rfl<|X4 (dj:=7) rfl (fun ad=>?_) (fun ad=>?_)
 rw [if_pos ad] at H
 refine Oe rfl<|Mv rfl<|Oe rfl<|Oge rfl<|Opk rfl<|Mv rfl<|X4 (dj:=11) rfl (fun ae=>?_) (fun ae=>?_)
 rw [if_pos ae] at H
 refine On rfl<|On rfl<|On rfl<|Qx rfl rfl rfl<|Qx rfl rfl rfl<|On rfl<|Opk rfl<|Mv rfl<|On rfl<|On rfl<|On rfl<|Qx rfl rfl rfl<|Qx rfl rfl rfl<|On rfl ?_
 refine Opk rfl<|Mv rfl<|On rfl<|On rfl<|On rfl<|Qx rfl rfl rfl<|Qx rfl rfl rfl<|On rfl<|Opk rfl<|As rfl<|Zd (aa _ _ _ (S1 rfl) (ab true _ H hs))
 rw [if_neg ae] at H
 refine Oe rfl<|Mv rfl<|Oe rfl<|Ole rfl<|Oe rfl<|Mv rfl<|X4 (dj:=14) rfl (fun af=>?_) (fun af=>?_)
 rw [if_pos af] at H
 refine Oe rfl<|Mv rfl<|Oe rfl<|Oge rfl<|Oe rfl<|Opk rfl<|Opk rfl<|Mv rfl<|X4 (dj:=19) rfl (fun ag=>?_) (fun ag=>?_)
 rw [if_pos ag] at H
 refine On rfl<|On rfl<|On rfl<|Qx rfl rfl rfl<|Qx rfl rfl rfl<|On rfl<|Opk rfl<|Mv rfl<|On rfl<|On rfl<|On rfl<|Qx rfl rfl rfl<|Qx rfl rfl rfl<|On rfl ?_
 refine Opk rfl<|As rfl<|Zd (aa _ _ _ (S1 rfl) (ab true _ H hs))
 rw [if_neg ag] at H
 refine Oe rfl<|Mv rfl<|Oe rfl<|Ole rfl<|Oe rfl<|Mv rfl<|X4 (dj:=22) rfl (fun ah=>?_) (fun ah=>?_)
 rw [if_pos ah] at H
 refine Oe rfl<|Mv rfl<|Oe rfl<|Oge rfl<|Oe rfl<|Opk rfl<|Opk rfl<|Mv rfl<|X4 (dj:=27) rfl (fun ai=>?_) (fun ai=>?_)
 rw [if_pos ai] at H
 refine On rfl<|On rfl<|On rfl<|Qx rfl rfl rfl<|Qx rfl rfl rfl<|On rfl<|Opk rfl<|As rfl<|Zd (aa _ _ _ (S1 rfl) (ab true _ H hs))
 rw [if_neg ai] at H
 refine Oe rfl<|Mv rfl<|Oe rfl<|Ole rfl<|Oe rfl<|Mv rfl<|X4 (dj:=30) rfl (fun aj=>?_) (fun aj=>?_)
 rw [if_pos aj] at H
 refine Oe rfl<|Mv rfl<|Oe rfl<|Oge rfl<|Oe rfl<|Opk rfl<|Opk rfl<|As rfl<|Zd (aa _ _ _ (S1 rfl) (ab (decide (44032≤x1)) _ H hs))
 rw [if_neg aj] at H
 refine On rfl<|On rfl<|Oe rfl<|Opk rfl<|Opk rfl<|As rfl<|Zd (aa _ _ _ (S1 rfl) (ab false _ H hs))
 rw [if_neg ah] at H
 refine On rfl<|On rfl<|Oe rfl<|Opk rfl<|Opk rfl<|Mv rfl<|Oe rfl<|Mv rfl<|Oe rfl<|Ole rfl<|Oe rfl<|Mv rfl<|X4 (dj:=30) rfl (fun ak=>?_) (fun ak=>?_)
 rw [if_pos ak] at H
 refine Oe rfl<|Mv rfl<|Oe rfl<|Oge rfl<|Oe rfl<|Opk rfl<|Opk rfl<|As rfl<|Zd (aa _ _ _ (S1 rfl) (ab (decide (44032≤x1)) _ H hs))
 rw [if_neg ak] at H
 refine On rfl<|On rfl<|Oe rfl<|Opk rfl<|Opk rfl<|As rfl<|Zd (aa _ _ _ (S1 rfl) (ab false _ H hs))
 rw [if_neg af] at H
 refine On rfl<|On rfl<|Oe rfl<|Opk rfl<|Opk rfl<|Mv rfl<|Oe rfl<|Mv rfl<|Oe rfl<|Ole rfl<|Oe rfl<|Mv rfl<|X4 (dj:=22) rfl (fun al=>?_) (fun al=>?_)
 rw [if_pos al] at H
 refine Oe rfl<|Mv rfl<|Oe rfl<|Oge rfl<|Oe rfl<|Opk rfl<|Opk rfl<|Mv rfl<|X4 (dj:=27) rfl (fun am=>?_) (fun am=>?_)
 rw [if_pos am] at H
 refine On rfl<|On rfl<|On rfl<|Qx rfl rfl rfl<|Qx rfl rfl rfl<|On rfl<|Opk rfl<|As rfl<|Zd (aa _ _ _ (S1 rfl) (ab true _ H hs))
 rw [if_neg am] at H
 refine Oe rfl<|Mv rfl<|Oe rfl<|Ole rfl<|Oe rfl<|Mv rfl<|X4 (dj:=30) rfl (fun an=>?_) (fun an=>?_)
 rw [if_pos an] at H
 refine Oe rfl<|Mv rfl<|Oe rfl<|Oge rfl<|Oe rfl<|Opk rfl<|Opk rfl<|As rfl<|Zd (aa _ _ _ (S1 rfl) (ab (decide (44032≤x1)) _ H hs))
 rw [if_neg an] at H
 refine On rfl<|On rfl<|Oe rfl<|Opk rfl<|Opk rfl<|As rfl<|Zd (aa _ _ _ (S1 rfl) (ab false _ H hs))
 rw [if_neg al] at H
 refine On rfl<|On rfl<|Oe rfl<|Opk rfl<|Opk rfl<|Mv rfl<|Oe rfl<|Mv rfl<|Oe rfl<|Ole rfl<|Oe rfl<|Mv rfl<|X4 (dj:=30) rfl (fun ao=>?_) (fun ao=>?_)
 rw [if_pos ao] at H
 refine Oe rfl<|Mv rfl<|Oe rfl<|Oge rfl<|Oe rfl<|Opk rfl<|Opk rfl<|As rfl<|Zd (aa _ _ _ (S1 rfl) (ab (decide (44032≤x1)) _ H hs))
 rw [if_neg ao] at H
 refine On rfl<|On rfl<|Oe rfl<|Opk rfl<|Opk rfl<|As rfl<|Zd (aa _ _ _ (S1 rfl) (ab false _ H hs))
 rw [if_neg ad] at H
 refine On rfl<|On rfl<|Opk rfl<|Mv rfl<|Oe rfl<|Mv rfl<|Oe rfl<|Ole rfl<|Oe rfl<|Mv rfl<|X4 (dj:=14) rfl (fun ap=>?_) (fun ap=>?_)
 rw [if_pos ap] at H
 refine Oe rfl<|Mv rfl<|Oe rfl<|Oge rfl<|Oe rfl<|Opk rfl<|Opk rfl<|Mv rfl<|X4 (dj:=19) rfl (fun aq=>?_) (fun aq=>?_)
 rw [if_pos aq] at H
 refine On rfl<|On rfl<|On rfl<|Qx rfl rfl rfl<|Qx rfl rfl rfl<|On rfl<|Opk rfl<|Mv rfl<|On rfl<|On rfl<|On rfl<|Qx rfl rfl rfl<|Qx rfl rfl rfl<|On rfl ?_
 refine Opk rfl<|As rfl<|Zd (aa _ _ _ (S1 rfl) (ab true _ H hs))
 rw [if_neg aq] at H
 refine Oe rfl<|Mv rfl<|Oe rfl<|Ole rfl<|Oe rfl<|Mv rfl<|X4 (dj:=22) rfl (fun ar=>?_) (fun ar=>?_)
 rw [if_pos ar] at H
 refine Oe rfl<|Mv rfl<|Oe rfl<|Oge rfl<|Oe rfl<|Opk rfl<|Opk rfl<|Mv rfl<|X4 (dj:=27) rfl (fun au=>?_) (fun au=>?_)
 rw [if_pos au] at H
 refine On rfl<|On rfl<|On rfl<|Qx rfl rfl rfl<|Qx rfl rfl rfl<|On rfl<|Opk rfl<|As rfl<|Zd (aa _ _ _ (S1 rfl) (ab true _ H hs))
 rw [if_neg au] at H
 refine Oe rfl<|Mv rfl<|Oe rfl<|Ole rfl<|Oe rfl<|Mv rfl<|X4 (dj:=30) rfl (fun av=>?_) (fun av=>?_)
 rw [if_pos av] at H
 refine Oe rfl<|Mv rfl<|Oe rfl<|Oge rfl<|Oe rfl<|Opk rfl<|Opk rfl<|As rfl<|Zd (aa _ _ _ (S1 rfl) (ab (decide (44032≤x1)) _ H hs))
 rw [if_neg av] at H
 refine On rfl<|On rfl<|Oe rfl<|Opk rfl<|Opk rfl<|As rfl<|Zd (aa _ _ _ (S1 rfl) (ab false _ H hs))
 rw [if_neg ar] at H
 refine On rfl<|On rfl<|Oe rfl<|Opk rfl<|Opk rfl<|Mv rfl<|Oe rfl<|Mv rfl<|Oe rfl<|Ole rfl<|Oe rfl<|Mv rfl<|X4 (dj:=30) rfl (fun aw=>?_) (fun aw=>?_)
 rw [if_pos aw] at H
 refine Oe rfl<|Mv rfl<|Oe rfl<|Oge rfl<|Oe rfl<|Opk rfl<|Opk rfl<|As rfl<|Zd (aa _ _ _ (S1 rfl) (ab (decide (44032≤x1)) _ H hs))
 rw [if_neg aw] at H
 refine On rfl<|On rfl<|Oe rfl<|Opk rfl<|Opk rfl<|As rfl<|Zd (aa _ _ _ (S1 rfl) (ab false _ H hs))
 rw [if_neg ap] at H
 refine On rfl<|On rfl<|Oe rfl<|Opk rfl<|Opk rfl<|Mv rfl<|Oe rfl<|Mv rfl<|Oe rfl<|Ole rfl<|Oe rfl<|Mv rfl<|X4 (dj:=22) rfl (fun ax=>?_) (fun ax=>?_)
 rw [if_pos ax] at H
 refine Oe rfl<|Mv rfl<|Oe rfl<|Oge rfl<|Oe rfl<|Opk rfl<|Opk rfl<|Mv rfl<|X4 (dj:=27) rfl (fun ay=>?_) (fun ay=>?_)
 rw [if_pos ay] at H
 refine On rfl<|On rfl<|On rfl<|Qx rfl rfl rfl<|Qx rfl rfl rfl<|On rfl<|Opk rfl<|As rfl<|Zd (aa _ _ _ (S1 rfl) (ab true _ H hs))
 rw [if_neg ay] at H
 refine Oe rfl<|Mv rfl<|Oe rfl<|Ole rfl<|Oe rfl<|Mv rfl<|X4 (dj:=30) rfl (fun az=>?_) (fun az=>?_)
 rw [if_pos az] at H
 refine Oe rfl<|Mv rfl<|Oe rfl<|Oge rfl<|Oe rfl<|Opk rfl<|Opk rfl<|As rfl<|Zd (aa _ _ _ (S1 rfl) (ab (decide (44032≤x1)) _ H hs))
 rw [if_neg az] at H
 refine On rfl<|On rfl<|Oe rfl<|Opk rfl<|Opk rfl<|As rfl<|Zd (aa _ _ _ (S1 rfl) (ab false _ H hs))
 rw [if_neg ax] at H
 refine On rfl<|On rfl<|Oe rfl<|Opk rfl<|Opk rfl<|Mv rfl<|Oe rfl<|Mv rfl<|Oe rfl<|Ole rfl<|Oe rfl<|Mv rfl<|X4 (dj:=30) rfl (fun a0=>?_) (fun a0=>?_)
 rw [if_pos a0] at H
 refine Oe rfl<|Mv rfl<|Oe rfl<|Oge rfl<|Oe rfl<|Opk rfl<|Opk rfl<|As rfl<|Zd (aa _ _ _ (S1 rfl) (ab (decide (44032≤x1)) _ H hs))
 rw [if_neg a0] at H
 refine On rfl<|On rfl<|Oe rfl<|Opk rfl<|Opk rfl<|As rfl<|Zd (aa _ _ _ (S1 rfl) (ab false _ H hs))

def Xd.j1 (ae:Int→Option Bool) (aa:Int) (ac:Bool):Option Bool:=if ac=true then (some false) else (ae (i64.wrap (aa+1)))
def Xd.l1:Nat→ByteArray→Int→Option Bool
  | 0,_,_=>none
  | ab+1,x0,aa=>if aa<(x0.size:Int) then (if (0:Int)≤aa∧aa<(x0.size:Int) then (if 97≤(bt x0 aa) then (if (bt x0 aa)≤122 then (Xd.j1 (Xd.l1 ab x0) aa (!true)) else (if 65≤(bt x0 aa) then (Xd.j1 (Xd.l1 ab x0) aa (decide (¬ ((bt x0 aa)≤90)))) else (Xd.j1 (Xd.l1 ab x0) aa (!false)))) else (if 65≤(bt x0 aa) then (Xd.j1 (Xd.l1 ab x0) aa (decide (¬ ((bt x0 aa)≤90)))) else (Xd.j1 (Xd.l1 ab x0) aa (!false)))) else none) else (some true)
def Xd.j2 (x0:ByteArray) (ad:Bool):Option Bool:=if ad=true then (some false) else (Xd.l1 K0 x0 0)
def Xd.f (x0:ByteArray):Option Bool:=if (x0.size:Int)<1 then (Xd.j2 x0 true) else (Xd.j2 x0 (decide (32<(x0.size:Int))))
theorem Xd.c (hs:St w0 ρ (Γ) w) {x0:ByteArray} {r:Bool} (H:Xd.f x0=some r):Zq Tryz.prog 83 [.string x0] w (fun v w'=>v=.bool r∧St w0 ρ Γ w'):=by
 rw [Xd.f] at H
 refine Et Tryz.func83 Tryz.ntmps83 rfl<|Wr fun bb av=>As rfl<|Ox av<|Zi fun bc aw=>Yt fun ax ay aq=>?_
 have ar:∀ (ad:Bool) (w:World),Xd.j2 x0 ad=some r→St w0 ρ (Γ) w→ax [(0,.string x0),(12,.bool ad)] w:=by
  intro ad w H hs
  rw [Xd.j2] at H
  refine ay _ _<|Xh rfl (fun ai=>?_) (fun ai=>?_)
  rw [if_pos ai] at H
  refine Wr fun bd az=>As rfl<|Ox az<|Zm ?_
  obtain rfl:=Z4 H
  exact r1 rfl ⟨rfl,hs⟩
  rw [if_neg (bft ai)] at H
  refine Wx aw<|Zi fun be a0=>Wr fun bf a1=>As rfl<|Ox a1<|Zl fun bg a2 bh=>Xb (σ:=Nat×Int) (fun (ab,aa)=>[(0,.string x0),(3,.int .i64 aa)]) (fun (ab,aa) w=>Xd.l1 ab x0 aa=some r∧St w0 ρ (Γ) w) (fun s=>s.1) (K0,0) (T2 rfl) (Ai H hs) ?_
  rintro ⟨ab,aa⟩ w bi ⟨H,hs⟩ af
  show W _ _ _ _ _ _ [(0,.string x0),(3,.int .i64 aa)] w
  cases ab with
  | zero=>rw [Xd.l1] at H;cases H
  | succ ab=>
  rw [Xd.l1] at H
  refine Zi fun bj a3=>Wr fun bk a4=>Mv rfl<|Mv rfl<|O_y rfl (Zee un9 rfl)<|Ols rfl<|Ox a4<|Xa rfl (fun aj=>?_) (fun aj=>?_)
  rw [if_pos aj] at H
  refine Wx a3<|Zi fun bl a5=>Zl fun bm bn bo=>Wr fun bp a6=>Mv rfl<|Mv rfl ?_
  obtain ⟨au,H⟩:=gd H
  refine O_y rfl (Zun un9 rfl rfl au.1 au.2)<|As rfl<|Ox a6<|Yt fun a7 a8 ag=>?_
  have ah:∀ (ac:Bool) (w:World),Xd.j1 (Xd.l1 ab x0) aa ac=some r→St w0 ρ (Γ) w→a7 [(0,.string x0),(3,.int .i64 aa),(36,.bool ac)] w:=by
   intro ac w H hs
   rw [Xd.j1] at H
   refine a8 _ _<|Xh rfl (fun ak=>?_) (fun ak=>?_)
   rw [if_pos ak] at H
   refine Wr fun bq a9=>As rfl<|Ox a9<|Zm ?_
   obtain rfl:=Z4 H
   exact r1 rfl ⟨rfl,hs⟩
   rw [if_neg (bft ak)] at H
   refine Wx a5<|Zc<|Mv rfl<|Oad rfl<|As rfl<|Zd (af (ab,(i64.wrap (aa+1))) _ _ (T2 rfl) (Ai H hs) (Nat.lt_succ_self _))
  refine Zc<|Mv rfl<|Oge rfl<|Mv rfl<|X4 (dj:=24) rfl (fun al=>?_) (fun al=>?_)
  rw [if_pos al] at H
  refine Oe rfl<|Mv rfl<|Oe rfl<|Ole rfl<|Opk rfl<|Mv rfl<|X4 (dj:=28) rfl (fun am=>?_) (fun am=>?_)
  rw [if_pos am] at H
  refine On rfl<|On rfl<|On rfl<|Qx rfl rfl rfl<|Qx rfl rfl rfl<|On rfl<|Opk rfl<|Ont rfl<|Zd (ag _ _ _ (T3 rfl) (ah (!true) _ H hs))
  rw [if_neg am] at H
  refine Oe rfl<|Mv rfl<|Oe rfl<|Oge rfl<|Oe rfl<|Mv rfl<|X4 (dj:=31) rfl (fun an=>?_) (fun an=>?_)
  rw [if_pos an] at H
  refine Oe rfl<|Mv rfl<|Oe rfl<|Ole rfl<|Oe rfl<|Opk rfl<|Opk rfl<|O_y rfl (Znn rfl)<|Zd (ag _ _ _ (T3 rfl) (ah (decide (¬ ((bt x0 aa)≤90))) _ H hs))
  rw [if_neg an] at H
  refine On rfl<|On rfl<|Oe rfl<|Opk rfl<|Opk rfl<|Ont rfl<|Zd (ag _ _ _ (T3 rfl) (ah (!false) _ H hs))
  rw [if_neg al] at H
  refine On rfl<|On rfl<|Opk rfl<|Mv rfl<|Oe rfl<|Mv rfl<|Oe rfl<|Oge rfl<|Oe rfl<|Mv rfl<|X4 (dj:=31) rfl (fun ao=>?_) (fun ao=>?_)
  rw [if_pos ao] at H
  refine Oe rfl<|Mv rfl<|Oe rfl<|Ole rfl<|Oe rfl<|Opk rfl<|Opk rfl<|O_y rfl (Znn rfl)<|Zd (ag _ _ _ (T3 rfl) (ah (decide (¬ ((bt x0 aa)≤90))) _ H hs))
  rw [if_neg ao] at H
  refine On rfl<|On rfl<|Oe rfl<|Opk rfl<|Opk rfl<|Ont rfl<|Zd (ag _ _ _ (T3 rfl) (ah (!false) _ H hs))
  rw [if_neg aj] at H
  refine Y5 (a2 _ _ (a0 _ _<|Wr fun br ba=>As rfl<|Ox ba<|Zm ?_))
  obtain rfl:=Z4 H
  exact r1 rfl ⟨rfl,hs⟩
 refine Zc<|Mv rfl<|O_y rfl (Zee un9 rfl)<|Ols rfl<|Mv rfl<|X4 (dj:=8) rfl (fun ap=>?_) (fun ap=>?_)
 rw [if_pos ap] at H
 refine On rfl<|On rfl<|On rfl<|Opk rfl<|Zd (aq _ _ _ (T2 rfl) (ar true _ H hs))
 rw [if_neg ap] at H
 refine Oe rfl<|Mv rfl<|Oe rfl<|O_y rfl (Zee un9 rfl)<|Oe rfl<|Ogt rfl<|Opk rfl<|Zd (aq _ _ _ (T2 rfl) (ar (decide (32<(x0.size:Int))) _ H hs))

def Qc.l1 (ae:Int→Option Int):Nat→List ByteArray→Int→Int→Option Int
  | 0,_,_,_=>none
  | ac+1,x0,aa,ab=>if ab<((sub x0 0 aa).length:Int) then (if (0:Int)≤ab∧ab<((sub x0 0 aa).length:Int) then (if (rd (sub x0 0 aa) ab)=(rd x0 aa) then (some aa) else ((Qc.l1 ae ac x0 aa) (i64.wrap (ab+1)))) else none) else (ae (i64.wrap (aa+1)))
def Qc.l2:Nat→List ByteArray→Int→Option Int
  | 0,_,_=>none
  | ad+1,x0,aa=>if aa<(x0.length:Int) then (if (0:Int)≤aa∧aa<(x0.length:Int) then ((Xd.f (rd x0 aa)).bind fun a4=>(if (!a4)=true then (some aa) else (if (0:Int)≤0∧0≤aa∧aa≤(x0.length:Int) then (Qc.l1 (Qc.l2 ad x0) K0 x0 aa 0) else none))) else none) else (some (-1))
def Qc.f (x0:List ByteArray):Option Int:=if 64<(x0.length:Int) then (some 64) else (Qc.l2 K0 x0 0)
theorem Qc.c (hs:St w0 ρ (Γ) w) {v0:Value} {x0:List ByteArray} (h0:SlR Rep.str ρ v0 x0) {r:Int} (H:Qc.f x0=some r):Zq Tryz.prog 53 [v0] w (fun v w'=>v=.int .i64 r∧St w0 ρ Γ w'):=by
 rw [Qc.f] at H
 refine Et Tryz.func53 Tryz.ntmps53 rfl<|Wr fun b3 a6=>As rfl<|Ox a6<|Zi fun b4 a7=>Wr fun b5 a8=>Mv rfl<|O_y rfl (Yx Zhp h0 rfl)<|Ogt rfl<|Ox a8<|Xa rfl (fun am=>?_) (fun am=>?_)
 rw [if_pos am] at H
 refine Wr fun b6 a9=>As rfl<|Ox a9<|Zm ?_
 obtain rfl:=Z4 H
 exact r1 rfl ⟨rfl,hs⟩
 rw [if_neg am] at H
 refine Wx a7<|Zi fun b7 ba=>Wr fun b8 bb=>Mv rfl<|O_y rfl (Yx Zhp h0 rfl)<|Mv rfl<|Ox bb<|Zl fun b9 bc ca=>Xb (σ:=Nat×Int) (fun (ad,aa)=>[(0,v0),(10,v0),(11,.int .i64 (x0.length:Int)),(12,.int .i64 aa)]) (fun (ad,aa) w=>Qc.l2 ad x0 aa=some r∧St w0 ρ (Γ) w) (fun s=>s.1) (K0,0) (T4 rfl) (Ai H hs) ?_
 rintro ⟨ad,aa⟩ w cb ⟨H,hs⟩ ag
 show W _ _ _ _ _ _ [(0,v0),(10,v0),(11,.int .i64 (x0.length:Int)),(12,.int .i64 aa)] w
 cases ad with
 | zero=>rw [Qc.l2] at H;cases H
 | succ ad=>
 rw [Qc.l2] at H
 refine Wr fun cc bd=>Ols rfl<|Ox bd<|Zi fun cd be=>Xa rfl (fun an=>?_) (fun an=>?_)
 ·rw [if_pos an] at H
  refine Wx be<|Zi fun ce bf=>Zl fun cf cg ch=>Wr fun ci bg=>Mv rfl ?_
  obtain ⟨a5,H⟩:=gd H
  obtain ⟨cj,ck,bh,bi⟩:=h0.ix Zhc a5.1 a5.2
  refine O_y rfl (bi rfl rfl)<|O_y rfl (Xq ag9 rfl (hs.see bh.str))<|As rfl<|As rfl<|Ox bg<|Zi fun cl bj=>Wr fun cm bk=>Mv rfl ?_
  obtain ⟨a4,ao,H⟩:=bnd H
  refine Oc rfl (Xd.c hs ao) (fun cn w hpost=>?_)
  obtain ⟨rfl,hs⟩:=hpost
  refine Ont rfl<|Ox bk<|Xh rfl (fun ap=>?_) (fun ap=>?_)
  rw [if_pos ap] at H
  refine Wr fun co bl=>Mv rfl<|As rfl<|Ox bl<|W.weak [(2,_)] (S1 rfl)<|Zm ?_
  obtain rfl:=Z4 H
  exact r1 rfl ⟨rfl,hs⟩
  rw [if_neg (bft ap)] at H
  refine Wx bj<|Wr fun cp bm=>Mv rfl<|Mv rfl ?_
  obtain ⟨aq,H⟩:=gd H
  obtain ⟨aj,ak,ar⟩:=h0.cut Zhc aq.1 aq.2.1 aq.2.2
  refine O_y rfl (ar rfl (.inl ⟨rfl,rfl⟩) (.inr ⟨_,_,rfl,rfl⟩))<|O_y rfl (Yx Zhp ak rfl)<|Mv rfl<|Ox bm<|W.weak [(0,_),(3,_),(4,_),(10,_),(11,_),(12,_),(23,_),(24,_),(25,_)] sbn ?_
  refine Zl fun bn au bo=>Xb (σ:=Nat×Int) (fun (ac,ab)=>[(0,v0),(3,.int .i64 aa),(4,.string (rd x0 aa)),(10,v0),(11,.int .i64 (x0.length:Int)),(12,.int .i64 aa),(23,aj),(24,.int .i64 ((sub x0 0 aa).length:Int)),(25,.int .i64 ab)]) (fun (ac,ab) w=>Qc.l1 (Qc.l2 ad x0) ac x0 aa ab=some r∧St w0 ρ (Γ) w) (fun s=>s.1) (K0,0) sbn (Ai H hs) ?_
  rintro ⟨ac,ab⟩ w bp ⟨H,hs⟩ af
  show W _ _ _ _ _ _ [(0,v0),(3,.int .i64 aa),(4,.string (rd x0 aa)),(10,v0),(11,.int .i64 (x0.length:Int)),(12,.int .i64 aa),(23,aj),(24,.int .i64 ((sub x0 0 aa).length:Int)),(25,.int .i64 ab)] w
  cases ac with
  | zero=>rw [Qc.l1] at H;cases H
  | succ ac=>
  rw [Qc.l1] at H
  refine Wr fun bq av=>Ols rfl<|Ox av<|Zi fun br aw=>Xa rfl (fun ah=>?_) (fun ah=>?_)
  rw [if_pos ah] at H
  refine Wx aw<|Zi fun bs ax=>Zl fun bt bu bv=>Zi fun bw ay=>Zc ?_
  obtain ⟨al,H⟩:=gd H
  obtain ⟨bx,bz,az,a0⟩:=ak.ix Zhc al.1 al.2
  refine O_y rfl (a0 rfl rfl)<|O_y rfl (Xq ag9 rfl (hs.see az.str))<|As rfl<|Ox ay<|Wr fun b0 a1=>Mv rfl<|Mv rfl<|O_y rfl (Zj7 rfl rfl)<|Ox a1<|W.weak [(0,_),(3,_),(4,_),(10,_),(11,_),(12,_),(23,_),(24,_),(25,_),(31,_)] sbn ?_
  refine Xa rfl (fun ai=>?_) (fun ai=>?_)
  rw [if_pos ai] at H
  refine Wr fun b1 a2=>Mv rfl<|As rfl<|Ox a2<|Zm ?_
  obtain rfl:=Z4 H
  exact r1 rfl ⟨rfl,hs⟩
  rw [if_neg ai] at H
  refine Wx ax<|Zc<|Oad rfl<|Mv rfl<|Zd (af (ac,(i64.wrap (ab+1))) _ _ sbn (Ai H hs) (Nat.lt_succ_self _))
  rw [if_neg ah] at H
  refine Y5 (au _ _ (bf _ _<|Zc<|Oad rfl<|Mv rfl<|Zd (ag (ad,(i64.wrap (aa+1))) _ _ (T4 rfl) (Ai H hs) (Nat.lt_succ_self _))))
 rw [if_neg an] at H
 refine Y5 (bc _ _ (ba _ _<|Wr fun b2 a3=>As rfl<|Ox a3<|Zm ?_))
 obtain rfl:=Z4 H
 exact r1 rfl ⟨rfl,hs⟩

def Qj.l1:Nat→List Val→List Spn→Int→Option (List Spn)
  | 0,_,_,_=>none
  | ae+1,x0,ab,aa=>if aa<(x0.length:Int) then (if (0:Int)≤aa∧aa<(x0.length:Int) then (if ab.length+([(⟨(rd x0 aa).lo,(rd x0 aa).hi⟩:Spn)]).length≤most then ((Qj.l1 ae x0) (ab++([(⟨(rd x0 aa).lo,(rd x0 aa).hi⟩:Spn)])) (i64.wrap (aa+1))) else none) else none) else (some ab)
def Qj.f (x0:List Val):Option (List Spn):=Qj.l1 K0 x0 ([]:List Spn) 0
theorem Qj.c (hs:St w0 ρ (Γ) w) {v0:Value} {x0:List Val} (h0:SlR Qb ρ v0 x0) {r:List Spn} (H:Qj.f x0=some r):Zq Tryz.prog 55 [v0] w (fun v w'=>∃ (ρ':Hp) (v0:Value) (cs0:List Value),v=v0∧Le ρ ρ'∧St w0 ρ' (.row v0 90 Kj.sz r.length cs0::Γ) w'∧Zp Kj ρ' cs0 r):=by
 rw [Qj.f] at H
 refine Et Tryz.func55 Tryz.ntmps55 rfl<|Wr fun a5 al=>As rfl<|Ox al<|Wr fun a6 am=>K6 (xs:=[]) (cs:=[]) Zih hs rfl rfl rfl (by decide) (by decide) rfl Ki X6 (fun an w hs=>?_)
 have ao:Zp Kj ρ ([]) ([]:List Spn):=Zp.nil _ _
 refine As rfl<|Ox am<|Zi fun a7 ap=>Wr fun a8 aq=>Mv rfl<|O_y rfl (Yx Zwm h0 rfl)<|Mv rfl<|Ox aq<|Zl fun a9 ar ba=>Xb (σ:=Nat×List Spn×Int×Value×List Value) (fun (ae,ab,aa,ac,ad)=>[(3,ac),(7,v0),(8,.int .i64 (x0.length:Int)),(9,.int .i64 aa)]) (fun (ae,ab,aa,ac,ad) w=>Qj.l1 ae x0 ab aa=some r∧St w0 ρ ((.row ac 90 Kj.sz ab.length ad)::Γ) w∧Zp Kj ρ ad ab) (fun s=>s.1) (K0,([]:List Spn),0,(.slice (some ⟨an,0,none⟩) 0 0),([])) (T4 rfl) (Ai H (Ai hs ao)) ?_
 rintro ⟨ae,ab,aa,ac,ad⟩ w bb ⟨H,hs,af⟩ ag
 show W _ _ _ _ _ _ [(3,ac),(7,v0),(8,.int .i64 (x0.length:Int)),(9,.int .i64 aa)] w
 cases ae with
 | zero=>rw [Qj.l1] at H;cases H
 | succ ae=>
 rw [Qj.l1] at H
 refine Wr fun bc au=>Ols rfl<|Ox au<|Zi fun bd av=>Xa rfl (fun ah=>?_) (fun ah=>?_)
 rw [if_pos ah] at H
 refine Wx av<|Zi fun be aw=>Zl fun bf bg bh=>Zi fun bi ax=>Zc ?_
 obtain ⟨aj,H⟩:=gd H
 obtain ⟨bj,bk,ay,az⟩:=h0.ix Zsz aj.1 aj.2
 obtain ⟨_,rfl,a0⟩:=ay
 refine O_y rfl (az rfl rfl)<|O_y rfl (Q0 Zqs Zl3 rfl rfl (fun j u hu=>hs.see (a0 j u hu)))<|Y6 Zqz hs rfl (fun bl w hs=>Ye (i:=0) Zl3 hs rfl rfl rfl rfl rfl (Zb rfl (Zb rfl (Zb rfl Ym))) (fun w hs=>Ox ax<|Zc<|Mv rfl<|Ofd Znd rfl<|Obx 0 Xn hs rfl<|Ofd Zm2 rfl<|Obx 0 Xn hs rfl<|O_y rfl (Qg (cs:=[.int .i32 ((rd x0 aa).lo),.int .i32 ((rd x0 aa).hi)]) Zt4 Zzd ((Z3.cons rfl rfl (Z3.cons rfl rfl Z3.nil))) Zui (by kernel_rfl))<|K6 (xs:=[.tmp 18]) (cs:=[.int .i32 ((rd x0 aa).lo),.int .i32 ((rd x0 aa).hi)]) Zih hs rfl rfl rfl (by decide) (by decide) rfl (Yd rfl Ki) (Zx rfl X6) (fun bm w hs=>?_)))
 have ak:Zp Kj ρ ([.int .i32 ((rd x0 aa).lo),.int .i32 ((rd x0 aa).hi)]) [(⟨(rd x0 aa).lo,(rd x0 aa).hi⟩:Spn)]:=Zp.cons (c:=[.int .i32 ((rd x0 aa).lo),.int .i32 ((rd x0 aa).hi)]) (x:=(⟨(rd x0 aa).lo,(rd x0 aa).hi⟩:Spn)) rfl (Zp.nil _ _)
 obtain ⟨a1,H⟩:=gd H
 refine Q3 (i:=2) Zih hs rfl af rfl rfl rfl (Src.lit (j:=0) hs rfl ak) ak a1 (fun a2 ai w a3 hs=>As rfl<|Ox aw<|W.weak [(3,_),(7,_),(8,_),(9,_)] (T4 rfl)<|Zc<|Oad rfl<|Mv rfl<|Zd (ag (ae,(ab++([(⟨(rd x0 aa).lo,(rd x0 aa).hi⟩:Spn)])),(i64.wrap (aa+1)),a2,ai) _ _ (T4 rfl) (Ai H (Ai (hs.sub (ssk (ssk (ssc ssr)))) a3)) (Nat.lt_succ_self _)))
 rw [if_neg ah] at H
 refine Y5 (ar _ _ (ap _ _<|Wr fun bn a4=>Mv rfl<|As rfl<|Ox a4<|Zm ?_))
 obtain rfl:=Z4 H
 exact r1 rfl ⟨_,_,_,rfl,Le.rfl' _,hs,af⟩

def Yk.j1 (al:List Bool→Int→Option (List Bool)) (ab:Int) (ac:List Bool):Option (List Bool):=al ac (i64.wrap (ab+1))
def Yk.l1:Nat→List Val→Int→Int→Bool→List Bool→Int→Option (List Bool)
  | 0,_,_,_,_,_,_=>none
  | ai+1,x0,x1,x2,x3,aa,ab=>if ab<(x0.length:Int) then (if (0:Int)≤ab∧ab<(x0.length:Int) then (if ((rd x0 ab).n)<x1 then (if aa.length+([true]).length≤most then (Yk.j1 (Yk.l1 ai x0 x1 x2 x3) ab (aa++([true]))) else none) else (if x2<((rd x0 ab).n) then (if aa.length+([true]).length≤most then (Yk.j1 (Yk.l1 ai x0 x1 x2 x3) ab (aa++([true]))) else none) else (if x3=true then ((Yv.f ((rd x0 ab).lo) ((rd x0 ab).hi)).bind fun aj=>(if aa.length+([aj]).length≤most then (Yk.j1 (Yk.l1 ai x0 x1 x2 x3) ab (aa++([aj]))) else none)) else (if aa.length+([false]).length≤most then (Yk.j1 (Yk.l1 ai x0 x1 x2 x3) ab (aa++([false]))) else none)))) else none) else (some aa)
def Yk.f (x0:List Val) (x1 x2:Int) (x3:Bool):Option (List Bool):=Yk.l1 K0 x0 x1 x2 x3 ([]:List Bool) 0
theorem Yk.c (hs:St w0 ρ (Γ) w) {v0:Value} {x0:List Val} (h0:SlR Qb ρ v0 x0) {x1 x2:Int} {x3:Bool} {r:List Bool} (H:Yk.f x0 x1 x2 x3=some r):Zq Tryz.prog 56 [v0,.int .i64 x1,.int .i64 x2,.bool x3] w (fun v w'=>∃ (ρ':Hp) (v0:Value) (cs0:List Value),v=v0∧Le ρ ρ'∧St w0 ρ' (.row v0 4 Rep.bool.sz r.length cs0::Γ) w'∧Zp Rep.bool ρ' cs0 r):=by
 rw [Yk.f] at H
 refine Et Tryz.func56 Tryz.ntmps56 rfl<|Wr fun b2 bf=>As rfl<|Ox bf<|Wr fun b3 bg=>K6 (xs:=[]) (cs:=[]) Hk hs rfl rfl rfl (by decide) (by decide) rfl Ki X6 (fun bh w hs=>?_)
 have bi:Zp Rep.bool ρ ([]) ([]:List Bool):=Zp.nil _ _
 refine As rfl<|Ox bg<|Zi fun b4 bj=>Wr fun b5 bk=>Mv rfl<|O_y rfl (Yx Zwm h0 rfl)<|Mv rfl<|Ox bk<|Zl fun b6 bl b7=>Xb (σ:=Nat×List Bool×Int×Value×List Value) (fun (ai,aa,ab,ad,af)=>[(1,.int .i64 x1),(2,.int .i64 x2),(3,.bool x3),(9,ad),(13,v0),(14,.int .i64 (x0.length:Int)),(15,.int .i64 ab)]) (fun (ai,aa,ab,ad,af) w=>Yk.l1 ai x0 x1 x2 x3 aa ab=some r∧St w0 ρ ((.row ad 4 Rep.bool.sz aa.length af)::Γ) w∧Zp Rep.bool ρ af aa) (fun s=>s.1) (K0,([]:List Bool),0,(.slice (some ⟨bh,0,none⟩) 0 0),([])) sbn (Ai H (Ai hs bi)) ?_
 rintro ⟨ai,aa,ab,ad,af⟩ w b8 ⟨H,hs,ae⟩ am
 show W _ _ _ _ _ _ [(1,.int .i64 x1),(2,.int .i64 x2),(3,.bool x3),(9,ad),(13,v0),(14,.int .i64 (x0.length:Int)),(15,.int .i64 ab)] w
 cases ai with
 | zero=>rw [Yk.l1] at H;cases H
 | succ ai=>
 rw [Yk.l1] at H
 refine Wr fun b9 bm=>Ols rfl<|Ox bm<|Zi fun ca bn=>Xa rfl (fun az=>?_) (fun az=>?_)
 rw [if_pos az] at H
 refine Wx bn<|Yt fun bo bp ax=>?_
 have ay:∀ (ac:List Bool) (ag:Value) (ah:List Value) (w:World),Yk.j1 (Yk.l1 ai x0 x1 x2 x3) ab ac=some r→St w0 ρ ((.row ag 4 Rep.bool.sz ac.length ah)::Γ) w→Zp Rep.bool ρ ah ac→bo [(1,.int .i64 x1),(2,.int .i64 x2),(3,.bool x3),(9,ag),(13,v0),(14,.int .i64 (x0.length:Int)),(15,.int .i64 ab)] w:=by
  intro ac ag ah w H hs ak
  rw [Yk.j1] at H
  refine bp _ _<|Zc<|Oad rfl<|Mv rfl<|Zd (am (ai,ac,(i64.wrap (ab+1)),ag,ah) _ _ sbn (Ai H (Ai hs ak)) (Nat.lt_succ_self _))
 refine Zl fun cb cc cd=>Zi fun ce bq=>Zc ?_
 obtain ⟨bd,H⟩:=gd H
 obtain ⟨cf,cg,br,bs⟩:=h0.ix Zsz bd.1 bd.2
 obtain ⟨_,rfl,bt⟩:=br
 refine O_y rfl (bs rfl rfl)<|O_y rfl (Q0 Zqs Zl3 rfl rfl (fun j u hu=>hs.see (bt j u hu)))<|Y6 Zqz hs rfl (fun ch w hs=>Ye (i:=0) Zl3 hs rfl rfl rfl rfl rfl (Zb rfl (Zb rfl (Zb rfl Ym))) (fun w hs=>Ox bq<|Zc<|Mv rfl<|Ofd Zr3 rfl<|Obx 0 ag3 hs rfl<|Mv rfl<|Ols rfl<|Mv rfl<|X4 (dj:=24) rfl (fun a0=>?_) (fun a0=>?_)))
 rw [if_pos a0] at H
 refine On rfl<|On rfl<|On rfl<|On rfl<|Opk rfl<|Mv rfl<|On rfl<|On rfl<|Qx rfl rfl rfl<|Qx rfl rfl rfl<|Qx rfl rfl rfl<|Qx rfl rfl rfl<|Qx rfl rfl rfl<|On rfl ?_
 refine Opk rfl<|K6 (xs:=[.tmp 39]) (cs:=[.bool true]) Hk hs rfl rfl rfl (by decide) (by decide) rfl (Yd rfl Ki) (Zx rfl X6) (fun ci w hs=>?_)
 have be:Zp Rep.bool ρ ([.bool true]) [true]:=Zp.cons (c:=[.bool true]) (x:=true) rfl (Zp.nil _ _)
 obtain ⟨bu,H⟩:=gd H
 refine Q3 (i:=2) Hk hs rfl ae rfl rfl rfl (Src.lit (j:=0) hs rfl be) be bu (fun bv a1 w bw hs=>As rfl<|Zd (ax _ _ _ sbn (ay (aa++([true])) bv a1 _ H (hs.sub (ssk (ssk (ssc ssr)))) bw)))
 rw [if_neg a0] at H
 refine Oe rfl<|Ofd Zr3 rfl<|Oe rfl<|Obx 0 ag3 hs rfl<|Oe rfl<|Mv rfl<|Oe rfl<|Ogt rfl<|Opk rfl<|Mv rfl<|X4 (dj:=30) rfl (fun a2=>?_) (fun a2=>?_)
 rw [if_pos a2] at H
 refine On rfl<|On rfl<|Qx rfl rfl rfl<|Qx rfl rfl rfl<|Qx rfl rfl rfl<|Qx rfl rfl rfl<|Qx rfl rfl rfl<|On rfl<|Opk rfl<|K6 (xs:=[.tmp 39]) (cs:=[.bool true]) Hk hs rfl rfl rfl (by decide) (by decide) rfl (Yd rfl Ki) (Zx rfl X6) (fun cj w hs=>?_)
 have ao:Zp Rep.bool ρ ([.bool true]) [true]:=Zp.cons (c:=[.bool true]) (x:=true) rfl (Zp.nil _ _)
 obtain ⟨a3,H⟩:=gd H
 refine Q3 (i:=2) Hk hs rfl ae rfl rfl rfl (Src.lit (j:=0) hs rfl ao) ao a3 (fun a4 ap w a5 hs=>As rfl<|Zd (ax _ _ _ sbn (ay (aa++([true])) a4 ap _ H (hs.sub (ssk (ssk (ssc ssr)))) a5)))
 rw [if_neg a2] at H
 refine Oe rfl<|Mv rfl<|Oe rfl<|Mv rfl<|V9 (dj:=32) rfl (fun an=>?_) (fun an=>?_)
 rw [if_pos an] at H
 refine Oe rfl<|Ofd Znd rfl<|Oe rfl<|Obx 0 Xn hs rfl<|Oe rfl<|Ofd Zm2 rfl<|Oe rfl<|Obx 0 Xn hs rfl<|Oe rfl ?_
 obtain ⟨aj,aq,H⟩:=bnd H
 refine Oc rfl (Yv.c hs aq) (fun bx w hpost=>?_)
 obtain ⟨rfl,hs⟩:=hpost
 refine Oe rfl<|Opk rfl<|Opk rfl<|K6 (xs:=[.tmp 39]) (cs:=[.bool aj]) Hk hs rfl rfl rfl (by decide) (by decide) rfl (Yd rfl Ki) (Zx rfl X6) (fun bz w hs=>?_)
 have ar:Zp Rep.bool ρ ([.bool aj]) [aj]:=Zp.cons (c:=[.bool aj]) (x:=aj) rfl (Zp.nil _ _)
 obtain ⟨a6,H⟩:=gd H
 refine Q3 (i:=2) Hk hs rfl ae rfl rfl rfl (Src.lit (j:=0) hs rfl ar) ar a6 (fun a7 au w a8 hs=>As rfl<|Zd (ax _ _ _ sbn (ay (aa++([aj])) a7 au _ H (hs.sub (ssk (ssk (ssc ssr)))) a8)))
 rw [if_neg (bft an)] at H
 refine On rfl<|On rfl<|On rfl<|On rfl<|On rfl<|Oe rfl<|Opk rfl<|Opk rfl<|K6 (xs:=[.tmp 39]) (cs:=[.bool false]) Hk hs rfl rfl rfl (by decide) (by decide) rfl (Yd rfl Ki) (Zx rfl X6) (fun b0 w hs=>?_)
 have av:Zp Rep.bool ρ ([.bool false]) [false]:=Zp.cons (c:=[.bool false]) (x:=false) rfl (Zp.nil _ _)
 obtain ⟨a9,H⟩:=gd H
 refine Q3 (i:=2) Hk hs rfl ae rfl rfl rfl (Src.lit (j:=0) hs rfl av) av a9 (fun ba aw w bb hs=>As rfl<|Zd (ax _ _ _ sbn (ay (aa++([false])) ba aw _ H (hs.sub (ssk (ssk (ssc ssr)))) bb)))
 rw [if_neg az] at H
 refine Y5 (bl _ _ (bj _ _<|Wr fun b1 bc=>Mv rfl<|As rfl<|Ox bc<|Zm ?_))
 obtain rfl:=Z4 H
 exact r1 rfl ⟨_,_,_,rfl,Le.rfl' _,hs,ae⟩

def Uf.j1 (aa:Bool):Option Bool:=some aa
def Uf.f (x0:List Spn) (x1:Int):Option Bool:=if (0:Int)≤x1∧x1<(x0.length:Int) then (if 0≤((rd x0 x1).lo) then (if ((rd x0 x1).lo)≤((rd x0 x1).hi) then (if ((rd x0 x1).hi)≤1114111 then (if x1=0 then (Uf.j1 true) else (if (0:Int)≤i64.wrap (x1-1)∧i64.wrap (x1-1)<(x0.length:Int) then (Uf.j1 (decide (((rd x0 (i64.wrap (x1-1))).hi)<((rd x0 x1).lo)))) else none)) else (Uf.j1 false)) else (Uf.j1 false)) else (Uf.j1 false)) else none
theorem Uf.c (hs:St w0 ρ (Γ) w) {v0:Value} {x0:List Spn} (h0:SlR Kj ρ v0 x0) {x1:Int} {r:Bool} (H:Uf.f x0 x1=some r):Zq Tryz.prog 84 [v0,.int .i64 x1] w (fun v w'=>v=.bool r∧St w0 ρ Γ w'):=by
 rw [Uf.f] at H
 refine Et Tryz.func84 Tryz.ntmps84 rfl<|Wr fun aw ak=>As rfl<|Ox ak<|Wr fun ax al=>Mv rfl<|Mv rfl ?_
 obtain ⟨ah,H⟩:=gd H
 obtain ⟨ay,az,am,an⟩:=h0.ix Zih ah.1 ah.2
 obtain ⟨_,rfl,ao⟩:=am
 refine O_y rfl (an rfl rfl)<|O_y rfl (Q0 Zui Zxy rfl rfl (fun j u hu=>hs.see (ao j u hu)))<|Y6 Zt4 hs rfl (fun ai w hs=>Ye (i:=0) Zxy hs rfl rfl rfl rfl rfl (Zb rfl (Zb rfl Ym)) (fun w hs=>Ox al<|Yt fun ap aq ab=>?_))
 have ac:∀ (aa:Bool) (w:World),Uf.j1 aa=some r→St w0 ρ ((.box ai 90 ([.int .i32 ((rd x0 x1).lo),.int .i32 ((rd x0 x1).hi)]))::Γ) w→ap [(4,.bool aa)] w:=by
  intro aa w H hs
  rw [Uf.j1] at H
  refine aq _ _<|Zm ?_
  obtain rfl:=Z4 H
  exact r1 rfl ⟨rfl,(hs.sub (ssk ssr))⟩
 refine Qt 31 [0,1,2,4,8,24,8,72,168,264,520,1024,3072,5120,9216,17408,32768,98304,163840,262144,786432,262144,262144,4456448,10747904,17039360,33816576,68419584,134512640,268468224,1073741823] [1073741820,1073741816,1073741808,1073739776,1073741760,1073741504,1073741616,1073741360,1073740800,1073739776,1073676288,1073733632,1073725440,1073709056,1073676288,267911168,1073479680,1073217536,536870912,1071644672,937426944,1054343168,1060634624,1043857408,1008205824,941096960,806879232,536870912,0,0,0] [0,1,3,7,15,31,15,79,255,511,1023,2047,4095,8191,16383,32767,65535,131071,262143,524287,1048575,524287,524287,4718591,15204351,31981567,65535999,134217727,268435455,536870911,1073741823] [] (fun w=>St w0 ρ ((.box ai 90 ([.int .i32 ((rd x0 x1).lo),.int .i32 ((rd x0 x1).hi)]))::Γ) w) Vr (by kernel_rfl) (fun sh=>?_)
 have hs:=hs.drew
 refine Fp 0 sh rfl (fun w=>Zw Zme rfl)<|Fy 1 sh rfl hs (fun w hs=>Yb 0 Xn hs rfl rfl rfl)<|Fp 2 sh rfl (fun w=>Zq0 rfl rfl)<|Fm 3 sh rfl<|Za4 (dj:=13) rfl (fun ad=>?_) (fun ad=>?_)
 rw [if_pos ad] at H
 refine Fp 4 sh rfl (fun w=>Zw Zme rfl)<|Fy 5 sh rfl hs (fun w hs=>Yb 0 Xn hs rfl rfl rfl)<|Fp 6 sh rfl (fun w=>Zw Zmk rfl)<|Fy 7 sh rfl hs (fun w hs=>Yb 0 Xn hs rfl rfl rfl)<|Fp 8 sh rfl (fun w=>Zn8 rfl rfl)<|Fp 9 sh rfl (fun w=>Ve rfl rfl)<|Fm 10 sh rfl<|Za4 (dj:=20) rfl (fun ae=>?_) (fun ae=>?_)
 rw [if_pos ae] at H
 refine Fp 11 sh rfl (fun w=>Zw Zmk rfl)<|Fy 12 sh rfl hs (fun w hs=>Yb 0 Xn hs rfl rfl rfl)<|Fp 13 sh rfl (fun w=>Zn8 rfl rfl)<|Fp 14 sh rfl (fun w=>Ve rfl rfl)<|Fm 15 sh rfl<|Za4 (dj:=25) rfl (fun af=>?_) (fun af=>?_)
 rw [if_pos af] at H
 refine Fp 16 sh rfl (fun w=>Qm rfl)<|Fp 17 sh rfl (fun w=>Zbw rfl rfl)<|Fp 18 sh rfl (fun w=>Qm rfl)<|Za4 (dj:=28) rfl (fun ag=>?_) (fun ag=>?_)
 rw [if_pos ag] at H
 refine Fn 19 sh rfl<|Fn 20 sh rfl<|Fn 21 sh rfl<|Fn 22 sh rfl<|Fn 23 sh rfl<|Fn 24 sh rfl<|Fn 25 sh rfl<|Fn 26 sh rfl<|Fn 27 sh rfl<|Fp 28 sh rfl (fun w=>Ve rfl rfl)<|Fp 29 sh rfl (fun w=>Ve rfl rfl)<|Fp 30 sh rfl (fun w=>Xz rfl)<|FE sh (ab _ _ _ (S1 rfl) (ac true _ H hs))
 rw [if_neg ag] at H
 refine Fp 19 sh rfl (fun w=>Zw Zme rfl)<|Fy 20 sh rfl hs (fun w hs=>Yb 0 Xn hs rfl rfl rfl)<|Fp 21 sh rfl (fun w=>Qm rfl)<|Fp 22 sh rfl (fun w=>Qm rfl)<|Fp 23 sh rfl (fun w=>Zc8 rfl rfl) ?_
 obtain ⟨aj,H⟩:=gd H
 obtain ⟨a0,a1,ar,au⟩:=h0.ix Zih aj.1 aj.2
 obtain ⟨_,rfl,av⟩:=ar
 refine Fp 24 sh rfl (fun w=>au rfl rfl)<|Fp 25 sh rfl (fun w=>Zw Zmk rfl)<|Fy 26 sh rfl hs (fun w hs=>Xq Xn rfl (hs.see (av 1 _ rfl)))<|Fp 27 sh rfl (fun w=>Zlq rfl rfl)<|Fp 28 sh rfl (fun w=>Qr rfl rfl)<|Fp 29 sh rfl (fun w=>Ve rfl rfl)<|Fp 30 sh rfl (fun w=>Xz rfl)<|FE sh (ab _ _ _ (S1 rfl) (ac (decide (((rd x0 (i64.wrap (x1-1))).hi)<((rd x0 x1).lo))) _ H hs))
 rw [if_neg af] at H
 refine Fn 16 sh rfl<|Fn 17 sh rfl<|Fn 18 sh rfl<|Fu 19 sh rfl<|Fu 20 sh rfl<|Fu 21 sh rfl<|Fu 22 sh rfl<|Fu 23 sh rfl<|Fu 24 sh rfl<|Fu 25 sh rfl<|Fu 26 sh rfl<|Fu 27 sh rfl<|Fn 28 sh rfl<|Fp 29 sh rfl (fun w=>Qr rfl rfl) ?_
 refine Fp 30 sh rfl (fun w=>Xz rfl)<|FE sh (ab _ _ _ (S1 rfl) (ac false _ H hs))
 rw [if_neg ae] at H
 refine Fn 11 sh rfl<|Fn 12 sh rfl<|Fn 13 sh rfl<|Fp 14 sh rfl (fun w=>Qr rfl rfl)<|Fm 15 sh rfl<|Fn 16 sh rfl<|Fn 17 sh rfl<|Fn 18 sh rfl<|Fu 19 sh rfl<|Fu 20 sh rfl<|Fu 21 sh rfl<|Fu 22 sh rfl<|Fu 23 sh rfl<|Fu 24 sh rfl ?_
 refine Fu 25 sh rfl<|Fu 26 sh rfl<|Fu 27 sh rfl<|Fn 28 sh rfl<|Fp 29 sh rfl (fun w=>Qr rfl rfl)<|Fp 30 sh rfl (fun w=>Xz rfl)<|FE sh (ab _ _ _ (S1 rfl) (ac false _ H hs))
 rw [if_neg ad] at H
 refine Fn 4 sh rfl<|Fn 5 sh rfl<|Fn 6 sh rfl<|Fn 7 sh rfl<|Fn 8 sh rfl<|Fp 9 sh rfl (fun w=>Qr rfl rfl)<|Fm 10 sh rfl<|Fn 11 sh rfl<|Fn 12 sh rfl<|Fn 13 sh rfl<|Fp 14 sh rfl (fun w=>Qr rfl rfl)<|Fm 15 sh rfl<|Fn 16 sh rfl<|Fn 17 sh rfl ?_
 refine Fn 18 sh rfl<|Fu 19 sh rfl<|Fu 20 sh rfl<|Fu 21 sh rfl<|Fu 22 sh rfl<|Fu 23 sh rfl<|Fu 24 sh rfl<|Fu 25 sh rfl<|Fu 26 sh rfl<|Fu 27 sh rfl<|Fn 28 sh rfl<|Fp 29 sh rfl (fun w=>Qr rfl rfl)<|Fp 30 sh rfl (fun w=>Xz rfl)<|FE sh (ab _ _ _ (S1 rfl) (ac false _ H hs))

def Ys.j1 (ad:Int→Option Int) (aa:Int) (ab:Bool):Option Int:=if ab=true then (some aa) else (ad (i64.wrap (aa+1)))
def Ys.l1:Nat→List Spn→List Bool→Int→Option Int
  | 0,_,_,_=>none
  | ac+1,x0,x1,aa=>if aa<(x0.length:Int) then ((Uf.f x0 aa).bind fun ak=>(if (!ak)=true then (Ys.j1 (Ys.l1 ac x0 x1) aa true) else (if (0:Int)≤aa∧aa<(x1.length:Int) then (Ys.j1 (Ys.l1 ac x0 x1) aa (rd x1 aa)) else none))) else (some (-1))
def Ys.f (x0:List Spn) (x1:List Bool):Option Int:=if 65536<(x0.length:Int) then (some 65536) else (Ys.l1 K0 x0 x1 0)
theorem Ys.c (hs:St w0 ρ (Γ) w) {v0:Value} {x0:List Spn} (h0:SlR Kj ρ v0 x0) {v1:Value} {x1:List Bool} (h1:SlR Rep.bool ρ v1 x1) {r:Int} (H:Ys.f x0 x1=some r):Zq Tryz.prog 54 [v0,v1] w (fun v w'=>v=.int .i64 r∧St w0 ρ Γ w'):=by
 rw [Ys.f] at H
 refine Et Tryz.func54 Tryz.ntmps54 rfl<|Wr fun a7 ao=>As rfl<|Ox ao<|Zi fun a8 ap=>Wr fun a9 aq=>Mv rfl<|O_y rfl (Yx Zvf h0 rfl)<|Ogt rfl<|Ox aq<|Xa rfl (fun af=>?_) (fun af=>?_)
 rw [if_pos af] at H
 refine Wr fun ba ar=>As rfl<|Ox ar<|Zm ?_
 obtain rfl:=Z4 H
 exact r1 rfl ⟨rfl,hs⟩
 rw [if_neg af] at H
 refine Wx ap<|Zi fun bb au=>Wr fun bc av=>Mv rfl<|O_y rfl (Yx Zvf h0 rfl)<|Mv rfl<|Ox av<|Zl fun bd aw be=>Xb (σ:=Nat×Int) (fun (ac,aa)=>[(0,v0),(1,v1),(10,.int .i64 (x0.length:Int)),(11,.int .i64 aa)]) (fun (ac,aa) w=>Ys.l1 ac x0 x1 aa=some r∧St w0 ρ (Γ) w) (fun s=>s.1) (K0,0) (T4 rfl) (Ai H hs) ?_
 rintro ⟨ac,aa⟩ w bf ⟨H,hs⟩ ae
 show W _ _ _ _ _ _ [(0,v0),(1,v1),(10,.int .i64 (x0.length:Int)),(11,.int .i64 aa)] w
 cases ac with
 | zero=>rw [Ys.l1] at H;cases H
 | succ ac=>
 rw [Ys.l1] at H
 refine Wr fun bg ax=>Ols rfl<|Ox ax<|Zi fun bh ay=>Xa rfl (fun ag=>?_) (fun ag=>?_)
 rw [if_pos ag] at H
 refine Wx ay<|Zi fun bi az=>Zl fun bj bk bl=>Wr fun bm a0=>Mv rfl<|As rfl<|Ox a0<|Yt fun a1 a2 al=>?_
 have am:∀ (ab:Bool) (w:World),Ys.j1 (Ys.l1 ac x0 x1) aa ab=some r→St w0 ρ (Γ) w→a1 [(0,v0),(1,v1),(5,.int .i64 aa),(10,.int .i64 (x0.length:Int)),(11,.int .i64 aa),(23,.bool ab)] w:=by
  intro ab w H hs
  rw [Ys.j1] at H
  refine a2 _ _<|Xh rfl (fun ah=>?_) (fun ah=>?_)
  rw [if_pos ah] at H
  refine Wr fun bn a3=>Mv rfl<|As rfl<|Ox a3<|Zm ?_
  obtain rfl:=Z4 H
  exact r1 rfl ⟨rfl,hs⟩
  rw [if_neg (bft ah)] at H
  refine Wx az<|Zc<|Oad rfl<|Mv rfl<|Zd (ae (ac,(i64.wrap (aa+1))) _ _ (T4 rfl) (Ai H hs) (Nat.lt_succ_self _))
 refine Zc<|Mv rfl<|Mv rfl ?_
 obtain ⟨ak,ai,H⟩:=bnd H
 refine Oc rfl (Uf.c hs h0 ai) (fun bo w hpost=>?_)
 obtain ⟨rfl,hs⟩:=hpost
 refine Ont rfl<|Mv rfl<|V9 (dj:=18) rfl (fun aj=>?_) (fun aj=>?_)
 rw [if_pos aj] at H
 refine On rfl<|On rfl<|On rfl<|On rfl<|Opk rfl<|Zd (al _ _ _ sbn (am true _ H hs))
 rw [if_neg (bft aj)] at H
 refine Oe rfl<|Mv rfl<|Oe rfl<|Mv rfl ?_
 obtain ⟨an,H⟩:=gd H
 obtain ⟨bp,bq,a4,a5⟩:=h1.ix Hk an.1 an.2
 refine Oe rfl<|O_y rfl (a5 rfl rfl)<|Oe rfl<|O_y rfl (Xq ag4 rfl (hs.see a4.bool))<|Opk rfl<|Zd (al _ _ _ sbn (am (rd x1 aa) _ H hs))
 rw [if_neg ag] at H
 refine Y5 (aw _ _ (au _ _<|Wr fun br a6=>As rfl<|Ox a6<|Zm ?_))
 obtain rfl:=Z4 H
 exact r1 rfl ⟨rfl,hs⟩

def Qq.l1:Nat→List Chs→List Spn→Int→Option (List Spn)
  | 0,_,_,_=>none
  | ae+1,x0,ab,aa=>if aa<(x0.length:Int) then (if (0:Int)≤aa∧aa<(x0.length:Int) then (if ab.length+([(⟨(rd x0 aa).lo,(rd x0 aa).hi⟩:Spn)]).length≤most then ((Qq.l1 ae x0) (ab++([(⟨(rd x0 aa).lo,(rd x0 aa).hi⟩:Spn)])) (i64.wrap (aa+1))) else none) else none) else (some ab)
def Qq.f (x0:List Chs):Option (List Spn):=Qq.l1 K0 x0 ([]:List Spn) 0
theorem Qq.c (hs:St w0 ρ (Γ) w) {v0:Value} {x0:List Chs} (h0:SlR Kz ρ v0 x0) {r:List Spn} (H:Qq.f x0=some r):Zq Tryz.prog 57 [v0] w (fun v w'=>∃ (ρ':Hp) (v0:Value) (cs0:List Value),v=v0∧Le ρ ρ'∧St w0 ρ' (.row v0 90 Kj.sz r.length cs0::Γ) w'∧Zp Kj ρ' cs0 r):=by
 rw [Qq.f] at H
 refine Et Tryz.func57 Tryz.ntmps57 rfl<|Wr fun a6 al=>As rfl<|Ox al<|Wr fun a7 am=>K6 (xs:=[]) (cs:=[]) Zih hs rfl rfl rfl (by decide) (by decide) rfl Ki X6 (fun an w hs=>?_)
 have ao:Zp Kj ρ ([]) ([]:List Spn):=Zp.nil _ _
 refine As rfl<|Ox am<|Zi fun a8 ap=>Wr fun a9 aq=>Mv rfl<|O_y rfl (Yx Znh h0 rfl)<|Mv rfl<|Ox aq<|Zl fun ba ar bb=>Xb (σ:=Nat×List Spn×Int×Value×List Value) (fun (ae,ab,aa,ac,ad)=>[(3,ac),(7,v0),(8,.int .i64 (x0.length:Int)),(9,.int .i64 aa)]) (fun (ae,ab,aa,ac,ad) w=>Qq.l1 ae x0 ab aa=some r∧St w0 ρ ((.row ac 90 Kj.sz ab.length ad)::Γ) w∧Zp Kj ρ ad ab) (fun s=>s.1) (K0,([]:List Spn),0,(.slice (some ⟨an,0,none⟩) 0 0),([])) (T4 rfl) (Ai H (Ai hs ao)) ?_
 rintro ⟨ae,ab,aa,ac,ad⟩ w bc ⟨H,hs,af⟩ ag
 show W _ _ _ _ _ _ [(3,ac),(7,v0),(8,.int .i64 (x0.length:Int)),(9,.int .i64 aa)] w
 cases ae with
 | zero=>rw [Qq.l1] at H;cases H
 | succ ae=>
 rw [Qq.l1] at H
 refine Wr fun bd au=>Ols rfl<|Ox au<|Zi fun be av=>Xa rfl (fun ah=>?_) (fun ah=>?_)
 rw [if_pos ah] at H
 refine Wx av<|Zi fun bf aw=>Zl fun bg bh bi=>Zi fun bj ax=>Zc ?_
 obtain ⟨aj,H⟩:=gd H
 obtain ⟨bk,bl,ay,az⟩:=h0.ix Zi5 aj.1 aj.2
 obtain ⟨_,⟨bm,rfl,a0⟩,a1⟩:=ay
 refine O_y rfl (az rfl rfl)<|O_y rfl (Q0 Znc Zfn rfl rfl (fun j u hu=>hs.see (a1 j u hu)))<|Y6 Zo4 hs rfl (fun bn w hs=>Ye (i:=0) Zfn hs rfl rfl rfl rfl rfl (Zb rfl (Zb rfl (Zb a0.one Ym))) (fun w hs=>Ox ax<|Zc<|Mv rfl<|Ofd Zf6 rfl<|Obx 0 Xn hs rfl<|Ofd Znv rfl<|Obx 0 Xn hs rfl<|O_y rfl (Qg (cs:=[.int .i32 ((rd x0 aa).lo),.int .i32 ((rd x0 aa).hi)]) Zt4 Zzd ((Z3.cons rfl rfl (Z3.cons rfl rfl Z3.nil))) Zui (by kernel_rfl))<|K6 (xs:=[.tmp 18]) (cs:=[.int .i32 ((rd x0 aa).lo),.int .i32 ((rd x0 aa).hi)]) Zih hs rfl rfl rfl (by decide) (by decide) rfl (Yd rfl Ki) (Zx rfl X6) (fun bo w hs=>?_)))
 have ak:Zp Kj ρ ([.int .i32 ((rd x0 aa).lo),.int .i32 ((rd x0 aa).hi)]) [(⟨(rd x0 aa).lo,(rd x0 aa).hi⟩:Spn)]:=Zp.cons (c:=[.int .i32 ((rd x0 aa).lo),.int .i32 ((rd x0 aa).hi)]) (x:=(⟨(rd x0 aa).lo,(rd x0 aa).hi⟩:Spn)) rfl (Zp.nil _ _)
 obtain ⟨a2,H⟩:=gd H
 refine Q3 (i:=2) Zih hs rfl af rfl rfl rfl (Src.lit (j:=0) hs rfl ak) ak a2 (fun a3 ai w a4 hs=>As rfl<|Ox aw<|W.weak [(3,_),(7,_),(8,_),(9,_)] (T4 rfl)<|Zc<|Oad rfl<|Mv rfl<|Zd (ag (ae,(ab++([(⟨(rd x0 aa).lo,(rd x0 aa).hi⟩:Spn)])),(i64.wrap (aa+1)),a3,ai) _ _ (T4 rfl) (Ai H (Ai (hs.sub (ssk (ssk (ssc ssr)))) a4)) (Nat.lt_succ_self _)))
 rw [if_neg ah] at H
 refine Y5 (ar _ _ (ap _ _<|Wr fun bp a5=>Mv rfl<|As rfl<|Ox a5<|Zm ?_))
 obtain rfl:=Z4 H
 exact r1 rfl ⟨_,_,_,rfl,Le.rfl' _,hs,af⟩

def Xc.j1 (ac:Bool):Option Bool:=some ac
def Xc.f (x0:Int):Option Bool:=if 4352≤x0 then (if x0≤4370 then (Xc.j1 true) else (if 4449≤x0 then (if x0≤4469 then (Xc.j1 true) else (if 4520≤x0 then (if x0≤4546 then (Xc.j1 true) else (if 44032≤x0 then (Xc.j1 (decide (x0≤55203))) else (Xc.j1 false))) else (if 44032≤x0 then (Xc.j1 (decide (x0≤55203))) else (Xc.j1 false)))) else (if 4520≤x0 then (if x0≤4546 then (Xc.j1 true) else (if 44032≤x0 then (Xc.j1 (decide (x0≤55203))) else (Xc.j1 false))) else (if 44032≤x0 then (Xc.j1 (decide (x0≤55203))) else (Xc.j1 false))))) else (if 4449≤x0 then (if x0≤4469 then (Xc.j1 true) else (if 4520≤x0 then (if x0≤4546 then (Xc.j1 true) else (if 44032≤x0 then (Xc.j1 (decide (x0≤55203))) else (Xc.j1 false))) else (if 44032≤x0 then (Xc.j1 (decide (x0≤55203))) else (Xc.j1 false)))) else (if 4520≤x0 then (if x0≤4546 then (Xc.j1 true) else (if 44032≤x0 then (Xc.j1 (decide (x0≤55203))) else (Xc.j1 false))) else (if 44032≤x0 then (Xc.j1 (decide (x0≤55203))) else (Xc.j1 false))))
theorem Xc.c (hs:St w0 ρ (Γ) w) {x0:Int} {r:Bool} (H:Xc.f x0=some r):Zq Tryz.prog 85 [.int .i32 x0] w (fun v w'=>v=.bool r∧St w0 ρ Γ w'):=by
 rw [Xc.f] at H
 refine Et Tryz.func85 Tryz.ntmps85 rfl<|Wr fun a4 a1=>As rfl<|Ox a1<|Yt fun a2 a3 aa=>?_
 have ab:∀ (ac:Bool) (w:World),Xc.j1 ac=some r→St w0 ρ (Γ) w→a2 [(2,.bool ac)] w:=by
  intro ac w H hs
  rw [Xc.j1] at H
  refine a3 _ _<|Zm ?_
  obtain rfl:=Z4 H
  exact r1 rfl ⟨rfl,hs⟩
 refine Zc<|Mv rfl<|Oge rfl<|Mv rfl<|X4 (dj:=5) rfl (fun ad=>?_) (fun ad=>?_)
 rw [if_pos ad] at H
 refine Oe rfl<|Mv rfl<|Oe rfl<|Ole rfl<|Opk rfl<|Mv rfl<|X4 (dj:=9) rfl (fun ae=>?_) (fun ae=>?_)
 rw [if_pos ae] at H
 refine On rfl<|On rfl<|On rfl<|Qx rfl rfl rfl<|Qx rfl rfl rfl<|On rfl<|Opk rfl<|Mv rfl<|On rfl<|On rfl<|On rfl<|Qx rfl rfl rfl<|Qx rfl rfl rfl<|On rfl ?_
 refine Opk rfl<|Mv rfl<|On rfl<|On rfl<|On rfl<|Qx rfl rfl rfl<|Qx rfl rfl rfl<|On rfl<|Opk rfl<|As rfl<|Zd (aa _ _ _ (S1 rfl) (ab true _ H hs))
 rw [if_neg ae] at H
 refine Oe rfl<|Mv rfl<|Oe rfl<|Oge rfl<|Oe rfl<|Mv rfl<|X4 (dj:=12) rfl (fun af=>?_) (fun af=>?_)
 rw [if_pos af] at H
 refine Oe rfl<|Mv rfl<|Oe rfl<|Ole rfl<|Oe rfl<|Opk rfl<|Opk rfl<|Mv rfl<|X4 (dj:=17) rfl (fun ag=>?_) (fun ag=>?_)
 rw [if_pos ag] at H
 refine On rfl<|On rfl<|On rfl<|Qx rfl rfl rfl<|Qx rfl rfl rfl<|On rfl<|Opk rfl<|Mv rfl<|On rfl<|On rfl<|On rfl<|Qx rfl rfl rfl<|Qx rfl rfl rfl<|On rfl ?_
 refine Opk rfl<|As rfl<|Zd (aa _ _ _ (S1 rfl) (ab true _ H hs))
 rw [if_neg ag] at H
 refine Oe rfl<|Mv rfl<|Oe rfl<|Oge rfl<|Oe rfl<|Mv rfl<|X4 (dj:=20) rfl (fun ah=>?_) (fun ah=>?_)
 rw [if_pos ah] at H
 refine Oe rfl<|Mv rfl<|Oe rfl<|Ole rfl<|Oe rfl<|Opk rfl<|Opk rfl<|Mv rfl<|X4 (dj:=25) rfl (fun ai=>?_) (fun ai=>?_)
 rw [if_pos ai] at H
 refine On rfl<|On rfl<|On rfl<|Qx rfl rfl rfl<|Qx rfl rfl rfl<|On rfl<|Opk rfl<|As rfl<|Zd (aa _ _ _ (S1 rfl) (ab true _ H hs))
 rw [if_neg ai] at H
 refine Oe rfl<|Mv rfl<|Oe rfl<|Oge rfl<|Oe rfl<|Mv rfl<|X4 (dj:=28) rfl (fun aj=>?_) (fun aj=>?_)
 rw [if_pos aj] at H
 refine Oe rfl<|Mv rfl<|Oe rfl<|Ole rfl<|Oe rfl<|Opk rfl<|Opk rfl<|As rfl<|Zd (aa _ _ _ (S1 rfl) (ab (decide (x0≤55203)) _ H hs))
 rw [if_neg aj] at H
 refine On rfl<|On rfl<|Oe rfl<|Opk rfl<|Opk rfl<|As rfl<|Zd (aa _ _ _ (S1 rfl) (ab false _ H hs))
 rw [if_neg ah] at H
 refine On rfl<|On rfl<|Oe rfl<|Opk rfl<|Opk rfl<|Mv rfl<|Oe rfl<|Mv rfl<|Oe rfl<|Oge rfl<|Oe rfl<|Mv rfl<|X4 (dj:=28) rfl (fun ak=>?_) (fun ak=>?_)
 rw [if_pos ak] at H
 refine Oe rfl<|Mv rfl<|Oe rfl<|Ole rfl<|Oe rfl<|Opk rfl<|Opk rfl<|As rfl<|Zd (aa _ _ _ (S1 rfl) (ab (decide (x0≤55203)) _ H hs))
 rw [if_neg ak] at H
 refine On rfl<|On rfl<|Oe rfl<|Opk rfl<|Opk rfl<|As rfl<|Zd (aa _ _ _ (S1 rfl) (ab false _ H hs))
 rw [if_neg af] at H
 refine On rfl<|On rfl<|Oe rfl<|Opk rfl<|Opk rfl<|Mv rfl<|Oe rfl<|Mv rfl<|Oe rfl<|Oge rfl<|Oe rfl<|Mv rfl<|X4 (dj:=20) rfl (fun al=>?_) (fun al=>?_)
 rw [if_pos al] at H
 refine Oe rfl<|Mv rfl<|Oe rfl<|Ole rfl<|Oe rfl<|Opk rfl<|Opk rfl<|Mv rfl<|X4 (dj:=25) rfl (fun am=>?_) (fun am=>?_)
 rw [if_pos am] at H
 refine On rfl<|On rfl<|On rfl<|Qx rfl rfl rfl<|Qx rfl rfl rfl<|On rfl<|Opk rfl<|As rfl<|Zd (aa _ _ _ (S1 rfl) (ab true _ H hs))
 rw [if_neg am] at H
 refine Oe rfl<|Mv rfl<|Oe rfl<|Oge rfl<|Oe rfl<|Mv rfl<|X4 (dj:=28) rfl (fun an=>?_) (fun an=>?_)
 rw [if_pos an] at H
 refine Oe rfl<|Mv rfl<|Oe rfl<|Ole rfl<|Oe rfl<|Opk rfl<|Opk rfl<|As rfl<|Zd (aa _ _ _ (S1 rfl) (ab (decide (x0≤55203)) _ H hs))
 rw [if_neg an] at H
 refine On rfl<|On rfl<|Oe rfl<|Opk rfl<|Opk rfl<|As rfl<|Zd (aa _ _ _ (S1 rfl) (ab false _ H hs))
 rw [if_neg al] at H
 refine On rfl<|On rfl<|Oe rfl<|Opk rfl<|Opk rfl<|Mv rfl<|Oe rfl<|Mv rfl<|Oe rfl<|Oge rfl<|Oe rfl<|Mv rfl<|X4 (dj:=28) rfl (fun ao=>?_) (fun ao=>?_)
 rw [if_pos ao] at H
 refine Oe rfl<|Mv rfl<|Oe rfl<|Ole rfl<|Oe rfl<|Opk rfl<|Opk rfl<|As rfl<|Zd (aa _ _ _ (S1 rfl) (ab (decide (x0≤55203)) _ H hs))
 rw [if_neg ao] at H
 refine On rfl<|On rfl<|Oe rfl<|Opk rfl<|Opk rfl<|As rfl<|Zd (aa _ _ _ (S1 rfl) (ab false _ H hs))
 rw [if_neg ad] at H
 refine On rfl<|On rfl<|Opk rfl<|Mv rfl<|Oe rfl<|Mv rfl<|Oe rfl<|Oge rfl<|Oe rfl<|Mv rfl<|X4 (dj:=12) rfl (fun ap=>?_) (fun ap=>?_)
 rw [if_pos ap] at H
 refine Oe rfl<|Mv rfl<|Oe rfl<|Ole rfl<|Oe rfl<|Opk rfl<|Opk rfl<|Mv rfl<|X4 (dj:=17) rfl (fun aq=>?_) (fun aq=>?_)
 rw [if_pos aq] at H
 refine On rfl<|On rfl<|On rfl<|Qx rfl rfl rfl<|Qx rfl rfl rfl<|On rfl<|Opk rfl<|Mv rfl<|On rfl<|On rfl<|On rfl<|Qx rfl rfl rfl<|Qx rfl rfl rfl<|On rfl ?_
 refine Opk rfl<|As rfl<|Zd (aa _ _ _ (S1 rfl) (ab true _ H hs))
 rw [if_neg aq] at H
 refine Oe rfl<|Mv rfl<|Oe rfl<|Oge rfl<|Oe rfl<|Mv rfl<|X4 (dj:=20) rfl (fun ar=>?_) (fun ar=>?_)
 rw [if_pos ar] at H
 refine Oe rfl<|Mv rfl<|Oe rfl<|Ole rfl<|Oe rfl<|Opk rfl<|Opk rfl<|Mv rfl<|X4 (dj:=25) rfl (fun au=>?_) (fun au=>?_)
 rw [if_pos au] at H
 refine On rfl<|On rfl<|On rfl<|Qx rfl rfl rfl<|Qx rfl rfl rfl<|On rfl<|Opk rfl<|As rfl<|Zd (aa _ _ _ (S1 rfl) (ab true _ H hs))
 rw [if_neg au] at H
 refine Oe rfl<|Mv rfl<|Oe rfl<|Oge rfl<|Oe rfl<|Mv rfl<|X4 (dj:=28) rfl (fun av=>?_) (fun av=>?_)
 rw [if_pos av] at H
 refine Oe rfl<|Mv rfl<|Oe rfl<|Ole rfl<|Oe rfl<|Opk rfl<|Opk rfl<|As rfl<|Zd (aa _ _ _ (S1 rfl) (ab (decide (x0≤55203)) _ H hs))
 rw [if_neg av] at H
 refine On rfl<|On rfl<|Oe rfl<|Opk rfl<|Opk rfl<|As rfl<|Zd (aa _ _ _ (S1 rfl) (ab false _ H hs))
 rw [if_neg ar] at H
 refine On rfl<|On rfl<|Oe rfl<|Opk rfl<|Opk rfl<|Mv rfl<|Oe rfl<|Mv rfl<|Oe rfl<|Oge rfl<|Oe rfl<|Mv rfl<|X4 (dj:=28) rfl (fun aw=>?_) (fun aw=>?_)
 rw [if_pos aw] at H
 refine Oe rfl<|Mv rfl<|Oe rfl<|Ole rfl<|Oe rfl<|Opk rfl<|Opk rfl<|As rfl<|Zd (aa _ _ _ (S1 rfl) (ab (decide (x0≤55203)) _ H hs))
 rw [if_neg aw] at H
 refine On rfl<|On rfl<|Oe rfl<|Opk rfl<|Opk rfl<|As rfl<|Zd (aa _ _ _ (S1 rfl) (ab false _ H hs))
 rw [if_neg ap] at H
 refine On rfl<|On rfl<|Oe rfl<|Opk rfl<|Opk rfl<|Mv rfl<|Oe rfl<|Mv rfl<|Oe rfl<|Oge rfl<|Oe rfl<|Mv rfl<|X4 (dj:=20) rfl (fun ax=>?_) (fun ax=>?_)
 rw [if_pos ax] at H
 refine Oe rfl<|Mv rfl<|Oe rfl<|Ole rfl<|Oe rfl<|Opk rfl<|Opk rfl<|Mv rfl<|X4 (dj:=25) rfl (fun ay=>?_) (fun ay=>?_)
 rw [if_pos ay] at H
 refine On rfl<|On rfl<|On rfl<|Qx rfl rfl rfl<|Qx rfl rfl rfl<|On rfl<|Opk rfl<|As rfl<|Zd (aa _ _ _ (S1 rfl) (ab true _ H hs))
 rw [if_neg ay] at H
 refine Oe rfl<|Mv rfl<|Oe rfl<|Oge rfl<|Oe rfl<|Mv rfl<|X4 (dj:=28) rfl (fun az=>?_) (fun az=>?_)
 rw [if_pos az] at H
 refine Oe rfl<|Mv rfl<|Oe rfl<|Ole rfl<|Oe rfl<|Opk rfl<|Opk rfl<|As rfl<|Zd (aa _ _ _ (S1 rfl) (ab (decide (x0≤55203)) _ H hs))
 rw [if_neg az] at H
 refine On rfl<|On rfl<|Oe rfl<|Opk rfl<|Opk rfl<|As rfl<|Zd (aa _ _ _ (S1 rfl) (ab false _ H hs))
 rw [if_neg ax] at H
 refine On rfl<|On rfl<|Oe rfl<|Opk rfl<|Opk rfl<|Mv rfl<|Oe rfl<|Mv rfl<|Oe rfl<|Oge rfl<|Oe rfl<|Mv rfl<|X4 (dj:=28) rfl (fun a0=>?_) (fun a0=>?_)
 rw [if_pos a0] at H
 refine Oe rfl<|Mv rfl<|Oe rfl<|Ole rfl<|Oe rfl<|Opk rfl<|Opk rfl<|As rfl<|Zd (aa _ _ _ (S1 rfl) (ab (decide (x0≤55203)) _ H hs))
 rw [if_neg a0] at H
 refine On rfl<|On rfl<|Oe rfl<|Opk rfl<|Opk rfl<|As rfl<|Zd (aa _ _ _ (S1 rfl) (ab false _ H hs))

def Yr.j1 (aq:List Bool→Int→Option (List Bool)) (aa:Int) (ae:List Bool):Option (List Bool):=aq ae (i64.wrap (aa+1))
def Yr.l1:Nat→List Chs→List Bool→Int→Option (List Bool)
  | 0,_,_,_=>none
  | aj+1,x0,ab,aa=>if aa<(x0.length:Int) then (if (0:Int)≤aa∧aa<(x0.length:Int) then (if (0:Int)≤aa∧aa<(ab.length:Int) then (if (rd ab aa)=true then (Yr.j1 (Yr.l1 aj x0) aa (ab.set aa.toNat true)) else (if ((rd x0 aa).lo)≠((rd x0 aa).hi) then (Yr.j1 (Yr.l1 aj x0) aa (ab.set aa.toNat true)) else ((Xc.f ((rd x0 aa).lo)).bind fun az=>(if az=true then (Yr.j1 (Yr.l1 aj x0) aa (ab.set aa.toNat true)) else ((Ku.f ((rd x0 aa).lo)).bind fun ar=>(Yr.j1 (Yr.l1 aj x0) aa (ab.set aa.toNat (!ar)))))))) else none) else none) else (some ab)
def Yr.f (x0:List Chs):Option (List Bool):=(Yc.f x0 2).bind fun ba=>(Yr.l1 K0 x0 ba 0)
theorem Yr.c (hs:St w0 ρ (Γ) w) {v0:Value} {x0:List Chs} (h0:SlR Kz ρ v0 x0) {r:List Bool} (H:Yr.f x0=some r):Zq Tryz.prog 58 [v0] w (fun v w'=>∃ (ρ':Hp) (v0:Value) (cs0:List Value),v=v0∧Le ρ ρ'∧St w0 ρ' (.row v0 4 Rep.bool.sz r.length cs0::Γ) w'∧Zp Rep.bool ρ' cs0 r):=by
 rw [Yr.f] at H
 refine Et Tryz.func58 Tryz.ntmps58 rfl<|Wr fun cc bo=>As rfl<|Ox bo<|Wr fun cd bp=>Mv rfl ?_
 obtain ⟨ba,bb,H⟩:=bnd H
 refine Oc rfl (Yc.c hs h0 bb) (fun bq w hpost=>?_)
 obtain ⟨a7,ce,bc,rfl,au,hs,br⟩:=hpost
 refine As rfl<|Ox bp<|Zi fun cf bs=>Wr fun cg bt=>Mv rfl<|O_y rfl (Yx Znh (h0.mono au) rfl)<|Mv rfl<|Ox bt<|Zl fun ch bu ci=>Xb (σ:=Nat×List Bool×Int×Value×List Value) (fun (aj,ab,aa,ad,ag)=>[(3,ad),(8,v0),(9,.int .i64 (x0.length:Int)),(10,.int .i64 aa)]) (fun (aj,ab,aa,ad,ag) w=>Yr.l1 aj x0 ab aa=some r∧St w0 a7 ((.row ad 4 Rep.bool.sz ab.length ag)::Γ) w∧Zp Rep.bool a7 ag ab) (fun s=>s.1) (K0,ba,0,bq,bc) (T4 rfl) (Ai H (Ai hs br)) ?_
 rintro ⟨aj,ab,aa,ad,ag⟩ w cj ⟨H,hs,ac⟩ av
 show W _ _ _ _ _ _ [(3,ad),(8,v0),(9,.int .i64 (x0.length:Int)),(10,.int .i64 aa)] w
 cases aj with
 | zero=>rw [Yr.l1] at H;cases H
 | succ aj=>
 rw [Yr.l1] at H
 refine Wr fun ck bv=>Ols rfl<|Ox bv<|Zi fun cl bw=>Xa rfl (fun bd=>?_) (fun bd=>?_)
 rw [if_pos bd] at H
 refine Wx bw<|Yt fun bx bz a8=>?_
 have a9:∀ (ae:List Bool) (ah:Value) (ai:List Value) (w:World),Yr.j1 (Yr.l1 aj x0) aa ae=some r→St w0 a7 ((.row ah 4 Rep.bool.sz ae.length ai)::Γ) w→Zp Rep.bool a7 ai ae→bx [(3,ah),(8,v0),(9,.int .i64 (x0.length:Int)),(10,.int .i64 aa)] w:=by
  intro ae ah ai w H hs ak
  rw [Yr.j1] at H
  refine bz _ _<|Zc<|Oad rfl<|Mv rfl<|Zd (av (aj,ae,(i64.wrap (aa+1)),ah,ai) _ _ (T4 rfl) (Ai H (Ai hs ak)) (Nat.lt_succ_self _))
 refine Zl fun cm cn co=>Wr fun cp b0=>Mv rfl ?_
 obtain ⟨bj,H⟩:=gd H
 obtain ⟨cq,cr,b1,b2⟩:=(h0.mono au).ix Zi5 bj.1 bj.2
 obtain ⟨_,⟨cs,rfl,b3⟩,b4⟩:=b1
 refine O_y rfl (b2 rfl rfl)<|O_y rfl (Q0 Znc Zfn rfl rfl (fun j u hu=>hs.see (b4 j u hu)))<|Y6 Zo4 hs rfl (fun ct w hs=>As rfl<|Ye (i:=0) Zfn hs rfl rfl rfl rfl rfl (Zb rfl (Zb rfl (Zb b3.one Ym))) (fun w hs=>Ox b0<|Zc<|Mv rfl<|Mv rfl<|Mv rfl<|Mv rfl ?_))
 obtain ⟨af,H⟩:=gd H
 obtain ⟨cu,al⟩:=hs.rowBlock (j:=1) rfl (by have:=af.2;omega)
 obtain ⟨_,rfl,a0⟩:=ac.at af.1 af.2
 refine O_y rfl (Vv (j:=1) Hk hs rfl al rfl rfl af.1 af.2)<|O_y rfl (Xq ag4 rfl (hs.rowCell (j:=1) rfl al (a0 0 _ rfl)))<|Mv rfl<|V9 (dj:=21) rfl (fun aw=>?_) (fun aw=>?_)
 rw [if_pos aw] at H
 refine On rfl<|On rfl<|On rfl<|On rfl<|On rfl<|Opk rfl<|Mv rfl<|On rfl<|On rfl<|On rfl<|Opk rfl<|Mv rfl<|On rfl<|On rfl ?_
 refine On rfl<|On rfl<|Opk rfl ?_
 obtain ⟨b5,am⟩:=hs.rowBlock (j:=1) rfl (by have:=af.2;omega)
 obtain ⟨_,rfl,bk⟩:=ac.at af.1 af.2
 refine O_y rfl (Vv (j:=1) Hk hs rfl am rfl rfl af.1 af.2)<|Zay (j:=1) sz4 hs rfl am af.1 af.2 ac rfl rfl rfl (fun a1 w be hs=>Zd (a8 _ _ _ (T4 rfl) (a9 (ab.set aa.toNat true) ad a1 _ H (hs.sub (ssk (ssc ssr))) be)))
 rw [if_neg (bft aw)] at H
 refine Oe rfl<|Ofd Zf6 rfl<|Oe rfl<|Obx 0 Xn hs rfl<|Oe rfl<|Ofd Znv rfl<|Oe rfl<|Obx 0 Xn hs rfl<|Oe rfl<|One rfl<|Opk rfl<|Mv rfl<|X4 (dj:=28) rfl (fun ax=>?_) (fun ax=>?_)
 rw [if_pos ax] at H
 refine On rfl<|On rfl<|On rfl<|Opk rfl<|Mv rfl<|On rfl<|On rfl<|On rfl<|On rfl<|Opk rfl ?_
 obtain ⟨b6,an⟩:=hs.rowBlock (j:=1) rfl (by have:=af.2;omega)
 obtain ⟨_,rfl,bl⟩:=ac.at af.1 af.2
 refine O_y rfl (Vv (j:=1) Hk hs rfl an rfl rfl af.1 af.2)<|Zay (j:=1) sz4 hs rfl an af.1 af.2 ac rfl rfl rfl (fun a2 w bf hs=>Zd (a8 _ _ _ (T4 rfl) (a9 (ab.set aa.toNat true) ad a2 _ H (hs.sub (ssk (ssc ssr))) bf)))
 rw [if_neg ax] at H
 refine Oe rfl<|Ofd Zf6 rfl<|Oe rfl<|Obx 0 Xn hs rfl<|Oe rfl ?_
 obtain ⟨az,a3,H⟩:=bnd H
 refine Oc rfl (Xc.c hs a3) (fun b7 w hpost=>?_)
 obtain ⟨rfl,hs⟩:=hpost
 refine Opk rfl<|Mv rfl<|V9 (dj:=33) rfl (fun ay=>?_) (fun ay=>?_)
 rw [if_pos ay] at H
 refine On rfl<|On rfl<|On rfl<|On rfl<|Opk rfl ?_
 obtain ⟨b8,ao⟩:=hs.rowBlock (j:=1) rfl (by have:=af.2;omega)
 obtain ⟨_,rfl,bm⟩:=ac.at af.1 af.2
 refine O_y rfl (Vv (j:=1) Hk hs rfl ao rfl rfl af.1 af.2)<|Zay (j:=1) sz4 hs rfl ao af.1 af.2 ac rfl rfl rfl (fun a4 w bg hs=>Zd (a8 _ _ _ (T4 rfl) (a9 (ab.set aa.toNat true) ad a4 _ H (hs.sub (ssk (ssc ssr))) bg)))
 rw [if_neg (bft ay)] at H
 refine Oe rfl<|Ofd Zf6 rfl<|Oe rfl<|Obx 0 Xn hs rfl<|Oe rfl ?_
 obtain ⟨ar,a5,H⟩:=bnd H
 refine Oc rfl (Ku.c hs a5) (fun b9 w hpost=>?_)
 obtain ⟨rfl,hs⟩:=hpost
 refine Oe rfl<|Ont rfl<|Opk rfl ?_
 obtain ⟨ca,ap⟩:=hs.rowBlock (j:=1) rfl (by have:=af.2;omega)
 obtain ⟨_,rfl,bn⟩:=ac.at af.1 af.2
 refine O_y rfl (Vv (j:=1) Hk hs rfl ap rfl rfl af.1 af.2)<|Zay (j:=1) sz4 hs rfl ap af.1 af.2 ac rfl rfl rfl (fun a6 w bh hs=>Zd (a8 _ _ _ (T4 rfl) (a9 (ab.set aa.toNat (!ar)) ad a6 _ H (hs.sub (ssk (ssc ssr))) bh)))
 rw [if_neg bd] at H
 refine Y5 (bu _ _ (bs _ _<|Wr fun cb bi=>Mv rfl<|As rfl<|Ox bi<|Zm ?_))
 obtain rfl:=Z4 H
 exact r1 rfl ⟨_,_,_,rfl,au,hs,ac⟩

end Go.Proofs.YthoicbafdanmkaaGreatDoor
/- Written by this repo's gen.py: for each Go function a Lean function with the same answers and the walk that shows it. -/
namespace Go.Proofs.YthoicbafdanmkaaGreatDoor
open Go.IntKind (i8 i16 i32 i64 u8 u16 u32 u64)
open Go.RowKit
set_option maxRecDepth 100000
set_option maxHeartbeats 4000000
variable {w0 w:World} {ρ:Hp} {Γ:List Kd}
set_option linter.unusedVariables false
def Ka.j1 (ad:Int→Option (List Int)) (x0:List Chs) (aa:Int) (ab:Bool):Option (List Int):=if ab=true then (some ((rd x0 aa).is_)) else (ad (i64.wrap (aa+1)))
def Ka.l1:Nat→List Chs→Int→Int→Option (List Int)
  | 0,_,_,_=>none
  | ac+1,x0,x1,aa=>if aa<(x0.length:Int) then (if (0:Int)≤aa∧aa<(x0.length:Int) then (if ((rd x0 aa).lo)≤x1 then (Ka.j1 (Ka.l1 ac x0 x1) x0 aa (decide (x1≤((rd x0 aa).hi)))) else (Ka.j1 (Ka.l1 ac x0 x1) x0 aa false)) else none) else (some ([]:List Int))
def Ka.f (x0:List Chs) (x1:Int):Option (List Int):=Ka.l1 K0 x0 x1 0
theorem Ka.c (hs:St w0 ρ (Γ) w) {v0:Value} {x0:List Chs} (h0:SlR Kz ρ v0 x0) {x1:Int} {r:List Int} (H:Ka.f x0 x1=some r):Zq Tryz.prog 169 [v0,.int .i32 x1] w (fun v w'=>∃ (ρ':Hp) (v0:Value),v=v0∧Le ρ ρ'∧St w0 ρ' (Γ) w'∧SlR (Rep.int .i32) ρ' v0 r):=by
 rw [Ka.f] at H
 refine Et Tryz.func169 Tryz.ntmps169 rfl<|Wr fun a6 an=>As rfl<|Ox an<|Zi fun a7 ao=>Wr fun a8 ap=>Mv rfl<|O_y rfl (Yx Znh h0 rfl)<|Mv rfl<|Ox ap<|Zl fun a9 aq ba=>Xb (σ:=Nat×Int) (fun (ac,aa)=>[(1,.int .i32 x1),(7,v0),(8,.int .i64 (x0.length:Int)),(9,.int .i64 aa)]) (fun (ac,aa) w=>Ka.l1 ac x0 x1 aa=some r∧St w0 ρ (Γ) w) (fun s=>s.1) (K0,0) (T4 rfl) (Ai H hs) ?_
 rintro ⟨ac,aa⟩ w bb ⟨H,hs⟩ ae
 show W _ _ _ _ _ _ [(1,.int .i32 x1),(7,v0),(8,.int .i64 (x0.length:Int)),(9,.int .i64 aa)] w
 cases ac with
 | zero=>rw [Ka.l1] at H;cases H
 | succ ac=>
 rw [Ka.l1] at H
 refine Wr fun bc ar=>Ols rfl<|Ox ar<|Zi fun bd au=>Xa rfl (fun af=>?_) (fun af=>?_)
 rw [if_pos af] at H
 refine Wx au<|Zi fun be av=>Zl fun bf bg bh=>Zi fun bi aw=>Zc ?_
 obtain ⟨ai,H⟩:=gd H
 obtain ⟨bj,bk,ax,ay⟩:=h0.ix Zi5 ai.1 ai.2
 obtain ⟨_,⟨az,rfl,aj⟩,a0⟩:=ax
 refine O_y rfl (ay rfl rfl)<|O_y rfl (Q0 Znc Zfn rfl rfl (fun j u hu=>hs.see (a0 j u hu)))<|Y6 Zo4 hs rfl (fun ak w hs=>Ye (i:=0) Zfn hs rfl rfl rfl rfl rfl (Zb rfl (Zb rfl (Zb aj.one Ym))) (fun w hs=>Ox aw<|Yt fun a1 a2 al=>?_))
 have am:∀ (ab:Bool) (w:World),Ka.j1 (Ka.l1 ac x0 x1) x0 aa ab=some r→St w0 ρ ((.box ak 87 ([.int .i32 ((rd x0 aa).lo),.int .i32 ((rd x0 aa).hi),az]))::Γ) w→a1 [(1,.int .i32 x1),(6,.pointer (some ⟨ak,0,none⟩)),(7,v0),(8,.int .i64 (x0.length:Int)),(9,.int .i64 aa),(22,.bool ab)] w:=by
  intro ab w H hs
  rw [Ka.j1] at H
  refine a2 _ _<|Xh rfl (fun ag=>?_) (fun ag=>?_)
  rw [if_pos ag] at H
  refine Wr fun bl a3=>Ofd Zct rfl<|Obx 0 Za1 hs rfl<|As rfl<|Ox a3<|Zm ?_
  obtain rfl:=Z4 H
  exact r1 rfl ⟨_,_,rfl,Le.rfl' _,(hs.sub (ssk ssr)),aj⟩
  rw [if_neg (bft ag)] at H
  refine Wx av<|Zc<|Oad rfl<|Mv rfl<|Zd (ae (ac,(i64.wrap (aa+1))) _ _ (T4 rfl) (Ai H (hs.sub (ssk ssr))) (Nat.lt_succ_self _))
 refine Zc<|Mv rfl<|Ofd Zf6 rfl<|Obx 0 Xn hs rfl<|Oge rfl<|Mv rfl<|X4 (dj:=17) rfl (fun ah=>?_) (fun ah=>?_)
 rw [if_pos ah] at H
 refine Oe rfl<|Mv rfl<|Oe rfl<|Ofd Znv rfl<|Oe rfl<|Obx 0 Xn hs rfl<|Oe rfl<|Ole rfl<|Opk rfl<|Zd (al _ _ _ sbn (am (decide (x1≤((rd x0 aa).hi))) _ H hs))
 rw [if_neg ah] at H
 refine On rfl<|On rfl<|On rfl<|On rfl<|Opk rfl<|Zd (al _ _ _ sbn (am false _ H hs))
 rw [if_neg af] at H
 refine Y5 (aq _ _ (ao _ _<|Wr fun bm a4=>As rfl<|Ox a4<|Zm ?_))
 have a5:SlR (Rep.int .i32) ρ (.slice none 0 0) []:=.inl ⟨rfl,none,0,rfl⟩
 obtain rfl:=Z4 H
 exact r1 rfl ⟨_,_,rfl,Le.rfl' _,hs,a5⟩

def Zau.f (x0:Bk) (x1:Int):Option (List Int):=(Ka.f x0.decomp x1).bind fun ac=>(some ac)
theorem Zau.c (hs:St w0 ρ (Γ) w) {c0:List Value} {x0:Bk} (h0:rBk.R ρ c0 x0) {x1:Int} {r:List Int} (H:Zau.f x0 x1=some r):Zq Tryz.prog 138 [.agg c0.toArray,.int .i32 x1] w (fun v w'=>∃ (ρ':Hp) (v0:Value),v=v0∧Le ρ ρ'∧St w0 ρ' (Γ) w'∧SlR (Rep.int .i32) ρ' v0 r):=by
 rw [Zau.f] at H
 refine Et Tryz.func138 Tryz.ntmps138 rfl ?_
 have ad:=h0
 obtain ⟨ae,af,ag,ah,ai,aj,ak,al,am,an,ao,rfl,av,aw,ax,ay,ap,az,a0,a1,a2,a3,a4⟩:=ad
 refine Wr fun a5 aq=>Vn (cs:=[ae,af,ag,ah,ai,aj,ak,al,am,an,ao]) hs rfl rfl (fun a6 w hs=>As rfl<|Ox aq<|Wr fun a7 ar=>Ofd Zhr rfl<|Obx 0 Zjv hs rfl<|Mv rfl ?_)
 obtain ⟨ac,aa,H⟩:=bnd H
 refine Oc rfl (Ka.c hs ap aa) (fun a8 w hpost=>?_)
 obtain ⟨a9,ba,rfl,ab,hs,au⟩:=hpost
 refine As rfl<|Ox ar<|Zm ?_
 obtain rfl:=Z4 H
 exact r1 rfl ⟨_,_,rfl,ab,(hs.sub (ssk ssr)),au⟩

def Xm.j1 (ag:Int→Int→Option Int) (aa ad:Int):Option Int:=ag ad (i64.wrap (aa+1))
def Xm.l1:Nat→(Bk→Int→Int→Option Int)→Bk→Int→List Int→Int→Int→Option Int
  | 0,_,_,_,_,_,_=>none
  | ac+1,rec,x0,x2,ae,ab,aa=>if aa<(ae.length:Int) then (if (0:Int)≤aa∧aa<(ae.length:Int) then (if ab≤18 then ((rec x0 (rd ae aa) (i64.wrap (x2+1))).bind fun ai=>(Xm.j1 (Xm.l1 ac rec x0 x2 ae) aa (i64.wrap (ab+ai)))) else (Xm.j1 (Xm.l1 ac rec x0 x2 ae) aa ab)) else none) else (if 18<ab then (some 19) else (some ab))
def Xm.b (rec:Bk→Int→Int→Option Int) (x0:Bk) (x1 x2:Int):Option Int:=(Zau.f x0 x1).bind fun ae=>(if (ae.length:Int)=0 then (some 1) else (if (x0.decomp.length:Int)<x2 then (some 19) else (Xm.l1 K0 rec x0 x2 ae 0 0)))
def Xm.f:Nat→Bk→Int→Int→Option Int
  | 0,_,_,_=>none
  | k+1,x0,x1,x2=>Xm.b (Xm.f k) x0 x1 x2
def Xm.Spec (rec:Bk→Int→Int→Option Int):Prop:=∀ {w0 w:World} {ρ:Hp} {Γ:List Kd} (hs:St w0 ρ (Γ) w) {c0:List Value} {x0:Bk} (h0:rBk.R ρ c0 x0) {x1 x2 r:Int},rec x0 x1 x2=some r→Zq Tryz.prog 86 [.agg c0.toArray,.int .i32 x1,.int .i64 x2] w (fun v w'=>v=.int .i64 r∧St w0 ρ Γ w')
theorem Xm.cb (rec:Bk→Int→Int→Option Int) (hrec:Xm.Spec rec) {w0 w:World} {ρ:Hp} {Γ:List Kd} (hs:St w0 ρ (Γ) w) {c0:List Value} {x0:Bk} (h0:rBk.R ρ c0 x0) {x1 x2 r:Int} (H:Xm.b rec x0 x1 x2=some r):Zq Tryz.prog 86 [.agg c0.toArray,.int .i32 x1,.int .i64 x2] w (fun v w'=>v=.int .i64 r∧St w0 ρ Γ w'):=by
 rw [Xm.b] at H
 refine Et Tryz.func86 Tryz.ntmps86 rfl ?_
 have bq:=h0
 obtain ⟨ar,au,av,aw,ax,ay,az,a0,a1,a2,a3,rfl,cm,cn,co,cp,br,cq,cr,ct,cu,cv,cw⟩:=bq
 refine Wr fun cx bs=>Vn (cs:=[ar,au,av,aw,ax,ay,az,a0,a1,a2,a3]) hs rfl rfl (fun am w hs=>As rfl<|Ox bs<|Wr fun cy bt=>O_y rfl (Xl (i:=0) Zkr Zfu hs rfl rfl rfl rfl)<|Mv rfl ?_)
 obtain ⟨ae,a4,H⟩:=bnd H
 refine Oc rfl (Zau.c hs h0 a4) (fun a5 w hpost=>?_)
 obtain ⟨bp,cz,rfl,af,hs,a6⟩:=hpost
 refine As rfl<|Ox bt<|Zi fun da bu=>Wr fun db bv=>Mv rfl<|O_y rfl (Yx Ua a6 rfl)<|Oeq rfl<|Ox bv<|Xa rfl (fun a7=>?_) (fun a7=>?_)
 rw [if_pos a7] at H
 refine Wr fun dc bw=>As rfl<|Ox bw<|Zm ?_
 obtain rfl:=Z4 H
 exact r1 rfl ⟨rfl,((hs.sub (ssk ssr)).less af)⟩
 rw [if_neg a7] at H
 refine Wx bu<|Zi fun dd bx=>Wr fun de bz=>Mv rfl<|Ofd Zhr rfl<|Obx 0 Zjv hs rfl<|O_y rfl (Yx Znh (br.mono af) rfl)<|Ogt rfl<|Ox bz<|W.weak [(2,_),(3,_),(7,_),(21,_)] (T4 rfl)<|Xa rfl (fun a8=>?_) (fun a8=>?_)
 rw [if_pos a8] at H
 refine Wr fun df b0=>As rfl<|Ox b0<|Zm ?_
 obtain rfl:=Z4 H
 exact r1 rfl ⟨rfl,((hs.sub (ssk ssr)).less af)⟩
 rw [if_neg a8] at H
 refine Wx bx<|Wr fun b1 a9=>As rfl<|Ox a9<|Zi fun b2 ba=>Wr fun b3 bb=>Mv rfl<|O_y rfl (Yx Ua a6 rfl)<|Mv rfl<|Ox bb<|Zl fun b4 bc b5=>Xb (σ:=Nat×Int×Int) (fun (ac,ab,aa)=>[(2,.int .i64 x2),(3,.pointer (some ⟨am,0,none⟩)),(8,.int .i64 ab),(22,a5),(23,.int .i64 (ae.length:Int)),(24,.int .i64 aa)]) (fun (ac,ab,aa) w=>Xm.l1 ac rec x0 x2 ae ab aa=some r∧St w0 bp ((.box am 34 ([ar,au,av,aw,ax,ay,az,a0,a1,a2,a3]))::Γ) w) (fun s=>s.1) (K0,0,0) sbn (Ai H hs) ?_
 rintro ⟨ac,ab,aa⟩ w b6 ⟨H,hs⟩ ah
 show W _ _ _ _ _ _ [(2,.int .i64 x2),(3,.pointer (some ⟨am,0,none⟩)),(8,.int .i64 ab),(22,a5),(23,.int .i64 (ae.length:Int)),(24,.int .i64 aa)] w
 cases ac with
 | zero=>rw [Xm.l1] at H;cases H
 | succ ac=>
 rw [Xm.l1] at H
 refine Wr fun b7 bd=>Ols rfl<|Ox bd<|Zi fun b8 be=>Xa rfl (fun aj=>?_) (fun aj=>?_)
 rw [if_pos aj] at H
 refine Wx be<|Yt fun bf bg an=>?_
 have ao:∀ (ad:Int) (w:World),Xm.j1 (Xm.l1 ac rec x0 x2 ae) aa ad=some r→St w0 bp ((.box am 34 ([ar,au,av,aw,ax,ay,az,a0,a1,a2,a3]))::Γ) w→bf [(2,.int .i64 x2),(3,.pointer (some ⟨am,0,none⟩)),(8,.int .i64 ad),(22,a5),(23,.int .i64 (ae.length:Int)),(24,.int .i64 aa)] w:=by
  intro ad w H hs
  rw [Xm.j1] at H
  refine bg _ _<|Zc<|Oad rfl<|Mv rfl<|Zd (ah (ac,ad,(i64.wrap (aa+1))) _ _ sbn (Ai H hs) (Nat.lt_succ_self _))
 refine Zl fun b9 ca cc=>Zi fun cd bh=>Zc ?_
 obtain ⟨ap,H⟩:=gd H
 obtain ⟨ce,cf,bi,bj⟩:=a6.ix Kk ap.1 ap.2
 refine O_y rfl (bj rfl rfl)<|O_y rfl (Xq Xn rfl (hs.see bi.int))<|As rfl<|Ox bh<|Wr fun cg bk=>Mv rfl<|Ole rfl<|Ox bk<|Xa rfl (fun ak=>?_) (fun ak=>?_)
 rw [if_pos ak] at H
 refine Zc<|Mv rfl<|O_y rfl (Xl (i:=0) Zkr Zfu hs rfl rfl rfl rfl)<|Mv rfl<|Mv rfl<|Oad rfl ?_
 obtain ⟨ai,aq,H⟩:=bnd H
 refine Oc rfl (hrec hs (rBk.mono af h0) aq) (fun ch w hpost=>?_)
 obtain ⟨rfl,hs⟩:=hpost
 refine Oad rfl<|As rfl<|Zd (an _ _ _ sbn (ao (i64.wrap (ab+ai)) _ H hs))
 rw [if_neg ak] at H
 exact Ui (an _ _ _ sbn (ao ab _ H hs))
 rw [if_neg aj] at H
 refine Y5 (bc _ _ (ba _ _<|Zi fun ci bl=>Wr fun cj bm=>Mv rfl<|Ogt rfl<|Ox bm<|Xa rfl (fun al=>?_) (fun al=>?_)))
 rw [if_pos al] at H
 refine Wr fun ck bn=>As rfl<|Ox bn<|Zm ?_
 obtain rfl:=Z4 H
 exact r1 rfl ⟨rfl,((hs.sub (ssk ssr)).less af)⟩
 rw [if_neg al] at H
 refine Wx bl<|Wr fun cl bo=>Mv rfl<|As rfl<|Ox bo<|Zm ?_
 obtain rfl:=Z4 H
 exact r1 rfl ⟨rfl,((hs.sub (ssk ssr)).less af)⟩
theorem Xm.c (k:Nat):Xm.Spec (Xm.f k):=by
 induction k with
 | zero=>intro w0 w ρ Γ hs c0 x0 h0 x1 x2 r H;exact nomatch (show (none:Option _)=some _ from H)
 | succ k ih=>intro w0 w ρ Γ hs c0 x0 h0 x1 x2 r H;exact Xm.cb (Xm.f k) ih hs h0 H

def Y4.j1 (ai:Int→Option Int) (aa ab:Int) (ad:Bool):Option Int:=if ad=true then (some aa) else (ai (i64.wrap (ab+1)))
def Y4.l1 (ae:Int→Option Int):Nat→Bk→Int→Int→Option Int
  | 0,_,_,_=>none
  | ac+1,x0,aa,ab=>if ab<((sub x0.decomp 0 aa).length:Int) then (if (0:Int)≤ab∧ab<((sub x0.decomp 0 aa).length:Int) then (if (((rd x0.decomp aa).is_).length:Int)=2 then (if (((rd (sub x0.decomp 0 aa) ab).is_).length:Int)=2 then (if (0:Int)≤0∧0<(((rd x0.decomp aa).is_).length:Int) then (if (0:Int)≤0∧0<(((rd (sub x0.decomp 0 aa) ab).is_).length:Int) then (if (rd ((rd x0.decomp aa).is_) 0)=(rd ((rd (sub x0.decomp 0 aa) ab).is_) 0) then (if (0:Int)≤1∧1<(((rd x0.decomp aa).is_).length:Int) then (if (0:Int)≤1∧1<(((rd (sub x0.decomp 0 aa) ab).is_).length:Int) then (Y4.j1 (Y4.l1 ae ac x0 aa) aa ab (decide ((rd ((rd x0.decomp aa).is_) 1)=(rd ((rd (sub x0.decomp 0 aa) ab).is_) 1)))) else none) else none) else (Y4.j1 (Y4.l1 ae ac x0 aa) aa ab false)) else none) else none) else (Y4.j1 (Y4.l1 ae ac x0 aa) aa ab false)) else (Y4.j1 (Y4.l1 ae ac x0 aa) aa ab false)) else none) else (ae (i64.wrap (aa+1)))
def Y4.l2:Nat→Bk→Int→Option Int
  | 0,_,_=>none
  | af+1,x0,aa=>if aa<(x0.decomp.length:Int) then (if (0:Int)≤aa∧aa<(x0.decomp.length:Int) then ((Xm.f K0 x0 ((rd x0.decomp aa).lo) 0).bind fun a1=>(if 18<a1 then (some aa) else (if (0:Int)≤0∧0≤aa∧aa≤(x0.decomp.length:Int) then (Y4.l1 (Y4.l2 af x0) K0 x0 aa 0) else none))) else none) else (some (-1))
def Y4.f (x0:Bk):Option Int:=Y4.l2 K0 x0 0
theorem Y4.c (hs:St w0 ρ (Γ) w) {c0:List Value} {x0:Bk} (h0:rBk.R ρ c0 x0) {r:Int} (H:Y4.f x0=some r):Zq Tryz.prog 59 [.agg c0.toArray] w (fun v w'=>v=.int .i64 r∧St w0 ρ Γ w'):=by
 rw [Y4.f] at H
 refine Et Tryz.func59 Tryz.ntmps59 rfl ?_
 have ch:=h0
 obtain ⟨a2,a3,a4,a5,ah,a6,a7,a8,a9,ba,bb,rfl,dw,dx,dy,dz,bl,ea,eb,ec,ed,ee,ef⟩:=ch
 refine Wr fun eg ci=>Vn (cs:=[a2,a3,a4,a5,ah,a6,a7,a8,a9,ba,bb]) hs rfl rfl (fun aj w hs=>As rfl<|Ox ci<|Zi fun eh cj=>Wr fun ei ck=>Ofd Zhr rfl<|Obx 0 Zjv hs rfl<|O_y rfl (Yx Znh bl rfl)<|Mv rfl<|Ox ck<|Zl fun ej cl ek=>?_)
 refine Xb (σ:=Nat×Int) (fun (af,aa)=>[(1,.pointer (some ⟨aj,0,none⟩)),(8,ah),(9,.int .i64 (x0.decomp.length:Int)),(10,.int .i64 aa)]) (fun (af,aa) w=>Y4.l2 af x0 aa=some r∧St w0 ρ ((.box aj 34 ([a2,a3,a4,a5,ah,a6,a7,a8,a9,ba,bb]))::Γ) w) (fun s=>s.1) (K0,0) (T4 rfl) (Ai H hs) ?_
 rintro ⟨af,aa⟩ w el ⟨H,hs⟩ ap
 show W _ _ _ _ _ _ [(1,.pointer (some ⟨aj,0,none⟩)),(8,ah),(9,.int .i64 (x0.decomp.length:Int)),(10,.int .i64 aa)] w
 cases af with
 | zero=>rw [Y4.l2] at H;cases H
 | succ af=>
 rw [Y4.l2] at H
 refine Wr fun em cm=>Ols rfl<|Ox cm<|Zi fun en cn=>Xa rfl (fun bm=>?_) (fun bm=>?_)
 ·rw [if_pos bm] at H
  refine Wx cn<|Zi fun eo co=>Zl fun ep eq er=>Wr fun es cp=>Mv rfl ?_
  obtain ⟨cg,H⟩:=gd H
  obtain ⟨cq,cr,bn,bo⟩:=bl.ix Zi5 cg.1 cg.2
  obtain ⟨_,⟨aq,rfl,ak⟩,bp⟩:=bn
  refine O_y rfl (bo rfl rfl)<|O_y rfl (Q0 Znc Zfn rfl rfl (fun j u hu=>hs.see (bp j u hu)))<|Y6 Zo4 hs rfl (fun ag w hs=>As rfl<|Ye (i:=0) Zfn hs rfl rfl rfl rfl rfl (Zb rfl (Zb rfl (Zb ak.one Ym))) (fun w hs=>Ox cp<|Zi fun ct bq=>Wr fun cu br=>O_y rfl (Xl (i:=1) Zkr Zfu hs rfl rfl rfl rfl)<|Ofd Zf6 rfl<|Obx 0 Xn hs rfl ?_))
  obtain ⟨a1,bc,H⟩:=bnd H
  refine Oc rfl ((Xm.c K0) hs h0 bc) (fun cv w hpost=>?_)
  obtain ⟨rfl,hs⟩:=hpost
  refine Ogt rfl<|Ox br<|W.weak [(1,_),(3,_),(4,_),(8,_),(9,_),(10,_),(19,_)] sbn ?_
  refine Xa rfl (fun ar=>?_) (fun ar=>?_)
  rw [if_pos ar] at H
  refine Wr fun cw bs=>Mv rfl<|As rfl<|Ox bs<|Zm ?_
  obtain rfl:=Z4 H
  exact r1 rfl ⟨rfl,(hs.sub (ssk (ssk ssr)))⟩
  rw [if_neg ar] at H
  refine Wx bq<|Wr fun cx bt=>Ofd Zhr rfl<|Obx 1 Zjv hs rfl<|Mv rfl ?_
  obtain ⟨au,H⟩:=gd H
  obtain ⟨av,bd,bu⟩:=bl.cut Zi5 au.1 au.2.1 au.2.2
  refine O_y rfl (bu rfl (.inl ⟨rfl,rfl⟩) (.inr ⟨_,_,rfl,rfl⟩))<|O_y rfl (Yx Znh bd rfl)<|Mv rfl<|Ox bt<|Zl fun cy bv cz=>Xb (σ:=Nat×Int) (fun (ac,ab)=>[(1,.pointer (some ⟨aj,0,none⟩)),(3,.int .i64 aa),(4,.pointer (some ⟨ag,0,none⟩)),(8,ah),(9,.int .i64 (x0.decomp.length:Int)),(10,.int .i64 aa),(24,av),(25,.int .i64 ((sub x0.decomp 0 aa).length:Int)),(26,.int .i64 ab)]) (fun (ac,ab) w=>Y4.l1 (Y4.l2 af x0) ac x0 aa ab=some r∧St w0 ρ ((.box ag 87 ([.int .i32 ((rd x0.decomp aa).lo),.int .i32 ((rd x0.decomp aa).hi),aq]))::(.box aj 34 ([a2,a3,a4,a5,ah,a6,a7,a8,a9,ba,bb]))::Γ) w) (fun s=>s.1) (K0,0) sbn (Ai H hs) ?_
  rintro ⟨ac,ab⟩ w da ⟨H,hs⟩ al
  show W _ _ _ _ _ _ [(1,.pointer (some ⟨aj,0,none⟩)),(3,.int .i64 aa),(4,.pointer (some ⟨ag,0,none⟩)),(8,ah),(9,.int .i64 (x0.decomp.length:Int)),(10,.int .i64 aa),(24,av),(25,.int .i64 ((sub x0.decomp 0 aa).length:Int)),(26,.int .i64 ab)] w
  cases ac with
  | zero=>rw [Y4.l1] at H;cases H
  | succ ac=>
  rw [Y4.l1] at H
  refine Wr fun db bw=>Ols rfl<|Ox bw<|Zi fun dc bx=>Xa rfl (fun aw=>?_) (fun aw=>?_)
  rw [if_pos aw] at H
  refine Wx bx<|Zi fun dd bz=>Zl fun de df dg=>Zi fun dh b0=>Zc ?_
  obtain ⟨be,H⟩:=gd H
  obtain ⟨di,dk,b1,b2⟩:=bd.ix Zi5 be.1 be.2
  obtain ⟨_,⟨bf,rfl,am⟩,b3⟩:=b1
  refine O_y rfl (b2 rfl rfl)<|O_y rfl (Q0 Znc Zfn rfl rfl (fun j u hu=>hs.see (b3 j u hu)))<|Y6 Zo4 hs rfl (fun bg w hs=>Ye (i:=0) Zfn hs rfl rfl rfl rfl rfl (Zb rfl (Zb rfl (Zb am.one Ym))) (fun w hs=>Ox b0<|Yt fun b4 b5 an=>?_))
  have ao:∀ (ad:Bool) (w:World),Y4.j1 (Y4.l1 (Y4.l2 af x0) ac x0 aa) aa ab ad=some r→St w0 ρ ((.box bg 87 ([.int .i32 ((rd (sub x0.decomp 0 aa) ab).lo),.int .i32 ((rd (sub x0.decomp 0 aa) ab).hi),bf]))::(.box ag 87 ([.int .i32 ((rd x0.decomp aa).lo),.int .i32 ((rd x0.decomp aa).hi),aq]))::(.box aj 34 ([a2,a3,a4,a5,ah,a6,a7,a8,a9,ba,bb]))::Γ) w→b4 [(1,.pointer (some ⟨aj,0,none⟩)),(3,.int .i64 aa),(4,.pointer (some ⟨ag,0,none⟩)),(8,ah),(9,.int .i64 (x0.decomp.length:Int)),(10,.int .i64 aa),(24,av),(25,.int .i64 ((sub x0.decomp 0 aa).length:Int)),(26,.int .i64 ab),(61,.bool ad)] w:=by
   intro ad w H hs
   rw [Y4.j1] at H
   refine b5 _ _<|Xh rfl (fun ax=>?_) (fun ax=>?_)
   rw [if_pos ax] at H
   refine Wr fun dl b6=>Mv rfl<|As rfl<|Ox b6<|Zm ?_
   obtain rfl:=Z4 H
   exact r1 rfl ⟨rfl,(hs.sub (ssk (ssk (ssk ssr))))⟩
   rw [if_neg (bft ax)] at H
   refine Wx bz<|Zc<|Oad rfl<|Mv rfl<|Zd (al (ac,(i64.wrap (ab+1))) _ _ sbn (Ai H (hs.sub (ssk (ssc (ssc ssr))))) (Nat.lt_succ_self _))
  refine Qt 32 [0,1,2,4,8,16,48,80,144,272,528,1024,3072,5120,9216,1024,33792,66560,132096,279552,525312,1049600,2097152,6291456,10485760,18874368,2097152,69206016,136314880,270532608,572522496,1075838976] [4294967292,4294967288,4294967280,4294967264,4294965248,4294967168,4294967040,4294966784,4294966272,4294965248,4290772992,4294959104,4294950912,4294934528,4294410240,4294866944,4294735872,4294473728,4293949440,4292870144,4290772992,0,4278190080,4261412864,4227858432,3154116608,4089446400,3821010944,3284140032,2210398208,0,0] [0,1,3,7,15,31,63,127,255,511,1023,2047,4095,8191,16383,2047,34815,100351,231423,524287,1048575,2097151,4194303,8388607,16777215,33554431,4194303,71303167,205520895,473956351,1073741823,2147483647] [] (fun w=>St w0 ρ ((.box bg 87 ([.int .i32 ((rd (sub x0.decomp 0 aa) ab).lo),.int .i32 ((rd (sub x0.decomp 0 aa) ab).hi),bf]))::(.box ag 87 ([.int .i32 ((rd x0.decomp aa).lo),.int .i32 ((rd x0.decomp aa).hi),aq]))::(.box aj 34 ([a2,a3,a4,a5,ah,a6,a7,a8,a9,ba,bb]))::Γ) w) Vr (by kernel_rfl) (fun sh=>?_)
  have hs:=hs.drew
  refine Fp 0 sh rfl (fun w=>Zw Zct rfl)<|Fy 1 sh rfl hs (fun w hs=>Yb 1 Za1 hs rfl rfl rfl)<|Fp 2 sh rfl (fun w=>Yx Ua ak rfl)<|Fp 3 sh rfl (fun w=>Zbw rfl rfl)<|Fm 4 sh rfl<|Za4 (dj:=34) rfl (fun ay=>?_) (fun ay=>?_)
  rw [if_pos ay] at H
  refine Fp 5 sh rfl (fun w=>Zw Zct rfl)<|Fy 6 sh rfl hs (fun w hs=>Yb 0 Za1 hs rfl rfl rfl)<|Fp 7 sh rfl (fun w=>Yx Ua am rfl)<|Fp 8 sh rfl (fun w=>Zbw rfl rfl)<|Fp 9 sh rfl (fun w=>Ve rfl rfl)<|Fm 10 sh rfl<|Za4 (dj:=40) rfl (fun az=>?_) (fun az=>?_)
  rw [if_pos az] at H
  refine Fp 11 sh rfl (fun w=>Zw Zct rfl)<|Fy 12 sh rfl hs (fun w hs=>Yb 1 Za1 hs rfl rfl rfl) ?_
  obtain ⟨bh,H⟩:=gd H
  obtain ⟨dm,dn,b7,b8⟩:=ak.ix Kk bh.1 bh.2
  refine Fp 13 sh rfl (fun w=>b8 rfl rfl)<|Fy 14 sh rfl hs (fun w hs=>Xq Xn rfl (hs.see b7.int))<|Fp 15 sh rfl (fun w=>Zw Zct rfl)<|Fy 16 sh rfl hs (fun w hs=>Yb 0 Za1 hs rfl rfl rfl) ?_
  obtain ⟨bi,H⟩:=gd H
  obtain ⟨dp,dq,b9,ca⟩:=am.ix Kk bi.1 bi.2
  refine Fp 17 sh rfl (fun w=>ca rfl rfl)<|Fy 18 sh rfl hs (fun w hs=>Xq Xn rfl (hs.see b9.int))<|Fp 19 sh rfl (fun w=>Zbw rfl rfl)<|Fp 20 sh rfl (fun w=>Ve rfl rfl)<|Fm 21 sh rfl<|Za4 (dj:=51) rfl (fun a0=>?_) (fun a0=>?_)
  rw [if_pos a0] at H
  refine Fp 22 sh rfl (fun w=>Zw Zct rfl)<|Fy 23 sh rfl hs (fun w hs=>Yb 1 Za1 hs rfl rfl rfl) ?_
  obtain ⟨bj,H⟩:=gd H
  obtain ⟨dr,ds,cb,cc⟩:=ak.ix Kk bj.1 bj.2
  refine Fp 24 sh rfl (fun w=>cc rfl rfl)<|Fy 25 sh rfl hs (fun w hs=>Xq Xn rfl (hs.see cb.int))<|Fp 26 sh rfl (fun w=>Zw Zct rfl)<|Fy 27 sh rfl hs (fun w hs=>Yb 0 Za1 hs rfl rfl rfl) ?_
  obtain ⟨bk,H⟩:=gd H
  obtain ⟨dt,du,cd,ce⟩:=am.ix Kk bk.1 bk.2
  refine Fp 28 sh rfl (fun w=>ce rfl rfl)<|Fy 29 sh rfl hs (fun w hs=>Xq Xn rfl (hs.see cd.int))<|Fp 30 sh rfl (fun w=>Zbw rfl rfl)<|Fp 31 sh rfl (fun w=>Ve rfl rfl)<|FE sh (an _ _ _ sbn (ao (decide ((rd ((rd x0.decomp aa).is_) 1)=(rd ((rd (sub x0.decomp 0 aa) ab).is_) 1))) _ H hs))
  rw [if_neg a0] at H
  refine Fn 22 sh rfl<|Fn 23 sh rfl<|Fn 24 sh rfl<|Fn 25 sh rfl<|Fn 26 sh rfl<|Fn 27 sh rfl<|Fn 28 sh rfl<|Fn 29 sh rfl<|Fn 30 sh rfl<|Fp 31 sh rfl (fun w=>Qr rfl rfl)<|FE sh (an _ _ _ sbn (ao false _ H hs))
  rw [if_neg az] at H
  refine Fn 11 sh rfl<|Fn 12 sh rfl<|Fn 13 sh rfl<|Fn 14 sh rfl<|Fn 15 sh rfl<|Fn 16 sh rfl<|Fn 17 sh rfl<|Fn 18 sh rfl<|Fn 19 sh rfl<|Fp 20 sh rfl (fun w=>Qr rfl rfl)<|Fm 21 sh rfl<|Fn 22 sh rfl<|Fn 23 sh rfl<|Fn 24 sh rfl ?_
  refine Fn 25 sh rfl<|Fn 26 sh rfl<|Fn 27 sh rfl<|Fn 28 sh rfl<|Fn 29 sh rfl<|Fn 30 sh rfl<|Fp 31 sh rfl (fun w=>Qr rfl rfl)<|FE sh (an _ _ _ sbn (ao false _ H hs))
  rw [if_neg ay] at H
  refine Fn 5 sh rfl<|Fn 6 sh rfl<|Fn 7 sh rfl<|Fn 8 sh rfl<|Fp 9 sh rfl (fun w=>Qr rfl rfl)<|Fm 10 sh rfl<|Fn 11 sh rfl<|Fn 12 sh rfl<|Fn 13 sh rfl<|Fn 14 sh rfl<|Fn 15 sh rfl<|Fn 16 sh rfl<|Fn 17 sh rfl<|Fn 18 sh rfl ?_
  refine Fn 19 sh rfl<|Fp 20 sh rfl (fun w=>Qr rfl rfl)<|Fm 21 sh rfl<|Fn 22 sh rfl<|Fn 23 sh rfl<|Fn 24 sh rfl<|Fn 25 sh rfl<|Fn 26 sh rfl<|Fn 27 sh rfl<|Fn 28 sh rfl<|Fn 29 sh rfl<|Fn 30 sh rfl<|Fp 31 sh rfl (fun w=>Qr rfl rfl)<|FE sh (an _ _ _ sbn (ao false _ H hs))
  rw [if_neg aw] at H
  refine Y5 (bv _ _ (co _ _<|Zc<|Oad rfl<|Mv rfl<|Zd (ap (af,(i64.wrap (aa+1))) _ _ (T4 rfl) (Ai H (hs.sub (ssk (ssc ssr)))) (Nat.lt_succ_self _))))
 rw [if_neg bm] at H
 refine Y5 (cl _ _ (cj _ _<|Wr fun dv cf=>As rfl<|Ox cf<|Zm ?_))
 obtain rfl:=Z4 H
 exact r1 rfl ⟨rfl,(hs.sub (ssk ssr))⟩

end Go.Proofs.YthoicbafdanmkaaGreatDoor
/- Written by this repo's gen.py: for each Go function a Lean function with the same answers and the walk that shows it. -/
namespace Go.Proofs.YthoicbafdanmkaaGreatDoor
open Go.IntKind (i8 i16 i32 i64 u8 u16 u32 u64)
open Go.RowKit
set_option maxRecDepth 100000
set_option maxHeartbeats 4000000
variable {w0 w:World} {ρ:Hp} {Γ:List Kd}
set_option linter.unusedVariables false
def Zf.j1 (ml:List Bool→Int→Option (Int×Int×Int)) (ap:Int) (bn:List Bool):Option (Int×Int×Int):=ml bn (i64.wrap (ap+1))
def Zf.l1:Nat→Bk→Int→Int→Int→Int→Int→Int→Int→Int→Int→Int→Int→Int→Option (Int×Int×Int)
  | 0,_,_,_,_,_,_,_,_,_,_,_,_,_=>none
  | hd+1,x0,ah,ai,aj,ak,al,am,an,ae,dl,dm,dn,aq=>if aq<(([ah,ai,aj,ak,al,am,an,ae,dl,dm,dn]).length:Int) then (if (0:Int)≤aq∧aq<(([ah,ai,aj,ak,al,am,an,ae,dl,dm,dn]).length:Int) then (if 0≤(rd ([ah,ai,aj,ak,al,am,an,ae,dl,dm,dn]) aq) then (some (i64.wrap (aq+1),rd ([ah,ai,aj,ak,al,am,an,ae,dl,dm,dn]) aq,100)) else ((Zf.l1 hd x0 ah ai aj ak al am an ae dl dm dn) (i64.wrap (aq+1)))) else none) else ((Y4.f x0).bind fun mm=>(if 0≤mm then (some (5,mm,100)) else (some (0,0,0))))
def Zf.t1 (x0:Bk) (ah ai aj ak al am an ae:Int):Option (Int×Int×Int):=(Ys.f x0.marks (List.replicate (x0.marks.length:Int).toNat false)).bind fun dl=>((Qj.f x0.script).bind fun nt=>((Yk.f x0.script 1 (x0.names.length:Int) false).bind fun nu=>((Ys.f nt nu).bind fun dm=>((Qq.f x0.like).bind fun nv=>((Yc.f x0.like 18).bind fun nw=>((Ys.f nv nw).bind fun dn=>(Zf.l1 K0 x0 ah ai aj ak al am an ae dl dm dn 0)))))))
def Zf.t2 (x0:Bk) (ba:List Bool) (bb:List Spn) (eo ep eq er es et eu:Int):Option (Int×Int×Int):=(Ys.f bb ba).bind fun mn=>(Zf.t1 x0 eo ep eq er es et eu mn)
def Zf.t3 (x0:Bk) (a1:List Spn) (ev ew ex ey ez e0 e1:Int):Option (Int×Int×Int):=(Yk.f x0.join 0 5 false).bind fun mo=>(Zf.t2 x0 mo a1 ev ew ex ey ez e0 e1)
def Zf.t4 (x0:Bk) (e2 e3 e4 e5 e6 e7 e8:Int):Option (Int×Int×Int):=(Qj.f x0.join).bind fun mp=>(Zf.t3 x0 mp e2 e3 e4 e5 e6 e7 e8)
def Zf.t5 (x0:Bk) (bc:List Bool) (bd:List Spn) (e9 fa fb fc fd fe:Int):Option (Int×Int×Int):=(Ys.f bd bc).bind fun mq=>(Zf.t4 x0 e9 fa fb fc fd fe mq)
def Zf.t6 (x0:Bk) (a2:List Spn) (ff fg fh fi fj fk:Int):Option (Int×Int×Int):=(Yk.f x0.bidi 0 22 false).bind fun mr=>(Zf.t5 x0 mr a2 ff fg fh fi fj fk)
def Zf.t7 (x0:Bk) (fl fm fn fo fp fq:Int):Option (Int×Int×Int):=(Qj.f x0.bidi).bind fun ms=>(Zf.t6 x0 ms fl fm fn fo fp fq)
def Zf.t8 (x0:Bk) (aa:List Bool) (fr fs ft fu fv:Int):Option (Int×Int×Int):=(Ys.f x0.excl aa).bind fun mt=>(Zf.t7 x0 fr fs ft fu fv mt)
def Zf.t9 (x0:Bk) (aa be:List Bool) (bf:List Spn) (fw fx fy fz:Int):Option (Int×Int×Int):=(Ys.f bf be).bind fun mu=>(Zf.t8 x0 aa fw fx fy fz mu)
def Zf.t10 (x0:Bk) (aa:List Bool) (a3:List Spn) (ga gb gc ge:Int):Option (Int×Int×Int):=(Yr.f x0.decomp).bind fun mv=>(Zf.t9 x0 aa mv a3 ga gb gc ge)
def Zf.t11 (x0:Bk) (aa:List Bool) (gf gg gh gi:Int):Option (Int×Int×Int):=(Qq.f x0.decomp).bind fun mw=>(Zf.t10 x0 aa mw gf gg gh gi)
def Zf.t12 (x0:Bk) (aa bg:List Bool) (bh:List Spn) (gj gk gl:Int):Option (Int×Int×Int):=(Ys.f bh bg).bind fun mx=>(Zf.t11 x0 aa gj gk gl mx)
def Zf.t13 (x0:Bk) (aa:List Bool) (a4:List Spn) (gm gn go:Int):Option (Int×Int×Int):=(Yk.f x0.class_ 1 254 true).bind fun my=>(Zf.t12 x0 aa my a4 gm gn go)
def Zf.t14 (x0:Bk) (aa:List Bool) (gp gq gr:Int):Option (Int×Int×Int):=(Qj.f x0.class_).bind fun mz=>(Zf.t13 x0 aa mz gp gq gr)
def Zf.t15 (x0:Bk) (ab aa:List Bool) (bi:List Spn) (gs gt:Int):Option (Int×Int×Int):=(Ys.f bi ab).bind fun m0=>(Zf.t14 x0 aa gs gt m0)
def Zf.t16 (x0:Bk) (ab aa:List Bool) (gu gv:Int):Option (Int×Int×Int):=(Qq.f x0.maps).bind fun m1=>(Zf.t15 x0 ab aa m1 gu gv)
def Zf.t17 (x0:Bk) (ab aa bj:List Bool) (bk:List Spn) (gw:Int):Option (Int×Int×Int):=(Ys.f bk bj).bind fun m2=>(Zf.t16 x0 ab aa gw m2)
def Zf.t18 (x0:Bk) (ab aa:List Bool) (a5:List Spn) (gx:Int):Option (Int×Int×Int):=(Yk.f x0.status 1 3 false).bind fun m3=>(Zf.t17 x0 ab aa m3 a5 gx)
def Zf.t19 (x0:Bk) (ab aa:List Bool) (gy:Int):Option (Int×Int×Int):=(Qj.f x0.status).bind fun m4=>(Zf.t18 x0 ab aa m4 gy)
def Zf.t20 (x0:Bk) (ab aa:List Bool):Option (Int×Int×Int):=(Qc.f x0.names).bind fun m5=>(Zf.t19 x0 ab aa m5)
def Zf.l2:Nat→Bk→List Bool→List Bool→Int→Option (Int×Int×Int)
  | 0,_,_,_,_=>none
  | he+1,x0,ab,aa,a7=>if a7<(x0.excl.length:Int) then (if (0:Int)≤a7∧a7<(x0.excl.length:Int) then ((Yv.f ((rd x0.excl a7).lo) ((rd x0.excl a7).hi)).bind fun hy=>(if aa.length+([hy]).length≤most then ((Zf.l2 he x0 ab) (aa++([hy])) (i64.wrap (a7+1))) else none)) else none) else (if (0:Int)≤(x0.marks.length:Int)∧(x0.marks.length:Int)≤(most:Int) then (Zf.t20 x0 ab aa ) else none)
def Zf.l3:Nat→Bk→List Bool→Int→Option (Int×Int×Int)
  | 0,_,_,_=>none
  | hj+1,x0,ab,ap=>if ap<(x0.maps.length:Int) then (if (0:Int)≤ap∧ap<(x0.maps.length:Int) then (if (0:Int)≤ap∧ap<(ab.length:Int) then (if (rd ab ap)=true then (Zf.j1 (Zf.l3 hj x0) ap (ab.set ap.toNat true)) else ((Kc.f (rd x0.maps ap) x0.status).bind fun m6=>(Zf.j1 (Zf.l3 hj x0) ap (ab.set ap.toNat m6)))) else none) else none) else (Zf.l2 K0 x0 ab ([]:List Bool) 0)
def Zf.f (x0:Bk):Option (Int×Int×Int):=(Yc.f x0.maps 18).bind fun r8=>(Zf.l3 K0 x0 r8 0)
theorem Zf.c (hs:St w0 ρ (Γ) w) {c0:List Value} {x0:Bk} (h0:rBk.R ρ c0 x0) {r:Int×Int×Int} (H:Zf.f x0=some r):Zq Tryz.prog 26 [.agg c0.toArray] w (fun v w'=>v=.tuple #[.int .i64 r.1,.int .i64 r.2.1,.int .i64 r.2.2]∧St w0 ρ Γ w'):=by
 rw [Zf.f] at H
 refine Et Tryz.func26 Tryz.ntmps26 rfl ?_
 have Bf:=h0
 obtain ⟨bq,bp,bo,bl,a8,bm,az,ax,a9,au,av,rfl,r9,nx,ny,r3,r4,r5,r6,r7,A6,A7,A8⟩:=Bf
 refine Wr fun Jw Bg=>Vn (cs:=[bq,bp,bo,bl,a8,bm,az,ax,a9,au,av]) hs rfl rfl (fun a0 w hs=>As rfl<|As rfl<|As rfl<|Ox Bg<|Wr fun Jx Bh=>Ofd Zpv rfl<|Obx 0 Zjv hs rfl ?_)
 obtain ⟨r8,sa,H⟩:=bnd H
 refine Oc rfl (Yc.c hs ny sa) (fun Bi w hpost=>?_)
 obtain ⟨ln,Jy,sb,rfl,aw,hs,Bj⟩:=hpost
 refine As rfl<|Ox Bh<|Zi fun Jz Bl=>Wr fun J0 Bm=>Ofd Zpv rfl<|Obx 1 Zjv hs rfl<|O_y rfl (Yx Znh (ny.mono aw) rfl)<|Mv rfl<|Ox Bm<|Zl fun J1 Bn J2=>Xb (σ:=Nat×List Bool×Int×Value×List Value) (fun (hj,ab,ap,ao,dp)=>[(1,.pointer (some ⟨a0,0,none⟩)),(5,ao),(19,bo),(20,.int .i64 (x0.maps.length:Int)),(21,.int .i64 ap)]) (fun (hj,ab,ap,ao,dp) w=>Zf.l3 hj x0 ab ap=some r∧St w0 ln ((.row ao 4 Rep.bool.sz ab.length dp)::(.box a0 34 ([bq,bp,bo,bl,a8,bm,az,ax,a9,au,av]))::Γ) w∧Zp Rep.bool ln dp ab) (fun s=>s.1) (K0,r8,0,Bi,sb) sbn (Ai H (Ai hs Bj)) ?_
 rintro ⟨hj,ab,ap,ao,dp⟩ w J3 ⟨H,hs,df⟩ m7
 show W _ _ _ _ _ _ [(1,.pointer (some ⟨a0,0,none⟩)),(5,ao),(19,bo),(20,.int .i64 (x0.maps.length:Int)),(21,.int .i64 ap)] w
 cases hj with
 | zero=>rw [Zf.l3] at H;cases H
 | succ hj=>
 rw [Zf.l3] at H
 refine Wr fun J4 Bo=>Ols rfl<|Ox Bo<|Zi fun Bp sc=>Xa rfl (fun m8=>?_) (fun m8=>?_)
 rw [if_pos m8] at H
 refine Wx sc<|Yt fun sd se nz=>?_
 have n0:∀ (bn:List Bool) (gz:Value) (ha:List Value) (w:World),Zf.j1 (Zf.l3 hj x0) ap bn=some r→St w0 ln ((.row gz 4 Rep.bool.sz bn.length ha)::(.box a0 34 ([bq,bp,bo,bl,a8,bm,az,ax,a9,au,av]))::Γ) w→Zp Rep.bool ln ha bn→sd [(1,.pointer (some ⟨a0,0,none⟩)),(5,gz),(19,bo),(20,.int .i64 (x0.maps.length:Int)),(21,.int .i64 ap)] w:=by
  intro bn gz ha w H hs ko
  rw [Zf.j1] at H
  refine se _ _<|Zc<|Oad rfl<|Mv rfl<|Zd (m7 (hj,bn,(i64.wrap (ap+1)),gz,ha) _ _ sbn (Ai H (Ai hs ko)) (Nat.lt_succ_self _))
 refine Zl fun Bq Br Bs=>Wr fun Bt sf=>Mv rfl ?_
 obtain ⟨n1,H⟩:=gd H
 obtain ⟨Bu,Bv,sg,si⟩:=(ny.mono aw).ix Zi5 n1.1 n1.2
 obtain ⟨_,⟨Bw,rfl,n2⟩,sj⟩:=sg
 refine O_y rfl (si rfl rfl)<|O_y rfl (Q0 Znc Zfn rfl rfl (fun j u hu=>hs.see (sj j u hu)))<|Y6 Zo4 hs rfl (fun Bx w hs=>As rfl<|Ye (i:=0) Zfn hs rfl rfl rfl rfl rfl (Zb rfl (Zb rfl (Zb n2.one Ym))) (fun w hs=>Ox sf<|Zc<|Mv rfl<|Mv rfl<|Mv rfl<|Mv rfl ?_))
 obtain ⟨dh,H⟩:=gd H
 obtain ⟨By,lp⟩:=hs.rowBlock (j:=1) rfl (by have:=dh.2;omega)
 obtain ⟨_,rfl,n3⟩:=df.at dh.1 dh.2
 refine O_y rfl (Vv (j:=1) Hk hs rfl lp rfl rfl dh.1 dh.2)<|O_y rfl (Xq ag4 rfl (hs.rowCell (j:=1) rfl lp (n3 0 _ rfl)))<|Mv rfl<|V9 (dj:=32) rfl (fun m9=>?_) (fun m9=>?_)
 rw [if_pos m9] at H
 refine On rfl<|On rfl<|On rfl<|On rfl<|Opk rfl ?_
 obtain ⟨Bz,lq⟩:=hs.rowBlock (j:=1) rfl (by have:=dh.2;omega)
 obtain ⟨_,rfl,A9⟩:=df.at dh.1 dh.2
 refine O_y rfl (Vv (j:=1) Hk hs rfl lq rfl rfl dh.1 dh.2)<|Zay (j:=1) sz4 hs rfl lq dh.1 dh.2 df rfl rfl rfl (fun n4 w sk hs=>Zd (nz _ _ _ sbn (n0 (ab.set ap.toNat true) ao n4 _ H (hs.sub (ssk (ssc (ssc ssr)))) sk)))
 rw [if_neg (bft m9)] at H
 refine Oe rfl<|O_y rfl (Xl (i:=0) Znc Zfn hs rfl rfl rfl rfl)<|Oe rfl<|Ofd Zqo rfl<|Oe rfl<|Obx 2 Zkl hs rfl<|Oe rfl ?_
 obtain ⟨m6,n5,H⟩:=bnd H
 refine Oc rfl (Kc.c hs ⟨_,rfl,n2⟩ (nx.mono aw) n5) (fun B0 w hpost=>?_)
 obtain ⟨rfl,hs⟩:=hpost
 refine Opk rfl ?_
 obtain ⟨B1,lr⟩:=hs.rowBlock (j:=1) rfl (by have:=dh.2;omega)
 obtain ⟨_,rfl,Ba⟩:=df.at dh.1 dh.2
 refine O_y rfl (Vv (j:=1) Hk hs rfl lr rfl rfl dh.1 dh.2)<|Zay (j:=1) sz4 hs rfl lr dh.1 dh.2 df rfl rfl rfl (fun n6 w sl hs=>Zd (nz _ _ _ sbn (n0 (ab.set ap.toNat m6) ao n6 _ H (hs.sub (ssk (ssc (ssc ssr)))) sl)))
 rw [if_neg m8] at H
 refine Y5 (Bn _ _ (Bl _ _<|Wr fun B2 sm=>K6 (xs:=[]) (cs:=[]) Hk hs rfl rfl rfl (by decide) (by decide) rfl Ki X6 (fun sn w hs=>?_)))
 have so:Zp Rep.bool ln ([]) ([]:List Bool):=Zp.nil _ _
 refine As rfl<|Ox sm<|Zi fun B3 sp=>Wr fun B4 sq=>Ofd Zt9 rfl<|Obx 2 Zw4 hs rfl<|O_y rfl (Yx Zvf (r5.mono aw) rfl)<|Mv rfl<|Ox sq<|Zl fun B5 sr B6=>Xb (σ:=Nat×List Bool×Int×Value×List Value) (fun (he,aa,a7,ad,di)=>[(1,.pointer (some ⟨a0,0,none⟩)),(5,ao),(8,ad),(42,bm),(43,.int .i64 (x0.excl.length:Int)),(44,.int .i64 a7)]) (fun (he,aa,a7,ad,di) w=>Zf.l2 he x0 ab aa a7=some r∧St w0 ln ((.row ad 4 Rep.bool.sz aa.length di)::(.row ao 4 Rep.bool.sz ab.length dp)::(.box a0 34 ([bq,bp,bo,bl,a8,bm,az,ax,a9,au,av]))::Γ) w∧Zp Rep.bool ln di aa) (fun s=>s.1) (K0,([]:List Bool),0,(.slice (some ⟨sn,0,none⟩) 0 0),([])) sbn (Ai H (Ai hs so)) ?_
 rintro ⟨he,aa,a7,ad,di⟩ w B7 ⟨H,hs,hg⟩ le
 show W _ _ _ _ _ _ [(1,.pointer (some ⟨a0,0,none⟩)),(5,ao),(8,ad),(42,bm),(43,.int .i64 (x0.excl.length:Int)),(44,.int .i64 a7)] w
 cases he with
 | zero=>rw [Zf.l2] at H;cases H
 | succ he=>
 rw [Zf.l2] at H
 refine Wr fun B8 ss=>Ols rfl<|Ox ss<|Zi fun B9 st=>Xa rfl (fun na=>?_) (fun na=>?_)
 rw [if_pos na] at H
 refine Wx st<|Zi fun Ea su=>Zl fun Eb Ec Ed=>Zi fun Ee sv=>Zc ?_
 obtain ⟨n7,H⟩:=gd H
 obtain ⟨Ef,Eg,sw,sx⟩:=(r5.mono aw).ix Zih n7.1 n7.2
 obtain ⟨_,rfl,sy⟩:=sw
 refine O_y rfl (sx rfl rfl)<|O_y rfl (Q0 Zui Zxy rfl rfl (fun j u hu=>hs.see (sy j u hu)))<|Y6 Zt4 hs rfl (fun Eh w hs=>Ye (i:=0) Zxy hs rfl rfl rfl rfl rfl (Zb rfl (Zb rfl Ym)) (fun w hs=>Ox sv<|Zc<|Mv rfl<|Ofd Zme rfl<|Obx 0 Xn hs rfl<|Ofd Zmk rfl<|Obx 0 Xn hs rfl ?_))
 obtain ⟨hy,n8,H⟩:=bnd H
 refine Oc rfl (Yv.c hs n8) (fun Ei w hpost=>?_)
 obtain ⟨rfl,hs⟩:=hpost
 refine K6 (xs:=[.tmp 53]) (cs:=[.bool hy]) Hk hs rfl rfl rfl (by decide) (by decide) rfl (Yd rfl Ki) (Zx rfl X6) (fun Ej w hs=>?_)
 have n9:Zp Rep.bool ln ([.bool hy]) [hy]:=Zp.cons (c:=[.bool hy]) (x:=hy) rfl (Zp.nil _ _)
 obtain ⟨s0,H⟩:=gd H
 refine Q3 (i:=2) Hk hs rfl hg rfl rfl rfl (Src.lit (j:=0) hs rfl n9) n9 s0 (fun s1 oa w s2 hs=>As rfl<|Ox su<|W.weak [(1,_),(5,_),(8,_),(42,_),(43,_),(44,_)] sbn ?_)
 refine Zc<|Oad rfl<|Mv rfl<|Zd (le (he,(aa++([hy])),(i64.wrap (a7+1)),s1,oa) _ _ sbn (Ai H (Ai (hs.sub (ssk (ssk (ssc (ssc (ssc ssr)))))) s2)) (Nat.lt_succ_self _))
 rw [if_neg na] at H
 refine Y5 (sr _ _ (sp _ _<|Zi fun Ek s3=>?_))
 obtain ⟨El,ag,hs,ob⟩:=hs.rowEnd (j:=1) df rfl
 obtain ⟨ar,af,hs,oc⟩:=hs.rowEnd (j:=0) (hg.mono ag) rfl
 refine Qt 73 [0,1,2,0,8,20,0,64,160,288,0,1024,2560,0,12288,0,32768,81920,0,262144,655360,1179648,0,4194304,10485760,0,33554432,83886080,150994944,0,536870912,0,3489660928,0,8589934592,21474836480,0,68719476736,171798691840,309237645312,0,1099511627776,2748779069440,0,8796093022208,21990232555520,39582418599936,0,140737488355328,0,562949953421312,1125899906842624,2251799813685248,4855443348258816,0,18014398509481984,45035996273704960,0,144115188075855872,0,576460752303423488,1152921504606846976,2666130979403333632,4683743612465315840,0,18446744073709551616,46116860184273879040,0,147573952589676412928,368934881474191032320,664082786653543858176,1189824070876586328580,4722366482869645213695] [4722366482869645213692,4722366482869645213688,2361183241434822606808,4722366482869645213671,4722366482869645213639,4722366482869645212864,4722366482869645213503,4722366482869645213247,4722366482869645212672,2361183241434822601728,4722366482869645210623,4722366482869645206527,4722366482869645189120,4722366482869645189119,2361183241434822443008,4722366482869645115391,4722366482869644984319,4722366482869641805824,4722366482869644427263,4722366482869643378687,4722366482869641019392,2361183241434801635328,4722366482869632630783,4722366482869615853567,4722366482869209006080,4722366482869544550399,4722366482869410332671,4722366482869108342784,2361183241429990768640,4722366482868034600959,4722366482863739633663,4722366482863202762751,2361183241391872933888,4722366482843875409919,4722366482809515671551,4722366481976292016128,4722366482663486783487,4722366482388608876543,4722366481770133585920,2361183235937264467968,4722366479571110330367,4722366475173063819263,4722366368520435924992,4722366456481366147071,4722366421296994058239,4722366342132156858368,2361174093498079510528,4722366060657180147711,4722357053457925406719,4722364794019784949759,4722362542219971264511,4722358038620343894015,4722349031421089153023,2361093169442275196928,4722312439674116767743,4722240382080078839807,4708387309626287194112,4721934137305417646079,4717322451286990258175,4720637100612734943231,4718331257603521249279,4713719571585093861375,4703919738795935662080,2268949521066274848768,4667026250648516558847,4593239274353678352383,2803905099203851845632,4279644625100615974911,3689348814741910323199,2361183241434822606848,0,0,0] [0,1,3,0,8,31,0,64,255,511,0,1024,4095,0,16383,0,32768,131071,0,262144,1048575,2097151,0,4194304,16777215,0,33554432,134217727,268435455,0,536870912,0,4294967295,0,8589934592,34359738367,0,68719476736,274877906943,549755813887,0,1099511627776,4398046511103,0,8796093022208,35184372088831,70368744177663,0,140737488355328,0,562949953421312,1688849860263936,3940649673949184,9007199254740991,0,18014398509481984,72057594037927935,0,144115188075855872,0,576460752303423488,1729382256910270464,4611686018427387903,9223372036854775807,0,18446744073709551616,73786976294838206463,0,147573952589676412928,590295810358705651711,1180591620717411303423,2361183241434822606847,4722366482869645213695] [] (fun w=>St w0 ar ((.box a0 34 ([bq,bp,bo,bl,a8,bm,az,ax,a9,au,av]))::Γ) w) Vr (by kernel_rfl) (fun sh=>?_)
 have hs:=hs.drew
 refine Fp 0 sh rfl (fun w=>Zw Zuy rfl)<|Fy 1 sh rfl hs (fun w hs=>Yb 0 Ztp hs rfl rfl rfl)<|Fp 3 sh rfl (fun w=>Zw Zqo rfl)<|Fy 4 sh rfl hs (fun w hs=>Yb 0 Zkl hs rfl rfl rfl)<|Fp 6 sh rfl (fun w=>Zw Zqo rfl)<|Fy 7 sh rfl hs (fun w hs=>Yb 0 Zkl hs rfl rfl rfl)<|Fp 10 sh rfl (fun w=>Zw Zpv rfl)<|Fy 11 sh rfl hs (fun w hs=>Yb 0 Zjv hs rfl rfl rfl)<|Fm 13 sh rfl<|Fp 15 sh rfl (fun w=>Zw Ztv rfl)<|Fy 16 sh rfl hs (fun w hs=>Yb 0 Zkl hs rfl rfl rfl)<|Fp 18 sh rfl (fun w=>Zw Ztv rfl)<|Fy 19 sh rfl hs (fun w hs=>Yb 0 Zkl hs rfl rfl rfl)<|Fp 22 sh rfl (fun w=>Zw Zhr rfl) ?_
 refine Fy 23 sh rfl hs (fun w hs=>Yb 0 Zjv hs rfl rfl rfl)<|Fp 25 sh rfl (fun w=>Zw Zhr rfl)<|Fy 26 sh rfl hs (fun w hs=>Yb 0 Zjv hs rfl rfl rfl)<|Fp 29 sh rfl (fun w=>Zw Zt9 rfl)<|Fy 30 sh rfl hs (fun w hs=>Yb 0 Zw4 hs rfl rfl rfl)<|Fm 31 sh rfl<|Fp 33 sh rfl (fun w=>Zw Zvx rfl)<|Fy 34 sh rfl hs (fun w hs=>Yb 0 Zkl hs rfl rfl rfl)<|Fp 36 sh rfl (fun w=>Zw Zvx rfl)<|Fy 37 sh rfl hs (fun w hs=>Yb 0 Zkl hs rfl rfl rfl)<|Fp 40 sh rfl (fun w=>Zw Zuw rfl)<|Fy 41 sh rfl hs (fun w hs=>Yb 0 Zkl hs rfl rfl rfl)<|Fp 43 sh rfl (fun w=>Zw Zuw rfl)<|Fy 44 sh rfl hs (fun w hs=>Yb 0 Zkl hs rfl rfl rfl) ?_
 refine Fp 47 sh rfl (fun w=>Zw Zue rfl)<|Fy 48 sh rfl hs (fun w hs=>Yb 0 Zw4 hs rfl rfl rfl)<|Fp 49 sh rfl (fun w=>Zw Zue rfl)<|Fy 50 sh rfl hs (fun w hs=>Yb 0 Zw4 hs rfl rfl rfl)<|Fp 51 sh rfl (fun w=>Yx Zvf (A6.mono ((aw.trans ag).trans af)) rfl) ?_
 obtain ⟨ay,H⟩:=gd H
 refine Fp 54 sh rfl (fun w=>Zw Ztu rfl)<|Fy 55 sh rfl hs (fun w hs=>Yb 0 Zkl hs rfl rfl rfl)<|Fp 57 sh rfl (fun w=>Zw Ztu rfl)<|Fy 58 sh rfl hs (fun w hs=>Yb 0 Zkl hs rfl rfl rfl)<|Fp 59 sh rfl (fun w=>Zw Zuy rfl)<|Fy 60 sh rfl hs (fun w hs=>Yb 0 Ztp hs rfl rfl rfl)<|Fp 61 sh rfl (fun w=>Yx Zhp (r9.mono ((aw.trans ag).trans af)) rfl)<|Fp 64 sh rfl (fun w=>Zw Zre rfl)<|Fy 65 sh rfl hs (fun w hs=>Yb 0 Zjv hs rfl rfl rfl)<|Fp 67 sh rfl (fun w=>Zw Zre rfl)<|Fy 68 sh rfl hs (fun w hs=>Yb 0 Zjv hs rfl rfl rfl)<|Zva fun dg ac=>?_
 have od:∀ (ah ai aj ak al am an ae:Int) (dq:Value) (dr:List Value) (kc:Hp) (w:World),Zf.t1 x0 ah ai aj ak al am an ae=some r→Le ar kc→St w0 kc ((.row dq 4 Rep.bool.sz ((List.replicate (x0.marks.length:Int).toNat false).length) dr)::(.box a0 34 ([bq,bp,bo,bl,a8,bm,az,ax,a9,au,av]))::Γ) w→Zp Rep.bool kc dr (List.replicate (x0.marks.length:Int).toNat false)→dg [] (fun w=>St w0 ar ((.box a0 34 ([bq,bp,bo,bl,a8,bm,az,ax,a9,au,av]))::Γ) w) 9 [46,45,42,39,38,35,32,28,27,24,21,20,17,14,12,9,8,5,2,52,68,67,65,64,61,60,59,58,57,55,54,51,50,49,48,47,44,43,41,40,37,36,34,33,31,30,29,26,25,23,22,19,18,16,15,13,11,10,7,6,4,3,1,0] [(1,.pointer (some ⟨a0,0,none⟩)),(59,.int .i64 ah),(66,.int .i64 ai),(71,.int .i64 aj),(78,.int .i64 ak),(85,.int .i64 al),(89,.int .i64 am),(96,.int .i64 an),(103,.int .i64 ae),(105,a9),(109,dq),(112,au),(115,au),(118,.int .i64 (x0.names.length:Int)),(122,av),(125,av)] w:=by
  intro ah ai aj ak al am an ae dq dr kc w H a6 hs ia
  rw [Zf.t1] at H
  refine (ac _ _ _ _ _ _).1 ?_
  obtain ⟨Em,hf,hs,s4⟩:=hs.rowEnd (j:=0) ia rfl
  refine F1 53 sh rfl (fun En s5=>?_)
  obtain ⟨dl,oe,H⟩:=bnd H
  refine Oc rfl (Ys.c hs (A6.mono ((((aw.trans ag).trans af).trans a6).trans hf)) s4 oe) (fun Eo w hpost=>?_)
  obtain ⟨rfl,hs⟩:=hpost
  refine Zd (s5 _ _ (fun _ _=>(hs.less (a6.trans hf)))<|F1 56 sh rfl (fun Ep s6=>?_))
  obtain ⟨nt,og,H⟩:=bnd H
  refine Oc rfl (Qj.c hs (A7.mono ((((aw.trans ag).trans af).trans a6).trans hf)) og) (fun Eq w hpost=>?_)
  obtain ⟨Er,Es,Bb,rfl,ib,hs,s7⟩:=hpost
  have nb:=hf.trans ib
  refine Zd (s6 _ _ (fun _ _=>((hs.less (a6.trans nb)).sub (ssk (ssc ssr))))<|F1 62 sh rfl (fun Et s8=>?_))
  obtain ⟨nu,oh,H⟩:=bnd H
  refine Oc rfl (Yk.c hs (A7.mono ((((aw.trans ag).trans af).trans a6).trans nb)) oh) (fun Eu w hpost=>?_)
  obtain ⟨Ev,Ew,Bc,rfl,hl,hs,s9⟩:=hpost
  have oi:=nb.trans hl
  refine Zd (s8 _ _ (fun _ _=>((hs.less (a6.trans oi)).sub (ssk (ssk (ssc ssr))))) ?_)
  obtain ⟨Ex,hm,hs,ta⟩:=hs.rowEnd (j:=1) (s7.mono hl) rfl
  have tb:=oi.trans hm
  obtain ⟨Ey,hn,hs,tc⟩:=hs.rowEnd (j:=0) (s9.mono hm) rfl
  have nc:=tb.trans hn
  refine F1 63 sh rfl (fun Ez td=>?_)
  obtain ⟨dm,oj,H⟩:=bnd H
  refine Oc rfl (Ys.c hs (ta.mono hn) tc oj) (fun E0 w hpost=>?_)
  obtain ⟨rfl,hs⟩:=hpost
  refine Zd (td _ _ (fun _ _=>(hs.less (a6.trans nc)))<|F1 66 sh rfl (fun E1 te=>?_))
  obtain ⟨nv,ok,H⟩:=bnd H
  refine Oc rfl (Qq.c hs (A8.mono ((((aw.trans ag).trans af).trans a6).trans nc)) ok) (fun E2 w hpost=>?_)
  obtain ⟨E3,E4,Bd,rfl,ic,hs,tf⟩:=hpost
  have nd:=nc.trans ic
  refine Zd (te _ _ (fun _ _=>((hs.less (a6.trans nd)).sub (ssk (ssc ssr))))<|F1 69 sh rfl (fun E5 tg=>?_))
  obtain ⟨nw,ol,H⟩:=bnd H
  refine Oc rfl (Yc.c hs (A8.mono ((((aw.trans ag).trans af).trans a6).trans nd)) ol) (fun E6 w hpost=>?_)
  obtain ⟨E7,E8,Be,rfl,ho,hs,th⟩:=hpost
  have om:=nd.trans ho
  refine Zd (tg _ _ (fun _ _=>((hs.less (a6.trans om)).sub (ssk (ssk (ssc ssr))))) ?_)
  obtain ⟨E9,hp,hs,ti⟩:=hs.rowEnd (j:=1) (tf.mono ho) rfl
  have tj:=om.trans hp
  obtain ⟨on,hq,hs,tk⟩:=hs.rowEnd (j:=0) (th.mono hp) rfl
  have oo:=tj.trans hq
  refine F1 70 sh rfl (fun Fa tl=>?_)
  obtain ⟨dn,op,H⟩:=bnd H
  refine Oc rfl (Ys.c hs (ti.mono hq) tk op) (fun Fb w hpost=>?_)
  obtain ⟨rfl,hs⟩:=hpost
  refine Zd (tl _ _ (fun _ _=>(hs.less (a6.trans oo)))<|F1 71 sh rfl (fun Fc tm=>K6 (xs:=[.tmp 59,.tmp 66,.tmp 71,.tmp 78,.tmp 85,.tmp 89,.tmp 96,.tmp 103,.tmp 110,.tmp 120,.tmp 127]) (cs:=[.int .i64 ah,.int .i64 ai,.int .i64 aj,.int .i64 ak,.int .i64 al,.int .i64 am,.int .i64 an,.int .i64 ae,.int .i64 dl,.int .i64 dm,.int .i64 dn]) Zt1 hs rfl rfl rfl (by decide) (by decide) rfl (Yd rfl (Yd rfl (Yd rfl (Yd rfl (Yd rfl (Yd rfl (Yd rfl (Yd rfl (Yd rfl (Yd rfl (Yd rfl Ki))))))))))) (Zx rfl (Zx rfl (Zx rfl (Zx rfl (Zx rfl (Zx rfl (Zx rfl (Zx rfl (Zx rfl (Zx rfl (Zx rfl X6))))))))))) (fun ne w hs=>?_)))
  have tn:Zp (Rep.int .i64) on ([.int .i64 ah,.int .i64 ai,.int .i64 aj,.int .i64 ak,.int .i64 al,.int .i64 am,.int .i64 an,.int .i64 ae,.int .i64 dl,.int .i64 dm,.int .i64 dn]) [ah,ai,aj,ak,al,am,an,ae,dl,dm,dn]:=Zp.cons (c:=[.int .i64 ah]) (x:=ah) rfl (Zp.cons (c:=[.int .i64 ai]) (x:=ai) rfl (Zp.cons (c:=[.int .i64 aj]) (x:=aj) rfl (Zp.cons (c:=[.int .i64 ak]) (x:=ak) rfl (Zp.cons (c:=[.int .i64 al]) (x:=al) rfl (Zp.cons (c:=[.int .i64 am]) (x:=am) rfl (Zp.cons (c:=[.int .i64 an]) (x:=an) rfl (Zp.cons (c:=[.int .i64 ae]) (x:=ae) rfl (Zp.cons (c:=[.int .i64 dl]) (x:=dl) rfl (Zp.cons (c:=[.int .i64 dm]) (x:=dm) rfl (Zp.cons (c:=[.int .i64 dn]) (x:=dn) rfl (Zp.nil _ _)))))))))))
  refine Zd (tm _ _ (fun _ _=>((hs.less (a6.trans oo)).sub (ssk (ssc ssr))))<|Fp 72 sh rfl (fun w=>Xz rfl)<|FE sh (s3 _ _<|W.weak [(1,_),(11,_)] (T2 rfl)<|Zi fun Fd tp=>Wr fun Fe tq=>Mv rfl<|O_y rfl (Hg (i:=0) Zxb hs rfl rfl)<|Mv rfl<|Ox tq<|Zl fun Ff tr Fg=>Xb (σ:=Nat×Int) (fun (hd,aq)=>[(1,.pointer (some ⟨a0,0,none⟩)),(129,.slice (some ⟨ne,0,none⟩) 11 11),(130,.int .i64 (([ah,ai,aj,ak,al,am,an,ae,dl,dm,dn]).length:Int)),(131,.int .i64 aq)]) (fun (hd,aq) w=>Zf.l1 hd x0 ah ai aj ak al am an ae dl dm dn aq=some r∧St w0 on ((.row (.slice (some ⟨ne,0,none⟩) 11 11) 3 ((Rep.int .i64).sz) (([ah,ai,aj,ak,al,am,an,ae,dl,dm,dn]).length) ([.int .i64 ah,.int .i64 ai,.int .i64 aj,.int .i64 ak,.int .i64 al,.int .i64 am,.int .i64 an,.int .i64 ae,.int .i64 dl,.int .i64 dm,.int .i64 dn]))::(.box a0 34 ([bq,bp,bo,bl,a8,bm,az,ax,a9,au,av]))::Γ) w) (fun s=>s.1) (K0,0) (T4 rfl) (Ai H hs) ?_))
  rintro ⟨hd,aq⟩ w Fh ⟨H,hs⟩ lf
  show W _ _ _ _ _ _ [(1,.pointer (some ⟨a0,0,none⟩)),(129,.slice (some ⟨ne,0,none⟩) 11 11),(130,.int .i64 (([ah,ai,aj,ak,al,am,an,ae,dl,dm,dn]).length:Int)),(131,.int .i64 aq)] w
  cases hd with
  | zero=>rw [Zf.l1] at H;cases H
  | succ hd=>
  rw [Zf.l1] at H
  refine Wr fun Fi ts=>Ols rfl<|Ox ts<|Zi fun Fj tt=>Xa rfl (fun nf=>?_) (fun nf=>?_)
  rw [if_pos nf] at H
  refine Wx tt<|Zi fun Fk tu=>Zl fun Fl Fm Fn=>Wr fun Fo tv=>Mv rfl ?_
  obtain ⟨kq,H⟩:=gd H
  obtain ⟨Fp,ls⟩:=hs.rowBlock (j:=0) rfl (by have:=kq.2;omega)
  obtain ⟨_,rfl,oq⟩:=tn.at kq.1 kq.2
  refine O_y rfl (Vv (j:=0) Zt1 hs rfl ls rfl rfl kq.1 kq.2)<|O_y rfl (Xq ag3 rfl (hs.rowCell (j:=0) rfl ls (oq 0 _ rfl)))<|As rfl<|As rfl<|Ox tv<|Wr fun Fq tw=>Mv rfl<|Oge rfl<|Ox tw<|Xa rfl (fun ng=>?_) (fun ng=>?_)
  rw [if_pos ng] at H
  refine Wr fun Fr tx=>Mv rfl<|Oad rfl<|Mv rfl<|As rfl<|As rfl<|As rfl<|Ox tx<|W.weak [(2,_),(3,_),(4,_)] (T3 rfl)<|Zm ?_
  obtain rfl:=Z4 H
  exact Zdc rfl rfl rfl rfl ⟨rfl,((hs.sub (ssk (ssk ssr))).less ((((((((((((aw.trans ag).trans af).trans a6).trans hf).trans ib).trans hl).trans hm).trans hn).trans ic).trans ho).trans hp).trans hq))⟩
  rw [if_neg ng] at H
  refine Wx tu<|Zc<|Oad rfl<|Mv rfl<|Zd (lf (hd,(i64.wrap (aq+1))) _ _ (T4 rfl) (Ai H hs) (Nat.lt_succ_self _))
  rw [if_neg nf] at H
  refine Y5 (tr _ _ (tp _ _<|Zi fun Fs ty=>Wr fun Ft tz=>O_y rfl (Xl (i:=1) Zkr Zfu hs rfl rfl rfl rfl) ?_))
  obtain ⟨mm,os,H⟩:=bnd H
  refine Oc rfl (Y4.c hs (rBk.mono ((((((((((((aw.trans ag).trans af).trans a6).trans hf).trans ib).trans hl).trans hm).trans hn).trans ic).trans ho).trans hp).trans hq) h0) os) (fun Fu w hpost=>?_)
  obtain ⟨rfl,hs⟩:=hpost
  refine As rfl<|Ox tz<|Wr fun Fv t0=>Mv rfl<|Oge rfl<|Ox t0<|Xa rfl (fun nh=>?_) (fun nh=>?_)
  rw [if_pos nh] at H
  refine Wr fun Fw ua=>Mv rfl<|As rfl<|As rfl<|As rfl<|Ox ua<|Zm ?_
  obtain rfl:=Z4 H
  exact Zdc rfl rfl rfl rfl ⟨rfl,((hs.sub (ssk (ssk ssr))).less ((((((((((((aw.trans ag).trans af).trans a6).trans hf).trans ib).trans hl).trans hm).trans hn).trans ic).trans ho).trans hp).trans hq))⟩
  rw [if_neg nh] at H
  refine Wx ty<|Wr fun Fx ub=>As rfl<|As rfl<|As rfl<|Ox ub<|Zm ?_
  obtain rfl:=Z4 H
  exact Zdc rfl rfl rfl rfl ⟨rfl,((hs.sub (ssk (ssk ssr))).less ((((((((((((aw.trans ag).trans af).trans a6).trans hf).trans ib).trans hl).trans hm).trans hn).trans ic).trans ho).trans hp).trans hq))⟩
 have ot:∀ (ba:List Bool) (bb:List Spn) (eo ep eq er es et eu:Int) (ds:Value) (dt:List Value) (du:Value) (dv:List Value) (br:Value) (bs:List Value) (hr:Hp) (w:World),Zf.t2 x0 ba bb eo ep eq er es et eu=some r→Le ar hr→St w0 hr ((.row ds 4 Rep.bool.sz ba.length dt)::(.row du 90 Kj.sz bb.length dv)::(.row br 4 Rep.bool.sz ((List.replicate (x0.marks.length:Int).toNat false).length) bs)::(.box a0 34 ([bq,bp,bo,bl,a8,bm,az,ax,a9,au,av]))::Γ) w→Zp Rep.bool hr dt ba→Zp Kj hr dv bb→Zp Rep.bool hr bs (List.replicate (x0.marks.length:Int).toNat false)→dg [] (fun w=>St w0 ar ((.box a0 34 ([bq,bp,bo,bl,a8,bm,az,ax,a9,au,av]))::Γ) w) 10 [45,42,39,38,35,32,28,27,24,21,20,17,14,12,9,8,5,2,52,68,67,65,64,61,60,59,58,57,55,54,51,50,49,48,47,44,43,41,40,37,36,34,33,31,30,29,26,25,23,22,19,18,16,15,13,11,10,7,6,4,3,1,0] [(1,.pointer (some ⟨a0,0,none⟩)),(59,.int .i64 eo),(66,.int .i64 ep),(71,.int .i64 eq),(78,.int .i64 er),(85,.int .i64 es),(89,.int .i64 et),(96,.int .i64 eu),(99,du),(102,ds),(105,a9),(109,br),(112,au),(115,au),(118,.int .i64 (x0.names.length:Int)),(122,av),(125,av)] w:=by
  intro ba bb eo ep eq er es et eu ds dt du dv br bs hr w H kr hs id ie ig
  rw [Zf.t2] at H
  refine (ac _ _ _ _ _ _).1 ?_
  obtain ⟨Fy,lt,hs,uc⟩:=hs.rowEnd (j:=1) ie rfl
  obtain ⟨ud,lu,hs,ue⟩:=hs.rowEnd (j:=0) (id.mono lt) rfl
  have ni:=lt.trans lu
  refine F1 46 sh rfl (fun Fz uf=>?_)
  obtain ⟨mn,ou,H⟩:=bnd H
  refine Oc rfl (Ys.c hs (uc.mono lu) ue ou) (fun F0 w hpost=>?_)
  obtain ⟨rfl,hs⟩:=hpost
  refine Zd (uf _ _ (fun _ _=>((hs.less (kr.trans ni)).sub (ssk (ssc ssr))))<|(Xr rfl (by kernel_rfl) (OD.weak [(1,_),(59,_),(66,_),(71,_),(78,_),(85,_),(89,_),(96,_),(103,_),(105,_),(109,_),(112,_),(115,_),(118,_),(122,_),(125,_)] sbn ((ac _ _ _ _ _ _).2 (od eo ep eq er es et eu mn br bs ud _ H (kr.trans ni) hs (ig.mono ni))))))
 have ov:∀ (a1:List Spn) (ev ew ex ey ez e0 e1:Int) (bt:Value) (bu:List Value) (bv:Value) (bw:List Value) (ih:Hp) (w:World),Zf.t3 x0 a1 ev ew ex ey ez e0 e1=some r→Le ar ih→St w0 ih ((.row bt 90 Kj.sz a1.length bu)::(.row bv 4 Rep.bool.sz ((List.replicate (x0.marks.length:Int).toNat false).length) bw)::(.box a0 34 ([bq,bp,bo,bl,a8,bm,az,ax,a9,au,av]))::Γ) w→Zp Kj ih bu a1→Zp Rep.bool ih bw (List.replicate (x0.marks.length:Int).toNat false)→dg [] (fun w=>St w0 ar ((.box a0 34 ([bq,bp,bo,bl,a8,bm,az,ax,a9,au,av]))::Γ) w) 11 [42,39,38,35,32,28,27,24,21,20,17,14,12,9,8,5,2,52,68,67,65,64,61,60,59,58,57,55,54,51,50,49,48,47,44,43,41,40,37,36,34,33,31,30,29,26,25,23,22,19,18,16,15,13,11,10,7,6,4,3,1,0] [(1,.pointer (some ⟨a0,0,none⟩)),(59,.int .i64 ev),(66,.int .i64 ew),(71,.int .i64 ex),(78,.int .i64 ey),(85,.int .i64 ez),(89,.int .i64 e0),(96,.int .i64 e1),(99,bt),(101,ax),(105,a9),(109,bv),(112,au),(115,au),(118,.int .i64 (x0.names.length:Int)),(122,av),(125,av)] w:=by
  intro a1 ev ew ex ey ez e0 e1 bt bu bv bw ih w H jz hs ii ij
  rw [Zf.t3] at H
  refine (ac _ _ _ _ _ _).1<|F1 45 sh rfl (fun F1 ug=>?_)
  obtain ⟨mo,ow,H⟩:=bnd H
  refine Oc rfl (Yk.c hs (r7.mono (((aw.trans ag).trans af).trans jz)) ow) (fun uh w hpost=>?_)
  obtain ⟨ui,F2,ox,rfl,kd,hs,uj⟩:=hpost
  refine Zd (ug _ _ (fun _ _=>((hs.less (jz.trans kd)).sub (ssk (ssk (ssk (ssc ssr))))))<|(Xr rfl (by kernel_rfl) (OD.weak [(1,_),(59,_),(66,_),(71,_),(78,_),(85,_),(89,_),(96,_),(99,_),(102,_),(105,_),(109,_),(112,_),(115,_),(118,_),(122,_),(125,_)] sbn ((ac _ _ _ _ _ _).2 (ot mo a1 ev ew ex ey ez e0 e1 uh ox bt bu bv bw ui _ H (jz.trans kd) hs uj (ii.mono kd) (ij.mono kd))))))
 have oy:∀ (e2 e3 e4 e5 e6 e7 e8:Int) (bx:Value) (bz:List Value) (ke:Hp) (w:World),Zf.t4 x0 e2 e3 e4 e5 e6 e7 e8=some r→Le ar ke→St w0 ke ((.row bx 4 Rep.bool.sz ((List.replicate (x0.marks.length:Int).toNat false).length) bz)::(.box a0 34 ([bq,bp,bo,bl,a8,bm,az,ax,a9,au,av]))::Γ) w→Zp Rep.bool ke bz (List.replicate (x0.marks.length:Int).toNat false)→dg [] (fun w=>St w0 ar ((.box a0 34 ([bq,bp,bo,bl,a8,bm,az,ax,a9,au,av]))::Γ) w) 12 [39,38,35,32,28,27,24,21,20,17,14,12,9,8,5,2,52,68,67,65,64,61,60,59,58,57,55,54,51,50,49,48,47,44,43,41,40,37,36,34,33,31,30,29,26,25,23,22,19,18,16,15,13,11,10,7,6,4,3,1,0] [(1,.pointer (some ⟨a0,0,none⟩)),(59,.int .i64 e2),(66,.int .i64 e3),(71,.int .i64 e4),(78,.int .i64 e5),(85,.int .i64 e6),(89,.int .i64 e7),(96,.int .i64 e8),(98,ax),(101,ax),(105,a9),(109,bx),(112,au),(115,au),(118,.int .i64 (x0.names.length:Int)),(122,av),(125,av)] w:=by
  intro e2 e3 e4 e5 e6 e7 e8 bx bz ke w H j0 hs ik
  rw [Zf.t4] at H
  refine (ac _ _ _ _ _ _).1<|F1 42 sh rfl (fun F3 uk=>?_)
  obtain ⟨mp,oz,H⟩:=bnd H
  refine Oc rfl (Qj.c hs (r7.mono (((aw.trans ag).trans af).trans j0)) oz) (fun ul w hpost=>?_)
  obtain ⟨um,F4,o0,rfl,ks,hs,un⟩:=hpost
  refine Zd (uk _ _ (fun _ _=>((hs.less (j0.trans ks)).sub (ssk (ssk (ssc ssr)))))<|(Xr rfl (by kernel_rfl) (OD.weak [(1,_),(59,_),(66,_),(71,_),(78,_),(85,_),(89,_),(96,_),(99,_),(101,_),(105,_),(109,_),(112,_),(115,_),(118,_),(122,_),(125,_)] sbn ((ac _ _ _ _ _ _).2 (ov mp e2 e3 e4 e5 e6 e7 e8 ul o0 bx bz um _ H (j0.trans ks) hs un (ik.mono ks))))))
 have o1:∀ (bc:List Bool) (bd:List Spn) (e9 fa fb fc fd fe:Int) (dw:Value) (dx:List Value) (dy:Value) (dz:List Value) (b0:Value) (b1:List Value) (ht:Hp) (w:World),Zf.t5 x0 bc bd e9 fa fb fc fd fe=some r→Le ar ht→St w0 ht ((.row dw 4 Rep.bool.sz bc.length dx)::(.row dy 90 Kj.sz bd.length dz)::(.row b0 4 Rep.bool.sz ((List.replicate (x0.marks.length:Int).toNat false).length) b1)::(.box a0 34 ([bq,bp,bo,bl,a8,bm,az,ax,a9,au,av]))::Γ) w→Zp Rep.bool ht dx bc→Zp Kj ht dz bd→Zp Rep.bool ht b1 (List.replicate (x0.marks.length:Int).toNat false)→dg [] (fun w=>St w0 ar ((.box a0 34 ([bq,bp,bo,bl,a8,bm,az,ax,a9,au,av]))::Γ) w) 13 [38,35,32,28,27,24,21,20,17,14,12,9,8,5,2,52,68,67,65,64,61,60,59,58,57,55,54,51,50,49,48,47,44,43,41,40,37,36,34,33,31,30,29,26,25,23,22,19,18,16,15,13,11,10,7,6,4,3,1,0] [(1,.pointer (some ⟨a0,0,none⟩)),(59,.int .i64 e9),(66,.int .i64 fa),(71,.int .i64 fb),(78,.int .i64 fc),(85,.int .i64 fd),(89,.int .i64 fe),(92,dy),(95,dw),(98,ax),(101,ax),(105,a9),(109,b0),(112,au),(115,au),(118,.int .i64 (x0.names.length:Int)),(122,av),(125,av)] w:=by
  intro bc bd e9 fa fb fc fd fe dw dx dy dz b0 b1 ht w H kt hs il im io
  rw [Zf.t5] at H
  refine (ac _ _ _ _ _ _).1 ?_
  obtain ⟨F5,lv,hs,uo⟩:=hs.rowEnd (j:=1) im rfl
  obtain ⟨up,lw,hs,uq⟩:=hs.rowEnd (j:=0) (il.mono lv) rfl
  have nj:=lv.trans lw
  refine F1 39 sh rfl (fun F6 ur=>?_)
  obtain ⟨mq,o2,H⟩:=bnd H
  refine Oc rfl (Ys.c hs (uo.mono lw) uq o2) (fun F7 w hpost=>?_)
  obtain ⟨rfl,hs⟩:=hpost
  refine Zd (ur _ _ (fun _ _=>((hs.less (kt.trans nj)).sub (ssk (ssc ssr))))<|(Xr rfl (by kernel_rfl) (OD.weak [(1,_),(59,_),(66,_),(71,_),(78,_),(85,_),(89,_),(96,_),(98,_),(101,_),(105,_),(109,_),(112,_),(115,_),(118,_),(122,_),(125,_)] sbn ((ac _ _ _ _ _ _).2 (oy e9 fa fb fc fd fe mq b0 b1 up _ H (kt.trans nj) hs (io.mono nj))))))
 have o3:∀ (a2:List Spn) (ff fg fh fi fj fk:Int) (b2:Value) (b3:List Value) (b4:Value) (b5:List Value) (ip:Hp) (w:World),Zf.t6 x0 a2 ff fg fh fi fj fk=some r→Le ar ip→St w0 ip ((.row b2 90 Kj.sz a2.length b3)::(.row b4 4 Rep.bool.sz ((List.replicate (x0.marks.length:Int).toNat false).length) b5)::(.box a0 34 ([bq,bp,bo,bl,a8,bm,az,ax,a9,au,av]))::Γ) w→Zp Kj ip b3 a2→Zp Rep.bool ip b5 (List.replicate (x0.marks.length:Int).toNat false)→dg [] (fun w=>St w0 ar ((.box a0 34 ([bq,bp,bo,bl,a8,bm,az,ax,a9,au,av]))::Γ) w) 14 [35,32,28,27,24,21,20,17,14,12,9,8,5,2,52,68,67,65,64,61,60,59,58,57,55,54,51,50,49,48,47,44,43,41,40,37,36,34,33,31,30,29,26,25,23,22,19,18,16,15,13,11,10,7,6,4,3,1,0] [(1,.pointer (some ⟨a0,0,none⟩)),(59,.int .i64 ff),(66,.int .i64 fg),(71,.int .i64 fh),(78,.int .i64 fi),(85,.int .i64 fj),(89,.int .i64 fk),(92,b2),(94,az),(98,ax),(101,ax),(105,a9),(109,b4),(112,au),(115,au),(118,.int .i64 (x0.names.length:Int)),(122,av),(125,av)] w:=by
  intro a2 ff fg fh fi fj fk b2 b3 b4 b5 ip w H j2 hs iq ir
  rw [Zf.t6] at H
  refine (ac _ _ _ _ _ _).1<|F1 38 sh rfl (fun F8 us=>?_)
  obtain ⟨mr,o4,H⟩:=bnd H
  refine Oc rfl (Yk.c hs (r6.mono (((aw.trans ag).trans af).trans j2)) o4) (fun ut w hpost=>?_)
  obtain ⟨uu,F9,o5,rfl,kf,hs,uv⟩:=hpost
  refine Zd (us _ _ (fun _ _=>((hs.less (j2.trans kf)).sub (ssk (ssk (ssk (ssc ssr))))))<|(Xr rfl (by kernel_rfl) (OD.weak [(1,_),(59,_),(66,_),(71,_),(78,_),(85,_),(89,_),(92,_),(95,_),(98,_),(101,_),(105,_),(109,_),(112,_),(115,_),(118,_),(122,_),(125,_)] sbn ((ac _ _ _ _ _ _).2 (o1 mr a2 ff fg fh fi fj fk ut o5 b2 b3 b4 b5 uu _ H (j2.trans kf) hs uv (iq.mono kf) (ir.mono kf))))))
 have o6:∀ (fl fm fn fo fp fq:Int) (b6:Value) (b7:List Value) (kg:Hp) (w:World),Zf.t7 x0 fl fm fn fo fp fq=some r→Le ar kg→St w0 kg ((.row b6 4 Rep.bool.sz ((List.replicate (x0.marks.length:Int).toNat false).length) b7)::(.box a0 34 ([bq,bp,bo,bl,a8,bm,az,ax,a9,au,av]))::Γ) w→Zp Rep.bool kg b7 (List.replicate (x0.marks.length:Int).toNat false)→dg [] (fun w=>St w0 ar ((.box a0 34 ([bq,bp,bo,bl,a8,bm,az,ax,a9,au,av]))::Γ) w) 15 [32,28,27,24,21,20,17,14,12,9,8,5,2,52,68,67,65,64,61,60,59,58,57,55,54,51,50,49,48,47,44,43,41,40,37,36,34,33,31,30,29,26,25,23,22,19,18,16,15,13,11,10,7,6,4,3,1,0] [(1,.pointer (some ⟨a0,0,none⟩)),(59,.int .i64 fl),(66,.int .i64 fm),(71,.int .i64 fn),(78,.int .i64 fo),(85,.int .i64 fp),(89,.int .i64 fq),(91,az),(94,az),(98,ax),(101,ax),(105,a9),(109,b6),(112,au),(115,au),(118,.int .i64 (x0.names.length:Int)),(122,av),(125,av)] w:=by
  intro fl fm fn fo fp fq b6 b7 kg w H j3 hs it
  rw [Zf.t7] at H
  refine (ac _ _ _ _ _ _).1<|F1 35 sh rfl (fun Ga uw=>?_)
  obtain ⟨ms,o7,H⟩:=bnd H
  refine Oc rfl (Qj.c hs (r6.mono (((aw.trans ag).trans af).trans j3)) o7) (fun ux w hpost=>?_)
  obtain ⟨uy,Gb,o8,rfl,ku,hs,uz⟩:=hpost
  refine Zd (uw _ _ (fun _ _=>((hs.less (j3.trans ku)).sub (ssk (ssk (ssc ssr)))))<|(Xr rfl (by kernel_rfl) (OD.weak [(1,_),(59,_),(66,_),(71,_),(78,_),(85,_),(89,_),(92,_),(94,_),(98,_),(101,_),(105,_),(109,_),(112,_),(115,_),(118,_),(122,_),(125,_)] sbn ((ac _ _ _ _ _ _).2 (o3 ms fl fm fn fo fp fq ux o8 b6 b7 uy _ H (j3.trans ku) hs uz (it.mono ku))))))
 have o9:∀ (fr fs ft fu fv:Int) (b8:Value) (b9:List Value) (iu:Hp) (w:World),Zf.t8 x0 aa fr fs ft fu fv=some r→Le ar iu→St w0 iu ((.row b8 4 Rep.bool.sz ((List.replicate (x0.marks.length:Int).toNat false).length) b9)::(.box a0 34 ([bq,bp,bo,bl,a8,bm,az,ax,a9,au,av]))::Γ) w→Zp Rep.bool iu b9 (List.replicate (x0.marks.length:Int).toNat false)→dg [] (fun w=>St w0 ar ((.box a0 34 ([bq,bp,bo,bl,a8,bm,az,ax,a9,au,av]))::Γ) w) 16 [28,27,24,21,20,17,14,12,9,8,5,2,52,68,67,65,64,61,60,59,58,57,55,54,51,50,49,48,47,44,43,41,40,37,36,34,33,31,30,29,26,25,23,22,19,18,16,15,13,11,10,7,6,4,3,1,0] [(1,.pointer (some ⟨a0,0,none⟩)),(59,.int .i64 fr),(66,.int .i64 fs),(71,.int .i64 ft),(78,.int .i64 fu),(85,.int .i64 fv),(87,bm),(88,ad),(91,az),(94,az),(98,ax),(101,ax),(105,a9),(109,b8),(112,au),(115,au),(118,.int .i64 (x0.names.length:Int)),(122,av),(125,av)] w:=by
  intro fr fs ft fu fv b8 b9 iu w H hz hs iv
  rw [Zf.t8] at H
  refine (ac _ _ _ _ _ _).1<|F1 32 sh rfl (fun Gc va=>?_)
  obtain ⟨mt,pa,H⟩:=bnd H
  refine Oc rfl (Ys.c hs (r5.mono (((aw.trans ag).trans af).trans hz)) (oc.mono hz) pa) (fun Gd w hpost=>?_)
  obtain ⟨rfl,hs⟩:=hpost
  refine Zd (va _ _ (fun _ _=>((hs.less hz).sub (ssk (ssc ssr))))<|(Xr rfl (by kernel_rfl) (OD.weak [(1,_),(59,_),(66,_),(71,_),(78,_),(85,_),(89,_),(91,_),(94,_),(98,_),(101,_),(105,_),(109,_),(112,_),(115,_),(118,_),(122,_),(125,_)] sbn ((ac _ _ _ _ _ _).2 (o6 fr fs ft fu fv mt b8 b9 iu _ H hz hs iv)))))
 have pb:∀ (be:List Bool) (bf:List Spn) (fw fx fy fz:Int) (ea:Value) (eb:List Value) (ec:Value) (ed:List Value) (ca:Value) (cb:List Value) (hv:Hp) (w:World),Zf.t9 x0 aa be bf fw fx fy fz=some r→Le ar hv→St w0 hv ((.row ea 4 Rep.bool.sz be.length eb)::(.row ec 90 Kj.sz bf.length ed)::(.row ca 4 Rep.bool.sz ((List.replicate (x0.marks.length:Int).toNat false).length) cb)::(.box a0 34 ([bq,bp,bo,bl,a8,bm,az,ax,a9,au,av]))::Γ) w→Zp Rep.bool hv eb be→Zp Kj hv ed bf→Zp Rep.bool hv cb (List.replicate (x0.marks.length:Int).toNat false)→dg [] (fun w=>St w0 ar ((.box a0 34 ([bq,bp,bo,bl,a8,bm,az,ax,a9,au,av]))::Γ) w) 17 [27,24,21,20,17,14,12,9,8,5,2,52,68,67,65,64,61,60,59,58,57,55,54,51,50,49,48,47,44,43,41,40,37,36,34,33,31,30,29,26,25,23,22,19,18,16,15,13,11,10,7,6,4,3,1,0] [(1,.pointer (some ⟨a0,0,none⟩)),(59,.int .i64 fw),(66,.int .i64 fx),(71,.int .i64 fy),(78,.int .i64 fz),(81,ec),(84,ea),(87,bm),(88,ad),(91,az),(94,az),(98,ax),(101,ax),(105,a9),(109,ca),(112,au),(115,au),(118,.int .i64 (x0.names.length:Int)),(122,av),(125,av)] w:=by
  intro be bf fw fx fy fz ea eb ec ed ca cb hv w H kv hs iw iy iz
  rw [Zf.t9] at H
  refine (ac _ _ _ _ _ _).1 ?_
  obtain ⟨Ge,lx,hs,vb⟩:=hs.rowEnd (j:=1) iy rfl
  obtain ⟨vc,ly,hs,vd⟩:=hs.rowEnd (j:=0) (iw.mono lx) rfl
  have nk:=lx.trans ly
  refine F1 28 sh rfl (fun Gf ve=>?_)
  obtain ⟨mu,pc,H⟩:=bnd H
  refine Oc rfl (Ys.c hs (vb.mono ly) vd pc) (fun Gg w hpost=>?_)
  obtain ⟨rfl,hs⟩:=hpost
  refine Zd (ve _ _ (fun _ _=>((hs.less (kv.trans nk)).sub (ssk (ssc ssr))))<|(Xr rfl (by kernel_rfl) (OD.weak [(1,_),(59,_),(66,_),(71,_),(78,_),(85,_),(87,_),(88,_),(91,_),(94,_),(98,_),(101,_),(105,_),(109,_),(112,_),(115,_),(118,_),(122,_),(125,_)] sbn ((ac _ _ _ _ _ _).2 (o9 fw fx fy fz mu ca cb vc _ H (kv.trans nk) hs (iz.mono nk))))))
 have pd:∀ (a3:List Spn) (ga gb gc ge:Int) (cc:Value) (cd:List Value) (ce:Value) (cf:List Value) (ja:Hp) (w:World),Zf.t10 x0 aa a3 ga gb gc ge=some r→Le ar ja→St w0 ja ((.row cc 90 Kj.sz a3.length cd)::(.row ce 4 Rep.bool.sz ((List.replicate (x0.marks.length:Int).toNat false).length) cf)::(.box a0 34 ([bq,bp,bo,bl,a8,bm,az,ax,a9,au,av]))::Γ) w→Zp Kj ja cd a3→Zp Rep.bool ja cf (List.replicate (x0.marks.length:Int).toNat false)→dg [] (fun w=>St w0 ar ((.box a0 34 ([bq,bp,bo,bl,a8,bm,az,ax,a9,au,av]))::Γ) w) 18 [24,21,20,17,14,12,9,8,5,2,52,68,67,65,64,61,60,59,58,57,55,54,51,50,49,48,47,44,43,41,40,37,36,34,33,31,30,29,26,25,23,22,19,18,16,15,13,11,10,7,6,4,3,1,0] [(1,.pointer (some ⟨a0,0,none⟩)),(59,.int .i64 ga),(66,.int .i64 gb),(71,.int .i64 gc),(78,.int .i64 ge),(81,cc),(83,a8),(87,bm),(88,ad),(91,az),(94,az),(98,ax),(101,ax),(105,a9),(109,ce),(112,au),(115,au),(118,.int .i64 (x0.names.length:Int)),(122,av),(125,av)] w:=by
  intro a3 ga gb gc ge cc cd ce cf ja w H j4 hs jb jc
  rw [Zf.t10] at H
  refine (ac _ _ _ _ _ _).1<|F1 27 sh rfl (fun Gh vf=>?_)
  obtain ⟨mv,pe,H⟩:=bnd H
  refine Oc rfl (Yr.c hs (r4.mono (((aw.trans ag).trans af).trans j4)) pe) (fun vg w hpost=>?_)
  obtain ⟨vh,Gi,pf,rfl,kh,hs,vi⟩:=hpost
  refine Zd (vf _ _ (fun _ _=>((hs.less (j4.trans kh)).sub (ssk (ssk (ssk (ssc ssr))))))<|(Xr rfl (by kernel_rfl) (OD.weak [(1,_),(59,_),(66,_),(71,_),(78,_),(81,_),(84,_),(87,_),(88,_),(91,_),(94,_),(98,_),(101,_),(105,_),(109,_),(112,_),(115,_),(118,_),(122,_),(125,_)] sbn ((ac _ _ _ _ _ _).2 (pb mv a3 ga gb gc ge vg pf cc cd ce cf vh _ H (j4.trans kh) hs vi (jb.mono kh) (jc.mono kh))))))
 have pg:∀ (gf gg gh gi:Int) (cg:Value) (ch:List Value) (ki:Hp) (w:World),Zf.t11 x0 aa gf gg gh gi=some r→Le ar ki→St w0 ki ((.row cg 4 Rep.bool.sz ((List.replicate (x0.marks.length:Int).toNat false).length) ch)::(.box a0 34 ([bq,bp,bo,bl,a8,bm,az,ax,a9,au,av]))::Γ) w→Zp Rep.bool ki ch (List.replicate (x0.marks.length:Int).toNat false)→dg [] (fun w=>St w0 ar ((.box a0 34 ([bq,bp,bo,bl,a8,bm,az,ax,a9,au,av]))::Γ) w) 19 [21,20,17,14,12,9,8,5,2,52,68,67,65,64,61,60,59,58,57,55,54,51,50,49,48,47,44,43,41,40,37,36,34,33,31,30,29,26,25,23,22,19,18,16,15,13,11,10,7,6,4,3,1,0] [(1,.pointer (some ⟨a0,0,none⟩)),(59,.int .i64 gf),(66,.int .i64 gg),(71,.int .i64 gh),(78,.int .i64 gi),(80,a8),(83,a8),(87,bm),(88,ad),(91,az),(94,az),(98,ax),(101,ax),(105,a9),(109,cg),(112,au),(115,au),(118,.int .i64 (x0.names.length:Int)),(122,av),(125,av)] w:=by
  intro gf gg gh gi cg ch ki w H j5 hs jd
  rw [Zf.t11] at H
  refine (ac _ _ _ _ _ _).1<|F1 24 sh rfl (fun Gj vj=>?_)
  obtain ⟨mw,ph,H⟩:=bnd H
  refine Oc rfl (Qq.c hs (r4.mono (((aw.trans ag).trans af).trans j5)) ph) (fun vk w hpost=>?_)
  obtain ⟨vl,Gk,pi,rfl,kw,hs,vm⟩:=hpost
  refine Zd (vj _ _ (fun _ _=>((hs.less (j5.trans kw)).sub (ssk (ssk (ssc ssr)))))<|(Xr rfl (by kernel_rfl) (OD.weak [(1,_),(59,_),(66,_),(71,_),(78,_),(81,_),(83,_),(87,_),(88,_),(91,_),(94,_),(98,_),(101,_),(105,_),(109,_),(112,_),(115,_),(118,_),(122,_),(125,_)] sbn ((ac _ _ _ _ _ _).2 (pd mw gf gg gh gi vk pi cg ch vl _ H (j5.trans kw) hs vm (jd.mono kw))))))
 have pj:∀ (bg:List Bool) (bh:List Spn) (gj gk gl:Int) (ee:Value) (ef:List Value) (eg:Value) (eh:List Value) (ci:Value) (cj:List Value) (hw:Hp) (w:World),Zf.t12 x0 aa bg bh gj gk gl=some r→Le ar hw→St w0 hw ((.row ee 4 Rep.bool.sz bg.length ef)::(.row eg 90 Kj.sz bh.length eh)::(.row ci 4 Rep.bool.sz ((List.replicate (x0.marks.length:Int).toNat false).length) cj)::(.box a0 34 ([bq,bp,bo,bl,a8,bm,az,ax,a9,au,av]))::Γ) w→Zp Rep.bool hw ef bg→Zp Kj hw eh bh→Zp Rep.bool hw cj (List.replicate (x0.marks.length:Int).toNat false)→dg [] (fun w=>St w0 ar ((.box a0 34 ([bq,bp,bo,bl,a8,bm,az,ax,a9,au,av]))::Γ) w) 20 [20,17,14,12,9,8,5,2,52,68,67,65,64,61,60,59,58,57,55,54,51,50,49,48,47,44,43,41,40,37,36,34,33,31,30,29,26,25,23,22,19,18,16,15,13,11,10,7,6,4,3,1,0] [(1,.pointer (some ⟨a0,0,none⟩)),(59,.int .i64 gj),(66,.int .i64 gk),(71,.int .i64 gl),(74,eg),(77,ee),(80,a8),(83,a8),(87,bm),(88,ad),(91,az),(94,az),(98,ax),(101,ax),(105,a9),(109,ci),(112,au),(115,au),(118,.int .i64 (x0.names.length:Int)),(122,av),(125,av)] w:=by
  intro bg bh gj gk gl ee ef eg eh ci cj hw w H kx hs je jf jg
  rw [Zf.t12] at H
  refine (ac _ _ _ _ _ _).1 ?_
  obtain ⟨Gl,lz,hs,vn⟩:=hs.rowEnd (j:=1) jf rfl
  obtain ⟨vo,l0,hs,vp⟩:=hs.rowEnd (j:=0) (je.mono lz) rfl
  have nl:=lz.trans l0
  refine F1 21 sh rfl (fun Gm vq=>?_)
  obtain ⟨mx,pk,H⟩:=bnd H
  refine Oc rfl (Ys.c hs (vn.mono l0) vp pk) (fun Gn w hpost=>?_)
  obtain ⟨rfl,hs⟩:=hpost
  refine Zd (vq _ _ (fun _ _=>((hs.less (kx.trans nl)).sub (ssk (ssc ssr))))<|(Xr rfl (by kernel_rfl) (OD.weak [(1,_),(59,_),(66,_),(71,_),(78,_),(80,_),(83,_),(87,_),(88,_),(91,_),(94,_),(98,_),(101,_),(105,_),(109,_),(112,_),(115,_),(118,_),(122,_),(125,_)] sbn ((ac _ _ _ _ _ _).2 (pg gj gk gl mx ci cj vo _ H (kx.trans nl) hs (jg.mono nl))))))
 have pl:∀ (a4:List Spn) (gm gn go:Int) (ck:Value) (cl:List Value) (cm:Value) (cn:List Value) (jh:Hp) (w:World),Zf.t13 x0 aa a4 gm gn go=some r→Le ar jh→St w0 jh ((.row ck 90 Kj.sz a4.length cl)::(.row cm 4 Rep.bool.sz ((List.replicate (x0.marks.length:Int).toNat false).length) cn)::(.box a0 34 ([bq,bp,bo,bl,a8,bm,az,ax,a9,au,av]))::Γ) w→Zp Kj jh cl a4→Zp Rep.bool jh cn (List.replicate (x0.marks.length:Int).toNat false)→dg [] (fun w=>St w0 ar ((.box a0 34 ([bq,bp,bo,bl,a8,bm,az,ax,a9,au,av]))::Γ) w) 21 [17,14,12,9,8,5,2,52,68,67,65,64,61,60,59,58,57,55,54,51,50,49,48,47,44,43,41,40,37,36,34,33,31,30,29,26,25,23,22,19,18,16,15,13,11,10,7,6,4,3,1,0] [(1,.pointer (some ⟨a0,0,none⟩)),(59,.int .i64 gm),(66,.int .i64 gn),(71,.int .i64 go),(74,ck),(76,bl),(80,a8),(83,a8),(87,bm),(88,ad),(91,az),(94,az),(98,ax),(101,ax),(105,a9),(109,cm),(112,au),(115,au),(118,.int .i64 (x0.names.length:Int)),(122,av),(125,av)] w:=by
  intro a4 gm gn go ck cl cm cn jh w H j6 hs ji jj
  rw [Zf.t13] at H
  refine (ac _ _ _ _ _ _).1<|F1 20 sh rfl (fun Go vr=>?_)
  obtain ⟨my,pm,H⟩:=bnd H
  refine Oc rfl (Yk.c hs (r3.mono (((aw.trans ag).trans af).trans j6)) pm) (fun vs w hpost=>?_)
  obtain ⟨vt,Gp,pn,rfl,kj,hs,vu⟩:=hpost
  refine Zd (vr _ _ (fun _ _=>((hs.less (j6.trans kj)).sub (ssk (ssk (ssk (ssc ssr))))))<|(Xr rfl (by kernel_rfl) (OD.weak [(1,_),(59,_),(66,_),(71,_),(74,_),(77,_),(80,_),(83,_),(87,_),(88,_),(91,_),(94,_),(98,_),(101,_),(105,_),(109,_),(112,_),(115,_),(118,_),(122,_),(125,_)] sbn ((ac _ _ _ _ _ _).2 (pj my a4 gm gn go vs pn ck cl cm cn vt _ H (j6.trans kj) hs vu (ji.mono kj) (jj.mono kj))))))
 have po:∀ (gp gq gr:Int) (co:Value) (cp:List Value) (kk:Hp) (w:World),Zf.t14 x0 aa gp gq gr=some r→Le ar kk→St w0 kk ((.row co 4 Rep.bool.sz ((List.replicate (x0.marks.length:Int).toNat false).length) cp)::(.box a0 34 ([bq,bp,bo,bl,a8,bm,az,ax,a9,au,av]))::Γ) w→Zp Rep.bool kk cp (List.replicate (x0.marks.length:Int).toNat false)→dg [] (fun w=>St w0 ar ((.box a0 34 ([bq,bp,bo,bl,a8,bm,az,ax,a9,au,av]))::Γ) w) 22 [14,12,9,8,5,2,52,68,67,65,64,61,60,59,58,57,55,54,51,50,49,48,47,44,43,41,40,37,36,34,33,31,30,29,26,25,23,22,19,18,16,15,13,11,10,7,6,4,3,1,0] [(1,.pointer (some ⟨a0,0,none⟩)),(59,.int .i64 gp),(66,.int .i64 gq),(71,.int .i64 gr),(73,bl),(76,bl),(80,a8),(83,a8),(87,bm),(88,ad),(91,az),(94,az),(98,ax),(101,ax),(105,a9),(109,co),(112,au),(115,au),(118,.int .i64 (x0.names.length:Int)),(122,av),(125,av)] w:=by
  intro gp gq gr co cp kk w H j7 hs jk
  rw [Zf.t14] at H
  refine (ac _ _ _ _ _ _).1<|F1 17 sh rfl (fun Gq vv=>?_)
  obtain ⟨mz,pp,H⟩:=bnd H
  refine Oc rfl (Qj.c hs (r3.mono (((aw.trans ag).trans af).trans j7)) pp) (fun vw w hpost=>?_)
  obtain ⟨vx,Gr,pq,rfl,ky,hs,vy⟩:=hpost
  refine Zd (vv _ _ (fun _ _=>((hs.less (j7.trans ky)).sub (ssk (ssk (ssc ssr)))))<|(Xr rfl (by kernel_rfl) (OD.weak [(1,_),(59,_),(66,_),(71,_),(74,_),(76,_),(80,_),(83,_),(87,_),(88,_),(91,_),(94,_),(98,_),(101,_),(105,_),(109,_),(112,_),(115,_),(118,_),(122,_),(125,_)] sbn ((ac _ _ _ _ _ _).2 (pl mz gp gq gr vw pq co cp vx _ H (j7.trans ky) hs vy (jk.mono ky))))))
 have pr:∀ (bi:List Spn) (gs gt:Int) (ei:Value) (ej:List Value) (cq:Value) (cr:List Value) (jl:Hp) (w:World),Zf.t15 x0 ab aa bi gs gt=some r→Le ar jl→St w0 jl ((.row ei 90 Kj.sz bi.length ej)::(.row cq 4 Rep.bool.sz ((List.replicate (x0.marks.length:Int).toNat false).length) cr)::(.box a0 34 ([bq,bp,bo,bl,a8,bm,az,ax,a9,au,av]))::Γ) w→Zp Kj jl ej bi→Zp Rep.bool jl cr (List.replicate (x0.marks.length:Int).toNat false)→dg [] (fun w=>St w0 ar ((.box a0 34 ([bq,bp,bo,bl,a8,bm,az,ax,a9,au,av]))::Γ) w) 23 [12,9,8,5,2,52,68,67,65,64,61,60,59,58,57,55,54,51,50,49,48,47,44,43,41,40,37,36,34,33,31,30,29,26,25,23,22,19,18,16,15,13,11,10,7,6,4,3,1,0] [(1,.pointer (some ⟨a0,0,none⟩)),(59,.int .i64 gs),(66,.int .i64 gt),(69,ei),(70,ao),(73,bl),(76,bl),(80,a8),(83,a8),(87,bm),(88,ad),(91,az),(94,az),(98,ax),(101,ax),(105,a9),(109,cq),(112,au),(115,au),(118,.int .i64 (x0.names.length:Int)),(122,av),(125,av)] w:=by
  intro bi gs gt ei ej cq cr jl w H j8 hs jm jn
  rw [Zf.t15] at H
  refine (ac _ _ _ _ _ _).1 ?_
  obtain ⟨vz,kl,hs,wa⟩:=hs.rowEnd (j:=0) jm rfl
  refine F1 14 sh rfl (fun Gs wb=>?_)
  obtain ⟨m0,ps,H⟩:=bnd H
  refine Oc rfl (Ys.c hs wa (ob.mono ((af.trans j8).trans kl)) ps) (fun Gt w hpost=>?_)
  obtain ⟨rfl,hs⟩:=hpost
  refine Zd (wb _ _ (fun _ _=>((hs.less (j8.trans kl)).sub (ssk (ssc ssr))))<|(Xr rfl (by kernel_rfl) (OD.weak [(1,_),(59,_),(66,_),(71,_),(73,_),(76,_),(80,_),(83,_),(87,_),(88,_),(91,_),(94,_),(98,_),(101,_),(105,_),(109,_),(112,_),(115,_),(118,_),(122,_),(125,_)] sbn ((ac _ _ _ _ _ _).2 (po gs gt m0 cq cr vz _ H (j8.trans kl) hs (jn.mono kl))))))
 have pt:∀ (gu gv:Int) (ct:Value) (cu:List Value) (km:Hp) (w:World),Zf.t16 x0 ab aa gu gv=some r→Le ar km→St w0 km ((.row ct 4 Rep.bool.sz ((List.replicate (x0.marks.length:Int).toNat false).length) cu)::(.box a0 34 ([bq,bp,bo,bl,a8,bm,az,ax,a9,au,av]))::Γ) w→Zp Rep.bool km cu (List.replicate (x0.marks.length:Int).toNat false)→dg [] (fun w=>St w0 ar ((.box a0 34 ([bq,bp,bo,bl,a8,bm,az,ax,a9,au,av]))::Γ) w) 24 [9,8,5,2,52,68,67,65,64,61,60,59,58,57,55,54,51,50,49,48,47,44,43,41,40,37,36,34,33,31,30,29,26,25,23,22,19,18,16,15,13,11,10,7,6,4,3,1,0] [(1,.pointer (some ⟨a0,0,none⟩)),(59,.int .i64 gu),(66,.int .i64 gv),(68,bo),(70,ao),(73,bl),(76,bl),(80,a8),(83,a8),(87,bm),(88,ad),(91,az),(94,az),(98,ax),(101,ax),(105,a9),(109,ct),(112,au),(115,au),(118,.int .i64 (x0.names.length:Int)),(122,av),(125,av)] w:=by
  intro gu gv ct cu km w H j9 hs jo
  rw [Zf.t16] at H
  refine (ac _ _ _ _ _ _).1<|F1 12 sh rfl (fun Gu wc=>?_)
  obtain ⟨m1,pu,H⟩:=bnd H
  refine Oc rfl (Qq.c hs (ny.mono (((aw.trans ag).trans af).trans j9)) pu) (fun wd w hpost=>?_)
  obtain ⟨we,Gv,pv,rfl,kz,hs,wf⟩:=hpost
  refine Zd (wc _ _ (fun _ _=>((hs.less (j9.trans kz)).sub (ssk (ssk (ssc ssr)))))<|(Xr rfl (by kernel_rfl) (OD.weak [(1,_),(59,_),(66,_),(69,_),(70,_),(73,_),(76,_),(80,_),(83,_),(87,_),(88,_),(91,_),(94,_),(98,_),(101,_),(105,_),(109,_),(112,_),(115,_),(118,_),(122,_),(125,_)] sbn ((ac _ _ _ _ _ _).2 (pr m1 gu gv wd pv ct cu we _ H (j9.trans kz) hs wf (jo.mono kz))))))
 have pw:∀ (bj:List Bool) (bk:List Spn) (gw:Int) (ek:Value) (el:List Value) (em:Value) (en:List Value) (cv:Value) (cw:List Value) (hx:Hp) (w:World),Zf.t17 x0 ab aa bj bk gw=some r→Le ar hx→St w0 hx ((.row ek 4 Rep.bool.sz bj.length el)::(.row em 90 Kj.sz bk.length en)::(.row cv 4 Rep.bool.sz ((List.replicate (x0.marks.length:Int).toNat false).length) cw)::(.box a0 34 ([bq,bp,bo,bl,a8,bm,az,ax,a9,au,av]))::Γ) w→Zp Rep.bool hx el bj→Zp Kj hx en bk→Zp Rep.bool hx cw (List.replicate (x0.marks.length:Int).toNat false)→dg [] (fun w=>St w0 ar ((.box a0 34 ([bq,bp,bo,bl,a8,bm,az,ax,a9,au,av]))::Γ) w) 25 [8,5,2,52,68,67,65,64,61,60,59,58,57,55,54,51,50,49,48,47,44,43,41,40,37,36,34,33,31,30,29,26,25,23,22,19,18,16,15,13,11,10,7,6,4,3,1,0] [(1,.pointer (some ⟨a0,0,none⟩)),(59,.int .i64 gw),(62,em),(65,ek),(68,bo),(70,ao),(73,bl),(76,bl),(80,a8),(83,a8),(87,bm),(88,ad),(91,az),(94,az),(98,ax),(101,ax),(105,a9),(109,cv),(112,au),(115,au),(118,.int .i64 (x0.names.length:Int)),(122,av),(125,av)] w:=by
  intro bj bk gw ek el em en cv cw hx w H k0 hs jp jq jr
  rw [Zf.t17] at H
  refine (ac _ _ _ _ _ _).1 ?_
  obtain ⟨Gw,l4,hs,wg⟩:=hs.rowEnd (j:=1) jq rfl
  obtain ⟨wh,l5,hs,wi⟩:=hs.rowEnd (j:=0) (jp.mono l4) rfl
  have nm:=l4.trans l5
  refine F1 9 sh rfl (fun Gx wj=>?_)
  obtain ⟨m2,px,H⟩:=bnd H
  refine Oc rfl (Ys.c hs (wg.mono l5) wi px) (fun Gy w hpost=>?_)
  obtain ⟨rfl,hs⟩:=hpost
  refine Zd (wj _ _ (fun _ _=>((hs.less (k0.trans nm)).sub (ssk (ssc ssr))))<|(Xr rfl (by kernel_rfl) (OD.weak [(1,_),(59,_),(66,_),(68,_),(70,_),(73,_),(76,_),(80,_),(83,_),(87,_),(88,_),(91,_),(94,_),(98,_),(101,_),(105,_),(109,_),(112,_),(115,_),(118,_),(122,_),(125,_)] sbn ((ac _ _ _ _ _ _).2 (pt gw m2 cv cw wh _ H (k0.trans nm) hs (jr.mono nm))))))
 have py:∀ (a5:List Spn) (gx:Int) (cx:Value) (cy:List Value) (cz:Value) (da:List Value) (js:Hp) (w:World),Zf.t18 x0 ab aa a5 gx=some r→Le ar js→St w0 js ((.row cx 90 Kj.sz a5.length cy)::(.row cz 4 Rep.bool.sz ((List.replicate (x0.marks.length:Int).toNat false).length) da)::(.box a0 34 ([bq,bp,bo,bl,a8,bm,az,ax,a9,au,av]))::Γ) w→Zp Kj js cy a5→Zp Rep.bool js da (List.replicate (x0.marks.length:Int).toNat false)→dg [] (fun w=>St w0 ar ((.box a0 34 ([bq,bp,bo,bl,a8,bm,az,ax,a9,au,av]))::Γ) w) 26 [5,2,52,68,67,65,64,61,60,59,58,57,55,54,51,50,49,48,47,44,43,41,40,37,36,34,33,31,30,29,26,25,23,22,19,18,16,15,13,11,10,7,6,4,3,1,0] [(1,.pointer (some ⟨a0,0,none⟩)),(59,.int .i64 gx),(62,cx),(64,bp),(68,bo),(70,ao),(73,bl),(76,bl),(80,a8),(83,a8),(87,bm),(88,ad),(91,az),(94,az),(98,ax),(101,ax),(105,a9),(109,cz),(112,au),(115,au),(118,.int .i64 (x0.names.length:Int)),(122,av),(125,av)] w:=by
  intro a5 gx cx cy cz da js w H ka hs jt ju
  rw [Zf.t18] at H
  refine (ac _ _ _ _ _ _).1<|F1 8 sh rfl (fun Gz wk=>?_)
  obtain ⟨m3,pz,H⟩:=bnd H
  refine Oc rfl (Yk.c hs (nx.mono (((aw.trans ag).trans af).trans ka)) pz) (fun wl w hpost=>?_)
  obtain ⟨wm,G0,p0,rfl,kn,hs,wn⟩:=hpost
  refine Zd (wk _ _ (fun _ _=>((hs.less (ka.trans kn)).sub (ssk (ssk (ssk (ssc ssr))))))<|(Xr rfl (by kernel_rfl) (OD.weak [(1,_),(59,_),(62,_),(65,_),(68,_),(70,_),(73,_),(76,_),(80,_),(83,_),(87,_),(88,_),(91,_),(94,_),(98,_),(101,_),(105,_),(109,_),(112,_),(115,_),(118,_),(122,_),(125,_)] sbn ((ac _ _ _ _ _ _).2 (pw m3 a5 gx wl p0 cx cy cz da wm _ H (ka.trans kn) hs wn (jt.mono kn) (ju.mono kn))))))
 have p1:∀ (gy:Int) (db:Value) (dc:List Value) (w:World),Zf.t19 x0 ab aa gy=some r→St w0 ar ((.row db 4 Rep.bool.sz ((List.replicate (x0.marks.length:Int).toNat false).length) dc)::(.box a0 34 ([bq,bp,bo,bl,a8,bm,az,ax,a9,au,av]))::Γ) w→Zp Rep.bool ar dc (List.replicate (x0.marks.length:Int).toNat false)→dg [] (fun w=>St w0 ar ((.box a0 34 ([bq,bp,bo,bl,a8,bm,az,ax,a9,au,av]))::Γ) w) 27 [2,52,68,67,65,64,61,60,59,58,57,55,54,51,50,49,48,47,44,43,41,40,37,36,34,33,31,30,29,26,25,23,22,19,18,16,15,13,11,10,7,6,4,3,1,0] [(1,.pointer (some ⟨a0,0,none⟩)),(59,.int .i64 gy),(61,bp),(64,bp),(68,bo),(70,ao),(73,bl),(76,bl),(80,a8),(83,a8),(87,bm),(88,ad),(91,az),(94,az),(98,ax),(101,ax),(105,a9),(109,db),(112,au),(115,au),(118,.int .i64 (x0.names.length:Int)),(122,av),(125,av)] w:=by
  intro gy db dc w H hs jv
  rw [Zf.t19] at H
  refine (ac _ _ _ _ _ _).1<|F1 5 sh rfl (fun G1 wo=>?_)
  obtain ⟨m4,p2,H⟩:=bnd H
  refine Oc rfl (Qj.c hs (nx.mono ((aw.trans ag).trans af)) p2) (fun wp w hpost=>?_)
  obtain ⟨wq,G2,p3,rfl,k1,hs,wr⟩:=hpost
  refine Zd (wo _ _ (fun _ _=>((hs.less k1).sub (ssk (ssk (ssc ssr)))))<|(Xr rfl (by kernel_rfl) (OD.weak [(1,_),(59,_),(62,_),(64,_),(68,_),(70,_),(73,_),(76,_),(80,_),(83,_),(87,_),(88,_),(91,_),(94,_),(98,_),(101,_),(105,_),(109,_),(112,_),(115,_),(118,_),(122,_),(125,_)] sbn ((ac _ _ _ _ _ _).2 (py m4 gy wp p3 db dc wq _ H k1 hs wr (jv.mono k1))))))
 have ws:∀ (dd:Value) (de:List Value) (w:World),Zf.t20 x0 ab aa=some r→St w0 ar ((.row dd 4 Rep.bool.sz ((List.replicate (x0.marks.length:Int).toNat false).length) de)::(.box a0 34 ([bq,bp,bo,bl,a8,bm,az,ax,a9,au,av]))::Γ) w→Zp Rep.bool ar de (List.replicate (x0.marks.length:Int).toNat false)→dg [] (fun w=>St w0 ar ((.box a0 34 ([bq,bp,bo,bl,a8,bm,az,ax,a9,au,av]))::Γ) w) 28 [52,68,67,65,64,61,60,59,58,57,55,54,51,50,49,48,47,44,43,41,40,37,36,34,33,31,30,29,26,25,23,22,19,18,16,15,13,11,10,7,6,4,3,1,0] [(1,.pointer (some ⟨a0,0,none⟩)),(58,bq),(61,bp),(64,bp),(68,bo),(70,ao),(73,bl),(76,bl),(80,a8),(83,a8),(87,bm),(88,ad),(91,az),(94,az),(98,ax),(101,ax),(105,a9),(109,dd),(112,au),(115,au),(118,.int .i64 (x0.names.length:Int)),(122,av),(125,av)] w:=by
  intro dd de w H hs jw
  rw [Zf.t20] at H
  refine (ac _ _ _ _ _ _).1<|F1 2 sh rfl (fun G3 wt=>?_)
  obtain ⟨m5,p4,H⟩:=bnd H
  refine Oc rfl (Qc.c hs (r9.mono ((aw.trans ag).trans af)) p4) (fun G4 w hpost=>?_)
  obtain ⟨rfl,hs⟩:=hpost
  refine Zd (wt _ _ (fun _ _=>(hs.sub (ssk (ssc ssr))))<|(Xr rfl (by kernel_rfl) (OD.weak [(1,_),(59,_),(61,_),(64,_),(68,_),(70,_),(73,_),(76,_),(80,_),(83,_),(87,_),(88,_),(91,_),(94,_),(98,_),(101,_),(105,_),(109,_),(112,_),(115,_),(118,_),(122,_),(125,_)] sbn ((ac _ _ _ _ _ _).2 (p1 m5 dd de _ H hs jw)))))
 refine (ac _ _ _ _ _ _).1<|Vp sh (i:=52) (j:=2) rfl rfl (by kernel_rfl) (fun G5 wu=>?_) (fun G6 wv=>?_)
 refine Kv (r:=Rep.bool) (x0:=false) Hk zr4 rfl rfl hs rfl rfl rfl ay.1 ay.2 (fun ww p5 w wx hs=>Zd (wu _ _ (fun _ _=>(hs.sub (ssk (ssc ssr))))<|(Xr rfl (by kernel_rfl) (OD.weak [(1,_),(58,_),(61,_),(64,_),(68,_),(70,_),(73,_),(76,_),(80,_),(83,_),(87,_),(88,_),(91,_),(94,_),(98,_),(101,_),(105,_),(109,_),(112,_),(115,_),(118,_),(122,_),(125,_)] sbn ((ac _ _ _ _ _ _).2 (ws (.slice (some ⟨ww,0,none⟩) (x0.marks.length:Int).toNat (x0.marks.length:Int).toNat) p5 _ H hs wx))))))
 rw [Zf.t20] at H
 obtain ⟨dk,p6,H⟩:=bnd H
 refine Oc rfl (Qc.c hs (r9.mono ((aw.trans ag).trans af)) p6) (fun G7 w hpost=>?_)
 obtain ⟨rfl,hs⟩:=hpost
 refine Zd (wv _ _ (fun _ _=>hs)<|Vp sh (i:=52) (j:=5) rfl rfl (by kernel_rfl) (fun G8 wy=>?_) (fun G9 wz=>?_))
 refine Kv (r:=Rep.bool) (x0:=false) Hk zr4 rfl rfl hs rfl rfl rfl ay.1 ay.2 (fun xa p7 w xb hs=>Zd (wy _ _ (fun _ _=>(hs.sub (ssk (ssc ssr))))<|(Xr rfl (by kernel_rfl) (OD.weak [(1,_),(59,_),(61,_),(64,_),(68,_),(70,_),(73,_),(76,_),(80,_),(83,_),(87,_),(88,_),(91,_),(94,_),(98,_),(101,_),(105,_),(109,_),(112,_),(115,_),(118,_),(122,_),(125,_)] sbn ((ac _ _ _ _ _ _).2 (p1 dk (.slice (some ⟨xa,0,none⟩) (x0.marks.length:Int).toNat (x0.marks.length:Int).toNat) p7 _ H hs xb))))))
 rw [Zf.t19] at H
 obtain ⟨p8,p9,H⟩:=bnd H
 refine Oc rfl (Qj.c hs (nx.mono ((aw.trans ag).trans af)) p9) (fun qa w hpost=>?_)
 obtain ⟨xc,Ia,l6,rfl,jx,hs,nn⟩:=hpost
 refine Zd (wz _ _ (fun _ _=>((hs.less jx).sub (ssk (ssc ssr))))<|Vp sh (i:=52) (j:=8) rfl rfl (by kernel_rfl) (fun Ib xd=>?_) (fun Ic xe=>?_))
 refine Kv (r:=Rep.bool) (x0:=false) Hk zr4 rfl rfl hs rfl rfl rfl ay.1 ay.2 (fun xf qb w xg hs=>Zd (xd _ _ (fun _ _=>((hs.less jx).sub (ssk (ssk (ssc ssr))))) ?_))
 have hs:=hs.front 2 rfl
 have hs:=hs.front 1 rfl
 have hs:=hs.front 2 rfl
 refine (Xr rfl (by kernel_rfl) (OD.weak [(1,_),(59,_),(62,_),(64,_),(68,_),(70,_),(73,_),(76,_),(80,_),(83,_),(87,_),(88,_),(91,_),(94,_),(98,_),(101,_),(105,_),(109,_),(112,_),(115,_),(118,_),(122,_),(125,_)] sbn ((ac _ _ _ _ _ _).2 (py p8 dk qa l6 (.slice (some ⟨xf,0,none⟩) (x0.marks.length:Int).toNat (x0.marks.length:Int).toNat) qb xc _ H jx hs nn xg))))
 rw [Zf.t18] at H
 obtain ⟨xh,qc,H⟩:=bnd H
 refine Oc rfl (Yk.c hs (nx.mono (((aw.trans ag).trans af).trans jx)) qc) (fun xi w hpost=>?_)
 obtain ⟨xj,Id,qd,rfl,k2,hs,qe⟩:=hpost
 have lg:=jx.trans k2
 refine Zd (xe _ _ (fun _ _=>((hs.less lg).sub (ssk (ssk (ssc ssr)))))<|Vp sh (i:=52) (j:=9) rfl rfl (by kernel_rfl) (fun Ie xk=>?_) (fun If xl=>?_))
 refine Kv (r:=Rep.bool) (x0:=false) Hk zr4 rfl rfl hs rfl rfl rfl ay.1 ay.2 (fun xm qf w xn hs=>Zd (xk _ _ (fun _ _=>((hs.less lg).sub (ssk (ssk (ssk (ssc ssr)))))) ?_))
 have hs:=hs.front 3 rfl
 have hs:=hs.front 1 rfl
 have hs:=hs.front 3 rfl
 have hs:=hs.front 3 rfl
 refine (Xr rfl (by kernel_rfl) (OD.weak [(1,_),(59,_),(62,_),(65,_),(68,_),(70,_),(73,_),(76,_),(80,_),(83,_),(87,_),(88,_),(91,_),(94,_),(98,_),(101,_),(105,_),(109,_),(112,_),(115,_),(118,_),(122,_),(125,_)] sbn ((ac _ _ _ _ _ _).2 (pw xh p8 dk xi qd qa l6 (.slice (some ⟨xm,0,none⟩) (x0.marks.length:Int).toNat (x0.marks.length:Int).toNat) qf xj _ H lg hs qe (nn.mono k2) xn))))
 rw [Zf.t17] at H
 obtain ⟨Ig,l7,hs,xo⟩:=hs.rowEnd (j:=1) (nn.mono k2) rfl
 have xp:=lg.trans l7
 obtain ⟨xq,l8,hs,xr⟩:=hs.rowEnd (j:=0) (qe.mono l7) rfl
 have k3:=xp.trans l8
 obtain ⟨hb,qg,H⟩:=bnd H
 refine Oc rfl (Ys.c hs (xo.mono l8) xr qg) (fun Ih w hpost=>?_)
 obtain ⟨rfl,hs⟩:=hpost
 refine Zd (xl _ _ (fun _ _=>(hs.less k3))<|Vp sh (i:=52) (j:=12) rfl rfl (by kernel_rfl) (fun Ii xt=>?_) (fun Ij xu=>?_))
 refine Kv (r:=Rep.bool) (x0:=false) Hk zr4 rfl rfl hs rfl rfl rfl ay.1 ay.2 (fun xv qh w xw hs=>Zd (xt _ _ (fun _ _=>((hs.less k3).sub (ssk (ssc ssr))))<|(Xr rfl (by kernel_rfl) (OD.weak [(1,_),(59,_),(66,_),(68,_),(70,_),(73,_),(76,_),(80,_),(83,_),(87,_),(88,_),(91,_),(94,_),(98,_),(101,_),(105,_),(109,_),(112,_),(115,_),(118,_),(122,_),(125,_)] sbn ((ac _ _ _ _ _ _).2 (pt dk hb (.slice (some ⟨xv,0,none⟩) (x0.marks.length:Int).toNat (x0.marks.length:Int).toNat) qh xq _ H k3 hs xw))))))
 rw [Zf.t16] at H
 obtain ⟨xx,qi,H⟩:=bnd H
 refine Oc rfl (Qq.c hs (ny.mono (((aw.trans ag).trans af).trans k3)) qi) (fun xy w hpost=>?_)
 obtain ⟨xz,Ik,qj,rfl,qk,hs,ql⟩:=hpost
 have lh:=k3.trans qk
 refine Zd (xu _ _ (fun _ _=>((hs.less lh).sub (ssk (ssc ssr))))<|Vp sh (i:=52) (j:=14) rfl rfl (by kernel_rfl) (fun Il ya=>?_) (fun Im yb=>?_))
 refine Kv (r:=Rep.bool) (x0:=false) Hk zr4 rfl rfl hs rfl rfl rfl ay.1 ay.2 (fun yc qm w yd hs=>Zd (ya _ _ (fun _ _=>((hs.less lh).sub (ssk (ssk (ssc ssr))))) ?_))
 have hs:=hs.front 2 rfl
 have hs:=hs.front 1 rfl
 have hs:=hs.front 2 rfl
 refine (Xr rfl (by kernel_rfl) (OD.weak [(1,_),(59,_),(66,_),(69,_),(70,_),(73,_),(76,_),(80,_),(83,_),(87,_),(88,_),(91,_),(94,_),(98,_),(101,_),(105,_),(109,_),(112,_),(115,_),(118,_),(122,_),(125,_)] sbn ((ac _ _ _ _ _ _).2 (pr xx dk hb xy qj (.slice (some ⟨yc,0,none⟩) (x0.marks.length:Int).toNat (x0.marks.length:Int).toNat) qm xz _ H lh hs ql yd))))
 rw [Zf.t15] at H
 obtain ⟨ye,qn,hs,yf⟩:=hs.rowEnd (j:=0) ql rfl
 have kp:=lh.trans qn
 obtain ⟨hc,qo,H⟩:=bnd H
 refine Oc rfl (Ys.c hs yf (ob.mono (af.trans kp)) qo) (fun In w hpost=>?_)
 obtain ⟨rfl,hs⟩:=hpost
 refine Zd (yb _ _ (fun _ _=>(hs.less kp))<|Vp sh (i:=52) (j:=17) rfl rfl (by kernel_rfl) (fun Io yg=>?_) (fun Ip yh=>?_))
 refine Kv (r:=Rep.bool) (x0:=false) Hk zr4 rfl rfl hs rfl rfl rfl ay.1 ay.2 (fun yi qp w yj hs=>Zd (yg _ _ (fun _ _=>((hs.less kp).sub (ssk (ssc ssr))))<|(Xr rfl (by kernel_rfl) (OD.weak [(1,_),(59,_),(66,_),(71,_),(73,_),(76,_),(80,_),(83,_),(87,_),(88,_),(91,_),(94,_),(98,_),(101,_),(105,_),(109,_),(112,_),(115,_),(118,_),(122,_),(125,_)] sbn ((ac _ _ _ _ _ _).2 (po dk hb hc (.slice (some ⟨yi,0,none⟩) (x0.marks.length:Int).toNat (x0.marks.length:Int).toNat) qp ye _ H kp hs yj))))))
 rw [Zf.t14] at H
 obtain ⟨qq,qr,H⟩:=bnd H
 refine Oc rfl (Qj.c hs (r3.mono (((aw.trans ag).trans af).trans kp)) qr) (fun qs w hpost=>?_)
 obtain ⟨yk,Iq,l9,rfl,qt,hs,no⟩:=hpost
 have k4:=kp.trans qt
 refine Zd (yh _ _ (fun _ _=>((hs.less k4).sub (ssk (ssc ssr))))<|Vp sh (i:=52) (j:=20) rfl rfl (by kernel_rfl) (fun Ir yl=>?_) (fun Is ym=>?_))
 refine Kv (r:=Rep.bool) (x0:=false) Hk zr4 rfl rfl hs rfl rfl rfl ay.1 ay.2 (fun yn qu w yo hs=>Zd (yl _ _ (fun _ _=>((hs.less k4).sub (ssk (ssk (ssc ssr))))) ?_))
 have hs:=hs.front 2 rfl
 have hs:=hs.front 1 rfl
 have hs:=hs.front 2 rfl
 refine (Xr rfl (by kernel_rfl) (OD.weak [(1,_),(59,_),(66,_),(71,_),(74,_),(76,_),(80,_),(83,_),(87,_),(88,_),(91,_),(94,_),(98,_),(101,_),(105,_),(109,_),(112,_),(115,_),(118,_),(122,_),(125,_)] sbn ((ac _ _ _ _ _ _).2 (pl qq dk hb hc qs l9 (.slice (some ⟨yn,0,none⟩) (x0.marks.length:Int).toNat (x0.marks.length:Int).toNat) qu yk _ H k4 hs no yo))))
 rw [Zf.t13] at H
 obtain ⟨yp,qv,H⟩:=bnd H
 refine Oc rfl (Yk.c hs (r3.mono (((aw.trans ag).trans af).trans k4)) qv) (fun yq w hpost=>?_)
 obtain ⟨yr,It,qw,rfl,k5,hs,qx⟩:=hpost
 have li:=k4.trans k5
 refine Zd (ym _ _ (fun _ _=>((hs.less li).sub (ssk (ssk (ssc ssr)))))<|Vp sh (i:=52) (j:=21) rfl rfl (by kernel_rfl) (fun Iu ys=>?_) (fun Iv yt=>?_))
 refine Kv (r:=Rep.bool) (x0:=false) Hk zr4 rfl rfl hs rfl rfl rfl ay.1 ay.2 (fun yu qy w yv hs=>Zd (ys _ _ (fun _ _=>((hs.less li).sub (ssk (ssk (ssk (ssc ssr)))))) ?_))
 have hs:=hs.front 3 rfl
 have hs:=hs.front 1 rfl
 have hs:=hs.front 3 rfl
 have hs:=hs.front 3 rfl
 refine (Xr rfl (by kernel_rfl) (OD.weak [(1,_),(59,_),(66,_),(71,_),(74,_),(77,_),(80,_),(83,_),(87,_),(88,_),(91,_),(94,_),(98,_),(101,_),(105,_),(109,_),(112,_),(115,_),(118,_),(122,_),(125,_)] sbn ((ac _ _ _ _ _ _).2 (pj yp qq dk hb hc yq qw qs l9 (.slice (some ⟨yu,0,none⟩) (x0.marks.length:Int).toNat (x0.marks.length:Int).toNat) qy yr _ H li hs qx (no.mono k5) yv))))
 rw [Zf.t12] at H
 obtain ⟨Iw,ma,hs,yw⟩:=hs.rowEnd (j:=1) (no.mono k5) rfl
 have yx:=li.trans ma
 obtain ⟨yy,mb,hs,yz⟩:=hs.rowEnd (j:=0) (qx.mono ma) rfl
 have k6:=yx.trans mb
 obtain ⟨hh,qz,H⟩:=bnd H
 refine Oc rfl (Ys.c hs (yw.mono mb) yz qz) (fun Ix w hpost=>?_)
 obtain ⟨rfl,hs⟩:=hpost
 refine Zd (yt _ _ (fun _ _=>(hs.less k6))<|Vp sh (i:=52) (j:=24) rfl rfl (by kernel_rfl) (fun Iy za=>?_) (fun Iz zb=>?_))
 refine Kv (r:=Rep.bool) (x0:=false) Hk zr4 rfl rfl hs rfl rfl rfl ay.1 ay.2 (fun zc q0 w zd hs=>Zd (za _ _ (fun _ _=>((hs.less k6).sub (ssk (ssc ssr))))<|(Xr rfl (by kernel_rfl) (OD.weak [(1,_),(59,_),(66,_),(71,_),(78,_),(80,_),(83,_),(87,_),(88,_),(91,_),(94,_),(98,_),(101,_),(105,_),(109,_),(112,_),(115,_),(118,_),(122,_),(125,_)] sbn ((ac _ _ _ _ _ _).2 (pg dk hb hc hh (.slice (some ⟨zc,0,none⟩) (x0.marks.length:Int).toNat (x0.marks.length:Int).toNat) q0 yy _ H k6 hs zd))))))
 rw [Zf.t11] at H
 obtain ⟨q1,q2,H⟩:=bnd H
 refine Oc rfl (Qq.c hs (r4.mono (((aw.trans ag).trans af).trans k6)) q2) (fun q3 w hpost=>?_)
 obtain ⟨ze,I0,mc,rfl,q4,hs,np⟩:=hpost
 have k7:=k6.trans q4
 refine Zd (zb _ _ (fun _ _=>((hs.less k7).sub (ssk (ssc ssr))))<|Vp sh (i:=52) (j:=27) rfl rfl (by kernel_rfl) (fun I1 zf=>?_) (fun I2 zg=>?_))
 refine Kv (r:=Rep.bool) (x0:=false) Hk zr4 rfl rfl hs rfl rfl rfl ay.1 ay.2 (fun zh q5 w zi hs=>Zd (zf _ _ (fun _ _=>((hs.less k7).sub (ssk (ssk (ssc ssr))))) ?_))
 have hs:=hs.front 2 rfl
 have hs:=hs.front 1 rfl
 have hs:=hs.front 2 rfl
 refine (Xr rfl (by kernel_rfl) (OD.weak [(1,_),(59,_),(66,_),(71,_),(78,_),(81,_),(83,_),(87,_),(88,_),(91,_),(94,_),(98,_),(101,_),(105,_),(109,_),(112,_),(115,_),(118,_),(122,_),(125,_)] sbn ((ac _ _ _ _ _ _).2 (pd q1 dk hb hc hh q3 mc (.slice (some ⟨zh,0,none⟩) (x0.marks.length:Int).toNat (x0.marks.length:Int).toNat) q5 ze _ H k7 hs np zi))))
 rw [Zf.t10] at H
 obtain ⟨zj,q6,H⟩:=bnd H
 refine Oc rfl (Yr.c hs (r4.mono (((aw.trans ag).trans af).trans k7)) q6) (fun zk w hpost=>?_)
 obtain ⟨zl,I3,q7,rfl,k8,hs,q8⟩:=hpost
 have lj:=k7.trans k8
 refine Zd (zg _ _ (fun _ _=>((hs.less lj).sub (ssk (ssk (ssc ssr)))))<|Vp sh (i:=52) (j:=28) rfl rfl (by kernel_rfl) (fun I4 zm=>?_) (fun I5 zn=>?_))
 refine Kv (r:=Rep.bool) (x0:=false) Hk zr4 rfl rfl hs rfl rfl rfl ay.1 ay.2 (fun zo q9 w zp hs=>Zd (zm _ _ (fun _ _=>((hs.less lj).sub (ssk (ssk (ssk (ssc ssr)))))) ?_))
 have hs:=hs.front 3 rfl
 have hs:=hs.front 1 rfl
 have hs:=hs.front 3 rfl
 have hs:=hs.front 3 rfl
 refine (Xr rfl (by kernel_rfl) (OD.weak [(1,_),(59,_),(66,_),(71,_),(78,_),(81,_),(84,_),(87,_),(88,_),(91,_),(94,_),(98,_),(101,_),(105,_),(109,_),(112,_),(115,_),(118,_),(122,_),(125,_)] sbn ((ac _ _ _ _ _ _).2 (pb zj q1 dk hb hc hh zk q7 q3 mc (.slice (some ⟨zo,0,none⟩) (x0.marks.length:Int).toNat (x0.marks.length:Int).toNat) q9 zl _ H lj hs q8 (np.mono k8) zp))))
 rw [Zf.t9] at H
 obtain ⟨I6,md,hs,zq⟩:=hs.rowEnd (j:=1) (np.mono k8) rfl
 have zr:=lj.trans md
 obtain ⟨ra,me,hs,zs⟩:=hs.rowEnd (j:=0) (q8.mono md) rfl
 have hk:=zr.trans me
 obtain ⟨jy,rb,H⟩:=bnd H
 refine Oc rfl (Ys.c hs (zq.mono me) zs rb) (fun I7 w hpost=>?_)
 obtain ⟨rfl,hs⟩:=hpost
 refine Zd (zn _ _ (fun _ _=>(hs.less hk))<|Vp sh (i:=52) (j:=32) rfl rfl (by kernel_rfl) (fun I8 zt=>?_) (fun I9 zu=>?_))
 refine Kv (r:=Rep.bool) (x0:=false) Hk zr4 rfl rfl hs rfl rfl rfl ay.1 ay.2 (fun zv rc w zw hs=>Zd (zt _ _ (fun _ _=>((hs.less hk).sub (ssk (ssc ssr))))<|(Xr rfl (by kernel_rfl) (OD.weak [(1,_),(59,_),(66,_),(71,_),(78,_),(85,_),(87,_),(88,_),(91,_),(94,_),(98,_),(101,_),(105,_),(109,_),(112,_),(115,_),(118,_),(122,_),(125,_)] sbn ((ac _ _ _ _ _ _).2 (o9 dk hb hc hh jy (.slice (some ⟨zv,0,none⟩) (x0.marks.length:Int).toNat (x0.marks.length:Int).toNat) rc ra _ H hk hs zw))))))
 rw [Zf.t8] at H
 obtain ⟨kb,re,H⟩:=bnd H
 refine Oc rfl (Ys.c hs (r5.mono (((aw.trans ag).trans af).trans hk)) (oc.mono hk) re) (fun Ja w hpost=>?_)
 obtain ⟨rfl,hs⟩:=hpost
 refine Zd (zu _ _ (fun _ _=>(hs.less hk))<|Vp sh (i:=52) (j:=35) rfl rfl (by kernel_rfl) (fun Jb zx=>?_) (fun Jc zy=>?_))
 refine Kv (r:=Rep.bool) (x0:=false) Hk zr4 rfl rfl hs rfl rfl rfl ay.1 ay.2 (fun zz rf w z0 hs=>Zd (zx _ _ (fun _ _=>((hs.less hk).sub (ssk (ssc ssr))))<|(Xr rfl (by kernel_rfl) (OD.weak [(1,_),(59,_),(66,_),(71,_),(78,_),(85,_),(89,_),(91,_),(94,_),(98,_),(101,_),(105,_),(109,_),(112,_),(115,_),(118,_),(122,_),(125,_)] sbn ((ac _ _ _ _ _ _).2 (o6 dk hb hc hh jy kb (.slice (some ⟨zz,0,none⟩) (x0.marks.length:Int).toNat (x0.marks.length:Int).toNat) rf ra _ H hk hs z0))))))
 rw [Zf.t7] at H
 obtain ⟨rg,rh,H⟩:=bnd H
 refine Oc rfl (Qj.c hs (r6.mono (((aw.trans ag).trans af).trans hk)) rh) (fun ri w hpost=>?_)
 obtain ⟨z1,Jd,mf,rfl,rj,hs,nq⟩:=hpost
 have k9:=hk.trans rj
 refine Zd (zy _ _ (fun _ _=>((hs.less k9).sub (ssk (ssc ssr))))<|Vp sh (i:=52) (j:=38) rfl rfl (by kernel_rfl) (fun Je z2=>?_) (fun Jf z3=>?_))
 refine Kv (r:=Rep.bool) (x0:=false) Hk zr4 rfl rfl hs rfl rfl rfl ay.1 ay.2 (fun z4 rk w z5 hs=>Zd (z2 _ _ (fun _ _=>((hs.less k9).sub (ssk (ssk (ssc ssr))))) ?_))
 have hs:=hs.front 2 rfl
 have hs:=hs.front 1 rfl
 have hs:=hs.front 2 rfl
 refine (Xr rfl (by kernel_rfl) (OD.weak [(1,_),(59,_),(66,_),(71,_),(78,_),(85,_),(89,_),(92,_),(94,_),(98,_),(101,_),(105,_),(109,_),(112,_),(115,_),(118,_),(122,_),(125,_)] sbn ((ac _ _ _ _ _ _).2 (o3 rg dk hb hc hh jy kb ri mf (.slice (some ⟨z4,0,none⟩) (x0.marks.length:Int).toNat (x0.marks.length:Int).toNat) rk z1 _ H k9 hs nq z5))))
 rw [Zf.t6] at H
 obtain ⟨z6,rl,H⟩:=bnd H
 refine Oc rfl (Yk.c hs (r6.mono (((aw.trans ag).trans af).trans k9)) rl) (fun z7 w hpost=>?_)
 obtain ⟨z8,Jg,rm,rfl,la,hs,rn⟩:=hpost
 have lk:=k9.trans la
 refine Zd (z3 _ _ (fun _ _=>((hs.less lk).sub (ssk (ssk (ssc ssr)))))<|Vp sh (i:=52) (j:=39) rfl rfl (by kernel_rfl) (fun Jh z9=>?_) (fun Ji Aa=>?_))
 refine Kv (r:=Rep.bool) (x0:=false) Hk zr4 rfl rfl hs rfl rfl rfl ay.1 ay.2 (fun Ab ro w Ac hs=>Zd (z9 _ _ (fun _ _=>((hs.less lk).sub (ssk (ssk (ssk (ssc ssr)))))) ?_))
 have hs:=hs.front 3 rfl
 have hs:=hs.front 1 rfl
 have hs:=hs.front 3 rfl
 have hs:=hs.front 3 rfl
 refine (Xr rfl (by kernel_rfl) (OD.weak [(1,_),(59,_),(66,_),(71,_),(78,_),(85,_),(89,_),(92,_),(95,_),(98,_),(101,_),(105,_),(109,_),(112,_),(115,_),(118,_),(122,_),(125,_)] sbn ((ac _ _ _ _ _ _).2 (o1 z6 rg dk hb hc hh jy kb z7 rm ri mf (.slice (some ⟨Ab,0,none⟩) (x0.marks.length:Int).toNat (x0.marks.length:Int).toNat) ro z8 _ H lk hs rn (nq.mono la) Ac))))
 rw [Zf.t5] at H
 obtain ⟨Jj,mg,hs,Ad⟩:=hs.rowEnd (j:=1) (nq.mono la) rfl
 have Ae:=lk.trans mg
 obtain ⟨Af,mh,hs,Ag⟩:=hs.rowEnd (j:=0) (rn.mono mg) rfl
 have lb:=Ae.trans mh
 obtain ⟨ll,rp,H⟩:=bnd H
 refine Oc rfl (Ys.c hs (Ad.mono mh) Ag rp) (fun Jk w hpost=>?_)
 obtain ⟨rfl,hs⟩:=hpost
 refine Zd (Aa _ _ (fun _ _=>(hs.less lb))<|Vp sh (i:=52) (j:=42) rfl rfl (by kernel_rfl) (fun Jl Ah=>?_) (fun Jm Aj=>?_))
 refine Kv (r:=Rep.bool) (x0:=false) Hk zr4 rfl rfl hs rfl rfl rfl ay.1 ay.2 (fun Ak rq w Al hs=>Zd (Ah _ _ (fun _ _=>((hs.less lb).sub (ssk (ssc ssr))))<|(Xr rfl (by kernel_rfl) (OD.weak [(1,_),(59,_),(66,_),(71,_),(78,_),(85,_),(89,_),(96,_),(98,_),(101,_),(105,_),(109,_),(112,_),(115,_),(118,_),(122,_),(125,_)] sbn ((ac _ _ _ _ _ _).2 (oy dk hb hc hh jy kb ll (.slice (some ⟨Ak,0,none⟩) (x0.marks.length:Int).toNat (x0.marks.length:Int).toNat) rq Af _ H lb hs Al))))))
 rw [Zf.t4] at H
 obtain ⟨rr,rs,H⟩:=bnd H
 refine Oc rfl (Qj.c hs (r7.mono (((aw.trans ag).trans af).trans lb)) rs) (fun rt w hpost=>?_)
 obtain ⟨Am,Jn,mi,rfl,ru,hs,nr⟩:=hpost
 have lc:=lb.trans ru
 refine Zd (Aj _ _ (fun _ _=>((hs.less lc).sub (ssk (ssc ssr))))<|Vp sh (i:=52) (j:=45) rfl rfl (by kernel_rfl) (fun Jo An=>?_) (fun Jp Ao=>?_))
 refine Kv (r:=Rep.bool) (x0:=false) Hk zr4 rfl rfl hs rfl rfl rfl ay.1 ay.2 (fun Ap rv w Aq hs=>Zd (An _ _ (fun _ _=>((hs.less lc).sub (ssk (ssk (ssc ssr))))) ?_))
 have hs:=hs.front 2 rfl
 have hs:=hs.front 1 rfl
 have hs:=hs.front 2 rfl
 refine (Xr rfl (by kernel_rfl) (OD.weak [(1,_),(59,_),(66,_),(71,_),(78,_),(85,_),(89,_),(96,_),(99,_),(101,_),(105,_),(109,_),(112,_),(115,_),(118,_),(122,_),(125,_)] sbn ((ac _ _ _ _ _ _).2 (ov rr dk hb hc hh jy kb ll rt mi (.slice (some ⟨Ap,0,none⟩) (x0.marks.length:Int).toNat (x0.marks.length:Int).toNat) rv Am _ H lc hs nr Aq))))
 rw [Zf.t3] at H
 obtain ⟨Ar,rx,H⟩:=bnd H
 refine Oc rfl (Yk.c hs (r7.mono (((aw.trans ag).trans af).trans lc)) rx) (fun As w hpost=>?_)
 obtain ⟨At,Jq,ry,rfl,ld,hs,rz⟩:=hpost
 have lm:=lc.trans ld
 refine Zd (Ao _ _ (fun _ _=>((hs.less lm).sub (ssk (ssk (ssc ssr)))))<|Vp sh (i:=52) (j:=46) rfl rfl (by kernel_rfl) (fun Jr Au=>?_) (fun Js Av=>?_))
 refine Kv (r:=Rep.bool) (x0:=false) Hk zr4 rfl rfl hs rfl rfl rfl ay.1 ay.2 (fun Aw r0 w Ax hs=>Zd (Au _ _ (fun _ _=>((hs.less lm).sub (ssk (ssk (ssk (ssc ssr)))))) ?_))
 have hs:=hs.front 3 rfl
 have hs:=hs.front 1 rfl
 have hs:=hs.front 3 rfl
 have hs:=hs.front 3 rfl
 refine (Xr rfl (by kernel_rfl) (OD.weak [(1,_),(59,_),(66,_),(71,_),(78,_),(85,_),(89,_),(96,_),(99,_),(102,_),(105,_),(109,_),(112,_),(115,_),(118,_),(122,_),(125,_)] sbn ((ac _ _ _ _ _ _).2 (ot Ar rr dk hb hc hh jy kb ll As ry rt mi (.slice (some ⟨Aw,0,none⟩) (x0.marks.length:Int).toNat (x0.marks.length:Int).toNat) r0 At _ H lm hs rz (nr.mono ld) Ax))))
 rw [Zf.t2] at H
 obtain ⟨Jt,mj,hs,Ay⟩:=hs.rowEnd (j:=1) (nr.mono ld) rfl
 have Az:=lm.trans mj
 obtain ⟨A0,mk,hs,A1⟩:=hs.rowEnd (j:=0) (rz.mono mj) rfl
 have ns:=Az.trans mk
 obtain ⟨A2,r1,H⟩:=bnd H
 refine Oc rfl (Ys.c hs (Ay.mono mk) A1 r1) (fun Ju w hpost=>?_)
 obtain ⟨rfl,hs⟩:=hpost
 refine Zd (Av _ _ (fun _ _=>(hs.less ns))<|F1 52 sh rfl (fun Jv A3=>Kv (r:=Rep.bool) (x0:=false) Hk zr4 rfl rfl hs rfl rfl rfl ay.1 ay.2 (fun A4 r2 w A5 hs=>Zd (A3 _ _ (fun _ _=>((hs.less ns).sub (ssk (ssc ssr))))<|(Xr rfl (by kernel_rfl) (OD.weak [(1,_),(59,_),(66,_),(71,_),(78,_),(85,_),(89,_),(96,_),(103,_),(105,_),(109,_),(112,_),(115,_),(118,_),(122,_),(125,_)] sbn ((ac _ _ _ _ _ _).2 (od dk hb hc hh jy kb ll A2 (.slice (some ⟨A4,0,none⟩) (x0.marks.length:Int).toNat (x0.marks.length:Int).toNat) r2 A0 _ H ns hs A5))))))))

def Qk.l1:Nat→List Val→List Val→Int→Option (List Val)
  | 0,_,_,_=>none
  | ae+1,x0,ab,aa=>if aa<(x0.length:Int) then (if (0:Int)≤aa∧aa<(x0.length:Int) then (if ab.length+([(⟨(rd x0 aa).lo,(rd x0 aa).hi,(rd x0 aa).n⟩:Val)]).length≤most then ((Qk.l1 ae x0) (ab++([(⟨(rd x0 aa).lo,(rd x0 aa).hi,(rd x0 aa).n⟩:Val)])) (i64.wrap (aa+1))) else none) else none) else (some ab)
def Qk.f (x0:List Val):Option (List Val):=Qk.l1 K0 x0 ([]:List Val) 0
theorem Qk.c (hs:St w0 ρ (Γ) w) {v0:Value} {x0:List Val} (h0:SlR Qb ρ v0 x0) {r:List Val} (H:Qk.f x0=some r):Zq Tryz.prog 47 [v0] w (fun v w'=>∃ (ρ':Hp) (v0:Value) (cs0:List Value),v=v0∧Le ρ ρ'∧St w0 ρ' (.row v0 128 Qb.sz r.length cs0::Γ) w'∧Zp Qb ρ' cs0 r):=by
 rw [Qk.f] at H
 refine Et Tryz.func47 Tryz.ntmps47 rfl<|Wr fun a5 al=>As rfl<|Ox al<|Wr fun a6 am=>K6 (xs:=[]) (cs:=[]) Zsz hs rfl rfl rfl (by decide) (by decide) rfl Ki X6 (fun an w hs=>?_)
 have ao:Zp Qb ρ ([]) ([]:List Val):=Zp.nil _ _
 refine As rfl<|Ox am<|Zi fun a7 ap=>Wr fun a8 aq=>Mv rfl<|O_y rfl (Yx Zg2 h0 rfl)<|Mv rfl<|Ox aq<|Zl fun a9 ar ba=>Xb (σ:=Nat×List Val×Int×Value×List Value) (fun (ae,ab,aa,ac,ad)=>[(3,ac),(7,v0),(8,.int .i64 (x0.length:Int)),(9,.int .i64 aa)]) (fun (ae,ab,aa,ac,ad) w=>Qk.l1 ae x0 ab aa=some r∧St w0 ρ ((.row ac 128 Qb.sz ab.length ad)::Γ) w∧Zp Qb ρ ad ab) (fun s=>s.1) (K0,([]:List Val),0,(.slice (some ⟨an,0,none⟩) 0 0),([])) (T4 rfl) (Ai H (Ai hs ao)) ?_
 rintro ⟨ae,ab,aa,ac,ad⟩ w bb ⟨H,hs,af⟩ ag
 show W _ _ _ _ _ _ [(3,ac),(7,v0),(8,.int .i64 (x0.length:Int)),(9,.int .i64 aa)] w
 cases ae with
 | zero=>rw [Qk.l1] at H;cases H
 | succ ae=>
 rw [Qk.l1] at H
 refine Wr fun bc au=>Ols rfl<|Ox au<|Zi fun bd av=>Xa rfl (fun ah=>?_) (fun ah=>?_)
 rw [if_pos ah] at H
 refine Wx av<|Zi fun be aw=>Zl fun bf bg bh=>Zi fun bi ax=>Zc ?_
 obtain ⟨aj,H⟩:=gd H
 obtain ⟨bj,bk,ay,az⟩:=h0.ix Zcx aj.1 aj.2
 obtain ⟨_,rfl,a0⟩:=ay
 refine O_y rfl (az rfl rfl)<|O_y rfl (Q0 Zft Zfd rfl rfl (fun j u hu=>hs.see (a0 j u hu)))<|Y6 Zml hs rfl (fun bl w hs=>Ye (i:=0) Zfd hs rfl rfl rfl rfl rfl (Zb rfl (Zb rfl (Zb rfl Ym))) (fun w hs=>Ox ax<|Zc<|Mv rfl<|Ofd Zf4 rfl<|Obx 0 Xn hs rfl<|Ofd Zej rfl<|Obx 0 Xn hs rfl<|Ofd Zew rfl<|Obx 0 ag3 hs rfl<|O_y rfl (Qg (cs:=[.int .i32 ((rd x0 aa).lo),.int .i32 ((rd x0 aa).hi),.int .i64 ((rd x0 aa).n)]) Zqz Zz9 ((Z3.cons rfl rfl (Z3.cons rfl rfl (Z3.cons rfl rfl Z3.nil)))) Zqs (by kernel_rfl)) ?_))
 refine K6 (xs:=[.tmp 20]) (cs:=[.int .i32 ((rd x0 aa).lo),.int .i32 ((rd x0 aa).hi),.int .i64 ((rd x0 aa).n)]) Zsz hs rfl rfl rfl (by decide) (by decide) rfl (Yd rfl Ki) (Zx rfl X6) (fun bm w hs=>?_)
 have ak:Zp Qb ρ ([.int .i32 ((rd x0 aa).lo),.int .i32 ((rd x0 aa).hi),.int .i64 ((rd x0 aa).n)]) [(⟨(rd x0 aa).lo,(rd x0 aa).hi,(rd x0 aa).n⟩:Val)]:=Zp.cons (c:=[.int .i32 ((rd x0 aa).lo),.int .i32 ((rd x0 aa).hi),.int .i64 ((rd x0 aa).n)]) (x:=(⟨(rd x0 aa).lo,(rd x0 aa).hi,(rd x0 aa).n⟩:Val)) rfl (Zp.nil _ _)
 obtain ⟨a1,H⟩:=gd H
 refine Q3 (i:=2) Zsz hs rfl af rfl rfl rfl (Src.lit (j:=0) hs rfl ak) ak a1 (fun a2 ai w a3 hs=>As rfl<|Ox aw<|W.weak [(3,_),(7,_),(8,_),(9,_)] (T4 rfl)<|Zc<|Oad rfl<|Mv rfl<|Zd (ag (ae,(ab++([(⟨(rd x0 aa).lo,(rd x0 aa).hi,(rd x0 aa).n⟩:Val)])),(i64.wrap (aa+1)),a2,ai) _ _ (T4 rfl) (Ai H (Ai (hs.sub (ssk (ssk (ssc ssr)))) a3)) (Nat.lt_succ_self _)))
 rw [if_neg ah] at H
 refine Y5 (ar _ _ (ap _ _<|Wr fun bn a4=>Mv rfl<|As rfl<|Ox a4<|Zm ?_))
 obtain rfl:=Z4 H
 exact r1 rfl ⟨_,_,_,rfl,Le.rfl' _,hs,af⟩

def Kx.l1:Nat→List Chs→List Chs→Int→Option (List Chs)
  | 0,_,_,_=>none
  | ae+1,x0,ab,aa=>if aa<(x0.length:Int) then (if (0:Int)≤aa∧aa<(x0.length:Int) then (if ([]:List Int).length+((rd x0 aa).is_).length≤most then (if ab.length+([(⟨(rd x0 aa).lo,(rd x0 aa).hi,([]:List Int)++((rd x0 aa).is_)⟩:Chs)]).length≤most then ((Kx.l1 ae x0) (ab++([(⟨(rd x0 aa).lo,(rd x0 aa).hi,([]:List Int)++((rd x0 aa).is_)⟩:Chs)])) (i64.wrap (aa+1))) else none) else none) else none) else (some ab)
def Kx.f (x0:List Chs):Option (List Chs):=Kx.l1 K0 x0 ([]:List Chs) 0
theorem Kx.c (hs:St w0 ρ (Γ) w) {v0:Value} {x0:List Chs} (h0:SlR Kz ρ v0 x0) {r:List Chs} (H:Kx.f x0=some r):Zq Tryz.prog 48 [v0] w (fun v w'=>∃ (ρ':Hp) (v0:Value) (cs0:List Value),v=v0∧Le ρ ρ'∧St w0 ρ' (.row v0 87 Kz.sz r.length cs0::Γ) w'∧Zp Kz ρ' cs0 r):=by
 rw [Kx.f] at H
 refine Et Tryz.func48 Tryz.ntmps48 rfl<|Wr fun bt a4=>As rfl<|Ox a4<|Wr fun bu a5=>K6 (xs:=[]) (cs:=[]) Zi5 hs rfl rfl rfl (by decide) (by decide) rfl Ki X6 (fun a6 w hs=>?_)
 have a7:Zp Kz ρ ([]) ([]:List Chs):=Zp.nil _ _
 refine As rfl<|Ox a5<|Zi fun bv a8=>Wr fun bw a9=>Mv rfl<|O_y rfl (Yx Zfs h0 rfl)<|Mv rfl<|Ox a9<|Zl fun bx ba bz=>Xb (σ:=Nat×List Chs×Int×Value×List Value×Hp) (fun (ae,ab,aa,ac,ad,ag)=>[(3,ac),(7,v0),(8,.int .i64 (x0.length:Int)),(9,.int .i64 aa)]) (fun (ae,ab,aa,ac,ad,ag) w=>Kx.l1 ae x0 ab aa=some r∧Le ρ ag∧St w0 ag ((.row ac 87 Kz.sz ab.length ad)::Γ) w∧Zp Kz ag ad ab) (fun s=>s.1) (K0,([]:List Chs),0,(.slice (some ⟨a6,0,none⟩) 0 0),([]),ρ) (T4 rfl) (Ai H (Ai (Le.rfl' _) (Ai hs a7))) ?_
 rintro ⟨ae,ab,aa,ac,ad,ag⟩ w b0 ⟨H,ah,hs,af⟩ ak
 show W _ _ _ _ _ _ [(3,ac),(7,v0),(8,.int .i64 (x0.length:Int)),(9,.int .i64 aa)] w
 cases ae with
 | zero=>rw [Kx.l1] at H;cases H
 | succ ae=>
 rw [Kx.l1] at H
 refine Wr fun b1 bb=>Ols rfl<|Ox bb<|Zi fun b2 bc=>Xa rfl (fun ap=>?_) (fun ap=>?_)
 rw [if_pos ap] at H
 refine Wx bc<|Zi fun b3 bd=>Zl fun b4 b5 b6=>Zi fun b7 be=>Zc ?_
 obtain ⟨a1,H⟩:=gd H
 obtain ⟨b8,b9,bf,bg⟩:=(h0.mono ah).ix Zep a1.1 a1.2
 obtain ⟨_,⟨bh,rfl,a2⟩,bi⟩:=bf
 refine O_y rfl (bg rfl rfl)<|O_y rfl (Q0 Zb1 Zap rfl rfl (fun j u hu=>hs.see (bi j u hu)))<|Y6 Zh1 hs rfl (fun bj w hs=>Ye (i:=0) Zap hs rfl rfl rfl rfl rfl (Zb rfl (Zb rfl (Zb a2.one Ym))) (fun w hs=>Ox be<|Qt 13 [0,0,2,0,8,0,0,64,160,276,512,1281,4095] [2046,4089,3577,4071,3559,3807,3903,3647,1055,2049,1,0,0] [0,0,2,0,8,0,0,64,224,510,1022,2047,4095] [11,12] (fun w=>St w0 ag ((.box bj 110 ([.int .i32 ((rd x0 aa).lo),.int .i32 ((rd x0 aa).hi),bh]))::(.row ac 87 Kz.sz ab.length ad)::Γ) w) Vr (by kernel_rfl) (fun sh=>?_)))
 have hs:=hs.drew
 refine Fm 0 sh rfl<|Fp 1 sh rfl (fun w=>Zw Zb3 rfl)<|Fy 2 sh rfl hs (fun w hs=>Yb 0 Xn hs rfl rfl rfl)<|Fp 3 sh rfl (fun w=>Zw Zik rfl)<|Fy 4 sh rfl hs (fun w hs=>Yb 0 Xn hs rfl rfl rfl)<|Fp 6 sh rfl (fun w=>Zw Zac rfl)<|Fy 7 sh rfl hs (fun w hs=>Yb 0 Za1 hs rfl rfl rfl)<|F1 5 sh rfl (fun ca bk=>K6 (xs:=[]) (cs:=[]) Kk hs rfl rfl rfl (by decide) (by decide) rfl Ki X6 (fun cb w hs=>?_))
 have bl:Zp (Rep.int .i32) ag ([]) ([]:List Int):=Zp.nil _ _
 refine Zd (bk _ _ (fun _ _=>(hs.sub (ssk (ssc (ssc ssr))))) ?_)
 obtain ⟨bm,aq,ar⟩:=Src.sl hs a2
 obtain ⟨bn,H⟩:=gd H
 refine F1 8 sh rfl (fun cc bo=>Q3 (i:=0) Kk hs rfl bl rfl rfl rfl aq ar bn (fun aj a3 w au hs=>Zd (bo _ _ (fun _ _=>(hs.sub (ssk (ssc (ssc ssr))))) ?_)))
 obtain ⟨al,ai,hs,am⟩:=hs.rowEnd (j:=0) au rfl
 refine Fp 9 sh rfl (fun w=>Qg (cs:=[.int .i32 ((rd x0 aa).lo),.int .i32 ((rd x0 aa).hi),aj]) Zo4 Z0s ((Z3.cons rfl rfl (Z3.cons rfl rfl (Z3.cons rfl am.cellsL Z3.nil)))) Znc (by kernel_rfl))<|F1 10 sh rfl (fun bp av=>K6 (xs:=[.tmp 22]) (cs:=[.int .i32 ((rd x0 aa).lo),.int .i32 ((rd x0 aa).hi),aj]) Zi5 hs rfl rfl rfl (by decide) (by decide) rfl (Yd rfl Ki) (Zx rfl X6) (fun bq w hs=>?_))
 have an:Zp Kz al ([.int .i32 ((rd x0 aa).lo),.int .i32 ((rd x0 aa).hi),aj]) [(⟨(rd x0 aa).lo,(rd x0 aa).hi,([]:List Int)++((rd x0 aa).is_)⟩:Chs)]:=Zp.cons (c:=[.int .i32 ((rd x0 aa).lo),.int .i32 ((rd x0 aa).hi),aj]) (x:=(⟨(rd x0 aa).lo,(rd x0 aa).hi,([]:List Int)++((rd x0 aa).is_)⟩:Chs)) ⟨_,rfl,am⟩ (Zp.nil _ _)
 refine Zd (av _ _ (fun _ _=>((hs.less ai).sub (ssk (ssc (ssc ssr))))) ?_)
 obtain ⟨aw,H⟩:=gd H
 refine F1 11 sh rfl (fun br ax=>Q3 (i:=2) Zi5 hs rfl (af.mono ai) rfl rfl rfl (Src.lit (j:=0) hs rfl an) an aw (fun ay ao w az hs=>Zd (ax _ _ (fun h _=>absurd h (by decide))<|Kn sh [] hs (by kernel_rfl)<|Fp 12 sh rfl (fun w=>Xz rfl)<|FE sh (bd _ _<|W.weak [(3,_),(7,_),(8,_),(9,_)] (T4 rfl)<|Zc<|Oad rfl<|Mv rfl<|Zd (ak (ae,(ab++([(⟨(rd x0 aa).lo,(rd x0 aa).hi,([]:List Int)++((rd x0 aa).is_)⟩:Chs)])),(i64.wrap (aa+1)),ay,ao,al) _ _ (T4 rfl) (Ai H (Ai (ah.trans ai) (Ai (hs.sub (ssk (ssk (ssc ssr)))) az))) (Nat.lt_succ_self _))))))
 rw [if_neg ap] at H
 refine Y5 (ba _ _ (a8 _ _<|Wr fun bs a0=>Mv rfl<|As rfl<|Ox a0<|Zm ?_))
 obtain rfl:=Z4 H
 exact r1 rfl ⟨_,_,_,rfl,ah,hs,af⟩

end Go.Proofs.YthoicbafdanmkaaGreatDoor
/- Written by this repo's gen.py: for each Go function a Lean function with the same answers and the walk that shows it. -/
namespace Go.Proofs.YthoicbafdanmkaaGreatDoor
open Go.IntKind (i8 i16 i32 i64 u8 u16 u32 u64)
open Go.RowKit
set_option maxRecDepth 100000
set_option maxHeartbeats 4000000
variable {w0 w:World} {ρ:Hp} {Γ:List Kd}
set_option linter.unusedVariables false
def J5.l1:Nat→List Spn→List Spn→Int→Option (List Spn)
  | 0,_,_,_=>none
  | ae+1,x0,ab,aa=>if aa<(x0.length:Int) then (if (0:Int)≤aa∧aa<(x0.length:Int) then (if ab.length+([(⟨(rd x0 aa).lo,(rd x0 aa).hi⟩:Spn)]).length≤most then ((J5.l1 ae x0) (ab++([(⟨(rd x0 aa).lo,(rd x0 aa).hi⟩:Spn)])) (i64.wrap (aa+1))) else none) else none) else (some ab)
def J5.f (x0:List Spn):Option (List Spn):=J5.l1 K0 x0 ([]:List Spn) 0
theorem J5.c (hs:St w0 ρ (Γ) w) {v0:Value} {x0:List Spn} (h0:SlR Kj ρ v0 x0) {r:List Spn} (H:J5.f x0=some r):Zq Tryz.prog 49 [v0] w (fun v w'=>∃ (ρ':Hp) (v0:Value) (cs0:List Value),v=v0∧Le ρ ρ'∧St w0 ρ' (.row v0 90 Kj.sz r.length cs0::Γ) w'∧Zp Kj ρ' cs0 r):=by
 rw [J5.f] at H
 refine Et Tryz.func49 Tryz.ntmps49 rfl<|Wr fun a5 al=>As rfl<|Ox al<|Wr fun a6 am=>K6 (xs:=[]) (cs:=[]) Zih hs rfl rfl rfl (by decide) (by decide) rfl Ki X6 (fun an w hs=>?_)
 have ao:Zp Kj ρ ([]) ([]:List Spn):=Zp.nil _ _
 refine As rfl<|Ox am<|Zi fun a7 ap=>Wr fun a8 aq=>Mv rfl<|O_y rfl (Yx Zky h0 rfl)<|Mv rfl<|Ox aq<|Zl fun a9 ar ba=>Xb (σ:=Nat×List Spn×Int×Value×List Value) (fun (ae,ab,aa,ac,ad)=>[(3,ac),(7,v0),(8,.int .i64 (x0.length:Int)),(9,.int .i64 aa)]) (fun (ae,ab,aa,ac,ad) w=>J5.l1 ae x0 ab aa=some r∧St w0 ρ ((.row ac 90 Kj.sz ab.length ad)::Γ) w∧Zp Kj ρ ad ab) (fun s=>s.1) (K0,([]:List Spn),0,(.slice (some ⟨an,0,none⟩) 0 0),([])) (T4 rfl) (Ai H (Ai hs ao)) ?_
 rintro ⟨ae,ab,aa,ac,ad⟩ w bb ⟨H,hs,af⟩ ag
 show W _ _ _ _ _ _ [(3,ac),(7,v0),(8,.int .i64 (x0.length:Int)),(9,.int .i64 aa)] w
 cases ae with
 | zero=>rw [J5.l1] at H;cases H
 | succ ae=>
 rw [J5.l1] at H
 refine Wr fun bc au=>Ols rfl<|Ox au<|Zi fun bd av=>Xa rfl (fun ah=>?_) (fun ah=>?_)
 rw [if_pos ah] at H
 refine Wx av<|Zi fun be aw=>Zl fun bf bg bh=>Zi fun bi ax=>Zc ?_
 obtain ⟨aj,H⟩:=gd H
 obtain ⟨bj,bk,ay,az⟩:=h0.ix Zkx aj.1 aj.2
 obtain ⟨_,rfl,a0⟩:=ay
 refine O_y rfl (az rfl rfl)<|O_y rfl (Q0 Zbg Hv rfl rfl (fun j u hu=>hs.see (a0 j u hu)))<|Y6 Za5 hs rfl (fun bl w hs=>Ye (i:=0) Hv hs rfl rfl rfl rfl rfl (Zb rfl (Zb rfl Ym)) (fun w hs=>Ox ax<|Zc<|Mv rfl<|Ofd U6 rfl<|Obx 0 Xn hs rfl<|Ofd Vy rfl<|Obx 0 Xn hs rfl<|O_y rfl (Qg (cs:=[.int .i32 ((rd x0 aa).lo),.int .i32 ((rd x0 aa).hi)]) Zt4 Zzd ((Z3.cons rfl rfl (Z3.cons rfl rfl Z3.nil))) Zui (by kernel_rfl))<|K6 (xs:=[.tmp 18]) (cs:=[.int .i32 ((rd x0 aa).lo),.int .i32 ((rd x0 aa).hi)]) Zih hs rfl rfl rfl (by decide) (by decide) rfl (Yd rfl Ki) (Zx rfl X6) (fun bm w hs=>?_)))
 have ak:Zp Kj ρ ([.int .i32 ((rd x0 aa).lo),.int .i32 ((rd x0 aa).hi)]) [(⟨(rd x0 aa).lo,(rd x0 aa).hi⟩:Spn)]:=Zp.cons (c:=[.int .i32 ((rd x0 aa).lo),.int .i32 ((rd x0 aa).hi)]) (x:=(⟨(rd x0 aa).lo,(rd x0 aa).hi⟩:Spn)) rfl (Zp.nil _ _)
 obtain ⟨a1,H⟩:=gd H
 refine Q3 (i:=2) Zih hs rfl af rfl rfl rfl (Src.lit (j:=0) hs rfl ak) ak a1 (fun a2 ai w a3 hs=>As rfl<|Ox aw<|W.weak [(3,_),(7,_),(8,_),(9,_)] (T4 rfl)<|Zc<|Oad rfl<|Mv rfl<|Zd (ag (ae,(ab++([(⟨(rd x0 aa).lo,(rd x0 aa).hi⟩:Spn)])),(i64.wrap (aa+1)),a2,ai) _ _ (T4 rfl) (Ai H (Ai (hs.sub (ssk (ssk (ssc ssr)))) a3)) (Nat.lt_succ_self _)))
 rw [if_neg ah] at H
 refine Y5 (ar _ _ (ap _ _<|Wr fun bn a4=>Mv rfl<|As rfl<|Ox a4<|Zm ?_))
 obtain rfl:=Z4 H
 exact r1 rfl ⟨_,_,_,rfl,Le.rfl' _,hs,af⟩

def Zcc.f (x0:Bk):Option Bk:=if ([]:List ByteArray).length+x0.names.length≤most then ((Qk.f x0.status).bind fun di=>((Kx.f x0.maps).bind fun bh=>((Qk.f x0.class_).bind fun bi=>((Kx.f x0.decomp).bind fun bj=>((J5.f x0.excl).bind fun bk=>((Qk.f x0.bidi).bind fun bl=>((Qk.f x0.join).bind fun bm=>((J5.f x0.marks).bind fun bn=>((Qk.f x0.script).bind fun bo=>((Kx.f x0.like).bind fun bp=>(some (⟨([]:List ByteArray)++x0.names,di,bh,bi,bj,bk,bl,bm,bn,bo,bp⟩:Bk)))))))))))) else none
theorem Zcc.c (hs:St w0 ρ (Γ) w) {c0:List Value} {x0:Bk} (h0:rBk.R ρ c0 x0) {r:Bk} (H:Zcc.f x0=some r):Zq Tryz.prog 25 [.agg c0.toArray] w (fun v w'=>∃ (ρ':Hp) (cs0:List Value),v=.agg cs0.toArray∧Le ρ ρ'∧St w0 ρ' (Γ) w'∧rBk.R ρ' cs0 r):=by
 rw [Zcc.f] at H
 refine Et Tryz.func25 Tryz.ntmps25 rfl ?_
 have ee:=h0
 obtain ⟨dj,dk,dl,dm,dn,dp,dq,dr,ds,dt,du,rfl,ef,eg,eh,ei,ej,ek,el,em,en,eo,ep⟩:=ee
 refine Wr fun gk eq=>Vn (cs:=[dj,dk,dl,dm,dn,dp,dq,dr,ds,dt,du]) hs rfl rfl (fun er w hs=>Y6 Zss hs rfl (fun es w hs=>Ox eq<|Zi fun gl et=>Qt 36 [0,0,2,5,0,16,40,0,128,320,0,1024,2560,0,8192,20480,0,65536,163840,0,524288,1310720,0,4194304,10485760,0,33554432,83886080,0,268435456,671088640,0,2147483648,5368709120,9817068104,34359738367] [34359738358,34359738361,34359738353,17179869104,34359738319,34359738255,17179868544,34359737983,34359737471,17179864064,34359735295,34359731199,17179828224,34359713791,34359681023,17179541504,34359541759,34359279615,17177247744,34358165503,34356068351,17158897664,34347155455,34330378239,17012097024,34259075071,34124857343,15837691904,33554431999,32480690175,6442450944,27917287423,19327352831,0,0,0] [0,0,2,7,0,16,63,0,128,511,0,1024,4095,0,8192,32767,0,65536,262143,0,524288,2097151,0,4194304,16777215,0,33554432,134217727,0,268435456,1073741823,0,2147483648,8589934591,17179869183,34359738367] [35] (fun w=>St w0 ρ ((.box es 34 ([.slice none 0 0,.slice none 0 0,.slice none 0 0,.slice none 0 0,.slice none 0 0,.slice none 0 0,.slice none 0 0,.slice none 0 0,.slice none 0 0,.slice none 0 0,.slice none 0 0]))::(.box er 27 ([dj,dk,dl,dm,dn,dp,dq,dr,ds,dt,du]))::Γ) w) Vr (by kernel_rfl) (fun sh=>?_)))
 have hs:=hs.drew
 refine Fp 1 sh rfl (fun w=>Zw Zns rfl)<|Fy 2 sh rfl hs (fun w hs=>Yb 1 Ztp hs rfl rfl rfl)<|Fp 4 sh rfl (fun w=>Zw Zd7 rfl)<|Fy 5 sh rfl hs (fun w hs=>Yb 1 Zbx hs rfl rfl rfl)<|Fp 7 sh rfl (fun w=>Zw Zm1 rfl)<|Fy 8 sh rfl hs (fun w hs=>Yb 1 Zfe hs rfl rfl rfl)<|Fp 10 sh rfl (fun w=>Zw Zmg rfl)<|Fy 11 sh rfl hs (fun w hs=>Yb 1 Zbx hs rfl rfl rfl)<|Fp 13 sh rfl (fun w=>Zw Zfp rfl)<|Fy 14 sh rfl hs (fun w hs=>Yb 1 Zfe hs rfl rfl rfl)<|Fp 16 sh rfl (fun w=>Zw Zmc rfl)<|Fy 17 sh rfl hs (fun w hs=>Yb 1 Zn5 hs rfl rfl rfl)<|Fp 19 sh rfl (fun w=>Zw Zne rfl)<|Fy 20 sh rfl hs (fun w hs=>Yb 1 Zbx hs rfl rfl rfl) ?_
 refine Fp 22 sh rfl (fun w=>Zw Znm rfl)<|Fy 23 sh rfl hs (fun w hs=>Yb 1 Zbx hs rfl rfl rfl)<|Fp 25 sh rfl (fun w=>Zw Znf rfl)<|Fy 26 sh rfl hs (fun w hs=>Yb 1 Zn5 hs rfl rfl rfl)<|Fp 28 sh rfl (fun w=>Zw Zmt rfl)<|Fy 29 sh rfl hs (fun w hs=>Yb 1 Zbx hs rfl rfl rfl)<|Fp 31 sh rfl (fun w=>Zw Zir rfl)<|Fy 32 sh rfl hs (fun w hs=>Yb 1 Zfe hs rfl rfl rfl)<|F1 0 sh rfl (fun gm eu=>K6 (xs:=[]) (cs:=[]) Zhc hs rfl rfl rfl (by decide) (by decide) rfl Ki X6 (fun gn w hs=>?_))
 have ev:Zp Rep.str ρ ([]) ([]:List ByteArray):=Zp.nil _ _
 refine Zd (eu _ _ (fun _ _=>(hs.sub (ssk (ssc (ssc ssr))))) ?_)
 obtain ⟨ew,b0,b1⟩:=Src.sl hs ef
 obtain ⟨ex,H⟩:=gd H
 refine F1 3 sh rfl (fun go ey=>Q3 (i:=0) Zhc hs rfl ev rfl rfl rfl b0 b1 ex (fun ez e0 w e1 hs=>Zd (ey _ _ (fun _ _=>(hs.sub (ssk (ssc (ssc ssr)))))<|F1 6 sh rfl (fun gp e2=>?_))))
 obtain ⟨di,b2,H⟩:=bnd H
 refine Oc rfl (Qk.c hs eg b2) (fun e3 w hpost=>?_)
 obtain ⟨e4,gq,e5,rfl,au,hs,b3⟩:=hpost
 refine Zd (e2 _ _ (fun _ _=>((hs.less au).sub (ssk (ssk (ssc (ssc ssr))))))<|F1 9 sh rfl (fun e6 b4=>?_))
 obtain ⟨bh,bq,H⟩:=bnd H
 refine Oc rfl (Kx.c hs (eh.mono au) bq) (fun b5 w hpost=>?_)
 obtain ⟨e7,e8,dv,rfl,aw,hs,b6⟩:=hpost
 have ax:=au.trans aw
 refine Zd (b4 _ _ (fun _ _=>((hs.less ax).sub (ssk (ssk (ssk (ssc (ssc ssr)))))))<|F1 12 sh rfl (fun e9 b7=>?_))
 obtain ⟨bi,br,H⟩:=bnd H
 refine Oc rfl (Qk.c hs (ei.mono ax) br) (fun b8 w hpost=>?_)
 obtain ⟨fa,fb,dw,rfl,av,hs,b9⟩:=hpost
 have ay:=ax.trans av
 refine Zd (b7 _ _ (fun _ _=>((hs.less ay).sub (ssk (ssk (ssk (ssk (ssc (ssc ssr))))))))<|F1 15 sh rfl (fun fc ca=>?_))
 obtain ⟨bj,bs,H⟩:=bnd H
 refine Oc rfl (Kx.c hs (ej.mono ay) bs) (fun cb w hpost=>?_)
 obtain ⟨fd,fe,dx,rfl,ar,hs,cc⟩:=hpost
 have az:=ay.trans ar
 refine Zd (ca _ _ (fun _ _=>((hs.less az).sub (ssk (ssk (ssk (ssk (ssk (ssc (ssc ssr)))))))))<|F1 18 sh rfl (fun ff cd=>?_))
 obtain ⟨bk,bt,H⟩:=bnd H
 refine Oc rfl (J5.c hs (ek.mono az) bt) (fun ce w hpost=>?_)
 obtain ⟨fg,fh,dy,rfl,aq,hs,cf⟩:=hpost
 have a0:=az.trans aq
 refine Zd (cd _ _ (fun _ _=>((hs.less a0).sub (ssk (ssk (ssk (ssk (ssk (ssk (ssc (ssc ssr))))))))))<|F1 21 sh rfl (fun fi cg=>?_))
 obtain ⟨bl,bu,H⟩:=bnd H
 refine Oc rfl (Qk.c hs (el.mono a0) bu) (fun ch w hpost=>?_)
 obtain ⟨fj,fk,dz,rfl,ap,hs,ci⟩:=hpost
 have a1:=a0.trans ap
 refine Zd (cg _ _ (fun _ _=>((hs.less a1).sub (ssk (ssk (ssk (ssk (ssk (ssk (ssk (ssc (ssc ssr)))))))))))<|F1 24 sh rfl (fun fl cj=>?_))
 obtain ⟨bm,bv,H⟩:=bnd H
 refine Oc rfl (Qk.c hs (em.mono a1) bv) (fun ck w hpost=>?_)
 obtain ⟨fm,fn,ea,rfl,ao,hs,cl⟩:=hpost
 have a2:=a1.trans ao
 refine Zd (cj _ _ (fun _ _=>((hs.less a2).sub (ssk (ssk (ssk (ssk (ssk (ssk (ssk (ssk (ssc (ssc ssr))))))))))))<|F1 27 sh rfl (fun fo cm=>?_))
 obtain ⟨bn,bw,H⟩:=bnd H
 refine Oc rfl (J5.c hs (en.mono a2) bw) (fun cn w hpost=>?_)
 obtain ⟨fp,fq,eb,rfl,an,hs,co⟩:=hpost
 have a3:=a2.trans an
 refine Zd (cm _ _ (fun _ _=>((hs.less a3).sub (ssk (ssk (ssk (ssk (ssk (ssk (ssk (ssk (ssk (ssc (ssc ssr)))))))))))))<|F1 30 sh rfl (fun fr cp=>?_))
 obtain ⟨bo,bx,H⟩:=bnd H
 refine Oc rfl (Qk.c hs (eo.mono a3) bx) (fun cq w hpost=>?_)
 obtain ⟨fs,ft,ec,rfl,am,hs,cr⟩:=hpost
 have a4:=a3.trans am
 refine Zd (cp _ _ (fun _ _=>((hs.less a4).sub (ssk (ssk (ssk (ssk (ssk (ssk (ssk (ssk (ssk (ssk (ssc (ssc ssr))))))))))))))<|F1 33 sh rfl (fun fu ct=>?_))
 obtain ⟨bp,bz,H⟩:=bnd H
 refine Oc rfl (Kx.c hs (ep.mono a4) bz) (fun cu w hpost=>?_)
 obtain ⟨fv,fw,ed,rfl,al,hs,cv⟩:=hpost
 have a5:=a4.trans al
 refine Zd (ct _ _ (fun _ _=>((hs.less a5).sub (ssk (ssk (ssk (ssk (ssk (ssk (ssk (ssk (ssk (ssk (ssk (ssc (ssc ssr))))))))))))))) ?_)
 obtain ⟨fx,aa,hs,a6⟩:=hs.rowEnd (j:=10) (e1.mono a5) rfl
 have cw:=a5.trans aa
 obtain ⟨fy,ab,hs,a7⟩:=hs.rowEnd (j:=9) (b3.mono (((((((((aw.trans av).trans ar).trans aq).trans ap).trans ao).trans an).trans am).trans al).trans aa)) rfl
 have cx:=cw.trans ab
 obtain ⟨fz,ac,hs,a8⟩:=hs.rowEnd (j:=8) (b6.mono (((((((((av.trans ar).trans aq).trans ap).trans ao).trans an).trans am).trans al).trans aa).trans ab)) rfl
 have cy:=cx.trans ac
 obtain ⟨ga,ad,hs,a9⟩:=hs.rowEnd (j:=7) (b9.mono (((((((((ar.trans aq).trans ap).trans ao).trans an).trans am).trans al).trans aa).trans ab).trans ac)) rfl
 have cz:=cy.trans ad
 obtain ⟨gb,ae,hs,ba⟩:=hs.rowEnd (j:=6) (cc.mono (((((((((aq.trans ap).trans ao).trans an).trans am).trans al).trans aa).trans ab).trans ac).trans ad)) rfl
 have da:=cz.trans ae
 obtain ⟨gc,af,hs,bb⟩:=hs.rowEnd (j:=5) (cf.mono (((((((((ap.trans ao).trans an).trans am).trans al).trans aa).trans ab).trans ac).trans ad).trans ae)) rfl
 have db:=da.trans af
 obtain ⟨ge,ag,hs,bc⟩:=hs.rowEnd (j:=4) (ci.mono (((((((((ao.trans an).trans am).trans al).trans aa).trans ab).trans ac).trans ad).trans ae).trans af)) rfl
 have dc:=db.trans ag
 obtain ⟨gf,ah,hs,bd⟩:=hs.rowEnd (j:=3) (cl.mono (((((((((an.trans am).trans al).trans aa).trans ab).trans ac).trans ad).trans ae).trans af).trans ag)) rfl
 have dd:=dc.trans ah
 obtain ⟨gg,ai,hs,be⟩:=hs.rowEnd (j:=2) (co.mono (((((((((am.trans al).trans aa).trans ab).trans ac).trans ad).trans ae).trans af).trans ag).trans ah)) rfl
 have de:=dd.trans ai
 obtain ⟨gh,aj,hs,bf⟩:=hs.rowEnd (j:=1) (cr.mono (((((((((al.trans aa).trans ab).trans ac).trans ad).trans ae).trans af).trans ag).trans ah).trans ai)) rfl
 have df:=de.trans aj
 obtain ⟨gi,ak,hs,bg⟩:=hs.rowEnd (j:=0) (cv.mono (((((((((aa.trans ab).trans ac).trans ad).trans ae).trans af).trans ag).trans ah).trans ai).trans aj)) rfl
 have dg:=df.trans ak
 refine Fp 34 sh rfl (fun w=>Qg (cs:=[ez,e3,b5,b8,cb,ce,ch,ck,cn,cq,cu]) Zss Z0a ((Z3.cons rfl a6.cellsL (Z3.cons rfl a7.cellsL (Z3.cons rfl a8.cellsL (Z3.cons rfl a9.cellsL (Z3.cons rfl ba.cellsL (Z3.cons rfl bb.cellsL (Z3.cons rfl bc.cellsL (Z3.cons rfl bd.cellsL (Z3.cons rfl be.cellsL (Z3.cons rfl bf.cellsL (Z3.cons rfl bg.cellsL Z3.nil)))))))))))) Zkr (by kernel_rfl))<|F1 35 sh rfl (fun gj dh=>Ye (i:=0) Zfu hs rfl rfl rfl rfl rfl (Zb a6.one (Zb a7.one (Zb a8.one (Zb a9.one (Zb ba.one (Zb bb.one (Zb bc.one (Zb bd.one (Zb be.one (Zb bf.one (Zb bg.one Ym))))))))))) (fun w hs=>Zd (dh _ _ (fun h _=>absurd h (by decide))<|FE sh (et _ _<|W.weak [(2,_)] (S1 rfl)<|Zm ?_))))
 obtain rfl:=Z4 H
 exact Zi2 (i:=0) rfl rfl Zkr Zfu hs rfl rfl ⟨_,_,rfl,dg,(hs.sub (ssk (ssk ssr))),⟨_,_,_,_,_,_,_,_,_,_,_,rfl,(a6.mono (((((((((ab.trans ac).trans ad).trans ae).trans af).trans ag).trans ah).trans ai).trans aj).trans ak)),(a7.mono ((((((((ac.trans ad).trans ae).trans af).trans ag).trans ah).trans ai).trans aj).trans ak)),(a8.mono (((((((ad.trans ae).trans af).trans ag).trans ah).trans ai).trans aj).trans ak)),(a9.mono ((((((ae.trans af).trans ag).trans ah).trans ai).trans aj).trans ak)),(ba.mono (((((af.trans ag).trans ah).trans ai).trans aj).trans ak)),(bb.mono ((((ag.trans ah).trans ai).trans aj).trans ak)),(bc.mono (((ah.trans ai).trans aj).trans ak)),(bd.mono ((ai.trans aj).trans ak)),(be.mono (aj.trans ak)),(bf.mono ak),bg⟩⟩

def J7.j1 (ae:Bk) (ac:Option Tbs×Int) (ab:Bool):Option (Option Tbs×Bk×Bool):=some (ac.1,ae,ab)
def J7.f (x0:Bk):Option (Option Tbs×Bk×Bool):=(Zcc.f x0).bind fun ae=>((Zf.f ae).bind fun af=>((Zk.f x0).bind fun ac=>(if af.2.2≠0 then (some (none,(⟨([]:List ByteArray),([]:List Val),([]:List Chs),([]:List Val),([]:List Chs),([]:List Spn),([]:List Val),([]:List Val),([]:List Spn),([]:List Val),([]:List Chs)⟩:Bk),decide (ac.2=af.2.2))) else (if ac.2=0 then (J7.j1 ae ac ((ac.1).isSome)) else (J7.j1 ae ac false)))))
theorem J7.c (hs:St w0 ρ (Γ) w) {c0:List Value} {x0:Bk} (h0:rBk.R ρ c0 x0) {r:Option Tbs×Bk×Bool} (H:J7.f x0=some r):Zq Tryz.prog 7 [.agg c0.toArray] w (fun v w'=>∃ (ρ':Hp) (v0:Value) (cs1:List Value),v=.tuple #[v0,.agg cs1.toArray,.bool r.2.2]∧Le ρ ρ'∧St w0 ρ' (Γ) w'∧Xw H4 ρ' v0 r.1∧rBk.R ρ' cs1 r.2.1):=by
 rw [J7.f] at H
 refine Et Tryz.func7 Tryz.ntmps7 rfl ?_
 have cg:=h0
 obtain ⟨a0,a1,a2,a3,a4,a5,a6,a7,a8,a9,ba,rfl,cu,cv,cw,cx,cy,cz,da,db,dc,dd,de⟩:=cg
 refine Wr fun df ch=>Vn (cs:=[a0,a1,a2,a3,a4,a5,a6,a7,a8,a9,ba]) hs rfl rfl (fun cf w hs=>As rfl<|Y6 Zss hs rfl (fun bb w hs=>As rfl<|Ox ch<|Wr fun dg ci=>O_y rfl (Xl (i:=1) Zk3 Zkz hs rfl rfl rfl rfl) ?_))
 obtain ⟨ae,bc,H⟩:=bnd H
 refine Oc rfl (Zcc.c hs h0 bc) (fun dh w hpost=>?_)
 obtain ⟨di,cj,rfl,ag,hs,bd⟩:=hpost
 have be:=bd
 obtain ⟨bf,bg,bh,bi,bj,bk,bl,ah,ai,aj,ak,rfl,bm,bn,bo,bp,bq,br,al,am,an,ao,ap⟩:=be
 refine Y6 Zss hs rfl (fun au w hs=>Ye (i:=0) Zfu hs rfl rfl rfl rfl rfl (Zb bm.one (Zb bn.one (Zb bo.one (Zb bp.one (Zb bq.one (Zb br.one (Zb al.one (Zb am.one (Zb an.one (Zb ao.one (Zb ap.one Ym))))))))))) (fun w hs=>Ox ci<|Wr fun ck bs=>O_y rfl (Xl (i:=0) Zkr Zfu hs rfl rfl rfl rfl) ?_))
 obtain ⟨af,av,H⟩:=bnd H
 refine Oc rfl (Zf.c hs bd av) (fun cl w hpost=>?_)
 obtain ⟨rfl,hs⟩:=hpost
 refine Mv rfl<|Oxt rfl<|Oxt rfl<|Oxt rfl<|As rfl<|As rfl<|As rfl<|Ox bs<|W.weak [(1,_),(3,_),(5,_),(8,_)] (T4 rfl)<|Wr fun cm bt=>O_y rfl (Xl (i:=2) Zk3 Zkz hs rfl rfl rfl rfl) ?_
 obtain ⟨ac,aw,H⟩:=bnd H
 refine Oc rfl (Zk.c hs (rBk.mono ag h0) aw) (fun cn w hpost=>?_)
 obtain ⟨aa,bu,rfl,ad,hs,ax⟩:=hpost
 refine Mv rfl<|Oxt rfl<|Oxt rfl<|As rfl<|As rfl<|Ox bt<|Zi fun co bv=>Wr fun cp bw=>Mv rfl<|One rfl<|Ox bw<|Xa rfl (fun aq=>?_) (fun aq=>?_)
 rw [if_pos aq] at H
 refine Wr fun cq bx=>O_y rfl (Qg (cs:=[.slice none 0 0,.slice none 0 0,.slice none 0 0,.slice none 0 0,.slice none 0 0,.slice none 0 0,.slice none 0 0,.slice none 0 0,.slice none 0 0,.slice none 0 0,.slice none 0 0]) Zss Z0a (Z3.nil) Zkr (by kernel_rfl))<|Mv rfl<|Mv rfl<|Oeq rfl<|As rfl<|Ye (i:=1) Zfu hs rfl rfl rfl rfl rfl (Zb rfl (Zb rfl (Zb rfl (Zb rfl (Zb rfl (Zb rfl (Zb rfl (Zb rfl (Zb rfl (Zb rfl (Zb rfl Ym))))))))))) (fun w hs=>As rfl<|Ox bx<|W.weak [(2,_),(3,_),(4,_)] (T3 rfl)<|Zm ?_)
 have bz:Xw H4 aa (.pointer none) none:=Xw.nil _ _
 have b0:SlR Rep.str aa (.slice none 0 0) []:=.inl ⟨rfl,none,0,rfl⟩
 have b1:SlR Qb aa (.slice none 0 0) []:=.inl ⟨rfl,none,0,rfl⟩
 have b2:SlR Kz aa (.slice none 0 0) []:=.inl ⟨rfl,none,0,rfl⟩
 have b3:SlR Qb aa (.slice none 0 0) []:=.inl ⟨rfl,none,0,rfl⟩
 have b4:SlR Kz aa (.slice none 0 0) []:=.inl ⟨rfl,none,0,rfl⟩
 have b5:SlR Kj aa (.slice none 0 0) []:=.inl ⟨rfl,none,0,rfl⟩
 have b6:SlR Qb aa (.slice none 0 0) []:=.inl ⟨rfl,none,0,rfl⟩
 have b7:SlR Qb aa (.slice none 0 0) []:=.inl ⟨rfl,none,0,rfl⟩
 have b8:SlR Kj aa (.slice none 0 0) []:=.inl ⟨rfl,none,0,rfl⟩
 have b9:SlR Qb aa (.slice none 0 0) []:=.inl ⟨rfl,none,0,rfl⟩
 have ca:SlR Kz aa (.slice none 0 0) []:=.inl ⟨rfl,none,0,rfl⟩
 obtain rfl:=Z4 H
 exact Zzw rfl (RV.tmp rfl (RV.cell rfl Zkr Zfu rfl (fun j u hu=>hs.boxCell (i:=1) rfl hu) (RV.tmp rfl RV.nil))) (by simp) ⟨_,_,_,rfl,(ag.trans ad),(hs.sub (ssk (ssk (ssk ssr)))),bz,⟨_,_,_,_,_,_,_,_,_,_,_,rfl,b0,b1,b2,b3,b4,b5,b6,b7,b8,b9,ca⟩⟩
 rw [if_neg aq] at H
 refine Wx bv<|Yt fun cb cc ay=>?_
 have az:∀ (ab:Bool) (w:World),J7.j1 ae ac ab=some r→St w0 aa ((.box au 34 ([bf,bg,bh,bi,bj,bk,bl,ah,ai,aj,ak]))::(.box bb 34 ([bf,bg,bh,bi,bj,bk,bl,ah,ai,aj,ak]))::(.box cf 27 ([a0,a1,a2,a3,a4,a5,a6,a7,a8,a9,ba]))::Γ) w→cb [(2,bu),(3,.pointer (some ⟨bb,0,none⟩)),(4,.bool ab)] w:=by
  intro ab w H hs
  rw [J7.j1] at H
  refine cc _ _<|Zm ?_
  obtain rfl:=Z4 H
  exact Zzw rfl (RV.tmp rfl (RV.cell rfl Zkr Zfu rfl (fun j u hu=>hs.boxCell (i:=1) rfl hu) (RV.tmp rfl RV.nil))) (by simp) ⟨_,_,_,rfl,(ag.trans ad),(hs.sub (ssk (ssk (ssk ssr)))),ax,(rBk.mono ad bd)⟩
 refine Qt 11 [0,0,0,4,8,16,48,80,17,259,1023] [254,509,1011,995,515,899,771,771,226,0,0] [0,0,0,4,12,28,60,124,29,287,1023] [9,10] (fun w=>St w0 aa ((.box au 34 ([bf,bg,bh,bi,bj,bk,bl,ah,ai,aj,ak]))::(.box bb 34 ([.slice none 0 0,.slice none 0 0,.slice none 0 0,.slice none 0 0,.slice none 0 0,.slice none 0 0,.slice none 0 0,.slice none 0 0,.slice none 0 0,.slice none 0 0,.slice none 0 0]))::(.box cf 27 ([a0,a1,a2,a3,a4,a5,a6,a7,a8,a9,ba]))::Γ) w) Vr (by kernel_rfl) (fun sh=>?_)
 have hs:=hs.drew
 refine Fm 0 sh rfl<|Fy 1 sh rfl hs (fun w hs=>Xl (i:=0) Zkr Zfu hs rfl rfl rfl rfl)<|Fm 2 sh rfl<|Fp 3 sh rfl (fun w=>Zbw rfl rfl)<|Fm 4 sh rfl<|Za4 (dj:=34) rfl (fun ar=>?_) (fun ar=>?_)
 rw [if_pos ar] at H
 refine Fp 5 sh rfl (fun w=>Qm rfl)<|Fp 6 sh rfl (fun w=>(ax.nen Zp9 rfl rfl))<|Fp 7 sh rfl (fun w=>Ve rfl rfl)<|Fp 8 sh rfl (fun w=>Xz rfl)<|F1 9 sh rfl (fun cr cd=>Ye (i:=1) Zfu hs rfl rfl rfl rfl rfl (Zb bm.one (Zb bn.one (Zb bo.one (Zb bp.one (Zb bq.one (Zb br.one (Zb al.one (Zb am.one (Zb an.one (Zb ao.one (Zb ap.one Ym))))))))))) (fun w hs=>Zd (cd _ _ (fun h _=>absurd h (by decide))<|Kn sh [] hs (by kernel_rfl)<|Fp 10 sh rfl (fun w=>Xz rfl)<|FE sh (ay _ _ _ (T3 rfl) (az ((ac.1).isSome) _ H hs)))))
 rw [if_neg ar] at H
 refine Fn 5 sh rfl<|Fn 6 sh rfl<|Fp 7 sh rfl (fun w=>Qr rfl rfl)<|Fp 8 sh rfl (fun w=>Xz rfl)<|F1 9 sh rfl (fun ct ce=>Ye (i:=1) Zfu hs rfl rfl rfl rfl rfl (Zb bm.one (Zb bn.one (Zb bo.one (Zb bp.one (Zb bq.one (Zb br.one (Zb al.one (Zb am.one (Zb an.one (Zb ao.one (Zb ap.one Ym))))))))))) (fun w hs=>Zd (ce _ _ (fun h _=>absurd h (by decide))<|Kn sh [] hs (by kernel_rfl)<|Fp 10 sh rfl (fun w=>Xz rfl)<|FE sh (ay _ _ _ (T3 rfl) (az false _ H hs)))))

end Go.Proofs.YthoicbafdanmkaaGreatDoor
/- Written by this repo's gen.py: for each Go function a Lean function with the same answers and the walk that shows it. -/
namespace Go.Proofs.YthoicbafdanmkaaGreatDoor
open Go.IntKind (i8 i16 i32 i64 u8 u16 u32 u64)
open Go.RowKit
set_option maxRecDepth 100000
set_option maxHeartbeats 4000000
variable {w0 w:World} {ρ:Hp} {Γ:List Kd}
set_option linter.unusedVariables false
def Kw.l1:Nat→List Int→List Int→Int→Option Bool
  | 0,_,_,_=>none
  | ab+1,x0,x1,aa=>if aa<(x0.length:Int) then (if (0:Int)≤aa∧aa<(x0.length:Int) then (if (0:Int)≤aa∧aa<(x1.length:Int) then (if (rd x0 aa)≠(rd x1 aa) then (some false) else ((Kw.l1 ab x0 x1) (i64.wrap (aa+1)))) else none) else none) else (some true)
def Kw.f (x0 x1:List Int):Option Bool:=if (x0.length:Int)≠(x1.length:Int) then (some false) else (Kw.l1 K0 x0 x1 0)
theorem Kw.c (hs:St w0 ρ (Γ) w) {v0:Value} {x0:List Int} (h0:SlR (Rep.int .i32) ρ v0 x0) {v1:Value} {x1:List Int} (h1:SlR (Rep.int .i32) ρ v1 x1) {r:Bool} (H:Kw.f x0 x1=some r):Zq Tryz.prog 12 [v0,v1] w (fun v w'=>v=.bool r∧St w0 ρ Γ w'):=by
 rw [Kw.f] at H
 refine Et Tryz.func12 Tryz.ntmps12 rfl<|Wr fun a2 ai=>As rfl<|Ox ai<|Zi fun a3 aj=>Wr fun a4 ak=>Mv rfl<|O_y rfl (Yx Ua h0 rfl)<|Mv rfl<|O_y rfl (Yx Ua h1 rfl)<|One rfl<|Zd (ak _ _ ?_)
 refine Xa rfl (fun ad=>?_) (fun ad=>?_)
 rw [if_pos ad] at H
 refine Wr fun a5 al=>As rfl<|Ox al<|Zm ?_
 obtain rfl:=Z4 H
 exact r1 rfl ⟨rfl,hs⟩
 rw [if_neg ad] at H
 refine Wx aj<|Zi fun a6 am=>Wr fun a7 an=>Mv rfl<|O_y rfl (Yx Ua h0 rfl)<|Mv rfl<|Ox an<|Zl fun a8 ao a9=>Xb (σ:=Nat×Int) (fun (ab,aa)=>[(0,v0),(1,v1),(12,.int .i64 (x0.length:Int)),(13,.int .i64 aa)]) (fun (ab,aa) w=>Kw.l1 ab x0 x1 aa=some r∧St w0 ρ (Γ) w) (fun s=>s.1) (K0,0) (T4 rfl) (Ai H hs) ?_
 rintro ⟨ab,aa⟩ w ba ⟨H,hs⟩ ac
 show W _ _ _ _ _ _ [(0,v0),(1,v1),(12,.int .i64 (x0.length:Int)),(13,.int .i64 aa)] w
 cases ab with
 | zero=>rw [Kw.l1] at H;cases H
 | succ ab=>
 rw [Kw.l1] at H
 refine Wr fun bb ap=>Ols rfl<|Ox ap<|Zi fun bc aq=>Xa rfl (fun ae=>?_) (fun ae=>?_)
 rw [if_pos ae] at H
 refine Wx aq<|Zi fun bd ar=>Zl fun be bf bg=>Wr fun bh au=>Mv rfl<|As rfl<|Ox au<|Zi fun bi av=>Qt 9 [0,0,3,4,0,0,48,64,136] [506,505,496,240,431,415,271,15,0] [0,0,3,7,0,0,48,112,255] [] (fun w=>St w0 ρ (Γ) w) Vr (by kernel_rfl) (fun sh=>?_)
 have hs:=hs.drew
 refine Fm 0 sh rfl<|Fm 1 sh rfl ?_
 obtain ⟨ag,H⟩:=gd H
 obtain ⟨bj,bk,aw,ax⟩:=h0.ix Kk ag.1 ag.2
 refine Fp 2 sh rfl (fun w=>ax rfl rfl)<|Fy 3 sh rfl hs (fun w hs=>Xq Xn rfl (hs.see aw.int))<|Fm 4 sh rfl<|Fm 5 sh rfl ?_
 obtain ⟨ah,H⟩:=gd H
 obtain ⟨bl,bm,ay,az⟩:=h1.ix Kk ah.1 ah.2
 refine Fp 6 sh rfl (fun w=>az rfl rfl)<|Fy 7 sh rfl hs (fun w hs=>Xq Xn rfl (hs.see ay.int))<|Fp 8 sh rfl (fun w=>Zq3 rfl rfl)<|FE sh (av _ _<|W.weak [(0,_),(1,_),(12,_),(13,_),(24,_)] sbn ?_)
 refine Xa rfl (fun af=>?_) (fun af=>?_)
 rw [if_pos af] at H
 refine Wr fun bn a0=>As rfl<|Ox a0<|Zm ?_
 obtain rfl:=Z4 H
 exact r1 rfl ⟨rfl,hs⟩
 rw [if_neg af] at H
 refine Wx ar<|Zc<|Oad rfl<|Mv rfl<|Zd (ac (ab,(i64.wrap (aa+1))) _ _ (T4 rfl) (Ai H hs) (Nat.lt_succ_self _))
 rw [if_neg ae] at H
 refine Y5 (ao _ _ (am _ _<|Wr fun bo a1=>As rfl<|Ox a1<|Zm ?_))
 obtain rfl:=Z4 H
 exact r1 rfl ⟨rfl,hs⟩

end Go.Proofs.YthoicbafdanmkaaGreatDoor
/- Written by this repo's gen.py: for each Go function a Lean function with the same answers and the walk that shows it. -/
namespace Go.Proofs.YthoicbafdanmkaaGreatDoor
open Go.IntKind (i8 i16 i32 i64 u8 u16 u32 u64)
open Go.RowKit
set_option maxRecDepth 100000
set_option maxHeartbeats 4000000
variable {w0 w:World} {ρ:Hp} {Γ:List Kd}
set_option linter.unusedVariables false
def Ze.j1 (b0:Bool→Int→Option Bool) (ac:Int) (av:Bool):Option Bool:=b0 av (i64.wrap (ac+1))
def Ze.j2 (a3:Bool):Option Bool:=some a3
def Ze.j3 (b1:Bool→Int→Option Bool) (ab:Int) (aw:Bool):Option Bool:=b1 aw (i64.wrap (ab+1))
def Ze.j4 (b2:Bool→Int→Option Bool) (aa:Int) (al:Bool):Option Bool:=b2 al (i64.wrap (aa+1))
def Ze.j5 (a4:Bool):Option Bool:=some a4
def Ze.l1:Nat→List Int→(Option Tbs×Bk×Bool)→S10→Bool→Bool→Int→Option Bool
  | 0,_,_,_,_,_,_=>none
  | ai+1,x1,af,ad,ae,ag,aa=>if aa<(x1.length:Int) then (if (0:Int)≤aa∧aa<(x1.length:Int) then (if ag=true then (Ze.j4 (Ze.l1 ai x1 af ad ae) aa true) else (if 65≤(rd x1 aa) then (Ze.j4 (Ze.l1 ai x1 af ad ae) aa (decide ((rd x1 aa)≤90))) else (Ze.j4 (Ze.l1 ai x1 af ad ae) aa false))) else none) else ((V0.f ad.says).bind fun b3=>(if ae=true then ((Uh.f af.1 ad.says).bind fun dh=>(if dh=true then (if b3.2.2=0 then (if ag=true then (Ze.j5 true) else (Ze.j5 (decide (b3.1=(runesBytes x1))))) else (Ze.j5 false)) else (Ze.j5 false))) else (Ze.j5 false)))
def Ze.l2:Nat→List Int→(Option Tbs×Bk×Bool)→S10→Bool→Int→Option Bool
  | 0,_,_,_,_,_=>none
  | am+1,x1,af,ad,ae,ab=>if ab<(ad.says.length:Int) then (if (0:Int)≤ab∧ab<(ad.says.length:Int) then (if ae=true then (Ze.j3 (Ze.l2 am x1 af ad) ab true) else (Ze.j3 (Ze.l2 am x1 af ad) ab (decide (127<(rd ad.says ab))))) else none) else (Ze.l1 K0 x1 af ad ae false 0)
def Ze.j6 (x1:List Int) (af:Option Tbs×Bk×Bool) (ad:S10) (an:Bool):Option Bool:=if an=true then (if ad.coded=true then (Ze.j2 true) else ((Kw.f ad.says x1).bind fun b7=>(Ze.j2 b7))) else (Ze.l2 K0 x1 af ad false 0)
def Ze.j7 (x1:List Int) (af:Option Tbs×Bk×Bool):Option Bool:=(Vq.f af.1 x1).bind fun ad=>(if (!ad.coded)=true then (Ze.j6 x1 af ad true) else (Ze.j6 x1 af ad (decide (ad.fault≠0))))
def Ze.j8 (x1:List Int) (af:Option Tbs×Bk×Bool) (ao:Bool):Option Bool:=if ao=true then (some false) else (Ze.j7 x1 af )
def Ze.j9 (x1:List Int) (af:Option Tbs×Bk×Bool) (a6:ByteArray×Int×Int) (ap:Bool):Option Bool:=if ap=true then (if (Hf a6.1).length≤most then ((Vq.f af.1 (Hf a6.1)).bind fun bm=>(if (!bm.coded)=true then (Ze.j8 x1 af true) else (if bm.fault≠0 then (Ze.j8 x1 af true) else ((Kw.f bm.says x1).bind fun b8=>(Ze.j8 x1 af (!b8)))))) else none) else (Ze.j7 x1 af )
def Ze.l3:Nat→List Int→(Option Tbs×Bk×Bool)→Bool→Int→Option Bool
  | 0,_,_,_,_=>none
  | aj+1,x1,af,ak,ac=>if ac<(x1.length:Int) then (if (0:Int)≤ac∧ac<(x1.length:Int) then (if ak=true then (Ze.j1 (Ze.l3 aj x1 af) ac true) else (if 127<(rd x1 ac) then (Ze.j1 (Ze.l3 aj x1 af) ac true) else (Ze.j1 (Ze.l3 aj x1 af) ac (decide ((rd x1 ac)<0))))) else none) else ((V0.f x1).bind fun a6=>(if a6.2.2=0 then (if ak=true then ((Uh.f af.1 x1).bind fun b9=>(Ze.j9 x1 af a6 b9)) else (Ze.j9 x1 af a6 false)) else (Ze.j9 x1 af a6 false)))
def Ze.j10 (x1:List Int) (af:Option Tbs×Bk×Bool) (aq:Bool):Option Bool:=if aq=true then (some false) else (Ze.l3 K0 x1 af false 0)
def Ze.f (x0:Bk) (x1:List Int):Option Bool:=(J7.f x0).bind fun af=>((K4.f).bind fun di=>(if (!di)=true then (Ze.j10 x1 af true) else (Ze.j10 x1 af (!af.2.2))))
theorem Ze.c (hs:St w0 ρ (Γ) w) {c0:List Value} {x0:Bk} (h0:rBk.R ρ c0 x0) {v1:Value} {x1:List Int} (h1:SlR (Rep.int .i32) ρ v1 x1) {r:Bool} (H:Ze.f x0 x1=some r):Zq Tryz.prog 3 [.agg c0.toArray,v1] w (fun v w'=>v=.bool r∧St w0 ρ Γ w'):=by
 rw [Ze.f] at H
 refine Et Tryz.func3 Tryz.ntmps3 rfl ?_
 have gw:=h0
 obtain ⟨a9,ba,bb,bc,bd,be,bf,bg,bh,bi,bj,rfl,ju,jv,jw,jx,jy,jz,j0,ka,kb,kc,kd⟩:=gw
 refine Wr fun ke gx=>Vn (cs:=[a9,ba,bb,bc,bd,be,bf,bg,bh,bi,bj]) hs rfl rfl (fun bn w hs=>As rfl<|Ox gx<|Wr fun kf gy=>O_y rfl (Xl (i:=0) Zk3 Zkz hs rfl rfl rfl rfl) ?_)
 obtain ⟨af,ek,H⟩:=bnd H
 refine Oc rfl (J7.c hs h0 ek) (fun kg w hpost=>?_)
 obtain ⟨dg,bk,gz,rfl,ar,hs,ej,ha⟩:=hpost
 have el:=ha
 obtain ⟨bo,bp,bq,br,bs,bt,ax,ay,az,a0,a1,rfl,hb,hc,hd,he,hf,hg,em,en,eo,ep,eq⟩:=el
 refine Mv rfl<|Oxt rfl<|Oxt rfl<|Oxt rfl<|Y6 Zss hs rfl (fun a2 w hs=>As rfl<|Ye (i:=0) Zfu hs rfl rfl rfl rfl rfl (Zb hb.one (Zb hc.one (Zb hd.one (Zb he.one (Zb hf.one (Zb hg.one (Zb em.one (Zb en.one (Zb eo.one (Zb ep.one (Zb eq.one Ym))))))))))) (fun w hs=>As rfl<|Ox gy<|Zi fun hh er=>Yt fun es et dk=>?_))
 have dl:∀ (aq:Bool) (w:World),Ze.j10 x1 af aq=some r→St w0 dg ((.box a2 34 ([bo,bp,bq,br,bs,bt,ax,ay,az,a0,a1]))::(.box bn 27 ([a9,ba,bb,bc,bd,be,bf,bg,bh,bi,bj]))::Γ) w→es [(1,v1),(5,bk),(35,.bool aq)] w:=by
  intro aq w H hs
  rw [Ze.j10] at H
  refine et _ _<|Xh rfl (fun ca=>?_) (fun ca=>?_)
  rw [if_pos ca] at H
  refine Wr fun hi eu=>As rfl<|Ox eu<|Zm ?_
  obtain rfl:=Z4 H
  exact r1 rfl ⟨rfl,((hs.sub (ssk (ssk ssr))).less ar)⟩
  rw [if_neg (bft ca)] at H
  refine Wx er<|Wr fun hj ev=>As rfl<|Ox ev<|Zi fun hk ew=>Wr fun hl ex=>Mv rfl<|O_y rfl (Yx Ua (h1.mono ar) rfl)<|Mv rfl<|Ox ex<|Zl fun hm ey hn=>Xb (σ:=Nat×Bool×Int) (fun (aj,ak,ac)=>[(1,v1),(5,bk),(8,.bool ak),(36,v1),(37,.int .i64 (x1.length:Int)),(38,.int .i64 ac)]) (fun (aj,ak,ac) w=>Ze.l3 aj x1 af ak ac=some r∧St w0 dg ((.box a2 34 ([bo,bp,bq,br,bs,bt,ax,ay,az,a0,a1]))::(.box bn 27 ([a9,ba,bb,bc,bd,be,bf,bg,bh,bi,bj]))::Γ) w) (fun s=>s.1) (K0,false,0) sbn (Ai H hs) ?_
  rintro ⟨aj,ak,ac⟩ w ho ⟨H,hs⟩ b4
  show W _ _ _ _ _ _ [(1,v1),(5,bk),(8,.bool ak),(36,v1),(37,.int .i64 (x1.length:Int)),(38,.int .i64 ac)] w
  cases aj with
  | zero=>rw [Ze.l3] at H;cases H
  | succ aj=>
  rw [Ze.l3] at H
  refine Wr fun hp ez=>Ols rfl<|Ox ez<|Zi fun hq e0=>Xa rfl (fun cb=>?_) (fun cb=>?_)
  rw [if_pos cb] at H
  refine Wx e0<|Yt fun e1 e2 cc=>?_
  have cd:∀ (av:Bool) (w:World),Ze.j1 (Ze.l3 aj x1 af) ac av=some r→St w0 dg ((.box a2 34 ([bo,bp,bq,br,bs,bt,ax,ay,az,a0,a1]))::(.box bn 27 ([a9,ba,bb,bc,bd,be,bf,bg,bh,bi,bj]))::Γ) w→e1 [(1,v1),(5,bk),(8,.bool av),(36,v1),(37,.int .i64 (x1.length:Int)),(38,.int .i64 ac)] w:=by
   intro av w H hs
   rw [Ze.j1] at H
   refine e2 _ _<|Zc<|Oad rfl<|Mv rfl<|Zd (b4 (aj,av,(i64.wrap (ac+1))) _ _ sbn (Ai H hs) (Nat.lt_succ_self _))
  refine Zl fun hr ht hu=>Zi fun hv e3=>Zc ?_
  obtain ⟨dm,H⟩:=gd H
  obtain ⟨hw,hx,e4,e5⟩:=(h1.mono ar).ix Kk dm.1 dm.2
  refine O_y rfl (e5 rfl rfl)<|O_y rfl (Xq Xn rfl (hs.see e4.int))<|As rfl<|Ox e3<|Zc<|Mv rfl<|Mv rfl<|V9 (dj:=43) rfl (fun ce=>?_) (fun ce=>?_)
  rw [if_pos ce] at H
  refine On rfl<|On rfl<|Opk rfl<|Mv rfl<|On rfl<|On rfl<|Opk rfl<|As rfl<|Zd (cc _ _ _ sbn (cd true _ H hs))
  rw [if_neg (bft ce)] at H
  refine Oe rfl<|Mv rfl<|Oe rfl<|Ogt rfl<|Opk rfl<|Mv rfl<|X4 (dj:=47) rfl (fun cf=>?_) (fun cf=>?_)
  rw [if_pos cf] at H
  refine On rfl<|On rfl<|Opk rfl<|As rfl<|Zd (cc _ _ _ sbn (cd true _ H hs))
  rw [if_neg cf] at H
  refine Oe rfl<|Mv rfl<|Oe rfl<|Ols rfl<|Opk rfl<|As rfl<|Zd (cc _ _ _ sbn (cd (decide ((rd x1 ac)<0)) _ H hs))
  rw [if_neg cb] at H
  refine Y5 (ey _ _ (ew _ _<|Yt fun e6 e7 dn=>?_))
  have dp:∀ (bv:Hp) (w:World),Ze.j7 x1 af=some r→Le dg bv→St w0 bv ((.box a2 34 ([bo,bp,bq,br,bs,bt,ax,ay,az,a0,a1]))::(.box bn 27 ([a9,ba,bb,bc,bd,be,bf,bg,bh,bi,bj]))::Γ) w→e6 [(1,v1),(5,bk)] w:=by
   intro bv w H ah hs
   rw [Ze.j7] at H
   refine e7 _ _<|Wr fun hy e8=>Mv rfl<|Mv rfl ?_
   obtain ⟨ad,dq,H⟩:=bnd H
   refine Oc rfl (Vq.c hs (ej.mono ah) (h1.mono (ar.trans ah)) dq) (fun hz w hpost=>?_)
   obtain ⟨a8,gt,rfl,a5,hs,e9⟩:=hpost
   have fa:=e9
   obtain ⟨a7,rfl,bu⟩:=fa
   refine Y6 Zta hs rfl (fun au w hs=>Ye (i:=0) Zdi hs rfl rfl rfl rfl rfl (Zb bu.one (Zb rfl (Zb rfl Ym))) (fun w hs=>Ox e8<|Zi fun ia fb=>Yt fun fc fd dr=>?_))
   have ds:∀ (an:Bool) (w:World),Ze.j6 x1 af ad an=some r→St w0 a8 ((.box au 43 ([a7,.bool ad.coded,.int .i64 ad.fault]))::(.box a2 34 ([bo,bp,bq,br,bs,bt,ax,ay,az,a0,a1]))::(.box bn 27 ([a9,ba,bb,bc,bd,be,bf,bg,bh,bi,bj]))::Γ) w→fc [(1,v1),(5,bk),(15,.pointer (some ⟨au,0,none⟩)),(97,.bool an)] w:=by
    intro an w H hs
    rw [Ze.j6] at H
    refine fd _ _<|Xh rfl (fun cg=>?_) (fun cg=>?_)
    rw [if_pos cg] at H
    refine Yt fun fe ff dt=>?_
    have du:∀ (a3:Bool) (w:World),Ze.j2 a3=some r→St w0 a8 ((.box au 43 ([a7,.bool ad.coded,.int .i64 ad.fault]))::(.box a2 34 ([bo,bp,bq,br,bs,bt,ax,ay,az,a0,a1]))::(.box bn 27 ([a9,ba,bb,bc,bd,be,bf,bg,bh,bi,bj]))::Γ) w→fe [(4,.bool a3)] w:=by
     intro a3 w H hs
     rw [Ze.j2] at H
     refine ff _ _<|Zm ?_
     obtain rfl:=Z4 H
     exact r1 rfl ⟨rfl,((hs.sub (ssk (ssk (ssk ssr)))).less ((ar.trans ah).trans a5))⟩
    refine Zc<|Ofd Zkk rfl<|Obx 0 ag4 hs rfl<|Mv rfl<|V9 (dj:=100) rfl (fun ch=>?_) (fun ch=>?_)
    rw [if_pos ch] at H
    refine On rfl<|On rfl<|On rfl<|On rfl<|Opk rfl<|As rfl<|Zd (dt _ _ _ (S1 rfl) (du true _ H hs))
    rw [if_neg (bft ch)] at H
    refine Oe rfl<|Ofd Zf2 rfl<|Oe rfl<|Obx 0 Za1 hs rfl<|Oe rfl<|Mv rfl<|Oe rfl ?_
    obtain ⟨b7,dv,H⟩:=bnd H
    refine Oc rfl (Kw.c hs bu (h1.mono ((ar.trans ah).trans a5)) dv) (fun ib w hpost=>?_)
    obtain ⟨rfl,hs⟩:=hpost
    refine Opk rfl<|As rfl<|Zd (dt _ _ _ (S1 rfl) (du b7 _ H hs))
    rw [if_neg (bft cg)] at H
    refine Wx fb<|Wr fun ic fg=>As rfl<|As rfl<|Ox fg<|Zi fun id fh=>Wr fun ie fi=>Ofd Zf2 rfl<|Obx 0 Za1 hs rfl<|O_y rfl (Yx Ua bu rfl)<|Mv rfl<|Zd (fi _ _ ?_)
    refine Zl fun ig fj ih=>Xb (σ:=Nat×Bool×Int) (fun (am,ae,ab)=>[(1,v1),(5,bk),(8,.bool ae),(15,.pointer (some ⟨au,0,none⟩)),(16,.bool false),(107,a7),(108,.int .i64 (ad.says.length:Int)),(109,.int .i64 ab)]) (fun (am,ae,ab) w=>Ze.l2 am x1 af ad ae ab=some r∧St w0 a8 ((.box au 43 ([a7,.bool ad.coded,.int .i64 ad.fault]))::(.box a2 34 ([bo,bp,bq,br,bs,bt,ax,ay,az,a0,a1]))::(.box bn 27 ([a9,ba,bb,bc,bd,be,bf,bg,bh,bi,bj]))::Γ) w) (fun s=>s.1) (K0,false,0) sbn (Ai H hs) ?_
    rintro ⟨am,ae,ab⟩ w ii ⟨H,hs⟩ b5
    show W _ _ _ _ _ _ [(1,v1),(5,bk),(8,.bool ae),(15,.pointer (some ⟨au,0,none⟩)),(16,.bool false),(107,a7),(108,.int .i64 (ad.says.length:Int)),(109,.int .i64 ab)] w
    cases am with
    | zero=>rw [Ze.l2] at H;cases H
    | succ am=>
    rw [Ze.l2] at H
    refine Wr fun ij fk=>Ols rfl<|Ox fk<|Zi fun ik fl=>Xa rfl (fun ci=>?_) (fun ci=>?_)
    rw [if_pos ci] at H
    refine Wx fl<|Yt fun fm fn dw=>?_
    have dx:∀ (aw:Bool) (w:World),Ze.j3 (Ze.l2 am x1 af ad) ab aw=some r→St w0 a8 ((.box au 43 ([a7,.bool ad.coded,.int .i64 ad.fault]))::(.box a2 34 ([bo,bp,bq,br,bs,bt,ax,ay,az,a0,a1]))::(.box bn 27 ([a9,ba,bb,bc,bd,be,bf,bg,bh,bi,bj]))::Γ) w→fm [(1,v1),(5,bk),(8,.bool aw),(15,.pointer (some ⟨au,0,none⟩)),(16,.bool false),(107,a7),(108,.int .i64 (ad.says.length:Int)),(109,.int .i64 ab)] w:=by
     intro aw w H hs
     rw [Ze.j3] at H
     refine fn _ _<|Zc<|Oad rfl<|Mv rfl<|Zd (b5 (am,aw,(i64.wrap (ab+1))) _ _ sbn (Ai H hs) (Nat.lt_succ_self _))
    refine Zl fun il im io=>Zi fun ip fo=>Zc ?_
    obtain ⟨dy,H⟩:=gd H
    obtain ⟨iq,ir,fp,fq⟩:=bu.ix Kk dy.1 dy.2
    refine O_y rfl (fq rfl rfl)<|O_y rfl (Xq Xn rfl (hs.see fp.int))<|As rfl<|Ox fo<|Zc<|Mv rfl<|Mv rfl<|V9 (dj:=114) rfl (fun cj=>?_) (fun cj=>?_)
    rw [if_pos cj] at H
    refine On rfl<|On rfl<|Opk rfl<|As rfl<|Zd (dw _ _ _ sbn (dx true _ H hs))
    rw [if_neg (bft cj)] at H
    refine Oe rfl<|Mv rfl<|Oe rfl<|Ogt rfl<|Opk rfl<|As rfl<|Zd (dw _ _ _ sbn (dx (decide (127<(rd ad.says ab))) _ H hs))
    rw [if_neg ci] at H
    refine Y5 (fj _ _ (fh _ _<|Zi fun it fr=>Wr fun iu fs=>Mv rfl<|O_y rfl (Yx Ua (h1.mono ((ar.trans ah).trans a5)) rfl)<|Mv rfl<|Ox fs<|Zl fun iv ft iw=>Xb (σ:=Nat×Bool×Int) (fun (ai,ag,aa)=>[(1,v1),(5,bk),(8,.bool ae),(15,.pointer (some ⟨au,0,none⟩)),(16,.bool ag),(119,v1),(120,.int .i64 (x1.length:Int)),(121,.int .i64 aa)]) (fun (ai,ag,aa) w=>Ze.l1 ai x1 af ad ae ag aa=some r∧St w0 a8 ((.box au 43 ([a7,.bool ad.coded,.int .i64 ad.fault]))::(.box a2 34 ([bo,bp,bq,br,bs,bt,ax,ay,az,a0,a1]))::(.box bn 27 ([a9,ba,bb,bc,bd,be,bf,bg,bh,bi,bj]))::Γ) w) (fun s=>s.1) (K0,false,0) sbn (Ai H hs) ?_))
    rintro ⟨ai,ag,aa⟩ w iy ⟨H,hs⟩ b6
    show W _ _ _ _ _ _ [(1,v1),(5,bk),(8,.bool ae),(15,.pointer (some ⟨au,0,none⟩)),(16,.bool ag),(119,v1),(120,.int .i64 (x1.length:Int)),(121,.int .i64 aa)] w
    cases ai with
    | zero=>rw [Ze.l1] at H;cases H
    | succ ai=>
    rw [Ze.l1] at H
    refine Wr fun iz fu=>Ols rfl<|Ox fu<|Zi fun ja fv=>Xa rfl (fun ck=>?_) (fun ck=>?_)
    rw [if_pos ck] at H
    refine Wx fv<|Yt fun fw fx cl=>?_
    have cm:∀ (al:Bool) (w:World),Ze.j4 (Ze.l1 ai x1 af ad ae) aa al=some r→St w0 a8 ((.box au 43 ([a7,.bool ad.coded,.int .i64 ad.fault]))::(.box a2 34 ([bo,bp,bq,br,bs,bt,ax,ay,az,a0,a1]))::(.box bn 27 ([a9,ba,bb,bc,bd,be,bf,bg,bh,bi,bj]))::Γ) w→fw [(1,v1),(5,bk),(8,.bool ae),(15,.pointer (some ⟨au,0,none⟩)),(16,.bool al),(119,v1),(120,.int .i64 (x1.length:Int)),(121,.int .i64 aa)] w:=by
     intro al w H hs
     rw [Ze.j4] at H
     refine fx _ _<|Zc<|Oad rfl<|Mv rfl<|Zd (b6 (ai,al,(i64.wrap (aa+1))) _ _ sbn (Ai H hs) (Nat.lt_succ_self _))
    refine Zl fun jb jc jd=>Zi fun je fy=>Zc ?_
    obtain ⟨dz,H⟩:=gd H
    obtain ⟨jf,jg,fz,ga⟩:=(h1.mono ((ar.trans ah).trans a5)).ix Kk dz.1 dz.2
    refine O_y rfl (ga rfl rfl)<|O_y rfl (Xq Xn rfl (hs.see fz.int))<|As rfl<|Ox fy<|Zc<|Mv rfl<|Mv rfl<|V9 (dj:=126) rfl (fun cn=>?_) (fun cn=>?_)
    rw [if_pos cn] at H
    refine On rfl<|On rfl<|On rfl<|Qx rfl rfl rfl<|Qx rfl rfl rfl<|On rfl<|Opk rfl<|As rfl<|Zd (cl _ _ _ sbn (cm true _ H hs))
    rw [if_neg (bft cn)] at H
    refine Oe rfl<|Mv rfl<|Oe rfl<|Oge rfl<|Oe rfl<|Mv rfl<|X4 (dj:=129) rfl (fun co=>?_) (fun co=>?_)
    rw [if_pos co] at H
    refine Oe rfl<|Mv rfl<|Oe rfl<|Ole rfl<|Oe rfl<|Opk rfl<|Opk rfl<|As rfl<|Zd (cl _ _ _ sbn (cm (decide ((rd x1 aa)≤90)) _ H hs))
    rw [if_neg co] at H
    refine On rfl<|On rfl<|Oe rfl<|Opk rfl<|Opk rfl<|As rfl<|Zd (cl _ _ _ sbn (cm false _ H hs))
    rw [if_neg ck] at H
    refine Y5 (ft _ _ (fr _ _<|Wr fun jh gb=>Ofd Zf2 rfl<|Obx 0 Za1 hs rfl ?_))
    obtain ⟨b3,ea,H⟩:=bnd H
    refine Oc rfl (V0.c hs bu ea) (fun ji w hpost=>?_)
    obtain ⟨rfl,hs⟩:=hpost
    refine Mv rfl<|Oxt rfl<|Oxt rfl<|Oxt rfl<|As rfl<|As rfl<|As rfl<|Ox gb<|W.weak [(1,_),(5,_),(8,_),(15,_),(16,_),(21,_),(23,_)] sbn ?_
    refine Yt fun gc ge bw=>?_
    have bx:∀ (a4:Bool) (w:World),Ze.j5 a4=some r→St w0 a8 ((.box au 43 ([a7,.bool ad.coded,.int .i64 ad.fault]))::(.box a2 34 ([bo,bp,bq,br,bs,bt,ax,ay,az,a0,a1]))::(.box bn 27 ([a9,ba,bb,bc,bd,be,bf,bg,bh,bi,bj]))::Γ) w→gc [(4,.bool a4)] w:=by
     intro a4 w H hs
     rw [Ze.j5] at H
     refine ge _ _<|Zm ?_
     obtain rfl:=Z4 H
     exact r1 rfl ⟨rfl,((hs.sub (ssk (ssk (ssk ssr)))).less ((ar.trans ah).trans a5))⟩
    refine Zc<|Mv rfl<|Mv rfl<|V9 (dj:=143) rfl (fun cp=>?_) (fun cp=>?_)
    rw [if_pos cp] at H
    refine Oe rfl<|Mv rfl<|Oe rfl<|Ofd Zf2 rfl<|Oe rfl<|Obx 0 Za1 hs rfl<|Oe rfl ?_
    obtain ⟨dh,eb,H⟩:=bnd H
    refine Oc rfl (Uh.c hs (ej.mono (ah.trans a5)) bu eb) (fun jj w hpost=>?_)
    obtain ⟨rfl,hs⟩:=hpost
    refine Opk rfl<|Mv rfl<|V9 (dj:=149) rfl (fun cq=>?_) (fun cq=>?_)
    rw [if_pos cq] at H
    refine Oe rfl<|Mv rfl<|Oe rfl<|Oeq rfl<|Opk rfl<|Mv rfl<|X4 (dj:=153) rfl (fun cr=>?_) (fun cr=>?_)
    rw [if_pos cr] at H
    refine Oe rfl<|Mv rfl<|Oe rfl<|Mv rfl<|V9 (dj:=155) rfl (fun ct=>?_) (fun ct=>?_)
    rw [if_pos ct] at H
    refine On rfl<|On rfl<|On rfl<|On rfl<|Oe rfl<|Opk rfl<|Opk rfl<|As rfl<|Zd (bw _ _ _ (S1 rfl) (bx true _ H hs))
    rw [if_neg (bft ct)] at H
    refine Oe rfl<|Mv rfl<|Oe rfl<|Mv rfl<|Oe rfl<|O_y rfl (Zg0 Ua Za8 un9 hs (h1.mono ((ar.trans ah).trans a5)) rfl)<|Oe rfl<|O_y rfl (Zj7 rfl rfl)<|Oe rfl<|Opk rfl<|Opk rfl<|As rfl<|Zd (bw _ _ _ (S1 rfl) (bx (decide (b3.1=(runesBytes x1))) _ H hs))
    rw [if_neg cr] at H
    refine On rfl<|On rfl<|Qx rfl rfl rfl<|Qx rfl rfl rfl<|Qx rfl rfl rfl<|Qx rfl rfl rfl<|On rfl<|Opk rfl<|As rfl<|Zd (bw _ _ _ (S1 rfl) (bx false _ H hs))
    rw [if_neg (bft cq)] at H
    refine On rfl<|On rfl<|Opk rfl<|Mv rfl<|On rfl<|On rfl<|Qx rfl rfl rfl<|Qx rfl rfl rfl<|Qx rfl rfl rfl<|Qx rfl rfl rfl<|On rfl<|Opk rfl<|As rfl<|Zd (bw _ _ _ (S1 rfl) (bx false _ H hs))
    rw [if_neg (bft cp)] at H
    refine On rfl<|On rfl<|On rfl<|On rfl<|Opk rfl<|Mv rfl<|On rfl<|On rfl<|Opk rfl<|Mv rfl<|On rfl<|On rfl<|Qx rfl rfl rfl<|Qx rfl rfl rfl ?_
    refine Qx rfl rfl rfl<|Qx rfl rfl rfl<|On rfl<|Opk rfl<|As rfl<|Zd (bw _ _ _ (S1 rfl) (bx false _ H hs))
   refine Zc<|Ofd Zkk rfl<|Obx 0 ag4 hs rfl<|Ont rfl<|Mv rfl<|V9 (dj:=93) rfl (fun cu=>?_) (fun cu=>?_)
   rw [if_pos cu] at H
   refine On rfl<|On rfl<|On rfl<|Opk rfl<|Zd (dr _ _ _ (T4 rfl) (ds true _ H hs))
   rw [if_neg (bft cu)] at H
   refine Oe rfl<|Ofd Zd5 rfl<|Oe rfl<|Obx 0 ag3 hs rfl<|Oe rfl<|One rfl<|Opk rfl<|Zd (dr _ _ _ (T4 rfl) (ds (decide (ad.fault≠0)) _ H hs))
  refine Wr fun jk gf=>Mv rfl ?_
  obtain ⟨a6,ec,H⟩:=bnd H
  refine Oc rfl (V0.c hs (h1.mono ar) ec) (fun jl w hpost=>?_)
  obtain ⟨rfl,hs⟩:=hpost
  refine Mv rfl<|Oxt rfl<|Oxt rfl<|Oxt rfl<|As rfl<|As rfl<|As rfl<|Ox gf<|W.weak [(1,_),(5,_),(8,_),(11,_),(13,_)] sbn ?_
  refine Yt fun gg gh cv=>?_
  have cw:∀ (ap:Bool) (w:World),Ze.j9 x1 af a6 ap=some r→St w0 dg ((.box a2 34 ([bo,bp,bq,br,bs,bt,ax,ay,az,a0,a1]))::(.box bn 27 ([a9,ba,bb,bc,bd,be,bf,bg,bh,bi,bj]))::Γ) w→gg [(1,v1),(5,bk),(11,.string a6.1),(67,.bool ap)] w:=by
   intro ap w H hs
   rw [Ze.j9] at H
   refine gh _ _<|Xh rfl (fun cx=>?_) (fun cx=>?_)
   rw [if_pos cx] at H
   refine Wr fun jm gi=>Mv rfl<|Mv rfl ?_
   obtain ⟨gj,H⟩:=gd H
   refine Zq6 un9 Ua Za8 hs rfl rfl gj (fun jn gu w hs gk=>?_)
   obtain ⟨jo,bl,hs,gl⟩:=hs.rowEnd (j:=0) gk rfl
   obtain ⟨bm,ed,H⟩:=bnd H
   refine Oc rfl (Vq.c hs (ej.mono bl) gl ed) (fun jp w hpost=>?_)
   obtain ⟨ee,gv,rfl,bz,hs,gm⟩:=hpost
   have gn:=gm
   obtain ⟨go,rfl,ef⟩:=gn
   refine Y6 Zta hs rfl (fun gp w hs=>Ye (i:=0) Zdi hs rfl rfl rfl rfl rfl (Zb ef.one (Zb rfl (Zb rfl Ym))) (fun w hs=>Ox gi<|Yt fun gq gr cy=>?_))
   have cz:∀ (ao:Bool) (w:World),Ze.j8 x1 af ao=some r→St w0 ee ((.box gp 43 ([go,.bool bm.coded,.int .i64 bm.fault]))::(.box a2 34 ([bo,bp,bq,br,bs,bt,ax,ay,az,a0,a1]))::(.box bn 27 ([a9,ba,bb,bc,bd,be,bf,bg,bh,bi,bj]))::Γ) w→gq [(1,v1),(5,bk),(86,.bool ao)] w:=by
    intro ao w H hs
    rw [Ze.j8] at H
    refine gr _ _<|Xh rfl (fun da=>?_) (fun da=>?_)
    rw [if_pos da] at H
    refine Wr fun jq gs=>As rfl<|Ox gs<|Zm ?_
    obtain rfl:=Z4 H
    exact r1 rfl ⟨rfl,((hs.sub (ssk (ssk (ssk ssr)))).less ((ar.trans bl).trans bz))⟩
    rw [if_neg (bft da)] at H
    exact Ui (dn _ _ _ (T2 rfl) (dp ee _ H (bl.trans bz) (hs.sub (ssk (ssc (ssc ssr))))))
   refine Zc<|Ofd Zkk rfl<|Obx 0 ag4 hs rfl<|Ont rfl<|Mv rfl<|V9 (dj:=75) rfl (fun db=>?_) (fun db=>?_)
   rw [if_pos db] at H
   refine On rfl<|On rfl<|On rfl<|Opk rfl<|Mv rfl<|On rfl<|On rfl<|On rfl<|On rfl<|On rfl<|Opk rfl<|Zd (cy _ _ _ (T3 rfl) (cz true _ H hs))
   rw [if_neg (bft db)] at H
   refine Oe rfl<|Ofd Zd5 rfl<|Oe rfl<|Obx 0 ag3 hs rfl<|Oe rfl<|One rfl<|Opk rfl<|Mv rfl<|X4 (dj:=80) rfl (fun dc=>?_) (fun dc=>?_)
   rw [if_pos dc] at H
   refine On rfl<|On rfl<|On rfl<|On rfl<|On rfl<|Opk rfl<|Zd (cy _ _ _ (T3 rfl) (cz true _ H hs))
   rw [if_neg dc] at H
   refine Oe rfl<|Ofd Zf2 rfl<|Oe rfl<|Obx 0 Za1 hs rfl<|Oe rfl<|Mv rfl<|Oe rfl ?_
   obtain ⟨b8,eg,H⟩:=bnd H
   refine Oc rfl (Kw.c hs ef (h1.mono ((ar.trans bl).trans bz)) eg) (fun jr w hpost=>?_)
   obtain ⟨rfl,hs⟩:=hpost
   refine Oe rfl<|Ont rfl<|Opk rfl<|Zd (cy _ _ _ (T3 rfl) (cz (!b8) _ H hs))
   rw [if_neg (bft cx)] at H
   exact Ui (dn _ _ _ (T2 rfl) (dp dg _ H (Le.rfl' _) hs))
  refine Zc<|Mv rfl<|Oeq rfl<|Mv rfl<|X4 (dj:=60) rfl (fun dd=>?_) (fun dd=>?_)
  rw [if_pos dd] at H
  refine Oe rfl<|Mv rfl<|Opk rfl<|Mv rfl<|V9 (dj:=63) rfl (fun de=>?_) (fun de=>?_)
  rw [if_pos de] at H
  refine Oe rfl<|Mv rfl<|Oe rfl<|Mv rfl<|Oe rfl ?_
  obtain ⟨b9,eh,H⟩:=bnd H
  refine Oc rfl (Uh.c hs ej (h1.mono ar) eh) (fun js w hpost=>?_)
  obtain ⟨rfl,hs⟩:=hpost
  refine Opk rfl<|Zd (cv _ _ _ (T4 rfl) (cw b9 _ H hs))
  rw [if_neg (bft de)] at H
  refine On rfl<|On rfl<|On rfl<|Opk rfl<|Zd (cv _ _ _ (T4 rfl) (cw false _ H hs))
  rw [if_neg dd] at H
  refine On rfl<|Opk rfl<|Mv rfl<|On rfl<|On rfl<|On rfl<|Opk rfl<|Zd (cv _ _ _ (T4 rfl) (cw false _ H hs))
 refine Zc ?_
 obtain ⟨di,ei,H⟩:=bnd H
 refine Oc rfl (K4.c hs ei) (fun jt w hpost=>?_)
 obtain ⟨rfl,hs⟩:=hpost
 refine Ont rfl<|Mv rfl<|V9 (dj:=32) rfl (fun df=>?_) (fun df=>?_)
 rw [if_pos df] at H
 refine On rfl<|On rfl<|Opk rfl<|Zd (dk _ _ _ (T3 rfl) (dl true _ H hs))
 rw [if_neg (bft df)] at H
 refine Oe rfl<|Mv rfl<|Oe rfl<|Ont rfl<|Opk rfl<|Zd (dk _ _ _ (T3 rfl) (dl (!af.2.2) _ H hs))

end Go.Proofs.YthoicbafdanmkaaGreatDoor
/- Written by this repo's gen.py: for each Go function a Lean function with the same answers and the walk that shows it. -/
namespace Go.Proofs.YthoicbafdanmkaaGreatDoor
open Go.IntKind (i8 i16 i32 i64 u8 u16 u32 u64)
open Go.RowKit
set_option maxRecDepth 100000
set_option maxHeartbeats 4000000
variable {w0 w:World} {ρ:Hp} {Γ:List Kd}
set_option linter.unusedVariables false
def Q5.j1 (aa:Bool):Option Bool:=some aa
def Q5.f (x0:Int):Option Bool:=if 0≤x0 then (if x0<55296 then (Q5.j1 true) else (if 57343<x0 then (Q5.j1 (decide (x0≤1114111))) else (Q5.j1 false))) else (if 57343<x0 then (Q5.j1 (decide (x0≤1114111))) else (Q5.j1 false))
def Ug.f (x0 x1:Int):Option Int:=if (i64.wrap (x0-x1))<1 then (some 1) else (if 26<(i64.wrap (x0-x1)) then (some 26) else (some (i64.wrap (x0-x1))))
def Zbh.f (x0:Int):Option Int:=if x0<26 then (some (u8.wrap (i64.wrap (97+x0)))) else (some (u8.wrap (i64.wrap ((i64.wrap (48+x0))-26))))
def Q9.l1:Nat→Int→Int→Option Int
  | 0,_,_=>none
  | ad+1,aa,ab=>if 455<aa then ((Q9.l1 ad ) (i64.wrap (aa.tdiv 35)) (i64.wrap (ab+36))) else (if (i64.wrap (aa+38))≠0 then (some (i64.wrap (ab+(i64.wrap ((i64.wrap (36*aa)).tdiv (i64.wrap (aa+38))))))) else none)
def Q9.j1 (x1 ac:Int):Option Int:=if x1≠0 then (Q9.l1 K0 (i64.wrap (ac+(i64.wrap (ac.tdiv x1)))) 0) else none
def Q9.f (x0 x1:Int) (x2:Bool):Option Int:=if x2=true then (Q9.j1 x1 (i64.wrap (x0.tdiv 700))) else (Q9.j1 x1 (i64.wrap (x0.tdiv 2)))
def Q8.j1 (x0:Int) (aa:Bool):Option Int:=if aa=true then (some (i64.wrap ((i64.wrap (u8.wrap (x0-48)))+26))) else (some (-1))
def Q8.j2 (x0:Int) (ab:Bool):Option Int:=if ab=true then (some (i64.wrap (u8.wrap (x0-65)))) else (if 48≤x0 then (Q8.j1 x0 (decide (x0≤57))) else (Q8.j1 x0 false))
def Q8.j3 (x0:Int) (ac:Bool):Option Int:=if ac=true then (some (i64.wrap (u8.wrap (x0-97)))) else (if 65≤x0 then (Q8.j2 x0 (decide (x0≤90))) else (Q8.j2 x0 false))
def Q8.f (x0:Int):Option Int:=if 97≤x0 then (Q8.j3 x0 (decide (x0≤122))) else (Q8.j3 x0 false)
def Yg.j1 (bl:Int→Int→Option (List Int×Int×Int)) (an a5:Int):Option (List Int×Int×Int):=bl a5 (i64.wrap (an+1))
def Yg.l1 (a0:List Int→Int→Int→Int→Int→Option (List Int×Int×Int)):Nat→List Int→Int→Int→Int→Int→Int→Int→List Int→Int→Option (List Int×Int×Int)
  | 0,_,_,_,_,_,_,_,_,_=>none
  | a2+1,aa,ag,ae,ac,ab,ao,a7,ad,ah=>if ((i64.wrap (ac+(i64.wrap (ao*ab)))).tmod (i64.wrap ((aa.length:Int)+1)))<ah then (if (0:Int)≤i64.wrap (ah-1)∧i64.wrap (ah-1)<(ad.length:Int) then (if (0:Int)≤ah∧ah<(ad.length:Int) then ((Yg.l1 a0 a2 aa ag ae ac ab ao a7) (ad.set ah.toNat (rd ad (i64.wrap (ah-1)))) (i64.wrap (ah-1))) else none) else none) else (if (0:Int)≤(i64.wrap (ac+(i64.wrap (ao*ab)))).tmod (i64.wrap ((aa.length:Int)+1))∧(i64.wrap (ac+(i64.wrap (ao*ab)))).tmod (i64.wrap ((aa.length:Int)+1))<(ad.length:Int) then (a0 (ad.set ((i64.wrap (ac+(i64.wrap (ao*ab)))).tmod (i64.wrap ((aa.length:Int)+1))).toNat (i32.wrap (i64.wrap (ag+(i64.wrap ((i64.wrap (ac+(i64.wrap (ao*ab)))).tdiv (i64.wrap ((aa.length:Int)+1)))))))) (i64.wrap (ae+1)) (i64.wrap (ag+(i64.wrap ((i64.wrap (ac+(i64.wrap (ao*ab)))).tdiv (i64.wrap ((aa.length:Int)+1)))))) (i64.wrap (((i64.wrap (ac+(i64.wrap (ao*ab)))).tmod (i64.wrap ((aa.length:Int)+1)))+1)) a7) else none)
def Yg.l2 (a0:List Int→Int→Int→Int→Int→Option (List Int×Int×Int)):Nat→ByteArray→List Int→Int→Int→Int→Int→Int→Int→Int→Option (List Int×Int×Int)
  | 0,_,_,_,_,_,_,_,_,_=>none
  | a3+1,x0,aa,ag,ai,aj,ae,ac,ab,ar=>if ae=(x0.size:Int) then (some (([]:List Int),ae,140)) else (if (0:Int)≤ae∧ae<(x0.size:Int) then ((Q8.f (bt x0 ae)).bind fun ao=>(if ao<0 then (some (([]:List Int),ae,140)) else (if 2147483647<(i64.wrap (ac+(i64.wrap (ao*ab)))) then (some (([]:List Int),ae,142)) else ((Ug.f ar aj).bind fun bc=>(if ao<bc then ((Q9.f (i64.wrap ((i64.wrap (ac+(i64.wrap (ao*ab))))-ai)) (i64.wrap ((aa.length:Int)+1)) (decide (ai=0))).bind fun a7=>(if (i64.wrap ((aa.length:Int)+1))≠0 then (if 1114111<(i64.wrap (ag+(i64.wrap ((i64.wrap (ac+(i64.wrap (ao*ab)))).tdiv (i64.wrap ((aa.length:Int)+1)))))) then (some (([]:List Int),ae,142)) else ((Q5.f (i32.wrap (i64.wrap (ag+(i64.wrap ((i64.wrap (ac+(i64.wrap (ao*ab)))).tdiv (i64.wrap ((aa.length:Int)+1)))))))).bind fun b2=>(if (!b2)=true then (some (([]:List Int),ae,143)) else (if aa.length+([0]).length≤most then (Yg.l1 a0 K0 aa ag ae ac ab ao a7 (aa++([0])) (i64.wrap (((aa++([0])).length:Int)-1))) else none)))) else none)) else (if 2147483647<(i64.wrap (ab*(i64.wrap (36-bc)))) then (some (([]:List Int),ae,142)) else ((Yg.l2 a0 a3 x0 aa ag ai aj) (i64.wrap (ae+1)) (i64.wrap (ac+(i64.wrap (ao*ab)))) (i64.wrap (ab*(i64.wrap (36-bc)))) (i64.wrap (ar+36))))))))) else none)
def Yg.l3:Nat→ByteArray→List Int→Int→Int→Int→Int→Option (List Int×Int×Int)
  | 0,_,_,_,_,_,_=>none
  | az+1,x0,aa,ax,ag,ai,aj=>if ax<(x0.size:Int) then (Yg.l2 (Yg.l3 az x0) K0 x0 aa ag ai aj ax ai 1 36) else (some (aa,0,0))
def Yg.j2 (x0:ByteArray) (af:List Int) (a1:Int):Option (List Int×Int×Int):=Yg.l3 K0 x0 af a1 128 0 72
def Yg.l4:Nat→ByteArray→Int→List Int→Int→Option (List Int×Int×Int)
  | 0,_,_,_,_=>none
  | a8+1,x0,al,af,ak=>if ak<al then (if (0:Int)≤ak∧ak<(x0.size:Int) then (if 127<(bt x0 ak) then (some (([]:List Int),ak,141)) else (if af.length+([i32.wrap (bt x0 ak)]).length≤most then ((Yg.l4 a8 x0 al) (af++([i32.wrap (bt x0 ak)])) (i64.wrap (ak+1))) else none)) else none) else (if 0<al then (Yg.j2 x0 af (i64.wrap (al+1))) else (Yg.j2 x0 af al))
def Yg.l5:Nat→ByteArray→Int→Int→Option (List Int×Int×Int)
  | 0,_,_,_=>none
  | a4+1,x0,al,an=>if an<(x0.size:Int) then (if (0:Int)≤an∧an<(x0.size:Int) then (if (bt x0 an)=45 then (Yg.j1 (Yg.l5 a4 x0) an an) else (Yg.j1 (Yg.l5 a4 x0) an al)) else none) else (Yg.l4 K0 x0 al ([]:List Int) 0)
def Yg.f (x0:ByteArray):Option (List Int×Int×Int):=Yg.l5 K0 x0 0 0
def Zn.j1 (b5:List Int→Int→Option (ByteArray×Int×Int)) (aj:Int) (a0:List Int):Option (ByteArray×Int×Int):=b5 a0 (i64.wrap (aj+1))
def Zn.j2 (bo:Int→Int→Option (ByteArray×Int×Int)) (ae a9:Int):Option (ByteArray×Int×Int):=bo a9 (i64.wrap (ae+1))
def Zn.j3 (bo:Int→Int→Option (ByteArray×Int×Int)) (x0:List Int) (ab ae:Int) (bi:Bool):Option (ByteArray×Int×Int):=if bi=true then (Zn.j2 bo ae (i64.wrap (rd x0 ae))) else (Zn.j2 bo ae ab)
def Zn.j4 (a5:List Int→Int→Int→Int→Int→Option (ByteArray×Int×Int)) (ac:Int) (ax:List Int) (ba bb bc:Int):Option (ByteArray×Int×Int):=a5 ax ba bb bc (i64.wrap (ac+1))
def Zn.l1 (a5:List Int→Int→Int→Int→Int→Option (ByteArray×Int×Int)):Nat→List Int→Int→Int→Int→Int→List Int→Int→Int→Option (ByteArray×Int×Int)
  | 0,_,_,_,_,_,_,_,_=>none
  | bn+1,aa,ai,af,ac,ap,an,aw,az=>(Ug.f az ai).bind fun bp=>(if aw<bp then ((Zbh.f aw).bind fun bt=>(if an.length+([bt]).length≤most then ((Q9.f ap (i64.wrap (af+1)) (decide (af=(aa.length:Int)))).bind fun b6=>(Zn.j4 a5 ac (an++([bt])) 0 b6 (i64.wrap (af+1)))) else none)) else (if (i64.wrap (36-bp))≠0 then ((Zbh.f (i64.wrap (bp+((i64.wrap (aw-bp)).tmod (i64.wrap (36-bp)))))).bind fun bu=>(if an.length+([bu]).length≤most then ((Zn.l1 a5 bn aa ai af ac ap) (an++([bu])) (i64.wrap ((i64.wrap (aw-bp)).tdiv (i64.wrap (36-bp)))) (i64.wrap (az+36))) else none)) else none))
def Zn.j5 (a5:List Int→Int→Int→Int→Int→Option (ByteArray×Int×Int)) (x0 aa:List Int) (ab:Int) (ag:List Int) (ai af ac ap:Int):Option (ByteArray×Int×Int):=if (i64.wrap (rd x0 ac))≠ab then (Zn.j4 a5 ac ag ap ai af) else (Zn.l1 a5 K0 aa ai af ac ap ag ap 36)
def Zn.l2 (a6:List Int→Int→Int→Int→Int→Option (ByteArray×Int×Int)):Nat→List Int→List Int→Int→List Int→Int→Int→Int→Int→Option (ByteArray×Int×Int)
  | 0,_,_,_,_,_,_,_,_=>none
  | a7+1,x0,aa,ab,ag,ar,ai,af,ac=>if ac<(x0.length:Int) then (if (0:Int)≤ac∧ac<(x0.length:Int) then (if (i64.wrap (rd x0 ac))<ab then (if 2147483647<(i64.wrap (ar+1)) then (some ((⟨#[]⟩:ByteArray),0,142)) else (Zn.j5 (Zn.l2 a6 a7 x0 aa ab) x0 aa ab ag ai af ac (i64.wrap (ar+1)))) else (Zn.j5 (Zn.l2 a6 a7 x0 aa ab) x0 aa ab ag ai af ac ar)) else none) else (a6 ag (i64.wrap (ab+1)) (i64.wrap (ar+1)) ai af)
def Zn.l3 (a6:List Int→Int→Int→Int→Int→Option (ByteArray×Int×Int)):Nat→List Int→List Int→List Int→Int→Int→Int→Int→Int→Int→Option (ByteArray×Int×Int)
  | 0,_,_,_,_,_,_,_,_,_=>none
  | a8+1,x0,aa,ad,ao,ak,al,ah,ab,ae=>if ae<(x0.length:Int) then (if (0:Int)≤ae∧ae<(x0.length:Int) then (if ao≤(i64.wrap (rd x0 ae)) then (Zn.j3 (Zn.l3 a6 a8 x0 aa ad ao ak al ah) x0 ab ae (decide ((i64.wrap (rd x0 ae))<ab))) else (Zn.j3 (Zn.l3 a6 a8 x0 aa ad ao ak al ah) x0 ab ae false)) else none) else (if 2147483647<(i64.wrap (ak+(i64.wrap ((i64.wrap (ab-ao))*(i64.wrap (ah+1)))))) then (some ((⟨#[]⟩:ByteArray),0,142)) else (Zn.l2 a6 K0 x0 aa ab ad (i64.wrap (ak+(i64.wrap ((i64.wrap (ab-ao))*(i64.wrap (ah+1)))))) al ah 0))
def Zn.l4:Nat→List Int→List Int→List Int→Int→Int→Int→Int→Option (ByteArray×Int×Int)
  | 0,_,_,_,_,_,_,_=>none
  | a1+1,x0,aa,ad,ao,ak,al,ah=>if ah<(x0.length:Int) then (Zn.l3 (Zn.l4 a1 x0 aa) K0 x0 aa ad ao ak al ah 1114112 0) else ((Yg.f (K5 ad)).bind fun ck=>(if ck.2.2≠0 then (some ((⟨#[]⟩:ByteArray),0,142)) else (some (K5 ad,0,0))))
def Zn.j6 (x0 aa ay:List Int):Option (ByteArray×Int×Int):=Zn.l4 K0 x0 aa ay 128 0 72 (aa.length:Int)
def Zn.l5:Nat→List Int→List Int→Int→Option (ByteArray×Int×Int)
  | 0,_,_,_=>none
  | bq+1,x0,aa,aj=>if aj<(x0.length:Int) then (if (0:Int)≤aj∧aj<(x0.length:Int) then ((Q5.f (rd x0 aj)).bind fun gi=>(if (!gi)=true then (some ((⟨#[]⟩:ByteArray),aj,20)) else (if (rd x0 aj)<128 then (if aa.length+([u8.wrap (rd x0 aj)]).length≤most then (Zn.j1 (Zn.l5 bq x0) aj (aa++([u8.wrap (rd x0 aj)]))) else none) else (Zn.j1 (Zn.l5 bq x0) aj aa)))) else none) else (if 0<(aa.length:Int) then (if aa.length+([45]).length≤most then (Zn.j6 x0 aa (aa++([45]))) else none) else (Zn.j6 x0 aa aa))
def Zn.f (x0:List Int):Option (ByteArray×Int×Int):=Zn.l5 K0 x0 ([]:List Int) 0
end Go.Proofs.YthoicbafdanmkaaGreatDoor
