/- Texts of this repo, merged for the claim: TL0, TL1, TP4, TL2. -/
import Derived.Test.YthoicbafdanmkaaGreatDoorWhole0
import Derived.Test.YthoicbafdanmkaaGreatDoorWhole2
import Derived.Test.YthoicbafdanmkaaGreatDoorWhole1
/- Written by this repo's gen.py: for each Go function a Lean function with the same answers and the walk that shows it. -/
namespace Go.Proofs.YthoicbafdanmkaaGreatDoor
open Go.IntKind (i8 i16 i32 i64 u8 u16 u32 u64)
open Go.RowKit
set_option maxRecDepth 100000
set_option maxHeartbeats 4000000
variable {w0 w:World} {ρ:Hp} {Γ:List Kd}
set_option linter.unusedVariables false
def Vt.j1 (aa:Bool):Option Bool:=some aa
def Vt.f (x0:List Int):Option Bool:=if 4≤(x0.length:Int) then (if (0:Int)≤0∧(0:Int)≤4∧4≤(x0.length:Int) then (Vt.j1 (decide ((runesBytes (sub x0 0 4))=(⟨#[120,110,45,45]⟩:ByteArray)))) else none) else (Vt.j1 false)
theorem Vt.c (hs:St w0 ρ (Γ) w) {v0:Value} {x0:List Int} (h0:SlR (Rep.int .i32) ρ v0 x0) {r:Bool} (H:Vt.f x0=some r):Zq Tryz.prog 16 [v0] w (fun v w'=>v=.bool r∧St w0 ρ Γ w'):=by
 rw [Vt.f] at H
 refine Et Tryz.func16 Tryz.ntmps16 rfl<|Wr fun ak af=>As rfl<|Ox af<|Yt fun ag ah ad=>?_
 have ae:∀ (aa:Bool) (w:World),Vt.j1 aa=some r→St w0 ρ (Γ) w→ag [(2,.bool aa)] w:=by
  intro aa w H hs
  rw [Vt.j1] at H
  refine ah _ _<|Zm ?_
  obtain rfl:=Z4 H
  exact r1 rfl ⟨rfl,hs⟩
 refine Zc<|Mv rfl<|O_y rfl (Yx Ua h0 rfl)<|Oge rfl<|Mv rfl<|X4 (dj:=6) rfl (fun ab=>?_) (fun ab=>?_)
 rw [if_pos ab] at H
 refine Oe rfl<|Mv rfl ?_
 obtain ⟨ac,H⟩:=gd H
 obtain ⟨al,ai,aj⟩:=h0.cut Kk ac.1 ac.2.1 ac.2.2
 refine Oe rfl<|O_y rfl (aj rfl (.inl ⟨rfl,rfl⟩) (.inr ⟨_,_,rfl,rfl⟩))<|Oe rfl<|O_y rfl (Zg0 Ua Za8 un9 hs ai rfl)<|Oe rfl<|O_y rfl (Zj7 rfl rfl)<|Opk rfl<|As rfl<|Zd (ad _ _ _ (S1 rfl) (ae (decide ((runesBytes (sub x0 0 4))=(⟨#[120,110,45,45]⟩:ByteArray))) _ H hs))
 rw [if_neg ab] at H
 refine On rfl<|On rfl<|On rfl<|On rfl<|Opk rfl<|As rfl<|Zd (ad _ _ _ (S1 rfl) (ae false _ H hs))

def Va.f (x0:Option Tbs) (x1 x2:Int):Option (Int×Bool):=if ((x0).isNone)=true then (some (0,false)) else (if x0.isSome=true then (some ((Vw (((x0).getD default).pairs) (#v[x1,x2])).getD 0,(Vw (((x0).getD default).pairs) (#v[x1,x2])).isSome)) else none)
theorem Va.c (hs:St w0 ρ (Γ) w) {v0:Value} {x0:Option Tbs} (h0:Xw H4 ρ v0 x0) {x1 x2:Int} {r:Int×Bool} (H:Va.f x0 x1 x2=some r):Zq Tryz.prog 164 [v0,.int .i32 x1,.int .i32 x2] w (fun v w'=>v=.tuple #[.int .i32 r.1,.bool r.2]∧St w0 ρ Γ w'):=by
 rw [Va.f] at H
 refine Et Tryz.func164 Tryz.ntmps164 rfl<|Wr fun ay af=>As rfl<|As rfl<|Ox af<|Zi fun az ag=>Wr fun a0 ah=>Mv rfl<|O_y rfl ((h0.eqn Zp9 rfl rfl))<|Ox ah<|Xh rfl (fun aa=>?_) (fun aa=>?_)
 rw [if_pos aa] at H
 refine Wr fun a1 ai=>As rfl<|As rfl<|Ox ai<|Zm ?_
 obtain rfl:=Z4 H
 exact Zb4 rfl rfl rfl ⟨rfl,hs⟩
 rw [if_neg (bft aa)] at H
 refine Wx ag<|Wr fun a2 aj=>Mv rfl ?_
 obtain ⟨ak,H⟩:=gd H
 obtain ⟨a3,ab,al⟩:=h0.open ak
 obtain ⟨_,⟨a4,a5,a6,a7,a8,a9,ba,bb,bc,bd,be,bf,bg,bh,bi,bj,bk,am,an,ao,ap,aq,rfl,bl,bm,bn,bo,bp,bq,br,bs,bt,bu,bv,bw,bx,bz,b0,b1,b2,ar,au,av,aw,ac⟩,ad⟩:=al
 refine O_y rfl (Vh (congrArg some ab))<|Ofd Zoc rfl<|O_y rfl (Xq Zx9 rfl (hs.see (ad 21 _ rfl)))<|Mv rfl<|Mv rfl<|O_y rfl (Zfz (xs:=[.tmp 17,.tmp 18]) (zs:=vcs (Value.int .i32) #v[x1,x2]) Zsa Zg3 Zv0 rfl rfl rfl (Zc4 rfl (Zc4 rfl Zni)) rfl)<|O_y rfl (Zsl (m:=((x0).getD default).pairs) (x:=#v[x1,x2]) (E:=(Value.int .i32)) true Zyo Uo trivial (fun _ _=>trivial) Z0r hs ac rfl rfl)<|Mv rfl<|Oxt rfl<|Oxt rfl<|As rfl<|As rfl<|Ox aj<|W.weak [(8,_),(9,_)] (T2 rfl) ?_
 refine Wr fun ax ae=>Mv rfl<|Mv rfl<|As rfl<|As rfl<|Ox ae<|Zm ?_
 obtain rfl:=Z4 H
 exact Zb4 rfl rfl rfl ⟨rfl,hs⟩

def Xg.j1 (x0:Option Tbs) (x1 x2:Int) (aa:Bool):Option (Int×Bool):=if aa=true then (some (i32.wrap ((i32.wrap (x1+x2))-4519),true)) else ((Va.f x0 x1 x2).bind fun ag=>(some (ag.1,ag.2)))
def Xg.j2 (x0:Option Tbs) (x1 x2:Int) (ab:Bool):Option (Int×Bool):=if ab=true then (some (i32.wrap (44032+(i32.wrap ((i32.wrap ((i32.wrap ((i32.wrap ((i32.wrap (x1-4352))*21))+x2))-4449))*28))),true)) else (if 44032≤x1 then (if x1<55204 then (if ((i32.wrap (x1-44032)).tmod 28)=0 then (if 4519<x2 then (Xg.j1 x0 x1 x2 (decide (x2<4547))) else (Xg.j1 x0 x1 x2 false)) else (Xg.j1 x0 x1 x2 false)) else (Xg.j1 x0 x1 x2 false)) else (Xg.j1 x0 x1 x2 false))
def Xg.f (x0:Option Tbs) (x1 x2:Int):Option (Int×Bool):=if 4352≤x1 then (if x1<4371 then (if 4449≤x2 then (Xg.j2 x0 x1 x2 (decide (x2<4470))) else (Xg.j2 x0 x1 x2 false)) else (Xg.j2 x0 x1 x2 false)) else (Xg.j2 x0 x1 x2 false)
theorem Xg.c (hs:St w0 ρ (Γ) w) {v0:Value} {x0:Option Tbs} (h0:Xw H4 ρ v0 x0) {x1 x2:Int} {r:Int×Bool} (H:Xg.f x0 x1 x2=some r):Zq Tryz.prog 134 [v0,.int .i32 x1,.int .i32 x2] w (fun v w'=>v=.tuple #[.int .i32 r.1,.bool r.2]∧St w0 ρ Γ w'):=by
 rw [Xg.f] at H
 refine Et Tryz.func134 Tryz.ntmps134 rfl<|Wr fun a2 ar=>As rfl<|As rfl<|Ox ar<|Zi fun a3 au=>Zl fun a4 a5 a6=>Yt fun av aw ae=>?_
 have af:∀ (ab:Bool) (w:World),Xg.j2 x0 x1 x2 ab=some r→St w0 ρ (Γ) w→av [(0,v0),(1,.int .i32 x1),(2,.int .i32 x2),(8,.bool ab)] w:=by
  intro ab w H hs
  rw [Xg.j2] at H
  refine aw _ _<|Xh rfl (fun ah=>?_) (fun ah=>?_)
  rw [if_pos ah] at H
  refine Wr fun a7 ax=>Mv rfl<|Osu rfl<|Oml rfl<|Mv rfl<|Oad rfl<|Osu rfl<|Oml rfl<|Oad rfl<|As rfl<|As rfl<|Ox ax<|Zm ?_
  obtain rfl:=Z4 H
  exact Zb4 rfl rfl rfl ⟨rfl,hs⟩
  rw [if_neg (bft ah)] at H
  refine Yt fun ay az ac=>?_
  have ad:∀ (aa:Bool) (w:World),Xg.j1 x0 x1 x2 aa=some r→St w0 ρ (Γ) w→ay [(0,v0),(1,.int .i32 x1),(2,.int .i32 x2),(31,.bool aa)] w:=by
   intro aa w H hs
   rw [Xg.j1] at H
   refine az _ _<|Xh rfl (fun ai=>?_) (fun ai=>?_)
   rw [if_pos ai] at H
   refine Wr fun a8 a0=>Mv rfl<|Mv rfl<|Oad rfl<|Osu rfl<|As rfl<|As rfl<|Ox a0<|Zm ?_
   obtain rfl:=Z4 H
   exact Zb4 rfl rfl rfl ⟨rfl,hs⟩
   rw [if_neg (bft ai)] at H
   refine Wx au<|Wr fun a9 a1=>Mv rfl<|Mv rfl<|Mv rfl ?_
   obtain ⟨ag,aj,H⟩:=bnd H
   refine Oc rfl (Va.c hs h0 aj) (fun ba w hpost=>?_)
   obtain ⟨rfl,hs⟩:=hpost
   refine Oxt rfl<|Oxt rfl<|As rfl<|As rfl<|Ox a1<|Zm ?_
   obtain rfl:=Z4 H
   exact Zb4 rfl rfl rfl ⟨rfl,hs⟩
  refine Zc<|Mv rfl<|Oge rfl<|Mv rfl<|X4 (dj:=34) rfl (fun ak=>?_) (fun ak=>?_)
  rw [if_pos ak] at H
  refine Oe rfl<|Mv rfl<|Oe rfl<|Ols rfl<|Opk rfl<|Mv rfl<|X4 (dj:=38) rfl (fun al=>?_) (fun al=>?_)
  rw [if_pos al] at H
  refine Oe rfl<|Mv rfl<|Oe rfl<|Osu rfl<|Oe rfl<|O_y rfl (Zlw rfl rfl (by decide))<|Oe rfl<|Oeq rfl<|Opk rfl<|Mv rfl<|X4 (dj:=44) rfl (fun am=>?_) (fun am=>?_)
  rw [if_pos am] at H
  refine Oe rfl<|Mv rfl<|Oe rfl<|Ogt rfl<|Opk rfl<|Mv rfl<|X4 (dj:=48) rfl (fun an=>?_) (fun an=>?_)
  rw [if_pos an] at H
  refine Oe rfl<|Mv rfl<|Oe rfl<|Ols rfl<|Opk rfl<|As rfl<|Zd (ac _ _ _ (T4 rfl) (ad (decide (x2<4547)) _ H hs))
  rw [if_neg an] at H
  refine On rfl<|On rfl<|Opk rfl<|As rfl<|Zd (ac _ _ _ (T4 rfl) (ad false _ H hs))
  rw [if_neg am] at H
  refine On rfl<|On rfl<|Opk rfl<|Mv rfl<|On rfl<|On rfl<|Opk rfl<|As rfl<|Zd (ac _ _ _ (T4 rfl) (ad false _ H hs))
  rw [if_neg al] at H
  refine On rfl<|On rfl<|On rfl<|On rfl<|Opk rfl<|Mv rfl<|On rfl<|On rfl<|Opk rfl<|Mv rfl<|On rfl<|On rfl<|Opk rfl<|As rfl ?_
  exact Zd (ac _ _ _ (T4 rfl) (ad false _ H hs))
  rw [if_neg ak] at H
  refine On rfl<|On rfl<|Opk rfl<|Mv rfl<|On rfl<|On rfl<|On rfl<|On rfl<|Opk rfl<|Mv rfl<|On rfl<|On rfl<|Opk rfl<|Mv rfl ?_
  refine On rfl<|On rfl<|Opk rfl<|As rfl<|Zd (ac _ _ _ (T4 rfl) (ad false _ H hs))
 refine Zc<|Mv rfl<|Oge rfl<|Mv rfl<|X4 (dj:=11) rfl (fun ao=>?_) (fun ao=>?_)
 rw [if_pos ao] at H
 refine Oe rfl<|Mv rfl<|Oe rfl<|Ols rfl<|Opk rfl<|Mv rfl<|X4 (dj:=15) rfl (fun ap=>?_) (fun ap=>?_)
 rw [if_pos ap] at H
 refine Oe rfl<|Mv rfl<|Oe rfl<|Oge rfl<|Opk rfl<|Mv rfl<|X4 (dj:=19) rfl (fun aq=>?_) (fun aq=>?_)
 rw [if_pos aq] at H
 refine Oe rfl<|Mv rfl<|Oe rfl<|Ols rfl<|Opk rfl<|As rfl<|Zd (ae _ _ _ (T4 rfl) (af (decide (x2<4470)) _ H hs))
 rw [if_neg aq] at H
 refine On rfl<|On rfl<|Opk rfl<|As rfl<|Zd (ae _ _ _ (T4 rfl) (af false _ H hs))
 rw [if_neg ap] at H
 refine On rfl<|On rfl<|Opk rfl<|Mv rfl<|On rfl<|On rfl<|Opk rfl<|As rfl<|Zd (ae _ _ _ (T4 rfl) (af false _ H hs))
 rw [if_neg ao] at H
 refine On rfl<|On rfl<|Opk rfl<|Mv rfl<|On rfl<|On rfl<|Opk rfl<|Mv rfl<|On rfl<|On rfl<|Opk rfl<|As rfl<|Zd (ae _ _ _ (T4 rfl) (af false _ H hs))

def Zo.j1 (af:List Int→Int→Int→Int→Option (List Int)) (ab:Int) (ah:List Int) (au av:Int):Option (List Int):=af ah au av (i64.wrap (ab+1))
def Zo.j2 (af:List Int→Int→Int→Int→Option (List Int)) (x1 aa:List Int) (ab an ao:Int):Option (List Int):=if aa.length+([rd x1 ab]).length≤most then (Zo.j1 af ab (aa++([rd x1 ab])) an ao) else none
def Zo.j3 (af:List Int→Int→Int→Int→Option (List Int)) (x1 aa:List Int) (ac ae ab ar:Int):Option (List Int):=if ar=0 then (Zo.j2 af x1 aa ab (aa.length:Int) 0) else (Zo.j2 af x1 aa ab ac (max ae ar))
def Zo.j4 (af:List Int→Int→Int→Int→Option (List Int)) (x0:Option Tbs) (x1 aa:List Int) (ac ae ab ar:Int) (ak:Bool):Option (List Int):=if ak=true then (if (0:Int)≤ac∧ac<(aa.length:Int) then ((Xg.f x0 (rd aa ac) (rd x1 ab)).bind fun ax=>(if ax.2=true then (Zo.j1 af ab (aa.set ac.toNat ax.1) ac ae) else (Zo.j3 af x1 aa ac ae ab ar ))) else none) else (Zo.j3 af x1 aa ac ae ab ar )
def Zo.j5 (af:List Int→Int→Int→Int→Option (List Int)) (x0:Option Tbs) (x1 aa:List Int) (ac ae ab ar:Int) (ap:Bool):Option (List Int):=if 0≤ac then (Zo.j4 af x0 x1 aa ac ae ab ar (!ap)) else (Zo.j4 af x0 x1 aa ac ae ab ar false)
def Zo.l1:Nat→Option Tbs→List Int→List Int→Int→Int→Int→Option (List Int)
  | 0,_,_,_,_,_,_=>none
  | aj+1,x0,x1,aa,ac,ae,ab=>if ab<(x1.length:Int) then (if (0:Int)≤ab∧ab<(x1.length:Int) then ((Qf.f x0 (rd x1 ab)).bind fun ar=>(if 0≤ac then (if ac<(i64.wrap ((aa.length:Int)-1)) then (Zo.j5 (Zo.l1 aj x0 x1) x0 x1 aa ac ae ab ar (decide (ar≤ae))) else (Zo.j5 (Zo.l1 aj x0 x1) x0 x1 aa ac ae ab ar false)) else (Zo.j5 (Zo.l1 aj x0 x1) x0 x1 aa ac ae ab ar false))) else none) else (some aa)
def Zo.f (x0:Option Tbs) (x1:List Int):Option (List Int):=Zo.l1 K0 x0 x1 ([]:List Int) (-1) 0 0
theorem Zo.c (hs:St w0 ρ (Γ) w) {v0:Value} {x0:Option Tbs} (h0:Xw H4 ρ v0 x0) {v1:Value} {x1:List Int} (h1:SlR (Rep.int .i32) ρ v1 x1) {r:List Int} (H:Zo.f x0 x1=some r):Zq Tryz.prog 79 [v0,v1] w (fun v w'=>∃ (ρ':Hp) (v0:Value) (cs0:List Value),v=v0∧Le ρ ρ'∧St w0 ρ' (.row v0 21 (Rep.int .i32).sz r.length cs0::Γ) w'∧Zp (Rep.int .i32) ρ' cs0 r):=by
 rw [Zo.f] at H
 refine Et Tryz.func79 Tryz.ntmps79 rfl<|Wr fun da b5=>As rfl<|Ox b5<|Wr fun db b6=>As rfl ?_
 have hs:=hs.rowNil 21 (Rep.int .i32).sz
 have b7:=Zp.nil (Rep.int .i32) ρ
 refine Ox b6<|Wr fun dc b8=>As rfl<|As rfl<|Ox b8<|Zi fun dd b9=>Wr fun de ca=>Mv rfl<|O_y rfl (Yx Ua h1 rfl)<|Mv rfl<|Ox ca<|Zl fun df cb dg=>?_
 refine Xb (σ:=Nat×List Int×Int×Int×Int×Value×List Value) (fun (aj,aa,ac,ae,ab,ad,ag)=>[(0,v0),(5,ad),(6,.int .i64 ac),(7,.int .i64 ae),(14,v1),(15,.int .i64 (x1.length:Int)),(16,.int .i64 ab)]) (fun (aj,aa,ac,ae,ab,ad,ag) w=>Zo.l1 aj x0 x1 aa ac ae ab=some r∧St w0 ρ ((.row ad 21 ((Rep.int .i32).sz) aa.length ag)::Γ) w∧Zp (Rep.int .i32) ρ ag aa) (fun s=>s.1) (K0,([]:List Int),(-1),0,0,(.slice none 0 0),([])) sbn (Ai H (Ai hs b7)) ?_
 rintro ⟨aj,aa,ac,ae,ab,ad,ag⟩ w dh ⟨H,hs,ai⟩ a0
 show W _ _ _ _ _ _ [(0,v0),(5,ad),(6,.int .i64 ac),(7,.int .i64 ae),(14,v1),(15,.int .i64 (x1.length:Int)),(16,.int .i64 ab)] w
 cases aj with
 | zero=>rw [Zo.l1] at H;cases H
 | succ aj=>
 rw [Zo.l1] at H
 refine Wr fun di cc=>Ols rfl<|Ox cc<|Zi fun dk cd=>Xa rfl (fun bh=>?_) (fun bh=>?_)
 rw [if_pos bh] at H
 refine Wx cd<|Yt fun ce cf b0=>?_
 have b1:∀ (ah:List Int) (au av:Int) (al:Value) (am:List Value) (w:World),Zo.j1 (Zo.l1 aj x0 x1) ab ah au av=some r→St w0 ρ ((.row al 21 ((Rep.int .i32).sz) ah.length am)::Γ) w→Zp (Rep.int .i32) ρ am ah→ce [(0,v0),(5,al),(6,.int .i64 au),(7,.int .i64 av),(14,v1),(15,.int .i64 (x1.length:Int)),(16,.int .i64 ab)] w:=by
  intro ah au av al am w H hs aw
  rw [Zo.j1] at H
  refine cf _ _<|Zc<|Oad rfl<|Mv rfl<|Zd (a0 (aj,ah,au,av,(i64.wrap (ab+1)),al,am) _ _ sbn (Ai H (Ai hs aw)) (Nat.lt_succ_self _))
 refine Zl fun dl cg dm=>Zi fun dn ch=>Zc ?_
 obtain ⟨b2,H⟩:=gd H
 obtain ⟨dp,dq,ci,cj⟩:=h1.ix Kk b2.1 b2.2
 refine O_y rfl (cj rfl rfl)<|O_y rfl (Xq Xn rfl (hs.see ci.int))<|As rfl<|Ox ch<|Wr fun dr ck=>Mv rfl<|Mv rfl ?_
 obtain ⟨ar,bi,H⟩:=bnd H
 refine Oc rfl (Qf.c hs h0 bi) (fun ds w hpost=>?_)
 obtain ⟨rfl,hs⟩:=hpost
 refine As rfl<|Ox ck<|W.weak [(0,_),(5,_),(6,_),(7,_),(9,_),(10,_),(14,_),(15,_),(16,_)] sbn ?_
 refine Yt fun cl cm bj=>?_
 have bk:∀ (ap:Bool) (w:World),Zo.j5 (Zo.l1 aj x0 x1) x0 x1 aa ac ae ab ar ap=some r→St w0 ρ ((.row ad 21 ((Rep.int .i32).sz) aa.length ag)::Γ) w→cl [(0,v0),(5,ad),(6,.int .i64 ac),(7,.int .i64 ae),(9,.int .i32 (rd x1 ab)),(10,.int .i64 ar),(11,.bool ap),(14,v1),(15,.int .i64 (x1.length:Int)),(16,.int .i64 ab)] w:=by
  intro ap w H hs
  rw [Zo.j5] at H
  refine cm _ _<|Yt fun cn co b3=>?_
  have a7:∀ (w:World),Zo.j3 (Zo.l1 aj x0 x1) x1 aa ac ae ab ar=some r→St w0 ρ ((.row ad 21 ((Rep.int .i32).sz) aa.length ag)::Γ) w→cn [(0,v0),(5,ad),(6,.int .i64 ac),(7,.int .i64 ae),(9,.int .i32 (rd x1 ab)),(10,.int .i64 ar),(14,v1),(15,.int .i64 (x1.length:Int)),(16,.int .i64 ab)] w:=by
   intro w H hs
   rw [Zo.j3] at H
   refine co _ _<|Wr fun cp bl=>Mv rfl<|Mv rfl<|O_y rfl (Zvj rfl rfl)<|As rfl<|Ox bl<|Yt fun bm bn a8=>?_
   have a9:∀ (an ao:Int) (w:World),Zo.j2 (Zo.l1 aj x0 x1) x1 aa ab an ao=some r→St w0 ρ ((.row ad 21 ((Rep.int .i32).sz) aa.length ag)::Γ) w→bm [(0,v0),(5,ad),(6,.int .i64 an),(7,.int .i64 ao),(9,.int .i32 (rd x1 ab)),(14,v1),(15,.int .i64 (x1.length:Int)),(16,.int .i64 ab)] w:=by
    intro an ao w H hs
    rw [Zo.j2] at H
    refine bn _ _<|Zc<|Mv rfl<|Mv rfl<|K6 (xs:=[.tmp 66]) (cs:=[.int .i32 (rd x1 ab)]) Kk hs rfl rfl rfl (by decide) (by decide) rfl (Yd rfl Ki) (Zx rfl X6) (fun cq w hs=>?_)
    have ba:Zp (Rep.int .i32) ρ ([.int .i32 (rd x1 ab)]) [rd x1 ab]:=Zp.cons (c:=[.int .i32 (rd x1 ab)]) (x:=rd x1 ab) rfl (Zp.nil _ _)
    obtain ⟨bo,H⟩:=gd H
    refine Q3 (i:=1) Kk hs rfl ai rfl rfl rfl (Src.lit (j:=0) hs rfl ba) ba bo (fun bp bb w bq hs=>As rfl<|Zd (b0 _ _ _ sbn (b1 (aa++([rd x1 ab])) an ao bp bb _ H (hs.sub (ssk (ssc ssr))) bq)))
   refine Wr fun cr br=>Mv rfl<|Oeq rfl<|Ox br<|Xa rfl (fun a1=>?_) (fun a1=>?_)
   rw [if_pos a1] at H
   refine Zc<|Mv rfl<|O_y rfl (Hg (i:=0) Ua hs rfl rfl)<|As rfl<|As rfl<|Zd (a8 _ _ _ sbn (a9 (aa.length:Int) 0 _ H hs))
   rw [if_neg a1] at H
   exact Ui (a8 _ _ _ sbn (a9 ac (max ae ar) _ H hs))
  refine Yt fun bs bt bc=>?_
  have bd:∀ (ak:Bool) (w:World),Zo.j4 (Zo.l1 aj x0 x1) x0 x1 aa ac ae ab ar ak=some r→St w0 ρ ((.row ad 21 ((Rep.int .i32).sz) aa.length ag)::Γ) w→bs [(0,v0),(5,ad),(6,.int .i64 ac),(7,.int .i64 ae),(9,.int .i32 (rd x1 ab)),(10,.int .i64 ar),(14,v1),(15,.int .i64 (x1.length:Int)),(16,.int .i64 ab),(42,.bool ak)] w:=by
   intro ak w H hs
   rw [Zo.j4] at H
   refine bt _ _<|Xh rfl (fun a2=>?_) (fun a2=>?_)
   rw [if_pos a2] at H
   refine Wr fun ct bu=>Mv rfl<|Mv rfl<|Mv rfl ?_
   obtain ⟨aq,H⟩:=gd H
   obtain ⟨cu,ay⟩:=hs.rowBlock (j:=0) rfl (by have:=aq.2;omega)
   obtain ⟨_,rfl,be⟩:=ai.at aq.1 aq.2
   refine O_y rfl (Vv (j:=0) Kk hs rfl ay rfl rfl aq.1 aq.2)<|O_y rfl (Xq Xn rfl (hs.rowCell (j:=0) rfl ay (be 0 _ rfl)))<|Mv rfl ?_
   obtain ⟨ax,bf,H⟩:=bnd H
   refine Oc rfl (Xg.c hs h0 bf) (fun cv w hpost=>?_)
   obtain ⟨rfl,hs⟩:=hpost
   refine Mv rfl<|Oxt rfl<|Oxt rfl<|As rfl<|As rfl<|Ox bu<|W.weak [(0,_),(5,_),(6,_),(7,_),(9,_),(10,_),(12,_),(13,_),(14,_),(15,_),(16,_)] sbn ?_
   refine Wr fun cw bv=>Mv rfl<|Ox bv<|Xh rfl (fun a3=>?_) (fun a3=>?_)
   rw [if_pos a3] at H
   refine Wr fun cx bw=>Mv rfl<|Mv rfl<|Mv rfl ?_
   obtain ⟨cy,az⟩:=hs.rowBlock (j:=0) rfl (by have:=aq.2;omega)
   obtain ⟨_,rfl,b4⟩:=ai.at aq.1 aq.2
   refine O_y rfl (Vv (j:=0) Kk hs rfl az rfl rfl aq.1 aq.2)<|Zay (j:=0) Zg3 hs rfl az aq.1 aq.2 ai rfl rfl rfl (fun bg w bx hs=>Ox bw<|W.weak [(0,_),(5,_),(6,_),(7,_),(14,_),(15,_),(16,_)] sbn ?_)
   exact Y5 (cg _ _ (b0 _ _ _ sbn (b1 (aa.set ac.toNat ax.1) ac ae ad bg _ H hs bx)))
   rw [if_neg (bft a3)] at H
   exact Ui (b3 _ _ _ sbn (a7 _ H hs))
   rw [if_neg (bft a2)] at H
   exact Ui (b3 _ _ _ sbn (a7 _ H hs))
  refine Zc<|Mv rfl<|Oge rfl<|Mv rfl<|X4 (dj:=39) rfl (fun a4=>?_) (fun a4=>?_)
  rw [if_pos a4] at H
  refine Oe rfl<|Mv rfl<|Oe rfl<|Ont rfl<|Opk rfl<|Zd (bc _ _ _ sbn (bd (!ap) _ H hs))
  rw [if_neg a4] at H
  refine On rfl<|On rfl<|Opk rfl<|Zd (bc _ _ _ sbn (bd false _ H hs))
 refine Zc<|Mv rfl<|Oge rfl<|Mv rfl<|X4 (dj:=25) rfl (fun a5=>?_) (fun a5=>?_)
 rw [if_pos a5] at H
 refine Oe rfl<|Mv rfl<|Oe rfl<|Mv rfl<|Oe rfl<|O_y rfl (Hg (i:=0) Ua hs rfl rfl)<|Oe rfl<|Osu rfl<|Oe rfl<|Ols rfl<|Opk rfl<|Mv rfl<|X4 (dj:=32) rfl (fun a6=>?_) (fun a6=>?_)
 rw [if_pos a6] at H
 refine Oe rfl<|Mv rfl<|Oe rfl<|Mv rfl<|Oe rfl<|Oge rfl<|Opk rfl<|As rfl<|Zd (bj _ _ _ sbn (bk (decide (ar≤ae)) _ H hs))
 rw [if_neg a6] at H
 refine On rfl<|On rfl<|On rfl<|Opk rfl<|As rfl<|Zd (bj _ _ _ sbn (bk false _ H hs))
 rw [if_neg a5] at H
 refine On rfl<|On rfl<|On rfl<|On rfl<|On rfl<|Opk rfl<|Mv rfl<|On rfl<|On rfl<|On rfl<|Opk rfl<|As rfl<|Zd (bj _ _ _ sbn (bk false _ H hs))
 rw [if_neg bh] at H
 refine Y5 (cb _ _ (b9 _ _<|Wr fun cz bz=>Mv rfl<|As rfl<|Ox bz<|Zm ?_))
 obtain rfl:=Z4 H
 exact r1 rfl ⟨_,_,_,rfl,Le.rfl' _,hs,ai⟩

def Hj.f (x0:Option Tbs) (x1:List Int):Option (List Int):=(U3.f x0 x1).bind fun af=>((Zo.f x0 af).bind fun ag=>(some ag))
theorem Hj.c (hs:St w0 ρ (Γ) w) {v0:Value} {x0:Option Tbs} (h0:Xw H4 ρ v0 x0) {v1:Value} {x1:List Int} (h1:SlR (Rep.int .i32) ρ v1 x1) {r:List Int} (H:Hj.f x0 x1=some r):Zq Tryz.prog 44 [v0,v1] w (fun v w'=>∃ (ρ':Hp) (v0:Value) (cs0:List Value),v=v0∧Le ρ ρ'∧St w0 ρ' (.row v0 21 (Rep.int .i32).sz r.length cs0::Γ) w'∧Zp (Rep.int .i32) ρ' cs0 r):=by
 rw [Hj.f] at H
 refine Et Tryz.func44 Tryz.ntmps44 rfl<|Wr fun ao ah=>As rfl<|Ox ah<|Wr fun ap ai=>Mv rfl<|Mv rfl<|Mv rfl ?_
 obtain ⟨af,ac,H⟩:=bnd H
 refine Oc rfl (U3.c hs h0 h1 ac) (fun aq w hpost=>?_)
 obtain ⟨ar,au,aj,rfl,aa,hs,ak⟩:=hpost
 obtain ⟨av,ab,hs,al⟩:=hs.rowEnd (j:=0) ak rfl
 obtain ⟨ag,ad,H⟩:=bnd H
 refine Oc rfl (Zo.c hs (h0.mono (aa.trans ab)) al ad) (fun aw w hpost=>?_)
 obtain ⟨ax,ay,am,rfl,ae,hs,an⟩:=hpost
 refine As rfl<|Ox ai<|Zm ?_
 obtain rfl:=Z4 H
 exact r1 rfl ⟨_,_,_,rfl,((aa.trans ab).trans ae),hs,an⟩

def Xj.l1:Nat→List Int→List Int→Int→Option Bool
  | 0,_,_,_=>none
  | ab+1,x0,x1,aa=>if aa<(x0.length:Int) then (if (0:Int)≤aa∧aa<(x0.length:Int) then (if (0:Int)≤aa∧aa<(x1.length:Int) then (if (rd x0 aa)≠(rd x1 aa) then (some false) else ((Xj.l1 ab x0 x1) (i64.wrap (aa+1)))) else none) else none) else (some true)
def Xj.f (x0 x1:List Int):Option Bool:=if (x0.length:Int)≠(x1.length:Int) then (some false) else (Xj.l1 K0 x0 x1 0)
theorem Xj.c (hs:St w0 ρ (Γ) w) {v0:Value} {x0:List Int} (h0:SlR (Rep.int .i32) ρ v0 x0) {v1:Value} {x1:List Int} (h1:SlR (Rep.int .i32) ρ v1 x1) {r:Bool} (H:Xj.f x0 x1=some r):Zq Tryz.prog 43 [v0,v1] w (fun v w'=>v=.bool r∧St w0 ρ Γ w'):=by
 rw [Xj.f] at H
 refine Et Tryz.func43 Tryz.ntmps43 rfl<|Wr fun a2 ai=>As rfl<|Ox ai<|Zi fun a3 aj=>Wr fun a4 ak=>Mv rfl<|O_y rfl (Yx Ua h0 rfl)<|Mv rfl<|O_y rfl (Yx Ua h1 rfl)<|One rfl<|Zd (ak _ _ ?_)
 refine Xa rfl (fun ad=>?_) (fun ad=>?_)
 rw [if_pos ad] at H
 refine Wr fun a5 al=>As rfl<|Ox al<|Zm ?_
 obtain rfl:=Z4 H
 exact r1 rfl ⟨rfl,hs⟩
 rw [if_neg ad] at H
 refine Wx aj<|Zi fun a6 am=>Wr fun a7 an=>Mv rfl<|O_y rfl (Yx Ua h0 rfl)<|Mv rfl<|Ox an<|Zl fun a8 ao a9=>Xb (σ:=Nat×Int) (fun (ab,aa)=>[(0,v0),(1,v1),(12,.int .i64 (x0.length:Int)),(13,.int .i64 aa)]) (fun (ab,aa) w=>Xj.l1 ab x0 x1 aa=some r∧St w0 ρ (Γ) w) (fun s=>s.1) (K0,0) (T4 rfl) (Ai H hs) ?_
 rintro ⟨ab,aa⟩ w ba ⟨H,hs⟩ ac
 show W _ _ _ _ _ _ [(0,v0),(1,v1),(12,.int .i64 (x0.length:Int)),(13,.int .i64 aa)] w
 cases ab with
 | zero=>rw [Xj.l1] at H;cases H
 | succ ab=>
 rw [Xj.l1] at H
 refine Wr fun bb ap=>Ols rfl<|Ox ap<|Zi fun bc aq=>Xa rfl (fun ae=>?_) (fun ae=>?_)
 rw [if_pos ae] at H
 refine Wx aq<|Zi fun bd ar=>Zl fun be bf bg=>Wr fun bh au=>Mv rfl<|As rfl<|Ox au<|Zi fun bi av=>Qt 9 [0,0,3,4,0,0,48,64,136] [506,505,496,240,431,415,271,15,0] [0,0,3,7,0,0,48,112,255] [] (fun w=>St w0 ρ (Γ) w) Vr (by kernel_rfl) (fun sh=>?_)
 have hs:=hs.drew
 refine Fm 0 sh rfl<|Fm 1 sh rfl ?_
 obtain ⟨ag,H⟩:=gd H
 obtain ⟨bj,bk,aw,ax⟩:=h0.ix Kk ag.1 ag.2
 refine Fp 2 sh rfl (fun w=>ax rfl rfl)<|Fy 3 sh rfl hs (fun w hs=>Xq Xn rfl (hs.see aw.int))<|Fm 4 sh rfl<|Fm 5 sh rfl ?_
 obtain ⟨ah,H⟩:=gd H
 obtain ⟨bl,bm,ay,az⟩:=h1.ix Kk ah.1 ah.2
 refine Fp 6 sh rfl (fun w=>az rfl rfl)<|Fy 7 sh rfl hs (fun w hs=>Xq Xn rfl (hs.see ay.int))<|Fp 8 sh rfl (fun w=>Zq3 rfl rfl)<|FE sh (av _ _<|W.weak [(0,_),(1,_),(12,_),(13,_),(24,_)] sbn ?_)
 refine Xa rfl (fun af=>?_) (fun af=>?_)
 rw [if_pos af] at H
 refine Wr fun bn a0=>As rfl<|Ox a0<|Zm ?_
 obtain rfl:=Z4 H
 exact r1 rfl ⟨rfl,hs⟩
 rw [if_neg af] at H
 refine Wx ar<|Zc<|Oad rfl<|Mv rfl<|Zd (ac (ab,(i64.wrap (aa+1))) _ _ (T4 rfl) (Ai H hs) (Nat.lt_succ_self _))
 rw [if_neg ae] at H
 refine Y5 (ao _ _ (am _ _<|Wr fun bo a1=>As rfl<|Ox a1<|Zm ?_))
 obtain rfl:=Z4 H
 exact r1 rfl ⟨rfl,hs⟩

def Zbc.f (x0:Option Tbs) (x1:List Int):Option Bool:=(Hj.f x0 x1).bind fun ae=>((Xj.f ae x1).bind fun af=>(some af))
theorem Zbc.c (hs:St w0 ρ (Γ) w) {v0:Value} {x0:Option Tbs} (h0:Xw H4 ρ v0 x0) {v1:Value} {x1:List Int} (h1:SlR (Rep.int .i32) ρ v1 x1) {r:Bool} (H:Zbc.f x0 x1=some r):Zq Tryz.prog 23 [v0,v1] w (fun v w'=>v=.bool r∧St w0 ρ Γ w'):=by
 rw [Zbc.f] at H
 refine Et Tryz.func23 Tryz.ntmps23 rfl<|Wr fun al ag=>As rfl<|Ox ag<|Wr fun am ah=>Mv rfl<|Mv rfl ?_
 obtain ⟨ae,ac,H⟩:=bnd H
 refine Oc rfl (Hj.c hs h0 h1 ac) (fun an w hpost=>?_)
 obtain ⟨ao,ap,ai,rfl,aa,hs,aj⟩:=hpost
 refine Mv rfl ?_
 obtain ⟨aq,ab,hs,ak⟩:=hs.rowEnd (j:=0) aj rfl
 obtain ⟨af,ad,H⟩:=bnd H
 refine Oc rfl (Xj.c hs ak (h1.mono (aa.trans ab)) ad) (fun ar w hpost=>?_)
 obtain ⟨rfl,hs⟩:=hpost
 refine As rfl<|Ox ah<|Zm ?_
 obtain rfl:=Z4 H
 exact r1 rfl ⟨rfl,(hs.less (aa.trans ab))⟩

def Xi.f (x0:Int) (x1:Bool) (y1:List Int):Option (List Int):=if x1=true then (if y1.length+([x0]).length≤most then (some (y1++([x0]))) else none) else (some y1)
theorem Xi.c {pb0:Nat} {w1:Value} {d1:List Value} {y1:List Int} (hs:St w0 ρ ((.box pb0 56 ([w1]))::(.row w1 3 ((Rep.int .i64).sz) y1.length d1)::Γ) w) {x0:Int} {x1:Bool} (g1:Zp (Rep.int .i64) ρ d1 y1) {r:List Int} (H:Xi.f x0 x1 y1=some r):Zq Tryz.prog 36 [.int .i64 x0,.bool x1,.pointer (some ⟨pb0,0,none⟩)] w (fun v w'=>∃ (ρ':Hp) (u0:Value) (ds0:List Value),v=.tuple #[]∧Le ρ ρ'∧St w0 ρ' ((.box pb0 56 ([u0]))::(.row u0 3 ((Rep.int .i64).sz) r.length ds0)::Γ) w'∧Zp (Rep.int .i64) ρ' ds0 r):=by
 rw [Xi.f] at H
 refine Et Tryz.func36 Tryz.ntmps36 rfl<|Wr fun ag ac=>Mv rfl<|Ox ac<|Xh rfl (fun aa=>?_) (fun aa=>?_)
 rw [if_pos aa] at H
 refine Zc<|Obx 0 Z0m hs rfl<|Mv rfl<|K6 (xs:=[.tmp 7]) (cs:=[.int .i64 x0]) Zt1 hs rfl rfl rfl (by decide) (by decide) rfl (Yd rfl Ki) (Zx rfl X6) (fun ah w hs=>?_)
 have ab:Zp (Rep.int .i64) ρ ([.int .i64 x0]) [x0]:=Zp.cons (c:=[.int .i64 x0]) (x:=x0) rfl (Zp.nil _ _)
 obtain ⟨ad,H⟩:=gd H
 refine Q3 (i:=2) Zt1 hs rfl g1 rfl rfl rfl (Src.lit (j:=0) hs rfl ab) ab ad (fun ai ae w af hs=>V6 (i:=1) Z0z hs rfl rfl rfl rfl (St.rowOne hs (j:=2) rfl) (fun w hs=>Zd ?_))
 obtain rfl:=Z4 H
 exact Zj6 rfl ⟨_,_,_,rfl,Le.rfl' _,(hs.sub (ssk (ssc (ssc ssr)))),af⟩
 rw [if_neg (bft aa)] at H
 refine Ui ?_
 obtain rfl:=Z4 H
 exact Zj6 rfl ⟨_,_,_,rfl,Le.rfl' _,hs,g1⟩

def Xe.l1:Nat→List Int→Int→Int→Option Int
  | 0,_,_,_=>none
  | ab+1,x0,x1,aa=>if aa<(x0.length:Int) then (if (0:Int)≤aa∧aa<(x0.length:Int) then (if x1=(rd x0 aa) then (some aa) else ((Xe.l1 ab x0 x1) (i64.wrap (aa+1)))) else none) else (some (-1))
def Xe.f (x0:List Int) (x1:Int):Option Int:=Xe.l1 K0 x0 x1 0
theorem Xe.c (hs:St w0 ρ (Γ) w) {v0:Value} {x0:List Int} (h0:SlR (Rep.int .i32) ρ v0 x0) {x1 r:Int} (H:Xe.f x0 x1=some r):Zq Tryz.prog 35 [v0,.int .i32 x1] w (fun v w'=>v=.int .i64 r∧St w0 ρ Γ w'):=by
 rw [Xe.f] at H
 refine Et Tryz.func35 Tryz.ntmps35 rfl<|Wr fun av ag=>As rfl<|Ox ag<|Zi fun aw ah=>Wr fun ax ai=>Mv rfl<|O_y rfl (Yx Ua h0 rfl)<|Mv rfl<|Ox ai<|Zl fun ay aj az=>Xb (σ:=Nat×Int) (fun (ab,aa)=>[(0,v0),(1,.int .i32 x1),(7,.int .i64 (x0.length:Int)),(8,.int .i64 aa)]) (fun (ab,aa) w=>Xe.l1 ab x0 x1 aa=some r∧St w0 ρ (Γ) w) (fun s=>s.1) (K0,0) (T4 rfl) (Ai H hs) ?_
 rintro ⟨ab,aa⟩ w a0 ⟨H,hs⟩ ac
 show W _ _ _ _ _ _ [(0,v0),(1,.int .i32 x1),(7,.int .i64 (x0.length:Int)),(8,.int .i64 aa)] w
 cases ab with
 | zero=>rw [Xe.l1] at H;cases H
 | succ ab=>
 rw [Xe.l1] at H
 refine Wr fun a1 ak=>Ols rfl<|Ox ak<|Zi fun a2 al=>Xa rfl (fun ad=>?_) (fun ad=>?_)
 rw [if_pos ad] at H
 refine Wx al<|Zi fun a3 am=>Zl fun a4 a5 a6=>Wr fun a7 an=>Mv rfl<|As rfl<|Ox an<|Wr fun a8 ao=>Mv rfl<|Mv rfl<|Mv rfl ?_
 obtain ⟨af,H⟩:=gd H
 obtain ⟨a9,ba,ap,aq⟩:=h0.ix Kk af.1 af.2
 refine O_y rfl (aq rfl rfl)<|O_y rfl (Xq Xn rfl (hs.see ap.int))<|Oeq rfl<|Ox ao<|Xa rfl (fun ae=>?_) (fun ae=>?_)
 rw [if_pos ae] at H
 refine Wr fun bb ar=>Mv rfl<|As rfl<|Ox ar<|W.weak [(4,_)] (S1 rfl)<|Zm ?_
 obtain rfl:=Z4 H
 exact r1 rfl ⟨rfl,hs⟩
 rw [if_neg ae] at H
 refine Wx am<|Zc<|Oad rfl<|Mv rfl<|Zd (ac (ab,(i64.wrap (aa+1))) _ _ (T4 rfl) (Ai H hs) (Nat.lt_succ_self _))
 rw [if_neg ad] at H
 refine Y5 (aj _ _ (ah _ _<|Wr fun bc au=>As rfl<|Ox au<|Zm ?_))
 obtain rfl:=Z4 H
 exact r1 rfl ⟨rfl,hs⟩

def K2.f (x0:List Int) (x1:Int):Option Bool:=(Xe.f x0 x1).bind fun ab=>(some (decide (0≤ab)))
theorem K2.c (hs:St w0 ρ (Γ) w) {v0:Value} {x0:List Int} (h0:SlR (Rep.int .i32) ρ v0 x0) {x1:Int} {r:Bool} (H:K2.f x0 x1=some r):Zq Tryz.prog 37 [v0,.int .i32 x1] w (fun v w'=>v=.bool r∧St w0 ρ Γ w'):=by
 rw [K2.f] at H
 refine Et Tryz.func37 Tryz.ntmps37 rfl<|Wr fun ae ac=>As rfl<|Ox ac<|Wr fun af ad=>Mv rfl<|Mv rfl ?_
 obtain ⟨ab,aa,H⟩:=bnd H
 refine Oc rfl (Xe.c hs h0 aa) (fun ag w hpost=>?_)
 obtain ⟨rfl,hs⟩:=hpost
 refine Oge rfl<|As rfl<|Ox ad<|Zm ?_
 obtain rfl:=Z4 H
 exact r1 rfl ⟨rfl,hs⟩

def Qw.j1 (aa:Bool):Option Bool:=some aa
def Qw.f (x0:Option Tbs) (x1:Int):Option Bool:=if ((x0).isSome)=true then (if x0.isSome=true then ((Z1.f (((x0).getD default).mark) x1).bind fun ab=>(Qw.j1 (decide (ab=1)))) else none) else (Qw.j1 false)
theorem Qw.c (hs:St w0 ρ (Γ) w) {v0:Value} {x0:Option Tbs} (h0:Xw H4 ρ v0 x0) {x1:Int} {r:Bool} (H:Qw.f x0 x1=some r):Zq Tryz.prog 38 [v0,.int .i32 x1] w (fun v w'=>v=.bool r∧St w0 ρ Γ w'):=by
 rw [Qw.f] at H
 refine Et Tryz.func38 Tryz.ntmps38 rfl<|Wr fun ax ai=>As rfl<|Ox ai<|Yt fun aj ak ag=>?_
 have ah:∀ (aa:Bool) (w:World),Qw.j1 aa=some r→St w0 ρ (Γ) w→aj [(4,.bool aa)] w:=by
  intro aa w H hs
  rw [Qw.j1] at H
  refine ak _ _<|Zm ?_
  obtain rfl:=Z4 H
  exact r1 rfl ⟨rfl,hs⟩
 refine Zc<|Mv rfl<|O_y rfl ((h0.nen Zp9 rfl rfl))<|Mv rfl<|V9 (dj:=7) rfl (fun ad=>?_) (fun ad=>?_)
 rw [if_pos ad] at H
 refine Oe rfl<|Mv rfl ?_
 obtain ⟨al,H⟩:=gd H
 obtain ⟨ay,ae,am⟩:=h0.open al
 obtain ⟨_,⟨az,a0,a1,a2,a3,a4,a5,a6,a7,a8,a9,ba,bb,bc,bd,be,bf,bg,bh,an,ao,ap,rfl,bi,bj,bk,bl,bm,bn,bo,bp,bq,br,bs,bt,bu,bv,bw,bx,bz,aq,b0,ar,au,av⟩,af⟩:=am
 refine Oe rfl<|O_y rfl (Vh (congrArg some ae))<|Oe rfl<|Ofd Zxw rfl<|Oe rfl<|O_y rfl (Xq Zc5 rfl (hs.see (af 17 _ rfl)))<|Oe rfl<|Mv rfl<|Oe rfl ?_
 obtain ⟨ab,ac,H⟩:=bnd H
 refine Oc rfl (Z1.c hs aq ac) (fun aw w hpost=>?_)
 obtain ⟨rfl,hs⟩:=hpost
 refine Oe rfl<|Oeq rfl<|Opk rfl<|As rfl<|Zd (ag _ _ _ (S1 rfl) (ah (decide (ab=1)) _ H hs))
 rw [if_neg (bft ad)] at H
 refine On rfl<|On rfl<|On rfl<|On rfl<|On rfl<|On rfl<|On rfl<|Opk rfl<|As rfl<|Zd (ag _ _ _ (S1 rfl) (ah false _ H hs))

def Kp.f (x0:Option Tbs) (x1:Int):Option Int:=if ((x0).isNone)=true then (some 0) else (if x0.isSome=true then ((Z1.f (((x0).getD default).maps) x1).bind fun ab=>(if 0<ab then (some 4) else ((Z1.f (((x0).getD default).status) x1).bind fun ac=>(some ac)))) else none)
theorem Kp.c (hs:St w0 ρ (Γ) w) {v0:Value} {x0:Option Tbs} (h0:Xw H4 ρ v0 x0) {x1 r:Int} (H:Kp.f x0 x1=some r):Zq Tryz.prog 42 [v0,.int .i32 x1] w (fun v w'=>v=.int .i64 r∧St w0 ρ Γ w'):=by
 rw [Kp.f] at H
 refine Et Tryz.func42 Tryz.ntmps42 rfl<|Wr fun cn aq=>As rfl<|Ox aq<|Zi fun co ar=>Zl fun cp cq cr=>Wr fun cs au=>Mv rfl<|O_y rfl ((h0.eqn Zp9 rfl rfl))<|As rfl<|Ox au<|Xh rfl (fun ag=>?_) (fun ag=>?_)
 rw [if_pos ag] at H
 refine Wr fun ct av=>As rfl<|Ox av<|Zm ?_
 obtain rfl:=Z4 H
 exact r1 rfl ⟨rfl,hs⟩
 rw [if_neg (bft ag)] at H
 refine Wr fun cu aw=>Mv rfl ?_
 obtain ⟨ap,H⟩:=gd H
 obtain ⟨cv,ah,ax⟩:=h0.open ap
 obtain ⟨_,⟨cw,cx,cy,cz,da,db,dc,dd,de,df,dg,dh,di,dj,dk,dl,ay,az,a0,a1,a2,a3,rfl,dm,dn,dp,dq,dr,ds,dt,du,dv,dw,dx,dy,dz,ea,eb,a4,a5,a6,ai,a7,a8,a9⟩,aj⟩:=ax
 refine O_y rfl (Vh (congrArg some ah))<|Ofd Zwu rfl<|O_y rfl (Xq Zc5 rfl (hs.see (aj 18 _ rfl)))<|Mv rfl ?_
 obtain ⟨ab,ad,H⟩:=bnd H
 refine Oc rfl (Z1.c hs ai ad) (fun ba w hpost=>?_)
 obtain ⟨rfl,hs⟩:=hpost
 refine Ogt rfl<|As rfl<|Ox aw<|Xa rfl (fun aa=>?_) (fun aa=>?_)
 rw [if_pos aa] at H
 refine Wr fun bb ak=>As rfl<|Ox ak<|Zm ?_
 obtain rfl:=Z4 H
 exact r1 rfl ⟨rfl,hs⟩
 rw [if_neg aa] at H
 refine Wx ar<|Wr fun bc al=>Mv rfl ?_
 obtain ⟨bd,ae,am⟩:=h0.open ap
 obtain ⟨_,⟨be,bf,bg,bh,bi,bj,bk,bl,bm,bn,bo,bp,bq,br,bs,bt,bu,bv,bw,bx,bz,b0,rfl,b1,b2,b3,b4,b5,b6,b7,b8,b9,ca,cb,an,cc,cd,ce,cf,cg,ch,ci,cj,ck,cl⟩,ao⟩:=am
 refine O_y rfl (Vh (congrArg some ae))<|Ofd Zxm rfl<|O_y rfl (Xq Zc5 rfl (hs.see (ao 11 _ rfl)))<|Mv rfl ?_
 obtain ⟨ac,af,H⟩:=bnd H
 refine Oc rfl (Z1.c hs an af) (fun cm w hpost=>?_)
 obtain ⟨rfl,hs⟩:=hpost
 refine As rfl<|Ox al<|W.weak [(4,_)] (S1 rfl)<|Zm ?_
 obtain rfl:=Z4 H
 exact r1 rfl ⟨rfl,hs⟩

def Qv.j1 (aa:Bool):Option Bool:=some aa
def Qv.f (x0:Option Tbs) (x1:Int):Option Bool:=(Kp.f x0 x1).bind fun ab=>(if ab=1 then (Qv.j1 true) else (Qv.j1 (decide (ab=3))))
theorem Qv.c (hs:St w0 ρ (Γ) w) {v0:Value} {x0:Option Tbs} (h0:Xw H4 ρ v0 x0) {x1:Int} {r:Bool} (H:Qv.f x0 x1=some r):Zq Tryz.prog 22 [v0,.int .i32 x1] w (fun v w'=>v=.bool r∧St w0 ρ Γ w'):=by
 rw [Qv.f] at H
 refine Et Tryz.func22 Tryz.ntmps22 rfl<|Wr fun ak ag=>As rfl<|Ox ag<|Wr fun al ah=>Mv rfl<|Mv rfl ?_
 obtain ⟨ab,ac,H⟩:=bnd H
 refine Oc rfl (Kp.c hs h0 ac) (fun am w hpost=>?_)
 obtain ⟨rfl,hs⟩:=hpost
 refine As rfl<|Ox ah<|Yt fun ai aj ae=>?_
 have af:∀ (aa:Bool) (w:World),Qv.j1 aa=some r→St w0 ρ (Γ) w→ai [(4,.bool aa)] w:=by
  intro aa w H hs
  rw [Qv.j1] at H
  refine aj _ _<|Zm ?_
  obtain rfl:=Z4 H
  exact r1 rfl ⟨rfl,hs⟩
 refine Zc<|Mv rfl<|Oeq rfl<|Mv rfl<|X4 (dj:=11) rfl (fun ad=>?_) (fun ad=>?_)
 rw [if_pos ad] at H
 refine On rfl<|On rfl<|Opk rfl<|As rfl<|Zd (ae _ _ _ (S1 rfl) (af true _ H hs))
 rw [if_neg ad] at H
 refine Oe rfl<|Mv rfl<|Oe rfl<|Oeq rfl<|Opk rfl<|As rfl<|Zd (ae _ _ _ (S1 rfl) (af (decide (ab=3)) _ H hs))

def Uj.f (x0:Int) (y0_0:Option Tbs):Option Bool:=(Qv.f y0_0 x0).bind fun ab=>(some (!ab))
theorem Uj.c {pb0:Nat} {w0_0:Value} {y0_0:Option Tbs} (hs:St w0 ρ ((.box pb0 29 ([w0_0]))::Γ) w) {x0:Int} (g0_0:Xw H4 ρ w0_0 y0_0) {r:Bool} (H:Uj.f x0 y0_0=some r):Zq Tryz.prog 40 [.int .i32 x0,.pointer (some ⟨pb0,0,none⟩)] w (fun v w'=>v=.bool r∧St w0 ρ ((.box pb0 29 ([w0_0]))::Γ) w'):=by
 rw [Uj.f] at H
 refine Et Tryz.func40 Tryz.ntmps40 rfl<|Wr fun ae ac=>As rfl<|Ox ac<|Wr fun af ad=>Obx 0 Zp8 hs rfl<|Mv rfl ?_
 obtain ⟨ab,aa,H⟩:=bnd H
 refine Oc rfl (Qv.c hs g0_0 aa) (fun ag w hpost=>?_)
 obtain ⟨rfl,hs⟩:=hpost
 refine Ont rfl<|As rfl<|Ox ad<|Zm ?_
 obtain rfl:=Z4 H
 exact r1 rfl ⟨rfl,hs⟩

def Yp.l1:Nat→Option Tbs→List Int→Int→Option Int
  | 0,_,_,_=>none
  | ab+1,y0_0,x0,aa=>if aa<(x0.length:Int) then (if (0:Int)≤aa∧aa<(x0.length:Int) then ((Uj.f (rd x0 aa) y0_0).bind fun ag=>(if ag=true then (some aa) else ((Yp.l1 ab y0_0 x0) (i64.wrap (aa+1))))) else none) else (some (-1))
def Yp.f (x0:List Int) (y0_0:Option Tbs):Option Int:=Yp.l1 K0 y0_0 x0 0
theorem Yp.c {pb0:Nat} {w0_0:Value} {y0_0:Option Tbs} (hs:St w0 ρ ((.box pb0 29 ([w0_0]))::Γ) w) {v0:Value} {x0:List Int} (h0:SlR (Rep.int .i32) ρ v0 x0) (g0_0:Xw H4 ρ w0_0 y0_0) {r:Int} (H:Yp.f x0 y0_0=some r):Zq Tryz.prog 77 [v0,.func (.func 40) #[] #[.pointer (some ⟨pb0,0,none⟩)]] w (fun v w'=>v=.int .i64 r∧St w0 ρ ((.box pb0 29 ([w0_0]))::Γ) w'):=by
 rw [Yp.f] at H
 refine Et Tryz.func77 Tryz.ntmps77 rfl<|Wr fun ax ai=>As rfl<|Ox ai<|Zi fun ay aj=>Wr fun az ak=>Mv rfl<|O_y rfl (Yx Ua h0 rfl)<|Mv rfl<|Ox ak<|Zl fun a0 al a1=>Xb (σ:=Nat×Int) (fun (ab,aa)=>[(0,v0),(1,.func (.func 40) #[] #[.pointer (some ⟨pb0,0,none⟩)]),(7,.int .i64 (x0.length:Int)),(8,.int .i64 aa)]) (fun (ab,aa) w=>Yp.l1 ab y0_0 x0 aa=some r∧St w0 ρ ((.box pb0 29 ([w0_0]))::Γ) w) (fun s=>s.1) (K0,0) (T4 rfl) (Ai H hs) ?_
 rintro ⟨ab,aa⟩ w a2 ⟨H,hs⟩ ac
 show W _ _ _ _ _ _ [(0,v0),(1,.func (.func 40) #[] #[.pointer (some ⟨pb0,0,none⟩)]),(7,.int .i64 (x0.length:Int)),(8,.int .i64 aa)] w
 cases ab with
 | zero=>rw [Yp.l1] at H;cases H
 | succ ab=>
 rw [Yp.l1] at H
 refine Wr fun a3 am=>Ols rfl<|Ox am<|Zi fun a4 an=>Xa rfl (fun ad=>?_) (fun ad=>?_)
 rw [if_pos ad] at H
 refine Wx an<|Zi fun a5 ao=>Zl fun a6 a7 a8=>Wr fun a9 ap=>Mv rfl<|As rfl<|Ox ap<|Wr fun ba aq=>Mv rfl<|Mv rfl<|Mv rfl ?_
 obtain ⟨ah,H⟩:=gd H
 obtain ⟨bb,bc,ar,au⟩:=h0.ix Kk ah.1 ah.2
 refine O_y rfl (au rfl rfl)<|O_y rfl (Xq Xn rfl (hs.see ar.int)) ?_
 obtain ⟨ag,ae,H⟩:=bnd H
 refine Xs rfl rfl rfl (Uj.c hs g0_0 ae) (fun bd w hpost=>?_)
 obtain ⟨rfl,hs⟩:=hpost
 refine Ox aq<|Xh rfl (fun af=>?_) (fun af=>?_)
 rw [if_pos af] at H
 refine Wr fun be av=>Mv rfl<|As rfl<|Ox av<|W.weak [(4,_)] (S1 rfl)<|Zm ?_
 obtain rfl:=Z4 H
 exact r1 rfl ⟨rfl,hs⟩
 rw [if_neg (bft af)] at H
 refine Wx ao<|Zc<|Oad rfl<|Mv rfl<|Zd (ac (ab,(i64.wrap (aa+1))) _ _ (T4 rfl) (Ai H hs) (Nat.lt_succ_self _))
 rw [if_neg ad] at H
 refine Y5 (al _ _ (aj _ _<|Wr fun bf aw=>As rfl<|Ox aw<|Zm ?_))
 obtain rfl:=Z4 H
 exact r1 rfl ⟨rfl,hs⟩

def Qn.f (x0:List Int) (y0_0:Option Tbs):Option Bool:=(Yp.f x0 y0_0).bind fun ab=>(some (decide (0≤ab)))
theorem Qn.c {pb0:Nat} {w0_0:Value} {y0_0:Option Tbs} (hs:St w0 ρ ((.box pb0 29 ([w0_0]))::Γ) w) {v0:Value} {x0:List Int} (h0:SlR (Rep.int .i32) ρ v0 x0) (g0_0:Xw H4 ρ w0_0 y0_0) {r:Bool} (H:Qn.f x0 y0_0=some r):Zq Tryz.prog 39 [v0,.func (.func 40) #[] #[.pointer (some ⟨pb0,0,none⟩)]] w (fun v w'=>v=.bool r∧St w0 ρ ((.box pb0 29 ([w0_0]))::Γ) w'):=by
 rw [Qn.f] at H
 refine Et Tryz.func39 Tryz.ntmps39 rfl<|Wr fun ae ac=>As rfl<|Ox ac<|Wr fun af ad=>Mv rfl<|Mv rfl ?_
 obtain ⟨ab,aa,H⟩:=bnd H
 refine Oc rfl (Yp.c hs h0 g0_0 aa) (fun ag w hpost=>?_)
 obtain ⟨rfl,hs⟩:=hpost
 refine Oge rfl<|As rfl<|Ox ad<|Zm ?_
 obtain rfl:=Z4 H
 exact r1 rfl ⟨rfl,hs⟩

def Vf.j1 (aa:Bool):Option Bool:=some aa
def Vf.f (x0:Int):Option Bool:=if x0=8204 then (Vf.j1 true) else (Vf.j1 (decide (x0=8205)))
theorem Vf.c (hs:St w0 ρ (Γ) w) {x0:Int} {r:Bool} (H:Vf.f x0=some r):Zq Tryz.prog 129 [.int .i32 x0] w (fun v w'=>v=.bool r∧St w0 ρ Γ w'):=by
 rw [Vf.f] at H
 refine Et Tryz.func129 Tryz.ntmps129 rfl<|Wr fun ah ae=>As rfl<|Ox ae<|Yt fun af ag ac=>?_
 have ad:∀ (aa:Bool) (w:World),Vf.j1 aa=some r→St w0 ρ (Γ) w→af [(2,.bool aa)] w:=by
  intro aa w H hs
  rw [Vf.j1] at H
  refine ag _ _<|Zm ?_
  obtain rfl:=Z4 H
  exact r1 rfl ⟨rfl,hs⟩
 refine Zc<|Mv rfl<|Oeq rfl<|Mv rfl<|X4 (dj:=5) rfl (fun ab=>?_) (fun ab=>?_)
 rw [if_pos ab] at H
 refine On rfl<|On rfl<|Opk rfl<|As rfl<|Zd (ac _ _ _ (S1 rfl) (ad true _ H hs))
 rw [if_neg ab] at H
 refine Oe rfl<|Mv rfl<|Oe rfl<|Oeq rfl<|Opk rfl<|As rfl<|Zd (ac _ _ _ (S1 rfl) (ad (decide (x0=8205)) _ H hs))

def Hy.f (x0:Option Tbs) (x1:Int):Option Bool:=(Qf.f x0 x1).bind fun ab=>(some (decide (ab=9)))
theorem Hy.c (hs:St w0 ρ (Γ) w) {v0:Value} {x0:Option Tbs} (h0:Xw H4 ρ v0 x0) {x1:Int} {r:Bool} (H:Hy.f x0 x1=some r):Zq Tryz.prog 130 [v0,.int .i32 x1] w (fun v w'=>v=.bool r∧St w0 ρ Γ w'):=by
 rw [Hy.f] at H
 refine Et Tryz.func130 Tryz.ntmps130 rfl<|Wr fun ae ac=>As rfl<|Ox ac<|Wr fun af ad=>Mv rfl<|Mv rfl ?_
 obtain ⟨ab,aa,H⟩:=bnd H
 refine Oc rfl (Qf.c hs h0 aa) (fun ag w hpost=>?_)
 obtain ⟨rfl,hs⟩:=hpost
 refine Oeq rfl<|As rfl<|Ox ad<|Zm ?_
 obtain rfl:=Z4 H
 exact r1 rfl ⟨rfl,hs⟩

def Vd.f (x0:Option Tbs) (x1:Int):Option Int:=if ((x0).isNone)=true then (some 0) else (if x0.isSome=true then ((Z1.f (((x0).getD default).join) x1).bind fun aa=>(some aa)) else none)
theorem Vd.c (hs:St w0 ρ (Γ) w) {v0:Value} {x0:Option Tbs} (h0:Xw H4 ρ v0 x0) {x1 r:Int} (H:Vd.f x0 x1=some r):Zq Tryz.prog 163 [v0,.int .i32 x1] w (fun v w'=>v=.int .i64 r∧St w0 ρ Γ w'):=by
 rw [Vd.f] at H
 refine Et Tryz.func163 Tryz.ntmps163 rfl<|Wr fun a0 af=>As rfl<|Ox af<|Zi fun a1 ag=>Wr fun a2 ah=>Mv rfl<|O_y rfl ((h0.eqn Zp9 rfl rfl))<|Ox ah<|Xh rfl (fun ac=>?_) (fun ac=>?_)
 rw [if_pos ac] at H
 refine Wr fun a3 ai=>As rfl<|Ox ai<|Zm ?_
 obtain rfl:=Z4 H
 exact r1 rfl ⟨rfl,hs⟩
 rw [if_neg (bft ac)] at H
 refine Wx ag<|Wr fun a4 aj=>Mv rfl ?_
 obtain ⟨ak,H⟩:=gd H
 obtain ⟨a5,ad,al⟩:=h0.open ak
 obtain ⟨_,⟨a6,a7,a8,a9,ba,bb,bc,bd,be,bf,bg,bh,bi,bj,bk,bl,bm,am,an,ao,ap,aq,rfl,bn,bo,bp,bq,br,bs,bt,bu,bv,bw,bx,bz,b0,b1,ar,b2,b3,au,av,aw,ax,ay⟩,ae⟩:=al
 refine O_y rfl (Vh (congrArg some ad))<|Ofd Zwx rfl<|O_y rfl (Xq Zc5 rfl (hs.see (ae 14 _ rfl)))<|Mv rfl ?_
 obtain ⟨aa,ab,H⟩:=bnd H
 refine Oc rfl (Z1.c hs ar ab) (fun az w hpost=>?_)
 obtain ⟨rfl,hs⟩:=hpost
 refine As rfl<|Ox aj<|Zm ?_
 obtain rfl:=Z4 H
 exact r1 rfl ⟨rfl,hs⟩

def Vo.l1:Nat→Option Tbs→List Int→Int→Option Int
  | 0,_,_,_=>none
  | ab+1,x0,x1,aa=>if 0≤aa then (if (0:Int)≤aa∧aa<(x1.length:Int) then ((Vd.f x0 (rd x1 aa)).bind fun ad=>(if ad≠4 then (some ad) else ((Vo.l1 ab x0 x1) (i64.wrap (aa-1))))) else none) else (some 0)
def Vo.f (x0:Option Tbs) (x1:List Int) (x2:Int):Option Int:=Vo.l1 K0 x0 x1 (i64.wrap (x2-1))
theorem Vo.c (hs:St w0 ρ (Γ) w) {v0:Value} {x0:Option Tbs} (h0:Xw H4 ρ v0 x0) {v1:Value} {x1:List Int} (h1:SlR (Rep.int .i32) ρ v1 x1) {x2 r:Int} (H:Vo.f x0 x1 x2=some r):Zq Tryz.prog 131 [v0,v1,.int .i64 x2] w (fun v w'=>v=.int .i64 r∧St w0 ρ Γ w'):=by
 rw [Vo.f] at H
 refine Et Tryz.func131 Tryz.ntmps131 rfl<|Wr fun ax ai=>As rfl<|Ox ai<|Zi fun ay aj=>Wr fun az ak=>Mv rfl<|Osu rfl<|As rfl<|Ox ak<|Zl fun a0 al a1=>Xb (σ:=Nat×Int) (fun (ab,aa)=>[(0,v0),(1,v1),(2,.int .i64 aa)]) (fun (ab,aa) w=>Vo.l1 ab x0 x1 aa=some r∧St w0 ρ (Γ) w) (fun s=>s.1) (K0,(i64.wrap (x2-1))) (T3 rfl) (Ai H hs) ?_
 rintro ⟨ab,aa⟩ w a2 ⟨H,hs⟩ ac
 show W _ _ _ _ _ _ [(0,v0),(1,v1),(2,.int .i64 aa)] w
 cases ab with
 | zero=>rw [Vo.l1] at H;cases H
 | succ ab=>
 rw [Vo.l1] at H
 refine Zi fun a3 am=>Wr fun a4 an=>Mv rfl<|Oge rfl<|Ox an<|Xa rfl (fun ae=>?_) (fun ae=>?_)
 rw [if_pos ae] at H
 refine Wx am<|Zi fun a5 ao=>Zl fun a6 a7 a8=>Wr fun a9 ap=>Mv rfl<|Mv rfl<|Mv rfl ?_
 obtain ⟨ah,H⟩:=gd H
 obtain ⟨ba,bb,aq,ar⟩:=h1.ix Kk ah.1 ah.2
 refine O_y rfl (ar rfl rfl)<|O_y rfl (Xq Xn rfl (hs.see aq.int)) ?_
 obtain ⟨ad,af,H⟩:=bnd H
 refine Oc rfl (Vd.c hs h0 af) (fun bc w hpost=>?_)
 obtain ⟨rfl,hs⟩:=hpost
 refine As rfl<|Ox ap<|Wr fun bd au=>Mv rfl<|One rfl<|Ox au<|Xa rfl (fun ag=>?_) (fun ag=>?_)
 rw [if_pos ag] at H
 refine Wr fun be av=>Mv rfl<|As rfl<|Ox av<|W.weak [(6,_)] (S1 rfl)<|Zm ?_
 obtain rfl:=Z4 H
 exact r1 rfl ⟨rfl,hs⟩
 rw [if_neg ag] at H
 refine Wx ao<|Zc<|Mv rfl<|Osu rfl<|As rfl<|Zd (ac (ab,(i64.wrap (aa-1))) _ _ (T3 rfl) (Ai H hs) (Nat.lt_succ_self _))
 rw [if_neg ae] at H
 refine Y5 (al _ _ (aj _ _<|Wr fun bf aw=>As rfl<|Ox aw<|Zm ?_))
 obtain rfl:=Z4 H
 exact r1 rfl ⟨rfl,hs⟩

def Vg.l1:Nat→Option Tbs→List Int→Int→Option Int
  | 0,_,_,_=>none
  | ab+1,x0,x1,aa=>if aa<(x1.length:Int) then (if (0:Int)≤aa∧aa<(x1.length:Int) then ((Vd.f x0 (rd x1 aa)).bind fun ad=>(if ad≠4 then (some ad) else ((Vg.l1 ab x0 x1) (i64.wrap (aa+1))))) else none) else (some 0)
def Vg.f (x0:Option Tbs) (x1:List Int) (x2:Int):Option Int:=Vg.l1 K0 x0 x1 (i64.wrap (x2+1))
theorem Vg.c (hs:St w0 ρ (Γ) w) {v0:Value} {x0:Option Tbs} (h0:Xw H4 ρ v0 x0) {v1:Value} {x1:List Int} (h1:SlR (Rep.int .i32) ρ v1 x1) {x2 r:Int} (H:Vg.f x0 x1 x2=some r):Zq Tryz.prog 132 [v0,v1,.int .i64 x2] w (fun v w'=>v=.int .i64 r∧St w0 ρ Γ w'):=by
 rw [Vg.f] at H
 refine Et Tryz.func132 Tryz.ntmps132 rfl<|Wr fun ax ai=>As rfl<|Ox ai<|Zi fun ay aj=>Wr fun az ak=>Mv rfl<|Oad rfl<|As rfl<|Ox ak<|Zl fun a0 al a1=>Xb (σ:=Nat×Int) (fun (ab,aa)=>[(0,v0),(1,v1),(2,.int .i64 aa)]) (fun (ab,aa) w=>Vg.l1 ab x0 x1 aa=some r∧St w0 ρ (Γ) w) (fun s=>s.1) (K0,(i64.wrap (x2+1))) (T3 rfl) (Ai H hs) ?_
 rintro ⟨ab,aa⟩ w a2 ⟨H,hs⟩ ac
 show W _ _ _ _ _ _ [(0,v0),(1,v1),(2,.int .i64 aa)] w
 cases ab with
 | zero=>rw [Vg.l1] at H;cases H
 | succ ab=>
 rw [Vg.l1] at H
 refine Zi fun a3 am=>Wr fun a4 an=>Mv rfl<|Mv rfl<|O_y rfl (Yx Ua h1 rfl)<|Ols rfl<|Ox an<|Xa rfl (fun ae=>?_) (fun ae=>?_)
 rw [if_pos ae] at H
 refine Wx am<|Zi fun a5 ao=>Zl fun a6 a7 a8=>Wr fun a9 ap=>Mv rfl<|Mv rfl<|Mv rfl ?_
 obtain ⟨ah,H⟩:=gd H
 obtain ⟨ba,bb,aq,ar⟩:=h1.ix Kk ah.1 ah.2
 refine O_y rfl (ar rfl rfl)<|O_y rfl (Xq Xn rfl (hs.see aq.int)) ?_
 obtain ⟨ad,af,H⟩:=bnd H
 refine Oc rfl (Vd.c hs h0 af) (fun bc w hpost=>?_)
 obtain ⟨rfl,hs⟩:=hpost
 refine As rfl<|Ox ap<|Wr fun bd au=>Mv rfl<|One rfl<|Ox au<|W.weak [(0,_),(1,_),(2,_),(7,_),(23,_)] sbn ?_
 refine Xa rfl (fun ag=>?_) (fun ag=>?_)
 rw [if_pos ag] at H
 refine Wr fun be av=>Mv rfl<|As rfl<|Ox av<|Zm ?_
 obtain rfl:=Z4 H
 exact r1 rfl ⟨rfl,hs⟩
 rw [if_neg ag] at H
 refine Wx ao<|Zc<|Mv rfl<|Oad rfl<|As rfl<|Zd (ac (ab,(i64.wrap (aa+1))) _ _ (T3 rfl) (Ai H hs) (Nat.lt_succ_self _))
 rw [if_neg ae] at H
 refine Y5 (al _ _ (aj _ _<|Wr fun bf aw=>As rfl<|Ox aw<|Zm ?_))
 obtain rfl:=Z4 H
 exact r1 rfl ⟨rfl,hs⟩

def Yu.j1 (aa:Bool):Option Bool:=some aa
def Yu.j2 (x0:Option Tbs) (x1:List Int) (x2:Int) (ab:Bool):Option Bool:=if ab=true then (some true) else (if (rd x1 x2)=8205 then (some false) else ((Vo.f x0 x1 x2).bind fun ar=>((Vg.f x0 x1 x2).bind fun af=>(if ar=1 then (if af=2 then (Yu.j1 true) else (Yu.j1 (decide (af=3)))) else (if ar=3 then (if af=2 then (Yu.j1 true) else (Yu.j1 (decide (af=3)))) else (Yu.j1 false))))))
def Yu.j3 (x0:Option Tbs) (x1:List Int) (x2:Int) (ac:Bool):Option Bool:=if ac=true then (some false) else (if (0:Int)≤x2∧x2<(x1.length:Int) then ((Vf.f (rd x1 x2)).bind fun a4=>(if (!a4)=true then (some true) else (if 0<x2 then (if (0:Int)≤i64.wrap (x2-1)∧i64.wrap (x2-1)<(x1.length:Int) then ((Hy.f x0 (rd x1 (i64.wrap (x2-1)))).bind fun ag=>(Yu.j2 x0 x1 x2 ag)) else none) else (Yu.j2 x0 x1 x2 false)))) else none)
def Yu.f (x0:Option Tbs) (x1:List Int) (x2:Int):Option Bool:=if x2<0 then (Yu.j3 x0 x1 x2 true) else (Yu.j3 x0 x1 x2 (decide ((x1.length:Int)≤x2)))
theorem Yu.c (hs:St w0 ρ (Γ) w) {v0:Value} {x0:Option Tbs} (h0:Xw H4 ρ v0 x0) {v1:Value} {x1:List Int} (h1:SlR (Rep.int .i32) ρ v1 x1) {x2:Int} {r:Bool} (H:Yu.f x0 x1 x2=some r):Zq Tryz.prog 78 [v0,v1,.int .i64 x2] w (fun v w'=>v=.bool r∧St w0 ρ Γ w'):=by
 rw [Yu.f] at H
 refine Et Tryz.func78 Tryz.ntmps78 rfl<|Wr fun bu a9=>As rfl<|Ox a9<|Zi fun bv ba=>Zl fun bw bx bz=>Yt fun bb bc a5=>?_
 have a6:∀ (ac:Bool) (w:World),Yu.j3 x0 x1 x2 ac=some r→St w0 ρ (Γ) w→bb [(0,v0),(1,v1),(2,.int .i64 x2),(9,.bool ac)] w:=by
  intro ac w H hs
  rw [Yu.j3] at H
  refine bc _ _<|Xh rfl (fun au=>?_) (fun au=>?_)
  rw [if_pos au] at H
  refine Wr fun b0 bd=>As rfl<|Ox bd<|Zm ?_
  obtain rfl:=Z4 H
  exact r1 rfl ⟨rfl,hs⟩
  rw [if_neg (bft au)] at H
  refine Wr fun b1 be=>Mv rfl<|Mv rfl ?_
  obtain ⟨aq,H⟩:=gd H
  obtain ⟨b2,b3,bf,bg⟩:=h1.ix Kk aq.1 aq.2
  refine O_y rfl (bg rfl rfl)<|O_y rfl (Xq Xn rfl (hs.see bf.int)) ?_
  obtain ⟨a4,av,H⟩:=bnd H
  refine Oc rfl (Vf.c hs av) (fun b4 w hpost=>?_)
  obtain ⟨rfl,hs⟩:=hpost
  refine Ont rfl<|As rfl<|Ox be<|Xh rfl (fun aw=>?_) (fun aw=>?_)
  rw [if_pos aw] at H
  refine Wr fun b5 bh=>As rfl<|Ox bh<|Zm ?_
  obtain rfl:=Z4 H
  exact r1 rfl ⟨rfl,hs⟩
  rw [if_neg (bft aw)] at H
  refine Yt fun bi bj a7=>?_
  have a8:∀ (ab:Bool) (w:World),Yu.j2 x0 x1 x2 ab=some r→St w0 ρ (Γ) w→bi [(0,v0),(1,v1),(2,.int .i64 x2),(25,.bool ab)] w:=by
   intro ab w H hs
   rw [Yu.j2] at H
   refine bj _ _<|Xh rfl (fun ax=>?_) (fun ax=>?_)
   rw [if_pos ax] at H
   refine Wr fun b6 bk=>As rfl<|Ox bk<|Zm ?_
   obtain rfl:=Z4 H
   exact r1 rfl ⟨rfl,hs⟩
   rw [if_neg (bft ax)] at H
   refine Wr fun b7 bl=>Mv rfl<|Mv rfl ?_
   obtain ⟨b8,b9,bm,bn⟩:=h1.ix Kk aq.1 aq.2
   refine O_y rfl (bn rfl rfl)<|O_y rfl (Xq Xn rfl (hs.see bm.int))<|Oeq rfl<|As rfl<|Ox bl<|Xa rfl (fun ay=>?_) (fun ay=>?_)
   rw [if_pos ay] at H
   refine Wr fun ca bo=>As rfl<|Ox bo<|Zm ?_
   obtain rfl:=Z4 H
   exact r1 rfl ⟨rfl,hs⟩
   rw [if_neg ay] at H
   refine Wx ba<|Wr fun cb bp=>Mv rfl<|Mv rfl<|Mv rfl ?_
   obtain ⟨ar,az,H⟩:=bnd H
   refine Oc rfl (Vo.c hs h0 h1 az) (fun cc w hpost=>?_)
   obtain ⟨rfl,hs⟩:=hpost
   refine Mv rfl<|Mv rfl<|Mv rfl ?_
   obtain ⟨af,an,H⟩:=bnd H
   refine Oc rfl (Vg.c hs h0 h1 an) (fun bq w hpost=>?_)
   obtain ⟨rfl,hs⟩:=hpost
   refine As rfl<|As rfl<|Ox bp<|W.weak [(7,_),(8,_)] (T2 rfl)<|Yt fun a0 a1 ad=>?_
   have ae:∀ (aa:Bool) (w:World),Yu.j1 aa=some r→St w0 ρ (Γ) w→a0 [(6,.bool aa)] w:=by
    intro aa w H hs
    rw [Yu.j1] at H
    refine a1 _ _<|Zm ?_
    obtain rfl:=Z4 H
    exact r1 rfl ⟨rfl,hs⟩
   refine Zc<|Mv rfl<|Oeq rfl<|Mv rfl<|X4 (dj:=53) rfl (fun ah=>?_) (fun ah=>?_)
   rw [if_pos ah] at H
   refine On rfl<|On rfl<|Opk rfl<|Mv rfl<|Oe rfl<|Mv rfl<|Oe rfl<|Oeq rfl<|Oe rfl<|Mv rfl<|X4 (dj:=60) rfl (fun ai=>?_) (fun ai=>?_)
   rw [if_pos ai] at H
   refine On rfl<|On rfl<|Oe rfl<|Opk rfl<|Opk rfl<|As rfl<|Zd (ad _ _ _ (S1 rfl) (ae true _ H hs))
   rw [if_neg ai] at H
   refine Oe rfl<|Mv rfl<|Oe rfl<|Oeq rfl<|Oe rfl<|Opk rfl<|Opk rfl<|As rfl<|Zd (ad _ _ _ (S1 rfl) (ae (decide (af=3)) _ H hs))
   rw [if_neg ah] at H
   refine Oe rfl<|Mv rfl<|Oe rfl<|Oeq rfl<|Opk rfl<|Mv rfl<|X4 (dj:=57) rfl (fun aj=>?_) (fun aj=>?_)
   rw [if_pos aj] at H
   refine Oe rfl<|Mv rfl<|Oe rfl<|Oeq rfl<|Oe rfl<|Mv rfl<|X4 (dj:=60) rfl (fun ak=>?_) (fun ak=>?_)
   rw [if_pos ak] at H
   refine On rfl<|On rfl<|Oe rfl<|Opk rfl<|Opk rfl<|As rfl<|Zd (ad _ _ _ (S1 rfl) (ae true _ H hs))
   rw [if_neg ak] at H
   refine Oe rfl<|Mv rfl<|Oe rfl<|Oeq rfl<|Oe rfl<|Opk rfl<|Opk rfl<|As rfl<|Zd (ad _ _ _ (S1 rfl) (ae (decide (af=3)) _ H hs))
   rw [if_neg aj] at H
   refine On rfl<|On rfl<|On rfl<|Qx rfl rfl rfl<|Qx rfl rfl rfl<|On rfl<|Opk rfl<|As rfl<|Zd (ad _ _ _ (S1 rfl) (ae false _ H hs))
  refine Zc<|Mv rfl<|Ogt rfl<|Mv rfl<|X4 (dj:=28) rfl (fun al=>?_) (fun al=>?_)
  rw [if_pos al] at H
  refine Oe rfl<|Mv rfl<|Oe rfl<|Mv rfl<|Oe rfl<|Mv rfl<|Oe rfl<|Osu rfl ?_
  obtain ⟨ao,H⟩:=gd H
  obtain ⟨br,bs,a2,a3⟩:=h1.ix Kk ao.1 ao.2
  refine Oe rfl<|O_y rfl (a3 rfl rfl)<|Oe rfl<|O_y rfl (Xq Xn rfl (hs.see a2.int))<|Oe rfl ?_
  obtain ⟨ag,ap,H⟩:=bnd H
  refine Oc rfl (Hy.c hs h0 ap) (fun bt w hpost=>?_)
  obtain ⟨rfl,hs⟩:=hpost
  refine Opk rfl<|As rfl<|Zd (a7 _ _ _ (T4 rfl) (a8 ag _ H hs))
  rw [if_neg al] at H
  refine On rfl<|On rfl<|On rfl<|On rfl<|On rfl<|On rfl<|On rfl<|Opk rfl<|As rfl<|Zd (a7 _ _ _ (T4 rfl) (a8 false _ H hs))
 refine Zc<|Mv rfl<|Ols rfl<|Mv rfl<|X4 (dj:=12) rfl (fun am=>?_) (fun am=>?_)
 rw [if_pos am] at H
 refine On rfl<|On rfl<|On rfl<|On rfl<|Opk rfl<|As rfl<|Zd (a5 _ _ _ (T4 rfl) (a6 true _ H hs))
 rw [if_neg am] at H
 refine Oe rfl<|Mv rfl<|Oe rfl<|Mv rfl<|Oe rfl<|O_y rfl (Yx Ua h1 rfl)<|Oe rfl<|Oge rfl<|Opk rfl<|As rfl<|Zd (a5 _ _ _ (T4 rfl) (a6 (decide ((x1.length:Int)≤x2)) _ H hs))

def J8.l1:Nat→Option Tbs→List Int→Int→Option Int
  | 0,_,_,_=>none
  | ab+1,x0,x1,aa=>if aa<(x1.length:Int) then ((Yu.f x0 x1 aa).bind fun ag=>(if (!ag)=true then (some aa) else ((J8.l1 ab x0 x1) (i64.wrap (aa+1))))) else (some (-1))
def J8.f (x0:Option Tbs) (x1:List Int):Option Int:=J8.l1 K0 x0 x1 0
theorem J8.c (hs:St w0 ρ (Γ) w) {v0:Value} {x0:Option Tbs} (h0:Xw H4 ρ v0 x0) {v1:Value} {x1:List Int} (h1:SlR (Rep.int .i32) ρ v1 x1) {r:Int} (H:J8.f x0 x1=some r):Zq Tryz.prog 41 [v0,v1] w (fun v w'=>v=.int .i64 r∧St w0 ρ Γ w'):=by
 rw [J8.f] at H
 refine Et Tryz.func41 Tryz.ntmps41 rfl<|Wr fun au ah=>As rfl<|Ox ah<|Zi fun av ai=>Wr fun aw aj=>Mv rfl<|O_y rfl (Yx Ua h1 rfl)<|Mv rfl<|Ox aj<|Zl fun ax ak ay=>Xb (σ:=Nat×Int) (fun (ab,aa)=>[(0,v0),(1,v1),(7,.int .i64 (x1.length:Int)),(8,.int .i64 aa)]) (fun (ab,aa) w=>J8.l1 ab x0 x1 aa=some r∧St w0 ρ (Γ) w) (fun s=>s.1) (K0,0) (T4 rfl) (Ai H hs) ?_
 rintro ⟨ab,aa⟩ w az ⟨H,hs⟩ ac
 show W _ _ _ _ _ _ [(0,v0),(1,v1),(7,.int .i64 (x1.length:Int)),(8,.int .i64 aa)] w
 cases ab with
 | zero=>rw [J8.l1] at H;cases H
 | succ ab=>
 rw [J8.l1] at H
 refine Wr fun a0 al=>Ols rfl<|Ox al<|Zi fun a1 am=>Xa rfl (fun ad=>?_) (fun ad=>?_)
 rw [if_pos ad] at H
 refine Wx am<|Zi fun a2 an=>Zl fun a3 a4 a5=>Wr fun a6 ao=>Mv rfl<|As rfl<|Ox ao<|Wr fun a7 ap=>Mv rfl<|Mv rfl<|Mv rfl ?_
 obtain ⟨ag,ae,H⟩:=bnd H
 refine Oc rfl (Yu.c hs h0 h1 ae) (fun a8 w hpost=>?_)
 obtain ⟨rfl,hs⟩:=hpost
 refine Ont rfl<|Ox ap<|Xh rfl (fun af=>?_) (fun af=>?_)
 rw [if_pos af] at H
 refine Wr fun a9 aq=>Mv rfl<|As rfl<|Ox aq<|Zm ?_
 obtain rfl:=Z4 H
 exact r1 rfl ⟨rfl,hs⟩
 rw [if_neg (bft af)] at H
 refine Wx an<|Zc<|Oad rfl<|Mv rfl<|Zd (ac (ab,(i64.wrap (aa+1))) _ _ (T4 rfl) (Ai H hs) (Nat.lt_succ_self _))
 rw [if_neg ad] at H
 refine Y5 (ak _ _ (ai _ _<|Wr fun ba ar=>As rfl<|Ox ar<|Zm ?_))
 obtain rfl:=Z4 H
 exact r1 rfl ⟨rfl,hs⟩

def Qy.j1 (x0:Option Tbs) (x1 aa:List Int):Option (List Int):=(Qn.f x1 x0).bind fun an=>((Xi.f 5 an aa).bind fun ao=>((J8.f x0 x1).bind fun ap=>((Xi.f 6 (decide (0≤ap)) ao).bind fun aq=>(some aq))))
def Qy.f (x0:Option Tbs) (x1:List Int):Option (List Int):=(Zbc.f x0 x1).bind fun b2=>((Xi.f 1 (!b2) ([]:List Int)).bind fun b3=>((Vt.f x1).bind fun b4=>((Xi.f 2 b4 b3).bind fun b5=>((K2.f x1 46).bind fun b6=>((Xi.f 3 b6 b5).bind fun a9=>(if 0<(x1.length:Int) then (if (0:Int)≤0∧0<(x1.length:Int) then ((Qw.f x0 (rd x1 0)).bind fun ar=>((Xi.f 4 ar a9).bind fun ak=>(Qy.j1 x0 x1 ak))) else none) else ((Xi.f 4 false a9).bind fun al=>(Qy.j1 x0 x1 al))))))))
theorem Qy.c (hs:St w0 ρ (Γ) w) {v0:Value} {x0:Option Tbs} (h0:Xw H4 ρ v0 x0) {v1:Value} {x1:List Int} (h1:SlR (Rep.int .i32) ρ v1 x1) {r:List Int} (H:Qy.f x0 x1=some r):Zq Tryz.prog 21 [v0,v1] w (fun v w'=>∃ (ρ':Hp) (v0:Value) (cs0:List Value),v=v0∧Le ρ ρ'∧St w0 ρ' (.row v0 3 (Rep.int .i64).sz r.length cs0::Γ) w'∧Zp (Rep.int .i64) ρ' cs0 r):=by
 rw [Qy.f] at H
 refine Et Tryz.func21 Tryz.ntmps21 rfl<|Wr fun dg cc=>Zcv hs rfl rfl h0.one (fun bb w hs=>As rfl<|Ox cc<|Wr fun dh cd=>Y6 Z0y hs rfl (fun ba w hs=>Ox cd<|Wr fun di ce=>O_y rfl (Hi rfl)<|As rfl ?_))
 refine Ox ce<|Wr fun dk cf=>Mv rfl<|Obx 1 Zp8 hs rfl<|Mv rfl ?_
 obtain ⟨b2,bc,H⟩:=bnd H
 refine Oc rfl (Zbc.c hs h0 h1 bc) (fun dl w hpost=>?_)
 obtain ⟨rfl,hs⟩:=hpost
 refine Ont rfl ?_
 have hs:=hs.rowNil 3 (Rep.int .i64).sz
 have cg:=Zp.nil (Rep.int .i64) ρ
 have hs:=hs.front 1 rfl
 obtain ⟨b3,bd,H⟩:=bnd H
 refine Xs rfl rfl rfl (Xi.c hs cg bd) (fun dm w hpost=>?_)
 obtain ⟨dn,dp,ch,rfl,ae,hs,ci⟩:=hpost
 have hs:=hs.sink 1
 refine Ox cf<|Wr fun dq cj=>Mv rfl<|Mv rfl ?_
 obtain ⟨b4,be,H⟩:=bnd H
 refine Oc rfl (Vt.c hs (h1.mono ae) be) (fun dr w hpost=>?_)
 obtain ⟨rfl,hs⟩:=hpost
 have hs:=hs.front 1 rfl
 obtain ⟨b5,bf,H⟩:=bnd H
 refine Xs rfl rfl rfl (Xi.c hs ci bf) (fun ds w hpost=>?_)
 obtain ⟨dt,du,ck,rfl,af,hs,cl⟩:=hpost
 have hs:=hs.sink 1
 refine Ox cj<|W.weak [(1,_),(2,_),(5,_),(6,_)] (T4 rfl)<|Wr fun dv cm=>Mv rfl<|Mv rfl ?_
 obtain ⟨b6,bg,H⟩:=bnd H
 refine Oc rfl (K2.c hs (h1.mono (ae.trans af)) bg) (fun dw w hpost=>?_)
 obtain ⟨rfl,hs⟩:=hpost
 have hs:=hs.front 1 rfl
 obtain ⟨a9,bh,H⟩:=bnd H
 refine Xs rfl rfl rfl (Xi.c hs cl bh) (fun dx w hpost=>?_)
 obtain ⟨b7,b8,bi,rfl,ag,hs,b9⟩:=hpost
 have hs:=hs.sink 1
 refine Ox cm<|Yt fun bj bk au=>?_
 have av:∀ (aa:List Int) (ab:Value) (ac:List Value) (ah:Hp) (w:World),Qy.j1 x0 x1 aa=some r→Le b7 ah→St w0 ah ((.row ab 3 ((Rep.int .i64).sz) aa.length ac)::(.box ba 56 ([ab]))::(.box bb 29 ([v0]))::Γ) w→Zp (Rep.int .i64) ah ac aa→bj [(1,v1),(2,.pointer (some ⟨bb,0,none⟩)),(5,.pointer (some ⟨ba,0,none⟩)),(6,.func (.func 36) #[] #[.pointer (some ⟨ba,0,none⟩)])] w:=by
  intro aa ab ac ah w H ad hs ai
  rw [Qy.j1] at H
  refine bk _ _<|Wr fun cn bl=>Mv rfl<|Mv rfl<|O_y rfl (Hi rfl) ?_
  have hs:=hs.front 2 rfl
  obtain ⟨an,aw,H⟩:=bnd H
  refine Oc rfl (Qn.c hs (h1.mono (((ae.trans af).trans ag).trans ad)) (h0.mono (((ae.trans af).trans ag).trans ad)) aw) (fun co w hpost=>?_)
  obtain ⟨rfl,hs⟩:=hpost
  have hs:=hs.sink 2
  have hs:=hs.front 1 rfl
  obtain ⟨ao,ax,H⟩:=bnd H
  refine Xs rfl rfl rfl (Xi.c hs ai ax) (fun cp w hpost=>?_)
  obtain ⟨cq,cr,ca,rfl,aj,hs,bm⟩:=hpost
  have hs:=hs.sink 1
  refine Ox bl<|Wr fun cs bn=>Mv rfl<|Obx 2 Zp8 hs rfl<|Mv rfl ?_
  obtain ⟨ap,ay,H⟩:=bnd H
  refine Oc rfl (J8.c hs (h0.mono ((((ae.trans af).trans ag).trans ad).trans aj)) (h1.mono ((((ae.trans af).trans ag).trans ad).trans aj)) ay) (fun ct w hpost=>?_)
  obtain ⟨rfl,hs⟩:=hpost
  refine Oge rfl ?_
  have hs:=hs.front 1 rfl
  obtain ⟨aq,az,H⟩:=bnd H
  refine Xs rfl rfl rfl (Xi.c hs bm az) (fun cu w hpost=>?_)
  obtain ⟨cv,cw,cb,rfl,a0,hs,bo⟩:=hpost
  have hs:=hs.sink 1
  refine Ox bn<|W.weak [(5,_)] (S1 rfl)<|Wr fun cx bp=>Obx 1 Z0m hs rfl<|As rfl<|Ox bp<|Zm ?_
  obtain rfl:=Z4 H
  exact r1 rfl ⟨_,_,_,rfl,(((((ae.trans af).trans ag).trans ad).trans aj).trans a0),(hs.sub (ssc (ssk (ssk ssr)))),bo⟩
 refine Qt 12 [0,0,2,4,8,16,16,80,144,304,528,1537] [2046,4089,4081,4065,2049,3521,3873,3617,3105,1,1,0] [0,0,2,6,14,30,30,94,222,510,1022,2047] [9,10,11] (fun w=>St w0 b7 ((.row b8 3 ((Rep.int .i64).sz) a9.length bi)::(.box ba 56 ([b8]))::(.box bb 29 ([v0]))::Γ) w) Vr (by kernel_rfl) (fun sh=>?_)
 have hs:=hs.drew
 refine Fm 0 sh rfl<|Fm 1 sh rfl<|Fp 2 sh rfl (fun w=>Yx Ua (h1.mono ((ae.trans af).trans ag)) rfl)<|Fp 3 sh rfl (fun w=>Zlq rfl rfl)<|Fm 4 sh rfl<|Za4 (dj:=26) rfl (fun am=>?_) (fun am=>?_)
 rw [if_pos am] at H
 refine Fy 5 sh rfl hs (fun w hs=>Yb 2 Zp8 hs rfl rfl rfl)<|Fp 6 sh rfl (fun w=>Qm rfl) ?_
 obtain ⟨a1,H⟩:=gd H
 obtain ⟨cy,cz,bq,br⟩:=(h1.mono ((ae.trans af).trans ag)).ix Kk a1.1 a1.2
 refine Fp 7 sh rfl (fun w=>br rfl rfl)<|Fy 8 sh rfl hs (fun w hs=>Xq Xn rfl (hs.see bq.int))<|F1 9 sh rfl (fun da bs=>Oe rfl ?_)
 obtain ⟨ar,a2,H⟩:=bnd H
 refine Oc rfl (Qw.c hs (h0.mono ((ae.trans af).trans ag)) a2) (fun db w hpost=>?_)
 obtain ⟨rfl,hs⟩:=hpost
 refine Zd (bs _ _ (fun h _=>absurd h (by decide))<|Kn sh [11] hs (by kernel_rfl)<|Fp 10 sh rfl (fun w=>Ve rfl rfl)<|F1 11 sh rfl (fun dc bt=>?_))
 have hs:=hs.front 1 rfl
 obtain ⟨ak,a3,H⟩:=bnd H
 refine Xs rfl rfl rfl (Xi.c hs b9 a3) (fun dd w hpost=>?_)
 obtain ⟨bu,bv,a4,rfl,a5,hs,bw⟩:=hpost
 have hs:=hs.sink 1
 refine Zd (bt _ _ (fun h _=>absurd h (by decide))<|FE sh (au _ _ _ (T4 rfl) (av ak bv a4 bu _ H a5 hs bw)))
 rw [if_neg am] at H
 refine Fn 5 sh rfl<|Fn 6 sh rfl<|Fn 7 sh rfl<|Fn 8 sh rfl<|Fn 9 sh rfl<|Fp 10 sh rfl (fun w=>Qr rfl rfl)<|F1 11 sh rfl (fun de bx=>?_)
 have hs:=hs.front 1 rfl
 obtain ⟨al,a6,H⟩:=bnd H
 refine Xs rfl rfl rfl (Xi.c hs b9 a6) (fun df w hpost=>?_)
 obtain ⟨bz,b0,a7,rfl,a8,hs,b1⟩:=hpost
 have hs:=hs.sink 1
 refine Zd (bx _ _ (fun h _=>absurd h (by decide))<|FE sh (au _ _ _ (T4 rfl) (av al b0 a7 bz _ H a8 hs b1)))

def Hw.f (x0:List Int):Option Int:=if (x0.length:Int)=0 then (some 0) else (if (0:Int)≤0∧0<(x0.length:Int) then (some (rd x0 0)) else none)
theorem Hw.c (hs:St w0 ρ (Γ) w) {v0:Value} {x0:List Int} (h0:SlR (Rep.int .i64) ρ v0 x0) {r:Int} (H:Hw.f x0=some r):Zq Tryz.prog 31 [v0] w (fun v w'=>v=.int .i64 r∧St w0 ρ Γ w'):=by
 rw [Hw.f] at H
 refine Et Tryz.func31 Tryz.ntmps31 rfl<|Wr fun aj ac=>As rfl<|Ox ac<|Zi fun ak ad=>Wr fun al ae=>Mv rfl<|O_y rfl (Yx Zxb h0 rfl)<|Oeq rfl<|Ox ae<|Xa rfl (fun aa=>?_) (fun aa=>?_)
 rw [if_pos aa] at H
 refine Wr fun am af=>As rfl<|Ox af<|Zm ?_
 obtain rfl:=Z4 H
 exact r1 rfl ⟨rfl,hs⟩
 rw [if_neg aa] at H
 refine Wx ad<|Wr fun an ag=>Mv rfl ?_
 obtain ⟨ab,H⟩:=gd H
 obtain ⟨ao,ap,ah,ai⟩:=h0.ix Zt1 ab.1 ab.2
 refine O_y rfl (ai rfl rfl)<|O_y rfl (Xq ag3 rfl (hs.see ah.int))<|As rfl<|Ox ag<|Zm ?_
 obtain rfl:=Z4 H
 exact r1 rfl ⟨rfl,hs⟩

def Vl.j1 (aa:Bool):Option Bool:=some aa
def Vl.f (x0:Int):Option Bool:=if x0<0 then (Vl.j1 true) else (Vl.j1 (decide (128≤x0)))
theorem Vl.c (hs:St w0 ρ (Γ) w) {x0:Int} {r:Bool} (H:Vl.f x0=some r):Zq Tryz.prog 68 [.int .i32 x0] w (fun v w'=>v=.bool r∧St w0 ρ Γ w'):=by
 rw [Vl.f] at H
 refine Et Tryz.func68 Tryz.ntmps68 rfl<|Wr fun ah ae=>As rfl<|Ox ae<|Yt fun af ag ac=>?_
 have ad:∀ (aa:Bool) (w:World),Vl.j1 aa=some r→St w0 ρ (Γ) w→af [(2,.bool aa)] w:=by
  intro aa w H hs
  rw [Vl.j1] at H
  refine ag _ _<|Zm ?_
  obtain rfl:=Z4 H
  exact r1 rfl ⟨rfl,hs⟩
 refine Zc<|Mv rfl<|Ols rfl<|Mv rfl<|X4 (dj:=5) rfl (fun ab=>?_) (fun ab=>?_)
 rw [if_pos ab] at H
 refine On rfl<|On rfl<|Opk rfl<|As rfl<|Zd (ac _ _ _ (S1 rfl) (ad true _ H hs))
 rw [if_neg ab] at H
 refine Oe rfl<|Mv rfl<|Oe rfl<|Oge rfl<|Opk rfl<|As rfl<|Zd (ac _ _ _ (S1 rfl) (ad (decide (128≤x0)) _ H hs))

def Yq.l1:Nat→List Int→Int→Option Int
  | 0,_,_=>none
  | ab+1,x0,aa=>if aa<(x0.length:Int) then (if (0:Int)≤aa∧aa<(x0.length:Int) then ((Vl.f (rd x0 aa)).bind fun ag=>(if ag=true then (some aa) else ((Yq.l1 ab x0) (i64.wrap (aa+1))))) else none) else (some (-1))
def Yq.f (x0:List Int):Option Int:=Yq.l1 K0 x0 0
theorem Yq.c (hs:St w0 ρ (Γ) w) {v0:Value} {x0:List Int} (h0:SlR (Rep.int .i32) ρ v0 x0) {r:Int} (H:Yq.f x0=some r):Zq Tryz.prog 77 [v0,.func (.func 68) #[] #[]] w (fun v w'=>v=.int .i64 r∧St w0 ρ Γ w'):=by
 rw [Yq.f] at H
 refine Et Tryz.func77 Tryz.ntmps77 rfl<|Wr fun ax ai=>As rfl<|Ox ai<|Zi fun ay aj=>Wr fun az ak=>Mv rfl<|O_y rfl (Yx Ua h0 rfl)<|Mv rfl<|Ox ak<|Zl fun a0 al a1=>Xb (σ:=Nat×Int) (fun (ab,aa)=>[(0,v0),(1,.func (.func 68) #[] #[]),(7,.int .i64 (x0.length:Int)),(8,.int .i64 aa)]) (fun (ab,aa) w=>Yq.l1 ab x0 aa=some r∧St w0 ρ (Γ) w) (fun s=>s.1) (K0,0) (T4 rfl) (Ai H hs) ?_
 rintro ⟨ab,aa⟩ w a2 ⟨H,hs⟩ ac
 show W _ _ _ _ _ _ [(0,v0),(1,.func (.func 68) #[] #[]),(7,.int .i64 (x0.length:Int)),(8,.int .i64 aa)] w
 cases ab with
 | zero=>rw [Yq.l1] at H;cases H
 | succ ab=>
 rw [Yq.l1] at H
 refine Wr fun a3 am=>Ols rfl<|Ox am<|Zi fun a4 an=>Xa rfl (fun ad=>?_) (fun ad=>?_)
 rw [if_pos ad] at H
 refine Wx an<|Zi fun a5 ao=>Zl fun a6 a7 a8=>Wr fun a9 ap=>Mv rfl<|As rfl<|Ox ap<|Wr fun ba aq=>Mv rfl<|Mv rfl<|Mv rfl ?_
 obtain ⟨ah,H⟩:=gd H
 obtain ⟨bb,bc,ar,au⟩:=h0.ix Kk ah.1 ah.2
 refine O_y rfl (au rfl rfl)<|O_y rfl (Xq Xn rfl (hs.see ar.int)) ?_
 obtain ⟨ag,ae,H⟩:=bnd H
 refine Xs rfl rfl rfl (Vl.c hs ae) (fun bd w hpost=>?_)
 obtain ⟨rfl,hs⟩:=hpost
 refine Ox aq<|Xh rfl (fun af=>?_) (fun af=>?_)
 rw [if_pos af] at H
 refine Wr fun be av=>Mv rfl<|As rfl<|Ox av<|W.weak [(4,_)] (S1 rfl)<|Zm ?_
 obtain rfl:=Z4 H
 exact r1 rfl ⟨rfl,hs⟩
 rw [if_neg (bft af)] at H
 refine Wx ao<|Zc<|Oad rfl<|Mv rfl<|Zd (ac (ab,(i64.wrap (aa+1))) _ _ (T4 rfl) (Ai H hs) (Nat.lt_succ_self _))
 rw [if_neg ad] at H
 refine Y5 (al _ _ (aj _ _<|Wr fun bf aw=>As rfl<|Ox aw<|Zm ?_))
 obtain rfl:=Z4 H
 exact r1 rfl ⟨rfl,hs⟩

def Q7.f (x0:List Int):Option Bool:=(Yq.f x0).bind fun ab=>(some (decide (0≤ab)))
theorem Q7.c (hs:St w0 ρ (Γ) w) {v0:Value} {x0:List Int} (h0:SlR (Rep.int .i32) ρ v0 x0) {r:Bool} (H:Q7.f x0=some r):Zq Tryz.prog 39 [v0,.func (.func 68) #[] #[]] w (fun v w'=>v=.bool r∧St w0 ρ Γ w'):=by
 rw [Q7.f] at H
 refine Et Tryz.func39 Tryz.ntmps39 rfl<|Wr fun ae ac=>As rfl<|Ox ac<|Wr fun af ad=>Mv rfl<|Mv rfl ?_
 obtain ⟨ab,aa,H⟩:=bnd H
 refine Oc rfl (Yq.c hs h0 aa) (fun ag w hpost=>?_)
 obtain ⟨rfl,hs⟩:=hpost
 refine Oge rfl<|As rfl<|Ox ad<|Zm ?_
 obtain rfl:=Z4 H
 exact r1 rfl ⟨rfl,hs⟩

def Up.f (x0:List Int):Option Bool:=(Q7.f x0).bind fun ab=>(some (!ab))
theorem Up.c (hs:St w0 ρ (Γ) w) {v0:Value} {x0:List Int} (h0:SlR (Rep.int .i32) ρ v0 x0) {r:Bool} (H:Up.f x0=some r):Zq Tryz.prog 28 [v0] w (fun v w'=>v=.bool r∧St w0 ρ Γ w'):=by
 rw [Up.f] at H
 refine Et Tryz.func28 Tryz.ntmps28 rfl<|Wr fun ae ac=>As rfl<|Ox ac<|Wr fun af ad=>Mv rfl ?_
 obtain ⟨ab,aa,H⟩:=bnd H
 refine Oc rfl (Q7.c hs h0 aa) (fun ag w hpost=>?_)
 obtain ⟨rfl,hs⟩:=hpost
 refine Ont rfl<|As rfl<|Ox ad<|Zm ?_
 obtain rfl:=Z4 H
 exact r1 rfl ⟨rfl,hs⟩

def Uk.f:Option S11:=some (⟨36,1,26,38,700,72,128,45⟩:S11)
theorem Uk.c (hs:St w0 ρ (Γ) w) {r:S11} (H:Uk.f=some r):Zq Tryz.prog 69 [] w (fun v w'=>∃ (ρ':Hp) (cs0:List Value),v=.agg cs0.toArray∧Le ρ ρ'∧St w0 ρ' (Γ) w'∧Zd2.R ρ' cs0 r):=by
 rw [Uk.f] at H
 refine Et Tryz.func69 Tryz.ntmps69 rfl<|Wr fun ac aa=>Y6 Zye hs rfl (fun ad w hs=>Ox aa<|Wr fun ae ab=>O_y rfl (Qg (cs:=[.int .i64 36,.int .i64 1,.int .i64 26,.int .i64 38,.int .i64 700,.int .i64 72,.int .i64 128,.int .u8 45]) Zye Zz4 ((Z3.cons rfl rfl (Z3.cons rfl rfl (Z3.cons rfl rfl (Z3.cons rfl rfl (Z3.cons rfl rfl (Z3.cons rfl rfl (Z3.cons rfl rfl (Z3.cons rfl rfl Z3.nil))))))))) Zyg (by kernel_rfl))<|Ye (i:=0) Zx4 hs rfl rfl rfl rfl rfl (Zb rfl (Zb rfl (Zb rfl (Zb rfl (Zb rfl (Zb rfl (Zb rfl (Zb rfl Ym)))))))) (fun w hs=>Ox ab<|Zm ?_))
 obtain rfl:=Z4 H
 exact Zi2 (i:=0) rfl rfl Zyg Zx4 hs rfl rfl ⟨_,_,rfl,Le.rfl' _,(hs.sub (ssk ssr)),(show Zd2.R ρ _ (⟨36,1,26,38,700,72,128,45⟩:S11) from rfl)⟩

def Z8.l1:Nat→ByteArray→Int→Int→Option Int
  | 0,_,_,_=>none
  | ab+1,x0,x1,aa=>if 0≤aa then (if (0:Int)≤aa∧aa<(x0.size:Int) then (if (bt x0 aa)=x1 then (some aa) else ((Z8.l1 ab x0 x1) (i64.wrap (aa-1)))) else none) else (some (-1))
def Z8.f (x0:ByteArray) (x1:Int):Option Int:=Z8.l1 K0 x0 x1 (i64.wrap ((x0.size:Int)-1))
theorem Z8.c (hs:St w0 ρ (Γ) w) {x0:ByteArray} {x1 r:Int} (H:Z8.f x0 x1=some r):Zq Tryz.prog 159 [.string x0,.int .u8 x1] w (fun v w'=>v=.int .i64 r∧St w0 ρ Γ w'):=by
 rw [Z8.f] at H
 refine Et Tryz.func159 Tryz.ntmps159 rfl<|Wr fun aq ag=>As rfl<|Ox ag<|Zi fun ar ah=>Wr fun au ai=>Mv rfl<|O_y rfl (Zee un9 rfl)<|Osu rfl<|As rfl<|Ox ai<|Zl fun av aj aw=>?_
 refine Xb (σ:=Nat×Int) (fun (ab,aa)=>[(0,.string x0),(1,.int .u8 x1),(5,.int .i64 aa)]) (fun (ab,aa) w=>Z8.l1 ab x0 x1 aa=some r∧St w0 ρ (Γ) w) (fun s=>s.1) (K0,(i64.wrap ((x0.size:Int)-1))) (T3 rfl) (Ai H hs) ?_
 rintro ⟨ab,aa⟩ w ax ⟨H,hs⟩ ac
 show W _ _ _ _ _ _ [(0,.string x0),(1,.int .u8 x1),(5,.int .i64 aa)] w
 cases ab with
 | zero=>rw [Z8.l1] at H;cases H
 | succ ab=>
 rw [Z8.l1] at H
 refine Zi fun ay ak=>Wr fun az al=>Mv rfl<|Oge rfl<|Ox al<|Xa rfl (fun ad=>?_) (fun ad=>?_)
 rw [if_pos ad] at H
 refine Wx ak<|Zi fun a0 am=>Zl fun a1 a2 a3=>Wr fun a4 an=>Mv rfl<|Mv rfl ?_
 obtain ⟨af,H⟩:=gd H
 refine O_y rfl (Zun un9 rfl rfl af.1 af.2)<|Mv rfl<|Oeq rfl<|Ox an<|Xa rfl (fun ae=>?_) (fun ae=>?_)
 rw [if_pos ae] at H
 refine Wr fun a5 ao=>Mv rfl<|As rfl<|Ox ao<|Zm ?_
 obtain rfl:=Z4 H
 exact r1 rfl ⟨rfl,hs⟩
 rw [if_neg ae] at H
 refine Wx am<|Zc<|Mv rfl<|Osu rfl<|As rfl<|Zd (ac (ab,(i64.wrap (aa-1))) _ _ (T3 rfl) (Ai H hs) (Nat.lt_succ_self _))
 rw [if_neg ad] at H
 refine Y5 (aj _ _ (ah _ _<|Wr fun a6 ap=>As rfl<|Ox ap<|Zm ?_))
 obtain rfl:=Z4 H
 exact r1 rfl ⟨rfl,hs⟩

def Kt.f (x0:ByteArray) (x1:Int):Option Int:=(Z8.f x0 x1).bind fun ab=>(some ab)
theorem Kt.c (hs:St w0 ρ (Γ) w) {x0:ByteArray} {x1 r:Int} (H:Kt.f x0 x1=some r):Zq Tryz.prog 124 [.string x0,.int .u8 x1] w (fun v w'=>v=.int .i64 r∧St w0 ρ Γ w'):=by
 rw [Kt.f] at H
 refine Et Tryz.func124 Tryz.ntmps124 rfl<|Wr fun ae ac=>As rfl<|Ox ac<|Wr fun af ad=>Mv rfl<|Mv rfl ?_
 obtain ⟨ab,aa,H⟩:=bnd H
 refine Oc rfl (Z8.c hs aa) (fun ag w hpost=>?_)
 obtain ⟨rfl,hs⟩:=hpost
 refine As rfl<|Ox ad<|Zm ?_
 obtain rfl:=Z4 H
 exact r1 rfl ⟨rfl,hs⟩

def Yw.j1:Option (Int×Int):=none
def Yw.l1:Nat→List Int→Option (Int×Int)
  | 0,_=>none
  | aa+1,x0=>if 0<(x0.length:Int) then (if (0:Int)≤0∧0<(x0.length:Int) then (if (rd x0 0)<128 then (some (i32.wrap (rd x0 0),1)) else (Yw.j1 )) else none) else (Yw.j1 )
def Yw.f (x0:List Int):Option (Int×Int):=Yw.l1 K0 x0 
theorem Yw.c (hs:St w0 ρ (Γ) w) {v0:Value} {x0:List Int} (h0:SlR (Rep.int .u8) ρ v0 x0) {r:Int×Int} (H:Yw.f x0=some r):Zq Tryz.prog 174 [v0] w (fun v w'=>v=.tuple #[.int .i32 r.1,.int .i64 r.2]∧St w0 ρ Γ w'):=by
 rw [Yw.f] at H
 refine Et Tryz.func174 Tryz.ntmps174 rfl<|Wr fun ax ai=>As rfl<|As rfl<|Ox ai<|Yt fun aj ak ae=>?_
 have af:∀ (w:World),Yw.j1=some r→St w0 ρ (Γ) w→aj [(0,v0)] w:=by
  intro w H hs
  rw [Yw.j1] at H
  refine ak _ _<|Wr fun ay az=>Mv rfl ?_
  cases H
 refine Wr fun a0 al=>Mv rfl<|O_y rfl (Yx Zor h0 rfl)<|Mv rfl<|Ox al<|Zl fun a1 ag a2=>Xb (σ:=Nat) (fun aa=>[(0,v0),(6,v0),(7,.int .i64 (x0.length:Int)),(8,.int .i64 0)]) (fun aa w=>Yw.l1 aa x0=some r∧St w0 ρ (Γ) w) (fun s=>s) (K0) (T4 rfl) (Ai H hs) ?_
 rintro aa w a3 ⟨H,hs⟩ ab
 show W _ _ _ _ _ _ [(0,v0),(6,v0),(7,.int .i64 (x0.length:Int)),(8,.int .i64 0)] w
 cases aa with
 | zero=>rw [Yw.l1] at H;cases H
 | succ aa=>
 rw [Yw.l1] at H
 refine Wr fun a4 am=>Ols rfl<|Ox am<|Zi fun a5 an=>Xa rfl (fun ac=>?_) (fun ac=>?_)
 rw [if_pos ac] at H
 refine Wx an<|Zi fun a6 a7=>Zl fun a8 a9 ao=>Zi fun ba ap=>Zc ?_
 obtain ⟨ah,H⟩:=gd H
 obtain ⟨bb,bc,aq,ar⟩:=h0.ix Zii ah.1 ah.2
 refine O_y rfl (ar rfl rfl)<|O_y rfl (Xq ag5 rfl (hs.see aq.int))<|As rfl<|Ox ap<|Zi fun bd au=>Wr fun be av=>Mv rfl<|Ols rfl<|Ox av<|Xa rfl (fun ad=>?_) (fun ad=>?_)
 rw [if_pos ad] at H
 refine Wr fun bf aw=>Mv rfl<|O_y rfl (Uc un5 Za8 rfl)<|As rfl<|As rfl<|Ox aw<|Zm ?_
 obtain rfl:=Z4 H
 exact Zb4 rfl rfl rfl ⟨rfl,hs⟩
 rw [if_neg ad] at H
 refine Wx au<|Y5 (ao _ _ _ rfl (ag _ _ (ae _ _ _ (S1 rfl) (af _ H hs))))
 rw [if_neg ac] at H
 exact Y5 (ag _ _ (ae _ _ _ (S1 rfl) (af _ H hs)))

def Xv.j1 (aa:Bool):Option Bool:=some aa
def Xv.f (x0:S11) (x1:Int):Option Bool:=if (i64.wrap x1)<x0.first then (Xv.j1 (decide (x1<128))) else (Xv.j1 false)
theorem Xv.c (hs:St w0 ρ (Γ) w) {c0:List Value} {x0:S11} (h0:Zd2.R ρ c0 x0) {x1:Int} {r:Bool} (H:Xv.f x0 x1=some r):Zq Tryz.prog 120 [.agg c0.toArray,.int .i32 x1] w (fun v w'=>v=.bool r∧St w0 ρ Γ w'):=by
 rw [Xv.f] at H
 refine Et Tryz.func120 Tryz.ntmps120 rfl ?_
 have ae:=h0
 obtain rfl:=ae
 refine Wr fun aj af=>Vn (cs:=[.int .i64 x0.base,.int .i64 x0.least,.int .i64 x0.most,.int .i64 x0.skew,.int .i64 x0.damp,.int .i64 x0.bias,.int .i64 x0.first,.int .u8 x0.between]) hs rfl rfl (fun ag w hs=>As rfl<|Ox af<|Yt fun ah ai ac=>?_)
 have ad:∀ (aa:Bool) (w:World),Xv.j1 aa=some r→St w0 ρ ((.box ag 117 ([.int .i64 x0.base,.int .i64 x0.least,.int .i64 x0.most,.int .i64 x0.skew,.int .i64 x0.damp,.int .i64 x0.bias,.int .i64 x0.first,.int .u8 x0.between]))::Γ) w→ah [(4,.bool aa)] w:=by
  intro aa w H hs
  rw [Xv.j1] at H
  refine ai _ _<|Zm ?_
  obtain rfl:=Z4 H
  exact r1 rfl ⟨rfl,(hs.sub (ssk ssr))⟩
 refine Zc<|Mv rfl<|O_y rfl (Uc Za8 un3 rfl)<|Ofd Zio rfl<|Obx 0 ag3 hs rfl<|Ols rfl<|Mv rfl<|X4 (dj:=10) rfl (fun ab=>?_) (fun ab=>?_)
 rw [if_pos ab] at H
 refine Oe rfl<|Mv rfl<|Oe rfl<|Ols rfl<|Opk rfl<|As rfl<|Zd (ac _ _ _ (S1 rfl) (ad (decide (x1<128)) _ H hs))
 rw [if_neg ab] at H
 refine On rfl<|On rfl<|Opk rfl<|As rfl<|Zd (ac _ _ _ (S1 rfl) (ad false _ H hs))

def Vi.f (x0 y0_0 y0_1 y0_2 y0_3 y0_4 y0_5 y0_6 y0_7:Int):Option Bool:=(Xv.f (⟨y0_0,y0_1,y0_2,y0_3,y0_4,y0_5,y0_6,y0_7⟩:S11) x0).bind fun ab=>(some (!ab))
theorem Vi.c {pb0:Nat} {y0_0 y0_1 y0_2 y0_3 y0_4 y0_5 y0_6 y0_7:Int} (hs:St w0 ρ ((.box pb0 117 ([.int .i64 y0_0,.int .i64 y0_1,.int .i64 y0_2,.int .i64 y0_3,.int .i64 y0_4,.int .i64 y0_5,.int .i64 y0_6,.int .u8 y0_7]))::Γ) w) {x0:Int} {r:Bool} (H:Vi.f x0 y0_0 y0_1 y0_2 y0_3 y0_4 y0_5 y0_6 y0_7=some r):Zq Tryz.prog 126 [.int .i32 x0,.pointer (some ⟨pb0,0,none⟩)] w (fun v w'=>v=.bool r∧St w0 ρ ((.box pb0 117 ([.int .i64 y0_0,.int .i64 y0_1,.int .i64 y0_2,.int .i64 y0_3,.int .i64 y0_4,.int .i64 y0_5,.int .i64 y0_6,.int .u8 y0_7]))::Γ) w'):=by
 rw [Vi.f] at H
 refine Et Tryz.func126 Tryz.ntmps126 rfl<|Wr fun ae ac=>As rfl<|Ox ac<|Wr fun af ad=>O_y rfl (Xl (i:=0) Zdr Zdz hs rfl rfl rfl rfl)<|Mv rfl ?_
 obtain ⟨ab,aa,H⟩:=bnd H
 refine Oc rfl (Xv.c hs (show Zd2.R ρ _ (⟨y0_0,y0_1,y0_2,y0_3,y0_4,y0_5,y0_6,y0_7⟩:S11) from rfl) aa) (fun ag w hpost=>?_)
 obtain ⟨rfl,hs⟩:=hpost
 refine Ont rfl<|As rfl<|Ox ad<|Zm ?_
 obtain rfl:=Z4 H
 exact r1 rfl ⟨rfl,hs⟩

end Go.Proofs.YthoicbafdanmkaaGreatDoor
/- Written by this repo's gen.py: for each Go function a Lean function with the same answers and the walk that shows it. -/
namespace Go.Proofs.YthoicbafdanmkaaGreatDoor
open Go.IntKind (i8 i16 i32 i64 u8 u16 u32 u64)
open Go.RowKit
set_option maxRecDepth 100000
set_option maxHeartbeats 4000000
variable {w0 w:World} {ρ:Hp} {Γ:List Kd}
set_option linter.unusedVariables false
def X5.l1:Nat→Int→Int→Int→Int→Int→Int→Int→Int→List Int→Bool→Int→Option Int
  | 0,_,_,_,_,_,_,_,_,_,_,_=>none
  | ab+1,y0_0,y0_1,y0_2,y0_3,y0_4,y0_5,y0_6,y0_7,x0,x2,aa=>if aa<(x0.length:Int) then (if (0:Int)≤aa∧aa≤(x0.length:Int)∧(x0.length:Int)≤(x0.length:Int) then ((Yw.f (sub x0 aa (x0.length:Int))).bind fun ad=>((Vi.f ad.1 y0_0 y0_1 y0_2 y0_3 y0_4 y0_5 y0_6 y0_7).bind fun aj=>(if (aj == x2)=true then (some aa) else ((X5.l1 ab y0_0 y0_1 y0_2 y0_3 y0_4 y0_5 y0_6 y0_7 x0 x2) (i64.wrap (aa+ad.2)))))) else none) else (some (-1))
def X5.f (x0:List Int) (x2:Bool) (y0_0 y0_1 y0_2 y0_3 y0_4 y0_5 y0_6 y0_7:Int):Option Int:=X5.l1 K0 y0_0 y0_1 y0_2 y0_3 y0_4 y0_5 y0_6 y0_7 x0 x2 0
theorem X5.c {pb0:Nat} {y0_0 y0_1 y0_2 y0_3 y0_4 y0_5 y0_6 y0_7:Int} (hs:St w0 ρ ((.box pb0 117 ([.int .i64 y0_0,.int .i64 y0_1,.int .i64 y0_2,.int .i64 y0_3,.int .i64 y0_4,.int .i64 y0_5,.int .i64 y0_6,.int .u8 y0_7]))::Γ) w) {v0:Value} {x0:List Int} (h0:SlR (Rep.int .u8) ρ v0 x0) {x2:Bool} {r:Int} (H:X5.f x0 x2 y0_0 y0_1 y0_2 y0_3 y0_4 y0_5 y0_6 y0_7=some r):Zq Tryz.prog 160 [v0,.func (.func 126) #[] #[.pointer (some ⟨pb0,0,none⟩)],.bool x2] w (fun v w'=>v=.int .i64 r∧St w0 ρ ((.box pb0 117 ([.int .i64 y0_0,.int .i64 y0_1,.int .i64 y0_2,.int .i64 y0_3,.int .i64 y0_4,.int .i64 y0_5,.int .i64 y0_6,.int .u8 y0_7]))::Γ) w'):=by
 rw [X5.f] at H
 refine Et Tryz.func160 Tryz.ntmps160 rfl<|Wr fun az ak=>As rfl<|Ox ak<|Wr fun a0 al=>As rfl<|Ox al<|Zi fun a1 am=>Zl fun a2 an a3=>Xb (σ:=Nat×Int) (fun (ab,aa)=>[(0,v0),(1,.func (.func 126) #[] #[.pointer (some ⟨pb0,0,none⟩)]),(2,.bool x2),(7,.int .i64 aa)]) (fun (ab,aa) w=>X5.l1 ab y0_0 y0_1 y0_2 y0_3 y0_4 y0_5 y0_6 y0_7 x0 x2 aa=some r∧St w0 ρ ((.box pb0 117 ([.int .i64 y0_0,.int .i64 y0_1,.int .i64 y0_2,.int .i64 y0_3,.int .i64 y0_4,.int .i64 y0_5,.int .i64 y0_6,.int .u8 y0_7]))::Γ) w) (fun s=>s.1) (K0,0) (T4 rfl) (Ai H hs) ?_
 rintro ⟨ab,aa⟩ w a4 ⟨H,hs⟩ ac
 show W _ _ _ _ _ _ [(0,v0),(1,.func (.func 126) #[] #[.pointer (some ⟨pb0,0,none⟩)]),(2,.bool x2),(7,.int .i64 aa)] w
 cases ab with
 | zero=>rw [X5.l1] at H;cases H
 | succ ab=>
 rw [X5.l1] at H
 refine Zi fun a5 ao=>Wr fun a6 ap=>Mv rfl<|Mv rfl<|O_y rfl (Yx Zor h0 rfl)<|Ols rfl<|Ox ap<|Xa rfl (fun ae=>?_) (fun ae=>?_)
 rw [if_pos ae] at H
 refine Wx ao<|Zl fun a7 a8 a9=>Wr fun ba aq=>Mv rfl<|Mv rfl ?_
 obtain ⟨af,H⟩:=gd H
 obtain ⟨bb,ar,au⟩:=h0.cut Zii af.1 af.2.1 af.2.2
 refine O_y rfl (au rfl (.inr ⟨_,_,rfl,rfl⟩) (.inl ⟨rfl,rfl⟩)) ?_
 obtain ⟨ad,ag,H⟩:=bnd H
 refine Oc rfl (Yw.c hs ar ag) (fun bc w hpost=>?_)
 obtain ⟨rfl,hs⟩:=hpost
 refine Mv rfl<|Oxt rfl<|Oxt rfl<|As rfl<|As rfl<|Ox aq<|W.weak [(0,_),(1,_),(2,_),(7,_),(8,_),(9,_)] sbn ?_
 refine Zi fun bd av=>Wr fun be aw=>Mv rfl<|Mv rfl ?_
 obtain ⟨aj,ah,H⟩:=bnd H
 refine Xs rfl rfl rfl (Vi.c hs ah) (fun bf w hpost=>?_)
 obtain ⟨rfl,hs⟩:=hpost
 refine Mv rfl<|O_y rfl (Zyz un4 rfl rfl)<|Ox aw<|Xh rfl (fun ai=>?_) (fun ai=>?_)
 rw [if_pos ai] at H
 refine Wr fun bg ax=>Mv rfl<|As rfl<|Ox ax<|Zm ?_
 obtain rfl:=Z4 H
 exact r1 rfl ⟨rfl,hs⟩
 rw [if_neg (bft ai)] at H
 refine Wx av<|Zc<|Mv rfl<|Mv rfl<|Oad rfl<|As rfl<|Zd (ac (ab,(i64.wrap (aa+ad.2))) _ _ (T4 rfl) (Ai H hs) (Nat.lt_succ_self _))
 rw [if_neg ae] at H
 refine Y5 (an _ _ (am _ _<|Wr fun bh ay=>As rfl<|Ox ay<|Zm ?_))
 obtain rfl:=Z4 H
 exact r1 rfl ⟨rfl,hs⟩

def Vx.f (x0:List Int) (y0_0 y0_1 y0_2 y0_3 y0_4 y0_5 y0_6 y0_7:Int):Option Int:=(X5.f x0 true y0_0 y0_1 y0_2 y0_3 y0_4 y0_5 y0_6 y0_7).bind fun ab=>(some ab)
theorem Vx.c {pb0:Nat} {y0_0 y0_1 y0_2 y0_3 y0_4 y0_5 y0_6 y0_7:Int} (hs:St w0 ρ ((.box pb0 117 ([.int .i64 y0_0,.int .i64 y0_1,.int .i64 y0_2,.int .i64 y0_3,.int .i64 y0_4,.int .i64 y0_5,.int .i64 y0_6,.int .u8 y0_7]))::Γ) w) {v0:Value} {x0:List Int} (h0:SlR (Rep.int .u8) ρ v0 x0) {r:Int} (H:Vx.f x0 y0_0 y0_1 y0_2 y0_3 y0_4 y0_5 y0_6 y0_7=some r):Zq Tryz.prog 125 [v0,.func (.func 126) #[] #[.pointer (some ⟨pb0,0,none⟩)]] w (fun v w'=>v=.int .i64 r∧St w0 ρ ((.box pb0 117 ([.int .i64 y0_0,.int .i64 y0_1,.int .i64 y0_2,.int .i64 y0_3,.int .i64 y0_4,.int .i64 y0_5,.int .i64 y0_6,.int .u8 y0_7]))::Γ) w'):=by
 rw [Vx.f] at H
 refine Et Tryz.func125 Tryz.ntmps125 rfl<|Wr fun ae ac=>As rfl<|Ox ac<|Wr fun af ad=>Mv rfl<|Mv rfl ?_
 obtain ⟨ab,aa,H⟩:=bnd H
 refine Oc rfl (X5.c hs h0 aa) (fun ag w hpost=>?_)
 obtain ⟨rfl,hs⟩:=hpost
 refine As rfl<|Ox ad<|Zm ?_
 obtain rfl:=Z4 H
 exact r1 rfl ⟨rfl,hs⟩

def Kh.j1 (x0:Int) (aa:Bool):Option Int:=if aa=true then (some (i64.wrap ((i64.wrap (u8.wrap (x0-48)))+26))) else (some (-1))
def Kh.j2 (x0:Int) (ab:Bool):Option Int:=if ab=true then (some (i64.wrap (u8.wrap (x0-65)))) else (if 48≤x0 then (Kh.j1 x0 (decide (x0≤57))) else (Kh.j1 x0 false))
def Kh.j3 (x0:Int) (ac:Bool):Option Int:=if ac=true then (some (i64.wrap (u8.wrap (x0-97)))) else (if 65≤x0 then (Kh.j2 x0 (decide (x0≤90))) else (Kh.j2 x0 false))
def Kh.f (x0:Int):Option Int:=if 97≤x0 then (Kh.j3 x0 (decide (x0≤122))) else (Kh.j3 x0 false)
theorem Kh.c (hs:St w0 ρ (Γ) w) {x0 r:Int} (H:Kh.f x0=some r):Zq Tryz.prog 183 [.int .u8 x0] w (fun v w'=>v=.int .i64 r∧St w0 ρ Γ w'):=by
 rw [Kh.f] at H
 refine Et Tryz.func183 Tryz.ntmps183 rfl<|Wr fun a3 ap=>As rfl<|Ox ap<|Zi fun a4 aq=>Zl fun a5 a6 a7=>Yt fun ar au aj=>?_
 have ak:∀ (ac:Bool) (w:World),Kh.j3 x0 ac=some r→St w0 ρ (Γ) w→ar [(0,.int .u8 x0),(3,.bool ac)] w:=by
  intro ac w H hs
  rw [Kh.j3] at H
  refine au _ _<|Xh rfl (fun ad=>?_) (fun ad=>?_)
  rw [if_pos ad] at H
  refine Wr fun a8 av=>Mv rfl<|Osu rfl<|O_y rfl (Uc un5 un3 rfl)<|As rfl<|Ox av<|Zm ?_
  obtain rfl:=Z4 H
  exact r1 rfl ⟨rfl,hs⟩
  rw [if_neg (bft ad)] at H
  refine Yt fun aw ax al=>?_
  have am:∀ (ab:Bool) (w:World),Kh.j2 x0 ab=some r→St w0 ρ (Γ) w→aw [(0,.int .u8 x0),(13,.bool ab)] w:=by
   intro ab w H hs
   rw [Kh.j2] at H
   refine ax _ _<|Xh rfl (fun ae=>?_) (fun ae=>?_)
   rw [if_pos ae] at H
   refine Wr fun a9 ay=>Mv rfl<|Osu rfl<|O_y rfl (Uc un5 un3 rfl)<|As rfl<|Ox ay<|Zm ?_
   obtain rfl:=Z4 H
   exact r1 rfl ⟨rfl,hs⟩
   rw [if_neg (bft ae)] at H
   refine Yt fun az a0 an=>?_
   have ao:∀ (aa:Bool) (w:World),Kh.j1 x0 aa=some r→St w0 ρ (Γ) w→az [(0,.int .u8 x0),(23,.bool aa)] w:=by
    intro aa w H hs
    rw [Kh.j1] at H
    refine a0 _ _<|Xh rfl (fun af=>?_) (fun af=>?_)
    rw [if_pos af] at H
    refine Wr fun ba a1=>Mv rfl<|Osu rfl<|O_y rfl (Uc un5 un3 rfl)<|Oad rfl<|As rfl<|Ox a1<|Zm ?_
    obtain rfl:=Z4 H
    exact r1 rfl ⟨rfl,hs⟩
    rw [if_neg (bft af)] at H
    refine Wx aq<|Wr fun bb a2=>As rfl<|Ox a2<|Zm ?_
    obtain rfl:=Z4 H
    exact r1 rfl ⟨rfl,hs⟩
   refine Zc<|Mv rfl<|Oge rfl<|Mv rfl<|X4 (dj:=26) rfl (fun ag=>?_) (fun ag=>?_)
   rw [if_pos ag] at H
   refine Oe rfl<|Mv rfl<|Oe rfl<|Ole rfl<|Opk rfl<|As rfl<|Zd (an _ _ _ (T2 rfl) (ao (decide (x0≤57)) _ H hs))
   rw [if_neg ag] at H
   refine On rfl<|On rfl<|Opk rfl<|As rfl<|Zd (an _ _ _ (T2 rfl) (ao false _ H hs))
  refine Zc<|Mv rfl<|Oge rfl<|Mv rfl<|X4 (dj:=16) rfl (fun ah=>?_) (fun ah=>?_)
  rw [if_pos ah] at H
  refine Oe rfl<|Mv rfl<|Oe rfl<|Ole rfl<|Opk rfl<|As rfl<|Zd (al _ _ _ (T2 rfl) (am (decide (x0≤90)) _ H hs))
  rw [if_neg ah] at H
  refine On rfl<|On rfl<|Opk rfl<|As rfl<|Zd (al _ _ _ (T2 rfl) (am false _ H hs))
 refine Zc<|Mv rfl<|Oge rfl<|Mv rfl<|X4 (dj:=6) rfl (fun ai=>?_) (fun ai=>?_)
 rw [if_pos ai] at H
 refine Oe rfl<|Mv rfl<|Oe rfl<|Ole rfl<|Opk rfl<|As rfl<|Zd (aj _ _ _ (T2 rfl) (ak (decide (x0≤122)) _ H hs))
 rw [if_neg ai] at H
 refine On rfl<|On rfl<|Opk rfl<|As rfl<|Zd (aj _ _ _ (T2 rfl) (ak false _ H hs))

def V5.f (x0:S11) (x1:Int):Option Int:=(Kh.f x1).bind fun aa=>(if aa<x0.base then (some aa) else (some (-1)))
theorem V5.c (hs:St w0 ρ (Γ) w) {c0:List Value} {x0:S11} (h0:Zd2.R ρ c0 x0) {x1 r:Int} (H:V5.f x0 x1=some r):Zq Tryz.prog 175 [.agg c0.toArray,.int .u8 x1] w (fun v w'=>v=.int .i64 r∧St w0 ρ Γ w'):=by
 rw [V5.f] at H
 refine Et Tryz.func175 Tryz.ntmps175 rfl ?_
 have ad:=h0
 obtain rfl:=ad
 refine Wr fun ak ae=>Vn (cs:=[.int .i64 x0.base,.int .i64 x0.least,.int .i64 x0.most,.int .i64 x0.skew,.int .i64 x0.damp,.int .i64 x0.bias,.int .i64 x0.first,.int .u8 x0.between]) hs rfl rfl (fun al w hs=>As rfl<|Ox ae<|Zi fun am af=>Wr fun an ag=>Mv rfl ?_)
 obtain ⟨aa,ab,H⟩:=bnd H
 refine Oc rfl (Kh.c hs ab) (fun ao w hpost=>?_)
 obtain ⟨rfl,hs⟩:=hpost
 refine As rfl<|Ox ag<|Wr fun ap ah=>Mv rfl<|Ofd Zbt rfl<|Obx 0 ag3 hs rfl<|Ols rfl<|Ox ah<|Xa rfl (fun ac=>?_) (fun ac=>?_)
 rw [if_pos ac] at H
 refine Wr fun aq ai=>Mv rfl<|As rfl<|Ox ai<|Zm ?_
 obtain rfl:=Z4 H
 exact r1 rfl ⟨rfl,(hs.sub (ssk ssr))⟩
 rw [if_neg ac] at H
 refine Wx af<|Wr fun ar aj=>As rfl<|Ox aj<|Zm ?_
 obtain rfl:=Z4 H
 exact r1 rfl ⟨rfl,(hs.sub (ssk ssr))⟩

def Kl.f (x0:S11) (x1 x2:Int):Option Int:=some (min (max (i64.wrap (x1-x2)) x0.least) x0.most)
theorem Kl.c (hs:St w0 ρ (Γ) w) {c0:List Value} {x0:S11} (h0:Zd2.R ρ c0 x0) {x1 x2 r:Int} (H:Kl.f x0 x1 x2=some r):Zq Tryz.prog 157 [.agg c0.toArray,.int .i64 x1,.int .i64 x2] w (fun v w'=>v=.int .i64 r∧St w0 ρ Γ w'):=by
 rw [Kl.f] at H
 refine Et Tryz.func157 Tryz.ntmps157 rfl ?_
 have aa:=h0
 obtain rfl:=aa
 refine Wr fun ad ab=>Vn (cs:=[.int .i64 x0.base,.int .i64 x0.least,.int .i64 x0.most,.int .i64 x0.skew,.int .i64 x0.damp,.int .i64 x0.bias,.int .i64 x0.first,.int .u8 x0.between]) hs rfl rfl (fun ae w hs=>As rfl<|Ox ab<|Wr fun af ac=>Mv rfl<|Mv rfl<|Osu rfl<|Ofd Zro rfl<|Obx 0 ag3 hs rfl<|O_y rfl (Zvj rfl rfl)<|Ofd Zrj rfl ?_)
 refine Obx 0 ag3 hs rfl<|O_y rfl (Zwc rfl rfl)<|As rfl<|Ox ac<|Zm ?_
 obtain rfl:=Z4 H
 exact r1 rfl ⟨rfl,(hs.sub (ssk ssr))⟩

def Y8.l1:Nat→Int→Int→Int→Int→Int→Int→Int→Int→ByteArray→Int→Int→Int→Int→Int→Option (Int×Int×Int×Int)
  | 0,_,_,_,_,_,_,_,_,_,_,_,_,_,_=>none
  | ae+1,y0_0,y0_1,y0_2,y0_3,y0_4,y0_5,y0_6,y0_7,y0_8,y0_13,aa,ab,ac,ad=>if aa=(y0_8.size:Int) then (some (aa,140,aa,ab)) else (if (0:Int)≤aa∧aa<(y0_8.size:Int) then ((V5.f (⟨y0_0,y0_1,y0_2,y0_3,y0_4,y0_5,y0_6,y0_7⟩:S11) (bt y0_8 aa)).bind fun ag=>(if ag<0 then (some (aa,140,aa,ab)) else (if 2147483647<(i64.wrap (ab+(i64.wrap (ag*ac)))) then (some (aa,142,i64.wrap (aa+1),i64.wrap (ab+(i64.wrap (ag*ac))))) else ((Kl.f (⟨y0_0,y0_1,y0_2,y0_3,y0_4,y0_5,y0_6,y0_7⟩:S11) ad y0_13).bind fun af=>(if ag<af then (some (0,0,i64.wrap (aa+1),i64.wrap (ab+(i64.wrap (ag*ac))))) else (if 2147483647<(i64.wrap (ac*(i64.wrap (y0_0-af)))) then (some (aa,142,i64.wrap (aa+1),i64.wrap (ab+(i64.wrap (ag*ac))))) else ((Y8.l1 ae y0_0 y0_1 y0_2 y0_3 y0_4 y0_5 y0_6 y0_7 y0_8 y0_13) (i64.wrap (aa+1)) (i64.wrap (ab+(i64.wrap (ag*ac)))) (i64.wrap (ac*(i64.wrap (y0_0-af)))) (i64.wrap (ad+y0_0))))))))) else none)
def Y8.f (y0_0 y0_1 y0_2 y0_3 y0_4 y0_5 y0_6 y0_7:Int) (y0_8:ByteArray) (y0_9 y0_11 y0_12 y0_13:Int) (y1:List Int):Option (Int×Int×Int×Int):=Y8.l1 K0 y0_0 y0_1 y0_2 y0_3 y0_4 y0_5 y0_6 y0_7 y0_8 y0_13 y0_9 y0_12 1 y0_0
theorem Y8.c {pb0:Nat} {y0_0 y0_1 y0_2 y0_3 y0_4 y0_5 y0_6 y0_7:Int} {y0_8:ByteArray} {y0_9 y0_11 y0_12 y0_13:Int} {w1:Value} {d1:List Value} {y1:List Int} (hs:St w0 ρ ((.box pb0 163 ([.int .i64 y0_0,.int .i64 y0_1,.int .i64 y0_2,.int .i64 y0_3,.int .i64 y0_4,.int .i64 y0_5,.int .i64 y0_6,.int .u8 y0_7,.string y0_8,.int .i64 y0_9,w1,.int .i64 y0_11,.int .i64 y0_12,.int .i64 y0_13]))::(.row w1 21 ((Rep.int .i32).sz) y1.length d1)::Γ) w) (g1:Zp (Rep.int .i32) ρ d1 y1) {r:Int×Int×Int×Int} (H:Y8.f y0_0 y0_1 y0_2 y0_3 y0_4 y0_5 y0_6 y0_7 y0_8 y0_9 y0_11 y0_12 y0_13 y1=some r):Zq Tryz.prog 161 [.pointer (some ⟨pb0,0,none⟩)] w (fun v w'=>v=.tuple #[.int .i64 r.1,.int .i64 r.2.1]∧St w0 ρ ((.box pb0 163 ([.int .i64 y0_0,.int .i64 y0_1,.int .i64 y0_2,.int .i64 y0_3,.int .i64 y0_4,.int .i64 y0_5,.int .i64 y0_6,.int .u8 y0_7,.string y0_8,.int .i64 r.2.2.1,w1,.int .i64 y0_11,.int .i64 r.2.2.2,.int .i64 y0_13]))::(.row w1 21 ((Rep.int .i32).sz) y1.length d1)::Γ) w'):=by
 rw [Y8.f] at H
 refine Et Tryz.func161 Tryz.ntmps161 rfl<|Wr fun bs a1=>As rfl<|As rfl<|Ox a1<|Wr fun bu a2=>As rfl<|Ox a2<|Wr fun bv a3=>Mv rfl<|Onp rfl ?_
 refine Ofd Zfb rfl<|Ofd Zbt rfl<|Obx 0 ag3 hs rfl<|As rfl<|Ox a3<|Zl fun bw bx bz=>Xb (σ:=Nat×Int×Int×Int×Int) (fun (ae,aa,ab,ac,ad)=>[(0,.pointer (some ⟨pb0,0,none⟩)),(4,.int .i64 ac),(5,.int .i64 ad)]) (fun (ae,aa,ab,ac,ad) w=>Y8.l1 ae y0_0 y0_1 y0_2 y0_3 y0_4 y0_5 y0_6 y0_7 y0_8 y0_13 aa ab ac ad=some r∧St w0 ρ ((.box pb0 163 ([.int .i64 y0_0,.int .i64 y0_1,.int .i64 y0_2,.int .i64 y0_3,.int .i64 y0_4,.int .i64 y0_5,.int .i64 y0_6,.int .u8 y0_7,.string y0_8,.int .i64 aa,w1,.int .i64 y0_11,.int .i64 ab,.int .i64 y0_13]))::(.row w1 21 ((Rep.int .i32).sz) y1.length d1)::Γ) w) (fun s=>s.1) (K0,y0_9,y0_12,1,y0_0) (T3 rfl) (Ai H hs) ?_
 rintro ⟨ae,aa,ab,ac,ad⟩ w b0 ⟨H,hs⟩ ah
 show W _ _ _ _ _ _ [(0,.pointer (some ⟨pb0,0,none⟩)),(4,.int .i64 ac),(5,.int .i64 ad)] w
 cases ae with
 | zero=>rw [Y8.l1] at H;cases H
 | succ ae=>
 rw [Y8.l1] at H
 refine Zi fun b1 a4=>Zl fun b2 b3 b4=>Zi fun b5 a5=>Zi fun b6 a6=>Qt 10 [0,1,2,4,0,16,32,64,128,264] [1020,1016,1008,496,975,911,783,527,15,0] [0,1,3,7,0,16,48,112,240,511] [] (fun w=>St w0 ρ ((.box pb0 163 ([.int .i64 y0_0,.int .i64 y0_1,.int .i64 y0_2,.int .i64 y0_3,.int .i64 y0_4,.int .i64 y0_5,.int .i64 y0_6,.int .u8 y0_7,.string y0_8,.int .i64 aa,w1,.int .i64 y0_11,.int .i64 ab,.int .i64 y0_13]))::(.row w1 21 ((Rep.int .i32).sz) y1.length d1)::Γ) w) Vr (by kernel_rfl) (fun sh=>?_)
 have hs:=hs.drew
 refine Fm 0 sh rfl<|Fp 1 sh rfl (fun w=>Vh rfl)<|Fp 2 sh rfl (fun w=>Zw Zb5 rfl)<|Fy 3 sh rfl hs (fun w hs=>Yb 0 ag3 hs rfl rfl rfl)<|Fm 4 sh rfl<|Fp 5 sh rfl (fun w=>Vh rfl)<|Fp 6 sh rfl (fun w=>Zw Zqx rfl)<|Fy 7 sh rfl hs (fun w hs=>Yb 0 ag9 hs rfl rfl rfl)<|Fp 8 sh rfl (fun w=>Zee un9 rfl)<|Fp 9 sh rfl (fun w=>Zbw rfl rfl)<|FE sh (a6 _ _<|Xa rfl (fun am=>?_) (fun am=>?_))
 rw [if_pos am] at H
 refine Wr fun b7 a7=>Mv rfl<|Onp rfl<|Ofd Zb5 rfl<|Obx 0 ag3 hs rfl<|As rfl<|As rfl<|Ox a7<|W.weak [(2,_),(3,_)] (T2 rfl)<|Zm ?_
 obtain rfl:=Z4 H
 exact Zb4 rfl rfl rfl ⟨rfl,hs⟩
 rw [if_neg am] at H
 refine Wx a5<|Wr fun b8 a8=>Mv rfl<|Onp rfl<|Ofd Zb5 rfl<|Obx 0 ag3 hs rfl<|As rfl<|Ox a8<|W.weak [(0,_),(4,_),(5,_),(6,_)] (T4 rfl)<|Zi fun b9 a9=>Qt 12 [0,1,2,4,0,16,32,64,0,384,520,2047] [2044,2040,2032,1008,1999,1935,1807,1295,1279,15,0,0] [0,1,3,7,0,16,48,112,0,496,1023,2047] [10,11] (fun w=>St w0 ρ ((.box pb0 163 ([.int .i64 y0_0,.int .i64 y0_1,.int .i64 y0_2,.int .i64 y0_3,.int .i64 y0_4,.int .i64 y0_5,.int .i64 y0_6,.int .u8 y0_7,.string y0_8,.int .i64 aa,w1,.int .i64 y0_11,.int .i64 ab,.int .i64 y0_13]))::(.row w1 21 ((Rep.int .i32).sz) y1.length d1)::Γ) w) Vr (by kernel_rfl) (fun sh=>?_)
 have hs:=hs.drew
 refine Fm 0 sh rfl<|Fp 1 sh rfl (fun w=>Vh rfl)<|Fp 2 sh rfl (fun w=>Zw Zfb rfl)<|Fy 3 sh rfl hs (fun w hs=>Xl (i:=0) Zdr Zdz hs rfl rfl rfl rfl)<|Fm 4 sh rfl<|Fp 5 sh rfl (fun w=>Vh rfl)<|Fp 6 sh rfl (fun w=>Zw Zqx rfl)<|Fy 7 sh rfl hs (fun w hs=>Yb 0 ag9 hs rfl rfl rfl)<|Fm 8 sh rfl ?_
 obtain ⟨a0,H⟩:=gd H
 refine Fp 9 sh rfl (fun w=>Zun un9 rfl rfl a0.1 a0.2)<|F1 10 sh rfl (fun ca ba=>?_)
 obtain ⟨ag,an,H⟩:=bnd H
 refine Oc rfl (V5.c hs (show Zd2.R ρ _ (⟨y0_0,y0_1,y0_2,y0_3,y0_4,y0_5,y0_6,y0_7⟩:S11) from rfl) an) (fun cb w hpost=>?_)
 obtain ⟨rfl,hs⟩:=hpost
 refine Zd (ba _ _ (fun h _=>absurd h (by decide))<|Kn sh [] hs (by kernel_rfl)<|Fp 11 sh rfl (fun w=>Xz rfl)<|FE sh (a9 _ _<|W.weak [(0,_),(4,_),(5,_),(6,_),(7,_)] sbn ?_))
 refine Zi fun cc bb=>Wr fun cd bc=>Mv rfl<|Ols rfl<|Ox bc<|Xa rfl (fun ao=>?_) (fun ao=>?_)
 rw [if_pos ao] at H
 refine Wr fun ce bd=>Mv rfl<|As rfl<|As rfl<|Ox bd<|Zm ?_
 obtain rfl:=Z4 H
 exact Zb4 rfl rfl rfl ⟨rfl,hs⟩
 rw [if_neg ao] at H
 refine Wx bb<|Wr fun cf be=>Mv rfl<|Onp rfl<|Ofd Zb5 rfl<|Obx 0 ag3 hs rfl<|Oad rfl<|Onp rfl<|Ofd Zb5 rfl<|V6 (i:=0) sz3 hs rfl rfl rfl rfl rfl (fun w hs=>Ox be<|Zi fun cg bf=>Zi fun ch bg=>?_)
 refine Zc<|Mv rfl<|Onp rfl<|Ofd Zbi rfl<|Obx 0 ag3 hs rfl<|Mv rfl<|Mv rfl<|Oml rfl<|Oad rfl<|Onp rfl<|Ofd Zbi rfl<|V6 (i:=0) sz3 hs rfl rfl rfl rfl rfl (fun w hs=>Ox bg<|W.weak [(0,_),(4,_),(5,_),(6,_),(7,_)] sbn ?_)
 refine Wr fun ci bh=>Mv rfl<|Onp rfl<|Ofd Zbi rfl<|Obx 0 ag3 hs rfl<|Ogt rfl<|Ox bh<|Xa rfl (fun ai=>?_) (fun ai=>?_)
 rw [if_pos ai] at H
 refine Wr fun bi ap=>Mv rfl<|As rfl<|As rfl<|Ox ap<|Zm ?_
 obtain rfl:=Z4 H
 exact Zb4 rfl rfl rfl ⟨rfl,hs⟩
 rw [if_neg ai] at H
 refine Wx bf<|Zi fun bj aq=>Qt 11 [0,1,2,4,0,0,32,64,128,280,1023] [1020,1016,1008,496,495,927,799,543,31,0,0] [0,1,3,7,0,0,32,96,224,511,1023] [9,10] (fun w=>St w0 ρ ((.box pb0 163 ([.int .i64 y0_0,.int .i64 y0_1,.int .i64 y0_2,.int .i64 y0_3,.int .i64 y0_4,.int .i64 y0_5,.int .i64 y0_6,.int .u8 y0_7,.string y0_8,.int .i64 (i64.wrap (aa+1)),w1,.int .i64 y0_11,.int .i64 (i64.wrap (ab+(i64.wrap (ag*ac)))),.int .i64 y0_13]))::(.row w1 21 ((Rep.int .i32).sz) y1.length d1)::Γ) w) Vr (by kernel_rfl) (fun sh=>?_)
 have hs:=hs.drew
 refine Fm 0 sh rfl<|Fp 1 sh rfl (fun w=>Vh rfl)<|Fp 2 sh rfl (fun w=>Zw Zfb rfl)<|Fy 3 sh rfl hs (fun w hs=>Xl (i:=0) Zdr Zdz hs rfl rfl rfl rfl)<|Fm 4 sh rfl<|Fm 5 sh rfl<|Fp 6 sh rfl (fun w=>Vh rfl)<|Fp 7 sh rfl (fun w=>Zw Zsd rfl)<|Fy 8 sh rfl hs (fun w hs=>Yb 0 ag3 hs rfl rfl rfl)<|F1 9 sh rfl (fun bk ar=>?_)
 obtain ⟨af,al,H⟩:=bnd H
 refine Oc rfl (Kl.c hs (show Zd2.R ρ _ (⟨y0_0,y0_1,y0_2,y0_3,y0_4,y0_5,y0_6,y0_7⟩:S11) from rfl) al) (fun bl w hpost=>?_)
 obtain ⟨rfl,hs⟩:=hpost
 refine Zd (ar _ _ (fun h _=>absurd h (by decide))<|Kn sh [] hs (by kernel_rfl)<|Fp 10 sh rfl (fun w=>Xz rfl)<|FE sh (aq _ _<|W.weak [(0,_),(4,_),(5,_),(6,_),(7,_),(8,_)] sbn ?_))
 refine Zi fun bm au=>Wr fun bn av=>Mv rfl<|Mv rfl<|Ols rfl<|Ox av<|Xa rfl (fun aj=>?_) (fun aj=>?_)
 rw [if_pos aj] at H
 refine Wr fun bo aw=>As rfl<|As rfl<|Ox aw<|Zm ?_
 obtain rfl:=Z4 H
 exact Zb4 rfl rfl rfl ⟨rfl,hs⟩
 rw [if_neg aj] at H
 refine Wx au<|Wr fun bp ax=>Mv rfl<|Mv rfl<|Onp rfl<|Ofd Zfb rfl<|Ofd Zbt rfl<|Obx 0 ag3 hs rfl<|Mv rfl<|Osu rfl<|Oml rfl<|As rfl<|Zd (ax _ _ ?_)
 refine W.weak [(0,_),(4,_),(5,_),(6,_)] (T4 rfl)<|Wr fun bq ay=>Mv rfl<|Ogt rfl<|Ox ay<|Xa rfl (fun ak=>?_) (fun ak=>?_)
 rw [if_pos ak] at H
 refine Wr fun br az=>Mv rfl<|As rfl<|As rfl<|Ox az<|Zm ?_
 obtain rfl:=Z4 H
 exact Zb4 rfl rfl rfl ⟨rfl,hs⟩
 rw [if_neg ak] at H
 refine Wx a4<|Zc<|Mv rfl<|Mv rfl<|Onp rfl<|Ofd Zfb rfl<|Ofd Zbt rfl<|Obx 0 ag3 hs rfl<|Oad rfl<|As rfl<|Zd (ah (ae,(i64.wrap (aa+1)),(i64.wrap (ab+(i64.wrap (ag*ac)))),(i64.wrap (ac*(i64.wrap (y0_0-af)))),(i64.wrap (ad+y0_0))) _ _ (T3 rfl) (Ai H hs) (Nat.lt_succ_self _))

def Y9.l1:Nat→S11→Int→Int→Option Int
  | 0,_,_,_=>none
  | ad+1,x0,ab,aa=>if (i64.wrap ((i64.wrap ((i64.wrap (x0.base-x0.least))*x0.most)).tdiv 2))<ab then (if (i64.wrap (x0.base-x0.least))≠0 then ((Y9.l1 ad x0) (i64.wrap (ab.tdiv (i64.wrap (x0.base-x0.least)))) (i64.wrap (aa+x0.base))) else none) else (if (i64.wrap (ab+x0.skew))≠0 then (some (i64.wrap (aa+(i64.wrap ((i64.wrap ((i64.wrap ((i64.wrap (x0.base-x0.least))+1))*ab)).tdiv (i64.wrap (ab+x0.skew))))))) else none)
def Y9.j1 (x0:S11) (x2 ac:Int):Option Int:=if x2≠0 then (Y9.l1 K0 x0 (i64.wrap (ac+(i64.wrap (ac.tdiv x2)))) 0) else none
def Y9.f (x0:S11) (x1 x2:Int) (x3:Bool):Option Int:=if x3=true then (if x0.damp≠0 then (Y9.j1 x0 x2 (i64.wrap (x1.tdiv x0.damp))) else none) else (Y9.j1 x0 x2 (i64.wrap (x1.tdiv 2)))
theorem Y9.c (hs:St w0 ρ (Γ) w) {c0:List Value} {x0:S11} (h0:Zd2.R ρ c0 x0) {x1 x2:Int} {x3:Bool} {r:Int} (H:Y9.f x0 x1 x2 x3=some r):Zq Tryz.prog 123 [.agg c0.toArray,.int .i64 x1,.int .i64 x2,.bool x3] w (fun v w'=>v=.int .i64 r∧St w0 ρ Γ w'):=by
 rw [Y9.f] at H
 refine Et Tryz.func123 Tryz.ntmps123 rfl ?_
 have ak:=h0
 obtain rfl:=ak
 refine Wr fun a4 al=>Vn (cs:=[.int .i64 x0.base,.int .i64 x0.least,.int .i64 x0.most,.int .i64 x0.skew,.int .i64 x0.damp,.int .i64 x0.bias,.int .i64 x0.first,.int .u8 x0.between]) hs rfl rfl (fun af w hs=>As rfl<|Ox al<|Yt fun am an ai=>?_)
 have aj:∀ (ac:Int) (w:World),Y9.j1 x0 x2 ac=some r→St w0 ρ ((.box af 117 ([.int .i64 x0.base,.int .i64 x0.least,.int .i64 x0.most,.int .i64 x0.skew,.int .i64 x0.damp,.int .i64 x0.bias,.int .i64 x0.first,.int .u8 x0.between]))::Γ) w→am [(1,.int .i64 ac),(2,.int .i64 x2),(4,.pointer (some ⟨af,0,none⟩))] w:=by
  intro ac w H hs
  rw [Y9.j1] at H
  refine an _ _<|Wr fun a5 ao=>Mv rfl<|Mv rfl<|Mv rfl ?_
  obtain ⟨ap,H⟩:=gd H
  refine O_y rfl (Zdx rfl rfl ap)<|Oad rfl<|As rfl<|Ox ao<|Wr fun a6 aq=>Ofd Zbt rfl<|Obx 0 ag3 hs rfl<|Ofd Zro rfl<|Obx 0 ag3 hs rfl<|Osu rfl<|As rfl<|Ox aq<|Zi fun a7 ar=>?_
  refine Zc<|As rfl<|Ox ar<|W.weak [(1,_),(4,_),(9,_),(10,_)] (T4 rfl)<|Zi fun a8 au=>Zl fun a9 av ba=>Xb (σ:=Nat×Int×Int) (fun (ad,ab,aa)=>[(1,.int .i64 ab),(4,.pointer (some ⟨af,0,none⟩)),(9,.int .i64 (i64.wrap (x0.base-x0.least))),(10,.int .i64 aa)]) (fun (ad,ab,aa) w=>Y9.l1 ad x0 ab aa=some r∧St w0 ρ ((.box af 117 ([.int .i64 x0.base,.int .i64 x0.least,.int .i64 x0.most,.int .i64 x0.skew,.int .i64 x0.damp,.int .i64 x0.bias,.int .i64 x0.first,.int .u8 x0.between]))::Γ) w) (fun s=>s.1) (K0,(i64.wrap (ac+(i64.wrap (ac.tdiv x2)))),0) (T4 rfl) (Ai H hs) ?_
  rintro ⟨ad,ab,aa⟩ w bb ⟨H,hs⟩ ae
  show W _ _ _ _ _ _ [(1,.int .i64 ab),(4,.pointer (some ⟨af,0,none⟩)),(9,.int .i64 (i64.wrap (x0.base-x0.least))),(10,.int .i64 aa)] w
  cases ad with
  | zero=>rw [Y9.l1] at H;cases H
  | succ ad=>
  rw [Y9.l1] at H
  refine Zi fun bc aw=>Wr fun bd ax=>Mv rfl<|Mv rfl<|Ofd Zrj rfl<|Obx 0 ag3 hs rfl<|Oml rfl<|O_y rfl (Zdx rfl rfl (by decide))<|Ogt rfl<|Ox ax<|Xa rfl (fun ag=>?_) (fun ag=>?_)
  rw [if_pos ag] at H
  refine Wx aw<|Zi fun be ay=>Zl fun bf bg bh=>Zc<|Mv rfl<|Mv rfl ?_
  obtain ⟨az,H⟩:=gd H
  refine O_y rfl (Zdx rfl rfl az)<|As rfl<|Ox ay<|Zc<|Mv rfl<|Ofd Zbt rfl<|Obx 0 ag3 hs rfl<|Oad rfl<|As rfl<|Zd (ae (ad,(i64.wrap (ab.tdiv (i64.wrap (x0.base-x0.least)))),(i64.wrap (aa+x0.base))) _ _ (T4 rfl) (Ai H hs) (Nat.lt_succ_self _))
  rw [if_neg ag] at H
  refine Y5 (av _ _ (au _ _<|Wr fun bi a0=>Mv rfl<|Mv rfl<|Oad rfl<|Mv rfl<|Oml rfl<|Mv rfl<|Ofd Zxi rfl<|Obx 0 ag3 hs rfl<|Oad rfl ?_))
  obtain ⟨a1,H⟩:=gd H
  refine O_y rfl (Zdx rfl rfl a1)<|Oad rfl<|As rfl<|Ox a0<|W.weak [(8,_)] (S1 rfl)<|Zm ?_
  obtain rfl:=Z4 H
  exact r1 rfl ⟨rfl,(hs.sub (ssk ssr))⟩
 refine Wr fun bj a2=>Mv rfl<|Ox a2<|Xh rfl (fun ah=>?_) (fun ah=>?_)
 rw [if_pos ah] at H
 refine Zc<|Mv rfl<|Ofd Zwi rfl<|Obx 0 ag3 hs rfl ?_
 obtain ⟨a3,H⟩:=gd H
 refine O_y rfl (Zdx rfl rfl a3)<|As rfl<|Zd (ai _ _ _ (T3 rfl) (aj (i64.wrap (x1.tdiv x0.damp)) _ H hs))
 rw [if_neg (bft ah)] at H
 refine Zc<|Mv rfl<|O_y rfl (Zdx rfl rfl (by decide))<|As rfl<|Zd (ai _ _ _ (T3 rfl) (aj (i64.wrap (x1.tdiv 2)) _ H hs))

def Yz.j1 (aa:Bool):Option Bool:=if aa=true then (some true) else (some false)
def Yz.j2 (x0:Int) (ab:Bool):Option Bool:=if ab=true then (some true) else (if 57343<x0 then (Yz.j1 (decide (x0≤1114111))) else (Yz.j1 false))
def Yz.f (x0:Int):Option Bool:=if 0≤x0 then (Yz.j2 x0 (decide (x0<55296))) else (Yz.j2 x0 false)
theorem Yz.c (hs:St w0 ρ (Γ) w) {x0:Int} {r:Bool} (H:Yz.f x0=some r):Zq Tryz.prog 173 [.int .i32 x0] w (fun v w'=>v=.bool r∧St w0 ρ Γ w'):=by
 rw [Yz.f] at H
 refine Et Tryz.func173 Tryz.ntmps173 rfl<|Wr fun av ak=>As rfl<|Ox ak<|Zi fun aw al=>Zl fun ax ay az=>Yt fun am an ag=>?_
 have ah:∀ (ab:Bool) (w:World),Yz.j2 x0 ab=some r→St w0 ρ (Γ) w→am [(0,.int .i32 x0),(3,.bool ab)] w:=by
  intro ab w H hs
  rw [Yz.j2] at H
  refine an _ _<|Xh rfl (fun ac=>?_) (fun ac=>?_)
  rw [if_pos ac] at H
  refine Wr fun a0 ao=>As rfl<|Ox ao<|Zm ?_
  obtain rfl:=Z4 H
  exact r1 rfl ⟨rfl,hs⟩
  rw [if_neg (bft ac)] at H
  refine Yt fun ap aq ai=>?_
  have aj:∀ (aa:Bool) (w:World),Yz.j1 aa=some r→St w0 ρ (Γ) w→ap [(10,.bool aa)] w:=by
   intro aa w H hs
   rw [Yz.j1] at H
   refine aq _ _<|Xh rfl (fun ad=>?_) (fun ad=>?_)
   rw [if_pos ad] at H
   refine Wr fun a1 ar=>As rfl<|Ox ar<|Zm ?_
   obtain rfl:=Z4 H
   exact r1 rfl ⟨rfl,hs⟩
   rw [if_neg (bft ad)] at H
   refine Wx al<|Wr fun a2 au=>As rfl<|Ox au<|Zm ?_
   obtain rfl:=Z4 H
   exact r1 rfl ⟨rfl,hs⟩
  refine Zc<|Mv rfl<|Ols rfl<|Mv rfl<|X4 (dj:=13) rfl (fun ae=>?_) (fun ae=>?_)
  rw [if_pos ae] at H
  refine Oe rfl<|Mv rfl<|Oe rfl<|Ole rfl<|Opk rfl<|As rfl<|Zd (ai _ _ _ (S1 rfl) (aj (decide (x0≤1114111)) _ H hs))
  rw [if_neg ae] at H
  refine On rfl<|On rfl<|Opk rfl<|As rfl<|Zd (ai _ _ _ (S1 rfl) (aj false _ H hs))
 refine Zc<|Mv rfl<|Ole rfl<|Mv rfl<|X4 (dj:=6) rfl (fun af=>?_) (fun af=>?_)
 rw [if_pos af] at H
 refine Oe rfl<|Mv rfl<|Oe rfl<|Ols rfl<|Opk rfl<|As rfl<|Zd (ag _ _ _ (T2 rfl) (ah (decide (x0<55296)) _ H hs))
 rw [if_neg af] at H
 refine On rfl<|On rfl<|Opk rfl<|As rfl<|Zd (ag _ _ _ (T2 rfl) (ah false _ H hs))

def Um.f (x0:Int):Option Bool:=(Yz.f x0).bind fun ab=>(some ab)
theorem Um.c (hs:St w0 ρ (Γ) w) {x0:Int} {r:Bool} (H:Um.f x0=some r):Zq Tryz.prog 155 [.int .i32 x0] w (fun v w'=>v=.bool r∧St w0 ρ Γ w'):=by
 rw [Um.f] at H
 refine Et Tryz.func155 Tryz.ntmps155 rfl<|Wr fun ae ac=>As rfl<|Ox ac<|Wr fun af ad=>Mv rfl ?_
 obtain ⟨ab,aa,H⟩:=bnd H
 refine Oc rfl (Yz.c hs aa) (fun ag w hpost=>?_)
 obtain ⟨rfl,hs⟩:=hpost
 refine As rfl<|Ox ad<|Zm ?_
 obtain rfl:=Z4 H
 exact r1 rfl ⟨rfl,hs⟩

def Vs.f (y0_0 y0_1 y0_2 y0_3 y0_4 y0_5 y0_6 y0_7:Int) (y0_8:ByteArray) (y0_9 y0_11 y0_12 y0_13:Int) (y1:List Int):Option (Int×Int×Int×Int×Int×Int×List Int):=(Y8.f y0_0 y0_1 y0_2 y0_3 y0_4 y0_5 y0_6 y0_7 y0_8 y0_9 y0_11 y0_12 y0_13 y1).bind fun aa=>(if aa.2.1≠0 then (some (aa.1,aa.2.1,aa.2.2.1,y0_11,aa.2.2.2,y0_13,y1)) else ((Y9.f (⟨y0_0,y0_1,y0_2,y0_3,y0_4,y0_5,y0_6,y0_7⟩:S11) (i64.wrap (aa.2.2.2-y0_12)) (i64.wrap ((y1.length:Int)+1)) (decide (y0_12=0))).bind fun ad=>(if (i64.wrap ((y1.length:Int)+1))≠0 then (if 1114111<(i64.wrap (y0_11+(i64.wrap (aa.2.2.2.tdiv (i64.wrap ((y1.length:Int)+1)))))) then (some (i64.wrap (aa.2.2.1-1),142,aa.2.2.1,i64.wrap (y0_11+(i64.wrap (aa.2.2.2.tdiv (i64.wrap ((y1.length:Int)+1))))),aa.2.2.2.tmod (i64.wrap ((y1.length:Int)+1)),ad,y1)) else ((Um.f (i32.wrap (i64.wrap (y0_11+(i64.wrap (aa.2.2.2.tdiv (i64.wrap ((y1.length:Int)+1)))))))).bind fun au=>(if (!au)=true then (some (i64.wrap (aa.2.2.1-1),143,aa.2.2.1,i64.wrap (y0_11+(i64.wrap (aa.2.2.2.tdiv (i64.wrap ((y1.length:Int)+1))))),aa.2.2.2.tmod (i64.wrap ((y1.length:Int)+1)),ad,y1)) else (if (0:Int)≤aa.2.2.2.tmod (i64.wrap ((y1.length:Int)+1))∧aa.2.2.2.tmod (i64.wrap ((y1.length:Int)+1))≤(y1.length:Int)∧y1.length+1≤most then (some (0,0,aa.2.2.1,i64.wrap (y0_11+(i64.wrap (aa.2.2.2.tdiv (i64.wrap ((y1.length:Int)+1))))),i64.wrap ((aa.2.2.2.tmod (i64.wrap ((y1.length:Int)+1)))+1),ad,H3 y1 (aa.2.2.2.tmod (i64.wrap ((y1.length:Int)+1))) (i32.wrap (i64.wrap (y0_11+(i64.wrap (aa.2.2.2.tdiv (i64.wrap ((y1.length:Int)+1))))))))) else none)))) else none)))
theorem Vs.c {pb0:Nat} {y0_0 y0_1 y0_2 y0_3 y0_4 y0_5 y0_6 y0_7:Int} {y0_8:ByteArray} {y0_9 y0_11 y0_12 y0_13:Int} {w1:Value} {d1:List Value} {y1:List Int} (hs:St w0 ρ ((.box pb0 163 ([.int .i64 y0_0,.int .i64 y0_1,.int .i64 y0_2,.int .i64 y0_3,.int .i64 y0_4,.int .i64 y0_5,.int .i64 y0_6,.int .u8 y0_7,.string y0_8,.int .i64 y0_9,w1,.int .i64 y0_11,.int .i64 y0_12,.int .i64 y0_13]))::(.row w1 21 ((Rep.int .i32).sz) y1.length d1)::Γ) w) (g1:Zp (Rep.int .i32) ρ d1 y1) {r:Int×Int×Int×Int×Int×Int×List Int} (H:Vs.f y0_0 y0_1 y0_2 y0_3 y0_4 y0_5 y0_6 y0_7 y0_8 y0_9 y0_11 y0_12 y0_13 y1=some r):Zq Tryz.prog 127 [.pointer (some ⟨pb0,0,none⟩)] w (fun v w'=>∃ (ρ':Hp) (u4:Value) (ds4:List Value),v=.tuple #[.int .i64 r.1,.int .i64 r.2.1]∧Le ρ ρ'∧St w0 ρ' ((.box pb0 163 ([.int .i64 y0_0,.int .i64 y0_1,.int .i64 y0_2,.int .i64 y0_3,.int .i64 y0_4,.int .i64 y0_5,.int .i64 y0_6,.int .u8 y0_7,.string y0_8,.int .i64 r.2.2.1,u4,.int .i64 r.2.2.2.1,.int .i64 r.2.2.2.2.1,.int .i64 r.2.2.2.2.2.1]))::(.row u4 21 ((Rep.int .i32).sz) r.2.2.2.2.2.2.length ds4)::Γ) w'∧Zp (Rep.int .i32) ρ' ds4 r.2.2.2.2.2.2):=by
 rw [Vs.f] at H
 refine Et Tryz.func127 Tryz.ntmps127 rfl<|Wr fun bn ax=>As rfl<|As rfl<|Ox ax<|Wr fun bo ay=>Mv rfl<|Onp rfl<|Ofd Zbi rfl<|Obx 0 ag3 hs rfl<|As rfl<|Zd (ay _ _ ?_)
 refine Zi fun bp az=>Wr fun bq a0=>Mv rfl ?_
 have hs:=hs.front 1 rfl
 have hs:=hs.front 1 rfl
 obtain ⟨aa,ae,H⟩:=bnd H
 refine Oc rfl (Y8.c hs g1 ae) (fun br w hpost=>?_)
 obtain ⟨rfl,hs⟩:=hpost
 have hs:=hs.sink 1
 have hs:=hs.sink 1
 refine Mv rfl<|Oxt rfl<|Oxt rfl<|As rfl<|As rfl<|Ox a0<|W.weak [(0,_),(4,_),(5,_),(6,_)] (T4 rfl)<|Wr fun bs a1=>Mv rfl<|One rfl<|Ox a1<|Xa rfl (fun af=>?_) (fun af=>?_)
 rw [if_pos af] at H
 refine Wr fun bt a2=>Mv rfl<|Mv rfl<|As rfl<|As rfl<|Ox a2<|Zm ?_
 obtain rfl:=Z4 H
 exact Zb4 rfl rfl rfl ⟨_,_,_,rfl,Le.rfl' _,hs,g1⟩
 rw [if_neg af] at H
 refine Wx az<|Wr fun bu a3=>Mv rfl<|Onp rfl<|Ofd Zg4 rfl<|Obx 0 Za1 hs rfl<|O_y rfl (Hg (i:=1) Ua hs rfl rfl)<|Oad rfl<|As rfl<|Ox a3<|Zi fun bv a4=>Qt 18 [0,0,2,4,8,0,32,64,128,0,768,0,0,4096,11280,32767,65535,98303] [32766,32761,32753,32737,16353,32671,32543,32287,31263,31231,14367,14335,20479,4095,1,131072,0,0] [0,0,2,6,14,0,32,96,224,0,992,0,0,4096,16382,32767,65535,131071] [14,15,16,17] (fun w=>St w0 ρ ((.box pb0 163 ([.int .i64 y0_0,.int .i64 y0_1,.int .i64 y0_2,.int .i64 y0_3,.int .i64 y0_4,.int .i64 y0_5,.int .i64 y0_6,.int .u8 y0_7,.string y0_8,.int .i64 aa.2.2.1,w1,.int .i64 y0_11,.int .i64 aa.2.2.2,.int .i64 y0_13]))::(.row w1 21 ((Rep.int .i32).sz) y1.length d1)::Γ) w) Vr (by kernel_rfl) (fun sh=>?_)
 have hs:=hs.drew
 refine Fm 0 sh rfl<|Fm 1 sh rfl<|Fp 2 sh rfl (fun w=>Vh rfl)<|Fp 3 sh rfl (fun w=>Zw Zfb rfl)<|Fy 4 sh rfl hs (fun w hs=>Xl (i:=0) Zdr Zdz hs rfl rfl rfl rfl)<|Fm 5 sh rfl<|Fp 6 sh rfl (fun w=>Vh rfl)<|Fp 7 sh rfl (fun w=>Zw Zbi rfl)<|Fy 8 sh rfl hs (fun w hs=>Yb 0 ag3 hs rfl rfl rfl)<|Fm 9 sh rfl<|Fp 10 sh rfl (fun w=>Zc8 rfl rfl)<|Fm 11 sh rfl<|Fm 12 sh rfl<|Fp 13 sh rfl (fun w=>Zbw rfl rfl) ?_
 refine F1 14 sh rfl (fun bw a5=>?_)
 obtain ⟨ad,ag,H⟩:=bnd H
 refine Oc rfl (Y9.c hs (show Zd2.R ρ _ (⟨y0_0,y0_1,y0_2,y0_3,y0_4,y0_5,y0_6,y0_7⟩:S11) from rfl) ag) (fun bx w hpost=>?_)
 obtain ⟨rfl,hs⟩:=hpost
 refine Zd (a5 _ _ (fun h _=>absurd h (by decide))<|Kn sh [17] hs (by kernel_rfl)<|Fp 15 sh rfl (fun w=>Vh rfl)<|Fp 16 sh rfl (fun w=>Zw Zsd rfl)<|F1 17 sh rfl (fun bz a6=>V6 (i:=0) sz3 hs rfl rfl rfl rfl rfl (fun w hs=>Zd (a6 _ _ (fun h _=>absurd h (by decide))<|FE sh (a4 _ _<|W.weak [(0,_),(7,_)] (T2 rfl)<|Zi fun b0 a7=>Qt 14 [0,1,2,4,0,16,32,64,0,384,520,2047,4095,6143] [2044,2040,2032,1008,1999,1935,1807,1295,1279,15,0,8192,0,0] [0,1,3,7,0,16,48,112,0,496,1023,2047,4095,8191] [13] (fun w=>St w0 ρ ((.box pb0 163 ([.int .i64 y0_0,.int .i64 y0_1,.int .i64 y0_2,.int .i64 y0_3,.int .i64 y0_4,.int .i64 y0_5,.int .i64 y0_6,.int .u8 y0_7,.string y0_8,.int .i64 aa.2.2.1,w1,.int .i64 y0_11,.int .i64 aa.2.2.2,.int .i64 ad]))::(.row w1 21 ((Rep.int .i32).sz) y1.length d1)::Γ) w) Vr (by kernel_rfl) (fun sh=>?_))))))
 have hs:=hs.drew
 refine Fm 0 sh rfl<|Fp 1 sh rfl (fun w=>Vh rfl)<|Fp 2 sh rfl (fun w=>Zw Zgc rfl)<|Fy 3 sh rfl hs (fun w hs=>Yb 0 ag3 hs rfl rfl rfl)<|Fm 4 sh rfl<|Fp 5 sh rfl (fun w=>Vh rfl)<|Fp 6 sh rfl (fun w=>Zw Zbi rfl)<|Fy 7 sh rfl hs (fun w hs=>Yb 0 ag3 hs rfl rfl rfl)<|Fm 8 sh rfl ?_
 obtain ⟨av,H⟩:=gd H
 refine Fp 9 sh rfl (fun w=>Zdx rfl rfl av)<|Fp 10 sh rfl (fun w=>H8 rfl rfl)<|Fp 11 sh rfl (fun w=>Vh rfl)<|Fp 12 sh rfl (fun w=>Zw Zgc rfl)<|F1 13 sh rfl (fun b1 a8=>V6 (i:=0) sz3 hs rfl rfl rfl rfl rfl (fun w hs=>Zd (a8 _ _ (fun h _=>absurd h (by decide))<|FE sh (a7 _ _<|W.weak [(0,_),(7,_)] (T2 rfl)<|Wr fun b2 a9=>Mv rfl<|Onp rfl<|Ofd Zbi rfl ?_))))
 refine Obx 0 ag3 hs rfl<|Mv rfl<|O_y rfl (Zlw rfl rfl av)<|Onp rfl<|Ofd Zbi rfl<|V6 (i:=0) sz3 hs rfl rfl rfl rfl rfl (fun w hs=>Ox a9<|Zi fun b3 ba=>Zl fun b4 b5 b6=>Wr fun b7 bb=>Mv rfl<|Onp rfl<|Ofd Zgc rfl ?_)
 refine Obx 0 ag3 hs rfl<|Ogt rfl<|As rfl<|Ox bb<|W.weak [(0,_),(65,_)] (T2 rfl)<|Xa rfl (fun ah=>?_) (fun ah=>?_)
 rw [if_pos ah] at H
 refine Wr fun b8 bc=>Mv rfl<|Onp rfl<|Ofd Zb5 rfl<|Obx 0 ag3 hs rfl<|Osu rfl<|As rfl<|As rfl<|Ox bc<|Zm ?_
 obtain rfl:=Z4 H
 exact Zb4 rfl rfl rfl ⟨_,_,_,rfl,Le.rfl' _,hs,g1⟩
 rw [if_neg ah] at H
 refine Wr fun b9 bd=>Mv rfl<|Onp rfl<|Ofd Zgc rfl<|Obx 0 ag3 hs rfl<|O_y rfl (Uc un3 Za8 rfl) ?_
 obtain ⟨au,ai,H⟩:=bnd H
 refine Oc rfl (Um.c hs ai) (fun ca w hpost=>?_)
 obtain ⟨rfl,hs⟩:=hpost
 refine Ont rfl<|As rfl<|Ox bd<|Xh rfl (fun ab=>?_) (fun ab=>?_)
 rw [if_pos ab] at H
 refine Wr fun be aj=>Mv rfl<|Onp rfl<|Ofd Zb5 rfl<|Obx 0 ag3 hs rfl<|Osu rfl<|As rfl<|As rfl<|Ox aj<|W.weak [(2,_),(3,_)] (T2 rfl)<|Zm ?_
 obtain rfl:=Z4 H
 exact Zb4 rfl rfl rfl ⟨_,_,_,rfl,Le.rfl' _,hs,g1⟩
 rw [if_neg (bft ab)] at H
 refine Wx ba<|Zi fun bf ak=>Qt 19 [0,0,2,4,8,0,32,64,128,0,512,1024,2048,4096,8192,16656,65535,131071,196607] [65534,65529,65521,65505,32737,65439,65311,65055,32287,63999,61951,57855,49663,33279,511,1,262144,0,0] [0,0,2,6,14,0,32,96,224,0,512,1536,3584,7680,15872,32766,65535,131071,262143] [15,16,17,18] (fun w=>St w0 ρ ((.box pb0 163 ([.int .i64 y0_0,.int .i64 y0_1,.int .i64 y0_2,.int .i64 y0_3,.int .i64 y0_4,.int .i64 y0_5,.int .i64 y0_6,.int .u8 y0_7,.string y0_8,.int .i64 aa.2.2.1,w1,.int .i64 (i64.wrap (y0_11+(i64.wrap (aa.2.2.2.tdiv (i64.wrap ((y1.length:Int)+1)))))),.int .i64 (aa.2.2.2.tmod (i64.wrap ((y1.length:Int)+1))),.int .i64 ad]))::(.row w1 21 ((Rep.int .i32).sz) y1.length d1)::Γ) w) Vr (by kernel_rfl) (fun sh=>?_)
 have hs:=hs.drew
 refine Fm 0 sh rfl<|Fm 1 sh rfl<|Fp 2 sh rfl (fun w=>Vh rfl)<|Fp 3 sh rfl (fun w=>Zw Zg4 rfl)<|Fy 4 sh rfl hs (fun w hs=>Yb 0 Za1 hs rfl rfl rfl)<|Fm 5 sh rfl<|Fp 6 sh rfl (fun w=>Vh rfl)<|Fp 7 sh rfl (fun w=>Zw Zbi rfl)<|Fy 8 sh rfl hs (fun w hs=>Yb 0 ag3 hs rfl rfl rfl)<|Fm 9 sh rfl<|Fp 10 sh rfl (fun w=>Vh rfl)<|Fp 11 sh rfl (fun w=>Zw Zgc rfl)<|Fy 12 sh rfl hs (fun w hs=>Yb 0 ag3 hs rfl rfl rfl)<|Fp 13 sh rfl (fun w=>Uc un3 Za8 rfl) ?_
 refine F1 14 sh rfl (fun bg al=>K6 (xs:=[.tmp 102]) (cs:=[.int .i32 (i32.wrap (i64.wrap (y0_11+(i64.wrap (aa.2.2.2.tdiv (i64.wrap ((y1.length:Int)+1)))))))]) Kk hs rfl rfl rfl (by decide) (by decide) rfl (Yd rfl Ki) (Zx rfl X6) (fun bh w hs=>?_))
 have am:Zp (Rep.int .i32) ρ ([.int .i32 (i32.wrap (i64.wrap (y0_11+(i64.wrap (aa.2.2.2.tdiv (i64.wrap ((y1.length:Int)+1)))))))]) [i32.wrap (i64.wrap (y0_11+(i64.wrap (aa.2.2.2.tdiv (i64.wrap ((y1.length:Int)+1))))))]:=Zp.cons (c:=[.int .i32 (i32.wrap (i64.wrap (y0_11+(i64.wrap (aa.2.2.2.tdiv (i64.wrap ((y1.length:Int)+1)))))))]) (x:=i32.wrap (i64.wrap (y0_11+(i64.wrap (aa.2.2.2.tdiv (i64.wrap ((y1.length:Int)+1))))))) rfl (Zp.nil _ _)
 refine Zd (al _ _ (fun _ _=>(hs.sub (ssk (ssc (ssc ssr))))) ?_)
 obtain ⟨ac,H⟩:=gd H
 refine F1 15 sh rfl (fun bi an=>?_)
 have hs:=hs.front 2 rfl
 refine Oc rfl (Zk0.c hs g1 am ac.1 ac.2.1 ac.2.2) (fun bj w hpost=>?_)
 obtain ⟨aw,hs,ao⟩:=hpost
 have hs:=hs.sink 1
 refine Zd (an _ _ (fun h _=>absurd h (by decide))<|Kn sh [18] hs (by kernel_rfl)<|Fp 16 sh rfl (fun w=>Vh rfl)<|Fp 17 sh rfl (fun w=>Zw Zg4 rfl)<|F1 18 sh rfl (fun bk ap=>V6 (i:=0) Zw5 hs rfl rfl rfl rfl (St.rowOne hs (j:=1) rfl) (fun w hs=>Zd (ap _ _ (fun h _=>absurd h (by decide))<|FE sh (ak _ _<|W.weak [(0,_)] (S1 rfl)<|Wr fun bl aq=>Mv rfl<|Onp rfl<|Ofd Zbi rfl ?_)))))
 refine Obx 0 ag3 hs rfl<|Oad rfl<|Onp rfl<|Ofd Zbi rfl<|V6 (i:=0) sz3 hs rfl rfl rfl rfl rfl (fun w hs=>Ox aq<|Wr fun bm ar=>As rfl<|As rfl<|Ox ar<|Zm ?_)
 obtain rfl:=Z4 H
 exact Zb4 rfl rfl rfl ⟨_,_,_,rfl,Le.rfl' _,hs,ao⟩

def Yi.l1:Nat→S11→ByteArray→List Int→Int→Int→Int→Int→Option (List Int×Int×Int)
  | 0,_,_,_,_,_,_,_=>none
  | am+1,x0,x1,ae,aa,ab,ac,ad=>if aa<(x1.size:Int) then ((Vs.f x0.base x0.least x0.most x0.skew x0.damp x0.bias x0.first x0.between x1 aa ab ac ad ae).bind fun ao=>(if ao.2.1≠0 then (some (([]:List Int),ao.1,ao.2.1)) else ((Yi.l1 am x0 x1) ao.2.2.2.2.2.2 ao.2.2.1 ao.2.2.2.1 ao.2.2.2.2.1 ao.2.2.2.2.2.1))) else (some (ae,0,0))
def Yi.j1 (x0:S11) (x1:ByteArray) (ag:List Int) (af:Int):Option (List Int×Int×Int):=Yi.l1 K0 x0 x1 ag af x0.first 0 x0.bias
def Yi.f (x0:S11) (x1:ByteArray):Option (List Int×Int×Int):=(Kt.f x1 x0.between).bind fun al=>(if 0<al then (if (0:Int)≤0∧0≤al∧al≤(x1.size:Int) then ((Vx.f (Qs (x1.extract (0:Int).toNat (al:Int).toNat)) x0.base x0.least x0.most x0.skew x0.damp x0.bias x0.first x0.between).bind fun ay=>(if 0≤ay then (some (([]:List Int),ay,141)) else (if (Hf (x1.extract (0:Int).toNat (al:Int).toNat)).length≤most then (Yi.j1 x0 x1 (Hf (x1.extract (0:Int).toNat (al:Int).toNat)) (i64.wrap (al+1))) else none))) else none) else (Yi.j1 x0 x1 ([]:List Int) 0))
theorem Yi.c (hs:St w0 ρ (Γ) w) {c0:List Value} {x0:S11} (h0:Zd2.R ρ c0 x0) {x1:ByteArray} {r:List Int×Int×Int} (H:Yi.f x0 x1=some r):Zq Tryz.prog 71 [.agg c0.toArray,.string x1] w (fun v w'=>∃ (ρ':Hp) (v0:Value) (cs0:List Value),v=.tuple #[v0,.int .i64 r.2.1,.int .i64 r.2.2]∧Le ρ ρ'∧St w0 ρ' (.row v0 21 (Rep.int .i32).sz r.1.length cs0::Γ) w'∧Zp (Rep.int .i32) ρ' cs0 r.1):=by
 rw [Yi.f] at H
 refine Et Tryz.func71 Tryz.ntmps71 rfl ?_
 have bs:=h0
 obtain rfl:=bs
 refine Wr fun cj bt=>Vn (cs:=[.int .i64 x0.base,.int .i64 x0.least,.int .i64 x0.most,.int .i64 x0.skew,.int .i64 x0.damp,.int .i64 x0.bias,.int .i64 x0.first,.int .u8 x0.between]) hs rfl rfl (fun bo w hs=>As rfl<|As rfl<|As rfl<|Ox bt<|Wr fun ck bu=>O_y rfl (Xl (i:=0) Zdr Zdz hs rfl rfl rfl rfl)<|Mv rfl<|Ofd Zio rfl<|Obx 0 ag3 hs rfl<|Ofd Zq5 rfl ?_)
 refine Obx 0 ag3 hs rfl<|O_y rfl (Qg (cs:=[.int .i64 x0.base,.int .i64 x0.least,.int .i64 x0.most,.int .i64 x0.skew,.int .i64 x0.damp,.int .i64 x0.bias,.int .i64 x0.first,.int .u8 x0.between,.string x1,.int .i64 0,.slice none 0 0,.int .i64 x0.first,.int .i64 0,.int .i64 x0.bias]) Zz2 Z0k ((Z3.cons rfl rfl (Z3.cons rfl rfl (Z3.cons rfl rfl (Z3.cons rfl rfl Z3.nil))))) Zzr (by kernel_rfl))<|Vn (cs:=[.int .i64 x0.base,.int .i64 x0.least,.int .i64 x0.most,.int .i64 x0.skew,.int .i64 x0.damp,.int .i64 x0.bias,.int .i64 x0.first,.int .u8 x0.between,.string x1,.int .i64 0,.slice none 0 0,.int .i64 x0.first,.int .i64 0,.int .i64 x0.bias]) hs rfl rfl (fun a2 w hs=>As rfl<|Ox bu<|W.weak [(1,_),(2,_),(7,_)] (T3 rfl) ?_)
 have hs:=hs.rowNil 21 (Rep.int .i32).sz
 have bv:=Zp.nil (Rep.int .i32) ρ
 refine Yt fun bw bx bp=>?_
 have bq:∀ (ag:List Int) (af:Int) (ah:Value) (ai:List Value) (ap:Hp) (w:World),Yi.j1 x0 x1 ag af=some r→Le ρ ap→St w0 ap ((.row ah 21 ((Rep.int .i32).sz) ag.length ai)::(.box a2 163 ([.int .i64 x0.base,.int .i64 x0.least,.int .i64 x0.most,.int .i64 x0.skew,.int .i64 x0.damp,.int .i64 x0.bias,.int .i64 x0.first,.int .u8 x0.between,.string x1,.int .i64 af,ah,.int .i64 x0.first,.int .i64 0,.int .i64 x0.bias]))::(.box bo 117 ([.int .i64 x0.base,.int .i64 x0.least,.int .i64 x0.most,.int .i64 x0.skew,.int .i64 x0.damp,.int .i64 x0.bias,.int .i64 x0.first,.int .u8 x0.between]))::Γ) w→Zp (Rep.int .i32) ap ai ag→bw [(1,.string x1),(7,.pointer (some ⟨a2,0,none⟩))] w:=by
  intro ag af ah ai ap w H aw hs ar
  rw [Yi.j1] at H
  refine bx _ _<|Zi fun cl bz=>Zl fun cm b0 cn=>Xb (σ:=Nat×List Int×Int×Int×Int×Int×Value×List Value×Hp) (fun (am,ae,aa,ab,ac,ad,aj,ak,au)=>[(1,.string x1),(7,.pointer (some ⟨a2,0,none⟩))]) (fun (am,ae,aa,ab,ac,ad,aj,ak,au) w=>Yi.l1 am x0 x1 ae aa ab ac ad=some r∧Le ap au∧St w0 au ((.row aj 21 ((Rep.int .i32).sz) ae.length ak)::(.box a2 163 ([.int .i64 x0.base,.int .i64 x0.least,.int .i64 x0.most,.int .i64 x0.skew,.int .i64 x0.damp,.int .i64 x0.bias,.int .i64 x0.first,.int .u8 x0.between,.string x1,.int .i64 aa,aj,.int .i64 ab,.int .i64 ac,.int .i64 ad]))::(.box bo 117 ([.int .i64 x0.base,.int .i64 x0.least,.int .i64 x0.most,.int .i64 x0.skew,.int .i64 x0.damp,.int .i64 x0.bias,.int .i64 x0.first,.int .u8 x0.between]))::Γ) w∧Zp (Rep.int .i32) au ak ae) (fun s=>s.1) (K0,ag,af,x0.first,0,x0.bias,ah,ai,ap) (T2 rfl) (Ai H (Ai (Le.rfl' _) (Ai hs ar))) ?_
  rintro ⟨am,ae,aa,ab,ac,ad,aj,ak,au⟩ w co ⟨H,av,hs,an⟩ az
  show W _ _ _ _ _ _ [(1,.string x1),(7,.pointer (some ⟨a2,0,none⟩))] w
  cases am with
  | zero=>rw [Yi.l1] at H;cases H
  | succ am=>
  rw [Yi.l1] at H
  refine Zi fun cp b1=>Wr fun cq b2=>Mv rfl<|Onp rfl<|Ofd Zb5 rfl<|Obx 1 ag3 hs rfl<|Mv rfl<|O_y rfl (Zee un9 rfl)<|Ols rfl<|Ox b2<|Xa rfl (fun a8=>?_) (fun a8=>?_)
  rw [if_pos a8] at H
  refine Wx b1<|Zl fun cr ct cu=>Wr fun cv b3=>Mv rfl ?_
  have hs:=hs.front 1 rfl
  obtain ⟨ao,a9,H⟩:=bnd H
  refine Oc rfl (Vs.c hs an a9) (fun cw w hpost=>?_)
  obtain ⟨br,b4,ba,rfl,a3,hs,b5⟩:=hpost
  have hs:=hs.sink 1
  refine Mv rfl<|Oxt rfl<|Oxt rfl<|As rfl<|As rfl<|Ox b3<|W.weak [(1,_),(7,_),(10,_),(11,_)] (T4 rfl)<|Wr fun cx b6=>Mv rfl<|One rfl<|Ox b6<|Xa rfl (fun bb=>?_) (fun bb=>?_)
  rw [if_pos bb] at H
  refine Wr fun cy b7=>Mv rfl<|Mv rfl<|As rfl<|As rfl<|As rfl<|Ox b7<|Zm ?_
  have hs:=hs.rowNil 21 (Rep.int .i32).sz
  have b8:=Zp.nil (Rep.int .i32) br
  obtain rfl:=Z4 H
  exact Zdc rfl rfl rfl rfl ⟨_,_,_,rfl,((aw.trans av).trans a3),(hs.sub (ssc (ssk (ssk (ssk ssr))))),b8⟩
  rw [if_neg bb] at H
  exact Ui (az (am,ao.2.2.2.2.2.2,ao.2.2.1,ao.2.2.2.1,ao.2.2.2.2.1,ao.2.2.2.2.2.1,b4,ba,br) _ _ (T2 rfl) (Ai H (Ai (av.trans a3) (Ai hs b5))) (Nat.lt_succ_self _))
  rw [if_neg a8] at H
  refine Y5 (b0 _ _ (bz _ _<|Wr fun cz b9=>Mv rfl<|Onp rfl<|Ofd Zg4 rfl<|Obx 1 Za1 hs rfl<|As rfl<|As rfl<|As rfl<|Ox b9<|W.weak [(4,_),(5,_),(6,_)] (T3 rfl)<|Zm ?_))
  obtain rfl:=Z4 H
  exact Zdc rfl rfl rfl rfl ⟨_,_,_,rfl,(aw.trans av),(hs.sub (ssc (ssk (ssk ssr)))),an⟩
 refine Wr fun da bc=>Mv rfl<|Ofd Zrt rfl<|Obx 2 ag5 hs rfl ?_
 obtain ⟨al,a4,H⟩:=bnd H
 refine Oc rfl (Kt.c hs a4) (fun ca w hpost=>?_)
 obtain ⟨rfl,hs⟩:=hpost
 refine As rfl<|Ox bc<|Wr fun cb bd=>Mv rfl<|Ogt rfl<|Ox bd<|Xa rfl (fun a0=>?_) (fun a0=>?_)
 rw [if_pos a0] at H
 refine Zi fun cc be=>Wr fun cd bf=>Mv rfl<|Mv rfl ?_
 obtain ⟨aq,H⟩:=gd H
 refine O_y rfl (Zut un9 rfl (.inl ⟨rfl,rfl⟩) (.inr ⟨_,_,rfl,rfl⟩) aq.1 aq.2.1 aq.2.2)<|Zri un9 Zor un5 hs rfl rfl (fun a5 ce w ax hs bg=>O_y rfl (Hi rfl) ?_)
 have hs:=hs.front 2 rfl
 obtain ⟨ay,a6,H⟩:=bnd H
 refine Oc rfl (Vx.c hs bg a6) (fun cf w hpost=>?_)
 obtain ⟨rfl,hs⟩:=hpost
 have hs:=hs.sink 2
 refine As rfl<|Ox bf<|W.weak [(1,_),(7,_),(8,_),(9,_)] (T4 rfl)<|Wr fun cg bh=>Mv rfl<|Oge rfl<|Ox bh<|Xa rfl (fun a1=>?_) (fun a1=>?_)
 rw [if_pos a1] at H
 refine Wr fun ch bi=>Mv rfl<|As rfl<|As rfl<|As rfl<|Ox bi<|Zm ?_
 have hs:=hs.rowNil 21 (Rep.int .i32).sz
 have bj:=Zp.nil (Rep.int .i32) a5
 obtain rfl:=Z4 H
 exact Zdc rfl rfl rfl rfl ⟨_,_,_,rfl,ax,(hs.sub (ssc (ssk (ssk (ssk ssr))))),bj⟩
 rw [if_neg a1] at H
 refine Wx be<|Wr fun ci bk=>Mv rfl<|Mv rfl<|Mv rfl<|O_y rfl (Zut un9 rfl (.inl ⟨rfl,rfl⟩) (.inr ⟨_,_,rfl,rfl⟩) aq.1 aq.2.1 aq.2.2) ?_
 obtain ⟨bl,H⟩:=gd H
 refine Zq6 un9 Ua Za8 hs rfl rfl bl (fun bm a7 w hs bn=>Onp rfl<|Ofd Zg4 rfl<|V6 (i:=2) Zw5 hs rfl rfl rfl rfl (St.rowOne hs (j:=0) rfl) (fun w hs=>Ox bk<|Zc<|Mv rfl<|Mv rfl<|Oad rfl<|Onp rfl<|Ofd Zb5 rfl<|V6 (i:=2) sz3 hs rfl rfl rfl rfl rfl (fun w hs=>?_)))
 have hs:=hs.sub (ssc (ssk (ssc (ssc ssr))))
 have hs:=hs.front 2 rfl
 have hs:=hs.front 2 rfl
 have hs:=hs.front 2 rfl
 exact Zd (bp _ _ _ (T2 rfl) (bq (Hf (x1.extract (0:Int).toNat (al:Int).toNat)) (i64.wrap (al+1)) bm a7 a5 _ H ax hs bn))
 rw [if_neg a0] at H
 exact Ui (bp _ _ _ (T2 rfl) (bq ([]:List Int) 0 (.slice none 0 0) ([]) ρ _ H (Le.rfl' _) hs bv))

def J6.f (x0:ByteArray):Option (List Int×Int×Int):=(Uk.f).bind fun af=>((Yi.f af x0).bind fun aa=>(some (aa.1,aa.2.1,aa.2.2)))
theorem J6.c (hs:St w0 ρ (Γ) w) {x0:ByteArray} {r:List Int×Int×Int} (H:J6.f x0=some r):Zq Tryz.prog 32 [.string x0] w (fun v w'=>∃ (ρ':Hp) (v0:Value) (cs0:List Value),v=.tuple #[v0,.int .i64 r.2.1,.int .i64 r.2.2]∧Le ρ ρ'∧St w0 ρ' (.row v0 21 (Rep.int .i32).sz r.1.length cs0::Γ) w'∧Zp (Rep.int .i32) ρ' cs0 r.1):=by
 rw [J6.f] at H
 refine Et Tryz.func32 Tryz.ntmps32 rfl<|Wr fun an ah=>As rfl<|As rfl<|As rfl<|Ox ah<|Zi fun ao ai=>Zc ?_
 obtain ⟨af,ab,H⟩:=bnd H
 refine Oc rfl (Uk.c hs ab) (fun ap w hpost=>?_)
 obtain ⟨aq,aj,rfl,ac,hs,ag⟩:=hpost
 have ak:=ag
 obtain rfl:=ak
 refine Mv rfl ?_
 obtain ⟨aa,ad,H⟩:=bnd H
 refine Oc rfl (Yi.c hs ag ad) (fun ar w hpost=>?_)
 obtain ⟨au,av,al,rfl,ae,hs,am⟩:=hpost
 refine Oxt rfl<|Oxt rfl<|Oxt rfl<|As rfl<|As rfl<|As rfl<|Ox ai<|Zm ?_
 obtain rfl:=Z4 H
 exact Zdc rfl rfl rfl rfl ⟨_,_,_,rfl,(ac.trans ae),hs,am⟩

def Vq.f (x0:Option Tbs) (x1:List Int):Option S10:=(Xk.f x1).bind fun a1=>((Vt.f x1).bind fun ag=>(if (!ag)=true then ((Qy.f x0 x1).bind fun bq=>((Hw.f bq).bind fun br=>(some (⟨a1,ag,br⟩:S10)))) else ((Up.f x1).bind fun ao=>(if (!ao)=true then (some (⟨a1,ag,7⟩:S10)) else (if (0:Int)≤4∧4≤(x1.length:Int)∧(x1.length:Int)≤(x1.length:Int) then ((J6.f (runesBytes (sub x1 4 (x1.length:Int)))).bind fun ad=>(if ad.2.2≠0 then (some (⟨a1,ag,8⟩:S10)) else ((Up.f ad.1).bind fun ap=>(if ap=true then (some (⟨ad.1,ag,9⟩:S10)) else ((Qy.f x0 ad.1).bind fun aq=>((Hw.f aq).bind fun ar=>(some (⟨ad.1,ag,ar⟩:S10)))))))) else none)))))
theorem Vq.c (hs:St w0 ρ (Γ) w) {v0:Value} {x0:Option Tbs} (h0:Xw H4 ρ v0 x0) {v1:Value} {x1:List Int} (h1:SlR (Rep.int .i32) ρ v1 x1) {r:S10} (H:Vq.f x0 x1=some r):Zq Tryz.prog 11 [v0,v1] w (fun v w'=>∃ (ρ':Hp) (cs0:List Value),v=.agg cs0.toArray∧Le ρ ρ'∧St w0 ρ' (Γ) w'∧Z0t.R ρ' cs0 r):=by
 rw [Vq.f] at H
 refine Et Tryz.func11 Tryz.ntmps11 rfl<|Wr fun da bu=>Y6 Zta hs rfl (fun db w hs=>Ox bu<|Wr fun dc bv=>Mv rfl ?_)
 obtain ⟨a1,a2,H⟩:=bnd H
 refine Oc rfl (Xk.c hs h1 a2) (fun bw w hpost=>?_)
 obtain ⟨dd,de,bx,rfl,aa,hs,bz⟩:=hpost
 refine Mv rfl ?_
 obtain ⟨ag,a3,H⟩:=bnd H
 refine Oc rfl (Vt.c hs (h1.mono aa) a3) (fun df w hpost=>?_)
 obtain ⟨rfl,hs⟩:=hpost
 obtain ⟨dg,ab,hs,ah⟩:=hs.rowEnd (j:=0) bz rfl
 refine O_y rfl (Qg (cs:=[bw,.bool ag,.int .i64 0]) Zta Z0x ((Z3.cons rfl ah.cellsL (Z3.cons rfl rfl Z3.nil))) Zjj (by kernel_rfl))<|Y6 Zta hs rfl (fun dh w hs=>Ye (i:=0) Zdi hs rfl rfl rfl rfl rfl (Zb ah.one (Zb rfl (Zb rfl Ym))) (fun w hs=>Ox bv<|Zi fun di b0=>Wr fun dj b1=>Ofd Zkk rfl<|Obx 0 ag4 hs rfl<|Ont rfl<|Ox b1<|Xh rfl (fun a4=>?_) (fun a4=>?_)))
 rw [if_pos a4] at H
 refine Wr fun dk b2=>Mv rfl<|Mv rfl ?_
 obtain ⟨bq,a5,H⟩:=bnd H
 refine Oc rfl (Qy.c hs (h0.mono (aa.trans ab)) (h1.mono (aa.trans ab)) a5) (fun dl w hpost=>?_)
 obtain ⟨dm,dn,b3,rfl,au,hs,b4⟩:=hpost
 obtain ⟨dp,av,hs,b5⟩:=hs.rowEnd (j:=0) b4 rfl
 obtain ⟨br,a6,H⟩:=bnd H
 refine Oc rfl (Hw.c hs b5 a6) (fun dq w hpost=>?_)
 obtain ⟨rfl,hs⟩:=hpost
 refine Ofd Zd5 rfl<|V6 (i:=0) sz3 hs rfl rfl rfl rfl rfl (fun w hs=>Ox b2<|W.weak [(4,_),(5,_)] (T2 rfl)<|Wr fun dr b6=>O_y rfl (Xl (i:=0) Zjj Zdi hs rfl rfl rfl rfl)<|Ye (i:=1) Zdi hs rfl rfl rfl rfl rfl (Zb ah.one (Zb rfl (Zb rfl Ym))) (fun w hs=>Ox b6<|Zm ?_))
 obtain rfl:=Z4 H
 exact Zi2 (i:=1) rfl rfl Zjj Zdi hs rfl rfl ⟨_,_,rfl,(((aa.trans ab).trans au).trans av),(hs.sub (ssk (ssk ssr))),⟨_,rfl,(ah.mono (au.trans av))⟩⟩
 rw [if_neg (bft a4)] at H
 refine Wx b0<|Zi fun ds b7=>Wr fun dt b8=>Mv rfl ?_
 obtain ⟨ao,aw,H⟩:=bnd H
 refine Oc rfl (Up.c hs (h1.mono (aa.trans ab)) aw) (fun b9 w hpost=>?_)
 obtain ⟨rfl,hs⟩:=hpost
 refine Ont rfl<|Ox b8<|W.weak [(0,_),(1,_),(4,_),(5,_),(25,_)] sbn ?_
 refine Xh rfl (fun ak=>?_) (fun ak=>?_)
 rw [if_pos ak] at H
 refine Wr fun ca a7=>Ofd Zd5 rfl<|V6 (i:=0) sz3 hs rfl rfl rfl rfl rfl (fun w hs=>Ox a7<|Wr fun cb a8=>O_y rfl (Xl (i:=0) Zjj Zdi hs rfl rfl rfl rfl)<|Ye (i:=1) Zdi hs rfl rfl rfl rfl rfl (Zb ah.one (Zb rfl (Zb rfl Ym))) (fun w hs=>Ox a8<|Zm ?_))
 obtain rfl:=Z4 H
 exact Zi2 (i:=1) rfl rfl Zjj Zdi hs rfl rfl ⟨_,_,rfl,(aa.trans ab),(hs.sub (ssk (ssk ssr))),⟨_,rfl,ah⟩⟩
 rw [if_neg (bft ak)] at H
 refine Wx b7<|Wr fun cc a9=>Mv rfl ?_
 obtain ⟨al,H⟩:=gd H
 obtain ⟨cd,ba,bb⟩:=(h1.mono (aa.trans ab)).cut Kk al.1 al.2.1 al.2.2
 refine O_y rfl (bb rfl (.inr ⟨_,_,rfl,rfl⟩) (.inl ⟨rfl,rfl⟩))<|O_y rfl (Zg0 Ua Za8 un9 hs ba rfl) ?_
 obtain ⟨ad,ax,H⟩:=bnd H
 refine Oc rfl (J6.c hs ax) (fun ce w hpost=>?_)
 obtain ⟨cf,cg,bs,rfl,ac,hs,bc⟩:=hpost
 refine Mv rfl<|Oxt rfl<|Oxt rfl<|Oxt rfl<|As rfl<|As rfl<|As rfl<|Ox a9<|W.weak [(0,_),(4,_),(5,_),(6,_),(8,_)] sbn ?_
 refine Zi fun ch bd=>Wr fun ci be=>Mv rfl<|One rfl<|Ox be<|Xa rfl (fun am=>?_) (fun am=>?_)
 rw [if_pos am] at H
 refine Wr fun cj bf=>Ofd Zd5 rfl<|V6 (i:=1) sz3 hs rfl rfl rfl rfl rfl (fun w hs=>Ox bf<|Wr fun ck bg=>O_y rfl (Xl (i:=1) Zjj Zdi hs rfl rfl rfl rfl)<|Ye (i:=2) Zdi hs rfl rfl rfl rfl rfl (Zb ah.one (Zb rfl (Zb rfl Ym))) (fun w hs=>Ox bg<|Zm ?_))
 obtain rfl:=Z4 H
 exact Zi2 (i:=2) rfl rfl Zjj Zdi hs rfl rfl ⟨_,_,rfl,((aa.trans ab).trans ac),(hs.sub (ssk (ssk (ssk ssr)))),⟨_,rfl,(ah.mono ac)⟩⟩
 rw [if_neg am] at H
 refine Wx bd<|Wr fun cl bh=>Mv rfl<|Ofd Zf2 rfl<|V6 (i:=1) Zw5 hs rfl rfl rfl rfl (St.rowOne hs (j:=0) rfl) (fun w hs=>Ox bh<|Zi fun cm bi=>Zi fun cn bj=>?_)
 obtain ⟨co,af,hs,ae⟩:=hs.rowEnd (j:=0) bc rfl
 refine Zc<|Mv rfl ?_
 obtain ⟨ap,ay,H⟩:=bnd H
 refine Oc rfl (Up.c hs ae ay) (fun cp w hpost=>?_)
 obtain ⟨rfl,hs⟩:=hpost
 refine Ox bj<|Xh rfl (fun an=>?_) (fun an=>?_)
 rw [if_pos an] at H
 refine Wr fun cq bk=>Ofd Zd5 rfl<|V6 (i:=0) sz3 hs rfl rfl rfl rfl rfl (fun w hs=>Ox bk<|Wr fun cr bl=>O_y rfl (Xl (i:=0) Zjj Zdi hs rfl rfl rfl rfl)<|Ye (i:=1) Zdi hs rfl rfl rfl rfl rfl (Zb ae.one (Zb rfl (Zb rfl Ym))) (fun w hs=>Ox bl<|Zm ?_))
 obtain rfl:=Z4 H
 exact Zi2 (i:=1) rfl rfl Zjj Zdi hs rfl rfl ⟨_,_,rfl,(((aa.trans ab).trans ac).trans af),(hs.sub (ssk (ssk ssr))),⟨_,rfl,ae⟩⟩
 rw [if_neg (bft an)] at H
 refine Wx bi<|Wr fun ct bm=>Mv rfl<|Mv rfl ?_
 obtain ⟨aq,az,H⟩:=bnd H
 refine Oc rfl (Qy.c hs (h0.mono (((aa.trans ab).trans ac).trans af)) ae az) (fun cu w hpost=>?_)
 obtain ⟨cv,cw,bt,rfl,ai,hs,bn⟩:=hpost
 obtain ⟨cx,aj,hs,bo⟩:=hs.rowEnd (j:=0) bn rfl
 obtain ⟨ar,a0,H⟩:=bnd H
 refine Oc rfl (Hw.c hs bo a0) (fun cy w hpost=>?_)
 obtain ⟨rfl,hs⟩:=hpost
 refine Ofd Zd5 rfl<|V6 (i:=0) sz3 hs rfl rfl rfl rfl rfl (fun w hs=>Ox bm<|W.weak [(4,_),(5,_)] (T2 rfl)<|Wr fun cz bp=>O_y rfl (Xl (i:=0) Zjj Zdi hs rfl rfl rfl rfl)<|Ye (i:=1) Zdi hs rfl rfl rfl rfl rfl (Zb ae.one (Zb rfl (Zb rfl Ym))) (fun w hs=>Ox bp<|Zm ?_))
 obtain rfl:=Z4 H
 exact Zi2 (i:=1) rfl rfl Zjj Zdi hs rfl rfl ⟨_,_,rfl,(((((aa.trans ab).trans ac).trans af).trans ai).trans aj),(hs.sub (ssk (ssk ssr))),⟨_,rfl,(ae.mono (ai.trans aj))⟩⟩

def X8.j1 (aa:Bool):Option Bool:=some aa
def X8.f (x0 y0_0 y0_1 y0_2 y0_3 y0_4 y0_5 y0_6 y0_7:Int):Option Bool:=if (i64.wrap x0)<y0_6 then ((Xv.f (⟨y0_0,y0_1,y0_2,y0_3,y0_4,y0_5,y0_6,y0_7⟩:S11) x0).bind fun ab=>(X8.j1 (!ab))) else (X8.j1 false)
theorem X8.c {pb0:Nat} {y0_0 y0_1 y0_2 y0_3 y0_4 y0_5 y0_6 y0_7:Int} (hs:St w0 ρ ((.box pb0 117 ([.int .i64 y0_0,.int .i64 y0_1,.int .i64 y0_2,.int .i64 y0_3,.int .i64 y0_4,.int .i64 y0_5,.int .i64 y0_6,.int .u8 y0_7]))::Γ) w) {x0:Int} {r:Bool} (H:X8.f x0 y0_0 y0_1 y0_2 y0_3 y0_4 y0_5 y0_6 y0_7=some r):Zq Tryz.prog 156 [.int .i32 x0,.pointer (some ⟨pb0,0,none⟩)] w (fun v w'=>v=.bool r∧St w0 ρ ((.box pb0 117 ([.int .i64 y0_0,.int .i64 y0_1,.int .i64 y0_2,.int .i64 y0_3,.int .i64 y0_4,.int .i64 y0_5,.int .i64 y0_6,.int .u8 y0_7]))::Γ) w'):=by
 rw [X8.f] at H
 refine Et Tryz.func156 Tryz.ntmps156 rfl<|Wr fun aj ag=>As rfl<|Ox ag<|Yt fun ah ai ae=>?_
 have af:∀ (aa:Bool) (w:World),X8.j1 aa=some r→St w0 ρ ((.box pb0 117 ([.int .i64 y0_0,.int .i64 y0_1,.int .i64 y0_2,.int .i64 y0_3,.int .i64 y0_4,.int .i64 y0_5,.int .i64 y0_6,.int .u8 y0_7]))::Γ) w→ah [(3,.bool aa)] w:=by
  intro aa w H hs
  rw [X8.j1] at H
  refine ai _ _<|Zm ?_
  obtain rfl:=Z4 H
  exact r1 rfl ⟨rfl,hs⟩
 refine Zc<|Mv rfl<|O_y rfl (Uc Za8 un3 rfl)<|Ofd Zio rfl<|Obx 0 ag3 hs rfl<|Ols rfl<|Mv rfl<|X4 (dj:=9) rfl (fun ac=>?_) (fun ac=>?_)
 rw [if_pos ac] at H
 refine Oe rfl<|O_y rfl (Xl (i:=0) Zdr Zdz hs rfl rfl rfl rfl)<|Oe rfl<|Mv rfl<|Oe rfl ?_
 obtain ⟨ab,ad,H⟩:=bnd H
 refine Oc rfl (Xv.c hs (show Zd2.R ρ _ (⟨y0_0,y0_1,y0_2,y0_3,y0_4,y0_5,y0_6,y0_7⟩:S11) from rfl) ad) (fun ak w hpost=>?_)
 obtain ⟨rfl,hs⟩:=hpost
 refine Oe rfl<|Ont rfl<|Opk rfl<|As rfl<|Zd (ae _ _ _ (S1 rfl) (af (!ab) _ H hs))
 rw [if_neg ac] at H
 refine On rfl<|On rfl<|On rfl<|On rfl<|Opk rfl<|As rfl<|Zd (ae _ _ _ (S1 rfl) (af false _ H hs))

def Yl.l1:Nat→Int→Int→Int→Int→Int→Int→Int→Int→List Int→Int→Option Int
  | 0,_,_,_,_,_,_,_,_,_,_=>none
  | ab+1,y0_0,y0_1,y0_2,y0_3,y0_4,y0_5,y0_6,y0_7,x0,aa=>if aa<(x0.length:Int) then (if (0:Int)≤aa∧aa<(x0.length:Int) then ((X8.f (rd x0 aa) y0_0 y0_1 y0_2 y0_3 y0_4 y0_5 y0_6 y0_7).bind fun ag=>(if ag=true then (some aa) else ((Yl.l1 ab y0_0 y0_1 y0_2 y0_3 y0_4 y0_5 y0_6 y0_7 x0) (i64.wrap (aa+1))))) else none) else (some (-1))
def Yl.f (x0:List Int) (y0_0 y0_1 y0_2 y0_3 y0_4 y0_5 y0_6 y0_7:Int):Option Int:=Yl.l1 K0 y0_0 y0_1 y0_2 y0_3 y0_4 y0_5 y0_6 y0_7 x0 0
theorem Yl.c {pb0:Nat} {y0_0 y0_1 y0_2 y0_3 y0_4 y0_5 y0_6 y0_7:Int} (hs:St w0 ρ ((.box pb0 117 ([.int .i64 y0_0,.int .i64 y0_1,.int .i64 y0_2,.int .i64 y0_3,.int .i64 y0_4,.int .i64 y0_5,.int .i64 y0_6,.int .u8 y0_7]))::Γ) w) {v0:Value} {x0:List Int} (h0:SlR (Rep.int .i32) ρ v0 x0) {r:Int} (H:Yl.f x0 y0_0 y0_1 y0_2 y0_3 y0_4 y0_5 y0_6 y0_7=some r):Zq Tryz.prog 77 [v0,.func (.func 156) #[] #[.pointer (some ⟨pb0,0,none⟩)]] w (fun v w'=>v=.int .i64 r∧St w0 ρ ((.box pb0 117 ([.int .i64 y0_0,.int .i64 y0_1,.int .i64 y0_2,.int .i64 y0_3,.int .i64 y0_4,.int .i64 y0_5,.int .i64 y0_6,.int .u8 y0_7]))::Γ) w'):=by
 rw [Yl.f] at H
 refine Et Tryz.func77 Tryz.ntmps77 rfl<|Wr fun ax ai=>As rfl<|Ox ai<|Zi fun ay aj=>Wr fun az ak=>Mv rfl<|O_y rfl (Yx Ua h0 rfl)<|Mv rfl<|Ox ak<|Zl fun a0 al a1=>Xb (σ:=Nat×Int) (fun (ab,aa)=>[(0,v0),(1,.func (.func 156) #[] #[.pointer (some ⟨pb0,0,none⟩)]),(7,.int .i64 (x0.length:Int)),(8,.int .i64 aa)]) (fun (ab,aa) w=>Yl.l1 ab y0_0 y0_1 y0_2 y0_3 y0_4 y0_5 y0_6 y0_7 x0 aa=some r∧St w0 ρ ((.box pb0 117 ([.int .i64 y0_0,.int .i64 y0_1,.int .i64 y0_2,.int .i64 y0_3,.int .i64 y0_4,.int .i64 y0_5,.int .i64 y0_6,.int .u8 y0_7]))::Γ) w) (fun s=>s.1) (K0,0) (T4 rfl) (Ai H hs) ?_
 rintro ⟨ab,aa⟩ w a2 ⟨H,hs⟩ ac
 show W _ _ _ _ _ _ [(0,v0),(1,.func (.func 156) #[] #[.pointer (some ⟨pb0,0,none⟩)]),(7,.int .i64 (x0.length:Int)),(8,.int .i64 aa)] w
 cases ab with
 | zero=>rw [Yl.l1] at H;cases H
 | succ ab=>
 rw [Yl.l1] at H
 refine Wr fun a3 am=>Ols rfl<|Ox am<|Zi fun a4 an=>Xa rfl (fun ad=>?_) (fun ad=>?_)
 rw [if_pos ad] at H
 refine Wx an<|Zi fun a5 ao=>Zl fun a6 a7 a8=>Wr fun a9 ap=>Mv rfl<|As rfl<|Ox ap<|Wr fun ba aq=>Mv rfl<|Mv rfl<|Mv rfl ?_
 obtain ⟨ah,H⟩:=gd H
 obtain ⟨bb,bc,ar,au⟩:=h0.ix Kk ah.1 ah.2
 refine O_y rfl (au rfl rfl)<|O_y rfl (Xq Xn rfl (hs.see ar.int)) ?_
 obtain ⟨ag,ae,H⟩:=bnd H
 refine Xs rfl rfl rfl (X8.c hs ae) (fun bd w hpost=>?_)
 obtain ⟨rfl,hs⟩:=hpost
 refine Ox aq<|Xh rfl (fun af=>?_) (fun af=>?_)
 rw [if_pos af] at H
 refine Wr fun be av=>Mv rfl<|As rfl<|Ox av<|W.weak [(4,_)] (S1 rfl)<|Zm ?_
 obtain rfl:=Z4 H
 exact r1 rfl ⟨rfl,hs⟩
 rw [if_neg (bft af)] at H
 refine Wx ao<|Zc<|Oad rfl<|Mv rfl<|Zd (ac (ab,(i64.wrap (aa+1))) _ _ (T4 rfl) (Ai H hs) (Nat.lt_succ_self _))
 rw [if_neg ad] at H
 refine Y5 (al _ _ (aj _ _<|Wr fun bf aw=>As rfl<|Ox aw<|Zm ?_))
 obtain rfl:=Z4 H
 exact r1 rfl ⟨rfl,hs⟩

def Q4.l1:Nat→S11→List Int→Int→Option (Int×Int)
  | 0,_,_,_=>none
  | ab+1,x0,x1,aa=>if aa<(x1.length:Int) then (if (0:Int)≤aa∧aa<(x1.length:Int) then ((Um.f (rd x1 aa)).bind fun am=>(if (!am)=true then (some (aa,20)) else ((Q4.l1 ab x0 x1) (i64.wrap (aa+1))))) else none) else ((Yl.f x1 x0.base x0.least x0.most x0.skew x0.damp x0.bias x0.first x0.between).bind fun ad=>(if 0≤ad then (some (ad,141)) else (some (0,0))))
def Q4.f (x0:S11) (x1:List Int):Option (Int×Int):=Q4.l1 K0 x0 x1 0
theorem Q4.c (hs:St w0 ρ (Γ) w) {c0:List Value} {x0:S11} (h0:Zd2.R ρ c0 x0) {v1:Value} {x1:List Int} (h1:SlR (Rep.int .i32) ρ v1 x1) {r:Int×Int} (H:Q4.f x0 x1=some r):Zq Tryz.prog 119 [.agg c0.toArray,v1] w (fun v w'=>v=.tuple #[.int .i64 r.1,.int .i64 r.2]∧St w0 ρ Γ w'):=by
 rw [Q4.f] at H
 refine Et Tryz.func119 Tryz.ntmps119 rfl ?_
 have ao:=h0
 obtain rfl:=ao
 refine Wr fun a8 ap=>Vn (cs:=[.int .i64 x0.base,.int .i64 x0.least,.int .i64 x0.most,.int .i64 x0.skew,.int .i64 x0.damp,.int .i64 x0.bias,.int .i64 x0.first,.int .u8 x0.between]) hs rfl rfl (fun ae w hs=>As rfl<|As rfl<|Ox ap<|Zi fun a9 aq=>Wr fun ba ar=>Mv rfl<|O_y rfl (Yx Ua h1 rfl)<|Mv rfl<|Ox ar<|Zl fun bb au bc=>?_)
 refine Xb (σ:=Nat×Int) (fun (ab,aa)=>[(1,v1),(2,.pointer (some ⟨ae,0,none⟩)),(9,v1),(10,.int .i64 (x1.length:Int)),(11,.int .i64 aa)]) (fun (ab,aa) w=>Q4.l1 ab x0 x1 aa=some r∧St w0 ρ ((.box ae 117 ([.int .i64 x0.base,.int .i64 x0.least,.int .i64 x0.most,.int .i64 x0.skew,.int .i64 x0.damp,.int .i64 x0.bias,.int .i64 x0.first,.int .u8 x0.between]))::Γ) w) (fun s=>s.1) (K0,0) sbn (Ai H hs) ?_
 rintro ⟨ab,aa⟩ w bd ⟨H,hs⟩ ac
 show W _ _ _ _ _ _ [(1,v1),(2,.pointer (some ⟨ae,0,none⟩)),(9,v1),(10,.int .i64 (x1.length:Int)),(11,.int .i64 aa)] w
 cases ab with
 | zero=>rw [Q4.l1] at H;cases H
 | succ ab=>
 rw [Q4.l1] at H
 refine Wr fun be av=>Ols rfl<|Ox av<|Zi fun bf aw=>Xa rfl (fun af=>?_) (fun af=>?_)
 rw [if_pos af] at H
 refine Wx aw<|Zi fun bg ax=>Zl fun bh bi bj=>Wr fun bk ay=>Mv rfl ?_
 obtain ⟨an,H⟩:=gd H
 obtain ⟨bl,bm,az,a0⟩:=h1.ix Kk an.1 an.2
 refine O_y rfl (a0 rfl rfl)<|O_y rfl (Xq Xn rfl (hs.see az.int))<|As rfl<|As rfl<|Ox ay<|Wr fun bn a1=>Mv rfl ?_
 obtain ⟨am,ag,H⟩:=bnd H
 refine Oc rfl (Um.c hs ag) (fun bo w hpost=>?_)
 obtain ⟨rfl,hs⟩:=hpost
 refine Ont rfl<|Ox a1<|Xh rfl (fun ah=>?_) (fun ah=>?_)
 rw [if_pos ah] at H
 refine Wr fun bp a2=>Mv rfl<|As rfl<|As rfl<|Ox a2<|W.weak [(4,_),(5,_)] (T2 rfl)<|Zm ?_
 obtain rfl:=Z4 H
 exact Zb4 rfl rfl rfl ⟨rfl,(hs.sub (ssk ssr))⟩
 rw [if_neg (bft ah)] at H
 refine Wx ax<|Zc<|Oad rfl<|Mv rfl<|Zd (ac (ab,(i64.wrap (aa+1))) _ _ sbn (Ai H hs) (Nat.lt_succ_self _))
 rw [if_neg af] at H
 refine Y5 (au _ _ (aq _ _<|Zi fun bq a3=>Wr fun br a4=>Mv rfl<|O_y rfl (Hi rfl) ?_))
 obtain ⟨ad,ai,H⟩:=bnd H
 refine Oc rfl (Yl.c hs h1 ai) (fun bs w hpost=>?_)
 obtain ⟨rfl,hs⟩:=hpost
 refine As rfl<|Ox a4<|Wr fun bt a5=>Mv rfl<|Oge rfl<|Ox a5<|Xa rfl (fun aj=>?_) (fun aj=>?_)
 rw [if_pos aj] at H
 refine Wr fun a6 ak=>Mv rfl<|As rfl<|As rfl<|Ox ak<|W.weak [(4,_),(5,_)] (T2 rfl)<|Zm ?_
 obtain rfl:=Z4 H
 exact Zb4 rfl rfl rfl ⟨rfl,(hs.sub (ssk ssr))⟩
 rw [if_neg aj] at H
 refine Wx a3<|Wr fun a7 al=>As rfl<|As rfl<|Ox al<|Zm ?_
 obtain rfl:=Z4 H
 exact Zb4 rfl rfl rfl ⟨rfl,(hs.sub (ssk ssr))⟩

def K3.j1 (ae:Int→Int→Option Int) (aa ad:Int):Option Int:=ae ad (i64.wrap (aa+1))
def K3.l1:Nat→List Int→Int→Int→Int→Option Int
  | 0,_,_,_,_=>none
  | ac+1,x0,x1,ab,aa=>if aa<(x0.length:Int) then (if (0:Int)≤aa∧aa<(x0.length:Int) then (if x1≤(i64.wrap (rd x0 aa)) then (K3.j1 (K3.l1 ac x0 x1) aa (min ab (i64.wrap (rd x0 aa)))) else (K3.j1 (K3.l1 ac x0 x1) aa ab)) else none) else (some ab)
def K3.f (x0:List Int) (x1:Int):Option Int:=K3.l1 K0 x0 x1 1114111 0
theorem K3.c (hs:St w0 ρ (Γ) w) {v0:Value} {x0:List Int} (h0:SlR (Rep.int .i32) ρ v0 x0) {x1 r:Int} (H:K3.f x0 x1=some r):Zq Tryz.prog 121 [v0,.int .i64 x1] w (fun v w'=>v=.int .i64 r∧St w0 ρ Γ w'):=by
 rw [K3.f] at H
 refine Et Tryz.func121 Tryz.ntmps121 rfl<|Wr fun a1 al=>As rfl<|Ox al<|Wr fun a2 am=>As rfl<|Ox am<|Zi fun a3 an=>Wr fun a4 ao=>Mv rfl<|O_y rfl (Yx Ua h0 rfl) ?_
 refine Mv rfl<|Ox ao<|Zl fun a5 ap a6=>Xb (σ:=Nat×Int×Int) (fun (ac,ab,aa)=>[(1,.int .i64 x1),(5,.int .i64 ab),(8,v0),(9,.int .i64 (x0.length:Int)),(10,.int .i64 aa)]) (fun (ac,ab,aa) w=>K3.l1 ac x0 x1 ab aa=some r∧St w0 ρ (Γ) w) (fun s=>s.1) (K0,1114111,0) sbn (Ai H hs) ?_
 rintro ⟨ac,ab,aa⟩ w a7 ⟨H,hs⟩ af
 show W _ _ _ _ _ _ [(1,.int .i64 x1),(5,.int .i64 ab),(8,v0),(9,.int .i64 (x0.length:Int)),(10,.int .i64 aa)] w
 cases ac with
 | zero=>rw [K3.l1] at H;cases H
 | succ ac=>
 rw [K3.l1] at H
 refine Wr fun a8 aq=>Ols rfl<|Ox aq<|Zi fun a9 ar=>Xa rfl (fun ag=>?_) (fun ag=>?_)
 rw [if_pos ag] at H
 refine Wx ar<|Yt fun au av ai=>?_
 have aj:∀ (ad:Int) (w:World),K3.j1 (K3.l1 ac x0 x1) aa ad=some r→St w0 ρ (Γ) w→au [(1,.int .i64 x1),(5,.int .i64 ad),(8,v0),(9,.int .i64 (x0.length:Int)),(10,.int .i64 aa)] w:=by
  intro ad w H hs
  rw [K3.j1] at H
  refine av _ _<|Zc<|Oad rfl<|Mv rfl<|Zd (af (ac,ad,(i64.wrap (aa+1))) _ _ sbn (Ai H hs) (Nat.lt_succ_self _))
 refine Zl fun ba bb bc=>Zi fun bd aw=>Zc ?_
 obtain ⟨ak,H⟩:=gd H
 obtain ⟨be,bf,ax,ay⟩:=h0.ix Kk ak.1 ak.2
 refine O_y rfl (ay rfl rfl)<|O_y rfl (Xq Xn rfl (hs.see ax.int))<|As rfl<|Ox aw<|Wr fun bg az=>Mv rfl<|O_y rfl (Uc Za8 un3 rfl)<|Mv rfl<|Oge rfl<|Ox az<|Xa rfl (fun ah=>?_) (fun ah=>?_)
 rw [if_pos ah] at H
 refine Zc<|Mv rfl<|Mv rfl<|O_y rfl (Uc Za8 un3 rfl)<|O_y rfl (Zwc rfl rfl)<|As rfl<|Zd (ai _ _ _ sbn (aj (min ab (i64.wrap (rd x0 aa))) _ H hs))
 rw [if_neg ah] at H
 exact Ui (ai _ _ _ sbn (aj ab _ H hs))
 rw [if_neg ag] at H
 refine Y5 (ap _ _ (an _ _<|Wr fun bh a0=>Mv rfl<|As rfl<|Ox a0<|Zm ?_))
 obtain rfl:=Z4 H
 exact r1 rfl ⟨rfl,hs⟩

def H9.f (x0:Int):Option Int:=if x0<26 then (some (u8.wrap (i64.wrap (97+x0)))) else (some (u8.wrap (i64.wrap ((i64.wrap (48+x0))-26))))
theorem H9.c (hs:St w0 ρ (Γ) w) {x0 r:Int} (H:H9.f x0=some r):Zq Tryz.prog 158 [.int .i64 x0] w (fun v w'=>v=.int .u8 r∧St w0 ρ Γ w'):=by
 rw [H9.f] at H
 refine Et Tryz.func158 Tryz.ntmps158 rfl<|Wr fun ag ab=>As rfl<|Ox ab<|Zi fun ah ac=>Wr fun ai ad=>Mv rfl<|Ols rfl<|Ox ad<|Xa rfl (fun aa=>?_) (fun aa=>?_)
 rw [if_pos aa] at H
 refine Wr fun aj ae=>Mv rfl<|Oad rfl<|O_y rfl (Uc un3 un5 rfl)<|As rfl<|Ox ae<|Zm ?_
 obtain rfl:=Z4 H
 exact r1 rfl ⟨rfl,hs⟩
 rw [if_neg aa] at H
 refine Wx ac<|Wr fun ak af=>Mv rfl<|Oad rfl<|Osu rfl<|O_y rfl (Uc un3 un5 rfl)<|As rfl<|Ox af<|Zm ?_
 obtain rfl:=Z4 H
 exact r1 rfl ⟨rfl,hs⟩

def Qh.l1:Nat→S11→Int→List Int→Int→Int→Option (List Int)
  | 0,_,_,_,_,_=>none
  | af+1,x0,x2,aa,ab,ad=>(Kl.f x0 ad x2).bind fun ah=>(if ab<ah then ((H9.f ab).bind fun aj=>(if aa.length+([aj]).length≤most then (some (aa++([aj]))) else none)) else (if (i64.wrap (x0.base-ah))≠0 then ((H9.f (i64.wrap (ah+((i64.wrap (ab-ah)).tmod (i64.wrap (x0.base-ah)))))).bind fun ai=>(if aa.length+([ai]).length≤most then ((Qh.l1 af x0 x2) (aa++([ai])) (i64.wrap ((i64.wrap (ab-ah)).tdiv (i64.wrap (x0.base-ah)))) (i64.wrap (ad+x0.base))) else none)) else none))
def Qh.f (x0:S11) (x1 x2:Int):Option (List Int):=Qh.l1 K0 x0 x2 ([]:List Int) x1 x0.base
theorem Qh.c (hs:St w0 ρ (Γ) w) {c0:List Value} {x0:S11} (h0:Zd2.R ρ c0 x0) {x1 x2:Int} {r:List Int} (H:Qh.f x0 x1 x2=some r):Zq Tryz.prog 122 [.agg c0.toArray,.int .i64 x1,.int .i64 x2] w (fun v w'=>∃ (ρ':Hp) (v0:Value) (cs0:List Value),v=v0∧Le ρ ρ'∧St w0 ρ' (.row v0 5 (Rep.int .u8).sz r.length cs0::Γ) w'∧Zp (Rep.int .u8) ρ' cs0 r):=by
 rw [Qh.f] at H
 refine Et Tryz.func122 Tryz.ntmps122 rfl ?_
 have az:=h0
 obtain rfl:=az
 refine Wr fun bg a0=>Vn (cs:=[.int .i64 x0.base,.int .i64 x0.least,.int .i64 x0.most,.int .i64 x0.skew,.int .i64 x0.damp,.int .i64 x0.bias,.int .i64 x0.first,.int .u8 x0.between]) hs rfl rfl (fun ao w hs=>As rfl<|Ox a0<|Wr fun bh a1=>As rfl ?_)
 have hs:=hs.rowNil 5 (Rep.int .u8).sz
 have a2:=Zp.nil (Rep.int .u8) ρ
 refine Ox a1<|Wr fun bi a3=>Mv rfl<|As rfl<|Ox a3<|Wr fun bj a4=>Ofd Zbt rfl<|Obx 1 ag3 hs rfl<|As rfl<|Ox a4<|Zl fun bk bl bm=>Xb (σ:=Nat×List Int×Int×Int×Value×List Value) (fun (af,aa,ab,ad,ac,ae)=>[(2,.int .i64 x2),(3,.pointer (some ⟨ao,0,none⟩)),(7,ac),(8,.int .i64 ab),(9,.int .i64 ad)]) (fun (af,aa,ab,ad,ac,ae) w=>Qh.l1 af x0 x2 aa ab ad=some r∧St w0 ρ ((.row ac 5 ((Rep.int .u8).sz) aa.length ae)::(.box ao 117 ([.int .i64 x0.base,.int .i64 x0.least,.int .i64 x0.most,.int .i64 x0.skew,.int .i64 x0.damp,.int .i64 x0.bias,.int .i64 x0.first,.int .u8 x0.between]))::Γ) w∧Zp (Rep.int .u8) ρ ae aa) (fun s=>s.1) (K0,([]:List Int),x1,x0.base,(.slice none 0 0),([])) sbn (Ai H (Ai hs a2)) ?_
 rintro ⟨af,aa,ab,ad,ac,ae⟩ w bn ⟨H,hs,ag⟩ ak
 show W _ _ _ _ _ _ [(2,.int .i64 x2),(3,.pointer (some ⟨ao,0,none⟩)),(7,ac),(8,.int .i64 ab),(9,.int .i64 ad)] w
 cases af with
 | zero=>rw [Qh.l1] at H;cases H
 | succ af=>
 rw [Qh.l1] at H
 refine Zi fun bo a5=>Zl fun bp bq br=>Wr fun bs a6=>O_y rfl (Xl (i:=1) Zdr Zdz hs rfl rfl rfl rfl)<|Mv rfl<|Mv rfl ?_
 obtain ⟨ah,ap,H⟩:=bnd H
 refine Oc rfl (Kl.c hs h0 ap) (fun bt w hpost=>?_)
 obtain ⟨rfl,hs⟩:=hpost
 refine As rfl<|Ox a6<|Zi fun bu a7=>Wr fun bv a8=>Mv rfl<|Mv rfl<|Ols rfl<|Ox a8<|Xa rfl (fun aq=>?_) (fun aq=>?_)
 rw [if_pos aq] at H
 refine Wr fun bw a9=>Mv rfl<|Mv rfl ?_
 obtain ⟨aj,ar,H⟩:=bnd H
 refine Oc rfl (H9.c hs ar) (fun bx w hpost=>?_)
 obtain ⟨rfl,hs⟩:=hpost
 refine K6 (xs:=[.tmp 27]) (cs:=[.int .u8 aj]) Zii hs rfl rfl rfl (by decide) (by decide) rfl (Yd rfl Ki) (Zx rfl X6) (fun bz w hs=>?_)
 have ax:Zp (Rep.int .u8) ρ ([.int .u8 aj]) [aj]:=Zp.cons (c:=[.int .u8 aj]) (x:=aj) rfl (Zp.nil _ _)
 obtain ⟨ba,H⟩:=gd H
 refine Q3 (i:=1) Zii hs rfl ag rfl rfl rfl (Src.lit (j:=0) hs rfl ax) ax ba (fun b0 bb w bc hs=>As rfl<|Ox a9<|W.weak [(6,_)] (S1 rfl)<|Zm ?_)
 obtain rfl:=Z4 H
 exact r1 rfl ⟨_,_,_,rfl,Le.rfl' _,(hs.sub (ssk (ssc (ssk ssr)))),bc⟩
 rw [if_neg aq] at H
 refine Wx a7<|Wr fun b1 bd=>Mv rfl<|Mv rfl<|Mv rfl<|Mv rfl<|Osu rfl<|Ofd Zbt rfl<|Obx 1 ag3 hs rfl<|Mv rfl<|Osu rfl ?_
 obtain ⟨ay,H⟩:=gd H
 refine O_y rfl (Zlw rfl rfl ay)<|Oad rfl ?_
 obtain ⟨ai,al,H⟩:=bnd H
 refine Oc rfl (H9.c hs al) (fun be w hpost=>?_)
 obtain ⟨rfl,hs⟩:=hpost
 refine K6 (xs:=[.tmp 41]) (cs:=[.int .u8 ai]) Zii hs rfl rfl rfl (by decide) (by decide) rfl (Yd rfl Ki) (Zx rfl X6) (fun bf w hs=>?_)
 have am:Zp (Rep.int .u8) ρ ([.int .u8 ai]) [ai]:=Zp.cons (c:=[.int .u8 ai]) (x:=ai) rfl (Zp.nil _ _)
 obtain ⟨au,H⟩:=gd H
 refine Q3 (i:=1) Zii hs rfl ag rfl rfl rfl (Src.lit (j:=0) hs rfl am) am au (fun av an w aw hs=>As rfl<|Ox bd<|W.weak [(2,_),(3,_),(7,_),(8,_),(9,_),(10,_)] sbn ?_)
 refine Zc<|Mv rfl<|Mv rfl<|Osu rfl<|Ofd Zbt rfl<|Obx 2 ag3 hs rfl<|Mv rfl<|Osu rfl<|O_y rfl (Zdx rfl rfl ay)<|As rfl<|Ox a5<|Zc<|Mv rfl<|Ofd Zbt rfl ?_
 refine Obx 2 ag3 hs rfl<|Oad rfl<|As rfl<|Zd (ak (af,(aa++([ai])),(i64.wrap ((i64.wrap (ab-ah)).tdiv (i64.wrap (x0.base-ah)))),(i64.wrap (ad+x0.base)),av,an) _ _ sbn (Ai H (Ai (hs.sub (ssk (ssc (ssc ssr)))) aw)) (Nat.lt_succ_self _))

end Go.Proofs.YthoicbafdanmkaaGreatDoor
/- Written by this repo's gen.py: for each Go function a Lean function with the same answers and the walk that shows it. -/
namespace Go.Proofs.YthoicbafdanmkaaGreatDoor
open Go.IntKind (i8 i16 i32 i64 u8 u16 u32 u64)
open Go.RowKit
set_option maxRecDepth 100000
set_option maxHeartbeats 4000000
variable {w0 w:World} {ρ:Hp} {Γ:List Kd}
set_option linter.unusedVariables false
def Zk.j1 (ff:(List (Vector Int 2×Int))→Int→Option (Option Tbs×Int)) (ab:Int) (bj:List (Vector Int 2×Int)):Option (Option Tbs×Int):=ff bj (i64.wrap (ab+1))
def Zk.j2 (ff:(List (Vector Int 2×Int))→Int→Option (Option Tbs×Int)) (ap:Bk) (ac:List (Vector Int 2×Int)) (ab:Int) (b6:Bool):Option (Option Tbs×Int):=if b6=true then (if (0:Int)≤0∧0<(((rd ap.decomp ab).is_).length:Int) then (if (0:Int)≤1∧1<(((rd ap.decomp ab).is_).length:Int) then (Zk.j1 ff ab (H1 ac (#v[rd ((rd ap.decomp ab).is_) 0,rd ((rd ap.decomp ab).is_) 1]) ((rd ap.decomp ab).lo))) else none) else none) else (Zk.j1 ff ab ac)
def Zk.l1:Nat→Bk→Option Tab→Option Tab→Option Tab→Option Tab→Option Tab→Option Tab→Option Tab→Option Tab→Option Tab→Option Tab→(List (Vector Int 2×Int))→Int→Option (Option Tbs×Int)
  | 0,_,_,_,_,_,_,_,_,_,_,_,_,_=>none
  | bs+1,ap,af,ad,ag,ah,ai,ae,aj,ak,al,am,ac,ab=>if ab<(ap.decomp.length:Int) then (if (0:Int)≤ab∧ab<(ap.decomp.length:Int) then (if (((rd ap.decomp ab).is_).length:Int)=2 then ((Z1.f ae ((rd ap.decomp ab).lo)).bind fun ku=>(if ku=0 then ((Z1.f ad ((rd ap.decomp ab).lo)).bind fun kv=>(if kv=0 then (if (0:Int)≤0∧0<(((rd ap.decomp ab).is_).length:Int) then ((Z1.f ad (rd ((rd ap.decomp ab).is_) 0)).bind fun j8=>(Zk.j2 (Zk.l1 bs ap af ad ag ah ai ae aj ak al am) ap ac ab (decide (j8=0)))) else none) else (Zk.j2 (Zk.l1 bs ap af ad ag ah ai ae aj ak al am) ap ac ab false))) else (Zk.j2 (Zk.l1 bs ap af ad ag ah ai ae aj ak al am) ap ac ab false))) else (Zk.j2 (Zk.l1 bs ap af ad ag ah ai ae aj ak al am) ap ac ab false)) else none) else (some ((some (⟨(⟨ap.names,ap.status,ap.maps,ap.class_,ap.decomp,ap.excl,ap.bidi,ap.join,ap.marks,ap.script,ap.like⟩:Bk),af,ad,ag,ah,ai,ae,aj,ak,al,am,ac⟩:Tbs)),0))
def Zk.j3 (ap:Bk) (af ad ag ah ai ae aj ak al am:Option Tab):Option (Option Tbs×Int):=Zk.l1 K0 ap af ad ag ah ai ae aj ak al am ([]:List (Vector Int 2×Int)) 0
def Zk.t1 (ap:Bk) (b9 ca cb cc cd ce cf cg ch:Option Tab):Option (Option Tbs×Int):=(Ya.f ap.like).bind fun j9=>(Zk.j3 ap b9 ca cb cc cd ce cf cg ch j9)
def Zk.t2 (ap:Bk) (ci cj ck cl cm cn co cp:Option Tab):Option (Option Tbs×Int):=(Ya.f ap.decomp).bind fun ka=>(Zk.t1 ap ci cj ck cl cm cn co cp ka)
def Zk.t3 (ap:Bk) (cq cr ct cu cv cw cx:Option Tab):Option (Option Tbs×Int):=(Ya.f ap.maps).bind fun kb=>(Zk.t2 ap cq cr ct cu cv cw cx kb)
def Zk.t4 (ap:Bk) (cy cz da db dc dd:Option Tab):Option (Option Tbs×Int):=(K7.f ap.marks).bind fun kc=>(Zk.t3 ap cy cz da db dc dd kc)
def Zk.t5 (ap:Bk) (de df dg dh di:Option Tab):Option (Option Tbs×Int):=(K7.f ap.excl).bind fun kd=>(Zk.t4 ap de df dg dh di kd)
def Zk.t6 (ap:Bk) (dk dl dm dn:Option Tab):Option (Option Tbs×Int):=(Qi.f ap.script).bind fun ke=>(Zk.t5 ap dk dl dm dn ke)
def Zk.t7 (ap:Bk) (dp dq dr:Option Tab):Option (Option Tbs×Int):=(Qi.f ap.join).bind fun kf=>(Zk.t6 ap dp dq dr kf)
def Zk.t8 (ap:Bk) (ds dt:Option Tab):Option (Option Tbs×Int):=(Qi.f ap.bidi).bind fun kg=>(Zk.t7 ap ds dt kg)
def Zk.t9 (ap:Bk) (du:Option Tab):Option (Option Tbs×Int):=(Qi.f ap.class_).bind fun kh=>(Zk.t8 ap du kh)
def Zk.t10 (ap:Bk):Option (Option Tbs×Int):=(Qi.f ap.status).bind fun ki=>(Zk.t9 ap ki)
def Zk.f (x0:Bk):Option (Option Tbs×Int):=(Vb.f x0).bind fun bl=>(if bl.2≠0 then (some (none,bl.2)) else ((Zat.f x0).bind fun ap=>(Zk.t10 ap )))
theorem Zk.c (hs:St w0 ρ (Γ) w) {c0:List Value} {x0:Bk} (h0:rBk.R ρ c0 x0) {r:Option Tbs×Int} (H:Zk.f x0=some r):Zq Tryz.prog 27 [.agg c0.toArray] w (fun v w'=>∃ (ρ':Hp) (v0:Value),v=.tuple #[v0,.int .i64 r.2]∧Le ρ ρ'∧St w0 ρ' (Γ) w'∧Xw H4 ρ' v0 r.1):=by
 rw [Zk.f] at H
 refine Et Tryz.func27 Tryz.ntmps27 rfl ?_
 have pb:=h0
 obtain ⟨pc,pd,pe,pf,pg,ph,pi,pj,pk,pl,pm,rfl,sb,sc,sd,se,sf,sg,si,sj,sk,sl,sm⟩:=pb
 refine Wr fun sn pn=>Vn (cs:=[pc,pd,pe,pf,pg,ph,pi,pj,pk,pl,pm]) hs rfl rfl (fun b3 w hs=>As rfl<|As rfl<|Ox pn<|Zi fun so po=>Wr fun sp pp=>O_y rfl (Xl (i:=0) Zk3 Zkz hs rfl rfl rfl rfl) ?_)
 obtain ⟨bl,l8,H⟩:=bnd H
 refine Oc rfl (Vb.c hs h0 l8) (fun sq w hpost=>?_)
 obtain ⟨pq,pr,rfl,kj,hs,ps⟩:=hpost
 have pt:=ps
 obtain rfl:=pt
 refine Mv rfl<|Oxt rfl<|Oxt rfl<|Y6 Zci hs rfl (fun fb w hs=>Ye (i:=0) H0 hs rfl rfl rfl rfl rfl (Zb rfl (Zb rfl Ym)) (fun w hs=>As rfl<|Ox pp<|Wr fun sr pu=>Mv rfl<|One rfl<|Ox pu<|Xa rfl (fun l9=>?_) (fun l9=>?_)))
 rw [if_pos l9] at H
 refine Wr fun ss pv=>Mv rfl<|As rfl<|As rfl<|Ox pv<|Zm ?_
 have pw:Xw H4 pq (.pointer none) none:=Xw.nil _ _
 obtain rfl:=Z4 H
 exact Zb4 rfl rfl rfl ⟨_,_,rfl,kj,(hs.sub (ssk (ssk ssr))),pw⟩
 rw [if_neg l9] at H
 refine Wx po<|Wr fun st px=>O_y rfl (Xl (i:=1) Zk3 Zkz hs rfl rfl rfl rfl) ?_
 obtain ⟨ap,ma,H⟩:=bnd H
 refine Oc rfl (Zat.c hs (rBk.mono kj h0) ma) (fun py w hpost=>?_)
 obtain ⟨br,pa,rfl,kw,hs,mb⟩:=hpost
 have mc:=mb
 obtain ⟨ba,a9,aq,a8,an,au,a7,a6,ar,a5,ao,rfl,kx,jn,jo,jp,hf,jq,jr,js,jt,ju,jv⟩:=mc
 refine Ye (i:=1) Zkz hs rfl rfl rfl rfl rfl (Zb kx.one (Zb jn.one (Zb jo.one (Zb jp.one (Zb hf.one (Zb jq.one (Zb jr.one (Zb js.one (Zb jt.one (Zb ju.one (Zb jv.one Ym))))))))))) (fun w hs=>Ox px<|W.weak [(1,_)] (S1 rfl)<|Wr fun pz md=>As rfl<|Ox md<|Yt fun me mf ky=>?_)
 have kz:∀ (af ad ag ah ai ae aj ak al am:Option Tab) (av aw ax ay az a0 a1 a2 a3 a4:Value) (bm aa:Nat) (bn:Hp) (w:World),Zk.j3 ap af ad ag ah ai ae aj ak al am=some r→Le br bn→St w0 bn ((.box bm 114 ([ba,a9,aq,a8,an,au,a7,a6,ar,a5,ao,av,aw,ax,ay,az,a0,a1,a2,a3,a4,.map (some aa)]))::(.obj aa (X7 Uo.enc (vs (Value.int .i32) ([]:List (Vector Int 2×Int)))))::(.box fb 100 ([.int .i64 bl.1.list,.int .i64 bl.1.row]))::(.box b3 27 ([ba,a9,aq,a8,an,au,a7,a6,ar,a5,ao]))::Γ) w→Xw Vj bn av af→Xw Vj bn aw ad→Xw Vj bn ax ag→Xw Vj bn ay ah→Xw Vj bn az ai→Xw Vj bn a0 ae→Xw Vj bn a1 aj→Xw Vj bn a2 ak→Xw Vj bn a3 al→Xw Vj bn a4 am→me [(1,.pointer (some ⟨b3,0,none⟩)),(7,.pointer (some ⟨bm,0,none⟩))] w:=by
  intro af ad ag ah ai ae aj ak al am av aw ax ay az a0 a1 a2 a3 a4 bm aa bn w H bk hs fg bq fh fi fj b7 fk fl fm fn
  rw [Zk.j3] at H
  refine mf _ _<|Zi fun p0 mg=>Wr fun p1 mh=>Ofd Zfp rfl<|Obx 3 Zfe hs rfl<|O_y rfl (Yx Zfs (hf.mono bk) rfl)<|Mv rfl<|Ox mh<|Zl fun p2 mi p3=>Xb (σ:=Nat×(List (Vector Int 2×Int))×Int) (fun (bs,ac,ab)=>[(7,.pointer (some ⟨bm,0,none⟩)),(60,an),(61,.int .i64 (ap.decomp.length:Int)),(62,.int .i64 ab)]) (fun (bs,ac,ab) w=>Zk.l1 bs ap af ad ag ah ai ae aj ak al am ac ab=some r∧St w0 bn ((.box bm 114 ([ba,a9,aq,a8,an,au,a7,a6,ar,a5,ao,av,aw,ax,ay,az,a0,a1,a2,a3,a4,.map (some aa)]))::(.obj aa (X7 Uo.enc (vs (Value.int .i32) ac)))::(.box fb 100 ([.int .i64 bl.1.list,.int .i64 bl.1.row]))::(.box b3 27 ([ba,a9,aq,a8,an,au,a7,a6,ar,a5,ao]))::Γ) w) (fun s=>s.1) (K0,([]:List (Vector Int 2×Int)),0) (T4 rfl) (Ai H hs) ?_
  rintro ⟨bs,ac,ab⟩ w p4 ⟨H,hs⟩ jw
  show W _ _ _ _ _ _ [(7,.pointer (some ⟨bm,0,none⟩)),(60,an),(61,.int .i64 (ap.decomp.length:Int)),(62,.int .i64 ab)] w
  cases bs with
  | zero=>rw [Zk.l1] at H;cases H
  | succ bs=>
  rw [Zk.l1] at H
  refine Wr fun p5 mj=>Ols rfl<|Ox mj<|Zi fun p6 mk=>Xa rfl (fun kk=>?_) (fun kk=>?_)
  rw [if_pos kk] at H
  refine Wx mk<|Yt fun ml mm k0=>?_
  have k1:∀ (bj:List (Vector Int 2×Int)) (w:World),Zk.j1 (Zk.l1 bs ap af ad ag ah ai ae aj ak al am) ab bj=some r→St w0 bn ((.box bm 114 ([ba,a9,aq,a8,an,au,a7,a6,ar,a5,ao,av,aw,ax,ay,az,a0,a1,a2,a3,a4,.map (some aa)]))::(.obj aa (X7 Uo.enc (vs (Value.int .i32) bj)))::(.box fb 100 ([.int .i64 bl.1.list,.int .i64 bl.1.row]))::(.box b3 27 ([ba,a9,aq,a8,an,au,a7,a6,ar,a5,ao]))::Γ) w→ml [(7,.pointer (some ⟨bm,0,none⟩)),(60,an),(61,.int .i64 (ap.decomp.length:Int)),(62,.int .i64 ab)] w:=by
   intro bj w H hs
   rw [Zk.j1] at H
   refine mm _ _<|Zc<|Oad rfl<|Mv rfl<|Zd (jw (bs,bj,(i64.wrap (ab+1))) _ _ (T4 rfl) (Ai H hs) (Nat.lt_succ_self _))
  refine Zl fun p7 p8 p9=>Zi fun qa mn=>Zc ?_
  obtain ⟨k2,H⟩:=gd H
  obtain ⟨qb,qc,mo,mp⟩:=(hf.mono bk).ix Zep k2.1 k2.2
  obtain ⟨_,⟨kl,rfl,hk⟩,mq⟩:=mo
  refine O_y rfl (mp rfl rfl)<|O_y rfl (Q0 Zb1 Zap rfl rfl (fun j u hu=>hs.see (mq j u hu)))<|Y6 Zh1 hs rfl (fun jx w hs=>Ye (i:=0) Zap hs rfl rfl rfl rfl rfl (Zb rfl (Zb rfl (Zb hk.one Ym))) (fun w hs=>Ox mn<|Yt fun mr ms jy=>?_))
  have jz:∀ (b6:Bool) (w:World),Zk.j2 (Zk.l1 bs ap af ad ag ah ai ae aj ak al am) ap ac ab b6=some r→St w0 bn ((.box jx 110 ([.int .i32 ((rd ap.decomp ab).lo),.int .i32 ((rd ap.decomp ab).hi),kl]))::(.box bm 114 ([ba,a9,aq,a8,an,au,a7,a6,ar,a5,ao,av,aw,ax,ay,az,a0,a1,a2,a3,a4,.map (some aa)]))::(.obj aa (X7 Uo.enc (vs (Value.int .i32) ac)))::(.box fb 100 ([.int .i64 bl.1.list,.int .i64 bl.1.row]))::(.box b3 27 ([ba,a9,aq,a8,an,au,a7,a6,ar,a5,ao]))::Γ) w→mr [(7,.pointer (some ⟨bm,0,none⟩)),(9,.pointer (some ⟨jx,0,none⟩)),(60,an),(61,.int .i64 (ap.decomp.length:Int)),(62,.int .i64 ab),(101,.bool b6)] w:=by
   intro b6 w H hs
   rw [Zk.j2] at H
   refine ms _ _<|Xh rfl (fun km=>?_) (fun km=>?_)
   rw [if_pos km] at H
   refine Qt 16 [0,1,2,4,0,16,32,64,0,256,512,1024,2176,0,8192,32767] [32764,32760,32752,32752,32719,32655,32527,28431,31999,30975,28927,24831,24591,8191,8191,0] [0,1,3,7,0,16,48,112,0,256,768,1792,4080,0,8192,32767] [15] (fun w=>St w0 bn ((.box jx 110 ([.int .i32 ((rd ap.decomp ab).lo),.int .i32 ((rd ap.decomp ab).hi),kl]))::(.box bm 114 ([ba,a9,aq,a8,an,au,a7,a6,ar,a5,ao,av,aw,ax,ay,az,a0,a1,a2,a3,a4,.map (some aa)]))::(.obj aa (X7 Uo.enc (vs (Value.int .i32) ac)))::(.box fb 100 ([.int .i64 bl.1.list,.int .i64 bl.1.row]))::(.box b3 27 ([ba,a9,aq,a8,an,au,a7,a6,ar,a5,ao]))::Γ) w) Vr (by kernel_rfl) (fun sh=>?_)
   have hs:=hs.drew
   refine Fm 0 sh rfl<|Fp 1 sh rfl (fun w=>Vh rfl)<|Fp 2 sh rfl (fun w=>Zw Zoc rfl)<|Fy 3 sh rfl hs (fun w hs=>Yb 1 Zx9 hs rfl rfl rfl)<|Fp 4 sh rfl (fun w=>Zw Zac rfl)<|Fy 5 sh rfl hs (fun w hs=>Yb 0 Za1 hs rfl rfl rfl) ?_
   obtain ⟨k3,H⟩:=gd H
   obtain ⟨qd,qe,mt,mu⟩:=hk.ix Kk k3.1 k3.2
   refine Fp 6 sh rfl (fun w=>mu rfl rfl)<|Fy 7 sh rfl hs (fun w hs=>Xq Xn rfl (hs.see mt.int))<|Fp 8 sh rfl (fun w=>Zw Zac rfl)<|Fy 9 sh rfl hs (fun w hs=>Yb 0 Za1 hs rfl rfl rfl) ?_
   obtain ⟨k4,H⟩:=gd H
   obtain ⟨qf,qg,mv,mw⟩:=hk.ix Kk k4.1 k4.2
   refine Fp 10 sh rfl (fun w=>mw rfl rfl)<|Fy 11 sh rfl hs (fun w hs=>Xq Xn rfl (hs.see mv.int))<|Fp 12 sh rfl (fun w=>Zfz (xs:=[.tmp 109,.tmp 113]) (zs:=vcs (Value.int .i32) #v[rd ((rd ap.decomp ab).is_) 0,rd ((rd ap.decomp ab).is_) 1]) Zsa Zg3 Zv0 rfl rfl rfl (Zc4 rfl (Zc4 rfl Zni)) rfl)<|Fp 13 sh rfl (fun w=>Zw Zb3 rfl)<|Fy 14 sh rfl hs (fun w hs=>Yb 0 Xn hs rfl rfl rfl)<|F1 15 sh rfl (fun qh mx=>Zdg (i:=2) (m:=ac) (x:=#v[rd ((rd ap.decomp ab).is_) 0,rd ((rd ap.decomp ab).is_) 1]) (v:=(rd ap.decomp ab).lo) (E:=(Value.int .i32)) Zyo Uo trivial (fun _ _=>trivial) hs rfl rfl rfl rfl (fun w hs=>Zd (mx _ _ (fun h _=>absurd h (by decide))<|FE sh (k0 _ _ _ (T4 rfl) (k1 (H1 ac (#v[rd ((rd ap.decomp ab).is_) 0,rd ((rd ap.decomp ab).is_) 1]) ((rd ap.decomp ab).lo)) _ H (hs.sub (ssk (ssc (ssc (ssc (ssc ssr)))))))))))
   rw [if_neg (bft km)] at H
   exact Ui (k0 _ _ _ (T4 rfl) (k1 ac _ H (hs.sub (ssk (ssc (ssc (ssc (ssc ssr))))))))
  refine Qt 36 [0,1,2,4,8,16,48,80,144,16,528,1296,2064,4112,10240,16384,49152,81920,147456,16384,540672,1327104,2113536,4210688,10485760,16777216,50331648,83886080,150994944,16777216,553648128,1090519040,2164260864,4580179968,8606711808,17196646400] [68719476732,68719476728,68719476720,68719476704,68719460352,68719476608,68719476480,68719476224,68719474176,68719475168,68719473120,68719452160,68719460352,68719443968,68702699520,68719345664,68719214592,68718952448,68716855296,68717871104,68715773952,68694310912,68702699520,68685922304,0,68585259008,68451041280,68182605824,59592671232,67075309568,64927825920,60632858624,52042924032,34359738368,0,0] [0,1,3,7,15,31,63,127,255,31,543,2047,4095,8191,16383,32767,65535,131071,262143,32767,557055,2097151,4194303,8388607,16777215,33554431,67108863,134217727,268435455,33554431,570425343,1644167167,3791650815,8589934591,17179869183,34359738367] [11,12,13,14,15,16,17,18,19,20,21,22,23,24,25,26,27,28,29,30,31,32,33,34,35] (fun w=>St w0 bn ((.box jx 110 ([.int .i32 ((rd ap.decomp ab).lo),.int .i32 ((rd ap.decomp ab).hi),kl]))::(.box bm 114 ([ba,a9,aq,a8,an,au,a7,a6,ar,a5,ao,av,aw,ax,ay,az,a0,a1,a2,a3,a4,.map (some aa)]))::(.obj aa (X7 Uo.enc (vs (Value.int .i32) ac)))::(.box fb 100 ([.int .i64 bl.1.list,.int .i64 bl.1.row]))::(.box b3 27 ([ba,a9,aq,a8,an,au,a7,a6,ar,a5,ao]))::Γ) w) Vr (by kernel_rfl) (fun sh=>?_)
  have hs:=hs.drew
  refine Fp 0 sh rfl (fun w=>Zw Zac rfl)<|Fy 1 sh rfl hs (fun w hs=>Yb 0 Za1 hs rfl rfl rfl)<|Fp 2 sh rfl (fun w=>Yx Ua hk rfl)<|Fp 3 sh rfl (fun w=>Zbw rfl rfl)<|Fm 4 sh rfl<|Za4 (dj:=70) rfl (fun kn=>?_) (fun kn=>?_)
  rw [if_pos kn] at H
  refine Fp 5 sh rfl (fun w=>Qm rfl)<|Fp 6 sh rfl (fun w=>Vh rfl)<|Fp 7 sh rfl (fun w=>Zw Zwk rfl)<|Fy 8 sh rfl hs (fun w hs=>Yb 1 Zc5 hs rfl rfl rfl)<|Fp 9 sh rfl (fun w=>Zw Zb3 rfl)<|Fy 10 sh rfl hs (fun w hs=>Yb 0 Xn hs rfl rfl rfl)<|F1 11 sh rfl (fun qi my=>Oe rfl ?_)
  obtain ⟨ku,k5,H⟩:=bnd H
  refine Oc rfl (Z1.c hs b7 k5) (fun qj w hpost=>?_)
  obtain ⟨rfl,hs⟩:=hpost
  refine Zd (my _ _ (fun h _=>absurd h (by decide))<|Kn sh [21,22,23,24,25,26,27,28,29,30,31,32,33,34,35] hs (by kernel_rfl)<|Fp 12 sh rfl (fun w=>Zbw rfl rfl)<|Fp 13 sh rfl (fun w=>Ve rfl rfl)<|Fm 14 sh rfl<|Za4 (dj:=80) rfl (fun ko=>?_) (fun ko=>?_))
  rw [if_pos ko] at H
  refine Fp 15 sh rfl (fun w=>Qm rfl)<|Fp 16 sh rfl (fun w=>Vh rfl)<|Fp 17 sh rfl (fun w=>Zw Znq rfl)<|Fy 18 sh rfl hs (fun w hs=>Yb 1 Zc5 hs rfl rfl rfl)<|Fp 19 sh rfl (fun w=>Zw Zb3 rfl)<|Fy 20 sh rfl hs (fun w hs=>Yb 0 Xn hs rfl rfl rfl)<|F1 21 sh rfl (fun qk mz=>Oe rfl ?_)
  obtain ⟨kv,k6,H⟩:=bnd H
  refine Oc rfl (Z1.c hs bq k6) (fun ql w hpost=>?_)
  obtain ⟨rfl,hs⟩:=hpost
  refine Zd (mz _ _ (fun h _=>absurd h (by decide))<|Kn sh [33,34,35] hs (by kernel_rfl)<|Fp 22 sh rfl (fun w=>Zbw rfl rfl)<|Fp 23 sh rfl (fun w=>Ve rfl rfl)<|Fm 24 sh rfl<|Za4 (dj:=90) rfl (fun kp=>?_) (fun kp=>?_))
  rw [if_pos kp] at H
  refine Fp 25 sh rfl (fun w=>Qm rfl)<|Fp 26 sh rfl (fun w=>Vh rfl)<|Fp 27 sh rfl (fun w=>Zw Znq rfl)<|Fy 28 sh rfl hs (fun w hs=>Yb 1 Zc5 hs rfl rfl rfl)<|Fp 29 sh rfl (fun w=>Zw Zac rfl)<|Fy 30 sh rfl hs (fun w hs=>Yb 0 Za1 hs rfl rfl rfl) ?_
  obtain ⟨k7,H⟩:=gd H
  obtain ⟨qm,qn,m0,m1⟩:=hk.ix Kk k7.1 k7.2
  refine Fp 31 sh rfl (fun w=>m1 rfl rfl)<|Fy 32 sh rfl hs (fun w hs=>Xq Xn rfl (hs.see m0.int))<|F1 33 sh rfl (fun qo m2=>Oe rfl ?_)
  obtain ⟨j8,k8,H⟩:=bnd H
  refine Oc rfl (Z1.c hs bq k8) (fun qp w hpost=>?_)
  obtain ⟨rfl,hs⟩:=hpost
  refine Zd (m2 _ _ (fun h _=>absurd h (by decide))<|Kn sh [] hs (by kernel_rfl)<|Fp 34 sh rfl (fun w=>Zbw rfl rfl)<|Fp 35 sh rfl (fun w=>Ve rfl rfl)<|FE sh (jy _ _ _ sbn (jz (decide (j8=0)) _ H hs)))
  rw [if_neg kp] at H
  refine Fn 25 sh rfl<|Fn 26 sh rfl<|Fn 27 sh rfl<|Fn 28 sh rfl<|Fn 29 sh rfl<|Fn 30 sh rfl<|Fn 31 sh rfl<|Fn 32 sh rfl<|Fn 33 sh rfl<|Fn 34 sh rfl<|Fp 35 sh rfl (fun w=>Qr rfl rfl)<|FE sh (jy _ _ _ sbn (jz false _ H hs))
  rw [if_neg ko] at H
  refine Fn 15 sh rfl<|Fn 16 sh rfl<|Fn 17 sh rfl<|Fn 18 sh rfl<|Fn 19 sh rfl<|Fn 20 sh rfl<|Fn 21 sh rfl<|Fn 22 sh rfl<|Fp 23 sh rfl (fun w=>Qr rfl rfl)<|Fm 24 sh rfl<|Fn 25 sh rfl<|Fn 26 sh rfl<|Fn 27 sh rfl<|Fn 28 sh rfl ?_
  refine Fn 29 sh rfl<|Fn 30 sh rfl<|Fn 31 sh rfl<|Fn 32 sh rfl<|Fn 33 sh rfl<|Fn 34 sh rfl<|Fp 35 sh rfl (fun w=>Qr rfl rfl)<|FE sh (jy _ _ _ sbn (jz false _ H hs))
  rw [if_neg kn] at H
  refine Fn 5 sh rfl<|Fn 6 sh rfl<|Fn 7 sh rfl<|Fn 8 sh rfl<|Fn 9 sh rfl<|Fn 10 sh rfl<|Fn 11 sh rfl<|Fn 12 sh rfl<|Fp 13 sh rfl (fun w=>Qr rfl rfl)<|Fm 14 sh rfl<|Fn 15 sh rfl<|Fn 16 sh rfl<|Fn 17 sh rfl<|Fn 18 sh rfl ?_
  refine Fn 19 sh rfl<|Fn 20 sh rfl<|Fn 21 sh rfl<|Fn 22 sh rfl<|Fp 23 sh rfl (fun w=>Qr rfl rfl)<|Fm 24 sh rfl<|Fn 25 sh rfl<|Fn 26 sh rfl<|Fn 27 sh rfl<|Fn 28 sh rfl<|Fn 29 sh rfl<|Fn 30 sh rfl<|Fn 31 sh rfl<|Fn 32 sh rfl ?_
  refine Fn 33 sh rfl<|Fn 34 sh rfl<|Fp 35 sh rfl (fun w=>Qr rfl rfl)<|FE sh (jy _ _ _ sbn (jz false _ H hs))
  rw [if_neg kk] at H
  refine Y5 (mi _ _ (mg _ _<|Wr fun qq m3=>Mv rfl<|As rfl<|As rfl<|Ox m3<|Zm ?_))
  obtain ⟨qr,bg,hs,m4⟩:=hs.objEnd (enc:=(fun y:Vector Int 2=>Value.agg (acs .i32 y.toList).toArray)) (E:=(Value.int .i32)) (m:=ac) (j:=1) rfl
  obtain ⟨m5,bf,hs,k9⟩:=hs.boxEnd (j:=0) rfl
  have m6:Xw H4 m5 (.pointer (some ⟨bm,0,none⟩)) (some (⟨(⟨ap.names,ap.status,ap.maps,ap.class_,ap.decomp,ap.excl,ap.bidi,ap.join,ap.marks,ap.script,ap.like⟩:Bk),af,ad,ag,ah,ai,ae,aj,ak,al,am,ac⟩:Tbs)):=.inr ⟨bm,_,rfl,rfl,_,⟨_,_,_,_,_,_,_,_,_,_,_,_,_,_,_,_,_,_,_,_,_,_,rfl,(kx.mono ((bk.trans bg).trans bf)),(jn.mono ((bk.trans bg).trans bf)),(jo.mono ((bk.trans bg).trans bf)),(jp.mono ((bk.trans bg).trans bf)),(hf.mono ((bk.trans bg).trans bf)),(jq.mono ((bk.trans bg).trans bf)),(jr.mono ((bk.trans bg).trans bf)),(js.mono ((bk.trans bg).trans bf)),(jt.mono ((bk.trans bg).trans bf)),(ju.mono ((bk.trans bg).trans bf)),(jv.mono ((bk.trans bg).trans bf)),(fg.mono (bg.trans bf)),(bq.mono (bg.trans bf)),(fh.mono (bg.trans bf)),(fi.mono (bg.trans bf)),(fj.mono (bg.trans bf)),(b7.mono (bg.trans bf)),(fk.mono (bg.trans bf)),(fl.mono (bg.trans bf)),(fm.mono (bg.trans bf)),(fn.mono (bg.trans bf)),(m4.mono bf)⟩,k9⟩
  obtain rfl:=Z4 H
  exact Zb4 rfl rfl rfl ⟨_,_,rfl,((((kj.trans kw).trans bk).trans bg).trans bf),(hs.sub (ssk (ssk ssr))),m6⟩
 refine Qt 40 [0,0,0,4,10,0,0,64,176,0,0,1024,2816,0,0,16384,45056,0,0,262144,720896,0,2097152,5242880,0,16777216,41943040,0,134217728,335544320,0,1073741824,2684354560,0,8589934592,21474836480,0,107987669265,137438953472,549755813887] [412316860414,549755813869,549755813875,549755813859,412316860129,549755813599,549755813695,549755813439,412316855809,549755809279,549755810815,549755806719,412316786689,549755740159,549755764735,549755699199,412315680769,549754634239,549755027455,549753978879,412306374657,549749522431,549741133823,412232974337,549705482239,549638373375,411645771777,549353160703,548816289791,406948151297,546534588415,542239621119,369367187457,523986010111,489626271743,343597383681,343597383679,0,0,0] [0,0,0,4,14,0,0,64,254,0,0,1024,4094,0,0,16384,65534,0,0,262144,1048574,0,2097152,8388606,0,16777216,67108862,0,134217728,536870910,0,1073741824,4294967294,0,8589934592,34359738366,0,137438953471,274877906943,549755813887] [] (fun w=>St w0 br ((.box fb 100 ([.int .i64 bl.1.list,.int .i64 bl.1.row]))::(.box b3 27 ([ba,a9,aq,a8,an,au,a7,a6,ar,a5,ao]))::Γ) w) Vr (by kernel_rfl) (fun sh=>?_)
 have hs:=hs.drew
 refine Fy 0 sh rfl hs (fun w hs=>Xl (i:=1) Zk3 Zkz hs rfl rfl rfl rfl)<|Fm 1 sh rfl<|Fp 2 sh rfl (fun w=>Zw Zd7 rfl)<|Fy 3 sh rfl hs (fun w hs=>Yb 1 Zbx hs rfl rfl rfl)<|Fm 5 sh rfl<|Fp 6 sh rfl (fun w=>Zw Zmg rfl)<|Fy 7 sh rfl hs (fun w hs=>Yb 1 Zbx hs rfl rfl rfl)<|Fm 9 sh rfl<|Fp 10 sh rfl (fun w=>Zw Zne rfl)<|Fy 11 sh rfl hs (fun w hs=>Yb 1 Zbx hs rfl rfl rfl)<|Fm 13 sh rfl<|Fp 14 sh rfl (fun w=>Zw Znm rfl)<|Fy 15 sh rfl hs (fun w hs=>Yb 1 Zbx hs rfl rfl rfl)<|Fm 17 sh rfl ?_
 refine Fp 18 sh rfl (fun w=>Zw Zmt rfl)<|Fy 19 sh rfl hs (fun w hs=>Yb 1 Zbx hs rfl rfl rfl)<|Fp 21 sh rfl (fun w=>Zw Zmc rfl)<|Fy 22 sh rfl hs (fun w hs=>Yb 1 Zn5 hs rfl rfl rfl)<|Fp 24 sh rfl (fun w=>Zw Znf rfl)<|Fy 25 sh rfl hs (fun w hs=>Yb 1 Zn5 hs rfl rfl rfl)<|Fp 27 sh rfl (fun w=>Zw Zm1 rfl)<|Fy 28 sh rfl hs (fun w hs=>Yb 1 Zfe hs rfl rfl rfl)<|Fp 30 sh rfl (fun w=>Zw Zfp rfl)<|Fy 31 sh rfl hs (fun w hs=>Yb 1 Zfe hs rfl rfl rfl)<|Fp 33 sh rfl (fun w=>Zw Zir rfl)<|Fy 34 sh rfl hs (fun w hs=>Yb 1 Zfe hs rfl rfl rfl)<|Zva fun fs bb=>?_
 have la:∀ (b9 ca cb cc cd ce cf cg ch:Option Tab) (aa:Nat) (bt bu bv bw bx bz b0 b1 b2:Value) (b4:Hp) (w:World),Zk.t1 ap b9 ca cb cc cd ce cf cg ch=some r→Le br b4→St w0 b4 ((.obj aa (X7 Uo.enc (vs (Value.int .i32) ([]:List (Vector Int 2×Int)))))::(.box fb 100 ([.int .i64 bl.1.list,.int .i64 bl.1.row]))::(.box b3 27 ([ba,a9,aq,a8,an,au,a7,a6,ar,a5,ao]))::Γ) w→Xw Vj b4 bt b9→Xw Vj b4 bu ca→Xw Vj b4 bv cb→Xw Vj b4 bw cc→Xw Vj b4 bx cd→Xw Vj b4 bz ce→Xw Vj b4 b0 cf→Xw Vj b4 b1 cg→Xw Vj b4 b2 ch→fs [] (fun w=>St w0 br ((.box fb 100 ([.int .i64 bl.1.list,.int .i64 bl.1.row]))::(.box b3 27 ([ba,a9,aq,a8,an,au,a7,a6,ar,a5,ao]))::Γ) w) 4 [32,29,26,23,20,16,12,8,4,36,34,33,31,30,28,27,25,24,22,21,19,18,17,15,14,13,11,10,9,7,6,5,3,2,1,0] [(1,.pointer (some ⟨b3,0,none⟩)),(20,.agg #[ba,a9,aq,a8,an,au,a7,a6,ar,a5,ao]),(24,bt),(28,bu),(32,bv),(36,bw),(40,bx),(43,bz),(46,b0),(49,b1),(52,b2),(54,ao),(56,.map (some aa))] w:=by
  intro b9 ca cb cc cd ce cf cg ch aa bt bu bv bw bx bz b0 b1 b2 b4 w H fy hs gc ge gf gg gh gi gj gk gl
  rw [Zk.t1] at H
  refine (bb _ _ _ _ _ _).1<|F1 35 sh rfl (fun qs m7=>?_)
  obtain ⟨j9,lb,H⟩:=bnd H
  refine Oc rfl (Ya.c hs (jv.mono fy) lb) (fun kq w hpost=>?_)
  obtain ⟨m8,qt,rfl,b5,hs,lc⟩:=hpost
  refine Zd (m7 _ _ (fun _ _=>((hs.less (fy.trans b5)).sub (ssk (ssc (ssc ssr)))))<|Fp 37 sh rfl (fun w=>Qg (cs:=[ba,a9,aq,a8,an,au,a7,a6,ar,a5,ao,bt,bu,bv,bw,bx,bz,b0,b1,b2,kq,.map (some aa)]) Zx6 Zym ((Z3.cons rfl rfl (Z3.cons rfl gc.cellsL (Z3.cons rfl ge.cellsL (Z3.cons rfl gf.cellsL (Z3.cons rfl gg.cellsL (Z3.cons rfl gh.cellsL (Z3.cons rfl gi.cellsL (Z3.cons rfl gj.cellsL (Z3.cons rfl gk.cellsL (Z3.cons rfl gl.cellsL (Z3.cons rfl lc.cellsL (Z3.cons rfl rfl Z3.nil))))))))))))) Zyj (by kernel_rfl))<|F1 38 sh rfl (fun qu m9=>Vn (cs:=[ba,a9,aq,a8,an,au,a7,a6,ar,a5,ao,bt,bu,bv,bw,bx,bz,b0,b1,b2,kq,.map (some aa)]) hs rfl rfl (fun bm w hs=>Zd (m9 _ _ (fun _ _=>((hs.less (fy.trans b5)).sub (ssk (ssk (ssc (ssc ssr))))))<|Fp 39 sh rfl (fun w=>Xz rfl)<|FE sh (ky _ _ _ (T2 rfl) (kz b9 ca cb cc cd ce cf cg ch j9 bt bu bv bw bx bz b0 b1 b2 kq bm aa m8 _ H (fy.trans b5) hs (gc.mono b5) (ge.mono b5) (gf.mono b5) (gg.mono b5) (gh.mono b5) (gi.mono b5) (gj.mono b5) (gk.mono b5) (gl.mono b5) lc))))))
 have ld:∀ (ci cj ck cl cm cn co cp:Option Tab) (aa:Nat) (dz ea eb ec ed ee ef eg:Value) (b8:Hp) (w:World),Zk.t2 ap ci cj ck cl cm cn co cp=some r→Le br b8→St w0 b8 ((.obj aa (X7 Uo.enc (vs (Value.int .i32) ([]:List (Vector Int 2×Int)))))::(.box fb 100 ([.int .i64 bl.1.list,.int .i64 bl.1.row]))::(.box b3 27 ([ba,a9,aq,a8,an,au,a7,a6,ar,a5,ao]))::Γ) w→Xw Vj b8 dz ci→Xw Vj b8 ea cj→Xw Vj b8 eb ck→Xw Vj b8 ec cl→Xw Vj b8 ed cm→Xw Vj b8 ee cn→Xw Vj b8 ef co→Xw Vj b8 eg cp→fs [] (fun w=>St w0 br ((.box fb 100 ([.int .i64 bl.1.list,.int .i64 bl.1.row]))::(.box b3 27 ([ba,a9,aq,a8,an,au,a7,a6,ar,a5,ao]))::Γ) w) 5 [29,26,23,20,16,12,8,4,36,34,33,31,30,28,27,25,24,22,21,19,18,17,15,14,13,11,10,9,7,6,5,3,2,1,0] [(1,.pointer (some ⟨b3,0,none⟩)),(20,.agg #[ba,a9,aq,a8,an,au,a7,a6,ar,a5,ao]),(24,dz),(28,ea),(32,eb),(36,ec),(40,ed),(43,ee),(46,ef),(49,eg),(51,an),(54,ao),(56,.map (some aa))] w:=by
  intro ci cj ck cl cm cn co cp aa dz ea eb ec ed ee ef eg b8 w H gs hs hl hm hn ho hp hq hr ht
  rw [Zk.t2] at H
  refine (bb _ _ _ _ _ _).1<|F1 32 sh rfl (fun qv na=>?_)
  obtain ⟨ka,le,H⟩:=bnd H
  refine Oc rfl (Ya.c hs (hf.mono gs) le) (fun nb w hpost=>?_)
  obtain ⟨nc,qw,rfl,dv,hs,nd⟩:=hpost
  refine Zd (na _ _ (fun _ _=>((hs.less (gs.trans dv)).sub (ssk (ssc (ssc ssr)))))<|(Xr rfl (by kernel_rfl) (OD.weak [(1,_),(20,_),(24,_),(28,_),(32,_),(36,_),(40,_),(43,_),(46,_),(49,_),(52,_),(54,_),(56,_)] sbn ((bb _ _ _ _ _ _).2 (la ci cj ck cl cm cn co cp ka aa dz ea eb ec ed ee ef eg nb nc _ H (gs.trans dv) hs (hl.mono dv) (hm.mono dv) (hn.mono dv) (ho.mono dv) (hp.mono dv) (hq.mono dv) (hr.mono dv) (ht.mono dv) nd)))))
 have lf:∀ (cq cr ct cu cv cw cx:Option Tab) (aa:Nat) (eh ei ej ek el em en:Value) (dw:Hp) (w:World),Zk.t3 ap cq cr ct cu cv cw cx=some r→Le br dw→St w0 dw ((.obj aa (X7 Uo.enc (vs (Value.int .i32) ([]:List (Vector Int 2×Int)))))::(.box fb 100 ([.int .i64 bl.1.list,.int .i64 bl.1.row]))::(.box b3 27 ([ba,a9,aq,a8,an,au,a7,a6,ar,a5,ao]))::Γ) w→Xw Vj dw eh cq→Xw Vj dw ei cr→Xw Vj dw ej ct→Xw Vj dw ek cu→Xw Vj dw el cv→Xw Vj dw em cw→Xw Vj dw en cx→fs [] (fun w=>St w0 br ((.box fb 100 ([.int .i64 bl.1.list,.int .i64 bl.1.row]))::(.box b3 27 ([ba,a9,aq,a8,an,au,a7,a6,ar,a5,ao]))::Γ) w) 6 [26,23,20,16,12,8,4,36,34,33,31,30,28,27,25,24,22,21,19,18,17,15,14,13,11,10,9,7,6,5,3,2,1,0] [(1,.pointer (some ⟨b3,0,none⟩)),(20,.agg #[ba,a9,aq,a8,an,au,a7,a6,ar,a5,ao]),(24,eh),(28,ei),(32,ej),(36,ek),(40,el),(43,em),(46,en),(48,aq),(51,an),(54,ao),(56,.map (some aa))] w:=by
  intro cq cr ct cu cv cw cx aa eh ei ej ek el em en dw w H gt hs hv hw hx hy hz ia ib
  rw [Zk.t3] at H
  refine (bb _ _ _ _ _ _).1<|F1 29 sh rfl (fun qx ne=>?_)
  obtain ⟨kb,lg,H⟩:=bnd H
  refine Oc rfl (Ya.c hs (jo.mono gt) lg) (fun nf w hpost=>?_)
  obtain ⟨ng,qy,rfl,eo,hs,nh⟩:=hpost
  refine Zd (ne _ _ (fun _ _=>((hs.less (gt.trans eo)).sub (ssk (ssc (ssc ssr)))))<|(Xr rfl (by kernel_rfl) (OD.weak [(1,_),(20,_),(24,_),(28,_),(32,_),(36,_),(40,_),(43,_),(46,_),(49,_),(51,_),(54,_),(56,_)] sbn ((bb _ _ _ _ _ _).2 (ld cq cr ct cu cv cw cx kb aa eh ei ej ek el em en nf ng _ H (gt.trans eo) hs (hv.mono eo) (hw.mono eo) (hx.mono eo) (hy.mono eo) (hz.mono eo) (ia.mono eo) (ib.mono eo) nh)))))
 have lh:∀ (cy cz da db dc dd:Option Tab) (aa:Nat) (ep eq er es et eu:Value) (ev:Hp) (w:World),Zk.t4 ap cy cz da db dc dd=some r→Le br ev→St w0 ev ((.obj aa (X7 Uo.enc (vs (Value.int .i32) ([]:List (Vector Int 2×Int)))))::(.box fb 100 ([.int .i64 bl.1.list,.int .i64 bl.1.row]))::(.box b3 27 ([ba,a9,aq,a8,an,au,a7,a6,ar,a5,ao]))::Γ) w→Xw Vj ev ep cy→Xw Vj ev eq cz→Xw Vj ev er da→Xw Vj ev es db→Xw Vj ev et dc→Xw Vj ev eu dd→fs [] (fun w=>St w0 br ((.box fb 100 ([.int .i64 bl.1.list,.int .i64 bl.1.row]))::(.box b3 27 ([ba,a9,aq,a8,an,au,a7,a6,ar,a5,ao]))::Γ) w) 7 [23,20,16,12,8,4,36,34,33,31,30,28,27,25,24,22,21,19,18,17,15,14,13,11,10,9,7,6,5,3,2,1,0] [(1,.pointer (some ⟨b3,0,none⟩)),(20,.agg #[ba,a9,aq,a8,an,au,a7,a6,ar,a5,ao]),(24,ep),(28,eq),(32,er),(36,es),(40,et),(43,eu),(45,ar),(48,aq),(51,an),(54,ao),(56,.map (some aa))] w:=by
  intro cy cz da db dc dd aa ep eq er es et eu ev w H gu hs ic id ie ig ih ii
  rw [Zk.t4] at H
  refine (bb _ _ _ _ _ _).1<|F1 26 sh rfl (fun qz ni=>?_)
  obtain ⟨kc,li,H⟩:=bnd H
  refine Oc rfl (K7.c hs (jt.mono gu) li) (fun nj w hpost=>?_)
  obtain ⟨nk,q0,rfl,fc,hs,nl⟩:=hpost
  refine Zd (ni _ _ (fun _ _=>((hs.less (gu.trans fc)).sub (ssk (ssc (ssc ssr)))))<|(Xr rfl (by kernel_rfl) (OD.weak [(1,_),(20,_),(24,_),(28,_),(32,_),(36,_),(40,_),(43,_),(46,_),(48,_),(51,_),(54,_),(56,_)] sbn ((bb _ _ _ _ _ _).2 (lf cy cz da db dc dd kc aa ep eq er es et eu nj nk _ H (gu.trans fc) hs (ic.mono fc) (id.mono fc) (ie.mono fc) (ig.mono fc) (ih.mono fc) (ii.mono fc) nl)))))
 have lj:∀ (de df dg dh di:Option Tab) (aa:Nat) (ew ex ey ez e0:Value) (fd:Hp) (w:World),Zk.t5 ap de df dg dh di=some r→Le br fd→St w0 fd ((.obj aa (X7 Uo.enc (vs (Value.int .i32) ([]:List (Vector Int 2×Int)))))::(.box fb 100 ([.int .i64 bl.1.list,.int .i64 bl.1.row]))::(.box b3 27 ([ba,a9,aq,a8,an,au,a7,a6,ar,a5,ao]))::Γ) w→Xw Vj fd ew de→Xw Vj fd ex df→Xw Vj fd ey dg→Xw Vj fd ez dh→Xw Vj fd e0 di→fs [] (fun w=>St w0 br ((.box fb 100 ([.int .i64 bl.1.list,.int .i64 bl.1.row]))::(.box b3 27 ([ba,a9,aq,a8,an,au,a7,a6,ar,a5,ao]))::Γ) w) 8 [20,16,12,8,4,36,34,33,31,30,28,27,25,24,22,21,19,18,17,15,14,13,11,10,9,7,6,5,3,2,1,0] [(1,.pointer (some ⟨b3,0,none⟩)),(20,.agg #[ba,a9,aq,a8,an,au,a7,a6,ar,a5,ao]),(24,ew),(28,ex),(32,ey),(36,ez),(40,e0),(42,au),(45,ar),(48,aq),(51,an),(54,ao),(56,.map (some aa))] w:=by
  intro de df dg dh di aa ew ex ey ez e0 fd w H gv hs ij ik il im io
  rw [Zk.t5] at H
  refine (bb _ _ _ _ _ _).1<|F1 23 sh rfl (fun q1 nm=>?_)
  obtain ⟨kd,lk,H⟩:=bnd H
  refine Oc rfl (K7.c hs (jq.mono gv) lk) (fun nn w hpost=>?_)
  obtain ⟨no,q2,rfl,fo,hs,np⟩:=hpost
  refine Zd (nm _ _ (fun _ _=>((hs.less (gv.trans fo)).sub (ssk (ssc (ssc ssr)))))<|(Xr rfl (by kernel_rfl) (OD.weak [(1,_),(20,_),(24,_),(28,_),(32,_),(36,_),(40,_),(43,_),(45,_),(48,_),(51,_),(54,_),(56,_)] sbn ((bb _ _ _ _ _ _).2 (lh de df dg dh di kd aa ew ex ey ez e0 nn no _ H (gv.trans fo) hs (ij.mono fo) (ik.mono fo) (il.mono fo) (im.mono fo) (io.mono fo) np)))))
 have ll:∀ (dk dl dm dn:Option Tab) (aa:Nat) (e1 e2 e3 e4:Value) (fp:Hp) (w:World),Zk.t6 ap dk dl dm dn=some r→Le br fp→St w0 fp ((.obj aa (X7 Uo.enc (vs (Value.int .i32) ([]:List (Vector Int 2×Int)))))::(.box fb 100 ([.int .i64 bl.1.list,.int .i64 bl.1.row]))::(.box b3 27 ([ba,a9,aq,a8,an,au,a7,a6,ar,a5,ao]))::Γ) w→Xw Vj fp e1 dk→Xw Vj fp e2 dl→Xw Vj fp e3 dm→Xw Vj fp e4 dn→fs [] (fun w=>St w0 br ((.box fb 100 ([.int .i64 bl.1.list,.int .i64 bl.1.row]))::(.box b3 27 ([ba,a9,aq,a8,an,au,a7,a6,ar,a5,ao]))::Γ) w) 9 [16,12,8,4,36,34,33,31,30,28,27,25,24,22,21,19,18,17,15,14,13,11,10,9,7,6,5,3,2,1,0] [(1,.pointer (some ⟨b3,0,none⟩)),(20,.agg #[ba,a9,aq,a8,an,au,a7,a6,ar,a5,ao]),(24,e1),(28,e2),(32,e3),(36,e4),(37,.func (.func 62) #[] #[]),(39,a5),(42,au),(45,ar),(48,aq),(51,an),(54,ao),(56,.map (some aa))] w:=by
  intro dk dl dm dn aa e1 e2 e3 e4 fp w H gw hs ip iq ir it
  rw [Zk.t6] at H
  refine (bb _ _ _ _ _ _).1<|F1 20 sh rfl (fun q3 nq=>?_)
  obtain ⟨ke,lm,H⟩:=bnd H
  refine Xs rfl rfl rfl (Qi.c hs (ju.mono gw) lm) (fun nr w hpost=>?_)
  obtain ⟨ns,q4,rfl,fw,hs,nt⟩:=hpost
  refine Zd (nq _ _ (fun _ _=>((hs.less (gw.trans fw)).sub (ssk (ssc (ssc ssr)))))<|(Xr rfl (by kernel_rfl) (OD.weak [(1,_),(20,_),(24,_),(28,_),(32,_),(36,_),(40,_),(42,_),(45,_),(48,_),(51,_),(54,_),(56,_)] sbn ((bb _ _ _ _ _ _).2 (lj dk dl dm dn ke aa e1 e2 e3 e4 nr ns _ H (gw.trans fw) hs (ip.mono fw) (iq.mono fw) (ir.mono fw) (it.mono fw) nt)))))
 have ln:∀ (dp dq dr:Option Tab) (aa:Nat) (e5 e6 e7:Value) (fx:Hp) (w:World),Zk.t7 ap dp dq dr=some r→Le br fx→St w0 fx ((.obj aa (X7 Uo.enc (vs (Value.int .i32) ([]:List (Vector Int 2×Int)))))::(.box fb 100 ([.int .i64 bl.1.list,.int .i64 bl.1.row]))::(.box b3 27 ([ba,a9,aq,a8,an,au,a7,a6,ar,a5,ao]))::Γ) w→Xw Vj fx e5 dp→Xw Vj fx e6 dq→Xw Vj fx e7 dr→fs [] (fun w=>St w0 br ((.box fb 100 ([.int .i64 bl.1.list,.int .i64 bl.1.row]))::(.box b3 27 ([ba,a9,aq,a8,an,au,a7,a6,ar,a5,ao]))::Γ) w) 10 [12,8,4,36,34,33,31,30,28,27,25,24,22,21,19,18,17,15,14,13,11,10,9,7,6,5,3,2,1,0] [(1,.pointer (some ⟨b3,0,none⟩)),(20,.agg #[ba,a9,aq,a8,an,au,a7,a6,ar,a5,ao]),(24,e5),(28,e6),(32,e7),(33,.func (.func 62) #[] #[]),(35,a6),(37,.func (.func 62) #[] #[]),(39,a5),(42,au),(45,ar),(48,aq),(51,an),(54,ao),(56,.map (some aa))] w:=by
  intro dp dq dr aa e5 e6 e7 fx w H gx hs iu iv iw
  rw [Zk.t7] at H
  refine (bb _ _ _ _ _ _).1<|F1 16 sh rfl (fun q5 nu=>?_)
  obtain ⟨kf,lp,H⟩:=bnd H
  refine Xs rfl rfl rfl (Qi.c hs (js.mono gx) lp) (fun nv w hpost=>?_)
  obtain ⟨nw,q6,rfl,gm,hs,nx⟩:=hpost
  refine Zd (nu _ _ (fun _ _=>((hs.less (gx.trans gm)).sub (ssk (ssc (ssc ssr)))))<|(Xr rfl (by kernel_rfl) (OD.weak [(1,_),(20,_),(24,_),(28,_),(32,_),(36,_),(37,_),(39,_),(42,_),(45,_),(48,_),(51,_),(54,_),(56,_)] sbn ((bb _ _ _ _ _ _).2 (ll dp dq dr kf aa e5 e6 e7 nv nw _ H (gx.trans gm) hs (iu.mono gm) (iv.mono gm) (iw.mono gm) nx)))))
 have lq:∀ (ds dt:Option Tab) (aa:Nat) (e8 e9:Value) (gn:Hp) (w:World),Zk.t8 ap ds dt=some r→Le br gn→St w0 gn ((.obj aa (X7 Uo.enc (vs (Value.int .i32) ([]:List (Vector Int 2×Int)))))::(.box fb 100 ([.int .i64 bl.1.list,.int .i64 bl.1.row]))::(.box b3 27 ([ba,a9,aq,a8,an,au,a7,a6,ar,a5,ao]))::Γ) w→Xw Vj gn e8 ds→Xw Vj gn e9 dt→fs [] (fun w=>St w0 br ((.box fb 100 ([.int .i64 bl.1.list,.int .i64 bl.1.row]))::(.box b3 27 ([ba,a9,aq,a8,an,au,a7,a6,ar,a5,ao]))::Γ) w) 11 [8,4,36,34,33,31,30,28,27,25,24,22,21,19,18,17,15,14,13,11,10,9,7,6,5,3,2,1,0] [(1,.pointer (some ⟨b3,0,none⟩)),(20,.agg #[ba,a9,aq,a8,an,au,a7,a6,ar,a5,ao]),(24,e8),(28,e9),(29,.func (.func 62) #[] #[]),(31,a7),(33,.func (.func 62) #[] #[]),(35,a6),(37,.func (.func 62) #[] #[]),(39,a5),(42,au),(45,ar),(48,aq),(51,an),(54,ao),(56,.map (some aa))] w:=by
  intro ds dt aa e8 e9 gn w H gy hs iy iz
  rw [Zk.t8] at H
  refine (bb _ _ _ _ _ _).1<|F1 12 sh rfl (fun q7 ny=>?_)
  obtain ⟨kg,lr,H⟩:=bnd H
  refine Xs rfl rfl rfl (Qi.c hs (jr.mono gy) lr) (fun nz w hpost=>?_)
  obtain ⟨n0,q8,rfl,hd,hs,n1⟩:=hpost
  refine Zd (ny _ _ (fun _ _=>((hs.less (gy.trans hd)).sub (ssk (ssc (ssc ssr)))))<|(Xr rfl (by kernel_rfl) (OD.weak [(1,_),(20,_),(24,_),(28,_),(32,_),(33,_),(35,_),(37,_),(39,_),(42,_),(45,_),(48,_),(51,_),(54,_),(56,_)] sbn ((bb _ _ _ _ _ _).2 (ln ds dt kg aa e8 e9 nz n0 _ H (gy.trans hd) hs (iy.mono hd) (iz.mono hd) n1)))))
 have ls:∀ (du:Option Tab) (aa:Nat) (fa:Value) (he:Hp) (w:World),Zk.t9 ap du=some r→Le br he→St w0 he ((.obj aa (X7 Uo.enc (vs (Value.int .i32) ([]:List (Vector Int 2×Int)))))::(.box fb 100 ([.int .i64 bl.1.list,.int .i64 bl.1.row]))::(.box b3 27 ([ba,a9,aq,a8,an,au,a7,a6,ar,a5,ao]))::Γ) w→Xw Vj he fa du→fs [] (fun w=>St w0 br ((.box fb 100 ([.int .i64 bl.1.list,.int .i64 bl.1.row]))::(.box b3 27 ([ba,a9,aq,a8,an,au,a7,a6,ar,a5,ao]))::Γ) w) 12 [4,36,34,33,31,30,28,27,25,24,22,21,19,18,17,15,14,13,11,10,9,7,6,5,3,2,1,0] [(1,.pointer (some ⟨b3,0,none⟩)),(20,.agg #[ba,a9,aq,a8,an,au,a7,a6,ar,a5,ao]),(24,fa),(25,.func (.func 62) #[] #[]),(27,a8),(29,.func (.func 62) #[] #[]),(31,a7),(33,.func (.func 62) #[] #[]),(35,a6),(37,.func (.func 62) #[] #[]),(39,a5),(42,au),(45,ar),(48,aq),(51,an),(54,ao),(56,.map (some aa))] w:=by
  intro du aa fa he w H gz hs ja
  rw [Zk.t9] at H
  refine (bb _ _ _ _ _ _).1<|F1 8 sh rfl (fun q9 n2=>?_)
  obtain ⟨kh,lt,H⟩:=bnd H
  refine Xs rfl rfl rfl (Qi.c hs (jp.mono gz) lt) (fun n3 w hpost=>?_)
  obtain ⟨n4,ra,rfl,jb,hs,n5⟩:=hpost
  refine Zd (n2 _ _ (fun _ _=>((hs.less (gz.trans jb)).sub (ssk (ssc (ssc ssr)))))<|(Xr rfl (by kernel_rfl) (OD.weak [(1,_),(20,_),(24,_),(28,_),(29,_),(31,_),(33,_),(35,_),(37,_),(39,_),(42,_),(45,_),(48,_),(51,_),(54,_),(56,_)] sbn ((bb _ _ _ _ _ _).2 (lq du kh aa fa n3 n4 _ H (gz.trans jb) hs (ja.mono jb) n5)))))
 have n6:∀ (aa:Nat) (w:World),Zk.t10 ap=some r→St w0 br ((.obj aa (X7 Uo.enc (vs (Value.int .i32) ([]:List (Vector Int 2×Int)))))::(.box fb 100 ([.int .i64 bl.1.list,.int .i64 bl.1.row]))::(.box b3 27 ([ba,a9,aq,a8,an,au,a7,a6,ar,a5,ao]))::Γ) w→fs [] (fun w=>St w0 br ((.box fb 100 ([.int .i64 bl.1.list,.int .i64 bl.1.row]))::(.box b3 27 ([ba,a9,aq,a8,an,au,a7,a6,ar,a5,ao]))::Γ) w) 13 [36,34,33,31,30,28,27,25,24,22,21,19,18,17,15,14,13,11,10,9,7,6,5,3,2,1,0] [(1,.pointer (some ⟨b3,0,none⟩)),(20,.agg #[ba,a9,aq,a8,an,au,a7,a6,ar,a5,ao]),(21,.func (.func 62) #[] #[]),(23,a9),(25,.func (.func 62) #[] #[]),(27,a8),(29,.func (.func 62) #[] #[]),(31,a7),(33,.func (.func 62) #[] #[]),(35,a6),(37,.func (.func 62) #[] #[]),(39,a5),(42,au),(45,ar),(48,aq),(51,an),(54,ao),(56,.map (some aa))] w:=by
  intro aa w H hs
  rw [Zk.t10] at H
  refine (bb _ _ _ _ _ _).1<|F1 4 sh rfl (fun rb n7=>?_)
  obtain ⟨ki,lu,H⟩:=bnd H
  refine Xs rfl rfl rfl (Qi.c hs jn lu) (fun n8 w hpost=>?_)
  obtain ⟨n9,rc,rfl,j7,hs,oa⟩:=hpost
  refine Zd (n7 _ _ (fun _ _=>((hs.less j7).sub (ssk (ssc (ssc ssr)))))<|(Xr rfl (by kernel_rfl) (OD.weak [(1,_),(20,_),(24,_),(25,_),(27,_),(29,_),(31,_),(33,_),(35,_),(37,_),(39,_),(42,_),(45,_),(48,_),(51,_),(54,_),(56,_)] sbn ((bb _ _ _ _ _ _).2 (ls ki aa n8 n9 _ H j7 hs oa)))))
 refine (bb _ _ _ _ _ _).1<|Vp sh (i:=36) (j:=4) rfl rfl (by kernel_rfl) (fun re ob=>?_) (fun rf oc=>?_)
 refine Hh Uo.enc (Value.int .i32) hs rfl (fun aa w hs=>Zd (ob _ _ (fun _ _=>(hs.sub (ssk (ssc (ssc ssr)))))<|(Xr rfl (by kernel_rfl) (OD.weak [(1,_),(20,_),(21,_),(23,_),(25,_),(27,_),(29,_),(31,_),(33,_),(35,_),(37,_),(39,_),(42,_),(45,_),(48,_),(51,_),(54,_),(56,_)] sbn ((bb _ _ _ _ _ _).2 (n6 aa _ H hs))))))
 rw [Zk.t10] at H
 obtain ⟨ft,lv,H⟩:=bnd H
 refine Xs rfl rfl rfl (Qi.c hs jn lv) (fun fe w hpost=>?_)
 obtain ⟨od,rg,rfl,go,hs,fq⟩:=hpost
 refine Zd (oc _ _ (fun _ _=>(hs.less go))<|Vp sh (i:=36) (j:=8) rfl rfl (by kernel_rfl) (fun rh oe=>?_) (fun ri og=>?_))
 refine Hh Uo.enc (Value.int .i32) hs rfl (fun aa w hs=>Zd (oe _ _ (fun _ _=>((hs.less go).sub (ssk (ssc (ssc ssr)))))<|(Xr rfl (by kernel_rfl) (OD.weak [(1,_),(20,_),(24,_),(25,_),(27,_),(29,_),(31,_),(33,_),(35,_),(37,_),(39,_),(42,_),(45,_),(48,_),(51,_),(54,_),(56,_)] sbn ((bb _ _ _ _ _ _).2 (ls ft aa fe od _ H go hs fq))))))
 rw [Zk.t9] at H
 obtain ⟨fz,lw,H⟩:=bnd H
 refine Xs rfl rfl rfl (Qi.c hs (jp.mono go) lw) (fun fr w hpost=>?_)
 obtain ⟨oh,rj,rfl,dx,hs,fu⟩:=hpost
 have jc:=go.trans dx
 refine Zd (og _ _ (fun _ _=>(hs.less jc))<|Vp sh (i:=36) (j:=12) rfl rfl (by kernel_rfl) (fun rk oi=>?_) (fun rl oj=>?_))
 refine Hh Uo.enc (Value.int .i32) hs rfl (fun aa w hs=>Zd (oi _ _ (fun _ _=>((hs.less jc).sub (ssk (ssc (ssc ssr)))))<|(Xr rfl (by kernel_rfl) (OD.weak [(1,_),(20,_),(24,_),(28,_),(29,_),(31,_),(33,_),(35,_),(37,_),(39,_),(42,_),(45,_),(48,_),(51,_),(54,_),(56,_)] sbn ((bb _ _ _ _ _ _).2 (lq ft fz aa fe fr oh _ H jc hs (fq.mono dx) fu))))))
 rw [Zk.t8] at H
 obtain ⟨gp,lx,H⟩:=bnd H
 refine Xs rfl rfl rfl (Qi.c hs (jr.mono jc) lx) (fun fv w hpost=>?_)
 obtain ⟨ok,rm,rfl,bo,hs,ga⟩:=hpost
 have jd:=jc.trans bo
 refine Zd (oj _ _ (fun _ _=>(hs.less jd))<|Vp sh (i:=36) (j:=16) rfl rfl (by kernel_rfl) (fun rn ol=>?_) (fun ro om=>?_))
 refine Hh Uo.enc (Value.int .i32) hs rfl (fun aa w hs=>Zd (ol _ _ (fun _ _=>((hs.less jd).sub (ssk (ssc (ssc ssr)))))<|(Xr rfl (by kernel_rfl) (OD.weak [(1,_),(20,_),(24,_),(28,_),(32,_),(33,_),(35,_),(37,_),(39,_),(42,_),(45,_),(48,_),(51,_),(54,_),(56,_)] sbn ((bb _ _ _ _ _ _).2 (ln ft fz gp aa fe fr fv ok _ H jd hs (fq.mono (dx.trans bo)) (fu.mono bo) ga))))))
 rw [Zk.t7] at H
 obtain ⟨ha,ly,H⟩:=bnd H
 refine Xs rfl rfl rfl (Qi.c hs (js.mono jd) ly) (fun gb w hpost=>?_)
 obtain ⟨on,rp,rfl,bh,hs,gq⟩:=hpost
 have je:=jd.trans bh
 refine Zd (om _ _ (fun _ _=>(hs.less je))<|Vp sh (i:=36) (j:=20) rfl rfl (by kernel_rfl) (fun rq oo=>?_) (fun rr op=>?_))
 refine Hh Uo.enc (Value.int .i32) hs rfl (fun aa w hs=>Zd (oo _ _ (fun _ _=>((hs.less je).sub (ssk (ssc (ssc ssr)))))<|(Xr rfl (by kernel_rfl) (OD.weak [(1,_),(20,_),(24,_),(28,_),(32,_),(36,_),(37,_),(39,_),(42,_),(45,_),(48,_),(51,_),(54,_),(56,_)] sbn ((bb _ _ _ _ _ _).2 (ll ft fz gp ha aa fe fr fv gb on _ H je hs (fq.mono ((dx.trans bo).trans bh)) (fu.mono (bo.trans bh)) (ga.mono bh) gq))))))
 rw [Zk.t6] at H
 obtain ⟨hg,lz,H⟩:=bnd H
 refine Xs rfl rfl rfl (Qi.c hs (ju.mono je) lz) (fun gr w hpost=>?_)
 obtain ⟨oq,rs,rfl,bd,hs,hb⟩:=hpost
 have jf:=je.trans bd
 refine Zd (op _ _ (fun _ _=>(hs.less jf))<|Vp sh (i:=36) (j:=23) rfl rfl (by kernel_rfl) (fun rt os=>?_) (fun ru ot=>?_))
 refine Hh Uo.enc (Value.int .i32) hs rfl (fun aa w hs=>Zd (os _ _ (fun _ _=>((hs.less jf).sub (ssk (ssc (ssc ssr)))))<|(Xr rfl (by kernel_rfl) (OD.weak [(1,_),(20,_),(24,_),(28,_),(32,_),(36,_),(40,_),(42,_),(45,_),(48,_),(51,_),(54,_),(56,_)] sbn ((bb _ _ _ _ _ _).2 (lj ft fz gp ha hg aa fe fr fv gb gr oq _ H jf hs (fq.mono (((dx.trans bo).trans bh).trans bd)) (fu.mono ((bo.trans bh).trans bd)) (ga.mono (bh.trans bd)) (gq.mono bd) hb))))))
 rw [Zk.t5] at H
 obtain ⟨jg,l0,H⟩:=bnd H
 refine Oc rfl (K7.c hs (jq.mono jf) l0) (fun hc w hpost=>?_)
 obtain ⟨ou,rv,rfl,bc,hs,hh⟩:=hpost
 have jh:=jf.trans bc
 refine Zd (ot _ _ (fun _ _=>(hs.less jh))<|Vp sh (i:=36) (j:=26) rfl rfl (by kernel_rfl) (fun rx ov=>?_) (fun ry ow=>?_))
 refine Hh Uo.enc (Value.int .i32) hs rfl (fun aa w hs=>Zd (ov _ _ (fun _ _=>((hs.less jh).sub (ssk (ssc (ssc ssr)))))<|(Xr rfl (by kernel_rfl) (OD.weak [(1,_),(20,_),(24,_),(28,_),(32,_),(36,_),(40,_),(43,_),(45,_),(48,_),(51,_),(54,_),(56,_)] sbn ((bb _ _ _ _ _ _).2 (lh ft fz gp ha hg jg aa fe fr fv gb gr hc ou _ H jh hs (fq.mono ((((dx.trans bo).trans bh).trans bd).trans bc)) (fu.mono (((bo.trans bh).trans bd).trans bc)) (ga.mono ((bh.trans bd).trans bc)) (gq.mono (bd.trans bc)) (hb.mono bc) hh))))))
 rw [Zk.t4] at H
 obtain ⟨j0,l2,H⟩:=bnd H
 refine Oc rfl (K7.c hs (jt.mono jh) l2) (fun hj w hpost=>?_)
 obtain ⟨ox,rz,rfl,be,hs,ji⟩:=hpost
 have jj:=jh.trans be
 refine Zd (ow _ _ (fun _ _=>(hs.less jj))<|Vp sh (i:=36) (j:=29) rfl rfl (by kernel_rfl) (fun r0 oy=>?_) (fun r1 oz=>?_))
 refine Hh Uo.enc (Value.int .i32) hs rfl (fun aa w hs=>Zd (oy _ _ (fun _ _=>((hs.less jj).sub (ssk (ssc (ssc ssr)))))<|(Xr rfl (by kernel_rfl) (OD.weak [(1,_),(20,_),(24,_),(28,_),(32,_),(36,_),(40,_),(43,_),(46,_),(48,_),(51,_),(54,_),(56,_)] sbn ((bb _ _ _ _ _ _).2 (lf ft fz gp ha hg jg j0 aa fe fr fv gb gr hc hj ox _ H jj hs (fq.mono (((((dx.trans bo).trans bh).trans bd).trans bc).trans be)) (fu.mono ((((bo.trans bh).trans bd).trans bc).trans be)) (ga.mono (((bh.trans bd).trans bc).trans be)) (gq.mono ((bd.trans bc).trans be)) (hb.mono (bc.trans be)) (hh.mono be) ji))))))
 rw [Zk.t3] at H
 obtain ⟨kr,l3,H⟩:=bnd H
 refine Oc rfl (Ya.c hs (jo.mono jj) l3) (fun jk w hpost=>?_)
 obtain ⟨o0,r2,rfl,bi,hs,j4⟩:=hpost
 have jl:=jj.trans bi
 refine Zd (oz _ _ (fun _ _=>(hs.less jl))<|Vp sh (i:=36) (j:=32) rfl rfl (by kernel_rfl) (fun r3 o1=>?_) (fun r4 o2=>?_))
 refine Hh Uo.enc (Value.int .i32) hs rfl (fun aa w hs=>Zd (o1 _ _ (fun _ _=>((hs.less jl).sub (ssk (ssc (ssc ssr)))))<|(Xr rfl (by kernel_rfl) (OD.weak [(1,_),(20,_),(24,_),(28,_),(32,_),(36,_),(40,_),(43,_),(46,_),(49,_),(51,_),(54,_),(56,_)] sbn ((bb _ _ _ _ _ _).2 (ld ft fz gp ha hg jg j0 kr aa fe fr fv gb gr hc hj jk o0 _ H jl hs (fq.mono ((((((dx.trans bo).trans bh).trans bd).trans bc).trans be).trans bi)) (fu.mono (((((bo.trans bh).trans bd).trans bc).trans be).trans bi)) (ga.mono ((((bh.trans bd).trans bc).trans be).trans bi)) (gq.mono (((bd.trans bc).trans be).trans bi)) (hb.mono ((bc.trans be).trans bi)) (hh.mono (be.trans bi)) (ji.mono bi) j4))))))
 rw [Zk.t2] at H
 obtain ⟨l4,l5,H⟩:=bnd H
 refine Oc rfl (Ya.c hs (hf.mono jl) l5) (fun j5 w hpost=>?_)
 obtain ⟨o3,r5,rfl,bp,hs,ks⟩:=hpost
 have jm:=jl.trans bp
 refine Zd (o2 _ _ (fun _ _=>(hs.less jm))<|Vp sh (i:=36) (j:=35) rfl rfl (by kernel_rfl) (fun r6 o4=>?_) (fun r7 o5=>?_))
 refine Hh Uo.enc (Value.int .i32) hs rfl (fun aa w hs=>Zd (o4 _ _ (fun _ _=>((hs.less jm).sub (ssk (ssc (ssc ssr)))))<|(Xr rfl (by kernel_rfl) (OD.weak [(1,_),(20,_),(24,_),(28,_),(32,_),(36,_),(40,_),(43,_),(46,_),(49,_),(52,_),(54,_),(56,_)] sbn ((bb _ _ _ _ _ _).2 (la ft fz gp ha hg jg j0 kr l4 aa fe fr fv gb gr hc hj jk j5 o3 _ H jm hs (fq.mono (((((((dx.trans bo).trans bh).trans bd).trans bc).trans be).trans bi).trans bp)) (fu.mono ((((((bo.trans bh).trans bd).trans bc).trans be).trans bi).trans bp)) (ga.mono (((((bh.trans bd).trans bc).trans be).trans bi).trans bp)) (gq.mono ((((bd.trans bc).trans be).trans bi).trans bp)) (hb.mono (((bc.trans be).trans bi).trans bp)) (hh.mono ((be.trans bi).trans bp)) (ji.mono (bi.trans bp)) (j4.mono bp) ks))))))
 rw [Zk.t1] at H
 obtain ⟨o6,l6,H⟩:=bnd H
 refine Oc rfl (Ya.c hs (jv.mono jm) l6) (fun kt w hpost=>?_)
 obtain ⟨o7,r8,rfl,dy,hs,l7⟩:=hpost
 have j6:=jm.trans dy
 refine Zd (o5 _ _ (fun _ _=>(hs.less j6))<|F1 36 sh rfl (fun r9 o8=>Hh Uo.enc (Value.int .i32) hs rfl (fun aa w hs=>Zd (o8 _ _ (fun _ _=>((hs.less j6).sub (ssk (ssc (ssc ssr)))))<|Fp 37 sh rfl (fun w=>Qg (cs:=[ba,a9,aq,a8,an,au,a7,a6,ar,a5,ao,fe,fr,fv,gb,gr,hc,hj,jk,j5,kt,.map (some aa)]) Zx6 Zym ((Z3.cons rfl rfl (Z3.cons rfl fq.cellsL (Z3.cons rfl fu.cellsL (Z3.cons rfl ga.cellsL (Z3.cons rfl gq.cellsL (Z3.cons rfl hb.cellsL (Z3.cons rfl hh.cellsL (Z3.cons rfl ji.cellsL (Z3.cons rfl j4.cellsL (Z3.cons rfl ks.cellsL (Z3.cons rfl l7.cellsL (Z3.cons rfl rfl Z3.nil))))))))))))) Zyj (by kernel_rfl))<|F1 38 sh rfl (fun sa o9=>Vn (cs:=[ba,a9,aq,a8,an,au,a7,a6,ar,a5,ao,fe,fr,fv,gb,gr,hc,hj,jk,j5,kt,.map (some aa)]) hs rfl rfl (fun bm w hs=>Zd (o9 _ _ (fun _ _=>((hs.less j6).sub (ssk (ssk (ssc (ssc ssr))))))<|Fp 39 sh rfl (fun w=>Xz rfl)<|FE sh (ky _ _ _ (T2 rfl) (kz ft fz gp ha hg jg j0 kr l4 o6 fe fr fv gb gr hc hj jk j5 kt bm aa o7 _ H j6 hs (fq.mono ((((((((dx.trans bo).trans bh).trans bd).trans bc).trans be).trans bi).trans bp).trans dy)) (fu.mono (((((((bo.trans bh).trans bd).trans bc).trans be).trans bi).trans bp).trans dy)) (ga.mono ((((((bh.trans bd).trans bc).trans be).trans bi).trans bp).trans dy)) (gq.mono (((((bd.trans bc).trans be).trans bi).trans bp).trans dy)) (hb.mono ((((bc.trans be).trans bi).trans bp).trans dy)) (hh.mono (((be.trans bi).trans bp).trans dy)) (ji.mono ((bi.trans bp).trans dy)) (j4.mono (bp.trans dy)) (ks.mono dy) l7)))))))))

end Go.Proofs.YthoicbafdanmkaaGreatDoor
/- Written by this repo's gen.py: for each Go function a Lean function with the same answers and the walk that shows it. -/
namespace Go.Proofs.YthoicbafdanmkaaGreatDoor
open Go.IntKind (i8 i16 i32 i64 u8 u16 u32 u64)
open Go.RowKit
set_option maxRecDepth 100000
set_option maxHeartbeats 4000000
variable {w0 w:World} {ρ:Hp} {Γ:List Kd}
set_option linter.unusedVariables false
def Zj.j1 (b2:List Int→Int→Option (ByteArray×Int×Int)) (ac:Int) (av:List Int):Option (ByteArray×Int×Int):=b2 av (i64.wrap (ac+1))
def Zj.j2 (x0:S11) (am:List Int):Option (ByteArray×Int×Int):=(Yi.f x0 (K5 am)).bind fun ci=>(if ci.2.2≠0 then (some ((⟨#[]⟩:ByteArray),0,142)) else (some (K5 am,0,0)))
def Zj.j3 (bw:List Int→Int→Int→Int→Int→Option (ByteArray×Int×Int)) (ad:Int) (an:List Int) (a2 a6 a7:Int):Option (ByteArray×Int×Int):=if 2147483647<a2 then (some ((⟨#[]⟩:ByteArray),0,142)) else (bw an a2 a6 a7 (i64.wrap (ad+1)))
def Zj.l1 (bi:List Int→Int→Int→Int→Int→Option (ByteArray×Int×Int)):Nat→S11→List Int→List Int→Int→List Int→Int→Int→Int→Int→Option (ByteArray×Int×Int)
  | 0,_,_,_,_,_,_,_,_,_=>none
  | a5+1,x0,x1,aa,a4,ab,af,ah,ae,ad=>if ad<(x1.length:Int) then (if (0:Int)≤ad∧ad<(x1.length:Int) then (if (i64.wrap (rd x1 ad))<a4 then (Zj.j3 (Zj.l1 bi a5 x0 x1 aa a4) ad ab (i64.wrap (af+1)) ah ae) else (if (i64.wrap (rd x1 ad))=a4 then ((Qh.f x0 af ah).bind fun bx=>(if ab.length+bx.length≤most then ((Y9.f x0 af (i64.wrap (ae+1)) (decide (ae=(aa.length:Int)))).bind fun b3=>(Zj.j3 (Zj.l1 bi a5 x0 x1 aa a4) ad (ab++bx) 0 b3 (i64.wrap (ae+1)))) else none)) else (Zj.j3 (Zj.l1 bi a5 x0 x1 aa a4) ad ab af ah ae))) else none) else (if ae=(x1.length:Int) then (Zj.j2 x0 ab) else (if 2147483647<(i64.wrap (af+1)) then (some ((⟨#[]⟩:ByteArray),0,142)) else (bi ab (i64.wrap (a4+1)) (i64.wrap (af+1)) ah ae)))
def Zj.l2:Nat→S11→List Int→List Int→List Int→Int→Int→Int→Int→Option (ByteArray×Int×Int)
  | 0,_,_,_,_,_,_,_,_=>none
  | ba+1,x0,x1,aa,ag,aq,ar,ax,aj=>if aj<(x1.length:Int) then ((K3.f x1 aq).bind fun a4=>(if 2147483647<(i64.wrap (ar+(i64.wrap ((i64.wrap (a4-aq))*(i64.wrap (aj+1)))))) then (some ((⟨#[]⟩:ByteArray),0,142)) else (Zj.l1 (Zj.l2 ba x0 x1 aa) K0 x0 x1 aa a4 ag (i64.wrap (ar+(i64.wrap ((i64.wrap (a4-aq))*(i64.wrap (aj+1)))))) ax aj 0))) else (Zj.j2 x0 ag)
def Zj.j4 (x0:S11) (x1 aa ak:List Int):Option (ByteArray×Int×Int):=Zj.l2 K0 x0 x1 aa ak x0.first 0 x0.bias (aa.length:Int)
def Zj.l3:Nat→S11→List Int→List Int→Int→Option (ByteArray×Int×Int)
  | 0,_,_,_,_=>none
  | bj+1,x0,x1,aa,ac=>if ac<(x1.length:Int) then (if (0:Int)≤ac∧ac<(x1.length:Int) then ((Xv.f x0 (rd x1 ac)).bind fun cj=>(if cj=true then (if aa.length+([u8.wrap (rd x1 ac)]).length≤most then (Zj.j1 (Zj.l3 bj x0 x1) ac (aa++([u8.wrap (rd x1 ac)]))) else none) else (Zj.j1 (Zj.l3 bj x0 x1) ac aa))) else none) else (if 0<(aa.length:Int) then (if aa.length+([x0.between]).length≤most then (Zj.j4 x0 x1 aa (aa++([x0.between]))) else none) else (Zj.j4 x0 x1 aa aa))
def Zj.f (x0:S11) (x1:List Int):Option (ByteArray×Int×Int):=(Q4.f x0 x1).bind fun dc=>(if dc.2≠0 then (some ((⟨#[]⟩:ByteArray),dc.1,dc.2)) else (Zj.l3 K0 x0 x1 ([]:List Int) 0))
theorem Zj.c (hs:St w0 ρ (Γ) w) {c0:List Value} {x0:S11} (h0:Zd2.R ρ c0 x0) {v1:Value} {x1:List Int} (h1:SlR (Rep.int .i32) ρ v1 x1) {r:ByteArray×Int×Int} (H:Zj.f x0 x1=some r):Zq Tryz.prog 70 [.agg c0.toArray,v1] w (fun v w'=>v=.tuple #[.string r.1,.int .i64 r.2.1,.int .i64 r.2.2]∧St w0 ρ Γ w'):=by
 rw [Zj.f] at H
 refine Et Tryz.func70 Tryz.ntmps70 rfl ?_
 have fj:=h0
 obtain rfl:=fj
 refine Wr fun iu fk=>Vn (cs:=[.int .i64 x0.base,.int .i64 x0.least,.int .i64 x0.most,.int .i64 x0.skew,.int .i64 x0.damp,.int .i64 x0.bias,.int .i64 x0.first,.int .u8 x0.between]) hs rfl rfl (fun bl w hs=>As rfl<|As rfl<|As rfl<|Ox fk<|Zi fun iv fl=>Wr fun iw fm=>O_y rfl (Xl (i:=0) Zdr Zdz hs rfl rfl rfl rfl)<|Mv rfl ?_)
 obtain ⟨dc,dd,H⟩:=bnd H
 refine Oc rfl (Q4.c hs h0 h1 dd) (fun iy w hpost=>?_)
 obtain ⟨rfl,hs⟩:=hpost
 refine Mv rfl<|Oxt rfl<|Oxt rfl<|As rfl<|As rfl<|Ox fm<|Wr fun iz fn=>Mv rfl<|One rfl<|Ox fn<|W.weak [(1,_),(2,_),(7,_),(8,_),(31,_)] sbn ?_
 refine Xa rfl (fun de=>?_) (fun de=>?_)
 rw [if_pos de] at H
 refine Wr fun ja fo=>Mv rfl<|Mv rfl<|As rfl<|As rfl<|As rfl<|Ox fo<|Zm ?_
 obtain rfl:=Z4 H
 exact Zdc rfl rfl rfl rfl ⟨rfl,(hs.sub (ssk ssr))⟩
 rw [if_neg de] at H
 refine Wx fl<|Wr fun jb fp=>As rfl ?_
 have hs:=hs.rowNil 5 (Rep.int .u8).sz
 have fq:=Zp.nil (Rep.int .u8) ρ
 refine Ox fp<|Zi fun jc fr=>Wr fun jd fs=>Mv rfl<|O_y rfl (Yx Ua h1 rfl)<|Mv rfl<|Ox fs<|Zl fun je ft jf=>Xb (σ:=Nat×List Int×Int×Value×List Value) (fun (bj,aa,ac,aw,ay)=>[(1,v1),(2,.pointer (some ⟨bl,0,none⟩)),(9,aw),(34,v1),(35,.int .i64 (x1.length:Int)),(36,.int .i64 ac)]) (fun (bj,aa,ac,aw,ay) w=>Zj.l3 bj x0 x1 aa ac=some r∧St w0 ρ ((.row aw 5 ((Rep.int .u8).sz) aa.length ay)::(.box bl 117 ([.int .i64 x0.base,.int .i64 x0.least,.int .i64 x0.most,.int .i64 x0.skew,.int .i64 x0.damp,.int .i64 x0.bias,.int .i64 x0.first,.int .u8 x0.between]))::Γ) w∧Zp (Rep.int .u8) ρ ay aa) (fun s=>s.1) (K0,([]:List Int),0,(.slice none 0 0),([])) sbn (Ai H (Ai hs fq)) ?_
 rintro ⟨bj,aa,ac,aw,ay⟩ w jg ⟨H,hs,bc⟩ b4
 show W _ _ _ _ _ _ [(1,v1),(2,.pointer (some ⟨bl,0,none⟩)),(9,aw),(34,v1),(35,.int .i64 (x1.length:Int)),(36,.int .i64 ac)] w
 cases bj with
 | zero=>rw [Zj.l3] at H;cases H
 | succ bj=>
 rw [Zj.l3] at H
 refine Wr fun jh fu=>Ols rfl<|Ox fu<|Zi fun ji fv=>Xa rfl (fun df=>?_) (fun df=>?_)
 rw [if_pos df] at H
 refine Wx fv<|Yt fun fw fx fe=>?_
 have ff:∀ (av:List Int) (bd:Value) (be:List Value) (w:World),Zj.j1 (Zj.l3 bj x0 x1) ac av=some r→St w0 ρ ((.row bd 5 ((Rep.int .u8).sz) av.length be)::(.box bl 117 ([.int .i64 x0.base,.int .i64 x0.least,.int .i64 x0.most,.int .i64 x0.skew,.int .i64 x0.damp,.int .i64 x0.bias,.int .i64 x0.first,.int .u8 x0.between]))::Γ) w→Zp (Rep.int .u8) ρ be av→fw [(1,v1),(2,.pointer (some ⟨bl,0,none⟩)),(9,bd),(34,v1),(35,.int .i64 (x1.length:Int)),(36,.int .i64 ac)] w:=by
  intro av bd be w H hs bs
  rw [Zj.j1] at H
  refine fx _ _<|Zc<|Oad rfl<|Mv rfl<|Zd (b4 (bj,av,(i64.wrap (ac+1)),bd,be) _ _ sbn (Ai H (Ai hs bs)) (Nat.lt_succ_self _))
 refine Zl fun jj jk jl=>Zi fun jm fy=>Zc ?_
 obtain ⟨fg,H⟩:=gd H
 obtain ⟨jn,jo,fz,ga⟩:=h1.ix Kk fg.1 fg.2
 refine O_y rfl (ga rfl rfl)<|O_y rfl (Xq Xn rfl (hs.see fz.int))<|As rfl<|Ox fy<|Wr fun gb dg=>O_y rfl (Xl (i:=1) Zdr Zdz hs rfl rfl rfl rfl)<|Mv rfl ?_
 obtain ⟨cj,ck,H⟩:=bnd H
 refine Oc rfl (Xv.c hs h0 ck) (fun gc w hpost=>?_)
 obtain ⟨rfl,hs⟩:=hpost
 refine Ox dg<|Xh rfl (fun b5=>?_) (fun b5=>?_)
 rw [if_pos b5] at H
 refine Zc<|Mv rfl<|Mv rfl<|O_y rfl (Uc Za8 un5 rfl)<|K6 (xs:=[.tmp 45]) (cs:=[.int .u8 (u8.wrap (rd x1 ac))]) Zii hs rfl rfl rfl (by decide) (by decide) rfl (Yd rfl Ki) (Zx rfl X6) (fun ge w hs=>?_)
 have cl:Zp (Rep.int .u8) ρ ([.int .u8 (u8.wrap (rd x1 ac))]) [u8.wrap (rd x1 ac)]:=Zp.cons (c:=[.int .u8 (u8.wrap (rd x1 ac))]) (x:=u8.wrap (rd x1 ac)) rfl (Zp.nil _ _)
 obtain ⟨dh,H⟩:=gd H
 refine Q3 (i:=1) Zii hs rfl bc rfl rfl rfl (Src.lit (j:=0) hs rfl cl) cl dh (fun di cm w dj hs=>As rfl<|Zd (fe _ _ _ sbn (ff (aa++([u8.wrap (rd x1 ac)])) di cm _ H (hs.sub (ssk (ssc (ssc ssr)))) dj)))
 rw [if_neg (bft b5)] at H
 exact Ui (fe _ _ _ sbn (ff aa aw ay _ H hs bc))
 rw [if_neg df] at H
 refine Y5 (ft _ _ (fr _ _<|Wr fun gf dk=>Mv rfl<|O_y rfl (Hg (i:=0) Zor hs rfl rfl)<|As rfl<|Ox dk<|Yt fun dl dm cn=>?_))
 have co:∀ (ak:List Int) (az:Value) (a0:List Value) (w:World),Zj.j4 x0 x1 aa ak=some r→St w0 ρ ((.row az 5 ((Rep.int .u8).sz) ak.length a0)::(.box bl 117 ([.int .i64 x0.base,.int .i64 x0.least,.int .i64 x0.most,.int .i64 x0.skew,.int .i64 x0.damp,.int .i64 x0.bias,.int .i64 x0.first,.int .u8 x0.between]))::Γ) w→Zp (Rep.int .u8) ρ a0 ak→dl [(1,v1),(2,.pointer (some ⟨bl,0,none⟩)),(9,az),(12,.int .i64 (aa.length:Int))] w:=by
  intro ak az a0 w H hs bp
  rw [Zj.j4] at H
  refine dm _ _<|Zi fun gg dn=>Qt 7 [0,1,0,4,3,19,63] [12,12,51,51,12,12,0] [0,1,0,4,3,19,63] [] (fun w=>St w0 ρ ((.row az 5 ((Rep.int .u8).sz) ak.length a0)::(.box bl 117 ([.int .i64 x0.base,.int .i64 x0.least,.int .i64 x0.most,.int .i64 x0.skew,.int .i64 x0.damp,.int .i64 x0.bias,.int .i64 x0.first,.int .u8 x0.between]))::Γ) w) Vr (by kernel_rfl) (fun sh=>?_)
  have hs:=hs.drew
  refine Fp 0 sh rfl (fun w=>Zw Zio rfl)<|Fy 1 sh rfl hs (fun w hs=>Yb 1 ag3 hs rfl rfl rfl)<|Fp 2 sh rfl (fun w=>Zw Zq5 rfl)<|Fy 3 sh rfl hs (fun w hs=>Yb 1 ag3 hs rfl rfl rfl)<|Fp 4 sh rfl (fun w=>Xz rfl)<|Fp 5 sh rfl (fun w=>Xz rfl)<|Fp 6 sh rfl (fun w=>Xz rfl)<|FE sh (dn _ _<|Yt fun dp dq cp=>?_)
  have cq:∀ (am:List Int) (bf:Value) (bg:List Value) (bo:Hp) (w:World),Zj.j2 x0 am=some r→Le ρ bo→St w0 bo ((.row bf 5 ((Rep.int .u8).sz) am.length bg)::(.box bl 117 ([.int .i64 x0.base,.int .i64 x0.least,.int .i64 x0.most,.int .i64 x0.skew,.int .i64 x0.damp,.int .i64 x0.bias,.int .i64 x0.first,.int .u8 x0.between]))::Γ) w→Zp (Rep.int .u8) bo bg am→dp [(2,.pointer (some ⟨bl,0,none⟩)),(9,bf)] w:=by
   intro am bf bg bo w H bn hs bq
   rw [Zj.j2] at H
   refine dq _ _<|Wr fun gh dr=>Mv rfl ?_
   obtain ⟨gi,bt,hs,ds⟩:=hs.rowEnd (j:=0) bq rfl
   refine O_y rfl (Zvw Zor un5 un9 hs ds rfl)<|As rfl<|Ox dr<|Zi fun gj dt=>Wr fun gk du=>O_y rfl (Xl (i:=0) Zdr Zdz hs rfl rfl rfl rfl)<|Mv rfl ?_
   obtain ⟨ci,cr,H⟩:=bnd H
   refine Oc rfl (Yi.c hs (Zd2.mono (bn.trans bt) h0) cr) (fun gl w hpost=>?_)
   obtain ⟨gm,gn,fh,rfl,b1,hs,go⟩:=hpost
   refine Mv rfl<|Oxt rfl<|Oxt rfl<|Oxt rfl<|As rfl<|As rfl<|As rfl<|Ox du<|W.weak [(20,_),(23,_)] (T2 rfl)<|Wr fun gp dv=>Mv rfl<|One rfl<|Zd (dv _ _ ?_)
   refine Xa rfl (fun b6=>?_) (fun b6=>?_)
   rw [if_pos b6] at H
   refine Wr fun gq dw=>As rfl<|As rfl<|As rfl<|Ox dw<|Zm ?_
   obtain rfl:=Z4 H
   exact Zdc rfl rfl rfl rfl ⟨rfl,((hs.sub (ssk (ssk ssr))).less ((bn.trans bt).trans b1))⟩
   rw [if_neg b6] at H
   refine Wx dt<|Wr fun gr dx=>Mv rfl<|As rfl<|As rfl<|As rfl<|Ox dx<|Zm ?_
   obtain rfl:=Z4 H
   exact Zdc rfl rfl rfl rfl ⟨rfl,((hs.sub (ssk (ssk ssr))).less ((bn.trans bt).trans b1))⟩
  refine Wr fun gs dy=>Mv rfl<|As rfl<|Ox dy<|Zl fun gt ct gu=>Xb (σ:=Nat×List Int×Int×Int×Int×Int×Value×List Value×Hp) (fun (ba,ag,aq,ar,ax,aj,ao,au,bh)=>[(1,v1),(2,.pointer (some ⟨bl,0,none⟩)),(9,ao),(12,.int .i64 (aa.length:Int)),(13,.int .i64 aq),(14,.int .i64 ar),(15,.int .i64 ax),(16,.int .i64 aj)]) (fun (ba,ag,aq,ar,ax,aj,ao,au,bh) w=>Zj.l2 ba x0 x1 aa ag aq ar ax aj=some r∧Le ρ bh∧St w0 bh ((.row ao 5 ((Rep.int .u8).sz) ag.length au)::(.box bl 117 ([.int .i64 x0.base,.int .i64 x0.least,.int .i64 x0.most,.int .i64 x0.skew,.int .i64 x0.damp,.int .i64 x0.bias,.int .i64 x0.first,.int .u8 x0.between]))::Γ) w∧Zp (Rep.int .u8) bh au ag) (fun s=>s.1) (K0,ak,x0.first,0,x0.bias,(aa.length:Int),az,a0,ρ) sbn (Ai H (Ai (Le.rfl' _) (Ai hs bp))) ?_
  rintro ⟨ba,ag,aq,ar,ax,aj,ao,au,bh⟩ w gv ⟨H,ap,hs,bk⟩ bz
  show W _ _ _ _ _ _ [(1,v1),(2,.pointer (some ⟨bl,0,none⟩)),(9,ao),(12,.int .i64 (aa.length:Int)),(13,.int .i64 aq),(14,.int .i64 ar),(15,.int .i64 ax),(16,.int .i64 aj)] w
  cases ba with
  | zero=>rw [Zj.l2] at H;cases H
  | succ ba=>
  rw [Zj.l2] at H
  refine Zi fun gw dz=>Wr fun gx ea=>Mv rfl<|Mv rfl<|O_y rfl (Yx Ua (h1.mono ap) rfl)<|Ols rfl<|Ox ea<|Xa rfl (fun b7=>?_) (fun b7=>?_)
  ·rw [if_pos b7] at H
   refine Wx dz<|Zl fun gy gz eb=>Wr fun ha ec=>Mv rfl<|Mv rfl ?_
   obtain ⟨a4,cu,H⟩:=bnd H
   refine Oc rfl (K3.c hs (h1.mono ap) cu) (fun hb w hpost=>?_)
   obtain ⟨rfl,hs⟩:=hpost
   refine As rfl<|Ox ec<|W.weak [(1,_),(2,_),(9,_),(12,_),(13,_),(14,_),(15,_),(16,_),(17,_)] sbn ?_
   refine Wr fun hc ed=>Mv rfl<|Mv rfl<|Mv rfl<|Osu rfl<|Mv rfl<|Oad rfl<|Oml rfl<|Oad rfl<|As rfl<|Ox ed<|W.weak [(1,_),(2,_),(9,_),(12,_),(14,_),(15,_),(16,_),(17,_)] sbn ?_
   refine Zi fun hd ee=>Wr fun he ef=>Mv rfl<|Ogt rfl<|Ox ef<|Xa rfl (fun b8=>?_) (fun b8=>?_)
   rw [if_pos b8] at H
   refine Wr fun hf eg=>As rfl<|As rfl<|As rfl<|Ox eg<|Zm ?_
   obtain rfl:=Z4 H
   exact Zdc rfl rfl rfl rfl ⟨rfl,((hs.sub (ssk (ssk ssr))).less ap)⟩
   rw [if_neg b8] at H
   refine Wx ee<|Wr fun hg eh=>Mv rfl<|As rfl<|Ox eh<|Zi fun hh ei=>Wr fun hi ej=>Mv rfl<|O_y rfl (Yx Ua (h1.mono ap) rfl)<|Mv rfl<|Ox ej<|W.weak [(1,_),(2,_),(9,_),(12,_),(13,_),(14,_),(15,_),(16,_),(81,_),(82,_),(83,_)] sbn ?_
   refine Zl fun hj ek hk=>Xb (σ:=Nat×List Int×Int×Int×Int×Int×Value×List Value×Hp) (fun (a5,ab,af,ah,ae,ad,ai,al,bb)=>[(1,v1),(2,.pointer (some ⟨bl,0,none⟩)),(9,ai),(12,.int .i64 (aa.length:Int)),(13,.int .i64 a4),(14,.int .i64 af),(15,.int .i64 ah),(16,.int .i64 ae),(81,v1),(82,.int .i64 (x1.length:Int)),(83,.int .i64 ad)]) (fun (a5,ab,af,ah,ae,ad,ai,al,bb) w=>Zj.l1 (Zj.l2 ba x0 x1 aa) a5 x0 x1 aa a4 ab af ah ae ad=some r∧Le bh bb∧St w0 bb ((.row ai 5 ((Rep.int .u8).sz) ab.length al)::(.box bl 117 ([.int .i64 x0.base,.int .i64 x0.least,.int .i64 x0.most,.int .i64 x0.skew,.int .i64 x0.damp,.int .i64 x0.bias,.int .i64 x0.first,.int .u8 x0.between]))::Γ) w∧Zp (Rep.int .u8) bb al ab) (fun s=>s.1) (K0,ag,(i64.wrap (ar+(i64.wrap ((i64.wrap (a4-aq))*(i64.wrap (aj+1)))))),ax,aj,0,ao,au,bh) sbn (Ai H (Ai (Le.rfl' _) (Ai hs bk))) ?_
   rintro ⟨a5,ab,af,ah,ae,ad,ai,al,bb⟩ w hl ⟨H,a3,hs,a1⟩ b0
   show W _ _ _ _ _ _ [(1,v1),(2,.pointer (some ⟨bl,0,none⟩)),(9,ai),(12,.int .i64 (aa.length:Int)),(13,.int .i64 a4),(14,.int .i64 af),(15,.int .i64 ah),(16,.int .i64 ae),(81,v1),(82,.int .i64 (x1.length:Int)),(83,.int .i64 ad)] w
   cases a5 with
   | zero=>rw [Zj.l1] at H;cases H
   | succ a5=>
   rw [Zj.l1] at H
   refine Wr fun hm el=>Ols rfl<|Ox el<|Zi fun hn em=>Xa rfl (fun b9=>?_) (fun b9=>?_)
   rw [if_pos b9] at H
   refine Wx em<|Zi fun ho en=>Zl fun hp hq hr=>Zi fun ht eo=>Zc ?_
   obtain ⟨cv,H⟩:=gd H
   obtain ⟨hu,hv,ep,eq⟩:=(h1.mono (ap.trans a3)).ix Kk cv.1 cv.2
   refine O_y rfl (eq rfl rfl)<|O_y rfl (Xq Xn rfl (hs.see ep.int))<|As rfl<|Ox eo<|W.weak [(1,_),(2,_),(9,_),(12,_),(13,_),(14,_),(15,_),(16,_),(19,_),(81,_),(82,_),(83,_)] sbn ?_
   refine Yt fun er es ca=>?_
   have cb:∀ (an:List Int) (a2 a6 a7:Int) (a8:Value) (a9:List Value) (bm:Hp) (w:World),Zj.j3 (Zj.l1 (Zj.l2 ba x0 x1 aa) a5 x0 x1 aa a4) ad an a2 a6 a7=some r→Le bb bm→St w0 bm ((.row a8 5 ((Rep.int .u8).sz) an.length a9)::(.box bl 117 ([.int .i64 x0.base,.int .i64 x0.least,.int .i64 x0.most,.int .i64 x0.skew,.int .i64 x0.damp,.int .i64 x0.bias,.int .i64 x0.first,.int .u8 x0.between]))::Γ) w→Zp (Rep.int .u8) bm a9 an→er [(1,v1),(2,.pointer (some ⟨bl,0,none⟩)),(9,a8),(12,.int .i64 (aa.length:Int)),(13,.int .i64 a4),(14,.int .i64 a2),(15,.int .i64 a6),(16,.int .i64 a7),(81,v1),(82,.int .i64 (x1.length:Int)),(83,.int .i64 ad)] w:=by
    intro an a2 a6 a7 a8 a9 bm w H bu hs br
    rw [Zj.j3] at H
    refine es _ _<|Wr fun hw et=>Mv rfl<|Ogt rfl<|Ox et<|Xa rfl (fun cc=>?_) (fun cc=>?_)
    rw [if_pos cc] at H
    refine Wr fun hx eu=>As rfl<|As rfl<|As rfl<|Ox eu<|W.weak [(4,_),(5,_),(6,_)] (T3 rfl)<|Zm ?_
    obtain rfl:=Z4 H
    exact Zdc rfl rfl rfl rfl ⟨rfl,((hs.sub (ssk (ssk ssr))).less ((ap.trans a3).trans bu))⟩
    rw [if_neg cc] at H
    refine Wx en<|Zc<|Oad rfl<|Mv rfl<|Zd (b0 (a5,an,a2,a6,a7,(i64.wrap (ad+1)),a8,a9,bm) _ _ sbn (Ai H (Ai (a3.trans bu) (Ai hs br))) (Nat.lt_succ_self _))
   refine Zl fun hy hz ia=>Wr fun ib ev=>Mv rfl<|O_y rfl (Uc Za8 un3 rfl)<|Mv rfl<|Ols rfl<|As rfl<|Ox ev<|W.weak [(1,_),(2,_),(9,_),(12,_),(13,_),(14,_),(15,_),(16,_),(19,_),(81,_),(82,_),(83,_),(87,_)] sbn ?_
   refine Xa rfl (fun cd=>?_) (fun cd=>?_)
   rw [if_pos cd] at H
   refine Zc<|Mv rfl<|Oad rfl<|As rfl<|Zd (ca _ _ _ sbn (cb ab (i64.wrap (af+1)) ah ae ai al bb _ H (Le.rfl' _) hs a1))
   rw [if_neg cd] at H
   refine Wr fun ic ew=>Mv rfl<|O_y rfl (Uc Za8 un3 rfl)<|Mv rfl<|Oeq rfl<|As rfl<|Ox ew<|W.weak [(1,_),(2,_),(9,_),(12,_),(13,_),(14,_),(15,_),(16,_),(81,_),(82,_),(83,_),(94,_)] sbn ?_
   refine Xa rfl (fun ce=>?_) (fun ce=>?_)
   rw [if_pos ce] at H
   refine Wr fun id ex=>Mv rfl<|O_y rfl (Xl (i:=1) Zdr Zdz hs rfl rfl rfl rfl)<|Mv rfl<|Mv rfl ?_
   obtain ⟨bx,cw,H⟩:=bnd H
   refine Oc rfl (Qh.c hs (Zd2.mono (ap.trans a3) h0) cw) (fun ie w hpost=>?_)
   obtain ⟨ey,ig,fi,rfl,bv,hs,cx⟩:=hpost
   obtain ⟨ez,H⟩:=gd H
   refine Q3 (i:=1) Zii hs rfl (a1.mono bv) rfl rfl rfl (Src.lit (j:=0) hs rfl cx) cx ez (fun e0 cy w e1 hs=>As rfl<|Ox ex<|W.weak [(1,_),(2,_),(9,_),(12,_),(13,_),(14,_),(16,_),(81,_),(82,_),(83,_)] sbn ?_)
   refine Wr fun ih e2=>O_y rfl (Xl (i:=2) Zdr Zdz hs rfl rfl rfl rfl)<|Mv rfl<|Mv rfl<|Oad rfl<|Mv rfl<|Mv rfl<|Oeq rfl ?_
   obtain ⟨b3,cz,H⟩:=bnd H
   refine Oc rfl (Y9.c hs (Zd2.mono ((ap.trans a3).trans bv) h0) cz) (fun ii w hpost=>?_)
   obtain ⟨rfl,hs⟩:=hpost
   refine As rfl<|Ox e2<|W.weak [(1,_),(2,_),(9,_),(12,_),(13,_),(15,_),(16,_),(81,_),(82,_),(83,_)] sbn ?_
   refine Wr fun ij e3=>As rfl<|Ox e3<|Zc<|Mv rfl<|Oad rfl<|As rfl<|Zd (ca _ _ _ sbn (cb (ab++bx) 0 b3 (i64.wrap (ae+1)) e0 cy ey _ H bv (hs.sub (ssk (ssc (ssc ssr)))) e1))
   rw [if_neg ce] at H
   exact Ui (ca _ _ _ sbn (cb ab af ah ae ai al bb _ H (Le.rfl' _) hs a1))
   rw [if_neg b9] at H
   refine Y5 (ek _ _ (ei _ _<|Zi fun ik e4=>Wr fun il e5=>Mv rfl<|Mv rfl<|O_y rfl (Yx Ua (h1.mono (ap.trans a3)) rfl)<|Oeq rfl<|Ox e5<|W.weak [(1,_),(2,_),(9,_),(12,_),(13,_),(14,_),(15,_),(16,_),(121,_)] sbn ?_))
   refine Xa rfl (fun cf=>?_) (fun cf=>?_)
   rw [if_pos cf] at H
   exact Y5 (eb _ _ _ rfl (ct _ _ (cp _ _ _ (T2 rfl) (cq ab ai al bb _ H (ap.trans a3) hs a1))))
   rw [if_neg cf] at H
   refine Wx e4<|Wr fun im e6=>Mv rfl<|Oad rfl<|As rfl<|Ox e6<|Wr fun io e7=>Mv rfl<|Oad rfl<|As rfl<|Ox e7<|Zi fun ip e8=>?_
   refine Zc<|Mv rfl<|Ogt rfl<|Ox e8<|W.weak [(1,_),(2,_),(9,_),(12,_),(13,_),(14,_),(15,_),(16,_),(127,_)] sbn ?_
   refine Xa rfl (fun cg=>?_) (fun cg=>?_)
   rw [if_pos cg] at H
   refine Wr fun iq e9=>As rfl<|As rfl<|As rfl<|Ox e9<|Zm ?_
   obtain rfl:=Z4 H
   exact Zdc rfl rfl rfl rfl ⟨rfl,((hs.sub (ssk (ssk ssr))).less (ap.trans a3))⟩
   rw [if_neg cg] at H
   exact Ui (bz (ba,ab,(i64.wrap (a4+1)),(i64.wrap (af+1)),ah,ae,ai,al,bb) _ _ sbn (Ai H (Ai (ap.trans a3) (Ai hs a1))) (Nat.lt_succ_self _))
  rw [if_neg b7] at H
  exact Y5 (ct _ _ (cp _ _ _ (T2 rfl) (cq ag ao au bh _ H ap hs bk)))
 refine Wr fun ir fa=>Mv rfl<|Ogt rfl<|Ox fa<|Xa rfl (fun ch=>?_) (fun ch=>?_)
 rw [if_pos ch] at H
 refine Zc<|Mv rfl<|Ofd Zrt rfl<|Obx 1 ag5 hs rfl<|K6 (xs:=[.tmp 55]) (cs:=[.int .u8 x0.between]) Zii hs rfl rfl rfl (by decide) (by decide) rfl (Yd rfl Ki) (Zx rfl X6) (fun it w hs=>?_)
 have da:Zp (Rep.int .u8) ρ ([.int .u8 x0.between]) [x0.between]:=Zp.cons (c:=[.int .u8 x0.between]) (x:=x0.between) rfl (Zp.nil _ _)
 obtain ⟨fb,H⟩:=gd H
 refine Q3 (i:=1) Zii hs rfl bc rfl rfl rfl (Src.lit (j:=0) hs rfl da) da fb (fun fc db w fd hs=>As rfl<|Zd (cn _ _ _ (T4 rfl) (co (aa++([x0.between])) fc db _ H (hs.sub (ssk (ssc (ssc ssr)))) fd)))
 rw [if_neg ch] at H
 exact Ui (cn _ _ _ (T4 rfl) (co aa aw ay _ H hs bc))

def Vz.f (x0:List Int):Option (ByteArray×Int×Int):=(Uk.f).bind fun ae=>((Zj.f ae x0).bind fun ab=>(some (ab.1,ab.2.1,ab.2.2)))
theorem Vz.c (hs:St w0 ρ (Γ) w) {v0:Value} {x0:List Int} (h0:SlR (Rep.int .i32) ρ v0 x0) {r:ByteArray×Int×Int} (H:Vz.f x0=some r):Zq Tryz.prog 29 [v0] w (fun v w'=>v=.tuple #[.string r.1,.int .i64 r.2.1,.int .i64 r.2.2]∧St w0 ρ Γ w'):=by
 rw [Vz.f] at H
 refine Et Tryz.func29 Tryz.ntmps29 rfl<|Wr fun ak ag=>As rfl<|As rfl<|As rfl<|Ox ag<|Zi fun al ah=>Zc ?_
 obtain ⟨ae,ac,H⟩:=bnd H
 refine Oc rfl (Uk.c hs ac) (fun am w hpost=>?_)
 obtain ⟨an,ai,rfl,aa,hs,af⟩:=hpost
 have aj:=af
 obtain rfl:=aj
 refine Mv rfl ?_
 obtain ⟨ab,ad,H⟩:=bnd H
 refine Oc rfl (Zj.c hs af (h0.mono aa) ad) (fun ao w hpost=>?_)
 obtain ⟨rfl,hs⟩:=hpost
 refine Oxt rfl<|Oxt rfl<|Oxt rfl<|As rfl<|As rfl<|As rfl<|Ox ah<|Zm ?_
 obtain rfl:=Z4 H
 exact Zdc rfl rfl rfl rfl ⟨rfl,(hs.less aa)⟩

def V0.f (x0:List Int):Option (ByteArray×Int×Int):=(Up.f x0).bind fun af=>(if af=true then (some (runesBytes x0,0,0)) else ((Vz.f x0).bind fun aa=>(if aa.2.2≠0 then (some ((⟨#[]⟩:ByteArray),aa.2.1,aa.2.2)) else (if (⟨#[120,110,45,45]⟩:ByteArray).size+aa.1.size≤9223372036854775807 then (some ((⟨#[120,110,45,45]⟩:ByteArray)++aa.1,0,0)) else none))))
theorem V0.c (hs:St w0 ρ (Γ) w) {v0:Value} {x0:List Int} (h0:SlR (Rep.int .i32) ρ v0 x0) {r:ByteArray×Int×Int} (H:V0.f x0=some r):Zq Tryz.prog 9 [v0] w (fun v w'=>v=.tuple #[.string r.1,.int .i64 r.2.1,.int .i64 r.2.2]∧St w0 ρ Γ w'):=by
 rw [V0.f] at H
 refine Et Tryz.func9 Tryz.ntmps9 rfl<|Wr fun aq ag=>As rfl<|As rfl<|As rfl<|Ox ag<|Zi fun ar ah=>Wr fun au ai=>Mv rfl ?_
 obtain ⟨af,ab,H⟩:=bnd H
 refine Oc rfl (Up.c hs h0 ab) (fun av w hpost=>?_)
 obtain ⟨rfl,hs⟩:=hpost
 refine Ox ai<|Xh rfl (fun ac=>?_) (fun ac=>?_)
 rw [if_pos ac] at H
 refine Wr fun aw aj=>Mv rfl<|O_y rfl (Zg0 Ua Za8 un9 hs h0 rfl)<|As rfl<|As rfl<|As rfl<|Ox aj<|Zm ?_
 obtain rfl:=Z4 H
 exact Zdc rfl rfl rfl rfl ⟨rfl,hs⟩
 rw [if_neg (bft ac)] at H
 refine Wx ah<|Wr fun ax ak=>Mv rfl ?_
 obtain ⟨aa,ad,H⟩:=bnd H
 refine Oc rfl (Vz.c hs h0 ad) (fun ay w hpost=>?_)
 obtain ⟨rfl,hs⟩:=hpost
 refine Mv rfl<|Oxt rfl<|Oxt rfl<|Oxt rfl<|As rfl<|As rfl<|As rfl<|Ox ak<|W.weak [(5,_),(6,_),(7,_)] (T3 rfl)<|Zi fun az al=>Wr fun a0 am=>Mv rfl<|One rfl ?_
 refine Ox am<|Xa rfl (fun ae=>?_) (fun ae=>?_)
 rw [if_pos ae] at H
 refine Wr fun a1 an=>Mv rfl<|Mv rfl<|As rfl<|As rfl<|As rfl<|Ox an<|Zm ?_
 obtain rfl:=Z4 H
 exact Zdc rfl rfl rfl rfl ⟨rfl,hs⟩
 rw [if_neg ae] at H
 refine Wx al<|Wr fun a2 ao=>Mv rfl ?_
 obtain ⟨ap,H⟩:=gd H
 refine O_y rfl (Z0c rfl rfl ap)<|As rfl<|As rfl<|As rfl<|Ox ao<|Zm ?_
 obtain rfl:=Z4 H
 exact Zdc rfl rfl rfl rfl ⟨rfl,hs⟩

def Uh.f (x0:Option Tbs) (x1:List Int):Option Bool:=(Qy.f x0 x1).bind fun ac=>(some (decide ((ac.length:Int)=0)))
theorem Uh.c (hs:St w0 ρ (Γ) w) {v0:Value} {x0:Option Tbs} (h0:Xw H4 ρ v0 x0) {v1:Value} {x1:List Int} (h1:SlR (Rep.int .i32) ρ v1 x1) {r:Bool} (H:Uh.f x0 x1=some r):Zq Tryz.prog 10 [v0,v1] w (fun v w'=>v=.bool r∧St w0 ρ Γ w'):=by
 rw [Uh.f] at H
 refine Et Tryz.func10 Tryz.ntmps10 rfl<|Wr fun ag ad=>As rfl<|Ox ad<|Wr fun ah ae=>Mv rfl<|Mv rfl ?_
 obtain ⟨ac,aa,H⟩:=bnd H
 refine Oc rfl (Qy.c hs h0 h1 aa) (fun ai w hpost=>?_)
 obtain ⟨aj,ak,af,rfl,ab,hs,al⟩:=hpost
 refine O_y rfl (Hg (i:=0) Zxb hs rfl rfl)<|Oeq rfl<|As rfl<|Ox ae<|Zm ?_
 obtain rfl:=Z4 H
 exact r1 rfl ⟨rfl,((hs.sub (ssk ssr)).less ab)⟩

def K4.j1 (aa:Bool):Option Bool:=some aa
def K4.f:Option Bool:=(Zk.f (⟨([]:List ByteArray),[(⟨97,122,1⟩:Val),(⟨252,252,1⟩:Val)],([]:List Chs),([]:List Val),([]:List Chs),([]:List Spn),([]:List Val),([]:List Val),([]:List Spn),([]:List Val),([]:List Chs)⟩:Bk)).bind fun az=>((Vq.f az.1 ([120,110,45,45,98,99,104,101,114,45,107,118,97])).bind fun av=>((V0.f ([98,252])).bind fun ah=>(if az.2=0 then (if av.coded=true then (if av.fault=0 then (if (av.says.length:Int)=6 then (if ah.1=(⟨#[120,110,45,45,98,45,101,104,97]⟩:ByteArray) then (if ah.2.1=0 then (if ah.2.2=0 then ((Uh.f az.1 ([97])).bind fun aj=>(K4.j1 aj)) else (K4.j1 false)) else (K4.j1 false)) else (K4.j1 false)) else (K4.j1 false)) else (K4.j1 false)) else (K4.j1 false)) else (K4.j1 false))))
theorem K4.c (hs:St w0 ρ (Γ) w) {r:Bool} (H:K4.f=some r):Zq Tryz.prog 8 [] w (fun v w'=>v=.bool r∧St w0 ρ Γ w'):=by
 rw [K4.f] at H
 refine Et Tryz.func8 Tryz.ntmps8 rfl<|Wr fun b7 be=>As rfl<|Ox be<|Wr fun b8 bf=>O_y rfl (Qg (cs:=[.int .i32 97,.int .i32 122,.int .i64 1]) Zml Zwr ((Z3.cons rfl rfl (Z3.cons rfl rfl (Z3.cons rfl rfl Z3.nil)))) Zft (by kernel_rfl))<|O_y rfl (Qg (cs:=[.int .i32 252,.int .i32 252,.int .i64 1]) Zml Zwr ((Z3.cons rfl rfl (Z3.cons rfl rfl (Z3.cons rfl rfl Z3.nil)))) Zft (by kernel_rfl))<|K6 (xs:=[.tmp 8,.tmp 9]) (cs:=[.int .i32 97,.int .i32 122,.int .i64 1,.int .i32 252,.int .i32 252,.int .i64 1]) Zcx hs rfl rfl rfl (by decide) (by decide) rfl (Yd rfl (Yd rfl Ki)) (Zx rfl (Zx rfl X6)) (fun bg w hs=>?_)
 have bh:Zp Qb ρ ([.int .i32 97,.int .i32 122,.int .i64 1,.int .i32 252,.int .i32 252,.int .i64 1]) [(⟨97,122,1⟩:Val),(⟨252,252,1⟩:Val)]:=Zp.cons (c:=[.int .i32 97,.int .i32 122,.int .i64 1]) (x:=(⟨97,122,1⟩:Val)) rfl (Zp.cons (c:=[.int .i32 252,.int .i32 252,.int .i64 1]) (x:=(⟨252,252,1⟩:Val)) rfl (Zp.nil _ _))
 obtain ⟨ag,a0,hs,bb⟩:=hs.rowEnd (j:=0) bh rfl
 refine O_y rfl (Qg (cs:=[.slice none 0 0,.slice (some ⟨bg,0,none⟩) 2 2,.slice none 0 0,.slice none 0 0,.slice none 0 0,.slice none 0 0,.slice none 0 0,.slice none 0 0,.slice none 0 0,.slice none 0 0,.slice none 0 0]) Zzf Z0p ((Z3.cons rfl bb.cellsL Z3.nil)) Zk3 (by kernel_rfl)) ?_
 have bi:SlR Rep.str ag (.slice none 0 0) []:=.inl ⟨rfl,none,0,rfl⟩
 have bj:SlR Kz ag (.slice none 0 0) []:=.inl ⟨rfl,none,0,rfl⟩
 have bk:SlR Qb ag (.slice none 0 0) []:=.inl ⟨rfl,none,0,rfl⟩
 have bl:SlR Kz ag (.slice none 0 0) []:=.inl ⟨rfl,none,0,rfl⟩
 have bm:SlR Kj ag (.slice none 0 0) []:=.inl ⟨rfl,none,0,rfl⟩
 have bn:SlR Qb ag (.slice none 0 0) []:=.inl ⟨rfl,none,0,rfl⟩
 have bo:SlR Qb ag (.slice none 0 0) []:=.inl ⟨rfl,none,0,rfl⟩
 have bp:SlR Kj ag (.slice none 0 0) []:=.inl ⟨rfl,none,0,rfl⟩
 have bq:SlR Qb ag (.slice none 0 0) []:=.inl ⟨rfl,none,0,rfl⟩
 have br:SlR Kz ag (.slice none 0 0) []:=.inl ⟨rfl,none,0,rfl⟩
 obtain ⟨az,a1,H⟩:=bnd H
 refine Oc rfl (Zk.c hs ⟨_,_,_,_,_,_,_,_,_,_,_,rfl,bi,bb,bj,bk,bl,bm,bn,bo,bp,bq,br⟩ a1) (fun b9 w hpost=>?_)
 obtain ⟨bs,ca,rfl,a2,hs,bc⟩:=hpost
 refine Mv rfl<|Oxt rfl<|Oxt rfl<|As rfl<|As rfl<|Ox bf<|Wr fun cb bt=>Mv rfl<|K6 (xs:=[.const (.int .i32 120),.const (.int .i32 110),.const (.int .i32 45),.const (.int .i32 45),.const (.int .i32 98),.const (.int .i32 99),.const (.int .i32 104),.const (.int .i32 101),.const (.int .i32 114),.const (.int .i32 45),.const (.int .i32 107),.const (.int .i32 118),.const (.int .i32 97)]) (cs:=[.int .i32 120,.int .i32 110,.int .i32 45,.int .i32 45,.int .i32 98,.int .i32 99,.int .i32 104,.int .i32 101,.int .i32 114,.int .i32 45,.int .i32 107,.int .i32 118,.int .i32 97]) Kk hs rfl rfl rfl (by decide) (by decide) rfl (Yd rfl (Yd rfl (Yd rfl (Yd rfl (Yd rfl (Yd rfl (Yd rfl (Yd rfl (Yd rfl (Yd rfl (Yd rfl (Yd rfl (Yd rfl Ki))))))))))))) (Zx rfl (Zx rfl (Zx rfl (Zx rfl (Zx rfl (Zx rfl (Zx rfl (Zx rfl (Zx rfl (Zx rfl (Zx rfl (Zx rfl (Zx rfl X6))))))))))))) (fun cc w hs=>?_)
 have bu:Zp (Rep.int .i32) bs ([.int .i32 120,.int .i32 110,.int .i32 45,.int .i32 45,.int .i32 98,.int .i32 99,.int .i32 104,.int .i32 101,.int .i32 114,.int .i32 45,.int .i32 107,.int .i32 118,.int .i32 97]) [120,110,45,45,98,99,104,101,114,45,107,118,97]:=Zp.cons (c:=[.int .i32 120]) (x:=120) rfl (Zp.cons (c:=[.int .i32 110]) (x:=110) rfl (Zp.cons (c:=[.int .i32 45]) (x:=45) rfl (Zp.cons (c:=[.int .i32 45]) (x:=45) rfl (Zp.cons (c:=[.int .i32 98]) (x:=98) rfl (Zp.cons (c:=[.int .i32 99]) (x:=99) rfl (Zp.cons (c:=[.int .i32 104]) (x:=104) rfl (Zp.cons (c:=[.int .i32 101]) (x:=101) rfl (Zp.cons (c:=[.int .i32 114]) (x:=114) rfl (Zp.cons (c:=[.int .i32 45]) (x:=45) rfl (Zp.cons (c:=[.int .i32 107]) (x:=107) rfl (Zp.cons (c:=[.int .i32 118]) (x:=118) rfl (Zp.cons (c:=[.int .i32 97]) (x:=97) rfl (Zp.nil _ _)))))))))))))
 obtain ⟨cd,ak,hs,bv⟩:=hs.rowEnd (j:=0) bu rfl
 obtain ⟨av,a3,H⟩:=bnd H
 refine Oc rfl (Vq.c hs (bc.mono ak) bv a3) (fun ce w hpost=>?_)
 obtain ⟨bw,bx,rfl,aw,hs,bz⟩:=hpost
 have b0:=bz
 obtain ⟨b1,rfl,bd⟩:=b0
 refine Y6 Zta hs rfl (fun b2 w hs=>Ye (i:=0) Zdi hs rfl rfl rfl rfl rfl (Zb bd.one (Zb rfl (Zb rfl Ym))) (fun w hs=>Ox bt<|W.weak [(1,_),(2,_),(3,_)] (T3 rfl)<|Wr fun cf b3=>K6 (xs:=[.const (.int .i32 98),.const (.int .i32 252)]) (cs:=[.int .i32 98,.int .i32 252]) Kk hs rfl rfl rfl (by decide) (by decide) rfl (Yd rfl (Yd rfl Ki)) (Zx rfl (Zx rfl X6)) (fun cg w hs=>?_)))
 have a4:Zp (Rep.int .i32) bw ([.int .i32 98,.int .i32 252]) [98,252]:=Zp.cons (c:=[.int .i32 98]) (x:=98) rfl (Zp.cons (c:=[.int .i32 252]) (x:=252) rfl (Zp.nil _ _))
 obtain ⟨ab,ae,hs,a5⟩:=hs.rowEnd (j:=0) a4 rfl
 obtain ⟨ah,ax,H⟩:=bnd H
 refine Oc rfl (V0.c hs a5 ax) (fun b4 w hpost=>?_)
 obtain ⟨rfl,hs⟩:=hpost
 refine Mv rfl<|Oxt rfl<|Oxt rfl<|Oxt rfl<|As rfl<|As rfl<|As rfl<|Ox b3<|Yt fun a6 a7 ac=>?_
 have ad:∀ (aa:Bool) (af:Hp) (w:World),K4.j1 aa=some r→Le ab af→St w0 af ((.box b2 43 ([b1,.bool av.coded,.int .i64 av.fault]))::Γ) w→a6 [(0,.bool aa)] w:=by
  intro aa af w H al hs
  rw [K4.j1] at H
  refine a7 _ _<|Zm ?_
  obtain rfl:=Z4 H
  exact r1 rfl ⟨rfl,((hs.sub (ssk ssr)).less (((((a0.trans a2).trans ak).trans aw).trans ae).trans al))⟩
 refine Zc<|Mv rfl<|Oeq rfl<|Mv rfl<|X4 (dj:=26) rfl (fun am=>?_) (fun am=>?_)
 rw [if_pos am] at H
 refine Oe rfl<|Ofd Zkk rfl<|Oe rfl<|Obx 0 ag4 hs rfl<|Opk rfl<|Mv rfl<|V9 (dj:=30) rfl (fun an=>?_) (fun an=>?_)
 rw [if_pos an] at H
 refine Oe rfl<|Ofd Zd5 rfl<|Oe rfl<|Obx 0 ag3 hs rfl<|Oe rfl<|Oeq rfl<|Opk rfl<|Mv rfl<|X4 (dj:=35) rfl (fun ao=>?_) (fun ao=>?_)
 rw [if_pos ao] at H
 refine Oe rfl<|Ofd Zf2 rfl<|Oe rfl<|Obx 0 Za1 hs rfl<|Oe rfl<|O_y rfl (Yx Ua (bd.mono ae) rfl)<|Oe rfl<|Oeq rfl<|Opk rfl<|Mv rfl<|X4 (dj:=41) rfl (fun ap=>?_) (fun ap=>?_)
 rw [if_pos ap] at H
 refine Oe rfl<|Mv rfl<|Oe rfl<|O_y rfl (Zj7 rfl rfl)<|Opk rfl<|Mv rfl<|X4 (dj:=45) rfl (fun aq=>?_) (fun aq=>?_)
 rw [if_pos aq] at H
 refine Oe rfl<|Mv rfl<|Oe rfl<|Oeq rfl<|Opk rfl<|Mv rfl<|X4 (dj:=49) rfl (fun ar=>?_) (fun ar=>?_)
 rw [if_pos ar] at H
 refine Oe rfl<|Mv rfl<|Oe rfl<|Oeq rfl<|Opk rfl<|Mv rfl<|X4 (dj:=53) rfl (fun au=>?_) (fun au=>?_)
 rw [if_pos au] at H
 refine Oe rfl<|Mv rfl<|Oe rfl<|K6 (xs:=[.const (.int .i32 97)]) (cs:=[.int .i32 97]) Kk hs rfl rfl rfl (by decide) (by decide) rfl (Yd rfl Ki) (Zx rfl X6) (fun b5 w hs=>?_)
 have a8:Zp (Rep.int .i32) ab ([.int .i32 97]) [97]:=Zp.cons (c:=[.int .i32 97]) (x:=97) rfl (Zp.nil _ _)
 obtain ⟨a9,ai,hs,ba⟩:=hs.rowEnd (j:=0) a8 rfl
 refine Oe rfl ?_
 obtain ⟨aj,ay,H⟩:=bnd H
 refine Oc rfl (Uh.c hs (bc.mono (((ak.trans aw).trans ae).trans ai)) ba ay) (fun b6 w hpost=>?_)
 obtain ⟨rfl,hs⟩:=hpost
 refine Opk rfl<|As rfl<|Zd (ac _ _ _ (S1 rfl) (ad aj a9 _ H ai hs))
 rw [if_neg au] at H
 refine On rfl<|On rfl<|On rfl<|Opk rfl<|As rfl<|Zd (ac _ _ _ (S1 rfl) (ad false ab _ H (Le.rfl' _) hs))
 rw [if_neg ar] at H
 refine On rfl<|On rfl<|Opk rfl<|Mv rfl<|On rfl<|On rfl<|On rfl<|Opk rfl<|As rfl<|Zd (ac _ _ _ (S1 rfl) (ad false ab _ H (Le.rfl' _) hs))
 rw [if_neg aq] at H
 refine On rfl<|On rfl<|Opk rfl<|Mv rfl<|On rfl<|On rfl<|Opk rfl<|Mv rfl<|On rfl<|On rfl<|On rfl<|Opk rfl<|As rfl<|Zd (ac _ _ _ (S1 rfl) (ad false ab _ H (Le.rfl' _) hs))
 rw [if_neg ap] at H
 refine On rfl<|On rfl<|Opk rfl<|Mv rfl<|On rfl<|On rfl<|Opk rfl<|Mv rfl<|On rfl<|On rfl<|Opk rfl<|Mv rfl<|On rfl<|On rfl ?_
 refine On rfl<|Opk rfl<|As rfl<|Zd (ac _ _ _ (S1 rfl) (ad false ab _ H (Le.rfl' _) hs))
 rw [if_neg ao] at H
 refine On rfl<|On rfl<|On rfl<|On rfl<|Opk rfl<|Mv rfl<|On rfl<|On rfl<|Opk rfl<|Mv rfl<|On rfl<|On rfl<|Opk rfl<|Mv rfl ?_
 refine On rfl<|On rfl<|Opk rfl<|Mv rfl<|On rfl<|On rfl<|On rfl<|Opk rfl<|As rfl<|Zd (ac _ _ _ (S1 rfl) (ad false ab _ H (Le.rfl' _) hs))
 rw [if_neg (bft an)] at H
 refine On rfl<|On rfl<|On rfl<|Opk rfl<|Mv rfl<|On rfl<|On rfl<|On rfl<|On rfl<|Opk rfl<|Mv rfl<|On rfl<|On rfl<|Opk rfl ?_
 refine Mv rfl<|On rfl<|On rfl<|Opk rfl<|Mv rfl<|On rfl<|On rfl<|Opk rfl<|Mv rfl<|On rfl<|On rfl<|On rfl<|Opk rfl<|As rfl ?_
 exact Zd (ac _ _ _ (S1 rfl) (ad false ab _ H (Le.rfl' _) hs))
 rw [if_neg am] at H
 refine On rfl<|On rfl<|Opk rfl<|Mv rfl<|On rfl<|On rfl<|On rfl<|Opk rfl<|Mv rfl<|On rfl<|On rfl<|On rfl<|On rfl<|Opk rfl ?_
 refine Mv rfl<|On rfl<|On rfl<|Opk rfl<|Mv rfl<|On rfl<|On rfl<|Opk rfl<|Mv rfl<|On rfl<|On rfl<|Opk rfl<|Mv rfl<|On rfl ?_
 refine On rfl<|On rfl<|Opk rfl<|As rfl<|Zd (ac _ _ _ (S1 rfl) (ad false ab _ H (Le.rfl' _) hs))

end Go.Proofs.YthoicbafdanmkaaGreatDoor
