/- Texts of this repo, merged for the claim: TA3, TS1, R14, PureS, PureA, PureT, PureU, PureV, PureW, PureB, PureC, PureD, PureE, PureF, PureG, PureH, PureI. -/
import Derived.Test.YtdkkmdeanfcfnaaGreatDoorWhole1
import Derived.Test.YtdkkmdeanfcfnaaGreatDoorWhole4
import Derived.Test.YtdkkmdeanfcfnaaGreatDoorWhole3
import Derived.Test.YtdkkmdeanfcfnaaGreatDoorWhole0
import Derived.Test.YtdkkmdeanfcfnaaGreatDoorWhole2
namespace Go.Proofs.YtdkkmdeanfcfnaaGreatDoor
section
open Go.IntKind (i8 i16 i32 i64 u8 u16 u32 u64)
open Go.RowKit
set_option maxRecDepth 100000
set_option maxHeartbeats 4000000
variable {w0 w:World} {ρ:Hp} {Γ:List Ky}
set_option linter.unusedVariables false
def V8.l1:Nat->List Spn->List Spn->Int->Option (List Spn)
  | 0,_,_,_=>none
  | ae+1,x0,ab,aa=>if aa<(x0.length:Int) then (if (0:Int)<=aa/\aa<(x0.length:Int) then (if ab.length+([(⟨(rd x0 aa).lo,(rd x0 aa).hi⟩:Spn)]).length<=most then ((V8.l1 ae x0) (ab++([(⟨(rd x0 aa).lo,(rd x0 aa).hi⟩:Spn)])) (i64.wrap (aa+1))) else none) else none) else (some ab)
def V8.f (x0:List Spn):Option (List Spn):=V8.l1 K0 x0 ([]:List Spn) 0
theorem V8.c (hs:St w0 ρ (Γ) w) {v0:Value} {x0:List Spn} (h0:SlR J5 ρ v0 x0) {r:List Spn} (H:V8.f x0=some r):Zn Tryz.prog 44 [v0] w (λv w'=>∃ (ρ':Hp) (v0:Value) (cs0:List Value),v=v0/\Le ρ ρ'/\St w0 ρ' (.row v0 80 J5.sz r.length cs0::Γ) w'/\Zo J5 ρ' cs0 r):=by
 rw [V8.f] at H;refine Et Tryz.func44 Tryz.ntmps44 V<|Wr λa5 al=>As V<|Ox al<|Wr λa6 am=>Kj (xs:=[]) (cs:=[]) Zhd hs V V V (by decide) (by decide) V Qz Xr (λan w hs=>?_);have ao:Zo J5 ρ ([]) ([]:List Spn):=Zo.nil _ _;refine As V<|Ox am<|Ze λa7 ap=>Wr λa8 aq=>Mv V<|O_y V (Yn Znq h0 V)<|Mv V<|Ox aq<|Zi λa9 ar ba=>Yw (σ:=Nat×List Spn×Int×Value×List Value) (λ(ae,ab,aa,ac,ad)=>[(3,ac),(7,v0),(8,Lk (x0.length:Int)),(9,Lk aa)]) (λ(ae,ab,aa,ac,ad) w=>V8.l1 ae x0 ab aa=some r/\St w0 ρ ((.row ac 80 J5.sz ab.length ad)::Γ) w/\Zo J5 ρ ad ab) (λs=>s.1) (K0,([]:List Spn),0,(.slice (some ⟨an,0,none⟩) 0 0),([])) (T4 V) (Ai H (Ai hs ao)) ?_;rintro ⟨ae,ab,aa,ac,ad⟩ w bb ⟨H,hs,af⟩ ag;show W _ _ _ _ _ _ [(3,ac),(7,v0),(8,Lk (x0.length:Int)),(9,Lk aa)] w
 cases ae with
 | zero=>rw [V8.l1] at H;cases H
 | succ ae=>
 rw [V8.l1] at H;refine Wr λbc au=>Ols V<|Ox au<|Ze λbd av=>Rb H (Y7 V) (λ_ H=>?_) λ_ H=>?_;refine Wx av<|Ze λbe aw=>Zi λbf bg bh=>Ze λbi ax=>Zc ?_;obtain ⟨aj,H⟩:=gd H;obtain ⟨bj,bk,ay,az⟩:=h0.ix Zne aj.1 aj.2;obtain ⟨_,rfl,a0⟩:=ay;refine O_y V (az V V)<|O_y V (Qp Zc1 Zbc V V (λj u hu=>hs.see (a0 j u hu)))<|Y8 Zcs hs V (λbl w hs=>Ya (i:=0) Zbc hs V V V V V (Zb V (Zb V Yj)) (λw hs=>Ox ax<|Zc<|Mv V<|Ofd Zao V<|Obx 0 Xb hs V<|Ofd U6 V<|Obx 0 Xb hs V<|O_y V (Qe (cs:=[Lj ((rd x0 aa).lo),Lj ((rd x0 aa).hi)]) Zkx Zs8 ((Zu.cons V V (Zu.cons V V Zu.nil))) Zku (by kernel_rfl))<|Kj (xs:=[.tmp 18]) (cs:=[Lj ((rd x0 aa).lo),Lj ((rd x0 aa).hi)]) Zhd hs V V V (by decide) (by decide) V (Yk V Qz) (Zw V Xr) (λbm w hs=>?_)));have ak:Zo J5 ρ ([Lj ((rd x0 aa).lo),Lj ((rd x0 aa).hi)]) [(⟨(rd x0 aa).lo,(rd x0 aa).hi⟩:Spn)]:=Zo.cons (c:=[Lj ((rd x0 aa).lo),Lj ((rd x0 aa).hi)]) (x:=(⟨(rd x0 aa).lo,(rd x0 aa).hi⟩:Spn)) V (Zo.nil _ _);refine Rd H λa1 H=>X6 (i:=2) Zhd hs V af V V V (Src.lit (j:=0) hs V ak) ak a1 (λa2 ai w a3 hs=>As V<|Ox aw<|W.weak [(3,_),(7,_),(8,_),(9,_)] (T4 V)<|Zc<|Oad V<|Mv V<|Zd (ag (ae,(ab++([(⟨(rd x0 aa).lo,(rd x0 aa).hi⟩:Spn)])),(i64.wrap (aa+1)),a2,ai) _ _ (T4 V) (Ai H (Ai (hs.sub (ssk (ssk (ssc ssr)))) a3)) (Nat.lt_succ_self _)));refine Ys (ar _ _ (ap _ _<|Wr λbn a4=>Mv V<|As V<|Ox a4<|Zk ?_));cases H;exact r1 V ⟨_,_,_,V,Le.rfl' _,hs,af⟩

def Zef.f (x0:Bk):Option Bk:=if ([]:List ByteArray).length+x0.names.length<=most then ((Ki.f x0.status).bind λdi=>((Vu.f x0.maps).bind λbh=>((Ki.f x0.class_).bind λbi=>((Vu.f x0.decomp).bind λbj=>((V8.f x0.excl).bind λbk=>((Ki.f x0.bidi).bind λbl=>((Ki.f x0.join).bind λbm=>((V8.f x0.marks).bind λbn=>((Ki.f x0.script).bind λbo=>((Vu.f x0.like).bind λbp=>(some (⟨([]:List ByteArray)++x0.names,di,bh,bi,bj,bk,bl,bm,bn,bo,bp⟩:Bk)))))))))))) else none
theorem Zef.c (hs:St w0 ρ (Γ) w) {c0:List Value} {x0:Bk} (h0:rBk.R ρ c0 x0) {r:Bk} (H:Zef.f x0=some r):Zn Tryz.prog 15 [.agg c0.toArray] w (λv w'=>∃ (ρ':Hp) (cs0:List Value),v=.agg cs0.toArray/\Le ρ ρ'/\St w0 ρ' (Γ) w'/\rBk.R ρ' cs0 r):=by
 refine Et Tryz.func15 Tryz.ntmps15 V ?_;have ee:=h0;obtain ⟨dj,dk,dl,dm,dn,dp,dq,dr,ds,dt,du,rfl,ef,eg,eh,ei,ej,ek,el,em,en,eo,ep⟩:=ee;refine Wr λgk eq=>Kn (cs:=[dj,dk,dl,dm,dn,dp,dq,dr,ds,dt,du]) hs V V (λer w hs=>Y8 Zwu hs V (λes w hs=>Ox eq<|Ze λgl et=>Qn 36 [0,0,2,5,0,16,40,0,128,320,0,1024,2560,0,8192,20480,0,65536,163840,0,524288,1310720,0,4194304,10485760,0,33554432,83886080,0,268435456,671088640,0,2147483648,5368709120,9817068104,34359738367] [34359738358,34359738361,34359738353,17179869104,34359738319,34359738255,17179868544,34359737983,34359737471,17179864064,34359735295,34359731199,17179828224,34359713791,34359681023,17179541504,34359541759,34359279615,17177247744,34358165503,34356068351,17158897664,34347155455,34330378239,17012097024,34259075071,34124857343,15837691904,33554431999,32480690175,6442450944,27917287423,19327352831,0,0,0] [0,0,2,7,0,16,63,0,128,511,0,1024,4095,0,8192,32767,0,65536,262143,0,524288,2097151,0,4194304,16777215,0,33554432,134217727,0,268435456,1073741823,0,2147483648,8589934591,17179869183,34359738367] [35] (λw=>St w0 ρ ((.box es 36 ([Lz,Lz,Lz,Lz,Lz,Lz,Lz,Lz,Lz,Lz,Lz]))::(.box er 27 ([dj,dk,dl,dm,dn,dp,dq,dr,ds,dt,du]))::Γ) w) mixed (by kernel_rfl) (λsh=>?_)));have hs:=hs.drew;refine Fp 1 sh V (λw=>Zs Zpo V)<|Fy 2 sh V hs (λw hs=>Yb 1 Zvf hs V V V)<|Fp 4 sh V (λw=>Zs Zgh V)<|Fy 5 sh V hs (λw hs=>Yb 1 Zdu hs V V V)<|Fp 7 sh V (λw=>Zs Zl1 V)<|Fy 8 sh V hs (λw hs=>Yb 1 Zf7 hs V V V)<|Fp 10 sh V (λw=>Zs Zpp V)<|Fy 11 sh V hs (λw hs=>Yb 1 Zdu hs V V V)<|Fp 13 sh V (λw=>Zs Zhw V)<|Fy 14 sh V hs (λw hs=>Yb 1 Zf7 hs V V V)<|Fp 16 sh V (λw=>Zs Zpq V)<|Fy 17 sh V hs (λw hs=>Yb 1 Zqx hs V V V)<|Fp 19 sh V (λw=>Zs Zpr V)<|Fy 20 sh V hs (λw hs=>Yb 1 Zdu hs V V V)<|Fp 22 sh V (λw=>Zs Zps V)<|Fy 23 sh V hs (λw hs=>Yb 1 Zdu hs V V V)<|Fp 25 sh V (λw=>Zs Zpt V)<|Fy 26 sh V hs (λw hs=>Yb 1 Zqx hs V V V)<|Fp 28 sh V (λw=>Zs Zpu V)<|Fy 29 sh V hs (λw hs=>Yb 1 Zdu hs V V V)<|Fp 31 sh V (λw=>Zs Zk3 V)<|Fy 32 sh V hs (λw hs=>Yb 1 Zf7 hs V V V)<|F1 0 sh V (λgm eu=>Kj (xs:=[]) (cs:=[]) Zge hs V V V (by decide) (by decide) V Qz Xr (λgn w hs=>?_));have ev:Zo Rep.str ρ ([]) ([]:List ByteArray):=Zo.nil _ _;refine Zd (eu _ _ (λ_ _=>(hs.sub (ssk (ssc (ssc ssr))))) ?_);obtain ⟨ew,b0,b1⟩:=Src.sl hs ef;refine Rd H λex H=>F1 3 sh V (λgo ey=>X6 (i:=0) Zge hs V ev V V V b0 b1 ex (λez e0 w e1 hs=>Zd (ey _ _ (λ_ _=>(hs.sub (ssk (ssc (ssc ssr)))))<|F1 6 sh V (λgp e2=>Rc H λdi b2 H=>Oc V (Ki.c hs eg b2) (λe3 w hpost=>?_)))));obtain ⟨e4,gq,e5,rfl,au,hs,b3⟩:=hpost;refine Zd (e2 _ _ (λ_ _=>((hs.less au).sub (ssk (ssk (ssc (ssc ssr))))))<|F1 9 sh V (λe6 b4=>Rc H λbh bq H=>Oc V (Vu.c hs (eh.mono au) bq) (λb5 w hpost=>?_)));obtain ⟨e7,e8,dv,rfl,aw,hs,b6⟩:=hpost
 have ax:=au.trans aw;refine Zd (b4 _ _ (λ_ _=>((hs.less ax).sub (ssk (ssk (ssk (ssc (ssc ssr)))))))<|F1 12 sh V (λe9 b7=>Rc H λbi br H=>Oc V (Ki.c hs (ei.mono ax) br) (λb8 w hpost=>?_)));obtain ⟨fa,fb,dw,rfl,av,hs,b9⟩:=hpost;have ay:=ax.trans av;refine Zd (b7 _ _ (λ_ _=>((hs.less ay).sub (ssk (ssk (ssk (ssk (ssc (ssc ssr))))))))<|F1 15 sh V (λfc ca=>Rc H λbj bs H=>Oc V (Vu.c hs (ej.mono ay) bs) (λcb w hpost=>?_)));obtain ⟨fd,fe,dx,rfl,ar,hs,cc⟩:=hpost;have az:=ay.trans ar;refine Zd (ca _ _ (λ_ _=>((hs.less az).sub (ssk (ssk (ssk (ssk (ssk (ssc (ssc ssr)))))))))<|F1 18 sh V (λff cd=>Rc H λbk bt H=>Oc V (V8.c hs (ek.mono az) bt) (λce w hpost=>?_)));obtain ⟨fg,fh,dy,rfl,aq,hs,cf⟩:=hpost;have a0:=az.trans aq;refine Zd (cd _ _ (λ_ _=>((hs.less a0).sub (ssk (ssk (ssk (ssk (ssk (ssk (ssc (ssc ssr))))))))))<|F1 21 sh V (λfi cg=>Rc H λbl bu H=>Oc V (Ki.c hs (el.mono a0) bu) (λch w hpost=>?_)));obtain ⟨fj,fk,dz,rfl,ap,hs,ci⟩:=hpost;have a1:=a0.trans ap;refine Zd (cg _ _ (λ_ _=>((hs.less a1).sub (ssk (ssk (ssk (ssk (ssk (ssk (ssk (ssc (ssc ssr)))))))))))<|F1 24 sh V (λfl cj=>Rc H λbm bv H=>Oc V (Ki.c hs (em.mono a1) bv) (λck w hpost=>?_)));obtain ⟨fm,fn,ea,rfl,ao,hs,cl⟩:=hpost;have a2:=a1.trans ao;refine Zd (cj _ _ (λ_ _=>((hs.less a2).sub (ssk (ssk (ssk (ssk (ssk (ssk (ssk (ssk (ssc (ssc ssr))))))))))))<|F1 27 sh V (λfo cm=>Rc H λbn bw H=>Oc V (V8.c hs (en.mono a2) bw) (λcn w hpost=>?_)));obtain ⟨fp,fq,eb,rfl,an,hs,co⟩:=hpost;have a3:=a2.trans an;refine Zd (cm _ _ (λ_ _=>((hs.less a3).sub (ssk (ssk (ssk (ssk (ssk (ssk (ssk (ssk (ssk (ssc (ssc ssr)))))))))))))<|F1 30 sh V (λfr cp=>Rc H λbo bx H=>Oc V (Ki.c hs (eo.mono a3) bx) (λcq w hpost=>?_)));obtain ⟨fs,ft,ec,rfl,am,hs,cr⟩:=hpost;have a4:=a3.trans am;refine Zd (cp _ _ (λ_ _=>((hs.less a4).sub (ssk (ssk (ssk (ssk (ssk (ssk (ssk (ssk (ssk (ssk (ssc (ssc ssr))))))))))))))<|F1 33 sh V (λfu ct=>Rc H λbp bz H=>Oc V (Vu.c hs (ep.mono a4) bz) (λcu w hpost=>?_)));obtain ⟨fv,fw,ed,rfl,al,hs,cv⟩:=hpost;have a5:=a4.trans al;refine Zd (ct _ _ (λ_ _=>((hs.less a5).sub (ssk (ssk (ssk (ssk (ssk (ssk (ssk (ssk (ssk (ssk (ssk (ssc (ssc ssr))))))))))))))) ?_);obtain ⟨fx,aa,hs,a6⟩:=hs.rowEnd (j:=10) (e1.mono a5) V;have cw:=a5.trans aa;obtain ⟨fy,ab,hs,a7⟩:=hs.rowEnd (j:=9) (b3.mono (((((((((aw.trans av).trans ar).trans aq).trans ap).trans ao).trans an).trans am).trans al).trans aa)) V;have cx:=cw.trans ab;obtain ⟨fz,ac,hs,a8⟩:=hs.rowEnd (j:=8) (b6.mono (((((((((av.trans ar).trans aq).trans ap).trans ao).trans an).trans am).trans al).trans aa).trans ab)) V;have cy:=cx.trans ac;obtain ⟨ga,ad,hs,a9⟩:=hs.rowEnd (j:=7) (b9.mono (((((((((ar.trans aq).trans ap).trans ao).trans an).trans am).trans al).trans aa).trans ab).trans ac)) V;have cz:=cy.trans ad
 obtain ⟨gb,ae,hs,ba⟩:=hs.rowEnd (j:=6) (cc.mono (((((((((aq.trans ap).trans ao).trans an).trans am).trans al).trans aa).trans ab).trans ac).trans ad)) V;have da:=cz.trans ae;obtain ⟨gc,af,hs,bb⟩:=hs.rowEnd (j:=5) (cf.mono (((((((((ap.trans ao).trans an).trans am).trans al).trans aa).trans ab).trans ac).trans ad).trans ae)) V;have db:=da.trans af;obtain ⟨ge,ag,hs,bc⟩:=hs.rowEnd (j:=4) (ci.mono (((((((((ao.trans an).trans am).trans al).trans aa).trans ab).trans ac).trans ad).trans ae).trans af)) V;have dc:=db.trans ag;obtain ⟨gf,ah,hs,bd⟩:=hs.rowEnd (j:=3) (cl.mono (((((((((an.trans am).trans al).trans aa).trans ab).trans ac).trans ad).trans ae).trans af).trans ag)) V;have dd:=dc.trans ah;obtain ⟨gg,ai,hs,be⟩:=hs.rowEnd (j:=2) (co.mono (((((((((am.trans al).trans aa).trans ab).trans ac).trans ad).trans ae).trans af).trans ag).trans ah)) V;have de:=dd.trans ai;obtain ⟨gh,aj,hs,bf⟩:=hs.rowEnd (j:=1) (cr.mono (((((((((al.trans aa).trans ab).trans ac).trans ad).trans ae).trans af).trans ag).trans ah).trans ai)) V;have df:=de.trans aj;obtain ⟨gi,ak,hs,bg⟩:=hs.rowEnd (j:=0) (cv.mono (((((((((aa.trans ab).trans ac).trans ad).trans ae).trans af).trans ag).trans ah).trans ai).trans aj)) V;have dg:=df.trans ak;refine Fp 34 sh V (λw=>Qe (cs:=[ez,e3,b5,b8,cb,ce,ch,ck,cn,cq,cu]) Zwu Z3q ((Zu.cons V a6.cellsL (Zu.cons V a7.cellsL (Zu.cons V a8.cellsL (Zu.cons V a9.cellsL (Zu.cons V ba.cellsL (Zu.cons V bb.cellsL (Zu.cons V bc.cellsL (Zu.cons V bd.cellsL (Zu.cons V be.cellsL (Zu.cons V bf.cellsL (Zu.cons V bg.cellsL Zu.nil)))))))))))) Zan (by kernel_rfl))<|F1 35 sh V (λgj dh=>Ya (i:=0) H3 hs V V V V V (Zb a6.one (Zb a7.one (Zb a8.one (Zb a9.one (Zb ba.one (Zb bb.one (Zb bc.one (Zb bd.one (Zb be.one (Zb bf.one (Zb bg.one Yj))))))))))) (λw hs=>Zd (dh _ _ (λh _=>absurd h (by decide))<|FE sh (et _ _<|W.weak [(2,_)] (S1 V)<|Zk ?_))));cases H;exact Zh4 (i:=0) V V Zan H3 hs V V ⟨_,_,V,dg,(hs.sub (ssk (ssk ssr))),⟨_,_,_,_,_,_,_,_,_,_,_,V,(a6.mono (((((((((ab.trans ac).trans ad).trans ae).trans af).trans ag).trans ah).trans ai).trans aj).trans ak)),(a7.mono ((((((((ac.trans ad).trans ae).trans af).trans ag).trans ah).trans ai).trans aj).trans ak)),(a8.mono (((((((ad.trans ae).trans af).trans ag).trans ah).trans ai).trans aj).trans ak)),(a9.mono ((((((ae.trans af).trans ag).trans ah).trans ai).trans aj).trans ak)),(ba.mono (((((af.trans ag).trans ah).trans ai).trans aj).trans ak)),(bb.mono ((((ag.trans ah).trans ai).trans aj).trans ak)),(bc.mono (((ah.trans ai).trans aj).trans ak)),(bd.mono ((ai.trans aj).trans ak)),(be.mono (aj.trans ak)),(bf.mono ak),bg⟩⟩

def Kz.j1 (aa:Bool):Option (Option Tbs×Bk×Bool):=some (none,(⟨([]:List ByteArray),([]:List Val),([]:List Chs),([]:List Val),([]:List Chs),([]:List Spn),([]:List Val),([]:List Val),([]:List Spn),([]:List Val),([]:List Chs)⟩:Bk),aa)
def Kz.j2 (ad:Option Tbs×Int) (an:Bk) (ab:Bool):Option (Option Tbs×Bk×Bool):=some (ad.1,an,ab)
def Kz.f (x0:Bk):Option (Option Tbs×Bk×Bool):=(Zm.f x0).bind λad=>((Zef.f x0).bind λan=>((Zf.f an).bind λao=>(if ao.2.2≠0 then (if ad.2=ao.2.2 then (Kz.j1 ((ad.1).isNone)) else (Kz.j1 false)) else (if ad.2=0 then (Kz.j2 ad an ((ad.1).isSome)) else (Kz.j2 ad an false)))))
theorem Kz.c (hs:St w0 ρ (Γ) w) {c0:List Value} {x0:Bk} (h0:rBk.R ρ c0 x0) {r:Option Tbs×Bk×Bool} (H:Kz.f x0=some r):Zn Tryz.prog 5 [.agg c0.toArray] w (λv w'=>∃ (ρ':Hp) (v0:Value) (cs1:List Value),v=.tuple #[v0,.agg cs1.toArray,.bool r.2.2]/\Le ρ ρ'/\St w0 ρ' (Γ) w'/\Qb He ρ' v0 r.1/\rBk.R ρ' cs1 r.2.1):=by
 refine Et Tryz.func5 Tryz.ntmps5 V ?_;have cj:=h0;obtain ⟨bc,bd,be,bf,bg,bh,bi,bj,bk,bl,bm,rfl,cw,cx,cy,cz,da,db,dc,dd,de,df,dg⟩:=cj;refine Wr λdh ck=>Kn (cs:=[bc,bd,be,bf,bg,bh,bi,bj,bk,bl,bm]) hs V V (λbp w hs=>As V<|Y8 Zwu hs V (λa6 w hs=>As V<|Ox ck<|Wr λdi cl=>O_y V (Yf (i:=1) Zpa Zno hs V V V V)<|Rc H λad bq H=>Oc V (Zm.c hs h0 bq) (λdk w hpost=>?_)));obtain ⟨dl,cm,rfl,ap,hs,br⟩:=hpost;refine Mv V<|Oxt V<|Oxt V<|As V<|As V<|Ox cl<|Wr λdm cn=>O_y V (Yf (i:=1) Zpa Zno hs V V V V) ?_;obtain ⟨an,bs,H⟩:=bnd H;refine Oc V (Zef.c hs (rBk.mono ap h0) bs) (λdn w hpost=>?_);obtain ⟨ac,co,rfl,aq,hs,bt⟩:=hpost;have bu:=bt;obtain ⟨bn,bo,ae,af,ag,ah,ai,aj,ak,al,am,rfl,bv,bw,ar,au,av,aw,ax,ay,az,a0,a1⟩:=bu;refine Y8 Zwu hs V (λa2 w hs=>Ya (i:=0) H3 hs V V V V V (Zb bv.one (Zb bw.one (Zb ar.one (Zb au.one (Zb av.one (Zb aw.one (Zb ax.one (Zb ay.one (Zb az.one (Zb a0.one (Zb a1.one Yj))))))))))) (λw hs=>Ox cn<|W.weak [(3,_),(5,_),(6,_),(7,_)] (T4 V)<|Wr λcp bx=>O_y V (Yf (i:=0) Zan H3 hs V V V V)<|Rc H λao a7 H=>Oc V (Zf.c hs bt a7)<|Ra λw hs=>Mv V<|Oxt V<|Oxt V<|Oxt V<|As V<|As V<|As V<|Ox bx<|Ze λcr bz=>Wr λct b0=>Mv V<|One V<|Zd (b0 _ _<|W.weak [(3,_),(5,_),(6,_),(7,_),(10,_),(25,_)] sbn<|Rb H (Y7 V) (λ_ H=>?_) λ_ H=>?_)));refine Ye λb1 b2 a8=>?_;have a9 (aa:Bool) (w:World) (H:Kz.j1 aa=some r) (hs:St w0 ac ((.box a2 36 ([bn,bo,ae,af,ag,ah,ai,aj,ak,al,am]))::(.box a6 36 ([Lz,Lz,Lz,Lz,Lz,Lz,Lz,Lz,Lz,Lz,Lz]))::(.box bp 27 ([bc,bd,be,bf,bg,bh,bi,bj,bk,bl,bm]))::Γ) w):b1 [(2,.pointer none),(3,Ll a6),(4,.bool aa)] w:=by rw [Kz.j1] at H;refine b2 _ _<|Zk ?_;have b3:Qb He ac (.pointer none) none:=Qb.nil _ _;have b4:SlR Rep.str ac (Lz) []:=.inl ⟨V,none,0,V⟩;have b5:SlR Kd ac (Lz) []:=.inl ⟨V,none,0,V⟩;have b6:SlR V4 ac (Lz) []:=.inl ⟨V,none,0,V⟩;have b7:SlR Kd ac (Lz) []:=.inl ⟨V,none,0,V⟩;have b8:SlR V4 ac (Lz) []:=.inl ⟨V,none,0,V⟩;have b9:SlR J5 ac (Lz) []:=.inl ⟨V,none,0,V⟩;have ca:SlR Kd ac (Lz) []:=.inl ⟨V,none,0,V⟩;have cb:SlR Kd ac (Lz) []:=.inl ⟨V,none,0,V⟩;have cc:SlR J5 ac (Lz) []:=.inl ⟨V,none,0,V⟩;have cd:SlR Kd ac (Lz) []:=.inl ⟨V,none,0,V⟩;have ce:SlR V4 ac (Lz) []:=.inl ⟨V,none,0,V⟩;cases H;exact Z3t V (RV.tmp V (RV.cell V Zan H3 V (λj u hu=>hs.boxCell (i:=1) V hu) (RV.tmp V RV.nil))) (by simp) ⟨_,_,_,rfl,(ap.trans aq),(hs.sub (ssk (ssk (ssk ssr)))),b3,⟨_,_,_,_,_,_,_,_,_,_,_,rfl,b4,b5,b6,b7,b8,b9,ca,cb,cc,cd,ce⟩⟩
 refine Zc<|O_y V (Qe (cs:=[Lz,Lz,Lz,Lz,Lz,Lz,Lz,Lz,Lz,Lz,Lz]) Zwu Z3q (Zu.nil) Zan (by kernel_rfl))<|Mv V<|Mv V<|Oeq V<|Mv V<|Rb H (X0 (dj:=30) V) (λ_ H=>?_) λ_ H=>?_;refine Oe V<|Mv V<|Oe V<|O_y V ((br.eqn Znr V V))<|Opk V<|As V<|Ya (i:=1) H3 hs V V V V V (Zb V (Zb V (Zb V (Zb V (Zb V (Zb V (Zb V (Zb V (Zb V (Zb V (Zb V Yj))))))))))) (λw hs=>As V<|Zd (a8 _ _ _ (T3 V) (a9 ((ad.1).isNone) _ H hs)));refine On V<|On V<|Opk V<|As V<|Ya (i:=1) H3 hs V V V V V (Zb V (Zb V (Zb V (Zb V (Zb V (Zb V (Zb V (Zb V (Zb V (Zb V (Zb V Yj))))))))))) (λw hs=>As V<|Zd (a8 _ _ _ (T3 V) (a9 false _ H hs)));refine Wx bz<|Ye λcf cg ba=>?_;have bb (ab:Bool) (w:World) (H:Kz.j2 ad an ab=some r) (hs:St w0 ac ((.box a2 36 ([bn,bo,ae,af,ag,ah,ai,aj,ak,al,am]))::(.box a6 36 ([bn,bo,ae,af,ag,ah,ai,aj,ak,al,am]))::(.box bp 27 ([bc,bd,be,bf,bg,bh,bi,bj,bk,bl,bm]))::Γ) w):cf [(2,cm),(3,Ll a6),(4,.bool ab)] w:=by rw [Kz.j2] at H;refine cg _ _<|Zk ?_;cases H;exact Z3t V (RV.tmp V (RV.cell V Zan H3 V (λj u hu=>hs.boxCell (i:=1) V hu) (RV.tmp V RV.nil))) (by simp) ⟨_,_,_,rfl,(ap.trans aq),(hs.sub (ssk (ssk (ssk ssr)))),(br.mono aq),bt⟩
 refine Qn 11 [0,0,0,4,8,16,48,80,17,259,1023] [254,509,1011,995,515,899,771,771,226,0,0] [0,0,0,4,12,28,60,124,29,287,1023] [9,10] (λw=>St w0 ac ((.box a2 36 ([bn,bo,ae,af,ag,ah,ai,aj,ak,al,am]))::(.box a6 36 ([Lz,Lz,Lz,Lz,Lz,Lz,Lz,Lz,Lz,Lz,Lz]))::(.box bp 27 ([bc,bd,be,bf,bg,bh,bi,bj,bk,bl,bm]))::Γ) w) mixed (by kernel_rfl) (λsh=>?_);have hs:=hs.drew;refine Fm 0 sh V<|Fy 1 sh V hs (λw hs=>Yf (i:=0) Zan H3 hs V V V V)<|Fm 2 sh V<|Fp 3 sh V (λw=>Zbj V V)<|Fm 4 sh V<|Rb H (H9 (dj:=38) V) (λ_ H=>?_) λ_ H=>?_;refine Fp 5 sh V (λw=>Qa V)<|Fp 6 sh V (λw=>(br.nen Znr V V))<|Fp 7 sh V (λw=>Xj V V)<|Fp 8 sh V (λw=>Yy V)<|F1 9 sh V (λcu ch=>Ya (i:=1) H3 hs V V V V V (Zb bv.one (Zb bw.one (Zb ar.one (Zb au.one (Zb av.one (Zb aw.one (Zb ax.one (Zb ay.one (Zb az.one (Zb a0.one (Zb a1.one Yj))))))))))) (λw hs=>Zd (ch _ _ (λh _=>absurd h (by decide))<|Qq sh [] hs (by kernel_rfl)<|Fp 10 sh V (λw=>Yy V)<|FE sh (ba _ _ _ (T3 V) (bb ((ad.1).isSome) _ H hs)))));refine Fn 5 sh V<|Fn 6 sh V<|Fp 7 sh V (λw=>X8 V V)<|Fp 8 sh V (λw=>Yy V)<|F1 9 sh V (λcv ci=>Ya (i:=1) H3 hs V V V V V (Zb bv.one (Zb bw.one (Zb ar.one (Zb au.one (Zb av.one (Zb aw.one (Zb ax.one (Zb ay.one (Zb az.one (Zb a0.one (Zb a1.one Yj))))))))))) (λw hs=>Zd (ci _ _ (λh _=>absurd h (by decide))<|Qq sh [] hs (by kernel_rfl)<|Fp 10 sh V (λw=>Yy V)<|FE sh (ba _ _ _ (T3 V) (bb false _ H hs)))))

end
section
open Go.IntKind (i8 i16 i32 i64 u8 u16 u32 u64)
open Go.RowKit
set_option maxRecDepth 100000
set_option maxHeartbeats 4000000
variable {w0 w:World} {ρ:Hp} {Γ:List Ky}
set_option linter.unusedVariables false
def Y3.j1 (ag:Int->Int->Option Int) (aa af:Int):Option Int:=ag af (i64.wrap (aa+1))
def Y3.j2 (ag:Int->Int->Option Int) (x0:Bk) (ab aa:Int) (ae:Bool):Option Int:=if ae=true then (Y3.j1 ag aa (i32.wrap (((rd x0.status aa).hi)+1))) else (Y3.j1 ag aa ab)
def Y3.l1 (ai:Int->Option Int):Nat->Bk->Int->Int->Int->Option Int
  | 0,_,_,_,_=>none
  | ad+1,x0,ac,ab,aa=>if aa<(x0.status.length:Int) then (if (0:Int)<=aa/\aa<(x0.status.length:Int) then (if ((rd x0.status aa).lo)<=ac then (if ac<=((rd x0.status aa).hi) then (Y3.j2 (Y3.l1 ai ad x0 ac) x0 ab aa (decide (((rd x0.status aa).n)≠2))) else (Y3.j2 (Y3.l1 ai ad x0 ac) x0 ab aa false)) else (Y3.j2 (Y3.l1 ai ad x0 ac) x0 ab aa false)) else none) else (if ab<0 then (some ac) else (ai ab))
def Y3.l2:Nat->Bk->Int->Int->Option Int
  | 0,_,_,_=>none
  | ah+1,x0,x2,ac=>if ac<=x2 then (Y3.l1 (Y3.l2 ah x0 x2) K0 x0 ac (-1) 0) else (some (-1))
def Y3.f (x0:Bk) (x1 x2:Int):Option Int:=Y3.l2 K0 x0 x2 x1
theorem Y3.c (hs:St w0 ρ (Γ) w) {c0:List Value} {x0:Bk} (h0:rBk.R ρ c0 x0) {x1 x2 r:Int} (H:Y3.f x0 x1 x2=some r):Zn Tryz.prog 32 [.agg c0.toArray,Lj x1,Lj x2] w (λv w'=>v=Lj r/\St w0 ρ Γ w'):=by
 rw [Y3.f] at H;refine Et Tryz.func32 Tryz.ntmps32 V ?_;have bs:=h0;obtain ⟨aw,ak,ax,ay,az,a0,a1,a2,a3,a4,a5,rfl,ch,br,ci,cj,ck,cl,cm,cn,co,cp,cq⟩:=bs;refine Wr λcr bt=>Kn (cs:=[aw,ak,ax,ay,az,a0,a1,a2,a3,a4,a5]) hs V V (λaj w hs=>As V<|Ox bt<|Ze λct bu=>Wr λcu bv=>Mv V<|As V<|Ox bv<|Zi λcv bw cw=>Yw (σ:=Nat×Int) (λ(ah,ac)=>[(2,Lj x2),(3,Ll aj),(7,Lj ac)]) (λ(ah,ac) w=>Y3.l2 ah x0 x2 ac=some r/\St w0 ρ ((.box aj 36 ([aw,ak,ax,ay,az,a0,a1,a2,a3,a4,a5]))::Γ) w) (λs=>s.1) (K0,x1) (T3 V) (Ai H hs) ?_);rintro ⟨ah,ac⟩ w cx ⟨H,hs⟩ am;show W _ _ _ _ _ _ [(2,Lj x2),(3,Ll aj),(7,Lj ac)] w
 cases ah with
 | zero=>rw [Y3.l2] at H;cases H
 | succ ah=>
 rw [Y3.l2] at H;refine Ze λcy bx=>Wr λcz bz=>Mv V<|Mv V<|Ole V<|Ox bz<|Y7 V (λba=>?_) (λba=>?_)
 ·rw [if_pos ba] at H
  refine Wx bx<|Zi λda db dc=>Wr λdd b0=>As V<|Ox b0<|Ze λde b1=>Wr λdf bb=>Ofd Zjt V<|Obx 0 Zf8 hs V<|O_y V (Yn Zts br V)<|Mv V<|Zd (bb _ _<|Zi λb2 bc b3=>Yw (σ:=Nat×Int×Int) (λ(ad,ab,aa)=>[(2,Lj x2),(3,Ll aj),(7,Lj ac),(8,Lj ab),(16,ak),(17,Lk (x0.status.length:Int)),(18,Lk aa)]) (λ(ad,ab,aa) w=>Y3.l1 (Y3.l2 ah x0 x2) ad x0 ac ab aa=some r/\St w0 ρ ((.box aj 36 ([aw,ak,ax,ay,az,a0,a1,a2,a3,a4,a5]))::Γ) w) (λs=>s.1) (K0,(-1),0) sbn (Ai H hs) ?_);rintro ⟨ad,ab,aa⟩ w b4 ⟨H,hs⟩ al;show W _ _ _ _ _ _ [(2,Lj x2),(3,Ll aj),(7,Lj ac),(8,Lj ab),(16,ak),(17,Lk (x0.status.length:Int)),(18,Lk aa)] w
  cases ad with
  | zero=>rw [Y3.l1] at H;cases H
  | succ ad=>
  rw [Y3.l1] at H;refine Wr λb5 bd=>Ols V<|Ox bd<|Ze λb6 be=>Rb H (Y7 V) (λ_ H=>?_) λ_ H=>?_;refine Wx be<|Ye λbf bg a6=>?_;have a7 (af:Int) (w:World) (H:Y3.j1 (Y3.l1 (Y3.l2 ah x0 x2) ad x0 ac) aa af=some r) (hs:St w0 ρ ((.box aj 36 ([aw,ak,ax,ay,az,a0,a1,a2,a3,a4,a5]))::Γ) w):bf [(2,Lj x2),(3,Ll aj),(7,Lj ac),(8,Lj af),(16,ak),(17,Lk (x0.status.length:Int)),(18,Lk aa)] w:=by rw [Y3.j1] at H;refine bg _ _<|Zc<|Oad V<|Mv V<|Zd (al (ad,af,(i64.wrap (aa+1))) _ _ sbn (Ai H hs) (Nat.lt_succ_self _))
  refine Zi λb7 b8 b9=>Ze λca bh=>Zc ?_;obtain ⟨a8,H⟩:=gd H;obtain ⟨cb,cc,bi,bj⟩:=br.ix Zpi a8.1 a8.2;obtain ⟨_,rfl,bk⟩:=bi;refine O_y V (bj V V)<|O_y V (Qp Zlm Zf0 V V (λj u hu=>hs.see (bk j u hu)))<|Y8 Zm8 hs V (λa9 w hs=>Ya (i:=0) Zf0 hs V V V V V (Zb V (Zb V (Zb V Yj))) (λw hs=>Ox bh<|Ye λbl bm ao=>?_));have ap (ae:Bool) (w:World) (H:Y3.j2 (Y3.l1 (Y3.l2 ah x0 x2) ad x0 ac) x0 ab aa ae=some r) (hs:St w0 ρ ((.box a9 142 ([Lj ((rd x0.status aa).lo),Lj ((rd x0.status aa).hi),Lk ((rd x0.status aa).n)]))::(.box aj 36 ([aw,ak,ax,ay,az,a0,a1,a2,a3,a4,a5]))::Γ) w):bl [(2,Lj x2),(3,Ll aj),(7,Lj ac),(8,Lj ab),(10,Ll a9),(16,ak),(17,Lk (x0.status.length:Int)),(18,Lk aa),(36,.bool ae)] w:=by refine bm _ _<|Re H (Y0 V) (λ_ H=>?_) λ_ H=>?_;refine Zc<|Ofd Zfl V<|Obx 0 Xb hs V<|Oad V<|As V<|Zd (a6 _ _ _ sbn (a7 (i32.wrap (((rd x0.status aa).hi)+1)) _ H (hs.sub (ssk (ssc ssr)))));exact V6 (a6 _ _ _ sbn (a7 ab _ H (hs.sub (ssk (ssc ssr)))))
  refine Zc<|Mv V<|Ofd Zg2 V<|Obx 0 Xb hs V<|Oge V<|Mv V<|Rb H (X0 (dj:=26) V) (λ_ H=>?_) λ_ H=>?_;refine Oe V<|Mv V<|Oe V<|Ofd Zfl V<|Oe V<|Obx 0 Xb hs V<|Oe V<|Ole V<|Opk V<|Mv V<|Rb H (X0 (dj:=32) V) (λ_ H=>?_) λ_ H=>?_;refine Oe V<|Ofd Ziv V<|Oe V<|Obx 0 ag3 hs V<|Oe V<|One V<|Opk V<|Zd (ao _ _ _ sbn (ap (decide (((rd x0.status aa).n)≠2)) _ H hs));refine On V<|On V<|On V<|Opk V<|Zd (ao _ _ _ sbn (ap false _ H hs));refine On V<|On V<|On V<|On V<|Opk V<|Mv V<|On V<|On V<|On V<|Opk V<|Zd (ao _ _ _ sbn (ap false _ H hs));refine Ys (bc _ _ (b1 _ _<|Ze λcd bn=>Wr λce bo=>Mv V<|Ols V<|Ox bo<|Y7 V (λav=>?_) (λav=>?_)));rw [if_pos av] at H;refine Wr λcf bp=>Mv V<|As V<|Ox bp<|Zk ?_;cases H;exact r1 V ⟨V,(hs.sub (ssk ssr))⟩;rw [if_neg av] at H;refine Wx bn<|Zc<|Mv V<|As V<|Zd (am (ah,ab) _ _ (T3 V) (Ai H hs) (Nat.lt_succ_self _))
 rw [if_neg ba] at H;refine Ys (bw _ _ (bu _ _<|Wr λcg bq=>As V<|Ox bq<|Zk ?_));cases H;exact r1 V ⟨V,(hs.sub (ssk ssr))⟩

def Zj.l1 (bc:Int->Option (Int×Int×Int)):Nat->Bk->Int->Int->Option (Int×Int×Int)
  | 0,_,_,_=>none
  | ay+1,x0,ab,ag=>if ag<(((rd x0.maps ab).is_).length:Int) then (if (0:Int)<=ag/\ag<(((rd x0.maps ab).is_).length:Int) then ((Vf.f x0 (rd ((rd x0.maps ab).is_) ag)).bind λcn=>(if (!cn)=true then (some (2,(rd x0.maps ab).lo,103)) else ((Zj.l1 bc ay x0 ab) (i64.wrap (ag+1))))) else none) else (bc (i64.wrap (ab+1)))
def Zj.j1 (bh:Int->Option (Int×Int×Int)) (x0:Bk) (ad:Int) (au:Bool):Option (Int×Int×Int):=if au=true then (some (3,(rd x0.decomp ad).lo,103)) else (bh (i64.wrap (ad+1)))
def Zj.j2 (ai:Int->Option (Int×Int×Int)) (aa:Int):Option (Int×Int×Int):=ai (i64.wrap (aa+1))
def Zj.j3 (ai:Int->Option (Int×Int×Int)) (x0:Bk) (aa:Int) (ak:Bool):Option (Int×Int×Int):=if ak=true then (some (4,(rd x0.decomp aa).lo,103)) else (Zj.j2 ai aa )
def Zj.j4 (ai:Int->Option (Int×Int×Int)) (x0:Bk) (aa:Int) (al:Bool):Option (Int×Int×Int):=if al=true then (Zj.j2 ai aa ) else (if (0:Int)<=0/\0<(((rd x0.decomp aa).is_).length:Int) then (if (0:Int)<=1/\1<(((rd x0.decomp aa).is_).length:Int) then ((Qy.f x0 (rd ((rd x0.decomp aa).is_) 0) (rd ((rd x0.decomp aa).is_) 1)).bind λco=>(if co.2=true then ((Vf.f x0 ((rd x0.decomp aa).lo)).bind λbu=>(Zj.j3 ai x0 aa (!bu))) else (Zj.j3 ai x0 aa false))) else none) else none)
def Zj.j5 (bi:Bool->Int->Option (Int×Int×Int)) (ae:Int) (ao:Bool):Option (Int×Int×Int):=bi ao (i64.wrap (ae+1))
def Zj.j6 (bj:Int->Option (Int×Int×Int)) (ac a0:Int) (am:Bool):Option (Int×Int×Int):=if am=true then (some (5,a0,103)) else (bj (i64.wrap (ac+1)))
def Zj.l2:Nat->Bk->Bool->Int->Option (Int×Int×Int)
  | 0,_,_,_=>none
  | ap+1,x0,af,ac=>if ac<(([(⟨4352,4370⟩:Spn),(⟨4449,4469⟩:Spn),(⟨4520,4546⟩:Spn),(⟨44032,55203⟩:Spn)]).length:Int) then (if (0:Int)<=ac/\ac<(([(⟨4352,4370⟩:Spn),(⟨4449,4469⟩:Spn),(⟨4520,4546⟩:Spn),(⟨44032,55203⟩:Spn)]).length:Int) then ((Y3.f x0 ((rd ([(⟨4352,4370⟩:Spn),(⟨4449,4469⟩:Spn),(⟨4520,4546⟩:Spn),(⟨44032,55203⟩:Spn)]) ac).lo) ((rd ([(⟨4352,4370⟩:Spn),(⟨4449,4469⟩:Spn),(⟨4520,4546⟩:Spn),(⟨44032,55203⟩:Spn)]) ac).hi)).bind λa0=>(if af=true then (Zj.j6 (Zj.l2 ap x0 af) ac a0 (decide (0<=a0))) else (Zj.j6 (Zj.l2 ap x0 af) ac a0 false))) else none) else (some (0,0,0))
def Zj.l3:Nat->Bk->Bool->Int->Option (Int×Int×Int)
  | 0,_,_,_=>none
  | aq+1,x0,af,ae=>if ae<(([(⟨4352,4370⟩:Spn),(⟨4449,4469⟩:Spn),(⟨4520,4546⟩:Spn),(⟨44032,55203⟩:Spn)]).length:Int) then (if (0:Int)<=ae/\ae<(([(⟨4352,4370⟩:Spn),(⟨4449,4469⟩:Spn),(⟨4520,4546⟩:Spn),(⟨44032,55203⟩:Spn)]).length:Int) then (if af=true then (Zj.j5 (Zj.l3 aq x0) ae true) else ((Kx.f x0 ((rd ([(⟨4352,4370⟩:Spn),(⟨4449,4469⟩:Spn),(⟨4520,4546⟩:Spn),(⟨44032,55203⟩:Spn)]) ae).lo) ((rd ([(⟨4352,4370⟩:Spn),(⟨4449,4469⟩:Spn),(⟨4520,4546⟩:Spn),(⟨44032,55203⟩:Spn)]) ae).hi)).bind λbv=>(Zj.j5 (Zj.l3 aq x0) ae bv))) else none) else (Zj.l2 K0 x0 af 0)
def Zj.l4:Nat->Bk->Int->Option (Int×Int×Int)
  | 0,_,_=>none
  | ah+1,x0,aa=>if aa<(x0.decomp.length:Int) then (if (0:Int)<=aa/\aa<(x0.decomp.length:Int) then (if (((rd x0.decomp aa).is_).length:Int)≠2 then (Zj.j4 (Zj.l4 ah x0) x0 aa true) else (if (0:Int)<=0/\0<(((rd x0.decomp aa).is_).length:Int) then ((Vf.f x0 (rd ((rd x0.decomp aa).is_) 0)).bind λcp=>(if (!cp)=true then (Zj.j4 (Zj.l4 ah x0) x0 aa true) else (if (0:Int)<=1/\1<(((rd x0.decomp aa).is_).length:Int) then ((Vf.f x0 (rd ((rd x0.decomp aa).is_) 1)).bind λbw=>(Zj.j4 (Zj.l4 ah x0) x0 aa (!bw))) else none))) else none)) else none) else (Zj.l3 K0 x0 false 0)
def Zj.l5:Nat->Bk->Int->Option (Int×Int×Int)
  | 0,_,_=>none
  | ar+1,x0,ad=>if ad<(x0.decomp.length:Int) then (if (0:Int)<=ad/\ad<(x0.decomp.length:Int) then ((Vf.f x0 ((rd x0.decomp ad).lo)).bind λcq=>(if cq=true then ((Kr.f x0 ((rd x0.decomp ad).lo)).bind λbx=>(Zj.j1 (Zj.l5 ar x0) x0 ad (!bx))) else (Zj.j1 (Zj.l5 ar x0) x0 ad false))) else none) else (Zj.l4 K0 x0 0)
def Zj.l6:Nat->Bk->Int->Option (Int×Int×Int)
  | 0,_,_=>none
  | av+1,x0,ab=>if ab<(x0.maps.length:Int) then (if (0:Int)<=ab/\ab<(x0.maps.length:Int) then (Zj.l1 (Zj.l6 av x0) K0 x0 ab 0) else none) else (Zj.l5 K0 x0 0)
def Zj.l7:Nat->Bk->Int->Option (Int×Int×Int)
  | 0,_,_=>none
  | ba+1,x0,an=>if an<128 then ((Zr.f x0 an).bind λcr=>(if (!cr)=true then (some (1,an,103)) else ((Zj.l7 ba x0) (i32.wrap (an+1))))) else (Zj.l6 K0 x0 0)
def Zj.f (x0:Bk):Option (Int×Int×Int):=(Zf.f x0).bind λhk=>(if hk.2.2≠0 then (some (0,0,100)) else (Zj.l7 K0 x0 0))
theorem Zj.c (hs:St w0 ρ (Γ) w) {c0:List Value} {x0:Bk} (h0:rBk.R ρ c0 x0) {r:Int×Int×Int} (H:Zj.f x0=some r):Zn Tryz.prog 12 [.agg c0.toArray] w (λv w'=>v=.tuple #[Lk r.1,Lj r.2.1,Lk r.2.2]/\St w0 ρ Γ w'):=by
 refine Et Tryz.func12 Tryz.ntmps12 V ?_;have hm:=h0;obtain ⟨a1,a2,az,a3,aw,a4,a5,a6,a7,a8,a9,rfl,l9,ma,hl,mb,eb,mc,md,me,mf,mg,mh⟩:=hm;refine Wr λmi hn=>Kn (cs:=[a1,a2,az,a3,aw,a4,a5,a6,a7,a8,a9]) hs V V (λaj w hs=>As V<|As V<|As V<|Ox hn<|Ze λmj ho=>Wr λmk hp=>O_y V (Yf (i:=0) Zan H3 hs V V V V)<|Rc H λhk ec H=>Oc V (Zf.c hs h0 ec)<|Ra λw hs=>Mv V<|Oxt V<|Oxt V<|Oxt V<|As V<|As V<|As V<|Ox hp<|Wr λmm hq=>Mv V<|One V<|Ox hq<|W.weak [(1,_),(33,_)] (T2 V)<|Rb H (Y7 V) (λ_ H=>?_) λ_ H=>?_);refine Wr λmn hr=>As V<|As V<|As V<|Ox hr<|Zk ?_;cases H;exact Zdp V V V V ⟨V,(hs.sub (ssk ssr))⟩;refine Wx ho<|Ze λmo ht=>Wr λmp hv=>As V<|Ox hv<|Zi λmq hw mr=>Yw (σ:=Nat×Int) (λ(ba,an)=>[(1,Ll aj),(8,Lj an)]) (λ(ba,an) w=>Zj.l7 ba x0 an=some r/\St w0 ρ ((.box aj 36 ([a1,a2,az,a3,aw,a4,a5,a6,a7,a8,a9]))::Γ) w) (λs=>s.1) (K0,0) (T2 V) (Ai H hs) ?_;rintro ⟨ba,an⟩ w ms ⟨H,hs⟩ bz;show W _ _ _ _ _ _ [(1,Ll aj),(8,Lj an)] w
 cases ba with
 | zero=>rw [Zj.l7] at H;cases H
 | succ ba=>
 rw [Zj.l7] at H;refine Ze λmt ee=>Wr λhx ef=>Mv V<|Ols V<|Ox ef<|Rb H (Y7 V) (λ_ H=>?_) λ_ H=>?_;refine Wx ee<|Ze λhy eg=>Zi λhz ia ib=>Wr λic eh=>O_y V (Yf (i:=0) Zan H3 hs V V V V)<|Mv V<|Rc H λcr ct H=>Oc V (Zr.c hs h0 ct)<|Ra λw hs=>Ont V<|Ox eh<|Re H (Y0 V) (λ_ H=>?_) λ_ H=>?_;refine Wr λie ei=>Mv V<|As V<|As V<|As V<|Ox ei<|Zk ?_;cases H;exact Zdp V V V V ⟨V,(hs.sub (ssk ssr))⟩;refine Wx eg<|Zc<|Mv V<|Oad V<|As V<|Zd (bz (ba,(i32.wrap (an+1))) _ _ (T2 V) (Ai H hs) (Nat.lt_succ_self _));refine Ys (hw _ _ (ht _ _<|Ze λig ej=>Wr λih ek=>Ofd Zju V<|Obx 0 Zf2 hs V<|O_y V (Yn Zjg hl V)<|Mv V<|Ox ek<|Zi λii el ij=>Yw (σ:=Nat×Int) (λ(av,ab)=>[(1,Ll aj),(44,az),(45,Lk (x0.maps.length:Int)),(46,Lk ab)]) (λ(av,ab) w=>Zj.l6 av x0 ab=some r/\St w0 ρ ((.box aj 36 ([a1,a2,az,a3,aw,a4,a5,a6,a7,a8,a9]))::Γ) w) (λs=>s.1) (K0,0) (T4 V) (Ai H hs) ?_));rintro ⟨av,ab⟩ w ik ⟨H,hs⟩ bk;show W _ _ _ _ _ _ [(1,Ll aj),(44,az),(45,Lk (x0.maps.length:Int)),(46,Lk ab)] w
 cases av with
 | zero=>rw [Zj.l6] at H;cases H
 | succ av=>
 rw [Zj.l6] at H;refine Wr λil em=>Ols V<|Ox em<|Ze λim en=>Y7 V (λb2=>?_) (λb2=>?_)
 ·rw [if_pos b2] at H
  refine Wx en<|Ze λio eo=>Zi λip iq ir=>Ze λit ep=>Zc ?_;obtain ⟨cu,H⟩:=gd H;obtain ⟨iu,iv,eq,er⟩:=hl.ix Zhc cu.1 cu.2;obtain ⟨_,⟨bl,rfl,b3⟩,es⟩:=eq;refine O_y V (er V V)<|O_y V (Qp Zij Zd1 V V (λj u hu=>hs.see (es j u hu)))<|Y8 Zj8 hs V (λbm w hs=>Ya (i:=0) Zd1 hs V V V V V (Zb V (Zb V (Zb b3.one Yj))) (λw hs=>Ox ep<|Wr λiw et=>Ofd Za3 V<|Obx 0 Zam hs V<|O_y V (Yn Uy b3 V)<|Mv V<|Ox et<|Zi λiy eu iz=>Yw (σ:=Nat×Int) (λ(ay,ag)=>[(1,Ll aj),(10,Ll bm),(44,az),(45,Lk (x0.maps.length:Int)),(46,Lk ab),(51,bl),(52,Lk (((rd x0.maps ab).is_).length:Int)),(53,Lk ag)]) (λ(ay,ag) w=>Zj.l1 (Zj.l6 av x0) ay x0 ab ag=some r/\St w0 ρ ((.box bm 76 ([Lj ((rd x0.maps ab).lo),Lj ((rd x0.maps ab).hi),bl]))::(.box aj 36 ([a1,a2,az,a3,aw,a4,a5,a6,a7,a8,a9]))::Γ) w) (λs=>s.1) (K0,0) sbn (Ai H hs) ?_));rintro ⟨ay,ag⟩ w ja ⟨H,hs⟩ bn;show W _ _ _ _ _ _ [(1,Ll aj),(10,Ll bm),(44,az),(45,Lk (x0.maps.length:Int)),(46,Lk ab),(51,bl),(52,Lk (((rd x0.maps ab).is_).length:Int)),(53,Lk ag)] w
  cases ay with
  | zero=>rw [Zj.l1] at H;cases H
  | succ ay=>
  rw [Zj.l1] at H;refine Wr λjb ev=>Ols V<|Ox ev<|Ze λjc ew=>Rb H (Y7 V) (λ_ H=>?_) λ_ H=>?_;refine Wx ew<|Ze λjd ex=>Zi λje jf jg=>Ze λjh ey=>Zc ?_;obtain ⟨cv,H⟩:=gd H;obtain ⟨ji,jj,ez,e0⟩:=b3.ix Q6 cv.1 cv.2;refine O_y V (e0 V V)<|O_y V (Yt Xb V (hs.see ez.int))<|As V<|Ox ey<|Wr λjk e1=>O_y V (Yf (i:=1) Zan H3 hs V V V V)<|Mv V<|Rc H λcn cw H=>Oc V (Vf.c hs h0 cw)<|Ra λw hs=>Ont V<|Ox e1<|W.weak [(1,_),(10,_),(44,_),(45,_),(46,_),(51,_),(52,_),(53,_),(60,_)] sbn<|Re H (Y0 V) (λ_ H=>?_) λ_ H=>?_;refine Ze λjm e2=>Qn 5 [0,1,0,7,15] [4,4,3,0,0] [0,1,0,7,15] [] (λw=>St w0 ρ ((.box bm 76 ([Lj ((rd x0.maps ab).lo),Lj ((rd x0.maps ab).hi),bl]))::(.box aj 36 ([a1,a2,az,a3,aw,a4,a5,a6,a7,a8,a9]))::Γ) w) mixed (by kernel_rfl) (λsh=>?_);have hs:=hs.drew;refine Fp 0 sh V (λw=>Zs Zcl V)<|Fy 1 sh V hs (λw hs=>Yb 0 Xb hs V V V)<|Fp 2 sh V (λw=>Yy V)<|Fp 3 sh V (λw=>Yy V)<|Fp 4 sh V (λw=>Yy V)<|FE sh (e2 _ _<|Zk ?_);cases H;exact Zdp V V V V ⟨V,(hs.sub (ssk (ssk ssr)))⟩;refine Wx ex<|Zc<|Oad V<|Mv V<|Zd (bn (ay,(i64.wrap (ag+1))) _ _ sbn (Ai H hs) (Nat.lt_succ_self _));refine Ys (eu _ _ (eo _ _<|Zc<|Oad V<|Mv V<|Zd (bk (av,(i64.wrap (ab+1))) _ _ (T4 V) (Ai H (hs.sub (ssk (ssc ssr)))) (Nat.lt_succ_self _))))
 rw [if_neg b2] at H;refine Ys (el _ _ (ej _ _<|Ze λjn e3=>Wr λjo e4=>Ofd Zev V<|Obx 0 Zf2 hs V<|O_y V (Yn Zjg eb V)<|Mv V<|Ox e4<|Zi λjp e5 jq=>Yw (σ:=Nat×Int) (λ(ar,ad)=>[(1,Ll aj),(66,aw),(67,Lk (x0.decomp.length:Int)),(68,Lk ad)]) (λ(ar,ad) w=>Zj.l5 ar x0 ad=some r/\St w0 ρ ((.box aj 36 ([a1,a2,az,a3,aw,a4,a5,a6,a7,a8,a9]))::Γ) w) (λs=>s.1) (K0,0) (T4 V) (Ai H hs) ?_));rintro ⟨ar,ad⟩ w jr ⟨H,hs⟩ bo;show W _ _ _ _ _ _ [(1,Ll aj),(66,aw),(67,Lk (x0.decomp.length:Int)),(68,Lk ad)] w
 cases ar with
 | zero=>rw [Zj.l5] at H;cases H
 | succ ar=>
 rw [Zj.l5] at H;refine Wr λjs e6=>Ols V<|Ox e6<|Ze λjt e7=>Rb H (Y7 V) (λ_ H=>?_) λ_ H=>?_;refine Wx e7<|Ze λju e8=>Zi λjv jw jx=>Ze λjy e9=>Zc ?_;obtain ⟨cx,H⟩:=gd H;obtain ⟨jz,j0,fa,fb⟩:=eb.ix Zhc cx.1 cx.2;obtain ⟨_,⟨cy,rfl,fc⟩,fd⟩:=fa;refine O_y V (fb V V)<|O_y V (Qp Zij Zd1 V V (λj u hu=>hs.see (fd j u hu)))<|Y8 Zj8 hs V (λb7 w hs=>Ya (i:=0) Zd1 hs V V V V V (Zb V (Zb V (Zb fc.one Yj))) (λw hs=>Ox e9<|Ye λfe ff cz=>?_));have da (au:Bool) (w:World) (H:Zj.j1 (Zj.l5 ar x0) x0 ad au=some r) (hs:St w0 ρ ((.box b7 76 ([Lj ((rd x0.decomp ad).lo),Lj ((rd x0.decomp ad).hi),cy]))::(.box aj 36 ([a1,a2,az,a3,aw,a4,a5,a6,a7,a8,a9]))::Γ) w):fe [(1,Ll aj),(14,Ll b7),(66,aw),(67,Lk (x0.decomp.length:Int)),(68,Lk ad),(82,.bool au)] w:=by refine ff _ _<|Re H (Y0 V) (λ_ H=>?_) λ_ H=>?_;refine Ze λj7 fg=>Qn 5 [0,1,0,7,15] [4,4,3,0,0] [0,1,0,7,15] [] (λw=>St w0 ρ ((.box b7 76 ([Lj ((rd x0.decomp ad).lo),Lj ((rd x0.decomp ad).hi),cy]))::(.box aj 36 ([a1,a2,az,a3,aw,a4,a5,a6,a7,a8,a9]))::Γ) w) mixed (by kernel_rfl) (λsh=>?_);have hs:=hs.drew;refine Fp 0 sh V (λw=>Zs Zcl V)<|Fy 1 sh V hs (λw hs=>Yb 0 Xb hs V V V)<|Fp 2 sh V (λw=>Yy V)<|Fp 3 sh V (λw=>Yy V)<|Fp 4 sh V (λw=>Yy V)<|FE sh (fg _ _<|Zk ?_);cases H;exact Zdp V V V V ⟨V,(hs.sub (ssk (ssk ssr)))⟩;refine Wx e8<|Zc<|Oad V<|Mv V<|Zd (bo (ar,(i64.wrap (ad+1))) _ _ (T4 V) (Ai H (hs.sub (ssk (ssc ssr)))) (Nat.lt_succ_self _))
 refine Zc<|O_y V (Yf (i:=1) Zan H3 hs V V V V)<|Ofd Zcl V<|Obx 0 Xb hs V<|Rc H λcq db H=>Oc V (Vf.c hs h0 db)<|Ra λw hs=>Mv V<|Re H (Ur (dj:=76) V) (λ_ H=>?_) λ_ H=>?_;refine Oe V<|O_y V (Yf (i:=1) Zan H3 hs V V V V)<|Oe V<|Ofd Zcl V<|Oe V<|Obx 0 Xb hs V<|Oe V<|Rc H λbx dc H=>Oc V (Kr.c hs h0 dc)<|Ra λw hs=>Oe V<|Ont V<|Opk V<|Zd (cz _ _ _ sbn (da (!bx) _ H hs));refine On V<|On V<|On V<|On V<|On V<|Opk V<|Zd (cz _ _ _ sbn (da false _ H hs));refine Ys (e5 _ _ (e3 _ _<|Ze λka fh=>Wr λkb fi=>Ofd Zev V<|Obx 0 Zf2 hs V<|O_y V (Yn Zjg eb V)<|Mv V<|Ox fi<|Zi λkc fj kd=>Yw (σ:=Nat×Int) (λ(ah,aa)=>[(1,Ll aj),(87,aw),(88,Lk (x0.decomp.length:Int)),(89,Lk aa)]) (λ(ah,aa) w=>Zj.l4 ah x0 aa=some r/\St w0 ρ ((.box aj 36 ([a1,a2,az,a3,aw,a4,a5,a6,a7,a8,a9]))::Γ) w) (λs=>s.1) (K0,0) (T4 V) (Ai H hs) ?_));rintro ⟨ah,aa⟩ w ke ⟨H,hs⟩ bp;show W _ _ _ _ _ _ [(1,Ll aj),(87,aw),(88,Lk (x0.decomp.length:Int)),(89,Lk aa)] w
 cases ah with
 | zero=>rw [Zj.l4] at H;cases H
 | succ ah=>
 rw [Zj.l4] at H;refine Wr λkf fk=>Ols V<|Ox fk<|Ze λkg fl=>Rb H (Y7 V) (λ_ H=>?_) λ_ H=>?_;refine Wx fl<|Ye λfm fn dd=>?_;have de (w:World) (H:Zj.j2 (Zj.l4 ah x0) aa=some r) (hs:St w0 ρ ((.box aj 36 ([a1,a2,az,a3,aw,a4,a5,a6,a7,a8,a9]))::Γ) w):fm [(1,Ll aj),(87,aw),(88,Lk (x0.decomp.length:Int)),(89,Lk aa)] w:=by rw [Zj.j2] at H;refine fn _ _<|Zc<|Oad V<|Mv V<|Zd (bp (ah,(i64.wrap (aa+1))) _ _ (T4 V) (Ai H hs) (Nat.lt_succ_self _))
 refine Zi λkh fo ki=>Ze λkj fp=>Zc ?_;obtain ⟨df,H⟩:=gd H;obtain ⟨kk,kl,fq,fr⟩:=eb.ix Zhc df.1 df.2;obtain ⟨_,⟨be,rfl,bd⟩,fs⟩:=fq;refine O_y V (fr V V)<|O_y V (Qp Zij Zd1 V V (λj u hu=>hs.see (fs j u hu)))<|Y8 Zj8 hs V (λbb w hs=>Ya (i:=0) Zd1 hs V V V V V (Zb V (Zb V (Zb bd.one Yj))) (λw hs=>Ox fp<|Ze λkm ft=>Ye λfu fv cb=>?_));have cc (al:Bool) (w:World) (H:Zj.j4 (Zj.l4 ah x0) x0 aa al=some r) (hs:St w0 ρ ((.box bb 76 ([Lj ((rd x0.decomp aa).lo),Lj ((rd x0.decomp aa).hi),be]))::(.box aj 36 ([a1,a2,az,a3,aw,a4,a5,a6,a7,a8,a9]))::Γ) w):fu [(1,Ll aj),(16,Ll bb),(87,aw),(88,Lk (x0.decomp.length:Int)),(89,Lk aa),(114,.bool al)] w:=by
  refine fv _ _<|Re H (Y0 V) (λ_ H=>?_) λ_ H=>?_;exact Ys (fo _ _ (dd _ _ _ (T4 V) (de _ H (hs.sub (ssk (ssc ssr))))));refine Wx ft<|Ze λkn fw=>Qn 15 [0,0,2,4,8,0,32,64,128,273,512,1024,1024,4095,16383] [7678,8185,8177,8161,7649,8095,7967,7711,7199,6144,0,4096,10240,4096,0] [0,0,2,6,14,0,32,96,224,511,1023,2047,2047,4095,16383] [9,10,11,12,13,14] (λw=>St w0 ρ ((.box bb 76 ([Lj ((rd x0.decomp aa).lo),Lj ((rd x0.decomp aa).hi),be]))::(.box aj 36 ([a1,a2,az,a3,aw,a4,a5,a6,a7,a8,a9]))::Γ) w) mixed (by kernel_rfl) (λsh=>?_);have hs:=hs.drew;refine Fy 0 sh V hs (λw hs=>Yf (i:=1) Zan H3 hs V V V V)<|Fp 1 sh V (λw=>Zs Za3 V)<|Fy 2 sh V hs (λw hs=>Yb 0 Zam hs V V V) ?_;obtain ⟨dg,H⟩:=gd H;obtain ⟨ko,kp,fx,fy⟩:=bd.ix Q6 dg.1 dg.2;refine Fp 3 sh V (λw=>fy V V)<|Fy 4 sh V hs (λw hs=>Yt Xb V (hs.see fx.int))<|Fp 5 sh V (λw=>Zs Za3 V)<|Fy 6 sh V hs (λw hs=>Yb 0 Zam hs V V V) ?_;obtain ⟨dh,H⟩:=gd H;obtain ⟨kq,kr,fz,ga⟩:=bd.ix Q6 dh.1 dh.2;refine Fp 7 sh V (λw=>ga V V)<|Fy 8 sh V hs (λw hs=>Yt Xb V (hs.see fz.int))<|F1 9 sh V (λks gb=>Rc H λco di H=>Oc V (Qy.c hs h0 di)<|Ra λw hs=>Zd (gb _ _ (λh _=>absurd h (by decide))<|Qq sh [] hs (by kernel_rfl)<|Fm 10 sh V<|Fp 11 sh V (λw=>Zjl V V)<|Fp 12 sh V (λw=>Zjl V V)<|Fp 13 sh V (λw=>Yy V)<|Fp 14 sh V (λw=>Yy V)<|FE sh (fw _ _<|W.weak [(1,_),(16,_),(18,_),(87,_),(88,_),(89,_)] sbn<|Ye λgc ge dk=>?_)));have dl (ak:Bool) (w:World) (H:Zj.j3 (Zj.l4 ah x0) x0 aa ak=some r) (hs:St w0 ρ ((.box bb 76 ([Lj ((rd x0.decomp aa).lo),Lj ((rd x0.decomp aa).hi),be]))::(.box aj 36 ([a1,a2,az,a3,aw,a4,a5,a6,a7,a8,a9]))::Γ) w):gc [(1,Ll aj),(16,Ll bb),(87,aw),(88,Lk (x0.decomp.length:Int)),(89,Lk aa),(135,.bool ak)] w:=by refine ge _ _<|Re H (Y0 V) (λ_ H=>?_) λ_ H=>?_;refine Ze λku gf=>Qn 5 [0,1,0,7,15] [4,4,3,0,0] [0,1,0,7,15] [] (λw=>St w0 ρ ((.box bb 76 ([Lj ((rd x0.decomp aa).lo),Lj ((rd x0.decomp aa).hi),be]))::(.box aj 36 ([a1,a2,az,a3,aw,a4,a5,a6,a7,a8,a9]))::Γ) w) mixed (by kernel_rfl) (λsh=>?_);have hs:=hs.drew;refine Fp 0 sh V (λw=>Zs Zcl V)<|Fy 1 sh V hs (λw hs=>Yb 0 Xb hs V V V)<|Fp 2 sh V (λw=>Yy V)<|Fp 3 sh V (λw=>Yy V)<|Fp 4 sh V (λw=>Yy V)<|FE sh (gf _ _<|Zk ?_);cases H;exact Zdp V V V V ⟨V,(hs.sub (ssk (ssk ssr)))⟩;exact V6 (dd _ _ _ (T4 V) (de _ H (hs.sub (ssk (ssc ssr)))))
  refine Zc<|Mv V<|Mv V<|Re H (Ur (dj:=129) V) (λ_ H=>?_) λ_ H=>?_;refine Oe V<|O_y V (Yf (i:=1) Zan H3 hs V V V V)<|Oe V<|Ofd Zcl V<|Oe V<|Obx 0 Xb hs V<|Oe V<|Rc H λbu dm H=>Oc V (Vf.c hs h0 dm)<|Ra λw hs=>Oe V<|Ont V<|Opk V<|Zd (dk _ _ _ sbn (dl (!bu) _ H hs));refine On V<|On V<|On V<|On V<|On V<|Opk V<|Zd (dk _ _ _ sbn (dl false _ H hs))
 refine Qn 22 [0,1,2,4,8,16,16,80,144,272,560,1040,2064,5120,8192,8192,40960,73728,139264,286720,532480,1056768] [4194300,4194296,4194288,4194272,4186112,4193216,4194080,4193824,4193312,4192288,4182016,4186112,4177920,0,3637248,4079616,3948544,3686400,3162112,2097152,0,0] [0,1,3,7,15,31,31,95,223,479,1023,2047,4095,8191,16383,16383,49151,114687,245759,524287,1048575,2097151] [10,11,12,13,14,15,16,17,18,19,20,21] (λw=>St w0 ρ ((.box bb 76 ([Lj ((rd x0.decomp aa).lo),Lj ((rd x0.decomp aa).hi),be]))::(.box aj 36 ([a1,a2,az,a3,aw,a4,a5,a6,a7,a8,a9]))::Γ) w) mixed (by kernel_rfl) (λsh=>?_);have hs:=hs.drew;refine Fp 0 sh V (λw=>Zs Za3 V)<|Fy 1 sh V hs (λw hs=>Yb 0 Zam hs V V V)<|Fp 2 sh V (λw=>Yn Uy bd V)<|Fp 3 sh V (λw=>Zli V V)<|Fm 4 sh V<|Rb H (H9 (dj:=97) V) (λ_ H=>?_) λ_ H=>?_;refine Fn 5 sh V<|Fn 6 sh V<|Fn 7 sh V<|Fn 8 sh V<|Fn 9 sh V<|Fn 10 sh V<|Fn 11 sh V<|Fp 12 sh V (λw=>Xj V V)<|Fm 13 sh V<|Fn 14 sh V<|Fn 15 sh V<|Fn 16 sh V<|Fn 17 sh V<|Fn 18 sh V<|Fn 19 sh V<|Fn 20 sh V<|Fp 21 sh V (λw=>Xj V V)<|FE sh (cb _ _ _ sbn (cc true _ H hs));refine Fy 5 sh V hs (λw hs=>Yf (i:=1) Zan H3 hs V V V V)<|Fp 6 sh V (λw=>Zs Za3 V)<|Fy 7 sh V hs (λw hs=>Yb 0 Zam hs V V V) ?_;obtain ⟨dn,H⟩:=gd H;obtain ⟨kw,kx,gg,gh⟩:=bd.ix Q6 dn.1 dn.2;refine Fp 8 sh V (λw=>gh V V)<|Fy 9 sh V hs (λw hs=>Yt Xb V (hs.see gg.int))<|F1 10 sh V (λky gi=>Oe V<|Rc H λcp dp H=>Oc V (Vf.c hs h0 dp)<|Ra λw hs=>Zd (gi _ _ (λh _=>absurd h (by decide))<|Qq sh [19,20,21] hs (by kernel_rfl)<|Fp 11 sh V (λw=>Zlj V)<|Fp 12 sh V (λw=>X8 V V)<|Fm 13 sh V<|Zdt (dj:=106) V (λch=>?_) (λch=>?_)));rw [if_pos ch] at H;refine Fn 14 sh V<|Fn 15 sh V<|Fn 16 sh V<|Fn 17 sh V<|Fn 18 sh V<|Fn 19 sh V<|Fn 20 sh V<|Fp 21 sh V (λw=>Xj V V)<|FE sh (cb _ _ _ sbn (cc true _ H hs));rw [if_neg (bft ch)] at H;refine Fy 14 sh V hs (λw hs=>Yf (i:=1) Zan H3 hs V V V V)<|Fp 15 sh V (λw=>Zs Za3 V)<|Fy 16 sh V hs (λw hs=>Yb 0 Zam hs V V V) ?_;obtain ⟨dq,H⟩:=gd H;obtain ⟨k0,k1,gj,gk⟩:=bd.ix Q6 dq.1 dq.2;refine Fp 17 sh V (λw=>gk V V)<|Fy 18 sh V hs (λw hs=>Yt Xb V (hs.see gj.int))<|F1 19 sh V (λk2 gl=>Oe V<|Rc H λbw dr H=>Oc V (Vf.c hs h0 dr)<|Ra λw hs=>Zd (gl _ _ (λh _=>absurd h (by decide))<|Qq sh [] hs (by kernel_rfl)<|Fp 20 sh V (λw=>Zlj V)<|Fp 21 sh V (λw=>X8 V V)<|FE sh (cb _ _ _ sbn (cc (!bw) _ H hs))))
 refine Ys (fj _ _ (fh _ _<|Wr λk4 gm=>O_y V (Qe (cs:=[Lj 4352,Lj 4370]) Zkx Zs8 ((Zu.cons V V (Zu.cons V V Zu.nil))) Zku (by kernel_rfl))<|O_y V (Qe (cs:=[Lj 4449,Lj 4469]) Zkx Zs8 ((Zu.cons V V (Zu.cons V V Zu.nil))) Zku (by kernel_rfl))<|O_y V (Qe (cs:=[Lj 4520,Lj 4546]) Zkx Zs8 ((Zu.cons V V (Zu.cons V V Zu.nil))) Zku (by kernel_rfl))<|O_y V (Qe (cs:=[Lj 44032,Lj 55203]) Zkx Zs8 ((Zu.cons V V (Zu.cons V V Zu.nil))) Zku (by kernel_rfl))<|Kj (xs:=[.tmp 139,.tmp 140,.tmp 141,.tmp 142]) (cs:=[Lj 4352,Lj 4370,Lj 4449,Lj 4469,Lj 4520,Lj 4546,Lj 44032,Lj 55203]) Zhd hs V V V (by decide) (by decide) V (Yk V (Yk V (Yk V (Yk V Qz)))) (Zw V (Zw V (Zw V (Zw V Xr)))) (λax w hs=>?_)));have ds:Zo J5 ρ ([Lj 4352,Lj 4370,Lj 4449,Lj 4469,Lj 4520,Lj 4546,Lj 44032,Lj 55203]) [(⟨4352,4370⟩:Spn),(⟨4449,4469⟩:Spn),(⟨4520,4546⟩:Spn),(⟨44032,55203⟩:Spn)]:=Zo.cons (c:=[Lj 4352,Lj 4370]) (x:=(⟨4352,4370⟩:Spn)) V (Zo.cons (c:=[Lj 4449,Lj 4469]) (x:=(⟨4449,4469⟩:Spn)) V (Zo.cons (c:=[Lj 4520,Lj 4546]) (x:=(⟨4520,4546⟩:Spn)) V (Zo.cons (c:=[Lj 44032,Lj 55203]) (x:=(⟨44032,55203⟩:Spn)) V (Zo.nil _ _))));refine As V<|Ox gm<|Wr λk5 gn=>As V<|Ox gn<|Ze λk6 go=>Wr λk7 gp=>Mv V<|O_y V (Uj (i:=0) Zr8 hs V V)<|Mv V<|Ox gp<|W.weak [(1,_),(19,_),(20,_),(144,_),(145,_),(146,_)] sbn<|Zi λk8 gq k9=>Yw (σ:=Nat×Bool×Int) (λ(aq,af,ae)=>[(1,Ll aj),(19,.slice (some ⟨ax,0,none⟩) 4 4),(20,.bool af),(144,.slice (some ⟨ax,0,none⟩) 4 4),(145,Lk (([(⟨4352,4370⟩:Spn),(⟨4449,4469⟩:Spn),(⟨4520,4546⟩:Spn),(⟨44032,55203⟩:Spn)]).length:Int)),(146,Lk ae)]) (λ(aq,af,ae) w=>Zj.l3 aq x0 af ae=some r/\St w0 ρ ((.row (.slice (some ⟨ax,0,none⟩) 4 4) 80 J5.sz (([(⟨4352,4370⟩:Spn),(⟨4449,4469⟩:Spn),(⟨4520,4546⟩:Spn),(⟨44032,55203⟩:Spn)]).length) ([Lj 4352,Lj 4370,Lj 4449,Lj 4469,Lj 4520,Lj 4546,Lj 44032,Lj 55203]))::(.box aj 36 ([a1,a2,az,a3,aw,a4,a5,a6,a7,a8,a9]))::Γ) w) (λs=>s.1) (K0,false,0) sbn (Ai H hs) ?_;rintro ⟨aq,af,ae⟩ w la ⟨H,hs⟩ bq;show W _ _ _ _ _ _ [(1,Ll aj),(19,.slice (some ⟨ax,0,none⟩) 4 4),(20,.bool af),(144,.slice (some ⟨ax,0,none⟩) 4 4),(145,Lk (([(⟨4352,4370⟩:Spn),(⟨4449,4469⟩:Spn),(⟨4520,4546⟩:Spn),(⟨44032,55203⟩:Spn)]).length:Int)),(146,Lk ae)] w
 cases aq with
 | zero=>rw [Zj.l3] at H;cases H
 | succ aq=>
 rw [Zj.l3] at H;refine Wr λlb gr=>Ols V<|Ox gr<|Ze λlc gs=>Rb H (Y7 V) (λ_ H=>?_) λ_ H=>?_;refine Wx gs<|Ye λgt gu dt=>?_;have du (ao:Bool) (w:World) (H:Zj.j5 (Zj.l3 aq x0) ae ao=some r) (hs:St w0 ρ ((.row (.slice (some ⟨ax,0,none⟩) 4 4) 80 J5.sz (([(⟨4352,4370⟩:Spn),(⟨4449,4469⟩:Spn),(⟨4520,4546⟩:Spn),(⟨44032,55203⟩:Spn)]).length) ([Lj 4352,Lj 4370,Lj 4449,Lj 4469,Lj 4520,Lj 4546,Lj 44032,Lj 55203]))::(.box aj 36 ([a1,a2,az,a3,aw,a4,a5,a6,a7,a8,a9]))::Γ) w):gt [(1,Ll aj),(19,.slice (some ⟨ax,0,none⟩) 4 4),(20,.bool ao),(144,.slice (some ⟨ax,0,none⟩) 4 4),(145,Lk (([(⟨4352,4370⟩:Spn),(⟨4449,4469⟩:Spn),(⟨4520,4546⟩:Spn),(⟨44032,55203⟩:Spn)]).length:Int)),(146,Lk ae)] w:=by rw [Zj.j5] at H;refine gu _ _<|Zc<|Oad V<|Mv V<|Zd (bq (aq,ao,(i64.wrap (ae+1))) _ _ sbn (Ai H hs) (Nat.lt_succ_self _))
 refine Zi λld le lf=>Ze λlg gv=>Zc ?_;obtain ⟨bf,H⟩:=gd H;obtain ⟨lh,bs⟩:=hs.rowBlock (j:=0) V (by have:=bf.2;omega);obtain ⟨_,rfl,dv⟩:=ds.at bf.1 bf.2;refine O_y V (Vp (j:=0) Zhd hs V bs V V bf.1 bf.2)<|O_y V (Qp Zku Znp V V (λj u hu=>hs.rowCell (j:=0) V bs (dv j u hu)))<|Y8 Zkx hs V (λli w hs=>Ya (i:=0) Znp hs V V V V V (Zb V (Zb V Yj)) (λw hs=>Ox gv<|Zc<|Mv V<|Mv V<|Ur (dj:=151) V (λcj=>?_) (λcj=>?_)));rw [if_pos cj] at H;refine On V<|On V<|On V<|On V<|On V<|On V<|Opk V<|As V<|Zd (dt _ _ _ sbn (du true _ H (hs.sub (ssk (ssc (ssc ssr))))));rw [if_neg (bft cj)] at H;refine Oe V<|O_y V (Yf (i:=2) Zan H3 hs V V V V)<|Oe V<|Ofd Zhx V<|Oe V<|Obx 0 Xb hs V<|Oe V<|Ofd Zhy V<|Oe V<|Obx 0 Xb hs V<|Oe V<|Rc H λbv dw H=>Oc V (Kx.c hs h0 dw)<|Ra λw hs=>Opk V<|As V<|Zd (dt _ _ _ sbn (du bv _ H (hs.sub (ssk (ssc (ssc ssr))))));refine Ys (gq _ _ (go _ _<|Ze λlk gw=>Wr λll gx=>Mv V<|O_y V (Uj (i:=0) Zr8 hs V V)<|Mv V<|Ox gx<|Zi λlm gy ln=>Yw (σ:=Nat×Int) (λ(ap,ac)=>[(1,Ll aj),(20,.bool af),(160,.slice (some ⟨ax,0,none⟩) 4 4),(161,Lk (([(⟨4352,4370⟩:Spn),(⟨4449,4469⟩:Spn),(⟨4520,4546⟩:Spn),(⟨44032,55203⟩:Spn)]).length:Int)),(162,Lk ac)]) (λ(ap,ac) w=>Zj.l2 ap x0 af ac=some r/\St w0 ρ ((.row (.slice (some ⟨ax,0,none⟩) 4 4) 80 J5.sz (([(⟨4352,4370⟩:Spn),(⟨4449,4469⟩:Spn),(⟨4520,4546⟩:Spn),(⟨44032,55203⟩:Spn)]).length) ([Lj 4352,Lj 4370,Lj 4449,Lj 4469,Lj 4520,Lj 4546,Lj 44032,Lj 55203]))::(.box aj 36 ([a1,a2,az,a3,aw,a4,a5,a6,a7,a8,a9]))::Γ) w) (λs=>s.1) (K0,0) sbn (Ai H hs) ?_));rintro ⟨ap,ac⟩ w lp ⟨H,hs⟩ br;show W _ _ _ _ _ _ [(1,Ll aj),(20,.bool af),(160,.slice (some ⟨ax,0,none⟩) 4 4),(161,Lk (([(⟨4352,4370⟩:Spn),(⟨4449,4469⟩:Spn),(⟨4520,4546⟩:Spn),(⟨44032,55203⟩:Spn)]).length:Int)),(162,Lk ac)] w
 cases ap with
 | zero=>rw [Zj.l2] at H;cases H
 | succ ap=>
 rw [Zj.l2] at H;refine Wr λlq gz=>Ols V<|Ox gz<|Ze λlr ha=>Rb H (Y7 V) (λ_ H=>?_) λ_ H=>?_;refine Wx ha<|Ze λls hb=>Zi λlt lu lv=>Ze λlw hc=>Zc ?_;obtain ⟨bg,H⟩:=gd H;obtain ⟨lx,bt⟩:=hs.rowBlock (j:=0) V (by have:=bg.2;omega);obtain ⟨_,rfl,dx⟩:=ds.at bg.1 bg.2;refine O_y V (Vp (j:=0) Zhd hs V bt V V bg.1 bg.2)<|O_y V (Qp Zku Znp V V (λj u hu=>hs.rowCell (j:=0) V bt (dx j u hu)))<|Y8 Zkx hs V (λhd w hs=>Ya (i:=0) Znp hs V V V V V (Zb V (Zb V Yj)) (λw hs=>Ox hc<|Wr λly he=>O_y V (Yf (i:=2) Zan H3 hs V V V V)<|Ofd Zhx V<|Obx 0 Xb hs V<|Ofd Zhy V<|Obx 0 Xb hs V<|Rc H λa0 dy H=>Oc V (Y3.c hs h0 dy)<|Ra λw hs=>As V<|Ox he<|W.weak [(1,_),(20,_),(25,_),(160,_),(161,_),(162,_)] sbn<|Ye λhf hg dz=>?_));have ea (am:Bool) (w:World) (H:Zj.j6 (Zj.l2 ap x0 af) ac a0 am=some r) (hs:St w0 ρ ((.box hd 80 ([Lj ((rd ([(⟨4352,4370⟩:Spn),(⟨4449,4469⟩:Spn),(⟨4520,4546⟩:Spn),(⟨44032,55203⟩:Spn)]) ac).lo),Lj ((rd ([(⟨4352,4370⟩:Spn),(⟨4449,4469⟩:Spn),(⟨4520,4546⟩:Spn),(⟨44032,55203⟩:Spn)]) ac).hi)]))::(.row (.slice (some ⟨ax,0,none⟩) 4 4) 80 J5.sz (([(⟨4352,4370⟩:Spn),(⟨4449,4469⟩:Spn),(⟨4520,4546⟩:Spn),(⟨44032,55203⟩:Spn)]).length) ([Lj 4352,Lj 4370,Lj 4449,Lj 4469,Lj 4520,Lj 4546,Lj 44032,Lj 55203]))::(.box aj 36 ([a1,a2,az,a3,aw,a4,a5,a6,a7,a8,a9]))::Γ) w):hf [(1,Ll aj),(20,.bool af),(25,Lj a0),(160,.slice (some ⟨ax,0,none⟩) 4 4),(161,Lk (([(⟨4352,4370⟩:Spn),(⟨4449,4469⟩:Spn),(⟨4520,4546⟩:Spn),(⟨44032,55203⟩:Spn)]).length:Int)),(162,Lk ac),(176,.bool am)] w:=by refine hg _ _<|Re H (Y0 V) (λ_ H=>?_) λ_ H=>?_;refine Wr λl0 hh=>Mv V<|As V<|As V<|As V<|Ox hh<|Zk ?_;cases H;exact Zdp V V V V ⟨V,(hs.sub (ssk (ssk (ssk ssr))))⟩;refine Wx hb<|Zc<|Oad V<|Mv V<|Zd (br (ap,(i64.wrap (ac+1))) _ _ sbn (Ai H (hs.sub (ssk (ssc (ssc ssr))))) (Nat.lt_succ_self _))
 refine Zc<|Mv V<|Mv V<|Re H (Ur (dj:=173) V) (λ_ H=>?_) λ_ H=>?_;refine Oe V<|Mv V<|Oe V<|Oge V<|Opk V<|Zd (dz _ _ _ sbn (ea (decide (0<=a0)) _ H hs));refine On V<|On V<|Opk V<|Zd (dz _ _ _ sbn (ea false _ H hs));refine Ys (gy _ _ (gw _ _<|Wr λl8 hj=>As V<|As V<|As V<|Ox hj<|Zk ?_));cases H;exact Zdp V V V V ⟨V,(hs.sub (ssk (ssk ssr)))⟩

def Kp.j1 (ak:List Int->Int->Option (List Int)) (ab:Int) (ac:List Int):Option (List Int):=ak ac (i64.wrap (ab+1))
def Kp.l1:Nat->Bk->List Int->Int->List Int->Int->Option (List Int)
  | 0,_,_,_,_,_=>none
  | ai+1,x0,x1,x2,aa,ab=>if ab<(x1.length:Int) then (if (0:Int)<=ab/\ab<(x1.length:Int) then ((Hn.f x0 (rd x1 ab)).bind λao=>(if ao=x2 then (if aa.length+([ab]).length<=most then (Kp.j1 (Kp.l1 ai x0 x1 x2) ab (aa++([ab]))) else none) else (Kp.j1 (Kp.l1 ai x0 x1 x2) ab aa))) else none) else (some aa)
def Kp.f (x0:Bk) (x1:List Int) (x2:Int):Option (List Int):=Kp.l1 K0 x0 x1 x2 ([]:List Int) 0
theorem Kp.c (hs:St w0 ρ (Γ) w) {c0:List Value} {x0:Bk} (h0:rBk.R ρ c0 x0) {v1:Value} {x1:List Int} (h1:SlR (Rep.int .i32) ρ v1 x1) {x2:Int} {r:List Int} (H:Kp.f x0 x1 x2=some r):Zn Tryz.prog 33 [.agg c0.toArray,v1,Lk x2] w (λv w'=>∃ (ρ':Hp) (v0:Value) (cs0:List Value),v=v0/\Le ρ ρ'/\St w0 ρ' (.row v0 3 (Rep.int .i64).sz r.length cs0::Γ) w'/\Zo (Rep.int .i64) ρ' cs0 r):=by
 rw [Kp.f] at H;refine Et Tryz.func33 Tryz.ntmps33 V ?_;have bh:=h0;obtain ⟨aw,ax,ay,az,a0,a1,a2,a3,a4,a5,a6,rfl,b4,b5,b6,b7,b8,b9,ca,cb,cc,cd,ce⟩:=bh;refine Wr λcf bi=>Kn (cs:=[aw,ax,ay,az,a0,a1,a2,a3,a4,a5,a6]) hs V V (λan w hs=>As V<|Ox bi<|Wr λcg bj=>Kj (xs:=[]) (cs:=[]) Zc6 hs V V V (by decide) (by decide) V Qz Xr (λbk w hs=>?_));have bl:Zo (Rep.int .i64) ρ ([]) ([]:List Int):=Zo.nil _ _;refine As V<|Ox bj<|Ze λch bm=>Wr λci bn=>As V<|Ox bn<|Zi λcj bo ck=>Yw (σ:=Nat×List Int×Int×Value×List Value) (λ(ai,aa,ab,ad,ae)=>[(1,v1),(2,Lk x2),(3,Ll an),(7,ad),(8,Lk ab)]) (λ(ai,aa,ab,ad,ae) w=>Kp.l1 ai x0 x1 x2 aa ab=some r/\St w0 ρ ((.row ad 3 ((Rep.int .i64).sz) aa.length ae)::(.box an 36 ([aw,ax,ay,az,a0,a1,a2,a3,a4,a5,a6]))::Γ) w/\Zo (Rep.int .i64) ρ ae aa) (λs=>s.1) (K0,([]:List Int),0,(.slice (some ⟨bk,0,none⟩) 0 0),([])) sbn (Ai H (Ai hs bl)) ?_;rintro ⟨ai,aa,ab,ad,ae⟩ w cl ⟨H,hs,ah⟩ al;show W _ _ _ _ _ _ [(1,v1),(2,Lk x2),(3,Ll an),(7,ad),(8,Lk ab)] w
 cases ai with
 | zero=>rw [Kp.l1] at H;cases H
 | succ ai=>
 rw [Kp.l1] at H;refine Ze λcm bp=>Wr λcn bq=>Mv V<|Mv V<|O_y V (Yn Uy h1 V)<|Ols V<|Ox bq<|Rb H (Y7 V) (λ_ H=>?_) λ_ H=>?_;refine Wx bp<|Ye λbr bs bg=>?_;have ap (ac:List Int) (af:Value) (ag:List Value) (w:World) (H:Kp.j1 (Kp.l1 ai x0 x1 x2) ab ac=some r) (hs:St w0 ρ ((.row af 3 ((Rep.int .i64).sz) ac.length ag)::(.box an 36 ([aw,ax,ay,az,a0,a1,a2,a3,a4,a5,a6]))::Γ) w) (aj:Zo (Rep.int .i64) ρ ag ac):br [(1,v1),(2,Lk x2),(3,Ll an),(7,af),(8,Lk ab)] w:=by rw [Kp.j1] at H;refine bs _ _<|Zc<|Mv V<|Oad V<|As V<|Zd (al (ai,ac,(i64.wrap (ab+1)),af,ag) _ _ sbn (Ai H (Ai hs aj)) (Nat.lt_succ_self _))
 refine Zi λbt bu bv=>Ze λbw a8=>Qn 8 [0,0,0,6,8,17,0,96] [222,245,243,225,193,64,63,0] [0,0,0,6,14,31,0,127] [5,7] (λw=>St w0 ρ ((.row ad 3 ((Rep.int .i64).sz) aa.length ae)::(.box an 36 ([aw,ax,ay,az,a0,a1,a2,a3,a4,a5,a6]))::Γ) w) mixed (by kernel_rfl) (λsh=>?_);have hs:=hs.drew;refine Fy 0 sh V hs (λw hs=>Yf (i:=1) Zan H3 hs V V V V)<|Fm 1 sh V<|Fm 2 sh V ?_;obtain ⟨aq,H⟩:=gd H;obtain ⟨bx,bz,a9,ba⟩:=h1.ix Q6 aq.1 aq.2;refine Fp 3 sh V (λw=>ba V V)<|Fy 4 sh V hs (λw hs=>Yt Xb V (hs.see a9.int))<|Fm 6 sh V<|F1 5 sh V (λb0 bb=>Rc H λao ar H=>Oc V (Hn.c hs h0 ar)<|Ra λw hs=>Zd (bb _ _ (λh _=>absurd h (by decide))<|Qq sh [] hs (by kernel_rfl)<|Fp 7 sh V (λw=>Zbj V V)<|FE sh (a8 _ _<|W.weak [(1,_),(2,_),(3,_),(7,_),(8,_),(23,_)] sbn<|Rb H (Y7 V) (λ_ H=>?_) λ_ H=>?_)));refine Zc<|Mv V<|Mv V<|Kj (xs:=[.tmp 25]) (cs:=[Lk ab]) Zc6 hs V V V (by decide) (by decide) V (Yk V Qz) (Zw V Xr) (λb2 w hs=>?_);have au:Zo (Rep.int .i64) ρ ([Lk ab]) [ab]:=Zo.cons (c:=[Lk ab]) (x:=ab) V (Zo.nil _ _);refine Rd H λbc H=>X6 (i:=1) Zc6 hs V ah V V V (Src.lit (j:=0) hs V au) au bc (λbd av w be hs=>As V<|Zd (bg _ _ _ sbn (ap (aa++([ab])) bd av _ H (hs.sub (ssk (ssc (ssc ssr)))) be)));exact V6 (bg _ _ _ sbn (ap aa ad ae _ H hs ah));refine Ys (bo _ _ (bm _ _<|Wr λb3 bf=>Mv V<|As V<|Ox bf<|Zk ?_));cases H;exact r1 V ⟨_,_,_,V,Le.rfl' _,(hs.sub (ssc (ssk ssr))),ah⟩

def H1.f (x0:Bk) (x1:List Int):Option (List Int):=(Kp.f x0 x1 0).bind λac=>(some ac)
theorem H1.c (hs:St w0 ρ (Γ) w) {c0:List Value} {x0:Bk} (h0:rBk.R ρ c0 x0) {v1:Value} {x1:List Int} (h1:SlR (Rep.int .i32) ρ v1 x1) {r:List Int} (H:H1.f x0 x1=some r):Zn Tryz.prog 13 [.agg c0.toArray,v1] w (λv w'=>∃ (ρ':Hp) (v0:Value) (cs0:List Value),v=v0/\Le ρ ρ'/\St w0 ρ' (.row v0 3 (Rep.int .i64).sz r.length cs0::Γ) w'/\Zo (Rep.int .i64) ρ' cs0 r):=by
 refine Et Tryz.func13 Tryz.ntmps13 V ?_;have ad:=h0;obtain ⟨ae,af,ag,ah,ai,aj,ak,al,am,an,ao,rfl,av,aw,ax,ay,az,a0,a1,a2,a3,a4,a5⟩:=ad;refine Wr λa6 ap=>Kn (cs:=[ae,af,ag,ah,ai,aj,ak,al,am,an,ao]) hs V V (λa7 w hs=>As V<|Ox ap<|Wr λa8 aq=>O_y V (Yf (i:=0) Zan H3 hs V V V V)<|Mv V<|Rc H λac aa H=>Oc V (Kp.c hs h0 h1 aa) (λa9 w hpost=>?_));obtain ⟨ba,bb,ar,rfl,ab,hs,au⟩:=hpost;refine As V<|Ox aq<|Zk ?_;cases H;exact r1 V ⟨_,_,_,V,ab,(hs.sub (ssc (ssk ssr))),au⟩

def Xx.j1 (ag:Bool):Option Bool:=some ag
def Xx.j2 (aa ab:ByteArray×Bool) (ae:Bool):Option Bool:=if ae=true then (some true) else (if aa.1=ab.1 then (Xx.j1 (aa.2 == ab.2)) else (Xx.j1 false))
def Xx.j3 (x1:List Int) (ai:Option Tbs×Bk×Bool) (aa ab:ByteArray×Bool) (af:Bool):Option Bool:=if af=true then (some false) else ((Zj.f ai.2.1).bind λa6=>(if a6.2.2≠0 then (Xx.j2 aa ab true) else ((H1.f ai.2.1 x1).bind λap=>(Xx.j2 aa ab (decide (0<(ap.length:Int)))))))
def Xx.f (x0:Bk) (x1 x2:List Int):Option Bool:=(Kz.f x0).bind λai=>((V2.f ai.1 x1).bind λaa=>((V2.f ai.1 x2).bind λan=>((Zbb.f ai.1 x1).bind λa7=>((V2.f ai.1 a7).bind λab=>((Zc3.f).bind λa8=>(if (!a8)=true then (Xx.j3 x1 ai aa ab true) else (if (!ai.2.2)=true then (Xx.j3 x1 ai aa ab true) else ((Zci.f ai.1 x1 x2).bind λa9=>(if a9=true then (if aa.1≠an.1 then (Xx.j3 x1 ai aa ab true) else (Xx.j3 x1 ai aa ab (aa.2 != an.2))) else (Xx.j3 x1 ai aa ab false))))))))))
theorem Xx.c (hs:St w0 ρ (Γ) w) {c0:List Value} {x0:Bk} (h0:rBk.R ρ c0 x0) {v1:Value} {x1:List Int} (h1:SlR (Rep.int .i32) ρ v1 x1) {v2:Value} {x2:List Int} (h2:SlR (Rep.int .i32) ρ v2 x2) {r:Bool} (H:Xx.f x0 x1 x2=some r):Zn Tryz.prog 4 [.agg c0.toArray,v1,v2] w (λv w'=>v=.bool r/\St w0 ρ Γ w'):=by
 refine Et Tryz.func4 Tryz.ntmps4 V ?_;have cz:=h0;obtain ⟨bo,bp,bq,br,bs,bt,bu,bv,bw,bx,bz,rfl,ef,eg,eh,ei,ej,ek,el,em,en,eo,ep⟩:=cz;refine Wr λeq da=>Kn (cs:=[bo,bp,bq,br,bs,bt,bu,bv,bw,bx,bz]) hs V V (λb0 w hs=>As V<|Ox da<|Wr λer db=>O_y V (Yf (i:=0) Zpa Zno hs V V V V)<|Rc H λai b1 H=>Oc V (Kz.c hs h0 b1) (λes w hpost=>?_));obtain ⟨et,eu,dc,rfl,ah,hs,ba,b2⟩:=hpost;have b3:=b2;obtain ⟨b4,b5,b6,b7,b8,b9,aq,ar,au,av,aw,rfl,dd,de,df,dg,dh,di,ca,cb,cc,cd,ce⟩:=b3;refine Mv V<|Oxt V<|Oxt V<|Oxt V<|Y8 Zwu hs V (λao w hs=>As V<|Ya (i:=0) H3 hs V V V V V (Zb dd.one (Zb de.one (Zb df.one (Zb dg.one (Zb dh.one (Zb di.one (Zb ca.one (Zb cb.one (Zb cc.one (Zb cd.one (Zb ce.one Yj))))))))))) (λw hs=>As V<|Ox db<|Wr λdk cf=>Mv V<|Mv V<|Rc H λaa bb H=>Oc V (V2.c hs ba (h1.mono ah) bb)<|Ra λw hs=>Mv V<|Oxt V<|Oxt V<|As V<|As V<|Ox cf<|W.weak [(1,_),(2,_),(7,_),(8,_),(9,_),(10,_),(11,_)] sbn<|Wr λdm cg=>Mv V<|Mv V<|Rc H λan bc H=>Oc V (V2.c hs ba (h2.mono ah) bc)<|Ra λw hs=>Mv V<|Oxt V<|Oxt V<|As V<|As V<|Ox cg<|W.weak [(1,_),(2,_),(7,_),(8,_),(9,_),(10,_),(11,_),(12,_),(13,_)] sbn<|Wr λdp ch=>Mv V<|Mv V<|Mv V<|Rc H λa7 bd H=>Oc V (Zbb.c hs ba (h1.mono ah) bd) (λdq w hpost=>?_)));obtain ⟨dr,ds,cx,rfl,ac,hs,ci⟩:=hpost;obtain ⟨ax,ad,hs,cj⟩:=hs.rowEnd (j:=0) ci V;refine Rc H λab be H=>Oc V (V2.c hs (ba.mono (ac.trans ad)) cj be)<|Ra λw hs=>Mv V<|Oxt V<|Oxt V<|As V<|As V<|Ox ch<|W.weak [(1,_),(2,_),(7,_),(8,_),(9,_),(10,_),(11,_),(12,_),(13,_),(14,_),(15,_)] sbn<|Ze λdu ck=>Ye λcl cm ak=>?_;have al (af:Bool) (w:World) (H:Xx.j3 x1 ai aa ab af=some r) (hs:St w0 ax ((.box ao 36 ([b4,b5,b6,b7,b8,b9,aq,ar,au,av,aw]))::(.box b0 27 ([bo,bp,bq,br,bs,bt,bu,bv,bw,bx,bz]))::Γ) w):cl [(1,v1),(8,Ll ao),(10,.string aa.1),(11,.bool aa.2),(14,.string ab.1),(15,.bool ab.2),(66,.bool af)] w:=by
  refine cm _ _<|Re H (Y0 V) (λ_ H=>?_) λ_ H=>?_;refine Wr λdv cn=>As V<|Ox cn<|Zk ?_;cases H;exact r1 V ⟨V,((hs.sub (ssk (ssk ssr))).less ((ah.trans ac).trans ad))⟩;refine Wx ck<|Ze λdw co=>Wr λdx cp=>O_y V (Yf (i:=0) Zan H3 hs V V V V) ?_;obtain ⟨a6,bf,H⟩:=bnd H;refine Oc V (Zj.c hs (rBk.mono (ac.trans ad) b2) bf) (λdy w hpost=>?_);obtain ⟨rfl,hs⟩:=hpost;refine Mv V<|Oxt V<|Oxt V<|Oxt V<|As V<|As V<|As V<|Ox cp<|W.weak [(1,_),(8,_),(10,_),(11,_),(14,_),(15,_),(18,_)] sbn<|Ye λcq cr bg=>?_;have bh (ae:Bool) (aj:Hp) (w:World) (H:Xx.j2 aa ab ae=some r) (am:Le ax aj) (hs:St w0 aj ((.box ao 36 ([b4,b5,b6,b7,b8,b9,aq,ar,au,av,aw]))::(.box b0 27 ([bo,bp,bq,br,bs,bt,bu,bv,bw,bx,bz]))::Γ) w):cq [(10,.string aa.1),(11,.bool aa.2),(14,.string ab.1),(15,.bool ab.2),(81,.bool ae)] w:=by
   refine cr _ _<|Re H (Y0 V) (λ_ H=>?_) λ_ H=>?_;refine Wr λdz ct=>As V<|Ox ct<|Zk ?_;cases H;exact r1 V ⟨V,((hs.sub (ssk (ssk ssr))).less (((ah.trans ac).trans ad).trans am))⟩;refine Wx co<|Ye λcu cv bi=>?_;have bj (ag:Bool) (w:World) (H:Xx.j1 ag=some r) (hs:St w0 aj ((.box ao 36 ([b4,b5,b6,b7,b8,b9,aq,ar,au,av,aw]))::(.box b0 27 ([bo,bp,bq,br,bs,bt,bu,bv,bw,bx,bz]))::Γ) w):cu [(6,.bool ag)] w:=by rw [Xx.j1] at H;refine cv _ _<|Zk ?_;cases H;exact r1 V ⟨V,((hs.sub (ssk (ssk ssr))).less (((ah.trans ac).trans ad).trans am))⟩
   refine Zc<|Mv V<|Mv V<|O_y V (Zf6 V V)<|Mv V<|Rb H (X0 (dj:=85) V) (λ_ H=>?_) λ_ H=>?_;refine Oe V<|Mv V<|Oe V<|Mv V<|Oe V<|O_y V (Zwz un4 V V)<|Opk V<|As V<|Zd (bi _ _ _ (S1 V) (bj (aa.2 == ab.2) _ H hs));refine On V<|On V<|On V<|Opk V<|As V<|Zd (bi _ _ _ (S1 V) (bj false _ H hs))
  refine Zc<|Mv V<|One V<|Mv V<|Rb H (X0 (dj:=75) V) (λ_ H=>?_) λ_ H=>?_;refine On V<|On V<|On V<|On V<|On V<|Opk V<|Zd (bg _ _ _ sbn (bh true ax _ H (Le.rfl' _) hs));refine Oe V<|O_y V (Yf (i:=0) Zan H3 hs V V V V)<|Oe V<|Mv V<|Oe V ?_;obtain ⟨ap,bk,H⟩:=bnd H;refine Oc V (H1.c hs (rBk.mono (ac.trans ad) b2) (h1.mono ((ah.trans ac).trans ad)) bk) (λea w hpost=>?_);obtain ⟨cw,eb,cy,rfl,bl,hs,ec⟩:=hpost;refine Oe V<|O_y V (Uj (i:=0) Zm3 hs V V)<|Oe V<|Ogt V<|Opk V<|Zd (bg _ _ _ sbn (bh (decide (0<(ap.length:Int))) cw _ H bl (hs.sub (ssk (ssc (ssc ssr))))))
 refine Zc<|Rc H λa8 bm H=>Oc V (Zc3.c hs bm)<|Ra λw hs=>Ont V<|Mv V<|Re H (Ur (dj:=47) V) (λ_ H=>?_) λ_ H=>?_;refine On V<|On V<|Opk V<|Mv V<|On V<|On V<|On V<|On V<|On V<|X3 V V V<|X3 V V V<|X3 V V V<|X3 V V V<|X3 V V V<|X3 V V V<|X3 V V V<|X3 V V V<|On V<|Opk V<|Zd (ak _ _ _ sbn (al true _ H hs));refine Oe V<|Mv V<|Oe V<|Ont V<|Opk V<|Mv V<|Re H (Ur (dj:=51) V) (λ_ H=>?_) λ_ H=>?_;refine On V<|On V<|On V<|On V<|On V<|X3 V V V<|X3 V V V<|X3 V V V<|X3 V V V<|X3 V V V<|X3 V V V<|X3 V V V<|X3 V V V<|On V<|Opk V<|Zd (ak _ _ _ sbn (al true _ H hs));refine Oe V<|Mv V<|Oe V<|Mv V<|Oe V<|Mv V<|Oe V<|Rc H λa9 bn H=>Oc V (Zci.c hs (ba.mono (ac.trans ad)) (h1.mono ((ah.trans ac).trans ad)) (h2.mono ((ah.trans ac).trans ad)) bn)<|Ra λw hs=>Oe V<|Mv V<|Re H (Ur (dj:=56) V) (λ_ H=>?_) λ_ H=>?_;refine Oe V<|Mv V<|Oe V<|Mv V<|Oe V<|O_y V (Zw5 V V)<|Oe V<|Mv V<|Rb H (X0 (dj:=60) V) (λ_ H=>?_) λ_ H=>?_;refine On V<|On V<|On V<|Oe V<|Opk V<|Oe V<|Opk V<|Opk V<|Zd (ak _ _ _ sbn (al true _ H hs));refine Oe V<|Mv V<|Oe V<|Mv V<|Oe V<|O_y V (Z1z un4 V V)<|Oe V<|Opk V<|Oe V<|Opk V<|Opk V<|Zd (ak _ _ _ sbn (al (aa.2 != an.2) _ H hs));refine On V<|On V<|On V<|On V<|X3 V V V<|X3 V V V<|X3 V V V<|On V<|Oe V<|Opk V<|Opk V<|Zd (ak _ _ _ sbn (al false _ H hs))

end
section
open Go.IntKind (i8 i16 i32 i64 u8 u16 u32 u64)
open Go.RowKit
def Vs.j1 (aa:Bool):Option Bool:=some aa
def Vs.f (x0:Int):Option Bool:=if 0<=x0 then (if x0<55296 then (Vs.j1 true) else (if 57343<x0 then (Vs.j1 (decide (x0<=1114111))) else (Vs.j1 false))) else (if 57343<x0 then (Vs.j1 (decide (x0<=1114111))) else (Vs.j1 false))
def Hx.f (x0 x1:Int):Option Int:=if (i64.wrap (x0-x1))<1 then (some 1) else (if 26<(i64.wrap (x0-x1)) then (some 26) else (some (i64.wrap (x0-x1))))
def Zc9.f (x0:Int):Option Int:=if x0<26 then (some (u8.wrap (i64.wrap (97+x0)))) else (some (u8.wrap (i64.wrap ((i64.wrap (48+x0))-26))))
def K7.l1:Nat->Int->Int->Option Int
 | 0,_,_=>none
 | ad+1,aa,ab=>if 455<aa then ((K7.l1 ad ) (i64.wrap (aa.tdiv 35)) (i64.wrap (ab+36))) else (if (i64.wrap (aa+38))≠0 then (some (i64.wrap (ab+(i64.wrap ((i64.wrap (36*aa)).tdiv (i64.wrap (aa+38))))))) else none)
def K7.j1 (x1 ac:Int):Option Int:=if x1≠0 then (K7.l1 K0 (i64.wrap (ac+(i64.wrap (ac.tdiv x1)))) 0) else none
def K7.f (x0 x1:Int) (x2:Bool):Option Int:=if x2=true then (K7.j1 x1 (i64.wrap (x0.tdiv 700))) else (K7.j1 x1 (i64.wrap (x0.tdiv 2)))
def Vl.j1 (x0:Int) (aa:Bool):Option Int:=if aa=true then (some (i64.wrap ((i64.wrap (u8.wrap (x0-48)))+26))) else (some (-1))
def Vl.j2 (x0:Int) (ab:Bool):Option Int:=if ab=true then (some (i64.wrap (u8.wrap (x0-65)))) else (if 48<=x0 then (Vl.j1 x0 (decide (x0<=57))) else (Vl.j1 x0 false))
def Vl.j3 (x0:Int) (ac:Bool):Option Int:=if ac=true then (some (i64.wrap (u8.wrap (x0-97)))) else (if 65<=x0 then (Vl.j2 x0 (decide (x0<=90))) else (Vl.j2 x0 false))
def Vl.f (x0:Int):Option Int:=if 97<=x0 then (Vl.j3 x0 (decide (x0<=122))) else (Vl.j3 x0 false)
def Yq.j1 (bl:Int->Int->Option (List Int×Int×Int)) (an a5:Int):Option (List Int×Int×Int):=bl a5 (i64.wrap (an+1))
def Yq.l1 (a0:List Int->Int->Int->Int->Int->Option (List Int×Int×Int)):Nat->List Int->Int->Int->Int->Int->Int->Int->List Int->Int->Option (List Int×Int×Int)
 | 0,_,_,_,_,_,_,_,_,_=>none
 | a2+1,aa,ag,ae,ac,ab,ao,a7,ad,ah=>if ((i64.wrap (ac+(i64.wrap (ao*ab)))).tmod (i64.wrap ((aa.length:Int)+1)))<ah then (if (0:Int)<=i64.wrap (ah-1)/\i64.wrap (ah-1)<(ad.length:Int) then (if (0:Int)<=ah/\ah<(ad.length:Int) then ((Yq.l1 a0 a2 aa ag ae ac ab ao a7) (ad.set ah.toNat (rd ad (i64.wrap (ah-1)))) (i64.wrap (ah-1))) else none) else none) else (if (0:Int)<=(i64.wrap (ac+(i64.wrap (ao*ab)))).tmod (i64.wrap ((aa.length:Int)+1))/\(i64.wrap (ac+(i64.wrap (ao*ab)))).tmod (i64.wrap ((aa.length:Int)+1))<(ad.length:Int) then (a0 (ad.set ((i64.wrap (ac+(i64.wrap (ao*ab)))).tmod (i64.wrap ((aa.length:Int)+1))).toNat (i32.wrap (i64.wrap (ag+(i64.wrap ((i64.wrap (ac+(i64.wrap (ao*ab)))).tdiv (i64.wrap ((aa.length:Int)+1)))))))) (i64.wrap (ae+1)) (i64.wrap (ag+(i64.wrap ((i64.wrap (ac+(i64.wrap (ao*ab)))).tdiv (i64.wrap ((aa.length:Int)+1)))))) (i64.wrap (((i64.wrap (ac+(i64.wrap (ao*ab)))).tmod (i64.wrap ((aa.length:Int)+1)))+1)) a7) else none)
def Yq.l2 (a0:List Int->Int->Int->Int->Int->Option (List Int×Int×Int)):Nat->ByteArray->List Int->Int->Int->Int->Int->Int->Int->Int->Option (List Int×Int×Int)
 | 0,_,_,_,_,_,_,_,_,_=>none
 | a3+1,x0,aa,ag,ai,aj,ae,ac,ab,ar=>if ae=(x0.size:Int) then (some (([]:List Int),ae,140)) else (if (0:Int)<=ae/\ae<(x0.size:Int) then ((Vl.f (bt x0 ae)).bind λao=>(if ao<0 then (some (([]:List Int),ae,140)) else (if 2147483647<(i64.wrap (ac+(i64.wrap (ao*ab)))) then (some (([]:List Int),ae,142)) else ((Hx.f ar aj).bind λbc=>(if ao<bc then ((K7.f (i64.wrap ((i64.wrap (ac+(i64.wrap (ao*ab))))-ai)) (i64.wrap ((aa.length:Int)+1)) (decide (ai=0))).bind λa7=>(if (i64.wrap ((aa.length:Int)+1))≠0 then (if 1114111<(i64.wrap (ag+(i64.wrap ((i64.wrap (ac+(i64.wrap (ao*ab)))).tdiv (i64.wrap ((aa.length:Int)+1)))))) then (some (([]:List Int),ae,142)) else ((Vs.f (i32.wrap (i64.wrap (ag+(i64.wrap ((i64.wrap (ac+(i64.wrap (ao*ab)))).tdiv (i64.wrap ((aa.length:Int)+1)))))))).bind λb2=>(if (!b2)=true then (some (([]:List Int),ae,143)) else (if aa.length+([0]).length<=most then (Yq.l1 a0 K0 aa ag ae ac ab ao a7 (aa++([0])) (i64.wrap (((aa++([0])).length:Int)-1))) else none)))) else none)) else (if 2147483647<(i64.wrap (ab*(i64.wrap (36-bc)))) then (some (([]:List Int),ae,142)) else ((Yq.l2 a0 a3 x0 aa ag ai aj) (i64.wrap (ae+1)) (i64.wrap (ac+(i64.wrap (ao*ab)))) (i64.wrap (ab*(i64.wrap (36-bc)))) (i64.wrap (ar+36))))))))) else none)
def Yq.l3:Nat->ByteArray->List Int->Int->Int->Int->Int->Option (List Int×Int×Int)
 | 0,_,_,_,_,_,_=>none
 | az+1,x0,aa,ax,ag,ai,aj=>if ax<(x0.size:Int) then (Yq.l2 (Yq.l3 az x0) K0 x0 aa ag ai aj ax ai 1 36) else (some (aa,0,0))
def Yq.j2 (x0:ByteArray) (af:List Int) (a1:Int):Option (List Int×Int×Int):=Yq.l3 K0 x0 af a1 128 0 72
def Yq.l4:Nat->ByteArray->Int->List Int->Int->Option (List Int×Int×Int)
 | 0,_,_,_,_=>none
 | a8+1,x0,al,af,ak=>if ak<al then (if (0:Int)<=ak/\ak<(x0.size:Int) then (if 127<(bt x0 ak) then (some (([]:List Int),ak,141)) else (if af.length+([i32.wrap (bt x0 ak)]).length<=most then ((Yq.l4 a8 x0 al) (af++([i32.wrap (bt x0 ak)])) (i64.wrap (ak+1))) else none)) else none) else (if 0<al then (Yq.j2 x0 af (i64.wrap (al+1))) else (Yq.j2 x0 af al))
def Yq.l5:Nat->ByteArray->Int->Int->Option (List Int×Int×Int)
 | 0,_,_,_=>none
 | a4+1,x0,al,an=>if an<(x0.size:Int) then (if (0:Int)<=an/\an<(x0.size:Int) then (if (bt x0 an)=45 then (Yq.j1 (Yq.l5 a4 x0) an an) else (Yq.j1 (Yq.l5 a4 x0) an al)) else none) else (Yq.l4 K0 x0 al ([]:List Int) 0)
def Yq.f (x0:ByteArray):Option (List Int×Int×Int):=Yq.l5 K0 x0 0 0
def Z5.j2 (bo:Int->Int->Option (ByteArray×Int×Int)) (ae a9:Int):Option (ByteArray×Int×Int):=bo a9 (i64.wrap (ae+1))
def Z5.j3 (bo:Int->Int->Option (ByteArray×Int×Int)) (x0:List Int) (ab ae:Int) (bi:Bool):Option (ByteArray×Int×Int):=if bi=true then (Z5.j2 bo ae (i64.wrap (rd x0 ae))) else (Z5.j2 bo ae ab)
def Z5.j4 (a5:List Int->Int->Int->Int->Int->Option (ByteArray×Int×Int)) (ac:Int) (ax:List Int) (ba bb bc:Int):Option (ByteArray×Int×Int):=a5 ax ba bb bc (i64.wrap (ac+1))
def Z5.l1 (a5:List Int->Int->Int->Int->Int->Option (ByteArray×Int×Int)):Nat->List Int->Int->Int->Int->Int->List Int->Int->Int->Option (ByteArray×Int×Int)
 | 0,_,_,_,_,_,_,_,_=>none
 | bn+1,aa,ai,af,ac,ap,an,aw,az=>(Hx.f az ai).bind λbp=>(if aw<bp then ((Zc9.f aw).bind λbt=>(if an.length+([bt]).length<=most then ((K7.f ap (i64.wrap (af+1)) (decide (af=(aa.length:Int)))).bind λb6=>(Z5.j4 a5 ac (an++([bt])) 0 b6 (i64.wrap (af+1)))) else none)) else (if (i64.wrap (36-bp))≠0 then ((Zc9.f (i64.wrap (bp+((i64.wrap (aw-bp)).tmod (i64.wrap (36-bp)))))).bind λbu=>(if an.length+([bu]).length<=most then ((Z5.l1 a5 bn aa ai af ac ap) (an++([bu])) (i64.wrap ((i64.wrap (aw-bp)).tdiv (i64.wrap (36-bp)))) (i64.wrap (az+36))) else none)) else none))
def Z5.j5 (a5:List Int->Int->Int->Int->Int->Option (ByteArray×Int×Int)) (x0 aa:List Int) (ab:Int) (ag:List Int) (ai af ac ap:Int):Option (ByteArray×Int×Int):=if (i64.wrap (rd x0 ac))≠ab then (Z5.j4 a5 ac ag ap ai af) else (Z5.l1 a5 K0 aa ai af ac ap ag ap 36)
def Z5.l2 (a6:List Int->Int->Int->Int->Int->Option (ByteArray×Int×Int)):Nat->List Int->List Int->Int->List Int->Int->Int->Int->Int->Option (ByteArray×Int×Int)
 | 0,_,_,_,_,_,_,_,_=>none
 | a7+1,x0,aa,ab,ag,ar,ai,af,ac=>if ac<(x0.length:Int) then (if (0:Int)<=ac/\ac<(x0.length:Int) then (if (i64.wrap (rd x0 ac))<ab then (if 2147483647<(i64.wrap (ar+1)) then (some ((⟨#[]⟩:ByteArray),0,142)) else (Z5.j5 (Z5.l2 a6 a7 x0 aa ab) x0 aa ab ag ai af ac (i64.wrap (ar+1)))) else (Z5.j5 (Z5.l2 a6 a7 x0 aa ab) x0 aa ab ag ai af ac ar)) else none) else (a6 ag (i64.wrap (ab+1)) (i64.wrap (ar+1)) ai af)
def Z5.l3 (a6:List Int->Int->Int->Int->Int->Option (ByteArray×Int×Int)):Nat->List Int->List Int->List Int->Int->Int->Int->Int->Int->Int->Option (ByteArray×Int×Int)
 | 0,_,_,_,_,_,_,_,_,_=>none
 | a8+1,x0,aa,ad,ao,ak,al,ah,ab,ae=>if ae<(x0.length:Int) then (if (0:Int)<=ae/\ae<(x0.length:Int) then (if ao<=(i64.wrap (rd x0 ae)) then (Z5.j3 (Z5.l3 a6 a8 x0 aa ad ao ak al ah) x0 ab ae (decide ((i64.wrap (rd x0 ae))<ab))) else (Z5.j3 (Z5.l3 a6 a8 x0 aa ad ao ak al ah) x0 ab ae false)) else none) else (if 2147483647<(i64.wrap (ak+(i64.wrap ((i64.wrap (ab-ao))*(i64.wrap (ah+1)))))) then (some ((⟨#[]⟩:ByteArray),0,142)) else (Z5.l2 a6 K0 x0 aa ab ad (i64.wrap (ak+(i64.wrap ((i64.wrap (ab-ao))*(i64.wrap (ah+1)))))) al ah 0))
def Z5.l4:Nat->List Int->List Int->List Int->Int->Int->Int->Int->Option (ByteArray×Int×Int)
 | 0,_,_,_,_,_,_,_=>none
 | a1+1,x0,aa,ad,ao,ak,al,ah=>if ah<(x0.length:Int) then (Z5.l3 (Z5.l4 a1 x0 aa) K0 x0 aa ad ao ak al ah 1114112 0) else ((Yq.f (Zbe ad)).bind λck=>(if ck.2.2≠0 then (some ((⟨#[]⟩:ByteArray),0,142)) else (some (Zbe ad,0,0))))
def Zas.l1:Nat->List Int->List Int->Int->Option Bool
 | 0,_,_,_=>none
 | ab+1,x0,x1,aa=>if aa<(x0.length:Int) then (if (0:Int)<=aa/\aa<(x0.length:Int) then (if (0:Int)<=aa/\aa<(x1.length:Int) then (if (rd x0 aa)≠(rd x1 aa) then (some false) else ((Zas.l1 ab x0 x1) (i64.wrap (aa+1)))) else none) else none) else (some true)
def Zas.f (x0 x1:List Int):Option Bool:=if (x0.length:Int)≠(x1.length:Int) then (some false) else (Zas.l1 K0 x0 x1 0)
end
section

section
variable {α:Type} (key:α->Int)
def Zl4 (x:α):List α->List α
 | []=>[x]
 | y::t=>if key x<=key y then x::y::t else y::Zl4 x t
def Vw:List α->List α
 | []=>[]
 | x::t=>Zl4 key x (Vw t)
def Srt:List α->Prop
 | []=>True
 | x::t=>(∀ y∈t,key x<=key y)/\Srt t
def Feq (a b:List α):Prop:=∀ c,a.filter (λx=>decide (key x=c))=b.filter (λx=>decide (key x=c))
theorem Feq.refl (a:List α):Feq key a a:=λ_=>rfl
theorem Feq.symm {a b:List α} (h:Feq key a b):Feq key b a:=λc=>(h c).symm
theorem Feq.trans {a b c:List α} (h:Feq key a b) (g:Feq key b c):Feq key a c:=λd=>(h d).trans (g d)
theorem Feq.app {a a' b b':List α} (h:Feq key a a') (g:Feq key b b'):Feq key (a++b) (a'++b'):=λc=>by rw [List.filter_append,List.filter_append,h c,g c]
theorem Feq.mem {a b:List α} (h:Feq key a b) {x:α} (hx:x∈a):x∈b:=by
 have:x∈a.filter (λy=>decide (key y=key x)):=List.mem_filter.2 ⟨hx,by simp⟩;rw [h] at this;exact (List.mem_filter.1 this).1
theorem Z0k {x y:α} {t:List α}:y∈Zl4 key x t↔y=x\/y∈t:=by
 induction t with
 | nil=>simp [Zl4]
 | cons z t ih=>
  unfold Zl4;split
  ·simp
  ·simp only [List.mem_cons,ih]
   constructor
   ·rintro (h | h | h)<;>simp [h]
   ·rintro (h | h | h)<;>simp [h]
theorem Zuu {x:α}:∀ {t:List α},Srt key t->Srt key (Zl4 key x t)
 | [],_=>⟨λy hy=>(by cases hy),trivial⟩
 | y::t,h=>by
  unfold Zl4
  split
  ·rename_i c
   refine ⟨λz hz=>?_,h⟩
   rcases List.mem_cons.1 hz with rfl | hz
   ·exact c
   ·exact Int.le_trans c (h.1 z hz)
  ·rename_i c
   refine ⟨λz hz=>?_,Zuu h.2⟩
   rcases (Z0k key).1 hz with rfl | hz
   ·omega
   ·exact h.1 z hz
theorem Zt6 (x:α):∀ (t:List α),Feq key (Zl4 key x t) (x::t)
 | [],_=>rfl
 | y::t,c=>by
  unfold Zl4
  split
  ·rfl
  ·rename_i h
   have ih:=Zt6 x t c
   simp only [List.filter_cons] at ih ⊢
   rw [ih]
   by_cases c1:key y=c
   ·have:¬ key x=c:=by omega
    simp [c1,this]
   ·simp [c1]
theorem Zch:∀ (l:List α),Srt key (Vw key l)
 | []=>trivial
 | _::t=>Zuu key (Zch t)
theorem Zby:∀ (l:List α),Feq key (Vw key l) l
 | [],_=>rfl
 | x::t,c=>by
  rw [Vw,Zt6 key x _ c,List.filter_cons,List.filter_cons,Zby t c]
theorem Zh8:∀ {a b:List α},Srt key a->Srt key b->Feq key a b->a=b
 | [],[],_,_,_=>rfl
 | [],y::b,_,_,h=>by have:=Feq.mem key (Feq.symm key h) (List.mem_cons_self (a:=y) (l:=b));cases this
 | x::a,[],_,_,h=>by have:=Feq.mem key h (List.mem_cons_self (a:=x) (l:=a));cases this
 | x::a,y::b,ha,hb,h=>by
  have h1:key y<=key x:=by
   rcases List.mem_cons.1 (Feq.mem key h (List.mem_cons_self (a:=x) (l:=a))) with e | e
   ·rw [e];exact Int.le_refl _
   ·exact hb.1 x e
  have h2:key x<=key y:=by
   rcases List.mem_cons.1 (Feq.mem key (Feq.symm key h) (List.mem_cons_self (a:=y) (l:=b))) with e | e
   ·rw [e];exact Int.le_refl _
   ·exact ha.1 y e
  have hk:key x=key y:=by omega
  have h3:=h (key x);rw [List.filter_cons,List.filter_cons,if_pos (by simp),if_pos (by simp [hk])] at h3;have hxy:x=y:=(List.cons.inj h3).1;subst hxy;rw [Zh8 ha.2 hb.2 (λc=>by
   by_cases e:key x=c
   ·subst e;exact (List.cons.inj h3).2
   ·have:=h c
    rw [List.filter_cons,List.filter_cons,if_neg (by simp [e]),if_neg (by simp [e])] at this;exact this)]
theorem Zmv {a b:List α} (h:Feq key a b):Vw key a=Vw key b:=
 Zh8 key (Zch key a) (Zch key b) (Feq.trans key (Zby key a) (Feq.trans key h (Feq.symm key (Zby key b))))
theorem Zk9 {a b:List α} (h:Srt key b) (g:Feq key a b):Vw key a=b:=
 Zh8 key (Zch key a) h (Feq.trans key (Zby key a) g)
theorem Zr5 {l:List α} {x:α} (h:x∈Vw key l):x∈l:=Feq.mem key (Zby key l) h
theorem Zb0:∀ (l:List α),(Vw key l).length=l.length:=by
 have ins:∀ (x:α) (t:List α),(Zl4 key x t).length=t.length+1:=by
  intro x t
  induction t with
  | nil=>rfl
  | cons y t ih=>unfold Zl4;split<;>simp [ih]
 intro l
 induction l with
 | nil=>rfl
 | cons x t ih=>rw [Vw,ins,ih];rfl
theorem Zlz {x y:List α} (h:∀ a∈x,∀ b∈y,key b<key a):Feq key (x++y) (y++x):=by
 intro c;rw [List.filter_append,List.filter_append];by_cases e:x.filter (λz=>decide (key z=c))=[]
 ·rw [e];simp
 ·obtain ⟨a,ha⟩:=List.exists_mem_of_ne_nil _ e
  have ha:=List.mem_filter.1 ha;have:y.filter (λz=>decide (key z=c))=[]:=by
   rw [List.filter_eq_nil_iff];intro b hb;have:=h a ha.1 b hb;have e2:key a=c:=by simpa using ha.2
   simp;omega
  rw [this];simp
theorem Zla:∀ {a b:List α},Srt key a->Srt key b->(∀ x∈a,∀ y∈b,key x<=key y)->Srt key (a++b)
 | [],_,_,hb,_=>hb
 | x::a,b,ha,hb,h=>by
  refine ⟨λz hz=>?_,Zla ha.2 hb λu hu v hv=>h u (List.mem_cons_of_mem _ hu) v hv⟩
  rcases List.mem_append.1 hz with hz | hz
  ·exact ha.1 z hz
  ·exact h x (List.mem_cons_self ..) z hz
theorem Zaj {b:List α}:∀ {a:List α},Srt key (a++b)->Srt key a/\Srt key b/\∀ x∈a,∀ y∈b,key x<=key y
 | [],h=>⟨trivial,h,λx hx=>(by cases hx)⟩
 | x::a,h=>by
  obtain ⟨h1,h2,h3⟩:=Zaj h.2
  refine ⟨⟨λy hy=>h.1 y (List.mem_append_left _ hy),h1⟩,h2,λu hu v hv=>?_⟩
  rcases List.mem_cons.1 hu with rfl | hu
  ·exact h.1 v (List.mem_append_right _ hv)
  ·exact h3 u hu v hv

def Zjx (acc:List α):List α->List α
 | []=>Vw key acc
 | x::t=>if key x=0 then Vw key acc++x::Zjx [] t else Zjx (acc++[x]) t
def Zjy (l:List α):List α:=Zjx key [] l
theorem Zml:∀ (s:List α) (acc l:List α),(∀ x∈s,key x≠0)->Zjx key acc (s++l)=Zjx key (acc++s) l
 | [],acc,l,_=>by simp
 | x::s,acc,l,h=>by
  rw [List.cons_append,Zjx,if_neg (h x (List.mem_cons_self ..)),Zml s _ l λy hy=>h y (List.mem_cons_of_mem _ hy)]
  simp
theorem Zmk:∀ (l acc:List α),(Zjx key acc l).length=acc.length+l.length
 | [],acc=>by simp [Zjx,Zb0]
 | x::t,acc=>by
  unfold Zjx
  split
  ·simp [Zb0,Zmk t]
  ·simp [Zmk t];omega
theorem Z0n (l:List α):(Zjy key l).length=l.length:=by simp [Zjy,Zmk]
theorem Zrp {a x y b:List α} (h1:Srt key (a++x)) (h2:Srt key (y++b)) (h3:∀ u∈x,∀ v∈y,key v<key u) (h4:∀ u∈a,∀ v∈b,key u<=key v):
  Vw key ((a++x)++(y++b))=Vw key (a++y)++Vw key (x++b):=by
 obtain ⟨_,_,h1c⟩:=Zaj key h1;obtain ⟨_,_,h2c⟩:=Zaj key h2;refine Zk9 key (Zla key (Zch key _) (Zch key _) λu hu v hv=>?_) ?_
 ·rcases List.mem_append.1 (Zr5 key hu) with hu | hu<;>rcases List.mem_append.1 (Zr5 key hv) with hv | hv
  ·exact h1c u hu v hv
  ·exact h4 u hu v hv
  ·exact Int.le_of_lt (h3 v hv u hu)
  ·exact h2c u hu v hv
 ·refine Feq.trans key ?_ (Feq.app key (Feq.symm key (Zby key (a++y))) (Feq.symm key (Zby key (x++b))))
  have:=Feq.app key (Feq.app key (Feq.refl key a) (Zlz key h3)) (Feq.refl key b);simpa [List.append_assoc] using this
theorem Zro {u:α} {y b:List α} (h2:Srt key (y++b)) (h3:∀ v∈y,key v<key u) (h4:∀ v∈b,key u<=key v):Vw key (u::(y++b))=y++u::b:=by
 obtain ⟨hy,hb,hc⟩:=Zaj key h2;refine Zk9 key (Zla key hy ⟨h4,hb⟩ λv hv w hw=>?_) ?_
 ·rcases List.mem_cons.1 hw with rfl | hw
  ·exact Int.le_of_lt (h3 v hv)
  ·exact hc v hv w hw
 ·have:=Feq.app key (Zlz key (x:=[u]) (y:=y) λa ha v hv=>by rw [List.mem_singleton.1 ha];exact h3 v hv) (Feq.refl key b)
  simpa using this
theorem Zl9 {v:α} {a x:List α} (h1:Srt key (a++x)) (h3:∀ u∈x,key v<key u) (h4:∀ u∈a,key u<=key v):Vw key (a++x++[v])=a++v::x:=by
 obtain ⟨ha,hx,hc⟩:=Zaj key h1;refine Zk9 key (Zla key ha ⟨λu hu=>Int.le_of_lt (h3 u hu),hx⟩ λu hu w hw=>?_) ?_
 ·rcases List.mem_cons.1 hw with rfl | hw
  ·exact h4 u hu
  ·exact hc u hu w hw
 ·have:=Feq.app key (Feq.refl key a) (Zlz key (x:=x) (y:=[v]) λu hu w hw=>by rw [List.mem_singleton.1 hw];exact h3 u hu)
  simpa [List.append_assoc] using this
theorem Zto (a b:List α):Vw key (Vw key a++b)=Vw key (a++b):=Zmv key (Feq.app key (Zby key a) (Feq.refl key b))
theorem Zg7 {a:List α} (h:Srt key a):Vw key a=a:=Zk9 key h (Feq.refl key a)
end
end
section
open Go.IntKind (i8 i16 i32 i64 u8 u16 u32 u64)
open Go.RowKit

theorem w32 {x:Int} (h0:-2147483648<=x) (h1:x<=2147483647):i32.wrap x=x:=by rw [IntKind.wrap_i32];omega
theorem w64 {x:Int} (h0:-9223372036854775808<=x) (h1:x<=9223372036854775807):i64.wrap x=x:=by rw [IntKind.wrap_i64];omega
theorem w16 {x:Int} (h0:0<=x) (h1:x<65536):u16.wrap x=x:=by rw [IntKind.wrap_u16];omega

def Z2:Nat:=1099511627776
theorem mid {α:Type} [Inhabited α] {xs pre t:List α} {x:α} (e:xs=pre++x::t):rd xs (pre.length:Int)=x/\((0:Int)<=(pre.length:Int)/\(pre.length:Int)<(xs.length:Int)):=by
 subst e;refine ⟨by simp [rd],by omega,by simp;omega⟩
theorem nxt {α:Type} {xs pre t:List α} {x:α} (hx:xs.length<=Z2) (e:xs=pre++x::t):i64.wrap ((pre.length:Int)+1)=(pre.length:Int)+1:=by
 have:xs.length=pre.length+(t.length+1):=by rw [e];simp
 unfold Z2 at hx;exact w64 (by omega) (by omega)
theorem Xu {α σ β:Type} (L:Nat->Int->σ->Option β) (xs:List α) (Spec:List α->List α->σ->Option β->Prop)
  (hnil:∀ s k,Spec xs [] s (L (k+1) (xs.length:Int) s))
  (hcons:∀ pre x t s k,xs=pre++x::t->(∀ s',Spec (pre++[x]) t s' (L k ((pre.length:Int)+1) s'))->Spec pre (x::t) s (L (k+1) (pre.length:Int) s)):
  ∀ s k,xs.length<k->Spec [] xs s (L k 0 s):=by
 have key:∀ t pre s k,xs=pre++t->t.length<k->Spec pre t s (L k (pre.length:Int) s):=by
  intro t
  induction t with
  | nil=>
   intro pre s k e hk;obtain ⟨k,rfl⟩:∃ j,k=j+1:=⟨k-1,by simp at hk;omega⟩;have:xs=pre:=by rw [e];simp
   subst this;exact hnil s k
  | cons x t ih=>
   intro pre s k e hk;obtain ⟨k,rfl⟩:∃ j,k=j+1:=⟨k-1,by simp at hk;omega⟩;refine hcons pre x t s k e (λs'=>?_);have:=ih (pre++[x]) s' k (by rw [e];simp) (by simp at hk;omega);simpa using this
 intro s k hk;have:=key xs [] s k rfl hk;simpa using this
theorem ltK {n:Nat} (h:n<=Z2):n<K0:=by unfold Z2 at h;unfold K0;omega

def Zbp (r:Int) (b:Bool):Prop:=(b=true/\r=-1)\/(b=false/\0<=r)
theorem Zbp.val {r:Int} {b:Bool} (h:Zbp r b):(decide (0<=r))=!b:=by
 rcases h with ⟨rfl,rfl⟩ | ⟨rfl,h⟩<;>simp [*]

def Vn {α:Type} (lo hi:α->Int) (may:α->Bool):Int->List α->Bool
 | _,[]=>true
 | last,x::t=>decide (last<lo x)&&decide (lo x<=hi x)&&decide (hi x<=1114111)&&may x&&Vn lo hi may (hi x) t
theorem Ka {α:Type} {lo hi:α->Int} {may:α->Bool} {last:Int} {x:α} {t:List α} (h:lo x<=last\/hi x<lo x\/1114111<hi x\/may x=false):Vn lo hi may last (x::t)=false:=by
 rcases h with h | h | h | h
 ·simp [Vn,show ¬ last<lo x by omega]
 ·simp [Vn,show ¬ lo x<=hi x by omega]
 ·simp [Vn,show ¬ hi x<=1114111 by omega]
 ·simp [Vn,h]
theorem Zbv {α:Type} {lo hi:α->Int} {may:α->Bool} {last:Int} {x:α} {t:List α} (h1:¬ lo x<=last) (h2:¬ hi x<lo x) (h3:¬ 1114111<hi x) (h4:may x=true):Vn lo hi may last (x::t)=Vn lo hi may (hi x) t:=by
 simp [Vn,h4,show last<lo x by omega,show lo x<=hi x by omega,show hi x<=1114111 by omega]

def Zap (c:Int):Bool:=decide (97<=c/\c<=122)||decide (65<=c/\c<=90)
theorem Zv2:∀ n:Fin 256,(decide (97<=bOr .u8 (n.val:Int) 32)&&decide (bOr .u8 (n.val:Int) 32<=122))=Zap (n.val:Int):=by decide +kernel
def Zmc (s:ByteArray):Bool:=decide (1<=s.size)&&decide (s.size<=32)&&(Vx s).all Zap
theorem Zin {s:ByteArray} {c:Int} (h:c∈Vx s):∃ n:Fin 256,c=(n.val:Int):=by
 simp only [Vx,List.mem_map] at h;obtain ⟨b,_,rfl⟩:=h;exact ⟨⟨b.toNat,b.toNat_lt⟩,rfl⟩
theorem Zlr (s:ByteArray) (i:Int):bt s i=rd (Vx s) i:=by
 simp only [bt,rd,Vx,List.getD_eq_getElem?_getD,List.getElem?_map,Array.getElem?_toList,Array.getD_eq_getD_getElem?];cases s.data[i.toNat]?<;>rfl
theorem Zrl (s:ByteArray) (hs:s.size<=32):Qk.l1 K0 s 0=some ((Vx s).all Zap):=by
 have hl:(Vx s).length<=Z2:=by rw [Vb];unfold Z2;omega
 refine Xu (λk i (_:Unit)=>Qk.l1 k s i) (Vx s) (λpre t _ o=>o=some (t.all Zap)) ?_ ?_ () K0 (ltK hl)
 ·intro _ k
  simp only [Qk.l1,if_neg (show ¬ ((Vx s).length:Int)<((Vx s).length:Int) by omega),List.all_nil]
 ·intro pre x t _ k e ih
  obtain ⟨h1,h2⟩:=mid e;obtain ⟨n,hn⟩:=Zin (s:=s) (c:=x) (by rw [e];simp);have hx:=Zv2 n;rw [<- hn] at hx;simp only [Qk.l1,if_pos h2.2,if_pos h2,h1,Qk.j1,nxt hl e,List.all_cons];by_cases c1:bOr .u8 x 32<97
  ·have:Zap x=false:=by rw [<- hx];simp [show ¬ 97<=bOr .u8 x 32 by omega]
   simp [c1,this]
  ·by_cases c2:122<bOr .u8 x 32
   ·have:Zap x=false:=by rw [<- hx];simp [show ¬ bOr .u8 x 32<=122 by omega]
    simp [c1,c2,this]
   ·have:Zap x=true:=by rw [<- hx];simp [show 97<=bOr .u8 x 32 by omega,show bOr .u8 x 32<=122 by omega]
    simp only [if_neg c1,c2,decide_false,Bool.false_eq_true,if_false,this,Bool.true_and];exact ih ()
theorem Zvw (s:ByteArray):Qk.f s=some (Zmc s):=by
 unfold Qk.f Qk.j2 Zmc;by_cases h1:(s.size:Int)<1
 ·rw [if_pos h1,if_pos rfl];simp [show ¬ 1<=s.size by omega]
 ·by_cases h2:(32:Int)<s.size
  ·rw [if_neg h1,if_pos (by simpa using h2)];simp [show ¬ s.size<=32 by omega]
  ·rw [if_neg h1,if_neg (by simpa using h2),Zrl s (by omega)]
   simp [show 1<=s.size by omega,show s.size<=32 by omega]
theorem Zs5 (s:ByteArray) (hs:s.size<=32):X9.l1 K0 s 0=some ((Vx s).all Zap):=by
 have hl:(Vx s).length<=Z2:=by rw [Vb];unfold Z2;omega
 refine Xu (λk i (_:Unit)=>X9.l1 k s i) (Vx s) (λpre t _ o=>o=some (t.all Zap)) ?_ ?_ () K0 (ltK hl)
 ·intro _ k
  simp only [X9.l1,Vb,if_neg (show ¬ (s.size:Int)<(s.size:Int) by omega),List.all_nil]
 ·intro pre x t _ k e ih
  obtain ⟨h1,h2⟩:=mid e;have h3:=h2;rw [Vb] at h3;simp only [X9.l1,if_pos h3.2,if_pos h3,Zlr,h1,X9.j1,nxt hl e,List.all_cons];have ih:=ih ();by_cases c1:97<=x
  ·by_cases c2:x<=122
   ·have:Zap x=true:=by simp [Zap,c1,c2]
    simpa [c1,c2,this] using ih
   ·by_cases c3:65<=x
    ·have:Zap x=false:=by simp [Zap];omega
     simp [c1,c2,c3,this,show ¬ x<=90 by omega]
    ·omega
  ·by_cases c3:65<=x
   ·by_cases c4:x<=90
    ·have:Zap x=true:=by simp [Zap,c3,c4]
     simpa [c1,c3,c4,this] using ih
    ·have:Zap x=false:=by simp [Zap];omega
     simp [c1,c3,c4,this]
   ·have:Zap x=false:=by simp [Zap];omega
    simp [c1,c3,this]
theorem Zyi (s:ByteArray):X9.f s=some (Zmc s):=by
 unfold X9.f X9.j2 Zmc;by_cases h1:(s.size:Int)<1
 ·rw [if_pos h1,if_pos rfl];simp [show ¬ 1<=s.size by omega]
 ·by_cases h2:(32:Int)<s.size
  ·rw [if_neg h1,if_pos (by simpa using h2)];simp [show ¬ s.size<=32 by omega]
  ·rw [if_neg h1,if_neg (by simpa using h2),Zs5 s (by omega)]
   simp [show 1<=s.size by omega,show s.size<=32 by omega]

def Zf3:List ByteArray->ByteArray->Bool
 | [],_=>false
 | x::t,y=>decide (x=y)||Zf3 t y
theorem Zlb {α:Type} {xs pre t:List α} (e:xs=pre++t):sub xs 0 (pre.length:Int)=pre:=by
 subst e;simp [sub]
theorem Zx1 (l:List ByteArray) (hl:l.length<=Z2) (y:ByteArray):∃ r,Xk.f l y=some r/\Zbp r (!Zf3 l y):=by
 refine Xu (λk i (_:Unit)=>Xk.l1 k l y i) l (λpre t _ o=>∃ r,o=some r/\Zbp r (!Zf3 t y)) ?_ ?_ () K0 (ltK hl)
 ·intro _ k
  exact ⟨-1,by simp only [Xk.l1,if_neg (show ¬ (l.length:Int)<(l.length:Int) by omega)],.inl ⟨rfl,rfl⟩⟩
 ·intro pre x t _ k e ih
  obtain ⟨h1,h2⟩:=mid e;simp only [Xk.l1,if_pos h2.2,if_pos h2,h1,nxt hl e];by_cases c:y=x
  ·exact ⟨pre.length,by rw [if_pos c],.inr ⟨by simp [Zf3,c],by omega⟩⟩
  ·rw [if_neg c]
   obtain ⟨r,h3,h4⟩:=ih ();refine ⟨r,h3,?_⟩;have:Zf3 (x::t) y=Zf3 t y:=by simp [Zf3,Ne.symm c]
   rwa [this]
theorem Zq6 (l:List ByteArray) (hl:l.length<=Z2) (y:ByteArray):K9.f l y=some (Zf3 l y):=by
 obtain ⟨r,h1,h2⟩:=Zx1 l hl y;simp only [K9.f,h1,Option.bind_some,h2.val,Bool.not_not]
def Zg6:List ByteArray->List ByteArray->Bool
 | _,[]=>true
 | pre,s::t=>Zmc s&&!Zf3 pre s&&Zg6 (pre++[s]) t
def Zmd (l:List ByteArray):Bool:=decide (l.length<=64)&&Zg6 [] l
theorem Zyj (l:List ByteArray):∃ r,Vk.f l=some r/\Zbp r (Zmd l):=by
 unfold Vk.f Zmd;by_cases h:(64:Int)<l.length
 ·exact ⟨64,by rw [if_pos h],.inr ⟨by simp [show ¬ l.length<=64 by omega],by decide⟩⟩
 ·rw [if_neg h]
  have hl:l.length<=Z2:=by unfold Z2;omega
  simp only [show l.length<=64 by omega,decide_true,Bool.true_and];refine Xu (λk i (_:Unit)=>Vk.l1 k l i) l (λpre t _ o=>∃ r,o=some r/\Zbp r (Zg6 pre t)) ?_ ?_ () K0 (ltK hl)
  ·intro _ k
   exact ⟨-1,by simp only [Vk.l1,if_neg (show ¬ (l.length:Int)<(l.length:Int) by omega)],.inl ⟨rfl,rfl⟩⟩
  ·intro pre x t _ k e ih
   obtain ⟨h1,h2⟩:=mid e;have hp:pre.length<=Z2:=by rw [e] at hl;simp at hl;omega
   simp only [Vk.l1,if_pos h2.2,if_pos h2,h1,Zvw,Option.bind_some,Vk.j1,nxt hl e,Zg6]
   cases c:Zmc x with
   | false=>exact ⟨pre.length,by simp,.inr ⟨by simp,by omega⟩⟩
   | true=>
    simp only [Bool.not_true,Bool.false_eq_true,if_false];rw [if_pos ⟨by decide,h2.1,by omega⟩,Zlb e,Zq6 pre hp,Option.bind_some]
    cases c2:Zf3 pre x with
    | true=>exact ⟨pre.length,by simp,.inr ⟨by simp,by omega⟩⟩
    | false=>simpa using ih ()
theorem Zp7 (l pre t:List ByteArray) (x:ByteArray) (hl:l.length<=Z2) (e:l=pre++x::t) (go:Int->Option Int):
  Q7.l1 go K0 l (pre.length:Int) 0=if Zf3 pre x=true then some (pre.length:Int) else go (i64.wrap ((pre.length:Int)+1)):=by
 have hp:pre.length<=Z2:=by rw [e] at hl;simp at hl;omega
 obtain ⟨h1,h2⟩:=mid e;refine Xu (λk i (_:Unit)=>Q7.l1 go k l (pre.length:Int) i) pre (λ_ u _ o=>o=if Zf3 u x=true then some (pre.length:Int) else go (i64.wrap ((pre.length:Int)+1))) ?_ ?_ () K0 (ltK hp)
 ·intro _ k
  simp only [Q7.l1,Zlb e,if_neg (show ¬ (pre.length:Int)<(pre.length:Int) by omega)];simp [Zf3]
 ·intro p y u _ k e2 ih
  obtain ⟨h3,h4⟩:=mid e2;simp only [Q7.l1,Zlb e,if_pos h4.2,if_pos h4,h3,h1,nxt hp e2];by_cases c:y=x
  ·simp [Zf3,c]
  ·rw [if_neg c]
   have:Zf3 (y::u) x=Zf3 u x:=by simp [Zf3,c]
   rw [this];exact ih ()
theorem Zp6 (l:List ByteArray):∃ r,Q7.f l=some r/\Zbp r (Zmd l):=by
 unfold Q7.f Zmd;by_cases h:(64:Int)<l.length
 ·exact ⟨64,by rw [if_pos h],.inr ⟨by simp [show ¬ l.length<=64 by omega],by decide⟩⟩
 ·rw [if_neg h]
  have hl:l.length<=Z2:=by unfold Z2;omega
  simp only [show l.length<=64 by omega,decide_true,Bool.true_and];refine Xu (λk i (_:Unit)=>Q7.l2 k l i) l (λpre t _ o=>∃ r,o=some r/\Zbp r (Zg6 pre t)) ?_ ?_ () K0 (ltK hl)
  ·intro _ k
   exact ⟨-1,by simp only [Q7.l2,if_neg (show ¬ (l.length:Int)<(l.length:Int) by omega)],.inl ⟨rfl,rfl⟩⟩
  ·intro pre x t _ k e ih
   obtain ⟨h1,h2⟩:=mid e;simp only [Q7.l2,if_pos h2.2,if_pos h2,h1,Zyi,Option.bind_some,Zg6]
   cases c:Zmc x with
   | false=>exact ⟨pre.length,by simp,.inr ⟨by simp,by omega⟩⟩
   | true=>
    simp only [Bool.not_true,Bool.false_eq_true,if_false];rw [if_pos ⟨by decide,h2.1,by omega⟩,Zp7 l pre t x hl e,nxt hl e]
    cases c2:Zf3 pre x with
    | true=>exact ⟨pre.length,by simp,.inr ⟨by simp,by omega⟩⟩
    | false=>simpa using ih ()
end
section
open Go.IntKind (i8 i16 i32 i64 u8 u16 u32 u64)
open Go.RowKit

theorem Zdw {A B:List Int} {x i:Int} (h:i=(A.length:Int)):rd (A++x::B) i=x:=by subst h;simp [rd]
theorem Ztb {A B:List Int} {u v i:Int} (h:i=(A.length:Int)+1):rd (A++u::v::B) i=v:=by
 have:=Zdw (A:=A++[u]) (B:=B) (x:=v) (i:=i) (by simp;omega);simpa using this
theorem Z2m {A C D:List Int} {x y i:Int} (h:i=(A.length:Int)+1+C.length):rd (A++x::(C++y::D)) i=y:=by
 have:=Zdw (A:=A++x::C) (B:=D) (x:=y) (i:=i) (by simp;omega);simpa using this
theorem Zj3 {A B:List Int} {x y:Int} {n:Nat} (h:n=A.length):(A++x::B).set n y=A++y::B:=by
 subst h;rw [List.set_append_right _ _ (Nat.le_refl _)];simp
theorem Zqc {A B:List Int} {u v y:Int} {n:Nat} (h:n=A.length+1):(A++u::v::B).set n y=A++u::y::B:=by
 have:=Zj3 (A:=A++[u]) (B:=B) (x:=v) (y:=y) (n:=n) (by simp [h]);simpa using this
theorem Z0x {A C D:List Int} {x y z:Int} {n:Nat} (h:n=A.length+1+C.length):(A++x::(C++y::D)).set n z=A++x::(C++z::D):=by
 have:=Zj3 (A:=A++x::C) (B:=D) (x:=y) (y:=z) (n:=n) (by simp [h];omega);simpa using this
theorem Zxy {x:Int} (h0:0<=x) (h1:x<4611686018427387904):i64.wrap ((u64.wrap (i64.wrap x)).fdiv (2^(min (1:Int).toNat u64.bits)))=x/2:=by
 rw [w64 (x:=x) (by omega) (by omega),show u64.wrap x=x from by rw [IntKind.wrap_u64];omega];have:(2:Int)^(min (1:Int).toNat u64.bits)=2:=by decide
 rw [this,Int.fdiv_eq_ediv_of_nonneg _ (by omega)];exact w64 (by omega) (by omega)

def cI (a b:Int):Int:=if a<b then -1 else if b<a then 1 else 0
theorem Zkd {a b:Int}:cI a b<0↔a<b:=by
 unfold cI;by_cases h:a<b
 ·rw [if_pos h];omega
 ·rw [if_neg h];by_cases h2:b<a
  ·rw [if_pos h2];omega
  ·rw [if_neg h2];omega
def Cmp (t:Option Tbs) (key:Int->Int):Prop:=∀ a b,J9.f a b t=some (cI (key a) (key b))

section
variable {t:Option Tbs} {key:Int->Int}
theorem Zvu (hc:Cmp t key) (go:List Int->Int->Option (List Int)) (P:List Int) (v i:Int):∀ (n:Nat) (S rest:List Int) (k:Nat),S.length=n->n<k->P.length+n+1+rest.length<=Z2->
  ∃ S1 S2,S=S1++S2/\(∀ u∈S2,key v<key u)/\(∀ S' u,S1=S'++[u]->¬ key v<key u)/\
   Zg.l1 go k t (P.length:Int) i (P++(S++v::rest)) ((P.length:Int)+n)=go (P++(S1++v::(S2++rest))) (i64.wrap (i+1)):=by
 intro n
 induction n with
 | zero=>
  intro S rest k hS hk hb;obtain rfl:=List.eq_nil_of_length_eq_zero hS;obtain ⟨k,rfl⟩:∃ j,k=j+1:=⟨k-1,by omega⟩;refine ⟨[],[],rfl,λu hu=>(by cases hu),λS' u h=>(by simp at h),?_⟩;simp only [Zg.l1,if_neg (show ¬ (P.length:Int)<(P.length:Int)+((0:Nat):Int) by omega),Zg.j1,Bool.false_eq_true,if_false,List.nil_append]
 | succ n ih=>
  intro S rest k hS hk hb;obtain ⟨k,rfl⟩:∃ j,k=j+1:=⟨k-1,by omega⟩
  rcases List.eq_nil_or_concat S with rfl | ⟨S',u,rfl⟩
  ·simp at hS
  have hS':S'.length=n:=by simpa using hS
  have hb':=hb;unfold Z2 at hb';have e:P++((S'++[u])++v::rest)=(P++S')++u::v::rest:=by simp
  have hl:((P++S')++u::v::rest).length=P.length+n+2+rest.length:=by simp [hS'];omega
  have e1:i64.wrap ((P.length:Int)+((n+1:Nat):Int)-1)=(P.length:Int)+n:=by rw [w64 (by omega) (by omega)];omega
  have r1:rd ((P++S')++u::v::rest) ((P.length:Int)+((n+1:Nat):Int))=v:=Ztb (by simp [hS'];omega);have r2:rd ((P++S')++u::v::rest) ((P.length:Int)+(n:Int))=u:=Zdw (by simp [hS']);rw [List.concat_eq_append,e];simp only [Zg.l1,if_pos (show (P.length:Int)<(P.length:Int)+((n+1:Nat):Int) by omega),e1,hl,if_pos (show (0:Int)<=(P.length:Int)+((n+1:Nat):Int)/\(P.length:Int)+((n+1:Nat):Int)<((P.length+n+2+rest.length:Nat):Int) by omega),
   if_pos (show (0:Int)<=(P.length:Int)+(n:Int)/\(P.length:Int)+(n:Int)<((P.length+n+2+rest.length:Nat):Int) by omega),r1,r2,hc v u,Option.bind_some]
  by_cases c:key v<key u
  ·have c':decide (cI (key v) (key u)<0)=true:=decide_eq_true (Zkd.2 c)
   rw [c'];simp only [Zg.j1,if_true,List.length_set,e1,hl,if_pos (show (0:Int)<=(P.length:Int)+((n+1:Nat):Int)/\(P.length:Int)+((n+1:Nat):Int)<((P.length+n+2+rest.length:Nat):Int) by omega),
    if_pos (show (0:Int)<=(P.length:Int)+(n:Int)/\(P.length:Int)+(n:Int)<((P.length+n+2+rest.length:Nat):Int) by omega),r1,r2]
   rw [Zqc (by simp [hS'];omega),Zj3 (by simp [hS'];omega)];obtain ⟨S1,S2,h1,h2,h3,h4⟩:=ih S' (u::rest) k hS' (by omega) (by simp;omega);refine ⟨S1,S2++[u],by rw [h1];simp,λw hw=>?_,h3,?_⟩
   ·rcases List.mem_append.1 hw with hw | hw
    ·exact h2 w hw
    ·rw [List.mem_singleton.1 hw];exact c
   ·have e2:P++S'++v::u::rest=P++(S'++v::u::rest):=by simp
    rw [e2,h4];simp
  ·have c':decide (cI (key v) (key u)<0)=false:=decide_eq_false (λh=>c (Zkd.1 h))
   rw [c'];simp only [Zg.j1,Bool.false_eq_true,if_false];refine ⟨S'++[u],[],by simp,λw hw=>(by cases hw),λS'' w h=>?_,by simp⟩;have:=List.append_inj' h rfl;obtain ⟨_,h2⟩:=this;simp at h2;subst h2;exact c
theorem Zuk {S1:List Int} {v:Int} (h:Srt key S1) (hl:∀ S' u,S1=S'++[u]->¬ key v<key u):∀ u∈S1,key u<=key v:=by
 intro u hu
 rcases List.eq_nil_or_concat S1 with rfl | ⟨S',w,rfl⟩
 ·cases hu
 rw [List.concat_eq_append] at*
 have hw:=hl S' w rfl;obtain ⟨_,_,h3⟩:=Zaj key h
 rcases List.mem_append.1 hu with hu | hu
 ·have:=h3 u hu w (by simp);omega
 ·rw [List.mem_singleton.1 hu];omega
theorem Zvv (hc:Cmp t key) (P Q:List Int):∀ (R S:List Int) (k:Nat),R.length<k->Srt key S->P.length+S.length+R.length+Q.length<=Z2->
  Zg.l2 k t (P.length:Int) ((P.length:Int)+S.length+R.length) (P++(S++(R++Q))) ((P.length:Int)+S.length)=some (P++(Vw key (S++R)++Q)):=by
 intro R
 induction R with
 | nil=>
  intro S k hk hs hb;obtain ⟨k,rfl⟩:∃ j,k=j+1:=⟨k-1,by omega⟩;simp only [Zg.l2,if_neg (show ¬ (P.length:Int)+(S.length:Int)<(P.length:Int)+S.length+(([]:List Int).length:Int) by simp),List.nil_append,List.append_nil,Zg7 key hs]
 | cons v R ih=>
  intro S k hk hs hb;obtain ⟨k,rfl⟩:∃ j,k=j+1:=⟨k-1,by omega⟩;have hb':=hb;unfold Z2 at hb';simp only [List.length_cons] at hk hb' hb;simp only [Zg.l2,if_pos (show (P.length:Int)+(S.length:Int)<(P.length:Int)+S.length+((v::R).length:Int) by simp;omega)];obtain ⟨S1,S2,h1,h2,h3,h4⟩:=Zvu hc (Zg.l2 k t (P.length:Int) ((P.length:Int)+S.length+((v::R).length:Int))) P v ((P.length:Int)+S.length) S.length S (R++Q) K0 rfl (ltK (by unfold Z2;omega)) (by simp;omega);rw [List.cons_append,h4,w64 (by omega) (by omega)];subst h1;obtain ⟨hs1,hs2,hs12⟩:=Zaj key hs;have hm:=Zl9 key (a:=S1) (x:=S2) (v:=v) hs h2 (Zuk hs1 h3);have hsn:Srt key (S1++v::S2):=by rw [<- hm];exact Zch key _
  have:=ih (S1++v::S2) k (by omega) hsn (by simp at hb ⊢;omega);have e1:((P.length:Int)+((S1++S2).length:Int)+((v::R).length:Int))=(P.length:Int)+((S1++v::S2).length:Int)+(R.length:Int):=by simp;omega
  have e2:(P.length:Int)+((S1++S2).length:Int)+1=(P.length:Int)+((S1++v::S2).length:Int):=by simp;omega
  have e3:P++(S1++v::(S2++(R++Q)))=P++((S1++v::S2)++(R++Q)):=by simp
  rw [e1,e2,e3,this];congr 3;rw [<- hm,Zto];simp
theorem Zx2 (hc:Cmp t key) (P X Q:List Int) (hb:P.length+X.length+Q.length<=Z2):
  Zg.f (P.length:Int) ((P.length:Int)+X.length) (P++(X++Q)) t=some (P++(Vw key X++Q)):=by
 unfold Zg.f;have hb':=hb;unfold Z2 at hb';rw [w64 (by omega) (by omega)]
 cases X with
 | nil=>
  have:K0=(K0-1)+1:=by unfold K0;rfl
  rw [this];simp only [Zg.l2,if_neg (show ¬ (P.length:Int)+1<(P.length:Int)+(([]:List Int).length:Int) by simp;omega)];rfl
 | cons x X=>
  simp only [List.length_cons] at hb hb';have:=Zvv hc P Q X [x] K0 (ltK (by unfold Z2;omega)) ⟨λy hy=>(by cases hy),trivial⟩ (by simp;omega);have e1:(P.length:Int)+(([x]:List Int).length:Int)+(X.length:Int)=(P.length:Int)+((x::X).length:Int):=by simp;omega
  rw [e1] at this;simpa using this
theorem Z0z (P M Q:List Int):∀ (X2 Y2 X1 Y1:List Int) (k:Nat),X2.length=Y2.length->X1.length=Y1.length->X2.length<k->P.length+2*(X1.length+X2.length)+M.length+Q.length<=Z2->
  Z8.l1 k (P.length:Int) ((P.length:Int)+(X1.length+X2.length)+M.length) ((X1.length:Int)+X2.length) (P++((Y1++X2)++(M++((X1++Y2)++Q)))) (X1.length:Int)=some (P++((Y1++Y2)++(M++((X1++X2)++Q)))):=by
 intro X2
 induction X2 with
 | nil=>
  intro Y2 X1 Y1 k h1 h2 hk hb;obtain ⟨k,rfl⟩:∃ j,k=j+1:=⟨k-1,by omega⟩;obtain rfl:=List.eq_nil_of_length_eq_zero h1.symm;simp only [Z8.l1,if_neg (show ¬ (X1.length:Int)<(X1.length:Int)+(([]:List Int).length:Int) by simp)]
 | cons x X2 ih=>
  intro Y2 X1 Y1 k h1 h2 hk hb;obtain ⟨k,rfl⟩:∃ j,k=j+1:=⟨k-1,by omega⟩
  cases Y2 with
  | nil=>simp at h1
  | cons y Y2=>
   simp only [List.length_cons] at h1 hk hb;have hb':=hb;unfold Z2 at hb';have e:P++((Y1++x::X2)++(M++((X1++y::Y2)++Q)))=(P++Y1)++x::((X2++(M++X1))++y::(Y2++Q)):=by simp
   have w1:i64.wrap ((P.length:Int)+(X1.length:Int))=(P.length:Int)+X1.length:=w64 (by omega) (by omega);have w2:i64.wrap ((P.length:Int)+((X1.length:Int)+((x::X2).length:Int))+(M.length:Int)+(X1.length:Int))=(P.length:Int)+(X1.length+X2.length+1)+M.length+X1.length:=by rw [w64 (by simp;omega) (by simp;omega)];simp;omega
   have hl:((P++Y1)++x::((X2++(M++X1))++y::(Y2++Q))).length=P.length+2*(X1.length+(X2.length+1))+M.length+Q.length:=by simp;omega
   have r1:rd ((P++Y1)++x::((X2++(M++X1))++y::(Y2++Q))) ((P.length:Int)+X1.length)=x:=Zdw (by simp;omega);have r2:rd ((P++Y1)++x::((X2++(M++X1))++y::(Y2++Q))) ((P.length:Int)+(X1.length+X2.length+1)+M.length+X1.length)=y:=Z2m (by simp;omega);rw [e];simp only [Z8.l1,if_pos (show (X1.length:Int)<(X1.length:Int)+((x::X2).length:Int) by simp;omega),w1,w2,List.length_set,hl,
    if_pos (show (0:Int)<=(P.length:Int)+(X1.length+X2.length+1)+M.length+X1.length/\(P.length:Int)+(X1.length+X2.length+1)+M.length+X1.length<((P.length+2*(X1.length+(X2.length+1))+M.length+Q.length:Nat):Int) by omega),
    if_pos (show (0:Int)<=(P.length:Int)+X1.length/\(P.length:Int)+X1.length<((P.length+2*(X1.length+(X2.length+1))+M.length+Q.length:Nat):Int) by omega),r1,r2]
   rw [Zj3 (by simp;omega),Z0x (by simp;omega),w64 (by omega) (by omega)];have:=ih Y2 (X1++[x]) (Y1++[y]) k (by omega) (by simp;omega) (by omega) (by simp;omega);have e1:(P.length:Int)+(((X1++[x]).length:Int)+(X2.length:Int))+(M.length:Int)=(P.length:Int)+((X1.length:Int)+((x::X2).length:Int))+(M.length:Int):=by simp;omega
   have e2:((X1++[x]).length:Int)+(X2.length:Int)=(X1.length:Int)+((x::X2).length:Int):=by simp;omega
   have e3:((X1++[x]).length:Int)=(X1.length:Int)+1:=by simp
   rw [e1,e2,e3] at this;simpa using this
theorem Zqe (P X M Y Q:List Int) (h:X.length=Y.length) (hb:P.length+2*X.length+M.length+Q.length<=Z2):
  Z8.f (P.length:Int) ((P.length:Int)+X.length+M.length) (X.length:Int) (P++(X++(M++(Y++Q)))) t=some (P++(Y++(M++(X++Q)))):=by
 have hb':=hb;unfold Z2 at hb';have:=Z0z P M Q X Y [] [] K0 h rfl (ltK (by unfold Z2;omega)) (by simpa using hb);unfold Z8.f;simpa using this
theorem Z2q:∀ (n:Nat) (P X Y Q:List Int) (k:Nat),X.length+Y.length<=n->n<k->0<X.length->0<Y.length->P.length+X.length+Y.length+Q.length<=Z2->
  Yo.l1 k t ((P.length:Int)+X.length) (P++(X++(Y++Q))) (X.length:Int) (Y.length:Int)=some (P++(Y++(X++Q))):=by
 intro n
 induction n with
 | zero=>intro P X Y Q k h1 h2 h3;omega
 | succ n ih=>
  intro P X Y Q k h1 h2 h3 h4 hb;obtain ⟨k,rfl⟩:∃ j,k=j+1:=⟨k-1,by omega⟩;have hb':=hb;unfold Z2 at hb';have w1:i64.wrap ((P.length:Int)+(X.length:Int)-(X.length:Int))=(P.length:Int):=by rw [w64 (by omega) (by omega)];omega
  by_cases c1:(X.length:Int)=(Y.length:Int)
  ·simp only [Yo.l1,if_neg (show ¬ (X.length:Int)≠(Y.length:Int) by omega),w1]
   have:=Zqe (t:=t) P X [] Y Q (by omega) (by simp;omega);have e:(P.length:Int)+(X.length:Int)+(([]:List Int).length:Int)=(P.length:Int)+X.length:=by simp
   rw [e] at this;simp only [List.nil_append] at this;rw [this];rfl
  ·by_cases c2:(Y.length:Int)<(X.length:Int)
   ·simp only [Yo.l1,if_pos (show (X.length:Int)≠(Y.length:Int) from c1),if_pos c2,w1]
    obtain ⟨X1,X2,rfl,hx1⟩:∃ X1 X2,X=X1++X2/\X1.length=Y.length:=⟨X.take Y.length,X.drop Y.length,by simp,by simp;omega⟩;have hx2:0<X2.length:=by simp at c2;omega
    have:=Zqe (t:=t) P X1 X2 Y Q hx1 (by simp at hb;omega);have e:(P.length:Int)+((X1++X2).length:Int)=(P.length:Int)+X1.length+X2.length:=by simp;omega
    rw [hx1] at this;rw [e,hx1];have e2:P++(X1++X2++(Y++Q))=P++(X1++(X2++(Y++Q))):=by simp
    rw [e2,this,Option.bind_some];have w2:i64.wrap (((X1++X2).length:Int)-(Y.length:Int))=(X2.length:Int):=by rw [w64 (by simp;omega) (by simp;omega)];simp;omega
    rw [w2];have:=ih (P++Y) X2 X1 Q k (by simp at h1;omega) (by omega) hx2 (by omega) (by simp at hb ⊢;omega);have e3:((P++Y).length:Int)+(X2.length:Int)=(P.length:Int)+Y.length+X2.length:=by simp
    rw [e3,hx1] at this;have e4:P++(Y++(X2++(X1++Q)))=P++Y++(X2++(X1++Q)):=by simp
    rw [e4,this];simp
   ·simp only [Yo.l1,if_pos (show (X.length:Int)≠(Y.length:Int) from c1),if_neg c2,w1]
    obtain ⟨Y1,Y2,rfl,hy1⟩:∃ Y1 Y2,Y=Y1++Y2/\Y2.length=X.length:=⟨Y.take (Y.length-X.length),Y.drop (Y.length-X.length),by simp,by simp;omega⟩;have hy0:0<Y1.length:=by simp at c1 c2;omega
    have:=Zqe (t:=t) P X Y1 Y2 Q hy1.symm (by simp at hb;omega);have w3:i64.wrap (i64.wrap ((P.length:Int)+(X.length:Int)+((Y1++Y2).length:Int))-(X.length:Int))=(P.length:Int)+X.length+Y1.length:=by
     have hyl:(Y1++Y2).length=Y1.length+Y2.length:=by simp
     rw [w64 (x:=(P.length:Int)+(X.length:Int)+((Y1++Y2).length:Int)) (by omega) (by omega),w64 (x:=(P.length:Int)+(X.length:Int)+((Y1++Y2).length:Int)-(X.length:Int)) (by omega) (by omega)];omega
    rw [w3];have e2:P++(X++(Y1++Y2++Q))=P++(X++(Y1++(Y2++Q))):=by simp
    rw [e2,this,Option.bind_some];have hyl:(Y1++Y2).length=Y1.length+Y2.length:=by simp
    have w2:i64.wrap (((Y1++Y2).length:Int)-(X.length:Int))=(Y1.length:Int):=by rw [w64 (by omega) (by omega)];omega
    rw [w2];have:=ih P Y2 Y1 (X++Q) k (by simp at h1;omega) (by omega) (by omega) hy0 (by simp at hb ⊢;omega);rw [hy1] at this;rw [this];simp
theorem Z2p (P X Y Q:List Int) (h3:0<X.length) (h4:0<Y.length) (hb:P.length+X.length+Y.length+Q.length<=Z2):
  Yo.f (P.length:Int) ((P.length:Int)+X.length) ((P.length:Int)+X.length+Y.length) (P++(X++(Y++Q))) t=some (P++(Y++(X++Q))):=by
 have hb':=hb;unfold Z2 at hb';unfold Yo.f;have w1:i64.wrap ((P.length:Int)+(X.length:Int)-(P.length:Int))=(X.length:Int):=by rw [w64 (by omega) (by omega)];omega
 have w2:i64.wrap ((P.length:Int)+(X.length:Int)+(Y.length:Int)-((P.length:Int)+(X.length:Int)))=(Y.length:Int):=by rw [w64 (by omega) (by omega)];omega
 rw [w1,w2];exact Z2q (X.length+Y.length) P X Y Q K0 (Nat.le_refl _) (ltK (by unfold Z2;omega)) h3 h4 hb
end
end
section
open Go.IntKind (i8 i16 i32 i64 u8 u16 u32 u64)
open Go.RowKit
section
variable {t:Option Tbs} {key:Int->Int}
theorem Zv7 (P Q:List Int) (u:Int):∀ (Y2 Y1:List Int) (k:Nat),Y2.length<k->P.length+Y1.length+Y2.length+1+Q.length<=Z2->
  Za.l1 k ((P.length:Int)+Y1.length+Y2.length+1) (P++(Y1++u::(Y2++Q))) ((P.length:Int)+Y1.length)=some (P++(Y1++(Y2++u::Q))):=by
 intro Y2
 induction Y2 with
 | nil=>
  intro Y1 k hk hb;obtain ⟨k,rfl⟩:∃ j,k=j+1:=⟨k-1,by omega⟩;unfold Z2 at hb;have w1:i64.wrap ((P.length:Int)+Y1.length+(([]:List Int).length:Int)+1-1)=(P.length:Int)+Y1.length:=by rw [w64 (by simp;omega) (by simp;omega)];simp
  simp only [Za.l1,w1,if_neg (show ¬ (P.length:Int)+(Y1.length:Int)<(P.length:Int)+Y1.length by omega),List.nil_append]
 | cons y Y2 ih=>
  intro Y1 k hk hb;obtain ⟨k,rfl⟩:∃ j,k=j+1:=⟨k-1,by omega⟩;simp only [List.length_cons] at hk hb;have hb':=hb;unfold Z2 at hb';have w1:i64.wrap ((P.length:Int)+Y1.length+((y::Y2).length:Int)+1-1)=(P.length:Int)+Y1.length+Y2.length+1:=by rw [w64 (by simp;omega) (by simp;omega)];simp;omega
  have w2:i64.wrap ((P.length:Int)+Y1.length+1)=(P.length:Int)+Y1.length+1:=w64 (by omega) (by omega);have e:P++(Y1++u::((y::Y2)++Q))=(P++Y1)++u::y::(Y2++Q):=by simp
  have hl:((P++Y1)++u::y::(Y2++Q)).length=P.length+Y1.length+Y2.length+2+Q.length:=by simp;omega
  have r1:rd ((P++Y1)++u::y::(Y2++Q)) ((P.length:Int)+Y1.length)=u:=Zdw (by simp);have r2:rd ((P++Y1)++u::y::(Y2++Q)) ((P.length:Int)+Y1.length+1)=y:=Ztb (by simp);rw [e];simp only [Za.l1,w1,if_pos (show (P.length:Int)+(Y1.length:Int)<(P.length:Int)+Y1.length+Y2.length+1 by omega),w2,List.length_set,hl,
   if_pos (show (0:Int)<=(P.length:Int)+Y1.length+1/\(P.length:Int)+Y1.length+1<((P.length+Y1.length+Y2.length+2+Q.length:Nat):Int) by omega),
   if_pos (show (0:Int)<=(P.length:Int)+Y1.length/\(P.length:Int)+Y1.length<((P.length+Y1.length+Y2.length+2+Q.length:Nat):Int) by omega),r1,r2]
  rw [Zj3 (by simp;omega),Zqc (by simp;omega)];have:=ih (Y1++[y]) k (by omega) (by simp;omega);have e1:(P.length:Int)+((Y1++[y]).length:Int)+(Y2.length:Int)+1=(P.length:Int)+Y1.length+((y::Y2).length:Int)+1:=by simp;omega
  have e2:(P.length:Int)+((Y1++[y]).length:Int)=(P.length:Int)+Y1.length+1:=by simp;omega
  rw [e1,e2] at this;simpa using this
theorem Zxd (hc:Cmp t key) (ys:List Int) (a m b:Int) (u:Int) (hb:ys.length<=Z2) (ha:0<=a/\a<ys.length) (hu:rd ys a=u) (hm:0<=m) (hbl:b<=ys.length):∀ (n:Nat) (i j:Int) (k:Nat),(j-i).toNat<=n->n<k->m<=i->i<=j->j<=b->
  (m<i->key (rd ys (i-1))<key u)->(j<b->¬ key (rd ys j)<key u)->
  ∃ s,m<=s/\s<=b/\(m<s->key (rd ys (s-1))<key u)/\(s<b->¬ key (rd ys s)<key u)/\Za.l2 k ys t a i j=Za.l1 K0 s ys a:=by
 intro n;have hb':=hb;unfold Z2 at hb'
 induction n with
 | zero=>
  intro i j k h1 h2 h3 h4 h5 h6 h7;obtain ⟨k,rfl⟩:∃ j,k=j+1:=⟨k-1,by omega⟩;obtain rfl:i=j:=by omega
  exact ⟨i,h3,h5,h6,h7,by simp only [Za.l2,if_neg (show ¬ i<i by omega)]⟩
 | succ n ih=>
  intro i j k h1 h2 h3 h4 h5 h6 h7;obtain ⟨k,rfl⟩:∃ j,k=j+1:=⟨k-1,by omega⟩;by_cases c:i<j
  ·have hh:=Zxy (x:=i+j) (by omega) (by omega)
   have w1:i64.wrap ((i+j)/2+1)=(i+j)/2+1:=w64 (by omega) (by omega);simp only [Za.l2,if_pos c,hh,if_pos (show (0:Int)<=(i+j)/2/\(i+j)/2<(ys.length:Int) by omega),if_pos (show (0:Int)<=a/\a<(ys.length:Int) from ha),hu,hc _ u,Option.bind_some,w1];by_cases d:key (rd ys ((i+j)/2))<key u
   ·rw [if_pos (Zkd.2 d)]
    exact ih _ _ k (by omega) (by omega) (by omega) (by omega) h5 (λ_=>by rw [show (i+j)/2+1-1=(i+j)/2 by omega];exact d) h7
   ·rw [if_neg (λh=>d (Zkd.1 h))]
    exact ih _ _ k (by omega) (by omega) h3 (by omega) (by omega) h6 (λ_=>d)
  ·obtain rfl:i=j:=by omega
   exact ⟨i,h3,h5,h6,h7,by simp only [Za.l2,if_neg c]⟩
theorem Z15 {Y1 Y2:List Int} {u:Int} (h:Srt key (Y1++Y2)) (h1:∀ A y,Y1=A++[y]->key y<key u) (h2:∀ y B,Y2=y::B->¬ key y<key u):(∀ v∈Y1,key v<key u)/\(∀ v∈Y2,key u<=key v):=by
 obtain ⟨a,b,_⟩:=Zaj key h;refine ⟨λv hv=>?_,λv hv=>?_⟩
 ·rcases List.eq_nil_or_concat Y1 with rfl | ⟨A,w,rfl⟩
  ·cases hv
  rw [List.concat_eq_append] at*
  have hw:=h1 A w rfl;obtain ⟨_,_,h3⟩:=Zaj key a
  rcases List.mem_append.1 hv with hv | hv
  ·have:=h3 v hv w (by simp);omega
  ·rw [List.mem_singleton.1 hv];exact hw
 ·cases Y2 with
  | nil=>cases hv
  | cons y B=>
   have:=h2 y B rfl
   rcases List.mem_cons.1 hv with rfl | hv
   ·omega
   ·have:=b.1 v hv;omega
theorem Z14 {X1 X2:List Int} {v:Int} (h:Srt key (X1++X2)) (h1:∀ A x,X1=A++[x]->¬ key v<key x) (h2:∀ x B,X2=x::B->key v<key x):(∀ u∈X1,key u<=key v)/\(∀ u∈X2,key v<key u):=by
 obtain ⟨a,b,_⟩:=Zaj key h;refine ⟨λw hw=>Zuk a h1 w hw,λw hw=>?_⟩
 cases X2 with
 | nil=>cases hw
 | cons y B=>
  have:=h2 y B rfl
  rcases List.mem_cons.1 hw with rfl | hw
  ·exact this
  ·have:=b.1 w hw;omega
theorem Zgr (Y:List Int) (n:Nat) (h:n<=Y.length):∃ Y1 Y2,Y=Y1++Y2/\Y1.length=n:=⟨Y.take n,Y.drop n,by simp,by simp;omega⟩
theorem Zwp (hc:Cmp t key) (P Y Q:List Int) (u:Int) (hY:Srt key Y) (hb:P.length+1+Y.length+Q.length<=Z2):
  Za.l2 K0 (P++(u::(Y++Q))) t (P.length:Int) ((P.length:Int)+1) ((P.length:Int)+1+Y.length)=some (P++(Vw key (u::Y)++Q)):=by
 have hb':=hb;unfold Z2 at hb';have hl:(P++(u::(Y++Q))).length=P.length+1+Y.length+Q.length:=by simp;omega
 obtain ⟨s,s1,s2,s3,s4,s5⟩:=Zxd hc (P++(u::(Y++Q))) (P.length:Int) ((P.length:Int)+1) ((P.length:Int)+1+Y.length) u (by omega) (by omega) (Zdw rfl) (by omega) (by omega) (Z2) ((P.length:Int)+1) ((P.length:Int)+1+Y.length) K0 (by unfold Z2;omega) (ltK (Nat.le_refl _)) (by omega) (by omega) (by omega) (λh=>by omega) (λh=>by omega);rw [s5];obtain ⟨Y1,Y2,rfl,hn⟩:=Zgr Y (s-(P.length+1)).toNat (by omega);have hyl:(Y1++Y2).length=Y1.length+Y2.length:=by simp
 have es:s=(P.length:Int)+(([]:List Int).length:Int)+Y1.length+1:=by simp;omega
 have hcut:=Z15 (u:=u) hY (λA y e=>by
  subst e;have hr:rd (P++(u::(((A++[y])++Y2)++Q))) (s-1)=y:=by have:=Zdw (A:=P++u::A) (B:=Y2++Q) (x:=y) (i:=s-1) (by simp at hn ⊢;omega);simpa using this
  have:=s3 (by simp at hn;omega);rwa [hr] at this) (λy B e=>by
  subst e;have hr:rd (P++(u::((Y1++y::B)++Q))) s=y:=by have:=Zdw (A:=P++u::Y1) (B:=B++Q) (x:=y) (i:=s) (by simp;omega);simpa using this
  have:=s4 (by simp at hyl ⊢;omega);rwa [hr] at this)
 have:=Zv7 P (Y2++Q) u Y1 [] K0 (ltK (by unfold Z2;omega)) (by simp;omega);rw [es,Zro key hY hcut.1 hcut.2];simpa using this
theorem Zyf (P Q:List Int) (v:Int):∀ (n:Nat) (X2 X1 Z:List Int) (k:Nat),X2.length=n->n<k->P.length+X1.length+n+Z.length+1+Q.length<=Z2->
  Za.l3 k ((P.length:Int)+X1.length) (P++(X1++(X2++v::(Z++Q)))) ((P.length:Int)+X1.length+n)=some (P++(X1++v::(X2++(Z++Q)))):=by
 intro n
 induction n with
 | zero=>
  intro X2 X1 Z k h1 hk hb;obtain ⟨k,rfl⟩:∃ j,k=j+1:=⟨k-1,by omega⟩;obtain rfl:=List.eq_nil_of_length_eq_zero h1;simp only [Za.l3,if_neg (show ¬ (P.length:Int)+(X1.length:Int)<(P.length:Int)+X1.length+((0:Nat):Int) by omega),List.nil_append]
 | succ n ih=>
  intro X2 X1 Z k h1 hk hb;obtain ⟨k,rfl⟩:∃ j,k=j+1:=⟨k-1,by omega⟩;have hb':=hb;unfold Z2 at hb'
  rcases List.eq_nil_or_concat X2 with rfl | ⟨X',x,rfl⟩
  ·simp at h1
  have hX:X'.length=n:=by simpa using h1
  rw [List.concat_eq_append];have w1:i64.wrap ((P.length:Int)+X1.length+((n+1:Nat):Int)-1)=(P.length:Int)+X1.length+n:=by rw [w64 (by omega) (by omega)];omega
  have e:P++(X1++((X'++[x])++v::(Z++Q)))=(P++(X1++X'))++x::v::(Z++Q):=by simp
  have hl:((P++(X1++X'))++x::v::(Z++Q)).length=P.length+X1.length+n+2+Z.length+Q.length:=by simp [hX];omega
  have r1:rd ((P++(X1++X'))++x::v::(Z++Q)) ((P.length:Int)+X1.length+((n+1:Nat):Int))=v:=Ztb (by simp [hX];omega);have r2:rd ((P++(X1++X'))++x::v::(Z++Q)) ((P.length:Int)+X1.length+(n:Int))=x:=Zdw (by simp [hX];omega);rw [e];simp only [Za.l3,if_pos (show (P.length:Int)+(X1.length:Int)<(P.length:Int)+X1.length+((n+1:Nat):Int) by omega),w1,List.length_set,hl,
   if_pos (show (0:Int)<=(P.length:Int)+X1.length+((n+1:Nat):Int)/\(P.length:Int)+X1.length+((n+1:Nat):Int)<((P.length+X1.length+n+2+Z.length+Q.length:Nat):Int) by omega),
   if_pos (show (0:Int)<=(P.length:Int)+X1.length+(n:Int)/\(P.length:Int)+X1.length+(n:Int)<((P.length+X1.length+n+2+Z.length+Q.length:Nat):Int) by omega),r1,r2]
  rw [Zqc (by simp [hX];omega),Zj3 (by simp [hX];omega)];have:=ih X' X1 (x::Z) k hX (by omega) (by simp;omega);simpa using this
theorem Zz2 (hc:Cmp t key) (ys:List Int) (a m:Int) (v:Int) (hb:ys.length<=Z2) (ha:0<=a) (hm:0<=m/\m<ys.length) (hv:rd ys m=v):∀ (n:Nat) (i j:Int) (k:Nat),(j-i).toNat<=n->n<k->a<=i->i<=j->j<=m->
  (a<i->¬ key v<key (rd ys (i-1)))->(j<m->key v<key (rd ys j))->
  ∃ s,a<=s/\s<=m/\(a<s->¬ key v<key (rd ys (s-1)))/\(s<m->key v<key (rd ys s))/\Za.l4 k ys t m i j=Za.l3 K0 s ys m:=by
 intro n;have hb':=hb;unfold Z2 at hb'
 induction n with
 | zero=>
  intro i j k h1 h2 h3 h4 h5 h6 h7;obtain ⟨k,rfl⟩:∃ j,k=j+1:=⟨k-1,by omega⟩;obtain rfl:i=j:=by omega
  exact ⟨i,h3,h5,h6,h7,by simp only [Za.l4,if_neg (show ¬ i<i by omega)]⟩
 | succ n ih=>
  intro i j k h1 h2 h3 h4 h5 h6 h7;obtain ⟨k,rfl⟩:∃ j,k=j+1:=⟨k-1,by omega⟩;by_cases c:i<j
  ·have hh:=Zxy (x:=i+j) (by omega) (by omega)
   have w1:i64.wrap ((i+j)/2+1)=(i+j)/2+1:=w64 (by omega) (by omega);simp only [Za.l4,if_pos c,hh,if_pos (show (0:Int)<=m/\m<(ys.length:Int) from hm),if_pos (show (0:Int)<=(i+j)/2/\(i+j)/2<(ys.length:Int) by omega),hv,hc v _,Option.bind_some,w1];by_cases d:key v<key (rd ys ((i+j)/2))
   ·rw [if_neg (λh=>h (Zkd.2 d))]
    exact ih _ _ k (by omega) (by omega) h3 (by omega) (by omega) h6 (λ_=>d)
   ·rw [if_pos (λh=>d (Zkd.1 h))]
    exact ih _ _ k (by omega) (by omega) (by omega) (by omega) h5 (λ_=>by rw [show (i+j)/2+1-1=(i+j)/2 by omega];exact d) h7
  ·obtain rfl:i=j:=by omega
   exact ⟨i,h3,h5,h6,h7,by simp only [Za.l4,if_neg c]⟩
theorem Zzc (hc:Cmp t key) (P X Q:List Int) (v:Int) (hX:Srt key X) (hb:P.length+X.length+1+Q.length<=Z2):
  Za.l4 K0 (P++(X++(v::Q))) t ((P.length:Int)+X.length) (P.length:Int) ((P.length:Int)+X.length)=some (P++(Vw key (X++[v])++Q)):=by
 have hb':=hb;unfold Z2 at hb';have hl:(P++(X++(v::Q))).length=P.length+X.length+1+Q.length:=by simp;omega
 have hr:rd (P++(X++(v::Q))) ((P.length:Int)+X.length)=v:=by have:=Zdw (A:=P++X) (B:=Q) (x:=v) (i:=(P.length:Int)+X.length) (by simp);simpa using this
 obtain ⟨s,s1,s2,s3,s4,s5⟩:=Zz2 hc (P++(X++(v::Q))) (P.length:Int) ((P.length:Int)+X.length) v (by omega) (by omega) (by omega) hr Z2 (P.length:Int) ((P.length:Int)+X.length) K0 (by unfold Z2;omega) (ltK (Nat.le_refl _)) (by omega) (by omega) (by omega) (λh=>by omega) (λh=>by omega);rw [s5];obtain ⟨X1,X2,rfl,hn⟩:=Zgr X (s-P.length).toNat (by omega);have hxl:(X1++X2).length=X1.length+X2.length:=by simp
 have es:s=(P.length:Int)+X1.length:=by omega
 have hcut:=Z14 (v:=v) hX (λA y e=>by
  subst e;have hr:rd (P++(((A++[y])++X2)++(v::Q))) (s-1)=y:=by have:=Zdw (A:=P++A) (B:=X2++v::Q) (x:=y) (i:=s-1) (by simp at hn ⊢;omega);simpa using this
  have:=s3 (by simp at hn;omega);rwa [hr] at this) (λy B e=>by
  subst e;have hr:rd (P++((X1++y::B)++(v::Q))) s=y:=by have:=Zdw (A:=P++X1) (B:=B++v::Q) (x:=y) (i:=s) (by simp;omega);simpa using this
  have:=s4 (by simp at hxl ⊢;omega);rwa [hr] at this)
 have:=Zyf P Q v X2.length X2 X1 [] K0 rfl (ltK (by unfold Z2;omega)) (by simp;omega);rw [es,Zl9 key hX hcut.2 hcut.1];have e:(P.length:Int)+((X1++X2).length:Int)=(P.length:Int)+X1.length+X2.length:=by omega
 rw [e];simpa using this
end
end
section
open Go.IntKind (i8 i16 i32 i64 u8 u16 u32 u64)
open Go.RowKit
section
variable {t:Option Tbs} {key:Int->Int}
theorem Zxe (hc:Cmp t key) (rec:Int->Int->Int->List Int->Option Tbs->Option (List Int)) (ys:List Int) (a m b mid lo hi:Int) (hb:ys.length<=Z2) (ha:0<=a) (hbb:0<=b/\b<=1099511627776/\a<=1099511627776) (hm:0<=m/\m<=1099511627776) (hmid:mid=(a+b)/2)
  (hg:∀ c,lo<=c->c<hi->(0<=c/\c<(ys.length:Int))/\(0<=mid+m-1-c/\mid+m-1-c<(ys.length:Int))) (hlo:0<=lo) (hhi:hi<=1099511627776):∀ (n:Nat) (i j:Int) (k:Nat),(j-i).toNat<=n->n<k->lo<=i->i<=j->j<=hi->
  (lo<i->¬ key (rd ys (mid+m-i))<key (rd ys (i-1)))->(j<hi->key (rd ys (mid+m-1-j))<key (rd ys j))->
  ∃ s,lo<=s/\s<=hi/\(lo<s->¬ key (rd ys (mid+m-s))<key (rd ys (s-1)))/\(s<hi->key (rd ys (mid+m-1-s))<key (rd ys s))/\
   Za.l5 k rec ys t a m b i j=(if s<m then Za.j5 rec ys t a m b s (decide (m<mid+m-s)) else Za.j5 rec ys t a m b s false):=by
 have hb':=hb;unfold Z2 at hb';have e0:=Zxy (x:=a+b) (by omega) (by omega);rw [<- hmid] at e0;have e1:i64.wrap (mid+m)=mid+m:=w64 (by omega) (by omega);have e2:i64.wrap (mid+m-1)=mid+m-1:=w64 (by omega) (by omega);have fin:∀ (i:Int) (k:Nat),lo<=i->i<=hi->Za.l5 (k+1) rec ys t a m b i i=(if i<m then Za.j5 rec ys t a m b i (decide (m<mid+m-i)) else Za.j5 rec ys t a m b i false):=by intro i k h3 h4;have e3:i64.wrap (mid+m-i)=mid+m-i:=w64 (by omega) (by omega);simp only [Za.l5,if_neg (show ¬ i<i by omega),e0,e1,e3]
 intro n
 induction n with
 | zero=>
  intro i j k h1 h2 h3 h4 h5 h6 h7;obtain ⟨k,rfl⟩:∃ j,k=j+1:=⟨k-1,by omega⟩;obtain rfl:i=j:=by omega
  exact ⟨i,h3,h5,h6,h7,fin i k h3 h5⟩
 | succ n ih=>
  intro i j k h1 h2 h3 h4 h5 h6 h7;obtain ⟨k,rfl⟩:∃ j,k=j+1:=⟨k-1,by omega⟩;by_cases c:i<j
  ·have hh:=Zxy (x:=i+j) (by omega) (by omega)
   obtain ⟨g1,g2⟩:=hg ((i+j)/2) (by omega) (by omega);have w1:i64.wrap ((i+j)/2+1)=(i+j)/2+1:=w64 (by omega) (by omega);have w2:i64.wrap (mid+m-1-(i+j)/2)=mid+m-1-(i+j)/2:=w64 (by omega) (by omega);simp only [Za.l5,if_pos c,e0,e1,e2,hh,w1,w2,if_pos g1,if_pos g2,hc _ _,Option.bind_some];by_cases d:key (rd ys (mid+m-1-(i+j)/2))<key (rd ys ((i+j)/2))
   ·rw [if_neg (λh=>h (Zkd.2 d))]
    exact ih _ _ k (by omega) (by omega) h3 (by omega) (by omega) h6 (λ_=>d)
   ·rw [if_pos (λh=>d (Zkd.1 h))]
    exact ih _ _ k (by omega) (by omega) (by omega) (by omega) h5 (λ_=>by rw [show (i+j)/2+1-1=(i+j)/2 by omega,show mid+m-((i+j)/2+1)=mid+m-1-(i+j)/2 by omega];exact d) h7
  ·obtain rfl:i=j:=by omega
   exact ⟨i,h3,h5,h6,h7,fin i k h3 h5⟩
theorem Ztp {Y:List Int} (h:Srt key Y):Vw key ([]++Y)=Y:=by rw [List.nil_append];exact Zg7 key h
theorem Zmw {X:List Int} (h:Srt key X):Vw key (X++[])=X:=by rw [List.append_nil];exact Zg7 key h
theorem Zzb (hc:Cmp t key):∀ (n:Nat) (P X Y Q:List Int) (k:Nat),X.length+Y.length<=n->n<k->0<X.length->0<Y.length->Srt key X->Srt key Y->P.length+X.length+Y.length+Q.length<=Z2->
  Za.f k (P.length:Int) ((P.length:Int)+X.length) ((P.length:Int)+X.length+Y.length) (P++(X++(Y++Q))) t=some (P++(Vw key (X++Y)++Q)):=by
 intro n
 induction n with
 | zero=>intro P X Y Q k h1 h2 h3;omega
 | succ n ih=>
  intro P X Y Q k h1 h2 h3 h4 hX hY hb;obtain ⟨k,rfl⟩:∃ j,k=j+1:=⟨k-1,by omega⟩;have hb':=hb;unfold Z2 at hb';have w1:i64.wrap ((P.length:Int)+X.length-P.length)=X.length:=by rw [w64 (by omega) (by omega)];omega
  have w2:i64.wrap ((P.length:Int)+X.length+Y.length-((P.length:Int)+X.length))=Y.length:=by rw [w64 (by omega) (by omega)];omega
  simp only [Za.f,Za.b,w1,w2];by_cases c1:(X.length:Int)=1
  ·rw [if_pos c1]
   obtain ⟨u,rfl⟩:∃ u,X=[u]:=by
    cases X with
    | nil=>simp at h3
    | cons u X'=>exact ⟨u,by rw [List.eq_nil_of_length_eq_zero (l:=X') (by simp at c1;omega)]⟩
   have:=Zwp hc P Y Q u hY (by simp at hb;omega);simpa using this
  ·rw [if_neg c1]
   by_cases c2:(Y.length:Int)=1
   ·rw [if_pos c2]
    obtain ⟨v,rfl⟩:∃ v,Y=[v]:=by
     cases Y with
     | nil=>simp at h4
     | cons u X'=>exact ⟨u,by rw [List.eq_nil_of_length_eq_zero (l:=X') (by simp at c2;omega)]⟩
    have:=Zzc hc P X Q v hX (by simp at hb;omega);simpa using this
   ·rw [if_neg c2]
    obtain ⟨mid,hmid⟩:∃ mid:Int,mid=((P.length:Int)+((P.length:Int)+X.length+Y.length))/2:=⟨_,rfl⟩;have e0:=Zxy (x:=(P.length:Int)+((P.length:Int)+X.length+Y.length)) (by omega) (by omega);rw [<- hmid] at e0;have e1:i64.wrap (mid+((P.length:Int)+X.length))=mid+((P.length:Int)+X.length):=w64 (by omega) (by omega);have e2:i64.wrap (mid+((P.length:Int)+X.length)-((P.length:Int)+X.length+Y.length))=mid-Y.length:=by rw [w64 (by omega) (by omega)];omega
    simp only [e0,e1,e2,Za.j6];have hl:(P++(X++(Y++Q))).length=P.length+X.length+Y.length+Q.length:=by simp;omega
    have hs:∃ s,(P.length:Int)<=s/\s<=(P.length:Int)+X.length/\s<=mid/\mid-Y.length<=s/\
      ((P.length:Int)<s->mid-Y.length<s->¬ key (rd (P++(X++(Y++Q))) (mid+((P.length:Int)+X.length)-s))<key (rd (P++(X++(Y++Q))) (s-1)))/\
      (s<(P.length:Int)+X.length->s<mid->key (rd (P++(X++(Y++Q))) (mid+((P.length:Int)+X.length)-1-s))<key (rd (P++(X++(Y++Q))) s))/\
      (if mid<(P.length:Int)+X.length then Za.l5 K0 (Za.f k) (P++(X++(Y++Q))) t (P.length:Int) ((P.length:Int)+X.length) ((P.length:Int)+X.length+Y.length) (mid-Y.length) mid
       else Za.l5 K0 (Za.f k) (P++(X++(Y++Q))) t (P.length:Int) ((P.length:Int)+X.length) ((P.length:Int)+X.length+Y.length) (P.length:Int) ((P.length:Int)+X.length))=
      (if s<(P.length:Int)+X.length then Za.j5 (Za.f k) (P++(X++(Y++Q))) t (P.length:Int) ((P.length:Int)+X.length) ((P.length:Int)+X.length+Y.length) s (decide ((P.length:Int)+X.length<mid+((P.length:Int)+X.length)-s))
       else Za.j5 (Za.f k) (P++(X++(Y++Q))) t (P.length:Int) ((P.length:Int)+X.length) ((P.length:Int)+X.length+Y.length) s false):=by
     by_cases c3:mid<(P.length:Int)+X.length
     ·rw [if_pos c3]
      obtain ⟨s,s1,s2,s3,s4,s5⟩:=Zxe hc (Za.f k) (P++(X++(Y++Q))) (P.length:Int) ((P.length:Int)+X.length) ((P.length:Int)+X.length+Y.length) mid (mid-Y.length) mid (by omega) (by omega) ⟨by omega,by omega,by omega⟩ ⟨by omega,by omega⟩ hmid
       (λc hc1 hc2=>⟨⟨by omega,by omega⟩,by omega,by omega⟩) (by omega) (by omega) Z2 (mid-Y.length) mid K0 (by unfold Z2;omega) (ltK (Nat.le_refl _)) (by omega) (by omega) (by omega) (λh=>by omega) (λh=>by omega)
      exact ⟨s,by omega,by omega,s2,s1,λ_ h=>s3 h,λ_ h=>s4 h,s5⟩
     ·rw [if_neg c3]
      obtain ⟨s,s1,s2,s3,s4,s5⟩:=Zxe hc (Za.f k) (P++(X++(Y++Q))) (P.length:Int) ((P.length:Int)+X.length) ((P.length:Int)+X.length+Y.length) mid (P.length:Int) ((P.length:Int)+X.length) (by omega) (by omega) ⟨by omega,by omega,by omega⟩ ⟨by omega,by omega⟩ hmid
       (λc hc1 hc2=>⟨⟨by omega,by omega⟩,by omega,by omega⟩) (by omega) (by omega) Z2 (P.length:Int) ((P.length:Int)+X.length) K0 (by unfold Z2;omega) (ltK (Nat.le_refl _)) (by omega) (by omega) (by omega) (λh=>by omega) (λh=>by omega)
      exact ⟨s,s1,s2,by omega,by omega,λh _=>s3 h,λh _=>s4 h,s5⟩
    obtain ⟨s,s1,s2,s3,s4,s5,s6,s7⟩:=hs;rw [s7];clear s7;obtain ⟨X1,X2,rfl,hn⟩:=Zgr X (s-P.length).toNat (by omega);obtain ⟨Y1,Y2,rfl,hn2⟩:=Zgr Y (mid-s).toNat (by omega);have hxl:(X1++X2).length=X1.length+X2.length:=by simp
    have hyl:(Y1++Y2).length=Y1.length+Y2.length:=by simp
    have es:s=(P.length:Int)+X1.length:=by omega
    have em:mid=(P.length:Int)+X1.length+Y1.length:=by omega
    obtain ⟨hX1,hX2,_⟩:=Zaj key hX;obtain ⟨hY1,hY2,_⟩:=Zaj key hY;have q3:∀ u∈X2,∀ v∈Y1,key v<key u:=by
     intro u hu v hv
     rcases List.eq_nil_or_concat Y1 with rfl | ⟨A,w,rfl⟩
     ·cases hv
     cases X2 with
     | nil=>cases hu
     | cons x B=>
      rw [List.concat_eq_append] at*
      have hx':(x::B).length=B.length+1:=rfl;have ha':(A++[w]).length=A.length+1:=by simp
      have hlen:(P++(X1++x::B)++A).length=P.length+(X1++x::B).length+A.length:=by simp;omega
      have h6:=s6 (by omega) (by omega);have r1:rd (P++((X1++x::B)++(((A++[w])++Y2)++Q))) s=x:=by have:=Zdw (A:=P++X1) (B:=B++(A++[w]++Y2++Q)) (x:=x) (i:=s) (by simp;omega);simpa using this
      have r2:rd (P++((X1++x::B)++(((A++[w])++Y2)++Q))) (mid+((P.length:Int)+((X1++x::B).length:Int))-1-s)=w:=by have:=Zdw (A:=P++(X1++x::B)++A) (B:=Y2++Q) (x:=w) (i:=mid+((P.length:Int)+((X1++x::B).length:Int))-1-s) (by omega);simpa using this
      rw [r1,r2] at h6;have a1:key v<=key w:=by
       obtain ⟨_,_,h⟩:=Zaj key hY1
       rcases List.mem_append.1 hv with hv | hv
       ·exact h v hv w (by simp)
       ·rw [List.mem_singleton.1 hv];omega
      have a2:key x<=key u:=by
       rcases List.mem_cons.1 hu with rfl | hu
       ·omega
       ·exact hX2.1 u hu
      omega
    have q4:∀ u∈X1,∀ v∈Y2,key u<=key v:=by
     intro u hu v hv
     rcases List.eq_nil_or_concat X1 with rfl | ⟨A,w,rfl⟩
     ·cases hu
     cases Y2 with
     | nil=>cases hv
     | cons y B=>
      rw [List.concat_eq_append] at*
      have hy':(y::B).length=B.length+1:=rfl;have ha':(A++[w]).length=A.length+1:=by simp
      have hlen:(P++A).length=P.length+A.length:=by simp
      have hlen2:(P++((A++[w])++X2)++Y1).length=P.length+((A++[w])++X2).length+Y1.length:=by simp;omega
      have h5:=s5 (by omega) (by omega);have r1:rd (P++(((A++[w])++X2)++((Y1++y::B)++Q))) (s-1)=w:=by have:=Zdw (A:=P++A) (B:=X2++(Y1++y::B++Q)) (x:=w) (i:=s-1) (by omega);simpa using this
      have r2:rd (P++(((A++[w])++X2)++((Y1++y::B)++Q))) (mid+((P.length:Int)+(((A++[w])++X2).length:Int))-s)=y:=by have:=Zdw (A:=P++((A++[w])++X2)++Y1) (B:=B++Q) (x:=y) (i:=mid+((P.length:Int)+(((A++[w])++X2).length:Int))-s) (by omega);simpa using this
      rw [r1,r2] at h5;have a1:key u<=key w:=by
       obtain ⟨_,_,h⟩:=Zaj key hX1
       rcases List.mem_append.1 hu with hu | hu
       ·exact h u hu w (by simp)
       ·rw [List.mem_singleton.1 hu];omega
      have a2:key y<=key v:=by
       rcases List.mem_cons.1 hv with rfl | hv
       ·omega
       ·exact hY2.1 v hv
      omega
    have e3:i64.wrap (mid+((P.length:Int)+((X1++X2).length:Int))-s)=mid+X2.length:=by rw [w64 (by omega) (by omega)];omega
    have hj2:∀ Z:List Int,Z.length=X1.length+Y1.length->Za.j2 (Za.f k) t (P.length:Int) ((P.length:Int)+((X1++X2).length:Int)) ((P.length:Int)+((X1++X2).length:Int)+((Y1++Y2).length:Int)) s (P++(Z++(X2++(Y2++Q))))=some (P++(Z++(Vw key (X2++Y2)++Q))):=by
     intro Z hZ;simp only [Za.j2,Za.j1,e0,e1,e3];by_cases d1:mid<mid+X2.length
     ·rw [if_pos d1]
      by_cases d2:mid+X2.length<(P.length:Int)+((X1++X2).length:Int)+((Y1++Y2).length:Int)
      ·rw [decide_eq_true d2,if_pos rfl]
       have:=ih (P++Z) X2 Y2 Q k (by omega) (by omega) (by omega) (by omega) hX2 hY2 (by simp;omega);have f1:((P++Z).length:Int)=mid:=by simp;omega
       have f2:mid+(X2.length:Int)+Y2.length=(P.length:Int)+((X1++X2).length:Int)+((Y1++Y2).length:Int):=by omega
       rw [f1,f2] at this;have f3:P++(Z++(X2++(Y2++Q)))=P++Z++(X2++(Y2++Q)):=by simp
       rw [f3,this];simp
      ·rw [decide_eq_false d2]
       have:Y2=[]:=List.eq_nil_of_length_eq_zero (by omega);subst this;simp only [Bool.false_eq_true,if_false,Zmw hX2,List.nil_append]
     ·rw [if_neg d1]
      have:X2=[]:=List.eq_nil_of_length_eq_zero (by omega);subst this;simp only [Bool.false_eq_true,if_false,List.nil_append,Zg7 key hY2]
    have hj4:Za.j4 (Za.f k) t (P.length:Int) ((P.length:Int)+((X1++X2).length:Int)) ((P.length:Int)+((X1++X2).length:Int)+((Y1++Y2).length:Int)) s (P++(X1++(Y1++(X2++(Y2++Q)))))=some (P++(Vw key (X1++Y1)++(Vw key (X2++Y2)++Q))):=by
     have hz:=hj2 (Vw key (X1++Y1)) (by rw [Zb0];simp);simp only [Za.j4,Za.j3,e0];by_cases d1:(P.length:Int)<s
     ·rw [if_pos d1]
      by_cases d2:s<mid
      ·rw [decide_eq_true d2,if_pos rfl]
       have:=ih P X1 Y1 (X2++(Y2++Q)) k (by omega) (by omega) (by omega) (by omega) hX1 hY1 (by simp;omega);rw [<- es,show s+(Y1.length:Int)=mid by omega] at this;rw [this,Option.bind_some,hz]
      ·rw [decide_eq_false d2]
       have:Y1=[]:=List.eq_nil_of_length_eq_zero (by omega);subst this;rw [Zmw hX1] at hz ⊢;simp only [Bool.false_eq_true,if_false,List.nil_append] at hz ⊢;exact hz
     ·rw [if_neg d1]
      have:X1=[]:=List.eq_nil_of_length_eq_zero (by omega);subst this;rw [Ztp hY1] at hz ⊢;simp only [Bool.false_eq_true,if_false,List.nil_append] at hz ⊢;exact hz
    have goal:P++(Vw key ((X1++X2)++(Y1++Y2))++Q)=P++(Vw key (X1++Y1)++(Vw key (X2++Y2)++Q)):=by rw [Zrp key hX hY q3 q4];simp
    rw [goal,<- hj4];have f4:P++((X1++X2)++((Y1++Y2)++Q))=P++(X1++(X2++(Y1++(Y2++Q)))):=by simp
    rw [f4];have f5:mid+((P.length:Int)+((X1++X2).length:Int))-s=mid+X2.length:=by omega
    rw [f5];by_cases d1:s<(P.length:Int)+((X1++X2).length:Int)
    ·rw [if_pos d1]
     by_cases d2:(P.length:Int)+((X1++X2).length:Int)<mid+X2.length
     ·rw [decide_eq_true d2]
      simp only [Za.j5,if_true,e0,e1,e3];have:=Z2p (t:=t) (P++X1) X2 Y1 (Y2++Q) (by omega) (by omega) (by simp;omega);have f1:((P++X1).length:Int)=s:=by simp;omega
      have f2:s+(X2.length:Int)=(P.length:Int)+((X1++X2).length:Int):=by omega
      have f3:(P.length:Int)+((X1++X2).length:Int)+(Y1.length:Int)=mid+X2.length:=by omega
      rw [f1,f2,f3] at this;have f6:P++(X1++(X2++(Y1++(Y2++Q))))=P++X1++(X2++(Y1++(Y2++Q))):=by simp
      rw [f6,this,Option.bind_some];simp
     ·rw [decide_eq_false d2]
      have:Y1=[]:=List.eq_nil_of_length_eq_zero (by omega);subst this;simp only [Za.j5,Bool.false_eq_true,if_false,List.nil_append]
    ·rw [if_neg d1]
     have:X2=[]:=List.eq_nil_of_length_eq_zero (by omega);subst this;simp only [Za.j5,Bool.false_eq_true,if_false,List.nil_append]
end
end
section
open Go.IntKind (i8 i16 i32 i64 u8 u16 u32 u64)
open Go.RowKit
section
variable {t:Option Tbs} {key:Int->Int}
def Zql (key:Int->Int) (n:Nat) (Bs:List (List Int)):Prop:=∀ B∈Bs,Srt key B/\B.length=n
theorem Zlq {n:Nat}:∀ {Bs:List (List Int)},Zql key n Bs->Bs.flatten.length=Bs.length*n
 | [],_=>by simp
 | B::Bs,h=>by
  have h1:=(h B (by simp)).2
  have h2:=Zlq (Bs:=Bs) (λC hC=>h C (by simp [hC]))
  simp [h1,h2,Nat.add_mul];omega
theorem Z0r (hc:Cmp t key) (go:List Int->Int->Option (List Int)) (bs N:Nat) (h0:0<bs):∀ (n:Nat) (Bs:List (List Int)) (D E:List Int) (k:Nat),Bs.length<=n->n<k->Zql key bs Bs->Srt key E->E.length<bs->D.length+Bs.flatten.length+E.length=N->N<=Z2->bs<N->
  ∃ Cs E',Zql key (2*bs) Cs/\Srt key E'/\E'.length<2*bs/\Feq key (Cs.flatten++E') (Bs.flatten++E)/\(Cs.flatten++E').length=(Bs.flatten++E).length/\
   Zh.l1 go k t (N:Int) (bs:Int) (D++(Bs.flatten++E)) (D.length:Int) ((D.length:Int)+2*bs)=go (D++(Cs.flatten++E')) (2*(bs:Int)):=by
 intro n
 induction n with
 | zero=>
  intro Bs D E k h1 hk hB hE hl hN hb hbs;obtain ⟨k,rfl⟩:∃ j,k=j+1:=⟨k-1,by omega⟩;obtain rfl:=List.eq_nil_of_length_eq_zero (Nat.le_zero.1 h1);unfold Z2 at hb;simp only [List.flatten_nil,List.length_nil,Nat.add_zero] at hN;refine ⟨[],E,λC hC=>(by cases hC),hE,by omega,Feq.refl key _,rfl,?_⟩;have w1:i64.wrap ((D.length:Int)+bs)=(D.length:Int)+bs:=w64 (by omega) (by omega);have w2:i64.wrap ((bs:Int)*2)=2*(bs:Int):=by rw [w64 (by omega) (by omega)];omega
  simp only [Zh.l1,if_neg (show ¬ (D.length:Int)+2*bs<=(N:Int) by omega),w1,if_neg (show ¬ (D.length:Int)+bs<(N:Int) by omega),Zh.j1,w2]
 | succ n ih=>
  intro Bs D E k h1 hk hB hE hl hN hb hbs;obtain ⟨k,rfl⟩:∃ j,k=j+1:=⟨k-1,by omega⟩;have hb':=hb;unfold Z2 at hb';have w2:i64.wrap ((bs:Int)*2)=2*(bs:Int):=by rw [w64 (by omega) (by omega)];omega
  match Bs,h1,hB,hN with
  | [],h1,hB,hN=>
   simp only [List.flatten_nil,List.length_nil,Nat.add_zero] at hN;refine ⟨[],E,λC hC=>(by cases hC),hE,by omega,Feq.refl key _,rfl,?_⟩;have w1:i64.wrap ((D.length:Int)+bs)=(D.length:Int)+bs:=w64 (by omega) (by omega);simp only [Zh.l1,if_neg (show ¬ (D.length:Int)+2*bs<=(N:Int) by omega),w1,if_neg (show ¬ (D.length:Int)+bs<(N:Int) by omega),Zh.j1,w2]
  | [B],h1,hB,hN=>
   obtain ⟨hBs,hBl⟩:=hB B (by simp);simp only [List.flatten_cons,List.flatten_nil,List.append_nil] at hN;have w1:i64.wrap ((D.length:Int)+bs)=(D.length:Int)+bs:=w64 (by omega) (by omega);simp only [Zh.l1,if_neg (show ¬ (D.length:Int)+2*bs<=(N:Int) by omega),w1,Zh.j1,w2,List.flatten_cons,List.flatten_nil,List.append_nil];by_cases c:(D.length:Int)+bs<(N:Int)
   ·rw [if_pos c]
    have:=Zzb hc (B.length+E.length) D B E [] K0 (Nat.le_refl _) (ltK (by unfold Z2;omega)) (by omega) (by omega) hBs hE (by simp;omega);rw [hBl] at this;have e1:(D.length:Int)+(bs:Int)+E.length=(N:Int):=by omega
    rw [e1] at this;simp only [List.append_nil] at this;rw [this,Option.bind_some];exact ⟨[],Vw key (B++E),λC hC=>(by cases hC),Zch key _,by rw [Zb0];simp;omega,by simpa using Zby key (B++E),by simp [Zb0],rfl⟩
   ·rw [if_neg c]
    obtain rfl:=List.eq_nil_of_length_eq_zero (show E.length=0 by omega);exact ⟨[],B,λC hC=>(by cases hC),hBs,by omega,by simpa using Feq.refl key B,by simp,by simp⟩
  | B1::B2::Bs,h1,hB,hN=>
   obtain ⟨hs1,hl1⟩:=hB B1 (by simp);obtain ⟨hs2,hl2⟩:=hB B2 (by simp);have hBs:Zql key bs Bs:=λC hC=>hB C (by simp [hC]);simp only [List.flatten_cons,List.length_append] at hN;have w1:i64.wrap ((D.length:Int)+bs)=(D.length:Int)+bs:=w64 (by omega) (by omega);have w3:i64.wrap (2*(bs:Int))=2*(bs:Int):=w64 (by omega) (by omega);have w4:i64.wrap ((D.length:Int)+2*bs+2*bs)=(D.length:Int)+2*bs+2*bs:=w64 (by omega) (by omega);have:=Zzb hc (B1.length+B2.length) D B1 B2 (Bs.flatten++E) K0 (Nat.le_refl _) (ltK (by unfold Z2;omega)) (by omega) (by omega) hs1 hs2 (by rw [List.length_append];omega);rw [hl1,hl2] at this;have e1:(D.length:Int)+(bs:Int)+bs=(D.length:Int)+2*bs:=by omega
   rw [e1] at this;have e2:D++((B1::B2::Bs).flatten++E)=D++(B1++(B2++(Bs.flatten++E))):=by simp
   simp only [Zh.l1,if_pos (show (D.length:Int)+2*bs<=(N:Int) by omega),w1,w3,w4,e2,this,Option.bind_some];have hsl:(Vw key (B1++B2)).length=2*bs:=by rw [Zb0];simp;omega
   obtain ⟨Cs,E',c1,c2,c3,c4,c5,c6⟩:=ih Bs (D++Vw key (B1++B2)) E k (by simp at h1;omega) (by omega) hBs hE hl (by rw [List.length_append,hsl];omega) hb hbs;have e3:((D++Vw key (B1++B2)).length:Int)=(D.length:Int)+2*bs:=by simp [hsl]
   rw [e3] at c6;have e4:D++(Vw key (B1++B2)++(Bs.flatten++E))=D++Vw key (B1++B2)++(Bs.flatten++E):=by simp
   rw [e4,c6];refine ⟨Vw key (B1++B2)::Cs,E',λC hC=>?_,c2,c3,?_,?_,by simp⟩
   ·rcases List.mem_cons.1 hC with rfl | hC
    ·exact ⟨Zch key _,hsl⟩
    ·exact c1 C hC
   ·have:=Feq.app key (Zby key (B1++B2)) c4
    simpa using this
   ·simp only [List.flatten_cons,List.length_append] at c5 ⊢
    omega
theorem Zv6 (hc:Cmp t key) (N:Nat) (hb:N<=Z2):∀ (n bs:Nat) (Bs:List (List Int)) (E:List Int) (k:Nat),0<bs->N-bs<=n->n<k->Zql key bs Bs->Srt key E->E.length<bs->(Bs.flatten++E).length=N->
  Zh.l2 k t (N:Int) (Bs.flatten++E) (bs:Int)=some (Vw key (Bs.flatten++E)):=by
 intro n;have hb':=hb;unfold Z2 at hb';have fin:∀ (bs:Nat) (Bs:List (List Int)) (E:List Int),0<bs->N<=bs->Zql key bs Bs->Srt key E->E.length<bs->(Bs.flatten++E).length=N->Srt key (Bs.flatten++E):=by
  intro bs Bs E h0 h1 hB hE hl hN;have:=Zlq hB;simp only [List.length_append] at hN
  match Bs,hB,this with
  | [],_,_=>simpa using hE
  | [B],hB,this=>
   have e:=(hB B (by simp)).2;simp at this hN;obtain rfl:=List.eq_nil_of_length_eq_zero (show E.length=0 by omega);simpa using (hB B (by simp)).1
  | B1::B2::Bs,hB,this=>
   simp only [List.length_cons] at this;rw [Nat.add_mul,Nat.add_mul] at this;omega
 induction n with
 | zero=>
  intro bs Bs E k h0 h1 hk hB hE hl hN;obtain ⟨k,rfl⟩:∃ j,k=j+1:=⟨k-1,by omega⟩;simp only [Zh.l2,if_neg (show ¬ (bs:Int)<(N:Int) by omega),Zg7 key (fin bs Bs E h0 (by omega) hB hE hl hN)]
 | succ n ih=>
  intro bs Bs E k h0 h1 hk hB hE hl hN;obtain ⟨k,rfl⟩:∃ j,k=j+1:=⟨k-1,by omega⟩;by_cases c:(bs:Int)<(N:Int)
  ·have w3:i64.wrap (2*(bs:Int))=2*(bs:Int):=w64 (by omega) (by omega)
   have hfl:=Zlq hB;have hBl:Bs.length<=N:=by simp only [List.length_append] at hN;have:Bs.length*1<=Bs.length*bs:=Nat.mul_le_mul_left _ h0;omega
   obtain ⟨Cs,E',c1,c2,c3,c4,c5,c6⟩:=Z0r hc (Zh.l2 k t (N:Int)) bs N h0 N Bs [] E K0 hBl (ltK hb) hB hE hl (by simpa using hN) hb (by omega);simp only [List.length_nil,List.nil_append] at c6;have e1:((0:Nat):Int)+2*(bs:Int)=2*bs:=by omega
   rw [e1] at c6;simp only [Zh.l2,if_pos c,w3];have e2:((0:Nat):Int)=0:=rfl;rw [e2] at c6;rw [c6];have:=ih (2*bs) Cs E' k (by omega) (by omega) (by omega) c1 c2 c3 (by rw [c5,hN]);have e3:((2*bs:Nat):Int)=2*(bs:Int):=by omega
   rw [e3] at this;rw [this,Zmv key c4]
  ·simp only [Zh.l2,if_neg c,Zg7 key (fin bs Bs E h0 (by omega) hB hE hl hN)]
theorem Zsq (hc:Cmp t key) (N:Nat) (hb:N<=Z2):∀ (n:Nat) (R D:List Int) (k:Nat),R.length<=n->n<k->D.length+R.length=N->
  ∃ Bs E,Zql key 20 Bs/\Srt key E/\E.length<20/\Feq key (Bs.flatten++E) R/\(Bs.flatten++E).length=R.length/\
   Zh.l3 k t (N:Int) (D++R) (D.length:Int) ((D.length:Int)+20)=Zh.l2 K0 t (N:Int) (D++(Bs.flatten++E)) 20:=by
 intro n;have hb':=hb;unfold Z2 at hb';have fin:∀ (R D:List Int) (k:Nat),D.length+R.length=N->R.length<20->∃ Bs E,Zql key 20 Bs/\Srt key E/\E.length<20/\Feq key (Bs.flatten++E) R/\(Bs.flatten++E).length=R.length/\
   Zh.l3 (k+1) t (N:Int) (D++R) (D.length:Int) ((D.length:Int)+20)=Zh.l2 K0 t (N:Int) (D++(Bs.flatten++E)) 20:=by
  intro R D k hN hR;have:=Zx2 hc D R [] (by simp;omega);have e1:(D.length:Int)+R.length=(N:Int):=by omega
  rw [e1] at this;simp only [List.append_nil] at this;refine ⟨[],Vw key R,λC hC=>(by cases hC),Zch key _,by rw [Zb0];omega,by simpa using Zby key R,by simp [Zb0],?_⟩;simp only [Zh.l3,if_neg (show ¬ (D.length:Int)+20<=(N:Int) by omega),this,Option.bind_some,List.flatten_nil,List.nil_append]
 induction n with
 | zero=>
  intro R D k h1 hk hN;obtain ⟨k,rfl⟩:∃ j,k=j+1:=⟨k-1,by omega⟩;exact fin R D k hN (by omega)
 | succ n ih=>
  intro R D k h1 hk hN;obtain ⟨k,rfl⟩:∃ j,k=j+1:=⟨k-1,by omega⟩;by_cases c:R.length<20
  ·exact fin R D k hN c
  ·obtain ⟨B,R,rfl,hB⟩:=Zgr R 20 (by omega)
   have hrl:(B++R).length=B.length+R.length:=by simp
   have:=Zx2 hc D B R (by omega);rw [hB] at this;have w1:i64.wrap ((D.length:Int)+20+20)=(D.length:Int)+20+20:=w64 (by omega) (by omega);have e0:((20:Nat):Int)=20:=rfl;rw [e0] at this;simp only [Zh.l3,if_pos (show (D.length:Int)+20<=(N:Int) by omega),this,Option.bind_some,w1];have hsl:(Vw key B).length=20:=by rw [Zb0];exact hB
   have hdl:(D++Vw key B).length=D.length+20:=by simp [hsl]
   obtain ⟨Bs,E,c1,c2,c3,c4,c5,c6⟩:=ih R (D++Vw key B) k (by omega) (by omega) (by omega);have e3:((D++Vw key B).length:Int)=(D.length:Int)+20:=by omega
   rw [e3] at c6;have e4:D++(Vw key B++R)=D++Vw key B++R:=by simp
   rw [e4,c6];refine ⟨Vw key B::Bs,E,λC hC=>?_,c2,c3,?_,?_,by simp⟩
   ·rcases List.mem_cons.1 hC with rfl | hC
    ·exact ⟨Zch key _,hsl⟩
    ·exact c1 C hC
   ·have:=Feq.app key (Zby key B) c4
    simpa using this
   ·simp only [List.flatten_cons,List.length_append] at c5 ⊢
    omega
theorem Z3u (hc:Cmp t key) (ys:List Int) (hb:ys.length<=Z2):Q5.f ys t=some (Vw key ys):=by
 unfold Q5.f Zh.f;obtain ⟨Bs,E,c1,c2,c3,c4,c5,c6⟩:=Zsq hc ys.length hb ys.length ys [] K0 (Nat.le_refl _) (ltK hb) (by simp);simp only [List.length_nil,List.nil_append] at c6;have e1:((0:Nat):Int)+20=20:=rfl;have e2:((0:Nat):Int)=0:=rfl;rw [e1,e2] at c6;rw [c6];have:=Zv6 hc ys.length hb ys.length 20 Bs E K0 (by omega) (by omega) (ltK hb) c1 c2 c3 c5;have e3:((20:Nat):Int)=20:=rfl;rw [e3] at this;rw [this,Option.bind_some,Zmv key c4]

def Cls (t:Option Tbs) (key:Int->Int):Prop:=∀ p,Ko.f t p=some (key p)
theorem Cls.cmp (h:Cls t key):Cmp t key:=by
 intro a b;simp only [J9.f,h a,h b,Option.bind_some,Za5.f,Zar.f,ne_eq,not_true_eq_false,decide_false,Bool.false_eq_true,if_false,cI];by_cases c:key a<key b
 ·simp [c]
 ·simp only [if_neg c]
  by_cases d:key b<key a
  ·simp [d]
  ·simp [d]
theorem Zy2 (h:Cls t key) (go:List Int->Int->Option (List Int)) (A:List Int):∀ (R S:List Int) (k:Nat),R.length<k->(∀ x∈S,key x≠0)->A.length+S.length+R.length<=Z2->
  ∃ S' R',S++R=S'++R'/\(∀ x∈S',key x≠0)/\(∀ x B,R'=x::B->key x=0)/\
   Xo.l1 go k t (A++(S++R)) (A.length:Int) ((A.length:Int)+S.length)=go (A++(Vw key S'++R')) ((A.length:Int)+S'.length+1):=by
 have done:∀ (S R:List Int) (r:Option (List Int)) (go':Int->Option (List Int)),A.length+S.length+R.length<=Z2->Xo.j1 go go' t (A++(S++R)) (A.length:Int) ((A.length:Int)+S.length) false=go (A++(Vw key S++R)) ((A.length:Int)+S.length+1):=by
  intro S R _ go' hb;have hb':=hb;unfold Z2 at hb';have hl:(A++(S++R)).length=A.length+S.length+R.length:=by simp;omega
  have e1:sub (A++(S++R)) (A.length:Int) ((A.length:Int)+S.length)=S:=by
   have:((A.length:Int)+S.length).toNat=A.length+S.length:=by omega
   simp [sub,this,List.take_append]
  have e2:(A++(S++R)).take (A.length:Int).toNat=A:=by simp
  have e3:(A++(S++R)).drop ((A.length:Int)+S.length).toNat=R:=by
   have:((A.length:Int)+S.length).toNat=A.length+S.length:=by omega
   rw [this,<- List.append_assoc,List.drop_append_of_le_length (by simp)];simp
  simp only [Xo.j1,Bool.false_eq_true,if_false,hl,if_pos (show (0:Int)<=(A.length:Int)/\(A.length:Int)<=(A.length:Int)+S.length/\(A.length:Int)+(S.length:Int)<=((A.length+S.length+R.length:Nat):Int) by omega),e1,e2,e3,
   Z3u h.cmp S (by unfold Z2;omega),Option.bind_some,w64 (x:=(A.length:Int)+S.length+1) (by omega) (by omega)]
 intro R
 induction R with
 | nil=>
  intro S k hk hS hb;obtain ⟨k,rfl⟩:∃ j,k=j+1:=⟨k-1,by omega⟩;refine ⟨S,[],rfl,hS,λx B e=>(by cases e),?_⟩;have hl:(A++(S++[])).length=A.length+S.length:=by simp
  simp only [Xo.l1,hl,if_neg (show ¬ (A.length:Int)+S.length<((A.length+S.length:Nat):Int) by omega)];exact done S [] none _ hb
 | cons x R ih=>
  intro S k hk hS hb;obtain ⟨k,rfl⟩:∃ j,k=j+1:=⟨k-1,by omega⟩;have hb':=hb;unfold Z2 at hb';simp only [List.length_cons] at hk hb';have hl:(A++(S++x::R)).length=A.length+S.length+R.length+1:=by simp;omega
  have r1:rd (A++(S++x::R)) ((A.length:Int)+S.length)=x:=by have:=Zdw (A:=A++S) (B:=R) (x:=x) (i:=(A.length:Int)+S.length) (by simp);simpa using this
  have g1:(0:Int)<=(A.length:Int)+S.length/\(A.length:Int)+(S.length:Int)<((A.length+S.length+R.length+1:Nat):Int):=by omega
  simp only [Xo.l1,hl,if_pos g1.2,if_pos g1,r1,h x,Option.bind_some];by_cases c:key x=0
  ·have:decide (key x≠0)=false:=by simp [c]
   rw [this];refine ⟨S,x::R,rfl,hS,λy B e=>?_,done S (x::R) none _ hb⟩;cases e;exact c
  ·have:decide (key x≠0)=true:=by simp [c]
   rw [this];simp only [Xo.j1,if_true,w64 (x:=(A.length:Int)+S.length+1) (by omega) (by omega)];obtain ⟨S',R',q1,q2,q3,q4⟩:=ih (S++[x]) k (by omega) (λy hy=>by
    rcases List.mem_append.1 hy with hy | hy
    ·exact hS y hy
    ·rw [List.mem_singleton.1 hy];exact c) (by simp at hb ⊢;omega)
   have e1:(A.length:Int)+((S++[x]).length:Int)=(A.length:Int)+S.length+1:=by simp;omega
   rw [e1] at q4;have e2:A++(S++x::R)=A++(S++[x]++R):=by simp
   rw [e2,q4];exact ⟨S',R',by rw [<- q1];simp,q2,q3,rfl⟩
theorem Zym (h:Cls t key):∀ (n:Nat) (R A:List Int) (k:Nat),R.length<=n->n+1<k->A.length+R.length<=Z2->
  Xo.l2 k t (A++R) (A.length:Int)=some (A++Zjy key R):=by
 intro n
 induction n with
 | zero=>
  intro R A k h1 hk hb;obtain ⟨k,rfl⟩:∃ j,k=j+1:=⟨k-1,by omega⟩;obtain rfl:=List.eq_nil_of_length_eq_zero (Nat.le_zero.1 h1);simp only [Xo.l2,List.append_nil,if_neg (show ¬ (A.length:Int)<(A.length:Int) by omega)];simp [Zjy,Zjx,Vw]
 | succ n ih=>
  intro R A k h1 hk hb;obtain ⟨k,rfl⟩:∃ j,k=j+1:=⟨k-1,by omega⟩;have hb':=hb;unfold Z2 at hb';by_cases c:R.length=0
  ·obtain rfl:=List.eq_nil_of_length_eq_zero c
   simp only [Xo.l2,List.append_nil,if_neg (show ¬ (A.length:Int)<(A.length:Int) by omega)];simp [Zjy,Zjx,Vw]
  ·have hl:(A++R).length=A.length+R.length:=by simp
   simp only [Xo.l2,hl,if_pos (show (A.length:Int)<((A.length+R.length:Nat):Int) by omega)];obtain ⟨S,R',q1,q2,q3,q4⟩:=Zy2 h (Xo.l2 k t) A R [] K0 (ltK (by unfold Z2;omega)) (λx hx=>(by cases hx)) (by simpa using hb);simp only [List.nil_append] at q1 q4;have e1:(A.length:Int)+(([]:List Int).length:Int)=(A.length:Int):=by simp
   rw [e1] at q4;rw [q4];subst q1
   cases R' with
   | nil=>
    obtain ⟨k,rfl⟩:∃ j,k=j+1:=⟨k-1,by omega⟩;have hl2:(A++(Vw key S++[])).length=A.length+S.length:=by simp [Zb0]
    simp only [Xo.l2,hl2,if_neg (show ¬ (A.length:Int)+S.length+1<((A.length+S.length:Nat):Int) by omega)];have:=Zml key S [] [] q2;simp only [List.append_nil,List.nil_append] at this;simp only [Zjy,List.append_nil,this,Zjx]
   | cons x B=>
    have hx:=q3 x B rfl;have:=ih B (A++(Vw key S++[x])) k (by simp at h1;omega) (by omega) (by simp [Zb0] at hb ⊢;omega);have e2:((A++(Vw key S++[x])).length:Int)=(A.length:Int)+S.length+1:=by simp [Zb0];omega
    rw [e2] at this;have e3:A++(Vw key S++x::B)=A++(Vw key S++[x])++B:=by simp
    rw [e3,this];have h2:=Zml key S [] (x::B) q2;simp only [List.nil_append] at h2;simp only [Zjy,h2,Zjx,if_pos hx];simp
theorem Zyl (h:Cls t key) (l:List Int) (hb:l.length<=Z2):Xo.f t l=some (Zjy key l):=by
 have hcl:Xe.f l=some l:=by rw [Xe.f,if_pos (by unfold Z2 at hb;unfold most;simp;omega)];rfl
 unfold Xo.f;rw [hcl,Option.bind_some];have:=Zym h l.length l [] K0 (Nat.le_refl _) (by unfold Z2 at hb;unfold K0;omega) (by simpa using hb);simpa using this
end
end
section
open Go.RowKit

def Zaq (lo hi:Int):Bool:=(decide (lo<=4370)&&decide (4352<=hi))||(decide (lo<=4469)&&decide (4449<=hi))||(decide (lo<=4546)&&decide (4520<=hi))||(decide (lo<=55203)&&decide (44032<=hi))
def Zl3 (p:Int):Bool:=(decide (4352<=p)&&decide (p<=4370))||(decide (4449<=p)&&decide (p<=4469))||(decide (4520<=p)&&decide (p<=4546))||(decide (44032<=p)&&decide (p<=55203))
def Zeh (p:Int):Bool:=(decide (0<=p)&&decide (p<55296))||(decide (57343<p)&&decide (p<=1114111))
theorem Zkm (lo hi:Int):Xd.f lo hi=some (Zaq lo hi):=by
 unfold Xd.f Zaq;simp only [Xd.j1];repeat' split
 all_goals (simp [*]<;>try omega)
theorem Ztd (p:Int):X7.f p=some (Zl3 p):=by
 unfold X7.f Zl3;simp only [X7.j1];repeat' split
 all_goals (simp [*]<;>try omega)
theorem Zmt (p:Int):Vr.f p=some (Zeh p):=by
 unfold Vr.f Zeh;simp only [Vr.j1];repeat' split
 all_goals (simp [*]<;>try omega)
theorem Zr2 (p:Int):Vm.f p=some (!Zeh p):=by
 unfold Vm.f Zeh;simp only [Vm.j1];by_cases a:p<0
 ·simp [a,show ¬ 0<=p by omega,show ¬ 57343<p by omega]
 ·by_cases b:1114111<p
  ·simp [a,b,show ¬ p<55296 by omega,show ¬ p<=1114111 by omega]
  ·by_cases c:55296<=p
   ·by_cases d:p<=57343
    ·simp [a,b,c,d,show ¬ p<55296 by omega,show ¬ 57343<p by omega]
    ·simp [a,b,c,d,show ¬ p<55296 by omega,show 57343<p by omega,show p<=1114111 by omega]
   ·simp [a,b,c,show 0<=p by omega,show p<55296 by omega]
theorem Zrj (l:List Int) (hl:l.length<=Z2):∃ r,Y5.f l=some r/\Zbp r (l.all Zeh):=by
 refine Xu (λk i (_:Unit)=>Y5.l1 k l i) l (λpre t _ o=>∃ r,o=some r/\Zbp r (t.all Zeh)) ?_ ?_ () K0 (ltK hl)
 ·intro _ k
  exact ⟨-1,by simp only [Y5.l1,if_neg (show ¬ (l.length:Int)<(l.length:Int) by omega)],.inl ⟨rfl,rfl⟩⟩
 ·intro pre x t _ k e ih
  obtain ⟨h1,h2⟩:=mid e;simp only [Y5.l1,if_pos h2.2,if_pos h2,h1,Zr2,Option.bind_some,nxt hl e,List.all_cons]
  cases c:Zeh x with
  | false=>exact ⟨pre.length,by simp,.inr ⟨by simp,by omega⟩⟩
  | true=>simpa using ih ()
def Hz (l:List Int) (a b:Int):Bool:=decide (a<=(l.length:Int))&&decide ((l.length:Int)<=b)&&l.all Zeh
theorem Zei (l:List Int) (a b:Int) (hb:b<=1000):Kt.f l a b=some (Hz l a b):=by
 unfold Kt.f Hz;by_cases h1:a<=(l.length:Int)
 ·by_cases h2:(l.length:Int)<=b
  ·obtain ⟨r,h3,h4⟩:=Zrj l (by unfold Z2;omega)
   simp only [if_pos h1,if_pos h2,K4.f,h3,Option.bind_some,h4.val,Kt.j1,Bool.not_not];simp [h1,h2]
  ·simp [h1,h2,Kt.j1]
 ·simp [h1,Kt.j1]
theorem Zrk (lo hi:Int) (l:List Spn) (hl:l.length<=Z2):∃ r,Yg.f l lo hi=some r/\Zbp r (!l.any λh=>decide (lo<=h.hi)&&decide (h.lo<=hi)):=by
 refine Xu (λk i (_:Unit)=>Yg.l1 k lo hi l i) l (λpre t _ o=>∃ r,o=some r/\Zbp r (!t.any λh=>decide (lo<=h.hi)&&decide (h.lo<=hi))) ?_ ?_ () K0 (ltK hl)
 ·intro _ k
  exact ⟨-1,by simp only [Yg.l1,if_neg (show ¬ (l.length:Int)<(l.length:Int) by omega)],.inl ⟨rfl,rfl⟩⟩
 ·intro pre x t _ k e ih
  obtain ⟨h1,h2⟩:=mid e;simp only [Yg.l1,if_pos h2.2,if_pos h2,h1,Vd.f,Vd.j1,nxt hl e,List.any_cons];by_cases c1:lo<=x.hi
  ·by_cases c2:x.lo<=hi
   ·exact ⟨pre.length,by simp [c1,c2],.inr ⟨by simp [c1,c2],by omega⟩⟩
   ·simpa [c1,c2] using ih ()
  ·simpa [c1] using ih ()
theorem Ztq (s:Spn):Zbu.f s=some (Zaq s.lo s.hi):=by
 unfold Zbu.f Zc2.f;simp only [Option.bind_some,Qw.f];obtain ⟨r,h1,h2⟩:=Zrk s.lo s.hi [⟨4352,4370⟩,⟨4449,4469⟩,⟨4520,4546⟩,⟨44032,55203⟩] (by decide);rw [h1];simp only [Option.bind_some,h2.val,Bool.not_not];congr 1;exact (show ∀ a b c d:Bool,(a||(b||(c||(d||false))))=(a||b||c||d) by decide) _ _ _ _
theorem Zn8 (s:Spn):Za8.f s=some true:=rfl
theorem Zjo (s:Spn):Hj.f s=some (!Zaq s.lo s.hi):=by
 unfold Hj.f;rw [Ztq,Option.bind_some]
theorem Zvn (x:Chs):Zbt.f x=some (Hz x.is_ 1 18):=by
 unfold Zbt.f;rw [Zei x.is_ 1 18 (by decide),Option.bind_some]
theorem Ztt (x:Val) (a b:Int):Ku.f x a b=some (decide (a<=x.n)&&decide (x.n<=b)):=by
 unfold Ku.f;simp only [Ku.j1,Ug.f,Zn8,Option.bind_some];by_cases h1:a<=x.n
 ·by_cases h2:x.n<=b<;>simp [h1,h2]
 ·simp [h1]
theorem Ztu (x:Val) (a b:Int):Kv.f x a b=some (decide (a<=x.n)&&decide (x.n<=b)&&!Zaq x.lo x.hi):=by
 unfold Kv.f;simp only [Kv.j1,Ug.f,Zjo,Option.bind_some];by_cases h1:a<=x.n
 ·by_cases h2:x.n<=b<;>simp [h1,h2]
 ·simp [h1]
def Zb5 (x:Chs):Bool:=decide (x.lo=x.hi)&&Hz [x.lo] 1 1&&Hz x.is_ 1 2&&!Zaq x.lo x.hi
theorem Zvo (x:Chs):Q9.f x=some (Zb5 x):=by
 unfold Q9.f Zb5;simp only [Q9.j1,Vq.f,Zjo,Option.bind_some,Zei [x.lo] 1 1 (by decide),Zei x.is_ 1 2 (by decide)];by_cases h1:x.lo=x.hi
 ·rw [if_pos h1,decide_eq_true h1]
  cases h2:Hz [x.lo] 1 1<;>cases h3:Hz x.is_ 1 2<;>simp
 ·rw [if_neg h1,decide_eq_false h1];simp
def Zag {α:Type} (lo hi:α->Int) (may:α->Bool) (l:List α):Bool:=decide (l.length<=65536)&&Vn lo hi may (-1) l
theorem Zi4 (a b:Int) (l:List Val):∃ r,Zz.f l a b=some r/\Zbp r (Zag (·.lo) (·.hi) (λx:Val=>decide (a<=x.n)&&decide (x.n<=b)) l):=by
 unfold Zz.f Zag;by_cases h:(65536:Int)<l.length
 ·exact ⟨65536,by rw [if_pos h],.inr ⟨by simp [show ¬ l.length<=65536 by omega],by decide⟩⟩
 ·rw [if_neg h]
  have hl:l.length<=Z2:=by unfold Z2;omega
  simp only [show l.length<=65536 by omega,decide_true,Bool.true_and];refine Xu (λk i last=>Zz.l1 k a b l last i) l (λpre t last o=>∃ r,o=some r/\Zbp r (Vn (·.lo) (·.hi) (λx:Val=>decide (a<=x.n)&&decide (x.n<=b)) last t)) ?_ ?_ (-1) K0 (ltK hl)
  ·intro last k
   exact ⟨-1,by simp only [Zz.l1,if_neg (show ¬ (l.length:Int)<(l.length:Int) by omega)],.inl ⟨rfl,rfl⟩⟩
  ·intro pre x t last k e ih
   obtain ⟨h1,h2⟩:=mid e;simp only [Zz.l1,if_pos h2.2,if_pos h2,h1,Ug.f,Option.bind_some,Ztt,Zz.j1,nxt hl e];by_cases c1:x.lo<=last
   ·exact ⟨pre.length,by simp [c1],.inr ⟨Ka (.inl c1),by omega⟩⟩
   ·by_cases c2:x.hi<x.lo
    ·exact ⟨pre.length,by simp [c1,c2],.inr ⟨Ka (.inr (.inl c2)),by omega⟩⟩
    ·by_cases c3:1114111<x.hi
     ·exact ⟨pre.length,by simp [c1,c2,c3],.inr ⟨Ka (.inr (.inr (.inl c3))),by omega⟩⟩
     ·rw [if_neg c1,if_neg c2,if_neg c3]
      cases c4:(decide (a<=x.n)&&decide (x.n<=b)) with
      | false=>exact ⟨pre.length,by simp,.inr ⟨Ka (.inr (.inr (.inr c4))),by omega⟩⟩
      | true=>
       rw [Zbv c1 c2 c3 c4];simpa using ih x.hi
theorem Zth (a b:Int) (l:List Val):∃ r,Z0.f l a b=some r/\Zbp r (Zag (·.lo) (·.hi) (λx:Val=>decide (a<=x.n)&&decide (x.n<=b)&&!Zaq x.lo x.hi) l):=by
 unfold Z0.f Zag;by_cases h:(65536:Int)<l.length
 ·exact ⟨65536,by rw [if_pos h],.inr ⟨by simp [show ¬ l.length<=65536 by omega],by decide⟩⟩
 ·rw [if_neg h]
  have hl:l.length<=Z2:=by unfold Z2;omega
  simp only [show l.length<=65536 by omega,decide_true,Bool.true_and];refine Xu (λk i last=>Z0.l1 k a b l last i) l (λpre t last o=>∃ r,o=some r/\Zbp r (Vn (·.lo) (·.hi) (λx:Val=>decide (a<=x.n)&&decide (x.n<=b)&&!Zaq x.lo x.hi) last t)) ?_ ?_ (-1) K0 (ltK hl)
  ·intro last k
   exact ⟨-1,by simp only [Z0.l1,if_neg (show ¬ (l.length:Int)<(l.length:Int) by omega)],.inl ⟨rfl,rfl⟩⟩
  ·intro pre x t last k e ih
   obtain ⟨h1,h2⟩:=mid e;simp only [Z0.l1,if_pos h2.2,if_pos h2,h1,Ug.f,Option.bind_some,Ztu,Z0.j1,nxt hl e];by_cases c1:x.lo<=last
   ·exact ⟨pre.length,by simp [c1],.inr ⟨Ka (.inl c1),by omega⟩⟩
   ·by_cases c2:x.hi<x.lo
    ·exact ⟨pre.length,by simp [c1,c2],.inr ⟨Ka (.inr (.inl c2)),by omega⟩⟩
    ·by_cases c3:1114111<x.hi
     ·exact ⟨pre.length,by simp [c1,c2,c3],.inr ⟨Ka (.inr (.inr (.inl c3))),by omega⟩⟩
     ·rw [if_neg c1,if_neg c2,if_neg c3]
      cases c4:(decide (a<=x.n)&&decide (x.n<=b)&&!Zaq x.lo x.hi) with
      | false=>exact ⟨pre.length,by simp,.inr ⟨Ka (.inr (.inr (.inr c4))),by omega⟩⟩
      | true=>
       rw [Zbv c1 c2 c3 c4];simpa using ih x.hi
theorem Zrx (l:List Chs):∃ r,Zy.f l=some r/\Zbp r (Zag (·.lo) (·.hi) Zb5 l):=by
 unfold Zy.f Zag;by_cases h:(65536:Int)<l.length
 ·exact ⟨65536,by rw [if_pos h],.inr ⟨by simp [show ¬ l.length<=65536 by omega],by decide⟩⟩
 ·rw [if_neg h]
  have hl:l.length<=Z2:=by unfold Z2;omega
  simp only [show l.length<=65536 by omega,decide_true,Bool.true_and];refine Xu (λk i last=>Zy.l1 k l last i) l (λpre t last o=>∃ r,o=some r/\Zbp r (Vn (·.lo) (·.hi) Zb5 last t)) ?_ ?_ (-1) K0 (ltK hl)
  ·intro last k
   exact ⟨-1,by simp only [Zy.l1,if_neg (show ¬ (l.length:Int)<(l.length:Int) by omega)],.inl ⟨rfl,rfl⟩⟩
  ·intro pre x t last k e ih
   obtain ⟨h1,h2⟩:=mid e;simp only [Zy.l1,if_pos h2.2,if_pos h2,h1,Vq.f,Option.bind_some,Zvo,Zy.j1,nxt hl e];by_cases c1:x.lo<=last
   ·exact ⟨pre.length,by simp [c1],.inr ⟨Ka (.inl c1),by omega⟩⟩
   ·by_cases c2:x.hi<x.lo
    ·exact ⟨pre.length,by simp [c1,c2],.inr ⟨Ka (.inr (.inl c2)),by omega⟩⟩
    ·by_cases c3:1114111<x.hi
     ·exact ⟨pre.length,by simp [c1,c2,c3],.inr ⟨Ka (.inr (.inr (.inl c3))),by omega⟩⟩
     ·rw [if_neg c1,if_neg c2,if_neg c3]
      cases c4:Zb5 x with
      | false=>exact ⟨pre.length,by simp,.inr ⟨Ka (.inr (.inr (.inr c4))),by omega⟩⟩
      | true=>
       rw [Zbv c1 c2 c3 c4];simpa using ih x.hi
theorem Zwi (l:List Spn):∃ r,Z7.f l=some r/\Zbp r (Zag (·.lo) (·.hi) (λx:Spn=>!Zaq x.lo x.hi) l):=by
 unfold Z7.f Zag;by_cases h:(65536:Int)<l.length
 ·exact ⟨65536,by rw [if_pos h],.inr ⟨by simp [show ¬ l.length<=65536 by omega],by decide⟩⟩
 ·rw [if_neg h]
  have hl:l.length<=Z2:=by unfold Z2;omega
  simp only [show l.length<=65536 by omega,decide_true,Bool.true_and];refine Xu (λk i last=>Z7.l1 k l last i) l (λpre t last o=>∃ r,o=some r/\Zbp r (Vn (·.lo) (·.hi) (λx:Spn=>!Zaq x.lo x.hi) last t)) ?_ ?_ (-1) K0 (ltK hl)
  ·intro last k
   exact ⟨-1,by simp only [Z7.l1,if_neg (show ¬ (l.length:Int)<(l.length:Int) by omega)],.inl ⟨rfl,rfl⟩⟩
  ·intro pre x t last k e ih
   obtain ⟨h1,h2⟩:=mid e;simp only [Z7.l1,if_pos h2.2,if_pos h2,h1,Za9.f,Option.bind_some,Zjo,Z7.j1,nxt hl e];by_cases c1:x.lo<=last
   ·exact ⟨pre.length,by simp [c1],.inr ⟨Ka (.inl c1),by omega⟩⟩
   ·by_cases c2:x.hi<x.lo
    ·exact ⟨pre.length,by simp [c1,c2],.inr ⟨Ka (.inr (.inl c2)),by omega⟩⟩
    ·by_cases c3:1114111<x.hi
     ·exact ⟨pre.length,by simp [c1,c2,c3],.inr ⟨Ka (.inr (.inr (.inl c3))),by omega⟩⟩
     ·rw [if_neg c1,if_neg c2,if_neg c3]
      cases c4:(!Zaq x.lo x.hi) with
      | false=>exact ⟨pre.length,by simp,.inr ⟨Ka (.inr (.inr (.inr c4))),by omega⟩⟩
      | true=>
       rw [Zbv c1 c2 c3 c4];simpa using ih x.hi
theorem Ztg (l:List Spn):∃ r,Z6.f l=some r/\Zbp r (Zag (·.lo) (·.hi) (λ_:Spn=>true) l):=by
 unfold Z6.f Zag;by_cases h:(65536:Int)<l.length
 ·exact ⟨65536,by rw [if_pos h],.inr ⟨by simp [show ¬ l.length<=65536 by omega],by decide⟩⟩
 ·rw [if_neg h]
  have hl:l.length<=Z2:=by unfold Z2;omega
  simp only [show l.length<=65536 by omega,decide_true,Bool.true_and];refine Xu (λk i last=>Z6.l1 k l last i) l (λpre t last o=>∃ r,o=some r/\Zbp r (Vn (·.lo) (·.hi) (λ_:Spn=>true) last t)) ?_ ?_ (-1) K0 (ltK hl)
  ·intro last k
   exact ⟨-1,by simp only [Z6.l1,if_neg (show ¬ (l.length:Int)<(l.length:Int) by omega)],.inl ⟨rfl,rfl⟩⟩
  ·intro pre x t last k e ih
   obtain ⟨h1,h2⟩:=mid e;simp only [Z6.l1,if_pos h2.2,if_pos h2,h1,Za9.f,Option.bind_some,Zn8,Z6.j1,nxt hl e];by_cases c1:x.lo<=last
   ·exact ⟨pre.length,by simp [c1],.inr ⟨Ka (.inl c1),by omega⟩⟩
   ·by_cases c2:x.hi<x.lo
    ·exact ⟨pre.length,by simp [c1,c2],.inr ⟨Ka (.inr (.inl c2)),by omega⟩⟩
    ·by_cases c3:1114111<x.hi
     ·exact ⟨pre.length,by simp [c1,c2,c3],.inr ⟨Ka (.inr (.inr (.inl c3))),by omega⟩⟩
     ·rw [if_neg c1,if_neg c2,if_neg c3]
      rw [Zbv c1 c2 c3 rfl];simpa using ih x.hi
theorem Zwj (l:List Chs):∃ r,Zx.f l=some r/\Zbp r (Zag (·.lo) (·.hi) (λx:Chs=>Hz x.is_ 1 18) l):=by
 unfold Zx.f Zag;by_cases h:(65536:Int)<l.length
 ·exact ⟨65536,by rw [if_pos h],.inr ⟨by simp [show ¬ l.length<=65536 by omega],by decide⟩⟩
 ·rw [if_neg h]
  have hl:l.length<=Z2:=by unfold Z2;omega
  simp only [show l.length<=65536 by omega,decide_true,Bool.true_and];refine Xu (λk i last=>Zx.l1 k l last i) l (λpre t last o=>∃ r,o=some r/\Zbp r (Vn (·.lo) (·.hi) (λx:Chs=>Hz x.is_ 1 18) last t)) ?_ ?_ (-1) K0 (ltK hl)
  ·intro last k
   exact ⟨-1,by simp only [Zx.l1,if_neg (show ¬ (l.length:Int)<(l.length:Int) by omega)],.inl ⟨rfl,rfl⟩⟩
  ·intro pre x t last k e ih
   obtain ⟨h1,h2⟩:=mid e;simp only [Zx.l1,if_pos h2.2,if_pos h2,h1,Vq.f,Option.bind_some,Zvn,Zx.j1,nxt hl e];by_cases c1:x.lo<=last
   ·exact ⟨pre.length,by simp [c1],.inr ⟨Ka (.inl c1),by omega⟩⟩
   ·by_cases c2:x.hi<x.lo
    ·exact ⟨pre.length,by simp [c1,c2],.inr ⟨Ka (.inr (.inl c2)),by omega⟩⟩
    ·by_cases c3:1114111<x.hi
     ·exact ⟨pre.length,by simp [c1,c2,c3],.inr ⟨Ka (.inr (.inr (.inl c3))),by omega⟩⟩
     ·rw [if_neg c1,if_neg c2,if_neg c3]
      cases c4:Hz x.is_ 1 18 with
      | false=>exact ⟨pre.length,by simp,.inr ⟨Ka (.inr (.inr (.inr c4))),by omega⟩⟩
      | true=>
       rw [Zbv c1 c2 c3 c4];simpa using ih x.hi
end
section
open Go.IntKind (i8 i16 i32 i64 u8 u16 u32 u64)
open Go.RowKit

theorem Zp1 {a b:Nat} (h:a<=Z2) (hb:b<=1):a+b<=most:=by unfold Z2 at h;unfold most;omega
theorem Zee {α β:Type} (L:Nat->Int->List β->Option (List β)) (xs:List α) (f:α->β) (hl:xs.length<=Z2)
  (hnil:∀ s k,L (k+1) (xs.length:Int) s=some s)
  (hcons:∀ pre x t s k,xs=pre++x::t->s.length+1<=most->L (k+1) (pre.length:Int) s=L k ((pre.length:Int)+1) (s++[f x])):L K0 0 []=some (xs.map f):=by
 have:=Xu (λk i s=>L k i s) xs (λpre t s o=>s.length=pre.length->o=some (s++t.map f)) (λs k hs=>by simp [hnil]) (λpre x t s k e ih hs=>by
  have hp:pre.length<=Z2:=by rw [e] at hl;simp at hl;omega
  show L (k+1) (pre.length:Int) s=_;rw [hcons pre x t s k e (by rw [hs];exact Zp1 hp (Nat.le_refl _)),ih (s++[f x]) (by simp [hs])];simp) [] K0 (ltK hl) rfl
 simpa using this
theorem Zfe (l:List Val) (hl:l.length<=Z2):Kh.f l=some (l.map λx=>(⟨x.lo,x.hi⟩:Spn)):=by
 refine Zee (λk i s=>Kh.l1 k l s i) l _ hl ?_ ?_
 ·intro s k
  simp only [Kh.l1,if_neg (show ¬ (l.length:Int)<(l.length:Int) by omega)]
 ·intro pre x t s k e hs
  obtain ⟨h1,h2⟩:=mid e;simp only [Kh.l1,if_pos h2.2,if_pos h2,h1,nxt hl e];exact if_pos hs
theorem Zgm (l:List Chs) (hl:l.length<=Z2):Km.f l=some (l.map λx=>(⟨x.lo,x.hi⟩:Spn)):=by
 refine Zee (λk i s=>Km.l1 k l s i) l _ hl ?_ ?_
 ·intro s k
  simp only [Km.l1,if_neg (show ¬ (l.length:Int)<(l.length:Int) by omega)]
 ·intro pre x t s k e hs
  obtain ⟨h1,h2⟩:=mid e;simp only [Km.l1,if_pos h2.2,if_pos h2,h1,nxt hl e];exact if_pos hs
def Zdd (a b:Int) (apart:Bool) (x:Val):Bool:=decide (x.n<a)||decide (b<x.n)||(apart&&Zaq x.lo x.hi)
theorem Zda (l:List Val) (a b:Int) (apart:Bool) (hl:l.length<=Z2):Yu.f l a b apart=some (l.map (Zdd a b apart)):=by
 refine Zee (λk i s=>Yu.l1 k l a b apart s i) l _ hl ?_ ?_
 ·intro s k
  simp only [Yu.l1,if_neg (show ¬ (l.length:Int)<(l.length:Int) by omega)]
 ·intro pre x t s k e hs
  obtain ⟨h1,h2⟩:=mid e;simp only [Yu.l1,if_pos h2.2,if_pos h2,h1,nxt hl e,Yu.j1,Zkm,Option.bind_some];have hone:∀ c:Bool,s.length+[c].length<=most:=λc=>hs;by_cases c1:x.n<a
  ·rw [if_pos c1,if_pos (hone _)];simp [Zdd,c1]
  ·rw [if_neg c1]
   by_cases c2:b<x.n
   ·rw [if_pos c2,if_pos (hone _)];simp [Zdd,c2]
   ·rw [if_neg c2]
    cases apart with
    | true=>rw [if_pos rfl,if_pos (hone _)];simp [Zdd,c1,c2]
    | false=>rw [if_neg (by decide),if_pos (hone _)];simp [Zdd,c1,c2]
def Hq (b:Int) (x:Chs):Bool:=!Hz x.is_ 1 b
theorem Zgo (x0:List Chs) (acc:List Bool) (i:Int) (go:List Bool->Int->Option (List Bool)) (l:List Int) (e:(rd x0 i).is_=l) (hl:l.length<=Z2) (b0:Bool) (hacc:acc.length+1<=most):
  Ym.l1 go K0 x0 acc i b0 0=go (acc++[b0||!l.all Zeh]) (i64.wrap (i+1)):=by
 refine Xu (λk j b=>Ym.l1 go k x0 acc i b j) l (λpre t b o=>o=go (acc++[b||!t.all Zeh]) (i64.wrap (i+1))) ?_ ?_ b0 K0 (ltK hl)
 ·intro b k
  simp only [Ym.l1,e,if_neg (show ¬ (l.length:Int)<(l.length:Int) by omega)];rw [if_pos (show acc.length+[b].length<=most from hacc)];simp
 ·intro pre x t b k e2 ih
  obtain ⟨h1,h2⟩:=mid e2;simp only [Ym.l1,e,if_pos h2.2,if_pos h2,h1,Ym.j1,nxt hl e2,Zmt,Option.bind_some]
  cases b with
  | true=>rw [if_pos rfl];simpa using ih true
  | false=>
   rw [if_neg (by decide),ih (!Zeh x)];cases h:Zeh x<;>simp [h]
theorem Zgn (l:List Chs) (b:Int) (hl:l.length<=Z2) (hi:∀ x∈l,x.is_.length<=Z2):Ym.f l b=some (l.map (Hq b)):=by
 refine Zee (λk i s=>Ym.l2 k l b s i) l _ hl ?_ ?_
 ·intro s k
  simp only [Ym.l2,if_neg (show ¬ (l.length:Int)<(l.length:Int) by omega)]
 ·intro pre x t s k e hs
  obtain ⟨h1,h2⟩:=mid e;have hx:=hi x (by rw [e];simp);simp only [Ym.l2,if_pos h2.2,if_pos h2,h1,Ym.j2];by_cases c1:(x.is_.length:Int)<1
  ·rw [if_pos c1,Zgo l s _ _ x.is_ (by rw [h1]) hx true hs,nxt hl e]
   simp [Hq,Hz,show ¬ (1:Int)<=(x.is_.length:Int) by omega]
  ·rw [if_neg c1,Zgo l s _ _ x.is_ (by rw [h1]) hx _ hs,nxt hl e]
   by_cases c2:b<(x.is_.length:Int)
   ·simp [Hq,Hz,c2,show ¬ (x.is_.length:Int)<=b by omega]
   ·simp [Hq,Hz,c2,show (1:Int)<=(x.is_.length:Int) by omega,show (x.is_.length:Int)<=b by omega]
def Zdc (w:Bool) (x:Chs):Bool:=w||decide (x.lo≠x.hi)||Zl3 x.lo||!Zeh x.lo
theorem Zmr (l:List Chs) (hl:l.length<=Z2) (hi:∀ x∈l,x.is_.length<=Z2):Y9.f l=some (l.map λx=>Zdc (Hq 2 x) x):=by
 unfold Y9.f;rw [Zgn l 2 hl hi,Option.bind_some];have:=Xu (λk i ws=>Y9.l1 k l ws i) l (λpre t ws o=>ws=(pre.map λx=>Zdc (Hq 2 x) x)++t.map (Hq 2)->o=some (l.map λx=>Zdc (Hq 2 x) x)) (λws k hw=>by
  simp only [Y9.l1,if_neg (show ¬ (l.length:Int)<(l.length:Int) by omega)];simp [hw]) (λpre x t ws k e ih hw=>by
  obtain ⟨h1,h2⟩:=mid e;have hwl:ws.length=l.length:=by rw [hw,e];simp
  have hmid:=mid (xs:=ws) (pre:=pre.map λx=>Zdc (Hq 2 x) x) (x:=Hq 2 x) (t:=t.map (Hq 2)) (by rw [hw];simp);simp only [List.length_map] at hmid;have hset:∀ c:Bool,ws.set (pre.length:Int).toNat c=(pre.map λx=>Zdc (Hq 2 x) x)++c::t.map (Hq 2):=λc=>by
   rw [hw,Int.toNat_natCast,List.set_append_right _ _ (by simp)];simp
  have fin:∀ c:Bool,c=Zdc (Hq 2 x) x->Y9.l1 k l (ws.set (pre.length:Int).toNat c) ((pre.length:Int)+1)=some (l.map λx=>Zdc (Hq 2 x) x):=λc hc=>by
   rw [hset];exact ih _ (by rw [hc];simp)
  simp only [Y9.l1,if_pos h2.2,if_pos h2,if_pos hmid.2,h1,hmid.1,Y9.j1,nxt hl e,Ztd,Zmt,Option.bind_some];by_cases c1:Hq 2 x=true
  ·rw [if_pos c1];exact fin true (by simp [Zdc,c1])
  ·rw [if_neg c1]
   by_cases c2:x.lo≠x.hi
   ·rw [if_pos c2];exact fin true (by simp [Zdc,c2])
   ·rw [if_neg c2]
    have c2':x.lo=x.hi:=Classical.not_not.1 c2;by_cases c3:Zl3 x.lo=true
    ·rw [if_pos c3];exact fin true (by simp [Zdc,c3])
    ·rw [if_neg c3];exact fin _ (by simp at c1 c3;simp [Zdc,c1,c2',c3];rw [<- c2'];simp [c3]))
  (l.map (Hq 2)) K0 (ltK hl) (by simp)
 exact this
def Zhk (pre:List Spn):Int:=(pre.getLast?.map (·.hi)).getD (-1)
theorem Z0t (xs pre t:List Spn) (x:Spn) (hl:xs.length<=Z2) (e:xs=pre++x::t) (hpre:∀ y∈pre,0<=y.hi):
  Ht.f xs (pre.length:Int)=some (decide (Zhk pre<x.lo)&&decide (x.lo<=x.hi)&&decide (x.hi<=1114111)):=by
 obtain ⟨h1,h2⟩:=mid e;unfold Ht.f;simp only [if_pos h2,h1,Ht.j1]
 rcases List.eq_nil_or_concat pre with hp | ⟨p,z,hp⟩
 ·subst hp
  simp only [Zhk,List.getLast?_nil,Option.map_none,Option.getD_none];by_cases c1:0<=x.lo
  ·by_cases c2:x.lo<=x.hi
   ·by_cases c3:x.hi<=1114111
    ·simp [c1,c2,c3,show (-1:Int)<x.lo by omega]
    ·simp [c1,c2,c3]
   ·simp [c1,c2]
  ·simp [c1,show ¬ (-1:Int)<x.lo by omega]
 ·subst hp
  have hz:0<=z.hi:=hpre z (by simp);obtain ⟨h3,h4⟩:=mid (xs:=xs) (pre:=p) (x:=z) (t:=x::t) (by rw [e];simp);have hlen:xs.length=p.length+1+(t.length+1):=by rw [e];simp;omega
  unfold Z2 at hl;have hw:i64.wrap (((p++[z]).length:Int)-1)=(p.length:Int):=by
   have e1:((p++[z]).length:Int)-1=(p.length:Int):=by simp
   rw [e1];exact w64 (by omega) (by omega)
  have hend:Zhk (p++[z])=z.hi:=by simp [Zhk]
  rw [List.concat_eq_append] at*
  simp only [hw,hend,h3,if_pos h4];have hne:¬ (((p++[z]).length:Int)=0):=by simp;omega
  by_cases c1:0<=x.lo
  ·by_cases c2:x.lo<=x.hi
   ·by_cases c3:x.hi<=1114111
    ·rw [if_pos c1,if_pos c2,if_pos c3,if_neg hne];simp [c2,c3]
    ·simp [c1,c2,c3]
   ·simp [c1,c2]
  ·simp [c1,show ¬ z.hi<x.lo by omega]
theorem Zyy (xs:List Spn) (ws:List Bool) (hw:ws.length=xs.length):∃ r,Xa.f xs ws=some r/\Zbp r (Zag (λp:Spn×Bool=>p.1.lo) (λp=>p.1.hi) (λp=>!p.2) (xs.zip ws)):=by
 unfold Xa.f Zag;have hz:(xs.zip ws).length=xs.length:=by simp [hw]
 rw [hz];by_cases h:(65536:Int)<xs.length
 ·exact ⟨65536,by rw [if_pos h],.inr ⟨by simp [show ¬ xs.length<=65536 by omega],by decide⟩⟩
 ·rw [if_neg h]
  have hl:xs.length<=Z2:=by unfold Z2;omega
  simp only [show xs.length<=65536 by omega,decide_true,Bool.true_and];have:=Xu (λk i (_:Unit)=>Xa.l1 k xs ws i) (xs.zip ws) (λpre t _ o=>(∀ y∈pre.map Prod.fst,0<=y.hi)->∃ r,o=some r/\Zbp r (Vn (λp:Spn×Bool=>p.1.lo) (λp=>p.1.hi) (λp=>!p.2) (Zhk (pre.map Prod.fst)) t)) (λ_ k _=>
   ⟨-1,by simp only [hz,Xa.l1,if_neg (show ¬ (xs.length:Int)<(xs.length:Int) by omega)],.inl ⟨rfl,rfl⟩⟩) (λpre x t _ k e ih hpre=>by
   obtain ⟨y,b⟩:=x;have ex:xs=pre.map Prod.fst++y::t.map Prod.fst:=by have:=congrArg (List.map Prod.fst) e;rw [List.map_fst_zip (by omega)] at this;simpa using this
   have ew:ws=pre.map Prod.snd++b::t.map Prod.snd:=by have:=congrArg (List.map Prod.snd) e;rw [List.map_snd_zip (by omega)] at this;simpa using this
   obtain ⟨h1,h2⟩:=mid ex;obtain ⟨h3,h4⟩:=mid ew;have hr:=Z0t xs _ _ y hl ex hpre;have hn:=nxt hl ex;simp only [List.length_map] at h1 h2 h3 h4 hr hn;simp only [Xa.l1,if_pos h2.2,hr,Option.bind_some,if_pos h4,h3,Xa.j1,hn];by_cases c1:Zhk (pre.map Prod.fst)<y.lo
   ·by_cases c2:y.lo<=y.hi
    ·by_cases c3:y.hi<=1114111
     ·simp only [c1,c2,c3,decide_true,Bool.and_self,Bool.not_true,Bool.false_eq_true,if_false]
      cases b with
      | true=>exact ⟨pre.length,by simp,.inr ⟨Ka (.inr (.inr (.inr rfl))),by omega⟩⟩
      | false=>
       rw [Zbv (lo:=λp:Spn×Bool=>p.1.lo) (hi:=λp:Spn×Bool=>p.1.hi) (may:=λp:Spn×Bool=>!p.2) (x:=(y,false)) (show ¬ y.lo<=_ by omega) (show ¬ y.hi<y.lo by omega) (show ¬ 1114111<y.hi by omega) rfl];have hend:Zhk ((pre++[(y,false)]).map Prod.fst)=y.hi:=by simp [Zhk]
       have hge:-1<=Zhk (pre.map Prod.fst):=by
        unfold Zhk
        cases hg:(pre.map Prod.fst).getLast? with
        | none=>simp
        | some z=>simp;have:=hpre z (List.mem_of_getLast? hg);omega
       have:=ih () (λz hz=>by
        simp only [List.map_append,List.map_cons,List.map_nil,List.mem_append,List.mem_singleton] at hz
        rcases hz with hz | rfl
        ·exact hpre z hz
        ·omega)
       rw [hend] at this;simpa using this
     ·exact ⟨pre.length,by simp [c3],.inr ⟨Ka (.inr (.inr (.inl (by show 1114111<y.hi;omega)))),by omega⟩⟩
    ·exact ⟨pre.length,by simp [c2],.inr ⟨Ka (.inr (.inl (by show y.hi<y.lo;omega))),by omega⟩⟩
   ·exact ⟨pre.length,by simp [c1],.inr ⟨Ka (.inl (by show y.lo<=_;omega)),by omega⟩⟩) () K0 (by rw [hz];exact ltK hl) (λy hy=>by simp at hy)
  exact this
theorem Zmh {α β:Type} (f:β->α) (lo hi:α->Int) (may:α->Bool):∀ (last:Int) (l:List β),Vn lo hi may last (l.map f)=Vn (λx=>lo (f x)) (λx=>hi (f x)) (λx=>may (f x)) last l
 | _,[]=>rfl
 | last,x::t=>by simp only [List.map_cons,Vn,Zmh f lo hi may (hi (f x)) t]
theorem Zp5 {α:Type} (l:List α) (sp:α->Spn) (wr:α->Bool):∃ r,Xa.f (l.map sp) (l.map wr)=some r/\Zbp r (Zag (λx=>(sp x).lo) (λx=>(sp x).hi) (λx=>!wr x) l):=by
 obtain ⟨r,h1,h2⟩:=Zyy (l.map sp) (l.map wr) (by simp);refine ⟨r,h1,?_⟩;have e:(l.map sp).zip (l.map wr)=l.map λx=>(sp x,wr x):=by rw [List.zip_map']
 rw [e] at h2;unfold Zag at h2 ⊢;rw [Zmh] at h2;simpa using h2
end
section
open Go.RowKit

def Zcm (x:Chs) (y:Val):Bool:=decide (y.lo<=x.hi)&&decide (x.lo<=y.hi)
def Zhe (st:List Val) (x:Chs):Bool:=Hz x.is_ 1 18&&!st.any (Zcm x)
def Zof (x:Chs):List Val->Bool
 | []=>true
 | y::_=>decide (x.hi<y.lo)
theorem Zse (st:List Val) (x:Chs) (hst:st.length<=Z2):∀ (rest done:List Val) (k:Nat),st=done++rest->rest.length<k->
  ∃ done' rest',st=done'++rest'/\(∃ p,done'=done++p/\∀ y∈p,y.hi<x.lo)/\(∀ y,rest'.head?=some y->¬ y.hi<x.lo)/\
   Yp.l1 k st x (done.length:Int)=some (Hz x.is_ 1 18&&Zof x rest',(done'.length:Int)):=by
 intro rest
 induction rest with
 | nil=>
  intro done k e hk;obtain ⟨k,rfl⟩:∃ j,k=j+1:=⟨k-1,by simp at hk;omega⟩;have hd:st.length=done.length:=by rw [e];simp
  refine ⟨done,[],e,⟨[],by simp,λy hy=>by cases hy⟩,λy hy=>by simp at hy,?_⟩;rw [Yp.l1,if_neg (by rw [hd];omega)];simp only [Yp.j2,Yp.j1,Zei x.is_ 1 18 (by decide),Option.bind_some,Bool.false_eq_true,if_false]
  cases Hz x.is_ 1 18 with
  | false=>simp
  | true=>simp [hd,Zof]
 | cons y rest ih=>
  intro done k e hk;obtain ⟨k,rfl⟩:∃ j,k=j+1:=⟨k-1,by simp at hk;omega⟩;obtain ⟨h1,h2⟩:=mid e;by_cases c:y.hi<x.lo
  ·obtain ⟨done',rest',e1,⟨p,e2,e3⟩,e4,e5⟩:=ih (done++[y]) k (by rw [e];simp) (by simp at hk;omega)
   refine ⟨done',rest',e1,⟨y::p,by rw [e2];simp,λz hz=>?_⟩,e4,?_⟩
   ·rcases List.mem_cons.1 hz with rfl | hz
    ·exact c
    ·exact e3 z hz
   ·rw [Yp.l1,if_pos h2.2,if_pos h2,h1]
    simp only [Yp.j2,c,decide_true,if_true,nxt hst e];simpa using e5
  ·refine ⟨done,y::rest,e,⟨[],by simp,λz hz=>by cases hz⟩,λz hz=>by simp at hz;subst hz;exact c,?_⟩
   rw [Yp.l1,if_pos h2.2,if_pos h2,h1];simp only [Yp.j2,Yp.j1,c,decide_false,Zei x.is_ 1 18 (by decide),Option.bind_some,Bool.false_eq_true,if_false]
   cases Hz x.is_ 1 18 with
   | false=>simp
   | true=>
    rw [if_pos rfl,if_neg (by omega),if_pos h2,h1];simp [Zof]
theorem Zbm {α:Type} {lo hi:α->Int} {may:α->Bool}:∀ {l:List α} {last:Int},Vn lo hi may last l=true->∀ y∈l,last<lo y/\lo y<=hi y/\hi y<=1114111/\may y=true
 | [],_,_,y,hy=>by cases hy
 | x::t,last,h,y,hy=>by
  simp only [Vn,Bool.and_eq_true,decide_eq_true_eq] at h
  obtain ⟨⟨⟨⟨h1,h2⟩,h3⟩,h4⟩,h5⟩:=h
  rcases List.mem_cons.1 hy with rfl | hy
  ·exact ⟨h1,h2,h3,h4⟩
  ·obtain ⟨a,b,c,d⟩:=Zbm h5 y hy
   exact ⟨by omega,b,c,d⟩
theorem Zmg {α:Type} {lo hi:α->Int} {may:α->Bool}:∀ {a b:List α} {last:Int},Vn lo hi may last (a++b)=true->∃ last',Vn lo hi may last' b=true
 | [],b,last,h=>⟨last,h⟩
 | x::a,b,last,h=>by
  simp only [List.cons_append,Vn,Bool.and_eq_true] at h
  exact Zmg h.2
theorem Zsy {st done rest:List Val} {x:Chs} (hs:∃ may:Val->Bool,Vn (·.lo) (·.hi) may (-1) st=true) (e:st=done++rest) (hd:∀ y∈done,y.hi<x.lo) (hr:∀ y,rest.head?=some y->¬ y.hi<x.lo) (hx:x.lo<=x.hi):Zof x rest=!st.any (Zcm x):=by
 obtain ⟨may,hs⟩:=hs;have hdone:done.any (Zcm x)=false:=by rw [List.any_eq_false];intro y hy;have:=hd y hy;simp [Zcm,show ¬ x.lo<=y.hi by omega]
 rw [e,List.any_append,hdone,Bool.false_or];rw [e] at hs;obtain ⟨last,hs⟩:=Zmg hs
 cases rest with
 | nil=>rfl
 | cons y t=>
  have hy:=hr y rfl;simp only [Vn,Bool.and_eq_true,decide_eq_true_eq] at hs;by_cases c:x.hi<y.lo
  ·have ht:(y::t).any (Zcm x)=false:=by
    rw [List.any_eq_false];intro z hz
    rcases List.mem_cons.1 hz with rfl | hz
    ·simp [Zcm,show ¬ z.lo<=x.hi by omega]
    ·have:=(Zbm hs.2 z hz).1
     simp [Zcm,show ¬ z.lo<=x.hi by omega]
   simp [Zof,c,ht]
  ·have:Zcm x y=true:=by simp [Zcm];omega
   simp [Zof,c,this]
theorem Zwk (b:Bk) (hs:∃ may:Val->Bool,Vn (·.lo) (·.hi) may (-1) b.status=true) (hst:b.status.length<=Z2):∃ r,Zce.f b=some r/\Zbp r (Zag (·.lo) (·.hi) (Zhe b.status) b.maps):=by
 unfold Zce.f Z4.f Zag;by_cases h:(65536:Int)<b.maps.length
 ·exact ⟨65536,by rw [if_pos h];rfl,.inr ⟨by simp [show ¬ b.maps.length<=65536 by omega],by decide⟩⟩
 ·rw [if_neg h]
  have hl:b.maps.length<=Z2:=by unfold Z2;omega
  simp only [show b.maps.length<=65536 by omega,decide_true,Bool.true_and];have:=Xu (λk i (s:Int×Int)=>Z4.l1 k b.names b.status b.maps b.class_ b.decomp b.excl b.bidi b.join b.marks b.script b.like b.maps s.1 s.2 i) b.maps
   (λpre t s o=>(∃ done rest,b.status=done++rest/\s.1=(done.length:Int)/\∀ y∈done,y.hi<=s.2)->∃ r,(o.bind λr=>some r.1)=some r/\Zbp r (Vn (·.lo) (·.hi) (Zhe b.status) s.2 t))
   (λs k _=>⟨-1,by simp only [Z4.l1,if_neg (show ¬ (b.maps.length:Int)<(b.maps.length:Int) by omega)];rfl,.inl ⟨rfl,rfl⟩⟩)
   (λpre x t s k e ih hinv=>by
    obtain ⟨h1,h2⟩:=mid e
    obtain ⟨done,rest,e1,e2,e3⟩:=hinv
    simp only [Z4.l1,if_pos h2.2,if_pos h2,h1,Vq.f,Option.bind_some,Z4.j1,nxt hl e]
    by_cases c1:x.lo<=s.2
    ·exact ⟨pre.length,by simp [c1],.inr ⟨Ka (.inl c1),by omega⟩⟩
    ·by_cases c2:x.hi<x.lo
     ·exact ⟨pre.length,by simp [c1,c2],.inr ⟨Ka (.inr (.inl c2)),by omega⟩⟩
     ·by_cases c3:1114111<x.hi
      ·exact ⟨pre.length,by simp [c1,c2,c3],.inr ⟨Ka (.inr (.inr (.inl c3))),by omega⟩⟩
      ·rw [if_neg c1,if_neg c2,if_neg c3]
       have hrl:rest.length<K0:=ltK (by rw [e1] at hst;simp at hst;omega)
       obtain ⟨done',rest',f1,⟨p,f2,f3⟩,f4,f5⟩:=Zse b.status x hst rest done K0 e1 hrl
       have hd':∀ y∈done',y.hi<x.lo:=by
        intro y hy
        rw [f2] at hy
        rcases List.mem_append.1 hy with hy | hy
        ·have:=e3 y hy;omega
        ·exact f3 y hy
       have hfree:=Zsy hs f1 hd' f4 (by omega)
       have happ:Yp.f x s.1 b.names b.status b.maps b.class_ b.decomp b.excl b.bidi b.join b.marks b.script b.like=some (Zhe b.status x,(done'.length:Int)):=by
        unfold Yp.f
        rw [e2,f5,hfree];rfl
       rw [happ,Option.bind_some]
       cases c4:Zhe b.status x with
       | false=>exact ⟨pre.length,by simp,.inr ⟨Ka (.inr (.inr (.inr c4))),by omega⟩⟩
       | true=>
        rw [Zbv c1 c2 c3 c4]
        have:=ih ((done'.length:Int),x.hi) ⟨done',rest',f1,rfl,λy hy=>by have:=hd' y hy;show y.hi<=x.hi;omega⟩
        simpa using this) (0,-1) K0 (ltK hl) ⟨[],b.status,rfl,rfl,λy hy=>by cases hy⟩
  exact this
theorem Zwh (x:Chs) (st:List Val) (hst:st.length<=Z2):K6.f x st=some (st.any (Zcm x)):=by
 refine Xu (λk i (_:Unit)=>K6.l1 k x st i) st (λpre t _ o=>o=some (t.any (Zcm x))) ?_ ?_ () K0 (ltK hst)
 ·intro _ k
  simp only [K6.l1,if_neg (show ¬ (st.length:Int)<(st.length:Int) by omega)];rfl
 ·intro pre y t _ k e ih
  obtain ⟨h1,h2⟩:=mid e;simp only [K6.l1,if_pos h2.2,if_pos h2,h1,K6.j1,nxt hst e,List.any_cons];have ih:=ih ();by_cases c1:y.lo<=x.hi
  ·by_cases c2:x.lo<=y.hi
   ·simp [c1,c2,Zcm]
   ·simpa [c1,c2,Zcm] using ih
  ·simpa [c1,Zcm] using ih
end
section
open Go.RowKit

theorem Ze8 {κ ν:Type} [DecidableEq κ] (l:List (κ×ν)) (x y:κ) (v:ν):U3 (Zbl l x v) y=if y=x then some v else U3 l y:=by
 induction l with
 | nil=>simp [Zbl,U3]
 | cons p l ih=>
  simp only [Zbl];by_cases h:x=p.1
  ·rw [if_pos h]
   simp only [U3,h];by_cases h2:y=p.1<;>simp [h2]
  ·rw [if_neg h]
   simp only [U3,ih];by_cases h2:y=p.1
   ·have:¬ y=x:=λe=>h (e▸h2)
    simp [h2,show ¬ p.1=x from λe=>h e.symm]
   ·simp [h2]
theorem Zpd {α:Type} {p q:α->Bool}:∀ {l:List α},(∀ x∈l,p x=true->q x=true)->l.countP p<=l.countP q:=λh=>List.countP_mono_left h
theorem Zsh {α:Type} {p q:α->Bool}:∀ {l:List α} {a:α},a∈l->(∀ x∈l,p x=true->q x=true)->p a=false->q a=true->l.countP p<l.countP q
 | [],_,ha,_,_,_=>by cases ha
 | b::l,a,ha,h,h1,h2=>by
  have hl:=Zpd (l:=l) (λx hx=>h x (List.mem_cons_of_mem _ hx))
  simp only [List.countP_cons]
  rcases List.mem_cons.1 ha with rfl | ha
  ·simp [h1,h2];omega
  ·have:=Zsh ha (λx hx=>h x (List.mem_cons_of_mem _ hx)) h1 h2
   have hb:=h b (List.mem_cons_self ..)
   cases hpb:p b with
   | false=>simp;omega
   | true=>rw [hpb] at hb;simp [hb rfl];omega

def paP:List Chs->Int->List Int
 | [],_=>[]
 | x::t,c=>if x.lo<=c/\c<=x.hi then x.is_ else paP t c
theorem Zfd (D:List Chs) (c:Int) (hl:D.length<=Z2):Kg.f D c=some (paP D c):=by
 refine Xu (λk i (_:Unit)=>Kg.l1 k D c i) D (λpre t _ o=>o=some (paP t c)) ?_ ?_ () K0 (ltK hl)
 ·intro _ k
  simp only [Kg.l1,if_neg (show ¬ (D.length:Int)<(D.length:Int) by omega)];rfl
 ·intro pre x t _ k e ih
  obtain ⟨h1,h2⟩:=mid e;have ih:=ih ();simp only [Kg.l1,if_pos h2.2,if_pos h2,h1,Kg.j1,nxt hl e,paP];by_cases c1:x.lo<=c
  ·by_cases c2:c<=x.hi
   ·simp [c1,c2]
   ·simpa [c1,c2] using ih
  ·simpa [c1] using ih
def Zbo (f:Int->Int):List Int->Int
 | []=>0
 | c::t=>f c+Zbo f t
theorem Zg8 {f g:Int->Int}:∀ {l:List Int},(∀ c∈l,f c<=g c)->Zbo f l<=Zbo g l
 | [],_=>Int.le_refl _
 | c::t,h=>by
  have:=Zg8 (l:=t) (λx hx=>h x (List.mem_cons_of_mem _ hx))
  have:=h c (List.mem_cons_self ..)
  simp only [Zbo];omega
theorem Zh9 {f g:Int->Int}:∀ {l:List Int},(∀ c∈l,f c=g c)->Zbo f l=Zbo g l
 | [],_=>rfl
 | c::t,h=>by
  rw [Zbo,Zbo,h c (List.mem_cons_self ..),Zh9 (l:=t) (λx hx=>h x (List.mem_cons_of_mem _ hx))]
theorem Zej {f:Int->Int}:∀ {l:List Int},(∀ c∈l,1<=f c)->(l.length:Int)<=Zbo f l
 | [],_=>by simp [Zbo]
 | c::t,h=>by
  have:=Zej (l:=t) (λx hx=>h x (List.mem_cons_of_mem _ hx))
  have:=h c (List.mem_cons_self ..)
  simp only [Zbo,List.length_cons];omega
theorem Zi9 {f:Int->Int}:∀ {l:List Int},(∀ c∈l,1<=f c)->∀ c∈l,f c<=Zbo f l
 | [],_,c,hc=>by cases hc
 | d::t,h,c,hc=>by
  have h1:=h d (List.mem_cons_self ..)
  have h2:=Zej (l:=t) (λx hx=>h x (List.mem_cons_of_mem _ hx))
  simp only [Zbo]
  rcases List.mem_cons.1 hc with rfl | hc
  ·omega
  ·have:=Zi9 (l:=t) (λx hx=>h x (List.mem_cons_of_mem _ hx)) c hc
   omega
theorem Zm0 (f:Int->Int):∀ (a b:List Int),Zbo f (a++b)=Zbo f a+Zbo f b
 | [],b=>by simp [Zbo]
 | c::a,b=>by simp only [List.cons_append,Zbo,Zm0 f a b];omega
def cap (s:Int):Int:=if 18<s then 19 else s
def Lc (P:Int->List Int):Nat->Int->Int
 | 0,c=>if P c=[] then 1 else 19
 | n+1,c=>if P c=[] then 1 else cap (Zbo (Lc P n) (P c))
theorem Zb9 {P:Int->List Int} {c:Int} (h:P c=[]) (n:Nat):Lc P n c=1:=by cases n<;>simp [Lc,h]
theorem Zck (P:Int->List Int):∀ (n:Nat) (c:Int),1<=Lc P n c/\Lc P n c<=19
 | 0,c=>by unfold Lc;split<;>omega
 | n+1,c=>by
  unfold Lc
  by_cases h:P c=[]
  ·rw [if_pos h];omega
  ·rw [if_neg h]
   have h1:=Zej (f:=Lc P n) (l:=P c) (λx _=>(Zck P n x).1)
   have h2:0<(P c).length:=List.length_pos_iff.2 h
   unfold cap;split<;>omega
theorem Zq1 {a b:Int} (h:a<=b):cap a<=cap b:=by unfold cap;split<;>split<;>omega
theorem Zld (P:Int->List Int):∀ (n:Nat) (c:Int),Lc P (n+1) c<=Lc P n c
 | 0,c=>by
  by_cases h:P c=[]
  ·rw [Zb9 h,Zb9 h];omega
  ·have:=(Zck P 1 c).2
   rw [show Lc P 0 c=19 by simp [Lc,h]];exact this
 | n+1,c=>by
  by_cases h:P c=[]
  ·rw [Zb9 h,Zb9 h];omega
  ·rw [Lc,if_neg h,Lc,if_neg h]
   exact Zq1 (Zg8 λx _=>Zld P n x)
theorem Zzq (P:Int->List Int) {n m:Nat} (h:n<=m) (c:Int):Lc P m c<=Lc P n c:=by
 induction h with
 | refl=>exact Int.le_refl _
 | step _ ih=>exact Int.le_trans (Zld P _ c) ih
theorem Zqm (P:Int->List Int):∀ (n:Nat) (c:Int),Lc P n c<=18->Lc P (n+1) c=Lc P n c
 | 0,c,h=>by
  by_cases e:P c=[]
  ·rw [Zb9 e,Zb9 e]
  ·simp [Lc,e] at h
 | n+1,c,h=>by
  by_cases e:P c=[]
  ·rw [Zb9 e,Zb9 e]
  ·rw [Lc,if_neg e] at h
   have hs:Zbo (Lc P n) (P c)<=18:=by unfold cap at h;split at h<;>omega
   rw [Lc,if_neg e,Lc,if_neg e,Zh9 (λx hx=>Zqm P n x ?_)]
   have:=Zi9 (f:=Lc P n) (l:=P c) (λx _=>(Zck P n x).1) x hx
   omega
theorem Zgx (P:Int->List Int) {n m:Nat} (h:n<=m) {c:Int} (hc:Lc P n c<=18):Lc P m c=Lc P n c:=by
 induction h with
 | refl=>rfl
 | step _ ih=>rw [Zqm P _ c (by rw [ih];exact hc),ih]
theorem Z2v (P:Int->List Int) {e:Nat} {c:Int} (h:Lc P e c<=18) (d:Nat):Lc P e c<=Lc P d c:=by
 rcases Nat.le_total e d with h1 | h1
 ·rw [Zgx P h1 h];exact Int.le_refl _
 ·exact Zzq P h1 c

theorem Zyx (b:Bk) (hD:b.decomp.length<=65536) (hP:∀ c,(paP b.decomp c).length<=2):∀ (n:Nat),n<=b.decomp.length+1->∀ (k:Nat) (c lvl:Int),lvl=(b.decomp.length:Int)+1-n->n<k->
  Qd.f k b c lvl=some (Lc (paP b.decomp) n c):=by
 intro n;have hl:b.decomp.length<=Z2:=by unfold Z2;omega
 induction n with
 | zero=>
  intro _ k c lvl e hk;obtain ⟨k,rfl⟩:∃ j,k=j+1:=⟨k-1,by omega⟩;rw [Qd.f,Qd.b,V3.f,Zfd _ _ hl,Option.bind_some,Option.bind_some];by_cases h:paP b.decomp c=[]
  ·rw [if_pos (by rw [h];rfl),Zb9 h]
  ·rw [if_neg (by intro h2;exact h (List.length_eq_zero_iff.1 (by omega))),if_pos (by omega)]
   simp [Lc,h]
 | succ n ih=>
  intro hn k c lvl e hk;obtain ⟨k,rfl⟩:∃ j,k=j+1:=⟨k-1,by omega⟩;rw [Qd.f,Qd.b,V3.f,Zfd _ _ hl,Option.bind_some,Option.bind_some];by_cases h:paP b.decomp c=[]
  ·rw [if_pos (by rw [h];rfl),Zb9 h]
  ·rw [if_neg (by intro h2;exact h (List.length_eq_zero_iff.1 (by omega))),if_neg (by omega),Lc,if_neg h]
   have hpl:(paP b.decomp c).length<=Z2:=by have:=hP c;unfold Z2;omega
   have:=Xu (λkk i s=>Qd.l1 kk (Qd.f k) b lvl (paP b.decomp c) s i) (paP b.decomp c)
    (λpre t s o=>0<=s->s<=37->o=some (cap (s+Zbo (Lc (paP b.decomp) n) t)))
    (λs kk h0 h1=>by
     simp only [Qd.l1,if_neg (show ¬ ((paP b.decomp c).length:Int)<((paP b.decomp c).length:Int) by omega),Zbo,cap,Int.add_zero]
     split<;>rfl)
    (λpre x t s kk e2 ih2 h0 h1=>by
     obtain ⟨h3,h4⟩:=mid e2
     simp only [Qd.l1,if_pos h4.2,if_pos h4,h3,Qd.j1,nxt hpl e2]
     have hx:=Zck (paP b.decomp) n x
     by_cases c1:s<=18
     ·rw [if_pos c1,w64 (by omega) (by omega),ih (by omega) k x (lvl+1) (by omega) (by omega),Option.bind_some,w64 (by omega) (by omega)]
      rw [ih2 _ (by omega) (by omega),Zbo,Int.add_assoc]
     ·rw [if_neg c1,ih2 _ h0 h1]
      have h5:(0:Int)<=Zbo (Lc (paP b.decomp) n) t:=by
       have:=Zej (f:=Lc (paP b.decomp) n) (l:=t) (λy _=>(Zck _ n y).1)
       omega
      have h6:18<s+Zbo (Lc (paP b.decomp) n) (x::t):=by simp only [Zbo];omega
      rw [cap,cap,if_pos (by omega),if_pos h6]) 0 K0 (ltK hpl) (by omega) (by omega)
   rw [Int.zero_add] at this;exact this

abbrev Mem:=List (Int×Int)
def Z3i (D:List Chs) (m:Mem):Prop:=∀ c,(U3 m c=none->paP D c=[])/\(∀ j,U3 m c=some j->0<=j/\j<(D.length:Int)/\(rd D j).lo=c)
def un (N:Nat) (M:Mem):Nat:=(List.range N).countP (λj:Nat=>(U3 M (j:Int)).isNone)
def pos (N:Nat) (M:Mem):Nat:=(List.range N).countP (λj:Nat=>decide (0<(U3 M (j:Int)).getD 0))
def Mok (D:List Chs) (M:Mem):Prop:=∀ j n,U3 M j=some n->0<=j/\j<(D.length:Int)/\(n=0\/(0<n/\n<=18/\Lc (paP D) (pos D.length M) (rd D j).lo=n))
def Ext (M M':Mem):Prop:=(∀ j n,U3 M j=some n->U3 M' j=some n)/\(∀ j,U3 M' j=some 0->U3 M j=some 0)
def Zer (D:List Chs) (M:Mem) (d:Nat):Prop:=∀ j,U3 M j=some 0->18<Lc (paP D) d (rd D j).lo
theorem Ext.refl (M:Mem):Ext M M:=⟨λ_ _ h=>h,λ_ h=>h⟩
theorem Ext.trans {a b c:Mem} (h:Ext a b) (g:Ext b c):Ext a c:=⟨λj n e=>g.1 j n (h.1 j n e),λj e=>h.2 j (g.2 j e)⟩
theorem Ext.un {M M':Mem} (h:Ext M M') (N:Nat):un N M'<=un N M:=Zpd λj _ hj=>by
 cases e:U3 M (j:Int) with
 | none=>rfl
 | some n=>rw [h.1 _ _ e] at hj;simp at hj
theorem Ext.pos {M M':Mem} (h:Ext M M') (N:Nat):pos N M<=pos N M':=Zpd λj _ hj=>by
 cases e:U3 M (j:Int) with
 | none=>rw [e] at hj;simp at hj
 | some n=>rw [h.1 _ _ e];rw [e] at hj;exact hj
theorem Mok.grow {D:List Chs} {M M':Mem} (h:Mok D M) (hp:pos D.length M<=pos D.length M') {j n:Int} (e:U3 M j=some n):0<=j/\j<(D.length:Int)/\(n=0\/(0<n/\n<=18/\Lc (paP D) (pos D.length M') (rd D j).lo=n)):=by
 obtain ⟨a,b,c⟩:=h j n e;refine ⟨a,b,?_⟩
 rcases c with c | ⟨c1,c2,c3⟩
 ·exact .inl c
 ·exact .inr ⟨c1,c2,by rw [Zgx _ hp (by omega)];exact c3⟩
theorem Zh2 {α:Type} [Inhabited α] {D:List α} {i:Int} (h0:0<=i) (h1:i<(D.length:Int)):rd D i∈D:=List.mem_of_getElem? (Zp4 h0 h1)
def Z20 (D:List Chs) (M:Mem) (i:Int) (o:Option (Int×Mem)):Prop:=∃ r M',o=some (r,M')/\
 ((r=0/\∀ d,Zer D M d->18<Lc (paP D) d (rd D i).lo)\/(0<r/\r<=18/\Mok D M'/\Lc (paP D) (pos D.length M') (rd D i).lo=r/\Ext M M'))
theorem Zzi {D:List Chs} {m:Mem} (hD:D.length<=65536) (hix:Z3i D m) (hrow:∀ x∈D,paP D x.lo=x.is_) (hk:∀ x∈D,1<=x.is_.length/\x.is_.length<=2):
  ∀ (k:Nat) (M:Mem) (i:Int),Mok D M->0<=i->i<(D.length:Int)->un D.length M<k->Z20 D M i (Z1.f k i D m M):=by
 intro k
 induction k with
 | zero=>intro M i _ _ _ h;omega
 | succ k ih=>
  intro M i hM hi0 hi1 hun;rw [Z1.f,Z1.b]
  cases e:U3 M i with
  | some n=>
   refine ⟨n,M,by simp,?_⟩;obtain ⟨_,_,c⟩:=hM i n e
   rcases c with rfl | ⟨c1,c2,c3⟩
   ·exact .inl ⟨rfl,λd hz=>hz i e⟩
   ·exact .inr ⟨c1,c2,hM,c3,Ext.refl M⟩
  | none=>
   rw [if_neg (by simp),if_pos ⟨hi0,hi1⟩];have hmem:=Zh2 hi0 hi1;have hpa:=hrow _ hmem;have hlen:=hk _ hmem;have hpn:paP D (rd D i).lo≠[]:=by rw [hpa];intro h;rw [h] at hlen;simp at hlen
   have hi2:((i.toNat:Nat):Int)=i:=by omega
   have him:i.toNat∈List.range D.length:=by rw [List.mem_range];omega
   have g0:=Ze8 M i;have hp0:pos D.length M<=pos D.length (Zbl M i 0):=Zpd λj _ hj=>by
    rw [g0];by_cases c:(j:Int)=i
    ·rw [c,e] at hj;simp at hj
    ·rw [if_neg c];exact hj
   have hM0:Mok D (Zbl M i 0):=by
    intro j n ej;rw [g0] at ej;by_cases c:j=i
    ·rw [if_pos c] at ej
     have:(0:Int)=n:=by simpa using ej
     exact ⟨by omega,by omega,.inl this.symm⟩
    ·rw [if_neg c] at ej
     exact hM.grow hp0 ej
   have hu0:un D.length (Zbl M i 0)<un D.length M:=Zsh him (λj _ hj=>by
     rw [g0] at hj;by_cases c:(j:Int)=i
     ·rw [if_pos c] at hj;simp at hj
     ·rw [if_neg c] at hj;exact hj) (by simp [hi2,g0]) (by simp [hi2,e])
   have hz0:∀ M1 d,Ext (Zbl M i 0) M1->Zer D M d->18<Lc (paP D) d (rd D i).lo->Zer D M1 d:=by
    intro M1 d hx hz h j ej;have:=hx.2 j ej;rw [g0] at this;by_cases c:j=i
    ·rw [c];exact h
    ·rw [if_neg c] at this;exact hz j this
   have h19:Lc (paP D) 0 (rd D i).lo=19:=by simp [Lc,hpn]
   have hl:(rd D i).is_.length<=Z2:=by unfold Z2;omega
   refine Xu (λkk x (s:Mem×Int)=>Z1.l1 kk (Z1.f k) D m i s.1 s.2 x) (rd D i).is_
    (λpre t s o=>Mok D s.1->Ext (Zbl M i 0) s.1->0<=s.2->s.2<=18*(pre.length:Int)->(∀ c∈pre,Lc (paP D) (pos D.length s.1) c<=18)->s.2=Zbo (Lc (paP D) (pos D.length s.1)) pre->Z20 D M i o)
    ?_ ?_ (Zbl M i 0,0) K0 (ltK hl) hM0 (Ext.refl _) (Int.le_refl _) (by simp) (λc hc=>by cases hc) rfl
   ·intro ⟨M1,s⟩ kk hM1 hx h0 h1 h2 h3
    simp only at hM1 hx h0 h1 h2 h3;simp only [Z1.l1,if_neg (show ¬ (((rd D i).is_).length:Int)<(((rd D i).is_).length:Int) by omega)];by_cases c:18<s
    ·rw [if_pos c]
     refine ⟨0,M1,rfl,.inl ⟨rfl,λd _=>?_⟩⟩
     cases d with
     | zero=>rw [h19];omega
     | succ d=>
      rw [Lc,if_neg hpn,hpa];have:s<=Zbo (Lc (paP D) d) (rd D i).is_:=by rw [h3];exact Zg8 λx hx=>Z2v _ (h2 x hx) d
      unfold cap;rw [if_pos (by omega)];omega
    ·rw [if_neg c]
     have hs1:1<=s:=by have:=Zej (f:=Lc (paP D) (pos D.length M1)) (l:=(rd D i).is_) (λy _=>(Zck _ _ y).1);omega
     have e1:U3 M1 i=some 0:=hx.1 i 0 (by rw [g0,if_pos rfl]);have g1:=Ze8 M1 i;have hp1:pos D.length M1<pos D.length (Zbl M1 i s):=Zsh him (λj _ hj=>by
       rw [g1];by_cases c:(j:Int)=i
       ·rw [c,e1] at hj;simp at hj
       ·rw [if_neg c];exact hj) (by simp [hi2,e1]) (by simp only [hi2,g1,if_true,Option.getD_some];simp;omega)
     have hL:Lc (paP D) (pos D.length M1+1) (rd D i).lo=s:=by rw [Lc,if_neg hpn,hpa,<- h3];unfold cap;rw [if_neg c]
     have hL2:Lc (paP D) (pos D.length (Zbl M1 i s)) (rd D i).lo=s:=by rw [Zgx _ hp1 (by rw [hL];omega),hL]
     refine ⟨s,_,rfl,.inr ⟨by omega,by omega,?_,hL2,?_,?_⟩⟩
     ·intro j n ej
      rw [g1] at ej;by_cases c:j=i
      ·rw [if_pos c] at ej
       have:s=n:=by simpa using ej
       subst this;exact ⟨by omega,by omega,.inr ⟨by omega,by omega,by rw [c];exact hL2⟩⟩
      ·rw [if_neg c] at ej
       exact hM1.grow (Nat.le_of_lt hp1) ej
     ·intro j n ej
      have hne:j≠i:=λh=>by rw [h,e] at ej;cases ej
      rw [g1,if_neg hne];exact hx.1 j n (by rw [g0,if_neg hne];exact ej)
     ·intro j ej
      rw [g1] at ej;by_cases c:j=i
      ·rw [if_pos c] at ej
       have:s=0:=by simpa using ej
       omega
      ·rw [if_neg c] at ej
       have:=hx.2 j ej;rw [g0,if_neg c] at this;exact this
   ·intro pre c t ⟨M1,s⟩ kk e2 ih2 hM1 hx h0 h1 h2 h3
    simp only at hM1 hx h0 h1 h2 h3;obtain ⟨h4,h5⟩:=mid e2;have hpl:pre.length<=1:=by
     have:(rd D i).is_.length=pre.length+(t.length+1):=by rw [e2];simp
     omega
    simp only [Z1.l1,if_pos h5.2,if_pos h5,h4,Z1.j1,nxt hl e2];have hin:c∈(rd D i).is_:=by rw [e2];simp
    cases em:U3 m c with
    | none=>
     simp only [Option.isSome_none,Bool.false_eq_true,if_false];rw [if_neg (by decide),w64 (by omega) (by omega)];have hc:=Zb9 ((hix c).1 em);refine ih2 (M1,s+1) hM1 hx (by show 0<=s+1;omega) (by show s+1<=_;simp;omega) ?_ ?_
     ·intro d hd
      rcases List.mem_append.1 hd with hd | hd
      ·exact h2 d hd
      ·rw [List.mem_singleton.1 hd,hc];omega
     ·show s+1=_
      rw [Zm0,<- h3];simp [Zbo,hc]
    | some j=>
     obtain ⟨j0,j1,j2⟩:=(hix c).2 j em;simp only [Option.isSome_some,if_true,Option.getD_some];obtain ⟨r,M2,er,hr⟩:=ih M1 j hM1 j0 j1 (by have:=hx.un D.length;omega);rw [er,Option.bind_some];rw [j2] at hr
     rcases hr with ⟨rfl,hr⟩ | ⟨r0,r1,hM2,r2,hx2⟩
     ·rw [if_pos rfl]
      refine ⟨0,M2,rfl,.inl ⟨rfl,λd=>?_⟩⟩
      induction d with
      | zero=>intro _;rw [h19];omega
      | succ d ihd=>
       intro hz;have hz':Zer D M d:=λj ej=>Int.lt_of_lt_of_le (hz j ej) (Zld _ d _);have h6:=hr d (hz0 M1 d hx hz' (ihd hz'));rw [Lc,if_neg hpn,hpa];have:=Zi9 (f:=Lc (paP D) d) (l:=(rd D i).is_) (λy _=>(Zck _ _ y).1) c hin;unfold cap;rw [if_pos (by omega)];omega
     ·rw [if_neg (by omega),w64 (by omega) (by omega)]
      have hp:=hx2.pos D.length;refine ih2 (M2,s+r) hM2 (hx.trans hx2) (by show 0<=s+r;omega) (by show s+r<=_;simp;omega) ?_ ?_
      ·intro d hd
       rcases List.mem_append.1 hd with hd | hd
       ·show Lc _ (pos D.length M2) d<=18
        rw [Zgx _ hp (h2 d hd)];exact h2 d hd
       ·rw [List.mem_singleton.1 hd];show Lc _ (pos D.length M2) c<=18;omega
      ·show s+r=Zbo (Lc (paP D) (pos D.length M2)) _
       rw [Zm0,Zh9 (λd hd=>Zgx _ hp (h2 d hd)),<- h3];simp [Zbo,r2]
end
section
open Go.RowKit

def Zj6 (x y:Chs):Bool:=decide ((x.is_.length:Int)=2)&&decide ((y.is_.length:Int)=2)&&decide (rd x.is_ 0=rd y.is_ 0)&&decide (rd x.is_ 1=rd y.is_ 1)
def Zeb (D:List Chs):List Chs->List Chs->Bool
 | _,[]=>true
 | pre,x::t=>decide (Lc (paP D) (D.length+1) x.lo<=18)&&!pre.any (Zj6 x)&&Zeb D (pre++[x]) t
def Zm2 (x:Chs):Vector Int 2:=#v[rd x.is_ 0,rd x.is_ 1]
theorem Zu0 (x y:Chs):Zm2 x=Zm2 y↔rd x.is_ 0=rd y.is_ 0/\rd x.is_ 1=rd y.is_ 1:=by
 unfold Zm2;constructor
 ·intro h
  have h:=congrArg Vector.toList h;simpa using h
 ·rintro ⟨h1,h2⟩
  rw [h1,h2]
structure Dok (D:List Chs):Prop where
 len:D.length<=65536
 one:∀ x∈D,x.lo=x.hi
 row:∀ x∈D,paP D x.lo=x.is_
 kid:∀ x∈D,1<=x.is_.length/\x.is_.length<=2
theorem Zup:∀ (D:List Chs) (last:Int),Vn (·.lo) (·.hi) Zb5 last D=true->∀ x∈D,paP D x.lo=x.is_
 | [],_,_,x,hx=>by cases hx
 | y::t,last,h,x,hx=>by
  simp only [Vn,Bool.and_eq_true,decide_eq_true_eq] at h
  rcases List.mem_cons.1 hx with rfl | hx
  ·rw [paP,if_pos (by omega)]
  ·have:=(Zbm h.2 x hx).1
   rw [paP,if_neg (by omega)]
   exact Zup t _ h.2 x hx
theorem Dok.mk' {D:List Chs} (h:Zag (·.lo) (·.hi) Zb5 D=true):Dok D:=by
 simp only [Zag,Bool.and_eq_true,decide_eq_true_eq] at h;have g:∀ x∈D,Zb5 x=true:=λx hx=>(Zbm h.2 x hx).2.2.2;refine ⟨h.1,λx hx=>?_,Zup D _ h.2,λx hx=>?_⟩
 ·have:=g x hx;simp only [Zb5,Bool.and_eq_true,decide_eq_true_eq] at this;exact this.1.1.1
 ·have:=g x hx;simp only [Zb5,Hz,Bool.and_eq_true,decide_eq_true_eq] at this
  have:=this.1.2.1;omega
theorem Dok.none {D:List Chs} {c:Int}:∀ {l:List Chs},(∀ x∈l,x.lo=x.hi)->(∀ x∈l,x.lo≠c)->paP l c=[]
 | [],_,_=>rfl
 | x::t,h1,h2=>by
  have a:=h1 x (List.mem_cons_self ..)
  have b:=h2 x (List.mem_cons_self ..)
  rw [paP,if_neg (by omega)]
  exact Dok.none (D:=D) (λy hy=>h1 y (List.mem_cons_of_mem _ hy)) (λy hy=>h2 y (List.mem_cons_of_mem _ hy))
theorem Zuq {D:List Chs} (h:Dok D) (c:Int):(paP D c).length<=2:=by
 have:∀ l:List Chs,(∀ x∈l,x.is_.length<=2)->(paP l c).length<=2:=by
  intro l
  induction l with
  | nil=>intro _;simp [paP]
  | cons x t ih=>
   intro h;unfold paP;split
   ·exact h x (List.mem_cons_self ..)
   ·exact ih λy hy=>h y (List.mem_cons_of_mem _ hy)
 exact this D λx hx=>(h.kid x hx).2
theorem Z2l (N:Nat) (M:Mem):pos N M<=N:=by
 have:=List.countP_le_length (p:=λj:Nat=>decide (0<(U3 M (j:Int)).getD 0)) (l:=List.range N);simpa [pos] using this
theorem Z32 (N:Nat) (M:Mem):un N M<=N:=by
 have:=List.countP_le_length (p:=λj:Nat=>(U3 M (j:Int)).isNone) (l:=List.range N);simpa [un] using this
theorem Zqy {D:List Chs} {m:Mem} (h:Dok D) (hix:Z3i D m):∃ r,Qr.l1 K0 D m [] [] 0=some r/\Zbp r (Zeb D [] D):=by
 have hl:D.length<=Z2:=by have:=h.len;unfold Z2;omega
 refine Xu (λk i (s:List (Vector Int 2×Bool)×Mem)=>Qr.l1 k D m s.1 s.2 i) D
  (λpre t s o=>Mok D s.2->(∀ j,U3 s.2 j≠some 0)->(∀ v,(U3 s.1 v).getD false=true↔∃ x∈pre,(x.is_.length:Int)=2/\Zm2 x=v)->∃ r,o=some r/\Zbp r (Zeb D pre t))
  ?_ ?_ ([],[]) K0 (ltK hl) (λj n e=>by cases e) (λj e=>by cases e) (λv=>by simp [U3])
 ·intro ⟨S,M⟩ k _ _ _
  exact ⟨-1,by simp only [Qr.l1,if_neg (show ¬ (D.length:Int)<(D.length:Int) by omega)],.inl ⟨rfl,rfl⟩⟩
 ·intro pre x t ⟨S,M⟩ k e ih hM hz hS
  simp only at hM hz hS;obtain ⟨h1,h2⟩:=mid e;have hx:x∈D:=by rw [e];simp
  obtain ⟨r,M',er,hr⟩:=Zzi h.len hix h.row h.kid K0 M (pre.length:Int) hM h2.1 h2.2 (Nat.lt_of_le_of_lt (Z32 _ _) (ltK hl));rw [h1] at hr;simp only [Qr.l1,if_pos h2.2,if_pos h2,er,Option.bind_some,h1,Qr.j1,nxt hl e,Zeb]
  rcases hr with ⟨rfl,hr⟩ | ⟨r0,r1,hM',r2,hE⟩
  ·have:=hr (D.length+1) λj ej=>absurd ej (hz j)
   exact ⟨_,by rw [if_pos rfl],.inr ⟨by simp [show ¬ Lc (paP D) (D.length+1) x.lo<=18 by omega],by omega⟩⟩
  ·rw [if_neg (by omega)]
   have hL:Lc (paP D) (D.length+1) x.lo<=18:=by rw [Zgx _ (Nat.le_succ_of_le (Z2l D.length M')) (by omega)];omega
   have hz':∀ j,U3 M' j≠some 0:=λj ej=>hz j (hE.2 j ej);simp only [hL,decide_true,Bool.true_and];by_cases c:(x.is_.length:Int)=2
   ·rw [if_pos c,if_pos ⟨Int.le_refl _,by omega⟩,if_pos ⟨by omega,by omega⟩]
    have hany:(pre.any (Zj6 x))=(U3 S (Zm2 x)).getD false:=by
     rw [Bool.eq_iff_iff,hS,List.any_eq_true];constructor
     ·rintro ⟨y,hy,ht⟩
      simp only [Zj6,Bool.and_eq_true,decide_eq_true_eq] at ht;exact ⟨y,hy,ht.1.1.2,((Zu0 x y).2 ⟨ht.1.2,ht.2⟩).symm⟩
     ·rintro ⟨y,hy,hy2,ht⟩
      have:=(Zu0 x y).1 ht.symm;exact ⟨y,hy,by simp [Zj6,c,hy2,this.1,this.2]⟩
    rw [hany]
    cases c2:(U3 S (Zm2 x)).getD false with
    | true=>exact ⟨(pre.length:Int),by rw [show (#v[rd x.is_ 0,rd x.is_ 1]:Vector Int 2)=Zm2 x from rfl,if_pos c2],.inr ⟨by simp,by omega⟩⟩
    | false=>
     rw [show (#v[rd x.is_ 0,rd x.is_ 1]:Vector Int 2)=Zm2 x from rfl,if_neg (by simp [c2])];simp only [Bool.not_false,Bool.true_and];refine ih (Zbl S (Zm2 x) true,M') hM' hz' λv=>?_;show (U3 (Zbl S (Zm2 x) true) v).getD false=true↔_;rw [Ze8];by_cases c3:v=Zm2 x
     ·rw [if_pos c3];simp only [Option.getD_some,true_iff];exact ⟨x,by simp,c,c3.symm⟩
     ·rw [if_neg c3,hS]
      constructor
      ·rintro ⟨y,hy,h3⟩;exact ⟨y,by simp [hy],h3⟩
      ·rintro ⟨y,hy,h3,h4⟩
       rcases List.mem_append.1 hy with hy | hy
       ·exact ⟨y,hy,h3,h4⟩
       ·rw [List.mem_singleton.1 hy] at h4;exact absurd h4.symm c3
   ·rw [if_neg c]
    have hany:pre.any (Zj6 x)=false:=by rw [List.any_eq_false];intro y _;simp [Zj6,c]
    rw [hany];simp only [Bool.not_false,Bool.true_and];refine ih (S,M') hM' hz' λv=>?_;show (U3 S v).getD false=true↔_;rw [hS];constructor
    ·rintro ⟨y,hy,h3⟩;exact ⟨y,by simp [hy],h3⟩
    ·rintro ⟨y,hy,h3,h4⟩
     rcases List.mem_append.1 hy with hy | hy
     ·exact ⟨y,hy,h3,h4⟩
     ·rw [List.mem_singleton.1 hy] at h3;exact absurd h3 c
theorem Znd {D:List Chs} (h:Dok D):∃ r,Qr.f D=some r/\Zbp r (Zeb D [] D):=by
 have hl:D.length<=Z2:=by have:=h.len;unfold Z2;omega
 unfold Qr.f;refine Xu (λk i (s:Mem)=>Qr.l2 k D s i) D
  (λpre t s o=>(∀ c,U3 s c=none->∀ x∈pre,x.lo≠c)->(∀ c j,U3 s c=some j->0<=j/\j<(D.length:Int)/\(rd D j).lo=c)->∃ r,o=some r/\Zbp r (Zeb D [] D))
  ?_ ?_ [] K0 (ltK hl) (λc _ x hx=>by cases hx) (λc j hj=>by cases hj)
 ·intro M k h1 h2
  simp only [Qr.l2,if_neg (show ¬ (D.length:Int)<(D.length:Int) by omega)];exact Zqy h λc=>⟨λe=>Dok.none (D:=D) h.one (h1 c e),λj e=>h2 c j e⟩
 ·intro pre x t M k e ih h1 h2
  obtain ⟨h3,h4⟩:=mid e;simp only [Qr.l2,if_pos h4.2,if_pos h4,h3,nxt hl e];refine ih _ ?_ ?_
  ·intro c hc y hy
   rw [Ze8] at hc;by_cases c1:c=x.lo
   ·rw [if_pos c1] at hc;cases hc
   ·rw [if_neg c1] at hc
    rcases List.mem_append.1 hy with hy | hy
    ·exact h1 c hc y hy
    ·rw [List.mem_singleton.1 hy];exact λh=>c1 h.symm
  ·intro c j hj
   rw [Ze8] at hj;by_cases c1:c=x.lo
   ·rw [if_pos c1] at hj
    have:(pre.length:Int)=j:=by simpa using hj
    subst this;exact ⟨h4.1,h4.2,by rw [h3,c1]⟩
   ·rw [if_neg c1] at hj;exact h2 c j hj
theorem Zp8 (b:Bk) (h:Dok b.decomp):∃ r,Xq.f b=some r/\Zbp r (Zeb b.decomp [] b.decomp):=by
 have hl:b.decomp.length<=Z2:=by have:=h.len;unfold Z2;omega
 unfold Xq.f;refine Xu (λk i (_:Unit)=>Xq.l2 k b i) b.decomp
  (λpre t _ o=>∃ r,o=some r/\Zbp r (Zeb b.decomp pre t)) ?_ ?_ () K0 (ltK hl)
 ·intro _ k
  exact ⟨-1,by simp only [Xq.l2,if_neg (show ¬ (b.decomp.length:Int)<(b.decomp.length:Int) by omega)],.inl ⟨rfl,rfl⟩⟩
 ·intro pre x t _ k e ih
  obtain ⟨h1,h2⟩:=mid e;have ih:=ih ();have hlong:=Zyx b h.len (Zuq h) (b.decomp.length+1) (Nat.le_refl _) K0 x.lo 0 (by omega) (by have:=h.len;unfold K0;omega);simp only [Xq.l2,if_pos h2.2,if_pos h2,h1,hlong,Option.bind_some,Zeb];by_cases c:18<Lc (paP b.decomp) (b.decomp.length+1) x.lo
  ·exact ⟨_,by rw [if_pos c],.inr ⟨by simp [show ¬ Lc (paP b.decomp) (b.decomp.length+1) x.lo<=18 by omega],by omega⟩⟩
  ·rw [if_neg c,if_pos ⟨Int.le_refl _,h2.1,by omega⟩]
   simp only [show Lc (paP b.decomp) (b.decomp.length+1) x.lo<=18 by omega,decide_true,Bool.true_and];have hs:sub b.decomp 0 (pre.length:Int)=pre:=Zlb e;have hpl:pre.length<=Z2:=by rw [e] at hl;simp at hl;omega
   have:=Xu (λkk i (_:Unit)=>Xq.l1 (Xq.l2 k b) kk b (pre.length:Int) i) pre
    (λdone rest _ o=>o=if rest.any (Zj6 x) then some (pre.length:Int) else Xq.l2 k b ((pre.length:Int)+1))
    (λ_ kk=>by simp only [Xq.l1,hs,if_neg (show ¬ (pre.length:Int)<(pre.length:Int) by omega),nxt hl e];rfl)
    (λdone y rest _ kk e2 ih2=>by
     obtain ⟨h3,h4⟩:=mid e2
     have ih2:=ih2 ()
     simp only [Xq.l1,hs,if_pos h4.2,if_pos h4,h1,h3,Xq.j1,nxt hpl e2,List.any_cons]
     by_cases c1:(x.is_.length:Int)=2
     ·by_cases c2:(y.is_.length:Int)=2
      ·rw [if_pos c1,if_pos c2,if_pos ⟨Int.le_refl _,by omega⟩,if_pos ⟨Int.le_refl _,by omega⟩]
       by_cases c3:rd x.is_ 0=rd y.is_ 0
       ·rw [if_pos c3,if_pos ⟨by omega,by omega⟩,if_pos ⟨by omega,by omega⟩]
        by_cases c4:rd x.is_ 1=rd y.is_ 1
        ·simp [c4,Zj6,c1,c2,c3]
        ·simpa [c4,Zj6] using ih2
       ·simpa [c3,Zj6] using ih2
      ·rw [if_pos c1,if_neg c2];simpa [Zj6,c2] using ih2
     ·rw [if_neg c1];simpa [Zj6,c1] using ih2) () K0 (ltK hpl)
   rw [this]
   cases c5:pre.any (Zj6 x) with
   | true=>exact ⟨(pre.length:Int),by simp,.inr ⟨by simp,by omega⟩⟩
   | false=>simpa using ih
end
section
open Go.IntKind (i8 i16 i32 i64 u8 u16 u32 u64)
open Go.RowKit

structure Few (b:Bk):Prop where
 names:b.names.length<=Z2
 status:b.status.length<=Z2
 maps:b.maps.length<=Z2
 class_:b.class_.length<=Z2
 decomp:b.decomp.length<=Z2
 excl:b.excl.length<=Z2
 bidi:b.bidi.length<=Z2
 join:b.join.length<=Z2
 marks:b.marks.length<=Z2
 script:b.script.length<=Z2
 like:b.like.length<=Z2
 mapsI:∀ x∈b.maps,x.is_.length<=Z2
 decompI:∀ x∈b.decomp,x.is_.length<=Z2
 likeI:∀ x∈b.like,x.is_.length<=Z2
def Zp2 (a b:Int) (l:List Val):Bool:=Zag (·.lo) (·.hi) (λx:Val=>decide (a<=x.n)&&decide (x.n<=b)) l
def Zz3 (a b:Int) (l:List Val):Bool:=Zag (·.lo) (·.hi) (λx:Val=>decide (a<=x.n)&&decide (x.n<=b)&&!Zaq x.lo x.hi) l
def Z3v (x:Val):Bool:=decide (1<=x.n)&&decide (x.n<=3)
def okB (b:Bk):Bool:=
 Zmd b.names&&(Zp2 1 3 b.status&&(Zag (·.lo) (·.hi) (Zhe b.status) b.maps&&(Zz3 1 254 b.class_&&(Zag (·.lo) (·.hi) Zb5 b.decomp&&
 (Zag (·.lo) (·.hi) (λx:Spn=>!Zaq x.lo x.hi) b.excl&&(Zp2 0 22 b.bidi&&(Zp2 0 5 b.join&&(Zag (·.lo) (·.hi) (λ_:Spn=>true) b.marks&&
 (Zp2 1 (b.names.length:Int) b.script&&(Zag (·.lo) (·.hi) (λx:Chs=>Hz x.is_ 1 18) b.like&&Zeb b.decomp [] b.decomp))))))))))
theorem Zbp.cases' {r:Int} {w:Bool} (h:Zbp r w):(w=false/\0<=r)\/(w=true/\¬ 0<=r):=by
 rcases h with ⟨rfl,rfl⟩ | ⟨rfl,h⟩
 ·exact .inr ⟨rfl,by decide⟩
 ·exact .inl ⟨rfl,h⟩
theorem Za6 {w w':Bool} {p:Wh} {r:Int} {o o':Option (Wh×Int)} (hs:Zbp r w) (h:w=true->∃ p,o'=some (p,if w' then 0 else 100)) (e:o=if 0<=r then some (p,100) else o'):
  ∃ p,o=some (p,if w&&w' then 0 else 100):=by
 rcases hs.cases' with ⟨rfl,hr⟩ | ⟨rfl,hr⟩
 ·exact ⟨p,by rw [e,if_pos hr];rfl⟩
 ·obtain ⟨q,hq⟩:=h rfl
  exact ⟨q,by rw [e,if_neg hr,hq];rfl⟩
theorem Zhj (b:Bk):∃ p,Ub.f b=some (p,if okB b then 0 else 100):=by
 unfold Ub.f okB;obtain ⟨r1,e1,s1⟩:=Zyj b.names;rw [Zat.f,e1];refine Za6 s1 (λh1=>?_) rfl;obtain ⟨r2,e2,s2⟩:=Zi4 1 3 b.status;rw [Zau.f,show Ql.f b.status 1 3=some r2 from by first | exact e2 | (simp only [Ql.f,Ua.f,e2];rfl)]
 refine Za6 s2 (λh2=>?_) rfl;have hst:b.status.length<=Z2/\Vn (·.lo) (·.hi) Z3v (-1) b.status=true:=by simp only [Zp2,Zag,Bool.and_eq_true,decide_eq_true_eq] at h2;exact ⟨by unfold Z2;omega,h2.2⟩
 obtain ⟨r3,e3,s3⟩:=Zwk b ⟨_,hst.2⟩ hst.1;rw [Zav.f,show Zce.f (⟨b.names,b.status,b.maps,b.class_,b.decomp,b.excl,b.bidi,b.join,b.marks,b.script,b.like⟩:Bk)=some r3 from by first | exact e3 | (simp only [Ql.f,Ua.f,e3];rfl)]
 refine Za6 s3 (λ_=>?_) rfl;obtain ⟨r4,e4,s4⟩:=Zth 1 254 b.class_;rw [Zaw.f,show Ua.f b.class_ 1 254=some r4 from by first | exact e4 | (simp only [Ql.f,Ua.f,e4];rfl)]
 refine Za6 s4 (λ_=>?_) rfl;obtain ⟨r5,e5,s5⟩:=Zrx b.decomp;rw [Zax.f,e5];refine Za6 s5 (λh5=>?_) rfl;obtain ⟨r6,e6,s6⟩:=Zwi b.excl;rw [Zay.f,e6];refine Za6 s6 (λ_=>?_) rfl;obtain ⟨r7,e7,s7⟩:=Zi4 0 22 b.bidi;rw [Zaa.f,show Za4.f=some _ from rfl,Option.bind_some,show (i64.wrap _:Int)=22 from by rw [w64 (by simp) (by simp)];rfl,show Ql.f b.bidi 0 22=some r7 from by first | exact e7 | (simp only [Ql.f,Ua.f,e7];rfl)]
 refine Za6 s7 (λ_=>?_) rfl;obtain ⟨r8,e8,s8⟩:=Zi4 0 5 b.join;rw [Zab.f,show Zb1.f=some _ from rfl,Option.bind_some,show (i64.wrap _:Int)=5 from by rw [w64 (by simp) (by simp)];rfl,show Ql.f b.join 0 5=some r8 from by first | exact e8 | (simp only [Ql.f,Ua.f,e8];rfl)]
 refine Za6 s8 (λ_=>?_) rfl;obtain ⟨r9,e9,s9⟩:=Ztg b.marks;rw [Zac.f,e9];refine Za6 s9 (λ_=>?_) rfl;obtain ⟨r10,e10,s10⟩:=Zi4 1 (b.names.length:Int) b.script;rw [Zad.f,show Ql.f b.script 1 _=some r10 from by first | exact e10 | (simp only [Ql.f,Ua.f,e10];rfl)]
 refine Za6 s10 (λ_=>?_) rfl;obtain ⟨r11,e11,s11⟩:=Zwj b.like;rw [Zae.f,e11];refine Za6 s11 (λ_=>?_) rfl;obtain ⟨r12,e12,s12⟩:=Znd (Dok.mk' h5);rw [Zaf.f,e12];obtain ⟨p,hp⟩:=Za6 (w':=true) (o':=some ((⟨0,0⟩:Wh),0)) s12 (λ_=>⟨_,rfl⟩) rfl;exact ⟨p,by rw [Bool.and_true] at hp;exact hp⟩
end
section
open Go.RowKit

theorem Zsz (p:Int):Zaq p p=Zl3 p:=by
 unfold Zaq Zl3;rw [Bool.eq_iff_iff];simp only [Bool.or_eq_true,Bool.and_eq_true,decide_eq_true_eq];omega
theorem Zqk (x:Chs):(!Zdc (Hq 2 x) x)=Zb5 x:=by
 unfold Zdc Hq Zb5;by_cases c:x.lo=x.hi
 ·rw [<- c,Zsz]
  have:Hz [x.lo] 1 1=Zeh x.lo:=by simp [Hz]
  rw [this];cases Hz x.is_ 1 2<;>cases Zl3 x.lo<;>cases Zeh x.lo<;>simp
 ·simp [c]
theorem Zha (a b:Int) (x:Val):(!Zdd a b false x)=(decide (a<=x.n)&&decide (x.n<=b)):=by
 unfold Zdd;rw [Bool.eq_iff_iff];simp
theorem Zwt (a b:Int) (x:Val):(!Zdd a b true x)=(decide (a<=x.n)&&decide (x.n<=b)&&!Zaq x.lo x.hi):=by
 unfold Zdd;rw [Bool.eq_iff_iff];simp
theorem Zb2 {α:Type} (l:List α) (sp:α->Spn) (wr may:α->Bool) (h:∀ x,(!wr x)=may x):∃ r,Xa.f (l.map sp) (l.map wr)=some r/\Zbp r (Zag (λx=>(sp x).lo) (λx=>(sp x).hi) may l):=by
 obtain ⟨r,h1,h2⟩:=Zp5 l sp wr;rw [show (λx=>!wr x)=may from funext h] at h2;exact ⟨r,h1,h2⟩
theorem Z0j {α:Type} (l:List α):l.map (λx=>x)=l:=by simp
theorem Zdz {r:Int} {w:Bool} (h:Zbp r w):decide (r<0)=w:=by
 rcases h with ⟨rfl,rfl⟩ | ⟨rfl,h⟩
 ·rfl
 ·simp;omega
theorem Zte (b:Bk) (a1 a2 a3 a4 a5 a6 a7 a8 a9 a10 a11:Int) (h:a5<0->Dok b.decomp):
  ∃ p q,Zf.l1 K0 b a1 a2 a3 a4 a5 a6 a7 a8 a9 a10 a11 0=some (p,q,if [a1,a2,a3,a4,a5,a6,a7,a8,a9,a10,a11].all (λx=>decide (x<0))&&Zeb b.decomp [] b.decomp then 0 else 100):=by
 have hl:[a1,a2,a3,a4,a5,a6,a7,a8,a9,a10,a11].length<=Z2:=by unfold Z2;simp
 refine Xu (λk i (_:Unit)=>Zf.l1 k b a1 a2 a3 a4 a5 a6 a7 a8 a9 a10 a11 i) [a1,a2,a3,a4,a5,a6,a7,a8,a9,a10,a11]
  (λpre t _ o=>(∀ x∈pre,x<0)->∃ p q,o=some (p,q,if t.all (λx=>decide (x<0))&&Zeb b.decomp [] b.decomp then 0 else 100)) ?_ ?_ () K0 (ltK hl) (λx hx=>by cases hx)
 ·intro _ k hx
  have h5:=h (hx a5 (by simp));obtain ⟨r,e,s⟩:=Zp8 b h5;simp only [Zf.l1];rw [if_neg (show ¬ (([a1,a2,a3,a4,a5,a6,a7,a8,a9,a10,a11]:List Int).length:Int)<(([a1,a2,a3,a4,a5,a6,a7,a8,a9,a10,a11]:List Int).length:Int) by omega),e,Option.bind_some]
  rcases s.cases' with ⟨s1,s2⟩ | ⟨s1,s2⟩
  ·exact ⟨5,r,by rw [if_pos s2,s1];rfl⟩
  ·exact ⟨0,0,by rw [if_neg s2,s1];rfl⟩
 ·intro pre x t _ k e ih hx
  obtain ⟨h1,h2⟩:=mid e;simp only [Zf.l1];rw [if_pos h2.2,if_pos h2,h1,nxt hl e,List.all_cons];by_cases c:0<=x
  ·exact ⟨_,_,by rw [if_pos c,show decide (x<0)=false by simp;omega];rfl⟩
  ·rw [if_neg c,show decide (x<0)=true by simp;omega,Bool.true_and]
   exact ih () λy hy=>by
    rcases List.mem_append.1 hy with hy | hy
    ·exact hx y hy
    ·rw [List.mem_singleton.1 hy];omega
theorem Zv4 {b:Bk} (hb:Few b) {ms:List Bool}:Zf.l2 K0 b ms [] 0=Zf.t20 b ms (b.excl.map λx=>Zaq x.lo x.hi):=by
 have:=Xu (λk i s=>Zf.l2 k b ms s i) b.excl
  (λpre t s o=>s=pre.map (λx=>Zaq x.lo x.hi)->o=Zf.t20 b ms (b.excl.map λx=>Zaq x.lo x.hi))
  (λs k hs=>by
   simp only [Zf.l2,if_neg (show ¬ (b.excl.length:Int)<(b.excl.length:Int) by omega)]
   rw [if_pos ⟨by omega,by have:=hb.marks;unfold Z2 at this;unfold most;omega⟩,hs])
  (λpre x t s k e ih hs=>by
   obtain ⟨h1,h2⟩:=mid e
   have hp:pre.length<=Z2:=by have:=hb.excl;rw [e] at this;simp at this;omega
   simp only [Zf.l2,if_pos h2.2,if_pos h2,h1,Zkm,Option.bind_some,nxt hb.excl e]
   rw [if_pos (by rw [hs,List.length_map];exact Zp1 hp (Nat.le_refl _))]
   exact ih _ (by rw [hs];simp)) [] K0 (ltK hb.excl) rfl
 exact this
theorem Zfr (b:Bk) (hb:Few b):∃ p q,Zf.f b=some (p,q,if okB b then 0 else 100):=by
 have hw:=Zgn b.maps 18 hb.maps hb.mapsI;rw [Zf.f,hw,Option.bind_some];have hl3:=Xu (λk i s=>Zf.l3 k b s i) b.maps
  (λpre t s o=>s=(pre.map λx=>!Zhe b.status x)++t.map (Hq 18)->o=Zf.l2 K0 b (b.maps.map λx=>!Zhe b.status x) [] 0)
  (λs k hs=>by
   simp only [Zf.l3,if_neg (show ¬ (b.maps.length:Int)<(b.maps.length:Int) by omega),hs,List.map_nil,List.append_nil])
  (λpre x t s k e ih hs=>by
   obtain ⟨h1,h2⟩:=mid e
   have hlen:s.length=b.maps.length:=by rw [hs,e];simp
   have hr:rd s (pre.length:Int)=Hq 18 x:=by rw [hs];simp [rd]
   have hset:∀ w:Bool,w=!Zhe b.status x->s.set ((pre.length:Int).toNat) w=((pre++[x]).map λx=>!Zhe b.status x)++t.map (Hq 18):=by
    intro w ew
    rw [hs,ew];simp
   simp only [Zf.l3,if_pos h2.2,if_pos h2,h1,hr,Zf.j1,nxt hb.maps e,Zwh x b.status hb.status,Option.bind_some]
   rw [if_pos ⟨h2.1,by omega⟩]
   by_cases c:Hq 18 x=true
   ·rw [if_pos c]
    refine ih _ (hset _ ?_)
    have:Hz x.is_ 1 18=false:=by unfold Hq at c;simpa using c
    simp [Zhe,this]
   ·rw [if_neg c]
    refine ih _ (hset _ ?_)
    have:Hz x.is_ 1 18=true:=by unfold Hq at c;simpa using c
    simp [Zhe,this]) (b.maps.map (Hq 18)) K0 (ltK hb.maps) (by simp)
 rw [hl3];rw [Zv4 hb];obtain ⟨r1,e1,s1⟩:=Zp6 b.names;obtain ⟨r2,e2,s2⟩:=Zb2 b.status (λx=>(⟨x.lo,x.hi⟩:Spn)) (Zdd 1 3 false) _ (Zha 1 3);obtain ⟨r3,e3,s3⟩:=Zb2 b.maps (λx=>(⟨x.lo,x.hi⟩:Spn)) (λx=>!Zhe b.status x) (Zhe b.status) (λx=>by simp);obtain ⟨r4,e4,s4⟩:=Zb2 b.class_ (λx=>(⟨x.lo,x.hi⟩:Spn)) (Zdd 1 254 true) _ (Zwt 1 254);obtain ⟨r5,e5,s5⟩:=Zb2 b.decomp (λx=>(⟨x.lo,x.hi⟩:Spn)) (λx=>Zdc (Hq 2 x) x) Zb5 Zqk;obtain ⟨r6,e6,s6⟩:=Zb2 b.excl (λx=>x) (λx=>Zaq x.lo x.hi) (λx=>!Zaq x.lo x.hi) (λx=>rfl);obtain ⟨r7,e7,s7⟩:=Zb2 b.bidi (λx=>(⟨x.lo,x.hi⟩:Spn)) (Zdd 0 22 false) _ (Zha 0 22);obtain ⟨r8,e8,s8⟩:=Zb2 b.join (λx=>(⟨x.lo,x.hi⟩:Spn)) (Zdd 0 5 false) _ (Zha 0 5);obtain ⟨r9,e9,s9⟩:=Zb2 b.marks (λx=>x) (λ_=>false) (λ_=>true) (λx=>rfl);obtain ⟨r10,e10,s10⟩:=Zb2 b.script (λx=>(⟨x.lo,x.hi⟩:Spn)) (Zdd 1 (b.names.length:Int) false) _ (Zha 1 (b.names.length:Int));obtain ⟨r11,e11,s11⟩:=Zb2 b.like (λx=>(⟨x.lo,x.hi⟩:Spn)) (Hq 18) (λx=>Hz x.is_ 1 18) (λx=>by simp [Hq]);rw [Z0j] at e6 e9;have e9':List.map (λ_:Spn=>false) b.marks=List.replicate (b.marks.length:Int).toNat false:=by rw [Int.toNat_natCast,List.map_const']
 rw [e9'] at e9;rw [Zf.t20,e1,Option.bind_some,Zf.t19,Zfe _ hb.status,Option.bind_some,Zf.t18,Zda _ _ _ _ hb.status,Option.bind_some,Zf.t17,e2,Option.bind_some,
  Zf.t16,Zgm _ hb.maps,Option.bind_some,Zf.t15,e3,Option.bind_some,Zf.t14,Zfe _ hb.class_,Option.bind_some,Zf.t13,Zda _ _ _ _ hb.class_,Option.bind_some,
  Zf.t12,e4,Option.bind_some,Zf.t11,Zgm _ hb.decomp,Option.bind_some,Zf.t10,Zmr _ hb.decomp hb.decompI,Option.bind_some,Zf.t9,e5,Option.bind_some,
  Zf.t8,e6,Option.bind_some,Zf.t7,Zfe _ hb.bidi,Option.bind_some,Zf.t6,Zda _ _ _ _ hb.bidi,Option.bind_some,Zf.t5,e7,Option.bind_some,
  Zf.t4,Zfe _ hb.join,Option.bind_some,Zf.t3,Zda _ _ _ _ hb.join,Option.bind_some,Zf.t2,e8,Option.bind_some,Zf.t1,e9,Option.bind_some,
  Zfe _ hb.script,Option.bind_some,Zda _ _ _ _ hb.script,Option.bind_some,e10,Option.bind_some,Zgm _ hb.like,Option.bind_some,Zgn _ _ hb.like hb.likeI,Option.bind_some,e11,Option.bind_some]
 obtain ⟨p,q,e⟩:=Zte b r1 r2 r3 r4 r5 r6 r7 r8 r9 r10 r11 (λh=>Dok.mk' (by have:=Zdz s5;simp [h] at this;exact this));refine ⟨p,q,?_⟩;rw [e];simp only [List.all_cons,List.all_nil,Bool.and_true,Zdz s1,Zdz s2,Zdz s3,Zdz s4,Zdz s5,Zdz s6,Zdz s7,Zdz s8,Zdz s9,Zdz s10,Zdz s11];unfold okB Zp2 Zz3;simp only [Bool.and_assoc]
end
section
open Go.IntKind (i8 i16 i32 i64 u8 u16 u32 u64)
open Go.RowKit

theorem Zk6 {σ β:Type} (L:Nat->Int->σ->Option β) (hi:Int) (Spec:Int->σ->Option β->Prop)
  (hend:∀ s k,Spec hi s (L (k+1) hi s))
  (hstep:∀ i s k,i<hi->(∀ s',Spec (i+1) s' (L k (i+1) s'))->Spec i s (L (k+1) i s)):
  ∀ (n:Nat) i s k,hi=i+n->n<k->Spec i s (L k i s):=by
 intro n
 induction n with
 | zero=>
  intro i s k e hk;obtain ⟨k,rfl⟩:∃ j,k=j+1:=⟨k-1,by omega⟩;have:hi=i:=by omega
  subst this;exact hend s k
 | succ n ih=>
  intro i s k e hk;obtain ⟨k,rfl⟩:∃ j,k=j+1:=⟨k-1,by omega⟩;exact hstep i s k (by omega) λs'=>ih (i+1) s' k (by omega) (by omega)
def inB (p:Int) (x:Val):Bool:=decide (x.lo<=p)&&decide (p<=x.hi)
def Hg:List Val->Int->Int
 | [],_=>0
 | x::t,p=>if inB p x=true then x.n else Hg t p
theorem Zm4 {p:Int}:∀ {l:List Val},(∀ x∈l,inB p x=false)->Hg l p=0
 | [],_=>rfl
 | x::t,h=>by
  rw [Hg,if_neg (by rw [h x (List.mem_cons_self ..)];decide)]
  exact Zm4 λy hy=>h y (List.mem_cons_of_mem _ hy)
theorem Zib {p:Int} {b:List Val}:∀ {a:List Val},(∀ x∈a,inB p x=false)->Hg (a++b) p=Hg b p
 | [],_=>rfl
 | x::t,h=>by
  rw [List.cons_append,Hg,if_neg (by rw [h x (List.mem_cons_self ..)];decide)]
  exact Zib λy hy=>h y (List.mem_cons_of_mem _ hy)
theorem Zic {p:Int} {b:List Val}:∀ {a:List Val},(∀ x∈b,inB p x=false)->Hg (a++b) p=Hg a p
 | [],h=>Zm4 h
 | x::t,h=>by
  rw [List.cons_append,Hg,Hg,Zic (a:=t) h]
theorem Zmi {α:Type} {lo hi:α->Int} {may:α->Bool}:∀ {a:List α} {last:Int} {x:α} {t:List α},Vn lo hi may last (a++x::t)=true->
  (∀ y∈a,hi y<lo x)/\(∀ z∈t,hi x<lo z)/\last<lo x/\lo x<=hi x/\hi x<=1114111/\may x=true
 | [],last,x,t,h=>by
  simp only [List.nil_append,Vn,Bool.and_eq_true,decide_eq_true_eq] at h
  obtain ⟨⟨⟨⟨h1,h2⟩,h3⟩,h4⟩,h5⟩:=h
  exact ⟨λy hy=>(by cases hy),λz hz=>(Zbm h5 z hz).1,h1,h2,h3,h4⟩
 | y::a,last,x,t,h=>by
  simp only [List.cons_append,Vn,Bool.and_eq_true,decide_eq_true_eq] at h
  obtain ⟨⟨⟨⟨h1,h2⟩,h3⟩,h4⟩,h5⟩:=h
  have g:=Zmi h5
  obtain ⟨g1,g2,g3,g4,g5,g6⟩:=g
  refine ⟨λz hz=>?_,g2,by omega,g4,g5,g6⟩
  rcases List.mem_cons.1 hz with rfl | hz
  ·exact g3
  ·exact g1 z hz
theorem Zlc {α:Type} {xs pre t:List α} (e:xs=pre++t):sub xs (pre.length:Int) (xs.length:Int)=t:=by
 subst e;rw [sub,Int.toNat_natCast,Int.toNat_natCast,List.take_length,List.drop_left]
theorem Zu3 {m:Nat} (y:Vector Int m) {i j:Int} (z:Int) (hi0:0<=i) (hi1:i<(m:Int)) (hj0:0<=j) (hj1:j<(m:Int)):vg (Zel y i z) j=if i=j then z else vg y j:=by
 have h1:i.toNat<m:=by omega
 have h2:j.toNat<m:=by omega
 simp only [vg,Zel,Vector.toList,List.getD_eq_getElem?_getD,Array.getElem?_toList,Array.getElem?_setIfInBounds];by_cases c:i=j
 ·simp [c,h2]
 ·rw [if_neg c,if_neg (by omega)]
theorem Z07 {m:Nat} {j:Int}:vg (Vector.replicate m (0:Int)) j=0:=by
 simp only [vg,List.getD_eq_getElem?_getD];by_cases c:j.toNat<m
 ·simp [c]
 ·simp [c]
def Zd0 (x:Val):Bool:=decide (0<=x.n)&&decide (x.n<=65535)
def Zbd (l:List Val):Prop:=l.length<=65536/\Vn (·.lo) (·.hi) Zd0 (-1) l=true
abbrev Blk:=Vector Int 128
def Zd3:Blk:=Vector.replicate 128 0
def Zka (v:Blk) (l:List Val) (p:Int):Prop:=∀ j:Int,0<=j->j<128->vg v j=Hg l (p+j)
theorem Zmy {l:List Val} (h:Zbd l):Xt.f l=some (0,0):=by
 have hl:l.length<=Z2:=by have:=h.1;unfold Z2;omega
 unfold Xt.f;rw [if_neg (by have:=h.1;omega)];exact Xu (λk i last=>Xt.l1 k l last i) l (λpre t last o=>Vn (·.lo) (·.hi) Zd0 last t=true->o=some (0,0))
  (λs k _=>by simp only [Xt.l1,if_neg (show ¬ (l.length:Int)<(l.length:Int) by omega)])
  (λpre x t s k e ih hs=>by
   obtain ⟨h1,h2⟩:=mid e
   simp only [Vn,Zd0,Bool.and_eq_true,decide_eq_true_eq] at hs
   obtain ⟨⟨⟨⟨g1,g2⟩,g3⟩,g4,g5⟩,g6⟩:=hs
   simp only [Xt.l1,if_pos h2.2,if_pos h2,h1,Xt.j2,Xt.j1,nxt hl e]
   rw [if_neg (by omega),if_neg (by omega),if_neg (by simp;omega),if_neg (by omega),if_neg (by simp;omega)]
   exact ih x.hi g6) (-1) K0 (ltK hl) h.2
structure Z4o (l:List Val) (k p:Int) where
 done:List Val
 rest:List Val
 eq:l=done++rest
 len:k=(done.length:Int)
 old:∀ x∈done,x.hi<p
theorem Z0e (go:Blk->Bool->Int->Option (Bool×Int×Blk)) (l done rest:List Val) (p i:Int) (x:Val) (v:Blk) (hp:0<=p) (hp1:p<=1113984) (el:l=done++rest) (ei:rd rest i=x)
  (hx0:p<=x.hi) (hx1:x.lo<=p+127) (hx2:x.lo<=x.hi) (hx3:0<=x.lo) (hx4:x.hi<=1114111) (hn:0<=x.n/\x.n<=65535) (hi:i64.wrap (i+1)=i+1):
  ∃ v',Yd.l1 go K0 l p (done.length:Int) i v (max x.lo p)=go v' true (i+1)/\∀ j:Int,0<=j->j<128->vg v' j=if inB (p+j) x=true then x.n else vg v j:=by
 have hs:sub l (done.length:Int) (l.length:Int)=rest:=Zlc el;have hlast:i32.wrap ((i32.wrap (p+128))-1)=p+127:=by rw [w32 (x:=p+128) (by omega) (by omega),w32 (by omega) (by omega)];omega
 have hstart:max x.lo p<=min x.hi (p+127):=by omega
 have:=Zk6 (λk q v=>Yd.l1 go k l p (done.length:Int) i v q) (min x.hi (p+127)+1)
  (λq (w:Blk) o=>max x.lo p<=q->(∀ j:Int,0<=j->j<128->vg w j=if max x.lo p<=p+j/\p+j<q then x.n else vg v j)->
   ∃ v',o=go v' true (i+1)/\∀ j:Int,0<=j->j<128->vg v' j=if inB (p+j) x=true then x.n else vg v j)
  (λw k _ hw=>by
   simp only [Yd.l1,hs,ei,hlast]
   rw [if_neg (by omega),hi]
   refine ⟨w,rfl,λj h0 h1=>?_⟩
   rw [hw j h0 h1]
   simp only [inB,Bool.and_eq_true,decide_eq_true_eq]
   by_cases c:x.lo<=p+j/\p+j<=x.hi
   ·rw [if_pos c,if_pos (by omega)]
   ·rw [if_neg c,if_neg (by omega)])
  (λq w k hq ih hq0 hw=>by
   simp only [Yd.l1,hs,ei,hlast]
   rw [if_pos (by omega),w32 (x:=q-p) (by omega) (by omega),if_pos ⟨by omega,by omega⟩,w16 hn.1 (by omega),w32 (x:=q+1) (by omega) (by omega)]
   refine ih _ (by omega) λj h0 h1=>?_
   rw [Zu3 w x.n (by omega) (by omega) h0 (by omega),hw j h0 h1]
   by_cases c:q-p=j
   ·rw [if_pos c,if_pos (by omega)]
   ·rw [if_neg c]
    by_cases c2:max x.lo p<=p+j/\p+j<q
    ·rw [if_pos c2,if_pos (by omega)]
    ·rw [if_neg c2,if_neg (by omega)])
  (min x.hi (p+127)+1-max x.lo p).toNat (max x.lo p) v K0 (by omega) (by unfold K0;omega) (Int.le_refl _)
  (λj h0 h1=>by rw [if_neg (by omega)])
 exact this
end
end Go.Proofs.YtdkkmdeanfcfnaaGreatDoor
