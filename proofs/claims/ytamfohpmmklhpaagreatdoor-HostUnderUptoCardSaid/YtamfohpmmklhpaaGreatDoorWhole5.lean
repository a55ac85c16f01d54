/- Texts of this repo, merged for the claim: TA3, TG0, TH0, PureSB, R14, PureS, PureT, PureU, PureV, PureW, PureB, PureC, PureD, PureE, PureF, PureG. -/
import Derived.Test.YtamfohpmmklhpaaGreatDoorWhole0
import Derived.Test.YtamfohpmmklhpaaGreatDoorWhole1
import Derived.Test.YtamfohpmmklhpaaGreatDoorWhole4
import Derived.Test.YtamfohpmmklhpaaGreatDoorWhole3
import Derived.Test.YtamfohpmmklhpaaGreatDoorWhole2
set_option autoImplicit true
set_option relaxedAutoImplicit true
namespace Go.Proofs.YtamfohpmmklhpaaGreatDoor
open Tryz
open Go.IntKind (i8 i16 i32 i64 u8 u16 u32 u64)
open Go.RowKit
set_option maxRecDepth 100000
set_option maxHeartbeats 4000000
set_option linter.unusedVariables false
section
variable {w0 w:World} {ρ:Hp} {Γ:List Kh}
def Uf.l1:Nat->List Spn->List Spn->Int->Option (List Spn)
  | 0,_,_,_=>none
  | ae+1,x0,ab,aa=>if aa<(x0.length:Int) then (if (0:Int)<=aa/\aa<(x0.length:Int) then (if ab.length+([(⟨(rd x0 aa).lo,(rd x0 aa).hi⟩:Spn)]).length<=most then ((Uf.l1 ae x0) (ab++([(⟨(rd x0 aa).lo,(rd x0 aa).hi⟩:Spn)])) (i64.wrap (aa+1))) else none) else none) else (some ab)
def Uf.f (x0:List Spn):Option (List Spn):=Uf.l1 K0 x0 ([]:List Spn) 0
theorem Uf.c (hs:St w0 ρ (Γ) w) (h0:SlR Vd ρ v0 x0) (H:Uf.f x0=some r):Zk prog 33 [v0] w (λv w'=>∃ (ρ':Hp) (v0:Value) (cs0:List Value),v=v0/\Le ρ ρ'/\St w0 ρ' (.row v0 97 Vd.sz r.length cs0::Γ) w'/\Zm Vd ρ' cs0 r):=by
 rw [Uf.f] at H;refine Et func33 ntmps33 V<|Wa 1 V<|Wq<|Q1 (xs:=[]) (cs:=[]) Zlw hs V V V (by decide) (by decide) V Qm Xh (λan w hs=>?_);have ao:Zm Vd ρ ([]) ([]:List Spn):=Zm.nil _ _;refine Rx 1 V<|Wsq<|Wn 1 V<|O_y V (Yk Zoy h0 V)<|Rx 1 V<|Wbk<|Lp4 (λab aa ac ad=>[(3,ac),(7,v0),(8,Lk (x0.length:Int)),(9,Lk aa)]) (λae ab aa ac ad=>Uf.l1 ae x0 ab aa) (λab aa ac ad w=>St w0 ρ ((.row ac 97 Vd.sz ab.length ad)::Γ) w/\Zm Vd ρ ad ab) ([]:List Spn) 0 (.slice (some ⟨an,0,none⟩) 0 0) ([]) (T4 V) H (Ai hs ao) λae ab aa ac ad w H ⟨hs,af⟩ ag=>?_;rw [Uf.l1] at H;refine Wa 1 V<|Wsq<|gIV H V (λH=>?_) λH=>?_;refine Ze<|Wsq<|Wbk<|Wsq<|Zc ?_;obtain ⟨aj,H⟩:=gd H;obtain ⟨bj,bk,ay,az⟩:=h0.ix Zoo aj.1 aj.2;obtain ⟨_,rfl,a0⟩:=ay;refine O_y V (az V V)<|O_y V (Kg Zdo Zbm V V (λj u hu=>hs.see (a0 j u hu)))<|Yn Zdh hs V (λbl w hs=>Z2 (i:=0) Zbm hs V V V V V (Zb V (Zb V Z9)) (λw hs=>Zf<|Zc<|Rn 1 V<|Ofd Zap V<|Obx 0 Qb hs V<|Ofd Hb V<|Obx 0 Qb hs V<|O_y V (X4 (cs:=[Lj ((rd x0 aa).lo),Lj ((rd x0 aa).hi)]) Z3d Z63 ((Zp.cons V V (Zp.cons V V Zp.nil))) Zz2 (by kernel_rfl))<|Q1 (xs:=[.tmp 18]) (cs:=[Lj ((rd x0 aa).lo),Lj ((rd x0 aa).hi)]) Zlw hs V V V (by decide) (by decide) V (Yf V Qm) (Zq V Xh) (λbm w hs=>?_)));have ak:Zm Vd ρ ([Lj ((rd x0 aa).lo),Lj ((rd x0 aa).hi)]) [(⟨(rd x0 aa).lo,(rd x0 aa).hi⟩:Spn)]:=Zm.cons (c:=[Lj ((rd x0 aa).lo),Lj ((rd x0 aa).hi)]) (x:=(⟨(rd x0 aa).lo,(rd x0 aa).hi⟩:Spn)) V (Zm.nil _ _);refine Rd H λa1 H=>Xp (i:=2) Zlw hs V af V V V (Src.lit (j:=0) hs V ak) ak a1 (λa2 ai w a3 hs=>Rx 1 V<|W.weak [(3,_),(7,_),(8,_),(9,_)] (T4 V)<|Zc<|Rx 2 V (ag (ab++([(⟨(rd x0 aa).lo,(rd x0 aa).hi⟩:Spn)])) (i64.wrap (aa+1)) a2 ai (T4 V) H (Ai (hs.sub (ssk (ssk (ssc ssr)))) a3)));refine We<|Wa 2 V<|Zh ?_;cases H;exact r1 V ⟨_,_,_,V,Le.rfl' _,hs,af⟩
def Zfb.f (x0:Bk):Option Bk:=if ([]:List ByteArray).length+x0.names.length<=most then ((Kn.f x0.status).bind λdi=>((Vz.f x0.maps).bind λbh=>((Kn.f x0.class_).bind λbi=>((Vz.f x0.decomp).bind λbj=>((Uf.f x0.excl).bind λbk=>((Kn.f x0.bidi).bind λbl=>((Kn.f x0.join).bind λbm=>((Uf.f x0.marks).bind λbn=>((Kn.f x0.script).bind λbo=>((Vz.f x0.like).bind λbp=>(some (⟨([]:List ByteArray)++x0.names,di,bh,bi,bj,bk,bl,bm,bn,bo,bp⟩:Bk)))))))))))) else none
theorem Zfb.c (hs:St w0 ρ (Γ) w) (h0:rBk.R ρ c0 x0) (H:Zfb.f x0=some r):Zk prog 12 [.agg c0.toArray] w (λv w'=>∃ (ρ':Hp) (cs0:List Value),v=.agg cs0.toArray/\Le ρ ρ'/\St w0 ρ' (Γ) w'/\rBk.R ρ' cs0 r):=by
 refine Et func12 ntmps12 V ?_;have ee:=h0;obtain ⟨dj,dk,dl,dm,dn,dp,dq,dr,ds,dt,du,rfl,ef,eg,eh,ei,ej,ek,el,em,en,eo,ep⟩:=ee;refine Wq<|Kw (cs:=[dj,dk,dl,dm,dn,dp,dq,dr,ds,dt,du]) hs V V (λer w hs=>Yn Zzn hs V (λes w hs=>Zf<|V2 λgl et=>Qz 36 [0,0,2,5,0,16,40,0,128,320,0,1024,2560,0,8192,20480,0,65536,163840,0,524288,1310720,0,4194304,10485760,0,33554432,83886080,0,268435456,671088640,0,2147483648,5368709120,9817068104,34359738367] [34359738358,34359738361,34359738353,17179869104,34359738319,34359738255,17179868544,34359737983,34359737471,17179864064,34359735295,34359731199,17179828224,34359713791,34359681023,17179541504,34359541759,34359279615,17177247744,34358165503,34356068351,17158897664,34347155455,34330378239,17012097024,34259075071,34124857343,15837691904,33554431999,32480690175,6442450944,27917287423,19327352831,0,0,0] [0,0,2,7,0,16,63,0,128,511,0,1024,4095,0,8192,32767,0,65536,262143,0,524288,2097151,0,4194304,16777215,0,33554432,134217727,0,268435456,1073741823,0,2147483648,8589934591,17179869183,34359738367] [35] (λw=>St w0 ρ ((.box es 39 ([Lz,Lz,Lz,Lz,Lz,Lz,Lz,Lz,Lz,Lz,Lz]))::(.box er 27 ([dj,dk,dl,dm,dn,dp,dq,dr,ds,dt,du]))::Γ) w) mixed (by kernel_rfl) (λsh=>?_)));have hs:=hs.drew;refine Fp 1 sh V (λw=>Zt Zq2 V)<|Fy 2 sh V hs (λw hs=>Yb 1 Zx6 hs V V V)<|Fp 4 sh V (λw=>Zt Zhh V)<|Fy 5 sh V hs (λw hs=>Yb 1 Zei hs V V V)<|Fp 7 sh V (λw=>Zt Zm6 V)<|Fy 8 sh V hs (λw hs=>Yb 1 Zg6 hs V V V)<|Fp 10 sh V (λw=>Zt Zq3 V)<|Fy 11 sh V hs (λw hs=>Yb 1 Zei hs V V V)<|Fp 13 sh V (λw=>Zt Ziq V)<|Fy 14 sh V hs (λw hs=>Yb 1 Zg6 hs V V V)<|Fp 16 sh V (λw=>Zt Zq4 V)<|Fy 17 sh V hs (λw hs=>Yb 1 Zsm hs V V V)<|Fp 19 sh V (λw=>Zt Zq5 V)<|Fy 20 sh V hs (λw hs=>Yb 1 Zei hs V V V)<|Fp 22 sh V (λw=>Zt Zq6 V)<|Fy 23 sh V hs (λw hs=>Yb 1 Zei hs V V V)<|Fp 25 sh V (λw=>Zt Zq7 V)<|Fy 26 sh V hs (λw hs=>Yb 1 Zsm hs V V V)<|Fp 28 sh V (λw=>Zt Zq8 V)<|Fy 29 sh V hs (λw hs=>Yb 1 Zei hs V V V)<|Fp 31 sh V (λw=>Zt Zl7 V)<|Fy 32 sh V hs (λw hs=>Yb 1 Zg6 hs V V V)<|F1 0 sh V (λgm eu=>Q1 (xs:=[]) (cs:=[]) Zcr hs V V V (by decide) (by decide) V Qm Xh (λgn w hs=>?_));have ev:Zm Rep.str ρ ([]) ([]:List ByteArray):=Zm.nil _ _;refine Zf (eu _ _ (λ_ _=>(hs.sub (ssk (ssc (ssc ssr))))) ?_);obtain ⟨ew,b0,b1⟩:=Src.sl hs ef;refine Rd H λex H=>F1 3 sh V (λgo ey=>Xp (i:=0) Zcr hs V ev V V V b0 b1 ex (λez e0 w e1 hs=>Zf (ey _ _ (λ_ _=>(hs.sub (ssk (ssc (ssc ssr)))))<|F1 6 sh V (λgp e2=>Rc H λdi b2 H=>Oc V (Kn.c hs eg b2) (λe3 w hpost=>?_)))));obtain ⟨e4,gq,e5,rfl,au,hs,b3⟩:=hpost;refine Zf (e2 _ _ (λ_ _=>((hs.less au).sub (ssk (ssk (ssc (ssc ssr))))))<|F1 9 sh V (λe6 b4=>Rc H λbh bq H=>Oc V (Vz.c hs (eh.mono au) bq) (λb5 w hpost=>?_)));obtain ⟨e7,e8,dv,rfl,aw,hs,b6⟩:=hpost
 have ax:=au.trans aw;refine Zf (b4 _ _ (λ_ _=>((hs.less ax).sub (ssk (ssk (ssk (ssc (ssc ssr)))))))<|F1 12 sh V (λe9 b7=>Rc H λbi br H=>Oc V (Kn.c hs (ei.mono ax) br) (λb8 w hpost=>?_)));obtain ⟨fa,fb,dw,rfl,av,hs,b9⟩:=hpost;have ay:=ax.trans av;refine Zf (b7 _ _ (λ_ _=>((hs.less ay).sub (ssk (ssk (ssk (ssk (ssc (ssc ssr))))))))<|F1 15 sh V (λfc ca=>Rc H λbj bs H=>Oc V (Vz.c hs (ej.mono ay) bs) (λcb w hpost=>?_)));obtain ⟨fd,fe,dx,rfl,ar,hs,cc⟩:=hpost;have az:=ay.trans ar;refine Zf (ca _ _ (λ_ _=>((hs.less az).sub (ssk (ssk (ssk (ssk (ssk (ssc (ssc ssr)))))))))<|F1 18 sh V (λff cd=>Rc H λbk bt H=>Oc V (Uf.c hs (ek.mono az) bt) (λce w hpost=>?_)));obtain ⟨fg,fh,dy,rfl,aq,hs,cf⟩:=hpost;have a0:=az.trans aq;refine Zf (cd _ _ (λ_ _=>((hs.less a0).sub (ssk (ssk (ssk (ssk (ssk (ssk (ssc (ssc ssr))))))))))<|F1 21 sh V (λfi cg=>Rc H λbl bu H=>Oc V (Kn.c hs (el.mono a0) bu) (λch w hpost=>?_)));obtain ⟨fj,fk,dz,rfl,ap,hs,ci⟩:=hpost;have a1:=a0.trans ap;refine Zf (cg _ _ (λ_ _=>((hs.less a1).sub (ssk (ssk (ssk (ssk (ssk (ssk (ssk (ssc (ssc ssr)))))))))))<|F1 24 sh V (λfl cj=>Rc H λbm bv H=>Oc V (Kn.c hs (em.mono a1) bv) (λck w hpost=>?_)));obtain ⟨fm,fn,ea,rfl,ao,hs,cl⟩:=hpost;have a2:=a1.trans ao;refine Zf (cj _ _ (λ_ _=>((hs.less a2).sub (ssk (ssk (ssk (ssk (ssk (ssk (ssk (ssk (ssc (ssc ssr))))))))))))<|F1 27 sh V (λfo cm=>Rc H λbn bw H=>Oc V (Uf.c hs (en.mono a2) bw) (λcn w hpost=>?_)));obtain ⟨fp,fq,eb,rfl,an,hs,co⟩:=hpost;have a3:=a2.trans an;refine Zf (cm _ _ (λ_ _=>((hs.less a3).sub (ssk (ssk (ssk (ssk (ssk (ssk (ssk (ssk (ssk (ssc (ssc ssr)))))))))))))<|F1 30 sh V (λfr cp=>Rc H λbo bx H=>Oc V (Kn.c hs (eo.mono a3) bx) (λcq w hpost=>?_)));obtain ⟨fs,ft,ec,rfl,am,hs,cr⟩:=hpost;have a4:=a3.trans am;refine Zf (cp _ _ (λ_ _=>((hs.less a4).sub (ssk (ssk (ssk (ssk (ssk (ssk (ssk (ssk (ssk (ssk (ssc (ssc ssr))))))))))))))<|F1 33 sh V (λfu ct=>Rc H λbp bz H=>Oc V (Vz.c hs (ep.mono a4) bz) (λcu w hpost=>?_)));obtain ⟨fv,fw,ed,rfl,al,hs,cv⟩:=hpost;have a5:=a4.trans al;refine Zf (ct _ _ (λ_ _=>((hs.less a5).sub (ssk (ssk (ssk (ssk (ssk (ssk (ssk (ssk (ssk (ssk (ssk (ssc (ssc ssr))))))))))))))) ?_);obtain ⟨fx,aa,hs,a6⟩:=hs.rowEnd (j:=10) (e1.mono a5) V;have cw:=a5.trans aa;obtain ⟨fy,ab,hs,a7⟩:=hs.rowEnd (j:=9) (b3.mono (((((((((aw.trans av).trans ar).trans aq).trans ap).trans ao).trans an).trans am).trans al).trans aa)) V;have cx:=cw.trans ab;obtain ⟨fz,ac,hs,a8⟩:=hs.rowEnd (j:=8) (b6.mono (((((((((av.trans ar).trans aq).trans ap).trans ao).trans an).trans am).trans al).trans aa).trans ab)) V;have cy:=cx.trans ac;obtain ⟨ga,ad,hs,a9⟩:=hs.rowEnd (j:=7) (b9.mono (((((((((ar.trans aq).trans ap).trans ao).trans an).trans am).trans al).trans aa).trans ab).trans ac)) V;have cz:=cy.trans ad
 obtain ⟨gb,ae,hs,ba⟩:=hs.rowEnd (j:=6) (cc.mono (((((((((aq.trans ap).trans ao).trans an).trans am).trans al).trans aa).trans ab).trans ac).trans ad)) V;have da:=cz.trans ae;obtain ⟨gc,af,hs,bb⟩:=hs.rowEnd (j:=5) (cf.mono (((((((((ap.trans ao).trans an).trans am).trans al).trans aa).trans ab).trans ac).trans ad).trans ae)) V;have db:=da.trans af;obtain ⟨ge,ag,hs,bc⟩:=hs.rowEnd (j:=4) (ci.mono (((((((((ao.trans an).trans am).trans al).trans aa).trans ab).trans ac).trans ad).trans ae).trans af)) V;have dc:=db.trans ag;obtain ⟨gf,ah,hs,bd⟩:=hs.rowEnd (j:=3) (cl.mono (((((((((an.trans am).trans al).trans aa).trans ab).trans ac).trans ad).trans ae).trans af).trans ag)) V;have dd:=dc.trans ah;obtain ⟨gg,ai,hs,be⟩:=hs.rowEnd (j:=2) (co.mono (((((((((am.trans al).trans aa).trans ab).trans ac).trans ad).trans ae).trans af).trans ag).trans ah)) V;have de:=dd.trans ai;obtain ⟨gh,aj,hs,bf⟩:=hs.rowEnd (j:=1) (cr.mono (((((((((al.trans aa).trans ab).trans ac).trans ad).trans ae).trans af).trans ag).trans ah).trans ai)) V;have df:=de.trans aj;obtain ⟨gi,ak,hs,bg⟩:=hs.rowEnd (j:=0) (cv.mono (((((((((aa.trans ab).trans ac).trans ad).trans ae).trans af).trans ag).trans ah).trans ai).trans aj)) V;have dg:=df.trans ak;refine Fp 34 sh V (λw=>X4 (cs:=[ez,e3,b5,b8,cb,ce,ch,ck,cn,cq,cu]) Zzn Z8c ((Zp.cons V a6.cellsL (Zp.cons V a7.cellsL (Zp.cons V a8.cellsL (Zp.cons V a9.cellsL (Zp.cons V ba.cellsL (Zp.cons V bb.cellsL (Zp.cons V bc.cellsL (Zp.cons V bd.cellsL (Zp.cons V be.cellsL (Zp.cons V bf.cellsL (Zp.cons V bg.cellsL Zp.nil)))))))))))) Zmo (by kernel_rfl))<|F1 35 sh V (λgj dh=>Z2 (i:=0) Zh8 hs V V V V V (Zb a6.one (Zb a7.one (Zb a8.one (Zb a9.one (Zb ba.one (Zb bb.one (Zb bc.one (Zb bd.one (Zb be.one (Zb bf.one (Zb bg.one Z9))))))))))) (λw hs=>Zf (dh _ _ (λh _=>absurd h (by decide))<|FE sh (et _ _<|W.weak [(2,_)] (S1 V)<|Zh ?_))));cases H;exact Zgq (i:=0) V V Zmo Zh8 hs V V ⟨_,_,V,dg,(hs.sub (ssk (ssk ssr))),⟨_,_,_,_,_,_,_,_,_,_,_,V,(a6.mono (((((((((ab.trans ac).trans ad).trans ae).trans af).trans ag).trans ah).trans ai).trans aj).trans ak)),(a7.mono ((((((((ac.trans ad).trans ae).trans af).trans ag).trans ah).trans ai).trans aj).trans ak)),(a8.mono (((((((ad.trans ae).trans af).trans ag).trans ah).trans ai).trans aj).trans ak)),(a9.mono ((((((ae.trans af).trans ag).trans ah).trans ai).trans aj).trans ak)),(ba.mono (((((af.trans ag).trans ah).trans ai).trans aj).trans ak)),(bb.mono ((((ag.trans ah).trans ai).trans aj).trans ak)),(bc.mono (((ah.trans ai).trans aj).trans ak)),(bd.mono ((ai.trans aj).trans ak)),(be.mono (aj.trans ak)),(bf.mono ak),bg⟩⟩
def Kx.j1 (aa:Bool):Option (Option Tbs×Bk×Bool):=some (none,(⟨([]:List ByteArray),([]:List Val),([]:List Chs),([]:List Val),([]:List Chs),([]:List Spn),([]:List Val),([]:List Val),([]:List Spn),([]:List Val),([]:List Chs)⟩:Bk),aa)
def Kx.j2 (ad:Option Tbs×Int) (an:Bk) (ab:Bool):Option (Option Tbs×Bk×Bool):=some (ad.1,an,ab)
def Kx.f (x0:Bk):Option (Option Tbs×Bk×Bool):=(Zl.f x0).bind λad=>((Zfb.f x0).bind λan=>((Zd.f an).bind λao=>(if ao.2.2≠0 then (if ad.2=ao.2.2 then (Kx.j1 ((ad.1).isNone)) else (Kx.j1 false)) else (if ad.2=0 then (Kx.j2 ad an ((ad.1).isSome)) else (Kx.j2 ad an false)))))
theorem Kx.c (hs:St w0 ρ (Γ) w) (h0:rBk.R ρ c0 x0) (H:Kx.f x0=some r):Zk prog 4 [.agg c0.toArray] w (λv w'=>∃ (ρ':Hp) (v0:Value) (cs1:List Value),v=.tuple #[v0,.agg cs1.toArray,.bool r.2.2]/\Le ρ ρ'/\St w0 ρ' (Γ) w'/\Xq Ha ρ' v0 r.1/\rBk.R ρ' cs1 r.2.1):=by
 refine Et func4 ntmps4 V ?_;have cj:=h0;obtain ⟨bc,bd,be,bf,bg,bh,bi,bj,bk,bl,bm,rfl,cw,cx,cy,cz,da,db,dc,dd,de,df,dg⟩:=cj;refine Wq<|Kw (cs:=[bc,bd,be,bf,bg,bh,bi,bj,bk,bl,bm]) hs V V (λbp w hs=>Rn 1 V<|Yn Zzn hs V (λa6 w hs=>Rx 1 V<|Wq<|O_y V (Ys (i:=1) Zqn Zox hs V V V V)<|Rc H λad bq H=>Oc V (Zl.c hs h0 bq) (λdk w hpost=>?_)));obtain ⟨dl,cm,rfl,ap,hs,br⟩:=hpost;refine Rx 5 V<|Wq<|O_y V (Ys (i:=1) Zqn Zox hs V V V V) ?_;obtain ⟨an,bs,H⟩:=bnd H;refine Oc V (Zfb.c hs (rBk.mono ap h0) bs) (λdn w hpost=>?_);obtain ⟨ac,co,rfl,aq,hs,bt⟩:=hpost;have bu:=bt;obtain ⟨bn,bo,ae,af,ag,ah,ai,aj,ak,al,am,rfl,bv,bw,ar,au,av,aw,ax,ay,az,a0,a1⟩:=bu;refine Yn Zzn hs V (λa2 w hs=>Z2 (i:=0) Zh8 hs V V V V V (Zb bv.one (Zb bw.one (Zb ar.one (Zb au.one (Zb av.one (Zb aw.one (Zb ax.one (Zb ay.one (Zb az.one (Zb a0.one (Zb a1.one Z9))))))))))) (λw hs=>Zf<|W.weak [(3,_),(5,_),(6,_),(7,_)] (T4 V)<|Wq<|O_y V (Ys (i:=0) Zmo Zh8 hs V V V V)<|Rc H λao a7 H=>Oc V (Zd.c hs bt a7)<|Ra λw hs=>Rx 7 V<|Wsq<|Wr λct b0=>Rx 2 V (b0 _ _<|W.weak [(3,_),(5,_),(6,_),(7,_),(10,_),(25,_)] sbn<|gIV H V (λH=>?_) λH=>?_)));refine Z8 λb1 b2 a8=>?_;have a9 aa w (H:Kx.j1 aa=some r) (hs:St w0 ac ((.box a2 39 ([bn,bo,ae,af,ag,ah,ai,aj,ak,al,am]))::(.box a6 39 ([Lz,Lz,Lz,Lz,Lz,Lz,Lz,Lz,Lz,Lz,Lz]))::(.box bp 27 ([bc,bd,be,bf,bg,bh,bi,bj,bk,bl,bm]))::Γ) w):b1 [(2,.pointer none),(3,Ll a6),(4,.bool aa)] w:=by rw [Kx.j1] at H;refine b2 _ _<|Zh ?_;have b3:Xq Ha ac (.pointer none) none:=Xq.nil _ _;have b4:SlR Rep.str ac (Lz) []:=.inl ⟨V,none,0,V⟩;have b5:SlR Kc ac (Lz) []:=.inl ⟨V,none,0,V⟩;have b6:SlR V1 ac (Lz) []:=.inl ⟨V,none,0,V⟩;have b7:SlR Kc ac (Lz) []:=.inl ⟨V,none,0,V⟩;have b8:SlR V1 ac (Lz) []:=.inl ⟨V,none,0,V⟩;have b9:SlR Vd ac (Lz) []:=.inl ⟨V,none,0,V⟩;have ca:SlR Kc ac (Lz) []:=.inl ⟨V,none,0,V⟩;have cb:SlR Kc ac (Lz) []:=.inl ⟨V,none,0,V⟩;have cc:SlR Vd ac (Lz) []:=.inl ⟨V,none,0,V⟩;have cd:SlR Kc ac (Lz) []:=.inl ⟨V,none,0,V⟩;have ce:SlR V1 ac (Lz) []:=.inl ⟨V,none,0,V⟩;cases H;exact Z8f V (RV.tmp V (RV.cell V Zmo Zh8 V (λj u hu=>hs.boxCell (i:=1) V hu) (RV.tmp V RV.nil))) (by simp) ⟨_,_,_,rfl,(ap.trans aq),(hs.sub (ssk (ssk (ssk ssr)))),b3,⟨_,_,_,_,_,_,_,_,_,_,_,rfl,b4,b5,b6,b7,b8,b9,ca,cb,cc,cd,ce⟩⟩
 refine Zc<|O_y V (X4 (cs:=[Lz,Lz,Lz,Lz,Lz,Lz,Lz,Lz,Lz,Lz,Lz]) Zzn Z8c (Zp.nil) Zmo (by kernel_rfl))<|Rn 4 V<|gI1 H (X9 (dj:=30) V) (λH=>?_) λH=>?_;refine Rn 3 V<|O_y V ((br.eqn Zoz V V))<|Rn 2 V<|Z2 (i:=1) Zh8 hs V V V V V (Zb V (Zb V (Zb V (Zb V (Zb V (Zb V (Zb V (Zb V (Zb V (Zb V (Zb V Z9))))))))))) (λw hs=>Rx 1 V (a8 _ _ _ (T3 V) (a9 ((ad.1).isNone) _ H hs)));refine Rn 4 V<|Z2 (i:=1) Zh8 hs V V V V V (Zb V (Zb V (Zb V (Zb V (Zb V (Zb V (Zb V (Zb V (Zb V (Zb V (Zb V Z9))))))))))) (λw hs=>Rx 1 V (a8 _ _ _ (T3 V) (a9 false _ H hs)));refine Ze<|Z8 λcf cg ba=>?_;have bb ab w (H:Kx.j2 ad an ab=some r) (hs:St w0 ac ((.box a2 39 ([bn,bo,ae,af,ag,ah,ai,aj,ak,al,am]))::(.box a6 39 ([bn,bo,ae,af,ag,ah,ai,aj,ak,al,am]))::(.box bp 27 ([bc,bd,be,bf,bg,bh,bi,bj,bk,bl,bm]))::Γ) w):cf [(2,cm),(3,Ll a6),(4,.bool ab)] w:=by rw [Kx.j2] at H;refine cg _ _<|Zh ?_;cases H;exact Z8f V (RV.tmp V (RV.cell V Zmo Zh8 V (λj u hu=>hs.boxCell (i:=1) V hu) (RV.tmp V RV.nil))) (by simp) ⟨_,_,_,rfl,(ap.trans aq),(hs.sub (ssk (ssk (ssk ssr)))),(br.mono aq),bt⟩
 refine Qz 11 [0,0,0,4,8,16,48,80,17,259,1023] [254,509,1011,995,515,899,771,771,226,0,0] [0,0,0,4,12,28,60,124,29,287,1023] [9,10] (λw=>St w0 ac ((.box a2 39 ([bn,bo,ae,af,ag,ah,ai,aj,ak,al,am]))::(.box a6 39 ([Lz,Lz,Lz,Lz,Lz,Lz,Lz,Lz,Lz,Lz,Lz]))::(.box bp 27 ([bc,bd,be,bf,bg,bh,bi,bj,bk,bl,bm]))::Γ) w) mixed (by kernel_rfl) (λsh=>?_);have hs:=hs.drew;refine Fm 0 sh V<|Fy 1 sh V hs (λw hs=>Ys (i:=0) Zmo Zh8 hs V V V V)<|Fm 2 sh V<|Fp 3 sh V (λw=>Zcd V V)<|Fm 4 sh V<|gI1 H (Zbg (dj:=38) V) (λH=>?_) λH=>?_;refine Fp 5 sh V (λw=>Qf V)<|Fp 6 sh V (λw=>(br.nen Zoz V V))<|Fp 7 sh V (λw=>Kp V V)<|Fp 8 sh V (λw=>Y8 V)<|F1 9 sh V (λcu ch=>Z2 (i:=1) Zh8 hs V V V V V (Zb bv.one (Zb bw.one (Zb ar.one (Zb au.one (Zb av.one (Zb aw.one (Zb ax.one (Zb ay.one (Zb az.one (Zb a0.one (Zb a1.one Z9))))))))))) (λw hs=>Zf (ch _ _ (λh _=>absurd h (by decide))<|K1 sh [] hs (by kernel_rfl)<|Fp 10 sh V (λw=>Y8 V)<|FE sh (ba _ _ _ (T3 V) (bb ((ad.1).isSome) _ H hs)))));refine Fn 5 sh V<|Fn 6 sh V<|Fp 7 sh V (λw=>Ql V V)<|Fp 8 sh V (λw=>Y8 V)<|F1 9 sh V (λcv ci=>Z2 (i:=1) Zh8 hs V V V V V (Zb bv.one (Zb bw.one (Zb ar.one (Zb au.one (Zb av.one (Zb aw.one (Zb ax.one (Zb ay.one (Zb az.one (Zb a0.one (Zb a1.one Z9))))))))))) (λw hs=>Zf (ci _ _ (λh _=>absurd h (by decide))<|K1 sh [] hs (by kernel_rfl)<|Fp 10 sh V (λw=>Y8 V)<|FE sh (ba _ _ _ (T3 V) (bb false _ H hs)))))
def Zc7.f (x0:Vector Int 4) (x1:Int):Option (Vector Int 4):=if (0:Int)<=u8.wrap (x1.tdiv 64)/\u8.wrap (x1.tdiv 64)<((4:Nat):Int) then (if (0:Int)<=x1.tmod 64 then (some (Zec x0 (u8.wrap (x1.tdiv 64)) (bOr .u64 (vg x0 (u8.wrap (x1.tdiv 64))) (u64.wrap (1*2^(min (x1.tmod 64).toNat 64)))))) else none) else none
theorem Zc7.c (hs:St w0 ρ (Γ) w) (H:Zc7.f x0 x1=some r):gK 199 [.agg (vcs (Value.int .u64) x0).toArray,.int .u8 x1] w0 ρ Γ w (.agg (vcs (Value.int .u64) r).toArray):=by
 refine Et func199 ntmps199 V<|Wq<|Zjd hs V V (λag w hs=>Yn Zex hs V (λah w hs=>Zf<|Wn 1 V<|O_y V (Zfl V V (by decide))<|Rd H λaa H=>O_y V (Zc6 Zog Zkc V V aa.1 aa.2)<|O_y V (Zfw (j:=1) Zwj hs V V aa.1 aa.2 V)<|Rn 1 V<|O_y V (Zle V V (by decide))<|Rd H λad H=>O_y V (Z7p V V ad)<|O_y V (Z3q V V)<|O_y V (Zc6 Zog Zkc V V aa.1 aa.2)<|Ze3 (j:=1) (u:=bOr .u64 (vg x0 (u8.wrap (x1.tdiv 64))) (u64.wrap (1*2^(min (x1.tmod 64).toNat 64)))) Zkc (Q0 .u64) hs V V aa.1 aa.2 V V (λw hs=>Zf<|Wq<|O_y V (K8 (j:=1) Hk J8 hs V V)<|Ke (j:=0) (u:=Zec x0 (u8.wrap (x1.tdiv 64)) (bOr .u64 (vg x0 (u8.wrap (x1.tdiv 64))) (u64.wrap (1*2^(min (x1.tmod 64).toNat 64))))) J8 (Q0 .u64) hs V V V (λw hs=>Zf<|Zh ?_))));cases H;exact Zgq (i:=0) V V Hk J8 hs V (by simp) ⟨(by simp only [List.nil_append,List.append_nil]),(hs.sub (ssk (ssk ssr)))⟩
def V4.l1:Nat->List Int->Vector Int 4->Int->Option (Vector Int 4)
  | 0,_,_,_=>none
  | ae+1,x2,aa,ac=>if ac<(x2.length:Int) then (if (0:Int)<=ac/\ac<(x2.length:Int) then ((Zc7.f aa (rd x2 ac)).bind λag=>((V4.l1 ae x2) ag (i64.wrap (ac+1)))) else none) else (some aa)
def V4.l2:Nat->Int->List Int->Vector Int 4->Int->Option (Vector Int 4)
  | 0,_,_,_,_=>none
  | af+1,x1,x2,ab,ad=>if ad<=(i64.wrap x1) then ((Zc7.f ab (u8.wrap ad)).bind λan=>((V4.l2 af x1 x2) an (i64.wrap (ad+1)))) else (V4.l1 K0 x2 ab 0)
def V4.f (x0 x1:Int) (x2:List Int):Option (Vector Int 4):=V4.l2 K0 x1 x2 (Vector.replicate 4 0:Vector Int 4) (i64.wrap x0)
theorem V4.c (hs:St w0 ρ (Γ) w) (h2:SlR (Rep.int .u8) ρ v2 x2) (H:V4.f x0 x1 x2=some r):gK 175 [.int .u8 x0,.int .u8 x1,v2] w0 ρ Γ w (.agg (vcs (Value.int .u64) r).toArray):=by
 rw [V4.f] at H;refine Et func175 ntmps175 V<|Wq<|Yn Zex hs V (λaj w hs=>Zf<|Wq<|Yn Zex hs V (λak w hs=>Zf<|Wsq<|Wn 1 V<|O_y V (U3 un5 un3 V)<|Rx 1 V<|Wbk<|Lp2 (λab ad=>[(1,.int .u8 x1),(2,v2),(6,Ll aj),(7,Ll ak),(8,Lk ad)]) (λaf ab ad=>V4.l2 af x1 x2 ab ad) (λab ad w=>St w0 ρ ((.box ak 220 ([]++(vcs (Value.int .u64) ab++[])))::(.box aj 220 ([]++(vcs (Value.int .u64) (Vector.replicate 4 0:Vector Int 4)++[])))::Γ) w) (Vector.replicate 4 0:Vector Int 4) (i64.wrap x0) sbn H hs λaf ab ad w H hs ah=>?_));rw [V4.l2] at H;refine Wsq<|Wn 2 V<|O_y V (U3 un5 un3 V)<|Rx 1 V<|gIV H V (λH=>?_) λH=>?_;refine Ze<|Wsq<|Wbk<|Zc<|O_y V (K8 (j:=0) Hk J8 hs V V)<|Rn 1 V<|O_y V (U3 un3 un5 V)<|Rc H λan ap H=>Oc V (Zc7.c hs ap)<|Ra λw hs=>Ke (j:=0) (u:=an) J8 (Q0 .u64) hs V V V (λw hs=>Zf<|Zc<|Rx 3 V (ah an (i64.wrap (ad+1)) sbn H hs));refine We<|Wsq<|Wn 1 V<|O_y V (Yk Zkg h2 V)<|Rx 1 V<|Wbk<|Lp2 (λaa ac=>[(6,Ll aj),(7,Ll ak),(23,v2),(24,Lk (x2.length:Int)),(25,Lk ac)]) (λae aa ac=>V4.l1 ae x2 aa ac) (λaa ac w=>St w0 ρ ((.box ak 220 ([]++(vcs (Value.int .u64) aa++[])))::(.box aj 220 ([]++(vcs (Value.int .u64) (Vector.replicate 4 0:Vector Int 4)++[])))::Γ) w) ab 0 sbn H hs λae aa ac w H hs ai=>?_;rw [V4.l1] at H;refine Wa 1 V<|Wsq<|gIV H V (λH=>?_) λH=>?_;refine Ze<|Wsq<|Wbk<|Wsq<|Zc ?_;obtain ⟨al,H⟩:=gd H;obtain ⟨bc,bd,au,av⟩:=h2.ix Ze4 al.1 al.2;refine O_y V (av V V)<|O_y V (Y5 ag5 V (hs.see au.int))<|Rx 1 V<|Zc<|O_y V (K8 (j:=0) Hk J8 hs V V)<|Rn 1 V<|Rc H λag am H=>Oc V (Zc7.c hs am)<|Ra λw hs=>Ke (j:=0) (u:=ag) J8 (Q0 .u64) hs V V V (λw hs=>Zf<|Zc<|Rx 2 V (ai ag (i64.wrap (ac+1)) sbn H hs));refine We<|Wq<|O_y V (K8 (j:=0) Hk J8 hs V V)<|Ke (j:=1) (u:=aa) J8 (Q0 .u64) hs V V V (λw hs=>Zf<|Zh ?_);cases H;exact Zgq (i:=1) V V Hk J8 hs V (by simp) ⟨(by simp only [List.nil_append,List.append_nil]),(hs.sub (ssk (ssk ssr)))⟩
def V8.l1 (ah:Vector Int 4->Int->Option (Vector Int 4)):Nat->List (Vector Int 4)->Int->Vector Int 4->Int->Option (Vector Int 4)
  | 0,_,_,_,_=>none
  | ag+1,x0,aa,ab,ac=>if ac<4 then (if (0:Int)<=ac/\ac<((4:Nat):Int) then ((V8.l1 ah ag x0 aa) (Zec ab ac (bOr .u64 (vg ab ac) (vg (rd x0 aa) ac))) (i64.wrap (ac+1))) else none) else (ah ab (i64.wrap (aa+1)))
def V8.l2:Nat->List (Vector Int 4)->Vector Int 4->Int->Option (Vector Int 4)
  | 0,_,_,_=>none
  | af+1,x0,ad,aa=>if aa<(x0.length:Int) then (if (0:Int)<=aa/\aa<(x0.length:Int) then (V8.l1 (V8.l2 af x0) K0 x0 aa ad 0) else none) else (some ad)
def V8.f (x0:List (Vector Int 4)):Option (Vector Int 4):=V8.l2 K0 x0 (Vector.replicate 4 0:Vector Int 4) 0
theorem V8.c (hs:St w0 ρ (Γ) w) (h0:SlR (Rep.arr (Value.int .u64) (Q0 .u64) 4) ρ v0 x0) (H:V8.f x0=some r):gK 174 [v0] w0 ρ Γ w (.agg (vcs (Value.int .u64) r).toArray):=by
 rw [V8.f] at H;refine Et func174 ntmps174 V<|Wq<|Yn Zex hs V (λak w hs=>Zf<|Wq<|Yn Zex hs V (λal w hs=>Zf<|Wsq<|Wn 1 V<|O_y V (Yk Z51 h0 V)<|Rx 1 V<|Wbk<|Lp2 (λad aa=>[(2,Ll ak),(3,Ll al),(8,v0),(9,Lk (x0.length:Int)),(10,Lk aa)]) (λaf ad aa=>V8.l2 af x0 ad aa) (λad aa w=>St w0 ρ ((.box al 220 ([]++(vcs (Value.int .u64) ad++[])))::(.box ak 220 ([]++(vcs (Value.int .u64) (Vector.replicate 4 0:Vector Int 4)++[])))::Γ) w) (Vector.replicate 4 0:Vector Int 4) 0 sbn H hs λaf ad aa w H hs ai=>?_));rw [V8.l2] at H;refine Wa 1 V<|Wsq<|gIV H V (λH=>?_) λH=>?_;refine Ze<|Wsq<|Wbk<|Wsq<|Zc ?_;obtain ⟨ar,H⟩:=gd H;obtain ⟨bu,bv,a3,a4⟩:=h0.ix Z0l ar.1 ar.2;have a5:=a3.arr;refine O_y V (a4 V V)<|O_y V (Kg (cs:=vcs (Value.int .u64) (rd x0 aa)) Hk J8 (Zi7 _ _) V (λj u hu=>hs.see (a5 j u (by simpa using hu))))<|Yn Zex hs rfl (λa6 w hs=>Ke (j:=0) (u:=rd x0 aa) J8 (Q0 .u64) hs rfl rfl rfl (λw hs=>Zf<|Wq<|O_y rfl (K8 (j:=0) Hk J8 hs rfl rfl)<|Rx 1 rfl<|Wbk<|Lp2 (λab ac=>[(2,Ll ak),(3,Ll al),(8,v0),(9,Lk (x0.length:Int)),(10,Lk aa),(14,.agg (vcs (Value.int .u64) (rd x0 aa)).toArray),(15,Lk ac)]) (λag ab ac=>V8.l1 (V8.l2 af x0) ag x0 aa ab ac) (λab ac w=>St w0 ρ ((.box a6 220 ([]++(vcs (Value.int .u64) (rd x0 aa)++[])))::(.box al 220 ([]++(vcs (Value.int .u64) ab++[])))::(.box ak 220 ([]++(vcs (Value.int .u64) (Vector.replicate 4 0:Vector Int 4)++[])))::Γ) w) ad 0 sbn H hs λag ab ac w H hs aj=>?_));rw [V8.l1] at H;refine Wa 1 V<|Wsq<|gIV H V (λH=>?_) λH=>?_;refine Ze<|Wsq<|Wbk<|Wn 1 V<|Rd H λae H=>O_y V (Z3m Zog Zkc Zwj V V ae.1 ae.2)<|Rx 2 V<|Zc<|Rn 1 V<|O_y V (Zc6 Zog Zkc V V ae.1 ae.2)<|O_y V (Zfw (j:=1) Zwj hs V V ae.1 ae.2 V)<|Rn 1 V<|O_y V (Z3q V V)<|O_y V (Zc6 Zog Zkc V V ae.1 ae.2)<|Ze3 (j:=1) (u:=bOr .u64 (vg ab ac) (vg (rd x0 aa) ac)) Zkc (Q0 .u64) hs V V ae.1 ae.2 V V (λw hs=>Zf<|W.weak [(2,_),(3,_),(8,_),(9,_),(10,_),(14,_),(15,_)] sbn<|Zc<|Rx 2 V (aj (Zec ab ac (bOr .u64 (vg ab ac) (vg (rd x0 aa) ac))) (i64.wrap (ac+1)) sbn H hs));refine We<|Zc<|Rx 2 V (ai ab (i64.wrap (aa+1)) sbn H (hs.sub (ssk (ssc (ssc ssr)))));refine We<|Wq<|O_y V (K8 (j:=0) Hk J8 hs V V)<|Ke (j:=1) (u:=ad) J8 (Q0 .u64) hs V V V (λw hs=>Zf<|Zh ?_);cases H;exact Zgq (i:=1) V V Hk J8 hs V (by simp) ⟨(by simp only [List.nil_append,List.append_nil]),(hs.sub (ssk (ssk ssr)))⟩
def Vc.l1:Nat->ByteArray->Vector Int 4->Int->Option (Vector Int 4)
  | 0,_,_,_=>none
  | ac+1,x1,aa,ab=>if ab<(x1.size:Int) then (if (0:Int)<=ab/\ab<(x1.size:Int) then ((Zc7.f aa (bt x1 ab)).bind λae=>((Vc.l1 ac x1) ae (i64.wrap (ab+1)))) else none) else (some aa)
def Vc.f (x0:Vector Int 4) (x1:ByteArray):Option (Vector Int 4):=Vc.l1 K0 x1 x0 0
theorem Vc.c (hs:St w0 ρ (Γ) w) (H:Vc.f x0 x1=some r):gK 176 [.agg (vcs (Value.int .u64) x0).toArray,.string x1] w0 ρ Γ w (.agg (vcs (Value.int .u64) r).toArray):=by
 rw [Vc.f] at H;refine Et func176 ntmps176 V<|Wq<|Zjd hs V V (λaf w hs=>Yn Zex hs V (λag w hs=>Zf<|Wsq<|Wn 1 V<|O_y V (U8 un9 V)<|Rx 1 V<|Wbk<|Lp2 (λaa ab=>[(1,.string x1),(2,Ll af),(4,Ll ag),(7,Lk (x1.size:Int)),(8,Lk ab)]) (λac aa ab=>Vc.l1 ac x1 aa ab) (λaa ab w=>St w0 ρ ((.box ag 220 ([]++(vcs (Value.int .u64) (Vector.replicate 4 0:Vector Int 4)++[])))::(.box af 220 ([]++(vcs (Value.int .u64) aa++[])))::Γ) w) x0 0 sbn H hs λac aa ab w H hs ad=>?_));rw [Vc.l1] at H;refine Wa 1 V<|Wsq<|gIV H V (λH=>?_) λH=>?_;refine Ze<|V2 λa5 aq=>Wbk<|Wa 2 V<|Qz 6 [0,0,0,6,9,31] [14,21,19,1,0,0] [0,0,0,6,15,31] [4,5] (λw=>St w0 ρ ((.box ag 220 ([]++(vcs (Value.int .u64) (Vector.replicate 4 0:Vector Int 4)++[])))::(.box af 220 ([]++(vcs (Value.int .u64) aa++[])))::Γ) w) mixed (by kernel_rfl) (λsh=>?_);have hs:=hs.drew;refine Fy 0 sh V hs (λw hs=>K8 (j:=1) Hk J8 hs V V)<|Fm 1 sh V<|Fm 2 sh V<|Rd H λaj H=>Fp 3 sh V (λw=>Zjf un9 V V aj.1 aj.2)<|F1 4 sh V (λba au=>Rc H λae ai H=>Oc V (Zc7.c hs ai)<|Ra λw hs=>Zf (au _ _ (λh _=>absurd h (by decide))<|K1 sh [5] hs (by kernel_rfl)<|F1 5 sh V (λbc av=>Ke (j:=1) (u:=ae) J8 (Q0 .u64) hs V V V (λw hs=>Zf (av _ _ (λh _=>absurd h (by decide))<|FE sh (aq _ _<|Zc<|Rx 2 V (ad ae (i64.wrap (ab+1)) sbn H hs)))))));refine We<|Wq<|O_y V (K8 (j:=1) Hk J8 hs V V)<|Ke (j:=0) (u:=aa) J8 (Q0 .u64) hs V V V (λw hs=>Zf<|Zh ?_);cases H;exact Zgq (i:=0) V V Hk J8 hs V (by simp) ⟨(by simp only [List.nil_append,List.append_nil]),(hs.sub (ssk (ssk ssr)))⟩
def Zc1.f (x0:Int):Option (Vector Int 4×Int):=(V4.f 0 31 ([]:List Int)).bind λaf=>((V4.f 127 255 ([]:List Int)).bind λag=>((V8.f ([af,ag])).bind λah=>((Vc.f ah (⟨#[32,34,35,60,62]⟩:ByteArray)).bind λai=>((Vc.f ai (⟨#[63,94,96,123,125]⟩:ByteArray)).bind λaz=>((Vc.f az (⟨#[47,58,59,61,64,91,92,93,124]⟩:ByteArray)).bind λa0=>((Vc.f a0 (⟨#[36,37,38,43,44]⟩:ByteArray)).bind λa1=>((V4.f 0 0 ([9,10,13])).bind λa2=>((Vc.f a2 (⟨#[32,35,47,58,60,62,63,64,91,92,93,94,124]⟩:ByteArray)).bind λab=>(if x0=1 then (some (ah,0)) else (if x0=2 then ((Vc.f ah (⟨#[32,34,60,62,96]⟩:ByteArray)).bind λaj=>(some (aj,0))) else (if x0=3 then (some (ai,0)) else (if x0=4 then ((Vc.f ai (⟨#[39]⟩:ByteArray)).bind λak=>(some (ak,0))) else (if x0=5 then (some (az,0)) else (if x0=6 then (some (a0,0)) else (if x0=7 then (some (a1,0)) else (if x0=8 then ((Vc.f a1 (⟨#[33,39,40,41,126]⟩:ByteArray)).bind λal=>(some (al,0))) else (if x0=9 then (some (ab,0)) else (if x0=10 then ((V4.f 0 31 ([37,127])).bind λad=>((V8.f ([ab,ad])).bind λam=>(some (am,0)))) else (some ((Vector.replicate 4 0:Vector Int 4),10))))))))))))))))))))
theorem Zc1.c (hs:St w0 ρ (Γ) w) (H:Zc1.f x0=some r):gK 149 [Lk x0] w0 ρ Γ w (.tuple #[.agg (vcs (Value.int .u64) r.1).toArray,Lk r.2]):=by
 refine Et func149 ntmps149 V<|Wq<|Yn Zex hs V (λcm w hs=>Rx 1 V<|Wsq<|Zc ?_);have co:SlR (Rep.int .u8) ρ (Lz) []:=.inl ⟨V,none,0,V⟩;refine Rc H λaf bd H=>Oc V (V4.c hs co bd)<|Ra λw hs=>?_;have cp:SlR (Rep.int .u8) ρ (Lz) []:=.inl ⟨V,none,0,V⟩;refine Rc H λag be H=>Oc V (V4.c hs cp be)<|Ra λw hs=>Q1 (xs:=[.tmp 10,.tmp 11]) (cs:=vcs (Value.int .u64) af++(vcs (Value.int .u64) ag++([]))) Z0l hs V V V (by decide) (by decide) V (Yf (Zgh _ _) (Yf (Zgh _ _) Qm)) (Zq V (Zq V Xh)) (λez w hs=>?_);have cq:Zm (Rep.arr (Value.int .u64) (Q0 .u64) 4) ρ (vcs (Value.int .u64) af++(vcs (Value.int .u64) ag++([]))) [af,ag]:=Zm.cons (c:=vcs (Value.int .u64) af) (x:=af) V (Zm.cons (c:=vcs (Value.int .u64) ag) (x:=ag) V (Zm.nil _ _));obtain ⟨cr,ac,hs,ct⟩:=hs.rowEnd (j:=0) cq V;refine Rc H λah bf H=>Oc V (V8.c hs ct bf)<|Ra λw hs=>Yn Zex hs V (λcu w hs=>Ke (j:=0) (u:=ah) J8 (Q0 .u64) hs V V V (λw hs=>Zf<|Wq<|O_y V (K8 (j:=0) Hk J8 hs V V)<|Rc H λai bg H=>Oc V (Vc.c hs bg)<|Ra λw hs=>Yn Zex hs V (λcw w hs=>Ke (j:=0) (u:=ai) J8 (Q0 .u64) hs V V V (λw hs=>Zf<|Wq<|O_y V (K8 (j:=0) Hk J8 hs V V)<|Rc H λaz bh H=>Oc V (Vc.c hs bh)<|Ra λw hs=>Yn Zex hs V (λcy w hs=>Ke (j:=0) (u:=az) J8 (Q0 .u64) hs V V V (λw hs=>Zf<|Wq<|O_y V (K8 (j:=0) Hk J8 hs V V)<|Rc H λa0 bi H=>Oc V (Vc.c hs bi)<|Ra λw hs=>Yn Zex hs V (λda w hs=>Ke (j:=0) (u:=a0) J8 (Q0 .u64) hs V V V (λw hs=>Zf<|W.weak [(0,_),(2,_),(4,_),(5,_),(6,_),(7,_)] sbn<|Wq<|O_y V (K8 (j:=0) Hk J8 hs V V)<|Rc H λa1 bj H=>Oc V (Vc.c hs bj)<|Ra λw hs=>?_))))))));refine Yn Zex hs V (λdc w hs=>Ke (j:=0) (u:=a1) J8 (Q0 .u64) hs V V V (λw hs=>Zf<|Wq<|Q1 (xs:=[.const (.int .u8 9),.const (.int .u8 10),.const (.int .u8 13)]) (cs:=[.int .u8 9,.int .u8 10,.int .u8 13]) Ze4 hs V V V (by decide) (by decide) V (Yf V (Yf V (Yf V Qm))) (Zq V (Zq V (Zq V Xh))) (λde w hs=>?_)));have bk:Zm (Rep.int .u8) cr ([.int .u8 9,.int .u8 10,.int .u8 13]) [9,10,13]:=Zm.cons (c:=[.int .u8 9]) (x:=9) V (Zm.cons (c:=[.int .u8 10]) (x:=10) V (Zm.cons (c:=[.int .u8 13]) (x:=13) V (Zm.nil _ _)));obtain ⟨a3,aa,hs,bl⟩:=hs.rowEnd (j:=0) bk V;refine Rc H λa2 a4 H=>Oc V (V4.c hs bl a4)<|Ra λw hs=>Rc H λab a5 H=>Oc V (Vc.c hs a5)<|Ra λw hs=>Yn Zex hs V (λbm w hs=>Ke (j:=0) (u:=ab) J8 (Q0 .u64) hs V V V (λw hs=>Zf<|Wsq<|Wa 1 V<|Wbk<|Wr λdm bp=>Rx 2 V (bp _ _<|W.weak [(2,_),(4,_),(5,_),(6,_),(7,_),(8,_),(9,_),(25,_),(26,_)] sbn<|gIV H V (λH=>?_) λH=>?_)));refine Wq<|O_y V (K8 (j:=5) Hk J8 hs V V)<|Ke (j:=6) (u:=ah) J8 (Q0 .u64) hs V V V (λw hs=>Rx 1 V<|Zh ?_);cases H;exact Zau (i:=6) V V V Hk J8 hs V (by simp) ⟨(by simp only [List.nil_append,List.append_nil]),((hs.sub (ssk (ssk (ssk (ssk (ssk (ssk (ssk ssr)))))))).less (ac.trans aa))⟩
 refine Wa 2 V<|gIV H V (λH=>?_) λH=>?_;refine Wq<|O_y V (K8 (j:=5) Hk J8 hs V V)<|Rc H λaj a6 H=>Oc V (Vc.c hs a6)<|Ra λw hs=>Ke (j:=6) (u:=aj) J8 (Q0 .u64) hs V V V (λw hs=>Rx 1 V<|Zh ?_);cases H;exact Zau (i:=6) V V V Hk J8 hs V (by simp) ⟨(by simp only [List.nil_append,List.append_nil]),((hs.sub (ssk (ssk (ssk (ssk (ssk (ssk (ssk ssr)))))))).less (ac.trans aa))⟩;refine Wa 2 V<|gIV H V (λH=>?_) λH=>?_;refine Wq<|O_y V (K8 (j:=4) Hk J8 hs V V)<|Ke (j:=6) (u:=ai) J8 (Q0 .u64) hs V V V (λw hs=>Rx 1 V<|W.weak [(2,_),(3,_)] (T2 V)<|Zh ?_);cases H;exact Zau (i:=6) V V V Hk J8 hs V (by simp) ⟨(by simp only [List.nil_append,List.append_nil]),((hs.sub (ssk (ssk (ssk (ssk (ssk (ssk (ssk ssr)))))))).less (ac.trans aa))⟩;refine Wa 2 V<|W.weak [(2,_),(5,_),(6,_),(7,_),(8,_),(9,_),(25,_),(36,_)] sbn<|gIV H V (λH=>?_) λH=>?_;refine Wq<|O_y V (K8 (j:=4) Hk J8 hs V V)<|Rc H λak a7 H=>Oc V (Vc.c hs a7)<|Ra λw hs=>Ke (j:=6) (u:=ak) J8 (Q0 .u64) hs V V V (λw hs=>Rx 1 V<|Zh ?_);cases H;exact Zau (i:=6) V V V Hk J8 hs V (by simp) ⟨(by simp only [List.nil_append,List.append_nil]),((hs.sub (ssk (ssk (ssk (ssk (ssk (ssk (ssk ssr)))))))).less (ac.trans aa))⟩;refine Wa 2 V<|gIV H V (λH=>?_) λH=>?_;refine Wq<|O_y V (K8 (j:=3) Hk J8 hs V V)<|Ke (j:=6) (u:=az) J8 (Q0 .u64) hs V V V (λw hs=>Rx 1 V<|Zh ?_);cases H;exact Zau (i:=6) V V V Hk J8 hs V (by simp) ⟨(by simp only [List.nil_append,List.append_nil]),((hs.sub (ssk (ssk (ssk (ssk (ssk (ssk (ssk ssr)))))))).less (ac.trans aa))⟩;refine Wa 2 V<|gIV H V (λH=>?_) λH=>?_;refine Wq<|O_y V (K8 (j:=2) Hk J8 hs V V)<|Ke (j:=6) (u:=a0) J8 (Q0 .u64) hs V V V (λw hs=>Rx 1 V<|Zh ?_);cases H;exact Zau (i:=6) V V V Hk J8 hs V (by simp) ⟨(by simp only [List.nil_append,List.append_nil]),((hs.sub (ssk (ssk (ssk (ssk (ssk (ssk (ssk ssr)))))))).less (ac.trans aa))⟩;refine Wa 2 V<|gIV H V (λH=>?_) λH=>?_;refine Wq<|O_y V (K8 (j:=1) Hk J8 hs V V)<|Ke (j:=6) (u:=a1) J8 (Q0 .u64) hs V V V (λw hs=>Rx 1 V<|W.weak [(2,_),(3,_)] (T2 V)<|Zh ?_);cases H;exact Zau (i:=6) V V V Hk J8 hs V (by simp) ⟨(by simp only [List.nil_append,List.append_nil]),((hs.sub (ssk (ssk (ssk (ssk (ssk (ssk (ssk ssr)))))))).less (ac.trans aa))⟩;refine Wa 2 V<|W.weak [(2,_),(8,_),(9,_),(25,_),(49,_)] sbn<|gIV H V (λH=>?_) λH=>?_;refine Wq<|O_y V (K8 (j:=1) Hk J8 hs V V)<|Rc H λal a8 H=>Oc V (Vc.c hs a8)<|Ra λw hs=>Ke (j:=6) (u:=al) J8 (Q0 .u64) hs V V V (λw hs=>Rx 1 V<|Zh ?_);cases H;exact Zau (i:=6) V V V Hk J8 hs V (by simp) ⟨(by simp only [List.nil_append,List.append_nil]),((hs.sub (ssk (ssk (ssk (ssk (ssk (ssk (ssk ssr)))))))).less (ac.trans aa))⟩;refine Wa 2 V<|gIV H V (λH=>?_) λH=>?_
 refine Wq<|O_y V (K8 (j:=0) Hk J8 hs V V)<|Ke (j:=6) (u:=ab) J8 (Q0 .u64) hs V V V (λw hs=>Rx 1 V<|Zh ?_);cases H;exact Zau (i:=6) V V V Hk J8 hs V (by simp) ⟨(by simp only [List.nil_append,List.append_nil]),((hs.sub (ssk (ssk (ssk (ssk (ssk (ssk (ssk ssr)))))))).less (ac.trans aa))⟩;refine Wa 2 V<|gIV H V (λH=>?_) λH=>?_;refine V2 λej b9=>Qz 7 [0,0,2,5,12,31,63] [22,25,1,0,0,0,0] [0,0,2,7,15,31,63] [5,6] (λw=>St w0 a3 ((.box bm 220 ([]++(vcs (Value.int .u64) ab++[])))::(.box dc 220 ([]++(vcs (Value.int .u64) a1++[])))::(.box da 220 ([]++(vcs (Value.int .u64) a0++[])))::(.box cy 220 ([]++(vcs (Value.int .u64) az++[])))::(.box cw 220 ([]++(vcs (Value.int .u64) ai++[])))::(.box cu 220 ([]++(vcs (Value.int .u64) ah++[])))::(.box cm 220 ([]++(vcs (Value.int .u64) (Vector.replicate 4 0:Vector Int 4)++[])))::Γ) w) mixed (by kernel_rfl) (λsh=>?_);have hs:=hs.drew;refine Fy 0 sh V hs (λw hs=>K8 (j:=0) Hk J8 hs V V)<|F1 1 sh V (λek ca=>Q1 (xs:=[.const (.int .u8 37),.const (.int .u8 127)]) (cs:=[.int .u8 37,.int .u8 127]) Ze4 hs V V V (by decide) (by decide) V (Yf V (Yf V Qm)) (Zq V (Zq V Xh)) (λel w hs=>?_));have cb:Zm (Rep.int .u8) a3 ([.int .u8 37,.int .u8 127]) [37,127]:=Zm.cons (c:=[.int .u8 37]) (x:=37) V (Zm.cons (c:=[.int .u8 127]) (x:=127) V (Zm.nil _ _));refine Zf (ca _ _ (λ_ _=>(hs.sub (ssk (ssc (ssc (ssc (ssc (ssc (ssc (ssc ssr)))))))))) ?_);obtain ⟨cc,ae,hs,cd⟩:=hs.rowEnd (j:=0) cb V;refine F1 2 sh V (λem ce=>Rc H λad a9 H=>Oc V (V4.c hs cd a9)<|Ra λw hs=>Zf (ce _ _ (λ_ _=>(hs.less ae))<|F1 3 sh V (λeo cf=>Q1 (xs:=[.tmp 58,.tmp 60]) (cs:=vcs (Value.int .u64) ab++(vcs (Value.int .u64) ad++([]))) Z0l hs V V V (by decide) (by decide) V (Yf (Zgh _ _) (Yf (Zgh _ _) Qm)) (Zq V (Zq V Xh)) (λep w hs=>?_))));have cg:Zm (Rep.arr (Value.int .u64) (Q0 .u64) 4) cc (vcs (Value.int .u64) ab++(vcs (Value.int .u64) ad++([]))) [ab,ad]:=Zm.cons (c:=vcs (Value.int .u64) ab) (x:=ab) V (Zm.cons (c:=vcs (Value.int .u64) ad) (x:=ad) V (Zm.nil _ _));refine Zf (cf _ _ (λ_ _=>((hs.less ae).sub (ssk (ssc (ssc (ssc (ssc (ssc (ssc (ssc ssr)))))))))) ?_);obtain ⟨eq,ba,hs,ch⟩:=hs.rowEnd (j:=0) cg V;have bb:=ae.trans ba;refine F1 4 sh V (λer ci=>Rc H λam bc H=>Oc V (V8.c hs ch bc)<|Ra λw hs=>Zf (ci _ _ (λ_ _=>(hs.less bb))<|F1 5 sh V (λet cj=>Ke (j:=6) (u:=am) J8 (Q0 .u64) hs V V V (λw hs=>Zf (cj _ _ (λh _=>absurd h (by decide))<|K1 sh [] hs (by kernel_rfl)<|Fp 6 sh V (λw=>Y8 V)<|FE sh (b9 _ _<|W.weak [(2,_),(3,_)] (T2 V)<|Zh ?_))))));cases H;exact Zau (i:=6) V V V Hk J8 hs V (by simp) ⟨(by simp only [List.nil_append,List.append_nil]),((hs.sub (ssk (ssk (ssk (ssk (ssk (ssk (ssk ssr)))))))).less ((ac.trans aa).trans bb))⟩
 refine Ze<|Wq<|O_y V (Zo1 (zs:=vcs (Value.int .u64) (Vector.replicate 4 0:Vector Int 4)) Zog Zkc Z8r)<|Ke (j:=6) (u:=(Vector.replicate 4 0:Vector Int 4)) J8 (Q0 .u64) hs V V V (λw hs=>Rx 1 V<|Zh ?_);cases H;exact Zau (i:=6) V V V Hk J8 hs V (by simp) ⟨(by simp only [List.nil_append,List.append_nil]),((hs.sub (ssk (ssk (ssk (ssk (ssk (ssk (ssk ssr)))))))).less (ac.trans aa))⟩
def J7.j1 (x0:S10) (ab ac ad ae af ag ah ai aa:Int):Option Bool:=some ((x0.kind == x0.kind&&(decide (x0.text=(⟨#[]⟩:ByteArray))&&(x0.four == ab&&true)))&&decide (([x0.six0,x0.six1,x0.six2,x0.six3,x0.six4,x0.six5,x0.six6,x0.six7]:List Int)=[ac,ad,ae,af,ag,ah,ai,aa]))
def J7.j2 (aj:Bool):Option Bool:=some aj
def J7.j3 (x0:S10) (ak:Bool):Option Bool:=if ak=true then (if ((x0.kind == x0.kind&&(decide (x0.text=x0.text)&&(x0.four == 0&&true)))&&decide (([x0.six0,x0.six1,x0.six2,x0.six3,x0.six4,x0.six5,x0.six6,x0.six7]:List Int)=[0,0,0,0,0,0,0,0]))=true then (J7.j2 (decide (x0.text≠(⟨#[]⟩:ByteArray)))) else (J7.j2 false)) else (if x0.kind=2 then (J7.j1 x0 x0.four 0 0 0 0 0 0 0 0) else (if x0.kind=3 then (J7.j1 x0 0 x0.six0 x0.six1 x0.six2 x0.six3 x0.six4 x0.six5 x0.six6 x0.six7) else (if x0.kind=5 then (J7.j1 x0 0 0 0 0 0 0 0 0 0) else (some false))))
def J7.f (x0:S10):Option Bool:=if x0.kind=1 then (J7.j3 x0 (decide (x0.kind=1))) else (J7.j3 x0 (decide (x0.kind=4)))
theorem J7.c (hs:St w0 ρ (Γ) w) (h0:Zel.R ρ c0 x0) (H:J7.f x0=some r):gK 21 [.agg c0.toArray] w0 ρ Γ w (.bool r):=by
 rw [J7.f] at H;refine Et func21 ntmps21 V ?_;have a1:=h0;obtain rfl:=a1;refine Wq<|Kw (cs:=[Lk x0.kind,.string x0.text,.int .u32 x0.four,.int .u16 x0.six0,.int .u16 x0.six1,.int .u16 x0.six2,.int .u16 x0.six3,.int .u16 x0.six4,.int .u16 x0.six5,.int .u16 x0.six6,.int .u16 x0.six7]) hs V V (λal w hs=>Rx 1 V<|Wq<|Ofd Zkt V<|Obx 0 ag3 hs V<|O_y V (X4 (cs:=[Lk x0.kind,.string (⟨#[]⟩:ByteArray),.int .u32 0,.int .u16 0,.int .u16 0,.int .u16 0,.int .u16 0,.int .u16 0,.int .u16 0,.int .u16 0,.int .u16 0]) Zi9 Ztu ((Zp.cons V V Zp.nil)) Zce (by kernel_rfl))<|Yn Zi9 hs V (λam w hs=>Z2 (i:=0) Zbz hs V V V V V (Zb V (Zb V (Zb V (Zb V (Zb V (Zb V (Zb V (Zb V (Zb V (Zb V (Zb V Z9))))))))))) (λw hs=>Zf<|Z8 λa4 a5 an=>?_)));have ao (ab:Int) (ac:Int) (ad:Int) (ae:Int) (af:Int) (ag:Int) (ah:Int) (ai:Int) (aa:Int) w (H:J7.j1 x0 ab ac ad ae af ag ah ai aa=some r) (hs:St w0 ρ ((.box am 33 ([Lk x0.kind,.string (⟨#[]⟩:ByteArray),.int .u32 ab,.int .u16 ac,.int .u16 ad,.int .u16 ae,.int .u16 af,.int .u16 ag,.int .u16 ah,.int .u16 ai,.int .u16 aa]))::(.box al 33 ([Lk x0.kind,.string x0.text,.int .u32 x0.four,.int .u16 x0.six0,.int .u16 x0.six1,.int .u16 x0.six2,.int .u16 x0.six3,.int .u16 x0.six4,.int .u16 x0.six5,.int .u16 x0.six6,.int .u16 x0.six7]))::Γ) w):a4 [(1,Ll al),(3,Ll am)] w:=by rw [J7.j1] at H;exact a5 _ _<|Wq<|O_y V (Ys (i:=1) Zce Zbz hs V V V V)<|O_y V (Ys (i:=0) Zce Zbz hs V V V V)<|O_y V (Zql [Lk x0.kind,.string x0.text,.int .u32 x0.four] [Lk x0.kind,.string (⟨#[]⟩:ByteArray),.int .u32 ab] [x0.six0,x0.six1,x0.six2,x0.six3,x0.six4,x0.six5,x0.six6,x0.six7] [ac,ad,ae,af,ag,ah,ai,aa] Z0s Z6h V V V V V)<|Rx 1 V<|gR H V (hs.sub (ssk (ssk ssr)))
 refine Wq<|Ofd Zkt V<|Obx 1 ag3 hs V<|Zf<|Wbk<|Z8 λa8 a9 ax=>?_;have ay ak w (H:J7.j3 x0 ak=some r) (hs:St w0 ρ ((.box am 33 ([Lk x0.kind,.string (⟨#[]⟩:ByteArray),.int .u32 0,.int .u16 0,.int .u16 0,.int .u16 0,.int .u16 0,.int .u16 0,.int .u16 0,.int .u16 0,.int .u16 0]))::(.box al 33 ([Lk x0.kind,.string x0.text,.int .u32 x0.four,.int .u16 x0.six0,.int .u16 x0.six1,.int .u16 x0.six2,.int .u16 x0.six3,.int .u16 x0.six4,.int .u16 x0.six5,.int .u16 x0.six6,.int .u16 x0.six7]))::Γ) w):a8 [(1,Ll al),(3,Ll am),(8,Lk x0.kind),(9,.bool ak)] w:=by
  rw [J7.j3] at H;refine a9 _ _<|gJV H V (λH=>?_) λH=>?_;refine Wq<|Ofd Zgk V<|Obx 1 ag9 hs V<|Ofd Zgk V<|Ui (i:=0) sz9 hs V V V V V (λw hs=>Zf<|Z8 λbb bc az=>?_);have a0 aj w (H:J7.j2 aj=some r) (hs:St w0 ρ ((.box am 33 ([Lk x0.kind,.string x0.text,.int .u32 0,.int .u16 0,.int .u16 0,.int .u16 0,.int .u16 0,.int .u16 0,.int .u16 0,.int .u16 0,.int .u16 0]))::(.box al 33 ([Lk x0.kind,.string x0.text,.int .u32 x0.four,.int .u16 x0.six0,.int .u16 x0.six1,.int .u16 x0.six2,.int .u16 x0.six3,.int .u16 x0.six4,.int .u16 x0.six5,.int .u16 x0.six6,.int .u16 x0.six7]))::Γ) w):bb [(2,.bool aj)] w:=by rw [J7.j2] at H;exact bc _ _<|gR H V (hs.sub (ssk (ssk ssr)))
  refine Zc<|O_y V (Ys (i:=1) Zce Zbz hs V V V V)<|O_y V (Ys (i:=0) Zce Zbz hs V V V V)<|O_y V (Zql [Lk x0.kind,.string x0.text,.int .u32 x0.four] [Lk x0.kind,.string x0.text,.int .u32 0] [x0.six0,x0.six1,x0.six2,x0.six3,x0.six4,x0.six5,x0.six6,x0.six7] [0,0,0,0,0,0,0,0] Z0s Z6h V V V V V)<|Rn 1 V<|gJ1 H (V9 (dj:=18) V) (λH=>?_) λH=>?_;refine Rn 1 V<|Ofd Zgk V<|Rn 1 V<|Obx 1 ag9 hs V<|Rn 1 V<|O_y V (Zim V V)<|Rx 2 V (az _ _ _ (S1 V) (a0 (decide (x0.text≠(⟨#[]⟩:ByteArray))) _ H hs));refine Rx 5 V (az _ _ _ (S1 V) (a0 false _ H hs));refine Wa 2 V<|gIV H V (λH=>?_) λH=>?_;refine Zc<|Ofd Z0x V<|Obx 1 Z81 hs V<|Ofd Z0x V<|Ui (i:=0) Z9a hs V V V V V (λw hs=>Zf (an _ _ _ (T2 V) (ao x0.four 0 0 0 0 0 0 0 0 _ H hs)));refine Wa 2 V<|gIV H V (λH=>?_) λH=>?_;refine Zc<|Ofd Z0y V<|O_y V (Ys (i:=1) Z82 Z8k hs V V V V)<|Ofd Z0y V<|Z2 (i:=0) Z8k hs V V V V V (Zb V (Zb V (Zb V (Zb V (Zb V (Zb V (Zb V (Zb V Z9)))))))) (λw hs=>Zf (an _ _ _ (T2 V) (ao 0 x0.six0 x0.six1 x0.six2 x0.six3 x0.six4 x0.six5 x0.six6 x0.six7 _ H hs)));exact Wa 2 V<|gIV H V (λH=>Ze (an _ _ _ (T2 V) (ao 0 0 0 0 0 0 0 0 0 _ H hs))) λH=>Wa 1 V<|gR H V (hs.sub (ssk (ssk ssr)))
 refine Wa 2 V<|gIV H V (λH=>Ze (ax _ _ _ (T4 V) (ay (decide (x0.kind=1)) _ H hs))) λH=>Zc<|Rx 2 V (ax _ _ _ (T4 V) (ay (decide (x0.kind=4)) _ H hs))
def Hh.j1 (x0:S10) (aa:Bool):Option (List ByteArray×Int):=if aa=true then (some (([]:List ByteArray),230)) else ((U1.f x0.text (⟨#[46]⟩:ByteArray)).bind λag=>(some (ag,0)))
def Hh.f (x0:S10):Option (List ByteArray×Int):=(J7.f x0).bind λah=>(if (!ah)=true then (Hh.j1 x0 true) else (Hh.j1 x0 (decide (x0.kind≠1))))
theorem Hh.c (hs:St w0 ρ (Γ) w) (h0:Zel.R ρ c0 x0) (H:Hh.f x0=some r):Zk prog 107 [.agg c0.toArray] w (λv w'=>∃ (ρ':Hp) (v0:Value),v=.tuple #[v0,Lk r.2]/\Le ρ ρ'/\St w0 ρ' (Γ) w'/\SlR Rep.str ρ' v0 r.1):=by
 rw [Hh.f] at H;refine Et func107 ntmps107 V ?_;have al:=h0;obtain rfl:=al;refine Wq<|Kw (cs:=[Lk x0.kind,.string x0.text,.int .u32 x0.four,.int .u16 x0.six0,.int .u16 x0.six1,.int .u16 x0.six2,.int .u16 x0.six3,.int .u16 x0.six4,.int .u16 x0.six5,.int .u16 x0.six6,.int .u16 x0.six7]) hs V V (λai w hs=>Rx 2 V<|Wsq<|Z8 λao ap aj=>?_);have ak aa w (H:Hh.j1 x0 aa=some r) (hs:St w0 ρ ((.box ai 33 ([Lk x0.kind,.string x0.text,.int .u32 x0.four,.int .u16 x0.six0,.int .u16 x0.six1,.int .u16 x0.six2,.int .u16 x0.six3,.int .u16 x0.six4,.int .u16 x0.six5,.int .u16 x0.six6,.int .u16 x0.six7]))::Γ) w):ao [(1,Ll ai),(11,.bool aa)] w:=by rw [Hh.j1] at H;refine ap _ _<|gJV H V (λH=>?_) λH=>?_;refine Wa 2 V<|Zh ?_;have ar:SlR Rep.str ρ (Lz) []:=.inl ⟨V,none,0,V⟩;cases H;exact Za3 V V V ⟨_,_,V,Le.rfl' _,(hs.sub (ssk ssr)),ar⟩;refine Ze<|Wq<|Ofd Zgk V<|Obx 0 ag9 hs V<|Rc H λag ac H=>Oc V (U1.c hs ac) (λa0 w hpost=>?_);obtain ⟨a1,a2,rfl,ad,hs,av⟩:=hpost;refine Rx 2 V<|Zh ?_;cases H;exact Za3 V V V ⟨_,_,V,ad,(hs.sub (ssk ssr)),av⟩
 refine Zc<|O_y V (Ys (i:=0) Zce Zbz hs V V V V)<|Rc H λah ae H=>Oc V (J7.c hs h0 ae)<|Ra λw hs=>Rn 2 V<|gJ1 H (V9 (dj:=7) V) (λH=>?_) λH=>?_;refine Rx 4 V (aj _ _ _ (T2 V) (ak true _ H hs));refine Rn 1 V<|Ofd Zkt V<|Rn 1 V<|Obx 0 ag3 hs V<|Rx 3 V (aj _ _ _ (T2 V) (ak (decide (x0.kind≠1)) _ H hs))
def Qd.l1:Nat->List ByteArray->Int->Option (List ByteArray×Bool)
  | 0,_,_=>none
  | af+1,ab,aa=>if aa<(ab.length:Int) then (if (0:Int)<=aa/\aa<(ab.length:Int) then (if (rd ab aa)=(⟨#[]⟩:ByteArray) then (some (([]:List ByteArray),false)) else ((Qd.l1 af ab) (i64.wrap (aa+1)))) else none) else (some (ab,true))
def Qd.j1 (ab:List ByteArray):Option (List ByteArray×Bool):=Qd.l1 K0 ab 0
def Qd.j2 (ae:List ByteArray×Int) (ad:Bool):Option (List ByteArray×Bool):=if ad=true then (if (0:Int)<=0/\0<=i64.wrap ((ae.1.length:Int)-1)/\i64.wrap ((ae.1.length:Int)-1)<=(ae.1.length:Int) then (Qd.j1 (sub ae.1 0 (i64.wrap ((ae.1.length:Int)-1)))) else none) else (Qd.j1 ae.1)
def Qd.f (x0:S10):Option (List ByteArray×Bool):=(Hh.f x0).bind λae=>(if ae.2≠0 then (some (([]:List ByteArray),false)) else (if 1<(ae.1.length:Int) then (if (0:Int)<=i64.wrap ((ae.1.length:Int)-1)/\i64.wrap ((ae.1.length:Int)-1)<(ae.1.length:Int) then (Qd.j2 ae (decide ((rd ae.1 (i64.wrap ((ae.1.length:Int)-1)))=(⟨#[]⟩:ByteArray)))) else none) else (Qd.j2 ae false)))
theorem Qd.c (hs:St w0 ρ (Γ) w) (h0:Zel.R ρ c0 x0) (H:Qd.f x0=some r):Zk prog 52 [.agg c0.toArray] w (λv w'=>∃ (ρ':Hp) (v0:Value),v=.tuple #[v0,.bool r.2]/\Le ρ ρ'/\St w0 ρ' (Γ) w'/\SlR Rep.str ρ' v0 r.1):=by
 refine Et func52 ntmps52 V ?_;have bf:=h0;obtain rfl:=bf;refine Wq<|Kw (cs:=[Lk x0.kind,.string x0.text,.int .u32 x0.four,.int .u16 x0.six0,.int .u16 x0.six1,.int .u16 x0.six2,.int .u16 x0.six3,.int .u16 x0.six4,.int .u16 x0.six5,.int .u16 x0.six6,.int .u16 x0.six7]) hs V V (λau w hs=>Rx 2 V<|Wq<|O_y V (Ys (i:=0) Zce Zbz hs V V V V)<|Rc H λae av H=>Oc V (Hh.c hs h0 av) (λb4 w hpost=>?_));obtain ⟨an,bb,rfl,ah,hs,ao⟩:=hpost;refine Rx 5 V<|Wsq<|Wa 2 V<|gIV H V (λH=>?_) λH=>?_;refine Wa 2 V<|Zh ?_;have bl:SlR Rep.str an (Lz) []:=.inl ⟨V,none,0,V⟩;cases H;exact Za3 V V V ⟨_,_,V,ah,(hs.sub (ssk ssr)),bl⟩;refine Ze<|Z8 λbm bn bc=>?_;have bd (ab:List ByteArray) (ac:Value) w (H:Qd.j1 ab=some r) (hs:St w0 an ((.box au 33 ([Lk x0.kind,.string x0.text,.int .u32 x0.four,.int .u16 x0.six0,.int .u16 x0.six1,.int .u16 x0.six2,.int .u16 x0.six3,.int .u16 x0.six4,.int .u16 x0.six5,.int .u16 x0.six6,.int .u16 x0.six7]))::Γ) w) (ag:SlR Rep.str an ac ab):bm [(4,ac)] w:=by rw [Qd.j1] at H;refine bn _ _<|Wsq<|Wn 1 V<|O_y V (Yk Zbs ag V)<|Rx 1 V<|Wbk<|Lp1 (λaa=>[(4,ac),(32,ac),(33,Lk (ab.length:Int)),(34,Lk aa)]) (λaf aa=>Qd.l1 af ab aa) (λaa w=>St w0 an ((.box au 33 ([Lk x0.kind,.string x0.text,.int .u32 x0.four,.int .u16 x0.six0,.int .u16 x0.six1,.int .u16 x0.six2,.int .u16 x0.six3,.int .u16 x0.six4,.int .u16 x0.six5,.int .u16 x0.six6,.int .u16 x0.six7]))::Γ) w) 0 (T4 V) H hs λaf aa w H hs ai=>?_;rw [Qd.l1] at H;refine Wa 1 V<|Wsq<|gIV H V (λH=>?_) λH=>?_;refine Ze<|Wsq<|Wbk<|Wsq<|Zc ?_;obtain ⟨be,H⟩:=gd H;obtain ⟨ck,bv,ay,az⟩:=ag.ix Zcr be.1 be.2;refine O_y V (az V V)<|O_y V (Y5 ag9 V (hs.see ay.str))<|Rx 1 V<|Wn 1 V<|O_y V (Zb7 V V)<|Zf<|gIV H V (λH=>?_) λH=>?_;refine Wa 2 V<|Zh ?_;have a2:SlR Rep.str an (Lz) []:=.inl ⟨V,none,0,V⟩;cases H;exact Za3 V V V ⟨_,_,V,ah,(hs.sub (ssk ssr)),a2⟩;refine Ze<|Zc<|Rx 2 V (ai (i64.wrap (aa+1)) (T4 V) H hs);refine We<|Wa 3 V<|Zh ?_;cases H;exact Za3 V V V ⟨_,_,V,ah,(hs.sub (ssk ssr)),ag⟩
 refine Z8 λa4 a5 ap=>?_;have aq ad w (H:Qd.j2 ae ad=some r) (hs:St w0 an ((.box au 33 ([Lk x0.kind,.string x0.text,.int .u32 x0.four,.int .u16 x0.six0,.int .u16 x0.six1,.int .u16 x0.six2,.int .u16 x0.six3,.int .u16 x0.six4,.int .u16 x0.six5,.int .u16 x0.six6,.int .u16 x0.six7]))::Γ) w):a4 [(4,bb),(26,.bool ad)] w:=by rw [Qd.j2] at H;refine a5 _ _<|gJV H V (λH=>?_) λH=>?_;refine Zc<|Rn 2 V<|O_y V (Yk Zbs ao V)<|Rn 1 V ?_;obtain ⟨al,H⟩:=gd H;obtain ⟨a6,a7,a8⟩:=ao.cut Zcr al.1 al.2.1 al.2.2;refine O_y V (a8 V (.inl ⟨V,V⟩) (.inr ⟨_,_,V,V⟩))<|Rx 1 V (bc _ _ _ (S1 V) (bd (sub ae.1 0 (i64.wrap ((ae.1.length:Int)-1))) a6 _ H hs a7));exact Ze (bc _ _ _ (S1 V) (bd ae.1 bb _ H hs ao))
 refine Zc<|Rn 1 V<|O_y V (Yk Zbs ao V)<|Rn 2 V<|gI1 H (X9 (dj:=18) V) (λH=>?_) λH=>?_;refine Rn 5 V<|O_y V (Yk Zbs ao V)<|Rn 2 V ?_;obtain ⟨ar,H⟩:=gd H;obtain ⟨b0,b1,a9,ba⟩:=ao.ix Zcr ar.1 ar.2;refine Rn 1 V<|O_y V (ba V V)<|Rn 1 V<|O_y V (Y5 ag9 V (hs.see a9.str))<|Rn 1 V<|O_y V (Zb7 V V)<|Rx 1 V (ap _ _ _ (T2 V) (aq (decide ((rd ae.1 (i64.wrap ((ae.1.length:Int)-1)))=(⟨#[]⟩:ByteArray))) _ H hs));refine Rx 8 V (ap _ _ _ (T2 V) (aq false _ H hs))
def X6.j1 (ab:List ByteArray×Bool) (aa:Int):Option (Int×List ByteArray×Bool):=some (aa,ab.1,true)
def X6.f (x0:Option S11) (x1:S10):Option (Int×List ByteArray×Bool):=(Qd.f x1).bind λab=>(if (!ab.2)=true then (some (0,([]:List ByteArray),false)) else ((H4.f x0 ab.1).bind λad=>(if ad.2=true then (X6.j1 ab (i64.wrap ((ad.1.length:Int)-1))) else (X6.j1 ab (ad.1.length:Int)))))
theorem X6.c (hs:St w0 ρ (Γ) w) (h0:Xq Zrp ρ v0 x0) (h1:Zel.R ρ c1 x1) (H:X6.f x0 x1=some r):Zk prog 18 [v0,.agg c1.toArray] w (λv w'=>∃ (ρ':Hp) (v1:Value),v=.tuple #[Lk r.1,v1,.bool r.2.2]/\Le ρ ρ'/\St w0 ρ' (Γ) w'/\SlR Rep.str ρ' v1 r.2.1):=by
 refine Et func18 ntmps18 V ?_;have am:=h1;obtain rfl:=am;refine Wq<|Kw (cs:=[Lk x1.kind,.string x1.text,.int .u32 x1.four,.int .u16 x1.six0,.int .u16 x1.six1,.int .u16 x1.six2,.int .u16 x1.six3,.int .u16 x1.six4,.int .u16 x1.six5,.int .u16 x1.six6,.int .u16 x1.six7]) hs V V (λao w hs=>Rx 3 V<|Wq<|O_y V (Ys (i:=0) Zce Zbz hs V V V V)<|Rc H λab af H=>Oc V (Qd.c hs h1 af) (λa8 w hpost=>?_));obtain ⟨aq,ar,rfl,ac,hs,aj⟩:=hpost;refine Rx 5 V<|Wsq<|Wa 2 V<|W.weak [(0,_),(7,_),(18,_)] (T3 V)<|gJV H V (λH=>?_) λH=>?_;refine Wa 3 V<|Zh ?_;have ax:SlR Rep.str aq (Lz) []:=.inl ⟨V,none,0,V⟩;cases H;exact Zc4 V V V V ⟨_,_,V,ac,(hs.sub (ssk ssr)),ax⟩;refine Ze<|Wn 2 V<|Rc H λad ah H=>Oc V (H4.c hs (h0.mono ac) aj ah) (λbd w hpost=>?_);obtain ⟨az,be,rfl,ae,hs,a0⟩:=hpost;refine Rx 5 V<|Wn 1 V<|O_y V (Yk Zbs a0 V)<|Rx 1 V<|Z8 λa2 a3 ak=>?_;have al (aa:Int) w (H:X6.j1 ab aa=some r) (hs:St w0 az ((.box ao 33 ([Lk x1.kind,.string x1.text,.int .u32 x1.four,.int .u16 x1.six0,.int .u16 x1.six1,.int .u16 x1.six2,.int .u16 x1.six3,.int .u16 x1.six4,.int .u16 x1.six5,.int .u16 x1.six6,.int .u16 x1.six7]))::Γ) w):a2 [(7,ar),(11,Lk aa)] w:=by rw [X6.j1] at H;refine a3 _ _<|Wa 5 V<|Zh ?_;cases H;exact Zc4 V V V V ⟨_,_,V,(ac.trans ae),(hs.sub (ssk ssr)),(aj.mono ae)⟩
 refine Wa 1 V<|W.weak [(7,_),(11,_),(27,_)] (T3 V)<|gJV H V (λH=>?_) λH=>?_;refine Zc<|Rx 3 V (ak _ _ _ (T2 V) (al (i64.wrap ((ad.1.length:Int)-1)) _ H hs));exact Ze (ak _ _ _ (T2 V) (al (ad.1.length:Int) _ H hs))
def Vx.f (x0:Option S11) (x1:S10):Option (ByteArray×Bool):=(X6.f x0 x1).bind λaa=>(if (!aa.2.2)=true then (some ((⟨#[]⟩:ByteArray),false)) else (if (0:Int)<=i64.wrap ((aa.2.1.length:Int)-aa.1)/\i64.wrap ((aa.2.1.length:Int)-aa.1)<=(aa.2.1.length:Int)/\(aa.2.1.length:Int)<=(aa.2.1.length:Int) then ((Kz.f (sub aa.2.1 (i64.wrap ((aa.2.1.length:Int)-aa.1)) (aa.2.1.length:Int)) (⟨#[46]⟩:ByteArray)).bind λag=>(some (ag,true))) else none))
theorem Vx.c (hs:St w0 ρ (Γ) w) (h0:Xq Zrp ρ v0 x0) (h1:Zel.R ρ c1 x1) (H:Vx.f x0 x1=some r):gK 6 [v0,.agg c1.toArray] w0 ρ Γ w (.tuple #[.string r.1,.bool r.2]):=by
 refine Et func6 ntmps6 V ?_;have ai:=h1;obtain rfl:=ai;refine Wq<|Kw (cs:=[Lk x1.kind,.string x1.text,.int .u32 x1.four,.int .u16 x1.six0,.int .u16 x1.six1,.int .u16 x1.six2,.int .u16 x1.six3,.int .u16 x1.six4,.int .u16 x1.six5,.int .u16 x1.six6,.int .u16 x1.six7]) hs V V (λau w hs=>Rx 2 V<|Wn 1 V<|O_y V (Ys (i:=0) Zce Zbz hs V V V V)<|Rc H λaa ac H=>Oc V (X6.c hs h0 h1 ac) (λaw w hpost=>?_));obtain ⟨ax,ay,rfl,ab,hs,ah⟩:=hpost;refine Rx 7 V<|W.weak [(6,_),(7,_),(8,_)] (T3 V)<|Wsq<|Wn 2 V<|Zf<|gJV H V (λH=>?_) λH=>?_;refine Wa 2 V<|Zh ?_;cases H;exact Za3 V V V ⟨V,((hs.sub (ssk ssr)).less ab)⟩;refine Ze<|Wn 2 V<|O_y V (Yk Zbs ah V)<|Rn 2 V ?_;obtain ⟨ae,H⟩:=gd H;obtain ⟨a3,ap,aq⟩:=ah.cut Zcr ae.1 ae.2.1 ae.2.2;refine O_y V (aq V (.inr ⟨_,_,V,V⟩) (.inl ⟨V,V⟩))<|Rc H λag af H=>Oc V (Kz.c hs ap af)<|Ra λw hs=>Rx 2 V<|Zh ?_;cases H;exact Za3 V V V ⟨V,((hs.sub (ssk ssr)).less ab)⟩
def Y3.j1 (ab:Int×List ByteArray×Bool) (aa:Bool):Option (ByteArray×Bool):=if aa=true then (some ((⟨#[]⟩:ByteArray),false)) else (if (0:Int)<=i64.wrap ((i64.wrap ((ab.2.1.length:Int)-ab.1))-1)/\i64.wrap ((i64.wrap ((ab.2.1.length:Int)-ab.1))-1)<=(ab.2.1.length:Int)/\(ab.2.1.length:Int)<=(ab.2.1.length:Int) then ((Kz.f (sub ab.2.1 (i64.wrap ((i64.wrap ((ab.2.1.length:Int)-ab.1))-1)) (ab.2.1.length:Int)) (⟨#[46]⟩:ByteArray)).bind λaj=>(some (aj,true))) else none)
def Y3.f (x0:Option S11) (x1:S10):Option (ByteArray×Bool):=(X6.f x0 x1).bind λab=>(if (!ab.2.2)=true then (Y3.j1 ab true) else (Y3.j1 ab (decide ((ab.2.1.length:Int)<=ab.1))))
theorem Y3.c (hs:St w0 ρ (Γ) w) (h0:Xq Zrp ρ v0 x0) (h1:Zel.R ρ c1 x1) (H:Y3.f x0 x1=some r):gK 7 [v0,.agg c1.toArray] w0 ρ Γ w (.tuple #[.string r.1,.bool r.2]):=by
 refine Et func7 ntmps7 V ?_;have am:=h1;obtain rfl:=am;refine Wq<|Kw (cs:=[Lk x1.kind,.string x1.text,.int .u32 x1.four,.int .u16 x1.six0,.int .u16 x1.six1,.int .u16 x1.six2,.int .u16 x1.six3,.int .u16 x1.six4,.int .u16 x1.six5,.int .u16 x1.six6,.int .u16 x1.six7]) hs V V (λao w hs=>Rx 2 V<|Wn 1 V<|O_y V (Ys (i:=0) Zce Zbz hs V V V V)<|Rc H λab ad H=>Oc V (X6.c hs h0 h1 ad) (λa3 w hpost=>?_));obtain ⟨aq,ar,rfl,ac,hs,ae⟩:=hpost;refine Rx 7 V<|W.weak [(6,_),(7,_),(8,_)] (T3 V)<|Wsq<|Z8 λav aw ak=>?_;have al aa w (H:Y3.j1 ab aa=some r) (hs:St w0 aq ((.box ao 33 ([Lk x1.kind,.string x1.text,.int .u32 x1.four,.int .u16 x1.six0,.int .u16 x1.six1,.int .u16 x1.six2,.int .u16 x1.six3,.int .u16 x1.six4,.int .u16 x1.six5,.int .u16 x1.six6,.int .u16 x1.six7]))::Γ) w):av [(6,Lk ab.1),(7,ar),(23,.bool aa)] w:=by rw [Y3.j1] at H;refine aw _ _<|gJV H V (λH=>?_) λH=>?_;refine Wa 2 V<|Zh ?_;cases H;exact Za3 V V V ⟨V,((hs.sub (ssk ssr)).less ac)⟩;refine Ze<|Wn 2 V<|O_y V (Yk Zbs ae V)<|Rn 3 V ?_;obtain ⟨ag,H⟩:=gd H;obtain ⟨a7,az,a0⟩:=ae.cut Zcr ag.1 ag.2.1 ag.2.2;refine O_y V (a0 V (.inr ⟨_,_,V,V⟩) (.inl ⟨V,V⟩))<|Rc H λaj ah H=>Oc V (Kz.c hs az ah)<|Ra λw hs=>Rx 2 V<|Zh ?_;cases H;exact Za3 V V V ⟨V,((hs.sub (ssk ssr)).less ac)⟩
 refine Zc<|Rn 3 V<|gJ1 H (V9 (dj:=18) V) (λH=>?_) λH=>?_;refine Rx 5 V (ak _ _ _ (T3 V) (al true _ H hs));refine Rn 5 V<|O_y V (Yk Zbs ae V)<|Rx 3 V (ak _ _ _ (T3 V) (al (decide ((ab.2.1.length:Int)<=ab.1)) _ H hs))
def Zga.f (x0:Vector Int 4) (x1:Int):Option Bool:=if (0:Int)<=u8.wrap (x1.tdiv 64)/\u8.wrap (x1.tdiv 64)<((4:Nat):Int) then (if (0:Int)<=x1.tmod 64 then (some (decide ((Z6i .u64 ((vg x0 (u8.wrap (x1.tdiv 64))).fdiv (2^(min (x1.tmod 64).toNat 64))) 1)=1))) else none) else none
theorem Zga.c (hs:St w0 ρ (Γ) w) (H:Zga.f x0 x1=some r):gK 177 [.agg (vcs (Value.int .u64) x0).toArray,.int .u8 x1] w0 ρ Γ w (.bool r):=by
 refine Et func177 ntmps177 V<|Wq<|Zjd hs V V (λaf w hs=>Rx 1 V<|Wn 1 V<|O_y V (Zfl V V (by decide))<|Rd H λaa H=>O_y V (Zc6 Zog Zkc V V aa.1 aa.2)<|O_y V (Zfw (j:=0) Zwj hs V V aa.1 aa.2 V)<|Rn 1 V<|O_y V (Zle V V (by decide))<|Rd H λad H=>O_y V (Zo2 V V ad)<|O_y V (Z5j V V)<|Rx 2 V<|Zh ?_);cases H;exact r1 V ⟨V,(hs.sub (ssk ssr))⟩
def Zcl.j1 (x0 x1:Int) (aa:Bool):Option Bool:=if aa=true then (some false) else ((Zc1.f x1).bind λab=>((Zga.f ab.1 (u8.wrap x0)).bind λag=>(some ag)))
def Zcl.f (x0 x1:Int):Option Bool:=if x0<0 then (Zcl.j1 x0 x1 true) else (Zcl.j1 x0 x1 (decide (127<x0)))
theorem Zcl.c (hs:St w0 ρ (Γ) w) (H:Zcl.f x0 x1=some r):gK 173 [Lj x0,Lk x1] w0 ρ Γ w (.bool r):=by
 rw [Zcl.f] at H;refine Et func173 ntmps173 V<|Wa 1 V<|Wsq<|Z8 λal am ah=>?_;have ai aa w (H:Zcl.j1 x0 x1 aa=some r) (hs:St w0 ρ (Γ) w):al [(0,Lj x0),(1,Lk x1),(12,.bool aa)] w:=by rw [Zcl.j1] at H;refine am _ _<|gJV H V (λH=>Wa 1 V<|gR H V hs) λH=>Ze<|Wn 1 V<|Rc H λab ad H=>Oc V (Zc1.c hs ad)<|Ra λw hs=>Rn 3 V<|Yn Zex hs V (λax w hs=>Ke (j:=0) (u:=ab.1) J8 (Q0 .u64) hs V V V (λw hs=>Rx 1 V<|Wq<|O_y V (K8 (j:=0) Hk J8 hs V V)<|Rn 1 V<|O_y V (U3 Zdd un5 V)<|Rc H λag ae H=>Oc V (Zga.c hs ae)<|Ra λw hs=>Rx 1 V<|W.weak [(4,_)] (S1 V)<|gR H V (hs.sub (ssk ssr))))
 refine Zc<|Rn 3 V<|gI1 H (X9 (dj:=9) V) (λH=>?_) λH=>?_;refine Rx 3 V (ah _ _ _ (T3 V) (ai true _ H hs));refine Rx 5 V (ah _ _ _ (T3 V) (ai (decide (127<x0)) _ H hs))
def Zek.f (x0:Int):Option Bool:=(Zcl.f x0 9).bind λab=>(some ab)
theorem Zek.c (hs:St w0 ρ (Γ) w) (H:Zek.f x0=some r):gK 148 [Lj x0] w0 ρ Γ w (.bool r):=by
 refine Et func148 ntmps148 V<|Wa 1 V<|Wn 1 V<|Rc H λab aa H=>Oc V (Zcl.c hs aa)<|Ra λw hs=>Rx 1 V<|gR H V hs
def Zd0.f (x0:ByteArray):Option ByteArray:=(Ky.f x0).bind λad=>(some (runesBytes ad))
theorem Zd0.c (hs:St w0 ρ (Γ) w) (hL:Zdr w0) (H:Zd0.f x0=some r):gK 151 [.string x0] w0 ρ Γ w (.string r):=by
 refine Et func151 ntmps151 V<|Wa 1 V<|Wn 1 V<|Rc H λad aa H=>Oc V (Ky.c hs hL aa) (λal w hpost=>?_);obtain ⟨am,an,ag,rfl,ab,hs,ah⟩:=hpost;obtain ⟨ao,ac,hs,ai⟩:=hs.rowEnd (j:=0) ah V;exact O_y V (Zjh Ht Zdd un9 hs ai V)<|Rx 1 V<|gR H V (hs.less (ab.trans ac))
def H8.l1:Nat->ByteArray->List S14->Int->Option (ByteArray×Int×Int)
  | 0,_,_,_=>none
  | ac+1,x0,ab,aa=>if aa<(ab.length:Int) then (if (0:Int)<=aa/\aa<(ab.length:Int) then ((Zek.f ((rd ab aa).rune)).bind λa2=>(if a2=true then (some ((⟨#[]⟩:ByteArray),(rd ab aa).at_,220)) else ((H8.l1 ac x0 ab) (i64.wrap (aa+1))))) else none) else ((Zc1.f 1).bind λad=>((Zd0.f x0).bind λag=>((Zdv.f ag ad.1).bind λah=>(some (ah,0,0)))))
def H8.f (x0:ByteArray):Option (ByteArray×Int×Int):=(Vr.f x0).bind λab=>(H8.l1 K0 x0 ab 0)
theorem H8.c (hs:St w0 ρ (Γ) w) (hL:Zdr w0) (H:H8.f x0=some r):gK 113 [.string x0] w0 ρ Γ w (.tuple #[.string r.1,Lk r.2.1,Lk r.2.2]):=by
 refine Et func113 ntmps113 V<|Wa 3 V<|Wsq<|Wn 1 V<|Rc H λab ap H=>Oc V (Vr.c hs hL ap) (λai w hpost=>?_);obtain ⟨aq,bo,ae,rfl,aj,hs,a6⟩:=hpost;refine O_y V (Uu (i:=0) Z28 hs V V)<|Rx 1 V<|Wbk<|Lp1 (λaa=>[(0,.string x0),(10,ai),(11,Lk (ab.length:Int)),(12,Lk aa)]) (λac aa=>H8.l1 ac x0 ab aa) (λaa w=>St w0 aq ((.row ai 212 Zlx.sz ab.length ae)::Γ) w) 0 (T4 V) H hs λac aa w H hs af=>?_;rw [H8.l1] at H;refine Wa 1 V<|Wsq<|gIV H V (λH=>?_) λH=>?_;refine Ze<|Wsq<|Wbk<|Wsq<|Zc ?_;obtain ⟨ak,H⟩:=gd H;obtain ⟨b0,al⟩:=hs.rowBlock (j:=0) V (by have:=ak.2;omega);obtain ⟨_,rfl,au⟩:=a6.at ak.1 ak.2;refine O_y V (Vb (j:=0) Zwo hs V al V V ak.1 ak.2)<|O_y V (Kg Zji Zgg V V (λj u hu=>hs.rowCell (j:=0) V al (au j u hu)))<|Yn Zok hs V (λbc w hs=>Z2 (i:=0) Zgg hs V V V V V (Zb V (Zb V (Zb V (Zb V Z9)))) (λw hs=>Zf<|Wq<|Ofd Zwv V<|Obx 0 Qb hs V<|Rc H λa2 av H=>Oc V (Zek.c hs av)<|Ra λw hs=>Zf<|gJV H V (λH=>?_) λH=>?_));refine V2 λb3 be=>Qz 5 [0,1,0,7,15] [4,4,3,0,0] [0,1,0,7,15] [] (λw=>St w0 aq ((.box bc 212 ([Lk ((rd ab aa).at_),Lk ((rd ab aa).size),Lj ((rd ab aa).rune),.bool ((rd ab aa).wrong)]))::(.row ai 212 Zlx.sz ab.length ae)::Γ) w) mixed (by kernel_rfl) (λsh=>?_);have hs:=hs.drew;refine Fp 0 sh V (λw=>Zt Zwu V)<|Fy 1 sh V hs (λw hs=>Yb 0 ag3 hs V V V)<|Fp 2 sh V (λw=>Y8 V)<|Fp 3 sh V (λw=>Y8 V)<|Fp 4 sh V (λw=>Y8 V)<|FE sh (be _ _<|W.weak [(2,_),(3,_),(4,_)] (T3 V)<|Zh ?_);cases H;exact Zc4 V V V V ⟨V,((hs.sub (ssk (ssk ssr))).less aj)⟩;refine Ze<|Zc<|Rx 2 V (af (i64.wrap (aa+1)) (T4 V) H (hs.sub (ssk (ssc ssr))));refine We<|Wsq<|Zc<|Rc H λad am H=>Oc V (Zc1.c hs am)<|Ra λw hs=>Rn 3 V<|Yn Zex hs V (λay w hs=>Ke (j:=0) (u:=ad.1) J8 (Q0 .u64) hs V V V (λw hs=>Rx 1 V<|V2 λbg az=>Qz 7 [0,1,0,6,15,31,63] [12,4,3,0,0,0,0] [0,1,0,7,15,31,63] [] (λw=>St w0 aq ((.box ay 220 ([]++(vcs (Value.int .u64) ad.1++[])))::(.row ai 212 Zlx.sz ab.length ae)::Γ) w) mixed (by kernel_rfl) (λsh=>?_)));have hs:=hs.drew;refine Fm 0 sh V<|Fy 2 sh V hs (λw hs=>K8 (j:=0) Hk J8 hs V V)<|F1 1 sh V (λbh a0=>Rc H λag an H=>Oc V (Zd0.c hs hL an)<|Ra λw hs=>Zf (a0 _ _ (λ_ _=>hs)<|F1 3 sh V (λbj a1=>Rc H λah ao H=>Oc V (Zdv.c hs ao)<|Ra λw hs=>Zf (a1 _ _ (λ_ _=>hs)<|Fp 4 sh V (λw=>Y8 V)<|Fp 5 sh V (λw=>Y8 V)<|Fp 6 sh V (λw=>Y8 V)<|FE sh (az _ _<|W.weak [(2,_),(3,_),(4,_)] (T3 V)<|Zh ?_)))));cases H;exact Zc4 V V V V ⟨V,((hs.sub (ssk (ssk ssr))).less aj)⟩
def Ze8.f (x0:Option Tbs) (x1:ByteArray) (x2:Bool):Option (S10×Int):=(Uw.f x1 (⟨#[91]⟩:ByteArray)).bind λah=>(if ah=true then none else (if x2=true then ((H8.f x1).bind λaa=>(if aa.2.2≠0 then (some ((⟨0,(⟨#[]⟩:ByteArray),0,0,0,0,0,0,0,0,0⟩:S10),3)) else (if aa.1=(⟨#[]⟩:ByteArray) then (some ((⟨5,(⟨#[]⟩:ByteArray),0,0,0,0,0,0,0,0,0⟩:S10),0)) else (some ((⟨4,aa.1,0,0,0,0,0,0,0,0,0⟩:S10),0))))) else none))
theorem Ze8.c (hs:St w0 ρ (Γ) w) (hL:Zdr w0) (h0:Xq Ha ρ v0 x0) (H:Ze8.f x0 x1 x2=some r):Zk prog 57 [v0,.string x1,.bool x2] w (λv w'=>∃ (ρ':Hp) (cs0:List Value),v=.tuple #[.agg cs0.toArray,Lk r.2]/\Le ρ ρ'/\St w0 ρ' (Γ) w'/\Zel.R ρ' cs0 r.1):=by
 refine Et func57 ntmps57 V<|Wq<|Yn Zi9 hs V (λax w hs=>Rx 1 V<|Wsq<|Wn 1 V<|Rc H λah ab H=>Oc V (Uw.c hs ab)<|Ra λw hs=>Zf<|gJV H V (λH=>?_) λH=>?_);refine Wn 1 V ?_;cases H;refine Ze<|Wsq<|Wa 1 V<|gJV H V (λH=>?_) λH=>?_;refine Wn 1 V<|Rc H λaa ae H=>Oc V (H8.c hs hL ae)<|Ra λw hs=>Rx 7 V<|W.weak [(6,_),(8,_),(10,_)] (T3 V)<|Wsq<|Wbk<|Wn 1 V<|Rx 2 V<|gIV H V (λH=>?_) λH=>?_;refine Wq<|O_y V (X4 (cs:=[Lk 0,.string (⟨#[]⟩:ByteArray),.int .u32 0,.int .u16 0,.int .u16 0,.int .u16 0,.int .u16 0,.int .u16 0,.int .u16 0,.int .u16 0,.int .u16 0]) Zi9 Ztu (Zp.nil) Zce (by kernel_rfl))<|Z2 (i:=0) Zbz hs V V V V V (Zb V (Zb V (Zb V (Zb V (Zb V (Zb V (Zb V (Zb V (Zb V (Zb V (Zb V Z9))))))))))) (λw hs=>Rx 1 V<|Zh ?_);cases H;exact Zau (i:=0) V V V Zce Zbz hs V V ⟨_,_,V,Le.rfl' _,(hs.sub (ssk ssr)),(show Zel.R ρ _ (⟨0,(⟨#[]⟩:ByteArray),0,0,0,0,0,0,0,0,0⟩:S10) from V)⟩;refine Wn 1 V<|O_y V (Zb7 V V)<|Rx 1 V<|gIV H V (λH=>?_) λH=>?_;refine Wq<|O_y V (X4 (cs:=[Lk 5,.string (⟨#[]⟩:ByteArray),.int .u32 0,.int .u16 0,.int .u16 0,.int .u16 0,.int .u16 0,.int .u16 0,.int .u16 0,.int .u16 0,.int .u16 0]) Zi9 Ztu ((Zp.cons V V Zp.nil)) Zce (by kernel_rfl))<|Z2 (i:=0) Zbz hs V V V V V (Zb V (Zb V (Zb V (Zb V (Zb V (Zb V (Zb V (Zb V (Zb V (Zb V (Zb V Z9))))))))))) (λw hs=>Rx 1 V<|Zh ?_);cases H;exact Zau (i:=0) V V V Zce Zbz hs V V ⟨_,_,V,Le.rfl' _,(hs.sub (ssk ssr)),(show Zel.R ρ _ (⟨5,(⟨#[]⟩:ByteArray),0,0,0,0,0,0,0,0,0⟩:S10) from V)⟩;refine Ze<|Wn 1 V<|O_y V (X4 (cs:=[Lk 4,.string aa.1,.int .u32 0,.int .u16 0,.int .u16 0,.int .u16 0,.int .u16 0,.int .u16 0,.int .u16 0,.int .u16 0,.int .u16 0]) Zi9 Ztu ((Zp.cons V V (Zp.cons V V Zp.nil))) Zce (by kernel_rfl))<|Z2 (i:=0) Zbz hs V V V V V (Zb V (Zb V (Zb V (Zb V (Zb V (Zb V (Zb V (Zb V (Zb V (Zb V (Zb V Z9))))))))))) (λw hs=>Rx 1 V<|Zh ?_);cases H;exact Zau (i:=0) V V V Zce Zbz hs V V ⟨_,_,V,Le.rfl' _,(hs.sub (ssk ssr)),(show Zel.R ρ _ (⟨4,aa.1,0,0,0,0,0,0,0,0,0⟩:S10) from V)⟩;refine Ze<|Wn 2 V ?_;cases H
def Ze7.f (x0:Option Tbs) (x1:ByteArray) (x2:Bool):Option (S10×Int):=(Ze8.f x0 x1 x2).bind λab=>(if ab.2≠0 then (some ((⟨0,(⟨#[]⟩:ByteArray),0,0,0,0,0,0,0,0,0⟩:S10),230)) else (some (ab.1,0)))
theorem Ze7.c (hs:St w0 ρ (Γ) w) (hL:Zdr w0) (h0:Xq Ha ρ v0 x0) (H:Ze7.f x0 x1 x2=some r):Zk prog 20 [v0,.string x1,.bool x2] w (λv w'=>∃ (ρ':Hp) (cs0:List Value),v=.tuple #[.agg cs0.toArray,Lk r.2]/\Le ρ ρ'/\St w0 ρ' (Γ) w'/\Zel.R ρ' cs0 r.1):=by
 refine Et func20 ntmps20 V<|Wq<|Yn Zi9 hs V (λap w hs=>Rx 1 V<|Wn 3 V<|Rc H λab ac H=>Oc V (Ze8.c hs hL h0 ac) (λar w hpost=>?_));obtain ⟨ah,ai,rfl,aa,hs,ae⟩:=hpost;have aj:=ae;obtain rfl:=aj;refine Rn 3 V<|Yn Zi9 hs V (λau w hs=>Z2 (i:=0) Zbz hs V V V V V (Zb V (Zb V (Zb V (Zb V (Zb V (Zb V (Zb V (Zb V (Zb V (Zb V (Zb V Z9))))))))))) (λw hs=>Rx 1 V<|Wsq<|Wa 2 V<|W.weak [(6,_),(8,_),(18,_)] (T3 V)<|gIV H V (λH=>?_) λH=>?_));refine Wq<|O_y V (X4 (cs:=[Lk 0,.string (⟨#[]⟩:ByteArray),.int .u32 0,.int .u16 0,.int .u16 0,.int .u16 0,.int .u16 0,.int .u16 0,.int .u16 0,.int .u16 0,.int .u16 0]) Zi9 Ztu (Zp.nil) Zce (by kernel_rfl))<|Z2 (i:=1) Zbz hs V V V V V (Zb V (Zb V (Zb V (Zb V (Zb V (Zb V (Zb V (Zb V (Zb V (Zb V (Zb V Z9))))))))))) (λw hs=>Rx 1 V<|Zh ?_);cases H;exact Zau (i:=1) V V V Zce Zbz hs V V ⟨_,_,V,aa,(hs.sub (ssk (ssk ssr))),(show Zel.R ah _ (⟨0,(⟨#[]⟩:ByteArray),0,0,0,0,0,0,0,0,0⟩:S10) from V)⟩;refine Ze<|Wq<|O_y V (Ys (i:=0) Zce Zbz hs V V V V)<|Z2 (i:=1) Zbz hs V V V V V (Zb V (Zb V (Zb V (Zb V (Zb V (Zb V (Zb V (Zb V (Zb V (Zb V (Zb V Z9))))))))))) (λw hs=>Rx 1 V<|Zh ?_);cases H;exact Zau (i:=1) V V V Zce Zbz hs V V ⟨_,_,V,aa,(hs.sub (ssk (ssk ssr))),ae⟩
def Zab.j1 (aa:Bool):Option Bool:=some aa
def Zab.f:Option Bool:=(Ze7.f none (⟨#[]⟩:ByteArray) true).bind λab=>(if ab.2=0 then (Zab.j1 (decide (ab.1.kind=5))) else (Zab.j1 false))
theorem Zab.c (hs:St w0 ρ (Γ) w) (hL:Zdr w0) (H:Zab.f=some r):gK 8 [] w0 ρ Γ w (.bool r):=by
 rw [Zab.f] at H;refine Et func8 ntmps8 V<|Wa 1 V<|Wsq<|Zc ?_;have aj:Xq Ha ρ (.pointer none) none:=Xq.nil _ _;refine Rc H λab ac H=>Oc V (Ze7.c hs hL aj ac) (λav w hpost=>?_);obtain ⟨ak,al,rfl,ad,hs,am⟩:=hpost;have an:=am;obtain rfl:=an;refine Rn 3 V<|Yn Zi9 hs V (λao w hs=>Z2 (i:=0) Zbz hs V V V V V (Zb V (Zb V (Zb V (Zb V (Zb V (Zb V (Zb V (Zb V (Zb V (Zb V (Zb V Z9))))))))))) (λw hs=>Rx 1 V<|Z8 λap aq af=>?_));have ag aa w (H:Zab.j1 aa=some r) (hs:St w0 ak ((.box ao 33 ([Lk ab.1.kind,.string ab.1.text,.int .u32 ab.1.four,.int .u16 ab.1.six0,.int .u16 ab.1.six1,.int .u16 ab.1.six2,.int .u16 ab.1.six3,.int .u16 ab.1.six4,.int .u16 ab.1.six5,.int .u16 ab.1.six6,.int .u16 ab.1.six7]))::Γ) w):ap [(0,.bool aa)] w:=by rw [Zab.j1] at H;exact aq _ _<|gR H V ((hs.sub (ssk ssr)).less ad)
 refine Zc<|Rn 3 V<|gI1 H (X9 (dj:=9) V) (λH=>?_) λH=>?_;refine Rn 1 V<|Ofd Zkt V<|Rn 1 V<|Obx 0 ag3 hs V<|Rx 4 V (af _ _ _ (S1 V) (ag (decide (ab.1.kind=5)) _ H hs));refine Rx 5 V (af _ _ _ (S1 V) (ag false _ H hs))
def Hs.f (x0 x1:ByteArray):Option Bool:=(Y6.f x0 x1).bind λab=>(some ab)
theorem Hs.c (hs:St w0 ρ (Γ) w) (H:Hs.f x0 x1=some r):gK 22 [.string x0,.string x1] w0 ρ Γ w (.bool r):=by
 refine Et func22 ntmps22 V<|Wa 1 V<|Wn 2 V<|Rc H λab aa H=>Oc V (Y6.c hs aa)<|Ra λw hs=>Rx 1 V<|gR H V hs
def Vl.j1 (ab:Bool):Option Bool:=some ab
def Vl.j2 (x0 x1:S10) (aa:Bool):Option Bool:=if aa=true then (some false) else (if x0.text=x1.text then (Vl.j1 true) else (if (⟨#[46]⟩:ByteArray).size+x1.text.size<=9223372036854775807 then ((Hs.f x0.text ((⟨#[46]⟩:ByteArray)++x1.text)).bind λae=>(Vl.j1 ae)) else none))
def Vl.f (x0 x1:S10):Option Bool:=(J7.f x0).bind λap=>(if (!ap)=true then (Vl.j2 x0 x1 true) else ((J7.f x1).bind λaq=>(if (!aq)=true then (Vl.j2 x0 x1 true) else (if x0.kind≠1 then (Vl.j2 x0 x1 true) else (Vl.j2 x0 x1 (decide (x1.kind≠1)))))))
theorem Vl.c (hs:St w0 ρ (Γ) w) (h0:Zel.R ρ c0 x0) (h1:Zel.R ρ c1 x1) (H:Vl.f x0 x1=some r):gK 9 [.agg c0.toArray,.agg c1.toArray] w0 ρ Γ w (.bool r):=by
 rw [Vl.f] at H;refine Et func9 ntmps9 V ?_;have av:=h0;obtain rfl:=av;have aw:=h1;obtain rfl:=aw;refine Wq<|Kw (cs:=[Lk x0.kind,.string x0.text,.int .u32 x0.four,.int .u16 x0.six0,.int .u16 x0.six1,.int .u16 x0.six2,.int .u16 x0.six3,.int .u16 x0.six4,.int .u16 x0.six5,.int .u16 x0.six6,.int .u16 x0.six7]) hs V V (λaf w hs=>Kw (cs:=[Lk x1.kind,.string x1.text,.int .u32 x1.four,.int .u16 x1.six0,.int .u16 x1.six1,.int .u16 x1.six2,.int .u16 x1.six3,.int .u16 x1.six4,.int .u16 x1.six5,.int .u16 x1.six6,.int .u16 x1.six7]) hs V V (λag w hs=>Rx 1 V<|Wsq<|Z8 λaz a0 ac=>?_));have ad aa w (H:Vl.j2 x0 x1 aa=some r) (hs:St w0 ρ ((.box ag 33 ([Lk x1.kind,.string x1.text,.int .u32 x1.four,.int .u16 x1.six0,.int .u16 x1.six1,.int .u16 x1.six2,.int .u16 x1.six3,.int .u16 x1.six4,.int .u16 x1.six5,.int .u16 x1.six6,.int .u16 x1.six7]))::(.box af 33 ([Lk x0.kind,.string x0.text,.int .u32 x0.four,.int .u16 x0.six0,.int .u16 x0.six1,.int .u16 x0.six2,.int .u16 x0.six3,.int .u16 x0.six4,.int .u16 x0.six5,.int .u16 x0.six6,.int .u16 x0.six7]))::Γ) w):az [(2,Ll af),(3,Ll ag),(22,.bool aa)] w:=by
  rw [Vl.j2] at H;refine a0 _ _<|gJV H V (λH=>Wa 1 V<|gR H V (hs.sub (ssk (ssk ssr)))) λH=>Ze<|Z8 λa2 a3 ar=>?_;have au ab w (H:Vl.j1 ab=some r) (hs:St w0 ρ ((.box ag 33 ([Lk x1.kind,.string x1.text,.int .u32 x1.four,.int .u16 x1.six0,.int .u16 x1.six1,.int .u16 x1.six2,.int .u16 x1.six3,.int .u16 x1.six4,.int .u16 x1.six5,.int .u16 x1.six6,.int .u16 x1.six7]))::(.box af 33 ([Lk x0.kind,.string x0.text,.int .u32 x0.four,.int .u16 x0.six0,.int .u16 x0.six1,.int .u16 x0.six2,.int .u16 x0.six3,.int .u16 x0.six4,.int .u16 x0.six5,.int .u16 x0.six6,.int .u16 x0.six7]))::Γ) w):a2 [(4,.bool ab)] w:=by rw [Vl.j1] at H;exact a3 _ _<|gR H V (hs.sub (ssk (ssk ssr)))
  refine Zc<|Ofd Zgk V<|Obx 1 ag9 hs V<|Ofd Zgk V<|Obx 0 ag9 hs V<|O_y V (Zb7 V V)<|Rn 1 V<|gI1 H (X9 (dj:=28) V) (λH=>?_) λH=>?_;refine Rx 8 V (ar _ _ _ (S1 V) (au true _ H hs));refine Rn 1 V<|Ofd Zgk V<|Rn 1 V<|Obx 1 ag9 hs V<|Rn 1 V<|Ofd Zgk V<|Rn 1 V<|Obx 0 ag9 hs V<|Rd H λa4 H=>Rn 1 V<|O_y V (Zwb V V a4)<|Rn 1 V<|Rc H λae aj H=>Oc V (Hs.c hs aj)<|Ra λw hs=>Rx 2 V (ar _ _ _ (S1 V) (au ae _ H hs))
 refine Zc<|O_y V (Ys (i:=1) Zce Zbz hs V V V V)<|Rc H λap ak H=>Oc V (J7.c hs h0 ak)<|Ra λw hs=>Rn 2 V<|gJ1 H (V9 (dj:=8) V) (λH=>?_) λH=>?_;refine Rn 14 V<|Zf (ac _ _ _ (T3 V) (ad true _ H hs));refine Rn 1 V<|O_y V (Ys (i:=0) Zce Zbz hs V V V V)<|Rn 1 V<|Rc H λaq am H=>Oc V (J7.c hs h1 am)<|Ra λw hs=>Rn 4 V<|gJ1 H (V9 (dj:=13) V) (λH=>?_) λH=>?_;refine Rx 9 V (ac _ _ _ (T3 V) (ad true _ H hs));refine Rn 1 V<|Ofd Zkt V<|Rn 1 V<|Obx 1 ag3 hs V<|Rn 4 V<|gI1 H (X9 (dj:=18) V) (λH=>?_) λH=>?_;refine Rx 4 V (ac _ _ _ (T3 V) (ad true _ H hs));refine Rn 1 V<|Ofd Zkt V<|Rn 1 V<|Obx 0 ag3 hs V<|Rx 3 V (ac _ _ _ (T3 V) (ad (decide (x1.kind≠1)) _ H hs))
def Xi.j1 (x1 x2:S10) (ad ac:ByteArray×Bool) (aa:Bool):Option Bool:=if aa=true then (some (decide (ad.1=ac.1))) else (some ((x1.kind == x2.kind&&(decide (x1.text=x2.text)&&(x1.four == x2.four&&true)))&&decide (([x1.six0,x1.six1,x1.six2,x1.six3,x1.six4,x1.six5,x1.six6,x1.six7]:List Int)=[x2.six0,x2.six1,x2.six2,x2.six3,x2.six4,x2.six5,x2.six6,x2.six7])))
def Xi.j2 (x0:Option S11) (x1 x2:S10) (ab:Bool):Option Bool:=if ab=true then (some false) else ((Y3.f x0 x1).bind λad=>((Y3.f x0 x2).bind λac=>(if ad.2=true then (Xi.j1 x1 x2 ad ac ac.2) else (Xi.j1 x1 x2 ad ac false))))
def Xi.f (x0:Option S11) (x1 x2:S10):Option Bool:=(J7.f x1).bind λap=>(if (!ap)=true then (Xi.j2 x0 x1 x2 true) else ((J7.f x2).bind λag=>(Xi.j2 x0 x1 x2 (!ag))))
theorem Xi.c (hs:St w0 ρ (Γ) w) (h0:Xq Zrp ρ v0 x0) (h1:Zel.R ρ c1 x1) (h2:Zel.R ρ c2 x2) (H:Xi.f x0 x1 x2=some r):gK 10 [v0,.agg c1.toArray,.agg c2.toArray] w0 ρ Γ w (.bool r):=by
 rw [Xi.f] at H;refine Et func10 ntmps10 V ?_;have aw:=h1;obtain rfl:=aw;have ax:=h2;obtain rfl:=ax;refine Wq<|Kw (cs:=[Lk x1.kind,.string x1.text,.int .u32 x1.four,.int .u16 x1.six0,.int .u16 x1.six1,.int .u16 x1.six2,.int .u16 x1.six3,.int .u16 x1.six4,.int .u16 x1.six5,.int .u16 x1.six6,.int .u16 x1.six7]) hs V V (λae w hs=>Kw (cs:=[Lk x2.kind,.string x2.text,.int .u32 x2.four,.int .u16 x2.six0,.int .u16 x2.six1,.int .u16 x2.six2,.int .u16 x2.six3,.int .u16 x2.six4,.int .u16 x2.six5,.int .u16 x2.six6,.int .u16 x2.six7]) hs V V (λaf w hs=>Rx 1 V<|Wsq<|Z8 λa0 a1 aq=>?_));have ar ab w (H:Xi.j2 x0 x1 x2 ab=some r) (hs:St w0 ρ ((.box af 33 ([Lk x2.kind,.string x2.text,.int .u32 x2.four,.int .u16 x2.six0,.int .u16 x2.six1,.int .u16 x2.six2,.int .u16 x2.six3,.int .u16 x2.six4,.int .u16 x2.six5,.int .u16 x2.six6,.int .u16 x2.six7]))::(.box ae 33 ([Lk x1.kind,.string x1.text,.int .u32 x1.four,.int .u16 x1.six0,.int .u16 x1.six1,.int .u16 x1.six2,.int .u16 x1.six3,.int .u16 x1.six4,.int .u16 x1.six5,.int .u16 x1.six6,.int .u16 x1.six7]))::Γ) w):a0 [(0,v0),(4,Ll ae),(5,Ll af),(18,.bool ab)] w:=by
  rw [Xi.j2] at H;refine a1 _ _<|gJV H V (λH=>Wa 1 V<|gR H V (hs.sub (ssk (ssk ssr)))) λH=>Ze<|Wn 1 V<|O_y V (Ys (i:=1) Zce Zbz hs V V V V)<|Rc H λad ai H=>Oc V (Y3.c hs h0 h1 ai)<|Ra λw hs=>Rx 5 V<|Wn 1 V<|O_y V (Ys (i:=0) Zce Zbz hs V V V V)<|Rc H λac aj H=>Oc V (Y3.c hs h0 h2 aj)<|Ra λw hs=>Rx 5 V<|W.weak [(4,_),(5,_),(7,_),(8,_),(9,_),(10,_)] sbn<|Wsq<|Z8 λa6 a7 au=>?_;have av aa w (H:Xi.j1 x1 x2 ad ac aa=some r) (hs:St w0 ρ ((.box af 33 ([Lk x2.kind,.string x2.text,.int .u32 x2.four,.int .u16 x2.six0,.int .u16 x2.six1,.int .u16 x2.six2,.int .u16 x2.six3,.int .u16 x2.six4,.int .u16 x2.six5,.int .u16 x2.six6,.int .u16 x2.six7]))::(.box ae 33 ([Lk x1.kind,.string x1.text,.int .u32 x1.four,.int .u16 x1.six0,.int .u16 x1.six1,.int .u16 x1.six2,.int .u16 x1.six3,.int .u16 x1.six4,.int .u16 x1.six5,.int .u16 x1.six6,.int .u16 x1.six7]))::Γ) w):a6 [(4,Ll ae),(5,Ll af),(7,.string ad.1),(9,.string ac.1),(34,.bool aa)] w:=by rw [Xi.j1] at H;exact a7 _ _<|gJV H V (λH=>Wn 2 V<|O_y V (Zb7 V V)<|Rx 1 V<|gR H V (hs.sub (ssk (ssk ssr)))) λH=>Ze<|Wq<|O_y V (Ys (i:=1) Zce Zbz hs V V V V)<|O_y V (Ys (i:=0) Zce Zbz hs V V V V)<|O_y V (Zql [Lk x1.kind,.string x1.text,.int .u32 x1.four] [Lk x2.kind,.string x2.text,.int .u32 x2.four] [x1.six0,x1.six1,x1.six2,x1.six3,x1.six4,x1.six5,x1.six6,x1.six7] [x2.six0,x2.six1,x2.six2,x2.six3,x2.six4,x2.six5,x2.six6,x2.six7] Z0s Z6h V V V V V)<|Rx 1 V<|gR H V (hs.sub (ssk (ssk ssr)))
  refine Zc<|Rn 2 V<|gJ1 H (V9 (dj:=32) V) (λH=>?_) λH=>?_;refine Rx 3 V (au _ _ _ sbn (av ac.2 _ H hs));refine Rx 2 V (au _ _ _ sbn (av false _ H hs))
 refine Zc<|O_y V (Ys (i:=1) Zce Zbz hs V V V V)<|Rc H λap am H=>Oc V (J7.c hs h1 am)<|Ra λw hs=>Rn 2 V<|gJ1 H (V9 (dj:=14) V) (λH=>?_) λH=>?_;refine Rx 4 V (aq _ _ _ (T4 V) (ar true _ H hs));refine Rn 1 V<|O_y V (Ys (i:=0) Zce Zbz hs V V V V)<|Rn 1 V<|Rc H λag ao H=>Oc V (J7.c hs h2 ao)<|Ra λw hs=>Rx 3 V (aq _ _ _ (T4 V) (ar (!ag) _ H hs))
def Ye.j1 (ai:Bool):Option Bool:=some ai
def Ye.j2 (x2:S10) (ab:Option S11×Int×Int) (aa:ByteArray×Bool) (ad:ByteArray):Option Bool:=(Vl.f (⟨1,ad,0,0,0,0,0,0,0,0,0⟩:S10) (⟨1,aa.1,0,0,0,0,0,0,0,0,0⟩:S10)).bind λbx=>(if bx=true then ((Xi.f ab.1 x2 x2).bind λbz=>(if bz=true then ((Vl.f (⟨1,(⟨#[120,46]⟩:ByteArray)++aa.1,0,0,0,0,0,0,0,0,0⟩:S10) (⟨1,aa.1,0,0,0,0,0,0,0,0,0⟩:S10)).bind λa2=>(Ye.j1 a2)) else (Ye.j1 false))) else (Ye.j1 false))
def Ye.j3 (x2:S10) (ab:Option S11×Int×Int) (aa:ByteArray×Bool) (ae:Bool):Option Bool:=if ae=true then (if (0:Int)<=0/\0<=i64.wrap ((x2.text.size:Int)-1)/\i64.wrap ((x2.text.size:Int)-1)<=(x2.text.size:Int) then (Ye.j2 x2 ab aa (x2.text.extract (0:Int).toNat (i64.wrap ((x2.text.size:Int)-1):Int).toNat)) else none) else (Ye.j2 x2 ab aa x2.text)
def Ye.j4 (x2:S10) (ab:Option S11×Int×Int) (aa:ByteArray×Bool) (af:Bool):Option Bool:=if af=true then (some false) else (if 0<(x2.text.size:Int) then (if (0:Int)<=i64.wrap ((x2.text.size:Int)-1)/\i64.wrap ((x2.text.size:Int)-1)<(x2.text.size:Int) then (Ye.j3 x2 ab aa (decide ((bt x2.text (i64.wrap ((x2.text.size:Int)-1)))=46))) else none) else (Ye.j3 x2 ab aa false))
def Ye.j5 (x2:S10) (ab:Option S11×Int×Int) (ac aa:ByteArray×Bool) (ag:Bool):Option Bool:=if ag=true then (some false) else (if (!aa.2)=true then (some (decide (aa.1=(⟨#[]⟩:ByteArray)))) else (if (⟨#[120,46]⟩:ByteArray).size+aa.1.size<=9223372036854775807 then (if (aa.1.size:Int)<=(ac.1.size:Int) then (Ye.j4 x2 ab aa true) else (if ac.1≠(⟨#[]⟩:ByteArray) then (if (0:Int)<=i64.wrap ((aa.1.size:Int)-(ac.1.size:Int))/\i64.wrap ((aa.1.size:Int)-(ac.1.size:Int))<=(aa.1.size:Int)/\(aa.1.size:Int)<=(aa.1.size:Int) then (if (aa.1.extract (i64.wrap ((aa.1.size:Int)-(ac.1.size:Int)):Int).toNat ((aa.1.size:Int):Int).toNat)≠ac.1 then (Ye.j4 x2 ab aa true) else (if (0:Int)<=i64.wrap ((i64.wrap ((aa.1.size:Int)-(ac.1.size:Int)))-1)/\i64.wrap ((i64.wrap ((aa.1.size:Int)-(ac.1.size:Int)))-1)<(aa.1.size:Int) then (Ye.j4 x2 ab aa (decide ((bt aa.1 (i64.wrap ((i64.wrap ((aa.1.size:Int)-(ac.1.size:Int)))-1)))≠46))) else none)) else none) else (Ye.j4 x2 ab aa false))) else none))
def Ye.f (x0:Bk) (x1:ByteArray) (x2:S10):Option Bool:=(Kx.f x0).bind λck=>((Zu.f ck.1 x1).bind λab=>((Vx.f ab.1 x2).bind λac=>((Y3.f ab.1 x2).bind λaa=>((Zab.f).bind λb0=>(if (!b0)=true then (Ye.j5 x2 ab ac aa true) else (if (!ck.2.2)=true then (Ye.j5 x2 ab ac aa true) else (if aa.2=true then (Ye.j5 x2 ab ac aa (!ac.2)) else (Ye.j5 x2 ab ac aa false))))))))
theorem Ye.c (hs:St w0 ρ (Γ) w) (hL:Zdr w0) (h0:rBk.R ρ c0 x0) (h2:Zel.R ρ c2 x2) (H:Ye.f x0 x1 x2=some r):gK 3 [.agg c0.toArray,.string x1,.agg c2.toArray] w0 ρ Γ w (.bool r):=by
 refine Et func3 ntmps3 V ?_;have dv:=h0;obtain ⟨bl,bm,bn,bo,bp,bq,br,bs,bu,bv,bw,rfl,e2,e3,e4,e5,e6,e7,e8,e9,fa,fb,fc⟩:=dv;have dw:=h2;obtain rfl:=dw;refine Wq<|Kw (cs:=[bl,bm,bn,bo,bp,bq,br,bs,bu,bv,bw]) hs V V (λb1 w hs=>Kw (cs:=[Lk x2.kind,.string x2.text,.int .u32 x2.four,.int .u16 x2.six0,.int .u16 x2.six1,.int .u16 x2.six2,.int .u16 x2.six3,.int .u16 x2.six4,.int .u16 x2.six5,.int .u16 x2.six6,.int .u16 x2.six7]) hs V V (λaw w hs=>Rx 1 V<|Wq<|O_y V (Ys (i:=1) Zqn Zox hs V V V V)<|Rc H λck cl H=>Oc V (Kx.c hs h0 cl) (λff w hpost=>?_)));obtain ⟨fg,fh,dz,rfl,ak,hs,ea,eb⟩:=hpost;have cm:=eb;obtain ⟨b2,b3,b4,b5,b6,an,ao,ap,aq,ar,au,rfl,ec,ed,ee,ef,eg,cn,co,cp,cq,cr,ct⟩:=cm;refine Rn 4 V<|Yn Zzn hs V (λav w hs=>Rn 1 V<|Z2 (i:=0) Zh8 hs V V V V V (Zb ec.one (Zb ed.one (Zb ee.one (Zb ef.one (Zb eg.one (Zb cn.one (Zb co.one (Zb cp.one (Zb cq.one (Zb cr.one (Zb ct.one Z9))))))))))) (λw hs=>Rx 1 V<|W.weak [(1,_),(5,_),(7,_),(9,_)] (T4 V)<|Wn 2 V<|Rc H λab b7 H=>Oc V (Zu.c hs hL ea b7) (λei w hpost=>?_)));obtain ⟨aj,ax,rfl,ah,hs,a3⟩:=hpost;refine Rx 7 V<|Wn 1 V<|O_y V (Ys (i:=1) Zce Zbz hs V V V V) ?_;obtain ⟨ac,b8,H⟩:=bnd H;refine Oc V (Vx.c hs a3 (Zel.mono (ak.trans ah) h2) b8) (λek w hpost=>?_);obtain ⟨rfl,hs⟩:=hpost;refine Rx 5 V<|W.weak [(5,_),(9,_),(10,_),(13,_),(14,_)] sbn<|Wn 1 V<|O_y V (Ys (i:=1) Zce Zbz hs V V V V) ?_;obtain ⟨aa,b9,H⟩:=bnd H;refine Oc V (Y3.c hs a3 (Zel.mono (ak.trans ah) h2) b9) (λem w hpost=>?_);obtain ⟨rfl,hs⟩:=hpost;refine Rx 5 V<|Wsq<|Z8 λcy cz ay=>?_;have az ag w (H:Ye.j5 x2 ab ac aa ag=some r) (hs:St w0 aj ((.box av 39 ([b2,b3,b4,b5,b6,an,ao,ap,aq,ar,au]))::(.box aw 33 ([Lk x2.kind,.string x2.text,.int .u32 x2.four,.int .u16 x2.six0,.int .u16 x2.six1,.int .u16 x2.six2,.int .u16 x2.six3,.int .u16 x2.six4,.int .u16 x2.six5,.int .u16 x2.six6,.int .u16 x2.six7]))::(.box b1 27 ([bl,bm,bn,bo,bp,bq,br,bs,bu,bv,bw]))::Γ) w):cy [(5,Ll aw),(10,ax),(13,.string ac.1),(15,.string aa.1),(16,.bool aa.2),(60,.bool ag)] w:=by
  rw [Ye.j5] at H;refine cz _ _<|gJV H V (λH=>Wa 1 V<|gR H V ((hs.sub (ssk (ssk (ssk ssr)))).less (ak.trans ah))) λH=>Ze<|Wsq<|Wa 2 V<|gJV H V (λH=>Wn 1 V<|O_y V (Zb7 V V)<|Rx 1 V<|gR H V ((hs.sub (ssk (ssk (ssk ssr)))).less (ak.trans ah))) λH=>?_;refine Ze<|Wn 1 V<|O_y V (X4 (cs:=[Lk 1,.string aa.1,.int .u32 0,.int .u16 0,.int .u16 0,.int .u16 0,.int .u16 0,.int .u16 0,.int .u16 0,.int .u16 0,.int .u16 0]) Zi9 Ztu ((Zp.cons V V (Zp.cons V V Zp.nil))) Zce (by kernel_rfl))<|Rn 1 V<|Rd H λdf H=>O_y V (Zwb V V df)<|O_y V (X4 (cs:=[Lk 1,.string ((⟨#[120,46]⟩:ByteArray)++aa.1),.int .u32 0,.int .u16 0,.int .u16 0,.int .u16 0,.int .u16 0,.int .u16 0,.int .u16 0,.int .u16 0,.int .u16 0]) Zi9 Ztu ((Zp.cons V V (Zp.cons V V Zp.nil))) Zce (by kernel_rfl))<|Yn Zi9 hs V (λal w hs=>Yn Zi9 hs V (λam w hs=>Z2 (i:=1) Zbz hs V V V V V (Zb V (Zb V (Zb V (Zb V (Zb V (Zb V (Zb V (Zb V (Zb V (Zb V (Zb V Z9))))))))))) (λw hs=>Z2 (i:=0) Zbz hs V V V V V (Zb V (Zb V (Zb V (Zb V (Zb V (Zb V (Zb V (Zb V (Zb V (Zb V (Zb V Z9))))))))))) (λw hs=>Zf<|W.weak [(5,_),(10,_),(13,_),(15,_),(17,_),(18,_)] sbn<|Wn 1 V<|O_y V (U8 un9 V)<|Rn 1 V<|O_y V (U8 un9 V)<|Rx 2 V<|Wsq<|Z8 λdi dk a0=>?_))));have a1 af w (H:Ye.j4 x2 ab aa af=some r) (hs:St w0 aj ((.box am 33 ([Lk 1,.string ((⟨#[120,46]⟩:ByteArray)++aa.1),.int .u32 0,.int .u16 0,.int .u16 0,.int .u16 0,.int .u16 0,.int .u16 0,.int .u16 0,.int .u16 0,.int .u16 0]))::(.box al 33 ([Lk 1,.string aa.1,.int .u32 0,.int .u16 0,.int .u16 0,.int .u16 0,.int .u16 0,.int .u16 0,.int .u16 0,.int .u16 0,.int .u16 0]))::(.box av 39 ([b2,b3,b4,b5,b6,an,ao,ap,aq,ar,au]))::(.box aw 33 ([Lk x2.kind,.string x2.text,.int .u32 x2.four,.int .u16 x2.six0,.int .u16 x2.six1,.int .u16 x2.six2,.int .u16 x2.six3,.int .u16 x2.six4,.int .u16 x2.six5,.int .u16 x2.six6,.int .u16 x2.six7]))::(.box b1 27 ([bl,bm,bn,bo,bp,bq,br,bs,bu,bv,bw]))::Γ) w):di [(5,Ll aw),(10,ax),(17,Ll al),(18,Ll am),(98,.bool af)] w:=by
   rw [Ye.j4] at H;refine dk _ _<|gJV H V (λH=>Wa 1 V<|gR H V ((hs.sub (ssk (ssk (ssk (ssk (ssk ssr)))))).less (ak.trans ah))) λH=>Ze<|Wq<|Ofd Zgk V<|Obx 3 ag9 hs V<|Rx 1 V<|Z8 λdn dp ca=>?_;have cb (ad:ByteArray) w (H:Ye.j2 x2 ab aa ad=some r) (hs:St w0 aj ((.box am 33 ([Lk 1,.string ((⟨#[120,46]⟩:ByteArray)++aa.1),.int .u32 0,.int .u16 0,.int .u16 0,.int .u16 0,.int .u16 0,.int .u16 0,.int .u16 0,.int .u16 0,.int .u16 0]))::(.box al 33 ([Lk 1,.string aa.1,.int .u32 0,.int .u16 0,.int .u16 0,.int .u16 0,.int .u16 0,.int .u16 0,.int .u16 0,.int .u16 0,.int .u16 0]))::(.box av 39 ([b2,b3,b4,b5,b6,an,ao,ap,aq,ar,au]))::(.box aw 33 ([Lk x2.kind,.string x2.text,.int .u32 x2.four,.int .u16 x2.six0,.int .u16 x2.six1,.int .u16 x2.six2,.int .u16 x2.six3,.int .u16 x2.six4,.int .u16 x2.six5,.int .u16 x2.six6,.int .u16 x2.six7]))::(.box b1 27 ([bl,bm,bn,bo,bp,bq,br,bs,bu,bv,bw]))::Γ) w):dn [(5,Ll aw),(10,ax),(17,Ll al),(18,Ll am),(21,.string ad)] w:=by
    rw [Ye.j2] at H;refine dp _ _<|Z8 λdq dr a7=>?_;have a8 ai w (H:Ye.j1 ai=some r) (hs:St w0 aj ((.box am 33 ([Lk 1,.string ((⟨#[120,46]⟩:ByteArray)++aa.1),.int .u32 0,.int .u16 0,.int .u16 0,.int .u16 0,.int .u16 0,.int .u16 0,.int .u16 0,.int .u16 0,.int .u16 0]))::(.box al 33 ([Lk 1,.string aa.1,.int .u32 0,.int .u16 0,.int .u16 0,.int .u16 0,.int .u16 0,.int .u16 0,.int .u16 0,.int .u16 0,.int .u16 0]))::(.box av 39 ([b2,b3,b4,b5,b6,an,ao,ap,aq,ar,au]))::(.box aw 33 ([Lk x2.kind,.string x2.text,.int .u32 x2.four,.int .u16 x2.six0,.int .u16 x2.six1,.int .u16 x2.six2,.int .u16 x2.six3,.int .u16 x2.six4,.int .u16 x2.six5,.int .u16 x2.six6,.int .u16 x2.six7]))::(.box b1 27 ([bl,bm,bn,bo,bp,bq,br,bs,bu,bv,bw]))::Γ) w):dq [(6,.bool ai)] w:=by rw [Ye.j1] at H;exact dr _ _<|gR H V ((hs.sub (ssk (ssk (ssk (ssk (ssk ssr)))))).less (ak.trans ah))
    refine Zc<|Rn 1 V<|O_y V (X4 (cs:=[Lk 1,.string ad,.int .u32 0,.int .u16 0,.int .u16 0,.int .u16 0,.int .u16 0,.int .u16 0,.int .u16 0,.int .u16 0,.int .u16 0]) Zi9 Ztu ((Zp.cons V V (Zp.cons V V Zp.nil))) Zce (by kernel_rfl))<|O_y V (Ys (i:=1) Zce Zbz hs V V V V)<|Rc H λbx cc H=>Oc V (Vl.c hs (show Zel.R aj _ (⟨1,ad,0,0,0,0,0,0,0,0,0⟩:S10) from V) (show Zel.R aj _ (⟨1,aa.1,0,0,0,0,0,0,0,0,0⟩:S10) from V) cc)<|Ra λw hs=>Rn 1 V<|gJ1 H (V9 (dj:=120) V) (λH=>?_) λH=>?_;refine Rn 3 V<|O_y V (Ys (i:=3) Zce Zbz hs V V V V)<|Rn 1 V<|O_y V (Ys (i:=3) Zce Zbz hs V V V V)<|Rn 1 V ?_;obtain ⟨bz,cd,H⟩:=bnd H;refine Oc V (Xi.c hs a3 (Zel.mono (ak.trans ah) h2) (Zel.mono (ak.trans ah) h2) cd) (λey w hpost=>?_);obtain ⟨rfl,hs⟩:=hpost;refine Rn 2 V<|gJ1 H (V9 (dj:=126) V) (λH=>?_) λH=>?_;refine Rn 1 V<|O_y V (Ys (i:=0) Zce Zbz hs V V V V)<|Rn 1 V<|O_y V (Ys (i:=1) Zce Zbz hs V V V V)<|Rn 1 V<|Rc H λa2 ce H=>Oc V (Vl.c hs (show Zel.R aj _ (⟨1,(⟨#[120,46]⟩:ByteArray)++aa.1,0,0,0,0,0,0,0,0,0⟩:S10) from V) (show Zel.R aj _ (⟨1,aa.1,0,0,0,0,0,0,0,0,0⟩:S10) from V) ce)<|Ra λw hs=>Rx 2 V (a7 _ _ _ (S1 V) (a8 a2 _ H hs));refine Rx 5 V (a7 _ _ _ (S1 V) (a8 false _ H hs));refine Rx 11 V (a7 _ _ _ (S1 V) (a8 false _ H hs))
   refine Wn 1 V<|O_y V (U8 un9 V)<|Rx 1 V<|Z8 λdt du cf=>?_;have cg ae w (H:Ye.j3 x2 ab aa ae=some r) (hs:St w0 aj ((.box am 33 ([Lk 1,.string ((⟨#[120,46]⟩:ByteArray)++aa.1),.int .u32 0,.int .u16 0,.int .u16 0,.int .u16 0,.int .u16 0,.int .u16 0,.int .u16 0,.int .u16 0,.int .u16 0]))::(.box al 33 ([Lk 1,.string aa.1,.int .u32 0,.int .u16 0,.int .u16 0,.int .u16 0,.int .u16 0,.int .u16 0,.int .u16 0,.int .u16 0,.int .u16 0]))::(.box av 39 ([b2,b3,b4,b5,b6,an,ao,ap,aq,ar,au]))::(.box aw 33 ([Lk x2.kind,.string x2.text,.int .u32 x2.four,.int .u16 x2.six0,.int .u16 x2.six1,.int .u16 x2.six2,.int .u16 x2.six3,.int .u16 x2.six4,.int .u16 x2.six5,.int .u16 x2.six6,.int .u16 x2.six7]))::(.box b1 27 ([bl,bm,bn,bo,bp,bq,br,bs,bu,bv,bw]))::Γ) w):dt [(5,Ll aw),(10,ax),(17,Ll al),(18,Ll am),(21,.string x2.text),(22,Lk (x2.text.size:Int)),(111,.bool ae)] w:=by rw [Ye.j3] at H;refine du _ _<|gJV H V (λH=>?_) λH=>?_;refine Zc<|Rn 3 V<|Rd H λbc H=>O_y V (Zd7 un9 V (.inl ⟨V,V⟩) (.inr ⟨_,_,V,V⟩) bc.1 bc.2.1 bc.2.2)<|Rx 1 V (ca _ _ _ sbn (cb (x2.text.extract (0:Int).toNat (i64.wrap ((x2.text.size:Int)-1):Int).toNat) _ H hs));exact Ze (ca _ _ _ sbn (cb x2.text _ H hs))
   refine Zc<|Rn 3 V<|gI1 H (X9 (dj:=105) V) (λH=>?_) λH=>?_;refine Rn 6 V<|Rd H λch H=>Rn 1 V<|O_y V (Zjf un9 V V ch.1 ch.2)<|Rx 3 V (cf _ _ _ sbn (cg (decide ((bt x2.text (i64.wrap ((x2.text.size:Int)-1)))=46)) _ H hs));refine Rx 6 V (cf _ _ _ sbn (cg false _ H hs))
  refine Zc<|Rn 4 V<|gI1 H (X9 (dj:=77) V) (λH=>?_) λH=>?_;refine Rn 3 V<|Qa V V V<|Qa V V V<|Qa V V V<|Qa V V V<|Qa V V V<|Qa V V V<|Qa V V V<|Qa V V V<|Qa V V V<|Qa V V V<|Qa V V V<|Qa V V V<|Qa V V V<|Qa V V V<|Qa V V V<|Qa V V V<|Rx 2 V (a0 _ _ _ sbn (a1 true _ H hs));refine Rn 3 V<|O_y V (Zim V V)<|Rn 2 V<|gI1 H (X9 (dj:=80) V) (λH=>?_) λH=>?_;refine Rn 8 V<|Rd H λbg H=>Rn 1 V<|O_y V (Zd7 un9 V (.inr ⟨_,_,V,V⟩) (.inl ⟨V,V⟩) bg.1 bg.2.1 bg.2.2)<|Rn 3 V<|O_y V (Zim V V)<|Rn 2 V<|gI1 H (X9 (dj:=88) V) (λH=>?_) λH=>?_;refine Rx 12 V (a0 _ _ _ sbn (a1 true _ H hs));refine Rn 10 V<|Rd H λci H=>Rn 1 V<|O_y V (Zjf un9 V V ci.1 ci.2)<|Rx 7 V (a0 _ _ _ sbn (a1 (decide ((bt aa.1 (i64.wrap ((i64.wrap ((aa.1.size:Int)-(ac.1.size:Int)))-1)))≠46)) _ H hs));refine Rn 8 V<|Qa V V V<|Qa V V V<|Qa V V V<|Qa V V V<|Qa V V V<|Qa V V V<|Qa V V V<|Rx 4 V (a0 _ _ _ sbn (a1 false _ H hs))
 refine Zc<|Rc H λb0 cj H=>Oc V (Zab.c hs hL cj)<|Ra λw hs=>Rn 2 V<|gJ1 H (V9 (dj:=50) V) (λH=>?_) λH=>?_;refine Rn 6 V<|Qa V V V<|Qa V V V<|Rx 2 V (ay _ _ _ sbn (az true _ H hs));refine Rn 6 V<|gJ1 H (V9 (dj:=54) V) (λH=>?_) λH=>?_;refine Rn 2 V<|Qa V V V<|Qa V V V<|Rx 2 V (ay _ _ _ sbn (az true _ H hs));refine Rn 4 V<|gJ1 H (V9 (dj:=56) V) (λH=>?_) λH=>?_;refine Rx 7 V (ay _ _ _ sbn (az (!ac.2) _ H hs));refine Rx 5 V (ay _ _ _ sbn (az false _ H hs))
end
theorem Zwl:∀ (s cur:List UInt8),Zdf 46 cur s≠[]
 | [],cur=>by simp [Zdf]
 | c::r,cur=>by
  rw [Zdf]
  split
  ·simp
  ·exact Zwl r _
def Vf:List (List UInt8)->List UInt8
 | []=>[]
 | [x]=>x
 | x::y::l=>x++46::Vf (y::l)
theorem Zd9 (x:List UInt8) (h:l≠[]):Vf (x::l)=x++46::Vf l:=by
 cases l with
 | nil=>exact absurd rfl h
 | cons y l=>rfl
theorem Znb:∀ l:List (List UInt8),Lib.join l [46]=Vf l
 | []=>rfl
 | [x]=>by simp [Lib.join,List.intercalate,Vf]
 | x::y::l=>by
  have:=Znb (y::l)
  rw [Vf,<- this]
  simp [Lib.join,List.intercalate]
theorem Zis:∀ (s cur:List UInt8),Vf (Zdf 46 cur s)=cur++s
 | [],cur=>by simp [Zdf,Vf]
 | c::r,cur=>by
  rw [Zdf]
  by_cases h:c=46
  ·rw [if_pos h,Zd9 _ (Zwl r []),Zis r [],h,List.nil_append]
  ·rw [if_neg h,Zis r _,List.append_assoc];rfl
theorem Zmz:∀ (s cur:List UInt8),(46:UInt8)∉cur->∀ x∈Zdf 46 cur s,(46:UInt8)∉x
 | [],cur,h,x,hx=>by
  rw [Zdf,List.mem_singleton] at hx;rw [hx];exact h
 | c::r,cur,h,x,hx=>by
  rw [Zdf] at hx
  by_cases e:c=46
  ·rw [if_pos e] at hx
   rcases List.mem_cons.1 hx with e2 | e2
   ·rw [e2];exact h
   ·exact Zmz r [] List.not_mem_nil x e2
  ·rw [if_neg e] at hx
   refine Zmz r _ (λhm=>?_) x hx
   rcases List.mem_append.1 hm with m | m
   ·exact h m
   ·exact e (List.mem_singleton.1 m).symm
theorem Zgo:∀ (l m:List (List UInt8)),l≠[]->m≠[]->Vf (l++m)=Vf l++46::Vf m
 | [],_,h,_=>absurd rfl h
 | [x],m,_,hm=>by rw [List.singleton_append,Zd9 x hm];rfl
 | x::y::l,m,_,hm=>by
  have:=Zgo (y::l) m (by simp) hm
  rw [List.cons_append,Zd9 x (by simp),this,Zd9 x (by simp),List.append_assoc];rfl
theorem Zti (h:l≠[]) (hx:∀ x∈l,x≠[]):Vf l≠[]:=by
 cases l with
 | nil=>exact absurd rfl h
 | cons x l=>
  have h1:=hx x (List.mem_cons_self ..)
  cases l with
  | nil=>exact h1
  | cons y l=>rw [Vf];simp
theorem Zu6 (hd:∀ x∈l,(46:UInt8)∉x):∀ {p:List UInt8},Vf l=p++[46]->∃ k,k≠[]/\l=k++[[]]/\Vf k=p:=by
 induction l with
 | nil=>intro p h;rw [Vf] at h;simp at h
 | cons x l ih=>
  intro p h
  cases l with
  | nil=>
   rw [Vf] at h;exact absurd (h▸List.mem_append_right p (List.mem_singleton.2 rfl)) (hd x (List.mem_cons_self ..))
  | cons y l=>
   rw [Vf] at h
   rcases List.eq_nil_or_concat (Vf (y::l)) with e | ⟨q,c,e⟩
   ·rw [e] at h
    obtain ⟨h1,_⟩:=List.append_inj' h rfl;refine ⟨[x],by simp,?_,h1⟩;have:l=[]/\y=[]:=by
     cases l with
     | nil=>exact ⟨rfl,by rw [Vf] at e;exact e⟩
     | cons z l=>rw [Vf] at e;simp at e
    rw [this.1,this.2];rfl
   ·rw [List.concat_eq_append] at e
    rw [e,show x++46::(q++[c])=(x++46::q)++[c] by simp] at h;obtain ⟨h1,h2⟩:=List.append_inj' h rfl;have hc:c=46:=by simpa using h2
    obtain ⟨k,k1,k2,k3⟩:=ih (λz hz=>hd z (List.mem_cons_of_mem _ hz)) (p:=q) (by rw [e,hc]);refine ⟨x::k,by simp,by rw [k2];rfl,?_⟩;rw [Zd9 x k1,k3,h1]
def Vp.j1 (aa:Bool):Option Bool:=some aa
def Vp.f (x0:Int):Option Bool:=if 0<=x0 then (if x0<55296 then (Vp.j1 true) else (if 57343<x0 then (Vp.j1 (decide (x0<=1114111))) else (Vp.j1 false))) else (if 57343<x0 then (Vp.j1 (decide (x0<=1114111))) else (Vp.j1 false))
def Hy.f (x0 x1:Int):Option Int:=if (i64.wrap (x0-x1))<1 then (some 1) else (if 26<(i64.wrap (x0-x1)) then (some 26) else (some (i64.wrap (x0-x1))))
def Zdx.f (x0:Int):Option Int:=if x0<26 then (some (u8.wrap (i64.wrap (97+x0)))) else (some (u8.wrap (i64.wrap ((i64.wrap (48+x0))-26))))
def K6.l1:Nat->Int->Int->Option Int
 | 0,_,_=>none
 | ad+1,aa,ab=>if 455<aa then ((K6.l1 ad ) (i64.wrap (aa.tdiv 35)) (i64.wrap (ab+36))) else (if (i64.wrap (aa+38))≠0 then (some (i64.wrap (ab+(i64.wrap ((i64.wrap (36*aa)).tdiv (i64.wrap (aa+38))))))) else none)
def K6.j1 (x1 ac:Int):Option Int:=if x1≠0 then (K6.l1 K0 (i64.wrap (ac+(i64.wrap (ac.tdiv x1)))) 0) else none
def K6.f (x0 x1:Int) (x2:Bool):Option Int:=if x2=true then (K6.j1 x1 (i64.wrap (x0.tdiv 700))) else (K6.j1 x1 (i64.wrap (x0.tdiv 2)))
def Vg.j1 (x0:Int) (aa:Bool):Option Int:=if aa=true then (some (i64.wrap ((i64.wrap (u8.wrap (x0-48)))+26))) else (some (-1))
def Vg.j2 (x0:Int) (ab:Bool):Option Int:=if ab=true then (some (i64.wrap (u8.wrap (x0-65)))) else (if 48<=x0 then (Vg.j1 x0 (decide (x0<=57))) else (Vg.j1 x0 false))
def Vg.j3 (x0:Int) (ac:Bool):Option Int:=if ac=true then (some (i64.wrap (u8.wrap (x0-97)))) else (if 65<=x0 then (Vg.j2 x0 (decide (x0<=90))) else (Vg.j2 x0 false))
def Vg.f (x0:Int):Option Int:=if 97<=x0 then (Vg.j3 x0 (decide (x0<=122))) else (Vg.j3 x0 false)
def Yu.j1 (bl:Int->Int->Option (List Int×Int×Int)) (an a5:Int):Option (List Int×Int×Int):=bl a5 (i64.wrap (an+1))
def Yu.l1 (a0:List Int->Int->Int->Int->Int->Option (List Int×Int×Int)):Nat->List Int->Int->Int->Int->Int->Int->Int->List Int->Int->Option (List Int×Int×Int)
 | 0,_,_,_,_,_,_,_,_,_=>none
 | a2+1,aa,ag,ae,ac,ab,ao,a7,ad,ah=>if ((i64.wrap (ac+(i64.wrap (ao*ab)))).tmod (i64.wrap ((aa.length:Int)+1)))<ah then (if (0:Int)<=i64.wrap (ah-1)/\i64.wrap (ah-1)<(ad.length:Int) then (if (0:Int)<=ah/\ah<(ad.length:Int) then ((Yu.l1 a0 a2 aa ag ae ac ab ao a7) (ad.set ah.toNat (rd ad (i64.wrap (ah-1)))) (i64.wrap (ah-1))) else none) else none) else (if (0:Int)<=(i64.wrap (ac+(i64.wrap (ao*ab)))).tmod (i64.wrap ((aa.length:Int)+1))/\(i64.wrap (ac+(i64.wrap (ao*ab)))).tmod (i64.wrap ((aa.length:Int)+1))<(ad.length:Int) then (a0 (ad.set ((i64.wrap (ac+(i64.wrap (ao*ab)))).tmod (i64.wrap ((aa.length:Int)+1))).toNat (i32.wrap (i64.wrap (ag+(i64.wrap ((i64.wrap (ac+(i64.wrap (ao*ab)))).tdiv (i64.wrap ((aa.length:Int)+1)))))))) (i64.wrap (ae+1)) (i64.wrap (ag+(i64.wrap ((i64.wrap (ac+(i64.wrap (ao*ab)))).tdiv (i64.wrap ((aa.length:Int)+1)))))) (i64.wrap (((i64.wrap (ac+(i64.wrap (ao*ab)))).tmod (i64.wrap ((aa.length:Int)+1)))+1)) a7) else none)
def Yu.l2 (a0:List Int->Int->Int->Int->Int->Option (List Int×Int×Int)):Nat->ByteArray->List Int->Int->Int->Int->Int->Int->Int->Int->Option (List Int×Int×Int)
 | 0,_,_,_,_,_,_,_,_,_=>none
 | a3+1,x0,aa,ag,ai,aj,ae,ac,ab,ar=>if ae=(x0.size:Int) then (some (([]:List Int),ae,140)) else (if (0:Int)<=ae/\ae<(x0.size:Int) then ((Vg.f (bt x0 ae)).bind λao=>(if ao<0 then (some (([]:List Int),ae,140)) else (if 2147483647<(i64.wrap (ac+(i64.wrap (ao*ab)))) then (some (([]:List Int),ae,142)) else ((Hy.f ar aj).bind λbc=>(if ao<bc then ((K6.f (i64.wrap ((i64.wrap (ac+(i64.wrap (ao*ab))))-ai)) (i64.wrap ((aa.length:Int)+1)) (decide (ai=0))).bind λa7=>(if (i64.wrap ((aa.length:Int)+1))≠0 then (if 1114111<(i64.wrap (ag+(i64.wrap ((i64.wrap (ac+(i64.wrap (ao*ab)))).tdiv (i64.wrap ((aa.length:Int)+1)))))) then (some (([]:List Int),ae,142)) else ((Vp.f (i32.wrap (i64.wrap (ag+(i64.wrap ((i64.wrap (ac+(i64.wrap (ao*ab)))).tdiv (i64.wrap ((aa.length:Int)+1)))))))).bind λb2=>(if (!b2)=true then (some (([]:List Int),ae,143)) else (if aa.length+([0]).length<=most then (Yu.l1 a0 K0 aa ag ae ac ab ao a7 (aa++([0])) (i64.wrap (((aa++([0])).length:Int)-1))) else none)))) else none)) else (if 2147483647<(i64.wrap (ab*(i64.wrap (36-bc)))) then (some (([]:List Int),ae,142)) else ((Yu.l2 a0 a3 x0 aa ag ai aj) (i64.wrap (ae+1)) (i64.wrap (ac+(i64.wrap (ao*ab)))) (i64.wrap (ab*(i64.wrap (36-bc)))) (i64.wrap (ar+36))))))))) else none)
def Yu.l3:Nat->ByteArray->List Int->Int->Int->Int->Int->Option (List Int×Int×Int)
 | 0,_,_,_,_,_,_=>none
 | az+1,x0,aa,ax,ag,ai,aj=>if ax<(x0.size:Int) then (Yu.l2 (Yu.l3 az x0) K0 x0 aa ag ai aj ax ai 1 36) else (some (aa,0,0))
def Yu.j2 (x0:ByteArray) (af:List Int) (a1:Int):Option (List Int×Int×Int):=Yu.l3 K0 x0 af a1 128 0 72
def Yu.l4:Nat->ByteArray->Int->List Int->Int->Option (List Int×Int×Int)
 | 0,_,_,_,_=>none
 | a8+1,x0,al,af,ak=>if ak<al then (if (0:Int)<=ak/\ak<(x0.size:Int) then (if 127<(bt x0 ak) then (some (([]:List Int),ak,141)) else (if af.length+([i32.wrap (bt x0 ak)]).length<=most then ((Yu.l4 a8 x0 al) (af++([i32.wrap (bt x0 ak)])) (i64.wrap (ak+1))) else none)) else none) else (if 0<al then (Yu.j2 x0 af (i64.wrap (al+1))) else (Yu.j2 x0 af al))
def Yu.l5:Nat->ByteArray->Int->Int->Option (List Int×Int×Int)
 | 0,_,_,_=>none
 | a4+1,x0,al,an=>if an<(x0.size:Int) then (if (0:Int)<=an/\an<(x0.size:Int) then (if (bt x0 an)=45 then (Yu.j1 (Yu.l5 a4 x0) an an) else (Yu.j1 (Yu.l5 a4 x0) an al)) else none) else (Yu.l4 K0 x0 al ([]:List Int) 0)
def Yu.f (x0:ByteArray):Option (List Int×Int×Int):=Yu.l5 K0 x0 0 0
def Z3.j2 (bo:Int->Int->Option (ByteArray×Int×Int)) (ae a9:Int):Option (ByteArray×Int×Int):=bo a9 (i64.wrap (ae+1))
def Z3.j3 (bo:Int->Int->Option (ByteArray×Int×Int)) (x0:List Int) (ab ae:Int) (bi:Bool):Option (ByteArray×Int×Int):=if bi=true then (Z3.j2 bo ae (i64.wrap (rd x0 ae))) else (Z3.j2 bo ae ab)
def Z3.j4 (a5:List Int->Int->Int->Int->Int->Option (ByteArray×Int×Int)) (ac:Int) (ax:List Int) (ba bb bc:Int):Option (ByteArray×Int×Int):=a5 ax ba bb bc (i64.wrap (ac+1))
def Z3.l1 (a5:List Int->Int->Int->Int->Int->Option (ByteArray×Int×Int)):Nat->List Int->Int->Int->Int->Int->List Int->Int->Int->Option (ByteArray×Int×Int)
 | 0,_,_,_,_,_,_,_,_=>none
 | bn+1,aa,ai,af,ac,ap,an,aw,az=>(Hy.f az ai).bind λbp=>(if aw<bp then ((Zdx.f aw).bind λbt=>(if an.length+([bt]).length<=most then ((K6.f ap (i64.wrap (af+1)) (decide (af=(aa.length:Int)))).bind λb6=>(Z3.j4 a5 ac (an++([bt])) 0 b6 (i64.wrap (af+1)))) else none)) else (if (i64.wrap (36-bp))≠0 then ((Zdx.f (i64.wrap (bp+((i64.wrap (aw-bp)).tmod (i64.wrap (36-bp)))))).bind λbu=>(if an.length+([bu]).length<=most then ((Z3.l1 a5 bn aa ai af ac ap) (an++([bu])) (i64.wrap ((i64.wrap (aw-bp)).tdiv (i64.wrap (36-bp)))) (i64.wrap (az+36))) else none)) else none))
def Z3.j5 (a5:List Int->Int->Int->Int->Int->Option (ByteArray×Int×Int)) (x0 aa:List Int) (ab:Int) (ag:List Int) (ai af ac ap:Int):Option (ByteArray×Int×Int):=if (i64.wrap (rd x0 ac))≠ab then (Z3.j4 a5 ac ag ap ai af) else (Z3.l1 a5 K0 aa ai af ac ap ag ap 36)
def Z3.l2 (a6:List Int->Int->Int->Int->Int->Option (ByteArray×Int×Int)):Nat->List Int->List Int->Int->List Int->Int->Int->Int->Int->Option (ByteArray×Int×Int)
 | 0,_,_,_,_,_,_,_,_=>none
 | a7+1,x0,aa,ab,ag,ar,ai,af,ac=>if ac<(x0.length:Int) then (if (0:Int)<=ac/\ac<(x0.length:Int) then (if (i64.wrap (rd x0 ac))<ab then (if 2147483647<(i64.wrap (ar+1)) then (some ((⟨#[]⟩:ByteArray),0,142)) else (Z3.j5 (Z3.l2 a6 a7 x0 aa ab) x0 aa ab ag ai af ac (i64.wrap (ar+1)))) else (Z3.j5 (Z3.l2 a6 a7 x0 aa ab) x0 aa ab ag ai af ac ar)) else none) else (a6 ag (i64.wrap (ab+1)) (i64.wrap (ar+1)) ai af)
def Z3.l3 (a6:List Int->Int->Int->Int->Int->Option (ByteArray×Int×Int)):Nat->List Int->List Int->List Int->Int->Int->Int->Int->Int->Int->Option (ByteArray×Int×Int)
 | 0,_,_,_,_,_,_,_,_,_=>none
 | a8+1,x0,aa,ad,ao,ak,al,ah,ab,ae=>if ae<(x0.length:Int) then (if (0:Int)<=ae/\ae<(x0.length:Int) then (if ao<=(i64.wrap (rd x0 ae)) then (Z3.j3 (Z3.l3 a6 a8 x0 aa ad ao ak al ah) x0 ab ae (decide ((i64.wrap (rd x0 ae))<ab))) else (Z3.j3 (Z3.l3 a6 a8 x0 aa ad ao ak al ah) x0 ab ae false)) else none) else (if 2147483647<(i64.wrap (ak+(i64.wrap ((i64.wrap (ab-ao))*(i64.wrap (ah+1)))))) then (some ((⟨#[]⟩:ByteArray),0,142)) else (Z3.l2 a6 K0 x0 aa ab ad (i64.wrap (ak+(i64.wrap ((i64.wrap (ab-ao))*(i64.wrap (ah+1)))))) al ah 0))
def Z3.l4:Nat->List Int->List Int->List Int->Int->Int->Int->Int->Option (ByteArray×Int×Int)
 | 0,_,_,_,_,_,_,_=>none
 | a1+1,x0,aa,ad,ao,ak,al,ah=>if ah<(x0.length:Int) then (Z3.l3 (Z3.l4 a1 x0 aa) K0 x0 aa ad ao ak al ah 1114112 0) else ((Yu.f (Zbn ad)).bind λck=>(if ck.2.2≠0 then (some ((⟨#[]⟩:ByteArray),0,142)) else (some (Zbn ad,0,0))))
def Zat.l1:Nat->List Int->List Int->Int->Option Bool
 | 0,_,_,_=>none
 | ab+1,x0,x1,aa=>if aa<(x0.length:Int) then (if (0:Int)<=aa/\aa<(x0.length:Int) then (if (0:Int)<=aa/\aa<(x1.length:Int) then (if (rd x0 aa)≠(rd x1 aa) then (some false) else ((Zat.l1 ab x0 x1) (i64.wrap (aa+1)))) else none) else none) else (some true)
def Zat.f (x0 x1:List Int):Option Bool:=if (x0.length:Int)≠(x1.length:Int) then (some false) else (Zat.l1 K0 x0 x1 0)
section
section
variable {α:Type} (key:α->Int)
def Zm9 (x:α):List α->List α
 | []=>[x]
 | y::t=>if key x<=key y then x::y::t else y::Zm9 x t
def Vs:List α->List α
 | []=>[]
 | x::t=>Zm9 key x (Vs t)
def Srt:List α->Prop
 | []=>True
 | x::t=>(∀ y∈t,key x<=key y)/\Srt t
def Feq (a b:List α):Prop:=∀ c,a.filter (λx=>decide (key x=c))=b.filter (λx=>decide (key x=c))
theorem Feq.refl (a:List α):Feq key a a:=λ_=>rfl
theorem Feq.symm {a b:List α} (h:Feq key a b):Feq key b a:=λc=>(h c).symm
theorem Feq.trans {a b c:List α} (h:Feq key a b) (g:Feq key b c):Feq key a c:=λd=>(h d).trans (g d)
theorem Feq.app {a a' b b':List α} (h:Feq key a a') (g:Feq key b b'):Feq key (a++b) (a'++b'):=λc=>by rw [List.filter_append,List.filter_append,h c,g c]
theorem Feq.mem {a b:List α} (h:Feq key a b) {x:α} (hx:x∈a):x∈b:=by
 have:x∈a.filter (λy=>decide (key y=key x)):=List.mem_filter.2 ⟨hx,by simp⟩;rw [h] at this;exact (List.mem_filter.1 this).1
theorem Z4m {x y:α} {t:List α}:y∈Zm9 key x t↔y=x\/y∈t:=by
 induction t with
 | nil=>simp [Zm9]
 | cons z t ih=>
  unfold Zm9;split
  ·simp
  ·simp only [List.mem_cons,ih]
   constructor
   ·rintro (h | h | h)<;>simp [h]
   ·rintro (h | h | h)<;>simp [h]
theorem Zxi {x:α}:∀ {t:List α},Srt key t->Srt key (Zm9 key x t)
 | [],_=>⟨λy hy=>(by cases hy),trivial⟩
 | y::t,h=>by
  unfold Zm9
  split
  ·rename_i c
   refine ⟨λz hz=>?_,h⟩
   rcases List.mem_cons.1 hz with rfl | hz
   ·exact c
   ·exact Int.le_trans c (h.1 z hz)
  ·rename_i c
   refine ⟨λz hz=>?_,Zxi h.2⟩
   rcases (Z4m key).1 hz with rfl | hz
   ·omega
   ·exact h.1 z hz
theorem Zwq (x:α):∀ (t:List α),Feq key (Zm9 key x t) (x::t)
 | [],_=>rfl
 | y::t,c=>by
  unfold Zm9
  split
  ·rfl
  ·rename_i h
   have ih:=Zwq x t c
   simp only [List.filter_cons] at ih ⊢
   rw [ih]
   by_cases c1:key y=c
   ·have:¬ key x=c:=by omega
    simp [c1,this]
   ·simp [c1]
theorem Zc5:∀ (l:List α),Srt key (Vs key l)
 | []=>trivial
 | _::t=>Zxi key (Zc5 t)
theorem Zcg:∀ (l:List α),Feq key (Vs key l) l
 | [],_=>rfl
 | x::t,c=>by
  rw [Vs,Zwq key x _ c,List.filter_cons,List.filter_cons,Zcg t c]
theorem Zi0:∀ {a b:List α},Srt key a->Srt key b->Feq key a b->a=b
 | [],[],_,_,_=>rfl
 | [],y::b,_,_,h=>by have:=Feq.mem key (Feq.symm key h) (List.mem_cons_self (a:=y) (l:=b));cases this
 | x::a,[],_,_,h=>by have:=Feq.mem key h (List.mem_cons_self (a:=x) (l:=a));cases this
 | x::a,y::b,ha,hb,h=>by
  have h1:key y<=key x:=by
   rcases List.mem_cons.1 (Feq.mem key h (List.mem_cons_self (a:=x) (l:=a))) with e | e
   ·rw [e];exact Int.le_refl _
   ·exact hb.1 x e
  have h2:key x<=key y:=by
   rcases List.mem_cons.1 (Feq.mem key (Feq.symm key h) (List.mem_cons_self (a:=y) (l:=b))) with e | e
   ·rw [e];exact Int.le_refl _
   ·exact ha.1 y e
  have hk:key x=key y:=by omega
  have h3:=h (key x);rw [List.filter_cons,List.filter_cons,if_pos (by simp),if_pos (by simp [hk])] at h3;have hxy:x=y:=(List.cons.inj h3).1;subst hxy;rw [Zi0 ha.2 hb.2 (λc=>by
   by_cases e:key x=c
   ·subst e;exact (List.cons.inj h3).2
   ·have:=h c
    rw [List.filter_cons,List.filter_cons,if_neg (by simp [e]),if_neg (by simp [e])] at this;exact this)]
theorem Zn7 {a b:List α} (h:Feq key a b):Vs key a=Vs key b:=
 Zi0 key (Zc5 key a) (Zc5 key b) (Feq.trans key (Zcg key a) (Feq.trans key h (Feq.symm key (Zcg key b))))
theorem Zmc {a b:List α} (h:Srt key b) (g:Feq key a b):Vs key a=b:=
 Zi0 key (Zc5 key a) h (Feq.trans key (Zcg key a) g)
theorem Zt6 {l:List α} {x:α} (h:x∈Vs key l):x∈l:=Feq.mem key (Zcg key l) h
theorem Zci:∀ (l:List α),(Vs key l).length=l.length:=by
 have ins:∀ (x:α) (t:List α),(Zm9 key x t).length=t.length+1:=by
  intro x t
  induction t with
  | nil=>rfl
  | cons y t ih=>unfold Zm9;split<;>simp [ih]
 intro l
 induction l with
 | nil=>rfl
 | cons x t ih=>rw [Vs,ins,ih];rfl
theorem Zm3 {x y:List α} (h:∀ a∈x,∀ b∈y,key b<key a):Feq key (x++y) (y++x):=by
 intro c;rw [List.filter_append,List.filter_append];by_cases e:x.filter (λz=>decide (key z=c))=[]
 ·rw [e];simp
 ·obtain ⟨a,ha⟩:=List.exists_mem_of_ne_nil _ e
  have ha:=List.mem_filter.1 ha;have:y.filter (λz=>decide (key z=c))=[]:=by
   rw [List.filter_eq_nil_iff];intro b hb;have:=h a ha.1 b hb;have e2:key a=c:=by simpa using ha.2
   simp;omega
  rw [this];simp
theorem Zmd:∀ {a b:List α},Srt key a->Srt key b->(∀ x∈a,∀ y∈b,key x<=key y)->Srt key (a++b)
 | [],_,_,hb,_=>hb
 | x::a,b,ha,hb,h=>by
  refine ⟨λz hz=>?_,Zmd ha.2 hb λu hu v hv=>h u (List.mem_cons_of_mem _ hu) v hv⟩
  rcases List.mem_append.1 hz with hz | hz
  ·exact ha.1 z hz
  ·exact h x (List.mem_cons_self ..) z hz
theorem Zaj {b:List α}:∀ {a:List α},Srt key (a++b)->Srt key a/\Srt key b/\∀ x∈a,∀ y∈b,key x<=key y
 | [],h=>⟨trivial,h,λx hx=>(by cases hx)⟩
 | x::a,h=>by
  obtain ⟨h1,h2,h3⟩:=Zaj h.2
  refine ⟨⟨λy hy=>h.1 y (List.mem_append_left _ hy),h1⟩,h2,λu hu v hv=>?_⟩
  rcases List.mem_cons.1 hu with rfl | hu
  ·exact h.1 v (List.mem_append_right _ hv)
  ·exact h3 u hu v hv
def Zkz (acc:List α):List α->List α
 | []=>Vs key acc
 | x::t=>if key x=0 then Vs key acc++x::Zkz [] t else Zkz (acc++[x]) t
def Zk0 (l:List α):List α:=Zkz key [] l
theorem Znu:∀ (s:List α) (acc l:List α),(∀ x∈s,key x≠0)->Zkz key acc (s++l)=Zkz key (acc++s) l
 | [],acc,l,_=>by simp
 | x::s,acc,l,h=>by
  rw [List.cons_append,Zkz,if_neg (h x (List.mem_cons_self ..)),Znu s _ l λy hy=>h y (List.mem_cons_of_mem _ hy)]
  simp
theorem Znt:∀ (l acc:List α),(Zkz key acc l).length=acc.length+l.length
 | [],acc=>by simp [Zkz,Zci]
 | x::t,acc=>by
  unfold Zkz
  split
  ·simp [Zci,Znt t]
  ·simp [Znt t];omega
theorem Z4o (l:List α):(Zk0 key l).length=l.length:=by simp [Zk0,Znt]
theorem Ztn {a x y b:List α} (h1:Srt key (a++x)) (h2:Srt key (y++b)) (h3:∀ u∈x,∀ v∈y,key v<key u) (h4:∀ u∈a,∀ v∈b,key u<=key v):
  Vs key ((a++x)++(y++b))=Vs key (a++y)++Vs key (x++b):=by
 obtain ⟨_,_,h1c⟩:=Zaj key h1;obtain ⟨_,_,h2c⟩:=Zaj key h2;refine Zmc key (Zmd key (Zc5 key _) (Zc5 key _) λu hu v hv=>?_) ?_
 ·rcases List.mem_append.1 (Zt6 key hu) with hu | hu<;>rcases List.mem_append.1 (Zt6 key hv) with hv | hv
  ·exact h1c u hu v hv
  ·exact h4 u hu v hv
  ·exact Int.le_of_lt (h3 v hv u hu)
  ·exact h2c u hu v hv
 ·refine Feq.trans key ?_ (Feq.app key (Feq.symm key (Zcg key (a++y))) (Feq.symm key (Zcg key (x++b))))
  have:=Feq.app key (Feq.app key (Feq.refl key a) (Zm3 key h3)) (Feq.refl key b);simpa [List.append_assoc] using this
theorem Ztm {u:α} {y b:List α} (h2:Srt key (y++b)) (h3:∀ v∈y,key v<key u) (h4:∀ v∈b,key u<=key v):Vs key (u::(y++b))=y++u::b:=by
 obtain ⟨hy,hb,hc⟩:=Zaj key h2;refine Zmc key (Zmd key hy ⟨h4,hb⟩ λv hv w hw=>?_) ?_
 ·rcases List.mem_cons.1 hw with rfl | hw
  ·exact Int.le_of_lt (h3 v hv)
  ·exact hc v hv w hw
 ·have:=Feq.app key (Zm3 key (x:=[u]) (y:=y) λa ha v hv=>by rw [List.mem_singleton.1 ha];exact h3 v hv) (Feq.refl key b)
  simpa using this
theorem Zni {v:α} {a x:List α} (h1:Srt key (a++x)) (h3:∀ u∈x,key v<key u) (h4:∀ u∈a,key u<=key v):Vs key (a++x++[v])=a++v::x:=by
 obtain ⟨ha,hx,hc⟩:=Zaj key h1;refine Zmc key (Zmd key ha ⟨λu hu=>Int.le_of_lt (h3 u hu),hx⟩ λu hu w hw=>?_) ?_
 ·rcases List.mem_cons.1 hw with rfl | hw
  ·exact h4 u hu
  ·exact hc u hu w hw
 ·have:=Feq.app key (Feq.refl key a) (Zm3 key (x:=x) (y:=[v]) λu hu w hw=>by rw [List.mem_singleton.1 hw];exact h3 u hu)
  simpa [List.append_assoc] using this
theorem Zvy (a b:List α):Vs key (Vs key a++b)=Vs key (a++b):=Zn7 key (Feq.app key (Zcg key a) (Feq.refl key b))
theorem Zh2 {a:List α} (h:Srt key a):Vs key a=a:=Zmc key h (Feq.refl key a)
end
end
section
theorem Zem {x i:Int} (h:i=(A.length:Int)):rd (A++x::B) i=x:=by subst h;simp [rd]
theorem Zvk {u v i:Int} (h:i=(A.length:Int)+1):rd (A++u::v::B) i=v:=by
 have:=Zem (A:=A++[u]) (B:=B) (x:=v) (i:=i) (by simp;omega);simpa using this
theorem Z65 {x y i:Int} (h:i=(A.length:Int)+1+C.length):rd (A++x::(C++y::D)) i=y:=by
 have:=Zem (A:=A++x::C) (B:=D) (x:=y) (i:=i) (by simp;omega);simpa using this
theorem Zk7 {A B:List Int} {n:Nat} (h:n=A.length):(A++x::B).set n y=A++y::B:=by
 subst h;rw [List.set_append_right _ _ (Nat.le_refl _)];simp
theorem Zry {A B:List Int} {n:Nat} (h:n=A.length+1):(A++u::v::B).set n y=A++u::y::B:=by
 have:=Zk7 (A:=A++[u]) (B:=B) (x:=v) (y:=y) (n:=n) (by simp [h]);simpa using this
theorem Z4z {A C D:List Int} {n:Nat} (h:n=A.length+1+C.length):(A++x::(C++y::D)).set n z=A++x::(C++z::D):=by
 have:=Zk7 (A:=A++x::C) (B:=D) (x:=y) (y:=z) (n:=n) (by simp [h];omega);simpa using this
theorem Z09 (h0:0<=x) (h1:x<4611686018427387904):i64.wrap ((u64.wrap (i64.wrap x)).fdiv (2^(min (1:Int).toNat u64.bits)))=x/2:=by
 rw [w64 (x:=x) (by omega) (by omega),show u64.wrap x=x from by rw [IntKind.wrap_u64];omega];have:(2:Int)^(min (1:Int).toNat u64.bits)=2:=by decide
 rw [this,Int.fdiv_eq_ediv_of_nonneg _ (by omega)];exact w64 (by omega) (by omega)
def cI (a b:Int):Int:=if a<b then -1 else if b<a then 1 else 0
theorem Zlh:cI a b<0↔a<b:=by
 unfold cI;by_cases h:a<b
 ·rw [if_pos h];omega
 ·rw [if_neg h];by_cases h2:b<a
  ·rw [if_pos h2];omega
  ·rw [if_neg h2];omega
def Cmp (t:Option Tbs) (key:Int->Int):Prop:=∀ a b,Jz.f a b t=some (cI (key a) (key b))
section
variable {t:Option Tbs} {key:Int->Int}
theorem Zyl (hc:Cmp t key) (go:List Int->Int->Option (List Int)) (P:List Int) (v i:Int):∀ (n:Nat) (S rest:List Int) (k:Nat),S.length=n->n<k->P.length+n+1+rest.length<=Zv->
  ∃ S1 S2,S=S1++S2/\(∀ u∈S2,key v<key u)/\(∀ S' u,S1=S'++[u]->¬ key v<key u)/\
   Zg.l1 go k t (P.length:Int) i (P++(S++v::rest)) ((P.length:Int)+n)=go (P++(S1++v::(S2++rest))) (i64.wrap (i+1)):=by
 intro n
 induction n with
 | zero=>
  intro S rest k hS hk hb;obtain rfl:=List.eq_nil_of_length_eq_zero hS;obtain ⟨k,rfl⟩:∃ j,k=j+1:=⟨k-1,by omega⟩;refine ⟨[],[],rfl,λu hu=>(by cases hu),λS' u h=>(by simp at h),?_⟩;simp only [Zg.l1,if_neg (show ¬ (P.length:Int)<(P.length:Int)+((0:Nat):Int) by omega),Zg.j1,Bool.false_eq_true,if_false,List.nil_append]
 | succ n ih=>
  intro S rest k hS hk hb;obtain ⟨k,rfl⟩:∃ j,k=j+1:=⟨k-1,by omega⟩
  rcases List.eq_nil_or_concat S with rfl | ⟨S',u,rfl⟩
  ·simp at hS
  have hS':S'.length=n:=by simpa using hS
  have hb':=hb;unfold Zv at hb';have e:P++((S'++[u])++v::rest)=(P++S')++u::v::rest:=by simp
  have hl:((P++S')++u::v::rest).length=P.length+n+2+rest.length:=by simp [hS'];omega
  have e1:i64.wrap ((P.length:Int)+((n+1:Nat):Int)-1)=(P.length:Int)+n:=by rw [w64 (by omega) (by omega)];omega
  have r1:rd ((P++S')++u::v::rest) ((P.length:Int)+((n+1:Nat):Int))=v:=Zvk (by simp [hS'];omega);have r2:rd ((P++S')++u::v::rest) ((P.length:Int)+(n:Int))=u:=Zem (by simp [hS']);rw [List.concat_eq_append,e];simp only [Zg.l1,if_pos (show (P.length:Int)<(P.length:Int)+((n+1:Nat):Int) by omega),e1,hl,if_pos (show (0:Int)<=(P.length:Int)+((n+1:Nat):Int)/\(P.length:Int)+((n+1:Nat):Int)<((P.length+n+2+rest.length:Nat):Int) by omega),
   if_pos (show (0:Int)<=(P.length:Int)+(n:Int)/\(P.length:Int)+(n:Int)<((P.length+n+2+rest.length:Nat):Int) by omega),r1,r2,hc v u,Option.bind_some]
  by_cases c:key v<key u
  ·have c':decide (cI (key v) (key u)<0)=true:=decide_eq_true (Zlh.2 c)
   rw [c'];simp only [Zg.j1,if_true,List.length_set,e1,hl,if_pos (show (0:Int)<=(P.length:Int)+((n+1:Nat):Int)/\(P.length:Int)+((n+1:Nat):Int)<((P.length+n+2+rest.length:Nat):Int) by omega),
    if_pos (show (0:Int)<=(P.length:Int)+(n:Int)/\(P.length:Int)+(n:Int)<((P.length+n+2+rest.length:Nat):Int) by omega),r1,r2]
   rw [Zry (by simp [hS'];omega),Zk7 (by simp [hS'];omega)];obtain ⟨S1,S2,h1,h2,h3,h4⟩:=ih S' (u::rest) k hS' (by omega) (by simp;omega);refine ⟨S1,S2++[u],by rw [h1];simp,λw hw=>?_,h3,?_⟩
   ·rcases List.mem_append.1 hw with hw | hw
    ·exact h2 w hw
    ·rw [List.mem_singleton.1 hw];exact c
   ·have e2:P++S'++v::u::rest=P++(S'++v::u::rest):=by simp
    rw [e2,h4];simp
  ·have c':decide (cI (key v) (key u)<0)=false:=decide_eq_false (λh=>c (Zlh.1 h))
   rw [c'];simp only [Zg.j1,Bool.false_eq_true,if_false];refine ⟨S'++[u],[],by simp,λw hw=>(by cases hw),λS'' w h=>?_,by simp⟩;have:=List.append_inj' h rfl;obtain ⟨_,h2⟩:=this;simp at h2;subst h2;exact c
theorem Zw7 {S1:List Int} {v:Int} (h:Srt key S1) (hl:∀ S' u,S1=S'++[u]->¬ key v<key u):∀ u∈S1,key u<=key v:=by
 intro u hu
 rcases List.eq_nil_or_concat S1 with rfl | ⟨S',w,rfl⟩
 ·cases hu
 rw [List.concat_eq_append] at*
 have hw:=hl S' w rfl;obtain ⟨_,_,h3⟩:=Zaj key h
 rcases List.mem_append.1 hu with hu | hu
 ·have:=h3 u hu w (by simp);omega
 ·rw [List.mem_singleton.1 hu];omega
theorem Zym (hc:Cmp t key) (P Q:List Int):∀ (R S:List Int) (k:Nat),R.length<k->Srt key S->P.length+S.length+R.length+Q.length<=Zv->
  Zg.l2 k t (P.length:Int) ((P.length:Int)+S.length+R.length) (P++(S++(R++Q))) ((P.length:Int)+S.length)=some (P++(Vs key (S++R)++Q)):=by
 intro R
 induction R with
 | nil=>
  intro S k hk hs hb;obtain ⟨k,rfl⟩:∃ j,k=j+1:=⟨k-1,by omega⟩;simp only [Zg.l2,if_neg (show ¬ (P.length:Int)+(S.length:Int)<(P.length:Int)+S.length+(([]:List Int).length:Int) by simp),List.nil_append,List.append_nil,Zh2 key hs]
 | cons v R ih=>
  intro S k hk hs hb;obtain ⟨k,rfl⟩:∃ j,k=j+1:=⟨k-1,by omega⟩;have hb':=hb;unfold Zv at hb';simp only [List.length_cons] at hk hb' hb;simp only [Zg.l2,if_pos (show (P.length:Int)+(S.length:Int)<(P.length:Int)+S.length+((v::R).length:Int) by simp;omega)];obtain ⟨S1,S2,h1,h2,h3,h4⟩:=Zyl hc (Zg.l2 k t (P.length:Int) ((P.length:Int)+S.length+((v::R).length:Int))) P v ((P.length:Int)+S.length) S.length S (R++Q) K0 rfl (ltK (by unfold Zv;omega)) (by simp;omega);rw [List.cons_append,h4,w64 (by omega) (by omega)];subst h1;obtain ⟨hs1,hs2,hs12⟩:=Zaj key hs;have hm:=Zni key (a:=S1) (x:=S2) (v:=v) hs h2 (Zw7 hs1 h3);have hsn:Srt key (S1++v::S2):=by rw [<- hm];exact Zc5 key _
  have:=ih (S1++v::S2) k (by omega) hsn (by simp at hb ⊢;omega);have e1:((P.length:Int)+((S1++S2).length:Int)+((v::R).length:Int))=(P.length:Int)+((S1++v::S2).length:Int)+(R.length:Int):=by simp;omega
  have e2:(P.length:Int)+((S1++S2).length:Int)+1=(P.length:Int)+((S1++v::S2).length:Int):=by simp;omega
  have e3:P++(S1++v::(S2++(R++Q)))=P++((S1++v::S2)++(R++Q)):=by simp
  rw [e1,e2,e3,this];congr 3;rw [<- hm,Zvy];simp
theorem Z1d (hc:Cmp t key) (P X Q:List Int) (hb:P.length+X.length+Q.length<=Zv):
  Zg.f (P.length:Int) ((P.length:Int)+X.length) (P++(X++Q)) t=some (P++(Vs key X++Q)):=by
 unfold Zg.f;have hb':=hb;unfold Zv at hb';rw [w64 (by omega) (by omega)]
 cases X with
 | nil=>
  have:K0=(K0-1)+1:=by unfold K0;rfl
  rw [this];simp only [Zg.l2,if_neg (show ¬ (P.length:Int)+1<(P.length:Int)+(([]:List Int).length:Int) by simp;omega)];rfl
 | cons x X=>
  simp only [List.length_cons] at hb hb';have:=Zym hc P Q X [x] K0 (ltK (by unfold Zv;omega)) ⟨λy hy=>(by cases hy),trivial⟩ (by simp;omega);have e1:(P.length:Int)+(([x]:List Int).length:Int)+(X.length:Int)=(P.length:Int)+((x::X).length:Int):=by simp;omega
  rw [e1] at this;simpa using this
theorem Z45 (P M Q:List Int):∀ (X2 Y2 X1 Y1:List Int) (k:Nat),X2.length=Y2.length->X1.length=Y1.length->X2.length<k->P.length+2*(X1.length+X2.length)+M.length+Q.length<=Zv->
  Ya.l1 k (P.length:Int) ((P.length:Int)+(X1.length+X2.length)+M.length) ((X1.length:Int)+X2.length) (P++((Y1++X2)++(M++((X1++Y2)++Q)))) (X1.length:Int)=some (P++((Y1++Y2)++(M++((X1++X2)++Q)))):=by
 intro X2
 induction X2 with
 | nil=>
  intro Y2 X1 Y1 k h1 h2 hk hb;obtain ⟨k,rfl⟩:∃ j,k=j+1:=⟨k-1,by omega⟩;obtain rfl:=List.eq_nil_of_length_eq_zero h1.symm;simp only [Ya.l1,if_neg (show ¬ (X1.length:Int)<(X1.length:Int)+(([]:List Int).length:Int) by simp)]
 | cons x X2 ih=>
  intro Y2 X1 Y1 k h1 h2 hk hb;obtain ⟨k,rfl⟩:∃ j,k=j+1:=⟨k-1,by omega⟩
  cases Y2 with
  | nil=>simp at h1
  | cons y Y2=>
   simp only [List.length_cons] at h1 hk hb;have hb':=hb;unfold Zv at hb';have e:P++((Y1++x::X2)++(M++((X1++y::Y2)++Q)))=(P++Y1)++x::((X2++(M++X1))++y::(Y2++Q)):=by simp
   have w1:i64.wrap ((P.length:Int)+(X1.length:Int))=(P.length:Int)+X1.length:=w64 (by omega) (by omega);have w2:i64.wrap ((P.length:Int)+((X1.length:Int)+((x::X2).length:Int))+(M.length:Int)+(X1.length:Int))=(P.length:Int)+(X1.length+X2.length+1)+M.length+X1.length:=by rw [w64 (by simp;omega) (by simp;omega)];simp;omega
   have hl:((P++Y1)++x::((X2++(M++X1))++y::(Y2++Q))).length=P.length+2*(X1.length+(X2.length+1))+M.length+Q.length:=by simp;omega
   have r1:rd ((P++Y1)++x::((X2++(M++X1))++y::(Y2++Q))) ((P.length:Int)+X1.length)=x:=Zem (by simp;omega);have r2:rd ((P++Y1)++x::((X2++(M++X1))++y::(Y2++Q))) ((P.length:Int)+(X1.length+X2.length+1)+M.length+X1.length)=y:=Z65 (by simp;omega);rw [e];simp only [Ya.l1,if_pos (show (X1.length:Int)<(X1.length:Int)+((x::X2).length:Int) by simp;omega),w1,w2,List.length_set,hl,
    if_pos (show (0:Int)<=(P.length:Int)+(X1.length+X2.length+1)+M.length+X1.length/\(P.length:Int)+(X1.length+X2.length+1)+M.length+X1.length<((P.length+2*(X1.length+(X2.length+1))+M.length+Q.length:Nat):Int) by omega),
    if_pos (show (0:Int)<=(P.length:Int)+X1.length/\(P.length:Int)+X1.length<((P.length+2*(X1.length+(X2.length+1))+M.length+Q.length:Nat):Int) by omega),r1,r2]
   rw [Zk7 (by simp;omega),Z4z (by simp;omega),w64 (by omega) (by omega)];have:=ih Y2 (X1++[x]) (Y1++[y]) k (by omega) (by simp;omega) (by omega) (by simp;omega);have e1:(P.length:Int)+(((X1++[x]).length:Int)+(X2.length:Int))+(M.length:Int)=(P.length:Int)+((X1.length:Int)+((x::X2).length:Int))+(M.length:Int):=by simp;omega
   have e2:((X1++[x]).length:Int)+(X2.length:Int)=(X1.length:Int)+((x::X2).length:Int):=by simp;omega
   have e3:((X1++[x]).length:Int)=(X1.length:Int)+1:=by simp
   rw [e1,e2,e3] at this;simpa using this
theorem Zr1 (P X M Y Q:List Int) (h:X.length=Y.length) (hb:P.length+2*X.length+M.length+Q.length<=Zv):
  Ya.f (P.length:Int) ((P.length:Int)+X.length+M.length) (X.length:Int) (P++(X++(M++(Y++Q)))) t=some (P++(Y++(M++(X++Q)))):=by
 have hb':=hb;unfold Zv at hb';have:=Z45 P M Q X Y [] [] K0 h rfl (ltK (by unfold Zv;omega)) (by simpa using hb);unfold Ya.f;simpa using this
theorem Z69:∀ (n:Nat) (P X Y Q:List Int) (k:Nat),X.length+Y.length<=n->n<k->0<X.length->0<Y.length->P.length+X.length+Y.length+Q.length<=Zv->
  Yx.l1 k t ((P.length:Int)+X.length) (P++(X++(Y++Q))) (X.length:Int) (Y.length:Int)=some (P++(Y++(X++Q))):=by
 intro n
 induction n with
 | zero=>intro P X Y Q k h1 h2 h3;omega
 | succ n ih=>
  intro P X Y Q k h1 h2 h3 h4 hb;obtain ⟨k,rfl⟩:∃ j,k=j+1:=⟨k-1,by omega⟩;have hb':=hb;unfold Zv at hb';have w1:i64.wrap ((P.length:Int)+(X.length:Int)-(X.length:Int))=(P.length:Int):=by rw [w64 (by omega) (by omega)];omega
  by_cases c1:(X.length:Int)=(Y.length:Int)
  ·simp only [Yx.l1,if_neg (show ¬ (X.length:Int)≠(Y.length:Int) by omega),w1]
   have:=Zr1 (t:=t) P X [] Y Q (by omega) (by simp;omega);have e:(P.length:Int)+(X.length:Int)+(([]:List Int).length:Int)=(P.length:Int)+X.length:=by simp
   rw [e] at this;simp only [List.nil_append] at this;rw [this];rfl
  ·by_cases c2:(Y.length:Int)<(X.length:Int)
   ·simp only [Yx.l1,if_pos (show (X.length:Int)≠(Y.length:Int) from c1),if_pos c2,w1]
    obtain ⟨X1,X2,rfl,hx1⟩:∃ X1 X2,X=X1++X2/\X1.length=Y.length:=⟨X.take Y.length,X.drop Y.length,by simp,by simp;omega⟩;have hx2:0<X2.length:=by simp at c2;omega
    have:=Zr1 (t:=t) P X1 X2 Y Q hx1 (by simp at hb;omega);have e:(P.length:Int)+((X1++X2).length:Int)=(P.length:Int)+X1.length+X2.length:=by simp;omega
    rw [hx1] at this;rw [e,hx1];have e2:P++(X1++X2++(Y++Q))=P++(X1++(X2++(Y++Q))):=by simp
    rw [e2,this,Option.bind_some];have w2:i64.wrap (((X1++X2).length:Int)-(Y.length:Int))=(X2.length:Int):=by rw [w64 (by simp;omega) (by simp;omega)];simp;omega
    rw [w2];have:=ih (P++Y) X2 X1 Q k (by simp at h1;omega) (by omega) hx2 (by omega) (by simp at hb ⊢;omega);have e3:((P++Y).length:Int)+(X2.length:Int)=(P.length:Int)+Y.length+X2.length:=by simp
    rw [e3,hx1] at this;have e4:P++(Y++(X2++(X1++Q)))=P++Y++(X2++(X1++Q)):=by simp
    rw [e4,this];simp
   ·simp only [Yx.l1,if_pos (show (X.length:Int)≠(Y.length:Int) from c1),if_neg c2,w1]
    obtain ⟨Y1,Y2,rfl,hy1⟩:∃ Y1 Y2,Y=Y1++Y2/\Y2.length=X.length:=⟨Y.take (Y.length-X.length),Y.drop (Y.length-X.length),by simp,by simp;omega⟩;have hy0:0<Y1.length:=by simp at c1 c2;omega
    have:=Zr1 (t:=t) P X Y1 Y2 Q hy1.symm (by simp at hb;omega);have w3:i64.wrap (i64.wrap ((P.length:Int)+(X.length:Int)+((Y1++Y2).length:Int))-(X.length:Int))=(P.length:Int)+X.length+Y1.length:=by
     have hyl:(Y1++Y2).length=Y1.length+Y2.length:=by simp
     rw [w64 (x:=(P.length:Int)+(X.length:Int)+((Y1++Y2).length:Int)) (by omega) (by omega),w64 (x:=(P.length:Int)+(X.length:Int)+((Y1++Y2).length:Int)-(X.length:Int)) (by omega) (by omega)];omega
    rw [w3];have e2:P++(X++(Y1++Y2++Q))=P++(X++(Y1++(Y2++Q))):=by simp
    rw [e2,this,Option.bind_some];have hyl:(Y1++Y2).length=Y1.length+Y2.length:=by simp
    have w2:i64.wrap (((Y1++Y2).length:Int)-(X.length:Int))=(Y1.length:Int):=by rw [w64 (by omega) (by omega)];omega
    rw [w2];have:=ih P Y2 Y1 (X++Q) k (by simp at h1;omega) (by omega) (by omega) hy0 (by simp at hb ⊢;omega);rw [hy1] at this;rw [this];simp
theorem Z68 (P X Y Q:List Int) (h3:0<X.length) (h4:0<Y.length) (hb:P.length+X.length+Y.length+Q.length<=Zv):
  Yx.f (P.length:Int) ((P.length:Int)+X.length) ((P.length:Int)+X.length+Y.length) (P++(X++(Y++Q))) t=some (P++(Y++(X++Q))):=by
 have hb':=hb;unfold Zv at hb';unfold Yx.f;have w1:i64.wrap ((P.length:Int)+(X.length:Int)-(P.length:Int))=(X.length:Int):=by rw [w64 (by omega) (by omega)];omega
 have w2:i64.wrap ((P.length:Int)+(X.length:Int)+(Y.length:Int)-((P.length:Int)+(X.length:Int)))=(Y.length:Int):=by rw [w64 (by omega) (by omega)];omega
 rw [w1,w2];exact Z69 (X.length+Y.length) P X Y Q K0 (Nat.le_refl _) (ltK (by unfold Zv;omega)) h3 h4 hb
end
end
section
section
variable {t:Option Tbs} {key:Int->Int}
theorem Zyz (P Q:List Int) (u:Int):∀ (Y2 Y1:List Int) (k:Nat),Y2.length<k->P.length+Y1.length+Y2.length+1+Q.length<=Zv->
  Za.l1 k ((P.length:Int)+Y1.length+Y2.length+1) (P++(Y1++u::(Y2++Q))) ((P.length:Int)+Y1.length)=some (P++(Y1++(Y2++u::Q))):=by
 intro Y2
 induction Y2 with
 | nil=>
  intro Y1 k hk hb;obtain ⟨k,rfl⟩:∃ j,k=j+1:=⟨k-1,by omega⟩;unfold Zv at hb;have w1:i64.wrap ((P.length:Int)+Y1.length+(([]:List Int).length:Int)+1-1)=(P.length:Int)+Y1.length:=by rw [w64 (by simp;omega) (by simp;omega)];simp
  simp only [Za.l1,w1,if_neg (show ¬ (P.length:Int)+(Y1.length:Int)<(P.length:Int)+Y1.length by omega),List.nil_append]
 | cons y Y2 ih=>
  intro Y1 k hk hb;obtain ⟨k,rfl⟩:∃ j,k=j+1:=⟨k-1,by omega⟩;simp only [List.length_cons] at hk hb;have hb':=hb;unfold Zv at hb';have w1:i64.wrap ((P.length:Int)+Y1.length+((y::Y2).length:Int)+1-1)=(P.length:Int)+Y1.length+Y2.length+1:=by rw [w64 (by simp;omega) (by simp;omega)];simp;omega
  have w2:i64.wrap ((P.length:Int)+Y1.length+1)=(P.length:Int)+Y1.length+1:=w64 (by omega) (by omega);have e:P++(Y1++u::((y::Y2)++Q))=(P++Y1)++u::y::(Y2++Q):=by simp
  have hl:((P++Y1)++u::y::(Y2++Q)).length=P.length+Y1.length+Y2.length+2+Q.length:=by simp;omega
  have r1:rd ((P++Y1)++u::y::(Y2++Q)) ((P.length:Int)+Y1.length)=u:=Zem (by simp);have r2:rd ((P++Y1)++u::y::(Y2++Q)) ((P.length:Int)+Y1.length+1)=y:=Zvk (by simp);rw [e];simp only [Za.l1,w1,if_pos (show (P.length:Int)+(Y1.length:Int)<(P.length:Int)+Y1.length+Y2.length+1 by omega),w2,List.length_set,hl,
   if_pos (show (0:Int)<=(P.length:Int)+Y1.length+1/\(P.length:Int)+Y1.length+1<((P.length+Y1.length+Y2.length+2+Q.length:Nat):Int) by omega),
   if_pos (show (0:Int)<=(P.length:Int)+Y1.length/\(P.length:Int)+Y1.length<((P.length+Y1.length+Y2.length+2+Q.length:Nat):Int) by omega),r1,r2]
  rw [Zk7 (by simp;omega),Zry (by simp;omega)];have:=ih (Y1++[y]) k (by omega) (by simp;omega);have e1:(P.length:Int)+((Y1++[y]).length:Int)+(Y2.length:Int)+1=(P.length:Int)+Y1.length+((y::Y2).length:Int)+1:=by simp;omega
  have e2:(P.length:Int)+((Y1++[y]).length:Int)=(P.length:Int)+Y1.length+1:=by simp;omega
  rw [e1,e2] at this;simpa using this
theorem Z0a (hc:Cmp t key) (ys:List Int) (a m b:Int) (u:Int) (hb:ys.length<=Zv) (ha:0<=a/\a<ys.length) (hu:rd ys a=u) (hm:0<=m) (hbl:b<=ys.length):∀ (n:Nat) (i j:Int) (k:Nat),(j-i).toNat<=n->n<k->m<=i->i<=j->j<=b->
  (m<i->key (rd ys (i-1))<key u)->(j<b->¬ key (rd ys j)<key u)->
  ∃ s,m<=s/\s<=b/\(m<s->key (rd ys (s-1))<key u)/\(s<b->¬ key (rd ys s)<key u)/\Za.l2 k ys t a i j=Za.l1 K0 s ys a:=by
 intro n;have hb':=hb;unfold Zv at hb'
 induction n with
 | zero=>
  intro i j k h1 h2 h3 h4 h5 h6 h7;obtain ⟨k,rfl⟩:∃ j,k=j+1:=⟨k-1,by omega⟩;obtain rfl:i=j:=by omega
  exact ⟨i,h3,h5,h6,h7,by simp only [Za.l2,if_neg (show ¬ i<i by omega)]⟩
 | succ n ih=>
  intro i j k h1 h2 h3 h4 h5 h6 h7;obtain ⟨k,rfl⟩:∃ j,k=j+1:=⟨k-1,by omega⟩;by_cases c:i<j
  ·have hh:=Z09 (x:=i+j) (by omega) (by omega)
   have w1:i64.wrap ((i+j)/2+1)=(i+j)/2+1:=w64 (by omega) (by omega);simp only [Za.l2,if_pos c,hh,if_pos (show (0:Int)<=(i+j)/2/\(i+j)/2<(ys.length:Int) by omega),if_pos (show (0:Int)<=a/\a<(ys.length:Int) from ha),hu,hc _ u,Option.bind_some,w1];by_cases d:key (rd ys ((i+j)/2))<key u
   ·rw [if_pos (Zlh.2 d)]
    exact ih _ _ k (by omega) (by omega) (by omega) (by omega) h5 (λ_=>by rw [show (i+j)/2+1-1=(i+j)/2 by omega];exact d) h7
   ·rw [if_neg (λh=>d (Zlh.1 h))]
    exact ih _ _ k (by omega) (by omega) h3 (by omega) (by omega) h6 (λ_=>d)
  ·obtain rfl:i=j:=by omega
   exact ⟨i,h3,h5,h6,h7,by simp only [Za.l2,if_neg c]⟩
theorem Z6o (h:Srt key (Y1++Y2)) (h1:∀ A y,Y1=A++[y]->key y<key u) (h2:∀ y B,Y2=y::B->¬ key y<key u):(∀ v∈Y1,key v<key u)/\(∀ v∈Y2,key u<=key v):=by
 obtain ⟨a,b,_⟩:=Zaj key h;refine ⟨λv hv=>?_,λv hv=>?_⟩
 ·rcases List.eq_nil_or_concat Y1 with rfl | ⟨A,w,rfl⟩
  ·cases hv
  rw [List.concat_eq_append] at*
  have hw:=h1 A w rfl;obtain ⟨_,_,h3⟩:=Zaj key a
  rcases List.mem_append.1 hv with hv | hv
  ·have:=h3 v hv w (by simp);omega
  ·rw [List.mem_singleton.1 hv];exact hw
 ·cases Y2 with
  | nil=>cases hv
  | cons y B=>
   have:=h2 y B rfl
   rcases List.mem_cons.1 hv with rfl | hv
   ·omega
   ·have:=b.1 v hv;omega
theorem Z6n (h:Srt key (X1++X2)) (h1:∀ A x,X1=A++[x]->¬ key v<key x) (h2:∀ x B,X2=x::B->key v<key x):(∀ u∈X1,key u<=key v)/\(∀ u∈X2,key v<key u):=by
 obtain ⟨a,b,_⟩:=Zaj key h;refine ⟨λw hw=>Zw7 a h1 w hw,λw hw=>?_⟩
 cases X2 with
 | nil=>cases hw
 | cons y B=>
  have:=h2 y B rfl
  rcases List.mem_cons.1 hw with rfl | hw
  ·exact this
  ·have:=b.1 w hw;omega
theorem Zho (Y:List Int) (n:Nat) (h:n<=Y.length):∃ Y1 Y2,Y=Y1++Y2/\Y1.length=n:=⟨Y.take n,Y.drop n,by simp,by simp;omega⟩
theorem Zzj (hc:Cmp t key) (P Y Q:List Int) (u:Int) (hY:Srt key Y) (hb:P.length+1+Y.length+Q.length<=Zv):
  Za.l2 K0 (P++(u::(Y++Q))) t (P.length:Int) ((P.length:Int)+1) ((P.length:Int)+1+Y.length)=some (P++(Vs key (u::Y)++Q)):=by
 have hb':=hb;unfold Zv at hb';have hl:(P++(u::(Y++Q))).length=P.length+1+Y.length+Q.length:=by simp;omega
 obtain ⟨s,s1,s2,s3,s4,s5⟩:=Z0a hc (P++(u::(Y++Q))) (P.length:Int) ((P.length:Int)+1) ((P.length:Int)+1+Y.length) u (by omega) (by omega) (Zem rfl) (by omega) (by omega) (Zv) ((P.length:Int)+1) ((P.length:Int)+1+Y.length) K0 (by unfold Zv;omega) (ltK (Nat.le_refl _)) (by omega) (by omega) (by omega) (λh=>by omega) (λh=>by omega);rw [s5];obtain ⟨Y1,Y2,rfl,hn⟩:=Zho Y (s-(P.length+1)).toNat (by omega);have hyl:(Y1++Y2).length=Y1.length+Y2.length:=by simp
 have es:s=(P.length:Int)+(([]:List Int).length:Int)+Y1.length+1:=by simp;omega
 have hcut:=Z6o (u:=u) hY (λA y e=>by
  subst e;have hr:rd (P++(u::(((A++[y])++Y2)++Q))) (s-1)=y:=by have:=Zem (A:=P++u::A) (B:=Y2++Q) (x:=y) (i:=s-1) (by simp at hn ⊢;omega);simpa using this
  have:=s3 (by simp at hn;omega);rwa [hr] at this) (λy B e=>by
  subst e;have hr:rd (P++(u::((Y1++y::B)++Q))) s=y:=by have:=Zem (A:=P++u::Y1) (B:=B++Q) (x:=y) (i:=s) (by simp;omega);simpa using this
  have:=s4 (by simp at hyl ⊢;omega);rwa [hr] at this)
 have:=Zyz P (Y2++Q) u Y1 [] K0 (ltK (by unfold Zv;omega)) (by simp;omega);rw [es,Ztm key hY hcut.1 hcut.2];simpa using this
theorem Z1u (P Q:List Int) (v:Int):∀ (n:Nat) (X2 X1 Z:List Int) (k:Nat),X2.length=n->n<k->P.length+X1.length+n+Z.length+1+Q.length<=Zv->
  Za.l3 k ((P.length:Int)+X1.length) (P++(X1++(X2++v::(Z++Q)))) ((P.length:Int)+X1.length+n)=some (P++(X1++v::(X2++(Z++Q)))):=by
 intro n
 induction n with
 | zero=>
  intro X2 X1 Z k h1 hk hb;obtain ⟨k,rfl⟩:∃ j,k=j+1:=⟨k-1,by omega⟩;obtain rfl:=List.eq_nil_of_length_eq_zero h1;simp only [Za.l3,if_neg (show ¬ (P.length:Int)+(X1.length:Int)<(P.length:Int)+X1.length+((0:Nat):Int) by omega),List.nil_append]
 | succ n ih=>
  intro X2 X1 Z k h1 hk hb;obtain ⟨k,rfl⟩:∃ j,k=j+1:=⟨k-1,by omega⟩;have hb':=hb;unfold Zv at hb'
  rcases List.eq_nil_or_concat X2 with rfl | ⟨X',x,rfl⟩
  ·simp at h1
  have hX:X'.length=n:=by simpa using h1
  rw [List.concat_eq_append];have w1:i64.wrap ((P.length:Int)+X1.length+((n+1:Nat):Int)-1)=(P.length:Int)+X1.length+n:=by rw [w64 (by omega) (by omega)];omega
  have e:P++(X1++((X'++[x])++v::(Z++Q)))=(P++(X1++X'))++x::v::(Z++Q):=by simp
  have hl:((P++(X1++X'))++x::v::(Z++Q)).length=P.length+X1.length+n+2+Z.length+Q.length:=by simp [hX];omega
  have r1:rd ((P++(X1++X'))++x::v::(Z++Q)) ((P.length:Int)+X1.length+((n+1:Nat):Int))=v:=Zvk (by simp [hX];omega);have r2:rd ((P++(X1++X'))++x::v::(Z++Q)) ((P.length:Int)+X1.length+(n:Int))=x:=Zem (by simp [hX];omega);rw [e];simp only [Za.l3,if_pos (show (P.length:Int)+(X1.length:Int)<(P.length:Int)+X1.length+((n+1:Nat):Int) by omega),w1,List.length_set,hl,
   if_pos (show (0:Int)<=(P.length:Int)+X1.length+((n+1:Nat):Int)/\(P.length:Int)+X1.length+((n+1:Nat):Int)<((P.length+X1.length+n+2+Z.length+Q.length:Nat):Int) by omega),
   if_pos (show (0:Int)<=(P.length:Int)+X1.length+(n:Int)/\(P.length:Int)+X1.length+(n:Int)<((P.length+X1.length+n+2+Z.length+Q.length:Nat):Int) by omega),r1,r2]
  rw [Zry (by simp [hX];omega),Zk7 (by simp [hX];omega)];have:=ih X' X1 (x::Z) k hX (by omega) (by simp;omega);simpa using this
theorem Z3u (hc:Cmp t key) (ys:List Int) (a m:Int) (v:Int) (hb:ys.length<=Zv) (ha:0<=a) (hm:0<=m/\m<ys.length) (hv:rd ys m=v):∀ (n:Nat) (i j:Int) (k:Nat),(j-i).toNat<=n->n<k->a<=i->i<=j->j<=m->
  (a<i->¬ key v<key (rd ys (i-1)))->(j<m->key v<key (rd ys j))->
  ∃ s,a<=s/\s<=m/\(a<s->¬ key v<key (rd ys (s-1)))/\(s<m->key v<key (rd ys s))/\Za.l4 k ys t m i j=Za.l3 K0 s ys m:=by
 intro n;have hb':=hb;unfold Zv at hb'
 induction n with
 | zero=>
  intro i j k h1 h2 h3 h4 h5 h6 h7;obtain ⟨k,rfl⟩:∃ j,k=j+1:=⟨k-1,by omega⟩;obtain rfl:i=j:=by omega
  exact ⟨i,h3,h5,h6,h7,by simp only [Za.l4,if_neg (show ¬ i<i by omega)]⟩
 | succ n ih=>
  intro i j k h1 h2 h3 h4 h5 h6 h7;obtain ⟨k,rfl⟩:∃ j,k=j+1:=⟨k-1,by omega⟩;by_cases c:i<j
  ·have hh:=Z09 (x:=i+j) (by omega) (by omega)
   have w1:i64.wrap ((i+j)/2+1)=(i+j)/2+1:=w64 (by omega) (by omega);simp only [Za.l4,if_pos c,hh,if_pos (show (0:Int)<=m/\m<(ys.length:Int) from hm),if_pos (show (0:Int)<=(i+j)/2/\(i+j)/2<(ys.length:Int) by omega),hv,hc v _,Option.bind_some,w1];by_cases d:key v<key (rd ys ((i+j)/2))
   ·rw [if_neg (λh=>h (Zlh.2 d))]
    exact ih _ _ k (by omega) (by omega) h3 (by omega) (by omega) h6 (λ_=>d)
   ·rw [if_pos (λh=>d (Zlh.1 h))]
    exact ih _ _ k (by omega) (by omega) (by omega) (by omega) h5 (λ_=>by rw [show (i+j)/2+1-1=(i+j)/2 by omega];exact d) h7
  ·obtain rfl:i=j:=by omega
   exact ⟨i,h3,h5,h6,h7,by simp only [Za.l4,if_neg c]⟩
theorem Z20 (hc:Cmp t key) (P X Q:List Int) (v:Int) (hX:Srt key X) (hb:P.length+X.length+1+Q.length<=Zv):
  Za.l4 K0 (P++(X++(v::Q))) t ((P.length:Int)+X.length) (P.length:Int) ((P.length:Int)+X.length)=some (P++(Vs key (X++[v])++Q)):=by
 have hb':=hb;unfold Zv at hb';have hl:(P++(X++(v::Q))).length=P.length+X.length+1+Q.length:=by simp;omega
 have hr:rd (P++(X++(v::Q))) ((P.length:Int)+X.length)=v:=by have:=Zem (A:=P++X) (B:=Q) (x:=v) (i:=(P.length:Int)+X.length) (by simp);simpa using this
 obtain ⟨s,s1,s2,s3,s4,s5⟩:=Z3u hc (P++(X++(v::Q))) (P.length:Int) ((P.length:Int)+X.length) v (by omega) (by omega) (by omega) hr Zv (P.length:Int) ((P.length:Int)+X.length) K0 (by unfold Zv;omega) (ltK (Nat.le_refl _)) (by omega) (by omega) (by omega) (λh=>by omega) (λh=>by omega);rw [s5];obtain ⟨X1,X2,rfl,hn⟩:=Zho X (s-P.length).toNat (by omega);have hxl:(X1++X2).length=X1.length+X2.length:=by simp
 have es:s=(P.length:Int)+X1.length:=by omega
 have hcut:=Z6n (v:=v) hX (λA y e=>by
  subst e;have hr:rd (P++(((A++[y])++X2)++(v::Q))) (s-1)=y:=by have:=Zem (A:=P++A) (B:=X2++v::Q) (x:=y) (i:=s-1) (by simp at hn ⊢;omega);simpa using this
  have:=s3 (by simp at hn;omega);rwa [hr] at this) (λy B e=>by
  subst e;have hr:rd (P++((X1++y::B)++(v::Q))) s=y:=by have:=Zem (A:=P++X1) (B:=B++v::Q) (x:=y) (i:=s) (by simp;omega);simpa using this
  have:=s4 (by simp at hxl ⊢;omega);rwa [hr] at this)
 have:=Z1u P Q v X2.length X2 X1 [] K0 rfl (ltK (by unfold Zv;omega)) (by simp;omega);rw [es,Zni key hX hcut.2 hcut.1];have e:(P.length:Int)+((X1++X2).length:Int)=(P.length:Int)+X1.length+X2.length:=by omega
 rw [e];simpa using this
end
end
section
section
variable {t:Option Tbs} {key:Int->Int}
theorem Z0b (hc:Cmp t key) (rec:Int->Int->Int->List Int->Option Tbs->Option (List Int)) (ys:List Int) (a m b mid lo hi:Int) (hb:ys.length<=Zv) (ha:0<=a) (hbb:0<=b/\b<=1099511627776/\a<=1099511627776) (hm:0<=m/\m<=1099511627776) (hmid:mid=(a+b)/2) (hg:∀ c,lo<=c->c<hi->(0<=c/\c<(ys.length:Int))/\(0<=mid+m-1-c/\mid+m-1-c<(ys.length:Int))) (hlo:0<=lo) (hhi:hi<=1099511627776):∀ (n:Nat) (i j:Int) (k:Nat),(j-i).toNat<=n->n<k->lo<=i->i<=j->j<=hi->
  (lo<i->¬ key (rd ys (mid+m-i))<key (rd ys (i-1)))->(j<hi->key (rd ys (mid+m-1-j))<key (rd ys j))->
  ∃ s,lo<=s/\s<=hi/\(lo<s->¬ key (rd ys (mid+m-s))<key (rd ys (s-1)))/\(s<hi->key (rd ys (mid+m-1-s))<key (rd ys s))/\
   Za.l5 k rec ys t a m b i j=(if s<m then Za.j5 rec ys t a m b s (decide (m<mid+m-s)) else Za.j5 rec ys t a m b s false):=by
 have hb':=hb;unfold Zv at hb';have e0:=Z09 (x:=a+b) (by omega) (by omega);rw [<- hmid] at e0;have e1:i64.wrap (mid+m)=mid+m:=w64 (by omega) (by omega);have e2:i64.wrap (mid+m-1)=mid+m-1:=w64 (by omega) (by omega);have fin:∀ (i:Int) (k:Nat),lo<=i->i<=hi->Za.l5 (k+1) rec ys t a m b i i=(if i<m then Za.j5 rec ys t a m b i (decide (m<mid+m-i)) else Za.j5 rec ys t a m b i false):=by intro i k h3 h4;have e3:i64.wrap (mid+m-i)=mid+m-i:=w64 (by omega) (by omega);simp only [Za.l5,if_neg (show ¬ i<i by omega),e0,e1,e3]
 intro n
 induction n with
 | zero=>
  intro i j k h1 h2 h3 h4 h5 h6 h7;obtain ⟨k,rfl⟩:∃ j,k=j+1:=⟨k-1,by omega⟩;obtain rfl:i=j:=by omega
  exact ⟨i,h3,h5,h6,h7,fin i k h3 h5⟩
 | succ n ih=>
  intro i j k h1 h2 h3 h4 h5 h6 h7;obtain ⟨k,rfl⟩:∃ j,k=j+1:=⟨k-1,by omega⟩;by_cases c:i<j
  ·have hh:=Z09 (x:=i+j) (by omega) (by omega)
   obtain ⟨g1,g2⟩:=hg ((i+j)/2) (by omega) (by omega);have w1:i64.wrap ((i+j)/2+1)=(i+j)/2+1:=w64 (by omega) (by omega);have w2:i64.wrap (mid+m-1-(i+j)/2)=mid+m-1-(i+j)/2:=w64 (by omega) (by omega);simp only [Za.l5,if_pos c,e0,e1,e2,hh,w1,w2,if_pos g1,if_pos g2,hc _ _,Option.bind_some];by_cases d:key (rd ys (mid+m-1-(i+j)/2))<key (rd ys ((i+j)/2))
   ·rw [if_neg (λh=>h (Zlh.2 d))]
    exact ih _ _ k (by omega) (by omega) h3 (by omega) (by omega) h6 (λ_=>d)
   ·rw [if_pos (λh=>d (Zlh.1 h))]
    exact ih _ _ k (by omega) (by omega) (by omega) (by omega) h5 (λ_=>by rw [show (i+j)/2+1-1=(i+j)/2 by omega,show mid+m-((i+j)/2+1)=mid+m-1-(i+j)/2 by omega];exact d) h7
  ·obtain rfl:i=j:=by omega
   exact ⟨i,h3,h5,h6,h7,fin i k h3 h5⟩
theorem Zvz {Y:List Int} (h:Srt key Y):Vs key ([]++Y)=Y:=by rw [List.nil_append];exact Zh2 key h
theorem Zn8 (h:Srt key X):Vs key (X++[])=X:=by rw [List.append_nil];exact Zh2 key h
theorem Z2z (hc:Cmp t key):∀ (n:Nat) (P X Y Q:List Int) (k:Nat),X.length+Y.length<=n->n<k->0<X.length->0<Y.length->Srt key X->Srt key Y->P.length+X.length+Y.length+Q.length<=Zv->
  Za.f k (P.length:Int) ((P.length:Int)+X.length) ((P.length:Int)+X.length+Y.length) (P++(X++(Y++Q))) t=some (P++(Vs key (X++Y)++Q)):=by
 intro n
 induction n with
 | zero=>intro P X Y Q k h1 h2 h3;omega
 | succ n ih=>
  intro P X Y Q k h1 h2 h3 h4 hX hY hb;obtain ⟨k,rfl⟩:∃ j,k=j+1:=⟨k-1,by omega⟩;have hb':=hb;unfold Zv at hb';have w1:i64.wrap ((P.length:Int)+X.length-P.length)=X.length:=by rw [w64 (by omega) (by omega)];omega
  have w2:i64.wrap ((P.length:Int)+X.length+Y.length-((P.length:Int)+X.length))=Y.length:=by rw [w64 (by omega) (by omega)];omega
  simp only [Za.f,Za.b,w1,w2];by_cases c1:(X.length:Int)=1
  ·rw [if_pos c1]
   obtain ⟨u,rfl⟩:∃ u,X=[u]:=by
    cases X with
    | nil=>simp at h3
    | cons u X'=>exact ⟨u,by rw [List.eq_nil_of_length_eq_zero (l:=X') (by simp at c1;omega)]⟩
   have:=Zzj hc P Y Q u hY (by simp at hb;omega);simpa using this
  ·rw [if_neg c1]
   by_cases c2:(Y.length:Int)=1
   ·rw [if_pos c2]
    obtain ⟨v,rfl⟩:∃ v,Y=[v]:=by
     cases Y with
     | nil=>simp at h4
     | cons u X'=>exact ⟨u,by rw [List.eq_nil_of_length_eq_zero (l:=X') (by simp at c2;omega)]⟩
    have:=Z20 hc P X Q v hX (by simp at hb;omega);simpa using this
   ·rw [if_neg c2]
    obtain ⟨mid,hmid⟩:∃ mid:Int,mid=((P.length:Int)+((P.length:Int)+X.length+Y.length))/2:=⟨_,rfl⟩;have e0:=Z09 (x:=(P.length:Int)+((P.length:Int)+X.length+Y.length)) (by omega) (by omega);rw [<- hmid] at e0;have e1:i64.wrap (mid+((P.length:Int)+X.length))=mid+((P.length:Int)+X.length):=w64 (by omega) (by omega);have e2:i64.wrap (mid+((P.length:Int)+X.length)-((P.length:Int)+X.length+Y.length))=mid-Y.length:=by rw [w64 (by omega) (by omega)];omega
    simp only [e0,e1,e2,Za.j6];have hl:(P++(X++(Y++Q))).length=P.length+X.length+Y.length+Q.length:=by simp;omega
    have hs:∃ s,(P.length:Int)<=s/\s<=(P.length:Int)+X.length/\s<=mid/\mid-Y.length<=s/\
      ((P.length:Int)<s->mid-Y.length<s->¬ key (rd (P++(X++(Y++Q))) (mid+((P.length:Int)+X.length)-s))<key (rd (P++(X++(Y++Q))) (s-1)))/\
      (s<(P.length:Int)+X.length->s<mid->key (rd (P++(X++(Y++Q))) (mid+((P.length:Int)+X.length)-1-s))<key (rd (P++(X++(Y++Q))) s))/\
      (if mid<(P.length:Int)+X.length then Za.l5 K0 (Za.f k) (P++(X++(Y++Q))) t (P.length:Int) ((P.length:Int)+X.length) ((P.length:Int)+X.length+Y.length) (mid-Y.length) mid
       else Za.l5 K0 (Za.f k) (P++(X++(Y++Q))) t (P.length:Int) ((P.length:Int)+X.length) ((P.length:Int)+X.length+Y.length) (P.length:Int) ((P.length:Int)+X.length))=
      (if s<(P.length:Int)+X.length then Za.j5 (Za.f k) (P++(X++(Y++Q))) t (P.length:Int) ((P.length:Int)+X.length) ((P.length:Int)+X.length+Y.length) s (decide ((P.length:Int)+X.length<mid+((P.length:Int)+X.length)-s))
       else Za.j5 (Za.f k) (P++(X++(Y++Q))) t (P.length:Int) ((P.length:Int)+X.length) ((P.length:Int)+X.length+Y.length) s false):=by
     by_cases c3:mid<(P.length:Int)+X.length
     ·rw [if_pos c3]
      obtain ⟨s,s1,s2,s3,s4,s5⟩:=Z0b hc (Za.f k) (P++(X++(Y++Q))) (P.length:Int) ((P.length:Int)+X.length) ((P.length:Int)+X.length+Y.length) mid (mid-Y.length) mid (by omega) (by omega) ⟨by omega,by omega,by omega⟩ ⟨by omega,by omega⟩ hmid
       (λc hc1 hc2=>⟨⟨by omega,by omega⟩,by omega,by omega⟩) (by omega) (by omega) Zv (mid-Y.length) mid K0 (by unfold Zv;omega) (ltK (Nat.le_refl _)) (by omega) (by omega) (by omega) (λh=>by omega) (λh=>by omega)
      exact ⟨s,by omega,by omega,s2,s1,λ_ h=>s3 h,λ_ h=>s4 h,s5⟩
     ·rw [if_neg c3]
      obtain ⟨s,s1,s2,s3,s4,s5⟩:=Z0b hc (Za.f k) (P++(X++(Y++Q))) (P.length:Int) ((P.length:Int)+X.length) ((P.length:Int)+X.length+Y.length) mid (P.length:Int) ((P.length:Int)+X.length) (by omega) (by omega) ⟨by omega,by omega,by omega⟩ ⟨by omega,by omega⟩ hmid
       (λc hc1 hc2=>⟨⟨by omega,by omega⟩,by omega,by omega⟩) (by omega) (by omega) Zv (P.length:Int) ((P.length:Int)+X.length) K0 (by unfold Zv;omega) (ltK (Nat.le_refl _)) (by omega) (by omega) (by omega) (λh=>by omega) (λh=>by omega)
      exact ⟨s,s1,s2,by omega,by omega,λh _=>s3 h,λh _=>s4 h,s5⟩
    obtain ⟨s,s1,s2,s3,s4,s5,s6,s7⟩:=hs;rw [s7];clear s7;obtain ⟨X1,X2,rfl,hn⟩:=Zho X (s-P.length).toNat (by omega);obtain ⟨Y1,Y2,rfl,hn2⟩:=Zho Y (mid-s).toNat (by omega);have hxl:(X1++X2).length=X1.length+X2.length:=by simp
    have hyl:(Y1++Y2).length=Y1.length+Y2.length:=by simp
    have es:s=(P.length:Int)+X1.length:=by omega
    have em:mid=(P.length:Int)+X1.length+Y1.length:=by omega
    obtain ⟨hX1,hX2,_⟩:=Zaj key hX;obtain ⟨hY1,hY2,_⟩:=Zaj key hY;have q3:∀ u∈X2,∀ v∈Y1,key v<key u:=by
     intro u hu v hv
     rcases List.eq_nil_or_concat Y1 with rfl | ⟨A,w,rfl⟩
     ·cases hv
     cases X2 with
     | nil=>cases hu
     | cons x B=>
      rw [List.concat_eq_append] at*
      have hx':(x::B).length=B.length+1:=rfl;have ha':(A++[w]).length=A.length+1:=by simp
      have hlen:(P++(X1++x::B)++A).length=P.length+(X1++x::B).length+A.length:=by simp;omega
      have h6:=s6 (by omega) (by omega);have r1:rd (P++((X1++x::B)++(((A++[w])++Y2)++Q))) s=x:=by have:=Zem (A:=P++X1) (B:=B++(A++[w]++Y2++Q)) (x:=x) (i:=s) (by simp;omega);simpa using this
      have r2:rd (P++((X1++x::B)++(((A++[w])++Y2)++Q))) (mid+((P.length:Int)+((X1++x::B).length:Int))-1-s)=w:=by have:=Zem (A:=P++(X1++x::B)++A) (B:=Y2++Q) (x:=w) (i:=mid+((P.length:Int)+((X1++x::B).length:Int))-1-s) (by omega);simpa using this
      rw [r1,r2] at h6;have a1:key v<=key w:=by
       obtain ⟨_,_,h⟩:=Zaj key hY1
       rcases List.mem_append.1 hv with hv | hv
       ·exact h v hv w (by simp)
       ·rw [List.mem_singleton.1 hv];omega
      have a2:key x<=key u:=by
       rcases List.mem_cons.1 hu with rfl | hu
       ·omega
       ·exact hX2.1 u hu
      omega
    have q4:∀ u∈X1,∀ v∈Y2,key u<=key v:=by
     intro u hu v hv
     rcases List.eq_nil_or_concat X1 with rfl | ⟨A,w,rfl⟩
     ·cases hu
     cases Y2 with
     | nil=>cases hv
     | cons y B=>
      rw [List.concat_eq_append] at*
      have hy':(y::B).length=B.length+1:=rfl;have ha':(A++[w]).length=A.length+1:=by simp
      have hlen:(P++A).length=P.length+A.length:=by simp
      have hlen2:(P++((A++[w])++X2)++Y1).length=P.length+((A++[w])++X2).length+Y1.length:=by simp;omega
      have h5:=s5 (by omega) (by omega);have r1:rd (P++(((A++[w])++X2)++((Y1++y::B)++Q))) (s-1)=w:=by have:=Zem (A:=P++A) (B:=X2++(Y1++y::B++Q)) (x:=w) (i:=s-1) (by omega);simpa using this
      have r2:rd (P++(((A++[w])++X2)++((Y1++y::B)++Q))) (mid+((P.length:Int)+(((A++[w])++X2).length:Int))-s)=y:=by have:=Zem (A:=P++((A++[w])++X2)++Y1) (B:=B++Q) (x:=y) (i:=mid+((P.length:Int)+(((A++[w])++X2).length:Int))-s) (by omega);simpa using this
      rw [r1,r2] at h5;have a1:key u<=key w:=by
       obtain ⟨_,_,h⟩:=Zaj key hX1
       rcases List.mem_append.1 hu with hu | hu
       ·exact h u hu w (by simp)
       ·rw [List.mem_singleton.1 hu];omega
      have a2:key y<=key v:=by
       rcases List.mem_cons.1 hv with rfl | hv
       ·omega
       ·exact hY2.1 v hv
      omega
    have e3:i64.wrap (mid+((P.length:Int)+((X1++X2).length:Int))-s)=mid+X2.length:=by rw [w64 (by omega) (by omega)];omega
    have hj2:∀ Z:List Int,Z.length=X1.length+Y1.length->Za.j2 (Za.f k) t (P.length:Int) ((P.length:Int)+((X1++X2).length:Int)) ((P.length:Int)+((X1++X2).length:Int)+((Y1++Y2).length:Int)) s (P++(Z++(X2++(Y2++Q))))=some (P++(Z++(Vs key (X2++Y2)++Q))):=by
     intro Z hZ;simp only [Za.j2,Za.j1,e0,e1,e3];by_cases d1:mid<mid+X2.length
     ·rw [if_pos d1]
      by_cases d2:mid+X2.length<(P.length:Int)+((X1++X2).length:Int)+((Y1++Y2).length:Int)
      ·rw [decide_eq_true d2,if_pos rfl]
       have:=ih (P++Z) X2 Y2 Q k (by omega) (by omega) (by omega) (by omega) hX2 hY2 (by simp;omega);have f1:((P++Z).length:Int)=mid:=by simp;omega
       have f2:mid+(X2.length:Int)+Y2.length=(P.length:Int)+((X1++X2).length:Int)+((Y1++Y2).length:Int):=by omega
       rw [f1,f2] at this;have f3:P++(Z++(X2++(Y2++Q)))=P++Z++(X2++(Y2++Q)):=by simp
       rw [f3,this];simp
      ·rw [decide_eq_false d2]
       have:Y2=[]:=List.eq_nil_of_length_eq_zero (by omega);subst this;simp only [Bool.false_eq_true,if_false,Zn8 hX2,List.nil_append]
     ·rw [if_neg d1]
      have:X2=[]:=List.eq_nil_of_length_eq_zero (by omega);subst this;simp only [Bool.false_eq_true,if_false,List.nil_append,Zh2 key hY2]
    have hj4:Za.j4 (Za.f k) t (P.length:Int) ((P.length:Int)+((X1++X2).length:Int)) ((P.length:Int)+((X1++X2).length:Int)+((Y1++Y2).length:Int)) s (P++(X1++(Y1++(X2++(Y2++Q)))))=some (P++(Vs key (X1++Y1)++(Vs key (X2++Y2)++Q))):=by
     have hz:=hj2 (Vs key (X1++Y1)) (by rw [Zci];simp);simp only [Za.j4,Za.j3,e0];by_cases d1:(P.length:Int)<s
     ·rw [if_pos d1]
      by_cases d2:s<mid
      ·rw [decide_eq_true d2,if_pos rfl]
       have:=ih P X1 Y1 (X2++(Y2++Q)) k (by omega) (by omega) (by omega) (by omega) hX1 hY1 (by simp;omega);rw [<- es,show s+(Y1.length:Int)=mid by omega] at this;rw [this,Option.bind_some,hz]
      ·rw [decide_eq_false d2]
       have:Y1=[]:=List.eq_nil_of_length_eq_zero (by omega);subst this;rw [Zn8 hX1] at hz ⊢;simp only [Bool.false_eq_true,if_false,List.nil_append] at hz ⊢;exact hz
     ·rw [if_neg d1]
      have:X1=[]:=List.eq_nil_of_length_eq_zero (by omega);subst this;rw [Zvz hY1] at hz ⊢;simp only [Bool.false_eq_true,if_false,List.nil_append] at hz ⊢;exact hz
    have goal:P++(Vs key ((X1++X2)++(Y1++Y2))++Q)=P++(Vs key (X1++Y1)++(Vs key (X2++Y2)++Q)):=by rw [Ztn key hX hY q3 q4];simp
    rw [goal,<- hj4];have f4:P++((X1++X2)++((Y1++Y2)++Q))=P++(X1++(X2++(Y1++(Y2++Q)))):=by simp
    rw [f4];have f5:mid+((P.length:Int)+((X1++X2).length:Int))-s=mid+X2.length:=by omega
    rw [f5];by_cases d1:s<(P.length:Int)+((X1++X2).length:Int)
    ·rw [if_pos d1]
     by_cases d2:(P.length:Int)+((X1++X2).length:Int)<mid+X2.length
     ·rw [decide_eq_true d2]
      simp only [Za.j5,if_true,e0,e1,e3];have:=Z68 (t:=t) (P++X1) X2 Y1 (Y2++Q) (by omega) (by omega) (by simp;omega);have f1:((P++X1).length:Int)=s:=by simp;omega
      have f2:s+(X2.length:Int)=(P.length:Int)+((X1++X2).length:Int):=by omega
      have f3:(P.length:Int)+((X1++X2).length:Int)+(Y1.length:Int)=mid+X2.length:=by omega
      rw [f1,f2,f3] at this;have f6:P++(X1++(X2++(Y1++(Y2++Q))))=P++X1++(X2++(Y1++(Y2++Q))):=by simp
      rw [f6,this,Option.bind_some];simp
     ·rw [decide_eq_false d2]
      have:Y1=[]:=List.eq_nil_of_length_eq_zero (by omega);subst this;simp only [Za.j5,Bool.false_eq_true,if_false,List.nil_append]
    ·rw [if_neg d1]
     have:X2=[]:=List.eq_nil_of_length_eq_zero (by omega);subst this;simp only [Za.j5,Bool.false_eq_true,if_false,List.nil_append]
end
end
section
section
variable {t:Option Tbs} {key:Int->Int}
def Zsa (key:Int->Int) (n:Nat) (Bs:List (List Int)):Prop:=∀ B∈Bs,Srt key B/\B.length=n
theorem Zmt:∀ {Bs:List (List Int)},Zsa key n Bs->Bs.flatten.length=Bs.length*n
 | [],_=>by simp
 | B::Bs,h=>by
  have h1:=(h B (by simp)).2
  have h2:=Zmt (Bs:=Bs) (λC hC=>h C (by simp [hC]))
  simp [h1,h2,Nat.add_mul];omega
theorem Z4s (hc:Cmp t key) (go:List Int->Int->Option (List Int)) (bs N:Nat) (h0:0<bs):∀ (n:Nat) (Bs:List (List Int)) (D E:List Int) (k:Nat),Bs.length<=n->n<k->Zsa key bs Bs->Srt key E->E.length<bs->D.length+Bs.flatten.length+E.length=N->N<=Zv->bs<N->
  ∃ Cs E',Zsa key (2*bs) Cs/\Srt key E'/\E'.length<2*bs/\Feq key (Cs.flatten++E') (Bs.flatten++E)/\(Cs.flatten++E').length=(Bs.flatten++E).length/\
   Zi.l1 go k t (N:Int) (bs:Int) (D++(Bs.flatten++E)) (D.length:Int) ((D.length:Int)+2*bs)=go (D++(Cs.flatten++E')) (2*(bs:Int)):=by
 intro n
 induction n with
 | zero=>
  intro Bs D E k h1 hk hB hE hl hN hb hbs;obtain ⟨k,rfl⟩:∃ j,k=j+1:=⟨k-1,by omega⟩;obtain rfl:=List.eq_nil_of_length_eq_zero (Nat.le_zero.1 h1);unfold Zv at hb;simp only [List.flatten_nil,List.length_nil,Nat.add_zero] at hN;refine ⟨[],E,λC hC=>(by cases hC),hE,by omega,Feq.refl key _,rfl,?_⟩;have w1:i64.wrap ((D.length:Int)+bs)=(D.length:Int)+bs:=w64 (by omega) (by omega);have w2:i64.wrap ((bs:Int)*2)=2*(bs:Int):=by rw [w64 (by omega) (by omega)];omega
  simp only [Zi.l1,if_neg (show ¬ (D.length:Int)+2*bs<=(N:Int) by omega),w1,if_neg (show ¬ (D.length:Int)+bs<(N:Int) by omega),Zi.j1,w2]
 | succ n ih=>
  intro Bs D E k h1 hk hB hE hl hN hb hbs;obtain ⟨k,rfl⟩:∃ j,k=j+1:=⟨k-1,by omega⟩;have hb':=hb;unfold Zv at hb';have w2:i64.wrap ((bs:Int)*2)=2*(bs:Int):=by rw [w64 (by omega) (by omega)];omega
  match Bs,h1,hB,hN with
  | [],h1,hB,hN=>
   simp only [List.flatten_nil,List.length_nil,Nat.add_zero] at hN;refine ⟨[],E,λC hC=>(by cases hC),hE,by omega,Feq.refl key _,rfl,?_⟩;have w1:i64.wrap ((D.length:Int)+bs)=(D.length:Int)+bs:=w64 (by omega) (by omega);simp only [Zi.l1,if_neg (show ¬ (D.length:Int)+2*bs<=(N:Int) by omega),w1,if_neg (show ¬ (D.length:Int)+bs<(N:Int) by omega),Zi.j1,w2]
  | [B],h1,hB,hN=>
   obtain ⟨hBs,hBl⟩:=hB B (by simp);simp only [List.flatten_cons,List.flatten_nil,List.append_nil] at hN;have w1:i64.wrap ((D.length:Int)+bs)=(D.length:Int)+bs:=w64 (by omega) (by omega);simp only [Zi.l1,if_neg (show ¬ (D.length:Int)+2*bs<=(N:Int) by omega),w1,Zi.j1,w2,List.flatten_cons,List.flatten_nil,List.append_nil];by_cases c:(D.length:Int)+bs<(N:Int)
   ·rw [if_pos c]
    have:=Z2z hc (B.length+E.length) D B E [] K0 (Nat.le_refl _) (ltK (by unfold Zv;omega)) (by omega) (by omega) hBs hE (by simp;omega);rw [hBl] at this;have e1:(D.length:Int)+(bs:Int)+E.length=(N:Int):=by omega
    rw [e1] at this;simp only [List.append_nil] at this;rw [this,Option.bind_some];exact ⟨[],Vs key (B++E),λC hC=>(by cases hC),Zc5 key _,by rw [Zci];simp;omega,by simpa using Zcg key (B++E),by simp [Zci],rfl⟩
   ·rw [if_neg c]
    obtain rfl:=List.eq_nil_of_length_eq_zero (show E.length=0 by omega);exact ⟨[],B,λC hC=>(by cases hC),hBs,by omega,by simpa using Feq.refl key B,by simp,by simp⟩
  | B1::B2::Bs,h1,hB,hN=>
   obtain ⟨hs1,hl1⟩:=hB B1 (by simp);obtain ⟨hs2,hl2⟩:=hB B2 (by simp);have hBs:Zsa key bs Bs:=λC hC=>hB C (by simp [hC]);simp only [List.flatten_cons,List.length_append] at hN;have w1:i64.wrap ((D.length:Int)+bs)=(D.length:Int)+bs:=w64 (by omega) (by omega);have w3:i64.wrap (2*(bs:Int))=2*(bs:Int):=w64 (by omega) (by omega);have w4:i64.wrap ((D.length:Int)+2*bs+2*bs)=(D.length:Int)+2*bs+2*bs:=w64 (by omega) (by omega);have:=Z2z hc (B1.length+B2.length) D B1 B2 (Bs.flatten++E) K0 (Nat.le_refl _) (ltK (by unfold Zv;omega)) (by omega) (by omega) hs1 hs2 (by rw [List.length_append];omega);rw [hl1,hl2] at this;have e1:(D.length:Int)+(bs:Int)+bs=(D.length:Int)+2*bs:=by omega
   rw [e1] at this;have e2:D++((B1::B2::Bs).flatten++E)=D++(B1++(B2++(Bs.flatten++E))):=by simp
   simp only [Zi.l1,if_pos (show (D.length:Int)+2*bs<=(N:Int) by omega),w1,w3,w4,e2,this,Option.bind_some];have hsl:(Vs key (B1++B2)).length=2*bs:=by rw [Zci];simp;omega
   obtain ⟨Cs,E',c1,c2,c3,c4,c5,c6⟩:=ih Bs (D++Vs key (B1++B2)) E k (by simp at h1;omega) (by omega) hBs hE hl (by rw [List.length_append,hsl];omega) hb hbs;have e3:((D++Vs key (B1++B2)).length:Int)=(D.length:Int)+2*bs:=by simp [hsl]
   rw [e3] at c6;have e4:D++(Vs key (B1++B2)++(Bs.flatten++E))=D++Vs key (B1++B2)++(Bs.flatten++E):=by simp
   rw [e4,c6];refine ⟨Vs key (B1++B2)::Cs,E',λC hC=>?_,c2,c3,?_,?_,by simp⟩
   ·rcases List.mem_cons.1 hC with rfl | hC
    ·exact ⟨Zc5 key _,hsl⟩
    ·exact c1 C hC
   ·have:=Feq.app key (Zcg key (B1++B2)) c4
    simpa using this
   ·simp only [List.flatten_cons,List.length_append] at c5 ⊢
    omega
theorem Zyy (hc:Cmp t key) (N:Nat) (hb:N<=Zv):∀ (n bs:Nat) (Bs:List (List Int)) (E:List Int) (k:Nat),0<bs->N-bs<=n->n<k->Zsa key bs Bs->Srt key E->E.length<bs->(Bs.flatten++E).length=N->
  Zi.l2 k t (N:Int) (Bs.flatten++E) (bs:Int)=some (Vs key (Bs.flatten++E)):=by
 intro n;have hb':=hb;unfold Zv at hb';have fin:∀ (bs:Nat) (Bs:List (List Int)) (E:List Int),0<bs->N<=bs->Zsa key bs Bs->Srt key E->E.length<bs->(Bs.flatten++E).length=N->Srt key (Bs.flatten++E):=by
  intro bs Bs E h0 h1 hB hE hl hN;have:=Zmt hB;simp only [List.length_append] at hN
  match Bs,hB,this with
  | [],_,_=>simpa using hE
  | [B],hB,this=>
   have e:=(hB B (by simp)).2;simp at this hN;obtain rfl:=List.eq_nil_of_length_eq_zero (show E.length=0 by omega);simpa using (hB B (by simp)).1
  | B1::B2::Bs,hB,this=>
   simp only [List.length_cons] at this;rw [Nat.add_mul,Nat.add_mul] at this;omega
 induction n with
 | zero=>
  intro bs Bs E k h0 h1 hk hB hE hl hN;obtain ⟨k,rfl⟩:∃ j,k=j+1:=⟨k-1,by omega⟩;simp only [Zi.l2,if_neg (show ¬ (bs:Int)<(N:Int) by omega),Zh2 key (fin bs Bs E h0 (by omega) hB hE hl hN)]
 | succ n ih=>
  intro bs Bs E k h0 h1 hk hB hE hl hN;obtain ⟨k,rfl⟩:∃ j,k=j+1:=⟨k-1,by omega⟩;by_cases c:(bs:Int)<(N:Int)
  ·have w3:i64.wrap (2*(bs:Int))=2*(bs:Int):=w64 (by omega) (by omega)
   have hfl:=Zmt hB;have hBl:Bs.length<=N:=by simp only [List.length_append] at hN;have:Bs.length*1<=Bs.length*bs:=Nat.mul_le_mul_left _ h0;omega
   obtain ⟨Cs,E',c1,c2,c3,c4,c5,c6⟩:=Z4s hc (Zi.l2 k t (N:Int)) bs N h0 N Bs [] E K0 hBl (ltK hb) hB hE hl (by simpa using hN) hb (by omega);simp only [List.length_nil,List.nil_append] at c6;have e1:((0:Nat):Int)+2*(bs:Int)=2*bs:=by omega
   rw [e1] at c6;simp only [Zi.l2,if_pos c,w3];have e2:((0:Nat):Int)=0:=rfl;rw [e2] at c6;rw [c6];have:=ih (2*bs) Cs E' k (by omega) (by omega) (by omega) c1 c2 c3 (by rw [c5,hN]);have e3:((2*bs:Nat):Int)=2*(bs:Int):=by omega
   rw [e3] at this;rw [this,Zn7 key c4]
  ·simp only [Zi.l2,if_neg c,Zh2 key (fin bs Bs E h0 (by omega) hB hE hl hN)]
theorem Zux (hc:Cmp t key) (N:Nat) (hb:N<=Zv):∀ (n:Nat) (R D:List Int) (k:Nat),R.length<=n->n<k->D.length+R.length=N->
  ∃ Bs E,Zsa key 20 Bs/\Srt key E/\E.length<20/\Feq key (Bs.flatten++E) R/\(Bs.flatten++E).length=R.length/\
   Zi.l3 k t (N:Int) (D++R) (D.length:Int) ((D.length:Int)+20)=Zi.l2 K0 t (N:Int) (D++(Bs.flatten++E)) 20:=by
 intro n;have hb':=hb;unfold Zv at hb';have fin:∀ (R D:List Int) (k:Nat),D.length+R.length=N->R.length<20->∃ Bs E,Zsa key 20 Bs/\Srt key E/\E.length<20/\Feq key (Bs.flatten++E) R/\(Bs.flatten++E).length=R.length/\
   Zi.l3 (k+1) t (N:Int) (D++R) (D.length:Int) ((D.length:Int)+20)=Zi.l2 K0 t (N:Int) (D++(Bs.flatten++E)) 20:=by
  intro R D k hN hR;have:=Z1d hc D R [] (by simp;omega);have e1:(D.length:Int)+R.length=(N:Int):=by omega
  rw [e1] at this;simp only [List.append_nil] at this;refine ⟨[],Vs key R,λC hC=>(by cases hC),Zc5 key _,by rw [Zci];omega,by simpa using Zcg key R,by simp [Zci],?_⟩;simp only [Zi.l3,if_neg (show ¬ (D.length:Int)+20<=(N:Int) by omega),this,Option.bind_some,List.flatten_nil,List.nil_append]
 induction n with
 | zero=>
  intro R D k h1 hk hN;obtain ⟨k,rfl⟩:∃ j,k=j+1:=⟨k-1,by omega⟩;exact fin R D k hN (by omega)
 | succ n ih=>
  intro R D k h1 hk hN;obtain ⟨k,rfl⟩:∃ j,k=j+1:=⟨k-1,by omega⟩;by_cases c:R.length<20
  ·exact fin R D k hN c
  ·obtain ⟨B,R,rfl,hB⟩:=Zho R 20 (by omega)
   have hrl:(B++R).length=B.length+R.length:=by simp
   have:=Z1d hc D B R (by omega);rw [hB] at this;have w1:i64.wrap ((D.length:Int)+20+20)=(D.length:Int)+20+20:=w64 (by omega) (by omega);have e0:((20:Nat):Int)=20:=rfl;rw [e0] at this;simp only [Zi.l3,if_pos (show (D.length:Int)+20<=(N:Int) by omega),this,Option.bind_some,w1];have hsl:(Vs key B).length=20:=by rw [Zci];exact hB
   have hdl:(D++Vs key B).length=D.length+20:=by simp [hsl]
   obtain ⟨Bs,E,c1,c2,c3,c4,c5,c6⟩:=ih R (D++Vs key B) k (by omega) (by omega) (by omega);have e3:((D++Vs key B).length:Int)=(D.length:Int)+20:=by omega
   rw [e3] at c6;have e4:D++(Vs key B++R)=D++Vs key B++R:=by simp
   rw [e4,c6];refine ⟨Vs key B::Bs,E,λC hC=>?_,c2,c3,?_,?_,by simp⟩
   ·rcases List.mem_cons.1 hC with rfl | hC
    ·exact ⟨Zc5 key _,hsl⟩
    ·exact c1 C hC
   ·have:=Feq.app key (Zcg key B) c4
    simpa using this
   ·simp only [List.flatten_cons,List.length_append] at c5 ⊢
    omega
theorem Z8g (hc:Cmp t key) (ys:List Int) (hb:ys.length<=Zv):Q5.f ys t=some (Vs key ys):=by
 unfold Q5.f Zi.f;obtain ⟨Bs,E,c1,c2,c3,c4,c5,c6⟩:=Zux hc ys.length hb ys.length ys [] K0 (Nat.le_refl _) (ltK hb) (by simp);simp only [List.length_nil,List.nil_append] at c6;have e1:((0:Nat):Int)+20=20:=rfl;have e2:((0:Nat):Int)=0:=rfl;rw [e1,e2] at c6;rw [c6];have:=Zyy hc ys.length hb ys.length 20 Bs E K0 (by omega) (by omega) (ltK hb) c1 c2 c3 c5;have e3:((20:Nat):Int)=20:=rfl;rw [e3] at this;rw [this,Option.bind_some,Zn7 key c4]
def Cls (t:Option Tbs) (key:Int->Int):Prop:=∀ p,Kk.f t p=some (key p)
theorem Cls.cmp (h:Cls t key):Cmp t key:=by
 intro a b;simp only [Jz.f,h a,h b,Option.bind_some,Zbd.f,Zas.f,ne_eq,not_true_eq_false,decide_false,Bool.false_eq_true,if_false,cI];by_cases c:key a<key b
 ·simp [c]
 ·simp only [if_neg c]
  by_cases d:key b<key a
  ·simp [d]
  ·simp [d]
theorem Z2p (h:Cls t key) (go:List Int->Int->Option (List Int)) (A:List Int):∀ (R S:List Int) (k:Nat),R.length<k->(∀ x∈S,key x≠0)->A.length+S.length+R.length<=Zv->
  ∃ S' R',S++R=S'++R'/\(∀ x∈S',key x≠0)/\(∀ x B,R'=x::B->key x=0)/\
   Xu.l1 go k t (A++(S++R)) (A.length:Int) ((A.length:Int)+S.length)=go (A++(Vs key S'++R')) ((A.length:Int)+S'.length+1):=by
 have done:∀ (S R:List Int) (r:Option (List Int)) (go':Int->Option (List Int)),A.length+S.length+R.length<=Zv->Xu.j1 go go' t (A++(S++R)) (A.length:Int) ((A.length:Int)+S.length) false=go (A++(Vs key S++R)) ((A.length:Int)+S.length+1):=by
  intro S R _ go' hb;have hb':=hb;unfold Zv at hb';have hl:(A++(S++R)).length=A.length+S.length+R.length:=by simp;omega
  have e1:sub (A++(S++R)) (A.length:Int) ((A.length:Int)+S.length)=S:=by
   have:((A.length:Int)+S.length).toNat=A.length+S.length:=by omega
   simp [sub,this,List.take_append]
  have e2:(A++(S++R)).take (A.length:Int).toNat=A:=by simp
  have e3:(A++(S++R)).drop ((A.length:Int)+S.length).toNat=R:=by
   have:((A.length:Int)+S.length).toNat=A.length+S.length:=by omega
   rw [this,<- List.append_assoc,List.drop_append_of_le_length (by simp)];simp
  simp only [Xu.j1,Bool.false_eq_true,if_false,hl,if_pos (show (0:Int)<=(A.length:Int)/\(A.length:Int)<=(A.length:Int)+S.length/\(A.length:Int)+(S.length:Int)<=((A.length+S.length+R.length:Nat):Int) by omega),e1,e2,e3,
   Z8g h.cmp S (by unfold Zv;omega),Option.bind_some,w64 (x:=(A.length:Int)+S.length+1) (by omega) (by omega)]
 intro R
 induction R with
 | nil=>
  intro S k hk hS hb;obtain ⟨k,rfl⟩:∃ j,k=j+1:=⟨k-1,by omega⟩;refine ⟨S,[],rfl,hS,λx B e=>(by cases e),?_⟩;have hl:(A++(S++[])).length=A.length+S.length:=by simp
  simp only [Xu.l1,hl,if_neg (show ¬ (A.length:Int)+S.length<((A.length+S.length:Nat):Int) by omega)];exact done S [] none _ hb
 | cons x R ih=>
  intro S k hk hS hb;obtain ⟨k,rfl⟩:∃ j,k=j+1:=⟨k-1,by omega⟩;have hb':=hb;unfold Zv at hb';simp only [List.length_cons] at hk hb';have hl:(A++(S++x::R)).length=A.length+S.length+R.length+1:=by simp;omega
  have r1:rd (A++(S++x::R)) ((A.length:Int)+S.length)=x:=by have:=Zem (A:=A++S) (B:=R) (x:=x) (i:=(A.length:Int)+S.length) (by simp);simpa using this
  have g1:(0:Int)<=(A.length:Int)+S.length/\(A.length:Int)+(S.length:Int)<((A.length+S.length+R.length+1:Nat):Int):=by omega
  simp only [Xu.l1,hl,if_pos g1.2,if_pos g1,r1,h x,Option.bind_some];by_cases c:key x=0
  ·have:decide (key x≠0)=false:=by simp [c]
   rw [this];refine ⟨S,x::R,rfl,hS,λy B e=>?_,done S (x::R) none _ hb⟩;cases e;exact c
  ·have:decide (key x≠0)=true:=by simp [c]
   rw [this];simp only [Xu.j1,if_true,w64 (x:=(A.length:Int)+S.length+1) (by omega) (by omega)];obtain ⟨S',R',q1,q2,q3,q4⟩:=ih (S++[x]) k (by omega) (λy hy=>by
    rcases List.mem_append.1 hy with hy | hy
    ·exact hS y hy
    ·rw [List.mem_singleton.1 hy];exact c) (by simp at hb ⊢;omega)
   have e1:(A.length:Int)+((S++[x]).length:Int)=(A.length:Int)+S.length+1:=by simp;omega
   rw [e1] at q4;have e2:A++(S++x::R)=A++(S++[x]++R):=by simp
   rw [e2,q4];exact ⟨S',R',by rw [<- q1];simp,q2,q3,rfl⟩
theorem Z12 (h:Cls t key):∀ (n:Nat) (R A:List Int) (k:Nat),R.length<=n->n+1<k->A.length+R.length<=Zv->
  Xu.l2 k t (A++R) (A.length:Int)=some (A++Zk0 key R):=by
 intro n
 induction n with
 | zero=>
  intro R A k h1 hk hb;obtain ⟨k,rfl⟩:∃ j,k=j+1:=⟨k-1,by omega⟩;obtain rfl:=List.eq_nil_of_length_eq_zero (Nat.le_zero.1 h1);simp only [Xu.l2,List.append_nil,if_neg (show ¬ (A.length:Int)<(A.length:Int) by omega)];simp [Zk0,Zkz,Vs]
 | succ n ih=>
  intro R A k h1 hk hb;obtain ⟨k,rfl⟩:∃ j,k=j+1:=⟨k-1,by omega⟩;have hb':=hb;unfold Zv at hb';by_cases c:R.length=0
  ·obtain rfl:=List.eq_nil_of_length_eq_zero c
   simp only [Xu.l2,List.append_nil,if_neg (show ¬ (A.length:Int)<(A.length:Int) by omega)];simp [Zk0,Zkz,Vs]
  ·have hl:(A++R).length=A.length+R.length:=by simp
   simp only [Xu.l2,hl,if_pos (show (A.length:Int)<((A.length+R.length:Nat):Int) by omega)];obtain ⟨S,R',q1,q2,q3,q4⟩:=Z2p h (Xu.l2 k t) A R [] K0 (ltK (by unfold Zv;omega)) (λx hx=>(by cases hx)) (by simpa using hb);simp only [List.nil_append] at q1 q4;have e1:(A.length:Int)+(([]:List Int).length:Int)=(A.length:Int):=by simp
   rw [e1] at q4;rw [q4];subst q1
   cases R' with
   | nil=>
    obtain ⟨k,rfl⟩:∃ j,k=j+1:=⟨k-1,by omega⟩;have hl2:(A++(Vs key S++[])).length=A.length+S.length:=by simp [Zci]
    simp only [Xu.l2,hl2,if_neg (show ¬ (A.length:Int)+S.length+1<((A.length+S.length:Nat):Int) by omega)];have:=Znu key S [] [] q2;simp only [List.append_nil,List.nil_append] at this;simp only [Zk0,List.append_nil,this,Zkz]
   | cons x B=>
    have hx:=q3 x B rfl;have:=ih B (A++(Vs key S++[x])) k (by simp at h1;omega) (by omega) (by simp [Zci] at hb ⊢;omega);have e2:((A++(Vs key S++[x])).length:Int)=(A.length:Int)+S.length+1:=by simp [Zci];omega
    rw [e2] at this;have e3:A++(Vs key S++x::B)=A++(Vs key S++[x])++B:=by simp
    rw [e3,this];have h2:=Znu key S [] (x::B) q2;simp only [List.nil_append] at h2;simp only [Zk0,h2,Zkz,if_pos hx];simp
theorem Z11 (h:Cls t key) (l:List Int) (hb:l.length<=Zv):Xu.f t l=some (Zk0 key l):=by
 have hcl:Xj.f l=some l:=by rw [Xj.f,if_pos (by unfold Zv at hb;unfold most;simp;omega)];rfl
 unfold Xu.f;rw [hcl,Option.bind_some];have:=Z12 h l.length l [] K0 (Nat.le_refl _) (by unfold Zv at hb;unfold K0;omega) (by simpa using hb);simpa using this
end
end
def Zar (lo hi:Int):Bool:=(decide (lo<=4370)&&decide (4352<=hi))||(decide (lo<=4469)&&decide (4449<=hi))||(decide (lo<=4546)&&decide (4520<=hi))||(decide (lo<=55203)&&decide (44032<=hi))
def Zm7 (p:Int):Bool:=(decide (4352<=p)&&decide (p<=4370))||(decide (4449<=p)&&decide (p<=4469))||(decide (4520<=p)&&decide (p<=4546))||(decide (44032<=p)&&decide (p<=55203))
def Zfd (p:Int):Bool:=(decide (0<=p)&&decide (p<55296))||(decide (57343<p)&&decide (p<=1114111))
theorem Zlr (lo hi:Int):Xg.f lo hi=some (Zar lo hi):=by
 unfold Xg.f Zar;simp only [Xg.j1];repeat' split
 all_goals (simp [*]<;>try omega)
theorem Zvm (p:Int):X3.f p=some (Zm7 p):=by
 unfold X3.f Zm7;simp only [X3.j1];repeat' split
 all_goals (simp [*]<;>try omega)
theorem Zn2 (p:Int):Vo.f p=some (Zfd p):=by
 unfold Vo.f Zfd;simp only [Vo.j1];repeat' split
 all_goals (simp [*]<;>try omega)
theorem Zt4 (p:Int):Vk.f p=some (!Zfd p):=by
 unfold Vk.f Zfd;simp only [Vk.j1];by_cases a:p<0
 ·simp [a,show ¬ 0<=p by omega,show ¬ 57343<p by omega]
 ·by_cases b:1114111<p
  ·simp [a,b,show ¬ p<55296 by omega,show ¬ p<=1114111 by omega]
  ·by_cases c:55296<=p
   ·by_cases d:p<=57343
    ·simp [a,b,c,d,show ¬ p<55296 by omega,show ¬ 57343<p by omega]
    ·simp [a,b,c,d,show ¬ p<55296 by omega,show 57343<p by omega,show p<=1114111 by omega]
   ·simp [a,b,c,show 0<=p by omega,show p<55296 by omega]
theorem Ztd (l:List Int) (hl:l.length<=Zv):∃ r,Xc.f l=some r/\Zbx r (l.all Zfd):=by
 refine Qe (λk i (_:Unit)=>Xc.l1 k l i) l (λpre t _ o=>∃ r,o=some r/\Zbx r (t.all Zfd)) ?_ ?_ () K0 (ltK hl)
 ·intro _ k
  exact ⟨-1,by simp only [Xc.l1,if_neg (show ¬ (l.length:Int)<(l.length:Int) by omega)],.inl ⟨rfl,rfl⟩⟩
 ·intro pre x t _ k e ih
  obtain ⟨h1,h2⟩:=mid e;simp only [Xc.l1,if_pos h2.2,if_pos h2,h1,Zt4,Option.bind_some,nxt hl e,List.all_cons]
  cases c:Zfd x with
  | false=>exact ⟨pre.length,by simp,.inr ⟨by simp,by omega⟩⟩
  | true=>simpa using ih ()
def H3 (l:List Int) (a b:Int):Bool:=decide (a<=(l.length:Int))&&decide ((l.length:Int)<=b)&&l.all Zfd
theorem Zfe (l:List Int) (a b:Int) (hb:b<=1000):Ks.f l a b=some (H3 l a b):=by
 unfold Ks.f H3;by_cases h1:a<=(l.length:Int)
 ·by_cases h2:(l.length:Int)<=b
  ·obtain ⟨r,h3,h4⟩:=Ztd l (by unfold Zv;omega)
   simp only [if_pos h1,if_pos h2,K4.f,h3,Option.bind_some,h4.val,Ks.j1,Bool.not_not];simp [h1,h2]
  ·simp [h1,h2,Ks.j1]
 ·simp [h1,Ks.j1]
theorem Zte (lo hi:Int) (l:List Spn) (hl:l.length<=Zv):∃ r,Yl.f l lo hi=some r/\Zbx r (!l.any λh=>decide (lo<=h.hi)&&decide (h.lo<=hi)):=by
 refine Qe (λk i (_:Unit)=>Yl.l1 k lo hi l i) l (λpre t _ o=>∃ r,o=some r/\Zbx r (!t.any λh=>decide (lo<=h.hi)&&decide (h.lo<=hi))) ?_ ?_ () K0 (ltK hl)
 ·intro _ k
  exact ⟨-1,by simp only [Yl.l1,if_neg (show ¬ (l.length:Int)<(l.length:Int) by omega)],.inl ⟨rfl,rfl⟩⟩
 ·intro pre x t _ k e ih
  obtain ⟨h1,h2⟩:=mid e;simp only [Yl.l1,if_pos h2.2,if_pos h2,h1,J3.f,J3.j1,nxt hl e,List.any_cons];by_cases c1:lo<=x.hi
  ·by_cases c2:x.lo<=hi
   ·exact ⟨pre.length,by simp [c1,c2],.inr ⟨by simp [c1,c2],by omega⟩⟩
   ·simpa [c1,c2] using ih ()
  ·simpa [c1] using ih ()
theorem Zv1 (s:Spn):Zb9.f s=some (Zar s.lo s.hi):=by
 unfold Zb9.f Zdp.f;simp only [Option.bind_some,Qx.f];obtain ⟨r,h1,h2⟩:=Zte s.lo s.hi [⟨4352,4370⟩,⟨4449,4469⟩,⟨4520,4546⟩,⟨44032,55203⟩] (by decide);rw [h1];simp only [Option.bind_some,h2.val,Bool.not_not];congr 1;exact (show ∀ a b c d:Bool,(a||(b||(c||(d||false))))=(a||b||c||d) by decide) _ _ _ _
theorem Zpf (s:Spn):Zbj.f s=some true:=rfl
theorem Zko (s:Spn):Hn.f s=some (!Zar s.lo s.hi):=by
 unfold Hn.f;rw [Zv1,Option.bind_some]
theorem Zyc (x:Chs):Zb8.f x=some (H3 x.is_ 1 18):=by
 unfold Zb8.f;rw [Zfe x.is_ 1 18 (by decide),Option.bind_some]
theorem Zv3 (x:Val) (a b:Int):Kt.f x a b=some (decide (a<=x.n)&&decide (x.n<=b)):=by
 unfold Kt.f;simp only [Kt.j1,Uj.f,Zpf,Option.bind_some];by_cases h1:a<=x.n
 ·by_cases h2:x.n<=b<;>simp [h1,h2]
 ·simp [h1]
theorem Zv4 (x:Val) (a b:Int):Ku.f x a b=some (decide (a<=x.n)&&decide (x.n<=b)&&!Zar x.lo x.hi):=by
 unfold Ku.f;simp only [Ku.j1,Uj.f,Zko,Option.bind_some];by_cases h1:a<=x.n
 ·by_cases h2:x.n<=b<;>simp [h1,h2]
 ·simp [h1]
def Zcn (x:Chs):Bool:=decide (x.lo=x.hi)&&H3 [x.lo] 1 1&&H3 x.is_ 1 2&&!Zar x.lo x.hi
theorem Zyd (x:Chs):Q7.f x=some (Zcn x):=by
 unfold Q7.f Zcn;simp only [Q7.j1,Vn.f,Zko,Option.bind_some,Zfe [x.lo] 1 1 (by decide),Zfe x.is_ 1 2 (by decide)];by_cases h1:x.lo=x.hi
 ·rw [if_pos h1,decide_eq_true h1]
  cases h2:H3 [x.lo] 1 1<;>cases h3:H3 x.is_ 1 2<;>simp
 ·rw [if_neg h1,decide_eq_false h1];simp
def Zav {α:Type} (lo hi:α->Int) (may:α->Bool) (l:List α):Bool:=decide (l.length<=65536)&&Vu lo hi may (-1) l
theorem Zj6 (a b:Int) (l:List Val):∃ r,Zz.f l a b=some r/\Zbx r (Zav (·.lo) (·.hi) (λx:Val=>decide (a<=x.n)&&decide (x.n<=b)) l):=by
 unfold Zz.f Zav;by_cases h:(65536:Int)<l.length
 ·exact ⟨65536,by rw [if_pos h],.inr ⟨by simp [show ¬ l.length<=65536 by omega],by decide⟩⟩
 ·rw [if_neg h]
  have hl:l.length<=Zv:=by unfold Zv;omega
  simp only [show l.length<=65536 by omega,decide_true,Bool.true_and];refine Qe (λk i last=>Zz.l1 k a b l last i) l (λpre t last o=>∃ r,o=some r/\Zbx r (Vu (·.lo) (·.hi) (λx:Val=>decide (a<=x.n)&&decide (x.n<=b)) last t)) ?_ ?_ (-1) K0 (ltK hl)
  ·intro last k
   exact ⟨-1,by simp only [Zz.l1,if_neg (show ¬ (l.length:Int)<(l.length:Int) by omega)],.inl ⟨rfl,rfl⟩⟩
  ·intro pre x t last k e ih
   obtain ⟨h1,h2⟩:=mid e;simp only [Zz.l1,if_pos h2.2,if_pos h2,h1,Uj.f,Option.bind_some,Zv3,Zz.j1,nxt hl e];by_cases c1:x.lo<=last
   ·exact ⟨pre.length,by simp [c1],.inr ⟨Q8 (.inl c1),by omega⟩⟩
   ·by_cases c2:x.hi<x.lo
    ·exact ⟨pre.length,by simp [c1,c2],.inr ⟨Q8 (.inr (.inl c2)),by omega⟩⟩
    ·by_cases c3:1114111<x.hi
     ·exact ⟨pre.length,by simp [c1,c2,c3],.inr ⟨Q8 (.inr (.inr (.inl c3))),by omega⟩⟩
     ·rw [if_neg c1,if_neg c2,if_neg c3]
      cases c4:(decide (a<=x.n)&&decide (x.n<=b)) with
      | false=>exact ⟨pre.length,by simp,.inr ⟨Q8 (.inr (.inr (.inr c4))),by omega⟩⟩
      | true=>
       rw [Zcb c1 c2 c3 c4];simpa using ih x.hi
theorem Zvq (a b:Int) (l:List Val):∃ r,Z0.f l a b=some r/\Zbx r (Zav (·.lo) (·.hi) (λx:Val=>decide (a<=x.n)&&decide (x.n<=b)&&!Zar x.lo x.hi) l):=by
 unfold Z0.f Zav;by_cases h:(65536:Int)<l.length
 ·exact ⟨65536,by rw [if_pos h],.inr ⟨by simp [show ¬ l.length<=65536 by omega],by decide⟩⟩
 ·rw [if_neg h]
  have hl:l.length<=Zv:=by unfold Zv;omega
  simp only [show l.length<=65536 by omega,decide_true,Bool.true_and];refine Qe (λk i last=>Z0.l1 k a b l last i) l (λpre t last o=>∃ r,o=some r/\Zbx r (Vu (·.lo) (·.hi) (λx:Val=>decide (a<=x.n)&&decide (x.n<=b)&&!Zar x.lo x.hi) last t)) ?_ ?_ (-1) K0 (ltK hl)
  ·intro last k
   exact ⟨-1,by simp only [Z0.l1,if_neg (show ¬ (l.length:Int)<(l.length:Int) by omega)],.inl ⟨rfl,rfl⟩⟩
  ·intro pre x t last k e ih
   obtain ⟨h1,h2⟩:=mid e;simp only [Z0.l1,if_pos h2.2,if_pos h2,h1,Uj.f,Option.bind_some,Zv4,Z0.j1,nxt hl e];by_cases c1:x.lo<=last
   ·exact ⟨pre.length,by simp [c1],.inr ⟨Q8 (.inl c1),by omega⟩⟩
   ·by_cases c2:x.hi<x.lo
    ·exact ⟨pre.length,by simp [c1,c2],.inr ⟨Q8 (.inr (.inl c2)),by omega⟩⟩
    ·by_cases c3:1114111<x.hi
     ·exact ⟨pre.length,by simp [c1,c2,c3],.inr ⟨Q8 (.inr (.inr (.inl c3))),by omega⟩⟩
     ·rw [if_neg c1,if_neg c2,if_neg c3]
      cases c4:(decide (a<=x.n)&&decide (x.n<=b)&&!Zar x.lo x.hi) with
      | false=>exact ⟨pre.length,by simp,.inr ⟨Q8 (.inr (.inr (.inr c4))),by omega⟩⟩
      | true=>
       rw [Zcb c1 c2 c3 c4];simpa using ih x.hi
theorem Zty (l:List Chs):∃ r,Zy.f l=some r/\Zbx r (Zav (·.lo) (·.hi) Zcn l):=by
 unfold Zy.f Zav;by_cases h:(65536:Int)<l.length
 ·exact ⟨65536,by rw [if_pos h],.inr ⟨by simp [show ¬ l.length<=65536 by omega],by decide⟩⟩
 ·rw [if_neg h]
  have hl:l.length<=Zv:=by unfold Zv;omega
  simp only [show l.length<=65536 by omega,decide_true,Bool.true_and];refine Qe (λk i last=>Zy.l1 k l last i) l (λpre t last o=>∃ r,o=some r/\Zbx r (Vu (·.lo) (·.hi) Zcn last t)) ?_ ?_ (-1) K0 (ltK hl)
  ·intro last k
   exact ⟨-1,by simp only [Zy.l1,if_neg (show ¬ (l.length:Int)<(l.length:Int) by omega)],.inl ⟨rfl,rfl⟩⟩
  ·intro pre x t last k e ih
   obtain ⟨h1,h2⟩:=mid e;simp only [Zy.l1,if_pos h2.2,if_pos h2,h1,Vn.f,Option.bind_some,Zyd,Zy.j1,nxt hl e];by_cases c1:x.lo<=last
   ·exact ⟨pre.length,by simp [c1],.inr ⟨Q8 (.inl c1),by omega⟩⟩
   ·by_cases c2:x.hi<x.lo
    ·exact ⟨pre.length,by simp [c1,c2],.inr ⟨Q8 (.inr (.inl c2)),by omega⟩⟩
    ·by_cases c3:1114111<x.hi
     ·exact ⟨pre.length,by simp [c1,c2,c3],.inr ⟨Q8 (.inr (.inr (.inl c3))),by omega⟩⟩
     ·rw [if_neg c1,if_neg c2,if_neg c3]
      cases c4:Zcn x with
      | false=>exact ⟨pre.length,by simp,.inr ⟨Q8 (.inr (.inr (.inr c4))),by omega⟩⟩
      | true=>
       rw [Zcb c1 c2 c3 c4];simpa using ih x.hi
theorem Zzb (l:List Spn):∃ r,Z7.f l=some r/\Zbx r (Zav (·.lo) (·.hi) (λx:Spn=>!Zar x.lo x.hi) l):=by
 unfold Z7.f Zav;by_cases h:(65536:Int)<l.length
 ·exact ⟨65536,by rw [if_pos h],.inr ⟨by simp [show ¬ l.length<=65536 by omega],by decide⟩⟩
 ·rw [if_neg h]
  have hl:l.length<=Zv:=by unfold Zv;omega
  simp only [show l.length<=65536 by omega,decide_true,Bool.true_and];refine Qe (λk i last=>Z7.l1 k l last i) l (λpre t last o=>∃ r,o=some r/\Zbx r (Vu (·.lo) (·.hi) (λx:Spn=>!Zar x.lo x.hi) last t)) ?_ ?_ (-1) K0 (ltK hl)
  ·intro last k
   exact ⟨-1,by simp only [Z7.l1,if_neg (show ¬ (l.length:Int)<(l.length:Int) by omega)],.inl ⟨rfl,rfl⟩⟩
  ·intro pre x t last k e ih
   obtain ⟨h1,h2⟩:=mid e;simp only [Z7.l1,if_pos h2.2,if_pos h2,h1,Zbk.f,Option.bind_some,Zko,Z7.j1,nxt hl e];by_cases c1:x.lo<=last
   ·exact ⟨pre.length,by simp [c1],.inr ⟨Q8 (.inl c1),by omega⟩⟩
   ·by_cases c2:x.hi<x.lo
    ·exact ⟨pre.length,by simp [c1,c2],.inr ⟨Q8 (.inr (.inl c2)),by omega⟩⟩
    ·by_cases c3:1114111<x.hi
     ·exact ⟨pre.length,by simp [c1,c2,c3],.inr ⟨Q8 (.inr (.inr (.inl c3))),by omega⟩⟩
     ·rw [if_neg c1,if_neg c2,if_neg c3]
      cases c4:(!Zar x.lo x.hi) with
      | false=>exact ⟨pre.length,by simp,.inr ⟨Q8 (.inr (.inr (.inr c4))),by omega⟩⟩
      | true=>
       rw [Zcb c1 c2 c3 c4];simpa using ih x.hi
theorem Zvp (l:List Spn):∃ r,Z6.f l=some r/\Zbx r (Zav (·.lo) (·.hi) (λ_:Spn=>true) l):=by
 unfold Z6.f Zav;by_cases h:(65536:Int)<l.length
 ·exact ⟨65536,by rw [if_pos h],.inr ⟨by simp [show ¬ l.length<=65536 by omega],by decide⟩⟩
 ·rw [if_neg h]
  have hl:l.length<=Zv:=by unfold Zv;omega
  simp only [show l.length<=65536 by omega,decide_true,Bool.true_and];refine Qe (λk i last=>Z6.l1 k l last i) l (λpre t last o=>∃ r,o=some r/\Zbx r (Vu (·.lo) (·.hi) (λ_:Spn=>true) last t)) ?_ ?_ (-1) K0 (ltK hl)
  ·intro last k
   exact ⟨-1,by simp only [Z6.l1,if_neg (show ¬ (l.length:Int)<(l.length:Int) by omega)],.inl ⟨rfl,rfl⟩⟩
  ·intro pre x t last k e ih
   obtain ⟨h1,h2⟩:=mid e;simp only [Z6.l1,if_pos h2.2,if_pos h2,h1,Zbk.f,Option.bind_some,Zpf,Z6.j1,nxt hl e];by_cases c1:x.lo<=last
   ·exact ⟨pre.length,by simp [c1],.inr ⟨Q8 (.inl c1),by omega⟩⟩
   ·by_cases c2:x.hi<x.lo
    ·exact ⟨pre.length,by simp [c1,c2],.inr ⟨Q8 (.inr (.inl c2)),by omega⟩⟩
    ·by_cases c3:1114111<x.hi
     ·exact ⟨pre.length,by simp [c1,c2,c3],.inr ⟨Q8 (.inr (.inr (.inl c3))),by omega⟩⟩
     ·rw [if_neg c1,if_neg c2,if_neg c3]
      rw [Zcb c1 c2 c3 rfl];simpa using ih x.hi
theorem Zzc (l:List Chs):∃ r,Zx.f l=some r/\Zbx r (Zav (·.lo) (·.hi) (λx:Chs=>H3 x.is_ 1 18) l):=by
 unfold Zx.f Zav;by_cases h:(65536:Int)<l.length
 ·exact ⟨65536,by rw [if_pos h],.inr ⟨by simp [show ¬ l.length<=65536 by omega],by decide⟩⟩
 ·rw [if_neg h]
  have hl:l.length<=Zv:=by unfold Zv;omega
  simp only [show l.length<=65536 by omega,decide_true,Bool.true_and];refine Qe (λk i last=>Zx.l1 k l last i) l (λpre t last o=>∃ r,o=some r/\Zbx r (Vu (·.lo) (·.hi) (λx:Chs=>H3 x.is_ 1 18) last t)) ?_ ?_ (-1) K0 (ltK hl)
  ·intro last k
   exact ⟨-1,by simp only [Zx.l1,if_neg (show ¬ (l.length:Int)<(l.length:Int) by omega)],.inl ⟨rfl,rfl⟩⟩
  ·intro pre x t last k e ih
   obtain ⟨h1,h2⟩:=mid e;simp only [Zx.l1,if_pos h2.2,if_pos h2,h1,Vn.f,Option.bind_some,Zyc,Zx.j1,nxt hl e];by_cases c1:x.lo<=last
   ·exact ⟨pre.length,by simp [c1],.inr ⟨Q8 (.inl c1),by omega⟩⟩
   ·by_cases c2:x.hi<x.lo
    ·exact ⟨pre.length,by simp [c1,c2],.inr ⟨Q8 (.inr (.inl c2)),by omega⟩⟩
    ·by_cases c3:1114111<x.hi
     ·exact ⟨pre.length,by simp [c1,c2,c3],.inr ⟨Q8 (.inr (.inr (.inl c3))),by omega⟩⟩
     ·rw [if_neg c1,if_neg c2,if_neg c3]
      cases c4:H3 x.is_ 1 18 with
      | false=>exact ⟨pre.length,by simp,.inr ⟨Q8 (.inr (.inr (.inr c4))),by omega⟩⟩
      | true=>
       rw [Zcb c1 c2 c3 c4];simpa using ih x.hi
theorem Zrm (h:a<=Zv) (hb:b<=1):a+b<=most:=by unfold Zv at h;unfold most;omega
theorem Zfa {α β:Type} (L:Nat->Int->List β->Option (List β)) (xs:List α) (f:α->β) (hl:xs.length<=Zv) (hnil:∀ s k,L (k+1) (xs.length:Int) s=some s) (hcons:∀ pre x t s k,xs=pre++x::t->s.length+1<=most->L (k+1) (pre.length:Int) s=L k ((pre.length:Int)+1) (s++[f x])):L K0 0 []=some (xs.map f):=by
 have:=Qe (λk i s=>L k i s) xs (λpre t s o=>s.length=pre.length->o=some (s++t.map f)) (λs k hs=>by simp [hnil]) (λpre x t s k e ih hs=>by
  have hp:pre.length<=Zv:=by rw [e] at hl;simp at hl;omega
  show L (k+1) (pre.length:Int) s=_;rw [hcons pre x t s k e (by rw [hs];exact Zrm hp (Nat.le_refl _)),ih (s++[f x]) (by simp [hs])];simp) [] K0 (ltK hl) rfl
 simpa using this
theorem Zgd (l:List Val) (hl:l.length<=Zv):Kj.f l=some (l.map λx=>(⟨x.lo,x.hi⟩:Spn)):=by
 refine Zfa (λk i s=>Kj.l1 k l s i) l _ hl ?_ ?_
 ·intro s k
  simp only [Kj.l1,if_neg (show ¬ (l.length:Int)<(l.length:Int) by omega)]
 ·intro pre x t s k e hs
  obtain ⟨h1,h2⟩:=mid e;simp only [Kj.l1,if_pos h2.2,if_pos h2,h1,nxt hl e];exact if_pos hs
theorem Zhk (l:List Chs) (hl:l.length<=Zv):Kr.f l=some (l.map λx=>(⟨x.lo,x.hi⟩:Spn)):=by
 refine Zfa (λk i s=>Kr.l1 k l s i) l _ hl ?_ ?_
 ·intro s k
  simp only [Kr.l1,if_neg (show ¬ (l.length:Int)<(l.length:Int) by omega)]
 ·intro pre x t s k e hs
  obtain ⟨h1,h2⟩:=mid e;simp only [Kr.l1,if_pos h2.2,if_pos h2,h1,nxt hl e];exact if_pos hs
def Zd3 (a b:Int) (apart:Bool) (x:Val):Bool:=decide (x.n<a)||decide (b<x.n)||(apart&&Zar x.lo x.hi)
theorem Zdy (l:List Val) (a b:Int) (apart:Bool) (hl:l.length<=Zv):Yz.f l a b apart=some (l.map (Zd3 a b apart)):=by
 refine Zfa (λk i s=>Yz.l1 k l a b apart s i) l _ hl ?_ ?_
 ·intro s k
  simp only [Yz.l1,if_neg (show ¬ (l.length:Int)<(l.length:Int) by omega)]
 ·intro pre x t s k e hs
  obtain ⟨h1,h2⟩:=mid e;simp only [Yz.l1,if_pos h2.2,if_pos h2,h1,nxt hl e,Yz.j1,Zlr,Option.bind_some];have hone:∀ c:Bool,s.length+[c].length<=most:=λc=>hs;by_cases c1:x.n<a
  ·rw [if_pos c1,if_pos (hone _)];simp [Zd3,c1]
  ·rw [if_neg c1]
   by_cases c2:b<x.n
   ·rw [if_pos c2,if_pos (hone _)];simp [Zd3,c2]
   ·rw [if_neg c2]
    cases apart with
    | true=>rw [if_pos rfl,if_pos (hone _)];simp [Zd3,c1,c2]
    | false=>rw [if_neg (by decide),if_pos (hone _)];simp [Zd3,c1,c2]
def Hu (b:Int) (x:Chs):Bool:=!H3 x.is_ 1 b
theorem Zhm (x0:List Chs) (acc:List Bool) (i:Int) (go:List Bool->Int->Option (List Bool)) (l:List Int) (e:(rd x0 i).is_=l) (hl:l.length<=Zv) (b0:Bool) (hacc:acc.length+1<=most):
  Yr.l1 go K0 x0 acc i b0 0=go (acc++[b0||!l.all Zfd]) (i64.wrap (i+1)):=by
 refine Qe (λk j b=>Yr.l1 go k x0 acc i b j) l (λpre t b o=>o=go (acc++[b||!t.all Zfd]) (i64.wrap (i+1))) ?_ ?_ b0 K0 (ltK hl)
 ·intro b k
  simp only [Yr.l1,e,if_neg (show ¬ (l.length:Int)<(l.length:Int) by omega)];rw [if_pos (show acc.length+[b].length<=most from hacc)];simp
 ·intro pre x t b k e2 ih
  obtain ⟨h1,h2⟩:=mid e2;simp only [Yr.l1,e,if_pos h2.2,if_pos h2,h1,Yr.j1,nxt hl e2,Zn2,Option.bind_some]
  cases b with
  | true=>rw [if_pos rfl];simpa using ih true
  | false=>
   rw [if_neg (by decide),ih (!Zfd x)];cases h:Zfd x<;>simp [h]
theorem Zhl (l:List Chs) (b:Int) (hl:l.length<=Zv) (hi:∀ x∈l,x.is_.length<=Zv):Yr.f l b=some (l.map (Hu b)):=by
 refine Zfa (λk i s=>Yr.l2 k l b s i) l _ hl ?_ ?_
 ·intro s k
  simp only [Yr.l2,if_neg (show ¬ (l.length:Int)<(l.length:Int) by omega)]
 ·intro pre x t s k e hs
  obtain ⟨h1,h2⟩:=mid e;have hx:=hi x (by rw [e];simp);simp only [Yr.l2,if_pos h2.2,if_pos h2,h1,Yr.j2];by_cases c1:(x.is_.length:Int)<1
  ·rw [if_pos c1,Zhm l s _ _ x.is_ (by rw [h1]) hx true hs,nxt hl e]
   simp [Hu,H3,show ¬ (1:Int)<=(x.is_.length:Int) by omega]
  ·rw [if_neg c1,Zhm l s _ _ x.is_ (by rw [h1]) hx _ hs,nxt hl e]
   by_cases c2:b<(x.is_.length:Int)
   ·simp [Hu,H3,c2,show ¬ (x.is_.length:Int)<=b by omega]
   ·simp [Hu,H3,c2,show (1:Int)<=(x.is_.length:Int) by omega,show (x.is_.length:Int)<=b by omega]
def Zd2 (w:Bool) (x:Chs):Bool:=w||decide (x.lo≠x.hi)||Zm7 x.lo||!Zfd x.lo
theorem Zn0 (l:List Chs) (hl:l.length<=Zv) (hi:∀ x∈l,x.is_.length<=Zv):Xa.f l=some (l.map λx=>Zd2 (Hu 2 x) x):=by
 unfold Xa.f;rw [Zhl l 2 hl hi,Option.bind_some];have:=Qe (λk i ws=>Xa.l1 k l ws i) l (λpre t ws o=>ws=(pre.map λx=>Zd2 (Hu 2 x) x)++t.map (Hu 2)->o=some (l.map λx=>Zd2 (Hu 2 x) x)) (λws k hw=>by
  simp only [Xa.l1,if_neg (show ¬ (l.length:Int)<(l.length:Int) by omega)];simp [hw]) (λpre x t ws k e ih hw=>by
  obtain ⟨h1,h2⟩:=mid e;have hwl:ws.length=l.length:=by rw [hw,e];simp
  have hmid:=mid (xs:=ws) (pre:=pre.map λx=>Zd2 (Hu 2 x) x) (x:=Hu 2 x) (t:=t.map (Hu 2)) (by rw [hw];simp);simp only [List.length_map] at hmid;have hset:∀ c:Bool,ws.set (pre.length:Int).toNat c=(pre.map λx=>Zd2 (Hu 2 x) x)++c::t.map (Hu 2):=λc=>by
   rw [hw,Int.toNat_natCast,List.set_append_right _ _ (by simp)];simp
  have fin:∀ c:Bool,c=Zd2 (Hu 2 x) x->Xa.l1 k l (ws.set (pre.length:Int).toNat c) ((pre.length:Int)+1)=some (l.map λx=>Zd2 (Hu 2 x) x):=λc hc=>by
   rw [hset];exact ih _ (by rw [hc];simp)
  simp only [Xa.l1,if_pos h2.2,if_pos h2,if_pos hmid.2,h1,hmid.1,Xa.j1,nxt hl e,Zvm,Zn2,Option.bind_some];by_cases c1:Hu 2 x=true
  ·rw [if_pos c1];exact fin true (by simp [Zd2,c1])
  ·rw [if_neg c1]
   by_cases c2:x.lo≠x.hi
   ·rw [if_pos c2];exact fin true (by simp [Zd2,c2])
   ·rw [if_neg c2]
    have c2':x.lo=x.hi:=Classical.not_not.1 c2;by_cases c3:Zm7 x.lo=true
    ·rw [if_pos c3];exact fin true (by simp [Zd2,c3])
    ·rw [if_neg c3];exact fin _ (by simp at c1 c3;simp [Zd2,c1,c2',c3];rw [<- c2'];simp [c3]))
  (l.map (Hu 2)) K0 (ltK hl) (by simp)
 exact this
def Zic (pre:List Spn):Int:=(pre.getLast?.map (·.hi)).getD (-1)
theorem Z4u (xs pre t:List Spn) (x:Spn) (hl:xs.length<=Zv) (e:xs=pre++x::t) (hpre:∀ y∈pre,0<=y.hi):
  Hv.f xs (pre.length:Int)=some (decide (Zic pre<x.lo)&&decide (x.lo<=x.hi)&&decide (x.hi<=1114111)):=by
 obtain ⟨h1,h2⟩:=mid e;unfold Hv.f;simp only [if_pos h2,h1,Hv.j1]
 rcases List.eq_nil_or_concat pre with hp | ⟨p,z,hp⟩
 ·subst hp
  simp only [Zic,List.getLast?_nil,Option.map_none,Option.getD_none];by_cases c1:0<=x.lo
  ·by_cases c2:x.lo<=x.hi
   ·by_cases c3:x.hi<=1114111
    ·simp [c1,c2,c3,show (-1:Int)<x.lo by omega]
    ·simp [c1,c2,c3]
   ·simp [c1,c2]
  ·simp [c1,show ¬ (-1:Int)<x.lo by omega]
 ·subst hp
  have hz:0<=z.hi:=hpre z (by simp);obtain ⟨h3,h4⟩:=mid (xs:=xs) (pre:=p) (x:=z) (t:=x::t) (by rw [e];simp);have hlen:xs.length=p.length+1+(t.length+1):=by rw [e];simp;omega
  unfold Zv at hl;have hw:i64.wrap (((p++[z]).length:Int)-1)=(p.length:Int):=by
   have e1:((p++[z]).length:Int)-1=(p.length:Int):=by simp
   rw [e1];exact w64 (by omega) (by omega)
  have hend:Zic (p++[z])=z.hi:=by simp [Zic]
  rw [List.concat_eq_append] at*
  simp only [hw,hend,h3,if_pos h4];have hne:¬ (((p++[z]).length:Int)=0):=by simp;omega
  by_cases c1:0<=x.lo
  ·by_cases c2:x.lo<=x.hi
   ·by_cases c3:x.hi<=1114111
    ·rw [if_pos c1,if_pos c2,if_pos c3,if_neg hne];simp [c2,c3]
    ·simp [c1,c2,c3]
   ·simp [c1,c2]
  ·simp [c1,show ¬ z.hi<x.lo by omega]
theorem Z2h (xs:List Spn) (ws:List Bool) (hw:ws.length=xs.length):∃ r,Xf.f xs ws=some r/\Zbx r (Zav (λp:Spn×Bool=>p.1.lo) (λp=>p.1.hi) (λp=>!p.2) (xs.zip ws)):=by
 unfold Xf.f Zav;have hz:(xs.zip ws).length=xs.length:=by simp [hw]
 rw [hz];by_cases h:(65536:Int)<xs.length
 ·exact ⟨65536,by rw [if_pos h],.inr ⟨by simp [show ¬ xs.length<=65536 by omega],by decide⟩⟩
 ·rw [if_neg h]
  have hl:xs.length<=Zv:=by unfold Zv;omega
  simp only [show xs.length<=65536 by omega,decide_true,Bool.true_and];have:=Qe (λk i (_:Unit)=>Xf.l1 k xs ws i) (xs.zip ws) (λpre t _ o=>(∀ y∈pre.map Prod.fst,0<=y.hi)->∃ r,o=some r/\Zbx r (Vu (λp:Spn×Bool=>p.1.lo) (λp=>p.1.hi) (λp=>!p.2) (Zic (pre.map Prod.fst)) t)) (λ_ k _=>
   ⟨-1,by simp only [hz,Xf.l1,if_neg (show ¬ (xs.length:Int)<(xs.length:Int) by omega)],.inl ⟨rfl,rfl⟩⟩) (λpre x t _ k e ih hpre=>by
   obtain ⟨y,b⟩:=x;have ex:xs=pre.map Prod.fst++y::t.map Prod.fst:=by have:=congrArg (List.map Prod.fst) e;rw [List.map_fst_zip (by omega)] at this;simpa using this
   have ew:ws=pre.map Prod.snd++b::t.map Prod.snd:=by have:=congrArg (List.map Prod.snd) e;rw [List.map_snd_zip (by omega)] at this;simpa using this
   obtain ⟨h1,h2⟩:=mid ex;obtain ⟨h3,h4⟩:=mid ew;have hr:=Z4u xs _ _ y hl ex hpre;have hn:=nxt hl ex;simp only [List.length_map] at h1 h2 h3 h4 hr hn;simp only [Xf.l1,if_pos h2.2,hr,Option.bind_some,if_pos h4,h3,Xf.j1,hn];by_cases c1:Zic (pre.map Prod.fst)<y.lo
   ·by_cases c2:y.lo<=y.hi
    ·by_cases c3:y.hi<=1114111
     ·simp only [c1,c2,c3,decide_true,Bool.and_self,Bool.not_true,Bool.false_eq_true,if_false]
      cases b with
      | true=>exact ⟨pre.length,by simp,.inr ⟨Q8 (.inr (.inr (.inr rfl))),by omega⟩⟩
      | false=>
       rw [Zcb (lo:=λp:Spn×Bool=>p.1.lo) (hi:=λp:Spn×Bool=>p.1.hi) (may:=λp:Spn×Bool=>!p.2) (x:=(y,false)) (show ¬ y.lo<=_ by omega) (show ¬ y.hi<y.lo by omega) (show ¬ 1114111<y.hi by omega) rfl];have hend:Zic ((pre++[(y,false)]).map Prod.fst)=y.hi:=by simp [Zic]
       have hge:-1<=Zic (pre.map Prod.fst):=by
        unfold Zic
        cases hg:(pre.map Prod.fst).getLast? with
        | none=>simp
        | some z=>simp;have:=hpre z (List.mem_of_getLast? hg);omega
       have:=ih () (λz hz=>by
        simp only [List.map_append,List.map_cons,List.map_nil,List.mem_append,List.mem_singleton] at hz
        rcases hz with hz | rfl
        ·exact hpre z hz
        ·omega)
       rw [hend] at this;simpa using this
     ·exact ⟨pre.length,by simp [c3],.inr ⟨Q8 (.inr (.inr (.inl (by show 1114111<y.hi;omega)))),by omega⟩⟩
    ·exact ⟨pre.length,by simp [c2],.inr ⟨Q8 (.inr (.inl (by show y.hi<y.lo;omega))),by omega⟩⟩
   ·exact ⟨pre.length,by simp [c1],.inr ⟨Q8 (.inl (by show y.lo<=_;omega)),by omega⟩⟩) () K0 (by rw [hz];exact ltK hl) (λy hy=>by simp at hy)
  exact this
theorem Znq {α β:Type} (f:β->α) (lo hi:α->Int) (may:α->Bool):∀ (last:Int) (l:List β),Vu lo hi may last (l.map f)=Vu (λx=>lo (f x)) (λx=>hi (f x)) (λx=>may (f x)) last l
 | _,[]=>rfl
 | last,x::t=>by simp only [List.map_cons,Vu,Znq f lo hi may (hi (f x)) t]
theorem Zrr {α:Type} (l:List α) (sp:α->Spn) (wr:α->Bool):∃ r,Xf.f (l.map sp) (l.map wr)=some r/\Zbx r (Zav (λx=>(sp x).lo) (λx=>(sp x).hi) (λx=>!wr x) l):=by
 obtain ⟨r,h1,h2⟩:=Z2h (l.map sp) (l.map wr) (by simp);refine ⟨r,h1,?_⟩;have e:(l.map sp).zip (l.map wr)=l.map λx=>(sp x,wr x):=by rw [List.zip_map']
 rw [e] at h2;unfold Zav at h2 ⊢;rw [Znq] at h2;simpa using h2
def Zdu (x:Chs) (y:Val):Bool:=decide (y.lo<=x.hi)&&decide (x.lo<=y.hi)
def Zj2 (st:List Val) (x:Chs):Bool:=H3 x.is_ 1 18&&!st.any (Zdu x)
def Zpq (x:Chs):List Val->Bool
 | []=>true
 | y::_=>decide (x.hi<y.lo)
theorem Zug (st:List Val) (x:Chs) (hst:st.length<=Zv):∀ (rest done:List Val) (k:Nat),st=done++rest->rest.length<k->
  ∃ done' rest',st=done'++rest'/\(∃ p,done'=done++p/\∀ y∈p,y.hi<x.lo)/\(∀ y,rest'.head?=some y->¬ y.hi<x.lo)/\
   Yv.l1 k st x (done.length:Int)=some (H3 x.is_ 1 18&&Zpq x rest',(done'.length:Int)):=by
 intro rest
 induction rest with
 | nil=>
  intro done k e hk;obtain ⟨k,rfl⟩:∃ j,k=j+1:=⟨k-1,by simp at hk;omega⟩;have hd:st.length=done.length:=by rw [e];simp
  refine ⟨done,[],e,⟨[],by simp,λy hy=>by cases hy⟩,λy hy=>by simp at hy,?_⟩;rw [Yv.l1,if_neg (by rw [hd];omega)];simp only [Yv.j2,Yv.j1,Zfe x.is_ 1 18 (by decide),Option.bind_some,Bool.false_eq_true,if_false]
  cases H3 x.is_ 1 18 with
  | false=>simp
  | true=>simp [hd,Zpq]
 | cons y rest ih=>
  intro done k e hk;obtain ⟨k,rfl⟩:∃ j,k=j+1:=⟨k-1,by simp at hk;omega⟩;obtain ⟨h1,h2⟩:=mid e;by_cases c:y.hi<x.lo
  ·obtain ⟨done',rest',e1,⟨p,e2,e3⟩,e4,e5⟩:=ih (done++[y]) k (by rw [e];simp) (by simp at hk;omega)
   refine ⟨done',rest',e1,⟨y::p,by rw [e2];simp,λz hz=>?_⟩,e4,?_⟩
   ·rcases List.mem_cons.1 hz with rfl | hz
    ·exact c
    ·exact e3 z hz
   ·rw [Yv.l1,if_pos h2.2,if_pos h2,h1]
    simp only [Yv.j2,c,decide_true,if_true,nxt hst e];simpa using e5
  ·refine ⟨done,y::rest,e,⟨[],by simp,λz hz=>by cases hz⟩,λz hz=>by simp at hz;subst hz;exact c,?_⟩
   rw [Yv.l1,if_pos h2.2,if_pos h2,h1];simp only [Yv.j2,Yv.j1,c,decide_false,Zfe x.is_ 1 18 (by decide),Option.bind_some,Bool.false_eq_true,if_false]
   cases H3 x.is_ 1 18 with
   | false=>simp
   | true=>
    rw [if_pos rfl,if_neg (by omega),if_pos h2,h1];simp [Zpq]
theorem Zdq {α:Type} {lo hi:α->Int} {may:α->Bool}:∀ {l:List α} {last:Int},Vu lo hi may last l=true->∀ y∈l,last<lo y/\lo y<=hi y/\hi y<=1114111/\may y=true
 | [],_,_,y,hy=>by cases hy
 | x::t,last,h,y,hy=>by
  simp only [Vu,Bool.and_eq_true,decide_eq_true_eq] at h
  obtain ⟨⟨⟨⟨h1,h2⟩,h3⟩,h4⟩,h5⟩:=h
  rcases List.mem_cons.1 hy with rfl | hy
  ·exact ⟨h1,h2,h3,h4⟩
  ·obtain ⟨a,b,c,d⟩:=Zdq h5 y hy
   exact ⟨by omega,b,c,d⟩
theorem Znp {α:Type} {lo hi:α->Int} {may:α->Bool}:∀ {a b:List α} {last:Int},Vu lo hi may last (a++b)=true->∃ last',Vu lo hi may last' b=true
 | [],b,last,h=>⟨last,h⟩
 | x::a,b,last,h=>by
  simp only [List.cons_append,Vu,Bool.and_eq_true] at h
  exact Znp h.2
theorem Zu2 (hs:∃ may:Val->Bool,Vu (·.lo) (·.hi) may (-1) st=true) (e:st=done++rest) (hd:∀ y∈done,y.hi<x.lo) (hr:∀ y,rest.head?=some y->¬ y.hi<x.lo) (hx:x.lo<=x.hi):Zpq x rest=!st.any (Zdu x):=by
 obtain ⟨may,hs⟩:=hs;have hdone:done.any (Zdu x)=false:=by rw [List.any_eq_false];intro y hy;have:=hd y hy;simp [Zdu,show ¬ x.lo<=y.hi by omega]
 rw [e,List.any_append,hdone,Bool.false_or];rw [e] at hs;obtain ⟨last,hs⟩:=Znp hs
 cases rest with
 | nil=>rfl
 | cons y t=>
  have hy:=hr y rfl;simp only [Vu,Bool.and_eq_true,decide_eq_true_eq] at hs;by_cases c:x.hi<y.lo
  ·have ht:(y::t).any (Zdu x)=false:=by
    rw [List.any_eq_false];intro z hz
    rcases List.mem_cons.1 hz with rfl | hz
    ·simp [Zdu,show ¬ z.lo<=x.hi by omega]
    ·have:=(Zdq hs.2 z hz).1
     simp [Zdu,show ¬ z.lo<=x.hi by omega]
   simp [Zpq,c,ht]
  ·have:Zdu x y=true:=by simp [Zdu];omega
   simp [Zpq,c,this]
theorem Zzd (b:Bk) (hs:∃ may:Val->Bool,Vu (·.lo) (·.hi) may (-1) b.status=true) (hst:b.status.length<=Zv):∃ r,Zcw.f b=some r/\Zbx r (Zav (·.lo) (·.hi) (Zj2 b.status) b.maps):=by
 unfold Zcw.f Z5.f Zav;by_cases h:(65536:Int)<b.maps.length
 ·exact ⟨65536,by rw [if_pos h];rfl,.inr ⟨by simp [show ¬ b.maps.length<=65536 by omega],by decide⟩⟩
 ·rw [if_neg h]
  have hl:b.maps.length<=Zv:=by unfold Zv;omega
  simp only [show b.maps.length<=65536 by omega,decide_true,Bool.true_and];have:=Qe (λk i (s:Int×Int)=>Z5.l1 k b.names b.status b.maps b.class_ b.decomp b.excl b.bidi b.join b.marks b.script b.like b.maps s.1 s.2 i) b.maps
   (λpre t s o=>(∃ done rest,b.status=done++rest/\s.1=(done.length:Int)/\∀ y∈done,y.hi<=s.2)->∃ r,(o.bind λr=>some r.1)=some r/\Zbx r (Vu (·.lo) (·.hi) (Zj2 b.status) s.2 t))
   (λs k _=>⟨-1,by simp only [Z5.l1,if_neg (show ¬ (b.maps.length:Int)<(b.maps.length:Int) by omega)];rfl,.inl ⟨rfl,rfl⟩⟩)
   (λpre x t s k e ih hinv=>by
    obtain ⟨h1,h2⟩:=mid e
    obtain ⟨done,rest,e1,e2,e3⟩:=hinv
    simp only [Z5.l1,if_pos h2.2,if_pos h2,h1,Vn.f,Option.bind_some,Z5.j1,nxt hl e]
    by_cases c1:x.lo<=s.2
    ·exact ⟨pre.length,by simp [c1],.inr ⟨Q8 (.inl c1),by omega⟩⟩
    ·by_cases c2:x.hi<x.lo
     ·exact ⟨pre.length,by simp [c1,c2],.inr ⟨Q8 (.inr (.inl c2)),by omega⟩⟩
     ·by_cases c3:1114111<x.hi
      ·exact ⟨pre.length,by simp [c1,c2,c3],.inr ⟨Q8 (.inr (.inr (.inl c3))),by omega⟩⟩
      ·rw [if_neg c1,if_neg c2,if_neg c3]
       have hrl:rest.length<K0:=ltK (by rw [e1] at hst;simp at hst;omega)
       obtain ⟨done',rest',f1,⟨p,f2,f3⟩,f4,f5⟩:=Zug b.status x hst rest done K0 e1 hrl
       have hd':∀ y∈done',y.hi<x.lo:=by
        intro y hy
        rw [f2] at hy
        rcases List.mem_append.1 hy with hy | hy
        ·have:=e3 y hy;omega
        ·exact f3 y hy
       have hfree:=Zu2 hs f1 hd' f4 (by omega)
       have happ:Yv.f x s.1 b.names b.status b.maps b.class_ b.decomp b.excl b.bidi b.join b.marks b.script b.like=some (Zj2 b.status x,(done'.length:Int)):=by
        unfold Yv.f
        rw [e2,f5,hfree];rfl
       rw [happ,Option.bind_some]
       cases c4:Zj2 b.status x with
       | false=>exact ⟨pre.length,by simp,.inr ⟨Q8 (.inr (.inr (.inr c4))),by omega⟩⟩
       | true=>
        rw [Zcb c1 c2 c3 c4]
        have:=ih ((done'.length:Int),x.hi) ⟨done',rest',f1,rfl,λy hy=>by have:=hd' y hy;show y.hi<=x.hi;omega⟩
        simpa using this) (0,-1) K0 (ltK hl) ⟨[],b.status,rfl,rfl,λy hy=>by cases hy⟩
  exact this
theorem Zza (x:Chs) (st:List Val) (hst:st.length<=Zv):J6.f x st=some (st.any (Zdu x)):=by
 refine Qe (λk i (_:Unit)=>J6.l1 k x st i) st (λpre t _ o=>o=some (t.any (Zdu x))) ?_ ?_ () K0 (ltK hst)
 ·intro _ k
  simp only [J6.l1,if_neg (show ¬ (st.length:Int)<(st.length:Int) by omega)];rfl
 ·intro pre y t _ k e ih
  obtain ⟨h1,h2⟩:=mid e;simp only [J6.l1,if_pos h2.2,if_pos h2,h1,J6.j1,nxt hst e,List.any_cons];have ih:=ih ();by_cases c1:y.lo<=x.hi
  ·by_cases c2:x.lo<=y.hi
   ·simp [c1,c2,Zdu]
   ·simpa [c1,c2,Zdu] using ih
  ·simpa [c1,Zdu] using ih
theorem Zf8 {κ ν:Type} [DecidableEq κ] (l:List (κ×ν)) (x y:κ) (v:ν):U7 (Zbb l x v) y=if y=x then some v else U7 l y:=by
 induction l with
 | nil=>simp [Zbb,U7]
 | cons p l ih=>
  simp only [Zbb];by_cases h:x=p.1
  ·rw [if_pos h]
   simp only [U7,h];by_cases h2:y=p.1<;>simp [h2]
  ·rw [if_neg h]
   simp only [U7,ih];by_cases h2:y=p.1
   ·have:¬ y=x:=λe=>h (e▸h2)
    simp [h2,show ¬ p.1=x from λe=>h e.symm]
   ·simp [h2]
theorem Zqq {α:Type} {p q:α->Bool}:∀ {l:List α},(∀ x∈l,p x=true->q x=true)->l.countP p<=l.countP q:=λh=>List.countP_mono_left h
theorem Zul {α:Type} {p q:α->Bool}:∀ {l:List α} {a:α},a∈l->(∀ x∈l,p x=true->q x=true)->p a=false->q a=true->l.countP p<l.countP q
 | [],_,ha,_,_,_=>by cases ha
 | b::l,a,ha,h,h1,h2=>by
  have hl:=Zqq (l:=l) (λx hx=>h x (List.mem_cons_of_mem _ hx))
  simp only [List.countP_cons]
  rcases List.mem_cons.1 ha with rfl | ha
  ·simp [h1,h2];omega
  ·have:=Zul ha (λx hx=>h x (List.mem_cons_of_mem _ hx)) h1 h2
   have hb:=h b (List.mem_cons_self ..)
   cases hpb:p b with
   | false=>simp;omega
   | true=>rw [hpb] at hb;simp [hb rfl];omega
def paP:List Chs->Int->List Int
 | [],_=>[]
 | x::t,c=>if x.lo<=c/\c<=x.hi then x.is_ else paP t c
theorem Zp4 (D:List Chs) (c:Int) (hl:D.length<=Zv):J5.f D c=some (paP D c):=by
 refine Qe (λk i (_:Unit)=>J5.l1 k D c i) D (λpre t _ o=>o=some (paP t c)) ?_ ?_ () K0 (ltK hl)
 ·intro _ k
  simp only [J5.l1,if_neg (show ¬ (D.length:Int)<(D.length:Int) by omega)];rfl
 ·intro pre x t _ k e ih
  obtain ⟨h1,h2⟩:=mid e;have ih:=ih ();simp only [J5.l1,if_pos h2.2,if_pos h2,h1,J5.j1,nxt hl e,paP];by_cases c1:x.lo<=c
  ·by_cases c2:c<=x.hi
   ·simp [c1,c2]
   ·simpa [c1,c2] using ih
  ·simpa [c1] using ih
def Zby (f:Int->Int):List Int->Int
 | []=>0
 | c::t=>f c+Zby f t
theorem Zh3 {f g:Int->Int}:∀ {l:List Int},(∀ c∈l,f c<=g c)->Zby f l<=Zby g l
 | [],_=>Int.le_refl _
 | c::t,h=>by
  have:=Zh3 (l:=t) (λx hx=>h x (List.mem_cons_of_mem _ hx))
  have:=h c (List.mem_cons_self ..)
  simp only [Zby];omega
theorem Zi1 {f g:Int->Int}:∀ {l:List Int},(∀ c∈l,f c=g c)->Zby f l=Zby g l
 | [],_=>rfl
 | c::t,h=>by
  rw [Zby,Zby,h c (List.mem_cons_self ..),Zi1 (l:=t) (λx hx=>h x (List.mem_cons_of_mem _ hx))]
theorem Zff {f:Int->Int}:∀ {l:List Int},(∀ c∈l,1<=f c)->(l.length:Int)<=Zby f l
 | [],_=>by simp [Zby]
 | c::t,h=>by
  have:=Zff (l:=t) (λx hx=>h x (List.mem_cons_of_mem _ hx))
  have:=h c (List.mem_cons_self ..)
  simp only [Zby,List.length_cons];omega
theorem Zmg {f:Int->Int}:∀ {l:List Int},(∀ c∈l,1<=f c)->∀ c∈l,f c<=Zby f l
 | [],_,c,hc=>by cases hc
 | d::t,h,c,hc=>by
  have h1:=h d (List.mem_cons_self ..)
  have h2:=Zff (l:=t) (λx hx=>h x (List.mem_cons_of_mem _ hx))
  simp only [Zby]
  rcases List.mem_cons.1 hc with rfl | hc
  ·omega
  ·have:=Zmg (l:=t) (λx hx=>h x (List.mem_cons_of_mem _ hx)) c hc
   omega
theorem Zoc (f:Int->Int):∀ (a b:List Int),Zby f (a++b)=Zby f a+Zby f b
 | [],b=>by simp [Zby]
 | c::a,b=>by simp only [List.cons_append,Zby,Zoc f a b];omega
def cap (s:Int):Int:=if 18<s then 19 else s
def Lc (P:Int->List Int):Nat->Int->Int
 | 0,c=>if P c=[] then 1 else 19
 | n+1,c=>if P c=[] then 1 else cap (Zby (Lc P n) (P c))
theorem Zdb {P:Int->List Int} (h:P c=[]) (n:Nat):Lc P n c=1:=by cases n<;>simp [Lc,h]
theorem Zdk (P:Int->List Int):∀ (n:Nat) (c:Int),1<=Lc P n c/\Lc P n c<=19
 | 0,c=>by unfold Lc;split<;>omega
 | n+1,c=>by
  unfold Lc
  by_cases h:P c=[]
  ·rw [if_pos h];omega
  ·rw [if_neg h]
   have h1:=Zff (f:=Lc P n) (l:=P c) (λx _=>(Zdk P n x).1)
   have h2:0<(P c).length:=List.length_pos_iff.2 h
   unfold cap;split<;>omega
theorem Zss (h:a<=b):cap a<=cap b:=by unfold cap;split<;>split<;>omega
theorem Zmh (P:Int->List Int):∀ (n:Nat) (c:Int),Lc P (n+1) c<=Lc P n c
 | 0,c=>by
  by_cases h:P c=[]
  ·rw [Zdb h,Zdb h];omega
  ·have:=(Zdk P 1 c).2
   rw [show Lc P 0 c=19 by simp [Lc,h]];exact this
 | n+1,c=>by
  by_cases h:P c=[]
  ·rw [Zdb h,Zdb h];omega
  ·rw [Lc,if_neg h,Lc,if_neg h]
   exact Zss (Zh3 λx _=>Zmh P n x)
theorem Z3e (P:Int->List Int) (h:n<=m) (c:Int):Lc P m c<=Lc P n c:=by
 induction h with
 | refl=>exact Int.le_refl _
 | step _ ih=>exact Int.le_trans (Zmh P _ c) ih
theorem Zsb (P:Int->List Int):∀ (n:Nat) (c:Int),Lc P n c<=18->Lc P (n+1) c=Lc P n c
 | 0,c,h=>by
  by_cases e:P c=[]
  ·rw [Zdb e,Zdb e]
  ·simp [Lc,e] at h
 | n+1,c,h=>by
  by_cases e:P c=[]
  ·rw [Zdb e,Zdb e]
  ·rw [Lc,if_neg e] at h
   have hs:Zby (Lc P n) (P c)<=18:=by unfold cap at h;split at h<;>omega
   rw [Lc,if_neg e,Lc,if_neg e,Zi1 (λx hx=>Zsb P n x ?_)]
   have:=Zmg (f:=Lc P n) (l:=P c) (λx _=>(Zdk P n x).1) x hx
   omega
theorem Zhs (P:Int->List Int) (h:n<=m) (hc:Lc P n c<=18):Lc P m c=Lc P n c:=by
 induction h with
 | refl=>rfl
 | step _ ih=>rw [Zsb P _ c (by rw [ih];exact hc),ih]
theorem Z7f (P:Int->List Int) (h:Lc P e c<=18) (d:Nat):Lc P e c<=Lc P d c:=by
 rcases Nat.le_total e d with h1 | h1
 ·rw [Zhs P h1 h];exact Int.le_refl _
 ·exact Z3e P h1 c
theorem Z2g (b:Bk) (hD:b.decomp.length<=65536) (hP:∀ c,(paP b.decomp c).length<=2):∀ (n:Nat),n<=b.decomp.length+1->∀ (k:Nat) (c lvl:Int),lvl=(b.decomp.length:Int)+1-n->n<k->
  Qg.f k b c lvl=some (Lc (paP b.decomp) n c):=by
 intro n;have hl:b.decomp.length<=Zv:=by unfold Zv;omega
 induction n with
 | zero=>
  intro _ k c lvl e hk;obtain ⟨k,rfl⟩:∃ j,k=j+1:=⟨k-1,by omega⟩;rw [Qg.f,Qg.b,Zc3.f,Zp4 _ _ hl,Option.bind_some,Option.bind_some];by_cases h:paP b.decomp c=[]
  ·rw [if_pos (by rw [h];rfl),Zdb h]
  ·rw [if_neg (by intro h2;exact h (List.length_eq_zero_iff.1 (by omega))),if_pos (by omega)]
   simp [Lc,h]
 | succ n ih=>
  intro hn k c lvl e hk;obtain ⟨k,rfl⟩:∃ j,k=j+1:=⟨k-1,by omega⟩;rw [Qg.f,Qg.b,Zc3.f,Zp4 _ _ hl,Option.bind_some,Option.bind_some];by_cases h:paP b.decomp c=[]
  ·rw [if_pos (by rw [h];rfl),Zdb h]
  ·rw [if_neg (by intro h2;exact h (List.length_eq_zero_iff.1 (by omega))),if_neg (by omega),Lc,if_neg h]
   have hpl:(paP b.decomp c).length<=Zv:=by have:=hP c;unfold Zv;omega
   have:=Qe (λkk i s=>Qg.l1 kk (Qg.f k) b lvl (paP b.decomp c) s i) (paP b.decomp c)
    (λpre t s o=>0<=s->s<=37->o=some (cap (s+Zby (Lc (paP b.decomp) n) t)))
    (λs kk h0 h1=>by
     simp only [Qg.l1,if_neg (show ¬ ((paP b.decomp c).length:Int)<((paP b.decomp c).length:Int) by omega),Zby,cap,Int.add_zero]
     split<;>rfl)
    (λpre x t s kk e2 ih2 h0 h1=>by
     obtain ⟨h3,h4⟩:=mid e2
     simp only [Qg.l1,if_pos h4.2,if_pos h4,h3,Qg.j1,nxt hpl e2]
     have hx:=Zdk (paP b.decomp) n x
     by_cases c1:s<=18
     ·rw [if_pos c1,w64 (by omega) (by omega),ih (by omega) k x (lvl+1) (by omega) (by omega),Option.bind_some,w64 (by omega) (by omega)]
      rw [ih2 _ (by omega) (by omega),Zby,Int.add_assoc]
     ·rw [if_neg c1,ih2 _ h0 h1]
      have h5:(0:Int)<=Zby (Lc (paP b.decomp) n) t:=by
       have:=Zff (f:=Lc (paP b.decomp) n) (l:=t) (λy _=>(Zdk _ n y).1)
       omega
      have h6:18<s+Zby (Lc (paP b.decomp) n) (x::t):=by simp only [Zby];omega
      rw [cap,cap,if_pos (by omega),if_pos h6]) 0 K0 (ltK hpl) (by omega) (by omega)
   rw [Int.zero_add] at this;exact this
abbrev Mem:=List (Int×Int)
def Z71 (D:List Chs) (m:Mem):Prop:=∀ c,(U7 m c=none->paP D c=[])/\(∀ j,U7 m c=some j->0<=j/\j<(D.length:Int)/\(rd D j).lo=c)
def un (N:Nat) (M:Mem):Nat:=(List.range N).countP (λj:Nat=>(U7 M (j:Int)).isNone)
def pos (N:Nat) (M:Mem):Nat:=(List.range N).countP (λj:Nat=>decide (0<(U7 M (j:Int)).getD 0))
def Mok (D:List Chs) (M:Mem):Prop:=∀ j n,U7 M j=some n->0<=j/\j<(D.length:Int)/\(n=0\/(0<n/\n<=18/\Lc (paP D) (pos D.length M) (rd D j).lo=n))
def Ext (M M':Mem):Prop:=(∀ j n,U7 M j=some n->U7 M' j=some n)/\(∀ j,U7 M' j=some 0->U7 M j=some 0)
def Zer (D:List Chs) (M:Mem) (d:Nat):Prop:=∀ j,U7 M j=some 0->18<Lc (paP D) d (rd D j).lo
theorem Ext.refl (M:Mem):Ext M M:=⟨λ_ _ h=>h,λ_ h=>h⟩
theorem Ext.trans (h:Ext a b) (g:Ext b c):Ext a c:=⟨λj n e=>g.1 j n (h.1 j n e),λj e=>h.2 j (g.2 j e)⟩
theorem Ext.un (h:Ext M M') (N:Nat):un N M'<=un N M:=Zqq λj _ hj=>by
 cases e:U7 M (j:Int) with
 | none=>rfl
 | some n=>rw [h.1 _ _ e] at hj;simp at hj
theorem Ext.pos (h:Ext M M') (N:Nat):pos N M<=pos N M':=Zqq λj _ hj=>by
 cases e:U7 M (j:Int) with
 | none=>rw [e] at hj;simp at hj
 | some n=>rw [h.1 _ _ e];rw [e] at hj;exact hj
theorem Mok.grow (h:Mok D M) (hp:pos D.length M<=pos D.length M') (e:U7 M j=some n):0<=j/\j<(D.length:Int)/\(n=0\/(0<n/\n<=18/\Lc (paP D) (pos D.length M') (rd D j).lo=n)):=by
 obtain ⟨a,b,c⟩:=h j n e;refine ⟨a,b,?_⟩
 rcases c with c | ⟨c1,c2,c3⟩
 ·exact .inl c
 ·exact .inr ⟨c1,c2,by rw [Zhs _ hp (by omega)];exact c3⟩
theorem Zk2 {α:Type} [Inhabited α] {D:List α} {i:Int} (h0:0<=i) (h1:i<(D.length:Int)):rd D i∈D:=List.mem_of_getElem? (Zrq h0 h1)
def Z7k (D:List Chs) (M:Mem) (i:Int) (o:Option (Int×Mem)):Prop:=∃ r M',o=some (r,M')/\
 ((r=0/\∀ d,Zer D M d->18<Lc (paP D) d (rd D i).lo)\/(0<r/\r<=18/\Mok D M'/\Lc (paP D) (pos D.length M') (rd D i).lo=r/\Ext M M'))
theorem Z25 (hD:D.length<=65536) (hix:Z71 D m) (hrow:∀ x∈D,paP D x.lo=x.is_) (hk:∀ x∈D,1<=x.is_.length/\x.is_.length<=2):
  ∀ (k:Nat) (M:Mem) (i:Int),Mok D M->0<=i->i<(D.length:Int)->un D.length M<k->Z7k D M i (Zw.f k i D m M):=by
 intro k
 induction k with
 | zero=>intro M i _ _ _ h;omega
 | succ k ih=>
  intro M i hM hi0 hi1 hun;rw [Zw.f,Zw.b]
  cases e:U7 M i with
  | some n=>
   refine ⟨n,M,by simp,?_⟩;obtain ⟨_,_,c⟩:=hM i n e
   rcases c with rfl | ⟨c1,c2,c3⟩
   ·exact .inl ⟨rfl,λd hz=>hz i e⟩
   ·exact .inr ⟨c1,c2,hM,c3,Ext.refl M⟩
  | none=>
   rw [if_neg (by simp),if_pos ⟨hi0,hi1⟩];have hmem:=Zk2 hi0 hi1;have hpa:=hrow _ hmem;have hlen:=hk _ hmem;have hpn:paP D (rd D i).lo≠[]:=by rw [hpa];intro h;rw [h] at hlen;simp at hlen
   have hi2:((i.toNat:Nat):Int)=i:=by omega
   have him:i.toNat∈List.range D.length:=by rw [List.mem_range];omega
   have g0:=Zf8 M i;have hp0:pos D.length M<=pos D.length (Zbb M i 0):=Zqq λj _ hj=>by
    rw [g0];by_cases c:(j:Int)=i
    ·rw [c,e] at hj;simp at hj
    ·rw [if_neg c];exact hj
   have hM0:Mok D (Zbb M i 0):=by
    intro j n ej;rw [g0] at ej;by_cases c:j=i
    ·rw [if_pos c] at ej
     have:(0:Int)=n:=by simpa using ej
     exact ⟨by omega,by omega,.inl this.symm⟩
    ·rw [if_neg c] at ej
     exact hM.grow hp0 ej
   have hu0:un D.length (Zbb M i 0)<un D.length M:=Zul him (λj _ hj=>by
     rw [g0] at hj;by_cases c:(j:Int)=i
     ·rw [if_pos c] at hj;simp at hj
     ·rw [if_neg c] at hj;exact hj) (by simp [hi2,g0]) (by simp [hi2,e])
   have hz0:∀ M1 d,Ext (Zbb M i 0) M1->Zer D M d->18<Lc (paP D) d (rd D i).lo->Zer D M1 d:=by
    intro M1 d hx hz h j ej;have:=hx.2 j ej;rw [g0] at this;by_cases c:j=i
    ·rw [c];exact h
    ·rw [if_neg c] at this;exact hz j this
   have h19:Lc (paP D) 0 (rd D i).lo=19:=by simp [Lc,hpn]
   have hl:(rd D i).is_.length<=Zv:=by unfold Zv;omega
   refine Qe (λkk x (s:Mem×Int)=>Zw.l1 kk (Zw.f k) D m i s.1 s.2 x) (rd D i).is_
    (λpre t s o=>Mok D s.1->Ext (Zbb M i 0) s.1->0<=s.2->s.2<=18*(pre.length:Int)->(∀ c∈pre,Lc (paP D) (pos D.length s.1) c<=18)->s.2=Zby (Lc (paP D) (pos D.length s.1)) pre->Z7k D M i o)
    ?_ ?_ (Zbb M i 0,0) K0 (ltK hl) hM0 (Ext.refl _) (Int.le_refl _) (by simp) (λc hc=>by cases hc) rfl
   ·intro ⟨M1,s⟩ kk hM1 hx h0 h1 h2 h3
    simp only at hM1 hx h0 h1 h2 h3;simp only [Zw.l1,if_neg (show ¬ (((rd D i).is_).length:Int)<(((rd D i).is_).length:Int) by omega)];by_cases c:18<s
    ·rw [if_pos c]
     refine ⟨0,M1,rfl,.inl ⟨rfl,λd _=>?_⟩⟩
     cases d with
     | zero=>rw [h19];omega
     | succ d=>
      rw [Lc,if_neg hpn,hpa];have:s<=Zby (Lc (paP D) d) (rd D i).is_:=by rw [h3];exact Zh3 λx hx=>Z7f _ (h2 x hx) d
      unfold cap;rw [if_pos (by omega)];omega
    ·rw [if_neg c]
     have hs1:1<=s:=by have:=Zff (f:=Lc (paP D) (pos D.length M1)) (l:=(rd D i).is_) (λy _=>(Zdk _ _ y).1);omega
     have e1:U7 M1 i=some 0:=hx.1 i 0 (by rw [g0,if_pos rfl]);have g1:=Zf8 M1 i;have hp1:pos D.length M1<pos D.length (Zbb M1 i s):=Zul him (λj _ hj=>by
       rw [g1];by_cases c:(j:Int)=i
       ·rw [c,e1] at hj;simp at hj
       ·rw [if_neg c];exact hj) (by simp [hi2,e1]) (by simp only [hi2,g1,if_true,Option.getD_some];simp;omega)
     have hL:Lc (paP D) (pos D.length M1+1) (rd D i).lo=s:=by rw [Lc,if_neg hpn,hpa,<- h3];unfold cap;rw [if_neg c]
     have hL2:Lc (paP D) (pos D.length (Zbb M1 i s)) (rd D i).lo=s:=by rw [Zhs _ hp1 (by rw [hL];omega),hL]
     refine ⟨s,_,rfl,.inr ⟨by omega,by omega,?_,hL2,?_,?_⟩⟩
     ·intro j n ej
      rw [g1] at ej;by_cases c:j=i
      ·rw [if_pos c] at ej
       have:s=n:=by simpa using ej
       subst this;exact ⟨by omega,by omega,.inr ⟨by omega,by omega,by rw [c];exact hL2⟩⟩
      ·rw [if_neg c] at ej
       exact hM1.grow (Nat.le_of_lt hp1) ej
     ·intro j n ej
      have hne:j≠i:=λh=>by rw [h,e] at ej;cases ej
      rw [g1,if_neg hne];exact hx.1 j n (by rw [g0,if_neg hne];exact ej)
     ·intro j ej
      rw [g1] at ej;by_cases c:j=i
      ·rw [if_pos c] at ej
       have:s=0:=by simpa using ej
       omega
      ·rw [if_neg c] at ej
       have:=hx.2 j ej;rw [g0,if_neg c] at this;exact this
   ·intro pre c t ⟨M1,s⟩ kk e2 ih2 hM1 hx h0 h1 h2 h3
    simp only at hM1 hx h0 h1 h2 h3;obtain ⟨h4,h5⟩:=mid e2;have hpl:pre.length<=1:=by
     have:(rd D i).is_.length=pre.length+(t.length+1):=by rw [e2];simp
     omega
    simp only [Zw.l1,if_pos h5.2,if_pos h5,h4,Zw.j1,nxt hl e2];have hin:c∈(rd D i).is_:=by rw [e2];simp
    cases em:U7 m c with
    | none=>
     simp only [Option.isSome_none,Bool.false_eq_true,if_false];rw [if_neg (by decide),w64 (by omega) (by omega)];have hc:=Zdb ((hix c).1 em);refine ih2 (M1,s+1) hM1 hx (by show 0<=s+1;omega) (by show s+1<=_;simp;omega) ?_ ?_
     ·intro d hd
      rcases List.mem_append.1 hd with hd | hd
      ·exact h2 d hd
      ·rw [List.mem_singleton.1 hd,hc];omega
     ·show s+1=_
      rw [Zoc,<- h3];simp [Zby,hc]
    | some j=>
     obtain ⟨j0,j1,j2⟩:=(hix c).2 j em;simp only [Option.isSome_some,if_true,Option.getD_some];obtain ⟨r,M2,er,hr⟩:=ih M1 j hM1 j0 j1 (by have:=hx.un D.length;omega);rw [er,Option.bind_some];rw [j2] at hr
     rcases hr with ⟨rfl,hr⟩ | ⟨r0,r1,hM2,r2,hx2⟩
     ·rw [if_pos rfl]
      refine ⟨0,M2,rfl,.inl ⟨rfl,λd=>?_⟩⟩
      induction d with
      | zero=>intro _;rw [h19];omega
      | succ d ihd=>
       intro hz;have hz':Zer D M d:=λj ej=>Int.lt_of_lt_of_le (hz j ej) (Zmh _ d _);have h6:=hr d (hz0 M1 d hx hz' (ihd hz'));rw [Lc,if_neg hpn,hpa];have:=Zmg (f:=Lc (paP D) d) (l:=(rd D i).is_) (λy _=>(Zdk _ _ y).1) c hin;unfold cap;rw [if_pos (by omega)];omega
     ·rw [if_neg (by omega),w64 (by omega) (by omega)]
      have hp:=hx2.pos D.length;refine ih2 (M2,s+r) hM2 (hx.trans hx2) (by show 0<=s+r;omega) (by show s+r<=_;simp;omega) ?_ ?_
      ·intro d hd
       rcases List.mem_append.1 hd with hd | hd
       ·show Lc _ (pos D.length M2) d<=18
        rw [Zhs _ hp (h2 d hd)];exact h2 d hd
       ·rw [List.mem_singleton.1 hd];show Lc _ (pos D.length M2) c<=18;omega
      ·show s+r=Zby (Lc (paP D) (pos D.length M2)) _
       rw [Zoc,Zi1 (λd hd=>Zhs _ hp (h2 d hd)),<- h3];simp [Zby,r2]
def Zla (x y:Chs):Bool:=decide ((x.is_.length:Int)=2)&&decide ((y.is_.length:Int)=2)&&decide (rd x.is_ 0=rd y.is_ 0)&&decide (rd x.is_ 1=rd y.is_ 1)
def Ze6 (D:List Chs):List Chs->List Chs->Bool
 | _,[]=>true
 | pre,x::t=>decide (Lc (paP D) (D.length+1) x.lo<=18)&&!pre.any (Zla x)&&Ze6 D (pre++[x]) t
def Zof (x:Chs):Vector Int 2:=#v[rd x.is_ 0,rd x.is_ 1]
theorem Zxp (x y:Chs):Zof x=Zof y↔rd x.is_ 0=rd y.is_ 0/\rd x.is_ 1=rd y.is_ 1:=by
 unfold Zof;constructor
 ·intro h
  have h:=congrArg Vector.toList h;simpa using h
 ·rintro ⟨h1,h2⟩
  rw [h1,h2]
structure Dok (D:List Chs):Prop where
 len:D.length<=65536
 one:∀ x∈D,x.lo=x.hi
 row:∀ x∈D,paP D x.lo=x.is_
 kid:∀ x∈D,1<=x.is_.length/\x.is_.length<=2
theorem Zxd:∀ (D:List Chs) (last:Int),Vu (·.lo) (·.hi) Zcn last D=true->∀ x∈D,paP D x.lo=x.is_
 | [],_,_,x,hx=>by cases hx
 | y::t,last,h,x,hx=>by
  simp only [Vu,Bool.and_eq_true,decide_eq_true_eq] at h
  rcases List.mem_cons.1 hx with rfl | hx
  ·rw [paP,if_pos (by omega)]
  ·have:=(Zdq h.2 x hx).1
   rw [paP,if_neg (by omega)]
   exact Zxd t _ h.2 x hx
theorem Dok.mk' (h:Zav (·.lo) (·.hi) Zcn D=true):Dok D:=by
 simp only [Zav,Bool.and_eq_true,decide_eq_true_eq] at h;have g:∀ x∈D,Zcn x=true:=λx hx=>(Zdq h.2 x hx).2.2.2;refine ⟨h.1,λx hx=>?_,Zxd D _ h.2,λx hx=>?_⟩
 ·have:=g x hx;simp only [Zcn,Bool.and_eq_true,decide_eq_true_eq] at this;exact this.1.1.1
 ·have:=g x hx;simp only [Zcn,H3,Bool.and_eq_true,decide_eq_true_eq] at this
  have:=this.1.2.1;omega
theorem Dok.none {D:List Chs} {c:Int}:∀ {l:List Chs},(∀ x∈l,x.lo=x.hi)->(∀ x∈l,x.lo≠c)->paP l c=[]
 | [],_,_=>rfl
 | x::t,h1,h2=>by
  have a:=h1 x (List.mem_cons_self ..)
  have b:=h2 x (List.mem_cons_self ..)
  rw [paP,if_neg (by omega)]
  exact Dok.none (D:=D) (λy hy=>h1 y (List.mem_cons_of_mem _ hy)) (λy hy=>h2 y (List.mem_cons_of_mem _ hy))
theorem Z4r (h:Dok D) (c:Int):(paP D c).length<=2:=by
 have:∀ l:List Chs,(∀ x∈l,x.is_.length<=2)->(paP l c).length<=2:=by
  intro l
  induction l with
  | nil=>intro _;simp [paP]
  | cons x t ih=>
   intro h;unfold paP;split
   ·exact h x (List.mem_cons_self ..)
   ·exact ih λy hy=>h y (List.mem_cons_of_mem _ hy)
 exact this D λx hx=>(h.kid x hx).2
theorem Z64 (N:Nat) (M:Mem):pos N M<=N:=by
 have:=List.countP_le_length (p:=λj:Nat=>decide (0<(U7 M (j:Int)).getD 0)) (l:=List.range N);simpa [pos] using this
theorem Z8n (N:Nat) (M:Mem):un N M<=N:=by
 have:=List.countP_le_length (p:=λj:Nat=>(U7 M (j:Int)).isNone) (l:=List.range N);simpa [un] using this
theorem Zsp (h:Dok D) (hix:Z71 D m):∃ r,Q3.l1 K0 D m [] [] 0=some r/\Zbx r (Ze6 D [] D):=by
 have hl:D.length<=Zv:=by have:=h.len;unfold Zv;omega
 refine Qe (λk i (s:List (Vector Int 2×Bool)×Mem)=>Q3.l1 k D m s.1 s.2 i) D
  (λpre t s o=>Mok D s.2->(∀ j,U7 s.2 j≠some 0)->(∀ v,(U7 s.1 v).getD false=true↔∃ x∈pre,(x.is_.length:Int)=2/\Zof x=v)->∃ r,o=some r/\Zbx r (Ze6 D pre t))
  ?_ ?_ ([],[]) K0 (ltK hl) (λj n e=>by cases e) (λj e=>by cases e) (λv=>by simp [U7])
 ·intro ⟨S,M⟩ k _ _ _
  exact ⟨-1,by simp only [Q3.l1,if_neg (show ¬ (D.length:Int)<(D.length:Int) by omega)],.inl ⟨rfl,rfl⟩⟩
 ·intro pre x t ⟨S,M⟩ k e ih hM hz hS
  simp only at hM hz hS;obtain ⟨h1,h2⟩:=mid e;have hx:x∈D:=by rw [e];simp
  obtain ⟨r,M',er,hr⟩:=Z25 h.len hix h.row h.kid K0 M (pre.length:Int) hM h2.1 h2.2 (Nat.lt_of_le_of_lt (Z8n _ _) (ltK hl));rw [h1] at hr;simp only [Q3.l1,if_pos h2.2,if_pos h2,er,Option.bind_some,h1,Q3.j1,nxt hl e,Ze6]
  rcases hr with ⟨rfl,hr⟩ | ⟨r0,r1,hM',r2,hE⟩
  ·have:=hr (D.length+1) λj ej=>absurd ej (hz j)
   exact ⟨_,by rw [if_pos rfl],.inr ⟨by simp [show ¬ Lc (paP D) (D.length+1) x.lo<=18 by omega],by omega⟩⟩
  ·rw [if_neg (by omega)]
   have hL:Lc (paP D) (D.length+1) x.lo<=18:=by rw [Zhs _ (Nat.le_succ_of_le (Z64 D.length M')) (by omega)];omega
   have hz':∀ j,U7 M' j≠some 0:=λj ej=>hz j (hE.2 j ej);simp only [hL,decide_true,Bool.true_and];by_cases c:(x.is_.length:Int)=2
   ·rw [if_pos c,if_pos ⟨Int.le_refl _,by omega⟩,if_pos ⟨by omega,by omega⟩]
    have hany:(pre.any (Zla x))=(U7 S (Zof x)).getD false:=by
     rw [Bool.eq_iff_iff,hS,List.any_eq_true];constructor
     ·rintro ⟨y,hy,ht⟩
      simp only [Zla,Bool.and_eq_true,decide_eq_true_eq] at ht;exact ⟨y,hy,ht.1.1.2,((Zxp x y).2 ⟨ht.1.2,ht.2⟩).symm⟩
     ·rintro ⟨y,hy,hy2,ht⟩
      have:=(Zxp x y).1 ht.symm;exact ⟨y,hy,by simp [Zla,c,hy2,this.1,this.2]⟩
    rw [hany]
    cases c2:(U7 S (Zof x)).getD false with
    | true=>exact ⟨(pre.length:Int),by rw [show (#v[rd x.is_ 0,rd x.is_ 1]:Vector Int 2)=Zof x from rfl,if_pos c2],.inr ⟨by simp,by omega⟩⟩
    | false=>
     rw [show (#v[rd x.is_ 0,rd x.is_ 1]:Vector Int 2)=Zof x from rfl,if_neg (by simp [c2])];simp only [Bool.not_false,Bool.true_and];refine ih (Zbb S (Zof x) true,M') hM' hz' λv=>?_;show (U7 (Zbb S (Zof x) true) v).getD false=true↔_;rw [Zf8];by_cases c3:v=Zof x
     ·rw [if_pos c3];simp only [Option.getD_some,true_iff];exact ⟨x,by simp,c,c3.symm⟩
     ·rw [if_neg c3,hS]
      constructor
      ·rintro ⟨y,hy,h3⟩;exact ⟨y,by simp [hy],h3⟩
      ·rintro ⟨y,hy,h3,h4⟩
       rcases List.mem_append.1 hy with hy | hy
       ·exact ⟨y,hy,h3,h4⟩
       ·rw [List.mem_singleton.1 hy] at h4;exact absurd h4.symm c3
   ·rw [if_neg c]
    have hany:pre.any (Zla x)=false:=by rw [List.any_eq_false];intro y _;simp [Zla,c]
    rw [hany];simp only [Bool.not_false,Bool.true_and];refine ih (S,M') hM' hz' λv=>?_;show (U7 S v).getD false=true↔_;rw [hS];constructor
    ·rintro ⟨y,hy,h3⟩;exact ⟨y,by simp [hy],h3⟩
    ·rintro ⟨y,hy,h3,h4⟩
     rcases List.mem_append.1 hy with hy | hy
     ·exact ⟨y,hy,h3,h4⟩
     ·rw [List.mem_singleton.1 hy] at h3;exact absurd h3 c
theorem Zon (h:Dok D):∃ r,Q3.f D=some r/\Zbx r (Ze6 D [] D):=by
 have hl:D.length<=Zv:=by have:=h.len;unfold Zv;omega
 unfold Q3.f;refine Qe (λk i (s:Mem)=>Q3.l2 k D s i) D
  (λpre t s o=>(∀ c,U7 s c=none->∀ x∈pre,x.lo≠c)->(∀ c j,U7 s c=some j->0<=j/\j<(D.length:Int)/\(rd D j).lo=c)->∃ r,o=some r/\Zbx r (Ze6 D [] D))
  ?_ ?_ [] K0 (ltK hl) (λc _ x hx=>by cases hx) (λc j hj=>by cases hj)
 ·intro M k h1 h2
  simp only [Q3.l2,if_neg (show ¬ (D.length:Int)<(D.length:Int) by omega)];exact Zsp h λc=>⟨λe=>Dok.none (D:=D) h.one (h1 c e),λj e=>h2 c j e⟩
 ·intro pre x t M k e ih h1 h2
  obtain ⟨h3,h4⟩:=mid e;simp only [Q3.l2,if_pos h4.2,if_pos h4,h3,nxt hl e];refine ih _ ?_ ?_
  ·intro c hc y hy
   rw [Zf8] at hc;by_cases c1:c=x.lo
   ·rw [if_pos c1] at hc;cases hc
   ·rw [if_neg c1] at hc
    rcases List.mem_append.1 hy with hy | hy
    ·exact h1 c hc y hy
    ·rw [List.mem_singleton.1 hy];exact λh=>c1 h.symm
  ·intro c j hj
   rw [Zf8] at hj;by_cases c1:c=x.lo
   ·rw [if_pos c1] at hj
    have:(pre.length:Int)=j:=by simpa using hj
    subst this;exact ⟨h4.1,h4.2,by rw [h3,c1]⟩
   ·rw [if_neg c1] at hj;exact h2 c j hj
theorem Zru (b:Bk) (h:Dok b.decomp):∃ r,Xv.f b=some r/\Zbx r (Ze6 b.decomp [] b.decomp):=by
 have hl:b.decomp.length<=Zv:=by have:=h.len;unfold Zv;omega
 unfold Xv.f;refine Qe (λk i (_:Unit)=>Xv.l2 k b i) b.decomp
  (λpre t _ o=>∃ r,o=some r/\Zbx r (Ze6 b.decomp pre t)) ?_ ?_ () K0 (ltK hl)
 ·intro _ k
  exact ⟨-1,by simp only [Xv.l2,if_neg (show ¬ (b.decomp.length:Int)<(b.decomp.length:Int) by omega)],.inl ⟨rfl,rfl⟩⟩
 ·intro pre x t _ k e ih
  obtain ⟨h1,h2⟩:=mid e;have ih:=ih ();have hlong:=Z2g b h.len (Z4r h) (b.decomp.length+1) (Nat.le_refl _) K0 x.lo 0 (by omega) (by have:=h.len;unfold K0;omega);simp only [Xv.l2,if_pos h2.2,if_pos h2,h1,hlong,Option.bind_some,Ze6];by_cases c:18<Lc (paP b.decomp) (b.decomp.length+1) x.lo
  ·exact ⟨_,by rw [if_pos c],.inr ⟨by simp [show ¬ Lc (paP b.decomp) (b.decomp.length+1) x.lo<=18 by omega],by omega⟩⟩
  ·rw [if_neg c,if_pos ⟨Int.le_refl _,h2.1,by omega⟩]
   simp only [show Lc (paP b.decomp) (b.decomp.length+1) x.lo<=18 by omega,decide_true,Bool.true_and];have hs:sub b.decomp 0 (pre.length:Int)=pre:=Zme e;have hpl:pre.length<=Zv:=by rw [e] at hl;simp at hl;omega
   have:=Qe (λkk i (_:Unit)=>Xv.l1 (Xv.l2 k b) kk b (pre.length:Int) i) pre
    (λdone rest _ o=>o=if rest.any (Zla x) then some (pre.length:Int) else Xv.l2 k b ((pre.length:Int)+1))
    (λ_ kk=>by simp only [Xv.l1,hs,if_neg (show ¬ (pre.length:Int)<(pre.length:Int) by omega),nxt hl e];rfl)
    (λdone y rest _ kk e2 ih2=>by
     obtain ⟨h3,h4⟩:=mid e2
     have ih2:=ih2 ()
     simp only [Xv.l1,hs,if_pos h4.2,if_pos h4,h1,h3,Xv.j1,nxt hpl e2,List.any_cons]
     by_cases c1:(x.is_.length:Int)=2
     ·by_cases c2:(y.is_.length:Int)=2
      ·rw [if_pos c1,if_pos c2,if_pos ⟨Int.le_refl _,by omega⟩,if_pos ⟨Int.le_refl _,by omega⟩]
       by_cases c3:rd x.is_ 0=rd y.is_ 0
       ·rw [if_pos c3,if_pos ⟨by omega,by omega⟩,if_pos ⟨by omega,by omega⟩]
        by_cases c4:rd x.is_ 1=rd y.is_ 1
        ·simp [c4,Zla,c1,c2,c3]
        ·simpa [c4,Zla] using ih2
       ·simpa [c3,Zla] using ih2
      ·rw [if_pos c1,if_neg c2];simpa [Zla,c2] using ih2
     ·rw [if_neg c1];simpa [Zla,c1] using ih2) () K0 (ltK hpl)
   rw [this]
   cases c5:pre.any (Zla x) with
   | true=>exact ⟨(pre.length:Int),by simp,.inr ⟨by simp,by omega⟩⟩
   | false=>simpa using ih
structure Few (b:Bk):Prop where
 names:b.names.length<=Zv
 status:b.status.length<=Zv
 maps:b.maps.length<=Zv
 class_:b.class_.length<=Zv
 decomp:b.decomp.length<=Zv
 excl:b.excl.length<=Zv
 bidi:b.bidi.length<=Zv
 join:b.join.length<=Zv
 marks:b.marks.length<=Zv
 script:b.script.length<=Zv
 like:b.like.length<=Zv
 mapsI:∀ x∈b.maps,x.is_.length<=Zv
 decompI:∀ x∈b.decomp,x.is_.length<=Zv
 likeI:∀ x∈b.like,x.is_.length<=Zv
def Ztp (a b:Int) (l:List Val):Bool:=Zav (·.lo) (·.hi) (λx:Val=>decide (a<=x.n)&&decide (x.n<=b)) l
def Z3v (a b:Int) (l:List Val):Bool:=Zav (·.lo) (·.hi) (λx:Val=>decide (a<=x.n)&&decide (x.n<=b)&&!Zar x.lo x.hi) l
def Z8h (x:Val):Bool:=decide (1<=x.n)&&decide (x.n<=3)
def okB (b:Bk):Bool:=
 Znm b.names&&(Ztp 1 3 b.status&&(Zav (·.lo) (·.hi) (Zj2 b.status) b.maps&&(Z3v 1 254 b.class_&&(Zav (·.lo) (·.hi) Zcn b.decomp&&
 (Zav (·.lo) (·.hi) (λx:Spn=>!Zar x.lo x.hi) b.excl&&(Ztp 0 22 b.bidi&&(Ztp 0 5 b.join&&(Zav (·.lo) (·.hi) (λ_:Spn=>true) b.marks&&
 (Ztp 1 (b.names.length:Int) b.script&&(Zav (·.lo) (·.hi) (λx:Chs=>H3 x.is_ 1 18) b.like&&Ze6 b.decomp [] b.decomp))))))))))
theorem Zbx.cases' (h:Zbx r w):(w=false/\0<=r)\/(w=true/\¬ 0<=r):=by
 rcases h with ⟨rfl,rfl⟩ | ⟨rfl,h⟩
 ·exact .inr ⟨rfl,by decide⟩
 ·exact .inl ⟨rfl,h⟩
theorem Zbf {o o':Option (Wh×Int)} (hs:Zbx r w) (h:w=true->∃ p,o'=some (p,if w' then 0 else 100)) (e:o=if 0<=r then some (p,100) else o'):
  ∃ p,o=some (p,if w&&w' then 0 else 100):=by
 rcases hs.cases' with ⟨rfl,hr⟩ | ⟨rfl,hr⟩
 ·exact ⟨p,by rw [e,if_pos hr];rfl⟩
 ·obtain ⟨q,hq⟩:=h rfl
  exact ⟨q,by rw [e,if_neg hr,hq];rfl⟩
theorem Zib (b:Bk):∃ p,Ub.f b=some (p,if okB b then 0 else 100):=by
 unfold Ub.f okB;obtain ⟨r1,e1,s1⟩:=Z1y b.names;rw [Zax.f,e1];refine Zbf s1 (λh1=>?_) rfl;obtain ⟨r2,e2,s2⟩:=Zj6 1 3 b.status;rw [Zay.f,show Qp.f b.status 1 3=some r2 from by first | exact e2 | (simp only [Qp.f,Ua.f,e2];rfl)]
 refine Zbf s2 (λh2=>?_) rfl;have hst:b.status.length<=Zv/\Vu (·.lo) (·.hi) Z8h (-1) b.status=true:=by simp only [Ztp,Zav,Bool.and_eq_true,decide_eq_true_eq] at h2;exact ⟨by unfold Zv;omega,h2.2⟩
 obtain ⟨r3,e3,s3⟩:=Zzd b ⟨_,hst.2⟩ hst.1;rw [Zaz.f,show Zcw.f (⟨b.names,b.status,b.maps,b.class_,b.decomp,b.excl,b.bidi,b.join,b.marks,b.script,b.like⟩:Bk)=some r3 from by first | exact e3 | (simp only [Qp.f,Ua.f,e3];rfl)]
 refine Zbf s3 (λ_=>?_) rfl;obtain ⟨r4,e4,s4⟩:=Zvq 1 254 b.class_;rw [Za0.f,show Ua.f b.class_ 1 254=some r4 from by first | exact e4 | (simp only [Qp.f,Ua.f,e4];rfl)]
 refine Zbf s4 (λ_=>?_) rfl;obtain ⟨r5,e5,s5⟩:=Zty b.decomp;rw [Za1.f,e5];refine Zbf s5 (λh5=>?_) rfl;obtain ⟨r6,e6,s6⟩:=Zzb b.excl;rw [Za2.f,e6];refine Zbf s6 (λ_=>?_) rfl;obtain ⟨r7,e7,s7⟩:=Zj6 0 22 b.bidi;rw [Zac.f,show Zbc.f=some _ from rfl,Option.bind_some,show (i64.wrap _:Int)=22 from by rw [w64 (by simp) (by simp)];rfl,show Qp.f b.bidi 0 22=some r7 from by first | exact e7 | (simp only [Qp.f,Ua.f,e7];rfl)]
 refine Zbf s7 (λ_=>?_) rfl;obtain ⟨r8,e8,s8⟩:=Zj6 0 5 b.join;rw [Zad.f,show Zcj.f=some _ from rfl,Option.bind_some,show (i64.wrap _:Int)=5 from by rw [w64 (by simp) (by simp)];rfl,show Qp.f b.join 0 5=some r8 from by first | exact e8 | (simp only [Qp.f,Ua.f,e8];rfl)]
 refine Zbf s8 (λ_=>?_) rfl;obtain ⟨r9,e9,s9⟩:=Zvp b.marks;rw [Zae.f,e9];refine Zbf s9 (λ_=>?_) rfl;obtain ⟨r10,e10,s10⟩:=Zj6 1 (b.names.length:Int) b.script;rw [Zaf.f,show Qp.f b.script 1 _=some r10 from by first | exact e10 | (simp only [Qp.f,Ua.f,e10];rfl)]
 refine Zbf s10 (λ_=>?_) rfl;obtain ⟨r11,e11,s11⟩:=Zzc b.like;rw [Zag.f,e11];refine Zbf s11 (λ_=>?_) rfl;obtain ⟨r12,e12,s12⟩:=Zon (Dok.mk' h5);rw [Zah.f,e12];obtain ⟨p,hp⟩:=Zbf (w':=true) (o':=some ((⟨0,0⟩:Wh),0)) s12 (λ_=>⟨_,rfl⟩) rfl;exact ⟨p,by rw [Bool.and_true] at hp;exact hp⟩
end Go.Proofs.YtamfohpmmklhpaaGreatDoor
