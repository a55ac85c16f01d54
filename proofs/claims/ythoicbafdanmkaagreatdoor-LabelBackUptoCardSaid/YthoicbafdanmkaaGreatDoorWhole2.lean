/- Texts of this repo, merged for the claim: TP2, TP3, TC0, TC1. -/
import Derived.Test.YthoicbafdanmkaaGreatDoorWhole0
import Derived.Test.YthoicbafdanmkaaGreatDoorWhole1
/- Written by this repo's gen.py: for each Go function a Lean function with the same answers and the walk that shows it. -/
namespace Go.Proofs.YthoicbafdanmkaaGreatDoor
open Go.IntKind (i8 i16 i32 i64 u8 u16 u32 u64)
open Go.RowKit
set_option maxRecDepth 100000
set_option maxHeartbeats 4000000
variable {w0 w:World} {ρ:Hp} {Γ:List Kd}
set_option linter.unusedVariables false
def Vb.f (x0:Bk):Option (Wh×Int):=(He.f x0.names x0.status x0.maps x0.class_ x0.decomp x0.excl x0.bidi x0.join x0.marks x0.script x0.like).bind fun bc=>(if 0≤bc then (some ((⟨1,bc⟩:Wh),100)) else ((Hb.f x0.names x0.status x0.maps x0.class_ x0.decomp x0.excl x0.bidi x0.join x0.marks x0.script x0.like).bind fun bd=>(if 0≤bd then (some ((⟨2,bd⟩:Wh),100)) else ((Hc.f x0.names x0.status x0.maps x0.class_ x0.decomp x0.excl x0.bidi x0.join x0.marks x0.script x0.like).bind fun be=>(if 0≤be then (some ((⟨3,be⟩:Wh),100)) else ((Hd.f x0.names x0.status x0.maps x0.class_ x0.decomp x0.excl x0.bidi x0.join x0.marks x0.script x0.like).bind fun bf=>(if 0≤bf then (some ((⟨4,bf⟩:Wh),100)) else ((U9.f x0.names x0.status x0.maps x0.class_ x0.decomp x0.excl x0.bidi x0.join x0.marks x0.script x0.like).bind fun bg=>(if 0≤bg then (some ((⟨5,bg⟩:Wh),100)) else ((U8.f x0.names x0.status x0.maps x0.class_ x0.decomp x0.excl x0.bidi x0.join x0.marks x0.script x0.like).bind fun bh=>(if 0≤bh then (some ((⟨6,bh⟩:Wh),100)) else ((Ux.f x0.names x0.status x0.maps x0.class_ x0.decomp x0.excl x0.bidi x0.join x0.marks x0.script x0.like).bind fun bi=>(if 0≤bi then (some ((⟨7,bi⟩:Wh),100)) else ((U0.f x0.names x0.status x0.maps x0.class_ x0.decomp x0.excl x0.bidi x0.join x0.marks x0.script x0.like).bind fun bj=>(if 0≤bj then (some ((⟨8,bj⟩:Wh),100)) else ((U1.f x0.names x0.status x0.maps x0.class_ x0.decomp x0.excl x0.bidi x0.join x0.marks x0.script x0.like).bind fun bk=>(if 0≤bk then (some ((⟨9,bk⟩:Wh),100)) else ((Us.f x0.names x0.status x0.maps x0.class_ x0.decomp x0.excl x0.bidi x0.join x0.marks x0.script x0.like).bind fun bl=>(if 0≤bl then (some ((⟨10,bl⟩:Wh),100)) else ((Uw.f x0.names x0.status x0.maps x0.class_ x0.decomp x0.excl x0.bidi x0.join x0.marks x0.script x0.like).bind fun bm=>(if 0≤bm then (some ((⟨11,bm⟩:Wh),100)) else ((Uu.f x0.names x0.status x0.maps x0.class_ x0.decomp x0.excl x0.bidi x0.join x0.marks x0.script x0.like).bind fun bn=>(if 0≤bn then (some ((⟨5,bn⟩:Wh),100)) else (some ((⟨0,0⟩:Wh),0)))))))))))))))))))))))))
abbrev Vb.t90 (aa ab ac ad:Nat):List Value:=[.int .i64 1,.func (.func 92) #[] #[.pointer (some ⟨aa,0,none⟩)],.int .i64 2,.func (.func 94) #[] #[.pointer (some ⟨aa,0,none⟩),.pointer (some ⟨ab,0,none⟩)],.int .i64 3,.func (.func 96) #[] #[.pointer (some ⟨aa,0,none⟩)],.int .i64 4,.func (.func 98) #[] #[.pointer (some ⟨aa,0,none⟩),.pointer (some ⟨ac,0,none⟩)],.int .i64 5,.func (.func 99) #[] #[.pointer (some ⟨aa,0,none⟩),.pointer (some ⟨ac,0,none⟩)],.int .i64 6,.func (.func 102) #[] #[.pointer (some ⟨aa,0,none⟩),.pointer (some ⟨ac,0,none⟩)],.int .i64 7,.func (.func 105) #[] #[.pointer (some ⟨aa,0,none⟩),.pointer (some ⟨ab,0,none⟩)],.int .i64 8,.func (.func 107) #[] #[.pointer (some ⟨aa,0,none⟩),.pointer (some ⟨ab,0,none⟩)],.int .i64 9,.func (.func 109) #[] #[.pointer (some ⟨aa,0,none⟩),.pointer (some ⟨ab,0,none⟩)],.int .i64 10,.func (.func 110) #[] #[.pointer (some ⟨aa,0,none⟩),.pointer (some ⟨ab,0,none⟩)],.int .i64 11,.func (.func 111) #[] #[.pointer (some ⟨aa,0,none⟩),.pointer (some ⟨ad,0,none⟩)],.int .i64 5,.func (.func 112) #[] #[.pointer (some ⟨aa,0,none⟩)]]
theorem Vb.c (hs:St w0 ρ (Γ) w) {c0:List Value} {x0:Bk} (h0:rBk.R ρ c0 x0) {r:Wh×Int} (H:Vb.f x0=some r):Zq Tryz.prog 60 [.agg c0.toArray] w (fun v w'=>∃ (ρ':Hp) (cs0:List Value),v=.tuple #[.agg cs0.toArray,.int .i64 r.2]∧Le ρ ρ'∧St w0 ρ' (Γ) w'∧rWh.R ρ' cs0 r.1):=by
 rw [Vb.f] at H
 refine Et Tryz.func60 Tryz.ntmps60 rfl ?_
 have ge:=h0
 obtain ⟨ak,al,am,an,ao,ap,aq,ar,au,av,aw,rfl,ay,az,a0,a1,a2,a3,a4,a5,a6,a7,a8⟩:=ge
 refine Wr fun l4 gf=>Vn (cs:=[ak,al,am,an,ao,ap,aq,ar,au,av,aw]) hs rfl rfl (fun aa w hs=>Y6 Zci hs rfl (fun a9 w hs=>As rfl<|Ox gf<|Wr fun l5 gg=>Y6 Zyl hs rfl (fun ab w hs=>V6 (i:=0) Zx5 hs rfl rfl rfl rfl rfl (fun w hs=>Ox gg<|Wr fun l6 gh=>Y6 Zyl hs rfl (fun ac w hs=>?_)))))
 refine V6 (i:=0) Zx5 hs rfl rfl rfl rfl rfl (fun w hs=>Ox gh<|Wr fun l7 gi=>Y6 Z0l hs rfl (fun ad w hs=>V6 (i:=0) Z0q hs rfl rfl rfl rfl rfl (fun w hs=>Ox gi<|Wr fun l8 gj=>O_y rfl (Hi rfl)<|O_y rfl (Qg (cs:=[.int .i64 1,.func (.func 92) #[] #[.pointer (some ⟨aa,0,none⟩)]]) Zan Zds ((Z3.cons rfl rfl (Z3.cons rfl rfl Z3.nil))) Zal (by kernel_rfl))<|O_y rfl (Hi rfl)<|O_y rfl (Qg (cs:=[.int .i64 2,.func (.func 94) #[] #[.pointer (some ⟨aa,0,none⟩),.pointer (some ⟨ab,0,none⟩)]]) Zan Zds ((Z3.cons rfl rfl (Z3.cons rfl rfl Z3.nil))) Zal (by kernel_rfl))<|O_y rfl (Hi rfl) ?_)))
 refine O_y rfl (Qg (cs:=[.int .i64 3,.func (.func 96) #[] #[.pointer (some ⟨aa,0,none⟩)]]) Zan Zds ((Z3.cons rfl rfl (Z3.cons rfl rfl Z3.nil))) Zal (by kernel_rfl))<|O_y rfl (Hi rfl)<|O_y rfl (Qg (cs:=[.int .i64 4,.func (.func 98) #[] #[.pointer (some ⟨aa,0,none⟩),.pointer (some ⟨ac,0,none⟩)]]) Zan Zds ((Z3.cons rfl rfl (Z3.cons rfl rfl Z3.nil))) Zal (by kernel_rfl))<|O_y rfl (Hi rfl)<|O_y rfl (Qg (cs:=[.int .i64 5,.func (.func 99) #[] #[.pointer (some ⟨aa,0,none⟩),.pointer (some ⟨ac,0,none⟩)]]) Zan Zds ((Z3.cons rfl rfl (Z3.cons rfl rfl Z3.nil))) Zal (by kernel_rfl))<|O_y rfl (Hi rfl)<|O_y rfl (Qg (cs:=[.int .i64 6,.func (.func 102) #[] #[.pointer (some ⟨aa,0,none⟩),.pointer (some ⟨ac,0,none⟩)]]) Zan Zds ((Z3.cons rfl rfl (Z3.cons rfl rfl Z3.nil))) Zal (by kernel_rfl))<|O_y rfl (Hi rfl)<|O_y rfl (Qg (cs:=[.int .i64 7,.func (.func 105) #[] #[.pointer (some ⟨aa,0,none⟩),.pointer (some ⟨ab,0,none⟩)]]) Zan Zds ((Z3.cons rfl rfl (Z3.cons rfl rfl Z3.nil))) Zal (by kernel_rfl))<|O_y rfl (Hi rfl)<|O_y rfl (Qg (cs:=[.int .i64 8,.func (.func 107) #[] #[.pointer (some ⟨aa,0,none⟩),.pointer (some ⟨ab,0,none⟩)]]) Zan Zds ((Z3.cons rfl rfl (Z3.cons rfl rfl Z3.nil))) Zal (by kernel_rfl))<|O_y rfl (Hi rfl)<|O_y rfl (Qg (cs:=[.int .i64 9,.func (.func 109) #[] #[.pointer (some ⟨aa,0,none⟩),.pointer (some ⟨ab,0,none⟩)]]) Zan Zds ((Z3.cons rfl rfl (Z3.cons rfl rfl Z3.nil))) Zal (by kernel_rfl))<|O_y rfl (Hi rfl) ?_
 refine O_y rfl (Qg (cs:=[.int .i64 10,.func (.func 110) #[] #[.pointer (some ⟨aa,0,none⟩),.pointer (some ⟨ab,0,none⟩)]]) Zan Zds ((Z3.cons rfl rfl (Z3.cons rfl rfl Z3.nil))) Zal (by kernel_rfl))<|O_y rfl (Hi rfl)<|O_y rfl (Qg (cs:=[.int .i64 11,.func (.func 111) #[] #[.pointer (some ⟨aa,0,none⟩),.pointer (some ⟨ad,0,none⟩)]]) Zan Zds ((Z3.cons rfl rfl (Z3.cons rfl rfl Z3.nil))) Zal (by kernel_rfl))<|O_y rfl (Hi rfl)<|O_y rfl (Qg (cs:=[.int .i64 5,.func (.func 112) #[] #[.pointer (some ⟨aa,0,none⟩)]]) Zan Zds ((Z3.cons rfl rfl (Z3.cons rfl rfl Z3.nil))) Zal (by kernel_rfl))<|Zkj (xs:=[.tmp 12,.tmp 14,.tmp 16,.tmp 18,.tmp 20,.tmp 22,.tmp 24,.tmp 26,.tmp 28,.tmp 30,.tmp 32,.tmp 34]) Zc3 hs rfl rfl rfl (by decide) (by decide) rfl (Yd rfl (Yd rfl (Yd rfl (Yd rfl (Yd rfl (Yd rfl (Yd rfl (Yd rfl (Yd rfl (Yd rfl (Yd rfl (Yd rfl Ki)))))))))))) (fun ba w hs=>As rfl<|Ox gj<|W.weak [(2,_),(7,_)] (T2 rfl)<|Zi fun l9 gk=>Wr fun ma gl=>Mv rfl<|O_y rfl (Hg (i:=0) Zyp hs rfl rfl) ?_)
 refine Mv rfl<|Ox gl<|Zl fun mb gm mc=>Zzn<|H2 fun md gn=>Wr fun go ct=>O_y rfl (Zbz (v':=.bool true) (Za7 rfl rfl) (by kernel_rfl))<|Ox ct<|Zi fun gp cu=>Zak rfl<|Wx cu<|Zi fun gq cv=>Zl fun gr gs gt=>?_
 refine Zi fun gu cw=>Zc ?_
 obtain ⟨gv,bp⟩:=hs.rowBlock (j:=0) rfl (by decide)
 refine O_y rfl (Vv (j:=0) Zc3 hs rfl bp rfl rfl (by decide) (by decide))<|O_y rfl (Q0 Zal Zam rfl rfl (fun j u hu=>hs.rowCell (j:=0) rfl bp ((Zae (o:=0) (k:=2) rfl) j u hu)))<|Y6 Zan hs rfl (fun ae w hs=>Ye (i:=0) Zam hs rfl rfl rfl rfl rfl (Zb rfl (Zb rfl Ym)) (fun w hs=>Ox cw<|Wr fun gw cx=>Ofd Zbb rfl<|Obx 0 Zdw hs rfl ?_))
 have hs:=hs.front 6 rfl
 obtain ⟨bc,cf,H⟩:=bnd H
 refine Xs rfl rfl rfl (He.c hs ay az a0 a1 a2 a3 a4 a5 a6 a7 a8 cf) (fun gx w hpost=>?_)
 obtain ⟨rfl,hs⟩:=hpost
 have hs:=hs.sink 6
 refine As rfl<|Ox cx<|Wr fun gy cy=>Mv rfl<|Oge rfl<|Ox cy<|W.weak [(2,_),(9,_),(10,_),(36,_),(37,_),(38,_),(46,_)] sbn ?_
 refine Xa rfl (fun b2=>?_) (fun b2=>?_)
 rw [if_pos b2] at H
 refine Wr fun gz cz=>Ofd Zba rfl<|Obx 0 ag3 hs rfl<|Mv rfl<|O_y rfl (Qg (cs:=[.int .i64 1,.int .i64 bc]) Zci Zc1 ((Z3.cons rfl rfl (Z3.cons rfl rfl Z3.nil))) H7 (by kernel_rfl))<|Ye (i:=5) H0 hs rfl rfl rfl rfl rfl (Zb rfl (Zb rfl Ym)) (fun w hs=>As rfl<|Ox cz<|Zm ?_)
 obtain rfl:=Z4 H
 exact Zc9 (i:=5) rfl rfl rfl H7 H0 hs rfl rfl ⟨_,_,rfl,Le.rfl' _,(hs.sub (ssk (ssk (ssk (ssk (ssk (ssk (ssk ssr)))))))),rfl⟩
 rw [if_neg b2] at H
 refine Wx cv<|Zc<|O_y rfl (Zbz (v':=.int .i64 1) (H8 rfl rfl) (by kernel_rfl))<|Mv rfl<|Ox gn<|WL.weak [(2,_),(36,_),(37,_),(38,_)] (T4 rfl) ?_
 have hs:St w0 ρ ((.box ae 137 ([.int .i64 1,.func (.func 92) #[] #[.pointer (some ⟨aa,0,none⟩)]]))::(.row (.slice (some ⟨ba,0,none⟩) 12 12) 137 2 12 (Vb.t90 aa ab ac ad))::(.box ad 135 ([.func (.func 90) #[] #[]]))::(.box ac 133 ([.func (.func 88) #[] #[]]))::(.box ab 133 ([.func (.func 87) #[] #[]]))::(.box a9 100 ([.int .i64 0,.int .i64 0]))::(.box aa 27 ([ak,al,am,an,ao,ap,aq,ar,au,av,aw]))::Γ) w:=hs
 refine H2 fun ha da=>Wr fun hb db=>O_y rfl (Zbz (v':=.bool true) (Za7 rfl rfl) (by kernel_rfl))<|Ox db<|Zi fun hc dc=>Zak rfl<|Wx dc<|Zi fun hd dd=>Zl fun he hf hg=>Zi fun hh de=>Zc ?_
 obtain ⟨hi,bq⟩:=hs.rowBlock (j:=1) rfl (by decide)
 refine O_y rfl (Vv (j:=1) Zc3 hs rfl bq rfl rfl (by decide) (by decide))<|O_y rfl (Q0 Zal Zam rfl rfl (fun j u hu=>hs.rowCell (j:=1) rfl bq ((Zae (o:=2) (k:=2) rfl) j u hu)))<|Y6 Zan hs rfl (fun af w hs=>Ye (i:=0) Zam hs rfl rfl rfl rfl rfl (Zb rfl (Zb rfl Ym)) (fun w hs=>Ox de<|Wr fun hj df=>Ofd Zbb rfl<|Obx 0 Zdw hs rfl ?_))
 have hs:=hs.front 5 rfl
 have hs:=hs.front 7 rfl
 obtain ⟨bd,cg,H⟩:=bnd H
 refine Xs rfl rfl rfl (Hb.c hs ay az a0 a1 a2 a3 a4 a5 a6 a7 a8 cg) (fun hk w hpost=>?_)
 obtain ⟨rfl,hs⟩:=hpost
 have hs:=hs.sink 7
 have hs:=hs.sink 5
 refine As rfl<|Ox df<|Wr fun hl dg=>Mv rfl<|Oge rfl<|Ox dg<|Xa rfl (fun b3=>?_) (fun b3=>?_)
 rw [if_pos b3] at H
 refine Wr fun hm dh=>Ofd Zba rfl<|Obx 0 ag3 hs rfl<|Mv rfl<|O_y rfl (Qg (cs:=[.int .i64 2,.int .i64 bd]) Zci Zc1 ((Z3.cons rfl rfl (Z3.cons rfl rfl Z3.nil))) H7 (by kernel_rfl))<|Ye (i:=6) H0 hs rfl rfl rfl rfl rfl (Zb rfl (Zb rfl Ym)) (fun w hs=>As rfl<|Ox dh<|W.weak [(2,_),(3,_)] (T2 rfl)<|Zm ?_)
 obtain rfl:=Z4 H
 exact Zc9 (i:=6) rfl rfl rfl H7 H0 hs rfl rfl ⟨_,_,rfl,Le.rfl' _,(hs.sub (ssk (ssk (ssk (ssk (ssk (ssk (ssk (ssk ssr))))))))),rfl⟩
 rw [if_neg b3] at H
 refine Wx dd<|Zc<|O_y rfl (Zbz (v':=.int .i64 2) (H8 rfl rfl) (by kernel_rfl))<|Mv rfl<|Ox da<|WL.weak [(2,_),(36,_),(37,_),(38,_)] (T4 rfl) ?_
 have hs:St w0 ρ ((.box af 137 ([.int .i64 2,.func (.func 94) #[] #[.pointer (some ⟨aa,0,none⟩),.pointer (some ⟨ab,0,none⟩)]]))::(.box ae 137 ([.int .i64 1,.func (.func 92) #[] #[.pointer (some ⟨aa,0,none⟩)]]))::(.row (.slice (some ⟨ba,0,none⟩) 12 12) 137 2 12 (Vb.t90 aa ab ac ad))::(.box ad 135 ([.func (.func 90) #[] #[]]))::(.box ac 133 ([.func (.func 88) #[] #[]]))::(.box ab 133 ([.func (.func 87) #[] #[]]))::(.box a9 100 ([.int .i64 0,.int .i64 0]))::(.box aa 27 ([ak,al,am,an,ao,ap,aq,ar,au,av,aw]))::Γ) w:=hs
 refine H2 fun hn di=>Wr fun ho dj=>O_y rfl (Zbz (v':=.bool true) (Za7 rfl rfl) (by kernel_rfl))<|Ox dj<|Zi fun hp dk=>Zak rfl<|Wx dk<|Zi fun hq dl=>Zl fun hr ht hv=>Zi fun hw dm=>Zc ?_
 obtain ⟨hx,br⟩:=hs.rowBlock (j:=2) rfl (by decide)
 refine O_y rfl (Vv (j:=2) Zc3 hs rfl br rfl rfl (by decide) (by decide))<|O_y rfl (Q0 Zal Zam rfl rfl (fun j u hu=>hs.rowCell (j:=2) rfl br ((Zae (o:=4) (k:=2) rfl) j u hu)))<|Y6 Zan hs rfl (fun ag w hs=>Ye (i:=0) Zam hs rfl rfl rfl rfl rfl (Zb rfl (Zb rfl Ym)) (fun w hs=>Ox dm<|Wr fun hy dn=>Ofd Zbb rfl<|Obx 0 Zdw hs rfl ?_))
 have hs:=hs.front 8 rfl
 obtain ⟨be,ch,H⟩:=bnd H
 refine Xs rfl rfl rfl (Hc.c hs ay az a0 a1 a2 a3 a4 a5 a6 a7 a8 ch) (fun hz w hpost=>?_)
 obtain ⟨rfl,hs⟩:=hpost
 have hs:=hs.sink 8
 refine As rfl<|Ox dn<|Wr fun ia dp=>Mv rfl<|Oge rfl<|Ox dp<|Xa rfl (fun b4=>?_) (fun b4=>?_)
 rw [if_pos b4] at H
 refine Wr fun ib dq=>Ofd Zba rfl<|Obx 0 ag3 hs rfl<|Mv rfl<|O_y rfl (Qg (cs:=[.int .i64 3,.int .i64 be]) Zci Zc1 ((Z3.cons rfl rfl (Z3.cons rfl rfl Z3.nil))) H7 (by kernel_rfl))<|Ye (i:=7) H0 hs rfl rfl rfl rfl rfl (Zb rfl (Zb rfl Ym)) (fun w hs=>As rfl<|Ox dq<|W.weak [(2,_),(3,_)] (T2 rfl)<|Zm ?_)
 obtain rfl:=Z4 H
 exact Zc9 (i:=7) rfl rfl rfl H7 H0 hs rfl rfl ⟨_,_,rfl,Le.rfl' _,(hs.sub (ssk (ssk (ssk (ssk (ssk (ssk (ssk (ssk (ssk ssr)))))))))),rfl⟩
 rw [if_neg b4] at H
 refine Wx dl<|Zc<|O_y rfl (Zbz (v':=.int .i64 3) (H8 rfl rfl) (by kernel_rfl))<|Mv rfl<|Ox di<|WL.weak [(2,_),(36,_),(37,_),(38,_)] (T4 rfl) ?_
 have hs:St w0 ρ ((.box ag 137 ([.int .i64 3,.func (.func 96) #[] #[.pointer (some ⟨aa,0,none⟩)]]))::(.box af 137 ([.int .i64 2,.func (.func 94) #[] #[.pointer (some ⟨aa,0,none⟩),.pointer (some ⟨ab,0,none⟩)]]))::(.box ae 137 ([.int .i64 1,.func (.func 92) #[] #[.pointer (some ⟨aa,0,none⟩)]]))::(.row (.slice (some ⟨ba,0,none⟩) 12 12) 137 2 12 (Vb.t90 aa ab ac ad))::(.box ad 135 ([.func (.func 90) #[] #[]]))::(.box ac 133 ([.func (.func 88) #[] #[]]))::(.box ab 133 ([.func (.func 87) #[] #[]]))::(.box a9 100 ([.int .i64 0,.int .i64 0]))::(.box aa 27 ([ak,al,am,an,ao,ap,aq,ar,au,av,aw]))::Γ) w:=hs
 refine H2 fun ic dr=>Wr fun id ds=>O_y rfl (Zbz (v':=.bool true) (Za7 rfl rfl) (by kernel_rfl))<|Ox ds<|Zi fun ie dt=>Zak rfl<|Wx dt<|Zi fun ig du=>Zl fun ih ii ij=>Zi fun ik dv=>Zc ?_
 obtain ⟨il,bs⟩:=hs.rowBlock (j:=3) rfl (by decide)
 refine O_y rfl (Vv (j:=3) Zc3 hs rfl bs rfl rfl (by decide) (by decide))<|O_y rfl (Q0 Zal Zam rfl rfl (fun j u hu=>hs.rowCell (j:=3) rfl bs ((Zae (o:=6) (k:=2) rfl) j u hu)))<|Y6 Zan hs rfl (fun ah w hs=>Ye (i:=0) Zam hs rfl rfl rfl rfl rfl (Zb rfl (Zb rfl Ym)) (fun w hs=>Ox dv<|Wr fun im dw=>Ofd Zbb rfl<|Obx 0 Zdw hs rfl ?_))
 have hs:=hs.front 6 rfl
 have hs:=hs.front 9 rfl
 obtain ⟨bf,ci,H⟩:=bnd H
 refine Xs rfl rfl rfl (Hd.c hs ay az a0 a1 a2 a3 a4 a5 a6 a7 a8 ci) (fun io w hpost=>?_)
 obtain ⟨rfl,hs⟩:=hpost
 have hs:=hs.sink 9
 have hs:=hs.sink 6
 refine As rfl<|Ox dw<|Wr fun ip dx=>Mv rfl<|Oge rfl<|Ox dx<|Xa rfl (fun b5=>?_) (fun b5=>?_)
 rw [if_pos b5] at H
 refine Wr fun iq dy=>Ofd Zba rfl<|Obx 0 ag3 hs rfl<|Mv rfl<|O_y rfl (Qg (cs:=[.int .i64 4,.int .i64 bf]) Zci Zc1 ((Z3.cons rfl rfl (Z3.cons rfl rfl Z3.nil))) H7 (by kernel_rfl))<|Ye (i:=8) H0 hs rfl rfl rfl rfl rfl (Zb rfl (Zb rfl Ym)) (fun w hs=>As rfl<|Ox dy<|W.weak [(2,_),(3,_)] (T2 rfl)<|Zm ?_)
 obtain rfl:=Z4 H
 exact Zc9 (i:=8) rfl rfl rfl H7 H0 hs rfl rfl ⟨_,_,rfl,Le.rfl' _,(hs.sub (ssk (ssk (ssk (ssk (ssk (ssk (ssk (ssk (ssk (ssk ssr))))))))))),rfl⟩
 rw [if_neg b5] at H
 refine Wx du<|Zc<|O_y rfl (Zbz (v':=.int .i64 4) (H8 rfl rfl) (by kernel_rfl))<|Mv rfl<|Ox dr<|WL.weak [(2,_),(36,_),(37,_),(38,_)] (T4 rfl) ?_
 have hs:St w0 ρ ((.box ah 137 ([.int .i64 4,.func (.func 98) #[] #[.pointer (some ⟨aa,0,none⟩),.pointer (some ⟨ac,0,none⟩)]]))::(.box ag 137 ([.int .i64 3,.func (.func 96) #[] #[.pointer (some ⟨aa,0,none⟩)]]))::(.box af 137 ([.int .i64 2,.func (.func 94) #[] #[.pointer (some ⟨aa,0,none⟩),.pointer (some ⟨ab,0,none⟩)]]))::(.box ae 137 ([.int .i64 1,.func (.func 92) #[] #[.pointer (some ⟨aa,0,none⟩)]]))::(.row (.slice (some ⟨ba,0,none⟩) 12 12) 137 2 12 (Vb.t90 aa ab ac ad))::(.box ad 135 ([.func (.func 90) #[] #[]]))::(.box ac 133 ([.func (.func 88) #[] #[]]))::(.box ab 133 ([.func (.func 87) #[] #[]]))::(.box a9 100 ([.int .i64 0,.int .i64 0]))::(.box aa 27 ([ak,al,am,an,ao,ap,aq,ar,au,av,aw]))::Γ) w:=hs
 refine H2 fun ir dz=>Wr fun it ea=>O_y rfl (Zbz (v':=.bool true) (Za7 rfl rfl) (by kernel_rfl))<|Ox ea<|Zi fun iu eb=>Zak rfl<|Wx eb<|Zi fun iv ec=>Zl fun iw ix iy=>Zi fun iz ed=>Zc ?_
 obtain ⟨ja,bt⟩:=hs.rowBlock (j:=4) rfl (by decide)
 refine O_y rfl (Vv (j:=4) Zc3 hs rfl bt rfl rfl (by decide) (by decide))<|O_y rfl (Q0 Zal Zam rfl rfl (fun j u hu=>hs.rowCell (j:=4) rfl bt ((Zae (o:=8) (k:=2) rfl) j u hu)))<|Y6 Zan hs rfl (fun ai w hs=>Ye (i:=0) Zam hs rfl rfl rfl rfl rfl (Zb rfl (Zb rfl Ym)) (fun w hs=>Ox ed<|Wr fun jb ee=>Ofd Zbb rfl<|Obx 0 Zdw hs rfl ?_))
 have hs:=hs.front 7 rfl
 have hs:=hs.front 10 rfl
 obtain ⟨bg,cj,H⟩:=bnd H
 refine Xs rfl rfl rfl (U9.c hs ay az a0 a1 a2 a3 a4 a5 a6 a7 a8 cj) (fun jc w hpost=>?_)
 obtain ⟨rfl,hs⟩:=hpost
 have hs:=hs.sink 10
 have hs:=hs.sink 7
 refine As rfl<|Ox ee<|Wr fun jd ef=>Mv rfl<|Oge rfl<|Ox ef<|Xa rfl (fun b6=>?_) (fun b6=>?_)
 rw [if_pos b6] at H
 refine Wr fun je eg=>Ofd Zba rfl<|Obx 0 ag3 hs rfl<|Mv rfl<|O_y rfl (Qg (cs:=[.int .i64 5,.int .i64 bg]) Zci Zc1 ((Z3.cons rfl rfl (Z3.cons rfl rfl Z3.nil))) H7 (by kernel_rfl))<|Ye (i:=9) H0 hs rfl rfl rfl rfl rfl (Zb rfl (Zb rfl Ym)) (fun w hs=>As rfl<|Ox eg<|W.weak [(2,_),(3,_)] (T2 rfl)<|Zm ?_)
 obtain rfl:=Z4 H
 exact Zc9 (i:=9) rfl rfl rfl H7 H0 hs rfl rfl ⟨_,_,rfl,Le.rfl' _,(hs.sub (ssk (ssk (ssk (ssk (ssk (ssk (ssk (ssk (ssk (ssk (ssk ssr)))))))))))),rfl⟩
 rw [if_neg b6] at H
 refine Wx ec<|Zc<|O_y rfl (Zbz (v':=.int .i64 5) (H8 rfl rfl) (by kernel_rfl))<|Mv rfl<|Ox dz<|WL.weak [(2,_),(36,_),(37,_),(38,_)] (T4 rfl) ?_
 have hs:St w0 ρ ((.box ai 137 ([.int .i64 5,.func (.func 99) #[] #[.pointer (some ⟨aa,0,none⟩),.pointer (some ⟨ac,0,none⟩)]]))::(.box ah 137 ([.int .i64 4,.func (.func 98) #[] #[.pointer (some ⟨aa,0,none⟩),.pointer (some ⟨ac,0,none⟩)]]))::(.box ag 137 ([.int .i64 3,.func (.func 96) #[] #[.pointer (some ⟨aa,0,none⟩)]]))::(.box af 137 ([.int .i64 2,.func (.func 94) #[] #[.pointer (some ⟨aa,0,none⟩),.pointer (some ⟨ab,0,none⟩)]]))::(.box ae 137 ([.int .i64 1,.func (.func 92) #[] #[.pointer (some ⟨aa,0,none⟩)]]))::(.row (.slice (some ⟨ba,0,none⟩) 12 12) 137 2 12 (Vb.t90 aa ab ac ad))::(.box ad 135 ([.func (.func 90) #[] #[]]))::(.box ac 133 ([.func (.func 88) #[] #[]]))::(.box ab 133 ([.func (.func 87) #[] #[]]))::(.box a9 100 ([.int .i64 0,.int .i64 0]))::(.box aa 27 ([ak,al,am,an,ao,ap,aq,ar,au,av,aw]))::Γ) w:=hs
 refine H2 fun jf eh=>Wr fun jg ei=>O_y rfl (Zbz (v':=.bool true) (Za7 rfl rfl) (by kernel_rfl))<|Ox ei<|Zi fun jh ej=>Zak rfl<|Wx ej<|Zi fun ji ek=>Zl fun jj jk jl=>Zi fun jm el=>Zc ?_
 obtain ⟨jn,bu⟩:=hs.rowBlock (j:=5) rfl (by decide)
 refine O_y rfl (Vv (j:=5) Zc3 hs rfl bu rfl rfl (by decide) (by decide))<|O_y rfl (Q0 Zal Zam rfl rfl (fun j u hu=>hs.rowCell (j:=5) rfl bu ((Zae (o:=10) (k:=2) rfl) j u hu)))<|Y6 Zan hs rfl (fun aj w hs=>Ye (i:=0) Zam hs rfl rfl rfl rfl rfl (Zb rfl (Zb rfl Ym)) (fun w hs=>Ox el<|Wr fun jo em=>Ofd Zbb rfl<|Obx 0 Zdw hs rfl ?_))
 have hs:=hs.front 8 rfl
 have hs:=hs.front 11 rfl
 obtain ⟨bh,ck,H⟩:=bnd H
 refine Xs rfl rfl rfl (U8.c hs ay az a0 a1 a2 a3 a4 a5 a6 a7 a8 ck) (fun jp w hpost=>?_)
 obtain ⟨rfl,hs⟩:=hpost
 have hs:=hs.sink 11
 have hs:=hs.sink 8
 refine As rfl<|Ox em<|Wr fun jq en=>Mv rfl<|Oge rfl<|Ox en<|Xa rfl (fun b7=>?_) (fun b7=>?_)
 rw [if_pos b7] at H
 refine Wr fun jr eo=>Ofd Zba rfl<|Obx 0 ag3 hs rfl<|Mv rfl<|O_y rfl (Qg (cs:=[.int .i64 6,.int .i64 bh]) Zci Zc1 ((Z3.cons rfl rfl (Z3.cons rfl rfl Z3.nil))) H7 (by kernel_rfl))<|Ye (i:=10) H0 hs rfl rfl rfl rfl rfl (Zb rfl (Zb rfl Ym)) (fun w hs=>As rfl<|Ox eo<|W.weak [(2,_),(3,_)] (T2 rfl)<|Zm ?_)
 obtain rfl:=Z4 H
 exact Zc9 (i:=10) rfl rfl rfl H7 H0 hs rfl rfl ⟨_,_,rfl,Le.rfl' _,(hs.sub (ssk (ssk (ssk (ssk (ssk (ssk (ssk (ssk (ssk (ssk (ssk (ssk ssr))))))))))))),rfl⟩
 rw [if_neg b7] at H
 refine Wx ek<|Zc<|O_y rfl (Zbz (v':=.int .i64 6) (H8 rfl rfl) (by kernel_rfl))<|Mv rfl<|Ox eh<|WL.weak [(2,_),(36,_),(37,_),(38,_)] (T4 rfl) ?_
 have hs:St w0 ρ ((.box aj 137 ([.int .i64 6,.func (.func 102) #[] #[.pointer (some ⟨aa,0,none⟩),.pointer (some ⟨ac,0,none⟩)]]))::(.box ai 137 ([.int .i64 5,.func (.func 99) #[] #[.pointer (some ⟨aa,0,none⟩),.pointer (some ⟨ac,0,none⟩)]]))::(.box ah 137 ([.int .i64 4,.func (.func 98) #[] #[.pointer (some ⟨aa,0,none⟩),.pointer (some ⟨ac,0,none⟩)]]))::(.box ag 137 ([.int .i64 3,.func (.func 96) #[] #[.pointer (some ⟨aa,0,none⟩)]]))::(.box af 137 ([.int .i64 2,.func (.func 94) #[] #[.pointer (some ⟨aa,0,none⟩),.pointer (some ⟨ab,0,none⟩)]]))::(.box ae 137 ([.int .i64 1,.func (.func 92) #[] #[.pointer (some ⟨aa,0,none⟩)]]))::(.row (.slice (some ⟨ba,0,none⟩) 12 12) 137 2 12 (Vb.t90 aa ab ac ad))::(.box ad 135 ([.func (.func 90) #[] #[]]))::(.box ac 133 ([.func (.func 88) #[] #[]]))::(.box ab 133 ([.func (.func 87) #[] #[]]))::(.box a9 100 ([.int .i64 0,.int .i64 0]))::(.box aa 27 ([ak,al,am,an,ao,ap,aq,ar,au,av,aw]))::Γ) w:=hs
 refine H2 fun js ep=>Wr fun jt eq=>O_y rfl (Zbz (v':=.bool true) (Za7 rfl rfl) (by kernel_rfl))<|Ox eq<|Zi fun ju er=>Zak rfl<|Wx er<|Zi fun jv es=>Zl fun jw jx jy=>Zi fun jz et=>Zc ?_
 obtain ⟨j0,bv⟩:=hs.rowBlock (j:=6) rfl (by decide)
 refine O_y rfl (Vv (j:=6) Zc3 hs rfl bv rfl rfl (by decide) (by decide))<|O_y rfl (Q0 Zal Zam rfl rfl (fun j u hu=>hs.rowCell (j:=6) rfl bv ((Zae (o:=12) (k:=2) rfl) j u hu)))<|Y6 Zan hs rfl (fun ax w hs=>Ye (i:=0) Zam hs rfl rfl rfl rfl rfl (Zb rfl (Zb rfl Ym)) (fun w hs=>Ox et<|Wr fun j1 eu=>Ofd Zbb rfl<|Obx 0 Zdw hs rfl ?_))
 have hs:=hs.front 10 rfl
 have hs:=hs.front 12 rfl
 obtain ⟨bi,cl,H⟩:=bnd H
 refine Xs rfl rfl rfl (Ux.c hs ay az a0 a1 a2 a3 a4 a5 a6 a7 a8 cl) (fun j2 w hpost=>?_)
 obtain ⟨rfl,hs⟩:=hpost
 have hs:=hs.sink 12
 have hs:=hs.sink 10
 refine As rfl<|Ox eu<|Wr fun j3 ev=>Mv rfl<|Oge rfl<|Ox ev<|Xa rfl (fun b8=>?_) (fun b8=>?_)
 rw [if_pos b8] at H
 refine Wr fun j4 ew=>Ofd Zba rfl<|Obx 0 ag3 hs rfl<|Mv rfl<|O_y rfl (Qg (cs:=[.int .i64 7,.int .i64 bi]) Zci Zc1 ((Z3.cons rfl rfl (Z3.cons rfl rfl Z3.nil))) H7 (by kernel_rfl))<|Ye (i:=11) H0 hs rfl rfl rfl rfl rfl (Zb rfl (Zb rfl Ym)) (fun w hs=>As rfl<|Ox ew<|W.weak [(2,_),(3,_)] (T2 rfl)<|Zm ?_)
 obtain rfl:=Z4 H
 exact Zc9 (i:=11) rfl rfl rfl H7 H0 hs rfl rfl ⟨_,_,rfl,Le.rfl' _,(hs.sub (ssk (ssk (ssk (ssk (ssk (ssk (ssk (ssk (ssk (ssk (ssk (ssk (ssk ssr)))))))))))))),rfl⟩
 rw [if_neg b8] at H
 refine Wx es<|Zc<|O_y rfl (Zbz (v':=.int .i64 7) (H8 rfl rfl) (by kernel_rfl))<|Mv rfl<|Ox ep<|WL.weak [(2,_),(36,_),(37,_),(38,_)] (T4 rfl) ?_
 have hs:St w0 ρ ((.box ax 137 ([.int .i64 7,.func (.func 105) #[] #[.pointer (some ⟨aa,0,none⟩),.pointer (some ⟨ab,0,none⟩)]]))::(.box aj 137 ([.int .i64 6,.func (.func 102) #[] #[.pointer (some ⟨aa,0,none⟩),.pointer (some ⟨ac,0,none⟩)]]))::(.box ai 137 ([.int .i64 5,.func (.func 99) #[] #[.pointer (some ⟨aa,0,none⟩),.pointer (some ⟨ac,0,none⟩)]]))::(.box ah 137 ([.int .i64 4,.func (.func 98) #[] #[.pointer (some ⟨aa,0,none⟩),.pointer (some ⟨ac,0,none⟩)]]))::(.box ag 137 ([.int .i64 3,.func (.func 96) #[] #[.pointer (some ⟨aa,0,none⟩)]]))::(.box af 137 ([.int .i64 2,.func (.func 94) #[] #[.pointer (some ⟨aa,0,none⟩),.pointer (some ⟨ab,0,none⟩)]]))::(.box ae 137 ([.int .i64 1,.func (.func 92) #[] #[.pointer (some ⟨aa,0,none⟩)]]))::(.row (.slice (some ⟨ba,0,none⟩) 12 12) 137 2 12 (Vb.t90 aa ab ac ad))::(.box ad 135 ([.func (.func 90) #[] #[]]))::(.box ac 133 ([.func (.func 88) #[] #[]]))::(.box ab 133 ([.func (.func 87) #[] #[]]))::(.box a9 100 ([.int .i64 0,.int .i64 0]))::(.box aa 27 ([ak,al,am,an,ao,ap,aq,ar,au,av,aw]))::Γ) w:=hs
 refine H2 fun j5 ex=>Wr fun j6 ey=>O_y rfl (Zbz (v':=.bool true) (Za7 rfl rfl) (by kernel_rfl))<|Ox ey<|Zi fun j7 ez=>Zak rfl<|Wx ez<|Zi fun j8 e0=>Zl fun j9 ka kb=>Zi fun kc e1=>Zc ?_
 obtain ⟨kd,bw⟩:=hs.rowBlock (j:=7) rfl (by decide)
 refine O_y rfl (Vv (j:=7) Zc3 hs rfl bw rfl rfl (by decide) (by decide))<|O_y rfl (Q0 Zal Zam rfl rfl (fun j u hu=>hs.rowCell (j:=7) rfl bw ((Zae (o:=14) (k:=2) rfl) j u hu)))<|Y6 Zan hs rfl (fun bb w hs=>Ye (i:=0) Zam hs rfl rfl rfl rfl rfl (Zb rfl (Zb rfl Ym)) (fun w hs=>Ox e1<|Wr fun ke e2=>Ofd Zbb rfl<|Obx 0 Zdw hs rfl ?_))
 have hs:=hs.front 11 rfl
 have hs:=hs.front 13 rfl
 obtain ⟨bj,cm,H⟩:=bnd H
 refine Xs rfl rfl rfl (U0.c hs ay az a0 a1 a2 a3 a4 a5 a6 a7 a8 cm) (fun kf w hpost=>?_)
 obtain ⟨rfl,hs⟩:=hpost
 have hs:=hs.sink 13
 have hs:=hs.sink 11
 refine As rfl<|Ox e2<|Wr fun kg e3=>Mv rfl<|Oge rfl<|Ox e3<|Xa rfl (fun b9=>?_) (fun b9=>?_)
 rw [if_pos b9] at H
 refine Wr fun kh e4=>Ofd Zba rfl<|Obx 0 ag3 hs rfl<|Mv rfl<|O_y rfl (Qg (cs:=[.int .i64 8,.int .i64 bj]) Zci Zc1 ((Z3.cons rfl rfl (Z3.cons rfl rfl Z3.nil))) H7 (by kernel_rfl))<|Ye (i:=12) H0 hs rfl rfl rfl rfl rfl (Zb rfl (Zb rfl Ym)) (fun w hs=>As rfl<|Ox e4<|W.weak [(2,_),(3,_)] (T2 rfl)<|Zm ?_)
 obtain rfl:=Z4 H
 exact Zc9 (i:=12) rfl rfl rfl H7 H0 hs rfl rfl ⟨_,_,rfl,Le.rfl' _,(hs.sub (ssk (ssk (ssk (ssk (ssk (ssk (ssk (ssk (ssk (ssk (ssk (ssk (ssk (ssk ssr))))))))))))))),rfl⟩
 rw [if_neg b9] at H
 refine Wx e0<|Zc<|O_y rfl (Zbz (v':=.int .i64 8) (H8 rfl rfl) (by kernel_rfl))<|Mv rfl<|Ox ex<|WL.weak [(2,_),(36,_),(37,_),(38,_)] (T4 rfl) ?_
 have hs:St w0 ρ ((.box bb 137 ([.int .i64 8,.func (.func 107) #[] #[.pointer (some ⟨aa,0,none⟩),.pointer (some ⟨ab,0,none⟩)]]))::(.box ax 137 ([.int .i64 7,.func (.func 105) #[] #[.pointer (some ⟨aa,0,none⟩),.pointer (some ⟨ab,0,none⟩)]]))::(.box aj 137 ([.int .i64 6,.func (.func 102) #[] #[.pointer (some ⟨aa,0,none⟩),.pointer (some ⟨ac,0,none⟩)]]))::(.box ai 137 ([.int .i64 5,.func (.func 99) #[] #[.pointer (some ⟨aa,0,none⟩),.pointer (some ⟨ac,0,none⟩)]]))::(.box ah 137 ([.int .i64 4,.func (.func 98) #[] #[.pointer (some ⟨aa,0,none⟩),.pointer (some ⟨ac,0,none⟩)]]))::(.box ag 137 ([.int .i64 3,.func (.func 96) #[] #[.pointer (some ⟨aa,0,none⟩)]]))::(.box af 137 ([.int .i64 2,.func (.func 94) #[] #[.pointer (some ⟨aa,0,none⟩),.pointer (some ⟨ab,0,none⟩)]]))::(.box ae 137 ([.int .i64 1,.func (.func 92) #[] #[.pointer (some ⟨aa,0,none⟩)]]))::(.row (.slice (some ⟨ba,0,none⟩) 12 12) 137 2 12 (Vb.t90 aa ab ac ad))::(.box ad 135 ([.func (.func 90) #[] #[]]))::(.box ac 133 ([.func (.func 88) #[] #[]]))::(.box ab 133 ([.func (.func 87) #[] #[]]))::(.box a9 100 ([.int .i64 0,.int .i64 0]))::(.box aa 27 ([ak,al,am,an,ao,ap,aq,ar,au,av,aw]))::Γ) w:=hs
 refine H2 fun ki e5=>Wr fun kj e6=>O_y rfl (Zbz (v':=.bool true) (Za7 rfl rfl) (by kernel_rfl))<|Ox e6<|Zi fun kk e7=>Zak rfl<|Wx e7<|Zi fun kl e8=>Zl fun km kn ko=>Zi fun kp e9=>Zc ?_
 obtain ⟨kq,bx⟩:=hs.rowBlock (j:=8) rfl (by decide)
 refine O_y rfl (Vv (j:=8) Zc3 hs rfl bx rfl rfl (by decide) (by decide))<|O_y rfl (Q0 Zal Zam rfl rfl (fun j u hu=>hs.rowCell (j:=8) rfl bx ((Zae (o:=16) (k:=2) rfl) j u hu)))<|Y6 Zan hs rfl (fun bo w hs=>Ye (i:=0) Zam hs rfl rfl rfl rfl rfl (Zb rfl (Zb rfl Ym)) (fun w hs=>Ox e9<|Wr fun kr fa=>Ofd Zbb rfl<|Obx 0 Zdw hs rfl ?_))
 have hs:=hs.front 12 rfl
 have hs:=hs.front 14 rfl
 obtain ⟨bk,cn,H⟩:=bnd H
 refine Xs rfl rfl rfl (U1.c hs ay az a0 a1 a2 a3 a4 a5 a6 a7 a8 cn) (fun ks w hpost=>?_)
 obtain ⟨rfl,hs⟩:=hpost
 have hs:=hs.sink 14
 have hs:=hs.sink 12
 refine As rfl<|Ox fa<|Wr fun kt fb=>Mv rfl<|Oge rfl<|Ox fb<|Xa rfl (fun ca=>?_) (fun ca=>?_)
 rw [if_pos ca] at H
 refine Wr fun ku fc=>Ofd Zba rfl<|Obx 0 ag3 hs rfl<|Mv rfl<|O_y rfl (Qg (cs:=[.int .i64 9,.int .i64 bk]) Zci Zc1 ((Z3.cons rfl rfl (Z3.cons rfl rfl Z3.nil))) H7 (by kernel_rfl))<|Ye (i:=13) H0 hs rfl rfl rfl rfl rfl (Zb rfl (Zb rfl Ym)) (fun w hs=>As rfl<|Ox fc<|W.weak [(2,_),(3,_)] (T2 rfl)<|Zm ?_)
 obtain rfl:=Z4 H
 exact Zc9 (i:=13) rfl rfl rfl H7 H0 hs rfl rfl ⟨_,_,rfl,Le.rfl' _,(hs.sub (ssk (ssk (ssk (ssk (ssk (ssk (ssk (ssk (ssk (ssk (ssk (ssk (ssk (ssk (ssk ssr)))))))))))))))),rfl⟩
 rw [if_neg ca] at H
 refine Wx e8<|Zc<|O_y rfl (Zbz (v':=.int .i64 9) (H8 rfl rfl) (by kernel_rfl))<|Mv rfl<|Ox e5<|WL.weak [(2,_),(36,_),(37,_),(38,_)] (T4 rfl) ?_
 have hs:St w0 ρ ((.box bo 137 ([.int .i64 9,.func (.func 109) #[] #[.pointer (some ⟨aa,0,none⟩),.pointer (some ⟨ab,0,none⟩)]]))::(.box bb 137 ([.int .i64 8,.func (.func 107) #[] #[.pointer (some ⟨aa,0,none⟩),.pointer (some ⟨ab,0,none⟩)]]))::(.box ax 137 ([.int .i64 7,.func (.func 105) #[] #[.pointer (some ⟨aa,0,none⟩),.pointer (some ⟨ab,0,none⟩)]]))::(.box aj 137 ([.int .i64 6,.func (.func 102) #[] #[.pointer (some ⟨aa,0,none⟩),.pointer (some ⟨ac,0,none⟩)]]))::(.box ai 137 ([.int .i64 5,.func (.func 99) #[] #[.pointer (some ⟨aa,0,none⟩),.pointer (some ⟨ac,0,none⟩)]]))::(.box ah 137 ([.int .i64 4,.func (.func 98) #[] #[.pointer (some ⟨aa,0,none⟩),.pointer (some ⟨ac,0,none⟩)]]))::(.box ag 137 ([.int .i64 3,.func (.func 96) #[] #[.pointer (some ⟨aa,0,none⟩)]]))::(.box af 137 ([.int .i64 2,.func (.func 94) #[] #[.pointer (some ⟨aa,0,none⟩),.pointer (some ⟨ab,0,none⟩)]]))::(.box ae 137 ([.int .i64 1,.func (.func 92) #[] #[.pointer (some ⟨aa,0,none⟩)]]))::(.row (.slice (some ⟨ba,0,none⟩) 12 12) 137 2 12 (Vb.t90 aa ab ac ad))::(.box ad 135 ([.func (.func 90) #[] #[]]))::(.box ac 133 ([.func (.func 88) #[] #[]]))::(.box ab 133 ([.func (.func 87) #[] #[]]))::(.box a9 100 ([.int .i64 0,.int .i64 0]))::(.box aa 27 ([ak,al,am,an,ao,ap,aq,ar,au,av,aw]))::Γ) w:=hs
 refine H2 fun kv fd=>Wr fun kw fe=>O_y rfl (Zbz (v':=.bool true) (Za7 rfl rfl) (by kernel_rfl))<|Ox fe<|Zi fun kx ff=>Zak rfl<|Wx ff<|Zi fun ky fg=>Zl fun kz k0 k1=>Zi fun k2 fh=>Zc ?_
 obtain ⟨k3,bz⟩:=hs.rowBlock (j:=9) rfl (by decide)
 refine O_y rfl (Vv (j:=9) Zc3 hs rfl bz rfl rfl (by decide) (by decide))<|O_y rfl (Q0 Zal Zam rfl rfl (fun j u hu=>hs.rowCell (j:=9) rfl bz ((Zae (o:=18) (k:=2) rfl) j u hu)))<|Y6 Zan hs rfl (fun cb w hs=>Ye (i:=0) Zam hs rfl rfl rfl rfl rfl (Zb rfl (Zb rfl Ym)) (fun w hs=>Ox fh<|Wr fun k4 fi=>Ofd Zbb rfl<|Obx 0 Zdw hs rfl ?_))
 have hs:=hs.front 13 rfl
 have hs:=hs.front 15 rfl
 obtain ⟨bl,co,H⟩:=bnd H
 refine Xs rfl rfl rfl (Us.c hs ay az a0 a1 a2 a3 a4 a5 a6 a7 a8 co) (fun k5 w hpost=>?_)
 obtain ⟨rfl,hs⟩:=hpost
 have hs:=hs.sink 15
 have hs:=hs.sink 13
 refine As rfl<|Ox fi<|Wr fun k6 fj=>Mv rfl<|Oge rfl<|Ox fj<|Xa rfl (fun cc=>?_) (fun cc=>?_)
 rw [if_pos cc] at H
 refine Wr fun k7 fk=>Ofd Zba rfl<|Obx 0 ag3 hs rfl<|Mv rfl<|O_y rfl (Qg (cs:=[.int .i64 10,.int .i64 bl]) Zci Zc1 ((Z3.cons rfl rfl (Z3.cons rfl rfl Z3.nil))) H7 (by kernel_rfl))<|Ye (i:=14) H0 hs rfl rfl rfl rfl rfl (Zb rfl (Zb rfl Ym)) (fun w hs=>As rfl<|Ox fk<|W.weak [(2,_),(3,_)] (T2 rfl)<|Zm ?_)
 obtain rfl:=Z4 H
 exact Zc9 (i:=14) rfl rfl rfl H7 H0 hs rfl rfl ⟨_,_,rfl,Le.rfl' _,(hs.sub (ssk (ssk (ssk (ssk (ssk (ssk (ssk (ssk (ssk (ssk (ssk (ssk (ssk (ssk (ssk (ssk ssr))))))))))))))))),rfl⟩
 rw [if_neg cc] at H
 refine Wx fg<|Zc<|O_y rfl (Zbz (v':=.int .i64 10) (H8 rfl rfl) (by kernel_rfl))<|Mv rfl<|Ox fd<|WL.weak [(2,_),(36,_),(37,_),(38,_)] (T4 rfl) ?_
 have hs:St w0 ρ ((.box cb 137 ([.int .i64 10,.func (.func 110) #[] #[.pointer (some ⟨aa,0,none⟩),.pointer (some ⟨ab,0,none⟩)]]))::(.box bo 137 ([.int .i64 9,.func (.func 109) #[] #[.pointer (some ⟨aa,0,none⟩),.pointer (some ⟨ab,0,none⟩)]]))::(.box bb 137 ([.int .i64 8,.func (.func 107) #[] #[.pointer (some ⟨aa,0,none⟩),.pointer (some ⟨ab,0,none⟩)]]))::(.box ax 137 ([.int .i64 7,.func (.func 105) #[] #[.pointer (some ⟨aa,0,none⟩),.pointer (some ⟨ab,0,none⟩)]]))::(.box aj 137 ([.int .i64 6,.func (.func 102) #[] #[.pointer (some ⟨aa,0,none⟩),.pointer (some ⟨ac,0,none⟩)]]))::(.box ai 137 ([.int .i64 5,.func (.func 99) #[] #[.pointer (some ⟨aa,0,none⟩),.pointer (some ⟨ac,0,none⟩)]]))::(.box ah 137 ([.int .i64 4,.func (.func 98) #[] #[.pointer (some ⟨aa,0,none⟩),.pointer (some ⟨ac,0,none⟩)]]))::(.box ag 137 ([.int .i64 3,.func (.func 96) #[] #[.pointer (some ⟨aa,0,none⟩)]]))::(.box af 137 ([.int .i64 2,.func (.func 94) #[] #[.pointer (some ⟨aa,0,none⟩),.pointer (some ⟨ab,0,none⟩)]]))::(.box ae 137 ([.int .i64 1,.func (.func 92) #[] #[.pointer (some ⟨aa,0,none⟩)]]))::(.row (.slice (some ⟨ba,0,none⟩) 12 12) 137 2 12 (Vb.t90 aa ab ac ad))::(.box ad 135 ([.func (.func 90) #[] #[]]))::(.box ac 133 ([.func (.func 88) #[] #[]]))::(.box ab 133 ([.func (.func 87) #[] #[]]))::(.box a9 100 ([.int .i64 0,.int .i64 0]))::(.box aa 27 ([ak,al,am,an,ao,ap,aq,ar,au,av,aw]))::Γ) w:=hs
 refine H2 fun k8 fl=>Wr fun k9 fm=>O_y rfl (Zbz (v':=.bool true) (Za7 rfl rfl) (by kernel_rfl))<|Ox fm<|Zi fun la fn=>Zak rfl<|Wx fn<|Zi fun lb fo=>Zl fun lc ld le=>Zi fun lf fp=>Zc ?_
 obtain ⟨lg,b0⟩:=hs.rowBlock (j:=10) rfl (by decide)
 refine O_y rfl (Vv (j:=10) Zc3 hs rfl b0 rfl rfl (by decide) (by decide))<|O_y rfl (Q0 Zal Zam rfl rfl (fun j u hu=>hs.rowCell (j:=10) rfl b0 ((Zae (o:=20) (k:=2) rfl) j u hu)))<|Y6 Zan hs rfl (fun cp w hs=>Ye (i:=0) Zam hs rfl rfl rfl rfl rfl (Zb rfl (Zb rfl Ym)) (fun w hs=>Ox fp<|Wr fun lh fq=>Ofd Zbb rfl<|Obx 0 Zdw hs rfl ?_))
 have hs:=hs.front 12 rfl
 have hs:=hs.front 16 rfl
 obtain ⟨bm,cq,H⟩:=bnd H
 refine Xs rfl rfl rfl (Uw.c hs ay az a0 a1 a2 a3 a4 a5 a6 a7 a8 cq) (fun li w hpost=>?_)
 obtain ⟨rfl,hs⟩:=hpost
 have hs:=hs.sink 16
 have hs:=hs.sink 12
 refine As rfl<|Ox fq<|Wr fun lj fr=>Mv rfl<|Oge rfl<|Ox fr<|Xa rfl (fun cd=>?_) (fun cd=>?_)
 rw [if_pos cd] at H
 refine Wr fun lk fs=>Ofd Zba rfl<|Obx 0 ag3 hs rfl<|Mv rfl<|O_y rfl (Qg (cs:=[.int .i64 11,.int .i64 bm]) Zci Zc1 ((Z3.cons rfl rfl (Z3.cons rfl rfl Z3.nil))) H7 (by kernel_rfl))<|Ye (i:=15) H0 hs rfl rfl rfl rfl rfl (Zb rfl (Zb rfl Ym)) (fun w hs=>As rfl<|Ox fs<|W.weak [(2,_),(3,_)] (T2 rfl)<|Zm ?_)
 obtain rfl:=Z4 H
 exact Zc9 (i:=15) rfl rfl rfl H7 H0 hs rfl rfl ⟨_,_,rfl,Le.rfl' _,(hs.sub (ssk (ssk (ssk (ssk (ssk (ssk (ssk (ssk (ssk (ssk (ssk (ssk (ssk (ssk (ssk (ssk (ssk ssr)))))))))))))))))),rfl⟩
 rw [if_neg cd] at H
 refine Wx fo<|Zc<|O_y rfl (Zbz (v':=.int .i64 11) (H8 rfl rfl) (by kernel_rfl))<|Mv rfl<|Ox fl<|WL.weak [(2,_),(36,_),(37,_),(38,_)] (T4 rfl) ?_
 have hs:St w0 ρ ((.box cp 137 ([.int .i64 11,.func (.func 111) #[] #[.pointer (some ⟨aa,0,none⟩),.pointer (some ⟨ad,0,none⟩)]]))::(.box cb 137 ([.int .i64 10,.func (.func 110) #[] #[.pointer (some ⟨aa,0,none⟩),.pointer (some ⟨ab,0,none⟩)]]))::(.box bo 137 ([.int .i64 9,.func (.func 109) #[] #[.pointer (some ⟨aa,0,none⟩),.pointer (some ⟨ab,0,none⟩)]]))::(.box bb 137 ([.int .i64 8,.func (.func 107) #[] #[.pointer (some ⟨aa,0,none⟩),.pointer (some ⟨ab,0,none⟩)]]))::(.box ax 137 ([.int .i64 7,.func (.func 105) #[] #[.pointer (some ⟨aa,0,none⟩),.pointer (some ⟨ab,0,none⟩)]]))::(.box aj 137 ([.int .i64 6,.func (.func 102) #[] #[.pointer (some ⟨aa,0,none⟩),.pointer (some ⟨ac,0,none⟩)]]))::(.box ai 137 ([.int .i64 5,.func (.func 99) #[] #[.pointer (some ⟨aa,0,none⟩),.pointer (some ⟨ac,0,none⟩)]]))::(.box ah 137 ([.int .i64 4,.func (.func 98) #[] #[.pointer (some ⟨aa,0,none⟩),.pointer (some ⟨ac,0,none⟩)]]))::(.box ag 137 ([.int .i64 3,.func (.func 96) #[] #[.pointer (some ⟨aa,0,none⟩)]]))::(.box af 137 ([.int .i64 2,.func (.func 94) #[] #[.pointer (some ⟨aa,0,none⟩),.pointer (some ⟨ab,0,none⟩)]]))::(.box ae 137 ([.int .i64 1,.func (.func 92) #[] #[.pointer (some ⟨aa,0,none⟩)]]))::(.row (.slice (some ⟨ba,0,none⟩) 12 12) 137 2 12 (Vb.t90 aa ab ac ad))::(.box ad 135 ([.func (.func 90) #[] #[]]))::(.box ac 133 ([.func (.func 88) #[] #[]]))::(.box ab 133 ([.func (.func 87) #[] #[]]))::(.box a9 100 ([.int .i64 0,.int .i64 0]))::(.box aa 27 ([ak,al,am,an,ao,ap,aq,ar,au,av,aw]))::Γ) w:=hs
 refine H2 fun ll ft=>Wr fun lm fu=>O_y rfl (Zbz (v':=.bool true) (Za7 rfl rfl) (by kernel_rfl))<|Ox fu<|Zi fun ln fv=>Zak rfl<|Wx fv<|Zi fun lo fw=>Zl fun lp lq lr=>Zi fun ls fx=>Zc ?_
 obtain ⟨lt,b1⟩:=hs.rowBlock (j:=11) rfl (by decide)
 refine O_y rfl (Vv (j:=11) Zc3 hs rfl b1 rfl rfl (by decide) (by decide))<|O_y rfl (Q0 Zal Zam rfl rfl (fun j u hu=>hs.rowCell (j:=11) rfl b1 ((Zae (o:=22) (k:=2) rfl) j u hu)))<|Y6 Zan hs rfl (fun fy w hs=>Ye (i:=0) Zam hs rfl rfl rfl rfl rfl (Zb rfl (Zb rfl Ym)) (fun w hs=>Ox fx<|Wr fun lu fz=>Ofd Zbb rfl<|Obx 0 Zdw hs rfl ?_))
 have hs:=hs.front 17 rfl
 obtain ⟨bn,cr,H⟩:=bnd H
 refine Xs rfl rfl rfl (Uu.c hs ay az a0 a1 a2 a3 a4 a5 a6 a7 a8 cr) (fun lv w hpost=>?_)
 obtain ⟨rfl,hs⟩:=hpost
 have hs:=hs.sink 17
 refine As rfl<|Ox fz<|Wr fun lw ga=>Mv rfl<|Oge rfl<|Ox ga<|Xa rfl (fun ce=>?_) (fun ce=>?_)
 rw [if_pos ce] at H
 refine Wr fun lx gb=>Ofd Zba rfl<|Obx 0 ag3 hs rfl<|Mv rfl<|O_y rfl (Qg (cs:=[.int .i64 5,.int .i64 bn]) Zci Zc1 ((Z3.cons rfl rfl (Z3.cons rfl rfl Z3.nil))) H7 (by kernel_rfl))<|Ye (i:=16) H0 hs rfl rfl rfl rfl rfl (Zb rfl (Zb rfl Ym)) (fun w hs=>As rfl<|Ox gb<|W.weak [(2,_),(3,_)] (T2 rfl)<|Zm ?_)
 obtain rfl:=Z4 H
 exact Zc9 (i:=16) rfl rfl rfl H7 H0 hs rfl rfl ⟨_,_,rfl,Le.rfl' _,(hs.sub (ssk (ssk (ssk (ssk (ssk (ssk (ssk (ssk (ssk (ssk (ssk (ssk (ssk (ssk (ssk (ssk (ssk (ssk ssr))))))))))))))))))),rfl⟩
 rw [if_neg ce] at H
 refine Wx fw<|Zc<|O_y rfl (Zbz (v':=.int .i64 12) (H8 rfl rfl) (by kernel_rfl))<|Mv rfl<|Ox ft<|WL.weak [(2,_),(36,_),(37,_),(38,_)] (T4 rfl) ?_
 have hs:St w0 ρ ((.box fy 137 ([.int .i64 5,.func (.func 112) #[] #[.pointer (some ⟨aa,0,none⟩)]]))::(.box cp 137 ([.int .i64 11,.func (.func 111) #[] #[.pointer (some ⟨aa,0,none⟩),.pointer (some ⟨ad,0,none⟩)]]))::(.box cb 137 ([.int .i64 10,.func (.func 110) #[] #[.pointer (some ⟨aa,0,none⟩),.pointer (some ⟨ab,0,none⟩)]]))::(.box bo 137 ([.int .i64 9,.func (.func 109) #[] #[.pointer (some ⟨aa,0,none⟩),.pointer (some ⟨ab,0,none⟩)]]))::(.box bb 137 ([.int .i64 8,.func (.func 107) #[] #[.pointer (some ⟨aa,0,none⟩),.pointer (some ⟨ab,0,none⟩)]]))::(.box ax 137 ([.int .i64 7,.func (.func 105) #[] #[.pointer (some ⟨aa,0,none⟩),.pointer (some ⟨ab,0,none⟩)]]))::(.box aj 137 ([.int .i64 6,.func (.func 102) #[] #[.pointer (some ⟨aa,0,none⟩),.pointer (some ⟨ac,0,none⟩)]]))::(.box ai 137 ([.int .i64 5,.func (.func 99) #[] #[.pointer (some ⟨aa,0,none⟩),.pointer (some ⟨ac,0,none⟩)]]))::(.box ah 137 ([.int .i64 4,.func (.func 98) #[] #[.pointer (some ⟨aa,0,none⟩),.pointer (some ⟨ac,0,none⟩)]]))::(.box ag 137 ([.int .i64 3,.func (.func 96) #[] #[.pointer (some ⟨aa,0,none⟩)]]))::(.box af 137 ([.int .i64 2,.func (.func 94) #[] #[.pointer (some ⟨aa,0,none⟩),.pointer (some ⟨ab,0,none⟩)]]))::(.box ae 137 ([.int .i64 1,.func (.func 92) #[] #[.pointer (some ⟨aa,0,none⟩)]]))::(.row (.slice (some ⟨ba,0,none⟩) 12 12) 137 2 12 (Vb.t90 aa ab ac ad))::(.box ad 135 ([.func (.func 90) #[] #[]]))::(.box ac 133 ([.func (.func 88) #[] #[]]))::(.box ab 133 ([.func (.func 87) #[] #[]]))::(.box a9 100 ([.int .i64 0,.int .i64 0]))::(.box aa 27 ([ak,al,am,an,ao,ap,aq,ar,au,av,aw]))::Γ) w:=hs
 refine H2 fun ly lz=>Wr fun l0 gc=>O_y rfl (Zbz (v':=.bool false) (Za7 rfl rfl) (by kernel_rfl))<|Ox gc<|Zi fun l1 l2=>Ze5 rfl<|Y5 (gm _ _ (gk _ _<|Wr fun l3 gd=>O_y rfl (Qg (cs:=[.int .i64 0,.int .i64 0]) Zci Zc1 (Z3.nil) H7 (by kernel_rfl))<|Ye (i:=16) H0 hs rfl rfl rfl rfl rfl (Zb rfl (Zb rfl Ym)) (fun w hs=>As rfl<|Zd (gd _ _ ?_))))
 refine Zm ?_
 obtain rfl:=Z4 H
 exact Zc9 (i:=16) rfl rfl rfl H7 H0 hs rfl rfl ⟨_,_,rfl,Le.rfl' _,(hs.sub (ssk (ssk (ssk (ssk (ssk (ssk (ssk (ssk (ssk (ssk (ssk (ssk (ssk (ssk (ssk (ssk (ssk (ssk ssr))))))))))))))))))),rfl⟩

def Kr.f (x0:List ByteArray):Option (List ByteArray):=if ([]:List ByteArray).length+x0.length≤most then (some (([]:List ByteArray)++x0)) else none
theorem Kr.c (hs:St w0 ρ Γ w) {v0:Value} {x0:List ByteArray} (h0:SlR Rep.str ρ v0 x0) {r:List ByteArray} (H:Kr.f x0=some r):Zq Tryz.prog 114 [v0] w (fun v w'=>∃ (ρ':Hp) (v0:Value) (cs0:List Value),v=v0∧Le ρ ρ'∧St w0 ρ' (.row v0 9 Rep.str.sz r.length cs0::Γ) w'∧Zp Rep.str ρ' cs0 r):=by
 rw [Kr.f] at H
 refine Et Tryz.func114 Tryz.ntmps114 rfl<|Wr fun an af=>As rfl<|Ox af<|Zi fun ao ag=>Wr fun ap ae=>Mv rfl ?_
 obtain ⟨ad,c,rfl⟩:=h0.shape
 cases ad with
 | none=>
  obtain rfl:x0=[]:=h0.nilEmpty
  refine O_y rfl (Zbs Zhp rfl rfl)<|Ox ae<|Zak rfl<|Wr fun ah aa=>As rfl<|Ox aa<|Zm ?_
  rw [if_pos (by decide)] at H
  obtain rfl:=Z4 H
  have hs:=hs.rowNil 9 Rep.str.sz
  exact r1 rfl ⟨_,_,_,rfl,Le.rfl' _,hs,Zp.nil _ _⟩
 | some ad=>
  refine O_y rfl (Zbs Zhp rfl rfl)<|Ox ae<|Ze5 rfl<|Wx ag<|Wr fun ah aa=>Zkj (xs:=[]) Zhc hs rfl rfl rfl (by decide) (by decide) rfl Ki (fun aq w hs=>?_)
  have ai:Zp Rep.str ρ [] ([]:List ByteArray):=Zp.nil _ _
  refine Mv rfl ?_
  obtain ⟨aj,ab,ac⟩:=Src.sl hs h0
  obtain ⟨ak,H⟩:=gd H
  refine Q3 (i:=0) Zhc hs rfl ai rfl rfl rfl ab ac ak (fun ar al w am hs=>As rfl<|Ox aa<|Zm ?_)
  obtain rfl:=Z4 H
  exact r1 rfl ⟨_,_,_,rfl,Le.rfl' _,hs,am⟩

def Yj.f (x0:List Val):Option (List Val):=if ([]:List Val).length+x0.length≤most then (some (([]:List Val)++x0)) else none
theorem Yj.c (hs:St w0 ρ Γ w) {v0:Value} {x0:List Val} (h0:SlR Qb ρ v0 x0) {r:List Val} (H:Yj.f x0=some r):Zq Tryz.prog 115 [v0] w (fun v w'=>∃ (ρ':Hp) (v0:Value) (cs0:List Value),v=v0∧Le ρ ρ'∧St w0 ρ' (.row v0 67 Qb.sz r.length cs0::Γ) w'∧Zp Qb ρ' cs0 r):=by
 rw [Yj.f] at H
 refine Et Tryz.func115 Tryz.ntmps115 rfl<|Wr fun an af=>As rfl<|Ox af<|Zi fun ao ag=>Wr fun ap ae=>Mv rfl ?_
 obtain ⟨ad,c,rfl⟩:=h0.shape
 cases ad with
 | none=>
  obtain rfl:x0=[]:=h0.nilEmpty
  refine O_y rfl (Zbs Zg2 rfl rfl)<|Ox ae<|Zak rfl<|Wr fun ah aa=>As rfl<|Ox aa<|Zm ?_
  rw [if_pos (by decide)] at H
  obtain rfl:=Z4 H
  have hs:=hs.rowNil 67 Qb.sz
  exact r1 rfl ⟨_,_,_,rfl,Le.rfl' _,hs,Zp.nil _ _⟩
 | some ad=>
  refine O_y rfl (Zbs Zg2 rfl rfl)<|Ox ae<|Ze5 rfl<|Wx ag<|Wr fun ah aa=>Zkj (xs:=[]) Zcx hs rfl rfl rfl (by decide) (by decide) rfl Ki (fun aq w hs=>?_)
  have ai:Zp Qb ρ [] ([]:List Val):=Zp.nil _ _
  refine Mv rfl ?_
  obtain ⟨aj,ab,ac⟩:=Src.sl hs h0
  obtain ⟨ak,H⟩:=gd H
  refine Q3 (i:=0) Zcx hs rfl ai rfl rfl rfl ab ac ak (fun ar al w am hs=>As rfl<|Ox aa<|Zm ?_)
  obtain rfl:=Z4 H
  exact r1 rfl ⟨_,_,_,rfl,Le.rfl' _,hs,am⟩

def Qu.f (x0:List Chs):Option (List Chs):=if ([]:List Chs).length+x0.length≤most then (some (([]:List Chs)++x0)) else none
theorem Qu.c (hs:St w0 ρ Γ w) {v0:Value} {x0:List Chs} (h0:SlR Kz ρ v0 x0) {r:List Chs} (H:Qu.f x0=some r):Zq Tryz.prog 150 [v0] w (fun v w'=>∃ (ρ':Hp) (v0:Value) (cs0:List Value),v=v0∧Le ρ ρ'∧St w0 ρ' (.row v0 110 Kz.sz r.length cs0::Γ) w'∧Zp Kz ρ' cs0 r):=by
 rw [Qu.f] at H
 refine Et Tryz.func150 Tryz.ntmps150 rfl<|Wr fun an af=>As rfl<|Ox af<|Zi fun ao ag=>Wr fun ap ae=>Mv rfl ?_
 obtain ⟨ad,c,rfl⟩:=h0.shape
 cases ad with
 | none=>
  obtain rfl:x0=[]:=h0.nilEmpty
  refine O_y rfl (Zbs Zfs rfl rfl)<|Ox ae<|Zak rfl<|Wr fun ah aa=>As rfl<|Ox aa<|Zm ?_
  rw [if_pos (by decide)] at H
  obtain rfl:=Z4 H
  have hs:=hs.rowNil 110 Kz.sz
  exact r1 rfl ⟨_,_,_,rfl,Le.rfl' _,hs,Zp.nil _ _⟩
 | some ad=>
  refine O_y rfl (Zbs Zfs rfl rfl)<|Ox ae<|Ze5 rfl<|Wx ag<|Wr fun ah aa=>Zkj (xs:=[]) Zep hs rfl rfl rfl (by decide) (by decide) rfl Ki (fun aq w hs=>?_)
  have ai:Zp Kz ρ [] ([]:List Chs):=Zp.nil _ _
  refine Mv rfl ?_
  obtain ⟨aj,ab,ac⟩:=Src.sl hs h0
  obtain ⟨ak,H⟩:=gd H
  refine Q3 (i:=0) Zep hs rfl ai rfl rfl rfl ab ac ak (fun ar al w am hs=>As rfl<|Ox aa<|Zm ?_)
  obtain rfl:=Z4 H
  exact r1 rfl ⟨_,_,_,rfl,Le.rfl' _,hs,am⟩

def Xk.f (x0:List Int):Option (List Int):=if ([]:List Int).length+x0.length≤most then (some (([]:List Int)++x0)) else none
theorem Xk.c (hs:St w0 ρ Γ w) {v0:Value} {x0:List Int} (h0:SlR (Rep.int .i32) ρ v0 x0) {r:List Int} (H:Xk.f x0=some r):Zq Tryz.prog 30 [v0] w (fun v w'=>∃ (ρ':Hp) (v0:Value) (cs0:List Value),v=v0∧Le ρ ρ'∧St w0 ρ' (.row v0 21 (Rep.int .i32).sz r.length cs0::Γ) w'∧Zp (Rep.int .i32) ρ' cs0 r):=by
 rw [Xk.f] at H
 refine Et Tryz.func30 Tryz.ntmps30 rfl<|Wr fun an af=>As rfl<|Ox af<|Zi fun ao ag=>Wr fun ap ae=>Mv rfl ?_
 obtain ⟨ad,c,rfl⟩:=h0.shape
 cases ad with
 | none=>
  obtain rfl:x0=[]:=h0.nilEmpty
  refine O_y rfl (Zbs Ua rfl rfl)<|Ox ae<|Zak rfl<|Wr fun ah aa=>As rfl<|Ox aa<|Zm ?_
  rw [if_pos (by decide)] at H
  obtain rfl:=Z4 H
  have hs:=hs.rowNil 21 (Rep.int .i32).sz
  exact r1 rfl ⟨_,_,_,rfl,Le.rfl' _,hs,Zp.nil _ _⟩
 | some ad=>
  refine O_y rfl (Zbs Ua rfl rfl)<|Ox ae<|Ze5 rfl<|Wx ag<|Wr fun ah aa=>Zkj (xs:=[]) Kk hs rfl rfl rfl (by decide) (by decide) rfl Ki (fun aq w hs=>?_)
  have ai:Zp (Rep.int .i32) ρ [] ([]:List Int):=Zp.nil _ _
  refine Mv rfl ?_
  obtain ⟨aj,ab,ac⟩:=Src.sl hs h0
  obtain ⟨ak,H⟩:=gd H
  refine Q3 (i:=0) Kk hs rfl ai rfl rfl rfl ab ac ak (fun ar al w am hs=>As rfl<|Ox aa<|Zm ?_)
  obtain rfl:=Z4 H
  exact r1 rfl ⟨_,_,_,rfl,Le.rfl' _,hs,am⟩

def V8.l1:Nat→List Chs→List Chs→Int→Option (List Chs)
  | 0,_,_,_=>none
  | af+1,aj,aa,ab=>if ab<(aj.length:Int) then (if (0:Int)≤ab∧ab<(aa.length:Int) then ((Xk.f ((rd aa ab).is_)).bind fun ar=>((V8.l1 af aj) (aa.set ab.toNat ({ (rd aa ab) with is_:=ar }:Chs)) (i64.wrap (ab+1)))) else none) else (some aa)
def V8.f (x0:List Chs):Option (List Chs):=(Qu.f x0).bind fun aj=>(V8.l1 K0 aj aj 0)
theorem V8.c (hs:St w0 ρ (Γ) w) {v0:Value} {x0:List Chs} (h0:SlR Kz ρ v0 x0) {r:List Chs} (H:V8.f x0=some r):Zq Tryz.prog 116 [v0] w (fun v w'=>∃ (ρ':Hp) (v0:Value) (cs0:List Value),v=v0∧Le ρ ρ'∧St w0 ρ' (.row v0 110 Kz.sz r.length cs0::Γ) w'∧Zp Kz ρ' cs0 r):=by
 rw [V8.f] at H
 refine Et Tryz.func116 Tryz.ntmps116 rfl<|Wr fun bo a5=>As rfl<|Ox a5<|Wr fun bp a6=>Mv rfl ?_
 obtain ⟨aj,au,H⟩:=bnd H
 refine Oc rfl (Qu.c hs h0 au) (fun a7 w hpost=>?_)
 obtain ⟨a3,bq,av,rfl,aw,hs,a8⟩:=hpost
 refine As rfl<|Ox a6<|Zi fun br a9=>Wr fun bs ba=>Mv rfl<|O_y rfl (Hg (i:=0) Zfs hs rfl rfl)<|Mv rfl<|Ox ba<|Zl fun bt bb bu=>Xb (σ:=Nat×List Chs×Int×Value×List Value×Hp) (fun (af,aa,ab,ac,ad,ah)=>[(3,ac),(8,.int .i64 (aj.length:Int)),(9,.int .i64 ab)]) (fun (af,aa,ab,ac,ad,ah) w=>V8.l1 af aj aa ab=some r∧Le a3 ah∧St w0 ah ((.row ac 110 Kz.sz aa.length ad)::Γ) w∧Zp Kz ah ad aa) (fun s=>s.1) (K0,aj,0,a7,av,a3) (T3 rfl) (Ai H (Ai (Le.rfl' _) (Ai hs a8))) ?_
 rintro ⟨af,aa,ab,ac,ad,ah⟩ w bv ⟨H,ak,hs,ae⟩ an
 show W _ _ _ _ _ _ [(3,ac),(8,.int .i64 (aj.length:Int)),(9,.int .i64 ab)] w
 cases af with
 | zero=>rw [V8.l1] at H;cases H
 | succ af=>
 rw [V8.l1] at H
 refine Wr fun bw bc=>Ols rfl<|Ox bc<|Zi fun bx bd=>Xa rfl (fun ax=>?_) (fun ax=>?_)
 rw [if_pos ax] at H
 refine Wx bd<|Zi fun bz be=>Zl fun b0 b1 b2=>Wr fun b3 bf=>Mv rfl<|As rfl<|Ox bf<|Zc<|Mv rfl<|Mv rfl<|Mv rfl<|Mv rfl ?_
 obtain ⟨ag,H⟩:=gd H
 obtain ⟨b4,ao⟩:=hs.rowBlock (j:=0) rfl (by have:=ag.2;omega)
 obtain ⟨_,⟨b5,rfl,bg⟩,ay⟩:=ae.at ag.1 ag.2
 refine O_y rfl (Vv (j:=0) Zep hs rfl ao rfl rfl ag.1 ag.2)<|Ofd Zac rfl<|O_y rfl (Xq Za1 rfl (hs.rowCell (j:=0) rfl ao (ay 2 _ rfl))) ?_
 obtain ⟨ar,az,H⟩:=bnd H
 refine Oc rfl (Xk.c hs bg az) (fun b6 w hpost=>?_)
 obtain ⟨bh,b7,bi,rfl,ai,hs,bj⟩:=hpost
 obtain ⟨bk,al⟩:=hs.rowBlock (j:=1) rfl (by have:=ag.2;omega)
 obtain ⟨_,⟨bl,rfl,bm⟩,a4⟩:=(ae.mono ai).at ag.1 ag.2
 refine O_y rfl (Vv (j:=1) Zep hs rfl al rfl rfl ag.1 ag.2)<|Ofd Zac rfl ?_
 obtain ⟨a0,am,hs,ap⟩:=hs.rowEnd (j:=0) bj rfl
 refine Zoo (j:=0) (off:=2) (z:=({ (rd aa ab) with is_:=ar }:Chs)) Zw5 hs rfl al ag.1 ag.2 (by decide) (ae.mono (ai.trans am)) rfl rfl ap.one (fun c h=>by obtain ⟨v_2,rfl,f_2⟩:=h;exact ⟨_,rfl,ap⟩) (fun aq w a1 hs=>Ox be<|W.weak [(3,_),(8,_),(9,_)] (T3 rfl)<|Zc<|Oad rfl<|Mv rfl<|Zd (an (af,(aa.set ab.toNat ({ (rd aa ab) with is_:=ar }:Chs)),(i64.wrap (ab+1)),ac,aq,a0) _ _ (T3 rfl) (Ai H (Ai ((ak.trans ai).trans am) (Ai hs a1))) (Nat.lt_succ_self _)))
 rw [if_neg ax] at H
 refine Y5 (bb _ _ (a9 _ _<|Wr fun bn a2=>Mv rfl<|As rfl<|Ox a2<|Zm ?_))
 obtain rfl:=Z4 H
 exact r1 rfl ⟨_,_,_,rfl,(aw.trans ak),hs,ae⟩

def Xy.f (x0:List Spn):Option (List Spn):=if ([]:List Spn).length+x0.length≤most then (some (([]:List Spn)++x0)) else none
theorem Xy.c (hs:St w0 ρ Γ w) {v0:Value} {x0:List Spn} (h0:SlR Kj ρ v0 x0) {r:List Spn} (H:Xy.f x0=some r):Zq Tryz.prog 117 [v0] w (fun v w'=>∃ (ρ':Hp) (v0:Value) (cs0:List Value),v=v0∧Le ρ ρ'∧St w0 ρ' (.row v0 129 Kj.sz r.length cs0::Γ) w'∧Zp Kj ρ' cs0 r):=by
 rw [Xy.f] at H
 refine Et Tryz.func117 Tryz.ntmps117 rfl<|Wr fun an af=>As rfl<|Ox af<|Zi fun ao ag=>Wr fun ap ae=>Mv rfl ?_
 obtain ⟨ad,c,rfl⟩:=h0.shape
 cases ad with
 | none=>
  obtain rfl:x0=[]:=h0.nilEmpty
  refine O_y rfl (Zbs Zky rfl rfl)<|Ox ae<|Zak rfl<|Wr fun ah aa=>As rfl<|Ox aa<|Zm ?_
  rw [if_pos (by decide)] at H
  obtain rfl:=Z4 H
  have hs:=hs.rowNil 129 Kj.sz
  exact r1 rfl ⟨_,_,_,rfl,Le.rfl' _,hs,Zp.nil _ _⟩
 | some ad=>
  refine O_y rfl (Zbs Zky rfl rfl)<|Ox ae<|Ze5 rfl<|Wx ag<|Wr fun ah aa=>Zkj (xs:=[]) Zkx hs rfl rfl rfl (by decide) (by decide) rfl Ki (fun aq w hs=>?_)
  have ai:Zp Kj ρ [] ([]:List Spn):=Zp.nil _ _
  refine Mv rfl ?_
  obtain ⟨aj,ab,ac⟩:=Src.sl hs h0
  obtain ⟨ak,H⟩:=gd H
  refine Q3 (i:=0) Zkx hs rfl ai rfl rfl rfl ab ac ak (fun ar al w am hs=>As rfl<|Ox aa<|Zm ?_)
  obtain rfl:=Z4 H
  exact r1 rfl ⟨_,_,_,rfl,Le.rfl' _,hs,am⟩

def Zat.f (x0:Bk):Option Bk:=(Kr.f x0.names).bind fun di=>((Yj.f x0.status).bind fun dj=>((V8.f x0.maps).bind fun bh=>((Yj.f x0.class_).bind fun bi=>((V8.f x0.decomp).bind fun bj=>((Xy.f x0.excl).bind fun bk=>((Yj.f x0.bidi).bind fun bl=>((Yj.f x0.join).bind fun bm=>((Xy.f x0.marks).bind fun bn=>((Yj.f x0.script).bind fun bo=>((V8.f x0.like).bind fun bp=>(some (⟨di,dj,bh,bi,bj,bk,bl,bm,bn,bo,bp⟩:Bk))))))))))))
theorem Zat.c (hs:St w0 ρ (Γ) w) {c0:List Value} {x0:Bk} (h0:rBk.R ρ c0 x0) {r:Bk} (H:Zat.f x0=some r):Zq Tryz.prog 61 [.agg c0.toArray] w (fun v w'=>∃ (ρ':Hp) (cs0:List Value),v=.agg cs0.toArray∧Le ρ ρ'∧St w0 ρ' (Γ) w'∧rBk.R ρ' cs0 r):=by
 rw [Zat.f] at H
 refine Et Tryz.func61 Tryz.ntmps61 rfl ?_
 have ef:=h0
 obtain ⟨dk,dl,dm,dn,dp,dq,dr,ds,dt,du,dv,rfl,eg,eh,ei,ej,ek,el,em,en,eo,ep,eq⟩:=ef
 refine Wr fun gg er=>Vn (cs:=[dk,dl,dm,dn,dp,dq,dr,ds,dt,du,dv]) hs rfl rfl (fun es w hs=>Y6 Zzf hs rfl (fun et w hs=>Ox er<|Zi fun gh eu=>Qt 35 [0,1,2,0,8,20,0,64,160,0,512,1280,0,4096,10240,0,32768,81920,0,262144,655360,0,2097152,5242880,0,16777216,41943040,0,134217728,335544320,0,1073741824,2684354560,4908534052,17179869183] [17179869180,17179869176,8589934552,17179869159,17179869127,8589934272,17179868991,17179868735,8589932032,17179867647,17179865599,8589914112,17179856895,17179840511,8589770752,17179770879,17179639807,8588623872,17179082751,17178034175,8579448832,17173577727,17165189119,8506048512,17129537535,17062428671,7918845952,16777215999,16240345087,3221225472,13958643711,9663676415,0,0,0] [0,1,3,0,8,31,0,64,255,0,512,2047,0,4096,16383,0,32768,131071,0,262144,1048575,0,2097152,8388607,0,16777216,67108863,0,134217728,536870911,0,1073741824,4294967295,8589934591,17179869183] [34] (fun w=>St w0 ρ ((.box et 27 ([.slice none 0 0,.slice none 0 0,.slice none 0 0,.slice none 0 0,.slice none 0 0,.slice none 0 0,.slice none 0 0,.slice none 0 0,.slice none 0 0,.slice none 0 0,.slice none 0 0]))::(.box es 27 ([dk,dl,dm,dn,dp,dq,dr,ds,dt,du,dv]))::Γ) w) Vr (by kernel_rfl) (fun sh=>?_)))
 have hs:=hs.drew
 refine Fp 0 sh rfl (fun w=>Zw Zns rfl)<|Fy 1 sh rfl hs (fun w hs=>Yb 1 Ztp hs rfl rfl rfl)<|Fp 3 sh rfl (fun w=>Zw Zd7 rfl)<|Fy 4 sh rfl hs (fun w hs=>Yb 1 Zbx hs rfl rfl rfl)<|Fp 6 sh rfl (fun w=>Zw Zm1 rfl)<|Fy 7 sh rfl hs (fun w hs=>Yb 1 Zfe hs rfl rfl rfl)<|Fp 9 sh rfl (fun w=>Zw Zmg rfl)<|Fy 10 sh rfl hs (fun w hs=>Yb 1 Zbx hs rfl rfl rfl)<|Fp 12 sh rfl (fun w=>Zw Zfp rfl)<|Fy 13 sh rfl hs (fun w hs=>Yb 1 Zfe hs rfl rfl rfl)<|Fp 15 sh rfl (fun w=>Zw Zmc rfl)<|Fy 16 sh rfl hs (fun w hs=>Yb 1 Zn5 hs rfl rfl rfl)<|Fp 18 sh rfl (fun w=>Zw Zne rfl)<|Fy 19 sh rfl hs (fun w hs=>Yb 1 Zbx hs rfl rfl rfl) ?_
 refine Fp 21 sh rfl (fun w=>Zw Znm rfl)<|Fy 22 sh rfl hs (fun w hs=>Yb 1 Zbx hs rfl rfl rfl)<|Fp 24 sh rfl (fun w=>Zw Znf rfl)<|Fy 25 sh rfl hs (fun w hs=>Yb 1 Zn5 hs rfl rfl rfl)<|Fp 27 sh rfl (fun w=>Zw Zmt rfl)<|Fy 28 sh rfl hs (fun w hs=>Yb 1 Zbx hs rfl rfl rfl)<|Fp 30 sh rfl (fun w=>Zw Zir rfl)<|Fy 31 sh rfl hs (fun w hs=>Yb 1 Zfe hs rfl rfl rfl)<|F1 2 sh rfl (fun gi ev=>?_)
 obtain ⟨di,b2,H⟩:=bnd H
 refine Oc rfl (Kr.c hs eg b2) (fun ew w hpost=>?_)
 obtain ⟨gj,gk,ex,rfl,aw,hs,ey⟩:=hpost
 refine Zd (ev _ _ (fun _ _=>((hs.less aw).sub (ssk (ssc (ssc ssr)))))<|F1 5 sh rfl (fun gl ez=>?_))
 obtain ⟨dj,b3,H⟩:=bnd H
 refine Oc rfl (Yj.c hs (eh.mono aw) b3) (fun e0 w hpost=>?_)
 obtain ⟨gm,gn,e1,rfl,bq,hs,e2⟩:=hpost
 have ax:=aw.trans bq
 refine Zd (ez _ _ (fun _ _=>((hs.less ax).sub (ssk (ssk (ssc (ssc ssr))))))<|F1 8 sh rfl (fun e3 b4=>?_))
 obtain ⟨bh,br,H⟩:=bnd H
 refine Oc rfl (V8.c hs (ei.mono ax) br) (fun b5 w hpost=>?_)
 obtain ⟨e4,e5,dw,rfl,av,hs,b6⟩:=hpost
 have ay:=ax.trans av
 refine Zd (b4 _ _ (fun _ _=>((hs.less ay).sub (ssk (ssk (ssk (ssc (ssc ssr)))))))<|F1 11 sh rfl (fun e6 b7=>?_))
 obtain ⟨bi,bs,H⟩:=bnd H
 refine Oc rfl (Yj.c hs (ej.mono ay) bs) (fun b8 w hpost=>?_)
 obtain ⟨e7,e8,dx,rfl,au,hs,b9⟩:=hpost
 have az:=ay.trans au
 refine Zd (b7 _ _ (fun _ _=>((hs.less az).sub (ssk (ssk (ssk (ssk (ssc (ssc ssr))))))))<|F1 14 sh rfl (fun e9 ca=>?_))
 obtain ⟨bj,bt,H⟩:=bnd H
 refine Oc rfl (V8.c hs (ek.mono az) bt) (fun cb w hpost=>?_)
 obtain ⟨fa,fb,dy,rfl,ar,hs,cc⟩:=hpost
 have a0:=az.trans ar
 refine Zd (ca _ _ (fun _ _=>((hs.less a0).sub (ssk (ssk (ssk (ssk (ssk (ssc (ssc ssr)))))))))<|F1 17 sh rfl (fun fc cd=>?_))
 obtain ⟨bk,bu,H⟩:=bnd H
 refine Oc rfl (Xy.c hs (el.mono a0) bu) (fun ce w hpost=>?_)
 obtain ⟨fd,fe,dz,rfl,aq,hs,cf⟩:=hpost
 have a1:=a0.trans aq
 refine Zd (cd _ _ (fun _ _=>((hs.less a1).sub (ssk (ssk (ssk (ssk (ssk (ssk (ssc (ssc ssr))))))))))<|F1 20 sh rfl (fun ff cg=>?_))
 obtain ⟨bl,bv,H⟩:=bnd H
 refine Oc rfl (Yj.c hs (em.mono a1) bv) (fun ch w hpost=>?_)
 obtain ⟨fg,fh,ea,rfl,ap,hs,ci⟩:=hpost
 have a2:=a1.trans ap
 refine Zd (cg _ _ (fun _ _=>((hs.less a2).sub (ssk (ssk (ssk (ssk (ssk (ssk (ssk (ssc (ssc ssr)))))))))))<|F1 23 sh rfl (fun fi cj=>?_))
 obtain ⟨bm,bw,H⟩:=bnd H
 refine Oc rfl (Yj.c hs (en.mono a2) bw) (fun ck w hpost=>?_)
 obtain ⟨fj,fk,eb,rfl,ao,hs,cl⟩:=hpost
 have a3:=a2.trans ao
 refine Zd (cj _ _ (fun _ _=>((hs.less a3).sub (ssk (ssk (ssk (ssk (ssk (ssk (ssk (ssk (ssc (ssc ssr))))))))))))<|F1 26 sh rfl (fun fl cm=>?_))
 obtain ⟨bn,bx,H⟩:=bnd H
 refine Oc rfl (Xy.c hs (eo.mono a3) bx) (fun cn w hpost=>?_)
 obtain ⟨fm,fn,ec,rfl,an,hs,co⟩:=hpost
 have a4:=a3.trans an
 refine Zd (cm _ _ (fun _ _=>((hs.less a4).sub (ssk (ssk (ssk (ssk (ssk (ssk (ssk (ssk (ssk (ssc (ssc ssr)))))))))))))<|F1 29 sh rfl (fun fo cp=>?_))
 obtain ⟨bo,bz,H⟩:=bnd H
 refine Oc rfl (Yj.c hs (ep.mono a4) bz) (fun cq w hpost=>?_)
 obtain ⟨fp,fq,ed,rfl,am,hs,cr⟩:=hpost
 have a5:=a4.trans am
 refine Zd (cp _ _ (fun _ _=>((hs.less a5).sub (ssk (ssk (ssk (ssk (ssk (ssk (ssk (ssk (ssk (ssk (ssc (ssc ssr))))))))))))))<|F1 32 sh rfl (fun fr ct=>?_))
 obtain ⟨bp,b0,H⟩:=bnd H
 refine Oc rfl (V8.c hs (eq.mono a5) b0) (fun cu w hpost=>?_)
 obtain ⟨fs,ft,ee,rfl,aa,hs,cv⟩:=hpost
 have b1:=a5.trans aa
 refine Zd (ct _ _ (fun _ _=>((hs.less b1).sub (ssk (ssk (ssk (ssk (ssk (ssk (ssk (ssk (ssk (ssk (ssk (ssc (ssc ssr))))))))))))))) ?_)
 obtain ⟨fu,ab,hs,a6⟩:=hs.rowEnd (j:=10) (ey.mono (((((((((bq.trans av).trans au).trans ar).trans aq).trans ap).trans ao).trans an).trans am).trans aa)) rfl
 have cw:=b1.trans ab
 obtain ⟨fv,ac,hs,a7⟩:=hs.rowEnd (j:=9) (e2.mono (((((((((av.trans au).trans ar).trans aq).trans ap).trans ao).trans an).trans am).trans aa).trans ab)) rfl
 have cx:=cw.trans ac
 obtain ⟨fw,ad,hs,a8⟩:=hs.rowEnd (j:=8) (b6.mono (((((((((au.trans ar).trans aq).trans ap).trans ao).trans an).trans am).trans aa).trans ab).trans ac)) rfl
 have cy:=cx.trans ad
 obtain ⟨fx,ae,hs,a9⟩:=hs.rowEnd (j:=7) (b9.mono (((((((((ar.trans aq).trans ap).trans ao).trans an).trans am).trans aa).trans ab).trans ac).trans ad)) rfl
 have cz:=cy.trans ae
 obtain ⟨fy,af,hs,ba⟩:=hs.rowEnd (j:=6) (cc.mono (((((((((aq.trans ap).trans ao).trans an).trans am).trans aa).trans ab).trans ac).trans ad).trans ae)) rfl
 have da:=cz.trans af
 obtain ⟨fz,ag,hs,bb⟩:=hs.rowEnd (j:=5) (cf.mono (((((((((ap.trans ao).trans an).trans am).trans aa).trans ab).trans ac).trans ad).trans ae).trans af)) rfl
 have db:=da.trans ag
 obtain ⟨ga,ah,hs,bc⟩:=hs.rowEnd (j:=4) (ci.mono (((((((((ao.trans an).trans am).trans aa).trans ab).trans ac).trans ad).trans ae).trans af).trans ag)) rfl
 have dc:=db.trans ah
 obtain ⟨gb,ai,hs,bd⟩:=hs.rowEnd (j:=3) (cl.mono (((((((((an.trans am).trans aa).trans ab).trans ac).trans ad).trans ae).trans af).trans ag).trans ah)) rfl
 have dd:=dc.trans ai
 obtain ⟨gc,aj,hs,be⟩:=hs.rowEnd (j:=2) (co.mono (((((((((am.trans aa).trans ab).trans ac).trans ad).trans ae).trans af).trans ag).trans ah).trans ai)) rfl
 have de:=dd.trans aj
 obtain ⟨gd,ak,hs,bf⟩:=hs.rowEnd (j:=1) (cr.mono (((((((((aa.trans ab).trans ac).trans ad).trans ae).trans af).trans ag).trans ah).trans ai).trans aj)) rfl
 have df:=de.trans ak
 obtain ⟨ge,al,hs,bg⟩:=hs.rowEnd (j:=0) (cv.mono (((((((((ab.trans ac).trans ad).trans ae).trans af).trans ag).trans ah).trans ai).trans aj).trans ak)) rfl
 have dg:=df.trans al
 refine Fp 33 sh rfl (fun w=>Qg (cs:=[ew,e0,b5,b8,cb,ce,ch,ck,cn,cq,cu]) Zzf Z0p ((Z3.cons rfl a6.cellsL (Z3.cons rfl a7.cellsL (Z3.cons rfl a8.cellsL (Z3.cons rfl a9.cellsL (Z3.cons rfl ba.cellsL (Z3.cons rfl bb.cellsL (Z3.cons rfl bc.cellsL (Z3.cons rfl bd.cellsL (Z3.cons rfl be.cellsL (Z3.cons rfl bf.cellsL (Z3.cons rfl bg.cellsL Z3.nil)))))))))))) Zk3 (by kernel_rfl))<|F1 34 sh rfl (fun gf dh=>Ye (i:=0) Zkz hs rfl rfl rfl rfl rfl (Zb a6.one (Zb a7.one (Zb a8.one (Zb a9.one (Zb ba.one (Zb bb.one (Zb bc.one (Zb bd.one (Zb be.one (Zb bf.one (Zb bg.one Ym))))))))))) (fun w hs=>Zd (dh _ _ (fun h _=>absurd h (by decide))<|FE sh (eu _ _<|W.weak [(2,_)] (S1 rfl)<|Zm ?_))))
 obtain rfl:=Z4 H
 exact Zi2 (i:=0) rfl rfl Zk3 Zkz hs rfl rfl ⟨_,_,rfl,dg,(hs.sub (ssk (ssk ssr))),⟨_,_,_,_,_,_,_,_,_,_,_,rfl,(a6.mono (((((((((ac.trans ad).trans ae).trans af).trans ag).trans ah).trans ai).trans aj).trans ak).trans al)),(a7.mono ((((((((ad.trans ae).trans af).trans ag).trans ah).trans ai).trans aj).trans ak).trans al)),(a8.mono (((((((ae.trans af).trans ag).trans ah).trans ai).trans aj).trans ak).trans al)),(a9.mono ((((((af.trans ag).trans ah).trans ai).trans aj).trans ak).trans al)),(ba.mono (((((ag.trans ah).trans ai).trans aj).trans ak).trans al)),(bb.mono ((((ah.trans ai).trans aj).trans ak).trans al)),(bc.mono (((ai.trans aj).trans ak).trans al)),(bd.mono ((aj.trans ak).trans al)),(be.mono (ak.trans al)),(bf.mono al),bg⟩⟩

def Y7.j1 (af:Int→Int→Option (Int×Int)) (x0:List Val) (aa:Int) (ab:Bool):Option (Int×Int):=if ab=true then (some (aa,81)) else (af ((rd x0 aa).hi) (i64.wrap (aa+1)))
def Y7.j2 (af:Int→Int→Option (Int×Int)) (x0:List Val) (aa:Int) (ac:Bool):Option (Int×Int):=if ac=true then (some (aa,80)) else (if ((rd x0 aa).n)<0 then (Y7.j1 af x0 aa true) else (Y7.j1 af x0 aa (decide (65535<((rd x0 aa).n)))))
def Y7.l1:Nat→List Val→Int→Int→Option (Int×Int)
  | 0,_,_,_=>none
  | ad+1,x0,ae,aa=>if aa<(x0.length:Int) then (if (0:Int)≤aa∧aa<(x0.length:Int) then (if ((rd x0 aa).lo)≤ae then (Y7.j2 (Y7.l1 ad x0) x0 aa true) else (if ((rd x0 aa).hi)<((rd x0 aa).lo) then (Y7.j2 (Y7.l1 ad x0) x0 aa true) else (Y7.j2 (Y7.l1 ad x0) x0 aa (decide (1114111<((rd x0 aa).hi)))))) else none) else (some (0,0))
def Y7.f (x0:List Val):Option (Int×Int):=if 65536<(x0.length:Int) then (some (65536,80)) else (Y7.l1 K0 x0 (-1) 0)
theorem Y7.c (hs:St w0 ρ (Γ) w) {v0:Value} {x0:List Val} (h0:SlR Qb ρ v0 x0) {r:Int×Int} (H:Y7.f x0=some r):Zq Tryz.prog 151 [v0] w (fun v w'=>v=.tuple #[.int .i64 r.1,.int .i64 r.2]∧St w0 ρ Γ w'):=by
 rw [Y7.f] at H
 refine Et Tryz.func151 Tryz.ntmps151 rfl<|Wr fun bm a1=>As rfl<|As rfl<|Ox a1<|Zi fun bn a2=>Wr fun bo a3=>Mv rfl<|O_y rfl (Yx Zg2 h0 rfl)<|Ogt rfl<|Ox a3<|Xa rfl (fun aq=>?_) (fun aq=>?_)
 rw [if_pos aq] at H
 refine Wr fun bp a4=>As rfl<|As rfl<|Ox a4<|Zm ?_
 obtain rfl:=Z4 H
 exact Zb4 rfl rfl rfl ⟨rfl,hs⟩
 rw [if_neg aq] at H
 refine Wx a2<|Wr fun bq a5=>As rfl<|Ox a5<|Zi fun br a6=>Wr fun bs a7=>Mv rfl<|O_y rfl (Yx Zg2 h0 rfl)<|Mv rfl<|Ox a7<|Zl fun bt a8 bu=>Xb (σ:=Nat×Int×Int) (fun (ad,ae,aa)=>[(4,.int .i32 ae),(10,v0),(11,.int .i64 (x0.length:Int)),(12,.int .i64 aa)]) (fun (ad,ae,aa) w=>Y7.l1 ad x0 ae aa=some r∧St w0 ρ (Γ) w) (fun s=>s.1) (K0,(-1),0) (T4 rfl) (Ai H hs) ?_
 rintro ⟨ad,ae,aa⟩ w bv ⟨H,hs⟩ ag
 show W _ _ _ _ _ _ [(4,.int .i32 ae),(10,v0),(11,.int .i64 (x0.length:Int)),(12,.int .i64 aa)] w
 cases ad with
 | zero=>rw [Y7.l1] at H;cases H
 | succ ad=>
 rw [Y7.l1] at H
 refine Wr fun bw a9=>Ols rfl<|Ox a9<|Zi fun bx ba=>Xa rfl (fun ar=>?_) (fun ar=>?_)
 rw [if_pos ar] at H
 refine Wx ba<|Zi fun bz bb=>Zl fun b0 b1 b2=>Wr fun b3 bc=>Mv rfl ?_
 obtain ⟨a0,H⟩:=gd H
 obtain ⟨b4,b5,bd,be⟩:=h0.ix Zcx a0.1 a0.2
 obtain ⟨_,rfl,bf⟩:=bd
 refine O_y rfl (be rfl rfl)<|O_y rfl (Q0 Zft Zfd rfl rfl (fun j u hu=>hs.see (bf j u hu)))<|Y6 Zml hs rfl (fun ap w hs=>As rfl<|Ye (i:=0) Zfd hs rfl rfl rfl rfl rfl (Zb rfl (Zb rfl (Zb rfl Ym))) (fun w hs=>Ox bc<|Zi fun b6 bg=>Zl fun b7 b8 b9=>Yt fun bh bi au=>?_))
 have ah:∀ (ac:Bool) (w:World),Y7.j2 (Y7.l1 ad x0) x0 aa ac=some r→St w0 ρ ((.box ap 67 ([.int .i32 ((rd x0 aa).lo),.int .i32 ((rd x0 aa).hi),.int .i64 ((rd x0 aa).n)]))::Γ) w→bh [(5,.int .i64 aa),(6,.pointer (some ⟨ap,0,none⟩)),(10,v0),(11,.int .i64 (x0.length:Int)),(12,.int .i64 aa),(17,.bool ac)] w:=by
  intro ac w H hs
  rw [Y7.j2] at H
  refine bi _ _<|Xh rfl (fun ai=>?_) (fun ai=>?_)
  rw [if_pos ai] at H
  refine Wr fun bj av=>Mv rfl<|As rfl<|As rfl<|Ox av<|Zm ?_
  obtain rfl:=Z4 H
  exact Zb4 rfl rfl rfl ⟨rfl,(hs.sub (ssk ssr))⟩
  rw [if_neg (bft ai)] at H
  refine Yt fun aw ax an=>?_
  have ao:∀ (ab:Bool) (w:World),Y7.j1 (Y7.l1 ad x0) x0 aa ab=some r→St w0 ρ ((.box ap 67 ([.int .i32 ((rd x0 aa).lo),.int .i32 ((rd x0 aa).hi),.int .i64 ((rd x0 aa).n)]))::Γ) w→aw [(5,.int .i64 aa),(6,.pointer (some ⟨ap,0,none⟩)),(10,v0),(11,.int .i64 (x0.length:Int)),(12,.int .i64 aa),(35,.bool ab)] w:=by
   intro ab w H hs
   rw [Y7.j1] at H
   refine ax _ _<|Xh rfl (fun aj=>?_) (fun aj=>?_)
   rw [if_pos aj] at H
   refine Wr fun bk ay=>Mv rfl<|As rfl<|As rfl<|Ox ay<|Zm ?_
   obtain rfl:=Z4 H
   exact Zb4 rfl rfl rfl ⟨rfl,(hs.sub (ssk ssr))⟩
   rw [if_neg (bft aj)] at H
   refine Wx bg<|Zc<|Ofd Zej rfl<|Obx 0 Xn hs rfl<|As rfl<|Ox bb<|Zc<|Oad rfl<|Mv rfl<|Zd (ag (ad,((rd x0 aa).hi),(i64.wrap (aa+1))) _ _ (T4 rfl) (Ai H (hs.sub (ssk ssr))) (Nat.lt_succ_self _))
  refine Zc<|Ofd Zew rfl<|Obx 0 ag3 hs rfl<|Ols rfl<|Mv rfl<|X4 (dj:=39) rfl (fun ak=>?_) (fun ak=>?_)
  rw [if_pos ak] at H
  refine On rfl<|On rfl<|On rfl<|Opk rfl<|As rfl<|Zd (an _ _ _ sbn (ao true _ H hs))
  rw [if_neg ak] at H
  refine Oe rfl<|Ofd Zew rfl<|Oe rfl<|Obx 0 ag3 hs rfl<|Oe rfl<|Ogt rfl<|Opk rfl<|As rfl<|Zd (an _ _ _ sbn (ao (decide (65535<((rd x0 aa).n))) _ H hs))
 refine Zc<|Ofd Zf4 rfl<|Obx 0 Xn hs rfl<|Mv rfl<|Ole rfl<|Mv rfl<|X4 (dj:=22) rfl (fun al=>?_) (fun al=>?_)
 rw [if_pos al] at H
 refine On rfl<|On rfl<|On rfl<|On rfl<|On rfl<|Opk rfl<|Mv rfl<|On rfl<|On rfl<|On rfl<|Opk rfl<|As rfl<|Zd (au _ _ _ sbn (ah true _ H hs))
 rw [if_neg al] at H
 refine Oe rfl<|Ofd Zej rfl<|Oe rfl<|Obx 0 Xn hs rfl<|Oe rfl<|Ofd Zf4 rfl<|Oe rfl<|Obx 0 Xn hs rfl<|Oe rfl<|Ols rfl<|Opk rfl<|Mv rfl<|X4 (dj:=29) rfl (fun am=>?_) (fun am=>?_)
 rw [if_pos am] at H
 refine On rfl<|On rfl<|On rfl<|Opk rfl<|As rfl<|Zd (au _ _ _ sbn (ah true _ H hs))
 rw [if_neg am] at H
 refine Oe rfl<|Ofd Zej rfl<|Oe rfl<|Obx 0 Xn hs rfl<|Oe rfl<|Ogt rfl<|Opk rfl<|As rfl<|Zd (au _ _ _ sbn (ah (decide (1114111<((rd x0 aa).hi))) _ H hs))
 rw [if_neg ar] at H
 refine Y5 (a8 _ _ (a6 _ _<|Wr fun bl az=>As rfl<|As rfl<|Ox az<|Zm ?_))
 obtain rfl:=Z4 H
 exact Zb4 rfl rfl rfl ⟨rfl,hs⟩

def Z7.j1 (aa:Int) (ag:Vector Int 128) (ai:Bool):Option (Bool×Int×Vector Int 128):=some (ai,aa,ag)
def Z7.l1 (am:Vector Int 128→Bool→Int→Option (Bool×Int×Vector Int 128)):Nat→List Val→Int→Int→Int→Vector Int 128→Int→Option (Bool×Int×Vector Int 128)
  | 0,_,_,_,_,_,_=>none
  | ah+1,x0,x2,aa,ab,ac,ae=>if ae≤(min ((rd (sub x0 aa (x0.length:Int)) ab).hi) (i32.wrap ((i32.wrap (x2+128))-1))) then (if (0:Int)≤i32.wrap (ae-x2)∧i32.wrap (ae-x2)<((128:Nat):Int) then ((Z7.l1 am ah x0 x2 aa ab) (Zcj ac (i32.wrap (ae-x2)) (u16.wrap ((rd (sub x0 aa (x0.length:Int)) ab).n))) (i32.wrap (ae+1))) else none) else (am ac true (i64.wrap (ab+1)))
def Z7.l2:Nat→List Val→Int→Int→Vector Int 128→Bool→Int→Option (Bool×Int×Vector Int 128)
  | 0,_,_,_,_,_,_=>none
  | al+1,x0,x2,aa,ad,af,ab=>if ab<((sub x0 aa (x0.length:Int)).length:Int) then (if (0:Int)≤ab∧ab<((sub x0 aa (x0.length:Int)).length:Int) then (if (i32.wrap ((i32.wrap (x2+128))-1))<((rd (sub x0 aa (x0.length:Int)) ab).lo) then (Z7.j1 aa ad af) else (Z7.l1 (Z7.l2 al x0 x2 aa) K0 x0 x2 aa ab ad (max ((rd (sub x0 aa (x0.length:Int)) ab).lo) x2))) else none) else (Z7.j1 aa ad af)
def Z7.j2 (aq:Int→Option (Bool×Int×Vector Int 128)) (y1_0:Vector Int 128) (x0:List Val) (x2 aa:Int) (aj:Bool):Option (Bool×Int×Vector Int 128):=if aj=true then (aq (i64.wrap (aa+1))) else (if (0:Int)≤aa∧aa≤(x0.length:Int)∧(x0.length:Int)≤(x0.length:Int) then (Z7.l2 K0 x0 x2 aa y1_0 false 0) else none)
def Z7.l3:Nat→Vector Int 128→List Val→Int→Int→Option (Bool×Int×Vector Int 128)
  | 0,_,_,_,_=>none
  | ak+1,y1_0,x0,x2,aa=>if aa<(x0.length:Int) then (if (0:Int)≤aa∧aa<(x0.length:Int) then (Z7.j2 (Z7.l3 ak y1_0 x0 x2) y1_0 x0 x2 aa (decide (((rd x0 aa).hi)<x2))) else none) else (Z7.j2 (Z7.l3 ak y1_0 x0 x2) y1_0 x0 x2 aa false)
def Z7.f (x0:List Val) (x2 y0_0:Int) (y1_0:Vector Int 128):Option (Bool×Int×Vector Int 128):=Z7.l3 K0 y1_0 x0 x2 y0_0
theorem Z7.c {pb0:Nat} {y0_0:Int} {pb1:Nat} {y1_0:Vector Int 128} (hs:St w0 ρ ((.box pb0 3 ([.int .i64 y0_0]))::(.box pb1 152 ([]++(vcs (Value.int .u16) y1_0++[])))::Γ) w) {v0:Value} {x0:List Val} (h0:SlR Qb ρ v0 x0) {x2:Int} {r:Bool×Int×Vector Int 128} (H:Z7.f x0 x2 y0_0 y1_0=some r):Zq Tryz.prog 154 [v0,.pointer (some ⟨pb0,0,none⟩),.int .i32 x2,.pointer (some ⟨pb1,0,none⟩)] w (fun v w'=>v=.bool r.1∧St w0 ρ ((.box pb0 3 ([.int .i64 r.2.1]))::(.box pb1 152 ([]++(vcs (Value.int .u16) r.2.2++[])))::Γ) w'):=by
 rw [Z7.f] at H
 refine Et Tryz.func154 Tryz.ntmps154 rfl<|Wr fun ct br=>As rfl<|Ox br<|Wr fun cu bs=>Mv rfl<|Oad rfl<|Osu rfl<|As rfl<|Ox bs<|Zi fun cv bt=>Zl fun cw bu cx=>?_
 refine Xb (σ:=Nat×Int) (fun (ak,aa)=>[(0,v0),(1,.pointer (some ⟨pb0,0,none⟩)),(2,.int .i32 x2),(3,.pointer (some ⟨pb1,0,none⟩)),(9,.int .i32 (i32.wrap ((i32.wrap (x2+128))-1)))]) (fun (ak,aa) w=>Z7.l3 ak y1_0 x0 x2 aa=some r∧St w0 ρ ((.box pb0 3 ([.int .i64 aa]))::(.box pb1 152 ([]++(vcs (Value.int .u16) y1_0++[])))::Γ) w) (fun s=>s.1) (K0,y0_0) sbn (Ai H hs) ?_
 rintro ⟨ak,aa⟩ w cy ⟨H,hs⟩ ar
 show W _ _ _ _ _ _ [(0,v0),(1,.pointer (some ⟨pb0,0,none⟩)),(2,.int .i32 x2),(3,.pointer (some ⟨pb1,0,none⟩)),(9,.int .i32 (i32.wrap ((i32.wrap (x2+128))-1)))] w
 cases ak with
 | zero=>rw [Z7.l3] at H;cases H
 | succ ak=>
 rw [Z7.l3] at H
 refine Zi fun cz bv=>Yt fun bw bx bl=>?_
 have bm:∀ (aj:Bool) (w:World),Z7.j2 (Z7.l3 ak y1_0 x0 x2) y1_0 x0 x2 aa aj=some r→St w0 ρ ((.box pb0 3 ([.int .i64 aa]))::(.box pb1 152 ([]++(vcs (Value.int .u16) y1_0++[])))::Γ) w→bw [(0,v0),(1,.pointer (some ⟨pb0,0,none⟩)),(2,.int .i32 x2),(3,.pointer (some ⟨pb1,0,none⟩)),(9,.int .i32 (i32.wrap ((i32.wrap (x2+128))-1))),(33,.bool aj)] w:=by
  intro aj w H hs
  rw [Z7.j2] at H
  refine bx _ _<|Xh rfl (fun a1=>?_) (fun a1=>?_)
  rw [if_pos a1] at H
  refine Wx bv<|Zl fun da db dc=>Zc<|Mv rfl<|Onp rfl<|Obx 0 ag3 hs rfl<|Oad rfl<|Onp rfl<|V6 (i:=0) sz3 hs rfl rfl rfl rfl rfl (fun w hs=>Zd (ar (ak,(i64.wrap (aa+1))) _ _ sbn (Ai H hs) (Nat.lt_succ_self _)))
  rw [if_neg (bft a1)] at H
  refine Y5 (bu _ _ (bt _ _<|Wr fun dd bz=>As rfl<|Ox bz<|Yt fun b0 b1 bn=>?_))
  have bo:∀ (ag:Vector Int 128) (ai:Bool) (w:World),Z7.j1 aa ag ai=some r→St w0 ρ ((.box pb0 3 ([.int .i64 aa]))::(.box pb1 152 ([]++(vcs (Value.int .u16) ag++[])))::Γ) w→b0 [(10,.bool ai)] w:=by
   intro ag ai w H hs
   rw [Z7.j1] at H
   refine b1 _ _<|Wr fun de b2=>Mv rfl<|As rfl<|Ox b2<|Zm ?_
   obtain rfl:=Z4 H
   exact r1 rfl ⟨rfl,hs⟩
  refine Wr fun df b3=>Mv rfl<|Mv rfl<|Onp rfl<|Obx 0 ag3 hs rfl ?_
  obtain ⟨a2,H⟩:=gd H
  obtain ⟨a0,bp,b4⟩:=h0.cut Zcx a2.1 a2.2.1 a2.2.2
  refine O_y rfl (b4 rfl (.inr ⟨_,_,rfl,rfl⟩) (.inl ⟨rfl,rfl⟩))<|O_y rfl (Yx Zg2 bp rfl)<|Mv rfl<|Ox b3<|Zl fun dg bq dh=>Xb (σ:=Nat×Vector Int 128×Bool×Int) (fun (al,ad,af,ab)=>[(2,.int .i32 x2),(3,.pointer (some ⟨pb1,0,none⟩)),(9,.int .i32 (i32.wrap ((i32.wrap (x2+128))-1))),(10,.bool af),(43,a0),(44,.int .i64 ((sub x0 aa (x0.length:Int)).length:Int)),(45,.int .i64 ab)]) (fun (al,ad,af,ab) w=>Z7.l2 al x0 x2 aa ad af ab=some r∧St w0 ρ ((.box pb0 3 ([.int .i64 aa]))::(.box pb1 152 ([]++(vcs (Value.int .u16) ad++[])))::Γ) w) (fun s=>s.1) (K0,y1_0,false,0) sbn (Ai H hs) ?_
  rintro ⟨al,ad,af,ab⟩ w di ⟨H,hs⟩ au
  show W _ _ _ _ _ _ [(2,.int .i32 x2),(3,.pointer (some ⟨pb1,0,none⟩)),(9,.int .i32 (i32.wrap ((i32.wrap (x2+128))-1))),(10,.bool af),(43,a0),(44,.int .i64 ((sub x0 aa (x0.length:Int)).length:Int)),(45,.int .i64 ab)] w
  cases al with
  | zero=>rw [Z7.l2] at H;cases H
  | succ al=>
  rw [Z7.l2] at H
  refine Wr fun dk b5=>Ols rfl<|Ox b5<|Zi fun dl b6=>Xa rfl (fun a3=>?_) (fun a3=>?_)
  ·rw [if_pos a3] at H
   refine Wx b6<|Zi fun dm b7=>Zl fun b8 b9 a4=>Zi fun ca a5=>Zc ?_
   obtain ⟨ay,H⟩:=gd H
   obtain ⟨cb,cc,a6,a7⟩:=bp.ix Zcx ay.1 ay.2
   obtain ⟨_,rfl,a8⟩:=a6
   refine O_y rfl (a7 rfl rfl)<|O_y rfl (Q0 Zft Zfd rfl rfl (fun j u hu=>hs.see (a8 j u hu)))<|Y6 Zml hs rfl (fun an w hs=>Ye (i:=0) Zfd hs rfl rfl rfl rfl rfl (Zb rfl (Zb rfl (Zb rfl Ym))) (fun w hs=>Ox a5<|Zi fun cd a9=>Wr fun ce ba=>Ofd Zf4 rfl<|Obx 0 Xn hs rfl<|Mv rfl<|Ogt rfl<|Ox ba<|W.weak [(2,_),(3,_),(9,_),(10,_),(12,_),(43,_),(44,_),(45,_),(52,_)] sbn ?_))
   refine Xa rfl (fun av=>?_) (fun av=>?_)
   rw [if_pos av] at H
   exact Y5 (a4 _ _ _ rfl (bq _ _ (bn _ _ _ (S1 rfl) (bo ad af _ H (hs.sub (ssk (ssc (ssc ssr))))))))
   rw [if_neg av] at H
   refine Wx a9<|Wr fun cf bb=>As rfl<|Ox bb<|Wr fun cg bc=>Ofd Zf4 rfl<|Obx 0 Xn hs rfl<|Mv rfl<|O_y rfl (Zvj rfl rfl)<|As rfl<|Ox bc<|Zl fun ch bd ci=>?_
   refine Xb (σ:=Nat×Vector Int 128×Int) (fun (ah,ac,ae)=>[(2,.int .i32 x2),(3,.pointer (some ⟨pb1,0,none⟩)),(9,.int .i32 (i32.wrap ((i32.wrap (x2+128))-1))),(10,.bool true),(12,.pointer (some ⟨an,0,none⟩)),(13,.int .i32 ae),(43,a0),(44,.int .i64 ((sub x0 aa (x0.length:Int)).length:Int)),(45,.int .i64 ab)]) (fun (ah,ac,ae) w=>Z7.l1 (Z7.l2 al x0 x2 aa) ah x0 x2 aa ab ac ae=some r∧St w0 ρ ((.box an 67 ([.int .i32 ((rd (sub x0 aa (x0.length:Int)) ab).lo),.int .i32 ((rd (sub x0 aa (x0.length:Int)) ab).hi),.int .i64 ((rd (sub x0 aa (x0.length:Int)) ab).n)]))::(.box pb0 3 ([.int .i64 aa]))::(.box pb1 152 ([]++(vcs (Value.int .u16) ac++[])))::Γ) w) (fun s=>s.1) (K0,ad,(max ((rd (sub x0 aa (x0.length:Int)) ab).lo) x2)) sbn (Ai H hs) ?_
   rintro ⟨ah,ac,ae⟩ w cj ⟨H,hs⟩ ao
   show W _ _ _ _ _ _ [(2,.int .i32 x2),(3,.pointer (some ⟨pb1,0,none⟩)),(9,.int .i32 (i32.wrap ((i32.wrap (x2+128))-1))),(10,.bool true),(12,.pointer (some ⟨an,0,none⟩)),(13,.int .i32 ae),(43,a0),(44,.int .i64 ((sub x0 aa (x0.length:Int)).length:Int)),(45,.int .i64 ab)] w
   cases ah with
   | zero=>rw [Z7.l1] at H;cases H
   | succ ah=>
   rw [Z7.l1] at H
   refine Zi fun ck be=>Wr fun cl bf=>Mv rfl<|Ofd Zej rfl<|Obx 0 Xn hs rfl<|Mv rfl<|O_y rfl (Zwc rfl rfl)<|Ole rfl<|Ox bf<|W.weak [(2,_),(3,_),(9,_),(10,_),(12,_),(13,_),(43,_),(44,_),(45,_),(62,_)] sbn ?_
   refine Xa rfl (fun aw=>?_) (fun aw=>?_)
   rw [if_pos aw] at H
   refine Wx be<|Zi fun cm bg=>Zl fun cn co cp=>Qt 10 [0,0,0,6,0,16,32,1,255,383] [126,245,243,241,207,143,143,638,0,0] [0,0,0,6,0,16,48,1,255,511] [9] (fun w=>St w0 ρ ((.box an 67 ([.int .i32 ((rd (sub x0 aa (x0.length:Int)) ab).lo),.int .i32 ((rd (sub x0 aa (x0.length:Int)) ab).hi),.int .i64 ((rd (sub x0 aa (x0.length:Int)) ab).n)]))::(.box pb0 3 ([.int .i64 aa]))::(.box pb1 152 ([]++(vcs (Value.int .u16) ac++[])))::Γ) w) Vr (by kernel_rfl) (fun sh=>?_)
   have hs:=hs.drew
   refine Fm 0 sh rfl<|Fm 1 sh rfl<|Fm 2 sh rfl<|Fp 3 sh rfl (fun w=>Zc8 rfl rfl)<|Fp 4 sh rfl (fun w=>Zw Zew rfl)<|Fy 5 sh rfl hs (fun w hs=>Yb 0 ag3 hs rfl rfl rfl)<|Fp 6 sh rfl (fun w=>Uc un3 Zl0 rfl)<|Fp 7 sh rfl (fun w=>Vh rfl) ?_
   obtain ⟨ap,H⟩:=gd H
   refine Fp 8 sh rfl (fun w=>Zco Zlv Zc0 rfl rfl ap.1 ap.2)<|F1 9 sh rfl (fun cq bh=>Zfq (j:=2) (u:=u16.wrap ((rd (sub x0 aa (x0.length:Int)) ab).n)) Zc0 (Un .u16) hs rfl rfl ap.1 ap.2 rfl rfl (fun w hs=>Zd (bh _ _ (fun h _=>absurd h (by decide))<|FE sh (bg _ _<|W.weak [(2,_),(3,_),(9,_),(10,_),(12,_),(13,_),(43,_),(44,_),(45,_)] sbn ?_))))
   refine Zc<|Mv rfl<|Oad rfl<|As rfl<|Zd (ao (ah,(Zcj ac (i32.wrap (ae-x2)) (u16.wrap ((rd (sub x0 aa (x0.length:Int)) ab).n))),(i32.wrap (ae+1))) _ _ sbn (Ai H hs) (Nat.lt_succ_self _))
   rw [if_neg aw] at H
   refine Y5 (bd _ _ (b7 _ _<|Zc<|Oad rfl<|Mv rfl<|Zd (au (al,ac,true,(i64.wrap (ab+1))) _ _ sbn (Ai H (hs.sub (ssk (ssc (ssc ssr))))) (Nat.lt_succ_self _))))
  rw [if_neg a3] at H
  exact Y5 (bq _ _ (bn _ _ _ (S1 rfl) (bo ad af _ H hs)))
 refine Zc<|Mv rfl<|Onp rfl<|Obx 0 ag3 hs rfl<|Mv rfl<|O_y rfl (Yx Zg2 h0 rfl)<|Ols rfl<|Mv rfl<|X4 (dj:=23) rfl (fun ax=>?_) (fun ax=>?_)
 rw [if_pos ax] at H
 refine Oe rfl<|Mv rfl<|Oe rfl<|Mv rfl<|Oe rfl<|Onp rfl<|Oe rfl<|Obx 0 ag3 hs rfl ?_
 obtain ⟨az,H⟩:=gd H
 obtain ⟨cr,cs,bi,bj⟩:=h0.ix Zcx az.1 az.2
 obtain ⟨_,rfl,bk⟩:=bi
 refine Oe rfl<|O_y rfl (bj rfl rfl)<|Oe rfl<|Ofd Zej rfl<|Oe rfl<|O_y rfl (Xq Xn rfl (hs.see (bk 1 _ rfl)))<|Oe rfl<|Mv rfl<|Oe rfl<|Ols rfl<|Opk rfl<|Zd (bl _ _ _ sbn (bm (decide (((rd x0 aa).hi)<x2)) _ H hs))
 rw [if_neg ax] at H
 refine On rfl<|On rfl<|On rfl<|On rfl<|On rfl<|On rfl<|On rfl<|On rfl<|On rfl<|Opk rfl<|Zd (bl _ _ _ sbn (bm false _ H hs))

end Go.Proofs.YthoicbafdanmkaaGreatDoor
/- Written by this repo's gen.py: for each Go function a Lean function with the same answers and the walk that shows it. -/
namespace Go.Proofs.YthoicbafdanmkaaGreatDoor
open Go.IntKind (i8 i16 i32 i64 u8 u16 u32 u64)
open Go.RowKit
set_option maxRecDepth 100000
set_option maxHeartbeats 4000000
variable {w0 w:World} {ρ:Hp} {Γ:List Kd}
set_option linter.unusedVariables false
def Y0.j1 (aa:Vector Int 128) (ab:Int) (ad:Bool):Option (Bool×Vector Int 128×Int):=some (ad,aa,ab)
def Y0.j2 (y1_0:Option Tab) (y2_0:List Val) (y3_0 x0:Int) (ac:Vector Int 128):Option (Bool×Vector Int 128×Int):=(Z7.f y2_0 x0 y3_0 ac).bind fun ae=>(if ae.1=true then (Y0.j1 ae.2.2 ae.2.1 true) else (Y0.j1 ae.2.2 ae.2.1 ((y1_0).isSome)))
def Y0.f (x0:Int) (y0_0:Vector Int 128) (y1_0:Option Tab) (y2_0:List Val) (y3_0:Int):Option (Bool×Vector Int 128×Int):=if ((y1_0).isSome)=true then (if y1_0.isSome=true then (if (0:Int)≤i32.wrap (x0.tdiv 128)∧i32.wrap (x0.tdiv 128)<((8704:Nat):Int) then (if (0:Int)≤vg (((y1_0).getD default).which) (i32.wrap (x0.tdiv 128))∧vg (((y1_0).getD default).which) (i32.wrap (x0.tdiv 128))<((((y1_0).getD default).unlike).length:Int) then (Y0.j2 y1_0 y2_0 y3_0 x0 (rd (((y1_0).getD default).unlike) (vg (((y1_0).getD default).which) (i32.wrap (x0.tdiv 128))))) else none) else none) else none) else (Y0.j2 y1_0 y2_0 y3_0 x0 y0_0)
theorem Y0.c {pb0:Nat} {y0_0:Vector Int 128} {pb1:Nat} {w1_0:Value} {y1_0:Option Tab} {pb2:Nat} {w2_0:Value} {y2_0:List Val} {pb3:Nat} {y3_0:Int} (hs:St w0 ρ ((.box pb0 152 ([]++(vcs (Value.int .u16) y0_0++[])))::(.box pb1 104 ([w1_0]))::(.box pb2 23 ([w2_0]))::(.box pb3 3 ([.int .i64 y3_0]))::Γ) w) {x0:Int} (g1_0:Xw Vj ρ w1_0 y1_0) (g2_0:SlR Qb ρ w2_0 y2_0) {r:Bool×Vector Int 128×Int} (H:Y0.f x0 y0_0 y1_0 y2_0 y3_0=some r):Zq Tryz.prog 153 [.int .i32 x0,.pointer (some ⟨pb0,0,none⟩),.pointer (some ⟨pb1,0,none⟩),.pointer (some ⟨pb2,0,none⟩),.pointer (some ⟨pb3,0,none⟩)] w (fun v w'=>v=.bool r.1∧St w0 ρ ((.box pb0 152 ([]++(vcs (Value.int .u16) r.2.1++[])))::(.box pb1 104 ([w1_0]))::(.box pb2 23 ([w2_0]))::(.box pb3 3 ([.int .i64 r.2.2]))::Γ) w'):=by
 rw [Y0.f] at H
 refine Et Tryz.func153 Tryz.ntmps153 rfl<|Wr fun a9 ar=>As rfl<|Ox ar<|Yt fun au av al=>?_
 have am:∀ (ac:Vector Int 128) (w:World),Y0.j2 y1_0 y2_0 y3_0 x0 ac=some r→St w0 ρ ((.box pb0 152 ([]++(vcs (Value.int .u16) ac++[])))::(.box pb1 104 ([w1_0]))::(.box pb2 23 ([w2_0]))::(.box pb3 3 ([.int .i64 y3_0]))::Γ) w→au [(0,.int .i32 x0),(1,.pointer (some ⟨pb0,0,none⟩)),(2,.pointer (some ⟨pb1,0,none⟩)),(3,.pointer (some ⟨pb2,0,none⟩)),(4,.pointer (some ⟨pb3,0,none⟩))] w:=by
  intro ac w H hs
  rw [Y0.j2] at H
  refine av _ _<|Yt fun aw ax an=>?_
  have ao:∀ (aa:Vector Int 128) (ab:Int) (ad:Bool) (w:World),Y0.j1 aa ab ad=some r→St w0 ρ ((.box pb0 152 ([]++(vcs (Value.int .u16) aa++[])))::(.box pb1 104 ([w1_0]))::(.box pb2 23 ([w2_0]))::(.box pb3 3 ([.int .i64 ab]))::Γ) w→aw [(7,.bool ad)] w:=by
   intro aa ab ad w H hs
   rw [Y0.j1] at H
   refine ax _ _<|Zm ?_
   obtain rfl:=Z4 H
   exact r1 rfl ⟨rfl,hs⟩
  refine Zc<|Obx 2 Zbx hs rfl<|Mv rfl<|Mv rfl ?_
  have hs:=hs.front 3 rfl
  obtain ⟨ae,ag,H⟩:=bnd H
  refine Oc rfl (Z7.c hs g2_0 ag) (fun ba w hpost=>?_)
  obtain ⟨rfl,hs⟩:=hpost
  have hs:=hs.sink 3
  refine Mv rfl<|V9 (dj:=29) rfl (fun ah=>?_) (fun ah=>?_)
  rw [if_pos ah] at H
  refine On rfl<|On rfl<|Opk rfl<|As rfl<|Zd (an _ _ _ (S1 rfl) (ao ae.2.2 ae.2.1 true _ H hs))
  rw [if_neg (bft ah)] at H
  refine Oe rfl<|Obx 1 Zc5 hs rfl<|Oe rfl<|O_y rfl ((g1_0.nen Zux rfl rfl))<|Opk rfl<|As rfl<|Zd (an _ _ _ (S1 rfl) (ao ae.2.2 ae.2.1 ((y1_0).isSome) _ H hs))
 refine Wr fun bb ay=>Obx 1 Zc5 hs rfl<|O_y rfl ((g1_0.nen Zux rfl rfl))<|Ox ay<|Xh rfl (fun ai=>?_) (fun ai=>?_)
 rw [if_pos ai] at H
 refine Qt 16 [0,0,2,4,8,0,0,64,32,256,640,1024,2064,4096,16383,32767] [16382,16377,16369,16353,12257,16095,16191,15167,15583,14559,12319,8223,1,1,0,0] [0,0,2,6,14,0,0,64,32,288,992,2016,4094,8190,16383,32767] [15] (fun w=>St w0 ρ ((.box pb0 152 ([]++(vcs (Value.int .u16) y0_0++[])))::(.box pb1 104 ([w1_0]))::(.box pb2 23 ([w2_0]))::(.box pb3 3 ([.int .i64 y3_0]))::Γ) w) Vr (by kernel_rfl) (fun sh=>?_)
 have hs:=hs.drew
 refine Fm 0 sh rfl<|Fy 1 sh rfl hs (fun w hs=>Yb 1 Zc5 hs rfl rfl rfl) ?_
 obtain ⟨ap,H⟩:=gd H
 obtain ⟨bc,aj,az⟩:=g1_0.open ap
 obtain ⟨_,⟨bd,be,rfl,a0,bf⟩,a1⟩:=az
 refine Fp 2 sh rfl (fun w=>Vh (congrArg some aj))<|Fp 3 sh rfl (fun w=>Zw Zgu rfl)<|Fy 4 sh rfl hs (fun w hs=>Xq Zr1 rfl (hs.see (a1 8704 _ (Zg1 (q:=0) rfl rfl))))<|Fy 5 sh rfl hs (fun w hs=>Yb 1 Zc5 hs rfl rfl rfl)<|Fm 6 sh rfl<|Fp 7 sh rfl (fun w=>Zdx rfl rfl (by decide)) ?_
 obtain ⟨bg,ak,a2⟩:=g1_0.open ap
 obtain ⟨_,⟨bh,bi,rfl,bj,bk⟩,a3⟩:=a2
 refine Fp 8 sh rfl (fun w=>Vh (congrArg some ak))<|Fp 9 sh rfl (fun w=>Zw Zit rfl) ?_
 obtain ⟨af,H⟩:=gd H
 have a4:=CA.seg (q:=0) a3 rfl af.1 af.2
 refine Fp 10 sh rfl (fun w=>Zco Zqt Zc0 rfl rfl af.1 af.2)<|Fy 11 sh rfl hs (fun w hs=>Xq Zlt rfl (hs.see a4)) ?_
 obtain ⟨aq,H⟩:=gd H
 obtain ⟨bl,bm,a5,a6⟩:=a0.ix Zr5 aq.1 aq.2
 have a7:=a5.arr
 refine Fp 12 sh rfl (fun w=>a6 rfl rfl)<|Fy 13 sh rfl hs (fun w hs=>Q0 (cs:=vcs (Value.int .u16) (rd (((y1_0).getD default).unlike) (vg (((y1_0).getD default).which) (i32.wrap (x0.tdiv 128))))) Zrb Zl7 (Zj8 _ _) rfl (fun j u hu=>hs.see (a7 j u (by simpa using hu))))<|Fp 14 sh rfl (fun w=>Vh rfl)<|F1 15 sh rfl (fun bn a8=>Zfw (j:=0) (u:=rd (((y1_0).getD default).unlike) (vg (((y1_0).getD default).which) (i32.wrap (x0.tdiv 128)))) Zl7 (Un .u16) hs rfl rfl rfl (fun w hs=>Zd (a8 _ _ (fun h _=>absurd h (by decide))<|FE sh (al _ _ _ sbn (am (rd (((y1_0).getD default).unlike) (vg (((y1_0).getD default).which) (i32.wrap (x0.tdiv 128)))) _ H hs)))))
 rw [if_neg (bft ai)] at H
 exact Ui (al _ _ _ sbn (am y0_0 _ H hs))

def Xo.l1:Nat→Vector Int 128→Int→Option Bool
  | 0,_,_=>none
  | ab+1,y0_0,aa=>if aa<128 then (if (0:Int)≤aa∧aa<((128:Nat):Int) then (if (0:Int)≤0∧0<((128:Nat):Int) then (if (vg y0_0 aa)≠(vg y0_0 0) then (some false) else ((Xo.l1 ab y0_0) (i64.wrap (aa+1)))) else none) else none) else (some true)
def Xo.f (y0_0:Vector Int 128):Option Bool:=Xo.l1 K0 y0_0 0
theorem Xo.c {pb0:Nat} {y0_0:Vector Int 128} (hs:St w0 ρ ((.box pb0 152 ([]++(vcs (Value.int .u16) y0_0++[])))::Γ) w) {r:Bool} (H:Xo.f y0_0=some r):Zq Tryz.prog 172 [.pointer (some ⟨pb0,0,none⟩)] w (fun v w'=>v=.bool r∧St w0 ρ ((.box pb0 152 ([]++(vcs (Value.int .u16) y0_0++[])))::Γ) w'):=by
 rw [Xo.f] at H
 refine Et Tryz.func172 Tryz.ntmps172 rfl<|Wr fun au ah=>As rfl<|Ox ah<|Zi fun av ai=>Wr fun aw aj=>Mv rfl<|Mv rfl<|Ox aj<|Zl fun ax ak ay=>Xb (σ:=Nat×Int) (fun (ab,aa)=>[(0,.pointer (some ⟨pb0,0,none⟩)),(5,.pointer (some ⟨pb0,0,none⟩)),(6,.int .i64 aa)]) (fun (ab,aa) w=>Xo.l1 ab y0_0 aa=some r∧St w0 ρ ((.box pb0 152 ([]++(vcs (Value.int .u16) y0_0++[])))::Γ) w) (fun s=>s.1) (K0,0) (T3 rfl) (Ai H hs) ?_
 rintro ⟨ab,aa⟩ w az ⟨H,hs⟩ ac
 show W _ _ _ _ _ _ [(0,.pointer (some ⟨pb0,0,none⟩)),(5,.pointer (some ⟨pb0,0,none⟩)),(6,.int .i64 aa)] w
 cases ab with
 | zero=>rw [Xo.l1] at H;cases H
 | succ ab=>
 rw [Xo.l1] at H
 refine Wr fun a0 al=>Ols rfl<|Ox al<|Zi fun a1 am=>Xa rfl (fun af=>?_) (fun af=>?_)
 rw [if_pos af] at H
 refine Wx am<|Zi fun a2 an=>Zl fun a3 a4 a5=>Wr fun a6 ao=>Onp rfl ?_
 obtain ⟨ad,H⟩:=gd H
 refine O_y rfl (Zco Zlv Zc0 rfl rfl ad.1 ad.2)<|O_y rfl (Zk8 (j:=0) Zlt hs rfl rfl ad.1 ad.2 rfl)<|As rfl<|Ox ao<|Wr fun a7 ap=>Mv rfl<|Mv rfl<|Onp rfl ?_
 obtain ⟨ae,H⟩:=gd H
 refine O_y rfl (Zco Zlv Zc0 rfl rfl ae.1 ae.2)<|O_y rfl (Zk8 (j:=0) Zlt hs rfl rfl ae.1 ae.2 rfl)<|One rfl<|Ox ap<|Xa rfl (fun ag=>?_) (fun ag=>?_)
 rw [if_pos ag] at H
 refine Wr fun a8 aq=>As rfl<|Ox aq<|W.weak [(2,_)] (S1 rfl)<|Zm ?_
 obtain rfl:=Z4 H
 exact r1 rfl ⟨rfl,hs⟩
 rw [if_neg ag] at H
 refine Wx an<|Zc<|Oad rfl<|Mv rfl<|Zd (ac (ab,(i64.wrap (aa+1))) _ _ (T3 rfl) (Ai H hs) (Nat.lt_succ_self _))
 rw [if_neg af] at H
 refine Y5 (ak _ _ (ai _ _<|Wr fun a9 ar=>As rfl<|Ox ar<|Zm ?_))
 obtain rfl:=Z4 H
 exact r1 rfl ⟨rfl,hs⟩

def Z6.j1 (a3:List Bool→List (Vector Int 128)→Vector Int 128→(List (Vector Int 128×Int))→Vector Int 8704→Int→Int→Int→Option (Option Tab×Int)) (ac:Int) (av:List Bool) (aw:List (Vector Int 128)) (ap:Vector Int 128) (ay:List (Vector Int 128×Int)) (aq:Vector Int 8704) (ar bc:Int):Option (Option Tab×Int):=a3 av aw ap ay aq ar bc (i64.wrap (ac+1))
def Z6.j2 (a3:List Bool→List (Vector Int 128)→Vector Int 128→(List (Vector Int 128×Int))→Vector Int 8704→Int→Int→Int→Option (Option Tab×Int)) (aa:Vector Int 8704) (af ac:Int) (ao:Bool×Vector Int 128×Int) (ah:List Bool) (ai:List (Vector Int 128)) (ak:List (Vector Int 128×Int)) (ax:Int):Option (Option Tab×Int):=if (0:Int)≤ac∧ac<((8704:Nat):Int) then (if ao.1=true then (Z6.j1 a3 ac ah ai (Vector.replicate 128 0:Vector Int 128) ak (Zcj aa ac ax) ao.2.2 af) else (Z6.j1 a3 ac ah ai ao.2.1 ak (Zcj aa ac ax) ao.2.2 (i64.wrap ax))) else none
def Z6.j3 (a3:List Bool→List (Vector Int 128)→Vector Int 128→(List (Vector Int 128×Int))→Vector Int 8704→Int→Int→Int→Option (Option Tab×Int)) (ae:List Bool) (ab:List (Vector Int 128)) (ad:List (Vector Int 128×Int)) (aa:Vector Int 8704) (af ac:Int) (ao:Bool×Vector Int 128×Int) (a4:Bool):Option (Option Tab×Int):=if a4=true then (if (0:Int)≤ac∧ac<((8704:Nat):Int) then (Z6.j1 a3 ac ae ab ao.2.1 ad (Zcj aa ac (u16.wrap af)) ao.2.2 af) else none) else (if (!((Vw ad ao.2.1).isSome))=true then (if ab.length+([ao.2.1]).length≤most then ((Xo.f ao.2.1).bind fun bf=>(if ae.length+([bf]).length≤most then (Z6.j2 a3 aa af ac ao (ae++([bf])) (ab++([ao.2.1])) (H1 ad ao.2.1 (u16.wrap (ab.length:Int))) (u16.wrap (ab.length:Int))) else none)) else none) else (Z6.j2 a3 aa af ac ao ae ab ad ((Vw ad ao.2.1).getD 0)))
def Z6.l1:Nat→Option Tab→List Val→List Bool→List (Vector Int 128)→Vector Int 128→(List (Vector Int 128×Int))→Vector Int 8704→Int→Int→Int→Option (Option Tab×Int)
  | 0,_,_,_,_,_,_,_,_,_,_=>none
  | bb+1,y0_0,y1_0,ae,ab,au,ad,aa,am,af,ac=>if ac<8704 then ((Y0.f (i32.wrap (i64.wrap (ac*128))) au y0_0 y1_0 am).bind fun ao=>(if (!ao.1)=true then (Z6.j3 (Z6.l1 bb y0_0 y1_0) ae ab ad aa af ac ao (decide (0≤af))) else (Z6.j3 (Z6.l1 bb y0_0 y1_0) ae ab ad aa af ac ao false))) else (some ((some (⟨aa,ab,ae⟩:Tab)),am))
def Z6.f (y0_0:Option Tab) (y1_0:List Val) (y2_0:Int):Option (Option Tab×Int):=Z6.l1 K0 y0_0 y1_0 ([]:List Bool) ([]:List (Vector Int 128)) (Vector.replicate 128 0:Vector Int 128) ([]:List (Vector Int 128×Int)) (Vector.replicate 8704 0:Vector Int 8704) y2_0 (-1) 0
theorem Z6.c {pb0:Nat} {w0_0:Value} {y0_0:Option Tab} {pb1:Nat} {w1_0:Value} {y1_0:List Val} {pb2:Nat} {y2_0:Int} (hs:St w0 ρ ((.box pb0 104 ([w0_0]))::(.box pb1 23 ([w1_0]))::(.box pb2 3 ([.int .i64 y2_0]))::Γ) w) (g0_0:Xw Vj ρ w0_0 y0_0) (g1_0:SlR Qb ρ w1_0 y1_0) {r:Option Tab×Int} (H:Z6.f y0_0 y1_0 y2_0=some r):Zq Tryz.prog 152 [.func (.func 153) #[] #[.pointer (some ⟨pb0,0,none⟩),.pointer (some ⟨pb1,0,none⟩),.pointer (some ⟨pb2,0,none⟩)]] w (fun v w'=>∃ (ρ':Hp) (v0:Value),v=v0∧Le ρ ρ'∧St w0 ρ' ((.box pb0 104 ([w0_0]))::(.box pb1 23 ([w1_0]))::(.box pb2 3 ([.int .i64 r.2]))::Γ) w'∧Xw Vj ρ' v0 r.1):=by
 rw [Z6.f] at H
 refine Et Tryz.func152 Tryz.ntmps152 rfl<|Wr fun eu df=>As rfl<|Ox df<|Wr fun ev dg=>O_y rfl (Ztf Z0h Zzl)<|Vn (cs:=[]++(vcs (Value.int .u16) (Vector.replicate 8704 0:Vector Int 8704)++[.slice none 0 0,.slice none 0 0])) hs rfl rfl (fun bg w hs=>As rfl<|Ox dg<|Wr fun ew dh=>Hh Zgb.enc (Value.int .u16) hs rfl (fun bh w hs=>?_))
 refine As rfl<|Ox dh<|Wr fun ex di=>As rfl<|Ox di<|Wr fun ey dk=>Y6 Zzv hs rfl (fun bi w hs=>Ox dk<|Zi fun ez dl=>Wr fun e0 dm=>Mv rfl ?_)
 refine Ox dm<|Zl fun e1 dn e2=>?_
 have hs:=hs.rowNil 152 (Rep.arr (Value.int .u16) (Un .u16) 128).sz
 have dp:=Zp.nil (Rep.arr (Value.int .u16) (Un .u16) 128) ρ
 have hs:=hs.rowNil 4 Rep.bool.sz
 have dq:=Zp.nil Rep.bool ρ
 refine Xb (σ:=Nat×List Bool×List (Vector Int 128)×Vector Int 128×(List (Vector Int 128×Int))×Vector Int 8704×Int×Int×Int×Value×List Value×Value×List Value) (fun (bb,ae,ab,au,ad,aa,am,af,ac,ag,al,aj,an)=>[(0,.func (.func 153) #[] #[.pointer (some ⟨pb0,0,none⟩),.pointer (some ⟨pb1,0,none⟩),.pointer (some ⟨pb2,0,none⟩)]),(3,.pointer (some ⟨bg,0,none⟩)),(4,.map (some bh)),(5,.int .i64 af),(6,.pointer (some ⟨bi,0,none⟩)),(14,.int .i64 ac)]) (fun (bb,ae,ab,au,ad,aa,am,af,ac,ag,al,aj,an) w=>Z6.l1 bb y0_0 y1_0 ae ab au ad aa am af ac=some r∧St w0 ρ ((.row ag 4 Rep.bool.sz ae.length al)::(.row aj 152 ((Rep.arr (Value.int .u16) (Un .u16) 128).sz) ab.length an)::(.box bi 152 ([]++(vcs (Value.int .u16) au++[])))::(.obj bh (X7 Zgb.enc (vs (Value.int .u16) ad)))::(.box bg 156 ([]++(vcs (Value.int .u16) aa++[aj,ag])))::(.box pb0 104 ([w0_0]))::(.box pb1 23 ([w1_0]))::(.box pb2 3 ([.int .i64 am]))::Γ) w∧Zp Rep.bool ρ al ae∧Zp (Rep.arr (Value.int .u16) (Un .u16) 128) ρ an ab) (fun s=>s.1) (K0,([]:List Bool),([]:List (Vector Int 128)),(Vector.replicate 128 0:Vector Int 128),([]:List (Vector Int 128×Int)),(Vector.replicate 8704 0:Vector Int 8704),y2_0,(-1),0,(.slice none 0 0),([]),(.slice none 0 0),([])) sbn (Ai H (Ai hs (Ai dq dp))) ?_
 rintro ⟨bb,ae,ab,au,ad,aa,am,af,ac,ag,al,aj,an⟩ w e3 ⟨H,hs,a5,a6⟩ br
 show W _ _ _ _ _ _ [(0,.func (.func 153) #[] #[.pointer (some ⟨pb0,0,none⟩),.pointer (some ⟨pb1,0,none⟩),.pointer (some ⟨pb2,0,none⟩)]),(3,.pointer (some ⟨bg,0,none⟩)),(4,.map (some bh)),(5,.int .i64 af),(6,.pointer (some ⟨bi,0,none⟩)),(14,.int .i64 ac)] w
 cases bb with
 | zero=>rw [Z6.l1] at H;cases H
 | succ bb=>
 rw [Z6.l1] at H
 refine Wr fun e4 dr=>Ols rfl<|Ox dr<|Zi fun e5 ds=>Xa rfl (fun b7=>?_) (fun b7=>?_)
 rw [if_pos b7] at H
 refine Wx ds<|Yt fun dt du b8=>?_
 have b9:∀ (av:List Bool) (aw:List (Vector Int 128)) (ap:Vector Int 128) (ay:List (Vector Int 128×Int)) (aq:Vector Int 8704) (ar bc:Int) (a7:Value) (a8:List Value) (a9:Value) (ba:List Value) (w:World),Z6.j1 (Z6.l1 bb y0_0 y1_0) ac av aw ap ay aq ar bc=some r→St w0 ρ ((.row a7 4 Rep.bool.sz av.length a8)::(.row a9 152 ((Rep.arr (Value.int .u16) (Un .u16) 128).sz) aw.length ba)::(.box bi 152 ([]++(vcs (Value.int .u16) ap++[])))::(.obj bh (X7 Zgb.enc (vs (Value.int .u16) ay)))::(.box bg 156 ([]++(vcs (Value.int .u16) aq++[a9,a7])))::(.box pb0 104 ([w0_0]))::(.box pb1 23 ([w1_0]))::(.box pb2 3 ([.int .i64 ar]))::Γ) w→Zp Rep.bool ρ a8 av→Zp (Rep.arr (Value.int .u16) (Un .u16) 128) ρ ba aw→dt [(0,.func (.func 153) #[] #[.pointer (some ⟨pb0,0,none⟩),.pointer (some ⟨pb1,0,none⟩),.pointer (some ⟨pb2,0,none⟩)]),(3,.pointer (some ⟨bg,0,none⟩)),(4,.map (some bh)),(5,.int .i64 bc),(6,.pointer (some ⟨bi,0,none⟩)),(14,.int .i64 ac)] w:=by
  intro av aw ap ay aq ar bc a7 a8 a9 ba w H hs bj bk
  rw [Z6.j1] at H
  refine du _ _<|Zc<|Oad rfl<|Mv rfl<|Zd (br (bb,av,aw,ap,ay,aq,ar,bc,(i64.wrap (ac+1)),a7,a8,a9,ba) _ _ sbn (Ai H (Ai hs (Ai bj bk))) (Nat.lt_succ_self _))
 refine Zl fun e6 dv e7=>Wr fun e8 dw=>Mv rfl<|As rfl<|Ox dw<|Wr fun e9 dx=>Mv rfl<|Mv rfl<|Oml rfl<|O_y rfl (Uc un3 Za8 rfl) ?_
 have hs:=hs.front 7 rfl
 have hs:=hs.front 7 rfl
 have hs:=hs.front 7 rfl
 have hs:=hs.front 5 rfl
 obtain ⟨ao,ca,H⟩:=bnd H
 refine Xs rfl rfl rfl (Y0.c hs g0_0 g1_0 ca) (fun fa w hpost=>?_)
 obtain ⟨rfl,hs⟩:=hpost
 have hs:=hs.sink 5
 have hs:=hs.sink 7
 have hs:=hs.sink 7
 have hs:=hs.sink 7
 refine As rfl<|Ox dx<|W.weak [(0,_),(3,_),(4,_),(5,_),(6,_),(7,_),(8,_),(14,_)] sbn ?_
 refine Zi fun fb dy=>Yt fun dz cb bx=>?_
 have bz:∀ (a4:Bool) (w:World),Z6.j3 (Z6.l1 bb y0_0 y1_0) ae ab ad aa af ac ao a4=some r→St w0 ρ ((.row ag 4 Rep.bool.sz ae.length al)::(.row aj 152 ((Rep.arr (Value.int .u16) (Un .u16) 128).sz) ab.length an)::(.box bi 152 ([]++(vcs (Value.int .u16) ao.2.1++[])))::(.obj bh (X7 Zgb.enc (vs (Value.int .u16) ad)))::(.box bg 156 ([]++(vcs (Value.int .u16) aa++[aj,ag])))::(.box pb0 104 ([w0_0]))::(.box pb1 23 ([w1_0]))::(.box pb2 3 ([.int .i64 ao.2.2]))::Γ) w→dz [(0,.func (.func 153) #[] #[.pointer (some ⟨pb0,0,none⟩),.pointer (some ⟨pb1,0,none⟩),.pointer (some ⟨pb2,0,none⟩)]),(3,.pointer (some ⟨bg,0,none⟩)),(4,.map (some bh)),(5,.int .i64 af),(6,.pointer (some ⟨bi,0,none⟩)),(7,.int .i64 ac),(8,.bool ao.1),(14,.int .i64 ac),(27,.bool a4)] w:=by
  intro a4 w H hs
  rw [Z6.j3] at H
  refine cb _ _<|Xh rfl (fun bs=>?_) (fun bs=>?_)
  rw [if_pos bs] at H
  refine Wr fun ea cc=>Mv rfl<|Mv rfl<|Mv rfl<|O_y rfl (Uc un3 Zl0 rfl)<|Onp rfl<|Ofd Zit rfl ?_
  obtain ⟨bm,H⟩:=gd H
  refine O_y rfl (Zco Zqt Zc0 rfl rfl bm.1 bm.2)<|Zfq (j:=4) (u:=u16.wrap af) Zc0 (Un .u16) hs rfl rfl bm.1 bm.2 rfl rfl (fun w hs=>Ox cc<|W.weak [(0,_),(3,_),(4,_),(5,_),(6,_),(14,_)] sbn ?_)
  exact Y5 (dv _ _ (b8 _ _ _ sbn (b9 ae ab ao.2.1 ad (Zcj aa ac (u16.wrap af)) ao.2.2 af ag al aj an _ H hs a5 a6)))
  rw [if_neg (bft bs)] at H
  refine Wx dy<|Wr fun eb cd=>Mv rfl<|O_y rfl (Zda (j:=2) Zrb Zl7 hs rfl rfl)<|O_y rfl (Zho (i:=3) (m:=ad) (x:=ao.2.1) (E:=(Value.int .u16)) Zyd Zgb trivial (fun _ _=>trivial) Zzy hs rfl rfl rfl)<|Mv rfl<|Oxt rfl<|Oxt rfl<|As rfl<|As rfl<|Ox cd<|W.weak [(0,_),(3,_),(4,_),(5,_),(6,_),(7,_),(8,_),(9,_),(10,_),(14,_)] sbn ?_
  refine Yt fun ce cf b0=>?_
  have b1:∀ (ah:List Bool) (ai:List (Vector Int 128)) (ak:List (Vector Int 128×Int)) (ax:Int) (az:Value) (a0:List Value) (a1:Value) (a2:List Value) (w:World),Z6.j2 (Z6.l1 bb y0_0 y1_0) aa af ac ao ah ai ak ax=some r→St w0 ρ ((.row az 4 Rep.bool.sz ah.length a0)::(.row a1 152 ((Rep.arr (Value.int .u16) (Un .u16) 128).sz) ai.length a2)::(.box bi 152 ([]++(vcs (Value.int .u16) ao.2.1++[])))::(.obj bh (X7 Zgb.enc (vs (Value.int .u16) ak)))::(.box bg 156 ([]++(vcs (Value.int .u16) aa++[a1,az])))::(.box pb0 104 ([w0_0]))::(.box pb1 23 ([w1_0]))::(.box pb2 3 ([.int .i64 ao.2.2]))::Γ) w→Zp Rep.bool ρ a0 ah→Zp (Rep.arr (Value.int .u16) (Un .u16) 128) ρ a2 ai→ce [(0,.func (.func 153) #[] #[.pointer (some ⟨pb0,0,none⟩),.pointer (some ⟨pb1,0,none⟩),.pointer (some ⟨pb2,0,none⟩)]),(3,.pointer (some ⟨bg,0,none⟩)),(4,.map (some bh)),(5,.int .i64 af),(6,.pointer (some ⟨bi,0,none⟩)),(7,.int .i64 ac),(8,.bool ao.1),(9,.int .u16 ax),(14,.int .i64 ac)] w:=by
   intro ah ai ak ax az a0 a1 a2 w H hs bd be
   rw [Z6.j2] at H
   refine cf _ _<|Wr fun ec cg=>Mv rfl<|Mv rfl<|Mv rfl<|Onp rfl<|Ofd Zit rfl ?_
   obtain ⟨bn,H⟩:=gd H
   refine O_y rfl (Zco Zqt Zc0 rfl rfl bn.1 bn.2)<|Zfq (j:=4) (u:=ax) Zc0 (Un .u16) hs rfl rfl bn.1 bn.2 rfl rfl (fun w hs=>Ox cg<|W.weak [(0,_),(3,_),(4,_),(5,_),(6,_),(8,_),(9,_),(14,_)] sbn ?_)
   refine Wr fun ed ch=>Mv rfl<|Ox ch<|Xh rfl (fun bt=>?_) (fun bt=>?_)
   rw [if_pos bt] at H
   refine Zc<|O_y rfl (Zsj (zs:=vcs (Value.int .u16) (Vector.replicate 128 0:Vector Int 128)) Zlv Zc0 Zz6)<|Zfw (j:=2) (u:=(Vector.replicate 128 0:Vector Int 128)) Zl7 (Un .u16) hs rfl rfl rfl (fun w hs=>Zd (b8 _ _ _ sbn (b9 ah ai (Vector.replicate 128 0:Vector Int 128) ak (Zcj aa ac ax) ao.2.2 af az a0 a1 a2 _ H hs bd be)))
   rw [if_neg (bft bt)] at H
   refine Zc<|Mv rfl<|O_y rfl (Uc Zl0 un3 rfl)<|As rfl<|Zd (b8 _ _ _ sbn (b9 ah ai ao.2.1 ak (Zcj aa ac ax) ao.2.2 (i64.wrap ax) az a0 a1 a2 _ H hs bd be))
  refine Wr fun ee ci=>Mv rfl<|Ont rfl<|Ox ci<|Xh rfl (fun bu=>?_) (fun bu=>?_)
  rw [if_pos bu] at H
  refine Wr fun ef cj=>Mv rfl<|Onp rfl<|Ofd Zgu rfl<|O_y rfl (Yb 4 Zr1 hs rfl (Zg1 (q:=0) rfl rfl) rfl)<|O_y rfl (Hg (i:=1) Zx3 hs rfl rfl)<|O_y rfl (Uc un3 Zl0 rfl)<|As rfl<|Ox cj<|W.weak [(0,_),(3,_),(4,_),(5,_),(6,_),(7,_),(8,_),(9,_),(14,_)] sbn ?_
  refine Wr fun eg ck=>Mv rfl<|O_y rfl (Zda (j:=2) Zrb Zl7 hs rfl rfl)<|Mv rfl<|Zdg (i:=3) (m:=ad) (x:=ao.2.1) (v:=u16.wrap (ab.length:Int)) (E:=(Value.int .u16)) Zyd Zgb trivial (fun _ _=>trivial) hs rfl rfl rfl rfl (fun w hs=>Ox ck<|Zi fun eh cl=>Qt 11 [0,0,2,4,8,0,32,80,255,511,767] [254,249,241,225,97,159,31,1,1024,0,0] [0,0,2,6,14,0,32,126,255,511,1023] [7,8,9,10] (fun w=>St w0 ρ ((.row ag 4 Rep.bool.sz ae.length al)::(.row aj 152 ((Rep.arr (Value.int .u16) (Un .u16) 128).sz) ab.length an)::(.box bi 152 ([]++(vcs (Value.int .u16) ao.2.1++[])))::(.obj bh (X7 Zgb.enc (vs (Value.int .u16) (H1 ad ao.2.1 (u16.wrap (ab.length:Int))))))::(.box bg 156 ([]++(vcs (Value.int .u16) aa++[aj,ag])))::(.box pb0 104 ([w0_0]))::(.box pb1 23 ([w1_0]))::(.box pb2 3 ([.int .i64 ao.2.2]))::Γ) w) Vr (by kernel_rfl) (fun sh=>?_))
  have hs:=hs.drew
  refine Fm 0 sh rfl<|Fm 1 sh rfl<|Fp 2 sh rfl (fun w=>Vh rfl)<|Fp 3 sh rfl (fun w=>Zw Zgu rfl)<|Fy 4 sh rfl hs (fun w hs=>Yb 4 Zr1 hs rfl (Zg1 (q:=0) rfl rfl) rfl)<|Fy 5 sh rfl hs (fun w hs=>Zda (j:=2) Zrb Zl7 hs rfl rfl)<|F1 6 sh rfl (fun ei cm=>K6 (xs:=[.tmp 57]) (cs:=vcs (Value.int .u16) ao.2.1++([])) Zr5 hs rfl rfl rfl (by decide) (by decide) rfl (Yd (Ztg _ _) Ki) (Zx rfl X6) (fun cn w hs=>?_))
  have b2:Zp (Rep.arr (Value.int .u16) (Un .u16) 128) ρ (vcs (Value.int .u16) ao.2.1++([])) [ao.2.1]:=Zp.cons (c:=vcs (Value.int .u16) ao.2.1) (x:=ao.2.1) rfl (Zp.nil _ _)
  refine Zd (cm _ _ (fun _ _=>(hs.sub (ssk (ssc (ssc (ssc (ssc (ssc (ssc (ssc (ssc ssr))))))))))) ?_)
  obtain ⟨co,H⟩:=gd H
  refine F1 7 sh rfl (fun ej cp=>Q3 (i:=2) Zr5 hs rfl a6 rfl rfl rfl (Src.lit (j:=0) hs rfl b2) b2 co (fun bv bo w cq hs=>Zd (cp _ _ (fun h _=>absurd h (by decide))<|Kn sh [10] hs (by kernel_rfl)<|Fp 8 sh rfl (fun w=>Vh rfl)<|Fp 9 sh rfl (fun w=>Zw Zgu rfl)<|F1 10 sh rfl (fun ek cr=>Ziz (j:=5) (q:=0) Zz3 hs rfl rfl rfl rfl rfl (St.rowOne hs (j:=2) rfl) (fun w hs=>Zd (cr _ _ (fun h _=>absurd h (by decide))<|FE sh (cl _ _<|W.weak [(0,_),(3,_),(4,_),(5,_),(6,_),(7,_),(8,_),(9,_),(14,_)] sbn ?_)))))))
  refine Qt 11 [0,0,2,4,8,0,32,112,255,511,767] [254,249,241,225,97,31,31,1,1024,0,0] [0,0,2,6,14,0,32,126,255,511,1023] [7,8,9,10] (fun w=>St w0 ρ ((.row (.slice (some ⟨cn,0,none⟩) 1 1) 152 ((Rep.arr (Value.int .u16) (Un .u16) 128).sz) (([ao.2.1]).length) (vcs (Value.int .u16) ao.2.1++([])))::(.row ag 4 Rep.bool.sz ae.length al)::(.row bv 152 ((Rep.arr (Value.int .u16) (Un .u16) 128).sz) ((ab++([ao.2.1])).length) bo)::(.box bi 152 ([]++(vcs (Value.int .u16) ao.2.1++[])))::(.obj bh (X7 Zgb.enc (vs (Value.int .u16) (H1 ad ao.2.1 (u16.wrap (ab.length:Int))))))::(.box bg 156 ([]++(vcs (Value.int .u16) aa++[bv,ag])))::(.box pb0 104 ([w0_0]))::(.box pb1 23 ([w1_0]))::(.box pb2 3 ([.int .i64 ao.2.2]))::Γ) w) Vr (by kernel_rfl) (fun sh=>?_)
  have hs:=hs.drew
  refine Fm 0 sh rfl<|Fm 1 sh rfl<|Fp 2 sh rfl (fun w=>Vh rfl)<|Fp 3 sh rfl (fun w=>Zw Zrv rfl)<|Fy 4 sh rfl hs (fun w hs=>Yb 5 Z0w hs rfl (Zg1 (q:=1) rfl rfl) rfl)<|F1 5 sh rfl (fun el ct=>?_)
  have hs:=hs.front 3 rfl
  obtain ⟨bf,b3,H⟩:=bnd H
  refine Oc rfl (Xo.c hs b3) (fun em w hpost=>?_)
  obtain ⟨rfl,hs⟩:=hpost
  have hs:=hs.sink 3
  refine Zd (ct _ _ (fun _ _=>hs)<|F1 6 sh rfl (fun en cu=>K6 (xs:=[.tmp 67]) (cs:=[.bool bf]) Hk hs rfl rfl rfl (by decide) (by decide) rfl (Yd rfl Ki) (Zx rfl X6) (fun eo w hs=>?_)))
  have b4:Zp Rep.bool ρ ([.bool bf]) [bf]:=Zp.cons (c:=[.bool bf]) (x:=bf) rfl (Zp.nil _ _)
  refine Zd (cu _ _ (fun _ _=>(hs.sub (ssk (ssc (ssc (ssc (ssc (ssc (ssc (ssc (ssc (ssc ssr)))))))))))) ?_)
  obtain ⟨cv,H⟩:=gd H
  refine F1 7 sh rfl (fun ep cw=>Q3 (i:=2) Hk hs rfl a5 rfl rfl rfl (Src.lit (j:=0) hs rfl b4) b4 cv (fun cx b5 w cy hs=>Zd (cw _ _ (fun h _=>absurd h (by decide))<|Kn sh [10] hs (by kernel_rfl)<|Fp 8 sh rfl (fun w=>Vh rfl)<|Fp 9 sh rfl (fun w=>Zw Zrv rfl)<|F1 10 sh rfl (fun eq cz=>Ziz (j:=6) (q:=1) Z0u hs rfl rfl rfl rfl rfl (St.rowOne hs (j:=2) rfl) (fun w hs=>Zd (cz _ _ (fun h _=>absurd h (by decide))<|FE sh (b0 _ _ _ sbn (b1 (ae++([bf])) (ab++([ao.2.1])) (H1 ad ao.2.1 (u16.wrap (ab.length:Int))) (u16.wrap (ab.length:Int)) cx b5 bv bo _ H (hs.sub (ssk (ssk (ssc (ssc (ssc (ssc (ssc (ssc (ssc (ssc ssr))))))))))) cy cq))))))))
  rw [if_neg (bft bu)] at H
  exact Ui (b0 _ _ _ sbn (b1 ae ab ad ((Vw ad ao.2.1).getD 0) ag al aj an _ H hs a5 a6))
 refine Zc<|Mv rfl<|Ont rfl<|Mv rfl<|V9 (dj:=24) rfl (fun bw=>?_) (fun bw=>?_)
 rw [if_pos bw] at H
 refine Oe rfl<|Mv rfl<|Oe rfl<|Oge rfl<|Opk rfl<|Zd (bx _ _ _ sbn (bz (decide (0≤af)) _ H hs))
 rw [if_neg (bft bw)] at H
 refine On rfl<|On rfl<|Opk rfl<|Zd (bx _ _ _ sbn (bz false _ H hs))
 rw [if_neg b7] at H
 refine Y5 (dn _ _ (dl _ _<|Wr fun er da=>Mv rfl<|As rfl<|Ox da<|Zm ?_))
 obtain ⟨es,bp,hs,db⟩:=hs.rowEnd (j:=1) a6 rfl
 obtain ⟨et,bq,hs,dc⟩:=hs.rowEnd (j:=0) (a5.mono bp) rfl
 obtain ⟨dd,bl,hs,b6⟩:=hs.boxEnd (j:=2) rfl
 have de:Xw Vj dd (.pointer (some ⟨bg,0,none⟩)) (some (⟨aa,ab,ae⟩:Tab)):=.inr ⟨bg,_,rfl,rfl,_,⟨_,_,rfl,(db.mono (bq.trans bl)),(dc.mono bl)⟩,b6⟩
 obtain rfl:=Z4 H
 exact r1 rfl ⟨_,_,rfl,((bp.trans bq).trans bl),(hs.sub (ssk (ssk (ssc (ssc (ssc ssr)))))),de⟩

def Ul.f (x0:Option Tab) (x1:List Val):Option (Option Tab×Int×Int):=(Y7.f x1).bind fun aa=>(if aa.2≠0 then (some (none,aa.1,aa.2)) else ((Z6.f x0 x1 0).bind fun af=>(some (af.1,0,0))))
theorem Ul.c (hs:St w0 ρ (Γ) w) {v0:Value} {x0:Option Tab} (h0:Xw Vj ρ v0 x0) {v1:Value} {x1:List Val} (h1:SlR Qb ρ v1 x1) {r:Option Tab×Int×Int} (H:Ul.f x0 x1=some r):Zq Tryz.prog 118 [v0,v1] w (fun v w'=>∃ (ρ':Hp) (v0:Value),v=.tuple #[v0,.int .i64 r.2.1,.int .i64 r.2.2]∧Le ρ ρ'∧St w0 ρ' (Γ) w'∧Xw Vj ρ' v0 r.1):=by
 rw [Ul.f] at H
 refine Et Tryz.func118 Tryz.ntmps118 rfl<|Wr fun ap ag=>Zcv hs rfl rfl h0.one (fun aq w hs=>Zcv hs rfl rfl h1.one (fun ar w hs=>As rfl<|As rfl<|As rfl<|Ox ag<|Zi fun au ah=>Wr fun av ai=>Obx 0 Zbx hs rfl ?_))
 obtain ⟨aa,ab,H⟩:=bnd H
 refine Oc rfl (Y7.c hs h1 ab) (fun aw w hpost=>?_)
 obtain ⟨rfl,hs⟩:=hpost
 refine Mv rfl<|Oxt rfl<|Oxt rfl<|As rfl<|As rfl<|Ox ai<|Wr fun ax aj=>Mv rfl<|One rfl<|Ox aj<|W.weak [(2,_),(3,_),(7,_),(8,_),(16,_)] sbn ?_
 refine Xa rfl (fun ac=>?_) (fun ac=>?_)
 rw [if_pos ac] at H
 refine Wr fun ay ak=>Mv rfl<|Mv rfl<|As rfl<|As rfl<|As rfl<|Ox ak<|Zm ?_
 have al:Xw Vj ρ (.pointer none) none:=Xw.nil _ _
 obtain rfl:=Z4 H
 exact Zdc rfl rfl rfl rfl ⟨_,_,rfl,Le.rfl' _,(hs.sub (ssk (ssk ssr))),al⟩
 rw [if_neg ac] at H
 refine Wx ah<|Wr fun az am=>Y6 zr3 hs rfl (fun a0 w hs=>V6 (i:=0) sz3 hs rfl rfl rfl rfl rfl (fun w hs=>Ox am<|Wr fun a1 an=>O_y rfl (Hi rfl) ?_))
 have hs:=hs.front 1 rfl
 have hs:=hs.front 2 rfl
 obtain ⟨af,ad,H⟩:=bnd H
 refine Oc rfl (Z6.c hs h0 h1 ad) (fun a2 w hpost=>?_)
 obtain ⟨a3,a4,rfl,ae,hs,ao⟩:=hpost
 have hs:=hs.sink 2
 have hs:=hs.sink 1
 refine As rfl<|As rfl<|As rfl<|Ox an<|Zm ?_
 obtain rfl:=Z4 H
 exact Zdc rfl rfl rfl rfl ⟨_,_,rfl,ae,(hs.sub (ssk (ssk (ssk ssr)))),ao⟩

def V7.f (x0:List Val):Option (Option Tab×Int×Int):=(Ul.f none x0).bind fun aa=>(some (aa.1,aa.2.1,aa.2.2))
theorem V7.c (hs:St w0 ρ (Γ) w) {v0:Value} {x0:List Val} (h0:SlR Qb ρ v0 x0) {r:Option Tab×Int×Int} (H:V7.f x0=some r):Zq Tryz.prog 63 [v0] w (fun v w'=>∃ (ρ':Hp) (v0:Value),v=.tuple #[v0,.int .i64 r.2.1,.int .i64 r.2.2]∧Le ρ ρ'∧St w0 ρ' (Γ) w'∧Xw Vj ρ' v0 r.1):=by
 rw [V7.f] at H
 refine Et Tryz.func63 Tryz.ntmps63 rfl<|Wr fun ah ad=>As rfl<|As rfl<|As rfl<|Ox ad<|Wr fun ai ae=>Mv rfl ?_
 have af:Xw Vj ρ (.pointer none) none:=Xw.nil _ _
 obtain ⟨aa,ab,H⟩:=bnd H
 refine Oc rfl (Ul.c hs af h0 ab) (fun aj w hpost=>?_)
 obtain ⟨ak,al,rfl,ac,hs,ag⟩:=hpost
 refine Oxt rfl<|Oxt rfl<|Oxt rfl<|As rfl<|As rfl<|As rfl<|Ox ae<|Zm ?_
 obtain rfl:=Z4 H
 exact Zdc rfl rfl rfl rfl ⟨_,_,rfl,ac,hs,ag⟩

def Qi.f (x0:List Val):Option (Option Tab):=(V7.f x0).bind fun ac=>(some ac.1)
theorem Qi.c (hs:St w0 ρ (Γ) w) {v0:Value} {x0:List Val} (h0:SlR Qb ρ v0 x0) {r:Option Tab} (H:Qi.f x0=some r):Zq Tryz.prog 62 [v0] w (fun v w'=>∃ (ρ':Hp) (v0:Value),v=v0∧Le ρ ρ'∧St w0 ρ' (Γ) w'∧Xw Vj ρ' v0 r):=by
 rw [Qi.f] at H
 refine Et Tryz.func62 Tryz.ntmps62 rfl<|Wr fun ah ad=>As rfl<|Ox ad<|Wr fun ai ae=>Mv rfl ?_
 obtain ⟨ac,aa,H⟩:=bnd H
 refine Oc rfl (V7.c hs h0 aa) (fun aj w hpost=>?_)
 obtain ⟨ak,al,rfl,ab,hs,af⟩:=hpost
 refine Mv rfl<|Oxt rfl<|Oxt rfl<|Oxt rfl<|As rfl<|As rfl<|As rfl<|Ox ae<|Wr fun am ag=>Mv rfl<|As rfl<|Ox ag<|Zm ?_
 obtain rfl:=Z4 H
 exact r1 rfl ⟨_,_,rfl,ab,hs,af⟩

def K7.l1:Nat→List Spn→List Val→Int→Option (Option Tab)
  | 0,_,_,_=>none
  | ae+1,x0,ab,aa=>if aa<(x0.length:Int) then (if (0:Int)≤aa∧aa<(x0.length:Int) then (if ab.length+([(⟨(rd x0 aa).lo,(rd x0 aa).hi,1⟩:Val)]).length≤most then ((K7.l1 ae x0) (ab++([(⟨(rd x0 aa).lo,(rd x0 aa).hi,1⟩:Val)])) (i64.wrap (aa+1))) else none) else none) else ((V7.f ab).bind fun ao=>(some ao.1))
def K7.f (x0:List Spn):Option (Option Tab):=K7.l1 K0 x0 ([]:List Val) 0
theorem K7.c (hs:St w0 ρ (Γ) w) {v0:Value} {x0:List Spn} (h0:SlR Kj ρ v0 x0) {r:Option Tab} (H:K7.f x0=some r):Zq Tryz.prog 64 [v0] w (fun v w'=>∃ (ρ':Hp) (v0:Value),v=v0∧Le ρ ρ'∧St w0 ρ' (Γ) w'∧Xw Vj ρ' v0 r):=by
 rw [K7.f] at H
 refine Et Tryz.func64 Tryz.ntmps64 rfl<|Wr fun bf ar=>As rfl<|Ox ar<|Wr fun bg au=>As rfl ?_
 have hs:=hs.rowNil 67 Qb.sz
 have av:=Zp.nil Qb ρ
 refine Ox au<|Zi fun bh aw=>Wr fun bi ax=>Mv rfl<|O_y rfl (Yx Zky h0 rfl)<|Mv rfl<|Ox ax<|Zl fun bj ay bk=>Xb (σ:=Nat×List Val×Int×Value×List Value) (fun (ae,ab,aa,ac,ad)=>[(3,ac),(9,v0),(10,.int .i64 (x0.length:Int)),(11,.int .i64 aa)]) (fun (ae,ab,aa,ac,ad) w=>K7.l1 ae x0 ab aa=some r∧St w0 ρ ((.row ac 67 Qb.sz ab.length ad)::Γ) w∧Zp Qb ρ ad ab) (fun s=>s.1) (K0,([]:List Val),0,(.slice none 0 0),([])) (T4 rfl) (Ai H (Ai hs av)) ?_
 rintro ⟨ae,ab,aa,ac,ad⟩ w bl ⟨H,hs,af⟩ ag
 show W _ _ _ _ _ _ [(3,ac),(9,v0),(10,.int .i64 (x0.length:Int)),(11,.int .i64 aa)] w
 cases ae with
 | zero=>rw [K7.l1] at H;cases H
 | succ ae=>
 rw [K7.l1] at H
 refine Wr fun bm az=>Ols rfl<|Ox az<|Zi fun bn a0=>Xa rfl (fun aj=>?_) (fun aj=>?_)
 rw [if_pos aj] at H
 refine Wx a0<|Zi fun bo a1=>Zl fun bp bq br=>Zi fun bs a2=>Zc ?_
 obtain ⟨ap,H⟩:=gd H
 obtain ⟨bt,bu,a3,a4⟩:=h0.ix Zkx ap.1 ap.2
 obtain ⟨_,rfl,a5⟩:=a3
 refine O_y rfl (a4 rfl rfl)<|O_y rfl (Q0 Zbg Hv rfl rfl (fun j u hu=>hs.see (a5 j u hu)))<|Y6 Za5 hs rfl (fun bv w hs=>Ye (i:=0) Hv hs rfl rfl rfl rfl rfl (Zb rfl (Zb rfl Ym)) (fun w hs=>Ox a2<|Zc<|Mv rfl<|Ofd U6 rfl<|Obx 0 Xn hs rfl<|Ofd Vy rfl<|Obx 0 Xn hs rfl<|O_y rfl (Qg (cs:=[.int .i32 ((rd x0 aa).lo),.int .i32 ((rd x0 aa).hi),.int .i64 1]) Zml Zwr ((Z3.cons rfl rfl (Z3.cons rfl rfl (Z3.cons rfl rfl Z3.nil)))) Zft (by kernel_rfl))<|K6 (xs:=[.tmp 20]) (cs:=[.int .i32 ((rd x0 aa).lo),.int .i32 ((rd x0 aa).hi),.int .i64 1]) Zcx hs rfl rfl rfl (by decide) (by decide) rfl (Yd rfl Ki) (Zx rfl X6) (fun bw w hs=>?_)))
 have aq:Zp Qb ρ ([.int .i32 ((rd x0 aa).lo),.int .i32 ((rd x0 aa).hi),.int .i64 1]) [(⟨(rd x0 aa).lo,(rd x0 aa).hi,1⟩:Val)]:=Zp.cons (c:=[.int .i32 ((rd x0 aa).lo),.int .i32 ((rd x0 aa).hi),.int .i64 1]) (x:=(⟨(rd x0 aa).lo,(rd x0 aa).hi,1⟩:Val)) rfl (Zp.nil _ _)
 obtain ⟨a6,H⟩:=gd H
 refine Q3 (i:=2) Zcx hs rfl af rfl rfl rfl (Src.lit (j:=0) hs rfl aq) aq a6 (fun a7 ak w a8 hs=>As rfl<|Ox a1<|W.weak [(3,_),(9,_),(10,_),(11,_)] (T4 rfl)<|Zc<|Oad rfl<|Mv rfl<|Zd (ag (ae,(ab++([(⟨(rd x0 aa).lo,(rd x0 aa).hi,1⟩:Val)])),(i64.wrap (aa+1)),a7,ak) _ _ (T4 rfl) (Ai H (Ai (hs.sub (ssk (ssk (ssc ssr)))) a8)) (Nat.lt_succ_self _)))
 rw [if_neg aj] at H
 refine Y5 (ay _ _ (aw _ _<|Zi fun bx a9=>?_))
 obtain ⟨bz,al,hs,ba⟩:=hs.rowEnd (j:=0) af rfl
 refine Zc<|Mv rfl ?_
 obtain ⟨ao,ah,H⟩:=bnd H
 refine Oc rfl (V7.c hs ba ah) (fun bb w hpost=>?_)
 obtain ⟨bc,bd,rfl,ai,hs,am⟩:=hpost
 refine Mv rfl<|Oxt rfl<|Oxt rfl<|Oxt rfl<|As rfl<|As rfl<|As rfl<|Ox a9<|Wr fun be an=>Mv rfl<|As rfl<|Ox an<|W.weak [(2,_)] (S1 rfl) ?_
 refine Zm ?_
 obtain rfl:=Z4 H
 exact r1 rfl ⟨_,_,rfl,(al.trans ai),hs,am⟩

def Ya.l1:Nat→List Chs→List Val→Int→Option (Option Tab)
  | 0,_,_,_=>none
  | af+1,x0,ab,aa=>if aa<(x0.length:Int) then (if (0:Int)≤aa∧aa<(x0.length:Int) then ((Ks.f (rd x0 aa)).bind fun ae=>(if ab.length+([(⟨ae.lo,ae.hi,i64.wrap (aa+1)⟩:Val)]).length≤most then ((Ya.l1 af x0) (ab++([(⟨ae.lo,ae.hi,i64.wrap (aa+1)⟩:Val)])) (i64.wrap (aa+1))) else none)) else none) else ((V7.f ab).bind fun ak=>(some ak.1))
def Ya.f (x0:List Chs):Option (Option Tab):=Ya.l1 K0 x0 ([]:List Val) 0
theorem Ya.c (hs:St w0 ρ (Γ) w) {v0:Value} {x0:List Chs} (h0:SlR Kz ρ v0 x0) {r:Option Tab} (H:Ya.f x0=some r):Zq Tryz.prog 65 [v0,.func (.func 66) #[] #[]] w (fun v w'=>∃ (ρ':Hp) (v0:Value),v=v0∧Le ρ ρ'∧St w0 ρ' (Γ) w'∧Xw Vj ρ' v0 r):=by
 rw [Ya.f] at H
 refine Et Tryz.func65 Tryz.ntmps65 rfl<|Wr fun bt a5=>As rfl<|Ox a5<|Wr fun bu a6=>As rfl ?_
 have hs:=hs.rowNil 67 Qb.sz
 have a7:=Zp.nil Qb ρ
 refine Ox a6<|Zi fun bv a8=>Wr fun bw a9=>Mv rfl<|O_y rfl (Yx Zfs h0 rfl)<|Mv rfl<|Ox a9<|Zl fun bx ba bz=>Xb (σ:=Nat×List Val×Int×Value×List Value×Hp) (fun (af,ab,aa,ac,ad,ah)=>[(1,.func (.func 66) #[] #[]),(5,ac),(12,v0),(13,.int .i64 (x0.length:Int)),(14,.int .i64 aa)]) (fun (af,ab,aa,ac,ad,ah) w=>Ya.l1 af x0 ab aa=some r∧Le ρ ah∧St w0 ah ((.row ac 67 Qb.sz ab.length ad)::Γ) w∧Zp Qb ah ad ab) (fun s=>s.1) (K0,([]:List Val),0,(.slice none 0 0),([]),ρ) sbn (Ai H (Ai (Le.rfl' _) (Ai hs a7))) ?_
 rintro ⟨af,ab,aa,ac,ad,ah⟩ w b0 ⟨H,ai,hs,ag⟩ aj
 show W _ _ _ _ _ _ [(1,.func (.func 66) #[] #[]),(5,ac),(12,v0),(13,.int .i64 (x0.length:Int)),(14,.int .i64 aa)] w
 cases af with
 | zero=>rw [Ya.l1] at H;cases H
 | succ af=>
 rw [Ya.l1] at H
 refine Wr fun b1 bb=>Ols rfl<|Ox bb<|Zi fun b2 bc=>Xa rfl (fun ar=>?_) (fun ar=>?_)
 rw [if_pos ar] at H
 refine Wx bc<|Zi fun b3 bd=>Zl fun b4 b5 b6=>Wr fun b7 be=>Mv rfl ?_
 obtain ⟨a2,H⟩:=gd H
 obtain ⟨b8,b9,bf,bg⟩:=(h0.mono ai).ix Zep a2.1 a2.2
 obtain ⟨_,⟨ca,rfl,a3⟩,bh⟩:=bf
 refine O_y rfl (bg rfl rfl)<|O_y rfl (Q0 Zb1 Zap rfl rfl (fun j u hu=>hs.see (bh j u hu)))<|Y6 Zh1 hs rfl (fun cb w hs=>As rfl<|Ye (i:=0) Zap hs rfl rfl rfl rfl rfl (Zb rfl (Zb rfl (Zb a3.one Ym))) (fun w hs=>Ox be<|Wr fun cc bi=>Mv rfl<|O_y rfl (Xl (i:=0) Zb1 Zap hs rfl rfl rfl rfl) ?_))
 obtain ⟨ae,au,H⟩:=bnd H
 refine Xs rfl rfl rfl (Ks.c hs ⟨_,rfl,a3⟩ au) (fun cd w hpost=>?_)
 obtain ⟨a4,bj,rfl,al,hs,bk⟩:=hpost
 have bl:=bk
 obtain rfl:=bl
 refine Y6 Za5 hs rfl (fun ce w hs=>Ye (i:=0) Hv hs rfl rfl rfl rfl rfl (Zb rfl (Zb rfl Ym)) (fun w hs=>Ox bi<|W.weak [(1,_),(5,_),(6,_),(8,_),(12,_),(13,_),(14,_)] sbn ?_))
 refine Zc<|Mv rfl<|Ofd U6 rfl<|Obx 0 Xn hs rfl<|Ofd Vy rfl<|Obx 0 Xn hs rfl<|Mv rfl<|Oad rfl<|O_y rfl (Qg (cs:=[.int .i32 ae.lo,.int .i32 ae.hi,.int .i64 (i64.wrap (aa+1))]) Zml Zwr ((Z3.cons rfl rfl (Z3.cons rfl rfl (Z3.cons rfl rfl Z3.nil)))) Zft (by kernel_rfl))<|K6 (xs:=[.tmp 29]) (cs:=[.int .i32 ae.lo,.int .i32 ae.hi,.int .i64 (i64.wrap (aa+1))]) Zcx hs rfl rfl rfl (by decide) (by decide) rfl (Yd rfl Ki) (Zx rfl X6) (fun bm w hs=>?_)
 have am:Zp Qb a4 ([.int .i32 ae.lo,.int .i32 ae.hi,.int .i64 (i64.wrap (aa+1))]) [(⟨ae.lo,ae.hi,i64.wrap (aa+1)⟩:Val)]:=Zp.cons (c:=[.int .i32 ae.lo,.int .i32 ae.hi,.int .i64 (i64.wrap (aa+1))]) (x:=(⟨ae.lo,ae.hi,i64.wrap (aa+1)⟩:Val)) rfl (Zp.nil _ _)
 obtain ⟨av,H⟩:=gd H
 refine Q3 (i:=3) Zcx hs rfl (ag.mono al) rfl rfl rfl (Src.lit (j:=0) hs rfl am) am av (fun aw an w ax hs=>As rfl<|Ox bd<|W.weak [(1,_),(5,_),(12,_),(13,_),(14,_)] sbn ?_)
 refine Zc<|Oad rfl<|Mv rfl<|Zd (aj (af,(ab++([(⟨ae.lo,ae.hi,i64.wrap (aa+1)⟩:Val)])),(i64.wrap (aa+1)),aw,an,a4) _ _ sbn (Ai H (Ai (ai.trans al) (Ai (hs.sub (ssk (ssk (ssk (ssc ssr))))) ax))) (Nat.lt_succ_self _))
 rw [if_neg ar] at H
 refine Y5 (ba _ _ (a8 _ _<|Zi fun bn ay=>?_))
 obtain ⟨bo,ao,hs,az⟩:=hs.rowEnd (j:=0) ag rfl
 refine Zc<|Mv rfl ?_
 obtain ⟨ak,ap,H⟩:=bnd H
 refine Oc rfl (V7.c hs az ap) (fun bp w hpost=>?_)
 obtain ⟨bq,br,rfl,aq,hs,a0⟩:=hpost
 refine Mv rfl<|Oxt rfl<|Oxt rfl<|Oxt rfl<|As rfl<|As rfl<|As rfl<|Ox ay<|W.weak [(9,_)] (S1 rfl)<|Wr fun bs a1=>Mv rfl<|As rfl<|Zd (a1 _ _ ?_)
 refine Zm ?_
 obtain rfl:=Z4 H
 exact r1 rfl ⟨_,_,rfl,((ai.trans ao).trans aq),hs,a0⟩

def Z1.j1 (x0:Option Tab) (x1:Int) (aa:Bool):Option Int:=if aa=true then (some 0) else (if x0.isSome=true then (if (0:Int)≤i32.wrap (x1.tdiv 128)∧i32.wrap (x1.tdiv 128)<((8704:Nat):Int) then (if (0:Int)≤vg (((x0).getD default).which) (i32.wrap (x1.tdiv 128))∧vg (((x0).getD default).which) (i32.wrap (x1.tdiv 128))<((((x0).getD default).unlike).length:Int) then (if (0:Int)≤x1.tmod 128∧x1.tmod 128<((128:Nat):Int) then (some (i64.wrap (vg (rd (((x0).getD default).unlike) (vg (((x0).getD default).which) (i32.wrap (x1.tdiv 128)))) (x1.tmod 128)))) else none) else none) else none) else none)
def Z1.f (x0:Option Tab) (x1:Int):Option Int:=if ((x0).isNone)=true then (Z1.j1 x0 x1 true) else (if x1<0 then (Z1.j1 x0 x1 true) else (Z1.j1 x0 x1 (decide (1114111<x1))))
theorem Z1.c (hs:St w0 ρ (Γ) w) {v0:Value} {x0:Option Tab} (h0:Xw Vj ρ v0 x0) {x1 r:Int} (H:Z1.f x0 x1=some r):Zq Tryz.prog 67 [v0,.int .i32 x1] w (fun v w'=>v=.int .i64 r∧St w0 ρ Γ w'):=by
 rw [Z1.f] at H
 refine Et Tryz.func67 Tryz.ntmps67 rfl<|Wr fun a4 am=>As rfl<|Ox am<|Zi fun a5 an=>Yt fun ao ap ad=>?_
 have ae:∀ (aa:Bool) (w:World),Z1.j1 x0 x1 aa=some r→St w0 ρ (Γ) w→ao [(0,v0),(1,.int .i32 x1),(14,.bool aa)] w:=by
  intro aa w H hs
  rw [Z1.j1] at H
  refine ap _ _<|Xh rfl (fun af=>?_) (fun af=>?_)
  rw [if_pos af] at H
  refine Wr fun a6 aq=>As rfl<|Ox aq<|Zm ?_
  obtain rfl:=Z4 H
  exact r1 rfl ⟨rfl,hs⟩
  rw [if_neg (bft af)] at H
  refine Wx an<|Zi fun a7 ar=>Qt 18 [0,1,2,4,0,0,32,16,128,320,512,0,2048,1032,12288,16384,32768,131071] [131068,131064,131056,122864,130927,130975,130463,130671,130159,129039,120847,124927,108543,104448,65536,0,0,0] [0,1,3,7,0,0,32,16,144,496,1008,0,2048,2047,16383,32767,65535,131071] [] (fun w=>St w0 ρ (Γ) w) Vr (by kernel_rfl) (fun sh=>?_)
  have hs:=hs.drew
  refine Fm 0 sh rfl ?_
  obtain ⟨ak,H⟩:=gd H
  obtain ⟨a8,ag,au⟩:=h0.open ak
  obtain ⟨_,⟨a9,ba,rfl,av,bb⟩,aw⟩:=au
  refine Fp 1 sh rfl (fun w=>Vh (congrArg some ag))<|Fp 2 sh rfl (fun w=>Zw Zgu rfl)<|Fy 3 sh rfl hs (fun w hs=>Xq Zr1 rfl (hs.see (aw 8704 _ (Zg1 (q:=0) rfl rfl))))<|Fm 4 sh rfl<|Fm 5 sh rfl<|Fp 6 sh rfl (fun w=>Zdx rfl rfl (by decide)) ?_
  obtain ⟨bc,ah,ax⟩:=h0.open ak
  obtain ⟨_,⟨bd,be,rfl,bf,bg⟩,ay⟩:=ax
  refine Fp 7 sh rfl (fun w=>Vh (congrArg some ah))<|Fp 8 sh rfl (fun w=>Zw Zit rfl) ?_
  obtain ⟨ab,H⟩:=gd H
  have az:=CA.seg (q:=0) ay rfl ab.1 ab.2
  refine Fp 9 sh rfl (fun w=>Zco Zqt Zc0 rfl rfl ab.1 ab.2)<|Fy 10 sh rfl hs (fun w hs=>Xq Zlt rfl (hs.see az))<|Fm 11 sh rfl<|Fp 12 sh rfl (fun w=>Zlw rfl rfl (by decide)) ?_
  obtain ⟨al,H⟩:=gd H
  obtain ⟨bh,bi,a0,a1⟩:=av.ix Zr5 al.1 al.2
  have a2:=a0.arr
  refine Fp 13 sh rfl (fun w=>a1 rfl rfl) ?_
  obtain ⟨ac,H⟩:=gd H
  have a3:=CA.seg (q:=0) a2 rfl ac.1 ac.2
  refine Fp 14 sh rfl (fun w=>Zco Zlv Zc0 rfl rfl ac.1 ac.2)<|Fy 15 sh rfl hs (fun w hs=>Xq Zlt rfl (hs.see a3))<|Fp 16 sh rfl (fun w=>Uc Zl0 un3 rfl)<|Fp 17 sh rfl (fun w=>Xz rfl)<|FE sh (ar _ _<|W.weak [(4,_)] (S1 rfl)<|Zm ?_)
  obtain rfl:=Z4 H
  exact r1 rfl ⟨rfl,hs⟩
 refine Zc<|Mv rfl<|O_y rfl ((h0.eqn Zux rfl rfl))<|Mv rfl<|V9 (dj:=7) rfl (fun ai=>?_) (fun ai=>?_)
 rw [if_pos ai] at H
 refine On rfl<|On rfl<|Opk rfl<|Mv rfl<|On rfl<|On rfl<|Opk rfl<|Zd (ad _ _ _ (T3 rfl) (ae true _ H hs))
 rw [if_neg (bft ai)] at H
 refine Oe rfl<|Mv rfl<|Oe rfl<|Ols rfl<|Opk rfl<|Mv rfl<|X4 (dj:=11) rfl (fun aj=>?_) (fun aj=>?_)
 rw [if_pos aj] at H
 refine On rfl<|On rfl<|Opk rfl<|Zd (ad _ _ _ (T3 rfl) (ae true _ H hs))
 rw [if_neg aj] at H
 refine Oe rfl<|Mv rfl<|Oe rfl<|Ogt rfl<|Opk rfl<|Zd (ad _ _ _ (T3 rfl) (ae (decide (1114111<x1)) _ H hs))

end Go.Proofs.YthoicbafdanmkaaGreatDoor
/- Written by this repo's gen.py: for each Go function a Lean function with the same answers and the walk that shows it. -/
namespace Go.Proofs.YthoicbafdanmkaaGreatDoor
open Go.IntKind (i8 i16 i32 i64 u8 u16 u32 u64)
open Go.RowKit
set_option maxRecDepth 100000
set_option maxHeartbeats 4000000
variable {w0 w:World} {ρ:Hp} {Γ:List Kd}
set_option linter.unusedVariables false
def Qf.f (x0:Option Tbs) (x1:Int):Option Int:=if ((x0).isNone)=true then (some 0) else (if x0.isSome=true then ((Z1.f (((x0).getD default).class_) x1).bind fun aa=>(some aa)) else none)
theorem Qf.c (hs:St w0 ρ (Γ) w) {v0:Value} {x0:Option Tbs} (h0:Xw H4 ρ v0 x0) {x1 r:Int} (H:Qf.f x0 x1=some r):Zq Tryz.prog 133 [v0,.int .i32 x1] w (fun v w'=>v=.int .i64 r∧St w0 ρ Γ w'):=by
 rw [Qf.f] at H
 refine Et Tryz.func133 Tryz.ntmps133 rfl<|Wr fun a0 af=>As rfl<|Ox af<|Zi fun a1 ag=>Wr fun a2 ah=>Mv rfl<|O_y rfl ((h0.eqn Zp9 rfl rfl))<|Ox ah<|Xh rfl (fun ac=>?_) (fun ac=>?_)
 rw [if_pos ac] at H
 refine Wr fun a3 ai=>As rfl<|Ox ai<|Zm ?_
 obtain rfl:=Z4 H
 exact r1 rfl ⟨rfl,hs⟩
 rw [if_neg (bft ac)] at H
 refine Wx ag<|Wr fun a4 aj=>Mv rfl ?_
 obtain ⟨ak,H⟩:=gd H
 obtain ⟨a5,ad,al⟩:=h0.open ak
 obtain ⟨_,⟨a6,a7,a8,a9,ba,bb,bc,bd,be,bf,bg,bh,bi,bj,bk,bl,bm,am,an,ao,ap,aq,rfl,bn,bo,bp,bq,br,bs,bt,bu,bv,bw,bx,bz,ar,b0,b1,b2,b3,au,av,aw,ax,ay⟩,ae⟩:=al
 refine O_y rfl (Vh (congrArg some ad))<|Ofd Znq rfl<|O_y rfl (Xq Zc5 rfl (hs.see (ae 12 _ rfl)))<|Mv rfl ?_
 obtain ⟨aa,ab,H⟩:=bnd H
 refine Oc rfl (Z1.c hs ar ab) (fun az w hpost=>?_)
 obtain ⟨rfl,hs⟩:=hpost
 refine As rfl<|Ox aj<|Zm ?_
 obtain rfl:=Z4 H
 exact r1 rfl ⟨rfl,hs⟩

def U7.f (x0:Int):Option Bool:=some (decide (x0≠x0))
theorem U7.c (hs:St w0 ρ (Γ) w) {x0:Int} {r:Bool} (H:U7.f x0=some r):Zq Tryz.prog 179 [.int .i64 x0] w (fun v w'=>v=.bool r∧St w0 ρ Γ w'):=by
 rw [U7.f] at H
 refine Et Tryz.func179 Tryz.ntmps179 rfl<|Wr fun ac aa=>As rfl<|Ox aa<|Wr fun ad ab=>Mv rfl<|Mv rfl<|One rfl<|As rfl<|Ox ab<|Zm ?_
 obtain rfl:=Z4 H
 exact r1 rfl ⟨rfl,hs⟩

def Hq.f (x0 x1:Int):Option Int:=(U7.f x0).bind fun ai=>((U7.f x1).bind fun aa=>(if ai=true then (if aa=true then (some 0) else (some (-1))) else (if aa=true then (some 1) else (if x0<x1 then (some (-1)) else (if x1<x0 then (some 1) else (some 0))))))
theorem Hq.c (hs:St w0 ρ (Γ) w) {x0 x1 r:Int} (H:Hq.f x0 x1=some r):Zq Tryz.prog 167 [.int .i64 x0,.int .i64 x1] w (fun v w'=>v=.int .i64 r∧St w0 ρ Γ w'):=by
 rw [Hq.f] at H
 refine Et Tryz.func167 Tryz.ntmps167 rfl<|Wr fun a4 aj=>As rfl<|Ox aj<|Wr fun a5 ak=>Mv rfl ?_
 obtain ⟨ai,ab,H⟩:=bnd H
 refine Oc rfl (U7.c hs ab) (fun a6 w hpost=>?_)
 obtain ⟨rfl,hs⟩:=hpost
 refine As rfl<|Ox ak<|Wr fun a7 al=>Mv rfl ?_
 obtain ⟨aa,ac,H⟩:=bnd H
 refine Oc rfl (U7.c hs ac) (fun a8 w hpost=>?_)
 obtain ⟨rfl,hs⟩:=hpost
 refine As rfl<|Ox al<|Zi fun a9 am=>Wr fun ba an=>Mv rfl<|Ox an<|Xh rfl (fun ad=>?_) (fun ad=>?_)
 rw [if_pos ad] at H
 refine Zi fun bb ao=>Wr fun bc ap=>Mv rfl<|Ox ap<|Xh rfl (fun ae=>?_) (fun ae=>?_)
 rw [if_pos ae] at H
 refine Wr fun bd aq=>As rfl<|Ox aq<|Zm ?_
 obtain rfl:=Z4 H
 exact r1 rfl ⟨rfl,hs⟩
 rw [if_neg (bft ae)] at H
 refine Wx ao<|Wr fun be ar=>As rfl<|Ox ar<|Zm ?_
 obtain rfl:=Z4 H
 exact r1 rfl ⟨rfl,hs⟩
 rw [if_neg (bft ad)] at H
 refine Wx am<|Zi fun bf au=>Wr fun bg av=>Mv rfl<|Ox av<|Xh rfl (fun af=>?_) (fun af=>?_)
 rw [if_pos af] at H
 refine Wr fun bh aw=>As rfl<|Ox aw<|Zm ?_
 obtain rfl:=Z4 H
 exact r1 rfl ⟨rfl,hs⟩
 rw [if_neg (bft af)] at H
 refine Wx au<|Zi fun bi ax=>Wr fun bj ay=>Mv rfl<|Mv rfl<|Ols rfl<|Ox ay<|Xa rfl (fun ag=>?_) (fun ag=>?_)
 rw [if_pos ag] at H
 refine Wr fun bk az=>As rfl<|Ox az<|Zm ?_
 obtain rfl:=Z4 H
 exact r1 rfl ⟨rfl,hs⟩
 rw [if_neg ag] at H
 refine Wx ax<|Zi fun bl a0=>Wr fun bm a1=>Mv rfl<|Mv rfl<|Ogt rfl<|Ox a1<|W.weak [(19,_)] (S1 rfl)<|Xa rfl (fun ah=>?_) (fun ah=>?_)
 rw [if_pos ah] at H
 refine Wr fun bn a2=>As rfl<|Ox a2<|Zm ?_
 obtain rfl:=Z4 H
 exact r1 rfl ⟨rfl,hs⟩
 rw [if_neg ah] at H
 refine Wx a0<|Wr fun bo a3=>As rfl<|Ox a3<|Zm ?_
 obtain rfl:=Z4 H
 exact r1 rfl ⟨rfl,hs⟩

def Ke.f (x0 x1:Int) (y0_0:Option Tbs):Option Int:=(Qf.f y0_0 x0).bind fun ad=>((Qf.f y0_0 x1).bind fun ae=>((Hq.f ad ae).bind fun af=>(some af)))
theorem Ke.c {pb0:Nat} {w0_0:Value} {y0_0:Option Tbs} (hs:St w0 ρ ((.box pb0 29 ([w0_0]))::Γ) w) {x0 x1:Int} (g0_0:Xw H4 ρ w0_0 y0_0) {r:Int} (H:Ke.f x0 x1 y0_0=some r):Zq Tryz.prog 166 [.int .i32 x0,.int .i32 x1,.pointer (some ⟨pb0,0,none⟩)] w (fun v w'=>v=.int .i64 r∧St w0 ρ ((.box pb0 29 ([w0_0]))::Γ) w'):=by
 rw [Ke.f] at H
 refine Et Tryz.func166 Tryz.ntmps166 rfl<|Wr fun al ag=>As rfl<|Ox ag<|Zi fun am ah=>Qt 8 [0,0,3,0,0,28,36,127] [122,121,24,87,79,0,0,0] [0,0,3,0,0,31,63,127] [] (fun w=>St w0 ρ ((.box pb0 29 ([w0_0]))::Γ) w) Vr (by kernel_rfl) (fun sh=>?_)
 have hs:=hs.drew
 refine Fy 0 sh rfl hs (fun w hs=>Yb 0 Zp8 hs rfl rfl rfl)<|Fm 1 sh rfl<|Fy 3 sh rfl hs (fun w hs=>Yb 0 Zp8 hs rfl rfl rfl)<|Fm 4 sh rfl<|F1 2 sh rfl (fun an ai=>?_)
 obtain ⟨ad,aa,H⟩:=bnd H
 refine Oc rfl (Qf.c hs g0_0 aa) (fun ao w hpost=>?_)
 obtain ⟨rfl,hs⟩:=hpost
 refine Zd (ai _ _ (fun _ _=>hs)<|F1 5 sh rfl (fun ap aj=>?_))
 obtain ⟨ae,ab,H⟩:=bnd H
 refine Oc rfl (Qf.c hs g0_0 ab) (fun aq w hpost=>?_)
 obtain ⟨rfl,hs⟩:=hpost
 refine Zd (aj _ _ (fun _ _=>hs)<|F1 6 sh rfl (fun ar ak=>?_))
 obtain ⟨af,ac,H⟩:=bnd H
 refine Oc rfl (Hq.c hs ac) (fun au w hpost=>?_)
 obtain ⟨rfl,hs⟩:=hpost
 refine Zd (ak _ _ (fun _ _=>hs)<|Fp 7 sh rfl (fun w=>Xz rfl)<|FE sh (ah _ _<|Zm ?_))
 obtain rfl:=Z4 H
 exact r1 rfl ⟨rfl,hs⟩

def Zg.j1 (ah:List Int→Int→Option (List Int)) (aq:List Int→Int→Option (List Int)) (ac:Int) (aa:List Int) (ab:Int) (ai:Bool):Option (List Int):=if ai=true then (if (0:Int)≤i64.wrap (ab-1)∧i64.wrap (ab-1)<(aa.length:Int) then (if (0:Int)≤ab∧ab<(aa.length:Int) then (if (0:Int)≤i64.wrap (ab-1)∧i64.wrap (ab-1)<((aa.set ab.toNat (rd aa (i64.wrap (ab-1)))).length:Int) then (aq ((aa.set ab.toNat (rd aa (i64.wrap (ab-1)))).set (i64.wrap (ab-1)).toNat (rd aa ab)) (i64.wrap (ab-1))) else none) else none) else none) else (ah aa (i64.wrap (ac+1)))
def Zg.l1 (ah:List Int→Int→Option (List Int)):Nat→Option Tbs→Int→Int→List Int→Int→Option (List Int)
  | 0,_,_,_,_,_=>none
  | ak+1,y1_0,x1,ac,aa,ab=>if x1<ab then (if (0:Int)≤ab∧ab<(aa.length:Int) then (if (0:Int)≤i64.wrap (ab-1)∧i64.wrap (ab-1)<(aa.length:Int) then ((Ke.f (rd aa ab) (rd aa (i64.wrap (ab-1))) y1_0).bind fun ar=>(Zg.j1 ah (Zg.l1 ah ak y1_0 x1 ac) ac aa ab (decide (ar<0)))) else none) else none) else (Zg.j1 ah (Zg.l1 ah ak y1_0 x1 ac) ac aa ab false)
def Zg.l2:Nat→Option Tbs→Int→Int→List Int→Int→Option (List Int)
  | 0,_,_,_,_,_=>none
  | aj+1,y1_0,x1,x2,ae,ac=>if ac<x2 then (Zg.l1 (Zg.l2 aj y1_0 x1 x2) K0 y1_0 x1 ac ae ac) else (some ae)
def Zg.f (x1 x2:Int) (y0:List Int) (y1_0:Option Tbs):Option (List Int):=Zg.l2 K0 y1_0 x1 x2 y0 (i64.wrap (x1+1))
theorem Zg.c {wr0 wd0:Value} {d0:List Value} {wp0 wq0:List Int} {wm0:Nat} {y0:List Int} {pb1:Nat} {w1_0:Value} {y1_0:Option Tbs} (hs:St w0 ρ ((.row wr0 21 ((Rep.int .i32).sz) wm0 d0)::(.box pb1 29 ([w1_0]))::Γ) w) {x1 x2:Int} (g0:Hl .i32 ρ wr0 d0 wd0 wp0 wq0 y0) (g1_0:Xw H4 ρ w1_0 y1_0) {r:List Int} (H:Zg.f x1 x2 y0 y1_0=some r):Zq Tryz.prog 185 [wd0,.int .i64 x1,.int .i64 x2,.func (.func 166) #[] #[.pointer (some ⟨pb1,0,none⟩)]] w (fun v w'=>∃ (ρ':Hp) (ds0:List Value),v=.tuple #[]∧Le ρ ρ'∧St w0 ρ' ((.row wr0 21 ((Rep.int .i32).sz) wm0 ds0)::(.box pb1 29 ([w1_0]))::Γ) w'∧Hl .i32 ρ' wr0 ds0 wd0 wp0 wq0 r):=by
 rw [Zg.f] at H
 refine Et Tryz.func185 Tryz.ntmps185 rfl<|Wr fun b5 bj=>Mv rfl<|Oad rfl<|As rfl<|Ox bj<|Zl fun b6 bk b7=>Xb (σ:=Nat×List Int×Int×List Value) (fun (aj,ae,ac,ag)=>[(0,wd0),(1,.int .i64 x1),(2,.int .i64 x2),(3,.func (.func 166) #[] #[.pointer (some ⟨pb1,0,none⟩)]),(8,.int .i64 ac)]) (fun (aj,ae,ac,ag) w=>Zg.l2 aj y1_0 x1 x2 ae ac=some r∧St w0 ρ ((.row wr0 21 ((Rep.int .i32).sz) wm0 ag)::(.box pb1 29 ([w1_0]))::Γ) w∧Hl .i32 ρ wr0 ag wd0 wp0 wq0 ae) (fun s=>s.1) (K0,y0,(i64.wrap (x1+1)),d0) sbn (Ai H (Ai hs g0)) ?_
 rintro ⟨aj,ae,ac,ag⟩ w b8 ⟨H,hs,al⟩ au
 show W _ _ _ _ _ _ [(0,wd0),(1,.int .i64 x1),(2,.int .i64 x2),(3,.func (.func 166) #[] #[.pointer (some ⟨pb1,0,none⟩)]),(8,.int .i64 ac)] w
 cases aj with
 | zero=>rw [Zg.l2] at H;cases H
 | succ aj=>
 rw [Zg.l2] at H
 refine Zi fun b9 bl=>Wr fun ca bm=>Mv rfl<|Mv rfl<|Ols rfl<|Ox bm<|Xa rfl (fun a4=>?_) (fun a4=>?_)
 ·rw [if_pos a4] at H
  refine Wx bl<|Zi fun cb bn=>Zl fun cc cd ce=>Wr fun cf bo=>Mv rfl<|As rfl<|Ox bo<|Zl fun cg bp ch=>Xb (σ:=Nat×List Int×Int×List Value) (fun (ak,aa,ab,af)=>[(0,wd0),(1,.int .i64 x1),(2,.int .i64 x2),(3,.func (.func 166) #[] #[.pointer (some ⟨pb1,0,none⟩)]),(8,.int .i64 ac),(9,.int .i64 ab)]) (fun (ak,aa,ab,af) w=>Zg.l1 (Zg.l2 aj y1_0 x1 x2) ak y1_0 x1 ac aa ab=some r∧St w0 ρ ((.row wr0 21 ((Rep.int .i32).sz) wm0 af)::(.box pb1 29 ([w1_0]))::Γ) w∧Hl .i32 ρ wr0 af wd0 wp0 wq0 aa) (fun s=>s.1) (K0,ae,ac,ag) sbn (Ai H (Ai hs al)) ?_
  rintro ⟨ak,aa,ab,af⟩ w ci ⟨H,hs,ad⟩ av
  show W _ _ _ _ _ _ [(0,wd0),(1,.int .i64 x1),(2,.int .i64 x2),(3,.func (.func 166) #[] #[.pointer (some ⟨pb1,0,none⟩)]),(8,.int .i64 ac),(9,.int .i64 ab)] w
  cases ak with
  | zero=>rw [Zg.l1] at H;cases H
  | succ ak=>
  rw [Zg.l1] at H
  refine Zi fun cj bq=>Yt fun br bs bg=>?_
  have bh:∀ (ai:Bool) (w:World),Zg.j1 (Zg.l2 aj y1_0 x1 x2) (Zg.l1 (Zg.l2 aj y1_0 x1 x2) ak y1_0 x1 ac) ac aa ab ai=some r→St w0 ρ ((.row wr0 21 ((Rep.int .i32).sz) wm0 af)::(.box pb1 29 ([w1_0]))::Γ) w→br [(0,wd0),(1,.int .i64 x1),(2,.int .i64 x2),(3,.func (.func 166) #[] #[.pointer (some ⟨pb1,0,none⟩)]),(8,.int .i64 ac),(9,.int .i64 ab),(34,.bool ai)] w:=by
   intro ai w H hs
   rw [Zg.j1] at H
   refine bs _ _<|Xh rfl (fun a5=>?_) (fun a5=>?_)
   rw [if_pos a5] at H
   refine Wx bq<|Zi fun ck bt=>Zl fun cl cm cn=>Qt 18 [0,0,0,0,8,0,0,64,160,256,0,0,3072,4096,9187,25571,65535,131071] [16382,16381,65531,65511,65511,16095,16191,15935,15391,15391,60415,59391,50175,1023,28,0,0,0] [0,0,0,0,8,0,0,64,224,480,0,0,3072,7168,16355,32739,65535,131071] [15,16,17] (fun w=>St w0 ρ ((.row wr0 21 ((Rep.int .i32).sz) wm0 af)::(.box pb1 29 ([w1_0]))::Γ) w) Vr (by kernel_rfl) (fun sh=>?_)
   have hs:=hs.drew
   refine Fm 0 sh rfl<|Fm 1 sh rfl<|Fm 2 sh rfl<|Fm 3 sh rfl<|Fp 4 sh rfl (fun w=>Zc8 rfl rfl)<|Fm 5 sh rfl<|Fm 6 sh rfl<|Fp 7 sh rfl (fun w=>Zc8 rfl rfl) ?_
   obtain ⟨a3,H⟩:=gd H
   obtain ⟨co,a6,bu⟩:=ad.ix Kk a3.1 a3.2
   refine Fp 8 sh rfl (fun w=>bu rfl rfl)<|Fy 9 sh rfl hs (fun w hs=>Hz (j:=0) Xn hs rfl a6 ad a3.1 a3.2 rfl)<|Fm 10 sh rfl<|Fm 11 sh rfl ?_
   obtain ⟨ap,H⟩:=gd H
   obtain ⟨cp,a7,bv⟩:=ad.ix Kk ap.1 ap.2
   refine Fp 12 sh rfl (fun w=>bv rfl rfl)<|Fy 13 sh rfl hs (fun w hs=>Hz (j:=0) Xn hs rfl a7 ad ap.1 ap.2 rfl) ?_
   obtain ⟨cq,a8,bw⟩:=ad.ix Kk ap.1 ap.2
   refine Fp 14 sh rfl (fun w=>bw rfl rfl)<|F1 15 sh rfl (fun bx a9=>Zcp (j:=0) Zg3 hs rfl a8 ad ap.1 ap.2 rfl rfl (fun bi w ax hs=>Zd (a9 _ _ (fun h _=>absurd h (by decide))<|Kn sh [17] hs (by kernel_rfl) ?_)))
   obtain ⟨am,H⟩:=gd H
   obtain ⟨bz,ay,ba⟩:=ax.ix Kk am.1 am.2
   refine Fp 16 sh rfl (fun w=>ba rfl rfl)<|F1 17 sh rfl (fun b0 bb=>Zcp (j:=0) Zg3 hs rfl ay ax am.1 am.2 rfl rfl (fun az w bc hs=>Zd (bb _ _ (fun h _=>absurd h (by decide))<|FE sh (bt _ _<|W.weak [(0,_),(1,_),(2,_),(3,_),(8,_),(9,_)] sbn ?_))))
   refine Zc<|Mv rfl<|Osu rfl<|As rfl<|Zd (av (ak,((aa.set ab.toNat (rd aa (i64.wrap (ab-1)))).set (i64.wrap (ab-1)).toNat (rd aa ab)),(i64.wrap (ab-1)),az) _ _ sbn (Ai H (Ai hs bc)) (Nat.lt_succ_self _))
   rw [if_neg (bft a5)] at H
   refine Y5 (bp _ _ (bn _ _<|Zc<|Mv rfl<|Oad rfl<|As rfl<|Zd (au (aj,aa,(i64.wrap (ac+1)),af) _ _ sbn (Ai H (Ai hs ad)) (Nat.lt_succ_self _))))
  refine Qt 17 [0,0,3,4,8,8,8,104,136,8,8,1032,2568,4104,8472,16392,32776] [131066,131065,131056,0,114656,130896,130864,130576,114192,126448,127984,123888,115184,98800,65536,0,0] [0,0,3,7,15,15,15,111,239,15,15,1039,3599,7695,16383,32767,65535] [14,15,16] (fun w=>St w0 ρ ((.row wr0 21 ((Rep.int .i32).sz) wm0 af)::(.box pb1 29 ([w1_0]))::Γ) w) Vr (by kernel_rfl) (fun sh=>?_)
  have hs:=hs.drew
  refine Fm 0 sh rfl<|Fm 1 sh rfl<|Fp 2 sh rfl (fun w=>Zlq rfl rfl)<|Fm 3 sh rfl<|Za4 (dj:=21) rfl (fun aw=>?_) (fun aw=>?_)
  rw [if_pos aw] at H
  refine Fp 4 sh rfl (fun w=>Qm rfl)<|Fp 5 sh rfl (fun w=>Qm rfl)<|Fp 6 sh rfl (fun w=>Qm rfl) ?_
  obtain ⟨an,H⟩:=gd H
  obtain ⟨b1,a0,bd⟩:=ad.ix Kk an.1 an.2
  refine Fp 7 sh rfl (fun w=>bd rfl rfl)<|Fy 8 sh rfl hs (fun w hs=>Hz (j:=0) Xn hs rfl a0 ad an.1 an.2 rfl)<|Fp 9 sh rfl (fun w=>Qm rfl)<|Fp 10 sh rfl (fun w=>Qm rfl)<|Fp 11 sh rfl (fun w=>Zc8 rfl rfl) ?_
  obtain ⟨ao,H⟩:=gd H
  obtain ⟨b2,a1,be⟩:=ad.ix Kk ao.1 ao.2
  refine Fp 12 sh rfl (fun w=>be rfl rfl)<|Fy 13 sh rfl hs (fun w hs=>Hz (j:=0) Xn hs rfl a1 ad ao.1 ao.2 rfl)<|F1 14 sh rfl (fun b3 bf=>Oe rfl ?_)
  have hs:=hs.front 1 rfl
  obtain ⟨ar,a2,H⟩:=bnd H
  refine Xs rfl rfl rfl (Ke.c hs g1_0 a2) (fun b4 w hpost=>?_)
  obtain ⟨rfl,hs⟩:=hpost
  have hs:=hs.sink 1
  refine Zd (bf _ _ (fun h _=>absurd h (by decide))<|Kn sh [] hs (by kernel_rfl)<|Fp 15 sh rfl (fun w=>Za7 rfl rfl)<|Fp 16 sh rfl (fun w=>Ve rfl rfl)<|FE sh (bg _ _ _ sbn (bh (decide (ar<0)) _ H hs)))
  rw [if_neg aw] at H
  refine Fn 4 sh rfl<|Fn 5 sh rfl<|Fn 6 sh rfl<|Fn 7 sh rfl<|Fn 8 sh rfl<|Fn 9 sh rfl<|Fn 10 sh rfl<|Fn 11 sh rfl<|Fn 12 sh rfl<|Fn 13 sh rfl<|Fn 14 sh rfl<|Fn 15 sh rfl<|Fp 16 sh rfl (fun w=>Qr rfl rfl)<|FE sh (bg _ _ _ sbn (bh false _ H hs))
 rw [if_neg a4] at H
 refine Y5 (bk _ _ ?_)
 obtain rfl:=Z4 H
 exact Zj6 rfl ⟨_,_,rfl,Le.rfl' _,hs,al⟩

def Z2.l1:Nat→Int→Int→Int→List Int→Int→Option (List Int)
  | 0,_,_,_,_,_=>none
  | ae+1,x1,x2,x3,ab,aa=>if aa<x3 then (if (0:Int)≤i64.wrap (x2+aa)∧i64.wrap (x2+aa)<(ab.length:Int) then (if (0:Int)≤i64.wrap (x1+aa)∧i64.wrap (x1+aa)<(ab.length:Int) then (if (0:Int)≤i64.wrap (x2+aa)∧i64.wrap (x2+aa)<((ab.set (i64.wrap (x1+aa)).toNat (rd ab (i64.wrap (x2+aa)))).length:Int) then ((Z2.l1 ae x1 x2 x3) ((ab.set (i64.wrap (x1+aa)).toNat (rd ab (i64.wrap (x2+aa)))).set (i64.wrap (x2+aa)).toNat (rd ab (i64.wrap (x1+aa)))) (i64.wrap (aa+1))) else none) else none) else none) else (some ab)
def Z2.f (x1 x2 x3:Int) (y0:List Int) (y1_0:Option Tbs):Option (List Int):=Z2.l1 K0 x1 x2 x3 y0 0
theorem Z2.c {wr0 wd0:Value} {d0:List Value} {wp0 wq0:List Int} {wm0:Nat} {y0:List Int} {pb1:Nat} {w1_0:Value} {y1_0:Option Tbs} (hs:St w0 ρ ((.row wr0 21 ((Rep.int .i32).sz) wm0 d0)::(.box pb1 29 ([w1_0]))::Γ) w) {x1 x2 x3:Int} (g0:Hl .i32 ρ wr0 d0 wd0 wp0 wq0 y0) (g1_0:Xw H4 ρ w1_0 y1_0) {r:List Int} (H:Z2.f x1 x2 x3 y0 y1_0=some r):Zq Tryz.prog 189 [wd0,.int .i64 x1,.int .i64 x2,.int .i64 x3,.func (.func 166) #[] #[.pointer (some ⟨pb1,0,none⟩)]] w (fun v w'=>∃ (ρ':Hp) (ds0:List Value),v=.tuple #[]∧Le ρ ρ'∧St w0 ρ' ((.row wr0 21 ((Rep.int .i32).sz) wm0 ds0)::(.box pb1 29 ([w1_0]))::Γ) w'∧Hl .i32 ρ' wr0 ds0 wd0 wp0 wq0 r):=by
 rw [Z2.f] at H
 refine Et Tryz.func189 Tryz.ntmps189 rfl<|Wr fun a5 aq=>As rfl<|Ox aq<|Zl fun a6 ar a7=>Xb (σ:=Nat×List Int×Int×List Value) (fun (ae,ab,aa,ad)=>[(0,wd0),(1,.int .i64 x1),(2,.int .i64 x2),(3,.int .i64 x3),(10,.int .i64 aa)]) (fun (ae,ab,aa,ad) w=>Z2.l1 ae x1 x2 x3 ab aa=some r∧St w0 ρ ((.row wr0 21 ((Rep.int .i32).sz) wm0 ad)::(.box pb1 29 ([w1_0]))::Γ) w∧Hl .i32 ρ wr0 ad wd0 wp0 wq0 ab) (fun s=>s.1) (K0,y0,0,d0) sbn (Ai H (Ai hs g0)) ?_
 rintro ⟨ae,ab,aa,ad⟩ w a8 ⟨H,hs,ac⟩ ag
 show W _ _ _ _ _ _ [(0,wd0),(1,.int .i64 x1),(2,.int .i64 x2),(3,.int .i64 x3),(10,.int .i64 aa)] w
 cases ae with
 | zero=>rw [Z2.l1] at H;cases H
 | succ ae=>
 rw [Z2.l1] at H
 refine Zi fun a9 au=>Wr fun ba av=>Mv rfl<|Mv rfl<|Ols rfl<|Ox av<|Xa rfl (fun aj=>?_) (fun aj=>?_)
 rw [if_pos aj] at H
 refine Wx au<|Zi fun bb aw=>Zl fun bc bd be=>Qt 24 [0,0,0,6,0,0,0,96,0,0,0,1536,2304,4096,0,0,0,98304,147456,262144,540431,1589007,4194303,8388607] [1048574,1048565,1048563,1048561,4194287,4194143,4194111,4194079,1044223,1046015,1045503,1040895,1032447,1032447,3915775,4030463,3997695,3702783,3162111,16383,240,0,0,0] [0,0,0,6,0,0,0,96,0,0,0,1536,3840,7936,0,0,0,98304,245760,507904,1048335,2096911,4194303,8388607] [21,22,23] (fun w=>St w0 ρ ((.row wr0 21 ((Rep.int .i32).sz) wm0 ad)::(.box pb1 29 ([w1_0]))::Γ) w) Vr (by kernel_rfl) (fun sh=>?_)
 have hs:=hs.drew
 refine Fm 0 sh rfl<|Fm 1 sh rfl<|Fm 2 sh rfl<|Fp 3 sh rfl (fun w=>H8 rfl rfl)<|Fm 4 sh rfl<|Fm 5 sh rfl<|Fm 6 sh rfl<|Fp 7 sh rfl (fun w=>H8 rfl rfl)<|Fm 8 sh rfl<|Fm 9 sh rfl<|Fm 10 sh rfl<|Fp 11 sh rfl (fun w=>H8 rfl rfl) ?_
 obtain ⟨ah,H⟩:=gd H
 obtain ⟨bf,ak,ax⟩:=ac.ix Kk ah.1 ah.2
 refine Fp 12 sh rfl (fun w=>ax rfl rfl)<|Fy 13 sh rfl hs (fun w hs=>Hz (j:=0) Xn hs rfl ak ac ah.1 ah.2 rfl)<|Fm 14 sh rfl<|Fm 15 sh rfl<|Fm 16 sh rfl<|Fp 17 sh rfl (fun w=>H8 rfl rfl) ?_
 obtain ⟨af,H⟩:=gd H
 obtain ⟨bg,al,ay⟩:=ac.ix Kk af.1 af.2
 refine Fp 18 sh rfl (fun w=>ay rfl rfl)<|Fy 19 sh rfl hs (fun w hs=>Hz (j:=0) Xn hs rfl al ac af.1 af.2 rfl) ?_
 obtain ⟨bh,am,az⟩:=ac.ix Kk af.1 af.2
 refine Fp 20 sh rfl (fun w=>az rfl rfl)<|F1 21 sh rfl (fun bi a0=>Zcp (j:=0) Zg3 hs rfl am ac af.1 af.2 rfl rfl (fun a1 w ap hs=>Zd (a0 _ _ (fun h _=>absurd h (by decide))<|Kn sh [23] hs (by kernel_rfl) ?_)))
 obtain ⟨ai,H⟩:=gd H
 obtain ⟨bj,an,a2⟩:=ap.ix Kk ai.1 ai.2
 refine Fp 22 sh rfl (fun w=>a2 rfl rfl)<|F1 23 sh rfl (fun bk a3=>Zcp (j:=0) Zg3 hs rfl an ap ai.1 ai.2 rfl rfl (fun ao w a4 hs=>Zd (a3 _ _ (fun h _=>absurd h (by decide))<|FE sh (aw _ _<|W.weak [(0,_),(1,_),(2,_),(3,_),(10,_)] sbn ?_))))
 refine Zc<|Mv rfl<|Oad rfl<|As rfl<|Zd (ag (ae,((ab.set (i64.wrap (x1+aa)).toNat (rd ab (i64.wrap (x2+aa)))).set (i64.wrap (x2+aa)).toNat (rd ab (i64.wrap (x1+aa)))),(i64.wrap (aa+1)),ao) _ _ sbn (Ai H (Ai hs a4)) (Nat.lt_succ_self _))
 rw [if_neg aj] at H
 refine Y5 (ar _ _ ?_)
 obtain rfl:=Z4 H
 exact Zj6 rfl ⟨_,_,rfl,Le.rfl' _,hs,ac⟩

def Yf.l1:Nat→Option Tbs→Int→List Int→Int→Int→Option (List Int)
  | 0,_,_,_,_,_=>none
  | af+1,y1_0,x2,ac,aa,ab=>if aa≠ab then (if ab<aa then ((Z2.f (i64.wrap (x2-aa)) x2 ab ac y1_0).bind fun aj=>((Yf.l1 af y1_0 x2) aj (i64.wrap (aa-ab)) ab)) else ((Z2.f (i64.wrap (x2-aa)) (i64.wrap ((i64.wrap (x2+ab))-aa)) aa ac y1_0).bind fun ak=>((Yf.l1 af y1_0 x2) ak aa (i64.wrap (ab-aa))))) else ((Z2.f (i64.wrap (x2-aa)) x2 aa ac y1_0).bind fun ax=>(some ax))
def Yf.f (x1 x2 x3:Int) (y0:List Int) (y1_0:Option Tbs):Option (List Int):=Yf.l1 K0 y1_0 x2 y0 (i64.wrap (x2-x1)) (i64.wrap (x3-x2))
theorem Yf.c {wr0 wd0:Value} {d0:List Value} {wp0 wq0:List Int} {wm0:Nat} {y0:List Int} {pb1:Nat} {w1_0:Value} {y1_0:Option Tbs} (hs:St w0 ρ ((.row wr0 21 ((Rep.int .i32).sz) wm0 d0)::(.box pb1 29 ([w1_0]))::Γ) w) {x1 x2 x3:Int} (g0:Hl .i32 ρ wr0 d0 wd0 wp0 wq0 y0) (g1_0:Xw H4 ρ w1_0 y1_0) {r:List Int} (H:Yf.f x1 x2 x3 y0 y1_0=some r):Zq Tryz.prog 188 [wd0,.int .i64 x1,.int .i64 x2,.int .i64 x3,.func (.func 166) #[] #[.pointer (some ⟨pb1,0,none⟩)]] w (fun v w'=>∃ (ρ':Hp) (ds0:List Value),v=.tuple #[]∧Le ρ ρ'∧St w0 ρ' ((.row wr0 21 ((Rep.int .i32).sz) wm0 ds0)::(.box pb1 29 ([w1_0]))::Γ) w'∧Hl .i32 ρ' wr0 ds0 wd0 wp0 wq0 r):=by
 rw [Yf.f] at H
 refine Et Tryz.func188 Tryz.ntmps188 rfl<|Wr fun bd ay=>Mv rfl<|Mv rfl<|Osu rfl<|As rfl<|Ox ay<|Wr fun be az=>Mv rfl<|Mv rfl<|Osu rfl<|As rfl ?_
 refine Ox az<|Zi fun bf a0=>Zl fun bg a1 bh=>Xb (σ:=Nat×List Int×Int×Int×List Value×Hp) (fun (af,ac,aa,ab,ad,ah)=>[(0,wd0),(2,.int .i64 x2),(4,.func (.func 166) #[] #[.pointer (some ⟨pb1,0,none⟩)]),(10,.int .i64 aa),(11,.int .i64 ab)]) (fun (af,ac,aa,ab,ad,ah) w=>Yf.l1 af y1_0 x2 ac aa ab=some r∧Le ρ ah∧St w0 ah ((.row wr0 21 ((Rep.int .i32).sz) wm0 ad)::(.box pb1 29 ([w1_0]))::Γ) w∧Hl .i32 ah wr0 ad wd0 wp0 wq0 ac) (fun s=>s.1) (K0,y0,(i64.wrap (x2-x1)),(i64.wrap (x3-x2)),d0,ρ) sbn (Ai H (Ai (Le.rfl' _) (Ai hs g0))) ?_
 rintro ⟨af,ac,aa,ab,ad,ah⟩ w bi ⟨H,ag,hs,ae⟩ ai
 show W _ _ _ _ _ _ [(0,wd0),(2,.int .i64 x2),(4,.func (.func 166) #[] #[.pointer (some ⟨pb1,0,none⟩)]),(10,.int .i64 aa),(11,.int .i64 ab)] w
 cases af with
 | zero=>rw [Yf.l1] at H;cases H
 | succ af=>
 rw [Yf.l1] at H
 refine Zi fun bj a2=>Wr fun bk a3=>Mv rfl<|Mv rfl<|One rfl<|Ox a3<|Xa rfl (fun al=>?_) (fun al=>?_)
 rw [if_pos al] at H
 refine Wx a2<|Zl fun bl bm bn=>Wr fun bo a4=>Mv rfl<|Mv rfl<|Ogt rfl<|Ox a4<|Xa rfl (fun am=>?_) (fun am=>?_)
 rw [if_pos am] at H
 refine Wr fun bp a5=>Mv rfl<|Mv rfl<|Mv rfl<|Osu rfl<|Mv rfl<|Mv rfl<|Mv rfl ?_
 have hs:=hs.front 1 rfl
 have hs:=hs.front 1 rfl
 obtain ⟨aj,an,H⟩:=bnd H
 refine Oc rfl (Z2.c hs ae (g1_0.mono ag) an) (fun bq w hpost=>?_)
 obtain ⟨a6,ao,rfl,ap,hs,a7⟩:=hpost
 have hs:=hs.sink 1
 have hs:=hs.sink 1
 refine Ox a5<|W.weak [(0,_),(2,_),(4,_),(10,_),(11,_)] sbn ?_
 refine Zc<|Mv rfl<|Mv rfl<|Osu rfl<|As rfl<|Zd (ai (af,aj,(i64.wrap (aa-ab)),ab,ao,a6) _ _ sbn (Ai H (Ai (ag.trans ap) (Ai hs a7))) (Nat.lt_succ_self _))
 rw [if_neg am] at H
 refine Wr fun br a8=>Mv rfl<|Mv rfl<|Mv rfl<|Osu rfl<|Mv rfl<|Mv rfl<|Oad rfl<|Mv rfl<|Osu rfl<|Mv rfl<|Mv rfl ?_
 have hs:=hs.front 1 rfl
 have hs:=hs.front 1 rfl
 obtain ⟨ak,aq,H⟩:=bnd H
 refine Oc rfl (Z2.c hs ae (g1_0.mono ag) aq) (fun bs w hpost=>?_)
 obtain ⟨a9,ar,rfl,au,hs,ba⟩:=hpost
 have hs:=hs.sink 1
 have hs:=hs.sink 1
 refine Ox a8<|W.weak [(0,_),(2,_),(4,_),(10,_),(11,_)] sbn ?_
 refine Zc<|Mv rfl<|Mv rfl<|Osu rfl<|As rfl<|Zd (ai (af,ak,aa,(i64.wrap (ab-aa)),ar,a9) _ _ sbn (Ai H (Ai (ag.trans au) (Ai hs ba))) (Nat.lt_succ_self _))
 rw [if_neg al] at H
 refine Y5 (a1 _ _ (a0 _ _<|Zc<|Mv rfl<|Mv rfl<|Mv rfl<|Osu rfl<|Mv rfl<|Mv rfl<|Mv rfl ?_))
 have hs:=hs.front 1 rfl
 have hs:=hs.front 1 rfl
 obtain ⟨ax,av,H⟩:=bnd H
 refine Oc rfl (Z2.c hs ae (g1_0.mono ag) av) (fun bt w hpost=>?_)
 obtain ⟨bu,bb,rfl,aw,hs,bc⟩:=hpost
 have hs:=hs.sink 1
 have hs:=hs.sink 1
 refine Zd ?_
 obtain rfl:=Z4 H
 exact Zj6 rfl ⟨_,_,rfl,(ag.trans aw),hs,bc⟩

def Za.l1:Nat→Int→List Int→Int→Option (List Int)
  | 0,_,_,_=>none
  | a1+1,ah,ae,ab=>if ab<(i64.wrap (ah-1)) then (if (0:Int)≤i64.wrap (ab+1)∧i64.wrap (ab+1)<(ae.length:Int) then (if (0:Int)≤ab∧ab<(ae.length:Int) then (if (0:Int)≤i64.wrap (ab+1)∧i64.wrap (ab+1)<((ae.set ab.toNat (rd ae (i64.wrap (ab+1)))).length:Int) then ((Za.l1 a1 ah) ((ae.set ab.toNat (rd ae (i64.wrap (ab+1)))).set (i64.wrap (ab+1)).toNat (rd ae ab)) (i64.wrap (ab+1))) else none) else none) else none) else (some ae)
def Za.l2:Nat→List Int→Option Tbs→Int→Int→Int→Option (List Int)
  | 0,_,_,_,_,_=>none
  | a4+1,y0,y1_0,x1,ah,al=>if ah<al then (if (0:Int)≤i64.wrap ((u64.wrap (i64.wrap (ah+al))).fdiv (2^(min (1:Int).toNat u64.bits)))∧i64.wrap ((u64.wrap (i64.wrap (ah+al))).fdiv (2^(min (1:Int).toNat u64.bits)))<(y0.length:Int) then (if (0:Int)≤x1∧x1<(y0.length:Int) then ((Ke.f (rd y0 (i64.wrap ((u64.wrap (i64.wrap (ah+al))).fdiv (2^(min (1:Int).toNat u64.bits))))) (rd y0 x1) y1_0).bind fun gf=>(if gf<0 then ((Za.l2 a4 y0 y1_0 x1) (i64.wrap ((i64.wrap ((u64.wrap (i64.wrap (ah+al))).fdiv (2^(min (1:Int).toNat u64.bits))))+1)) al) else ((Za.l2 a4 y0 y1_0 x1) ah (i64.wrap ((u64.wrap (i64.wrap (ah+al))).fdiv (2^(min (1:Int).toNat u64.bits))))))) else none) else none) else (Za.l1 K0 ah y0 x1)
def Za.l3:Nat→Int→List Int→Int→Option (List Int)
  | 0,_,_,_=>none
  | a2+1,ad,af,ac=>if ad<ac then (if (0:Int)≤i64.wrap (ac-1)∧i64.wrap (ac-1)<(af.length:Int) then (if (0:Int)≤ac∧ac<(af.length:Int) then (if (0:Int)≤i64.wrap (ac-1)∧i64.wrap (ac-1)<((af.set ac.toNat (rd af (i64.wrap (ac-1)))).length:Int) then ((Za.l3 a2 ad) ((af.set ac.toNat (rd af (i64.wrap (ac-1)))).set (i64.wrap (ac-1)).toNat (rd af ac)) (i64.wrap (ac-1))) else none) else none) else none) else (some af)
def Za.l4:Nat→List Int→Option Tbs→Int→Int→Int→Option (List Int)
  | 0,_,_,_,_,_=>none
  | az+1,y0,y1_0,x2,ad,ai=>if ad<ai then (if (0:Int)≤x2∧x2<(y0.length:Int) then (if (0:Int)≤i64.wrap ((u64.wrap (i64.wrap (ad+ai))).fdiv (2^(min (1:Int).toNat u64.bits)))∧i64.wrap ((u64.wrap (i64.wrap (ad+ai))).fdiv (2^(min (1:Int).toNat u64.bits)))<(y0.length:Int) then ((Ke.f (rd y0 x2) (rd y0 (i64.wrap ((u64.wrap (i64.wrap (ad+ai))).fdiv (2^(min (1:Int).toNat u64.bits))))) y1_0).bind fun b6=>(if ¬ (b6<0) then ((Za.l4 az y0 y1_0 x2) (i64.wrap ((i64.wrap ((u64.wrap (i64.wrap (ad+ai))).fdiv (2^(min (1:Int).toNat u64.bits))))+1)) ai) else ((Za.l4 az y0 y1_0 x2) ad (i64.wrap ((u64.wrap (i64.wrap (ad+ai))).fdiv (2^(min (1:Int).toNat u64.bits))))))) else none) else none) else (Za.l3 K0 ad y0 x2)
def Za.j1 (rec:Int→Int→Int→List Int→Option Tbs→Option (List Int)) (y1_0:Option Tbs) (x1 x2 x3 aa:Int) (ak:List Int) (ar:Bool):Option (List Int):=if ar=true then ((rec (i64.wrap ((u64.wrap (i64.wrap (x1+x3))).fdiv (2^(min (1:Int).toNat u64.bits)))) (i64.wrap ((i64.wrap ((i64.wrap ((u64.wrap (i64.wrap (x1+x3))).fdiv (2^(min (1:Int).toNat u64.bits))))+x2))-aa)) x3 ak y1_0).bind fun b7=>(some b7)) else (some ak)
def Za.j2 (rec:Int→Int→Int→List Int→Option Tbs→Option (List Int)) (y1_0:Option Tbs) (x1 x2 x3 aa:Int) (ak:List Int):Option (List Int):=if (i64.wrap ((u64.wrap (i64.wrap (x1+x3))).fdiv (2^(min (1:Int).toNat u64.bits))))<(i64.wrap ((i64.wrap ((i64.wrap ((u64.wrap (i64.wrap (x1+x3))).fdiv (2^(min (1:Int).toNat u64.bits))))+x2))-aa)) then (Za.j1 rec y1_0 x1 x2 x3 aa ak (decide ((i64.wrap ((i64.wrap ((i64.wrap ((u64.wrap (i64.wrap (x1+x3))).fdiv (2^(min (1:Int).toNat u64.bits))))+x2))-aa))<x3))) else (Za.j1 rec y1_0 x1 x2 x3 aa ak false)
def Za.j3 (rec:Int→Int→Int→List Int→Option Tbs→Option (List Int)) (y1_0:Option Tbs) (x1 x2 x3 aa:Int) (aj:List Int) (au:Bool):Option (List Int):=if au=true then ((rec x1 aa (i64.wrap ((u64.wrap (i64.wrap (x1+x3))).fdiv (2^(min (1:Int).toNat u64.bits)))) aj y1_0).bind fun bp=>(Za.j2 rec y1_0 x1 x2 x3 aa bp)) else (Za.j2 rec y1_0 x1 x2 x3 aa aj)
def Za.j4 (rec:Int→Int→Int→List Int→Option Tbs→Option (List Int)) (y1_0:Option Tbs) (x1 x2 x3 aa:Int) (aj:List Int):Option (List Int):=if x1<aa then (Za.j3 rec y1_0 x1 x2 x3 aa aj (decide (aa<(i64.wrap ((u64.wrap (i64.wrap (x1+x3))).fdiv (2^(min (1:Int).toNat u64.bits))))))) else (Za.j3 rec y1_0 x1 x2 x3 aa aj false)
def Za.j5 (rec:Int→Int→Int→List Int→Option Tbs→Option (List Int)) (y0:List Int) (y1_0:Option Tbs) (x1 x2 x3 aa:Int) (av:Bool):Option (List Int):=if av=true then ((Yf.f aa x2 (i64.wrap ((i64.wrap ((i64.wrap ((u64.wrap (i64.wrap (x1+x3))).fdiv (2^(min (1:Int).toNat u64.bits))))+x2))-aa)) y0 y1_0).bind fun bq=>(Za.j4 rec y1_0 x1 x2 x3 aa bq)) else (Za.j4 rec y1_0 x1 x2 x3 aa y0)
def Za.l5:Nat→(Int→Int→Int→List Int→Option Tbs→Option (List Int))→List Int→Option Tbs→Int→Int→Int→Int→Int→Option (List Int)
  | 0,_,_,_,_,_,_,_,_=>none
  | a0+1,rec,y0,y1_0,x1,x2,x3,aa,ag=>if aa<ag then (if (0:Int)≤i64.wrap ((i64.wrap ((i64.wrap ((i64.wrap ((u64.wrap (i64.wrap (x1+x3))).fdiv (2^(min (1:Int).toNat u64.bits))))+x2))-1))-(i64.wrap ((u64.wrap (i64.wrap (aa+ag))).fdiv (2^(min (1:Int).toNat u64.bits)))))∧i64.wrap ((i64.wrap ((i64.wrap ((i64.wrap ((u64.wrap (i64.wrap (x1+x3))).fdiv (2^(min (1:Int).toNat u64.bits))))+x2))-1))-(i64.wrap ((u64.wrap (i64.wrap (aa+ag))).fdiv (2^(min (1:Int).toNat u64.bits)))))<(y0.length:Int) then (if (0:Int)≤i64.wrap ((u64.wrap (i64.wrap (aa+ag))).fdiv (2^(min (1:Int).toNat u64.bits)))∧i64.wrap ((u64.wrap (i64.wrap (aa+ag))).fdiv (2^(min (1:Int).toNat u64.bits)))<(y0.length:Int) then ((Ke.f (rd y0 (i64.wrap ((i64.wrap ((i64.wrap ((i64.wrap ((u64.wrap (i64.wrap (x1+x3))).fdiv (2^(min (1:Int).toNat u64.bits))))+x2))-1))-(i64.wrap ((u64.wrap (i64.wrap (aa+ag))).fdiv (2^(min (1:Int).toNat u64.bits))))))) (rd y0 (i64.wrap ((u64.wrap (i64.wrap (aa+ag))).fdiv (2^(min (1:Int).toNat u64.bits))))) y1_0).bind fun b8=>(if ¬ (b8<0) then ((Za.l5 a0 rec y0 y1_0 x1 x2 x3) (i64.wrap ((i64.wrap ((u64.wrap (i64.wrap (aa+ag))).fdiv (2^(min (1:Int).toNat u64.bits))))+1)) ag) else ((Za.l5 a0 rec y0 y1_0 x1 x2 x3) aa (i64.wrap ((u64.wrap (i64.wrap (aa+ag))).fdiv (2^(min (1:Int).toNat u64.bits))))))) else none) else none) else (if aa<x2 then (Za.j5 rec y0 y1_0 x1 x2 x3 aa (decide (x2<(i64.wrap ((i64.wrap ((i64.wrap ((u64.wrap (i64.wrap (x1+x3))).fdiv (2^(min (1:Int).toNat u64.bits))))+x2))-aa))))) else (Za.j5 rec y0 y1_0 x1 x2 x3 aa false))
def Za.j6 (rec:Int→Int→Int→List Int→Option Tbs→Option (List Int)) (y0:List Int) (y1_0:Option Tbs) (x1 x2 x3 aw ax:Int):Option (List Int):=Za.l5 K0 rec y0 y1_0 x1 x2 x3 aw ax
def Za.b (rec:Int→Int→Int→List Int→Option Tbs→Option (List Int)) (x1 x2 x3:Int) (y0:List Int) (y1_0:Option Tbs):Option (List Int):=if (i64.wrap (x2-x1))=1 then (Za.l2 K0 y0 y1_0 x1 x2 x3) else (if (i64.wrap (x3-x2))=1 then (Za.l4 K0 y0 y1_0 x2 x1 x2) else (if (i64.wrap ((u64.wrap (i64.wrap (x1+x3))).fdiv (2^(min (1:Int).toNat u64.bits))))<x2 then (Za.j6 rec y0 y1_0 x1 x2 x3 (i64.wrap ((i64.wrap ((i64.wrap ((u64.wrap (i64.wrap (x1+x3))).fdiv (2^(min (1:Int).toNat u64.bits))))+x2))-x3)) (i64.wrap ((u64.wrap (i64.wrap (x1+x3))).fdiv (2^(min (1:Int).toNat u64.bits))))) else (Za.j6 rec y0 y1_0 x1 x2 x3 x1 x2)))
def Za.f:Nat→Int→Int→Int→List Int→Option Tbs→Option (List Int)
  | 0,_,_,_,_,_=>none
  | k+1,x1,x2,x3,y0,y1_0=>Za.b (Za.f k) x1 x2 x3 y0 y1_0
def Za.Spec (rec:Int→Int→Int→List Int→Option Tbs→Option (List Int)):Prop:=∀ {w0 w:World} {ρ:Hp} {Γ:List Kd} {wr0 wd0:Value} {d0:List Value} {wp0 wq0:List Int} {wm0:Nat} {y0:List Int} {pb1:Nat} {w1_0:Value} {y1_0:Option Tbs} (hs:St w0 ρ ((.row wr0 21 ((Rep.int .i32).sz) wm0 d0)::(.box pb1 29 ([w1_0]))::Γ) w) {x1 x2 x3:Int} (g0:Hl .i32 ρ wr0 d0 wd0 wp0 wq0 y0) (g1_0:Xw H4 ρ w1_0 y1_0) {r:List Int},rec x1 x2 x3 y0 y1_0=some r→Zq Tryz.prog 186 [wd0,.int .i64 x1,.int .i64 x2,.int .i64 x3,.func (.func 166) #[] #[.pointer (some ⟨pb1,0,none⟩)]] w (fun v w'=>∃ (ρ':Hp) (ds0:List Value),v=.tuple #[]∧Le ρ ρ'∧St w0 ρ' ((.row wr0 21 ((Rep.int .i32).sz) wm0 ds0)::(.box pb1 29 ([w1_0]))::Γ) w'∧Hl .i32 ρ' wr0 ds0 wd0 wp0 wq0 r)
theorem Za.cb (rec:Int→Int→Int→List Int→Option Tbs→Option (List Int)) (hrec:Za.Spec rec) {w0 w:World} {ρ:Hp} {Γ:List Kd} {wr0 wd0:Value} {d0:List Value} {wp0 wq0:List Int} {wm0:Nat} {y0:List Int} {pb1:Nat} {w1_0:Value} {y1_0:Option Tbs} (hs:St w0 ρ ((.row wr0 21 ((Rep.int .i32).sz) wm0 d0)::(.box pb1 29 ([w1_0]))::Γ) w) {x1 x2 x3:Int} (g0:Hl .i32 ρ wr0 d0 wd0 wp0 wq0 y0) (g1_0:Xw H4 ρ w1_0 y1_0) {r:List Int} (H:Za.b rec x1 x2 x3 y0 y1_0=some r):Zq Tryz.prog 186 [wd0,.int .i64 x1,.int .i64 x2,.int .i64 x3,.func (.func 166) #[] #[.pointer (some ⟨pb1,0,none⟩)]] w (fun v w'=>∃ (ρ':Hp) (ds0:List Value),v=.tuple #[]∧Le ρ ρ'∧St w0 ρ' ((.row wr0 21 ((Rep.int .i32).sz) wm0 ds0)::(.box pb1 29 ([w1_0]))::Γ) w'∧Hl .i32 ρ' wr0 ds0 wd0 wp0 wq0 r):=by
 rw [Za.b] at H
 refine Et Tryz.func186 Tryz.ntmps186 rfl<|Zi fun ka gj=>Wr fun kb gk=>Mv rfl<|Mv rfl<|Osu rfl<|Oeq rfl<|Ox gk<|Xa rfl (fun dq=>?_) (fun dq=>?_)
 ·rw [if_pos dq] at H
  refine Wr fun kc gl=>Mv rfl<|As rfl<|Ox gl<|Wr fun kd gm=>Mv rfl<|As rfl<|Ox gm<|Zi fun ke gn=>Zl fun kf go kg=>Xb (σ:=Nat×Int×Int) (fun (a4,ah,al)=>[(0,wd0),(1,.int .i64 x1),(4,.func (.func 166) #[] #[.pointer (some ⟨pb1,0,none⟩)]),(10,.int .i64 ah),(11,.int .i64 al)]) (fun (a4,ah,al) w=>Za.l2 a4 y0 y1_0 x1 ah al=some r∧St w0 ρ ((.row wr0 21 ((Rep.int .i32).sz) wm0 d0)::(.box pb1 29 ([w1_0]))::Γ) w) (fun s=>s.1) (K0,x2,x3) sbn (Ai H hs) ?_
  rintro ⟨a4,ah,al⟩ w kh ⟨H,hs⟩ be
  show W _ _ _ _ _ _ [(0,wd0),(1,.int .i64 x1),(4,.func (.func 166) #[] #[.pointer (some ⟨pb1,0,none⟩)]),(10,.int .i64 ah),(11,.int .i64 al)] w
  cases a4 with
  | zero=>rw [Za.l2] at H;cases H
  | succ a4=>
  rw [Za.l2] at H
  refine Zi fun ki gp=>Wr fun kj gq=>Mv rfl<|Mv rfl<|Ols rfl<|Ox gq<|Xa rfl (fun dr=>?_) (fun dr=>?_)
  rw [if_pos dr] at H
  refine Wx gp<|Zl fun kk kl km=>Wr fun kn gr=>Mv rfl<|Mv rfl<|Oad rfl<|O_y rfl (Uc un3 Zh9 rfl)<|O_y rfl (Zr9 rfl rfl (by decide))<|O_y rfl (Uc Zh9 un3 rfl)<|As rfl<|Ox gr<|W.weak [(0,_),(1,_),(4,_),(10,_),(11,_),(12,_)] sbn ?_
  refine Zi fun ko gs=>Qt 11 [0,0,0,6,8,0,0,96,128,273,512] [1534,2037,2035,2017,1505,1887,1855,1567,1055,0,0] [0,0,0,6,14,0,0,96,224,511,1023] [9,10] (fun w=>St w0 ρ ((.row wr0 21 ((Rep.int .i32).sz) wm0 d0)::(.box pb1 29 ([w1_0]))::Γ) w) Vr (by kernel_rfl) (fun sh=>?_)
  have hs:=hs.drew
  refine Fm 0 sh rfl<|Fm 1 sh rfl<|Fm 2 sh rfl ?_
  obtain ⟨dn,H⟩:=gd H
  obtain ⟨kp,ds,gt⟩:=g0.ix Kk dn.1 dn.2
  refine Fp 3 sh rfl (fun w=>gt rfl rfl)<|Fy 4 sh rfl hs (fun w hs=>Hz (j:=0) Xn hs rfl ds g0 dn.1 dn.2 rfl)<|Fm 5 sh rfl<|Fm 6 sh rfl ?_
  obtain ⟨dp,H⟩:=gd H
  obtain ⟨kq,dt,gu⟩:=g0.ix Kk dp.1 dp.2
  refine Fp 7 sh rfl (fun w=>gu rfl rfl)<|Fy 8 sh rfl hs (fun w hs=>Hz (j:=0) Xn hs rfl dt g0 dp.1 dp.2 rfl)<|F1 9 sh rfl (fun kr gv=>?_)
  have hs:=hs.front 1 rfl
  obtain ⟨gf,du,H⟩:=bnd H
  refine Xs rfl rfl rfl (Ke.c hs g1_0 du) (fun ks w hpost=>?_)
  obtain ⟨rfl,hs⟩:=hpost
  have hs:=hs.sink 1
  refine Zd (gv _ _ (fun h _=>absurd h (by decide))<|Kn sh [] hs (by kernel_rfl)<|Fp 10 sh rfl (fun w=>Za7 rfl rfl)<|FE sh (gs _ _<|W.weak [(0,_),(1,_),(4,_),(10,_),(11,_),(12,_),(50,_)] sbn ?_))
  refine Xa rfl (fun dv=>?_) (fun dv=>?_)
  rw [if_pos dv] at H
  refine Zc<|Mv rfl<|Oad rfl<|As rfl<|Zd (be (a4,(i64.wrap ((i64.wrap ((u64.wrap (i64.wrap (ah+al))).fdiv (2^(min (1:Int).toNat u64.bits))))+1)),al) _ _ sbn (Ai H hs) (Nat.lt_succ_self _))
  rw [if_neg dv] at H
  refine Zc<|Mv rfl<|As rfl<|Zd (be (a4,ah,(i64.wrap ((u64.wrap (i64.wrap (ah+al))).fdiv (2^(min (1:Int).toNat u64.bits))))) _ _ sbn (Ai H hs) (Nat.lt_succ_self _))
  rw [if_neg dr] at H
  refine Y5 (go _ _ (gn _ _<|Zi fun kt gw=>Wr fun ku gx=>Mv rfl<|As rfl<|Ox gx<|Zl fun kv gy gz=>Xb (σ:=Nat×List Int×Int×List Value) (fun (a1,ae,ab,ao)=>[(0,wd0),(10,.int .i64 ah),(13,.int .i64 ab)]) (fun (a1,ae,ab,ao) w=>Za.l1 a1 ah ae ab=some r∧St w0 ρ ((.row wr0 21 ((Rep.int .i32).sz) wm0 ao)::(.box pb1 29 ([w1_0]))::Γ) w∧Hl .i32 ρ wr0 ao wd0 wp0 wq0 ae) (fun s=>s.1) (K0,y0,x1,d0) (T3 rfl) (Ai H (Ai hs g0)) ?_))
  rintro ⟨a1,ae,ab,ao⟩ w ha ⟨H,hs,am⟩ bf
  show W _ _ _ _ _ _ [(0,wd0),(10,.int .i64 ah),(13,.int .i64 ab)] w
  cases a1 with
  | zero=>rw [Za.l1] at H;cases H
  | succ a1=>
  rw [Za.l1] at H
  refine Zi fun hb dw=>Wr fun hc dx=>Mv rfl<|Mv rfl<|Osu rfl<|Ols rfl<|Ox dx<|Xa rfl (fun br=>?_) (fun br=>?_)
  rw [if_pos br] at H
  refine Wx dw<|Zi fun hd dy=>Zl fun he hf hg=>Qt 18 [0,0,0,0,8,0,0,64,160,256,0,0,3072,4096,9187,25571,65535,131071] [16382,16381,65531,65511,65511,16095,16191,15935,15391,15391,60415,59391,50175,1023,28,0,0,0] [0,0,0,0,8,0,0,64,224,480,0,0,3072,7168,16355,32739,65535,131071] [15,16,17] (fun w=>St w0 ρ ((.row wr0 21 ((Rep.int .i32).sz) wm0 ao)::(.box pb1 29 ([w1_0]))::Γ) w) Vr (by kernel_rfl) (fun sh=>?_)
  have hs:=hs.drew
  refine Fm 0 sh rfl<|Fm 1 sh rfl<|Fm 2 sh rfl<|Fm 3 sh rfl<|Fp 4 sh rfl (fun w=>H8 rfl rfl)<|Fm 5 sh rfl<|Fm 6 sh rfl<|Fp 7 sh rfl (fun w=>H8 rfl rfl) ?_
  obtain ⟨bg,H⟩:=gd H
  obtain ⟨hh,b9,dz⟩:=am.ix Kk bg.1 bg.2
  refine Fp 8 sh rfl (fun w=>dz rfl rfl)<|Fy 9 sh rfl hs (fun w hs=>Hz (j:=0) Xn hs rfl b9 am bg.1 bg.2 rfl)<|Fm 10 sh rfl<|Fm 11 sh rfl ?_
  obtain ⟨a8,H⟩:=gd H
  obtain ⟨hi,ca,ea⟩:=am.ix Kk a8.1 a8.2
  refine Fp 12 sh rfl (fun w=>ea rfl rfl)<|Fy 13 sh rfl hs (fun w hs=>Hz (j:=0) Xn hs rfl ca am a8.1 a8.2 rfl) ?_
  obtain ⟨hj,cc,eb⟩:=am.ix Kk a8.1 a8.2
  refine Fp 14 sh rfl (fun w=>eb rfl rfl)<|F1 15 sh rfl (fun hk ec=>Zcp (j:=0) Zg3 hs rfl cc am a8.1 a8.2 rfl rfl (fun gg w cd hs=>Zd (ec _ _ (fun h _=>absurd h (by decide))<|Kn sh [17] hs (by kernel_rfl) ?_)))
  obtain ⟨bh,H⟩:=gd H
  obtain ⟨hl,ce,ed⟩:=cd.ix Kk bh.1 bh.2
  refine Fp 16 sh rfl (fun w=>ed rfl rfl)<|F1 17 sh rfl (fun hm ee=>Zcp (j:=0) Zg3 hs rfl ce cd bh.1 bh.2 rfl rfl (fun cf w ef hs=>Zd (ee _ _ (fun h _=>absurd h (by decide))<|FE sh (dy _ _<|W.weak [(0,_),(10,_),(13,_)] (T3 rfl)<|Zc<|Mv rfl<|Oad rfl<|As rfl<|Zd (bf (a1,((ae.set ab.toNat (rd ae (i64.wrap (ab+1)))).set (i64.wrap (ab+1)).toNat (rd ae ab)),(i64.wrap (ab+1)),cf) _ _ (T3 rfl) (Ai H (Ai hs ef)) (Nat.lt_succ_self _))))))
  rw [if_neg br] at H
  refine Y5 (gy _ _ (gw _ _<|Zm ?_))
  obtain rfl:=Z4 H
  exact Zj6 rfl ⟨_,_,rfl,Le.rfl' _,hs,am⟩
 rw [if_neg dq] at H
 refine Wx gj<|Zi fun hn eg=>Wr fun ho eh=>Mv rfl<|Mv rfl<|Osu rfl<|Oeq rfl<|Ox eh<|Xa rfl (fun bs=>?_) (fun bs=>?_)
 ·rw [if_pos bs] at H
  refine Wr fun hp ei=>Mv rfl<|As rfl<|Ox ei<|W.weak [(0,_),(2,_),(4,_),(14,_)] (T4 rfl)<|Wr fun hq ej=>Mv rfl<|As rfl<|Ox ej<|Zi fun hr ek=>Zl fun ht el hu=>Xb (σ:=Nat×Int×Int) (fun (az,ad,ai)=>[(0,wd0),(2,.int .i64 x2),(4,.func (.func 166) #[] #[.pointer (some ⟨pb1,0,none⟩)]),(14,.int .i64 ad),(15,.int .i64 ai)]) (fun (az,ad,ai) w=>Za.l4 az y0 y1_0 x2 ad ai=some r∧St w0 ρ ((.row wr0 21 ((Rep.int .i32).sz) wm0 d0)::(.box pb1 29 ([w1_0]))::Γ) w) (fun s=>s.1) (K0,x1,x2) sbn (Ai H hs) ?_
  rintro ⟨az,ad,ai⟩ w hv ⟨H,hs⟩ bc
  show W _ _ _ _ _ _ [(0,wd0),(2,.int .i64 x2),(4,.func (.func 166) #[] #[.pointer (some ⟨pb1,0,none⟩)]),(14,.int .i64 ad),(15,.int .i64 ai)] w
  cases az with
  | zero=>rw [Za.l4] at H;cases H
  | succ az=>
  rw [Za.l4] at H
  refine Zi fun hw em=>Wr fun hx en=>Mv rfl<|Mv rfl<|Ols rfl<|Ox en<|Xa rfl (fun bt=>?_) (fun bt=>?_)
  rw [if_pos bt] at H
  refine Wx em<|Zl fun hy hz ia=>Wr fun ib eo=>Mv rfl<|Mv rfl<|Oad rfl<|O_y rfl (Uc un3 Zh9 rfl)<|O_y rfl (Zr9 rfl rfl (by decide))<|O_y rfl (Uc Zh9 un3 rfl)<|As rfl<|Ox eo<|W.weak [(0,_),(2,_),(4,_),(14,_),(15,_),(16,_)] sbn ?_
  refine Zi fun ic ep=>Qt 12 [0,0,0,6,8,0,0,96,128,273,512,1024] [3582,4085,4083,4065,3553,3935,3903,3615,3103,2048,0,0] [0,0,0,6,14,0,0,96,224,511,1023,2047] [9,10,11] (fun w=>St w0 ρ ((.row wr0 21 ((Rep.int .i32).sz) wm0 d0)::(.box pb1 29 ([w1_0]))::Γ) w) Vr (by kernel_rfl) (fun sh=>?_)
  have hs:=hs.drew
  refine Fm 0 sh rfl<|Fm 1 sh rfl<|Fm 2 sh rfl ?_
  obtain ⟨bi,H⟩:=gd H
  obtain ⟨id,cg,eq⟩:=g0.ix Kk bi.1 bi.2
  refine Fp 3 sh rfl (fun w=>eq rfl rfl)<|Fy 4 sh rfl hs (fun w hs=>Hz (j:=0) Xn hs rfl cg g0 bi.1 bi.2 rfl)<|Fm 5 sh rfl<|Fm 6 sh rfl ?_
  obtain ⟨bj,H⟩:=gd H
  obtain ⟨ie,ch,er⟩:=g0.ix Kk bj.1 bj.2
  refine Fp 7 sh rfl (fun w=>er rfl rfl)<|Fy 8 sh rfl hs (fun w hs=>Hz (j:=0) Xn hs rfl ch g0 bj.1 bj.2 rfl)<|F1 9 sh rfl (fun ig es=>?_)
  have hs:=hs.front 1 rfl
  obtain ⟨b6,ci,H⟩:=bnd H
  refine Xs rfl rfl rfl (Ke.c hs g1_0 ci) (fun ii w hpost=>?_)
  obtain ⟨rfl,hs⟩:=hpost
  have hs:=hs.sink 1
  refine Zd (es _ _ (fun h _=>absurd h (by decide))<|Kn sh [] hs (by kernel_rfl)<|Fp 10 sh rfl (fun w=>Za7 rfl rfl)<|Fp 11 sh rfl (fun w=>Znn rfl)<|FE sh (ep _ _<|W.weak [(0,_),(2,_),(4,_),(14,_),(15,_),(16,_),(103,_)] sbn ?_))
  refine Xa rfl (fun bu=>?_) (fun bu=>?_)
  rw [if_pos bu] at H
  refine Zc<|Mv rfl<|Oad rfl<|As rfl<|Zd (bc (az,(i64.wrap ((i64.wrap ((u64.wrap (i64.wrap (ad+ai))).fdiv (2^(min (1:Int).toNat u64.bits))))+1)),ai) _ _ sbn (Ai H hs) (Nat.lt_succ_self _))
  rw [if_neg bu] at H
  refine Zc<|Mv rfl<|As rfl<|Zd (bc (az,ad,(i64.wrap ((u64.wrap (i64.wrap (ad+ai))).fdiv (2^(min (1:Int).toNat u64.bits))))) _ _ sbn (Ai H hs) (Nat.lt_succ_self _))
  rw [if_neg bt] at H
  refine Y5 (el _ _ (ek _ _<|Zi fun ij et=>Wr fun ik eu=>Mv rfl<|As rfl<|Ox eu<|Zl fun il ev im=>Xb (σ:=Nat×List Int×Int×List Value) (fun (a2,af,ac,ap)=>[(0,wd0),(14,.int .i64 ad),(17,.int .i64 ac)]) (fun (a2,af,ac,ap) w=>Za.l3 a2 ad af ac=some r∧St w0 ρ ((.row wr0 21 ((Rep.int .i32).sz) wm0 ap)::(.box pb1 29 ([w1_0]))::Γ) w∧Hl .i32 ρ wr0 ap wd0 wp0 wq0 af) (fun s=>s.1) (K0,y0,x2,d0) (T3 rfl) (Ai H (Ai hs g0)) ?_))
  rintro ⟨a2,af,ac,ap⟩ w io ⟨H,hs,an⟩ bk
  show W _ _ _ _ _ _ [(0,wd0),(14,.int .i64 ad),(17,.int .i64 ac)] w
  cases a2 with
  | zero=>rw [Za.l3] at H;cases H
  | succ a2=>
  rw [Za.l3] at H
  refine Zi fun ip ew=>Wr fun iq ex=>Mv rfl<|Mv rfl<|Ogt rfl<|Ox ex<|Xa rfl (fun bv=>?_) (fun bv=>?_)
  rw [if_pos bv] at H
  refine Wx ew<|Zi fun ir ey=>Zl fun it iu iv=>Qt 18 [0,0,0,0,8,0,0,64,160,256,0,0,3072,4096,9187,25571,65535,131071] [16382,16381,65531,65511,65511,16095,16191,15935,15391,15391,60415,59391,50175,1023,28,0,0,0] [0,0,0,0,8,0,0,64,224,480,0,0,3072,7168,16355,32739,65535,131071] [15,16,17] (fun w=>St w0 ρ ((.row wr0 21 ((Rep.int .i32).sz) wm0 ap)::(.box pb1 29 ([w1_0]))::Γ) w) Vr (by kernel_rfl) (fun sh=>?_)
  have hs:=hs.drew
  refine Fm 0 sh rfl<|Fm 1 sh rfl<|Fm 2 sh rfl<|Fm 3 sh rfl<|Fp 4 sh rfl (fun w=>Zc8 rfl rfl)<|Fm 5 sh rfl<|Fm 6 sh rfl<|Fp 7 sh rfl (fun w=>Zc8 rfl rfl) ?_
  obtain ⟨bl,H⟩:=gd H
  obtain ⟨iw,cj,ez⟩:=an.ix Kk bl.1 bl.2
  refine Fp 8 sh rfl (fun w=>ez rfl rfl)<|Fy 9 sh rfl hs (fun w hs=>Hz (j:=0) Xn hs rfl cj an bl.1 bl.2 rfl)<|Fm 10 sh rfl<|Fm 11 sh rfl ?_
  obtain ⟨a9,H⟩:=gd H
  obtain ⟨iy,ck,e0⟩:=an.ix Kk a9.1 a9.2
  refine Fp 12 sh rfl (fun w=>e0 rfl rfl)<|Fy 13 sh rfl hs (fun w hs=>Hz (j:=0) Xn hs rfl ck an a9.1 a9.2 rfl) ?_
  obtain ⟨iz,cl,e1⟩:=an.ix Kk a9.1 a9.2
  refine Fp 14 sh rfl (fun w=>e1 rfl rfl)<|F1 15 sh rfl (fun ja e2=>Zcp (j:=0) Zg3 hs rfl cl an a9.1 a9.2 rfl rfl (fun gh w cm hs=>Zd (e2 _ _ (fun h _=>absurd h (by decide))<|Kn sh [17] hs (by kernel_rfl) ?_)))
  obtain ⟨bm,H⟩:=gd H
  obtain ⟨jb,cn,e3⟩:=cm.ix Kk bm.1 bm.2
  refine Fp 16 sh rfl (fun w=>e3 rfl rfl)<|F1 17 sh rfl (fun jc e4=>Zcp (j:=0) Zg3 hs rfl cn cm bm.1 bm.2 rfl rfl (fun co w e5 hs=>Zd (e4 _ _ (fun h _=>absurd h (by decide))<|FE sh (ey _ _<|W.weak [(0,_),(14,_),(17,_)] (T3 rfl)<|Zc<|Mv rfl<|Osu rfl<|As rfl<|Zd (bk (a2,((af.set ac.toNat (rd af (i64.wrap (ac-1)))).set (i64.wrap (ac-1)).toNat (rd af ac)),(i64.wrap (ac-1)),co) _ _ (T3 rfl) (Ai H (Ai hs e5)) (Nat.lt_succ_self _))))))
  rw [if_neg bv] at H
  refine Y5 (ev _ _ (et _ _<|Zm ?_))
  obtain rfl:=Z4 H
  exact Zj6 rfl ⟨_,_,rfl,Le.rfl' _,hs,an⟩
 rw [if_neg bs] at H
 refine Wx eg<|Wr fun jd e6=>Mv rfl<|Mv rfl<|Oad rfl<|O_y rfl (Uc un3 Zh9 rfl)<|O_y rfl (Zr9 rfl rfl (by decide))<|O_y rfl (Uc Zh9 un3 rfl)<|As rfl<|Ox e6<|W.weak [(0,_),(1,_),(2,_),(3,_),(4,_),(18,_)] sbn ?_
 refine Wr fun je e7=>Mv rfl<|Mv rfl<|Oad rfl<|As rfl<|Ox e7<|Wr fun jf e8=>As rfl<|As rfl<|Ox e8<|Yt fun e9 fa cp=>?_
 have cq:∀ (aw ax:Int) (w:World),Za.j6 rec y0 y1_0 x1 x2 x3 aw ax=some r→St w0 ρ ((.row wr0 21 ((Rep.int .i32).sz) wm0 d0)::(.box pb1 29 ([w1_0]))::Γ) w→e9 [(0,wd0),(1,.int .i64 x1),(2,.int .i64 x2),(3,.int .i64 x3),(4,.func (.func 166) #[] #[.pointer (some ⟨pb1,0,none⟩)]),(18,.int .i64 (i64.wrap ((u64.wrap (i64.wrap (x1+x3))).fdiv (2^(min (1:Int).toNat u64.bits))))),(19,.int .i64 (i64.wrap ((i64.wrap ((u64.wrap (i64.wrap (x1+x3))).fdiv (2^(min (1:Int).toNat u64.bits))))+x2))),(20,.int .i64 aw),(21,.int .i64 ax)] w:=by
  intro aw ax w H hs
  rw [Za.j6] at H
  refine fa _ _<|Wr fun jg fb=>Mv rfl<|Osu rfl<|As rfl<|Ox fb<|Zi fun jh fc=>Zl fun ji fd jj=>Xb (σ:=Nat×Int×Int) (fun (a0,aa,ag)=>[(0,wd0),(1,.int .i64 x1),(2,.int .i64 x2),(3,.int .i64 x3),(4,.func (.func 166) #[] #[.pointer (some ⟨pb1,0,none⟩)]),(18,.int .i64 (i64.wrap ((u64.wrap (i64.wrap (x1+x3))).fdiv (2^(min (1:Int).toNat u64.bits))))),(19,.int .i64 (i64.wrap ((i64.wrap ((u64.wrap (i64.wrap (x1+x3))).fdiv (2^(min (1:Int).toNat u64.bits))))+x2))),(20,.int .i64 aa),(21,.int .i64 ag),(22,.int .i64 (i64.wrap ((i64.wrap ((i64.wrap ((u64.wrap (i64.wrap (x1+x3))).fdiv (2^(min (1:Int).toNat u64.bits))))+x2))-1)))]) (fun (a0,aa,ag) w=>Za.l5 a0 rec y0 y1_0 x1 x2 x3 aa ag=some r∧St w0 ρ ((.row wr0 21 ((Rep.int .i32).sz) wm0 d0)::(.box pb1 29 ([w1_0]))::Γ) w) (fun s=>s.1) (K0,aw,ax) sbn (Ai H hs) ?_
  rintro ⟨a0,aa,ag⟩ w jk ⟨H,hs⟩ bd
  show W _ _ _ _ _ _ [(0,wd0),(1,.int .i64 x1),(2,.int .i64 x2),(3,.int .i64 x3),(4,.func (.func 166) #[] #[.pointer (some ⟨pb1,0,none⟩)]),(18,.int .i64 (i64.wrap ((u64.wrap (i64.wrap (x1+x3))).fdiv (2^(min (1:Int).toNat u64.bits))))),(19,.int .i64 (i64.wrap ((i64.wrap ((u64.wrap (i64.wrap (x1+x3))).fdiv (2^(min (1:Int).toNat u64.bits))))+x2))),(20,.int .i64 aa),(21,.int .i64 ag),(22,.int .i64 (i64.wrap ((i64.wrap ((i64.wrap ((u64.wrap (i64.wrap (x1+x3))).fdiv (2^(min (1:Int).toNat u64.bits))))+x2))-1)))] w
  cases a0 with
  | zero=>rw [Za.l5] at H;cases H
  | succ a0=>
  rw [Za.l5] at H
  refine Zi fun jl fe=>Wr fun jm ff=>Mv rfl<|Mv rfl<|Ols rfl<|Ox ff<|Xa rfl (fun bw=>?_) (fun bw=>?_)
  rw [if_pos bw] at H
  refine Wx fe<|Zl fun jn jo jp=>Wr fun jq fg=>Mv rfl<|Mv rfl<|Oad rfl<|O_y rfl (Uc un3 Zh9 rfl)<|O_y rfl (Zr9 rfl rfl (by decide))<|O_y rfl (Uc Zh9 un3 rfl)<|As rfl<|Ox fg<|W.weak [(0,_),(1,_),(2,_),(3,_),(4,_),(18,_),(19,_),(20,_),(21,_),(22,_),(23,_)] sbn ?_
  refine Zi fun jr fh=>Qt 14 [0,0,0,0,12,18,32,0,0,384,512,1089,2048,4096] [14334,16349,16363,16359,16323,16257,14209,15743,15615,14463,12415,8192,0,0] [0,0,0,0,12,30,62,0,0,384,896,2047,4095,8191] [11,12,13] (fun w=>St w0 ρ ((.row wr0 21 ((Rep.int .i32).sz) wm0 d0)::(.box pb1 29 ([w1_0]))::Γ) w) Vr (by kernel_rfl) (fun sh=>?_)
  have hs:=hs.drew
  refine Fm 0 sh rfl<|Fm 1 sh rfl<|Fm 2 sh rfl<|Fm 3 sh rfl<|Fp 4 sh rfl (fun w=>Zc8 rfl rfl) ?_
  obtain ⟨bn,H⟩:=gd H
  obtain ⟨js,cr,fi⟩:=g0.ix Kk bn.1 bn.2
  refine Fp 5 sh rfl (fun w=>fi rfl rfl)<|Fy 6 sh rfl hs (fun w hs=>Hz (j:=0) Xn hs rfl cr g0 bn.1 bn.2 rfl)<|Fm 7 sh rfl<|Fm 8 sh rfl ?_
  obtain ⟨bo,H⟩:=gd H
  obtain ⟨jt,cs,fj⟩:=g0.ix Kk bo.1 bo.2
  refine Fp 9 sh rfl (fun w=>fj rfl rfl)<|Fy 10 sh rfl hs (fun w hs=>Hz (j:=0) Xn hs rfl cs g0 bo.1 bo.2 rfl)<|F1 11 sh rfl (fun ju fk=>?_)
  have hs:=hs.front 1 rfl
  obtain ⟨b8,ct,H⟩:=bnd H
  refine Xs rfl rfl rfl (Ke.c hs g1_0 ct) (fun jv w hpost=>?_)
  obtain ⟨rfl,hs⟩:=hpost
  have hs:=hs.sink 1
  refine Zd (fk _ _ (fun h _=>absurd h (by decide))<|Kn sh [] hs (by kernel_rfl)<|Fp 12 sh rfl (fun w=>Za7 rfl rfl)<|Fp 13 sh rfl (fun w=>Znn rfl)<|FE sh (fh _ _<|W.weak [(0,_),(1,_),(2,_),(3,_),(4,_),(18,_),(19,_),(20,_),(21,_),(22,_),(23,_),(171,_)] sbn ?_))
  refine Xa rfl (fun bx=>?_) (fun bx=>?_)
  rw [if_pos bx] at H
  refine Zc<|Mv rfl<|Oad rfl<|As rfl<|Zd (bd (a0,(i64.wrap ((i64.wrap ((u64.wrap (i64.wrap (aa+ag))).fdiv (2^(min (1:Int).toNat u64.bits))))+1)),ag) _ _ sbn (Ai H hs) (Nat.lt_succ_self _))
  rw [if_neg bx] at H
  refine Zc<|Mv rfl<|As rfl<|Zd (bd (a0,aa,(i64.wrap ((u64.wrap (i64.wrap (aa+ag))).fdiv (2^(min (1:Int).toNat u64.bits))))) _ _ sbn (Ai H hs) (Nat.lt_succ_self _))
  rw [if_neg bw] at H
  refine Y5 (fd _ _ (fc _ _<|Wr fun jw fl=>Mv rfl<|Mv rfl<|Osu rfl<|As rfl<|Ox fl<|W.weak [(0,_),(1,_),(2,_),(3,_),(4,_),(18,_),(20,_),(24,_)] sbn ?_))
  refine Yt fun fm fn cu=>?_
  have cv:∀ (aj:List Int) (aq:List Value) (a3:Hp) (w:World),Za.j4 rec y1_0 x1 x2 x3 aa aj=some r→Le ρ a3→St w0 a3 ((.row wr0 21 ((Rep.int .i32).sz) wm0 aq)::(.box pb1 29 ([w1_0]))::Γ) w→Hl .i32 a3 wr0 aq wd0 wp0 wq0 aj→fm [(0,wd0),(1,.int .i64 x1),(3,.int .i64 x3),(4,.func (.func 166) #[] #[.pointer (some ⟨pb1,0,none⟩)]),(18,.int .i64 (i64.wrap ((u64.wrap (i64.wrap (x1+x3))).fdiv (2^(min (1:Int).toNat u64.bits))))),(20,.int .i64 aa),(24,.int .i64 (i64.wrap ((i64.wrap ((i64.wrap ((u64.wrap (i64.wrap (x1+x3))).fdiv (2^(min (1:Int).toNat u64.bits))))+x2))-aa)))] w:=by
   intro aj aq a3 w H a7 hs a5
   rw [Za.j4] at H
   refine fn _ _<|Yt fun fo fp cw=>?_
   have cx:∀ (ak:List Int) (ay:List Value) (ba:Hp) (w:World),Za.j2 rec y1_0 x1 x2 x3 aa ak=some r→Le a3 ba→St w0 ba ((.row wr0 21 ((Rep.int .i32).sz) wm0 ay)::(.box pb1 29 ([w1_0]))::Γ) w→Hl .i32 ba wr0 ay wd0 wp0 wq0 ak→fo [(0,wd0),(3,.int .i64 x3),(4,.func (.func 166) #[] #[.pointer (some ⟨pb1,0,none⟩)]),(18,.int .i64 (i64.wrap ((u64.wrap (i64.wrap (x1+x3))).fdiv (2^(min (1:Int).toNat u64.bits))))),(24,.int .i64 (i64.wrap ((i64.wrap ((i64.wrap ((u64.wrap (i64.wrap (x1+x3))).fdiv (2^(min (1:Int).toNat u64.bits))))+x2))-aa)))] w:=by
    intro ak ay ba w H bb hs a6
    rw [Za.j2] at H
    refine fp _ _<|Yt fun fq fr cy=>?_
    have cz:∀ (ar:Bool) (w:World),Za.j1 rec y1_0 x1 x2 x3 aa ak ar=some r→St w0 ba ((.row wr0 21 ((Rep.int .i32).sz) wm0 ay)::(.box pb1 29 ([w1_0]))::Γ) w→fq [(0,wd0),(3,.int .i64 x3),(4,.func (.func 166) #[] #[.pointer (some ⟨pb1,0,none⟩)]),(18,.int .i64 (i64.wrap ((u64.wrap (i64.wrap (x1+x3))).fdiv (2^(min (1:Int).toNat u64.bits))))),(24,.int .i64 (i64.wrap ((i64.wrap ((i64.wrap ((u64.wrap (i64.wrap (x1+x3))).fdiv (2^(min (1:Int).toNat u64.bits))))+x2))-aa))),(213,.bool ar)] w:=by
     intro ar w H hs
     rw [Za.j1] at H
     refine fr _ _<|Xh rfl (fun bz=>?_) (fun bz=>?_)
     rw [if_pos bz] at H
     refine Zc<|Mv rfl<|Mv rfl<|Mv rfl<|Mv rfl<|Mv rfl ?_
     have hs:=hs.front 1 rfl
     have hs:=hs.front 1 rfl
     obtain ⟨b7,da,H⟩:=bnd H
     refine Oc rfl (hrec hs a6 (g1_0.mono (a7.trans bb)) da) (fun jx w hpost=>?_)
     obtain ⟨jy,gi,rfl,db,hs,fs⟩:=hpost
     have hs:=hs.sink 1
     have hs:=hs.sink 1
     refine Zd ?_
     obtain rfl:=Z4 H
     exact Zj6 rfl ⟨_,_,rfl,((a7.trans bb).trans db),hs,fs⟩
     rw [if_neg (bft bz)] at H
     refine Ui ?_
     obtain rfl:=Z4 H
     exact Zj6 rfl ⟨_,_,rfl,(a7.trans bb),hs,a6⟩
    refine Zc<|Mv rfl<|Mv rfl<|Ols rfl<|Mv rfl<|X4 (dj:=209) rfl (fun b0=>?_) (fun b0=>?_)
    rw [if_pos b0] at H
    refine Oe rfl<|Mv rfl<|Oe rfl<|Mv rfl<|Oe rfl<|Ols rfl<|Opk rfl<|Zd (cy _ _ _ sbn (cz (decide ((i64.wrap ((i64.wrap ((i64.wrap ((u64.wrap (i64.wrap (x1+x3))).fdiv (2^(min (1:Int).toNat u64.bits))))+x2))-aa))<x3)) _ H hs))
    rw [if_neg b0] at H
    refine On rfl<|On rfl<|On rfl<|Opk rfl<|Zd (cy _ _ _ sbn (cz false _ H hs))
   refine Yt fun ft fu dc=>?_
   have dd:∀ (au:Bool) (w:World),Za.j3 rec y1_0 x1 x2 x3 aa aj au=some r→St w0 a3 ((.row wr0 21 ((Rep.int .i32).sz) wm0 aq)::(.box pb1 29 ([w1_0]))::Γ) w→ft [(0,wd0),(1,.int .i64 x1),(3,.int .i64 x3),(4,.func (.func 166) #[] #[.pointer (some ⟨pb1,0,none⟩)]),(18,.int .i64 (i64.wrap ((u64.wrap (i64.wrap (x1+x3))).fdiv (2^(min (1:Int).toNat u64.bits))))),(20,.int .i64 aa),(24,.int .i64 (i64.wrap ((i64.wrap ((i64.wrap ((u64.wrap (i64.wrap (x1+x3))).fdiv (2^(min (1:Int).toNat u64.bits))))+x2))-aa))),(199,.bool au)] w:=by
    intro au w H hs
    rw [Za.j3] at H
    refine fu _ _<|Xh rfl (fun b1=>?_) (fun b1=>?_)
    rw [if_pos b1] at H
    refine Zc<|Mv rfl<|Mv rfl<|Mv rfl<|Mv rfl<|Mv rfl ?_
    have hs:=hs.front 1 rfl
    have hs:=hs.front 1 rfl
    obtain ⟨bp,de,H⟩:=bnd H
    refine Oc rfl (hrec hs a5 (g1_0.mono a7) de) (fun jz w hpost=>?_)
    obtain ⟨fv,df,rfl,dg,hs,fw⟩:=hpost
    have hs:=hs.sink 1
    have hs:=hs.sink 1
    exact Zd (cw _ _ _ sbn (cx bp df fv _ H dg hs fw))
    rw [if_neg (bft b1)] at H
    exact Ui (cw _ _ _ sbn (cx aj aq a3 _ H (Le.rfl' _) hs a5))
   refine Zc<|Mv rfl<|Mv rfl<|Ols rfl<|Mv rfl<|X4 (dj:=195) rfl (fun b2=>?_) (fun b2=>?_)
   rw [if_pos b2] at H
   refine Oe rfl<|Mv rfl<|Oe rfl<|Mv rfl<|Oe rfl<|Ols rfl<|Opk rfl<|Zd (dc _ _ _ sbn (dd (decide (aa<(i64.wrap ((u64.wrap (i64.wrap (x1+x3))).fdiv (2^(min (1:Int).toNat u64.bits)))))) _ H hs))
   rw [if_neg b2] at H
   refine On rfl<|On rfl<|On rfl<|Opk rfl<|Zd (dc _ _ _ sbn (dd false _ H hs))
  refine Yt fun fx fy dh=>?_
  have di:∀ (av:Bool) (w:World),Za.j5 rec y0 y1_0 x1 x2 x3 aa av=some r→St w0 ρ ((.row wr0 21 ((Rep.int .i32).sz) wm0 d0)::(.box pb1 29 ([w1_0]))::Γ) w→fx [(0,wd0),(1,.int .i64 x1),(2,.int .i64 x2),(3,.int .i64 x3),(4,.func (.func 166) #[] #[.pointer (some ⟨pb1,0,none⟩)]),(18,.int .i64 (i64.wrap ((u64.wrap (i64.wrap (x1+x3))).fdiv (2^(min (1:Int).toNat u64.bits))))),(20,.int .i64 aa),(24,.int .i64 (i64.wrap ((i64.wrap ((i64.wrap ((u64.wrap (i64.wrap (x1+x3))).fdiv (2^(min (1:Int).toNat u64.bits))))+x2))-aa))),(185,.bool av)] w:=by
   intro av w H hs
   rw [Za.j5] at H
   refine fy _ _<|Xh rfl (fun b3=>?_) (fun b3=>?_)
   rw [if_pos b3] at H
   refine Zc<|Mv rfl<|Mv rfl<|Mv rfl<|Mv rfl<|Mv rfl ?_
   have hs:=hs.front 1 rfl
   have hs:=hs.front 1 rfl
   obtain ⟨bq,dk,H⟩:=bnd H
   refine Oc rfl (Yf.c hs g0 g1_0 dk) (fun j0 w hpost=>?_)
   obtain ⟨fz,dl,rfl,dm,hs,ga⟩:=hpost
   have hs:=hs.sink 1
   have hs:=hs.sink 1
   exact Zd (cu _ _ _ sbn (cv bq dl fz _ H dm hs ga))
   rw [if_neg (bft b3)] at H
   exact Ui (cu _ _ _ sbn (cv y0 d0 ρ _ H (Le.rfl' _) hs g0))
  refine Zc<|Mv rfl<|Mv rfl<|Ols rfl<|Mv rfl<|X4 (dj:=181) rfl (fun b4=>?_) (fun b4=>?_)
  rw [if_pos b4] at H
  refine Oe rfl<|Mv rfl<|Oe rfl<|Mv rfl<|Oe rfl<|Ols rfl<|Opk rfl<|Zd (dh _ _ _ sbn (di (decide (x2<(i64.wrap ((i64.wrap ((i64.wrap ((u64.wrap (i64.wrap (x1+x3))).fdiv (2^(min (1:Int).toNat u64.bits))))+x2))-aa)))) _ H hs))
  rw [if_neg b4] at H
  refine On rfl<|On rfl<|On rfl<|Opk rfl<|Zd (dh _ _ _ sbn (di false _ H hs))
 refine Wr fun j7 gb=>Mv rfl<|Mv rfl<|Ogt rfl<|Ox gb<|W.weak [(0,_),(1,_),(2,_),(3,_),(4,_),(18,_),(19,_),(140,_)] sbn ?_
 refine Xa rfl (fun b5=>?_) (fun b5=>?_)
 rw [if_pos b5] at H
 refine Wr fun j8 gc=>Mv rfl<|Mv rfl<|Osu rfl<|As rfl<|Ox gc<|Zc<|Mv rfl<|As rfl<|Zd (cp _ _ _ sbn (cq (i64.wrap ((i64.wrap ((i64.wrap ((u64.wrap (i64.wrap (x1+x3))).fdiv (2^(min (1:Int).toNat u64.bits))))+x2))-x3)) (i64.wrap ((u64.wrap (i64.wrap (x1+x3))).fdiv (2^(min (1:Int).toNat u64.bits)))) _ H hs))
 rw [if_neg b5] at H
 refine Wr fun j9 ge=>Mv rfl<|As rfl<|Ox ge<|Zc<|Mv rfl<|As rfl<|Zd (cp _ _ _ sbn (cq x1 x2 _ H hs))
theorem Za.c (k:Nat):Za.Spec (Za.f k):=by
 induction k with
 | zero=>intro w0 w ρ Γ wr0 wd0 d0 wp0 wq0 wm0 y0 pb1 w1_0 y1_0 hs x1 x2 x3 g0 g1_0 r H;exact nomatch (show (none:Option _)=some _ from H)
 | succ k ih=>intro w0 w ρ Γ wr0 wd0 d0 wp0 wq0 wm0 y0 pb1 w1_0 y1_0 hs x1 x2 x3 g0 g1_0 r H;exact Za.cb (Za.f k) ih hs g0 g1_0 H

def Zh.j1 (ap:List Int→Int→Option (List Int)) (aa:Int) (ae:List Int):Option (List Int):=ap ae (i64.wrap (aa*2))
def Zh.l1 (ap:List Int→Int→Option (List Int)):Nat→Option Tbs→Int→Int→List Int→Int→Int→Option (List Int)
  | 0,_,_,_,_,_,_=>none
  | an+1,y1_0,x1,aa,ab,af,ad=>if ad≤x1 then ((Za.f K0 af (i64.wrap (af+aa)) ad ab y1_0).bind fun a5=>((Zh.l1 ap an y1_0 x1 aa) a5 ad (i64.wrap (ad+(i64.wrap (2*aa)))))) else (if (i64.wrap (af+aa))<x1 then ((Za.f K0 af (i64.wrap (af+aa)) x1 ab y1_0).bind fun a6=>(Zh.j1 ap aa a6)) else (Zh.j1 ap aa ab))
def Zh.l2:Nat→Option Tbs→Int→List Int→Int→Option (List Int)
  | 0,_,_,_,_=>none
  | ar+1,y1_0,x1,ac,aa=>if aa<x1 then (Zh.l1 (Zh.l2 ar y1_0 x1) K0 y1_0 x1 aa ac 0 (i64.wrap (2*aa))) else (some ac)
def Zh.l3:Nat→Option Tbs→Int→List Int→Int→Int→Option (List Int)
  | 0,_,_,_,_,_=>none
  | aw+1,y1_0,x1,ag,ao,ai=>if ai≤x1 then ((Zg.f ao ai ag y1_0).bind fun bm=>((Zh.l3 aw y1_0 x1) bm ai (i64.wrap (ai+20)))) else ((Zg.f ao x1 ag y1_0).bind fun bn=>(Zh.l2 K0 y1_0 x1 bn 20))
def Zh.f (x1:Int) (y0:List Int) (y1_0:Option Tbs):Option (List Int):=Zh.l3 K0 y1_0 x1 y0 0 20
theorem Zh.c {wr0 wd0:Value} {d0:List Value} {wp0 wq0:List Int} {wm0:Nat} {y0:List Int} {pb1:Nat} {w1_0:Value} {y1_0:Option Tbs} (hs:St w0 ρ ((.row wr0 21 ((Rep.int .i32).sz) wm0 d0)::(.box pb1 29 ([w1_0]))::Γ) w) {x1:Int} (g0:Hl .i32 ρ wr0 d0 wd0 wp0 wq0 y0) (g1_0:Xw H4 ρ w1_0 y1_0) {r:List Int} (H:Zh.f x1 y0 y1_0=some r):Zq Tryz.prog 178 [wd0,.int .i64 x1,.func (.func 166) #[] #[.pointer (some ⟨pb1,0,none⟩)]] w (fun v w'=>∃ (ρ':Hp) (ds0:List Value),v=.tuple #[]∧Le ρ ρ'∧St w0 ρ' ((.row wr0 21 ((Rep.int .i32).sz) wm0 ds0)::(.box pb1 29 ([w1_0]))::Γ) w'∧Hl .i32 ρ' wr0 ds0 wd0 wp0 wq0 r):=by
 rw [Zh.f] at H
 refine Et Tryz.func178 Tryz.ntmps178 rfl<|Wr fun dj cc=>As rfl<|Ox cc<|Wr fun dk cd=>Mv rfl<|As rfl<|As rfl<|Ox cd<|Zi fun dl ce=>Zl fun dm cf dn=>Xb (σ:=Nat×List Int×Int×Int×List Value×Hp) (fun (aw,ag,ao,ai,al,a3)=>[(0,wd0),(1,.int .i64 x1),(2,.func (.func 166) #[] #[.pointer (some ⟨pb1,0,none⟩)]),(6,.int .i64 20),(7,.int .i64 ao),(8,.int .i64 ai)]) (fun (aw,ag,ao,ai,al,a3) w=>Zh.l3 aw y1_0 x1 ag ao ai=some r∧Le ρ a3∧St w0 a3 ((.row wr0 21 ((Rep.int .i32).sz) wm0 al)::(.box pb1 29 ([w1_0]))::Γ) w∧Hl .i32 a3 wr0 al wd0 wp0 wq0 ag) (fun s=>s.1) (K0,y0,0,20,d0,ρ) sbn (Ai H (Ai (Le.rfl' _) (Ai hs g0))) ?_
 rintro ⟨aw,ag,ao,ai,al,a3⟩ w dp ⟨H,au,hs,ax⟩ a7
 show W _ _ _ _ _ _ [(0,wd0),(1,.int .i64 x1),(2,.func (.func 166) #[] #[.pointer (some ⟨pb1,0,none⟩)]),(6,.int .i64 20),(7,.int .i64 ao),(8,.int .i64 ai)] w
 cases aw with
 | zero=>rw [Zh.l3] at H;cases H
 | succ aw=>
 rw [Zh.l3] at H
 refine Zi fun dq cg=>Wr fun dr ch=>Mv rfl<|Mv rfl<|Ole rfl<|Ox ch<|Xa rfl (fun bo=>?_) (fun bo=>?_)
 rw [if_pos bo] at H
 refine Wx cg<|Zl fun ds dt du=>Wr fun dv ci=>Mv rfl<|Mv rfl<|Mv rfl<|Mv rfl ?_
 have hs:=hs.front 1 rfl
 have hs:=hs.front 1 rfl
 obtain ⟨bm,bp,H⟩:=bnd H
 refine Oc rfl (Zg.c hs ax (g1_0.mono au) bp) (fun dw w hpost=>?_)
 obtain ⟨cj,bq,rfl,br,hs,ck⟩:=hpost
 have hs:=hs.sink 1
 have hs:=hs.sink 1
 refine Ox ci<|Wr fun dx cl=>Mv rfl<|As rfl<|Ox cl<|W.weak [(0,_),(1,_),(2,_),(6,_),(7,_),(8,_)] sbn ?_
 refine Zc<|Mv rfl<|Mv rfl<|Oad rfl<|As rfl<|Zd (a7 (aw,bm,ai,(i64.wrap (ai+20)),bq,cj) _ _ sbn (Ai H (Ai (au.trans br) (Ai hs ck))) (Nat.lt_succ_self _))
 rw [if_neg bo] at H
 refine Y5 (cf _ _ (ce _ _<|Wr fun dy cm=>Mv rfl<|Mv rfl<|Mv rfl<|Mv rfl ?_))
 have hs:=hs.front 1 rfl
 have hs:=hs.front 1 rfl
 obtain ⟨bn,bs,H⟩:=bnd H
 refine Oc rfl (Zg.c hs ax (g1_0.mono au) bs) (fun dz w hpost=>?_)
 obtain ⟨cb,bt,rfl,a8,hs,cn⟩:=hpost
 have hs:=hs.sink 1
 have hs:=hs.sink 1
 refine Ox cm<|Zl fun ea co eb=>Xb (σ:=Nat×List Int×Int×List Value×Hp) (fun (ar,ac,aa,aj,a0)=>[(0,wd0),(1,.int .i64 x1),(2,.func (.func 166) #[] #[.pointer (some ⟨pb1,0,none⟩)]),(6,.int .i64 aa)]) (fun (ar,ac,aa,aj,a0) w=>Zh.l2 ar y1_0 x1 ac aa=some r∧Le cb a0∧St w0 a0 ((.row wr0 21 ((Rep.int .i32).sz) wm0 aj)::(.box pb1 29 ([w1_0]))::Γ) w∧Hl .i32 a0 wr0 aj wd0 wp0 wq0 ac) (fun s=>s.1) (K0,bn,20,bt,cb) (T4 rfl) (Ai H (Ai (Le.rfl' _) (Ai hs cn))) ?_
 rintro ⟨ar,ac,aa,aj,a0⟩ w ec ⟨H,a1,hs,ay⟩ a9
 show W _ _ _ _ _ _ [(0,wd0),(1,.int .i64 x1),(2,.func (.func 166) #[] #[.pointer (some ⟨pb1,0,none⟩)]),(6,.int .i64 aa)] w
 cases ar with
 | zero=>rw [Zh.l2] at H;cases H
 | succ ar=>
 rw [Zh.l2] at H
 refine Zi fun ed cp=>Wr fun ee bu=>Mv rfl<|Mv rfl<|Ols rfl<|Ox bu<|Xa rfl (fun ba=>?_) (fun ba=>?_)
 ·rw [if_pos ba] at H
  refine Wx cp<|Zl fun cq cr cs=>Wr fun ct bv=>Mv rfl<|Oml rfl<|As rfl<|As rfl<|Ox bv<|Zi fun cu bw=>Zl fun cv bx cw=>Xb (σ:=Nat×List Int×Int×Int×List Value×Hp) (fun (an,ab,af,ad,ah,aq)=>[(0,wd0),(1,.int .i64 x1),(2,.func (.func 166) #[] #[.pointer (some ⟨pb1,0,none⟩)]),(6,.int .i64 aa),(7,.int .i64 af),(8,.int .i64 ad)]) (fun (an,ab,af,ad,ah,aq) w=>Zh.l1 (Zh.l2 ar y1_0 x1) an y1_0 x1 aa ab af ad=some r∧Le a0 aq∧St w0 aq ((.row wr0 21 ((Rep.int .i32).sz) wm0 ah)::(.box pb1 29 ([w1_0]))::Γ) w∧Hl .i32 aq wr0 ah wd0 wp0 wq0 ab) (fun s=>s.1) (K0,ac,0,(i64.wrap (2*aa)),aj,a0) sbn (Ai H (Ai (Le.rfl' _) (Ai hs ay))) ?_
  rintro ⟨an,ab,af,ad,ah,aq⟩ w cx ⟨H,av,hs,am⟩ a4
  show W _ _ _ _ _ _ [(0,wd0),(1,.int .i64 x1),(2,.func (.func 166) #[] #[.pointer (some ⟨pb1,0,none⟩)]),(6,.int .i64 aa),(7,.int .i64 af),(8,.int .i64 ad)] w
  cases an with
  | zero=>rw [Zh.l1] at H;cases H
  | succ an=>
  rw [Zh.l1] at H
  refine Zi fun cy bz=>Wr fun cz b0=>Mv rfl<|Mv rfl<|Ole rfl<|Ox b0<|Xa rfl (fun bb=>?_) (fun bb=>?_)
  rw [if_pos bb] at H
  refine Wx bz<|Zl fun da db dc=>Wr fun dd b1=>Mv rfl<|Mv rfl<|Mv rfl<|Mv rfl<|Oad rfl<|Mv rfl<|Mv rfl ?_
  have hs:=hs.front 1 rfl
  have hs:=hs.front 1 rfl
  obtain ⟨a5,be,H⟩:=bnd H
  refine Oc rfl ((Za.c K0) hs am (g1_0.mono (((au.trans a8).trans a1).trans av)) be) (fun de w hpost=>?_)
  obtain ⟨b2,bf,rfl,bg,hs,b3⟩:=hpost
  have hs:=hs.sink 1
  have hs:=hs.sink 1
  refine Ox b1<|W.weak [(0,_),(1,_),(2,_),(6,_),(8,_)] sbn ?_
  refine Wr fun df b4=>Mv rfl<|As rfl<|Ox b4<|Zc<|Mv rfl<|Mv rfl<|Oml rfl<|Oad rfl<|As rfl<|Zd (a4 (an,a5,ad,(i64.wrap (ad+(i64.wrap (2*aa)))),bf,b2) _ _ sbn (Ai H (Ai (av.trans bg) (Ai hs b3))) (Nat.lt_succ_self _))
  rw [if_neg bb] at H
  refine Y5 (bx _ _ (bw _ _<|Yt fun b5 b6 bh=>?_))
  have bi:∀ (ae:List Int) (ak:List Value) (az:Hp) (w:World),Zh.j1 (Zh.l2 ar y1_0 x1) aa ae=some r→Le aq az→St w0 az ((.row wr0 21 ((Rep.int .i32).sz) wm0 ak)::(.box pb1 29 ([w1_0]))::Γ) w→Hl .i32 az wr0 ak wd0 wp0 wq0 ae→b5 [(0,wd0),(1,.int .i64 x1),(2,.func (.func 166) #[] #[.pointer (some ⟨pb1,0,none⟩)]),(6,.int .i64 aa)] w:=by
   intro ae ak az w H bc hs a2
   rw [Zh.j1] at H
   refine b6 _ _<|Zc<|Mv rfl<|Oml rfl<|As rfl<|Zd (a9 (ar,ae,(i64.wrap (aa*2)),ak,az) _ _ (T4 rfl) (Ai H (Ai ((a1.trans av).trans bc) (Ai hs a2))) (Nat.lt_succ_self _))
  refine Wr fun dg b7=>Mv rfl<|Mv rfl<|Oad rfl<|As rfl<|Ox b7<|Wr fun dh b8=>Mv rfl<|Mv rfl<|Ols rfl<|Ox b8<|W.weak [(0,_),(1,_),(2,_),(6,_),(7,_),(9,_),(54,_)] sbn ?_
  refine Xa rfl (fun bd=>?_) (fun bd=>?_)
  rw [if_pos bd] at H
  refine Zc<|Mv rfl<|Mv rfl<|Mv rfl<|Mv rfl<|Mv rfl ?_
  have hs:=hs.front 1 rfl
  have hs:=hs.front 1 rfl
  obtain ⟨a6,bj,H⟩:=bnd H
  refine Oc rfl ((Za.c K0) hs am (g1_0.mono (((au.trans a8).trans a1).trans av)) bj) (fun di w hpost=>?_)
  obtain ⟨b9,bk,rfl,bl,hs,ca⟩:=hpost
  have hs:=hs.sink 1
  have hs:=hs.sink 1
  exact Zd (bh _ _ _ (T4 rfl) (bi a6 bk b9 _ H bl hs ca))
  rw [if_neg bd] at H
  exact Ui (bh _ _ _ (T4 rfl) (bi ab ah aq _ H (Le.rfl' _) hs am))
 rw [if_neg ba] at H
 refine Y5 (co _ _ ?_)
 obtain rfl:=Z4 H
 exact Zj6 rfl ⟨_,_,rfl,((au.trans a8).trans a1),hs,ay⟩

def Qa.f (y0:List Int) (y1_0:Option Tbs):Option (List Int):=(Zh.f (y0.length:Int) y0 y1_0).bind fun ac=>(some ac)
theorem Qa.c {wr0 wd0:Value} {d0:List Value} {wp0 wq0:List Int} {wm0:Nat} {y0:List Int} {pb1:Nat} {w1_0:Value} {y1_0:Option Tbs} (hs:St w0 ρ ((.row wr0 21 ((Rep.int .i32).sz) wm0 d0)::(.box pb1 29 ([w1_0]))::Γ) w) (g0:Hl .i32 ρ wr0 d0 wd0 wp0 wq0 y0) (g1_0:Xw H4 ρ w1_0 y1_0) {r:List Int} (H:Qa.f y0 y1_0=some r):Zq Tryz.prog 165 [wd0,.func (.func 166) #[] #[.pointer (some ⟨pb1,0,none⟩)]] w (fun v w'=>∃ (ρ':Hp) (ds0:List Value),v=.tuple #[]∧Le ρ ρ'∧St w0 ρ' ((.row wr0 21 ((Rep.int .i32).sz) wm0 ds0)::(.box pb1 29 ([w1_0]))::Γ) w'∧Hl .i32 ρ' wr0 ds0 wd0 wp0 wq0 r):=by
 rw [Qa.f] at H
 refine Et Tryz.func165 Tryz.ntmps165 rfl<|Zc<|Mv rfl<|Mv rfl<|O_y rfl (Zv9 Ua g0 rfl)<|Mv rfl ?_
 have hs:=hs.front 1 rfl
 have hs:=hs.front 1 rfl
 obtain ⟨ac,aa,H⟩:=bnd H
 refine Oc rfl (Zh.c hs g0 g1_0 aa) (fun af w hpost=>?_)
 obtain ⟨ag,ad,rfl,ab,hs,ae⟩:=hpost
 have hs:=hs.sink 1
 have hs:=hs.sink 1
 refine Zd ?_
 obtain rfl:=Z4 H
 exact Zj6 rfl ⟨_,_,rfl,ab,hs,ae⟩

def Y3.j1 (ag:List Int→Int→Option (List Int)) (aq:Int→Option (List Int)) (x0:Option Tbs) (aa:List Int) (ab ad:Int) (af:Bool):Option (List Int):=if af=true then (aq (i64.wrap (ad+1))) else (if (0:Int)≤ab∧ab≤ad∧ad≤(aa.length:Int) then ((Qa.f (sub aa ab ad) x0).bind fun ar=>(ag (aa.take ab.toNat++(ar++aa.drop ad.toNat)) (i64.wrap (ad+1)))) else none)
def Y3.l1 (ag:List Int→Int→Option (List Int)):Nat→Option Tbs→List Int→Int→Int→Option (List Int)
  | 0,_,_,_,_=>none
  | aj+1,x0,aa,ab,ad=>if ad<(aa.length:Int) then (if (0:Int)≤ad∧ad<(aa.length:Int) then ((Qf.f x0 (rd aa ad)).bind fun au=>(Y3.j1 ag (Y3.l1 ag aj x0 aa ab) x0 aa ab ad (decide (au≠0)))) else none) else (Y3.j1 ag (Y3.l1 ag aj x0 aa ab) x0 aa ab ad false)
def Y3.l2:Nat→Option Tbs→List Int→Int→Option (List Int)
  | 0,_,_,_=>none
  | ah+1,x0,aa,ab=>if ab<(aa.length:Int) then (Y3.l1 (Y3.l2 ah x0) K0 x0 aa ab ab) else (some aa)
def Y3.f (x0:Option Tbs) (x1:List Int):Option (List Int):=(Xk.f x1).bind fun a8=>(Y3.l2 K0 x0 a8 0)
theorem Y3.c (hs:St w0 ρ (Γ) w) {v0:Value} {x0:Option Tbs} (h0:Xw H4 ρ v0 x0) {v1:Value} {x1:List Int} (h1:SlR (Rep.int .i32) ρ v1 x1) {r:List Int} (H:Y3.f x0 x1=some r):Zq Tryz.prog 135 [v0,v1] w (fun v w'=>∃ (ρ':Hp) (v0:Value) (cs0:List Value),v=v0∧Le ρ ρ'∧St w0 ρ' (.row v0 21 (Rep.int .i32).sz r.length cs0::Γ) w'∧Zp (Rep.int .i32) ρ' cs0 r):=by
 rw [Y3.f] at H
 refine Et Tryz.func135 Tryz.ntmps135 rfl<|Wr fun cc bl=>Zcv hs rfl rfl h0.one (fun ao w hs=>As rfl<|Ox bl<|Wr fun cd bm=>Mv rfl ?_)
 obtain ⟨a8,a9,H⟩:=bnd H
 refine Oc rfl (Xk.c hs h1 a9) (fun bn w hpost=>?_)
 obtain ⟨bj,ce,ba,rfl,av,hs,bo⟩:=hpost
 refine As rfl<|Ox bm<|Zi fun cf bp=>Wr fun cg bq=>As rfl<|Ox bq<|Zl fun ch br ci=>Xb (σ:=Nat×List Int×Int×Value×List Value×Hp) (fun (ah,aa,ab,ac,ae,ak)=>[(2,.pointer (some ⟨ao,0,none⟩)),(5,ac),(6,.int .i64 ab)]) (fun (ah,aa,ab,ac,ae,ak) w=>Y3.l2 ah x0 aa ab=some r∧Le bj ak∧St w0 ak ((.row ac 21 ((Rep.int .i32).sz) aa.length ae)::(.box ao 29 ([v0]))::Γ) w∧Zp (Rep.int .i32) ak ae aa) (fun s=>s.1) (K0,a8,0,bn,ba,bj) (T3 rfl) (Ai H (Ai (Le.rfl' _) (Ai hs bo))) ?_
 rintro ⟨ah,aa,ab,ac,ae,ak⟩ w cj ⟨H,al,hs,ai⟩ aw
 show W _ _ _ _ _ _ [(2,.pointer (some ⟨ao,0,none⟩)),(5,ac),(6,.int .i64 ab)] w
 cases ah with
 | zero=>rw [Y3.l2] at H;cases H
 | succ ah=>
 rw [Y3.l2] at H
 refine Zi fun ck bs=>Wr fun cl bt=>Mv rfl<|Mv rfl<|O_y rfl (Hg (i:=0) Ua hs rfl rfl)<|Ols rfl<|Ox bt<|Xa rfl (fun bb=>?_) (fun bb=>?_)
 ·rw [if_pos bb] at H
  refine Wx bs<|Zi fun cm bu=>Zl fun cn co cp=>Wr fun cq bv=>Mv rfl<|As rfl<|Ox bv<|Zi fun cr bw=>Zl fun cs bx ct=>Xb (σ:=Nat×Int) (fun (aj,ad)=>[(2,.pointer (some ⟨ao,0,none⟩)),(5,ac),(6,.int .i64 ab),(7,.int .i64 ad)]) (fun (aj,ad) w=>Y3.l1 (Y3.l2 ah x0) aj x0 aa ab ad=some r∧St w0 ak ((.row ac 21 ((Rep.int .i32).sz) aa.length ae)::(.box ao 29 ([v0]))::Γ) w) (fun s=>s.1) (K0,ab) (T4 rfl) (Ai H hs) ?_
  rintro ⟨aj,ad⟩ w cu ⟨H,hs⟩ ax
  show W _ _ _ _ _ _ [(2,.pointer (some ⟨ao,0,none⟩)),(5,ac),(6,.int .i64 ab),(7,.int .i64 ad)] w
  cases aj with
  | zero=>rw [Y3.l1] at H;cases H
  | succ aj=>
  rw [Y3.l1] at H
  refine Zi fun cv bz=>Yt fun b0 b1 bk=>?_
  have a0:∀ (af:Bool) (w:World),Y3.j1 (Y3.l2 ah x0) (Y3.l1 (Y3.l2 ah x0) aj x0 aa ab) x0 aa ab ad af=some r→St w0 ak ((.row ac 21 ((Rep.int .i32).sz) aa.length ae)::(.box ao 29 ([v0]))::Γ) w→b0 [(2,.pointer (some ⟨ao,0,none⟩)),(5,ac),(6,.int .i64 ab),(7,.int .i64 ad),(29,.bool af)] w:=by
   intro af w H hs
   rw [Y3.j1] at H
   refine b1 _ _<|Xh rfl (fun ay=>?_) (fun ay=>?_)
   rw [if_pos ay] at H
   refine Wx bz<|Zl fun b2 b3 b4=>Zc<|Mv rfl<|Oad rfl<|As rfl<|Zd (ax (aj,(i64.wrap (ad+1))) _ _ (T4 rfl) (Ai H hs) (Nat.lt_succ_self _))
   rw [if_neg (bft ay)] at H
   refine Y5 (bx _ _ (bw _ _<|Wr fun b5 bc=>Mv rfl<|Mv rfl<|Mv rfl ?_))
   obtain ⟨am,H⟩:=gd H
   obtain ⟨b6,a1,bd⟩:=Zow (k:=.i32) Kk hs (j:=0) rfl am.1 am.2.1 am.2.2
   refine O_y rfl (bd rfl (.inr ⟨_,_,rfl,rfl⟩) (.inr ⟨_,_,rfl,rfl⟩))<|O_y rfl (Hi rfl) ?_
   have hs:=hs.front 1 rfl
   have hs:=hs.front 1 rfl
   obtain ⟨ar,a2,H⟩:=bnd H
   refine Oc rfl (Qa.c hs (Hl.of ai a1 am.1 am.2.1 am.2.2) (h0.mono (av.trans al)) a2) (fun b7 w hpost=>?_)
   obtain ⟨be,a3,rfl,a4,hs,bf⟩:=hpost
   obtain ⟨bg,a5⟩:=Hl.done hs bf (j:=0) rfl
   have hs:=hs.rowLen (j:=0) rfl a5
   have hs:=hs.sink 1
   have hs:=hs.sink 1
   refine Ox bc<|Zc<|Mv rfl<|As rfl<|Ox bu<|Zc<|Mv rfl<|Oad rfl<|As rfl<|Zd (aw (ah,(aa.take ab.toNat++(ar++aa.drop ad.toNat)),(i64.wrap (ad+1)),ac,a3,be) _ _ (T3 rfl) (Ai H (Ai (al.trans a4) (Ai hs bg))) (Nat.lt_succ_self _))
  refine Qt 13 [0,0,2,5,8,16,16,16,208,272,560,1040,2064] [8182,8185,8177,8160,0,7104,7840,7776,7200,6176,4096,0,0] [0,0,2,7,15,31,31,31,223,479,1023,2047,4095] [10,11,12] (fun w=>St w0 ak ((.row ac 21 ((Rep.int .i32).sz) aa.length ae)::(.box ao 29 ([v0]))::Γ) w) Vr (by kernel_rfl) (fun sh=>?_)
  have hs:=hs.drew
  refine Fm 0 sh rfl<|Fm 1 sh rfl<|Fy 2 sh rfl hs (fun w hs=>Hg (i:=0) Ua hs rfl rfl)<|Fp 3 sh rfl (fun w=>Za7 rfl rfl)<|Fm 4 sh rfl<|Za4 (dj:=21) rfl (fun az=>?_) (fun az=>?_)
  rw [if_pos az] at H
  refine Fy 5 sh rfl hs (fun w hs=>Yb 1 Zp8 hs rfl rfl rfl)<|Fp 6 sh rfl (fun w=>Qm rfl)<|Fp 7 sh rfl (fun w=>Qm rfl) ?_
  obtain ⟨an,H⟩:=gd H
  obtain ⟨b8,ap⟩:=hs.rowBlock (j:=0) rfl (by have:=an.2;omega)
  obtain ⟨_,rfl,a6⟩:=ai.at an.1 an.2
  refine Fy 8 sh rfl hs (fun w hs=>Vv (j:=0) Kk hs rfl ap rfl rfl an.1 an.2)<|Fy 9 sh rfl hs (fun w hs=>Xq Xn rfl (hs.rowCell (j:=0) rfl ap (a6 0 _ rfl)))<|F1 10 sh rfl (fun b9 bh=>Oe rfl ?_)
  obtain ⟨au,a7,H⟩:=bnd H
  refine Oc rfl (Qf.c hs (h0.mono (av.trans al)) a7) (fun ca w hpost=>?_)
  obtain ⟨rfl,hs⟩:=hpost
  refine Zd (bh _ _ (fun h _=>absurd h (by decide))<|Kn sh [] hs (by kernel_rfl)<|Fp 11 sh rfl (fun w=>Zq3 rfl rfl)<|Fp 12 sh rfl (fun w=>Ve rfl rfl)<|FE sh (bk _ _ _ sbn (a0 (decide (au≠0)) _ H hs)))
  rw [if_neg az] at H
  refine Fn 5 sh rfl<|Fn 6 sh rfl<|Fn 7 sh rfl<|Fn 8 sh rfl<|Fn 9 sh rfl<|Fn 10 sh rfl<|Fn 11 sh rfl<|Fp 12 sh rfl (fun w=>Qr rfl rfl)<|FE sh (bk _ _ _ sbn (a0 false _ H hs))
 rw [if_neg bb] at H
 refine Y5 (br _ _ (bp _ _<|Wr fun cb bi=>Mv rfl<|As rfl<|Ox bi<|Zm ?_))
 obtain rfl:=Z4 H
 exact r1 rfl ⟨_,_,_,rfl,(av.trans al),(hs.sub (ssc (ssk ssr))),ai⟩

def X9.j1 (x0 ab:Int):Option (Int×Int×Int×Bool):=some (i32.wrap (4352+(i32.wrap ((i32.wrap (x0-44032)).tdiv 588))),i32.wrap (4449+((i32.wrap ((i32.wrap (x0-44032)).tdiv 28)).tmod 21)),ab,true)
def X9.j2 (x0:Int) (aa:Bool):Option (Int×Int×Int×Bool):=if aa=true then (some (0,0,0,false)) else (if (i32.wrap (4519+((i32.wrap (x0-44032)).tmod 28)))=4519 then (X9.j1 x0 0) else (X9.j1 x0 (i32.wrap (4519+((i32.wrap (x0-44032)).tmod 28)))))
def X9.f (x0:Int):Option (Int×Int×Int×Bool):=if x0<44032 then (X9.j2 x0 true) else (X9.j2 x0 (decide (11172≤(i32.wrap (x0-44032)))))
theorem X9.c (hs:St w0 ρ (Γ) w) {x0:Int} {r:Int×Int×Int×Bool} (H:X9.f x0=some r):Zq Tryz.prog 180 [.int .i32 x0] w (fun v w'=>v=.tuple #[.int .i32 r.1,.int .i32 r.2.1,.int .i32 r.2.2.1,.bool r.2.2.2]∧St w0 ρ Γ w'):=by
 rw [X9.f] at H
 refine Et Tryz.func180 Tryz.ntmps180 rfl<|Wr fun aw aj=>As rfl<|As rfl<|As rfl<|As rfl<|Ox aj<|Wr fun ax ak=>Mv rfl<|Osu rfl<|As rfl<|Zd (ak _ _ ?_)
 refine Zi fun ay al=>Yt fun am an af=>?_
 have ag:∀ (aa:Bool) (w:World),X9.j2 x0 aa=some r→St w0 ρ (Γ) w→am [(6,.int .i32 (i32.wrap (x0-44032))),(15,.bool aa)] w:=by
  intro aa w H hs
  rw [X9.j2] at H
  refine an _ _<|Xh rfl (fun ac=>?_) (fun ac=>?_)
  rw [if_pos ac] at H
  refine Wr fun az ao=>As rfl<|As rfl<|As rfl<|As rfl<|Ox ao<|Zm ?_
  obtain rfl:=Z4 H
  exact Zzp rfl rfl rfl rfl rfl ⟨rfl,hs⟩
  rw [if_neg (bft ac)] at H
  refine Wx al<|Wr fun a0 ap=>Mv rfl<|O_y rfl (Zlw rfl rfl (by decide))<|Oad rfl<|As rfl<|Ox ap<|Yt fun aq ar ah=>?_
  have ai:∀ (ab:Int) (w:World),X9.j1 x0 ab=some r→St w0 ρ (Γ) w→aq [(6,.int .i32 (i32.wrap (x0-44032))),(7,.int .i32 ab)] w:=by
   intro ab w H hs
   rw [X9.j1] at H
   refine ar _ _<|Wr fun a1 au=>Mv rfl<|O_y rfl (Zdx rfl rfl (by decide))<|Oad rfl<|Mv rfl<|O_y rfl (Zdx rfl rfl (by decide))<|O_y rfl (Zlw rfl rfl (by decide))<|Oad rfl<|Mv rfl<|As rfl<|As rfl<|As rfl ?_
   refine As rfl<|Ox au<|Zm ?_
   obtain rfl:=Z4 H
   exact Zzp rfl rfl rfl rfl rfl ⟨rfl,hs⟩
  refine Wr fun a2 av=>Mv rfl<|Oeq rfl<|Ox av<|Xa rfl (fun ad=>?_) (fun ad=>?_)
  rw [if_pos ad] at H
  refine Zc<|As rfl<|Zd (ah _ _ _ (T2 rfl) (ai 0 _ H hs))
  rw [if_neg ad] at H
  exact Ui (ah _ _ _ (T2 rfl) (ai (i32.wrap (4519+((i32.wrap (x0-44032)).tmod 28))) _ H hs))
 refine Zc<|Mv rfl<|Ols rfl<|Mv rfl<|X4 (dj:=12) rfl (fun ae=>?_) (fun ae=>?_)
 rw [if_pos ae] at H
 refine On rfl<|On rfl<|Opk rfl<|Zd (af _ _ _ (T2 rfl) (ag true _ H hs))
 rw [if_neg ae] at H
 refine Oe rfl<|Mv rfl<|Oe rfl<|Oge rfl<|Opk rfl<|Zd (af _ _ _ (T2 rfl) (ag (decide (11172≤(i32.wrap (x0-44032)))) _ H hs))

end Go.Proofs.YthoicbafdanmkaaGreatDoor
/- Written by this repo's gen.py: for each Go function a Lean function with the same answers and the walk that shows it. -/
namespace Go.Proofs.YthoicbafdanmkaaGreatDoor
open Go.IntKind (i8 i16 i32 i64 u8 u16 u32 u64)
open Go.RowKit
set_option maxRecDepth 100000
set_option maxHeartbeats 4000000
variable {w0 w:World} {ρ:Hp} {Γ:List Kd}
set_option linter.unusedVariables false
def Zax.f (x0:Option Tab) (x1:List Chs) (x2:Int):Option (List Int):=(Z1.f x0 x2).bind fun aa=>(if aa=0 then (some ([]:List Int)) else (if (0:Int)≤i64.wrap (aa-1)∧i64.wrap (aa-1)<(x1.length:Int) then ((Xk.f ((rd x1 (i64.wrap (aa-1))).is_)).bind fun af=>(some af)) else none))
theorem Zax.c (hs:St w0 ρ (Γ) w) {v0:Value} {x0:Option Tab} (h0:Xw Vj ρ v0 x0) {v1:Value} {x1:List Chs} (h1:SlR Kz ρ v1 x1) {x2:Int} {r:List Int} (H:Zax.f x0 x1 x2=some r):Zq Tryz.prog 137 [v0,v1,.int .i32 x2] w (fun v w'=>∃ (ρ':Hp) (v0:Value) (cs0:List Value),v=v0∧Le ρ ρ'∧St w0 ρ' (.row v0 21 (Rep.int .i32).sz r.length cs0::Γ) w'∧Zp (Rep.int .i32) ρ' cs0 r):=by
 rw [Zax.f] at H
 refine Et Tryz.func137 Tryz.ntmps137 rfl<|Wr fun aw ah=>As rfl<|Ox ah<|Wr fun ax ai=>Mv rfl<|Mv rfl ?_
 obtain ⟨aa,ab,H⟩:=bnd H
 refine Oc rfl (Z1.c hs h0 ab) (fun ay w hpost=>?_)
 obtain ⟨rfl,hs⟩:=hpost
 refine As rfl<|Ox ai<|Zi fun az aj=>Wr fun a0 ak=>Mv rfl<|Oeq rfl<|Ox ak<|Xa rfl (fun ac=>?_) (fun ac=>?_)
 rw [if_pos ac] at H
 refine Wr fun a1 al=>As rfl<|Ox al<|Zm ?_
 have hs:=hs.rowNil 21 (Rep.int .i32).sz
 have am:=Zp.nil (Rep.int .i32) ρ
 obtain rfl:=Z4 H
 exact r1 rfl ⟨_,_,_,rfl,Le.rfl' _,hs,am⟩
 rw [if_neg ac] at H
 refine Wx aj<|Wr fun a2 an=>Mv rfl<|Mv rfl<|Osu rfl ?_
 obtain ⟨ag,H⟩:=gd H
 obtain ⟨a3,a4,ao,ap⟩:=h1.ix Zep ag.1 ag.2
 obtain ⟨_,⟨a5,rfl,aq⟩,ar⟩:=ao
 refine O_y rfl (ap rfl rfl)<|Ofd Zac rfl<|O_y rfl (Xq Za1 rfl (hs.see (ar 2 _ rfl))) ?_
 obtain ⟨af,ad,H⟩:=bnd H
 refine Oc rfl (Xk.c hs aq ad) (fun a6 w hpost=>?_)
 obtain ⟨a7,a8,au,rfl,ae,hs,av⟩:=hpost
 refine As rfl<|Ox an<|W.weak [(6,_)] (S1 rfl)<|Zm ?_
 obtain rfl:=Z4 H
 exact r1 rfl ⟨_,_,_,rfl,ae,hs,av⟩

def V1.f (x0:Option Tbs) (x1:Int):Option (List Int):=if ((x0).isNone)=true then (some ([]:List Int)) else (if x0.isSome=true then ((Zax.f (((x0).getD default).decomp) ((((x0).getD default).b).decomp) x1).bind fun aa=>(some aa)) else none)
theorem V1.c (hs:St w0 ρ (Γ) w) {v0:Value} {x0:Option Tbs} (h0:Xw H4 ρ v0 x0) {x1:Int} {r:List Int} (H:V1.f x0 x1=some r):Zq Tryz.prog 181 [v0,.int .i32 x1] w (fun v w'=>∃ (ρ':Hp) (v0:Value) (cs0:List Value),v=v0∧Le ρ ρ'∧St w0 ρ' (.row v0 21 (Rep.int .i32).sz r.length cs0::Γ) w'∧Zp (Rep.int .i32) ρ' cs0 r):=by
 rw [V1.f] at H
 refine Et Tryz.func181 Tryz.ntmps181 rfl<|Wr fun cm ap=>As rfl<|Ox ap<|Zi fun cn aq=>Wr fun co ar=>Mv rfl<|O_y rfl ((h0.eqn Zp9 rfl rfl))<|Ox ar<|Xh rfl (fun ae=>?_) (fun ae=>?_)
 rw [if_pos ae] at H
 refine Wr fun cp au=>As rfl<|Ox au<|Zm ?_
 have hs:=hs.rowNil 21 (Rep.int .i32).sz
 have av:=Zp.nil (Rep.int .i32) ρ
 obtain rfl:=Z4 H
 exact r1 rfl ⟨_,_,_,rfl,Le.rfl' _,hs,av⟩
 rw [if_neg (bft ae)] at H
 refine Wx aq<|Zi fun cq aw=>Qt 12 [0,1,2,4,0,16,32,64,128,0,776,2047] [2044,2040,2032,1008,1999,1935,1807,1551,527,511,0,0] [0,1,3,7,0,16,48,112,240,0,1023,2047] [10,11] (fun w=>St w0 ρ (Γ) w) Vr (by kernel_rfl) (fun sh=>?_)
 have hs:=hs.drew
 refine Fm 0 sh rfl ?_
 obtain ⟨an,H⟩:=gd H
 obtain ⟨cr,af,ax⟩:=h0.open an
 obtain ⟨_,⟨cs,ct,cu,cv,cw,cx,cy,cz,da,db,dc,dd,de,df,dg,dh,ay,az,a0,a1,a2,a3,rfl,di,dj,dk,dl,dm,dn,dp,dq,dr,ds,dt,du,dv,dw,dx,dy,a4,a5,a6,ag,a7,a8⟩,ah⟩:=ax
 refine Fp 1 sh rfl (fun w=>Vh (congrArg some af))<|Fp 2 sh rfl (fun w=>Zw Zw7 rfl)<|Fy 3 sh rfl hs (fun w hs=>Xq Zc5 rfl (hs.see (ah 19 _ rfl)))<|Fm 4 sh rfl ?_
 obtain ⟨a9,ab,ai⟩:=h0.open an
 obtain ⟨_,⟨ba,bb,bc,bd,be,bf,bg,bh,bi,bj,bk,bl,bm,bn,bo,bp,bq,br,bs,bt,bu,bv,rfl,bw,bx,bz,b0,aj,b1,b2,b3,b4,b5,b6,b7,b8,b9,ca,cb,cc,cd,ce,cf,cg,ch⟩,ak⟩:=ai
 refine Fp 5 sh rfl (fun w=>Vh (congrArg some ab))<|Fp 6 sh rfl (fun w=>Zw Zwt rfl)<|Fp 7 sh rfl (fun w=>Zw Zfp rfl)<|Fy 8 sh rfl hs (fun w hs=>Xq Zfe rfl (hs.see (ak 4 _ rfl)))<|Fm 9 sh rfl<|F1 10 sh rfl (fun ci al=>?_)
 obtain ⟨aa,ac,H⟩:=bnd H
 refine Oc rfl (Zax.c hs ag aj ac) (fun cj w hpost=>?_)
 obtain ⟨ck,cl,ao,rfl,ad,hs,am⟩:=hpost
 refine Zd (al _ _ (fun h _=>absurd h (by decide))<|Kn sh [] hs (by kernel_rfl)<|Fp 11 sh rfl (fun w=>Xz rfl)<|FE sh (aw _ _<|W.weak [(4,_)] (S1 rfl)<|Zm ?_))
 obtain rfl:=Z4 H
 exact r1 rfl ⟨_,_,_,rfl,ad,hs,am⟩

def Ql.l1:Nat→(Option Tbs→Int→Option (List Int))→Option Tbs→List Int→List Int→Int→Option (List Int)
  | 0,_,_,_,_,_=>none
  | af+1,rec,x0,aj,aa,ab=>if ab<(aj.length:Int) then (if (0:Int)≤ab∧ab<(aj.length:Int) then ((rec x0 (rd aj ab)).bind fun al=>(if aa.length+al.length≤most then ((Ql.l1 af rec x0 aj) (aa++al) (i64.wrap (ab+1))) else none)) else none) else (some aa)
def Ql.b (rec:Option Tbs→Int→Option (List Int)) (x0:Option Tbs) (x1:Int):Option (List Int):=(X9.f x1).bind fun ae=>(if ae.2.2.2=true then (if ae.2.2.1=0 then (some ([ae.1,ae.2.1])) else (some ([ae.1,ae.2.1,ae.2.2.1]))) else ((V1.f x0 x1).bind fun aj=>(if (aj.length:Int)=0 then (some ([x1])) else (Ql.l1 K0 rec x0 aj ([]:List Int) 0))))
def Ql.f:Nat→Option Tbs→Int→Option (List Int)
  | 0,_,_=>none
  | k+1,x0,x1=>Ql.b (Ql.f k) x0 x1
def Ql.Spec (rec:Option Tbs→Int→Option (List Int)):Prop:=∀ {w0 w:World} {ρ:Hp} {Γ:List Kd} (hs:St w0 ρ (Γ) w) {v0:Value} {x0:Option Tbs} (h0:Xw H4 ρ v0 x0) {x1:Int} {r:List Int},rec x0 x1=some r→Zq Tryz.prog 168 [v0,.int .i32 x1] w (fun v w'=>∃ (ρ':Hp) (v0:Value) (cs0:List Value),v=v0∧Le ρ ρ'∧St w0 ρ' (.row v0 21 (Rep.int .i32).sz r.length cs0::Γ) w'∧Zp (Rep.int .i32) ρ' cs0 r)
theorem Ql.cb (rec:Option Tbs→Int→Option (List Int)) (hrec:Ql.Spec rec) {w0 w:World} {ρ:Hp} {Γ:List Kd} (hs:St w0 ρ (Γ) w) {v0:Value} {x0:Option Tbs} (h0:Xw H4 ρ v0 x0) {x1:Int} {r:List Int} (H:Ql.b rec x0 x1=some r):Zq Tryz.prog 168 [v0,.int .i32 x1] w (fun v w'=>∃ (ρ':Hp) (v0:Value) (cs0:List Value),v=v0∧Le ρ ρ'∧St w0 ρ' (.row v0 21 (Rep.int .i32).sz r.length cs0::Γ) w'∧Zp (Rep.int .i32) ρ' cs0 r):=by
 rw [Ql.b] at H
 refine Et Tryz.func168 Tryz.ntmps168 rfl<|Wr fun ci bk=>As rfl<|Ox bk<|Zi fun cj bl=>Wr fun ck bm=>Mv rfl ?_
 obtain ⟨ae,ay,H⟩:=bnd H
 refine Oc rfl (X9.c hs ay) (fun cl w hpost=>?_)
 obtain ⟨rfl,hs⟩:=hpost
 refine Mv rfl<|Oxt rfl<|Oxt rfl<|Oxt rfl<|Oxt rfl<|As rfl<|As rfl<|As rfl<|As rfl<|Ox bm<|Wr fun cm bn=>Mv rfl<|Zd (bn _ _ ?_)
 refine W.weak [(0,_),(1,_),(5,_),(6,_),(7,_),(20,_)] sbn ?_
 refine Xh rfl (fun az=>?_) (fun az=>?_)
 rw [if_pos az] at H
 refine Zi fun cn bo=>Wr fun co bp=>Mv rfl<|Oeq rfl<|Ox bp<|Xa rfl (fun a0=>?_) (fun a0=>?_)
 rw [if_pos a0] at H
 refine Wr fun cp bq=>Mv rfl<|Mv rfl<|K6 (xs:=[.tmp 23,.tmp 24]) (cs:=[.int .i32 ae.1,.int .i32 ae.2.1]) Kk hs rfl rfl rfl (by decide) (by decide) rfl (Yd rfl (Yd rfl Ki)) (Zx rfl (Zx rfl X6)) (fun cq w hs=>?_)
 have br:Zp (Rep.int .i32) ρ ([.int .i32 ae.1,.int .i32 ae.2.1]) [ae.1,ae.2.1]:=Zp.cons (c:=[.int .i32 ae.1]) (x:=ae.1) rfl (Zp.cons (c:=[.int .i32 ae.2.1]) (x:=ae.2.1) rfl (Zp.nil _ _))
 refine As rfl<|Ox bq<|Zm ?_
 obtain rfl:=Z4 H
 exact r1 rfl ⟨_,_,_,rfl,Le.rfl' _,hs,br⟩
 rw [if_neg a0] at H
 refine Wx bo<|Wr fun cr bs=>Mv rfl<|Mv rfl<|Mv rfl<|K6 (xs:=[.tmp 26,.tmp 27,.tmp 28]) (cs:=[.int .i32 ae.1,.int .i32 ae.2.1,.int .i32 ae.2.2.1]) Kk hs rfl rfl rfl (by decide) (by decide) rfl (Yd rfl (Yd rfl (Yd rfl Ki))) (Zx rfl (Zx rfl (Zx rfl X6))) (fun ct w hs=>?_)
 have bt:Zp (Rep.int .i32) ρ ([.int .i32 ae.1,.int .i32 ae.2.1,.int .i32 ae.2.2.1]) [ae.1,ae.2.1,ae.2.2.1]:=Zp.cons (c:=[.int .i32 ae.1]) (x:=ae.1) rfl (Zp.cons (c:=[.int .i32 ae.2.1]) (x:=ae.2.1) rfl (Zp.cons (c:=[.int .i32 ae.2.2.1]) (x:=ae.2.2.1) rfl (Zp.nil _ _)))
 refine As rfl<|Ox bs<|Zm ?_
 obtain rfl:=Z4 H
 exact r1 rfl ⟨_,_,_,rfl,Le.rfl' _,hs,bt⟩
 rw [if_neg (bft az)] at H
 refine Wx bl<|Wr fun cu bu=>Mv rfl<|Mv rfl ?_
 obtain ⟨aj,a1,H⟩:=bnd H
 refine Oc rfl (V1.c hs h0 a1) (fun a2 w hpost=>?_)
 obtain ⟨ax,cv,a3,rfl,ap,hs,bv⟩:=hpost
 refine As rfl<|Ox bu<|Zi fun cw bw=>Wr fun cx bx=>Mv rfl<|O_y rfl (Hg (i:=0) Ua hs rfl rfl)<|Oeq rfl<|Ox bx<|Xa rfl (fun a4=>?_) (fun a4=>?_)
 rw [if_pos a4] at H
 refine Wr fun cy bz=>Mv rfl<|K6 (xs:=[.tmp 36]) (cs:=[.int .i32 x1]) Kk hs rfl rfl rfl (by decide) (by decide) rfl (Yd rfl Ki) (Zx rfl X6) (fun cz w hs=>?_)
 have b0:Zp (Rep.int .i32) ax ([.int .i32 x1]) [x1]:=Zp.cons (c:=[.int .i32 x1]) (x:=x1) rfl (Zp.nil _ _)
 refine As rfl<|Ox bz<|W.weak [(4,_)] (S1 rfl)<|Zm ?_
 obtain rfl:=Z4 H
 exact r1 rfl ⟨_,_,_,rfl,ap,(hs.sub (ssc (ssk ssr))),b0⟩
 rw [if_neg a4] at H
 refine Wx bw<|Wr fun da a5=>As rfl ?_
 have hs:=hs.rowNil 21 (Rep.int .i32).sz
 have a6:=Zp.nil (Rep.int .i32) ax
 refine Ox a5<|Zi fun b1 a7=>Wr fun b2 a8=>Mv rfl<|O_y rfl (Hg (i:=1) Ua hs rfl rfl)<|Mv rfl<|Ox a8<|W.weak [(0,_),(10,_),(38,_),(39,_),(40,_)] sbn ?_
 refine Zl fun b3 a9 b4=>Xb (σ:=Nat×List Int×Int×Value×List Value×Hp) (fun (af,aa,ab,ac,ad,ai)=>[(0,v0),(10,ac),(38,a2),(39,.int .i64 (aj.length:Int)),(40,.int .i64 ab)]) (fun (af,aa,ab,ac,ad,ai) w=>Ql.l1 af rec x0 aj aa ab=some r∧Le ax ai∧St w0 ai ((.row ac 21 ((Rep.int .i32).sz) aa.length ad)::(.row a2 21 ((Rep.int .i32).sz) aj.length a3)::Γ) w∧Zp (Rep.int .i32) ai ad aa) (fun s=>s.1) (K0,([]:List Int),0,(.slice none 0 0),([]),ax) sbn (Ai H (Ai (Le.rfl' _) (Ai hs a6))) ?_
 rintro ⟨af,aa,ab,ac,ad,ai⟩ w b5 ⟨H,ah,hs,ag⟩ am
 show W _ _ _ _ _ _ [(0,v0),(10,ac),(38,a2),(39,.int .i64 (aj.length:Int)),(40,.int .i64 ab)] w
 cases af with
 | zero=>rw [Ql.l1] at H;cases H
 | succ af=>
 rw [Ql.l1] at H
 refine Wr fun b6 ba=>Ols rfl<|Ox ba<|Zi fun b7 bb=>Xa rfl (fun aq=>?_) (fun aq=>?_)
 rw [if_pos aq] at H
 refine Wx bb<|Zi fun b8 bc=>Zl fun b9 ca cc=>Zi fun cd bd=>Zc ?_
 obtain ⟨ak,H⟩:=gd H
 obtain ⟨ce,an⟩:=hs.rowBlock (j:=1) rfl (by have:=ak.2;omega)
 obtain ⟨_,rfl,ar⟩:=(bv.mono ah).at ak.1 ak.2
 refine O_y rfl (Vv (j:=1) Kk hs rfl an rfl rfl ak.1 ak.2)<|O_y rfl (Xq Xn rfl (hs.rowCell (j:=1) rfl an (ar 0 _ rfl)))<|As rfl<|Ox bd<|Zc<|Mv rfl<|Mv rfl<|Mv rfl ?_
 obtain ⟨al,au,H⟩:=bnd H
 refine Oc rfl (hrec hs (h0.mono (ap.trans ah)) au) (fun cf w hpost=>?_)
 obtain ⟨be,cg,bj,rfl,ao,hs,av⟩:=hpost
 obtain ⟨bf,H⟩:=gd H
 refine Q3 (i:=1) Kk hs rfl (ag.mono ao) rfl rfl rfl (Src.lit (j:=0) hs rfl av) av bf (fun bg aw w bh hs=>As rfl<|Ox bc<|Zc<|Oad rfl<|Mv rfl<|Zd (am (af,(aa++al),(i64.wrap (ab+1)),bg,aw,be) _ _ sbn (Ai H (Ai (ah.trans ao) (Ai (hs.sub (ssk (ssc (ssc ssr)))) bh))) (Nat.lt_succ_self _)))
 rw [if_neg aq] at H
 refine Y5 (a9 _ _ (a7 _ _<|Wr fun ch bi=>Mv rfl<|As rfl<|Ox bi<|Zm ?_))
 obtain rfl:=Z4 H
 exact r1 rfl ⟨_,_,_,rfl,(ap.trans ah),(hs.sub (ssc (ssk ssr))),ag⟩
theorem Ql.c (k:Nat):Ql.Spec (Ql.f k):=by
 induction k with
 | zero=>intro w0 w ρ Γ hs v0 x0 h0 x1 r H;exact nomatch (show (none:Option _)=some _ from H)
 | succ k ih=>intro w0 w ρ Γ hs v0 x0 h0 x1 r H;exact Ql.cb (Ql.f k) ih hs h0 H

def Vm.l1:Nat→Option Tbs→List Int→List Int→Int→Option (List Int)
  | 0,_,_,_,_=>none
  | ae+1,x0,x1,aa,ab=>if ab<(x1.length:Int) then (if (0:Int)≤ab∧ab<(x1.length:Int) then ((Ql.f K0 x0 (rd x1 ab)).bind fun ak=>(if aa.length+ak.length≤most then ((Vm.l1 ae x0 x1) (aa++ak) (i64.wrap (ab+1))) else none)) else none) else (some aa)
def Vm.f (x0:Option Tbs) (x1:List Int):Option (List Int):=Vm.l1 K0 x0 x1 ([]:List Int) 0
theorem Vm.c (hs:St w0 ρ (Γ) w) {v0:Value} {x0:Option Tbs} (h0:Xw H4 ρ v0 x0) {v1:Value} {x1:List Int} (h1:SlR (Rep.int .i32) ρ v1 x1) {r:List Int} (H:Vm.f x0 x1=some r):Zq Tryz.prog 136 [v0,v1] w (fun v w'=>∃ (ρ':Hp) (v0:Value) (cs0:List Value),v=v0∧Le ρ ρ'∧St w0 ρ' (.row v0 21 (Rep.int .i32).sz r.length cs0::Γ) w'∧Zp (Rep.int .i32) ρ' cs0 r):=by
 rw [Vm.f] at H
 refine Et Tryz.func136 Tryz.ntmps136 rfl<|Wr fun ba aq=>As rfl<|Ox aq<|Wr fun bb ar=>As rfl ?_
 have hs:=hs.rowNil 21 (Rep.int .i32).sz
 have au:=Zp.nil (Rep.int .i32) ρ
 refine Ox ar<|Zi fun bc av=>Wr fun bd aw=>Mv rfl<|O_y rfl (Yx Ua h1 rfl)<|Mv rfl<|Ox aw<|Zl fun be ax bf=>Xb (σ:=Nat×List Int×Int×Value×List Value×Hp) (fun (ae,aa,ab,ac,ad,ah)=>[(0,v0),(5,ac),(8,v1),(9,.int .i64 (x1.length:Int)),(10,.int .i64 ab)]) (fun (ae,aa,ab,ac,ad,ah) w=>Vm.l1 ae x0 x1 aa ab=some r∧Le ρ ah∧St w0 ah ((.row ac 21 ((Rep.int .i32).sz) aa.length ad)::Γ) w∧Zp (Rep.int .i32) ah ad aa) (fun s=>s.1) (K0,([]:List Int),0,(.slice none 0 0),([]),ρ) sbn (Ai H (Ai (Le.rfl' _) (Ai hs au))) ?_
 rintro ⟨ae,aa,ab,ac,ad,ah⟩ w bg ⟨H,ag,hs,af⟩ ai
 show W _ _ _ _ _ _ [(0,v0),(5,ac),(8,v1),(9,.int .i64 (x1.length:Int)),(10,.int .i64 ab)] w
 cases ae with
 | zero=>rw [Vm.l1] at H;cases H
 | succ ae=>
 rw [Vm.l1] at H
 refine Wr fun bh ay=>Ols rfl<|Ox ay<|Zi fun bi az=>Xa rfl (fun al=>?_) (fun al=>?_)
 rw [if_pos al] at H
 refine Wx az<|Zi fun bj a0=>Zl fun bk bl bm=>Zi fun bn a1=>Zc ?_
 obtain ⟨ao,H⟩:=gd H
 obtain ⟨bo,bp,a2,a3⟩:=(h1.mono ag).ix Kk ao.1 ao.2
 refine O_y rfl (a3 rfl rfl)<|O_y rfl (Xq Xn rfl (hs.see a2.int))<|As rfl<|Ox a1<|Zc<|Mv rfl<|Mv rfl<|Mv rfl ?_
 obtain ⟨ak,am,H⟩:=bnd H
 refine Oc rfl ((Ql.c K0) hs (h0.mono ag) am) (fun bq w hpost=>?_)
 obtain ⟨a4,br,a5,rfl,aj,hs,ap⟩:=hpost
 obtain ⟨a6,H⟩:=gd H
 refine Q3 (i:=1) Kk hs rfl (af.mono aj) rfl rfl rfl (Src.lit (j:=0) hs rfl ap) ap a6 (fun a7 an w a8 hs=>As rfl<|Ox a0<|Zc<|Oad rfl<|Mv rfl<|Zd (ai (ae,(aa++ak),(i64.wrap (ab+1)),a7,an,a4) _ _ sbn (Ai H (Ai (ag.trans aj) (Ai (hs.sub (ssk (ssc ssr))) a8))) (Nat.lt_succ_self _)))
 rw [if_neg al] at H
 refine Y5 (ax _ _ (av _ _<|Wr fun bs a9=>Mv rfl<|As rfl<|Ox a9<|Zm ?_))
 obtain rfl:=Z4 H
 exact r1 rfl ⟨_,_,_,rfl,ag,hs,af⟩

def U3.f (x0:Option Tbs) (x1:List Int):Option (List Int):=(Vm.f x0 x1).bind fun af=>((Y3.f x0 af).bind fun ag=>(some ag))
theorem U3.c (hs:St w0 ρ (Γ) w) {v0:Value} {x0:Option Tbs} (h0:Xw H4 ρ v0 x0) {v1:Value} {x1:List Int} (h1:SlR (Rep.int .i32) ρ v1 x1) {r:List Int} (H:U3.f x0 x1=some r):Zq Tryz.prog 80 [v0,v1] w (fun v w'=>∃ (ρ':Hp) (v0:Value) (cs0:List Value),v=v0∧Le ρ ρ'∧St w0 ρ' (.row v0 21 (Rep.int .i32).sz r.length cs0::Γ) w'∧Zp (Rep.int .i32) ρ' cs0 r):=by
 rw [U3.f] at H
 refine Et Tryz.func80 Tryz.ntmps80 rfl<|Wr fun ao ah=>As rfl<|Ox ah<|Wr fun ap ai=>Mv rfl<|Mv rfl<|Mv rfl ?_
 obtain ⟨af,ac,H⟩:=bnd H
 refine Oc rfl (Vm.c hs h0 h1 ac) (fun aq w hpost=>?_)
 obtain ⟨ar,au,aj,rfl,aa,hs,ak⟩:=hpost
 obtain ⟨av,ab,hs,al⟩:=hs.rowEnd (j:=0) ak rfl
 obtain ⟨ag,ad,H⟩:=bnd H
 refine Oc rfl (Y3.c hs (h0.mono (aa.trans ab)) al ad) (fun aw w hpost=>?_)
 obtain ⟨ax,ay,am,rfl,ae,hs,an⟩:=hpost
 refine As rfl<|Ox ai<|Zm ?_
 obtain rfl:=Z4 H
 exact r1 rfl ⟨_,_,_,rfl,((aa.trans ab).trans ae),hs,an⟩

end Go.Proofs.YthoicbafdanmkaaGreatDoor
