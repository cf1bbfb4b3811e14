/- Part. -/
import Derived.Test.YtakcjkbnfegidaaGreatPT14
set_option linter.all false
namespace Go.Proofs.YtakcjkbnfegidaaGreat
open Go Go.RowKit Tryz
section
open Classical
abbrev anz(x:cM)(w:World)(b2 b3 L Dk:Nat)(u:World):Prop:=∃r:Loop,dc u L r/\r.state≠.busy/\r.pending=some .ret/\ax w u/\aP u b2 50 pa/\(∃e,aP u b3 51 [iv e]/\e≠0/\(ia x).err=e)/\u.heap[Dk]? =some (.deferred (some []))
section
variable {w:World}
set_option maxRecDepth 8000 in
set_option maxHeartbeats 8000000 in
theorem Tw{F:Fr}{RL:Loop}{x:cM}{W0 u u2:World}{cX:Nat->Nat}{k L Dk H n1 n2 b1 b2 b3 b4 b5 b7 b8 b9 b10 gi ci gs gI gE gS gT gL ga gg:Nat}{rI cI rE cE rS cS rT cT rL cL:Nat->Nat}{rest:aW}{A1 A2 A3 A4 A5 A6 G1 G2 G3 G4 G5 G6 G7 G8:bZ}{c1 c2 n3 c3 n4 c4 n5 c5 n6 c6 m1 e1 m2 e2 m3 e3 m4 e4 m5 e5 m6 e6 m7 e7 m8 e8:Nat}(hF:Has F [(1,ptr b1),(2,ptr b2),(3,ptr b3),(4,ptr b4),(7,ptr b7),(8,ptr b8),(9,ptr b9),(10,ptr b10),(11,iv ((k:Int)*x.every)),(12,iv (min ((k:Int)*x.every+x.every) x.d.aG))])(hRL:RL.state=.ready/\RL.pending=none)(hlt:(k:Int)*x.every<x.d.aG)(J:acN x w W0 cX k b2 b8 b10 gs ga gg gI gE gS gT gL n1 n2 H rI cI rE cE rS cS rT cT rL cL u)(k2:aj (λb=>b≠L) u u2)(l2:dc u2 L {RL with state:=.busy})(hx:iu (λb=>b<w.heap.size) w ([.string x.d.name,iv x.d.aG,iv x.d.cap,iv x.d.bH,aB A1 n1 c1,aB A2 n2 c2,aB A3 n3 c3,aB A4 n4 c4,aB A5 n5 c5,aB A6 n6 c6]++[iv x.every,aB G1 m1 e1,aB G2 m2 e2,aB G3 m3 e3,aB G4 m4 e4,aB G5 m5 e5,aB G6 m6 e6,aB G7 m7 e7,aB G8 m8 e8]) x)(few:Pl x)(q:gP x=0)(hH:x.d.aG=H)(hI:ax w W0)(B1:aP W0 b1 42 ([.string x.d.name,iv x.d.aG,iv x.d.cap,iv x.d.bH,aB A1 n1 c1,aB A2 n2 c2,aB A3 n3 c3,aB A4 n4 c4,aB A5 n5 c5,aB A6 n6 c6]++[iv x.every,aB G1 m1 e1,aB G2 m2 e2,aB G3 m3 e3,aB G4 m4 e4,aB G5 m5 e5,aB G6 m6 e6,aB G7 m7 e7,aB G8 m8 e8]))(B3:aP W0 b3 51 [iv 0])(B4:aP W0 b4 31 [.string x.d.name,iv x.d.aG,iv x.d.cap,iv x.d.bH,aB A1 n1 c1,aB A2 n2 c2,aB A3 n3 c3,aB A4 n4 c4,aB A5 n5 c5,aB A6 n6 c6])(B5:aP W0 b5 3 [iv (n1:Int)])(B7:aP W0 b7 48 [aB (aL gi) H ci,aB (aL gs) H H,aB (aL gI) n1 n1,aB (aL gE) n1 n1,aB (aL gS) n1 n1,aB (aL gT) n2 n2,aB (aL gL) n1 n1])(B9:aP W0 b9 103 [.func (.func 25) #[] #[ptr b5,ptr b4,ptr b7,ptr b1,ptr b8]])(Bi:aP W0 gi 3 (cJ x.dU++rest))(o4:W0.heap[Dk]? =some (.deferred (some [])))(ej:∀b,W0.heap.size<=b->cX b=9)(aq:∀b,(b=b2\/b=b10\/b=ga\/b=gg\/b=L)->cX b=8)(tq:cX b8=7)(ts:cX gs=6)(j8:cX b1=0)(wi:cX b3=0)(j5:cX b4=0)(ow:cX b5=0)(j4:cX b7=0)(wb:cX b9=0)(ou:cX gi=0)(wa:cX Dk=0)(cw:∀b,b<w.heap.size->cX b=0)(hb:w.heap.size<=b1/\b1<b2/\b2<b3/\b3<b4/\b4<b5/\b5<b7/\b7<b8/\b8<b9/\b9<b10/\b10<ga/\b10<gg/\ga≠gg/\b5<gs/\gs<b8/\ga<Dk/\gg<Dk/\Dk+1=L/\L<W0.heap.size):V prog (Tu (body Tryz.f7)) (Bp L λv w'=>(v=.bool true/\acN x w W0 cX (k+1) b2 b8 b10 gs ga gg gI gE gS gT gL n1 n2 H rI cI rE cE rS cS rT cT rL cL w'/\dc w' L RL)\/(v=.bool false/\anz x w b2 b3 L Dk w')) F [] u2:=by
 rw[<-rq hF];conv in(Tu _)=>whnf
 obtain⟨hb0,hb1,hb2,hb3,hb4,Gb,Ga,hb7,G9,G0,Bo,Bq,Bm,Bk,Bj,Bh,Bf,Bd⟩:=hb;have hd0:iG (λb=>b<w.heap.size) w [.string x.d.name,iv x.d.aG,iv x.d.cap,iv x.d.bH,aB A1 n1 c1,aB A2 n2 c2,aB A3 n3 c3,aB A4 n4 c4,aB A5 n5 c5,aB A6 n6 c6] x.d:=by
  obtain⟨w8,zc,sg,vx,yt,sd,vp,yr,sc,e3',yl,sa,vo,yi,s9,vb,xy,s8,va,qi,lB,ud,qg,lu,ua,ec,hd,-⟩:=hx.ex;obtain⟨kj,hN,pe,kc,hM,p0,qE,lr,oL,qB,lq,oA,qs,lp,oy,qq,ll,ox,rfl,-⟩:=hd.ex;simp only[atC,auy,List.cons.injEq,Value.slice.injEq] at ec;have e:([.string x.d.name,iv x.d.aG,iv x.d.cap,iv x.d.bH,aB A1 n1 c1,aB A2 n2 c2,aB A3 n3 c3,aB A4 n4 c4,aB A5 n5 c5,aB A6 n6 c6]:aW)=[.string x.d.name,iv x.d.aG,iv x.d.cap,iv x.d.bH,aB kj hN pe,aB kc hM p0,aB qE lr oL,aB qB lq oA,aB qs lp oy,aB qq ll ox]:=by simp_all
  rw[e];exact hd
 obtain⟨fa,fe,hev,j0⟩:bS lH (λb=>b<w.heap.size) w A1 n1 x.d.aD/\bS yQ (λb=>b<w.heap.size) w A2 n2 x.d.aR/\bS gC (λb=>b<w.heap.size) w G7 m7 x.dN/\bS gC (λb=>b<w.heap.size) w G8 m8 x.kM:=by
  obtain⟨w8,zc,sg,vx,yt,sd,vp,yr,sc,e3',yl,sa,vo,yi,s9,vb,xy,s8,va,qi,lB,ud,qg,lu,ua,ec,hd,-,-,-,-,-,-,hev,j0,-⟩:=hx.ex;obtain⟨kj,hN,pe,kc,hM,p0,qE,lr,oL,qB,lq,oA,qs,lp,oy,qq,ll,ox,rfl,fa,fe,-⟩:=hd.ex;simp only[atC,auy,List.cons.injEq,Value.slice.injEq] at ec;refine⟨?_,?_,?_,?_⟩
  .have e:A1=kj/\n1=hN:=by simp_all
   rw[e.1,e.2];exact fa
  .have e:A2=kc/\n2=hM:=by simp_all
   rw[e.1,e.2];exact fe
  .have e:G7=qi/\m7=lB:=by simp_all
   rw[e.1,e.2];exact hev
  .have e:G8=qg/\m8=lu:=by simp_all
   rw[e.1,e.2];exact j0
 have D6:=fa.an;have DD:=fe.an;have fp:=few.p;have sn:=wW q;have hh:=eC sn.d;obtain⟨EE,sQ⟩:=pP.1 sn.inf;have Ge:=fp.h;have Gc:=fp.r;have Gf:=fp.f;have sT:∀v∈x.dU,jt v:=λv hv=>by have:=sQ v hv;unfold jt;omega
 have u0:({{RL with state:=.busy} with state:=.ready,pending:=none}:Loop)=RL:=by cases RL;simp only at hRL;rw[hRL.1,hRL.2]
 obtain⟨As,w9,eL,Q,Ag,ng,cg,Ao,no,co,B2,oS,fl,hQ,B10,oG,ff,bx⟩:=J.ex;have nL:∀b,cX b≠8->b≠L:=λb hb e=>hb (aq b Y);have fU:∀b,cX b<9->b<W0.heap.size:=λb h=>Nat.lt_of_not_le λq=>by have:=ej b q;omega
 have KA:aj (λb=>cX b=0) W0 u2:=J.K.ag k2 λb _ h=>nL b Y;have zu:=J.K.size;have BO:=k2.size;have qR:ax w u:=oS.ae;have ct:ax w u2:=qR.ag k2 λb hb _=>Y;have l3:=oG.bY k2 (λg hg=>by have:=bx g hg;omega) ct;have s6:=oS.bY k2 (λg hg=>by have:=ff g hg;omega) ct;obtain⟨sG,lG⟩:=l3.WB (D:=λb=>b<u2.heap.size) (by have h1:=J.an;have h2:=oG.own.an;rw[bz (K:=5) λ_=>rfl] at h2;omega) λb _ h=>h;have B8:=J.B8.ah k2 Y;have B10:=B10.ah k2 Y;have B2:=B2.ah k2 Y;have hmk:mK x k=(eX x k).toNat:=by unfold mK;rw[Int.min_eq_left (by unfold eX;omega)]
 rw[hmk] at B8;refine fj ([.string x.d.name,iv x.d.aG,iv x.d.cap,iv x.d.bH,aB A1 n1 c1,aB A2 n2 c2,aB A3 n3 c3,aB A4 n4 c4,aB A5 n5 c5,aB A6 n6 c6]++[iv x.every,aB G1 m1 e1,aB G2 m2 e2,aB G3 m3 e3,aB G4 m4 e4,aB G5 m5 e5,aB G6 m6 e6,aB G7 m7 e7,aB G8 m8 e8]) (.aS (B1.ah KA j8)) U<|ld (iv (ug x k)) (B8.ai U)<|ld (aB Ag ng cg) (B10.ai U)<|aJ (Th (aI:=eX x k) ((hx.ae ct).ar λb _ hb=>by have:=ct.size;omega) sG few (by rw[lG];exact J.an)) ?_;rintro _ u3 ⟨x3,cs,rfl,lcs,ec,hok⟩;refine alloc λpn u4 bt=>jR (vs:=cs) bt.aS lcs (by rw[lcs];exact asN _) (λv hv=>asH.1 ec v hv) λu5 ak hW _=>?_;have ak:aP u5 pn 60 cs:=by rw[lcs] at ak;have h:aP u5 pn 60 ([]++cs++[]):=ak;rwa [auy,asT] at h
 have Aq:=bt.au;have z3:=x3.size;have aa:ax u2 u5:=(x3.trans bt.ae).ag hW λb hb _ e=>Y;have KB:aj (λb=>cX b=0) W0 u5:=KA.ag aa λ_ _ _=>Yt;obtain⟨B2,B8,B10⟩:=P9 aa B2 B8 B10;have l5:=l2.ah aa Yt;have qS:=ct.trans aa;have BG:=aa.size;obtain⟨er,her⟩:∃er,er=eM x (eX x k) (ug x k) (cy x k).bX:=⟨_,U⟩;rw[<-her] at hok|-;refine cN (λqe=>?_) λqe=>?_
 .skip;have oq:=Tp sn hlt J.err (by rw[<-her];exact qe);rw[<-her] at oq;refine hY pa Z<|jR (vs:=pa) B2 U Yl (λu hu=>asH.1 (show(pa.all λu=>u.oneCell')=true from U) u hu) λu6 C2 k6 _=>?_;have C2:aP u6 b2 50 pa:=C2;refine st ((B3.ah KB wi).ah k6 Y) (by simp) U λu7 C3 k7 _=>?_;have C3:aP u7 b3 51 [iv er]:=C3;refine vM _ ((l5.ah k6 Y).ah k7 Y) λu8 k8 l8=>?_;have kk:aj (λb=>b≠b2/\b≠b3/\b≠L) u5 u8:=((k6.cU λb _ h=>h.1).ag k7 λb _ h=>h.2.1).ag k8 λb _ h=>h.2.2;exact .inr ⟨U,_,l8,by simp,U,qS.ag kk λb hb _=>⟨Y,Y,Y⟩,(C2.ah k7 Y).ah k8 Y,⟨er,C3.ah k8 Y,qe,oq⟩,(kk.aS _ Y ⟨Y,Y,Y⟩).trans ((KB.aS _ Y wa).trans o4)⟩
 have kB:er=0:=qe;obtain⟨SR,DV⟩:=hok kB;obtain⟨a1,k1,d1,a2,bo,d2,a3,k3,d3,rfl,oc,os',oa⟩:=SR.ex;obtain⟨iw,a6⟩:∃s,s=ra x (eX x k) (ug x k) (cy x k).bX:=⟨_,U⟩;rw[<-a6] at SR DV ak oc os' oa;have e0:eM x (eX x k) (ug x k) (cy x k).bX=0:=her.symm.trans kB;have P:=tC.1 e0;have I:=Wz (x:=x) q k (λj hj=>J.mad j hj) J.err λj hj=>J.aS j hj;have hbk:Fp x k:=by rw[a6] at DV;exact DV
 have NB:=XQ P I.sn I.JX (λc hc=>by have:=I.wv c hc;omega) hbk;have es:cy x (k+1)=⟨0,(cy x k).gK++[iw],il j7 ((cy x k).bX++acB iw)⟩:=by have e:=pN J.err;rw[aso (by simpa using e0)] at e;rw[e,a6];rfl
 have rR:=s6.ag aa;refine bC<|ld (aB As k w9) (B2.ai U)<|fj [iv iw.aI,iv iw.aI,iv (iw.fin-1),iv iw.free,aB a1 k1 d1,aB a2 bo d2,aB a3 k3 d3,.bool iw.short] (.aS ak) U<|lit [.agg #[iv iw.aI,iv iw.aI,iv (iw.fin-1),iv iw.free,aB a1 k1 d1,aB a2 bo d2,aB a3 k3 d3,.bool iw.short]] λgl v1 hq=>?_;have sq:Src v1 (aL gl) 1 8 [iv iw.aI,iv iw.aI,iv (iw.fin-1),iv iw.free,aB a1 k1 d1,aB a2 bo d2,aB a3 k3 d3,.bool iw.short]:=hq.src (sz:=8) U;have Bb:k<24:=by have h1:=hlt;have h2:(k:Int)*1<=k*x.every:=atd sn.ev.1 Y;omega
 refine iI (rR.ag hq.ae) sq Y λA' c' v2 r8 k6 c8=>?_;have zq:=hq.size;have hA8:∀g,A'=aL g->W0.heap.size<=g:=λg hg=>by
  rcases c8 with e|e|e
  .exact ff g (e.symm.trans hg)
  .rw[e] at hg;cases hg
  .exact Dx
 have hL:∀b,b<W0.heap.size->As≠aL b:=λb hb e=>by have:=ff b e;omega
 have B2:=(B2.ae hq.ae).ah k6 (hL _ Y);refine bC<|st B2 (by simp) U λv3 B2 k7 z7=>?_;have B2:aP v3 b2 50 [aB A' (k+1) c',aB Ao no co,aY,aY,aY,aY,aY,aY,aY,aB (aL ga) n2 n2,aB (aL gg) n2 n2,aY,aY,iv 0]:=B2;have z6:=k6.size;have xr:aj (λb=>cX b=0) W0 v3:=((KB.ag hq.ae λ_ _ _=>Yt).ag k6 λb hb _=>hL b hb).ag k7 λb _ h e=>by have:=aq b (.inl e);omega
 have bG:aj (λb=>b<W0.heap.size/\b≠b2) u5 v3:=((hq.ae.cU λ_ _ _=>Yt).ag k6 λb hb h=>hL b h.1).ag k7 λb _ h=>h.2;have Ba:=((J.Ba.ah k2 Y).ae aa).ah bG ⟨Y,Y⟩;have B10:=B10.ah bG ⟨Y,Y⟩;have B8:=B8.ah bG ⟨Y,Y⟩;have l6:=l5.ah bG ⟨Y,Y⟩;have eo:∀g,As=aL g->g<u.heap.size:=λg hg=>by
  rcases oS.form with⟨e',-⟩|⟨g',e',-,h2,-⟩
  .rw[e'] at hg;cases hg
  .exact LP
 have mo:aj (λb=>u2.heap.size<=b) u3 v3:=(((bt.ae.cU λ_ _ _=>Yt).ag hW λb hb _ e=>Y).ag (hq.ae.cU λ_ _ _=>Yt) λ_ _ _=>Yt).ag ((k6.cU (D':=λb=>As≠aL b/\b≠b2) λb _ h=>h.1).trans (k7.cU λb _ h=>h.2)) λb hb h=>⟨λe=>by have:=eo b e;omega,Y⟩;have ak:=((ak.ae hq.ae).ah k6 λe=>by have:=eo _ e;omega).ah k7 Y;obtain⟨sC,lC⟩:=oc.WB (D:=λb=>u2.heap.size<=b) (by have h1:=oc.own.an;rw[bz (K:=5) λ_=>rfl] at h1;have h2:=(qJ P).2;rw[<-a6] at h2;omega) λb h _=>h;obtain⟨ef,j2⟩:=qJ P;rw[<-a6] at ef j2;have o3:=eF ef;have eg:∀c∈iw.ek,0<=c.aC/\c.aC<=1073741824:=λc hc=>by have:=(ef.1 c hc).2.2.2.1;omega
 obtain⟨A0,j3⟩:∃A0:Nat->Int,A0=λf=>aV ((cy x k).gK.map λs=>jr s.ek f):=⟨_,U⟩;have j1:∀s∈(cy x k).gK,(∀c∈s.ek,0<=c.aC/\c.aC<=1073741824)/\s.ek.length<=4096:=λs hs=>by obtain⟨bf,Pb,eb⟩:=(I.iw s hs).ex;obtain⟨h1,h2⟩:=qJ Pb;rw[<-eb] at h1 h2;exact⟨λc hc=>by have:=(h1.1 c hc).2.2.2.1;omega,h2⟩
 have ib:(cy x k).gK.length=k:=by have h1:=fl.an;have h2:=oS.own.an;rw[h1,show vq.sz=8 from U] at h2;omega
 have oi:∀f,0<=A0 f/\A0 f<=24*4398046511104:=λf=>by have:=XS j1 f;rw[ib] at this;rw[j3];show 0<=aV _/\aV _<=_;omega
 refine bC<|ld (aB a1 k1 d1) (ak.ai U)<|an<|aM (λj:Nat=>[(101,iv (j:Int))]) (λj z=>j<=k1/\aj (λb=>b≠ga) v3 z/\aP z ga 3 (cJ (cn n2 λf=>A0 f+jr (iw.ek.take j) f))) (λj _=>k1-j) 0 ⟨U,Yt⟩ ⟨Y,.refl _ _,by rw[j3];exact gD (F:=n2) (L:=λf=>aV ((cy x k).gK.map λs:pK=>jr s.ek f)) Ba (by funext f;show aV _=aV _+0;omega)⟩ U ?_;rintro Gg j z ⟨hj,kz,Ba⟩;refine cD (λhlt2=>?_) λhge2=>?_
 .skip;have su:aj (λb=>u2.heap.size<=b) u3 z:=mo.ag kz λb _ h=>Y;obtain⟨sb,so,kr,y,tI,hy,-,-,tg,rfl⟩:=(sC.ah su λb _ h=>h).au (show j<k1 from Y);have np:=asq hy;have E7:=o3 y np;have hyl:=eg y np;have htk:iw.ek.take (j+1)=iw.ek.take j++[y]:=by rw[asD,hy];rfl
  obtain⟨fi,hfi⟩:∃f:Nat,f=y.aO.toNat:=⟨_,U⟩;have dy:fi<n2:=Y;have td:=Tr (l:=iw.ek.take j) (λc hc=>eg c (asW hc)) fi;rw[asF] at td;have en:=oi fi;have By:=kz.size;rw[tI];refine idx j U Y<|fj (bM y) tg U<|alloc λwo z1 av=>jR (vs:=bM y) av.aS U Yl Ys λz2 gm br _=>?_;have gm:aP z2 wo 65 (bM y):=gm;have t16:=av.au;have hC:ax z z2:=av.ae.ag br λb hb _ e=>Y;have Aa:=(B2.ah kz Y).ae hC;have ql:=Ba.ae hC;refine bR (oP [10] [10] [0,1,2,3,4,5,6,7,8,9,10]) [10] (λq=>q=z2) mx Z U<|bC<|ld (aB (aL ga) n2 n2) (Aa.ai U)<|bC<|ld (iv y.aO) (gm.ai U)<|idx fi Y dy<|ld (iv (A0 fi+jr (iw.ek.take j) fi)) (ql.ai (eH dy))<|bC<|ld (iv y.aC) (gm.ai U)<|eD (n:=A0 fi+jr (iw.ek.take j) fi+y.aC) Y<|idx fi Y dy<|gv (λ_=>True) Yt<|st ql (by unfold cJ;rw[asz,dm];omega) U λz3 gb a7 _=>?_;have gb:aP z3 ga 3 ((cJ (cn n2 λf=>A0 f+jr (iw.ek.take j) f)).set (0+fi*1) (iv (A0 fi+jr (iw.ek.take j) fi+y.aC))):=gb;rw[show 0+fi*1=fi from Y,ij,iZ] at gb;refine bN Yt<|eD (n:=(j:Int)+1) Y<|next (j+1) ⟨Yn,Yt⟩ ⟨Y,(kz.ag hC λ_ _ _=>Yt).ag a7 λb _ h=>h,gD gb ?_⟩ Y;funext f;have e1:jr [y] f=if y.aO=(f:Int) then y.aC else 0:=by unfold jr;rw[asQ,au1,bK,nF,atJ]
  show(if f=fi then A0 fi+jr (iw.ek.take j) fi+y.aC else A0 f+jr (iw.ek.take j) f)=A0 f+jr (iw.ek.take (j+1)) f;rw[htk,De];simp only;rw[e1];by_cases e:f=fi
  .rw[asp e,asp Y,e];omega
  .rw[aso e,aso Y,atJ]
 have hjk:j=k1:=Y;rw[hjk,asx Y] at Ba;clear hjk;have Bx:=kz.size;have hT:aj (λb=>u2.heap.size<=b) u3 z:=mo.ag kz λb _ h=>Y;have ak:=ak.ah kz Y;have B10:=B10.ah kz Y;have B8:=B8.ah kz Y;have B2:=B2.ah kz Y;have l6:=l6.ah kz Y;have xp:aj (λb=>cX b=0) W0 z:=xr.ag kz λb _ h e=>by have:=aq b (.inr (.inr (.inl e)));omega
 have qL:ax w z:=hI.ag xp λb hb _=>cw b hb;obtain⟨sS,lS⟩:=os'.WB (D:=λb=>u2.heap.size<=b) (by have h1:=os'.own.an;rw[bz (K:=5) λ_=>rfl] at h1;have h2:=qI P;rw[<-a6] at h2;omega) λb h _=>h;have pr:∀(i:Nat) (c:Cm) (a:Int),iw.bJ[i]? =some c->iw.cQ[i]? =some a->0<=a/\a<=c.aC:=λi c a h1 h2=>by rw[a6] at h1 h2;exact NB.awb (c,a) (asq (i:=i) (auu.2 ⟨h1,h2⟩))
 have sA:bS cO (λb=>u2.heap.size<=b) u3 a3 k3 iw.cQ:=oa.own.rd (a:=cO) (fX λv hv=>by obtain⟨i,hi⟩:=ath hv;have h3:iw.cQ.length=iw.bJ.length:=(by rw[a6];exact pL);have h4:=(asr.1 hi).1;obtain⟨y,hy⟩:∃y,iw.bJ[i]? =some y:=⟨_,asw Y⟩;have h5:=pr i y v hy hi;have h6:=asq hy;rw[a6] at h6;have h7:=((Ay (d:=x.d) (before:=(cy x k).bX) (Nf P.fc).1).1 y h6).2.2.2.1;unfold jt;omega) (by have h1:=oa.own.an;unfold cJ at h1;rw[asz] at h1;omega) (by have h1:=oa.own.an;unfold cJ at h1;rw[asz] at h1;have h2:=qI P;rw[<-a6] at h2;have h3:iw.cQ.length=iw.bJ.length:=(by rw[a6];exact pL);omega) λg hg=>oa.new g hg
 have lA:iw.cQ.length=k3:=by have h1:=oa.own.an;unfold cJ at h1;rw[asz] at h1;omega
 have DK:iw.cQ.length=iw.bJ.length:=by rw[a6];exact pL
 have bq:∀g,Ag=aL g->g<u.heap.size:=λg hg=>by
  rcases oG.form with⟨e',-⟩|⟨g',e',-,h2,-⟩
  .rw[e'] at hg;cases hg
  .exact LP
 have lf:∀g,Ag=aL g->As≠aL g:=Ts oG oS Yd;have kG:aj (λb=>As≠aL b/\b≠b2/\b≠ga) u2 z:=(((ax.any (D:=λb=>As≠aL b/\b≠b2/\b≠ga) (aa.trans hq.ae)).ag k6 λb _ h=>h.1).ag k7 λb _ h=>h.2.1).ag kz λb _ h=>h.2.2;have s7:bu w z Ag ng cg 65 5 ((cy x k).bX.flatMap bM):=l3.bY kG (λg hg=>⟨lf g hg,by have:=bx g hg;omega,by have:=bx g hg;omega⟩) qL;have E6:(cy x k).bX.length<=8192:=J.an;have a8:=NB;rw[<-a6] at a8;have C1:=hT.size;have D5:iw.bJ.length<=4096:=(by have h2:=qI P;rw[<-a6] at h2;exact h2);obtain⟨Gn,af⟩:∃l,l=il j7 ((cy x k).bX++vl iw.bJ iw.cQ):=⟨_,U⟩;refine bC<|ld (aB a2 bo d2) (ak.ai U)<|an<|aM (λj:Nat=>[(119,iv (j:Int))]) (λj y=>j<=bo/\aj (λb=>b<z.heap.size/\b≠b10/\Ag≠aL b) z y/\∃A9 n9 c9,aP y b10 58 [aB A9 n9 c9]/\bu w y A9 n9 c9 65 5 (((cy x k).bX++vl (iw.bJ.take j) (iw.cQ.take j)).flatMap bM)/\(A9=Ag\/∀g,A9=aL g->z.heap.size<=g)) (λj _=>bo-j) 0 ⟨U,Yt⟩ ⟨Y,.refl _ _,Ag,ng,cg,B10,by rw[atg,atg,Nh,asT];exact s7,.inl U⟩ U ?_;rintro Gh j y ⟨hj,ky,A9,n9,c9,bk,o9,fh⟩;have zy:=ky.size;have h9:∀g,A9=aL g->W0.heap.size<=g/\g<y.heap.size:=λg hg=>by
  rcases o9.form with⟨e',-⟩|⟨g',e',-,h2,-⟩
  .rw[e'] at hg;cases hg
  .rw[e'] at hg;injection hg with hg;injection hg with hg;subst hg;refine⟨?_,h2⟩;rcases fh with e|e
   .exact bx _ (by rw[<-e,e'])
   .have:=e _ e';omega
 have lI:aj (λb=>u2.heap.size<=b) u3 y:=hT.ag ky λb hb h=>⟨Y,Y,λe=>by have:=bq b e;omega⟩;have D3:n9<=12288:=by have h1:=o9.own.an;rw[bz (K:=5) λ_=>rfl,asu] at h1;have h2:=AB (l:=iw.bJ.take j) (az:=iw.cQ.take j);rw[asF] at h2;omega
 refine cD (λAT=>?_) λnz=>?_
 .skip;obtain⟨sb,so,kr,c,tE,hc,-,-,hcc,rfl⟩:=(sS.ah lI λb _ h=>h).au (show j<bo from Y);obtain⟨ab,ao,Gt,a,tt,ha,-,-,hac,rfl,-⟩:=(sA.ah lI λb _ h=>h).au (show j<k3 from Y);have Bc:=pr j c a hc ha;have hcl:c.aC<=1073741824:=(a8.so.1 c (asq hc)).2.2.2.1.2;have htk:=Tq hc ha;rw[tE];refine idx j U Y<|fj (bM c) hcc U<|alloc λpf y1 av=>jR (vs:=bM c) av.aS U Yl Ys λy2 bw br _=>?_;have bw:aP y2 pf 65 (bM c):=bw;have t18:=av.au;have hG:ax y y2:=av.ae.ag br λb hb _ e=>Y;have gF:=(ak.ah ky ⟨by have:=ak.lt;omega,Y,λe=>by have:=bq _ e;omega⟩).ae hG;rw[tt] at gF;refine bC<|ld (aB (some (ad ab ao)) k3 d3) (gF.ai U)<|idx j U Y<|ld (iv a) (hG.ai (hac 0 _ U) Yt)<|bC<|st bw (by simp) U λy3 bw a7 _=>?_;have bw:aP y3 pf 65 (bM {c with aC:=a}):=bw;have cp:ax y y3:=hG.ag a7 λb hb _=>Y;refine bC<|ld (iv a) (bw.ai U)<|cD (λdf=>?_) λdp=>?_
  .have df:0<a:=df;refine ld (aB A9 n9 c9) ((bk.ae cp).ai U)<|fj (bM {c with aC:=a}) (.aS bw) U<|lit [.agg (bM {c with aC:=a}).toArray] λgg y4 hq2=>?_;have sq:Src y4 (aL gg) 1 5 (bM {c with aC:=a}):=hq2.src (sz:=5) U;have ep:=cp.trans hq2.ae;refine iI (o9.ag ep) sq Y λA' c' y5 l4 hZ c8=>st ((bk.ae ep).ah hZ λe=>by have:=h9 _ e;omega) (by simp) U λy6 B10 hV C9=>?_;have B10:aP y6 b10 58 [aB A' (n9+1) c']:=B10;have D2:=hZ.size;have z4:=ep.size;have hA8:∀g,A'=aL g->A'=A9\/y.heap.size<=g:=λg hg=>by
    rcases c8 with e|e|e
    .exact .inl e
    .rw[e] at hg;cases hg
    .exact TR
   refine eD (n:=(j:Int)+1) Y<|next (j+1) ⟨Yn,Yt⟩ ⟨Y,?_,A',n9+1,c',B10,?_,?_⟩ Y
   .refine((ky.ag ep λ_ _ _=>Yt).ag hZ λb hb h e=>?_).ag hV λb hb h=>h.2.1;rcases fh with q|q
    .exact h.2.2 (by rw[<-q];exact e)
    .have:=q b e;omega
   .rw[htk,asp df,<-as5,as7];refine bu.bY (by rw[ata,au2,asT];exact l4) hV (λg hg=>?_) (l4.ae.ag hV λb hb _=>Y);rcases hA8 g hg with q|q
    .have:=h9 g (by rw[<-q];exact hg);omega
    .omega
   .rcases c8 with e|e|e
    .rcases fh with q|q
     .exact .inl (e.trans q)
     .exact .inr λg hg=>q g (by rw[<-e];exact hg)
    .exact .inr λg hg=>by rw[e] at hg;cases hg
    .exact .inr λg hg=>by rw[e] at hg;injection hg with hg;injection hg with hg;omega
  .have dp:¬0<a:=dp;refine eD (n:=(j:Int)+1) Y<|next (j+1) ⟨Yn,Yt⟩ ⟨Y,ky.ag cp λ_ _ _=>Yt,A9,n9,c9,bk.ae cp,?_,fh⟩ Y;rw[htk,aso dp,asT];exact o9.ag cp
 have hjk:j=bo:=Y;rw[hjk,asx Y,asx Y] at o9;clear hjk nz;have kn:ax w y:=o9.ae;have hfl:[(cy x k).bX++vl iw.bJ iw.cQ].flatten=(cy x k).bX++vl iw.bJ iw.cQ:=by simp
 have D7:((cy x k).bX++vl iw.bJ iw.cQ).length<=12288:=by have:=AB (l:=iw.bJ) (az:=iw.cQ);rw[asu];omega
 refine ld (aB A9 n9 c9) (bk.ai U)<|lit [aB A9 n9 c9] λgl y1 dd=>?_;have BL:aP y1 gl 58 ([(A9,n9,c9,((cy x k).bX++vl iw.bJ iw.cQ).flatMap bM)].map sv.v):=dd.aS;refine aJ (vn (ls:=[(cy x k).bX++vl iw.bJ iw.cQ]) BL U Y (λs hs=>?_) (by rw[hfl];simp) (by rw[hfl];exact a8.EJ) (by rw[hfl];omega)) ?_
 .rw[asP] at hs;subst hs;exact⟨(o9.ag dd.ae).own.src,by show n9<=_;omega,lR⟩
 rintro _ y2 ⟨Ab,nb,cb,rfl,ob⟩;rw[hfl,<-af] at ob;have bA:ax y y2:=dd.ae.trans ob.ae;have D1:=dd.size;have Bv:=bk.lt;refine st (bk.ae bA) (by simp) U λy3 B10 eS Ct=>?_;have B10:aP y3 b10 58 [aB Ab nb cb]:=B10;have en:∀g,Ab=aL g->y.heap.size<=g:=λg hg=>by have:=ob.new g hg;omega
 have Ai:=bA.size;have r3:ax w y1:=kn.trans dd.ae;have ob:bu w y3 Ab nb cb 65 5 (Gn.flatMap bM):=(ob.base r3).bY eS (λg hg=>by have:=en g hg;omega) ((kn.trans bA).ag eS λb hb _=>Y);have cr:ax w y3:=ob.ae;have kz3:aj (λb=>b<z.heap.size/\b≠b10/\Ag≠aL b) z y3:=(ky.ag bA λ_ _ _=>Yt).ag eS λb _ h=>h.2.1;have KU:aj (λb=>cX b<8) u y3:=((((k2.cU (D':=λb=>cX b<8) λb _ h=>nL b Y).ag aa λ_ _ _=>Yt).ag bG λb _ h=>⟨fU b Y,λe=>by have:=aq b (.inl e);omega⟩).ag kz λb _ h e=>by have:=aq b (.inr (.inr (.inl e)));omega).ag kz3 λb _ h=>by have h1:=fU b Y;exact⟨Y,λe=>by have:=aq b (.inr (.inl e));omega,λe=>by have:=bx b e;omega⟩
 have B2:=B2.ah kz3 ⟨Y,Y,λe=>by have:=bx _ e;omega⟩;have A8:aP y3 b4 31 [.string x.d.name,iv x.d.aG,iv x.d.cap,iv x.d.bH,aB A1 n1 c1,aB A2 n2 c2,aB A3 n3 c3,aB A4 n4 c4,aB A5 n5 c5,aB A6 n6 c6]:=(B4.ah J.K j5).ah KU Y;have gok:=a8.ok';rw[<-af] at gok;have fs:=a8.ajM;rw[<-af] at fs;have oj:=a8.wv';rw[<-af] at oj;have om:=eF gok;have sk:Gn.length=((cy x k).bX++vl iw.bJ iw.cQ).length:=by rw[af];exact(cP _).length_eq
 obtain⟨r5,E5⟩:=ob.WB (D:=λb=>b<y3.heap.size) (by have h1:=ob.own.an;rw[bz (K:=5) λ_=>rfl] at h1;omega) λb _ h=>h;refine bR (oP [2,3,9] [] [0,1,2,3,4,5,6,7,8,9,10]) [] (λv=>aj (λb=>b≠b2) y3 v) mx Z (.refl _ _)<|tM [.string x.d.name,iv x.d.aG,iv x.d.cap,iv x.d.bH,aB A1 n1 c1,aB A2 n2 c2,aB A3 n3 c3,aB A4 n4 c4,aB A5 n5 c5,aB A6 n6 c6] (.aS A8) U Y (.refl _ _)<|fu (aB Ab nb cb) (B10.ai U) (show b10≠b2 from Y) (.refl _ _)<|aJ (Jd (d:=x.d) r5 om (λc hc=>(gok.1 c hc).2.2.2.1.2) Y) ?_;rintro _ y4 ⟨Ac,nc,cc,rfl,oo⟩;apply bN (ax.any oo.ae);obtain⟨sO,lO⟩:=oo.slO (D:=λb=>b<y4.heap.size) (by have h1:=oo.own.an;rw[bz (K:=4) λ_=>rfl] at h1;have h2:=sr (d:=x.d) (l:=Gn);have h3:x.d.aG.toNat*x.d.aR.length<=24*6:=atK Y Y;omega) λb _ h=>h;have te:iG (λb=>b<y3.heap.size) y3 [.string x.d.name,iv x.d.aG,iv x.d.cap,iv x.d.bH,aB A1 n1 c1,aB A2 n2 c2,aB A3 n3 c3,aB A4 n4 c4,aB A5 n5 c5,aB A6 n6 c6] x.d:=(hd0.ae cr).ar λb _ hb=>by have:=cr.size;omega
 refine aJ (Jb (d:=x.d) ((te.ae oo.ae).ar λb _ hb=>by have:=oo.ae.size;omega) sO) ?_;rintro _ y5 ⟨ew,Ad,nd,cd,rfl,hpl⟩;obtain⟨rp,s0,sL,O0,l0⟩:=ant a8.h0 fp gok fs (λc hc=>(oj c hc).1) sn.wide.1;rw[rp] at hpl|-;obtain⟨s1,eT,dO,oO⟩:=hpl U;rw[sL] at eT;injection eT with eT;subst eT;refine bN (ax.any (oo.ae.trans ew))<|bC<|st (B2.ae (oo.ae.trans ew)) (by simp) U λy6 B2 bE C6=>?_;have B2:aP y6 b2 50 [aB A' (k+1) c',aB Ad nd cd,aY,aY,aY,aY,aY,aY,aY,aB (aL ga) n2 n2,aB (aL gg) n2 n2,aY,aY,iv 0]:=B2;have xo:=oo.ae.trans ew;refine bN ((ax.any xo).trans (bE.cU λb _ h=>h))<|cN (λq=>absurd U q) λ_=>?_;have O:=O0.perm (cP (lt:=qu) s0.2).symm;have sh:(il qu s0.2).length<=4096:=by rw[(cP _).length_eq];exact l0
 obtain⟨OL,tL⟩:∃l,l=il qu s0.2:=⟨_,U⟩;rw[<-tL] at O oO sh;have fW:aj (λb=>cX b<8) u y6:=(KU.ag xo λ_ _ _=>Yt).ag bE λb _ h e=>by have:=aq b (.inl e);omega
 have kb:aj (λb=>b≠b2) y3 y6:=(ax.any xo).trans bE;have Al:ax w y6:=cr.ag kb λb hb _=>Y;have zo:=xo.size;have C7:=bE.size;have D0:=eS.size;have C0:=oo.ae.size;have Cf:=ew.size;obtain⟨r4,E4⟩:=oO.slO (D:=λb=>y4.heap.size<=b) (by have h1:=oO.own.an;rw[bz (K:=4) λ_=>rfl] at h1;omega) λb h _=>h;have xe:=J.TI.ah fW λb hb=>Y;have wy:=J.TT.ah fW λb hb=>Y;have qn:aP y6 b7 48 [aB (aL gi) H ci,aB (aL gs) H H,aB (aL gI) n1 n1,aB (aL gE) n1 n1,aB (aL gS) n1 n1,aB (aL gT) n2 n2,aB (aL gL) n1 n1]:=(B7.ah J.K j4).ah fW Y;have Ax:aj (λb=>y4.heap.size<=b) y5 y6:=bE.cU λb _ h=>Y;refine bC<|ld (aB Ad nd cd) (B2.ai U)<|an<|aM (λj:Nat=>[(157,iv (j:Int))]) (λj v=>j<=nd/\aj (λb=>b<y6.heap.size/\cX b≠1/\cX b≠4) y6 v/\nY cX 1 v gI H n1 (xc (OL.take j) false (dY x.d Gn) (dY x.d (cy x k).bX)) rI cI/\nY cX 4 v gT H n2 (xc (OL.take j) true (oY Gn) (oY (cy x k).bX)) rT cT) (λj _=>nd-j) 0 ⟨U,Yt⟩ ⟨Y,.refl _ _,by rw[atg,JE];exact xe,by rw[atg,JE];exact wy⟩ U ?_;rintro Go j v ⟨hj2,kv,jo,jb⟩;have zv:=kv.size;refine cD (λAI=>?_) λnw=>?_
 .skip;have sm:aj (λb=>y4.heap.size<=b/\b<y5.heap.size) y5 v:=(bE.cU (D':=λb=>y4.heap.size<=b/\b<y5.heap.size) λb _ h=>Y).ag kv λb hb h=>⟨Y,by have:=ej b Y;omega,by have:=ej b Y;omega⟩;obtain⟨sb,so,kr,o,tT,ho,-,-,sP,rfl⟩:=(r4.ah sm λb hb h=>⟨h,hb⟩).au (show j<nd from Y);have nr:=asq ho;have htk:OL.take (j+1)=OL.take j++[o]:=by rw[asD,ho];rfl
  have gd:=qn.ah kv ⟨qn.lt,Y,Y⟩;rw[tT];refine idx j U Y<|fj o.c sP U<|alloc λwk v1 av=>jR (vs:=o.c) av.aS U Yl Ys λv2 b0 br _=>?_;have b0:aP v2 wk 114 o.c:=b0;have t20:=av.au;have cK:ax v v2:=av.ae.ag br λb hb _ e=>Y;have bg:=jo.ae cK;have be:=jb.ae cK;have gd:=gd.ae cK;have Eu:∀b,cX b<8->b<v.heap.size:=λb h=>by have:=fU b Y;omega
  rcases Bool.eq_false_or_eq_true o.bP with hb|hb
  .obtain⟨f,h,hf,ta,ei,eh,el⟩:=O.out o nr hb;refine bC<|ld (.bool true) (by rw[<-hb];exact b0.ai U)<|bR (oP [11] [11] [0,1,2,3,4,5,6,7,8,9,10,11]) [11] (λq=>q=v2) mx Z U<|bC<|ld (aB (aL gT) n2 n2) (gd.ai U)<|bC<|ld (iv o.index) (b0.ai U)<|idx f ei Y<|ld (aB (some (ad (rT f) 0)) H (cT f)) (be.R.aS.ai (be.head Y))<|bC<|ld (iv o.aH) (b0.ai U)<|bC<|ld (iv o.aC) (b0.ai U)<|idx h eh Y<|gv (λ_=>True) Yt<|st (be.R.row f Y).1 (by unfold cJ;rw[asz,dm];omega) U λv3 Br a7 _=>bN Yt<|eD (n:=(j:Int)+1) Y ?_;have tn:=be.r_ f Y;have q8:=be.set (j:=h) Y Br a7;refine next (j+1) ⟨Yn,Yt⟩ ⟨Y,(kv.ag cK λ_ _ _=>Yt).ag a7 λb _ h e=>by rw[e] at h;omega,?_,?_⟩ Y
   .rw[htk,Dl (by rw[hb];decide)];exact bg.ah a7 λb hb' e=>by rw[e] at hb';omega
   .have e:=Fv (l:=OL.take j) (new:=oY Gn) (old:=oY (cy x k).bX) ei eh;rw[hb] at e;rw[htk,e];rw[el] at q8;exact q8
  .obtain⟨f,h,hf,ta,ei,eh,el⟩:=O.SH o nr hb;refine bC<|ld (.bool false) (by rw[<-hb];exact b0.ai U)<|bR (oP [11] [11] [0,1,2,3,4,5,6,7,8,9,10,11]) [11] (λq=>q=v2) mx Z U<|bC<|ld (aB (aL gI) n1 n1) (gd.ai U)<|bC<|ld (iv o.index) (b0.ai U)<|idx f ei Y<|ld (aB (some (ad (rI f) 0)) H (cI f)) (bg.R.aS.ai (bg.head Y))<|bC<|ld (iv o.aH) (b0.ai U)<|bC<|ld (iv o.aC) (b0.ai U)<|idx h eh Y<|gv (λ_=>True) Yt<|st (bg.R.row f Y).1 (by unfold cJ;rw[asz,dm];omega) U λv3 Br a7 _=>bN Yt<|eD (n:=(j:Int)+1) Y ?_;have tn:=bg.r_ f Y;have q9:=bg.set (j:=h) Y Br a7;refine next (j+1) ⟨Yn,Yt⟩ ⟨Y,(kv.ag cK λ_ _ _=>Yt).ag a7 λb _ h e=>by rw[e] at h;omega,?_,?_⟩ Y
   .have e:=Fv (l:=OL.take j) (new:=dY x.d Gn) (old:=dY x.d (cy x k).bX) ei eh;rw[hb] at e;rw[htk,e];rw[el] at q9;exact q9
   .rw[htk,Dl (by rw[hb];decide)];exact be.ah a7 λb hb' e=>by rw[e] at hb';omega
 have ns:j=nd:=Y;rw[ns,asx Y] at jo jb;clear ns nw hj2;have NI:(cy x (k+1)).err=0:=by rw[es]
 have ay:(cy x (k+1)).bX=Gn:=by rw[es,af];rfl
 have gp:∀j,j<k+1->eX x j<x.d.aG:=λj hj=>(auG j k).elim (λh=>J.mad j h) λh=>by rw[show j=k from Y];exact hlt
 have gr:∀j,j<k+1->Fp x j:=λj hj=>(auG j k).elim (λh=>J.aS j h) λh=>by rw[show j=k from Y];exact hbk
 have I':=Wz (x:=x) q (k+1) gp NI gr;have D4:0<=eX x k:=P.mh.1;have mk0:(((eX x k).toNat:Nat):Int)=(k:Int)*x.every:=by have:eX x k=(k:Int)*x.every:=U;omega
 have Gi:=sn.ev;have mk1:((mK x (k+1):Nat):Int)=min ((k:Int)*x.every+x.every) x.d.aG:=by have:eX x k=(k:Int)*x.every:=U;unfold mK;rw[yI];omega
 have ck:aj (λb=>cX b<8/\cX b≠1/\cX b≠4) u v:=(fW.cU λb _ h=>h.1).ag kv λb _ h=>⟨by have:=fU b Y;omega,h.2⟩;have xv:anv x cX (eX x k).toNat b8 gs gI gE gS gT gL n1 n2 H rI cI rE cE rS cS rT cT rL cL Gn v:=by
  have nm:=J.B8.ah ck Y;have nl:=J.Bs.ah ck Y;have ni:=J.TE.ah ck λb hb=>Y;have nf:=J.TS.ah ck λb hb=>Y;have nh:=J.TL.ah ck λb hb=>Y;rw[hmk] at nm nl ni nf nh;refine⟨?_,?_,jo.jZ λi j hi hj=>?_,ni.jZ λi j hi hj=>?_,nf.jZ λi j hi hj=>?_,jb.jZ λi j hi hj=>?_,nh.jZ λi j hi hj=>?_⟩
  .rw[af,a8.acX Y];exact nm
  .have e:(cn H λj=>if j<(eX x k).toNat then sH x Gn j else 0)=cn H λj=>if j<(eX x k).toNat then sH x (cy x k).bX j else 0:=lU λj _=>by
    by_cases qj:j<(eX x k).toNat
    .rw[asp qj,asp qj,af,a8.WN Y]
    .rw[aso qj,aso qj]
   rw[e];exact nl
  .exact WI O Y Y (by have h:=a8.acL (r:=i) (h:=j);rw[<-af] at h;exact h)
  .rw[af];exact(a8.WO Y Y).symm
  .rw[af];exact(a8.WQ Y Y).symm
  .exact WJ O Y Y (by have h:=a8.acM (f:=i) (h:=j) Y;rw[<-af] at h;exact h)
  .rw[af];exact(a8.WR Y Y).symm
 have xn:aj (λb=>cX b=0) W0 v:=J.K.ag ck λb _ h=>Y;have bI:∀r j:Nat,0<=dY x.d Gn r j/\dY x.d Gn r j<=1073741824:=λr j=>Jp fs sn.d _ _;have bT:∀f j:Nat,0<=oY Gn f j/\oY Gn f j<=1073741824:=λf j=>⟨jT om f j,fs.le f j⟩;apply aM (λh:Nat=>[(21,iv (h:Int))]) (λh t=>(eX x k).toNat<=h/\h<=mK x (k+1)/\aj (λb=>cX b≠2/\cX b≠3/\cX b≠5/\cX b≠6/\cX b≠7) v t/\anv x cX h b8 gs gI gE gS gT gL n1 n2 H rI cI rE cE rS cS rT cT rL cL Gn t) (λh _=>mK x (k+1)-h) (eX x k).toNat ⟨congrArg iv mk0.symm,Yt⟩ ⟨asN _,Y,.refl _ _,xv⟩ U;rintro Gp h t ⟨sy,sx,kt,HR⟩;have zt:=kt.size;have bp:aj (λb=>cX b=0) W0 t:=xn.ag kt λb _ h=>Y;have et:ax w t:=hI.ag bp λb hb _=>cw b hb;refine cD (λgq=>?_) λdx=>?_
 .skip;have gq:(h:Int)<min ((k:Int)*x.every+x.every) x.d.aG:=gq;apply ld (.func (.func 25) #[] #[ptr b5,ptr b4,ptr b7,ptr b1,ptr b8]) ((B9.ah bp wb).ai U);have st1:=I'.yH h (by rw[yI];have:eX x k=(k:Int)*x.every:=U;omega);rw[ay] at st1;have Ar:=yJ sn.d;refine aJ (Pm (x:=x) (cX:=cX) (R:=n1) (F:=n2) (H:=H) (h:=h) (I:=dY x.d Gn) (T:=oY Gn) (sp:=sH x Gn) (yH:=re x Gn h) sn Y Y hH Y (B1.ah bp j8) (B4.ah bp j5) (B5.ah bp ow) (B7.ah bp j4) HR.B8 HR.Bs (λb hb=>ej b (by have:=bp.size;omega)) ⟨j8,j5,ow,j4,tq,ts⟩ (jL (rest:=rest) (Bi.ah bp ou) Y sT Y ou) ((hev.ae et).ar Yd λb _ hb=>cw b hb) ((j0.ae et).ar Yd λb _ hb=>cw b hb) ((fa.ae et).ar Yd λb _ hb=>cw b hb) ((fe.ae et).ar Yd λb _ hb=>cw b hb) HR.TI HR.TE HR.TS HR.TT HR.TL bI bT Y U) ?_;rintro vv t1 ⟨hP,xl,x9,xb,zg,zB⟩;refine(rk vv _).mpr<|eD (n:=(h:Int)+1) Y<|next (h+1) ⟨Yn,Yt⟩ ⟨Y,Y,kt.trans hP,zB,zg,HR.TI.ah hP λb hb=>Y,xl,x9,HR.TT.ah hP λb hb=>Y,xb⟩ Y
 have dx:¬(h:Int)<min ((k:Int)*x.every+x.every) x.d.aG:=dx;have nt:h=mK x (k+1):=Y;rw[nt] at HR;clear nt dx sy sx;have F1:cX (L)=8:=aq _ (.inr (.inr (.inr (.inr U))));have tS:L<W0.heap.size:=Y;have Gl:=aq b2 (.inl U);have Bu:=aq b10 (.inr (.inl U));have Gk:=aq ga (.inr (.inr (.inl U)));have Gj:=aq gg (.inr (.inr (.inr (.inl U))));have db:∀b,b<W0.heap.size->Ag≠aL b:=λb hb e=>by have:=bx b e;omega
 have Aw:∀b,b<W0.heap.size->As≠aL b:=λb hb e=>by have:=ff b e;omega
 have Bz:z.heap.size<=t.heap.size:=Y;have KZ:aj (λb=>b≠b10/\b≠b2/\Ag≠aL b/\(cX b=0\/8<=cX b)) z t:=(((kz3.cU (D':=λb=>b≠b10/\b≠b2/\Ag≠aL b/\(cX b=0\/8<=cX b)) λb hb h=>⟨hb,h.1,h.2.2.1⟩).ag kb λb _ h=>h.2.1).ag kv λb hb h=>⟨Y,Y,Y⟩).ag kt λb _ h=>Y;refine eQ _ (l6.ah KZ ⟨Y,Y,db _ tS,Y⟩) λt2 kl lN=>?_;rw[u0] at lN;have KL:aj (λb=>b≠b10/\b≠b2/\Ag≠aL b/\(cX b=0\/8<=cX b)/\b≠L) z t2:=(KZ.cU λb _ h=>⟨h.1,h.2.1,h.2.2.1,h.2.2.2.1⟩).ag kl λb _ h=>h.2.2.2.2;have BY:=kl.size;have qa:aj (λb=>b≠b2/\b≠ga/\b≠b10/\Ag≠aL b/\8<=cX b/\b≠L) v2 t2:=((k7.cU (D':=λb=>b≠b2/\b≠ga/\b≠b10/\Ag≠aL b/\8<=cX b/\b≠L) λb _ h=>h.1).ag kz λb _ h=>h.2.1).ag KL λb _ h=>⟨h.2.2.1,h.1,h.2.2.2.1,.inr h.2.2.2.2.1,h.2.2.2.2.2⟩;have kW:∀b,W0.heap.size<=b->b≠b2/\b≠ga/\b≠b10/\8<=cX b/\b≠L:=λb hb=>by have:=ej b hb;omega
 have KQ:aj (λb=>W0.heap.size<=b/\As≠aL b/\Ag≠aL b) u t2:=(((k2.cU (D':=λb=>W0.heap.size<=b/\As≠aL b/\Ag≠aL b) λb _ h=>Y).ag (aa.trans hq.ae) λ_ _ _=>Yt).ag k6 λb _ h=>h.2.1).ag qa λb _ h=>by have:=kW b h.1;exact⟨this.1,this.2.1,this.2.2.1,h.2.2,this.2.2.2.1,this.2.2.2.2⟩
 have KS:aj (λb=>u2.heap.size<=b) u3 t2:=hT.ag KL λb hb h=>by have:=kW b Y;exact⟨this.2.2.1,this.1,λe=>by have:=bq b e;omega,.inr this.2.2.2.1,this.2.2.2.2⟩
 have qd:aj (λb=>cX b=0) W0 t2:=bp.ag kl λb _ h=>nL b Y;have gn:ax w t2:=hI.ag qd λb hb _=>cw b hb;have Ah:aP t2 b2 50 [aB A' (k+1) c',aB Ad nd cd,aY,aY,aY,aY,aY,aY,aY,aB (aL ga) n2 n2,aB (aL gg) n2 n2,aY,aY,iv 0]:=((B2.ah kv ⟨by have:=B2.lt;omega,Y,Y⟩).ah kt Y).ah kl Y;have qc:aj (λb=>b≠b2/\8<=cX b/\b≠L) y3 t2:=(((kb.cU (D':=λb=>b≠b2/\8<=cX b/\b≠L) λb _ h=>h.1).ag kv λb hb h=>⟨Y,Y,Y⟩).ag kt λb _ h=>Y).ag kl λb _ h=>h.2.2;have Dv:(cy x k).bX.length<=4096:=(iB.1 P.cl).2.1;have oe:∀g,A'=aL g->Ag≠aL g:=λg hg e2=>by
  rcases c8 with e|e|e
  .exact lf g e2 (e.symm.trans hg)
  .rw[e] at hg;cases hg
  .rw[e] at hg;injection hg with hg;injection hg with hg;have:=bq g e2;have:=aa.size;omega
 have r7:bu w t2 A' (k+1) c' 60 8 _:=r8.bY qa (λg hg=>by have:=kW g (hA8 g hg);exact⟨this.1,this.2.1,this.2.2.1,oe g hg,this.2.2.2.1,this.2.2.2.2⟩) gn;have r6:bu w t2 Ab nb cb 65 5 (Gn.flatMap bM):=ob.bY qc (λg hg=>by have:=kW g (by have:=en g hg;omega);exact⟨this.1,this.2.2.2.1,this.2.2.2.2⟩) gn;have Ap:=aa.size;have Ez:=hq.ae.size;have QF:dW vq (λb=>Q b\/(u2.heap.size<=b/\b<u3.heap.size)) t2 ((cy x k).gK++[iw]) (eL++[iv iw.aI,iv iw.aI,iv (iw.fin-1),iv iw.free,aB a1 k1 d1,aB a2 bo d2,aB a3 k3 d3,.bool iw.short]):=by
  refine dW.app ((fl.di λb hb hD=>KQ.aS b hb ⟨(hQ b hD).1,(hQ b hD).2.1,(hQ b hD).2.2.1⟩).ar λb _ h=>.inl h) (.one ⟨_,_,_,_,_,_,_,_,_,U,?_,?_,?_⟩)
  .exact((sC.ar Yd λb hb h=>(⟨h,hb⟩:u2.heap.size<=b/\b<u3.heap.size)).ah KS λb _ h=>h.1).ar Yd λb _ h=>.inr h
  .exact((sS.ar Yd λb hb h=>(⟨h,hb⟩:u2.heap.size<=b/\b<u3.heap.size)).ah KS λb _ h=>h.1).ar Yd λb _ h=>.inr h
  .exact((sA.ar Yd λb hb h=>(⟨h,hb⟩:u2.heap.size<=b/\b<u3.heap.size)).ah KS λb _ h=>h.1).ar Yd λb _ h=>.inr h
 have QN:∀b,(Q b\/(u2.heap.size<=b/\b<u3.heap.size))->W0.heap.size<=b/\A'≠aL b/\Ab≠aL b/\b<t2.heap.size:=λb hb=>by
  have hb':W0.heap.size<=b/\As≠aL b/\b<u3.heap.size:=by
   rcases hb with hb|hb
   .exact⟨(hQ b hb).1,(hQ b hb).2.1,by have:=(hQ b hb).2.2.2;omega⟩
   .exact⟨Y,λe=>by have:=eo b e;omega,hb.2⟩
  refine⟨hb'.1,λe=>?_,λe=>by have:=en b e;omega,Y⟩;rcases c8 with e'|e'|e'
  .exact hb'.2.1 (by rw[<-e'];exact e)
  .rw[e'] at e;cases e
  .rw[e'] at e;injection e with e;injection e with e;have:=bt.size;have:=hW.size;omega
 have zA:aP t2 ga 3 (cJ (eZ n2 ((cy x k).gK++[iw]))):=by apply gD (F:=n2) (L':=λf=>aV (((cy x k).gK++[iw]).map λs:pK=>jr s.ek f)) (Ba.ah KL ⟨Y,Y,db _ Y,Y,Y⟩);funext f;rw[j3];show aV _+jr iw.ek f=aV _;rw[asK,pC];congr 1;show jr iw.ek f=aV [jr iw.ek f];rw[bK,nF,atJ]
 have zz:aP t2 gg 3 (List.replicate n2 (iv 0)):=((((J.Bg.ah k2 Y).ae aa).ah bG ⟨Y,Y⟩).ah kz Y).ah KL ⟨Y,Y,db _ Y,Y,Y⟩;refine .inl ⟨U,⟨NI,gp,gr,?_,qd,?_,?_,?_,?_,?_,?_,?_,?_,zz,?_⟩,lN⟩
 .rw[ay,sk,asu];have:=AB (l:=iw.bJ) (az:=iw.cQ);omega
 .rw[ay];exact HR.B8.ah kl (nL _ Y)
 .rw[ay];exact HR.Bs.ah kl (nL _ Y)
 .rw[ay];exact HR.TI.ah kl λb hb=>nL b Y
 .rw[ay];exact HR.TE.ah kl λb hb=>nL b Y
 .rw[ay];exact HR.TS.ah kl λb hb=>nL b Y
 .rw[ay];exact HR.TT.ah kl λb hb=>nL b Y
 .rw[ay];exact HR.TL.ah kl λb hb=>nL b Y
 .rw[es];exact zA
 .rw[ay];refine⟨A',c',_,λb=>Q b\/(u2.heap.size<=b/\b<u3.heap.size),Ab,nb,cb,Ad,nd,cd,Ah,r7,by rw[es];exact QF,QN,(B10.ah qc ⟨Y,Y,Y⟩),r6,hA8,λg hg=>by have:=en g hg;omega⟩
end
section
variable {D:Nat->Prop} {w:World} {A B:Option Addr} {n c m e:Nat}
set_option maxRecDepth 8000 in
set_option maxHeartbeats 8000000 in
theorem Ds{j3:aW}{x:cM}(hx:iu (λb=>b<w.heap.size) w j3 x)(few:Pl x):aK prog 7 #[.agg j3.toArray] w (λv w'=>ax w w'/\∃cs:aW,v=.tuple #[.agg cs.toArray,iv (ir x)]/\cs.length=14/\(ir x≠0->cs=pa)/\(ir x=0->anw w' cs x/\∀j,j<fz x->Fp x j)):=by
 obtain⟨vx,G1,m1,e1,G2,m2,e2,G3,m3,e3,G4,m4,e4,G5,m5,e5,G6,m6,e6,G7,m7,e7,G8,m8,e8,rfl,hd,-,-,-,ts,gF,hN,hev,sS,-,-,qS⟩:=hx.ex;have hd0:=hd;obtain⟨A1,n1,c1,A2,n2,c2,A3,n3,c3,A4,n4,c4,A5,n5,c5,A6,n6,c6,rfl,nm,nw,-⟩:=hd.ex;have lS:=nm.an;have bE:=nw.an;have sA:=hN.an;have fp:=few.p;refine aF func7 Z<|box λb1 w1 h1=>alloc λb2 w2 h2=>alloc λb3 w3 h3=>?_;have t1:=h1.au;have t2:=h2.au;have t3:=h3.au;have s1:=h1.size;have s2:=h2.size;have s3:=h3.size;have x03:=(h1.ae.trans h2.ae).trans h3.ae;have B1:aP w3 b1 42 ([.string x.d.name,iv x.d.aG,iv x.d.cap,iv x.d.bH,aB A1 n1 c1,aB A2 n2 c2,aB A3 n3 c3,aB A4 n4 c4,aB A5 n5 c5,aB A6 n6 c6]++[iv x.every,aB G1 m1 e1,aB G2 m2 e2,aB G3 m3 e3,aB G4 m4 e4,aB G5 m5 e5,aB G6 m6 e6,aB G7 m7 e7,aB G8 m8 e8]):=h1.aS.ae (h2.ae.trans h3.ae);have B2:aP w3 b2 50 pa:=h2.aS.ae h3.ae;have B3:aP w3 b3 51 [iv 0]:=h3.aS;refine go<|bW (Fq (hx.ae x03) ⟨by have:=fp.r;omega,few.ev,few.se⟩) λw4 x4=>?_;have z4:=x4.size;refine st (B3.ae x4) (by simp) U λw5 B3 k5 _=>?_;have B3:aP w5 b3 51 [iv (gP x)]:=B3;have B1:=(B1.ae x4).ah k5 Y;have B2:=(B2.ae x4).ah k5 Y;have x05:ax w w5:=(x03.trans x4).ag k5 λb hb _=>Y;refine go<|cN (λq=>?_) λq=>?_
 .skip;have ee:ir x=gP x:=by unfold ir;rw[asp q]
  apply bR (oP [2,3] [] [0,1,2,3]) [] (λz=>aP z b2 50 pa/\aP z b3 51 [iv (gP x)]) mx Z ⟨B2,B3⟩;apply xM pa (λv hv=>.aS hv.1) U;apply pb (iv (gP x)) λv hv=>hv.2.ai U;refine jR B2 U Yl (λu hu=>asH.1 (show(pa.all λu=>u.oneCell')=true from U) u hu) λw6 C2 k6 _=>?_;have C2:aP w6 b2 50 pa:=C2;have C3:=B3.ah k6 Y;apply bN ⟨C2,C3⟩;refine st C3 (by simp) U λw7 E3 k7 _=>?_;have E3:aP w7 b3 51 [iv (gP x)]:=E3;have E2:=C2.ah k7 Y;apply bN ⟨E2,E3⟩;apply ret;apply da _ (bU (bF.aS E2) U);apply da _ (bj (E3.ai U));exact⟨(x05.ag k6 λb hb _=>Y).ag k7 λb hb _=>Y,pa,by rw[ee];rfl,U,λ_=>rfl,λh=>absurd (ee.symm.trans h) q⟩
 have ep:ir x=if(ia x).err≠0 then(ia x).err else mv x.dr (x.eG.map (je x)) (kT x (eZ x.d.aR.length (ia x).gK) (iE x (ia x).bX)):=by unfold ir;rw[aso (by simpa using q)]
 have sn:=wW q;have hh:=eC sn.d;have V:=gY sn.d;obtain⟨td,nt⟩:=pP.1 sn.inf;have vp:=fp.h;have vo:=fp.r;have vv:=fp.f;obtain⟨H,hH⟩:∃H:Nat,x.d.aG=H:=⟨x.d.aG.toNat,Y⟩;rw[q] at B3;refine ao2 ?_;refine alloc λb4 w6 h6=>?_;refine fg h6.aS λw7 B4 k7 _=>?_;have B4:aP w7 b4 31 [.string x.d.name,iv x.d.aG,iv x.d.cap,iv x.d.bH,aB A1 n1 c1,aB A2 n2 c2,aB A3 n3 c3,aB A4 n4 c4,aB A5 n5 c5,aB A6 n6 c6]:=B4;have t6:=h6.au;have s6:=h6.size;have z5:=k5.size;have z7:=k7.size;have ff:ax w5 w7:=h6.ae.ag k7 λb hb _ e=>Y;obtain⟨B1,B2,B3⟩:=P9 ff B1 B2 B3;have lC:=x05.trans ff;refine bR (oP [6,7] [] [0,1,2,3,4,5,6,7,8]) [] (λz=>ax w7 z) mx Z (.refl _ _)<|go<|alloc λb5 w8 h8=>bN h8.ae<|st1 h8.aS U λw9 B5 k9=>?_;have t8:=h8.au;have s8:=h8.size;have z9:=k9.size;have ec:ax w7 w9:=h8.ae.ag k9 λb hb _ e=>Y;refine bN ec ?_;have B5:aP w9 b5 3 [iv (n1:Int)]:=B5;obtain⟨B1,B2,B3,B4⟩:=Xj ec B1 B2 B3 B4;have fi:=lC.trans ec;have gm:bS cO (λb=>b<w.heap.size) w9 G6 m6 x.dU:=hN.ae fi;have en:∀v∈x.dU,jt v:=λv hv=>by have:=nt v hv;unfold jt;omega
 have ql:w9.cell? (ad b4 1)=some (iv (H:Int)):=by rw[<-hH];exact B4.ai U
 refine wS (λs:Nat=>[(7,ptr s)]) (λs z=>∃gi ci gs gI gE gS gT gL,acO w9 z x n1 n2 H s gi ci gs gI gE gS gT gL) ?_ ?_
 .exact acQ ⟨U,U,U,U,Yt⟩ B1 ql B5 gm en Y Y Y
 rintro Gw b7 w10 ⟨gi,ci,gs,gI,gE,gS,gT,gL,RN⟩;have be:=RN.ae;have qE:=be.size;have fs:=fi.trans be;refine go<|ld (iv x.d.bH) ((B4.ae be).ai U)<|alloc λb8 sb h11=>st1 h11.aS U λeh B8 gp=>alloc λb9 s9 ct=>st1 ct.aS U λfW B9 k14=>alloc λb10 aq h15=>?_;have t11:=h11.au;have t13:=ct.au;have t15:=h15.au;have sm:=h11.size;have sh:=ct.size;have sd:=h15.size;have z12:=gp.size;have rp:=k14.size;have eg:ax w10 eh:=h11.ae.ag gp λb hb _ e=>Y;have bp:ax eh fW:=ct.ae.ag k14 λb hb _ e=>Y;have af:=(eg.trans bp).trans h15.ae;have B8:aP aq b8 3 [iv x.d.bH]:=(show aP eh b8 3 [iv x.d.bH] from B8).ae (bp.trans h15.ae);have B9:aP aq b9 103 [.func (.func 25) #[] #[ptr b5,ptr b4,ptr b7,ptr b1,ptr b8]]:=(show aP fW b9 103 [.func (.func 25) #[] #[ptr b5,ptr b4,ptr b7,ptr b1,ptr b8]] from B9).ae h15.ae;have B10:aP aq b10 58 [aY]:=h15.aS;have aa:=be.trans af;have qB:=aa.size;have B2:=B2.ae aa;refine wS (λ_:Nat=>[]) (λs z=>∃ga gg,aj (λb=>b≠b2) aq z/\aP z b2 50 [aY,aY,aY,aY,aY,aY,aY,aY,aY,aB (aL ga) n2 n2,aB (aL gg) n2 n2,aY,aY,iv 0]/\aP z ga 3 (List.replicate n2 (iv 0))/\aP z gg 3 (List.replicate n2 (iv 0))/\ga≠gg/\aq.heap.size<=ga/\aq.heap.size<=gg) ?_ ?_
 .have hz:∀{z:World} {g:Nat},aP z g 3 ((List.replicate n2 (cz (iv 0))).flatten)->aP z g 3 (List.replicate n2 (iv 0)):=λh=>by rw[show cz (iv 0)=[iv 0] from U,show(List.replicate n2 [iv 0]).flatten=List.replicate n2 (iv 0) by simp] at h;exact h
  refine bR (.take 0 (.take 2 (.alt 1 (.take 4 (.alt 3 (oP [5,7] [] [5,6,7]) (oP [5,3,7] [] [5,3,6,7]))) (oP [3,1,5,7] [] [3,1,4,5,6,7])))) [] (λz=>aj (λb=>b≠b2) aq z) mx Z (.refl _ _)<|And.intro ?_ ?_
  .refine i7 (sz:=1) (zv:=iv 0) n2 U rfl Y Y U Yd λga u1 ha=>?_;have ta:=ha.au;have sa:=ha.size;refine bN (ax.any ha.ae) ?_;refine go ?_;refine And.intro ?_ ?_
   .refine i7 (sz:=1) (zv:=iv 0) n2 U rfl Y Y U Yd λgg u2 hg=>?_;have tg:=hg.au;have xq:=ha.ae.trans hg.ae;refine bN (ax.any xq) ?_;refine st (B2.ae xq) (by simp) U λu3 C2 k3 _=>?_;have C2:aP u3 b2 50 [aY,aY,aY,aY,aY,aY,aY,aY,aY,aB (aL ga) n2 n2,aY,aY,aY,iv 0]:=C2;refine bN ((ax.any xq).trans k3) ?_;refine go ?_;refine st C2 (by simp) U λu4 D2 k4 _=>?_;refine bN (((ax.any xq).trans k3).trans k4) ?_;exact⟨0,Yt,ga,gg,((ax.any xq).trans k3).trans k4,D2,hz (((ha.aS.ae hg.ae).ah k3 Y).ah k4 Y),hz ((hg.aS.ah k3 Y).ah k4 Y),Y,Y,Y⟩
   .refine st (B2.ae ha.ae) (by simp) U λu2 C2 k2 _=>?_;have C2:aP u2 b2 50 [aY,aY,aY,aY,aY,aY,aY,aY,aY,aB (aL ga) n2 n2,aY,aY,aY,iv 0]:=C2;have sk:=k2.size;refine bN ((ax.any ha.ae).trans k2) ?_;refine i7 (sz:=1) (zv:=iv 0) n2 U rfl Y Y U Yd λgg u3 hg=>?_;have tg:=hg.au;refine bN (((ax.any ha.ae).trans k2).trans (ax.any hg.ae)) ?_;refine go ?_;refine st (C2.ae hg.ae) (by simp) U λu4 D2 k4 _=>?_;refine bN ((((ax.any ha.ae).trans k2).trans (ax.any hg.ae)).trans k4) ?_;exact⟨0,Yt,ga,gg,(((ax.any ha.ae).trans k2).trans (ax.any hg.ae)).trans k4,D2,hz (((ha.aS.ah k2 Y).ae hg.ae).ah k4 Y),hz (hg.aS.ah k4 Y),Y,Y,Y⟩
  .refine i7 (sz:=1) (zv:=iv 0) n2 U rfl Y Y U Yd λgg u1 hg=>?_;have tg:=hg.au;have sg:=hg.size;refine bN (ax.any hg.ae) ?_;refine i7 (sz:=1) (zv:=iv 0) n2 U rfl Y Y U Yd λga u2 ha=>?_;have ta:=ha.au;have xq:=hg.ae.trans ha.ae;refine bN (ax.any xq) ?_;refine go ?_;refine st (B2.ae xq) (by simp) U λu3 C2 k3 _=>?_;have C2:aP u3 b2 50 [aY,aY,aY,aY,aY,aY,aY,aY,aY,aB (aL ga) n2 n2,aY,aY,aY,iv 0]:=C2;refine bN ((ax.any xq).trans k3) ?_;refine go ?_;refine st C2 (by simp) U λu4 D2 k4 _=>?_;refine bN (((ax.any xq).trans k3).trans k4) ?_;exact⟨0,Yt,ga,gg,((ax.any xq).trans k3).trans k4,D2,hz ((ha.aS.ah k3 Y).ah k4 Y),hz (((hg.aS.ae ha.ae).ah k3 Y).ah k4 Y),Y,Y,Y⟩
 rintro Gx sx fU ⟨ga,gg,O,B2,Ba,Bg,hW,tq,tn⟩;have lu:=O.size;have kb:∀b,b<aq.heap.size->b≠b2->b≠b2:=λ_ _ h=>h;have dy:ax w fU:=(fs.trans af).ag O λb hb _=>Y;have B1:=(B1.ae aa).ah O Y;have B3:=(B3.ae aa).ah O Y;have B4:=(B4.ae aa).ah O Y;have B5:=(B5.ae aa).ah O Y;have B8:=B8.ah O Y;have B9:=B9.ah O Y;have B10:=B10.ah O Y;refine go ?_;refine aJ (LG (hx.ae dy)) ?_;rintro _ w17 ⟨bq,rfl,fh,Bq,tt⟩;refine range (gf:=68) (lb:=#[ptr bq]) U λfn tmps W0 RL hRL hF nl ef zz dO hM=>?_;obtain⟨p1,q1,p2,q2,p3,q3,p4,q4,p5,q5,rI,cI,rE,cE,rS,cS,rT,cT,rL,cL,TI,TE,TS,TT,TL,ord,og,os,o7⟩:=RN.aqZ;obtain⟨rest,Bi⟩:=RN.inf;obtain⟨sy,su,sq⟩:=RN.ne;have lA:=af.size;have z17:=fh.size;have r8:=ef.size;have ei:aj (λb=>b≠b2) w10 fU:=(ax.any af).trans O;have bg:=fh.trans ef;have a7:aj (λb=>b≠b2) w10 W0:=ei.trans (ax.any bg);have br:=dy.trans bg;have sO:=Ba.lt;have sL:=Bg.lt;have sQ:=B2.lt;have l7:=RN.run.lt;have sC:=RN.sp.lt;obtain⟨cX,a6⟩:∃cX:Nat->Nat,cX=Dq p1 q1 p2 q2 p3 q3 p4 q4 p5 q5 gs b8 b2 b10 ga gg (w17.heap.size+1) W0.heap.size:=⟨_,U⟩;have hc1:∀b,p1<=b->b<q1->cX b=1:=λb h1 h2=>by rw[a6];unfold Dq;rw[asp ⟨h1,h2⟩]
 have hc2:∀b,p2<=b->b<q2->cX b=2:=λb h1 h2=>by rw[a6];unfold Dq;rw[aso Y,asp ⟨h1,h2⟩]
 have om:∀b,p3<=b->b<q3->cX b=3:=λb h1 h2=>by rw[a6];unfold Dq;rw[aso Y,aso Y,asp ⟨h1,h2⟩]
 have oj:∀b,p4<=b->b<q4->cX b=4:=λb h1 h2=>by rw[a6];unfold Dq;rw[aso Y,aso Y,aso Y,asp ⟨h1,h2⟩]
 have oi:∀b,p5<=b->b<q5->cX b=5:=λb h1 h2=>by rw[a6];unfold Dq;rw[aso Y,aso Y,aso Y,aso Y,asp ⟨h1,h2⟩]
 have hc0:∀b,b<W0.heap.size->(b<p1\/q1<=b)->(b<p2\/q2<=b)->(b<p3\/q3<=b)->(b<p4\/q4<=b)->(b<p5\/q5<=b)->b≠gs->b≠b8->b≠b2->b≠b10->b≠ga->b≠gg->b≠w17.heap.size+1->cX b=0:=λb h0 h1 h2 h3 h4 h5 h6 h7 h8 h9 vb h11 va=>by rw[a6];unfold Dq;rw[aso Y,aso Y,aso Y,aso Y,aso Y,aso h6,aso h7,aso Y,asp h0]
 have hV:∀b,W0.heap.size<=b->cX b=9:=λb h0=>by rw[a6];unfold Dq;rw[aso Y,aso Y,aso Y,aso Y,aso Y,aso Y,aso Y,aso Y,aso Y]
 have oe:cX gs=6:=by rw[a6];unfold Dq;rw[aso Y,aso Y,aso Y,aso Y,aso Y,asp U]
 have oc:cX b8=7:=by rw[a6];unfold Dq;rw[aso Y,aso Y,aso Y,aso Y,aso Y,aso Y,asp U]
 have bk:∀b,(b=b2\/b=b10\/b=ga\/b=gg\/b=w17.heap.size+1)->cX b=8:=λb hb=>by rw[a6];unfold Dq;rw[aso Y,aso Y,aso Y,aso Y,aso Y,aso Y,aso Y,asp hb]
 clear a6;have jo:cX b1=0:=hc0 _ Y Y Y Y Y Y Y Y Y Y Y Y Y;have jb:cX b3=0:=hc0 _ Y Y Y Y Y Y Y Y Y Y Y Y Y;have q8:cX b4=0:=hc0 _ Y Y Y Y Y Y Y Y Y Y Y Y Y;have pr:cX b5=0:=hc0 _ Y Y Y Y Y Y Y Y Y Y Y Y Y;have j8:cX b7=0:=hc0 _ Y Y Y Y Y Y Y Y Y Y Y Y Y;have pn:cX b9=0:=hc0 _ Y Y Y Y Y Y Y Y Y Y Y Y Y;have cq:cX bq=0:=hc0 _ (by have:=Bq.lt;omega) Y Y Y Y Y Y Y Y Y Y Y (by have:=Bq.lt;omega);have j4:cX gi=0:=hc0 _ Y Y Y Y Y Y Y Y Y Y Y Y Y;have j5:cX w17.heap.size=0:=hc0 _ Y Y Y Y Y Y Y Y Y Y Y Y Y;have cw:∀b,b<w.heap.size->cX b=0:=λb hb=>hc0 _ Y Y Y Y Y Y Y Y Y Y Y Y Y;obtain⟨B1,B3,B4,B5,B8⟩:=Pz bg B1 B3 B4 B5 B8;obtain⟨B9,B10,B2,Ba,Bg⟩:=Pz bg B9 B10 B2 Ba Bg;have B7:=RN.run.ah a7 Y;have Bi:=Bi.ah a7 Y;have Bs:=RN.sp.ah a7 Y;have Bq:=Bq.ae ef;have ni:=(hx.ae br).ar (D':=λ_=>True) λ_ _ _=>Yt;have av:∀t:Nat,t<6->∀b,cX b=t->t≠0->b≠b2:=λt ht b hb h0 e=>by have:=bk b (.inl e);omega
 have o4:=TI.c_;have ob:=TE.c_;have nL:=TS.c_;have nz:=TT.c_;have hT:=TL.c_;have TI:=(TI.cX hc1).ah a7 λb hb=>av 1 Yd b hb Yd;have TE:=(TE.cX hc2).ah a7 λb hb=>av 2 Yd b hb Yd;have TS:=(TS.cX om).ah a7 λb hb=>av 3 Yd b hb Yd;have TT:=(TT.cX oj).ah a7 λb hb=>av 4 Yd b hb Yd;have TL:=(TL.cX oi).ah a7 λb hb=>av 5 Yd b hb Yd;have m0:mK x 0=0:=by unfold mK eX;omega
 have ox:∀r h:Nat,dY x.d [] r h=0:=λr h=>yG (λc hc=>by cases hc) r;have ew:∀e:Int,(ia x).err=e->e≠0->ir x=e:=λe h1 h2=>by rw[ep,h1,asp h2]
 show aK _ _ #[.func (.yield (w17.heap.size+1)) #[] #[],ptr bq] W0 _;refine(Jx (R:=anz x w b2 b3 (w17.heap.size+1) w17.heap.size) (λk u=>acN x w W0 cX k b2 b8 b10 gs ga gg gI gE gS gT gL n1 n2 H rI cI rE cE rS cS rT cT rL cL u/\dc u (w17.heap.size+1) RL) Bq ni sn (λk u J=>Bq.ah J.1.K cq) ?_ ⟨?_,hM⟩).mono ?_
 .rintro k u hlt ⟨J,l1⟩;have gq:RL.state=.ready/\RL.pending=none:=by rw[hRL];exact⟨U,U⟩
  have ou:RL.body=Tu (body Tryz.f7):=by rw[hRL];kernel_rfl
  have hL:RL.params=#[78,79]:=by rw[hRL]
  refine dQ (args:=[iv ((k:Int)*x.every),iv (min ((k:Int)*x.every+x.every) x.d.aG)]) l1 gq.1 (by rw[hL];rfl) (by rw[hRL];exact hF) (by rw[hRL];exact nl) ?_;rw[hL,show RL.assign=_ from by rw[hRL]];refine tN l1 λu2 k2 r6 l2=>?_;show Go.Proofs.YtakcjkbnfegidaaGreat.V _ RL.body _ _ _ _;rw[ou];exact Tw ⟨U,U,U,U,U,U,U,U,U,U,Yt⟩ gq hlt J k2 l2 hx few q hH br B1 B3 B4 B5 B7 B9 Bi dO hV bk oc oe jo jb q8 pr j8 pn j4 j5 cw Y
 .skip;refine⟨U,λj hj=>Y,λj hj=>Y,atc _,.refl _ _,?_,?_,TI.jZ λa b _ _=>(ox a b).symm,TE.jZ λa b _ _=>?_,TS.jZ λa b _ _=>?_,TT.jZ λ_ _ _ _=>rfl,TL.jZ λa b _ _=>?_,?_,Bg,?_⟩
  .rw[m0];exact B8
  .rw[m0];have e:cJ (cn H λj=>if j<0 then sH x (cy x 0).bX j else 0)=List.replicate H (iv 0):=by unfold cJ cn;rw[auo];exact LR
   rw[e];exact Bs
  .unfold Di;rw[m0,aso Y]
  .unfold DC;rw[m0,aso Y]
  .unfold JB;rw[m0,aso Y]
  .have e:cJ (eZ n2 (cy x 0).gK)=List.replicate n2 (iv 0):=by unfold cJ eZ;rw[auo];refine at8 (by simp) λi h1 h2=>by simp[cy,aV]
   rw[e];exact Ba
  .exact⟨none,0,[],λ_=>False,none,0,0,none,0,0,B2,.nil br,U,λb h=>h.elim,B10,.nil br,λg h=>by(cases h),λg h=>by(cases h)⟩
 .rintro _ u (⟨J,l1⟩|⟨r,lr,hr1,hr2,lB,C2,⟨e,C3,he,ns⟩,j0⟩);rotate_left
  .skip;refine dL _ lr hr1 λu2 k2=>?_;rw[hr2];have oy:=(k2.aS _ (asV.1 j0).1 Y).trans j0;refine oN oy ?_;have k3:=aj.putObj u2 w17.heap.size (.deferred none);refine da _ (bU (bF.aS ((C2.ah k2 Y).ah k3 Y)) U) ?_;refine da _ (bj (((C3.ah k2 Y).ah k3 Y).ai U)) ?_;have ee:=ew e ns he;exact⟨(lB.ag k2 λb hb _=>Y).ag k3 λb hb _=>Y,pa,by rw[ee];rfl,U,λ_=>rfl,λh=>absurd (ee.symm.trans h) he⟩
  subst hRL;refine dL _ l1 (by simp) λu1 k1=>?_;obtain⟨As,bo,lq,Q,Ag,ng,cg,Ao,no,co,B2,oS,fl,hQ,B10,oG,oA,ud⟩:=J.ex;have I:=Wz (x:=x) q (fz x) J.mad J.err J.aS;have o3:cX (w17.heap.size+1)=8:=bk _ (.inr (.inr (.inr (.inr U))));have wi:=bk b2 (.inl U);have wb:=bk ga (.inr (.inr (.inl U)));have wa:=bk gg (.inr (.inr (.inr (.inl U))));have u0:w17.heap.size+1<W0.heap.size:=Y;have p0:=sn.ev;have bI:mK x (fz x)=H:=by
   have h1:x.d.aG<=(fz x:Int)*x.every:=by
    have h2:=avj (x.d.aG+x.every-1) (show 0<x.every from Y);have h3:0<=(x.d.aG+x.every-1)/x.every:=aue Y Y;have h4:(fz x:Int)=(x.d.aG+x.every-1)/x.every:=by unfold fz;omega
    rw[h4];rw[atX] at h2;omega
   unfold mK eX;rw[Int.min_eq_right h1];omega
  have Ku:=J.K.ag k1 λb _ h e=>by rw[e] at h;omega
  have nf:aj (λb=>cX b≠8\/b≠w17.heap.size+1) u u1:=k1.cU λb _ h=>by
   rcases h with h|h
   .intro e;rw[e] at h;exact h o3
   .exact h
  have fe:=br.ag Ku λb hb _=>cw b hb;have zu:=J.K.size;have r5:=k1.size;have ib:=(Ku.aS _ Y j5).trans dO;have lf:=B7.ah Ku j8;have qq:=B2.ah k1 Y;have qs:=B1.ah Ku jo;have B3u:=B3.ah Ku jb;have qa:=J.TT.ah nf λb hb=>Y;have qi:=J.Ba.ah k1 Y;have qd:=J.Bg.ah k1 Y;obtain⟨G,hG⟩:∃G,G=(cy x (fz x)).bX:=⟨_,U⟩;obtain⟨SS,a8⟩:∃S,S=(cy x (fz x)).gK:=⟨_,U⟩;refine go ?_;refine fg qq λu2 C2 k2 _=>?_;refine i7 (sz:=1) (zv:=iv 0) n2 U rfl Y Y U Yd λgh u3 bw=>?_;have sc:=bw.au;have r4:=k2.size;have r3:=bw.size;have Bh:aP u3 gh 3 (cJ (cn n2 λj=>if j<0 then(0:Int) else 0)):=by
   have h:=bw.aS;rw[show cz (iv 0)=[iv 0] from U] at h;have e1:(List.replicate n2 [iv 0]).flatten=cJ (cn n2 λj=>if j<0 then(0:Int) else 0):=by unfold cJ cn;rw[auo];exact LR
   rw[e1] at h;exact h
  have oL:eZ n2 SS=cn n2 (bL (eZ n2 SS)):=by have:=AA (l:=eZ n2 SS);rwa [show(eZ n2 SS).length=n2 by unfold eZ;rw[asz,as3]] at this
  have k13:=k2.trans (ax.any bw.ae);have dp:=qi.ah k13 Y;have qe:=qd.ah k13 Y;have kn:=qa.ah k13 λb hb e=>by rw[e] at hb;omega
  have qj:=lf.ah k13 Y;have db:=C2.ae bw.ae;rw[<-a8] at dp;rw[<-hG] at kn;rw[oL] at dp;have hP:uT x.d G:=eF (by rw[hG];exact I.JX);have oO:Conv x.d G:=by rw[hG];exact I.cv
  have bT:∀f j:Nat,0<=oY G f j/\oY G f j<=1073741824:=λf j=>⟨jT hP f j,oO.le f j⟩;obtain⟨GV,eo⟩:∃GV:Nat->Int,GV=λf=>aV (cn H (oY G f)):=⟨_,U⟩;have kj:∀f,0<=GV f/\GV f<=24*1073741824:=λf=>by
   have:=jl (l:=cn H (oY G f)) λv hv=>by unfold cn at hv;obtain⟨j,-,rfl⟩:=asS.1 hv;exact bT f j
   rw[dm] at this;rw[eo];show 0<=aV _/\aV _<=_;omega
  have ej:SS.length=fz x:=by have h1:=fl.an;have h2:=oS.own.an;rw[h1,show vq.sz=8 from U,<-a8] at h2;omega
  have sT:fz x<=24:=by
   by_cases h:fz x=0
   .omega
   .have h1:=J.mad (fz x-1) Y;have h2:((fz x-1:Nat):Int)*1<=((fz x-1:Nat):Int)*x.every:=atd p0.1 Y;have h3:eX x (fz x-1)=((fz x-1:Nat):Int)*x.every:=U;omega
  have j1:∀f,0<=bL (eZ n2 SS) f/\bL (eZ n2 SS) f<=24*4398046511104:=λf=>by
   have h1:=XS (ss:=SS) (λs hs=>by rw[a8] at hs;obtain⟨bf,Pb,eb⟩:=(I.iw s hs).ex;obtain⟨h1,h2⟩:=qJ Pb;rw[<-eb] at h1 h2;exact⟨λc hc=>by have:=(h1.1 c hc).2.2.2.1;omega,h2⟩) f
   by_cases hf:f<n2
   .have e1:bL (eZ n2 SS) f=aV (SS.map λs=>jr s.ek f):=cY (by rw[WL];exact lX hf);rw[e1];omega
   .rw[Nq (by unfold eZ;rw[asz,as3];omega)];omega
  obtain⟨SV,hZ⟩:∃SV:Nat->Int,SV=λf=>min 1073741824 (max 0 (bL (eZ n2 SS) f-GV f)):=⟨_,U⟩;refine an ?_;refine aM (λf:Nat=>[(201,iv (f:Int))]) (λf v=>f<=n2/\aj (λb=>b≠gg/\b≠gh) u3 v/\aP v gg 3 (cJ (cn n2 λj=>if j<f then GV j else 0))/\aP v gh 3 (cJ (cn n2 λj=>if j<f then SV j else 0))) (λf _=>n2-f) 0 ⟨U,Yt⟩ ⟨Y,.refl _ _,by
   have e:cJ (cn n2 λj=>if j<0 then GV j else 0)=List.replicate n2 (iv 0):=by unfold cJ cn;rw[auo];exact LR
   rw[e];exact qe,by
   have e:(cn n2 λj=>if j<0 then SV j else 0)=cn n2 λj=>if j<0 then(0:Int) else 0:=lU λj _=>by rw[aso Y,aso Y]
   rw[e];exact Bh⟩ U ?_
  rintro Gf f v ⟨hf,kv,df,bx⟩;have zv:=kv.size;refine cD (λhlt2=>?_) λhge2=>?_
  .have ak:f<n2:=Y;have cK:=db.ah kv (by have:=db.lt;omega);have eT:=qj.ah kv ⟨Y,Y⟩;have eS:=kn.ah kv λb hb=>⟨λe=>by rw[e] at hb;omega,λe=>by have:=hV gh Y;rw[e] at hb;omega⟩;have hI:=(eS.R.row f ak).1;refine bR (oP [8,10] [10] [0,1,2,3,4,5,6,7,8,9,10]) [10] (λz=>ax v z) mx Z (.refl _ _)<|bC<|fu (aB (aL gg) n2 n2) (cK.ai U) Yt (.refl _ _)<|bC<|fu (aB (aL gT) n2 n2) (eT.ai U) Yt (.refl _ _)<|idx f U ak<|fu (aB (some (ad (rT f) 0)) H (cT f)) (eS.R.aS.ai (eS.head ak)) Yt (.refl _ _) ?_;refine aJ (Ns (D:=λ_=>True) (l:=cn H (oY G f)) (jL (rest:=[]) (by rw[asT];exact hI) dm.symm (λz hz=>by
    unfold cn at hz;obtain⟨j,-,rfl⟩:=asS.1 hz;have:=bT f j;unfold jt;omega) Y Yt) (λz hz=>by
    unfold cn at hz;obtain⟨j,-,rfl⟩:=asS.1 hz;exact bT f j) Y) ?_
   rintro _ v1 ⟨rfl,x1⟩;refine bN x1<|idx f U ak<|gv (λ_=>True) Yt<|st (df.ae x1) (by unfold cJ;rw[asz,dm];omega) U λv2 b0 nc _=>go ?_;have b0:aP v2 gg 3 ((cJ (cn n2 λj=>if j<f then GV j else 0)).set (0+f*1) (iv (aV (cn H (oY G f))))):=b0;rw[show 0+f*1=f from Y,ij,iZ] at b0;have b0:aP v2 gg 3 (cJ (cn n2 λj=>if j<f+1 then GV j else 0)):=gD b0 (by
    funext j;by_cases e:j=f
    .rw[asp e,asp Y,e,eo]
    .rw[aso e];by_cases e2:j<f
     .rw[asp e2,asp Y]
     .rw[aso e2,aso Y])
   have dE:aj (λb=>b≠gg) v v2:=(ax.any x1).trans nc;have kr:=cK.ah dE Y;have qg:=(dp.ah kv ⟨Y,by have:=dp.lt;omega⟩).ah dE Y;have qc:=bx.ah dE Y;have bA:=j1 f;have bG:=kj f;refine bR (oP [16] [16] [0,1,2,3,4,5,6,7,8,9,10,11,12,13,14,15,16]) [16] (λz=>z=v2) mx Z U<|bC<|ld (aB (aL ga) n2 n2) (kr.ai U)<|idx f U ak<|ld (iv (bL (eZ n2 SS) f)) (qg.ai (eH ak))<|bC<|ld (aB (aL gg) n2 n2) (kr.ai U)<|idx f U ak<|ld (iv (GV f)) (b0.ai (by rw[eH ak,asp Y]))<|eD (n:=bL (eZ n2 SS) f-GV f) Y<|idx f U ak<|gv (λ_=>True) Yt<|st qc (by unfold cJ;rw[asz,dm];omega) U λv3 dd gn _=>go ?_;have dd:aP v3 gh 3 ((cJ (cn n2 λj=>if j<f then SV j else 0)).set (0+f*1) (iv (min 1073741824 (max 0 (bL (eZ n2 SS) f-GV f))))):=dd;rw[show 0+f*1=f from Y,ij,iZ] at dd;refine next (f+1) ⟨Yn,Yt⟩ ⟨Y,(kv.ag dE λb _ h=>h.1).ag gn λb _ h=>h.2,b0.ah gn Y,gD dd ?_⟩ Y;funext j;by_cases e:j=f
   .rw[asp e,asp Y,e,hZ]
   .rw[aso e];by_cases e2:j<f
    .rw[asp e2,asp Y]
    .rw[aso e2,aso Y]
  have hfn:f=n2:=Y;rw[hfn] at df bx;clear hfn hge2 hf;have ay:x.d.aG.toNat=H:=Y;have eL:iE x G=cn n2 GV:=by rw[eo];unfold iE cn;rw[bE,ay]
  have pf:cn n2 (λj=>if j<n2 then GV j else 0)=iE x G:=by rw[eL];exact lU λj hj=>asp hj
  have pe:cn n2 (λj=>if j<n2 then SV j else 0)=kT x (eZ n2 SS) (iE x G):=by unfold kT;rw[bE];show cn n2 _=cn n2 _;refine lU λj hj=>?_;rw[asp hj,hZ,eL,cY (lX hj)]
  rw[pf] at df;rw[pe] at bx;have j2:(ia x).err=0:=J.err;have et:ir x=mv x.dr (x.eG.map (je x)) (kT x (eZ n2 SS) (iE x G)):=by rw[ep,aso λh=>h j2,bE,a8,hG];rfl
  have mo:ax w u3:=fe.ag k13 λb hb _=>Y;have xwv:ax w v:=mo.ag kv λb hb _=>⟨Y,Y⟩;have kuv:aj (λb=>b≠b2/\b≠gg) u1 v:=(k13.cU λb _ h=>h.1).ag kv λb hb h=>⟨h.2,Y⟩;have lp:=qs.ah kuv ⟨Y,Y⟩;have qn:=B3u.ah kuv ⟨Y,Y⟩;have eT:=lf.ah kuv ⟨Y,Y⟩;have l0:=(Bi.ah Ku j4).ah kuv ⟨Y,Y⟩;have cK:=db.ah kv (by have:=db.lt;omega);have hDv:v.heap[w17.heap.size]? =some (.deferred (some [])):=(kuv.aS _ Y ⟨Y,Y⟩).trans ib;have nh:iu (λb=>b<v.heap.size) v ([.string x.d.name,iv x.d.aG,iv x.d.cap,iv x.d.bH,aB A1 n1 c1,aB A2 n2 c2,aB A3 n3 c3,aB A4 n4 c4,aB A5 n5 c5,aB A6 n6 c6]++[iv x.every,aB G1 m1 e1,aB G2 m2 e2,aB G3 m3 e3,aB G4 m4 e4,aB G5 m5 e5,aB G6 m6 e6,aB G7 m7 e7,aB G8 m8 e8]) x:=(hx.ae xwv).ar λb _ hb=>by have:=xwv.size;omega
  refine bR (oP [5,7,14,16,18,19] [] [0,1,2,3,4,6,5,7,8,9,10,11,12,13,14,15,16,17,18,19]) [] (λz=>aj (λb=>b≠b2/\b≠b3) v z) mx Z (.refl _ _)<|bC<|fu (aB G5 m5 e5) (lp.ai U) (show b1≠b2/\b1≠b3 from Y) (.refl _ _)<|tM ([.string x.d.name,iv x.d.aG,iv x.d.cap,iv x.d.bH,aB A1 n1 c1,aB A2 n2 c2,aB A3 n3 c3,aB A4 n4 c4,aB A5 n5 c5,aB A6 n6 c6]++[iv x.every,aB G1 m1 e1,aB G2 m2 e2,aB G3 m3 e3,aB G4 m4 e4,aB G5 m5 e5,aB G6 m6 e6,aB G7 m7 e7,aB G8 m8 e8]) (.aS lp) U (show b1≠b2/\b1≠b3 from Y) (.refl _ _)<|bC<|fu (aB (aL gi) H ci) (eT.ai U) (show b7≠b2/\b7≠b3 from Y) (.refl _ _)<|aJ (Tj nh (jL (rest:=rest) l0 Y en Y Y) RN.cap sn) ?_;rintro _ v1 ⟨x1,Ap,np,cp,rfl,sP⟩;refine bN (ax.any x1) ?_;have fa:=xwv.trans x1;have qR:=gF.an;have qL:=few.dr;have lI:∀z∈kT x (eZ n2 SS) (iE x G),jt z:=λz hz=>by unfold kT at hz;obtain⟨j,-,rfl⟩:=asS.1 hz;unfold jt;show -9223372036854775808<=min 1073741824 (max 0 _)/\min 1073741824 (max 0 _)<=9223372036854775807;omega
  have shl:n2=(kT x (eZ n2 SS) (iE x G)).length:=by unfold kT;rw[asz,as3];omega
  have te:=bx.lt;refine aJ (Li (xs:=x.dr) (ps:=x.eG.map (je x)) (ws:=kT x (eZ n2 SS) (iE x G)) ((gF.ae fa).ar Yd λb hb _=>hb) sP (jL (rest:=[]) (by rw[asT];exact bx.ae x1) shl lI Y (by have:=x1.size;omega)) Y Y) ?_;rintro _ v2 ⟨x2,hC⟩;have x12:=x1.trans x2;have z12:=x12.size;have kB:=cK.ae x12;have ll:=qn.ae x12;rcases hC with⟨hne,rfl⟩|⟨c8,Aq,nq,cq,Ar,nr,cr,rfl,oq,gl⟩
  .have q2:aj (λb=>b≠b2/\b≠b3) v v2:=ax.any x12;refine bN q2<|bC<|st kB (by simp) U λv3 C3 k3 _=>?_;have q3:=q2.ag k3 λb _ h=>h.1;refine bN q3<|bC<|st C3 (by simp) U λv4 C4 k4 _=>?_;have q4:=q3.ag k4 λb _ h=>h.1;refine bN q4<|bC<|st C4 (by simp) U λv5 C5 bt _=>?_;have q5:=q4.ag bt λb _ h=>h.1;refine bN q5 ?_;have k25:=(k3.trans k4).trans bt;refine st (ll.ah k25 Y) (by simp) U λv6 D3 k6 _=>?_;have q6:=q5.ag k6 λb _ h=>h.2;refine bN q6 ?_;have D3:aP v6 b3 51 [iv (mv x.dr (x.eG.map (je x)) (kT x (eZ n2 SS) (iE x G)))]:=D3;have D2:=C5.ah k6 Y;refine ld (iv (mv x.dr (x.eG.map (je x)) (kT x (eZ n2 SS) (iE x G)))) (D3.ai U)<|cN (λ_=>?_) λh=>absurd h hne;refine bR (oP [2,3] [] [0,1,2,3]) [] (λz=>z=v6\/aP z b3 51 [iv (mv x.dr (x.eG.map (je x)) (kT x (eZ n2 SS) (iE x G)))]) mx Z (.inl U)<|hY pa Z<|pb (iv (mv x.dr (x.eG.map (je x)) (kT x (eZ n2 SS) (iE x G)))) (λv hv=>hv.elim (λe=>by rw[e];exact D3.ai U) λh=>h.ai U)<|jR (vs:=pa) D2 U Yl (λu hu=>asH.1 (show(pa.all λu=>u.oneCell')=true from U) u hu) λv7 E2 k7 _=>?_;have E2:aP v7 b2 50 pa:=E2;have E3:=D3.ah k7 Y;refine bN (.inr E3)<|st E3 (by simp) U λv8 F3 k8 _=>?_;have F3:aP v8 b3 51 [iv (mv x.dr (x.eG.map (je x)) (kT x (eZ n2 SS) (iE x G)))]:=F3;refine bN (.inr F3) ?_;have F2:=E2.ah k8 Y;have kv8:aj (λb=>b≠b2/\b≠b3) v2 v8:=(((k25.cU (D':=λb=>b≠b2/\b≠b3) λb _ h=>h.1).ag k6 λb _ h=>h.2).ag k7 λb _ h=>h.1).ag k8 λb _ h=>h.2;have hD8:v8.heap[w17.heap.size]? =some (.deferred (some [])):=(((ax.any (D:=λb=>b≠b2/\b≠b3) x12).trans kv8).aS _ (asV.1 hDv).1 ⟨Y,Y⟩).trans hDv;refine oN hD8 ?_;have k9':=aj.putObj v8 w17.heap.size (.deferred none);refine da _ (bU (bF.aS (F2.ah k9' Y)) U)<|da _ (bj ((F3.ah k9' Y).ai U)) ?_;have xf:ax w v8:=(xwv.trans x12).ag kv8 λb hb _=>⟨Y,Y⟩;exact⟨xf.ag k9' λb hb _=>Y,pa,by rw[et];rfl,U,λ_=>rfl,λh=>absurd (et.symm.trans h) hne⟩
  .have q2:aj (λb=>b≠b2/\b≠b3) v v2:=ax.any x12;refine bN q2<|bC<|st kB (by simp) U λv3 C3 k3 _=>?_;have q3:=q2.ag k3 λb _ h=>h.1;refine bN q3<|bC<|st C3 (by simp) U λv4 C4 k4 _=>?_;have q4:=q3.ag k4 λb _ h=>h.1;refine bN q4<|bC<|st C4 (by simp) U λv5 C5 bt _=>?_;have q5:=q4.ag bt λb _ h=>h.1;refine bN q5 ?_;have k25:=(k3.trans k4).trans bt;refine st (ll.ah k25 Y) (by simp) U λv6 D3 k6 _=>?_;have q6:=q5.ag k6 λb _ h=>h.2;refine bN q6 ?_;have D3:aP v6 b3 51 [iv 0]:=D3;have D2:=C5.ah k6 Y;have D2:aP v6 b2 50 [aB As (fz x) bo,aB Ao no co,aB (aL gi) H ci,aB (aL gs) H H,aB (aL gI) n1 n1,aB (aL gE) n1 n1,aB (aL gS) n1 n1,aB (aL gT) n2 n2,aB (aL gL) n1 n1,aB (aL ga) n2 n2,aB (aL gg) n2 n2,aB Aq nq cq,aB Ar nr cr,iv (dP (aV (gB x.dr (x.eG.map (je x)))) (kT x (eZ n2 SS) (iE x G))).2]:=D2;refine ld (iv 0) (D3.ai U)<|cN (λh=>absurd U h) λ_=>fj [aB As (fz x) bo,aB Ao no co,aB (aL gi) H ci,aB (aL gs) H H,aB (aL gI) n1 n1,aB (aL gE) n1 n1,aB (aL gS) n1 n1,aB (aL gT) n2 n2,aB (aL gL) n1 n1,aB (aL ga) n2 n2,aB (aL gg) n2 n2,aB Aq nq cq,aB Ar nr cr,iv (dP (aV (gB x.dr (x.eG.map (je x)))) (kT x (eZ n2 SS) (iE x G))).2] (.aS D2) U<|jR (vs:=[aB As (fz x) bo,aB Ao no co,aB (aL gi) H ci,aB (aL gs) H H,aB (aL gI) n1 n1,aB (aL gE) n1 n1,aB (aL gS) n1 n1,aB (aL gT) n2 n2,aB (aL gL) n1 n1,aB (aL ga) n2 n2,aB (aL gg) n2 n2,aB Aq nq cq,aB Ar nr cr,iv (dP (aV (gB x.dr (x.eG.map (je x)))) (kT x (eZ n2 SS) (iE x G))).2]) D2 U Yl Ys λv7 E2 k7 _=>?_;have E2:aP v7 b2 50 [aB As (fz x) bo,aB Ao no co,aB (aL gi) H ci,aB (aL gs) H H,aB (aL gI) n1 n1,aB (aL gE) n1 n1,aB (aL gS) n1 n1,aB (aL gT) n2 n2,aB (aL gL) n1 n1,aB (aL ga) n2 n2,aB (aL gg) n2 n2,aB Aq nq cq,aB Ar nr cr,iv (dP (aV (gB x.dr (x.eG.map (je x)))) (kT x (eZ n2 SS) (iE x G))).2]:=E2;refine st (D3.ah k7 Y) (by simp) U λv8 F3 k8 _=>?_;have F3:aP v8 b3 51 [iv 0]:=F3;refine ars ?_;intro F2 kv8 hD8 k9' xf;have e0:ir x=0:=et.trans c8;refine⟨xf.ag k9' λb hb _=>Y,_,by rw[e0];rfl,U,λh=>absurd e0 h,λ_=>⟨?_,J.aS⟩⟩;have F:=acP I;rw[<-hG] at F;have KF:aj (λb=>b≠b2/\b≠b3/\b≠gg/\b≠w17.heap.size/\b≠w17.heap.size+1) u (v8.putObj w17.heap.size (.deferred none)):=(((((k1.cU (D':=λb=>b≠b2/\b≠b3/\b≠gg/\b≠w17.heap.size/\b≠w17.heap.size+1) λb _ h=>h.2.2.2.2).ag k13 λb _ h=>h.1).ag kv λb hb h=>⟨h.2.2.1,Y⟩).ag x12 λ_ _ _=>Yt).ag kv8 λb _ h=>⟨h.1,h.2.1⟩).ag k9' λb _ h=>h.2.2.2.1;have kW:∀b,W0.heap.size<=b->b≠b2/\b≠b3/\b≠gg/\b≠w17.heap.size/\b≠w17.heap.size+1:=λb hb=>Y;have kc:∀b,cX b<8->cX b≠0->b≠b2/\b≠b3/\b≠gg/\b≠w17.heap.size/\b≠w17.heap.size+1:=λb h1 h2=>⟨λe=>by rw[e] at h1;omega,λe=>by rw[e] at h2;omega,λe=>by rw[e] at h1;omega,λe=>by rw[e] at h2;omega,λe=>by rw[e] at h1;omega⟩;obtain⟨WF,ow⟩:∃W,W=v8.putObj w17.heap.size (.deferred none):=⟨_,U⟩;rw[<-ow] at KF k9'|-;have z9:=k9'.size;have z8:=kv8.size;have KG:aj (λb=>b≠b2/\b≠b3/\b≠w17.heap.size) v2 WF:=(kv8.cU λb _ h=>⟨h.1,h.2.1⟩).ag k9' λb _ h=>h.2.2
   have gd:bS vq (λb=>b<WF.heap.size) WF As (fz x) SS:=by have h1:bS vq (λb=>Q b\/As=aL b) u As (fz x) SS:=oS.own.rd (a:=vq) (by rw[a8];exact fl.ar λb _ h=>.inl h) ej.symm Y λg hg=>.inr hg;exact(h1.ah KF λb _ h=>kW b (h.elim (λh=>(hQ b h).1) λh=>oA b h)).ar Yd λb hb _=>hb
   have cb:x.d.aD.length=n1:=lS;have ck:x.d.aR.length=n2:=bE;have ua:=KF.trans (aj.refl _ _);have l3:aP WF gi 3 (cJ x.dU++rest):=(l0.ae x12).ah KG ⟨Y,Y,Y⟩;have kG:aP WF gs 3 (cJ (cn H (sH x G))):=by have h:=J.Bs.ah KF (kc gs Y Y);rw[bI,<-hG] at h;have e:(cn H λj=>if j<H then sH x G j else 0)=cn H (sH x G):=lU λj hj=>asp hj;rw[e] at h;exact h
   have tI:nY cX 1 WF gI H n1 (dY x.d G) rI cI:=by have h:=J.TI.ah KF λb hb=>kc b Y Y;rw[<-hG] at h;exact h
   have tE:nY cX 2 WF gE H n1 (Ha x G) rE cE:=by have h:=J.TE.ah KF λb hb=>kc b Y Y;rw[<-hG,bI] at h;exact h.jZ λi j hi hj=>by unfold Di;rw[asp (.inl hj)];rfl
   have tS:nY cX 3 WF gS H n1 (Hb x G) rS cS:=by have h:=J.TS.ah KF λb hb=>kc b Y Y;rw[<-hG,bI] at h;exact h.jZ λi j hi hj=>by unfold DC;rw[asp (.inl hj)];rfl
   have tT:nY cX 4 WF gT H n2 (λf h=>cj G f h) rT cT:=by have h:=J.TT.ah KF λb hb=>kc b Y Y;rw[<-hG] at h;exact h
   have tL:nY cX 5 WF gL H n1 (O9 x G) rL cL:=by have h:=J.TL.ah KF λb hb=>kc b Y Y;rw[<-hG,bI] at h;exact h.jZ λi j hi hj=>by unfold JB;rw[asp (.inl hj)];rfl
   have rR:RuR (λb=>b<WF.heap.size) WF [aB (aL gi) H ci,aB (aL gs) H H,aB (aL gI) n1 n1,aB (aL gE) n1 n1,aB (aL gS) n1 n1,aB (aL gT) n2 n2,aB (aL gL) n1 n1] (acD x G):=by
    refine⟨_,_,_,_,_,_,_,_,_,_,_,_,_,_,_,_,_,_,_,_,_,U,?_,?_,?_,?_,?_,?_,?_,RN.cap,asN _⟩
    .show bS cO _ _ _ _ x.dU;exact jL (rest:=rest) l3 Y en Y l3.lt
    .show bS cO _ _ _ _ ((List.range x.d.aG.toNat).map (sH x G));rw[ay];refine jL (rest:=[]) (by rw[asT];exact kG) dm.symm (λv hv=>?_) Y kG.lt;obtain⟨j,hj,rfl⟩:=asS.1 hv;have:=F.SG (h:=j) (by have:=as0.1 hj;omega);unfold jt;omega
    .show bS gC _ _ _ _ (rb x.d.aD.length x.d.aG.toNat (dY x.d G));rw[ay,cb];exact tI.sl o4 (λi j _ _=>F.SH i j) Y Y λb hb=>hb
    .show bS gC _ _ _ _ (rb x.d.aD.length x.d.aG.toNat (Ha x G));rw[ay,cb];exact tE.sl ob (λi j hi _=>by have h1:=F.rO (r:=i) Y j;have h2:=F.SH i j;omega) Y Y λb hb=>hb
    .show bS gC _ _ _ _ (rb x.d.aD.length x.d.aG.toNat (Hb x G));rw[ay,cb];exact tS.sl nL (λi j hi _=>by have h1:=F.rO (r:=i) Y j;have h2:=F.SH i j;omega) Y Y λb hb=>hb
    .show bS gC _ _ _ _ (rb x.d.aR.length x.d.aG.toNat λf h=>cj G f h);rw[ay,ck];exact tT.sl nz (λi j _ _=>bT i j) Y Y λb hb=>hb
    .show bS gC _ _ _ _ (rb x.d.aD.length x.d.aG.toNat (O9 x G));rw[ay,cb];exact tL.sl hT (λi j hi _=>F.tail Y j) Y Y λb hb=>hb
   have l8:aP WF ga 3 (cJ (eZ n2 SS)):=by have h:=J.Ba.ah KF ⟨Y,Y,hW,Y,Y⟩;rw[<-a8] at h;exact h
   have l4:aP WF gg 3 (cJ (iE x G)):=(df.ae x12).ah KG ⟨Y,Y,Y⟩;have gr:py x.dr (x.eG.map (je x))=0:=by
    unfold mv at c8;by_cases hq:py x.dr (x.eG.map (je x))=0
    .exact hq
    .rw[asp hq] at c8;exact c8
   have kl:∀v∈gB x.dr (x.eG.map (je x)),0<=v/\v<=1073741824:=λv hv=>by unfold gB at hv;obtain⟨y,hy,rfl⟩:=asS.1 hv;exact tA ((I8 gr).1 y hy)
   have wk:(gB x.dr (x.eG.map (je x))).length=x.dr.length:=by unfold gB;rw[asz]
   have q9:=jl kl;have gb:∀v∈kT x (eZ n2 SS) (iE x G),0<=v:=λv hv=>by unfold kT at hv;obtain⟨j,-,rfl⟩:=asS.1 hv;show 0<=min 1073741824 (max 0 _);omega
   have lG:=WS (ws:=kT x (eZ n2 SS) (iE x G)) q9.1 gb;have s7:ax w WF:=xf.ag k9' λb hb _=>Y;have dx:aj (λb=>v.heap.size<=b) v2 WF:=KG.cU λb _ h=>Y;have r7:=x1.size;have lO:=oq.ints (D:=λb=>v.heap.size<=b) (λy hy=>by have:=kl y hy;unfold jt;omega) (by have h1:=oq.own.an;unfold cJ at h1;rw[asz] at h1;omega) λb hb=>Y;have lN:=gl.ints (D:=λb=>v.heap.size<=b) (λy hy=>by have:=lG.1 y hy;unfold jt;omega) (by have h1:=gl.own.an;unfold cJ at h1;rw[asz] at h1;have h2:=(yd (total:=aV (gB x.dr (x.eG.map (je x)))) (tH gb).1).2;omega) λb hb=>Y;refine⟨As,fz x,bo,Ao,no,co,[aB (aL gi) H ci,aB (aL gs) H H,aB (aL gI) n1 n1,aB (aL gE) n1 n1,aB (aL gS) n1 n1,aB (aL gT) n2 n2,aB (aL gL) n1 n1],aL ga,n2,n2,aL gg,n2,n2,Aq,nq,cq,Ar,nr,cr,?_,?_,?_,?_,?_,?_,?_⟩
   .show _=[Value.slice As (fz x) bo,aB Ao no co]++[aB (aL gi) H ci,aB (aL gs) H H,aB (aL gI) n1 n1,aB (aL gE) n1 n1,aB (aL gS) n1 n1,aB (aL gT) n2 n2,aB (aL gL) n1 n1]++[aB (aL ga) n2 n2,aB (aL gg) n2 n2,aB Aq nq cq,aB Ar nr cr,iv (dP (aV (gB x.dr (x.eG.map (je x)))) (kT x (eZ x.d.aR.length (cy x (fz x)).gK) (iE x (cy x (fz x)).bX))).2];rw[<-a8,<-hG,ck];rfl
   .show bS vq _ _ _ _ (cy x (fz x)).gK;rw[<-a8];exact gd
   .show RuR _ _ _ (acD x (cy x (fz x)).bX);rw[<-hG];exact rR
   .show bS cO _ _ _ _ (eZ x.d.aR.length (cy x (fz x)).gK);rw[<-a8,ck];refine jL (rest:=[]) (by rw[asT];exact l8) (by unfold eZ;rw[asz,as3]) (λv hv=>?_) Y l8.lt;obtain⟨i,hi⟩:=ath hv;have:=j1 i;rw[cY hi] at this;unfold jt;omega
   .show bS cO _ _ _ _ (iE x (cy x (fz x)).bX);rw[<-hG];refine jL (rest:=[]) (by rw[asT];exact l4) (by unfold iE;rw[asz,as3];omega) (λv hv=>?_) Y l4.lt;rw[eL] at hv;obtain⟨j,-,rfl⟩:=asS.1 hv;have:=kj j;unfold jt;omega
   .exact(lO.ah dx λb _ h=>h).ar Yd λb hb _=>hb
   .show bS cO _ _ _ _ (dP (aV (gB x.dr (x.eG.map (je x)))) (kT x (eZ x.d.aR.length (cy x (fz x)).gK) (iE x (cy x (fz x)).bX))).1;rw[<-a8,<-hG,ck];exact(lN.ah dx λb _ h=>h).ar Yd λb hb _=>hb
end
theorem ajI{x:cM}(sn:Nd x){j:Nat}(h:j<fz x):eX x j<x.d.aG:=by
 have ev:=sn.ev;have h1:((j+1:Nat):Int)<=(x.d.aG+x.every-1)/x.every:=by unfold fz at h;omega
 have u:=(avF (show 0<x.every from Y)).1 h1;have z:((j+1:Nat):Int)*x.every=j*x.every+x.every:=Yg;unfold eX;omega
noncomputable abbrev LJ (x:cM):aX:=kT x (eZ x.d.aR.length (ia x).gK) (iE x (ia x).bX)
noncomputable abbrev GtV (x:cM):aX:=(dP (aV (gB x.dr (x.eG.map (je x)))) (LJ x)).1
theorem ajD{x:cM}:ir x=0↔gP x=0/\(ia x).err=0/\mv x.dr (x.eG.map (je x)) (LJ x)=0:=by
 unfold ir;by_cases h1:gP x=0
 .exact Yg
 .exact Yg
theorem Nv{x:cM}:∀k,(cy x k).gK.length<=k
 |0=>asN _
 |k+1=>by
  have u:=Nv (x:=x) k
  rw[cy]
  split
  .omega
  .split
   .show(cy x k).gK.length<=k+1;omega
   .show((cy x k).gK++[_]).length<=k+1
    rw[asu,auQ];omega
structure Tx (x:cM):Prop where
 e:ir x=0
 aS:∀j,j<fz x->Fp x j
namespace Tx
variable {x:cM}
theorem I(P:Tx x):acF x (fz x):=by
 obtain⟨h1,z,-⟩:=ajD.1 P.e;exact Wz h1 (fz x) (λj u=>ajI (wW h1) u) z P.aS
theorem sn(P:Tx x):Nd x:=P.I.sn
theorem F(P:Tx x):Hf x (ia x).bX:=acP P.I
theorem nb(P:Tx x)(u:acE x.d):fz x<=24:=by
 by_cases h:fz x=0
 .omega
 .have h1:=ajI P.sn (show fz x-1<fz x from Y);have A:((fz x-1:Nat):Int)*1<=((fz x-1:Nat):Int)*x.every:=atd P.sn.ev.1 Y;have z:eX x (fz x-1)=((fz x-1:Nat):Int)*x.every:=U;have:=u.h;omega
theorem asd(P:Tx x):∀s∈(ia x).gK,(∀c∈s.ek,0<=c.aC/\c.aC<=1073741824)/\s.ek.length<=4096:=λs hs=>by
 obtain⟨bf,J,A⟩:=(P.I.iw s hs).ex;obtain⟨h1,u⟩:=qJ J;rw[<-A] at h1 u;exact⟨λc z=>by have:=(h1.1 c z).2.2.2.1;omega,u⟩
theorem asked(P:Tx x)(u:acE x.d)(f:Nat):0<=bL (eZ x.d.aR.length (ia x).gK) f/\bL (eZ x.d.aR.length (ia x).gK) f<=24*4398046511104:=by
 have h1:=XS P.asd f;have O:=P.nb u;have A:=Nv (x:=x) (fz x);by_cases z:f<x.d.aR.length
 .have J:bL (eZ x.d.aR.length (ia x).gK) f=aV ((ia x).gK.map λs=>jr s.ek f):=cY (by rw[WL];exact lX z);rw[J];have M:(ia x).gK.length<=fz x:=A;omega
 .rw[Nq (by unfold eZ;rw[asz,as3];omega)];omega
theorem amJ{G:List Cm}{f:Nat}(u:f<x.d.aR.length):bL (iE x G) f=aV ((List.range x.d.aG.toNat).map λh:Nat=>cj G f h):=by
 apply cY;unfold iE;rw[as6,atU u];rfl
theorem bX(P:Tx x)(u:acE x.d)(f:Nat):0<=bL (iE x (ia x).bX) f/\bL (iE x (ia x).bX) f<=24*1073741824:=by
 by_cases A:f<x.d.aR.length
 .rw[amJ A];have h:=jl (l:=(List.range x.d.aG.toNat).map λh:Nat=>cj (ia x).bX f h) λv z=>by obtain⟨j,-,rfl⟩:=asS.1 z;exact⟨jT (eF P.F.JX) f j,P.F.cv.le f j⟩
  rw[asz,as3] at h;have:=u.h;omega
 .rw[Nq (by unfold iE;rw[asz,as3];omega)];omega
theorem amB(P:Tx x):∀v∈gB x.dr (x.eG.map (je x)),0<=v/\v<=1073741824:=λv A=>by
 have z:=(ajD.1 P.e).2.2;have u:py x.dr (x.eG.map (je x))=0:=by
  unfold mv at z;by_cases M:py x.dr (x.eG.map (je x))=0
  .exact M
  .exact Yg
 unfold gB at A;obtain⟨y,J,rfl⟩:=asS.1 A;exact tA ((I8 u).1 y J)
theorem arC:∀v∈LJ x,0<=v:=λv u=>by
 unfold LJ kT at u;obtain⟨j,-,rfl⟩:=asS.1 u;show 0<=min 1073741824 (max 0 _);omega
theorem arD:(GtV x).length=x.d.aR.length:=by
 have h:=(yd (total:=aV (gB x.dr (x.eG.map (je x)))) (tH (arC (x:=x))).1).2;rw[h];unfold LJ kT;rw[asz,as3]
theorem got(P:Tx x)(u:Pl x)(f:Nat):0<=bL (GtV x) f/\bL (GtV x) f<=12*1073741824:=by
 have h1:=jl P.amB;have O:(gB x.dr (x.eG.map (je x))).length=x.dr.length:=by unfold gB;rw[asz]
 have M:=u.dr;have A:=WS (ws:=LJ x) h1.1 arC;by_cases z:f<(GtV x).length
 .have J:=A.1 _ (au0 z);rw[cY (asw z)];omega
 .rw[Nq Y];omega
end Tx
noncomputable def Ea (x:cM):aX:=cn x.d.aR.length λf=>max 0 (bL (eZ x.d.aR.length (ia x).gK) f-bL (iE x (ia x).bX) f-bL (GtV x) f)
section
variable {w:World}
set_option maxRecDepth 4000 in
theorem JJ{ak:aW}{x:cM}(hx:iu (λb=>b<w.heap.size) w ak x)(a1:Pl x):aK prog 8 #[.agg ak.toArray] w (λv w'=>ax w w'/\∃A n c,v=.tuple #[aB A n c,iv (ir x)]/\(ir x≠0->A=none/\n=0)/\(ir x=0->bu w w' A n c 3 1 (cJ (Ea x)))):=by
 have ay:=hx;obtain⟨bw,G1,m1,e1,G2,m2,e2,G3,m3,e3,G4,m4,e4,G5,m5,e5,G6,m6,e6,G7,m7,e7,G8,m8,e8,rfl,hd,-⟩:=hx.ex;obtain⟨A1,n1,c1,A2,n2,c2,A3,n3,c3,A4,n4,c4,A5,n5,c5,A6,n6,c6,rfl,-,b6,-⟩:=hd.ex;have bh:=b6.an;have fp:=a1.p;refine aF func8 Z<|box λb1 w1 h1=>?_;have B1:=h1.aS;refine go ?_;refine aJ (Ds ((ay.ae h1.ae).ar λb _ hb=>by have:=h1.ae.size;omega) a1) ?_;rintro _ w2 ⟨x2,cs,rfl,hl,h0,b0⟩;refine alloc λb4 w3 h3=>?_;have t4:=h3.au;have z2:=x2.size;by_cases e:ir x=0
 .obtain⟨⟨As,ns,bx,Ao,no,co,bt,Aa,V,ca,Ag,ng,cg,Ap,np,cp,Aq,nq,cq,rfl,-,hr,sA,sG,-,sQ⟩,hb⟩:=b0 e;obtain⟨R1,k1,r1,R2,k2,r2,R3,k3,r3,R4,k4,r4,R5,k5,r5,R6,k6,r6,R7,k7,r7,rfl,-⟩:=hr.ex;have P:Tx x:=⟨e,hb⟩;refine fg h3.aS λw4 B4 kk _=>?_;have W:=h3.ae.ag kk λb hb _ e=>Y;have a6:=(h1.ae.trans x2).trans W;rw[e];refine cN (λh=>absurd U h) λ_=>?_;refine go ?_;have la:=sA.an;have lg:=sG.an;have lq:=sQ.an;have av:V=x.d.aR.length:=by rw[<-la];unfold eZ;rw[asz,as3]
  have be:ng=x.d.aR.length:=by rw[<-lg];unfold iE;rw[asz,as3]
  have bb:nq=x.d.aR.length:=by rw[<-lq];exact Tx.arD
  have bm:V<=6:=by have:=fp.f;omega
  obtain⟨OV,a8⟩:∃O:Nat->Int,O=λf=>max 0 (bL (eZ x.d.aR.length (ia x).gK) f-bL (iE x (ia x).bX) f-bL (GtV x) f):=⟨_,U⟩;refine uk (λ(s:Nat) (A:bZ) (q r:Nat)=>[(18,iv (s:Int)),(2,aB A q r)]) (λs A q r u=>s<=V/\q=s/\ax w4 u/\bu w4 u A q r 3 1 (cJ (cn s OV))) (λs _ _ _ _=>V-s) 0 none 0 0 ⟨U,U,Yt⟩ ⟨atc _,U,.refl _ _,bu.nil (.refl _ _)⟩ U ?_;rintro G f A8 q8 r8 u ⟨hf,bk,xu,o8⟩;refine cD (λM=>?_) λb2=>?_
  .have M:f<V:=by have:((f:Nat):Int)<V:=M;omega
   have xv:=W.trans xu;obtain⟨ab,ao,bA,a,rfl,ha,-,bo,b7,rfl,-⟩:=(sA.ae xv).au M;obtain⟨gb,go,br,g,rfl,hg,-,af,b3,rfl,-⟩:=(sG.ae xv).au (show f<ng from Y);obtain⟨qb,qo,b9,q,rfl,hq,-,aa,aE,rfl,-⟩:=(sQ.ae xv).au (show f<nq from Y);have ba:=P.asked fp f;have bg:=P.bX fp f;have bq:=P.got a1 f;rw[cY ha] at ba;rw[cY hg] at bg;rw[cY hq] at bq;have aq:=B4.ae xu;have z24:=W.size;have t44:b4<w4.heap.size:=B4.lt;have af:gb<w2.heap.size:=af;have aa:qb<w2.heap.size:=aa;have J:∀b,b<w4.heap.size->A8≠aL b:=λb hb e=>by have:=o8.new b e;omega
   refine idx f U M<|ld (iv a) (b7 0 _ U)<|bR (oP [15,16] [] [0,1,2,3,4,5,6,7,8,9,10,11,12,13,14,15,16,17]) [] (λz=>aj (λb=>A8≠aL b) u z) mx Z (.refl _ _)<|bC<|fu (aB (some (ad gb go)) ng cg) (aq.ai U) (J b4 t44) (.refl _ _)<|idx f U Y<|fu (iv g) (b3 0 _ U) (J gb Y) (.refl _ _)<|eD (n:=a-g) Y<|bC<|fu (aB (some (ad qb qo)) nq cq) (aq.ai U) (J b4 t44) (.refl _ _)<|idx f U Y<|fu (iv q) (aE 0 _ U) (J qb Y) (.refl _ _)<|eD (n:=a-g-q) Y<|lit [iv (max 0 (a-g-q))] λgg v1 X=>?_;have a7:aj (λb=>A8≠aL b) u v1:=ax.any X.ae;refine bN a7<|iI (o8.ag X.ae) (X.src (sz:=1) U) Y λA' c' v2 o9 k9 bp=>bN (a7.trans k9)<|eD (n:=(f:Int)+1) Y<|qN (f+1) A' (q8+1) c' ⟨by show iv _=iv _;rw[asA];rfl,U,Yt⟩ ⟨Y,Y,o9.ae,?_⟩ Y;have e9:cJ (cn (f+1) OV)=cJ (cn f OV)++[iv (max 0 (a-g-q))]:=by unfold cJ cn;rw[atn,asK,asK,asQ,au1,asQ,au1,a8];simp only;rw[cY ha,cY hg,cY hq]
   rw[e9];exact o9
  .have b5:f=V:=by have:¬((f:Nat):Int)<V:=b2;omega
   refine tK (aB A8 q8 r8) (iv 0) U rfl ⟨a6.trans xu,A8,q8,r8,U,λh=>absurd U h,λ_=>?_⟩;have e9:Ea x=cn f OV:=by rw[a8,b5,av];rfl
   rw[e9];exact o8.base a6
 .have b8:=h0 e;subst b8;refine jR h3.aS U Yl (λu hu=>asH.1 (show(pa.all λu=>u.oneCell')=true from U) u hu) λw4 B4 kk _=>cN (λ_=>?_) λh=>absurd h e;exact tK (aY) (iv (ir x)) U rfl ⟨(h1.ae.trans x2).trans (h3.ae.ag kk λb hb _ e=>Y),none,0,0,U,λ_=>⟨U,U⟩,λh=>absurd h e⟩
end
section
variable {D:Nat->Prop} {w:World} {A:Option Addr} {n c:Nat}
theorem Dt{l:List (aX)}(h:bS gC D w A n l):aK prog 21 #[aB A n c] w (λv z=>∃b,v=.bool b/\(b=true->l.length<=70)/\ax w z):=by
 have W:=h.an;have hle:=h.le;refine aF func21 Z<|aM (λk:Nat=>[(3,iv (k:Int))]) (λk u=>k<=n/\u=w) (λk _=>n-k) 0 ⟨U,Yt⟩ ⟨atc _,U⟩ U ?_;rintro G k u ⟨hk,rfl⟩;refine an<|cD (λJ=>?_) λM=>?_
 .obtain⟨b,o,cs,x,rfl,-,-,-,O,Aw,V,X,rfl,-⟩:=h.au (show k<n from Y);refine idx k U Y<|ld _ (O 0 _ U)<|an<|cD (λ_=>?_) λ_=>?_
  .exact aQ _ U ⟨false,U,λh=>(by cases h),.refl _ _⟩
  .refine eD (n:=(k:Int)+1) Y<|next (k+1) ⟨Yn,Yt⟩ ⟨Y,U⟩ Y
 .refine an<|cD (λg=>?_) λg=>?_
  .exact aQ _ U ⟨true,U,λ_=>Y,.refl _ _⟩
  .exact aQ _ U ⟨false,U,λh=>(by cases h),.refl _ _⟩
set_option maxRecDepth 4000 in
set_option maxHeartbeats 1000000 in
theorem Tz{aa:aW}{x:cM}(hx:iu (λb=>b<w.heap.size) w aa x):aK prog 6 #[.agg aa.toArray,aY] w (λv w'=>∃b,v=.bool b/\(b=true->Pl x)/\ax w w'):=by
 have hx0:=hx;obtain⟨br,G1,m1,e1,G2,m2,e2,G3,m3,e3,G4,m4,e4,G5,m5,e5,G6,m6,e6,G7,m7,e7,G8,m8,e8,rfl,hd,a8,bq,bo,a7,af,bp,hev,ak,-⟩:=hx.ex;have hd0:=hd;obtain⟨A1,n1,c1,A2,n2,c2,A3,n3,c3,A4,n4,c4,A5,n5,c5,A6,n6,c6,rfl,aq,av,-⟩:=hd.ex;have b0:=aq.an;have bg:=av.an;have bk:=a8.an;have ay:=af.an;have be:=a7.an;refine aF func6 Z<|box λb2 w1 h1=>?_;have B2:=h1.aS;refine apf ?_;refine alloc λb5 w2 h2=>?_;refine fg h2.aS λw3 B5 k3 _=>?_;have t2:=h2.au;have x13:=h2.ae.ag k3 λb hb _ e=>Y;have x03:=h1.ae.trans x13;have B2:=B2.ae x13;refine go ?_;refine dt (QY (hd0.ae x03)) (λw4 q x4=>?_) λw4 q x4=>?_;rotate_left
 .exact aQ _ U ⟨false,U,λh=>(by cases h),x03.trans x4⟩
 obtain⟨B5,B2⟩:=zQ x4 B5 B2;have x23:=x03.trans x4;refine go ?_;refine cD (λ_=>?_) λg1=>?_
 .exact Dw
 refine go ?_;refine cD (λ_=>?_) λg2=>?_
 .exact Dw
 refine go ?_;refine cD (λ_=>?_) λg3=>?_
 .exact Dw
 refine go ?_;refine cD (λ_=>?_) λg4=>?_
 .exact Dw
 refine go ?_;refine arW ?_;refine cD (λ_=>?_) λg5=>?_
 .exact Dw
 refine go ?_;refine cD (λ_=>?_) λg6=>?_
 .exact Dw
 refine go ?_;refine cD (λ_=>?_) λg7=>?_
 .exact Dw
 refine go ?_;refine cD (λ_=>?_) λg8=>?_
 .exact Dw
 refine go ?_;refine cD (λ_=>?_) λg9=>?_
 .exact Dw
 refine go ?_;refine cD (λ_=>?_) λga=>?_
 .exact Dw
 refine go ?_;refine cD (λ_=>?_) λgb=>?_
 .exact Dw
 refine an ?_;refine cD (λh=>absurd h Yd) λ_=>?_;refine aM (λk:Nat=>[(7,iv (k:Int))]) (λk u=>k<=m1/\w4=u) (λk _=>m1-k) 0 ⟨U,Yt⟩ ⟨atc _,U⟩ U ?_;rintro Ga k u ⟨hk,rfl⟩;refine go ?_;refine cD (λhlt=>?_) λhge=>?_
 .obtain⟨b,o,cs,y,rfl,-,-,-,hc,hy⟩:=(a8.ae x23).au (show k<m1 from Y);obtain⟨Ap,np,cp,rfl,-⟩:=tl hy;refine go ?_;refine cD (λ_=>?_) λ_=>?_
  .exact Uc
  .refine go ?_;exact adz
 refine aM (λk:Nat=>[(8,iv (k:Int))]) (λk u=>k<=m4/\w4=u) (λk _=>m4-k) 0 ⟨U,Yt⟩ ⟨atc _,U⟩ U ?_;rintro Gb k2 u ⟨hk2,rfl⟩;refine go ?_;refine cD (λhlt=>?_) λhge=>?_
 .obtain⟨b,o,cs,y,rfl,-,-,-,hc,hy⟩:=(a7.ae x23).au (show k2<m4 from Y);obtain⟨Ap,np,cp,Aq,nq,cq,rfl,-⟩:=kH hy;refine go ?_;refine cD (λ_=>?_) λ_=>?_
  .exact Uc
  refine go ?_;refine cD (λ_=>?_) λ_=>?_
  .exact Uc
  .exact Yu
 refine go ?_;refine aJ (Dt (hev.ae x23)) ?_;rintro _ w5 ⟨p1,rfl,a6,x5⟩;have O:=x23.trans x5;cases p1 with
 |false=>
  exact aQ _ U ⟨false,U,λh=>(by cases h),O⟩
 |true=>
  refine go ?_;refine ld _ ((B2.ae x5).ai U) ?_;refine aJ (Dt (ak.ae O)) ?_;rintro _ w6 ⟨p2,rfl,V,x6⟩;have J:=O.trans x6;cases p2 with
  |false=>exact aQ _ U ⟨false,U,λh=>(by cases h),J⟩
  |true=>
   refine go ?_;refine ld _ (((B2.ae x5).ae x6).ai U) ?_;refine an ?_;have a6:=a6 U;have V:=V U;refine cD (λg=>?_) λg=>?_
   .exact aQ _ U ⟨true,U,λ_=>⟨⟨Y,Y,Y⟩,Y,Y,Y,Y⟩,J⟩
   .exact aQ _ U ⟨false,U,λh=>(by cases h),J⟩
end
def d58:aU:=⟨ByteArray.empty,4,100,8,[⟨ByteArray.empty,-1,1,20,50,0,⟨0,2⟩,⟨0,1⟩,⟨0,1⟩⟩],[⟨ByteArray.empty,0,0,-1⟩,⟨ByteArray.empty,0,0,-1⟩],[],[⟨ByteArray.empty,1,0,0,0,6,1,1,1,1⟩,⟨ByteArray.empty,1,1,0,0,6,1,1,1,1⟩],[],[]⟩
def iN:cM:=⟨d58,2,[],[],[],[⟨0,[⟨10,20⟩],[10]⟩],[⟨0,0,50,1⟩],[3,3,0,0],[[0,0,0,0]],[[0,0,0,0]]⟩
abbrev j9(k n:Int):Cm:=⟨k,k,1,n,0⟩
theorem acR:gP iN=0:=Z
theorem aq0:XP iN 0 2=[j9 0 6,j9 1 6]:=Z
theorem aq1:gZ d58 [] 0 (tZ iN 2) 0=0:=Z
theorem aq2:XP iN 2 4=[]:=Z
theorem aq3:gZ d58 [] 2 (tZ iN 4) 2=0:=Z
theorem aq4:Jk iN 0 2=[j9 0 6,j9 1 6]:=Z
theorem aq5:PG iN 0 2=[j9 0 6,j9 1 6]:=Z
theorem aq6:PG iN 2 4=[]:=Z
theorem acS{l:List Cm}(h1:∀c∈l,∃k n:Int,(k=0\/k=1)/\1<=n/\n<=6/\c=j9 k n)(J:l.Pairwise λa b=>tf a.ti b.ti)(M:l.length<=4):ez d58 l=0:=by
 refine iB.2 ⟨Z,Y,⟨λc A=>?_,J⟩⟩;obtain⟨k,n,hk,u,z,rfl⟩:=h1 c A;rcases hk with rfl|rfl
 .exact⟨(by decide:(0:Int)<=0/\(0:Int)<2),(by decide:(0:Int)<=0/\(0:Int)<2),(by decide:(0:Int)<=1/\(1:Int)<4),⟨u,by show n<=1073741824;omega⟩,_,U,U,U⟩
 .exact⟨(by decide:(0:Int)<=1/\(1:Int)<2),(by decide:(0:Int)<=1/\(1:Int)<2),(by decide:(0:Int)<=1/\(1:Int)<4),⟨u,by show n<=1073741824;omega⟩,_,U,U,U⟩
theorem qM{d:aU}(hd:cH (ic d)=0){l:List Cm}(h:ez d l=0):ez (ic d) l=0:=by
 obtain⟨-,z,u⟩:=iB.1 h;exact iB.2 ⟨hd,z,u⟩
def mkR(d:aU)(c:List Cm):Bool:=!nM d&&((eE d c).all (λo=>decide (o.aC<=1073741824))&&(decide ((eE d c).length<=4096)&&
 match gO d (eE d c) with
 |none=>false
 |some s=>decide (s.2.length<=4096)&&zx d (il qu s.2)))
theorem Hi{d:aU}{c:List Cm}(h:ez d c=0)(u:mkR d c=true):vy d c=true:=by
 unfold vy;rw[asE h,aui];exact u
theorem aq7:([]:List Cm).Pairwise λa b=>tf a.ti b.ti:=auS
theorem aq8{a:Cm}:[a].Pairwise λa b=>tf a.ti b.ti:=atY _ _
theorem aq9{n m:Int}:[j9 0 n,j9 1 m].Pairwise λa b=>tf a.ti b.ti:=by
 refine atE.2 ⟨λb u=>?_,atY _ _⟩;rw[asP] at u;subst u;exact .inr ⟨U,.inr ⟨U,.inl (by decide:(0:Int)<1)⟩⟩
theorem ce0:ez d58 []=0:=acS (λc u=>by cases u) aq7 Yd
theorem ce1:ez d58 [j9 0 6]=0:=acS (λc u=>by rw[asP] at u;exact⟨0,6,.inl rfl,Yd,Yd,u⟩) aq8 Yd
theorem ce2{n m:Int}(u:1<=n/\n<=6)(hm:1<=m/\m<=6):ez d58 [j9 0 n,j9 1 m]=0:=acS (λc z=>by
 rcases asM.1 z with h|h
 .exact⟨0,n,.inl rfl,u.1,u.2,h⟩
 .rw[asP] at h;exact⟨1,m,.inr rfl,hm.1,hm.2,h⟩) aq9 (by show 2<=4;decide)
theorem WT:cH (ic d58)=0:=Z
theorem mk0:vy (ic d58) []=true:=Hi (qM WT ce0) Z
theorem mk1:vy (ic d58) [j9 0 6]=true:=Hi (qM WT ce1) Z
theorem mk2:vy (ic d58) [j9 0 6,j9 1 6]=true:=Hi (qM WT (ce2 Yd Yd)) Z
theorem mk3:vy (ic d58) [j9 0 3,j9 1 3]=true:=Hi (qM WT (ce2 Yd Yd)) Z
theorem anA:uc d58 [] [j9 0 6,j9 1 6]=[j9 0 6,j9 1 6]:=by
 have A:il Ca [j9 0 6,j9 1 6]=[j9 0 6,j9 1 6]:=Z;have z:il j7 ([]++([]++[j9 0 6]))=[j9 0 6]:=Z;have u:il j7 ([]++([j9 0 6]++[j9 1 6]))=[j9 0 6,j9 1 6]:=Z;unfold uc;rw[A,mL,z,mk1,asp U,mL];show il j7 (mL d58 [] (if vy (ic d58) (il j7 ([]++([j9 0 6]++[j9 1 6])))=true then [j9 0 6]++[j9 1 6] else [j9 0 6]) [])=_;rw[u,mk2,asp U,mL];kernel_rfl
theorem anB:bV d58 [j9 0 6,j9 1 6] 0 2=[14,0]:=Z
theorem mkW:dX 8 [14,0] ⟨true,7,14,0⟩:=by
 exact YD
theorem arc:dX 6 [6,6] ⟨false,3,6,1⟩:=by
 exact YD
theorem ard:dX 0 [0,0] Mk.none:=by
 unfold dX;rw[aso λh=>h.2 U]
theorem awW:zG 8 [14,0]=[8,0]:=by
 unfold zG;rw[Lr mkW];kernel_rfl
theorem XT:fF d58 0=[(true,0),(true,1)]:=Z
theorem anC:oQ d58 [6,6] [14] 8 [8] [3,3] [⟨false,3,6,1⟩]:=by
 refine⟨U,U,U,Z,λr hr=>?_⟩;have hr:r<1:=hr;obtain rfl:r=0:=Y;have e1:ji d58 [6,6] [14] [8] 0=6:=Z;have e2:dg d58 [6,6] [14] 0=[6,6]:=Z;refine⟨by rw[e1,e2];exact arc,λk i h=>?_,λk i h=>?_⟩
 .exact aos
 .exact aoD
theorem acT:oQ d58 [0,0] [0] 0 [0] [0,0] [Mk.none]:=by
 refine⟨U,U,U,Z,λr hr=>?_⟩;have hr:r<1:=hr;obtain rfl:r=0:=Y;have e1:ji d58 [0,0] [0] [0] 0=0:=Z;have e2:dg d58 [0,0] [0] 0=[0,0]:=Z;refine⟨by rw[e1,e2];exact ard,λk i h=>?_,λk i h=>?_⟩
 .exact aos
 .exact aoD
theorem arf:sE d58 [6,6] 8=([8],[3,3],[⟨false,3,6,1⟩]):=Au Z (Gs Z Z) anC Yd
theorem anD:sE d58 [0,0] 0=([0],[0,0],[Mk.none]):=Au Z (Gs Z Z) acT Yd
theorem acU:iD d58 [j9 0 6,j9 1 6] 0 2 8=[[3,3],[0,0]]:=by
 unfold iD;rw[anB,asp Yd,awW];have z:dI d58 [j9 0 6,j9 1 6] (0+((0:Nat):Int))=[6,6]:=Z;have u:dI d58 [j9 0 6,j9 1 6] (0+((1:Nat):Int))=[0,0]:=Z;show [(sE d58 (dI d58 [j9 0 6,j9 1 6] (0+((0:Nat):Int))) (bL [8,0] 0)).2.1,(sE d58 (dI d58 [j9 0 6,j9 1 6] (0+((1:Nat):Int))) (bL [8,0] 1)).2.1]=_;rw[z,u,show bL [8,0] 0=8 from U,show bL [8,0] 1=0 from U,arf,anD]
def JK:pK:=⟨0,2,8,[j9 0 6,j9 1 6],[j9 0 6,j9 1 6],[3,3],true⟩
theorem anE:ra iN 0 8 []=JK:=by
 have e:min (0+iN.every) iN.d.aG=2:=Z;have u:((2:Int)-0).toNat=2:=U;unfold ra;rw[e,aq4,show iN.d=d58 from U,anA,u,acU,anB];show _=JK;kernel_rfl
def TA:pK:=⟨2,4,6,[],[],[],false⟩
abbrev g58:List Cm:=[j9 0 3,j9 1 3]
theorem anF:ra iN 2 6 g58=TA:=Z
theorem JL{x:cM}{aI fin:Int}(h1:gZ x.d x.eW aI (tZ x fin) aI=0)(z:jB x.d x.done (PG x aI fin) aI=0)(u:iq x.d (XP x aI fin) (Lq x aI)=0):nP x aI fin=0:=by
 unfold nP;rw[aso (by simpa using h1),aso (by simpa using z),u]
theorem JM{d:aU}{xs:List r9}{c:List Cm}{aN:Int}(h1:iC d xs=0)(z:ez d c=0)(u:dS aN 0 1048576=true):jB d xs c aN=0:=by
 unfold jB;rw[aso (by simpa using h1),aso (by simpa using z),asp u]
theorem ce6:ez d58 [j9 0 6,j9 1 6]=0:=ce2 Yd Yd
theorem anG:nP iN 0 2=0:=by
 refine JL aq1 ?_ ?_
 .rw[aq5];exact JM Z ce6 Z
 .rw[aq0];exact nn.2 ⟨Z,ce6,by show([j9 0 6,j9 1 6]:List Cm).length<=4096;decide,Z⟩
theorem anH:nP iN 2 4=0:=by
 refine JL aq3 ?_ ?_
 .rw[aq6];exact JM Z ce0 Z
 .rw[aq2];exact nn.2 ⟨Z,ce0,by show([]:List Cm).length<=4096;decide,Z⟩
theorem anI:eM iN 0 8 []=0:=tC.2 ⟨acR,Yd,Z,Yd,ce0,λc u=>(by cases u),mk0,anG⟩
theorem anJ:eM iN 2 6 g58=0:=tC.2 ⟨acR,Yd,Z,Yd,ce2 Yd Yd,λc u=>(by
 have A:dH iN.d (j9 0 3)=0:=Z;have z:dH iN.d (j9 1 3)=0:=Z;rcases asM.1 u with h|h
 .rw[h,A];decide
 .rw[asP] at h;rw[h,z];decide),mk3,anH⟩
theorem acV:cy iN 1=⟨0,[JK],g58⟩:=by
 have u:eX iN 0=0:=Z;have z:ug iN 0=8:=by show re iN [] (eX iN 0).toNat=8;rw[u];rfl
 have A:uh iN 0=JK:=by show ra iN (eX iN 0) (ug iN 0) []=_;rw[u,z,anE]
 have h:=pN (x:=iN) (k:=0) U;rw[u,z,A,aso (by show¬eM iN 0 8 []≠0;rw[anI];decide)] at h;rw[h];show _=_;kernel_rfl
theorem acW:cy iN 2=⟨0,[JK,TA],g58⟩:=by
 have h1:=acV;have z:eX iN 1=2:=Z;have u:(cy iN 1).bX=g58:=by rw[h1]
 have A:ug iN 1=6:=by unfold ug;rw[z,u];kernel_rfl
 have J:uh iN 1=TA:=by unfold uh;rw[z,A,u,anF]
 have h:=pN (x:=iN) (k:=1) (by rw[h1]);rw[z,A,J,u,aso (by rw[anJ];decide),h1] at h;rw[h];show _=_;kernel_rfl
theorem Nw:ia iN=⟨0,[JK,TA],g58⟩:=by
 have e:fz iN=2:=Z;unfold ia;rw[e,acW]
theorem WU:ir iN=0:=by
 unfold ir;rw[aso (by rw[acR];decide),Nw,aso Yd];kernel_rfl
abbrev kP:Reach:=⟨ByteArray.empty,-1,1,20,50,0,⟨0,2⟩,⟨0,1⟩,⟨0,1⟩⟩
abbrev iy:zk:=⟨ByteArray.empty,0,0,-1⟩
abbrev mz(f:Int):gW:=⟨ByteArray.empty,1,f,0,0,6,1,1,1,1⟩
abbrev Du:aW:=[iv 0,iv 0,iv 0,iv 0]
def R58(D:aW)(j:Nat)(v:Value)(w:World):Prop:=match j with
 |0=>v=.agg D.toArray
 |1=>∃g,v=.slice (some (ad g 0)) 4 4/\aP w g 3 [iv 3,iv 3,iv 0,iv 0]
 |2|4=>∃g,v=.slice (some (ad g 0)) 4 4/\aP w g 3 Du
 |3|5=>∃g q,v=.slice (some (ad g 0)) 1 1/\aP w g 37 [.slice (some (ad q 0)) 4 4]/\aP w q 3 Du
 |6=>∃a b c p q,v=.agg #[.slice (some (ad a 0)) 4 4,.slice (some (ad b 0)) 1 1,.slice (some (ad c 0)) 1 1]/\aP w a 3 [iv 3,iv 3,iv 0,iv 0]/\aP w b 37 [.slice (some (ad p 0)) 4 4]/\aP w p 3 Du/\aP w c 37 [.slice (some (ad q 0)) 4 4]/\aP w q 3 Du
 |7=>v=.agg #[iv 10,iv 20]
 |8=>∃g,v=.slice (some (ad g 0)) 1 1/\aP w g 57 [iv 10,iv 20]
 |9=>∃g,v=.slice (some (ad g 0)) 1 1/\aP w g 3 [iv 10]
 |10=>∃a b,v=.agg #[iv 0,.slice (some (ad a 0)) 1 1,.slice (some (ad b 0)) 1 1]/\aP w a 57 [iv 10,iv 20]/\aP w b 3 [iv 10]
 |11=>∃g a b,v=.slice (some (ad g 0)) 1 1/\aP w g 90 [iv 0,.slice (some (ad a 0)) 1 1,.slice (some (ad b 0)) 1 1]/\aP w a 57 [iv 10,iv 20]/\aP w b 3 [iv 10]
 |12=>v=.agg #[iv 0,iv 0,iv 50,iv 1]
 |13=>∃g,v=.slice (some (ad g 0)) 1 1/\aP w g 173 [iv 0,iv 0,iv 50,iv 1]
 |14=>∃a b c p q g h i s,v=.agg (D++[iv 2,.slice none 0 0,.slice none 0 0,.slice none 0 0,.slice (some (ad g 0)) 1 1,.slice (some (ad s 0)) 1 1,.slice (some (ad a 0)) 4 4,.slice (some (ad b 0)) 1 1,.slice (some (ad c 0)) 1 1]).toArray/\
  aP w a 3 [iv 3,iv 3,iv 0,iv 0]/\aP w b 37 [.slice (some (ad p 0)) 4 4]/\aP w p 3 Du/\aP w c 37 [.slice (some (ad q 0)) 4 4]/\aP w q 3 Du/\
  aP w g 90 [iv 0,.slice (some (ad h 0)) 1 1,.slice (some (ad i 0)) 1 1]/\aP w h 57 [iv 10,iv 20]/\aP w i 3 [iv 10]/\aP w s 173 [iv 0,iv 0,iv 50,iv 1]
 |_=>True
theorem R58.ae{D:aW}{j:Nat}{v:Value}{w w':World}(h:R58 D j v w)(k:ax w w'):R58 D j v w':=by
 unfold R58 at*;split at h
 .exact h
 .exact Pw
 .exact Pw
 .exact Pw
 .obtain⟨g,q,h1,h2,h3⟩:=h;exact⟨g,q,h1,h2.ae k,h3.ae k⟩
 .obtain⟨g,q,h1,h2,h3⟩:=h;exact⟨g,q,h1,h2.ae k,h3.ae k⟩
 .obtain⟨a,b,c,p,q,h0,h1,h2,h3,h4,h5⟩:=h;exact⟨a,b,c,p,q,h0,h1.ae k,h2.ae k,h3.ae k,h4.ae k,h5.ae k⟩
 .exact h
 .exact Pw
 .exact Pw
 .obtain⟨a,b,h0,h1,h2⟩:=h;exact⟨a,b,h0,h1.ae k,h2.ae k⟩
 .obtain⟨g,a,b,h0,h1,h2,h3⟩:=h;exact⟨g,a,b,h0,h1.ae k,h2.ae k,h3.ae k⟩
 .exact h
 .exact Pw
 .obtain⟨a,b,c,p,q,g,i,j,s,h0,h1,h2,h3,h4,h5,h6,h7,h8,J⟩:=h;exact⟨a,b,c,p,q,g,i,j,s,h0,h1.ae k,h2.ae k,h3.ae k,h4.ae k,h5.ae k,h6.ae k,h7.ae k,h8.ae k,J.ae k⟩
 .trivial
structure I58 (D:aW) (wb:World) (b0 b2:Nat) (l:Array Bool) (F:Fr) (w:World):Prop where
 ae:ax wb w
 f0:F 0=ptr b0
 f2:F 2=ptr b2
 r:∀j,j<15->l.getD j false=true->R58 D j (F (27+j)) w
theorem I58.put{D:aW}{z w u:World}{M J i:Nat}{l:Array Bool}{F:Fr}{v:Value}(h:I58 D z M J l F w)(_hi:i<15)(k:ax w u)(O:R58 D i v u):I58 D z M J (l.setIfInBounds i true) (de F (some (27+i)) v) u:=by
 have hu:∀t,de F (some (27+i)) v t=if t=27+i then v else F t:=λt=>by
  show(bif Nat.beq t (27+i) then v else F t)=_;by_cases e:t=27+i
  .rw[asp e,e,auw];rfl
  .rw[aso e];cases W:Nat.beq t (27+i) with
   |true=>exact absurd (atx W) e
   |false=>rfl
 refine⟨h.ae.trans k,by rw[hu,aso Y];exact h.f0,by rw[hu,aso Y];exact h.f2,λj V A=>?_⟩;rw[hu];by_cases e:j=i
 .subst e;rw[asp U];exact O
 .rw[aso Y];refine(h.r j V ?_).ae k;rw[ate,at9 Y] at A;rw[ate];exact A
section
variable {D D':Nat->Prop} {w:World} {A B:Option Addr} {n c m e:Nat}
theorem Eb{xs:aX}(O:bS cO D w A n xs)(V:bS cO D' w B m xs):aK prog 53 #[aB A n c,aB B m e] w (λv W=>v=.bool true/\W=w):=by
 have la:=O.an;have lb:=V.an;have hle:=O.le;refine aF func53 Z<|an<|an<|cN (λh=>absurd Y h) λ_=>aM (λk:Nat=>[(5,iv (k:Int))]) (λk u=>k<=n/\w=u) (λk _=>n-k) 0 ⟨U,Yt⟩ ⟨atc _,U⟩ U ?_;rintro G k u ⟨hk,rfl⟩;refine an<|cD (λa1=>?_) λa6=>?_
 .obtain⟨b1,o1,a8,x,rfl,X,-,-,M,rfl,-⟩:=O.au (show k<n from Y);obtain⟨b2,o2,a7,y,rfl,z,-,-,J,rfl,-⟩:=V.au (show k<m from Y);rw[X] at z;injection z with z;subst z;refine uo mx Z<|idx k U Y<|ld _ (M 0 _ U)<|idx k U Y<|ld _ (J 0 _ U)<|cN (λh=>absurd U h) λ_=>eD (n:=(k:Int)+1) Y<|next (k+1) ⟨Yn,Yt⟩ ⟨Y,U⟩ Y
 .exact aQ _ U ⟨U,U⟩
theorem lY{xs:aX}(J:bS cO D w A n xs)(z:bS cO D' w B m xs):aK prog 19 #[aB A n c,aB B m e] w (λv u=>v=.bool true/\u=w):=by
 refine aF func19 Z<|cR (b:=true) (Eb J z) (λ_=>?_) (λh=>by cases h);exact aQ _ U ⟨U,U⟩
end
theorem XU:Pl iN:=⟨⟨by decide,by decide,by decide⟩,by decide,by decide,by decide,by decide⟩
theorem XV:eZ iN.d.aR.length (ia iN).gK=[6,6]:=by rw[Nw];show _=_;kernel_rfl
theorem TC:iE iN (ia iN).bX=[3,3]:=by rw[Nw];show _=_;kernel_rfl
theorem anL:LJ iN=[3,3]:=by unfold LJ;rw[XV,TC];show _=_;kernel_rfl
theorem XW:gB iN.dr (iN.eG.map (je iN))=[4]:=by kernel_rfl
theorem XX:GtV iN=[2,2]:=by unfold GtV;rw[XW,anL];show _=_;kernel_rfl
theorem anM:Ea iN=[1,1]:=by unfold Ea;rw[XV,TC,XX];show _=_;kernel_rfl
end
end Go.Proofs.YtakcjkbnfegidaaGreat
