/- Part. -/
import Derived.Test.YtakcjkbnfegidaaGreatPT13
set_option linter.all false
namespace Go.Proofs.YtakcjkbnfegidaaGreat
open Go Go.RowKit Tryz
variable{D:Nat->Prop}{F N R a b g h i j k m n:Nat}{L:Nat->Int}{d:aU}{I T new old:Nat->Nat->Int}{c r:Nat->Nat}{w z:World}{x:cM}{t:TypeId}{G:List Cm}{l:List Od}{ops:Array Oper}
section
open Classical
structure nY (cX:Nat->Nat) (t:Nat) (u:World) (g F N:Nat) (L:Nat->Nat->Int) (r c:Nat->Nat):Prop where
 R:fO u g F N N 0 L r c
 g_:cX g=t
 r_:∀i,i<N->cX (r i)=t/\r i≠g
section
variable {cX:Nat->Nat} {t:Nat} {u v:World} {g F N:Nat} {L:Nat->Nat->Int} {r c:Nat->Nat}
theorem nY.ah(T:nY cX t u g F N L r c)(k:aj D u v)(z:∀b,cX b=t->D b):nY cX t v g F N L r c:=⟨T.R.ah k (z _ T.g_) λi hi=>z _ (T.r_ i hi).1,T.g_,T.r_⟩
theorem nY.ae(T:nY cX t u g F N L r c)(k:ax u v):nY cX t v g F N L r c:=T.ah k λ_ _=>Yt
theorem nY.jZ{L':Nat->Nat->Int}(T:nY cX t u g F N L r c)(e:∀i j,i<N->j<F->L i j=L' i j):nY cX t u g F N L' r c:=⟨T.R.jZ e,T.g_,T.r_⟩
theorem nY.head(_T:nY cX t u g F N L r c)(hi:i<N):(kN r c F N N)[0+i*1]? =some (aB (some (ad (r i) 0)) F (c i)):=by rw[as9,aua,jC hi,asp hi];rfl
theorem eH{L:Nat->Int}(z:j<F):(cJ (cn F L))[0+j*1]? =some (iv (L j)):=by rw[as9,aua];unfold cJ;rw[as6,lX z];rfl
theorem nY.set{x:Int}(T:nY cX t u g F N L r c)(hi:i<N)(z:aP v (r i) 3 ((cJ (cn F (L i))).set (0+j*1) (iv x)))(k:aj (λb=>b≠r i) u v):nY cX t v g F N (λa b=>if a=i/\b=j then x else L a b) r c:=⟨T.R.set hi (T.r_ i hi).2 (by rw[show 0+j*1=j by omega] at z;exact z) k,T.g_,T.r_⟩
end
def Ft(x:cM)(I:Nat->Nat->Int)(r j:Nat):Int:=uf (dB x.d r) (I r j) (zb x.dN r j)
def Hl(x:cM)(I:Nat->Nat->Int)(r j:Nat):Int:=wV (dB x.d r) (I r j) (zb x.dN r j) (zb x.kM r j)
def zd(x:cM)(I:Nat->Nat->Int)(r j:Nat):Int:=if(dB x.d r).bD<=j then I r (j-(dB x.d r).bD.toNat)-Ft x I r (j-(dB x.d r).bD.toNat)-Hl x I r (j-(dB x.d r).bD.toNat) else 0
def Hm(d:aU)(I:Nat->Nat->Int)(k r j:Nat):Int:=aV ((List.range k).map λc=>if 0<c/\(dB d c).up=r then I c j else 0)
def PH(d:aU)(T:Nat->Nat->Int)(k r j:Nat):Int:=aV ((List.range k).map λf=>if(jh d f).aZ=r then T f j else 0)
def taG(x:cM)(I T:Nat->Nat->Int)(r j:Nat):Int:=zd x I r j-Hm x.d I x.d.aD.length r j-PH x.d T x.d.aR.length r j
def spG(x:cM)(I:Nat->Nat->Int)(s:Int)(j:Nat):Int:=max 0 (s+bL x.dU j-I 0 j-x.d.cap)
theorem JA{r:Nat}:Hm d I (k+1) r j=Hm d I k r j+if 0<k/\(dB d k).up=r then I k j else 0:=by
 unfold Hm;rw[atn,asK];exact fD
theorem Tk{r:Nat}:PH d T (k+1) r j=PH d T k r j+if(jh d k).aZ=r then T k j else 0:=by
 unfold PH;rw[atn,asK];exact fD
theorem Tl{r:Nat}(h:∀c,c<k->0<=I c j/\I c j<=1073741824):0<=Hm d I k r j/\Hm d I k r j<=k*1073741824:=by
 have:=jl (l:=(List.range k).map λc=>if 0<c/\(dB d c).up=r then I c j else 0) λv hv=>YN
 rw[asz,as3] at this;exact this
theorem anq{r:Nat}(h:∀c,c<k->0<=T c j/\T c j<=1073741824):0<=PH d T k r j/\PH d T k r j<=k*1073741824:=by
 have:=jl (l:=(List.range k).map λf=>if(jh d f).aZ=r then T f j else 0) λv hv=>YN
 rw[asz,as3] at this;exact this
theorem Nt{A:bZ}{r:Nat}{W:List (aX)}{aG:Int}(hs:bS gC D w A n W)(hW:∀l∈W,lD aG 1000 l=true)(hr:r<n)(hh:(h:Int)<aG):(0<=zb W r h/\zb W r h<=1000)/\∃J o z cw M O,A=some (ad J o)/\bF w J (o+r*1) [aB (some (ad M O)) z cw]/\bF w M (O+h*1) [iv (zb W r h)]/\D J/\D M/\h<z:=by
 obtain⟨J,o,cs,l,rfl,hl,-,hD,hc,Aw,z,cw,rfl,hw,-⟩:=hs.au hr;obtain⟨a6,V⟩:=pP.1 (hW l (asq hl));have a1:=hw.an;obtain⟨M,O,a7,v,rfl,hv,-,Z,X,rfl,-⟩:=hw.au (show h<z from Y);have e:zb W r h=v:=by unfold zb;rw[asC,hl];exact cY hv
 rw[e];exact⟨V v (asq hv),J,o,z,cw,M,O,U,hc,X,hD,Z,Y⟩
section
variable {D:Nat->Prop} {w:World} {A:Option Addr} {n c:Nat}
def Di(x:cM)(I:Nat->Nat->Int)(h k r j:Nat):Int:=if j<h\/(j=h/\r<k) then Ft x I r j else 0
def DC(x:cM)(I:Nat->Nat->Int)(h k r j:Nat):Int:=if j<h\/(j=h/\r<k) then Hl x I r j else 0
def JB(x:cM)(I T:Nat->Nat->Int)(h k r j:Nat):Int:=if j<h\/(j=h/\r<k) then taG x I T r j else 0
def tG(x:cM)(I:Nat->Nat->Int)(h k r:Nat):Int:=(if r<k then zd x I r h else 0)-Hm x.d I k r h
def LH(x:cM)(I T:Nat->Nat->Int)(h k r:Nat):Int:=zd x I r h-Hm x.d I x.d.aD.length r h-PH x.d T k r h
theorem JC:Di x I h (k+1) a b=if a=k/\b=h then Ft x I k h else Di x I h k a b:=by
 unfold Di;exact adt
theorem JD:DC x I h (k+1) a b=if a=k/\b=h then Hl x I k h else DC x I h k a b:=by
 unfold DC;exact adt
theorem Tm:JB x I T h (k+1) a b=if a=k/\b=h then taG x I T k h else JB x I T h k a b:=by
 unfold JB;exact adt
theorem WE(ha:a<R):Di x I h R a b=Di x I (h+1) 0 a b:=by
 unfold Di;exact TY
theorem WG(ha:a<R):DC x I h R a b=DC x I (h+1) 0 a b:=by
 unfold DC;exact TY
theorem WH(ha:a<R):JB x I T h R a b=JB x I T (h+1) 0 a b:=by
 unfold JB;exact TY
theorem gD{L':Nat->Int}(h:aP w g 3 (cJ (cn F L)))(e:L=L'):aP w g 3 (cJ (cn F L')):=e▸h
theorem lU{L':Nat->Int}(h:∀j,j<F->L j=L' j):cn F L=cn F L':=by
 unfold cn;exact at1 λf z=>h f (as0.1 z)
theorem aP.idK{cs:aW}(_h:aP w b t cs):aj D w w:=.refl _ _
set_option maxRecDepth 8000 in
set_option maxHeartbeats 4000000 in
theorem Pm{cX:Nat->Nat}{H b1 b4 b5 b7 b8 gs gI gE gS gT gL:Nat}{rI cI rE cE rS cS rT cT rL cL:Nat->Nat}{sp:Nat->Int}{yH:Int}{A1 A2 A3 A4 A5 A6 G1 G2 G3 G4 G5 G6 G7 G8 Ai:bZ}{n1 c1 n2 c2 n3 c3 n4 c4 n5 c5 n6 c6 m1 e1 m2 e2 m3 e3 m4 e4 m5 e5 m6 e6 m7 e7 m8 e8 ni ci:Nat}(sn:Nd x)(hR:x.d.aD.length=R)(hF:x.d.aR.length=F)(hH:x.d.aG=H)(hh:h<H)(B1:aP w b1 42 ([.string x.d.name,iv x.d.aG,iv x.d.cap,iv x.d.bH,aB A1 n1 c1,aB A2 n2 c2,aB A3 n3 c3,aB A4 n4 c4,aB A5 n5 c5,aB A6 n6 c6]++[iv x.every,aB G1 m1 e1,aB G2 m2 e2,aB G3 m3 e3,aB G4 m4 e4,aB G5 m5 e5,aB G6 m6 e6,aB G7 m7 e7,aB G8 m8 e8]))(B4:aP w b4 31 [.string x.d.name,iv x.d.aG,iv x.d.cap,iv x.d.bH,aB A1 n1 c1,aB A2 n2 c2,aB A3 n3 c3,aB A4 n4 c4,aB A5 n5 c5,aB A6 n6 c6])(B5:aP w b5 3 [iv (R:Int)])(B7:aP w b7 48 [aB Ai ni ci,aB (aL gs) H H,aB (aL gI) R R,aB (aL gE) R R,aB (aL gS) R R,aB (aL gT) F F,aB (aL gL) R R])(B8:aP w b8 3 [iv yH])(Bs:aP w gs 3 (cJ (cn H λj=>if j<h then sp j else 0)))(gd:∀b,w.heap.size<=b->cX b=9)(gn:cX b1=0/\cX b4=0/\cX b5=0/\cX b7=0/\cX b8=7/\cX gs=6)(fW:bS cO (λb=>cX b=0) w Ai ni x.dU)(hev:bS gC (λb=>cX b=0) w G7 m7 x.dN)(dp:bS gC (λb=>cX b=0) w G8 m8 x.kM)(fi:bS lH (λb=>cX b=0) w A1 n1 x.d.aD)(gi:bS yQ (λb=>cX b=0) w A2 n2 x.d.aR)(TI:nY cX 1 w gI H R I rI cI)(TE:nY cX 2 w gE H R (Di x I h 0) rE cE)(TS:nY cX 3 w gS H R (DC x I h 0) rS cS)(TT:nY cX 4 w gT H F T rT cT)(TL:nY cX 5 w gL H R (JB x I T h 0) rL cL)(bI:∀r j,0<=I r j/\I r j<=1073741824)(bT:∀r j,0<=T r j/\T r j<=1073741824)(bs:0<=yH/\yH<=1099511627776)(j5:sp h=spG x I yH h):aK prog 25 #[iv (h:Int),ptr b5,ptr b4,ptr b7,ptr b1,ptr b8] w (λ_ w'=>aj (λb=>cX b≠2/\cX b≠3/\cX b≠5/\cX b≠6/\cX b≠7) w w'/\nY cX 2 w' gE H R (Di x I (h+1) 0) rE cE/\nY cX 3 w' gS H R (DC x I (h+1) 0) rS cS/\nY cX 5 w' gL H R (JB x I T (h+1) 0) rL cL/\aP w' gs 3 (cJ (cn H λj=>if j<h+1 then sp j else 0))/\aP w' b8 3 [iv (yH+bL x.dU h-I 0 h-sp h)]):=by
 have oG:=eC sn.d;have V:=gY sn.d;have pf:=V.n;have qd:=V.f;have o4:=fi.an;have ob:=gi.an;obtain⟨oA,kb⟩:=pP.1 sn.inf;have ow:=fW.an;have oc:=hev.an;have o3:=dp.an;have hel:=sn.el;have ou:=sn.sl;have ep:∀l∈x.dN,lD x.d.aG 1000 l=true:=λl hl=>sn.wx l (atO _ hl);have eo:∀l∈x.kM,lD x.d.aG 1000 l=true:=λl hl=>sn.wx l (atV _ hl);have bp:∀r,r<R->eB (dB x.d r)=true/\1<=(dB x.d r).bD/\(dB x.d r).bD<=16:=λr hr=>by obtain⟨h1,-,-,-,h2⟩:=eu.1 (V.rc r Y);exact⟨h2,h1⟩
 have et:∀r j,r<R->j<H->(0<=zb x.dN r j/\zb x.dN r j<=1000)/\0<=zb x.kM r j/\zb x.kM r j<=1000:=λr j hr hj=>
  ⟨(Nt hev ep Y Y).1,(Nt dp eo Y Y).1⟩
 have dy:∀r j,r<R->j<H->(0<=Ft x I r j/\Ft x I r j<=I r j)/\(0<=Hl x I r j/\Hl x I r j<=I r j)/\Ft x I r j+Hl x I r j<=I r j:=λr j hr hj=>by obtain⟨a1,a2,a3,-⟩:=S8 (bp r hr).1 (bI r j) (et r j hr hj).1 (et r j hr hj).2;exact⟨a1,a2,a3⟩
 have br:∀r,r<R->0<=zd x I r h/\zd x I r h<=1073741824:=λr hr=>by
  unfold zd;split
  .have h1:=dy r (h-(dB x.d r).bD.toNat) hr Y;have h2:=bI r (h-(dB x.d r).bD.toNat);omega
  .omega
 obtain⟨gF,ec,qg,ay,lu,gr⟩:=gn;refine aF func25 Z ?_;refine go ?_;refine i7 (sz:=1) (zv:=iv 0) R U rfl Y Y U Yd λgt w1 h1=>?_;have nL:=h1.au;have lp:cX gt=9:=gd gt Y;have x1:=h1.ae;have Gt:aP w1 gt 3 (cJ (cn R (tG x I h 0))):=by
  have hb:aP w1 gt 3 ((List.replicate R (cz (iv 0))).flatten):=h1.aS;rw[show cz (iv 0)=[iv 0] from U] at hb;have e':(List.replicate R [iv 0]).flatten=cJ (cn R (tG x I h 0)):=by
   have e1:(List.replicate R [iv 0]).flatten=List.replicate R (iv 0):=by simp
   have e2:cn R (tG x I h 0)=List.replicate R 0:=by unfold cn;refine at8 (by simp) λi h1 h2=>by rw[List.getElem_map,List.getElem_replicate];unfold tG Hm;rw[aso Y];rfl
   exact Nz
  rw[e'] at hb;exact hb
 refine go ?_;refine ld (aB A1 n1 c1) ((B4.ae x1).ai U) ?_;refine an ?_;refine aM (λk:Nat=>[(23,iv (k:Int))]) (λk u=>k<=R/\aj (λb=>cX b≠2/\cX b≠3/\b≠gt) w1 u/\nY cX 2 u gE H R (Di x I h k) rE cE/\nY cX 3 u gS H R (DC x I h k) rS cS/\aP u gt 3 (cJ (cn R (tG x I h k)))) (λk _=>R-k) 0 ⟨U,Yt⟩ ⟨Y,.refl _ _,TE.ae x1,TS.ae x1,Gt⟩ U ?_;rintro Ga k u ⟨hk,ku,TE,TS,Gt⟩;have K1:aj (λb=>cX b≠2/\cX b≠3/\b≠gt) w u:=(ax.any x1).trans ku;have O:∀b,cX b≠9->b≠gt:=λb hb e=>hb (e▸lp);have kz:∀b,cX b=0->cX b≠2/\cX b≠3/\b≠gt:=λb hb=>⟨Y,Y,O b Y⟩;refine cD (λhlt=>?_) λhge=>?_
 .have J:k<R:=Y;obtain⟨bb,oo,cs,y,lf,hy,-,-,hc,rfl⟩:=(fi.ah K1 λb _ h=>kz b h).au (show k<n1 from Y);have a7:dB x.d k=y:=jm hy;obtain⟨dx,kc⟩:=bp k J;rw[a7] at dx kc;obtain⟨jo,hl2⟩:=fJ.1 dx;obtain⟨jb,hl4,oy⟩:=gy.1 hl2;obtain⟨a1,a2,a3⟩:=eJ.1 jb;obtain⟨d1,d2,d3⟩:=eJ.1 hl4;have a1:=cV.1 a1;have d1:=cV.1 d1;rw[lf];refine go ?_;refine alloc λb9 u1 h9=>?_;refine fg h9.aS λu2 B9 k2 _=>?_;have B9:aP u2 b9 99 y.c:=B9;have t9:=h9.au;have xu2:ax u u2:=h9.ae.ag k2 λb hb _ e=>Y;have K2:aj (λb=>cX b≠2/\cX b≠3/\b≠gt) w u2:=K1.ag xu2 λ_ _ _=>Yt;have eh:=TI.ah K2 λb hb=>⟨Y,Y,O b Y⟩;have bk:=TE.ae xu2;have hC:=TS.ae xu2;have ct:=Gt.ae xu2;have cK:=B7.ah K2 (kz _ ay);have B12:=B1.ah K2 (kz _ gF);obtain⟨v,hv⟩:∃v,v=I k h:=⟨_,U⟩;have aq:=bI k h;rw[<-hv] at aq;have c9:cX b9=9:=gd b9 (by have:=K1.size;omega);have j8:b9≠gt:=by have:=Gt.lt;omega
  refine bC ?_;refine ld (aB (aL gI) R R) (cK.ai U) ?_;refine idx k U J ?_;refine ld (aB (some (ad (rI k) 0)) H (cI k)) (eh.R.aS.ai (eh.head J)) ?_;refine idx h U hh ?_;refine ld (iv v) ((eh.R.row k J).1.ai (by rw[hv];exact eH hh)) ?_;refine cD (λdf=>?ca) λdf=>?cb;case' ca=>
   have p1:0<=v*y.s0.n/\v*y.s0.n<=1073741824*1073741824:=⟨atq aq.1 a2,avC aq.2 a1.2.2.2.1 a2 Yd⟩;have p2:0<=v*y.s1.n/\v*y.s1.n<=1073741824*1073741824:=⟨atq aq.1 d2,avC aq.2 d1.2.2.2.1 d2 Yd⟩;refine uo mx Z ?_;refine go ?_;refine qW 0 U Yd ?_;refine go ?_;refine qW 0 U Yd ?_;refine go ?_;refine vL Y p1.1 Y ?_;refine go ?_;refine qW 1 U Yd ?_;refine go ?_;refine qW 1 U Yd ?_;refine go ?_;refine qW 1 U Yd ?_;refine go ?_;refine vL Y Y Y ?_;obtain⟨lo,fs⟩:∃lo,lo=v*y.s0.n/y.s0.d:=⟨_,U⟩;obtain⟨hi,dO⟩:∃hi,hi=(v*y.s1.n+y.s1.d-1)/y.s1.d:=⟨_,U⟩;have fh:=S7 dx aq.1;have gb:(v*y.s1.n+y.s1.d-1)/y.s1.d<=v+1:=by have e1:v*y.s1.n<=v*y.s1.d:=atd d3 aq.1;refine avA ((Int.ediv_lt_iff_lt_mul Y).2 ?_);rw[atX];omega
   rw[<-fs,<-dO] at fh|-;rw[<-dO] at gb;obtain⟨eS,be,oe,ne,ce,lC,hZ,l0,kn,gp,-,-,hne⟩:=Nt (r:=k) (h:=h) (hev.ah K2 λb _ h=>kz b h) ep Y Y;obtain⟨ev,dd⟩:∃ev,ev=min v (Nc y.dN.lo y.dN.hi (zb x.dN k h)):=⟨_,U⟩;have oO:=Nj jo.2.1 eS;refine bR (oP [22,25] [25] [0,1,2,3,4,5,6,7,8,9,10,11,12,13,14,15,16,17,18,19,20,21,22,23,24,25]) [25] (λz=>ax u2 z) mx Z (.refl _ _)<|bC<|fu (aB (aL gE) R R) (cK.ai U) Yt (.refl _ _)<|idx k U J<|fu (aB (some (ad (rE k) 0)) H (cE k)) (bk.R.aS.ai (bk.head J)) Yt (.refl _ _)<|bC<|bC<|fu (iv y.dN.lo) (B9.ai U) Yt (.refl _ _)<|bC<|bC<|fu (iv y.dN.hi) (B9.ai U) Yt (.refl _ _)<|bC<|bC ?_;rw[l0] at B12;refine fu (aB (some (ad be oe)) m7 e7) (B12.ai U) Yt (.refl _ _)<|idx k U Y<|fu (aB (some (ad lC hZ)) ne ce) (kn 0 _ U) Yt (.refl _ _)<|idx h U hne<|fu (iv (zb x.dN k h)) (gp 0 _ U) Yt (.refl _ _)<|bW (Nr Y eS) λu3 x3=>?_;refine bN x3<|idx h U hh ?_;rw[<-dd];refine gv (λ_=>True) Yt<|st ((bk.ae x3).R.row k J).1 (by unfold cJ;rw[asz,dm];omega) U λu4 hb4 k4 z4=>?_;have ck:=(bk.ae x3).set J hb4 k4;have qE:=(bk.r_ k J).1;have K4:aj (λb=>cX b≠2) u2 u4:=(ax.any x3).trans (k4.cU λb _ h e=>h (e▸qE));refine go ?_;have hev:ev=Ft x I k h:=by unfold Ft uf;rw[a7,<-hv,asp df,dd]
   have l3:(cJ (cn H λb=>if k=k/\b=h then ev else Di x I h k k b))[0+h*1]? =some (iv ev):=by rw[eH hh,asp ⟨U,U⟩]
   have gl:=dy k h J hh;rw[<-hev,<-hv] at gl;have ei:aj (λb=>cX b≠2/\cX b≠3/\b≠gt) w u4:=K2.ag K4 λb _ h=>h.1;obtain⟨eL,lB,hW,ib,ll,lA,hV,kW,kj,gm,-,-,hns⟩:=Nt (r:=k) (h:=h) (dp.ah ei λb _ h=>kz b h) eo Y Y;obtain⟨se,db⟩:∃se,se=min (v-ev) (Nc lo hi (zb x.kM k h)):=⟨_,U⟩;have oL:=Nj fh.2 eL;have hQ:=B1.ah ei (kz _ gF);rw[kW] at hQ;have hP:=B7.ah ei (kz _ ay);have bw:=hC.ah K4 λb hb=>Y;refine bR (oP [27,30] [30] [0,1,2,3,4,5,6,7,8,9,10,11,12,13,14,15,16,17,18,19,20,21,22,23,24,25,26,27,28,29,30]) [30] (λz=>ax u4 z) mx Z (.refl _ _)<|bC<|fu (aB (aL gS) R R) (hP.ai U) Yt (.refl _ _)<|idx k U J<|fu (aB (some (ad (rS k) 0)) H (cS k)) (bw.R.aS.ai (bw.head J)) Yt (.refl _ _)<|bC<|fu (aB (aL gE) R R) (hP.ai U) Yt (.refl _ _)<|idx k U J<|fu (aB (some (ad (rE k) 0)) H (cE k)) (ck.R.aS.ai (ck.head J)) Yt (.refl _ _)<|idx h U hh<|fu (iv ev) ((ck.R.row k J).1.ai l3) Yt (.refl _ _)<|eD (n:=v-ev) Y<|bC<|bC<|fu (aB (some (ad lB hW)) m8 e8) (hQ.ai U) Yt (.refl _ _)<|idx k U Y<|fu (aB (some (ad lA hV)) ib ll) (kj 0 _ U) Yt (.refl _ _)<|idx h U hns<|fu (iv (zb x.kM k h)) (gm 0 _ U) Yt (.refl _ _)<|bW (Nr Y eL) λu5 x5=>?_;refine bN x5<|idx h U hh ?_;rw[<-db];refine gv (λ_=>True) Yt<|st ((bw.ae x5).R.row k J).1 (by unfold cJ;rw[asz,dm];omega) U λu6 kr k6 z6=>?_;have lN:=(bw.ae x5).set J kr k6;have qS:=(bw.r_ k J).1;have K6:aj (λb=>cX b≠3) u4 u6:=(ax.any x5).trans (k6.cU λb _ h e=>h (e▸qS));refine bN Yt ?_;have ff:se=Hl x I k h:=by unfold Hl wV;rw[a7,<-hv,asp df,db,fs,dO,hev];unfold Ft;rw[a7,<-hv]
   have bA:aj (λb=>cX b≠2/\cX b≠3) u2 u6:=(K4.cU λb _ h=>h.1).trans (K6.cU λb _ h=>h.2);have bx:=(ck.ah K6 λb hb=>Y).jZ (L':=Di x I h (k+1)) λa b _ _=>by rw[hev,JC]
   have bt:=lN.jZ (L':=DC x I h (k+1)) λa b _ _=>by rw[ff,JD]
  case' cb=>
   have oj:v=0:=Y;have bA:aj (λb=>cX b≠2/\cX b≠3) u2 u2:=.refl _ _;have bx:=bk.jZ (L':=Di x I h (k+1)) λa b _ _=>by
    rw[JC];by_cases e:a=k/\b=h
    .rw[asp e,e.1,e.2];unfold Di Ft uf;rw[aso Y,<-hv,aso Y]
    .rw[aso e]
   have bt:=hC.jZ (L':=DC x I h (k+1)) λa b _ _=>by
    rw[JD];by_cases e:a=k/\b=h
    .rw[asp e,e.1,e.2];unfold DC Hl wV;rw[aso Y,<-hv,aso Y]
    .rw[aso e]
  all_goals
   have K5:=K2.trans (bA.cU λb _ h=>⟨h.1,h.2.1⟩);have j2:=(ku.ag xu2 λ_ _ _=>Yt).trans (bA.cU λb _ h=>⟨h.1,h.2.1⟩);have hI:aP _ b9 99 y.c:=B9.ah bA Y;have cp:=ct.ah bA Y;have aa:=B7.ah K5 (kz _ ay);have af:=TI.ah K5 λb hb=>⟨Y,Y,O b Y⟩;have qa:=Tl (d:=x.d) (I:=I) (k:=k) (r:=k) (j:=h) λc _=>bI c h;have nz:=br k J;have kG:(R:Int)<=64:=Y;refine bC<|ld (iv y.bD) (hI.ai U)<|eD (n:=(h:Int)-y.bD) Y<|cD (λkB=>?_) λkB=>?_;obtain⟨a,ha⟩:∃a:Nat,a=h-y.bD.toNat:=⟨_,U⟩;have av:a<H:=Y;have gq:zd x I k h=I k a-Ft x I k a-Hl x I k a:=by unfold zd;rw[a7,asp Y,<-ha]
   have ox:=dy k a J av;have pn:=bI k a;have hT:tG x I h k k=0-Hm x.d I k k h:=by unfold tG;rw[aso Y]
   have lr:(cJ (cn H (Di x I h (k+1) k)))[0+a*1]? =some (iv (Ft x I k a)):=by rw[eH av];unfold Di;rw[asp Y]
   have lq:(cJ (cn H (DC x I h (k+1) k)))[0+a*1]? =some (iv (Hl x I k a)):=by rw[eH av];unfold DC;rw[asp Y]
   refine bR (oP [32] [32] [0,1,2,3,4,5,6,7,8,9,10,11,12,13,14,15,16,17,18,19,20,21,22,23,24,25,26,27,28,29,30,31,32]) [32] (λz=>z=_) mx Z U<|idx k U J<|ld (iv (tG x I h k k)) (cp.ai (eH J))<|bC<|ld (aB (aL gI) R R) (aa.ai U)<|idx k U J<|ld (aB (some (ad (rI k) 0)) H (cI k)) (af.R.aS.ai (af.head J))<|idx a Y av<|ld (iv (I k a)) ((af.R.row k J).1.ai (eH av))<|bC<|ld (aB (aL gE) R R) (aa.ai U)<|idx k U J<|ld (aB (some (ad (rE k) 0)) H (cE k)) (bx.R.aS.ai (bx.head J))<|idx a Y av<|ld (iv (Ft x I k a)) ((bx.R.row k J).1.ai lr)<|eD (n:=I k a-Ft x I k a) Y<|bC<|ld (aB (aL gS) R R) (aa.ai U)<|idx k U J<|ld (aB (some (ad (rS k) 0)) H (cS k)) (bt.R.aS.ai (bt.head J))<|idx a Y av<|ld (iv (Hl x I k a)) ((bt.R.row k J).1.ai lq)<|eD (n:=I k a-Ft x I k a-Hl x I k a) Y<|eD (n:=tG x I h k k+(I k a-Ft x I k a-Hl x I k a)) (by rw[hT];omega)<|idx k U J<|gv (λ_=>True) Yt<|st cp (by unfold cJ;rw[asz,dm];omega) U λu7 a8 k7 z7=>bN Yt ?_;have a8:aP u7 gt 3 ((cJ (cn R (tG x I h k))).set (0+k*1) (iv (tG x I h k k+(I k a-Ft x I k a-Hl x I k a)))):=a8;rw[show 0+k*1=k from Y,ij,iZ] at a8;have a8:aP u7 gt 3 (cJ (cn R λj=>tG x I h k j+if j=k then zd x I k h else 0)):=by
    have e:(λj=>if j=k then tG x I h k k+(I k a-Ft x I k a-Hl x I k a) else tG x I h k j)=λj=>tG x I h k j+if j=k then zd x I k h else 0:=by
     funext j;by_cases q:j=k
     .rw[asp q,asp q,q,gq]
     .rw[aso q,aso q,atJ]
    rw[e] at a8;exact a8
   have ak:=k7;rotate_left;have lG:zd x I k h=0:=by unfold zd;rw[a7,aso Y]
   have a8:=gD cp (L':=λj=>tG x I h k j+if j=k then zd x I k h else 0) (by
    funext j;show tG x I h k j=tG x I h k j+if j=k then zd x I k h else 0
    rw[lG];split<;>omega)
   have ak:=cp.idK (D:=λb=>b≠gt);all_goals
    have eg:=af.ah ak λb hb=>O b Y;have lS:=bx.ah ak λb hb=>O b Y;have lI:=bt.ah ak λb hb=>O b Y;have nf:=hI.ah ak j8;have nh:=aa.ah ak (O _ Y);have j1:=j2.ag ak λb _ h=>h.2.2;refine cD (λfU=>?_) λfU=>?_;obtain⟨up,om⟩:∃up:Nat,up=y.up.toNat:=⟨_,U⟩;have ew:=V.up k Y Y;rw[a7] at ew;have bg:up<R:=Y;have q9:=Tl (d:=x.d) (I:=I) (k:=k) (r:=up) (j:=h) λc _=>bI c h;have pr:=bI k h;have oS:=br up bg;obtain⟨t0,fa⟩:∃t0,t0=tG x I h k up+if up=k then zd x I k h else 0:=⟨_,U⟩
    have eT:t0=zd x I up h-Hm x.d I k up h:=by rw[fa];unfold tG;rw[asp Y,aso Y,atJ]
    refine bR (oP [15] [15] [0,1,2,3,4,5,6,7,8,9,10,11,12,13,14,15]) [15] (λz=>z=_) mx Z U<|bC<|ld (iv y.up) (nf.ai U)<|idx up Y bg<|ld (iv t0) (a8.ai (by rw[fa];exact eH bg))<|bC<|ld (aB (aL gI) R R) (nh.ai U)<|idx k U J<|ld (aB (some (ad (rI k) 0)) H (cI k)) (eg.R.aS.ai (eg.head J))<|idx h U hh<|ld (iv (I k h)) ((eg.R.row k J).1.ai (eH hh))<|eD (n:=t0-I k h) Y<|idx up Y bg<|gv (λ_=>True) Yt<|st a8 (by unfold cJ;rw[asz,dm];omega) U λu8 bE k8 z8=>bN Yt ?_;have bE:aP u8 gt 3 ((cJ (cn R λj=>tG x I h k j+if j=k then zd x I k h else 0)).set (0+up*1) (iv (t0-I k h))):=bE;rw[show 0+up*1=up from Y,ij,iZ] at bE;have hG:aP u8 gt 3 (cJ (cn R (tG x I h (k+1)))):=by
     have e:(λj=>if j=up then t0-I k h else tG x I h k j+if j=k then zd x I k h else 0)=tG x I h (k+1):=by
      funext j;have bo:tG x I h (k+1) j=(if j<k+1 then zd x I j h else 0)-(Hm x.d I k j h+if 0<k/\(dB x.d k).up=j then I k h else 0):=by unfold tG;rw[JA]
      rw[bo,a7];by_cases q:j=up
      .rw[asp q,asp Y,asp Y,eT,q];omega
      .have e3:(if 0<k/\y.up=(j:Int) then I k h else 0)=0:=aso Y;rw[aso q,e3,atJ];unfold tG;by_cases q2:j=k
       .rw[asp q2,aso Y,asp Y,q2];omega
       .rw[aso q2,atJ];by_cases q3:j<k
        .rw[asp q3,asp Y]
        .rw[aso q3,aso Y]
     rw[e] at bE;exact bE
    have bG:=k8;rotate_left;have hG:=gD a8 (L':=tG x I h (k+1)) (by
     funext j;have bo:tG x I h (k+1) j=(if j<k+1 then zd x I j h else 0)-(Hm x.d I k j h+if 0<k/\(dB x.d k).up=j then I k h else 0):=by unfold tG;rw[JA]
     show tG x I h k j+(if j=k then zd x I k h else 0)=_;have e3:(if 0<k/\(dB x.d k).up=(j:Int) then I k h else 0)=0:=aso λq=>fU Y;rw[bo,e3,atJ];unfold tG;by_cases q2:j=k
     .rw[asp q2,aso Y,asp Y,q2];omega
     .rw[aso q2,atJ];by_cases q3:j<k
      .rw[asp q3,asp Y]
      .rw[aso q3,aso Y])
    have bG:=a8.idK (D:=λb=>b≠gt);all_goals
     refine eD (n:=(k:Int)+1) Y<|next (k+1) ⟨Yn,Yt⟩ ⟨Y,j1.ag bG λb _ h=>h.2.2,lS.ah bG λb hb=>O b Y,lI.ah bG λb hb=>O b Y,hG⟩ Y
 have J:k=R:=Y;have Gt:aP u gt 3 (cJ (cn R (LH x I T h 0))):=by
  rw[J] at Gt;have e:cn R (tG x I h R)=cn R (LH x I T h 0):=lU λj hj=>by unfold tG LH;rw[asp hj,hR];show _=_-(0:Int);omega
  rw[<-e];exact Gt
 rw[J] at TE TS;have TE:=TE.jZ (L':=Di x I (h+1) 0) λa b ha _=>WE ha;have TS:=TS.jZ (L':=DC x I (h+1) 0) λa b ha _=>WG ha;refine bC<|ld (aB A2 n2 c2) ((B4.ah K1 (kz _ ec)).ai U)<|an<|aM (λk:Nat=>[(180,iv (k:Int))]) (λk v=>k<=F/\aj (λb=>b≠gt) u v/\aP v gt 3 (cJ (cn R (LH x I T h k)))) (λk _=>F-k) 0 ⟨U,Yt⟩ ⟨Y,.refl _ _,Gt⟩ U ?_;rintro Gb k2 v ⟨hk2,kv,Gt⟩;have K3:aj (λb=>cX b≠2/\cX b≠3/\b≠gt) w v:=K1.ag kv λb _ h=>h.2.2;refine cD (λhlt=>?_) λhge2=>?_
 .have bq:k2<F:=Y;obtain⟨bb,oo,cs,y,l8,hy,-,-,hc,rfl⟩:=(gi.ah K3 λb _ h=>kz b h).au (show k2<n2 from Y);have a7:jh x.d k2=y:=jJ hy;have j4:=V.fm k2 Y;rw[a7] at j4;obtain⟨q,hq⟩:∃q:Nat,q=y.aZ.toNat:=⟨_,U⟩;have c8:q<R:=Y;rw[l8];refine idx k2 U Y<|fj y.c hc U<|alloc λb9 u1 h9=>jR (vs:=y.c) h9.aS U Yl Ys λu2 B9 j3 _=>?_;have B9:aP u2 b9 102 y.c:=B9;have t9:=h9.au;have xu2:ax v u2:=h9.ae.ag j3 λb hb _ e=>Y;have K4:aj (λb=>cX b≠2/\cX b≠3/\b≠gt) w u2:=K3.ag xu2 λ_ _ _=>Yt;have ef:=TT.ah K4 λb hb=>⟨Y,Y,O b Y⟩;have cK:=B7.ah K4 (kz _ ay);have ct:=Gt.ae xu2;have p0:=br q c8;have hki:=Tl (d:=x.d) (I:=I) (k:=R) (r:=q) (j:=h) λc _=>bI c h;have htk:=anq (d:=x.d) (T:=T) (k:=k2) (r:=q) (j:=h) λc _=>bT c h;have pe:=bT k2 h;have qc:(F:Int)<=600:=Y;have kG:(R:Int)<=64:=Y;have oq:LH x I T h k2 q=zd x I q h-Hm x.d I R q h-PH x.d T k2 q h:=by unfold LH;rw[hR]
  refine bR (oP [15] [15] [0,1,2,3,4,5,6,7,8,9,10,11,12,13,14,15]) [15] (λz=>z=u2) mx Z U<|bC<|ld (iv y.aZ) (B9.ai U)<|idx q Y c8<|ld (iv (LH x I T h k2 q)) (ct.ai (eH c8))<|bC<|ld (aB (aL gT) F F) (cK.ai U)<|idx k2 U bq<|ld (aB (some (ad (rT k2) 0)) H (cT k2)) (ef.R.aS.ai (ef.head bq))<|idx h U hh<|ld (iv (T k2 h)) ((ef.R.row k2 bq).1.ai (eH hh))<|eD (n:=LH x I T h k2 q-T k2 h) Y<|idx q Y c8<|gv (λ_=>True) Yt<|st ct (by unfold cJ;rw[asz,dm];omega) U λu3 cr k3 z3=>?_;have cr:aP u3 gt 3 ((cJ (cn R (LH x I T h k2))).set (0+q*1) (iv (LH x I T h k2 q-T k2 h))):=cr;rw[show 0+q*1=q from Y,ij,iZ] at cr;refine bN Yt<|eD (n:=(k2:Int)+1) Y<|next (k2+1) ⟨Yn,Yt⟩ ⟨Y,(kv.ag xu2 λ_ _ _=>Yt).ag k3 λb _ h=>h,gD cr ?_⟩ Y;funext j;show(if j=q then LH x I T h k2 q-T k2 h else LH x I T h k2 j)=zd x I j h-Hm x.d I x.d.aD.length j h-PH x.d T (k2+1) j h;rw[Tk,a7];by_cases e:j=q
  .rw[asp e,asp Y,e];unfold LH;omega
  .have e3:(if y.aZ=(j:Int) then T k2 h else 0)=0:=aso Y;rw[aso e,e3];unfold LH;omega
 have bq:k2=F:=Y;have Gt:aP v gt 3 (cJ (cn R λr=>taG x I T r h)):=by rw[bq] at Gt;refine gD Gt ?_;funext j;unfold LH taG;rw[hF]
 have TE:=TE.ah kv λb hb=>O b Y;have TS:=TS.ah kv λb hb=>O b Y;have TL:=TL.ah K3 λb hb=>⟨Y,Y,O b Y⟩;refine an<|aM (λk:Nat=>[(203,iv (k:Int))]) (λk q=>k<=R/\aj (λb=>cX b≠5) v q/\nY cX 5 q gL H R (JB x I T h k) rL cL) (λk _=>R-k) 0 ⟨U,Yt⟩ ⟨Y,.refl _ _,TL⟩ U ?_;rintro Gc k3 q ⟨hk3,kq,TL⟩;have K5:aj (λb=>(cX b≠2/\cX b≠3/\b≠gt)/\cX b≠5) w q:=(K3.cU λb _ h=>h.1).trans (kq.cU λb _ h=>h.2);have aa:=B7.ah K5 ⟨kz _ ay,Y⟩;refine cD (λhlt=>?_) λnt=>?_
 .have a6:k3<R:=Y;refine idx k3 U a6<|ld (iv (taG x I T k3 h)) ((Gt.ah kq Y).ai (eH a6))<|bC<|ld (aB (aL gL) R R) (aa.ai U)<|idx k3 U a6<|ld (aB (some (ad (rL k3) 0)) H (cL k3)) (TL.R.aS.ai (TL.head a6))<|idx h U hh<|st (TL.R.row k3 a6).1 (by unfold cJ;rw[asz,dm];omega) U λu4 hb4 k4 z4=>?_;have lO:=TL.set a6 hb4 k4;have qL:=(TL.r_ k3 a6).1;refine eD (n:=(k3:Int)+1) Y<|next (k3+1) ⟨Yn,Yt⟩ ⟨Y,kq.ag k4 λb _ h e=>h (e▸qL),lO.jZ λa b _ _=>by rw[Tm]⟩ Y
 have a6:k3=R:=Y;rw[a6] at TL;have TL:=TL.jZ (L':=JB x I T (h+1) 0) λa b ha _=>WH ha;have TE:=TE.ah kq λb hb=>Y;have TS:=TS.ah kq λb hb=>Y;have kd:∀b,(cX b≠2/\cX b≠3/\cX b≠5/\cX b≠6/\cX b≠7)->b<w.heap.size->(cX b≠2/\cX b≠3/\b≠gt)/\cX b≠5:=λb h hb=>⟨⟨h.1,h.2.1,Y⟩,h.2.2.1⟩;have hM:=B8.ah K5 ⟨⟨Y,Y,O _ Y⟩,Y⟩;have nc:=Bs.ah K5 ⟨⟨Y,Y,O _ Y⟩,Y⟩;have nm:=B4.ah K5 ⟨kz _ ec,Y⟩;have af:=TI.ah K5 λb hb=>⟨⟨Y,Y,O b Y⟩,Y⟩;obtain⟨bi,oi,qe,yi,l4,en,-,-,kl,rfl,-⟩:=(fW.ah K5 λb _ h=>⟨kz b h,Y⟩).au (show h<ni from Y);have ga:bL x.dU h=yi:=cY en;have np:=kb yi (asq en);have q8:=bI 0 h;have eb:0<R:=Y;have nw:=yJ (x:=x) sn.d;rw[l4] at aa;refine bR (oP [15] [15] [0,1,2,3,4,5,6,7,8,9,10,11,12,13,14,15]) [15] (λz=>z=q) mx Z U<|ld (iv yH) (hM.ai U)<|bC<|ld (aB (some (ad bi oi)) ni ci) (aa.ai U)<|idx h U Y<|ld (iv yi) (kl 0 _ U)<|bC<|ld (aB (aL gI) R R) (aa.ai U)<|idx 0 U eb<|ld (aB (some (ad (rI 0) 0)) H (cI 0)) (af.R.aS.ai (af.head eb))<|idx h U hh<|ld (iv (I 0 h)) ((af.R.row 0 eb).1.ai (eH hh))<|eD (n:=yi-I 0 h) Y<|eD (n:=yH+(yi-I 0 h)) Y<|gv (λ_=>True) Yt<|st hM (by simp) U λv1 cw k1 z1=>?_;have cw:aP v1 b8 3 [iv (yH+(yi-I 0 h))]:=cw;refine bN Yt ?_;have n7:b7≠b8:=λe=>by rw[e] at ay;omega
 have n4:b4≠b8:=λe=>by rw[e] at ec;omega
 have ns:gs≠b8:=λe=>by rw[e] at gr;omega
 have mo:=nc.ah k1 ns;have hN:=aa.ah k1 n7;have nl:=nm.ah k1 n4;refine bC<|ld (aB (aL gs) H H) (hN.ai U)<|ld (iv (yH+(yi-I 0 h))) (cw.ai U)<|bC<|bC<|ld (iv x.d.cap) (nl.ai U)<|eD (n:=yH+(yi-I 0 h)-x.d.cap) Y<|idx h U hh<|st mo (by unfold cJ;rw[asz,dm];omega) U λv2 b0 k2 z2=>?_;have fe:sp h=max 0 (yH+(yi-I 0 h)-x.d.cap):=by rw[j5];unfold spG;rw[ga];congr 1;omega
 have b0:aP v2 gs 3 ((cJ (cn H λj=>if j<h then sp j else 0)).set (0+h*1) (iv (max 0 (yH+(yi-I 0 h)-x.d.cap)))):=b0;rw[<-fe,show 0+h*1=h from Y,ij,iZ] at b0;have b0:aP v2 gs 3 (cJ (cn H λj=>if j<h+1 then sp j else 0)):=gD b0 (by
  funext j;by_cases e:j=h
  .rw[asp e,asp Y,e]
  .rw[aso e];by_cases e2:j<h
   .rw[asp e2,asp Y]
   .rw[aso e2,aso Y])
 have hL:=cw.ah k2 λe=>ns e.symm;have j0:b7≠gs:=λe=>by rw[e] at ay;omega
 have ng:=hN.ah k2 j0;have nr:0<=sp h/\sp h<=yH+(yi-I 0 h)+1073741824:=Y;refine bR (oP [7] [7] [0,1,2,3,4,5,6,7]) [7] (λz=>z=v2) mx Z U<|ld (iv (yH+(yi-I 0 h))) (hL.ai U)<|bC<|ld (aB (aL gs) H H) (ng.ai U)<|idx h U hh<|ld (iv (sp h)) (b0.ai (by rw[eH hh,asp Y]))<|eD (n:=yH+(yi-I 0 h)-sp h) Y<|gv (λ_=>True) Yt<|st hL (by simp) U λv3 ej k3 z3=>?_;have ej:aP v3 b8 3 [iv (yH+(yi-I 0 h)-sp h)]:=ej;refine go ?_;have kk:aj (λb=>b≠b8/\b≠gs) q v3:=((k1.cU λb _ h=>h.1).trans (k2.cU λb _ h=>h.2)).trans (k3.cU λb _ h=>h.1);have cg:∀b,cX b≠7->b≠b8:=λb hb e=>hb (e▸lu);have hns:∀b,cX b≠6->b≠gs:=λb hb e=>hb (e▸gr);refine ret ⟨?_,TE.ah kk λb hb=>⟨cg b Y,hns b Y⟩,TS.ah kk λb hb=>⟨cg b Y,hns b Y⟩,TL.ah kk λb hb=>⟨cg b Y,hns b Y⟩,b0.ah k3 ns,?_⟩
 .exact(K5.cU λb hb h=>kd b h hb).trans (kk.cU λb _ h=>⟨cg b h.2.2.2.2,hns b h.2.2.2.1⟩)
 .rw[ga,show yH+yi-I 0 h-sp h=yH+(yi-I 0 h)-sp h from Y];exact ej
end
theorem Fu{α:Type}:∀{l m:List α},l.Nodup->(∀a,a∈l->a∈m)->l.length<=m.length
 |[],_,_,_=>atc _
 |a::l,m,A,hs=>by
  obtain⟨h1,M⟩:=auO.1 A
  have z:=hs a ass
  have J:=Fu (l:=l) (m:=m.erase a) M λb u=>(List.mem_erase_of_ne λ(e:b=a)=>h1 (e▸u)).2 (hs b (ast _ u))
  rw[List.length_erase_of_mem z] at J
  have:=List.length_pos_of_mem z
  rw[as2]
  omega
structure Dj (d:aU) (G:List Cm) (l:List Od):Prop where
 out:∀o∈l,o.bP=true->∃f h:Nat,f<d.aR.length/\(h:Int)<d.aG/\o.index=f/\o.aH=h/\o.aC=cj G f h
 SH:∀o∈l,o.bP=false->∃r h:Nat,r<d.aD.length/\(h:Int)<d.aG/\o.index=r/\o.aH=h/\o.aC=dY d G r h
 anr:∀f h:Nat,f<d.aR.length->(h:Int)<d.aG->cj G f h≠0->∃o∈l,o.bP=true/\o.index=f/\o.aH=h
 ans:∀r h:Nat,r<d.aD.length->(h:Int)<d.aG->dY d G r h≠0->∃o∈l,o.bP=false/\o.index=r/\o.aH=h
theorem Dj.perm{l':List Od}(O:Dj d G l)(p:l.Perm l'):Dj d G l':=
 ⟨λo u=>O.out o (p.mem_iff.2 u),λo u=>O.SH o (p.mem_iff.2 u),λf h h1 A z=>by
  obtain⟨o,u,h⟩:=O.anr f h h1 A z;exact⟨o,p.mem_iff.1 u,h⟩,λf h h1 A z=>by
  obtain⟨o,u,h⟩:=O.ans f h h1 A z;exact⟨o,p.mem_iff.1 u,h⟩⟩
noncomputable def xc (l:List Od)(b:Bool)(new old:Nat->Nat->Int)(r h:Nat):Int:=if∃o∈l,o.bP=b/\o.index=(r:Int)/\o.aH=(h:Int) then new r h else old r h
theorem JE{b:Bool}:xc [] b new old=old:=by
 funext r h;unfold xc;rw[aso];rintro⟨o,u,-⟩;cases u
theorem Dl{o:Od}{b:Bool}(h:o.bP≠b):xc (l++[o]) b new old=xc l b new old:=by
 funext r j;unfold xc;congr 1;refine propext ⟨?_,?_⟩
 .rintro⟨y,u,h1,z⟩;rcases atf.1 u with u|u
  .exact⟨y,u,h1,z⟩
  .rw[asP.1 u] at h1;exact absurd h1 h
 .rintro⟨y,u,h1⟩;exact⟨y,atO _ u,h1⟩
theorem Fv{o:Od}{r:Nat}(h1:o.index=(r:Int))(M:o.aH=(h:Int)):xc (l++[o]) o.bP new old=λa b=>if a=r/\b=h then new r h else xc l o.bP new old a b:=by
 funext a b;unfold xc;by_cases e:a=r/\b=h
 .rw[asp e,asp ⟨o,atV _ ass,U,by rw[h1,e.1],by rw[M,e.2]⟩,e.1,e.2]
 .rw[aso e];congr 1;refine propext ⟨?_,?_⟩
  .rintro⟨y,u,J,A,z⟩;rcases atf.1 u with u|u
   .exact⟨y,u,J,A,z⟩
   .rw[asP.1 u] at A z;exact absurd ⟨Y,Y⟩ e
  .rintro⟨y,u,q⟩;exact⟨y,atO _ u,q⟩
section
variable {d:aU} {x:cM} {G:List Cm}
theorem acK(h0:cH d=0)(JX:fV d G)(C:Conv d G){s:DM×List Od}(hp:gO d (eE d G)=some s):Dj d G s.2/\s.2.length<=d.aG.toNat*d.aR.length+d.aG.toNat*d.aD.length:=by
 have hh:=eC h0;have A:=eF JX;obtain⟨gl,S,e,N,g1,g2⟩:=GC h0 (tj (lP h0) A) hp;have t:=kp h0;have V:=gY h0;have hS:∀w,S w=lT d G w:=λw=>by have h1:=N.all w;rw[th (lP h0) A] at h1;have z:=C.sB w;unfold dI at z;rw[h1] at z;injection z
 have hg:∀o∈gl,o.bP=false/\∃r h:Nat,r<d.aD.length/\(h:Int)<d.aG/\o.index=r/\o.aH=h/\o.aC=dY d G r h:=λo u=>by obtain⟨Z,c,hc,X,O,M⟩:=(g2 o).1 u;have hd:=oE t hc;rw[O] at M;have hs:=N.sup _ c M;refine⟨Z,c,o.aH.toNat,hc,Y,X,Y,?_⟩;rw[O,hS];unfold dY;rw[show o.aH+(dB d c).bD-cG d c=((o.aH.toNat:Nat):Int)-cG d (dB d c).up from Y]
 refine⟨⟨λo u J=>?_,λo u J=>?_,λf h hf hl hn=>?_,λr h W hl hn=>?_⟩,?_⟩
 .rw[e] at u;rcases atf.1 u with u|u
  .obtain⟨h,i,h1,z,-,rfl⟩:=kD.1 u;exact⟨i,h,z,Y,U,U,U⟩
  .rw[(hg o u).1] at J;cases J
 .rw[e] at u;rcases atf.1 u with u|u
  .rw[wT u] at J;cases J
  .exact(hg o u).2
 .exact⟨⟨h,f,cj G f h,true⟩,by rw[e];exact atO _ (kD.2 ⟨h,f,Y,hf,hn,U⟩),U,U,U⟩
 .have hd:=oE t W;have hm:(⟨h,r,dY d G r h,false⟩:Od)∈gl:=(g2 _).2 ⟨U,r,W,U,by show dY d G r h=bL (S ((h:Int)+(dB d r).bD-cG d r)) r;rw[hS];unfold dY;rw[show(h:Int)+(dB d r).bD-cG d r=(h:Int)-cG d (dB d r).up from Y],hn⟩
  exact⟨_,by rw[e];exact atV _ hm,U,U,U⟩
 .rw[e,asu];have h1:=sr (d:=d) (l:=G);have z:=Fu (m:=(List.range d.aG.toNat).flatMap λh:Nat=>(List.range d.aD.length).map λr:Nat=>(⟨h,r,dY d G r h,false⟩:Od)) g1 λo u=>by obtain⟨Z,r,h,W,hl,X,O,M⟩:=hg o u;refine auF.2 ⟨h,as0.2 Y,asS.2 ⟨r,as0.2 W,?_⟩⟩;cases o;simp only at Z X O M;rw[Z,X,O,M]
  have h3:((List.range d.aG.toNat).flatMap λh:Nat=>(List.range d.aD.length).map λr:Nat=>(⟨h,r,dY d G r h,false⟩:Od)).length=d.aG.toNat*d.aD.length:=by
   rw[av3];generalize d.aG.toNat=H;induction H with
   |zero=>simp
   |succ H ih=>rw[atn,asK,atS,ih,avx];simp
  omega
theorem WI(O:Dj d G l){r:Nat}(A:r<d.aD.length)(J:(h:Int)<d.aG)(u:old r h=dY d G r h\/old r h=0):xc l false (dY d G) old r h=dY d G r h:=by
 unfold xc;by_cases q:∃o∈l,o.bP=false/\o.index=(r:Int)/\o.aH=(h:Int)
 .rw[asp q]
 .rw[aso q];by_cases z:dY d G r h=0
  .rcases u with u|u
   .exact u
   .rw[z];exact u
  .exact absurd (O.ans r h A J z) q
theorem WJ(O:Dj d G l){f:Nat}(J:f<d.aR.length)(A:(h:Int)<d.aG)(u:old f h=cj G f h\/old f h=0):xc l true (λf h=>cj G f h) old f h=cj G f h:=by
 unfold xc;by_cases q:∃o∈l,o.bP=true/\o.index=(f:Int)/\o.aH=(h:Int)
 .rw[asp q]
 .rw[aso q];by_cases z:cj G f h=0
  .rcases u with u|u
   .exact u
   .rw[z];exact u
  .exact absurd (O.anr f h J A z) q
end
section
variable {x:cM} {aI free:Int} {G S:List Cm} {aw:List Int}
theorem nS.acL(N:nS x aI free G S aw){r:Nat}:dY x.d G r h=dY x.d (il j7 (G++vl S aw)) r h\/dY x.d G r h=0:=by
 unfold dY;by_cases q:(h:Int)-cG x.d (dB x.d r).up<aI
 .exact .inl (by rw[Wx (N.abq q)])
 .exact .inr (yG (λc u=>⟨by have:=N.wv c u;omega,(eF N.JX c u).1.1⟩) r)
theorem nS.acM(N:nS x aI free G S aw){f:Nat}(z:f<x.d.aR.length):cj G f h=cj (il j7 (G++vl S aw)) f h\/cj G f h=0:=by
 have e:∀l:List Cm,bL (dI x.d l ((h:Int)-cG x.d (jh x.d f).aZ)) f=cj l f h:=λl=>by unfold dI;rw[iY z,awi]
 by_cases q:(h:Int)-cG x.d (jh x.d f).aZ<aI
 .exact .inl (by rw[<-e G,<-e,N.abq q])
 .refine .inr ?_;rw[<-e G];exact yF (λc u=>⟨by have:=N.wv c u;omega,(eF N.JX c u).1.1⟩) f
end
section
variable {d:aU} {x:cM} {G:List Cm}
theorem ant(h0:cH d=0)(u:acE d)(JX:fV d G)(C:Conv d G)(hw:∀c∈G,0<=dH d c)(wide:(d.aD.length:Int)*d.aG<=1024):Ja d (eE d G)=(true,0)/\∃s,gO d (eE d G)=some s/\Dj d G s.2/\s.2.length<=4096:=by
 have M:=eC h0;have f1:=u.h;have f2:=u.r;have f3:=u.f;have a3:(eE d G).all tX=true:=by rw[asH];intro o z;obtain⟨h,i,h1,V,-,rfl⟩:=kD.1 z;unfold tX;rw[asy];exact C.le i h
 have O:=Jh h0 (eF JX) a3;obtain⟨s,hs⟩:=C.aqG h0 hw;obtain⟨o1,J⟩:=acK h0 JX C hs;have l1:=sr (d:=d) (l:=G);have m1:d.aG.toNat*d.aR.length<=24*6:=atK Y f3;have m2:d.aG.toNat*d.aD.length<=24*6:=atK Y f2;have rc:ly d (eE d G)=0:=by unfold ly;rw[aso (by simpa using h0),asp O,aso Y]
 have A:nO d (eE d G)=0:=by
  unfold nO;have:nM d=false:=by unfold nM;rw[asZ];omega
  rw[this,rc,aso (by simp)]
 have al:(eE d G).all (·.bP)=true:=by rw[asH];exactλo z=>wT z
 refine⟨?_,s,hs,o1,Y⟩;unfold Ja;rw[A,aso Yd,al,aso (by simp),hs];simp only;rw[aso Y]
end
def vq:Ty pK where
 sz:=8
 uF D w cs s:=∃A1 n1 c1 A2 n2 c2 A3 n3 c3,cs=[iv s.aI,iv s.aI,iv (s.fin-1),iv s.free,.slice A1 n1 c1,.slice A2 n2 c2,.slice A3 n3 c3,.bool s.short]/\bS uQ D w A1 n1 s.ek/\bS uQ D w A2 n2 s.bJ/\bS cO D w A3 n3 s.cQ
 an:=λ⟨_,_,_,_,_,_,_,_,_,h,_⟩=>by rw[h];rfl
 di hk:=λ⟨A1,n1,c1,A2,n2,c2,A3,n3,c3,h,h1,h2,h3⟩=>⟨A1,n1,c1,A2,n2,c2,A3,n3,c3,h,h1.di hk,h2.di hk,h3.di hk⟩
 ar hB:=λ⟨A1,n1,c1,A2,n2,c2,A3,n3,c3,h,h1,h2,h3⟩=>⟨A1,n1,c1,A2,n2,c2,A3,n3,c3,h,h1.ar (by decide) hB,h2.ar (by decide) hB,h3.ar (by decide) hB⟩
def mK(x:cM)(k:Nat):Nat:=(min (eX x k) x.d.aG).toNat
abbrev oY(G:List Cm):Nat->Nat->Int:=λf h=>cj G f h
structure acN (x:cM) (w W0:World) (cX:Nat->Nat) (k b2 b8 b10 gs ga gg gI gE gS gT gL R F H:Nat) (rI cI rE cE rS cS rT cT rL cL:Nat->Nat) (u:World):Prop where
 err:(cy x k).err=0
 mad:∀j,j<k->eX x j<x.d.aG
 aS:∀j,j<k->Fp x j
 an:(cy x k).bX.length<=8192
 K:aj (λb=>cX b=0) W0 u
 B8:aP u b8 3 [iv (re x (cy x k).bX (mK x k))]
 Bs:aP u gs 3 (cJ (cn H λj=>if j<mK x k then sH x (cy x k).bX j else 0))
 TI:nY cX 1 u gI H R (dY x.d (cy x k).bX) rI cI
 TE:nY cX 2 u gE H R (Di x (dY x.d (cy x k).bX) (mK x k) 0) rE cE
 TS:nY cX 3 u gS H R (DC x (dY x.d (cy x k).bX) (mK x k) 0) rS cS
 TT:nY cX 4 u gT H F (oY (cy x k).bX) rT cT
 TL:nY cX 5 u gL H R (JB x (dY x.d (cy x k).bX) (oY (cy x k).bX) (mK x k) 0) rL cL
 Ba:aP u ga 3 (cJ (eZ F (cy x k).gK))
 Bg:aP u gg 3 (List.replicate F (iv 0))
 ex:∃As cs scells Q Ag ng cg Ao no co,aP u b2 50 [.slice As k cs,.slice Ao no co,.slice none 0 0,.slice none 0 0,.slice none 0 0,.slice none 0 0,.slice none 0 0,.slice none 0 0,.slice none 0 0,.slice (some (ad ga 0)) F F,.slice (some (ad gg 0)) F F,.slice none 0 0,.slice none 0 0,iv 0]/\
  bu w u As k cs 60 8 scells/\dW vq Q u (cy x k).gK scells/\(∀b,Q b->W0.heap.size<=b/\As≠some (ad b 0)/\Ag≠some (ad b 0)/\b<u.heap.size)/\
  aP u b10 58 [.slice Ag ng cg]/\bu w u Ag ng cg 65 5 ((cy x k).bX.flatMap bM)/\(∀g,As=some (ad g 0)->W0.heap.size<=g)/\∀g,Ag=some (ad g 0)->W0.heap.size<=g
end
def Fx(ops:Array Oper):Nat->Array Bool->iz
 |0,_=>.done
 |n+1,l=>kh (λi=>Fx ops n (l.setIfInBounds i true)) (Region.ready .any ops l)
def LI(l:Array Bool):Nat:=l.toList.countP λb=>!b
theorem count_set:∀{m:List Bool} {i:Nat},m[i]? =some false->(m.set i true).countP (λb=>!b)+1=m.countP λb=>!b
 |[],i,h=>by simp at h
 |a::m,0,h=>by
  simp only[List.getElem?_cons_zero,atW] at h
  subst h
  rw[awf,avM,avM]
  simp
 |a::m,i+1,h=>by
  rw[List.getElem?_cons_succ] at h
  rw[List.set_cons_succ,avM,avM]
  have:=count_set h
  omega
theorem xd{l:Array Bool}(hi:i<l.size)(h:l.getD i false=false):LI (l.setIfInBounds i true)+1=LI l:=by
 unfold LI;have u:(l.setIfInBounds i true).toList=l.toList.set i true:=by simp
 rw[u];apply count_set;rw[ate,atP hi] at h;rw[avf,atP hi];simpa using h
theorem JF{f:Nat->iz}:∀{is:List Nat},is≠[]->(kh f is).idx=is
 |[],h=>absurd rfl h
 |[i],_=>rfl
 |i::j::is,_=>by
  show i::(kh f (j::is)).idx=_
  rw[JF (by simp)]
theorem Nu{ops:Array Oper}{l:Array Bool}{f:Nat->iz}:∀{is:List Nat},is≠[]->(∀i∈is,dV ops true [] (f i) (l.setIfInBounds i true)=true)->dV ops false [] (kh f is) l=true
 |[],h,_=>absurd rfl h
 |[i],_,h=>by
  show((!false ||_)&&dV ops true [] (f i) (l.setIfInBounds i true))=true
  rw[h i ass];rfl
 |i::j::is,_,h=>by
  show((!false ||_)&&dV ops true [] (f i) (l.setIfInBounds i true)&&dV ops false [] (kh f (j::is)) l)=true
  rw[h i ass,Nu (by simp) λk hk=>h k (ast _ hk)];rfl
theorem Tn{ops:Array Oper}{l:Array Bool}{f:Nat->iz}{is:List Nat}(u:Region.ready .any ops l=is)(h:∀i∈is,dV ops true [] (f i) (l.setIfInBounds i true)=true):dV ops true [] (kh f is) l=true:=by
 cases is with
 |nil=>
  show(true&&(Region.ready .any ops l).isEmpty)=true;rw[u];rfl
 |cons i is=>
  cases is with
  |nil=>
   show((!true ||Region.ready .any ops l == [i])&&dV ops true [] (f i) (l.setIfInBounds i true))=true;rw[u,h i ass];simp
  |cons j is=>
   show((!true ||Region.ready .any ops l == i::(kh f (j::is)).idx)&&dV ops true [] (f i) (l.setIfInBounds i true)&&dV ops false [] (kh f (j::is)) l)=true;rw[u,h i ass,Nu (by simp) λk hk=>h k (ast _ hk),JF (by simp)];simp
theorem JG{f:Nat->iz}{n:Nat}:∀{is:List Nat},(∀i∈is,(f i).an<=n)->(kh f is).an<=n+1
 |[],_=>atc _
 |[i],h=>by
  show(f i).an+1<=n+1
  have:=h i ass
  omega
 |i::j::is,h=>by
  show max ((f i).an+1) (kh f (j::is)).an<=n+1
  have:=h i ass
  have:=JG (f:=f) (n:=n) (is:=j::is) λk hk=>h k (ast _ hk)
  omega
theorem nT{l:Array Bool}(A:l.size=ops.size)(hi:i∈Region.ready .any ops l):i<l.size/\l.getD i false=false:=by
 obtain⟨h1,o,z,-⟩:=avm.1 hi;have u:i<l.size:=by rw[A];exact(asV.1 z).1
 refine⟨u,?_⟩;rw[ate,atP u] at h1|-;exact h1
theorem JH{ops:Array Oper}:∀(n:Nat) (l:Array Bool),l.size=ops.size->LI l<=n->dV ops true [] (Fx ops n l) l=true
 |0,l,hs,h=>by
  show(true&&(Region.ready .any ops l).isEmpty)=true
  cases u:Region.ready .any ops l with
  |nil=>rfl
  |cons i is=>
   have h1:=nT hs (i:=i) (by rw[u];exact ass)
   have:=xd h1.1 h1.2
   omega
 |n+1,l,hs,h=>Tn rfl λi hi=>by
  have h1:=nT hs hi
  have z:=xd h1.1 h1.2
  exact JH n _ (by simpa using hs) Y
theorem Fy{ops:Array Oper}:∀(n:Nat) (l:Array Bool),(Fx ops n l).an<=n
 |0,_=>atc _
 |n+1,_=>JG λ_ _=>Fy n _
def Dm(P:Program)(ops:Array Oper)(X:XK)(i:Nat)(Q:Fr->World->Prop)(F:Fr)(w:World):Prop:=match ops.toList[i]? with
 |some o=>jG ops.toList o F (NJ P o F (λv w'=>fv v λv=>Q (de F o.dst v) w') X w) (Q (de F o.dst undef) w)
 |none=>False
section
variable {P:Program} {ops:Array Oper} {K:Fr->World->Prop} {X:XK}
theorem Fz{i:Nat}{Q:Fr->World->Prop}{p:(World->Prop)->Fr->World->Prop}{F:Fr}{w:World}(h:Dm P ops X i Q F w)(J:∀O u,Q O u->p (λ_=>True) O u):match ops.toList[i]? with
  |some o=>jG ops.toList o F (NJ P o F (λv u=>fv v λv=>nx (λ_=>True) u λz=>p z (de F o.dst v) u) X w) (nx (λ_=>True) w λz=>p z (de F o.dst undef) w)
  |none=>False:=by
 unfold Dm at h
 cases M:ops.toList[i]? with
 |none=>rw[M] at h;exact h
 |some o=>
  rw[M] at h
  refine mb (λa=>vI (λv u A=>?_) (λ_ _ V=>V) a) (λb=>bN Yt (J _ _ b)) h
  rw[rk] at A|-
  exact bN Yt (J _ _ A)
theorem Dn{f:Nat->iz}{F:Fr}{w:World}{Q:Nat->Fr->World->Prop}:∀{is:List Nat},is≠[]->(∀i∈is,Dm P ops X i (Q i) F w/\∀z u,Q i z u->fA P ops.toList K X (f i) (λ_=>True) z u)->fA P ops.toList K X (kh f is) (λ_=>True) F w
 |[],h,_=>absurd rfl h
 |[i],_,h=>by
  obtain⟨h1,A⟩:=h i ass
  show fA P ops.toList K X (.DF i (f i)) (λ_=>True) F w
  rw[xD]
  exact Fz (p:=λJ z u=>fA P ops.toList K X (f i) J z u) h1 A
 |i::j::is,_,h=>by
  obtain⟨h1,A⟩:=h i ass
  show fA P ops.toList K X (.alt i (f i) (kh f (j::is))) (λ_=>True) F w
  rw[xG]
  exact⟨Fz (p:=λJ z u=>fA P ops.toList K X (f i) J z u) h1 A,Dn (by simp) λk hk=>h k (ast _ hk)⟩
theorem FA(Inv:Array Bool->Fr->World->Prop)(step:∀(l:Array Bool) (i:Nat) (F:Fr) (w:World),l.size=ops.size->Cl .any ops l->i∈Region.ready .any ops l->Inv l F w->Dm P ops X i (Inv (l.setIfInBounds i true)) F w)(fin:∀(l:Array Bool) (F:Fr) (w:World),l.size=ops.size->Region.ready .any ops l=[]->Cl .any ops l->Inv l F w->K F w):∀(n:Nat) (l:Array Bool) (F:Fr) (w:World),l.size=ops.size->LI l<=n->Cl .any ops l->Inv l F w->fA P ops.toList K X (Fx ops n l) (λ_=>True) F w
 |0,l,F,w,hs,M,A,hi=>by
  refine fin l F w hs ?_ A hi
  cases z:Region.ready .any ops l with
  |nil=>rfl
  |cons i is=>
   have h1:=nT hs (i:=i) (by rw[z];exact ass)
   have:=xd h1.1 h1.2
   omega
 |n+1,l,F,w,hs,M,A,hi=>by
  show fA P ops.toList K X (kh (λi=>Fx ops n (l.setIfInBounds i true)) (Region.ready .any ops l)) (λ_=>True) F w
  by_cases z:Region.ready .any ops l=[]
  .rw[z]
   exact fin l F w hs z A hi
  .refine Dn (Q:=λi=>Inv (l.setIfInBounds i true)) z λi u=>⟨step l i F w hs A u hi,λO J h'=>?_⟩
   have h1:=nT hs u
   have V:=xd h1.1 h1.2
   exact FA Inv step fin n _ O J (by simpa using hs) Y (A.set u) h'
theorem XR(hm:P.follows .mixedOrders=true)(u:Region.noSelect ops=true)(Inv:Array Bool->Fr->World->Prop){F:Fr}(h0:Inv (Array.replicate ops.size false) F w)(step:∀(l:Array Bool) (i:Nat) (F:Fr) (w:World),l.size=ops.size->Cl .any ops l->i∈Region.ready .any ops l->Inv l F w->Dm P ops X i (Inv (l.setIfInBounds i true)) F w)(fin:∀(l:Array Bool) (F:Fr) (w:World),l.size=ops.size->Region.ready .any ops l=[]->Cl .any ops l->Inv l F w->K F w):mM P ops K X F w:=by
 have hs:(Array.replicate ops.size false).size=ops.size:=by simp
 have z:LI (Array.replicate ops.size false)<=ops.size:=by unfold LI;apply atI List.countP_le_length;simp
 rw[lZ];refine⟨hm,Fx ops ops.size (Array.replicate ops.size false),[],λ_=>True,?_,Yt,FA Inv step fin _ _ F w hs z (Cl.bH _) h0⟩;unfold pU;rw[u,JH _ _ hs z];have:=Fy (ops:=ops) ops.size (Array.replicate ops.size false);rw[Nat.ble_eq_true_of_le this];rfl
end
theorem kO(h:pT ops b i=true)(l:Array Bool)(z:Cl .any ops l)(J:l.getD b false=true):l.getD i false=true:=rn z 8 _ (pV λo A e he u=>z b o A J e he u) i h
theorem cA{P:Program}{X:XK}{Q:Fr->World->Prop}{F:Fr}{o:Oper}(z:ops.toList[i]? =some o)(h:jG ops.toList o F (NJ P o F (λv u=>fv v λv=>Q (de F o.dst v) u) X w) (Q (de F o.dst undef) w)):Dm P ops X i Q F w:=by
 unfold Dm;rw[z];exact h
def aqY(ops:Array Oper):Bool:=(List.range ops.size).all λi=>match ops[i]? with|some o=>o.after.toList.all λe=>decide (e.on<i)|none=>true
theorem vr{ops:Array Oper}{l:Array Bool}(hs:l.size=ops.size)(z:aqY ops=true)(A:Region.ready .any ops l=[]):∀(n i:Nat),i<n->i<ops.size->l.getD i false=true
 |0,i,h,_=>Y
 |n+1,i,h,hi=>by
  cases J:l.getD i false with
  |true=>rfl
  |false=>
   exfalso
   have u:i<l.size:=Y
   have hm:i∈Region.ready .any ops l:=by
    refine avm.2 ⟨?_,ops[i],atP hi,λe he _=>?_⟩
    .rw[ate,atP u] at J|-
     exact J
    .have h1:=asH.1 z i (as0.2 hi)
     rw[atP hi] at h1
     have M:=att (asH.1 h1 e (by simpa using he))
     exact vr hs z A n e.on Y Y
   rw[A] at hm
   cases hm
theorem getD_set_ne{l:Array Bool}(h:i≠j):(l.setIfInBounds i true).getD j false=l.getD j false:=by
 rw[ate,at9 h,ate]
theorem FB{ops:Array Oper}{l:Array Bool}{i n:Nat}(z:(List.range n).all (pT ops n)=true)(J:Cl .any ops l)(hi:i∈Region.ready .any ops l)(hs:l.size=ops.size)(h:i<n):l.getD n false=false:=by
 cases A:l.getD n false with
 |false=>rfl
 |true=>
  have u:=kO (asH.1 z i (as0.2 h)) l J A;rw[(nT hs hi).2] at u;cases u
theorem oZ{u:TypeId}{xs ys:aW}(h1:aP w a t xs)(z:aP w b u ys)(h:Nat.beq t u=false):a≠b:=λe=>by
 subst e;exact Nat.ne_of_beq_eq_false h (h1.uniq z).1
section
open Classical
abbrev pa:aW:=[.slice none 0 0,.slice none 0 0,.slice none 0 0,.slice none 0 0,.slice none 0 0,.slice none 0 0,.slice none 0 0,.slice none 0 0,.slice none 0 0,.slice none 0 0,.slice none 0 0,.slice none 0 0,.slice none 0 0,iv 0]
abbrev anu:aW:=[.slice none 0 0,.slice none 0 0,.slice none 0 0,.slice none 0 0,.slice none 0 0,.slice none 0 0,.slice none 0 0]
section
variable {D:Nat->Prop} {w:World}
theorem To{A:bZ}{c:Nat}{xs:aX}(X:bS cO D w A n xs)(hn:n<=1000000)(_hi:∀x∈xs,jt x):aK prog 23 #[aB A n c] w (λv w'=>ax w w'/\∃O c',v=aB O n c'/\n<=c'/\(0<n->∃q rest,O=aL q/\aP w' q 3 (cJ xs++rest)/\w.heap.size<=q)):=by
 have hl:=X.an;refine aF func23 Z<|abx (λhA=>?_) λhA=>?_
 .have h0:n=0:=by
   by_cases h:0<n
   .obtain⟨b,o,cs,x,e,_⟩:=X.au (k:=0) h;rw[hA] at e;cases e
   .omega
  subst h0;exact aQ (aY) U ⟨.refl _ _,none,0,U,asN _,λh=>Y⟩
 .refine lit [] λg w1 h1=>?_;have M:=X.ae h1.ae;have o1:bu w w1 (aL g) 0 0 3 1 []:=bu.lit (.refl _ _) h1 U;have J:Src w1 A n 1 (xs.map λv=>iv v):=by refine⟨by rw[asz];omega,λV=>?_⟩;obtain⟨b,o,cs,x,rfl,_⟩:=M.au V;obtain⟨a7,hf,hc⟩:=M.cells;refine⟨b,o,U,?_⟩;rw[<-Ie hf];exact hc
  refine iI o1 J Y (λO c' w3 u _ _=>?_) (h1:=by rw[List.all_map];exact asH.2 λ_ _=>rfl);rw[auy] at u;have a1:=u.le;refine aQ (aB O (0+n) c') U ⟨u.ae,O,c',by rw[as9],Y,λhp=>?_⟩;rcases u.form with⟨_,e1,-⟩|⟨q,e0,W,a6,-⟩
  .omega
  .subst e0;obtain⟨rest,hb,-,-⟩:=u.own.aS;exact⟨q,rest,U,hb,W⟩
end
structure ui (z:World) (g F N lo hi:Nat) (r c:Nat->Nat):Prop where
 R:fO z g F N N 0 (λ_ _=>0) r c
 g_:lo<=g/\g<hi
 r_:∀i,i<N->(lo<=r i/\r i<hi)/\r i≠g
 c_:∀i,i<N->c i=F
theorem ui.ae{z':World}{lo hi:Nat}(T:ui z g F N lo hi r c)(k:ax z z'):ui z' g F N lo hi r c:=⟨T.R.ae k,T.g_,T.r_,T.c_⟩
theorem ui.put{z':World}{lo hi:Nat}(T:ui z g F N lo hi r c)(k:aj (λi=>i≠b) z z')(u:b<lo\/hi<=b):ui z' g F N lo hi r c:=⟨T.R.ah k (by have:=T.g_;omega) λi hi=>by have:=(T.r_ i hi).1;omega,T.g_,T.r_,T.c_⟩
theorem xg{u:World}(J:w.heap.size<=g)(A:∀i,i<N->r i≠g)(T:fO u g F N N w.heap.size (λ_ _=>0) r c)(M:∀i,i<N->c i=F):ui u g F N w.heap.size u.heap.size r c:=⟨⟨T.aS,λi hi=>⟨(T.row i hi).1,atc _⟩,T.ne⟩,⟨J,T.aS.lt⟩,λi hi=>⟨⟨(T.row i hi).2,(T.row i hi).1.lt⟩,A i hi⟩,M⟩
structure acO (u0 z:World) (x:cM) (R F H b7 gi ci gs gI gE gS gT gL:Nat):Prop where
 ae:ax u0 z
 run:aP z b7 48 [.slice (some (ad gi 0)) H ci,.slice (some (ad gs 0)) H H,.slice (some (ad gI 0)) R R,.slice (some (ad gE 0)) R R,.slice (some (ad gS 0)) R R,.slice (some (ad gT 0)) F F,.slice (some (ad gL 0)) R R]
 inf:∃rest,aP z gi 3 (cJ x.dU++rest)
 sp:aP z gs 3 (List.replicate H (iv 0))
 aqZ:∃l1 h1 l2 h2 l3 h3 l4 h4 l5 h5 rI cI rE cE rS cS rT cT rL cL,ui z gI H R l1 h1 rI cI/\ui z gE H R l2 h2 rE cE/\ui z gS H R l3 h3 rS cS/\ui z gT H F l4 h4 rT cT/\ui z gL H R l5 h5 rL cL/\
  (u0.heap.size<=l1/\h1<=l2/\h2<=l3/\h3<=l4/\h4<=l5/\h5<=z.heap.size/\l1<=h1/\l2<=h2/\l3<=h3/\l4<=h4/\l5<=h5)/\
  (u0.heap.size<=gi/\gi<l1)/\(u0.heap.size<=gs/\(gs<l1\/h1<=gs)/\(gs<l2\/h2<=gs)/\(gs<l3\/h3<=gs)/\(gs<l4\/h4<=gs)/\(gs<l5\/h5<=gs))/\
  (u0.heap.size<=b7/\(b7<l1\/h1<=b7)/\(b7<l2\/h2<=b7)/\(b7<l3\/h3<=b7)/\(b7<l4\/h4<=b7)/\(b7<l5\/h5<=b7))
 ne:gi≠gs/\gi≠b7/\gs≠b7
 cap:H<=ci
theorem Dp{x:cM}{j:Nat}(h:(cy x j).err≠0):∀m,cy x (j+m)=cy x j
 |0=>rfl
 |m+1=>by rw[<-avH,Ni (by rw[Dp h m];exact h),Dp h m]
theorem WK(sn:Nd x)(h:(k:Int)*x.every<x.d.aG):k<fz x:=by
 have ev:=sn.ev;have h1:((k+1:Nat):Int)<=(x.d.aG+x.every-1)/x.every:=by
  apply(avF Y).2;have u:((k+1:Nat):Int)*x.every=k*x.every+x.every:=by rw[asA,atX];omega
  omega
 unfold fz;omega
theorem Tp(sn:Nd x)(h:(k:Int)*x.every<x.d.aG)(h0:(cy x k).err=0)(he:eM x (eX x k) (ug x k) (cy x k).bX≠0):(ia x).err=eM x (eX x k) (ug x k) (cy x k).bX:=by
 have e:=pN h0;rw[asp he] at e;have u:(cy x (k+1)).err=eM x (eX x k) (ug x k) (cy x k).bX:=by rw[e]
 obtain⟨m,hm⟩:∃m,fz x=(k+1)+m:=⟨fz x-(k+1),by have:=WK sn h;omega⟩;unfold ia;rw[hm,Dp (by rw[u];exact he),u]
theorem Tq{l:List Cm}{az:aX}{c:Cm}{a:Int}(h1:l[j]? =some c)(u:az[j]? =some a):vl (l.take (j+1)) (az.take (j+1))=vl (l.take j) (az.take j)++if 0<a then [{c with aC:=a}] else []:=by
 have J:l.take (j+1)=l.take j++[c]:=by rw[asD,h1];rfl
 have A:az.take (j+1)=az.take j++[a]:=by rw[asD,u];rfl
 have l1:=(asr.1 h1).1;have l2:=(asr.1 u).1;unfold vl;rw[J,A,List.zip_append (by rw[asF,asF];omega),auP];congr 1;by_cases h:0<a
 .rw[asp h];simp[h]
 .rw[aso h];simp[h]
theorem qI{aI free:Int}(P:S4 x aI free G):(ra x aI free G).bJ.length<=4096:=by
 have u:=(nn.1 (wX P.fc).2.2).2.2.1;have u:(Jk x aI (min (aI+x.every) x.d.aG)).length<=4096:=u;show(uc x.d G (Jk x aI (min (aI+x.every) x.d.aG))).length<=4096;rw[tD.length_eq];have h1:=(Av (d:=x.d) (before:=G) (c:=Jk x aI (min (aI+x.every) x.d.aG))).length_le;rw[(cP _).length_eq] at h1;omega
theorem Tr{l:List Cm}(h:∀c∈l,0<=c.aC/\c.aC<=1073741824)(f:Nat):0<=jr l f/\jr l f<=l.length*1073741824:=by
 have:=jl (l:=l.map λc=>if c.aO=(f:Int) then c.aC else 0) λv u=>by obtain⟨c,A,rfl⟩:=asS.1 u;have:=h c A;split<;>omega
 rw[asz] at this;exact this
theorem XS{ss:List pK}(h:∀s∈ss,(∀c∈s.ek,0<=c.aC/\c.aC<=1073741824)/\s.ek.length<=4096)(f:Nat):0<=aV (ss.map λs=>jr s.ek f)/\aV (ss.map λs=>jr s.ek f)<=ss.length*4398046511104:=by
 induction ss with
 |nil=>exact⟨asO _,by show(0:Int)<=0*4398046511104;omega⟩
 |cons s l ih=>
  have h1:=ih λy hy=>h y (ast _ hy);obtain⟨h2,h3⟩:=h s ass;have h4:=Tr h2 f;exact YW
theorem WL{ss:List pK}:eZ F ss=cn F λf=>aV (ss.map λs=>jr s.ek f):=rfl
theorem qJ{aI free:Int}(P:S4 x aI free G):fV x.d (ra x aI free G).ek/\(ra x aI free G).ek.length<=4096:=⟨(Nf P.fc).1,(nn.1 (wX P.fc).2.2).2.2.1⟩
theorem Ts{w0 v0:World}{A B:bZ}{c sz O:Nat}{e:TypeId}{cs ds:aW}(X:bu w0 w A n c e sz cs)(W:bu v0 w B m k t O ds)(J:Nat.beq e t=false):∀g,A=aL g->B≠aL g:=λg h1 Y=>by
 obtain⟨rest,V,_⟩:=jH.aS (h1▸X.own);obtain⟨u,M,_⟩:=jH.aS (Y▸W.own);exact Nat.ne_of_beq_eq_false J (V.uniq M).1
theorem AB:∀{l:List Cm} {az:aX},(vl l az).length<=l.length
 |[],_=>asN _
 |_::_,[]=>atc _
 |c::l,a::az=>by
  rw[Js,asu,as2]
  have:=AB (l:=l) (az:=az)
  split
  .rw[auQ];omega
  .rw[awC];omega
section
variable {x:cM} {aI free:Int} {G S:List Cm} {aw:List Int}
theorem nS.WM(N:nS x aI free G S aw){f:Nat}(u:f<x.d.aR.length)(J:(h:Int)<aI):cj (il j7 (G++vl S aw)) f h=cj G f h:=by
 have e:∀l:List Cm,bL (dI x.d l ((h:Int)-cG x.d (jh x.d f).aZ)) f=cj l f h:=λl=>by unfold dI;rw[iY u,awi]
 obtain⟨h1,M⟩:=(gY N.h0).fm f u;have A:=(BR (gY N.h0) (kp N.h0) (jh x.d f).aZ.toNat Y).2;rw[show(((jh x.d f).aZ.toNat:Nat):Int)=(jh x.d f).aZ from Y] at A;rw[<-e,<-e G,N.abq Y]
theorem nS.WN(N:nS x aI free G S aw)(u:(j:Int)<aI):sH x (il j7 (G++vl S aw)) j=sH x G j:=by
 unfold sH;rw[N.acX Y,N.abj N.nR u]
theorem nS.WO(N:nS x aI free G S aw){r:Nat}(hm:(m:Int)<=aI)(u:r<x.d.aD.length):Di x (dY x.d (il j7 (G++vl S aw))) m 0 r j=Di x (dY x.d G) m 0 r j:=by
 unfold Di;by_cases q:j<m\/(j=m/\r<0)
 .rw[asp q,asp q];unfold Ft;rw[N.abj u Y]
 .rw[aso q,aso q]
theorem nS.WQ(N:nS x aI free G S aw){r:Nat}(hm:(m:Int)<=aI)(u:r<x.d.aD.length):DC x (dY x.d (il j7 (G++vl S aw))) m 0 r j=DC x (dY x.d G) m 0 r j:=by
 unfold DC;by_cases q:j<m\/(j=m/\r<0)
 .rw[asp q,asp q];unfold Hl;rw[N.abj u Y]
 .rw[aso q,aso q]
theorem nS.WR(N:nS x aI free G S aw){r:Nat}(hm:(m:Int)<=aI)(A:r<x.d.aD.length):JB x (dY x.d (il j7 (G++vl S aw))) (oY (il j7 (G++vl S aw))) m 0 r j=JB x (dY x.d G) (oY G) m 0 r j:=by
 unfold JB;by_cases q:j<m\/(j=m/\r<0)
 .rw[asp q,asp q];have u:(j:Int)<aI:=Y;have W:zd x (dY x.d (il j7 (G++vl S aw))) r j=zd x (dY x.d G) r j:=by unfold zd Ft Hl;rw[N.abj A (h:=j-(dB x.d r).bD.toNat) Y]
  have V:Hm x.d (dY x.d (il j7 (G++vl S aw))) x.d.aD.length r j=Hm x.d (dY x.d G) x.d.aD.length r j:=by unfold Hm;refine congrArg aV (at1 λc M=>?_);rw[N.abj (as0.1 M) u]
  have O:PH x.d (oY (il j7 (G++vl S aw))) x.d.aR.length r j=PH x.d (oY G) x.d.aR.length r j:=by
   unfold PH;refine congrArg aV (at1 λf J=>?_);show(if _ then cj _ f j else 0)=if _ then cj G f j else 0
   rw[N.WM (as0.1 J) u]
  unfold taG;rw[W,V,O]
 .rw[aso q,aso q]
end
structure anv (x:cM) (cX:Nat->Nat) (h b8 gs gI gE gS gT gL R F H:Nat) (rI cI rE cE rS cS rT cT rL cL:Nat->Nat) (G:List Cm) (v:World):Prop where
 B8:aP v b8 3 [iv (re x G h)]
 Bs:aP v gs 3 (cJ (cn H λj=>if j<h then sH x G j else 0))
 TI:nY cX 1 v gI H R (dY x.d G) rI cI
 TE:nY cX 2 v gE H R (Di x (dY x.d G) h 0) rE cE
 TS:nY cX 3 v gS H R (DC x (dY x.d G) h 0) rS cS
 TT:nY cX 4 v gT H F (oY G) rT cT
 TL:nY cX 5 v gL H R (JB x (dY x.d G) (oY G) h 0) rL cL
theorem JI:∀{l:List QV} {s:aX},(∀v∈s,0<=v)->∀v∈oU s l,0<=v
 |[],_,h=>h
 |q::l,s,h=>JI (l:=l) (s:=s.set q.index.toNat (bL s q.index.toNat+1)) λv u=>by
  rcases auV u with u|u
  .exact h v u
  .have h1:0<=bL s q.index.toNat:=by
    by_cases hi:q.index.toNat<s.length
    .rw[cY (asw hi)];exact h _ (au0 hi)
    .rw[wZ Y];exact asO _
   omega
theorem tH:∀{l:aX},(∀v∈l,0<=v)->0<=aV l/\∀v∈l,v<=aV l
 |[],_=>⟨asO _,λv u=>by cases u⟩
 |a::l,h=>by
  obtain⟨h1,A⟩:=tH (l:=l) λv u=>h v (ast _ u)
  have J:=h a ass
  rw[bK]
  refine⟨by omega,λv u=>?_⟩
  rcases asM.1 u with rfl|u
  .omega
  .have:=A v u;omega
theorem WS{total:Int}{ws:aX}(A:0<=total)(hw:∀v∈ws,0<=v):(∀v∈(dP total ws).1,0<=v/\v<=total)/\0<=(dP total ws).2/\(dP total ws).2<=total:=by
 have hs:=(tH hw).1;obtain⟨X,W⟩:=yd (total:=total) hs;have O:0<=(dP total ws).2:=by
  unfold dP;split
  .exact A
  .exact asO _
 have h1:∀v∈(dP total ws).1,0<=v:=by
  unfold dP;by_cases z:aV ws=0
  .rw[asp z];intro v u;rw[(List.mem_replicate.1 u).2];exact asO _
  .rw[aso z];refine JI λv u=>?_;unfold tU at u;obtain⟨y,J,rfl⟩:=asS.1 u;exact aue (atq A (hw y J)) Y
 obtain⟨V,M⟩:=tH h1;exact⟨λv u=>⟨h1 v u,by have:=M v u;omega⟩,O,Y⟩
theorem Tt(sn:Nd x):x.d.aG<=eX x (fz x):=by
 have J:=sn.ev;refine apk ?_;intro h2 h3 h4;unfold eX;rw[h4];rw[atX] at h2;omega
theorem acP(I:acF x (fz x)):Hf x (cy x (fz x)).bX:=⟨I.sn,I.JX,λc u=>(I.wv c u).1,I.cv,λm hm=>I.yH m (by have:=Tt I.sn;omega)⟩
theorem nY.sl{D:Nat->Prop}{cX:Nat->Nat}{t:Nat}{u:World}{g F N:Nat}{L:Nat->Nat->Int}{r c:Nat->Nat}(T:nY cX t u g F N L r c)(V:∀i,i<N->c i=F)(W:∀i j,i<N->j<F->0<=L i j/\L i j<=1073741824)(Z:F<=4096)(X:N<=4096)(M:∀b,b<u.heap.size->D b):bS gC D u (aL g) N (rb N F L):=
 ⟨by unfold rb;rw[asz,as3],Y,λk l J=>by
  have hk:k<N:=by
   have:=(asr.1 J).1
   unfold rb at this
   rwa [asz,as3] at this
  have e:l=cn F (L k):=by
   unfold rb at J
   rw[as6,atU hk] at J
   injection J with J
   exact J.symm
  refine⟨g,0,[aB (some (ad (r k) 0)) F (c k)],U,M _ T.R.aS.lt,λj v A=>?_,some (ad (r k) 0),F,c k,U,?_,by rw[V k hk];exact asN _⟩
  .cases j with
   |zero=>
    injection A with A
    subst A
    exact T.R.aS.ai (T.head hk)
   |succ j=>cases A
  .rw[e]
   exact jL (rest:=[]) (by rw[asT];exact(T.R.row k hk).1) dm.symm (λv A=>by
    unfold cn at A
    obtain⟨j,O,rfl⟩:=asS.1 A
    have:=W k j hk (as0.1 O)
    unfold jt;omega) Y (M _ (T.R.row k hk).1.lt)⟩
structure anw (w:World) (cs:aW) (x:cM):Prop where
 ex:∃As ns c1 Ao no co csr Aa na ca Ag ng cg Ap np cp Aq nq cq,cs=[.slice As ns c1,.slice Ao no co]++csr++[.slice Aa na ca,.slice Ag ng cg,.slice Ap np cp,.slice Aq nq cq,iv (dP (aV (gB x.dr (x.eG.map (je x)))) (kT x (eZ x.d.aR.length (ia x).gK) (iE x (ia x).bX))).2]/\
  bS vq (λb=>b<w.heap.size) w As ns (ia x).gK/\RuR (λb=>b<w.heap.size) w csr (acD x (ia x).bX)/\bS cO (λb=>b<w.heap.size) w Aa na (eZ x.d.aR.length (ia x).gK)/\bS cO (λb=>b<w.heap.size) w Ag ng (iE x (ia x).bX)/\
  bS cO (λb=>b<w.heap.size) w Ap np (gB x.dr (x.eG.map (je x)))/\bS cO (λb=>b<w.heap.size) w Aq nq (dP (aV (gB x.dr (x.eG.map (je x)))) (kT x (eZ x.d.aR.length (ia x).gK) (iE x (ia x).bX))).1
def Dq(p1 q1 p2 q2 p3 q3 p4 q4 p5 q5 gs b8 b2 b10 ga gg L W b:Nat):Nat:=if p1<=b/\b<q1 then 1 else if p2<=b/\b<q2 then 2 else if p3<=b/\b<q3 then 3 else if p4<=b/\b<q4 then 4 else if p5<=b/\b<q5 then 5 else if b=gs then 6 else if b=b8 then 7 else if b=b2\/b=b10\/b=ga\/b=gg\/b=L then 8 else if b<W then 0 else 9
theorem ui.cX{lo hi:Nat}{cX:Nat->Nat}{t:Nat}(T:ui z g F N lo hi r c)(h:∀b,lo<=b->b<hi->cX b=t):nY cX t z g F N (λ_ _=>0) r c:=⟨T.R,h _ T.g_.1 T.g_.2,λi hi=>⟨h _ (T.r_ i hi).1.1 (T.r_ i hi).1.2,(T.r_ i hi).2⟩⟩
noncomputable def opsOf (id:Nat)(c:Code):Array Oper:=Code.rec (motive:=λ_=>Array Oper) #[] (λi ops _=>bif Nat.beq i id then ops else#[]) (λ_ _ a b=>bif Nat.beq a.size 0 then b else a) (λ_ _ _ a b=>bif Nat.beq a.size 0 then b else a) (λ_ _ a=>a) (λ_ a=>a) (λ_ _ _ _ a b=>bif Nat.beq a.size 0 then b else a) (λ_=>#[]) (λ_ a=>a) (λ_=>#[]) (λ_=>#[]) #[] (λ_=>#[]) c
noncomputable def Tu (c:Code):Code:=Code.rec (motive:=λ_=>Code) .skip (λ_ _ _=>.skip) (λ_ _ a b=>match a with| .skip=>b|_=>a) (λ_ _ _ a b=>match a with| .skip=>b|_=>a) (λ_ _ a=>a) (λ_ a=>a) (λ_ _ _ b _ _=>b) (λ_=>.skip) (λ_ a=>a) (λ_=>.skip) (λ_=>.skip) .skip (λ_=>.skip) c
def qK:Nat->Nat
 |0=>3
 |k+1=>10+4*k
def nn6(R N:Nat)(k:Nat):Nat:=if k=3 then N else R
def Pn(x:cM)(u0:World)(R N H:Nat)(qs:List Nat):Nat->Nat->Fr->World->Prop
 |0,b,F,z=>∃gi ci rest,F 41=.slice (some (ad gi 0)) H ci/\H<=ci/\aP z gi 3 (cJ x.dU++rest)/\u0.heap.size<=gi/\gi<b/\∀q∈qs,q≠gi
 |k+1,b,F,z=>∃l h g r c,Pn x u0 R N H qs k l F z/\F (48+4*k)=.slice (some (ad g 0)) (nn6 R N k) (nn6 R N k)/\ui z g H (nn6 R N k) l h r c/\l<=h/\h<=b/\∀q∈qs,q<l\/h<=q
theorem Pn.di{x:cM}{u0:World}{R N H:Nat}{qs:List Nat}{F W:Fr}{z z':World}(k:ax z z'):∀{n b A:Nat},Pn x u0 R N H qs n b F z->(∀i,i<=n->W (38+qK i)=F (38+qK i))->b<=A->Pn x u0 R N H qs n A W z'
 |0,b,A,⟨gi,ci,rest,h1,V,O,M,Z,J⟩,u,X=>⟨gi,ci,rest,(u 0 (asN _)).trans h1,V,O.ae k,M,Y,J⟩
 |n+1,b,A,⟨l,h,g,r,c,h1,V,O,M,Z,J⟩,u,X=>⟨l,h,g,r,c,Pn.di k h1 (λi hi=>u i Y) (asN _),by
  have e:=u (n+1) (asN _)
  rw[show 38+qK (n+1)=48+4*n by show 38+(10+4*n)=_;omega] at e
  rw[e];exact V,O.ae k,M,Y,J⟩
theorem Pn.Tv{x:cM}{u0:World}{R N H q:Nat}{qs:List Nat}{F:Fr}{z:World}:∀{n b:Nat},Pn x u0 R N H qs n b F z->b<=q->Pn x u0 R N H (q::qs) n b F z
 |0,b,⟨Z,ci,rest,h1,W,V,O,M,J⟩,X=>⟨Z,ci,rest,h1,W,V,O,M,λA u=>by
  rcases asM.1 u with rfl|u
  .omega
  .exact J A u⟩
 |n+1,b,⟨l,h,g,r,c,h1,W,V,O,M,J⟩,X=>⟨l,h,g,r,c,Pn.Tv h1 Y,W,V,O,M,λA u=>by
  rcases asM.1 u with rfl|u
  .omega
  .exact J A u⟩
def P6(b1 b4:Nat)(G6:bZ)(m6 e6 H R N:Nat)(j:Nat)(v:Value):Prop:=match j with
 |0=>v=.pointer (some (ad b1 16))
 |1=>v=.pointer (some (ad b1 16))
 |2=>v=.slice G6 m6 e6
 |4|8|12|16|20|24=>v=.pointer (some (ad b4 1))
 |5|9|13|17|21|25=>v=iv (H:Int)
 |7|11|15|23=>v=iv (R:Int)
 |19=>v=iv (N:Int)
 |_=>True
structure I6 (x:cM) (u0:World) (b1 b4 b5:Nat) (G6:bZ) (m6 e6 H R N:Nat) (qs:List Nat) (l:Array Bool) (F:Fr) (z:World):Prop where
 ae:ax u0 z
 f:F 1=ptr b1/\F 4=ptr b4/\F 5=ptr b5/\F 6=iv (N:Int)
 p:∀j,j<27->l.getD j false=true->P6 b1 b4 G6 m6 e6 H R N j (F (38+j))
 ch:∀k,k<6->l.getD (qK k) false=true->Pn x u0 R N H qs k z.heap.size F z
 q:∀q∈qs,u0.heap.size<=q/\q<z.heap.size
 fl:l.getD 6 false=true->∃gs∈qs,F 44=.slice (some (ad gs 0)) H H/\aP z gs 3 (List.replicate H (iv 0))
 al:l.getD 28 false=true->∃b7∈qs,F 7=ptr b7/\aP z b7 48 anu
 bd:l.getD 27 false=true->F 65=.agg #[F 41,F 44,F 48,F 52,F 56,F 60,F 64]
section
variable {x:cM} {u0 z z':World} {b1 b4 b5 m6 e6 H R N i t:Nat} {G6:Option Addr} {qs:List Nat} {l:Array Bool} {F:Fr} {v:Value}
theorem mX{F:Fr}{t j:Nat}{v:Value}:de F (some t) v j=if j=t then v else F j:=by
 show(bif Nat.beq j t then v else F j)=_;by_cases e:j=t
 .rw[asp e,e,auw];rfl
 .rw[aso e];cases u:Nat.beq j t with
  |true=>exact absurd (atx u) e
  |false=>rfl
theorem I6.fH(h:I6 x u0 b1 b4 b5 G6 m6 e6 H R N qs l F z)(k:ax z z')(ht:t=7/\l.getD 28 false=false\/38<=t/\t<66/\l.getD (t-38) false=false)(O:∀k X,X<=k->k<6->l.getD (qK k) false=true->l.getD (qK X) false=true)(W:l.getD 27 false=true->∀j,(j=6\/∃k,k<6/\j=qK k)->l.getD j false=true):I6 x u0 b1 b4 b5 G6 m6 e6 H R N qs l (de F (some t) v) z':=by
 have ne:∀j,j<28->l.getD j false=true->de F (some t) v (38+j)=F (38+j):=λj hj u=>by
  rw[mX,aso];intro e;rcases ht with⟨h1,-⟩|⟨h1,J,A⟩
  .omega
  .rw[show t-38=j from Y,u] at A;cases A
 have cl:∀k,k<6->qK k<27:=λk hk=>by
  match k with
  |0=>decide
  |k+1=>show 10+4*k<27;omega
 refine⟨h.ae.trans k,⟨?_,?_,?_,?_⟩,λj hj u=>by rw[ne j Y u];exact h.p j hj u,λn hn u=>(h.ch n hn u).di k (λZ M=>ne _ (by have:=cl Z Y;omega) (O n Z M hn u)) k.size,λq hq=>⟨(h.q q hq).1,by have:=(h.q q hq).2;have:=k.size;omega⟩,λu=>?_,λu=>?_,λu=>?_⟩
 .rw[mX,aso Y];exact h.f.1
 .rw[mX,aso Y];exact h.f.2.1
 .rw[mX,aso Y];exact h.f.2.2.1
 .rw[mX,aso Y];exact h.f.2.2.2
 .obtain⟨gs,h1,J,A⟩:=h.fl u;exact⟨gs,h1,(ne 6 Yd u).trans J,A.ae k⟩
 .obtain⟨b7,h1,J,A⟩:=h.al u;refine⟨b7,h1,?_,A.ae k⟩;rw[mX,aso]
  .exact J
  .intro e;rcases ht with⟨-,V⟩|⟨V,-⟩
   .rw[u] at V;cases V
   .omega
 .have e:=h.bd u;have g:=W u;rw[show de F (some t) v 65=F 65 from ne 27 Yd u,show de F (some t) v 41=F 41 from ne 3 Yd (g 3 (.inr ⟨0,Yd,U⟩)),show de F (some t) v 44=F 44 from ne 6 Yd (g 6 (.inl U)),show de F (some t) v 48=F 48 from ne 10 Yd (g 10 (.inr ⟨1,Yd,U⟩)),show de F (some t) v 52=F 52 from ne 14 Yd (g 14 (.inr ⟨2,Yd,U⟩)),show de F (some t) v 56=F 56 from ne 18 Yd (g 18 (.inr ⟨3,Yd,U⟩)),show de F (some t) v 60=F 60 from ne 22 Yd (g 22 (.inr ⟨4,Yd,U⟩)),show de F (some t) v 64=F 64 from ne 26 Yd (g 26 (.inr ⟨5,Yd,U⟩))];exact e
theorem Dr(h:(l.setIfInBounds i true).getD j false=true):j=i\/l.getD j false=true:=by
 by_cases e:i=j
 .exact .inl e.symm
 .rw[getD_set_ne e] at h;exact .inr h
theorem I6.set(h:I6 x u0 b1 b4 b5 G6 m6 e6 H R N qs l F z)(J:i<27->P6 b1 b4 G6 m6 e6 H R N i (F (38+i)))(V:∀k,k<6->qK k=i->Pn x u0 R N H qs k z.heap.size F z)(O:i=6->∃gs∈qs,F 44=aB (aL gs) H H/\aP z gs 3 (List.replicate H (iv 0)))(X:i=28->∃A∈qs,F 7=ptr A/\aP z A 48 anu)(W:i=27->F 65=.agg #[F 41,F 44,F 48,F 52,F 56,F 60,F 64]):I6 x u0 b1 b4 b5 G6 m6 e6 H R N qs (l.setIfInBounds i true) F z:=⟨h.ae,h.f,λj M u=>(Dr u).elim (λe=>by rw[e];exact J Y) λe=>h.p j M e,λk hk u=>(Dr u).elim (λe=>V k hk e) λe=>h.ch k hk e,h.q,λu=>(Dr u).elim (λe=>O e.symm) h.fl,λu=>(Dr u).elim (λe=>X e.symm) h.al,λu=>(Dr u).elim (λe=>W e.symm) h.bd⟩
theorem Hg{k:Nat}(hk:k<6):qK k<27/\qK k≠6:=by
 match k with
 |0=>decide
 |k+1=>show 10+4*k<27/\10+4*k≠6;omega
theorem I6.pure(h:I6 x u0 b1 b4 b5 G6 m6 e6 H R N qs l F z)(u:l.getD i false=false)(hi:i<27)(W:i≠6)(A:∀k,k<6->qK k≠i)(J:∀k O,O<=k->k<6->l.getD (qK k) false=true->l.getD (qK O) false=true)(M:l.getD 27 false=true->∀j,(j=6\/∃k,k<6/\j=qK k)->l.getD j false=true)(V:P6 b1 b4 G6 m6 e6 H R N i v):I6 x u0 b1 b4 b5 G6 m6 e6 H R N qs (l.setIfInBounds i true) (de F (some (38+i)) v) z:=(h.fH (.refl _ _) (.inr ⟨by omega,by omega,by rw[show 38+i-38=i by omega];exact u⟩) J M).set (λ_=>by rw[mX,asp rfl];exact V) (λk hk e=>absurd e (A k hk)) (λe=>absurd e W) (λe=>by omega) λe=>by omega
theorem I6.chain(h:I6 x u0 b1 b4 b5 G6 m6 e6 H R N qs l F z)(k:ax z z')(A:l.getD (qK n) false=false)(W:n<6)(J:∀v,P6 b1 b4 G6 m6 e6 H R N (qK n) v)(M:∀k u,u<=k->k<6->l.getD (qK k) false=true->l.getD (qK u) false=true)(O:l.getD 27 false=true->∀j,(j=6\/∃k,k<6/\j=qK k)->l.getD j false=true)(V:Pn x u0 R N H qs n z'.heap.size (de F (some (38+qK n)) v) z'):I6 x u0 b1 b4 b5 G6 m6 e6 H R N qs (l.setIfInBounds (qK n) true) (de F (some (38+qK n)) v) z':=by
 have Z:=Hg W;refine(h.fH k (.inr ⟨Y,Y,by rw[show 38+qK n-38=qK n from Y];exact A⟩) M O).set (λ_=>J _) (λu X e=>?_) (λe=>absurd e Z.2) (λe=>Y) λe=>Y;have:u=n:=by unfold qK at e;split at e<;>split at e<;>omega
 rw[this];exact V
theorem I6.tab(h:I6 x u0 b1 b4 b5 G6 m6 e6 H R N qs l F z)(k:ax z z')(u:l.getD (qK (n+1)) false=false)(M:l.getD (qK n) false=true)(W:n+1<6)(A:∀k J,J<=k->k<6->l.getD (qK k) false=true->l.getD (qK J) false=true)(V:v=aB (aL g) (nn6 R N n) (nn6 R N n))(T:ui z' g H (nn6 R N n) z.heap.size z'.heap.size r c):Pn x u0 R N H qs (n+1) z'.heap.size (de F (some (38+qK (n+1))) v) z':=
 ⟨z.heap.size,z'.heap.size,g,r,c,(h.ch n Y M).di k (λi hi=>by
  rw[mX,aso]
  intro e
  have e:qK i=qK (n+1):=Y
  have:=A n i hi Y M
  rw[e,u] at this;cases this) (asN _),by rw[mX,asp (by show _=38+(10+4*n);omega)];exact V,T,k.size,asN _,λq O=>.inl (h.q q O).2⟩
theorem I6.Tv{q:Nat}(h:I6 x u0 b1 b4 b5 G6 m6 e6 H R N qs l F z)(A:ax z z')(W:z.heap.size<=q/\q<z'.heap.size):I6 x u0 b1 b4 b5 G6 m6 e6 H R N (q::qs) l F z':=
 ⟨h.ae.trans A,h.f,h.p,λk hk J=>((h.ch k hk J).Tv W.1).di A (λ_ _=>rfl) A.size,λV u=>by
  have:=h.ae.size
  rcases asM.1 u with rfl|u
  .omega
  .have:=h.q V u;have:=A.size;omega,λJ=>by
  obtain⟨gs,h1,O,M⟩:=h.fl J
  exact⟨gs,ast _ h1,O,M.ae A⟩,λJ=>by
  obtain⟨X,h1,O,M⟩:=h.al J
  exact⟨X,ast _ h1,O,M.ae A⟩,h.bd⟩
end
def J6(x:cM)(w9:World)(b1 b4 b5:Nat)(G6:bZ)(m6 e6 H n1 n2:Nat)(l:Array Bool)(F:Fr)(z:World):Prop:=(l.getD 29 false=false->∃qs,I6 x w9 b1 b4 b5 G6 m6 e6 H n1 n2 qs l F z)/\(l.getD 29 false=true->∃s:Nat,F 7=ptr s/\∃gi ci gs gI gE gS gT gL,acO w9 z x n1 n2 H s gi ci gs gI gE gS gT gL)
section
variable {w:World}
set_option maxRecDepth 8000 in
set_option maxHeartbeats 4000000 in
theorem acQ{F:Fr}{X:XK}{x:cM}{J:World}{H n1 n2 b1 b4 b5:Nat}{A1 A2 A3 A4 A5 A6 G1 G2 G3 G4 G5 G6 G7 G8:bZ}{c1 c2 n3 c3 n4 c4 n5 c5 n6 c6 m1 e1 m2 e2 m3 e3 m4 e4 m5 e5 m6 e6 m7 e7 m8 e8:Nat}(hF:Has F [(1,ptr b1),(4,ptr b4),(5,ptr b5),(6,iv (n2:Int))])(B1:aP J b1 42 ([.string x.d.name,iv x.d.aG,iv x.d.cap,iv x.d.bH,aB A1 n1 c1,aB A2 n2 c2,aB A3 n3 c3,aB A4 n4 c4,aB A5 n5 c5,aB A6 n6 c6]++[iv x.every,aB G1 m1 e1,aB G2 m2 e2,aB G3 m3 e3,aB G4 m4 e4,aB G5 m5 e5,aB G6 m6 e6,aB G7 m7 e7,aB G8 m8 e8]))(af:J.cell? (ad b4 1)=some (iv (H:Int)))(B5:aP J b5 3 [iv (n1:Int)])(bT:bS cO (λb=>b<w.heap.size) J G6 m6 x.dU)(dx:∀v∈x.dU,jt v)(bI:m6=H)(eg:1<=H/\H<=24)(hn:n1<=6/\n2<=6):mM prog (opsOf 6 (body Tryz.f7)) (λF' z=>∃s:Nat,Has F' [(7,ptr s)]/\∃gi ci gs gI gE gS gT gL,acO J z x n1 n2 H s gi ci gs gI gE gS gT gL) X F J:=by
 obtain⟨eb,hO⟩:∃o,o=opsOf 6 (body Tryz.f7):=⟨_,U⟩;have hsz:eb.size=30:=by rw[hO];kernel_rfl
 subst hO;refine XR mx Z (J6 x J b1 b4 b5 G6 m6 e6 H n1 n2) ⟨λ_=>⟨[],.refl _ _,⟨hF.1,hF.2.1,hF.2.2.1,hF.2.2.2.1⟩,λj _ hl=>?_,λk _ hl=>?_,λq hq=>by(cases hq),λhl=>?_,λhl=>?_,λhl=>?_⟩,λhl=>?_⟩ ?_ ?_;iterate 6
  .exfalso
   rw[ate,au4] at hl
   split at hl<;>cases hl
 .intro l i F z hs hc hi hJ;have hrd:=nT hs hi;have hlt:i<30:=by have h:=hrd.1;rw[hs,hsz] at h;exact h
  have ak:l.getD 29 false=false:=by
   rcases auG i 29 with h|h
   .exact FB Z hc hi hs h
   .rw[show(29:Nat)=i from Y];exact hrd.2
  obtain⟨qs,I⟩:=hJ.1 ak;have hcc:∀k k',k'<=k->k<6->l.getD (qK k) false=true->l.getD (qK k') false=true:=λk k' h1 h2 h3=>by
   by_cases e:k'=k
   .rw[e];exact h3
   .have h4:=asH.1 (asH.1 (show((List.range 6).all λk=>(List.range k).all λk'=>pT (opsOf 6 (body Tryz.f7)) (qK k) (qK k'))=true from Z) k (as0.2 h2)) k' (as0.2 Y);exact kO h4 l hc h3
  have h27:l.getD 27 false=true->∀j,(j=6\/∃k,k<6/\j=qK k)->l.getD j false=true:=λh j hj=>by
   rcases hj with rfl|⟨k,hk,rfl⟩
   .exact kO Z l hc h
   .exact kO (asH.1 (show((List.range 6).all λk=>pT (opsOf 6 (body Tryz.f7)) 27 (qK k))=true from Z) k (as0.2 hk)) l hc h
  have fin:∀{v:Value} {z':World} {dd:List Nat} {t:Nat},i≠29->I6 x J b1 b4 b5 G6 m6 e6 H n1 n2 dd (l.setIfInBounds i true) (de F (some t) v) z'->J6 x J b1 b4 b5 G6 m6 e6 H n1 n2 (l.setIfInBounds i true) (de F (some t) v) z':=λhn h=>⟨λ_=>⟨_,h⟩,λe=>by rw[getD_set_ne hn,ak] at e;cases e⟩;match i,hlt with
  |0,_=>
   have db:=I.f.1;refine cA U ?_;rw[<-aT db];refine go ?_;show J6 x J b1 b4 b5 G6 m6 e6 H n1 n2 _ (de (fH F 1 _) (some 38) _) _;rw[aT db];exact pQ
  |1,_=>
   have cw:=I.p 0 Yd (bc (b:=1) (i:=0) Z l hc hi);refine cA U ?_;rw[<-aT cw];refine go ?_;show J6 x J b1 b4 b5 G6 m6 e6 H n1 n2 _ (de (fH F 38 _) (some 39) _) _;rw[aT cw];exact pQ
  |2,_=>
   have ct:=I.p 1 Yd (bc (b:=2) (i:=1) Z l hc hi);refine cA U ?_;rw[<-aT ct];refine ld _ ((B1.ae I.ae).ai U) ?_;show J6 x J b1 b4 b5 G6 m6 e6 H n1 n2 _ (de (fH F 39 _) (some 40) _) _;rw[aT ct];exact pQ
  |3,_=>
   have cr:=I.p 2 Yd (bc (b:=3) (i:=2) Z l hc hi);refine cA U ?_;rw[<-aT cr];refine aJ (To (bT.ae I.ae) Y dx) ?_;rintro _ z1 ⟨xq,_,ci,rfl,bG,qB⟩;obtain⟨gi,rest,rfl,qb,qg⟩:=qB Y;have z0:=I.ae.size;rw[bI] at bG;show J6 x J b1 b4 b5 G6 m6 e6 H n1 n2 _ (de (fH F 40 _) (some 41) _) _;rw[aT cr];exact fin Yd (I.chain (n:=0) xq hrd.2 Yd (λ_=>Yt) hcc h27 ⟨gi,ci,rest,(by show Value.slice (aL gi) m6 ci=_;rw[bI]),bG,qb,Y,qb.lt,λq hq e=>by have:=(I.q q hq).2;omega⟩)
  |4,_=>
   refine Px ?_;intro hf4;show J6 x J b1 b4 b5 G6 m6 e6 H n1 n2 _ (de (fH F 4 _) (some 42) _) _;rw[aT hf4];exact pQ
  |5,_=>
   have cp:=I.p 4 Yd (bc (b:=5) (i:=4) Z l hc hi);refine cA U ?_;rw[<-aT cp];refine ld _ (I.ae.ai af Yt) ?_;show J6 x J b1 b4 b5 G6 m6 e6 H n1 n2 _ (de (fH F 42 _) (some 43) _) _;rw[aT cp];exact pQ
  |6,_=>
   have ck:=I.p 5 Yd (bc (b:=6) (i:=5) Z l hc hi);refine cA U ?_;rw[<-aT ck];refine i7 (sz:=1) (zv:=iv 0) H U rfl Y Y U Yd λgs z1 aq=>?_;have t:=aq.au;have sz:=aq.size;have hm:aP z1 gs 3 (List.replicate H (iv 0)):=by have h:=aq.aS;rwa [show cz (iv 0)=[iv 0] from U,show(List.replicate H [iv 0]).flatten=List.replicate H (iv 0) by simp] at h
   show J6 x J b1 b4 b5 G6 m6 e6 H n1 n2 _ (de (fH F 43 _) (some 44) _) _;rw[aT ck];exact fin Yd (((I.Tv aq.ae (q:=gs) Y).fH (.refl _ _) (.inr ⟨Yd,Yd,hrd.2⟩) hcc h27).set (λ_=>Yt) (λk hk e=>absurd e (Hg hk).2) (λ_=>⟨gs,ass,U,hm⟩) (λe=>absurd e Yd) λe=>absurd e Yd)
  |7,_=>
   refine Xb ?_;intro hf5;show J6 x J b1 b4 b5 G6 m6 e6 H n1 n2 _ (de (fH F 5 _) (some 45) _) _;rw[aT hf5];exact pQ
  |8,_=>
   refine Px ?_;intro hf4;show J6 x J b1 b4 b5 G6 m6 e6 H n1 n2 _ (de (fH F 4 _) (some 46) _) _;rw[aT hf4];exact pQ
  |9,_=>
   have cb:=I.p 8 Yd (bc (b:=9) (i:=8) Z l hc hi);refine cA U ?_;rw[<-aT cb];refine ld _ (I.ae.ai af Yt) ?_;show J6 x J b1 b4 b5 G6 m6 e6 H n1 n2 _ (de (fH F 46 _) (some 47) _) _;rw[aT cb];exact pQ
  |10,_=>
   have cg:=I.p 7 Yd (bc (b:=10) (i:=7) Z l hc hi);have c8:=I.p 9 Yd (bc (b:=10) (i:=9) Z l hc hi);refine cA U ?_;rw[<-aT cg];rw[<-aT c8];refine aJ (pO (N:=n1) (F:=H) Y Y) ?_;rintro _ z1 ⟨g,r,c,rfl,xq,qg,qr,qR,qc⟩;show J6 x J b1 b4 b5 G6 m6 e6 H n1 n2 _ (de (fH (fH F 47 _) 45 _) (some 48) _) _;rw[aT c8,aT cg];exact fin Yd (I.chain (n:=1) xq hrd.2 Yd (λ_=>Yt) hcc h27 (I.tab (n:=0) xq hrd.2 (bc (b:=10) (i:=3) Z l hc hi) Yd hcc U (xg qg qr qR qc)))
  |11,_=>
   refine Xb ?_;intro hf5;show J6 x J b1 b4 b5 G6 m6 e6 H n1 n2 _ (de (fH F 5 _) (some 49) _) _;rw[aT hf5];exact pQ
  |12,_=>
   refine Px ?_;intro hf4;show J6 x J b1 b4 b5 G6 m6 e6 H n1 n2 _ (de (fH F 4 _) (some 50) _) _;rw[aT hf4];exact pQ
  |13,_=>
   have bw:=I.p 12 Yd (bc (b:=13) (i:=12) Z l hc hi);refine cA U ?_;rw[<-aT bw];refine ld _ (I.ae.ai af Yt) ?_;show J6 x J b1 b4 b5 G6 m6 e6 H n1 n2 _ (de (fH F 50 _) (some 51) _) _;rw[aT bw];exact pQ
  |14,_=>
   have bx:=I.p 11 Yd (bc (b:=14) (i:=11) Z l hc hi);have bt:=I.p 13 Yd (bc (b:=14) (i:=13) Z l hc hi);refine cA U ?_;rw[<-aT bx];rw[<-aT bt];refine aJ (pO (N:=n1) (F:=H) Y Y) ?_;rintro _ z1 ⟨g,r,c,rfl,xq,qg,qr,qR,qc⟩;show J6 x J b1 b4 b5 G6 m6 e6 H n1 n2 _ (de (fH (fH F 51 _) 49 _) (some 52) _) _;rw[aT bt,aT bx];exact fin Yd (I.chain (n:=2) xq hrd.2 Yd (λ_=>Yt) hcc h27 (I.tab (n:=1) xq hrd.2 (bc (b:=14) (i:=10) Z l hc hi) Yd hcc U (xg qg qr qR qc)))
  |15,_=>
   refine Xb ?_;intro hf5;show J6 x J b1 b4 b5 G6 m6 e6 H n1 n2 _ (de (fH F 5 _) (some 53) _) _;rw[aT hf5];exact pQ
  |16,_=>
   refine Px ?_;intro hf4;show J6 x J b1 b4 b5 G6 m6 e6 H n1 n2 _ (de (fH F 4 _) (some 54) _) _;rw[aT hf4];exact pQ
  |17,_=>
   have bp:=I.p 16 Yd (bc (b:=17) (i:=16) Z l hc hi);refine cA U ?_;rw[<-aT bp];refine ld _ (I.ae.ai af Yt) ?_;show J6 x J b1 b4 b5 G6 m6 e6 H n1 n2 _ (de (fH F 54 _) (some 55) _) _;rw[aT bp];exact pQ
  |18,_=>
   have br:=I.p 15 Yd (bc (b:=18) (i:=15) Z l hc hi);have bo:=I.p 17 Yd (bc (b:=18) (i:=17) Z l hc hi);refine cA U ?_;rw[<-aT br];rw[<-aT bo];refine aJ (pO (N:=n1) (F:=H) Y Y) ?_;rintro _ z1 ⟨g,r,c,rfl,xq,qg,qr,qR,qc⟩;show J6 x J b1 b4 b5 G6 m6 e6 H n1 n2 _ (de (fH (fH F 55 _) 53 _) (some 56) _) _;rw[aT bo,aT br];exact fin Yd (I.chain (n:=3) xq hrd.2 Yd (λ_=>Yt) hcc h27 (I.tab (n:=2) xq hrd.2 (bc (b:=18) (i:=14) Z l hc hi) Yd hcc U (xg qg qr qR qc)))
  |19,_=>
   have cK:=I.f.2.2.2;refine cA U ?_;rw[<-aT cK];show J6 x J b1 b4 b5 G6 m6 e6 H n1 n2 _ (de (fH F 6 _) (some 57) _) _;rw[aT cK];exact pQ
  |20,_=>
   refine Px ?_;intro hf4;show J6 x J b1 b4 b5 G6 m6 e6 H n1 n2 _ (de (fH F 4 _) (some 58) _) _;rw[aT hf4];exact pQ
  |21,_=>
   have bg:=I.p 20 Yd (bc (b:=21) (i:=20) Z l hc hi);refine cA U ?_;rw[<-aT bg];refine ld _ (I.ae.ai af Yt) ?_;show J6 x J b1 b4 b5 G6 m6 e6 H n1 n2 _ (de (fH F 58 _) (some 59) _) _;rw[aT bg];exact pQ
  |22,_=>
   have bk:=I.p 19 Yd (bc (b:=22) (i:=19) Z l hc hi);have be:=I.p 21 Yd (bc (b:=22) (i:=21) Z l hc hi);refine cA U ?_;rw[<-aT bk];rw[<-aT be];refine aJ (pO (N:=n2) (F:=H) Y Y) ?_;rintro _ z1 ⟨g,r,c,rfl,xq,qg,qr,qR,qc⟩;show J6 x J b1 b4 b5 G6 m6 e6 H n1 n2 _ (de (fH (fH F 59 _) 57 _) (some 60) _) _;rw[aT be,aT bk];exact fin Yd (I.chain (n:=4) xq hrd.2 Yd (λ_=>Yt) hcc h27 (I.tab (n:=3) xq hrd.2 (bc (b:=22) (i:=18) Z l hc hi) Yd hcc U (xg qg qr qR qc)))
  |23,_=>
   refine Xb ?_;intro hf5;show J6 x J b1 b4 b5 G6 m6 e6 H n1 n2 _ (de (fH F 5 _) (some 61) _) _;rw[aT hf5];exact pQ
  |24,_=>
   refine Px ?_;intro hf4;show J6 x J b1 b4 b5 G6 m6 e6 H n1 n2 _ (de (fH F 4 _) (some 62) _) _;rw[aT hf4];exact pQ
  |25,_=>
   have ay:=I.p 24 Yd (bc (b:=25) (i:=24) Z l hc hi);refine cA U ?_;rw[<-aT ay];refine ld _ (I.ae.ai af Yt) ?_;show J6 x J b1 b4 b5 G6 m6 e6 H n1 n2 _ (de (fH F 62 _) (some 63) _) _;rw[aT ay];exact pQ
  |26,_=>
   have b0:=I.p 23 Yd (bc (b:=26) (i:=23) Z l hc hi);have av:=I.p 25 Yd (bc (b:=26) (i:=25) Z l hc hi);refine cA U ?_;rw[<-aT b0];rw[<-aT av];refine aJ (pO (N:=n1) (F:=H) Y Y) ?_;rintro _ z1 ⟨g,r,c,rfl,xq,qg,qr,qR,qc⟩;show J6 x J b1 b4 b5 G6 m6 e6 H n1 n2 _ (de (fH (fH F 63 _) 61 _) (some 64) _) _;rw[aT av,aT b0];exact fin Yd (I.chain (n:=5) xq hrd.2 Yd (λ_=>Yt) hcc h27 (I.tab (n:=4) xq hrd.2 (bc (b:=26) (i:=22) Z l hc hi) Yd hcc U (xg qg qr qR qc)))
  |27,_=>
   obtain⟨l5,h5,gL,rL,cL,⟨l4,h4,gT,rT,cT,⟨l3,h3,gS,rS,cS,⟨l2,h2,gE,rE,cE,⟨l1,h1,gI,rI,cI,⟨gi,ci,rest,v41,cap,Bi,dO,dy,bE⟩,v48,T1,o1,p1,q1⟩,v52,T2,o2,p2,q2⟩,v56,T3,o3,p3,q3⟩,v60,T4,o4,p4,q4⟩,v64,T5,o5,p5,q5⟩:=I.ch 5 Yd (bc (b:=27) (i:=26) Z l hc hi);obtain⟨gs,O,v44,Bs⟩:=I.fl (bc (b:=27) (i:=6) Z l hc hi);refine Zh ?_;intro v48 v52 v56 v60 v64;refine cA U ?_;rw[<-aT v41,<-aT v44,<-aT v48,<-aT v52,<-aT v56,<-aT v60,<-aT v64];refine hY [aB (aL gi) H ci,aB (aL gs) H H,aB (aL gI) n1 n1,aB (aL gE) n1 n1,aB (aL gS) n1 n1,aB (aL gT) n2 n2,aB (aL gL) n1 n1] Z ?_;show J6 x J b1 b4 b5 G6 m6 e6 H n1 n2 _ (de (fH (fH (fH (fH (fH (fH (fH F 64 _) 60 _) 56 _) 52 _) 48 _) 44 _) 41 _) (some 65) _) _;rw[aT v64,aT v60,aT v56,aT v52,aT v48,aT v44,aT v41];exact fin Yd ((I.fH (.refl _ _) (.inr ⟨Yd,Yd,hrd.2⟩) hcc h27).set (λe=>absurd e Yd) (λk hk e=>absurd (Hg hk).1 Y) (λe=>absurd e Yd) (λe=>absurd e Yd) λ_=>by show Value.agg #[_,_,_,_,_,_,_]=.agg #[F 41,F 44,F 48,F 52,F 56,F 60,F 64];rw[v41,v44,v48,v52,v56,v60,v64])
  |28,_=>
   refine cA U<|alloc λb7 z1 aq=>?_;have t:=aq.au;have sz:=aq.size;show J6 x J b1 b4 b5 G6 m6 e6 H n1 n2 _ (de F (some 7) _) _;exact fin Yd (((I.Tv aq.ae (q:=b7) Y).fH (.refl _ _) (.inl ⟨U,hrd.2⟩) hcc h27).set (λe=>absurd e Yd) (λk hk e=>absurd (Hg hk).1 Y) (λe=>absurd e Yd) (λ_=>⟨b7,ass,U,aq.aS⟩) λe=>absurd e Yd)
  |29,_=>
   obtain⟨l5,h5,gL,rL,cL,⟨l4,h4,gT,rT,cT,⟨l3,h3,gS,rS,cS,⟨l2,h2,gE,rE,cE,⟨l1,h1,gI,rI,cI,⟨gi,ci,rest,v41,cap,Bi,dO,dy,bE⟩,v48,T1,o1,p1,q1⟩,v52,T2,o2,p2,q2⟩,v56,T3,o3,p3,q3⟩,v60,T4,o4,p4,q4⟩,v64,T5,o5,p5,q5⟩:=I.ch 5 Yd (bc (b:=29) (i:=26) Z l hc hi);obtain⟨gs,O,v44,Bs⟩:=I.fl (bc (b:=29) (i:=6) Z l hc hi);refine Zh ?_;intro v48 v52 v56 v60 v64;obtain⟨b7,V,v7,B7⟩:=I.al (bc (b:=29) (i:=28) Z l hc hi);have bA:=I.bd (bc (b:=29) (i:=27) Z l hc hi);rw[v41,v44,v48,v52,v56,v60,v64] at bA;refine cA U ?_;rw[<-aT bA,<-aT v7];refine fg B7 λz1 C7 kz _=>?_;have C7:=C7;show J6 x J b1 b4 b5 G6 m6 e6 H n1 n2 _ (de (fH (fH F 7 _) 65 _) none _) _;rw[aT v7,aT bA];have bq:=I.q b7 V;have gq:=I.q gs O;have ec:=kz.size;have dp:=bE b7 V;have ef:=bE gs O;have df:=oZ Bs B7 Yd;have a1:=q1 b7 V;have a2:=q2 b7 V;have a3:=q3 b7 V;have a4:=q4 b7 V;have a5:=q5 b7 V;have a6:=q1 gs O;have a7:=q2 gs O;have a8:=q3 gs O;have a9:=q4 gs O;have aa:=q5 gs O;refine⟨λe=>?_,λ_=>⟨b7,v7,gi,ci,gs,gI,gE,gS,gT,gL,⟨I.ae.ag kz λb hb _=>Y,C7,⟨rest,Bi.ah kz λe=>dp e.symm⟩,Bs.ah kz df,⟨l1,h1,l2,h2,l3,h3,l4,h4,l5,h5,rI,cI,rE,cE,rS,cS,rT,cT,rL,cL,T1.put kz a1,T2.put kz a2,T3.put kz a3,T4.put kz a4,T5.put kz a5,Y,Y,Y,Y⟩,Y,cap⟩⟩⟩;exact YF
  |n+30,h=>omega
 .intro l F z hs hr hc hJ;have ak:=vr hs Z hr 30 29 Yd (by rw[hsz];decide);obtain⟨s,h1,h2⟩:=hJ.2 ak;exact⟨s,⟨h1,Yt⟩,h2⟩
end
end
end Go.Proofs.YtakcjkbnfegidaaGreat
