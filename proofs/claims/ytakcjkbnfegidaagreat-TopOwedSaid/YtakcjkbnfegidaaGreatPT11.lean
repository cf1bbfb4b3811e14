/- Part. -/
import Derived.Test.YtakcjkbnfegidaaGreatPT10
set_option linter.all false
namespace Go.Proofs.YtakcjkbnfegidaaGreat
open Go Go.RowKit Tryz
variable{D:Nat->Prop}{w:World}{g:Nat}{os:List Od}{d:aU}{e t:TypeId}
section
open Classical
theorem I9{D:Nat->Prop}{w:World}:∀{xs:List Od} {cs:aW},dW PC D w xs cs->cs=xs.flatMap Od.c
 |[],cs,h=>h
 |x::xs,cs,h=>by
  obtain⟨a,b,rfl,z,u⟩:=h
  rw[ata,<-I9 u]
  rw[show a=Od.c x from z]
theorem aqT{A:bZ}{n:Nat}{xs:List Od}(h:bS PC D w A n xs):Src w A n 4 (xs.flatMap Od.c):=by
 have z:=h.an;refine⟨by rw[bz (K:=4) λ_=>rfl,z],λu=>?_⟩;obtain⟨b,o,cs,x,rfl,_⟩:=h.au u;obtain⟨O,J,M⟩:=h.cells;refine⟨b,o,U,?_⟩;rw[<-I9 J];exact M
theorem Fh:∀{zs:List Od},((zs.flatMap Od.c).all λu=>u.oneCell')=true
 |[]=>rfl
 |z::zs=>by rw[ata,avZ,Fh];rfl
noncomputable def Ja (d:aU)(out:List Od):Bool×Int:=
 if nO d out≠0 then(false,nO d out) else if out.all (·.bP)=false then(false,220) else
 match gO d out with
 |none=>(false,0)
 |some s=>if 4096<s.2.length then(false,2) else(true,0)
section
variable {D:Nat->Prop} {w:World} {A:Option Addr} {n c:Nat}
theorem SK{zs:List Od}(hs:Src w A n 4 (zs.flatMap Od.c))(hn:n<=1000000):aK prog 86 #[aB A n c] w (λv w'=>∃A' c',v=aB A' n c'/\bu w w' A' n c' 114 4 (zs.flatMap Od.c)):=by
 refine aF func86 Z<|KT (λhA=>?_) λhA=>?_
 .subst hA;have h0:n=0:=adA
  subst h0;have hx:zs.flatMap Od.c=[]:=asL (by have:=hs.1;omega);exact adC
 .refine lit [] λg w1 h1=>?_;have o1:bu w w1 (aL g) 0 0 114 4 []:=bu.lit (.refl _ _) h1 U;refine iI o1 (hs.OC h1.ae) Y (λA' c' w2 o2 k2 J=>?_) (h1:=Fh);exact adw
def pH(w:World)(g:Nat)(f:DM):Prop:=∃fk,fL dE w g fk/\∀q,(fk q).getD (iv 0)=iv (f q)
theorem pH.ah{u:World}{f:DM}(h:pH w g f)(k:aj D w u)(z:D g):pH u g f:=by
 obtain⟨fk,M,e⟩:=h;exact⟨fk,M.ah k z,e⟩
theorem pH.lt{f:DM}(h:pH w g f):g<w.heap.size:=by obtain⟨fk,M,e⟩:=h;exact dw.lt M.g
set_option maxRecDepth 8000 in
set_option maxHeartbeats 1000000 in
theorem Jb{fi:aW}{d:aU}{out:List Od}(hd:iG (λb=>b<w.heap.size) w fi d)(h:bS PC (λb=>b<w.heap.size) w A n out):aK prog 30 #[.agg fi.toArray,aB A n c] w (λv w'=>ax w w'/\∃A' n' c',v=.tuple #[aB A' n' c',.bool (Ja d out).1,iv (Ja d out).2]/\((Ja d out).1=true->∃s,gO d out=some s/\fT qu s.2/\bu w w' A' n' c' 114 4 ((il qu s.2).flatMap Od.c))):=by
 have hd0:=hd;have hl:=h.an;obtain⟨A1,n1,c1,A2,n2,c2,A3,n3,c3,A4,n4,c4,A5,n5,c5,A6,n6,c6,rfl,eS,fa,-⟩:=hd.ex;have jb:=eS.an;have kj:=fa.an;refine aF (args:=[.agg #[.string d.name,iv d.aG,iv d.cap,iv d.bH,aB A1 n1 c1,aB A2 n2 c2,aB A3 n3 c3,aB A4 n4 c4,aB A5 n5 c5,aB A6 n6 c6],aB A n c]) func30 Z ?_;refine box λb2 w1 h1=>?_;refine alloc λb4 w2 h2=>?_;refine alloc λb5 w3 h3=>?_;refine alloc λb6 w4 h4=>?_;have e2:=h1.au;have e4:=h2.au;have e5:=h3.au;have e6:=h4.au;have s1:=h1.size;have s2:=h2.size;have s3:=h3.size;have s4:=h4.size;have x04:=((h1.ae.trans h2.ae).trans h3.ae).trans h4.ae;have B2:aP w4 b2 31 [.string d.name,iv d.aG,iv d.cap,iv d.bH,aB A1 n1 c1,aB A2 n2 c2,aB A3 n3 c3,aB A4 n4 c4,aB A5 n5 c5,aB A6 n6 c6]:=h1.aS.ae ((h2.ae.trans h3.ae).trans h4.ae);have B4:aP w4 b4 46 [aY]:=h2.aS.ae (h3.ae.trans h4.ae);have B5:aP w4 b5 4 [.bool false]:=h3.aS.ae h4.ae;have B6:aP w4 b6 51 [iv 0]:=h4.aS;refine fj [.string d.name,iv d.aG,iv d.cap,iv d.bH,aB A1 n1 c1,aB A2 n2 c2,aB A3 n3 c3,aB A4 n4 c4,aB A5 n5 c5,aB A6 n6 c6] (.aS B2) U ?_;refine aJ (Lk (hd0.ae x04) (h.ae x04)) ?_;rintro _ w5 ⟨rfl,x5⟩;refine st1 (B6.ae x5) U λw6 B6 k6=>?_;have B2:aP w6 b2 31 [.string d.name,iv d.aG,iv d.cap,iv d.bH,aB A1 n1 c1,aB A2 n2 c2,aB A3 n3 c3,aB A4 n4 c4,aB A5 n5 c5,aB A6 n6 c6]:=(B2.ae x5).ah k6 Y;have B4:=(B4.ae x5).ah k6 Y;have B5:=(B5.ae x5).ah k6 Y;have x06:ax w w6:=(x04.trans x5).ag k6 λb hb _=>Y;have z5:=x5.size;have z6:=k6.size;obtain⟨er,her⟩:∃er,er=nO d out:=⟨_,U⟩;rw[<-her] at B6;refine ld (iv er) (B6.ai U) ?_;refine cN (λq=>?_) λq=>?_
 .refine bR (oP [1,2,3] [3] [0,1,2,3]) [3] (λz=>aj (λb=>b=b6) w6 z) mx Z (.refl _ _) ?_;refine fu (iv er) (B6.ai U) U (.refl _ _) ?_;refine st1 B4 U λw7 B4 k7=>?_;refine bN (k7.cU λb _ hh=>Y) ?_;refine st1 (B5.ah k7 Y) U λw8 B5 k8=>?_;refine bN ((k7.cU λb _ (hh:b=b6)=>Y).trans (k8.cU λb _ hh=>Y)) ?_;refine gv (λ_=>True) Yt ?_;refine st1 ((B6.ah k7 Y).ah k8 Y) U λw9 B6 k9=>?_;refine bN Yt ?_;have er:Ja d out=(false,nO d out):=by unfold Ja;rw[<-her,asp q]
  refine ret ?_;refine da _ (bj (((B4.ah k8 Y).ah k9 Y).ai U)) ?_;refine da _ (bj ((B5.ah k9 Y).ai U)) ?_;refine da _ (bj (B6.ai U)) ?_;exact⟨((x06.ag k7 λb hb _=>Y).ag k8 λb hb _=>Y).ag k9 λb hb _=>Y,none,0,0,by rw[er,her];rfl,λhh=>by rw[er] at hh;cases hh⟩
 have bg:nO d out=0:=Y;have V:ly d out=0:=by
  unfold nO at bg;split at bg
  .cases bg
  .exact bg
 have hO:pG d out:=by
  unfold ly at V;split at V
  .rename_i h0;exact absurd V h0
  .split at V
   .cases V
   .split at V
    .assumption
    .cases V
 have hd00:cH d=0:=by
  unfold ly at V;by_cases h0:cH d=0
  .exact h0
  .rw[asp h0] at V;exact absurd V h0
 have l0:out.length<=4096:=by
  unfold ly at V;rw[aso (by simpa using hd00)] at V;split at V
  .cases V
  .omega
 have et:(d.aD.length:Int)*d.aG<=1024:=by
  unfold nO at bg;split at bg
  .cases bg
  .rename_i h0;have:nM d≠true:=λhh=>h0 ⟨V,hh⟩;unfold nM at this;rw[ne_eq,asy] at this;omega
 have hh:=eC hd00;obtain⟨m1,m2,-⟩:=jO hd00;have ht:=kp hd00;have cp:∀y∈d.aD,gQ y=true:=λy hy=>by
  have hv:gH d=true:=by
   unfold cH at hd00;split at hd00
   .cases hd00
   .split at hd00
    .assumption
    .cases hd00
  obtain⟨i,hi⟩:=ath hy;exact(iX (dA.1 hv).2.1 hi).2
 have eh:Ja d out=if out.all (·.bP)=false then(false,(220:Int)) else match gO d out with
  |none=>(false,0)
  |some s=>if 4096<s.2.length then(false,2) else(true,0):=by unfold Ja;rw[aso (by simpa using bg)]
 refine qV λg w7 hg dd=>?_;have gd:ax w6 w7:=by rw[dd];exact aj.alloc _ _ _
 have M7:pH w7 g (kR d (out.take 0) λ_=>0):=⟨_,by rw[dd,hg];exact fL.new dE w6,λq=>rfl⟩;have z7:w7.heap.size=w6.heap.size+1:=by rw[dd];simp
 refine alloc λb7 w8 h8=>?_;refine st1 h8.aS U λw9 B7 k9=>?_;have e7:=h8.au;have s8:=h8.size;have cT:ax w7 w9:=h8.ae.ag k9 λb hb _ e=>Y;have M9:=M7.ah cT Yt;have bx:=gd.trans cT;have gl:=x06.trans bx;have B2:=B2.ae bx;have B4:=B4.ae bx;have B5:=B5.ae bx;have B6:=B6.ae bx;have z9:=cT.size;refine an ?_;refine aM (λk:Nat=>[(25,iv (k:Int))]) (λk u=>k<=n/\aj (λb=>b≠g) w9 u/\(∀x∈out.take k,x.bP=true)/\pH u g (kR d (out.take k) λ_=>0)) (λk _=>n-k) 0 ⟨U,Yt⟩ ⟨Y,.refl _ _,λx hx=>by(rw[atg] at hx;cases hx),M9⟩ U ?_;rintro G k u ⟨hk,ku,bq,Mu⟩;have zu:=ku.size;have br:ax w u:=gl.ag ku λb hb _=>Y;have C2:=B2.ah ku Y;have C4:=B4.ah ku Y;have C5:=B5.ah ku Y;have C6:=B6.ah ku Y;have C7:=B7.ah ku Y;refine cD (λhlt=>?_) λhge=>?_
 .obtain⟨bb,oo,cs,x,rfl,hx,-,-,hcc,rfl⟩:=(h.ae br).au (show k<n from Y);have htk:out.take (k+1)=out.take k++[x]:=by rw[asD,hx];rfl
  have ep:=hO.1 x (asq hx);refine idx k U Y ?_;refine fj x.c hcc U ?_;refine alloc λb9 u1 a1=>?_;refine jR (vs:=x.c) a1.aS U Yl Ys λu2 B9 k2 z2=>?_;have B9:aP u2 b9 114 x.c:=B9;have e9:=a1.au;have t9:=a1.size;have ak:ax u u2:=a1.ae.ag k2 λb hb _ e=>Y;refine bC ?_;refine ld (.bool x.bP) (B9.ai U) ?_;cases ho:x.bP with
  |false=>
   refine st1 (C4.ae ak) U λu3 D4 k3=>?_;refine st1 ((C5.ae ak).ah k3 Y) U λu4 D5 k4=>?_;refine st1 (((C6.ae ak).ah k3 Y).ah k4 Y) U λu5 D6 k5=>?_;have er:Ja d out=(false,220):=by rw[eh,asp];rw[List.all_eq_false];exact⟨x,asq hx,by rw[ho];simp⟩
   refine ret ?_;refine da _ (bj (((D4.ah k4 Y).ah k5 Y).ai U)) ?_;refine da _ (bj ((D5.ah k5 Y).ai U)) ?_;refine da _ (bj (D6.ai U)) ?_;exact⟨(((br.trans ak).ag k3 λb hb _=>Y).ag k4 λb hb _=>Y).ag k5 λb hb _=>Y,none,0,0,by rw[er];rfl,λhh=>by rw[er] at hh;cases hh⟩
  |true=>
   rw[DX,ho,asp U] at ep;obtain⟨kG,kB,hx3⟩:=ep;obtain⟨bf,fI,l8,y,hL,hy,-,-,av,rfl⟩:=fa.au (show x.index.toNat<n2 from Y);have hC:=iS (av 1 _ U);have av:=av.ah (br.trans ak) Yt;subst hL;have gr:jh d x.index.toNat=y:=jJ hy;obtain⟨F,hF⟩:∃F,F=kR d (out.take k) (λ_=>0):=⟨_,U⟩;rw[<-hF] at Mu;obtain⟨fk,Mk,hfk⟩:=Mu;have ff:=CU (d:=d) (l:=out.take k) (f:=λ_=>0) (B:=0) (λz hz=>by have:=(hO.1 z (asW hz)).2.2;omega) (λq=>⟨asO _,asO _⟩) (y.aZ,x.aH);rw[<-hF,asF] at ff;obtain⟨V0,hV0⟩:∃V0,V0=F (y.aZ,x.aH):=⟨_,U⟩;rw[<-hV0] at ff;have hV:=C7.ae ak;have hW:=C2.ae ak;have kb:=dw.lt Mk.g;have fU:=Mk.ah ak Yt;refine bR (oP [15,17] [17] [0,1,2,3,4,5,6,7,8,9,10,11,12,13,14,15,16,17]) [17] (λy_=>aj (λb=>b≠g) u2 y_/\∃f',dw dE y_ g f'/\(f' (y.aZ,x.aH)).getD (iv 0)=iv V0) mx Z ⟨.refl _ _,_,fU.g,by rw[hfk,hV0]⟩ ?_;refine pb (.map (some g)) (λv hv=>hv.1.ai (hV.ai U) (show b7≠g from Y)) ?_;refine bC ?_;refine pb (aB (some (ad bf fI)) n2 c2) (λv hv=>hv.1.ai (hW.ai U) (show b2≠g from Y)) ?_;refine bC ?_;refine pb (iv x.index) (λv hv=>hv.1.ai (B9.ai U) (show b9≠g from Y)) ?_;refine idx x.index.toNat Y Y ?_;refine bC ?_;refine pb (iv y.aZ) (λv hv=>hv.1.ai (av 1 _ U) (show bf≠g from Y)) ?_;refine bC ?_;refine pb (iv x.aH) (λv hv=>hv.1.ai (B9.ai U) (show b9≠g from Y)) ?_;refine hY [iv y.aZ,iv x.aH] Z ?_;refine dh (kv:=dE) (y.aZ,x.aH) (iv V0) (λv hv=>hv.2) ?_;refine bC ?_;refine pb (iv x.aC) (λv hv=>hv.1.ai (B9.ai U) (show b9≠g from Y)) ?_;refine eD (n:=V0+x.aC) Y ?_;refine rU (kv:=dE) (y.aZ,x.aH) fU λu7 s7 MS k7 j3=>?_;refine bN ⟨k7,_,MS.g.g,?_⟩ ?_
   .exact YQ
   refine gv (λ_=>True) Yt ?_;refine wj (v:=iv (V0+x.aC)) MS λu8 M8 k8 zs8=>?_;refine bN Yt ?_;refine eD (n:=(k:Int)+1) Y ?_;refine next (k+1) ⟨Yn,Yt⟩ ⟨Y,((ku.trans (ax.any ak)).trans k7).trans k8,λz hz=>?_,_,M8,λq=>?_⟩ Y
   .rw[htk] at hz;rcases atf.1 hz with hz|hz
    .exact bq z hz
    .rw[asP.1 hz];exact ho
   .rw[htk,Fg,<-hF,gr];unfold dZ jM;exact Yj
 .obtain rfl:k=n:=Y;rw[asx Y] at bq Mu;have hall:out.all (·.bP)=true:=asH.2 bq;have eg:Ja d out=match gO d out with
   |none=>(false,(0:Int))
   |some s=>if 4096<s.2.length then(false,2) else(true,0):=by rw[eh,aso (by rw[hall];simp)]
  refine aJ (SK (aqT (h.ae br)) Y) ?_;rintro _ u1 ⟨A9,c9,rfl,o9⟩;have y1:=o9.ae.size;have o9lt:∀g',A9=aL g'->u.heap.size<=g'/\g'<u1.heap.size:=λg' hg'=>by
   rcases o9.form with⟨e,-⟩|⟨g2,e,q1,q2,-⟩
   .rw[e] at hg';cases hg'
   .rw[e] at hg';injection hg' with hg';injection hg' with hg';omega
  have lg:=Mu.lt;have l7:=C7.lt;have M1:=Mu.ah o9.ae Yt;refine st1 (C4.ae o9.ae) U λu2 D4 k2=>?_;have y2:=k2.size;have bE:aj (λb=>b≠b4) u u2:=(ax.any o9.ae).trans k2;have cS:ax w u2:=br.ag bE λb hb _=>Y;have D2:aP u2 b2 31 [.string d.name,iv d.aG,iv d.cap,iv d.bH,aB A1 n1 c1,aB A2 n2 c2,aB A3 n3 c3,aB A4 n4 c4,aB A5 n5 c5,aB A6 n6 c6]:=C2.ah bE Y;have D5:=C5.ah bE Y;have D6:=C6.ah bE Y;have D7:=C7.ah bE Y;have M2:=M1.ah k2 Y;have gn:bu w u2 A9 k c9 114 4 (out.flatMap Od.c):=(o9.base br).bY k2 (λg' hg'=>by have:=o9lt g' hg';omega) cS;refine fj [.string d.name,iv d.aG,iv d.cap,iv d.bH,aB A1 n1 c1,aB A2 n2 c2,aB A3 n3 c3,aB A4 n4 c4,aB A5 n5 c5,aB A6 n6 c6] (.aS D2) U ?_;refine aJ (acy (hd0.ae cS)) ?_;rintro _ u3 ⟨b1,rfl,x3,D1,kr⟩;have y3:=x3.size;have ld1:=D1.lt;have gb:=cS.trans x3;refine range (gf:=176) (lb:=#[ptr b1]) U λfn tmps v6 RL hRL hF gw x6 z6 ct hl6=>?_;show aK _ _ #[.func (.yield (u3.heap.size+1)) #[] #[],ptr b1] v6 _;have cL:=gb.trans x6;have bp:=x3.trans x6;have E2:=D2.ae bp;have E4:=D4.ae bp;have E5:=D5.ae bp;have E6:=D6.ae bp;have E7:=D7.ae bp;refine(Wl (D:=λb=>b=b1\/b<w.heap.size) (D':=λb=>b<w.heap.size) (λm hr z=>aj (λx=>x<v6.heap.size/\x≠b4/\x≠g/\x≠u3.heap.size+1/\A9≠aL x) v6 z/\dc z (u3.heap.size+1) RL/\∃s A c,Fe d m hr s=gO d out/\DY d out.length m hr s/\pH z g s.1/\aP z b4 46 [aB A s.2.length c]/\bu w z A s.2.length c 114 4 (s.2.flatMap Od.c)/\(∀g',A=aL g'->A9=aL g'\/v6.heap.size<=g')) (λz=>gO d out=none/\∃r,dc z (u3.heap.size+1) r/\r.state≠.busy/\r.pending=some .ret/\aP z b4 46 [aY]/\aP z b5 4 [.bool false]/\aP z b6 51 [iv 0]/\aj (λx=>x<v6.heap.size/\x≠b4/\x≠b5/\x≠b6/\x≠g/\x≠u3.heap.size+1/\A9≠aL x) v6 z) (λm z ⟨k1,l1,s,As,cs,h1,h2,h3,h4,h5,h6⟩=>⟨k1,l1,s,As,cs,by rw[qD,<-Ff];exact h1,h2.next,h3,h4,h5,h6⟩) ?_ (.inl U) (D1.ae x6) (hd0.ae cL) ⟨Y,Y⟩ ⟨.refl _ _,hl6,(kR d out λ_=>0,out),A9,c9,by rw[qD];rfl,DY.bH hO bq,M2.ah bp Yt,by show aP v6 b4 _ [aB A9 out.length c9];rw[hl];exact E4,by show bu w v6 A9 out.length c9 _ 4 _;rw[hl];exact gn.ag bp,λg' hg'=>.inl hg'⟩).mono ?_
  .rintro m hr z hm hh2 ⟨k1,l1,s,As,cs,hct,hP,hM,q4,o5,nn5⟩;subst hRL;have lf:∀b,b<v6.heap.size->A9≠aL b->As≠aL b:=λb hb h1 e=>by
    rcases nn5 b e with e2|e2
    .exact h1 e2
    .omega
   have O:∀b,b<u.heap.size\/u1.heap.size<=b->A9≠aL b:=λb hb e=>by have:=o9lt _ e;omega
   refine dQ (args:=[iv (m:Int),iv (hr:Int)]) l1 U rfl hF gw ?_;refine tN l1 λz4 b0 j5 lz=>?_;have eb:=k1.size;have y6:=x6.size;have k64:aj (λx=>x<v6.heap.size/\x≠b4/\x≠b5/\x≠b6/\x≠g/\x≠u3.heap.size+1/\A9≠aL x) v6 z4:=(k1.cU λb _ hh=>⟨hh.1,hh.2.1,hh.2.2.2.2.1,hh.2.2.2.2.2.1,hh.2.2.2.2.2.2⟩).ag b0 λb hb hh=>hh.2.2.2.2.2.1;have k14:aj (λx=>x<v6.heap.size/\x≠b4/\x≠g/\x≠u3.heap.size+1/\A9≠aL x) v6 z4:=k1.ag b0 λb hb hh=>hh.2.2.2.1;have q4:=q4.ah b0 Y;have q2:aP z4 b2 31 [.string d.name,iv d.aG,iv d.cap,iv d.bH,aB A1 n1 c1,aB A2 n2 c2,aB A3 n3 c3,aB A4 n4 c4,aB A5 n5 c5,aB A6 n6 c6]:=E2.ah k14 ⟨Y,Y,Y,Y,O _ Y⟩;have q5:=E5.ah k14 ⟨Y,Y,Y,Y,O _ Y⟩;have q6:=E6.ah k14 ⟨Y,Y,Y,Y,O _ Y⟩;have q7:=E7.ah k14 ⟨Y,Y,Y,Y,O _ Y⟩;have hM:=hM.ah b0 Y;have cK:ax w z4:=o5.ae.ag b0 λb hb _=>Y;have o5:=o5.bY b0 (λg' hg'=>by
    rcases nn5 g' hg' with e2|e2
    .have:=o9lt _ e2;omega
    .omega) cK
   obtain⟨fk,Mk,hfk⟩:=hM;obtain⟨N0,dx⟩:∃N0,N0=s.1 ((m:Int),(hr:Int)):=⟨_,U⟩;have dp:=hP.MY ((m:Int),(hr:Int));rw[<-dx] at dp;have df:s.2.length<=5200:=by
    have h1:=hP.an;have h2:((d.aD.length*d.aG.toNat:Nat):Int)<=1024:=by rw[at4,show((d.aG.toNat:Nat):Int)=d.aG from Y];exact et
    have h3:hr<=d.aG.toNat:=Y;have h4:d.aG.toNat<=(m+1)*d.aG.toNat:=Nat.le_mul_of_pos_left _ Y;omega
   have a6:kX d m hr s=if N0=0 then some s else match dD (dB d m) N0 with
    |none=>none
    |some v=>if(hr:Int)<(dB d m).bD then none else some (jM s.1 ((dB d m).up,(hr:Int)-(dB d m).bD) v,s.2++[⟨(hr:Int)-(dB d m).bD,(m:Int),v,false⟩]):=by rw[dx];rfl
   refine ld (.map (some g)) (q7.ai U) ?_;refine hY [iv (m:Int),iv (hr:Int)] Z ?_;refine dh (kv:=dE) ((m:Int),(hr:Int)) (iv N0) (λv hv=>by subst hv;exact⟨fk,Mk.g,by rw[hfk,dx]⟩) ?_;refine cD (λq0=>?_) λq0=>?_
   .rw[asp q0] at a6;refine eQ _ lz λz8 kz8 lz8=>?_;have ka:aj (λx=>x≠u3.heap.size+1) z z8:=b0.trans kz8;have xz8:ax w z8:=cK.ag kz8 λb hb _=>Y;refine .inl ⟨U,⟨k14.ag kz8 λb _ hh=>hh.2.2.2.1,lz8,s,As,cs,?_,hP.step (by rw[jm (asw hm)];exact cp _ (au0 hm)) a6,⟨fk,Mk.ah kz8 Y,hfk⟩,q4.ah kz8 Y,o5.bY kz8 (λg' hg'=>by
     rcases nn5 g' hg' with e2|e2
     .have:=o9lt _ e2;omega
     .omega) xz8,nn5⟩,ka.cU λb hb hh=>?_⟩
    .rw[<-hct,qF hh2,a6]
    .rcases hh with rfl|hh<;>omega
   rw[aso q0] at a6;obtain⟨bb,oo,l4,y,hQ,hy,-,-,av,rfl⟩:=eS.au (show m<n1 from Y);have hC:=iS (av 1 _ U);have av:=av.ah cK Yt;subst hQ;have eL:dB d m=y:=jm hy;have hok:gQ y=true:=cp y (asq hy);rw[eL] at a6;refine bC ?_;refine ld (aB (some (ad bb oo)) n1 c1) (q2.ai U) ?_;refine idx m U Y ?_;refine fj y.c av U ?_;refine alloc λdO z5 ck=>?_;refine jR (vs:=y.c) ck.aS U Yl Ys λaa a8 a7 j4=>?_;have a8:aP aa dO 99 y.c:=a8;have l3:=ck.au;have t13:=ck.size;have x46:ax z4 aa:=ck.ae.ag a7 λb hb _ e=>Y;refine fj y.c (.aS a8) U ?_;refine aJ (Lj (r:=y) (t:=N0) hok dp.1) ?_;rintro _ z5 ⟨rfl,ec⟩;have af:=x46.trans ec;have a8:=a8.ae ec;have q4:=q4.ae af;have q5:=q5.ae af;have q6:=q6.ae af;have q7:=q7.ae af;have lz:=lz.ah af Yt;have Mk:=Mk.ah af Yt;have k64:=k64.ae af;have k14:=k14.ae af;have o5:=o5.ag af;cases hn:dD y N0 with
   |none=>
    have hstn:kX d m hr s=none:=by rw[a6,hn]
    exact an4
   |some v=>
    rw[hn] at a6;have a6:kX d m hr s=if(hr:Int)<y.bD then none else some (jM s.1 (y.up,(hr:Int)-y.bD) v,s.2++[⟨(hr:Int)-y.bD,(m:Int),v,false⟩]):=a6
    have kW:=CT hok dp.1 hn;have hdl:=(ht.dl m y hy);refine bC ?_;refine ld (iv y.bD) (a8.ai U) ?_;refine cD (λq1=>?_) λq1=>?_
    .have hstn:kX d m hr s=none:=by rw[a6,asp q1]
     exact an4
    rw[aso q1] at a6;refine ld (aB As s.2.length cs) (q4.ai U) ?_;refine bC ?_;refine ld (iv y.bD) (a8.ai U) ?_;refine eD (n:=(hr:Int)-y.bD) Y ?_;refine hY (Od.c ⟨(hr:Int)-y.bD,(m:Int),v,false⟩) Z ?_;refine lit [.agg (Od.c ⟨(hr:Int)-y.bD,(m:Int),v,false⟩).toArray] λgg z6 hq=>?_;refine iI (o5.ag hq.ae) (hq.src (sz:=4) U) Y λbw cs' z7 o7 k7 hN=>?_;have kn:=q4.lt;have j1:=k64.size;have cg:∀b,b<v6.heap.size->A9≠aL b->As≠aL b:=λb hb h1 e=>by
     rcases nn5 b e with e2|e2
     .exact h1 e2
     .omega
    have gm:=(q4.ae hq.ae).ah k7 (cg _ Y (O _ Y));refine st1 gm U λz8 q4 k8=>?_;have bt:aj (λx=>x≠b4/\As≠aL x) z5 z8:=((ax.any hq.ae).ag k7 λb _ hh=>hh.2).ag k8 λb _ hh=>hh.1;have fW:=hq.ae.size;have db:∀g',bw=aL g'->A9=aL g'\/v6.heap.size<=g':=λg' hg'=>by
     rcases hN with r|r|r
     .exact nn5 g' (r▸hg')
     .rw[r] at hg';cases hg'
     .rw[r] at hg';injection hg' with hg';injection hg' with hg';exact .inr Y
    have fs:∀b,b<v6.heap.size->A9≠aL b->bw≠aL b:=λb hb h1 e=>by
     rcases db b e with e2|e2
     .exact h1 e2
     .omega
    have o8:=o7.bY k8 (λg' hg' e=>fs b4 Y (O _ Y) (by rw[hg',e])) (o7.ae.ag k8 λb hb _=>Y);have ei:∀b,b<v6.heap.size->(b<u.heap.size\/u1.heap.size<=b)->As≠aL b:=λb hb h1=>cg b hb (O b h1);have q7:=q7.ah bt ⟨Y,ei _ Y Y⟩;have a8:=a8.ah bt ⟨Y,λe=>by obtain⟨xs,hb⟩:=o5.PB.cells e;have:=(a8.uniq hb).1;revert this;decide⟩
    have Mk:=Mk.ah bt ⟨Y,ei _ Y Y⟩;obtain⟨V0,hV0⟩:∃V0,V0=s.1 (y.up,(hr:Int)-y.bD):=⟨_,U⟩;have hI:=hP.MY (y.up,(hr:Int)-y.bD);rw[<-hV0] at hI;refine bR (oP [11,13] [13] [0,1,2,3,4,5,6,7,8,9,10,11,12,13]) [13] (λv=>aj (λb=>b≠g) z8 v/\∃f',dw dE v g f'/\(f' (y.up,(hr:Int)-y.bD)).getD (iv 0)=iv V0) mx Z ⟨.refl _ _,_,Mk.g,by rw[hfk,hV0]⟩ ?_;refine pb (.map (some g)) (λv hv=>hv.1.ai (q7.ai U) (show b7≠g from Y)) ?_;refine bC ?_;refine pb (iv y.up) (λv hv=>hv.1.ai (a8.ai U) (show dO≠g from Y)) ?_;refine bC ?_;refine pb (iv y.bD) (λv hv=>hv.1.ai (a8.ai U) (show dO≠g from Y)) ?_;refine eD (n:=(hr:Int)-y.bD) Y ?_;refine hY [iv y.up,iv ((hr:Int)-y.bD)] Z ?_;refine dh (kv:=dE) (y.up,(hr:Int)-y.bD) (iv V0) (λv hv=>hv.2) ?_;refine eD (n:=V0+v) Y ?_;refine rU (kv:=dE) (y.up,(hr:Int)-y.bD) Mk λz9 s9 MS k9 j2=>?_;refine bN ⟨k9,_,MS.g.g,?_⟩ ?_
    .unfold dZ;rw[asp U];show(fk (y.up,(hr:Int)-y.bD)).getD (iv 0)=iv V0;rw[hfk,hV0]
    refine gv (λ_=>True) Yt ?_;refine wj (v:=iv (V0+v)) MS λga hT J hZ=>?_;refine bN Yt ?_;have be:aj (λb=>b≠g) z8 ga:=k9.trans J;have ib:=bt.size;have en:=((lz.ah bt ⟨Y,λe=>by
     rcases nn5 _ e with e2|e2
     .have:=o9lt _ e2;omega
     .omega⟩).ah be Y)
    refine eQ _ en λc8 bG gq=>?_;have q4:=(q4.ah be Y).ah bG Y;have eo:aj (λx=>x≠b4/\x≠g/\x≠u3.heap.size+1/\As≠aL x) z5 c8:=(bt.cU λb _ hh=>⟨hh.1,hh.2.2.2⟩).ag be (λb _ hh=>hh.2.1) |>.then bG λb _ hh=>hh.2.2.1;have cw:∀g',bw=aL g'->g'≠g/\g'≠u3.heap.size+1:=λg' hg'=>by
     rcases db g' hg' with e2|e2
     .have:=o9lt _ e2;omega
     .omega
    have ej:=o8.bY be (λg' hg'=>(cw g' hg').1) (o8.ae.ag be λb hb _=>Y);have gp:=ej.bY bG (λg' hg'=>(cw g' hg').2) (ej.ae.ag bG λb hb _=>Y);have kz5:aj (λx=>x≠u3.heap.size+1) z z5:=b0.ag af λ_ _ _=>Yt;have kf:aj (λx=>x<v6.heap.size/\x≠b4/\x≠g/\x≠u3.heap.size+1/\A9≠aL x) z c8:=(kz5.cU λb _ hh=>hh.2.2.2.1).ag eo λb hb hh=>⟨hh.2.1,hh.2.2.1,hh.2.2.2.1,cg b hh.1 hh.2.2.2.2⟩;have hs2:s.2.length+1=(s.2++[(⟨(hr:Int)-y.bD,(m:Int),v,false⟩:Od)]).length:=by rw[asu];rfl
    refine .inl ⟨U,⟨k14.ag eo λb hb hh=>⟨hh.2.1,hh.2.2.1,hh.2.2.2.1,cg b hb hh.2.2.2.2⟩,gq,(jM s.1 (y.up,(hr:Int)-y.bD) v,s.2++[⟨(hr:Int)-y.bD,(m:Int),v,false⟩]),bw,cs',?_,hP.step (by rw[eL];exact hok) a6,⟨_,hT.ah bG Y,λq=>?_⟩,?_,?_,db⟩,kf.cU λb hb hh=>?_⟩
    .rw[<-hct,qF hh2,a6]
    .unfold dZ;show _=iv (jM s.1 _ v q);unfold jM;by_cases e:q=(y.up,(hr:Int)-y.bD)
     .rw[asp e,asp e,e,<-hV0];rfl
     .rw[aso e,aso e,aso e];exact hfk q
    .show aP c8 b4 _ [aB bw (s.2++_).length cs'];rw[<-hs2];exact q4
    .show bu w c8 bw (s.2++_).length cs' _ 4 ((s.2++_).flatMap Od.c);rw[<-hs2,as7];exact gp
    .rcases hh with rfl|hh
     .exact⟨Y,Y,Y,Y,O _ Y⟩
     .exact⟨Y,Y,Y,Y,O _ Y⟩
  .rintro _ z (⟨k1,l1,s,As,cs,hct,hP,-,q4,o5,nn5⟩|⟨hno,r,lz,hr1,hr2,q4,q5,q6,k1⟩)
   .subst hRL;have hpl:gO d out=some s:=hct.symm;have O:∀b,b<u.heap.size\/u1.heap.size<=b->A9≠aL b:=λb hb e=>by have:=o9lt _ e;omega
    have bT:∀g',As=aL g'->g'≠u3.heap.size+1/\g'≠u3.heap.size/\g'≠b4/\g'≠b5/\g'≠b6:=λg' hg'=>by
     have y6:=x6.size;rcases nn5 g' hg' with e2|e2
     .have:=o9lt _ e2;omega
     .omega
    refine dL _ l1 (by simp) λz4 k4=>?_;have y6:=x6.size;have eb:=k1.size;have k64:aj (λx=>x<v6.heap.size/\x≠b4/\x≠g/\x≠u3.heap.size+1/\A9≠aL x) v6 z4:=k1.ag k4 λb hb hh=>hh.2.2.2.1;have q4:=q4.ah k4 Y;have q5:=E5.ah k64 ⟨Y,Y,Y,Y,O _ Y⟩;have q6:=E6.ah k64 ⟨Y,Y,Y,Y,O _ Y⟩;have cb:z4.heap[u3.heap.size]? =some (.deferred (some [])):=(k64.aS _ Y ⟨Y,Y,Y,Y,O _ Y⟩).trans ct;have ef:ax w z4:=o5.ae.ag k4 λb hb _=>Y;have o5:=o5.bY k4 (λg' hg'=>(bT g' hg').1) ef;have df:s.2.length<=5200:=by
     have h1:=hP.an;have h2:((d.aD.length*d.aG.toNat:Nat):Int)<=1024:=by rw[at4,show((d.aG.toNat:Nat):Int)=d.aG from Y];exact et
     omega
    have aq:Ja d out=if 4096<s.2.length then(false,(2:Int)) else(true,0):=by rw[eg,hpl]
    have j8:=k64.size;refine ld (aB As s.2.length cs) (q4.ai U) ?_;refine an ?_;refine cD (λp1=>?_) λp1=>?_
    .rw[asp Y] at aq;refine st1 q4 U λz5 q4 k5=>?_;refine st1 (q5.ah k5 Y) U λaa q5 a7=>?_;refine st1 ((q6.ah k5 Y).ah a7 Y) U λcI q6 k7=>?_;have kk:aj (λb=>b≠b4/\b≠b5/\b≠b6) z4 cI:=((k5.cU λb _ hh=>hh.1).ag a7 λb _ hh=>hh.2.1).ag k7 λb _ hh=>hh.2.2;have bI:cI.heap[u3.heap.size]? =some (.deferred (some [])):=(kk.aS _ Y ⟨Y,Y,Y⟩).trans cb;refine oN bI ?_;have k8:=aj.putObj cI u3.heap.size (.deferred none);refine da _ (bj ((((q4.ah a7 Y).ah k7 Y).ah k8 Y).ai U)) ?_;refine da _ (bj (((q5.ah k7 Y).ah k8 Y).ai U)) ?_;refine da _ (bj ((q6.ah k8 Y).ai U)) ?_;exact⟨(ef.ag kk λb hb _=>⟨Y,Y,Y⟩).ag k8 λb hb _=>Y,none,0,0,by rw[aq];rfl,λhh=>by rw[aq] at hh;cases hh⟩
    .rw[aso Y] at aq;refine bR (oP [1,2] [2] [0,1,2]) [2] (λv=>ax z4 v) mx Z (.refl _ _) ?_;refine fu (aB As s.2.length cs) (q4.ai U) Yt (.refl _ _) ?_;refine aJ MX ?_;rintro _ z5 ⟨bk,gk,tk,rfl,bo,hbk,h9,kl,kc⟩;refine bN bo ?_;refine gv (λ_=>True) Yt ?_;have cr:∀g',As=aL g'->g'<z4.heap.size:=λg' hg'=>by
      rcases o5.form with⟨e,-⟩|⟨g2,e,-,q2,-⟩
      .rw[e] at hg';cases hg'
      .rw[e] at hg';injection hg' with hg';injection hg' with hg';omega
     have o5:=o5.ag bo;have q4:=q4.ae bo;have q5:=q5.ae bo;have q6:=q6.ae bo;have fh:z5.heap[u3.heap.size]? =some (.deferred (some [])):=(bo.aS _ Y Yt).trans cb;have fW:=bo.size;rcases o5.form with⟨dy,eT,hc0⟩|⟨g',dy,hg0,hgl,hnc⟩
     .have gF:s.2=[]:=asL eT;subst dy;subst hc0;rw[eT] at q4|-;refine aJ R8 ?_;rintro _ aa ⟨rfl,rfl⟩;have o6:bu w aa none 0 0 114 4 ((il qu s.2).flatMap Od.c):=by rw[gF];exact bu.nil o5.ae
      have hD6:=fh;have ay:∀g',(none:bZ)=aL g'->g'≠b4/\g'≠b5/\g'≠b6/\g'≠u3.heap.size:=λg' hg'=>by cases hg'
      refine bN Yt ?_;refine ld (aB (none) (0) (0)) (q4.ai U) ?_;refine st1 q4 U λz7 q4 k7=>?_;refine st1 (q5.ah k7 Y) U λz8 q5 k8=>?_;refine st1 ((q6.ah k7 Y).ah k8 Y) U λz9 q6 k9=>?_;have kk:aj (λb=>b≠b4/\b≠b5/\b≠b6) aa z9:=((k7.cU λb _ hh=>hh.1).ag k8 λb _ hh=>hh.2.1).ag k9 λb _ hh=>hh.2.2;have bI:z9.heap[u3.heap.size]? =some (.deferred (some [])):=(kk.aS _ Y ⟨Y,Y,Y⟩).trans hD6;have x9:ax w z9:=o6.ae.ag kk λb hb _=>⟨Y,Y,Y⟩;have o9':=o6.bY kk (λg' hg'=>⟨(ay g' hg').1,(ay g' hg').2.1,(ay g' hg').2.2.1⟩) x9;refine oN bI ?_;have J:=aj.putObj z9 u3.heap.size (.deferred none);have bA:ax w (z9.putObj u3.heap.size (.deferred none)):=x9.ag J λb hb _=>Y;refine da _ (bj ((((q4.ah k8 Y).ah k9 Y).ah J Y).ai U)) ?_;refine da _ (bj (((q5.ah k9 Y).ah J Y).ai U)) ?_;refine da _ (bj ((q6.ah J Y).ai U)) ?_;exact⟨bA,none,0,0,by rw[aq];rfl,λ_=>⟨s,hpl,hP.EJ,o9'.bY J (λg' hg'=>(ay g' hg').2.2.2) bA⟩⟩
     .subst dy;obtain⟨rest,fe,hbl,-⟩:=o5.own.aS;have bT:=bT g' U;refine aJ (Si (s:=s.2) (g:=g') ⟨gk,hbk,h9,by have:=cr g' U;omega,by have:=cr g' U;omega⟩ fe U Y hP.EJ) ?_;rintro _ aa ⟨rfl,hG,a7⟩;have ew:(il qu s.2).length=s.2.length:=(cP _).length_eq;have o6:bu w aa (aL g') s.2.length cs 114 4 ((il qu s.2).flatMap Od.c):=⟨jH.iH hG (by rw[bz (K:=4) λ_=>rfl,ew]) (by rw[asu,bz (K:=4) λ_=>rfl] at hbl|-;rw[ew];exact hbl) hnc o5.own.cap,o5.ae.ag a7 λb hb _ e=>Y,o5.new⟩
      have q4:=q4.ah a7 Y;have q5:=q5.ah a7 Y;have q6:=q6.ah a7 Y;have hD6:aa.heap[u3.heap.size]? =some (.deferred (some [])):=(a7.aS _ Y Y).trans fh;have ay:∀g2,(aL g':bZ)=aL g2->g2≠b4/\g2≠b5/\g2≠b6/\g2≠u3.heap.size:=λg2 hg'=>by injection hg' with hg';injection hg' with hg';omega
      have j0:=a7.size;refine bN Yt ?_;refine ld (aB (aL g') (s.2.length) (cs)) (q4.ai U) ?_;refine st1 q4 U λz7 q4 k7=>?_;refine st1 (q5.ah k7 Y) U λz8 q5 k8=>?_;refine st1 ((q6.ah k7 Y).ah k8 Y) U λz9 q6 k9=>?_;have kk:aj (λb=>b≠b4/\b≠b5/\b≠b6) aa z9:=((k7.cU λb _ hh=>hh.1).ag k8 λb _ hh=>hh.2.1).ag k9 λb _ hh=>hh.2.2;have bI:z9.heap[u3.heap.size]? =some (.deferred (some [])):=(kk.aS _ Y ⟨Y,Y,Y⟩).trans hD6;have x9:ax w z9:=o6.ae.ag kk λb hb _=>⟨Y,Y,Y⟩;have o9':=o6.bY kk (λg' hg'=>⟨(ay g' hg').1,(ay g' hg').2.1,(ay g' hg').2.2.1⟩) x9;refine oN bI ?_;have J:=aj.putObj z9 u3.heap.size (.deferred none);have bA:ax w (z9.putObj u3.heap.size (.deferred none)):=x9.ag J λb hb _=>Y;refine da _ (bj ((((q4.ah k8 Y).ah k9 Y).ah J Y).ai U)) ?_;refine da _ (bj (((q5.ah k9 Y).ah J Y).ai U)) ?_;refine da _ (bj ((q6.ah J Y).ai U)) ?_;exact⟨bA,aL g',s.2.length,cs,by rw[aq];rfl,λ_=>⟨s,hpl,hP.EJ,o9'.bY J (λg' hg'=>(ay g' hg').2.2.2) bA⟩⟩
   .have aq:Ja d out=(false,(0:Int)):=by rw[eg,hno]
    have O:∀b,b<u.heap.size\/u1.heap.size<=b->A9≠aL b:=λb hb e=>by have:=o9lt _ e;omega
    have y6:=x6.size;have eb:=k1.size;refine dL r lz hr1 λz4 k4=>?_;rw[hr2];have k64:aj (λx=>x<v6.heap.size/\x≠b4/\x≠b5/\x≠b6/\x≠g/\x≠u3.heap.size+1/\A9≠aL x) v6 z4:=k1.ag k4 λb _ hh=>hh.2.2.2.2.2.1;have cb:z4.heap[u3.heap.size]? =some (.deferred (some [])):=(k64.aS _ Y ⟨Y,Y,Y,Y,Y,Y,O _ Y⟩).trans ct;refine oN cb ?_;have J:=aj.putObj z4 u3.heap.size (.deferred none);have jo:=q4.lt;refine da _ (bj (((q4.ah k4 Y).ah J Y).ai U)) ?_;refine da _ (bj (((q5.ah k4 Y).ah J Y).ai U)) ?_;refine da _ (bj (((q6.ah k4 Y).ah J Y).ai U)) ?_;have gi:ax w z4:=cL.ag k64 λb hb _=>⟨by have:=cL.size;omega,Y,Y,Y,Y,Y,O _ Y⟩;exact⟨gi.ag J λb hb _=>Y,none,0,0,by rw[aq];rfl,λhh=>by rw[aq] at hh;cases hh⟩
end
theorem ang:∃f0 f1,Ig prog 455 3 f0 f1:=⟨_,_,⟨Tryz.underlying455,rfl,rfl,rfl,rfl,by decide,by decide,by kernel_rfl,λ_ _ _ _=>by kernel_rfl⟩⟩
instance aqU:rD prog 455 dE:=by
 obtain⟨_,_,h⟩:=ang;exact h.law
def gJ(kf:Cm->Int×Int):List Cm->Int×Int->Option Int
 |[],_=>none
 |c::l,q=>if q=kf c then some (c.aC+(gJ kf l q).getD 0) else gJ kf l q
section
variable {kf:Cm->Int×Int}
theorem yA{x:Cm}{q:Int×Int}:∀{l:List Cm},gJ kf (l++[x]) q=if q=kf x then some ((gJ kf l q).getD 0+x.aC) else gJ kf l q
 |[]=>by
  show(if q=kf x then some (x.aC+0) else none)=if q=kf x then some (0+x.aC) else none
  split<;>simp
 |c::l=>by
  rw[atC,gJ,gJ,yA]
  by_cases e:q=kf c
  .rw[asp e,asp e]
   by_cases u:q=kf x
   .rw[asp u,asp u];simp only[auE];congr 1;omega
   .rw[aso u,aso u]
  .rw[aso e,aso e]
theorem GY{q:Int×Int}:∀{l:List Cm},(∀c∈l,1<=c.aC/\c.aC<=1073741824)->0<=(gJ kf l q).getD 0/\(gJ kf l q).getD 0<=l.length*1073741824
 |[],_=>⟨asO _,by show(0:Int)<=_;simp⟩
 |c::l,h=>by
  have z:=GY (q:=q) (l:=l) λy u=>h y (ast _ u)
  have J:=h c ass
  rw[gJ,as2]
  split
  .simp only[auE];omega
  .omega
theorem yB{q:Int×Int}{n:Int}:∀{l:List Cm},(∀c∈l,1<=c.aC/\c.aC<=1073741824)->gJ kf l q=some n->1<=n/\∃c∈l,q=kf c
 |[],_,h=>by cases h
 |c::l,z,h=>by
  rw[gJ] at h
  have J:=GY (kf:=kf) (q:=q) (l:=l) λy u=>z y (ast _ u)
  have M:=z c ass
  split at h
  .rename_i e
   injection h with h
   exact⟨by omega,c,ass,e⟩
  .obtain⟨h1,y,u,e⟩:=yB (l:=l) (λy u=>z y (ast _ u)) h
   exact⟨h1,y,ast _ u,e⟩
end
structure OI (key:Od->Int×Int) (L:List MapEntry) (seen:List Nat) (os:List Od):Prop where
 nd:(os.map key).Nodup
 mem:∀o,o∈os↔∃e∈L,e.born∈seen/\e.key=dE (key o)/\e.val=iv o.aC/\o.bP=true
theorem OI.nil{key:Od->Int×Int}{L:List MapEntry}:OI key L [] []:=⟨av4,λ_=>⟨λq=>(by cases q),λ⟨_,_,q,_⟩=>(by cases q)⟩⟩
theorem OI.yes{key:Od->Int×Int}(hkey:∀a b:Od,key a=key b->a.aH=b.aH/\a.index=b.index){L:List MapEntry}{seen:List Nat}(H:OI key L seen os)(hU:(L.map (·.key)).Nodup){V:Nat}(hB:mN L V){e:MapEntry}(he:e∈L)(hn:e.born∉seen){o:Od}(hk:e.key=dE (key o))(hv:e.val=iv o.aC)(ho:o.bP=true):OI key L (seen++[e.born]) (os++[o]):=by
 refine⟨?_,λh=>?_⟩
 .exact aoj
 .rw[atf,asP,H.mem];constructor
  .rintro(⟨e',he',hb',r⟩|rfl)
   .exact Ue
   .exact⟨e,he,atV _ ass,hk,hv,ho⟩
  .rintro⟨e',he',hb',hk',J,O⟩;rcases atf.1 hb' with hb'|hb'
   .exact .inl ⟨e',he',hb',hk',J,O⟩
   .rw[asP] at hb';have e0:=yq hB he he' hb';subst e0;right;obtain⟨h1,h2⟩:=hkey _ _ (GQ (hk'.symm.trans hk));rw[hv] at J;injection J with _ J;obtain⟨a,b,l,r⟩:=h;obtain⟨a',b',l',r'⟩:=o;simp only at h1 h2 J ho O;rw[h1,h2,J,ho,O]
theorem OI.an{key:Od->Int×Int}{kf:Cm->Int×Int}{L:List MapEntry}{seen:List Nat}{os:List Od}(H:OI key L seen os){l:List Cm}(W:(L.map (·.key)).Nodup)(O:∀a,gN (dE a) L=(gJ kf l a).map iv)(M:∀c∈l,1<=c.aC/\c.aC<=1073741824):os.length<=l.length:=by
 have h:=wm (b:=l.map kf) H.nd λq z=>by
  obtain⟨o,J,rfl⟩:=asS.1 z;obtain⟨e,he,-,hk,Y,-⟩:=(H.mem o).1 J;have h1:=nI W he;rw[hk,O] at h1;cases u:gJ kf l (key o) with
  |none=>rw[u] at h1;cases h1
  |some n=>
   obtain⟨-,c,V,X⟩:=yB M u;exact asS.2 ⟨c,V,X.symm⟩
 rw[asz,asz] at h;exact h
theorem pI{l:List Cm}:mH CF (eE d l):=by
 have h:=Iv (d:=d) (T:=cj l);refine List.Pairwise.imp_of_mem ?_ h;intro a b M J q;obtain⟨h1,O,-,-,-,rfl⟩:=kD.1 M;obtain⟨V,i2,-,-,-,rfl⟩:=kD.1 J;unfold qu at q;rw[asy] at q|-;simp only at q|-;rcases q with q|⟨z,u⟩
 .exact .inl q
 .rcases u with u|u
  .cases u.1
  .exact .inr ⟨z,u.2⟩
theorem OI.end_{key:Od->Int×Int}{kf:Cm->Int×Int}(_hkey:∀a b:Od,key a=key b->a.aH=b.aH/\a.index=b.index){d:aU}{L:List MapEntry}{seen:List Nat}{os:List Od}{l:List Cm}(H:OI key L seen os)(hU:(L.map (·.key)).Nodup)(hf:∀a,gN (dE a) L=(gJ kf l a).map iv)(M:∀e∈L,e.born∈seen)(X:uT d l)(hl:∀c∈l,1<=c.aC/\c.aC<=1073741824)(hs:∀o:Od,0<=o.index->cj l o.index.toNat o.aH=(gJ kf l (key o)).getD 0)(W:∀(o:Od) (c:Cm),key o=kf c->o.aH=c.aH/\o.index=c.aO):(eE d l).Perm os:=by
 have V:(eE d l).Nodup:=atw.2 (pI.imp λ{a b} h e=>by rw[e,CG.irr] at h;cases h);have J:os.Nodup:=atw.2 ((atN.1 (atw.1 H.nd)).imp λ{a b} h e=>h (by rw[e]));refine(List.perm_ext_iff_of_nodup V J).2 λo=>?_;show o∈Io d (cj l)↔_;rw[kD,H.mem];constructor
 .rintro⟨h,i,hh,hi,Z,rfl⟩;have h1:=hs ⟨h,i,cj l i h,true⟩ (by show 0<=(i:Int);omega);have h1:cj l i h=(gJ kf l (key ⟨h,i,cj l i h,true⟩)).getD 0:=h1;have h2:=hf (key ⟨h,i,cj l i h,true⟩);cases u:gJ kf l (key ⟨h,i,cj l i h,true⟩) with
  |none=>rw[u] at h1;exact absurd h1 Z
  |some n=>
   rw[u] at h1 h2;obtain⟨e,he,hk,O⟩:=BW h2;exact⟨e,he,M e he,hk,by rw[O];show iv n=iv (cj l i h);rw[h1];rfl,U⟩
 .rintro⟨e,he,-,hk,O,ho⟩;have h1:=nI hU he;rw[hk,hf,O] at h1;cases u:gJ kf l (key o) with
  |none=>rw[u] at h1;cases h1
  |some n=>
   rw[u] at h1;injection h1 with h1;injection h1 with _ h1;obtain⟨Z,c,hc,e2⟩:=yB hl u;obtain⟨k1,k2⟩:=W o c e2;obtain⟨⟨b1,b2⟩,⟨b3,b4⟩,-⟩:=X c hc;have z:=hs o Y;rw[u] at z;have z:cj l o.index.toNat o.aH=n:=z;obtain⟨a,b,li,r⟩:=o;simp only at k1 k2 h1 z ho;refine⟨a.toNat,b.toNat,Y,Y,?_,?_⟩
   .rw[show((a.toNat:Nat):Int)=a from Y,z];omega
   .rw[show((a.toNat:Nat):Int)=a from Y,show((b.toNat:Nat):Int)=b from Y,z,h1,ho]
theorem SL(l:List Cm)(i:Nat)(h:Int):cj l i h=(gJ (λc=>(c.aO,c.aH)) l ((i:Int),h)).getD 0:=by
 induction l with
 |nil=>rfl
 |cons c l u=>
  rw[cj,gJ,u];by_cases e:c.aO=i/\c.aH=h
  .rw[asp e,asp (by rw[e.1,e.2])];rfl
  .rw[aso e,aso λq=>e (by rw[atm] at q;exact⟨q.1.symm,q.2.symm⟩)];omega
theorem SM(l:List Cm)(i:Nat)(h:Int):cj l i h=(gJ (λc=>(c.aH,c.aO)) l (h,(i:Int))).getD 0:=by
 induction l with
 |nil=>rfl
 |cons c l u=>
  rw[cj,gJ,u];by_cases e:c.aO=i/\c.aH=h
  .rw[asp e,asp (by rw[e.1,e.2])];rfl
  .rw[aso e,aso λq=>e (by rw[atm] at q;exact⟨q.2.symm,q.1.symm⟩)];omega
section
variable {D:Nat->Prop} {w:World} {A:Option Addr} {n c:Nat}
set_option maxRecDepth 8000 in
set_option maxHeartbeats 1000000 in
theorem Jc{d:aU}{l:List Cm}(h:bS uQ D w A n l)(a8:uT d l)(hle:∀c∈l,c.aC<=1073741824)(hn:n<=100000):aK prog 307 #[aB A n c] w (λv w'=>∃A' n' c',v=aB A' n' c'/\bu w w' A' n' c' 114 4 ((eE d l).flatMap Od.c)):=by
 have hl:=h.an;have J:∀c∈l,1<=c.aC/\c.aC<=1073741824:=λc hc=>⟨(a8 c hc).2.2,hle c hc⟩;apply aF func307 Z;refine NC ?_;intro g w1 hg hw1 x01;have M1:fL dE w1 g (λq=>(gJ (λc=>(c.aO,c.aH)) (l.take 0) q).map iv):=by rw[hw1,hg];exact fL.new dE w
 have z1:w1.heap.size=w.heap.size+1:=by rw[hw1];simp
 apply an;apply aM (λk:Nat=>[(11,iv (k:Int))]) (λk u=>k<=n/\ax w u/\fL dE u g λq=>(gJ (λc=>(c.aO,c.aH)) (l.take k) q).map iv) (λk _=>n-k) 0 ⟨U,Yt⟩ ⟨Y,x01,M1⟩ U;rintro G k u ⟨hk,xu,Mu⟩;have bo:=dw.lt Mu.g;refine cD (λhlt=>?_) λhge=>?_
 .obtain⟨bb,oo,cs,x,rfl,hx,-,-,hcc,rfl⟩:=(h.ae xu).au (show k<n from Y);have htk:l.take (k+1)=l.take k++[x]:=by rw[asD,hx];rfl
  have bq:=J x (asq hx);refine go ?_;refine alloc λb5 u1 a1=>?_;refine fg a1.aS λu2 B5 k2 z2=>?_;have B5:aP u2 b5 65 (bM x):=B5;have e5:=a1.au;have t5:=a1.size;have a6:ax u u2:=a1.ae.ag k2 λb hb _ e=>Y;have ak:=Mu.ah a6 Yt;have hab:=GY (kf:=(λc=>(c.aO,c.aH))) (q:=(λc=>(c.aO,c.aH)) x) (l:=l.take k) λy hy=>J y (asW hy);rw[asF] at hab;obtain⟨V0,hV0⟩:∃V0,V0=(gJ (λc=>(c.aO,c.aH)) (l.take k) ((λc=>(c.aO,c.aH)) x)).getD 0:=⟨_,U⟩;rw[<-hV0] at hab;have hg0:((gJ (λc=>(c.aO,c.aH)) (l.take k) (x.aO,x.aH)).map iv).getD (iv 0)=iv V0:=by rw[hV0];cases gJ (λc=>(c.aO,c.aH)) (l.take k) (x.aO,x.aH)<;>rfl
  refine bR (oP [10,12] [12] [0,1,2,3,4,5,6,7,8,9,10,11,12]) [12] (λy=>aj (λb=>b≠g) u2 y/\∃f',dw dE y g f'/\(f' (x.aO,x.aH)).getD (iv 0)=iv V0) mx Z ⟨.refl _ _,_,ak.g,hg0⟩ ?_;refine go ?_;refine pb (iv x.aO) (λv hv=>hv.1.ai (B5.ai U) (show b5≠g from Y)) ?_;refine go ?_;refine pb (iv x.aH) (λv hv=>hv.1.ai (B5.ai U) (show b5≠g from Y)) ?_;refine hY [iv x.aO,iv x.aH] Z ?_;refine dh (kv:=dE) (x.aO,x.aH) (iv V0) (λv hv=>hv.2) ?_;refine Zx ?_;refine rU (kv:=dE) (x.aO,x.aH) ak λu7 s7 MS k7 bg=>?_;refine bN ⟨k7,_,MS.g.g,?_⟩ ?_
  .unfold dZ;rw[asp U];exact hg0
  refine Uq ?_;intro u8 M8 k8 zs8;refine go ?_;refine next (k+1) ⟨Yn,Yt⟩ ⟨Y,((xu.trans a6).ag k7 λb hb _ e=>?_).ag k8 λb hb _ e=>?_,?_⟩ Y
  .have:=M1.g.lt;omega
  .have:=M1.g.lt;omega
  .have e:dZ (dZ (λq=>(gJ (λc=>(c.aO,c.aH)) (l.take k) q).map iv) (x.aO,x.aH) (((gJ (λc=>(c.aO,c.aH)) (l.take k) (x.aO,x.aH)).map iv).getD (iv 0))) (x.aO,x.aH) (iv (V0+x.aC))=λq=>(gJ (λc=>(c.aO,c.aH)) (l.take (k+1)) q).map iv:=by
    funext q;unfold dZ;rw[htk,yA];by_cases e:q=(x.aO,x.aH)
    .rw[asp e,asp e,e,<-hV0];rfl
    .rw[aso e,aso e,aso e]
   rw[<-e];exact M8
 have hkn:k=n:=Y;rw[hkn,asx Y] at Mu;obtain⟨L,cL,hE,O,hL⟩:=Mu;refine U3 (kv:=dE) U hE λw5 ay af x5 z5=>?_;have br:=xu.trans x5;obtain⟨it,aq⟩:∃it,it=u.heap.size:=⟨_,U⟩;rw[<-aq] at af|-;have bp:=xu.size;refine uk (λ(_:List Nat×List Od) (B:bZ) (m cm:Nat)=>[(2,aB B m cm)]) (λV B m cm y=>bu u y B m cm 114 4 (V.2.flatMap Od.c)/\m=V.2.length/\qX dE y g L cL/\IterM y it g cL V.1/\OI (λo=>(o.index,o.aH)) L V.1 V.2) (λV _ _ _ _=>(L.filter λx=>!V.1.contains x.born).length) ([],[]) none 0 0 ⟨U,Yt⟩ ⟨bu.nil x5,U,ay,af,OI.nil⟩ U ?_;rintro G ⟨seen,os⟩ B m cm y ⟨own,hm,Eu,Iu,H⟩;have hm:m=os.length:=hm;have H:OI (λo=>(o.index,o.aH)) L seen os:=H;have own:bu u y B m cm 114 4 (os.flatMap Od.c):=own;have hxl:=H.an (kf:=(λc=>(c.aO,c.aH))) O hL J;refine apa ?_;intro zu liu hBit;refine U4 (kv:=dE) U Eu Iu (λhall=>?_) λe he hns u1 Eu1 Iu1 ku1 be=>?_
 .have hp:=H.end_ (kf:=(λc=>(c.aO,c.aH))) (d:=d) (λa b e=>by simp only[atm] at e;exact⟨e.2,e.1⟩) O hL hall a8 J (λo ho=>by rw[SL,show((o.index.toNat:Nat):Int)=o.index from Y]) (λo c e=>by simp only[atm] at e;exact⟨e.2,e.1⟩);have hs2:il CF os=eE d l:=xZ CG hp pI;have aa:fT CF os:=(pI.EJ).perm hp;rcases own.form with⟨rfl,h0,rfl⟩|⟨g2,rfl,bt,hg2,hc1⟩
  .exact aox
  .obtain⟨rest,Bg,hBl,-⟩:=own.own.aS;refine aJ (Sf (s:=os) Bg hm Y aa) ?_;exact aoa
 .obtain⟨q,k1,hek,hev,b0⟩:∃q n,e.key=dE q/\e.val=iv n/\gJ (λc=>(c.aO,c.aH)) l q=some n:=by
   obtain⟨q,hq⟩:=hE.keys e he;have h1:=nI O he;rw[hq] at h1;have h1:=(hL q).symm.trans h1;simp only at h1;cases hg:gJ (λc=>(c.aO,c.aH)) l q with
   |none=>rw[hg] at h1;cases h1
   |some n=>rw[hg] at h1;injection h1 with h1;exact⟨q,n,hq,h1.symm,hg⟩
  refine Uy ?_;intro hlt;refine alloc λb6 u2 q2=>?_;refine fg q2.aS λu3 B6 k3 bk=>?_;have e6:=q2.au;have B6:aP u3 b6 455 [iv q.1,iv q.2]:=B6;refine ao8 ?_;intro x13 kub xy13 own3 E3 I3;refine go ?_;refine hY (Od.c ⟨q.2,q.1,k1,true⟩) Z ?_;refine lit [.agg (Od.c ⟨q.2,q.1,k1,true⟩).toArray] λgg u4 hq=>?_;have a7:=own3.ag hq.ae;have hne:B≠aL it:=λh=>hBit it h U;have av:B≠aL g:=λh=>by have:=own.new g h;omega
  refine iI a7 (hq.src (sz:=4) U) Y λB' e' u5 q5 kk hA=>qN (seen++[e.born],os++[⟨q.2,q.1,k1,true⟩]) B' (m+1) e' ⟨U,Yt⟩ ⟨?_,?_,(E3.ah hq.ae Yt).ah kk av,(I3.ah hq.ae Yt).ah kk hne,?_⟩ hlt
  .show bu u u5 B' (m+1) e' 114 4 ((os++[(⟨q.2,q.1,k1,true⟩:Od)]).flatMap Od.c);rw[as7];exact q5
  .show m+1=(os++[_]).length;rw[asu,hm];rfl
  .exact H.yes (λa b e=>by simp only[atm] at e;exact⟨e.2,e.1⟩) O hE.born he hns (o:=⟨q.2,q.1,k1,true⟩) hek hev U
set_option maxRecDepth 8000 in
set_option maxHeartbeats 1000000 in
theorem Jd{d:aU}{l:List Cm}(h:bS uQ D w A n l)(a8:uT d l)(hle:∀c∈l,c.aC<=1073741824)(hn:n<=100000):aK prog 31 #[aB A n c] w (λv w'=>∃A' n' c',v=aB A' n' c'/\bu w w' A' n' c' 114 4 ((eE d l).flatMap Od.c)):=by
 have hl:=h.an;have J:∀c∈l,1<=c.aC/\c.aC<=1073741824:=λc hc=>⟨(a8 c hc).2.2,hle c hc⟩;apply aF func31 Z;refine NC ?_;intro g w1 hg hw1 x01;have M1:fL dE w1 g (λq=>(gJ (λc=>(c.aH,c.aO)) (l.take 0) q).map iv):=by rw[hw1,hg];exact fL.new dE w
 have z1:w1.heap.size=w.heap.size+1:=by rw[hw1];simp
 apply an;apply aM (λk:Nat=>[(11,iv (k:Int))]) (λk u=>k<=n/\ax w u/\fL dE u g λq=>(gJ (λc=>(c.aH,c.aO)) (l.take k) q).map iv) (λk _=>n-k) 0 ⟨U,Yt⟩ ⟨Y,x01,M1⟩ U;rintro G k u ⟨hk,xu,Mu⟩;have bo:=dw.lt Mu.g;refine cD (λhlt=>?_) λhge=>?_
 .obtain⟨bb,oo,cs,x,rfl,hx,-,-,hcc,rfl⟩:=(h.ae xu).au (show k<n from Y);have htk:l.take (k+1)=l.take k++[x]:=by rw[asD,hx];rfl
  have bq:=J x (asq hx);refine go ?_;refine alloc λb5 u1 a1=>?_;refine fg a1.aS λu2 B5 k2 z2=>?_;have B5:aP u2 b5 65 (bM x):=B5;have e5:=a1.au;have t5:=a1.size;have a6:ax u u2:=a1.ae.ag k2 λb hb _ e=>Y;have ak:=Mu.ah a6 Yt;have hab:=GY (kf:=(λc=>(c.aH,c.aO))) (q:=(λc=>(c.aH,c.aO)) x) (l:=l.take k) λy hy=>J y (asW hy);rw[asF] at hab;obtain⟨V0,hV0⟩:∃V0,V0=(gJ (λc=>(c.aH,c.aO)) (l.take k) ((λc=>(c.aH,c.aO)) x)).getD 0:=⟨_,U⟩;rw[<-hV0] at hab;have hg0:((gJ (λc=>(c.aH,c.aO)) (l.take k) (x.aH,x.aO)).map iv).getD (iv 0)=iv V0:=by rw[hV0];cases gJ (λc=>(c.aH,c.aO)) (l.take k) (x.aH,x.aO)<;>rfl
  refine bR (oP [10,12] [12] [0,1,2,3,4,5,6,7,8,9,10,11,12]) [12] (λy=>aj (λb=>b≠g) u2 y/\∃f',dw dE y g f'/\(f' (x.aH,x.aO)).getD (iv 0)=iv V0) mx Z ⟨.refl _ _,_,ak.g,hg0⟩ ?_;refine go ?_;refine pb (iv x.aH) (λv hv=>hv.1.ai (B5.ai U) (show b5≠g from Y)) ?_;refine go ?_;refine pb (iv x.aO) (λv hv=>hv.1.ai (B5.ai U) (show b5≠g from Y)) ?_;refine hY [iv x.aH,iv x.aO] Z ?_;refine dh (kv:=dE) (x.aH,x.aO) (iv V0) (λv hv=>hv.2) ?_;refine Zx ?_;refine rU (kv:=dE) (x.aH,x.aO) ak λu7 s7 MS k7 bg=>?_;refine bN ⟨k7,_,MS.g.g,?_⟩ ?_
  .unfold dZ;rw[asp U];exact hg0
  refine Uq ?_;intro u8 M8 k8 zs8;refine go ?_;refine next (k+1) ⟨Yn,Yt⟩ ⟨Y,((xu.trans a6).ag k7 λb hb _ e=>?_).ag k8 λb hb _ e=>?_,?_⟩ Y
  .have:=M1.g.lt;omega
  .have:=M1.g.lt;omega
  .have e:dZ (dZ (λq=>(gJ (λc=>(c.aH,c.aO)) (l.take k) q).map iv) (x.aH,x.aO) (((gJ (λc=>(c.aH,c.aO)) (l.take k) (x.aH,x.aO)).map iv).getD (iv 0))) (x.aH,x.aO) (iv (V0+x.aC))=λq=>(gJ (λc=>(c.aH,c.aO)) (l.take (k+1)) q).map iv:=by
    funext q;unfold dZ;rw[htk,yA];by_cases e:q=(x.aH,x.aO)
    .rw[asp e,asp e,e,<-hV0];rfl
    .rw[aso e,aso e,aso e]
   rw[<-e];exact M8
 have hkn:k=n:=Y;rw[hkn,asx Y] at Mu;obtain⟨L,cL,hE,O,hL⟩:=Mu;refine U3 (kv:=dE) U hE λw5 ay af x5 z5=>?_;have br:=xu.trans x5;obtain⟨it,aq⟩:∃it,it=u.heap.size:=⟨_,U⟩;rw[<-aq] at af|-;have bp:=xu.size;refine uk (λ(_:List Nat×List Od) (B:bZ) (m cm:Nat)=>[(2,aB B m cm)]) (λV B m cm y=>bu u y B m cm 114 4 (V.2.flatMap Od.c)/\m=V.2.length/\qX dE y g L cL/\IterM y it g cL V.1/\OI (λo=>(o.aH,o.index)) L V.1 V.2) (λV _ _ _ _=>(L.filter λx=>!V.1.contains x.born).length) ([],[]) none 0 0 ⟨U,Yt⟩ ⟨bu.nil x5,U,ay,af,OI.nil⟩ U ?_;rintro G ⟨seen,os⟩ B m cm y ⟨own,hm,Eu,Iu,H⟩;have hm:m=os.length:=hm;have H:OI (λo=>(o.aH,o.index)) L seen os:=H;have own:bu u y B m cm 114 4 (os.flatMap Od.c):=own;have hxl:=H.an (kf:=(λc=>(c.aH,c.aO))) O hL J;refine apa ?_;intro zu liu hBit;refine U4 (kv:=dE) U Eu Iu (λhall=>?_) λe he hns u1 Eu1 Iu1 ku1 be=>?_
 .have hp:=H.end_ (kf:=(λc=>(c.aH,c.aO))) (d:=d) (λa b e=>by simp only[atm] at e;exact⟨e.1,e.2⟩) O hL hall a8 J (λo ho=>by rw[SM,show((o.index.toNat:Nat):Int)=o.index from Y]) (λo c e=>by simp only[atm] at e;exact⟨e.1,e.2⟩);have hs2:il CF os=eE d l:=xZ CG hp pI;have aa:fT CF os:=(pI.EJ).perm hp;rcases own.form with⟨rfl,h0,rfl⟩|⟨g2,rfl,bt,hg2,hc1⟩
  .exact aox
  .obtain⟨rest,Bg,hBl,-⟩:=own.own.aS;refine aJ (Se (s:=os) Bg hm Y aa) ?_;exact aoa
 .obtain⟨q,k1,hek,hev,b0⟩:∃q n,e.key=dE q/\e.val=iv n/\gJ (λc=>(c.aH,c.aO)) l q=some n:=by
   obtain⟨q,hq⟩:=hE.keys e he;have h1:=nI O he;rw[hq] at h1;have h1:=(hL q).symm.trans h1;simp only at h1;cases hg:gJ (λc=>(c.aH,c.aO)) l q with
   |none=>rw[hg] at h1;cases h1
   |some n=>rw[hg] at h1;injection h1 with h1;exact⟨q,n,hq,h1.symm,hg⟩
  refine Uy ?_;intro hlt;refine alloc λb6 u2 q2=>?_;refine fg q2.aS λu3 B6 k3 bk=>?_;have e6:=q2.au;have B6:aP u3 b6 148 [iv q.1,iv q.2]:=B6;refine ao8 ?_;intro x13 kub xy13 own3 E3 I3;refine qW 0 U Y ?_;refine go ?_;refine qW 1 U Y ?_;refine go ?_;refine hY (Od.c ⟨q.1,q.2,k1,true⟩) Z ?_;refine lit [.agg (Od.c ⟨q.1,q.2,k1,true⟩).toArray] λgg u4 hq=>?_;have a7:=own3.ag hq.ae;have hne:B≠aL it:=λh=>hBit it h U;have av:B≠aL g:=λh=>by have:=own.new g h;omega
  refine iI a7 (hq.src (sz:=4) U) Y λB' e' u5 q5 kk hA=>qN (seen++[e.born],os++[⟨q.1,q.2,k1,true⟩]) B' (m+1) e' ⟨U,Yt⟩ ⟨?_,?_,(E3.ah hq.ae Yt).ah kk av,(I3.ah hq.ae Yt).ah kk hne,?_⟩ hlt
  .show bu u u5 B' (m+1) e' 114 4 ((os++[(⟨q.1,q.2,k1,true⟩:Od)]).flatMap Od.c);rw[as7];exact q5
  .show m+1=(os++[_]).length;rw[asu,hm];rfl
  .exact H.yes (λa b e=>by simp only[atm] at e;exact⟨e.1,e.2⟩) O hE.born he hns (o:=⟨q.1,q.2,k1,true⟩) hek hev U
end
end
def wide(d:aU):Bool:=decide ((d.aD.length:Int)*d.aG>1024) ||decide ((d.aR.length:Int)*d.aG>4096)
theorem Am:cH d=0↔jc d=false/\gH d=true:=by unfold cH;cases jc d<;>cases gH d<;>simp
section
open Classical
abbrev tX(o:Od):Bool:=decide (o.aC<=1073741824)
noncomputable def oK (d:aU)(l:List Cm):Int:=if ez d l≠0 then ez d l else if nM d then 2 else if(eE d l).all tX=false then 270 else 0
section
variable {D:Nat->Prop} {w:World} {A:Option Addr} {n c:Nat}
theorem Ll{o:Od}:aA 309 #[.agg o.c.toArray] w (.bool (!tX o)):=by
 refine aF func309 Z<|box λJ z h1=>?_;have M:=h1.aS;refine go<|cD (λq=>?_) λq=>?_
 .exact aQ _ U ⟨by unfold tX;rw[asG Y];rfl,h1.ae⟩
 .exact aQ _ U ⟨by unfold tX;rw[asE Y];rfl,h1.ae⟩
theorem Wm{l:List Od}{w0:World}(o:bu w0 w A n c 114 4 (l.flatMap Od.c))(hn:n<=100000000):aK prog 368 #[aB A n c,.func (.func 309) #[] #[]] w (λv w'=>(∃i:Int,v=iv i/\(i>=0↔l.all tX=false))/\ax w w'):=by
 have hl:l.length=n:=by have:=o.own.an;exact Uf
 apply aF func368 Z;apply an;apply aM (λk:Nat=>[(8,iv (k:Int))]) (λk w'=>k<=n/\ax w w'/\l.all tX=(l.drop k).all tX) (λk _=>n-k) 0 ⟨U,Yt⟩ ⟨Y,.refl _ _,U⟩ U;rintro G k w' ⟨hk,xw,he⟩;refine cD (λhlt=>?_) λhge=>?_
 .refine adN ?_;intro y hy hdk;rw[hdk,atv] at he;have J:=o.ag xw;rcases J.form with⟨-,h0,-⟩|⟨g,rfl,hg0,hgl,hnc⟩
  .omega
  obtain⟨rest,hbk,hbl,-⟩:=J.own.aS;refine go ?_;refine fj _ (cZ (K:=4) (λ_=>rfl) hbk hy) U ?_;refine dt (Ll (o:=y)) (λw2 g x2=>?_) λw2 g x2=>?_
  .exact TN
  .exact T7
 .exact W6
theorem SN{l:List Od}{w0:World}(o:bu w0 w A n c 114 4 (l.flatMap Od.c))(J:n<=100000000):aA 308 #[aB A n c,.func (.func 309) #[] #[]] w (.bool (!l.all tX)):=by
 refine aF func308 Z<|aJ (Wm o J) ?_;rintro _ z ⟨⟨i,rfl,hi⟩,u⟩;refine cD (λg=>?_) λg=>?_
 .exact aQ _ U ⟨by rw[hi.1 g];rfl,u⟩
 .refine aQ _ U ⟨?_,u⟩;cases q:l.all tX with
  |true=>rfl
  |false=>exact absurd (hi.2 q) g
theorem sr{d:aU}{l:List Cm}:(eE d l).length<=d.aG.toNat*d.aR.length:=by
 unfold eE Io;rw[av3];generalize d.aG.toNat=H;induction H with
 |zero=>simp
 |succ H u=>
  rw[atn,asK,List.sum_append_nat,avx];apply Nat.add_le_add u;simp only[asQ,au1,atu,List.sum_nil,Nat.add_zero];apply atI (List.length_filterMap_le _ _);rw[as3];exact asN _
theorem wR{d:aU}{l:List Cm}:oK d l=0↔ez d l=0/\nM d=false/\(eE d l).all tX=true:=by
 unfold oK;by_cases h:ez d l=0
 .rw[aso (by simpa using h)];cases hw:nM d with
  |true=>simp
  |false=>
   cases u:(eE d l).all tX with
   |false=>simp
   |true=>simp[h]
 .rw[asp (by simpa using h)];exact⟨λe=>absurd e h,λe=>e.1⟩
theorem OY{a7:aW}{l:List Cm}(hd:iG D w a7 d)(h:bS uQ D w A n l):aK prog 233 #[.agg a7.toArray,aB A n c] w (λv w'=>ax w w'/\∃A' n' c',v=.tuple #[aB A' n' c',iv (oK d l)]/\(oK d l=0->bu w w' A' n' c' 114 4 ((eE d l).flatMap Od.c))):=by
 have hd0:=hd;have hl:=h.an;obtain⟨A1,n1,c1,A2,n2,c2,A3,n3,c3,A4,n4,c4,A5,n5,c5,A6,n6,c6,rfl,a8,-⟩:=hd.ex;have V:=a8.an;refine aF func233 Z<|box λb2 w1 h1=>?_;have B2:=h1.aS;refine go<|bW (tu (hd0.ae h1.ae) (h.ae h1.ae)) λw2 x2=>?_;have B2:=B2.ae x2;have x02:=h1.ae.trans x2;obtain⟨er,her⟩:∃er,er=ez d l:=⟨_,U⟩;rw[<-her];refine cN (λq=>?_) λq=>?_
 .have e0:oK d l=er:=by unfold oK;rw[<-her,asp q]
  exact YV
 have J:ez d l=0:=Y;obtain⟨hd00,hl4,hok⟩:=iB.1 J;have hh:=eC hd00;obtain⟨m1,m2,-⟩:=jO hd00;have af:=eF hok;have hm:0<=(n1:Int)*d.aG/\(n1:Int)*d.aG<=64*4096:=⟨atq Y Y,auJ (ati (show(n1:Int)<=64 from Y) Y) (atd Y Y)⟩;refine go<|cD (λq1=>?_) λq1=>?_
 .have e0:oK d l=2:=by unfold oK;rw[J,aso (by simp),asp];unfold nM;rw[asy,V];exact q1
  exact ret ⟨x02,none,0,0,by rw[e0];rfl,λh0=>(by rw[e0] at h0;cases h0)⟩
 have a6:nM d=false:=by unfold nM;rw[asZ,V];exact q1
 have hle:∀c∈l,c.aC<=1073741824:=λc hc=>by have:=hok.1 c hc;exact this.2.2.2.1.2
 apply aJ (Jc (h.ae x02) af hle Y);rintro _ w3 ⟨A',n',c',rfl,O⟩;have ho:=sr (d:=d) (l:=l);have aa:n'<=100000000:=by have h1:=O.own.an;rw[bz (K:=4) λ_=>rfl] at h1;have:d.aG.toNat*d.aR.length<=4096*600:=atK Y m2;omega
 refine dt (SN O aa) (λw4 g x4=>?_) λw4 g x4=>?_
 .have e0:oK d l=270:=by unfold oK;rw[J,aso (by simp),a6,aso (by simp),asp];simpa using g
  exact ret ⟨(x02.trans O.ae).trans x4,none,0,0,by rw[e0];rfl,λh0=>(by rw[e0] at h0;cases h0)⟩
 .have e0:=wR.2 ⟨J,a6,by simpa using g⟩;exact ret ⟨(x02.trans O.ae).trans x4,A',n',c',by rw[e0];rfl,λ_=>(O.ag x4).base x02⟩
abbrev DZ(a b c d e:Int):aW:=[iv a,iv b,iv c,iv d,iv e]
theorem vi{x:Od}:∀{l:List Od} {f:DM},mQ (l++[x]) f=if x.bP then mQ l f elseλq=>if q=(x.index,x.aH) then x.aC else mQ l f q
 |[],f=>by
  show(if x.bP then f else _)=_
  rfl
 |y::l,f=>by rw[atC,mQ,vi];rfl
theorem tB{x:Od}:∀{l:List Od},zw (l++[x])=zw l+if x.bP=false/\x.index=0 then x.aC else 0
 |[]=>by show _+0=0+_;omega
 |y::l=>by rw[atC,zw,tB,zw];omega
theorem MZ{B:Int}(M:0<=B):∀{l:List Od} {f:DM},(∀x∈l,0<=x.aC/\x.aC<=B)->(∀q,0<=f q/\f q<=B)->∀q,0<=mQ l f q/\mQ l f q<=B
 |[],f,_,u,q=>u q
 |x::l,f,z,u,q=>by
  rw[mQ]
  refine MZ M (λy J=>z y (ast _ J)) (λq=>?_) q
  have:=z x ass
  split
  .exact u q
  .show 0<=(if q=_ then x.aC else f q)/\(if q=_ then x.aC else f q)<=B
   split
   .exact this
   .exact u q
theorem Lm{B:Int}:∀{l:List Od},(∀x∈l,0<=x.aC/\x.aC<=B)->0<=B->0<=zw l/\zw l<=l.length*B
 |[],_,_=>by show(0:Int)<=0/\(0:Int)<=0*B;omega
 |x::l,u,J=>by
  have:=Lm (λy z=>u y (ast _ z)) J
  have M:=u x ass
  rw[zw,as2,asA,atX]
  split<;>omega
theorem Na{B:Int}{g:DM}(u:∀q,0<=g q/\g q<=B)(r h:Int):∀k:Nat,0<=yZ g r h k/\yZ g r h k<=k*B
 |0=>by show(0:Int)<=0/\(0:Int)<=0*B;omega
 |k+1=>by
  have:=Na u r h k
  have h1:=u (r,h-k)
  rw[yZ,asA,atX]
  omega
def Je(d:aU)(g:DM)(h r:Nat):Prop:=g ((r:Int),(h:Int))<=(dB d r).cap/\yZ g r h (dB d r).bD.toNat<=(dB d r).vN
theorem CV:zx d os=true↔(∀h r:Nat,h<d.aG.toNat->r<d.aD.length->Je d (mQ os λ_=>0) h r)/\zw os<=d.bH:=by
 unfold zx Je;simp only[asv,asH,as0,asy];exact⟨λ⟨h1,J⟩=>⟨λh r z u=>h1 h z r u,J⟩,λ⟨h1,J⟩=>⟨λh z r u=>h1 h r z u,J⟩⟩
theorem Wn{d:aU}{os:List Od}{h r:Nat}(J:h<d.aG.toNat)(u:r<d.aD.length)(z:¬Je d (mQ os λ_=>0) h r):zx d os=false:=by
 cases q:zx d os with
 |false=>rfl
 |true=>exact absurd ((CV.1 q).1 h r J u) z
theorem Ln{J:aW}(_hd:iG D w J d):aK prog 236 #[.agg J.toArray,aB A n c] w (λv w'=>∃b2 b3,v=.func (.func 312) #[] #[ptr b3,ptr b2]/\ax w w'/\aP w' b2 31 J/\aP w' b3 46 [aB A n c]/\w.heap.size<=b2/\w.heap.size<=b3):=by
 obtain⟨A1,n1,c1,A2,n2,c2,A3,n3,c3,A4,n4,c4,A5,n5,c5,A6,n6,c6,rfl,-⟩:=_hd.ex;refine aF func236 Z<|box λb2 w1 h1=>box λb3 w2 h2=>?_;exact Ya
set_option maxRecDepth 8000 in
set_option maxHeartbeats 1000000 in
theorem Jf{D':Nat->Prop}{l b2 b3:Nat}{bg:aW}{d:aU}{os:List Od}(E:World->Prop)(hstep:∀u (f1 f2 f3 f4 f5:Int),f1≠0->ax w u->iQ prog l [.agg (DZ f1 f2 f3 f4 f5).toArray].toArray (λv w'=>v=.bool false/\E w') u)(h0:cH d=0)(hb2:aP w b2 31 bg)(hb3:aP w b3 46 [aB A n c])(hd:iG D w bg d)(hs:bS PC D' w A n os)(hn:n<=100000)(J:∀o∈os,0<=o.aC/\o.aC<=1073741824):aK prog 312 #[.func (.yield l) #[] #[],ptr b3,ptr b2] w (λ_ w'=>(zx d os=true/\ax w w')\/(zx d os=false/\E w')):=by
 obtain⟨A1,n1,c1,A2,n2,c2,A3,n3,c3,A4,n4,c4,A5,n5,c5,A6,n6,c6,rfl,aq,-⟩:=hd.ex;have bx:=aq.an;have bI:=hs.an;have bq:=hs.le;have hh:=eC h0;obtain⟨m1,-⟩:=jO h0;have bG:=ig.1 (dA.1 (Am.1 h0).2).1;apply aF func312 Z;refine NC ?_;intro g w1 hg hw1 x01;have M1:pH w1 g (mQ (os.take 0) λ_=>0):=⟨_,by rw[hw1,hg];exact fL.new dE w,λq=>rfl⟩;have z1:w1.heap.size=w.heap.size+1:=by rw[hw1];simp
 apply ld _ ((hb3.ae x01).ai U);apply an;apply aM (λk:Nat=>[(17,iv (k:Int)),(5,iv (zw (os.take k)))]) (λk u=>k<=n/\ax w u/\pH u g (mQ (os.take k) λ_=>0)) (λk _=>n-k) 0 ⟨U,U,Yt⟩ ⟨Y,x01,M1⟩ U;rintro G k u ⟨hk,xu,Mu⟩;refine cD (λhlt=>?_) λhge=>?_
 .obtain⟨bb,oo,cs,x,rfl,hx,-,-,hcc,rfl⟩:=(hs.ae xu).au (show k<n from Y);have htk:os.take (k+1)=os.take k++[x]:=by rw[asD,hx];rfl
  have bE:=J x (asq hx);have hab:=Lm (l:=os.take k) (B:=1073741824) (λy hy=>J y (asW hy)) Yd;rw[asF,show min k os.length=k from Y] at hab;have bA:=Mu.lt;refine Py ?_;intro b7 u1 a1 u2 B7 k2 z2;have e7:=a1.au;have t7:=a1.size;have a6:ax u u2:=a1.ae.ag k2 λb hb _ e=>Y;have xu2:=xu.trans a6;have lg:=M1.lt;refine go ?_;cases ho:x.bP with
  |true=>
   refine go ?_;refine next (k+1) ⟨Yn,?_,Yt⟩ ⟨Y,xu2,?_⟩ Y
   .rw[htk,tB,aso (λq=>by rw[ho] at q;cases q.1),atJ];rfl
   .rw[htk,vi,ho,asp U];exact Mu.ah a6 Yt
  |false=>
   obtain⟨fk,Mk,hfk⟩:=Mu.ah a6 Yt;refine go ?_;refine hY [iv x.index,iv x.aH] Z ?_;refine go ?_;refine BX (kv:=dE) (x.index,x.aH) Mk λu3 M3 k3 z3=>?_;have B7:=B7.ah k3 Y;have af:=xu2.ag k3 λb hb _ e=>Y;have M3:pH u3 g (mQ (os.take (k+1)) λ_=>0):=by
    refine⟨_,M3,λq=>?_⟩;rw[htk,vi,ho,aso (by simp)];unfold dZ;by_cases e:q=(x.index,x.aH)
    .rw[asp e,asp e];rfl
    .rw[aso e,aso e];exact hfk q
   refine go ?_;refine cE (λq0=>?_) λq0=>?_
   .refine go ?_;refine next (k+1) ⟨Yn,?_,Yt⟩ ⟨Y,af,M3⟩ Y;rw[htk,tB,asp ⟨ho,q0⟩];rfl
   .refine go ?_;refine next (k+1) ⟨Yn,?_,Yt⟩ ⟨Y,af,M3⟩ Y;rw[htk,tB,aso λq=>q0 q.2,atJ];rfl
 have hkn:k=n:=Y;rw[hkn,asx Y] at Mu|-;obtain⟨F,hF⟩:∃F,F=mQ os (λ_=>0):=⟨_,U⟩;have b0:∀q,0<=F q/\F q<=1073741824:=by rw[hF];exact MZ Yd J λq=>Yd
 have hab:=Lm (l:=os) (B:=1073741824) J Yd;rw[<-hF] at Mu;obtain⟨bk,be⟩:∃a,a=zw os:=⟨_,U⟩;rw[<-be] at hab|-;have br:=hb2.ae xu;refine go ?_;refine aM (λh:Nat=>[(42,iv (h:Int))]) (λh y=>(h:Int)<=d.aG/\ax w y/\pH y g F/\∀h' r:Nat,h'<h->r<d.aD.length->Je d F h' r) (λh _=>d.aG.toNat-h) 0 ⟨U,Yt⟩ ⟨Y,xu,Mu,λh' r bp _=>Y⟩ U ?_;rintro G2 h y ⟨cg,xy,My,hp⟩;refine cD (λhlt=>?_) λhge=>?_
 .refine go ?_;refine ld _ ((hb2.ae xy).ai U) ?_;refine an ?_;refine aM (λr:Nat=>[(48,iv (r:Int))]) (λr z=>r<=n1/\ax w z/\pH z g F/\∀r':Nat,r'<r->Je d F h r') (λr _=>n1-r) 0 ⟨U,Yt⟩ ⟨Y,xy,My,λr' a7=>Y⟩ U ?_;rintro G3 r z ⟨hr,xz,Mz,hq⟩;refine cD (λbT=>?_) λck=>?_
  .obtain⟨bb,oo,cs,x,rfl,hx,-,-,hcc,rfl⟩:=(aq.ae xz).au (show r<n1 from Y);have av:=jm hx;have hok:=(iX (dA.1 (Am.1 h0).2).2.1 hx).2;have hdl:=(eu.1 hok).1;refine go ?_;refine alloc λb10 bw a1=>?_;refine fg a1.aS λz2 B10 k2 bt=>?_;have cr:=a1.au;have t10:=a1.size;have aa:ax z z2:=a1.ae.ag k2 λb hb _ e=>Y;have O:=xz.trans aa;obtain⟨fk,Mk,hfk⟩:=Mz.ah aa Yt;refine go ?_;refine aM (λk:Nat=>[(55,iv (k:Int)),(11,iv (yZ F r h k))]) (λk v=>(k:Int)<=x.bD/\v=z2) (λk _=>x.bD.toNat-k) 0 ⟨U,U,Yt⟩ ⟨Y,U⟩ U ?_;rintro G4 k v ⟨ay,rfl⟩;have cb:=Na b0 r h k;refine cD (λc8=>?_) λcp=>?_
   .have hv:=b0 ((r:Int),(h:Int)-k);refine go ?_;refine hY [iv (r:Int),iv ((h:Int)-k)] Z ?_;refine dh (kv:=dE) ((r:Int),(h:Int)-k) (iv (F ((r:Int),(h:Int)-k))) (λv hv=>by rw[hv];exact⟨_,Mk.g,hfk _⟩) ?_;refine go ?_;exact next (k+1) ⟨Yn,U,Yt⟩ ⟨Y,U⟩ Y
   have ay:k=x.bD.toNat:=Y;subst ay;refine hY [iv (r:Int),iv (h:Int)] Z ?_;refine dh (kv:=dE) ((r:Int),(h:Int)) (iv (F ((r:Int),(h:Int)))) (λv hv=>by rw[hv];exact⟨_,Mk.g,hfk _⟩) ?_;obtain⟨V,hV⟩:∃V,V=F ((r:Int),(h:Int)):=⟨_,U⟩;obtain⟨Lo,a8⟩:∃V,V=yZ F r h x.bD.toNat:=⟨_,U⟩;rw[<-hV,<-a8];refine go ?_;have ak:¬(V<=x.cap/\Lo<=x.vN)->zx d os=false:=λq=>Wn (h:=h) (r:=r) Y Y (by unfold Je;rw[<-hF,av,<-hV,<-a8];exact q);refine cD (λq1=>?_) λq1=>?_
   .refine go ?_;refine hY (DZ 1 h r V x.cap) Z ?_;refine eA (hstep _ 1 h r V x.cap Yd O) ?_;rintro _ u6 ⟨rfl,e6⟩;exact mD (.inr ⟨ak Y,e6⟩)
   refine go ?_;refine cD (λq2=>?_) λq2=>?_
   .refine go ?_;refine hY (DZ 3 h r Lo x.vN) Z ?_;refine eA (hstep _ 3 h r Lo x.vN Yd O) ?_;rintro _ u6 ⟨rfl,e6⟩;exact mD (.inr ⟨ak Y,e6⟩)
   refine go ?_;refine next (r+1) ⟨Yn,Yt⟩ ⟨Y,O,⟨fk,Mk,hfk⟩,λr' a7=>?_⟩ Y;by_cases e:r'=r
   .subst e;unfold Je;rw[av,<-hV,<-a8];omega
   .exact hq r' Y
  .refine go ?_;refine next (h+1) ⟨Yn,Yt⟩ ⟨Y,xz,Mz,λh' r' bp a7=>?_⟩ Y;by_cases e:h'=h
   .subst e;exact hq r' Y
   .exact hp h' r' Y a7
 .have bo:∀h' r:Nat,h'<d.aG.toNat->r<d.aD.length->Je d F h' r:=λh' r h1 h2=>hp h' r Y h2;refine go<|ld (iv d.bH) ((hb2.ae xy).ai U)<|cD (λq=>?_) λq=>?_
  .refine go<|ld (iv d.bH) ((hb2.ae xy).ai U)<|hY (DZ 4 0 0 bk d.bH) Z<|eA (hstep _ 4 0 0 bk d.bH Yd xy) ?_;rintro _ u6 ⟨rfl,e6⟩;refine mD (.inr ⟨?_,e6⟩);cases qq:zx d os with
   |false=>rfl
   |true=>
    have:=(CV.1 qq).2;omega
  .exact mD (.inl ⟨CV.2 ⟨by rw[<-hF];exact bo,Y⟩,xy⟩)
end
end
section
variable {P:Program} {X:XK}
theorem anh{A:TypeId}{sz z:Nat}{zv:Value}{kn:IntKind}[h:cu P t e sz][hz:bQ P e zv][af:fw P e z][hn:qO P A kn]{ty:TypeId}{V:Array Bool}{W:IntKind}{i:Int}{K:VK}(k:Nat)(hi:i=(k:Int))(h0:0<k)(hb:k*z<=140737488355328)(aq:k<=140737488355328)(a6:(cz zv).length=sz)(ak:0<sz)(kk:∀(c:Nat) Z cs,k<=c->c<=maxLen->cs.length=c*sz->aP Z w.heap.size e cs->ax w Z->K (.slice (some (ad w.heap.size 0)) k c) Z):DE P .append #[t,A] ty V #[.slice none 0 0,.int W i] K X w:=by
 rw[nZ];refine mB.x λw0 hw=>?_;subst hw;subst hi;obtain⟨hu,inf,u,ao⟩:=dF h.h;obtain⟨i',J,a1⟩:=ot hz.h;rw[u] at J;cases J;have O:inf.bytes=z:=by have:=af.h;unfold bytesOf at this;rw[u] at this;simpa using this
 have a8:P.underlying A=some (.int kn):=by have:=hn.h;unfold intOf at this;split at this<;>simp_all
 have hr:=Lib.run_append_grow_zeros (P:=P) w0 t A ty e inf zv W kn hu a8 u a1 none 0 0 [] (by simp[Builtin.firstCells]) k h0 Y Y Y (by rw[O];omega) (by
  have:Builtin.nextslicecap (0+k) 0=k:=by unfold Builtin.nextslicecap;rw[asp Y];omega
  rw[this,O];omega)
 rw[as9] at hr;have aa:=grownCap_ge w0 k 0 e;have hle:=grownCap_le_maxLen w0 k 0 e (by unfold maxLen;omega);rw[show builtin .append #[t,A] ty V #[.slice none 0 0,.int W (k:Int)]=vS (Builtin.append_ #[t,A] ty #[.slice none 0 0,.int W (k:Int)]) from rfl,gG,hr];obtain⟨cs,M⟩:∃cs:Array Value,cs=([]:aW).toArray++Builtin.zeroCells zv.cells k++Builtin.zeroCells zv.cells (grownCap w0 k 0 e-k):=⟨_,rfl⟩;rw[<-M];have ab:cs.size=grownCap w0 k 0 e*sz:=by
  rw[M];have a7:zv.cells.size=sz:=by rw[lF];simpa using a6
  simp only[Array.size_append,size_zeroCells,a7,auk,awC,as9];rw[<-aun];congr 1;omega
 refine kk (grownCap w0 k 0 e) _ cs.toList aa hle (by simpa using ab) ?_ ?_
 .show((w0.drew.alloc (.cells cs e)).heap)[w0.heap.size]? =some (.cells cs.toList.toArray e (0,0));rw[avT];exact avU w0.drew _
 .exact⟨rfl,rfl,rfl,by show w0.heap.size<=(w0.heap.push _).size;simp,λb hb _=>by show(w0.heap.push _)[b]? =w0.heap[b]?;rw[Array.getElem?_push,aso (by have:b<w0.heap.size:=hb;omega)]⟩
theorem Wo{sz:Nat}[h:cu P t e sz]{ty:TypeId}{u:Array Bool}{A:bZ}{n c:Nat}{K:VK}(M:K (.int .i64 c) w):DE P .cap #[t] ty u #[.slice A n c] K X w:=by
 rw[nZ];refine mB.x λw0 hw=>?_;subst hw;obtain⟨hu,_⟩:=dF h.h;have z:(builtin .cap #[t] ty u #[.slice A n c]).run P w0=.ok (.value (.int .i64 c)) w0:=by
  have J:builtin .cap #[t] ty u #[.slice A n c]=(do pure (.value (<-Builtin.cap_ #[t] ty #[.slice A n c]))):=rfl;rw[J,asI];have:(Builtin.cap_ #[t] ty #[.slice A n c]).run P w0=.ok (.int .i64 c) w0:=by have V:(#[t]:Array TypeId)[0]? =some t:=rfl;have O:(#[Value.slice A n c]:Array Value)[0]? =some (.slice A n c):=rfl;unfold Builtin.cap_;simp only[V,O,asI,asX hu,asJ];rfl
  rw[this];rfl
 rw[z];exact M
def bl(s:ByteArray):List Nat:=s.data.toList.map UInt8.toNat
theorem SO{sz:Nat}[A:cu P t e sz]{lo hi:Option Value}{K:Value->Prop}(M:Xk lo 0 0)(O:Xk hi 0 0)(V:K (.slice none 0 0)):PS P t (.slice none 0 0) lo hi none K:=by
 rw[vE];obtain⟨hu,inf,z,J⟩:=dF A.h;have u:∀w,(Instr.sliceAt t (.slice none 0 0) lo hi none).run P w=.ok (.slice none 0 0) w:=λw=>by unfold Instr.sliceAt;rw[asI,asX hu];simp only[asJ];unfold Instr.slice;rw[asI,asX hu];simp only[asJ];rw[asI,mF M O (asN _) (asN _)];simp only[asJ];rw[asI,run_sizeOf z,J];rfl
 exact cW u V
end
noncomputable def strip (c:Code):Code:=Code.rec (motive:=λ_=>Code) .skip (λi o d=>.region i o d) (λ_ _ a b=>.seq a b) (λc _ _ a b=>.cond c a b) (λi _ c=>.block i c) (λ_ c=>.loop c) (λg ps x y _ _=>.rangeFunc g ps x y) (λi=>.exit i) (λ_ c=>c) (λi=>.label i) (λi=>.goto i) .ret (λr=>.refuse r) c
section
variable {P:Program} {n:Nat}
theorem mw:∀(c:Code),AU n (strip c)=true->∀(K:KK) (F:Fr) (ds:List Deferred) (w0:World) (a:Act),(∀l F ds w,¬K (.goto l) F ds w)->tJ n a F ds->V P (strip c) K F ds (z w0)->c.wpIn (Fw none) 0 P (KQ n K) a w0
 | .skip,hwf,K,F,ds,w0,a,_,hg,h=>eP .skip hwf K F ds w0 none a (.inl rfl) hg h
 | .label i,hwf,K,F,ds,w0,a,_,hg,h=>eP (.label i) hwf K F ds w0 none a (.inl rfl) hg h
 | .exit i,hwf,K,F,ds,w0,a,_,hg,h=>eP (.exit i) hwf K F ds w0 none a (.inl rfl) hg h
 | .ret,hwf,K,F,ds,w0,a,_,hg,h=>eP .ret hwf K F ds w0 none a (.inl rfl) hg h
 | .region i o d,hwf,K,F,ds,w0,a,_,hg,h=>eP (.region i o d) hwf K F ds w0 none a (.inl rfl) hg h
 | .rangeFunc g ps x y,hwf,K,F,ds,w0,a,_,hg,h=>eP (.rangeFunc g ps x y) hwf K F ds w0 none a (.inl rfl) hg h
 | .goto _,_,_,_,_,_,_,_,_,h=>h.elim
 | .refuse _,_,_,_,_,_,_,_,_,h=>h.elim
 | .scope c,hwf,K,F,ds,w0,a,hK,hg,h=>by
  refine wpIn_wide.2 (wp_scope_straight (wpIn_wide.1 (at0 (mw c hwf K F ds w0 a hK hg h) λe a' w' hq=>?_)))
  cases e with
  |goto l=>obtain⟨F',-,hk⟩:=hq;exact hK _ _ _ _ hk
  |_=>exact hq
 | .seq x y,hwf,K,F,ds,w0,a,hK,hg,h=>by
  obtain⟨hx,hy⟩:=ft hwf
  refine awr (at0 (mw x hx _ F ds w0 a (by intro l F ds w hk;exact hK l F ds w hk) hg h) λe a' w' hq=>?_)
  obtain⟨F',hg',hk⟩:=hq
  cases e with
  |normal=>exact mw y hy K F' _ w' a' hK hg' hk
  |_=>exact⟨F',hg',hk⟩
 | .cond c x y,hwf,K,F,ds,w0,a,hK,hg,h=>by
  obtain⟨hx,hy⟩:=ft hwf
  have h:V P (.cond c (strip x) (strip y)) K F ds (z w0):=h
  rw[J4] at h
  split at h
  .rename_i ht
   exact avS (t:=true) (by rw[hg.eval];exact ht) (λe=>mw x hx K F ds w0 a hK hg h) λe=>by cases e
  .rename_i ht
   exact avS (t:=false) (by rw[hg.eval];exact ht) (λe=>by cases e) λe=>mw y hy K F ds w0 a hK hg h
  .exact h.elim
 | .block id c,hwf,K,F,ds,w0,a,hK,hg,h=>by
  refine wpIn_block (at0 (mw c hwf _ F ds w0 a (by intro l F ds w hk;exact hK l F ds w hk) hg h) λe a' w' hq=>?_)
  obtain⟨F',hg',hk⟩:=hq
  cases e with
  |exit i=>
   show if i=id then _ else _
   split
   .rename_i hi
    subst hi
    simp only[auw,cond_true] at hk
    exact⟨F',hg',hk⟩
   .rename_i hi
    have:Nat.beq i id=false:=by
     cases hb:Nat.beq i id with
     |true=>exact absurd (atx hb) hi
     |false=>rfl
    simp only[this,cond_false] at hk
    exact⟨F',hg',hk⟩
  |_=>exact⟨F',hg',hk⟩
 | .loop c,hwf,K,F,ds,w0,a,hK,hg,h=>by
  have h:V P (.loop (strip c)) K F ds (z w0):=h
  rw[J5,rm] at h
  obtain⟨I,⟨n0,h0⟩,hs⟩:=h
  let J:Act->World->Nat->Prop:=λa' w' m=>∃F' ds',tJ n a' F' ds'/\I m F' ds' (z w')
  refine wpIn_loop (λa' w'=>∃m,J a' w' m) (λa' w'=>xK (J a' w')) ⟨n0,F,ds,hg,h0⟩ λa1 w1 hex=>?_
  obtain⟨F1,ds1,hg1,hi⟩:=yM hex
  refine at0 (mw c hwf _ F1 ds1 w1 a1 (by intro l F ds w hk;exact hK l F ds w hk) hg1 (hs _ F1 ds1 (z w1) hi)) λe a' w' hq=>?_
  obtain⟨F',hg',hk⟩:=hq
  cases e with
  |normal=>
   obtain⟨m,hm,hi'⟩:=hk
   exact⟨⟨m,F',_,hg',hi'⟩,avw (Ej ⟨F',_,hg',hi'⟩) hm⟩
  |_=>exact⟨F',hg',hk⟩
theorem SP{f:FuncId}{fn:Func}{args:aW}{R:VK}(hf:P.funcs[f]? =some fn)(hok:(AU fn.ntmps (strip (body fn))&&(fn.body.isSome&&Nat.ble args.length fn.ntmps))=true)(h:V P (strip (body fn)) (ZI P fn.results.toList R) (init args) [] w):aK P f args.toArray w R:=by
 obtain⟨J,h2⟩:=ft hok;obtain⟨hs,hle⟩:=ft h2;have hle:=asB hle;obtain⟨c,hc⟩:=auf.1 hs;have hb:body fn=c:=by simp[body,hc]
 rw[hb] at h J;intro w0 hw;subst hw;have hg:=vV hle;refine au5 (F:=Fence.wide) hf hc Yt (at0 (mw c J _ _ [] w0 _ (by intro l F ds w hk;exact hk) hg h) λe a' w' hq=>?_);exact Y8
end
section
open Classical
theorem wS{P:Program}{ops:Array Oper}{K:Fr->World->Prop}{X:XK}{F:Fr}{w:World}{σ:Type}(enc:σ->List (Nat×Value))(I:σ->World->Prop)(h:mM P ops (λu z=>∃s,Has u (enc s)/\I s z) X F w)(k:∀G s z,I s z->K (FN (enc s) (PZ (wr ops.toList) F G)) z):mM P ops K X F w:=
 En h λu z J ⟨s,hs,hi⟩=>by
  have hm:PZ (wr ops.toList) F u=u:=funext λj=>by
   show(bif xI j (wr ops.toList) then u j else F j)=u j
   cases M:xI j (wr ops.toList) with
   |true=>rfl
   |false=>exact(J j M).symm
  have:=k u s z hi
  rwa [hm,rq hs] at this
instance ap7:F4 prog 309:=⟨by kernel_rfl⟩
def CW(w:World)(g:Nat)(U:Int×Int->Bool):Prop:=∃fk,fL dE w g fk/\∀q,(fk q).getD (.bool false)=.bool (U q)
theorem CW.ah{u:World}{f:Int×Int->Bool}(h:CW w g f)(k:aj D w u)(z:D g):CW u g f:=by
 obtain⟨fk,M,e⟩:=h;exact⟨fk,M.ah k z,e⟩
theorem CW.lt{f:Int×Int->Bool}(h:CW w g f):g<w.heap.size:=by obtain⟨fk,M,e⟩:=h;exact dw.lt M.g
structure LtI (d:aU) (os:List Od) (m h:Nat) (y:Bool) (W:DM) (U:Int×Int->Bool):Prop where
 c:∃k:Nat,(∀q,0<=W q/\W q<=k*1073741824)/\k+m*d.aG.toNat<=os.length+d.aD.length*d.aG.toNat+h
 u:y=false->∀q,U q=false
 p:y=false->∃l,Fe d m h (W,l)=gO d os
section
variable {D:Nat->Prop} {w:World} {A:Option Addr} {n c:Nat}
theorem LtI.next{m:Nat}{y:Bool}{W:DM}{Z:Int×Int->Bool}(I:LtI d os (m+1) d.aG.toNat y W Z):LtI d os m 0 y W Z:=by
 refine⟨?_,I.u,λe=>?_⟩
 .obtain⟨k,h1,J⟩:=I.c;refine⟨k,h1,?_⟩;rw[avx] at J;omega
 .obtain⟨l,z⟩:=I.p e;exact⟨l,by rw[Ff] at z;rw[qD];exact z⟩
theorem OZ{a b:Int}{g:Nat}(O:aP w g 3 [iv a,iv b]):aK prog 310 #[aB (aL g) 2 2] w (λv u=>(∃r:Int,v=iv r)/\ax w u):=by
 apply aF func310 Z;apply an;apply aM (λk:Nat=>[(7,iv (k:Int))]) (λk u=>k<=2/\u=w) (λk _=>2-k) 0 ⟨U,Yt⟩ ⟨Y,U⟩ U;rintro G k u ⟨hk,rfl⟩;refine cD (λJ=>?_) λM=>?_
 .obtain⟨x,z⟩:∃x:Int,[iv a,iv b][k]? =some (iv x):=by
   have V:k<2:=Y;match k,V with
   |0,_=>exact⟨a,U⟩
   |1,_=>exact⟨b,U⟩
  refine go ?_;refine ld _ (O.ai (by rw[as9,aua];exact z)) ?_;refine cN (λq=>?_) λq=>?_
  .exact aQ _ U ⟨⟨x,U⟩,.refl _ _⟩
  .refine go ?_;exact next (k+1) ⟨Yn,Yt⟩ ⟨Y,U⟩ Y
 .exact aQ _ U ⟨⟨0,U⟩,.refl _ _⟩
theorem SQ{J:aW}(_hd:iG D w J d):aK prog 235 #[.agg J.toArray,aB A n c] w (λv w'=>∃b2 b3,v=.func (.func 311) #[] #[ptr b3,ptr b2]/\ax w w'/\aP w' b2 31 J/\aP w' b3 46 [aB A n c]/\w.heap.size<=b2/\w.heap.size<=b3):=by
 obtain⟨A1,n1,c1,A2,n2,c2,A3,n3,c3,A4,n4,c4,A5,n5,c5,A6,n6,c6,rfl,-⟩:=_hd.ex;refine aF func235 Z<|box λb2 w1 h1=>box λb3 w2 h2=>?_;exact Ya
set_option maxRecDepth 8000 in
set_option maxHeartbeats 2000000 in
theorem O1{D':Nat->Prop}{l b2 b3:Nat}{cS:aW}{d:aU}{os:List Od}(J:Bool->World->Prop)(hJ:∀y u u',J y u->aj (λb=>b<w.heap.size) u u'->J y u')(hstep:∀u y (f2 f3 f4:Int),f4≠0->J y u->w.heap.size<=u.heap.size->iQ prog l [.agg (DZ 7 f2 f3 f4 0).toArray].toArray (λv w'=>v=.bool true/\J true w'/\aj (λb=>D' b\/w.heap.size<=b) u w') u)(ei:J false w)(h0:cH d=0)(hb2:aP w b2 31 cS)(hb3:aP w b3 46 [aB A n c])(cL:D' b2)(_hD3:D' b3)(hd:iG D' w cS d)(hs:bS PC D' w A n os)(hn:n<=4096)(bx:∀o∈os,(0<=o.index/\o.index<d.aR.length)/\(0<=o.aH/\o.aH<d.aG)/\1<=o.aC/\o.aC<=1073741824):aK prog 311 #[.func (.yield l) #[] #[],ptr b3,ptr b2] w (λ_ w'=>∃y,J y w'/\(gO d os=none->y=true)):=by
 have hd0:=hd;obtain⟨A1,n1,c1,A2,n2,c2,A3,n3,c3,A4,n4,c4,A5,n5,c5,A6,n6,c6,rfl,cp,cr,-⟩:=hd.ex;have dp:=cp.an;have gr:=cr.an;have h9:=hs.an;have hh:=eC h0;obtain⟨m1,m2,-⟩:=jO h0;have ht:=kp h0;have br:=hb2.lt;have fs:=hb3.lt;apply SP func311 Z;refine NC ?_;intro g w1 hg hw1 x01;have M1:pH w1 g (kR d (os.take 0) λ_=>0):=⟨_,by rw[hw1,hg];exact fL.new dE w,λq=>rfl⟩;have z1:w1.heap.size=w.heap.size+1:=by rw[hw1];simp
 refine qV λg5 w2 eo bw=>?_;have x12:ax w1 w2:=by rw[bw];exact aj.alloc _ _ _
 have U2:CW w2 g5 (λ_=>false):=⟨_,by rw[bw,eo];exact fL.new dE w1,λq=>rfl⟩;have z2:w2.heap.size=w1.heap.size+1:=by rw[bw];simp
 have x02:=x01.trans x12;have M2:=M1.ah x12 Yt;apply ld (aB A n c) ((hb3.ae x02).ai U);apply an;apply aM (λk:Nat=>[(20,iv (k:Int))]) (λk u=>k<=n/\aj (λb=>b≠g) w2 u/\pH u g (kR d (os.take k) λ_=>0)) (λk _=>n-k) 0 ⟨U,Yt⟩ ⟨Y,.refl _ _,M2⟩ U;rintro G k u ⟨hk,ku,Mu⟩;have af:ax w u:=x02.ag ku λb hb _=>Y;have zu:=ku.size;refine cD (λhlt=>?_) λhge=>?_
 .obtain⟨bb,oo,cs,x,rfl,hx,-,-,hcc,rfl⟩:=(hs.ae af).au (show k<n from Y);have htk:os.take (k+1)=os.take k++[x]:=by rw[asD,hx];rfl
  obtain⟨gF,gw,hx3⟩:=bx x (asq hx);refine Py ?_;intro b7 u1 a1 u2 B7 k2 z2;have B7:aP u2 b7 114 x.c:=B7;have e7:=a1.au;have t7:=a1.size;have bg:ax u u2:=a1.ae.ag k2 λb hb _ e=>Y;obtain⟨bf,fI,hQ,y,eL,hy,-,-,bp,rfl⟩:=cr.au (show x.index.toNat<n2 from Y);have hM:=iS (bp 1 _ U);have bp:=bp.ah (af.trans bg) Yt;subst eL;have ec:jh d x.index.toNat=y:=jJ hy;obtain⟨F,hF⟩:∃F,F=kR d (os.take k) (λ_=>0):=⟨_,U⟩;rw[<-hF] at Mu;obtain⟨fk,Mk,hfk⟩:=Mu;have cI:=CU (d:=d) (l:=os.take k) (f:=λ_=>0) (B:=0) (λz hz=>by have:=bx z (asW hz);omega) (λq=>⟨asO _,asO _⟩) (y.aZ,x.aH);rw[<-hF,asF] at cI;obtain⟨V0,hV0⟩:∃V0,V0=F (y.aZ,x.aH):=⟨_,U⟩;rw[<-hV0] at cI;have ff:=hb2.ae (af.trans bg);have dx:=dw.lt Mk.g;have cT:=Mk.ah bg Yt;apply bR (oP [15,17] [17] [0,1,2,3,4,5,6,7,8,9,10,11,12,13,14,15,16,17]) [17] (λy_=>aj (λb=>b≠g) u2 y_/\∃f',dw dE y_ g f'/\(f' (y.aZ,x.aH)).getD (iv 0)=iv V0) mx Z ⟨.refl _ _,_,cT.g,by rw[hfk,hV0]⟩;refine go ?_;refine pb (aB (some (ad bf fI)) n2 c2) (λv hv=>hv.1.ai (ff.ai U) (show b2≠g from Y)) ?_;refine go ?_;refine pb (iv x.index) (λv hv=>hv.1.ai (B7.ai U) (show b7≠g from Y)) ?_;refine idx x.index.toNat Y Y ?_;refine go ?_;refine pb (iv y.aZ) (λv hv=>hv.1.ai (bp 1 _ U) (show bf≠g from Y)) ?_;refine go ?_;refine pb (iv x.aH) (λv hv=>hv.1.ai (B7.ai U) (show b7≠g from Y)) ?_;refine hY [iv y.aZ,iv x.aH] Z ?_;refine dh (kv:=dE) (y.aZ,x.aH) (iv V0) (λv hv=>hv.2) ?_;refine go ?_;refine pb (iv x.aC) (λv hv=>hv.1.ai (B7.ai U) (show b7≠g from Y)) ?_;refine go ?_;refine rU (kv:=dE) (y.aZ,x.aH) cT λu7 s7 MS k7 gn=>?_;refine bN ⟨k7,_,MS.g.g,?_⟩ ?_
  .exact YQ
  refine Uq ?_;intro u8 M8 k8 zs8;refine go ?_;refine next (k+1) ⟨Yn,Yt⟩ ⟨Y,((ku.trans (ax.any bg)).trans k7).trans k8,_,M8,λq=>?_⟩ Y;rw[htk,Fg,ec,<-hF];unfold dZ;show _=iv (jM F (y.aZ,x.aH) x.aC q);unfold jM;exact Yj
 have hkn:k=n:=Y;rw[hkn,asx Y] at Mu;have U2:=U2.ah ku Y;have eh:=hJ _ _ _ ei (af.any.cU λ_ _ _=>Yt);have L0:LtI d os d.aD.length 0 false (kR d os λ_=>0) (λ_=>false):=by refine⟨⟨os.length,λq=>?_,Y⟩,λ_ _=>rfl,λ_=>⟨os,by rw[qD];rfl⟩⟩;have:=CU (d:=d) (l:=os) (f:=λ_=>0) (B:=0) (λz hz=>by have:=bx z hz;omega) (λq=>⟨asO _,asO _⟩) q;omega
 refine go ?_;refine ld (aB A1 n1 c1) ((hb2.ae af).ai U) ?_;refine go ?_;have hR:d.aD.length*d.aG.toNat<=64*4096:=atK m1 Y;refine aM (λm:Nat=>[(8,iv ((m:Int)-1))]) (λm v=>m<=n1/\aj (λb=>D' b/\b<w.heap.size) w v/\w2.heap.size<=v.heap.size/\∃y W V,pH v g W/\CW v g5 V/\LtI d os m 0 y W V/\J y v) (λm _=>m) n1 ⟨U,Yt⟩ ⟨asN _,af.any,by have:=ku.size;omega,false,_,_,Mu,U2,by rw[<-dp];exact L0,eh⟩ U ?_;rintro G2 m v ⟨hm,kv,zv,y,W,V,Mv,Uv,I,hj⟩;refine cD (λhge2=>?_) λhlt2=>?_;rotate_left
 .obtain rfl:m=0:=Y;refine mD ⟨y,hj,λhp=>?_⟩;cases y with
  |true=>rfl
  |false=>
   obtain⟨l',a6⟩:=I.p U;rw[hp] at a6;cases a6
 obtain⟨r,rfl⟩:∃r,m=r+1:=⟨m-1,Y⟩;rw[show((r+1:Nat):Int)-1=(r:Int) from Y];obtain⟨bb,oo,cs,x,rfl,hx,-,hP,hcc,rfl⟩:=(cp.ah kv λb hb h=>⟨h,hb⟩).au (show r<n1 from Y);have eg:dB d r=x:=jm hx;have hok:gQ x=true:=(iX (dA.1 (Am.1 h0).2).2.1 hx).2;have df:=(eu.1 hok);have hdl:=ht.dl r x hx;refine go ?_;refine ld (aB (some (ad bb oo)) n1 c1) ((hb2.ah kv ⟨cL,br⟩).ai U) ?_;refine go ?_;refine alloc λb9 v1 a1=>?_;refine fg a1.aS λv2 B9 k2 ga=>?_;have B9:aP v2 b9 99 x.c:=B9;have e9:=a1.au;have t9:=a1.size;have ay:ax v v2:=a1.ae.ag k2 λb hb _ e=>Y;have bq:aj (λb=>D' b/\b<w.heap.size) w v2:=kv.ag ay λ_ _ _=>Yt;refine go<|ld (iv d.aG) ((hb2.ah bq ⟨cL,br⟩).ai U)<|aM (λh:Nat=>[(57,iv (h:Int))]) (λh u=>(h:Int)<=d.aG/\aj (λb=>(D' b/\b<w.heap.size)\/b=b9) v2 u/\∃y W V,pH u g W/\CW u g5 V/\LtI d os (r+1) h y W V/\J y u) (λh _=>d.aG.toNat-h) 0 ⟨U,Yt⟩ ⟨Y,.refl _ _,y,W,V,Mv.ah ay Yt,Uv.ah ay Yt,I,hJ _ _ _ hj (ay.any.cU λ_ _ _=>Yt)⟩ U ?_;rintro G3 h u0 ⟨hG,bk,y,W,V,Mu,Uu,I,hj⟩;have gl:=bk.size;have gb:=ay.size;refine cD (λhC=>?_) λhI=>?_;rotate_left
 .have ej:h=d.aG.toNat:=Y;subst ej;refine go ?_;exact next r ⟨congrArg iv Y,Yt⟩ ⟨Y,bq.ag bk λ_ _ h=>.inl h,Y,y,W,V,Mu,Uu,I.next,hj⟩ Y
 have B9:=B9.ah bk (.inr U);have gq:=Mu.lt;have dx:=Uu.lt;have gp:v.heap.size<=b9:=Y;refine wS (λs:Nat×Nat=>[(11,ptr s.1),(12,ptr s.2)]) (λs u=>ax u0 u/\s.1≠s.2/\u0.heap.size<=s.1/\u0.heap.size<=s.2/\aP u s.1 455 [iv r,iv h]/\aP u s.2 455 [iv x.up,iv ((h:Int)-x.bD)]) ?_ ?_
 .refine bR (.take 0 (.take 1 (.take 2 (.take 3 (.take 4 (.take 5 (.take 6 (.take 7 (.take 8 (.take 9 (.alt 10 (oP [11,12,13] [] [11,12,13]) (oP [11,10,12,13] [] [11,10,12,13])))))))))))) [] (λz=>ax u0 z) mx Z (.refl _ _) ?_;refine hY [iv (r:Int),iv (h:Int)] Z ?_;refine go ?_;refine hY [iv x.up,iv ((h:Int)-x.bD)] Z ?_;refine⟨?oa,?ob⟩;case' oa=>
   refine alloc λav z1 O=>?_;refine bN O.ae ?_;refine alloc λaa z2 a12=>?_;refine bN (O.ae.trans a12.ae) ?_;have eT:=O.au;have eS:=a12.au;have dd:=O.size;have cb:=O.aS.ae a12.ae;have c8:=a12.aS;have xz:ax u0 z2:=O.ae.trans a12.ae
  case' ob=>
   refine alloc λaa z1 a12=>?_;refine bN a12.ae ?_;refine alloc λav z2 O=>?_;refine bN (a12.ae.trans O.ae) ?_;have eT:=O.au;have eS:=a12.au;have dd:=a12.size;have c8:=a12.aS.ae O.ae;have cb:=O.aS;have xz:ax u0 z2:=a12.ae.trans O.ae
  all_goals
   refine fg cb λz3 bG k3 _=>?_;have bG:aP z3 av 455 [iv (r:Int),iv (h:Int)]:=bG;have bT:ax u0 z3:=xz.ag k3 λb hb _ e=>Y;refine bN bT ?_;refine fg (c8.ah k3 Y) λz4 bE k4 _=>?_;have bE:aP z4 aa 455 [iv x.up,iv ((h:Int)-x.bD)]:=bE;have bI:ax u0 z4:=bT.ag k4 λb hb _ e=>Y;refine bN bI ?_;exact⟨(av,aa),⟨U,U,Yt⟩,bI,by show av≠aa;omega,by show _<=av;omega,by show _<=aa;omega,bG.ah k4 Y,bE⟩
 rintro G4 ⟨av,aa⟩ u1 ⟨ak,hne,dO,dy,fh,B12⟩;simp only at hne dO dy fh B12;have Mu:=Mu.ah ak Yt;have Uu:=Uu.ah ak Yt;have B9:=B9.ae ak;have hj:=hJ _ _ _ hj (ak.any.cU λ_ _ _=>Yt);have bo:aj (λb=>(D' b/\b<w.heap.size)\/b=b9) v2 u1:=bk.ag ak λ_ _ _=>Yt;have gi:=ak.size;have cg:=λs=>qF (d:=d) (m:=r) (h:=h) Y (s:=s);obtain⟨cK,a8,ep⟩:=I.c;have ct:=ep;rw[avx] at ct;have hL:cK<=4096+64*4096:=by have:h<=d.aG.toNat:=Y;omega
 have aq:∀j,j<=cK+1->j+(r+1)*d.aG.toNat<=os.length+d.aD.length*d.aG.toNat+((h+1:Nat):Nat):=λj hj=>Y;obtain⟨fU,MU,hfU⟩:=Uu;refine go ?_;refine dh (kv:=dE) ((r:Int),(h:Int)) (.bool (V ((r:Int),(h:Int)))) (λv hv=>by rw[hv];exact⟨_,MU.g,hfU _⟩) ?_;cases cw:V ((r:Int),(h:Int)) with
 |true=>
  have hy:y=true:=by
   cases y with
   |true=>rfl
   |false=>rw[I.u U] at cw;cases cw
  refine go ?_;refine BX (kv:=dE) (x.up,(h:Int)-x.bD) MU λu2 fa k2 z2=>?_;refine go ?_;refine next (h+1) ⟨Yn,Yt⟩ ⟨Y,bo.ag k2 λb hb hh e=>Y,y,W,λq=>if q=(x.up,(h:Int)-x.bD) then true else V q,Mu.ah k2 Y,⟨_,fa,λq=>?_⟩,⟨⟨cK,a8,aq _ Y⟩,λe=>(by rw[hy] at e;cases e),λe=>(by rw[hy] at e;cases e)⟩,hJ _ _ _ hj (k2.cU λb _ hb e=>Y)⟩ Y;unfold dZ;show _=Value.bool (if q=(x.up,(h:Int)-x.bD) then true else V q);by_cases e:q=(x.up,(h:Int)-x.bD)
  .rw[asp e,asp e];rfl
  .rw[aso e,aso e];exact hfU q
 |false=>
  obtain⟨N,hN⟩:∃N,N=W ((r:Int),(h:Int)):=⟨_,U⟩;have bA:=a8 ((r:Int),(h:Int));rw[<-hN] at bA;obtain⟨fW,MW,a7⟩:=Mu;refine go ?_;refine dh (kv:=dE) ((r:Int),(h:Int)) (iv N) (λv hv=>by rw[hv];exact⟨_,MW.g,by rw[hN];exact a7 _⟩) ?_;have ck:∀l',kX d r h (W,l')=if N=0 then some (W,l') else match dD x N with
   |none=>none
   |some v=>if(h:Int)<x.bD then none else some (jM W (x.up,(h:Int)-x.bD) v,l'++[⟨(h:Int)-x.bD,(r:Int),v,false⟩]):=λl'=>by
   subst hN;unfold kX;rw[eg];rfl
  refine cE (λq0=>?_) λq0=>?_
  .refine go ?_;refine next (h+1) ⟨Yn,Yt⟩ ⟨Y,bo,y,W,V,⟨_,MW,a7⟩,⟨_,MU,hfU⟩,⟨⟨cK,a8,aq _ Y⟩,I.u,λe=>?_⟩,hj⟩ Y;obtain⟨l',a6⟩:=I.p e;refine⟨l',?_⟩;rw[cg,ck,asp q0] at a6;exact a6
  have e0:dD x N=if N>1073741824 then none else if rG x N>1073741824 then none else some (max (rG x N) x.dM):=by unfold dD;rw[aso q0]
  refine cD (λq1=>?_) λq1=>?_;rotate_left
  .obtain⟨ub,hub⟩:∃b,b=V (x.up,(h:Int)-x.bD):=⟨_,U⟩;refine bR (oP [9] [9] [0,1,2,3,4,5,6,7,8,9]) [9] (λz=>z=u1) mx Z U ?_;refine adE ?_;cases ub;all_goals
    refine gv (λ_=>True) Yt ?_;refine BX (kv:=dE) (x.up,(h:Int)-x.bD) (MU) λu4 be k4 z4=>?_;refine go ?_;refine hY (DZ 7 h r N 0) Z ?_;have j4:=hJ _ _ _ (hj) (k4.cU λb _ hb e=>Y);refine eA (hstep u4 y h r N q0 j4 Y) ?_;rintro _ u5 ⟨rfl,j5,k5⟩;refine go ?_;refine next (h+1) ⟨Yn,Yt⟩ ⟨Y,((bo).ag k4 λb hb hh e=>Y).ag k5 λb hb hh=>?_,true,W,λq=>if q=(x.up,(h:Int)-x.bD) then(V (x.up,(h:Int)-x.bD) ||true) else V q,(pH.ah (f:=W) ⟨_,(MW),a7⟩ k4 Y).ah k5 (.inr Y),CW.ah ⟨_,be,λq=>?_⟩ k5 (.inr Y),⟨⟨cK,a8,aq _ Y⟩,λe=>(by cases e),λe=>(by cases e)⟩,j5⟩ Y
    .rcases hh with hh|hh
     .exact .inl hh.1
     .exact .inr Y
    .unfold dZ;show _=Value.bool (if q=(x.up,(h:Int)-x.bD) then(V (x.up,(h:Int)-x.bD) ||true) else V q);by_cases e:q=(x.up,(h:Int)-x.bD)
     .rw[asp e,asp e,<-hub];rfl
     .rw[aso e,aso e];exact hfU q
  have er:uH x N=0:=sV.2 ⟨df.2.2.2.2,bA.1,q1⟩;have en:rP x N=if rG x N>1073741824 then(0,false) else(rG x N,true):=by unfold rP;rw[aso (by simp[er])]
  have e1:dD x N=if rG x N>1073741824 then none else some (max (rG x N) x.dM):=by rw[e0,aso Y]
  refine go ?_;refine bW GA λu2 x2=>?_;have gd:=x2.size;obtain⟨B9,B12⟩:=zQ x2 B9 B12;have MU:=MU.ah x2 Yt;have MW:=MW.ah x2 Yt;have hj:=hJ _ _ _ hj (x2.any.cU λ_ _ _=>Yt);have bt:aj (λb=>(D' b/\b<w.heap.size)\/b=b9) v2 u2:=bo.ag x2 λ_ _ _=>Yt;by_cases q2:rG x N>1073741824
  .rw[asp q2] at en e1;rw[en];obtain⟨ub,hub⟩:∃b,b=V (x.up,(h:Int)-x.bD):=⟨_,U⟩;refine bR (oP [9] [9] [0,1,2,3,4,5,6,7,8,9]) [9] (λz=>z=u2) mx Z U ?_;refine adE ?_;cases ub;all_goals
    refine gv (λ_=>True) Yt ?_;refine BX (kv:=dE) (x.up,(h:Int)-x.bD) (MU) λu4 be k4 z4=>?_;refine go ?_;refine hY (DZ 7 h r N 0) Z ?_;have j4:=hJ _ _ _ (hj) (k4.cU λb _ hb e=>Y);refine eA (hstep u4 y h r N q0 j4 Y) ?_;rintro _ u5 ⟨rfl,j5,k5⟩;refine go ?_;refine next (h+1) ⟨Yn,Yt⟩ ⟨Y,((bt).ag k4 λb hb hh e=>Y).ag k5 λb hb hh=>?_,true,W,λq=>if q=(x.up,(h:Int)-x.bD) then(V (x.up,(h:Int)-x.bD) ||true) else V q,(pH.ah (f:=W) ⟨_,(MW),a7⟩ k4 Y).ah k5 (.inr Y),CW.ah ⟨_,be,λq=>?_⟩ k5 (.inr Y),⟨⟨cK,a8,aq _ Y⟩,λe=>(by cases e),λe=>(by cases e)⟩,j5⟩ Y
    .rcases hh with hh|hh
     .exact .inl hh.1
     .exact .inr Y
    .unfold dZ;show _=Value.bool (if q=(x.up,(h:Int)-x.bD) then(V (x.up,(h:Int)-x.bD) ||true) else V q);by_cases e:q=(x.up,(h:Int)-x.bD)
     .rw[asp e,asp e,<-hub];rfl
     .rw[aso e,aso e];exact hfU q
  rw[aso q2] at en e1;rw[en];refine go ?_;refine cD (λq3=>?_) λq3=>?_
  .obtain⟨ub,hub⟩:∃b,b=V (x.up,(h:Int)-x.bD):=⟨_,U⟩;refine bR (oP [9] [9] [0,1,2,3,4,5,6,7,8,9]) [9] (λz=>z=u2) mx Z U ?_;refine adE ?_;cases ub;all_goals
    refine gv (λ_=>True) Yt ?_;refine BX (kv:=dE) (x.up,(h:Int)-x.bD) (MU) λu4 be k4 z4=>?_;refine go ?_;refine hY (DZ 7 h r N 0) Z ?_;have j4:=hJ _ _ _ (hj) (k4.cU λb _ hb e=>Y);refine eA (hstep u4 y h r N q0 j4 Y) ?_;rintro _ u5 ⟨rfl,j5,k5⟩;refine go ?_;refine next (h+1) ⟨Yn,Yt⟩ ⟨Y,((bt).ag k4 λb hb hh e=>Y).ag k5 λb hb hh=>?_,true,W,λq=>if q=(x.up,(h:Int)-x.bD) then(V (x.up,(h:Int)-x.bD) ||false) else V q,(pH.ah (f:=W) ⟨_,(MW),a7⟩ k4 Y).ah k5 (.inr Y),CW.ah ⟨_,be,λq=>?_⟩ k5 (.inr Y),⟨⟨cK,a8,aq _ Y⟩,λe=>(by cases e),λe=>(by cases e)⟩,j5⟩ Y
    .rcases hh with hh|hh
     .exact .inl hh.1
     .exact .inr Y
    .unfold dZ;show _=Value.bool (if q=(x.up,(h:Int)-x.bD) then(V (x.up,(h:Int)-x.bD) ||false) else V q);by_cases e:q=(x.up,(h:Int)-x.bD)
     .rw[asp e,asp e,<-hub];rfl
     .rw[aso e,aso e];exact hfU q
  have ef:=CT hok bA.1 e1;obtain⟨LV,ew⟩:∃a,a=rG x N:=⟨_,U⟩;rw[<-ew] at ef e1|-;obtain⟨V0,hV0⟩:∃V0,V0=W (x.up,(h:Int)-x.bD):=⟨_,U⟩;have et:=a8 (x.up,(h:Int)-x.bD);rw[<-hV0] at et;refine bR (oP [8,10] [10] [0,1,2,3,4,5,6,7,8,9,10]) [10] (λv=>aj (λb=>b≠g) u2 v/\∃f',dw dE v g f'/\(f' (x.up,(h:Int)-x.bD)).getD (iv 0)=iv V0) mx Z ⟨.refl _ _,_,MW.g,by rw[a7,hV0]⟩ ?_;refine xM [iv x.up,iv ((h:Int)-x.bD)] (λv hv=>(bF.aS B12).ah hv.1 (show aa≠g from Y)) U ?_;refine dh (kv:=dE) (x.up,(h:Int)-x.bD) (iv V0) (λv hv=>hv.2) ?_;refine go ?_;refine pb (iv x.dM) (λv hv=>hv.1.ai (B9.ai U) (show b9≠g from Y)) ?_;refine go ?_;refine rU (kv:=dE) (x.up,(h:Int)-x.bD) MW λz9 s9 MS k9 gm=>?_;refine bN ⟨k9,_,MS.g.g,?_⟩ ?_
  .unfold dZ;rw[asp U];show(fW (x.up,(h:Int)-x.bD)).getD (iv 0)=iv V0;rw[a7,hV0]
  refine gv (λ_=>True) Yt ?_;refine wj (v:=iv (V0+max LV x.dM)) MS λdb fe eb fi=>?_;refine go ?_;have b0:aj (λb=>b≠g) u2 db:=k9.trans eb;refine go ?_;refine next (h+1) ⟨Yn,Yt⟩ ⟨Y,bt.ag b0 λb hb hh e=>Y,y,jM W (x.up,(h:Int)-x.bD) (max LV x.dM),V,⟨_,fe,λq=>?_⟩,⟨_,MU.ah b0 Y,hfU⟩,⟨⟨cK+1,λq=>?_,aq _ Y⟩,I.u,λe=>?_⟩,hJ _ _ _ hj (b0.cU λb _ hb e=>Y)⟩ Y
  .unfold dZ;show _=iv (jM W _ _ q);unfold jM;by_cases e:q=(x.up,(h:Int)-x.bD)
   .rw[asp e,asp e,e,<-hV0];rfl
   .rw[aso e,aso e,aso e];exact a7 q
  .have:=a8 q;unfold jM;split<;>omega
  .obtain⟨l',a6⟩:=I.p e;rw[cg,ck,aso q0,e1] at a6;dsimp only at a6;rw[aso q3] at a6;exact⟨_,a6⟩
end
structure D8 where
 k:Int
 h:Int
 i:Int
 n:Int
 l:Int
abbrev D8.c(x:D8):aW:=[iv x.k,iv x.h,iv x.i,iv x.n,iv x.l]
def tY:D8:=⟨0,0,0,0,0⟩
section
variable {D:Nat->Prop} {w:World} {A:Option Addr} {n c:Nat}
set_option maxRecDepth 8000 in
set_option maxHeartbeats 1000000 in
theorem O2{b2 b3:Nat}{ay:aW}{d:aU}{os:List Od}(h0:cH d=0)(ao:aP w b2 31 ay)(af:aP w b3 46 [aB A n c])(hd:iG (λb=>b<w.heap.size) w ay d)(hs:bS PC (λb=>b<w.heap.size) w A n os)(hn:n<=4096)(b4:∀o∈os,(0<=o.index/\o.index<d.aR.length)/\(0<=o.aH/\o.aH<d.aG)/\1<=o.aC/\o.aC<=1073741824):aK prog 234 #[.func (.func 311) #[] #[ptr b3,ptr b2]] w (λv w'=>ax w w'/\∃x:D8,v=.agg x.c.toArray/\(gO d os=none->x.n≠0)):=by
 have ak:=ao.lt;have ab:=af.lt;refine aF func234 Z ?_;refine alloc λbf W h2=>?_;have e2:=h2.au;have s2:=h2.size;have Bf:=h2.aS;refine range (gf:=311) (lb:=#[ptr b3,ptr b2]) U λfn tmps v6 RL aq hF b1 x7 zz b7 b5=>?_;show aK _ _ #[.func (.yield (W.heap.size+1)) #[] #[],ptr b3,ptr b2] v6 _;have aE:=h2.ae;have X:=aE.trans x7;refine(O1 (w:=v6) (D':=λb=>b<w.heap.size) (λy u=>aj (λb=>b≠bf/\b≠W.heap.size+1) v6 u/\dc u (W.heap.size+1) RL/\∃x:D8,aP u bf 309 x.c/\(y=true->x.n≠0)/\(y=false->x=tY)) (λy u u' ⟨k1,l1,x,a1,a2⟩ kk=>⟨k1.ag kk λb O _=>O,l1.ah kk Y,x,a1.ah kk (by have:=Bf.lt;omega),a2⟩) ?_ ⟨.refl _ _,b5,tY,Bf.ae x7,λe=>(by cases e),λ_=>rfl⟩ h0 (ao.ae X) (af.ae X) ak ab (hd.ae X) (hs.ae X) hn b4).mono ?_
 .rintro u y f2 f3 f4 hn ⟨k1,l1,x,Bx,aa,b0⟩ ba;subst aq;have lb:=Bx.lt;refine dQ (args:=[.agg (DZ 7 f2 f3 f4 0).toArray]) l1 U rfl hF b1 ?_;refine alloc λbb u1 a1=>?_;refine fg a1.aS λu2 C3 k2 b9=>?_;have e3:=a1.au;have t3:=a1.size;have a8:ax u u2:=a1.ae.ag k2 λb O _ e=>Y;refine tN (l1.ah a8 Yt) λu3 k3 b8 l3=>?_;have C3:=C3.ah k3 Y;have Cf:=(Bx.ae a8).ah k3 Y;have a7:aj (λb=>b≠W.heap.size+1) u u3:=a8.any.ag k3 λ_ _ h=>h;have a6:aj (λb=>b<v6.heap.size/\b≠bf/\b≠W.heap.size+1) u u3:=a7.cU λ_ _ J=>J.2.2;refine bR (oP [14,15] [] [0,1,2,3,4,5,6,7,8,9,10,11,12,13,14,15,16,17]) [] (λz=>ax u3 z) mx Z (.refl _ _) ?_;refine go ?_;refine hY [iv 0,iv 0,iv 0,iv 0,iv 0] Z ?_;refine Uz ((x.k == 0)&&((x.h == 0)&&((x.i == 0)&&((x.n == 0)&&((x.l == 0)&&true))))) Z (λq=>?_) λq=>?_
  .refine bN (.refl _ _) ?_;refine bN (.refl _ _) ?_;refine fj [iv 7,iv f2,iv f3,iv f4,iv 0] (.aS (C3)) U ?_;refine fg (Cf) λu7 C7 k7 _=>?_;have C7:aP u7 bf 309 (D8.c ⟨7,f2,f3,f4,0⟩):=C7;refine eQ _ ((l3).ah k7 Y) λu8 V l8=>?_;have ka:aj (λb=>b<v6.heap.size/\b≠bf/\b≠W.heap.size+1) u u8:=((a6).ag k7 λ_ _ J=>J.2.1).ag V λ_ _ J=>J.2.2;exact⟨U,⟨k1.ag ka λb O J=>⟨O,J⟩,l8,⟨7,f2,f3,f4,0⟩,C7.ah V Y,λ_=>hn,λe=>(by cases e)⟩,((((a7).cU λb _ (J:b≠bf/\b≠W.heap.size+1)=>J.2).ag k7 λb _ J=>J.1).ag V λb _ J=>J.2).cU λb O J=>Y⟩
  .have hy:y=true:=by
    cases y with
    |true=>rfl
    |false=>rw[b0 U] at q;cases q
   subst hy;refine go ?_;refine um (v:=iv (cx f2 x.h)) (λ_ _=>uY _ _) ?_;refine go ?_;refine um (v:=iv (cx x.i f3)) (λ_ _=>uY _ _) ?_;refine lit [iv (cx f2 x.h),iv (cx x.i f3)] λgg u4 hq=>?_;refine bN hq.ae ?_;refine aJ (OZ hq.aS) ?_;rintro _ u5 ⟨⟨r,rfl⟩,x5⟩;have M:=hq.ae.trans x5;refine bN M ?_;refine cD (λq2=>?_) λq2=>?_
   .refine fj [iv 7,iv f2,iv f3,iv f4,iv 0] (.aS (C3.ae M)) U ?_;refine fg (Cf.ae M) λu7 C7 k7 _=>?_;have C7:aP u7 bf 309 (D8.c ⟨7,f2,f3,f4,0⟩):=C7;refine eQ _ ((l3.ah M Yt).ah k7 Y) λu8 V l8=>?_;have ka:aj (λb=>b<v6.heap.size/\b≠bf/\b≠W.heap.size+1) u u8:=((a6.ag M λ_ _ _=>Yt).ag k7 λ_ _ J=>J.2.1).ag V λ_ _ J=>J.2.2;exact⟨U,⟨k1.ag ka λb O J=>⟨O,J⟩,l8,⟨7,f2,f3,f4,0⟩,C7.ah V Y,λ_=>hn,λe=>(by cases e)⟩,((((a7.ag M λ_ _ _=>Yt).cU λb _ (J:b≠bf/\b≠W.heap.size+1)=>J.2).ag k7 λb _ J=>J.1).ag V λb _ J=>J.2).cU λb O J=>Y⟩
   .refine eQ _ (l3.ah M Yt) λu8 V l8=>?_;have ka:aj (λb=>b<v6.heap.size/\b≠bf/\b≠W.heap.size+1) u u8:=(a6.ag M λ_ _ _=>Yt).ag V λ_ _ J=>J.2.2;exact⟨U,⟨k1.ag ka λb O J=>⟨O,J⟩,l8,x,(Cf.ae M).ah V Y,λ_=>aa U,λe=>(by cases e)⟩,((a7.ag M λ_ _ _=>Yt).ag V λ_ _ J=>J).cU λb O J=>Y⟩
 .rintro _ u ⟨y,⟨k1,l1,x,Bx,aa,-⟩,hp⟩;subst aq;refine dL _ l1 (by simp) λu6 k6=>?_;have lb:=Bx.lt;have Bx:=Bx.ah k6 (by have:=Bf.lt;omega);have av:u6.heap[W.heap.size]? =some (.deferred (some [])):=((k1.ag k6 λ_ _ (J:_/\_)=>J.2).aS _ Y ⟨by have:=Bf.lt;omega,Y⟩).trans b7;refine go ?_;refine fg Bx λu7 C7 k7 _=>?_;have C7:aP u7 bf 309 x.c:=C7;have b6:u7.heap[W.heap.size]? =some (.deferred (some [])):=(k7.aS _ (asV.1 av).1 (by have:=Bf.lt;omega)).trans av;refine oN b6 ?_;have V:=aj.putObj u7 W.heap.size (.deferred none);refine da _ (bU (bF.aS (C7.ah V (by have:=Bf.lt;omega))) U)<|⟨((((X.ag k1 λb O _=>⟨Y,Y⟩).ag k6 λb O _=>Y).ag k7 λb O _=>Y).ag V λb O _=>Y),x,U,λe=>aa (hp e)⟩
end
end
end Go.Proofs.YtakcjkbnfegidaaGreat
