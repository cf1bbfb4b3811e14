/- Part. -/
import Derived.Test.YtakcjkbnfegidaaGreatPT11
set_option linter.all false
namespace Go.Proofs.YtakcjkbnfegidaaGreat
open Go Go.RowKit Tryz
variable{u w:World}{D:Nat->Prop}{b g i k m r:Nat}{d:aU}{l:aX}
section
open Classical
theorem Jg{D:Nat->Prop}{w:World}:∀{s:List Od},dW PC D w s (s.flatMap Od.c)
 |[]=>rfl
 |p::s=>⟨Od.c p,s.flatMap Od.c,rfl,rfl,Jg⟩
theorem CX{x:D8}:x=tY↔x.k=0/\x.h=0/\x.i=0/\x.n=0/\x.l=0:=by
 obtain⟨a,b,c,d,e⟩:=x;unfold tY;simp
section
variable {d:aU} {l:List Cm} {out:List Od} {s:DM×List Od}
theorem O3(h0:cH d=0)(u:yX d out)(J:∀o∈out,o.aC<=1073741824)(z:gO d out=some s):∀o∈s.2,0<=o.aC/\o.aC<=1073741824:=by
 obtain⟨O,S,e,N,G⟩:=GC h0 u z;intro o hm;rw[e] at hm;rcases atf.1 hm with h|h
 .exact⟨by have:=(u o h).2.2;omega,J o h⟩
 .obtain⟨-,c,-,-,M,-⟩:=(G.2 o).1 h;rw[M];exact jK (EA (gY h0) (N.all _)).2.1 c
theorem An:vy d l=true↔oK d l=0/\(eE d l).length<=4096/\∃s,gO d (eE d l)=some s/\s.2.length<=4096/\zx d (il qu s.2)=true:=by
 unfold vy;rw[wR];simp only[asv,asy,atj];cases J:gO d (eE d l) with
 |none=>simp
 |some s=>
  simp only[asv,asy,atW,exists_eq_left'];constructor
  .rintro⟨z,a2,a3,a4,a5,u⟩;exact⟨⟨z,a2,a3⟩,a4,a5,u⟩
  .rintro⟨⟨z,a2,a3⟩,a4,a5,u⟩;exact⟨z,a2,a3,a4,a5,u⟩
theorem wT{o:Od}(h:o∈eE d l):o.bP=true:=by
 obtain⟨_,_,-,-,-,rfl⟩:=kD.1 h;rfl
theorem Jh(h0:cH d=0)(z:uT d l)(J:(eE d l).all tX=true):pG d (eE d l):=by
 refine⟨λo u=>?_,Iv⟩;have hk:=tj (lP h0) z o u;have h1:=asH.1 J o u;unfold tX at h1;rw[asy] at h1;unfold DX;rw[wT u,asp U];exact⟨hk.2.1,hk.1,hk.2.2,h1⟩
theorem Wp(V:oK d l=0):Ja d (eE d l)=if 4096<(eE d l).length then(false,(2:Int)) else match gO d (eE d l) with
  |none=>(false,0)
  |some s=>if 4096<s.2.length then(false,2) else(true,0):=by
 obtain⟨W,a2,a3⟩:=wR.1 V
 obtain⟨u,-,M⟩:=iB.1 W
 have O:=Jh u (eF M) a3
 have rc:ly d (eE d l)=if 4096<(eE d l).length then 2 else 0:=by
  unfold ly
  rw[aso (by simpa using u),asp O]
 have z:nO d (eE d l)=if 4096<(eE d l).length then 2 else 0:=by
  unfold nO
  rw[a2,rc,aso (by simp)]
 have al:(eE d l).all (·.bP)=true:=by
  rw[asH];exactλo J=>wT J
 unfold Ja
 rw[z]
 by_cases q:4096<(eE d l).length
 .rw[asp q,asp Yd,asp q]
 .rw[aso q,aso Yd,al,aso (by simp),aso q]
  cases gO d (eE d l)<;>rfl
end
section
variable {D:Nat->Prop} {w:World} {A:Option Addr} {n c:Nat}
theorem bu.slO{w0:World}{xs:List Od}(o:bu w0 w A n c 114 4 (xs.flatMap Od.c))(hn:n<=100000000)(hD:∀b,w0.heap.size<=b->b<w.heap.size->D b):bS PC D w A n xs/\n=xs.length:=by
 have hl:n=xs.length:=by have:=o.own.an;exact Uf
 refine⟨o.own.rd (a:=PC) Jg hl Y λg hg=>?_,hl⟩;exact aoK
set_option maxRecDepth 8000 in
set_option maxHeartbeats 2000000 in
theorem O4{cb:aW}{d:aU}{l:List Cm}(hd:iG (λb=>b<w.heap.size) w cb d)(h:bS uQ (λb=>b<w.heap.size) w A n l):aK prog 162 #[.agg cb.toArray,aB A n c] w (λv w'=>ax w w'/\∃(A':bZ) (n' c':Nat) (x:D8) (e:Int),v=.tuple #[aB A' n' c',.agg x.c.toArray,iv e]/\(vy d l=true↔e=0/\x=tY)):=by
 have av:=hd;have hl:=h.an;obtain⟨A1,n1,c1,A2,n2,c2,A3,n3,c3,A4,n4,c4,A5,n5,c5,A6,n6,c6,rfl,ea,-⟩:=hd.ex;refine aF func162 Z<|box λb2 w1 h1=>alloc λb4 w2 h2=>alloc λb5 w3 h3=>alloc λb6 w4 h4=>?_;have e2:=h1.au;have e4:=h2.au;have e5:=h3.au;have e6:=h4.au;have s1:=h1.size;have s2:=h2.size;have s3:=h3.size;have s4:=h4.size;have b1:=((h1.ae.trans h2.ae).trans h3.ae).trans h4.ae;have B2:=h1.aS.ae ((h2.ae.trans h3.ae).trans h4.ae);have V:=h2.aS.ae (h3.ae.trans h4.ae);have O:=h3.aS.ae h4.ae;have M:=h4.aS;refine go<|aJ (OY (av.ae b1) (h.ae b1)) ?_;rintro _ w5 ⟨x5,A7,n7,c7,rfl,bq⟩;refine st1 (M.ae x5) U λw6 M X=>?_;have B2:=(B2.ae x5).ah X Y;have V:=(V.ae x5).ah X Y;have O:=(O.ae x5).ah X Y;have ak:=(b1.trans x5).ag X λb hb _=>Y;have z5:=x5.size;have z6:=X.size;obtain⟨er,bG⟩:∃er,er=oK d l:=⟨_,U⟩;rw[<-bG] at M bq;refine go<|cN (λq=>?_) λq=>?_
 .refine bR (oP [2,3,4] [] [0,1,2,3,4]) [] (λz=>aP z b5 309 tY.c/\aP z b6 51 [iv er]) mx Z ⟨O,M⟩<|xM tY.c (λv hv=>.aS hv.1) U<|pb _ (λv hv=>hv.2.ai U)<|st1 V U λw7 V k7=>?_;have O:=(O).ah k7 Y;have M:=(M).ah k7 Y;refine bN ⟨O,M⟩<|jR O U Yl Ys λw8 C5 k8 _=>?_;have O:=C5;have V:=V.ah k8 Y;have M:=M.ah k8 Y;refine bN ⟨O,M⟩<|st1 M U λw9 M k9=>?_;have O:=O.ah k9 Y;have V:=V.ah k9 Y;refine bN ⟨O,M⟩<|ret<|da _ (bj (V.ai U))<|da _ (bU (bF.aS (O)) U)<|da _ (bj (M.ai U))<|⟨(((ak).ag k7 λb hb _=>Y).ag k8 λb hb _=>Y).ag k9 λb hb _=>Y,none,0,0,tY,_,U,?_⟩;rw[An,<-bG];exact⟨λe=>absurd e.1 q,λe=>absurd e.1 q⟩
 have bh:oK d l=0:=Y;have cT:er=0:=Y;subst cT;have bk:=bq U;have bb:=bk.new;have o7:=(bk.base b1).bY X (λg hg e=>by have:=bb g hg;omega) ak;obtain⟨dd,ef,db⟩:=wR.1 bh;obtain⟨a7,eb,cI⟩:=iB.1 dd;have bE:=eF cI;have hh:=eC a7;obtain⟨m1,m2,-⟩:=jO a7;have dk:=sr (d:=d) (l:=l);have ee:d.aG.toNat*d.aR.length<=4096*600:=atK Y m2;obtain⟨cg,cw⟩:=o7.slO (D:=λb=>b<w6.heap.size) (by have:=o7.own.an;rw[bz (K:=4) λ_=>rfl] at this;omega) λb _ h=>h
 have bp:∀o∈eE d l,(0<=o.index/\o.index<d.aR.length)/\(0<=o.aH/\o.aH<d.aG)/\1<=o.aC/\o.aC<=1073741824:=λo ho=>by have hk:=tj (lP a7) bE o ho;have h1:=asH.1 db o ho;unfold tX at h1;rw[asy] at h1;exact⟨hk.1,hk.2.1,hk.2.2,h1⟩
 have rp:=Wp bh;refine go<|aJ (Jb ((av.ae ak).ar λb _ hb=>by have:=ak.size;omega) cg) ?_;rintro _ w7 ⟨x7,A8,n8,c8,rfl,bo⟩;have z7:=x7.size;refine st1 (V.ae x7) U λw8 V k8=>st1 ((M.ae x7).ah k8 Y) U λw9 M k9=>?_;have V:=V.ah k9 Y;have O:=((O.ae x7).ah k8 Y).ah k9 Y;have B2:=((B2.ae x7).ah k8 Y).ah k9 Y;have af:=((ak.trans x7).ag k8 λb hb _=>Y).ag k9 λb hb _=>Y;have z8:=k8.size;have z9:=k9.size;obtain⟨ca,J⟩:∃er,er=(Ja d (eE d l)).2:=⟨_,U⟩;obtain⟨ok,a6⟩:∃b,b=(Ja d (eE d l)).1:=⟨_,U⟩;rw[<-J] at M;rw[<-a6] at bo|-;refine go<|cN (λq2=>?_) λq2=>?_
 .refine bR (oP [2,3,4] [] [0,1,2,3,4]) [] (λz=>aP z b5 309 tY.c/\aP z b6 51 [iv ca]) mx Z ⟨O,M⟩<|xM tY.c (λv hv=>.aS hv.1) U<|pb _ (λv hv=>hv.2.ai U)<|st1 V U λw7 V k7=>?_;have O:=(O).ah k7 Y;have M:=(M).ah k7 Y;refine bN ⟨O,M⟩<|jR O U Yl Ys λw8 C5 k8 _=>?_;have O:=C5;have V:=V.ah k8 Y;have M:=M.ah k8 Y;refine bN ⟨O,M⟩<|st1 M U λw9 M k9=>?_;have O:=O.ah k9 Y;have V:=V.ah k9 Y;refine bN ⟨O,M⟩<|ret<|da _ (bj (V.ai U))<|da _ (bU (bF.aS (O)) U)<|da _ (bj (M.ai U))<|⟨(((af).ag k7 λb hb _=>Y).ag k8 λb hb _=>Y).ag k9 λb hb _=>Y,none,0,0,tY,_,U,?_⟩;rw[An];refine⟨λ⟨_,a2,s,a3,a4,_⟩=>absurd ?_ q2,λe=>absurd e.1 q2⟩;rw[J,rp,aso Y,a3];simp only[];rw[aso Y]
 have c9:ca=0:=Y;subst c9;cases ok with
 |false=>
  have br:gO d (eE d l)=none:=by
   rw[rp] at J a6;by_cases q3:4096<(eE d l).length
   .rw[asp q3] at J;cases J
   .rw[aso q3] at J a6;cases hp:gO d (eE d l) with
    |none=>rfl
    |some s=>
     rw[hp] at J a6;simp only[] at J a6;by_cases q4:4096<s.2.length
     .rw[asp q4] at J;cases J
     .rw[aso q4] at a6;cases a6
  have bw:n7<=4096:=by
   rw[cw];rw[rp] at J;by_cases q3:4096<(eE d l).length
   .rw[asp q3] at J;cases J
   .omega
  refine go<|aJ (SQ (av.ae af)) ?_;rintro _ ao ⟨p2,p3,rfl,a8,D2,D3,cp,ck⟩;have cd:=a8.size;have aq:=af.trans a8;have b0:bS PC (λb=>b<ao.heap.size) ao A7 n7 (eE d l):=by have o9:=(((o7.ag x7).bY k8 (λg hg e=>by have:=bb g hg;omega) ((ak.trans x7).ag k8 λb hb _=>Y)).bY k9 (λg hg e=>by have:=bb g hg;omega) af).ag a8;exact(o9.slO Y λb _ h=>h).1
  refine aJ (O2 a7 D2 D3 ((av.ae aq).ar λb _ hb=>by have:=aq.size;omega) b0 bw bp) ?_;rintro _ e3 ⟨ab,x,rfl,hx⟩;have W:=a8.trans ab;refine st1 (V.ae W) U λe1 V ba=>jR ((O.ae W).ah ba Y) U Yl Ys λe0 O b8 _=>?_;refine st1 (((M.ae W).ah ba Y).ah b8 Y) U λdO M b7=>?_;have V:=(V.ah b8 Y).ah b7 Y;have O:=O.ah b7 Y;refine ret<|da _ (bj (V.ai U))<|da _ (bU (bF.aS (O)) U)<|da _ (bj (M.ai U))<|⟨(((af.trans W).ag ba λb hb _=>Y).ag b8 λb hb _=>Y).ag b7 λb hb _=>Y,none,0,0,x,0,U,?_⟩;rw[An];refine⟨λ⟨_,_,s,a3,_⟩=>(by rw[br] at a3;cases a3),λe=>absurd (CX.1 e.2).2.2.2.1 (hx br)⟩
 |true=>
  obtain⟨s,b3,ec,o8⟩:=bo U;have bt:=o8.new;have hlen:¬4096<(eE d l).length/\¬4096<s.2.length:=by
   rw[rp] at J;by_cases q3:4096<(eE d l).length
   .rw[asp q3] at J;cases J
   .rw[aso q3,b3] at J;simp only[] at J;by_cases q4:4096<s.2.length
    .rw[asp q4] at J;cases J
    .exact⟨q3,q4⟩
  have bx:vy d l=true↔zx d (il qu s.2)=true:=by
   rw[An];constructor
   .rintro⟨-,-,s',a3,-,a5⟩;rw[b3] at a3;injection a3 with a3;subst a3;exact a5
   .intro a5;exact⟨bh,Y,s,b3,Y,a5⟩
  have bA:∀o∈il qu s.2,0<=o.aC/\o.aC<=1073741824:=λo ho=>O3 a7 (tj (lP a7) bE) (λo ho=>(bp o ho).2.2.2) b3 o ((cP _).mem_iff.1 ho);refine go<|aJ (Ln (av.ae af)) ?_;rintro _ ao ⟨p2,p3,rfl,a8,D2,D3,cp,ck⟩;have cd:=a8.size;have aq:=af.trans a8;have bm:=(((o8.base ak).bY k8 (λg hg e=>by have:=bt g hg;omega) ((ak.trans x7).ag k8 λb hb _=>Y)).bY k9 (λg hg e=>by have:=bt g hg;omega) af).ag a8;obtain⟨b0,e8⟩:=bm.slO (D:=λ_=>True) (by have:=bm.own.an;rw[bz (K:=4) λ_=>rfl,(cP _).length_eq] at this;omega) λ_ _ _=>Yt
  have e7:=V.lt;refine range (gf:=312) (lb:=#[ptr p3,ptr p2]) U λfn tmps v6 RL bI hF cq ab zz bT be=>?_;show aK _ _ #[.func (.yield (ao.heap.size+1)) #[] #[],ptr p3,ptr p2] v6 _;have aE:=aq.trans ab;have W:=a8.trans ab;have E4:=V.ae W;have E5:=O.ae W;have E6:=M.ae W;have df:=ab.size;refine(Jf (w:=v6) (D':=λ_=>True) (λz=>∃r,dc z (ao.heap.size+1) r/\r.state≠.busy/\r.pending=some .ret/\aP z b4 46 [aY]/\(∃x:D8,aP z b5 309 x.c/\x.k≠0)/\aP z b6 51 [iv 0]/\aj (λx=>x≠b4/\x≠b5/\x≠b6/\x≠ao.heap.size+1) v6 z) ?_ a7 (D2.ae ab) (D3.ae ab) (av.ae aE) (b0.ae ab) (by have:=(cP (lt:=qu) s.2).length_eq;omega) bA).mono ?_
  .rintro u f1 f2 f3 f4 f5 cK xu;subst bI;apply dQ (args:=[.agg (DZ f1 f2 f3 f4 f5).toArray]) (be.ah xu Yt) U rfl hF cq;have zu:=xu.size;refine alloc λb9 u1 a1=>jR a1.aS U Yl Ys λu2 C9 k2 dx=>?_;have e9:=a1.au;have t9:=a1.size;have cf:=a1.ae.ag k2 λb hb _ e=>Y;have ay:=xu.trans cf;refine tN (be.ah ay Yt) λu3 k3 ds l3=>?_;have C9:=C9.ah k3 Y;have G4:=(E4.ae ay).ah k3 Y;have G5:=(E5.ae ay).ah k3 Y;have G6:=(E6.ae ay).ah k3 Y;refine bR (oP [1,2,3] [] [0,1,2,3]) [] (λz=>aP z b9 309 [iv f1,iv f2,iv f3,iv f4,iv f5]) mx Z C9<|xM [iv f1,iv f2,iv f3,iv f4,iv f5] (λv hv=>.aS hv) U<|st1 G4 U λu4 G4 k4=>?_;have C9:=C9.ah k4 Y;refine bN C9<|jR (G5.ah k4 Y) U Yl Ys λu5 G5 k5 _=>?_;have C9:=C9.ah k5 Y;refine bN C9<|st1 ((G6.ah k4 Y).ah k5 Y) U λu6 G6 X=>bN (C9.ah X Y) ?_;have l6:=((l3.ah k4 Y).ah k5 Y).ah X Y;refine vM _ l6 λu7 k7 l7=>⟨U,_,l7,by simp,U,((G4.ah k5 Y).ah X Y).ah k7 Y,⟨⟨f1,f2,f3,f4,f5⟩,(G5.ah X Y).ah k7 Y,cK⟩,G6.ah k7 Y,((((((ax.any ay).ag k3 λ_ _ hh=>hh.2.2.2).ag k4 λ_ _ hh=>hh.1).ag k5 λ_ _ hh=>hh.2.1).ag X λ_ _ hh=>hh.2.2.1).ag k7 λ_ _ hh=>hh.2.2.2)⟩
  .rintro _ u (⟨hf,xu⟩|⟨hf,r,l6,ct,cr,G4,⟨x,G5,hx⟩,G6,k1⟩)
   .subst bI;refine dL _ (be.ah xu Yt) (by simp) λu6 X=>?_;have zu:=xu.size;have bg:=(X.aS _ Y Y).trans ((xu.aS _ Y Yt).trans bT);have G4:=(E4.ae xu).ah X Y;have G5:=(E5.ae xu).ah X Y;have G6:=(E6.ae xu).ah X Y;refine bR (oP [2,3,4] [] [0,1,2,3,4]) [] (λz=>aP z b4 46 [aB A8 n8 c8]/\aP z b5 309 tY.c) mx Z ⟨G4,G5⟩<|pb (aB A8 n8 c8) (λv hv=>hv.1.ai U)<|xM tY.c (λv hv=>.aS hv.2) U<|st1 G4 U λu7 G4 k7=>?_;have G5:=G5.ah k7 Y;refine bN ⟨G4,G5⟩<|jR G5 U Yl Ys λu8 G5 k8 _=>?_;have G5:aP u8 b5 309 tY.c:=G5;have G4:=G4.ah k8 Y;refine bN ⟨G4,G5⟩<|st1 ((G6.ah k7 Y).ah k8 Y) U λu9 G6 k9=>?_;have G4:=G4.ah k9 Y;have G5:=G5.ah k9 Y;apply bN ⟨G4,G5⟩;have kk:aj (λb=>b≠b4/\b≠b5/\b≠b6) u6 u9:=((k7.cU λ_ _ hh=>hh.1).ag k8 λ_ _ hh=>hh.2.1).ag k9 λ_ _ hh=>hh.2.2;have dp:=X.size;have cL:=(kk.aS _ Y ⟨Y,Y,Y⟩).trans bg;apply oN cL;have aa:=aj.putObj u9 ao.heap.size (.deferred none);refine da _ (bj ((G4.ah aa Y).ai U))<|da _ (bU (bF.aS (G5.ah aa Y)) U)<|da _ (bj ((G6.ah aa Y).ai U))<|⟨(((aE.trans xu).ag X λb hb _=>Y).ag kk λb hb _=>⟨Y,Y,Y⟩).ag aa λb hb _=>Y,A8,n8,c8,tY,0,U,?_⟩;rw[bx];exact⟨λ_=>⟨U,U⟩,λ_=>hf⟩
   .have dy:=k1.size;refine dL r l6 ct λu6 X=>?_;rw[cr];have bg:=(X.aS _ Y Y).trans ((k1.aS _ Y ⟨Y,Y,Y,Y⟩).trans bT);apply oN bg;have aa:=aj.putObj u6 ao.heap.size (.deferred none);refine da _ (bj (((G4.ah X Y).ah aa Y).ai U))<|da _ (bU (bF.aS ((G5.ah X Y).ah aa Y)) U)<|da _ (bj (((G6.ah X Y).ah aa Y).ai U))<|⟨((aE.ag k1 λb hb _=>⟨Y,Y,Y,Y⟩).ag X λb hb _=>Y).ag aa λb hb _=>Y,none,0,0,x,0,U,?_⟩;rw[bx,hf];exact⟨λe=>(by cases e),λe=>absurd (CX.1 e.2).1 hx⟩
theorem Ji{V:aW}{d:aU}{l:List Cm}(hd:iG (λb=>b<w.heap.size) w V d)(h:bS uQ (λb=>b<w.heap.size) w A n l):aK prog 73 #[.agg V.toArray,aB A n c] w (λv w'=>ax w w'/\∃W n' c' e,v=.tuple #[aB W n' c',.bool (vy d l),iv e]/\(vy d l=true->e=0)):=by
 have a1:=hd;obtain⟨A1,n1,c1,A2,n2,c2,A3,n3,c3,A4,n4,c4,A5,n5,c5,A6,n6,c6,rfl,a6,-⟩:=hd.ex;refine aF func73 Z<|box λb2 w1 h1=>?_;have B2:=h1.aS;have u:=h1.ae;refine go<|aJ (O4 ((a1.ae u).ar λb _ O=>by have:=u.size;omega) ((h.ae u).ar Yd λb _ O=>by have:=u.size;omega)) ?_;rintro _ w2 ⟨x2,W,n',c',x,e,rfl,hm⟩;refine alloc λb7 w3 h3=>jR h3.aS U Yl Ys λw4 B7 k4 _=>?_;have e7:=h3.au;have X:ax w2 w4:=h3.ae.ag k4 λb O _ e=>Y;have J:=(u.trans x2).trans X;refine bR (oP [] [] [0,1,2,3,4,5,6,7,8,9,10,11]) [] (λz=>z=w4) mx Z U<|cE (λq=>?_) λq=>?_
 .subst q;refine xM x.c (λv hv=>by rw[hv];exact .aS B7) U<|hY tY.c Z<|Uz ((x.k == 0)&&((x.h == 0)&&((x.i == 0)&&((x.n == 0)&&((x.l == 0)&&true))))) Z (λq=>?_) λq=>?_
  .have M:=hm.2 ⟨U,by rw[CX];simpa using q⟩;exact ret ⟨J,W,n',c',0,by rw[M]<;>rfl,λ_=>rfl⟩
  .have M:vy d l=false:=by
    cases O:vy d l with
    |false=>rfl
    |true=>
     have:=(hm.1 O).2;rw[this] at q;exact absurd q Yd
   exact ret ⟨J,W,n',c',0,by rw[M]<;>rfl,λe=>absurd (M.symm.trans e) Yd⟩
 .have M:vy d l=false:=by
   cases O:vy d l with
   |false=>rfl
   |true=>exact absurd (hm.1 O).1 q
  exact ret ⟨J,W,n',c',e,by rw[M]<;>rfl,λe1=>absurd (M.symm.trans e1) Yd⟩
end
end
abbrev sv:=bZ×Nat×Nat×aW
abbrev sv.v(s:sv):Value:=.slice s.1 s.2.1 s.2.2.1
def GZ(ss:List sv):Nat:=(ss.map λs=>s.2.1).sum
theorem Fi{ss:List sv}{s:sv}:GZ (ss++[s])=GZ ss+s.2.1:=by unfold GZ;rw[asK,List.sum_append_nat];simp
theorem Nb{B:Nat}:∀{ss:List sv},(∀s∈ss,s.2.1<=B)->GZ ss<=ss.length*B
 |[],_=>atc _
 |s::ss,h=>by
  have h1:=Nb (ss:=ss) λy u=>h y (ast _ u)
  have z:=h s ass
  unfold GZ at h1|-
  rw[asQ,atu,as2,avx]
  omega
section
variable {D:Nat->Prop} {w:World}
theorem SU(hk:k<=10000000):aK prog 159 #[aY,iv (k:Int)] w (λv M=>∃A c,v=aB A 0 c/\bu w M A 0 c 37 1 []):=by
 refine aF func159 Z<|cD (λq=>absurd q Y) λq=>Wo<|go<|cD (λO=>?_) λO=>?_
 .refine Wo<|SO U rfl<|anh (sz:=1) k U Y Y Y U Y λc w1 cs W J z X V=>an<|F5 0 0 U rfl Y Y Y<|aQ _ U ⟨_,_,U,⟨jH.iH (xs:=[]) (rest:=cs) X U z Y J,V,λg u=>by injection u with u;injection u with u;omega⟩⟩
 .exact aQ _ U ⟨none,0,U,bu.nil (.refl _ _)⟩
theorem Wq{ss:List sv}{cap:Nat}(hb:aP w g 38 (ss.map sv.v))(hm:m=ss.length)(J:m<=8)(hs:∀s∈ss,Src w s.1 s.2.1 1 s.2.2.2/\s.2.1<=100000/\(s.2.2.2.all λu=>u.oneCell')=true):aK prog 67 #[aB (aL g) m cap] w (λv w'=>∃A n c,v=aB A n c/\bu w w' A n c 37 1 (ss.flatMap (·.2.2.2))):=by
 apply aF func67 Z;refine aoR ?_;intro au MY;rintro G k u ⟨hk,rfl⟩;refine cD (λhlt=>?_) λhge=>?_
 .exact YB
 refine aJ (SU (by have:=MY k;omega)) ?_;rintro _ w1 ⟨A1,c1,rfl,o1⟩;apply an;apply uk (λ(k:Nat) (A:bZ) (n c:Nat)=>[(27,iv (k:Int)),(6,aB A n c)]) (λk A n c y=>k<=m/\n=GZ (ss.take k)/\bu u y A n c 37 1 ((ss.take k).flatMap (·.2.2.2))) (λk _ _ _ _=>m-k) 0 A1 0 c1 ⟨U,U,Yt⟩ ⟨Y,U,o1⟩ U;exact aow
theorem SX(hk:k<=10000000):aK prog 171 #[aY,iv (k:Int)] w (λv M=>∃A c,v=aB A 0 c/\bu w M A 0 c 65 5 []):=by
 refine aF func171 Z<|cD (λq=>absurd q Y) λq=>Wo<|go<|cD (λO=>?_) λO=>?_
 .refine Wo<|SO U rfl<|anh (sz:=5) k U Y Y Y U Y λc w1 cs W J z X V=>an<|F5 0 0 U rfl Y Y Y<|aQ _ U ⟨_,_,U,⟨jH.iH (xs:=[]) (rest:=cs) X U z Y J,V,λg u=>by injection u with u;injection u with u;omega⟩⟩
 .exact aQ _ U ⟨none,0,U,bu.nil (.refl _ _)⟩
theorem Wr{ss:List sv}{cap:Nat}(hb:aP w g 58 (ss.map sv.v))(hm:m=ss.length)(J:m<=8)(hs:∀s∈ss,Src w s.1 s.2.1 5 s.2.2.2/\s.2.1<=100000/\(s.2.2.2.all λu=>u.oneCell')=true):aK prog 78 #[aB (aL g) m cap] w (λv w'=>∃A n c,v=aB A n c/\bu w w' A n c 65 5 (ss.flatMap (·.2.2.2))):=by
 apply aF func78 Z;refine aoR ?_;intro au MY;rintro G k u ⟨hk,rfl⟩;refine cD (λhlt=>?_) λhge=>?_
 .exact YB
 refine aJ (SX (by have:=MY k;omega)) ?_;rintro _ w1 ⟨A1,c1,rfl,o1⟩;apply an;apply uk (λ(k:Nat) (A:bZ) (n c:Nat)=>[(27,iv (k:Int)),(6,aB A n c)]) (λk A n c y=>k<=m/\n=GZ (ss.take k)/\bu u y A n c 65 5 ((ss.take k).flatMap (·.2.2.2))) (λk _ _ _ _=>m-k) 0 A1 0 c1 ⟨U,U,Yt⟩ ⟨Y,U,o1⟩ U;exact aow
end
section
variable {d:aU} {cl hs hd aw:List Int} {mk:List Mk} {E:Int}
theorem SY{x:Reach}{t v:Int}(A:eB x=true)(z:0<=v/\v<=1073741824)(h0:0<=t)(h:t<=nC x v)(hs:v=0\/x.dM<=v):∃u,dD x t=some u/\u<=v:=by
 unfold dD;by_cases e:t=0
 .rw[asp e];exact⟨0,U,z.1⟩
 .rw[aso e];have J:=BF A z;have f:=mZ (w:=t) A;have hle:rG x t<=v:=by
   by_cases q:rG x t<=v
   .exact q
   .have:=f.no v z.1 Y;rw[asZ] at this;omega
  rw[aso Y,aso Y];refine⟨_,U,?_⟩;rcases hs with rfl|hs
  .omega
  .omega
theorem oQ.sB(D:oQ d cl hs E hd aw mk)(R:DO d cl hs)(O:0<=E):∀k,k<=d.aD.length->∃J,dG d aw k=some J/\J.length=d.aD.length/\(∀r,0<=bL J r)/\∀r,r<d.aD.length->bL J r<=bL hd r
 |0,_=>by
  have z:∀c,bL (List.replicate d.aD.length 0) c=0:=λc=>by
   unfold bL;rw[asC,at7];split<;>rfl
  exact⟨_,rfl,atz ..,λr=>by rw[z];exact asO _,λr X=>by rw[z];exact(D.ok R O X).1⟩
 |k+1,hk=>by
  obtain⟨J,e,l',Z,V⟩:=D.sB R O k Y
  obtain⟨r,X⟩:∃r,r=d.aD.length-1-k:=⟨_,rfl⟩
  have M:r<d.aD.length:=Y
  have A:=D.PA R O M
  have hw:=R.work (hd:=hd) M (D.ok R O M)
  have hlen:(dg d aw J r).length=(dg d cl hs r).length:=by rw[jy,jy]
  have part:∀i,i<(dg d aw J r).length->0<=bL (dg d aw J r) i/\bL (dg d aw J r) i<=dC (DN mk r) (bL (dg d cl hs r) i) i:=λi hi=>by
   rw[jy] at hi
   have W:=asw hi
   obtain⟨e1,-⟩:=H4 (cl:=aw) (hs:=J) W
   have b:=A.b i (by rw[jy];exact hi)
   obtain⟨q,j,hq⟩:∃q j,(fF d r)[i]=(q,j):=⟨_,_,rfl⟩
   rw[hq] at W e1
   rw[e1]
   cases q with
   |true=>
    have:=(D.au r M).aO i j W
    show 0<=bL aw j/\bL aw j<=_
    rw[this];exact⟨b.1,asO _⟩
   |false=>
    have hj:=(R.v.child (asq W)).2
    have:=(D.au r M).child i j W
    have c:=H3 (d:=d) (r:=j) b.1
    have:=V j hj
    show 0<=bL J j/\bL J j<=_
    exact⟨Z j,Y⟩
  have rf:0<=aV (dg d aw J r)/\aV (dg d aw J r)<=nC (dB d r) (bL hd r):=by
   have s1:=vO (f:=bL (dg d aw J r)) (g:=λi=>dC (DN mk r) (bL (dg d cl hs r) i) i) (n:=(dg d aw J r).length) λi hi=>(part i hi).2
   have s0:=vO (f:=λ_=>0) (g:=bL (dg d aw J r)) (n:=(dg d aw J r).length) λi hi=>(part i hi).1
   rw[xQ,zW] at s0
   rw[zW,hlen,A.s] at s1
   have:=hw.2.2.1
   have e2:aV (dg d aw J r)=(dg d aw J r).sum:=U
   omega
  obtain⟨u,hu,hle⟩:=SY (R.v.rO M).1 (D.ok R O M) rf.1 rf.2 (D.head R O r M).2.2
  have hb:=qm _ _ (R.v.rO M).2 (R.v.rO M).1 hu
  refine⟨J.set r u,?_,by rw[asU];exact l',λc=>?_,λc hc=>?_⟩
  .rw[dG,e]
   dsimp only
   rw[<-X,hu]
  .rw[eR Y]
   split
   .exact hb.1
   .exact Z c
  .rw[eR Y]
   split
   .rename_i q;subst q;exact hle
   .exact V c hc
end
section
open Classical
def wU(d:aU)(aN:Int)(xs:List r9)(k:Nat)(f:Int):List qZ:=(List.range k).filterMap λi=>match d.ed[i]? with
 |some x=>if x.aO=f then some (oW d aN xs i x) else none
 |none=>none
theorem O5{aN:Int}{xs:List r9}{f:Int}{x:BD}(h:d.ed[k]? =some x):wU d aN xs (k+1) f=if f=x.aO then wU d aN xs k x.aO++[oW d aN xs k x] else wU d aN xs k f:=by
 unfold wU;rw[atn,auP,avt,h];simp only[awg];by_cases e:f=x.aO
 .exact Yg
 .exact Yg
def anj(d:aU)(aN:Int)(xs:List r9)(c:Cm):Bool:=(wU d aN xs d.ed.length c.aO).all λp=>!dS c.aH p.first (p.fin-1)
def acA(d:aU)(xs:List r9)(c:List Cm)(aN:Int):List Cm:=c.filter (anj d aN xs)
noncomputable def jB (d:aU)(xs:List r9)(c:List Cm)(aN:Int):Int:=if iC d xs≠0 then iC d xs else if ez d c≠0 then ez d c else if dS aN 0 1048576 then 0 else 1
structure SZ (D:Nat->Prop) (w:World) (g:Nat) (F:Int->List qZ):Prop where
 own:D g
 ex:∃m:Int->Option Value,dw fY w g m/\∀r:Int,∃A n c,(m r).getD (.slice none 0 0)=.slice A n c/\bS acf D w A n (F r)/\n<=c
theorem SZ.ae{F:Int->List qZ}(h:SZ D w g F)(k:ax w u):SZ D u g F:=by
 obtain⟨h0,m,h1,J⟩:=h;refine⟨h0,m,h1.ah k Yt,λr=>?_⟩;obtain⟨A,n,c,e,hs,z⟩:=J r;exact⟨A,n,c,e,hs.ae k,z⟩
theorem Jj{D:Nat->Prop}{w:World}:∀{s:List qZ},dW acf D w s (s.flatMap qZ.c)
 |[]=>rfl
 |x::s=>⟨qZ.c x,s.flatMap qZ.c,rfl,rfl,Jj⟩
section
variable {D:Nat->Prop} {w:World} {A:Option Addr} {n c:Nat}
set_option maxRecDepth 4000 in
theorem Lp{x:Cm}{F:Int->List qZ}(hB:aP w b 391 [.map (some g)])(hP:SZ D w g F)(hF:∀r,∀p∈F r,0<=p.fin/\p.fin<=4096):aA 239 #[.agg (bM x).toArray,ptr b] w (.bool ((F x.aO).all λp=>!dS x.aH p.first (p.fin-1))):=by
 apply aF func239 Z;refine box λb2 W h1=>?_;have B2:=h1.aS;have ab:=hB.ae h1.ae;obtain⟨-,m,M,hm⟩:=hP.ae h1.ae;obtain⟨A,n,c,e,hs,hc⟩:=hm x.aO;have hl:=hs.an;have hle:=hs.le;refine go ?_;refine dh (kv:=fY) x.aO (aB A n c) (λu hu=>Yg) ?_;refine an ?_;refine aM (λk:Nat=>[(11,iv (k:Int))]) (λk u=>k<=n/\ax W u/\((F x.aO).all λp=>!dS x.aH p.first (p.fin-1))=((F x.aO).drop k).all λp=>!dS x.aH p.first (p.fin-1)) (λk _=>n-k) 0 ⟨U,Yt⟩ ⟨Y,.refl _ _,U⟩ U ?_;rintro G k u ⟨hk,J,he⟩;refine cD (λa7=>?_) λa8=>?_
 .obtain⟨b,o,cs,p,rfl,hp,O,-,aa,rfl⟩:=(hs.ae J).au (show k<n from Y);rw[O,atv] at he;have a6:=hF _ p (asq hp);refine go ?_;refine alloc λb5 u1 V=>?_;refine fg V.aS λu2 B5 k2 z2=>?_;have e5:=V.au;have z:=V.ae.ag k2 λb hb _ e=>Y;have af:=(B2.ae J).ae z;refine go ?_;refine cR y7 (λq=>?_) λq=>?_
  .exact aQ _ U ⟨by rw[he,q];rfl,(h1.ae.trans J).trans z⟩
  .refine go ?_;refine next (k+1) ⟨Yn,Yt⟩ ⟨Y,J.trans z,by rw[he,q];rfl⟩ Y
 .exact aQ _ U ⟨by rw[he,as8 Y];rfl,h1.ae.trans J⟩
theorem O6{xs:List Cm}{p:Cm->Bool}(h:bS uQ D w A n xs)(hn:n<=4096)(hp:∀x u,ax w u->aA 239 #[.agg (bM x).toArray,ptr b] u (.bool (p x))):aK prog 238 #[aB A n c,.func (.func 239) #[] #[ptr b]] w (λv W=>∃J n' c',v=aB J n' c'/\n'<=n/\bu w W J n' c' 65 5 ((xs.filter p).flatMap bM)):=by
 have hl:=h.an;have hle:=h.le;apply aF func238 Z;apply an;refine aM (λs:Nat×bZ×Nat×Nat=>[(9,iv (s.1:Int)),(4,aB s.2.1 s.2.2.1 s.2.2.2)]) (λs u=>s.1<=n/\s.2.2.1<=s.1/\bu w u s.2.1 s.2.2.1 s.2.2.2 65 5 (((xs.take s.1).filter p).flatMap bM)) (λs _=>n-s.1) (0,none,0,0) ⟨U,U,Yt⟩ ⟨by show 0<=n;omega,by show 0<=0;omega,bu.nil (.refl _ _)⟩ U ?_;rintro G ⟨k,J,n',c'⟩ u ⟨hk,a6,own⟩;simp only at hk a6 own;refine cD (λa7=>?_) λa8=>?_
 .obtain⟨b0,o,cs,x,rfl,hx,-,-,hc,rfl⟩:=(h.ae own.ae).au (show k<n from Y);have M:xs.take (k+1)=xs.take k++[x]:=by rw[asD,hx];rfl
  refine go ?_;refine alloc λb6 u1 a1=>?_;refine fg a1.aS λX V k2 z2=>?_;have V:aP X b6 65 (bM x):=V;have e6:=a1.au;have z:ax u X:=a1.ae.ag k2 λb hb _ e=>Y;refine go ?_;refine dt (hp x X (own.ae.trans z)) (λu3 q O=>?_) λu3 q O=>?_
  .have V:=V.ae O;refine go ?_;refine lit [.agg (bM x).toArray] λg1 u4 hq=>?_;refine iI (n:=n') (m:=1) ((own.ag (z.trans O)).ag hq.ae) (hq.src (sz:=5) U) Y λF1 d1 u5 p1 k5 hF=>?_;refine go ?_;refine next (k+1,F1,n'+1,d1) ⟨by show iv _=iv _;rw[asA];rfl,U,Yt⟩ ⟨by show k+1<=n;omega,by show n'+1<=k+1;omega,?_⟩ Yg;show bu w u5 F1 (n'+1) d1 65 5 (((xs.take (k+1)).filter p).flatMap bM);rw[M,atp,atT,asp q,as7];exact p1
  .refine go ?_;refine next (k+1,J,n',c') ⟨by show iv _=iv _;rw[asA];rfl,U,Yt⟩ ⟨by show k+1<=n;omega,by show n'<=k+1;omega,?_⟩ Yg;show bu w u3 J n' c' 65 5 (((xs.take (k+1)).filter p).flatMap bM);rw[M,atp,atT,aso (by rw[q];decide),awG,asT];exact own.ag (z.trans O)
 .rw[asx Y] at own;exact aQ _ U ⟨J,n',c',U,Y,own⟩
end
section
variable {D:Nat->Prop} {w:World} {A:Option Addr} {n c:Nat}
set_option maxRecDepth 4000 in
theorem O7{bA:aW}{xs:List r9}{cl:List Cm}{C:bZ}{e:Nat}{aN:Int}(hd:iG D w bA d)(h:bS XI D w A n xs)(hc:bS uQ D w C m cl):aK prog 166 #[.agg bA.toArray,aB A n c,aB C m e,iv aN] w (λv w'=>∃A' n' c',v=.tuple #[aB A' n' c',iv (jB d xs cl aN)]/\ax w w'/\(jB d xs cl aN=0->n'<=m/\bu w w' A' n' c' 65 5 ((acA d xs cl aN).flatMap bM))/\(jB d xs cl aN≠0->A'=none/\n'=0/\c'=0)):=by
 have hd0:=hd.ar (D':=λb=>b<w.heap.size) λb h _=>h;have hx0:=h.ar (D':=λb=>b<w.heap.size) Yd λb h _=>h;have hc0:=hc.ar (D':=λb=>b<w.heap.size) Yd λb h _=>h;have V:=hd0;obtain⟨A1,n1,c1,A2,n2,c2,A3,n3,c3,A4,n4,c4,A5,n5,c5,A6,n6,c6,rfl,-,-,-,-,hdu,-⟩:=hd0.ex;have db:=hdu.an;have dd:=hdu.le;refine aF func166 Z<|box λb4 w1 h1=>?_;have e1:=h1.au;have s1:=h1.size;have B4:=h1.aS;refine go<|bW (CA (V.ae h1.ae) (hx0.ae h1.ae)) λw2 x2=>?_;have B4:=B4.ae x2;have x02:=h1.ae.trans x2;obtain⟨er,her⟩:∃er,er=iC d xs:=⟨_,U⟩;rw[<-her];refine cN (λq=>?_) λq=>?_
 .have e0:jB d xs cl aN=er:=by unfold jB;rw[<-her,asp q]
  exact ret ⟨none,0,0,by rw[e0];rfl,x02,λh0=>absurd (e0.symm.trans h0) q,λ_=>⟨U,U,U⟩⟩
 have bx:iC d xs=0:=Y;have dy:=(jO (wK bx).1).2.2.2;refine go<|bW (tu (V.ae x02) (hc0.ae x02)) λw3 x3=>?_;have B4:=B4.ae x3;have x03:=x02.trans x3;obtain⟨bk,ay⟩:∃er,er=ez d cl:=⟨_,U⟩;rw[<-ay];have cp:jB d xs cl aN=if bk≠0 then bk else if dS aN 0 1048576 then 0 else 1:=by unfold jB;rw[<-her,aso (by simpa using q),ay]
 refine cN (λq2=>?_) λq2=>?_
 .have e0:jB d xs cl aN=bk:=by rw[cp,asp q2]
  exact ret ⟨none,0,0,by rw[e0];rfl,x03,λh0=>absurd (e0.symm.trans h0) q2,λ_=>⟨U,U,U⟩⟩
 have e2:jB d xs cl aN=if dS aN 0 1048576 then 0 else 1:=Yg
 refine cR y7 (λp=>?_) λp=>?_;rotate_left
 .have e0:jB d xs cl aN=1:=by rw[e2,p];rfl
  exact ret ⟨none,0,0,by rw[e0];rfl,x03,λh0=>(by rw[e0] at h0;cases h0),λ_=>⟨U,U,U⟩⟩
 have e3:jB d xs cl aN=0:=by rw[e2,p];rfl
 refine qV λg w4 hg bt=>?_;have x4:ax w3 w4:=by rw[bt];exact aj.alloc _ _ _
 have M4:dw fY w4 g (λ_=>none):=by rw[hg,bt];exact dw.new fY w3
 refine alloc λb10 w5 h5=>st1 h5.aS U λw6 B10 k6=>?_;have e5:=h5.au;have s5:=h5.size;have sg:=M4.lt;have cT:=x03.size;have cK:=(x2.trans x3).size;have cI:=k6.size;have x36:=(x4.trans h5.ae).ag k6 λb hb _ e=>by have:=x4.size;omega
 have M6:=(M4.ah h5.ae Yt).ah k6 Y;have B10:aP w6 b10 391 [.map (some g)]:=B10;have x06:=x03.trans x36;have B4:=B4.ae x36;have gw:w.heap.size<=g:=Y;have gl:=M6.lt;refine go<|aJ (CI (V.ae x06)) ?_;rintro _ w7 ⟨b1,b2,b3,rfl,x7,C1,C2,C3,g1,g2,g3⟩;have bT:=x06.trans x7;have s7:=x7.size;have cL:=x06.size;have l3:=C3.lt;have ct:=B10.lt;have df:=B4.lt;refine range (gf:=203) (lb:=#[ptr b2,ptr b3,ptr b1]) U λfn tmps w8 R hR hF cb x8 z8 hD8 cg=>?_;show aK _ _ #[.func (.yield (w7.heap.size+1)) #[] #[],ptr b2,ptr b3,ptr b1] w8 _;have b0:=bT.trans x8;have s8:=x8.size;have B4:=(B4.ae x7).ae x8;have B10:=(B10.ae x7).ae x8;have M8:=(M6.ah x7 Yt).ah x8 Yt;refine(y9 (aN:=aN) (xs:=xs) (D:=λx=>x<w7.heap.size/\x≠g) (D':=λb=>b<w.heap.size) (λk u=>aj (λx=>x≠g/\x≠w7.heap.size+1) w8 u/\dc u (w7.heap.size+1) R/\∃S:Int->bZ×Nat×Nat,(∀r gg,(S r).1=aL gg->w8.heap.size<=gg)/\(∀r,(S r).2.1<=k)/\si qZ.c 230 3 w u g (wU d aN xs k) S) (λk u u' ⟨k9,l9,S,hS,hn,L⟩ xx=>⟨k9.trans (ax.any xx),l9.ah xx Yt,S,hS,hn,L.ae xx⟩) ?_ ⟨Y,Y⟩ (λb hb=>⟨Y,Y⟩) (C1.ae x8) (C2.ae x8) (C3.ae x8) (V.ae b0) (hx0.ae b0) ⟨.refl _ _,cg,λ_=>(none,0,0),λ_ _ h=>(by cases h),λ_=>asN _,⟨_,M8,λ_=>rfl⟩,λ_=>bu.nil b0,λ_ _ _ g h=>by cases h⟩).mono ?_
 .rintro k x u hxk ⟨k9,l9,S,hS,bg,L⟩ g0 hg0 M0;subst hR;have hk:=(asr.1 hxk).1;refine dQ (args:=[.agg (oW d aN xs k x).c.toArray]) l9 U rfl hF cb<|alloc λbo u1 a1=>jR a1.aS U Yl Ys λu2 a8 k2 z2=>?_;have dx:=a1.au;have xu2:ax u u2:=a1.ae.ag k2 λb hb _ e=>Y;have a8:aP u2 bo 230 (oW d aN xs k x).c:=a8;refine tN (l9.ah xu2 Yt) λu3 k3 _ c8=>?_;have s9:=k9.size;have bw:bo≠w7.heap.size+1:=Y;have a7:aj (λb=>b≠w7.heap.size+1) u u3:=(ax.any xu2).trans k3;have a8:=a8.ah k3 bw;have af:=k9.ag a7 λ_ _ h=>h.2;have B4u:=B4.ah af ⟨Y,Y⟩;have a6:=B10.ah af ⟨Y,Y⟩;have bq:ax w u3:=((L.own 0).ae).ag a7 λb hb _=>Y;have own3:∀r,bu w u3 (S r).1 (S r).2.1 (S r).2.2 230 3 ((wU d aN xs k r).flatMap qZ.c):=λr=>(L.own r).bY a7 (λgg hg=>by have:=hS r gg hg;omega) bq;obtain⟨mm,Mm,ak⟩:=L.map;have Mm:=Mm.ah a7 (oJ l9 Mm);have bI:=M0.ah a7 (oJ l9 M0);obtain⟨bb,oo,cs,y,rfl,hy,-,dp,hcc,rfl⟩:=(hdu.ae bq).au (show k<n5 from Y);obtain rfl:x=y:=by rw[hxk] at hy;injection hy
  have hsn:=bg x.aO;have old:∀b,b<w8.heap.size->(S x.aO).1≠aL b:=λb hb e=>by have:=hS _ _ e;omega
  refine go ?_;have br:(S x.aO).1≠aL bo:=λe2=>by
   rcases(L.own x.aO).form with⟨q,-⟩|⟨g2,q,-,hlt,-⟩
   .rw[q] at e2;cases e2
   .rw[q] at e2;injection e2 with e2;injection e2 with e2;omega
  refine bR (oP [6,7,8] [8] [0,1,2,3,4,5,6,7,8]) [8] (λz=>aj (λb=>(S x.aO).1≠aL b) u3 z) mx Z (.refl _ _)<|fu (.map (some g)) (a6.ai U) (old b10 Y) (.refl _ _)<|fu (.map (some g)) (a6.ai U) (old b10 Y) (.refl _ _)<|dh (kv:=fY) x.aO (aB (S x.aO).1 (S x.aO).2.1 (S x.aO).2.2) (λz hz=>⟨mm,Mm.ah hz (old g Y),ak _⟩)<|tM (oW d aN xs k x).c (.aS a8) U br (.refl _ _)<|lit [.agg (oW d aN xs k x).c.toArray] λg1 u4 hq=>bN (ax.any hq.ae)<|iI ((own3 x.aO).ag hq.ae) (hq.src (sz:=3) U) Y λA' c' u5 o5 k5 hA=>?_;have O:aj (λb=>(S x.aO).1≠aL b) u3 u5:=(ax.any hq.ae).trans k5;refine bN O<|gv (λ_=>True) Yt ?_;have bE:=Mm.ah O (old g Y);have bG:=bI.ah O (xV (own3 x.aO) bI);refine kV (kv:=fY) x.aO bE λu6 cr J cw=>go ?_;have l5:=c8.ah O (old (w7.heap.size+1) Y);have l6:=l5.ah J Y;refine eQ _ l6 λu7 k7 l7=>?_;have bp:ax w u6:=o5.ae.ag J λb hb _=>Y;have L6:=si.step (f:=wU d aN xs k) (f':=wU d aN xs (k+1)) (p:=oW d aN xs k x) x.aO own3 L.dj ak o5 O (hA.imp id (Or.imp id λe=>⟨u4,e,hq.ae⟩)) bE cr J bp λq=>O5 hxk;have av:∀r gg,((λq=>if q=x.aO then(A',(S x.aO).2.1+1,c') else S q) r).1=aL gg->w8.heap.size<=gg:=λr gg hg=>by
   by_cases er:r=x.aO
   .simp only[asp er] at hg;rcases hA with e|e|e
    .exact hS x.aO gg (e▸hg)
    .rw[e] at hg;cases hg
    .have s4:w8.heap.size<=u4.heap.size:=atI af.size hq.ae.size;exact Dx
   .simp only[aso er] at hg;exact hS r gg hg
  have L7:si qZ.c 230 3 w u7 g (wU d aN xs (k+1)) (λq=>if q=x.aO then(A',(S x.aO).2.1+1,c') else S q):=by obtain⟨⟨m7,q1,q2⟩,q3,q4⟩:=L6;exact⟨⟨m7,q1.ah k7 (oJ l6 q1),q2⟩,λr=>(q3 r).bY k7 (λgg hg=>by have:=av r gg hg;omega) (bp.ag k7 λb hb _=>Y),q4⟩
  have ka:aj (λx=>x<w7.heap.size/\x≠g) u u7:=(((a7.cU λ_ _ h=>Y).ag O λb _ h=>old b Y).ag J λ_ _ h=>h.2).ag k7 λ_ _ h=>Y;refine⟨U,⟨((af.ag O λb hb _=>old b hb).ag J λ_ _ h=>h.1).ag k7 λ_ _ h=>h.2,l7,_,av,λr=>?_,L7⟩,ka,(bG.ah J Y).ah k7 (oJ l6 (bG.ah J Y))⟩;by_cases er:r=x.aO
  .exact Yg
  .exact Yg
 .rintro v u ⟨k9,l9,S,hS,bg,L⟩;subst hR;refine dL _ l9 (by simp) λu6 J=>?_;have be:=k9.ag J λ_ _ h=>h.2;have aa:=((L.own 0).ae).ag J λb hb _=>Y;have a6:=B10.ah be ⟨Y,Y⟩;have own6:∀r,bu w u6 (S r).1 (S r).2.1 (S r).2.2 230 3 ((wU d aN xs d.ed.length r).flatMap qZ.c):=λr=>(L.own r).bY J (λgg hg=>by have:=hS r gg hg;omega) aa;obtain⟨mm,Mm,ak⟩:=L.map;have Mm:=Mm.ah J (oJ l9 Mm);have P:SZ (λ_=>True) u6 g (λr=>wU d aN xs d.ed.length r):=⟨Yt,mm,Mm,λr=>⟨_,_,_,ak r,(own6 r).own.rd (a:=acf) Jj (by have h1:=(own6 r).own.an;have h2:=bz (enc:=qZ.c) (K:=3) (λ_=>rfl) (wU d aN xs d.ed.length r);omega) (by have:=bg r;omega) λ_ _=>Yt,(own6 r).le⟩⟩;refine aJ (O6 (p:=anj d aN xs) (hc0.ae aa) (by have:=(iB.1 (show ez d cl=0 from Y)).2.1;have:=hc.an;omega) (λx u7 x7=>Lp (a6.ae x7) (P.ae x7) (λr p hp=>by
   unfold wU at hp;obtain⟨i,-,h2⟩:=aus.1 hp;split at h2
   .split at h2
    .injection h2 with h2;subst h2;exact(MJ bx i _)
    .cases h2
   .cases h2))) ?_
  rintro _ u7 ⟨A',n',c',rfl,hn,own⟩;have ck:=((aj.trans be (ax.any own.ae)).aS _ Y ⟨Y,Y⟩).trans hD8;refine oN ck ?_;have k8:=aj.putObj u7 w7.heap.size (.deferred none);have aq:bu w (u7.putObj w7.heap.size (.deferred none)) A' n' c' 65 5 ((acA d xs cl aN).flatMap bM):=by refine(own.base aa).bY k8 (λgg hg=>?_) ((aa.trans own.ae).ag k8 λb hb _=>Y);have:=own.new gg hg;have:=be.size;omega
  exact⟨A',n',c',by rw[e3];rfl,aq.ae,λ_=>⟨hn,aq⟩,λh0=>absurd e3 h0⟩
end
structure cM where
 d:aU
 every:Int
 eW:List dz
 done:List r9
 vj:List jd
 eG:List eV
 dr:List lK
 dU:aX
 dN:List (aX)
 kM:List (aX)
def lD(aG most:Int)(l:aX):Bool:=decide ((l.length:Int)=aG)&&l.all λn=>dS n 0 most
def sD(every aG:Int):Int->List eV->Bool
 |_,[]=>true
 |last,x::l=>decide (last<x.body)&&(decide (((x.bounds.length:Int)-1)*every<aG)&&sD every aG x.body l)
def O8(x:cM):Bool:=dS x.every 1 (min 64 x.d.aG)&&(lD x.d.aG 1073741824 x.dU&&(decide (x.dN.length=x.d.aD.length)&&(decide (x.kM.length=x.d.aD.length)&&((x.dN++x.kM).all (lD x.d.aG 1000)&&sD x.every x.d.aG (-1) x.eG))))
def gP(x:cM):Int:=if cH x.d≠0 then cH x.d else if fS x.d x.eW≠0 then fS x.d x.eW else if iC x.d x.done≠0 then iC x.d x.done else if fC x.d x.vj≠0 then fC x.d x.vj else if mJ x.eG≠0 then mJ x.eG else if kZ x.dr≠0 then kZ x.dr else if 1024<(x.d.aD.length:Int)*x.d.aG\/4096<(x.d.aR.length:Int)*x.d.aG then 2 else if O8 x then 0 else 580
def ic(d:aU):aU:={d with cap:=1099511627776,bH:=1099511627776}
def mW(d:aU):aX:=d.aR.map λf=>cG d f.aZ
def S1(d:aU):Int:=(mW d).foldl max 0
def tZ(x:cM)(fin:Int):Int:=min (fin-1+S1 x.d) (x.d.aG-1)
def PG(x:cM)(aI fin:Int):List Cm:=(zD x.d x.eW aI (tZ x fin) aI).filter λc=>dS (dH x.d c) aI (fin-1)
def XP(x:cM)(aI fin:Int):List Cm:=acA x.d x.done (PG x aI fin) aI
def Lq(x:cM)(aI:Int):List jd:=x.vj.takeWhile λj=>decide (j.aH<=aI)
noncomputable def nP (x:cM)(aI fin:Int):Int:=if gZ x.d x.eW aI (tZ x fin) aI≠0 then gZ x.d x.eW aI (tZ x fin) aI else if jB x.d x.done (PG x aI fin) aI≠0 then jB x.d x.done (PG x aI fin) aI else iq x.d (XP x aI fin) (Lq x aI)
def Jk(x:cM)(aI fin:Int):List Cm:=ym (Lq x aI) (XP x aI fin)
noncomputable def mL (d:aU)(before:List Cm):List Cm->List Cm->List Cm
 |ah,[]=>ah
 |ah,y::l=>mL d before (if vy (ic d) (il j7 (before++(ah++[y]))) then ah++[y] else ah) l
noncomputable def uc (d:aU)(before c:List Cm):List Cm:=il j7 (mL d before [] (il Ca c))
instance:Nonempty Mk:=⟨Mk.none⟩
noncomputable def mkF (E:Int)(l:aX):Mk:=Classical.epsilon (dX E l)
theorem Lr{E:Int}{m:Mk}(h:dX E l m):mkF E l=m:=(Classical.epsilon_spec (p:=dX E l) ⟨m,h⟩).uniq h
noncomputable def zG (E:Int)(l:aX):aX:=NX (mkF E l) l
def Jl(d:aU)(cl:aX)(E:Int)(t:aX×aX×List Mk):Prop:=∃hs,dT d cl=some hs/\DO d cl hs/\oQ d cl hs E t.1 t.2.1 t.2.2
noncomputable def sE (d:aU)(cl:aX)(E:Int):aX×aX×List Mk:=Classical.epsilon (Jl d cl E)
theorem Au{cl hs:aX}{E:Int}{hd aw:aX}{mk:List Mk}(z:dT d cl=some hs)(R:DO d cl hs)(D:oQ d cl hs E hd aw mk)(A:0<=E):sE d cl E=(hd,aw,mk):=by
 obtain⟨u,h1,V,D'⟩:=Classical.epsilon_spec (p:=Jl d cl E) ⟨(hd,aw,mk),hs,z,R,D⟩;have e:u=hs:=by rw[z] at h1;injection h1 with h1;exact h1.symm
 subst e;obtain⟨O,M,J⟩:=D'.uniq D R A;exact Prod.ext O (Prod.ext M J)
def dI(d:aU)(S:List Cm)(w:Int):aX:=nE d (cj S) w
def lT(d:aU)(S:List Cm)(w:Int):aX:=(dT d (dI d S w)).getD (List.replicate d.aD.length 0)
def bV(d:aU)(S:List Cm)(aI:Int)(n:Nat):aX:=(List.range n).map λi:Nat=>bL (lT d S (aI+i)) 0
noncomputable def iD (d:aU)(S:List Cm)(aI:Int)(n:Nat)(free:Int):List (aX):=if free<aV (bV d S aI n) then(List.range n).map λi:Nat=>(sE d (dI d S (aI+i)) (bL (zG free (bV d S aI n)) i)).2.1 else(List.range n).map λi:Nat=>dI d S (aI+i)
def pJ(d:aU):(Int×Int->Int)->List Cm->aX
 |_,[]=>[]
 |L,c::l=>min c.aC (L (dH d c,c.aO))::pJ d (λq=>if q=(dH d c,c.aO) then L q-min c.aC (L q) else L q) l
def sF(aI:Int)(L:List (aX)):Int×Int->Int:=λq=>bL (L.getD (q.1-aI).toNat []) q.2.toNat
structure pK where
 aI:Int
 fin:Int
 free:Int
 ek:List Cm
 bJ:List Cm
 cQ:aX
 short:Bool
noncomputable def ra (x:cM)(aI free:Int)(before:List Cm):pK:=⟨aI,min (aI+x.every) x.d.aG,free,Jk x aI (min (aI+x.every) x.d.aG),uc x.d before (Jk x aI (min (aI+x.every) x.d.aG)),pJ x.d (sF aI (iD x.d (uc x.d before (Jk x aI (min (aI+x.every) x.d.aG))) aI (min (aI+x.every) x.d.aG-aI).toNat free)) (uc x.d before (Jk x aI (min (aI+x.every) x.d.aG))),decide (free<aV (bV x.d (uc x.d before (Jk x aI (min (aI+x.every) x.d.aG))) aI (min (aI+x.every) x.d.aG-aI).toNat))⟩
noncomputable def eM (x:cM)(aI free:Int)(before:List Cm):Int:=if gP x≠0 then gP x else if¬((0<=aI/\aI<=x.d.aG-1)/\Int.tmod aI x.every=0/\0<=free/\free<=1099511627776) then 1 else if ez x.d before≠0 then ez x.d before else if before.any (λc=>decide (aI<=dH x.d c)) then 580 else if vy (ic x.d) before=false then 580 else nP x aI (min (aI+x.every) x.d.aG)
def acB(s:pK):List Cm:=(s.bJ.zip s.cQ).filterMap λp=>if 0<p.2 then some {p.1 with aC:=p.2} else none
def dY(d:aU)(G:List Cm)(r h:Nat):Int:=bL (lT d G ((h:Int)-cG d (dB d r).up)) r
def rb(rows n:Nat)(f:Nat->Nat->Int):List (aX):=(List.range rows).map λr=>(List.range n).map λh=>f r h
def Nc(lo hi t:Int):Int:=lo+(hi-lo)*t/1000
def zb(l:List (aX))(r h:Nat):Int:=bL (l.getD r []) h
def uf(y:Reach)(v t:Int):Int:=if 0<v then min v (Nc y.dN.lo y.dN.hi t) else 0
def wV(y:Reach)(v t u:Int):Int:=if 0<v then min (v-uf y v t) (Nc (v*y.s0.n/y.s0.d) ((v*y.s1.n+y.s1.d-1)/y.s1.d) u) else 0
def Ha(x:cM)(G:List Cm)(r h:Nat):Int:=uf (dB x.d r) (dY x.d G r h) (zb x.dN r h)
def Hb(x:cM)(G:List Cm)(r h:Nat):Int:=wV (dB x.d r) (dY x.d G r h) (zb x.dN r h) (zb x.kM r h)
def ank(x:cM)(G:List Cm)(r h:Nat):Int:=if(dB x.d r).bD<=h then dY x.d G r (h-(dB x.d r).bD.toNat)-Ha x G r (h-(dB x.d r).bD.toNat)-Hb x G r (h-(dB x.d r).bD.toNat) else 0
def acC(d:aU)(G:List Cm)(r h:Nat):Int:=aV ((List.range d.aD.length).map λc=>if 0<c/\(dB d c).up=r then dY d G c h else 0)
def tkV(d:aU)(G:List Cm)(r h:Nat):Int:=aV ((List.range d.aR.length).map λf=>if(jh d f).aZ=r then cj G f h else 0)
def O9(x:cM)(G:List Cm)(r h:Nat):Int:=ank x G r h-acC x.d G r h-tkV x.d G r h
def re(x:cM)(G:List Cm):Nat->Int
 |0=>x.d.bH
 |h+1=>re x G h+bL x.dU h-dY x.d G 0 h-max 0 (re x G h+bL x.dU h-dY x.d G 0 h-x.d.cap)
def sH(x:cM)(G:List Cm)(h:Nat):Int:=max 0 (re x G h+bL x.dU h-dY x.d G 0 h-x.d.cap)
def acD(x:cM)(G:List Cm):Run:=⟨x.dU,(List.range x.d.aG.toNat).map (sH x G),rb x.d.aD.length x.d.aG.toNat (dY x.d G),rb x.d.aD.length x.d.aG.toNat (Ha x G),rb x.d.aD.length x.d.aG.toNat (Hb x G),rb x.d.aR.length x.d.aG.toNat λf h=>cj G f h,rb x.d.aD.length x.d.aG.toNat (O9 x G)⟩
structure PlV where
 err:Int
 gK:List pK
 bX:List Cm
noncomputable def cy (x:cM):Nat->PlV
 |0=>⟨0,[],[]⟩
 |k+1=>if(cy x k).err≠0 then cy x k else
  if eM x (k*x.every) (re x (cy x k).bX ((k*x.every).toNat)) (cy x k).bX≠0 then⟨eM x (k*x.every) (re x (cy x k).bX ((k*x.every).toNat)) (cy x k).bX,(cy x k).gK,(cy x k).bX⟩ else
  ⟨0,(cy x k).gK++[ra x (k*x.every) (re x (cy x k).bX ((k*x.every).toNat)) (cy x k).bX],
   il j7 ((cy x k).bX++acB (ra x (k*x.every) (re x (cy x k).bX ((k*x.every).toNat)) (cy x k).bX))⟩
def fz(x:cM):Nat:=((x.d.aG+x.every-1)/x.every).toNat
noncomputable def ia (x:cM):PlV:=cy x (fz x)
def eZ(F:Nat)(ss:List pK):aX:=(List.range F).map λf:Nat=>aV (ss.map λs=>aV (s.ek.map λc=>if c.aO=(f:Int) then c.aC else 0))
def iE(x:cM)(G:List Cm):aX:=(List.range x.d.aR.length).map λf:Nat=>aV ((List.range x.d.aG.toNat).map λh:Nat=>cj G f h)
def kT(x:cM)(A G:aX):aX:=(List.range x.d.aR.length).map λf:Nat=>min 1073741824 (max 0 (bL A f-bL G f))
def je(x:cM)(y:eV):eV:=⟨y.body,y.bounds,(List.range y.bounds.length).map λi:Nat=>aV ((x.dU.take (min (((i:Int)+1)*x.every) x.d.aG).toNat).drop (i*x.every).toNat)⟩
noncomputable def ir (x:cM):Int:=if gP x≠0 then gP x else if(ia x).err≠0 then(ia x).err else mv x.dr (x.eG.map (je x)) (kT x (eZ x.d.aR.length (ia x).gK) (iE x (ia x).bX))
structure iu (D:Nat->Prop) (w:World) (cs:aW) (x:cM):Prop where
 fI::
 ex:∃csd G1 m1 e1 G2 m2 e2 G3 m3 e3 G4 m4 e4 G5 m5 e5 G6 m6 e6 G7 m7 e7 G8 m8 e8,cs=csd++[iv x.every,.slice G1 m1 e1,.slice G2 m2 e2,.slice G3 m3 e3,.slice G4 m4 e4,.slice G5 m5 e5,.slice G6 m6 e6,.slice G7 m7 e7,.slice G8 m8 e8]/\iG D w csd x.d/\
  bS oI D w G1 m1 x.eW/\bS XI D w G2 m2 x.done/\bS wI D w G3 m3 x.vj/\bS kF D w G4 m4 x.eG/\bS GF D w G5 m5 x.dr/\bS cO D w G6 m6 x.dU/\bS gC D w G7 m7 x.dN/\bS gC D w G8 m8 x.kM/\m3<=e3/\m4<=e4/\m6<=e6
theorem iu.di{z:World}{cs:aW}{x:cM}(hk:∀b,b<w.heap.size->D b->z.heap[b]? =w.heap[b]?)(h:iu D w cs x):iu D z cs x:=by
 obtain⟨u,G1,m1,e1,G2,m2,e2,G3,m3,e3,G4,m4,e4,G5,m5,e5,G6,m6,e6,G7,m7,e7,G8,m8,e8,h,h0,h1,Z,Y,X,W,V,O,M,J⟩:=h.ex;exact⟨u,G1,m1,e1,G2,m2,e2,G3,m3,e3,G4,m4,e4,G5,m5,e5,G6,m6,e6,G7,m7,e7,G8,m8,e8,h,h0.di hk,h1.di hk,Z.di hk,Y.di hk,X.di hk,W.di hk,V.di hk,O.di hk,M.di hk,J⟩
theorem iu.ar{D':Nat->Prop}{cs:aW}{x:cM}(hk:∀b,b<w.heap.size->D b->D' b)(h:iu D w cs x):iu D' w cs x:=by
 obtain⟨u,G1,m1,e1,G2,m2,e2,G3,m3,e3,G4,m4,e4,G5,m5,e5,G6,m6,e6,G7,m7,e7,G8,m8,Z,h,h0,h1,Y,X,W,V,O,M,J,z⟩:=h.ex;exact⟨u,G1,m1,e1,G2,m2,e2,G3,m3,e3,G4,m4,e4,G5,m5,e5,G6,m6,e6,G7,m7,e7,G8,m8,Z,h,h0.ar hk,h1.ar Yd hk,Y.ar Yd hk,X.ar Yd hk,W.ar Yd hk,V.ar Yd hk,O.ar Yd hk,M.ar Yd hk,J.ar Yd hk,z⟩
theorem iu.ah{D':Nat->Prop}{cs:aW}{x:cM}(h:iu D w cs x)(k:aj D' w u)(hd:∀b,b<w.heap.size->D b->D' b):iu D u cs x:=h.di λb z J=>k.aS b z (hd b z J)
theorem iu.ae{cs:aW}{x:cM}(h:iu D w cs x)(k:ax w u):iu D u cs x:=h.ah k λ_ _ _=>Yt
def jU(x:cM):aX:=[cH x.d,fS x.d x.eW,iC x.d x.done,fC x.d x.vj,mJ x.eG,kZ x.dr]
theorem jV{x:cM}{k:Nat}{e:Int}(h:(jU x)[k]? =some e)(h0:∀z∈(jU x).take k,z=0)(u:e≠0):gP x=e:=by
 unfold jU at h h0;match k,h with
 |0,h=>injection h with h;subst h;unfold gP;rw[asp u]
 |1,h=>
  injection h with h;subst h;simp only[atF,atg,asM,ats,aur,awh] at h0;unfold gP;rw[aso (by simpa using h0),asp u]
 |2,h=>
  injection h with h;subst h;simp only[atF,atg,asM,ats,aur,avq,awh] at h0;unfold gP;rw[aso (by simpa using h0.1),aso (by simpa using h0.2),asp u]
 |3,h=>
  injection h with h;subst h;simp only[atF,atg,asM,ats,aur,avq,awh] at h0;unfold gP;rw[aso (by simpa using h0.1),aso (by simpa using h0.2.1),aso (by simpa using h0.2.2),asp u]
 |4,h=>
  injection h with h;subst h;simp only[atF,atg,asM,ats,aur,avq,awh] at h0;unfold gP;rw[aso (by simpa using h0.1),aso (by simpa using h0.2.1),aso (by simpa using h0.2.2.1),aso (by simpa using h0.2.2.2),asp u]
 |5,h=>
  injection h with h;subst h;simp only[atF,atg,asM,ats,aur,avq,awh] at h0;unfold gP;rw[aso (by simpa using h0.1),aso (by simpa using h0.2.1),aso (by simpa using h0.2.2.1),aso (by simpa using h0.2.2.2.1),aso (by simpa using h0.2.2.2.2),asp u]
theorem Pa{x:cM}(h0:∀u∈jU x,u=0):gP x=if 1024<(x.d.aD.length:Int)*x.d.aG\/4096<(x.d.aR.length:Int)*x.d.aG then 2 else if O8 x then 0 else 580:=by
 unfold jU at h0;simp only[asM,ats,aur,avq,awh] at h0;obtain⟨J,a2,a3,a4,a5,z⟩:=h0;unfold gP;rw[aso (by simpa using J),aso (by simpa using a2),aso (by simpa using a3),aso (by simpa using a4),aso (by simpa using a5),aso (by simpa using z)]
section
variable {D:Nat->Prop} {w:World} {A:Option Addr} {n c:Nat}
theorem Jm{m v:Int}(J:aP w b 3 [iv m]):aA 158 #[iv v,ptr b] w (.bool (!dS v 0 m)):=by
 refine aF func158 Z<|go<|cR Cy (λq=>?_) λq=>?_
 .exact aQ _ U ⟨by rw[q];rfl,.refl _ _⟩
 .exact aQ _ U ⟨by rw[q];rfl,.refl _ _⟩
theorem Ws{m:Int}{xs:aX}(hb:aP w b 3 [iv m])(h:bS cO D w A n xs):aK prog 231 #[aB A n c,.func (.func 158) #[] #[ptr b]] w (λv w'=>(∃i:Int,v=iv i/\(0<=i↔xs.all (λv=>dS v 0 m)=false))/\ax w w'):=by
 have hl:=h.an;have hle:=h.le;refine aF func231 Z ?_;refine an ?_;refine aM (λk:Nat=>[(8,iv (k:Int))]) (λk w'=>k<=n/\ax w w'/\xs.all (λv=>dS v 0 m)=(xs.drop k).all λv=>dS v 0 m) (λk _=>n-k) 0 ⟨U,Yt⟩ ⟨Y,.refl _ _,U⟩ U ?_;rintro G k w' ⟨hk,xw,he⟩;refine cD (λhlt=>?_) λhge=>?_
 .obtain⟨bb,o,cs,y,rfl,hy,hdk,-,hc,rfl,-⟩:=(h.ae xw).au (show k<n from Y);rw[hdk,atv] at he;refine go ?_;refine dt (Jm (v:=y) (hb.ae xw)) (λw2 g x2=>?_) λw2 g x2=>?_
  .exact TN
  .exact T7
 .exact W6
theorem S2{m:Int}{b:Nat}{xs:aX}(J:aP w b 3 [iv m])(h:bS cO D w A n xs):aK prog 155 #[aB A n c,.func (.func 158) #[] #[ptr b]] w (λv z=>v=.bool (!xs.all λv=>dS v 0 m)/\ax w z):=by
 refine aF func155 Z<|aJ (Ws J h) ?_;rintro _ z ⟨⟨i,rfl,hi⟩,u⟩;refine cD (λg=>?_) λg=>?_
 .exact aQ _ U ⟨by rw[hi.1 g];rfl,u⟩
 .refine aQ _ U ⟨?_,u⟩;cases q:xs.all (λv=>dS v 0 m) with
  |true=>rfl
  |false=>exact absurd (hi.2 q) g
theorem CY{aG most:Int}{xs:aX}(h:bS cO D w A n xs):aA 66 #[aB A n c,iv aG,iv most] w (.bool (lD aG most xs)):=by
 have X:=h.an;refine aF func66 Z<|box λV M h1=>?_;have W:aP M V 3 [iv most]:=h1.aS;refine an<|cE (λq=>?_) λq=>?_
 .have z:decide ((xs.length:Int)=aG)=true:=asE Y;refine dt (S2 W (h.ae h1.ae)) (λJ g u=>?_) λJ g u=>?_
  .refine aQ (.bool false) U ⟨?_,h1.ae.trans u⟩;unfold lD;rw[z];simp only[atj] at g;rw[g];rfl
  .refine aQ (.bool true) U ⟨?_,h1.ae.trans u⟩;unfold lD;rw[z];simp only[atb] at g;rw[g];rfl
 .refine aQ _ U ⟨?_,h1.ae⟩;unfold lD;rw[asG Y];rfl
theorem Ls{u:aW}(hb:aP w b 31 u)(hd:iG D w u d):aA 54 #[ptr b] w (iv (cH d)):=by
 have z:=hd;obtain⟨A1,n1,c1,A2,Y,c2,A3,X,c3,A4,W,c4,A5,V,c5,A6,n6,c6,rfl,-⟩:=hd.ex;refine aF func54 Z<|go<|bW (ko z) λO J=>?_;exact aQ _ U ⟨U,J⟩
theorem Lt{V:Nat}{u z:aW}{x:cM}(hb:aP w b 31 u)(hd:iG D w u d)(a1:aP w V 42 z)(O:iu D w z x):aA 55 #[ptr b,ptr V] w (iv (fS d x.eW)):=by
 have M:=hd;have Y:=O;obtain⟨A1,n1,c1,A2,n2,c2,A3,n3,c3,A4,n4,c4,A5,n5,c5,A6,n6,c6,rfl,-⟩:=hd.ex;obtain⟨u,G1,m1,e1,G2,m2,e2,G3,m3,e3,G4,m4,e4,G5,m5,e5,G6,m6,e6,G7,m7,e7,G8,m8,e8,rfl,J,h1,h2,h3,h4,h5,-⟩:=O.ex;obtain⟨Q1,p1,r1,Q2,p2,r2,Q3,p3,r3,Q4,p4,r4,Q5,p5,r5,Q6,p6,r6,rfl,-⟩:=J.ex;refine aF func55 Z<|go<|bW (yk M h1) λw2 W=>?_;exact aQ _ U ⟨U,W⟩
theorem Lu{V:Nat}{u z:aW}{x:cM}(hb:aP w b 31 u)(hd:iG D w u d)(a1:aP w V 42 z)(O:iu D w z x):aA 57 #[ptr b,ptr V] w (iv (iC d x.done)):=by
 have M:=hd;have Y:=O;obtain⟨A1,n1,c1,A2,n2,c2,A3,n3,c3,A4,n4,c4,A5,n5,c5,A6,n6,c6,rfl,-⟩:=hd.ex;obtain⟨u,G1,m1,e1,G2,m2,e2,G3,m3,e3,G4,m4,e4,G5,m5,e5,G6,m6,e6,G7,m7,e7,G8,m8,e8,rfl,J,h1,h2,h3,h4,h5,-⟩:=O.ex;obtain⟨Q1,p1,r1,Q2,p2,r2,Q3,p3,r3,Q4,p4,r4,Q5,p5,r5,Q6,p6,r6,rfl,-⟩:=J.ex;refine aF func57 Z<|go<|bW (CA M h2) λw2 W=>?_;exact aQ _ U ⟨U,W⟩
theorem Lw{V:Nat}{u z:aW}{x:cM}(hb:aP w b 31 u)(hd:iG D w u d)(a1:aP w V 42 z)(O:iu D w z x):aA 59 #[ptr b,ptr V] w (iv (fC d x.vj)):=by
 have M:=hd;have Y:=O;obtain⟨A1,n1,c1,A2,n2,c2,A3,n3,c3,A4,n4,c4,A5,n5,c5,A6,n6,c6,rfl,-⟩:=hd.ex;obtain⟨u,G1,m1,e1,G2,m2,e2,G3,m3,e3,G4,m4,e4,G5,m5,e5,G6,m6,e6,G7,m7,e7,G8,m8,e8,rfl,J,h1,h2,h3,h4,h5,-⟩:=O.ex;obtain⟨Q1,p1,r1,Q2,p2,r2,Q3,p3,r3,Q4,p4,r4,Q5,p5,r5,Q6,p6,r6,rfl,-⟩:=J.ex;refine aF func59 Z<|go<|bW (Fa M h3) λw2 W=>?_;exact aQ _ U ⟨U,W⟩
theorem Lx{J:Nat}{u:aW}{x:cM}(W:aP w J 42 u)(V:iu D w u x):aA 61 #[ptr J] w (iv (mJ x.eG)):=by
 obtain⟨Y,G1,m1,e1,G2,m2,e2,G3,m3,e3,G4,m4,e4,G5,m5,e5,G6,m6,e6,G7,m7,e7,G8,m8,e8,rfl,z,h1,h2,h3,X,h5,-⟩:=V.ex;obtain⟨Q1,p1,r1,Q2,p2,r2,Q3,p3,r3,Q4,p4,r4,Q5,p5,r5,Q6,p6,r6,rfl,-⟩:=z.ex;refine aF func61 Z<|go<|bW (Iw X) λw2 M=>?_;exact aQ _ U ⟨U,M⟩
theorem Ly{J:Nat}{u:aW}{x:cM}(W:aP w J 42 u)(V:iu D w u x):aA 63 #[ptr J] w (iv (kZ x.dr)):=by
 obtain⟨Y,G1,m1,e1,G2,m2,e2,G3,m3,e3,G4,m4,e4,G5,m5,e5,G6,m6,e6,G7,m7,e7,G8,m8,e8,rfl,z,h1,h2,h3,h4,X,-⟩:=V.ex;obtain⟨Q1,p1,r1,Q2,p2,r2,Q3,p3,r3,Q4,p4,r4,Q5,p5,r5,Q6,p6,r6,rfl,-⟩:=z.ex;refine aF func63 Z<|go<|bW (EP X) λw2 M=>?_;exact aQ _ U ⟨U,M⟩
end
section
variable {d:aU} {x:cM} {aI fin free:Int} {before c l l' S:List Cm}
theorem CZ(cl:aX):∀k,dG (ic d) cl k=dG d cl k
 |0=>rfl
 |k+1=>by
  rw[dG,dG,CZ cl k];rfl
theorem Jn:∀(f:Nat) (r:Int),vX (ic d) f r=vX d f r
 |0,_=>rfl
 |f+1,r=>by rw[vX,vX,Jn f];rfl
theorem Pc(r:Int):cG (ic d) r=cG d r:=Jn _ _
theorem S3{T:Nat->Int->Int}{w:Int}:nE (ic d) T w=nE d T w:=by
 unfold nE;simp only[Pc];rfl
theorem Fj(C:Conv (ic d) l):Conv d l:=⟨λc u=>C.yj c u,C.le,λw=>by
 have h:=C.nd w;have e:nE (ic d) (cj l) w=nE d (cj l) w:=S3;unfold dT at h|-;rw[CZ,e] at h;exact h⟩
theorem Conv.perm(C:Conv d l)(p:l.Perm l'):Conv d l':=⟨λc u=>C.yj c (p.mem_iff.2 u),λi h=>by rw[<-Ce p];exact C.le i h,λw=>by
 have e:cj l'=cj l:=by funext i h;exact(Ce p i h).symm
 rw[e];exact C.nd w⟩
theorem Conv.nil:Conv d []:=⟨λ_ h=>(by cases h),λ_ _=>(show(0:Int)<=1073741824 from Yd),λw=>by
 have z:∀i,bL (nE d (cj []) w) i=0:=λi=>by
  by_cases hi:i<d.aR.length
  .rw[iY hi];rfl
  .unfold bL;rw[asC,as1 (by rw[ik];omega)];rfl
 unfold dT;rw[uP z];simp⟩
theorem Da(b:List Cm):∀(l ah:List Cm),∃m,mL d b ah l=ah++m/\m.Sublist l
 |[],ah=>⟨[],by rw[mL,asT],.slnil⟩
 |y::l,ah=>by
  rw[mL]
  by_cases q:vy (ic d) (il j7 (b++(ah++[y])))=true
  .rw[asp q]
   obtain⟨m,e,s⟩:=Da b l (ah++[y])
   exact⟨y::m,by rw[e,as5];rfl,s.cons_cons y⟩
  .rw[aso q]
   obtain⟨m,e,s⟩:=Da b l ah
   exact⟨m,e,s.cons y⟩
theorem Hc(b:List Cm):∀(l ah:List Cm),mL d b ah l=ah\/vy (ic d) (il j7 (b++mL d b ah l))=true
 |[],ah=>.inl (by rw[mL])
 |y::l,ah=>by
  rw[mL]
  by_cases q:vy (ic d) (il j7 (b++(ah++[y])))=true
  .rw[asp q]
   rcases Hc b l (ah++[y]) with e|e
   .rw[e];exact .inr q
   .exact .inr e
  .rw[aso q]
   exact Hc b l ah
structure S4 (x:cM) (aI free:Int) (before:List Cm):Prop where
 sn:gP x=0
 mh:0<=aI/\aI<x.d.aG
 md:Int.tmod aI x.every=0
 fr:0<=free/\free<=1099511627776
 cl:ez x.d before=0
 bf:∀c∈before,dH x.d c<aI
 mkk:vy (ic x.d) before=true
 fc:nP x aI (min (aI+x.every) x.d.aG)=0
theorem tC:eM x aI free before=0↔S4 x aI free before:=by
 unfold eM;constructor
 .intro h;by_cases h1:gP x=0
  .rw[aso (by simpa using h1)] at h;split at h
   .cases h
   .rename_i J;rw[awo] at J;by_cases z:ez x.d before=0
    .rw[aso (by simpa using z)] at h;split at h
     .cases h
     .rename_i u;split at h
      .cases h
      .rename_i M;refine⟨h1,Y,J.2.1,J.2.2,z,λc A=>?_,by simpa using M,h⟩;rw[Bool.not_eq_true,List.any_eq_false] at u;have:=u c A;simp only[asy] at this;omega
    .rw[asp (by simpa using z)] at h;exact absurd h z
  .rw[asp (by simpa using h1)] at h;exact absurd h h1
 .intro P;have u:before.any (λc=>decide (aI<=dH x.d c))=false:=by rw[List.any_eq_false];intro c A;have:=P.bf c A;simp only[asy];omega
  have hm:=P.mh;rw[aso (by simpa using P.sn),aso λq=>q ⟨Y,P.md,P.fr⟩,aso (by simpa using P.cl),u,aso (by simp),P.mkk,aso (by simp)];exact P.fc
structure Nd (x:cM):Prop where
 d:cH x.d=0
 rg:fS x.d x.eW=0
 dn:iC x.d x.done=0
 jg:fC x.d x.vj=0
 p:mJ x.eG=0
 st:kZ x.dr=0
 wide:(x.d.aD.length:Int)*x.d.aG<=1024/\(x.d.aR.length:Int)*x.d.aG<=4096
 ev:1<=x.every/\x.every<=min 64 x.d.aG
 inf:lD x.d.aG 1073741824 x.dU=true
 el:x.dN.length=x.d.aD.length
 sl:x.kM.length=x.d.aD.length
 wx:∀l∈x.dN++x.kM,lD x.d.aG 1000 l=true
 fo:sD x.every x.d.aG (-1) x.eG=true
theorem wW(h:gP x=0):Nd x:=by
 unfold gP at h;by_cases h1:cH x.d=0;case neg=>rw[asp (by simpa using h1)] at h;exact absurd h h1
 rw[aso (by simpa using h1)] at h;by_cases O:fS x.d x.eW=0;case neg=>rw[asp (by simpa using O)] at h;exact absurd h O
 rw[aso (by simpa using O)] at h;by_cases M:iC x.d x.done=0;case neg=>rw[asp (by simpa using M)] at h;exact absurd h M
 rw[aso (by simpa using M)] at h;by_cases J:fC x.d x.vj=0;case neg=>rw[asp (by simpa using J)] at h;exact absurd h J
 rw[aso (by simpa using J)] at h;by_cases A:mJ x.eG=0;case neg=>rw[asp (by simpa using A)] at h;exact absurd h A
 rw[aso (by simpa using A)] at h;by_cases z:kZ x.dr=0;case neg=>rw[asp (by simpa using z)] at h;exact absurd h z
 rw[aso (by simpa using z)] at h;split at h
 .cases h
 .rename_i X;cases u:O8 x with
  |false=>rw[u] at h;cases h
  |true=>
   unfold O8 at u;simp only[asv,bO,asy,asH] at u;obtain⟨W,a2,a3,a4,a5,V⟩:=u;exact⟨h1,O,M,J,A,z,Y,W,a2,a3,a4,a5,V⟩
theorem wX(h:nP x aI fin=0):gZ x.d x.eW aI (tZ x fin) aI=0/\jB x.d x.done (PG x aI fin) aI=0/\iq x.d (XP x aI fin) (Lq x aI)=0:=by
 unfold nP at h;by_cases h1:gZ x.d x.eW aI (tZ x fin) aI=0
 .rw[aso (by simpa using h1)] at h;by_cases u:jB x.d x.done (PG x aI fin) aI=0
  .rw[aso (by simpa using u)] at h;exact⟨h1,u,h⟩
  .rw[asp (by simpa using u)] at h;exact absurd h u
 .rw[asp (by simpa using h1)] at h;exact absurd h h1
theorem Nf(h:nP x aI fin=0):fV x.d (Jk x aI fin)/\∀c∈Jk x aI fin,aI<=dH x.d c/\dH x.d c<=fin-1:=by
 obtain⟨-,-,A⟩:=wX h;obtain⟨J,a2⟩:=acr (Q:=λh f=>aI<=h-cG x.d (jh x.d f.toNat).aZ/\h-cG x.d (jh x.d f.toNat).aZ<=fin-1) A (λc u=>by have h1:=(at6.1 u).1;have z:=(at6.1 h1).2;rw[bO] at z;exact z) λh f g e q=>by rw[e];exact q
 exact⟨J,λc u=>(a2 c u).2⟩
theorem Pd(h:fV d l):fT Ca l:=by
 refine awp ?_ h.2;intro a b q;unfold tf Cm.ti at q;unfold Ca;simp only[asy];simp only at q;omega
theorem yC(h:fV d l):fT j7 l:=awp (λq=>.inl (mU.2 q)) h.2
theorem Wt(h1:fT j7 l)(A:fT j7 l')(h:∀a∈l,∀b∈l',dH d a<dH d b):fT j7 (l++l'):=by
 refine atH.2 ⟨h1,A,λa z b u=>KO ?_⟩;have:=h a z b u;unfold dH Oz at this;by_cases e:a.aO=b.aO
 .left;intro J;rw[e,J] at this;omega
 .exact .inr (.inr e)
theorem Av:(mL d before [] (il Ca c)).Sublist (il Ca c):=by
 obtain⟨m,e,s⟩:=Da (d:=d) before (il Ca c) [];rw[e];exact s
theorem tD:(uc d before c).Perm (mL d before [] (il Ca c)):=cP _
theorem Db{y:Cm}(h:y∈uc d before c):y∈c:=(cP c).mem_iff.1 (Av.subset (tD.mem_iff.1 h))
theorem Wu(u:fV d c):fT j7 (mL d before [] (il Ca c)):=avQ Av ((yC u).perm (cP c).symm)
theorem Ay(u:fV d c):fV d (uc d before c):=by
 refine⟨λy z=>u.1 y (Db z),?_⟩;exact awp (λq=>mU.1 q) (qt BZ (Wu u))
theorem Jo(u:vy (ic d) before=true):Conv d (before++uc d before c):=by
 have key:Conv d (before++mL d before [] (il Ca c)):=by
  rcases Hc (d:=d) before (il Ca c) [] with e|e
  .rw[e,asT];exact Fj (IG u).1
  .exact(Fj (IG e).1).perm (cP _)
 exact key.perm (tD.symm.append_left before)
theorem Hd(u:uT d l)(i:Nat)(h:Int):cj l' i h<=cj (l++l') i h:=by rw[EO];have:=jT u i h;omega
theorem Pe(h0:cH d=0)(A:vy (ic d) before=true)(u:fV d before)(z:fV d c):Conv d (uc d before c):=(Jo (c:=c) A).less h0 (eF (Ay z)) λi h=>Hd (eF u) i h
theorem Conv.sB(C:Conv d S)(w:Int):dT d (dI d S w)=some (lT d S w):=by
 have h:=C.nd w;unfold lT;cases hk:dT d (dI d S w) with
 |none=>exact absurd hk h
 |some v=>rfl
theorem Conv.div(C:Conv d S)(h0:cH d=0)(w:Int):iJ d (dI d S w)=0:=sY.2 ⟨h0,oD.2 ⟨ik,C.PE w⟩⟩
theorem Conv.rdy(C:Conv d S)(h0:cH d=0)(w:Int):DO d (dI d S w) (lT d S w):=Gs (C.div h0 w) (C.sB w)
theorem Ng{l l':aX}(u:l.length=l'.length)(h:∀i,i<l.length->bL l i=bL l' i):l=l':=by
 refine at8 u λi h1 z=>?_;have:=h i h1;rw[cY (asw h1),cY (asw z)] at this;exact this
theorem eN{n:Nat}:(bV d S aI n).length=n:=by unfold bV;rw[asz,as3]
theorem yD{n:Nat}(h:i<n):bL (bV d S aI n) i=bL (lT d S (aI+i)) 0:=by
 apply cY;unfold bV;exact Ny
theorem Jp(C:Conv d S)(h0:cH d=0)(w:Int)(r:Nat):0<=bL (lT d S w) r/\bL (lT d S w) r<=1073741824:=jK (C.rdy h0 w).JU r
theorem tF(C:Conv d S)(h0:cH d=0){n:Nat}:∀v∈bV d S aI n,0<=v/\v<=1073741824:=λv u=>by
 unfold bV at u;obtain⟨i,-,rfl⟩:=asS.1 u;exact Jp C h0 _ _
structure nQ (d:aU) (S:List Cm) (aI free:Int) (n:Nat):Prop where
 mkk:free<aV (bV d S aI n)->dX free (bV d S aI n) (mkF free (bV d S aI n))
 dv:free<aV (bV d S aI n)->∀i,i<n->Jl d (dI d S (aI+i)) (bL (zG free (bV d S aI n)) i) (sE d (dI d S (aI+i)) (bL (zG free (bV d S aI n)) i))
theorem Lz{E:Int}{l:aX}(h:i<l.length):bL (zG E l) i=dC (mkF E l) (bL l i) i:=by
 apply cY;unfold zG NX;exact Ny
theorem yE(C:Conv d S)(h0:cH d=0){n:Nat}(A:n<=64)(z:0<=free)(hs:free<aV (bV d S aI n)):jX free (bV d S aI n)=0:=by
 unfold jX;rw[eN,aso Y,asp];rw[asv,asH,asy];refine⟨λv u=>?_,z,?_⟩
 .unfold JT;rw[asy];exact tF C h0 v u
 .have:aV (bV d S aI n)=(bV d S aI n).sum:=U;omega
theorem nQ.aw{n:Nat}(D:nQ d S aI free n)(C:Conv d S)(h0:cH d=0)(u:n<=64)(z:0<=free)(hs:free<aV (bV d S aI n)):(∀i,i<n->0<=bL (zG free (bV d S aI n)) i/\bL (zG free (bV d S aI n)) i<=bL (bV d S aI n) i)/\jW (bL (zG free (bV d S aI n))) n=free:=by
 have A:=(D.mkk hs).PA (yE C h0 u z hs);have e:∀i,i<n->bL (zG free (bV d S aI n)) i=dC (mkF free (bV d S aI n)) (bL (bV d S aI n) i) i:=λi hi=>Lz (by rw[eN];exact hi);refine⟨λi hi=>?_,?_⟩
 .rw[e i hi];exact A.b i (by rw[eN];exact hi)
 .rw[pW e];have:=A.s;rw[eN] at this;exact this
theorem Az{n:Nat}(hi:i<n):(iD d S aI n free).getD i []=if free<aV (bV d S aI n) then(sE d (dI d S (aI+i)) (bL (zG free (bV d S aI n)) i)).2.1 else dI d S (aI+i):=by
 unfold iD;split
 .rw[asC,as6,atU hi];rfl
 .rw[asC,as6,atU hi];rfl
theorem nQ.row{n:Nat}(D:nQ d S aI free n)(C:Conv d S)(h0:cH d=0)(X:n<=64)(Y:0<=free)(hi:i<n):((iD d S aI n free).getD i []).length=d.aR.length/\(∀f,f<d.aR.length->0<=bL ((iD d S aI n free).getD i []) f/\bL ((iD d S aI n free).getD i []) f<=bL (dI d S (aI+i)) f)/\∃hs,dT d ((iD d S aI n free).getD i [])=some hs/\0<=bL hs 0/\bL hs 0<=if free<aV (bV d S aI n) then bL (zG free (bV d S aI n)) i else bL (bV d S aI n) i:=by
 rw[Az hi];have R:=C.rdy h0 (aI+i);by_cases hs:free<aV (bV d S aI n)
 .rw[asp hs,asp hs];obtain⟨A,z,R',V⟩:=D.dv hs i hi;have e:A=lT d S (aI+i):=by rw[C.sB] at z;injection z with z;exact z.symm
  subst e;have J:=((D.aw C h0 X Y hs).1 i hi).1;have M:=V.met R J;obtain⟨Z,W,k2,k3,O⟩:=V.sB R J d.aD.length (asN _);refine⟨V.la,λf u=>⟨(M f u).1,(M f u).2.1⟩,Z,W,k3 0,?_⟩;have:=O 0 R.v.n.1;rw[V.top] at this;have h3:=jK R.JU 0;unfold cut at this;split at this<;>omega
 .rw[aso hs,aso hs];refine⟨ik,λf _=>⟨(jK (C.PE _) f).1,asO _⟩,_,C.sB _,(Jp C h0 _ _).1,?_⟩;rw[yD hi];exact asO _
theorem Fk{l:aX}:jW (bL l) l.length=aV l:=zW
theorem nQ.rf{n:Nat}(D:nQ d S aI free n)(C:Conv d S)(h0:cH d=0)(u:n<=64)(z:0<=free):jW (λi=>bL ((dT d ((iD d S aI n free).getD i [])).getD []) 0) n<=free:=by
 have h1:∀i,i<n->bL ((dT d ((iD d S aI n free).getD i [])).getD []) 0<=if free<aV (bV d S aI n) then bL (zG free (bV d S aI n)) i else bL (bV d S aI n) i:=λi hi=>by obtain⟨-,-,hs,e,-,h⟩:=D.row C h0 u z hi;rw[e];exact h
 apply auJ (vO h1);by_cases hs:free<aV (bV d S aI n)
 .simp only[asp hs];rw[(D.aw C h0 u z hs).2];exact asO _
 .simp only[aso hs];have:=Fk (l:=bV d S aI n);rw[eN] at this;rw[this];omega
end
def vk(d:aU)(c:Cm):Int×Int:=(dH d c,c.aO)
def Jq(d:aU):List Cm->aX->Int×Int->Int
 |c::l,a::az,q=>(if vk d c=q then a else 0)+Jq d l az q
 |_,_,_=>0
def jP(d:aU):List Cm->Int×Int->Int
 |[],_=>0
 |c::l,q=>(if vk d c=q then c.aC else 0)+jP d l q
def vl(S:List Cm)(aw:aX):List Cm:=(S.zip aw).filterMap λp=>if 0<p.2 then some {p.1 with aC:=p.2} else none
section
variable {d:aU} {x:cM} {aI fin free:Int} {before c l l' S:List Cm}
theorem pL:∀{l:List Cm} {L:Int×Int->Int},(pJ d L l).length=l.length
 |[],_=>rfl
 |c::l,L=>by rw[pJ,as2,as2,pL]
theorem Dc{q:Int×Int}:∀{l:List Cm},(∀c∈l,0<=c.aC)->0<=jP d l q
 |[],_=>asO _
 |c::l,h=>by
  have h1:0<=jP d l q:=Dc λy u=>h y (ast _ u)
  have z:=h c ass
  rw[jP]
  split<;>omega
theorem Jr{q:Int×Int}:∀{l:List Cm} {L:Int×Int->Int},(∀q,0<=L q)->(∀c∈l,0<=c.aC)->Jq d l (pJ d L l) q=min (jP d l q) (L q)
 |[],L,u,_=>by
  have:=u q
  rw[pJ,Jq,jP]
  .omega
  .intro c l a az h;cases h
 |c::l,L,u,h=>by
  have O:=h c ass
  have M:0<=jP d l q:=Dc λy A=>h y (ast _ A)
  have J:=u q
  rw[pJ,Jq,jP,Jr (l:=l) (λq=>?_) λy A=>h y (ast _ A)]
  .by_cases e:vk d c=q
   .have z:(dH d c,c.aO)=q:=e
    rw[asp e,asp e,asp z.symm,z]
    omega
   .have z:¬q=(dH d c,c.aO):=λk=>e k.symm
    rw[aso e,aso e,aso z]
    omega
  .have:=u q
   show 0<=if q=(dH d c,c.aO) then L q-min c.aC (L q) else L q
   split<;>omega
theorem LA:∀{l:List Cm} {L:Int×Int->Int},(∀q,0<=L q)->(∀c∈l,0<=c.aC)->∀p∈l.zip (pJ d L l),0<=p.2/\p.2<=p.1.aC
 |[],L,_,_,p,u=>by cases u
 |c::l,L,z,h,p,u=>by
  rw[pJ,auL] at u
  have M:=h c ass
  have J:=z (dH d c,c.aO)
  rcases asM.1 u with rfl|u
  .simp only
   omega
  .refine LA (l:=l) (λq=>?_) (λy A=>h y (ast _ A)) p u
   have:=z q
   show 0<=if q=(dH d c,c.aO) then L q-min c.aC (L q) else L q
   split<;>omega
theorem Js{c:Cm}{a:Int}{az:aX}:vl (c::l) (a::az)=(if 0<a then [{c with aC:=a}] else [])++vl l az:=by
 unfold vl;rw[auL,avt];by_cases h:0<a
 .simp only[asp h];rfl
 .simp only[aso h];rfl
theorem Nh{az:aX}:vl [] az=[]:=rfl
theorem ajE:∀{l:List Cm} {az:aX} {b:Cm},b∈vl l az->∃p∈l.zip az,0<p.2/\b={p.1 with aC:=p.2}
 |l,az,b,h=>by
  unfold vl at h
  obtain⟨p,u,e⟩:=aus.1 h
  split at e
  .rename_i h0
   injection e with e
   exact⟨p,u,h0,e.symm⟩
  .cases e
theorem ajH:∀{l:List Cm} {az:aX},(l.Pairwise λa b=>tf a.ti b.ti)->(vl l az).Pairwise λa b=>tf a.ti b.ti
 |[],az,_=>by rw[Nh];exact auS
 |c::l,[],_=>auS
 |c::l,a::az,h=>by
  rw[atE] at h
  rw[Js]
  refine atH.2 ⟨?_,ajH h.2,λy u z A=>?_⟩
  .split
   .exact atY _ _
   .exact auS
  .split at u
   .rw[asP] at u
    subst u
    obtain⟨p,J,-,rfl⟩:=ajE A
    exact h.1 p.1 (aww J).1
   .cases u
theorem ap1{az:aX}(h:fV d l)(J:∀p∈l.zip az,0<=p.2/\p.2<=p.1.aC):fV d (vl l az):=by
 refine⟨λb u=>?_,ajH h.2⟩;obtain⟨p,z,h0,rfl⟩:=ajE u;have A:=h.1 p.1 (aww z).1;have:=J p z;obtain⟨M,a2,a3,a4,a5⟩:=A;exact⟨M,a2,a3,⟨by show 1<=p.2;omega,by show p.2<=_;omega⟩,a5⟩
theorem Wv{c:Cm}(z:0<=c.aO){f:Nat}{h:Int}:vk d c=(h-cG d (jh d f).aZ,(f:Int))↔c.aO=f/\c.aH=h:=by
 unfold vk dH Oz;rw[atm];constructor
 .rintro⟨h1,u⟩;rw[show c.aO.toNat=f from Y] at h1;exact⟨u,Y⟩
 .rintro⟨h1,u⟩;rw[show c.aO.toNat=f from Y];exact⟨Y,h1⟩
theorem Fl{f:Nat}{h:Int}:∀{l:List Cm},(∀c∈l,0<=c.aO)->cj l f h=jP d l (h-cG d (jh d f).aZ,(f:Int))
 |[],_=>rfl
 |c::l,u=>by
  rw[cj,jP,Fl λy z=>u y (ast _ z)]
  have k:=Wv (d:=d) (u c ass) (f:=f) (h:=h)
  by_cases e:c.aO=f/\c.aH=h
  .rw[asp e,asp (k.2 e)]
  .rw[aso e,aso λq=>e (k.1 q)]
theorem abz{f:Nat}{h:Int}:∀{l:List Cm} {az:aX},(∀c∈l,0<=c.aO)->(∀p∈l.zip az,0<=p.2)->cj (vl l az) f h=Jq d l az (h-cG d (jh d f).aZ,(f:Int))
 |[],az,_,_=>by
  rw[Nh,Jq]
  .rfl
  .intro c l a az h;cases h
 |c::l,[],_,_=>by
  have e:vl (c::l) []=[]:=rfl
  rw[e,Jq]
  .rfl
  .intro c' l' a az h O;cases O
 |c::l,a::az,z,u=>by
  have k:=Wv (d:=d) (z c ass) (f:=f) (h:=h)
  have M:=u (c,a) (by rw[auL];exact ass)
  simp only at M
  rw[Js,EO,Jq,abz (λy A=>z y (ast _ A)) λp J=>u p (by rw[auL];exact ast _ J)]
  congr 1
  by_cases h0:0<a
  .rw[asp h0,cj,cj]
   by_cases e:c.aO=f/\c.aH=h
   .rw[asp e,asp (k.2 e)];show a+0=a;omega
   .rw[aso e,aso λq=>e (k.1 q)];rfl
  .rw[aso h0,cj,show a=0 from Y]
   split<;>rfl
theorem wY(u:∀c∈S,0<=c.aO){w:Int}{f:Nat}(z:f<d.aR.length):bL (dI d S w) f=jP d S (w,(f:Int)):=by
 unfold dI;rw[iY z,Fl (d:=d) u,Int.add_sub_cancel]
structure Dd (d:aU) (S:List Cm) (aI:Int) (n:Nat) (L:List (aX)):Prop where
 an:L.length=n
 row:∀i,i<n->(L.getD i []).length=d.aR.length/\∀f,f<d.aR.length->0<=bL (L.getD i []) f/\bL (L.getD i []) f<=bL (dI d S (aI+i)) f
theorem Fm{n:Nat}:(iD d S aI n free).length=n:=by
 unfold iD;split<;>rw[asz,as3]
theorem nQ.part{n:Nat}(D:nQ d S aI free n)(C:Conv d S)(h0:cH d=0)(u:n<=64)(z:0<=free):Dd d S aI n (iD d S aI n free):=⟨Fm,λ_ hi=>⟨(D.row C h0 u z hi).1,(D.row C h0 u z hi).2.1⟩⟩
theorem wZ{l:aX}(h:l.length<=i):bL l i=0:=by unfold bL;rw[asC,as1 h];rfl
theorem Ww:bL [] i=0:=rfl
theorem Dd.pos{n:Nat}{L:List (aX)}(P:Dd d S aI n L)(q:Int×Int):0<=sF aI L q:=by
 unfold sF;by_cases h:(q.1-aI).toNat<n
 .obtain⟨_,u⟩:=P.row _ h;by_cases k:q.2.toNat<d.aR.length
  .exact(u _ k).1
  .rw[wZ Y];exact asO _
 .rw[asC,as1 (by rw[P.an];omega)];exact asO _
theorem Dd.bX{n:Nat}{L:List (aX)}(P:Dd d S aI n L)(A:uT d S){w:Int}{f:Nat}(z:f<d.aR.length)(hw:aI<=w/\w<aI+n):Jq d S (pJ d (sF aI L) S) (w,(f:Int))=bL (L.getD (w-aI).toNat []) f:=by
 rw[Jr P.pos λc u=>by have:=(A c u).2.2;omega];obtain⟨h1,J⟩:=P.row (w-aI).toNat Y;have:=J f z;rw[show aI+(((w-aI).toNat:Nat):Int)=w from Y,wY (λc u=>(A c u).1.1) z] at this;unfold sF;show min (jP d S (w,(f:Int))) (bL (L.getD (w-aI).toNat []) f)=_;omega
theorem Fo{q:Int×Int}:∀{l:List Cm},(∀c∈l,vk d c≠q)->jP d l q=0
 |[],_=>rfl
 |c::l,h=>by rw[jP,aso (h c ass),Fo λy u=>h y (ast _ u)];rfl
end
structure acE (d:aU):Prop where
 h:d.aG<=24
 r:d.aD.length<=6
 f:d.aR.length<=6
def LB(x:cM)(aI:Int):Int:=min (aI+x.every) x.d.aG
def pM(x:cM)(aI:Int):Nat:=(LB x aI-aI).toNat
section
variable {d:aU} {x:cM} {aI fin free:Int} {before c l l' S G X:List Cm}
theorem Nd.aqW(s:Nd x)(h:Nat):0<=bL x.dU h/\bL x.dU h<=1073741824:=by
 have e:=s.inf;unfold lD at e;rw[asv,asH] at e;unfold bL;rw[asC];cases hk:x.dU[h]? with
 |none=>exact⟨asO _,Yd⟩
 |some v=>exact bO.1 (e.2 v (asq hk))
theorem ajK(A:∀c∈X,aI<=dH d c/\0<=c.aO){w:Int}(hw:w<aI):dI d (G++X) w=dI d G w:=by
 refine Ng (by unfold dI;rw[ik,ik]) λf u=>?_;unfold dI at u|-;rw[ik] at u;rw[iY u,iY u,EO,Fl (d:=d) (l:=X) λc z=>(A c z).2,Fo,atJ];intro c z e;have h1:=(A c z).1;have J:dH d c=w+cG d (jh d f).aZ-cG d (jh d f).aZ:=congrArg Prod.fst e;omega
theorem ajC(p:l.Perm l')(w:Int):dI d l w=dI d l' w:=by
 unfold dI;rw[show cj l=cj l' from funext λi=>funext λh=>Ce p i h]
theorem Wx{w:Int}(h:dI d l w=dI d l' w):lT d l w=lT d l' w:=by unfold lT;rw[h]
theorem yF{w:Int}(z:∀c∈l,dH d c≠w/\0<=c.aO)(f:Nat):bL (dI d l w) f=0:=by
 by_cases A:f<d.aR.length
 .rw[wY (λc u=>(z c u).2) A,Fo];intro c u e;exact(z c u).1 (congrArg Prod.fst e)
 .rw[wZ (by unfold dI;rw[ik];omega)]
theorem Wy{n:Nat}:bL (List.replicate n (0:Int)) r=0:=by
 exact adD
theorem yG{w:Int}(u:∀c∈l,dH d c≠w/\0<=c.aO)(r:Nat):bL (lT d l w) r=0:=by
 unfold lT dT;rw[uP λi=>yF u i];exact Wy
theorem ajL{m:Nat}(h:∀j,j<m->dY x.d l 0 j=dY x.d l' 0 j):re x l m=re x l' m:=by
 induction m with
 |zero=>rfl
 |succ m u=>rw[re,re,u λj z=>h j Y,h m Y]
structure nS (x:cM) (aI free:Int) (G S:List Cm) (aw:aX):Prop where
 sn:Nd x
 mh:0<=aI/\aI<x.d.aG
 JX:fV x.d G
 wv:∀c∈G,0<=dH x.d c/\dH x.d c<aI
 so:fV x.d S
 sw:∀c∈S,aI<=dH x.d c/\dH x.d c<=LB x aI-1
 cv:Conv x.d (G++S)
 fr:0<=free
 dv:nQ x.d S aI free (pM x aI)
 aw:aw=pJ x.d (sF aI (iD x.d S aI (pM x aI) free)) S
namespace nS
variable {aw:List Int}
theorem h0(N:nS x aI free G S aw):cH x.d=0:=N.sn.d
theorem n(N:nS x aI free G S aw):pM x aI<=64:=by
 have:=N.sn.ev;unfold pM LB;omega
theorem n'(N:nS x aI free G S aw):aI+pM x aI=LB x aI/\0<pM x aI:=by
 have:=N.sn.ev;have:=N.mh;unfold pM LB;omega
theorem cS(N:nS x aI free G S aw):Conv x.d S:=N.cv.less N.h0 (eF N.so) λi h=>Hd (eF N.JX) i h
theorem part(N:nS x aI free G S aw):Dd x.d S aI (pM x aI) (iD x.d S aI (pM x aI) free):=N.dv.part N.cS N.h0 N.n N.fr
theorem ark(N:nS x aI free G S aw):∀c∈S,0<=c.aC:=λc u=>by have:=(eF N.so c u).2.2;omega
theorem awb(N:nS x aI free G S aw):∀p∈S.zip aw,0<=p.2/\p.2<=p.1.aC:=by
 rw[N.aw];exact LA N.part.pos N.ark
theorem gok(N:nS x aI free G S aw):fV x.d (vl S aw):=ap1 N.so N.awb
theorem gw(N:nS x aI free G S aw):∀c∈vl S aw,aI<=dH x.d c/\dH x.d c<=LB x aI-1:=λb z=>by
 obtain⟨p,u,h0,rfl⟩:=ajE z;exact N.sw p.1 (aww u).1
theorem gf(N:nS x aI free G S aw):∀c∈vl S aw,aI<=dH x.d c/\0<=c.aO:=λb u=>⟨(N.gw b u).1,(eF N.gok b u).1.1⟩
theorem EJ(N:nS x aI free G S aw):fT j7 (G++vl S aw):=Wt (d:=x.d) (yC N.JX) (yC N.gok) λa z b u=>by
 have h1:=N.wv a z;have A:=N.gw b u;omega
theorem ok'(N:nS x aI free G S aw):fV x.d (il j7 (G++vl S aw)):=by
 refine⟨λb u=>?_,awp (λq=>mU.1 q) (qt BZ N.EJ)⟩;rcases atf.1 ((cP _).mem_iff.1 u) with h|h
 .exact N.JX.1 b h
 .exact N.gok.1 b h
theorem wv'(N:nS x aI free G S aw):∀c∈il j7 (G++vl S aw),0<=dH x.d c/\dH x.d c<LB x aI:=λb u=>by
 have:=N.n';rcases atf.1 ((cP _).mem_iff.1 u) with h|h
 .have:=N.wv b h;omega
 .have:=N.gw b h;have:=N.mh;omega
theorem le(N:nS x aI free G S aw)(f:Nat)(h:Int):cj (vl S aw) f h<=cj S f h:=by
 rw[abz (d:=x.d) (λc u=>(eF N.so c u).1.1) λp z=>(N.awb p z).1,Fl (d:=x.d) λc u=>(eF N.so c u).1.1,N.aw,Jr N.part.pos N.ark];omega
theorem ajM(N:nS x aI free G S aw):Conv x.d (il j7 (G++vl S aw)):=by
 refine(N.cv.less (l':=G++vl S aw) N.h0 (λc u=>?_) λi h=>?_).perm (cP _).symm
 .rcases atf.1 u with h|h
  .exact eF N.JX c h
  .exact eF N.gok c h
 .rw[EO,EO];have:=N.le i h;omega
theorem abq(N:nS x aI free G S aw){w:Int}(hw:w<aI):dI x.d (il j7 (G++vl S aw)) w=dI x.d G w:=by
 rw[ajC (cP _),ajK N.gf hw]
theorem ajO(N:nS x aI free G S aw)(hi:i<pM x aI):dI x.d (il j7 (G++vl S aw)) (aI+i)=(iD x.d S aI (pM x aI) free).getD i []:=by
 rw[ajC (cP _)];obtain⟨h1,J⟩:=N.part.row i hi;refine Ng (by unfold dI;rw[ik,h1]) λf z=>?_;unfold dI at z|-;rw[ik] at z;rw[iY z,EO,Fl (d:=x.d) (l:=G) λc u=>(eF N.JX c u).1.1,abz (d:=x.d) (λc u=>(eF N.so c u).1.1) λp A=>(N.awb p A).1,Int.add_sub_cancel,Fo λc u e=>?_,N.aw,N.part.bX (eF N.so) z Y,show(aI+(i:Int)-aI).toNat=i from Y,avV];have:=N.wv c u;have M:dH x.d c=aI+i:=congrArg Prod.fst e;omega
theorem abj(N:nS x aI free G S aw){h:Nat}(u:r<x.d.aD.length)(z:(h:Int)<aI):dY x.d (il j7 (G++vl S aw)) r h=dY x.d G r h:=by
 unfold dY;have:=(BR (gY N.h0) (kp N.h0) r u).1;rw[Wx (N.abq Y)]
theorem nR(N:nS x aI free G S aw):0<x.d.aD.length:=(gY N.h0).n.1
theorem asc(u:List Cm)(h0:cH x.d=0)(h:Nat):dY x.d u 0 h=bL (lT x.d u h) 0:=by
 unfold dY;rw[(gY h0).up0,Rf Y,Int.sub_zero]
theorem acX(N:nS x aI free G S aw)(hm:(m:Int)<=aI):re x (il j7 (G++vl S aw)) m=re x G m:=ajL λj u=>N.abj N.nR Y
theorem arl(N:nS x aI free G S aw):jW (λi=>dY x.d (il j7 (G++vl S aw)) 0 (aI.toNat+i)) (pM x aI)<=free:=by
 refine auJ (Int.le_of_eq (pW λi hi=>?_)) (N.dv.rf N.cS N.h0 N.n N.fr);have hm:=N.mh;rw[asc _ N.h0,show((aI.toNat+i:Nat):Int)=aI+i from Y];unfold lT;rw[N.ajO hi];obtain⟨-,-,hs,e,-⟩:=N.dv.row N.cS N.h0 N.n N.fr hi;rw[e];rfl
theorem yH(N:nS x aI free G S aw)(hs:re x G aI.toNat=free)(J:free<=x.d.cap):∀i,i<=pM x aI->(0<=re x (il j7 (G++vl S aw)) (aI.toNat+i)/\re x (il j7 (G++vl S aw)) (aI.toNat+i)<=x.d.cap)/\free-jW (λi=>dY x.d (il j7 (G++vl S aw)) 0 (aI.toNat+i)) i<=re x (il j7 (G++vl S aw)) (aI.toNat+i):=by
 have hm:=N.mh;have hd:=N.arl;have pos:∀j,0<=dY x.d (il j7 (G++vl S aw)) 0 j:=λj=>(Jp N.ajM N.h0 _ _).1;have part:∀i,i<=pM x aI->jW (λi=>dY x.d (il j7 (G++vl S aw)) 0 (aI.toNat+i)) i<=free:=λi hi=>by
  refine auJ ?_ hd;obtain⟨k,hk⟩:∃k,pM x aI=i+k:=⟨pM x aI-i,Y⟩;rw[hk];clear hk hi;induction k with
  |zero=>exact asO _
  |succ k u=>
   have:=pos (aI.toNat+(i+k));show _<=jW _ (i+k)+dY x.d (il j7 (G++vl S aw)) 0 (aI.toNat+(i+k));omega
 intro i;induction i with
 |zero=>
  intro _;rw[Nat.add_zero,N.acX Y,hs];exact⟨⟨N.fr,J⟩,by show free-0<=free;omega⟩
 |succ i u=>
  intro hi;obtain⟨⟨M,a2⟩,a3⟩:=u Y;have z:=part (i+1) hi;have q:jW (λi=>dY x.d (il j7 (G++vl S aw)) 0 (aI.toNat+i)) (i+1)=jW (λi=>dY x.d (il j7 (G++vl S aw)) 0 (aI.toNat+i)) i+dY x.d (il j7 (G++vl S aw)) 0 (aI.toNat+i):=U;have f1:=N.sn.aqW (aI.toNat+i);have A:=pos (aI.toNat+i);rw[show aI.toNat+(i+1)=(aI.toNat+i)+1 from Y,re];have O:0<=jW (λi=>dY x.d (il j7 (G++vl S aw)) 0 (aI.toNat+i)) (i+1):=by
   clear a3 z q u M a2 hi f1 A;induction (i+1) with
   |zero=>exact asO _
   |succ k u=>have:=pos (aI.toNat+k);show 0<=jW _ k+dY x.d (il j7 (G++vl S aw)) 0 (aI.toNat+k);omega
  omega
end nS
end
structure oM (x:cM) (s:pK):Prop where
 ex:∃before,S4 x s.aI s.free before/\s=ra x s.aI s.free before
 dv:nQ x.d s.bJ s.aI s.free (pM x s.aI)
 part:s.cQ=pJ x.d (sF s.aI (iD x.d s.bJ s.aI (pM x s.aI) s.free)) s.bJ
 so:fV x.d s.bJ
 sw:∀c∈s.bJ,s.aI<=dH x.d c/\dH x.d c<=LB x s.aI-1
 cv:Conv x.d s.bJ
 fr:0<=s.free
 mh:0<=s.aI/\s.aI<x.d.aG
 fin:s.fin=LB x s.aI
 short:s.short=decide (s.free<aV (bV x.d s.bJ s.aI (pM x s.aI)))
def jr(l:List Cm)(f:Nat):Int:=aV (l.map λc=>if c.aO=(f:Int) then c.aC else 0)
def my:List Cm->aX->Nat->Int
 |c::l,a::az,f=>(if c.aO=f then a else 0)+my l az f
 |_,_,_=>0
def eX(x:cM)(k:Nat):Int:=(k:Int)*x.every
noncomputable def ug (x:cM)(k:Nat):Int:=re x (cy x k).bX (eX x k).toNat
noncomputable def uh (x:cM)(k:Nat):pK:=ra x (eX x k) (ug x k) (cy x k).bX
def Fp(x:cM)(k:Nat):Prop:=nQ x.d (uh x k).bJ (eX x k) (ug x k) (pM x (eX x k))
section
variable {d:aU} {x:cM} {aI fin free:Int} {before c l l' S G X:List Cm}
theorem De:jr (l++l')=λf=>jr l f+jr l' f:=by
 funext f;unfold jr;rw[asK];unfold aV;rw[atS]
theorem Pf(p:l.Perm l')(f:Nat):jr l f=jr l' f:=by
 unfold jr;exact E0 (p.map _)
theorem Jt{f:Nat}:∀{l:List Cm} {az:aX},(∀p∈l.zip az,0<=p.2)->jr (vl l az) f=my l az f
 |[],az,_=>by
  rw[Nh,my]
  .rfl
  .intro c l a az h;cases h
 |c::l,[],_=>by
  have e:vl (c::l) []=[]:=rfl
  rw[e,my]
  .rfl
  .intro c' l' a az h M;cases M
 |c::l,a::az,u=>by
  have J:=u (c,a) (by rw[auL];exact ass)
  simp only at J
  have z:=Jt (f:=f) (l:=l) (az:=az) λp A=>u p (by rw[auL];exact ast _ A)
  rw[Js,De,my]
  simp only
  rw[z]
  congr 1
  by_cases h0:0<a
  .rw[asp h0]
   show aV [if c.aO=f then a else 0]=_
   unfold aV;simp
  .rw[aso h0,show a=0 from Y]
   split<;>rfl
theorem Ju{α:Type}{f g:α->Int}:∀{l:List α},aV (l.map λa=>f a+g a)=aV (l.map f)+aV (l.map g)
 |[]=>rfl
 |a::l=>by rw[asQ,asQ,asQ,bK,bK,bK,Ju];omega
theorem S5{n:Nat}{h:Int}{v:Int}:0<=h->h<n->aV ((List.range n).map λj:Nat=>if h=(j:Int) then v else 0)=v:=by
 induction n with
 |zero=>intro h1 J;omega
 |succ n u=>
  intro h1 J;rw[atn,asK];unfold aV at u|-;rw[atS];by_cases e:h=(n:Int)
  .have z:((List.range n).map λj:Nat=>if h=(j:Int) then v else 0).sum=0:=by
    have:((List.range n).map λj:Nat=>if h=(j:Int) then v else 0)=(List.range n).map λ_=>0:=at1 λj A=>by rw[aso];rw[as0] at A;omega
    rw[this];generalize List.range n=l;induction l with
    |nil=>rfl
    |cons a l u=>rw[asQ,atu,u];rfl
   rw[z];simp[e]
  .rw[u h1 Y];simp[e]
theorem He{α:Type}:∀{l:List α},aV (l.map λ_=>(0:Int))=0
 |[]=>rfl
 |a::l=>by rw[asQ,bK,He];rfl
theorem Df{f:Nat}:∀{l:List Cm},uT d l->aV ((List.range d.aG.toNat).map λh:Nat=>cj l f h)=jr l f
 |[],_=>He
 |c::l,A=>by
  have J:=A c ass
  have M:=Df (f:=f) (l:=l) λy O=>A y (ast _ O)
  have e:((List.range d.aG.toNat).map λh:Nat=>cj (c::l) f h)=(List.range d.aG.toNat).map λh:Nat=>(if c.aH=(h:Int) then(if c.aO=f then c.aC else 0) else 0)+cj l f h:=at1 λh _=>by
   rw[cj]
   by_cases z:c.aO=f
   .by_cases u:c.aH=h
    .rw[asp ⟨z,u⟩,asp u,asp z]
    .rw[aso λq=>u q.2,aso u]
   .rw[aso λq=>z q.1,aso z]
    split<;>rfl
  rw[e,Ju,S5 J.2.1.1 (by have:=J.2.1;omega),M]
  unfold jr
  rw[asQ,bK]
structure acF (x:cM) (k:Nat):Prop where
 sn:Nd x
 JX:fV x.d (cy x k).bX
 wv:∀c∈(cy x k).bX,0<=dH x.d c/\dH x.d c<min (eX x k) x.d.aG
 cv:Conv x.d (cy x k).bX
 yH:∀m:Nat,(m:Int)<=min (eX x k) x.d.aG->0<=re x (cy x k).bX m/\re x (cy x k).bX m<=x.d.cap
 iw:∀s∈(cy x k).gK,oM x s
 tk:∀f:Nat,aV ((cy x k).gK.map λs=>my s.bJ s.cQ f)=jr (cy x k).bX f
theorem pN(h0:(cy x k).err=0):cy x (k+1)=if eM x (eX x k) (ug x k) (cy x k).bX≠0 then⟨eM x (eX x k) (ug x k) (cy x k).bX,(cy x k).gK,(cy x k).bX⟩ else⟨0,(cy x k).gK++[uh x k],il j7 ((cy x k).bX++acB (uh x k))⟩:=by
 rw[cy,aso (by simpa using h0)];rfl
theorem Ni(h0:(cy x k).err≠0):cy x (k+1)=cy x k:=by rw[cy,asp h0]
theorem S6(h:(cy x (k+1)).err=0):(cy x k).err=0/\eM x (eX x k) (ug x k) (cy x k).bX=0:=by
 by_cases h0:(cy x k).err=0
 .refine⟨h0,?_⟩;rw[pN h0] at h;split at h
  .rename_i q;exact absurd h q
  .rename_i q;exact awo.1 q
 .rw[Ni h0] at h;exact absurd h h0
theorem yI:eX x (k+1)=eX x k+x.every:=by unfold eX;rw[asA,atX];omega
theorem yJ(h:cH x.d=0):0<=x.d.bH/\x.d.bH<=x.d.cap/\x.d.cap<=1099511627776/\1<=x.d.aG/\x.d.aG<=4096:=by
 have u:=(Am.1 h).2;have:=ig.1 (dA.1 u).1;omega
theorem XQ(P:S4 x aI free G)(hs:Nd x)(u:fV x.d G)(hw:∀c∈G,0<=dH x.d c/\dH x.d c<aI)(D:nQ x.d (ra x aI free G).bJ aI free (pM x aI)):nS x aI free G (ra x aI free G).bJ (ra x aI free G).cQ:=by
 obtain⟨f1,f2⟩:=Nf P.fc;exact⟨hs,P.mh,u,hw,Ay f1,λc z=>f2 c (Db z),Jo P.mkk,P.fr.1,D,U⟩
theorem Wz(hs:gP x=0):∀k:Nat,(∀j,j<k->eX x j<x.d.aG)->(cy x k).err=0->(∀j,j<k->Fp x j)->acF x k
 |0,_,_,_=>by
  have sn:=wW hs
  have Z:=yJ sn.d
  refine⟨sn,⟨λc u=>(by cases u),auS⟩,λc u=>(by cases u),Conv.nil,λm hm=>?_,λs u=>(by cases u),λf=>rfl⟩
  have:m=0:=by unfold eX at hm;omega
  subst this
  exact⟨Z.1,Z.2.1⟩
 |k+1,hk,he,V=>by
  obtain⟨e0,e1⟩:=S6 he
  have I:=Wz hs k (λj hj=>hk j Y) e0 λj hj=>V j Y
  have P:=tC.1 e1
  have hm:=hk k Y
  have a1:=I.sn.ev
  have m0:=P.mh.1
  have N:=XQ P I.sn I.JX (λc u=>by have:=I.wv c u;omega) (V k Y)
  have W:=pN e0
  rw[aso (by simpa using e1)] at W
  have A:(cy x (k+1)).bX=il j7 ((cy x k).bX++vl (uh x k).bJ (uh x k).cQ):=by rw[W];rfl
  have es:(cy x (k+1)).gK=(cy x k).gK++[uh x k]:=by rw[W]
  have z:LB x (eX x k)=min (eX x (k+1)) x.d.aG:=by rw[yI];rfl
  have M:=I.yH (eX x k).toNat Y
  have hn:=N.n'
  refine⟨I.sn,by rw[A];exact N.ok',λc u=>?_,by rw[A];exact N.ajM,λm O=>?_,λs u=>?_,λf=>?_⟩
  .rw[A] at u
   rw[<-z]
   exact N.wv' c u
  .rw[A]
   by_cases q:(m:Int)<=eX x k
   .have e:=N.acX (m:=m) q
    have J:=I.yH m (by omega)
    have e':re x (il j7 ((cy x k).bX++vl (uh x k).bJ (uh x k).cQ)) m=re x (cy x k).bX m:=e
    rw[e'];exact J
   .rw[<-z] at O
    have J:=N.yH rfl M.2 (m-(eX x k).toNat) (by omega)
    rw[show(eX x k).toNat+(m-(eX x k).toNat)=m by omega] at J
    exact J.1
  .rw[es] at u
   rcases atf.1 u with h|h
   .exact I.iw s h
   .rw[asP] at h
    subst h
    exact⟨⟨_,P,rfl⟩,V k Y,rfl,N.so,N.sw,N.cS,N.fr,P.mh,rfl,rfl⟩
  .rw[es,A,asK,pC,I.tk f,Pf (cP _),De]
   simp only
   rw[Jt (f:=f) (l:=(uh x k).bJ) (az:=(uh x k).cQ) λp hp=>(N.awb p hp).1]
   have e3:aV (List.map (λs=>my s.bJ s.cQ f) [uh x k])=my (uh x k).bJ (uh x k).cQ f:=by
    rw[asQ,au1,bK,nF,atJ]
   rw[e3]
end
section
variable {d:aU} {x:cM} {G:List Cm} {f:Nat->Nat->Int}
theorem Nj{lo hi t:Int}(h:lo<=hi)(u:0<=t/\t<=1000):lo<=Nc lo hi t/\Nc lo hi t<=hi:=by
 unfold Nc;have h1:0<=(hi-lo)*t:=atq Y u.1;have z:(hi-lo)*t<=(hi-lo)*1000:=atd u.2 Y;omega
theorem S7{y:Reach}{v:Int}(A:eB y=true)(u:0<=v):0<=v*y.s0.n/y.s0.d/\v*y.s0.n/y.s0.d<=(v*y.s1.n+y.s1.d-1)/y.s1.d:=by
 obtain⟨-,V⟩:=fJ.1 A;obtain⟨O,M,J⟩:=gy.1 V;obtain⟨a1,a2,a3⟩:=eJ.1 O;obtain⟨Z,b2,b3⟩:=eJ.1 M;have c1:=(cV.1 a1).1;have c2:=(cV.1 Z).1;refine⟨aue (atq u a2) Y,?_⟩;rw[avF Y];have z:v*y.s0.n/y.s0.d*y.s0.d<=v*y.s0.n:=Int.ediv_mul_le _ Y;generalize v*y.s0.n/y.s0.d=F at z|-;have e2:F*y.s0.d*y.s1.d<=v*y.s0.n*y.s1.d:=ati z Y;have X:v*(y.s0.n*y.s1.d)<=v*(y.s1.n*y.s0.d):=atd J u;have W:(F*y.s1.d)*y.s0.d<=(v*y.s1.n)*y.s0.d:=by rw[<-awk,<-awk] at X;rw[Int.mul_right_comm F y.s1.d y.s0.d];omega
 have e5:=avr W Y;omega
theorem S8{y:Reach}{v t u:Int}(X:eB y=true)(hv:0<=v/\v<=1073741824)(ht:0<=t/\t<=1000)(hu:0<=u/\u<=1000):(0<=uf y v t/\uf y v t<=v)/\(0<=wV y v t u/\wV y v t u<=v)/\uf y v t+wV y v t u<=v/\nC y v<=v-uf y v t-wV y v t u/\SI y v (uf y v t) (wV y v t u)=true:=by
 obtain⟨h1,h2⟩:=fJ.1 X;obtain⟨s1,s2⟩:=S7 X hv.1;have b1:=Nj h1.2.1 ht;have b2:=Nj s2 hu;by_cases z:v=0
 .subst z;have V:uf y 0 t=0:=by unfold uf;rw[aso Y]
  have A:wV y 0 t u=0:=by unfold wV;rw[aso Y]
  rw[V,A];refine⟨Y,Y,Y,?_,by unfold SI;rw[asp U];rfl⟩;unfold nC gM;rw[asp U];show(0:Int)-0<=0-0-0;omega
 .have V:uf y v t=min v (Nc y.dN.lo y.dN.hi t):=by unfold uf;rw[asp Y]
  have A:wV y v t u=min (v-uf y v t) (Nc (v*y.s0.n/y.s0.d) ((v*y.s1.n+y.s1.d-1)/y.s1.d) u):=by unfold wV;rw[asp Y]
  obtain⟨E,hE⟩:∃E,E=uf y v t:=⟨_,U⟩;obtain⟨Z,hZ⟩:∃Z,Z=wV y v t u:=⟨_,U⟩;obtain⟨B1,W⟩:∃B,B=Nc y.dN.lo y.dN.hi t:=⟨_,U⟩;obtain⟨B2,M⟩:∃B,B=Nc (v*y.s0.n/y.s0.d) ((v*y.s1.n+y.s1.d-1)/y.s1.d) u:=⟨_,U⟩;obtain⟨L,O⟩:∃L,L=v*y.s0.n/y.s0.d:=⟨_,U⟩;obtain⟨H,hH⟩:∃H,H=(v*y.s1.n+y.s1.d-1)/y.s1.d:=⟨_,U⟩;rw[<-O,<-hH] at s2 b2 A M;rw[<-O] at s1;rw[<-M] at b2 A;rw[<-W] at b1 V;rw[<-hE] at V A|-;rw[<-hZ] at A|-;have J:Ep (v*y.s1.n) y.s1.d=H:=hH.symm;have lo:(gM y v).lo=min v (y.dN.lo+L):=by unfold gM;rw[aso z,O]
  have hi:(gM y v).hi=min v (y.dN.hi+H):=by unfold gM;rw[aso z,J]
  refine⟨Y,Y,Y,by unfold nC;rw[hi];omega,?_⟩;rw[SJ z,J,lo,hi,<-O];refine⟨Y,Y,Y,Y,?_⟩;by_cases q:E+Z=v
  .exact .inl q
  .right;omega
theorem anm(s:Nd x)(r h:Nat):(0<=zb x.dN r h/\zb x.dN r h<=1000)/\0<=zb x.kM r h/\zb x.kM r h<=1000:=by
 have key:∀l:List (aX),(∀y∈l,y∈x.dN++x.kM)->0<=zb l r h/\zb l r h<=1000:=λl A=>by
  unfold zb;rw[asC];cases hk:l[r]? with
  |none=>exact⟨asO _,show(0:Int)<=1000 from Yd⟩
  |some v=>
   have:=s.wx v (A v (asq hk));unfold lD at this;rw[asv,asH] at this;show 0<=bL v h/\bL v h<=1000;unfold bL;rw[asC];cases z:v[h]? with
   |none=>exact⟨asO _,show(0:Int)<=1000 from Yd⟩
   |some n=>exact bO.1 (this.2 n (asq z))
 exact⟨key _ λy u=>atO _ u,key _ λy u=>atV _ u⟩
structure Hf (x:cM) (G:List Cm):Prop where
 sn:Nd x
 JX:fV x.d G
 wv:∀c∈G,0<=dH x.d c
 cv:Conv x.d G
 yH:∀m:Nat,(m:Int)<=x.d.aG->0<=re x G m/\re x G m<=x.d.cap
theorem Hf.SH(F:Hf x G)(r h:Nat):0<=dY x.d G r h/\dY x.d G r h<=1073741824:=Jp F.cv F.sn.d _ _
theorem Hf.rO(F:Hf x G)(u:r<x.d.aD.length)(h:Nat):(0<=Ha x G r h/\Ha x G r h<=dY x.d G r h)/\(0<=Hb x G r h/\Hb x G r h<=dY x.d G r h)/\Ha x G r h+Hb x G r h<=dY x.d G r h/\nC (dB x.d r) (dY x.d G r h)<=dY x.d G r h-Ha x G r h-Hb x G r h/\SI (dB x.d r) (dY x.d G r h) (Ha x G r h) (Hb x G r h)=true:=S8 ((gY F.sn.d).rO u).1 (F.SH r h) (anm F.sn r h).1 (anm F.sn r h).2
theorem sI{α:Type}{p:α->Bool}{g:α->Int}:∀{l:List α},aV ((l.filter p).map g)=aV (l.map λa=>if p a then g a else 0)
 |[]=>rfl
 |a::l=>by
  rw[atT,asQ,bK,<-sI]
  cases p a with
  |true=>simp only[auM,asQ,bK]
  |false=>simp
theorem WA(h0:cH d=0)(_hr:r<d.aD.length)(h:Nat):aV (dg d (dI d G ((h:Int)-cG d r)) (lT d G ((h:Int)-cG d r)) r)=tkV d G r h+acC d G r h:=by
 unfold dg fF;rw[asK,pC];congr 1
 .unfold rK tkV;rw[auo,sI];refine fG λf z=>?_;rw[as0] at z;unfold isF;by_cases e:(jh d f).aZ=r
  .rw[asE e,asp U,asp e];show bL (dI d G _) f=_;unfold dI;rw[iY z,e,awi]
  .rw[asG e,aso e];rfl
 .unfold tQ acC;rw[auo,sI];refine fG λc A=>?_;rw[as0] at A;unfold isC;by_cases e:(dB d c).up=r
  .have u:0<c:=by
    rcases atD c with q|q
    .subst q;rw[(gY h0).up0] at e;omega
    .exact q
   rw[asE e,asp U,asp ⟨u,e⟩];show bL (lT d G _) c=_;unfold dY;rw[e]
  .rw[asG e,aso λq:0<c/\(dB d c).up=(r:Int)=>e q.2];rfl
theorem Hf.tail(F:Hf x G)(u:r<x.d.aD.length)(h:Nat):0<=O9 x G r h/\O9 x G r h<=1073741824:=by
 have hw:=WA (G:=G) F.sn.d u h;obtain⟨Z,X⟩:=oE (kp F.sn.d) u;have M:=(BR (gY F.sn.d) (kp F.sn.d) r u).1;have R:=F.cv.rdy F.sn.d ((h:Int)-cG x.d r);have hs:=(R.sum r).1;rw[hw] at hs;unfold O9 ank;by_cases q:(dB x.d r).bD<=h
 .rw[asp q];obtain⟨a,O⟩:∃a:Nat,a=h-(dB x.d r).bD.toNat:=⟨_,U⟩;rw[<-O];have L:=F.rO u a;have b:=F.SH r a;have nd:=R.nd r u;obtain⟨l1,l2,J⟩:=R.v.rO u;have nb:=(qm _ _ ⟨l2,J⟩ l1 nd).2.2.2 (R.sum r).1;have V:bL (lT x.d G ((h:Int)-cG x.d r)) r=dY x.d G r a:=by unfold dY;rw[show(a:Int)-cG x.d (dB x.d r).up=(h:Int)-cG x.d r from Y]
  rw[V,hw] at nb;omega
 .rw[aso q];have W:aV (dg x.d (dI x.d G ((h:Int)-cG x.d r)) (lT x.d G ((h:Int)-cG x.d r)) r)=0:=by
   unfold dg;have:aV ((fF x.d r).map (rN (dI x.d G ((h:Int)-cG x.d r)) (lT x.d G ((h:Int)-cG x.d r))))=aV ((fF x.d r).map λ_=>0):=by
    refine fG λp _=>?_;have z:∀c∈G,dH x.d c≠(h:Int)-cG x.d r/\0<=c.aO:=λc A=>⟨λe=>by have:=F.wv c A;omega,(eF F.JX c A).1.1⟩;unfold rN;split
    .exact yF z _
    .exact yG z _
   rw[this];exact He
  omega
theorem Hf.SG(F:Hf x G){h:Nat}(u:(h:Int)<x.d.aG):0<=sH x G h/\sH x G h<=1073741824:=by
 have h1:=F.yH h Y;have A:=F.sn.aqW h;have z:=F.SH 0 h;unfold sH;omega
end
theorem qG{D:Nat->Prop}{w:World}:∀{xs:List (aX)} {cs:aW},dW gC D w xs cs->(cs.all λu=>u.oneCell')=true
 |[],cs,h=>by
  have:=h
  subst this;rfl
 |x::xs,cs,h=>by
  obtain⟨a,b,rfl,J,z⟩:=h
  obtain⟨A,n,c,rfl,-⟩:=J
  rw[avZ,qG z];rfl
theorem bS.acG{α:Type}{a:Ty α}{A:bZ}{n:Nat}{xs:List α}(h:bS a D w A n xs):∃cs,Src w A n a.sz cs/\dW a D w xs cs:=by
 rcases atD n with h0|h0
 .have M:=h.an;have:xs=[]:=asL Y;subst this;exact⟨[],⟨by rw[h0];simp,λq=>absurd q Y⟩,U⟩
 .obtain⟨b,o,J,x,rfl,_⟩:=h.au h0;obtain⟨cs,u,z⟩:=h.cells;exact⟨cs,⟨by rw[u.an,h.an],λ_=>⟨b,o,U,z⟩⟩,u⟩
theorem S9{ps:List eV}(h:mJ ps=0):ps.all kY=true:=by
 unfold mJ at h;split at h
 .cases h
 .exact W9
section
variable {D:Nat->Prop} {w:World} {A:Option Addr} {n c:Nat}
set_option maxRecDepth 8000 in
set_option maxHeartbeats 1000000 in
theorem Fq{bw:aW}{x:cM}(hx:iu D w bw x)(cI:x.d.aD.length<=64/\x.dN.length<=1000/\x.kM.length<=1000):aA 22 #[.agg bw.toArray] w (iv (gP x)):=by
 have hx0:=hx;obtain⟨db,G1,m1,e1,G2,m2,e2,G3,m3,e3,G4,m4,e4,G5,m5,e5,G6,m6,e6,G7,m7,e7,G8,m8,e8,rfl,hd,g1,g2,g3,g4,g5,g6,g7,g8,q3,q4,q6⟩:=hx.ex;have hd0:=hd;obtain⟨A1,n1,c1,A2,n2,c2,A3,n3,c3,A4,n4,c4,A5,n5,c5,A6,n6,c6,rfl,c8,cp,-⟩:=hd.ex;have bI:=c8.an;have bT:=cp.an;have l4:=g4.an;have cK:=g4.le;have l7:=g7.an;have l8:=g8.an;apply aF func22 Z;refine box λb1 w1 h1=>?_;have B1:aP w1 b1 42 ([.string x.d.name,iv x.d.aG,iv x.d.cap,iv x.d.bH,aB A1 n1 c1,aB A2 n2 c2,aB A3 n3 c3,aB A4 n4 c4,aB A5 n5 c5,aB A6 n6 c6]++[iv x.every,aB G1 m1 e1,aB G2 m2 e2,aB G3 m3 e3,aB G4 m4 e4,aB G5 m5 e5,aB G6 m6 e6,aB G7 m7 e7,aB G8 m8 e8]):=h1.aS;refine ao2 ?_;refine alloc λb3 w2 h2=>?_;refine fg h2.aS λw3 B3 k3 _=>?_;have B3:aP w3 b3 31 [.string x.d.name,iv x.d.aG,iv x.d.cap,iv x.d.bH,aB A1 n1 c1,aB A2 n2 c2,aB A3 n3 c3,aB A4 n4 c4,aB A5 n5 c5,aB A6 n6 c6]:=B3;have t1:=h1.au;have t3:=h2.au;have s1:=h1.size;have x13:ax w1 w3:=h2.ae.ag k3 λb hb _ e=>Y;have B1:=B1.ae x13;have x03:=h1.ae.trans x13;refine lit [.func (.func 54) #[] #[ptr b3],.func (.func 55) #[] #[ptr b3,ptr b1],.func (.func 57) #[] #[ptr b3,ptr b1],.func (.func 59) #[] #[ptr b3,ptr b1],.func (.func 61) #[] #[ptr b1],.func (.func 63) #[] #[ptr b1]] λgl w4 hq=>?_;have x04:=x03.trans hq.ae;have B1:=B1.ae hq.ae;have B3:=B3.ae hq.ae;have BL:aP w4 gl 174 [.func (.func 54) #[] #[ptr b3],.func (.func 55) #[] #[ptr b3,ptr b1],.func (.func 57) #[] #[ptr b3,ptr b1],.func (.func 59) #[] #[ptr b3,ptr b1],.func (.func 61) #[] #[ptr b1],.func (.func 63) #[] #[ptr b1]]:=hq.aS;refine an ?_;refine aM (λk:Nat=>[(21,iv (k:Int))]) (λk u=>k<=6/\ax w4 u/\∀e∈(jU x).take k,e=0) (λk _=>6-k) 0 ⟨U,Yt⟩ ⟨Y,.refl _ _,λe he=>by(rw[atg] at he;cases he)⟩ U ?_;rintro G k u ⟨hk,xu,hall⟩;refine cD (λhlt=>?_) λhge=>?_
 .have D3:=B3.ae xu;have D1:=B1.ae xu;have dd:=hd0.ae (x04.trans xu);have dx:=hx0.ae (x04.trans xu);match k,hlt with
  |0,_=>
   refine go ?_;refine ld (.func (.func 54) #[] #[ptr b3]) ((BL.ae xu).ai U) ?_;refine bW (Ls D3 dd) λu2 x2=>?_;obtain⟨er,her⟩:∃er,er=cH x.d:=⟨_,U⟩;rw[<-her];refine cN (λq=>?_) λq=>?_
   .exact aQ (iv er) U ⟨by rw[jV (k:=0) U hall (by rw[<-her];exact q),her],(x04.trans xu).trans x2⟩
   .refine go ?_;refine next 1 ⟨U,Yt⟩ ⟨Y,xu.trans x2,λe he=>?_⟩ Y;rw[show(jU x).take 1=(jU x).take 0++[cH x.d] from U] at he;exact Pv
  |1,_=>
   refine go ?_;refine ld (.func (.func 55) #[] #[ptr b3,ptr b1]) ((BL.ae xu).ai U) ?_;refine bW (Lt D3 dd D1 dx) λu2 x2=>?_;obtain⟨er,her⟩:∃er,er=fS x.d x.eW:=⟨_,U⟩;rw[<-her];refine cN (λq=>?_) λq=>?_
   .exact aQ (iv er) U ⟨by rw[jV (k:=1) U hall (by rw[<-her];exact q),her],(x04.trans xu).trans x2⟩
   .refine go ?_;refine next 2 ⟨U,Yt⟩ ⟨Y,xu.trans x2,λe he=>?_⟩ Y;rw[show(jU x).take 2=(jU x).take 1++[fS x.d x.eW] from U] at he;exact Pv
  |2,_=>
   refine go ?_;refine ld (.func (.func 57) #[] #[ptr b3,ptr b1]) ((BL.ae xu).ai U) ?_;refine bW (Lu D3 dd D1 dx) λu2 x2=>?_;obtain⟨er,her⟩:∃er,er=iC x.d x.done:=⟨_,U⟩;rw[<-her];refine cN (λq=>?_) λq=>?_
   .exact aQ (iv er) U ⟨by rw[jV (k:=2) U hall (by rw[<-her];exact q),her],(x04.trans xu).trans x2⟩
   .refine go ?_;refine next 3 ⟨U,Yt⟩ ⟨Y,xu.trans x2,λe he=>?_⟩ Y;rw[show(jU x).take 3=(jU x).take 2++[iC x.d x.done] from U] at he;exact Pv
  |3,_=>
   refine go ?_;refine ld (.func (.func 59) #[] #[ptr b3,ptr b1]) ((BL.ae xu).ai U) ?_;refine bW (Lw D3 dd D1 dx) λu2 x2=>?_;obtain⟨er,her⟩:∃er,er=fC x.d x.vj:=⟨_,U⟩;rw[<-her];refine cN (λq=>?_) λq=>?_
   .exact aQ (iv er) U ⟨by rw[jV (k:=3) U hall (by rw[<-her];exact q),her],(x04.trans xu).trans x2⟩
   .refine go ?_;refine next 4 ⟨U,Yt⟩ ⟨Y,xu.trans x2,λe he=>?_⟩ Y;rw[show(jU x).take 4=(jU x).take 3++[fC x.d x.vj] from U] at he;exact Pv
  |4,_=>
   refine go ?_;refine ld (.func (.func 61) #[] #[ptr b1]) ((BL.ae xu).ai U) ?_;refine bW (Lx D1 dx) λu2 x2=>?_;obtain⟨er,her⟩:∃er,er=mJ x.eG:=⟨_,U⟩;rw[<-her];refine cN (λq=>?_) λq=>?_
   .exact aQ (iv er) U ⟨by rw[jV (k:=4) U hall (by rw[<-her];exact q),her],(x04.trans xu).trans x2⟩
   .refine go ?_;refine next 5 ⟨U,Yt⟩ ⟨Y,xu.trans x2,λe he=>?_⟩ Y;rw[show(jU x).take 5=(jU x).take 4++[mJ x.eG] from U] at he;exact Pv
  |5,_=>
   refine go ?_;refine ld (.func (.func 63) #[] #[ptr b1]) ((BL.ae xu).ai U) ?_;refine bW (Ly D1 dx) λu2 x2=>?_;obtain⟨er,her⟩:∃er,er=kZ x.dr:=⟨_,U⟩;rw[<-her];refine cN (λq=>?_) λq=>?_
   .exact aQ (iv er) U ⟨by rw[jV (k:=5) U hall (by rw[<-her];exact q),her],(x04.trans xu).trans x2⟩
   .refine go ?_;refine next 6 ⟨U,Yt⟩ ⟨Y,xu.trans x2,λe he=>?_⟩ Y;rw[show(jU x).take 6=(jU x).take 5++[kZ x.dr] from U] at he;exact Pv
 have ck:k=6:=Y;subst ck;have hall:∀e∈jU x,e=0:=hall;have EE:=Pa hall;have hd00:cH x.d=0:=hall _ ass;have cg:mJ x.eG=0:=hall _ (by unfold jU;simp);have cb:=S9 cg;have hh:=eC hd00;obtain⟨k1,k2,-⟩:=jO hd00;obtain⟨B1,B3⟩:=zQ xu B1 B3;have J:=x04.trans xu;have hm1:0<=(n1:Int)*x.d.aG/\(n1:Int)*x.d.aG<=64*4096:=⟨atq Y Y,auJ (ati (show(n1:Int)<=64 from Y) Y) (atd Y Y)⟩;have cL:0<=(n2:Int)*x.d.aG/\(n2:Int)*x.d.aG<=600*4096:=⟨atq Y Y,auJ (ati (show(n2:Int)<=600 from Y) Y) (atd Y Y)⟩;rw[bI,bT] at EE;refine go ?_;refine cD (λp1=>?_) λp1=>?_
 .exact aQ (iv 2) U ⟨by rw[EE,asp (.inl p1)],J⟩
 refine go ?_;refine cD (λp2=>?_) λp2=>?_
 .exact aQ (iv 2) U ⟨by rw[EE,asp (.inr p2)],J⟩
 rw[aso Y] at EE;have bad:O8 x=false->iv 580=iv (gP x):=λe=>by rw[EE,e];rfl
 refine go ?_;refine cR Cy (λp3=>?_) λp3=>?_;rotate_left
 .exact aQ (iv 580) U ⟨bad (by unfold O8;rw[p3];rfl),J⟩
 refine go ?_;refine dt (CY (g6.ae J)) (λv2 p4 xv=>?_) λv2 p4 xv=>?_;rotate_left
 .exact aQ (iv 580) U ⟨bad (by unfold O8;rw[p3,p4];rfl),J.trans xv⟩
 obtain⟨B1,B3⟩:=zQ xv B1 B3;have b0:=J.trans xv;refine go ?_;refine cN (λp5=>?_) λp5=>?_
 .exact aQ (iv 580) U ⟨bad (by unfold O8;rw[p3,p4,asG Y];rfl),b0⟩
 have q5:decide (x.dN.length=x.d.aD.length)=true:=asE Y;refine go ?_;refine cN (λp6=>?_) λp6=>?_
 .exact aQ (iv 580) U ⟨bad (by unfold O8;rw[p3,p4,q5,asG Y];rfl),b0⟩
 have bE:decide (x.kM.length=x.d.aD.length)=true:=asE Y;have wx:O8 x=((x.dN++x.kM).all (lD x.d.aG 1000)&&sD x.every x.d.aG (-1) x.eG):=by unfold O8;rw[p3,p4,q5,bE];rfl
 refine go ?_;refine lit [aB G7 m7 e7,aB G8 m8 e8] λgg v3 bk=>?_;have V:=b0.trans bk.ae;obtain⟨aa,bA,bt⟩:=(g7.ae V).acG;obtain⟨a8,bx,br⟩:=(g8.ae V).acG;have BG:aP v3 gg 38 ([(G7,m7,e7,aa),(G8,m8,e8,a8)].map sv.v):=bk.aS;refine aJ (Wq BG U Y λs hs=>?_) ?_
 .rcases asM.1 hs with rfl|hs
  .exact⟨bA,by show m7<=_;omega,qG bt⟩
  .rw[asP] at hs;subst hs;exact⟨bx,by show m8<=_;omega,qG br⟩
 rintro _ v4 ⟨A9,n9,c9,rfl,o9⟩;have ak:=V.trans o9.ae;obtain⟨B1,B3⟩:=zQ (bk.ae.trans o9.ae) B1 B3;have bq:dW gC D v4 (x.dN++x.kM) (aa++(a8++[])):=by rw[asT];exact(bt.app br).di λb hb _=>o9.ae.aS b hb Yt
 have ct:n9=(x.dN++x.kM).length:=by have e1:=o9.own.an;have e2:=bq.an;rw[show gC.sz=1 from U] at e2;have e3:([(G7,m7,e7,aa),(G8,m8,e8,a8)].flatMap (·.2.2.2))=aa++(a8++[]):=U;rw[e3] at e1;omega
 have cT:(x.dN++x.kM).length<=2000:=by rw[asu];omega
 have s9:bS gC (λ_=>True) v4 A9 n9 (x.dN++x.kM):=o9.own.rd (a:=gC) (bq.ar λ_ _ _=>Yt) ct Y λ_ _=>Yt;refine an ?_;refine aM (λk:Nat=>[(92,iv (k:Int))]) (λk u=>k<=n9/\ax v4 u/\(x.dN++x.kM).all (lD x.d.aG 1000)=((x.dN++x.kM).drop k).all (lD x.d.aG 1000)) (λk _=>n9-k) 0 ⟨U,Yt⟩ ⟨Y,.refl _ _,U⟩ U ?_;rintro G2 k u2 ⟨hk,xu2,he⟩;refine cD (λhlt=>?_) λhge2=>?_
 .obtain⟨bb,o,cs,y,rfl,hy,hdk,-,hc,a6⟩:=(s9.ae xu2).au (show k<n9 from Y);obtain⟨A10,n10,c10,rfl,bp,-⟩:=a6;rw[hdk,atv] at he;refine go ?_;refine ld (iv x.d.aG) ((B3.ae xu2).ai U) ?_;refine dt (CY bp) (λu3 g av=>?_) λu3 g av=>?_
  .refine go ?_;refine next (k+1) ⟨Yn,Yt⟩ ⟨Y,xu2.trans av,?_⟩ Y;rw[he,g];rfl
  .exact aQ (iv 580) U ⟨bad (by rw[wx,he,g];rfl),(ak.trans xu2).trans av⟩
 have be:O8 x=sD x.every x.d.aG (-1) x.eG:=by rw[wx,he,as8 Y];rfl
 obtain⟨B1,B3⟩:=zQ xu2 B1 B3;have ay:=ak.trans xu2;have ev:=bO.1 p3;refine go ?_;refine aM (λs:Nat×Int=>[(105,iv (s.1:Int)),(8,iv s.2)]) (λs u=>s.1<=m4/\ax u2 u/\sD x.every x.d.aG (-1) x.eG=sD x.every x.d.aG s.2 (x.eG.drop s.1)) (λs _=>m4-s.1) (0,-1) ⟨U,U,Yt⟩ ⟨by show 0<=m4;omega,.refl _ _,U⟩ U ?_;rintro G3 ⟨k,last⟩ u4 ⟨hk,O,he⟩;simp only at hk he;refine cD (λhlt=>?_) λcw=>?_
 .obtain⟨bb,o,cs,y,rfl,hy,hdk,-,hc,a6⟩:=(g4.ae (ay.trans O)).au (show k<m4 from Y);rw[hdk] at he;obtain⟨P1,a7,r1,P2,bG,r2,rfl,cr,-⟩:=kH a6;have bg:=asH.1 cb y (asq hy);have hbl:1<=(y.bounds.length:Int)/\(y.bounds.length:Int)<=16:=by unfold kY qw at bg;simp only[asv,bO] at bg;exact bg.2.1.1
  have bo:=cr.an;refine go ?_;refine alloc λb10 y1 a1=>?_;refine fg a1.aS λy2 B10 ky _=>?_;have B10:aP y2 b10 90 [iv y.body,aB P1 a7 r1,aB P2 bG r2]:=B10;have t10:=a1.au;have aq:ax u4 y2:=a1.ae.ag ky λb hb _ e=>Y;obtain⟨B1,B3⟩:=zQ (O.trans aq) B1 B3;have af:=(ay.trans O).trans aq;have fe:sD x.every x.d.aG last (y::x.eG.drop (k+1))=(decide (last<y.body)&&(decide (((y.bounds.length:Int)-1)*x.every<x.d.aG)&&sD x.every x.d.aG y.body (x.eG.drop (k+1)))):=U;refine go ?_;refine cD (λp7=>?_) λp7=>?_
  .exact aQ (iv 580) U ⟨bad (by rw[be,he,fe,asG Y];rfl),af⟩
  have hmul:0<=((a7:Int)-1)*x.every/\((a7:Int)-1)*x.every<=15*64:=⟨atq Y Y,auJ (ati (show(a7:Int)-1<=15 from Y) Y) (atd Y Y)⟩;refine go ?_;refine cD (λp8=>?_) λp8=>?_
  .exact aQ (iv 580) U ⟨bad (by rw[be,he,fe,bo,asG (p:=_<x.d.aG) Y,avl,atA]),af⟩
  refine go ?_;refine next (k+1,y.body) ⟨by show iv _=iv _;rw[asA];rfl,U,Yt⟩ ⟨by show k+1<=m4;omega,O.trans aq,?_⟩ (by show m4-(k+1)<m4-k;omega);rw[he,fe,bo,asE Y,asE Y];rfl
 .refine aQ (iv 0) U ⟨?_,ay.trans O⟩;have:O8 x=true:=by rw[be,he,as8 Y];rfl
  rw[EE,this];rfl
end
end
end Go.Proofs.YtakcjkbnfegidaaGreat
