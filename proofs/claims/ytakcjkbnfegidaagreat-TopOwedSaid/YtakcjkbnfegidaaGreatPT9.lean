/- Part. -/
import Derived.Test.YtakcjkbnfegidaaGreatPT8
set_option linter.all false
namespace Go.Proofs.YtakcjkbnfegidaaGreat
open Go Go.RowKit Tryz
variable{d:aU}{aH aN dq r x:Int}{xs:List r9}{b c g0 g1 g2 k n q:Nat}{u w w0:World}{t:TypeId}{cs:aW}{L:List MapEntry}{e:MapEntry}{l:List dz}
section
open Classical
def VX(d:aU)(aN:Int)(xs:List r9)(aH:Int)(i:Nat)(x:BD):Bool:=dS aH (oW d aN xs i x).first ((oW d aN xs i x).fin-1)
def CJ(d:aU)(aN:Int)(xs:List r9)(aH:Int)(k:Nat):aX:=(List.range k).filterMap λi=>match d.ed[i]? with
 |some x=>if VX d aN xs aH i x then some (i:Int) else none
 |none=>none
theorem CK{x:BD}(h:d.ed[k]? =some x):CJ d aN xs aH (k+1)=CJ d aN xs aH k++(if VX d aN xs aH k x then [(k:Int)] else []):=by
 unfold CJ;rw[atn,auP];congr 1;rw[avt,h];simp only[awg];split<;>simp_all
def XN(d:aU)(aN:Int)(xs:List r9)(aH:Int):aX:=CJ d aN xs aH d.ed.length
def uy(d:aU)(xs:List r9)(aH aN:Int):Int:=if iC d xs≠0 then iC d xs else if dS aH 0 (d.aG-1)&&dS aN 0 1048576 then 0 else 1
theorem eC(h:cH d=0):1<=d.aG/\d.aG<=4096:=by
 have hv:gH d=true:=by unfold cH at h;exact W9
 exact(ig.1 (dA.1 hv).1).1
theorem jO{d:aU}(h:cH d=0):d.aD.length<=64/\d.aR.length<=600/\d.bn.length<=256/\d.ed.length<=256:=by
 unfold cH at h;cases hm:jc d with
 |true=>rw[hm] at h;cases h
 |false=>
  unfold jc at hm;simp only[atb,asv,asy] at hm;omega
theorem wK(h:iC d xs=0):cH d=0/\Cz d.ed.length (-1) xs=true:=by
 unfold iC at h;split at h
 .exact Yg
 .exact Yg
theorem MI{m:Nat}:∀{l:List r9} {last:Int},Cz m last l=true->∀x∈l,UE m x=true
 |[],_,_,_,u=>by cases u
 |a::l,last,h,x,u=>by
  unfold Cz at h
  rw[asv,asv] at h
  rcases asM.1 u with rfl|u
  .exact h.2.1
  .exact MI h.2.2 x u
theorem acg{aN:Int}{xs:List r9}{i a:Int}(J:∀x∈xs,0<=x.au)(h:fM aN xs i=some a):0<=a:=by
 unfold fM at h;have:∀(l:List r9) (o:Option Int),(∀x∈l,0<=x.au)->(∀a,o=some a->0<=a)->∀a,l.foldl (λo x=>if x.aN<=aN/\x.nX=i then(match o with|none=>some x.au|some a=>some (min x.au a)) else o) o=some a->0<=a:=λl=>by
  induction l with
  |nil=>exactλo _ z a h=>z a h
  |cons x l O=>
   intro o M z a h;rw[aul] at h;refine O _ (λy V=>M y (ast _ V)) (λb u=>?_) a h;have J:=M x ass;split at u
   .split at u
    .injection u with u;omega
    .rename_i c;injection u with u;have:=z c U;omega
   .exact z b u
 exact this xs none J (λa h=>by cases h) a h
theorem MJ{d:aU}{aN:Int}{xs:List r9}(h:iC d xs=0)(i:Nat)(x:BD):0<=(oW d aN xs i x).fin/\(oW d aN xs i x).fin<=4096:=by
 obtain⟨J,h1⟩:=wK h;have M:=eC J;unfold oW;cases z:fM aN xs i with
 |none=>simp only;omega
 |some a=>
  simp only;have:=acg (λx u=>by have:=MI h1 x u;unfold UE at this;simp only[asv] at this;have:=bO.1 this.2.2.1;omega) z
  omega
theorem ach{κ:Type}{kv:κ->Value}{f:κ->Option Value}{g:Nat}(h:aP w b t cs)(hm:dw kv w g f):g≠b:=λe=>by
 subst e;obtain⟨L,q,u,-⟩:=hm;have h1:w.heap[g]? =_:=h;rw[u.au] at h1;cases h1
theorem oJ{κ:Type}{kv:κ->Value}{f:κ->Option Value}{g:Nat}{r:Loop}(h:dc w b r)(hm:dw kv w g f):g≠b:=λe=>by
 subst e;obtain⟨L,q,u,-⟩:=hm;have h1:w.heap[g]? =_:=h;rw[u.au] at h1;cases h1
section
variable {D:Nat->Prop} {w:World} {A:Option Addr} {n c:Nat}
set_option maxRecDepth 4000 in
theorem VY{ay:aW}(hd:iG D w ay d)(h:bS XI D w A n xs):aK prog 36 #[.agg ay.toArray,aB A n c,iv aH,iv aN] w (λv w'=>ax w w'/\∃A' n' c',v=.tuple #[aB A' n' c',iv (uy d xs aH aN)]/\(uy d xs aH aN=0->bS cO (λ_=>True) w' A' n' (XN d aN xs aH))):=by
 have hd0:=hd.ar (D':=λb=>b<w.heap.size) λb h _=>h;have hx0:=h.ar (D':=λb=>b<w.heap.size) Yd λb h _=>h;have a7:=hd0;obtain⟨A1,n1,c1,A2,n2,c2,A3,n3,c3,A4,n4,c4,A5,n5,c5,A6,n6,c6,rfl,-,-,-,-,hdu,-⟩:=hd0.ex;have bq:=hdu.an;have br:=hdu.le;refine aF func36 Z ?_;refine box λb4 w1 h1=>?_;refine box λb6 w2 h2=>?_;refine alloc λb8 w3 h3=>?_;have e1:=h1.au;have e2:=h2.au;have e3:=h3.au;have s1:=h1.size;have s2:=h2.size;have s3:=h3.size;have x3:=(h1.ae.trans h2.ae).trans h3.ae;have B4:aP w3 b4 31 [.string d.name,iv d.aG,iv d.cap,iv d.bH,aB A1 n1 c1,aB A2 n2 c2,aB A3 n3 c3,aB A4 n4 c4,aB A5 n5 c5,aB A6 n6 c6]:=(h1.aS.ae h2.ae).ae h3.ae;have B6:aP w3 b6 3 [iv aH]:=h2.aS.ae h3.ae;have B8:aP w3 b8 37 [aY]:=h3.aS;refine go ?_;refine bW (CA (a7.ae x3) (hx0.ae x3)) λw4 x4=>?_;obtain⟨B4,B6,B8⟩:=P9 x4 B4 B6 B8;have x04:=x3.trans x4;have s4:=x4.size;obtain⟨e,he⟩:∃e,e=iC d xs:=⟨_,U⟩;rw[<-he];refine cN (λq=>?_) λq=>?_
 .refine Ut ?_;intro w5 B5 k5;refine⟨x04.ag k5 λb hb _ e=>Y,none,0,0,?_,λh0=>?_⟩
  .unfold uy;rw[<-he,asp q];rfl
  .unfold uy at h0;rw[<-he,asp q] at h0;exact absurd h0 q
 have e0:uy d xs aH aN=if dS aH 0 (d.aG-1)&&dS aN 0 1048576 then 0 else 1:=by unfold uy;rw[<-he,aso (by simpa using q)]
 have bad:∀w5,ax w w5->aP w5 b8 37 [aY]->(dS aH 0 (d.aG-1)&&dS aN 0 1048576)=false->ax w w5/\∃A' n' c',Value.tuple #[aY,iv 1]=.tuple #[aB A' n' c',iv (uy d xs aH aN)]/\(uy d xs aH aN=0->bS cO (λ_=>True) w5 A' n' (XN d aN xs aH)):=λw5 x5 _ hb=>
  ⟨x5,none,0,0,by rw[e0,hb];rfl,λh0=>Yg⟩
 refine go ?_;refine eD (by have:=eC (wK (d:=d) (xs:=xs) Y).1;omega) ?_;refine cR y7 (λp1=>?_) λp1=>?_;rotate_left
 .refine Ut ?_;intro w5 B5 k5;exact bad w5 (x04.ag k5 λb hb _ e=>Y) B5 (by rw[p1];rfl)
 refine cR y7 (λp2=>?_) λp2=>?_;rotate_left
 .refine Ut ?_;intro w5 B5 k5;exact bad w5 (x04.ag k5 λb hb _ e=>Y) B5 (by rw[p1,p2];rfl)
 have bw:=(jO (wK (d:=d) (xs:=xs) Y).1).2.2.2;refine go ?_;refine aJ (CI (a7.ae x04)) ?_;rintro _ w5 ⟨b1,b2,b3,rfl,x5,C1,C2,C3,g1,g2,g3⟩;obtain⟨B6,B8⟩:=zQ x5 B6 B8;have x05:=x04.trans x5;have s5:=x5.size;have l3:=C3.lt;refine range (gf:=203) (lb:=#[ptr b2,ptr b3,ptr b1]) U λfn tmps w6 R hR hF bk x6 z6 hD6 hl6=>?_;show aK _ _ #[.func (.yield (w5.heap.size+1)) #[] #[],ptr b2,ptr b3,ptr b1] w6 _;have x06:=x05.trans x6;obtain⟨B6,B8⟩:=zQ x6 B6 B8;have s6:=x6.size;refine(y9 (aN:=aN) (xs:=xs) (D:=λx=>x<w5.heap.size/\x≠b8) (D':=λb=>b<w.heap.size) (λk u=>aj (λx=>x≠b8/\x≠w5.heap.size+1) w6 u/\dc u (w5.heap.size+1) R/\∃A' n' c',n'<=k/\aP u b8 37 [aB A' n' c']/\(∀g,A'=aL g->w6.heap.size<=g)/\bu w u A' n' c' 3 1 (cJ (CJ d aN xs aH k))) (λk u u' ⟨k7,l7,A',n',c',hn,q8,hq,own⟩ xx=>⟨k7.trans (ax.any xx),l7.ah xx Yt,A',n',c',hn,q8.ae xx,hq,own.ag xx⟩) ?_ ⟨Y,Y⟩ (λb hb=>⟨Y,Y⟩) (C1.ae x6) (C2.ae x6) (C3.ae x6) (a7.ae x06) (hx0.ae x06) ⟨.refl _ _,hl6,none,0,0,Y,B8,λ_ h=>(by cases h),bu.nil x06⟩).mono ?_
 .rintro k x u hxk ⟨k7,l7,A',n',c',hn,q8,J,own⟩ g _ M;subst hR;have hk:=(asr.1 hxk).1;refine dQ (args:=[.agg (oW d aN xs k x).c.toArray]) l7 U rfl hF bk ?_;refine alloc λb10 u1 a1=>?_;refine fg a1.aS λu2 B10 k2 z2=>?_;have bt:=a1.au;have xu2:ax u u2:=a1.ae.ag k2 λb hb _ e=>Y;have B10:aP u2 b10 230 (oW d aN xs k x).c:=B10;refine tN (l7.ah xu2 Yt) λu3 k3 _ aa=>?_;have s7:=k7.size;have av:b10≠w5.heap.size+1:=Y;have V:aj (λb=>b≠w5.heap.size+1) u u3:=(ax.any xu2).trans k3;have B10:=B10.ah k3 av;have a8:=k7.ag V λ_ _ h=>h.2;have bx:=B6.ah a8 ⟨Y,Y⟩;have aq:=q8.ah V Y;have M3:=M.ah V (oJ l7 M);have pf:=MJ (aN:=aN) (d:=d) (xs:=xs) Y k x;have own3:bu w u3 A' n' c' 3 1 (cJ (CJ d aN xs aH k)):=own.bY V (λg hg=>by have:=J g hg;omega) (own.ae.ag V λb hb _=>Y);refine go ?_;refine cR y7 (λp=>?_) λp=>?_
  .have af:VX d aN xs aH k x=true:=p;refine go ?_;refine lit [iv (k:Int)] λg1 u4 O=>?_;refine iI (own3.ag O.ae) (O.src (sz:=1) U) Y λb0 bp u5 o5 k5 hA=>?_;have s4:w6.heap.size<=u4.heap.size:=atI a8.size O.ae.size;have a6:∀g,b0=aL g->w6.heap.size<=g:=λg hg=>by
    rcases hA with e|e|e
    .exact J g (e▸hg)
    .rw[e] at hg;cases hg
    .exact Dx
   have be:=aq.ae O.ae;have ak:=be.ah k5 (λe2=>by have:=J _ e2;omega);refine st1 ak U λu6 q86 k6=>?_;have M4:=M3.ah O.ae Yt;have M5:=M4.ah k5 (xV (own3.ag O.ae) M4);have M6:=M5.ah k6 (ach ak M5);have l4:=aa.ah O.ae Yt;have l5:=l4.ah k5 (λe2=>by have:=J _ e2;omega);have l6:=l5.ah k6 Y;refine eQ _ l6 λu7 k8 l8=>?_;have ka:aj (λx=>x<w5.heap.size/\x≠b8) u u7:=((((V.cU λ_ _ h=>Y).trans (ax.any O.ae)).ag k5 λb _ h e2=>by have:=J _ e2;omega).ag k6 λ_ _ h=>h.2).ag k8 λ_ _ h=>Y;refine⟨U,⟨(((a8.trans (ax.any O.ae)).ag k5 λb hb _ e2=>by have:=J _ e2;omega).ag k6 λ_ _ h=>h.1).ag k8 λ_ _ h=>h.2,l8,b0,n'+1,bp,Y,q86.ah k8 Y,a6,?_⟩,ka,M6.ah k8 (oJ l6 M6)⟩;have o6:=o5.bY k6 (λg hg=>by have:=a6 g hg;omega) (o5.ae.ag k6 λb hb _=>Y);have o7:=o6.bY k8 (λg hg=>by have:=a6 g hg;omega) (o6.ae.ag k8 λb hb _=>Y);rw[CK hxk,asp af];unfold cJ at o7|-;rw[asK];exact o7
  .have af:VX d aN xs aH k x=false:=p;refine eQ _ aa λu4 k4 l4=>⟨U,⟨a8.ag k4 λ_ _ h=>h.2,l4,A',n',c',Y,aq.ah k4 Y,J,?_⟩,(V.cU λ_ _ h=>Y).ag k4 λ_ _ h=>Y,M3.ah k4 (oJ aa M3)⟩;have o4:=own3.bY k4 (λg hg=>by have:=J g hg;omega) (own3.ae.ag k4 λb hb _=>Y);rw[CK hxk,aso (by rw[af];decide),asT];exact o4
 .rintro v u ⟨k7,l7,A',n',c',hn,q8,J,own⟩;subst hR;refine dL _ l7 (by simp) λu6 k6=>?_;have q86:=q8.ah k6 Y;refine go<|st1 q86 U λu7 q87 k7'=>?_;have s7:=k7.size;have bg:=(k7.ag k6 λ_ _ h=>h.2).ag k7' λ_ _ h=>h.1;have bo:=(bg.aS _ Y ⟨Y,Y⟩).trans hD6;refine oN bo ?_;have k8:=aj.putObj u7 w5.heap.size (.deferred none);refine da _ (bj ((q87.ah k8 Y).ai U)) ?_;have o6:=own.bY k6 (λg hg=>by have:=J g hg;omega) (own.ae.ag k6 λb hb _=>Y);have o7:=o6.bY k7' (λg hg=>by have:=J g hg;omega) (o6.ae.ag k7' λb hb _=>Y);have o8:=o7.bY k8 (λg hg=>by have:=J g hg;omega) (o7.ae.ag k8 λb hb _=>Y);refine⟨o8.ae,A',n',c',by rw[e0,p1,p2];rfl,λ_=>?_⟩;exact o8.ints (λx hx=>by
   unfold CJ at hx;obtain⟨i,hi,h2⟩:=aus.1 hx;have hi:=as0.1 hi;split at h2
   .split at h2
    .injection h2 with h2;subst h2;unfold jt;omega
    .cases h2
   .cases h2) Y λ_ _=>Yt
end
theorem Sk(h:(L.map (·.key)).Nodup){M:MapEntry}(he:e∈L)(J:M∈L)(hk:e.key=M.key):e=M:=by
 obtain⟨i,hi⟩:=ath he;obtain⟨j,O⟩:=ath J;obtain⟨z,W⟩:=asr.1 hi;obtain⟨u,V⟩:=asr.1 O;rw[atw,atN,ato] at h;rcases awn i j with q|q|q
 .exact absurd Yg (h i j z u q)
 .subst q;rw[<-W,<-V]
 .exact absurd Yg (h j i u z q)
theorem yq(h:mN L c){z:MapEntry}(he:e∈L)(J:z∈L)(M:z.born=e.born):z=e:=by
 obtain⟨i,hi⟩:=ath he;obtain⟨j,u⟩:=ath J;have:=(h i e hi).2 j z u M;subst this;rw[hi] at u;injection u with u;exact u.symm
theorem GQ{a b:Int×Int}(h:dE a=dE b):a=b:=Yg
structure HI (d:aU) (L:List MapEntry) (seen:List Nat) (hs:List tm):Prop where
 nd:(hs.map λh=>(h.right,h.aO)).Nodup
 mem:∀h,h∈hs↔∃e∈L,e.born∈seen/\e.key=dE (h.right,h.aO)/\e.val=iv h.aC/\0<h.aC/\h.cC=uv d h.right.toNat
theorem HI.yes{seen:List Nat}{hs:List tm}(H:HI d L seen hs)(hU:(L.map (·.key)).Nodup){V:Nat}(hB:mN L V)(he:e∈L)(hn:e.born∉seen){q:Int×Int}{n:Int}(hk:e.key=dE q)(hv:e.val=iv n)(hp:0<n):HI d L (seen++[e.born]) (hs++[⟨q.1,q.2,n,uv d q.1.toNat⟩]):=by
 refine⟨?_,λh=>?_⟩
 .exact aoj
 .rw[atf,asP,H.mem];constructor
  .rintro(⟨e',he',hb',r⟩|rfl)
   .exact Ue
   .exact⟨e,he,atV _ ass,hk,hv,hp,U⟩
  .rintro⟨e',he',hb',hk',J,O,hr⟩;rcases atf.1 hb' with hb'|hb'
   .exact .inl ⟨e',he',hb',hk',J,O,hr⟩
   .rw[asP] at hb';have e0:=yq hB he he' hb';subst e0;right;have h1:=GQ (hk'.symm.trans hk);rw[hv] at J;injection J with _ J;obtain⟨a,b,l,r⟩:=h;simp only at h1 J hr;have h2:a=q.1:=by rw[<-h1]
    have h3:b=q.2:=by rw[<-h1]
    rw[hr,<-J,h2,h3]
theorem HI.no{seen:List Nat}{hs:List tm}(H:HI d L seen hs){V:Nat}(hB:mN L V)(he:e∈L){n:Int}(hv:e.val=iv n)(hp:¬0<n):HI d L (seen++[e.born]) hs:=by
 refine⟨H.nd,λh=>?_⟩;rw[H.mem];constructor
 .rintro⟨e',he',hb',r⟩;exact Ue
 .rintro⟨e',he',hb',hk',J,O,hr⟩;rcases atf.1 hb' with hb'|hb'
  .exact⟨e',he',hb',hk',J,O,hr⟩
  .rw[asP] at hb';have e0:=yq hB he he' hb';subst e0;rw[hv] at J;injection J with _ J;omega
theorem HI.end_{d:aU}{L:List MapEntry}{seen:List Nat}{hs:List tm}{z:BK}(H:HI d L seen hs)(hU:(L.map (·.key)).Nodup)(hf:∀a,gN (dE a) L=vz z a)(O:∀e∈L,e.born∈seen)(B:kI d z):(zr d z).Perm hs:=by
 have W:(zr d z).Nodup:=by have:=wD (d:=d) (b:=z);unfold mH at this;refine atw.2 (this.imp λ{a b} h e=>?_);rw[e,MC.irr] at h;cases h
 have M:=atw.2 ((atN.1 (atw.1 H.nd)).imp λ{a b} h e=>h (by rw[e]));refine(List.perm_ext_iff_of_nodup W M).2 λh=>?_;rw[IC,H.mem];constructor
 .rintro⟨r,f,hr,a6,J,rfl⟩;have h1:=hf ((r:Int),(f:Int));cases u:z ((r:Int),(f:Int)) with
  |none=>unfold ml at J;rw[u] at J;exact absurd J Yd
  |some n=>
   have h2:gN (dE ((r:Int),(f:Int))) L=some (iv n):=by rw[h1];unfold vz;rw[u];rfl
   obtain⟨e,he,hk,V⟩:=BW h2;have Z:ml z ((r:Int),(f:Int))=n:=by unfold ml;rw[u];rfl
   rw[Z] at J|-;exact⟨e,he,O e he,hk,V,J,U⟩
 .rintro⟨e,he,-,hk,V,J,hr⟩;have h1:=nI hU he;rw[hk,hf,V] at h1;have u:z (h.right,h.aO)=some h.aC:=by
   unfold vz at h1;cases u:z (h.right,h.aO) with
   |none=>rw[u] at h1;cases h1
   |some n=>rw[u] at h1;injection h1 with h1;injection h1 with _ h1;rw[h1]
  obtain⟨⟨a1,y,a2,-⟩,a3⟩:=B.key _ _ u;simp only at a1 a2 a3;have X:=(asr.1 a2).1;have e1:((h.right.toNat:Nat):Int)=h.right:=Y;have e2:((h.aO.toNat:Nat):Int)=h.aO:=Y;refine⟨h.right.toNat,h.aO.toNat,X,Y,?_,?_⟩
  .rw[e1,e2];unfold ml;rw[u];exact J
  .rw[e1,e2];have Z:ml z (h.right,h.aO)=h.aC:=by unfold ml;rw[u];rfl
   rw[Z,<-hr]
section
variable {D:Nat->Prop} {w:World} {A:Option Addr} {n c:Nat}
set_option maxRecDepth 8000 in
set_option maxHeartbeats 1000000 in
theorem Sl{bo:aW}{d:aU}{xs:List dz}{aH aN:Int}(hd:iG D w bo d)(h:bS oI D w A n xs)(hn:n<=12):aK prog 35 #[.agg bo.toArray,aB A n c,iv aH,iv aN] w (λv w'=>ax w w'/\∃A' n' c',v=.tuple #[aB A' n' c',iv (mr d xs aH aN)]/\(mr d xs aH aN=0->bu w w' A' n' c' 124 4 ((Hk d xs aH aN).flatMap tm.c))/\(mr d xs aH aN≠0->A'=none/\n'=0/\c'=0)):=by
 have hd0:=hd;have hl:=h.an;obtain⟨A1,n1,c1,A2,n2,c2,A3,n3,c3,A4,n4,c4,A5,n5,c5,A6,n6,c6,rfl,-,-,-,a7,-⟩:=hd.ex;have cb:=a7.an;refine aF func35 Z ?_;refine box λb4 w1 h1=>?_;have B4:aP w1 b4 31 [.string d.name,iv d.aG,iv d.cap,iv d.bH,aB A1 n1 c1,aB A2 n2 c2,aB A3 n3 c3,aB A4 n4 c4,aB A5 n5 c5,aB A6 n6 c6]:=h1.aS;refine go ?_;refine bW (yk (hd0.ae h1.ae) (h.ae h1.ae)) λw2 x2=>?_;have B4:=B4.ae x2;have x02:=h1.ae.trans x2;obtain⟨er,her⟩:∃er,er=fS d xs:=⟨_,U⟩;rw[<-her];refine cN (λq=>?_) λq=>?_
 .have e0:mr d xs aH aN=er:=by unfold mr;rw[<-her,asp q]
  exact ret ⟨x02,none,0,0,by rw[e0];rfl,λh0=>absurd (e0.symm.trans h0) q,λ_=>⟨U,U,U⟩⟩
 have bg:fS d xs=0:=Y;obtain⟨hd00,-,hds⟩:=rY.1 bg;have hh:=eC hd00;have e1:mr d xs aH aN=if dS aH 0 (d.aG-1)&&dS aN 0 1048576 then 0 else 1:=by unfold mr;rw[<-her,aso (by simpa using q)]
 refine go ?_;refine cR oV (λp1=>?_) λp1=>?_;rotate_left
 .have e0:mr d xs aH aN=1:=by rw[e1,p1];rfl
  exact Yq
 refine cR oV (λp2=>?_) λp2=>?_;rotate_left
 .have e0:mr d xs aH aN=1:=by rw[e1,p1,p2];rfl
  exact Yq
 have e2:mr d xs aH aN=0:=by rw[e1,p1,p2];rfl
 refine bR (oP [4,5] [] [0,1,2,3,4,5,6,7,8,9,10]) [] (λz=>ax w2 z) mx Z (.refl _ _) ?_;refine tM [.string d.name,iv d.aG,iv d.cap,iv d.bH,aB A1 n1 c1,aB A2 n2 c2,aB A3 n3 c3,aB A4 n4 c4,aB A5 n5 c5,aB A6 n6 c6] (.aS B4) U Yt (.refl _ _) ?_;refine aJ (OE (aH:=aH) (aN:=aN) (h.ae x02) Y) ?_;rintro _ w3 ⟨b,A7,n7,c7,zs,rfl,x3,cp,hb3,bt,a6,bq⟩;refine bN x3 ?_;have br:zs.length<=12:=by
  have:(zs.map qY.d).length<=xs.length:=by rw[a6,Cu,oF];exact auN _ _
  rw[asz] at this;omega
 have ak:∀z∈zs,uW d z.d/\KW D w3 z:=λz hz=>by
  have h1:z.d∈Cu xs aH aN:=by rw[<-a6];exact List.mem_map_of_mem hz
  obtain⟨h2,h3⟩:=IE h1;obtain⟨h4,h5⟩:=bq z hz;exact⟨uX hds _ h2 h3,h4.ae x3,h5⟩
 refine aJ (Ld (hd0.ae (x02.trans x3)) hd00 hb3 bt ak br) ?_;rintro _ w4 ⟨gm,E,ne,ce,rfl,x4,aq,MU⟩;refine bN (x3.trans x4) ?_;rw[a6] at MU;have b0:Hk d xs aH aN=zr d (rX (uU d.bn) (Cu xs aH aN)):=U;have BO:=ME bg aH aN;obtain⟨bk,hbk⟩:∃bk,bk=rX (uU d.bn) (Cu xs aH aN):=⟨_,U⟩;rw[<-hbk] at MU BO b0;have x04:=(x02.trans x3).trans x4;have B4:=(B4.ae x3).ae x4;obtain⟨L,cL,hE,aa,hL⟩:=MU;have cg:=dw.lt ⟨L,cL,hE,hL⟩;refine U3 (kv:=dE) U hE λw5 bx be x5 z5=>?_;have x05:=x04.trans x5;have c8:=x04.size;have bA:=a7.ae x05;have bG:=B4.lt;have O:∀e∈L,∃q n,e.key=dE q/\e.val=iv n/\bk q=some n:=λe he=>by
  obtain⟨q,hq⟩:=hE.keys e he;have h1:=nI aa he;rw[hq,hL] at h1;unfold vz at h1;cases hg:bk q with
  |none=>rw[hg] at h1;cases h1
  |some n=>rw[hg] at h1;injection h1 with h1;exact⟨q,n,hq,h1.symm,hg⟩
 have a8:∀seen hs,HI d L seen hs->hs.length<=153600:=λseen hs H=>by
  obtain⟨m1,m2,m3,m4⟩:=jO hd00;have hsub:∀t∈hs.map λh=>(h.right,h.aO),t∈(List.range d.bn.length).flatMap λ(r:Nat)=>(List.range d.aR.length).map λ(f:Nat)=>((r:Int),(f:Int)):=λt ht=>by obtain⟨h,hh,rfl⟩:=asS.1 ht;obtain⟨e,he,-,hk,hv,hp,-⟩:=(H.mem h).1 hh;obtain⟨q,n,hq,-,hg⟩:=O e he;have hqq:=GQ (hk.symm.trans hq);obtain⟨⟨a1,y,a2,-⟩,a3⟩:=BO.key _ _ hg;rw[<-hqq] at a1 a2 a3;simp only at a1 a2 a3;have hlt:=(asr.1 a2).1;refine auF.2 ⟨h.right.toNat,as0.2 hlt,asS.2 ⟨h.aO.toNat,as0.2 Y,?_⟩⟩;rw[show((h.right.toNat:Nat):Int)=h.right from Y,show((h.aO.toNat:Nat):Int)=h.aO from Y]
  have h1:=wm H.nd hsub;rw[asz] at h1;have h2:((List.range d.bn.length).flatMap λ(r:Nat)=>(List.range d.aR.length).map λ(f:Nat)=>((r:Int),(f:Int))).length=d.bn.length*d.aR.length:=by
   rw[av3];have:(List.range d.bn.length).map (λ(r:Nat)=>((List.range d.aR.length).map λ(f:Nat)=>((r:Int),(f:Int))).length)=List.replicate d.bn.length d.aR.length:=by
    apply at8
    .simp
    .intro i h1 h2;simp
   rw[this,List.sum_replicate_nat]
  have h3:d.bn.length*d.aR.length<=256*600:=atK m3 m2;omega
 obtain⟨it,bw⟩:∃it,it=w4.heap.size:=⟨_,U⟩;rw[<-bw] at be|-;refine uk (λ(_:List Nat×List tm) (B:bZ) (m cm:Nat)=>[(8,aB B m cm)]) (λV B m cm u=>bu w4 u B m cm 124 4 (V.2.flatMap tm.c)/\m=V.2.length/\qX dE u gm L cL/\IterM u it gm cL V.1/\HI d L V.1 V.2) (λV _ _ _ _=>(L.filter λx=>!V.1.contains x.born).length) ([],[]) none 0 0 ⟨U,Yt⟩ ⟨bu.nil x5,U,bx,be,⟨av4,λh=>⟨λq=>(by cases q),λ⟨_,_,q,_⟩=>(by cases q)⟩⟩⟩ U ?_;rintro G ⟨seen,hs⟩ B m cm u ⟨own,hm,Eu,Iu,H⟩;have hm:m=hs.length:=hm;have H:HI d L seen hs:=H;have own:bu w4 u B m cm 124 4 (hs.flatMap tm.c):=own;have hxl:=a8 _ _ H;have zu:=own.ae.size;have liu:it<u.heap.size:=(asV.1 Iu).1;have hBit:∀g,B=aL g->g≠it:=by rintro g rfl rfl;obtain⟨rest,Bg,-⟩:=own.own.aS;have h1:u.heap[g]? =some (.cells _ _ _):=Bg;have h2:u.heap[g]? =some _:=Iu;rw[h1] at h2;cases h2
 refine U4 (kv:=dE) U Eu Iu (λhall=>?_) λe he hns u1 Eu1 Iu1 ku1 bI=>?_
 .have hp:=H.end_ aa hL hall BO;have hs2:il MB hs=Hk d xs aH aN:=by rw[b0];exact xZ MC hp wD
  have ay:fT MB hs:=(wD.EJ).perm hp;rcases own.form with⟨rfl,h0,rfl⟩|⟨g,rfl,ck,hg2,hc1⟩
  .have hx0:hs=[]:=asL Y;subst hx0;have hm0:m=0:=hm;subst hm0;refine aJ ab6 ?_;rintro _ u2 ⟨rfl,rfl⟩;refine ret ⟨x04.trans own.ae,none,0,0,by rw[e2];rfl,λ_=>?_,λh=>absurd e2 h⟩;rw[<-hs2];exact bu.nil (x04.trans own.ae)
  .obtain⟨rest,Bg,hBl,-⟩:=own.own.aS;refine aJ (VP (s:=hs) Bg hm Y ay) ?_;rintro _ u2 ⟨rfl,Bs,ks⟩;rw[hs2] at Bs;have hyl:(Hk d xs aH aN).length=m:=by rw[<-hs2,(cP hs).length_eq,hm]
   have xF:ax w u2:=(x04.trans own.ae).ag ks λb hb _ e=>Y;refine ret ⟨xF,aL g,m,cm,by rw[e2];rfl,λ_=>⟨jH.iH Bs (by rw[bz (K:=4) λ_=>rfl,hyl]) (by rw[asu,bz (K:=4) λ_=>rfl] at hBl|-;rw[hyl,hm];exact hBl) hc1 own.own.cap,xF,λg' hg'=>by injection hg' with hg';injection hg' with hg';omega⟩,λh=>absurd e2 h⟩
 .obtain⟨q,k,hek,hev,av⟩:=O e he;refine Uy ?_;intro hlt;refine alloc λbp u2 q2=>?_;refine fg q2.aS λu3 B12 k3 bT=>?_;have ct:=q2.au;have B12:aP u3 bp 223 [iv q.1,iv q.2]:=B12;have x13:ax u1 u3:=q2.ae.ag k3 λb hb _ e=>Y;have kub:aj (λb=>b≠it) u u3:=ku1.ag x13 λ_ _ _=>Yt;have xy13:ax w4 u3:=own.ae.ag kub λb hb _=>Y;have own3:bu w4 u3 B m cm 124 4 (hs.flatMap tm.c):=own.bY kub (λg hg=>hBit g hg) xy13;have E3:=Eu1.ah x13 Yt;have I3:=Iu1.ah x13 Yt;refine cD (λh5=>?_) λh5=>?_
  .obtain⟨⟨a1,y,a2,-⟩,a3⟩:=BO.key _ _ av;have bE:=(asr.1 a2).1;obtain⟨bb,oo,cs,y',rfl,hy,-,-,hcc,rfl⟩:=a7.au (show q.1.toNat<n4 from Y);have cr:=iS (hcc 0 _ U);have hcc:=hcc.ah (x04.trans xy13) Yt;obtain rfl:y=y':=by rw[a2] at hy;injection hy
   have B4u:=B4.ae xy13;have hrk:uv d q.1.toNat=y.cC:=by unfold uv;rw[a2]
   have J:B≠aL bp:=λh=>by
    rcases own.form with⟨rfl,-⟩|⟨g,rfl,-,hlt,-⟩
    .cases h
    .injection h with h;injection h with h;omega
   have hb4:B≠aL b4:=λh=>by have:=own.new b4 h;omega
   refine bR (oP [14,15] [] [0,1,2,3,4,5,6,7,8,9,10,11,12,13,14,15,16]) [] (λz=>aj (λb=>B≠aL b) u3 z) mx Z (.refl _ _) ?_;refine bC ?_;refine fu (iv q.1) (B12.ai U) J (.refl _ _) ?_;refine bC ?_;refine fu (iv q.2) (B12.ai U) J (.refl _ _) ?_;refine bC ?_;refine fu (aB (some (ad bb oo)) n4 c4) (B4u.ai U) hb4 (.refl _ _) ?_;refine bC ?_;refine fu (iv q.1) (B12.ai U) J (.refl _ _) ?_;refine idx q.1.toNat Y Y ?_;refine go ?_;refine fu (iv y.cC) (hcc 4 _ U) (λh=>by have:=own.new bb h;omega) (.refl _ _) ?_;refine hY [iv q.1,iv q.2,iv k,iv y.cC] Z ?_;refine lit [.agg [iv q.1,iv q.2,iv k,iv y.cC].toArray] λgg u4 hq=>?_;refine bN (ax.any hq.ae) ?_;have af:=own3.ag hq.ae;have lI:=(asV.1 I3).1;refine iI af (hq.src (sz:=4) U) Y λB' e' u5 q5 kk hA=>bN ((ax.any hq.ae).trans kk) ?_;have hne:B≠aL it:=λh=>hBit it h U;have aq:B≠aL gm:=λh=>by have:=own.new gm h;omega
   refine qN (seen++[e.born],hs++[⟨q.1,q.2,k,uv d q.1.toNat⟩]) B' (m+1) e' ⟨U,Yt⟩ ⟨?_,?_,(E3.ah hq.ae Yt).ah kk aq,(I3.ah hq.ae Yt).ah kk hne,?_⟩ hlt
   .show bu w4 u5 B' (m+1) e' 124 4 ((hs++[(⟨q.1,q.2,k,uv d q.1.toNat⟩:tm)]).flatMap tm.c);rw[as7,hrk];exact q5
   .show m+1=(hs++[_]).length;rw[asu,hm];rfl
   .exact H.yes aa hE.born he hns hek hev h5
  .exact qN (seen++[e.born],hs) B m cm ⟨U,Yt⟩ ⟨own3,hm,E3,I3,H.no hE.born he hev h5⟩ hlt
end
end
theorem VZ(h:rJ d [r]=0):cH d=0/\0<=r/\r<d.aD.length:=by
 unfold rJ at h;by_cases u:cH d=0
 .exact Yg
 .exact Yg
section
variable {D:Nat->Prop} {w:World}
theorem ML{u:aW}(hd:iG D w u d):aK prog 106 #[.agg u.toArray,iv r] w (λv M=>∃A z,v=.func (.func 205) #[] #[ptr A,ptr z]/\ax w M/\aP M A 3 [iv r]/\aP M z 31 u/\w.heap.size<=z/\z<A):=by
 obtain⟨A1,n1,c1,A2,n2,c2,A3,n3,c3,A4,X,c4,A5,W,c5,A6,n6,c6,rfl,-⟩:=hd.ex;refine aF func106 Z<|box λz V h1=>box λA O J=>?_;have e1:=h1.au;have e2:=J.au;have s1:=h1.size;exact aQ _ U ⟨A,z,U,h1.ae.trans J.ae,J.aS,h1.aS.ae J.ae,Y,Y⟩
set_option maxRecDepth 4000 in
theorem CL{a7:aW}(hd:iG D w a7 d)(hr:jt r):aA 37 #[.agg a7.toArray,iv r] w (.tuple #[iv (if rJ d [r]=0 then cG d r else 0),iv (rJ d [r])]):=by
 have hd0:=hd.ar (D':=λb=>b<w.heap.size) λb h _=>h;obtain⟨A1,n1,c1,A2,n2,c2,A3,n3,c3,A4,n4,c4,A5,n5,c5,A6,n6,c6,rfl,O,-⟩:=hd0.ex;have lr:=O.an;have bg:=O.le;refine aF func37 Z ?_;refine box λbd w1 h1=>?_;refine alloc λb4 w2 h2=>?_;refine ND ?_;intro e1 e2 s1 s2;have x2:=h1.ae.trans h2.ae;have V:aP w2 bd 31 [.string d.name,iv d.aG,iv d.cap,iv d.bH,aB A1 n1 c1,aB A2 n2 c2,aB A3 n3 c3,aB A4 n4 c4,aB A5 n5 c5,aB A6 n6 c6]:=h1.aS.ae h2.ae;have B4:aP w2 b4 3 [iv 0]:=h2.aS;refine go ?_;refine lit [iv r] λg w3 h3=>?_;refine bW (BI (D:=λ_=>True) (rs:=[r]) ((hd0.ae (x2.trans h3.ae)).ar λ_ _ _=>Yt) (bS.jw U Yd Yt (.aS h3.aS) (fX λx hx=>Yg))) λw4 x4=>?_;have J:=h3.ae.trans x4;have x04:=x2.trans J;obtain⟨V,B4⟩:=zQ J V B4;have s4:=x04.size;have be:=J.size;obtain⟨e,he⟩:∃e,e=rJ d [r]:=⟨_,U⟩;rw[<-he];refine cN (λg=>?_) λg=>?_
 .refine st1 B4 U λw5 B5 k5=>ret<|da _ (bj (B5.ai U))<|⟨by rw[aso g];rfl,x04.ag k5 λb hb _ e=>Y⟩
 obtain⟨af,hr0,hr1⟩:=VZ (d:=d) (r:=r) (by rw[<-he];exact g);have ht:=kp af;refine go<|aJ (ML (hd0.ae x04)) ?_;rintro _ w5 ⟨b1,b2,rfl,x5,C1,C2,hb2,b0⟩;obtain⟨V,B4⟩:=zQ x5 V B4;have x05:=x04.trans x5;have s5:=x5.size;have l1:=C1.lt;have l2:=C2.lt;refine range (gf:=205) (lb:=#[ptr b1,ptr b2]) U λfn tmps w6 R hR hF a8 x6 z6 hD6 hl6=>?_;show aK _ _ #[.func (.yield (w5.heap.size+1)) #[] #[],ptr b1,ptr b2] w6 _;have aa:=O.ae (x05.trans x6);have ay:=V.ae x6;refine(HX (D:=λx=>x≠b4/\x≠w5.heap.size+1) (D':=λb=>b<w.heap.size) (λq u=>aj (λx=>x≠b4/\x≠b1/\x≠w5.heap.size+1) w6 u/\dc u (w5.heap.size+1) R/\(-1<=q/\q<=r)/\∃S,aP u b4 3 [iv S]/\S+cG d q=cG d r/\0<=S/\S<=16*(r-q)) ht Y (λq u u' ⟨k5,l5,hq,S,q5,hS⟩ k6=>⟨k5.ag k6 λ_ _ h=>h.2.1,l5.ah k6 Y,hq,S,q5.ah k6 Y,hS⟩) ?_ ⟨Y,Y⟩ ⟨Y,Y⟩ (λb hb=>⟨Y,Y⟩) (λb hb=>Y) (C1.ae x6) (C2.ae x6) (hd0.ae (x05.trans x6)) ⟨Y,hr1⟩ ⟨.refl _ _,hl6,⟨Y,Y⟩,0,B4.ae x6,Y,Y,Y⟩).mono ?_
 .rintro k x u hx ⟨k5,l5,hq,S,q5,hS,aq,ak⟩;subst hR;have hk:=(asr.1 hx).1;have hu:=ht.up _ _ hx;have hdl:=ht.dl _ _ hx;refine dQ (args:=[iv (k:Int)]) l5 U rfl hF a8 ?_;refine tN l5 λu6 k6 _ l6=>?_;have k56:aj (λx=>x≠b4/\x≠b1/\x≠w5.heap.size+1) w6 u6:=k5.ag k6 λ_ _ h=>h.2.2;have V:=ay.ah k56 ⟨Y,Y,Y⟩;have q6:=q5.ah k6 Y;obtain⟨bb,o,cs,y,hA,hy,-,bk,hc,rfl⟩:=(aa.ah k56 λb _ hb=>⟨Y,Y,Y⟩).au (k:=k) Y;obtain rfl:x=y:=Yg;subst hA;refine bR (oP [8] [8] [0,1,2,3,4,5,6,7,8]) [8] (λz=>z=u6) mx Z U ?_;refine go ?_;refine gv (λ_=>True) Yt ?_;refine st1 q6 U λu7 q7 k7=>?_;refine go ?_;refine eQ _ (l6.ah k7 Y) λu8 k8 l8=>?_;have kk:aj (λx=>x≠b4/\x≠w5.heap.size+1) u u8:=((k6.cU λ_ _ h=>h.2).trans (k7.cU λ_ _ h=>h.1)).trans (k8.cU λ_ _ h=>h.2);have st:=Ew ht hx;exact⟨U,⟨k5.ag kk λ_ _ h=>⟨h.1,h.2.2⟩,l8,⟨Y,Y⟩,S+x.bD,q7.ah k8 Y,Y,Y,Y⟩,kk⟩
 .rintro v u ⟨k5,l5,-,S,q5,hS,aq,ak⟩;subst hR;have z0:cG d (-1)=0:=U;refine dL _ l5 (by simp) λu6 k6=>?_;have q6:=q5.ah k6 Y;refine go<|st1 q6 U λu7 q7 k7=>?_;have a6:=(k5.ag k6 λ_ _ h=>h.2.2).ag k7 λ_ _ h=>h.1;have av:=(a6.aS _ Y ⟨Y,Y,Y⟩).trans hD6;refine oN av ?_;have k8:=aj.putObj u7 w5.heap.size (.deferred none);refine da _ (bj ((q7.ah k8 Y).ai U))<|⟨?_,(((ax.any (D:=λb=>b<w.heap.size) (x05.trans x6)).ag a6 λb _ h=>⟨Y,Y,Y⟩).ag k8 λb _ h=>Y).ag (.refl (λ_=>True) _) (λ_ _ _=>Yt) |>.cU λb hb _=>hb⟩;rw[asp g,g,show S=cG d r from Y];rfl
end
section
open Classical
theorem CM{d:aU}(u:zV d):∀(f:Nat) (r:Int),r<d.aD.length->(r+1).toNat<=f->XH d f r=XH d (r+1).toNat r
 |0,r,_,h=>by
  have:(r+1).toNat=0:=Y
  rw[this]
 |f+1,r,h1,J=>by
  by_cases h:r<0
  .have:(r+1).toNat=0:=Y
   rw[this]
   show(if r<0 then [] else _)=[]
   rw[asp h]
  .obtain⟨k,rfl⟩:∃k:Nat,r=k:=⟨r.toNat,Y⟩
   have e:((k:Int)+1).toNat=k+1:=Y
   rw[e]
   show(if(k:Int)<0 then [] else _::XH d f _)=(if(k:Int)<0 then [] else _::XH d k _)
   rw[aso h,aso h]
   obtain⟨x,z⟩:=gx d.aD k
   have hu:=u.up k x z
   have A:dB d (k:Int).toNat=x:=jm (by rw[ave];exact z)
   rw[A,CM u f x.up Y Y,CM u k x.up Y Y]
def wL(d:aU)(r:Int):aX:=XH d (r+1).toNat r
theorem CN:wF d r=(wL d r).reverse:=rfl
theorem Sm:wL d (-1)=[]:=rfl
theorem yu(z:zV d){x:Reach}(u:d.aD[k]? =some x):wL d k=(k:Int)::wL d x.up:=by
 have hu:=z.up k x u;have hk:=(asr.1 u).1;unfold wL;rw[show((k:Int)+1).toNat=k+1 from Y];show(if(k:Int)<0 then [] else _::XH d k _)=_;rw[aso Y];have A:dB d (k:Int).toNat=x:=jm Yg;rw[A,CM z k x.up Y Y]
theorem IX{d:aU}(z:zV d):∀(n:Nat) (r:Int),r<n->r<d.aD.length->-1<=r->∀q∈wL d r,0<=q/\q<=r
 |0,r,h,_,J=>by
  obtain rfl:r= -1:=Y
  intro q u;cases u
 |n+1,r,h,h1,J=>by
  by_cases M:r= -1
  .subst M;intro q u;cases u
  obtain⟨k,rfl⟩:∃k:Nat,r=k:=⟨r.toNat,Y⟩
  obtain⟨x,A⟩:=gx d.aD k
  have hu:=z.up k x A
  rw[yu z A]
  intro q u
  rcases asM.1 u with rfl|u
  .omega
  .have:=IX z n x.up Y Y Y q u
   omega
theorem wM{d:aU}(u:zV d):∀(n:Nat) (r:Int),r<n->r<d.aD.length->-1<=r->((wL d r).length:Int)<=r+1
 |0,r,h,_,A=>by
  obtain rfl:r= -1:=Y
  exact asO _
 |n+1,r,h,h1,A=>by
  by_cases J:r= -1
  .subst J;exact asO _
  obtain⟨k,rfl⟩:∃k:Nat,r=k:=⟨r.toNat,Y⟩
  obtain⟨x,z⟩:=gx d.aD k
  have hu:=u.up k x z
  rw[yu u z,as2]
  have:=wM u n x.up Y Y Y
  omega
section
variable {w:World}
theorem V5{xs ys:aX}{i j:Nat}(X:ys.length=n)(J:xs.length=n)(O:i+j+1=n)(M:i<j)(A:∀k,k<n->ys[k]? =if k<i\/n<=k+i then xs.reverse[k]? else xs[k]?){y:Int}(h1:ys[i]? =some x)(V:ys[j]? =some y):∀k,k<n->((ys.set i y).set j x)[k]? =if k<i+1\/n<=k+(i+1) then xs.reverse[k]? else xs[k]? :=by
 intro k hk;have r:∀m,m<n->xs.reverse[m]? =xs[n-1-m]? :=λm hm=>by rw[avO Y,J]
 have u:=A i Y;have z:=A j Y;rw[aso Y,h1] at u;rw[aso Y,V] at z;by_cases W:k=j
 .subst W;rw[auq (by rw[asU];omega),asp Y,r k hk,show n-1-k=i from Y,<-u]
 .exact Yg
theorem aci{xs:aX}{rest:aW}{g:Nat}(hb0:aP w g 3 (cJ xs++rest))(hn:n=xs.length)(hle:n<=100000):aK prog 371 #[aB (aL g) n c] w (λv w'=>v=.tuple #[]/\aP w' g 3 (cJ xs.reverse++rest)/\aj (λb=>b≠g) w w'):=by
 apply aF func371 Z;refine go ?_;refine aM (λi:Nat=>[(2,iv (i:Int)),(3,iv ((n:Int)-1-i))]) (λi u=>2*i<=n/\aj (λb=>b≠g) w u/\∃ys:aX,ys.length=n/\(∀k,k<n->ys[k]? =if k<i\/n<=k+i then xs.reverse[k]? else xs[k]?)/\aP u g 3 (cJ ys++rest)) (λi _=>n-i) 0 ⟨U,congrArg iv Y,Yt⟩ ⟨Y,.refl _ _,xs,hn.symm,λk hk=>by rw[aso Y],hb0⟩ U ?_;rintro G i u ⟨hi,ku,ys,hl,hy,hb⟩;refine cD (λhlt=>?_) λhge=>?_
 .obtain⟨j,hj⟩:∃j:Nat,(n:Int)-1-i=j:=⟨n-1-i,Y⟩;rw[hj];obtain⟨x,hx⟩:=gx ys i;obtain⟨y,J⟩:∃y,ys[j]? =some y:=⟨_,asw Y⟩;refine bR (oP [13,15] [13] [0,1,2,3,4,5,6,7,8,9,10,11,12,13,14,15]) [13,14,15] (λz=>z=u) mx Z U ?_;refine idx j U Y ?_;refine ld _ (hb.ai (by rw[show 0+j*1=j from Y];exact mu J)) ?_;refine idx i U Y ?_;refine ld _ (hb.ai (by rw[show 0+i*1=i from Y];exact mu hx)) ?_;refine go ?_;refine gv (λ_=>True) Yt ?_;have hlen:(cJ ys++rest).length=n+rest.length:=by unfold cJ;rw[asu,asz,hl]
  refine st (v:=iv y) hb Y U λu3 b3 k3 s3=>?_;have b3:aP u3 g 3 (cJ (ys.set i y)++rest):=by have e:0+i*1=i:=Y;rw[e,wH Y] at b3;exact b3
  refine go ?_;have O:(cJ (ys.set i y)++rest).length=n+rest.length:=by unfold cJ;rw[asu,asz,asU,hl]
  refine st (v:=iv x) b3 Y U λu4 b4 k4 s4=>?_;have b4:aP u4 g 3 (cJ ((ys.set i y).set j x)++rest):=by have e:0+j*1=j:=Y;rw[e,wH (by rw[asU];omega)] at b4;exact b4
  refine go ?_;exact next (i+1) ⟨congrArg iv Y,congrArg iv Y,Yt⟩ ⟨Y,(ku.trans k3).trans k4,_,by rw[asU,asU,hl],V5 hl hn.symm Y Y hy hx J,b4⟩ Y
 .have e:ys=xs.reverse:=by
   apply atG;intro k;by_cases hk:k<n
   .rw[hy k hk];by_cases h:k<i\/n<=k+i
    .rw[asp h]
    .rw[aso h,avO Y];congr 1;omega
   .exact YO
  rw[e] at hb;exact ret ⟨U,hb,ku⟩
theorem V6:aK prog 371 #[aY] w (λv w'=>v=.tuple #[]/\w'=w):=by
 refine aF func371 Z<|go<|aM (λ_:Unit=>[(2,iv 0),(3,iv (-1))]) (λ_ u=>w=u) (λ_ _=>0) () ⟨U,U,Yt⟩ U rfl ?_;exact LQ
theorem V7{ab:aW}{b1 b2:Nat}(ht:zV d)(hm:d.aD.length<=64)(x0:ax w0 w)(h1:aP w b1 3 [iv r])(h2:aP w b2 31 ab)(aE:w0.heap.size<=b1)(aa:b1≠b2)(hd:iG (λb=>b<w0.heap.size) w ab d)(hr: -1<=r/\r<d.aD.length):aK prog 390 #[aY,.func (.func 205) #[] #[ptr b1,ptr b2]] w (λv w'=>∃A n c,v=aB A n c/\bu w0 w' A n c 3 1 (cJ (wL d r))):=by
 apply aF func390 Z;refine box λb3 w3 h3=>?_;have e3:=h3.au;have s3:=h3.size;have l1:=h1.lt;have l2:=h2.lt;have B3:aP w3 b3 37 [aY]:=h3.aS;have s0:=x0.size;refine range (gf:=205) (lb:=#[ptr b1,ptr b2]) U λfn tmps w6 R hR hF ak x6 z6 av ao=>?_;show aK _ _ #[.func (.yield (w3.heap.size+1)) #[] #[],ptr b1,ptr b2] w6 _;have V:=h3.ae.trans x6;have a6:=x0.trans V;refine(HX (D:=λx=>x<w6.heap.size/\x≠b3/\x≠w3.heap.size+1) (D':=λb=>b<w0.heap.size) (λq u=>aj (λx=>x≠b3/\x≠b1/\x≠w3.heap.size+1) w6 u/\dc u (w3.heap.size+1) R/\(-1<=q/\q<d.aD.length)/\∃A n c xs,aP u b3 37 [aB A n c]/\bu w0 u A n c 3 1 (cJ xs)/\(∀g,A=aL g->w6.heap.size<=g)/\n=xs.length/\xs++wL d q=wL d r) ht aa (λq u u' ⟨k5,l5,hq,A,n,c,xs,q5,o5,W,e5,f5⟩ J=>⟨k5.ag J λ_ _ h=>h.2.1,l5.ah J Y,hq,A,n,c,xs,q5.ah J Y,o5.bY J (λg z=>by have:=W g z;omega) ((a6.ag k5 λb M _=>Y).ag J λb M _=>Y),W,e5,f5⟩) ?_ ⟨Y,Y⟩ ⟨Y,Y⟩ (λb M=>⟨Y,Y⟩) (λb M=>Y) (h1.ae V) (h2.ae V) (hd.ae V) hr ⟨.refl _ _,ao,hr,none,0,0,[],B3.ae x6,bu.nil a6,λg z=>by(cases z),U,U⟩).mono ?_
 .rintro k x u hx ⟨k5,l5,hq,A,n,c,xs,q5,o5,W,e5,f5⟩;subst hR;have hk:=(asr.1 hx).1;have hu:=ht.up _ _ hx;have hle:=wM ht (r.toNat+1) r Y hr.2 hr.1;have ay:xs.length<=64:=by have:=congrArg List.length f5;rw[asu] at this;omega
  apply dQ (args:=[iv (k:Int)]) l5 U rfl hF ak;refine tN l5 λu6 J _ l6=>?_;have a8:aj (λx=>x≠b3/\x≠b1/\x≠w3.heap.size+1) w6 u6:=k5.ag J λ_ _ h=>h.2.2;have q6:=q5.ah J Y;have O:ax w0 u6:=a6.ag a8 λb M _=>Y;have o6:bu w0 u6 A n c 3 1 (cJ xs):=o5.bY J (λg z=>by have:=W g z;omega) O;refine go ?_;refine lit [iv (k:Int)] λgg u7 a1=>?_;refine iI (o6.ag a1.ae) (a1.src (sz:=1) U) Y λA' c' u8 o8 k8 hA=>?_;have n8:∀g,A'=aL g->w6.heap.size<=g:=λg z=>by
   rcases hA with e|e|e
   .exact W g (e▸z)
   .rw[e] at z;cases z
   .rw[e] at z;injection z with z;injection z with z;have:=a8.size;have:=a1.ae.size;omega
  have kk:aj (λx=>x<w6.heap.size) u6 u8:=(ax.any a1.ae).ag k8 λb M h e=>by have:=W b e;omega
  have q8:=q6.ah kk Y;refine st1 q8 U λu9 q9 k9=>?_;have l9:=(l6.ah kk Y).ah k9 Y;have o9:=o8.bY k9 (λg z=>by have:=n8 g z;omega) (o8.ae.ag k9 λb M _=>Y);refine eQ _ l9 λa7 X af=>?_;have xx:ax w0 a7:=o9.ae.ag X λb M _=>Y;have kf:aj (λx=>x<w6.heap.size/\x≠b3/\x≠w3.heap.size+1) u a7:=(((J.cU λ_ _ h=>h.2.2).ag kk λ_ _ h=>h.1).ag k9 λ_ _ h=>h.2.1).ag X λ_ _ h=>h.2.2;refine⟨U,⟨k5.ag kf λb M h=>⟨M,h.1,h.2.2⟩,af,⟨Y,Y⟩,A',n+1,c',xs++[(k:Int)],q9.ah X Y,?_,n8,by rw[asu,e5];rfl,?_⟩,kf⟩
  .unfold cJ;rw[asK];exact o9.bY X (λg z=>by have:=n8 g z;omega) xx
  .rw[as5,List.singleton_append,<-yu ht hx];exact f5
 .rintro v u ⟨k5,l5,-,A,n,c,xs,q5,o5,W,e5,f5⟩;subst hR;rw[Sm,asT] at f5;subst f5;refine dL _ l5 (by simp) λu6 J=>?_;have q6:=q5.ah J Y;have O:=o5.ae.ag J λb M _=>Y;have o6:=o5.bY J (λg z=>by have:=W g z;omega) O;refine go ?_;have aq:=((k5.ag J λb M h=>h.2.2).aS _ Y ⟨Y,Y,Y⟩).trans av;refine oN aq ?_;have k8:=aj.putObj u6 w3.heap.size (.deferred none);exact⟨A,n,c,U,o6.bY k8 (λg z=>by have:=W g z;omega) (O.ag k8 λb M _=>Y)⟩
theorem Sn{z:aW}{J O:Nat}(X:zV d)(hm:d.aD.length<=64)(V:ax w0 w)(h1:aP w J 3 [iv r])(h2:aP w O 31 z)(M:w0.heap.size<=J)(u:J≠O)(hd:iG (λb=>b<w0.heap.size) w z d)(Y: -1<=r/\r<d.aD.length):aK prog 370 #[.func (.func 205) #[] #[ptr J,ptr O]] w (λv W=>∃A n c,v=aB A n c/\bu w0 W A n c 3 1 (cJ (wL d r))):=by
 refine aF func370 Z<|aJ (V7 X hm V h1 h2 M u hd Y) ?_;rintro _ w1 ⟨A,n,c,rfl,o⟩;exact aQ _ U ⟨A,n,c,U,o⟩
theorem OM{J:aW}(hd:iG (λb=>b<w.heap.size) w J d)(h0:cH d=0)(hr:0<=r/\r<d.aD.length):aK prog 315 #[.agg J.toArray,iv r] w (λv w'=>∃A n c,v=.tuple #[aB A n c,iv 0]/\bu w w' A n c 3 1 (cJ (wF d r))):=by
 have hd0:=hd;obtain⟨A1,n1,c1,A2,n2,c2,A3,n3,c3,A4,n4,c4,A5,n5,c5,A6,n6,c6,rfl,-⟩:=hd0.ex;obtain⟨hm,-⟩:=jO h0;have ht:=kp h0;refine aF func315 Z ?_;refine Zn ?_;intro b2 w1 h1 B2;refine go ?_;refine lit [iv r] λgg w2 hq=>?_;have x02:=h1.ae.trans hq.ae;refine bW (BI (D:=λ_=>True) (rs:=[r]) ((hd.ae x02).ar λ_ _ _=>Yt) (bS.jw U Yd Yt (.aS hq.aS) (fX λx hx=>by rw[asP] at hx;rw[hx];exact⟨Y,Y⟩))) λw3 x3=>?_;have e0:rJ d [r]=0:=by unfold rJ;rw[asp h0,asp (by rw[atv,asE hr];rfl)]
 rw[e0];refine cN (λq=>absurd U q) λ_=>?_;have B2:=(B2.ae hq.ae).ae x3;have x03:=x02.trans x3;refine go<|aJ (ML (hd.ae x03)) ?_;rintro _ w4 ⟨b1,b3,rfl,x4,C1,C2,hb2,V⟩;have s3:=x03.size;refine aJ (Sn ht hm (x03.trans x4) C1 C2 Y Y (hd.ae (x03.trans x4)) ⟨Y,hr.2⟩) ?_;rintro _ w5 ⟨A,n,c,rfl,o⟩;have hlen:(wL d r).length=n:=by have:=o.own.an;exact Ud
 have hle:=wM ht (r.toNat+1) r Y hr.2 Y;rcases o.form with⟨rfl,rfl,rfl⟩|⟨g,rfl,hg0,hgl,hnc⟩
 .have hx0:=asL hlen;refine aJ V6 ?_;rintro _ w6 ⟨rfl,rfl⟩;refine ret ⟨none,0,0,U,?_⟩;rw[CN,hx0];exact bu.nil o.ae
 .obtain⟨rest,hbk,hbl,-⟩:=jH.aS o.own;refine aJ (aci hbk hlen.symm Y) ?_;rintro _ w6 ⟨rfl,O,k6⟩;have x6:=o.ae.ag k6 λb hb _ e=>Y;refine ret ⟨aL g,n,c,U,⟨jH.iH O ?_ ?_ hnc o.own.cap,x6,λg' hg'=>by injection hg' with hg';injection hg' with hg';omega⟩⟩
  .show(cJ (wL d r).reverse).length=_;unfold cJ;rw[asz,aum];omega
  .show(cJ (wL d r).reverse++rest).length=_;unfold cJ at hbl|-;rw[asu,asz] at hbl|-;rw[aum];exact hbl
end
theorem acj:∃f0 f1,Ig prog 466 3 f0 f1:=⟨_,_,⟨Tryz.underlying466,rfl,rfl,rfl,rfl,by decide,by decide,by kernel_rfl,λ_ _ _ _=>by kernel_rfl⟩⟩
instance ap4:rD prog 466 dE:=by
 obtain⟨_,_,h⟩:=acj;exact h.law
structure wN (w:World) (x:zC) (g0 g1 g2:Nat):Prop where
 m0:∃f,dw fY w g0 f/\∀r,(f r).getD (iv 0)=iv (x.own r)
 m1:∃f,dw dE w g1 f/\∀q,(f q).getD (.bool false)=.bool (x.Vv q)
 m2:∃f,dw dE w g2 f/\∀q,(f q).getD (.bool false)=.bool (x.XG q)
theorem wN.ah{D:Nat->Prop}{x:zC}(h:wN w x g0 g1 g2)(k:aj D w u)(J:D g0)(h1:D g1)(z:D g2):wN u x g0 g1 g2:=by
 obtain⟨⟨f0,Y,V⟩,⟨f1,X,O⟩,⟨f2,W,M⟩⟩:=h;exact⟨⟨f0,Y.ah k J,V⟩,⟨f1,X.ah k h1,O⟩,⟨f2,W.ah k z,M⟩⟩
theorem wN.ae{x:zC}(h:wN w x g0 g1 g2)(k:ax w u):wN u x g0 g1 g2:=h.ah k Yt Yt Yt
section
variable {D D':Nat->Prop} {w:World} {A:Option Addr} {n c:Nat}
set_option maxRecDepth 4000 in
theorem V8{x:zC}{g0 g1 g2:Nat}{u r:Int}(L:wN w x g0 g1 g2)(hx:0<=x.own r/\x.own r<=1000):aA 317 #[.agg #[.map (some g0),.map (some g1),.map (some g2)],.agg #[iv u,iv r]] w (.bool (tW x (u,r))):=by
 refine aF func317 Z ?_;refine box λb2 w1 h1=>?_;refine box λb3 w2 V=>?_;have B2:=h1.aS.ae V.ae;have B3:=V.aS;have M:=h1.ae.trans V.ae;have L2:=L.ae M;obtain⟨⟨f0,M0,e0⟩,⟨f1,M1,e1⟩,⟨f2,X,W⟩⟩:=L2;refine go ?_;refine dh (kv:=fY) r (iv (x.own r)) (λz J=>by subst J;exact⟨f0,M0,e0 r⟩) ?_;refine go ?_;refine dh (kv:=dE) (u,r) (.bool (x.Vv (u,r))) (λz J=>by subst J;exact⟨f1,M1,e1 (u,r)⟩) ?_;have fin:∀b:Bool,b=tW x (u,r)->Value.bool b=.bool (tW x (u,r)):=λb h=>by rw[h]
 cases O:x.Vv (u,r) with
 |true=>
  refine go ?_;refine cD (λq=>?_) λq=>?_
  .exact aQ _ U ⟨fin _ (by unfold tW;simp only[O,auM];rw[asE Y];rfl),M⟩
  .refine go ?_;refine dh (kv:=dE) (u,r) (.bool (x.XG (u,r))) (λz J=>by subst J;exact⟨f2,X,W (u,r)⟩) ?_;exact aQ _ U ⟨fin _ (by unfold tW;simp only[O,auM];rw[asG Y];rfl),M⟩
 |false=>
  refine cD (λq=>?_) λq=>?_
  .exact aQ _ U ⟨fin _ (by unfold tW;simp only[O];rw[asE (by rw[aso Yd];omega)];rfl),M⟩
  .refine go ?_;refine dh (kv:=dE) (u,r) (.bool (x.XG (u,r))) (λz J=>by subst J;exact⟨f2,X,W (u,r)⟩) ?_;exact aQ _ U ⟨fin _ (by unfold tW;simp only[O];rw[asG (by rw[aso Yd];omega)];rfl),M⟩
set_option maxRecDepth 4000 in
theorem ON{aq:aW}{d:aU}{h:Int}(hd:iG D w aq d)(hm:d.bn.length<=1000):aK prog 313 #[.agg aq.toArray,iv h] w (λv w'=>∃g0 g1 g2,v=.agg #[.map (some g0),.map (some g1),.map (some g2)]/\ax w w'/\w.heap.size<=g0/\w.heap.size<=g1/\w.heap.size<=g2/\wN w' (kS d.bn h) g0 g1 g2):=by
 obtain⟨A1,n1,c1,A2,n2,c2,A3,n3,c3,A4,n4,c4,A5,n5,c5,A6,n6,c6,rfl,-,-,-,ak,-⟩:=hd.ex;have bg:=ak.an;apply aF func313 Z;refine box λb2 w1 h1=>?_;refine alloc λb4 w2 h2=>?_;refine ND ?_;intro e1 e2 s1 s2;refine qV λg0 w3 hg0 a6=>?_;refine qV λg1 w4 b0 V=>?_;refine qV λg2 w5 hg2 O=>?_;have x3:ax w2 w3:=by rw[a6];exact aj.alloc _ _ _
 have x4:ax w3 w4:=by rw[V];exact aj.alloc _ _ _
 have x5:ax w4 w5:=by rw[O];exact aj.alloc _ _ _
 have M0:dw fY w3 g0 (λ_=>none):=by rw[a6,hg0];exact dw.new fY w2
 have M1:dw dE w4 g1 (λ_=>none):=by rw[V,b0];exact dw.new dE w3
 have M2:dw dE w5 g2 (λ_=>none):=by rw[O,hg2];exact dw.new dE w4
 have z3:w3.heap.size=w2.heap.size+1:=by rw[a6];simp
 have z4:w4.heap.size=w3.heap.size+1:=by rw[V];simp
 have z5:w5.heap.size=w4.heap.size+1:=by rw[O];simp
 apply hY [.map (some g0),.map (some g1),.map (some g2)] Z;refine alloc λb5 w6 h6=>?_;have e6:=h6.au;refine fg h6.aS λw7 B5 k7 s7=>?_;have B5:aP w7 b5 458 [.map (some g0),.map (some g1),.map (some g2)]:=B5;have z6:=h6.size;have J:ax w5 w7:=h6.ae.ag k7 λb hb _ e=>Y;have a8:=(x3.trans (x4.trans x5)).trans J;have aa:=h2.ae.trans a8;have af:=h1.ae.trans aa;have B2:aP w7 b2 31 [.string d.name,iv d.aG,iv d.cap,iv d.bH,aB A1 n1 c1,aB A2 n2 c2,aB A3 n3 c3,aB A4 n4 c4,aB A5 n5 c5,aB A6 n6 c6]:=h1.aS.ae aa;have L0:wN w7 (kS (d.bn.take 0) h) g0 g1 g2:=⟨⟨_,M0.ah (x4.trans (x5.trans J)) Yt,λ_=>rfl⟩,⟨_,M1.ah (x5.trans J) Yt,λ_=>rfl⟩,⟨_,M2.ah J Yt,λ_=>rfl⟩⟩;refine go ?_;refine aM (λk:Nat=>[(16,iv (k:Int))]) (λk u=>k<=n4/\aj (λb=>b≠g0/\b≠g1/\b≠g2) w7 u/\wN u (kS (d.bn.take k) h) g0 g1 g2) (λk _=>n4-k) 0 ⟨U,Yt⟩ ⟨Y,.refl _ _,L0⟩ U ?_;rintro G k u ⟨hk,ku,L⟩;have zu:=ku.size;have ay:aP u b4 458 _:=(h2.aS.ae a8).ah ku ⟨Y,Y,Y⟩;have B5u:=B5.ah ku ⟨Y,Y,Y⟩;refine cD (λhlt=>?_) λhge=>?_
 .obtain⟨bb,oo,cs,y,rfl,hy,-,-,hcc,rfl⟩:=ak.au (show k<n4 from Y);have bo:=iS (hcc 0 _ U);have hcc:=hcc.ah af Yt;have bk:=hcc.ah ku ⟨Y,Y,Y⟩;have hsn:d.bn.take (k+1)=d.bn.take k++[y]:=by rw[asD,hy];rfl
  refine Py ?_;intro b7 u1 a1 u2 B7 k2 z2;have B7:aP u2 b7 171 y.c:=B7;have e7:=a1.au;have sa:=a1.size;have xu2:ax u u2:=a1.ae.ag k2 λb hb _ e=>Y;refine go ?_;refine hY [iv y.aO,iv y.aZ] Z ?_;refine alloc λb8 u3 a3=>?_;refine fg a3.aS λu4 B8 k4 z4=>?_;have B8:aP u4 b8 466 [iv y.aO,iv y.aZ]:=B8;have e8:=a3.au;have sb:=a3.size;have a7:ax u2 u4:=a3.ae.ag k4 λb hb _ e=>Y;have xu:=xu2.trans a7;have B7:=B7.ae a7;have be:=B5u.ae xu;have kv4:aj (λb=>b≠g0/\b≠g1/\b≠g2) w7 u4:=ku.trans (ax.any xu);have Lv:=L.ae xu;have skip:uZ h (kS (d.bn.take k) h) y=kS (d.bn.take k) h->wN u4 (kS (d.bn.take (k+1)) h) g0 g1 g2:=λe=>by rw[hsn,nk,e];exact Lv
  have fin:∀hs:uZ h (kS (d.bn.take k) h) y=kS (d.bn.take k) h,k+1<=n4/\aj (λb=>b≠g0/\b≠g1/\b≠g2) w7 u4/\wN u4 (kS (d.bn.take (k+1)) h) g0 g1 g2:=λe=>⟨Y,kv4,skip e⟩;refine go ?_;refine cD (λq1=>?_) λq1=>?_
  .refine go ?_;exact next (k+1) ⟨Yn,Yt⟩ (fin (by unfold uZ;rw[asp (.inl q1)])) Y
  refine go ?_;refine cD (λq2=>?_) λq2=>?_
  .refine go ?_;exact next (k+1) ⟨Yn,Yt⟩ (fin (by unfold uZ;rw[asp (.inr Y)])) Y
  have nq:¬(h<y.dq\/y.to<h):=Y;refine go ?_;obtain⟨⟨f0,N0,e0⟩,⟨f1,N1,e1⟩,⟨f2,N2,e2⟩⟩:=Lv;refine cD (λq3=>?_) λq3=>?_
  .refine go ?_;refine kV (kv:=dE) (y.aO,y.aZ) (v:=.bool true) N2 λu5 N5 k5 z5=>?_;refine go ?_;refine next (k+1) ⟨Yn,Yt⟩ ⟨Y,kv4.ag k5 λb hb hh=>hh.2.2,⟨f0,N0.ah k5 Y,λr=>?_⟩,⟨f1,N1.ah k5 Y,λr=>?_⟩,⟨_,N5,λr=>?_⟩⟩ Y
   .rw[hsn,nk,e0];unfold uZ;rw[aso nq,asp q3]
   .rw[hsn,nk,e1];unfold uZ;rw[aso nq,asp q3]
   .rw[hsn,nk];unfold uZ dZ;rw[aso nq,asp q3];show _=Value.bool (if r=(y.aO,y.aZ) then _ else _);by_cases er:r=(y.aO,y.aZ)
    .rw[asp er,asp er];rfl
    .rw[aso er,aso er];exact e2 r
  refine go ?_;refine cD (λq4=>?_) λq4=>?_;rotate_left
  .refine go ?_;exact next (k+1) ⟨Yn,Yt⟩ (fin (by unfold uZ;rw[aso nq,aso q3,aso λhh=>q4 hh.1])) Y
  refine go ?_;refine dh (kv:=dE) (y.aO,y.aZ) (.bool ((kS (d.bn.take k) h).Vv (y.aO,y.aZ))) (λz hz=>by subst hz;exact⟨f1,N1,e1 _⟩) ?_;cases ho:(kS (d.bn.take k) h).Vv (y.aO,y.aZ) with
  |true=>
   refine go ?_;exact next (k+1) ⟨Yn,Yt⟩ (fin (by unfold uZ;rw[aso nq,aso q3,aso λhh=>by rw[ho] at hh;exact absurd hh.2 Yd])) Y
  |false=>
   have eS:kS (d.bn.take (k+1)) h=⟨λr=>if r=y.aZ then(kS (d.bn.take k) h).own r+1 else(kS (d.bn.take k) h).own r,λq=>if q=(y.aO,y.aZ) then true else(kS (d.bn.take k) h).Vv q,(kS (d.bn.take k) h).XG⟩:=by rw[hsn,nk];unfold uZ;rw[aso nq,aso q3,asp ⟨q4,ho⟩]
   have hb0:=KN (l:=d.bn) (h:=h) y.aZ k Y;refine go ?_;refine kV (kv:=dE) (y.aO,y.aZ) (v:=.bool true) N1 λu5 N5 k5 z5=>?_;have bq:=be.ah k5 Y;have bp:=B7.ah k5 Y;have av:=N0.ah k5 Y;refine go ?_;refine dh (kv:=fY) y.aZ (iv ((kS (d.bn.take k) h).own y.aZ)) (λz hz=>by subst hz;exact⟨f0,av,e0 _⟩) ?_;refine go ?_;refine kV (kv:=fY) y.aZ (v:=iv ((kS (d.bn.take k) h).own y.aZ+1)) av λu6 N6 k6 z6=>?_;refine go ?_;refine next (k+1) ⟨Yn,Yt⟩ ⟨Y,(kv4.ag k5 λb hb hh=>hh.2.1).ag k6 λb hb hh=>hh.1,?_⟩ Y;rw[eS];refine⟨⟨_,N6,λr=>?_⟩,⟨_,N5.ah k6 Y,λr=>?_⟩,⟨f2,(N2.ah k5 Y).ah k6 Y,e2⟩⟩
   .unfold dZ;show _=iv (if r=y.aZ then _ else _);by_cases er:r=y.aZ
    .rw[asp er,asp er,er];rfl
    .rw[aso er,aso er];exact e0 r
   .unfold dZ;show _=Value.bool (if r=(y.aO,y.aZ) then _ else _);by_cases er:r=(y.aO,y.aZ)
    .rw[asp er,asp er];rfl
    .rw[aso er,aso er];exact e1 r
 .obtain rfl:k=n4:=Y;rw[asx Y] at L;refine go ?_;refine fg ay λu2 B4 k4 s4=>?_;have B4:aP u2 b4 458 [.map (some g0),.map (some g1),.map (some g2)]:=B4;refine ret<|da _ (bU (.aS B4) U)<|⟨g0,g1,g2,U,(af.ag ku λb hb _=>⟨Y,Y,Y⟩).ag k4 λb hb _=>Y,Y,Y,Y,L.ah k4 Y Y Y⟩
end
theorem am9{α β:Type}{f:α->Option β}{l:List α}{x:α}{y:β}(h:l[k]? =some x)(hf:f x=some y):(l.filterMap f)[((l.take k).filterMap f).length]? =some y:=by
 refine Zk ?_;intro hk e;have e2:l.filterMap f=(l.take k).filterMap f++y::(l.drop (k+1)).filterMap f:=Yg;rw[e2,asY (asN _),aug];rfl
theorem MM{α β:Type}{f:α->Option β}{l:List α}{x:α}(h:l[k]? =some x):(l.take (k+1)).filterMap f=(l.take k).filterMap f++(match f x with|some y=>[y]|none=>[]):=by
 rw[asD,h];show((l.take k)++[x]).filterMap f=_;rw[auP,avt,awg];cases f x<;>rfl
theorem wO{α β:Type}{f:α->List β}{m:Nat}:∀{l:List α},(∀x∈l,(f x).length<=m)->(l.flatMap f).length<=l.length*m
 |[],_=>by simp
 |a::l,h=>by
  have:=wO (f:=f) (m:=m) (l:=l) λx u=>h x (ast _ u)
  have h1:=h a ass
  rw[ata,asu,as2,aun,Nat.one_mul]
  omega
theorem MN(h:cH d=0){b:BK}:(zr d b).length<=153600:=by
 obtain⟨m1,m2,m3,m4⟩:=jO h;have h1:(zr d b).length<=(List.range d.bn.length).length*d.aR.length:=wO λr _=>Yg;rw[as3] at h1;have u:=atK m3 m2;omega
structure wP (lo:Nat) (w:World) (A:bZ) (n c:Nat) (e:TypeId) (sz:Nat) (cs:aW):Prop where
 own:jH w (.slice A n c) e sz n cs
 new:∀g,A=some (ad g 0)->lo<=g
theorem bu.PB{A:bZ}{e:TypeId}{sz:Nat}(h:bu w0 w A n c e sz cs):wP w0.heap.size w A n c e sz cs:=⟨h.own,h.new⟩
theorem wP.ah{lo:Nat}{w J:World}{D:Nat->Prop}{A:bZ}{n c:Nat}{e:TypeId}{sz:Nat}{cs:aW}(h:wP lo w A n c e sz cs)(k:aj D w J)(O:∀g,A=aL g->D g):wP lo J A n c e sz cs:=
 ⟨h.own.ah k (λg z=>by
  cases M:A with
  |none=>rw[M] at z;cases z
  |some a=>
   rcases h.own.form with⟨u,_⟩|⟨V,cap,u,_⟩
   .rw[M] at u;cases u
   .injection u with u;subst u;injection z with z;subst z;exact O _ rfl),h.new⟩
theorem wP.ae{lo:Nat}{A:bZ}{e:TypeId}{sz:Nat}(h:wP lo w A n c e sz cs)(k:ax w u):wP lo u A n c e sz cs:=h.ah k λ_ _=>Yt
theorem wP.cells{lo:Nat}{A:bZ}{sz:Nat}{e:TypeId}(h:wP lo w A n c e sz cs)(z:A=aL b):∃xs,aP w b e xs:=by
 subst z;obtain⟨rest,u,-⟩:=jH.aS h.own;exact⟨_,u⟩
section
variable {D D':Nat->Prop} {w:World} {A:Option Addr} {n c:Nat}
theorem Sp{u:aW}(hd:iG D w u d):aK prog 314 #[.agg u.toArray,aB A n c,iv aH,iv aN] w (λv M=>∃b1 X W V,v=.func (.func 369) #[] #[ptr b1,ptr X,ptr W,ptr V]/\ax w M/\aP M b1 31 u/\aP M X 32 [aB A n c]/\aP M W 3 [iv aH]/\aP M V 3 [iv aN]/\w.heap.size<=b1/\w.heap.size<=X/\w.heap.size<=W/\w.heap.size<=V):=by
 obtain⟨A1,n1,c1,A2,n2,c2,A3,n3,c3,A4,n4,c4,A5,n5,c5,A6,n6,c6,rfl,-⟩:=hd.ex;refine aF func314 Z<|box λb1 w1 h1=>box λX w2 O=>box λW w3 J=>box λV w4 z=>?_;have e1:=h1.au;have e2:=O.au;have e3:=J.au;have e4:=z.au;have s1:=h1.size;have s2:=O.size;have s3:=J.size;exact aQ _ U ⟨b1,X,W,V,U,h1.ae.trans (O.ae.trans (J.ae.trans z.ae)),h1.aS.ae (O.ae.trans (J.ae.trans z.ae)),O.aS.ae (J.ae.trans z.ae),J.aS.ae z.ae,z.aS,Y,Y,Y,Y⟩
set_option maxRecDepth 4000 in
theorem OO{l b1 b2 b3 b4:Nat}{ay:aW}{xs:List dz}(J:Nat->World->Prop)(hJ:∀k w w',J k w->ax w w'->J k w')(hstep:∀(k:Nat) x u,(vc d xs aH aN)[k]? =some x->J k u->∀A n c,wP w.heap.size u A n c 124 4 ((Hk d xs aH aN).flatMap tm.c)->iQ prog l [.agg (bM x).toArray].toArray (λv w'=>v=.bool true/\J (k+1) w'/\aj D u w'/\wP w.heap.size w' A n c 124 4 ((Hk d xs aH aN).flatMap tm.c)) u)(hD1:D b1)(bo:D b3)(hDD:∀b,D' b->D b)(h1:aP w b1 31 ay)(h2:aP w b2 32 [aB A n c])(h3:aP w b3 3 [iv aH])(h4:aP w b4 3 [iv aN])(hd:iG D' w ay d)(hx:bS oI D' w A n xs)(hn:n<=12)(hok:mr d xs aH aN=0)(h0:J 0 w):aK prog 369 #[.func (.yield l) #[] #[],ptr b1,ptr b2,ptr b3,ptr b4] w (λ_ w'=>J (vc d xs aH aN).length w'):=by
 have hd0:=hd;have V:fS d xs=0:=by
  unfold mr at hok;by_cases q:fS d xs=0
  .exact q
  .rw[asp q] at hok;exact absurd hok q
 obtain⟨hd00,-,-⟩:=rY.1 V;obtain⟨bx,hh2⟩:=eC hd00;have bw:0<=aH/\aH<=d.aG-1:=by
  unfold mr at hok;rw[aso (by simpa using V)] at hok;by_cases q:(dS aH 0 (d.aG-1)&&dS aN 0 1048576)=true
  .rw[asv,bO] at q;exact q.1
  .rw[aso q] at hok;cases hok
 obtain⟨A1,n1,c1,A2,n2,c2,A3,n3,c3,A4,n4,c4,A5,n5,c5,A6,n6,c6,rfl,-,-,-,O,-⟩:=hd.ex;have bq:=O.an;refine aF func369 Z ?_;refine go ?_;refine aJ (Sl hd0 hx hn) ?_;rintro _ w1 ⟨x1,A7,n7,c7,rfl,ak,-⟩;have o1:=ak hok;rw[hok];obtain⟨hs,a6⟩:∃hs,hs=Hk d xs aH aN:=⟨_,U⟩;rw[<-a6] at o1 hstep;have aq:vc d xs aH aN=hs.filterMap (Cw d aH):=by rw[a6];rfl
 have be:hs.length=n7:=by have:=o1.own.an;exact Uf
 have bp:n7<=153600:=by rw[<-be,a6];exact MN hd00
 refine an ?_;refine aM (λk:Nat=>[(21,iv (k:Int))]) (λk u=>k<=n7/\aP u b1 31 [.string d.name,iv d.aG,iv d.cap,iv d.bH,aB A1 n1 c1,aB A2 n2 c2,aB A3 n3 c3,aB A4 n4 c4,aB A5 n5 c5,aB A6 n6 c6]/\aP u b3 3 [iv aH]/\bS xR D' u A4 n4 d.bn/\J ((hs.take k).filterMap (Cw d aH)).length u/\wP w.heap.size u A7 n7 c7 124 4 (hs.flatMap tm.c)) (λk _=>n7-k) 0 ⟨U,Yt⟩ ⟨Y,h1.ae x1,h3.ae x1,O.ae x1,hJ _ _ _ h0 x1,o1.PB⟩ U ?_;rintro G k u ⟨hk,B1,B3,O,hj,o⟩;refine cD (λhlt=>?_) λhge=>?_
 .obtain⟨x,hxk⟩:=gx hs k;obtain⟨g,rfl,bE⟩:∃g,A7=aL g/\bF u g (0+k*4) x.c:=by
   rcases o.own.form with⟨hv,h0⟩|⟨g,cap,hv,-⟩
   .injection hv;omega
   .injection hv with h1 h2 h3;subst h1;obtain⟨rest,hbk,-⟩:=o.own.aS;exact⟨g,U,cZ (K:=4) (λ_=>rfl) hbk hxk⟩
  have b0:x∈Hk d xs aH aN:=by rw[<-a6];exact asq hxk
  obtain⟨bt,br,hx3,y0,a7,hk1,hrk⟩:=GJ V b0;obtain⟨bb,oo,cs,y,rfl,hy,-,-,bk,rfl⟩:=O.au (show x.right.toNat<n4 from Y);obtain rfl:y0=y:=by rw[a7] at hy;injection hy
  have af:=abO a7;have av:=qx hd00 (asq a7);have bA:=av.2.2.1;refine go ?_;refine alloc λb9 u1 a1=>?_;refine fg a1.aS λu2 B9 k2 z2=>?_;have e9:=a1.au;have sa:=a1.size;have xu2:=a1.ae.ag k2 λb hb _ e=>Y;have a8:=B1.ae xu2;refine go ?_;refine idx x.right.toNat Y Y ?_;refine fj _ (bk.ah xu2 Yt) U ?_;refine alloc λb10 u3 a3=>?_;refine fg a3.aS λu4 B10 k4 z4=>?_;have bG:=a3.au;have sb:=a3.size;have aa:ax u2 u4:=a3.ae.ag k4 λb hb _ e=>Y;have xu:=xu2.trans aa;have B9:=B9.ae aa;have B3u:=B3.ae xu;have a8:=B1.ae xu;have skip:Cw d aH x=none->k+1<=n7/\aP u4 b1 31 [.string d.name,iv d.aG,iv d.cap,iv d.bH,aB A1 n1 c1,aB A2 n2 c2,aB A3 n3 c3,aB (some (ad bb oo)) n4 c4,aB A5 n5 c5,aB A6 n6 c6]/\aP u4 b3 3 [iv aH]/\bS xR D' u4 (some (ad bb oo)) n4 d.bn/\J ((hs.take (k+1)).filterMap (Cw d aH)).length u4/\wP w.heap.size u4 (aL g) n7 c7 124 4 (hs.flatMap tm.c):=λe=>⟨Y,a8,B3u,O.ae xu,by rw[MM hxk,e,asT];exact hJ _ _ _ hj xu,o.ae xu⟩;have nop:Vw y0 aH=false->Cw d aH x=none:=λe=>by unfold Cw;rw[af,e];rfl
  refine bR (oP [] [] [0,1,2,3,4,5,6,7,8,9,10,11,12,13,14,15,16,17,18,19,20,21]) [] (λz=>ax u4 z) mx Z (.refl _ _) ?_;refine go ?_;refine cD (λq1=>?_) λq1=>?_
  .exact adx
  refine go ?_;refine cD (λq2=>?_) λq2=>?_
  .exact adx
  have hev:y0.every≠0:=by have h2:=av.2.2.2;unfold kindOk at h2;rw[asp hk1] at h2;simp only[asv,bO] at h2;omega
  refine go ?_;refine abg hev ?_;refine go ?_;refine cD (λq3=>?_) λq3=>?_
  .exact adx
  have yes:Cw d aH x=some ⟨x.right,x.aO,aH,x.aC,x.cC⟩:=by unfold Cw Vw;rw[af,asE Y,asp U]
  refine go ?_;refine hY [iv x.right,iv x.aO,iv aH,iv x.aC,iv x.cC] Z ?_;refine eA (hstep _ ⟨x.right,x.aO,aH,x.aC,x.cC⟩ u4 (by rw[aq];exact am9 hxk yes) (hJ _ _ _ hj xu) _ _ _ (o.ae xu)) ?_;rintro _ u6 ⟨rfl,j6,k6,o6⟩;refine go ?_;exact next (k+1) ⟨Yn,Yt⟩ ⟨Y,a8.ah k6 hD1,B3u.ah k6 bo,(O.ae xu).ah k6 λb _ h=>hDD b h,by rw[MM hxk,yes,asu];exact j6,o6⟩ Y
 .have bg:k=hs.length:=Y;rw[bg,auh,<-aq] at hj;exact mD hj
end
def Le(d:aU)(c:Cm):Int:=((wF d (jh d c.aO.toNat).aZ).find? λr=>!tW (kS d.bn c.aH) (c.aO,r)).getD (-1)
def DS(d:aU)(c:Cm):qA:=⟨c,Le d c⟩
def DT(d:aU)(l:List dz)(dq to aN:Int):List qA:=il GO ((qy d l dq aN (rZ dq to)).map (DS d))
theorem OP(z:zV d)(h1:r<d.aD.length)(J: -1<=r):∀q∈wF d r,0<=q/\q<=r:=λq u=>IX z (r.toNat+1) r Y h1 J q (by rw[CN] at u;exact avK.1 u)
theorem Sq{d:aU}(z:zV d){c:Cm}(h1:(jh d c.aO.toNat).aZ<d.aD.length)(O: -1<=(jh d c.aO.toNat).aZ):Le d c<0↔RH d c=true:=by
 unfold Le RH;cases u:(wF d (jh d c.aO.toNat).aZ).find? λr=>!tW (kS d.bn c.aH) (c.aO,r) with
 |none=>
  rw[List.find?_eq_none] at u;rw[asH];refine⟨λ_ r J=>?_,λ_=>Yg⟩;have:=u r J;simpa using this
 |some r=>
  have M:=List.mem_of_find?_eq_some u;have W:=List.find?_some u;have V:=OP z h1 O r M;rw[asH];constructor
  .exact Yg
  .exact Yg
theorem V9{α β:Type}{lt:α->α->Bool}{lt':β->β->Bool}(o:JV lt'){f:α->β}(he:∀x y,lt x y=lt' (f x) (f y))(u:JV lt){l:List α}(hd:fT lt l):(il lt l).map f=il lt' (l.map f):=by
 refine(xZ o ((cP l).map f) ?_).symm;have h:=qt u hd;unfold mH at h|-;rw[atN];exact h.imp λ{x y} h=>by rw[<-he];exact h
theorem Lf{α:Type}{lt:α->α->Bool}(o:JV lt){p:α->Bool}{l:List α}(hd:fT lt l):(il lt l).filter p=il lt (l.filter p):=by
 refine(xZ o ((cP l).filter p) ?_).symm;have h:=qt o hd;unfold mH at h|-;exact h.filter p
theorem GR:fT GO ((qy d l dq aN n).map (DS d)):=by
 have h:=IJ (d:=d) (l:=l) (dq:=dq) (aN:=aN) (n:=n);unfold fT at h|-;rw[atN];exact h
theorem Sr{b:BK}:(zr d b).length<=d.bn.length*d.aR.length:=by
 have h1:(zr d b).length<=(List.range d.bn.length).length*d.aR.length:=wO λr _=>Yg;rwa [as3] at h1
theorem Wa:(vc d l aH aN).length<=d.bn.length*d.aR.length:=atI (List.length_filterMap_le _ _) Sr
theorem MO:(qy d l dq aN n).length<=n*(d.bn.length*d.aR.length):=by
 have h1:(qy d l dq aN n).length<=(List.range n).length*(d.bn.length*d.aR.length):=wO λi _=>Wa;rwa [as3] at h1
theorem E8:qy d l dq aN (n+1)=qy d l dq aN n++vc d l (dq+n) aN:=by
 unfold qy;rw[atn,as7];simp
section
variable {w:World} {A:Option Addr} {n c:Nat}
theorem Ss{x:zC}{z u:Nat}{cm:Cm}(L:wN w x g0 g1 g2)(h1:aP w z 458 [.map (some g0),.map (some g1),.map (some g2)])(W:aP w u 65 (bM cm))(V:0<=x.own r/\x.own r<=1000):aA 316 #[iv r,ptr z,ptr u] w (.bool (!tW x (cm.aO,r))):=by
 refine aF func316 Z<|go<|hY [iv cm.aO,iv r] Z<|dt (V8 L V) (λM q J=>?_) λM q J=>?_
 .exact aQ _ U ⟨by rw[q];rfl,J⟩
 .exact aQ _ U ⟨by rw[q];rfl,J⟩
theorem St{x:zC}{O J:Nat}{cm:Cm}{rs:aX}(L:wN w x g0 g1 g2)(h1:aP w O 458 [.map (some g0),.map (some g1),.map (some g2)])(h2:aP w J 65 (bM cm))(hx:∀r,0<=x.own r/\x.own r<=1000)(o:bu w0 w A n c 3 1 (cJ rs))(hn:n<=1000):aK prog 231 #[aB A n c,.func (.func 316) #[] #[ptr O,ptr J]] w (λv w'=>ax w w'/\((v=iv (-1)/\rs.find? (λr=>!tW x (cm.aO,r))=none)\/∃(k:Nat) (r:Int),v=iv (k:Int)/\rs[k]? =some r/\rs.find? (λr=>!tW x (cm.aO,r))=some r)):=by
 have hl:rs.length=n:=by have:=o.own.an;exact Ud
 apply aF (args:=[aB A n c,.func (.func 316) #[] #[ptr O,ptr J]]) func231 Z;apply an;apply aM (λk:Nat=>[(8,iv (k:Int))]) (λk u=>k<=n/\ax w u/\rs.find? (λr=>!tW x (cm.aO,r))=(rs.drop k).find? (λr=>!tW x (cm.aO,r))) (λk _=>n-k) 0 ⟨U,Yt⟩ ⟨Y,.refl _ _,U⟩ U;rintro G k u ⟨hk,xw,he⟩;refine cD (λhlt=>?_) λhge=>?_
 .obtain⟨r,hr⟩:∃r,rs[k]? =some r:=⟨_,asw Y⟩;have V:rs.drop k=r::rs.drop (k+1):=by rw[atB Y];rw[(asr.1 hr).2]
  rw[V,awE] at he;have o:=o.ag xw;obtain⟨g,rfl,a6⟩:∃g,A=aL g/\u.cell? (ad g (0+k*1))=some (iv r):=by
   rcases o.form with⟨-,h0,-⟩|⟨g,rfl,-⟩
   .omega
   .obtain⟨rest,hbk,-⟩:=o.own.aS;exact⟨g,U,hbk.ai (by rw[show 0+k*1=k from Y];exact mu hr)⟩
  refine go ?_;refine ld _ a6 ?_;refine dt (Ss (L.ae xw) (h1.ae xw) (h2.ae xw) (hx r)) (λw2 q x2=>?_) λw2 q x2=>?_
  .rw[q] at he;exact aQ _ U ⟨xw.trans x2,.inr ⟨k,r,U,hr,he⟩⟩
  .rw[q] at he;refine go ?_;exact next (k+1) ⟨Yn,Yt⟩ ⟨Y,xw.trans x2,he⟩ Y
 .rw[as8 Y] at he;exact aQ _ U ⟨xw,.inl ⟨U,he⟩⟩
end
theorem CO(h:cH d=0){y:zk}(hy:y∈d.aR):0<=y.aZ/\y.aZ<d.aD.length:=by
 have h1:gH d=true:=by unfold cH at h;exact W9
 have h3:=asH.1 (dA.1 h1).2.2.2.1 y hy;unfold nD at h3;simp only[asv] at h3;have:=bO.1 h3.2.1;omega
theorem Marks.XO{lo:Nat}:∀{ds:List Deferred} {w:World},Marks lo ds w->∃u,gU ds w=some u/\aj (λb=>b<lo\/w.heap[b]? ≠some (.deferred (some []))) w u
 |[],w,_=>⟨w,rfl,.refl _ _⟩
 |d::ds,w,⟨⟨b,h1,h2,M,O⟩,h5⟩=>by
  have k:aj (λc=>c≠b) w (w.putObj b (.deferred none)):=aj.putObj w b _
  have h6:Marks lo ds (w.putObj b (.deferred none)):=by
   clear h2
   induction ds with
   |nil=>trivial
   |cons x r V=>
    obtain⟨⟨c,g1,g2,g3,g4⟩,g5⟩:=h5
    have z:c≠b:=λe=>O x ass (e▸g1)
    exact⟨⟨c,g1,g2,(k.aS c (asV.1 g3).1 z).trans g3,g4⟩,V (λy W=>O y (ast _ W)) g5⟩
  obtain⟨u,Z,X⟩:=Marks.XO h6
  refine⟨u,?_,(k.cU λi _ hi e=>hi.elim (λhi=>Y) λhi=>hi (e▸M)).ag X λi J hi=>hi.imp id λhi=>?_⟩
  .unfold gU
   rw[h1]
   simp only[M]
   exact Z
  .rw[k.aS i J λe=>hi (e▸M)]
   exact hi
theorem GU{P:Program}{rs:List ResultVar}{F:Fr}{R:VK}{lo:Nat}{ds:List Deferred}(hm:Marks lo ds w)(h:∀u,aj (λb=>b<lo\/w.heap[b]? ≠some (.deferred (some []))) w u->zf P F u rs [] λvs=>R (FM vs) u):Be P rs F ds R w:=by
 rw[lV];obtain⟨u,h1,z⟩:=hm.XO;exact⟨u,h1,h u z⟩
theorem aP.undef(h:aP w b t cs):w.heap[b]? ≠some (.deferred (some [])):=λe=>by
 have h1:=h;rw[h1] at e;cases e
section
variable {D:Nat->Prop} {w:World} {A:Option Addr} {n c:Nat}
set_option maxRecDepth 8000 in
set_option maxHeartbeats 1000000 in
theorem Wb{cg:aW}{d:aU}{xs:List dz}{dq to aN:Int}(hd:iG (λb=>b<w.heap.size) w cg d)(h:bS oI (λb=>b<w.heap.size) w A n xs)(hn:n<=12)(eh:d.aR.length<=100):aK prog 237 #[.agg cg.toArray,aB A n c,iv dq,iv to,iv aN] w (λv w'=>ax w w'/\∃A' n' c',v=.tuple #[aB A' n' c',iv (jj d xs dq to aN)]/\(jj d xs dq to aN=0->bu w w' A' n' c' 390 6 ((DT d xs dq to aN).flatMap qA.c))):=by
 have hd0:=hd;have hl:=h.an;obtain⟨A1,n1,c1,A2,n2,c2,A3,n3,c3,A4,n4,c4,A5,n5,c5,A6,n6,c6,rfl,-,bI,-,dp,-⟩:=hd.ex;have bE:=dp.an;have fU:=bI.an;refine aF func237 Z<|box λb5 w1 h1=>alloc λb10 w2 h2=>?_;refine ND ?_;intro e1 e2 s1 s2;have B5:=h1.aS.ae h2.ae;have B10:=h2.aS;have x02:=h1.ae.trans h2.ae;refine go<|bW (yk (hd0.ae x02) (h.ae x02)) λw3 x3=>?_;obtain⟨B5,B10⟩:=zQ x3 B5 B10;have x03:=x02.trans x3;have s3:=x3.size;obtain⟨er,her⟩:∃er,er=fS d xs:=⟨_,U⟩;rw[<-her];have bad:∀e:Int,jj d xs dq to aN=e->e≠0->∀w4,aj (λb=>b≠b10) w3 w4->ax w w4/\∃A' n' c',(Value.tuple #[aY,iv e]:Value)=.tuple #[aB A' n' c',iv (jj d xs dq to aN)]/\(jj d xs dq to aN=0->bu w w4 A' n' c' 390 6 ((DT d xs dq to aN).flatMap qA.c)):=λe he h0 w4 k4=>⟨x03.ag k4 λb hb _=>Y,none,0,0,by rw[he],λh=>absurd (he.symm.trans h) h0⟩;refine cN (λq=>?_) λq=>?_
 .refine st1 B10 U λw4 B4 k4=>ret<|da _ (bj (B4.ai U))<|bad er (by unfold jj;rw[<-her,asp q]) q w4 k4
 have ay:fS d xs=0:=Y;have cb:jj d xs dq to aN=if dq<0\/to<dq\/d.aG<=to\/aN<0\/1048576<aN then 1 else if 4096<(to-dq+1)*d.bn.length then 2 else 0:=by unfold jj;rw[aso (by simpa using ay)]
 obtain⟨hd00,-,-⟩:=rY.1 ay;obtain⟨m1,m2,m3,m4⟩:=jO hd00;have hh:=eC hd00;have ht:=kp hd00;have one:dq<0\/to<dq\/d.aG<=to\/aN<0\/1048576<aN->jj d xs dq to aN=1:=λg=>by rw[cb,asp g]
 refine cD (λq1=>?_) λq1=>?_
 .exact YC
 refine cD (λq2=>?_) λq2=>?_
 .exact YC
 refine go<|cD (λq3=>?_) λq3=>?_
 .exact Ub
 refine cD (λq4=>?_) λq4=>?_
 .exact Ub
 refine cD (λq5=>?_) λq5=>?_
 .exact Ub
 have bg:jj d xs dq to aN=if 4096<(to-dq+1)*d.bn.length then 2 else 0:=by rw[cb,aso Y]
 have hmul:0<=(to-dq+1)*(d.bn.length:Int)/\(to-dq+1)*(d.bn.length:Int)<=4096*256:=⟨atq Y Y,avC Y Y Y Y⟩;refine go ?_;refine eD (n:=(to-dq+1)*(n4:Int)) (by rw[<-bE];omega) ?_;refine cD (λq6=>?_) λq6=>?_;all_goals rw[<-bE] at q6
 .refine aph ?_;intro w4 B4 k4;exact bad 2 (by rw[bg,asp q6]) Yd w4 k4
 have ok:jj d xs dq to aN=0:=by rw[bg,aso q6]
 obtain⟨T,hT⟩:∃T:Nat,T=rZ dq to:=⟨_,U⟩;have ep:(T:Int)=to-dq+1:=by unfold rZ at hT;omega
 have bG:T*(d.bn.length*d.aR.length)<=409600:=by
  have h1:T*d.bn.length<=4096:=by
   have h2:((T*d.bn.length:Nat):Int)<=4096:=by rw[at4,ep];omega
   omega
  rw[<-Nat.mul_assoc];exact atK h1 eh
 have ak:∀m,m<=T->(qy d xs dq aN m).length<=409600:=λm hm=>atI MO (atI (Nat.mul_le_mul_right _ hm) bG);refine Xr (λ(i:Nat) (_:Unit)=>[(12,iv (dq+i))]) (λi _ ds u=>i<=T/\aj (λb=>b≠b10) w2 u/\(∃A' n' c',aP u b10 386 [aB A' n' c']/\bu w1 u A' n' c' 390 6 (((qy d xs dq aN i).map (DS d)).flatMap qA.c))/\Marks w2.heap.size ds u) (λi _ _=>T-i) 0 () ⟨congrArg iv Y,Yt⟩ ⟨Y,ax.any x3,⟨none,0,0,B10,bu.nil (h2.ae.trans x3)⟩,Yt⟩ ?_;rintro G i _ ds u ⟨hi,ku,⟨A',n',c',a8,o⟩,hmk⟩;have zu:=ku.size;have aa:=x02.ag ku λb hb _=>Y;have C5:=(h1.aS.ae h2.ae).ah ku Y;have av:((qy d xs dq aN i).map (DS d)).length=n':=by have:=o.own.an;rw[bz (K:=6) λ_=>rfl] at this;omega
 refine cD (λhlt=>?_) λhge=>?_
 .have gp:i<T:=Y;obtain⟨aH,a6⟩:∃aH:Int,aH=dq+i:=⟨_,U⟩;rw[<-a6];have eo:mr d xs aH aN=0:=by unfold mr;rw[aso (by simpa using ay),asp];rw[asv,bO,bO];omega
  refine go ?_;refine aJ (ON (hd0.ae aa) Y) ?_;rintro _ u1 ⟨g0,g1,g2,rfl,x1,cT,cS,cL,L⟩;refine alloc λhG u2 a2=>?_;refine fg a2.aS λu3 b0 k3 fi=>?_;have hC:=a2.au;have bq:ax u u3:=(x1.trans a2.ae).ag k3 λb hb _ e=>by have:=x1.size;omega
  have x13:ax u1 u3:=a2.ae.ag k3 λb hb _ e=>Y;have L:=L.ae x13;have hI:=C5.ae bq;refine go ?_;refine aJ (Sp (hd0.ae (aa.trans bq))) ?_;rintro _ u4 ⟨b1,b2,b3,b4,rfl,x4,D1,D2,D3,D4,gi,gd,gb,ga⟩;have V:=bq.trans x4;have cI:=aa.trans V;have z1:=x1.size;have z2:=a2.size;have z4:=x4.size;have cw:=V.size;have fs:g0<u3.heap.size/\g1<u3.heap.size/\g2<u3.heap.size:=by obtain⟨⟨_,M0,_⟩,⟨_,M1,_⟩,⟨_,M2,_⟩⟩:=L;exact⟨M0.lt,M1.lt,M2.lt⟩
  have L4:=L.ae x4;have b0:=b0.ae x4;have ld1:=D1.lt;have fW:=D3.lt;have gl:=b0.lt;have gm:=B10.lt;refine range (gf:=369) (lb:=#[ptr b1,ptr b2,ptr b3,ptr b4]) U λfn tmps w6 R hR hF df x6 z6 hD6 hl6=>?_;show aK _ _ #[.func (.yield (u4.heap.size+1)) #[] #[],ptr b1,ptr b2,ptr b3,ptr b4] w6 _;have bo:=cI.trans x6;have db:aj (λb=>b≠b10) w2 w6:=(ku.trans (ax.any V)).trans (ax.any x6);have oB:∀g,A'=aL g->g<u.heap.size/\g≠b10:=λg hg=>by
   have hne:g≠b10:=by rintro rfl;obtain⟨ys,hb1⟩:=o.PB.cells hg;have:=(hb1.uniq a8).1;revert this;decide
   rcases o.form with⟨e,-,-⟩|⟨g',e,h1',h2',-⟩
   .rw[e] at hg;cases hg
   .exact Dx
  refine(OO (D:=λb=>b=b1\/b=b3\/b<w.heap.size) (D':=λb=>b<w.heap.size) (λm v=>aj (λx=>x≠b10/\x≠u4.heap.size+1/\A'≠aL x) w6 v/\dc v (u4.heap.size+1) R/\∃A n c,aP v b10 386 [aB A n c]/\bu w1 v A n c 390 6 (((qy d xs dq aN i++(vc d xs aH aN).take m).map (DS d)).flatMap qA.c)/\(∀g,A=aL g->g≠b10/\(A'=aL g\/w6.heap.size<=g))) (λm v v' ⟨k5,l5,A,n,c,q5,o5,nn5⟩ k6=>⟨k5.ag k6 λ_ _ _=>Yt,l5.ah k6 Yt,A,n,c,q5.ae k6,o5.ag k6,nn5⟩) ?_ (.inl U) (.inr (.inl U)) (λb hb=>.inr (.inr hb)) (D1.ae x6) (D2.ae x6) (D3.ae x6) (D4.ae x6) (hd0.ae bo) (h.ae bo) hn eo ⟨.refl _ _,hl6,A',n',c',a8.ae (V.trans x6),?_,λg hg=>⟨(oB g hg).2,.inl hg⟩⟩).mono ?_
  .rintro m cm v hcm ⟨k5,l5,A0,n0,c0,q5,o5,nn5⟩ A8 n8 c8 o8;subst hR;obtain⟨hx,ef,be⟩:=pD (asq hcm);obtain⟨-,ei,-,-⟩:=GJ ay ef;have gr:0<=cm.aO/\cm.aO<d.aR.length:=by rw[be];exact ei
   have en:cm.aH=aH:=by rw[be]
   refine dQ (args:=[.agg (bM cm).toArray]) l5 U rfl hF df ?_;have nn5':∀g,A0=aL g->g≠u4.heap.size+1:=λg hg=>by
    rcases(nn5 g hg).2 with e|e
    .have:=oB g e;omega
    .omega
   have z5:=k5.size;refine alloc λcp v1 a1=>?_;refine fg a1.aS λv2 O k2 eT=>?_;have O:aP v2 cp 65 (bM cm):=O;have h9:=a1.au;have fh:=a1.size;have bp:ax v v2:=a1.ae.ag k2 λb hb _ e=>Y;have eL:=bp.size;refine tN (l5.ah bp Yt) λv6 k6 eS l6=>?_;have kv6:aj (λx=>x≠u4.heap.size+1) v v6:=(ax.any bp).trans k6;have k56:aj (λx=>x≠b10/\x≠u4.heap.size+1/\A'≠aL x) w6 v6:=k5.ag kv6 λ_ _ hh=>hh.2.1;have fa:=k56.size;have q6:=q5.ah kv6 Y;have bk:ax w1 v6:=o5.ae.ag kv6 λb hb _=>Y;have o6:=o5.bY kv6 (λg hg=>nn5' g hg) bk;have cK:wP w6.heap.size v6 A8 n8 c8 124 4 ((Hk d xs aH aN).flatMap tm.c):=o8.ah kv6 λg hg=>by have:=o8.new g hg;omega
   have O:aP v6 cp 65 (bM cm):=O.ah k6 Y;have xwv:ax w v6:=bo.ag k56 λb hb _=>⟨Y,Y,λe=>by have:=o.new b e;omega⟩;have cr:aP v6 b5 31 [.string d.name,iv d.aG,iv d.cap,iv d.bH,aB A1 n1 c1,aB A2 n2 c2,aB A3 n3 c3,aB A4 n4 c4,aB A5 n5 c5,aB A6 n6 c6]:=(C5.ae (V.trans x6)).ah k56 ⟨Y,Y,λe=>by have:=o.new b5 e;omega⟩;have aq:∀g,u.heap.size<=g->A'≠aL g:=λg hg e=>by have:=oB g e;omega
   have L6:=(L4.ae x6).ah k56 ⟨Y,Y,aq _ cT⟩ ⟨Y,Y,aq _ cS⟩ ⟨Y,Y,aq _ cL⟩;have ct:=(b0.ae x6).ah k56 ⟨Y,Y,aq _ Y⟩;refine go ?_;refine hY [iv cm.right,iv cm.aO,iv cm.aH,iv cm.aC,iv cm.cC,iv (-1)] Z ?_;refine alloc λck v7 a7=>?_;refine fg a7.aS λv8 J k8 zs8=>?_;have J:aP v8 ck 390 [iv cm.right,iv cm.aO,iv cm.aH,iv cm.aC,iv cm.cC,iv (-1)]:=J;have gF:=a7.au;have ff:=a7.size;have af:ax v6 v8:=a7.ae.ag k8 λb hb _ e=>Y;obtain⟨O,cr⟩:=zQ af O cr;obtain⟨bb,oo,cs,y,rfl,hy,-,gw,hcc,rfl⟩:=(bI.ae (xwv.trans af)).au (show cm.aO.toNat<n2 from Y);have eg:jh d cm.aO.toNat=y:=jJ hy;refine bR (oP [8] [] [0,1,2,3,4,5,6,7,8,9,10,11,12,13]) [] (λz=>ax v8 z) mx Z (.refl _ _) ?_;refine go ?_;refine idx cm.aO.toNat Y Y ?_;refine bC ?_;refine fu (iv y.aZ) (hcc 1 _ U) Yt (.refl _ _) ?_;have dx:=CO hd00 (asq hy);have fe:=(xwv.trans af).size;refine aJ (OM ((hd0.ae (xwv.trans af)).ar λb _ hb=>Y) hd00 dx) ?_;rintro _ v9 ⟨A9,n9,c9,rfl,o9⟩;have x9:=o9.ae;refine bN x9 ?_;have br:=af.trans x9;obtain⟨O,J⟩:=zQ x9 O J;have hpl:(wF d y.aZ).length=n9:=by have:=o9.own.an;exact Ud
   have ew:((wF d y.aZ).length:Int)<=y.aZ+1:=by rw[CN,aum];exact wM ht (y.aZ.toNat+1) y.aZ Y Y Y
   refine aJ (St (L6.ae br) (ct.ae br) O (λr=>by have:=KN (l:=d.bn) (h:=aH) r d.bn.length (asN _);rw[auh] at this;omega) o9 Y) ?_
   rintro _ v10 ⟨bt,dy⟩;have bx:=br.trans bt;have J:=J.ae bt;have hcut:Le d cm=((wF d y.aZ).find? λr=>!tW (kS d.bn aH) (cm.aO,r)).getD (-1):=by unfold Le;rw[eg,en]
   have hA8:∀g,A8=aL g->A0≠aL g:=λg h1 h2=>by obtain⟨ys,hb1⟩:=cK.cells h1;obtain⟨zs,hb2⟩:=o6.PB.cells h2;have:=(hb1.uniq hb2).1;revert this;decide
   have eb:(qy d xs dq aN i++(vc d xs aH aN).take m).length=n0:=by have:=o6.own.an;rw[bz (K:=6) λ_=>rfl,asz] at this;omega
   have gn:n0<=409600:=by rw[<-eb,asu];have h1:=ak (i+1) Y;rw[E8,<-a6,asu] at h1;have h2:=List.length_take_le' m (vc d xs aH aN);omega
   have htk:(vc d xs aH aN).take (m+1)=(vc d xs aH aN).take m++[cm]:=by rw[asD,hcm];rfl
   rcases dy with⟨rfl,hfi⟩|⟨kk,r,rfl,bw,hfi⟩
   .refine cD (λq=>Y) λ_=>?_;have x6b:=bx;have hB:[iv cm.right,iv cm.aO,iv cm.aH,iv cm.aC,iv cm.cC,iv (-1)]=(DS d cm).c:=Yx
    rw[hB] at J;exact an2
   .refine cD (λ_=>?_) λq=>Y;have bA:=o9.ag bt;obtain⟨g,rfl,ej⟩:∃g,A9=aL g/\v10.cell? (ad g (0+kk*1))=some (iv r):=by
     have ec:=(asr.1 bw).1;rcases bA.form with⟨-,h0,-⟩|⟨g,rfl,-⟩
     .omega
     .obtain⟨rest,hbk,-⟩:=bA.own.aS;exact⟨g,U,hbk.ai (by rw[show 0+kk*1=kk from Y];exact mu bw)⟩
    have ec:=(asr.1 bw).1;refine go ?_;refine ld (iv r) ej ?_;refine go ?_;refine st (v:=iv r) J Yl rfl λv11 J dd et=>?_;have hB:[iv cm.right,iv cm.aO,iv cm.aH,iv cm.aC,iv cm.cC,iv r]=(DS d cm).c:=Yx
    have J:aP v11 ck 390 [iv cm.right,iv cm.aO,iv cm.aH,iv cm.aC,iv cm.cC,iv r]:=J;rw[hB] at J;have x6b:ax v6 v11:=bx.ag dd λb hb _ e=>Y;exact an2
  .rw[atg,asT];exact o.ag (V.trans x6)
  .rintro r v ⟨k5,l5,A0,n0,c0,q5,o5,nn5⟩;subst hR;rw[auh] at o5;have nn5':∀g,A0=aL g->g≠u4.heap.size+1:=λg hg=>by
    rcases(nn5 g hg).2 with e|e
    .have:=oB g e;omega
    .omega
   refine dL _ l5 (by simp) λv6 k6=>?_;have q6:=q5.ah k6 Y;have bk:=o5.ae.ag k6 λb hb _=>Y;have o6:=o5.bY k6 (λg hg=>nn5' g hg) bk;have hm6:=Marks.add hmk (V.trans x6) cw Y hD6;have kk6:=k5.ag k6 λ_ _ hh=>hh.2.1;have hm7:=hm6.ah kk6 λb hb1 hb2 hb3=>⟨Y,λe=>(by
    have h1:=e▸hl6;rw[h1] at hb3;cases hb3),λe=>(by
    obtain⟨cs,hbk⟩:=(o.ag (V.trans x6)).PB.cells e;have h1:=hbk;rw[h1] at hb3;cases hb3)⟩
   refine go ?_;refine Xq (i+1) () ⟨congrArg iv Y,Yt⟩ ⟨Y,db.ag kk6 λb hb hh=>⟨hh,Y,λe=>by have:=o.new b e;omega⟩,⟨A0,n0,c0,q6,?_⟩,hm7⟩ Y
   .rw[E8,<-a6];exact o6
 .obtain rfl:i=T:=Y;have bT:=GR (d:=d) (l:=xs) (dq:=dq) (aN:=aN) (n:=i);have hlen:=ak i (asN _);have hfl:il GO ((qy d xs dq aN i).map (DS d))=DT d xs dq to aN:=by rw[hT];rfl
  rw[asz] at av;refine go ?_;rcases o.form with⟨rfl,rfl,rfl⟩|⟨g,rfl,hg0,hgl,hnc⟩
  .have hx0:=asL av;refine aJ ab9 ?_;rintro _ u2 ⟨rfl,rfl⟩;refine go<|st1 a8 U λu3 B3 k3=>amG (lo:=w2.heap.size) (hmk.ah k3 λb hb1 _ _=>Y) λu4 k4=>?_;have B4:=B3.ah k4 Y;refine da _ (bj (B4.ai U)) ?_;have x4:=(aa.ag k3 λb hb _=>Y).ag k4 λb hb _=>Y;refine⟨x4,none,0,0,by rw[ok];rfl,λ_=>?_⟩;rw[<-hfl,hx0];exact bu.nil x4
  .obtain⟨rest,hbk,hbl,-⟩:=jH.aS o.own;have gq:g≠b10:=by rintro rfl;have:=(hbk.uniq a8).1;revert this;decide
   refine aJ (Sd hbk (by rw[asz];omega) Y bT) ?_;rintro _ u2 ⟨rfl,hb2,k2⟩;rw[hfl] at hb2;have a8:=a8.ah k2 Y;refine go<|st1 a8 U λu3 B3 k3=>?_;have dO:=hmk.ah k2 λb hb1 hb2 hb3 e=>by have h1:=e▸hbk;rw[h1] at hb3;cases hb3
   refine GU (lo:=w2.heap.size) (dO.ah k3 λb hb1 _ _=>Y) λu4 k4=>?_;have hb3:=hb2.ah k3 Y;have hb4:=hb3.ah k4 (.inr hb3.undef);have B4:=B3.ah k4 (.inr B3.undef);refine da _ (bj (B4.ai U)) ?_;have x3:=(aa.ag k2 λb hb _ e=>Y).ag k3 λb hb _=>Y;have x4:=x3.ag k4 λb hb _=>.inl Y;have hfn:(DT d xs dq to aN).length=n':=by rw[<-hfl,(cP _).length_eq,asz,av]
   refine⟨x4,aL g,n',c',by rw[ok];rfl,λ_=>⟨jH.iH hb4 (by rw[bz (K:=6) λ_=>rfl,hfn]) (by rw[asu,bz (K:=6) λ_=>rfl] at hbl|-;rw[hfn];rw[asz,av] at hbl;exact hbl) hnc o.own.cap,x4,λg' hg'=>by injection hg' with hg';injection hg' with hg';omega⟩⟩
theorem Wc{to:Int}(h:jj d l dq to aN=0)(u:d.aR.length<=100):(DT d l dq to aN).length<=409600:=by
 obtain⟨-,h1,-,M⟩:=Cx.1 h;have e:(DT d l dq to aN).length=(qy d l dq aN (rZ dq to)).length:=by unfold DT;rw[(cP _).length_eq,asz]
 rw[e];have J:((rZ dq to:Nat):Int)=to-dq+1:=by unfold rZ;omega
 have z:rZ dq to*d.bn.length<=4096:=Yg;apply atI MO;rw[<-Nat.mul_assoc];exact atK z u
theorem ack{d:aU}{l:List dz}{dq to aN:Int}(h:jj d l dq to aN=0):((DT d l dq to aN).filter λx=>decide (x.aZ<0)).map qA.cm=zD d l dq to aN:=by
 obtain⟨h1,h2,Z,Y⟩:=Cx.1 h;obtain⟨M,-,-⟩:=rY.1 h1;unfold DT zD PE;rw[Lf GP GR,V9 (lt:=GO) BZ (λ_ _=>rfl) GP (avp _ GR),List.filter_map,auo];congr 1;rw[show(qA.cm ∘ DS d)=id from U,List.map_id];refine List.filter_congr λc u=>?_;unfold qy at u;obtain⟨i,-,u⟩:=auF.1 u;obtain⟨x,V,e⟩:=pD u;obtain⟨-,X,-,-⟩:=GJ h1 V;obtain⟨y,J⟩:=gx d.aR x.aO.toNat;have W:=CO M (asq J);have O:jh d c.aO.toNat=y:=by rw[e];exact jJ J
 have:=Sq (kp M) (c:=c) (by rw[O];omega) (by rw[O];omega);show decide (Le d c<0)=RH d c;cases z:RH d c with
 |true=>exact asE (this.2 z)
 |false=>exact asG λh=>by rw[this.1 h] at z;cases z
theorem acm{af:aW}{xs:List dz}{to:Int}(hd:iG (λb=>b<w.heap.size) w af d)(h:bS oI (λb=>b<w.heap.size) w A n xs)(hn:n<=12)(aa:d.aR.length<=100):aK prog 163 #[.agg af.toArray,aB A n c,iv dq,iv to,iv aN] w (λv w'=>ax w w'/\∃A' n' c',v=.tuple #[aB A' n' c',iv (gZ d xs dq to aN)]/\(gZ d xs dq to aN=0->bu w w' A' n' c' 65 5 ((zD d xs dq to aN).flatMap bM))):=by
 have hd0:=hd;obtain⟨A1,n1,c1,A2,n2,c2,A3,n3,c3,A4,n4,c4,A5,n5,c5,A6,n6,c6,rfl,-⟩:=hd.ex;apply aF func163 Z;refine box λb5 w1 h1=>?_;have B5:aP w1 b5 31 [.string d.name,iv d.aG,iv d.cap,iv d.bH,aB A1 n1 c1,aB A2 n2 c2,aB A3 n3 c3,aB A4 n4 c4,aB A5 n5 c5,aB A6 n6 c6]:=h1.aS;refine go ?_;have sz:=h1.ae.size;refine aJ (Wb ((hd0.ae h1.ae).ar λb _ hb=>Y) ((h.ae h1.ae).ar Yd λb _ hb=>Y) hn aa) ?_;rintro _ w2 ⟨x2,A',n',c',rfl,ho⟩;have x02:=h1.ae.trans x2;obtain⟨er,her⟩:∃er,er=jj d xs dq to aN:=⟨_,U⟩;rw[<-her];refine cN (λq=>?_) λq=>?_
 .have e0:gZ d xs dq to aN=er:=by unfold gZ;rw[<-her,asp q]
  exact YV
 have O:jj d xs dq to aN=0:=Y;have o:=(ho O).base h1.ae;have hlen:=Wc O aa;have a7:=ack O;obtain⟨J,aq⟩:∃J,J=DT d xs dq to aN:=⟨_,U⟩;rw[<-aq] at o hlen a7;have hl:J.length=n':=by have:=o.own.an;rw[bz (K:=6) λ_=>rfl] at this;omega
 refine an ?_;refine uk (λ(k:Nat) (B:bZ) (m cm:Nat)=>[(29,iv (k:Int)),(10,aB B m cm)]) (λk B m cm u=>k<=n'/\bu w2 u B m cm 65 5 ((((J.take k).filter λx=>decide (x.aZ<0)).map qA.cm).flatMap bM)/\m=((J.take k).filter λx=>decide (x.aZ<0)).length) (λk _ _ _ _=>n'-k) 0 none 0 0 ⟨U,U,Yt⟩ ⟨Y,bu.nil (.refl _ _),U⟩ U ?_;rintro G k B m cm u ⟨hk,V,hm⟩;refine cD (λhlt=>?_) λhge=>?_
 .obtain⟨f,hf⟩:=gx J k;obtain⟨g,rfl,b0⟩:∃g,A'=aL g/\bF u g (0+k*6) f.c:=by
   rcases(o.ag V.ae).form with⟨-,h0,-⟩|⟨g,rfl,-⟩
   .omega
   .obtain⟨rest,hbk,-⟩:=(o.ag V.ae).own.aS;exact⟨g,U,cZ (K:=6) (λ_=>rfl) hbk hf⟩
  have htk:J.take (k+1)=J.take k++[f]:=by rw[asD,hf];rfl
  refine go ?_;refine alloc λav u1 a1=>?_;refine fg a1.aS λu2 a8 k2 z2=>?_;have a8:aP u2 av 390 f.c:=a8;have be:=a1.au;have xu2:ax u u2:=a1.ae.ag k2 λb hb _ e=>Y;refine go ?_;have ay:((J.take k).filter λx=>decide (x.aZ<0)).length<=k:=atI (auN _ _) (by rw[asF];omega);refine cD (λq2=>?_) λq2=>?_
  .refine go ?_;refine fj (bM f.cm) ((bF.aS a8).JR 0 5) U ?_;refine lit [.agg (bM f.cm).toArray] λgg u3 hq=>?_;refine iI (V.ag (xu2.trans hq.ae)) (hq.src (sz:=5) U) Y λB' e' u4 o4 k4 hA=>?_;refine go ?_;refine qN (k+1) B' (m+1) e' ⟨Yn,U,Yt⟩ ⟨Y,?_,?_⟩ Y
   .rw[htk,atp,asK,as7,atT,asp (asE q2)];exact o4
   .rw[htk,atp,asu,atT,asp (asE q2),hm];rfl
  .refine go ?_;refine qN (k+1) B m cm ⟨Yn,U,Yt⟩ ⟨Y,?_,?_⟩ Y
   .rw[htk,atp,atT,aso (by simpa using q2),awG,asT];exact V.ag xu2
   .exact Yg
 .obtain rfl:k=n':=Y;rw[asx Y,a7] at V;have ak:m=(zD d xs dq to aN).length:=by rw[hm,<-a7,asz,asx Y]
  have a6:gZ d xs dq to aN=if 4096<m then 2 else 0:=by unfold gZ;rw[O,aso λh=>h U,ak];unfold zD;rw[(cP _).length_eq]
  refine an<|cD (λq2=>?_) λq2=>?_
  .have e0:gZ d xs dq to aN=2:=by rw[a6,asp Y]
   exact ret ⟨x02.trans V.ae,none,0,0,by rw[e0];rfl,λh0=>Yg⟩
  .have e0:gZ d xs dq to aN=0:=by rw[a6,aso Y]
   exact ret ⟨x02.trans V.ae,B,m,cm,by rw[e0];rfl,λ_=>V.base x02⟩
end
end
section
variable {P:Program}
abbrev oDg(G c0:Nat)(t tt:TypeId)(p:String)(af:Array Edge):Oper:={dst:=none,op:=.defer {callee:=.value (.func G),args:=#[.tmp c0],argTypes:=#[tt]},type:=t,pos:=p,after:=af,guard:=none}
theorem Su{f:FuncId}{fn:Func}{args:aW}{w:World}{R2:Ending->World->Prop}{x y:Code}{id G c0:Nat}{t O:TypeId}{p:String}{a1:Array Edge}(hf:P.funcs[f]? =some fn)(hb:fn.body=some (.seq x (.seq (.region id #[oDg G c0 t O p a1] false) y)))(hok:(AU fn.ntmps x&&AU fn.ntmps y&&Nat.ble args.length fn.ntmps)=true)(h:V P x (λe F ds w'=>match e with
   | .normal=>ds=[]/\V P y (BH P fn R2) F [{target:=.fn (.func G) #[],args:=#[F c0]}] w'
   |_=>False) (init args) [] w) (w0:World) (hw:z w0=w):CallsIn Fence.wide 0 P f args.toArray w0 R2:=by
 have J:=ft hok
 have hok2:=ft J.1
 have hle:=asB J.2
 subst hw
 refine au5 (F:=Fence.wide) hf hb Yt<|awr (at0 (eP (r:=none) x hok2.1 _ _ [] w0 _ (.inl U) (vV hle) h) λe a w1 hq=>?_)
 obtain⟨F',hg,hk⟩:=hq
 cases e with
 |normal=>
  obtain⟨hd,hk⟩:=hk
  refine awr (wpIn_region ?_)
  have hl:List.range (#[oDg G c0 t O p a1]:Array Oper).size=[0]:=U
  rw[hl]
  refine⟨λ_ _=>Yt,?_⟩
  have e2:((oDg G c0 t O p a1).semAt Fence.wide.round a.eval).run P w1=.ok (.defer {target:=.fn (.func G) #[],args:=#[F' c0]}) w1:=by
   rw[show Fence.wide.round=none from U,awB]
   show(execOp a.eval (oDg G c0 t O p a1)).run P w1=_
   rw[hg.eval]
   show((do pure (.defer (<-resolve (ev F') {callee:=.value (.func G),args:=#[.tmp c0],argTypes:=#[O]} t)):Sem Next)).run P w1=_
   simp[resolve,ev,Deferred.ofValue]
  show Oper.uponIn Fence.wide 0 P (oDg G c0 t O p a1) a _ _ (((oDg G c0 t O p a1).semAt Fence.wide.round a.eval).run P w1)
  rw[e2]
  show y.wpIn Fence.wide 0 P (bodyPostM Fence.wide 0 P fn R2) _ w1
  have hds:=hd
  have hg2:tJ fn.ntmps {a with defers:={target:=.fn (.func G) #[],args:=#[F' c0]}::a.defers} F' [{target:=.fn (.func G) #[],args:=#[F' c0]}]:=⟨hg.1,hg.2.1,by rw[hds]⟩
  exact Yp
 |_=>exact hk.elim
theorem E9{f:FuncId}{fn:Func}{args:aW}{R:Ending->FrameMode->World->Prop}{y:Code}{id d0:Nat}{t1:TypeId}{p1:String}{a1:Array Edge}{u u':FrameMode}{v:Value}(hf:P.funcs[f]? =some fn)(hb:fn.body=some (.seq (.region id #[UY d0 t1 p1 a1] false) y))(hok:(AU fn.ntmps y&&Nat.ble args.length fn.ntmps&&Nat.blt d0 fn.ntmps)=true)(hu:∀(c₀:Frame) (cs:List Frame),c₀.mode=u->(match recoverD (c₀::cs) with|some (x,cs')=>x=v/\cs'={c₀ with mode:=u'}::cs|none=>v=.nilIface/\u'=u))(w0:World)(h:V P y (Xx P fn u' R) (fH (init args) d0 v) [] (z w0)):CallsDIn Fence.wide 0 P f args.toArray u w0 R:=by
 have a6:=ft hok;have hok2:=ft a6.1;have hle:=asB hok2.2;have hd0:d0<fn.ntmps:=asB a6.2;refine callsDIn_of_wpSIn hf hb Yt λc₀ cs O=>?_;have J:=hu c₀ cs O;have hg:tJ fn.ntmps {tmps:=args.toArray++Array.replicate (fn.ntmps-args.toArray.size) undef,defers:=[]} (init args) []:=vV hle;generalize ha:({tmps:=args.toArray++Array.replicate (fn.ntmps-args.toArray.size) undef,defers:=[]}:Act)=a at hg;have a7:tJ fn.ntmps (a.put (some d0) v) (fH (init args) d0 v) []:=hg.put (d:=some d0) (λj hj=>by cases hj;exact hd0) _;have hl:List.range (#[UY d0 t1 p1 a1]:Array Oper).size=[0]:=U;have e1:(execOp a.eval (UY d0 t1 p1 a1)).run P w0=.ok .recover w0:=U;have fin:∀cs',cs'={c₀ with mode:=u'}::cs->y.wpSIn Fence.wide 0 P (bodyPostS P fn c₀ cs R) (a.put (some d0) v) cs' w0:=by rintro _ rfl;refine wpSIn_of_wpIn U (at0 (eP (r:=none) y hok2.1 _ _ [] w0 _ (.inl U) a7 h) λe a' w' hq=>?_);exact aoI
 refine wpSIn_seq (wpSIn_region ?_);rw[hl];refine HU (o:=UY d0 t1 p1 a1) U rfl e1 (λx cs' hr=>?_) λhr=>?_
 .rw[hr] at J;obtain⟨rfl,a8⟩:=J;exact fin _ a8
 .rw[hr] at J;obtain⟨rfl,rfl⟩:=J;exact fin _ (by subst O;rfl)
theorem ana{u:TypeId}{v c:Value}{z:Operand}{K:Value->Prop}{ms:Array (String×TypeId)}(hu:P.underlying t=some (.interface ms))(k:K (.bool false)):AF P .eql t z (.const c) (.iface u v) .nilIface K:=by
 rw[ke];refine cW (λw=>?_) k;have h1:(eqGuard .eql t z (.const c) (.iface u v) .nilIface).run P w=.ok () w:=U;have A:binOp .eql t (.iface u v) .nilIface=(do pure (.bool (<-Op.equal t (.iface u v) .nilIface))):=U;rw[asI,h1,A];simp only[asJ,asI,vW hu,atr]
theorem acn{c:Value}{u:Operand}{K:Value->Prop}{ms:Array (String×TypeId)}(hu:P.underlying t=some (.interface ms))(k:K (.bool true)):AF P .eql t u (.const c) .nilIface .nilIface K:=by
 rw[ke];refine cW (λw=>?_) k;have h1:(eqGuard .eql t u (.const c) .nilIface .nilIface).run P w=.ok () w:=by rw[eqGuard_nil_constR];rfl
 have z:binOp .eql t .nilIface .nilIface=(do pure (.bool (<-Op.equal t .nilIface .nilIface))):=U;rw[asI,h1,z];simp only[asJ,asI,ur hu,atr]
end
section
variable {w:World}
abbrev Sv(e:Int):List PanicEntry:=[{v:=.iface 51 (iv e),recovered:=false}]
theorem Wd{ok:Bool}{e:Int}:uj prog 148 #[.bool ok,iv e] w (λv w'=>v=.tuple #[]/\ok=true/\w'=w) (λch w'=>ok=false/\w'=w/\ch=Sv e):=by
 apply vK func148 Z;exact X9
theorem kL{ok:Bool}{e:Int}{K:VK}{X:XK}(z:ok=true->K (.tuple #[]) w)(u:ok=false->X (Sv e) w):vF prog 148 #[.bool ok,iv e] K X w:=by
 refine rz Wd ?_ ?_
 .exact Yg
 .exact Yg
theorem aco{p:Nat}{e:Int}(O:aP (z w0) p 51 [iv x]):CallsDIn Fence.wide 0 prog 147 #[ptr p] (.panicking (Sv e)) w0 (λV u' J=>V=.returned (.tuple #[])/\u'=.panicking [{v:=.iface 51 (iv e),recovered:=true}]/\aP (z J) p 51 [iv e]/\aj (λb=>b≠p) (z w0) (z J)):=by
 refine E9 (args:=[ptr p]) (d0:=5) (v:=.iface 51 (iv e)) (u':=.panicking [{v:=.iface 51 (iv e),recovered:=true}]) func147 U Z ?_ w0 ?_
 .intro Y cs h;simp[recoverD,h]
 .refine ana u20<|tAs U Z<|st1 O U λX A M=>⟨U,λtmps W _ u=>⟨.tuple #[],results_none U _ _ _,U,U,?_⟩⟩;subst u;exact⟨A,M⟩
theorem We{p:Nat}:CallsDIn Fence.wide 0 prog 147 #[ptr p] .returning w0 (λJ u' A=>J=.returned (.tuple #[])/\u'=.returning/\z A=z w0):=by
 refine E9 (args:=[ptr p]) (d0:=5) (v:=.nilIface) (u':=.returning) func147 U Z ?_ w0 ?_
 .intro O cs h;simp[recoverD,h]
 .refine acn u20<|⟨U,λtmps M _ u=>⟨.tuple #[],results_none U _ _ _,U,U,u⟩⟩
theorem anb(w0:World):(invoke (.fn (.func 147) #[]) #[ptr q]).run prog w0=.ok (.enter 147 #[ptr q]) w0:=(inferInstance:Enters prog 147).h #[ptr q] w0
theorem anc{F:Fr}{R:VK}{tmps:Array Value}(A:∀t,tmps.getD t undef=F t)(J:F 4=ptr q)(u:aP (z w0) q 51 [iv x])(k:R (iv x) (z w0)):LeavesInM Fence.wide 0 prog Tryz.f60 tmps (R2 R) [] .returning w0:=
 jv (a:={tmps:=tmps,defers:=[]}) (R:=R) (λv _ h=>⟨v,rfl,h⟩) A [] w0 (z w0) rfl (by
  show Hx _ _ (F 4) _ _
  rw[J]
  exact da _ (bj (u.ai rfl)) k)
theorem CP{F:Fr}{R:VK}{e:Exit}(he:e=.normal\/e=.ret)(O:F 4=ptr q)(J:aP w q 51 [iv x])(k:R (iv x) w):BH prog Tryz.f60 (R2 R) e F [{target:=.fn (.func 147) #[],args:=#[ptr q]}] w:=by
 intro tmps w0 M hw;subst hw;have:LeavesInM Fence.wide 0 prog Tryz.f60 tmps (R2 R) [{target:=.fn (.func 147) #[],args:=#[ptr q]}] .returning w0:=by refine⟨by simp,.inr ⟨(λh=>Bool.noConfusion h),_,_,147,#[ptr q],U,anb w0,λ_ _=>Yt,We.mono ?_⟩⟩;rintro e u A ⟨rfl,rfl,z⟩;show LeavesInM _ _ _ _ _ _ [] .returning A;exact anc M O (by rw[z];exact J) (by rw[z];exact k)
 rcases he with rfl|rfl
 .exact this
 .exact this
theorem lQ{e:Int}{F:Fr}{R:VK}(V:F 4=ptr q)(M:aP w q 51 [iv x])(k:∀A,aj (λb=>b≠q) w A->R (iv e) A):BH prog Tryz.f60 (R2 R) (.panic (Sv e)) F [{target:=.fn (.func 147) #[],args:=#[ptr q]}] w:=by
 intro tmps w0 O hw;subst hw;refine⟨by simp,.inr ⟨(λh=>Bool.noConfusion h),_,_,147,#[ptr q],U,anb w0,λ_ _=>Yt,(aco M).mono ?_⟩⟩;rintro W u J ⟨rfl,rfl,z,hk⟩;show LeavesInM _ _ _ _ _ _ [] .returning J;exact anc O V z (k _ hk)
end
section
open Classical
theorem fN{x:jd}:kJ d x=true↔dS x.kind 1 4=true/\K7 d x.aO=true/\dS x.dq 0 x.to=true/\x.to<d.aG/\(x.kind=1/\x.n=0\/x.kind≠1/\dS x.n 1 1073741824=true)/\(x.kind<3->x.other=0)/\(¬x.kind<3->K7 d x.other=true/\x.other≠x.aO/\(x.kind=4\/(jh d x.other.toNat).aZ=(jh d x.aO.toNat).aZ)):=by
 unfold kJ;simp only[asv,asy];by_cases h:x.kind<3
 .rw[asp h];simp only[asy];constructor
  .rintro⟨⟨a,b,c,e⟩,f,g⟩;exact⟨a,b,c,e,f,λ_=>g,λq=>absurd h q⟩
  .rintro⟨a,b,c,e,f,g,-⟩;exact⟨⟨a,b,c,e⟩,f,g h⟩
 .rw[aso h];simp only[asv,asy];constructor
  .rintro⟨⟨a,b,c,e⟩,f,⟨g,g2⟩,g3⟩;exact⟨a,b,c,e,f,λq=>absurd q h,λ_=>⟨g,g2,g3⟩⟩
  .rintro⟨a,b,c,e,f,-,g⟩;obtain⟨g1,g2,g3⟩:=g h;exact⟨⟨a,b,c,e⟩,f,⟨g1,g2⟩,g3⟩
instance arK:F4 prog 62:=⟨by kernel_rfl⟩
section
variable {D:Nat->Prop} {w:World} {A:Option Addr} {n c:Nat}
theorem yw{J:aW}{i:Int}(hd:iG D w J d)(Y:aP w b 31 J):aK prog 227 #[iv i,ptr b] w (λv M=>v=.bool (K7 d i)/\M=w):=by
 obtain⟨A1,n1,c1,A2,X,c2,A3,W,c3,A4,V,c4,A5,O,c5,A6,n6,c6,rfl,-,z,-⟩:=hd.ex;have u:=z.an;have hle:=z.le;refine aF func227 Z<|go<|cR vd (λq=>?_) λq=>?_
 .exact aQ (.bool true) U ⟨by unfold K7;rw[u,q],U⟩
 .exact aQ (.bool false) U ⟨by unfold K7;rw[u,q],U⟩
set_option maxRecDepth 4000 in
theorem Sw{af:aW}{x:jd}(hd:iG D w af d):uj prog 150 #[.agg af.toArray,.agg x.c.toArray] w (λv w'=>v=.tuple #[]/\kJ d x=true/\ax w w') (λch w'=>kJ d x=false/\ax w w'/\ch=Sv 530):=by
 have hd0:=hd;obtain⟨A1,n1,c1,A2,n2,c2,A3,n3,c3,A4,n4,c4,A5,n5,c5,A6,n6,c6,rfl,-,O,-⟩:=hd.ex;have ay:=O.an;apply vK func150 Z;have bad:¬(kJ d x=true)->kJ d x=false:=atl.2;refine box λb2 w1 h1=>box λb3 w2 h2=>?_;have B2:=h1.aS.ae h2.ae;have B3:=h2.aS;have x3:=h1.ae.trans h2.ae;have a7:=hd0.ae x3;refine go<|cR vd (λp1=>?_) λp1=>?_;rotate_left
 .refine kL (λh=>Bool.noConfusion h) λ_=>λ_ _=>⟨U,bad λh=>(by have:=fN.1 h;rw[this.1] at p1;cases p1),x3,U⟩
 refine go<|cR (yw a7 B2) (λp2=>?_) λp2=>?_;rotate_left
 .refine kL (λh=>Bool.noConfusion h) λ_=>λ_ _=>⟨U,bad λh=>(by have:=fN.1 h;rw[this.2.1] at p2;cases p2),x3,U⟩
 refine go<|cR vd (λp3=>?_) λp3=>?_;rotate_left
 .refine kL (λh=>Bool.noConfusion h) λ_=>λ_ _=>⟨U,bad λh=>(by have:=fN.1 h;rw[this.2.2.1] at p3;cases p3),x3,U⟩
 refine go<|cD (λp4=>?_) λp4=>?_;rotate_left
 .refine kL (λh=>Bool.noConfusion h) λ_=>λ_ _=>⟨U,bad λh=>(by have:=fN.1 h;exact p4 this.2.2.2.1),x3,U⟩
 refine kL (λ_=>?_) λh=>Bool.noConfusion h;refine go<|cD (λk1=>?_) λk1=>?_
 .refine go<|cD (λk2=>?_) λk2=>?_;rotate_left
  .refine go<|cN (λq=>absurd k1 q) λ_=>?_
   .refine kL (λh=>Bool.noConfusion h) λ_=>λ_ _=>⟨U,bad λh=>(by have:=fN.1 h;rcases this.2.2.2.2.1 with q|q<;>omega),x3,U⟩
  refine kL (λ_=>?_) λh=>Bool.noConfusion h;have p5:x.kind=1/\x.n=0\/x.kind≠1/\dS x.n 1 1073741824=true:=.inl ⟨k1,k2⟩;refine go<|cD (λq3=>?_) λq3=>?_
  .exact aoh
  .refine go<|cR (yw a7 B2) (λp6=>?_) λp6=>?_;rotate_left
   .refine kL (λh=>Bool.noConfusion h) λ_=>λ_ _=>⟨U,bad λh=>(by have:=fN.1 h;rw[(this.2.2.2.2.2.2 q3).1] at p6;cases p6),x3,U⟩
   refine go<|cN (λp7=>?_) λp7=>?_;rotate_left
   .refine kL (λh=>Bool.noConfusion h) λ_=>λ_ _=>⟨U,bad λh=>(by have:=fN.1 h;exact(this.2.2.2.2.2.2 q3).2.1 p7),x3,U⟩
   refine kL (λ_=>?_) λh=>Bool.noConfusion h;refine bR (oP [20] [] [0,1,2,3,4,5,6,7,8,9,10,11,12,13,14,15,16,17,18,19,20]) [] (λz=>ax w2 z) mx Z (.refl _ _)<|go ?_;have io:=bO.1 p6;have aq:=bO.1 p2;obtain⟨bb,oo,cs,y,hA,hy,-,-,hcc,rfl⟩:=(O.ae x3).au (show x.other.toNat<n2 from Y);obtain⟨av,ak,cs',y',J,a6,-,-,V,rfl⟩:=(O.ae x3).au (show x.aO.toNat<n2 from Y);subst hA;injection J with J;injection J with aa a8;subst aa;subst a8;have ey:=jJ hy;have ey':=jJ a6;refine cD (λp8=>?_) λp8=>?_
   .exact Yh
   refine go<|idx x.other.toNat Y Y<|bC<|fu _ (hcc 1 _ U) Yt (.refl _ _)<|bC<|fu _ (B2.ai U) Yt (.refl _ _)<|bC<|fu _ (B3.ai U) Yt (.refl _ _)<|idx x.aO.toNat Y Y<|bC<|fu _ (V 1 _ U) Yt (.refl _ _)<|cD (λp9=>?_) λp9=>?_
   .exact XZ
   .exact aoB
 .refine go<|cN (λ_=>?_) λq=>absurd q k1;refine go<|cR vd (λk2=>?_) λk2=>?_;rotate_left
  .refine kL (λh=>Bool.noConfusion h) λ_=>λ_ _=>⟨U,bad λh=>(by have:=fN.1 h;exact this.2.2.2.2.1.elim (λq=>k1 q.1) λq=>by rw[q.2] at k2;cases k2),x3,U⟩
  refine kL (λ_=>?_) λh=>Bool.noConfusion h;have p5:x.kind=1/\x.n=0\/x.kind≠1/\dS x.n 1 1073741824=true:=.inr ⟨k1,k2⟩;refine go<|cD (λq3=>?_) λq3=>?_
  .exact aoh
  .refine go ?_;refine cR (yw a7 B2) (λp6=>?_) λp6=>?_;rotate_left
   .refine kL (λh=>Bool.noConfusion h) λ_=>?_;exactλ_ _=>⟨U,bad λh=>(by have:=fN.1 h;rw[(this.2.2.2.2.2.2 q3).1] at p6;cases p6),x3,U⟩
   refine go ?_;refine cN (λp7=>?_) λp7=>?_;rotate_left
   .refine kL (λh=>Bool.noConfusion h) λ_=>?_;exactλ_ _=>⟨U,bad λh=>(by have:=fN.1 h;exact(this.2.2.2.2.2.2 q3).2.1 p7),x3,U⟩
   refine kL (λ_=>?_) λh=>Bool.noConfusion h;refine bR (oP [20] [] [0,1,2,3,4,5,6,7,8,9,10,11,12,13,14,15,16,17,18,19,20]) [] (λz=>ax w2 z) mx Z (.refl _ _) ?_;refine go ?_;have io:=bO.1 p6;have aq:=bO.1 p2;obtain⟨bb,oo,cs,y,hA,hy,-,-,hcc,rfl⟩:=(O.ae x3).au (show x.other.toNat<n2 from Y);obtain⟨av,ak,cs',y',J,a6,-,-,V,rfl⟩:=(O.ae x3).au (show x.aO.toNat<n2 from Y);subst hA;injection J with J;injection J with aa a8;subst aa;subst a8;have ey:=jJ hy;have ey':=jJ a6;refine cD (λp8=>?_) λp8=>?_
   .exact Yh
   refine Zs ?_;refine idx x.other.toNat Y Y ?_;refine bC ?_;refine fu _ (hcc 1 _ U) Yt (.refl _ _) ?_;refine Zs ?_;refine idx x.aO.toNat Y Y ?_;refine bC ?_;refine fu _ (V 1 _ U) Yt (.refl _ _) ?_;refine cD (λp9=>?_) λp9=>?_
   .exact XZ
   .exact aoB
theorem MP{l:List jd}:fC d l=if cH d≠0 then cH d else if 64<l.length then 2 else if lk d (λ_=>false) (-1) (-1) l then 0 else 530:=rfl
set_option maxRecDepth 8000 in
set_option maxHeartbeats 1000000 in
theorem Fa{a7:aW}{xs:List jd}(hd:iG D w a7 d)(h:bS wI D w A n xs):aA 60 #[.agg a7.toArray,aB A n c] w (iv (fC d xs)):=by
 have hd0:=hd;obtain⟨A1,n1,c1,A2,n2,c2,A3,n3,c3,A4,n4,c4,A5,n5,c5,A6,n6,c6,rfl,-⟩:=hd.ex;have hl:=h.an;have hle:=h.le;intro a8 a6;refine Su (args:=[.agg #[.string d.name,iv d.aG,iv d.cap,iv d.bH,aB A1 n1 c1,aB A2 n2 c2,aB A3 n3 c3,aB A4 n4 c4,aB A5 n5 c5,aB A6 n6 c6],aB A n c]) (c0:=4) (w:=w) func60 U Z ?_ a8 a6;refine box λb2 w1 h1=>alloc λb4 w2 h2=>⟨U,?_⟩;have B2:=h1.aS.ae h2.ae;have B4:=h2.aS;have x02:=h1.ae.trans h2.ae;have e1:=h1.au;have e4:=h2.au;have z1:=h1.ae.size;have be:=h1.size;refine fj _ (.aS B2) U<|bW (ko (hd0.ae x02)) λw3 x3=>?_;refine st1 (B4.ae x3) U λw4 B4 k4=>?_;have x04:=(x02.trans x3).ag k4 λb hb _=>Y;have z4:=x04.size;have bk:=x3.size;have bo:=h2.size;have fin:∀{w5:World},ax w4 w5->∀w',aj (λb=>b≠b4) w5 w'->ax w w':=λx5 w' k=>(x04.trans x5).ag k λb hb _=>Y;have B2:=(B2.ae x3).ah k4 Y;obtain⟨er,her⟩:∃er,er=cH d:=⟨_,U⟩;rw[<-her] at B4;refine ld _ (B4.ai U)<|cN (λq=>?_) λq=>?_
 .refine ld _ (B4.ai U)<|st1 B4 U λw5 B5 k5=>CP (R:=λv w'=>v=iv (fC d xs)/\ax w w') (.inr U) U B5 ⟨by rw[MP,<-her,asp q],x04.ag k5 λb hb _=>Y⟩
 have b0:cH d=0:=Y;have hj:fC d xs=if 64<xs.length then 2 else if lk d (λ_=>false) (-1) (-1) xs then 0 else 530:=by rw[MP,aso (by simpa using b0)]
 refine an<|cD (λq2=>?_) λq2=>?_;rotate_left
 .refine kL (λh=>Bool.noConfusion h) λ_=>λF' hF'=>lQ (R:=λv w'=>v=iv (fC d xs)/\ax w w') (hF' 4 U) (B4.ae (.refl _ _)) λw' k=>⟨by rw[hj,asp Y],fin (.refl _ _) w' k⟩
 refine kL (λ_=>?_) λh=>Bool.noConfusion h;have hj2:fC d xs=if lk d (λ_=>false) (-1) (-1) xs then 0 else 530:=by rw[hj,aso Y]
 refine qV λg w5 hg V=>?_;have x5:ax w4 w5:=by rw[V];exact aj.alloc _ _ _
 have M5:fL fY w5 g (λ_=>none):=by rw[V,hg];exact fL.new fY w4
 refine an<|aM (λk:Nat=>[(20,iv (k:Int))]) (λk u=>k<=n/\aj (λb=>b≠g) w5 u/\(∃f o a b,fL fY u g f/\(∀q,(f q).getD (.bool false)=.bool (o q))/\lk d (λ_=>false) (-1) (-1) xs=lk d o a b (xs.drop k)/\(k=0->a= -1/\b= -1)/\(∀k1,k=k1+1->∃y,xs[k1]? =some y/\y.no=a/\y.aH=b))) (λk _=>n-k) 0 ⟨U,Yt⟩ ⟨Y,.refl _ _,_,λ_=>false,-1,-1,M5,λq=>rfl,U,λ_=>⟨U,U⟩,λk1 hk1=>Y⟩ U ?_;rintro G k u ⟨hk,ku,f,o,a,b,M,hf,hi,ak,af⟩;have J:=x5.ag ku λb hb _=>Y;refine cD (λhlt=>?_) λhge=>?_
 .obtain⟨bb,oo,cs,x,rfl,hxk,aq,bw,hcc,rfl⟩:=(h.ae (x04.trans J)).au (show k<n from Y);have hxk':=hxk;refine go ?_;refine alloc λb7 u1 a1=>?_;refine fg a1.aS λu2 B7 k2 bg=>?_;have e7:=a1.au;have xu2:=a1.ae.ag k2 λb hb _ e=>Y;have bA:=(B2.ae J).ae xu2;have x42:=J.trans xu2;have bt:=hcc.ah xu2 Yt;rw[aq] at hi;have aa:lk d o a b (x::xs.drop (k+1))=((dS x.no 0 1048576&&dS x.aH 0 d.aG)&&(decide (a<x.no/\b<=x.aH)&&(if x.fI=0 then kJ d x&&lk d (λq=>if q=x.no+1 then true else o q) x.no x.aH (xs.drop (k+1)) else(o x.fI&&EY x)&&lk d (λq=>if q=x.fI then false else o q) x.no x.aH (xs.drop (k+1))))):=U;rw[aa] at hi;have bad:lk d (λ_=>false) (-1) (-1) xs=false->fC d xs=530:=λe=>by rw[hj2,e];rfl
  have b1:¬(dS x.no 0 1048576=true/\dS x.aH 0 d.aG=true)->fC d xs=530:=λq=>bad (by
   rw[hi];have:(dS x.no 0 1048576&&dS x.aH 0 d.aG)=false:=by rw[atl];intro h;rw[asv] at h;exact q h
   rw[this];rfl)
  refine go ?_;refine cR vd (λp1=>?_) λp1=>?_;rotate_left
  .refine kL (λh=>Bool.noConfusion h) λ_=>?_;exactλF' hF'=>lQ (R:=λv w'=>v=iv (fC d xs)/\ax w w') (hF' 4 U) (B4.ae (x42)) λw' k=>⟨by rw[b1 λq=>by rw[q.1] at p1;cases p1],fin (x42) w' k⟩
  refine go ?_;refine cR vd (λp2=>?_) λp2=>?_;rotate_left
  .refine kL (λh=>Bool.noConfusion h) λ_=>λF' hF'=>lQ (R:=λv w'=>v=iv (fC d xs)/\ax w w') (hF' 4 U) (B4.ae (x42)) λw' k=>⟨by rw[b1 λq=>by rw[q.2] at p2;cases p2],fin (x42) w' k⟩
  refine kL (λ_=>?_) λh=>Bool.noConfusion h;rw[p1,p2,Bool.and_self,aui] at hi;have b2:¬(a<x.no/\b<=x.aH)->fC d xs=530:=λq=>bad (by rw[hi,asG q];rfl);have q1:=bO.1 p1;have q2:=bO.1 p2;refine bR (oP [24] [] [0,1,2,3,4,5,6,7,8,9,10,11,12,13,14,15,16,17,18,19,20,21,22,23,24]) [] (λz=>ax u2 z) mx Z (.refl _ _)<|cD (λhz=>?_) λhz=>?_
  .have hz:k=0:=Y;obtain⟨ea,eb⟩:=ak hz;exact g_4
  .obtain⟨k1,hk1⟩:∃j,k=j+1:=⟨k-1,Y⟩;obtain⟨y,hy,br,bq⟩:=af k1 hk1;obtain⟨bp,op,bx,y',hA,O,-,-,hcp,rfl⟩:=((h.ae (x04.trans x42)).au (k:=k1) Y);obtain rfl:y=y':=by rw[hy] at O;injection O
   injection hA with hA;injection hA with ay av;subst ay;subst av;refine go ?_;refine adJ ?_;refine bC ?_;refine fu _ (hcp 0 _ U) Yt (.refl _ _) ?_;refine cD (λg1=>?_) λg1=>?_;rotate_left
   .exact aoy
   refine go ?_;refine adJ ?_;refine bC ?_;refine fu _ (hcp 1 _ U) Yt (.refl _ _) ?_;refine cD (λg2=>?_) λg2=>?_;rotate_left
   .exact aoy
   exact g_4
 .have hv:lk d (λ_=>false) (-1) (-1) xs=true:=by rw[hi,as8 Y];rfl
  refine st1 (B4.ae J) U λw5 B5 k5=>?_;exact CP (R:=λv w'=>v=iv (fC d xs)/\ax w w') (.inl U) U B5 ⟨by rw[hj2,hv];rfl,(x04.trans J).ag k5 λb hb _=>Y⟩
end
end
end Go.Proofs.YtakcjkbnfegidaaGreat
